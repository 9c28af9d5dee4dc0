import Derived.Test.YtghbjknpffiaiaaGreatMgj
import Derived.Test.YtghbjknpffiaiaaGreatMgf
namespace Go.Proofs.YtghbjknpffiaiaaGreat
open Go.RowKit Wire Ms
set_option linter.unusedVariables false
set_option linter.unusedSimpArgs false
structure NN (m : M) : Prop where
 fuel : 0 ≤ m.fuel
 fn : 0 ≤ m.task.fn
 tfuel : 0 ≤ m.task.fuel
 ents : ∀ e ∈ m.ents, 0 ≤ e.kids ∧ 0 ≤ e.res.err
 codes : ∀ x ∈ m.codes, 0 ≤ x
 res : 0 ≤ m.res.err
 err : 0 ≤ m.err
structure DXw (W : World) (m : M) (v : VS) (w : World) : Prop where
 blk : Blk w W.heap.size 34 (mcells m v)
 row : MR w W.heap.size m v
 bel : Below W.heap.size W w
 le : W.heap.size ≤ w.heap.size
theorem DXw.step {W : World} {m : M} {v : VS} {w w' : World} (x : DXw W m v w) (hb : Below w.heap.size w w') : DXw W m v w' :=
 ⟨x.blk.below hb, x.row.keep fun b o y h1 h2 => Below.cellq hb (by have := x.le; omega) h2, x.bel.trans (hb.mono x.le), Nat.le_trans x.le hb.size⟩
theorem DXw.start {W : World} {m : M} {v : VS} (h : MR W W.heap.size m v) : DXw W m v (W.alloc (.cells (mcells m v) 34)) :=
 have hb : Below W.heap.size W (W.alloc (.cells (mcells m v) 34)) := (Below.refl _ W).alloc (Nat.le_refl _) _
 ⟨Blk.new W _ _, h.below hb, hb, hb.size⟩
def ER (b off i : Nat) (ej : Int) (ep : ByteArray) (ek rv re : Int) (w : World) : Prop :=
 (w.cell? ⟨b, off + i * 5, none⟩ = some (.int .u64 ej) ∧ w.cell? ⟨b, off + i * 5 + 1, none⟩ = some (.string ep) ∧ w.cell? ⟨b, off + i * 5 + 2, none⟩ = some (.int .i64 ek) ∧ w.cell? ⟨b, off + i * 5 + 3, none⟩ = some (.int .i64 rv) ∧ w.cell? ⟨b, off + i * 5 + 4, none⟩ = some (.int .i64 re)) ∧ b < w.heap.size
theorem ER.step {b off i : Nat} {ej : Int} {ep : ByteArray} {ek rv re : Int} {w w' : World} (h : ER b off i ej ep ek rv re w) (hb : Below w.heap.size w w') : ER b off i ej ep ek rv re w' := by
 obtain ⟨⟨h0, h1, h2, h3, h4⟩, hl⟩ := h
 exact ⟨⟨Below.cellq hb hl h0, Below.cellq hb hl h1, Below.cellq hb hl h2, Below.cellq hb hl h3, Below.cellq hb hl h4⟩, Nat.lt_of_lt_of_le hl hb.size⟩
def ifp (m : M) (p : Pt) : Ls := if hasK m.kind p then wp p m else []
theorem wLs_le {α : Type} {w : α → Ls} {l : List α} (h : ∀ x ∈ l, (w x).length ≤ 2100) (hl : l.length ≤ 1000) : (wLs w l).length ≤ 2200000 := by
 unfold wLs
 rw [List.length_append]
 have h1 := wU_len (x := (l.length : Int)) (by unfold U64; omega)
 have e : wU (l.length : Int) = Num.leb l.length := by unfold wU; rw [Int.toNat_natCast]
 rw [e] at h1
 have h2 := wL_le h
 omega
theorem u64nn {x : Int} (h : I64 x) (h0 : 0 ≤ x) : U64 x := by unfold U64; unfold I64 at h; omega
theorem wNm_len {n : Nm} (h : U64 n.job) (hp : n.path.size ≤ 2000) : (wNm n).length ≤ 2020 := by
 unfold wNm; rw [List.length_append]; have := wU_len h; have := wT_len n.path (by omega); omega
theorem wRs_len {r : Rs} (h : I64 r.val) (h2 : I64 r.err) (h0 : 0 ≤ r.err) : (wRs r).length ≤ 20 := by
 unfold wRs; rw [List.length_append]; have := wI_len h; have := wU_len (u64nn h2 h0); omega
theorem wEn_len {e : En} (h : U64 e.nm.job ∧ I64 e.kids ∧ I64 e.res.val ∧ I64 e.res.err) (h0 : 0 ≤ e.kids ∧ 0 ≤ e.res.err) (hp : e.nm.path.size ≤ 2000) : (wEn e).length ≤ 2060 := by
 unfold wEn; rw [List.length_append, List.length_append]; have := wNm_len h.1 hp; have := wU_len (u64nn h.2.1 h0.1); have := wRs_len h.2.2.1 h.2.2.2 h0.2; omega
theorem wp_len {m : M} (t : TyM m) (l : Lite m) (n : NN m) (p : Pt) : (wp p m).length ≤ 4000000 := by
 cases p
 case J => have := wU_len t.job; show (wU m.job).length ≤ _; omega
 case T => have := wT_len m.tok (by have := l.tok; omega); have := l.tok; show (wT m.tok).length ≤ _; omega
 case P => have := wT_len m.prog (by have := l.prog; omega); have := l.prog; show (wT m.prog).length ≤ _; omega
 case I => have := wLs_le (w := wI) (l := m.input) (fun x hx => by have := wI_len (t.input x hx); omega) l.input; show (wLs wI m.input).length ≤ _; omega
 case F => have := wU_len (u64nn t.fuel n.fuel); show (wU m.fuel).length ≤ _; omega
 case K =>
  show (wTk m.task).length ≤ _
  unfold wTk
  simp only [List.length_append]
  have h1 := wT_len m.task.path (by have := l.path; omega)
  have h2 := wU_len (u64nn t.fn n.fn)
  have h3 := wLs_le (w := wI) (l := m.task.args) (fun x hx => by have := wI_len (t.args x hx); omega) l.args
  have h4 := wU_len (u64nn t.tfuel n.tfuel)
  have := l.path
  omega
 case E => have := wU_len t.epoch; show (wU m.epoch).length ≤ _; omega
 case N => have := wLs_le (w := wEn) (l := m.ents) (fun x hx => by have := wEn_len (t.ents x hx) (n.ents x hx) (l.ents.2 x hx); omega) l.ents.1; show (wLs wEn m.ents).length ≤ _; omega
 case H => have := wLs_le (w := wU) (l := m.epochs) (fun x hx => by have := wU_len (t.epochs x hx); omega) l.epochs; show (wLs wU m.epochs).length ≤ _; omega
 case A => have := wLs_le (w := wNm) (l := m.names) (fun x hx => by have := wNm_len (t.names x hx) (l.names.2 x hx); omega) l.names.1; show (wLs wNm m.names).length ≤ _; omega
 case C => have := wLs_le (w := wU) (l := m.codes) (fun x hx => by have := wU_len (u64nn (t.codes x hx) (n.codes x hx)); omega) l.codes; show (wLs wU m.codes).length ≤ _; omega
 case S => have := wU_len (x := m.state) (by have := t.state; unfold U64; omega); show (wU m.state).length ≤ _; omega
 case R => have := wRs_len t.res.1 t.res.2 n.res; show (wRs m.res).length ≤ _; omega
 case X => have := wU_len (u64nn t.err n.err); show (wU m.err).length ≤ _; omega
theorem ifp_len {m : M} (t : TyM m) (l : Lite m) (n : NN m) (p : Pt) : (ifp m p).length ≤ 4000000 := by
 unfold ifp
 split
 ·exact wp_len t l n p
 ·exact Nat.zero_le _
theorem lst_step {α : Type} {w : α → Ls} {acc : Ls} {l : List α} {i : Nat} (h : i < l.length) {x : ByteArray} (hx : x = stL (w l[i])) :
  stL (acc ++ (Num.leb l.length ++ wL w (l.take i))) ++ x = stL (acc ++ (Num.leb l.length ++ wL w (l.take (i + 1)))) := by
 rw [hx, st_app, wL_succ h]; simp only [List.append_assoc]
theorem lst_size {α : Type} {w : α → Ls} {acc : Ls} {l : List α} {i : Nat} (ha : acc.length ≤ 100000000) (h : ∀ x ∈ l, (w x).length ≤ 2100) (hl : l.length ≤ 1000) : (stL (acc ++ (Num.leb l.length ++ wL w (l.take i)))).size ≤ 103000000 := by
 rw [st_size, List.length_append, List.length_append]
 have h1 := wU_len (x := (l.length : Int)) (by unfold U64; omega)
 have e : wU (l.length : Int) = Num.leb l.length := by unfold wU; rw [Int.toNat_natCast]
 rw [e] at h1
 have h2 := wL_le (w := w) (c := 2100) (l := l.take i) (fun x hx => h x (List.mem_of_mem_take hx))
 rw [List.length_take] at h2
 omega
theorem lst_first {α : Type} (w : α → Ls) (acc : Ls) (l : List α) : stL acc ++ Num.lebS (l.length : Int) = stL (acc ++ (Num.leb l.length ++ wL w (l.take 0))) := by
 rw [st_leb, st_app]
 have e : wU (l.length : Int) = Num.leb l.length := by unfold wU; rw [Int.toNat_natCast]
 rw [e]; unfold wL; simp
theorem lst_last {α : Type} (w : α → Ls) (acc : Ls) (l : List α) : stL (acc ++ (Num.leb l.length ++ wL w (l.take l.length))) = stL (acc ++ wLs w l) := by rw [List.take_length]; rfl
def LsR (W : World) (m : M) (v : VS) (acc : Ls) (s : Value) (w : World) : Prop := s = .string (stL acc) ∧ DXw W m v w
set_option maxRecDepth 100000 in
set_option maxHeartbeats 8000000 in
theorem lists26_any {m : M} {W : World} {v : VS} (hv : MR W W.heap.size m v) (t : TyM m) (l : Lite m) (n : NN m) :
  Calls Tryz.prog 48 #[.agg (mcells m v)] W (SB (stL (ifp m .N ++ (ifp m .H ++ (ifp m .A ++ ifp m .C)))) W) := by
 have HD0 := Lib.hid (DXw.start hv)
 obtain ⟨p1, c1, p2, c2, p3, c3, p4, c4, p5, c5, p6, c6, rfl⟩ := hv.vs
 have HT := Lib.hid t
 have HL := Lib.hid l
 have HNN := Lib.hid n
 have HHN := Lib.hid (fun w => (show Calls Tryz.prog 23 #[.int .u8 m.kind, .int .u8 78] w (HaPost (hasK m.kind .N) w) from has26_any t.kind .N w))
 have HHH := Lib.hid (fun w => (show Calls Tryz.prog 23 #[.int .u8 m.kind, .int .u8 72] w (HaPost (hasK m.kind .H) w) from has26_any t.kind .H w))
 have HHA := Lib.hid (fun w => (show Calls Tryz.prog 23 #[.int .u8 m.kind, .int .u8 65] w (HaPost (hasK m.kind .A) w) from has26_any t.kind .A w))
 have HHC := Lib.hid (fun w => (show Calls Tryz.prog 23 #[.int .u8 m.kind, .int .u8 67] w (HaPost (hasK m.kind .C) w) from has26_any t.kind .C w))
 have HUN := Lib.hid (fun w => u26_any (m.ents.length : Int) (by have := l.ents.1; omega) w)
 have HUH := Lib.hid (fun w => u26_any (m.epochs.length : Int) (by have := l.epochs; omega) w)
 have HUA := Lib.hid (fun w => u26_any (m.names.length : Int) (by have := l.names.1; omega) w)
 have HUC := Lib.hid (fun w => u26_any (m.codes.length : Int) (by have := l.codes; omega) w)
 clear hv t l n
 go_enter Tryz.func48, Tryz.ntmps48
 go_upto_region 1 with fail
 generalize W.alloc (.cells (mcells m ⟨.slice p1 m.input.length c1, .slice p2 m.task.args.length c2, .slice p3 m.ents.length c3, .slice p4 m.epochs.length c4, .slice p5 m.names.length c5, .slice p6 m.codes.length c6⟩) 34) = w0 at *
 go_cut [3] (fun s3 wd => LsR W m ⟨.slice p1 m.input.length c1, .slice p2 m.task.args.length c2, .slice p3 m.ents.length c3, .slice p4 m.epochs.length c4, .slice p5 m.names.length c5, .slice p6 m.codes.length c6⟩ ([] : Ls) s3 wd)
 case first =>
  go_wp2_with fail
  go_meet
  exact ⟨rfl, HD0.out⟩
 case rest =>
  clear HD0
  obtain ⟨hs3, hx⟩ := hcut
  obtain ⟨A0, hA⟩ : ∃ A0 : Ls, A0 = ([] : Ls) := ⟨_, rfl⟩
  rw [← hA] at hs3
  subst hs3
  have HA0 := Lib.hid hA
  have HL0 : Hid (A0.length ≤ 0) := Lib.hid (by rw [hA]; exact Nat.le_refl _)
  clear hA
  obtain ⟨w10, hwk⟩ : ∃ w10, w10 = wc := ⟨_, rfl⟩
  subst hwk
  have HD0 := Lib.hid hx
  have y0 : w10.cell? ⟨W.heap.size, 0, none⟩ = some (.int .u8 m.kind) := hx.blk.cell 0
  clear hx
  go_upto_if 10 with (go_at_call 23; go_loud ((with_reducible refine (HHN.out _).mono ?_); rintro e wh ⟨rfl, hbq⟩; have HDX := Lib.hid (HD0.out.step hbq); clear hbq))
  clear HHN
  go_cut [3] (fun s3 wd => LsR W m ⟨.slice p1 m.input.length c1, .slice p2 m.task.args.length c2, .slice p3 m.ents.length c3, .slice p4 m.epochs.length c4, .slice p5 m.names.length c5, .slice p6 m.codes.length c6⟩ (A0 ++ ifp m .N) s3 wd)
  case first =>
   cases hk : hasK m.kind .N with
   | false =>
    have HS : Hid (stL (A0) = stL (A0 ++ ifp m .N)) := Lib.hid (by unfold ifp; rw [hk]; simp)
    clear hk
    generalize stL (A0) = s0 at *
    go_wp2_with fail
    go_meet
    exact ⟨congrArg Value.string HS.out, HDX.out⟩
   | true =>
    have z : wh.cell? ⟨W.heap.size, 11, none⟩ = some (.slice p3 m.ents.length c3) := HDX.out.blk.cell 11
    have HACC : Hid ((A0).length ≤ 100000000) := Lib.hid (by have := HL0.out; omega)
    have hz : (stL (A0)).size + (Num.lebS (m.ents.length : Int)).size ≤ 9223372036854775807 := by rw [st_size]; have := HACC.out; have := lebS_size (x := (m.ents.length : Int)) (by have := HL.out.ents.1; omega); omega
    have HF := Lib.hid (lst_first wEn (A0) m.ents)
    have HIFP : Hid (ifp m .N = wLs wEn m.ents) := Lib.hid (by unfold ifp; rw [hk]; rfl)
    clear hk
    generalize stL (A0) = s0 at *
    generalize Num.lebS (m.ents.length : Int) = sl0 at *
    go_wp2_with (go_at_call 44; go_loud ((with_reducible refine (HUN.out _).mono ?_); rintro e wu ⟨rfl, hbq⟩; have HDU := Lib.hid (HDX.out.step hbq); clear hbq))
    clear z hz HUN
    go_loopw [3, 4] (fun s u wr => ∃ i : Nat, i ≤ m.ents.length ∧ s = .string (stL (A0 ++ (Num.leb m.ents.length ++ wL wEn (m.ents.take i)))) ∧ u = .int .i64 i ∧ DXw W m ⟨.slice p1 m.input.length c1, .slice p2 m.task.args.length c2, .slice p3 m.ents.length c3, .slice p4 m.epochs.length c4, .slice p5 m.names.length c5, .slice p6 m.codes.length c6⟩ wr) (fun s u _ => ((m.ents.length : Int) - intOf u).toNat)
    case atStart => exact ⟨0, Nat.zero_le _, congrArg Value.string HF.out, rfl, HDU.out⟩
    case round =>
     obtain ⟨i, hi, rfl, rfl, hx⟩ := hrel
     have HDX := Lib.hid hx
     have z : wr.cell? ⟨W.heap.size, 11, none⟩ = some (.slice p3 m.ents.length c3) := hx.blk.cell 11
     by_cases hil : i < m.ents.length
     ·have hil' : (i : Int) < (m.ents.length : Int) := by omega
      have hi0 : (0 : Int) ≤ (i : Int) := by omega
      have hrow := hx.row.rn
      obtain ⟨b, off, rfl, hb, hxx⟩ := hrow.ptr hil
      have HE : Hid (wrap64 ((i : Int) + 1) = ((i + 1 : Nat) : Int)) := Lib.hid (wr64 rfl (by have := HL.out.ents.1; omega))
      have hmem := List.getElem_mem hil
      have HSZ := Lib.hid (lst_size (w := wEn) (l := m.ents) (i := i) HACC.out (fun x hx => by have := wEn_len (HT.out.ents x hx) (HNN.out.ents x hx) (HL.out.ents.2 x hx); omega) HL.out.ents.1)
      have HIL := Lib.hid hil
      have HER := Lib.hid (show ER b off i m.ents[i].nm.job m.ents[i].nm.path m.ents[i].kids m.ents[i].res.val m.ents[i].res.err wr from ⟨⟨hxx 0 _ rfl, hxx 1 _ rfl, hxx 2 _ rfl, hxx 3 _ rfl, hxx 4 _ rfl⟩, by have := hx.le; omega⟩)
      have HN := Lib.hid (fun w => name26_any m.ents[i].nm.job m.ents[i].nm.path (HT.out.ents _ hmem).1 (by have := HL.out.ents.2 _ hmem; omega) w)
      have HK := Lib.hid (fun w => u26_any m.ents[i].kids ⟨(HNN.out.ents _ hmem).1, (HT.out.ents _ hmem).2.1.2⟩ w)
      have HR := Lib.hid (fun w => res26_any m.ents[i].res.val m.ents[i].res.err (HT.out.ents _ hmem).2.2.1 ⟨(HNN.out.ents _ hmem).2, (HT.out.ents _ hmem).2.2.2.2⟩ w)
      have HEL := wEn_len (HT.out.ents _ hmem) (HNN.out.ents _ hmem) (HL.out.ents.2 _ hmem)
      have HCAT : Hid (((stL (A0 ++ (Num.leb m.ents.length ++ wL wEn (m.ents.take i))) ++ nmS m.ents[i].nm.job m.ents[i].nm.path) ++ Num.lebS m.ents[i].kids) ++ rsS m.ents[i].res.val m.ents[i].res.err = stL (A0 ++ (Num.leb m.ents.length ++ wL wEn (m.ents.take (i + 1))))) := Lib.hid (by rw [← lst_step (w := wEn) (acc := A0) hil rfl, show wEn m.ents[i] = wNm m.ents[i].nm ++ (wU m.ents[i].kids ++ wRs m.ents[i].res) from rfl, st_nm, st_rs, st_leb, st_app, st_app, st_app, st_app]; simp only [List.append_assoc])
      have hsz3 : (stL (A0 ++ (Num.leb m.ents.length ++ wL wEn (m.ents.take i)))).size + (nmS m.ents[i].nm.job m.ents[i].nm.path).size + (Num.lebS m.ents[i].kids).size + (rsS m.ents[i].res.val m.ents[i].res.err).size ≤ 200000000 := by have h1 := HSZ.out; unfold wEn at HEL; simp only [List.length_append] at HEL; rw [st_nm, st_leb, st_rs, st_size (wNm _), st_size (wU _), st_size (wRs _)]; omega
      clear HEL
      generalize stL (A0 ++ (Num.leb m.ents.length ++ wL wEn (m.ents.take i))) = s0 at *
      generalize m.ents[i].nm.job = ej at *
      generalize m.ents[i].nm.path = ep at *
      generalize m.ents[i].kids = ek at *
      generalize m.ents[i].res.val = rv at *
      generalize m.ents[i].res.err = re at *
      generalize nmS ej ep = sn at *
      generalize Num.lebS ek = sk at *
      generalize rsS rv re = sr at *
      have HZ1 : Hid (s0.size + sn.size ≤ 9223372036854775807) := Lib.hid (by omega)
      have HZ2 : Hid (s0.size + sn.size + sk.size ≤ 9223372036854775807) := Lib.hid (by omega)
      have HZ3 : Hid (s0.size + sn.size + sk.size + sr.size ≤ 9223372036854775807) := Lib.hid (by omega)
      have HIX := Lib.hid (show (0 : Int) ≤ (i : Int) ∧ (i : Int) < (m.ents.length : Int) from ⟨hi0, hil'⟩)
      clear hx hrow hxx hmem HSZ hil hi hsz3
      generalize hne : m.ents.length = ne at *
      clear hne
      have HS : Hid (((s0 ++ sn) ++ sk) ++ sr = _) := HCAT
      go_upto_region 7 with fail
      clear z hi0 hil'
      refine Reg.wp_rely 25 (fun w => DXw W m ⟨.slice p1 m.input.length c1, .slice p2 m.task.args.length c2, .slice (some ⟨b, off, none⟩) ne c3, .slice p4 m.epochs.length c4, .slice p5 m.names.length c5, .slice p6 m.codes.length c6⟩ w ∧ ER b off i ej ep ek rv re w ∧ Below wr.heap.size wr w) (by kernel_rfl) (Reg.relyOk_of (by kernel_rfl)) ⟨HDX.out.step (Below.refl _ wr).drew, HER.out.step (Below.refl _ wr).drew, (Below.refl _ wr).drew⟩ (fun w w' h hI => ⟨hI.1.step h, hI.2.1.step h, hI.2.2.step h⟩) ?_
      refine Reg.rely_plain (.string s0) rfl (fun a w hI hF => by
        have f1 : a.tmps.getD 3 undef = .string s0 := hF 3 (Reg.looksB (by kernel_rfl))
        clear hF hI
        simp only [Array.getD_eq_getD_getElem?] at f1
        simp only [execOp]; go_simp) ?_
      refine Reg.rely_plain (.pointer (some ⟨W.heap.size, 11, none⟩)) rfl (fun a w hI hF => by
        have f1 : a.tmps.getD 1 undef = .pointer (some ⟨W.heap.size, 0, none⟩) := hF 1 (Reg.looksB (by kernel_rfl))
        clear hF hI
        simp only [Array.getD_eq_getD_getElem?] at f1
        simp only [execOp]; go_simp) ?_
      refine Reg.rely_plain (.slice (some ⟨b, off, none⟩) ne c3) rfl (fun a w hI hF => by
        have f1 : a.tmps.getD 25 undef = .pointer (some ⟨W.heap.size, 11, none⟩) := hF 25 (Reg.looksB (by kernel_rfl))
        have hc : w.cell? ⟨W.heap.size, 11, none⟩ = some (.slice (some ⟨b, off, none⟩) ne c3) := hI.1.blk.cell 11
        clear hF hI
        simp only [Array.getD_eq_getD_getElem?] at f1
        simp only [execOp]; go_simp) ?_
      refine Reg.rely_plain (.int .i64 i) rfl (fun a w hI hF => by
        have f1 : a.tmps.getD 4 undef = .int .i64 i := hF 4 (Reg.looksB (by kernel_rfl))
        clear hF hI
        simp only [Array.getD_eq_getD_getElem?] at f1
        simp only [execOp]; go_simp) ?_
      refine Reg.rely_plain (.pointer (some ⟨b, off + i * 5, none⟩)) rfl (fun a w hI hF => by
        have f1 : a.tmps.getD 26 undef = .slice (some ⟨b, off, none⟩) ne c3 := hF 26 (Reg.looksB (by kernel_rfl))
        have f2 : a.tmps.getD 27 undef = .int .i64 i := hF 27 (Reg.looksB (by kernel_rfl))
        obtain ⟨hq1, hq2⟩ := HIX.out
        clear hF hI
        simp only [Array.getD_eq_getD_getElem?] at f1 f2
        simp only [execOp]; go_simp) ?_
      refine Reg.rely_plain (.pointer (some ⟨b, off + i * 5, none⟩)) rfl (fun a w hI hF => by
        have f1 : a.tmps.getD 28 undef = .pointer (some ⟨b, off + i * 5, none⟩) := hF 28 (Reg.looksB (by kernel_rfl))
        clear hF hI
        simp only [Array.getD_eq_getD_getElem?] at f1
        simp only [execOp]; go_simp) ?_
      refine Reg.rely_plain (.agg #[.int .u64 ej, .string ep]) rfl (fun a w hI hF => by
        have f1 : a.tmps.getD 29 undef = .pointer (some ⟨b, off + i * 5, none⟩) := hF 29 (Reg.looksB (by kernel_rfl))
        obtain ⟨⟨k0, k1, k2, k3, k4⟩, k5⟩ := hI.2.1
        clear hF hI
        simp only [Array.getD_eq_getD_getElem?] at f1
        simp only [execOp]; go_simp) ?_
      refine Reg.rely_call0 (Reg.Is (.string sn)) (Reg.stab_is _ _) (fun G hG => by cases hG) rfl (fun a w hI hF => by
        have f1 : a.tmps.getD 30 undef = .agg #[.int .u64 ej, .string ep] := hF 30 (Reg.looksB (by kernel_rfl))
        refine ⟨62, #[.agg #[.int .u64 ej, .string ep]], ?_, (HN.out w).mono fun e w' h => ⟨_, h.1, rfl, h.2⟩⟩
        clear hF hI
        simp only [Array.getD_eq_getD_getElem?] at f1
        simp only [execOp]; go_simp) ?_
      refine Reg.rely_plain (.string (s0 ++ sn)) rfl (fun a w hI hF => by
        have f1 : a.tmps.getD 24 undef = .string s0 := hF 24 (Reg.looksB (by kernel_rfl))
        have f2 : a.tmps.getD 31 undef = .string sn := hF 31 (Reg.looksB (by kernel_rfl))
        have hz := HZ1.out
        clear hF hI
        simp only [Array.getD_eq_getD_getElem?] at f1 f2
        simp only [execOp]; go_simp) ?_
      refine Reg.rely_plain (.pointer (some ⟨W.heap.size, 11, none⟩)) rfl (fun a w hI hF => by
        have f1 : a.tmps.getD 1 undef = .pointer (some ⟨W.heap.size, 0, none⟩) := hF 1 (Reg.looksB (by kernel_rfl))
        clear hF hI
        simp only [Array.getD_eq_getD_getElem?] at f1
        simp only [execOp]; go_simp) ?_
      refine Reg.rely_plain (.slice (some ⟨b, off, none⟩) ne c3) rfl (fun a w hI hF => by
        have f1 : a.tmps.getD 33 undef = .pointer (some ⟨W.heap.size, 11, none⟩) := hF 33 (Reg.looksB (by kernel_rfl))
        have hc : w.cell? ⟨W.heap.size, 11, none⟩ = some (.slice (some ⟨b, off, none⟩) ne c3) := hI.1.blk.cell 11
        clear hF hI
        simp only [Array.getD_eq_getD_getElem?] at f1
        simp only [execOp]; go_simp) ?_
      refine Reg.rely_plain (.int .i64 i) rfl (fun a w hI hF => by
        have f1 : a.tmps.getD 4 undef = .int .i64 i := hF 4 (Reg.looksB (by kernel_rfl))
        clear hF hI
        simp only [Array.getD_eq_getD_getElem?] at f1
        simp only [execOp]; go_simp) ?_
      refine Reg.rely_plain (.pointer (some ⟨b, off + i * 5, none⟩)) rfl (fun a w hI hF => by
        have f1 : a.tmps.getD 34 undef = .slice (some ⟨b, off, none⟩) ne c3 := hF 34 (Reg.looksB (by kernel_rfl))
        have f2 : a.tmps.getD 35 undef = .int .i64 i := hF 35 (Reg.looksB (by kernel_rfl))
        obtain ⟨hq1, hq2⟩ := HIX.out
        clear hF hI
        simp only [Array.getD_eq_getD_getElem?] at f1 f2
        simp only [execOp]; go_simp) ?_
      refine Reg.rely_plain (.pointer (some ⟨b, off + i * 5 + 2, none⟩)) rfl (fun a w hI hF => by
        have f1 : a.tmps.getD 36 undef = .pointer (some ⟨b, off + i * 5, none⟩) := hF 36 (Reg.looksB (by kernel_rfl))
        clear hF hI
        simp only [Array.getD_eq_getD_getElem?] at f1
        simp only [execOp]; go_simp) ?_
      refine Reg.rely_plain (.int .i64 ek) rfl (fun a w hI hF => by
        have f1 : a.tmps.getD 37 undef = .pointer (some ⟨b, off + i * 5 + 2, none⟩) := hF 37 (Reg.looksB (by kernel_rfl))
        obtain ⟨⟨k0, k1, k2, k3, k4⟩, k5⟩ := hI.2.1
        clear hF hI
        simp only [Array.getD_eq_getD_getElem?] at f1
        simp only [execOp]; go_simp) ?_
      refine Reg.rely_call0 (Reg.Is (.string sk)) (Reg.stab_is _ _) (fun G hG => by cases hG) rfl (fun a w hI hF => by
        have f1 : a.tmps.getD 38 undef = .int .i64 ek := hF 38 (Reg.looksB (by kernel_rfl))
        refine ⟨44, #[.int .i64 ek], ?_, (HK.out w).mono fun e w' h => ⟨_, h.1, rfl, h.2⟩⟩
        clear hF hI
        simp only [Array.getD_eq_getD_getElem?] at f1
        simp only [execOp]; go_simp) ?_
      refine Reg.rely_plain (.string ((s0 ++ sn) ++ sk)) rfl (fun a w hI hF => by
        have f1 : a.tmps.getD 32 undef = .string (s0 ++ sn) := hF 32 (Reg.looksB (by kernel_rfl))
        have f2 : a.tmps.getD 39 undef = .string sk := hF 39 (Reg.looksB (by kernel_rfl))
        have hz := HZ2.out
        clear hF hI
        simp only [Array.getD_eq_getD_getElem?] at f1 f2
        simp only [execOp]; go_simp) ?_
      refine Reg.rely_plain (.pointer (some ⟨W.heap.size, 11, none⟩)) rfl (fun a w hI hF => by
        have f1 : a.tmps.getD 1 undef = .pointer (some ⟨W.heap.size, 0, none⟩) := hF 1 (Reg.looksB (by kernel_rfl))
        clear hF hI
        simp only [Array.getD_eq_getD_getElem?] at f1
        simp only [execOp]; go_simp) ?_
      refine Reg.rely_plain (.slice (some ⟨b, off, none⟩) ne c3) rfl (fun a w hI hF => by
        have f1 : a.tmps.getD 41 undef = .pointer (some ⟨W.heap.size, 11, none⟩) := hF 41 (Reg.looksB (by kernel_rfl))
        have hc : w.cell? ⟨W.heap.size, 11, none⟩ = some (.slice (some ⟨b, off, none⟩) ne c3) := hI.1.blk.cell 11
        clear hF hI
        simp only [Array.getD_eq_getD_getElem?] at f1
        simp only [execOp]; go_simp) ?_
      refine Reg.rely_plain (.int .i64 i) rfl (fun a w hI hF => by
        have f1 : a.tmps.getD 4 undef = .int .i64 i := hF 4 (Reg.looksB (by kernel_rfl))
        clear hF hI
        simp only [Array.getD_eq_getD_getElem?] at f1
        simp only [execOp]; go_simp) ?_
      refine Reg.rely_plain (.pointer (some ⟨b, off + i * 5, none⟩)) rfl (fun a w hI hF => by
        have f1 : a.tmps.getD 42 undef = .slice (some ⟨b, off, none⟩) ne c3 := hF 42 (Reg.looksB (by kernel_rfl))
        have f2 : a.tmps.getD 43 undef = .int .i64 i := hF 43 (Reg.looksB (by kernel_rfl))
        obtain ⟨hq1, hq2⟩ := HIX.out
        clear hF hI
        simp only [Array.getD_eq_getD_getElem?] at f1 f2
        simp only [execOp]; go_simp) ?_
      refine Reg.rely_plain (.pointer (some ⟨b, off + i * 5 + 3, none⟩)) rfl (fun a w hI hF => by
        have f1 : a.tmps.getD 44 undef = .pointer (some ⟨b, off + i * 5, none⟩) := hF 44 (Reg.looksB (by kernel_rfl))
        clear hF hI
        simp only [Array.getD_eq_getD_getElem?] at f1
        simp only [execOp]; go_simp) ?_
      refine Reg.rely_plain (.agg #[.int .i64 rv, .int .i64 re]) rfl (fun a w hI hF => by
        have f1 : a.tmps.getD 45 undef = .pointer (some ⟨b, off + i * 5 + 3, none⟩) := hF 45 (Reg.looksB (by kernel_rfl))
        obtain ⟨⟨k0, k1, k2, k3, k4⟩, k5⟩ := hI.2.1
        clear hF hI
        simp only [Array.getD_eq_getD_getElem?] at f1
        simp only [execOp]; go_simp) ?_
      refine Reg.rely_call0 (Reg.Is (.string sr)) (Reg.stab_is _ _) (fun G hG => by cases hG) rfl (fun a w hI hF => by
        have f1 : a.tmps.getD 46 undef = .agg #[.int .i64 rv, .int .i64 re] := hF 46 (Reg.looksB (by kernel_rfl))
        refine ⟨49, #[.agg #[.int .i64 rv, .int .i64 re]], ?_, (HR.out w).mono fun e w' h => ⟨_, h.1, rfl, h.2⟩⟩
        clear hF hI
        simp only [Array.getD_eq_getD_getElem?] at f1
        simp only [execOp]; go_simp) ?_
      refine Reg.rely_plain (.string (((s0 ++ sn) ++ sk) ++ sr)) rfl (fun a w hI hF => by
        have f1 : a.tmps.getD 40 undef = .string ((s0 ++ sn) ++ sk) := hF 40 (Reg.looksB (by kernel_rfl))
        have f2 : a.tmps.getD 47 undef = .string sr := hF 47 (Reg.looksB (by kernel_rfl))
        have hz := HZ3.out
        clear hF hI
        simp only [Array.getD_eq_getD_getElem?] at f1 f2
        simp only [execOp]; go_simp) ?_
      refine Reg.rely_nil ?_
      refine Reg.final_is ?_
      refine Reg.final_is ?_
      refine Reg.final_is ?_
      refine Reg.final_is ?_
      refine Reg.final_is ?_
      refine Reg.final_is ?_
      refine Reg.final_is ?_
      refine Reg.final_is ?_
      refine Reg.final_is ?_
      refine Reg.final_is ?_
      refine Reg.final_is ?_
      refine Reg.final_is ?_
      refine Reg.final_is ?_
      refine Reg.final_is ?_
      refine Reg.final_is ?_
      refine Reg.final_is ?_
      refine Reg.final_is ?_
      refine Reg.final_is ?_
      refine Reg.final_is ?_
      refine Reg.final_is ?_
      refine Reg.final_is ?_
      refine Reg.final_is ?_
      refine Reg.final_is ?_
      refine Reg.final_is ?_
      refine Reg.final_is ?_
      refine Reg.final_nil (fun w9 hF => ?_)
      have HDV := Lib.hid hF.1
      clear hF
      simp only [List.drop_succ_cons, List.drop_zero]
      go_simp
      go_wp2_with fail
      refine Reg.fin (by kernel_rfl) ?_
      go_wp2_with fail
      go_roundw
      case rel => (try rw [HE.out]); exact ⟨i + 1, HIL.out, congrArg Value.string HS.out, rfl, HDV.out⟩
      case measure => (try rw [HE.out]); simp [intOf]; have := HIL.out; omega
     ·have hne : ¬ (i : Int) < (m.ents.length : Int) := by omega
      obtain rfl : i = m.ents.length := by omega
      have HS := Lib.hid (lst_last wEn (A0) m.ents)
      have HS2 : Hid (stL (A0 ++ wLs wEn m.ents) = stL (A0 ++ ifp m .N)) := Lib.hid (by rw [HIFP.out])
      clear hx hil hi
      generalize stL (A0 ++ (Num.leb m.ents.length ++ wL wEn (m.ents.take m.ents.length))) = s0 at *
      go_wp2_with fail
      go_meet
      exact ⟨congrArg Value.string (HS.out.trans HS2.out), HDX.out⟩
  case rest =>
   try clear HD0 HDX
   obtain ⟨hs3, hx⟩ := hcut
   obtain ⟨A1, hA⟩ : ∃ A1 : Ls, A1 = A0 ++ ifp m .N := ⟨_, rfl⟩
   rw [← hA] at hs3
   subst hs3
   have HA1 := Lib.hid hA
   have HL1 : Hid (A1.length ≤ 4000000) := Lib.hid (by rw [hA, List.length_append]; have := HL0.out; have := ifp_len HT.out HL.out HNN.out .N; omega)
   clear hA
   obtain ⟨w11, hwk⟩ : ∃ w11, w11 = wc := ⟨_, rfl⟩
   subst hwk
   have HD0 := Lib.hid hx
   have y0 : w11.cell? ⟨W.heap.size, 0, none⟩ = some (.int .u8 m.kind) := hx.blk.cell 0
   clear hx
   go_upto_if 51 with (go_at_call 23; go_loud ((with_reducible refine (HHH.out _).mono ?_); rintro e wh ⟨rfl, hbq⟩; have HDX := Lib.hid (HD0.out.step hbq); clear hbq))
   clear HHH
   go_cut [3] (fun s3 wd => LsR W m ⟨.slice p1 m.input.length c1, .slice p2 m.task.args.length c2, .slice p3 m.ents.length c3, .slice p4 m.epochs.length c4, .slice p5 m.names.length c5, .slice p6 m.codes.length c6⟩ (A1 ++ ifp m .H) s3 wd)
   case first =>
    cases hk : hasK m.kind .H with
    | false =>
     have HS : Hid (stL (A1) = stL (A1 ++ ifp m .H)) := Lib.hid (by unfold ifp; rw [hk]; simp)
     clear hk
     generalize stL (A1) = s0 at *
     go_wp2_with fail
     go_meet
     exact ⟨congrArg Value.string HS.out, HDX.out⟩
    | true =>
     have z : wh.cell? ⟨W.heap.size, 12, none⟩ = some (.slice p4 m.epochs.length c4) := HDX.out.blk.cell 12
     have HACC : Hid ((A1).length ≤ 100000000) := Lib.hid (by have := HL1.out; omega)
     have hz : (stL (A1)).size + (Num.lebS (m.epochs.length : Int)).size ≤ 9223372036854775807 := by rw [st_size]; have := HACC.out; have := lebS_size (x := (m.epochs.length : Int)) (by have := HL.out.epochs; omega); omega
     have HF := Lib.hid (lst_first wU (A1) m.epochs)
     have HIFP : Hid (ifp m .H = wLs wU m.epochs) := Lib.hid (by unfold ifp; rw [hk]; rfl)
     clear hk
     generalize stL (A1) = s0 at *
     generalize Num.lebS (m.epochs.length : Int) = sl0 at *
     go_wp2_with (go_at_call 44; go_loud ((with_reducible refine (HUH.out _).mono ?_); rintro e wu ⟨rfl, hbq⟩; have HDU := Lib.hid (HDX.out.step hbq); clear hbq))
     clear z hz HUH
     go_loopw [3, 5] (fun s u wr => ∃ i : Nat, i ≤ m.epochs.length ∧ s = .string (stL (A1 ++ (Num.leb m.epochs.length ++ wL wU (m.epochs.take i)))) ∧ u = .int .i64 i ∧ DXw W m ⟨.slice p1 m.input.length c1, .slice p2 m.task.args.length c2, .slice p3 m.ents.length c3, .slice p4 m.epochs.length c4, .slice p5 m.names.length c5, .slice p6 m.codes.length c6⟩ wr) (fun s u _ => ((m.epochs.length : Int) - intOf u).toNat)
     case atStart => exact ⟨0, Nat.zero_le _, congrArg Value.string HF.out, rfl, HDU.out⟩
     case round =>
      obtain ⟨i, hi, rfl, rfl, hx⟩ := hrel
      have HDX := Lib.hid hx
      have z : wr.cell? ⟨W.heap.size, 12, none⟩ = some (.slice p4 m.epochs.length c4) := hx.blk.cell 12
      by_cases hil : i < m.epochs.length
      ·have hil' : (i : Int) < (m.epochs.length : Int) := by omega
       have hi0 : (0 : Int) ≤ (i : Int) := by omega
       have hrow := hx.row.rh
       obtain ⟨b, off, rfl, hb, hxx⟩ := hrow.ptr hil
       have HE : Hid (wrap64 ((i : Int) + 1) = ((i + 1 : Nat) : Int)) := Lib.hid (wr64 rfl (by have := HL.out.epochs; omega))
       have hmem := List.getElem_mem hil
       have HSZ := Lib.hid (lst_size (w := wU) (l := m.epochs) (i := i) HACC.out (fun x hx => by have := wU_len (HT.out.epochs x hx); omega) HL.out.epochs)
       have HIL := Lib.hid hil
       have x0 := hxx 0 _ rfl
       simp only [Nat.mul_one, Nat.add_zero] at x0
       have HC := Lib.hid (fun w => ruint3_any m.epochs[i] (HT.out.epochs _ hmem) w)
       have hz2 : (stL (A1 ++ (Num.leb m.epochs.length ++ wL wU (m.epochs.take i)))).size + (Num.lebS m.epochs[i]).size ≤ 9223372036854775807 := by have := HSZ.out; have h2 := HT.out.epochs _ hmem; have := lebS_size (x := m.epochs[i]) (by unfold U64 at h2; omega); omega
       have HS := Lib.hid (lst_step (w := wU) (acc := A1) hil (st_leb _))
       generalize stL (A1 ++ (Num.leb m.epochs.length ++ wL wU (m.epochs.take i))) = s0 at *
       generalize m.epochs[i] = y at *
       generalize Num.lebS y = s1 at *
       clear hx hrow hxx hmem HSZ hil hi
       go_wp2_with (go_at_call 45; go_loud ((with_reducible refine (HC.out _).mono ?_); rintro e wu ⟨rfl, hbq⟩; have HDV := Lib.hid (HDX.out.step hbq); clear hbq))
       go_roundw
       case rel => (try rw [HE.out]); exact ⟨i + 1, HIL.out, congrArg Value.string HS.out, rfl, HDV.out⟩
       case measure => (try rw [HE.out]); simp [intOf]; have := HIL.out; omega
      ·have hne : ¬ (i : Int) < (m.epochs.length : Int) := by omega
       obtain rfl : i = m.epochs.length := by omega
       have HS := Lib.hid (lst_last wU (A1) m.epochs)
       have HS2 : Hid (stL (A1 ++ wLs wU m.epochs) = stL (A1 ++ ifp m .H)) := Lib.hid (by rw [HIFP.out])
       clear hx hil hi
       generalize stL (A1 ++ (Num.leb m.epochs.length ++ wL wU (m.epochs.take m.epochs.length))) = s0 at *
       go_wp2_with fail
       go_meet
       exact ⟨congrArg Value.string (HS.out.trans HS2.out), HDX.out⟩
   case rest =>
    try clear HD0 HDX
    obtain ⟨hs3, hx⟩ := hcut
    obtain ⟨A2, hA⟩ : ∃ A2 : Ls, A2 = A1 ++ ifp m .H := ⟨_, rfl⟩
    rw [← hA] at hs3
    subst hs3
    have HA2 := Lib.hid hA
    have HL2 : Hid (A2.length ≤ 8000000) := Lib.hid (by rw [hA, List.length_append]; have := HL1.out; have := ifp_len HT.out HL.out HNN.out .H; omega)
    clear hA
    obtain ⟨w12, hwk⟩ : ∃ w12, w12 = wc := ⟨_, rfl⟩
    subst hwk
    have HD0 := Lib.hid hx
    have y0 : w12.cell? ⟨W.heap.size, 0, none⟩ = some (.int .u8 m.kind) := hx.blk.cell 0
    clear hx
    go_upto_if 75 with (go_at_call 23; go_loud ((with_reducible refine (HHA.out _).mono ?_); rintro e wh ⟨rfl, hbq⟩; have HDX := Lib.hid (HD0.out.step hbq); clear hbq))
    clear HHA
    go_cut [3] (fun s3 wd => LsR W m ⟨.slice p1 m.input.length c1, .slice p2 m.task.args.length c2, .slice p3 m.ents.length c3, .slice p4 m.epochs.length c4, .slice p5 m.names.length c5, .slice p6 m.codes.length c6⟩ (A2 ++ ifp m .A) s3 wd)
    case first =>
     cases hk : hasK m.kind .A with
     | false =>
      have HS : Hid (stL (A2) = stL (A2 ++ ifp m .A)) := Lib.hid (by unfold ifp; rw [hk]; simp)
      clear hk
      generalize stL (A2) = s0 at *
      go_wp2_with fail
      go_meet
      exact ⟨congrArg Value.string HS.out, HDX.out⟩
     | true =>
      have z : wh.cell? ⟨W.heap.size, 13, none⟩ = some (.slice p5 m.names.length c5) := HDX.out.blk.cell 13
      have HACC : Hid ((A2).length ≤ 100000000) := Lib.hid (by have := HL2.out; omega)
      have hz : (stL (A2)).size + (Num.lebS (m.names.length : Int)).size ≤ 9223372036854775807 := by rw [st_size]; have := HACC.out; have := lebS_size (x := (m.names.length : Int)) (by have := HL.out.names.1; omega); omega
      have HF := Lib.hid (lst_first wNm (A2) m.names)
      have HIFP : Hid (ifp m .A = wLs wNm m.names) := Lib.hid (by unfold ifp; rw [hk]; rfl)
      clear hk
      generalize stL (A2) = s0 at *
      generalize Num.lebS (m.names.length : Int) = sl0 at *
      go_wp2_with (go_at_call 44; go_loud ((with_reducible refine (HUA.out _).mono ?_); rintro e wu ⟨rfl, hbq⟩; have HDU := Lib.hid (HDX.out.step hbq); clear hbq))
      clear z hz HUA
      go_loopw [3, 6] (fun s u wr => ∃ i : Nat, i ≤ m.names.length ∧ s = .string (stL (A2 ++ (Num.leb m.names.length ++ wL wNm (m.names.take i)))) ∧ u = .int .i64 i ∧ DXw W m ⟨.slice p1 m.input.length c1, .slice p2 m.task.args.length c2, .slice p3 m.ents.length c3, .slice p4 m.epochs.length c4, .slice p5 m.names.length c5, .slice p6 m.codes.length c6⟩ wr) (fun s u _ => ((m.names.length : Int) - intOf u).toNat)
      case atStart => exact ⟨0, Nat.zero_le _, congrArg Value.string HF.out, rfl, HDU.out⟩
      case round =>
       obtain ⟨i, hi, rfl, rfl, hx⟩ := hrel
       have HDX := Lib.hid hx
       have z : wr.cell? ⟨W.heap.size, 13, none⟩ = some (.slice p5 m.names.length c5) := hx.blk.cell 13
       by_cases hil : i < m.names.length
       ·have hil' : (i : Int) < (m.names.length : Int) := by omega
        have hi0 : (0 : Int) ≤ (i : Int) := by omega
        have hrow := hx.row.rm
        obtain ⟨b, off, rfl, hb, hxx⟩ := hrow.ptr hil
        have HE : Hid (wrap64 ((i : Int) + 1) = ((i + 1 : Nat) : Int)) := Lib.hid (wr64 rfl (by have := HL.out.names.1; omega))
        have hmem := List.getElem_mem hil
        have HSZ := Lib.hid (lst_size (w := wNm) (l := m.names) (i := i) HACC.out (fun x hx => by have := wNm_len (HT.out.names x hx) (HL.out.names.2 x hx); omega) HL.out.names.1)
        have HIL := Lib.hid hil
        have x0 := hxx 0 _ rfl
        have x1 := hxx 1 _ rfl
        simp only [Nat.add_zero] at x0
        have HC := Lib.hid (fun w => name26_any m.names[i].job m.names[i].path (HT.out.names _ hmem) (by have := HL.out.names.2 _ hmem; omega) w)
        have HNL := wNm_len (HT.out.names _ hmem) (HL.out.names.2 _ hmem)
        have hz2 : (stL (A2 ++ (Num.leb m.names.length ++ wL wNm (m.names.take i)))).size + (nmS m.names[i].job m.names[i].path).size ≤ 9223372036854775807 := by rw [st_nm, st_size (wNm _)]; have := HSZ.out; omega
        have HS := Lib.hid (lst_step (w := wNm) (acc := A2) hil (st_nm _))
        clear HNL
        generalize stL (A2 ++ (Num.leb m.names.length ++ wL wNm (m.names.take i))) = s0 at *
        generalize m.names[i].job = ej at *
        generalize m.names[i].path = ep at *
        generalize nmS ej ep = s1 at *
        clear hx hrow hxx hmem HSZ hil hi
        go_wp2_with (go_at_call 62; go_loud ((with_reducible refine (HC.out _).mono ?_); rintro e wu ⟨rfl, hbq⟩; have HDV := Lib.hid (HDX.out.step hbq); clear hbq))
        go_roundw
        case rel => (try rw [HE.out]); exact ⟨i + 1, HIL.out, congrArg Value.string HS.out, rfl, HDV.out⟩
        case measure => (try rw [HE.out]); simp [intOf]; have := HIL.out; omega
       ·have hne : ¬ (i : Int) < (m.names.length : Int) := by omega
        obtain rfl : i = m.names.length := by omega
        have HS := Lib.hid (lst_last wNm (A2) m.names)
        have HS2 : Hid (stL (A2 ++ wLs wNm m.names) = stL (A2 ++ ifp m .A)) := Lib.hid (by rw [HIFP.out])
        clear hx hil hi
        generalize stL (A2 ++ (Num.leb m.names.length ++ wL wNm (m.names.take m.names.length))) = s0 at *
        go_wp2_with fail
        go_meet
        exact ⟨congrArg Value.string (HS.out.trans HS2.out), HDX.out⟩
    case rest =>
     try clear HD0 HDX
     obtain ⟨hs3, hx⟩ := hcut
     obtain ⟨A3, hA⟩ : ∃ A3 : Ls, A3 = A2 ++ ifp m .A := ⟨_, rfl⟩
     rw [← hA] at hs3
     subst hs3
     have HA3 := Lib.hid hA
     have HL3 : Hid (A3.length ≤ 12000000) := Lib.hid (by rw [hA, List.length_append]; have := HL2.out; have := ifp_len HT.out HL.out HNN.out .A; omega)
     clear hA
     obtain ⟨w13, hwk⟩ : ∃ w13, w13 = wc := ⟨_, rfl⟩
     subst hwk
     have HD0 := Lib.hid hx
     have y0 : w13.cell? ⟨W.heap.size, 0, none⟩ = some (.int .u8 m.kind) := hx.blk.cell 0
     clear hx
     go_upto_if 99 with (go_at_call 23; go_loud ((with_reducible refine (HHC.out _).mono ?_); rintro e wh ⟨rfl, hbq⟩; have HDX := Lib.hid (HD0.out.step hbq); clear hbq))
     clear HHC
     go_cut [3] (fun s3 wd => LsR W m ⟨.slice p1 m.input.length c1, .slice p2 m.task.args.length c2, .slice p3 m.ents.length c3, .slice p4 m.epochs.length c4, .slice p5 m.names.length c5, .slice p6 m.codes.length c6⟩ (A3 ++ ifp m .C) s3 wd)
     case first =>
      cases hk : hasK m.kind .C with
      | false =>
       have HS : Hid (stL (A3) = stL (A3 ++ ifp m .C)) := Lib.hid (by unfold ifp; rw [hk]; simp)
       clear hk
       generalize stL (A3) = s0 at *
       go_wp2_with fail
       go_meet
       exact ⟨congrArg Value.string HS.out, HDX.out⟩
      | true =>
       have z : wh.cell? ⟨W.heap.size, 14, none⟩ = some (.slice p6 m.codes.length c6) := HDX.out.blk.cell 14
       have HACC : Hid ((A3).length ≤ 100000000) := Lib.hid (by have := HL3.out; omega)
       have hz : (stL (A3)).size + (Num.lebS (m.codes.length : Int)).size ≤ 9223372036854775807 := by rw [st_size]; have := HACC.out; have := lebS_size (x := (m.codes.length : Int)) (by have := HL.out.codes; omega); omega
       have HF := Lib.hid (lst_first wU (A3) m.codes)
       have HIFP : Hid (ifp m .C = wLs wU m.codes) := Lib.hid (by unfold ifp; rw [hk]; rfl)
       clear hk
       generalize stL (A3) = s0 at *
       generalize Num.lebS (m.codes.length : Int) = sl0 at *
       go_wp2_with (go_at_call 44; go_loud ((with_reducible refine (HUC.out _).mono ?_); rintro e wu ⟨rfl, hbq⟩; have HDU := Lib.hid (HDX.out.step hbq); clear hbq))
       clear z hz HUC
       go_loopw [3, 7] (fun s u wr => ∃ i : Nat, i ≤ m.codes.length ∧ s = .string (stL (A3 ++ (Num.leb m.codes.length ++ wL wU (m.codes.take i)))) ∧ u = .int .i64 i ∧ DXw W m ⟨.slice p1 m.input.length c1, .slice p2 m.task.args.length c2, .slice p3 m.ents.length c3, .slice p4 m.epochs.length c4, .slice p5 m.names.length c5, .slice p6 m.codes.length c6⟩ wr) (fun s u _ => ((m.codes.length : Int) - intOf u).toNat)
       case atStart => exact ⟨0, Nat.zero_le _, congrArg Value.string HF.out, rfl, HDU.out⟩
       case round =>
        obtain ⟨i, hi, rfl, rfl, hx⟩ := hrel
        have HDX := Lib.hid hx
        have z : wr.cell? ⟨W.heap.size, 14, none⟩ = some (.slice p6 m.codes.length c6) := hx.blk.cell 14
        by_cases hil : i < m.codes.length
        ·have hil' : (i : Int) < (m.codes.length : Int) := by omega
         have hi0 : (0 : Int) ≤ (i : Int) := by omega
         have hrow := hx.row.rc
         obtain ⟨b, off, rfl, hb, hxx⟩ := hrow.ptr hil
         have HE : Hid (wrap64 ((i : Int) + 1) = ((i + 1 : Nat) : Int)) := Lib.hid (wr64 rfl (by have := HL.out.codes; omega))
         have hmem := List.getElem_mem hil
         have HSZ := Lib.hid (lst_size (w := wU) (l := m.codes) (i := i) HACC.out (fun x hx => by have := wU_len (u64nn (HT.out.codes x hx) (HNN.out.codes x hx)); omega) HL.out.codes)
         have HIL := Lib.hid hil
         have x0 := hxx 0 _ rfl
         simp only [Nat.mul_one, Nat.add_zero] at x0
         have HC := Lib.hid (fun w => u26_any m.codes[i] ⟨HNN.out.codes _ hmem, (HT.out.codes _ hmem).2⟩ w)
         have hz2 : (stL (A3 ++ (Num.leb m.codes.length ++ wL wU (m.codes.take i)))).size + (Num.lebS m.codes[i]).size ≤ 9223372036854775807 := by have := HSZ.out; have h2 := HT.out.codes _ hmem; have := lebS_size (x := m.codes[i]) (by unfold I64 at h2; omega); omega
         have HS := Lib.hid (lst_step (w := wU) (acc := A3) hil (st_leb _))
         generalize stL (A3 ++ (Num.leb m.codes.length ++ wL wU (m.codes.take i))) = s0 at *
         generalize m.codes[i] = y at *
         generalize Num.lebS y = s1 at *
         clear hx hrow hxx hmem HSZ hil hi
         go_wp2_with (go_at_call 44; go_loud ((with_reducible refine (HC.out _).mono ?_); rintro e wu ⟨rfl, hbq⟩; have HDV := Lib.hid (HDX.out.step hbq); clear hbq))
         go_roundw
         case rel => (try rw [HE.out]); exact ⟨i + 1, HIL.out, congrArg Value.string HS.out, rfl, HDV.out⟩
         case measure => (try rw [HE.out]); simp [intOf]; have := HIL.out; omega
        ·have hne : ¬ (i : Int) < (m.codes.length : Int) := by omega
         obtain rfl : i = m.codes.length := by omega
         have HS := Lib.hid (lst_last wU (A3) m.codes)
         have HS2 : Hid (stL (A3 ++ wLs wU m.codes) = stL (A3 ++ ifp m .C)) := Lib.hid (by rw [HIFP.out])
         clear hx hil hi
         generalize stL (A3 ++ (Num.leb m.codes.length ++ wL wU (m.codes.take m.codes.length))) = s0 at *
         go_wp2_with fail
         go_meet
         exact ⟨congrArg Value.string (HS.out.trans HS2.out), HDX.out⟩
     case rest =>
      try clear HD0 HDX
      obtain ⟨hs3, hx⟩ := hcut
      obtain ⟨A4, hA⟩ : ∃ A4 : Ls, A4 = A3 ++ ifp m .C := ⟨_, rfl⟩
      rw [← hA] at hs3
      subst hs3
      have HA4 := Lib.hid hA
      have HL4 : Hid (A4.length ≤ 16000000) := Lib.hid (by rw [hA, List.length_append]; have := HL3.out; have := ifp_len HT.out HL.out HNN.out .C; omega)
      clear hA
      obtain ⟨w14, hwk⟩ : ∃ w14, w14 = wc := ⟨_, rfl⟩
      subst hwk
      have HD0 := Lib.hid hx
      have y0 : w14.cell? ⟨W.heap.size, 0, none⟩ = some (.int .u8 m.kind) := hx.blk.cell 0
      clear hx
      clear y0
      have HS : Hid (stL A4 = stL (ifp m .N ++ (ifp m .H ++ (ifp m .A ++ ifp m .C)))) := Lib.hid (by rw [HA4.out, HA3.out, HA2.out, HA1.out, HA0.out]; simp only [List.append_assoc, List.nil_append])
      generalize stL A4 = s0 at *
      go_wp2_with fail
      go_ret
      exact ⟨congrArg (fun z => Ending.returned (Value.string z)) HS.out, HD0.out.bel⟩
end Go.Proofs.YtghbjknpffiaiaaGreat
