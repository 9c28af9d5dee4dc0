import Derived.Test.YtghbjknpffiaiaaGreatMtQ
namespace Go.Proofs.YtghbjknpffiaiaaGreat
open Go.RowKit Wire Ms
set_option linter.unusedVariables false
set_option linter.unusedSimpArgs false
def tkB (t : Tk) : Bool := pathB t.path && (!nb t.fn 15 && (decide (t.args.length ≤ 16) && !nb t.fuel 65536))
set_option maxRecDepth 100000 in
set_option maxHeartbeats 8000000 in
theorem task26_any {t : Tk} {W : World} {v : Value} (hv : ∃ p c, v = .slice p t.args.length c) (hp : t.path.size ≤ 1000000) : Calls Tryz.prog 20 #[.agg #[.string t.path, .int .i64 t.fn, v, .int .i64 t.fuel]] W (EqP (tkB t) W) := by
 obtain ⟨p, c, rfl⟩ := hv
 obtain ⟨a6, a7, a8, a9⟩ := t
 dsimp only at *
 have HM := Lib.hid (fun w => rmay12_any a6 (by omega) w)
 have HB := Lib.hid ((Below.refl _ W).alloc (Nat.le_refl _) (.cells #[.string a6, .int .i64 a7, .slice p a8.length c, .int .i64 a9] 25))
 clear hp
 cases hpb : pathB a6 with
 | false =>
  rw [hpb] at HM
  have HN : Hid (tkB ⟨a6, a7, a8, a9⟩ = false) := Lib.hid (by unfold tkB; dsimp only; rw [hpb]; rfl)
  rw [HN.out]
  clear hpb
  go_enter Tryz.func20, Tryz.ntmps20
  go_wp2_with (go_at_call 53; ((with_reducible refine (HM.out _).mono ?_); rintro e w' ⟨rfl, rfl⟩))
  go_ret
  exact ⟨rfl, HB.out⟩
 | true =>
  rw [hpb] at HM
  by_cases h1 : (0 : Int) ≤ a7
  ·by_cases h2 : a7 < 16
   ·have hfn : nb a7 15 = false := nb_false.2 ⟨h1, by omega⟩
    by_cases h3 : ((a8.length : Int) ≤ 16)
    ·by_cases h4 : (0 : Int) ≤ a9
     ·by_cases h5 : a9 ≤ 65536
      ·have HN : Hid (tkB ⟨a6, a7, a8, a9⟩ = true) := Lib.hid (by unfold tkB; dsimp only; rw [hpb, hfn, nb_false.2 ⟨h4, h5⟩, decide_eq_true (show a8.length ≤ 16 by omega)]; rfl)
       rw [HN.out]
       clear hpb hfn
       go_enter Tryz.func20, Tryz.ntmps20
       go_wp2_with (go_at_call 53; ((with_reducible refine (HM.out _).mono ?_); rintro e w' ⟨rfl, rfl⟩))
       go_ret
       exact ⟨rfl, HB.out⟩
      ·have HN : Hid (tkB ⟨a6, a7, a8, a9⟩ = false) := Lib.hid (by unfold tkB nb; dsimp only; rw [decide_eq_true (show (65536 : Int) < a9 by omega)]; simp)
       rw [HN.out]
       clear hpb hfn
       go_enter Tryz.func20, Tryz.ntmps20
       go_wp2_with (go_at_call 53; ((with_reducible refine (HM.out _).mono ?_); rintro e w' ⟨rfl, rfl⟩))
       go_ret
       first | exact ⟨rfl, HB.out⟩ | exact ⟨congrArg (fun z => Ending.returned (Value.bool z)) (decide_eq_false (by omega)), HB.out⟩
     ·have HN : Hid (tkB ⟨a6, a7, a8, a9⟩ = false) := Lib.hid (by unfold tkB nb; dsimp only; rw [decide_eq_true (show a9 < 0 by omega)]; simp)
      rw [HN.out]
      clear hpb hfn
      go_enter Tryz.func20, Tryz.ntmps20
      go_wp2_with (go_at_call 53; ((with_reducible refine (HM.out _).mono ?_); rintro e w' ⟨rfl, rfl⟩))
      go_ret
      exact ⟨rfl, HB.out⟩
    ·have HN : Hid (tkB ⟨a6, a7, a8, a9⟩ = false) := Lib.hid (by unfold tkB; dsimp only; rw [decide_eq_false (show ¬ a8.length ≤ 16 by omega)]; simp)
     rw [HN.out]
     clear hpb hfn
     go_enter Tryz.func20, Tryz.ntmps20
     go_wp2_with (go_at_call 53; ((with_reducible refine (HM.out _).mono ?_); rintro e w' ⟨rfl, rfl⟩))
     go_ret
     exact ⟨rfl, HB.out⟩
   ·have HN : Hid (tkB ⟨a6, a7, a8, a9⟩ = false) := Lib.hid (by unfold tkB nb; dsimp only; rw [decide_eq_true (show (15 : Int) < a7 by omega)]; simp)
    rw [HN.out]
    clear hpb
    go_enter Tryz.func20, Tryz.ntmps20
    go_wp2_with (go_at_call 53; ((with_reducible refine (HM.out _).mono ?_); rintro e w' ⟨rfl, rfl⟩))
    go_ret
    exact ⟨rfl, HB.out⟩
  ·have HN : Hid (tkB ⟨a6, a7, a8, a9⟩ = false) := Lib.hid (by unfold tkB nb; dsimp only; rw [decide_eq_true (show a7 < 0 by omega)]; simp)
   rw [HN.out]
   clear hpb
   go_enter Tryz.func20, Tryz.ntmps20
   go_wp2_with (go_at_call 53; ((with_reducible refine (HM.out _).mono ?_); rintro e w' ⟨rfl, rfl⟩))
   go_ret
   exact ⟨rfl, HB.out⟩
def okEB (e : En) : Bool := pathB e.nm.path && (!nb e.kids 16 && resOk e.res)
structure BndOk (m : M) : Prop where
 ents : m.ents.length ≤ 128
 epochs : m.epochs.length ≤ 128
 names : m.names.length ≤ 128
 codes : m.codes.length ≤ 128
 e : ∀ e ∈ m.ents, okEB e = true
 h : ∀ x ∈ m.epochs, x ≤ 281474976710656
 n : ∀ n ∈ m.names, pathB n.path = true
 c : ∀ x ∈ m.codes, nb x 9999 = false
def bndB (m : M) : Bool := bp .N m && (bp .H m && (bp .A m && bp .C m))
theorem bnd_iff (m : M) : bndB m = true ↔ BndOk m := by
 unfold bndB
 show ((decide (m.ents.length ≤ 128) && m.ents.all fun e => pathB e.nm.path && (!nb e.kids 16 && (!nb e.res.err 9999 && resB e.res))) && ((decide (m.epochs.length ≤ 128) && m.epochs.all fun x => decide (x ≤ 281474976710656)) && ((decide (m.names.length ≤ 128) && m.names.all fun n => pathB n.path) && (decide (m.codes.length ≤ 128) && m.codes.all fun x => !nb x 9999)))) = true ↔ _
 simp only [Bool.and_eq_true, decide_eq_true_eq, List.all_eq_true, Bool.not_eq_true']
 constructor
 ·rintro ⟨⟨h1, h2⟩, ⟨h3, h4⟩, ⟨h5, h6⟩, h7, h8⟩
  exact ⟨h1, h3, h5, h7, fun e he => by have := h2 e he; unfold okEB resOk; simp only [Bool.and_eq_true, Bool.not_eq_true']; exact this, h4, h6, h8⟩
 ·rintro ⟨h1, h3, h5, h7, h2, h4, h6, h8⟩
  exact ⟨⟨h1, fun e he => by have := h2 e he; unfold okEB resOk at this; simp only [Bool.and_eq_true, Bool.not_eq_true'] at this; exact this⟩, ⟨h3, h4⟩, ⟨h5, h6⟩, h7, h8⟩
theorem bnd_no {m : M} (h : ¬ BndOk m) : bndB m = false := by
 cases hb : bndB m with
 | false => rfl
 | true => exact absurd ((bnd_iff m).1 hb) h
theorem bnd_ok {m : M} (h : BndOk m) : bndB m = true := (bnd_iff m).2 h
def EP9 (m : M) (W : World) (e : Ending) (w' : World) : Prop := ∃ b : Bool, e = .returned (.bool b) ∧ b = bndB m ∧ Below W.heap.size W w'
theorem take_all9 {α : Type} {p : α → Prop} {l : List α} {i : Nat} (h : ∀ x ∈ l.take i, p x) (hi : i < l.length) (hp : p l[i]) : ∀ x ∈ l.take (i + 1), p x := fun x hx => by
 rw [List.take_succ_eq_append_getElem hi] at hx
 rcases List.mem_append.1 hx with e | e
 ·exact h x e
 ·simp at e; subst e; exact hp
set_option maxRecDepth 100000 in
set_option maxHeartbeats 8000000 in
theorem bounds26_any {m : M} {W : World} {v : VS} (hv : MR W W.heap.size m v) (l : Lite m) (hie : ∀ e ∈ m.ents, I64 e.res.err) : Calls Tryz.prog 19 #[.agg (mcells m v)] W (EP9 m W) := by
 have HD0 := Lib.hid (DXw.start hv)
 have HB := Lib.hid ((Below.refl _ W).alloc (Nat.le_refl _) (.cells (mcells m v) 34))
 have HL := Lib.hid l
 obtain ⟨p1, c1, p2, c2, p3, c3, p4, c4, p5, c5, p6, c6, rfl⟩ := hv.vs
 clear hv l hie
 unfold mcells at HB
 have HDM := HD0
 have hmc : ∀ (f : Array Value → Prop), f (mcells m ⟨.slice p1 m.input.length c1, .slice p2 m.task.args.length c2, .slice p3 m.ents.length c3, .slice p4 m.epochs.length c4, .slice p5 m.names.length c5, .slice p6 m.codes.length c6⟩) → f (mcells m ⟨.slice p1 m.input.length c1, .slice p2 m.task.args.length c2, .slice p3 m.ents.length c3, .slice p4 m.epochs.length c4, .slice p5 m.names.length c5, .slice p6 m.codes.length c6⟩) := fun f h => h
 clear hmc
 by_cases h1 : (128 : Int) < (m.ents.length : Int)
 ·have HNO := Lib.hid (bnd_no (m := m) fun k => by have := k.ents; omega)
  unfold mcells at *
  go_enter Tryz.func19, Tryz.ntmps19
  go_wp2_with fail
  go_ret
  exact ⟨false, rfl, HNO.out.symm, HB.out⟩
 by_cases h2 : (128 : Int) < (m.epochs.length : Int)
 ·have HNO := Lib.hid (bnd_no (m := m) fun k => by have := k.epochs; omega)
  unfold mcells at *
  go_enter Tryz.func19, Tryz.ntmps19
  go_wp2_with fail
  go_ret
  exact ⟨false, rfl, HNO.out.symm, HB.out⟩
 by_cases h3 : (128 : Int) < (m.names.length : Int)
 ·have HNO := Lib.hid (bnd_no (m := m) fun k => by have := k.names; omega)
  unfold mcells at *
  go_enter Tryz.func19, Tryz.ntmps19
  go_wp2_with fail
  go_ret
  exact ⟨false, rfl, HNO.out.symm, HB.out⟩
 by_cases h4 : (128 : Int) < (m.codes.length : Int)
 ·have HNO := Lib.hid (bnd_no (m := m) fun k => by have := k.codes; omega)
  unfold mcells at *
  go_enter Tryz.func19, Tryz.ntmps19
  go_wp2_with fail
  go_ret
  exact ⟨false, rfl, HNO.out.symm, HB.out⟩
 have HLN := Lib.hid (show m.ents.length ≤ 128 ∧ m.epochs.length ≤ 128 ∧ m.names.length ≤ 128 ∧ m.codes.length ≤ 128 by omega)
 clear HB HDM
 go_enter Tryz.func19, Tryz.ntmps19
 go_upto_region 1 with fail
 generalize W.alloc (.cells (mcells m ⟨.slice p1 m.input.length c1, .slice p2 m.task.args.length c2, .slice p3 m.ents.length c3, .slice p4 m.epochs.length c4, .slice p5 m.names.length c5, .slice p6 m.codes.length c6⟩) 34) = w0 at *
 have z11 : w0.cell? ⟨W.heap.size, 11, none⟩ = some (.slice p3 m.ents.length c3) := HD0.out.blk.cell 11
 have z12 : w0.cell? ⟨W.heap.size, 12, none⟩ = some (.slice p4 m.epochs.length c4) := HD0.out.blk.cell 12
 have z13 : w0.cell? ⟨W.heap.size, 13, none⟩ = some (.slice p5 m.names.length c5) := HD0.out.blk.cell 13
 have z14 : w0.cell? ⟨W.heap.size, 14, none⟩ = some (.slice p6 m.codes.length c6) := HD0.out.blk.cell 14
 go_upto_region 3 with fail
 clear h1 h2 h3 h4 z11 z12 z13 z14
 go_wp2_with fail
 go_loopw [3] (fun u wr => ∃ i : Nat, i ≤ m.ents.length ∧ u = .int .i64 i ∧ (∀ e ∈ m.ents.take i, okEB e = true) ∧ DXw W m ⟨.slice p1 m.input.length c1, .slice p2 m.task.args.length c2, .slice p3 m.ents.length c3, .slice p4 m.epochs.length c4, .slice p5 m.names.length c5, .slice p6 m.codes.length c6⟩ wr) (fun u _ => ((m.ents.length : Int) - intOf u).toNat)
 case atStart => exact ⟨0, Nat.zero_le _, rfl, (fun e he => by simp at he), HD0.out⟩
 case round =>
  obtain ⟨i, hi, rfl, hall, hx⟩ := hrel
  have HDX := Lib.hid hx
  have HALL := Lib.hid hall
  clear hall
  have z : wr.cell? ⟨W.heap.size, 11, none⟩ = some (.slice p3 m.ents.length c3) := hx.blk.cell 11
  by_cases hil : i < m.ents.length
  ·have hil' : (i : Int) < (m.ents.length : Int) := by omega
   have hi0 : (0 : Int) ≤ (i : Int) := by omega
   have hrow := hx.row.rn
   obtain ⟨b, off, rfl, hb, hxx⟩ := hrow.ptr hil
   have HE : Hid (wrap64 ((i : Int) + 1) = ((i + 1 : Nat) : Int)) := Lib.hid (wr64 rfl (by have := HLN.out; omega))
   have hmem := List.getElem_mem hil
   have HS := Lib.hid (fun h => take_all9 (p := fun e => okEB e = true) HALL.out hil h)
   have HNO := Lib.hid (fun (h : ¬ okEB m.ents[i] = true) => bnd_no (m := m) fun k => h (k.e _ hmem))
   have HIL := Lib.hid hil
   have x0 := hxx 0 _ rfl
   have x1 := hxx 1 _ rfl
   have x2 := hxx 2 _ rfl
   have x3 := hxx 3 _ rfl
   have x4 := hxx 4 _ rfl
   have HM := Lib.hid (fun w => rmay12_any m.ents[i].nm.path (by have := HL.out.ents.2 _ hmem; omega) w)
   have HR := Lib.hid (fun w => result26_any m.ents[i].res w)
   simp only [Nat.add_zero] at x0
   generalize m.ents[i] = en at *
   clear hx hrow hxx hmem HALL hi hil
   obtain ⟨⟨ej, ep⟩, ek, ⟨rv, re⟩⟩ := en
   dsimp only at x0 x1 x2 x3 x4 HM HR
   go_upto_region 7 with fail
   have HX9 := Lib.hid (HDX.out.step ((Below.refl _ wr).alloc (Nat.le_refl _) (.cells #[.int .u64 ej, .string ep, .int .i64 ek, .int .i64 rv, .int .i64 re] 54)))
   have HE9 := Lib.hid (Blk.new wr 54 #[.int .u64 ej, .string ep, .int .i64 ek, .int .i64 rv, .int .i64 re])
   generalize wr.alloc (.cells #[.int .u64 ej, .string ep, .int .i64 ek, .int .i64 rv, .int .i64 re] 54) = w9 at *
   generalize wr.heap.size = eb at *
   clear x0 x1 x2 x3 x4 z hi0 hil'
   have y1 : w9.cell? ⟨eb, 1, none⟩ = some (.string ep) := HE9.out.cell 1
   have y2 : w9.cell? ⟨eb, 2, none⟩ = some (.int .i64 ek) := HE9.out.cell 2
   have y3 : w9.cell? ⟨eb, 3, none⟩ = some (.int .i64 rv) := HE9.out.cell 3
   have y4 : w9.cell? ⟨eb, 4, none⟩ = some (.int .i64 re) := HE9.out.cell 4
   have HOK : Hid (okEB ⟨⟨ej, ep⟩, ek, ⟨rv, re⟩⟩ = (pathB ep && (!nb ek 16 && resOk ⟨rv, re⟩))) := Lib.hid rfl
   cases hpb : pathB ep with
   | false =>
    have HF := Lib.hid (HNO.out (by rw [HOK.out, hpb]; simp))
    rw [hpb] at HM
    clear hpb
    go_wp2_with (go_at_call 53; ((with_reducible refine (HM.out _).mono ?_); rintro e w' ⟨rfl, rfl⟩))
    go_ret
    exact ⟨false, rfl, HF.out.symm, HX9.out.bel⟩
   | true =>
    rw [hpb] at HM
    by_cases k1 : ek < 0
    ·have HF := Lib.hid (HNO.out (by rw [HOK.out, hpb]; unfold nb; rw [decide_eq_true k1]; simp))
     clear hpb
     go_wp2_with (go_at_call 53; ((with_reducible refine (HM.out _).mono ?_); rintro e w' ⟨rfl, rfl⟩))
     go_ret
     exact ⟨false, rfl, HF.out.symm, HX9.out.bel⟩
    ·by_cases k2 : (16 : Int) < ek
     ·have HF := Lib.hid (HNO.out (by rw [HOK.out, hpb]; unfold nb; rw [decide_eq_true k2]; simp))
      clear hpb
      go_wp2_with (go_at_call 53; ((with_reducible refine (HM.out _).mono ?_); rintro e w' ⟨rfl, rfl⟩))
      go_ret
      exact ⟨false, rfl, HF.out.symm, HX9.out.bel⟩
     ·have hnk : nb ek 16 = false := nb_false.2 ⟨by omega, by omega⟩
      cases hro : resOk ⟨rv, re⟩ with
      | false =>
       have HF := Lib.hid (HNO.out (by rw [HOK.out, hpb, hnk, hro]; simp))
       rw [hro] at HR
       clear hpb hnk hro
       go_wp2_with (first | (go_at_call 53; ((with_reducible refine (HM.out _).mono ?_); rintro e w' ⟨rfl, rfl⟩)) | (go_at_call 21; ((with_reducible refine (HR.out _).mono ?_); rintro e w10 ⟨rfl, hbq⟩; have HX10 := Lib.hid (HX9.out.step hbq); clear hbq)))
       go_ret
       exact ⟨false, rfl, HF.out.symm, HX10.out.bel⟩
      | true =>
       have HS2 := Lib.hid (HS.out (by rw [HOK.out, hpb, hnk, hro]; rfl))
       rw [hro] at HR
       clear hpb hnk hro HS
       go_wp2_with (first | (go_at_call 53; ((with_reducible refine (HM.out _).mono ?_); rintro e w' ⟨rfl, rfl⟩)) | (go_at_call 21; ((with_reducible refine (HR.out _).mono ?_); rintro e w10 ⟨rfl, hbq⟩; have HX10 := Lib.hid (HX9.out.step hbq); clear hbq)))
       go_roundw
       case rel => (try rw [HE.out]); exact ⟨i + 1, HIL.out, rfl, HS2.out, HX10.out⟩
       case measure => (try rw [HE.out]); simp [intOf]; have := HIL.out; omega
  ·have hne : ¬ (i : Int) < (m.ents.length : Int) := by omega
   obtain rfl : i = m.ents.length := by omega
   have HF1 := Lib.hid (show ∀ e ∈ m.ents, okEB e = true by have := HALL.out; rwa [List.take_length] at this)
   have HD1 := HDX
   clear HALL hil hi hx
   go_wp2_with fail
   go_loopw [5] (fun u wr => ∃ i : Nat, i ≤ m.epochs.length ∧ u = .int .i64 i ∧ (∀ e ∈ m.epochs.take i, e ≤ 281474976710656) ∧ DXw W m ⟨.slice p1 m.input.length c1, .slice p2 m.task.args.length c2, .slice p3 m.ents.length c3, .slice p4 m.epochs.length c4, .slice p5 m.names.length c5, .slice p6 m.codes.length c6⟩ wr) (fun u _ => ((m.epochs.length : Int) - intOf u).toNat)
   case atStart => exact ⟨0, Nat.zero_le _, rfl, (fun e he => by simp at he), HD1.out⟩
   case round =>
    obtain ⟨i, hi, rfl, hall, hx⟩ := hrel
    have HDX := Lib.hid hx
    have HALL := Lib.hid hall
    clear hall
    have z : wr.cell? ⟨W.heap.size, 12, none⟩ = some (.slice p4 m.epochs.length c4) := hx.blk.cell 12
    by_cases hil : i < m.epochs.length
    ·have hil' : (i : Int) < (m.epochs.length : Int) := by omega
     have hi0 : (0 : Int) ≤ (i : Int) := by omega
     have hrow := hx.row.rh
     obtain ⟨b, off, rfl, hb, hxx⟩ := hrow.ptr hil
     have HE : Hid (wrap64 ((i : Int) + 1) = ((i + 1 : Nat) : Int)) := Lib.hid (wr64 rfl (by have := HLN.out; omega))
     have hmem := List.getElem_mem hil
     have HS := Lib.hid (fun h => take_all9 (p := fun e => e ≤ 281474976710656) HALL.out hil h)
     have HNO := Lib.hid (fun (h : ¬ m.epochs[i] ≤ 281474976710656) => bnd_no (m := m) fun k => h (k.h _ hmem))
     have HIL := Lib.hid hil
     have x0 := hxx 0 _ rfl
     simp only [Nat.mul_one, Nat.add_zero] at x0
     generalize m.epochs[i] = y at *
     clear hx hrow hxx hmem HALL hi hil
     by_cases k1 : (281474976710656 : Int) < y
     ·have HF := Lib.hid (HNO.out (by omega))
      go_wp2_with fail
      go_ret
      exact ⟨false, rfl, HF.out.symm, HDX.out.bel⟩
     ·have HS2 := Lib.hid (HS.out (by omega))
      clear HS
      go_wp2_with fail
      go_roundw
      case rel => (try rw [HE.out]); exact ⟨i + 1, HIL.out, rfl, HS2.out, HDX.out⟩
      case measure => (try rw [HE.out]); simp [intOf]; have := HIL.out; omega
    ·have hne : ¬ (i : Int) < (m.epochs.length : Int) := by omega
     obtain rfl : i = m.epochs.length := by omega
     have HF2 := Lib.hid (show ∀ e ∈ m.epochs, e ≤ 281474976710656 by have := HALL.out; rwa [List.take_length] at this)
     have HD2 := HDX
     clear HALL hil hi hx
     go_wp2_with fail
     go_loopw [6] (fun u wr => ∃ i : Nat, i ≤ m.names.length ∧ u = .int .i64 i ∧ (∀ e ∈ m.names.take i, pathB e.path = true) ∧ DXw W m ⟨.slice p1 m.input.length c1, .slice p2 m.task.args.length c2, .slice p3 m.ents.length c3, .slice p4 m.epochs.length c4, .slice p5 m.names.length c5, .slice p6 m.codes.length c6⟩ wr) (fun u _ => ((m.names.length : Int) - intOf u).toNat)
     case atStart => exact ⟨0, Nat.zero_le _, rfl, (fun e he => by simp at he), HD2.out⟩
     case round =>
      obtain ⟨i, hi, rfl, hall, hx⟩ := hrel
      have HDX := Lib.hid hx
      have HALL := Lib.hid hall
      clear hall
      have z : wr.cell? ⟨W.heap.size, 13, none⟩ = some (.slice p5 m.names.length c5) := hx.blk.cell 13
      by_cases hil : i < m.names.length
      ·have hil' : (i : Int) < (m.names.length : Int) := by omega
       have hi0 : (0 : Int) ≤ (i : Int) := by omega
       have hrow := hx.row.rm
       obtain ⟨b, off, rfl, hb, hxx⟩ := hrow.ptr hil
       have HE : Hid (wrap64 ((i : Int) + 1) = ((i + 1 : Nat) : Int)) := Lib.hid (wr64 rfl (by have := HLN.out; omega))
       have hmem := List.getElem_mem hil
       have HS := Lib.hid (fun h => take_all9 (p := fun e => pathB e.path = true) HALL.out hil h)
       have HNO := Lib.hid (fun (h : ¬ pathB (m.names[i]).path = true) => bnd_no (m := m) fun k => h (k.n _ hmem))
       have HIL := Lib.hid hil
       have x1 := hxx 1 _ rfl
       have HM := Lib.hid (fun w => rmay12_any m.names[i].path (by have := HL.out.names.2 _ hmem; omega) w)
       generalize m.names[i] = nn at *
       obtain ⟨nj, np⟩ := nn
       dsimp only at x1 HM HS HNO
       clear hx hrow hxx hmem HALL hi hil
       cases hpb : pathB np with
       | false =>
        have HF := Lib.hid (HNO.out (by rw [hpb]; simp))
        rw [hpb] at HM
        clear hpb
        go_wp2_with (go_at_call 53; ((with_reducible refine (HM.out _).mono ?_); rintro e w' ⟨rfl, rfl⟩))
        go_ret
        exact ⟨false, rfl, HF.out.symm, HDX.out.bel⟩
       | true =>
        have HS2 := Lib.hid (HS.out hpb)
        rw [hpb] at HM
        clear hpb HS
        go_wp2_with (go_at_call 53; ((with_reducible refine (HM.out _).mono ?_); rintro e w' ⟨rfl, rfl⟩))
        go_roundw
        case rel => (try rw [HE.out]); exact ⟨i + 1, HIL.out, rfl, HS2.out, HDX.out⟩
        case measure => (try rw [HE.out]); simp [intOf]; have := HIL.out; omega
      ·have hne : ¬ (i : Int) < (m.names.length : Int) := by omega
       obtain rfl : i = m.names.length := by omega
       have HF3 := Lib.hid (show ∀ e ∈ m.names, pathB e.path = true by have := HALL.out; rwa [List.take_length] at this)
       have HD3 := HDX
       clear HALL hil hi hx
       go_wp2_with fail
       go_loopw [7] (fun u wr => ∃ i : Nat, i ≤ m.codes.length ∧ u = .int .i64 i ∧ (∀ e ∈ m.codes.take i, nb e 9999 = false) ∧ DXw W m ⟨.slice p1 m.input.length c1, .slice p2 m.task.args.length c2, .slice p3 m.ents.length c3, .slice p4 m.epochs.length c4, .slice p5 m.names.length c5, .slice p6 m.codes.length c6⟩ wr) (fun u _ => ((m.codes.length : Int) - intOf u).toNat)
       case atStart => exact ⟨0, Nat.zero_le _, rfl, (fun e he => by simp at he), HD3.out⟩
       case round =>
        obtain ⟨i, hi, rfl, hall, hx⟩ := hrel
        have HDX := Lib.hid hx
        have HALL := Lib.hid hall
        clear hall
        have z : wr.cell? ⟨W.heap.size, 14, none⟩ = some (.slice p6 m.codes.length c6) := hx.blk.cell 14
        by_cases hil : i < m.codes.length
        ·have hil' : (i : Int) < (m.codes.length : Int) := by omega
         have hi0 : (0 : Int) ≤ (i : Int) := by omega
         have hrow := hx.row.rc
         obtain ⟨b, off, rfl, hb, hxx⟩ := hrow.ptr hil
         have HE : Hid (wrap64 ((i : Int) + 1) = ((i + 1 : Nat) : Int)) := Lib.hid (wr64 rfl (by have := HLN.out; omega))
         have hmem := List.getElem_mem hil
         have HS := Lib.hid (fun h => take_all9 (p := fun e => nb e 9999 = false) HALL.out hil h)
         have HNO := Lib.hid (fun (h : ¬ nb m.codes[i] 9999 = false) => bnd_no (m := m) fun k => h (k.c _ hmem))
         have HIL := Lib.hid hil
         have x0 := hxx 0 _ rfl
         simp only [Nat.mul_one, Nat.add_zero] at x0
         generalize m.codes[i] = y at *
         clear hx hrow hxx hmem HALL hi hil
         have HC := Lib.hid (fun w => code26_any y w)
         cases hnb : nb y 9999 with
         | true =>
          have HF := Lib.hid (HNO.out (by rw [hnb]; simp))
          rw [hnb] at HC
          clear hnb
          go_wp2_with (go_at_call 22; ((with_reducible refine (HC.out _).mono ?_); rintro e w10 ⟨rfl, hbq⟩; have HX10 := Lib.hid (HDX.out.step hbq); clear hbq))
          go_ret
          exact ⟨false, rfl, HF.out.symm, HX10.out.bel⟩
         | false =>
          have HS2 := Lib.hid (HS.out hnb)
          rw [hnb] at HC
          clear hnb HS
          go_wp2_with (go_at_call 22; ((with_reducible refine (HC.out _).mono ?_); rintro e w10 ⟨rfl, hbq⟩; have HX10 := Lib.hid (HDX.out.step hbq); clear hbq))
          go_roundw
          case rel => (try rw [HE.out]); exact ⟨i + 1, HIL.out, rfl, HS2.out, HX10.out⟩
          case measure => (try rw [HE.out]); simp [intOf]; have := HIL.out; omega
        ·have hne : ¬ (i : Int) < (m.codes.length : Int) := by omega
         obtain rfl : i = m.codes.length := by omega
         have HF4 := Lib.hid (show ∀ e ∈ m.codes, nb e 9999 = false by have := HALL.out; rwa [List.take_length] at this)
         have HD4 := HDX
         clear HALL hil hi hx
         go_wp2_with fail
         go_ret
         exact ⟨true, rfl, (bnd_ok ⟨HLN.out.1, HLN.out.2.1, HLN.out.2.2.1, HLN.out.2.2.2, HF1.out, HF2.out, HF3.out, HF4.out⟩).symm, HD4.out.bel⟩
end Go.Proofs.YtghbjknpffiaiaaGreat
