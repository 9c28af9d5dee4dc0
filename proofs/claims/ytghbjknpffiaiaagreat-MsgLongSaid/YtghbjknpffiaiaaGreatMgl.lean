import Derived.Test.YtghbjknpffiaiaaGreatMtH
import Derived.Test.YtghbjknpffiaiaaGreatMgj
import Derived.Test.YtghbjknpffiaiaaGreatMge
import Derived.Test.YtghbjknpffiaiaaGreatMgc
namespace Go.Proofs.YtghbjknpffiaiaaGreat
open Go.RowKit Wire Ms
set_option linter.unusedVariables false
set_option linter.unusedSimpArgs false
def EncP (W : World) (s : ByteArray) (c : Int) (e : Ending) (w' : World) : Prop := e = .returned (.tuple #[.string s, .int .i64 c]) ∧ Below W.heap.size W w'
theorem enc_start {W : World} {B : Nat} {m : M} {v : VS} (h : MR W B m v) (hB : B ≤ W.heap.size) :
  KWb ((W.alloc (.cells (mcells m v) 34)).alloc (.cells #[.pointer none, .slice none 0 0, .bool false] 58)) W.heap.size (W.heap.size + 1) [] false 0 ∧ MB ((W.alloc (.cells (mcells m v) 34)).alloc (.cells #[.pointer none, .slice none 0 0, .bool false] 58)) W.heap.size W.heap.size m v ∧ Below W.heap.size W ((W.alloc (.cells (mcells m v) 34)).alloc (.cells #[.pointer none, .slice none 0 0, .bool false] 58)) ∧ W.heap.size ≤ ((W.alloc (.cells (mcells m v) 34)).alloc (.cells #[.pointer none, .slice none 0 0, .bool false] 58)).heap.size := by
 have hb : Below W.heap.size W ((W.alloc (.cells (mcells m v) 34)).alloc (.cells #[.pointer none, .slice none 0 0, .bool false] 58)) := ((Below.refl _ W).alloc (Nat.le_refl _) _).alloc (by simp) _
 refine ⟨⟨[], ⟨.slice none 0 0, blk_new1 W _ _ _, ?_, by omega⟩, fun _ => rfl, Nat.le_refl _⟩, ⟨(Blk.new W _ _).alloc _, (h.mono hB).below hb⟩, hb, hb.size⟩
 exact ⟨rfl, .inl ⟨rfl, rfl⟩⟩
theorem hb0_of {W w2 w3 : World} {k : Nat} (h : Below W.heap.size W w2) (hs : W.heap.size ≤ w2.heap.size) (hk : W.heap.size ≤ k) (ho : OnW W.heap.size k w2 w3) : Below W.heap.size W w3 := h.trans (ho.below hs hk)
theorem wpl_bytes_s {P : Program} {ops : Array Oper} {rest : List Oper} {o : Oper} {a : Act} {Q : Exit → Act → World → Prop} {w : World} {x : Operand} {src dst e : TypeId} {base : Nat} {v : Value} {n : Nat} (l : List UInt8) (s : ByteArray) (hs' : s = ⟨l.toArray⟩)
  (hgd : o.guard = none) (ho : o.op = .convert src dst x) (hx : a.eval x = v)
  (hs : P.underlying src = some (.slice e)) (he : P.underlying e = some (.int .u8)) (hd : P.underlying dst = some .string)
  (hown : w.ownsRow base e 1 v n (l.map fun b => .int .u8 b.toNat))
  (h : wpList P ops Q rest (a.put o.dst (.string s)) w) : wpList P ops Q (o :: rest) a w := by
 subst hs'
 exact wpl_bytes_string l hgd ho hx hs he hd hown h
theorem enc_row {w3 : World} {B k L : Nat} {out : Ls} (h : KWb w3 B k out false L) : ∃ p c, w3.cell? ⟨k, 1, none⟩ = some (.slice p out.length c) ∧ w3.ownsRow B 5 1 (.slice p out.length c) out.length (Lib.byteCells out) ∧ out.length ≤ L := by
 obtain ⟨out', ⟨vO, hk, ho, _⟩, he, hl⟩ := h
 obtain rfl := he rfl
 obtain ⟨p, c, rfl⟩ := owns_slice ho
 exact ⟨p, c, hk.cell 1, ho, hl⟩
theorem enc_mid {W w3 w4 w5 : World} {B : Nat} {m n : M} {v v4 : VS} {ob : Obj} (hm : MB w3 B W.heap.size m v) (hB : B ≤ w3.heap.size) (h03 : Below W.heap.size W w3) (h34 : Below w3.heap.size w3 w4) (hr4 : MR w4 w4.heap.size n v4) (h5 : Only (· = w4.heap.size) (w4.alloc ob) w5) (hl : Lite m) :
  Blk w5 W.heap.size 34 (mcells m v) ∧ Calls Tryz.prog 12 #[.agg (mcells m v), .agg (mcells n v4)] w5 (EqP (decide (m = n)) w5) ∧ Below W.heap.size W w5 := by
 have hs34 := h34.size
 have hlt := hm.1.lt
 have h45 : Below w4.heap.size w4 w5 := ((Below.refl _ w4).alloc (Nat.le_refl _) ob).trans (Only.below h5 (by simp) fun j e => by have e' : j = w4.heap.size := e; omega)
 have h35 : Below w3.heap.size w3 w5 := h34.trans (h45.mono hs34)
 have k1 : MR w5 w5.heap.size m v := (hm.2.keep fun b o x h1 h2 => Below.cellq h35 (by omega) h2).mono (by have := h35.size; omega)
 have k2 : MR w5 w5.heap.size n v4 := (hr4.keep fun b o x h1 h2 => Below.cellq h45 h1 h2).mono h45.size
 exact ⟨hm.1.below h35, same_any k1 k2 (Nat.le_refl _) hl, h03.trans (h35.mono h03.size)⟩
set_option maxRecDepth 100000 in
set_option maxHeartbeats 8000000 in
theorem enc_any {m : M} {W : World} {B : Nat} {v : VS} (hv : MR W B m v) (hB : B ≤ W.heap.size) (t : TyM m) (l : Lite m) : Calls Tryz.prog 8 #[.agg (mcells m v)] W (EncP W (encS m).1 (encS m).2) := by
 obtain ⟨hk0, hm0, hb0, hs0⟩ := enc_start hv hB
 have HM := Lib.hid (msgw_any hk0 hs0 hm0 t l)
 have HMB := Lib.hid hm0
 have HB0 := Lib.hid hb0
 have HKB := Lib.hid hk0
 have HSZ := Lib.hid hs0
 have HL := Lib.hid l
 obtain ⟨p1, c1, p2, c2, p3, c3, p4, c4, p5, c5, p6, c6, rfl⟩ := hv.vs
 have HD := Lib.hid (fun w (h : (raw m).length ≤ 40000000) => dec_any (rawS m) (by rw [rawS_size]; unfold maxLen; omega) w)
 clear hk0 hm0 hb0 hs0 hv hB t l
 unfold encS
 unfold mcells at *
 cases hbad : badW m with
 | true =>
  rw [hbad] at HM
  rw [if_pos rfl]
  go_enter Tryz.func8, Tryz.ntmps8
  go_upto_region 3 with (go_at_call 17; go_loud ((with_reducible refine HM.out.mono ?_); rintro e w3 ⟨rfl, hk, ho⟩; have y2 := hk.c2; have HO := Lib.hid (hb0_of HB0.out HSZ.out HKB.out.ge ho); clear hk ho))
  go_wp2_with fail
  go_ret2
  exact ⟨rfl, HO.out⟩
 | false =>
  rw [hbad] at HM
  rw [if_neg (by decide)]
  generalize decS (rawS m) = dd at *
  obtain ⟨n, c⟩ := dd
  dsimp only at *
  have HRAW : Hid (rawS m = ⟨(raw m).toArray⟩) := Lib.hid rfl
  generalize rawS m = s at *
  obtain ⟨rs, hrs⟩ : ∃ rs : ByteArray × Int, rs = (if c = 0 ∧ n = m then (s, 0) else (⟨#[]⟩, 2)) := ⟨_, rfl⟩
  rw [← hrs]
  have HRS := Lib.hid hrs
  clear hrs
  have HX := Lib.hid (fun w3 (hk : KWb w3 W.heap.size (W.heap.size + 1) (raw m) false 40000000) => enc_row hk)
  have HON := Lib.hid (fun w3 (ho : OnW W.heap.size (W.heap.size + 1) _ w3) => HMB.out.on HKB.out HSZ.out ho)
  go_enter Tryz.func8, Tryz.ntmps8
  go_upto_region 3 with (go_at_call 17; go_loud ((with_reducible refine HM.out.mono ?_); rintro e w3 ⟨rfl, hk, ho⟩; have y2 := hk.c2; have HO := Lib.hid (hb0_of HB0.out HSZ.out HKB.out.ge ho); have HM3 := Lib.hid (HON.out _ ho); obtain ⟨po, co, y1, hown, hlen⟩ := HX.out _ hk; have HOWN := Lib.hid hown; have HLEN := Lib.hid hlen; clear hk ho hown hlen))
  clear HM HMB HKB HX HON
  go_upto_region 6 with (refine wpl_bytes_s (raw m) s HRAW.out rfl rfl rfl Tryz.underlying48 Tryz.underlying5 Tryz.underlying9 HOWN.out ?_)
  clear HOWN y1 y2
  have HDD := Lib.hid (fun w => HD.out w HLEN.out)
  clear HD
  go_upto_region 7 with (first
   | (go_at_call 14; go_loud ((with_reducible refine (HDD.out _).mono ?_); rintro e w4 ⟨v4, rfl, hr4, hb4⟩; obtain ⟨q1, d1, q2, d2, q3, d3, q4, d4, q5, d5, q6, d6, rfl⟩ := hr4.vs; have HR4 := Lib.hid hr4; have HB4 := Lib.hid hb4; clear hr4 hb4))
   | (refine wpl_store_blk (Blk.new _ _ _) rfl _ _ _ rfl rfl rfl (by kernel_rfl) rfl mc_one ?_; go_loud (intro w5 hb5 ho5; have HBF := Lib.hid hb5; have HOF := Lib.hid (enc_mid HM3.out HO.out.size HO.out HB4.out HR4.out ho5 HL.out); clear hb5 ho5)))
  clear HDD HM3 HLEN HO
  have HG5 := Lib.hid HOF.out.1
  have HS5 := Lib.hid HOF.out.2.1
  have HB5 := Lib.hid HOF.out.2.2
  clear HOF
  unfold mcells at HG5 HBF HS5
  by_cases hc : c = 0
  ·have hc' : (c != 0) = false := by simpa using hc
   by_cases hmn : m = n
   ·have HRT := Lib.hid (HRS.out.trans (if_pos ⟨hc, hmn.symm⟩))
    have HS6 := Lib.hid (show Calls _ _ _ _ (EqP true w5) from by have h := HS5.out; rw [decide_eq_true hmn] at h; exact h)
    clear hc hmn HS5
    go_wp2_with (first
     | (refine wpl_load_blkg HG5.out rfl _ _ rfl rfl Tryz.underlying34 rfl (by kernel_rfl) ?_)
     | (refine wpl_load_blkg HBF.out rfl _ _ rfl rfl Tryz.underlying34 rfl (by kernel_rfl) ?_)
     | (go_at_call 12; go_loud ((with_reducible refine HS6.out.mono ?_); rintro e w6 ⟨rfl, hb6⟩; have HB6 := Lib.hid (HB5.out.step hb6); clear hb6)))
    go_ret2
    exact ⟨by rw [HRT.out]; rfl, HB6.out⟩
   ·have HRT := Lib.hid (HRS.out.trans (if_neg (fun h => hmn h.2.symm)))
    have HS6 := Lib.hid (show Calls _ _ _ _ (EqP false w5) from by have h := HS5.out; rw [decide_eq_false hmn] at h; exact h)
    clear hc hmn HS5
    go_wp2_with (first
     | (refine wpl_load_blkg HG5.out rfl _ _ rfl rfl Tryz.underlying34 rfl (by kernel_rfl) ?_)
     | (refine wpl_load_blkg HBF.out rfl _ _ rfl rfl Tryz.underlying34 rfl (by kernel_rfl) ?_)
     | (go_at_call 12; go_loud ((with_reducible refine HS6.out.mono ?_); rintro e w6 ⟨rfl, hb6⟩; have HB6 := Lib.hid (HB5.out.step hb6); clear hb6)))
    go_ret2
    exact ⟨by rw [HRT.out]; rfl, HB6.out⟩
  ·have HRT := Lib.hid (HRS.out.trans (if_neg (fun h => hc h.1)))
   have hc' : (c != 0) = true := by simpa using hc
   clear hc HS5
   go_wp2_with fail
   go_ret2
   exact ⟨by rw [HRT.out]; rfl, HB5.out⟩
set_option maxRecDepth 100000 in
set_option maxHeartbeats 2000000 in
theorem may_any {m : M} {W : World} {B : Nat} {v : VS} (hv : MR W B m v) (hB : B ≤ W.heap.size) (t : TyM m) (l : Lite m) : Calls Tryz.prog 10 #[.agg (mcells m v)] W (EqP ((encS m).2 == 0) W) := by
 have HE := Lib.hid (enc_any (W := W.alloc (.cells (mcells m v) 34)) (hv.keep fun b o x h1 h2 => Below.cellq ((Below.refl _ W).alloc (Nat.le_refl _) (.cells (mcells m v) 34)) (by omega) h2) (by simp; omega) t l)
 have HB0 := Lib.hid ((Below.refl _ W).alloc (Nat.le_refl _) (.cells (mcells m v) 34))
 have HA := Lib.hid (Blk.new W 34 (mcells m v))
 obtain ⟨p1, c1, p2, c2, p3, c3, p4, c4, p5, c5, p6, c6, rfl⟩ := hv.vs
 clear hv hB t l
 generalize encS m = sc at *
 obtain ⟨s, c⟩ := sc
 dsimp only at *
 unfold mcells at *
 go_enter Tryz.func10, Tryz.ntmps10
 go_wp2_with (first
  | (refine wpl_load_blk HA.out rfl _ _ rfl rfl Tryz.underlying34 rfl (by kernel_rfl) ?_)
  | (go_at_call 8; go_loud ((with_reducible refine HE.out.mono ?_); rintro e w1 ⟨rfl, hb1⟩; have HB1 := Lib.hid (HB0.out.step hb1); clear hb1)))
 go_ret
 exact ⟨rfl, HB1.out⟩
end Go.Proofs.YtghbjknpffiaiaaGreat

namespace Go.Proofs.YtghbjknpffiaiaaGreat
open Go.RowKit Wire
set_option linter.unusedVariables false
set_option linter.unusedSimpArgs false
namespace Ms
def mA : M := { m0 with kind := 17, job := 5, state := 2, res := ⟨-1, 0⟩ }
def mB : M := { m0 with kind := 6, err := 6 }
def mC : M := { m0 with kind := 1, job := 1 }
def mD : M := { m0 with kind := 1 }
theorem ty_mA : TyM mA := { ty0 (k := 17) (by decide) with job := (show U64 5 from ⟨by decide, by decide⟩), state := (show (0 : Int) ≤ 2 ∧ (2 : Int) ≤ 255 by decide), res := ⟨(show I64 (-1) from ⟨by decide, by decide⟩), i0⟩ }
theorem ty_mB : TyM mB := { ty0 (k := 6) (by decide) with err := (show I64 6 from ⟨by decide, by decide⟩) }
theorem ty_mC : TyM mC := { ty0 (k := 1) (by decide) with job := (show U64 1 from ⟨by decide, by decide⟩) }
theorem ty_mD : TyM mD := ty0 (k := 1) (by decide)
theorem wU_small {x : Int} (h : x.toNat < 128) : wU x = [x.toNat.toUInt8] := by unfold wU; rw [Num.leb_lt _ h]
theorem raw_mA : raw mA = [17, 5, 2, 1, 0] := by
 show wU 17 ++ wps [.J, .S, .R] mA = _
 have e : wps [.J, .S, .R] mA = wU 5 ++ (wU 2 ++ ((wI (-1) ++ wU 0) ++ [])) := rfl
 have e2 : wI (-1) = wU 1 := rfl
 rw [e, e2, wU_small (by decide), wU_small (by decide), wU_small (by decide), wU_small (by decide), wU_small (by decide)]
 rfl
theorem raw_mB : raw mB = [6, 6] := by
 show wU 6 ++ wps [.X] mB = _
 have e : wps [.X] mB = wU 6 ++ [] := rfl
 rw [e, wU_small (by decide)]
 rfl
theorem raw_mD : raw mD = [1] := by
 show wU 1 ++ wps [] mD = _
 have e : wps [] mD = [] := rfl
 rw [e, wU_small (by decide)]
 rfl
theorem may_mA : mayM mA = true := by
 rw [may_long rfl rfl, raw_mA]
 unfold all14
 simp [bp, lb, mA, m0, t0, nb, pathB, resB, bl, sz0]
theorem may_mB : mayM mB = true := by
 rw [may_long rfl rfl, raw_mB]
 unfold all14
 simp [bp, lb, mB, m0, t0, nb, pathB, resB, bl, sz0]
theorem may_mD : mayM mD = true := by
 rw [may_long rfl rfl, raw_mD]
 unfold all14
 simp [bp, lb, mD, m0, t0, nb, pathB, resB, bl, sz0]
theorem may_mC : mayM mC = false := by
 have h : (mC == onlyM mC) = false := beq_false_of_ne (fun h => by
  have h2 := congrArg M.job h
  have e : (onlyM mC).job = 0 := rfl
  rw [e] at h2
  exact absurd h2 (by decide))
 unfold mayM
 rw [h]
 simp
theorem rawS_mA : rawS mA = ⟨#[17, 5, 2, 1, 0]⟩ := by unfold rawS; rw [raw_mA]
theorem rawS_mB : rawS mB = ⟨#[6, 6]⟩ := by unfold rawS; rw [raw_mB]
theorem enc_mA : encS mA = (⟨#[17, 5, 2, 1, 0]⟩, 0) := by rw [enc_eq ty_mA, if_pos may_mA, rawS_mA]
theorem enc_mB : encS mB = (⟨#[6, 6]⟩, 0) := by rw [enc_eq ty_mB, if_pos may_mB, rawS_mB]
theorem enc_mC : encS mC = (⟨#[]⟩, 2) := by rw [enc_eq ty_mC, may_mC]; rfl
theorem dec_mA : decS ⟨#[17, 5, 2, 1, 0]⟩ = (mA, 0) := by rw [← rawS_mA]; exact dec_raw ty_mA may_mA
theorem dec_10 : decS ⟨#[1, 0]⟩ = (m0, 8) := by
 have h := dec_more ty_mD may_mD
 have e : rawS mD ++ ⟨#[0]⟩ = (⟨#[1, 0]⟩ : ByteArray) := by unfold rawS; rw [raw_mD]; rfl
 rwa [e] at h
theorem mA_ne : ¬ mA = m0 := fun h => by have h2 := congrArg M.kind h; exact absurd h2 (by decide)
end Ms
end Go.Proofs.YtghbjknpffiaiaaGreat

namespace Go.Proofs.YtghbjknpffiaiaaGreat
open Go.RowKit Wire Ms
set_option linter.unusedVariables false
set_option linter.unusedSimpArgs false
theorem mr_nilA (w : World) (B : Nat) {m : M} (h : m.input = [] ∧ m.task.args = [] ∧ m.ents = [] ∧ m.epochs = [] ∧ m.names = [] ∧ m.codes = []) : MR w B m nilVS := by
 obtain ⟨h1, h2, h3, h4, h5, h6⟩ := h
 refine ⟨?_, ?_, ?_, ?_, ?_, ?_⟩
 ·rw [h1]; exact ⟨none, 0, rfl, fun h => absurd h (Nat.lt_irrefl _)⟩
 ·rw [h2]; exact ⟨none, 0, rfl, fun h => absurd h (Nat.lt_irrefl _)⟩
 ·rw [h3]; exact ⟨none, 0, rfl, fun h => absurd h (Nat.lt_irrefl _)⟩
 ·rw [h4]; exact ⟨none, 0, rfl, fun h => absurd h (Nat.lt_irrefl _)⟩
 ·rw [h5]; exact ⟨none, 0, rfl, fun h => absurd h (Nat.lt_irrefl _)⟩
 ·rw [h6]; exact ⟨none, 0, rfl, fun h => absurd h (Nat.lt_irrefl _)⟩
theorem lite0 {m : M} (h1 : m.tok.size = 0) (h2 : m.prog.size = 0) (h3 : m.task.path.size = 0) (h : m.input = [] ∧ m.task.args = [] ∧ m.ents = [] ∧ m.epochs = [] ∧ m.names = [] ∧ m.codes = []) : Lite m := by
 obtain ⟨k1, k2, k3, k4, k5, k6⟩ := h
 exact ⟨by omega, by omega, by omega, by rw [k1]; decide, by rw [k2]; decide, ⟨by rw [k3]; decide, fun e he => by rw [k3] at he; cases he⟩, by rw [k4]; decide, ⟨by rw [k5]; decide, fun e he => by rw [k5] at he; cases he⟩, by rw [k6]; decide⟩
theorem lit_enc {m : M} {s : ByteArray} {c : Int} (h1 : m.tok.size = 0) (h2 : m.prog.size = 0) (h3 : m.task.path.size = 0) (h : m.input = [] ∧ m.task.args = [] ∧ m.ents = [] ∧ m.epochs = [] ∧ m.names = [] ∧ m.codes = []) (t : TyM m) (he : encS m = (s, c)) (w : World) :
  Calls Tryz.prog 8 #[.agg (mcells m nilVS)] w (EncP w s c) := by
 have hx := enc_any (mr_nilA w 0 h) (Nat.zero_le _) t (lite0 h1 h2 h3 h)
 rw [he] at hx
 exact hx
theorem lit_dec {m : M} {s : ByteArray} {c : Int} (hs : s.size ≤ 1000) (he : decS s = (m, c)) (w : World) : Calls Tryz.prog 14 #[.string s] w (DecP w m c) := by
 have hx := dec_any s (by unfold maxLen; omega) w
 rw [he] at hx
 exact hx
def AlP (w : World) (e : Ending) (w' : World) : Prop := e = .returned (.bool true) ∧ Below w.heap.size w w'
theorem al_step {w3 w5 : World} {ob : Obj} (h5 : Only (· = w3.heap.size) (w3.alloc ob) w5) : Below w3.heap.size w3 w5 :=
 ((Below.refl _ w3).alloc (Nat.le_refl _) ob).trans (Only.below h5 (by simp) fun j e => by have e' : j = w3.heap.size := e; omega)
theorem al_same {w3 w : World} {m n : M} {v v2 : VS} (hr : MR w3 w3.heap.size n v) (hk : Below w3.heap.size w3 w) (hm : MR w w.heap.size m v2) (hl : Lite m) : Calls Tryz.prog 12 #[.agg (mcells m v2), .agg (mcells n v)] w (EqP (decide (m = n)) w) :=
 same_any hm ((hr.keep fun b o x h1 h2 => Below.cellq hk h1 h2).mono hk.size) (Nat.le_refl _) hl
set_option maxRecDepth 100000 in
set_option maxHeartbeats 8000000 in
theorem alive26_any (W : World) : Calls Tryz.prog 7 #[] W (AlP W) := by
 have HA := Lib.hid (fun w => lit_enc (m := mA) rfl rfl rfl ⟨rfl, rfl, rfl, rfl, rfl, rfl⟩ ty_mA enc_mA w)
 have HBm := Lib.hid (fun w => lit_enc (m := mB) rfl rfl rfl ⟨rfl, rfl, rfl, rfl, rfl, rfl⟩ ty_mB enc_mB w)
 have HCm := Lib.hid (fun w => lit_enc (m := mC) rfl rfl rfl ⟨rfl, rfl, rfl, rfl, rfl, rfl⟩ ty_mC enc_mC w)
 have HD1 := Lib.hid (fun w => lit_dec (s := ⟨#[17, 5, 2, 1, 0]⟩) (by decide) dec_mA w)
 have HD2 := Lib.hid (fun w => lit_dec (s := ⟨#[1, 0]⟩) (by decide) dec_10 w)
 have HMY := Lib.hid (fun w => may_any (W := w) (mr_nilA w 0 (m := mA) ⟨rfl, rfl, rfl, rfl, rfl, rfl⟩) (Nat.zero_le _) ty_mA (lite0 rfl rfl rfl ⟨rfl, rfl, rfl, rfl, rfl, rfl⟩))
 rw [enc_mA] at HMY
 go_enter Tryz.func7, Tryz.ntmps7
 go_upto_region 2 with (refine wpl_store_blk (c' := mcells mA nilVS) (Blk.new _ _ _) rfl _ _ _ rfl rfl rfl (by kernel_rfl) rfl mc_one ?_; intro w1 hb1 ho1; have HT := Lib.hid hb1; have B1 := Lib.hid (al_step ho1); clear hb1 ho1)
 go_upto_region 3 with (first
  | (refine wpl_load_blk HT.out rfl _ _ rfl rfl Tryz.underlying34 rfl (by kernel_rfl) ?_)
  | (go_at_call 8; go_loud ((with_reducible refine (HA.out _).mono ?_); rintro e w2 ⟨rfl, hb2⟩; have B2 := Lib.hid (B1.out.step hb2); have HT2 := Lib.hid (HT.out.below hb2); clear hb2)))
 go_upto_region 4 with (first
  | (go_at_call 14; go_loud ((with_reducible refine (HD1.out _).mono ?_); rintro e w3 ⟨v3, rfl, hr3, hb3⟩; obtain ⟨q1, d1, q2, d2, q3, d3, q4, d4, q5, d5, q6, d6, rfl⟩ := hr3.vs; have R3 := Lib.hid hr3; have B3 := Lib.hid (B2.out.step hb3); have HT3 := Lib.hid (HT2.out.below hb3); clear hr3 hb3))
  | (refine wpl_store_blk (Blk.new _ _ _) rfl _ _ _ rfl rfl rfl (by kernel_rfl) rfl mc_one ?_; intro w4 hb4 ho4; have HU := Lib.hid hb4; have K4 := Lib.hid (al_step ho4); have HT4 := Lib.hid (HT3.out.below K4.out); clear hb4 ho4))
 clear HA HD1 HT HT2 HT3
 go_upto_region 5 with (go_at_call 8; go_loud ((refine (HBm.out _).mono ?_); rintro e w5 ⟨rfl, hb5⟩; have K5 := Lib.hid (K4.out.step hb5); have HT5 := Lib.hid (HT4.out.below hb5); have HU5 := Lib.hid (HU.out.below hb5); clear hb5))
 clear HBm HT4 HU
 go_upto_region 6 with (first
  | (go_at_call 14; go_loud ((with_reducible refine (HD2.out _).mono ?_); rintro e w6 ⟨v6, rfl, hr6, hb6⟩; obtain ⟨t1, f1, t2, f2, t3, f3, t4, f4, t5, f5, t6, f6, rfl⟩ := hr6.vs; have K6 := Lib.hid (K5.out.step hb6); have HT6 := Lib.hid (HT5.out.below hb6); have HU6 := Lib.hid (HU5.out.below hb6); clear hr6 hb6))
  | (refine wpl_store_blk (Blk.new _ _ _) rfl _ _ _ rfl rfl rfl (by kernel_rfl) rfl mc_one ?_; intro w7 hb7 ho7; have L7 := Lib.hid (al_step ho7); have K7 := Lib.hid (K6.out.step L7.out); have HT7 := Lib.hid (HT6.out.below L7.out); have HU7 := Lib.hid (HU6.out.below L7.out); clear hb7 ho7))
 clear HD2 HT5 HU5 HT6 HU6
 go_upto_region 7 with (go_at_call 8; go_loud ((refine (HCm.out _).mono ?_); rintro e w8 ⟨rfl, hb8⟩; have K8 := Lib.hid (K7.out.step hb8); have HT8 := Lib.hid (HT7.out.below hb8); have HU8 := Lib.hid (HU7.out.below hb8); clear hb8))
 clear HCm HT7 HU7
 have HN := Lib.hid (fun w => mr_nilA w w.heap.size (m := mA) ⟨rfl, rfl, rfl, rfl, rfl, rfl⟩)
 have HS1 := Lib.hid (show Calls _ _ _ _ (EqP true w8) from by have h := al_same R3.out K8.out (HN.out w8) (lite0 rfl rfl rfl ⟨rfl, rfl, rfl, rfl, rfl, rfl⟩); rw [decide_eq_true rfl] at h; exact h)
 have HS2 := Lib.hid (fun w => show Calls Tryz.prog 12 #[.agg (mcells mA nilVS), .agg (mcells m0 nilVS)] w (EqP false w) from by have h := same_any (HN.out w) (mr_nil w w.heap.size) (Nat.le_refl _) (lite0 rfl rfl rfl ⟨rfl, rfl, rfl, rfl, rfl, rfl⟩); rw [decide_eq_false mA_ne] at h; exact h)
 clear HN R3
 have hst1 : ((⟨#[17, 5, 2, 1, 0]⟩ : ByteArray).toList == (⟨#[17, 5, 2, 1, 0]⟩ : ByteArray).toList) = true := by simp
 have hst2 : ((⟨#[6, 6]⟩ : ByteArray).toList == (⟨#[6, 6]⟩ : ByteArray).toList) = true := by simp
 go_wp2_with (first
  | (refine wpl_load_blkg HT8.out rfl _ _ rfl rfl Tryz.underlying34 rfl (by kernel_rfl) ?_)
  | (refine wpl_load_blkg HT9.out rfl _ _ rfl rfl Tryz.underlying34 rfl (by kernel_rfl) ?_)
  | (refine wpl_load_blkg HT10.out rfl _ _ rfl rfl Tryz.underlying34 rfl (by kernel_rfl) ?_)
  | (refine wpl_load_blkg HU8.out rfl _ _ rfl rfl Tryz.underlying34 rfl (by kernel_rfl) ?_)
  | (go_at_call 10; go_loud ((with_reducible refine (HMY.out _).mono ?_); rintro e w10 ⟨rfl, hb10⟩; have K10 := Lib.hid (K9.out.step hb10); have HT10 := Lib.hid (HT9.out.below hb10); clear hb10))
  | (go_at_call 12; ((with_reducible refine HS1.out.mono ?_); rintro e w9 ⟨rfl, hb9⟩; have K9 := Lib.hid (K8.out.step hb9); have HT9 := Lib.hid (HT8.out.below hb9); clear hb9))
  | (go_at_call 12; ((refine (HS2.out _).mono ?_); rintro e w11 ⟨rfl, hb11⟩; have K11 := Lib.hid (K10.out.step hb11); clear hb11)))
 go_ret
 exact ⟨rfl, B3.out.trans (K11.out.mono B3.out.size)⟩
end Go.Proofs.YtghbjknpffiaiaaGreat

namespace Go.Proofs.YtghbjknpffiaiaaGreat
open Go.RowKit Wire Ms
set_option linter.unusedVariables false
set_option linter.unusedSimpArgs false
structure Hv0 (m : M) : Prop where
 tok : m.tok.size ≤ 1024
 prog : m.prog.size ≤ 32768
 input : m.input.length ≤ 200
 args : m.task.args.length ≤ 200
 path : m.task.path.size ≤ 1024
 ents : m.ents.length ≤ 300
 epochs : m.epochs.length ≤ 300
 names : m.names.length ≤ 300
 codes : m.codes.length ≤ 300
def HvOk (m : M) : Prop := Hv0 m ∧ (∀ e ∈ m.ents, e.nm.path.size ≤ 256) ∧ ∀ n ∈ m.names, n.path.size ≤ 256
theorem HvOk.lite {m : M} (k : HvOk m) : Lite m := by
 obtain ⟨h, h1, h2⟩ := k
 exact ⟨by have := h.tok; omega, by have := h.prog; omega, by have := h.path; omega, by have := h.input; omega, by have := h.args; omega, ⟨by have := h.ents; omega, fun e he => by have := h1 e he; omega⟩, by have := h.epochs; omega, ⟨by have := h.names; omega, fun e he => by have := h2 e he; omega⟩, by have := h.codes; omega⟩
def HvP (m : M) (W : World) (e : Ending) (w' : World) : Prop := ∃ b : Bool, e = .returned (.bool b) ∧ (b = false ↔ HvOk m) ∧ Below W.heap.size W w'
theorem take_all {α : Type} {p : α → Prop} {l : List α} {i : Nat} (h : ∀ x ∈ l.take i, p x) (hi : i < l.length) (hp : p l[i]) : ∀ x ∈ l.take (i + 1), p x := fun x hx => by
 rw [List.take_succ_eq_append_getElem hi] at hx
 rcases List.mem_append.1 hx with e | e
 ·exact h x e
 ·simp at e; subst e; exact hp
set_option maxRecDepth 100000 in
set_option maxHeartbeats 8000000 in
theorem heavy26_any {m : M} {W : World} {B : Nat} {v : VS} (hv : MR W B m v) (hB : B ≤ W.heap.size) : Calls Tryz.prog 6 #[.agg (mcells m v)] W (HvP m W) := by
 have HB := Lib.hid ((Below.refl _ W).alloc (Nat.le_refl _) (.cells (mcells m v) 34))
 have HBK := Lib.hid (Blk.new W 34 (mcells m v))
 obtain ⟨p1, c1, p2, c2, p3, c3, p4, c4, p5, c5, p6, c6, rfl⟩ := hv.vs
 have HN2 := Lib.hid (hv.rn.keep fun b o x h1 h2 => Below.cellq HB.out (by omega) h2)
 have HM2 := Lib.hid (hv.rm.keep fun b o x h1 h2 => Below.cellq HB.out (by omega) h2)
 clear hv hB
 dsimp only at HN2 HM2
 unfold mcells at *
 by_cases h1 : (1024 : Int) < (m.tok.size : Int)
 ·skip
  go_enter Tryz.func6, Tryz.ntmps6
  go_wp2_with fail
  go_ret
  exact ⟨true, rfl, ⟨fun h => (by cases h), fun h => (by obtain ⟨⟨k1, k2, k3, k4, k5, k6, k7, k8, k9⟩, _, _⟩ := h; omega)⟩, HB.out⟩
 by_cases h2 : (32768 : Int) < (m.prog.size : Int)
 ·skip
  go_enter Tryz.func6, Tryz.ntmps6
  go_wp2_with fail
  go_ret
  exact ⟨true, rfl, ⟨fun h => (by cases h), fun h => (by obtain ⟨⟨k1, k2, k3, k4, k5, k6, k7, k8, k9⟩, _, _⟩ := h; omega)⟩, HB.out⟩
 by_cases h3 : (200 : Int) < (m.input.length : Int)
 ·skip
  go_enter Tryz.func6, Tryz.ntmps6
  go_wp2_with fail
  go_ret
  exact ⟨true, rfl, ⟨fun h => (by cases h), fun h => (by obtain ⟨⟨k1, k2, k3, k4, k5, k6, k7, k8, k9⟩, _, _⟩ := h; omega)⟩, HB.out⟩
 by_cases h4 : (200 : Int) < (m.task.args.length : Int)
 ·skip
  go_enter Tryz.func6, Tryz.ntmps6
  go_wp2_with fail
  go_ret
  exact ⟨true, rfl, ⟨fun h => (by cases h), fun h => (by obtain ⟨⟨k1, k2, k3, k4, k5, k6, k7, k8, k9⟩, _, _⟩ := h; omega)⟩, HB.out⟩
 by_cases h5 : (1024 : Int) < (m.task.path.size : Int)
 ·skip
  go_enter Tryz.func6, Tryz.ntmps6
  go_wp2_with fail
  go_ret
  exact ⟨true, rfl, ⟨fun h => (by cases h), fun h => (by obtain ⟨⟨k1, k2, k3, k4, k5, k6, k7, k8, k9⟩, _, _⟩ := h; omega)⟩, HB.out⟩
 by_cases h6 : (300 : Int) < (m.ents.length : Int)
 ·skip
  go_enter Tryz.func6, Tryz.ntmps6
  go_wp2_with fail
  go_ret
  exact ⟨true, rfl, ⟨fun h => (by cases h), fun h => (by obtain ⟨⟨k1, k2, k3, k4, k5, k6, k7, k8, k9⟩, _, _⟩ := h; omega)⟩, HB.out⟩
 by_cases h7 : (300 : Int) < (m.epochs.length : Int)
 ·skip
  go_enter Tryz.func6, Tryz.ntmps6
  go_wp2_with fail
  go_ret
  exact ⟨true, rfl, ⟨fun h => (by cases h), fun h => (by obtain ⟨⟨k1, k2, k3, k4, k5, k6, k7, k8, k9⟩, _, _⟩ := h; omega)⟩, HB.out⟩
 by_cases h8 : (300 : Int) < (m.names.length : Int)
 ·skip
  go_enter Tryz.func6, Tryz.ntmps6
  go_wp2_with fail
  go_ret
  exact ⟨true, rfl, ⟨fun h => (by cases h), fun h => (by obtain ⟨⟨k1, k2, k3, k4, k5, k6, k7, k8, k9⟩, _, _⟩ := h; omega)⟩, HB.out⟩
 by_cases h9 : (300 : Int) < (m.codes.length : Int)
 ·skip
  go_enter Tryz.func6, Tryz.ntmps6
  go_wp2_with fail
  go_ret
  exact ⟨true, rfl, ⟨fun h => (by cases h), fun h => (by obtain ⟨⟨k1, k2, k3, k4, k5, k6, k7, k8, k9⟩, _, _⟩ := h; omega)⟩, HB.out⟩
 have HV : Hid (Hv0 m) := Lib.hid ⟨by omega, by omega, by omega, by omega, by omega, by omega, by omega, by omega, by omega⟩
 go_enter Tryz.func6, Tryz.ntmps6
 go_upto_region 3 with fail
 have z8 : (W.alloc (.cells (mcells m ⟨.slice p1 m.input.length c1, .slice p2 m.task.args.length c2, .slice p3 m.ents.length c3, .slice p4 m.epochs.length c4, .slice p5 m.names.length c5, .slice p6 m.codes.length c6⟩) 34)).cell? ⟨W.heap.size, 11, none⟩ = some (.slice p3 m.ents.length c3) := HBK.out.cell 11
 have z10 : (W.alloc (.cells (mcells m ⟨.slice p1 m.input.length c1, .slice p2 m.task.args.length c2, .slice p3 m.ents.length c3, .slice p4 m.epochs.length c4, .slice p5 m.names.length c5, .slice p6 m.codes.length c6⟩) 34)).cell? ⟨W.heap.size, 13, none⟩ = some (.slice p5 m.names.length c5) := HBK.out.cell 13
 unfold mcells at z8 z10
 clear h1 h2 h3 h4 h5 h6 h7 h8 h9 HBK
 generalize W.alloc (.cells (#[.int .u8 m.kind, .int .u64 m.job, .string m.tok, .string m.prog, .slice p1 m.input.length c1, .int .i64 m.fuel, .string m.task.path, .int .i64 m.task.fn, .slice p2 m.task.args.length c2, .int .i64 m.task.fuel, .int .u64 m.epoch, .slice p3 m.ents.length c3, .slice p4 m.epochs.length c4, .slice p5 m.names.length c5, .slice p6 m.codes.length c6, .int .u8 m.state, .int .i64 m.res.val, .int .i64 m.res.err, .int .i64 m.err] : Array Value) 34) = w1 at *
 go_wp2_with fail
 go_loopw [3] (fun u wr => ∃ i : Nat, i ≤ m.ents.length ∧ u = .int .i64 i ∧ (∀ e ∈ m.ents.take i, e.nm.path.size ≤ 256) ∧ wr = w1) (fun u _ => ((m.ents.length : Int) - intOf u).toNat)
 case atStart => exact ⟨0, Nat.zero_le _, rfl, (fun e he => by simp at he), rfl⟩
 case round =>
  obtain ⟨i, hi, rfl, hall, hwr⟩ := hrel
  have hwr := hwr.symm
  subst hwr
  have HALL := Lib.hid hall
  clear hall
  by_cases hil : i < m.ents.length
  ·have hil' : (i : Int) < (m.ents.length : Int) := by omega
   have hi0 : (0 : Int) ≤ (i : Int) := by omega
   obtain ⟨b, off, rfl, _, hx⟩ := HN2.out.ptr hil
   have x1 : w1.cell? ⟨b, off + i * 5 + 1, none⟩ = some (.string m.ents[i].nm.path) := hx 1 _ rfl
   have HE : Hid (wrap64 ((i : Int) + 1) = ((i + 1 : Nat) : Int)) := Lib.hid (wr64 rfl (by have := HV.out.ents; omega))
   have HS := Lib.hid (fun h => take_all HALL.out hil h)
   have HIL := Lib.hid hil
   clear hx HALL
   by_cases hs : (256 : Int) < (m.ents[i].nm.path.size : Int)
   ·have HNO := Lib.hid (show ¬ HvOk m from fun h => by have := h.2.1 _ (List.getElem_mem hil); omega)
    clear HS
    generalize m.ents[i].nm.path = s at *
    go_wp2_with fail
    go_ret
    exact ⟨true, rfl, ⟨fun h => (by cases h), fun h => absurd h HNO.out⟩, HB.out⟩
   ·have HS2 := Lib.hid (HS.out (by omega))
    clear HS
    generalize m.ents[i].nm.path = s at *
    go_wp2_with fail
    go_roundw
    case rel => (try rw [HE.out]); exact ⟨i + 1, HIL.out, rfl, HS2.out, by first | rfl | trivial⟩
    case measure => (try rw [HE.out]); simp [intOf]; have := HIL.out; omega
  ·have hne : ¬ (i : Int) < (m.ents.length : Int) := by omega
   obtain rfl : i = m.ents.length := by omega
   have HEN : Hid (∀ e ∈ m.ents, e.nm.path.size ≤ 256) := Lib.hid (by have := HALL.out; rwa [List.take_length] at this)
   clear HALL hil hi
   go_wp2_with fail
   go_loopw [4] (fun u wr => ∃ i : Nat, i ≤ m.names.length ∧ u = .int .i64 i ∧ (∀ e ∈ m.names.take i, e.path.size ≤ 256) ∧ wr = w1) (fun u _ => ((m.names.length : Int) - intOf u).toNat)
   case atStart => exact ⟨0, Nat.zero_le _, rfl, (fun e he => by simp at he), rfl⟩
   case round =>
    obtain ⟨j, hj, rfl, hall, hwr⟩ := hrel
    have hwr := hwr.symm
    subst hwr
    have HALL := Lib.hid hall
    clear hall
    by_cases hjl : j < m.names.length
    ·have hjl' : (j : Int) < (m.names.length : Int) := by omega
     have hj0 : (0 : Int) ≤ (j : Int) := by omega
     obtain ⟨b, off, rfl, _, hx⟩ := HM2.out.ptr hjl
     have x1 : w1.cell? ⟨b, off + j * 2 + 1, none⟩ = some (.string m.names[j].path) := hx 1 _ rfl
     have HE : Hid (wrap64 ((j : Int) + 1) = ((j + 1 : Nat) : Int)) := Lib.hid (wr64 rfl (by have := HV.out.names; omega))
     have HS := Lib.hid (fun h => take_all HALL.out hjl h)
     have HIL := Lib.hid hjl
     clear hx HALL
     by_cases hs : (256 : Int) < (m.names[j].path.size : Int)
     ·have HNO := Lib.hid (show ¬ HvOk m from fun h => by have := h.2.2 _ (List.getElem_mem hjl); omega)
      clear HS
      generalize m.names[j].path = s at *
      go_wp2_with fail
      go_ret
      exact ⟨true, rfl, ⟨fun h => (by cases h), fun h => absurd h HNO.out⟩, HB.out⟩
     ·have HS2 := Lib.hid (HS.out (by omega))
      clear HS
      generalize m.names[j].path = s at *
      go_wp2_with fail
      go_roundw
      case rel => (try rw [HE.out]); exact ⟨j + 1, HIL.out, rfl, HS2.out, by first | rfl | trivial⟩
      case measure => (try rw [HE.out]); simp [intOf]; have := HIL.out; omega
    ·have hne2 : ¬ (j : Int) < (m.names.length : Int) := by omega
     obtain rfl : j = m.names.length := by omega
     have HNN : Hid (∀ e ∈ m.names, e.path.size ≤ 256) := Lib.hid (by have := HALL.out; rwa [List.take_length] at this)
     clear HALL hjl hj
     go_wp2_with fail
     go_ret
     exact ⟨false, rfl, ⟨fun _ => ⟨HV.out, HEN.out, HNN.out⟩, fun _ => rfl⟩, HB.out⟩
theorem heavy_f {m : M} {W : World} {B : Nat} {v : VS} (hv : MR W B m v) (hB : B ≤ W.heap.size) (h : HvOk m) : Calls Tryz.prog 6 #[.agg (mcells m v)] W (EqP false W) :=
 Calls.mono (heavy26_any hv hB) fun e w' k => by
  obtain ⟨b, h1, h2, h3⟩ := k
  rw [h2.2 h] at h1
  exact ⟨h1, h3⟩
theorem heavy_t {m : M} {W : World} {B : Nat} {v : VS} (hv : MR W B m v) (hB : B ≤ W.heap.size) (h : ¬ HvOk m) : Calls Tryz.prog 6 #[.agg (mcells m v)] W (EqP true W) :=
 Calls.mono (heavy26_any hv hB) fun e w' k => by
  obtain ⟨b, h1, h2, h3⟩ := k
  have hb : b = true := by
   cases b with
   | true => rfl
   | false => exact absurd (h2.1 rfl) h
  rw [hb] at h1
  exact ⟨h1, h3⟩
end Go.Proofs.YtghbjknpffiaiaaGreat

namespace Go.Proofs.YtghbjknpffiaiaaGreat
open Go.RowKit Go.ChangeShapes Go.WideShapes Go.Deep Wire Ms
set_option linter.unusedVariables false
set_option linter.unusedSimpArgs false
instance : Inhabited Nm := ⟨⟨0, ⟨#[]⟩⟩⟩
instance : Inhabited En := ⟨⟨⟨0, ⟨#[]⟩⟩, 0, ⟨0, 0⟩⟩⟩
section
variable {H : Type} {enc : TypeId × Value → H} {W : World} {base : Nat} {held : Bool}
theorem ms_part {P : Program} {w : World} {t : TypeId} {fs : Array Field} {fuel : Nat} {cs : List Value} {x : DataW H × List MemPlace} (hs : P.underlying t = some (.struct fs)) (h : DataW.trod enc P w base (fun _ => true) held fuel t cs = some x)
  (i : Nat) (f : Field) (hf : fs[i]? = some f) (o : Nat) (ho : f.offset = o) {k : Nat} (hc : P.cellsOf f.type = k) :
  ∃ m y, DataW.trod enc P w base (fun _ => true) held m f.type ((cs.drop o).take k) = some y := by
 obtain ⟨xs, m, _, _, _, hl, hx⟩ := DataW.trod_struct hs h
 have := hx i f hf
 have hi : i < fs.size := (Array.getElem?_eq_some_iff.1 hf).1
 rw [ho, hc, List.getElem?_eq_getElem (by omega)] at this
 exact ⟨m, xs[i]'(by omega), this⟩
theorem open_list {α : Type} [Inhabited α] {P : Program} {t e : TypeId} {v : Value} {x : DataW H × List MemPlace} {m fuel : Nat} (LAY : α → List Value) (Pr : α → Prop) (ht : P.underlying t = some (.slice e)) (hc : P.cellsOf e = m) (hm : 0 < m)
  (hf : DataW.trod enc P W base (fun _ => true) held fuel t [v] = some x)
  (el : ∀ (cs : List Value) (fuel : Nat) (x : DataW H × List MemPlace), cs.length = m → DataW.trod enc P W base (fun _ => true) held fuel e cs = some x → ∃ a, cs = LAY a ∧ Pr a) :
  ∃ l, Rw m LAY W W.heap.size v l ∧ ∀ a ∈ l, Pr a := by
 obtain ⟨p, n, cap, rfl, h⟩ := open_cell_rows ht hc hm hf
 by_cases hn : 0 < n
 ·obtain ⟨g, off, rfl, hg, hx⟩ := h hn
  have key : ∀ i, i < n → ∃ a : α, (∀ j, j < m → W.cell? ⟨g, off + i * m + j, none⟩ = (LAY a)[j]?) ∧ (LAY a).length = m ∧ Pr a := fun i hi => by
   obtain ⟨cs, fu, y, hlen, hcell, hy⟩ := hx i hi
   obtain ⟨a, rfl, hp⟩ := el cs fu y hlen hy
   exact ⟨a, hcell, hlen, hp⟩
  obtain ⟨ax, hax⟩ := choose_fn key
  have hl : ((List.range n).map ax).length = n := by simp
  refine ⟨(List.range n).map ax, ⟨some ⟨g, off, none⟩, cap, by rw [hl], fun _ => ⟨g, off, rfl, hg, fun i hi j y hy => ?_⟩⟩, fun a ha => ?_⟩
  ·rw [List.getElem_map, List.getElem_range] at hy
   have hj : j < m := by
    rw [← (hax i (by omega)).2.1]
    exact (List.getElem?_eq_some_iff.1 hy).1
   rw [(hax i (by omega)).1 j hj, hy]
  ·obtain ⟨i, hi, rfl⟩ := List.mem_map.1 ha
   exact (hax i (List.mem_range.1 hi)).2.2
 ·have : n = 0 := by omega
  subst this
  exact ⟨[], ⟨p, cap, rfl, fun h => by simp at h⟩, fun o h => by simp at h⟩
theorem el_i64 {e : TypeId} (he : Tryz.prog.underlying e = some (.int .i64)) (cs : List Value) (fuel : Nat) (x : DataW H × List MemPlace) (hl : cs.length = 1) (h : DataW.trod enc Tryz.prog W base (fun _ => true) held fuel e cs = some x) : ∃ a, cs = lI a ∧ I64 a := by
 match cs, hl with
 | [c0], _ =>
  obtain ⟨n0, z0, _, w0⟩ := DataW.trod_int (k := .i64) he h
  exact ⟨n0, z0, by have := bounds_i64 w0; unfold I64; omega⟩
theorem el_u64 {e : TypeId} (he : Tryz.prog.underlying e = some (.int .u64)) (cs : List Value) (fuel : Nat) (x : DataW H × List MemPlace) (hl : cs.length = 1) (h : DataW.trod enc Tryz.prog W base (fun _ => true) held fuel e cs = some x) : ∃ a, cs = lU a ∧ U64 a := by
 match cs, hl with
 | [c0], _ =>
  obtain ⟨n0, z0, _, w0⟩ := DataW.trod_int (k := .u64) he h
  exact ⟨n0, z0, by have := bounds_u64 w0; unfold U64; omega⟩
theorem inj1 {a b : Value} (h : [a] = [b]) : a = b := by injection h
set_option maxRecDepth 100000 in
theorem el_nm (cs : List Value) (fuel : Nat) (x : DataW H × List MemPlace) (hl : cs.length = 2) (h : DataW.trod enc Tryz.prog W base (fun _ => true) held fuel 52 cs = some x) : ∃ a, cs = lN a ∧ U64 a.job := by
 match cs, hl with
 | [c0, c1], _ =>
  obtain ⟨m0, y0, e0⟩ := open_field (P := Tryz.prog) (t := 52) Tryz.underlying52 h 0 _ rfl 0 rfl (by kernel_rfl) (by simp)
  obtain ⟨m1, y1, e1⟩ := open_field (P := Tryz.prog) (t := 52) Tryz.underlying52 h 1 _ rfl 1 rfl (by kernel_rfl) (by simp)
  obtain ⟨n0, z0, _, w0⟩ := DataW.trod_int (k := .u64) (by kernel_rfl) e0
  obtain ⟨n1, z1, _⟩ := DataW.trod_string (by kernel_rfl) e1
  have h0 : c0 = .int .u64 n0 := inj1 z0
  have h1 : c1 = .string n1 := inj1 z1
  exact ⟨⟨n0, n1⟩, by rw [h0, h1]; rfl, by have := bounds_u64 w0; unfold U64; omega⟩
set_option maxRecDepth 100000 in
theorem el_rs (cs : List Value) (fuel : Nat) (x : DataW H × List MemPlace) (hl : cs.length = 2) (h : DataW.trod enc Tryz.prog W base (fun _ => true) held fuel 32 cs = some x) : ∃ a : Rs, cs = [.int .i64 a.val, .int .i64 a.err] ∧ I64 a.val ∧ I64 a.err := by
 match cs, hl with
 | [c0, c1], _ =>
  obtain ⟨m0, y0, e0⟩ := open_field (P := Tryz.prog) (t := 32) Tryz.underlying32 h 0 _ rfl 0 rfl (by kernel_rfl) (by simp)
  obtain ⟨m1, y1, e1⟩ := open_field (P := Tryz.prog) (t := 32) Tryz.underlying32 h 1 _ rfl 1 rfl (by kernel_rfl) (by simp)
  obtain ⟨n0, z0, _, w0⟩ := DataW.trod_int (k := .i64) (by kernel_rfl) e0
  obtain ⟨n1, z1, _, w1⟩ := DataW.trod_int (k := .i64) (by kernel_rfl) e1
  have h0 : c0 = .int .i64 n0 := inj1 z0
  have h1 : c1 = .int .i64 n1 := inj1 z1
  exact ⟨⟨n0, n1⟩, by rw [h0, h1], by have := bounds_i64 w0; unfold I64; dsimp only; omega, by have := bounds_i64 w1; unfold I64; dsimp only; omega⟩
set_option maxRecDepth 100000 in
theorem el_en (cs : List Value) (fuel : Nat) (x : DataW H × List MemPlace) (hl : cs.length = 5) (h : DataW.trod enc Tryz.prog W base (fun _ => true) held fuel 54 cs = some x) : ∃ a, cs = lE a ∧ (U64 a.nm.job ∧ I64 a.kids ∧ I64 a.res.val ∧ I64 a.res.err) := by
 match cs, hl with
 | [c0, c1, c2, c3, c4], _ =>
  obtain ⟨m0, y0, e0⟩ := ms_part (P := Tryz.prog) (t := 54) Tryz.underlying54 h 0 _ rfl 0 rfl (k := 2) (by kernel_rfl)
  obtain ⟨m1, y1, e1⟩ := open_field (P := Tryz.prog) (t := 54) Tryz.underlying54 h 1 _ rfl 2 rfl (by kernel_rfl) (by simp)
  obtain ⟨m2, y2, e2⟩ := ms_part (P := Tryz.prog) (t := 54) Tryz.underlying54 h 2 _ rfl 3 rfl (k := 2) (by kernel_rfl)
  obtain ⟨a, z0, w0⟩ := el_nm [c0, c1] _ _ rfl e0
  obtain ⟨n1, z1, _, w1⟩ := DataW.trod_int (k := .i64) (by kernel_rfl) e1
  obtain ⟨r, z2, w2⟩ := el_rs [c3, c4] _ _ rfl e2
  have h1 : c2 = .int .i64 n1 := inj1 z1
  have e3 : [c0, c1, c2, c3, c4] = [c0, c1] ++ (c2 :: [c3, c4]) := rfl
  refine ⟨⟨a, n1, r⟩, by rw [e3, z0, z2, h1]; rfl, w0, by have := bounds_i64 w1; unfold I64; dsimp only; omega, w2⟩
set_option maxRecDepth 100000 in
theorem el_tk (cs : List Value) (fuel : Nat) (x : DataW H × List MemPlace) (hl : cs.length = 4) (h : DataW.trod enc Tryz.prog W base (fun _ => true) held fuel 25 cs = some x) :
  ∃ (a : Tk) (u : Value), cs = [.string a.path, .int .i64 a.fn, u, .int .i64 a.fuel] ∧ Rw 1 lI W W.heap.size u a.args ∧ I64 a.fn ∧ I64 a.fuel ∧ ∀ y ∈ a.args, I64 y := by
 match cs, hl with
 | [c0, c1, c2, c3], _ =>
  obtain ⟨m0, y0, e0⟩ := open_field (P := Tryz.prog) (t := 25) Tryz.underlying25 h 0 _ rfl 0 rfl (by kernel_rfl) (by simp)
  obtain ⟨m1, y1, e1⟩ := open_field (P := Tryz.prog) (t := 25) Tryz.underlying25 h 1 _ rfl 1 rfl (by kernel_rfl) (by simp)
  obtain ⟨m2, y2, e2⟩ := open_field (P := Tryz.prog) (t := 25) Tryz.underlying25 h 2 _ rfl 2 rfl (by kernel_rfl) (by simp)
  obtain ⟨m3, y3, e3⟩ := open_field (P := Tryz.prog) (t := 25) Tryz.underlying25 h 3 _ rfl 3 rfl (by kernel_rfl) (by simp)
  obtain ⟨n0, z0, _⟩ := DataW.trod_string (by kernel_rfl) e0
  obtain ⟨n1, z1, _, w1⟩ := DataW.trod_int (k := .i64) (by kernel_rfl) e1
  obtain ⟨l, hl, hp⟩ := open_list (P := Tryz.prog) (e := 2) lI I64 Tryz.underlying23 (by kernel_rfl) (by decide) e2 (el_i64 Tryz.underlying2)
  obtain ⟨n3, z3, _, w3⟩ := DataW.trod_int (k := .i64) (by kernel_rfl) e3
  have h0 : c0 = .string n0 := inj1 z0
  have h1 : c1 = .int .i64 n1 := inj1 z1
  have h3 : c3 = .int .i64 n3 := inj1 z3
  exact ⟨⟨n0, n1, l, n3⟩, c2, by rw [h0, h1, h3], hl, by have := bounds_i64 w1; unfold I64; dsimp only; omega, by have := bounds_i64 w3; unfold I64; dsimp only; omega, hp⟩
theorem list19 (l : List Value) (h : l.length = 19) : ∃ c0 c1 c2 c3 c4 c5 c6 c7 c8 c9 c10 c11 c12 c13 c14 c15 c16 c17 c18, l = [c0, c1, c2, c3, c4, c5, c6, c7, c8, c9, c10, c11, c12, c13, c14, c15, c16, c17, c18] := by
 match l, h with
 | [c0, c1, c2, c3, c4, c5, c6, c7, c8, c9, c10, c11, c12, c13, c14, c15, c16, c17, c18], _ => exact ⟨c0, c1, c2, c3, c4, c5, c6, c7, c8, c9, c10, c11, c12, c13, c14, c15, c16, c17, c18, rfl⟩
set_option maxRecDepth 100000 in
set_option maxHeartbeats 2000000 in
theorem open_msg {r : Reach} {b0 : Nat} {v : Value} {d : DataW H} {ps : List MemPlace} (hval : Value.okWide Tryz.prog W r b0 34 v) (hd : DataW.Trod enc Tryz.prog W base (fun _ => true) held 34 v d ps) :
  ∃ m u, v = .agg (mcells m u) ∧ MR W W.heap.size m u ∧ TyM m := by
 obtain ⟨cs, rfl, hsz⟩ := okWide_struct Tryz.underlying34 hval
 obtain ⟨fuel, hf⟩ := hd
 have hs : cs.size = 19 := by rw [hsz]; kernel_rfl
 obtain ⟨c0, c1, c2, c3, c4, c5, c6, c7, c8, c9, c10, c11, c12, c13, c14, c15, c16, c17, c18, hl⟩ := list19 cs.toList (by simpa using hs)
 have hf' : DataW.trod enc Tryz.prog W base (fun _ => true) held fuel 34 [c0, c1, c2, c3, c4, c5, c6, c7, c8, c9, c10, c11, c12, c13, c14, c15, c16, c17, c18] = some (d, ps) := by rw [← hl]; exact hf
 have f := fun (i : Nat) (fd : Field) (hi : _) (o : Nat) (ho : fd.offset = o) (hc : Tryz.prog.cellsOf fd.type = 1) (hlt : _) => open_field (P := Tryz.prog) (t := 34) Tryz.underlying34 hf' i fd hi o ho hc hlt
 obtain ⟨_, _, e0⟩ := f 0 _ rfl 0 rfl (by kernel_rfl) (by simp)
 obtain ⟨_, _, e1⟩ := f 1 _ rfl 1 rfl (by kernel_rfl) (by simp)
 obtain ⟨_, _, e2⟩ := f 2 _ rfl 2 rfl (by kernel_rfl) (by simp)
 obtain ⟨_, _, e3⟩ := f 3 _ rfl 3 rfl (by kernel_rfl) (by simp)
 obtain ⟨_, _, e4⟩ := f 4 _ rfl 4 rfl (by kernel_rfl) (by simp)
 obtain ⟨_, _, e5⟩ := f 5 _ rfl 5 rfl (by kernel_rfl) (by simp)
 obtain ⟨_, _, e6⟩ := ms_part (P := Tryz.prog) (t := 34) Tryz.underlying34 hf' 6 _ rfl 6 rfl (k := 4) (by kernel_rfl)
 obtain ⟨_, _, e7⟩ := f 7 _ rfl 10 rfl (by kernel_rfl) (by simp)
 obtain ⟨_, _, e8⟩ := f 8 _ rfl 11 rfl (by kernel_rfl) (by simp)
 obtain ⟨_, _, e9⟩ := f 9 _ rfl 12 rfl (by kernel_rfl) (by simp)
 obtain ⟨_, _, e10⟩ := f 10 _ rfl 13 rfl (by kernel_rfl) (by simp)
 obtain ⟨_, _, e11⟩ := f 11 _ rfl 14 rfl (by kernel_rfl) (by simp)
 obtain ⟨_, _, e12⟩ := f 12 _ rfl 15 rfl (by kernel_rfl) (by simp)
 obtain ⟨_, _, e13⟩ := ms_part (P := Tryz.prog) (t := 34) Tryz.underlying34 hf' 13 _ rfl 16 rfl (k := 2) (by kernel_rfl)
 obtain ⟨_, _, e14⟩ := f 14 _ rfl 18 rfl (by kernel_rfl) (by simp)
 obtain ⟨n0, z0, _, w0⟩ := DataW.trod_int (k := .u8) (by kernel_rfl) e0
 obtain ⟨n1, z1, _, w1⟩ := DataW.trod_int (k := .u64) (by kernel_rfl) e1
 obtain ⟨n2, z2, _⟩ := DataW.trod_string (by kernel_rfl) e2
 obtain ⟨n3, z3, _⟩ := DataW.trod_string (by kernel_rfl) e3
 obtain ⟨l4, r4, p4⟩ := open_list (P := Tryz.prog) (e := 2) lI I64 Tryz.underlying23 (by kernel_rfl) (by decide) e4 (el_i64 Tryz.underlying2)
 obtain ⟨n5, z5, _, w5⟩ := DataW.trod_int (k := .i64) (by kernel_rfl) e5
 obtain ⟨tk, u6, z6, r6, wf, wu, pa⟩ := el_tk [c6, c7, c8, c9] _ _ rfl e6
 obtain ⟨n7, z7, _, w7⟩ := DataW.trod_int (k := .u64) (by kernel_rfl) e7
 obtain ⟨l8, r8, p8⟩ := open_list (P := Tryz.prog) (e := 54) lE _ Tryz.underlying26 (by kernel_rfl) (by decide) e8 el_en
 obtain ⟨l9, r9, p9⟩ := open_list (P := Tryz.prog) (e := 22) lU U64 Tryz.underlying27 (by kernel_rfl) (by decide) e9 (el_u64 Tryz.underlying22)
 obtain ⟨l10, r10, p10⟩ := open_list (P := Tryz.prog) (e := 52) lN (fun n => U64 n.job) Tryz.underlying28 (by kernel_rfl) (by decide) e10 el_nm
 obtain ⟨l11, r11, p11⟩ := open_list (P := Tryz.prog) (e := 30) lI I64 Tryz.underlying29 (by kernel_rfl) (by decide) e11 (el_i64 Tryz.underlying30)
 obtain ⟨n12, z12, _, w12⟩ := DataW.trod_int (k := .u8) (by kernel_rfl) e12
 obtain ⟨rs, z13, wr⟩ := el_rs [c16, c17] _ _ rfl e13
 obtain ⟨n14, z14, _, w14⟩ := DataW.trod_int (k := .i64) (by kernel_rfl) e14
 have h0 : c0 = .int .u8 n0 := inj1 z0
 have h1 : c1 = .int .u64 n1 := inj1 z1
 have h2 : c2 = .string n2 := inj1 z2
 have h3 : c3 = .string n3 := inj1 z3
 have h5 : c5 = .int .i64 n5 := inj1 z5
 have h7 : c10 = .int .u64 n7 := inj1 z7
 have h12 : c15 = .int .u8 n12 := inj1 z12
 have h14 : c18 = .int .i64 n14 := inj1 z14
 injection z6 with h6 z6
 injection z6 with h61 z6
 injection z6 with h62 z6
 have h63 : c9 = .int .i64 tk.fuel := inj1 z6
 injection z13 with h13 z13
 have h131 : c17 = .int .i64 rs.err := inj1 z13
 have b0 := bounds_u8 w0
 have b1 := bounds_u64 w1
 have b5 := bounds_i64 w5
 have b7 := bounds_u64 w7
 have b12 := bounds_u8 w12
 have b14 := bounds_i64 w14
 refine ⟨⟨n0, n1, n2, n3, l4, n5, tk, n7, l8, l9, l10, l11, n12, rs, n14⟩, ⟨c4, c8, c11, c12, c13, c14⟩, ?_, ⟨r4, by rw [h62]; exact r6, r8, r9, r10, r11⟩,
  ⟨by dsimp only; omega, by unfold U64; dsimp only; omega, p4, by unfold I64; dsimp only; omega, wf, pa, wu, by unfold U64; dsimp only; omega, p8, p9, p10, p11, by dsimp only; omega, wr, by unfold I64; dsimp only; omega⟩⟩
 congr 1
 apply Array.ext'
 rw [hl, h0, h1, h2, h3, h5, h6, h61, h63, h7, h12, h13, h131, h14]
 rfl
end
end Go.Proofs.YtghbjknpffiaiaaGreat

namespace Go.Proofs.YtghbjknpffiaiaaGreat
open Go.RowKit Wire Ms
set_option linter.unusedVariables false
set_option linter.unusedSimpArgs false
structure ApC (W W1 : World) (g : Nat) (m : M) (v : VS) : Prop where
 blk : ∀ w, Below W1.heap.size W1 w → Blk w g 34 (mcells m v)
 row : ∀ w, Below W1.heap.size W1 w → MR w w.heap.size m v
theorem ApC.one {W W1 : World} {g : Nat} {m : M} {v : VS} (h : MR W W.heap.size m v) (hb : Below W.heap.size W W1) (hk : Blk W1 g 34 (mcells m v)) : ApC W W1 g m v :=
 ⟨fun w k => hk.below k, fun w k => (h.keep fun b o x h1 h2 => Below.cellq (hb.trans (k.mono hb.size)) h1 h2).mono (Nat.le_trans hb.size k.size)⟩
end Go.Proofs.YtghbjknpffiaiaaGreat
