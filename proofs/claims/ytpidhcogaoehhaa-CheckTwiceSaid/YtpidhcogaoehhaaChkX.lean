import Derived.Test.YtpidhcogaoehhaaMge
import Derived.Test.YtpidhcogaoehhaaChkU
import Derived.Test.YtpidhcogaoehhaaMgl

/- The walk of the law's own examples: 'alive'. No condition. -/
namespace Go.Proofs.Ytpidhcogaoehhaa
open Go.RowKit Cd
set_option linter.unusedVariables false
set_option linter.unusedSimpArgs false
namespace Cd
theorem exA_lim : Lim exA := one_lim _
theorem exB_lim : Lim exB := one_lim _
theorem exC_lim : Lim exC := one_lim _
theorem exA_in1 : inE exA 1 = 0 := by kernel_rfl
theorem exA_in0 : inE exA 0 = 114 := by kernel_rfl
end Cd
theorem ints_one {w : World} {g o c : Nat} {x : Int} (h : IntsAt w (.slice (some ⟨g, o, none⟩) 1 c) [x]) : w.cell? ⟨g, o, none⟩ = some (.int .i64 x) := by
  obtain ⟨p, cap, e, hx⟩ := h
  injection e with e1 _ _
  subst e1
  obtain ⟨g', o', e2, _, hc⟩ := hx (by simp)
  injection e2 with e2
  injection e2 with e2 e3 _
  subst e2 e3
  exact hc 0 (by simp)
theorem IntsAt.drew {w : World} {v : Value} {l : List Int} (h : IntsAt w v l) : IntsAt w.drew v l := h.below (Below.refl _ _).drew
theorem IntsAt.sliceN {w : World} {v : Value} {l : List Int} {n : Nat} (h : IntsAt w v l) (hn : l.length = n) : ∃ p c, v = .slice p n c := by subst hn; obtain ⟨p, c, e, _⟩ := h; exact ⟨p, c, e⟩
theorem funs_nil (w : World) : FunsAt w (.slice none 0 0) [] := ⟨none, 0, rfl, fun h => absurd h (by decide)⟩
theorem Cd.FunsAt.sliceN {w : World} {v : Value} {l : List FunV} {n : Nat} (h : FunsAt w v l) (hn : l.length = n) : ∃ p c, v = .slice p n c := by subst hn; obtain ⟨p, c, e, _⟩ := h; exact ⟨p, c, e⟩
theorem Cd.OpsAt.sliceN {w : World} {v : Value} {l : List OpV} {n : Nat} (h : OpsAt w v l) (hn : l.length = n) : ∃ p c, v = .slice p n c := by subst hn; obtain ⟨p, c, e, _⟩ := h; exact ⟨p, c, e⟩
/-- The first example lies in block P1. -/
structure AlW (W : World) (P1 : Nat) (p1 : Option Addr) (c1 : Nat) (w : World) : Prop where
  t : Blk w P1 24 #[.slice p1 1 c1]
  a : FunsAt w (.slice p1 1 c1) exA
  bel : Below W.heap.size W w
theorem AlW.step {W : World} {P1 : Nat} {p1 : Option Addr} {c1 : Nat} {w w' : World} (h : AlW W P1 p1 c1 w) (k : Below w.heap.size w w') : AlW W P1 p1 c1 w' := ⟨h.t.below k, h.a.below k, h.bel.step k⟩
theorem AlW.alloc {W : World} {P1 : Nat} {p1 : Option Addr} {c1 : Nat} {w : World} (h : AlW W P1 p1 c1 w) (o : Obj) : AlW W P1 p1 c1 (w.alloc o) := h.step ((Below.refl _ _).alloc (Nat.le_refl _) o)
theorem one_c {w : World} {k d a b n : Int} {l : List FunV} (h : l = [⟨1, 1, [⟨k, d, a, b, n⟩]⟩]) : Calls Try.prog 17 #[.agg #[.int .u8 k, .int .i64 d, .int .i64 a, .int .i64 b, .int .i64 n]] w fun e w' => ∃ v, e = .returned (.agg #[v]) ∧ FunsAt w' v l ∧ Below w.heap.size w w' := by
  subst h; exact one_any k d a b n
theorem cin_c {W : World} {x : Value} {l : List FunV} {q : Option Addr} {m cq : Nat} {c : Int} (hx : FunsAt W x l) (hl : Lim l) (ho : OkP l) (h : inE l m = c) : Calls Try.prog 9 #[.agg #[x], .slice q m cq] W fun e w' => e = .returned (.int .i64 c) ∧ Below W.heap.size W w' :=
  (cinput_any hx hl ho).mono fun e w' ⟨r, h1, h2, h3⟩ => by
    rw [h] at h2
    subst h2
    exact ⟨h1, h3⟩
theorem cmay_c {W : World} {x : Value} {l : List FunV} {c : Int} {fn op : Nat} (hx : FunsAt W x l) (hl : Lim l) (ho : OkP l) (h : lookE l = (c, fn, op)) : Calls Try.prog 7 #[.agg #[x]] W fun e w' => e = .returned (.tuple #[.int .i64 c, .int .i64 fn, .int .i64 op]) ∧ Below W.heap.size W w' :=
  (cmay_any hx hl ho).mono fun e w' ⟨c', f', o', h1, h2, h3⟩ => by
    rw [h] at h2
    injection h2 with h2 h4
    injection h4 with h4 h5
    subst h2 h4 h5
    exact ⟨h1, h3⟩
set_option maxRecDepth 100000 in
set_option maxHeartbeats 40000000 in
theorem alive11_any (w : World) : Calls Try.prog 6 #[] w fun e w' => e = .returned (.bool true) ∧ Below w.heap.size w w' := by
  go_enter Try.func6, Try.ntmps6
  go_upto_region 2 with (go_at_call 17; ((with_reducible refine (one_c (l := exA) rfl).mono ?_); rintro e w1 ⟨v1, rfl, hv1, b1⟩; obtain ⟨p1, c1, rfl⟩ := hv1.sliceN (n := 1) rfl; have HV1 := Lib.hid hv1; have HB1 := Lib.hid b1; clear hv1 b1))
  have HX1 : Hid (AlW w w1.heap.size p1 c1 (w1.alloc (.cells #[.slice p1 1 c1] 24))) := Lib.hid ⟨Blk.new w1 _ _, HV1.out.alloc _, HB1.out.alloc HB1.out.size _⟩
  clear HV1 HB1
  generalize w1.alloc (.cells #[.slice p1 1 c1] 24) = wA at *
  generalize w1.heap.size = P1 at *
  have z1 : wA.cell? ⟨P1, 0, none⟩ = some (.slice p1 1 c1) := HX1.out.t.cell 0
  go_upto_region 3 with (go_at_call 7; ((with_reducible refine (cmay_c HX1.out.a exA_lim exA_ok exA_look).mono ?_); rintro e w2 ⟨rfl, b2⟩; have HX2 := Lib.hid (HX1.out.step b2); clear b2))
  clear z1 HX1
  go_upto_region 4 with (first | (go_at_call 17; ((with_reducible refine (one_c (l := exB) rfl).mono ?_); rintro e w3 ⟨v3, rfl, hv3, b3⟩; obtain ⟨p3, c3, rfl⟩ := hv3.sliceN (n := 1) rfl; have HV3 := Lib.hid hv3; have HX3 := Lib.hid (HX2.out.step b3); clear hv3 b3)) | (go_at_call 7; ((with_reducible refine (cmay_c HV3.out exB_lim exB_ok exB_look).mono ?_); rintro e w4 ⟨rfl, b4⟩; have HX4 := Lib.hid (HX3.out.step b4); clear b4)))
  clear HX2 HX3 HV3
  go_upto_region 5 with (first | (go_at_call 17; ((with_reducible refine (one_c (l := exC) rfl).mono ?_); rintro e w5 ⟨v5, rfl, hv5, b5⟩; obtain ⟨p5, c5, rfl⟩ := hv5.sliceN (n := 1) rfl; have HV5 := Lib.hid hv5; have HX5 := Lib.hid (HX4.out.step b5); clear hv5 b5)) | (go_at_call 7; ((with_reducible refine (cmay_c HV5.out exC_lim exC_ok exC_look).mono ?_); rintro e w6 ⟨rfl, b6⟩; have HX6 := Lib.hid (HX5.out.step b6); clear b6)))
  clear HX4 HX5 HV5
  go_upto_region 6 with (go_at_call 7; ((with_reducible refine (cmay_c (l := []) (x := .slice none 0 0) (funs_nil _) ex0_lim ex0_ok ex0_look).mono ?_); rintro e w7 ⟨rfl, b7⟩; have HX7 := Lib.hid (HX6.out.step b7); clear b7))
  clear HX6
  have z7 : w7.cell? ⟨P1, 0, none⟩ = some (.slice p1 1 c1) := HX7.out.t.cell 0
  obtain ⟨p', c', e1, hy⟩ := HX7.out.a
  injection e1 with e1 e2 e3
  subst e1 e3
  clear e2
  obtain ⟨g1, o1, e1, hg1, hy'⟩ := hy (by decide)
  clear hy
  subst e1
  have hy := hy'
  clear hy'
  obtain ⟨y0, y1, vo, y2, hvo⟩ := hy 0 (by decide)
  have HVO := Lib.hid (show OpsAt w7 vo [⟨14, 0, 0, 0, 0⟩] from hvo)
  obtain ⟨pj, cj, rfl⟩ := hvo.sliceN (n := 1) rfl
  have y0' : w7.cell? ⟨g1, o1, none⟩ = some (.int .i64 1) := y0
  have y1' : w7.cell? ⟨g1, o1 + 1, none⟩ = some (.int .i64 1) := y1
  have y2' : w7.cell? ⟨g1, o1 + 2, none⟩ = some (.slice pj 1 cj) := y2
  clear hy y0 y1 y2 hvo
  have HD := Lib.hid (show FunsAt ((w7.alloc (.cells #[.int .u8 13, .int .i64 0, .int .i64 0, .int .i64 0, .int .i64 0, .int .u8 12, .int .i64 0, .int .i64 0, .int .i64 0, .int .i64 1] 50)).alloc (.cells #[.int .i64 1, .int .i64 1, .slice pj 1 cj, .int .i64 1, .int .i64 1, .slice (some ⟨w7.heap.size, 0, none⟩) 2 2] 47)) (.slice (some ⟨w7.heap.size + 1, 0, none⟩) 2 2) exD from
    funs_blk2 (Blk.new2 w7 _ _ _) (HVO.out.below (Below.alloc2 _ _)) (ops_blk (l := [⟨13, 0, 0, 0, 0⟩, ⟨12, 0, 0, 0, 1⟩]) (cap := 2) (by exact (Blk.new w7 _ _).alloc _)))
  have HY := Lib.hid (fun w' (hb : Below w7.heap.size w7 w') => show w'.cell? ⟨g1, o1, none⟩ = some (.int .i64 1) ∧ w'.cell? ⟨g1, o1 + 1, none⟩ = some (.int .i64 1) ∧ w'.cell? ⟨g1, o1 + 2, none⟩ = some (.slice pj 1 cj) from ⟨by rw [hb.cell (p := ⟨g1, _, none⟩) hg1]; exact y0', by rw [hb.cell (p := ⟨g1, _, none⟩) hg1]; exact y1', by rw [hb.cell (p := ⟨g1, _, none⟩) hg1]; exact y2'⟩)
  go_upto_region 7 with (go_at_call 7; ((with_reducible refine (cmay_c HD.out exD_lim exD_ok exD_look).mono ?_); rintro e w8 ⟨rfl, b8⟩; have hb8 := (Below.alloc2 (w := w7) (.cells #[.int .u8 13, .int .i64 0, .int .i64 0, .int .i64 0, .int .i64 0, .int .u8 12, .int .i64 0, .int .i64 0, .int .i64 0, .int .i64 1] 50) (.cells #[.int .i64 1, .int .i64 1, .slice pj 1 cj, .int .i64 1, .int .i64 1, .slice (some ⟨w7.heap.size, 0, none⟩) 2 2] 47)).step b8; have HX8 := Lib.hid (HX7.out.step hb8); have HVO8 := Lib.hid (HVO.out.below hb8); have hy8 := HY.out w8 hb8; have hs8 := hb8.size; clear b8 hb8))
  obtain ⟨x0, x1, x2⟩ := hy8
  have z8 : w8.cell? ⟨P1, 0, none⟩ = some (.slice (some ⟨g1, o1, none⟩) 1 c1) := HX8.out.t.cell 0
  have hg8 : g1 < w8.heap.size := Nat.lt_of_lt_of_le hg1 hs8
  have hP8 := HX8.out.t.lt
  clear z7 y0' y1' y2' HY HD HVO HX7 hs8 hg1
  have hE : FunsAt (((w8.alloc (.cells #[.int .u8 12, .int .i64 0, .int .i64 0, .int .i64 0, .int .i64 1, .int .u8 14, .int .i64 0, .int .i64 0, .int .i64 0, .int .i64 0] 50)).alloc (.cells #[.int .i64 1, .int .i64 1, .slice (some ⟨w8.heap.size, 0, none⟩) 2 2, .int .i64 1, .int .i64 1, .slice pj 1 cj] 47)).alloc (.cells #[.slice (some ⟨w8.heap.size + 1, 0, none⟩) 2 2] 24)) (.slice (some ⟨w8.heap.size + 1, 0, none⟩) 2 2) exE :=
    funs_blk2 ((Blk.new2 w8 _ _ _).alloc _) (ops_blk (l := [⟨12, 0, 0, 0, 1⟩, ⟨14, 0, 0, 0, 0⟩]) (cap := 2) (by exact ((Blk.new w8 _ _).alloc _).alloc _)) (HVO8.out.below (((Below.refl _ _).alloc (Nat.le_refl _) _ |>.alloc (by simp) _).alloc (by simp; omega) _))
  have hP : Blk (((w8.alloc (.cells #[.int .u8 12, .int .i64 0, .int .i64 0, .int .i64 0, .int .i64 1, .int .u8 14, .int .i64 0, .int .i64 0, .int .i64 0, .int .i64 0] 50)).alloc (.cells #[.int .i64 1, .int .i64 1, .slice (some ⟨w8.heap.size, 0, none⟩) 2 2, .int .i64 1, .int .i64 1, .slice pj 1 cj] 47)).alloc (.cells #[.slice (some ⟨w8.heap.size + 1, 0, none⟩) 2 2] 24)) (w8.heap.size + 1 + 1) 24 #[.slice (some ⟨w8.heap.size + 1, 0, none⟩) 2 2] := by
    have := Blk.new2 (w8.alloc (.cells #[.int .u8 12, .int .i64 0, .int .i64 0, .int .i64 0, .int .i64 1, .int .u8 14, .int .i64 0, .int .i64 0, .int .i64 0, .int .i64 0] 50)) (.cells #[.int .i64 1, .int .i64 1, .slice (some ⟨w8.heap.size, 0, none⟩) 2 2, .int .i64 1, .int .i64 1, .slice pj 1 cj] 47) 24 #[.slice (some ⟨w8.heap.size + 1, 0, none⟩) 2 2]
    simpa using this
  have HE := Lib.hid hE
  have HP := Lib.hid hP
  have HX9 := Lib.hid (((HX8.out.alloc (.cells #[.int .u8 12, .int .i64 0, .int .i64 0, .int .i64 0, .int .i64 1, .int .u8 14, .int .i64 0, .int .i64 0, .int .i64 0, .int .i64 0] 50)).alloc (.cells #[.int .i64 1, .int .i64 1, .slice (some ⟨w8.heap.size, 0, none⟩) 2 2, .int .i64 1, .int .i64 1, .slice pj 1 cj] 47)).alloc (.cells #[.slice (some ⟨w8.heap.size + 1, 0, none⟩) 2 2] 24))
  clear hE hP
  go_upto_region 8 with fail
  clear z8 x0 x1 x2 hg8 hP8 HX8 HVO8
  generalize ((w8.alloc (.cells #[.int .u8 12, .int .i64 0, .int .i64 0, .int .i64 0, .int .i64 1, .int .u8 14, .int .i64 0, .int .i64 0, .int .i64 0, .int .i64 0] 50)).alloc (.cells #[.int .i64 1, .int .i64 1, .slice (some ⟨w8.heap.size, 0, none⟩) 2 2, .int .i64 1, .int .i64 1, .slice pj 1 cj] 47)).alloc (.cells #[.slice (some ⟨w8.heap.size + 1, 0, none⟩) 2 2] 24) = wB at *
  generalize w8.heap.size + 1 = gE at *
  generalize gE + 1 = P2 at *
  have z9 : wB.cell? ⟨P2, 0, none⟩ = some (.slice (some ⟨gE, 0, none⟩) 2 2) := HP.out.cell 0
  go_upto_region 9 with (go_at_call 12; ((with_reducible refine (reach_any HE.out exE_lim exE_ok).mono ?_); rintro e w9 ⟨v9, rfl, hR, b9⟩; rw [exE_reach0] at hR; obtain ⟨pR, cR, rfl⟩ := hR.sliceN (n := 1) rfl; have HR := Lib.hid hR; have HE9 := Lib.hid (HE.out.below b9); have HP9 := Lib.hid (HP.out.below b9); have HX10 := Lib.hid (HX9.out.step b9); clear hR b9))
  clear z9 HE HP HX9
  obtain ⟨p', c', e1, hy⟩ := HR.out
  injection e1 with e1 e2 e3
  subst e1 e3
  clear e2
  obtain ⟨gR, oR, e1, hq1, hq2⟩ := hy (by decide)
  subst e1
  clear hy hq1 hq2
  have HA := Lib.hid HX10.out.a
  have HE := Lib.hid HE9.out
  have HP1 := Lib.hid HX10.out.t
  have HP2 := Lib.hid HP9.out
  have HBR := Lib.hid HX10.out.bel
  clear HX10 HE9 HP9
  obtain ⟨wR, rfl⟩ : ∃ wR, wR = w9 := ⟨_, rfl⟩

  have HAA := Lib.hid (HA.out.alloc (.cells #[.int .i64 5] 2))
  have HSS := Lib.hid ((Below.refl _ wR).alloc (Nat.le_refl _) (.cells #[.int .i64 5] 2))
  have q1 : wR.cell? ⟨P1, 0, none⟩ = some (.slice (some ⟨g1, o1, none⟩) 1 c1) := HP1.out.cell 0
  go_wp2_with (first
    | (go_at_call 9; ((with_reducible refine (cin_c (m := 1) HAA.out exA_lim exA_ok exA_in1).mono ?_); rintro e w21 ⟨rfl, b21⟩; have HS1 := Lib.hid (HSS.out.step b21); clear b21; have HA1 := Lib.hid (HA.out.below HS1.out); have q11 : w21.cell? ⟨P1, 0, none⟩ = some (.slice (some ⟨g1, o1, none⟩) 1 c1) := (HP1.out.below HS1.out).cell 0))
    | (go_at_call 9; ((with_reducible refine (cin_c (m := 0) HA1.out exA_lim exA_ok exA_in0).mono ?_); rintro e w22 ⟨rfl, b22⟩; have HS2 := Lib.hid (HS1.out.step b22); clear b22; have HE2 := Lib.hid (HE.out.below HS2.out); have q13 : w22.cell? ⟨gR, oR, none⟩ = some (.int .i64 1) := ints_one (HR.out.below HS2.out); have q12 : w22.cell? ⟨P2, 0, none⟩ = some (.slice (some ⟨gE, 0, none⟩) 2 2) := (HP2.out.below HS2.out).cell 0))
    | (go_at_call 12; ((with_reducible refine (reach_any HE2.out exE_lim exE_ok).mono ?_); rintro e w23 ⟨v23, rfl, hR3, b23⟩; rw [exE_reach1] at hR3; obtain ⟨pR3, cR3, rfl⟩ := hR3.sliceN (n := 0) rfl; have HS3 := Lib.hid (HS2.out.step b23); clear b23 hR3)))
  go_ret
  exact ⟨rfl, HBR.out.step HS3.out⟩
end Go.Proofs.Ytpidhcogaoehhaa
