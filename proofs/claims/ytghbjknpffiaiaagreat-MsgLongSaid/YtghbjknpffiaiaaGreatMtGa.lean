import Derived.Test.YtghbjknpffiaiaaGreatMtEs
namespace Go.Proofs.YtghbjknpffiaiaaGreat
open Go.RowKit Wire Ms
set_option linter.unusedVariables false
set_option linter.unusedSimpArgs false
set_option maxRecDepth 100000 in
set_option maxHeartbeats 8000000 in
theorem rsame_c0 {m n : M} {v u : VS} {W : World} {B : Nat} (hv : MR W B m v) (hu : MR W B n u) (hB : B ≤ W.heap.size) (hl : Lite m) (hne : ¬ m.kind = n.kind) : Calls Tryz.prog 13 #[.agg (mcells m v), .agg (mcells n u)] W (EqP false W) := by
 have K0 := Lib.hid (tw0 W (mcells m v) (mcells n u))
 obtain ⟨a0, a1, a2, a3, a4, a5, ⟨a6, a7, a8, a9⟩, a10, a11, a12, a13, a14, a15, ⟨a16, a17⟩, a18⟩ := m
 obtain ⟨b0, b1, b2, b3, b4, b5, ⟨b6, b7, b8, b9⟩, b10, b11, b12, b13, b14, b15, ⟨b16, b17⟩, b18⟩ := n
 obtain ⟨p1, n1, c1, p2, n2, c2, p3, n3, c3, p4, n4, c4, p5, n5, c5, p6, n6, c6, rfl⟩ := hv.vs9
 obtain ⟨q1, l1, d1, q2, l2, d2, q3, l3, d3, q4, l4, d4, q5, l5, d5, q6, l6, d6, rfl⟩ := hu.vs9
 have hb' : (a0 == b0) = false := by simpa using hne
 clear hv hu hl hB hne
 unfold mcells at K0 ⊢
 dsimp only at K0 ⊢
 go_enter Tryz.func13, Tryz.ntmps13
 go_wp2_with fail
 go_ret
 exact ⟨rfl, K0.out.b⟩
set_option maxRecDepth 100000 in
set_option maxHeartbeats 8000000 in
theorem rsame_c1 {m n : M} {v u : VS} {W : World} {B : Nat} (hv : MR W B m v) (hu : MR W B n u) (hB : B ≤ W.heap.size) (hl : Lite m) (e : E1 m n) (hne : ¬ m.job = n.job) : Calls Tryz.prog 13 #[.agg (mcells m v), .agg (mcells n u)] W (EqP false W) := by
 have K0 := Lib.hid (tw0 W (mcells m v) (mcells n u))
 obtain ⟨a0, a1, a2, a3, a4, a5, ⟨a6, a7, a8, a9⟩, a10, a11, a12, a13, a14, a15, ⟨a16, a17⟩, a18⟩ := m
 obtain ⟨b0, b1, b2, b3, b4, b5, ⟨b6, b7, b8, b9⟩, b10, b11, b12, b13, b14, b15, ⟨b16, b17⟩, b18⟩ := n
 dsimp only [E1] at e
 obtain rfl := e
 obtain ⟨p1, n1, c1, p2, n2, c2, p3, n3, c3, p4, n4, c4, p5, n5, c5, p6, n6, c6, rfl⟩ := hv.vs9
 obtain ⟨q1, l1, d1, q2, l2, d2, q3, l3, d3, q4, l4, d4, q5, l5, d5, q6, l6, d6, rfl⟩ := hu.vs9
 have hb' : (a1 == b1) = false := by simpa using hne
 clear hv hu hl hB hne
 unfold mcells at K0 ⊢
 dsimp only at K0 ⊢
 go_enter Tryz.func13, Tryz.ntmps13
 go_wp2_with fail
 go_ret
 exact ⟨rfl, K0.out.b⟩
set_option maxRecDepth 100000 in
set_option maxHeartbeats 8000000 in
theorem rsame_c2 {m n : M} {v u : VS} {W : World} {B : Nat} (hv : MR W B m v) (hu : MR W B n u) (hB : B ≤ W.heap.size) (hl : Lite m) (e : E2 m n) (hne : ¬ m.tok = n.tok) : Calls Tryz.prog 13 #[.agg (mcells m v), .agg (mcells n u)] W (EqP false W) := by
 have K0 := Lib.hid (tw0 W (mcells m v) (mcells n u))
 obtain ⟨a0, a1, a2, a3, a4, a5, ⟨a6, a7, a8, a9⟩, a10, a11, a12, a13, a14, a15, ⟨a16, a17⟩, a18⟩ := m
 obtain ⟨b0, b1, b2, b3, b4, b5, ⟨b6, b7, b8, b9⟩, b10, b11, b12, b13, b14, b15, ⟨b16, b17⟩, b18⟩ := n
 dsimp only [E2] at e
 obtain ⟨rfl, rfl⟩ := e
 obtain ⟨p1, n1, c1, p2, n2, c2, p3, n3, c3, p4, n4, c4, p5, n5, c5, p6, n6, c6, rfl⟩ := hv.vs9
 obtain ⟨q1, l1, d1, q2, l2, d2, q3, l3, d3, q4, l4, d4, q5, l5, d5, q6, l6, d6, rfl⟩ := hu.vs9
 have hb' := str_ne hne
 clear hv hu hl hB hne
 unfold mcells at K0 ⊢
 dsimp only at K0 ⊢
 go_enter Tryz.func13, Tryz.ntmps13
 go_wp2_with fail
 go_ret
 exact ⟨rfl, K0.out.b⟩
set_option maxRecDepth 100000 in
set_option maxHeartbeats 8000000 in
theorem rsame_c3 {m n : M} {v u : VS} {W : World} {B : Nat} (hv : MR W B m v) (hu : MR W B n u) (hB : B ≤ W.heap.size) (hl : Lite m) (e : E3 m n) (hne : ¬ m.prog = n.prog) : Calls Tryz.prog 13 #[.agg (mcells m v), .agg (mcells n u)] W (EqP false W) := by
 have K0 := Lib.hid (tw0 W (mcells m v) (mcells n u))
 obtain ⟨a0, a1, a2, a3, a4, a5, ⟨a6, a7, a8, a9⟩, a10, a11, a12, a13, a14, a15, ⟨a16, a17⟩, a18⟩ := m
 obtain ⟨b0, b1, b2, b3, b4, b5, ⟨b6, b7, b8, b9⟩, b10, b11, b12, b13, b14, b15, ⟨b16, b17⟩, b18⟩ := n
 dsimp only [E3] at e
 obtain ⟨rfl, rfl, rfl⟩ := e
 obtain ⟨p1, n1, c1, p2, n2, c2, p3, n3, c3, p4, n4, c4, p5, n5, c5, p6, n6, c6, rfl⟩ := hv.vs9
 obtain ⟨q1, l1, d1, q2, l2, d2, q3, l3, d3, q4, l4, d4, q5, l5, d5, q6, l6, d6, rfl⟩ := hu.vs9
 have hs2 := str_of (a := a2) rfl
 have hb' := str_ne hne
 clear hv hu hl hB hne
 unfold mcells at K0 ⊢
 dsimp only at K0 ⊢
 go_enter Tryz.func13, Tryz.ntmps13
 go_wp2_with fail
 go_ret
 exact ⟨rfl, K0.out.b⟩
set_option maxRecDepth 100000 in
set_option maxHeartbeats 8000000 in
theorem rsame_c4 {m n : M} {v u : VS} {W : World} {B : Nat} (hv : MR W B m v) (hu : MR W B n u) (hB : B ≤ W.heap.size) (hl : Lite m) (e : E4 m n) (hne : ¬ m.input = n.input) : Calls Tryz.prog 13 #[.agg (mcells m v), .agg (mcells n u)] W (EqP false W) := by
 have K0 := Lib.hid (tw0 W (mcells m v) (mcells n u))
 obtain ⟨a0, a1, a2, a3, a4, a5, ⟨a6, a7, a8, a9⟩, a10, a11, a12, a13, a14, a15, ⟨a16, a17⟩, a18⟩ := m
 obtain ⟨b0, b1, b2, b3, b4, b5, ⟨b6, b7, b8, b9⟩, b10, b11, b12, b13, b14, b15, ⟨b16, b17⟩, b18⟩ := n
 dsimp only [E4] at e
 obtain ⟨rfl, rfl, rfl, rfl⟩ := e
 obtain ⟨p1, n1, c1, p2, n2, c2, p3, n3, c3, p4, n4, c4, p5, n5, c5, p6, n6, c6, rfl⟩ := hv.vs9
 obtain ⟨q1, l1, d1, q2, l2, d2, q3, l3, d3, q4, l4, d4, q5, l5, d5, q6, l6, d6, rfl⟩ := hu.vs9
 have H1 := Lib.hid (eqD1 hv hu hB hl (decide_eq_false hne))
 have hs2 := str_of (a := a2) rfl
 have hs3 := str_of (a := a3) rfl
 clear hv hu hl hB hne
 unfold mcells at K0 ⊢
 dsimp only at K0 H1 ⊢
 go_enter Tryz.func13, Tryz.ntmps13
 go_wp2_with (go_at_call 30; go_loud ((with_reducible refine (H1.out _ K0.out.b).mono ?_); rintro e w1 ⟨rfl, hb⟩; have K1 := Lib.hid (K0.out.step hb); clear hb))
 go_ret
 exact ⟨rfl, K1.out.b⟩
set_option maxRecDepth 100000 in
set_option maxHeartbeats 8000000 in
theorem rsame_c5 {m n : M} {v u : VS} {W : World} {B : Nat} (hv : MR W B m v) (hu : MR W B n u) (hB : B ≤ W.heap.size) (hl : Lite m) (e : E5 m n) (hne : ¬ m.fuel = n.fuel) : Calls Tryz.prog 13 #[.agg (mcells m v), .agg (mcells n u)] W (EqP false W) := by
 have K0 := Lib.hid (tw0 W (mcells m v) (mcells n u))
 obtain ⟨a0, a1, a2, a3, a4, a5, ⟨a6, a7, a8, a9⟩, a10, a11, a12, a13, a14, a15, ⟨a16, a17⟩, a18⟩ := m
 obtain ⟨b0, b1, b2, b3, b4, b5, ⟨b6, b7, b8, b9⟩, b10, b11, b12, b13, b14, b15, ⟨b16, b17⟩, b18⟩ := n
 dsimp only [E5] at e
 obtain ⟨rfl, rfl, rfl, rfl, rfl⟩ := e
 obtain ⟨p1, n1, c1, p2, n2, c2, p3, n3, c3, p4, n4, c4, p5, n5, c5, p6, n6, c6, rfl⟩ := hv.vs9
 obtain ⟨q1, l1, d1, q2, l2, d2, q3, l3, d3, q4, l4, d4, q5, l5, d5, q6, l6, d6, rfl⟩ := hu.vs9
 have H1 := Lib.hid (eqD1 hv hu hB hl (decide_eq_true rfl))
 have hs2 := str_of (a := a2) rfl
 have hs3 := str_of (a := a3) rfl
 have hb' : (a5 == b5) = false := by simpa using hne
 clear hv hu hl hB hne
 unfold mcells at K0 ⊢
 dsimp only at K0 H1 ⊢
 go_enter Tryz.func13, Tryz.ntmps13
 go_wp2_with (go_at_call 30; go_loud ((with_reducible refine (H1.out _ K0.out.b).mono ?_); rintro e w1 ⟨rfl, hb⟩; have K1 := Lib.hid (K0.out.step hb); clear hb; obtain ⟨-, -, -, -, -, x5, -⟩ := c19 K1.out.a; obtain ⟨-, -, -, -, -, y5, -⟩ := c19 K1.out.x))
 go_ret
 exact ⟨rfl, K1.out.b⟩
end Go.Proofs.YtghbjknpffiaiaaGreat
