import Derived.Test.YtghbjknpffiaiaaGreatMtEs
namespace Go.Proofs.YtghbjknpffiaiaaGreat
open Go.RowKit Wire Ms
set_option linter.unusedVariables false
set_option linter.unusedSimpArgs false
set_option maxRecDepth 100000 in
set_option maxHeartbeats 8000000 in
theorem rsame_c12 {m n : M} {v u : VS} {W : World} {B : Nat} (hv : MR W B m v) (hu : MR W B n u) (hB : B ≤ W.heap.size) (hl : Lite m) (e : E12 m n) (hne : ¬ m.state = n.state) : Calls Tryz.prog 13 #[.agg (mcells m v), .agg (mcells n u)] W (EqP false W) := by
 have K0 := Lib.hid (tw0 W (mcells m v) (mcells n u))
 obtain ⟨a0, a1, a2, a3, a4, a5, ⟨a6, a7, a8, a9⟩, a10, a11, a12, a13, a14, a15, ⟨a16, a17⟩, a18⟩ := m
 obtain ⟨b0, b1, b2, b3, b4, b5, ⟨b6, b7, b8, b9⟩, b10, b11, b12, b13, b14, b15, ⟨b16, b17⟩, b18⟩ := n
 dsimp only [E12] at e
 obtain ⟨rfl, rfl, rfl, rfl, rfl, rfl, rfl, rfl, rfl, rfl, rfl, rfl, rfl, rfl, rfl⟩ := e
 obtain ⟨p1, n1, c1, p2, n2, c2, p3, n3, c3, p4, n4, c4, p5, n5, c5, p6, n6, c6, rfl⟩ := hv.vs9
 obtain ⟨q1, l1, d1, q2, l2, d2, q3, l3, d3, q4, l4, d4, q5, l5, d5, q6, l6, d6, rfl⟩ := hu.vs9
 have H1 := Lib.hid (eqD1 hv hu hB hl (decide_eq_true rfl))
 have H2 := Lib.hid (eqD2 hv hu hB hl (decide_eq_true rfl))
 have H3 := Lib.hid (eqD3 hv hu hB hl (decide_eq_true rfl))
 have H4 := Lib.hid (eqD4 hv hu hB hl (decide_eq_true rfl))
 have H5 := Lib.hid (eqD5 hv hu hB hl (decide_eq_true rfl))
 have H6 := Lib.hid (eqD6 hv hu hB hl (decide_eq_true rfl))
 have hs2 := str_of (a := a2) rfl
 have hs3 := str_of (a := a3) rfl
 have hb' : (a15 == b15) = false := by simpa using hne
 clear hv hu hl hB hne
 unfold mcells at K0 ⊢
 dsimp only at K0 H1 H2 H3 H4 H5 H6 ⊢
 go_enter Tryz.func13, Tryz.ntmps13
 go_wp2_with (first | (go_at_call 30; go_loud ((with_reducible refine (H1.out _ K0.out.b).mono ?_); rintro e w1 ⟨rfl, hb⟩; have K1 := Lib.hid (K0.out.step hb); clear hb; obtain ⟨-, -, -, -, -, x5, x6, x7, x8, x9, -⟩ := c19 K1.out.a; obtain ⟨-, -, -, -, -, y5, y6, y7, y8, y9, -⟩ := c19 K1.out.x)) | (go_at_call 31; go_loud ((with_reducible refine (H2.out _ K1.out.b).mono ?_); rintro e w2 ⟨rfl, hb⟩; have K2 := Lib.hid (K1.out.step hb); clear hb; obtain ⟨-, -, -, -, -, -, -, -, -, -, x10, x11, -⟩ := c19 K2.out.a; obtain ⟨-, -, -, -, -, -, -, -, -, -, y10, y11, -⟩ := c19 K2.out.x)) | (go_at_call 32; go_loud ((with_reducible refine (H3.out _ K2.out.b).mono ?_); rintro e w3 ⟨rfl, hb⟩; have K3 := Lib.hid (K2.out.step hb); clear hb; obtain ⟨-, -, -, -, -, -, -, -, -, -, -, -, x12, -⟩ := c19 K3.out.a; obtain ⟨-, -, -, -, -, -, -, -, -, -, -, -, y12, -⟩ := c19 K3.out.x)) | (go_at_call 33; go_loud ((with_reducible refine (H4.out _ K3.out.b).mono ?_); rintro e w4 ⟨rfl, hb⟩; have K4 := Lib.hid (K3.out.step hb); clear hb; obtain ⟨-, -, -, -, -, -, -, -, -, -, -, -, -, x13, -⟩ := c19 K4.out.a; obtain ⟨-, -, -, -, -, -, -, -, -, -, -, -, -, y13, -⟩ := c19 K4.out.x)) | (go_at_call 34; go_loud ((with_reducible refine (H5.out _ K4.out.b).mono ?_); rintro e w5 ⟨rfl, hb⟩; have K5 := Lib.hid (K4.out.step hb); clear hb; obtain ⟨-, -, -, -, -, -, -, -, -, -, -, -, -, -, x14, -⟩ := c19 K5.out.a; obtain ⟨-, -, -, -, -, -, -, -, -, -, -, -, -, -, y14, -⟩ := c19 K5.out.x)) | (go_at_call 35; go_loud ((with_reducible refine (H6.out _ K5.out.b).mono ?_); rintro e w6 ⟨rfl, hb⟩; have K6 := Lib.hid (K5.out.step hb); clear hb; obtain ⟨-, -, -, -, -, -, -, -, -, -, -, -, -, -, -, x15, -⟩ := c19 K6.out.a; obtain ⟨-, -, -, -, -, -, -, -, -, -, -, -, -, -, -, y15, -⟩ := c19 K6.out.x)))
 go_ret
 exact ⟨rfl, K6.out.b⟩
set_option maxRecDepth 100000 in
set_option maxHeartbeats 8000000 in
theorem rsame_c13 {m n : M} {v u : VS} {W : World} {B : Nat} (hv : MR W B m v) (hu : MR W B n u) (hB : B ≤ W.heap.size) (hl : Lite m) (e : E13 m n) (hne : ¬ m.res.val = n.res.val) : Calls Tryz.prog 13 #[.agg (mcells m v), .agg (mcells n u)] W (EqP false W) := by
 have K0 := Lib.hid (tw0 W (mcells m v) (mcells n u))
 obtain ⟨a0, a1, a2, a3, a4, a5, ⟨a6, a7, a8, a9⟩, a10, a11, a12, a13, a14, a15, ⟨a16, a17⟩, a18⟩ := m
 obtain ⟨b0, b1, b2, b3, b4, b5, ⟨b6, b7, b8, b9⟩, b10, b11, b12, b13, b14, b15, ⟨b16, b17⟩, b18⟩ := n
 dsimp only [E13] at e
 obtain ⟨rfl, rfl, rfl, rfl, rfl, rfl, rfl, rfl, rfl, rfl, rfl, rfl, rfl, rfl, rfl, rfl⟩ := e
 obtain ⟨p1, n1, c1, p2, n2, c2, p3, n3, c3, p4, n4, c4, p5, n5, c5, p6, n6, c6, rfl⟩ := hv.vs9
 obtain ⟨q1, l1, d1, q2, l2, d2, q3, l3, d3, q4, l4, d4, q5, l5, d5, q6, l6, d6, rfl⟩ := hu.vs9
 have H1 := Lib.hid (eqD1 hv hu hB hl (decide_eq_true rfl))
 have H2 := Lib.hid (eqD2 hv hu hB hl (decide_eq_true rfl))
 have H3 := Lib.hid (eqD3 hv hu hB hl (decide_eq_true rfl))
 have H4 := Lib.hid (eqD4 hv hu hB hl (decide_eq_true rfl))
 have H5 := Lib.hid (eqD5 hv hu hB hl (decide_eq_true rfl))
 have H6 := Lib.hid (eqD6 hv hu hB hl (decide_eq_true rfl))
 have hs2 := str_of (a := a2) rfl
 have hs3 := str_of (a := a3) rfl
 have hb' : (a16 == b16) = false := by simpa using hne
 clear hv hu hl hB hne
 unfold mcells at K0 ⊢
 dsimp only at K0 H1 H2 H3 H4 H5 H6 ⊢
 go_enter Tryz.func13, Tryz.ntmps13
 go_wp2_with (first | (go_at_call 30; go_loud ((with_reducible refine (H1.out _ K0.out.b).mono ?_); rintro e w1 ⟨rfl, hb⟩; have K1 := Lib.hid (K0.out.step hb); clear hb; obtain ⟨-, -, -, -, -, x5, x6, x7, x8, x9, -⟩ := c19 K1.out.a; obtain ⟨-, -, -, -, -, y5, y6, y7, y8, y9, -⟩ := c19 K1.out.x)) | (go_at_call 31; go_loud ((with_reducible refine (H2.out _ K1.out.b).mono ?_); rintro e w2 ⟨rfl, hb⟩; have K2 := Lib.hid (K1.out.step hb); clear hb; obtain ⟨-, -, -, -, -, -, -, -, -, -, x10, x11, -⟩ := c19 K2.out.a; obtain ⟨-, -, -, -, -, -, -, -, -, -, y10, y11, -⟩ := c19 K2.out.x)) | (go_at_call 32; go_loud ((with_reducible refine (H3.out _ K2.out.b).mono ?_); rintro e w3 ⟨rfl, hb⟩; have K3 := Lib.hid (K2.out.step hb); clear hb; obtain ⟨-, -, -, -, -, -, -, -, -, -, -, -, x12, -⟩ := c19 K3.out.a; obtain ⟨-, -, -, -, -, -, -, -, -, -, -, -, y12, -⟩ := c19 K3.out.x)) | (go_at_call 33; go_loud ((with_reducible refine (H4.out _ K3.out.b).mono ?_); rintro e w4 ⟨rfl, hb⟩; have K4 := Lib.hid (K3.out.step hb); clear hb; obtain ⟨-, -, -, -, -, -, -, -, -, -, -, -, -, x13, -⟩ := c19 K4.out.a; obtain ⟨-, -, -, -, -, -, -, -, -, -, -, -, -, y13, -⟩ := c19 K4.out.x)) | (go_at_call 34; go_loud ((with_reducible refine (H5.out _ K4.out.b).mono ?_); rintro e w5 ⟨rfl, hb⟩; have K5 := Lib.hid (K4.out.step hb); clear hb; obtain ⟨-, -, -, -, -, -, -, -, -, -, -, -, -, -, x14, -⟩ := c19 K5.out.a; obtain ⟨-, -, -, -, -, -, -, -, -, -, -, -, -, -, y14, -⟩ := c19 K5.out.x)) | (go_at_call 35; go_loud ((with_reducible refine (H6.out _ K5.out.b).mono ?_); rintro e w6 ⟨rfl, hb⟩; have K6 := Lib.hid (K5.out.step hb); clear hb; obtain ⟨-, -, -, -, -, -, -, -, -, -, -, -, -, -, -, x15, x16, x17, -⟩ := c19 K6.out.a; obtain ⟨-, -, -, -, -, -, -, -, -, -, -, -, -, -, -, y15, y16, y17, -⟩ := c19 K6.out.x)))
 go_ret
 exact ⟨rfl, K6.out.b⟩
set_option maxRecDepth 100000 in
set_option maxHeartbeats 8000000 in
theorem rsame_c14 {m n : M} {v u : VS} {W : World} {B : Nat} (hv : MR W B m v) (hu : MR W B n u) (hB : B ≤ W.heap.size) (hl : Lite m) (e : E14 m n) (hne : ¬ m.res.err = n.res.err) : Calls Tryz.prog 13 #[.agg (mcells m v), .agg (mcells n u)] W (EqP false W) := by
 have K0 := Lib.hid (tw0 W (mcells m v) (mcells n u))
 obtain ⟨a0, a1, a2, a3, a4, a5, ⟨a6, a7, a8, a9⟩, a10, a11, a12, a13, a14, a15, ⟨a16, a17⟩, a18⟩ := m
 obtain ⟨b0, b1, b2, b3, b4, b5, ⟨b6, b7, b8, b9⟩, b10, b11, b12, b13, b14, b15, ⟨b16, b17⟩, b18⟩ := n
 dsimp only [E14] at e
 obtain ⟨rfl, rfl, rfl, rfl, rfl, rfl, rfl, rfl, rfl, rfl, rfl, rfl, rfl, rfl, rfl, rfl, rfl⟩ := e
 obtain ⟨p1, n1, c1, p2, n2, c2, p3, n3, c3, p4, n4, c4, p5, n5, c5, p6, n6, c6, rfl⟩ := hv.vs9
 obtain ⟨q1, l1, d1, q2, l2, d2, q3, l3, d3, q4, l4, d4, q5, l5, d5, q6, l6, d6, rfl⟩ := hu.vs9
 have H1 := Lib.hid (eqD1 hv hu hB hl (decide_eq_true rfl))
 have H2 := Lib.hid (eqD2 hv hu hB hl (decide_eq_true rfl))
 have H3 := Lib.hid (eqD3 hv hu hB hl (decide_eq_true rfl))
 have H4 := Lib.hid (eqD4 hv hu hB hl (decide_eq_true rfl))
 have H5 := Lib.hid (eqD5 hv hu hB hl (decide_eq_true rfl))
 have H6 := Lib.hid (eqD6 hv hu hB hl (decide_eq_true rfl))
 have hs2 := str_of (a := a2) rfl
 have hs3 := str_of (a := a3) rfl
 have hb' : (a17 == b17) = false := by simpa using hne
 clear hv hu hl hB hne
 unfold mcells at K0 ⊢
 dsimp only at K0 H1 H2 H3 H4 H5 H6 ⊢
 go_enter Tryz.func13, Tryz.ntmps13
 go_wp2_with (first | (go_at_call 30; go_loud ((with_reducible refine (H1.out _ K0.out.b).mono ?_); rintro e w1 ⟨rfl, hb⟩; have K1 := Lib.hid (K0.out.step hb); clear hb; obtain ⟨-, -, -, -, -, x5, x6, x7, x8, x9, -⟩ := c19 K1.out.a; obtain ⟨-, -, -, -, -, y5, y6, y7, y8, y9, -⟩ := c19 K1.out.x)) | (go_at_call 31; go_loud ((with_reducible refine (H2.out _ K1.out.b).mono ?_); rintro e w2 ⟨rfl, hb⟩; have K2 := Lib.hid (K1.out.step hb); clear hb; obtain ⟨-, -, -, -, -, -, -, -, -, -, x10, x11, -⟩ := c19 K2.out.a; obtain ⟨-, -, -, -, -, -, -, -, -, -, y10, y11, -⟩ := c19 K2.out.x)) | (go_at_call 32; go_loud ((with_reducible refine (H3.out _ K2.out.b).mono ?_); rintro e w3 ⟨rfl, hb⟩; have K3 := Lib.hid (K2.out.step hb); clear hb; obtain ⟨-, -, -, -, -, -, -, -, -, -, -, -, x12, -⟩ := c19 K3.out.a; obtain ⟨-, -, -, -, -, -, -, -, -, -, -, -, y12, -⟩ := c19 K3.out.x)) | (go_at_call 33; go_loud ((with_reducible refine (H4.out _ K3.out.b).mono ?_); rintro e w4 ⟨rfl, hb⟩; have K4 := Lib.hid (K3.out.step hb); clear hb; obtain ⟨-, -, -, -, -, -, -, -, -, -, -, -, -, x13, -⟩ := c19 K4.out.a; obtain ⟨-, -, -, -, -, -, -, -, -, -, -, -, -, y13, -⟩ := c19 K4.out.x)) | (go_at_call 34; go_loud ((with_reducible refine (H5.out _ K4.out.b).mono ?_); rintro e w5 ⟨rfl, hb⟩; have K5 := Lib.hid (K4.out.step hb); clear hb; obtain ⟨-, -, -, -, -, -, -, -, -, -, -, -, -, -, x14, -⟩ := c19 K5.out.a; obtain ⟨-, -, -, -, -, -, -, -, -, -, -, -, -, -, y14, -⟩ := c19 K5.out.x)) | (go_at_call 35; go_loud ((with_reducible refine (H6.out _ K5.out.b).mono ?_); rintro e w6 ⟨rfl, hb⟩; have K6 := Lib.hid (K5.out.step hb); clear hb; obtain ⟨-, -, -, -, -, -, -, -, -, -, -, -, -, -, -, x15, x16, x17, -⟩ := c19 K6.out.a; obtain ⟨-, -, -, -, -, -, -, -, -, -, -, -, -, -, -, y15, y16, y17, -⟩ := c19 K6.out.x)))
 go_ret
 exact ⟨rfl, K6.out.b⟩
set_option maxRecDepth 100000 in
set_option maxHeartbeats 8000000 in
theorem rsame_c15 {m n : M} {v u : VS} {W : World} {B : Nat} (hv : MR W B m v) (hu : MR W B n u) (hB : B ≤ W.heap.size) (hl : Lite m) (e : E15 m n) (hne : ¬ m.err = n.err) : Calls Tryz.prog 13 #[.agg (mcells m v), .agg (mcells n u)] W (EqP false W) := by
 have K0 := Lib.hid (tw0 W (mcells m v) (mcells n u))
 obtain ⟨a0, a1, a2, a3, a4, a5, ⟨a6, a7, a8, a9⟩, a10, a11, a12, a13, a14, a15, ⟨a16, a17⟩, a18⟩ := m
 obtain ⟨b0, b1, b2, b3, b4, b5, ⟨b6, b7, b8, b9⟩, b10, b11, b12, b13, b14, b15, ⟨b16, b17⟩, b18⟩ := n
 dsimp only [E15] at e
 obtain ⟨rfl, rfl, rfl, rfl, rfl, rfl, rfl, rfl, rfl, rfl, rfl, rfl, rfl, rfl, rfl, rfl, rfl, rfl⟩ := e
 obtain ⟨p1, n1, c1, p2, n2, c2, p3, n3, c3, p4, n4, c4, p5, n5, c5, p6, n6, c6, rfl⟩ := hv.vs9
 obtain ⟨q1, l1, d1, q2, l2, d2, q3, l3, d3, q4, l4, d4, q5, l5, d5, q6, l6, d6, rfl⟩ := hu.vs9
 have H1 := Lib.hid (eqD1 hv hu hB hl (decide_eq_true rfl))
 have H2 := Lib.hid (eqD2 hv hu hB hl (decide_eq_true rfl))
 have H3 := Lib.hid (eqD3 hv hu hB hl (decide_eq_true rfl))
 have H4 := Lib.hid (eqD4 hv hu hB hl (decide_eq_true rfl))
 have H5 := Lib.hid (eqD5 hv hu hB hl (decide_eq_true rfl))
 have H6 := Lib.hid (eqD6 hv hu hB hl (decide_eq_true rfl))
 have hs2 := str_of (a := a2) rfl
 have hs3 := str_of (a := a3) rfl
 have hb' : (a18 == b18) = false := by simpa using hne
 clear hv hu hl hB hne
 unfold mcells at K0 ⊢
 dsimp only at K0 H1 H2 H3 H4 H5 H6 ⊢
 go_enter Tryz.func13, Tryz.ntmps13
 go_wp2_with (first | (go_at_call 30; go_loud ((with_reducible refine (H1.out _ K0.out.b).mono ?_); rintro e w1 ⟨rfl, hb⟩; have K1 := Lib.hid (K0.out.step hb); clear hb; obtain ⟨-, -, -, -, -, x5, x6, x7, x8, x9, -⟩ := c19 K1.out.a; obtain ⟨-, -, -, -, -, y5, y6, y7, y8, y9, -⟩ := c19 K1.out.x)) | (go_at_call 31; go_loud ((with_reducible refine (H2.out _ K1.out.b).mono ?_); rintro e w2 ⟨rfl, hb⟩; have K2 := Lib.hid (K1.out.step hb); clear hb; obtain ⟨-, -, -, -, -, -, -, -, -, -, x10, x11, -⟩ := c19 K2.out.a; obtain ⟨-, -, -, -, -, -, -, -, -, -, y10, y11, -⟩ := c19 K2.out.x)) | (go_at_call 32; go_loud ((with_reducible refine (H3.out _ K2.out.b).mono ?_); rintro e w3 ⟨rfl, hb⟩; have K3 := Lib.hid (K2.out.step hb); clear hb; obtain ⟨-, -, -, -, -, -, -, -, -, -, -, -, x12, -⟩ := c19 K3.out.a; obtain ⟨-, -, -, -, -, -, -, -, -, -, -, -, y12, -⟩ := c19 K3.out.x)) | (go_at_call 33; go_loud ((with_reducible refine (H4.out _ K3.out.b).mono ?_); rintro e w4 ⟨rfl, hb⟩; have K4 := Lib.hid (K3.out.step hb); clear hb; obtain ⟨-, -, -, -, -, -, -, -, -, -, -, -, -, x13, -⟩ := c19 K4.out.a; obtain ⟨-, -, -, -, -, -, -, -, -, -, -, -, -, y13, -⟩ := c19 K4.out.x)) | (go_at_call 34; go_loud ((with_reducible refine (H5.out _ K4.out.b).mono ?_); rintro e w5 ⟨rfl, hb⟩; have K5 := Lib.hid (K4.out.step hb); clear hb; obtain ⟨-, -, -, -, -, -, -, -, -, -, -, -, -, -, x14, -⟩ := c19 K5.out.a; obtain ⟨-, -, -, -, -, -, -, -, -, -, -, -, -, -, y14, -⟩ := c19 K5.out.x)) | (go_at_call 35; go_loud ((with_reducible refine (H6.out _ K5.out.b).mono ?_); rintro e w6 ⟨rfl, hb⟩; have K6 := Lib.hid (K5.out.step hb); clear hb; obtain ⟨-, -, -, -, -, -, -, -, -, -, -, -, -, -, -, x15, x16, x17, x18⟩ := c19 K6.out.a; obtain ⟨-, -, -, -, -, -, -, -, -, -, -, -, -, -, -, y15, y16, y17, y18⟩ := c19 K6.out.x)))
 go_ret
 exact ⟨rfl, K6.out.b⟩
set_option maxRecDepth 100000 in
set_option maxHeartbeats 8000000 in
theorem rsame_c16 {m n : M} {v u : VS} {W : World} {B : Nat} (hv : MR W B m v) (hu : MR W B n u) (hB : B ≤ W.heap.size) (hl : Lite m) (e : E16 m n) : Calls Tryz.prog 13 #[.agg (mcells m v), .agg (mcells n u)] W (EqP true W) := by
 have K0 := Lib.hid (tw0 W (mcells m v) (mcells n u))
 obtain ⟨a0, a1, a2, a3, a4, a5, ⟨a6, a7, a8, a9⟩, a10, a11, a12, a13, a14, a15, ⟨a16, a17⟩, a18⟩ := m
 obtain ⟨b0, b1, b2, b3, b4, b5, ⟨b6, b7, b8, b9⟩, b10, b11, b12, b13, b14, b15, ⟨b16, b17⟩, b18⟩ := n
 dsimp only [E16] at e
 obtain ⟨rfl, rfl, rfl, rfl, rfl, rfl, rfl, rfl, rfl, rfl, rfl, rfl, rfl, rfl, rfl, rfl, rfl, rfl, rfl⟩ := e
 obtain ⟨p1, n1, c1, p2, n2, c2, p3, n3, c3, p4, n4, c4, p5, n5, c5, p6, n6, c6, rfl⟩ := hv.vs9
 obtain ⟨q1, l1, d1, q2, l2, d2, q3, l3, d3, q4, l4, d4, q5, l5, d5, q6, l6, d6, rfl⟩ := hu.vs9
 have H1 := Lib.hid (eqD1 hv hu hB hl (decide_eq_true rfl))
 have H2 := Lib.hid (eqD2 hv hu hB hl (decide_eq_true rfl))
 have H3 := Lib.hid (eqD3 hv hu hB hl (decide_eq_true rfl))
 have H4 := Lib.hid (eqD4 hv hu hB hl (decide_eq_true rfl))
 have H5 := Lib.hid (eqD5 hv hu hB hl (decide_eq_true rfl))
 have H6 := Lib.hid (eqD6 hv hu hB hl (decide_eq_true rfl))
 have hs2 := str_of (a := a2) rfl
 have hs3 := str_of (a := a3) rfl
 clear hv hu hl hB
 unfold mcells at K0 ⊢
 dsimp only at K0 H1 H2 H3 H4 H5 H6 ⊢
 go_enter Tryz.func13, Tryz.ntmps13
 go_wp2_with (first | (go_at_call 30; go_loud ((with_reducible refine (H1.out _ K0.out.b).mono ?_); rintro e w1 ⟨rfl, hb⟩; have K1 := Lib.hid (K0.out.step hb); clear hb; obtain ⟨-, -, -, -, -, x5, x6, x7, x8, x9, -⟩ := c19 K1.out.a; obtain ⟨-, -, -, -, -, y5, y6, y7, y8, y9, -⟩ := c19 K1.out.x)) | (go_at_call 31; go_loud ((with_reducible refine (H2.out _ K1.out.b).mono ?_); rintro e w2 ⟨rfl, hb⟩; have K2 := Lib.hid (K1.out.step hb); clear hb; obtain ⟨-, -, -, -, -, -, -, -, -, -, x10, x11, -⟩ := c19 K2.out.a; obtain ⟨-, -, -, -, -, -, -, -, -, -, y10, y11, -⟩ := c19 K2.out.x)) | (go_at_call 32; go_loud ((with_reducible refine (H3.out _ K2.out.b).mono ?_); rintro e w3 ⟨rfl, hb⟩; have K3 := Lib.hid (K2.out.step hb); clear hb; obtain ⟨-, -, -, -, -, -, -, -, -, -, -, -, x12, -⟩ := c19 K3.out.a; obtain ⟨-, -, -, -, -, -, -, -, -, -, -, -, y12, -⟩ := c19 K3.out.x)) | (go_at_call 33; go_loud ((with_reducible refine (H4.out _ K3.out.b).mono ?_); rintro e w4 ⟨rfl, hb⟩; have K4 := Lib.hid (K3.out.step hb); clear hb; obtain ⟨-, -, -, -, -, -, -, -, -, -, -, -, -, x13, -⟩ := c19 K4.out.a; obtain ⟨-, -, -, -, -, -, -, -, -, -, -, -, -, y13, -⟩ := c19 K4.out.x)) | (go_at_call 34; go_loud ((with_reducible refine (H5.out _ K4.out.b).mono ?_); rintro e w5 ⟨rfl, hb⟩; have K5 := Lib.hid (K4.out.step hb); clear hb; obtain ⟨-, -, -, -, -, -, -, -, -, -, -, -, -, -, x14, -⟩ := c19 K5.out.a; obtain ⟨-, -, -, -, -, -, -, -, -, -, -, -, -, -, y14, -⟩ := c19 K5.out.x)) | (go_at_call 35; go_loud ((with_reducible refine (H6.out _ K5.out.b).mono ?_); rintro e w6 ⟨rfl, hb⟩; have K6 := Lib.hid (K5.out.step hb); clear hb; obtain ⟨-, -, -, -, -, -, -, -, -, -, -, -, -, -, -, x15, x16, x17, x18⟩ := c19 K6.out.a; obtain ⟨-, -, -, -, -, -, -, -, -, -, -, -, -, -, -, y15, y16, y17, y18⟩ := c19 K6.out.x)))
 go_ret
 exact ⟨rfl, K6.out.b⟩
end Go.Proofs.YtghbjknpffiaiaaGreat
