import Derived.Test.YtlahficmkfgooaaGreatMgh

/- The walk of what looks at an op: 'right'. No condition but that the op and the functions have their form. -/
namespace Go.Proofs.YtlahficmkfgooaaGreat
open Go.RowKit Cd
set_option linter.unusedVariables false
set_option linter.unusedSimpArgs false
/-- The fault in block b; the program, the function, the op in blocks T0, T0 + 1, T0 + 2. -/
structure RtW (W w0 : World) (b T0 : Nat) (e fn op : Int) (x vo : Value) (fa fr : Int) (o : OpV) (w : World) : Prop where
  bx : Blk w b 174 #[.int .i64 e, .int .i64 fn, .int .i64 op]
  tp : Blk w T0 133 #[x]
  tf : Blk w (T0 + 1) 168 #[.int .i64 fa, .int .i64 fr, vo]
  tq : Blk w (T0 + 2) 170 (opA o)
  bel : Below W.heap.size W w
  only : Only (· = b) w0 w
section
variable {W w0 : World} {b T0 : Nat} {e fn op : Int} {x vo : Value} {fa fr : Int} {o : OpV} {w w' : World}
theorem RtW.step (h : RtW W w0 b T0 e fn op x vo fa fr o w) (k : Below w.heap.size w w') : RtW W w0 b T0 e fn op x vo fa fr o w' := ⟨h.bx.below k, h.tp.below k, h.tf.below k, h.tq.below k, h.bel.step k, h.only.step k⟩
theorem RtW.alloc (h : RtW W w0 b T0 e fn op x vo fa fr o w) (ob : Obj) : RtW W w0 b T0 e fn op x vo fa fr o (w.alloc ob) := h.step ((Below.refl _ _).alloc (Nat.le_refl _) ob)
theorem RtW.setE (h : RtW W w0 b T0 e fn op x vo fa fr o w) (hb : b < T0) (hW : W.heap.size ≤ b) (e' : Int) : RtW W w0 b T0 e' fn op x vo fa fr o (w.setCell ⟨b, 0, none⟩ (.int .i64 e')) :=
  ⟨h.bx.set 0 _, h.tp.set_ne _ (by show T0 ≠ b; omega), h.tf.set_ne _ (by show T0 + 1 ≠ b; omega), h.tq.set_ne _ (by show T0 + 2 ≠ b; omega), h.bel.setCell hW _, h.only.set1⟩
theorem RtW.cells (h : RtW W w0 b T0 e fn op x vo fa fr o w) : w.cell? ⟨b, 0, none⟩ = some (.int .i64 e) ∧ w.cell? ⟨T0, 0, none⟩ = some x ∧ w.cell? ⟨T0 + 1, 1, none⟩ = some (.int .i64 fr) ∧ w.cell? ⟨T0 + 1, 2, none⟩ = some vo :=
  ⟨h.bx.cell 0, h.tp.cell 0, h.tf.cell 1, h.tf.cell 2⟩
theorem RtW.cello (h : RtW W w0 b T0 e fn op x vo fa fr o w) : w.cell? ⟨T0 + 2, 0, none⟩ = some (.int .u8 o.k) ∧ w.cell? ⟨T0 + 2, 1, none⟩ = some (.int .i64 o.d) ∧ w.cell? ⟨T0 + 2, 2, none⟩ = some (.int .i64 o.a) ∧ w.cell? ⟨T0 + 2, 3, none⟩ = some (.int .i64 o.b) ∧ w.cell? ⟨T0 + 2, 4, none⟩ = some (.int .i64 o.n) :=
  ⟨h.tq.cell 0, h.tq.cell 1, h.tq.cell 2, h.tq.cell 3, h.tq.cell 4⟩
end
theorem Blk.newB (w : World) (o : Obj) (T : TypeId) (A : Array Value) : Blk ((w.alloc o).alloc (.cells A T)) (w.heap.size + 1) T A := by
  have := Blk.new (w.alloc o) T A
  simpa using this
set_option maxRecDepth 100000 in
set_option maxHeartbeats 8000000 in
theorem right_any {W w0 : World} {b : Nat} {fn op : Int} {x vo : Value} {l : List FunV} {f : FunV} {o : OpV} {pf : Option Addr} {cf : Nat} (hx : FunsAt W x l) (hb0 : Below W.heap.size W w0) (hb : Blk w0 b 174 #[.int .i64 0, .int .i64 fn, .int .i64 op]) (hWb : W.heap.size ≤ b)
    (hvo : vo = .slice pf f.ops.length cf) (ho : formB o = true) (hl : ∀ g ∈ l, 0 ≤ g.args ∧ g.args ≤ 16) :
    Calls Tryz.prog 118 #[.pointer (some ⟨b, 0, none⟩), .agg #[x], .agg #[.int .i64 f.args, .int .i64 f.regs, vo], .agg (opA o)] w0 fun e w' => e = .returned (.tuple #[]) ∧ Blk w' b 174 #[.int .i64 (opE l f o), .int .i64 fn, .int .i64 op] ∧ Only (· = b) w0 w' := by
  subst hvo
  obtain ⟨px, cx, rfl⟩ := hx.slice
  have hbT := hb.lt
  obtain ⟨fa, fr, fo⟩ := f
  obtain ⟨k, d, a, b', n⟩ := o
  have HX := Lib.hid hx
  have HL := Lib.hid hl
  have H0 : Hid (RtW W w0 b w0.heap.size 0 fn op (.slice px l.length cx) (.slice pf fo.length cf) fa fr ⟨k, d, a, b', n⟩ (((w0.alloc (.cells #[.slice px l.length cx] 133)).alloc (.cells #[.int .i64 fa, .int .i64 fr, .slice pf fo.length cf] 168)).alloc (.cells (opA ⟨k, d, a, b', n⟩) 170))) := Lib.hid
    ⟨((hb.alloc _).alloc _).alloc _, ((Blk.new _ _ _).alloc _).alloc _, (Blk.newB w0 _ _ _).alloc _, by
      have := Blk.new ((w0.alloc (.cells #[.slice px l.length cx] 133)).alloc (.cells #[.int .i64 fa, .int .i64 fr, .slice pf fo.length cf] 168)) 170 (opA ⟨k, d, a, b', n⟩)
      simpa using this, ((hb0.alloc hb0.size _).alloc (by have := hb0.size; simp; omega) _).alloc (by have := hb0.size; simp; omega) _, (((Only.refl _ w0).alloc _).alloc _).alloc _⟩
  have hfm := ho
  unfold formB at hfm
  simp only [Bool.and_eq_true, Bool.or_eq_true, beq_iff_eq] at hfm
  have hkn := hfm.1.1.1.1.1
  have hra := hfm.1.1.1.1.2.2.1
  have hra' : 0 ≤ a ∧ a ≤ 16 := by unfold regB at hra; simpa using hra
  clear hx hl hb hb0 ho hfm hra
  unfold known at hkn
  simp only [Bool.and_eq_true, decide_eq_true_eq] at hkn
  have hcase : k = 1 ∨ k = 2 ∨ (3 ≤ k ∧ k ≤ 9) ∨ k = 10 ∨ k = 11 ∨ k = 12 ∨ k = 13 ∨ k = 14 := by omega
  simp only [opA] at H0 ⊢
  rcases hcase with rfl | rfl | hk | rfl | rfl | rfl | rfl | rfl
  · clear hkn
    by_cases h1 : fr ≤ d
    · have ht : decide (fr ≤ d) = !false := decide_eq_true h1
      have hE : opE l ⟨fa, fr, fo⟩ ⟨1, d, a, b', n⟩ = 111 := by simp [opE, kd, ka, kb, inB, h1]
      as_aux_lemma =>
      go_enter Tryz.func118, Tryz.ntmps118
      go_upto_region 1 with fail
      have HT := Lib.hid H0.out
      (obtain ⟨x0, x1, x2, x3⟩ := HT.out.cells; obtain ⟨o0, o1, o2, o3, o4⟩ := HT.out.cello)
      clear H0
      generalize ((w0.alloc (.cells #[.slice px l.length cx] 133)).alloc (.cells #[.int .i64 fa, .int .i64 fr, .slice pf fo.length cf] 168)).alloc _ = wA at *
      generalize w0.heap.size = T0 at *
      go_wp2_with (first | (go_at_call 133; ((with_reducible refine (below_1 (t := false) (Blk.new _ _ _) ht).mono ?_); rintro e w1 ⟨rfl, b1⟩; have HT := Lib.hid ((HT.out.alloc _).step b1); (obtain ⟨x0, x1, x2, x3⟩ := HT.out.cells; obtain ⟨o0, o1, o2, o3, o4⟩ := HT.out.cello); clear b1)) | (go_at_call 117; (first | ((with_reducible refine (must_no HT.out.bx (fun _ => rfl)).mono ?_); rintro e w' ⟨rfl, rfl⟩) | ((with_reducible refine (must_no HT.out.bx (fun h => absurd h (by decide))).mono ?_); rintro e w' ⟨rfl, rfl⟩) | ((with_reducible refine (must_yes (e := 111) HT.out.bx).mono ?_); rintro e w' ⟨rfl, rfl⟩; have HT := Lib.hid (HT.out.setE hbT hWb 111); (obtain ⟨x0, x1, x2, x3⟩ := HT.out.cells; obtain ⟨o0, o1, o2, o3, o4⟩ := HT.out.cello)) | ((with_reducible refine (must_yes (e := 112) HT.out.bx).mono ?_); rintro e w' ⟨rfl, rfl⟩; have HT := Lib.hid (HT.out.setE hbT hWb 112); (obtain ⟨x0, x1, x2, x3⟩ := HT.out.cells; obtain ⟨o0, o1, o2, o3, o4⟩ := HT.out.cello)))))
      go_end0
      exact ⟨rfl, by first | (rw [hE]; exact HT.out.bx) | exact HT.out.bx, HT.out.only⟩
    · have ht : decide (fr ≤ d) = !true := decide_eq_false h1
      have hE : opE l ⟨fa, fr, fo⟩ ⟨1, d, a, b', n⟩ = 0 := by simp [opE, kd, ka, kb, inB, h1]
      as_aux_lemma =>
      go_enter Tryz.func118, Tryz.ntmps118
      go_upto_region 1 with fail
      have HT := Lib.hid H0.out
      (obtain ⟨x0, x1, x2, x3⟩ := HT.out.cells; obtain ⟨o0, o1, o2, o3, o4⟩ := HT.out.cello)
      clear H0
      generalize ((w0.alloc (.cells #[.slice px l.length cx] 133)).alloc (.cells #[.int .i64 fa, .int .i64 fr, .slice pf fo.length cf] 168)).alloc _ = wA at *
      generalize w0.heap.size = T0 at *
      go_wp2_with (first | (go_at_call 133; ((with_reducible refine (below_1 (t := true) (Blk.new _ _ _) ht).mono ?_); rintro e w1 ⟨rfl, b1⟩; have HT := Lib.hid ((HT.out.alloc _).step b1); (obtain ⟨x0, x1, x2, x3⟩ := HT.out.cells; obtain ⟨o0, o1, o2, o3, o4⟩ := HT.out.cello); clear b1)) | (go_at_call 117; (first | ((with_reducible refine (must_no HT.out.bx (fun _ => rfl)).mono ?_); rintro e w' ⟨rfl, rfl⟩) | ((with_reducible refine (must_no HT.out.bx (fun h => absurd h (by decide))).mono ?_); rintro e w' ⟨rfl, rfl⟩) | ((with_reducible refine (must_yes (e := 111) HT.out.bx).mono ?_); rintro e w' ⟨rfl, rfl⟩; have HT := Lib.hid (HT.out.setE hbT hWb 111); (obtain ⟨x0, x1, x2, x3⟩ := HT.out.cells; obtain ⟨o0, o1, o2, o3, o4⟩ := HT.out.cello)) | ((with_reducible refine (must_yes (e := 112) HT.out.bx).mono ?_); rintro e w' ⟨rfl, rfl⟩; have HT := Lib.hid (HT.out.setE hbT hWb 112); (obtain ⟨x0, x1, x2, x3⟩ := HT.out.cells; obtain ⟨o0, o1, o2, o3, o4⟩ := HT.out.cello)))))
      go_end0
      exact ⟨rfl, by first | (rw [hE]; exact HT.out.bx) | exact HT.out.bx, HT.out.only⟩
  · clear hkn
    by_cases h1 : fr ≤ d ∨ fr ≤ a
    · have ht : (decide (fr ≤ d) || decide (fr ≤ a)) = !false := by simpa using h1
      have hE : opE l ⟨fa, fr, fo⟩ ⟨2, d, a, b', n⟩ = 111 := by simp [opE, kd, ka, kb, inB, h1]
      as_aux_lemma =>
      go_enter Tryz.func118, Tryz.ntmps118
      go_upto_region 1 with fail
      have HT := Lib.hid H0.out
      (obtain ⟨x0, x1, x2, x3⟩ := HT.out.cells; obtain ⟨o0, o1, o2, o3, o4⟩ := HT.out.cello)
      clear H0
      generalize ((w0.alloc (.cells #[.slice px l.length cx] 133)).alloc (.cells #[.int .i64 fa, .int .i64 fr, .slice pf fo.length cf] 168)).alloc _ = wA at *
      generalize w0.heap.size = T0 at *
      go_wp2_with (first | (go_at_call 133; ((with_reducible refine (below_2 (t := false) (Blk.new _ _ _) ht).mono ?_); rintro e w1 ⟨rfl, b1⟩; have HT := Lib.hid ((HT.out.alloc _).step b1); (obtain ⟨x0, x1, x2, x3⟩ := HT.out.cells; obtain ⟨o0, o1, o2, o3, o4⟩ := HT.out.cello); clear b1)) | (go_at_call 117; (first | ((with_reducible refine (must_no HT.out.bx (fun _ => rfl)).mono ?_); rintro e w' ⟨rfl, rfl⟩) | ((with_reducible refine (must_no HT.out.bx (fun h => absurd h (by decide))).mono ?_); rintro e w' ⟨rfl, rfl⟩) | ((with_reducible refine (must_yes (e := 111) HT.out.bx).mono ?_); rintro e w' ⟨rfl, rfl⟩; have HT := Lib.hid (HT.out.setE hbT hWb 111); (obtain ⟨x0, x1, x2, x3⟩ := HT.out.cells; obtain ⟨o0, o1, o2, o3, o4⟩ := HT.out.cello)) | ((with_reducible refine (must_yes (e := 112) HT.out.bx).mono ?_); rintro e w' ⟨rfl, rfl⟩; have HT := Lib.hid (HT.out.setE hbT hWb 112); (obtain ⟨x0, x1, x2, x3⟩ := HT.out.cells; obtain ⟨o0, o1, o2, o3, o4⟩ := HT.out.cello)))))
      go_end0
      exact ⟨rfl, by first | (rw [hE]; exact HT.out.bx) | exact HT.out.bx, HT.out.only⟩
    · have ht : (decide (fr ≤ d) || decide (fr ≤ a)) = !true := by simpa using h1
      have hE : opE l ⟨fa, fr, fo⟩ ⟨2, d, a, b', n⟩ = 0 := by simp [opE, kd, ka, kb, inB, h1]
      as_aux_lemma =>
      go_enter Tryz.func118, Tryz.ntmps118
      go_upto_region 1 with fail
      have HT := Lib.hid H0.out
      (obtain ⟨x0, x1, x2, x3⟩ := HT.out.cells; obtain ⟨o0, o1, o2, o3, o4⟩ := HT.out.cello)
      clear H0
      generalize ((w0.alloc (.cells #[.slice px l.length cx] 133)).alloc (.cells #[.int .i64 fa, .int .i64 fr, .slice pf fo.length cf] 168)).alloc _ = wA at *
      generalize w0.heap.size = T0 at *
      go_wp2_with (first | (go_at_call 133; ((with_reducible refine (below_2 (t := true) (Blk.new _ _ _) ht).mono ?_); rintro e w1 ⟨rfl, b1⟩; have HT := Lib.hid ((HT.out.alloc _).step b1); (obtain ⟨x0, x1, x2, x3⟩ := HT.out.cells; obtain ⟨o0, o1, o2, o3, o4⟩ := HT.out.cello); clear b1)) | (go_at_call 117; (first | ((with_reducible refine (must_no HT.out.bx (fun _ => rfl)).mono ?_); rintro e w' ⟨rfl, rfl⟩) | ((with_reducible refine (must_no HT.out.bx (fun h => absurd h (by decide))).mono ?_); rintro e w' ⟨rfl, rfl⟩) | ((with_reducible refine (must_yes (e := 111) HT.out.bx).mono ?_); rintro e w' ⟨rfl, rfl⟩; have HT := Lib.hid (HT.out.setE hbT hWb 111); (obtain ⟨x0, x1, x2, x3⟩ := HT.out.cells; obtain ⟨o0, o1, o2, o3, o4⟩ := HT.out.cello)) | ((with_reducible refine (must_yes (e := 112) HT.out.bx).mono ?_); rintro e w' ⟨rfl, rfl⟩; have HT := Lib.hid (HT.out.setE hbT hWb 112); (obtain ⟨x0, x1, x2, x3⟩ := HT.out.cells; obtain ⟨o0, o1, o2, o3, o4⟩ := HT.out.cello)))))
      go_end0
      exact ⟨rfl, by first | (rw [hE]; exact HT.out.bx) | exact HT.out.bx, HT.out.only⟩
  · clear hkn
    have hk12 : (k == 12) = false := by simp; omega
    have hk10 : (k == 10) = false := by simp; omega
    have hk11 : (k == 11) = false := by simp; omega
    have hk1 : (k == 1) = false := by simp; omega
    have hk2 : (k == 2) = false := by simp; omega
    have hk14 : (k == 14) = false := by simp; omega
    have hk13 : (k == 13) = false := by simp; omega
    have e1 : kd k = true := by unfold kd; rw [decide_eq_true (by omega), decide_eq_true (by omega)]; rfl
    have e2 : ka k = true := by unfold ka; rw [decide_eq_true (by omega), decide_eq_true (by omega)]; rfl
    have e3 : kb k = true := by unfold kb; rw [decide_eq_true (by omega), decide_eq_true (by omega)]; rfl
    by_cases h1 : fr ≤ d ∨ fr ≤ a ∨ fr ≤ b'
    · have ht : (decide (fr ≤ d) || decide (fr ≤ a) || decide (fr ≤ b')) = !false := by simpa [or_assoc] using h1
      have hE : opE l ⟨fa, fr, fo⟩ ⟨k, d, a, b', n⟩ = 111 := by unfold opE; rw [if_pos]; simp only [e1, e2, e3, hk12]; simpa [or_assoc] using h1
      clear e1 e2 e3
      as_aux_lemma =>
      go_enter Tryz.func118, Tryz.ntmps118
      go_upto_region 1 with fail
      have HT := Lib.hid H0.out
      (obtain ⟨x0, x1, x2, x3⟩ := HT.out.cells; obtain ⟨o0, o1, o2, o3, o4⟩ := HT.out.cello)
      clear H0
      generalize ((w0.alloc (.cells #[.slice px l.length cx] 133)).alloc (.cells #[.int .i64 fa, .int .i64 fr, .slice pf fo.length cf] 168)).alloc _ = wA at *
      generalize w0.heap.size = T0 at *
      go_wp2_with (first | (go_at_call 133; ((with_reducible refine (below_3 (t := false) (Blk.new _ _ _) ht).mono ?_); rintro e w1 ⟨rfl, b1⟩; have HT := Lib.hid ((HT.out.alloc _).step b1); (obtain ⟨x0, x1, x2, x3⟩ := HT.out.cells; obtain ⟨o0, o1, o2, o3, o4⟩ := HT.out.cello); clear b1)) | (go_at_call 117; (first | ((with_reducible refine (must_no HT.out.bx (fun _ => rfl)).mono ?_); rintro e w' ⟨rfl, rfl⟩) | ((with_reducible refine (must_no HT.out.bx (fun h => absurd h (by decide))).mono ?_); rintro e w' ⟨rfl, rfl⟩) | ((with_reducible refine (must_yes (e := 111) HT.out.bx).mono ?_); rintro e w' ⟨rfl, rfl⟩; have HT := Lib.hid (HT.out.setE hbT hWb 111); (obtain ⟨x0, x1, x2, x3⟩ := HT.out.cells; obtain ⟨o0, o1, o2, o3, o4⟩ := HT.out.cello)) | ((with_reducible refine (must_yes (e := 112) HT.out.bx).mono ?_); rintro e w' ⟨rfl, rfl⟩; have HT := Lib.hid (HT.out.setE hbT hWb 112); (obtain ⟨x0, x1, x2, x3⟩ := HT.out.cells; obtain ⟨o0, o1, o2, o3, o4⟩ := HT.out.cello)))))
      go_end0
      exact ⟨rfl, by first | (rw [hE]; exact HT.out.bx) | exact HT.out.bx, HT.out.only⟩
    · have ht : (decide (fr ≤ d) || decide (fr ≤ a) || decide (fr ≤ b')) = !true := by simpa [or_assoc, and_assoc] using h1
      have hE : opE l ⟨fa, fr, fo⟩ ⟨k, d, a, b', n⟩ = 0 := by
        unfold opE
        rw [if_neg (by simp only [e1, e2, e3, hk12]; simp; omega), if_neg (by simp only [hk10, hk11]; simp), if_pos (by simp only [hk12])]
      clear e1 e2 e3
      as_aux_lemma =>
      go_enter Tryz.func118, Tryz.ntmps118
      go_upto_region 1 with fail
      have HT := Lib.hid H0.out
      (obtain ⟨x0, x1, x2, x3⟩ := HT.out.cells; obtain ⟨o0, o1, o2, o3, o4⟩ := HT.out.cello)
      clear H0
      generalize ((w0.alloc (.cells #[.slice px l.length cx] 133)).alloc (.cells #[.int .i64 fa, .int .i64 fr, .slice pf fo.length cf] 168)).alloc _ = wA at *
      generalize w0.heap.size = T0 at *
      go_wp2_with (first | (go_at_call 133; ((with_reducible refine (below_3 (t := true) (Blk.new _ _ _) ht).mono ?_); rintro e w1 ⟨rfl, b1⟩; have HT := Lib.hid ((HT.out.alloc _).step b1); (obtain ⟨x0, x1, x2, x3⟩ := HT.out.cells; obtain ⟨o0, o1, o2, o3, o4⟩ := HT.out.cello); clear b1)) | (go_at_call 117; (first | ((with_reducible refine (must_no HT.out.bx (fun _ => rfl)).mono ?_); rintro e w' ⟨rfl, rfl⟩) | ((with_reducible refine (must_no HT.out.bx (fun h => absurd h (by decide))).mono ?_); rintro e w' ⟨rfl, rfl⟩) | ((with_reducible refine (must_yes (e := 111) HT.out.bx).mono ?_); rintro e w' ⟨rfl, rfl⟩; have HT := Lib.hid (HT.out.setE hbT hWb 111); (obtain ⟨x0, x1, x2, x3⟩ := HT.out.cells; obtain ⟨o0, o1, o2, o3, o4⟩ := HT.out.cello)) | ((with_reducible refine (must_yes (e := 112) HT.out.bx).mono ?_); rintro e w' ⟨rfl, rfl⟩; have HT := Lib.hid (HT.out.setE hbT hWb 112); (obtain ⟨x0, x1, x2, x3⟩ := HT.out.cells; obtain ⟨o0, o1, o2, o3, o4⟩ := HT.out.cello)))))
      go_end0
      exact ⟨rfl, by first | (rw [hE]; exact HT.out.bx) | exact HT.out.bx, HT.out.only⟩
  · clear hkn
    by_cases hn : n < 0
    · have hn' : ¬ 0 ≤ n := by omega
      have hE : opE l ⟨fa, fr, fo⟩ ⟨10, d, a, b', n⟩ = 112 := by simp [opE, kd, ka, kb, inB, hn']
      as_aux_lemma =>
      go_enter Tryz.func118, Tryz.ntmps118
      go_upto_region 1 with fail
      have HT := Lib.hid H0.out
      (obtain ⟨x0, x1, x2, x3⟩ := HT.out.cells; obtain ⟨o0, o1, o2, o3, o4⟩ := HT.out.cello)
      clear H0
      generalize ((w0.alloc (.cells #[.slice px l.length cx] 133)).alloc (.cells #[.int .i64 fa, .int .i64 fr, .slice pf fo.length cf] 168)).alloc _ = wA at *
      generalize w0.heap.size = T0 at *
      go_wp2_with ((go_at_call 117; (first | ((with_reducible refine (must_no HT.out.bx (fun _ => rfl)).mono ?_); rintro e w' ⟨rfl, rfl⟩) | ((with_reducible refine (must_no HT.out.bx (fun h => absurd h (by decide))).mono ?_); rintro e w' ⟨rfl, rfl⟩) | ((with_reducible refine (must_yes (e := 111) HT.out.bx).mono ?_); rintro e w' ⟨rfl, rfl⟩; have HT := Lib.hid (HT.out.setE hbT hWb 111); (obtain ⟨x0, x1, x2, x3⟩ := HT.out.cells; obtain ⟨o0, o1, o2, o3, o4⟩ := HT.out.cello)) | ((with_reducible refine (must_yes (e := 112) HT.out.bx).mono ?_); rintro e w' ⟨rfl, rfl⟩; have HT := Lib.hid (HT.out.setE hbT hWb 112); (obtain ⟨x0, x1, x2, x3⟩ := HT.out.cells; obtain ⟨o0, o1, o2, o3, o4⟩ := HT.out.cello)))))
      go_end0
      exact ⟨rfl, by first | (rw [hE]; exact HT.out.bx) | exact HT.out.bx, HT.out.only⟩
    · have hn' : 0 ≤ n := by omega
      by_cases hm : n < (fo.length : Int)
      · skip
        have hE : opE l ⟨fa, fr, fo⟩ ⟨10, d, a, b', n⟩ = 0 := by simp [opE, kd, ka, kb, inB, hn', hm]
        as_aux_lemma =>
        go_enter Tryz.func118, Tryz.ntmps118
        go_upto_region 1 with fail
        have HT := Lib.hid H0.out
        (obtain ⟨x0, x1, x2, x3⟩ := HT.out.cells; obtain ⟨o0, o1, o2, o3, o4⟩ := HT.out.cello)
        clear H0
        generalize ((w0.alloc (.cells #[.slice px l.length cx] 133)).alloc (.cells #[.int .i64 fa, .int .i64 fr, .slice pf fo.length cf] 168)).alloc _ = wA at *
        generalize w0.heap.size = T0 at *
        go_wp2_with ((go_at_call 117; (first | ((with_reducible refine (must_no HT.out.bx (fun _ => rfl)).mono ?_); rintro e w' ⟨rfl, rfl⟩) | ((with_reducible refine (must_no HT.out.bx (fun h => absurd h (by decide))).mono ?_); rintro e w' ⟨rfl, rfl⟩) | ((with_reducible refine (must_yes (e := 111) HT.out.bx).mono ?_); rintro e w' ⟨rfl, rfl⟩; have HT := Lib.hid (HT.out.setE hbT hWb 111); (obtain ⟨x0, x1, x2, x3⟩ := HT.out.cells; obtain ⟨o0, o1, o2, o3, o4⟩ := HT.out.cello)) | ((with_reducible refine (must_yes (e := 112) HT.out.bx).mono ?_); rintro e w' ⟨rfl, rfl⟩; have HT := Lib.hid (HT.out.setE hbT hWb 112); (obtain ⟨x0, x1, x2, x3⟩ := HT.out.cells; obtain ⟨o0, o1, o2, o3, o4⟩ := HT.out.cello)))))
        go_end0
        exact ⟨rfl, by first | (rw [hE]; exact HT.out.bx) | exact HT.out.bx, HT.out.only⟩
      · have hm' : (fo.length : Int) ≤ n := by omega
        have hmd : decide (n < (fo.length : Int)) = false := decide_eq_false hm
        have hE : opE l ⟨fa, fr, fo⟩ ⟨10, d, a, b', n⟩ = 112 := by simp [opE, kd, ka, kb, inB, hn', hm]
        as_aux_lemma =>
        go_enter Tryz.func118, Tryz.ntmps118
        go_upto_region 1 with fail
        have HT := Lib.hid H0.out
        (obtain ⟨x0, x1, x2, x3⟩ := HT.out.cells; obtain ⟨o0, o1, o2, o3, o4⟩ := HT.out.cello)
        clear H0
        generalize ((w0.alloc (.cells #[.slice px l.length cx] 133)).alloc (.cells #[.int .i64 fa, .int .i64 fr, .slice pf fo.length cf] 168)).alloc _ = wA at *
        generalize w0.heap.size = T0 at *
        go_wp2_with ((go_at_call 117; (first | ((with_reducible refine (must_no HT.out.bx (fun _ => rfl)).mono ?_); rintro e w' ⟨rfl, rfl⟩) | ((with_reducible refine (must_no HT.out.bx (fun h => absurd h (by decide))).mono ?_); rintro e w' ⟨rfl, rfl⟩) | ((with_reducible refine (must_yes (e := 111) HT.out.bx).mono ?_); rintro e w' ⟨rfl, rfl⟩; have HT := Lib.hid (HT.out.setE hbT hWb 111); (obtain ⟨x0, x1, x2, x3⟩ := HT.out.cells; obtain ⟨o0, o1, o2, o3, o4⟩ := HT.out.cello)) | ((with_reducible refine (must_yes (e := 112) HT.out.bx).mono ?_); rintro e w' ⟨rfl, rfl⟩; have HT := Lib.hid (HT.out.setE hbT hWb 112); (obtain ⟨x0, x1, x2, x3⟩ := HT.out.cells; obtain ⟨o0, o1, o2, o3, o4⟩ := HT.out.cello)))))
        go_end0
        exact ⟨rfl, by first | (rw [hE]; exact HT.out.bx) | exact HT.out.bx, HT.out.only⟩
  · clear hkn
    by_cases h1 : fr ≤ a
    · have ht : decide (fr ≤ a) = !false := decide_eq_true h1
      by_cases hn : n < 0
      · have hn' : ¬ 0 ≤ n := by omega
        have hE : opE l ⟨fa, fr, fo⟩ ⟨11, d, a, b', n⟩ = 111 := by simp [opE, kd, ka, kb, inB, h1]
        as_aux_lemma =>
        go_enter Tryz.func118, Tryz.ntmps118
        go_upto_region 1 with fail
        have HT := Lib.hid H0.out
        (obtain ⟨x0, x1, x2, x3⟩ := HT.out.cells; obtain ⟨o0, o1, o2, o3, o4⟩ := HT.out.cello)
        clear H0
        generalize ((w0.alloc (.cells #[.slice px l.length cx] 133)).alloc (.cells #[.int .i64 fa, .int .i64 fr, .slice pf fo.length cf] 168)).alloc _ = wA at *
        generalize w0.heap.size = T0 at *
        go_wp2_with (first | (go_at_call 133; ((with_reducible refine (below_1 (t := false) (Blk.new _ _ _) ht).mono ?_); rintro e w1 ⟨rfl, b1⟩; have HT := Lib.hid ((HT.out.alloc _).step b1); (obtain ⟨x0, x1, x2, x3⟩ := HT.out.cells; obtain ⟨o0, o1, o2, o3, o4⟩ := HT.out.cello); clear b1)) | (go_at_call 117; (first | ((with_reducible refine (must_no HT.out.bx (fun _ => rfl)).mono ?_); rintro e w' ⟨rfl, rfl⟩) | ((with_reducible refine (must_no HT.out.bx (fun h => absurd h (by decide))).mono ?_); rintro e w' ⟨rfl, rfl⟩) | ((with_reducible refine (must_yes (e := 111) HT.out.bx).mono ?_); rintro e w' ⟨rfl, rfl⟩; have HT := Lib.hid (HT.out.setE hbT hWb 111); (obtain ⟨x0, x1, x2, x3⟩ := HT.out.cells; obtain ⟨o0, o1, o2, o3, o4⟩ := HT.out.cello)) | ((with_reducible refine (must_yes (e := 112) HT.out.bx).mono ?_); rintro e w' ⟨rfl, rfl⟩; have HT := Lib.hid (HT.out.setE hbT hWb 112); (obtain ⟨x0, x1, x2, x3⟩ := HT.out.cells; obtain ⟨o0, o1, o2, o3, o4⟩ := HT.out.cello)))))
        go_end0
        exact ⟨rfl, by first | (rw [hE]; exact HT.out.bx) | exact HT.out.bx, HT.out.only⟩
      · have hn' : 0 ≤ n := by omega
        by_cases hm : n < (fo.length : Int)
        · skip
          have hE : opE l ⟨fa, fr, fo⟩ ⟨11, d, a, b', n⟩ = 111 := by simp [opE, kd, ka, kb, inB, h1]
          as_aux_lemma =>
          go_enter Tryz.func118, Tryz.ntmps118
          go_upto_region 1 with fail
          have HT := Lib.hid H0.out
          (obtain ⟨x0, x1, x2, x3⟩ := HT.out.cells; obtain ⟨o0, o1, o2, o3, o4⟩ := HT.out.cello)
          clear H0
          generalize ((w0.alloc (.cells #[.slice px l.length cx] 133)).alloc (.cells #[.int .i64 fa, .int .i64 fr, .slice pf fo.length cf] 168)).alloc _ = wA at *
          generalize w0.heap.size = T0 at *
          go_wp2_with (first | (go_at_call 133; ((with_reducible refine (below_1 (t := false) (Blk.new _ _ _) ht).mono ?_); rintro e w1 ⟨rfl, b1⟩; have HT := Lib.hid ((HT.out.alloc _).step b1); (obtain ⟨x0, x1, x2, x3⟩ := HT.out.cells; obtain ⟨o0, o1, o2, o3, o4⟩ := HT.out.cello); clear b1)) | (go_at_call 117; (first | ((with_reducible refine (must_no HT.out.bx (fun _ => rfl)).mono ?_); rintro e w' ⟨rfl, rfl⟩) | ((with_reducible refine (must_no HT.out.bx (fun h => absurd h (by decide))).mono ?_); rintro e w' ⟨rfl, rfl⟩) | ((with_reducible refine (must_yes (e := 111) HT.out.bx).mono ?_); rintro e w' ⟨rfl, rfl⟩; have HT := Lib.hid (HT.out.setE hbT hWb 111); (obtain ⟨x0, x1, x2, x3⟩ := HT.out.cells; obtain ⟨o0, o1, o2, o3, o4⟩ := HT.out.cello)) | ((with_reducible refine (must_yes (e := 112) HT.out.bx).mono ?_); rintro e w' ⟨rfl, rfl⟩; have HT := Lib.hid (HT.out.setE hbT hWb 112); (obtain ⟨x0, x1, x2, x3⟩ := HT.out.cells; obtain ⟨o0, o1, o2, o3, o4⟩ := HT.out.cello)))))
          go_end0
          exact ⟨rfl, by first | (rw [hE]; exact HT.out.bx) | exact HT.out.bx, HT.out.only⟩
        · have hm' : (fo.length : Int) ≤ n := by omega
          have hmd : decide (n < (fo.length : Int)) = false := decide_eq_false hm
          have hE : opE l ⟨fa, fr, fo⟩ ⟨11, d, a, b', n⟩ = 111 := by simp [opE, kd, ka, kb, inB, h1]
          as_aux_lemma =>
          go_enter Tryz.func118, Tryz.ntmps118
          go_upto_region 1 with fail
          have HT := Lib.hid H0.out
          (obtain ⟨x0, x1, x2, x3⟩ := HT.out.cells; obtain ⟨o0, o1, o2, o3, o4⟩ := HT.out.cello)
          clear H0
          generalize ((w0.alloc (.cells #[.slice px l.length cx] 133)).alloc (.cells #[.int .i64 fa, .int .i64 fr, .slice pf fo.length cf] 168)).alloc _ = wA at *
          generalize w0.heap.size = T0 at *
          go_wp2_with (first | (go_at_call 133; ((with_reducible refine (below_1 (t := false) (Blk.new _ _ _) ht).mono ?_); rintro e w1 ⟨rfl, b1⟩; have HT := Lib.hid ((HT.out.alloc _).step b1); (obtain ⟨x0, x1, x2, x3⟩ := HT.out.cells; obtain ⟨o0, o1, o2, o3, o4⟩ := HT.out.cello); clear b1)) | (go_at_call 117; (first | ((with_reducible refine (must_no HT.out.bx (fun _ => rfl)).mono ?_); rintro e w' ⟨rfl, rfl⟩) | ((with_reducible refine (must_no HT.out.bx (fun h => absurd h (by decide))).mono ?_); rintro e w' ⟨rfl, rfl⟩) | ((with_reducible refine (must_yes (e := 111) HT.out.bx).mono ?_); rintro e w' ⟨rfl, rfl⟩; have HT := Lib.hid (HT.out.setE hbT hWb 111); (obtain ⟨x0, x1, x2, x3⟩ := HT.out.cells; obtain ⟨o0, o1, o2, o3, o4⟩ := HT.out.cello)) | ((with_reducible refine (must_yes (e := 112) HT.out.bx).mono ?_); rintro e w' ⟨rfl, rfl⟩; have HT := Lib.hid (HT.out.setE hbT hWb 112); (obtain ⟨x0, x1, x2, x3⟩ := HT.out.cells; obtain ⟨o0, o1, o2, o3, o4⟩ := HT.out.cello)))))
          go_end0
          exact ⟨rfl, by first | (rw [hE]; exact HT.out.bx) | exact HT.out.bx, HT.out.only⟩
    · have ht : decide (fr ≤ a) = !true := decide_eq_false h1
      by_cases hn : n < 0
      · have hn' : ¬ 0 ≤ n := by omega
        have hE : opE l ⟨fa, fr, fo⟩ ⟨11, d, a, b', n⟩ = 112 := by simp [opE, kd, ka, kb, inB, h1, hn']
        as_aux_lemma =>
        go_enter Tryz.func118, Tryz.ntmps118
        go_upto_region 1 with fail
        have HT := Lib.hid H0.out
        (obtain ⟨x0, x1, x2, x3⟩ := HT.out.cells; obtain ⟨o0, o1, o2, o3, o4⟩ := HT.out.cello)
        clear H0
        generalize ((w0.alloc (.cells #[.slice px l.length cx] 133)).alloc (.cells #[.int .i64 fa, .int .i64 fr, .slice pf fo.length cf] 168)).alloc _ = wA at *
        generalize w0.heap.size = T0 at *
        go_wp2_with (first | (go_at_call 133; ((with_reducible refine (below_1 (t := true) (Blk.new _ _ _) ht).mono ?_); rintro e w1 ⟨rfl, b1⟩; have HT := Lib.hid ((HT.out.alloc _).step b1); (obtain ⟨x0, x1, x2, x3⟩ := HT.out.cells; obtain ⟨o0, o1, o2, o3, o4⟩ := HT.out.cello); clear b1)) | (go_at_call 117; (first | ((with_reducible refine (must_no HT.out.bx (fun _ => rfl)).mono ?_); rintro e w' ⟨rfl, rfl⟩) | ((with_reducible refine (must_no HT.out.bx (fun h => absurd h (by decide))).mono ?_); rintro e w' ⟨rfl, rfl⟩) | ((with_reducible refine (must_yes (e := 111) HT.out.bx).mono ?_); rintro e w' ⟨rfl, rfl⟩; have HT := Lib.hid (HT.out.setE hbT hWb 111); (obtain ⟨x0, x1, x2, x3⟩ := HT.out.cells; obtain ⟨o0, o1, o2, o3, o4⟩ := HT.out.cello)) | ((with_reducible refine (must_yes (e := 112) HT.out.bx).mono ?_); rintro e w' ⟨rfl, rfl⟩; have HT := Lib.hid (HT.out.setE hbT hWb 112); (obtain ⟨x0, x1, x2, x3⟩ := HT.out.cells; obtain ⟨o0, o1, o2, o3, o4⟩ := HT.out.cello)))))
        go_end0
        exact ⟨rfl, by first | (rw [hE]; exact HT.out.bx) | exact HT.out.bx, HT.out.only⟩
      · have hn' : 0 ≤ n := by omega
        by_cases hm : n < (fo.length : Int)
        · skip
          have hE : opE l ⟨fa, fr, fo⟩ ⟨11, d, a, b', n⟩ = 0 := by simp [opE, kd, ka, kb, inB, h1, hn', hm]
          as_aux_lemma =>
          go_enter Tryz.func118, Tryz.ntmps118
          go_upto_region 1 with fail
          have HT := Lib.hid H0.out
          (obtain ⟨x0, x1, x2, x3⟩ := HT.out.cells; obtain ⟨o0, o1, o2, o3, o4⟩ := HT.out.cello)
          clear H0
          generalize ((w0.alloc (.cells #[.slice px l.length cx] 133)).alloc (.cells #[.int .i64 fa, .int .i64 fr, .slice pf fo.length cf] 168)).alloc _ = wA at *
          generalize w0.heap.size = T0 at *
          go_wp2_with (first | (go_at_call 133; ((with_reducible refine (below_1 (t := true) (Blk.new _ _ _) ht).mono ?_); rintro e w1 ⟨rfl, b1⟩; have HT := Lib.hid ((HT.out.alloc _).step b1); (obtain ⟨x0, x1, x2, x3⟩ := HT.out.cells; obtain ⟨o0, o1, o2, o3, o4⟩ := HT.out.cello); clear b1)) | (go_at_call 117; (first | ((with_reducible refine (must_no HT.out.bx (fun _ => rfl)).mono ?_); rintro e w' ⟨rfl, rfl⟩) | ((with_reducible refine (must_no HT.out.bx (fun h => absurd h (by decide))).mono ?_); rintro e w' ⟨rfl, rfl⟩) | ((with_reducible refine (must_yes (e := 111) HT.out.bx).mono ?_); rintro e w' ⟨rfl, rfl⟩; have HT := Lib.hid (HT.out.setE hbT hWb 111); (obtain ⟨x0, x1, x2, x3⟩ := HT.out.cells; obtain ⟨o0, o1, o2, o3, o4⟩ := HT.out.cello)) | ((with_reducible refine (must_yes (e := 112) HT.out.bx).mono ?_); rintro e w' ⟨rfl, rfl⟩; have HT := Lib.hid (HT.out.setE hbT hWb 112); (obtain ⟨x0, x1, x2, x3⟩ := HT.out.cells; obtain ⟨o0, o1, o2, o3, o4⟩ := HT.out.cello)))))
          go_end0
          exact ⟨rfl, by first | (rw [hE]; exact HT.out.bx) | exact HT.out.bx, HT.out.only⟩
        · have hm' : (fo.length : Int) ≤ n := by omega
          have hmd : decide (n < (fo.length : Int)) = false := decide_eq_false hm
          have hE : opE l ⟨fa, fr, fo⟩ ⟨11, d, a, b', n⟩ = 112 := by simp [opE, kd, ka, kb, inB, h1, hn', hm]
          as_aux_lemma =>
          go_enter Tryz.func118, Tryz.ntmps118
          go_upto_region 1 with fail
          have HT := Lib.hid H0.out
          (obtain ⟨x0, x1, x2, x3⟩ := HT.out.cells; obtain ⟨o0, o1, o2, o3, o4⟩ := HT.out.cello)
          clear H0
          generalize ((w0.alloc (.cells #[.slice px l.length cx] 133)).alloc (.cells #[.int .i64 fa, .int .i64 fr, .slice pf fo.length cf] 168)).alloc _ = wA at *
          generalize w0.heap.size = T0 at *
          go_wp2_with (first | (go_at_call 133; ((with_reducible refine (below_1 (t := true) (Blk.new _ _ _) ht).mono ?_); rintro e w1 ⟨rfl, b1⟩; have HT := Lib.hid ((HT.out.alloc _).step b1); (obtain ⟨x0, x1, x2, x3⟩ := HT.out.cells; obtain ⟨o0, o1, o2, o3, o4⟩ := HT.out.cello); clear b1)) | (go_at_call 117; (first | ((with_reducible refine (must_no HT.out.bx (fun _ => rfl)).mono ?_); rintro e w' ⟨rfl, rfl⟩) | ((with_reducible refine (must_no HT.out.bx (fun h => absurd h (by decide))).mono ?_); rintro e w' ⟨rfl, rfl⟩) | ((with_reducible refine (must_yes (e := 111) HT.out.bx).mono ?_); rintro e w' ⟨rfl, rfl⟩; have HT := Lib.hid (HT.out.setE hbT hWb 111); (obtain ⟨x0, x1, x2, x3⟩ := HT.out.cells; obtain ⟨o0, o1, o2, o3, o4⟩ := HT.out.cello)) | ((with_reducible refine (must_yes (e := 112) HT.out.bx).mono ?_); rintro e w' ⟨rfl, rfl⟩; have HT := Lib.hid (HT.out.setE hbT hWb 112); (obtain ⟨x0, x1, x2, x3⟩ := HT.out.cells; obtain ⟨o0, o1, o2, o3, o4⟩ := HT.out.cello)))))
          go_end0
          exact ⟨rfl, by first | (rw [hE]; exact HT.out.bx) | exact HT.out.bx, HT.out.only⟩
  · clear hkn
    by_cases h1 : fr ≤ d
    · have ht : decide (fr ≤ d) = !false := decide_eq_true h1
      by_cases hn : n < 0
      · have hn' : ¬ 0 ≤ n := by omega
        have hE : opE l ⟨fa, fr, fo⟩ ⟨12, d, a, b', n⟩ = 111 := by simp [opE, kd, ka, kb, inB, h1]
        as_aux_lemma =>
        go_enter Tryz.func118, Tryz.ntmps118
        go_upto_region 1 with fail
        have HT := Lib.hid H0.out
        (obtain ⟨x0, x1, x2, x3⟩ := HT.out.cells; obtain ⟨o0, o1, o2, o3, o4⟩ := HT.out.cello)
        clear H0
        generalize ((w0.alloc (.cells #[.slice px l.length cx] 133)).alloc (.cells #[.int .i64 fa, .int .i64 fr, .slice pf fo.length cf] 168)).alloc _ = wA at *
        generalize w0.heap.size = T0 at *
        go_wp2_with (first | (go_at_call 133; ((with_reducible refine (below_1 (t := false) (Blk.new _ _ _) ht).mono ?_); rintro e w1 ⟨rfl, b1⟩; have HT := Lib.hid ((HT.out.alloc _).step b1); (obtain ⟨x0, x1, x2, x3⟩ := HT.out.cells; obtain ⟨o0, o1, o2, o3, o4⟩ := HT.out.cello); clear b1)) | (go_at_call 117; (first | ((with_reducible refine (must_no HT.out.bx (fun _ => rfl)).mono ?_); rintro e w' ⟨rfl, rfl⟩) | ((with_reducible refine (must_no HT.out.bx (fun h => absurd h (by decide))).mono ?_); rintro e w' ⟨rfl, rfl⟩) | ((with_reducible refine (must_yes (e := 111) HT.out.bx).mono ?_); rintro e w' ⟨rfl, rfl⟩; have HT := Lib.hid (HT.out.setE hbT hWb 111); (obtain ⟨x0, x1, x2, x3⟩ := HT.out.cells; obtain ⟨o0, o1, o2, o3, o4⟩ := HT.out.cello)) | ((with_reducible refine (must_yes (e := 112) HT.out.bx).mono ?_); rintro e w' ⟨rfl, rfl⟩; have HT := Lib.hid (HT.out.setE hbT hWb 112); (obtain ⟨x0, x1, x2, x3⟩ := HT.out.cells; obtain ⟨o0, o1, o2, o3, o4⟩ := HT.out.cello)))))
        go_end0
        exact ⟨rfl, by first | (rw [hE]; exact HT.out.bx) | exact HT.out.bx, HT.out.only⟩
      · have hn' : 0 ≤ n := by omega
        by_cases hm : n < (l.length : Int)
        · skip
          have hE : opE l ⟨fa, fr, fo⟩ ⟨12, d, a, b', n⟩ = 111 := by simp [opE, kd, ka, kb, inB, h1]
          as_aux_lemma =>
          go_enter Tryz.func118, Tryz.ntmps118
          go_upto_region 1 with fail
          have HT := Lib.hid H0.out
          (obtain ⟨x0, x1, x2, x3⟩ := HT.out.cells; obtain ⟨o0, o1, o2, o3, o4⟩ := HT.out.cello)
          clear H0
          generalize ((w0.alloc (.cells #[.slice px l.length cx] 133)).alloc (.cells #[.int .i64 fa, .int .i64 fr, .slice pf fo.length cf] 168)).alloc _ = wA at *
          generalize w0.heap.size = T0 at *
          go_wp2_with (first | (go_at_call 133; ((with_reducible refine (below_1 (t := false) (Blk.new _ _ _) ht).mono ?_); rintro e w1 ⟨rfl, b1⟩; have HT := Lib.hid ((HT.out.alloc _).step b1); (obtain ⟨x0, x1, x2, x3⟩ := HT.out.cells; obtain ⟨o0, o1, o2, o3, o4⟩ := HT.out.cello); clear b1)) | (go_at_call 117; (first | ((with_reducible refine (must_no HT.out.bx (fun _ => rfl)).mono ?_); rintro e w' ⟨rfl, rfl⟩) | ((with_reducible refine (must_no HT.out.bx (fun h => absurd h (by decide))).mono ?_); rintro e w' ⟨rfl, rfl⟩) | ((with_reducible refine (must_yes (e := 111) HT.out.bx).mono ?_); rintro e w' ⟨rfl, rfl⟩; have HT := Lib.hid (HT.out.setE hbT hWb 111); (obtain ⟨x0, x1, x2, x3⟩ := HT.out.cells; obtain ⟨o0, o1, o2, o3, o4⟩ := HT.out.cello)) | ((with_reducible refine (must_yes (e := 112) HT.out.bx).mono ?_); rintro e w' ⟨rfl, rfl⟩; have HT := Lib.hid (HT.out.setE hbT hWb 112); (obtain ⟨x0, x1, x2, x3⟩ := HT.out.cells; obtain ⟨o0, o1, o2, o3, o4⟩ := HT.out.cello)))))
          go_end0
          exact ⟨rfl, by first | (rw [hE]; exact HT.out.bx) | exact HT.out.bx, HT.out.only⟩
        · have hm' : (l.length : Int) ≤ n := by omega
          have hmd : decide (n < (l.length : Int)) = false := decide_eq_false hm
          have hE : opE l ⟨fa, fr, fo⟩ ⟨12, d, a, b', n⟩ = 111 := by simp [opE, kd, ka, kb, inB, h1]
          as_aux_lemma =>
          go_enter Tryz.func118, Tryz.ntmps118
          go_upto_region 1 with fail
          have HT := Lib.hid H0.out
          (obtain ⟨x0, x1, x2, x3⟩ := HT.out.cells; obtain ⟨o0, o1, o2, o3, o4⟩ := HT.out.cello)
          clear H0
          generalize ((w0.alloc (.cells #[.slice px l.length cx] 133)).alloc (.cells #[.int .i64 fa, .int .i64 fr, .slice pf fo.length cf] 168)).alloc _ = wA at *
          generalize w0.heap.size = T0 at *
          go_wp2_with (first | (go_at_call 133; ((with_reducible refine (below_1 (t := false) (Blk.new _ _ _) ht).mono ?_); rintro e w1 ⟨rfl, b1⟩; have HT := Lib.hid ((HT.out.alloc _).step b1); (obtain ⟨x0, x1, x2, x3⟩ := HT.out.cells; obtain ⟨o0, o1, o2, o3, o4⟩ := HT.out.cello); clear b1)) | (go_at_call 117; (first | ((with_reducible refine (must_no HT.out.bx (fun _ => rfl)).mono ?_); rintro e w' ⟨rfl, rfl⟩) | ((with_reducible refine (must_no HT.out.bx (fun h => absurd h (by decide))).mono ?_); rintro e w' ⟨rfl, rfl⟩) | ((with_reducible refine (must_yes (e := 111) HT.out.bx).mono ?_); rintro e w' ⟨rfl, rfl⟩; have HT := Lib.hid (HT.out.setE hbT hWb 111); (obtain ⟨x0, x1, x2, x3⟩ := HT.out.cells; obtain ⟨o0, o1, o2, o3, o4⟩ := HT.out.cello)) | ((with_reducible refine (must_yes (e := 112) HT.out.bx).mono ?_); rintro e w' ⟨rfl, rfl⟩; have HT := Lib.hid (HT.out.setE hbT hWb 112); (obtain ⟨x0, x1, x2, x3⟩ := HT.out.cells; obtain ⟨o0, o1, o2, o3, o4⟩ := HT.out.cello)))))
          go_end0
          exact ⟨rfl, by first | (rw [hE]; exact HT.out.bx) | exact HT.out.bx, HT.out.only⟩
    · have ht : decide (fr ≤ d) = !true := decide_eq_false h1
      by_cases hn : n < 0
      · have hn' : ¬ 0 ≤ n := by omega
        have hE : opE l ⟨fa, fr, fo⟩ ⟨12, d, a, b', n⟩ = 112 := by simp [opE, kd, ka, kb, inB, h1, hn']
        as_aux_lemma =>
        go_enter Tryz.func118, Tryz.ntmps118
        go_upto_region 1 with fail
        have HT := Lib.hid H0.out
        (obtain ⟨x0, x1, x2, x3⟩ := HT.out.cells; obtain ⟨o0, o1, o2, o3, o4⟩ := HT.out.cello)
        clear H0
        generalize ((w0.alloc (.cells #[.slice px l.length cx] 133)).alloc (.cells #[.int .i64 fa, .int .i64 fr, .slice pf fo.length cf] 168)).alloc _ = wA at *
        generalize w0.heap.size = T0 at *
        go_wp2_with (first | (go_at_call 133; ((with_reducible refine (below_1 (t := true) (Blk.new _ _ _) ht).mono ?_); rintro e w1 ⟨rfl, b1⟩; have HT := Lib.hid ((HT.out.alloc _).step b1); (obtain ⟨x0, x1, x2, x3⟩ := HT.out.cells; obtain ⟨o0, o1, o2, o3, o4⟩ := HT.out.cello); clear b1)) | (go_at_call 117; (first | ((with_reducible refine (must_no HT.out.bx (fun _ => rfl)).mono ?_); rintro e w' ⟨rfl, rfl⟩) | ((with_reducible refine (must_no HT.out.bx (fun h => absurd h (by decide))).mono ?_); rintro e w' ⟨rfl, rfl⟩) | ((with_reducible refine (must_yes (e := 111) HT.out.bx).mono ?_); rintro e w' ⟨rfl, rfl⟩; have HT := Lib.hid (HT.out.setE hbT hWb 111); (obtain ⟨x0, x1, x2, x3⟩ := HT.out.cells; obtain ⟨o0, o1, o2, o3, o4⟩ := HT.out.cello)) | ((with_reducible refine (must_yes (e := 112) HT.out.bx).mono ?_); rintro e w' ⟨rfl, rfl⟩; have HT := Lib.hid (HT.out.setE hbT hWb 112); (obtain ⟨x0, x1, x2, x3⟩ := HT.out.cells; obtain ⟨o0, o1, o2, o3, o4⟩ := HT.out.cello)))))
        go_end0
        exact ⟨rfl, by first | (rw [hE]; exact HT.out.bx) | exact HT.out.bx, HT.out.only⟩
      · have hn' : 0 ≤ n := by omega
        by_cases hm : n < (l.length : Int)
        · skip
          obtain ⟨m, rfl⟩ : ∃ m : Nat, n = m := ⟨n.toNat, by omega⟩
          have hml : m < l.length := by omega
          obtain ⟨px', cx', e1, hy⟩ := HX.out
          injection e1 with e1 _ e3
          subst e1 e3
          obtain ⟨g, off, rfl, hg, hy⟩ := hy (by omega)
          have hA := HL.out _ (List.getElem_mem hml)
          have HY := Lib.hid (fun w (hb : Below W.heap.size W w) => show w.cell? ⟨g, off + m * 3, none⟩ = some (.int .i64 l[m].args) from by rw [hb.cell (p := ⟨g, _, none⟩) hg]; exact (hy m hml).1)
          have hat : argsAt l (m : Int) = l[m].args := by unfold argsAt; rw [Int.toNat_natCast, List.getElem?_eq_getElem hml]; rfl
          have hin : inB (m : Int) l.length = true := by unfold inB; rw [decide_eq_true hn', decide_eq_true hm]; rfl
          have hE0 : opE l ⟨fa, fr, fo⟩ ⟨12, d, a, b', (m : Int)⟩ = if 0 < l[m].args ∧ fr < a + l[m].args then 111 else 0 := by
            unfold opE
            rw [if_neg (by simp [kd, ka, kb, h1]), if_neg (by simp), if_neg (by simp), hin, hat]
            simp
          clear hy hat hin
          generalize l[m].args = A at *
          by_cases hA0 : A = 0
          · subst hA0
            have hE : opE l ⟨fa, fr, fo⟩ ⟨12, d, a, b', (m : Int)⟩ = 0 := by rw [hE0]; rw [if_neg (by omega)]
            clear hE0
            as_aux_lemma =>
            go_enter Tryz.func118, Tryz.ntmps118
            go_upto_region 1 with fail
            have HT := Lib.hid H0.out
            (obtain ⟨x0, x1, x2, x3⟩ := HT.out.cells; obtain ⟨o0, o1, o2, o3, o4⟩ := HT.out.cello)
            clear H0
            generalize ((w0.alloc (.cells #[.slice (some ⟨g, off, none⟩) l.length cx] 133)).alloc (.cells #[.int .i64 fa, .int .i64 fr, .slice pf fo.length cf] 168)).alloc _ = wA at *
            generalize w0.heap.size = T0 at *
            go_wp2_with (first | (go_at_call 133; ((with_reducible refine (below_1 (t := true) (Blk.new _ _ _) ht).mono ?_); rintro e w1 ⟨rfl, b1⟩; have HT := Lib.hid ((HT.out.alloc _).step b1); (obtain ⟨x0, x1, x2, x3⟩ := HT.out.cells; obtain ⟨o0, o1, o2, o3, o4⟩ := HT.out.cello); have y0 := HY.out _ HT.out.bel; clear b1)) | (go_at_call 117; (first | ((with_reducible refine (must_no HT.out.bx (fun _ => rfl)).mono ?_); rintro e w' ⟨rfl, rfl⟩) | ((with_reducible refine (must_no HT.out.bx (fun h => absurd h (by decide))).mono ?_); rintro e w' ⟨rfl, rfl⟩) | ((with_reducible refine (must_yes (e := 111) HT.out.bx).mono ?_); rintro e w' ⟨rfl, rfl⟩; have HT := Lib.hid (HT.out.setE hbT hWb 111); (obtain ⟨x0, x1, x2, x3⟩ := HT.out.cells; obtain ⟨o0, o1, o2, o3, o4⟩ := HT.out.cello)) | ((with_reducible refine (must_yes (e := 112) HT.out.bx).mono ?_); rintro e w' ⟨rfl, rfl⟩; have HT := Lib.hid (HT.out.setE hbT hWb 112); (obtain ⟨x0, x1, x2, x3⟩ := HT.out.cells; obtain ⟨o0, o1, o2, o3, o4⟩ := HT.out.cello)))))
            go_end0
            exact ⟨rfl, by first | (rw [hE]; exact HT.out.bx) | exact HT.out.bx, HT.out.only⟩
          · have hA0' : (A == 0) = false := by simpa using hA0
            by_cases hs : a + A ≤ fr
            · skip
              have hE : opE l ⟨fa, fr, fo⟩ ⟨12, d, a, b', (m : Int)⟩ = 0 := by rw [hE0]; rw [if_neg (by omega)]
              clear hE0
              as_aux_lemma =>
              go_enter Tryz.func118, Tryz.ntmps118
              go_upto_region 1 with fail
              have HT := Lib.hid H0.out
              (obtain ⟨x0, x1, x2, x3⟩ := HT.out.cells; obtain ⟨o0, o1, o2, o3, o4⟩ := HT.out.cello)
              clear H0
              generalize ((w0.alloc (.cells #[.slice (some ⟨g, off, none⟩) l.length cx] 133)).alloc (.cells #[.int .i64 fa, .int .i64 fr, .slice pf fo.length cf] 168)).alloc _ = wA at *
              generalize w0.heap.size = T0 at *
              go_wp2_with (first | (go_at_call 133; ((with_reducible refine (below_1 (t := true) (Blk.new _ _ _) ht).mono ?_); rintro e w1 ⟨rfl, b1⟩; have HT := Lib.hid ((HT.out.alloc _).step b1); (obtain ⟨x0, x1, x2, x3⟩ := HT.out.cells; obtain ⟨o0, o1, o2, o3, o4⟩ := HT.out.cello); have y0 := HY.out _ HT.out.bel; clear b1)) | (go_at_call 117; (first | ((with_reducible refine (must_no HT.out.bx (fun _ => rfl)).mono ?_); rintro e w' ⟨rfl, rfl⟩) | ((with_reducible refine (must_no HT.out.bx (fun h => absurd h (by decide))).mono ?_); rintro e w' ⟨rfl, rfl⟩) | ((with_reducible refine (must_yes (e := 111) HT.out.bx).mono ?_); rintro e w' ⟨rfl, rfl⟩; have HT := Lib.hid (HT.out.setE hbT hWb 111); (obtain ⟨x0, x1, x2, x3⟩ := HT.out.cells; obtain ⟨o0, o1, o2, o3, o4⟩ := HT.out.cello)) | ((with_reducible refine (must_yes (e := 112) HT.out.bx).mono ?_); rintro e w' ⟨rfl, rfl⟩; have HT := Lib.hid (HT.out.setE hbT hWb 112); (obtain ⟨x0, x1, x2, x3⟩ := HT.out.cells; obtain ⟨o0, o1, o2, o3, o4⟩ := HT.out.cello)))))
              go_end0
              exact ⟨rfl, by first | (rw [hE]; exact HT.out.bx) | exact HT.out.bx, HT.out.only⟩
            · have hs' : fr < a + A := by omega
              have hsd : decide (a + A ≤ fr) = false := decide_eq_false hs
              have hE : opE l ⟨fa, fr, fo⟩ ⟨12, d, a, b', (m : Int)⟩ = 111 := by rw [hE0]; rw [if_pos ⟨by omega, by omega⟩]
              clear hE0
              as_aux_lemma =>
              go_enter Tryz.func118, Tryz.ntmps118
              go_upto_region 1 with fail
              have HT := Lib.hid H0.out
              (obtain ⟨x0, x1, x2, x3⟩ := HT.out.cells; obtain ⟨o0, o1, o2, o3, o4⟩ := HT.out.cello)
              clear H0
              generalize ((w0.alloc (.cells #[.slice (some ⟨g, off, none⟩) l.length cx] 133)).alloc (.cells #[.int .i64 fa, .int .i64 fr, .slice pf fo.length cf] 168)).alloc _ = wA at *
              generalize w0.heap.size = T0 at *
              go_wp2_with (first | (go_at_call 133; ((with_reducible refine (below_1 (t := true) (Blk.new _ _ _) ht).mono ?_); rintro e w1 ⟨rfl, b1⟩; have HT := Lib.hid ((HT.out.alloc _).step b1); (obtain ⟨x0, x1, x2, x3⟩ := HT.out.cells; obtain ⟨o0, o1, o2, o3, o4⟩ := HT.out.cello); have y0 := HY.out _ HT.out.bel; clear b1)) | (go_at_call 117; (first | ((with_reducible refine (must_no HT.out.bx (fun _ => rfl)).mono ?_); rintro e w' ⟨rfl, rfl⟩) | ((with_reducible refine (must_no HT.out.bx (fun h => absurd h (by decide))).mono ?_); rintro e w' ⟨rfl, rfl⟩) | ((with_reducible refine (must_yes (e := 111) HT.out.bx).mono ?_); rintro e w' ⟨rfl, rfl⟩; have HT := Lib.hid (HT.out.setE hbT hWb 111); (obtain ⟨x0, x1, x2, x3⟩ := HT.out.cells; obtain ⟨o0, o1, o2, o3, o4⟩ := HT.out.cello)) | ((with_reducible refine (must_yes (e := 112) HT.out.bx).mono ?_); rintro e w' ⟨rfl, rfl⟩; have HT := Lib.hid (HT.out.setE hbT hWb 112); (obtain ⟨x0, x1, x2, x3⟩ := HT.out.cells; obtain ⟨o0, o1, o2, o3, o4⟩ := HT.out.cello)))))
              go_end0
              exact ⟨rfl, by first | (rw [hE]; exact HT.out.bx) | exact HT.out.bx, HT.out.only⟩
        · have hm' : (l.length : Int) ≤ n := by omega
          have hmd : decide (n < (l.length : Int)) = false := decide_eq_false hm
          have hE : opE l ⟨fa, fr, fo⟩ ⟨12, d, a, b', n⟩ = 112 := by simp [opE, kd, ka, kb, inB, h1, hn', hm]
          as_aux_lemma =>
          go_enter Tryz.func118, Tryz.ntmps118
          go_upto_region 1 with fail
          have HT := Lib.hid H0.out
          (obtain ⟨x0, x1, x2, x3⟩ := HT.out.cells; obtain ⟨o0, o1, o2, o3, o4⟩ := HT.out.cello)
          clear H0
          generalize ((w0.alloc (.cells #[.slice px l.length cx] 133)).alloc (.cells #[.int .i64 fa, .int .i64 fr, .slice pf fo.length cf] 168)).alloc _ = wA at *
          generalize w0.heap.size = T0 at *
          go_wp2_with (first | (go_at_call 133; ((with_reducible refine (below_1 (t := true) (Blk.new _ _ _) ht).mono ?_); rintro e w1 ⟨rfl, b1⟩; have HT := Lib.hid ((HT.out.alloc _).step b1); (obtain ⟨x0, x1, x2, x3⟩ := HT.out.cells; obtain ⟨o0, o1, o2, o3, o4⟩ := HT.out.cello); clear b1)) | (go_at_call 117; (first | ((with_reducible refine (must_no HT.out.bx (fun _ => rfl)).mono ?_); rintro e w' ⟨rfl, rfl⟩) | ((with_reducible refine (must_no HT.out.bx (fun h => absurd h (by decide))).mono ?_); rintro e w' ⟨rfl, rfl⟩) | ((with_reducible refine (must_yes (e := 111) HT.out.bx).mono ?_); rintro e w' ⟨rfl, rfl⟩; have HT := Lib.hid (HT.out.setE hbT hWb 111); (obtain ⟨x0, x1, x2, x3⟩ := HT.out.cells; obtain ⟨o0, o1, o2, o3, o4⟩ := HT.out.cello)) | ((with_reducible refine (must_yes (e := 112) HT.out.bx).mono ?_); rintro e w' ⟨rfl, rfl⟩; have HT := Lib.hid (HT.out.setE hbT hWb 112); (obtain ⟨x0, x1, x2, x3⟩ := HT.out.cells; obtain ⟨o0, o1, o2, o3, o4⟩ := HT.out.cello)))))
          go_end0
          exact ⟨rfl, by first | (rw [hE]; exact HT.out.bx) | exact HT.out.bx, HT.out.only⟩
  · clear hkn
    have hE : opE l ⟨fa, fr, fo⟩ ⟨13, d, a, b', n⟩ = 0 := by simp [opE, kd, ka, kb, inB]
    as_aux_lemma =>
    go_enter Tryz.func118, Tryz.ntmps118
    go_upto_region 1 with fail
    have HT := Lib.hid H0.out
    (obtain ⟨x0, x1, x2, x3⟩ := HT.out.cells; obtain ⟨o0, o1, o2, o3, o4⟩ := HT.out.cello)
    clear H0
    generalize ((w0.alloc (.cells #[.slice px l.length cx] 133)).alloc (.cells #[.int .i64 fa, .int .i64 fr, .slice pf fo.length cf] 168)).alloc _ = wA at *
    generalize w0.heap.size = T0 at *
    go_wp2_with ((go_at_call 117; (first | ((with_reducible refine (must_no HT.out.bx (fun _ => rfl)).mono ?_); rintro e w' ⟨rfl, rfl⟩) | ((with_reducible refine (must_no HT.out.bx (fun h => absurd h (by decide))).mono ?_); rintro e w' ⟨rfl, rfl⟩) | ((with_reducible refine (must_yes (e := 111) HT.out.bx).mono ?_); rintro e w' ⟨rfl, rfl⟩; have HT := Lib.hid (HT.out.setE hbT hWb 111); (obtain ⟨x0, x1, x2, x3⟩ := HT.out.cells; obtain ⟨o0, o1, o2, o3, o4⟩ := HT.out.cello)) | ((with_reducible refine (must_yes (e := 112) HT.out.bx).mono ?_); rintro e w' ⟨rfl, rfl⟩; have HT := Lib.hid (HT.out.setE hbT hWb 112); (obtain ⟨x0, x1, x2, x3⟩ := HT.out.cells; obtain ⟨o0, o1, o2, o3, o4⟩ := HT.out.cello)))))
    go_end0
    exact ⟨rfl, by first | (rw [hE]; exact HT.out.bx) | exact HT.out.bx, HT.out.only⟩
  · clear hkn
    by_cases h1 : fr ≤ a
    · have ht : decide (fr ≤ a) = !false := decide_eq_true h1
      have hE : opE l ⟨fa, fr, fo⟩ ⟨14, d, a, b', n⟩ = 111 := by simp [opE, kd, ka, kb, inB, h1]
      as_aux_lemma =>
      go_enter Tryz.func118, Tryz.ntmps118
      go_upto_region 1 with fail
      have HT := Lib.hid H0.out
      (obtain ⟨x0, x1, x2, x3⟩ := HT.out.cells; obtain ⟨o0, o1, o2, o3, o4⟩ := HT.out.cello)
      clear H0
      generalize ((w0.alloc (.cells #[.slice px l.length cx] 133)).alloc (.cells #[.int .i64 fa, .int .i64 fr, .slice pf fo.length cf] 168)).alloc _ = wA at *
      generalize w0.heap.size = T0 at *
      go_wp2_with (first | (go_at_call 133; ((with_reducible refine (below_1 (t := false) (Blk.new _ _ _) ht).mono ?_); rintro e w1 ⟨rfl, b1⟩; have HT := Lib.hid ((HT.out.alloc _).step b1); (obtain ⟨x0, x1, x2, x3⟩ := HT.out.cells; obtain ⟨o0, o1, o2, o3, o4⟩ := HT.out.cello); clear b1)) | (go_at_call 117; (first | ((with_reducible refine (must_no HT.out.bx (fun _ => rfl)).mono ?_); rintro e w' ⟨rfl, rfl⟩) | ((with_reducible refine (must_no HT.out.bx (fun h => absurd h (by decide))).mono ?_); rintro e w' ⟨rfl, rfl⟩) | ((with_reducible refine (must_yes (e := 111) HT.out.bx).mono ?_); rintro e w' ⟨rfl, rfl⟩; have HT := Lib.hid (HT.out.setE hbT hWb 111); (obtain ⟨x0, x1, x2, x3⟩ := HT.out.cells; obtain ⟨o0, o1, o2, o3, o4⟩ := HT.out.cello)) | ((with_reducible refine (must_yes (e := 112) HT.out.bx).mono ?_); rintro e w' ⟨rfl, rfl⟩; have HT := Lib.hid (HT.out.setE hbT hWb 112); (obtain ⟨x0, x1, x2, x3⟩ := HT.out.cells; obtain ⟨o0, o1, o2, o3, o4⟩ := HT.out.cello)))))
      go_end0
      exact ⟨rfl, by first | (rw [hE]; exact HT.out.bx) | exact HT.out.bx, HT.out.only⟩
    · have ht : decide (fr ≤ a) = !true := decide_eq_false h1
      have hE : opE l ⟨fa, fr, fo⟩ ⟨14, d, a, b', n⟩ = 0 := by simp [opE, kd, ka, kb, inB, h1]
      as_aux_lemma =>
      go_enter Tryz.func118, Tryz.ntmps118
      go_upto_region 1 with fail
      have HT := Lib.hid H0.out
      (obtain ⟨x0, x1, x2, x3⟩ := HT.out.cells; obtain ⟨o0, o1, o2, o3, o4⟩ := HT.out.cello)
      clear H0
      generalize ((w0.alloc (.cells #[.slice px l.length cx] 133)).alloc (.cells #[.int .i64 fa, .int .i64 fr, .slice pf fo.length cf] 168)).alloc _ = wA at *
      generalize w0.heap.size = T0 at *
      go_wp2_with (first | (go_at_call 133; ((with_reducible refine (below_1 (t := true) (Blk.new _ _ _) ht).mono ?_); rintro e w1 ⟨rfl, b1⟩; have HT := Lib.hid ((HT.out.alloc _).step b1); (obtain ⟨x0, x1, x2, x3⟩ := HT.out.cells; obtain ⟨o0, o1, o2, o3, o4⟩ := HT.out.cello); clear b1)) | (go_at_call 117; (first | ((with_reducible refine (must_no HT.out.bx (fun _ => rfl)).mono ?_); rintro e w' ⟨rfl, rfl⟩) | ((with_reducible refine (must_no HT.out.bx (fun h => absurd h (by decide))).mono ?_); rintro e w' ⟨rfl, rfl⟩) | ((with_reducible refine (must_yes (e := 111) HT.out.bx).mono ?_); rintro e w' ⟨rfl, rfl⟩; have HT := Lib.hid (HT.out.setE hbT hWb 111); (obtain ⟨x0, x1, x2, x3⟩ := HT.out.cells; obtain ⟨o0, o1, o2, o3, o4⟩ := HT.out.cello)) | ((with_reducible refine (must_yes (e := 112) HT.out.bx).mono ?_); rintro e w' ⟨rfl, rfl⟩; have HT := Lib.hid (HT.out.setE hbT hWb 112); (obtain ⟨x0, x1, x2, x3⟩ := HT.out.cells; obtain ⟨o0, o1, o2, o3, o4⟩ := HT.out.cello)))))
      go_end0
      exact ⟨rfl, by first | (rw [hE]; exact HT.out.bx) | exact HT.out.bx, HT.out.only⟩
end Go.Proofs.YtlahficmkfgooaaGreat
