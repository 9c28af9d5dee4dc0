import Derived.Test.YtlahficmkfgooaaGreatChkB
import Derived.Test.YtlahficmkfgooaaGreatMgi

/- The walk of the document's look at an op. No condition but that the op and the functions have their form. -/
namespace Go.Proofs.YtlahficmkfgooaaGreat
open Go.RowKit Cd
set_option linter.unusedVariables false
set_option linter.unusedSimpArgs false
/-- The program, the function, the op in blocks T0, T0 + 1, T0 + 2. -/
structure RoW (W : World) (T0 : Nat) (x vo : Value) (fa fr : Int) (o : OpV) (w : World) : Prop where
  tp : Blk w T0 133 #[x]
  tf : Blk w (T0 + 1) 168 #[.int .i64 fa, .int .i64 fr, vo]
  tq : Blk w (T0 + 2) 170 (opA o)
  bel : Below W.heap.size W w
theorem RoW.cells {W : World} {T0 : Nat} {x vo : Value} {fa fr : Int} {o : OpV} {w : World} (h : RoW W T0 x vo fa fr o w) : w.cell? ⟨T0, 0, none⟩ = some x ∧ w.cell? ⟨T0 + 1, 1, none⟩ = some (.int .i64 fr) ∧ w.cell? ⟨T0 + 1, 2, none⟩ = some vo ∧ w.cell? ⟨T0 + 2, 0, none⟩ = some (.int .u8 o.k) ∧ w.cell? ⟨T0 + 2, 1, none⟩ = some (.int .i64 o.d) ∧ w.cell? ⟨T0 + 2, 2, none⟩ = some (.int .i64 o.a) ∧ w.cell? ⟨T0 + 2, 3, none⟩ = some (.int .i64 o.b) ∧ w.cell? ⟨T0 + 2, 4, none⟩ = some (.int .i64 o.n) :=
  ⟨h.tp.cell 0, h.tf.cell 1, h.tf.cell 2, h.tq.cell 0, h.tq.cell 1, h.tq.cell 2, h.tq.cell 3, h.tq.cell 4⟩
/-- Are its registers wrong? -/
def badR (f : FunV) (o : OpV) : Bool := kd o.k && decide (f.regs ≤ o.d) || (ka o.k && !(o.k == 12)) && decide (f.regs ≤ o.a) || kb o.k && decide (f.regs ≤ o.b)
theorem opE_bad {l : List FunV} {f : FunV} {o : OpV} (h : badR f o = true) : opE l f o = 111 := by unfold badR at h; unfold opE; rw [if_pos h]
set_option maxRecDepth 100000 in
set_option maxHeartbeats 8000000 in
theorem rop11_any {W : World} {x vo : Value} {l : List FunV} {f : FunV} {o : OpV} {pf : Option Addr} {cf : Nat} (hx : FunsAt W x l) (hvo : vo = .slice pf f.ops.length cf) (hk8 : U8 o.k) (ho : formB o = true) (hl : ∀ g ∈ l, 0 ≤ g.args ∧ g.args ≤ 16) :
    Calls Tryz.prog 125 #[.agg #[x], .agg #[.int .i64 f.args, .int .i64 f.regs, vo], .agg (opA o)] W fun e w' => ∃ r : Int, e = .returned (.int .i64 r) ∧ r = opE l f o ∧ Below W.heap.size W w' := by
  subst hvo
  obtain ⟨px, cx, rfl⟩ := hx.slice
  obtain ⟨fa, fr, fo⟩ := f
  obtain ⟨k, d, a, b, n⟩ := o
  have HX := Lib.hid hx
  have HL := Lib.hid hl
  have H0 : Hid (RoW W W.heap.size (.slice px l.length cx) (.slice pf fo.length cf) fa fr ⟨k, d, a, b, n⟩ (((W.alloc (.cells #[.slice px l.length cx] 133)).alloc (.cells #[.int .i64 fa, .int .i64 fr, .slice pf fo.length cf] 168)).alloc (.cells (opA ⟨k, d, a, b, n⟩) 170))) := Lib.hid
    ⟨((Blk.new _ _ _).alloc _).alloc _, (Blk.newB W _ _ _).alloc _, by
      have := Blk.new ((W.alloc (.cells #[.slice px l.length cx] 133)).alloc (.cells #[.int .i64 fa, .int .i64 fr, .slice pf fo.length cf] 168)) 170 (opA ⟨k, d, a, b, n⟩)
      simpa using this, (((Below.refl _ W).alloc (Nat.le_refl _) _).alloc (by simp) _).alloc (by simp; omega) _⟩
  have hfm := ho
  unfold formB at hfm
  simp only [Bool.and_eq_true, Bool.or_eq_true, beq_iff_eq] at hfm
  have hkn := hfm.1.1.1.1.1
  have hra := hfm.1.1.1.1.2.2.1
  have hra' : 0 ≤ a ∧ a ≤ 16 := by unfold regB at hra; simpa using hra
  have HH := Lib.hid (fun w => rhas_any k hk8 w)
  clear hx hl ho hfm hra
  unfold known at hkn
  simp only [Bool.and_eq_true, decide_eq_true_eq] at hkn
  have hcase : k = 1 ∨ k = 2 ∨ (3 ≤ k ∧ k ≤ 9) ∨ k = 10 ∨ k = 11 ∨ k = 12 ∨ k = 13 ∨ k = 14 := by omega
  simp only [opA] at H0 ⊢
  rcases hcase with rfl | rfl | hk | rfl | rfl | rfl | rfl | rfl
  · clear hkn hk8
    have HH : Hid (∀ w, Calls Tryz.prog 123 #[.int .u8 1] w fun e w' => e = .returned (.tuple #[.bool true, .bool false, .bool false, .bool true]) ∧ w = w') := HH
    by_cases hd : fr ≤ d
    · skip
      have hE : 111 = opE l ⟨fa, fr, fo⟩ ⟨1, d, a, b, n⟩ := by simp [opE, kd, ka, kb, inB, hd]
      as_aux_lemma =>
      go_enter Tryz.func125, Tryz.ntmps125
      go_upto_region 1 with fail
      have HT := Lib.hid H0.out
      obtain ⟨x0, x1, x2, o0, o1, o2, o3, o4⟩ := HT.out.cells
      have hTl := HT.out.tq.lt
      clear H0
      generalize ((W.alloc (.cells #[.slice px l.length cx] 133)).alloc (.cells #[.int .i64 fa, .int .i64 fr, .slice pf fo.length cf] 168)).alloc _ = wA at *
      go_wp2_with (go_at_call 123; ((with_reducible refine (HH.out _).mono ?_); rintro e w' ⟨rfl, rfl⟩))
      go_ret
      exact ⟨_, rfl, hE, HT.out.bel⟩
    · have hdd : decide (fr ≤ d) = false := decide_eq_false hd
      have hE : 0 = opE l ⟨fa, fr, fo⟩ ⟨1, d, a, b, n⟩ := by simp [opE, kd, ka, kb, inB, hd]
      as_aux_lemma =>
      go_enter Tryz.func125, Tryz.ntmps125
      go_upto_region 1 with fail
      have HT := Lib.hid H0.out
      obtain ⟨x0, x1, x2, o0, o1, o2, o3, o4⟩ := HT.out.cells
      have hTl := HT.out.tq.lt
      clear H0
      generalize ((W.alloc (.cells #[.slice px l.length cx] 133)).alloc (.cells #[.int .i64 fa, .int .i64 fr, .slice pf fo.length cf] 168)).alloc _ = wA at *
      go_wp2_with (go_at_call 123; ((with_reducible refine (HH.out _).mono ?_); rintro e w' ⟨rfl, rfl⟩))
      go_ret
      exact ⟨_, rfl, hE, HT.out.bel⟩
  · clear hkn hk8
    have HH : Hid (∀ w, Calls Tryz.prog 123 #[.int .u8 2] w fun e w' => e = .returned (.tuple #[.bool true, .bool true, .bool false, .bool false]) ∧ w = w') := HH
    by_cases hd : fr ≤ d
    · skip
      have hE : 111 = opE l ⟨fa, fr, fo⟩ ⟨2, d, a, b, n⟩ := by simp [opE, kd, ka, kb, inB, hd]
      as_aux_lemma =>
      go_enter Tryz.func125, Tryz.ntmps125
      go_upto_region 1 with fail
      have HT := Lib.hid H0.out
      obtain ⟨x0, x1, x2, o0, o1, o2, o3, o4⟩ := HT.out.cells
      have hTl := HT.out.tq.lt
      clear H0
      generalize ((W.alloc (.cells #[.slice px l.length cx] 133)).alloc (.cells #[.int .i64 fa, .int .i64 fr, .slice pf fo.length cf] 168)).alloc _ = wA at *
      go_wp2_with (go_at_call 123; ((with_reducible refine (HH.out _).mono ?_); rintro e w' ⟨rfl, rfl⟩))
      go_ret
      exact ⟨_, rfl, hE, HT.out.bel⟩
    · have hdd : decide (fr ≤ d) = false := decide_eq_false hd
      by_cases ha : fr ≤ a
      · skip
        have hE : 111 = opE l ⟨fa, fr, fo⟩ ⟨2, d, a, b, n⟩ := by simp [opE, kd, ka, kb, inB, ha]
        as_aux_lemma =>
        go_enter Tryz.func125, Tryz.ntmps125
        go_upto_region 1 with fail
        have HT := Lib.hid H0.out
        obtain ⟨x0, x1, x2, o0, o1, o2, o3, o4⟩ := HT.out.cells
        have hTl := HT.out.tq.lt
        clear H0
        generalize ((W.alloc (.cells #[.slice px l.length cx] 133)).alloc (.cells #[.int .i64 fa, .int .i64 fr, .slice pf fo.length cf] 168)).alloc _ = wA at *
        go_wp2_with (go_at_call 123; ((with_reducible refine (HH.out _).mono ?_); rintro e w' ⟨rfl, rfl⟩))
        go_ret
        exact ⟨_, rfl, hE, HT.out.bel⟩
      · have had : decide (fr ≤ a) = false := decide_eq_false ha
        have hE : 0 = opE l ⟨fa, fr, fo⟩ ⟨2, d, a, b, n⟩ := by simp [opE, kd, ka, kb, inB, hd, ha]
        as_aux_lemma =>
        go_enter Tryz.func125, Tryz.ntmps125
        go_upto_region 1 with fail
        have HT := Lib.hid H0.out
        obtain ⟨x0, x1, x2, o0, o1, o2, o3, o4⟩ := HT.out.cells
        have hTl := HT.out.tq.lt
        clear H0
        generalize ((W.alloc (.cells #[.slice px l.length cx] 133)).alloc (.cells #[.int .i64 fa, .int .i64 fr, .slice pf fo.length cf] 168)).alloc _ = wA at *
        go_wp2_with (go_at_call 123; ((with_reducible refine (HH.out _).mono ?_); rintro e w' ⟨rfl, rfl⟩))
        go_ret
        exact ⟨_, rfl, hE, HT.out.bel⟩
  · clear hkn
    have hk12 : (k == 12) = false := by simp; omega
    have hk10 : (k == 10) = false := by simp; omega
    have hk11 : (k == 11) = false := by simp; omega
    have e1 : kd k = true := by unfold kd; rw [decide_eq_true (by omega), decide_eq_true (by omega)]; rfl
    have e2 : ka k = true := by unfold ka; rw [decide_eq_true (by omega), decide_eq_true (by omega)]; rfl
    have e3 : kb k = true := by unfold kb; rw [decide_eq_true (by omega), decide_eq_true (by omega)]; rfl
    unfold HasT at HH
    rw [e1, e2, e3] at HH
    generalize kn k = fn at HH
    by_cases hd : fr ≤ d
    · skip
      have hE : 111 = opE l ⟨fa, fr, fo⟩ ⟨k, d, a, b, n⟩ := by (unfold opE; simp only [e1, e2, e3, hk12, hk10, hk11]; simp [hd])
      clear e1 e2 e3 hk hk8
      as_aux_lemma =>
      go_enter Tryz.func125, Tryz.ntmps125
      go_upto_region 1 with fail
      have HT := Lib.hid H0.out
      obtain ⟨x0, x1, x2, o0, o1, o2, o3, o4⟩ := HT.out.cells
      have hTl := HT.out.tq.lt
      clear H0
      generalize ((W.alloc (.cells #[.slice px l.length cx] 133)).alloc (.cells #[.int .i64 fa, .int .i64 fr, .slice pf fo.length cf] 168)).alloc _ = wA at *
      go_wp2_with (go_at_call 123; ((with_reducible refine (HH.out _).mono ?_); rintro e w' ⟨rfl, rfl⟩))
      go_ret
      exact ⟨_, rfl, hE, HT.out.bel⟩
    · have hdd : decide (fr ≤ d) = false := decide_eq_false hd
      by_cases ha : fr ≤ a
      · skip
        have hE : 111 = opE l ⟨fa, fr, fo⟩ ⟨k, d, a, b, n⟩ := by (unfold opE; simp only [e1, e2, e3, hk12, hk10, hk11]; simp [ha])
        clear e1 e2 e3 hk hk8
        as_aux_lemma =>
        go_enter Tryz.func125, Tryz.ntmps125
        go_upto_region 1 with fail
        have HT := Lib.hid H0.out
        obtain ⟨x0, x1, x2, o0, o1, o2, o3, o4⟩ := HT.out.cells
        have hTl := HT.out.tq.lt
        clear H0
        generalize ((W.alloc (.cells #[.slice px l.length cx] 133)).alloc (.cells #[.int .i64 fa, .int .i64 fr, .slice pf fo.length cf] 168)).alloc _ = wA at *
        go_wp2_with (go_at_call 123; ((with_reducible refine (HH.out _).mono ?_); rintro e w' ⟨rfl, rfl⟩))
        go_ret
        exact ⟨_, rfl, hE, HT.out.bel⟩
      · have had : decide (fr ≤ a) = false := decide_eq_false ha
        by_cases hb : fr ≤ b
        · skip
          have hE : 111 = opE l ⟨fa, fr, fo⟩ ⟨k, d, a, b, n⟩ := by (unfold opE; simp only [e1, e2, e3, hk12, hk10, hk11]; simp [hb])
          clear e1 e2 e3 hk hk8
          as_aux_lemma =>
          go_enter Tryz.func125, Tryz.ntmps125
          go_upto_region 1 with fail
          have HT := Lib.hid H0.out
          obtain ⟨x0, x1, x2, o0, o1, o2, o3, o4⟩ := HT.out.cells
          have hTl := HT.out.tq.lt
          clear H0
          generalize ((W.alloc (.cells #[.slice px l.length cx] 133)).alloc (.cells #[.int .i64 fa, .int .i64 fr, .slice pf fo.length cf] 168)).alloc _ = wA at *
          go_wp2_with (go_at_call 123; ((with_reducible refine (HH.out _).mono ?_); rintro e w' ⟨rfl, rfl⟩))
          go_ret
          exact ⟨_, rfl, hE, HT.out.bel⟩
        · have hbd : decide (fr ≤ b) = false := decide_eq_false hb
          have hE : 0 = opE l ⟨fa, fr, fo⟩ ⟨k, d, a, b, n⟩ := by (unfold opE; simp only [e1, e2, e3, hk12, hk10, hk11]; simp [hd, ha, hb])
          clear e1 e2 e3 hk hk8
          as_aux_lemma =>
          go_enter Tryz.func125, Tryz.ntmps125
          go_upto_region 1 with fail
          have HT := Lib.hid H0.out
          obtain ⟨x0, x1, x2, o0, o1, o2, o3, o4⟩ := HT.out.cells
          have hTl := HT.out.tq.lt
          clear H0
          generalize ((W.alloc (.cells #[.slice px l.length cx] 133)).alloc (.cells #[.int .i64 fa, .int .i64 fr, .slice pf fo.length cf] 168)).alloc _ = wA at *
          go_wp2_with (go_at_call 123; ((with_reducible refine (HH.out _).mono ?_); rintro e w' ⟨rfl, rfl⟩))
          go_ret
          exact ⟨_, rfl, hE, HT.out.bel⟩
  · clear hkn hk8
    have HH : Hid (∀ w, Calls Tryz.prog 123 #[.int .u8 10] w fun e w' => e = .returned (.tuple #[.bool false, .bool false, .bool false, .bool true]) ∧ w = w') := HH
    by_cases hn : n < 0
    · have hn' : ¬ 0 ≤ n := by omega
      have hE : 112 = opE l ⟨fa, fr, fo⟩ ⟨10, d, a, b, n⟩ := by simp [opE, kd, ka, kb, inB, hn']
      as_aux_lemma =>
      go_enter Tryz.func125, Tryz.ntmps125
      go_upto_region 1 with fail
      have HT := Lib.hid H0.out
      obtain ⟨x0, x1, x2, o0, o1, o2, o3, o4⟩ := HT.out.cells
      have hTl := HT.out.tq.lt
      clear H0
      generalize ((W.alloc (.cells #[.slice px l.length cx] 133)).alloc (.cells #[.int .i64 fa, .int .i64 fr, .slice pf fo.length cf] 168)).alloc _ = wA at *
      go_wp2_with (go_at_call 123; ((with_reducible refine (HH.out _).mono ?_); rintro e w' ⟨rfl, rfl⟩))
      go_ret
      exact ⟨_, rfl, hE, HT.out.bel⟩
    · have hn' : 0 ≤ n := by omega
      by_cases hm : n < (fo.length : Int)
      · have hmd : decide ((fo.length : Int) ≤ n) = false := decide_eq_false (by omega)
        have hE : 0 = opE l ⟨fa, fr, fo⟩ ⟨10, d, a, b, n⟩ := by simp [opE, kd, ka, kb, inB, hn', hm]
        as_aux_lemma =>
        go_enter Tryz.func125, Tryz.ntmps125
        go_upto_region 1 with fail
        have HT := Lib.hid H0.out
        obtain ⟨x0, x1, x2, o0, o1, o2, o3, o4⟩ := HT.out.cells
        have hTl := HT.out.tq.lt
        clear H0
        generalize ((W.alloc (.cells #[.slice px l.length cx] 133)).alloc (.cells #[.int .i64 fa, .int .i64 fr, .slice pf fo.length cf] 168)).alloc _ = wA at *
        go_wp2_with (go_at_call 123; ((with_reducible refine (HH.out _).mono ?_); rintro e w' ⟨rfl, rfl⟩))
        go_ret
        exact ⟨_, rfl, hE, HT.out.bel⟩
      · have hm' : (fo.length : Int) ≤ n := by omega
        have hmd : decide ((fo.length : Int) ≤ n) = true := decide_eq_true hm'
        have hE : 112 = opE l ⟨fa, fr, fo⟩ ⟨10, d, a, b, n⟩ := by simp [opE, kd, ka, kb, inB, hn', hm]
        as_aux_lemma =>
        go_enter Tryz.func125, Tryz.ntmps125
        go_upto_region 1 with fail
        have HT := Lib.hid H0.out
        obtain ⟨x0, x1, x2, o0, o1, o2, o3, o4⟩ := HT.out.cells
        have hTl := HT.out.tq.lt
        clear H0
        generalize ((W.alloc (.cells #[.slice px l.length cx] 133)).alloc (.cells #[.int .i64 fa, .int .i64 fr, .slice pf fo.length cf] 168)).alloc _ = wA at *
        go_wp2_with (go_at_call 123; ((with_reducible refine (HH.out _).mono ?_); rintro e w' ⟨rfl, rfl⟩))
        go_ret
        exact ⟨_, rfl, hE, HT.out.bel⟩
  · clear hkn hk8
    have HH : Hid (∀ w, Calls Tryz.prog 123 #[.int .u8 11] w fun e w' => e = .returned (.tuple #[.bool false, .bool true, .bool false, .bool true]) ∧ w = w') := HH
    by_cases ha : fr ≤ a
    · skip
      have hE : 111 = opE l ⟨fa, fr, fo⟩ ⟨11, d, a, b, n⟩ := by simp [opE, kd, ka, kb, inB, ha]
      as_aux_lemma =>
      go_enter Tryz.func125, Tryz.ntmps125
      go_upto_region 1 with fail
      have HT := Lib.hid H0.out
      obtain ⟨x0, x1, x2, o0, o1, o2, o3, o4⟩ := HT.out.cells
      have hTl := HT.out.tq.lt
      clear H0
      generalize ((W.alloc (.cells #[.slice px l.length cx] 133)).alloc (.cells #[.int .i64 fa, .int .i64 fr, .slice pf fo.length cf] 168)).alloc _ = wA at *
      go_wp2_with (go_at_call 123; ((with_reducible refine (HH.out _).mono ?_); rintro e w' ⟨rfl, rfl⟩))
      go_ret
      exact ⟨_, rfl, hE, HT.out.bel⟩
    · have had : decide (fr ≤ a) = false := decide_eq_false ha
      by_cases hn : n < 0
      · have hn' : ¬ 0 ≤ n := by omega
        have hE : 112 = opE l ⟨fa, fr, fo⟩ ⟨11, d, a, b, n⟩ := by simp [opE, kd, ka, kb, inB, ha, hn']
        as_aux_lemma =>
        go_enter Tryz.func125, Tryz.ntmps125
        go_upto_region 1 with fail
        have HT := Lib.hid H0.out
        obtain ⟨x0, x1, x2, o0, o1, o2, o3, o4⟩ := HT.out.cells
        have hTl := HT.out.tq.lt
        clear H0
        generalize ((W.alloc (.cells #[.slice px l.length cx] 133)).alloc (.cells #[.int .i64 fa, .int .i64 fr, .slice pf fo.length cf] 168)).alloc _ = wA at *
        go_wp2_with (go_at_call 123; ((with_reducible refine (HH.out _).mono ?_); rintro e w' ⟨rfl, rfl⟩))
        go_ret
        exact ⟨_, rfl, hE, HT.out.bel⟩
      · have hn' : 0 ≤ n := by omega
        by_cases hm : n < (fo.length : Int)
        · have hmd : decide ((fo.length : Int) ≤ n) = false := decide_eq_false (by omega)
          have hE : 0 = opE l ⟨fa, fr, fo⟩ ⟨11, d, a, b, n⟩ := by simp [opE, kd, ka, kb, inB, ha, hn', hm]
          as_aux_lemma =>
          go_enter Tryz.func125, Tryz.ntmps125
          go_upto_region 1 with fail
          have HT := Lib.hid H0.out
          obtain ⟨x0, x1, x2, o0, o1, o2, o3, o4⟩ := HT.out.cells
          have hTl := HT.out.tq.lt
          clear H0
          generalize ((W.alloc (.cells #[.slice px l.length cx] 133)).alloc (.cells #[.int .i64 fa, .int .i64 fr, .slice pf fo.length cf] 168)).alloc _ = wA at *
          go_wp2_with (go_at_call 123; ((with_reducible refine (HH.out _).mono ?_); rintro e w' ⟨rfl, rfl⟩))
          go_ret
          exact ⟨_, rfl, hE, HT.out.bel⟩
        · have hm' : (fo.length : Int) ≤ n := by omega
          have hmd : decide ((fo.length : Int) ≤ n) = true := decide_eq_true hm'
          have hE : 112 = opE l ⟨fa, fr, fo⟩ ⟨11, d, a, b, n⟩ := by simp [opE, kd, ka, kb, inB, ha, hn', hm]
          as_aux_lemma =>
          go_enter Tryz.func125, Tryz.ntmps125
          go_upto_region 1 with fail
          have HT := Lib.hid H0.out
          obtain ⟨x0, x1, x2, o0, o1, o2, o3, o4⟩ := HT.out.cells
          have hTl := HT.out.tq.lt
          clear H0
          generalize ((W.alloc (.cells #[.slice px l.length cx] 133)).alloc (.cells #[.int .i64 fa, .int .i64 fr, .slice pf fo.length cf] 168)).alloc _ = wA at *
          go_wp2_with (go_at_call 123; ((with_reducible refine (HH.out _).mono ?_); rintro e w' ⟨rfl, rfl⟩))
          go_ret
          exact ⟨_, rfl, hE, HT.out.bel⟩
  · clear hkn hk8
    have HH : Hid (∀ w, Calls Tryz.prog 123 #[.int .u8 12] w fun e w' => e = .returned (.tuple #[.bool true, .bool true, .bool false, .bool true]) ∧ w = w') := HH
    by_cases hd : fr ≤ d
    · skip
      have hE : 111 = opE l ⟨fa, fr, fo⟩ ⟨12, d, a, b, n⟩ := by simp [opE, kd, ka, kb, inB, hd]
      as_aux_lemma =>
      go_enter Tryz.func125, Tryz.ntmps125
      go_upto_region 1 with fail
      have HT := Lib.hid H0.out
      obtain ⟨x0, x1, x2, o0, o1, o2, o3, o4⟩ := HT.out.cells
      have hTl := HT.out.tq.lt
      clear H0
      generalize ((W.alloc (.cells #[.slice px l.length cx] 133)).alloc (.cells #[.int .i64 fa, .int .i64 fr, .slice pf fo.length cf] 168)).alloc _ = wA at *
      go_wp2_with (go_at_call 123; ((with_reducible refine (HH.out _).mono ?_); rintro e w' ⟨rfl, rfl⟩))
      go_ret
      exact ⟨_, rfl, hE, HT.out.bel⟩
    · have hdd : decide (fr ≤ d) = false := decide_eq_false hd
      by_cases hn : n < 0
      · have hn' : ¬ 0 ≤ n := by omega
        have hE : 112 = opE l ⟨fa, fr, fo⟩ ⟨12, d, a, b, n⟩ := by simp [opE, kd, ka, kb, inB, hd, hn']
        as_aux_lemma =>
        go_enter Tryz.func125, Tryz.ntmps125
        go_upto_region 1 with fail
        have HT := Lib.hid H0.out
        obtain ⟨x0, x1, x2, o0, o1, o2, o3, o4⟩ := HT.out.cells
        have hTl := HT.out.tq.lt
        clear H0
        generalize ((W.alloc (.cells #[.slice px l.length cx] 133)).alloc (.cells #[.int .i64 fa, .int .i64 fr, .slice pf fo.length cf] 168)).alloc _ = wA at *
        go_wp2_with (go_at_call 123; ((with_reducible refine (HH.out _).mono ?_); rintro e w' ⟨rfl, rfl⟩))
        go_ret
        exact ⟨_, rfl, hE, HT.out.bel⟩
      · have hn' : 0 ≤ n := by omega
        by_cases hm : n < (l.length : Int)
        · have hmd : decide ((l.length : Int) ≤ n) = false := decide_eq_false (by omega)
          obtain ⟨m, rfl⟩ : ∃ m : Nat, n = m := ⟨n.toNat, by omega⟩
          have hml : m < l.length := by omega
          obtain ⟨px', cx', e1, hy⟩ := HX.out
          injection e1 with e1 _ e3
          subst e1 e3
          obtain ⟨g, off, rfl, hg, hy⟩ := hy (by omega)
          have hA := HL.out _ (List.getElem_mem hml)
          have HY := Lib.hid (fun w (hb : Below W.heap.size W w) => show w.cell? ⟨g, off + m * 3, none⟩ = some (.int .i64 l[m].args) from by rw [hb.cell (p := ⟨g, _, none⟩) hg]; exact (hy m hml).1)
          have hat : argsAt l (m : Int) = l[m].args := by unfold argsAt; rw [Int.toNat_natCast, List.getElem?_eq_getElem hml]; rfl
          have hin : inB (m : Int) l.length = true := by unfold inB; rw [decide_eq_true hn', decide_eq_true hm]; rfl
          have hE0 : opE l ⟨fa, fr, fo⟩ ⟨12, d, a, b, (m : Int)⟩ = if 0 < l[m].args ∧ fr < a + l[m].args then 111 else 0 := by
            unfold opE
            rw [if_neg (by simp [kd, ka, kb, hd]), if_neg (by simp), if_neg (by simp), hin, hat]
            simp
          clear hy hat hin
          generalize l[m].args = A at *
          by_cases hA0 : A = 0
          · subst hA0
            have hE : 0 = opE l ⟨fa, fr, fo⟩ ⟨12, d, a, b, (m : Int)⟩ := by rw [hE0]; rw [if_neg (by omega)]
            clear hE0
            as_aux_lemma =>
            go_enter Tryz.func125, Tryz.ntmps125
            go_upto_region 1 with fail
            have HT := Lib.hid H0.out
            obtain ⟨x0, x1, x2, o0, o1, o2, o3, o4⟩ := HT.out.cells
            have hTl := HT.out.tq.lt
            clear H0
            generalize ((W.alloc (.cells #[.slice (some ⟨g, off, none⟩) l.length cx] 133)).alloc (.cells #[.int .i64 fa, .int .i64 fr, .slice pf fo.length cf] 168)).alloc _ = wA at *
            have y0 := HY.out _ HT.out.bel
            go_wp2_with (go_at_call 123; ((with_reducible refine (HH.out _).mono ?_); rintro e w' ⟨rfl, rfl⟩))
            go_ret
            exact ⟨_, rfl, hE, HT.out.bel⟩
          · have hA0' : 0 < A := by omega
            by_cases hs : fr < a + A
            · skip
              have hE : 111 = opE l ⟨fa, fr, fo⟩ ⟨12, d, a, b, (m : Int)⟩ := by rw [hE0]; rw [if_pos ⟨by omega, by omega⟩]
              clear hE0
              as_aux_lemma =>
              go_enter Tryz.func125, Tryz.ntmps125
              go_upto_region 1 with fail
              have HT := Lib.hid H0.out
              obtain ⟨x0, x1, x2, o0, o1, o2, o3, o4⟩ := HT.out.cells
              have hTl := HT.out.tq.lt
              clear H0
              generalize ((W.alloc (.cells #[.slice (some ⟨g, off, none⟩) l.length cx] 133)).alloc (.cells #[.int .i64 fa, .int .i64 fr, .slice pf fo.length cf] 168)).alloc _ = wA at *
              have y0 := HY.out _ HT.out.bel
              go_wp2_with (go_at_call 123; ((with_reducible refine (HH.out _).mono ?_); rintro e w' ⟨rfl, rfl⟩))
              go_ret
              exact ⟨_, rfl, hE, HT.out.bel⟩
            · have hsd : decide (fr < a + A) = false := decide_eq_false hs
              have hE : 0 = opE l ⟨fa, fr, fo⟩ ⟨12, d, a, b, (m : Int)⟩ := by rw [hE0]; rw [if_neg (by omega)]
              clear hE0
              as_aux_lemma =>
              go_enter Tryz.func125, Tryz.ntmps125
              go_upto_region 1 with fail
              have HT := Lib.hid H0.out
              obtain ⟨x0, x1, x2, o0, o1, o2, o3, o4⟩ := HT.out.cells
              have hTl := HT.out.tq.lt
              clear H0
              generalize ((W.alloc (.cells #[.slice (some ⟨g, off, none⟩) l.length cx] 133)).alloc (.cells #[.int .i64 fa, .int .i64 fr, .slice pf fo.length cf] 168)).alloc _ = wA at *
              have y0 := HY.out _ HT.out.bel
              go_wp2_with (go_at_call 123; ((with_reducible refine (HH.out _).mono ?_); rintro e w' ⟨rfl, rfl⟩))
              go_ret
              exact ⟨_, rfl, hE, HT.out.bel⟩
        · have hm' : (l.length : Int) ≤ n := by omega
          have hmd : decide ((l.length : Int) ≤ n) = true := decide_eq_true hm'
          have hE : 112 = opE l ⟨fa, fr, fo⟩ ⟨12, d, a, b, n⟩ := by simp [opE, kd, ka, kb, inB, hd, hn', hm]
          as_aux_lemma =>
          go_enter Tryz.func125, Tryz.ntmps125
          go_upto_region 1 with fail
          have HT := Lib.hid H0.out
          obtain ⟨x0, x1, x2, o0, o1, o2, o3, o4⟩ := HT.out.cells
          have hTl := HT.out.tq.lt
          clear H0
          generalize ((W.alloc (.cells #[.slice px l.length cx] 133)).alloc (.cells #[.int .i64 fa, .int .i64 fr, .slice pf fo.length cf] 168)).alloc _ = wA at *
          go_wp2_with (go_at_call 123; ((with_reducible refine (HH.out _).mono ?_); rintro e w' ⟨rfl, rfl⟩))
          go_ret
          exact ⟨_, rfl, hE, HT.out.bel⟩
  · clear hkn hk8
    have HH : Hid (∀ w, Calls Tryz.prog 123 #[.int .u8 13] w fun e w' => e = .returned (.tuple #[.bool false, .bool false, .bool false, .bool false]) ∧ w = w') := HH
    have hE : 0 = opE l ⟨fa, fr, fo⟩ ⟨13, d, a, b, n⟩ := by simp [opE, kd, ka, kb, inB]
    as_aux_lemma =>
    go_enter Tryz.func125, Tryz.ntmps125
    go_upto_region 1 with fail
    have HT := Lib.hid H0.out
    obtain ⟨x0, x1, x2, o0, o1, o2, o3, o4⟩ := HT.out.cells
    have hTl := HT.out.tq.lt
    clear H0
    generalize ((W.alloc (.cells #[.slice px l.length cx] 133)).alloc (.cells #[.int .i64 fa, .int .i64 fr, .slice pf fo.length cf] 168)).alloc _ = wA at *
    go_wp2_with (go_at_call 123; ((with_reducible refine (HH.out _).mono ?_); rintro e w' ⟨rfl, rfl⟩))
    go_ret
    exact ⟨_, rfl, hE, HT.out.bel⟩
  · clear hkn hk8
    have HH : Hid (∀ w, Calls Tryz.prog 123 #[.int .u8 14] w fun e w' => e = .returned (.tuple #[.bool false, .bool true, .bool false, .bool false]) ∧ w = w') := HH
    by_cases ha : fr ≤ a
    · skip
      have hE : 111 = opE l ⟨fa, fr, fo⟩ ⟨14, d, a, b, n⟩ := by simp [opE, kd, ka, kb, inB, ha]
      as_aux_lemma =>
      go_enter Tryz.func125, Tryz.ntmps125
      go_upto_region 1 with fail
      have HT := Lib.hid H0.out
      obtain ⟨x0, x1, x2, o0, o1, o2, o3, o4⟩ := HT.out.cells
      have hTl := HT.out.tq.lt
      clear H0
      generalize ((W.alloc (.cells #[.slice px l.length cx] 133)).alloc (.cells #[.int .i64 fa, .int .i64 fr, .slice pf fo.length cf] 168)).alloc _ = wA at *
      go_wp2_with (go_at_call 123; ((with_reducible refine (HH.out _).mono ?_); rintro e w' ⟨rfl, rfl⟩))
      go_ret
      exact ⟨_, rfl, hE, HT.out.bel⟩
    · have had : decide (fr ≤ a) = false := decide_eq_false ha
      have hE : 0 = opE l ⟨fa, fr, fo⟩ ⟨14, d, a, b, n⟩ := by simp [opE, kd, ka, kb, inB, ha]
      as_aux_lemma =>
      go_enter Tryz.func125, Tryz.ntmps125
      go_upto_region 1 with fail
      have HT := Lib.hid H0.out
      obtain ⟨x0, x1, x2, o0, o1, o2, o3, o4⟩ := HT.out.cells
      have hTl := HT.out.tq.lt
      clear H0
      generalize ((W.alloc (.cells #[.slice px l.length cx] 133)).alloc (.cells #[.int .i64 fa, .int .i64 fr, .slice pf fo.length cf] 168)).alloc _ = wA at *
      go_wp2_with (go_at_call 123; ((with_reducible refine (HH.out _).mono ?_); rintro e w' ⟨rfl, rfl⟩))
      go_ret
      exact ⟨_, rfl, hE, HT.out.bel⟩
end Go.Proofs.YtlahficmkfgooaaGreat
