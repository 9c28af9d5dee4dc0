import Derived.Test.YtlahficmkfgooaaGreatMgc

/- The walks of what says whether a program has its form: 'formed'. No condition but that numbers fit their kinds. -/
namespace Go.Proofs.YtlahficmkfgooaaGreat
open Go.RowKit Cd
set_option linter.unusedVariables false
theorem below_undrew {w w' : World} (h : Below w.drew.heap.size w.drew w') : Below w.heap.size w w' := ⟨h.os, h.tape, h.output, h.size, h.block⟩
theorem three (p : Bool) (x : Int) : (p = true ∧ (p || x == 0) = true) ∨ (p = false ∧ (x == 0) = true) ∨ (p = false ∧ (x == 0) = false) := by
  cases p <;> cases h : (x == 0) <;> simp
def FCut (w : World) (o : OpV) (p q : Value) (wc : World) : Prop := ∃ b, p = .pointer (some ⟨b, 0, none⟩) ∧ (∃ kk, q = .bool kk ∧ kk = known o.k) ∧ Blk wc b 183 #[.bool (kd o.k), .bool (ka o.k), .bool (kb o.k), .bool (kn o.k)] ∧ Below (w.alloc (.cells (opA o) 170)).heap.size (w.alloc (.cells (opA o) 170)) wc
set_option maxRecDepth 100000 in
set_option maxHeartbeats 20000000 in
theorem formed_go (o : OpV) (ho : OkO o) (w : World) : Calls Tryz.prog 131 #[.agg (opA o)] w fun e w' => ∃ r : Bool, e = .returned (.bool r) ∧ r = formB o ∧ Below w.heap.size w w' := by
  have hk8 := ho.1
  have HT := Lib.hid (Blk.new w 170 (opA o))
  clear ho
  obtain ⟨k, d, a, b, n⟩ := o
  simp only [opA] at HT ⊢
  go_enter Tryz.func131, Tryz.ntmps131
  go_upto_region 1 with fail
  go_cut [3, 4] (fun p q wc => FCut w ⟨k, d, a, b, n⟩ p q wc)
  case first =>
    have HI := Lib.hid hk8
    clear hk8
    go_region_with (go_at_call 115; ((with_reducible refine (has_any _).mono ?_); rintro e w9 ⟨bm, rfl, hL, hB0⟩; have hB := below_undrew hB0; clear hB0; have hTp : Blk w9 w.heap.size 170 #[.int .u8 k, .int .i64 d, .int .i64 a, .int .i64 b, .int .i64 n] := (by first | exact HT.out.below hB | exact (HT.out.alloc _).below hB); have z0 : w9.cell? ⟨w.heap.size, 0, none⟩ = some (.int .u8 k) := hTp.cell 0; have z1 : ∀ o, (w9.alloc o).cell? ⟨w.heap.size, 0, none⟩ = some (.int .u8 k) := (fun o => (hTp.alloc o).cell 0); have l0 := hL.ok HI.out; have l1 := fun o => (hL.alloc o).ok HI.out; have HL := Lib.hid hL; (try (have hTq : Blk w9 (w.heap.size + 1) 183 #[.bool false, .bool false, .bool false, .bool false] := (by have := (Blk.new (w.alloc (.cells #[.int .u8 k, .int .i64 d, .int .i64 a, .int .i64 b, .int .i64 n] 170)) 183 #[.bool false, .bool false, .bool false, .bool false]).below hB; simpa using this); have HTq := Lib.hid hTq; have q0 := hTq.cell 0; have q1 := hTq.cell 1; have q2 := hTq.cell 2; have q3 := hTq.cell 3; have qf : ∀ o, w9.frozen? ⟨w.heap.size + 1, o, none⟩ = false := hTq.frozen; clear hTq)); have HB := Lib.hid hB; clear hL hB hTp))
    all_goals (go_wp2_with fail; go_meet)
    all_goals first
      | exact ⟨_, rfl, ⟨_, rfl, rfl⟩, Blk.new _ _ _, HB.out.alloc HB.out.size _⟩
      | exact ⟨_, rfl, ⟨_, rfl, rfl⟩, (((HTq.out.set 0 _).set 1 _).set 2 _).set 3 _, by
          have hsz : (w.alloc (.cells #[.int .u8 k, .int .i64 d, .int .i64 a, .int .i64 b, .int .i64 n] 170)).heap.size = w.heap.size + 1 := by simp
          have h1 := ((Below.refl _ _).alloc (Nat.le_refl _) (.cells #[.bool false, .bool false, .bool false, .bool false] 183)).step HB.out
          exact (((h1.setCell (by rw [hsz]; exact Nat.le_refl _) _).setCell (by rw [hsz]; exact Nat.le_refl _) _).setCell (by rw [hsz]; exact Nat.le_refl _) _).setCell (by rw [hsz]; exact Nat.le_refl _) _⟩
  case rest =>
    obtain ⟨bp, rfl, ⟨kk, rfl, hkk⟩, hP, hB⟩ := hcut
    simp only [opA] at hP hB hkk
    have HBc := Lib.hid (((Below.refl _ _).alloc (Nat.le_refl _) (.cells #[.int .u8 k, .int .i64 d, .int .i64 a, .int .i64 b, .int .i64 n] 170)).step hB)
    have hTc := HT.out.below hB
    have x0 := hTc.cell 0
    have x1 := hTc.cell 1
    have x2 := hTc.cell 2
    have x3 := hTc.cell 3
    have x4 := hTc.cell 4
    have y0 := hP.cell 0
    have y1 := hP.cell 1
    have y2 := hP.cell 2
    have y3 := hP.cell 3
    have hlt1 := hP.lt
    have hlt2 := hTc.lt
    clear hTc HT hP hB hk8
    simp at x0 x1 x2 x3 x4 y0 y1 y2 y3
    have HG := fun w => @creg3_any d a b w
    cases kk with
    | false =>
      have hR := Lib.hid (show false = formB ⟨k, d, a, b, n⟩ by simp [formB, ← hkk])
      clear hkk
      as_aux_lemma =>
        go_wp2_with fail
        go_ret
        exact ⟨_, rfl, hR.out, HBc.out⟩
    | true =>
      cases hrg : (regB d && (regB a && regB b)) with
      | false =>
        rw [hrg] at HG
        have hR := Lib.hid (show false = formB ⟨k, d, a, b, n⟩ by simp [formB, ← hkk, hrg])
        clear hkk hrg
        as_aux_lemma =>
          go_wp2_with (go_at_call 128; ((with_reducible refine (HG _ (Blk.new _ _ _)).mono ?_); rintro e w' ⟨rfl, rfl⟩))
          go_ret
          exact ⟨_, rfl, hR.out, HBc.out.alloc HBc.out.size _⟩
      | true =>
        rw [hrg] at HG
        have hR0 : formB ⟨k, d, a, b, n⟩ = ((kd k || d == 0) && (ka k || a == 0) && (kb k || b == 0) && (kn k || n == 0)) := by
          show (known k && (regB d && (regB a && regB b)) && (kd k || d == 0) && (ka k || a == 0) && (kb k || b == 0) && (kn k || n == 0)) = _
          rw [← hkk, hrg]; simp
        clear hkk hrg
        rcases three (kd k) d with ⟨hp1, hq1⟩ | ⟨hp1, hr1⟩ | ⟨hp1, hr1⟩
        · rw [hq1] at hR0
          rw [hp1] at y0
          clear hp1 hq1
          rcases three (ka k) a with ⟨hp2, hq2⟩ | ⟨hp2, hr2⟩ | ⟨hp2, hr2⟩
          · rw [hq2] at hR0
            rw [hp2] at y1
            clear hp2 hq2
            rcases three (kb k) b with ⟨hp3, hq3⟩ | ⟨hp3, hr3⟩ | ⟨hp3, hr3⟩
            · rw [hq3] at hR0
              rw [hp3] at y2
              clear hp3 hq3
              rcases three (kn k) n with ⟨hp4, hq4⟩ | ⟨hp4, hr4⟩ | ⟨hp4, hr4⟩
              · rw [hq4] at hR0
                rw [hp4] at y3
                clear hp4 hq4
                have hR := Lib.hid (show true = formB ⟨k, d, a, b, n⟩ by rw [hR0]; simp)
                clear hR0
                as_aux_lemma =>
                  go_wp2_with (go_at_call 128; ((with_reducible refine (HG _ (Blk.new _ _ _)).mono ?_); rintro e w' ⟨rfl, rfl⟩))
                  go_ret
                  exact ⟨_, rfl, hR.out, HBc.out.alloc HBc.out.size _⟩
              · rw [hp4, hr4] at hR0
                rw [hp4] at y3
                clear hp4
                have hR := Lib.hid (show true = formB ⟨k, d, a, b, n⟩ by rw [hR0]; simp)
                clear hR0
                as_aux_lemma =>
                  go_wp2_with (go_at_call 128; ((with_reducible refine (HG _ (Blk.new _ _ _)).mono ?_); rintro e w' ⟨rfl, rfl⟩))
                  go_ret
                  exact ⟨_, rfl, hR.out, HBc.out.alloc HBc.out.size _⟩
              · rw [hp4, hr4] at hR0
                rw [hp4] at y3
                have hR := Lib.hid (show false = formB ⟨k, d, a, b, n⟩ by rw [hR0]; simp)
                clear hp4 hR0
                as_aux_lemma =>
                  go_wp2_with (go_at_call 128; ((with_reducible refine (HG _ (Blk.new _ _ _)).mono ?_); rintro e w' ⟨rfl, rfl⟩))
                  go_ret
                  exact ⟨_, rfl, hR.out, HBc.out.alloc HBc.out.size _⟩
            · rw [hp3, hr3] at hR0
              rw [hp3] at y2
              clear hp3
              rcases three (kn k) n with ⟨hp4, hq4⟩ | ⟨hp4, hr4⟩ | ⟨hp4, hr4⟩
              · rw [hq4] at hR0
                rw [hp4] at y3
                clear hp4 hq4
                have hR := Lib.hid (show true = formB ⟨k, d, a, b, n⟩ by rw [hR0]; simp)
                clear hR0
                as_aux_lemma =>
                  go_wp2_with (go_at_call 128; ((with_reducible refine (HG _ (Blk.new _ _ _)).mono ?_); rintro e w' ⟨rfl, rfl⟩))
                  go_ret
                  exact ⟨_, rfl, hR.out, HBc.out.alloc HBc.out.size _⟩
              · rw [hp4, hr4] at hR0
                rw [hp4] at y3
                clear hp4
                have hR := Lib.hid (show true = formB ⟨k, d, a, b, n⟩ by rw [hR0]; simp)
                clear hR0
                as_aux_lemma =>
                  go_wp2_with (go_at_call 128; ((with_reducible refine (HG _ (Blk.new _ _ _)).mono ?_); rintro e w' ⟨rfl, rfl⟩))
                  go_ret
                  exact ⟨_, rfl, hR.out, HBc.out.alloc HBc.out.size _⟩
              · rw [hp4, hr4] at hR0
                rw [hp4] at y3
                have hR := Lib.hid (show false = formB ⟨k, d, a, b, n⟩ by rw [hR0]; simp)
                clear hp4 hR0
                as_aux_lemma =>
                  go_wp2_with (go_at_call 128; ((with_reducible refine (HG _ (Blk.new _ _ _)).mono ?_); rintro e w' ⟨rfl, rfl⟩))
                  go_ret
                  exact ⟨_, rfl, hR.out, HBc.out.alloc HBc.out.size _⟩
            · rw [hp3, hr3] at hR0
              rw [hp3] at y2
              have hR := Lib.hid (show false = formB ⟨k, d, a, b, n⟩ by rw [hR0]; simp)
              clear hp3 hR0
              as_aux_lemma =>
                go_wp2_with (go_at_call 128; ((with_reducible refine (HG _ (Blk.new _ _ _)).mono ?_); rintro e w' ⟨rfl, rfl⟩))
                go_ret
                exact ⟨_, rfl, hR.out, HBc.out.alloc HBc.out.size _⟩
          · rw [hp2, hr2] at hR0
            rw [hp2] at y1
            clear hp2
            rcases three (kb k) b with ⟨hp3, hq3⟩ | ⟨hp3, hr3⟩ | ⟨hp3, hr3⟩
            · rw [hq3] at hR0
              rw [hp3] at y2
              clear hp3 hq3
              rcases three (kn k) n with ⟨hp4, hq4⟩ | ⟨hp4, hr4⟩ | ⟨hp4, hr4⟩
              · rw [hq4] at hR0
                rw [hp4] at y3
                clear hp4 hq4
                have hR := Lib.hid (show true = formB ⟨k, d, a, b, n⟩ by rw [hR0]; simp)
                clear hR0
                as_aux_lemma =>
                  go_wp2_with (go_at_call 128; ((with_reducible refine (HG _ (Blk.new _ _ _)).mono ?_); rintro e w' ⟨rfl, rfl⟩))
                  go_ret
                  exact ⟨_, rfl, hR.out, HBc.out.alloc HBc.out.size _⟩
              · rw [hp4, hr4] at hR0
                rw [hp4] at y3
                clear hp4
                have hR := Lib.hid (show true = formB ⟨k, d, a, b, n⟩ by rw [hR0]; simp)
                clear hR0
                as_aux_lemma =>
                  go_wp2_with (go_at_call 128; ((with_reducible refine (HG _ (Blk.new _ _ _)).mono ?_); rintro e w' ⟨rfl, rfl⟩))
                  go_ret
                  exact ⟨_, rfl, hR.out, HBc.out.alloc HBc.out.size _⟩
              · rw [hp4, hr4] at hR0
                rw [hp4] at y3
                have hR := Lib.hid (show false = formB ⟨k, d, a, b, n⟩ by rw [hR0]; simp)
                clear hp4 hR0
                as_aux_lemma =>
                  go_wp2_with (go_at_call 128; ((with_reducible refine (HG _ (Blk.new _ _ _)).mono ?_); rintro e w' ⟨rfl, rfl⟩))
                  go_ret
                  exact ⟨_, rfl, hR.out, HBc.out.alloc HBc.out.size _⟩
            · rw [hp3, hr3] at hR0
              rw [hp3] at y2
              clear hp3
              rcases three (kn k) n with ⟨hp4, hq4⟩ | ⟨hp4, hr4⟩ | ⟨hp4, hr4⟩
              · rw [hq4] at hR0
                rw [hp4] at y3
                clear hp4 hq4
                have hR := Lib.hid (show true = formB ⟨k, d, a, b, n⟩ by rw [hR0]; simp)
                clear hR0
                as_aux_lemma =>
                  go_wp2_with (go_at_call 128; ((with_reducible refine (HG _ (Blk.new _ _ _)).mono ?_); rintro e w' ⟨rfl, rfl⟩))
                  go_ret
                  exact ⟨_, rfl, hR.out, HBc.out.alloc HBc.out.size _⟩
              · rw [hp4, hr4] at hR0
                rw [hp4] at y3
                clear hp4
                have hR := Lib.hid (show true = formB ⟨k, d, a, b, n⟩ by rw [hR0]; simp)
                clear hR0
                as_aux_lemma =>
                  go_wp2_with (go_at_call 128; ((with_reducible refine (HG _ (Blk.new _ _ _)).mono ?_); rintro e w' ⟨rfl, rfl⟩))
                  go_ret
                  exact ⟨_, rfl, hR.out, HBc.out.alloc HBc.out.size _⟩
              · rw [hp4, hr4] at hR0
                rw [hp4] at y3
                have hR := Lib.hid (show false = formB ⟨k, d, a, b, n⟩ by rw [hR0]; simp)
                clear hp4 hR0
                as_aux_lemma =>
                  go_wp2_with (go_at_call 128; ((with_reducible refine (HG _ (Blk.new _ _ _)).mono ?_); rintro e w' ⟨rfl, rfl⟩))
                  go_ret
                  exact ⟨_, rfl, hR.out, HBc.out.alloc HBc.out.size _⟩
            · rw [hp3, hr3] at hR0
              rw [hp3] at y2
              have hR := Lib.hid (show false = formB ⟨k, d, a, b, n⟩ by rw [hR0]; simp)
              clear hp3 hR0
              as_aux_lemma =>
                go_wp2_with (go_at_call 128; ((with_reducible refine (HG _ (Blk.new _ _ _)).mono ?_); rintro e w' ⟨rfl, rfl⟩))
                go_ret
                exact ⟨_, rfl, hR.out, HBc.out.alloc HBc.out.size _⟩
          · rw [hp2, hr2] at hR0
            rw [hp2] at y1
            have hR := Lib.hid (show false = formB ⟨k, d, a, b, n⟩ by rw [hR0]; simp)
            clear hp2 hR0
            as_aux_lemma =>
              go_wp2_with (go_at_call 128; ((with_reducible refine (HG _ (Blk.new _ _ _)).mono ?_); rintro e w' ⟨rfl, rfl⟩))
              go_ret
              exact ⟨_, rfl, hR.out, HBc.out.alloc HBc.out.size _⟩
        · rw [hp1, hr1] at hR0
          rw [hp1] at y0
          clear hp1
          rcases three (ka k) a with ⟨hp2, hq2⟩ | ⟨hp2, hr2⟩ | ⟨hp2, hr2⟩
          · rw [hq2] at hR0
            rw [hp2] at y1
            clear hp2 hq2
            rcases three (kb k) b with ⟨hp3, hq3⟩ | ⟨hp3, hr3⟩ | ⟨hp3, hr3⟩
            · rw [hq3] at hR0
              rw [hp3] at y2
              clear hp3 hq3
              rcases three (kn k) n with ⟨hp4, hq4⟩ | ⟨hp4, hr4⟩ | ⟨hp4, hr4⟩
              · rw [hq4] at hR0
                rw [hp4] at y3
                clear hp4 hq4
                have hR := Lib.hid (show true = formB ⟨k, d, a, b, n⟩ by rw [hR0]; simp)
                clear hR0
                as_aux_lemma =>
                  go_wp2_with (go_at_call 128; ((with_reducible refine (HG _ (Blk.new _ _ _)).mono ?_); rintro e w' ⟨rfl, rfl⟩))
                  go_ret
                  exact ⟨_, rfl, hR.out, HBc.out.alloc HBc.out.size _⟩
              · rw [hp4, hr4] at hR0
                rw [hp4] at y3
                clear hp4
                have hR := Lib.hid (show true = formB ⟨k, d, a, b, n⟩ by rw [hR0]; simp)
                clear hR0
                as_aux_lemma =>
                  go_wp2_with (go_at_call 128; ((with_reducible refine (HG _ (Blk.new _ _ _)).mono ?_); rintro e w' ⟨rfl, rfl⟩))
                  go_ret
                  exact ⟨_, rfl, hR.out, HBc.out.alloc HBc.out.size _⟩
              · rw [hp4, hr4] at hR0
                rw [hp4] at y3
                have hR := Lib.hid (show false = formB ⟨k, d, a, b, n⟩ by rw [hR0]; simp)
                clear hp4 hR0
                as_aux_lemma =>
                  go_wp2_with (go_at_call 128; ((with_reducible refine (HG _ (Blk.new _ _ _)).mono ?_); rintro e w' ⟨rfl, rfl⟩))
                  go_ret
                  exact ⟨_, rfl, hR.out, HBc.out.alloc HBc.out.size _⟩
            · rw [hp3, hr3] at hR0
              rw [hp3] at y2
              clear hp3
              rcases three (kn k) n with ⟨hp4, hq4⟩ | ⟨hp4, hr4⟩ | ⟨hp4, hr4⟩
              · rw [hq4] at hR0
                rw [hp4] at y3
                clear hp4 hq4
                have hR := Lib.hid (show true = formB ⟨k, d, a, b, n⟩ by rw [hR0]; simp)
                clear hR0
                as_aux_lemma =>
                  go_wp2_with (go_at_call 128; ((with_reducible refine (HG _ (Blk.new _ _ _)).mono ?_); rintro e w' ⟨rfl, rfl⟩))
                  go_ret
                  exact ⟨_, rfl, hR.out, HBc.out.alloc HBc.out.size _⟩
              · rw [hp4, hr4] at hR0
                rw [hp4] at y3
                clear hp4
                have hR := Lib.hid (show true = formB ⟨k, d, a, b, n⟩ by rw [hR0]; simp)
                clear hR0
                as_aux_lemma =>
                  go_wp2_with (go_at_call 128; ((with_reducible refine (HG _ (Blk.new _ _ _)).mono ?_); rintro e w' ⟨rfl, rfl⟩))
                  go_ret
                  exact ⟨_, rfl, hR.out, HBc.out.alloc HBc.out.size _⟩
              · rw [hp4, hr4] at hR0
                rw [hp4] at y3
                have hR := Lib.hid (show false = formB ⟨k, d, a, b, n⟩ by rw [hR0]; simp)
                clear hp4 hR0
                as_aux_lemma =>
                  go_wp2_with (go_at_call 128; ((with_reducible refine (HG _ (Blk.new _ _ _)).mono ?_); rintro e w' ⟨rfl, rfl⟩))
                  go_ret
                  exact ⟨_, rfl, hR.out, HBc.out.alloc HBc.out.size _⟩
            · rw [hp3, hr3] at hR0
              rw [hp3] at y2
              have hR := Lib.hid (show false = formB ⟨k, d, a, b, n⟩ by rw [hR0]; simp)
              clear hp3 hR0
              as_aux_lemma =>
                go_wp2_with (go_at_call 128; ((with_reducible refine (HG _ (Blk.new _ _ _)).mono ?_); rintro e w' ⟨rfl, rfl⟩))
                go_ret
                exact ⟨_, rfl, hR.out, HBc.out.alloc HBc.out.size _⟩
          · rw [hp2, hr2] at hR0
            rw [hp2] at y1
            clear hp2
            rcases three (kb k) b with ⟨hp3, hq3⟩ | ⟨hp3, hr3⟩ | ⟨hp3, hr3⟩
            · rw [hq3] at hR0
              rw [hp3] at y2
              clear hp3 hq3
              rcases three (kn k) n with ⟨hp4, hq4⟩ | ⟨hp4, hr4⟩ | ⟨hp4, hr4⟩
              · rw [hq4] at hR0
                rw [hp4] at y3
                clear hp4 hq4
                have hR := Lib.hid (show true = formB ⟨k, d, a, b, n⟩ by rw [hR0]; simp)
                clear hR0
                as_aux_lemma =>
                  go_wp2_with (go_at_call 128; ((with_reducible refine (HG _ (Blk.new _ _ _)).mono ?_); rintro e w' ⟨rfl, rfl⟩))
                  go_ret
                  exact ⟨_, rfl, hR.out, HBc.out.alloc HBc.out.size _⟩
              · rw [hp4, hr4] at hR0
                rw [hp4] at y3
                clear hp4
                have hR := Lib.hid (show true = formB ⟨k, d, a, b, n⟩ by rw [hR0]; simp)
                clear hR0
                as_aux_lemma =>
                  go_wp2_with (go_at_call 128; ((with_reducible refine (HG _ (Blk.new _ _ _)).mono ?_); rintro e w' ⟨rfl, rfl⟩))
                  go_ret
                  exact ⟨_, rfl, hR.out, HBc.out.alloc HBc.out.size _⟩
              · rw [hp4, hr4] at hR0
                rw [hp4] at y3
                have hR := Lib.hid (show false = formB ⟨k, d, a, b, n⟩ by rw [hR0]; simp)
                clear hp4 hR0
                as_aux_lemma =>
                  go_wp2_with (go_at_call 128; ((with_reducible refine (HG _ (Blk.new _ _ _)).mono ?_); rintro e w' ⟨rfl, rfl⟩))
                  go_ret
                  exact ⟨_, rfl, hR.out, HBc.out.alloc HBc.out.size _⟩
            · rw [hp3, hr3] at hR0
              rw [hp3] at y2
              clear hp3
              rcases three (kn k) n with ⟨hp4, hq4⟩ | ⟨hp4, hr4⟩ | ⟨hp4, hr4⟩
              · rw [hq4] at hR0
                rw [hp4] at y3
                clear hp4 hq4
                have hR := Lib.hid (show true = formB ⟨k, d, a, b, n⟩ by rw [hR0]; simp)
                clear hR0
                as_aux_lemma =>
                  go_wp2_with (go_at_call 128; ((with_reducible refine (HG _ (Blk.new _ _ _)).mono ?_); rintro e w' ⟨rfl, rfl⟩))
                  go_ret
                  exact ⟨_, rfl, hR.out, HBc.out.alloc HBc.out.size _⟩
              · rw [hp4, hr4] at hR0
                rw [hp4] at y3
                clear hp4
                have hR := Lib.hid (show true = formB ⟨k, d, a, b, n⟩ by rw [hR0]; simp)
                clear hR0
                as_aux_lemma =>
                  go_wp2_with (go_at_call 128; ((with_reducible refine (HG _ (Blk.new _ _ _)).mono ?_); rintro e w' ⟨rfl, rfl⟩))
                  go_ret
                  exact ⟨_, rfl, hR.out, HBc.out.alloc HBc.out.size _⟩
              · rw [hp4, hr4] at hR0
                rw [hp4] at y3
                have hR := Lib.hid (show false = formB ⟨k, d, a, b, n⟩ by rw [hR0]; simp)
                clear hp4 hR0
                as_aux_lemma =>
                  go_wp2_with (go_at_call 128; ((with_reducible refine (HG _ (Blk.new _ _ _)).mono ?_); rintro e w' ⟨rfl, rfl⟩))
                  go_ret
                  exact ⟨_, rfl, hR.out, HBc.out.alloc HBc.out.size _⟩
            · rw [hp3, hr3] at hR0
              rw [hp3] at y2
              have hR := Lib.hid (show false = formB ⟨k, d, a, b, n⟩ by rw [hR0]; simp)
              clear hp3 hR0
              as_aux_lemma =>
                go_wp2_with (go_at_call 128; ((with_reducible refine (HG _ (Blk.new _ _ _)).mono ?_); rintro e w' ⟨rfl, rfl⟩))
                go_ret
                exact ⟨_, rfl, hR.out, HBc.out.alloc HBc.out.size _⟩
          · rw [hp2, hr2] at hR0
            rw [hp2] at y1
            have hR := Lib.hid (show false = formB ⟨k, d, a, b, n⟩ by rw [hR0]; simp)
            clear hp2 hR0
            as_aux_lemma =>
              go_wp2_with (go_at_call 128; ((with_reducible refine (HG _ (Blk.new _ _ _)).mono ?_); rintro e w' ⟨rfl, rfl⟩))
              go_ret
              exact ⟨_, rfl, hR.out, HBc.out.alloc HBc.out.size _⟩
        · rw [hp1, hr1] at hR0
          rw [hp1] at y0
          have hR := Lib.hid (show false = formB ⟨k, d, a, b, n⟩ by rw [hR0]; simp)
          clear hp1 hR0
          as_aux_lemma =>
            go_wp2_with (go_at_call 128; ((with_reducible refine (HG _ (Blk.new _ _ _)).mono ?_); rintro e w' ⟨rfl, rfl⟩))
            go_ret
            exact ⟨_, rfl, hR.out, HBc.out.alloc HBc.out.size _⟩
theorem formed_any (o : OpV) (ho : OkO o) (w : World) : Calls Tryz.prog 131 #[.agg (opA o)] w fun e w' => e = .returned (.bool (formB o)) ∧ Below w.heap.size w w' :=
  (formed_go o ho w).mono fun e w' ⟨r, he, hr, hb⟩ => ⟨by rw [he, hr], hb⟩
end Go.Proofs.YtlahficmkfgooaaGreat
