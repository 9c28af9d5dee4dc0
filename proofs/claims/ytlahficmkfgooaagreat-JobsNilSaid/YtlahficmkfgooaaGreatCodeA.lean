import Derived.Test.YtlahficmkfgooaaGreatMgi

/- The walk of the document's answer on whether an op has its form. No condition but that numbers fit their kinds. -/
namespace Go.Proofs.YtlahficmkfgooaaGreat
open Go.RowKit Cd
set_option linter.unusedVariables false
set_option maxRecDepth 100000 in
set_option maxHeartbeats 40000000 in
theorem rop_go (o : OpV) (ho : OkO o) (w : World) : Calls Tryz.prog 146 #[.agg (opA o)] w fun e w' => ∃ r : Bool, e = .returned (.bool r) ∧ r = formB o ∧ Below w.heap.size w w' := by
  have hk8 := ho.1
  clear ho
  obtain ⟨k, d, a, b, n⟩ := o
  simp only [opA]
  have HB := Lib.hid ((Below.refl _ w).alloc (Nat.le_refl _) (.cells #[.int .u8 k, .int .i64 d, .int .i64 a, .int .i64 b, .int .i64 n] 170))
  have RD := Lib.hid (rreg_any d)
  have RA := Lib.hid (rreg_any a)
  have RB := Lib.hid (rreg_any b)
  have HH : Hid (∀ w, Calls Tryz.prog 123 #[.int .u8 k] w fun e w' => e = .returned (.tuple #[.bool (kd k), .bool (ka k), .bool (kb k), .bool (kn k)]) ∧ w = w') := Lib.hid (rhas_any k hk8)
  simp only at hk8
  by_cases h1 : k < 1
  · have hkn : known k = false := by unfold known; rw [Bool.and_eq_false_iff, decide_eq_false_iff_not]; omega
    clear hk8
    have hR := Lib.hid (show false = formB ⟨k, d, a, b, n⟩ by simp [formB, hkn])
    as_aux_lemma =>
      go_enter Tryz.func146, Tryz.ntmps146
      go_wp2_with (first | (go_at_call 145; ((with_reducible refine (RD.out _).mono ?_); rintro e w' ⟨rfl, rfl⟩)) | (go_at_call 145; ((with_reducible refine (RA.out _).mono ?_); rintro e w' ⟨rfl, rfl⟩)) | (go_at_call 145; ((with_reducible refine (RB.out _).mono ?_); rintro e w' ⟨rfl, rfl⟩)) | (go_at_call 123; ((with_reducible refine (HH.out _).mono ?_); rintro e w' ⟨rfl, rfl⟩)))
      go_ret
      exact ⟨_, rfl, hR.out, HB.out⟩
  · have h1' : decide (k < 1) = false := decide_eq_false h1
    by_cases h2 : 14 < k
    · have hkn : known k = false := by unfold known; rw [Bool.and_eq_false_iff, decide_eq_false_iff_not, decide_eq_false_iff_not]; omega
      clear hk8 h1
      have hR := Lib.hid (show false = formB ⟨k, d, a, b, n⟩ by simp [formB, hkn])
      as_aux_lemma =>
        go_enter Tryz.func146, Tryz.ntmps146
        go_wp2_with (first | (go_at_call 145; ((with_reducible refine (RD.out _).mono ?_); rintro e w' ⟨rfl, rfl⟩)) | (go_at_call 145; ((with_reducible refine (RA.out _).mono ?_); rintro e w' ⟨rfl, rfl⟩)) | (go_at_call 145; ((with_reducible refine (RB.out _).mono ?_); rintro e w' ⟨rfl, rfl⟩)) | (go_at_call 123; ((with_reducible refine (HH.out _).mono ?_); rintro e w' ⟨rfl, rfl⟩)))
        go_ret
        exact ⟨_, rfl, hR.out, HB.out⟩
    · have h2' : decide (14 < k) = false := decide_eq_false h2
      have hkn : known k = true := by unfold known; rw [decide_eq_true (by omega), decide_eq_true (by omega)]; rfl
      clear hk8 h1 h2
      cases hd : regB d with
      | false =>
        rw [hd] at RD
        have hR := Lib.hid (show false = formB ⟨k, d, a, b, n⟩ by simp [formB, hd])
        as_aux_lemma =>
          go_enter Tryz.func146, Tryz.ntmps146
          go_wp2_with (first | (go_at_call 145; ((with_reducible refine (RD.out _).mono ?_); rintro e w' ⟨rfl, rfl⟩)) | (go_at_call 145; ((with_reducible refine (RA.out _).mono ?_); rintro e w' ⟨rfl, rfl⟩)) | (go_at_call 145; ((with_reducible refine (RB.out _).mono ?_); rintro e w' ⟨rfl, rfl⟩)) | (go_at_call 123; ((with_reducible refine (HH.out _).mono ?_); rintro e w' ⟨rfl, rfl⟩)))
          go_ret
          exact ⟨_, rfl, hR.out, HB.out⟩
      | true =>
        rw [hd] at RD
        cases ha : regB a with
        | false =>
          rw [ha] at RA
          have hR := Lib.hid (show false = formB ⟨k, d, a, b, n⟩ by simp [formB, ha])
          as_aux_lemma =>
            go_enter Tryz.func146, Tryz.ntmps146
            go_wp2_with (first | (go_at_call 145; ((with_reducible refine (RD.out _).mono ?_); rintro e w' ⟨rfl, rfl⟩)) | (go_at_call 145; ((with_reducible refine (RA.out _).mono ?_); rintro e w' ⟨rfl, rfl⟩)) | (go_at_call 145; ((with_reducible refine (RB.out _).mono ?_); rintro e w' ⟨rfl, rfl⟩)) | (go_at_call 123; ((with_reducible refine (HH.out _).mono ?_); rintro e w' ⟨rfl, rfl⟩)))
            go_ret
            exact ⟨_, rfl, hR.out, HB.out⟩
        | true =>
          rw [ha] at RA
          cases hb : regB b with
          | false =>
            rw [hb] at RB
            have hR := Lib.hid (show false = formB ⟨k, d, a, b, n⟩ by simp [formB, hb])
            as_aux_lemma =>
              go_enter Tryz.func146, Tryz.ntmps146
              go_wp2_with (first | (go_at_call 145; ((with_reducible refine (RD.out _).mono ?_); rintro e w' ⟨rfl, rfl⟩)) | (go_at_call 145; ((with_reducible refine (RA.out _).mono ?_); rintro e w' ⟨rfl, rfl⟩)) | (go_at_call 145; ((with_reducible refine (RB.out _).mono ?_); rintro e w' ⟨rfl, rfl⟩)) | (go_at_call 123; ((with_reducible refine (HH.out _).mono ?_); rintro e w' ⟨rfl, rfl⟩)))
              go_ret
              exact ⟨_, rfl, hR.out, HB.out⟩
          | true =>
            rw [hb] at RB
            have hR0 : formB ⟨k, d, a, b, n⟩ = ((kd k || d == 0) && (ka k || a == 0) && (kb k || b == 0) && (kn k || n == 0)) := by
              show (known k && (regB d && (regB a && regB b)) && (kd k || d == 0) && (ka k || a == 0) && (kb k || b == 0) && (kn k || n == 0)) = _
              rw [hkn, hd, ha, hb]; simp
            clear hkn hd ha hb
            rcases three (kd k) d with ⟨hp1, hq1⟩ | ⟨hp1, hr1⟩ | ⟨hp1, hr1⟩
            · rw [hq1] at hR0
              rw [hp1] at HH
              clear hp1 hq1
              rcases three (ka k) a with ⟨hp2, hq2⟩ | ⟨hp2, hr2⟩ | ⟨hp2, hr2⟩
              · rw [hq2] at hR0
                rw [hp2] at HH
                clear hp2 hq2
                rcases three (kb k) b with ⟨hp3, hq3⟩ | ⟨hp3, hr3⟩ | ⟨hp3, hr3⟩
                · rw [hq3] at hR0
                  rw [hp3] at HH
                  clear hp3 hq3
                  rcases three (kn k) n with ⟨hp4, hq4⟩ | ⟨hp4, hr4⟩ | ⟨hp4, hr4⟩
                  · rw [hq4] at hR0
                    rw [hp4] at HH
                    clear hp4 hq4
                    have hR := Lib.hid (show true = formB ⟨k, d, a, b, n⟩ by rw [hR0]; simp)
                    clear hR0
                    as_aux_lemma =>
                      go_enter Tryz.func146, Tryz.ntmps146
                      go_wp2_with (first | (go_at_call 145; ((with_reducible refine (RD.out _).mono ?_); rintro e w' ⟨rfl, rfl⟩)) | (go_at_call 145; ((with_reducible refine (RA.out _).mono ?_); rintro e w' ⟨rfl, rfl⟩)) | (go_at_call 145; ((with_reducible refine (RB.out _).mono ?_); rintro e w' ⟨rfl, rfl⟩)) | (go_at_call 123; ((with_reducible refine (HH.out _).mono ?_); rintro e w' ⟨rfl, rfl⟩)))
                      go_ret
                      exact ⟨_, rfl, hR.out, HB.out⟩
                  · rw [hp4, hr4] at hR0
                    rw [hp4] at HH
                    clear hp4
                    have hR := Lib.hid (show true = formB ⟨k, d, a, b, n⟩ by rw [hR0]; simp)
                    clear hR0
                    as_aux_lemma =>
                      go_enter Tryz.func146, Tryz.ntmps146
                      go_wp2_with (first | (go_at_call 145; ((with_reducible refine (RD.out _).mono ?_); rintro e w' ⟨rfl, rfl⟩)) | (go_at_call 145; ((with_reducible refine (RA.out _).mono ?_); rintro e w' ⟨rfl, rfl⟩)) | (go_at_call 145; ((with_reducible refine (RB.out _).mono ?_); rintro e w' ⟨rfl, rfl⟩)) | (go_at_call 123; ((with_reducible refine (HH.out _).mono ?_); rintro e w' ⟨rfl, rfl⟩)))
                      go_ret
                      exact ⟨_, rfl, hR.out, HB.out⟩
                  · rw [hp4, hr4] at hR0
                    rw [hp4] at HH
                    have hR := Lib.hid (show false = formB ⟨k, d, a, b, n⟩ by rw [hR0]; simp)
                    clear hp4 hR0
                    as_aux_lemma =>
                      go_enter Tryz.func146, Tryz.ntmps146
                      go_wp2_with (first | (go_at_call 145; ((with_reducible refine (RD.out _).mono ?_); rintro e w' ⟨rfl, rfl⟩)) | (go_at_call 145; ((with_reducible refine (RA.out _).mono ?_); rintro e w' ⟨rfl, rfl⟩)) | (go_at_call 145; ((with_reducible refine (RB.out _).mono ?_); rintro e w' ⟨rfl, rfl⟩)) | (go_at_call 123; ((with_reducible refine (HH.out _).mono ?_); rintro e w' ⟨rfl, rfl⟩)))
                      go_ret
                      exact ⟨_, rfl, hR.out, HB.out⟩
                · rw [hp3, hr3] at hR0
                  rw [hp3] at HH
                  clear hp3
                  rcases three (kn k) n with ⟨hp4, hq4⟩ | ⟨hp4, hr4⟩ | ⟨hp4, hr4⟩
                  · rw [hq4] at hR0
                    rw [hp4] at HH
                    clear hp4 hq4
                    have hR := Lib.hid (show true = formB ⟨k, d, a, b, n⟩ by rw [hR0]; simp)
                    clear hR0
                    as_aux_lemma =>
                      go_enter Tryz.func146, Tryz.ntmps146
                      go_wp2_with (first | (go_at_call 145; ((with_reducible refine (RD.out _).mono ?_); rintro e w' ⟨rfl, rfl⟩)) | (go_at_call 145; ((with_reducible refine (RA.out _).mono ?_); rintro e w' ⟨rfl, rfl⟩)) | (go_at_call 145; ((with_reducible refine (RB.out _).mono ?_); rintro e w' ⟨rfl, rfl⟩)) | (go_at_call 123; ((with_reducible refine (HH.out _).mono ?_); rintro e w' ⟨rfl, rfl⟩)))
                      go_ret
                      exact ⟨_, rfl, hR.out, HB.out⟩
                  · rw [hp4, hr4] at hR0
                    rw [hp4] at HH
                    clear hp4
                    have hR := Lib.hid (show true = formB ⟨k, d, a, b, n⟩ by rw [hR0]; simp)
                    clear hR0
                    as_aux_lemma =>
                      go_enter Tryz.func146, Tryz.ntmps146
                      go_wp2_with (first | (go_at_call 145; ((with_reducible refine (RD.out _).mono ?_); rintro e w' ⟨rfl, rfl⟩)) | (go_at_call 145; ((with_reducible refine (RA.out _).mono ?_); rintro e w' ⟨rfl, rfl⟩)) | (go_at_call 145; ((with_reducible refine (RB.out _).mono ?_); rintro e w' ⟨rfl, rfl⟩)) | (go_at_call 123; ((with_reducible refine (HH.out _).mono ?_); rintro e w' ⟨rfl, rfl⟩)))
                      go_ret
                      exact ⟨_, rfl, hR.out, HB.out⟩
                  · rw [hp4, hr4] at hR0
                    rw [hp4] at HH
                    have hR := Lib.hid (show false = formB ⟨k, d, a, b, n⟩ by rw [hR0]; simp)
                    clear hp4 hR0
                    as_aux_lemma =>
                      go_enter Tryz.func146, Tryz.ntmps146
                      go_wp2_with (first | (go_at_call 145; ((with_reducible refine (RD.out _).mono ?_); rintro e w' ⟨rfl, rfl⟩)) | (go_at_call 145; ((with_reducible refine (RA.out _).mono ?_); rintro e w' ⟨rfl, rfl⟩)) | (go_at_call 145; ((with_reducible refine (RB.out _).mono ?_); rintro e w' ⟨rfl, rfl⟩)) | (go_at_call 123; ((with_reducible refine (HH.out _).mono ?_); rintro e w' ⟨rfl, rfl⟩)))
                      go_ret
                      exact ⟨_, rfl, hR.out, HB.out⟩
                · rw [hp3, hr3] at hR0
                  rw [hp3] at HH
                  have hR := Lib.hid (show false = formB ⟨k, d, a, b, n⟩ by rw [hR0]; simp)
                  clear hp3 hR0
                  as_aux_lemma =>
                    go_enter Tryz.func146, Tryz.ntmps146
                    go_wp2_with (first | (go_at_call 145; ((with_reducible refine (RD.out _).mono ?_); rintro e w' ⟨rfl, rfl⟩)) | (go_at_call 145; ((with_reducible refine (RA.out _).mono ?_); rintro e w' ⟨rfl, rfl⟩)) | (go_at_call 145; ((with_reducible refine (RB.out _).mono ?_); rintro e w' ⟨rfl, rfl⟩)) | (go_at_call 123; ((with_reducible refine (HH.out _).mono ?_); rintro e w' ⟨rfl, rfl⟩)))
                    go_ret
                    exact ⟨_, rfl, hR.out, HB.out⟩
              · rw [hp2, hr2] at hR0
                rw [hp2] at HH
                clear hp2
                rcases three (kb k) b with ⟨hp3, hq3⟩ | ⟨hp3, hr3⟩ | ⟨hp3, hr3⟩
                · rw [hq3] at hR0
                  rw [hp3] at HH
                  clear hp3 hq3
                  rcases three (kn k) n with ⟨hp4, hq4⟩ | ⟨hp4, hr4⟩ | ⟨hp4, hr4⟩
                  · rw [hq4] at hR0
                    rw [hp4] at HH
                    clear hp4 hq4
                    have hR := Lib.hid (show true = formB ⟨k, d, a, b, n⟩ by rw [hR0]; simp)
                    clear hR0
                    as_aux_lemma =>
                      go_enter Tryz.func146, Tryz.ntmps146
                      go_wp2_with (first | (go_at_call 145; ((with_reducible refine (RD.out _).mono ?_); rintro e w' ⟨rfl, rfl⟩)) | (go_at_call 145; ((with_reducible refine (RA.out _).mono ?_); rintro e w' ⟨rfl, rfl⟩)) | (go_at_call 145; ((with_reducible refine (RB.out _).mono ?_); rintro e w' ⟨rfl, rfl⟩)) | (go_at_call 123; ((with_reducible refine (HH.out _).mono ?_); rintro e w' ⟨rfl, rfl⟩)))
                      go_ret
                      exact ⟨_, rfl, hR.out, HB.out⟩
                  · rw [hp4, hr4] at hR0
                    rw [hp4] at HH
                    clear hp4
                    have hR := Lib.hid (show true = formB ⟨k, d, a, b, n⟩ by rw [hR0]; simp)
                    clear hR0
                    as_aux_lemma =>
                      go_enter Tryz.func146, Tryz.ntmps146
                      go_wp2_with (first | (go_at_call 145; ((with_reducible refine (RD.out _).mono ?_); rintro e w' ⟨rfl, rfl⟩)) | (go_at_call 145; ((with_reducible refine (RA.out _).mono ?_); rintro e w' ⟨rfl, rfl⟩)) | (go_at_call 145; ((with_reducible refine (RB.out _).mono ?_); rintro e w' ⟨rfl, rfl⟩)) | (go_at_call 123; ((with_reducible refine (HH.out _).mono ?_); rintro e w' ⟨rfl, rfl⟩)))
                      go_ret
                      exact ⟨_, rfl, hR.out, HB.out⟩
                  · rw [hp4, hr4] at hR0
                    rw [hp4] at HH
                    have hR := Lib.hid (show false = formB ⟨k, d, a, b, n⟩ by rw [hR0]; simp)
                    clear hp4 hR0
                    as_aux_lemma =>
                      go_enter Tryz.func146, Tryz.ntmps146
                      go_wp2_with (first | (go_at_call 145; ((with_reducible refine (RD.out _).mono ?_); rintro e w' ⟨rfl, rfl⟩)) | (go_at_call 145; ((with_reducible refine (RA.out _).mono ?_); rintro e w' ⟨rfl, rfl⟩)) | (go_at_call 145; ((with_reducible refine (RB.out _).mono ?_); rintro e w' ⟨rfl, rfl⟩)) | (go_at_call 123; ((with_reducible refine (HH.out _).mono ?_); rintro e w' ⟨rfl, rfl⟩)))
                      go_ret
                      exact ⟨_, rfl, hR.out, HB.out⟩
                · rw [hp3, hr3] at hR0
                  rw [hp3] at HH
                  clear hp3
                  rcases three (kn k) n with ⟨hp4, hq4⟩ | ⟨hp4, hr4⟩ | ⟨hp4, hr4⟩
                  · rw [hq4] at hR0
                    rw [hp4] at HH
                    clear hp4 hq4
                    have hR := Lib.hid (show true = formB ⟨k, d, a, b, n⟩ by rw [hR0]; simp)
                    clear hR0
                    as_aux_lemma =>
                      go_enter Tryz.func146, Tryz.ntmps146
                      go_wp2_with (first | (go_at_call 145; ((with_reducible refine (RD.out _).mono ?_); rintro e w' ⟨rfl, rfl⟩)) | (go_at_call 145; ((with_reducible refine (RA.out _).mono ?_); rintro e w' ⟨rfl, rfl⟩)) | (go_at_call 145; ((with_reducible refine (RB.out _).mono ?_); rintro e w' ⟨rfl, rfl⟩)) | (go_at_call 123; ((with_reducible refine (HH.out _).mono ?_); rintro e w' ⟨rfl, rfl⟩)))
                      go_ret
                      exact ⟨_, rfl, hR.out, HB.out⟩
                  · rw [hp4, hr4] at hR0
                    rw [hp4] at HH
                    clear hp4
                    have hR := Lib.hid (show true = formB ⟨k, d, a, b, n⟩ by rw [hR0]; simp)
                    clear hR0
                    as_aux_lemma =>
                      go_enter Tryz.func146, Tryz.ntmps146
                      go_wp2_with (first | (go_at_call 145; ((with_reducible refine (RD.out _).mono ?_); rintro e w' ⟨rfl, rfl⟩)) | (go_at_call 145; ((with_reducible refine (RA.out _).mono ?_); rintro e w' ⟨rfl, rfl⟩)) | (go_at_call 145; ((with_reducible refine (RB.out _).mono ?_); rintro e w' ⟨rfl, rfl⟩)) | (go_at_call 123; ((with_reducible refine (HH.out _).mono ?_); rintro e w' ⟨rfl, rfl⟩)))
                      go_ret
                      exact ⟨_, rfl, hR.out, HB.out⟩
                  · rw [hp4, hr4] at hR0
                    rw [hp4] at HH
                    have hR := Lib.hid (show false = formB ⟨k, d, a, b, n⟩ by rw [hR0]; simp)
                    clear hp4 hR0
                    as_aux_lemma =>
                      go_enter Tryz.func146, Tryz.ntmps146
                      go_wp2_with (first | (go_at_call 145; ((with_reducible refine (RD.out _).mono ?_); rintro e w' ⟨rfl, rfl⟩)) | (go_at_call 145; ((with_reducible refine (RA.out _).mono ?_); rintro e w' ⟨rfl, rfl⟩)) | (go_at_call 145; ((with_reducible refine (RB.out _).mono ?_); rintro e w' ⟨rfl, rfl⟩)) | (go_at_call 123; ((with_reducible refine (HH.out _).mono ?_); rintro e w' ⟨rfl, rfl⟩)))
                      go_ret
                      exact ⟨_, rfl, hR.out, HB.out⟩
                · rw [hp3, hr3] at hR0
                  rw [hp3] at HH
                  have hR := Lib.hid (show false = formB ⟨k, d, a, b, n⟩ by rw [hR0]; simp)
                  clear hp3 hR0
                  as_aux_lemma =>
                    go_enter Tryz.func146, Tryz.ntmps146
                    go_wp2_with (first | (go_at_call 145; ((with_reducible refine (RD.out _).mono ?_); rintro e w' ⟨rfl, rfl⟩)) | (go_at_call 145; ((with_reducible refine (RA.out _).mono ?_); rintro e w' ⟨rfl, rfl⟩)) | (go_at_call 145; ((with_reducible refine (RB.out _).mono ?_); rintro e w' ⟨rfl, rfl⟩)) | (go_at_call 123; ((with_reducible refine (HH.out _).mono ?_); rintro e w' ⟨rfl, rfl⟩)))
                    go_ret
                    exact ⟨_, rfl, hR.out, HB.out⟩
              · rw [hp2, hr2] at hR0
                rw [hp2] at HH
                have hR := Lib.hid (show false = formB ⟨k, d, a, b, n⟩ by rw [hR0]; simp)
                clear hp2 hR0
                as_aux_lemma =>
                  go_enter Tryz.func146, Tryz.ntmps146
                  go_wp2_with (first | (go_at_call 145; ((with_reducible refine (RD.out _).mono ?_); rintro e w' ⟨rfl, rfl⟩)) | (go_at_call 145; ((with_reducible refine (RA.out _).mono ?_); rintro e w' ⟨rfl, rfl⟩)) | (go_at_call 145; ((with_reducible refine (RB.out _).mono ?_); rintro e w' ⟨rfl, rfl⟩)) | (go_at_call 123; ((with_reducible refine (HH.out _).mono ?_); rintro e w' ⟨rfl, rfl⟩)))
                  go_ret
                  exact ⟨_, rfl, hR.out, HB.out⟩
            · rw [hp1, hr1] at hR0
              rw [hp1] at HH
              clear hp1
              rcases three (ka k) a with ⟨hp2, hq2⟩ | ⟨hp2, hr2⟩ | ⟨hp2, hr2⟩
              · rw [hq2] at hR0
                rw [hp2] at HH
                clear hp2 hq2
                rcases three (kb k) b with ⟨hp3, hq3⟩ | ⟨hp3, hr3⟩ | ⟨hp3, hr3⟩
                · rw [hq3] at hR0
                  rw [hp3] at HH
                  clear hp3 hq3
                  rcases three (kn k) n with ⟨hp4, hq4⟩ | ⟨hp4, hr4⟩ | ⟨hp4, hr4⟩
                  · rw [hq4] at hR0
                    rw [hp4] at HH
                    clear hp4 hq4
                    have hR := Lib.hid (show true = formB ⟨k, d, a, b, n⟩ by rw [hR0]; simp)
                    clear hR0
                    as_aux_lemma =>
                      go_enter Tryz.func146, Tryz.ntmps146
                      go_wp2_with (first | (go_at_call 145; ((with_reducible refine (RD.out _).mono ?_); rintro e w' ⟨rfl, rfl⟩)) | (go_at_call 145; ((with_reducible refine (RA.out _).mono ?_); rintro e w' ⟨rfl, rfl⟩)) | (go_at_call 145; ((with_reducible refine (RB.out _).mono ?_); rintro e w' ⟨rfl, rfl⟩)) | (go_at_call 123; ((with_reducible refine (HH.out _).mono ?_); rintro e w' ⟨rfl, rfl⟩)))
                      go_ret
                      exact ⟨_, rfl, hR.out, HB.out⟩
                  · rw [hp4, hr4] at hR0
                    rw [hp4] at HH
                    clear hp4
                    have hR := Lib.hid (show true = formB ⟨k, d, a, b, n⟩ by rw [hR0]; simp)
                    clear hR0
                    as_aux_lemma =>
                      go_enter Tryz.func146, Tryz.ntmps146
                      go_wp2_with (first | (go_at_call 145; ((with_reducible refine (RD.out _).mono ?_); rintro e w' ⟨rfl, rfl⟩)) | (go_at_call 145; ((with_reducible refine (RA.out _).mono ?_); rintro e w' ⟨rfl, rfl⟩)) | (go_at_call 145; ((with_reducible refine (RB.out _).mono ?_); rintro e w' ⟨rfl, rfl⟩)) | (go_at_call 123; ((with_reducible refine (HH.out _).mono ?_); rintro e w' ⟨rfl, rfl⟩)))
                      go_ret
                      exact ⟨_, rfl, hR.out, HB.out⟩
                  · rw [hp4, hr4] at hR0
                    rw [hp4] at HH
                    have hR := Lib.hid (show false = formB ⟨k, d, a, b, n⟩ by rw [hR0]; simp)
                    clear hp4 hR0
                    as_aux_lemma =>
                      go_enter Tryz.func146, Tryz.ntmps146
                      go_wp2_with (first | (go_at_call 145; ((with_reducible refine (RD.out _).mono ?_); rintro e w' ⟨rfl, rfl⟩)) | (go_at_call 145; ((with_reducible refine (RA.out _).mono ?_); rintro e w' ⟨rfl, rfl⟩)) | (go_at_call 145; ((with_reducible refine (RB.out _).mono ?_); rintro e w' ⟨rfl, rfl⟩)) | (go_at_call 123; ((with_reducible refine (HH.out _).mono ?_); rintro e w' ⟨rfl, rfl⟩)))
                      go_ret
                      exact ⟨_, rfl, hR.out, HB.out⟩
                · rw [hp3, hr3] at hR0
                  rw [hp3] at HH
                  clear hp3
                  rcases three (kn k) n with ⟨hp4, hq4⟩ | ⟨hp4, hr4⟩ | ⟨hp4, hr4⟩
                  · rw [hq4] at hR0
                    rw [hp4] at HH
                    clear hp4 hq4
                    have hR := Lib.hid (show true = formB ⟨k, d, a, b, n⟩ by rw [hR0]; simp)
                    clear hR0
                    as_aux_lemma =>
                      go_enter Tryz.func146, Tryz.ntmps146
                      go_wp2_with (first | (go_at_call 145; ((with_reducible refine (RD.out _).mono ?_); rintro e w' ⟨rfl, rfl⟩)) | (go_at_call 145; ((with_reducible refine (RA.out _).mono ?_); rintro e w' ⟨rfl, rfl⟩)) | (go_at_call 145; ((with_reducible refine (RB.out _).mono ?_); rintro e w' ⟨rfl, rfl⟩)) | (go_at_call 123; ((with_reducible refine (HH.out _).mono ?_); rintro e w' ⟨rfl, rfl⟩)))
                      go_ret
                      exact ⟨_, rfl, hR.out, HB.out⟩
                  · rw [hp4, hr4] at hR0
                    rw [hp4] at HH
                    clear hp4
                    have hR := Lib.hid (show true = formB ⟨k, d, a, b, n⟩ by rw [hR0]; simp)
                    clear hR0
                    as_aux_lemma =>
                      go_enter Tryz.func146, Tryz.ntmps146
                      go_wp2_with (first | (go_at_call 145; ((with_reducible refine (RD.out _).mono ?_); rintro e w' ⟨rfl, rfl⟩)) | (go_at_call 145; ((with_reducible refine (RA.out _).mono ?_); rintro e w' ⟨rfl, rfl⟩)) | (go_at_call 145; ((with_reducible refine (RB.out _).mono ?_); rintro e w' ⟨rfl, rfl⟩)) | (go_at_call 123; ((with_reducible refine (HH.out _).mono ?_); rintro e w' ⟨rfl, rfl⟩)))
                      go_ret
                      exact ⟨_, rfl, hR.out, HB.out⟩
                  · rw [hp4, hr4] at hR0
                    rw [hp4] at HH
                    have hR := Lib.hid (show false = formB ⟨k, d, a, b, n⟩ by rw [hR0]; simp)
                    clear hp4 hR0
                    as_aux_lemma =>
                      go_enter Tryz.func146, Tryz.ntmps146
                      go_wp2_with (first | (go_at_call 145; ((with_reducible refine (RD.out _).mono ?_); rintro e w' ⟨rfl, rfl⟩)) | (go_at_call 145; ((with_reducible refine (RA.out _).mono ?_); rintro e w' ⟨rfl, rfl⟩)) | (go_at_call 145; ((with_reducible refine (RB.out _).mono ?_); rintro e w' ⟨rfl, rfl⟩)) | (go_at_call 123; ((with_reducible refine (HH.out _).mono ?_); rintro e w' ⟨rfl, rfl⟩)))
                      go_ret
                      exact ⟨_, rfl, hR.out, HB.out⟩
                · rw [hp3, hr3] at hR0
                  rw [hp3] at HH
                  have hR := Lib.hid (show false = formB ⟨k, d, a, b, n⟩ by rw [hR0]; simp)
                  clear hp3 hR0
                  as_aux_lemma =>
                    go_enter Tryz.func146, Tryz.ntmps146
                    go_wp2_with (first | (go_at_call 145; ((with_reducible refine (RD.out _).mono ?_); rintro e w' ⟨rfl, rfl⟩)) | (go_at_call 145; ((with_reducible refine (RA.out _).mono ?_); rintro e w' ⟨rfl, rfl⟩)) | (go_at_call 145; ((with_reducible refine (RB.out _).mono ?_); rintro e w' ⟨rfl, rfl⟩)) | (go_at_call 123; ((with_reducible refine (HH.out _).mono ?_); rintro e w' ⟨rfl, rfl⟩)))
                    go_ret
                    exact ⟨_, rfl, hR.out, HB.out⟩
              · rw [hp2, hr2] at hR0
                rw [hp2] at HH
                clear hp2
                rcases three (kb k) b with ⟨hp3, hq3⟩ | ⟨hp3, hr3⟩ | ⟨hp3, hr3⟩
                · rw [hq3] at hR0
                  rw [hp3] at HH
                  clear hp3 hq3
                  rcases three (kn k) n with ⟨hp4, hq4⟩ | ⟨hp4, hr4⟩ | ⟨hp4, hr4⟩
                  · rw [hq4] at hR0
                    rw [hp4] at HH
                    clear hp4 hq4
                    have hR := Lib.hid (show true = formB ⟨k, d, a, b, n⟩ by rw [hR0]; simp)
                    clear hR0
                    as_aux_lemma =>
                      go_enter Tryz.func146, Tryz.ntmps146
                      go_wp2_with (first | (go_at_call 145; ((with_reducible refine (RD.out _).mono ?_); rintro e w' ⟨rfl, rfl⟩)) | (go_at_call 145; ((with_reducible refine (RA.out _).mono ?_); rintro e w' ⟨rfl, rfl⟩)) | (go_at_call 145; ((with_reducible refine (RB.out _).mono ?_); rintro e w' ⟨rfl, rfl⟩)) | (go_at_call 123; ((with_reducible refine (HH.out _).mono ?_); rintro e w' ⟨rfl, rfl⟩)))
                      go_ret
                      exact ⟨_, rfl, hR.out, HB.out⟩
                  · rw [hp4, hr4] at hR0
                    rw [hp4] at HH
                    clear hp4
                    have hR := Lib.hid (show true = formB ⟨k, d, a, b, n⟩ by rw [hR0]; simp)
                    clear hR0
                    as_aux_lemma =>
                      go_enter Tryz.func146, Tryz.ntmps146
                      go_wp2_with (first | (go_at_call 145; ((with_reducible refine (RD.out _).mono ?_); rintro e w' ⟨rfl, rfl⟩)) | (go_at_call 145; ((with_reducible refine (RA.out _).mono ?_); rintro e w' ⟨rfl, rfl⟩)) | (go_at_call 145; ((with_reducible refine (RB.out _).mono ?_); rintro e w' ⟨rfl, rfl⟩)) | (go_at_call 123; ((with_reducible refine (HH.out _).mono ?_); rintro e w' ⟨rfl, rfl⟩)))
                      go_ret
                      exact ⟨_, rfl, hR.out, HB.out⟩
                  · rw [hp4, hr4] at hR0
                    rw [hp4] at HH
                    have hR := Lib.hid (show false = formB ⟨k, d, a, b, n⟩ by rw [hR0]; simp)
                    clear hp4 hR0
                    as_aux_lemma =>
                      go_enter Tryz.func146, Tryz.ntmps146
                      go_wp2_with (first | (go_at_call 145; ((with_reducible refine (RD.out _).mono ?_); rintro e w' ⟨rfl, rfl⟩)) | (go_at_call 145; ((with_reducible refine (RA.out _).mono ?_); rintro e w' ⟨rfl, rfl⟩)) | (go_at_call 145; ((with_reducible refine (RB.out _).mono ?_); rintro e w' ⟨rfl, rfl⟩)) | (go_at_call 123; ((with_reducible refine (HH.out _).mono ?_); rintro e w' ⟨rfl, rfl⟩)))
                      go_ret
                      exact ⟨_, rfl, hR.out, HB.out⟩
                · rw [hp3, hr3] at hR0
                  rw [hp3] at HH
                  clear hp3
                  rcases three (kn k) n with ⟨hp4, hq4⟩ | ⟨hp4, hr4⟩ | ⟨hp4, hr4⟩
                  · rw [hq4] at hR0
                    rw [hp4] at HH
                    clear hp4 hq4
                    have hR := Lib.hid (show true = formB ⟨k, d, a, b, n⟩ by rw [hR0]; simp)
                    clear hR0
                    as_aux_lemma =>
                      go_enter Tryz.func146, Tryz.ntmps146
                      go_wp2_with (first | (go_at_call 145; ((with_reducible refine (RD.out _).mono ?_); rintro e w' ⟨rfl, rfl⟩)) | (go_at_call 145; ((with_reducible refine (RA.out _).mono ?_); rintro e w' ⟨rfl, rfl⟩)) | (go_at_call 145; ((with_reducible refine (RB.out _).mono ?_); rintro e w' ⟨rfl, rfl⟩)) | (go_at_call 123; ((with_reducible refine (HH.out _).mono ?_); rintro e w' ⟨rfl, rfl⟩)))
                      go_ret
                      exact ⟨_, rfl, hR.out, HB.out⟩
                  · rw [hp4, hr4] at hR0
                    rw [hp4] at HH
                    clear hp4
                    have hR := Lib.hid (show true = formB ⟨k, d, a, b, n⟩ by rw [hR0]; simp)
                    clear hR0
                    as_aux_lemma =>
                      go_enter Tryz.func146, Tryz.ntmps146
                      go_wp2_with (first | (go_at_call 145; ((with_reducible refine (RD.out _).mono ?_); rintro e w' ⟨rfl, rfl⟩)) | (go_at_call 145; ((with_reducible refine (RA.out _).mono ?_); rintro e w' ⟨rfl, rfl⟩)) | (go_at_call 145; ((with_reducible refine (RB.out _).mono ?_); rintro e w' ⟨rfl, rfl⟩)) | (go_at_call 123; ((with_reducible refine (HH.out _).mono ?_); rintro e w' ⟨rfl, rfl⟩)))
                      go_ret
                      exact ⟨_, rfl, hR.out, HB.out⟩
                  · rw [hp4, hr4] at hR0
                    rw [hp4] at HH
                    have hR := Lib.hid (show false = formB ⟨k, d, a, b, n⟩ by rw [hR0]; simp)
                    clear hp4 hR0
                    as_aux_lemma =>
                      go_enter Tryz.func146, Tryz.ntmps146
                      go_wp2_with (first | (go_at_call 145; ((with_reducible refine (RD.out _).mono ?_); rintro e w' ⟨rfl, rfl⟩)) | (go_at_call 145; ((with_reducible refine (RA.out _).mono ?_); rintro e w' ⟨rfl, rfl⟩)) | (go_at_call 145; ((with_reducible refine (RB.out _).mono ?_); rintro e w' ⟨rfl, rfl⟩)) | (go_at_call 123; ((with_reducible refine (HH.out _).mono ?_); rintro e w' ⟨rfl, rfl⟩)))
                      go_ret
                      exact ⟨_, rfl, hR.out, HB.out⟩
                · rw [hp3, hr3] at hR0
                  rw [hp3] at HH
                  have hR := Lib.hid (show false = formB ⟨k, d, a, b, n⟩ by rw [hR0]; simp)
                  clear hp3 hR0
                  as_aux_lemma =>
                    go_enter Tryz.func146, Tryz.ntmps146
                    go_wp2_with (first | (go_at_call 145; ((with_reducible refine (RD.out _).mono ?_); rintro e w' ⟨rfl, rfl⟩)) | (go_at_call 145; ((with_reducible refine (RA.out _).mono ?_); rintro e w' ⟨rfl, rfl⟩)) | (go_at_call 145; ((with_reducible refine (RB.out _).mono ?_); rintro e w' ⟨rfl, rfl⟩)) | (go_at_call 123; ((with_reducible refine (HH.out _).mono ?_); rintro e w' ⟨rfl, rfl⟩)))
                    go_ret
                    exact ⟨_, rfl, hR.out, HB.out⟩
              · rw [hp2, hr2] at hR0
                rw [hp2] at HH
                have hR := Lib.hid (show false = formB ⟨k, d, a, b, n⟩ by rw [hR0]; simp)
                clear hp2 hR0
                as_aux_lemma =>
                  go_enter Tryz.func146, Tryz.ntmps146
                  go_wp2_with (first | (go_at_call 145; ((with_reducible refine (RD.out _).mono ?_); rintro e w' ⟨rfl, rfl⟩)) | (go_at_call 145; ((with_reducible refine (RA.out _).mono ?_); rintro e w' ⟨rfl, rfl⟩)) | (go_at_call 145; ((with_reducible refine (RB.out _).mono ?_); rintro e w' ⟨rfl, rfl⟩)) | (go_at_call 123; ((with_reducible refine (HH.out _).mono ?_); rintro e w' ⟨rfl, rfl⟩)))
                  go_ret
                  exact ⟨_, rfl, hR.out, HB.out⟩
            · rw [hp1, hr1] at hR0
              rw [hp1] at HH
              have hR := Lib.hid (show false = formB ⟨k, d, a, b, n⟩ by rw [hR0]; simp)
              clear hp1 hR0
              as_aux_lemma =>
                go_enter Tryz.func146, Tryz.ntmps146
                go_wp2_with (first | (go_at_call 145; ((with_reducible refine (RD.out _).mono ?_); rintro e w' ⟨rfl, rfl⟩)) | (go_at_call 145; ((with_reducible refine (RA.out _).mono ?_); rintro e w' ⟨rfl, rfl⟩)) | (go_at_call 145; ((with_reducible refine (RB.out _).mono ?_); rintro e w' ⟨rfl, rfl⟩)) | (go_at_call 123; ((with_reducible refine (HH.out _).mono ?_); rintro e w' ⟨rfl, rfl⟩)))
                go_ret
                exact ⟨_, rfl, hR.out, HB.out⟩
theorem rop_any (o : OpV) (ho : OkO o) (w : World) : Calls Tryz.prog 146 #[.agg (opA o)] w fun e w' => e = .returned (.bool (formB o)) ∧ Below w.heap.size w w' :=
  (rop_go o ho w).mono fun e w' ⟨r, he, hr, hb⟩ => ⟨by rw [he, hr], hb⟩
end Go.Proofs.YtlahficmkfgooaaGreat
