import Derived.Test.YtghbjknpffiaiaaMgg
import Derived.BigRegion

/- The parts of a message that are one call: what the call does, the part does. Both ways at once: Q is what holds behind it. No condition. -/
namespace Go.Proofs.Ytghbjknpffiaiaa
open Go.RowKit Wire Ms
set_option linter.unusedVariables false
set_option linter.unusedSimpArgs false
def Ends (Q : World → Prop) (e : Ending) (w' : World) : Prop := e = .returned (.tuple #[]) ∧ Q w'
section
variable {w : World} {k g : Nat} {Q : World → Prop}
set_option maxRecDepth 100000 in
theorem part_fuel (hg : g < w.heap.size) (h : Calls Try.prog 44 #[.pointer (some ⟨k, 0, none⟩), .pointer (some ⟨g, 5, none⟩), .int .u64 65536] w (Ends Q)) :
    Calls Try.prog 25 #[.pointer (some ⟨k, 0, none⟩), .pointer (some ⟨g, 0, none⟩)] w (Ends Q) := by
  have H := Lib.hid h
  clear h
  go_enter Try.func25, Try.ntmps25
  go_wp2_with (go_at_call 44; go_loud ((with_reducible refine H.out.mono ?_); rintro e w1 ⟨rfl, hq⟩; have HQ := Lib.hid hq; clear hq))
  go_end0
  exact ⟨rfl, HQ.out⟩
set_option maxRecDepth 100000 in
  theorem part_job (hg : g < w.heap.size) (h : Calls Try.prog 45 #[.pointer (some ⟨k, 0, none⟩), .pointer (some ⟨g, 1, none⟩), .int .u64 18446744073709551615] w (Ends Q)) :
      Calls Try.prog 26 #[.pointer (some ⟨k, 0, none⟩), .pointer (some ⟨g, 0, none⟩)] w (Ends Q) := by
    have H := Lib.hid h
    clear h
    go_enter Try.func26, Try.ntmps26
    go_wp2_with (go_at_call 45; go_loud ((with_reducible refine H.out.mono ?_); rintro e w1 ⟨rfl, hq⟩; have HQ := Lib.hid hq; clear hq))
    go_end0
    exact ⟨rfl, HQ.out⟩
set_option maxRecDepth 100000 in
    theorem part_err (hg : g < w.heap.size) (h : Calls Try.prog 46 #[.pointer (some ⟨k, 0, none⟩), .pointer (some ⟨g, 18, none⟩), .int .u64 9999] w (Ends Q)) :
        Calls Try.prog 27 #[.pointer (some ⟨k, 0, none⟩), .pointer (some ⟨g, 0, none⟩)] w (Ends Q) := by
      have H := Lib.hid h
      clear h
      go_enter Try.func27, Try.ntmps27
      go_wp2_with (go_at_call 46; go_loud ((with_reducible refine H.out.mono ?_); rintro e w1 ⟨rfl, hq⟩; have HQ := Lib.hid hq; clear hq))
      go_end0
      exact ⟨rfl, HQ.out⟩
set_option maxRecDepth 100000 in
      theorem part_program (hg : g < w.heap.size) (h : Calls Try.prog 51 #[.pointer (some ⟨k, 0, none⟩), .pointer (some ⟨g, 3, none⟩), .int .i64 16384] w (Ends Q)) :
          Calls Try.prog 30 #[.pointer (some ⟨k, 0, none⟩), .pointer (some ⟨g, 0, none⟩)] w (Ends Q) := by
        have H := Lib.hid h
        clear h
        go_enter Try.func30, Try.ntmps30
        go_wp2_with (go_at_call 51; go_loud ((with_reducible refine H.out.mono ?_); rintro e w1 ⟨rfl, hq⟩; have HQ := Lib.hid hq; clear hq))
        go_end0
        exact ⟨rfl, HQ.out⟩
set_option maxRecDepth 100000 in
        theorem part_token (hg : g < w.heap.size) (h : Calls Try.prog 51 #[.pointer (some ⟨k, 0, none⟩), .pointer (some ⟨g, 2, none⟩), .int .i64 32] w (Ends Q)) :
            Calls Try.prog 36 #[.pointer (some ⟨k, 0, none⟩), .pointer (some ⟨g, 0, none⟩)] w (Ends Q) := by
          have H := Lib.hid h
          clear h
          go_enter Try.func36, Try.ntmps36
          go_wp2_with (go_at_call 51; go_loud ((with_reducible refine H.out.mono ?_); rintro e w1 ⟨rfl, hq⟩; have HQ := Lib.hid hq; clear hq))
          go_end0
          exact ⟨rfl, HQ.out⟩
set_option maxRecDepth 100000 in
          theorem part_epoch (hg : g < w.heap.size) (h : Calls Try.prog 45 #[.pointer (some ⟨k, 0, none⟩), .pointer (some ⟨g, 10, none⟩), .int .u64 281474976710656] w (Ends Q)) :
              Calls Try.prog 32 #[.pointer (some ⟨k, 0, none⟩), .pointer (some ⟨g, 0, none⟩)] w (Ends Q) := by
            have H := Lib.hid h
            clear h
            go_enter Try.func32, Try.ntmps32
            go_wp2_with (go_at_call 45; go_loud ((with_reducible refine H.out.mono ?_); rintro e w1 ⟨rfl, hq⟩; have HQ := Lib.hid hq; clear hq))
            go_end0
            exact ⟨rfl, HQ.out⟩
set_option maxRecDepth 100000 in
            theorem part_result (hg : g < w.heap.size) (h : Calls Try.prog 59 #[.pointer (some ⟨k, 0, none⟩), .pointer (some ⟨g, 16, none⟩)] w (Ends Q)) :
                Calls Try.prog 39 #[.pointer (some ⟨k, 0, none⟩), .pointer (some ⟨g, 0, none⟩)] w (Ends Q) := by
              have H := Lib.hid h
              clear h
              go_enter Try.func39, Try.ntmps39
              go_wp2_with (go_at_call 59; go_loud ((with_reducible refine H.out.mono ?_); rintro e w1 ⟨rfl, hq⟩; have HQ := Lib.hid hq; clear hq))
              go_end0
              exact ⟨rfl, HQ.out⟩
set_option maxRecDepth 100000 in
              theorem part_names (hg : g < w.heap.size) (h : Calls Try.prog 55 #[.pointer (some ⟨k, 0, none⟩), .pointer (some ⟨g, 13, none⟩), .int .i64 128, .func (.func 56) #[.pointer (some ⟨k, 0, none⟩)] #[]] w (Ends Q)) :
                  Calls Try.prog 33 #[.pointer (some ⟨k, 0, none⟩), .pointer (some ⟨g, 0, none⟩)] w (Ends Q) := by
                have H := Lib.hid h
                clear h
                go_enter Try.func33, Try.ntmps33
                go_wp2_with (go_at_call 55; go_loud ((with_reducible refine H.out.mono ?_); rintro e w1 ⟨rfl, hq⟩; have HQ := Lib.hid hq; clear hq))
                go_end0
                exact ⟨rfl, HQ.out⟩
set_option maxRecDepth 100000 in
                theorem part_entries (hg : g < w.heap.size) (h : Calls Try.prog 47 #[.pointer (some ⟨k, 0, none⟩), .pointer (some ⟨g, 11, none⟩), .int .i64 128, .func (.func 48) #[.pointer (some ⟨k, 0, none⟩)] #[]] w (Ends Q)) :
                    Calls Try.prog 28 #[.pointer (some ⟨k, 0, none⟩), .pointer (some ⟨g, 0, none⟩)] w (Ends Q) := by
                  have H := Lib.hid h
                  clear h
                  go_enter Try.func28, Try.ntmps28
                  go_wp2_with (go_at_call 47; go_loud ((with_reducible refine H.out.mono ?_); rintro e w1 ⟨rfl, hq⟩; have HQ := Lib.hid hq; clear hq))
                  go_end0
                  exact ⟨rfl, HQ.out⟩
set_option maxRecDepth 100000 in
                  theorem part_input (hg : g < w.heap.size) (h : Calls Try.prog 53 #[.pointer (some ⟨k, 0, none⟩), .pointer (some ⟨g, 4, none⟩), .int .i64 16, .func (.func 54) #[.pointer (some ⟨k, 0, none⟩)] #[]] w (Ends Q)) :
                      Calls Try.prog 37 #[.pointer (some ⟨k, 0, none⟩), .pointer (some ⟨g, 0, none⟩)] w (Ends Q) := by
                    have H := Lib.hid h
                    clear h
                    go_enter Try.func37, Try.ntmps37
                    go_wp2_with (go_at_call 53; go_loud ((with_reducible refine H.out.mono ?_); rintro e w1 ⟨rfl, hq⟩; have HQ := Lib.hid hq; clear hq))
                    go_end0
                    exact ⟨rfl, HQ.out⟩
set_option maxRecDepth 100000 in
                    theorem part_state (hg : g < w.heap.size) (h : Calls Try.prog 20 #[.pointer (some ⟨k, 0, none⟩), .pointer (some ⟨g, 15, none⟩), .int .u64 3] w (Ends Q)) :
                        Calls Try.prog 38 #[.pointer (some ⟨k, 0, none⟩), .pointer (some ⟨g, 0, none⟩)] w (Ends Q) := by
                      have H := Lib.hid h
                      clear h
                      go_enter Try.func38, Try.ntmps38
                      go_wp2_with (go_at_call 20; go_loud ((with_reducible refine H.out.mono ?_); rintro e w1 ⟨rfl, hq⟩; have HQ := Lib.hid hq; clear hq))
                      go_end0
                      exact ⟨rfl, HQ.out⟩
/-- The closure that holds the coder's box. -/
                      theorem clos_epochs {bx o : Nat} (hbx : w.cell? ⟨bx, 0, none⟩ = some (.pointer (some ⟨k, 0, none⟩))) (h : Calls Try.prog 45 #[.pointer (some ⟨k, 0, none⟩), .pointer (some ⟨g, o, none⟩), .int .u64 281474976710656] w (Ends Q)) :
                          Calls Try.prog 50 #[.pointer (some ⟨g, o, none⟩), .pointer (some ⟨bx, 0, none⟩)] w (Ends Q) := by
                        have H := Lib.hid h
                        clear h
                        go_enter Try.func50, Try.ntmps50
                        go_wp2_with (go_at_call 45; go_loud ((with_reducible refine H.out.mono ?_); rintro e w1 ⟨rfl, hq⟩; have HQ := Lib.hid hq; clear hq))
                        go_end0
                        exact ⟨rfl, HQ.out⟩
/-- The closure that holds the coder's box. -/
                        theorem clos_codes {bx o : Nat} (hbx : w.cell? ⟨bx, 0, none⟩ = some (.pointer (some ⟨k, 0, none⟩))) (h : Calls Try.prog 46 #[.pointer (some ⟨k, 0, none⟩), .pointer (some ⟨g, o, none⟩), .int .u64 9999] w (Ends Q)) :
                            Calls Try.prog 58 #[.pointer (some ⟨g, o, none⟩), .pointer (some ⟨bx, 0, none⟩)] w (Ends Q) := by
                          have H := Lib.hid h
                          clear h
                          go_enter Try.func58, Try.ntmps58
                          go_wp2_with (go_at_call 46; go_loud ((with_reducible refine H.out.mono ?_); rintro e w1 ⟨rfl, hq⟩; have HQ := Lib.hid hq; clear hq))
                          go_end0
                          exact ⟨rfl, HQ.out⟩
end
end Go.Proofs.Ytghbjknpffiaiaa


/- The parts of a message whose list's coder is a closure: codes. Both ways at once. No condition. -/
namespace Go.Proofs.Ytghbjknpffiaiaa
open Go.RowKit Wire Ms
set_option linter.unusedVariables false
set_option linter.unusedSimpArgs false
section
variable {w : World} {k g : Nat} {Q : World → Prop}
set_option maxRecDepth 100000 in
theorem part_codes (hg : g < w.heap.size) (h : ∀ w2, Below w.heap.size w w2 → Blk w2 w.heap.size 47 #[.pointer (some ⟨k, 0, none⟩)] →
      Calls Try.prog 57 #[.pointer (some ⟨k, 0, none⟩), .pointer (some ⟨g, 14, none⟩), .int .i64 128, .func (.func 58) #[] #[.pointer (some ⟨w.heap.size, 0, none⟩)]] w2 (Ends Q)) :
    Calls Try.prog 34 #[.pointer (some ⟨k, 0, none⟩), .pointer (some ⟨g, 0, none⟩)] w (Ends Q) := by
  have H := Lib.hid h
  have HG := Lib.hid hg
  clear h hg
  go_enter Try.func34, Try.ntmps34
  go_upto_region 1 with fail
  have hc : (w.alloc (.cells #[.pointer (some ⟨k, 0, none⟩)] 47)).cell? ⟨w.heap.size, 0, none⟩ = some (.pointer (some ⟨k, 0, none⟩)) := by rw [(Blk.new w _ _).cell 0]; rfl
  have HB := Lib.hid ((Below.refl _ w).alloc (Nat.le_refl _) (.cells #[.pointer (some ⟨k, 0, none⟩)] 47)).drew
  have HC := Lib.hid (H.out _ HB.out (Blk.new w _ _).drew)
  clear H
  generalize w.alloc (.cells #[.pointer (some ⟨k, 0, none⟩)] 47) = V at *
  generalize w.heap.size = bx at *
  go_region_with (go_at_call 57; go_loud ((with_reducible refine HC.out.mono ?_); rintro e w1 ⟨rfl, hq⟩; have HQ := Lib.hid hq; clear hq))
  all_goals (go_wp2_with fail; go_end0; exact ⟨rfl, HQ.out⟩)
end
end Go.Proofs.Ytghbjknpffiaiaa


/- The epochs part of a message. Both ways at once. No condition. -/
namespace Go.Proofs.Ytghbjknpffiaiaa
open Go.RowKit Wire Ms
set_option linter.unusedVariables false
set_option linter.unusedSimpArgs false
section
variable {w : World} {k g : Nat} {Q Q1 : World → Prop} {b1 : Bool} {kd : Int} {n m : Nat}
set_option maxRecDepth 100000 in
set_option maxHeartbeats 1000000 in
theorem part_epochs (hg : g < w.heap.size) (h : ∀ w2, Below w.heap.size w w2 → Blk w2 w.heap.size 47 #[.pointer (some ⟨k, 0, none⟩)] →
      Calls Try.prog 49 #[.pointer (some ⟨k, 0, none⟩), .pointer (some ⟨g, 12, none⟩), .int .i64 128, .func (.func 50) #[] #[.pointer (some ⟨w.heap.size, 0, none⟩)]] w2 (Ends Q1))
    (hq : ∀ w1, Q1 w1 → w1.cell? ⟨w.heap.size, 0, none⟩ = some (.pointer (some ⟨k, 0, none⟩)) ∧ w1.cell? ⟨k, 2, none⟩ = some (.bool b1) ∧ w1.frozen? ⟨k, 2, none⟩ = false ∧ w1.cell? ⟨g, 0, none⟩ = some (.int .u8 kd) ∧
      (∃ p c, w1.cell? ⟨g, 12, none⟩ = some (.slice p n c)) ∧ ∃ p c, w1.cell? ⟨g, 11, none⟩ = some (.slice p m c))
    (hf : ∀ w1 w2, Q1 w1 → Below w1.heap.size w1 w2 → Q (w2.setCell ⟨k, 2, none⟩ (.bool (b1 || (kd == 4 && n != m))))) :
    Calls Try.prog 29 #[.pointer (some ⟨k, 0, none⟩), .pointer (some ⟨g, 0, none⟩)] w (Ends Q) := by
  have H := Lib.hid h
  have HQQ := Lib.hid hq
  have HF := Lib.hid hf
  clear h hg hq hf
  go_enter Try.func29, Try.ntmps29
  go_upto_region 1 with fail
  have hc : (w.alloc (.cells #[.pointer (some ⟨k, 0, none⟩)] 47)).cell? ⟨w.heap.size, 0, none⟩ = some (.pointer (some ⟨k, 0, none⟩)) := by rw [(Blk.new w _ _).cell 0]; rfl
  have HB := Lib.hid ((Below.refl _ w).alloc (Nat.le_refl _) (.cells #[.pointer (some ⟨k, 0, none⟩)] 47)).drew
  have HC := Lib.hid (H.out _ HB.out (Blk.new w _ _).drew)
  clear H
  generalize w.alloc (.cells #[.pointer (some ⟨k, 0, none⟩)] 47) = V at *
  generalize w.heap.size = bx at *
  go_upto_region 2 with fail
  go_cut [2, 1] (fun a b wc => a = .pointer (some ⟨bx, 0, none⟩) ∧ b = .pointer (some ⟨g, 0, none⟩) ∧ Q1 wc)
  case first =>
    go_region_with (go_at_call 49; go_loud ((with_reducible refine HC.out.mono ?_); rintro e w1 ⟨rfl, hq⟩; have HQ := Lib.hid hq; clear hq))
    all_goals (go_wp2_with fail; go_meet)
    all_goals exact ⟨rfl, rfl, HQ.out⟩
  case rest =>
    clear HC HB hc
    obtain ⟨rfl, rfl, hq⟩ := hcut
    obtain ⟨z0, z1, z2, z3, ⟨p, c, z4⟩, ⟨p', c', z5⟩⟩ := HQQ.out _ hq
    have HR := Lib.hid (HF.out wc wc.drew hq (Below.refl _ wc).drew)
    clear hq HQQ HF
    cases b1 with
    | true =>
      rw [Bool.true_or] at HR
      go_wp2_with fail
      go_region
      all_goals (go_wp2_with fail; go_end0; exact ⟨rfl, HR.out⟩)
    | false =>
      rw [Bool.false_or] at HR
      by_cases hk : kd = 4
      · have hk' : (kd == 4) = true := by simpa using hk
        rw [hk', Bool.true_and] at HR
        by_cases hn : n = m
        · have hn' : ((n : Int) != (m : Int)) = false := by simp [hn]
          rw [show (n != m) = false by simp [hn]] at HR
          clear hk hn
          go_wp2_with fail
          go_region
          all_goals (go_wp2_with fail; go_end0; exact ⟨rfl, HR.out⟩)
        · have hn' : ((n : Int) != (m : Int)) = true := by simp; omega
          rw [show (n != m) = true by simp [hn]] at HR
          clear hk hn
          go_wp2_with fail
          go_region
          all_goals (go_wp2_with fail; go_end0; exact ⟨rfl, HR.out⟩)
      · have hk' : (kd == 4) = false := by simpa using hk
        rw [hk', Bool.false_and] at HR
        clear hk
        go_wp2_with fail
        go_region
        all_goals (go_wp2_with fail; go_end0; exact ⟨rfl, HR.out⟩)
end
end Go.Proofs.Ytghbjknpffiaiaa


/- The part of a message that lists what is dropped: names, and as many epochs. Both ways at once. No condition. -/
namespace Go.Proofs.Ytghbjknpffiaiaa
open Go.RowKit Wire Ms
set_option linter.unusedVariables false
set_option linter.unusedSimpArgs false
section
variable {w : World} {k g : Nat} {Q Q1 : World → Prop} {b1 : Bool} {n m : Nat}
set_option maxRecDepth 100000 in
set_option maxHeartbeats 1000000 in
theorem part_dropped (h : Calls Try.prog 33 #[.pointer (some ⟨k, 0, none⟩), .pointer (some ⟨g, 0, none⟩)] w (Ends Q1))
    (hq : ∀ w1, Q1 w1 → w1.cell? ⟨k, 2, none⟩ = some (.bool b1) ∧ w1.frozen? ⟨k, 2, none⟩ = false ∧ (∃ p c, w1.cell? ⟨g, 12, none⟩ = some (.slice p n c)) ∧ ∃ p c, w1.cell? ⟨g, 13, none⟩ = some (.slice p m c))
    (hf : ∀ w1 w2, Q1 w1 → Below w1.heap.size w1 w2 → Q (w2.setCell ⟨k, 2, none⟩ (.bool (b1 || n != m)))) :
    Calls Try.prog 35 #[.pointer (some ⟨k, 0, none⟩), .pointer (some ⟨g, 0, none⟩)] w (Ends Q) := by
  have H := Lib.hid h
  have HQQ := Lib.hid hq
  have HF := Lib.hid hf
  clear h hq hf
  go_enter Try.func35, Try.ntmps35
  go_upto_region 1 with (go_at_call 33; go_loud ((with_reducible refine H.out.mono ?_); rintro e wc ⟨rfl, hq⟩; have HQ := Lib.hid hq; clear hq))
  clear H
  obtain ⟨z1, z2, ⟨p, c, z4⟩, ⟨p', c', z5⟩⟩ := HQQ.out _ HQ.out
  have HR := Lib.hid (HF.out wc wc.drew HQ.out (Below.refl _ wc).drew)
  clear HQ HQQ HF
  cases b1 with
  | true =>
    rw [Bool.true_or] at HR
    go_wp2_with fail
    go_region
    all_goals (go_wp2_with fail; go_end0; exact ⟨rfl, HR.out⟩)
  | false =>
    rw [Bool.false_or] at HR
    by_cases hn : n = m
    · have hn' : ((n : Int) != (m : Int)) = false := by simp [hn]
      rw [show (n != m) = false by simp [hn]] at HR
      clear hn
      go_wp2_with fail
      go_region
      all_goals (go_wp2_with fail; go_end0; exact ⟨rfl, HR.out⟩)
    · have hn' : ((n : Int) != (m : Int)) = true := by simp; omega
      rw [show (n != m) = true by simp [hn]] at HR
      clear hn
      go_wp2_with fail
      go_region
      all_goals (go_wp2_with fail; go_end0; exact ⟨rfl, HR.out⟩)
end
end Go.Proofs.Ytghbjknpffiaiaa


/- The task of a message: four calls in a row. Both ways at once. No condition. -/
namespace Go.Proofs.Ytghbjknpffiaiaa
open Go.RowKit Wire Ms
set_option linter.unusedVariables false
set_option linter.unusedSimpArgs false
section
variable {w : World} {k g : Nat} {Q1 Q2 Q3 Q : World → Prop}
set_option maxRecDepth 100000 in
set_option maxHeartbeats 1000000 in
theorem part_task (h1 : Calls Try.prog 52 #[.pointer (some ⟨k, 0, none⟩), .pointer (some ⟨g, 6, none⟩)] w (Ends Q1))
    (h2 : ∀ w1, Q1 w1 → Calls Try.prog 44 #[.pointer (some ⟨k, 0, none⟩), .pointer (some ⟨g, 7, none⟩), .int .u64 15] w1 (Ends Q2))
    (h3 : ∀ w1, Q2 w1 → Calls Try.prog 53 #[.pointer (some ⟨k, 0, none⟩), .pointer (some ⟨g, 8, none⟩), .int .i64 16, .func (.func 54) #[.pointer (some ⟨k, 0, none⟩)] #[]] w1 (Ends Q3))
    (h4 : ∀ w1, Q3 w1 → Calls Try.prog 44 #[.pointer (some ⟨k, 0, none⟩), .pointer (some ⟨g, 9, none⟩), .int .u64 65536] w1 (Ends Q)) :
    Calls Try.prog 31 #[.pointer (some ⟨k, 0, none⟩), .pointer (some ⟨g, 0, none⟩)] w (Ends Q) := by
  have H1 := Lib.hid h1
  have H2 := Lib.hid h2
  have H3 := Lib.hid h3
  have H4 := Lib.hid h4
  clear h1 h2 h3 h4
  go_enter Try.func31, Try.ntmps31
  go_upto_region 2 with (go_at_call 52; go_loud ((with_reducible refine H1.out.mono ?_); rintro e w1 ⟨rfl, q1⟩; have G2 := Lib.hid (H2.out _ q1); clear q1))
  go_upto_region 3 with (go_at_call 44; go_loud ((with_reducible refine G2.out.mono ?_); rintro e w2 ⟨rfl, q2⟩; have G3 := Lib.hid (H3.out _ q2); clear q2))
  go_upto_region 4 with (go_at_call 53; go_loud ((with_reducible refine G3.out.mono ?_); rintro e w3 ⟨rfl, q3⟩; have G4 := Lib.hid (H4.out _ q3); clear q3))
  go_wp2_with (go_at_call 44; go_loud ((with_reducible refine G4.out.mono ?_); rintro e w4 ⟨rfl, q4⟩; have HQ := Lib.hid q4; clear q4))
  go_end0
  exact ⟨rfl, HQ.out⟩
end
end Go.Proofs.Ytghbjknpffiaiaa


/- The walks of a coder's lists, writing. Printed by mkMsL.py. What one element's coder does is handed in. -/
namespace Go.Proofs.Ytghbjknpffiaiaa
open Go.RowKit Wire Ms
set_option linter.unusedVariables false
set_option linter.unusedSimpArgs false
section
variable {w : World} {B k g o : Nat} {out : Ls} {bad : Bool} {L : Nat}
set_option maxRecDepth 100000 in
set_option maxHeartbeats 4000000 in
theorem listw_nm {n : Nat} {pX : Option Addr} {cX : Nat} {most : Int} {OUT : Nat → Ls} {BAD : Nat → Bool} {LL : Nat → Nat} (c : KWb w B k out bad L) (hB : B ≤ w.heap.size) (hL : L ≤ 1000000000) (hx : w.cell? ⟨g, o, none⟩ = some (.slice pX n cX)) (hg : Away w B k g) (hr : n ≤ 140737488355328)
    (hz : OUT 0 = out ++ Num.leb n ∧ BAD 0 = (bad || decide (most < (n : Int))) ∧ LL 0 = L + 10) (hp : 0 < n → ∃ b off, pX = some ⟨b, off, none⟩ ∧ b < w.heap.size)
    (hone : ∀ b off, pX = some ⟨b, off, none⟩ → ∀ i, i < n → ∀ w', OnW B k w w' → KWb w' B k (OUT i) (BAD i) (LL i) → Calls Try.prog 56 #[.pointer (some ⟨k, 0, none⟩), .pointer (some ⟨b, off + i * 2, none⟩)] w' (WrP w' B k (OUT (i + 1)) (BAD (i + 1)) (LL (i + 1)))) :
    Calls Try.prog 55 #[.pointer (some ⟨k, 0, none⟩), .pointer (some ⟨g, o, none⟩), .int .i64 most, .func (.func 56) #[.pointer (some ⟨k, 0, none⟩)] #[]] w (WrP w B k (OUT n) (BAD n) (LL n)) := by
  obtain ⟨hz1, hz2, hz3⟩ := hz
  have HX := Lib.hid hx
  have HP := Lib.hid hp
  have HN := Lib.hid hone
  clear hp hone
  obtain ⟨out', c, ho, hl⟩ := c
  obtain ⟨vO, h1, h2, h3⟩ := c
  obtain ⟨pO, cO, rfl⟩ := owns_slice h2
  have c0 : w.cell? ⟨k, 0, none⟩ = some (.pointer none) := by rw [h1.cell 0]; rfl
  have c1 : w.cell? ⟨k, 1, none⟩ = some (.slice pO out'.length cO) := by rw [h1.cell 1]; rfl
  have c2 : w.cell? ⟨k, 2, none⟩ = some (.bool bad) := by rw [h1.cell 2]; rfl
  have cf := h1.frozen
  have HBK := Lib.hid h1
  have HRW := Lib.hid h2
  have HGE := Lib.hid h3
  have HG := Lib.hid hg
  have HO := Lib.hid (And.intro ho hl)
  have HL := Lib.hid hL
  have HB := Lib.hid hB
  have hyy : U64 (IntKind.u64.wrap (n : Int)) ∧ IntKind.u64.wrap (n : Int) = n := by rw [IntKind.wrap_u64]; unfold U64; omega
  obtain ⟨y, hy⟩ : ∃ y, IntKind.u64.wrap (n : Int) = y := ⟨_, rfl⟩
  rw [hy] at hyy
  have HY := Lib.hid hyy
  obtain ⟨bb, hbb⟩ : ∃ bb, (bad || decide (most < (n : Int))) = bb := ⟨_, rfl⟩
  rw [hbb] at hz2
  have HBB := Lib.hid hbb
  have HLEN : Hid (out'.length + (Num.lebS y).size ≤ 140737488355328) := Lib.hid (by have := lebS_size HY.out.1.2; have := HO.out.2; have := HL.out; omega)
  have HFB : Hid (∀ {W : World}, KWr W B k (out' ++ Ms.bl (Num.lebS y)) bb → KWb W B k (OUT 0) (BAD 0) (LL 0)) := Lib.hid fun h => by
    rw [hz1, hz2, hz3]
    exact KWr.kwb h HO.out.1 HO.out.2 (fun e => by
      have h := HBB.out
      rw [e, Bool.or_eq_false_iff] at h
      refine ⟨h.1, ?_⟩
      rw [Ms.bl_leb, HY.out.2]
      rfl) (by rw [Ms.bl_len]; exact lebS_size HY.out.1.2)
  have HW : Hid (∀ (w : World) gl, Blk w gl 22 #[.int .u64 y] → Calls Try.prog 24 #[.slice (some ⟨gl, 0, none⟩) 1 1] w (StPost (Num.lebS y) w)) := Lib.hid fun w gl h => uintsB HY.out.1 h
  have HNB := Lib.hid hr
  clear h1 h2 h3 hg ho hl hL hB hyy hr hz1 hz2 hz3
  cases bad with
  | true =>
    have hbt : bb = true := by rw [← hbb]; rfl
    clear hbb
    subst hbt
    go_enter Try.func55, Try.ntmps55
    go_upto_region 2 with fail
    have OV : Only (· = k) w (w.setCell ⟨k, 2, none⟩ (.bool true)) := (Only.refl _ w).set1
    have HBV : Hid (Blk (w.setCell ⟨k, 2, none⟩ (.bool true)) k 51 #[.pointer none, .slice pO out'.length cO, .bool true]) := Lib.hid (HBK.out.set 2 (.bool true))
    have HRV := Lib.hid (owns_only HRW.out OV (owns_ne HRW.out HBK.out (by decide)))
    have HOV : Hid (OnW B k w (w.setCell ⟨k, 2, none⟩ (.bool true))) := Lib.hid (OV.mono fun j _ e => .inl e)
    have y1 := HOV.out.cell HG.out hx
    have HAV := Lib.hid (HG.out.onW HOV.out (World.block_lt_of_cell? _ _ hx))
    have HBS : Hid (B ≤ ((w.setCell ⟨k, 2, none⟩ (.bool true))).heap.size) := Lib.hid (Nat.le_trans HB.out OV.size)
    clear OV c0 c1 c2 cf hx
    generalize (w.setCell ⟨k, 2, none⟩ (.bool true)) = V at *
    have HI0 : Hid (PutI V B k g o (.slice pO out'.length cO) true (.slice pX n cX) V) := Lib.hid ⟨HBV.out, y1, OnW.refl _ _ _, HAV.out⟩
    have HROW : Hid (V.drew.ownsRow B 5 1 (.slice pO out'.length cO) out'.length (Lib.byteCells out') ∧ B ≤ V.drew.heap.size) := Lib.hid ⟨HRV.out, HBS.out⟩
    have HLT : Hid (∀ j, (Value.slice pO out'.length cO).ownBlock = some j → j < V.heap.size) := Lib.hid fun j hj => (owns_type HRV.out hj).choose_spec.2.2
    clear y1
    refine Reg.wp_rely 15 (PutI V B k g o (.slice pO out'.length cO) true (.slice pX n cX)) (by kernel_rfl) (Reg.relyOk_of (by kernel_rfl)) HI0.out.drew (fun w w' h hI => hI.below h) ?_
    refine Reg.rely_plain (.pointer (some ⟨k, 0, none⟩)) rfl (fun a w hI hF => by
        have f1 : a.tmps.getD 0 undef = .pointer (some ⟨k, 0, none⟩) := hF 0 (Reg.looksB (by kernel_rfl))
        clear hF hI
        simp only [Array.getD_eq_getD_getElem?] at f1
        simp only [execOp]; go_simp) ?_
    refine Reg.rely_plain (.pointer (some ⟨k, 0, none⟩)) rfl (fun a w hI hF => by
        have f1 : a.tmps.getD 0 undef = .pointer (some ⟨k, 0, none⟩) := hF 0 (Reg.looksB (by kernel_rfl))
        clear hF hI
        simp only [Array.getD_eq_getD_getElem?] at f1
        simp only [execOp]; go_simp) ?_
    refine Reg.rely_plain (.pointer (some ⟨k, 0, none⟩)) rfl (fun a w hI hF => by
        have f1 : a.tmps.getD 31 undef = .pointer (some ⟨k, 0, none⟩) := hF 31 (Reg.looksB (by kernel_rfl))
        clear hF hI
        simp only [Array.getD_eq_getD_getElem?] at f1
        simp only [execOp]; go_simp) ?_
    refine Reg.rely_plain (.pointer (some ⟨k, 1, none⟩)) rfl (fun a w hI hF => by
        have f1 : a.tmps.getD 32 undef = .pointer (some ⟨k, 0, none⟩) := hF 32 (Reg.looksB (by kernel_rfl))
        clear hF hI
        simp only [Array.getD_eq_getD_getElem?] at f1
        simp only [execOp]; go_simp) ?_
    refine Reg.rely_plain (.slice pO out'.length cO) rfl (fun a w hI hF => by
        have f1 : a.tmps.getD 33 undef = .pointer (some ⟨k, 1, none⟩) := hF 33 (Reg.looksB (by kernel_rfl))
        have hc : w.cell? ⟨k, 1, none⟩ = some (.slice pO out'.length cO) := by rw [hI.kb.cell 1]; rfl
        clear hF hI
        simp only [Array.getD_eq_getD_getElem?] at f1
        simp only [execOp]; go_simp) ?_
    refine Reg.rely_plain (.pointer (some ⟨g, o, none⟩)) rfl (fun a w hI hF => by
        have f1 : a.tmps.getD 1 undef = .pointer (some ⟨g, o, none⟩) := hF 1 (Reg.looksB (by kernel_rfl))
        clear hF hI
        simp only [Array.getD_eq_getD_getElem?] at f1
        simp only [execOp]; go_simp) ?_
    refine Reg.rely_plain (.pointer (some ⟨g, o, none⟩)) rfl (fun a w hI hF => by
        have f1 : a.tmps.getD 35 undef = .pointer (some ⟨g, o, none⟩) := hF 35 (Reg.looksB (by kernel_rfl))
        clear hF hI
        simp only [Array.getD_eq_getD_getElem?] at f1
        simp only [execOp]; go_simp) ?_
    refine Reg.rely_plain (.slice pX n cX) rfl (fun a w hI hF => by
        have f1 : a.tmps.getD 36 undef = .pointer (some ⟨g, o, none⟩) := hF 36 (Reg.looksB (by kernel_rfl))
        have hc := hI.cell
        clear hF hI
        simp only [Array.getD_eq_getD_getElem?] at f1
        simp only [execOp]; go_simp) ?_
    refine Reg.rely_plain (.int .i64 n) rfl (fun a w hI hF => by
        have f1 : a.tmps.getD 37 undef = .slice pX n cX := hF 37 (Reg.looksB (by kernel_rfl))
        clear hF hI
        simp only [Array.getD_eq_getD_getElem?] at f1
        simp only [execOp]; go_simp) ?_
    refine Reg.rely_plain (.int .u64 y) rfl (fun a w hI hF => by
        have f1 : a.tmps.getD 38 undef = .int .i64 n := hF 38 (Reg.looksB (by kernel_rfl))
        clear hF hI
        simp only [Array.getD_eq_getD_getElem?] at f1
        simp only [execOp]; go_simp) ?_
    refine Reg.rely_rel (fun v w => ∃ gl, v = .slice (some ⟨gl, 0, none⟩) 1 1 ∧ V.heap.size ≤ gl ∧ Blk w gl 22 #[.int .u64 y]) (fun v w w' h hS => by obtain ⟨gl, h1, h2, h3⟩ := hS; exact ⟨gl, h1, h2, h3.below h⟩) (fun G hG => by cases hG) rfl (fun a w hI hF => by
      have f1 : a.tmps.getD 39 undef = .int .u64 y := hF 39 (Reg.looksB (by kernel_rfl))
      have hK := Lib.hid (Blk.new w 22 #[.int .u64 y])
      have hQ := Lib.hid hI.on.size
      have hW := Lib.hid (show Reg.Grow w (w.alloc (.cells #[.int .u64 y] 22)) from (Below.refl _ w).alloc (Nat.le_refl _) _)
      clear hF hI
      simp only [Array.getD_eq_getD_getElem?] at f1
      unfold Oper.wp
      simp only [execOp]
      go_simp
      exact ⟨_, rfl, ⟨_, rfl, hQ.out, hK.out⟩, hW.out⟩) ?_
    refine Reg.rely_call0 (Reg.Is (.string (Num.lebS y))) (Reg.stab_is _ _) (fun G hG => by cases hG) rfl (fun a w hI hF => by
      obtain ⟨gl, f1, hg1, hgl⟩ : ∃ gl, a.tmps.getD 40 undef = .slice (some ⟨gl, 0, none⟩) 1 1 ∧ V.heap.size ≤ gl ∧ Blk w gl 22 #[.int .u64 y] := hF 40 (Reg.looksB (by kernel_rfl))
      refine ⟨24, #[.slice (some ⟨gl, 0, none⟩) 1 1], ?_, (HW.out w gl hgl).mono fun e w' h => ⟨_, h.1, rfl, h.2⟩⟩
      clear hF hI hgl hg1
      simp only [Array.getD_eq_getD_getElem?] at f1
      simp only [execOp]; go_simp) ?_
    refine Reg.rely_turn (fun v w => w.ownsRow B 5 1 v (out' ++ Ms.bl (Num.lebS y)).length (Lib.byteCells (out' ++ Ms.bl (Num.lebS y)))) (PutG V.heap.size B (.slice pO out'.length cO)) (fun w => w.ownsRow B 5 1 (.slice pO out'.length cO) out'.length (Lib.byteCells out') ∧ B ≤ w.heap.size) (fun v w w' h hS => owns_below hS h) (fun G hG => by cases hG) (fun w w' h hI => hI.turn h) ?_ rfl (fun w w' h hJ => ⟨owns_below hJ.1 h, Nat.le_trans hJ.2 h.size⟩) ⟨HROW.out.1, HROW.out.2⟩ (fun G hG => by cases hG) (fun G hG => by cases hG) (fun a w hI hJ hF => ?_) ?_
    · intro p hp
      repeat (rcases List.mem_cons.1 hp with rfl | hp; first | exact Reg.stab_is _ _ | exact fun v w w' h hS => by obtain ⟨gl, h1, h2, h3⟩ := hS; exact ⟨gl, h1, h2, h.keep h2 h3⟩)
      cases hp
    · have f1 : a.tmps.getD 34 undef = .slice pO out'.length cO := hF 34 (Reg.looksB (by kernel_rfl))
      have f2 : a.tmps.getD 41 undef = .string (Num.lebS y) := hF 41 (Reg.looksB (by kernel_rfl))
      exact putRun (t := 49) (u := 9) (sl := .tmp 34) (x := .tmp 41) rfl Try.underlying49 Try.underlying9 info_u8 rfl f1 f2 hJ.1 HLEN.out hJ.2 HLT.out
    refine Reg.rely_is (.pointer (some ⟨k, 0, none⟩)) (fun a w hI hF => Reg.det_plain rfl ?_) ?_
    · have f1 : a.tmps.getD 30 undef = .pointer (some ⟨k, 0, none⟩) := hF 30 (Reg.looksB (by kernel_rfl))
      clear hF hI
      simp only [Array.getD_eq_getD_getElem?] at f1
      simp only [execOp]; go_simp
    refine Reg.rely_is (.pointer (some ⟨k, 1, none⟩)) (fun a w hI hF => Reg.det_plain rfl ?_) ?_
    · have f1 : a.tmps.getD 43 undef = .pointer (some ⟨k, 0, none⟩) := hF 43 (Reg.looksB (by kernel_rfl))
      clear hF hI
      simp only [Array.getD_eq_getD_getElem?] at f1
      simp only [execOp]; go_simp
    refine Reg.rely_nil ?_
    refine Reg.final_is ?_
    refine Reg.final_is ?_
    refine Reg.final_rel (fun v12 => ?_)
    refine Reg.final_is ?_
    refine Reg.final_rel (fun v10 => ?_)
    refine Reg.final_is ?_
    refine Reg.final_is ?_
    refine Reg.final_is ?_
    refine Reg.final_is ?_
    refine Reg.final_is ?_
    refine Reg.final_is ?_
    refine Reg.final_is ?_
    refine Reg.final_is ?_
    refine Reg.final_is ?_
    refine Reg.final_is ?_
    refine Reg.final_nil (fun w9 hF => ?_)
    have HI9 := Lib.hid hF.1.1
    have HS9 := Lib.hid hF.1.2
    clear hF
    simp only [List.drop_succ_cons, List.drop_zero]
    go_simp
    have d1 : w9.cell? ⟨k, 1, none⟩ = some (.slice pO out'.length cO) := by rw [HI9.out.kb.cell 1]; rfl
    have f1 := HI9.out.kb.frozen 1
    obtain ⟨p9, c9, rfl⟩ := owns_slice HS9.out
    generalize hl9 : (out' ++ Ms.bl (Num.lebS y)).length = l9
    have HL9 := Lib.hid hl9
    clear hl9
    go_wp2_with fail
    refine Reg.fin (by kernel_rfl) ?_
    go_upto_region 3 with fail
    have hkw := KWr.put2 HI9.out.kb HGE.out HS9.out
    rw [HL9.out] at hkw
    have HKW := Lib.hid (HFB.out hkw.1)
    have HON := Lib.hid (HOV.out.trans (HI9.out.on.trans hkw.2))
    have x3 := HON.out.cell HG.out HX.out
    clear hkw HI9 HS9 HRV HBV HOV HAV HI0 HROW HLT HW HLEN HFB d1 f1
    generalize World.setCell w9 _ _ = W at *
    have hz0 : LwRel w B k n OUT BAD LL (.int .i64 0) W := ⟨0, Nat.zero_le _, rfl, HKW.out, HON.out⟩
    clear HKW
    go_wp2
    go_loopw [49] (fun u wr => LwRel w B k n OUT BAD LL u wr) (fun u _ => ((n : Int) - intOf u).toNat)
    case atStart => exact hz0
    case round =>
      clear hz0 x3
      obtain ⟨i, hi1, rfl, hK, hO⟩ := hrel
      have HK := Lib.hid hK
      have HOi := Lib.hid hO
      have x4 := hO.cell HG.out HX.out
      clear hK hO
      by_cases hi : i < n
      · obtain ⟨b, off, rfl, hbl⟩ := HP.out (by omega)
        have HC := Lib.hid (HN.out b off rfl i hi _ HOi.out HK.out)
        have hb9 := Nat.lt_of_lt_of_le hbl HOi.out.size
        have hki : (i : Int) < (n : Int) := by omega
        have hki0 : (0 : Int) ≤ (i : Int) := by omega
        have hn9 := HNB.out
        clear HN
        go_wp2_with (go_at_call 56; go_loud ((with_reducible refine HC.out.mono ?_); rintro e w5 ⟨rfl, h5, o5⟩; have H5 := Lib.hid h5; have O5 := Lib.hid (HOi.out.trans o5); clear h5 o5))
        go_roundw
        case rel => exact ⟨i + 1, by omega, rfl, H5.out, O5.out⟩
        case measure => simp [intOf]; omega
      · have : i = n := by omega
        subst this
        go_wp2_with fail
        go_end0
        exact ⟨rfl, HK.out, HOi.out⟩
  | false =>
    have hbb2 : decide (most < (n : Int)) = bb := by rw [← hbb]; rfl
    clear hbb
    go_enter Try.func55, Try.ntmps55
    go_upto_region 2 with fail
    have OV : Only (· = k) w (w.setCell ⟨k, 2, none⟩ (.bool bb)) := (Only.refl _ w).set1
    have HBV : Hid (Blk (w.setCell ⟨k, 2, none⟩ (.bool bb)) k 51 #[.pointer none, .slice pO out'.length cO, .bool bb]) := Lib.hid (HBK.out.set 2 (.bool bb))
    have HRV := Lib.hid (owns_only HRW.out OV (owns_ne HRW.out HBK.out (by decide)))
    have HOV : Hid (OnW B k w (w.setCell ⟨k, 2, none⟩ (.bool bb))) := Lib.hid (OV.mono fun j _ e => .inl e)
    have y1 := HOV.out.cell HG.out hx
    have HAV := Lib.hid (HG.out.onW HOV.out (World.block_lt_of_cell? _ _ hx))
    have HBS : Hid (B ≤ ((w.setCell ⟨k, 2, none⟩ (.bool bb))).heap.size) := Lib.hid (Nat.le_trans HB.out OV.size)
    clear OV c0 c1 c2 cf hx
    generalize (w.setCell ⟨k, 2, none⟩ (.bool bb)) = V at *
    have HI0 : Hid (PutI V B k g o (.slice pO out'.length cO) bb (.slice pX n cX) V) := Lib.hid ⟨HBV.out, y1, OnW.refl _ _ _, HAV.out⟩
    have HROW : Hid (V.drew.ownsRow B 5 1 (.slice pO out'.length cO) out'.length (Lib.byteCells out') ∧ B ≤ V.drew.heap.size) := Lib.hid ⟨HRV.out, HBS.out⟩
    have HLT : Hid (∀ j, (Value.slice pO out'.length cO).ownBlock = some j → j < V.heap.size) := Lib.hid fun j hj => (owns_type HRV.out hj).choose_spec.2.2
    clear y1
    refine Reg.wp_rely 15 (PutI V B k g o (.slice pO out'.length cO) bb (.slice pX n cX)) (by kernel_rfl) (Reg.relyOk_of (by kernel_rfl)) HI0.out.drew (fun w w' h hI => hI.below h) ?_
    refine Reg.rely_plain (.pointer (some ⟨k, 0, none⟩)) rfl (fun a w hI hF => by
        have f1 : a.tmps.getD 0 undef = .pointer (some ⟨k, 0, none⟩) := hF 0 (Reg.looksB (by kernel_rfl))
        clear hF hI
        simp only [Array.getD_eq_getD_getElem?] at f1
        simp only [execOp]; go_simp) ?_
    refine Reg.rely_plain (.pointer (some ⟨k, 0, none⟩)) rfl (fun a w hI hF => by
        have f1 : a.tmps.getD 0 undef = .pointer (some ⟨k, 0, none⟩) := hF 0 (Reg.looksB (by kernel_rfl))
        clear hF hI
        simp only [Array.getD_eq_getD_getElem?] at f1
        simp only [execOp]; go_simp) ?_
    refine Reg.rely_plain (.pointer (some ⟨k, 0, none⟩)) rfl (fun a w hI hF => by
        have f1 : a.tmps.getD 31 undef = .pointer (some ⟨k, 0, none⟩) := hF 31 (Reg.looksB (by kernel_rfl))
        clear hF hI
        simp only [Array.getD_eq_getD_getElem?] at f1
        simp only [execOp]; go_simp) ?_
    refine Reg.rely_plain (.pointer (some ⟨k, 1, none⟩)) rfl (fun a w hI hF => by
        have f1 : a.tmps.getD 32 undef = .pointer (some ⟨k, 0, none⟩) := hF 32 (Reg.looksB (by kernel_rfl))
        clear hF hI
        simp only [Array.getD_eq_getD_getElem?] at f1
        simp only [execOp]; go_simp) ?_
    refine Reg.rely_plain (.slice pO out'.length cO) rfl (fun a w hI hF => by
        have f1 : a.tmps.getD 33 undef = .pointer (some ⟨k, 1, none⟩) := hF 33 (Reg.looksB (by kernel_rfl))
        have hc : w.cell? ⟨k, 1, none⟩ = some (.slice pO out'.length cO) := by rw [hI.kb.cell 1]; rfl
        clear hF hI
        simp only [Array.getD_eq_getD_getElem?] at f1
        simp only [execOp]; go_simp) ?_
    refine Reg.rely_plain (.pointer (some ⟨g, o, none⟩)) rfl (fun a w hI hF => by
        have f1 : a.tmps.getD 1 undef = .pointer (some ⟨g, o, none⟩) := hF 1 (Reg.looksB (by kernel_rfl))
        clear hF hI
        simp only [Array.getD_eq_getD_getElem?] at f1
        simp only [execOp]; go_simp) ?_
    refine Reg.rely_plain (.pointer (some ⟨g, o, none⟩)) rfl (fun a w hI hF => by
        have f1 : a.tmps.getD 35 undef = .pointer (some ⟨g, o, none⟩) := hF 35 (Reg.looksB (by kernel_rfl))
        clear hF hI
        simp only [Array.getD_eq_getD_getElem?] at f1
        simp only [execOp]; go_simp) ?_
    refine Reg.rely_plain (.slice pX n cX) rfl (fun a w hI hF => by
        have f1 : a.tmps.getD 36 undef = .pointer (some ⟨g, o, none⟩) := hF 36 (Reg.looksB (by kernel_rfl))
        have hc := hI.cell
        clear hF hI
        simp only [Array.getD_eq_getD_getElem?] at f1
        simp only [execOp]; go_simp) ?_
    refine Reg.rely_plain (.int .i64 n) rfl (fun a w hI hF => by
        have f1 : a.tmps.getD 37 undef = .slice pX n cX := hF 37 (Reg.looksB (by kernel_rfl))
        clear hF hI
        simp only [Array.getD_eq_getD_getElem?] at f1
        simp only [execOp]; go_simp) ?_
    refine Reg.rely_plain (.int .u64 y) rfl (fun a w hI hF => by
        have f1 : a.tmps.getD 38 undef = .int .i64 n := hF 38 (Reg.looksB (by kernel_rfl))
        clear hF hI
        simp only [Array.getD_eq_getD_getElem?] at f1
        simp only [execOp]; go_simp) ?_
    refine Reg.rely_rel (fun v w => ∃ gl, v = .slice (some ⟨gl, 0, none⟩) 1 1 ∧ V.heap.size ≤ gl ∧ Blk w gl 22 #[.int .u64 y]) (fun v w w' h hS => by obtain ⟨gl, h1, h2, h3⟩ := hS; exact ⟨gl, h1, h2, h3.below h⟩) (fun G hG => by cases hG) rfl (fun a w hI hF => by
      have f1 : a.tmps.getD 39 undef = .int .u64 y := hF 39 (Reg.looksB (by kernel_rfl))
      have hK := Lib.hid (Blk.new w 22 #[.int .u64 y])
      have hQ := Lib.hid hI.on.size
      have hW := Lib.hid (show Reg.Grow w (w.alloc (.cells #[.int .u64 y] 22)) from (Below.refl _ w).alloc (Nat.le_refl _) _)
      clear hF hI
      simp only [Array.getD_eq_getD_getElem?] at f1
      unfold Oper.wp
      simp only [execOp]
      go_simp
      exact ⟨_, rfl, ⟨_, rfl, hQ.out, hK.out⟩, hW.out⟩) ?_
    refine Reg.rely_call0 (Reg.Is (.string (Num.lebS y))) (Reg.stab_is _ _) (fun G hG => by cases hG) rfl (fun a w hI hF => by
      obtain ⟨gl, f1, hg1, hgl⟩ : ∃ gl, a.tmps.getD 40 undef = .slice (some ⟨gl, 0, none⟩) 1 1 ∧ V.heap.size ≤ gl ∧ Blk w gl 22 #[.int .u64 y] := hF 40 (Reg.looksB (by kernel_rfl))
      refine ⟨24, #[.slice (some ⟨gl, 0, none⟩) 1 1], ?_, (HW.out w gl hgl).mono fun e w' h => ⟨_, h.1, rfl, h.2⟩⟩
      clear hF hI hgl hg1
      simp only [Array.getD_eq_getD_getElem?] at f1
      simp only [execOp]; go_simp) ?_
    refine Reg.rely_turn (fun v w => w.ownsRow B 5 1 v (out' ++ Ms.bl (Num.lebS y)).length (Lib.byteCells (out' ++ Ms.bl (Num.lebS y)))) (PutG V.heap.size B (.slice pO out'.length cO)) (fun w => w.ownsRow B 5 1 (.slice pO out'.length cO) out'.length (Lib.byteCells out') ∧ B ≤ w.heap.size) (fun v w w' h hS => owns_below hS h) (fun G hG => by cases hG) (fun w w' h hI => hI.turn h) ?_ rfl (fun w w' h hJ => ⟨owns_below hJ.1 h, Nat.le_trans hJ.2 h.size⟩) ⟨HROW.out.1, HROW.out.2⟩ (fun G hG => by cases hG) (fun G hG => by cases hG) (fun a w hI hJ hF => ?_) ?_
    · intro p hp
      repeat (rcases List.mem_cons.1 hp with rfl | hp; first | exact Reg.stab_is _ _ | exact fun v w w' h hS => by obtain ⟨gl, h1, h2, h3⟩ := hS; exact ⟨gl, h1, h2, h.keep h2 h3⟩)
      cases hp
    · have f1 : a.tmps.getD 34 undef = .slice pO out'.length cO := hF 34 (Reg.looksB (by kernel_rfl))
      have f2 : a.tmps.getD 41 undef = .string (Num.lebS y) := hF 41 (Reg.looksB (by kernel_rfl))
      exact putRun (t := 49) (u := 9) (sl := .tmp 34) (x := .tmp 41) rfl Try.underlying49 Try.underlying9 info_u8 rfl f1 f2 hJ.1 HLEN.out hJ.2 HLT.out
    refine Reg.rely_is (.pointer (some ⟨k, 0, none⟩)) (fun a w hI hF => Reg.det_plain rfl ?_) ?_
    · have f1 : a.tmps.getD 30 undef = .pointer (some ⟨k, 0, none⟩) := hF 30 (Reg.looksB (by kernel_rfl))
      clear hF hI
      simp only [Array.getD_eq_getD_getElem?] at f1
      simp only [execOp]; go_simp
    refine Reg.rely_is (.pointer (some ⟨k, 1, none⟩)) (fun a w hI hF => Reg.det_plain rfl ?_) ?_
    · have f1 : a.tmps.getD 43 undef = .pointer (some ⟨k, 0, none⟩) := hF 43 (Reg.looksB (by kernel_rfl))
      clear hF hI
      simp only [Array.getD_eq_getD_getElem?] at f1
      simp only [execOp]; go_simp
    refine Reg.rely_nil ?_
    refine Reg.final_is ?_
    refine Reg.final_is ?_
    refine Reg.final_rel (fun v12 => ?_)
    refine Reg.final_is ?_
    refine Reg.final_rel (fun v10 => ?_)
    refine Reg.final_is ?_
    refine Reg.final_is ?_
    refine Reg.final_is ?_
    refine Reg.final_is ?_
    refine Reg.final_is ?_
    refine Reg.final_is ?_
    refine Reg.final_is ?_
    refine Reg.final_is ?_
    refine Reg.final_is ?_
    refine Reg.final_is ?_
    refine Reg.final_nil (fun w9 hF => ?_)
    have HI9 := Lib.hid hF.1.1
    have HS9 := Lib.hid hF.1.2
    clear hF
    simp only [List.drop_succ_cons, List.drop_zero]
    go_simp
    have d1 : w9.cell? ⟨k, 1, none⟩ = some (.slice pO out'.length cO) := by rw [HI9.out.kb.cell 1]; rfl
    have f1 := HI9.out.kb.frozen 1
    obtain ⟨p9, c9, rfl⟩ := owns_slice HS9.out
    generalize hl9 : (out' ++ Ms.bl (Num.lebS y)).length = l9
    have HL9 := Lib.hid hl9
    clear hl9
    go_wp2_with fail
    refine Reg.fin (by kernel_rfl) ?_
    go_upto_region 3 with fail
    have hkw := KWr.put2 HI9.out.kb HGE.out HS9.out
    rw [HL9.out] at hkw
    have HKW := Lib.hid (HFB.out hkw.1)
    have HON := Lib.hid (HOV.out.trans (HI9.out.on.trans hkw.2))
    have x3 := HON.out.cell HG.out HX.out
    clear hkw HI9 HS9 HRV HBV HOV HAV HI0 HROW HLT HW HLEN HFB d1 f1
    generalize World.setCell w9 _ _ = W at *
    have hz0 : LwRel w B k n OUT BAD LL (.int .i64 0) W := ⟨0, Nat.zero_le _, rfl, HKW.out, HON.out⟩
    clear HKW
    go_wp2
    go_loopw [49] (fun u wr => LwRel w B k n OUT BAD LL u wr) (fun u _ => ((n : Int) - intOf u).toNat)
    case atStart => exact hz0
    case round =>
      clear hz0 x3
      obtain ⟨i, hi1, rfl, hK, hO⟩ := hrel
      have HK := Lib.hid hK
      have HOi := Lib.hid hO
      have x4 := hO.cell HG.out HX.out
      clear hK hO
      by_cases hi : i < n
      · obtain ⟨b, off, rfl, hbl⟩ := HP.out (by omega)
        have HC := Lib.hid (HN.out b off rfl i hi _ HOi.out HK.out)
        have hb9 := Nat.lt_of_lt_of_le hbl HOi.out.size
        have hki : (i : Int) < (n : Int) := by omega
        have hki0 : (0 : Int) ≤ (i : Int) := by omega
        have hn9 := HNB.out
        clear HN
        go_wp2_with (go_at_call 56; go_loud ((with_reducible refine HC.out.mono ?_); rintro e w5 ⟨rfl, h5, o5⟩; have H5 := Lib.hid h5; have O5 := Lib.hid (HOi.out.trans o5); clear h5 o5))
        go_roundw
        case rel => exact ⟨i + 1, by omega, rfl, H5.out, O5.out⟩
        case measure => simp [intOf]; omega
      · have : i = n := by omega
        subst this
        go_wp2_with fail
        go_end0
        exact ⟨rfl, HK.out, HOi.out⟩
set_option maxRecDepth 100000 in
set_option maxHeartbeats 4000000 in
theorem listw_en {n : Nat} {pX : Option Addr} {cX : Nat} {most : Int} {OUT : Nat → Ls} {BAD : Nat → Bool} {LL : Nat → Nat} (c : KWb w B k out bad L) (hB : B ≤ w.heap.size) (hL : L ≤ 1000000000) (hx : w.cell? ⟨g, o, none⟩ = some (.slice pX n cX)) (hg : Away w B k g) (hr : n ≤ 140737488355328)
    (hz : OUT 0 = out ++ Num.leb n ∧ BAD 0 = (bad || decide (most < (n : Int))) ∧ LL 0 = L + 10) (hp : 0 < n → ∃ b off, pX = some ⟨b, off, none⟩ ∧ b < w.heap.size)
    (hone : ∀ b off, pX = some ⟨b, off, none⟩ → ∀ i, i < n → ∀ w', OnW B k w w' → KWb w' B k (OUT i) (BAD i) (LL i) → Calls Try.prog 48 #[.pointer (some ⟨k, 0, none⟩), .pointer (some ⟨b, off + i * 5, none⟩)] w' (WrP w' B k (OUT (i + 1)) (BAD (i + 1)) (LL (i + 1)))) :
    Calls Try.prog 47 #[.pointer (some ⟨k, 0, none⟩), .pointer (some ⟨g, o, none⟩), .int .i64 most, .func (.func 48) #[.pointer (some ⟨k, 0, none⟩)] #[]] w (WrP w B k (OUT n) (BAD n) (LL n)) := by
  obtain ⟨hz1, hz2, hz3⟩ := hz
  have HX := Lib.hid hx
  have HP := Lib.hid hp
  have HN := Lib.hid hone
  clear hp hone
  obtain ⟨out', c, ho, hl⟩ := c
  obtain ⟨vO, h1, h2, h3⟩ := c
  obtain ⟨pO, cO, rfl⟩ := owns_slice h2
  have c0 : w.cell? ⟨k, 0, none⟩ = some (.pointer none) := by rw [h1.cell 0]; rfl
  have c1 : w.cell? ⟨k, 1, none⟩ = some (.slice pO out'.length cO) := by rw [h1.cell 1]; rfl
  have c2 : w.cell? ⟨k, 2, none⟩ = some (.bool bad) := by rw [h1.cell 2]; rfl
  have cf := h1.frozen
  have HBK := Lib.hid h1
  have HRW := Lib.hid h2
  have HGE := Lib.hid h3
  have HG := Lib.hid hg
  have HO := Lib.hid (And.intro ho hl)
  have HL := Lib.hid hL
  have HB := Lib.hid hB
  have hyy : U64 (IntKind.u64.wrap (n : Int)) ∧ IntKind.u64.wrap (n : Int) = n := by rw [IntKind.wrap_u64]; unfold U64; omega
  obtain ⟨y, hy⟩ : ∃ y, IntKind.u64.wrap (n : Int) = y := ⟨_, rfl⟩
  rw [hy] at hyy
  have HY := Lib.hid hyy
  obtain ⟨bb, hbb⟩ : ∃ bb, (bad || decide (most < (n : Int))) = bb := ⟨_, rfl⟩
  rw [hbb] at hz2
  have HBB := Lib.hid hbb
  have HLEN : Hid (out'.length + (Num.lebS y).size ≤ 140737488355328) := Lib.hid (by have := lebS_size HY.out.1.2; have := HO.out.2; have := HL.out; omega)
  have HFB : Hid (∀ {W : World}, KWr W B k (out' ++ Ms.bl (Num.lebS y)) bb → KWb W B k (OUT 0) (BAD 0) (LL 0)) := Lib.hid fun h => by
    rw [hz1, hz2, hz3]
    exact KWr.kwb h HO.out.1 HO.out.2 (fun e => by
      have h := HBB.out
      rw [e, Bool.or_eq_false_iff] at h
      refine ⟨h.1, ?_⟩
      rw [Ms.bl_leb, HY.out.2]
      rfl) (by rw [Ms.bl_len]; exact lebS_size HY.out.1.2)
  have HW : Hid (∀ (w : World) gl, Blk w gl 22 #[.int .u64 y] → Calls Try.prog 24 #[.slice (some ⟨gl, 0, none⟩) 1 1] w (StPost (Num.lebS y) w)) := Lib.hid fun w gl h => uintsB HY.out.1 h
  have HNB := Lib.hid hr
  clear h1 h2 h3 hg ho hl hL hB hyy hr hz1 hz2 hz3
  cases bad with
  | true =>
    have hbt : bb = true := by rw [← hbb]; rfl
    clear hbb
    subst hbt
    go_enter Try.func47, Try.ntmps47
    go_upto_region 2 with fail
    have OV : Only (· = k) w (w.setCell ⟨k, 2, none⟩ (.bool true)) := (Only.refl _ w).set1
    have HBV : Hid (Blk (w.setCell ⟨k, 2, none⟩ (.bool true)) k 51 #[.pointer none, .slice pO out'.length cO, .bool true]) := Lib.hid (HBK.out.set 2 (.bool true))
    have HRV := Lib.hid (owns_only HRW.out OV (owns_ne HRW.out HBK.out (by decide)))
    have HOV : Hid (OnW B k w (w.setCell ⟨k, 2, none⟩ (.bool true))) := Lib.hid (OV.mono fun j _ e => .inl e)
    have y1 := HOV.out.cell HG.out hx
    have HAV := Lib.hid (HG.out.onW HOV.out (World.block_lt_of_cell? _ _ hx))
    have HBS : Hid (B ≤ ((w.setCell ⟨k, 2, none⟩ (.bool true))).heap.size) := Lib.hid (Nat.le_trans HB.out OV.size)
    clear OV c0 c1 c2 cf hx
    generalize (w.setCell ⟨k, 2, none⟩ (.bool true)) = V at *
    have HI0 : Hid (PutI V B k g o (.slice pO out'.length cO) true (.slice pX n cX) V) := Lib.hid ⟨HBV.out, y1, OnW.refl _ _ _, HAV.out⟩
    have HROW : Hid (V.drew.ownsRow B 5 1 (.slice pO out'.length cO) out'.length (Lib.byteCells out') ∧ B ≤ V.drew.heap.size) := Lib.hid ⟨HRV.out, HBS.out⟩
    have HLT : Hid (∀ j, (Value.slice pO out'.length cO).ownBlock = some j → j < V.heap.size) := Lib.hid fun j hj => (owns_type HRV.out hj).choose_spec.2.2
    clear y1
    refine Reg.wp_rely 15 (PutI V B k g o (.slice pO out'.length cO) true (.slice pX n cX)) (by kernel_rfl) (Reg.relyOk_of (by kernel_rfl)) HI0.out.drew (fun w w' h hI => hI.below h) ?_
    refine Reg.rely_plain (.pointer (some ⟨k, 0, none⟩)) rfl (fun a w hI hF => by
        have f1 : a.tmps.getD 0 undef = .pointer (some ⟨k, 0, none⟩) := hF 0 (Reg.looksB (by kernel_rfl))
        clear hF hI
        simp only [Array.getD_eq_getD_getElem?] at f1
        simp only [execOp]; go_simp) ?_
    refine Reg.rely_plain (.pointer (some ⟨k, 0, none⟩)) rfl (fun a w hI hF => by
        have f1 : a.tmps.getD 0 undef = .pointer (some ⟨k, 0, none⟩) := hF 0 (Reg.looksB (by kernel_rfl))
        clear hF hI
        simp only [Array.getD_eq_getD_getElem?] at f1
        simp only [execOp]; go_simp) ?_
    refine Reg.rely_plain (.pointer (some ⟨k, 0, none⟩)) rfl (fun a w hI hF => by
        have f1 : a.tmps.getD 31 undef = .pointer (some ⟨k, 0, none⟩) := hF 31 (Reg.looksB (by kernel_rfl))
        clear hF hI
        simp only [Array.getD_eq_getD_getElem?] at f1
        simp only [execOp]; go_simp) ?_
    refine Reg.rely_plain (.pointer (some ⟨k, 1, none⟩)) rfl (fun a w hI hF => by
        have f1 : a.tmps.getD 32 undef = .pointer (some ⟨k, 0, none⟩) := hF 32 (Reg.looksB (by kernel_rfl))
        clear hF hI
        simp only [Array.getD_eq_getD_getElem?] at f1
        simp only [execOp]; go_simp) ?_
    refine Reg.rely_plain (.slice pO out'.length cO) rfl (fun a w hI hF => by
        have f1 : a.tmps.getD 33 undef = .pointer (some ⟨k, 1, none⟩) := hF 33 (Reg.looksB (by kernel_rfl))
        have hc : w.cell? ⟨k, 1, none⟩ = some (.slice pO out'.length cO) := by rw [hI.kb.cell 1]; rfl
        clear hF hI
        simp only [Array.getD_eq_getD_getElem?] at f1
        simp only [execOp]; go_simp) ?_
    refine Reg.rely_plain (.pointer (some ⟨g, o, none⟩)) rfl (fun a w hI hF => by
        have f1 : a.tmps.getD 1 undef = .pointer (some ⟨g, o, none⟩) := hF 1 (Reg.looksB (by kernel_rfl))
        clear hF hI
        simp only [Array.getD_eq_getD_getElem?] at f1
        simp only [execOp]; go_simp) ?_
    refine Reg.rely_plain (.pointer (some ⟨g, o, none⟩)) rfl (fun a w hI hF => by
        have f1 : a.tmps.getD 35 undef = .pointer (some ⟨g, o, none⟩) := hF 35 (Reg.looksB (by kernel_rfl))
        clear hF hI
        simp only [Array.getD_eq_getD_getElem?] at f1
        simp only [execOp]; go_simp) ?_
    refine Reg.rely_plain (.slice pX n cX) rfl (fun a w hI hF => by
        have f1 : a.tmps.getD 36 undef = .pointer (some ⟨g, o, none⟩) := hF 36 (Reg.looksB (by kernel_rfl))
        have hc := hI.cell
        clear hF hI
        simp only [Array.getD_eq_getD_getElem?] at f1
        simp only [execOp]; go_simp) ?_
    refine Reg.rely_plain (.int .i64 n) rfl (fun a w hI hF => by
        have f1 : a.tmps.getD 37 undef = .slice pX n cX := hF 37 (Reg.looksB (by kernel_rfl))
        clear hF hI
        simp only [Array.getD_eq_getD_getElem?] at f1
        simp only [execOp]; go_simp) ?_
    refine Reg.rely_plain (.int .u64 y) rfl (fun a w hI hF => by
        have f1 : a.tmps.getD 38 undef = .int .i64 n := hF 38 (Reg.looksB (by kernel_rfl))
        clear hF hI
        simp only [Array.getD_eq_getD_getElem?] at f1
        simp only [execOp]; go_simp) ?_
    refine Reg.rely_rel (fun v w => ∃ gl, v = .slice (some ⟨gl, 0, none⟩) 1 1 ∧ V.heap.size ≤ gl ∧ Blk w gl 22 #[.int .u64 y]) (fun v w w' h hS => by obtain ⟨gl, h1, h2, h3⟩ := hS; exact ⟨gl, h1, h2, h3.below h⟩) (fun G hG => by cases hG) rfl (fun a w hI hF => by
      have f1 : a.tmps.getD 39 undef = .int .u64 y := hF 39 (Reg.looksB (by kernel_rfl))
      have hK := Lib.hid (Blk.new w 22 #[.int .u64 y])
      have hQ := Lib.hid hI.on.size
      have hW := Lib.hid (show Reg.Grow w (w.alloc (.cells #[.int .u64 y] 22)) from (Below.refl _ w).alloc (Nat.le_refl _) _)
      clear hF hI
      simp only [Array.getD_eq_getD_getElem?] at f1
      unfold Oper.wp
      simp only [execOp]
      go_simp
      exact ⟨_, rfl, ⟨_, rfl, hQ.out, hK.out⟩, hW.out⟩) ?_
    refine Reg.rely_call0 (Reg.Is (.string (Num.lebS y))) (Reg.stab_is _ _) (fun G hG => by cases hG) rfl (fun a w hI hF => by
      obtain ⟨gl, f1, hg1, hgl⟩ : ∃ gl, a.tmps.getD 40 undef = .slice (some ⟨gl, 0, none⟩) 1 1 ∧ V.heap.size ≤ gl ∧ Blk w gl 22 #[.int .u64 y] := hF 40 (Reg.looksB (by kernel_rfl))
      refine ⟨24, #[.slice (some ⟨gl, 0, none⟩) 1 1], ?_, (HW.out w gl hgl).mono fun e w' h => ⟨_, h.1, rfl, h.2⟩⟩
      clear hF hI hgl hg1
      simp only [Array.getD_eq_getD_getElem?] at f1
      simp only [execOp]; go_simp) ?_
    refine Reg.rely_turn (fun v w => w.ownsRow B 5 1 v (out' ++ Ms.bl (Num.lebS y)).length (Lib.byteCells (out' ++ Ms.bl (Num.lebS y)))) (PutG V.heap.size B (.slice pO out'.length cO)) (fun w => w.ownsRow B 5 1 (.slice pO out'.length cO) out'.length (Lib.byteCells out') ∧ B ≤ w.heap.size) (fun v w w' h hS => owns_below hS h) (fun G hG => by cases hG) (fun w w' h hI => hI.turn h) ?_ rfl (fun w w' h hJ => ⟨owns_below hJ.1 h, Nat.le_trans hJ.2 h.size⟩) ⟨HROW.out.1, HROW.out.2⟩ (fun G hG => by cases hG) (fun G hG => by cases hG) (fun a w hI hJ hF => ?_) ?_
    · intro p hp
      repeat (rcases List.mem_cons.1 hp with rfl | hp; first | exact Reg.stab_is _ _ | exact fun v w w' h hS => by obtain ⟨gl, h1, h2, h3⟩ := hS; exact ⟨gl, h1, h2, h.keep h2 h3⟩)
      cases hp
    · have f1 : a.tmps.getD 34 undef = .slice pO out'.length cO := hF 34 (Reg.looksB (by kernel_rfl))
      have f2 : a.tmps.getD 41 undef = .string (Num.lebS y) := hF 41 (Reg.looksB (by kernel_rfl))
      exact putRun (t := 49) (u := 9) (sl := .tmp 34) (x := .tmp 41) rfl Try.underlying49 Try.underlying9 info_u8 rfl f1 f2 hJ.1 HLEN.out hJ.2 HLT.out
    refine Reg.rely_is (.pointer (some ⟨k, 0, none⟩)) (fun a w hI hF => Reg.det_plain rfl ?_) ?_
    · have f1 : a.tmps.getD 30 undef = .pointer (some ⟨k, 0, none⟩) := hF 30 (Reg.looksB (by kernel_rfl))
      clear hF hI
      simp only [Array.getD_eq_getD_getElem?] at f1
      simp only [execOp]; go_simp
    refine Reg.rely_is (.pointer (some ⟨k, 1, none⟩)) (fun a w hI hF => Reg.det_plain rfl ?_) ?_
    · have f1 : a.tmps.getD 43 undef = .pointer (some ⟨k, 0, none⟩) := hF 43 (Reg.looksB (by kernel_rfl))
      clear hF hI
      simp only [Array.getD_eq_getD_getElem?] at f1
      simp only [execOp]; go_simp
    refine Reg.rely_nil ?_
    refine Reg.final_is ?_
    refine Reg.final_is ?_
    refine Reg.final_rel (fun v12 => ?_)
    refine Reg.final_is ?_
    refine Reg.final_rel (fun v10 => ?_)
    refine Reg.final_is ?_
    refine Reg.final_is ?_
    refine Reg.final_is ?_
    refine Reg.final_is ?_
    refine Reg.final_is ?_
    refine Reg.final_is ?_
    refine Reg.final_is ?_
    refine Reg.final_is ?_
    refine Reg.final_is ?_
    refine Reg.final_is ?_
    refine Reg.final_nil (fun w9 hF => ?_)
    have HI9 := Lib.hid hF.1.1
    have HS9 := Lib.hid hF.1.2
    clear hF
    simp only [List.drop_succ_cons, List.drop_zero]
    go_simp
    have d1 : w9.cell? ⟨k, 1, none⟩ = some (.slice pO out'.length cO) := by rw [HI9.out.kb.cell 1]; rfl
    have f1 := HI9.out.kb.frozen 1
    obtain ⟨p9, c9, rfl⟩ := owns_slice HS9.out
    generalize hl9 : (out' ++ Ms.bl (Num.lebS y)).length = l9
    have HL9 := Lib.hid hl9
    clear hl9
    go_wp2_with fail
    refine Reg.fin (by kernel_rfl) ?_
    go_upto_region 3 with fail
    have hkw := KWr.put2 HI9.out.kb HGE.out HS9.out
    rw [HL9.out] at hkw
    have HKW := Lib.hid (HFB.out hkw.1)
    have HON := Lib.hid (HOV.out.trans (HI9.out.on.trans hkw.2))
    have x3 := HON.out.cell HG.out HX.out
    clear hkw HI9 HS9 HRV HBV HOV HAV HI0 HROW HLT HW HLEN HFB d1 f1
    generalize World.setCell w9 _ _ = W at *
    have hz0 : LwRel w B k n OUT BAD LL (.int .i64 0) W := ⟨0, Nat.zero_le _, rfl, HKW.out, HON.out⟩
    clear HKW
    go_wp2
    go_loopw [49] (fun u wr => LwRel w B k n OUT BAD LL u wr) (fun u _ => ((n : Int) - intOf u).toNat)
    case atStart => exact hz0
    case round =>
      clear hz0 x3
      obtain ⟨i, hi1, rfl, hK, hO⟩ := hrel
      have HK := Lib.hid hK
      have HOi := Lib.hid hO
      have x4 := hO.cell HG.out HX.out
      clear hK hO
      by_cases hi : i < n
      · obtain ⟨b, off, rfl, hbl⟩ := HP.out (by omega)
        have HC := Lib.hid (HN.out b off rfl i hi _ HOi.out HK.out)
        have hb9 := Nat.lt_of_lt_of_le hbl HOi.out.size
        have hki : (i : Int) < (n : Int) := by omega
        have hki0 : (0 : Int) ≤ (i : Int) := by omega
        have hn9 := HNB.out
        clear HN
        go_wp2_with (go_at_call 48; go_loud ((with_reducible refine HC.out.mono ?_); rintro e w5 ⟨rfl, h5, o5⟩; have H5 := Lib.hid h5; have O5 := Lib.hid (HOi.out.trans o5); clear h5 o5))
        go_roundw
        case rel => exact ⟨i + 1, by omega, rfl, H5.out, O5.out⟩
        case measure => simp [intOf]; omega
      · have : i = n := by omega
        subst this
        go_wp2_with fail
        go_end0
        exact ⟨rfl, HK.out, HOi.out⟩
  | false =>
    have hbb2 : decide (most < (n : Int)) = bb := by rw [← hbb]; rfl
    clear hbb
    go_enter Try.func47, Try.ntmps47
    go_upto_region 2 with fail
    have OV : Only (· = k) w (w.setCell ⟨k, 2, none⟩ (.bool bb)) := (Only.refl _ w).set1
    have HBV : Hid (Blk (w.setCell ⟨k, 2, none⟩ (.bool bb)) k 51 #[.pointer none, .slice pO out'.length cO, .bool bb]) := Lib.hid (HBK.out.set 2 (.bool bb))
    have HRV := Lib.hid (owns_only HRW.out OV (owns_ne HRW.out HBK.out (by decide)))
    have HOV : Hid (OnW B k w (w.setCell ⟨k, 2, none⟩ (.bool bb))) := Lib.hid (OV.mono fun j _ e => .inl e)
    have y1 := HOV.out.cell HG.out hx
    have HAV := Lib.hid (HG.out.onW HOV.out (World.block_lt_of_cell? _ _ hx))
    have HBS : Hid (B ≤ ((w.setCell ⟨k, 2, none⟩ (.bool bb))).heap.size) := Lib.hid (Nat.le_trans HB.out OV.size)
    clear OV c0 c1 c2 cf hx
    generalize (w.setCell ⟨k, 2, none⟩ (.bool bb)) = V at *
    have HI0 : Hid (PutI V B k g o (.slice pO out'.length cO) bb (.slice pX n cX) V) := Lib.hid ⟨HBV.out, y1, OnW.refl _ _ _, HAV.out⟩
    have HROW : Hid (V.drew.ownsRow B 5 1 (.slice pO out'.length cO) out'.length (Lib.byteCells out') ∧ B ≤ V.drew.heap.size) := Lib.hid ⟨HRV.out, HBS.out⟩
    have HLT : Hid (∀ j, (Value.slice pO out'.length cO).ownBlock = some j → j < V.heap.size) := Lib.hid fun j hj => (owns_type HRV.out hj).choose_spec.2.2
    clear y1
    refine Reg.wp_rely 15 (PutI V B k g o (.slice pO out'.length cO) bb (.slice pX n cX)) (by kernel_rfl) (Reg.relyOk_of (by kernel_rfl)) HI0.out.drew (fun w w' h hI => hI.below h) ?_
    refine Reg.rely_plain (.pointer (some ⟨k, 0, none⟩)) rfl (fun a w hI hF => by
        have f1 : a.tmps.getD 0 undef = .pointer (some ⟨k, 0, none⟩) := hF 0 (Reg.looksB (by kernel_rfl))
        clear hF hI
        simp only [Array.getD_eq_getD_getElem?] at f1
        simp only [execOp]; go_simp) ?_
    refine Reg.rely_plain (.pointer (some ⟨k, 0, none⟩)) rfl (fun a w hI hF => by
        have f1 : a.tmps.getD 0 undef = .pointer (some ⟨k, 0, none⟩) := hF 0 (Reg.looksB (by kernel_rfl))
        clear hF hI
        simp only [Array.getD_eq_getD_getElem?] at f1
        simp only [execOp]; go_simp) ?_
    refine Reg.rely_plain (.pointer (some ⟨k, 0, none⟩)) rfl (fun a w hI hF => by
        have f1 : a.tmps.getD 31 undef = .pointer (some ⟨k, 0, none⟩) := hF 31 (Reg.looksB (by kernel_rfl))
        clear hF hI
        simp only [Array.getD_eq_getD_getElem?] at f1
        simp only [execOp]; go_simp) ?_
    refine Reg.rely_plain (.pointer (some ⟨k, 1, none⟩)) rfl (fun a w hI hF => by
        have f1 : a.tmps.getD 32 undef = .pointer (some ⟨k, 0, none⟩) := hF 32 (Reg.looksB (by kernel_rfl))
        clear hF hI
        simp only [Array.getD_eq_getD_getElem?] at f1
        simp only [execOp]; go_simp) ?_
    refine Reg.rely_plain (.slice pO out'.length cO) rfl (fun a w hI hF => by
        have f1 : a.tmps.getD 33 undef = .pointer (some ⟨k, 1, none⟩) := hF 33 (Reg.looksB (by kernel_rfl))
        have hc : w.cell? ⟨k, 1, none⟩ = some (.slice pO out'.length cO) := by rw [hI.kb.cell 1]; rfl
        clear hF hI
        simp only [Array.getD_eq_getD_getElem?] at f1
        simp only [execOp]; go_simp) ?_
    refine Reg.rely_plain (.pointer (some ⟨g, o, none⟩)) rfl (fun a w hI hF => by
        have f1 : a.tmps.getD 1 undef = .pointer (some ⟨g, o, none⟩) := hF 1 (Reg.looksB (by kernel_rfl))
        clear hF hI
        simp only [Array.getD_eq_getD_getElem?] at f1
        simp only [execOp]; go_simp) ?_
    refine Reg.rely_plain (.pointer (some ⟨g, o, none⟩)) rfl (fun a w hI hF => by
        have f1 : a.tmps.getD 35 undef = .pointer (some ⟨g, o, none⟩) := hF 35 (Reg.looksB (by kernel_rfl))
        clear hF hI
        simp only [Array.getD_eq_getD_getElem?] at f1
        simp only [execOp]; go_simp) ?_
    refine Reg.rely_plain (.slice pX n cX) rfl (fun a w hI hF => by
        have f1 : a.tmps.getD 36 undef = .pointer (some ⟨g, o, none⟩) := hF 36 (Reg.looksB (by kernel_rfl))
        have hc := hI.cell
        clear hF hI
        simp only [Array.getD_eq_getD_getElem?] at f1
        simp only [execOp]; go_simp) ?_
    refine Reg.rely_plain (.int .i64 n) rfl (fun a w hI hF => by
        have f1 : a.tmps.getD 37 undef = .slice pX n cX := hF 37 (Reg.looksB (by kernel_rfl))
        clear hF hI
        simp only [Array.getD_eq_getD_getElem?] at f1
        simp only [execOp]; go_simp) ?_
    refine Reg.rely_plain (.int .u64 y) rfl (fun a w hI hF => by
        have f1 : a.tmps.getD 38 undef = .int .i64 n := hF 38 (Reg.looksB (by kernel_rfl))
        clear hF hI
        simp only [Array.getD_eq_getD_getElem?] at f1
        simp only [execOp]; go_simp) ?_
    refine Reg.rely_rel (fun v w => ∃ gl, v = .slice (some ⟨gl, 0, none⟩) 1 1 ∧ V.heap.size ≤ gl ∧ Blk w gl 22 #[.int .u64 y]) (fun v w w' h hS => by obtain ⟨gl, h1, h2, h3⟩ := hS; exact ⟨gl, h1, h2, h3.below h⟩) (fun G hG => by cases hG) rfl (fun a w hI hF => by
      have f1 : a.tmps.getD 39 undef = .int .u64 y := hF 39 (Reg.looksB (by kernel_rfl))
      have hK := Lib.hid (Blk.new w 22 #[.int .u64 y])
      have hQ := Lib.hid hI.on.size
      have hW := Lib.hid (show Reg.Grow w (w.alloc (.cells #[.int .u64 y] 22)) from (Below.refl _ w).alloc (Nat.le_refl _) _)
      clear hF hI
      simp only [Array.getD_eq_getD_getElem?] at f1
      unfold Oper.wp
      simp only [execOp]
      go_simp
      exact ⟨_, rfl, ⟨_, rfl, hQ.out, hK.out⟩, hW.out⟩) ?_
    refine Reg.rely_call0 (Reg.Is (.string (Num.lebS y))) (Reg.stab_is _ _) (fun G hG => by cases hG) rfl (fun a w hI hF => by
      obtain ⟨gl, f1, hg1, hgl⟩ : ∃ gl, a.tmps.getD 40 undef = .slice (some ⟨gl, 0, none⟩) 1 1 ∧ V.heap.size ≤ gl ∧ Blk w gl 22 #[.int .u64 y] := hF 40 (Reg.looksB (by kernel_rfl))
      refine ⟨24, #[.slice (some ⟨gl, 0, none⟩) 1 1], ?_, (HW.out w gl hgl).mono fun e w' h => ⟨_, h.1, rfl, h.2⟩⟩
      clear hF hI hgl hg1
      simp only [Array.getD_eq_getD_getElem?] at f1
      simp only [execOp]; go_simp) ?_
    refine Reg.rely_turn (fun v w => w.ownsRow B 5 1 v (out' ++ Ms.bl (Num.lebS y)).length (Lib.byteCells (out' ++ Ms.bl (Num.lebS y)))) (PutG V.heap.size B (.slice pO out'.length cO)) (fun w => w.ownsRow B 5 1 (.slice pO out'.length cO) out'.length (Lib.byteCells out') ∧ B ≤ w.heap.size) (fun v w w' h hS => owns_below hS h) (fun G hG => by cases hG) (fun w w' h hI => hI.turn h) ?_ rfl (fun w w' h hJ => ⟨owns_below hJ.1 h, Nat.le_trans hJ.2 h.size⟩) ⟨HROW.out.1, HROW.out.2⟩ (fun G hG => by cases hG) (fun G hG => by cases hG) (fun a w hI hJ hF => ?_) ?_
    · intro p hp
      repeat (rcases List.mem_cons.1 hp with rfl | hp; first | exact Reg.stab_is _ _ | exact fun v w w' h hS => by obtain ⟨gl, h1, h2, h3⟩ := hS; exact ⟨gl, h1, h2, h.keep h2 h3⟩)
      cases hp
    · have f1 : a.tmps.getD 34 undef = .slice pO out'.length cO := hF 34 (Reg.looksB (by kernel_rfl))
      have f2 : a.tmps.getD 41 undef = .string (Num.lebS y) := hF 41 (Reg.looksB (by kernel_rfl))
      exact putRun (t := 49) (u := 9) (sl := .tmp 34) (x := .tmp 41) rfl Try.underlying49 Try.underlying9 info_u8 rfl f1 f2 hJ.1 HLEN.out hJ.2 HLT.out
    refine Reg.rely_is (.pointer (some ⟨k, 0, none⟩)) (fun a w hI hF => Reg.det_plain rfl ?_) ?_
    · have f1 : a.tmps.getD 30 undef = .pointer (some ⟨k, 0, none⟩) := hF 30 (Reg.looksB (by kernel_rfl))
      clear hF hI
      simp only [Array.getD_eq_getD_getElem?] at f1
      simp only [execOp]; go_simp
    refine Reg.rely_is (.pointer (some ⟨k, 1, none⟩)) (fun a w hI hF => Reg.det_plain rfl ?_) ?_
    · have f1 : a.tmps.getD 43 undef = .pointer (some ⟨k, 0, none⟩) := hF 43 (Reg.looksB (by kernel_rfl))
      clear hF hI
      simp only [Array.getD_eq_getD_getElem?] at f1
      simp only [execOp]; go_simp
    refine Reg.rely_nil ?_
    refine Reg.final_is ?_
    refine Reg.final_is ?_
    refine Reg.final_rel (fun v12 => ?_)
    refine Reg.final_is ?_
    refine Reg.final_rel (fun v10 => ?_)
    refine Reg.final_is ?_
    refine Reg.final_is ?_
    refine Reg.final_is ?_
    refine Reg.final_is ?_
    refine Reg.final_is ?_
    refine Reg.final_is ?_
    refine Reg.final_is ?_
    refine Reg.final_is ?_
    refine Reg.final_is ?_
    refine Reg.final_is ?_
    refine Reg.final_nil (fun w9 hF => ?_)
    have HI9 := Lib.hid hF.1.1
    have HS9 := Lib.hid hF.1.2
    clear hF
    simp only [List.drop_succ_cons, List.drop_zero]
    go_simp
    have d1 : w9.cell? ⟨k, 1, none⟩ = some (.slice pO out'.length cO) := by rw [HI9.out.kb.cell 1]; rfl
    have f1 := HI9.out.kb.frozen 1
    obtain ⟨p9, c9, rfl⟩ := owns_slice HS9.out
    generalize hl9 : (out' ++ Ms.bl (Num.lebS y)).length = l9
    have HL9 := Lib.hid hl9
    clear hl9
    go_wp2_with fail
    refine Reg.fin (by kernel_rfl) ?_
    go_upto_region 3 with fail
    have hkw := KWr.put2 HI9.out.kb HGE.out HS9.out
    rw [HL9.out] at hkw
    have HKW := Lib.hid (HFB.out hkw.1)
    have HON := Lib.hid (HOV.out.trans (HI9.out.on.trans hkw.2))
    have x3 := HON.out.cell HG.out HX.out
    clear hkw HI9 HS9 HRV HBV HOV HAV HI0 HROW HLT HW HLEN HFB d1 f1
    generalize World.setCell w9 _ _ = W at *
    have hz0 : LwRel w B k n OUT BAD LL (.int .i64 0) W := ⟨0, Nat.zero_le _, rfl, HKW.out, HON.out⟩
    clear HKW
    go_wp2
    go_loopw [49] (fun u wr => LwRel w B k n OUT BAD LL u wr) (fun u _ => ((n : Int) - intOf u).toNat)
    case atStart => exact hz0
    case round =>
      clear hz0 x3
      obtain ⟨i, hi1, rfl, hK, hO⟩ := hrel
      have HK := Lib.hid hK
      have HOi := Lib.hid hO
      have x4 := hO.cell HG.out HX.out
      clear hK hO
      by_cases hi : i < n
      · obtain ⟨b, off, rfl, hbl⟩ := HP.out (by omega)
        have HC := Lib.hid (HN.out b off rfl i hi _ HOi.out HK.out)
        have hb9 := Nat.lt_of_lt_of_le hbl HOi.out.size
        have hki : (i : Int) < (n : Int) := by omega
        have hki0 : (0 : Int) ≤ (i : Int) := by omega
        have hn9 := HNB.out
        clear HN
        go_wp2_with (go_at_call 48; go_loud ((with_reducible refine HC.out.mono ?_); rintro e w5 ⟨rfl, h5, o5⟩; have H5 := Lib.hid h5; have O5 := Lib.hid (HOi.out.trans o5); clear h5 o5))
        go_roundw
        case rel => exact ⟨i + 1, by omega, rfl, H5.out, O5.out⟩
        case measure => simp [intOf]; omega
      · have : i = n := by omega
        subst this
        go_wp2_with fail
        go_end0
        exact ⟨rfl, HK.out, HOi.out⟩
end
end Go.Proofs.Ytghbjknpffiaiaa
