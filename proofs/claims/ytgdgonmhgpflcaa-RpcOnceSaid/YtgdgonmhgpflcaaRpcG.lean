import Derived.Test.YtgdgonmhgpflcaaRpcF

/- The walks of NewCaller, Due, Ended, Calls. No condition but that the caller is one. -/
namespace Go.Proofs.Ytgdgonmhgpflcaa
open Go.RowKit Go.Maps Wire Rp
set_option linter.unusedVariables false
set_option linter.unusedSimpArgs false
namespace Rp
/-- May a caller be made so? -/
def confB (inc wait most tries : Int) : Bool := decide (1 ≤ inc) && (decide (inc ≤ 4611686018427387904) && (decide (1 ≤ wait) && (decide (wait ≤ 4294967296) && (decide (wait ≤ most) && (decide (most ≤ 4294967296) && (decide (1 ≤ tries) && decide (tries ≤ 64)))))))
theorem sorted_eq : ∀ {A B : List Int}, A.Pairwise (· < ·) → B.Pairwise (· < ·) → (∀ x, x ∈ A ↔ x ∈ B) → A = B := by
  intro A
  induction A with
  | nil =>
    intro B _ _ h
    cases B with
    | nil => rfl
    | cons b B => exact absurd ((h b).2 (by simp)) (by simp)
  | cons a A ih =>
    intro B ha hb h
    cases B with
    | nil => exact absurd ((h a).1 (by simp)) (by simp)
    | cons b B =>
      obtain ⟨ha1, ha2⟩ := List.pairwise_cons.1 ha
      obtain ⟨hb1, hb2⟩ := List.pairwise_cons.1 hb
      have hab : a = b := by
        have h1 := (h a).1 (by simp)
        have h2 := (h b).2 (by simp)
        rcases List.mem_cons.1 h1 with e | e
        · exact e
        · rcases List.mem_cons.1 h2 with e' | e'
          · exact e'.symm
          · have := ha1 b e'; have := hb1 a e; omega
      subst hab
      rw [ih ha2 hb2 fun x => ?_]
      constructor
      · intro hx
        rcases List.mem_cons.1 ((h x).1 (List.mem_cons_of_mem _ hx)) with e | e
        · have := ha1 x hx; omega
        · exact e
      · intro hx
        rcases List.mem_cons.1 ((h x).2 (List.mem_cons_of_mem _ hx)) with e | e
        · have := hb1 x hx; omega
        · exact e
theorem confB_ok {inc wait most tries : Int} (h : confB inc wait most tries = true) : SInv ⟨inc, wait, most, tries, 0, [], [], []⟩ := by
  unfold confB at h
  simp only [Bool.and_eq_true, decide_eq_true_eq] at h
  exact ⟨by dsimp only; omega, by dsimp only; omega, by dsimp only; omega, by dsimp only; omega, by dsimp only; omega, by simp, List.Pairwise.nil, fun c hc => by cases hc⟩
end Rp
set_option maxRecDepth 100000 in
set_option maxHeartbeats 1000000 in
theorem newc_bad {inc wait most tries : Int} (h : confB inc wait most tries = false) (w : World) : Calls Try.prog 29 #[.int .u64 inc, .agg #[.int .i64 wait, .int .i64 most, .int .i64 tries]] w fun e w' => e = .returned (.tuple #[.pointer none, .int .i64 2]) ∧ Below w.heap.size w w' := by
  have HB := Lib.hid ((Below.refl _ w).alloc (Nat.le_refl _) (.cells #[.int .i64 wait, .int .i64 most, .int .i64 tries] 73))
  unfold confB at h
  by_cases h1 : 1 ≤ inc
  · by_cases h2 : inc ≤ 4611686018427387904
    · by_cases h3 : 1 ≤ wait
      · by_cases h4 : wait ≤ 4294967296
        · by_cases h5 : wait ≤ most
          · by_cases h6 : most ≤ 4294967296
            · by_cases h7 : 1 ≤ tries
              · by_cases h8 : tries ≤ 64
                · simp [h1, h2, h3, h4, h5, h6, h7, h8] at h
                · (clear h; go_enter Try.func29, Try.ntmps29; go_wp2_with fail; go_ret2; exact ⟨rfl, HB.out⟩)
              · (clear h; go_enter Try.func29, Try.ntmps29; go_wp2_with fail; go_ret2; exact ⟨rfl, HB.out⟩)
            · (clear h; go_enter Try.func29, Try.ntmps29; go_wp2_with fail; go_ret2; exact ⟨rfl, HB.out⟩)
          · (clear h; go_enter Try.func29, Try.ntmps29; go_wp2_with fail; go_ret2; exact ⟨rfl, HB.out⟩)
        · (clear h; go_enter Try.func29, Try.ntmps29; go_wp2_with fail; go_ret2; exact ⟨rfl, HB.out⟩)
      · (clear h; go_enter Try.func29, Try.ntmps29; go_wp2_with fail; go_ret2; exact ⟨rfl, HB.out⟩)
    · (clear h; go_enter Try.func29, Try.ntmps29; go_wp2_with fail; go_ret2; exact ⟨rfl, HB.out⟩)
  · (clear h; go_enter Try.func29, Try.ntmps29; go_wp2_with fail; go_ret2; exact ⟨rfl, HB.out⟩)
def NewCPost (w : World) (B0 : Nat) (s : St) (e : Ending) (w' : World) : Prop := ∃ b h, e = .returned (.tuple #[.pointer (some ⟨b, 0, none⟩), .int .i64 0]) ∧ CW w' B0 w.heap.size w.heap.size b h (fun _ => 0) s (.slice none 0 0) (.slice none 0 0) 0 ∧ Below w.heap.size w w'
set_option maxRecDepth 100000 in
set_option maxHeartbeats 1000000 in
theorem newc_any {inc wait most tries : Int} (hc : confB inc wait most tries = true) (w : World) {B0 : Nat} (hB : B0 ≤ w.heap.size) : Calls Try.prog 29 #[.int .u64 inc, .agg #[.int .i64 wait, .int .i64 most, .int .i64 tries]] w (NewCPost w B0 ⟨inc, wait, most, tries, 0, [], [], []⟩) := by
  have HV := Lib.hid (confB_ok hc)
  have HB := Lib.hid hB
  unfold confB at hc
  simp only [Bool.and_eq_true, decide_eq_true_eq] at hc
  obtain ⟨h1, h2, h3, h4, h5, h6, h7, h8⟩ := hc
  have HX := Lib.hid (Blk.new w 73 #[.int .i64 wait, .int .i64 most, .int .i64 tries])
  clear hB
  go_enter Try.func29, Try.ntmps29
  go_upto_region 3 with fail
  clear h1 h2 h3 h4 h5 h6 h7 h8
  have hmm := @run_makeMap Try.prog
  go_wp2_with fail
  go_ret2
  refine ⟨w.heap.size + 2, w.heap.size + 1, rfl, ⟨?_, ?_, (fun c hc => by cases hc), (fun c hc => by cases hc), World.ownsRow_nil _ _ _ _, World.ownsRow_nil _ _ _ _, ?_, ?_, HV.out⟩, ?_⟩
  · have := Blk.new ((w.alloc (.cells #[.int .i64 wait, .int .i64 most, .int .i64 tries] 73)).alloc (.map #[] 0)) 143 #[.int .u64 inc, .int .i64 wait, .int .i64 most, .int .i64 tries, .int .u64 0, .map (some (w.heap.size + 1)), .slice none 0 0, .slice none 0 0]
    simpa using this
  · have := Ml.At.made (w.alloc (.cells #[.int .i64 wait, .int .i64 most, .int .i64 tries] 73)) Try.prog 22 layC
    have := this.below ((Below.refl _ _).alloc (Nat.le_refl _) (.cells #[.int .u64 inc, .int .i64 wait, .int .i64 most, .int .i64 tries, .int .u64 0, .map (some (w.heap.size + 1)), .slice none 0 0, .slice none 0 0] 143))
    simpa [keysC] using this
  · have := HB.out; omega
  · simp; omega
  · exact (((Below.refl _ _).alloc (Nat.le_refl _) _).alloc (by simp) _).alloc (by simp; omega) _
end Go.Proofs.Ytgdgonmhgpflcaa
