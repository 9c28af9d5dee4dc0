
/- The walks of the document's answer on whether an op has its form. No condition but that numbers fit their kinds. -/
import Derived.Test.YtbpakckiglgjfaaCodeN
namespace Go.Proofs.Ytbpakckiglgjfaa
open Go.RowKit Cd
set_option linter.unusedVariables false
theorem rreg_any (x : Int) (w : World) : Calls Try.prog 30 #[.int .i64 x] w fun e w' => e = .returned (.bool (regB x)) ∧ w = w' := by
  by_cases h0 : x < 0
  · have e : regB x = false := by unfold regB; rw [Bool.and_eq_false_iff, decide_eq_false_iff_not]; omega
    have h0' : decide (0 ≤ x) = false := decide_eq_false (by omega)
    rw [e]
    clear e h0
    go_enter Try.func30, Try.ntmps30
    go_wp2
    go_ret
    exact ⟨rfl, rfl⟩
  · have h0' : decide (0 ≤ x) = true := decide_eq_true (by omega)
    by_cases h1 : 16 < x
    · have e : regB x = false := by unfold regB; rw [Bool.and_eq_false_iff, decide_eq_false_iff_not, decide_eq_false_iff_not]; omega
      have h1' : decide (x ≤ 16) = false := decide_eq_false (by omega)
      rw [e]
      clear e h0
      go_enter Try.func30, Try.ntmps30
      go_wp2
      go_ret
      exact ⟨rfl, rfl⟩
    · have e : regB x = true := by simp [regB]; omega
      have h1' : decide (x ≤ 16) = true := decide_eq_true (by omega)
      rw [e]
      clear e h0 h1
      go_enter Try.func30, Try.ntmps30
      go_wp2
      go_ret
      exact ⟨rfl, rfl⟩
def HasT (k : Int) : Value := .tuple #[.bool (kd k), .bool (ka k), .bool (kb k), .bool (kn k)]
theorem ret4 {P : Program} {fn : Func} {R : Ending → World → Prop} {a : Act} {t u v x : Tmp} {w : World} {r : Value} (h : fn.results = #[.tmp t, .tmp u, .tmp v, .tmp x])
    (hr : Value.tuple #[a.tmps.getD t undef, a.tmps.getD u undef, a.tmps.getD v undef, a.tmps.getD x undef] = r) (hd : a.defers = []) (hR : R (.returned r) w) : bodyPost P fn R .ret a w :=
  bodyPost_ret (v := r) (by subst hr; simp [results, h]) hd hR
set_option maxRecDepth 100000 in
set_option maxHeartbeats 8000000 in
theorem rhas_any (k : Int) (hk : U8 k) (w : World) : Calls Try.prog 57 #[.int .u8 k] w fun e w' => e = .returned (HasT k) ∧ w = w' := by
  have : k = 0 ∨ k = 1 ∨ k = 2 ∨ k = 3 ∨ k = 4 ∨ k = 5 ∨ k = 6 ∨ k = 7 ∨ k = 8 ∨ k = 9 ∨ k = 10 ∨ k = 11 ∨ k = 12 ∨ k = 13 ∨ k = 14 ∨ 15 ≤ k := by unfold U8 at hk; omega
  clear hk
  rcases this with rfl | rfl | rfl | rfl | rfl | rfl | rfl | rfl | rfl | rfl | rfl | rfl | rfl | rfl | rfl | h
  · as_aux_lemma =>
    have e : HasT 0 = .tuple #[.bool (kd 0), .bool (ka 0), .bool (kb 0), .bool (kn 0)] := rfl
    simp [kd, ka, kb, kn] at e
    go_enter Try.func57, Try.ntmps57
    go_wp2
    try simp only [Exit.inBlock, Exit.then]
    exact ret4 rfl rfl rfl ⟨congrArg Ending.returned e.symm, rfl⟩
  · as_aux_lemma =>
    have e : HasT 1 = .tuple #[.bool (kd 1), .bool (ka 1), .bool (kb 1), .bool (kn 1)] := rfl
    simp [kd, ka, kb, kn] at e
    go_enter Try.func57, Try.ntmps57
    go_wp2
    try simp only [Exit.inBlock, Exit.then]
    exact ret4 rfl rfl rfl ⟨congrArg Ending.returned e.symm, rfl⟩
  · as_aux_lemma =>
    have e : HasT 2 = .tuple #[.bool (kd 2), .bool (ka 2), .bool (kb 2), .bool (kn 2)] := rfl
    simp [kd, ka, kb, kn] at e
    go_enter Try.func57, Try.ntmps57
    go_wp2
    try simp only [Exit.inBlock, Exit.then]
    exact ret4 rfl rfl rfl ⟨congrArg Ending.returned e.symm, rfl⟩
  · as_aux_lemma =>
    have e : HasT 3 = .tuple #[.bool (kd 3), .bool (ka 3), .bool (kb 3), .bool (kn 3)] := rfl
    simp [kd, ka, kb, kn] at e
    go_enter Try.func57, Try.ntmps57
    go_wp2
    try simp only [Exit.inBlock, Exit.then]
    exact ret4 rfl rfl rfl ⟨congrArg Ending.returned e.symm, rfl⟩
  · as_aux_lemma =>
    have e : HasT 4 = .tuple #[.bool (kd 4), .bool (ka 4), .bool (kb 4), .bool (kn 4)] := rfl
    simp [kd, ka, kb, kn] at e
    go_enter Try.func57, Try.ntmps57
    go_wp2
    try simp only [Exit.inBlock, Exit.then]
    exact ret4 rfl rfl rfl ⟨congrArg Ending.returned e.symm, rfl⟩
  · as_aux_lemma =>
    have e : HasT 5 = .tuple #[.bool (kd 5), .bool (ka 5), .bool (kb 5), .bool (kn 5)] := rfl
    simp [kd, ka, kb, kn] at e
    go_enter Try.func57, Try.ntmps57
    go_wp2
    try simp only [Exit.inBlock, Exit.then]
    exact ret4 rfl rfl rfl ⟨congrArg Ending.returned e.symm, rfl⟩
  · as_aux_lemma =>
    have e : HasT 6 = .tuple #[.bool (kd 6), .bool (ka 6), .bool (kb 6), .bool (kn 6)] := rfl
    simp [kd, ka, kb, kn] at e
    go_enter Try.func57, Try.ntmps57
    go_wp2
    try simp only [Exit.inBlock, Exit.then]
    exact ret4 rfl rfl rfl ⟨congrArg Ending.returned e.symm, rfl⟩
  · as_aux_lemma =>
    have e : HasT 7 = .tuple #[.bool (kd 7), .bool (ka 7), .bool (kb 7), .bool (kn 7)] := rfl
    simp [kd, ka, kb, kn] at e
    go_enter Try.func57, Try.ntmps57
    go_wp2
    try simp only [Exit.inBlock, Exit.then]
    exact ret4 rfl rfl rfl ⟨congrArg Ending.returned e.symm, rfl⟩
  · as_aux_lemma =>
    have e : HasT 8 = .tuple #[.bool (kd 8), .bool (ka 8), .bool (kb 8), .bool (kn 8)] := rfl
    simp [kd, ka, kb, kn] at e
    go_enter Try.func57, Try.ntmps57
    go_wp2
    try simp only [Exit.inBlock, Exit.then]
    exact ret4 rfl rfl rfl ⟨congrArg Ending.returned e.symm, rfl⟩
  · as_aux_lemma =>
    have e : HasT 9 = .tuple #[.bool (kd 9), .bool (ka 9), .bool (kb 9), .bool (kn 9)] := rfl
    simp [kd, ka, kb, kn] at e
    go_enter Try.func57, Try.ntmps57
    go_wp2
    try simp only [Exit.inBlock, Exit.then]
    exact ret4 rfl rfl rfl ⟨congrArg Ending.returned e.symm, rfl⟩
  · as_aux_lemma =>
    have e : HasT 10 = .tuple #[.bool (kd 10), .bool (ka 10), .bool (kb 10), .bool (kn 10)] := rfl
    simp [kd, ka, kb, kn] at e
    go_enter Try.func57, Try.ntmps57
    go_wp2
    try simp only [Exit.inBlock, Exit.then]
    exact ret4 rfl rfl rfl ⟨congrArg Ending.returned e.symm, rfl⟩
  · as_aux_lemma =>
    have e : HasT 11 = .tuple #[.bool (kd 11), .bool (ka 11), .bool (kb 11), .bool (kn 11)] := rfl
    simp [kd, ka, kb, kn] at e
    go_enter Try.func57, Try.ntmps57
    go_wp2
    try simp only [Exit.inBlock, Exit.then]
    exact ret4 rfl rfl rfl ⟨congrArg Ending.returned e.symm, rfl⟩
  · as_aux_lemma =>
    have e : HasT 12 = .tuple #[.bool (kd 12), .bool (ka 12), .bool (kb 12), .bool (kn 12)] := rfl
    simp [kd, ka, kb, kn] at e
    go_enter Try.func57, Try.ntmps57
    go_wp2
    try simp only [Exit.inBlock, Exit.then]
    exact ret4 rfl rfl rfl ⟨congrArg Ending.returned e.symm, rfl⟩
  · as_aux_lemma =>
    have e : HasT 13 = .tuple #[.bool (kd 13), .bool (ka 13), .bool (kb 13), .bool (kn 13)] := rfl
    simp [kd, ka, kb, kn] at e
    go_enter Try.func57, Try.ntmps57
    go_wp2
    try simp only [Exit.inBlock, Exit.then]
    exact ret4 rfl rfl rfl ⟨congrArg Ending.returned e.symm, rfl⟩
  · as_aux_lemma =>
    have e : HasT 14 = .tuple #[.bool (kd 14), .bool (ka 14), .bool (kb 14), .bool (kn 14)] := rfl
    simp [kd, ka, kb, kn] at e
    go_enter Try.func57, Try.ntmps57
    go_wp2
    try simp only [Exit.inBlock, Exit.then]
    exact ret4 rfl rfl rfl ⟨congrArg Ending.returned e.symm, rfl⟩
  · have h9 : ¬ k ≤ 9 := by omega
    have e1 : ∀ n : Int, n ≤ 14 → (k == n) = false := fun n hn => by simp; omega
    have f1 := decide_eq_false h9
    have e : HasT k = .tuple #[.bool false, .bool false, .bool false, .bool false] := by
      unfold HasT kd ka kb kn
      rw [f1, e1 12 (by omega), e1 11 (by omega), e1 14 (by omega), e1 1 (by omega), e1 10 (by omega)]
      simp
    have g1 : decide (1 ≤ k) = true := decide_eq_true (by omega)
    have g2 : decide (2 ≤ k) = true := decide_eq_true (by omega)
    have g3 : decide (3 ≤ k) = true := decide_eq_true (by omega)
    have k12 := e1 12 (by omega)
    have k11 := e1 11 (by omega)
    have k14 := e1 14 (by omega)
    have k1 := e1 1 (by omega)
    have k10 := e1 10 (by omega)
    clear e1 h9
    go_enter Try.func57, Try.ntmps57
    go_wp2
    try simp only [Exit.inBlock, Exit.then]
    exact ret4 rfl rfl rfl ⟨congrArg Ending.returned e.symm, rfl⟩
end Go.Proofs.Ytbpakckiglgjfaa
