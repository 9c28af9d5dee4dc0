
/- The check of the theorem on regions that draw their order, reckoned so that great regions pass: an edge of its own is looked for first. No condition. -/
import Derived.Test.YtbpakckiglgjfaaRely2
namespace Go.Proofs.Ytbpakckiglgjfaa
namespace Reg
open Go.RowKit
set_option linter.unusedVariables false
def near (md : Region.Mode) (ops : Array Oper) (j i : Nat) : Bool :=
  match ops[i]? with
  | some o => o.after.any fun e => Region.binds md e && e.on == j
  | none => false
def aheadQ (md : Region.Mode) (ops : Array Oper) (j i : Nat) : Bool := near md ops j i || ahead md ops ops.size j i
theorem aheadQ_imp {md : Region.Mode} {ops : Array Oper} {j i : Nat} (h : aheadQ md ops j i = true) : ahead md ops ops.size j i = true := by
  unfold aheadQ at h
  rw [Bool.or_eq_true] at h
  rcases h with h | h
  · unfold near at h
    cases ho : ops[i]? with
    | none => rw [ho] at h; cases h
    | some o =>
      rw [ho] at h
      simp only at h
      have hlt : i < ops.size := (Array.getElem?_eq_some_iff.1 ho).1
      obtain ⟨k, hk⟩ : ∃ k, ops.size = k + 1 := ⟨ops.size - 1, by omega⟩
      rw [hk]
      unfold ahead
      rw [ho]
      simp only
      rw [Array.any_eq_true] at h ⊢
      obtain ⟨x, hx, h2⟩ := h
      refine ⟨x, hx, ?_⟩
      rw [Bool.and_eq_true] at h2 ⊢
      exact ⟨h2.1, by rw [h2.2]; rfl⟩
  · exact h
def readsOkQ (md : Region.Mode) (ops : Array Oper) (n : Nat) (i : Nat) : Bool :=
  match ops[i]? with
  | some oi => (oi.looksAt ops).all fun t => (List.range n).all fun j =>
    (match ops[j]? with | some oj => oj.dst != some t || (decide (j < i) && aheadQ md ops j i) || (decide (i < j) && aheadQ md ops i j) | none => true)
  | none => false
def relyOkQ (P : Program) (md : Region.Mode) (ops : Array Oper) (n m : Nat) : Bool :=
  textOk P md ops n && decide (n ≤ ops.size) && (List.range n).all fun i => readsOkQ md ops n i && distOk ops n i &&
    ((List.range ops.size).all fun t => decide (t < n) || aheadQ md ops i t) &&
    (match (ops[i]?).bind (·.dst) with | some d => decide (d < m) | none => true)
theorem relyOk_of {P : Program} {md : Region.Mode} {ops : Array Oper} {n m : Nat} (h : relyOkQ P md ops n m = true) : relyOk P md ops n m = true := by
  unfold relyOkQ at h
  unfold relyOk
  rw [Bool.and_eq_true] at h ⊢
  refine ⟨h.1, ?_⟩
  have h2 := h.2
  rw [List.all_eq_true] at h2 ⊢
  intro i hi
  have h3 := h2 i hi
  rw [Bool.and_eq_true, Bool.and_eq_true, Bool.and_eq_true] at h3 ⊢
  obtain ⟨⟨⟨a, b⟩, c⟩, d⟩ := h3
  refine ⟨⟨⟨?_, b⟩, ?_⟩, d⟩
  · unfold readsOkQ at a
    unfold readsOk
    cases ho : ops[i]? with
    | none => rw [ho] at a; cases a
    | some oi =>
      rw [ho] at a
      simp only at a ⊢
      rw [List.all_eq_true] at a ⊢
      intro t ht
      have a1 := a t ht
      rw [List.all_eq_true] at a1 ⊢
      intro j hj
      have a2 := a1 j hj
      cases hj2 : ops[j]? with
      | none => rfl
      | some oj =>
        rw [hj2] at a2
        simp only [Bool.or_eq_true, Bool.and_eq_true] at a2 ⊢
        rcases a2 with (a2 | a2) | a2
        · exact .inl (.inl a2)
        · exact .inl (.inr ⟨a2.1, aheadQ_imp a2.2⟩)
        · exact .inr ⟨a2.1, aheadQ_imp a2.2⟩
  · rw [List.all_eq_true] at c ⊢
    intro t ht
    have c1 := c t ht
    rw [Bool.or_eq_true] at c1 ⊢
    exact c1.imp id aheadQ_imp
end Reg
end Go.Proofs.Ytbpakckiglgjfaa
