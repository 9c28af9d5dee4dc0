import Derived.Test.YtlahficmkfgooaaGreatMgp

/- More steps of the theorem on regions that draw their order: guards either way, calls without one. No condition. -/
namespace Go.Proofs.YtlahficmkfgooaaGreat
namespace Reg
open Go.RowKit
set_option linter.unusedVariables false
section
variable {P : Program} {ops : Array Oper} {I : World → Prop} {a0 : Act} {R : Act → World → Prop} {o : Oper} {rest : List Oper} {K : List (Option Tmp × Spec)} {Gs : List (World → World → Prop)} {Js : List (World → Prop)} {w0 : World}
theorem wanted_b {a : Act} {j : Nat} {g : Tmp} {b : Bool} (hg : o.guard = some (j, b)) (hd : ((ops[j]?).bind (·.dst)) = some g) (hv : a.tmps.getD g undef = .bool b) : Region.wanted o (yielded ops a.tmps) = true := by
  unfold Region.wanted
  rw [hg]
  simp only [yielded, hd, Option.bind_some]
  rw [Array.getD_eq_getD_getElem?] at hv
  cases h : a.tmps[g]? with
  | none => rw [h] at hv; cases hv
  | some v => rw [h] at hv; simp only [Option.getD_some] at hv; subst hv; cases b <;> rfl
/-- One under a guard that holds. -/
theorem rely_isb (c : Value) (j : Nat) (b : Bool) (g : Tmp) (hg : o.guard = some (j, b)) (hd : ((ops[j]?).bind (·.dst)) = some g) (hgf : ∀ v w, Fact K a0 g v w → v = .bool b)
    (hrun : ∀ (a : Act) (w : World), I w → (∀ t ∈ o.looksAt ops, Fact K a0 t (a.tmps.getD t undef) w) → (execOp a.eval o).run P w = .ok (.value c) w)
    (hr : Rely P ops I w0 a0 R rest ((o.dst, Is c) :: K) Gs Js) : Rely P ops I w0 a0 R (o :: rest) K Gs Js :=
  rely_is c (fun a w hI hF => .inl ⟨wanted_b hg hd (hgf _ w (hF g (looksG hg hd))), hrun a w hI hF⟩) hr
/-- A call whose arguments may lie anywhere, under a guard that holds. -/
theorem rely_callb (S : Spec) (hS : Stab S Grow) (hG : ∀ G ∈ Gs, Stab S G) (j : Nat) (b : Bool) (g : Tmp) (hg : o.guard = some (j, b)) (hd : ((ops[j]?).bind (·.dst)) = some g) (hgf : ∀ v w, Fact K a0 g v w → v = .bool b)
    (h : ∀ (a : Act) (w : World), I w → (∀ t ∈ o.looksAt ops, Fact K a0 t (a.tmps.getD t undef) w) → ∃ f args, (execOp a.eval o).run P w = .ok (.enter f args) w ∧ Calls P f args w fun e w' => ∃ v, e = .returned v ∧ S v w' ∧ Below w.heap.size w w')
    (hr : Rely P ops I w0 a0 R rest ((o.dst, S) :: K) Gs Js) : Rely P ops I w0 a0 R (o :: rest) K Gs Js := by
  refine .inl ⟨S, hS, hG, fun a w hI _ hF => ?_, hr⟩
  rw [if_pos (wanted_b hg hd (hgf _ w (hF g (looksG hg hd))))]
  obtain ⟨f, args, hrun, hc⟩ := h a w hI hF
  unfold Oper.wp
  rw [hrun]
  simp only [Oper.upon]
  refine hc.mono fun e w' ⟨v, he, h1, h2⟩ => ?_
  subst he
  exact ⟨v, rfl, h1, h2⟩
/-- .. without a guard. -/
theorem rely_call0 (S : Spec) (hS : Stab S Grow) (hG : ∀ G ∈ Gs, Stab S G) (hg : o.guard = none)
    (h : ∀ (a : Act) (w : World), I w → (∀ t ∈ o.looksAt ops, Fact K a0 t (a.tmps.getD t undef) w) → ∃ f args, (execOp a.eval o).run P w = .ok (.enter f args) w ∧ Calls P f args w fun e w' => ∃ v, e = .returned v ∧ S v w' ∧ Below w.heap.size w w')
    (hr : Rely P ops I w0 a0 R rest ((o.dst, S) :: K) Gs Js) : Rely P ops I w0 a0 R (o :: rest) K Gs Js := by
  refine rely_rel S hS hG hg (fun a w hi hF => ?_) hr
  obtain ⟨f, args, hrun, hc⟩ := h a w hi hF
  unfold Oper.wp
  rw [hrun]
  simp only [Oper.upon]
  refine hc.mono fun e w' ⟨v, he, h1, h2⟩ => ?_
  subst he
  exact ⟨v, rfl, h1, h2⟩
end
end Reg
end Go.Proofs.YtlahficmkfgooaaGreat
