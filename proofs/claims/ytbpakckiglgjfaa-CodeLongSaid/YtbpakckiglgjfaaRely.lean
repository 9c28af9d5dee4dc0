
/- Steps of the theorem on regions that draw their order. No condition. -/
import Derived.Test.YtbpakckiglgjfaaHeap
namespace Go.Proofs.Ytbpakckiglgjfaa
namespace Reg
open Go.RowKit
set_option linter.unusedVariables false
section
variable {P : Program} {ops : Array Oper} {I : World → Prop} {a0 : Act} {R : Act → World → Prop} {o : Oper} {rest : List Oper} {K : List (Option Tmp × Spec)} {Gs : List (World → World → Prop)} {Js : List (World → Prop)} {w0 : World}
theorem looks1 {t : Tmp} (hop : o.op.operands = #[.tmp t]) : t ∈ o.looksAt ops := by simp [Oper.looksAt, hop]
theorem looksB {t : Tmp} (h : (o.looksAt ops).contains t = true) : t ∈ o.looksAt ops := by simpa using h
theorem looksN {t : Tmp} {os : Array Operand} (hop : o.op.operands = os) (h : Operand.tmp t ∈ os.toList) : t ∈ o.looksAt ops := by
  unfold Oper.looksAt
  rw [hop]
  exact List.mem_append_left _ (List.mem_filterMap.2 ⟨_, h, rfl⟩)
/-- An operation on one slot. -/
theorem rely_one (t : Tmp) (u c : Value) (hg : o.guard = none) (hop : o.op.operands = #[.tmp t]) (hu : ∀ v w, Fact K a0 t v w → v = u)
    (hrun : ∀ (ρ : Operand → Value) w, ρ (.tmp t) = u → I w → (execOp ρ o).run P w = .ok (.value c) w)
    (hr : Rely P ops I w0 a0 R rest ((o.dst, Is c) :: K) Gs Js) : Rely P ops I w0 a0 R (o :: rest) K Gs Js :=
  rely_is c (fun a w hI hF => det_plain hg (hrun _ w (hu _ w (hF t (looks1 hop))) hI)) hr
theorem rely_move (t : Tmp) (u : Value) (hg : o.guard = none) (hop : o.op = .move (.tmp t)) (hu : ∀ v w, Fact K a0 t v w → v = u)
    (hr : Rely P ops I w0 a0 R rest ((o.dst, Is u) :: K) Gs Js) : Rely P ops I w0 a0 R (o :: rest) K Gs Js :=
  rely_one t u u hg (by rw [hop]; rfl) hu (fun ρ w h _ => by simp [execOp, hop, h]) hr
/-- A call of a function whose arguments lie in slots. -/
theorem rely_call (S : Spec) (G : World → World → Prop) (J : World → Prop) (hS : Stab S Grow) (hG : ∀ G ∈ Gs, Stab S G) (hI : ∀ w w', G w w' → I w → I w')
    (hK : ∀ p ∈ K, Stab p.2 G) (hg : o.guard = none) (hJ : StJ J Grow) (hJ0 : J w0) (hJG : ∀ G' ∈ Gs, StJ J G') (hJJ : ∀ J' ∈ Js, StJ J' G)
    (f : FuncId) (args : Array Value) (hrun : ∀ (a : Act) (w : World), I w → (∀ t ∈ o.looksAt ops, Fact K a0 t (a.tmps.getD t undef) w) → (execOp a.eval o).run P w = .ok (.enter f args) w)
    (hc : ∀ w, I w → J w → Calls P f args w fun e w' => ∃ v, e = .returned v ∧ S v w' ∧ G w w')
    (hr : Rely P ops I w0 a0 R rest ((o.dst, S) :: K) (G :: Gs) (J :: Js)) : Rely P ops I w0 a0 R (o :: rest) K Gs Js := by
  refine rely_turn S G J hS hG hI hK hg hJ hJ0 hJG hJJ (fun a w hi hj hF => ?_) hr
  unfold Oper.wp
  rw [hrun a w hi hF]
  simp only [Oper.upon]
  refine (hc w hi hj).mono fun e w' ⟨v, he, h1, h2⟩ => ?_
  subst he
  exact ⟨v, rfl, h1, h2⟩
end
end Reg
end Go.Proofs.Ytbpakckiglgjfaa
