
/- More steps of the theorem on regions that draw their order: operations on two slots, calls that only make memory, guards. No condition. -/
import Derived.Test.YtbpakckiglgjfaaRely
namespace Go.Proofs.Ytbpakckiglgjfaa
namespace Reg
open Go.RowKit
set_option linter.unusedVariables false
section
variable {P : Program} {ops : Array Oper} {I : World → Prop} {a0 : Act} {R : Act → World → Prop} {o : Oper} {rest : List Oper} {K : List (Option Tmp × Spec)} {Gs : List (World → World → Prop)} {Js : List (World → Prop)} {w0 : World}
/-- An operation on two slots. -/
theorem rely_two (s t : Tmp) (u v c : Value) (hg : o.guard = none) (hop : o.op.operands = #[.tmp s, .tmp t]) (hu : ∀ x w, Fact K a0 s x w → x = u) (hv : ∀ x w, Fact K a0 t x w → x = v)
    (hrun : ∀ (ρ : Operand → Value) w, ρ (.tmp s) = u → ρ (.tmp t) = v → I w → (execOp ρ o).run P w = .ok (.value c) w)
    (hr : Rely P ops I w0 a0 R rest ((o.dst, Is c) :: K) Gs Js) : Rely P ops I w0 a0 R (o :: rest) K Gs Js :=
  rely_is c (fun a w hI hF => det_plain hg (hrun _ w (hu _ w (hF s (looksN hop (by simp)))) (hv _ w (hF t (looksN hop (by simp)))) hI)) hr
/-- A call that only makes memory. -/
theorem rely_mk (c : Value) (f : FuncId) (args : Array Value) (hg : o.guard = none)
    (hrun : ∀ (a : Act) (w : World), I w → (∀ t ∈ o.looksAt ops, Fact K a0 t (a.tmps.getD t undef) w) → (execOp a.eval o).run P w = .ok (.enter f args) w)
    (hc : ∀ w, I w → Calls P f args w fun e w' => e = .returned c ∧ Below w.heap.size w w')
    (hr : Rely P ops I w0 a0 R rest ((o.dst, Is c) :: K) Gs Js) : Rely P ops I w0 a0 R (o :: rest) K Gs Js := by
  refine rely_rel (Is c) (stab_is c _) (fun G _ => stab_is c G) hg (fun a w hi hF => ?_) hr
  unfold Oper.wp
  rw [hrun a w hi hF]
  simp only [Oper.upon]
  refine (hc w hi).mono fun e w' ⟨he, hb⟩ => ?_
  subst he
  exact ⟨c, rfl, rfl, hb⟩
theorem wanted_true {a : Act} {j : Nat} {g : Tmp} (hg : o.guard = some (j, true)) (hd : ((ops[j]?).bind (·.dst)) = some g) (hv : a.tmps.getD g undef = .bool true) : Region.wanted o (yielded ops a.tmps) = true := by
  unfold Region.wanted
  rw [hg]
  simp only [yielded, hd, Option.bind_some]
  rw [Array.getD_eq_getD_getElem?] at hv
  cases h : a.tmps[g]? with
  | none => rw [h] at hv; cases hv
  | some v => rw [h] at hv; simp only [Option.getD_some] at hv; subst hv; rfl
theorem looksG {j : Nat} {b : Bool} {g : Tmp} (hg : o.guard = some (j, b)) (hd : ((ops[j]?).bind (·.dst)) = some g) : g ∈ o.looksAt ops := by
  unfold Oper.looksAt
  rw [hg]
  simp [hd]
theorem rely_plain (c : Value) (hg : o.guard = none)
    (hrun : ∀ (a : Act) (w : World), I w → (∀ t ∈ o.looksAt ops, Fact K a0 t (a.tmps.getD t undef) w) → (execOp a.eval o).run P w = .ok (.value c) w)
    (hr : Rely P ops I w0 a0 R rest ((o.dst, Is c) :: K) Gs Js) : Rely P ops I w0 a0 R (o :: rest) K Gs Js :=
  rely_is c (fun a w hI hF => det_plain hg (hrun a w hI hF)) hr
/-- One under a guard that holds. -/
theorem rely_isg (c : Value) (j : Nat) (g : Tmp) (hg : o.guard = some (j, true)) (hd : ((ops[j]?).bind (·.dst)) = some g) (hgf : ∀ v w, Fact K a0 g v w → v = .bool true)
    (hrun : ∀ (a : Act) (w : World), I w → (∀ t ∈ o.looksAt ops, Fact K a0 t (a.tmps.getD t undef) w) → (execOp a.eval o).run P w = .ok (.value c) w)
    (hr : Rely P ops I w0 a0 R rest ((o.dst, Is c) :: K) Gs Js) : Rely P ops I w0 a0 R (o :: rest) K Gs Js :=
  rely_is c (fun a w hI hF => .inl ⟨wanted_true hg hd (hgf _ w (hF g (looksG hg hd))), hrun a w hI hF⟩) hr
/-- One that makes memory, under a guard that holds. -/
theorem rely_relg (S : Spec) (hS : Stab S Grow) (hG : ∀ G ∈ Gs, Stab S G) (j : Nat) (g : Tmp) (hg : o.guard = some (j, true)) (hd : ((ops[j]?).bind (·.dst)) = some g) (hgf : ∀ v w, Fact K a0 g v w → v = .bool true)
    (h : ∀ a w, I w → (∀ t ∈ o.looksAt ops, Fact K a0 t (a.tmps.getD t undef) w) → o.wp P a w (fun a' w' => ∃ v, a' = a.put o.dst v ∧ S v w' ∧ Grow w w') (fun _ _ _ => False))
    (hr : Rely P ops I w0 a0 R rest ((o.dst, S) :: K) Gs Js) : Rely P ops I w0 a0 R (o :: rest) K Gs Js :=
  .inl ⟨S, hS, hG, fun a w hI _ hF => by rw [if_pos (wanted_true hg hd (hgf _ w (hF g (looksG hg hd))))]; exact h a w hI hF, hr⟩
/-- A call whose arguments may lie anywhere, under a guard that holds. -/
theorem rely_callg (S : Spec) (hS : Stab S Grow) (hG : ∀ G ∈ Gs, Stab S G) (j : Nat) (g : Tmp) (hg : o.guard = some (j, true)) (hd : ((ops[j]?).bind (·.dst)) = some g) (hgf : ∀ v w, Fact K a0 g v w → v = .bool true)
    (h : ∀ (a : Act) (w : World), I w → (∀ t ∈ o.looksAt ops, Fact K a0 t (a.tmps.getD t undef) w) → ∃ f args, (execOp a.eval o).run P w = .ok (.enter f args) w ∧ Calls P f args w fun e w' => ∃ v, e = .returned v ∧ S v w' ∧ Below w.heap.size w w')
    (hr : Rely P ops I w0 a0 R rest ((o.dst, S) :: K) Gs Js) : Rely P ops I w0 a0 R (o :: rest) K Gs Js := by
  refine rely_relg S hS hG j g hg hd hgf (fun a w hi hF => ?_) hr
  obtain ⟨f, args, hrun, hc⟩ := h a w hi hF
  unfold Oper.wp
  rw [hrun]
  simp only [Oper.upon]
  refine hc.mono fun e w' ⟨v, he, h1, h2⟩ => ?_
  subst he
  exact ⟨v, rfl, h1, h2⟩
end
end Reg
end Go.Proofs.Ytbpakckiglgjfaa
