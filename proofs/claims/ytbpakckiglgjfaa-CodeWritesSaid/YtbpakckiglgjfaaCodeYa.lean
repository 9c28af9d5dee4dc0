
/- The law 'CodeWrites' at a program that came in. No condition. -/
import Derived.Test.YtbpakckiglgjfaaCodeWa
import Derived.Test.YtbpakckiglgjfaaCodeXa
namespace Go.Proofs.Ytbpakckiglgjfaa
open Go.RowKit Cd
set_option linter.unusedVariables false
set_option maxRecDepth 100000 in
theorem cwrites_open {H : Type} {enc : TypeId × Value → H} {W : World} {base : Nat} {held : Bool} {r : Reach} {b0 : Nat} {d : DataW H} {ps : List MemPlace} {v : Value}
    (hval : Value.okWide Try.prog W r b0 24 v) (hd : DataW.Trod enc Try.prog W base (fun _ => true) held 24 v d ps) (_ : ∀ x ∈ ps, x.block < W.heap.size) :
    Calls Try.prog 3 #[v] W fun e w' => e = .returned (.bool true) ∧ Below W.heap.size W w' := by
  obtain ⟨u, l, rfl, hv, ho⟩ := open_prog hval hd
  exact cwrites_run hv ho
end Go.Proofs.Ytbpakckiglgjfaa
