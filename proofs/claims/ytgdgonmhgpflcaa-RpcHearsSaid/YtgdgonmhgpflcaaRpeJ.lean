import Derived.Test.YtgdgonmhgpflcaaRpeI

/- RpcHears: its argument opened out of its reading. No condition. -/
namespace Go.Proofs.Ytgdgonmhgpflcaa
open Go.RowKit Wire Rp
open Go.ChangeShapes Go.WideShapes Go.Deep
set_option linter.unusedVariables false
set_option maxRecDepth 100000 in
theorem hears_w {H : Type} {enc : TypeId × Value → H} {W : World} {base : Nat} {held : Bool} {r : Reach} {b0 : Nat} {v : Value} {d : DataW H} {ps : List MemPlace}
    (hval : Value.okWide Try.prog W r b0 36 v) (hd : DataW.Trod enc Try.prog W base (fun _ => true) held 36 v d ps) (lt : ∀ x ∈ ps, x.block < W.heap.size) :
    Calls Try.prog 4 #[v] W fun e w' => e = .returned (.bool true) ∧ Below W.heap.size W w' := by
  obtain ⟨n, sx, hs⟩ := open_hears hval hd
  exact hears_t hs
end Go.Proofs.Ytgdgonmhgpflcaa
