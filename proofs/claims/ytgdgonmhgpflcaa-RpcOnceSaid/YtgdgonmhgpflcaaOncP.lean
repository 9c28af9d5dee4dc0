import Derived.Test.YtgdgonmhgpflcaaOncO

/- RpcOnce: its argument opened out of its reading. No condition. -/
namespace Go.Proofs.Ytgdgonmhgpflcaa
open Go.RowKit Wire Rp
open Go.ChangeShapes Go.WideShapes Go.Deep
set_option linter.unusedVariables false
set_option maxRecDepth 100000 in
theorem once_w {H : Type} {enc : TypeId × Value → H} {W : World} {base : Nat} {held : Bool} {r : Reach} {b0 : Nat} {v : Value} {d : DataW H} {ps : List MemPlace}
    (hval : Value.okWide Try.prog W r b0 50 v) (hd : DataW.Trod enc Try.prog W base (fun _ => true) held 50 v d ps) (lt : ∀ x ∈ ps, x.block < W.heap.size) :
    Calls Try.prog 5 #[v] W fun e w' => e = .returned (.bool true) ∧ Below W.heap.size W w' := by
  obtain ⟨n, sx, hs⟩ := open_acts hval hd
  exact once_t hs
end Go.Proofs.Ytgdgonmhgpflcaa
