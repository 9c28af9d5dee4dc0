import Derived.Test.YtgdgonmhgpflcaaRpdI

/- RpcCalls: its arguments opened out of their readings. No condition. -/
namespace Go.Proofs.Ytgdgonmhgpflcaa
open Go.RowKit Wire Rp
open Go.ChangeShapes Go.WideShapes Go.Deep
set_option linter.unusedVariables false
set_option maxRecDepth 100000 in
theorem calls_w {H : Type} {enc : TypeId × Value → H} {W : World} {base base2 : Nat} {held held2 : Bool} {r r2 : Reach} {b0 b2 : Nat} {v u : Value} {d d2 : DataW H} {ps ps2 : List MemPlace} (inc : Int)
    (hval : Value.okWide Try.prog W r b0 73 v) (hd : DataW.Trod enc Try.prog W base (fun _ => true) held 73 v d ps) (lt : ∀ x ∈ ps, x.block < W.heap.size)
    (hval2 : Value.okWide Try.prog W r2 b2 85 u) (hd2 : DataW.Trod enc Try.prog W base2 (fun _ => true) held2 85 u d2 ps2) (lt2 : ∀ x ∈ ps2, x.block < W.heap.size) :
    Calls Try.prog 7 #[.int .u64 inc, v, u] W fun e w' => e = .returned (.bool true) ∧ Below W.heap.size W w' := by
  obtain ⟨a, b, c, rfl, _⟩ := open_conf hval hd
  obtain ⟨n, sx, hs⟩ := open_scriptR hval2 hd2
  exact calls_t inc a b c hs
end Go.Proofs.Ytgdgonmhgpflcaa
