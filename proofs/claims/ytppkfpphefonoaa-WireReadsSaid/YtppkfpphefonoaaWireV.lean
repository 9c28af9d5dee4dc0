/- What a reader answers to any calls: the law, of any arguments. No condition. -/
import Derived.Test.YtppkfpphefonoaaWireU
namespace Go.Proofs.Ytppkfpphefonoaa
open Go.RowKit Wire
set_option linter.unusedVariables false
set_option maxRecDepth 100000 in
set_option maxHeartbeats 1000000 in
theorem wreads_law (W : World) (s0 : ByteArray) (hs0 : s0.size ≤ maxLen) {n : Nat} {ax : Nat → AskV} {v : Value} (hv : Asks W v n ax) :
    Calls Try.prog 9 #[.string s0, v] W fun e w' => e = .returned (.bool true) ∧ Below W.heap.size W w' := by
  by_cases hn : s0.size ≤ 4096 ∧ n ≤ 200
  · exact wreads_run W s0 hv hn.1 hn.2
  · have hor : 4096 < s0.size ∨ (s0.size ≤ 4096 ∧ 200 < n) := by omega
    clear hn
    unfold maxLen at hs0
    obtain ⟨p1, cap1, rfl, hS1⟩ := hv
    clear hS1
    rcases hor with h | ⟨h, g⟩
    all_goals go_enter Try.func9, Try.ntmps9
    all_goals go_wp2_with (go_at_call 26; ((with_reducible refine (alive_any _).mono ?_); rintro e w9 ⟨rfl, hb9⟩))
    all_goals go_ret
    all_goals exact ⟨rfl, hb9⟩
set_option maxRecDepth 100000 in
theorem wreads_open {H : Type} {enc : TypeId × Value → H} {W : World} {r : Reach} {b0 : Nat} {v : Value} {d : DataW H} {p : List MemPlace} (s0 : ByteArray) (hs0 : s0.size ≤ maxLen)
    (o1 : Value.okWide Try.prog W r b0 79 v) (r1 : DataW.Trod enc Try.prog W 0 (fun _ => true) true 79 v d p) (_ : ∀ x ∈ p, x.block < W.heap.size) :
    Calls Try.prog 9 #[.string s0, v] W fun e w' => e = .returned (.bool true) ∧ Below W.heap.size W w' := by
  obtain ⟨n, ax, h⟩ := open_asks o1 r1
  exact wreads_law W s0 hs0 h
end Go.Proofs.Ytppkfpphefonoaa
