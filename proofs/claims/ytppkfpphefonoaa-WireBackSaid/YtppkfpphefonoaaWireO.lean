/- Texts' bytes tell the texts: the law, of any arguments. No condition. -/
import Derived.Test.YtppkfpphefonoaaWireQ
namespace Go.Proofs.Ytppkfpphefonoaa
open Go.RowKit Wire
set_option linter.unusedVariables false
set_option maxRecDepth 100000 in
set_option maxHeartbeats 1000000 in
theorem wapart_law (W : World) {n1 n2 : Nat} {x y : Nat → ByteArray} {v1 v2 : Value} (h1 : Slic W v1 n1 fun i => .string (x i)) (h2 : Slic W v2 n2 fun i => .string (y i)) :
    Calls Try.prog 8 #[v1, v2] W fun e w' => e = .returned (.bool true) ∧ Below W.heap.size W w' := by
  by_cases hn : n1 ≤ 60 ∧ n2 ≤ 60
  · exact wapart_run W h1 h2 hn.1 hn.2
  · have hor : 60 < n1 ∨ (n1 ≤ 60 ∧ 60 < n2) := by omega
    clear hn
    obtain ⟨p1, cap1, rfl, hS1⟩ := h1
    obtain ⟨p2, cap2, rfl, hS2⟩ := h2
    clear hS1 hS2
    rcases hor with h | ⟨h, g⟩
    all_goals go_enter Try.func8, Try.ntmps8
    all_goals go_wp2_with (go_at_call 26; ((with_reducible refine (alive_any _).mono ?_); rintro e w9 ⟨rfl, hb9⟩))
    all_goals go_ret
    all_goals exact ⟨rfl, hb9⟩
set_option maxRecDepth 100000 in
theorem wapart_open {H : Type} {enc : TypeId × Value → H} {W : World} {r : Reach} {b0 : Nat} {v1 v2 : Value} {d1 d2 : DataW H} {p1 p2 : List MemPlace}
    (o1 : Value.okWide Try.prog W r b0 59 v1) (r1 : DataW.Trod enc Try.prog W 0 (fun _ => true) true 59 v1 d1 p1) (_ : ∀ x ∈ p1, x.block < W.heap.size)
    (o2 : Value.okWide Try.prog W r b0 59 v2) (r2 : DataW.Trod enc Try.prog W 0 (fun _ => true) true 59 v2 d2 p2) (_ : ∀ x ∈ p2, x.block < W.heap.size) :
    Calls Try.prog 8 #[v1, v2] W fun e w' => e = .returned (.bool true) ∧ Below W.heap.size W w' := by
  obtain ⟨n1, x1, a1, _⟩ := open_strs' (e := 9) Try.underlying59 Try.underlying9 (by kernel_rfl) o1 r1
  obtain ⟨n2, x2, a2, _⟩ := open_strs' (e := 9) Try.underlying59 Try.underlying9 (by kernel_rfl) o2 r2
  exact wapart_law W a1 a2
end Go.Proofs.Ytppkfpphefonoaa
