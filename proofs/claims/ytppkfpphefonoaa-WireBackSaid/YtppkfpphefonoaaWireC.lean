/- What was written is read as itself: the law, of any arguments. No condition. -/
import Derived.Test.YtppkfpphefonoaaWireB
namespace Go.Proofs.Ytppkfpphefonoaa
open Go.RowKit Wire
set_option linter.unusedVariables false
set_option maxRecDepth 100000 in
set_option maxHeartbeats 1000000 in
theorem wback_law (W : World) {n1 n2 n3 : Nat} {x1 x2 : Nat → Int} {x3 : Nat → ByteArray} {v1 v2 v3 : Value} (at0 : Int) (ha0 : 0 ≤ at0) (ha1 : at0 < 65536) (h1 : Slic W v1 n1 fun i => .int .u64 (x1 i)) (h2 : Slic W v2 n2 fun i => .int .i64 (x2 i)) (h3 : Slic W v3 n3 fun i => .string (x3 i))
    (k1 : ∀ i, i < n1 → U64 (x1 i)) (k2 : ∀ i, i < n2 → I64 (x2 i)) :
    Calls Try.prog 7 #[v1, v2, v3, .int .u16 at0] W fun e w' => e = .returned (.bool true) ∧ Below W.heap.size W w' := by
  by_cases hn : n1 ≤ 100 ∧ n2 ≤ 100 ∧ n3 ≤ 100
  · exact wback_run W at0 ha0 ha1 h1 h2 h3 k1 k2 hn.1 hn.2.1 hn.2.2
  · have hor : 100 < n1 ∨ (n1 ≤ 100 ∧ 100 < n2) ∨ (n1 ≤ 100 ∧ n2 ≤ 100 ∧ 100 < n3) := by omega
    clear hn k1 k2
    obtain ⟨p1, cap1, rfl, hS1⟩ := h1
    obtain ⟨p2, cap2, rfl, hS2⟩ := h2
    obtain ⟨p3, cap3, rfl, hS3⟩ := h3
    clear hS1 hS2 hS3
    rcases hor with h | ⟨h, g⟩ | ⟨h, g, i⟩
    all_goals go_enter Try.func7, Try.ntmps7
    all_goals go_wp2_with (go_at_call 26; ((with_reducible refine (alive_any _).mono ?_); rintro e w9 ⟨rfl, hb9⟩))
    all_goals go_ret
    all_goals exact ⟨rfl, hb9⟩
set_option maxRecDepth 100000 in
theorem wback_open {H : Type} {enc : TypeId × Value → H} {W : World} {r : Reach} {b0 : Nat} {v1 v2 v3 : Value} {d1 d2 d3 : DataW H} {p1 p2 p3 : List MemPlace} (at0 : Int)
    (o1 : Value.okWide Try.prog W r b0 57 v1) (r1 : DataW.Trod enc Try.prog W 0 (fun _ => true) true 57 v1 d1 p1) (_ : ∀ x ∈ p1, x.block < W.heap.size)
    (o2 : Value.okWide Try.prog W r b0 58 v2) (r2 : DataW.Trod enc Try.prog W 0 (fun _ => true) true 58 v2 d2 p2) (_ : ∀ x ∈ p2, x.block < W.heap.size)
    (o3 : Value.okWide Try.prog W r b0 59 v3) (r3 : DataW.Trod enc Try.prog W 0 (fun _ => true) true 59 v3 d3 p3) (_ : ∀ x ∈ p3, x.block < W.heap.size) (wa : (Lit.int .u16 at0).wf = true) :
    Calls Try.prog 7 #[v1, v2, v3, .int .u16 at0] W fun e w' => e = .returned (.bool true) ∧ Below W.heap.size W w' := by
  obtain ⟨n1, x1, a1, w1⟩ := open_ints' (k := .u64) (e := 29) Try.underlying57 Try.underlying29 (by kernel_rfl) o1 r1
  obtain ⟨n2, x2, a2, w2⟩ := open_ints' (k := .i64) (e := 2) Try.underlying58 Try.underlying2 (by kernel_rfl) o2 r2
  obtain ⟨n3, x3, a3, _⟩ := open_strs' (e := 9) Try.underlying59 Try.underlying9 (by kernel_rfl) o3 r3
  have hb := bounds_u16 wa
  exact wback_law W at0 hb.1 (by have := hb.2; omega) a1 a2 a3 (fun i hi => wf_U64 (w1 i hi)) (fun i hi => wf_I64 (w2 i hi))
end Go.Proofs.Ytppkfpphefonoaa
