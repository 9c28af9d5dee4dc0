
/- The stage's theorem on leases: the law at every length and every script. No condition. -/
import Derived.Test.YtppkfpphefonoaaFairL
namespace Go.Proofs.Ytppkfpphefonoaa
open Go.RowKit Lea Go.Maps
set_option linter.unusedVariables false
set_option maxRecDepth 100000 in
theorem fair_out (W : World) (len : Int) (v : Value) (n : Nat) (sx : Nat → StepV) (hv : Script W v n sx) (hb : 300 < n ∨ len < 1 ∨ 4294967296 < len) :
    Calls Try.prog 4 #[.int .i64 len, v] W fun e w' => e = .returned (.bool true) ∧ Below W.heap.size W w' := by
  have hmm := @run_makeMap Try.prog
  obtain ⟨p, cap, rfl, hS⟩ := hv
  clear hS
  by_cases hn : 300 < n
  · clear hb
    go_enter Try.func4, Try.ntmps4
    go_wp2_with (go_at_call 11; ((with_reducible refine (works_any _).mono ?_); rintro e w9 ⟨rfl, hb9⟩))
    go_ret
    exact ⟨rfl, hb9⟩
  · have hn' : n ≤ 300 := by omega
    by_cases h1 : len < 1
    · clear hb hn
      go_enter Try.func4, Try.ntmps4
      go_wp2_with (go_at_call 11; ((with_reducible refine (works_any _).mono ?_); rintro e w9 ⟨rfl, hb9⟩))
      go_ret
      exact ⟨rfl, hb9⟩
    · have h2 : 4294967296 < len := by omega
      have h3 : 1 ≤ len := by omega
      clear hb hn h1
      go_enter Try.func4, Try.ntmps4
      go_wp2_with (go_at_call 11; ((with_reducible refine (works_any _).mono ?_); rintro e w9 ⟨rfl, hb9⟩))
      go_ret
      exact ⟨rfl, hb9⟩
theorem fair_law (W : World) (len : Int) (v : Value) (n : Nat) (sx : Nat → StepV) (hv : Script W v n sx) (hw : ∀ i, i < n → (Lit.int .i64 (sx i).w).wf = true ∧ (Lit.int .u64 (sx i).inc).wf = true) :
    Calls Try.prog 4 #[.int .i64 len, v] W fun e w' => e = .returned (.bool true) ∧ Below W.heap.size W w' := by
  by_cases hb : 300 < n ∨ len < 1 ∨ 4294967296 < len
  · exact fair_out W len v n sx hv hb
  · exact fair_run W len (by omega) (by omega) v n sx hv hw (by omega)
set_option maxRecDepth 100000 in
theorem fair_open {H : Type} {enc : TypeId × Value → H} {W : World} {base : Nat} {held : Bool} {r : Reach} {b0 : Nat} {d : DataW H} {ps : List MemPlace} (len : Int) {v : Value}
    (hval : Value.okWide Try.prog W r b0 22 v) (hd : DataW.Trod enc Try.prog W base (fun _ => true) held 22 v d ps) (_ : ∀ x ∈ ps, x.block < W.heap.size) :
    Calls Try.prog 4 #[.int .i64 len, v] W fun e w' => e = .returned (.bool true) ∧ Below W.heap.size W w' := by
  obtain ⟨n, sx, h, hw⟩ := open_script2 hval hd
  exact fair_law W len v n sx h hw
end Go.Proofs.Ytppkfpphefonoaa
