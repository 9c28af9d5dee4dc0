/- What nothing answers, of leases: the walk. No condition. -/
import Derived.Test.YtppkfpphefonoaaLeaseK
namespace Go.Proofs.Ytppkfpphefonoaa
open Go.RowKit Lea
set_option linter.unusedVariables false
set_option maxRecDepth 100000 in
set_option maxHeartbeats 4000000 in
theorem none_law (n inc now : Int) (w : World) : Calls Try.prog 5 #[.int .i64 n, .int .u64 inc, .int .i64 now] w fun e w' => e = .returned (.bool true) ∧ Below w.heap.size w w' := by
  have hrfl := Below.refl w.heap.size w
  go_enter Try.func5, Try.ntmps5
  go_wp2_with (first | (go_at_call 13; ((with_reducible refine (join_nil _ _ _).mono ?_); rintro e w' ⟨rfl, rfl⟩)) | (go_at_call 15; ((with_reducible refine (beat_nil _ _ _).mono ?_); rintro e w' ⟨rfl, rfl⟩)) | (go_at_call 17; ((with_reducible refine (expire_nil _).mono ?_); rintro e w' ⟨rfl, rfl⟩)) | (go_at_call 24; ((with_reducible refine (alive_nil _).mono ?_); rintro e w' ⟨rfl, rfl⟩)) | (go_at_call 20; ((with_reducible refine (leave_nil _).mono ?_); rintro e w' ⟨rfl, rfl⟩)) | (go_at_call 22; ((with_reducible refine (rows_nil).mono ?_); rintro e w' ⟨rfl, rfl⟩)) | (go_at_call 11; ((with_reducible refine (works_any _).mono ?_); rintro e w9 ⟨rfl, hb9⟩)))
  go_ret
  refine ⟨rfl, ?_⟩
  exact (Only.of_below (S := fun _ => False) (hrfl.alloc (Nat.le_refl _) _) |>.trans (Only.of_below hb9)).below (Nat.le_refl _) (fun _ h => h.elim)
end Go.Proofs.Ytppkfpphefonoaa
