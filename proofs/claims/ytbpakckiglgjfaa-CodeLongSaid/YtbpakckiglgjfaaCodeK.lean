
/- The walk of the statements' own example: 'alive'. No condition. -/
import Derived.Test.YtbpakckiglgjfaaCodeJ
import Derived.Test.YtbpakckiglgjfaaCodeG
import Derived.Test.YtbpakckiglgjfaaCodeU
namespace Go.Proofs.Ytbpakckiglgjfaa
open Go.RowKit Cd Wire
set_option linter.unusedVariables false
namespace Cd
def ex : List FunV := [⟨1, 2, [⟨1, 1, 0, 0, -1⟩, ⟨14, 0, 1, 0, 0⟩]⟩]
def ex2 : List FunV := [⟨0, 17, []⟩]
def exS : ByteArray := ⟨#[1, 1, 1, 2, 2, 1, 1, 1, 14, 1]⟩
theorem ex_enc : encV ex = exS := by kernel_rfl
theorem ex_encC : encC ex = 0 := by kernel_rfl
theorem ex_may : mayB ex = true := by kernel_rfl
theorem ex2_may : mayB ex2 = false := by kernel_rfl
theorem ex_dec : dec exS = (ex, 0) := by kernel_rfl
theorem ex_dec2 : dec ⟨#[2, 0]⟩ = ([], 100) := by kernel_rfl
theorem ex_dec3 : dec ⟨#[1, 1, 1, 2, 2, 1, 1, 1, 14, 1, 0]⟩ = ([], 8) := by kernel_rfl
theorem ex_lim : Lim ex := ⟨by decide, fun f hf => by simp [ex] at hf; subst hf; decide⟩
theorem ex2_lim : Lim ex2 := ⟨by decide, fun f hf => by simp [ex2] at hf; subst hf; decide⟩
theorem ex_ok : OkP ex := fun f hf => by
  simp only [ex, List.mem_singleton] at hf
  subst hf
  refine ⟨by unfold I64; decide, by unfold I64; decide, fun o ho => ?_⟩
  simp only [List.mem_cons, List.mem_nil_iff, or_false] at ho
  rcases ho with rfl | rfl <;> (unfold OkO U8 I64; decide)
theorem ex2_ok : OkP ex2 := fun f hf => by
  simp only [ex2, List.mem_singleton] at hf
  subst hf
  exact ⟨by unfold I64; decide, by unfold I64; decide, fun o ho => by simp at ho⟩
theorem ex_self : decide (ex = ex) = true := decide_eq_true rfl
end Cd
theorem ex_at {w : World} {g h : Nat} {T U : TypeId} (h1 : Blk w g T #[.int .u8 1, .int .i64 1, .int .i64 0, .int .i64 0, .int .i64 (-1), .int .u8 14, .int .i64 0, .int .i64 1, .int .i64 0, .int .i64 0]) (h2 : Blk w h U #[.int .i64 1, .int .i64 2, .slice (some ⟨g, 0, none⟩) 2 2]) :
    FunsAt w (.slice (some ⟨h, 0, none⟩) 1 1) ex := by
  refine ⟨_, 1, rfl, fun _ => ⟨h, 0, rfl, h2.lt, fun i hi => ?_⟩⟩
  have : i = 0 := by simp [ex] at hi; exact hi
  subst this
  refine ⟨h2.cell 0, h2.cell 1, _, h2.cell 2, _, 2, rfl, fun _ => ⟨g, 0, rfl, h1.lt, fun i hi j hj => ?_⟩⟩
  have hi' : i = 0 ∨ i = 1 := by simp [ex] at hi; omega
  rw [h1.cell]
  have hj' : j = 0 ∨ j = 1 ∨ j = 2 ∨ j = 3 ∨ j = 4 := by omega
  rcases hi' with rfl | rfl <;> rcases hj' with rfl | rfl | rfl | rfl | rfl <;> rfl
theorem ex2_at {w : World} {h : Nat} {U : TypeId} (h2 : Blk w h U #[.int .i64 0, .int .i64 17, .slice none 0 0]) : FunsAt w (.slice (some ⟨h, 0, none⟩) 1 1) ex2 := by
  refine ⟨_, 1, rfl, fun _ => ⟨h, 0, rfl, h2.lt, fun i hi => ?_⟩⟩
  have : i = 0 := by simp [ex2] at hi; exact hi
  subst this
  exact ⟨h2.cell 0, h2.cell 1, _, h2.cell 2, _, 0, rfl, fun h => by simp [ex2] at h⟩
end Go.Proofs.Ytbpakckiglgjfaa
