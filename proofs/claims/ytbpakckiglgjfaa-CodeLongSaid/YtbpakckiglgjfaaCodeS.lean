
/- The walks of the program's writers of programs: an op's bytes. No condition but that the op has its form. -/
import Derived.Test.YtbpakckiglgjfaaCodeQ
import Derived.Test.YtbpakckiglgjfaaWireS
namespace Go.Proofs.Ytbpakckiglgjfaa
open Go.RowKit Cd Wire
set_option linter.unusedVariables false
theorem nil_app (b : ByteArray) : (⟨#[]⟩ : ByteArray) ++ b = b := by apply ByteArray.ext; rw [ByteArray.data_append]; simp
theorem catS1 (g : Nat → ByteArray) : catS g 1 = g 0 := by rw [← catS_succ, catS_zero, nil_app]
theorem catS2 (g : Nat → ByteArray) : catS g 2 = g 0 ++ g 1 := by rw [← catS_succ, catS1]
theorem catS3 (g : Nat → ByteArray) : catS g 3 = g 0 ++ g 1 ++ g 2 := by rw [← catS_succ, catS2]
theorem uints1_any {x : Int} (hx : U64 x) {w : World} {g : Nat} {T : TypeId} (hb : Blk w g T #[.int .u64 x]) :
    Calls Try.prog 21 #[.slice (some ⟨g, 0, none⟩) 1 1] w fun e w' => e = .returned (.string (Num.lebS x)) ∧ Below w.heap.size w w' := by
  have := alls (uints_any (w := w) (v := .slice (some ⟨g, 0, none⟩) 1 1) (n := 1) (x := fun i => x) ⟨_, _, rfl, fun _ => ⟨g, 0, rfl, hb.lt, fun i hi => by
    have := hb.cell i
    rw [Nat.zero_add, this]
    have : i = 0 := by omega
    subst this; rfl⟩⟩ (by decide) (fun i hi => hx))
  exact this.mono fun e w' ⟨h1, h2⟩ => ⟨by rw [h1, catS1], h2⟩
theorem uints2_any {x y : Int} (hx : U64 x) (hy : U64 y) {w : World} {g : Nat} {T : TypeId} (hb : Blk w g T #[.int .u64 x, .int .u64 y]) :
    Calls Try.prog 21 #[.slice (some ⟨g, 0, none⟩) 2 2] w fun e w' => e = .returned (.string (Num.lebS x ++ Num.lebS y)) ∧ Below w.heap.size w w' := by
  have := alls (uints_any (w := w) (v := .slice (some ⟨g, 0, none⟩) 2 2) (n := 2) (x := fun i => if i = 0 then x else y) ⟨_, _, rfl, fun _ => ⟨g, 0, rfl, hb.lt, fun i hi => by
    have := hb.cell i
    rw [Nat.zero_add, this]
    have : i = 0 ∨ i = 1 := by omega
    rcases this with rfl | rfl <;> rfl⟩⟩ (by decide) (fun i hi => by
    have : i = 0 ∨ i = 1 := by omega
    rcases this with rfl | rfl
    · exact hx
    · exact hy))
  exact this.mono fun e w' ⟨h1, h2⟩ => ⟨by rw [h1, catS2]; rfl, h2⟩
theorem uints3_any {x y z : Int} (hx : U64 x) (hy : U64 y) (hz : U64 z) {w : World} {g : Nat} {T : TypeId} (hb : Blk w g T #[.int .u64 x, .int .u64 y, .int .u64 z]) :
    Calls Try.prog 21 #[.slice (some ⟨g, 0, none⟩) 3 3] w fun e w' => e = .returned (.string (Num.lebS x ++ Num.lebS y ++ Num.lebS z)) ∧ Below w.heap.size w w' := by
  have := alls (uints_any (w := w) (v := .slice (some ⟨g, 0, none⟩) 3 3) (n := 3) (x := fun i => if i = 0 then x else if i = 1 then y else z) ⟨_, _, rfl, fun _ => ⟨g, 0, rfl, hb.lt, fun i hi => by
    have := hb.cell i
    rw [Nat.zero_add, this]
    have : i = 0 ∨ i = 1 ∨ i = 2 := by omega
    rcases this with rfl | rfl | rfl <;> rfl⟩⟩ (by decide) (fun i hi => by
    have : i = 0 ∨ i = 1 ∨ i = 2 := by omega
    rcases this with rfl | rfl | rfl
    · exact hx
    · exact hy
    · exact hz))
  exact this.mono fun e w' ⟨h1, h2⟩ => ⟨by rw [h1, catS3]; rfl, h2⟩
theorem ints1_any {x : Int} (hx : I64 x) {w : World} {g : Nat} {T : TypeId} (hb : Blk w g T #[.int .i64 x]) :
    Calls Try.prog 50 #[.slice (some ⟨g, 0, none⟩) 1 1] w fun e w' => e = .returned (.string (intS x)) ∧ Below w.heap.size w w' := by
  have := alls (ints_any (w := w) (v := .slice (some ⟨g, 0, none⟩) 1 1) (n := 1) (x := fun i => x) ⟨_, _, rfl, fun _ => ⟨g, 0, rfl, hb.lt, fun i hi => by
    have := hb.cell i
    rw [Nat.zero_add, this]
    have : i = 0 := by omega
    subst this; rfl⟩⟩ (by decide) (fun i hi => hx))
  exact this.mono fun e w' ⟨h1, h2⟩ => ⟨by rw [h1, catS1], h2⟩
namespace Cd
def isE (o : OpV) (j : Nat) : Bool := if j = 0 then kd o.k else if j = 1 then ka o.k else kb o.k
def nE (o : OpV) (j : Nat) : Int := if j = 0 then o.d else if j = 1 then o.a else o.b
def acc (o : OpV) : Nat → ByteArray
  | 0 => Num.lebS o.k
  | j + 1 => if isE o j = true then acc o j ++ Num.lebS (nE o j) else acc o j
/-- An op's bytes. -/
def opS (o : OpV) : ByteArray := if kn o.k = true then acc o 3 ++ intS o.n else acc o 3
theorem form_reg {o : OpV} (h : formB o = true) (j : Nat) : 0 ≤ nE o j ∧ nE o j ≤ 16 := by
  unfold formB regB at h
  simp only [Bool.and_eq_true, decide_eq_true_eq] at h
  unfold nE
  split
  · omega
  · split <;> omega
theorem app_size (a b : ByteArray) : (a ++ b).size = a.size + b.size := ByteArray.size_append
theorem acc_size {o : OpV} (hk : U8 o.k) (h : formB o = true) (j : Nat) : (acc o j).size ≤ 10 * (j + 1) := by
  induction j with
  | zero => have := lebS_size (x := o.k) (by unfold U8 at hk; omega); simpa [acc] using this
  | succ j ih =>
    have h2 := form_reg h j
    have := lebS_size (x := nE o j) (by omega)
    unfold acc
    split
    · rw [app_size]; omega
    · omega
theorem opS_size {o : OpV} (ho : OkO o) (h : formB o = true) : (opS o).size ≤ 50 := by
  have h1 := acc_size ho.1 h 3
  have h2 := lebS_size (U64_zig ho.2.2.2.2).2
  unfold opS
  split
  · rw [app_size]; unfold intS; omega
  · omega
end Cd
end Go.Proofs.Ytbpakckiglgjfaa
