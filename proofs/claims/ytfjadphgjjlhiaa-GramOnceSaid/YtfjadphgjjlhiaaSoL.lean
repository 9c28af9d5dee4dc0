
/- The library contracts of bits.Len, nextPowerOfTwo and xorshift.Next, laid at this program: each body is the kernel comparison. No condition. -/
import Derived.Test.YtfjadphgjjlhiaaRows
import Derived.Shelf.Sort.Plain
import Derived.Sort.LotD5
namespace Go.Proofs.Ytfjadphgjjlhiaa
open Go.RowKit Go.Shelf
set_option linter.unusedVariables false
namespace Sol
/-- The library's numbers at this program. -/
def ren : Ren := ⟨fun n => if n = 125 then 44 else if n = 128 then 54 else if n = 129 then 55 else if n = 329 then 57 else if n = 330 then 58 else 0,
  fun n => if n = 0 then 0 else if n = 3 then 3 else if n = 4 then 4 else if n = 5 then 5 else if n = 9 then 9 else if n = 46 then 83 else if n = 51 then 94 else if n = 53 then 29 else if n = 218 then 95 else if n = 228 then 101 else 0, fun n => n⟩
set_option maxRecDepth 100000 in
theorem lays125 : Lays.n125 Try.prog ren where
  mixed := by kernel_rfl
  f125 := by kernel_rfl
  f128 := by kernel_rfl
  f129 := by kernel_rfl
  t3 := by kernel_rfl
  a3 := fun w => by kernel_rfl
  z3 := fun w => by kernel_rfl
  v3 := fun w => by kernel_rfl
  t4 := by kernel_rfl
  a4 := fun w => by kernel_rfl
  z4 := fun w => by kernel_rfl
  v4 := fun w => by kernel_rfl
  t5 := by kernel_rfl
  a5 := fun w => by kernel_rfl
  z5 := fun w => by kernel_rfl
  v5 := fun w => by kernel_rfl
  t9 := by kernel_rfl
  a9 := fun w => by kernel_rfl
  z9 := fun w => by kernel_rfl
  v9 := fun w => by kernel_rfl
  t46 := by kernel_rfl
  a46 := fun w => by kernel_rfl
  z46 := fun w => by kernel_rfl
  v46 := fun w => by kernel_rfl
  t51 := by kernel_rfl
  a51 := fun w => by kernel_rfl
  z51 := fun w => by kernel_rfl
  v51 := fun w => by kernel_rfl
  t53 := by kernel_rfl
  a53 := fun w => by kernel_rfl
  z53 := fun w => by kernel_rfl
  v53 := fun w => by kernel_rfl
set_option maxRecDepth 100000 in
theorem lays329 : Lays.n329 Try.prog ren where
  mixed := by kernel_rfl
  f125 := by kernel_rfl
  f128 := by kernel_rfl
  f129 := by kernel_rfl
  f329 := by kernel_rfl
  t3 := by kernel_rfl
  a3 := fun w => by kernel_rfl
  z3 := fun w => by kernel_rfl
  v3 := fun w => by kernel_rfl
  t4 := by kernel_rfl
  a4 := fun w => by kernel_rfl
  z4 := fun w => by kernel_rfl
  v4 := fun w => by kernel_rfl
  t5 := by kernel_rfl
  a5 := fun w => by kernel_rfl
  z5 := fun w => by kernel_rfl
  v5 := fun w => by kernel_rfl
  t9 := by kernel_rfl
  a9 := fun w => by kernel_rfl
  z9 := fun w => by kernel_rfl
  v9 := fun w => by kernel_rfl
  t46 := by kernel_rfl
  a46 := fun w => by kernel_rfl
  z46 := fun w => by kernel_rfl
  v46 := fun w => by kernel_rfl
  t51 := by kernel_rfl
  a51 := fun w => by kernel_rfl
  z51 := fun w => by kernel_rfl
  v51 := fun w => by kernel_rfl
  t53 := by kernel_rfl
  a53 := fun w => by kernel_rfl
  z53 := fun w => by kernel_rfl
  v53 := fun w => by kernel_rfl
set_option maxRecDepth 100000 in
theorem lays330 : Lays.n330 Try.prog ren where
  mixed := by kernel_rfl
  f330 := by kernel_rfl
  t0 := by kernel_rfl
  a0 := fun w => by kernel_rfl
  z0 := fun w => by kernel_rfl
  v0 := fun w => by kernel_rfl
  t46 := by kernel_rfl
  a46 := fun w => by kernel_rfl
  z46 := fun w => by kernel_rfl
  v46 := fun w => by kernel_rfl
  t53 := by kernel_rfl
  a53 := fun w => by kernel_rfl
  z53 := fun w => by kernel_rfl
  v53 := fun w => by kernel_rfl
  t218 := by kernel_rfl
  a218 := fun w => by kernel_rfl
  z218 := fun w => by kernel_rfl
  v218 := fun w => by kernel_rfl
  t228 := by kernel_rfl
  a228 := fun w => by kernel_rfl
  z228 := fun w => by kernel_rfl
  v228 := fun w => by kernel_rfl
end Sol
open Go.Sort
theorem xorshift_u {w : World} {s X : Nat} (hX : X < 18446744073709551616) (hc : w.cell? ⟨s, 0, none⟩ = some (.int .u64 X)) (hf : w.frozen? ⟨s, 0, none⟩ = false) :
    Calls Try.prog 58 #[.pointer (some ⟨s, 0, none⟩)] w fun e w' => e = .returned (.int .u64 (xorNextN X : Nat)) ∧ w' = (w.setCell ⟨s, 0, none⟩ (.int .u64 (xorNextN X : Nat))).drewN 3 :=
  calls_of_every_depth fun D => AnyS.xorshift_NextIn Sol.lays330 D s 0 X hX w hc hf
theorem nextPow_u {w : World} {n : Nat} (hn : n < 4611686018427387904) :
    Calls Try.prog 57 #[.int .i64 (n : Int)] w fun e w' => e = .returned (.int .u64 ((1 <<< bitsLen n : Nat) : Int)) ∧ w' = w :=
  calls_of_every_depth fun D => AnyS.nextPowerOfTwoIn Sol.lays329 D n hn w
theorem bitsLen_u {w : World} {n : Nat} (hn : n < 4611686018427387904) :
    Calls Try.prog 44 #[.int .u64 (n : Int)] w fun e w' => e = .returned (.int .i64 (bitsLen n : Nat)) ∧ w' = w := by
  have h := calls_of_every_depth fun D => AnyS.bits_LenIn Sol.lays125 D (n : Int) w (by omega) (by omega)
  rwa [Int.toNat_natCast, bitLen_eq _ (by omega)] at h
end Go.Proofs.Ytfjadphgjjlhiaa
