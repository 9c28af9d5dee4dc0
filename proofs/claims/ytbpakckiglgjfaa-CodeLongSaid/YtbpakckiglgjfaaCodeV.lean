
/- The walk of the program's reader of an op: 'read'. No condition. -/
import Derived.Test.YtbpakckiglgjfaaCodeT
namespace Go.Proofs.Ytbpakckiglgjfaa
open Go.RowKit Cd Wire
set_option linter.unusedVariables false
namespace Cd
/-- A reader's state. -/
structure RS where
  s : ByteArray
  e : Int
def uV (most : Int) (r : RS) : Int := numV r.s r.e (uC r.s most)
def uS (most : Int) (r : RS) : RS := ⟨numS r.s r.e (uC r.s most), numE r.s r.e (uC r.s most)⟩
def cV (most : Int) (r : RS) : Int := numV r.s r.e (cC r.s most)
def cS (most : Int) (r : RS) : RS := ⟨numS r.s r.e (cC r.s most), numE r.s r.e (cC r.s most)⟩
def iV (r : RS) : Int := Num.zag (numV r.s r.e (iC r.s (-9223372036854775808) 9223372036854775807))
def iS (r : RS) : RS := ⟨numS r.s r.e (iC r.s (-9223372036854775808) 9223372036854775807), numE r.s r.e (iC r.s (-9223372036854775808) 9223372036854775807)⟩
theorem uV_range {most : Int} {r : RS} (h : 0 ≤ most) : 0 ≤ uV most r ∧ uV most r ≤ most := by
  have h0 := (numV_U64 r.s r.e (uC r.s most)).1
  refine ⟨h0, ?_⟩
  unfold uV numV
  split
  · rename_i hc
    have := hc.2.2
    unfold uC xI at this
    split at this
    · omega
    · omega
  · exact h
theorem cV_range {most : Int} {r : RS} (h : 0 ≤ most) : 0 ≤ cV most r ∧ cV most r ≤ most := by
  have h0 := (numV_U64 r.s r.e (cC r.s most)).1
  refine ⟨h0, ?_⟩
  unfold cV numV
  split
  · rename_i hc
    have := hc.2.2
    unfold cC cntC xI at this
    split at this
    · omega
    · rename_i h2; omega
  · exact h
def setE (o : OpV) (j : Nat) (x : Int) : OpV := if j = 0 then { o with d := x } else if j = 1 then { o with a := x } else { o with b := x }
def hasE (k : Int) (j : Nat) : Bool := if j = 0 then kd k else if j = 1 then ka k else kb k
/-- What has been read of an op when its kind and j of its parts are. -/
def ptS (r : RS) : Nat → RS
  | 0 => uS 255 r
  | j + 1 => if hasE (uV 255 r) j = true then uS 16 (ptS r j) else ptS r j
def ptF (r : RS) : Nat → OpV
  | 0 => ⟨uV 255 r, 0, 0, 0, 0⟩
  | j + 1 => if hasE (uV 255 r) j = true then setE (ptF r j) j (uV 16 (ptS r j)) else ptF r j
def roS (r : RS) : RS := if kn (uV 255 r) = true then iS (ptS r 3) else ptS r 3
def roV (r : RS) : OpV := if kn (uV 255 r) = true then { ptF r 3 with n := iV (ptS r 3) } else ptF r 3
def roB (r : RS) : Bool := known (uV 255 r) && ((roS r).e == 0)
theorem setE_k (o : OpV) (j : Nat) (x : Int) : (setE o j x).k = o.k := by unfold setE; split; rfl; split <;> rfl
theorem ptF_k (r : RS) (j : Nat) : (ptF r j).k = uV 255 r := by
  induction j with
  | zero => rfl
  | succ j ih => unfold ptF; split; rw [setE_k]; exact ih; exact ih
theorem ptF_n (r : RS) (j : Nat) : (ptF r j).n = 0 := by
  induction j with
  | zero => rfl
  | succ j ih => unfold ptF; split; unfold setE; split; exact ih; split <;> exact ih; exact ih
theorem opA_setE (o : OpV) {j : Nat} (h : j < 3) (x : Int) : (opA o).setIfInBounds (j + 1) (.int .i64 x) = opA (setE o j x) := by
  have : j = 0 ∨ j = 1 ∨ j = 2 := by omega
  rcases this with rfl | rfl | rfl <;> rfl
end Cd
end Go.Proofs.Ytbpakckiglgjfaa
