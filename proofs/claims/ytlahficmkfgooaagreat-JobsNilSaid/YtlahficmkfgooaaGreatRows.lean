/-
  No cell of these rows narrows 'for every input' (looked for: loops, veiled, ifaces, maps, wideKeys, modest, calm, conditions, laid).
  DERIVED. THE GIVEN ROWS OF THIS SEAT. 4 by the template 'for every input the law returns true; each argument reads behind the call as it read before'; 0 by the template 'total and deterministic' (their statements: YtlahficmkfgooaaGreatTotals.lean).
  GIVEN WITH THE SEED: the statements are not yours to turn. If you find one false, say at which input.
  Laid BY PROGRAM, IN A SANDBOX (cutbox-rows.mjs): the forced cells as the released guide's own fill.sh prints them over the translation 630780d532ac7f40… (all of the seat's roots in one cut). By AI agents, Wed Nov 11 2026. No macro, syntax, notation, axiom, sorry.
-/
import Derived.Test.YtlahficmkfgooaaGreatChecked
import GoSem.Claim
import GoSem.ClaimJoined
import GoSem.ClaimMapViews
import Derived.JoinedTies
import Derived.KernelRfl
namespace Go.Proofs.YtlahficmkfgooaaGreat
/- THE CELL 'sum', in the pinned program and in every row, IS THE sha256 OF THE DUMP (.gsa) THAT YtlahficmkfgooaaGreatProg.lean LOADS. Nothing in Lean hashes anything: it is a label: what it is worth is what the hold of that sum in a sandbox is worth. -/
noncomputable def Tryz.pinned : Pinned := { name := "ytlahficmkfgooaagreat", sum := "630780d532ac7f407a5c0373d4c0a748e29d67018aa608d0652f2dbfca0f9d0d", checked := Tryz.checked }
namespace Rows
def none {H : Type} : Left H := { results := [], args := [] }

/-- 'thresherlaw28.JobsBytes': WHATEVER THE INPUT: true; the input reads as it did. -/
def jobsBytesSpec : ChangeSpec := { name := "jobsBytes", fn := fun _ => fun
  | [d1, d2] => { results := [.lit (.bool true)], args := [d1, d2] }
  | _ => none }
def jobsBytesRow : OpenClaim := { program := "ytlahficmkfgooaagreat", sum := "630780d532ac7f407a5c0373d4c0a748e29d67018aa608d0652f2dbfca0f9d0d", func := "thresher/thresherlaw28.JobsBytes", spec := "jobsBytes", inPlace := ["internal/abi.NoEscape"], unfollowed := true, recurses := true, apart := false }
def JobsBytesSaid : Prop := jobsBytesRow.holds Tryz.pinned (OpenSpec.ofChange jobsBytesSpec)

/-- ITS FALSE NEIGHBOUR: 'it returns false'. Refute it at one input. -/
def jobsBytesWrong : ChangeSpec := { name := "jobsBytes", fn := fun _ => fun
  | [d1, d2] => { results := [.lit (.bool false)], args := [d1, d2] }
  | _ => none }
def JobsBytesWrongFalsely : Prop := jobsBytesRow.holds Tryz.pinned (OpenSpec.ofChange jobsBytesWrong)

/-- 'thresherlaw28.JobsNil': WHATEVER THE INPUT: true; the input reads as it did. -/
def jobsNilSpec : ChangeSpec := { name := "jobsNil", fn := fun _ => fun
  | [d] => { results := [.lit (.bool true)], args := [d] }
  | _ => none }
def jobsNilRow : OpenClaim := { program := "ytlahficmkfgooaagreat", sum := "630780d532ac7f407a5c0373d4c0a748e29d67018aa608d0652f2dbfca0f9d0d", func := "thresher/thresherlaw28.JobsNil", spec := "jobsNil", inPlace := ["internal/abi.NoEscape"], unfollowed := true, recurses := true, apart := false }
def JobsNilSaid : Prop := jobsNilRow.holds Tryz.pinned (OpenSpec.ofChange jobsNilSpec)

/-- ITS FALSE NEIGHBOUR: 'it returns false'. Refute it at one input. -/
def jobsNilWrong : ChangeSpec := { name := "jobsNil", fn := fun _ => fun
  | [d] => { results := [.lit (.bool false)], args := [d] }
  | _ => none }
def JobsNilWrongFalsely : Prop := jobsNilRow.holds Tryz.pinned (OpenSpec.ofChange jobsNilWrong)

/-- 'thresherlaw28.JobsPlays': WHATEVER THE INPUT: true; the input reads as it did. -/
def jobsPlaysSpec : ChangeSpec := { name := "jobsPlays", fn := fun _ => fun
  | [d1, d2, d3, d4] => { results := [.lit (.bool true)], args := [d1, d2, d3, d4] }
  | _ => none }
def jobsPlaysRow : OpenClaim := { program := "ytlahficmkfgooaagreat", sum := "630780d532ac7f407a5c0373d4c0a748e29d67018aa608d0652f2dbfca0f9d0d", func := "thresher/thresherlaw28.JobsPlays", spec := "jobsPlays", inPlace := ["internal/abi.NoEscape"], unfollowed := true, recurses := true, apart := false }
def JobsPlaysSaid : Prop := jobsPlaysRow.holds Tryz.pinned (OpenSpec.ofChange jobsPlaysSpec)

/-- ITS FALSE NEIGHBOUR: 'it returns false'. Refute it at one input. -/
def jobsPlaysWrong : ChangeSpec := { name := "jobsPlays", fn := fun _ => fun
  | [d1, d2, d3, d4] => { results := [.lit (.bool false)], args := [d1, d2, d3, d4] }
  | _ => none }
def JobsPlaysWrongFalsely : Prop := jobsPlaysRow.holds Tryz.pinned (OpenSpec.ofChange jobsPlaysWrong)

/-- 'thresherlaw28.JobsOnce': WHATEVER THE INPUT: true; the input reads as it did. -/
def jobsOnceSpec : ChangeSpec := { name := "jobsOnce", fn := fun _ => fun
  | [d1, d2] => { results := [.lit (.bool true)], args := [d1, d2] }
  | _ => none }
def jobsOnceRow : OpenClaim := { program := "ytlahficmkfgooaagreat", sum := "630780d532ac7f407a5c0373d4c0a748e29d67018aa608d0652f2dbfca0f9d0d", func := "thresher/thresherlaw28.JobsOnce", spec := "jobsOnce", inPlace := ["internal/abi.NoEscape"], unfollowed := true, recurses := true, apart := false }
def JobsOnceSaid : Prop := jobsOnceRow.holds Tryz.pinned (OpenSpec.ofChange jobsOnceSpec)

/-- ITS FALSE NEIGHBOUR: 'it returns false'. Refute it at one input. -/
def jobsOnceWrong : ChangeSpec := { name := "jobsOnce", fn := fun _ => fun
  | [d1, d2] => { results := [.lit (.bool false)], args := [d1, d2] }
  | _ => none }
def JobsOnceWrongFalsely : Prop := jobsOnceRow.holds Tryz.pinned (OpenSpec.ofChange jobsOnceWrong)

/- THE SECOND FORM. 'bulk': how many values and letters a reading holds, each counted each time it is reached (what is shared counts as often as it is met; a slice's spare places count too). A statement '..UptoSaid' is the law's where the arguments, and the package variables that the reading takes, are together of bulk at most 1048576: NARROWER than '..Said'. Prove '..Said' where nothing that the law and all that it calls make is longer than what came in: it says more and counts as full. Else prove '..UptoSaid'. A law counts once. -/
mutual
def uptoBulk {H : Type} : DataW H → Nat
  | .lit (.string bytes) => bytes.length + 1
  | .lit _ => 1
  | .nil => 1
  | .ptr d => uptoBulk d + 1
  | .slice elems spare => uptoBulkAll elems + uptoBulkAll spare + 1
  | .agg parts => uptoBulkAll parts + 1
  | .iface _ d => uptoBulk d + 1
  | .map entries => uptoBulkEntries entries + 1
  | .held _ => 1
def uptoBulkAll {H : Type} : List (DataW H) → Nat
  | [] => 0
  | d :: r => uptoBulk d + uptoBulkAll r
def uptoBulkEntries {H : Type} : List (Lit × DataW H) → Nat
  | [] => 0
  | x :: r => uptoBulkEntry x + uptoBulkEntries r
def uptoBulkEntry {H : Type} : Lit × DataW H → Nat
  | (.string bytes, d) => bytes.length + uptoBulk d + 1
  | (_, d) => uptoBulk d + 1
 end
def uptoSmall : (H : Type) → List (DataW H) → Bool := fun _ ds => decide (uptoBulkAll ds ≤ 1048576)
def OpenSpec.upto (s : _root_.Go.ChangeSpec) : _root_.Go.OpenSpec := { _root_.Go.OpenSpec.ofChange s with cond := some uptoSmall }

/-- 'thresherlaw28.JobsBytes', WHERE WHAT IT READS IS OF BULK AT MOST 1048576: true; the input reads as it did. -/
def jobsBytesUptoRow : OpenClaim := { program := "ytlahficmkfgooaagreat", sum := "630780d532ac7f407a5c0373d4c0a748e29d67018aa608d0652f2dbfca0f9d0d", func := "thresher/thresherlaw28.JobsBytes", spec := "jobsBytes", inPlace := ["internal/abi.NoEscape"], unfollowed := true, recurses := true, apart := false, narrowed := true }
def JobsBytesUptoSaid : Prop := jobsBytesUptoRow.holds Tryz.pinned (OpenSpec.upto jobsBytesSpec)

/-- 'thresherlaw28.JobsNil', WHERE WHAT IT READS IS OF BULK AT MOST 1048576: true; the input reads as it did. -/
def jobsNilUptoRow : OpenClaim := { program := "ytlahficmkfgooaagreat", sum := "630780d532ac7f407a5c0373d4c0a748e29d67018aa608d0652f2dbfca0f9d0d", func := "thresher/thresherlaw28.JobsNil", spec := "jobsNil", inPlace := ["internal/abi.NoEscape"], unfollowed := true, recurses := true, apart := false, narrowed := true }
def JobsNilUptoSaid : Prop := jobsNilUptoRow.holds Tryz.pinned (OpenSpec.upto jobsNilSpec)

/-- 'thresherlaw28.JobsPlays', WHERE WHAT IT READS IS OF BULK AT MOST 1048576: true; the input reads as it did. -/
def jobsPlaysUptoRow : OpenClaim := { program := "ytlahficmkfgooaagreat", sum := "630780d532ac7f407a5c0373d4c0a748e29d67018aa608d0652f2dbfca0f9d0d", func := "thresher/thresherlaw28.JobsPlays", spec := "jobsPlays", inPlace := ["internal/abi.NoEscape"], unfollowed := true, recurses := true, apart := false, narrowed := true }
def JobsPlaysUptoSaid : Prop := jobsPlaysUptoRow.holds Tryz.pinned (OpenSpec.upto jobsPlaysSpec)

/-- 'thresherlaw28.JobsOnce', WHERE WHAT IT READS IS OF BULK AT MOST 1048576: true; the input reads as it did. -/
def jobsOnceUptoRow : OpenClaim := { program := "ytlahficmkfgooaagreat", sum := "630780d532ac7f407a5c0373d4c0a748e29d67018aa608d0652f2dbfca0f9d0d", func := "thresher/thresherlaw28.JobsOnce", spec := "jobsOnce", inPlace := ["internal/abi.NoEscape"], unfollowed := true, recurses := true, apart := false, narrowed := true }
def JobsOnceUptoSaid : Prop := jobsOnceUptoRow.holds Tryz.pinned (OpenSpec.upto jobsOnceSpec)

end Rows
end Go.Proofs.YtlahficmkfgooaaGreat
