/-
  No cell of these rows narrows 'for every input' (looked for: loops, veiled, ifaces, maps, wideKeys, modest, calm, conditions, laid).
  DERIVED. THE GIVEN ROWS OF THIS SEAT. 5 by the template 'for every input the law returns true; each argument reads behind the call as it read before'; 0 by the template 'total and deterministic' (their statements: YtfjadphgjjlhiaaTotals.lean).
  GIVEN WITH THE SEED: the statements are not yours to turn. If you find one false, say at which input.
  Laid BY PROGRAM, IN A SANDBOX (cutbox-rows.mjs): the forced cells as the released guide's own fill.sh prints them over the translation 68a01b77b672c3a1… (all of the seat's roots in one cut). By AI agents, Wed Nov 11 2026. No macro, syntax, notation, axiom, sorry.
-/
import Derived.Test.YtfjadphgjjlhiaaChecked
import GoSem.Claim
import GoSem.ClaimJoined
import GoSem.ClaimMapViews
import Derived.JoinedTies
import Derived.KernelRfl
namespace Go.Proofs.Ytfjadphgjjlhiaa
/- THE CELL 'sum', in the pinned program and in every row, IS THE sha256 OF THE DUMP (.gsa) THAT YtfjadphgjjlhiaaProg.lean LOADS. Nothing in Lean hashes anything: it is a label: what it is worth is what the hold of that sum in a sandbox is worth. -/
noncomputable def Try.pinned : Pinned := { name := "ytfjadphgjjlhiaa", sum := "68a01b77b672c3a1cd1e5d2e1fe211b27b3d679d47ac7a17f501a3829c76cf9a", checked := Try.checked }
namespace Rows
def none {H : Type} : Left H := { results := [], args := [] }

/-- 'thresherlaw09.GramFull': WHATEVER THE INPUT: true; the input reads as it did. -/
def gramFullSpec : ChangeSpec := { name := "gramFull", fn := fun _ => fun
  | [d] => { results := [.lit (.bool true)], args := [d] }
  | _ => none }
def gramFullRow : OpenClaim := { program := "ytfjadphgjjlhiaa", sum := "68a01b77b672c3a1cd1e5d2e1fe211b27b3d679d47ac7a17f501a3829c76cf9a", func := "thresher/thresherlaw09.GramFull", spec := "gramFull", unfollowed := true, recurses := true, plainKeys := false, apart := false }
def GramFullSaid : Prop := gramFullRow.holds Try.pinned (OpenSpec.ofChange gramFullSpec)

/-- ITS FALSE NEIGHBOUR: 'it returns false'. Refute it at one input. -/
def gramFullWrong : ChangeSpec := { name := "gramFull", fn := fun _ => fun
  | [d] => { results := [.lit (.bool false)], args := [d] }
  | _ => none }
def GramFullWrongFalsely : Prop := gramFullRow.holds Try.pinned (OpenSpec.ofChange gramFullWrong)

/-- 'thresherlaw09.GramPlays': WHATEVER THE INPUT: true; the input reads as it did. -/
def gramPlaysSpec : ChangeSpec := { name := "gramPlays", fn := fun _ => fun
  | [d] => { results := [.lit (.bool true)], args := [d] }
  | _ => none }
def gramPlaysRow : OpenClaim := { program := "ytfjadphgjjlhiaa", sum := "68a01b77b672c3a1cd1e5d2e1fe211b27b3d679d47ac7a17f501a3829c76cf9a", func := "thresher/thresherlaw09.GramPlays", spec := "gramPlays", unfollowed := true, recurses := true, plainKeys := false, apart := false }
def GramPlaysSaid : Prop := gramPlaysRow.holds Try.pinned (OpenSpec.ofChange gramPlaysSpec)

/-- ITS FALSE NEIGHBOUR: 'it returns false'. Refute it at one input. -/
def gramPlaysWrong : ChangeSpec := { name := "gramPlays", fn := fun _ => fun
  | [d] => { results := [.lit (.bool false)], args := [d] }
  | _ => none }
def GramPlaysWrongFalsely : Prop := gramPlaysRow.holds Try.pinned (OpenSpec.ofChange gramPlaysWrong)

/-- 'thresherlaw09.GramOnce': WHATEVER THE INPUT: true; the input reads as it did. -/
def gramOnceSpec : ChangeSpec := { name := "gramOnce", fn := fun _ => fun
  | [d] => { results := [.lit (.bool true)], args := [d] }
  | _ => none }
def gramOnceRow : OpenClaim := { program := "ytfjadphgjjlhiaa", sum := "68a01b77b672c3a1cd1e5d2e1fe211b27b3d679d47ac7a17f501a3829c76cf9a", func := "thresher/thresherlaw09.GramOnce", spec := "gramOnce", unfollowed := true, recurses := true, plainKeys := false, apart := false }
def GramOnceSaid : Prop := gramOnceRow.holds Try.pinned (OpenSpec.ofChange gramOnceSpec)

/-- ITS FALSE NEIGHBOUR: 'it returns false'. Refute it at one input. -/
def gramOnceWrong : ChangeSpec := { name := "gramOnce", fn := fun _ => fun
  | [d] => { results := [.lit (.bool false)], args := [d] }
  | _ => none }
def GramOnceWrongFalsely : Prop := gramOnceRow.holds Try.pinned (OpenSpec.ofChange gramOnceWrong)

/-- 'thresherlaw09.GramNone': WHATEVER THE INPUT: true; the input reads as it did. -/
def gramNoneSpec : ChangeSpec := { name := "gramNone", fn := fun _ => fun
  | [d1, d2, d3] => { results := [.lit (.bool true)], args := [d1, d2, d3] }
  | _ => none }
def gramNoneRow : OpenClaim := { program := "ytfjadphgjjlhiaa", sum := "68a01b77b672c3a1cd1e5d2e1fe211b27b3d679d47ac7a17f501a3829c76cf9a", func := "thresher/thresherlaw09.GramNone", spec := "gramNone", unfollowed := true, recurses := true, plainKeys := false, apart := false }
def GramNoneSaid : Prop := gramNoneRow.holds Try.pinned (OpenSpec.ofChange gramNoneSpec)

/-- ITS FALSE NEIGHBOUR: 'it returns false'. Refute it at one input. -/
def gramNoneWrong : ChangeSpec := { name := "gramNone", fn := fun _ => fun
  | [d1, d2, d3] => { results := [.lit (.bool false)], args := [d1, d2, d3] }
  | _ => none }
def GramNoneWrongFalsely : Prop := gramNoneRow.holds Try.pinned (OpenSpec.ofChange gramNoneWrong)

/-- 'thresherlaw09.GramWays': WHATEVER THE INPUT: true; the input reads as it did. -/
def gramWaysSpec : ChangeSpec := { name := "gramWays", fn := fun _ => fun
  | [d1, d2, d3, d4] => { results := [.lit (.bool true)], args := [d1, d2, d3, d4] }
  | _ => none }
def gramWaysRow : OpenClaim := { program := "ytfjadphgjjlhiaa", sum := "68a01b77b672c3a1cd1e5d2e1fe211b27b3d679d47ac7a17f501a3829c76cf9a", func := "thresher/thresherlaw09.GramWays", spec := "gramWays", unfollowed := true, recurses := true, plainKeys := false, apart := false }
def GramWaysSaid : Prop := gramWaysRow.holds Try.pinned (OpenSpec.ofChange gramWaysSpec)

/-- ITS FALSE NEIGHBOUR: 'it returns false'. Refute it at one input. -/
def gramWaysWrong : ChangeSpec := { name := "gramWays", fn := fun _ => fun
  | [d1, d2, d3, d4] => { results := [.lit (.bool false)], args := [d1, d2, d3, d4] }
  | _ => none }
def GramWaysWrongFalsely : Prop := gramWaysRow.holds Try.pinned (OpenSpec.ofChange gramWaysWrong)

/- THE SECOND FORM. 'bulk': how many values and letters a reading holds, each counted each time it is reached (what is shared counts as often as it is met; a slice's spare places count too). A statement '..UptoSaid' is the law's where the arguments, and the package variables that the reading takes, are together of bulk at most 1048576: NARROWER than '..Said'. Prove '..Said' where nothing that the law and all that it calls make is longer than what came in: it says more and counts as full. Else prove '..UptoSaid'. A law counts once. -/
mutual
def uptoBulk {H : Type} : DataW H → Nat
  | .lit (.string bytes) => bytes.length + 1
  | .lit _ => 1
  | .nil => 1
  | .ptr d => uptoBulk d + 1
  | .slice elems spare => uptoBulkAll elems + uptoBulkAll spare + 1
  | .agg parts => uptoBulkAll parts + 1
  | .iface _ d => uptoBulk d + 1
  | .map entries => uptoBulkEntries entries + 1
  | .held _ => 1
def uptoBulkAll {H : Type} : List (DataW H) → Nat
  | [] => 0
  | d :: r => uptoBulk d + uptoBulkAll r
def uptoBulkEntries {H : Type} : List (Lit × DataW H) → Nat
  | [] => 0
  | x :: r => uptoBulkEntry x + uptoBulkEntries r
def uptoBulkEntry {H : Type} : Lit × DataW H → Nat
  | (.string bytes, d) => bytes.length + uptoBulk d + 1
  | (_, d) => uptoBulk d + 1
 end
def uptoSmall : (H : Type) → List (DataW H) → Bool := fun _ ds => decide (uptoBulkAll ds ≤ 1048576)
def OpenSpec.upto (s : _root_.Go.ChangeSpec) : _root_.Go.OpenSpec := { _root_.Go.OpenSpec.ofChange s with cond := some uptoSmall }

/-- 'thresherlaw09.GramFull', WHERE WHAT IT READS IS OF BULK AT MOST 1048576: true; the input reads as it did. -/
def gramFullUptoRow : OpenClaim := { program := "ytfjadphgjjlhiaa", sum := "68a01b77b672c3a1cd1e5d2e1fe211b27b3d679d47ac7a17f501a3829c76cf9a", func := "thresher/thresherlaw09.GramFull", spec := "gramFull", unfollowed := true, recurses := true, plainKeys := false, apart := false, narrowed := true }
def GramFullUptoSaid : Prop := gramFullUptoRow.holds Try.pinned (OpenSpec.upto gramFullSpec)

/-- 'thresherlaw09.GramPlays', WHERE WHAT IT READS IS OF BULK AT MOST 1048576: true; the input reads as it did. -/
def gramPlaysUptoRow : OpenClaim := { program := "ytfjadphgjjlhiaa", sum := "68a01b77b672c3a1cd1e5d2e1fe211b27b3d679d47ac7a17f501a3829c76cf9a", func := "thresher/thresherlaw09.GramPlays", spec := "gramPlays", unfollowed := true, recurses := true, plainKeys := false, apart := false, narrowed := true }
def GramPlaysUptoSaid : Prop := gramPlaysUptoRow.holds Try.pinned (OpenSpec.upto gramPlaysSpec)

/-- 'thresherlaw09.GramOnce', WHERE WHAT IT READS IS OF BULK AT MOST 1048576: true; the input reads as it did. -/
def gramOnceUptoRow : OpenClaim := { program := "ytfjadphgjjlhiaa", sum := "68a01b77b672c3a1cd1e5d2e1fe211b27b3d679d47ac7a17f501a3829c76cf9a", func := "thresher/thresherlaw09.GramOnce", spec := "gramOnce", unfollowed := true, recurses := true, plainKeys := false, apart := false, narrowed := true }
def GramOnceUptoSaid : Prop := gramOnceUptoRow.holds Try.pinned (OpenSpec.upto gramOnceSpec)

/-- 'thresherlaw09.GramNone', WHERE WHAT IT READS IS OF BULK AT MOST 1048576: true; the input reads as it did. -/
def gramNoneUptoRow : OpenClaim := { program := "ytfjadphgjjlhiaa", sum := "68a01b77b672c3a1cd1e5d2e1fe211b27b3d679d47ac7a17f501a3829c76cf9a", func := "thresher/thresherlaw09.GramNone", spec := "gramNone", unfollowed := true, recurses := true, plainKeys := false, apart := false, narrowed := true }
def GramNoneUptoSaid : Prop := gramNoneUptoRow.holds Try.pinned (OpenSpec.upto gramNoneSpec)

/-- 'thresherlaw09.GramWays', WHERE WHAT IT READS IS OF BULK AT MOST 1048576: true; the input reads as it did. -/
def gramWaysUptoRow : OpenClaim := { program := "ytfjadphgjjlhiaa", sum := "68a01b77b672c3a1cd1e5d2e1fe211b27b3d679d47ac7a17f501a3829c76cf9a", func := "thresher/thresherlaw09.GramWays", spec := "gramWays", unfollowed := true, recurses := true, plainKeys := false, apart := false, narrowed := true }
def GramWaysUptoSaid : Prop := gramWaysUptoRow.holds Try.pinned (OpenSpec.upto gramWaysSpec)

end Rows
end Go.Proofs.Ytfjadphgjjlhiaa
