/-
  No cell of these rows narrows 'for every input' (looked for: loops, veiled, ifaces, maps, wideKeys, modest, calm, conditions, laid).
  DERIVED. THE GIVEN ROWS OF THIS SEAT. 6 by the template 'for every input the law returns true; each argument reads behind the call as it read before'; 0 by the template 'total and deterministic' (their statements: YtgdgonmhgpflcaaTotals.lean).
  GIVEN WITH THE SEED: the statements are not yours to turn. If you find one false, say at which input.
  Laid BY PROGRAM, IN A SANDBOX (cutbox-rows.mjs): the forced cells as the released guide's own fill.sh prints them over the translation 33e48e5c19807e8c… (all of the seat's roots in one cut). By AI agents, Wed Nov 11 2026. No macro, syntax, notation, axiom, sorry.
-/
import Derived.Test.YtgdgonmhgpflcaaChecked
import GoSem.Claim
import GoSem.ClaimJoined
import GoSem.ClaimMapViews
import Derived.JoinedTies
import Derived.KernelRfl
namespace Go.Proofs.Ytgdgonmhgpflcaa
/- THE CELL 'sum', in the pinned program and in every row, IS THE sha256 OF THE DUMP (.gsa) THAT YtgdgonmhgpflcaaProg.lean LOADS. Nothing in Lean hashes anything: it is a label: what it is worth is what the hold of that sum in a sandbox is worth. -/
noncomputable def Try.pinned : Pinned := { name := "ytgdgonmhgpflcaa", sum := "33e48e5c19807e8c346d0379bd1a27d17bde7225da474ea60f38e164fc743879", checked := Try.checked }
namespace Rows
def none {H : Type} : Left H := { results := [], args := [] }

/-- 'thresherlaw27.RpcBytes': WHATEVER THE INPUT: true; the input reads as it did. -/
def rpcBytesSpec : ChangeSpec := { name := "rpcBytes", fn := fun _ => fun
  | [d1, d2] => { results := [.lit (.bool true)], args := [d1, d2] }
  | _ => none }
def rpcBytesRow : OpenClaim := { program := "ytgdgonmhgpflcaa", sum := "33e48e5c19807e8c346d0379bd1a27d17bde7225da474ea60f38e164fc743879", func := "thresher/thresherlaw27.RpcBytes", spec := "rpcBytes", inPlace := ["internal/abi.NoEscape"], unfollowed := true, recurses := true, apart := false }
def RpcBytesSaid : Prop := rpcBytesRow.holds Try.pinned (OpenSpec.ofChange rpcBytesSpec)

/-- ITS FALSE NEIGHBOUR: 'it returns false'. Refute it at one input. -/
def rpcBytesWrong : ChangeSpec := { name := "rpcBytes", fn := fun _ => fun
  | [d1, d2] => { results := [.lit (.bool false)], args := [d1, d2] }
  | _ => none }
def RpcBytesWrongFalsely : Prop := rpcBytesRow.holds Try.pinned (OpenSpec.ofChange rpcBytesWrong)

/-- 'thresherlaw27.RpcHears': WHATEVER THE INPUT: true; the input reads as it did. -/
def rpcHearsSpec : ChangeSpec := { name := "rpcHears", fn := fun _ => fun
  | [d] => { results := [.lit (.bool true)], args := [d] }
  | _ => none }
def rpcHearsRow : OpenClaim := { program := "ytgdgonmhgpflcaa", sum := "33e48e5c19807e8c346d0379bd1a27d17bde7225da474ea60f38e164fc743879", func := "thresher/thresherlaw27.RpcHears", spec := "rpcHears", inPlace := ["internal/abi.NoEscape"], unfollowed := true, recurses := true, apart := false }
def RpcHearsSaid : Prop := rpcHearsRow.holds Try.pinned (OpenSpec.ofChange rpcHearsSpec)

/-- ITS FALSE NEIGHBOUR: 'it returns false'. Refute it at one input. -/
def rpcHearsWrong : ChangeSpec := { name := "rpcHears", fn := fun _ => fun
  | [d] => { results := [.lit (.bool false)], args := [d] }
  | _ => none }
def RpcHearsWrongFalsely : Prop := rpcHearsRow.holds Try.pinned (OpenSpec.ofChange rpcHearsWrong)

/-- 'thresherlaw27.RpcOnce': WHATEVER THE INPUT: true; the input reads as it did. -/
def rpcOnceSpec : ChangeSpec := { name := "rpcOnce", fn := fun _ => fun
  | [d] => { results := [.lit (.bool true)], args := [d] }
  | _ => none }
def rpcOnceRow : OpenClaim := { program := "ytgdgonmhgpflcaa", sum := "33e48e5c19807e8c346d0379bd1a27d17bde7225da474ea60f38e164fc743879", func := "thresher/thresherlaw27.RpcOnce", spec := "rpcOnce", inPlace := ["internal/abi.NoEscape"], unfollowed := true, recurses := true, apart := false }
def RpcOnceSaid : Prop := rpcOnceRow.holds Try.pinned (OpenSpec.ofChange rpcOnceSpec)

/-- ITS FALSE NEIGHBOUR: 'it returns false'. Refute it at one input. -/
def rpcOnceWrong : ChangeSpec := { name := "rpcOnce", fn := fun _ => fun
  | [d] => { results := [.lit (.bool false)], args := [d] }
  | _ => none }
def RpcOnceWrongFalsely : Prop := rpcOnceRow.holds Try.pinned (OpenSpec.ofChange rpcOnceWrong)

/-- 'thresherlaw27.RpcTries': WHATEVER THE INPUT: true; the input reads as it did. -/
def rpcTriesSpec : ChangeSpec := { name := "rpcTries", fn := fun _ => fun
  | [d1, d2, d3] => { results := [.lit (.bool true)], args := [d1, d2, d3] }
  | _ => none }
def rpcTriesRow : OpenClaim := { program := "ytgdgonmhgpflcaa", sum := "33e48e5c19807e8c346d0379bd1a27d17bde7225da474ea60f38e164fc743879", func := "thresher/thresherlaw27.RpcTries", spec := "rpcTries", inPlace := ["internal/abi.NoEscape"], unfollowed := true, recurses := true, apart := false }
def RpcTriesSaid : Prop := rpcTriesRow.holds Try.pinned (OpenSpec.ofChange rpcTriesSpec)

/-- ITS FALSE NEIGHBOUR: 'it returns false'. Refute it at one input. -/
def rpcTriesWrong : ChangeSpec := { name := "rpcTries", fn := fun _ => fun
  | [d1, d2, d3] => { results := [.lit (.bool false)], args := [d1, d2, d3] }
  | _ => none }
def RpcTriesWrongFalsely : Prop := rpcTriesRow.holds Try.pinned (OpenSpec.ofChange rpcTriesWrong)

/-- 'thresherlaw27.RpcCalls': WHATEVER THE INPUT: true; the input reads as it did. -/
def rpcCallsSpec : ChangeSpec := { name := "rpcCalls", fn := fun _ => fun
  | [d1, d2, d3] => { results := [.lit (.bool true)], args := [d1, d2, d3] }
  | _ => none }
def rpcCallsRow : OpenClaim := { program := "ytgdgonmhgpflcaa", sum := "33e48e5c19807e8c346d0379bd1a27d17bde7225da474ea60f38e164fc743879", func := "thresher/thresherlaw27.RpcCalls", spec := "rpcCalls", inPlace := ["internal/abi.NoEscape"], unfollowed := true, recurses := true, apart := false }
def RpcCallsSaid : Prop := rpcCallsRow.holds Try.pinned (OpenSpec.ofChange rpcCallsSpec)

/-- ITS FALSE NEIGHBOUR: 'it returns false'. Refute it at one input. -/
def rpcCallsWrong : ChangeSpec := { name := "rpcCalls", fn := fun _ => fun
  | [d1, d2, d3] => { results := [.lit (.bool false)], args := [d1, d2, d3] }
  | _ => none }
def RpcCallsWrongFalsely : Prop := rpcCallsRow.holds Try.pinned (OpenSpec.ofChange rpcCallsWrong)

/-- 'thresherlaw27.RpcNone': WHATEVER THE INPUT: true; the input reads as it did. -/
def rpcNoneSpec : ChangeSpec := { name := "rpcNone", fn := fun _ => fun
  | [d1, d2, d3] => { results := [.lit (.bool true)], args := [d1, d2, d3] }
  | _ => none }
def rpcNoneRow : OpenClaim := { program := "ytgdgonmhgpflcaa", sum := "33e48e5c19807e8c346d0379bd1a27d17bde7225da474ea60f38e164fc743879", func := "thresher/thresherlaw27.RpcNone", spec := "rpcNone", inPlace := ["internal/abi.NoEscape"], unfollowed := true, recurses := true, apart := false }
def RpcNoneSaid : Prop := rpcNoneRow.holds Try.pinned (OpenSpec.ofChange rpcNoneSpec)

/-- ITS FALSE NEIGHBOUR: 'it returns false'. Refute it at one input. -/
def rpcNoneWrong : ChangeSpec := { name := "rpcNone", fn := fun _ => fun
  | [d1, d2, d3] => { results := [.lit (.bool false)], args := [d1, d2, d3] }
  | _ => none }
def RpcNoneWrongFalsely : Prop := rpcNoneRow.holds Try.pinned (OpenSpec.ofChange rpcNoneWrong)

/- THE SECOND FORM. 'bulk': how many values and letters a reading holds, each counted each time it is reached (what is shared counts as often as it is met; a slice's spare places count too). A statement '..UptoSaid' is the law's where the arguments, and the package variables that the reading takes, are together of bulk at most 1048576: NARROWER than '..Said'. Prove '..Said' where nothing that the law and all that it calls make is longer than what came in: it says more and counts as full. Else prove '..UptoSaid'. A law counts once. -/
mutual
def uptoBulk {H : Type} : DataW H → Nat
  | .lit (.string bytes) => bytes.length + 1
  | .lit _ => 1
  | .nil => 1
  | .ptr d => uptoBulk d + 1
  | .slice elems spare => uptoBulkAll elems + uptoBulkAll spare + 1
  | .agg parts => uptoBulkAll parts + 1
  | .iface _ d => uptoBulk d + 1
  | .map entries => uptoBulkEntries entries + 1
  | .held _ => 1
def uptoBulkAll {H : Type} : List (DataW H) → Nat
  | [] => 0
  | d :: r => uptoBulk d + uptoBulkAll r
def uptoBulkEntries {H : Type} : List (Lit × DataW H) → Nat
  | [] => 0
  | x :: r => uptoBulkEntry x + uptoBulkEntries r
def uptoBulkEntry {H : Type} : Lit × DataW H → Nat
  | (.string bytes, d) => bytes.length + uptoBulk d + 1
  | (_, d) => uptoBulk d + 1
 end
def uptoSmall : (H : Type) → List (DataW H) → Bool := fun _ ds => decide (uptoBulkAll ds ≤ 1048576)
def OpenSpec.upto (s : _root_.Go.ChangeSpec) : _root_.Go.OpenSpec := { _root_.Go.OpenSpec.ofChange s with cond := some uptoSmall }

/-- 'thresherlaw27.RpcBytes', WHERE WHAT IT READS IS OF BULK AT MOST 1048576: true; the input reads as it did. -/
def rpcBytesUptoRow : OpenClaim := { program := "ytgdgonmhgpflcaa", sum := "33e48e5c19807e8c346d0379bd1a27d17bde7225da474ea60f38e164fc743879", func := "thresher/thresherlaw27.RpcBytes", spec := "rpcBytes", inPlace := ["internal/abi.NoEscape"], unfollowed := true, recurses := true, apart := false, narrowed := true }
def RpcBytesUptoSaid : Prop := rpcBytesUptoRow.holds Try.pinned (OpenSpec.upto rpcBytesSpec)

/-- 'thresherlaw27.RpcHears', WHERE WHAT IT READS IS OF BULK AT MOST 1048576: true; the input reads as it did. -/
def rpcHearsUptoRow : OpenClaim := { program := "ytgdgonmhgpflcaa", sum := "33e48e5c19807e8c346d0379bd1a27d17bde7225da474ea60f38e164fc743879", func := "thresher/thresherlaw27.RpcHears", spec := "rpcHears", inPlace := ["internal/abi.NoEscape"], unfollowed := true, recurses := true, apart := false, narrowed := true }
def RpcHearsUptoSaid : Prop := rpcHearsUptoRow.holds Try.pinned (OpenSpec.upto rpcHearsSpec)

/-- 'thresherlaw27.RpcOnce', WHERE WHAT IT READS IS OF BULK AT MOST 1048576: true; the input reads as it did. -/
def rpcOnceUptoRow : OpenClaim := { program := "ytgdgonmhgpflcaa", sum := "33e48e5c19807e8c346d0379bd1a27d17bde7225da474ea60f38e164fc743879", func := "thresher/thresherlaw27.RpcOnce", spec := "rpcOnce", inPlace := ["internal/abi.NoEscape"], unfollowed := true, recurses := true, apart := false, narrowed := true }
def RpcOnceUptoSaid : Prop := rpcOnceUptoRow.holds Try.pinned (OpenSpec.upto rpcOnceSpec)

/-- 'thresherlaw27.RpcTries', WHERE WHAT IT READS IS OF BULK AT MOST 1048576: true; the input reads as it did. -/
def rpcTriesUptoRow : OpenClaim := { program := "ytgdgonmhgpflcaa", sum := "33e48e5c19807e8c346d0379bd1a27d17bde7225da474ea60f38e164fc743879", func := "thresher/thresherlaw27.RpcTries", spec := "rpcTries", inPlace := ["internal/abi.NoEscape"], unfollowed := true, recurses := true, apart := false, narrowed := true }
def RpcTriesUptoSaid : Prop := rpcTriesUptoRow.holds Try.pinned (OpenSpec.upto rpcTriesSpec)

/-- 'thresherlaw27.RpcCalls', WHERE WHAT IT READS IS OF BULK AT MOST 1048576: true; the input reads as it did. -/
def rpcCallsUptoRow : OpenClaim := { program := "ytgdgonmhgpflcaa", sum := "33e48e5c19807e8c346d0379bd1a27d17bde7225da474ea60f38e164fc743879", func := "thresher/thresherlaw27.RpcCalls", spec := "rpcCalls", inPlace := ["internal/abi.NoEscape"], unfollowed := true, recurses := true, apart := false, narrowed := true }
def RpcCallsUptoSaid : Prop := rpcCallsUptoRow.holds Try.pinned (OpenSpec.upto rpcCallsSpec)

/-- 'thresherlaw27.RpcNone', WHERE WHAT IT READS IS OF BULK AT MOST 1048576: true; the input reads as it did. -/
def rpcNoneUptoRow : OpenClaim := { program := "ytgdgonmhgpflcaa", sum := "33e48e5c19807e8c346d0379bd1a27d17bde7225da474ea60f38e164fc743879", func := "thresher/thresherlaw27.RpcNone", spec := "rpcNone", inPlace := ["internal/abi.NoEscape"], unfollowed := true, recurses := true, apart := false, narrowed := true }
def RpcNoneUptoSaid : Prop := rpcNoneUptoRow.holds Try.pinned (OpenSpec.upto rpcNoneSpec)

end Rows
end Go.Proofs.Ytgdgonmhgpflcaa
