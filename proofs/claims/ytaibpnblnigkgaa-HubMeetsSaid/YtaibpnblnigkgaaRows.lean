/-
  No cell of these rows narrows 'for every input' (looked for: loops, veiled, ifaces, maps, wideKeys, modest, calm, conditions, laid).
  DERIVED. THE GIVEN ROWS OF THIS SEAT. 3 by the template 'for every input the law returns true; each argument reads behind the call as it read before'; 0 by the template 'total and deterministic' (their statements: YtaibpnblnigkgaaTotals.lean).
  GIVEN WITH THE SEED: the statements are not yours to turn. If you find one false, say at which input.
  Laid BY PROGRAM, IN A SANDBOX (cutbox-rows.mjs): the forced cells as the released guide's own fill.sh prints them over the translation 6a23e20ce1082ae4… (all of the seat's roots in one cut). By AI agents, Wed Nov 11 2026. No macro, syntax, notation, axiom, sorry.
-/
import Derived.Test.YtaibpnblnigkgaaChecked
import GoSem.Claim
import GoSem.ClaimJoined
import GoSem.ClaimMapViews
import Derived.JoinedTies
import Derived.KernelRfl
namespace Go.Proofs.Ytaibpnblnigkgaa
/- THE CELL 'sum', in the pinned program and in every row, IS THE sha256 OF THE DUMP (.gsa) THAT YtaibpnblnigkgaaProg.lean LOADS. Nothing in Lean hashes anything: it is a label: what it is worth is what the hold of that sum in a sandbox is worth. -/
noncomputable def Try.pinned : Pinned := { name := "ytaibpnblnigkgaa", sum := "6a23e20ce1082ae4707e8e0fad84208165a8625dd444cb35a98218e36df3a9ae", checked := Try.checked }
namespace Rows
def none {H : Type} : Left H := { results := [], args := [] }

/-- 'typecasekeep.HubPending': WHATEVER THE INPUT: true; the input reads as it did. -/
def hubPendingSpec : ChangeSpec := { name := "hubPending", fn := fun _ => fun
  | [d1, d2, d3] => { results := [.lit (.bool true)], args := [d1, d2, d3] }
  | _ => none }
def hubPendingRow : OpenClaim := { program := "ytaibpnblnigkgaa", sum := "6a23e20ce1082ae4707e8e0fad84208165a8625dd444cb35a98218e36df3a9ae", func := "typecase/typecasekeep.HubPending", spec := "hubPending", inPlace := ["internal/abi.NoEscape"], apart := false }
def HubPendingSaid : Prop := hubPendingRow.holds Try.pinned (OpenSpec.ofChange hubPendingSpec)

/-- ITS FALSE NEIGHBOUR: 'it returns false'. Refute it at one input. -/
def hubPendingWrong : ChangeSpec := { name := "hubPending", fn := fun _ => fun
  | [d1, d2, d3] => { results := [.lit (.bool false)], args := [d1, d2, d3] }
  | _ => none }
def HubPendingWrongFalsely : Prop := hubPendingRow.holds Try.pinned (OpenSpec.ofChange hubPendingWrong)

/-- 'typecasekeep.HubMeets': WHATEVER THE INPUT: true; the input reads as it did. -/
def hubMeetsSpec : ChangeSpec := { name := "hubMeets", fn := fun _ => fun
  | [d1, d2, d3] => { results := [.lit (.bool true)], args := [d1, d2, d3] }
  | _ => none }
def hubMeetsRow : OpenClaim := { program := "ytaibpnblnigkgaa", sum := "6a23e20ce1082ae4707e8e0fad84208165a8625dd444cb35a98218e36df3a9ae", func := "typecase/typecasekeep.HubMeets", spec := "hubMeets", inPlace := ["internal/abi.NoEscape"], unfollowed := true, recurses := true, apart := false }
def HubMeetsSaid : Prop := hubMeetsRow.holds Try.pinned (OpenSpec.ofChange hubMeetsSpec)

/-- ITS FALSE NEIGHBOUR: 'it returns false'. Refute it at one input. -/
def hubMeetsWrong : ChangeSpec := { name := "hubMeets", fn := fun _ => fun
  | [d1, d2, d3] => { results := [.lit (.bool false)], args := [d1, d2, d3] }
  | _ => none }
def HubMeetsWrongFalsely : Prop := hubMeetsRow.holds Try.pinned (OpenSpec.ofChange hubMeetsWrong)

/-- 'typecasekeep.HubRefused': WHATEVER THE INPUT: true; the input reads as it did. -/
def hubRefusedSpec : ChangeSpec := { name := "hubRefused", fn := fun _ => fun
  | [d1, d2, d3] => { results := [.lit (.bool true)], args := [d1, d2, d3] }
  | _ => none }
def hubRefusedRow : OpenClaim := { program := "ytaibpnblnigkgaa", sum := "6a23e20ce1082ae4707e8e0fad84208165a8625dd444cb35a98218e36df3a9ae", func := "typecase/typecasekeep.HubRefused", spec := "hubRefused", inPlace := ["internal/abi.NoEscape"], unfollowed := true, recurses := true, apart := false }
def HubRefusedSaid : Prop := hubRefusedRow.holds Try.pinned (OpenSpec.ofChange hubRefusedSpec)

/-- ITS FALSE NEIGHBOUR: 'it returns false'. Refute it at one input. -/
def hubRefusedWrong : ChangeSpec := { name := "hubRefused", fn := fun _ => fun
  | [d1, d2, d3] => { results := [.lit (.bool false)], args := [d1, d2, d3] }
  | _ => none }
def HubRefusedWrongFalsely : Prop := hubRefusedRow.holds Try.pinned (OpenSpec.ofChange hubRefusedWrong)

/- THE SECOND FORM. 'bulk': how many values and letters a reading holds, each counted each time it is reached (what is shared counts as often as it is met; a slice's spare places count too). A statement '..UptoSaid' is the law's where the arguments, and the package variables that the reading takes, are together of bulk at most 1048576: NARROWER than '..Said'. Prove '..Said' where nothing that the law and all that it calls make is longer than what came in: it says more and counts as full. Else prove '..UptoSaid'. A law counts once. -/
mutual
def uptoBulk {H : Type} : DataW H → Nat
  | .lit (.string bytes) => bytes.length + 1
  | .lit _ => 1
  | .nil => 1
  | .ptr d => uptoBulk d + 1
  | .slice elems spare => uptoBulkAll elems + uptoBulkAll spare + 1
  | .agg parts => uptoBulkAll parts + 1
  | .iface _ d => uptoBulk d + 1
  | .map entries => uptoBulkEntries entries + 1
  | .held _ => 1
def uptoBulkAll {H : Type} : List (DataW H) → Nat
  | [] => 0
  | d :: r => uptoBulk d + uptoBulkAll r
def uptoBulkEntries {H : Type} : List (Lit × DataW H) → Nat
  | [] => 0
  | x :: r => uptoBulkEntry x + uptoBulkEntries r
def uptoBulkEntry {H : Type} : Lit × DataW H → Nat
  | (.string bytes, d) => bytes.length + uptoBulk d + 1
  | (_, d) => uptoBulk d + 1
 end
def uptoSmall : (H : Type) → List (DataW H) → Bool := fun _ ds => decide (uptoBulkAll ds ≤ 1048576)
def OpenSpec.upto (s : _root_.Go.ChangeSpec) : _root_.Go.OpenSpec := { _root_.Go.OpenSpec.ofChange s with cond := some uptoSmall }

/-- 'typecasekeep.HubPending', WHERE WHAT IT READS IS OF BULK AT MOST 1048576: true; the input reads as it did. -/
def hubPendingUptoRow : OpenClaim := { program := "ytaibpnblnigkgaa", sum := "6a23e20ce1082ae4707e8e0fad84208165a8625dd444cb35a98218e36df3a9ae", func := "typecase/typecasekeep.HubPending", spec := "hubPending", inPlace := ["internal/abi.NoEscape"], apart := false, narrowed := true }
def HubPendingUptoSaid : Prop := hubPendingUptoRow.holds Try.pinned (OpenSpec.upto hubPendingSpec)

/-- 'typecasekeep.HubMeets', WHERE WHAT IT READS IS OF BULK AT MOST 1048576: true; the input reads as it did. -/
def hubMeetsUptoRow : OpenClaim := { program := "ytaibpnblnigkgaa", sum := "6a23e20ce1082ae4707e8e0fad84208165a8625dd444cb35a98218e36df3a9ae", func := "typecase/typecasekeep.HubMeets", spec := "hubMeets", inPlace := ["internal/abi.NoEscape"], unfollowed := true, recurses := true, apart := false, narrowed := true }
def HubMeetsUptoSaid : Prop := hubMeetsUptoRow.holds Try.pinned (OpenSpec.upto hubMeetsSpec)

/-- 'typecasekeep.HubRefused', WHERE WHAT IT READS IS OF BULK AT MOST 1048576: true; the input reads as it did. -/
def hubRefusedUptoRow : OpenClaim := { program := "ytaibpnblnigkgaa", sum := "6a23e20ce1082ae4707e8e0fad84208165a8625dd444cb35a98218e36df3a9ae", func := "typecase/typecasekeep.HubRefused", spec := "hubRefused", inPlace := ["internal/abi.NoEscape"], unfollowed := true, recurses := true, apart := false, narrowed := true }
def HubRefusedUptoSaid : Prop := hubRefusedUptoRow.holds Try.pinned (OpenSpec.upto hubRefusedSpec)

end Rows
end Go.Proofs.Ytaibpnblnigkgaa
