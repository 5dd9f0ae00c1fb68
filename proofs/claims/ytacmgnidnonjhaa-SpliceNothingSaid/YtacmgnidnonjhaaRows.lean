/-
  No cell of these rows narrows 'for every input' (looked for: loops, veiled, ifaces, maps, wideKeys, modest, calm, conditions, laid).
  DERIVED. THE GIVEN ROWS OF THIS SEAT. 5 by the template 'for every input the law returns true; each argument reads behind the call as it read before'; 0 by the template 'total and deterministic' (their statements: YtacmgnidnonjhaaTotals.lean).
  GIVEN WITH THE SEED: the statements are not yours to turn. If you find one false, say at which input.
  Laid BY PROGRAM, IN A SANDBOX (cutbox-rows.mjs): the forced cells as the released guide's own fill.sh prints them over the translation 61c8566dc513f384… (all of the seat's roots in one cut). By AI agents, Wed Nov 11 2026. No macro, syntax, notation, axiom, sorry.
-/
import Derived.Test.YtacmgnidnonjhaaChecked
import GoSem.Claim
import GoSem.ClaimJoined
import GoSem.ClaimMapViews
import Derived.JoinedTies
import Derived.KernelRfl
namespace Go.Proofs.Ytacmgnidnonjhaa
/- THE CELL 'sum', in the pinned program and in every row, IS THE sha256 OF THE DUMP (.gsa) THAT YtacmgnidnonjhaaProg.lean LOADS. Nothing in Lean hashes anything: it is a label: what it is worth is what the hold of that sum in a sandbox is worth. -/
noncomputable def Try.pinned : Pinned := { name := "ytacmgnidnonjhaa", sum := "61c8566dc513f3847047f97d1455d3147d90158391032f7b818bb8ea4d2a02d6", checked := Try.checked }
namespace Rows
def none {H : Type} : Left H := { results := [], args := [] }

/-- 'typecasekeep.SpliceNorm': WHATEVER THE INPUT: true; the input reads as it did. -/
def spliceNormSpec : ChangeSpec := { name := "spliceNorm", fn := fun _ => fun
  | [d1, d2] => { results := [.lit (.bool true)], args := [d1, d2] }
  | _ => none }
def spliceNormRow : OpenClaim := { program := "ytacmgnidnonjhaa", sum := "61c8566dc513f3847047f97d1455d3147d90158391032f7b818bb8ea4d2a02d6", func := "typecase/typecasekeep.SpliceNorm", spec := "spliceNorm", inPlace := ["internal/abi.NoEscape"], apart := false }
def SpliceNormSaid : Prop := spliceNormRow.holds Try.pinned (OpenSpec.ofChange spliceNormSpec)

/-- ITS FALSE NEIGHBOUR: 'it returns false'. Refute it at one input. -/
def spliceNormWrong : ChangeSpec := { name := "spliceNorm", fn := fun _ => fun
  | [d1, d2] => { results := [.lit (.bool false)], args := [d1, d2] }
  | _ => none }
def SpliceNormWrongFalsely : Prop := spliceNormRow.holds Try.pinned (OpenSpec.ofChange spliceNormWrong)

/-- 'typecasekeep.SpliceBack': WHATEVER THE INPUT: true; the input reads as it did. -/
def spliceBackSpec : ChangeSpec := { name := "spliceBack", fn := fun _ => fun
  | [d1, d2] => { results := [.lit (.bool true)], args := [d1, d2] }
  | _ => none }
def spliceBackRow : OpenClaim := { program := "ytacmgnidnonjhaa", sum := "61c8566dc513f3847047f97d1455d3147d90158391032f7b818bb8ea4d2a02d6", func := "typecase/typecasekeep.SpliceBack", spec := "spliceBack", inPlace := ["internal/abi.NoEscape"], apart := false }
def SpliceBackSaid : Prop := spliceBackRow.holds Try.pinned (OpenSpec.ofChange spliceBackSpec)

/-- ITS FALSE NEIGHBOUR: 'it returns false'. Refute it at one input. -/
def spliceBackWrong : ChangeSpec := { name := "spliceBack", fn := fun _ => fun
  | [d1, d2] => { results := [.lit (.bool false)], args := [d1, d2] }
  | _ => none }
def SpliceBackWrongFalsely : Prop := spliceBackRow.holds Try.pinned (OpenSpec.ofChange spliceBackWrong)

/-- 'typecasekeep.SpliceMeets': WHATEVER THE INPUT: true; the input reads as it did. -/
def spliceMeetsSpec : ChangeSpec := { name := "spliceMeets", fn := fun _ => fun
  | [d1, d2, d3] => { results := [.lit (.bool true)], args := [d1, d2, d3] }
  | _ => none }
def spliceMeetsRow : OpenClaim := { program := "ytacmgnidnonjhaa", sum := "61c8566dc513f3847047f97d1455d3147d90158391032f7b818bb8ea4d2a02d6", func := "typecase/typecasekeep.SpliceMeets", spec := "spliceMeets", inPlace := ["internal/abi.NoEscape"], apart := false }
def SpliceMeetsSaid : Prop := spliceMeetsRow.holds Try.pinned (OpenSpec.ofChange spliceMeetsSpec)

/-- ITS FALSE NEIGHBOUR: 'it returns false'. Refute it at one input. -/
def spliceMeetsWrong : ChangeSpec := { name := "spliceMeets", fn := fun _ => fun
  | [d1, d2, d3] => { results := [.lit (.bool false)], args := [d1, d2, d3] }
  | _ => none }
def SpliceMeetsWrongFalsely : Prop := spliceMeetsRow.holds Try.pinned (OpenSpec.ofChange spliceMeetsWrong)

/-- 'typecasekeep.SpliceJoin': WHATEVER THE INPUT: true; the input reads as it did. -/
def spliceJoinSpec : ChangeSpec := { name := "spliceJoin", fn := fun _ => fun
  | [d1, d2, d3, d4] => { results := [.lit (.bool true)], args := [d1, d2, d3, d4] }
  | _ => none }
def spliceJoinRow : OpenClaim := { program := "ytacmgnidnonjhaa", sum := "61c8566dc513f3847047f97d1455d3147d90158391032f7b818bb8ea4d2a02d6", func := "typecase/typecasekeep.SpliceJoin", spec := "spliceJoin", inPlace := ["internal/abi.NoEscape"], apart := false }
def SpliceJoinSaid : Prop := spliceJoinRow.holds Try.pinned (OpenSpec.ofChange spliceJoinSpec)

/-- ITS FALSE NEIGHBOUR: 'it returns false'. Refute it at one input. -/
def spliceJoinWrong : ChangeSpec := { name := "spliceJoin", fn := fun _ => fun
  | [d1, d2, d3, d4] => { results := [.lit (.bool false)], args := [d1, d2, d3, d4] }
  | _ => none }
def SpliceJoinWrongFalsely : Prop := spliceJoinRow.holds Try.pinned (OpenSpec.ofChange spliceJoinWrong)

/-- 'typecasekeep.SpliceNothing': WHATEVER THE INPUT: true; the input reads as it did. -/
def spliceNothingSpec : ChangeSpec := { name := "spliceNothing", fn := fun _ => fun
  | [d] => { results := [.lit (.bool true)], args := [d] }
  | _ => none }
def spliceNothingRow : OpenClaim := { program := "ytacmgnidnonjhaa", sum := "61c8566dc513f3847047f97d1455d3147d90158391032f7b818bb8ea4d2a02d6", func := "typecase/typecasekeep.SpliceNothing", spec := "spliceNothing", inPlace := ["internal/abi.NoEscape"], unfollowed := true, recurses := true, apart := false }
def SpliceNothingSaid : Prop := spliceNothingRow.holds Try.pinned (OpenSpec.ofChange spliceNothingSpec)

/-- ITS FALSE NEIGHBOUR: 'it returns false'. Refute it at one input. -/
def spliceNothingWrong : ChangeSpec := { name := "spliceNothing", fn := fun _ => fun
  | [d] => { results := [.lit (.bool false)], args := [d] }
  | _ => none }
def SpliceNothingWrongFalsely : Prop := spliceNothingRow.holds Try.pinned (OpenSpec.ofChange spliceNothingWrong)

/- THE SECOND FORM. 'bulk': how many values and letters a reading holds, each counted each time it is reached (what is shared counts as often as it is met; a slice's spare places count too). A statement '..UptoSaid' is the law's where the arguments, and the package variables that the reading takes, are together of bulk at most 1048576: NARROWER than '..Said'. Prove '..Said' where nothing that the law and all that it calls make is longer than what came in: it says more and counts as full. Else prove '..UptoSaid'. A law counts once. -/
mutual
def uptoBulk {H : Type} : DataW H → Nat
  | .lit (.string bytes) => bytes.length + 1
  | .lit _ => 1
  | .nil => 1
  | .ptr d => uptoBulk d + 1
  | .slice elems spare => uptoBulkAll elems + uptoBulkAll spare + 1
  | .agg parts => uptoBulkAll parts + 1
  | .iface _ d => uptoBulk d + 1
  | .map entries => uptoBulkEntries entries + 1
  | .held _ => 1
def uptoBulkAll {H : Type} : List (DataW H) → Nat
  | [] => 0
  | d :: r => uptoBulk d + uptoBulkAll r
def uptoBulkEntries {H : Type} : List (Lit × DataW H) → Nat
  | [] => 0
  | x :: r => uptoBulkEntry x + uptoBulkEntries r
def uptoBulkEntry {H : Type} : Lit × DataW H → Nat
  | (.string bytes, d) => bytes.length + uptoBulk d + 1
  | (_, d) => uptoBulk d + 1
 end
def uptoSmall : (H : Type) → List (DataW H) → Bool := fun _ ds => decide (uptoBulkAll ds ≤ 1048576)
def OpenSpec.upto (s : _root_.Go.ChangeSpec) : _root_.Go.OpenSpec := { _root_.Go.OpenSpec.ofChange s with cond := some uptoSmall }

/-- 'typecasekeep.SpliceNorm', WHERE WHAT IT READS IS OF BULK AT MOST 1048576: true; the input reads as it did. -/
def spliceNormUptoRow : OpenClaim := { program := "ytacmgnidnonjhaa", sum := "61c8566dc513f3847047f97d1455d3147d90158391032f7b818bb8ea4d2a02d6", func := "typecase/typecasekeep.SpliceNorm", spec := "spliceNorm", inPlace := ["internal/abi.NoEscape"], apart := false, narrowed := true }
def SpliceNormUptoSaid : Prop := spliceNormUptoRow.holds Try.pinned (OpenSpec.upto spliceNormSpec)

/-- 'typecasekeep.SpliceBack', WHERE WHAT IT READS IS OF BULK AT MOST 1048576: true; the input reads as it did. -/
def spliceBackUptoRow : OpenClaim := { program := "ytacmgnidnonjhaa", sum := "61c8566dc513f3847047f97d1455d3147d90158391032f7b818bb8ea4d2a02d6", func := "typecase/typecasekeep.SpliceBack", spec := "spliceBack", inPlace := ["internal/abi.NoEscape"], apart := false, narrowed := true }
def SpliceBackUptoSaid : Prop := spliceBackUptoRow.holds Try.pinned (OpenSpec.upto spliceBackSpec)

/-- 'typecasekeep.SpliceMeets', WHERE WHAT IT READS IS OF BULK AT MOST 1048576: true; the input reads as it did. -/
def spliceMeetsUptoRow : OpenClaim := { program := "ytacmgnidnonjhaa", sum := "61c8566dc513f3847047f97d1455d3147d90158391032f7b818bb8ea4d2a02d6", func := "typecase/typecasekeep.SpliceMeets", spec := "spliceMeets", inPlace := ["internal/abi.NoEscape"], apart := false, narrowed := true }
def SpliceMeetsUptoSaid : Prop := spliceMeetsUptoRow.holds Try.pinned (OpenSpec.upto spliceMeetsSpec)

/-- 'typecasekeep.SpliceJoin', WHERE WHAT IT READS IS OF BULK AT MOST 1048576: true; the input reads as it did. -/
def spliceJoinUptoRow : OpenClaim := { program := "ytacmgnidnonjhaa", sum := "61c8566dc513f3847047f97d1455d3147d90158391032f7b818bb8ea4d2a02d6", func := "typecase/typecasekeep.SpliceJoin", spec := "spliceJoin", inPlace := ["internal/abi.NoEscape"], apart := false, narrowed := true }
def SpliceJoinUptoSaid : Prop := spliceJoinUptoRow.holds Try.pinned (OpenSpec.upto spliceJoinSpec)

/-- 'typecasekeep.SpliceNothing', WHERE WHAT IT READS IS OF BULK AT MOST 1048576: true; the input reads as it did. -/
def spliceNothingUptoRow : OpenClaim := { program := "ytacmgnidnonjhaa", sum := "61c8566dc513f3847047f97d1455d3147d90158391032f7b818bb8ea4d2a02d6", func := "typecase/typecasekeep.SpliceNothing", spec := "spliceNothing", inPlace := ["internal/abi.NoEscape"], unfollowed := true, recurses := true, apart := false, narrowed := true }
def SpliceNothingUptoSaid : Prop := spliceNothingUptoRow.holds Try.pinned (OpenSpec.upto spliceNothingSpec)

end Rows
end Go.Proofs.Ytacmgnidnonjhaa
