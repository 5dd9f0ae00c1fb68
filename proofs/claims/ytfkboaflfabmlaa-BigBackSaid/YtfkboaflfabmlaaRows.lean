/-
  No cell of these rows narrows 'for every input' (looked for: loops, veiled, ifaces, maps, wideKeys, modest, calm, conditions, laid).
  DERIVED. THE GIVEN ROWS OF THIS SEAT. 4 by the template 'for every input the law returns true; each argument reads behind the call as it read before'; 0 by the template 'total and deterministic' (their statements: YtfkboaflfabmlaaTotals.lean).
  GIVEN WITH THE SEED: the statements are not yours to turn. If you find one false, say at which input.
  Laid BY PROGRAM, IN A SANDBOX (cutbox-rows.mjs): the forced cells as the released guide's own fill.sh prints them over the translation 2f87c090b4a4aac7… (all of the seat's roots in one cut). By AI agents, Wed Nov 11 2026. No macro, syntax, notation, axiom, sorry.
-/
import Derived.Test.YtfkboaflfabmlaaChecked
import GoSem.Claim
import GoSem.ClaimJoined
import GoSem.ClaimMapViews
import Derived.JoinedTies
import Derived.KernelRfl
namespace Go.Proofs.Ytfkboaflfabmlaa
/- THE CELL 'sum', in the pinned program and in every row, IS THE sha256 OF THE DUMP (.gsa) THAT YtfkboaflfabmlaaProg.lean LOADS. Nothing in Lean hashes anything: it is a label: what it is worth is what the hold of that sum in a sandbox is worth. -/
noncomputable def Try.pinned : Pinned := { name := "ytfkboaflfabmlaa", sum := "2f87c090b4a4aac762c5d7ddf38c8a15103eb0e6316253c12bf85ccbd2be8942", checked := Try.checked }
namespace Rows
def none {H : Type} : Left H := { results := [], args := [] }

/-- 'typecasekeep.BigDigits': WHATEVER THE INPUT: true; the input reads as it did. -/
def bigDigitsSpec : ChangeSpec := { name := "bigDigits", fn := fun _ => fun
  | [d1, d2, d3] => { results := [.lit (.bool true)], args := [d1, d2, d3] }
  | _ => none }
def bigDigitsRow : OpenClaim := { program := "ytfkboaflfabmlaa", sum := "2f87c090b4a4aac762c5d7ddf38c8a15103eb0e6316253c12bf85ccbd2be8942", func := "typecase/typecasekeep.BigDigits", spec := "bigDigits", named := ["math/bits.overflowError"], apart := false }
def BigDigitsSaid : Prop := bigDigitsRow.holds Try.pinned (OpenSpec.ofChange bigDigitsSpec)

/-- ITS FALSE NEIGHBOUR: 'it returns false'. Refute it at one input. -/
def bigDigitsWrong : ChangeSpec := { name := "bigDigits", fn := fun _ => fun
  | [d1, d2, d3] => { results := [.lit (.bool false)], args := [d1, d2, d3] }
  | _ => none }
def BigDigitsWrongFalsely : Prop := bigDigitsRow.holds Try.pinned (OpenSpec.ofChange bigDigitsWrong)

/-- 'typecasekeep.BigLaws': WHATEVER THE INPUT: true; the input reads as it did. -/
def bigLawsSpec : ChangeSpec := { name := "bigLaws", fn := fun _ => fun
  | [d1, d2, d3] => { results := [.lit (.bool true)], args := [d1, d2, d3] }
  | _ => none }
def bigLawsRow : OpenClaim := { program := "ytfkboaflfabmlaa", sum := "2f87c090b4a4aac762c5d7ddf38c8a15103eb0e6316253c12bf85ccbd2be8942", func := "typecase/typecasekeep.BigLaws", spec := "bigLaws", named := ["math/bits.overflowError"], apart := false }
def BigLawsSaid : Prop := bigLawsRow.holds Try.pinned (OpenSpec.ofChange bigLawsSpec)

/-- ITS FALSE NEIGHBOUR: 'it returns false'. Refute it at one input. -/
def bigLawsWrong : ChangeSpec := { name := "bigLaws", fn := fun _ => fun
  | [d1, d2, d3] => { results := [.lit (.bool false)], args := [d1, d2, d3] }
  | _ => none }
def BigLawsWrongFalsely : Prop := bigLawsRow.holds Try.pinned (OpenSpec.ofChange bigLawsWrong)

/-- 'typecasekeep.BigPowers': WHATEVER THE INPUT: true; the input reads as it did. -/
def bigPowersSpec : ChangeSpec := { name := "bigPowers", fn := fun _ => fun
  | [d1, d2, d3, d4] => { results := [.lit (.bool true)], args := [d1, d2, d3, d4] }
  | _ => none }
def bigPowersRow : OpenClaim := { program := "ytfkboaflfabmlaa", sum := "2f87c090b4a4aac762c5d7ddf38c8a15103eb0e6316253c12bf85ccbd2be8942", func := "typecase/typecasekeep.BigPowers", spec := "bigPowers", named := ["math/bits.overflowError"], apart := false }
def BigPowersSaid : Prop := bigPowersRow.holds Try.pinned (OpenSpec.ofChange bigPowersSpec)

/-- ITS FALSE NEIGHBOUR: 'it returns false'. Refute it at one input. -/
def bigPowersWrong : ChangeSpec := { name := "bigPowers", fn := fun _ => fun
  | [d1, d2, d3, d4] => { results := [.lit (.bool false)], args := [d1, d2, d3, d4] }
  | _ => none }
def BigPowersWrongFalsely : Prop := bigPowersRow.holds Try.pinned (OpenSpec.ofChange bigPowersWrong)

/-- 'typecasekeep.BigBack': WHATEVER THE INPUT: true; the input reads as it did. -/
def bigBackSpec : ChangeSpec := { name := "bigBack", fn := fun _ => fun
  | [d1, d2, d3] => { results := [.lit (.bool true)], args := [d1, d2, d3] }
  | _ => none }
def bigBackRow : OpenClaim := { program := "ytfkboaflfabmlaa", sum := "2f87c090b4a4aac762c5d7ddf38c8a15103eb0e6316253c12bf85ccbd2be8942", func := "typecase/typecasekeep.BigBack", spec := "bigBack", named := ["math/bits.overflowError"], apart := false }
def BigBackSaid : Prop := bigBackRow.holds Try.pinned (OpenSpec.ofChange bigBackSpec)

/-- ITS FALSE NEIGHBOUR: 'it returns false'. Refute it at one input. -/
def bigBackWrong : ChangeSpec := { name := "bigBack", fn := fun _ => fun
  | [d1, d2, d3] => { results := [.lit (.bool false)], args := [d1, d2, d3] }
  | _ => none }
def BigBackWrongFalsely : Prop := bigBackRow.holds Try.pinned (OpenSpec.ofChange bigBackWrong)

/- THE SECOND FORM. 'bulk': how many values and letters a reading holds, each counted each time it is reached (what is shared counts as often as it is met; a slice's spare places count too). A statement '..UptoSaid' is the law's where the arguments, and the package variables that the reading takes, are together of bulk at most 1048576: NARROWER than '..Said'. Prove '..Said' where nothing that the law and all that it calls make is longer than what came in: it says more and counts as full. Else prove '..UptoSaid'. A law counts once. -/
mutual
def uptoBulk {H : Type} : DataW H → Nat
  | .lit (.string bytes) => bytes.length + 1
  | .lit _ => 1
  | .nil => 1
  | .ptr d => uptoBulk d + 1
  | .slice elems spare => uptoBulkAll elems + uptoBulkAll spare + 1
  | .agg parts => uptoBulkAll parts + 1
  | .iface _ d => uptoBulk d + 1
  | .map entries => uptoBulkEntries entries + 1
  | .held _ => 1
def uptoBulkAll {H : Type} : List (DataW H) → Nat
  | [] => 0
  | d :: r => uptoBulk d + uptoBulkAll r
def uptoBulkEntries {H : Type} : List (Lit × DataW H) → Nat
  | [] => 0
  | x :: r => uptoBulkEntry x + uptoBulkEntries r
def uptoBulkEntry {H : Type} : Lit × DataW H → Nat
  | (.string bytes, d) => bytes.length + uptoBulk d + 1
  | (_, d) => uptoBulk d + 1
 end
def uptoSmall : (H : Type) → List (DataW H) → Bool := fun _ ds => decide (uptoBulkAll ds ≤ 1048576)
def OpenSpec.upto (s : _root_.Go.ChangeSpec) : _root_.Go.OpenSpec := { _root_.Go.OpenSpec.ofChange s with cond := some uptoSmall }

/-- 'typecasekeep.BigDigits', WHERE WHAT IT READS IS OF BULK AT MOST 1048576: true; the input reads as it did. -/
def bigDigitsUptoRow : OpenClaim := { program := "ytfkboaflfabmlaa", sum := "2f87c090b4a4aac762c5d7ddf38c8a15103eb0e6316253c12bf85ccbd2be8942", func := "typecase/typecasekeep.BigDigits", spec := "bigDigits", named := ["math/bits.overflowError"], apart := false, narrowed := true }
def BigDigitsUptoSaid : Prop := bigDigitsUptoRow.holds Try.pinned (OpenSpec.upto bigDigitsSpec)

/-- 'typecasekeep.BigLaws', WHERE WHAT IT READS IS OF BULK AT MOST 1048576: true; the input reads as it did. -/
def bigLawsUptoRow : OpenClaim := { program := "ytfkboaflfabmlaa", sum := "2f87c090b4a4aac762c5d7ddf38c8a15103eb0e6316253c12bf85ccbd2be8942", func := "typecase/typecasekeep.BigLaws", spec := "bigLaws", named := ["math/bits.overflowError"], apart := false, narrowed := true }
def BigLawsUptoSaid : Prop := bigLawsUptoRow.holds Try.pinned (OpenSpec.upto bigLawsSpec)

/-- 'typecasekeep.BigPowers', WHERE WHAT IT READS IS OF BULK AT MOST 1048576: true; the input reads as it did. -/
def bigPowersUptoRow : OpenClaim := { program := "ytfkboaflfabmlaa", sum := "2f87c090b4a4aac762c5d7ddf38c8a15103eb0e6316253c12bf85ccbd2be8942", func := "typecase/typecasekeep.BigPowers", spec := "bigPowers", named := ["math/bits.overflowError"], apart := false, narrowed := true }
def BigPowersUptoSaid : Prop := bigPowersUptoRow.holds Try.pinned (OpenSpec.upto bigPowersSpec)

/-- 'typecasekeep.BigBack', WHERE WHAT IT READS IS OF BULK AT MOST 1048576: true; the input reads as it did. -/
def bigBackUptoRow : OpenClaim := { program := "ytfkboaflfabmlaa", sum := "2f87c090b4a4aac762c5d7ddf38c8a15103eb0e6316253c12bf85ccbd2be8942", func := "typecase/typecasekeep.BigBack", spec := "bigBack", named := ["math/bits.overflowError"], apart := false, narrowed := true }
def BigBackUptoSaid : Prop := bigBackUptoRow.holds Try.pinned (OpenSpec.upto bigBackSpec)

end Rows
end Go.Proofs.Ytfkboaflfabmlaa
