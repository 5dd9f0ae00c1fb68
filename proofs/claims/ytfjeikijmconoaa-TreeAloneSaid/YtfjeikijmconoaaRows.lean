/-
  No cell of these rows narrows 'for every input' (looked for: loops, veiled, ifaces, maps, wideKeys, modest, calm, conditions, laid).
  DERIVED. THE GIVEN ROWS OF THIS SEAT. 6 by the template 'for every input the law returns true; each argument reads behind the call as it read before'; 0 by the template 'total and deterministic' (their statements: YtfjeikijmconoaaTotals.lean).
  GIVEN WITH THE SEED: the statements are not yours to turn. If you find one false, say at which input.
  Laid BY PROGRAM, IN A SANDBOX (cutbox-rows.mjs): the forced cells as the released guide's own fill.sh prints them over the translation d013a7de272c425e… (all of the seat's roots in one cut). By AI agents, Wed Nov 11 2026. No macro, syntax, notation, axiom, sorry.
-/
import Derived.Test.YtfjeikijmconoaaChecked
import GoSem.Claim
import GoSem.ClaimJoined
import GoSem.ClaimMapViews
import Derived.JoinedTies
import Derived.KernelRfl
namespace Go.Proofs.Ytfjeikijmconoaa
/- THE CELL 'sum', in the pinned program and in every row, IS THE sha256 OF THE DUMP (.gsa) THAT YtfjeikijmconoaaProg.lean LOADS. Nothing in Lean hashes anything: it is a label: what it is worth is what the hold of that sum in a sandbox is worth. -/
noncomputable def Try.pinned : Pinned := { name := "ytfjeikijmconoaa", sum := "d013a7de272c425e0879111fdae6c5243a69d321c302bcc4d061c6ce028b994b", checked := Try.checked }
namespace Rows
def none {H : Type} : Left H := { results := [], args := [] }

/-- 'typecasekeep.TokTile': WHATEVER THE INPUT: true; the input reads as it did. -/
def tokTileSpec : ChangeSpec := { name := "tokTile", fn := fun _ => fun
  | [d] => { results := [.lit (.bool true)], args := [d] }
  | _ => none }
def tokTileRow : OpenClaim := { program := "ytfjeikijmconoaa", sum := "d013a7de272c425e0879111fdae6c5243a69d321c302bcc4d061c6ce028b994b", func := "typecase/typecasekeep.TokTile", spec := "tokTile", inPlace := ["internal/bytealg.IndexByteString", "internal/bytealg.IndexString"], named := ["internal/bytealg.MaxLen"], apart := false }
def TokTileSaid : Prop := tokTileRow.holds Try.pinned (OpenSpec.ofChange tokTileSpec)

/-- ITS FALSE NEIGHBOUR: 'it returns false'. Refute it at one input. -/
def tokTileWrong : ChangeSpec := { name := "tokTile", fn := fun _ => fun
  | [d] => { results := [.lit (.bool false)], args := [d] }
  | _ => none }
def TokTileWrongFalsely : Prop := tokTileRow.holds Try.pinned (OpenSpec.ofChange tokTileWrong)

/-- 'typecasekeep.TokAlone': WHATEVER THE INPUT: true; the input reads as it did. -/
def tokAloneSpec : ChangeSpec := { name := "tokAlone", fn := fun _ => fun
  | [d1, d2] => { results := [.lit (.bool true)], args := [d1, d2] }
  | _ => none }
def tokAloneRow : OpenClaim := { program := "ytfjeikijmconoaa", sum := "d013a7de272c425e0879111fdae6c5243a69d321c302bcc4d061c6ce028b994b", func := "typecase/typecasekeep.TokAlone", spec := "tokAlone", inPlace := ["internal/bytealg.IndexByteString", "internal/bytealg.IndexString"], named := ["internal/bytealg.MaxLen"], apart := false }
def TokAloneSaid : Prop := tokAloneRow.holds Try.pinned (OpenSpec.ofChange tokAloneSpec)

/-- ITS FALSE NEIGHBOUR: 'it returns false'. Refute it at one input. -/
def tokAloneWrong : ChangeSpec := { name := "tokAlone", fn := fun _ => fun
  | [d1, d2] => { results := [.lit (.bool false)], args := [d1, d2] }
  | _ => none }
def TokAloneWrongFalsely : Prop := tokAloneRow.holds Try.pinned (OpenSpec.ofChange tokAloneWrong)

/-- 'typecasekeep.TokFront': WHATEVER THE INPUT: true; the input reads as it did. -/
def tokFrontSpec : ChangeSpec := { name := "tokFront", fn := fun _ => fun
  | [d1, d2] => { results := [.lit (.bool true)], args := [d1, d2] }
  | _ => none }
def tokFrontRow : OpenClaim := { program := "ytfjeikijmconoaa", sum := "d013a7de272c425e0879111fdae6c5243a69d321c302bcc4d061c6ce028b994b", func := "typecase/typecasekeep.TokFront", spec := "tokFront", inPlace := ["internal/bytealg.IndexByteString", "internal/bytealg.IndexString"], named := ["internal/bytealg.MaxLen"], apart := false }
def TokFrontSaid : Prop := tokFrontRow.holds Try.pinned (OpenSpec.ofChange tokFrontSpec)

/-- ITS FALSE NEIGHBOUR: 'it returns false'. Refute it at one input. -/
def tokFrontWrong : ChangeSpec := { name := "tokFront", fn := fun _ => fun
  | [d1, d2] => { results := [.lit (.bool false)], args := [d1, d2] }
  | _ => none }
def TokFrontWrongFalsely : Prop := tokFrontRow.holds Try.pinned (OpenSpec.ofChange tokFrontWrong)

/-- 'typecasekeep.TreeFirst': WHATEVER THE INPUT: true; the input reads as it did. -/
def treeFirstSpec : ChangeSpec := { name := "treeFirst", fn := fun _ => fun
  | [d] => { results := [.lit (.bool true)], args := [d] }
  | _ => none }
def treeFirstRow : OpenClaim := { program := "ytfjeikijmconoaa", sum := "d013a7de272c425e0879111fdae6c5243a69d321c302bcc4d061c6ce028b994b", func := "typecase/typecasekeep.TreeFirst", spec := "treeFirst", inPlace := ["internal/bytealg.IndexByteString", "internal/bytealg.IndexString"], unfollowed := true, recurses := true, named := ["internal/bytealg.MaxLen"], apart := false }
def TreeFirstSaid : Prop := treeFirstRow.holds Try.pinned (OpenSpec.ofChange treeFirstSpec)

/-- ITS FALSE NEIGHBOUR: 'it returns false'. Refute it at one input. -/
def treeFirstWrong : ChangeSpec := { name := "treeFirst", fn := fun _ => fun
  | [d] => { results := [.lit (.bool false)], args := [d] }
  | _ => none }
def TreeFirstWrongFalsely : Prop := treeFirstRow.holds Try.pinned (OpenSpec.ofChange treeFirstWrong)

/-- 'typecasekeep.TreeAlone': WHATEVER THE INPUT: true; the input reads as it did. -/
def treeAloneSpec : ChangeSpec := { name := "treeAlone", fn := fun _ => fun
  | [d1, d2] => { results := [.lit (.bool true)], args := [d1, d2] }
  | _ => none }
def treeAloneRow : OpenClaim := { program := "ytfjeikijmconoaa", sum := "d013a7de272c425e0879111fdae6c5243a69d321c302bcc4d061c6ce028b994b", func := "typecase/typecasekeep.TreeAlone", spec := "treeAlone", inPlace := ["internal/bytealg.IndexByteString", "internal/bytealg.IndexString"], unfollowed := true, recurses := true, named := ["internal/bytealg.MaxLen"], apart := false }
def TreeAloneSaid : Prop := treeAloneRow.holds Try.pinned (OpenSpec.ofChange treeAloneSpec)

/-- ITS FALSE NEIGHBOUR: 'it returns false'. Refute it at one input. -/
def treeAloneWrong : ChangeSpec := { name := "treeAlone", fn := fun _ => fun
  | [d1, d2] => { results := [.lit (.bool false)], args := [d1, d2] }
  | _ => none }
def TreeAloneWrongFalsely : Prop := treeAloneRow.holds Try.pinned (OpenSpec.ofChange treeAloneWrong)

/-- 'typecasekeep.TreeCovers': WHATEVER THE INPUT: true; the input reads as it did. -/
def treeCoversSpec : ChangeSpec := { name := "treeCovers", fn := fun _ => fun
  | [d] => { results := [.lit (.bool true)], args := [d] }
  | _ => none }
def treeCoversRow : OpenClaim := { program := "ytfjeikijmconoaa", sum := "d013a7de272c425e0879111fdae6c5243a69d321c302bcc4d061c6ce028b994b", func := "typecase/typecasekeep.TreeCovers", spec := "treeCovers", inPlace := ["internal/bytealg.IndexByteString", "internal/bytealg.IndexString"], unfollowed := true, recurses := true, named := ["internal/bytealg.MaxLen"], apart := false }
def TreeCoversSaid : Prop := treeCoversRow.holds Try.pinned (OpenSpec.ofChange treeCoversSpec)

/-- ITS FALSE NEIGHBOUR: 'it returns false'. Refute it at one input. -/
def treeCoversWrong : ChangeSpec := { name := "treeCovers", fn := fun _ => fun
  | [d] => { results := [.lit (.bool false)], args := [d] }
  | _ => none }
def TreeCoversWrongFalsely : Prop := treeCoversRow.holds Try.pinned (OpenSpec.ofChange treeCoversWrong)

/- THE SECOND FORM. 'bulk': how many values and letters a reading holds, each counted each time it is reached (what is shared counts as often as it is met; a slice's spare places count too). A statement '..UptoSaid' is the law's where the arguments, and the package variables that the reading takes, are together of bulk at most 1048576: NARROWER than '..Said'. Prove '..Said' where nothing that the law and all that it calls make is longer than what came in: it says more and counts as full. Else prove '..UptoSaid'. A law counts once. -/
mutual
def uptoBulk {H : Type} : DataW H → Nat
  | .lit (.string bytes) => bytes.length + 1
  | .lit _ => 1
  | .nil => 1
  | .ptr d => uptoBulk d + 1
  | .slice elems spare => uptoBulkAll elems + uptoBulkAll spare + 1
  | .agg parts => uptoBulkAll parts + 1
  | .iface _ d => uptoBulk d + 1
  | .map entries => uptoBulkEntries entries + 1
  | .held _ => 1
def uptoBulkAll {H : Type} : List (DataW H) → Nat
  | [] => 0
  | d :: r => uptoBulk d + uptoBulkAll r
def uptoBulkEntries {H : Type} : List (Lit × DataW H) → Nat
  | [] => 0
  | x :: r => uptoBulkEntry x + uptoBulkEntries r
def uptoBulkEntry {H : Type} : Lit × DataW H → Nat
  | (.string bytes, d) => bytes.length + uptoBulk d + 1
  | (_, d) => uptoBulk d + 1
 end
def uptoSmall : (H : Type) → List (DataW H) → Bool := fun _ ds => decide (uptoBulkAll ds ≤ 1048576)
def OpenSpec.upto (s : _root_.Go.ChangeSpec) : _root_.Go.OpenSpec := { _root_.Go.OpenSpec.ofChange s with cond := some uptoSmall }

/-- 'typecasekeep.TokTile', WHERE WHAT IT READS IS OF BULK AT MOST 1048576: true; the input reads as it did. -/
def tokTileUptoRow : OpenClaim := { program := "ytfjeikijmconoaa", sum := "d013a7de272c425e0879111fdae6c5243a69d321c302bcc4d061c6ce028b994b", func := "typecase/typecasekeep.TokTile", spec := "tokTile", inPlace := ["internal/bytealg.IndexByteString", "internal/bytealg.IndexString"], named := ["internal/bytealg.MaxLen"], apart := false, narrowed := true }
def TokTileUptoSaid : Prop := tokTileUptoRow.holds Try.pinned (OpenSpec.upto tokTileSpec)

/-- 'typecasekeep.TokAlone', WHERE WHAT IT READS IS OF BULK AT MOST 1048576: true; the input reads as it did. -/
def tokAloneUptoRow : OpenClaim := { program := "ytfjeikijmconoaa", sum := "d013a7de272c425e0879111fdae6c5243a69d321c302bcc4d061c6ce028b994b", func := "typecase/typecasekeep.TokAlone", spec := "tokAlone", inPlace := ["internal/bytealg.IndexByteString", "internal/bytealg.IndexString"], named := ["internal/bytealg.MaxLen"], apart := false, narrowed := true }
def TokAloneUptoSaid : Prop := tokAloneUptoRow.holds Try.pinned (OpenSpec.upto tokAloneSpec)

/-- 'typecasekeep.TokFront', WHERE WHAT IT READS IS OF BULK AT MOST 1048576: true; the input reads as it did. -/
def tokFrontUptoRow : OpenClaim := { program := "ytfjeikijmconoaa", sum := "d013a7de272c425e0879111fdae6c5243a69d321c302bcc4d061c6ce028b994b", func := "typecase/typecasekeep.TokFront", spec := "tokFront", inPlace := ["internal/bytealg.IndexByteString", "internal/bytealg.IndexString"], named := ["internal/bytealg.MaxLen"], apart := false, narrowed := true }
def TokFrontUptoSaid : Prop := tokFrontUptoRow.holds Try.pinned (OpenSpec.upto tokFrontSpec)

/-- 'typecasekeep.TreeFirst', WHERE WHAT IT READS IS OF BULK AT MOST 1048576: true; the input reads as it did. -/
def treeFirstUptoRow : OpenClaim := { program := "ytfjeikijmconoaa", sum := "d013a7de272c425e0879111fdae6c5243a69d321c302bcc4d061c6ce028b994b", func := "typecase/typecasekeep.TreeFirst", spec := "treeFirst", inPlace := ["internal/bytealg.IndexByteString", "internal/bytealg.IndexString"], unfollowed := true, recurses := true, named := ["internal/bytealg.MaxLen"], apart := false, narrowed := true }
def TreeFirstUptoSaid : Prop := treeFirstUptoRow.holds Try.pinned (OpenSpec.upto treeFirstSpec)

/-- 'typecasekeep.TreeAlone', WHERE WHAT IT READS IS OF BULK AT MOST 1048576: true; the input reads as it did. -/
def treeAloneUptoRow : OpenClaim := { program := "ytfjeikijmconoaa", sum := "d013a7de272c425e0879111fdae6c5243a69d321c302bcc4d061c6ce028b994b", func := "typecase/typecasekeep.TreeAlone", spec := "treeAlone", inPlace := ["internal/bytealg.IndexByteString", "internal/bytealg.IndexString"], unfollowed := true, recurses := true, named := ["internal/bytealg.MaxLen"], apart := false, narrowed := true }
def TreeAloneUptoSaid : Prop := treeAloneUptoRow.holds Try.pinned (OpenSpec.upto treeAloneSpec)

/-- 'typecasekeep.TreeCovers', WHERE WHAT IT READS IS OF BULK AT MOST 1048576: true; the input reads as it did. -/
def treeCoversUptoRow : OpenClaim := { program := "ytfjeikijmconoaa", sum := "d013a7de272c425e0879111fdae6c5243a69d321c302bcc4d061c6ce028b994b", func := "typecase/typecasekeep.TreeCovers", spec := "treeCovers", inPlace := ["internal/bytealg.IndexByteString", "internal/bytealg.IndexString"], unfollowed := true, recurses := true, named := ["internal/bytealg.MaxLen"], apart := false, narrowed := true }
def TreeCoversUptoSaid : Prop := treeCoversUptoRow.holds Try.pinned (OpenSpec.upto treeCoversSpec)

end Rows
end Go.Proofs.Ytfjeikijmconoaa
