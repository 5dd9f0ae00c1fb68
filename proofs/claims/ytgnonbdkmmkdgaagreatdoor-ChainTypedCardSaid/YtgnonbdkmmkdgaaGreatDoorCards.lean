/-
  DERIVED. GIVEN WITH THE SEED: THE CARDS: each row of YtgnonbdkmmkdgaaGreatDoorRows.lean that lists a variable, with what it lists TIED to the program's text (the seventh form; the later family's looks); each row that meets fmt, with fmt's text TOLD by the authors' own Lean function (tested against real Go, not proved from fmt's source: count such statements apart). THE CARD IS WHAT COUNTS. Prove the row's statement (the work); the ties are given (YtgnonbdkmmkdgaaGreatDoorTie.lean); close each card by the builder's one call (the guide's Derived/Test/ToyasCard.lean, 'card_holds'). Laid BY PROGRAM, IN A SANDBOX (cutbox-door.mjs). By AI agents, Wed Nov 11 2026. No macro, syntax, notation, axiom, sorry.
-/
import Derived.Test.YtgnonbdkmmkdgaaGreatDoorRows
import GoSem.ClaimSeven
namespace Go.Proofs.YtgnonbdkmmkdgaaGreatDoor
namespace Rows

/-- THE TIED CARD OF 'typecasekeep.ChainTyped'. -/
def chainTypedCard : Claim7 := { stood := { row := chainTypedRow, standIns := [], harness := (true, "7d8951f6856e67775bb62b479295eb849c6d9533d85d621d26d035a11868cbc6"), looks := false }, kinds := [], alts := [], laidByText := true, laidKinds := [.data, .data, .data, .data, .pinned], laidTests := true, laidLooks := .later }
def ChainTypedCardSaid : Prop := Claim7.holds Tryz.pinned (.plain (OpenSpec.ofChange chainTypedSpec)) chainTypedCard

/-- THE SECOND FORM's CARD OF 'typecasekeep.ChainTyped'. -/
def chainTypedUptoCard : Claim7 := { stood := { row := chainTypedUptoRow, standIns := [], harness := (true, "7d8951f6856e67775bb62b479295eb849c6d9533d85d621d26d035a11868cbc6"), looks := false }, kinds := [], alts := [], laidByText := true, laidKinds := [.data, .data, .data, .data, .pinned], laidTests := true, laidLooks := .later }
def ChainTypedUptoCardSaid : Prop := Claim7.holds Tryz.pinned (.plain (OpenSpec.upto chainTypedSpec)) chainTypedUptoCard
end Rows
end Go.Proofs.YtgnonbdkmmkdgaaGreatDoor
