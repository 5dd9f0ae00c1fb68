/-
  DERIVED. GIVEN WITH THE SEED: THE CARDS: each row of YtpoagjiknmahiaaDoorRows.lean that lists a variable, with what it lists TIED to the program's text (the seventh form; the later family's looks); each row that meets fmt, with fmt's text TOLD by the authors' own Lean function (tested against real Go, not proved from fmt's source: count such statements apart). THE CARD IS WHAT COUNTS. Prove the row's statement (the work); the ties are given (YtpoagjiknmahiaaDoorTie.lean); close each card by the builder's one call (the guide's Derived/Test/ToyasCard.lean, 'card_holds'). Laid BY PROGRAM, IN A SANDBOX (cutbox-door.mjs). By AI agents, Wed Nov 11 2026. No macro, syntax, notation, axiom, sorry.
-/
import Derived.Test.YtpoagjiknmahiaaDoorRows
import GoSem.ClaimSeven
namespace Go.Proofs.YtpoagjiknmahiaaDoor
namespace Rows

/-- THE TIED CARD OF 'typecasekeep.NumSign'. -/
def numSignCard : Claim7 := { stood := { row := numSignRow, standIns := [], harness := (true, "7c4dbe3085b1a44adbbfedf8395d1052ecee921e3efcea48416182c025be9f5c"), looks := false }, kinds := [], alts := [], laidByText := true, laidKinds := [.data, .data, .data], laidTests := true, laidLooks := .later }
def NumSignCardSaid : Prop := Claim7.holds Tryd.pinned (.plain (OpenSpec.ofChange numSignSpec)) numSignCard

/-- THE TIED CARD OF 'typecasekeep.NumUnder'. -/
def numUnderCard : Claim7 := { stood := { row := numUnderRow, standIns := [], harness := (true, "7c4dbe3085b1a44adbbfedf8395d1052ecee921e3efcea48416182c025be9f5c"), looks := false }, kinds := [], alts := [], laidByText := true, laidKinds := [.data, .data, .data], laidTests := true, laidLooks := .later }
def NumUnderCardSaid : Prop := Claim7.holds Tryd.pinned (.plain (OpenSpec.ofChange numUnderSpec)) numUnderCard

/-- THE TIED CARD OF 'typecasekeep.NumBack'. -/
def numBackCard : Claim7 := { stood := { row := numBackRow, standIns := [], harness := (true, "7c4dbe3085b1a44adbbfedf8395d1052ecee921e3efcea48416182c025be9f5c"), looks := false }, kinds := [], alts := [], laidByText := true, laidKinds := [.data, .data, .data], laidTests := true, laidLooks := .later }
def NumBackCardSaid : Prop := Claim7.holds Tryd.pinned (.plain (OpenSpec.ofChange numBackSpec)) numBackCard

/-- THE SECOND FORM's CARD OF 'typecasekeep.NumSign'. -/
def numSignUptoCard : Claim7 := { stood := { row := numSignUptoRow, standIns := [], harness := (true, "7c4dbe3085b1a44adbbfedf8395d1052ecee921e3efcea48416182c025be9f5c"), looks := false }, kinds := [], alts := [], laidByText := true, laidKinds := [.data, .data, .data], laidTests := true, laidLooks := .later }
def NumSignUptoCardSaid : Prop := Claim7.holds Tryd.pinned (.plain (OpenSpec.upto numSignSpec)) numSignUptoCard

/-- THE SECOND FORM's CARD OF 'typecasekeep.NumUnder'. -/
def numUnderUptoCard : Claim7 := { stood := { row := numUnderUptoRow, standIns := [], harness := (true, "7c4dbe3085b1a44adbbfedf8395d1052ecee921e3efcea48416182c025be9f5c"), looks := false }, kinds := [], alts := [], laidByText := true, laidKinds := [.data, .data, .data], laidTests := true, laidLooks := .later }
def NumUnderUptoCardSaid : Prop := Claim7.holds Tryd.pinned (.plain (OpenSpec.upto numUnderSpec)) numUnderUptoCard

/-- THE SECOND FORM's CARD OF 'typecasekeep.NumBack'. -/
def numBackUptoCard : Claim7 := { stood := { row := numBackUptoRow, standIns := [], harness := (true, "7c4dbe3085b1a44adbbfedf8395d1052ecee921e3efcea48416182c025be9f5c"), looks := false }, kinds := [], alts := [], laidByText := true, laidKinds := [.data, .data, .data], laidTests := true, laidLooks := .later }
def NumBackUptoCardSaid : Prop := Claim7.holds Tryd.pinned (.plain (OpenSpec.upto numBackSpec)) numBackUptoCard
end Rows
end Go.Proofs.YtpoagjiknmahiaaDoor
