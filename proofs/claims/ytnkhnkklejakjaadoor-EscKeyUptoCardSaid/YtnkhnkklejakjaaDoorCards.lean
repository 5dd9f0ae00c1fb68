/-
  DERIVED. GIVEN WITH THE SEED: THE CARDS: each row of YtnkhnkklejakjaaDoorRows.lean that lists a variable, with what it lists TIED to the program's text (the seventh form; the later family's looks); each row that meets fmt, with fmt's text TOLD by the authors' own Lean function (tested against real Go, not proved from fmt's source: count such statements apart). THE CARD IS WHAT COUNTS. Prove the row's statement (the work); the ties are given (YtnkhnkklejakjaaDoorTie.lean); close each card by the builder's one call (the guide's Derived/Test/ToyasCard.lean, 'card_holds'). Laid BY PROGRAM, IN A SANDBOX (cutbox-door.mjs). By AI agents, Wed Nov 11 2026. No macro, syntax, notation, axiom, sorry.
-/
import Derived.Test.YtnkhnkklejakjaaDoorRows
import GoSem.ClaimSeven
namespace Go.Proofs.YtnkhnkklejakjaaDoor
namespace Rows

/-- THE TIED CARD OF 'typecasekeep.EscSame'. -/
def escSameCard : Claim7 := { stood := { row := escSameRow, standIns := [], harness := (true, "ffa2db81664c1222f84ed46f0a4a8688ae65abdee93d0b1cc34f8d9e91081f3f"), looks := true }, kinds := [], alts := [], laidByText := true, laidKinds := [.data, .data, .data, .data, .sentinel, .sentinel, .pinned], laidTests := true, laidLooks := .later }
def EscSameCardSaid : Prop := Claim7.holds Tryd.pinned (.plain (OpenSpec.ofChange escSameSpec)) escSameCard

/-- THE TIED CARD OF 'typecasekeep.EscKey'. -/
def escKeyCard : Claim7 := { stood := { row := escKeyRow, standIns := [], harness := (true, "ffa2db81664c1222f84ed46f0a4a8688ae65abdee93d0b1cc34f8d9e91081f3f"), looks := true }, kinds := [], alts := [], laidByText := true, laidKinds := [.data, .data, .data, .data, .sentinel, .sentinel, .pinned], laidTests := true, laidLooks := .later }
def EscKeyCardSaid : Prop := Claim7.holds Tryd.pinned (.plain (OpenSpec.ofChange escKeySpec)) escKeyCard

/-- THE TIED CARD OF 'typecasekeep.EscBack'. -/
def escBackCard : Claim7 := { stood := { row := escBackRow, standIns := [], harness := (true, "ffa2db81664c1222f84ed46f0a4a8688ae65abdee93d0b1cc34f8d9e91081f3f"), looks := true }, kinds := [], alts := [], laidByText := true, laidKinds := [.data, .data, .data, .data, .sentinel, .sentinel, .pinned], laidTests := true, laidLooks := .later }
def EscBackCardSaid : Prop := Claim7.holds Tryd.pinned (.plain (OpenSpec.ofChange escBackSpec)) escBackCard

/-- THE SECOND FORM's CARD OF 'typecasekeep.EscSame'. -/
def escSameUptoCard : Claim7 := { stood := { row := escSameUptoRow, standIns := [], harness := (true, "ffa2db81664c1222f84ed46f0a4a8688ae65abdee93d0b1cc34f8d9e91081f3f"), looks := true }, kinds := [], alts := [], laidByText := true, laidKinds := [.data, .data, .data, .data, .sentinel, .sentinel, .pinned], laidTests := true, laidLooks := .later }
def EscSameUptoCardSaid : Prop := Claim7.holds Tryd.pinned (.plain (OpenSpec.upto escSameSpec)) escSameUptoCard

/-- THE SECOND FORM's CARD OF 'typecasekeep.EscKey'. -/
def escKeyUptoCard : Claim7 := { stood := { row := escKeyUptoRow, standIns := [], harness := (true, "ffa2db81664c1222f84ed46f0a4a8688ae65abdee93d0b1cc34f8d9e91081f3f"), looks := true }, kinds := [], alts := [], laidByText := true, laidKinds := [.data, .data, .data, .data, .sentinel, .sentinel, .pinned], laidTests := true, laidLooks := .later }
def EscKeyUptoCardSaid : Prop := Claim7.holds Tryd.pinned (.plain (OpenSpec.upto escKeySpec)) escKeyUptoCard

/-- THE SECOND FORM's CARD OF 'typecasekeep.EscBack'. -/
def escBackUptoCard : Claim7 := { stood := { row := escBackUptoRow, standIns := [], harness := (true, "ffa2db81664c1222f84ed46f0a4a8688ae65abdee93d0b1cc34f8d9e91081f3f"), looks := true }, kinds := [], alts := [], laidByText := true, laidKinds := [.data, .data, .data, .data, .sentinel, .sentinel, .pinned], laidTests := true, laidLooks := .later }
def EscBackUptoCardSaid : Prop := Claim7.holds Tryd.pinned (.plain (OpenSpec.upto escBackSpec)) escBackUptoCard
end Rows
end Go.Proofs.YtnkhnkklejakjaaDoor
