/-
  DERIVED. GIVEN WITH THE SEED: THE CARDS: each row of YtmieegcnfnoiiaaDoorRows.lean that lists a variable, with what it lists TIED to the program's text (the seventh form; the later family's looks); each row that meets fmt, with fmt's text TOLD by the authors' own Lean function (tested against real Go, not proved from fmt's source: count such statements apart). THE CARD IS WHAT COUNTS. Prove the row's statement (the work); the ties are given (YtmieegcnfnoiiaaDoorTie.lean); close each card by the builder's one call (the guide's Derived/Test/ToyasCard.lean, 'card_holds'). Laid BY PROGRAM, IN A SANDBOX (cutbox-door.mjs). By AI agents, Wed Nov 11 2026. No macro, syntax, notation, axiom, sorry.
-/
import Derived.Test.YtmieegcnfnoiiaaDoorRows
import GoSem.ClaimSeven
namespace Go.Proofs.YtmieegcnfnoiiaaDoor
namespace Rows

/-- THE TIED CARD OF 'typecasekeep.FloatShort'. -/
def floatShortCard : Claim7 := { stood := { row := floatShortRow, standIns := [], harness := (true, "6cc02ebce17fbd662c4d72ad85e241999f3a9f9c1ef15f9bef913bb0eed7b7ef"), looks := false }, kinds := [], alts := [], laidByText := true, laidKinds := [.data, .data, .data, .data, .pinned], laidTests := true, laidLooks := .later }
def FloatShortCardSaid : Prop := Claim7.holds Tryd.pinned (.plain (OpenSpec.ofChange floatShortSpec)) floatShortCard

/-- THE TIED CARD OF 'typecasekeep.FloatOrder'. -/
def floatOrderCard : Claim7 := { stood := { row := floatOrderRow, standIns := [], harness := (true, "6cc02ebce17fbd662c4d72ad85e241999f3a9f9c1ef15f9bef913bb0eed7b7ef"), looks := false }, kinds := [], alts := [], laidByText := true, laidKinds := [.data, .data, .data, .data, .pinned], laidTests := true, laidLooks := .later }
def FloatOrderCardSaid : Prop := Claim7.holds Tryd.pinned (.plain (OpenSpec.ofChange floatOrderSpec)) floatOrderCard

/-- THE TIED CARD OF 'typecasekeep.FloatNear'. -/
def floatNearCard : Claim7 := { stood := { row := floatNearRow, standIns := [], harness := (true, "6cc02ebce17fbd662c4d72ad85e241999f3a9f9c1ef15f9bef913bb0eed7b7ef"), looks := false }, kinds := [], alts := [], laidByText := true, laidKinds := [.data, .data, .data, .data, .pinned], laidTests := true, laidLooks := .later }
def FloatNearCardSaid : Prop := Claim7.holds Tryd.pinned (.plain (OpenSpec.ofChange floatNearSpec)) floatNearCard

/-- THE TIED CARD OF 'typecasekeep.FloatBack'. -/
def floatBackCard : Claim7 := { stood := { row := floatBackRow, standIns := [], harness := (true, "6cc02ebce17fbd662c4d72ad85e241999f3a9f9c1ef15f9bef913bb0eed7b7ef"), looks := false }, kinds := [], alts := [], laidByText := true, laidKinds := [.data, .data, .data, .data, .pinned], laidTests := true, laidLooks := .later }
def FloatBackCardSaid : Prop := Claim7.holds Tryd.pinned (.plain (OpenSpec.ofChange floatBackSpec)) floatBackCard

/-- THE TIED CARD OF 'typecasekeep.FloatText'. -/
def floatTextCard : Claim7 := { stood := { row := floatTextRow, standIns := [], harness := (true, "6cc02ebce17fbd662c4d72ad85e241999f3a9f9c1ef15f9bef913bb0eed7b7ef"), looks := false }, kinds := [], alts := [], laidByText := true, laidKinds := [.data, .data, .data, .data, .pinned], laidTests := true, laidLooks := .later }
def FloatTextCardSaid : Prop := Claim7.holds Tryd.pinned (.plain (OpenSpec.ofChange floatTextSpec)) floatTextCard

/-- THE TIED CARD OF 'typecasekeep.FloatSame'. -/
def floatSameCard : Claim7 := { stood := { row := floatSameRow, standIns := [], harness := (true, "6cc02ebce17fbd662c4d72ad85e241999f3a9f9c1ef15f9bef913bb0eed7b7ef"), looks := false }, kinds := [], alts := [], laidByText := true, laidKinds := [.data, .data, .data, .data, .pinned], laidTests := true, laidLooks := .later }
def FloatSameCardSaid : Prop := Claim7.holds Tryd.pinned (.plain (OpenSpec.ofChange floatSameSpec)) floatSameCard

/-- THE SECOND FORM's CARD OF 'typecasekeep.FloatShort'. -/
def floatShortUptoCard : Claim7 := { stood := { row := floatShortUptoRow, standIns := [], harness := (true, "6cc02ebce17fbd662c4d72ad85e241999f3a9f9c1ef15f9bef913bb0eed7b7ef"), looks := false }, kinds := [], alts := [], laidByText := true, laidKinds := [.data, .data, .data, .data, .pinned], laidTests := true, laidLooks := .later }
def FloatShortUptoCardSaid : Prop := Claim7.holds Tryd.pinned (.plain (OpenSpec.upto floatShortSpec)) floatShortUptoCard

/-- THE SECOND FORM's CARD OF 'typecasekeep.FloatOrder'. -/
def floatOrderUptoCard : Claim7 := { stood := { row := floatOrderUptoRow, standIns := [], harness := (true, "6cc02ebce17fbd662c4d72ad85e241999f3a9f9c1ef15f9bef913bb0eed7b7ef"), looks := false }, kinds := [], alts := [], laidByText := true, laidKinds := [.data, .data, .data, .data, .pinned], laidTests := true, laidLooks := .later }
def FloatOrderUptoCardSaid : Prop := Claim7.holds Tryd.pinned (.plain (OpenSpec.upto floatOrderSpec)) floatOrderUptoCard

/-- THE SECOND FORM's CARD OF 'typecasekeep.FloatNear'. -/
def floatNearUptoCard : Claim7 := { stood := { row := floatNearUptoRow, standIns := [], harness := (true, "6cc02ebce17fbd662c4d72ad85e241999f3a9f9c1ef15f9bef913bb0eed7b7ef"), looks := false }, kinds := [], alts := [], laidByText := true, laidKinds := [.data, .data, .data, .data, .pinned], laidTests := true, laidLooks := .later }
def FloatNearUptoCardSaid : Prop := Claim7.holds Tryd.pinned (.plain (OpenSpec.upto floatNearSpec)) floatNearUptoCard

/-- THE SECOND FORM's CARD OF 'typecasekeep.FloatBack'. -/
def floatBackUptoCard : Claim7 := { stood := { row := floatBackUptoRow, standIns := [], harness := (true, "6cc02ebce17fbd662c4d72ad85e241999f3a9f9c1ef15f9bef913bb0eed7b7ef"), looks := false }, kinds := [], alts := [], laidByText := true, laidKinds := [.data, .data, .data, .data, .pinned], laidTests := true, laidLooks := .later }
def FloatBackUptoCardSaid : Prop := Claim7.holds Tryd.pinned (.plain (OpenSpec.upto floatBackSpec)) floatBackUptoCard

/-- THE SECOND FORM's CARD OF 'typecasekeep.FloatText'. -/
def floatTextUptoCard : Claim7 := { stood := { row := floatTextUptoRow, standIns := [], harness := (true, "6cc02ebce17fbd662c4d72ad85e241999f3a9f9c1ef15f9bef913bb0eed7b7ef"), looks := false }, kinds := [], alts := [], laidByText := true, laidKinds := [.data, .data, .data, .data, .pinned], laidTests := true, laidLooks := .later }
def FloatTextUptoCardSaid : Prop := Claim7.holds Tryd.pinned (.plain (OpenSpec.upto floatTextSpec)) floatTextUptoCard

/-- THE SECOND FORM's CARD OF 'typecasekeep.FloatSame'. -/
def floatSameUptoCard : Claim7 := { stood := { row := floatSameUptoRow, standIns := [], harness := (true, "6cc02ebce17fbd662c4d72ad85e241999f3a9f9c1ef15f9bef913bb0eed7b7ef"), looks := false }, kinds := [], alts := [], laidByText := true, laidKinds := [.data, .data, .data, .data, .pinned], laidTests := true, laidLooks := .later }
def FloatSameUptoCardSaid : Prop := Claim7.holds Tryd.pinned (.plain (OpenSpec.upto floatSameSpec)) floatSameUptoCard
end Rows
end Go.Proofs.YtmieegcnfnoiiaaDoor
