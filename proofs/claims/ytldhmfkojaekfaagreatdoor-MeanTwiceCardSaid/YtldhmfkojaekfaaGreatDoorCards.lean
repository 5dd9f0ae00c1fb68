/-
  DERIVED. GIVEN WITH THE SEED: THE CARDS: each row of YtldhmfkojaekfaaGreatDoorRows.lean that lists a variable, with what it lists TIED to the program's text (the seventh form; the later family's looks); each row that meets fmt, with fmt's text TOLD by the authors' own Lean function (tested against real Go, not proved from fmt's source: count such statements apart). THE CARD IS WHAT COUNTS. Prove the row's statement (the work); the ties are given (YtldhmfkojaekfaaGreatDoorTie.lean); close each card by the builder's one call (the guide's Derived/Test/ToyasCard.lean, 'card_holds'). Laid BY PROGRAM, IN A SANDBOX (cutbox-door.mjs). By AI agents, Wed Nov 11 2026. No macro, syntax, notation, axiom, sorry.
-/
import Derived.Test.YtldhmfkojaekfaaGreatDoorRows
import GoSem.ClaimSeven
namespace Go.Proofs.YtldhmfkojaekfaaGreatDoor
namespace Rows

/-- THE TIED CARD OF 'typecasekeep.ShowSame'. -/
def showSameCard : Claim7 := { stood := { row := showSameRow, standIns := [], harness := (true, "f594cb3dcca9657fc48264d2ceb26b327c3cea64d6088542678f76e244681a8b"), looks := true }, kinds := [], alts := [], laidByText := true, laidKinds := [.data, .data, .data, .data, .pinned], laidTests := true, laidLooks := .later }
def ShowSameCardSaid : Prop := Claim7.holds Tryz.pinned (.plain (OpenSpec.ofChange showSameSpec)) showSameCard

/-- THE TIED CARD OF 'typecasekeep.MeanGood'. -/
def meanGoodCard : Claim7 := { stood := { row := meanGoodRow, standIns := [], harness := (true, "f594cb3dcca9657fc48264d2ceb26b327c3cea64d6088542678f76e244681a8b"), looks := true }, kinds := [], alts := [], laidByText := true, laidKinds := [.data, .data, .data, .data, .sentinel, .sentinel, .pinned], laidTests := true, laidLooks := .later }
def MeanGoodCardSaid : Prop := Claim7.holds Tryz.pinned (.plain (OpenSpec.ofChange meanGoodSpec)) meanGoodCard

/-- THE TIED CARD OF 'typecasekeep.MeanBlank'. -/
def meanBlankCard : Claim7 := { stood := { row := meanBlankRow, standIns := [], harness := (true, "f594cb3dcca9657fc48264d2ceb26b327c3cea64d6088542678f76e244681a8b"), looks := true }, kinds := [], alts := [], laidByText := true, laidKinds := [.data, .data, .data, .data, .sentinel, .sentinel, .pinned], laidTests := true, laidLooks := .later }
def MeanBlankCardSaid : Prop := Claim7.holds Tryz.pinned (.plain (OpenSpec.ofChange meanBlankSpec)) meanBlankCard

/-- THE TIED CARD OF 'typecasekeep.MeanList'. -/
def meanListCard : Claim7 := { stood := { row := meanListRow, standIns := [], harness := (true, "f594cb3dcca9657fc48264d2ceb26b327c3cea64d6088542678f76e244681a8b"), looks := true }, kinds := [], alts := [], laidByText := true, laidKinds := [.data, .data, .data, .data, .sentinel, .sentinel, .pinned], laidTests := true, laidLooks := .later }
def MeanListCardSaid : Prop := Claim7.holds Tryz.pinned (.plain (OpenSpec.ofChange meanListSpec)) meanListCard

/-- THE TIED CARD OF 'typecasekeep.ShowAgain'. -/
def showAgainCard : Claim7 := { stood := { row := showAgainRow, standIns := [], harness := (true, "f594cb3dcca9657fc48264d2ceb26b327c3cea64d6088542678f76e244681a8b"), looks := true }, kinds := [], alts := [], laidByText := true, laidKinds := [.data, .data, .data, .data, .sentinel, .sentinel, .pinned], laidTests := true, laidLooks := .later }
def ShowAgainCardSaid : Prop := Claim7.holds Tryz.pinned (.plain (OpenSpec.ofChange showAgainSpec)) showAgainCard

/-- THE TIED CARD OF 'typecasekeep.MeanTwice'. -/
def meanTwiceCard : Claim7 := { stood := { row := meanTwiceRow, standIns := [], harness := (true, "f594cb3dcca9657fc48264d2ceb26b327c3cea64d6088542678f76e244681a8b"), looks := true }, kinds := [], alts := [], laidByText := true, laidKinds := [.data, .data, .data, .data, .sentinel, .sentinel, .pinned], laidTests := true, laidLooks := .later }
def MeanTwiceCardSaid : Prop := Claim7.holds Tryz.pinned (.plain (OpenSpec.ofChange meanTwiceSpec)) meanTwiceCard

/-- THE TIED CARD OF 'typecasekeep.ShowBack'. -/
def showBackCard : Claim7 := { stood := { row := showBackRow, standIns := [], harness := (true, "f594cb3dcca9657fc48264d2ceb26b327c3cea64d6088542678f76e244681a8b"), looks := true }, kinds := [], alts := [], laidByText := true, laidKinds := [.data, .data, .data, .data, .sentinel, .sentinel, .pinned], laidTests := true, laidLooks := .later }
def ShowBackCardSaid : Prop := Claim7.holds Tryz.pinned (.plain (OpenSpec.ofChange showBackSpec)) showBackCard

/-- THE SECOND FORM's CARD OF 'typecasekeep.ShowSame'. -/
def showSameUptoCard : Claim7 := { stood := { row := showSameUptoRow, standIns := [], harness := (true, "f594cb3dcca9657fc48264d2ceb26b327c3cea64d6088542678f76e244681a8b"), looks := true }, kinds := [], alts := [], laidByText := true, laidKinds := [.data, .data, .data, .data, .pinned], laidTests := true, laidLooks := .later }
def ShowSameUptoCardSaid : Prop := Claim7.holds Tryz.pinned (.plain (OpenSpec.upto showSameSpec)) showSameUptoCard

/-- THE SECOND FORM's CARD OF 'typecasekeep.MeanGood'. -/
def meanGoodUptoCard : Claim7 := { stood := { row := meanGoodUptoRow, standIns := [], harness := (true, "f594cb3dcca9657fc48264d2ceb26b327c3cea64d6088542678f76e244681a8b"), looks := true }, kinds := [], alts := [], laidByText := true, laidKinds := [.data, .data, .data, .data, .sentinel, .sentinel, .pinned], laidTests := true, laidLooks := .later }
def MeanGoodUptoCardSaid : Prop := Claim7.holds Tryz.pinned (.plain (OpenSpec.upto meanGoodSpec)) meanGoodUptoCard

/-- THE SECOND FORM's CARD OF 'typecasekeep.MeanBlank'. -/
def meanBlankUptoCard : Claim7 := { stood := { row := meanBlankUptoRow, standIns := [], harness := (true, "f594cb3dcca9657fc48264d2ceb26b327c3cea64d6088542678f76e244681a8b"), looks := true }, kinds := [], alts := [], laidByText := true, laidKinds := [.data, .data, .data, .data, .sentinel, .sentinel, .pinned], laidTests := true, laidLooks := .later }
def MeanBlankUptoCardSaid : Prop := Claim7.holds Tryz.pinned (.plain (OpenSpec.upto meanBlankSpec)) meanBlankUptoCard

/-- THE SECOND FORM's CARD OF 'typecasekeep.MeanList'. -/
def meanListUptoCard : Claim7 := { stood := { row := meanListUptoRow, standIns := [], harness := (true, "f594cb3dcca9657fc48264d2ceb26b327c3cea64d6088542678f76e244681a8b"), looks := true }, kinds := [], alts := [], laidByText := true, laidKinds := [.data, .data, .data, .data, .sentinel, .sentinel, .pinned], laidTests := true, laidLooks := .later }
def MeanListUptoCardSaid : Prop := Claim7.holds Tryz.pinned (.plain (OpenSpec.upto meanListSpec)) meanListUptoCard

/-- THE SECOND FORM's CARD OF 'typecasekeep.ShowAgain'. -/
def showAgainUptoCard : Claim7 := { stood := { row := showAgainUptoRow, standIns := [], harness := (true, "f594cb3dcca9657fc48264d2ceb26b327c3cea64d6088542678f76e244681a8b"), looks := true }, kinds := [], alts := [], laidByText := true, laidKinds := [.data, .data, .data, .data, .sentinel, .sentinel, .pinned], laidTests := true, laidLooks := .later }
def ShowAgainUptoCardSaid : Prop := Claim7.holds Tryz.pinned (.plain (OpenSpec.upto showAgainSpec)) showAgainUptoCard

/-- THE SECOND FORM's CARD OF 'typecasekeep.MeanTwice'. -/
def meanTwiceUptoCard : Claim7 := { stood := { row := meanTwiceUptoRow, standIns := [], harness := (true, "f594cb3dcca9657fc48264d2ceb26b327c3cea64d6088542678f76e244681a8b"), looks := true }, kinds := [], alts := [], laidByText := true, laidKinds := [.data, .data, .data, .data, .sentinel, .sentinel, .pinned], laidTests := true, laidLooks := .later }
def MeanTwiceUptoCardSaid : Prop := Claim7.holds Tryz.pinned (.plain (OpenSpec.upto meanTwiceSpec)) meanTwiceUptoCard

/-- THE SECOND FORM's CARD OF 'typecasekeep.ShowBack'. -/
def showBackUptoCard : Claim7 := { stood := { row := showBackUptoRow, standIns := [], harness := (true, "f594cb3dcca9657fc48264d2ceb26b327c3cea64d6088542678f76e244681a8b"), looks := true }, kinds := [], alts := [], laidByText := true, laidKinds := [.data, .data, .data, .data, .sentinel, .sentinel, .pinned], laidTests := true, laidLooks := .later }
def ShowBackUptoCardSaid : Prop := Claim7.holds Tryz.pinned (.plain (OpenSpec.upto showBackSpec)) showBackUptoCard
end Rows
end Go.Proofs.YtldhmfkojaekfaaGreatDoor
