/-
  DERIVED. GIVEN WITH THE SEED: THE CARDS: each row of YtiklmgjacdoeoaaDoorRows.lean that lists a variable, with what it lists TIED to the program's text (the seventh form; the later family's looks); each row that meets fmt, with fmt's text TOLD by the authors' own Lean function (tested against real Go, not proved from fmt's source: count such statements apart). THE CARD IS WHAT COUNTS. Prove the row's statement (the work); the ties are given (YtiklmgjacdoeoaaDoorTie.lean); close each card by the builder's one call (the guide's Derived/Test/ToyasCard.lean, 'card_holds'). Laid BY PROGRAM, IN A SANDBOX (cutbox-door.mjs). By AI agents, Wed Nov 11 2026. No macro, syntax, notation, axiom, sorry.
-/
import Derived.Test.YtiklmgjacdoeoaaDoorRows
import GoSem.ClaimSeven
namespace Go.Proofs.YtiklmgjacdoeoaaDoor
namespace Rows

/-- THE TIED CARD OF 'typecasekeep.UtfSync'. -/
def utfSyncCard : Claim7 := { stood := { row := utfSyncRow, standIns := [], harness := (true, "2944bff9369371d21cd4484b883ea36280c116f2c9df2965be5cc6011baf6bef"), looks := false }, kinds := [], alts := [], laidByText := true, laidKinds := [.data, .pinned], laidTests := true, laidLooks := .later }
def UtfSyncCardSaid : Prop := Claim7.holds Tryd.pinned (.plain (OpenSpec.ofChange utfSyncSpec)) utfSyncCard

/-- THE TIED CARD OF 'typecasekeep.UtfCuts'. -/
def utfCutsCard : Claim7 := { stood := { row := utfCutsRow, standIns := [], harness := (true, "2944bff9369371d21cd4484b883ea36280c116f2c9df2965be5cc6011baf6bef"), looks := false }, kinds := [], alts := [], laidByText := true, laidKinds := [.data, .pinned], laidTests := true, laidLooks := .later }
def UtfCutsCardSaid : Prop := Claim7.holds Tryd.pinned (.plain (OpenSpec.ofChange utfCutsSpec)) utfCutsCard

/-- THE TIED CARD OF 'typecasekeep.UtfClean'. -/
def utfCleanCard : Claim7 := { stood := { row := utfCleanRow, standIns := [], harness := (true, "2944bff9369371d21cd4484b883ea36280c116f2c9df2965be5cc6011baf6bef"), looks := false }, kinds := [], alts := [], laidByText := true, laidKinds := [.data, .pinned], laidTests := true, laidLooks := .later }
def UtfCleanCardSaid : Prop := Claim7.holds Tryd.pinned (.plain (OpenSpec.ofChange utfCleanSpec)) utfCleanCard

/-- THE TIED CARD OF 'typecasekeep.UtfBack'. -/
def utfBackCard : Claim7 := { stood := { row := utfBackRow, standIns := [], harness := (true, "2944bff9369371d21cd4484b883ea36280c116f2c9df2965be5cc6011baf6bef"), looks := false }, kinds := [], alts := [], laidByText := true, laidKinds := [.data, .pinned], laidTests := true, laidLooks := .later }
def UtfBackCardSaid : Prop := Claim7.holds Tryd.pinned (.plain (OpenSpec.ofChange utfBackSpec)) utfBackCard

/-- THE SECOND FORM's CARD OF 'typecasekeep.UtfSync'. -/
def utfSyncUptoCard : Claim7 := { stood := { row := utfSyncUptoRow, standIns := [], harness := (true, "2944bff9369371d21cd4484b883ea36280c116f2c9df2965be5cc6011baf6bef"), looks := false }, kinds := [], alts := [], laidByText := true, laidKinds := [.data, .pinned], laidTests := true, laidLooks := .later }
def UtfSyncUptoCardSaid : Prop := Claim7.holds Tryd.pinned (.plain (OpenSpec.upto utfSyncSpec)) utfSyncUptoCard

/-- THE SECOND FORM's CARD OF 'typecasekeep.UtfCuts'. -/
def utfCutsUptoCard : Claim7 := { stood := { row := utfCutsUptoRow, standIns := [], harness := (true, "2944bff9369371d21cd4484b883ea36280c116f2c9df2965be5cc6011baf6bef"), looks := false }, kinds := [], alts := [], laidByText := true, laidKinds := [.data, .pinned], laidTests := true, laidLooks := .later }
def UtfCutsUptoCardSaid : Prop := Claim7.holds Tryd.pinned (.plain (OpenSpec.upto utfCutsSpec)) utfCutsUptoCard

/-- THE SECOND FORM's CARD OF 'typecasekeep.UtfClean'. -/
def utfCleanUptoCard : Claim7 := { stood := { row := utfCleanUptoRow, standIns := [], harness := (true, "2944bff9369371d21cd4484b883ea36280c116f2c9df2965be5cc6011baf6bef"), looks := false }, kinds := [], alts := [], laidByText := true, laidKinds := [.data, .pinned], laidTests := true, laidLooks := .later }
def UtfCleanUptoCardSaid : Prop := Claim7.holds Tryd.pinned (.plain (OpenSpec.upto utfCleanSpec)) utfCleanUptoCard

/-- THE SECOND FORM's CARD OF 'typecasekeep.UtfBack'. -/
def utfBackUptoCard : Claim7 := { stood := { row := utfBackUptoRow, standIns := [], harness := (true, "2944bff9369371d21cd4484b883ea36280c116f2c9df2965be5cc6011baf6bef"), looks := false }, kinds := [], alts := [], laidByText := true, laidKinds := [.data, .pinned], laidTests := true, laidLooks := .later }
def UtfBackUptoCardSaid : Prop := Claim7.holds Tryd.pinned (.plain (OpenSpec.upto utfBackSpec)) utfBackUptoCard
end Rows
end Go.Proofs.YtiklmgjacdoeoaaDoor
