/-
  DERIVED. GIVEN WITH THE SEED: THE CARDS: each row of YtmaemlebpjnmoaaGreatDoorRows.lean that lists a variable, with what it lists TIED to the program's text (the seventh form; the later family's looks); each row that meets fmt, with fmt's text TOLD by the authors' own Lean function (tested against real Go, not proved from fmt's source: count such statements apart). THE CARD IS WHAT COUNTS. Prove the row's statement (the work); the ties are given (YtmaemlebpjnmoaaGreatDoorTie.lean); close each card by the builder's one call (the guide's Derived/Test/ToyasCard.lean, 'card_holds'). Laid BY PROGRAM, IN A SANDBOX (cutbox-door.mjs). By AI agents, Wed Nov 11 2026. No macro, syntax, notation, axiom, sorry.
-/
import Derived.Test.YtmaemlebpjnmoaaGreatDoorRows
import GoSem.ClaimSeven
namespace Go.Proofs.YtmaemlebpjnmoaaGreatDoor
namespace Rows

/-- THE TIED CARD OF 'boathouselaw3.TableTransformsMatchSpec'. -/
def tableTransformsMatchSpecCard : Claim7 := { stood := { row := tableTransformsMatchSpecRow, standIns := [], harness := (true, "ee26b1ab7c8a37df248694f4e5d7a68d6cddebe8f3d6ba7dc554ffa9ba40d938"), looks := false }, kinds := [], alts := [], laidByText := true, laidKinds := [.data, .pinned], laidTests := true, laidLooks := .later }
def TableTransformsMatchSpecCardSaid : Prop := Claim7.holds Tryz.pinned (.plain (OpenSpec.ofChange tableTransformsMatchSpecSpec)) tableTransformsMatchSpecCard

/-- THE TIED CARD OF 'boathouselaw2.ColumnPagesMatchSpec'. -/
def columnPagesMatchSpecCard : Claim7 := { stood := { row := columnPagesMatchSpecRow, standIns := [], harness := (true, "ee26b1ab7c8a37df248694f4e5d7a68d6cddebe8f3d6ba7dc554ffa9ba40d938"), looks := false }, kinds := [], alts := [], laidByText := true, laidKinds := [.data, .pinned], laidTests := true, laidLooks := .later }
def ColumnPagesMatchSpecCardSaid : Prop := Claim7.holds Tryz.pinned (.plain (OpenSpec.ofChange columnPagesMatchSpecSpec)) columnPagesMatchSpecCard

/-- THE TIED CARD OF 'boathouselaw2.ColumnAssembleMatchesSpec'. -/
def columnAssembleMatchesSpecCard : Claim7 := { stood := { row := columnAssembleMatchesSpecRow, standIns := [], harness := (true, "ee26b1ab7c8a37df248694f4e5d7a68d6cddebe8f3d6ba7dc554ffa9ba40d938"), looks := false }, kinds := [], alts := [], laidByText := true, laidKinds := [.data, .pinned], laidTests := true, laidLooks := .later }
def ColumnAssembleMatchesSpecCardSaid : Prop := Claim7.holds Tryz.pinned (.plain (OpenSpec.ofChange columnAssembleMatchesSpecSpec)) columnAssembleMatchesSpecCard

/-- THE TIED CARD OF 'boathouselaw2.ColumnRowsComeBack'. -/
def columnRowsComeBackCard : Claim7 := { stood := { row := columnRowsComeBackRow, standIns := [], harness := (true, "ee26b1ab7c8a37df248694f4e5d7a68d6cddebe8f3d6ba7dc554ffa9ba40d938"), looks := false }, kinds := [], alts := [], laidByText := true, laidKinds := [.data, .pinned], laidTests := true, laidLooks := .later }
def ColumnRowsComeBackCardSaid : Prop := Claim7.holds Tryz.pinned (.plain (OpenSpec.ofChange columnRowsComeBackSpec)) columnRowsComeBackCard

/-- THE SECOND FORM's CARD OF 'boathouselaw3.TableTransformsMatchSpec'. -/
def tableTransformsMatchSpecUptoCard : Claim7 := { stood := { row := tableTransformsMatchSpecUptoRow, standIns := [], harness := (true, "ee26b1ab7c8a37df248694f4e5d7a68d6cddebe8f3d6ba7dc554ffa9ba40d938"), looks := false }, kinds := [], alts := [], laidByText := true, laidKinds := [.data, .pinned], laidTests := true, laidLooks := .later }
def TableTransformsMatchSpecUptoCardSaid : Prop := Claim7.holds Tryz.pinned (.plain (OpenSpec.upto tableTransformsMatchSpecSpec)) tableTransformsMatchSpecUptoCard

/-- THE SECOND FORM's CARD OF 'boathouselaw2.ColumnPagesMatchSpec'. -/
def columnPagesMatchSpecUptoCard : Claim7 := { stood := { row := columnPagesMatchSpecUptoRow, standIns := [], harness := (true, "ee26b1ab7c8a37df248694f4e5d7a68d6cddebe8f3d6ba7dc554ffa9ba40d938"), looks := false }, kinds := [], alts := [], laidByText := true, laidKinds := [.data, .pinned], laidTests := true, laidLooks := .later }
def ColumnPagesMatchSpecUptoCardSaid : Prop := Claim7.holds Tryz.pinned (.plain (OpenSpec.upto columnPagesMatchSpecSpec)) columnPagesMatchSpecUptoCard

/-- THE SECOND FORM's CARD OF 'boathouselaw2.ColumnAssembleMatchesSpec'. -/
def columnAssembleMatchesSpecUptoCard : Claim7 := { stood := { row := columnAssembleMatchesSpecUptoRow, standIns := [], harness := (true, "ee26b1ab7c8a37df248694f4e5d7a68d6cddebe8f3d6ba7dc554ffa9ba40d938"), looks := false }, kinds := [], alts := [], laidByText := true, laidKinds := [.data, .pinned], laidTests := true, laidLooks := .later }
def ColumnAssembleMatchesSpecUptoCardSaid : Prop := Claim7.holds Tryz.pinned (.plain (OpenSpec.upto columnAssembleMatchesSpecSpec)) columnAssembleMatchesSpecUptoCard

/-- THE SECOND FORM's CARD OF 'boathouselaw2.ColumnRowsComeBack'. -/
def columnRowsComeBackUptoCard : Claim7 := { stood := { row := columnRowsComeBackUptoRow, standIns := [], harness := (true, "ee26b1ab7c8a37df248694f4e5d7a68d6cddebe8f3d6ba7dc554ffa9ba40d938"), looks := false }, kinds := [], alts := [], laidByText := true, laidKinds := [.data, .pinned], laidTests := true, laidLooks := .later }
def ColumnRowsComeBackUptoCardSaid : Prop := Claim7.holds Tryz.pinned (.plain (OpenSpec.upto columnRowsComeBackSpec)) columnRowsComeBackUptoCard
end Rows
end Go.Proofs.YtmaemlebpjnmoaaGreatDoor
