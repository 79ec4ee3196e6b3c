/-
  DERIVED. GIVEN WITH THE SEED: THE CARDS: each row of YtfnmbpecdjncfaaGreatDoorRows.lean that lists a variable, with what it lists TIED to the program's text (the seventh form; the later family's looks); each row that meets fmt, with fmt's text TOLD by the authors' own Lean function (tested against real Go, not proved from fmt's source: count such statements apart). THE CARD IS WHAT COUNTS. Prove the row's statement (the work); the ties are given (YtfnmbpecdjncfaaGreatDoorTie.lean); close each card by the builder's one call (the guide's Derived/Test/ToyasCard.lean, 'card_holds'). Laid BY PROGRAM, IN A SANDBOX (cutbox-door.mjs). By AI agents, Wed Nov 11 2026. No macro, syntax, notation, axiom, sorry.
-/
import Derived.Test.YtfnmbpecdjncfaaGreatDoorRows
import GoSem.ClaimSeven
namespace Go.Proofs.YtfnmbpecdjncfaaGreatDoor
namespace Rows

/-- THE TIED CARD OF 'boathouselaw3.TableDifferMatchesSpec'. -/
def tableDifferMatchesSpecCard : Claim7 := { stood := { row := tableDifferMatchesSpecRow, standIns := [], harness := (true, "08cd6a87bed6c7b01f5c337116a75357b87ab97b5777b22e35cd513a5236140b"), looks := true }, kinds := [], alts := [], laidByText := true, laidKinds := [.data, .data, .data, .data, .sentinel, .sentinel, .pinned], laidTests := true, laidLooks := .later }
def TableDifferMatchesSpecCardSaid : Prop := Claim7.holds Tryz.pinned (.plain (OpenSpec.ofChange tableDifferMatchesSpecSpec)) tableDifferMatchesSpecCard

/-- THE TIED CARD OF 'boathouselaw3.TableLiveMatchesSpec'. -/
def tableLiveMatchesSpecCard : Claim7 := { stood := { row := tableLiveMatchesSpecRow, standIns := [], harness := (true, "08cd6a87bed6c7b01f5c337116a75357b87ab97b5777b22e35cd513a5236140b"), looks := true }, kinds := [], alts := [], laidByText := true, laidKinds := [.data, .data, .data, .data, .sentinel, .sentinel, .pinned], laidTests := true, laidLooks := .later }
def TableLiveMatchesSpecCardSaid : Prop := Claim7.holds Tryz.pinned (.plain (OpenSpec.ofChange tableLiveMatchesSpecSpec)) tableLiveMatchesSpecCard

/-- THE TIED CARD OF 'boathouselaw3.TableDifferIsEnough'. -/
def tableDifferIsEnoughCard : Claim7 := { stood := { row := tableDifferIsEnoughRow, standIns := [], harness := (true, "08cd6a87bed6c7b01f5c337116a75357b87ab97b5777b22e35cd513a5236140b"), looks := true }, kinds := [], alts := [], laidByText := true, laidKinds := [.data, .data, .data, .data, .sentinel, .sentinel, .pinned], laidTests := true, laidLooks := .later }
def TableDifferIsEnoughCardSaid : Prop := Claim7.holds Tryz.pinned (.plain (OpenSpec.ofChange tableDifferIsEnoughSpec)) tableDifferIsEnoughCard

/-- THE SECOND FORM's CARD OF 'boathouselaw3.TableDifferMatchesSpec'. -/
def tableDifferMatchesSpecUptoCard : Claim7 := { stood := { row := tableDifferMatchesSpecUptoRow, standIns := [], harness := (true, "08cd6a87bed6c7b01f5c337116a75357b87ab97b5777b22e35cd513a5236140b"), looks := true }, kinds := [], alts := [], laidByText := true, laidKinds := [.data, .data, .data, .data, .sentinel, .sentinel, .pinned], laidTests := true, laidLooks := .later }
def TableDifferMatchesSpecUptoCardSaid : Prop := Claim7.holds Tryz.pinned (.plain (OpenSpec.upto tableDifferMatchesSpecSpec)) tableDifferMatchesSpecUptoCard

/-- THE SECOND FORM's CARD OF 'boathouselaw3.TableLiveMatchesSpec'. -/
def tableLiveMatchesSpecUptoCard : Claim7 := { stood := { row := tableLiveMatchesSpecUptoRow, standIns := [], harness := (true, "08cd6a87bed6c7b01f5c337116a75357b87ab97b5777b22e35cd513a5236140b"), looks := true }, kinds := [], alts := [], laidByText := true, laidKinds := [.data, .data, .data, .data, .sentinel, .sentinel, .pinned], laidTests := true, laidLooks := .later }
def TableLiveMatchesSpecUptoCardSaid : Prop := Claim7.holds Tryz.pinned (.plain (OpenSpec.upto tableLiveMatchesSpecSpec)) tableLiveMatchesSpecUptoCard

/-- THE SECOND FORM's CARD OF 'boathouselaw3.TableDifferIsEnough'. -/
def tableDifferIsEnoughUptoCard : Claim7 := { stood := { row := tableDifferIsEnoughUptoRow, standIns := [], harness := (true, "08cd6a87bed6c7b01f5c337116a75357b87ab97b5777b22e35cd513a5236140b"), looks := true }, kinds := [], alts := [], laidByText := true, laidKinds := [.data, .data, .data, .data, .sentinel, .sentinel, .pinned], laidTests := true, laidLooks := .later }
def TableDifferIsEnoughUptoCardSaid : Prop := Claim7.holds Tryz.pinned (.plain (OpenSpec.upto tableDifferIsEnoughSpec)) tableDifferIsEnoughUptoCard
end Rows
end Go.Proofs.YtfnmbpecdjncfaaGreatDoor
