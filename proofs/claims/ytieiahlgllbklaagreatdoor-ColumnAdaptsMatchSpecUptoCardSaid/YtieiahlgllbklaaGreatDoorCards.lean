/-
  DERIVED. GIVEN WITH THE SEED: THE CARDS: each row of YtieiahlgllbklaaGreatDoorRows.lean that lists a variable, with what it lists TIED to the program's text (the seventh form; the later family's looks); each row that meets fmt, with fmt's text TOLD by the authors' own Lean function (tested against real Go, not proved from fmt's source: count such statements apart). THE CARD IS WHAT COUNTS. Prove the row's statement (the work); the ties are given (YtieiahlgllbklaaGreatDoorTie.lean); close each card by the builder's one call (the guide's Derived/Test/ToyasCard.lean, 'card_holds'). Laid BY PROGRAM, IN A SANDBOX (cutbox-door.mjs). By AI agents, Wed Nov 11 2026. No macro, syntax, notation, axiom, sorry.
-/
import Derived.Test.YtieiahlgllbklaaGreatDoorRows
import GoSem.ClaimSeven
namespace Go.Proofs.YtieiahlgllbklaaGreatDoor
namespace Rows

/-- THE TIED CARD OF 'boathouselaw2.ColumnAdaptsMatchSpec'. -/
def columnAdaptsMatchSpecCard : Claim7 := { stood := { row := columnAdaptsMatchSpecRow, standIns := [], harness := (true, "1a740c185bd7cf28f98204e9e19dff14a9e7e95e15c868f08607b5ff0e91b6ce"), looks := true }, kinds := [], alts := [], laidByText := true, laidKinds := [.data, .data, .data, .data, .sentinel, .sentinel, .pinned], laidTests := true, laidLooks := .later }
def ColumnAdaptsMatchSpecCardSaid : Prop := Claim7.holds Tryz.pinned (.plain (OpenSpec.ofChange columnAdaptsMatchSpecSpec)) columnAdaptsMatchSpecCard

/-- THE SECOND FORM's CARD OF 'boathouselaw2.ColumnAdaptsMatchSpec'. -/
def columnAdaptsMatchSpecUptoCard : Claim7 := { stood := { row := columnAdaptsMatchSpecUptoRow, standIns := [], harness := (true, "1a740c185bd7cf28f98204e9e19dff14a9e7e95e15c868f08607b5ff0e91b6ce"), looks := true }, kinds := [], alts := [], laidByText := true, laidKinds := [.data, .data, .data, .data, .sentinel, .sentinel, .pinned], laidTests := true, laidLooks := .later }
def ColumnAdaptsMatchSpecUptoCardSaid : Prop := Claim7.holds Tryz.pinned (.plain (OpenSpec.upto columnAdaptsMatchSpecSpec)) columnAdaptsMatchSpecUptoCard
end Rows
end Go.Proofs.YtieiahlgllbklaaGreatDoor
