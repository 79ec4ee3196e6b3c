/-
  DERIVED. GIVEN WITH THE SEED: THE CARDS: each row of YtnecojeemmnnaaaGreatDoorRows.lean that lists a variable, with what it lists TIED to the program's text (the seventh form; the later family's looks); each row that meets fmt, with fmt's text TOLD by the authors' own Lean function (tested against real Go, not proved from fmt's source: count such statements apart). THE CARD IS WHAT COUNTS. Prove the row's statement (the work); the ties are given (YtnecojeemmnnaaaGreatDoorTie.lean); close each card by the builder's one call (the guide's Derived/Test/ToyasCard.lean, 'card_holds'). Laid BY PROGRAM, IN A SANDBOX (cutbox-door.mjs). By AI agents, Wed Nov 11 2026. No macro, syntax, notation, axiom, sorry.
-/
import Derived.Test.YtnecojeemmnnaaaGreatDoorRows
import GoSem.ClaimSeven
namespace Go.Proofs.YtnecojeemmnnaaaGreatDoor
namespace Rows

/-- THE TIED CARD OF 'boathouselaw2.ColumnEncodesMatchSpec'. -/
def columnEncodesMatchSpecCard : Claim7 := { stood := { row := columnEncodesMatchSpecRow, standIns := [], harness := (true, "67a9f92d3af5415329f984423d943ac8cf3510fed06c51fda285757407612aef"), looks := false }, kinds := [], alts := [], laidByText := true, laidKinds := [.data, .pinned], laidTests := true, laidLooks := .later }
def ColumnEncodesMatchSpecCardSaid : Prop := Claim7.holds Tryz.pinned (.plain (OpenSpec.ofChange columnEncodesMatchSpecSpec)) columnEncodesMatchSpecCard

/-- THE TIED CARD OF 'boathouselaw2.ColumnAssembleMatchesSpec'. -/
def columnAssembleMatchesSpecCard : Claim7 := { stood := { row := columnAssembleMatchesSpecRow, standIns := [], harness := (true, "67a9f92d3af5415329f984423d943ac8cf3510fed06c51fda285757407612aef"), looks := false }, kinds := [], alts := [], laidByText := true, laidKinds := [.data, .pinned], laidTests := true, laidLooks := .later }
def ColumnAssembleMatchesSpecCardSaid : Prop := Claim7.holds Tryz.pinned (.plain (OpenSpec.ofChange columnAssembleMatchesSpecSpec)) columnAssembleMatchesSpecCard

/-- THE SECOND FORM's CARD OF 'boathouselaw2.ColumnEncodesMatchSpec'. -/
def columnEncodesMatchSpecUptoCard : Claim7 := { stood := { row := columnEncodesMatchSpecUptoRow, standIns := [], harness := (true, "67a9f92d3af5415329f984423d943ac8cf3510fed06c51fda285757407612aef"), looks := false }, kinds := [], alts := [], laidByText := true, laidKinds := [.data, .pinned], laidTests := true, laidLooks := .later }
def ColumnEncodesMatchSpecUptoCardSaid : Prop := Claim7.holds Tryz.pinned (.plain (OpenSpec.upto columnEncodesMatchSpecSpec)) columnEncodesMatchSpecUptoCard

/-- THE SECOND FORM's CARD OF 'boathouselaw2.ColumnAssembleMatchesSpec'. -/
def columnAssembleMatchesSpecUptoCard : Claim7 := { stood := { row := columnAssembleMatchesSpecUptoRow, standIns := [], harness := (true, "67a9f92d3af5415329f984423d943ac8cf3510fed06c51fda285757407612aef"), looks := false }, kinds := [], alts := [], laidByText := true, laidKinds := [.data, .pinned], laidTests := true, laidLooks := .later }
def ColumnAssembleMatchesSpecUptoCardSaid : Prop := Claim7.holds Tryz.pinned (.plain (OpenSpec.upto columnAssembleMatchesSpecSpec)) columnAssembleMatchesSpecUptoCard
end Rows
end Go.Proofs.YtnecojeemmnnaaaGreatDoor
