/-
  DERIVED. GIVEN WITH THE SEED: THE CARDS: each row of YtbfekiekbifgcaaGreatDoorRows.lean that lists a variable, with what it lists TIED to the program's text (the seventh form; the later family's looks); each row that meets fmt, with fmt's text TOLD by the authors' own Lean function (tested against real Go, not proved from fmt's source: count such statements apart). THE CARD IS WHAT COUNTS. Prove the row's statement (the work); the ties are given (YtbfekiekbifgcaaGreatDoorTie.lean); close each card by the builder's one call (the guide's Derived/Test/ToyasCard.lean, 'card_holds'). Laid BY PROGRAM, IN A SANDBOX (cutbox-door.mjs). By AI agents, Wed Nov 11 2026. No macro, syntax, notation, axiom, sorry.
-/
import Derived.Test.YtbfekiekbifgcaaGreatDoorRows
import GoSem.ClaimSeven
namespace Go.Proofs.YtbfekiekbifgcaaGreatDoor
namespace Rows

/-- THE TIED CARD OF 'boathouselaw3.TablePartitionsMatchSpec'. -/
def tablePartitionsMatchSpecCard : Claim7 := { stood := { row := tablePartitionsMatchSpecRow, standIns := [], harness := (true, "aa16639d8e6ca30198195e28c022a55ab39c47245b4faccb0a5152bd1ac5988e"), looks := false }, kinds := [], alts := [], laidByText := true, laidKinds := [.data, .pinned], laidTests := true, laidLooks := .later }
def TablePartitionsMatchSpecCardSaid : Prop := Claim7.holds Tryz.pinned (.plain (OpenSpec.ofChange tablePartitionsMatchSpecSpec)) tablePartitionsMatchSpecCard

/-- THE SECOND FORM's CARD OF 'boathouselaw3.TablePartitionsMatchSpec'. -/
def tablePartitionsMatchSpecUptoCard : Claim7 := { stood := { row := tablePartitionsMatchSpecUptoRow, standIns := [], harness := (true, "aa16639d8e6ca30198195e28c022a55ab39c47245b4faccb0a5152bd1ac5988e"), looks := false }, kinds := [], alts := [], laidByText := true, laidKinds := [.data, .pinned], laidTests := true, laidLooks := .later }
def TablePartitionsMatchSpecUptoCardSaid : Prop := Claim7.holds Tryz.pinned (.plain (OpenSpec.upto tablePartitionsMatchSpecSpec)) tablePartitionsMatchSpecUptoCard
end Rows
end Go.Proofs.YtbfekiekbifgcaaGreatDoor
