/-
  DERIVED. GIVEN WITH THE SEED: THE CARDS: each row of YtpiohnabdhpphaaGreatDoorRows.lean that lists a variable, with what it lists TIED to the program's text (the seventh form; the later family's looks); each row that meets fmt, with fmt's text TOLD by the authors' own Lean function (tested against real Go, not proved from fmt's source: count such statements apart). THE CARD IS WHAT COUNTS. Prove the row's statement (the work); the ties are given (YtpiohnabdhpphaaGreatDoorTie.lean); close each card by the builder's one call (the guide's Derived/Test/ToyasCard.lean, 'card_holds'). Laid BY PROGRAM, IN A SANDBOX (cutbox-door.mjs). By AI agents, Wed Nov 11 2026. No macro, syntax, notation, axiom, sorry.
-/
import Derived.Test.YtpiohnabdhpphaaGreatDoorRows
import GoSem.ClaimSeven
namespace Go.Proofs.YtpiohnabdhpphaaGreatDoor
namespace Rows

/-- THE TIED CARD OF 'boathouselaw3.TableFilesMatchSpec'. -/
def tableFilesMatchSpecCard : Claim7 := { stood := { row := tableFilesMatchSpecRow, standIns := [], harness := (true, "bebd38241f9be2d5609b316a3aa70b6325688b712e5329e93f6c5db0e3385e0e"), looks := true }, kinds := [], alts := [], laidByText := true, laidKinds := [.data, .data, .data, .data, .sentinel, .sentinel, .pinned], laidTests := true, laidLooks := .later }
def TableFilesMatchSpecCardSaid : Prop := Claim7.holds Tryz.pinned (.plain (OpenSpec.ofChange tableFilesMatchSpecSpec)) tableFilesMatchSpecCard

/-- THE TIED CARD OF 'boathouselaw3.TablePruningLosesNothing'. -/
def tablePruningLosesNothingCard : Claim7 := { stood := { row := tablePruningLosesNothingRow, standIns := [], harness := (true, "bebd38241f9be2d5609b316a3aa70b6325688b712e5329e93f6c5db0e3385e0e"), looks := true }, kinds := [], alts := [], laidByText := true, laidKinds := [.data, .data, .data, .data, .sentinel, .sentinel, .pinned], laidTests := true, laidLooks := .later }
def TablePruningLosesNothingCardSaid : Prop := Claim7.holds Tryz.pinned (.plain (OpenSpec.ofChange tablePruningLosesNothingSpec)) tablePruningLosesNothingCard

/-- THE SECOND FORM's CARD OF 'boathouselaw3.TableFilesMatchSpec'. -/
def tableFilesMatchSpecUptoCard : Claim7 := { stood := { row := tableFilesMatchSpecUptoRow, standIns := [], harness := (true, "bebd38241f9be2d5609b316a3aa70b6325688b712e5329e93f6c5db0e3385e0e"), looks := true }, kinds := [], alts := [], laidByText := true, laidKinds := [.data, .data, .data, .data, .sentinel, .sentinel, .pinned], laidTests := true, laidLooks := .later }
def TableFilesMatchSpecUptoCardSaid : Prop := Claim7.holds Tryz.pinned (.plain (OpenSpec.upto tableFilesMatchSpecSpec)) tableFilesMatchSpecUptoCard

/-- THE SECOND FORM's CARD OF 'boathouselaw3.TablePruningLosesNothing'. -/
def tablePruningLosesNothingUptoCard : Claim7 := { stood := { row := tablePruningLosesNothingUptoRow, standIns := [], harness := (true, "bebd38241f9be2d5609b316a3aa70b6325688b712e5329e93f6c5db0e3385e0e"), looks := true }, kinds := [], alts := [], laidByText := true, laidKinds := [.data, .data, .data, .data, .sentinel, .sentinel, .pinned], laidTests := true, laidLooks := .later }
def TablePruningLosesNothingUptoCardSaid : Prop := Claim7.holds Tryz.pinned (.plain (OpenSpec.upto tablePruningLosesNothingSpec)) tablePruningLosesNothingUptoCard
end Rows
end Go.Proofs.YtpiohnabdhpphaaGreatDoor
