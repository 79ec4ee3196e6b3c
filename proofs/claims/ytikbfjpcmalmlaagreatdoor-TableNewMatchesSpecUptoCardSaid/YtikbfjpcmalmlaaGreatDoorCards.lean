/-
  DERIVED. GIVEN WITH THE SEED: THE CARDS: each row of YtikbfjpcmalmlaaGreatDoorRows.lean that lists a variable, with what it lists TIED to the program's text (the seventh form; the later family's looks); each row that meets fmt, with fmt's text TOLD by the authors' own Lean function (tested against real Go, not proved from fmt's source: count such statements apart). THE CARD IS WHAT COUNTS. Prove the row's statement (the work); the ties are given (YtikbfjpcmalmlaaGreatDoorTie.lean); close each card by the builder's one call (the guide's Derived/Test/ToyasCard.lean, 'card_holds'). Laid BY PROGRAM, IN A SANDBOX (cutbox-door.mjs). By AI agents, Wed Nov 11 2026. No macro, syntax, notation, axiom, sorry.
-/
import Derived.Test.YtikbfjpcmalmlaaGreatDoorRows
import GoSem.ClaimSeven
namespace Go.Proofs.YtikbfjpcmalmlaaGreatDoor
namespace Rows

/-- THE TIED CARD OF 'boathouselaw3.TableCheckMatchesSpec'. -/
def tableCheckMatchesSpecCard : Claim7 := { stood := { row := tableCheckMatchesSpecRow, standIns := [], harness := (true, "96dfb64534c8b84a9cba3e7e88bc165071238ff6edfaefb4cbc462cb7bb49051"), looks := true }, kinds := [], alts := [], laidByText := true, laidKinds := [.data, .data, .data, .data, .sentinel, .sentinel, .pinned], laidTests := true, laidLooks := .later }
def TableCheckMatchesSpecCardSaid : Prop := Claim7.holds Tryz.pinned (.plain (OpenSpec.ofChange tableCheckMatchesSpecSpec)) tableCheckMatchesSpecCard

/-- THE TIED CARD OF 'boathouselaw3.TableNewMatchesSpec'. -/
def tableNewMatchesSpecCard : Claim7 := { stood := { row := tableNewMatchesSpecRow, standIns := [], harness := (true, "96dfb64534c8b84a9cba3e7e88bc165071238ff6edfaefb4cbc462cb7bb49051"), looks := true }, kinds := [], alts := [], laidByText := true, laidKinds := [.data, .data, .data, .data, .sentinel, .sentinel, .pinned], laidTests := true, laidLooks := .later }
def TableNewMatchesSpecCardSaid : Prop := Claim7.holds Tryz.pinned (.plain (OpenSpec.ofChange tableNewMatchesSpecSpec)) tableNewMatchesSpecCard

/-- THE SECOND FORM's CARD OF 'boathouselaw3.TableCheckMatchesSpec'. -/
def tableCheckMatchesSpecUptoCard : Claim7 := { stood := { row := tableCheckMatchesSpecUptoRow, standIns := [], harness := (true, "96dfb64534c8b84a9cba3e7e88bc165071238ff6edfaefb4cbc462cb7bb49051"), looks := true }, kinds := [], alts := [], laidByText := true, laidKinds := [.data, .data, .data, .data, .sentinel, .sentinel, .pinned], laidTests := true, laidLooks := .later }
def TableCheckMatchesSpecUptoCardSaid : Prop := Claim7.holds Tryz.pinned (.plain (OpenSpec.upto tableCheckMatchesSpecSpec)) tableCheckMatchesSpecUptoCard

/-- THE SECOND FORM's CARD OF 'boathouselaw3.TableNewMatchesSpec'. -/
def tableNewMatchesSpecUptoCard : Claim7 := { stood := { row := tableNewMatchesSpecUptoRow, standIns := [], harness := (true, "96dfb64534c8b84a9cba3e7e88bc165071238ff6edfaefb4cbc462cb7bb49051"), looks := true }, kinds := [], alts := [], laidByText := true, laidKinds := [.data, .data, .data, .data, .sentinel, .sentinel, .pinned], laidTests := true, laidLooks := .later }
def TableNewMatchesSpecUptoCardSaid : Prop := Claim7.holds Tryz.pinned (.plain (OpenSpec.upto tableNewMatchesSpecSpec)) tableNewMatchesSpecUptoCard
end Rows
end Go.Proofs.YtikbfjpcmalmlaaGreatDoor
