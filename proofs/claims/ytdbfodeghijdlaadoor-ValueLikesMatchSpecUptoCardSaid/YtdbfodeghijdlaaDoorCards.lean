/-
  DERIVED. GIVEN WITH THE SEED: THE CARDS: each row of YtdbfodeghijdlaaDoorRows.lean that lists a variable, with what it lists TIED to the program's text (the seventh form; the later family's looks); each row that meets fmt, with fmt's text TOLD by the authors' own Lean function (tested against real Go, not proved from fmt's source: count such statements apart). THE CARD IS WHAT COUNTS. Prove the row's statement (the work); the ties are given (YtdbfodeghijdlaaDoorTie.lean); close each card by the builder's one call (the guide's Derived/Test/ToyasCard.lean, 'card_holds'). Laid BY PROGRAM, IN A SANDBOX (cutbox-door.mjs). By AI agents, Wed Nov 11 2026. No macro, syntax, notation, axiom, sorry.
-/
import Derived.Test.YtdbfodeghijdlaaDoorRows
import GoSem.ClaimSeven
namespace Go.Proofs.YtdbfodeghijdlaaDoor
namespace Rows

/-- THE TIED CARD OF 'boathouselaw1.ValueLikesMatchSpec'. -/
def valueLikesMatchSpecCard : Claim7 := { stood := { row := valueLikesMatchSpecRow, standIns := [], harness := (true, "1ea75d7e345223b5e18cc2c2eff024f43f2e7c976eb00546b55c423a20811512"), looks := false }, kinds := [], alts := [], laidByText := true, laidKinds := [.data, .pinned], laidTests := true, laidLooks := .later }
def ValueLikesMatchSpecCardSaid : Prop := Claim7.holds Tryd.pinned (.plain (OpenSpec.ofChange valueLikesMatchSpecSpec)) valueLikesMatchSpecCard

/-- THE TIED CARD OF 'boathouselaw1.ValueSumsMatchSpec'. -/
def valueSumsMatchSpecCard : Claim7 := { stood := { row := valueSumsMatchSpecRow, standIns := [], harness := (true, "1ea75d7e345223b5e18cc2c2eff024f43f2e7c976eb00546b55c423a20811512"), looks := false }, kinds := [], alts := [], laidByText := true, laidKinds := [.data, .pinned], laidTests := true, laidLooks := .later }
def ValueSumsMatchSpecCardSaid : Prop := Claim7.holds Tryd.pinned (.plain (OpenSpec.ofChange valueSumsMatchSpecSpec)) valueSumsMatchSpecCard

/-- THE TIED CARD OF 'boathouselaw2.ColumnBloomMatchesSpec'. -/
def columnBloomMatchesSpecCard : Claim7 := { stood := { row := columnBloomMatchesSpecRow, standIns := [], harness := (true, "1ea75d7e345223b5e18cc2c2eff024f43f2e7c976eb00546b55c423a20811512"), looks := false }, kinds := [], alts := [], laidByText := true, laidKinds := [.data, .pinned], laidTests := true, laidLooks := .later }
def ColumnBloomMatchesSpecCardSaid : Prop := Claim7.holds Tryd.pinned (.plain (OpenSpec.ofChange columnBloomMatchesSpecSpec)) columnBloomMatchesSpecCard

/-- THE SECOND FORM's CARD OF 'boathouselaw1.ValueLikesMatchSpec'. -/
def valueLikesMatchSpecUptoCard : Claim7 := { stood := { row := valueLikesMatchSpecUptoRow, standIns := [], harness := (true, "1ea75d7e345223b5e18cc2c2eff024f43f2e7c976eb00546b55c423a20811512"), looks := false }, kinds := [], alts := [], laidByText := true, laidKinds := [.data, .pinned], laidTests := true, laidLooks := .later }
def ValueLikesMatchSpecUptoCardSaid : Prop := Claim7.holds Tryd.pinned (.plain (OpenSpec.upto valueLikesMatchSpecSpec)) valueLikesMatchSpecUptoCard

/-- THE SECOND FORM's CARD OF 'boathouselaw1.ValueSumsMatchSpec'. -/
def valueSumsMatchSpecUptoCard : Claim7 := { stood := { row := valueSumsMatchSpecUptoRow, standIns := [], harness := (true, "1ea75d7e345223b5e18cc2c2eff024f43f2e7c976eb00546b55c423a20811512"), looks := false }, kinds := [], alts := [], laidByText := true, laidKinds := [.data, .pinned], laidTests := true, laidLooks := .later }
def ValueSumsMatchSpecUptoCardSaid : Prop := Claim7.holds Tryd.pinned (.plain (OpenSpec.upto valueSumsMatchSpecSpec)) valueSumsMatchSpecUptoCard

/-- THE SECOND FORM's CARD OF 'boathouselaw2.ColumnBloomMatchesSpec'. -/
def columnBloomMatchesSpecUptoCard : Claim7 := { stood := { row := columnBloomMatchesSpecUptoRow, standIns := [], harness := (true, "1ea75d7e345223b5e18cc2c2eff024f43f2e7c976eb00546b55c423a20811512"), looks := false }, kinds := [], alts := [], laidByText := true, laidKinds := [.data, .pinned], laidTests := true, laidLooks := .later }
def ColumnBloomMatchesSpecUptoCardSaid : Prop := Claim7.holds Tryd.pinned (.plain (OpenSpec.upto columnBloomMatchesSpecSpec)) columnBloomMatchesSpecUptoCard
end Rows
end Go.Proofs.YtdbfodeghijdlaaDoor
