/-
  DERIVED. GIVEN WITH THE SEED: THE CARDS: each row of YtmaemlebpjnmoaaDoorRows.lean that lists a variable, with what it lists TIED to the program's text (the seventh form; the later family's looks); each row that meets fmt, with fmt's text TOLD by the authors' own Lean function (tested against real Go, not proved from fmt's source: count such statements apart). THE CARD IS WHAT COUNTS. Prove the row's statement (the work); the ties are given (YtmaemlebpjnmoaaDoorTie.lean); close each card by the builder's one call (the guide's Derived/Test/ToyasCard.lean, 'card_holds'). Laid BY PROGRAM, IN A SANDBOX (cutbox-door.mjs). By AI agents, Wed Nov 11 2026. No macro, syntax, notation, axiom, sorry.
-/
import Derived.Test.YtmaemlebpjnmoaaDoorRows
import GoSem.ClaimSeven
namespace Go.Proofs.YtmaemlebpjnmoaaDoor
namespace Rows

/-- THE TIED CARD OF 'boathouselaw2.ColumnRowsMatchSpec'. -/
def columnRowsMatchSpecCard : Claim7 := { stood := { row := columnRowsMatchSpecRow, standIns := [], harness := (true, "fb936cd3670341b6ba250a3b0113ea3f04f3e2e58161437c839ea5611adcdace"), looks := false }, kinds := [], alts := [], laidByText := true, laidKinds := [.data, .pinned], laidTests := true, laidLooks := .later }
def ColumnRowsMatchSpecCardSaid : Prop := Claim7.holds Tryd.pinned (.plain (OpenSpec.ofChange columnRowsMatchSpecSpec)) columnRowsMatchSpecCard

/-- THE TIED CARD OF 'boathouselaw3.TableTransformsKeepOrder'. -/
def tableTransformsKeepOrderCard : Claim7 := { stood := { row := tableTransformsKeepOrderRow, standIns := [], harness := (true, "fb936cd3670341b6ba250a3b0113ea3f04f3e2e58161437c839ea5611adcdace"), looks := false }, kinds := [], alts := [], laidByText := true, laidKinds := [.data, .pinned], laidTests := true, laidLooks := .later }
def TableTransformsKeepOrderCardSaid : Prop := Claim7.holds Tryd.pinned (.plain (OpenSpec.ofChange tableTransformsKeepOrderSpec)) tableTransformsKeepOrderCard

/-- THE SECOND FORM's CARD OF 'boathouselaw2.ColumnRowsMatchSpec'. -/
def columnRowsMatchSpecUptoCard : Claim7 := { stood := { row := columnRowsMatchSpecUptoRow, standIns := [], harness := (true, "fb936cd3670341b6ba250a3b0113ea3f04f3e2e58161437c839ea5611adcdace"), looks := false }, kinds := [], alts := [], laidByText := true, laidKinds := [.data, .pinned], laidTests := true, laidLooks := .later }
def ColumnRowsMatchSpecUptoCardSaid : Prop := Claim7.holds Tryd.pinned (.plain (OpenSpec.upto columnRowsMatchSpecSpec)) columnRowsMatchSpecUptoCard

/-- THE SECOND FORM's CARD OF 'boathouselaw3.TableTransformsKeepOrder'. -/
def tableTransformsKeepOrderUptoCard : Claim7 := { stood := { row := tableTransformsKeepOrderUptoRow, standIns := [], harness := (true, "fb936cd3670341b6ba250a3b0113ea3f04f3e2e58161437c839ea5611adcdace"), looks := false }, kinds := [], alts := [], laidByText := true, laidKinds := [.data, .pinned], laidTests := true, laidLooks := .later }
def TableTransformsKeepOrderUptoCardSaid : Prop := Claim7.holds Tryd.pinned (.plain (OpenSpec.upto tableTransformsKeepOrderSpec)) tableTransformsKeepOrderUptoCard
end Rows
end Go.Proofs.YtmaemlebpjnmoaaDoor
