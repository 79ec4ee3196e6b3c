/-
  DERIVED. GIVEN WITH THE SEED: THE CARDS: each row of YtdkmclmdemngfaaDoorRows.lean that lists a variable, with what it lists TIED to the program's text (the seventh form; the later family's looks); each row that meets fmt, with fmt's text TOLD by the authors' own Lean function (tested against real Go, not proved from fmt's source: count such statements apart). THE CARD IS WHAT COUNTS. Prove the row's statement (the work); the ties are given (YtdkmclmdemngfaaDoorTie.lean); close each card by the builder's one call (the guide's Derived/Test/ToyasCard.lean, 'card_holds'). Laid BY PROGRAM, IN A SANDBOX (cutbox-door.mjs). By AI agents, Wed Nov 11 2026. No macro, syntax, notation, axiom, sorry.
-/
import Derived.Test.YtdkmclmdemngfaaDoorRows
import GoSem.ClaimSeven
namespace Go.Proofs.YtdkmclmdemngfaaDoor
namespace Rows

/-- THE TIED CARD OF 'boathouselaw1.ValueChecksMatchSpec'. -/
def valueChecksMatchSpecCard : Claim7 := { stood := { row := valueChecksMatchSpecRow, standIns := [], harness := (true, "b4183ba9fdf7611debbb88f45b84a0a2be77964c5b38c55f077ce569df0ca3b8"), looks := false }, kinds := [], alts := [], laidByText := true, laidKinds := [.data, .pinned], laidTests := true, laidLooks := .later }
def ValueChecksMatchSpecCardSaid : Prop := Claim7.holds Tryd.pinned (.plain (OpenSpec.ofChange valueChecksMatchSpecSpec)) valueChecksMatchSpecCard

/-- THE TIED CARD OF 'boathouselaw1.ValueKeysMatchSpec'. -/
def valueKeysMatchSpecCard : Claim7 := { stood := { row := valueKeysMatchSpecRow, standIns := [], harness := (true, "b4183ba9fdf7611debbb88f45b84a0a2be77964c5b38c55f077ce569df0ca3b8"), looks := false }, kinds := [], alts := [], laidByText := true, laidKinds := [.data, .pinned], laidTests := true, laidLooks := .later }
def ValueKeysMatchSpecCardSaid : Prop := Claim7.holds Tryd.pinned (.plain (OpenSpec.ofChange valueKeysMatchSpecSpec)) valueKeysMatchSpecCard

/-- THE TIED CARD OF 'boathouselaw1.ValueRoundsMatchSpec'. -/
def valueRoundsMatchSpecCard : Claim7 := { stood := { row := valueRoundsMatchSpecRow, standIns := [], harness := (true, "b4183ba9fdf7611debbb88f45b84a0a2be77964c5b38c55f077ce569df0ca3b8"), looks := false }, kinds := [], alts := [], laidByText := true, laidKinds := [.data, .pinned], laidTests := true, laidLooks := .later }
def ValueRoundsMatchSpecCardSaid : Prop := Claim7.holds Tryd.pinned (.plain (OpenSpec.ofChange valueRoundsMatchSpecSpec)) valueRoundsMatchSpecCard

/-- THE TIED CARD OF 'boathouselaw1.ValueQuotientsAddUp'. -/
def valueQuotientsAddUpCard : Claim7 := { stood := { row := valueQuotientsAddUpRow, standIns := [], harness := (true, "b4183ba9fdf7611debbb88f45b84a0a2be77964c5b38c55f077ce569df0ca3b8"), looks := false }, kinds := [], alts := [], laidByText := true, laidKinds := [.data, .pinned], laidTests := true, laidLooks := .later }
def ValueQuotientsAddUpCardSaid : Prop := Claim7.holds Tryd.pinned (.plain (OpenSpec.ofChange valueQuotientsAddUpSpec)) valueQuotientsAddUpCard

/-- THE TIED CARD OF 'boathouselaw1.ValueKeysAreOrdered'. -/
def valueKeysAreOrderedCard : Claim7 := { stood := { row := valueKeysAreOrderedRow, standIns := [], harness := (true, "b4183ba9fdf7611debbb88f45b84a0a2be77964c5b38c55f077ce569df0ca3b8"), looks := false }, kinds := [], alts := [], laidByText := true, laidKinds := [.data, .pinned], laidTests := true, laidLooks := .later }
def ValueKeysAreOrderedCardSaid : Prop := Claim7.holds Tryd.pinned (.plain (OpenSpec.ofChange valueKeysAreOrderedSpec)) valueKeysAreOrderedCard

/-- THE TIED CARD OF 'boathouselaw1.ValueComputesMatchSpec'. -/
def valueComputesMatchSpecCard : Claim7 := { stood := { row := valueComputesMatchSpecRow, standIns := [], harness := (true, "b4183ba9fdf7611debbb88f45b84a0a2be77964c5b38c55f077ce569df0ca3b8"), looks := false }, kinds := [], alts := [], laidByText := true, laidKinds := [.data, .pinned], laidTests := true, laidLooks := .later }
def ValueComputesMatchSpecCardSaid : Prop := Claim7.holds Tryd.pinned (.plain (OpenSpec.ofChange valueComputesMatchSpecSpec)) valueComputesMatchSpecCard

/-- THE SECOND FORM's CARD OF 'boathouselaw1.ValueChecksMatchSpec'. -/
def valueChecksMatchSpecUptoCard : Claim7 := { stood := { row := valueChecksMatchSpecUptoRow, standIns := [], harness := (true, "b4183ba9fdf7611debbb88f45b84a0a2be77964c5b38c55f077ce569df0ca3b8"), looks := false }, kinds := [], alts := [], laidByText := true, laidKinds := [.data, .pinned], laidTests := true, laidLooks := .later }
def ValueChecksMatchSpecUptoCardSaid : Prop := Claim7.holds Tryd.pinned (.plain (OpenSpec.upto valueChecksMatchSpecSpec)) valueChecksMatchSpecUptoCard

/-- THE SECOND FORM's CARD OF 'boathouselaw1.ValueKeysMatchSpec'. -/
def valueKeysMatchSpecUptoCard : Claim7 := { stood := { row := valueKeysMatchSpecUptoRow, standIns := [], harness := (true, "b4183ba9fdf7611debbb88f45b84a0a2be77964c5b38c55f077ce569df0ca3b8"), looks := false }, kinds := [], alts := [], laidByText := true, laidKinds := [.data, .pinned], laidTests := true, laidLooks := .later }
def ValueKeysMatchSpecUptoCardSaid : Prop := Claim7.holds Tryd.pinned (.plain (OpenSpec.upto valueKeysMatchSpecSpec)) valueKeysMatchSpecUptoCard

/-- THE SECOND FORM's CARD OF 'boathouselaw1.ValueRoundsMatchSpec'. -/
def valueRoundsMatchSpecUptoCard : Claim7 := { stood := { row := valueRoundsMatchSpecUptoRow, standIns := [], harness := (true, "b4183ba9fdf7611debbb88f45b84a0a2be77964c5b38c55f077ce569df0ca3b8"), looks := false }, kinds := [], alts := [], laidByText := true, laidKinds := [.data, .pinned], laidTests := true, laidLooks := .later }
def ValueRoundsMatchSpecUptoCardSaid : Prop := Claim7.holds Tryd.pinned (.plain (OpenSpec.upto valueRoundsMatchSpecSpec)) valueRoundsMatchSpecUptoCard

/-- THE SECOND FORM's CARD OF 'boathouselaw1.ValueQuotientsAddUp'. -/
def valueQuotientsAddUpUptoCard : Claim7 := { stood := { row := valueQuotientsAddUpUptoRow, standIns := [], harness := (true, "b4183ba9fdf7611debbb88f45b84a0a2be77964c5b38c55f077ce569df0ca3b8"), looks := false }, kinds := [], alts := [], laidByText := true, laidKinds := [.data, .pinned], laidTests := true, laidLooks := .later }
def ValueQuotientsAddUpUptoCardSaid : Prop := Claim7.holds Tryd.pinned (.plain (OpenSpec.upto valueQuotientsAddUpSpec)) valueQuotientsAddUpUptoCard

/-- THE SECOND FORM's CARD OF 'boathouselaw1.ValueKeysAreOrdered'. -/
def valueKeysAreOrderedUptoCard : Claim7 := { stood := { row := valueKeysAreOrderedUptoRow, standIns := [], harness := (true, "b4183ba9fdf7611debbb88f45b84a0a2be77964c5b38c55f077ce569df0ca3b8"), looks := false }, kinds := [], alts := [], laidByText := true, laidKinds := [.data, .pinned], laidTests := true, laidLooks := .later }
def ValueKeysAreOrderedUptoCardSaid : Prop := Claim7.holds Tryd.pinned (.plain (OpenSpec.upto valueKeysAreOrderedSpec)) valueKeysAreOrderedUptoCard

/-- THE SECOND FORM's CARD OF 'boathouselaw1.ValueComputesMatchSpec'. -/
def valueComputesMatchSpecUptoCard : Claim7 := { stood := { row := valueComputesMatchSpecUptoRow, standIns := [], harness := (true, "b4183ba9fdf7611debbb88f45b84a0a2be77964c5b38c55f077ce569df0ca3b8"), looks := false }, kinds := [], alts := [], laidByText := true, laidKinds := [.data, .pinned], laidTests := true, laidLooks := .later }
def ValueComputesMatchSpecUptoCardSaid : Prop := Claim7.holds Tryd.pinned (.plain (OpenSpec.upto valueComputesMatchSpecSpec)) valueComputesMatchSpecUptoCard
end Rows
end Go.Proofs.YtdkmclmdemngfaaDoor
