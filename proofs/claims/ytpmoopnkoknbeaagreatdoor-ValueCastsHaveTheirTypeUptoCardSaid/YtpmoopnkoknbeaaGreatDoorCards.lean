/-
  DERIVED. GIVEN WITH THE SEED: THE CARDS: each row of YtpmoopnkoknbeaaGreatDoorRows.lean that lists a variable, with what it lists TIED to the program's text (the seventh form; the later family's looks); each row that meets fmt, with fmt's text TOLD by the authors' own Lean function (tested against real Go, not proved from fmt's source: count such statements apart). THE CARD IS WHAT COUNTS. Prove the row's statement (the work); the ties are given (YtpmoopnkoknbeaaGreatDoorTie.lean); close each card by the builder's one call (the guide's Derived/Test/ToyasCard.lean, 'card_holds'). Laid BY PROGRAM, IN A SANDBOX (cutbox-door.mjs). By AI agents, Wed Nov 11 2026. No macro, syntax, notation, axiom, sorry.
-/
import Derived.Test.YtpmoopnkoknbeaaGreatDoorRows
import GoSem.ClaimSeven
namespace Go.Proofs.YtpmoopnkoknbeaaGreatDoor
namespace Rows

/-- THE TIED CARD OF 'boathouselaw1.ValueTextsMatchSpec'. -/
def valueTextsMatchSpecCard : Claim7 := { stood := { row := valueTextsMatchSpecRow, standIns := [], harness := (true, "cc7971ae3136b9889237c427c18fa339bf887930c64422ba6137454497ddc9f2"), looks := true }, kinds := [], alts := [], laidByText := true, laidKinds := [.data, .data, .data, .data, .sentinel, .sentinel, .pinned], laidTests := true, laidLooks := .later }
def ValueTextsMatchSpecCardSaid : Prop := Claim7.holds Tryz.pinned (.plain (OpenSpec.ofChange valueTextsMatchSpecSpec)) valueTextsMatchSpecCard

/-- THE TIED CARD OF 'boathouselaw1.ValueTextsAreParsed'. -/
def valueTextsAreParsedCard : Claim7 := { stood := { row := valueTextsAreParsedRow, standIns := [], harness := (true, "cc7971ae3136b9889237c427c18fa339bf887930c64422ba6137454497ddc9f2"), looks := true }, kinds := [], alts := [], laidByText := true, laidKinds := [.data, .data, .data, .data, .sentinel, .sentinel, .pinned], laidTests := true, laidLooks := .later }
def ValueTextsAreParsedCardSaid : Prop := Claim7.holds Tryz.pinned (.plain (OpenSpec.ofChange valueTextsAreParsedSpec)) valueTextsAreParsedCard

/-- THE TIED CARD OF 'boathouselaw1.ValueCastsMatchSpec'. -/
def valueCastsMatchSpecCard : Claim7 := { stood := { row := valueCastsMatchSpecRow, standIns := [], harness := (true, "cc7971ae3136b9889237c427c18fa339bf887930c64422ba6137454497ddc9f2"), looks := true }, kinds := [], alts := [], laidByText := true, laidKinds := [.data, .data, .data, .data, .sentinel, .sentinel, .pinned], laidTests := true, laidLooks := .later }
def ValueCastsMatchSpecCardSaid : Prop := Claim7.holds Tryz.pinned (.plain (OpenSpec.ofChange valueCastsMatchSpecSpec)) valueCastsMatchSpecCard

/-- THE TIED CARD OF 'boathouselaw1.ValueCastsHaveTheirType'. -/
def valueCastsHaveTheirTypeCard : Claim7 := { stood := { row := valueCastsHaveTheirTypeRow, standIns := [], harness := (true, "cc7971ae3136b9889237c427c18fa339bf887930c64422ba6137454497ddc9f2"), looks := true }, kinds := [], alts := [], laidByText := true, laidKinds := [.data, .data, .data, .data, .sentinel, .sentinel, .pinned], laidTests := true, laidLooks := .later }
def ValueCastsHaveTheirTypeCardSaid : Prop := Claim7.holds Tryz.pinned (.plain (OpenSpec.ofChange valueCastsHaveTheirTypeSpec)) valueCastsHaveTheirTypeCard

/-- THE SECOND FORM's CARD OF 'boathouselaw1.ValueTextsMatchSpec'. -/
def valueTextsMatchSpecUptoCard : Claim7 := { stood := { row := valueTextsMatchSpecUptoRow, standIns := [], harness := (true, "cc7971ae3136b9889237c427c18fa339bf887930c64422ba6137454497ddc9f2"), looks := true }, kinds := [], alts := [], laidByText := true, laidKinds := [.data, .data, .data, .data, .sentinel, .sentinel, .pinned], laidTests := true, laidLooks := .later }
def ValueTextsMatchSpecUptoCardSaid : Prop := Claim7.holds Tryz.pinned (.plain (OpenSpec.upto valueTextsMatchSpecSpec)) valueTextsMatchSpecUptoCard

/-- THE SECOND FORM's CARD OF 'boathouselaw1.ValueTextsAreParsed'. -/
def valueTextsAreParsedUptoCard : Claim7 := { stood := { row := valueTextsAreParsedUptoRow, standIns := [], harness := (true, "cc7971ae3136b9889237c427c18fa339bf887930c64422ba6137454497ddc9f2"), looks := true }, kinds := [], alts := [], laidByText := true, laidKinds := [.data, .data, .data, .data, .sentinel, .sentinel, .pinned], laidTests := true, laidLooks := .later }
def ValueTextsAreParsedUptoCardSaid : Prop := Claim7.holds Tryz.pinned (.plain (OpenSpec.upto valueTextsAreParsedSpec)) valueTextsAreParsedUptoCard

/-- THE SECOND FORM's CARD OF 'boathouselaw1.ValueCastsMatchSpec'. -/
def valueCastsMatchSpecUptoCard : Claim7 := { stood := { row := valueCastsMatchSpecUptoRow, standIns := [], harness := (true, "cc7971ae3136b9889237c427c18fa339bf887930c64422ba6137454497ddc9f2"), looks := true }, kinds := [], alts := [], laidByText := true, laidKinds := [.data, .data, .data, .data, .sentinel, .sentinel, .pinned], laidTests := true, laidLooks := .later }
def ValueCastsMatchSpecUptoCardSaid : Prop := Claim7.holds Tryz.pinned (.plain (OpenSpec.upto valueCastsMatchSpecSpec)) valueCastsMatchSpecUptoCard

/-- THE SECOND FORM's CARD OF 'boathouselaw1.ValueCastsHaveTheirType'. -/
def valueCastsHaveTheirTypeUptoCard : Claim7 := { stood := { row := valueCastsHaveTheirTypeUptoRow, standIns := [], harness := (true, "cc7971ae3136b9889237c427c18fa339bf887930c64422ba6137454497ddc9f2"), looks := true }, kinds := [], alts := [], laidByText := true, laidKinds := [.data, .data, .data, .data, .sentinel, .sentinel, .pinned], laidTests := true, laidLooks := .later }
def ValueCastsHaveTheirTypeUptoCardSaid : Prop := Claim7.holds Tryz.pinned (.plain (OpenSpec.upto valueCastsHaveTheirTypeSpec)) valueCastsHaveTheirTypeUptoCard
end Rows
end Go.Proofs.YtpmoopnkoknbeaaGreatDoor
