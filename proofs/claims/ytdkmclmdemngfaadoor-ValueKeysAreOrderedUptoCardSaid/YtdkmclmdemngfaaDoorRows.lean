/-
  NARROWER THAN 'FOR EVERY INPUT', by the rows' own cells (each row's printed sentence says how): ValueChecksMatchSpec: loops, laid · ValueKeysMatchSpec: loops, laid · ValueRoundsMatchSpec: loops, laid · ValueQuotientsAddUp: laid · ValueKeysAreOrdered: loops, laid · ValueComputesMatchSpec: loops, laid.
  DERIVED. THE GIVEN ROWS OF THIS SEAT. 6 by the template 'for every input the law returns true; each argument reads behind the call as it read before'; 0 by the template 'total and deterministic' (their statements: YtdkmclmdemngfaaDoorTotals.lean).
  GIVEN WITH THE SEED: the statements are not yours to turn. If you find one false, say at which input.
  Laid BY PROGRAM, IN A SANDBOX (cutbox-rows.mjs): the forced cells as the released guide's own fill.sh prints them over the translation cf1388410a277081… (all of the seat's roots in one cut). By AI agents, Wed Nov 11 2026. No macro, syntax, notation, axiom, sorry.
-/
import Derived.Test.YtdkmclmdemngfaaDoorChecked
import GoSem.PinnedTables
import GoSem.Claim
import GoSem.ClaimJoined
import GoSem.ClaimMapViews
import Derived.JoinedTies
import Derived.KernelRfl
namespace Go.Proofs.YtdkmclmdemngfaaDoor
/- THE CELL 'sum', in the pinned program and in every row, IS THE sha256 OF THE DUMP (.gsa) THAT YtdkmclmdemngfaaDoorProg.lean LOADS. Nothing in Lean hashes anything: it is a label: what it is worth is what the hold of that sum in a sandbox is worth. -/
noncomputable def Tryd.pinned : Pinned := { name := "ytdkmclmdemngfaadoor", sum := "cf1388410a277081bad62091a7ea1fb01de2849f323a4c56393c45eb32591c9c", checked := Tryd.checked }
namespace Rows
def none {H : Type} : Left H := { results := [], args := [] }

/- WHAT THE LISTED PACKAGE-LEVEL VARIABLES READ AS WHEN THE CALL BEGINS. Each datum BY PROGRAM (the guide's laid-datum.mjs) off the statement by which the dump's own 'gosem.cut.vars' lays the variable. In a bare row this is a premise. The card (YtdkmclmdemngfaaDoorCards.lean) ties it to the program's text. -/
def laid_unicode_utf8_acceptRanges {H : Type} : DataW H := .agg [.agg [.lit (.int .u8 128), .lit (.int .u8 191)], .agg [.lit (.int .u8 160), .lit (.int .u8 191)], .agg [.lit (.int .u8 128), .lit (.int .u8 159)], .agg [.lit (.int .u8 144), .lit (.int .u8 191)], .agg [.lit (.int .u8 128), .lit (.int .u8 143)], .agg [.lit (.int .u8 0), .lit (.int .u8 0)], .agg [.lit (.int .u8 0), .lit (.int .u8 0)], .agg [.lit (.int .u8 0), .lit (.int .u8 0)], .agg [.lit (.int .u8 0), .lit (.int .u8 0)], .agg [.lit (.int .u8 0), .lit (.int .u8 0)], .agg [.lit (.int .u8 0), .lit (.int .u8 0)], .agg [.lit (.int .u8 0), .lit (.int .u8 0)], .agg [.lit (.int .u8 0), .lit (.int .u8 0)], .agg [.lit (.int .u8 0), .lit (.int .u8 0)], .agg [.lit (.int .u8 0), .lit (.int .u8 0)], .agg [.lit (.int .u8 0), .lit (.int .u8 0)]]
/-- One of Go's own tables, pinned by name: the form's constant. -/
def laid_unicode_utf8_first : DataW Unit := Go.Pinned.utf8First

/-- 'boathouselaw1.ValueChecksMatchSpec': WHATEVER THE INPUT: true; the input reads as it did. -/
def valueChecksMatchSpecSpec : ChangeSpec := { name := "valueChecksMatchSpec", fn := fun _ => fun
  | [d1, d2] => { results := [.lit (.bool true)], args := [d1, d2] }
  | _ => none }
def valueChecksMatchSpecRow : OpenClaim := { program := "ytdkmclmdemngfaadoor", sum := "cf1388410a277081bad62091a7ea1fb01de2849f323a4c56393c45eb32591c9c", func := "boathouse/boathouselaw1.ValueChecksMatchSpec", spec := "valueChecksMatchSpec", unfollowed := true, recurses := true, named := ["unicode/utf8.first", "unicode/utf8.acceptRanges"], loops := true, apart := false, laid := [("unicode/utf8.acceptRanges", laid_unicode_utf8_acceptRanges), ("unicode/utf8.first", laid_unicode_utf8_first)] }
def ValueChecksMatchSpecSaid : Prop := valueChecksMatchSpecRow.holds Tryd.pinned (OpenSpec.ofChange valueChecksMatchSpecSpec)

/-- ITS FALSE NEIGHBOUR: 'it returns false'. Refute it at one input. -/
def valueChecksMatchSpecWrong : ChangeSpec := { name := "valueChecksMatchSpec", fn := fun _ => fun
  | [d1, d2] => { results := [.lit (.bool false)], args := [d1, d2] }
  | _ => none }
def ValueChecksMatchSpecWrongFalsely : Prop := valueChecksMatchSpecRow.holds Tryd.pinned (OpenSpec.ofChange valueChecksMatchSpecWrong)

/-- 'boathouselaw1.ValueKeysMatchSpec': WHATEVER THE INPUT: true; the input reads as it did. -/
def valueKeysMatchSpecSpec : ChangeSpec := { name := "valueKeysMatchSpec", fn := fun _ => fun
  | [d1, d2] => { results := [.lit (.bool true)], args := [d1, d2] }
  | _ => none }
def valueKeysMatchSpecRow : OpenClaim := { program := "ytdkmclmdemngfaadoor", sum := "cf1388410a277081bad62091a7ea1fb01de2849f323a4c56393c45eb32591c9c", func := "boathouse/boathouselaw1.ValueKeysMatchSpec", spec := "valueKeysMatchSpec", inPlace := ["math/bits.Add64", "math/bits.Sub64"], unfollowed := true, recurses := true, named := ["unicode/utf8.first", "unicode/utf8.acceptRanges"], loops := true, apart := false, laid := [("unicode/utf8.acceptRanges", laid_unicode_utf8_acceptRanges), ("unicode/utf8.first", laid_unicode_utf8_first)] }
def ValueKeysMatchSpecSaid : Prop := valueKeysMatchSpecRow.holds Tryd.pinned (OpenSpec.ofChange valueKeysMatchSpecSpec)

/-- ITS FALSE NEIGHBOUR: 'it returns false'. Refute it at one input. -/
def valueKeysMatchSpecWrong : ChangeSpec := { name := "valueKeysMatchSpec", fn := fun _ => fun
  | [d1, d2] => { results := [.lit (.bool false)], args := [d1, d2] }
  | _ => none }
def ValueKeysMatchSpecWrongFalsely : Prop := valueKeysMatchSpecRow.holds Tryd.pinned (OpenSpec.ofChange valueKeysMatchSpecWrong)

/-- 'boathouselaw1.ValueRoundsMatchSpec': WHATEVER THE INPUT: true; the input reads as it did. -/
def valueRoundsMatchSpecSpec : ChangeSpec := { name := "valueRoundsMatchSpec", fn := fun _ => fun
  | [d1, d2] => { results := [.lit (.bool true)], args := [d1, d2] }
  | _ => none }
def valueRoundsMatchSpecRow : OpenClaim := { program := "ytdkmclmdemngfaadoor", sum := "cf1388410a277081bad62091a7ea1fb01de2849f323a4c56393c45eb32591c9c", func := "boathouse/boathouselaw1.ValueRoundsMatchSpec", spec := "valueRoundsMatchSpec", inPlace := ["math/bits.Add64", "math/bits.Sub64"], unfollowed := true, recurses := true, named := ["unicode/utf8.first", "unicode/utf8.acceptRanges"], loops := true, apart := false, laid := [("unicode/utf8.acceptRanges", laid_unicode_utf8_acceptRanges), ("unicode/utf8.first", laid_unicode_utf8_first)] }
def ValueRoundsMatchSpecSaid : Prop := valueRoundsMatchSpecRow.holds Tryd.pinned (OpenSpec.ofChange valueRoundsMatchSpecSpec)

/-- ITS FALSE NEIGHBOUR: 'it returns false'. Refute it at one input. -/
def valueRoundsMatchSpecWrong : ChangeSpec := { name := "valueRoundsMatchSpec", fn := fun _ => fun
  | [d1, d2] => { results := [.lit (.bool false)], args := [d1, d2] }
  | _ => none }
def ValueRoundsMatchSpecWrongFalsely : Prop := valueRoundsMatchSpecRow.holds Tryd.pinned (OpenSpec.ofChange valueRoundsMatchSpecWrong)

/-- 'boathouselaw1.ValueQuotientsAddUp': WHATEVER THE INPUT: true; the input reads as it did. -/
def valueQuotientsAddUpSpec : ChangeSpec := { name := "valueQuotientsAddUp", fn := fun _ => fun
  | [d1, d2] => { results := [.lit (.bool true)], args := [d1, d2] }
  | _ => none }
def valueQuotientsAddUpRow : OpenClaim := { program := "ytdkmclmdemngfaadoor", sum := "cf1388410a277081bad62091a7ea1fb01de2849f323a4c56393c45eb32591c9c", func := "boathouse/boathouselaw1.ValueQuotientsAddUp", spec := "valueQuotientsAddUp", inPlace := ["math/bits.Add64", "math/bits.Sub64"], unfollowed := true, recurses := true, named := ["unicode/utf8.first", "unicode/utf8.acceptRanges"], apart := false, laid := [("unicode/utf8.acceptRanges", laid_unicode_utf8_acceptRanges), ("unicode/utf8.first", laid_unicode_utf8_first)] }
def ValueQuotientsAddUpSaid : Prop := valueQuotientsAddUpRow.holds Tryd.pinned (OpenSpec.ofChange valueQuotientsAddUpSpec)

/-- ITS FALSE NEIGHBOUR: 'it returns false'. Refute it at one input. -/
def valueQuotientsAddUpWrong : ChangeSpec := { name := "valueQuotientsAddUp", fn := fun _ => fun
  | [d1, d2] => { results := [.lit (.bool false)], args := [d1, d2] }
  | _ => none }
def ValueQuotientsAddUpWrongFalsely : Prop := valueQuotientsAddUpRow.holds Tryd.pinned (OpenSpec.ofChange valueQuotientsAddUpWrong)

/-- 'boathouselaw1.ValueKeysAreOrdered': WHATEVER THE INPUT: true; the input reads as it did. -/
def valueKeysAreOrderedSpec : ChangeSpec := { name := "valueKeysAreOrdered", fn := fun _ => fun
  | [d1, d2] => { results := [.lit (.bool true)], args := [d1, d2] }
  | _ => none }
def valueKeysAreOrderedRow : OpenClaim := { program := "ytdkmclmdemngfaadoor", sum := "cf1388410a277081bad62091a7ea1fb01de2849f323a4c56393c45eb32591c9c", func := "boathouse/boathouselaw1.ValueKeysAreOrdered", spec := "valueKeysAreOrdered", inPlace := ["math/bits.Add64", "math/bits.Sub64", "internal/bytealg.Compare"], unfollowed := true, recurses := true, named := ["unicode/utf8.first", "unicode/utf8.acceptRanges"], loops := true, apart := false, laid := [("unicode/utf8.acceptRanges", laid_unicode_utf8_acceptRanges), ("unicode/utf8.first", laid_unicode_utf8_first)] }
def ValueKeysAreOrderedSaid : Prop := valueKeysAreOrderedRow.holds Tryd.pinned (OpenSpec.ofChange valueKeysAreOrderedSpec)

/-- ITS FALSE NEIGHBOUR: 'it returns false'. Refute it at one input. -/
def valueKeysAreOrderedWrong : ChangeSpec := { name := "valueKeysAreOrdered", fn := fun _ => fun
  | [d1, d2] => { results := [.lit (.bool false)], args := [d1, d2] }
  | _ => none }
def ValueKeysAreOrderedWrongFalsely : Prop := valueKeysAreOrderedRow.holds Tryd.pinned (OpenSpec.ofChange valueKeysAreOrderedWrong)

/-- 'boathouselaw1.ValueComputesMatchSpec': WHATEVER THE INPUT: true; the input reads as it did. -/
def valueComputesMatchSpecSpec : ChangeSpec := { name := "valueComputesMatchSpec", fn := fun _ => fun
  | [d1, d2, d3, d4, d5] => { results := [.lit (.bool true)], args := [d1, d2, d3, d4, d5] }
  | _ => none }
def valueComputesMatchSpecRow : OpenClaim := { program := "ytdkmclmdemngfaadoor", sum := "cf1388410a277081bad62091a7ea1fb01de2849f323a4c56393c45eb32591c9c", func := "boathouse/boathouselaw1.ValueComputesMatchSpec", spec := "valueComputesMatchSpec", inPlace := ["math/bits.Add64", "math/bits.Sub64"], unfollowed := true, recurses := true, named := ["unicode/utf8.first", "unicode/utf8.acceptRanges"], loops := true, apart := false, laid := [("unicode/utf8.acceptRanges", laid_unicode_utf8_acceptRanges), ("unicode/utf8.first", laid_unicode_utf8_first)] }
def ValueComputesMatchSpecSaid : Prop := valueComputesMatchSpecRow.holds Tryd.pinned (OpenSpec.ofChange valueComputesMatchSpecSpec)

/-- ITS FALSE NEIGHBOUR: 'it returns false'. Refute it at one input. -/
def valueComputesMatchSpecWrong : ChangeSpec := { name := "valueComputesMatchSpec", fn := fun _ => fun
  | [d1, d2, d3, d4, d5] => { results := [.lit (.bool false)], args := [d1, d2, d3, d4, d5] }
  | _ => none }
def ValueComputesMatchSpecWrongFalsely : Prop := valueComputesMatchSpecRow.holds Tryd.pinned (OpenSpec.ofChange valueComputesMatchSpecWrong)

/- THE SECOND FORM. 'bulk': how many values and letters a reading holds, each counted each time it is reached (what is shared counts as often as it is met; a slice's spare places count too). A statement '..UptoSaid' is the law's where the arguments, and the package variables that the reading takes, are together of bulk at most 1048576: NARROWER than '..Said'. Prove '..Said' where nothing that the law and all that it calls make is longer than what came in: it says more and counts as full. Else prove '..UptoSaid'. A law counts once. -/
mutual
def uptoBulk {H : Type} : DataW H → Nat
  | .lit (.string bytes) => bytes.length + 1
  | .lit _ => 1
  | .nil => 1
  | .ptr d => uptoBulk d + 1
  | .slice elems spare => uptoBulkAll elems + uptoBulkAll spare + 1
  | .agg parts => uptoBulkAll parts + 1
  | .iface _ d => uptoBulk d + 1
  | .map entries => uptoBulkEntries entries + 1
  | .held _ => 1
def uptoBulkAll {H : Type} : List (DataW H) → Nat
  | [] => 0
  | d :: r => uptoBulk d + uptoBulkAll r
def uptoBulkEntries {H : Type} : List (Lit × DataW H) → Nat
  | [] => 0
  | x :: r => uptoBulkEntry x + uptoBulkEntries r
def uptoBulkEntry {H : Type} : Lit × DataW H → Nat
  | (.string bytes, d) => bytes.length + uptoBulk d + 1
  | (_, d) => uptoBulk d + 1
 end
def uptoSmall : (H : Type) → List (DataW H) → Bool := fun _ ds => decide (uptoBulkAll ds ≤ 1048576)
def OpenSpec.upto (s : _root_.Go.ChangeSpec) : _root_.Go.OpenSpec := { _root_.Go.OpenSpec.ofChange s with cond := some uptoSmall }

/-- 'boathouselaw1.ValueChecksMatchSpec', WHERE WHAT IT READS IS OF BULK AT MOST 1048576: true; the input reads as it did. -/
def valueChecksMatchSpecUptoRow : OpenClaim := { program := "ytdkmclmdemngfaadoor", sum := "cf1388410a277081bad62091a7ea1fb01de2849f323a4c56393c45eb32591c9c", func := "boathouse/boathouselaw1.ValueChecksMatchSpec", spec := "valueChecksMatchSpec", unfollowed := true, recurses := true, named := ["unicode/utf8.first", "unicode/utf8.acceptRanges"], loops := true, apart := false, laid := [("unicode/utf8.acceptRanges", laid_unicode_utf8_acceptRanges), ("unicode/utf8.first", laid_unicode_utf8_first)], narrowed := true }
def ValueChecksMatchSpecUptoSaid : Prop := valueChecksMatchSpecUptoRow.holds Tryd.pinned (OpenSpec.upto valueChecksMatchSpecSpec)

/-- 'boathouselaw1.ValueKeysMatchSpec', WHERE WHAT IT READS IS OF BULK AT MOST 1048576: true; the input reads as it did. -/
def valueKeysMatchSpecUptoRow : OpenClaim := { program := "ytdkmclmdemngfaadoor", sum := "cf1388410a277081bad62091a7ea1fb01de2849f323a4c56393c45eb32591c9c", func := "boathouse/boathouselaw1.ValueKeysMatchSpec", spec := "valueKeysMatchSpec", inPlace := ["math/bits.Add64", "math/bits.Sub64"], unfollowed := true, recurses := true, named := ["unicode/utf8.first", "unicode/utf8.acceptRanges"], loops := true, apart := false, laid := [("unicode/utf8.acceptRanges", laid_unicode_utf8_acceptRanges), ("unicode/utf8.first", laid_unicode_utf8_first)], narrowed := true }
def ValueKeysMatchSpecUptoSaid : Prop := valueKeysMatchSpecUptoRow.holds Tryd.pinned (OpenSpec.upto valueKeysMatchSpecSpec)

/-- 'boathouselaw1.ValueRoundsMatchSpec', WHERE WHAT IT READS IS OF BULK AT MOST 1048576: true; the input reads as it did. -/
def valueRoundsMatchSpecUptoRow : OpenClaim := { program := "ytdkmclmdemngfaadoor", sum := "cf1388410a277081bad62091a7ea1fb01de2849f323a4c56393c45eb32591c9c", func := "boathouse/boathouselaw1.ValueRoundsMatchSpec", spec := "valueRoundsMatchSpec", inPlace := ["math/bits.Add64", "math/bits.Sub64"], unfollowed := true, recurses := true, named := ["unicode/utf8.first", "unicode/utf8.acceptRanges"], loops := true, apart := false, laid := [("unicode/utf8.acceptRanges", laid_unicode_utf8_acceptRanges), ("unicode/utf8.first", laid_unicode_utf8_first)], narrowed := true }
def ValueRoundsMatchSpecUptoSaid : Prop := valueRoundsMatchSpecUptoRow.holds Tryd.pinned (OpenSpec.upto valueRoundsMatchSpecSpec)

/-- 'boathouselaw1.ValueQuotientsAddUp', WHERE WHAT IT READS IS OF BULK AT MOST 1048576: true; the input reads as it did. -/
def valueQuotientsAddUpUptoRow : OpenClaim := { program := "ytdkmclmdemngfaadoor", sum := "cf1388410a277081bad62091a7ea1fb01de2849f323a4c56393c45eb32591c9c", func := "boathouse/boathouselaw1.ValueQuotientsAddUp", spec := "valueQuotientsAddUp", inPlace := ["math/bits.Add64", "math/bits.Sub64"], unfollowed := true, recurses := true, named := ["unicode/utf8.first", "unicode/utf8.acceptRanges"], apart := false, laid := [("unicode/utf8.acceptRanges", laid_unicode_utf8_acceptRanges), ("unicode/utf8.first", laid_unicode_utf8_first)], narrowed := true }
def ValueQuotientsAddUpUptoSaid : Prop := valueQuotientsAddUpUptoRow.holds Tryd.pinned (OpenSpec.upto valueQuotientsAddUpSpec)

/-- 'boathouselaw1.ValueKeysAreOrdered', WHERE WHAT IT READS IS OF BULK AT MOST 1048576: true; the input reads as it did. -/
def valueKeysAreOrderedUptoRow : OpenClaim := { program := "ytdkmclmdemngfaadoor", sum := "cf1388410a277081bad62091a7ea1fb01de2849f323a4c56393c45eb32591c9c", func := "boathouse/boathouselaw1.ValueKeysAreOrdered", spec := "valueKeysAreOrdered", inPlace := ["math/bits.Add64", "math/bits.Sub64", "internal/bytealg.Compare"], unfollowed := true, recurses := true, named := ["unicode/utf8.first", "unicode/utf8.acceptRanges"], loops := true, apart := false, laid := [("unicode/utf8.acceptRanges", laid_unicode_utf8_acceptRanges), ("unicode/utf8.first", laid_unicode_utf8_first)], narrowed := true }
def ValueKeysAreOrderedUptoSaid : Prop := valueKeysAreOrderedUptoRow.holds Tryd.pinned (OpenSpec.upto valueKeysAreOrderedSpec)

/-- 'boathouselaw1.ValueComputesMatchSpec', WHERE WHAT IT READS IS OF BULK AT MOST 1048576: true; the input reads as it did. -/
def valueComputesMatchSpecUptoRow : OpenClaim := { program := "ytdkmclmdemngfaadoor", sum := "cf1388410a277081bad62091a7ea1fb01de2849f323a4c56393c45eb32591c9c", func := "boathouse/boathouselaw1.ValueComputesMatchSpec", spec := "valueComputesMatchSpec", inPlace := ["math/bits.Add64", "math/bits.Sub64"], unfollowed := true, recurses := true, named := ["unicode/utf8.first", "unicode/utf8.acceptRanges"], loops := true, apart := false, laid := [("unicode/utf8.acceptRanges", laid_unicode_utf8_acceptRanges), ("unicode/utf8.first", laid_unicode_utf8_first)], narrowed := true }
def ValueComputesMatchSpecUptoSaid : Prop := valueComputesMatchSpecUptoRow.holds Tryd.pinned (OpenSpec.upto valueComputesMatchSpecSpec)

end Rows
end Go.Proofs.YtdkmclmdemngfaaDoor
