/-
  NARROWER THAN 'FOR EVERY INPUT', by the rows' own cells (each row's printed sentence says how): TableTransformsMatchSpec: loops, laid · ColumnPagesMatchSpec: loops, laid · ColumnAssembleMatchesSpec: loops, laid · ColumnRowsComeBack: loops, laid.
  DERIVED. THE GIVEN ROWS OF THIS SEAT. 4 by the template 'for every input the law returns true; each argument reads behind the call as it read before'; 0 by the template 'total and deterministic' (their statements: YtmaemlebpjnmoaaGreatDoorTotals.lean).
  GIVEN WITH THE SEED: the statements are not yours to turn. If you find one false, say at which input.
  Laid BY PROGRAM, IN A SANDBOX (cutbox-rows.mjs): the forced cells as the released guide's own fill.sh prints them over the translation 088962a059aa7780… (all of the seat's roots in one cut). By AI agents, Wed Nov 11 2026. No macro, syntax, notation, axiom, sorry.
-/
import Derived.Test.YtmaemlebpjnmoaaGreatDoorChecked
import GoSem.PinnedTables
import GoSem.Claim
import GoSem.ClaimJoined
import GoSem.ClaimMapViews
import Derived.JoinedTies
import Derived.KernelRfl
namespace Go.Proofs.YtmaemlebpjnmoaaGreatDoor
/- THE CELL 'sum', in the pinned program and in every row, IS THE sha256 OF THE DUMP (.gsa) THAT YtmaemlebpjnmoaaGreatDoorProg.lean LOADS. Nothing in Lean hashes anything: it is a label: what it is worth is what the hold of that sum in a sandbox is worth. -/
noncomputable def Tryz.pinned : Pinned := { name := "ytmaemlebpjnmoaagreatdoor", sum := "088962a059aa7780a22a92a1d8bc6e590cbc99fdd0f0f182ac2279c485219143", checked := Tryz.checked }
namespace Rows
def none {H : Type} : Left H := { results := [], args := [] }

/- WHAT THE LISTED PACKAGE-LEVEL VARIABLES READ AS WHEN THE CALL BEGINS. Each datum BY PROGRAM (the guide's laid-datum.mjs) off the statement by which the dump's own 'gosem.cut.vars' lays the variable. In a bare row this is a premise. The card (YtmaemlebpjnmoaaGreatDoorCards.lean) ties it to the program's text. -/
def laid_unicode_utf8_acceptRanges {H : Type} : DataW H := .agg [.agg [.lit (.int .u8 128), .lit (.int .u8 191)], .agg [.lit (.int .u8 160), .lit (.int .u8 191)], .agg [.lit (.int .u8 128), .lit (.int .u8 159)], .agg [.lit (.int .u8 144), .lit (.int .u8 191)], .agg [.lit (.int .u8 128), .lit (.int .u8 143)], .agg [.lit (.int .u8 0), .lit (.int .u8 0)], .agg [.lit (.int .u8 0), .lit (.int .u8 0)], .agg [.lit (.int .u8 0), .lit (.int .u8 0)], .agg [.lit (.int .u8 0), .lit (.int .u8 0)], .agg [.lit (.int .u8 0), .lit (.int .u8 0)], .agg [.lit (.int .u8 0), .lit (.int .u8 0)], .agg [.lit (.int .u8 0), .lit (.int .u8 0)], .agg [.lit (.int .u8 0), .lit (.int .u8 0)], .agg [.lit (.int .u8 0), .lit (.int .u8 0)], .agg [.lit (.int .u8 0), .lit (.int .u8 0)], .agg [.lit (.int .u8 0), .lit (.int .u8 0)]]
/-- One of Go's own tables, pinned by name: the form's constant. -/
def laid_unicode_utf8_first : DataW Unit := Go.Pinned.utf8First

/-- 'boathouselaw3.TableTransformsMatchSpec': WHATEVER THE INPUT: true; the input reads as it did. -/
def tableTransformsMatchSpecSpec : ChangeSpec := { name := "tableTransformsMatchSpec", fn := fun _ => fun
  | [d1, d2, d3] => { results := [.lit (.bool true)], args := [d1, d2, d3] }
  | _ => none }
def tableTransformsMatchSpecRow : OpenClaim := { program := "ytmaemlebpjnmoaagreatdoor", sum := "088962a059aa7780a22a92a1d8bc6e590cbc99fdd0f0f182ac2279c485219143", func := "boathouse/boathouselaw3.TableTransformsMatchSpec", spec := "tableTransformsMatchSpec", inPlace := ["math/bits.Add64", "math/bits.Sub64"], unfollowed := true, recurses := true, named := ["unicode/utf8.first", "unicode/utf8.acceptRanges"], loops := true, apart := false, laid := [("unicode/utf8.acceptRanges", laid_unicode_utf8_acceptRanges), ("unicode/utf8.first", laid_unicode_utf8_first)] }
def TableTransformsMatchSpecSaid : Prop := tableTransformsMatchSpecRow.holds Tryz.pinned (OpenSpec.ofChange tableTransformsMatchSpecSpec)

/-- ITS FALSE NEIGHBOUR: 'it returns false'. Refute it at one input. -/
def tableTransformsMatchSpecWrong : ChangeSpec := { name := "tableTransformsMatchSpec", fn := fun _ => fun
  | [d1, d2, d3] => { results := [.lit (.bool false)], args := [d1, d2, d3] }
  | _ => none }
def TableTransformsMatchSpecWrongFalsely : Prop := tableTransformsMatchSpecRow.holds Tryz.pinned (OpenSpec.ofChange tableTransformsMatchSpecWrong)

/-- 'boathouselaw2.ColumnPagesMatchSpec': WHATEVER THE INPUT: true; the input reads as it did. -/
def columnPagesMatchSpecSpec : ChangeSpec := { name := "columnPagesMatchSpec", fn := fun _ => fun
  | [d1, d2, d3, d4] => { results := [.lit (.bool true)], args := [d1, d2, d3, d4] }
  | _ => none }
def columnPagesMatchSpecRow : OpenClaim := { program := "ytmaemlebpjnmoaagreatdoor", sum := "088962a059aa7780a22a92a1d8bc6e590cbc99fdd0f0f182ac2279c485219143", func := "boathouse/boathouselaw2.ColumnPagesMatchSpec", spec := "columnPagesMatchSpec", inPlace := ["math/bits.Add64", "math/bits.Sub64"], unfollowed := true, recurses := true, named := ["unicode/utf8.first", "unicode/utf8.acceptRanges"], loops := true, apart := false, laid := [("unicode/utf8.acceptRanges", laid_unicode_utf8_acceptRanges), ("unicode/utf8.first", laid_unicode_utf8_first)] }
def ColumnPagesMatchSpecSaid : Prop := columnPagesMatchSpecRow.holds Tryz.pinned (OpenSpec.ofChange columnPagesMatchSpecSpec)

/-- ITS FALSE NEIGHBOUR: 'it returns false'. Refute it at one input. -/
def columnPagesMatchSpecWrong : ChangeSpec := { name := "columnPagesMatchSpec", fn := fun _ => fun
  | [d1, d2, d3, d4] => { results := [.lit (.bool false)], args := [d1, d2, d3, d4] }
  | _ => none }
def ColumnPagesMatchSpecWrongFalsely : Prop := columnPagesMatchSpecRow.holds Tryz.pinned (OpenSpec.ofChange columnPagesMatchSpecWrong)

/-- 'boathouselaw2.ColumnAssembleMatchesSpec': WHATEVER THE INPUT: true; the input reads as it did. -/
def columnAssembleMatchesSpecSpec : ChangeSpec := { name := "columnAssembleMatchesSpec", fn := fun _ => fun
  | [d1, d2] => { results := [.lit (.bool true)], args := [d1, d2] }
  | _ => none }
def columnAssembleMatchesSpecRow : OpenClaim := { program := "ytmaemlebpjnmoaagreatdoor", sum := "088962a059aa7780a22a92a1d8bc6e590cbc99fdd0f0f182ac2279c485219143", func := "boathouse/boathouselaw2.ColumnAssembleMatchesSpec", spec := "columnAssembleMatchesSpec", inPlace := ["math/bits.Add64", "math/bits.Sub64"], unfollowed := true, recurses := true, named := ["unicode/utf8.first", "unicode/utf8.acceptRanges"], loops := true, apart := false, laid := [("unicode/utf8.acceptRanges", laid_unicode_utf8_acceptRanges), ("unicode/utf8.first", laid_unicode_utf8_first)] }
def ColumnAssembleMatchesSpecSaid : Prop := columnAssembleMatchesSpecRow.holds Tryz.pinned (OpenSpec.ofChange columnAssembleMatchesSpecSpec)

/-- ITS FALSE NEIGHBOUR: 'it returns false'. Refute it at one input. -/
def columnAssembleMatchesSpecWrong : ChangeSpec := { name := "columnAssembleMatchesSpec", fn := fun _ => fun
  | [d1, d2] => { results := [.lit (.bool false)], args := [d1, d2] }
  | _ => none }
def ColumnAssembleMatchesSpecWrongFalsely : Prop := columnAssembleMatchesSpecRow.holds Tryz.pinned (OpenSpec.ofChange columnAssembleMatchesSpecWrong)

/-- 'boathouselaw2.ColumnRowsComeBack': WHATEVER THE INPUT: true; the input reads as it did. -/
def columnRowsComeBackSpec : ChangeSpec := { name := "columnRowsComeBack", fn := fun _ => fun
  | [d1, d2] => { results := [.lit (.bool true)], args := [d1, d2] }
  | _ => none }
def columnRowsComeBackRow : OpenClaim := { program := "ytmaemlebpjnmoaagreatdoor", sum := "088962a059aa7780a22a92a1d8bc6e590cbc99fdd0f0f182ac2279c485219143", func := "boathouse/boathouselaw2.ColumnRowsComeBack", spec := "columnRowsComeBack", inPlace := ["math/bits.Add64", "math/bits.Sub64"], unfollowed := true, recurses := true, named := ["unicode/utf8.first", "unicode/utf8.acceptRanges"], loops := true, apart := false, laid := [("unicode/utf8.acceptRanges", laid_unicode_utf8_acceptRanges), ("unicode/utf8.first", laid_unicode_utf8_first)] }
def ColumnRowsComeBackSaid : Prop := columnRowsComeBackRow.holds Tryz.pinned (OpenSpec.ofChange columnRowsComeBackSpec)

/-- ITS FALSE NEIGHBOUR: 'it returns false'. Refute it at one input. -/
def columnRowsComeBackWrong : ChangeSpec := { name := "columnRowsComeBack", fn := fun _ => fun
  | [d1, d2] => { results := [.lit (.bool false)], args := [d1, d2] }
  | _ => none }
def ColumnRowsComeBackWrongFalsely : Prop := columnRowsComeBackRow.holds Tryz.pinned (OpenSpec.ofChange columnRowsComeBackWrong)

/- THE SECOND FORM. 'bulk': how many values and letters a reading holds, each counted each time it is reached (what is shared counts as often as it is met; a slice's spare places count too). A statement '..UptoSaid' is the law's where the arguments, and the package variables that the reading takes, are together of bulk at most 1048576: NARROWER than '..Said'. Prove '..Said' where nothing that the law and all that it calls make is longer than what came in: it says more and counts as full. Else prove '..UptoSaid'. A law counts once. -/
mutual
def uptoBulk {H : Type} : DataW H → Nat
  | .lit (.string bytes) => bytes.length + 1
  | .lit _ => 1
  | .nil => 1
  | .ptr d => uptoBulk d + 1
  | .slice elems spare => uptoBulkAll elems + uptoBulkAll spare + 1
  | .agg parts => uptoBulkAll parts + 1
  | .iface _ d => uptoBulk d + 1
  | .map entries => uptoBulkEntries entries + 1
  | .held _ => 1
def uptoBulkAll {H : Type} : List (DataW H) → Nat
  | [] => 0
  | d :: r => uptoBulk d + uptoBulkAll r
def uptoBulkEntries {H : Type} : List (Lit × DataW H) → Nat
  | [] => 0
  | x :: r => uptoBulkEntry x + uptoBulkEntries r
def uptoBulkEntry {H : Type} : Lit × DataW H → Nat
  | (.string bytes, d) => bytes.length + uptoBulk d + 1
  | (_, d) => uptoBulk d + 1
 end
def uptoSmall : (H : Type) → List (DataW H) → Bool := fun _ ds => decide (uptoBulkAll ds ≤ 1048576)
def OpenSpec.upto (s : _root_.Go.ChangeSpec) : _root_.Go.OpenSpec := { _root_.Go.OpenSpec.ofChange s with cond := some uptoSmall }

/-- 'boathouselaw3.TableTransformsMatchSpec', WHERE WHAT IT READS IS OF BULK AT MOST 1048576: true; the input reads as it did. -/
def tableTransformsMatchSpecUptoRow : OpenClaim := { program := "ytmaemlebpjnmoaagreatdoor", sum := "088962a059aa7780a22a92a1d8bc6e590cbc99fdd0f0f182ac2279c485219143", func := "boathouse/boathouselaw3.TableTransformsMatchSpec", spec := "tableTransformsMatchSpec", inPlace := ["math/bits.Add64", "math/bits.Sub64"], unfollowed := true, recurses := true, named := ["unicode/utf8.first", "unicode/utf8.acceptRanges"], loops := true, apart := false, laid := [("unicode/utf8.acceptRanges", laid_unicode_utf8_acceptRanges), ("unicode/utf8.first", laid_unicode_utf8_first)], narrowed := true }
def TableTransformsMatchSpecUptoSaid : Prop := tableTransformsMatchSpecUptoRow.holds Tryz.pinned (OpenSpec.upto tableTransformsMatchSpecSpec)

/-- 'boathouselaw2.ColumnPagesMatchSpec', WHERE WHAT IT READS IS OF BULK AT MOST 1048576: true; the input reads as it did. -/
def columnPagesMatchSpecUptoRow : OpenClaim := { program := "ytmaemlebpjnmoaagreatdoor", sum := "088962a059aa7780a22a92a1d8bc6e590cbc99fdd0f0f182ac2279c485219143", func := "boathouse/boathouselaw2.ColumnPagesMatchSpec", spec := "columnPagesMatchSpec", inPlace := ["math/bits.Add64", "math/bits.Sub64"], unfollowed := true, recurses := true, named := ["unicode/utf8.first", "unicode/utf8.acceptRanges"], loops := true, apart := false, laid := [("unicode/utf8.acceptRanges", laid_unicode_utf8_acceptRanges), ("unicode/utf8.first", laid_unicode_utf8_first)], narrowed := true }
def ColumnPagesMatchSpecUptoSaid : Prop := columnPagesMatchSpecUptoRow.holds Tryz.pinned (OpenSpec.upto columnPagesMatchSpecSpec)

/-- 'boathouselaw2.ColumnAssembleMatchesSpec', WHERE WHAT IT READS IS OF BULK AT MOST 1048576: true; the input reads as it did. -/
def columnAssembleMatchesSpecUptoRow : OpenClaim := { program := "ytmaemlebpjnmoaagreatdoor", sum := "088962a059aa7780a22a92a1d8bc6e590cbc99fdd0f0f182ac2279c485219143", func := "boathouse/boathouselaw2.ColumnAssembleMatchesSpec", spec := "columnAssembleMatchesSpec", inPlace := ["math/bits.Add64", "math/bits.Sub64"], unfollowed := true, recurses := true, named := ["unicode/utf8.first", "unicode/utf8.acceptRanges"], loops := true, apart := false, laid := [("unicode/utf8.acceptRanges", laid_unicode_utf8_acceptRanges), ("unicode/utf8.first", laid_unicode_utf8_first)], narrowed := true }
def ColumnAssembleMatchesSpecUptoSaid : Prop := columnAssembleMatchesSpecUptoRow.holds Tryz.pinned (OpenSpec.upto columnAssembleMatchesSpecSpec)

/-- 'boathouselaw2.ColumnRowsComeBack', WHERE WHAT IT READS IS OF BULK AT MOST 1048576: true; the input reads as it did. -/
def columnRowsComeBackUptoRow : OpenClaim := { program := "ytmaemlebpjnmoaagreatdoor", sum := "088962a059aa7780a22a92a1d8bc6e590cbc99fdd0f0f182ac2279c485219143", func := "boathouse/boathouselaw2.ColumnRowsComeBack", spec := "columnRowsComeBack", inPlace := ["math/bits.Add64", "math/bits.Sub64"], unfollowed := true, recurses := true, named := ["unicode/utf8.first", "unicode/utf8.acceptRanges"], loops := true, apart := false, laid := [("unicode/utf8.acceptRanges", laid_unicode_utf8_acceptRanges), ("unicode/utf8.first", laid_unicode_utf8_first)], narrowed := true }
def ColumnRowsComeBackUptoSaid : Prop := columnRowsComeBackUptoRow.holds Tryz.pinned (OpenSpec.upto columnRowsComeBackSpec)

end Rows
end Go.Proofs.YtmaemlebpjnmoaaGreatDoor
