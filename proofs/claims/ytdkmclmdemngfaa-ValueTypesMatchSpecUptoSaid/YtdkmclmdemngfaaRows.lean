/-
  NARROWER THAN 'FOR EVERY INPUT', by the rows' own cells (each row's printed sentence says how): ValueCommonMatchesSpec: loops · ValueTypesMatchSpec: loops · ValueOrderMatchesSpec: loops · ValueOrderIsTotal: loops.
  DERIVED. THE GIVEN ROWS OF THIS SEAT. 6 by the template 'for every input the law returns true; each argument reads behind the call as it read before'; 0 by the template 'total and deterministic' (their statements: YtdkmclmdemngfaaTotals.lean).
  GIVEN WITH THE SEED: the statements are not yours to turn. If you find one false, say at which input.
  Laid BY PROGRAM, IN A SANDBOX (cutbox-rows.mjs): the forced cells as the released guide's own fill.sh prints them over the translation f94859cd593d4c66… (all of the seat's roots in one cut). By AI agents, Wed Nov 11 2026. No macro, syntax, notation, axiom, sorry.
-/
import Derived.Test.YtdkmclmdemngfaaChecked
import GoSem.Claim
import GoSem.ClaimJoined
import GoSem.ClaimMapViews
import Derived.JoinedTies
import Derived.KernelRfl
namespace Go.Proofs.Ytdkmclmdemngfaa
/- THE CELL 'sum', in the pinned program and in every row, IS THE sha256 OF THE DUMP (.gsa) THAT YtdkmclmdemngfaaProg.lean LOADS. Nothing in Lean hashes anything: it is a label: what it is worth is what the hold of that sum in a sandbox is worth. -/
noncomputable def Try.pinned : Pinned := { name := "ytdkmclmdemngfaa", sum := "f94859cd593d4c66a3e961e696717ea476c33e1291abec5edee9673c29401cb8", checked := Try.checked }
namespace Rows
def none {H : Type} : Left H := { results := [], args := [] }

/-- 'boathouselaw1.ValueCommonMatchesSpec': WHATEVER THE INPUT: true; the input reads as it did. -/
def valueCommonMatchesSpecSpec : ChangeSpec := { name := "valueCommonMatchesSpec", fn := fun _ => fun
  | [d1, d2] => { results := [.lit (.bool true)], args := [d1, d2] }
  | _ => none }
def valueCommonMatchesSpecRow : OpenClaim := { program := "ytdkmclmdemngfaa", sum := "f94859cd593d4c66a3e961e696717ea476c33e1291abec5edee9673c29401cb8", func := "boathouse/boathouselaw1.ValueCommonMatchesSpec", spec := "valueCommonMatchesSpec", unfollowed := true, recurses := true, loops := true, apart := false }
def ValueCommonMatchesSpecSaid : Prop := valueCommonMatchesSpecRow.holds Try.pinned (OpenSpec.ofChange valueCommonMatchesSpecSpec)

/-- ITS FALSE NEIGHBOUR: 'it returns false'. Refute it at one input. -/
def valueCommonMatchesSpecWrong : ChangeSpec := { name := "valueCommonMatchesSpec", fn := fun _ => fun
  | [d1, d2] => { results := [.lit (.bool false)], args := [d1, d2] }
  | _ => none }
def ValueCommonMatchesSpecWrongFalsely : Prop := valueCommonMatchesSpecRow.holds Try.pinned (OpenSpec.ofChange valueCommonMatchesSpecWrong)

/-- 'boathouselaw1.ValueTypesMatchSpec': WHATEVER THE INPUT: true; the input reads as it did. -/
def valueTypesMatchSpecSpec : ChangeSpec := { name := "valueTypesMatchSpec", fn := fun _ => fun
  | [d1, d2, d3] => { results := [.lit (.bool true)], args := [d1, d2, d3] }
  | _ => none }
def valueTypesMatchSpecRow : OpenClaim := { program := "ytdkmclmdemngfaa", sum := "f94859cd593d4c66a3e961e696717ea476c33e1291abec5edee9673c29401cb8", func := "boathouse/boathouselaw1.ValueTypesMatchSpec", spec := "valueTypesMatchSpec", unfollowed := true, recurses := true, loops := true, apart := false }
def ValueTypesMatchSpecSaid : Prop := valueTypesMatchSpecRow.holds Try.pinned (OpenSpec.ofChange valueTypesMatchSpecSpec)

/-- ITS FALSE NEIGHBOUR: 'it returns false'. Refute it at one input. -/
def valueTypesMatchSpecWrong : ChangeSpec := { name := "valueTypesMatchSpec", fn := fun _ => fun
  | [d1, d2, d3] => { results := [.lit (.bool false)], args := [d1, d2, d3] }
  | _ => none }
def ValueTypesMatchSpecWrongFalsely : Prop := valueTypesMatchSpecRow.holds Try.pinned (OpenSpec.ofChange valueTypesMatchSpecWrong)

/-- 'boathouselaw1.ValueClocksLeadBack': WHATEVER THE INPUT: true; the input reads as it did. -/
def valueClocksLeadBackSpec : ChangeSpec := { name := "valueClocksLeadBack", fn := fun _ => fun
  | [d1, d2, d3] => { results := [.lit (.bool true)], args := [d1, d2, d3] }
  | _ => none }
def valueClocksLeadBackRow : OpenClaim := { program := "ytdkmclmdemngfaa", sum := "f94859cd593d4c66a3e961e696717ea476c33e1291abec5edee9673c29401cb8", func := "boathouse/boathouselaw1.ValueClocksLeadBack", spec := "valueClocksLeadBack", unfollowed := true, recurses := true, apart := false }
def ValueClocksLeadBackSaid : Prop := valueClocksLeadBackRow.holds Try.pinned (OpenSpec.ofChange valueClocksLeadBackSpec)

/-- ITS FALSE NEIGHBOUR: 'it returns false'. Refute it at one input. -/
def valueClocksLeadBackWrong : ChangeSpec := { name := "valueClocksLeadBack", fn := fun _ => fun
  | [d1, d2, d3] => { results := [.lit (.bool false)], args := [d1, d2, d3] }
  | _ => none }
def ValueClocksLeadBackWrongFalsely : Prop := valueClocksLeadBackRow.holds Try.pinned (OpenSpec.ofChange valueClocksLeadBackWrong)

/-- 'boathouselaw1.ValueOrderMatchesSpec': WHATEVER THE INPUT: true; the input reads as it did. -/
def valueOrderMatchesSpecSpec : ChangeSpec := { name := "valueOrderMatchesSpec", fn := fun _ => fun
  | [d1, d2] => { results := [.lit (.bool true)], args := [d1, d2] }
  | _ => none }
def valueOrderMatchesSpecRow : OpenClaim := { program := "ytdkmclmdemngfaa", sum := "f94859cd593d4c66a3e961e696717ea476c33e1291abec5edee9673c29401cb8", func := "boathouse/boathouselaw1.ValueOrderMatchesSpec", spec := "valueOrderMatchesSpec", inPlace := ["math/bits.Add64", "math/bits.Sub64"], unfollowed := true, recurses := true, loops := true, apart := false }
def ValueOrderMatchesSpecSaid : Prop := valueOrderMatchesSpecRow.holds Try.pinned (OpenSpec.ofChange valueOrderMatchesSpecSpec)

/-- ITS FALSE NEIGHBOUR: 'it returns false'. Refute it at one input. -/
def valueOrderMatchesSpecWrong : ChangeSpec := { name := "valueOrderMatchesSpec", fn := fun _ => fun
  | [d1, d2] => { results := [.lit (.bool false)], args := [d1, d2] }
  | _ => none }
def ValueOrderMatchesSpecWrongFalsely : Prop := valueOrderMatchesSpecRow.holds Try.pinned (OpenSpec.ofChange valueOrderMatchesSpecWrong)

/-- 'boathouselaw1.ValueOrderIsTotal': WHATEVER THE INPUT: true; the input reads as it did. -/
def valueOrderIsTotalSpec : ChangeSpec := { name := "valueOrderIsTotal", fn := fun _ => fun
  | [d1, d2, d3] => { results := [.lit (.bool true)], args := [d1, d2, d3] }
  | _ => none }
def valueOrderIsTotalRow : OpenClaim := { program := "ytdkmclmdemngfaa", sum := "f94859cd593d4c66a3e961e696717ea476c33e1291abec5edee9673c29401cb8", func := "boathouse/boathouselaw1.ValueOrderIsTotal", spec := "valueOrderIsTotal", inPlace := ["math/bits.Add64", "math/bits.Sub64"], unfollowed := true, recurses := true, loops := true, apart := false }
def ValueOrderIsTotalSaid : Prop := valueOrderIsTotalRow.holds Try.pinned (OpenSpec.ofChange valueOrderIsTotalSpec)

/-- ITS FALSE NEIGHBOUR: 'it returns false'. Refute it at one input. -/
def valueOrderIsTotalWrong : ChangeSpec := { name := "valueOrderIsTotal", fn := fun _ => fun
  | [d1, d2, d3] => { results := [.lit (.bool false)], args := [d1, d2, d3] }
  | _ => none }
def ValueOrderIsTotalWrongFalsely : Prop := valueOrderIsTotalRow.holds Try.pinned (OpenSpec.ofChange valueOrderIsTotalWrong)

/-- 'boathouselaw1.ValueTimeMatchesSpec': WHATEVER THE INPUT: true; the input reads as it did. -/
def valueTimeMatchesSpecSpec : ChangeSpec := { name := "valueTimeMatchesSpec", fn := fun _ => fun
  | [d1, d2, d3, d4, d5] => { results := [.lit (.bool true)], args := [d1, d2, d3, d4, d5] }
  | _ => none }
def valueTimeMatchesSpecRow : OpenClaim := { program := "ytdkmclmdemngfaa", sum := "f94859cd593d4c66a3e961e696717ea476c33e1291abec5edee9673c29401cb8", func := "boathouse/boathouselaw1.ValueTimeMatchesSpec", spec := "valueTimeMatchesSpec", unfollowed := true, recurses := true, apart := false }
def ValueTimeMatchesSpecSaid : Prop := valueTimeMatchesSpecRow.holds Try.pinned (OpenSpec.ofChange valueTimeMatchesSpecSpec)

/-- ITS FALSE NEIGHBOUR: 'it returns false'. Refute it at one input. -/
def valueTimeMatchesSpecWrong : ChangeSpec := { name := "valueTimeMatchesSpec", fn := fun _ => fun
  | [d1, d2, d3, d4, d5] => { results := [.lit (.bool false)], args := [d1, d2, d3, d4, d5] }
  | _ => none }
def ValueTimeMatchesSpecWrongFalsely : Prop := valueTimeMatchesSpecRow.holds Try.pinned (OpenSpec.ofChange valueTimeMatchesSpecWrong)

/- THE SECOND FORM. 'bulk': how many values and letters a reading holds, each counted each time it is reached (what is shared counts as often as it is met; a slice's spare places count too). A statement '..UptoSaid' is the law's where the arguments, and the package variables that the reading takes, are together of bulk at most 1048576: NARROWER than '..Said'. Prove '..Said' where nothing that the law and all that it calls make is longer than what came in: it says more and counts as full. Else prove '..UptoSaid'. A law counts once. -/
mutual
def uptoBulk {H : Type} : DataW H → Nat
  | .lit (.string bytes) => bytes.length + 1
  | .lit _ => 1
  | .nil => 1
  | .ptr d => uptoBulk d + 1
  | .slice elems spare => uptoBulkAll elems + uptoBulkAll spare + 1
  | .agg parts => uptoBulkAll parts + 1
  | .iface _ d => uptoBulk d + 1
  | .map entries => uptoBulkEntries entries + 1
  | .held _ => 1
def uptoBulkAll {H : Type} : List (DataW H) → Nat
  | [] => 0
  | d :: r => uptoBulk d + uptoBulkAll r
def uptoBulkEntries {H : Type} : List (Lit × DataW H) → Nat
  | [] => 0
  | x :: r => uptoBulkEntry x + uptoBulkEntries r
def uptoBulkEntry {H : Type} : Lit × DataW H → Nat
  | (.string bytes, d) => bytes.length + uptoBulk d + 1
  | (_, d) => uptoBulk d + 1
 end
def uptoSmall : (H : Type) → List (DataW H) → Bool := fun _ ds => decide (uptoBulkAll ds ≤ 1048576)
def OpenSpec.upto (s : _root_.Go.ChangeSpec) : _root_.Go.OpenSpec := { _root_.Go.OpenSpec.ofChange s with cond := some uptoSmall }

/-- 'boathouselaw1.ValueCommonMatchesSpec', WHERE WHAT IT READS IS OF BULK AT MOST 1048576: true; the input reads as it did. -/
def valueCommonMatchesSpecUptoRow : OpenClaim := { program := "ytdkmclmdemngfaa", sum := "f94859cd593d4c66a3e961e696717ea476c33e1291abec5edee9673c29401cb8", func := "boathouse/boathouselaw1.ValueCommonMatchesSpec", spec := "valueCommonMatchesSpec", unfollowed := true, recurses := true, loops := true, apart := false, narrowed := true }
def ValueCommonMatchesSpecUptoSaid : Prop := valueCommonMatchesSpecUptoRow.holds Try.pinned (OpenSpec.upto valueCommonMatchesSpecSpec)

/-- 'boathouselaw1.ValueTypesMatchSpec', WHERE WHAT IT READS IS OF BULK AT MOST 1048576: true; the input reads as it did. -/
def valueTypesMatchSpecUptoRow : OpenClaim := { program := "ytdkmclmdemngfaa", sum := "f94859cd593d4c66a3e961e696717ea476c33e1291abec5edee9673c29401cb8", func := "boathouse/boathouselaw1.ValueTypesMatchSpec", spec := "valueTypesMatchSpec", unfollowed := true, recurses := true, loops := true, apart := false, narrowed := true }
def ValueTypesMatchSpecUptoSaid : Prop := valueTypesMatchSpecUptoRow.holds Try.pinned (OpenSpec.upto valueTypesMatchSpecSpec)

/-- 'boathouselaw1.ValueClocksLeadBack', WHERE WHAT IT READS IS OF BULK AT MOST 1048576: true; the input reads as it did. -/
def valueClocksLeadBackUptoRow : OpenClaim := { program := "ytdkmclmdemngfaa", sum := "f94859cd593d4c66a3e961e696717ea476c33e1291abec5edee9673c29401cb8", func := "boathouse/boathouselaw1.ValueClocksLeadBack", spec := "valueClocksLeadBack", unfollowed := true, recurses := true, apart := false, narrowed := true }
def ValueClocksLeadBackUptoSaid : Prop := valueClocksLeadBackUptoRow.holds Try.pinned (OpenSpec.upto valueClocksLeadBackSpec)

/-- 'boathouselaw1.ValueOrderMatchesSpec', WHERE WHAT IT READS IS OF BULK AT MOST 1048576: true; the input reads as it did. -/
def valueOrderMatchesSpecUptoRow : OpenClaim := { program := "ytdkmclmdemngfaa", sum := "f94859cd593d4c66a3e961e696717ea476c33e1291abec5edee9673c29401cb8", func := "boathouse/boathouselaw1.ValueOrderMatchesSpec", spec := "valueOrderMatchesSpec", inPlace := ["math/bits.Add64", "math/bits.Sub64"], unfollowed := true, recurses := true, loops := true, apart := false, narrowed := true }
def ValueOrderMatchesSpecUptoSaid : Prop := valueOrderMatchesSpecUptoRow.holds Try.pinned (OpenSpec.upto valueOrderMatchesSpecSpec)

/-- 'boathouselaw1.ValueOrderIsTotal', WHERE WHAT IT READS IS OF BULK AT MOST 1048576: true; the input reads as it did. -/
def valueOrderIsTotalUptoRow : OpenClaim := { program := "ytdkmclmdemngfaa", sum := "f94859cd593d4c66a3e961e696717ea476c33e1291abec5edee9673c29401cb8", func := "boathouse/boathouselaw1.ValueOrderIsTotal", spec := "valueOrderIsTotal", inPlace := ["math/bits.Add64", "math/bits.Sub64"], unfollowed := true, recurses := true, loops := true, apart := false, narrowed := true }
def ValueOrderIsTotalUptoSaid : Prop := valueOrderIsTotalUptoRow.holds Try.pinned (OpenSpec.upto valueOrderIsTotalSpec)

/-- 'boathouselaw1.ValueTimeMatchesSpec', WHERE WHAT IT READS IS OF BULK AT MOST 1048576: true; the input reads as it did. -/
def valueTimeMatchesSpecUptoRow : OpenClaim := { program := "ytdkmclmdemngfaa", sum := "f94859cd593d4c66a3e961e696717ea476c33e1291abec5edee9673c29401cb8", func := "boathouse/boathouselaw1.ValueTimeMatchesSpec", spec := "valueTimeMatchesSpec", unfollowed := true, recurses := true, apart := false, narrowed := true }
def ValueTimeMatchesSpecUptoSaid : Prop := valueTimeMatchesSpecUptoRow.holds Try.pinned (OpenSpec.upto valueTimeMatchesSpecSpec)

end Rows
end Go.Proofs.Ytdkmclmdemngfaa
