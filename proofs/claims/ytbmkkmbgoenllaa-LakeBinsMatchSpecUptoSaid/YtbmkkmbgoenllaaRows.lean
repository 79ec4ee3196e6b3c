/-
  No cell of these rows narrows 'for every input' (looked for: loops, veiled, ifaces, maps, wideKeys, modest, calm, conditions, laid).
  DERIVED. THE GIVEN ROWS OF THIS SEAT. 3 by the template 'for every input the law returns true; each argument reads behind the call as it read before'; 0 by the template 'total and deterministic' (their statements: YtbmkkmbgoenllaaTotals.lean).
  GIVEN WITH THE SEED: the statements are not yours to turn. If you find one false, say at which input.
  Laid BY PROGRAM, IN A SANDBOX (cutbox-rows.mjs): the forced cells as the released guide's own fill.sh prints them over the translation eaeef29e0bae4fac… (all of the seat's roots in one cut). By AI agents, Wed Nov 11 2026. No macro, syntax, notation, axiom, sorry.
-/
import Derived.Test.YtbmkkmbgoenllaaChecked
import GoSem.Claim
import GoSem.ClaimJoined
import GoSem.ClaimMapViews
import Derived.JoinedTies
import Derived.KernelRfl
namespace Go.Proofs.Ytbmkkmbgoenllaa
/- THE CELL 'sum', in the pinned program and in every row, IS THE sha256 OF THE DUMP (.gsa) THAT YtbmkkmbgoenllaaProg.lean LOADS. Nothing in Lean hashes anything: it is a label: what it is worth is what the hold of that sum in a sandbox is worth. -/
noncomputable def Try.pinned : Pinned := { name := "ytbmkkmbgoenllaa", sum := "eaeef29e0bae4facadf58153274af3c39cff1c5158b3c9d11958ba7d4fd8a93f", checked := Try.checked }
namespace Rows
def none {H : Type} : Left H := { results := [], args := [] }

/-- 'boathouselaw4.LakeBinsMatchSpec': WHATEVER THE INPUT: true; the input reads as it did. -/
def lakeBinsMatchSpecSpec : ChangeSpec := { name := "lakeBinsMatchSpec", fn := fun _ => fun
  | [d1, d2] => { results := [.lit (.bool true)], args := [d1, d2] }
  | _ => none }
def lakeBinsMatchSpecRow : OpenClaim := { program := "ytbmkkmbgoenllaa", sum := "eaeef29e0bae4facadf58153274af3c39cff1c5158b3c9d11958ba7d4fd8a93f", func := "boathouse/boathouselaw4.LakeBinsMatchSpec", spec := "lakeBinsMatchSpec", unfollowed := true, recurses := true, apart := false }
def LakeBinsMatchSpecSaid : Prop := lakeBinsMatchSpecRow.holds Try.pinned (OpenSpec.ofChange lakeBinsMatchSpecSpec)

/-- ITS FALSE NEIGHBOUR: 'it returns false'. Refute it at one input. -/
def lakeBinsMatchSpecWrong : ChangeSpec := { name := "lakeBinsMatchSpec", fn := fun _ => fun
  | [d1, d2] => { results := [.lit (.bool false)], args := [d1, d2] }
  | _ => none }
def LakeBinsMatchSpecWrongFalsely : Prop := lakeBinsMatchSpecRow.holds Try.pinned (OpenSpec.ofChange lakeBinsMatchSpecWrong)

/-- 'boathouselaw4.LakeCurvesMatchSpec': WHATEVER THE INPUT: true; the input reads as it did. -/
def lakeCurvesMatchSpecSpec : ChangeSpec := { name := "lakeCurvesMatchSpec", fn := fun _ => fun
  | [d1, d2, d3, d4, d5] => { results := [.lit (.bool true)], args := [d1, d2, d3, d4, d5] }
  | _ => none }
def lakeCurvesMatchSpecRow : OpenClaim := { program := "ytbmkkmbgoenllaa", sum := "eaeef29e0bae4facadf58153274af3c39cff1c5158b3c9d11958ba7d4fd8a93f", func := "boathouse/boathouselaw4.LakeCurvesMatchSpec", spec := "lakeCurvesMatchSpec", unfollowed := true, recurses := true, apart := false }
def LakeCurvesMatchSpecSaid : Prop := lakeCurvesMatchSpecRow.holds Try.pinned (OpenSpec.ofChange lakeCurvesMatchSpecSpec)

/-- ITS FALSE NEIGHBOUR: 'it returns false'. Refute it at one input. -/
def lakeCurvesMatchSpecWrong : ChangeSpec := { name := "lakeCurvesMatchSpec", fn := fun _ => fun
  | [d1, d2, d3, d4, d5] => { results := [.lit (.bool false)], args := [d1, d2, d3, d4, d5] }
  | _ => none }
def LakeCurvesMatchSpecWrongFalsely : Prop := lakeCurvesMatchSpecRow.holds Try.pinned (OpenSpec.ofChange lakeCurvesMatchSpecWrong)

/-- 'boathouselaw4.LakeHilbertIsAWalk': WHATEVER THE INPUT: true; the input reads as it did. -/
def lakeHilbertIsAWalkSpec : ChangeSpec := { name := "lakeHilbertIsAWalk", fn := fun _ => fun
  | [d1, d2, d3] => { results := [.lit (.bool true)], args := [d1, d2, d3] }
  | _ => none }
def lakeHilbertIsAWalkRow : OpenClaim := { program := "ytbmkkmbgoenllaa", sum := "eaeef29e0bae4facadf58153274af3c39cff1c5158b3c9d11958ba7d4fd8a93f", func := "boathouse/boathouselaw4.LakeHilbertIsAWalk", spec := "lakeHilbertIsAWalk", unfollowed := true, recurses := true, apart := false }
def LakeHilbertIsAWalkSaid : Prop := lakeHilbertIsAWalkRow.holds Try.pinned (OpenSpec.ofChange lakeHilbertIsAWalkSpec)

/-- ITS FALSE NEIGHBOUR: 'it returns false'. Refute it at one input. -/
def lakeHilbertIsAWalkWrong : ChangeSpec := { name := "lakeHilbertIsAWalk", fn := fun _ => fun
  | [d1, d2, d3] => { results := [.lit (.bool false)], args := [d1, d2, d3] }
  | _ => none }
def LakeHilbertIsAWalkWrongFalsely : Prop := lakeHilbertIsAWalkRow.holds Try.pinned (OpenSpec.ofChange lakeHilbertIsAWalkWrong)

/- THE SECOND FORM. 'bulk': how many values and letters a reading holds, each counted each time it is reached (what is shared counts as often as it is met; a slice's spare places count too). A statement '..UptoSaid' is the law's where the arguments, and the package variables that the reading takes, are together of bulk at most 1048576: NARROWER than '..Said'. Prove '..Said' where nothing that the law and all that it calls make is longer than what came in: it says more and counts as full. Else prove '..UptoSaid'. A law counts once. -/
mutual
def uptoBulk {H : Type} : DataW H → Nat
  | .lit (.string bytes) => bytes.length + 1
  | .lit _ => 1
  | .nil => 1
  | .ptr d => uptoBulk d + 1
  | .slice elems spare => uptoBulkAll elems + uptoBulkAll spare + 1
  | .agg parts => uptoBulkAll parts + 1
  | .iface _ d => uptoBulk d + 1
  | .map entries => uptoBulkEntries entries + 1
  | .held _ => 1
def uptoBulkAll {H : Type} : List (DataW H) → Nat
  | [] => 0
  | d :: r => uptoBulk d + uptoBulkAll r
def uptoBulkEntries {H : Type} : List (Lit × DataW H) → Nat
  | [] => 0
  | x :: r => uptoBulkEntry x + uptoBulkEntries r
def uptoBulkEntry {H : Type} : Lit × DataW H → Nat
  | (.string bytes, d) => bytes.length + uptoBulk d + 1
  | (_, d) => uptoBulk d + 1
 end
def uptoSmall : (H : Type) → List (DataW H) → Bool := fun _ ds => decide (uptoBulkAll ds ≤ 1048576)
def OpenSpec.upto (s : _root_.Go.ChangeSpec) : _root_.Go.OpenSpec := { _root_.Go.OpenSpec.ofChange s with cond := some uptoSmall }

/-- 'boathouselaw4.LakeBinsMatchSpec', WHERE WHAT IT READS IS OF BULK AT MOST 1048576: true; the input reads as it did. -/
def lakeBinsMatchSpecUptoRow : OpenClaim := { program := "ytbmkkmbgoenllaa", sum := "eaeef29e0bae4facadf58153274af3c39cff1c5158b3c9d11958ba7d4fd8a93f", func := "boathouse/boathouselaw4.LakeBinsMatchSpec", spec := "lakeBinsMatchSpec", unfollowed := true, recurses := true, apart := false, narrowed := true }
def LakeBinsMatchSpecUptoSaid : Prop := lakeBinsMatchSpecUptoRow.holds Try.pinned (OpenSpec.upto lakeBinsMatchSpecSpec)

/-- 'boathouselaw4.LakeCurvesMatchSpec', WHERE WHAT IT READS IS OF BULK AT MOST 1048576: true; the input reads as it did. -/
def lakeCurvesMatchSpecUptoRow : OpenClaim := { program := "ytbmkkmbgoenllaa", sum := "eaeef29e0bae4facadf58153274af3c39cff1c5158b3c9d11958ba7d4fd8a93f", func := "boathouse/boathouselaw4.LakeCurvesMatchSpec", spec := "lakeCurvesMatchSpec", unfollowed := true, recurses := true, apart := false, narrowed := true }
def LakeCurvesMatchSpecUptoSaid : Prop := lakeCurvesMatchSpecUptoRow.holds Try.pinned (OpenSpec.upto lakeCurvesMatchSpecSpec)

/-- 'boathouselaw4.LakeHilbertIsAWalk', WHERE WHAT IT READS IS OF BULK AT MOST 1048576: true; the input reads as it did. -/
def lakeHilbertIsAWalkUptoRow : OpenClaim := { program := "ytbmkkmbgoenllaa", sum := "eaeef29e0bae4facadf58153274af3c39cff1c5158b3c9d11958ba7d4fd8a93f", func := "boathouse/boathouselaw4.LakeHilbertIsAWalk", spec := "lakeHilbertIsAWalk", unfollowed := true, recurses := true, apart := false, narrowed := true }
def LakeHilbertIsAWalkUptoSaid : Prop := lakeHilbertIsAWalkUptoRow.holds Try.pinned (OpenSpec.upto lakeHilbertIsAWalkSpec)

end Rows
end Go.Proofs.Ytbmkkmbgoenllaa
