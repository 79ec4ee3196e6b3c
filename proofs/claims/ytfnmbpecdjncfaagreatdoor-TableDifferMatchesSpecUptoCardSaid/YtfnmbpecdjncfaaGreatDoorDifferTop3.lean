/- The closed facts of the row. -/
import Derived.Test.YtfnmbpecdjncfaaGreatDoorDifferTop2
set_option linter.unusedVariables false
set_option linter.unusedSimpArgs false
set_option linter.unnecessarySimpa false
namespace Go.Proofs.YtfnmbpecdjncfaaGreatDoor
open Go Go.SX Go.SX.Cal Go.ChangeShapes Go.WideShapes Go.ChangeAt Go.RowKit
namespace TableDifferMatchesSpec
set_option maxRecDepth 100000 in
set_option maxHeartbeats 8000000 in
theorem Q2 : joinedFacts Tryz.prog 3 Tryz.f3 (Rows.OpenSpec.upto Rows.tableDifferMatchesSpecSpec).bare Rows.tableDifferMatchesSpecUptoRow = true := by
 unfold joinedFacts
 simp only [Bool.and_eq_true]
 repeat' apply And.intro
 all_goals as_aux_lemma => kernel_rfl
end TableDifferMatchesSpec
end Go.Proofs.YtfnmbpecdjncfaaGreatDoor
