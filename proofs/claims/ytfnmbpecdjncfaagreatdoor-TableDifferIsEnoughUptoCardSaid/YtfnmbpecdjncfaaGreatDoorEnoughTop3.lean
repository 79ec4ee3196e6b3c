/- The closed facts of the row. -/
import Derived.Test.YtfnmbpecdjncfaaGreatDoorEnoughTop2
set_option linter.unusedVariables false
set_option linter.unusedSimpArgs false
set_option linter.unnecessarySimpa false
namespace Go.Proofs.YtfnmbpecdjncfaaGreatDoor
open Go Go.SX Go.SX.Cal Go.ChangeShapes Go.WideShapes Go.ChangeAt Go.RowKit
namespace TableDifferIsEnough
set_option maxRecDepth 100000 in
set_option maxHeartbeats 8000000 in
theorem NK : joinedFacts Tryz.prog 5 Tryz.f5 (Rows.OpenSpec.upto Rows.tableDifferIsEnoughSpec).bare Rows.tableDifferIsEnoughUptoRow = true := by
 unfold joinedFacts
 simp only [Bool.and_eq_true]
 repeat' apply And.intro
 all_goals as_aux_lemma => kernel_rfl
end TableDifferIsEnough
end Go.Proofs.YtfnmbpecdjncfaaGreatDoor
