/- The closed facts of the row. -/
import Derived.Test.YtpiohnabdhpphaaGreatDoorPruningTop2
set_option linter.unusedVariables false
set_option linter.unusedSimpArgs false
set_option linter.unnecessarySimpa false
namespace Go.Proofs.YtpiohnabdhpphaaGreatDoor
open Go Go.SX Go.SX.Cal Go.ChangeShapes Go.WideShapes Go.ChangeAt Go.RowKit
namespace TablePruningLosesNothing
set_option maxRecDepth 100000 in
set_option maxHeartbeats 8000000 in
theorem aaE:joinedFacts Tryz.prog 4 Tryz.f4 (Rows.OpenSpec.upto Rows.tablePruningLosesNothingSpec).bare Rows.tablePruningLosesNothingUptoRow=true:=by
 unfold joinedFacts;simp only[iu];repeat' apply And.intro
 all_goals as_aux_lemma=>kernel_rfl
end TablePruningLosesNothing
end Go.Proofs.YtpiohnabdhpphaaGreatDoor
