/- The closed facts of the row. -/
import Derived.Test.YtpiohnabdhpphaaGreatDoorFilesTop2
set_option linter.unusedVariables false
set_option linter.unusedSimpArgs false
set_option linter.unnecessarySimpa false
namespace Go.Proofs.YtpiohnabdhpphaaGreatDoor
open Go Go.SX Go.SX.Cal Go.ChangeShapes Go.WideShapes Go.ChangeAt Go.RowKit
namespace TableFilesMatchSpec
set_option maxRecDepth 100000 in
set_option maxHeartbeats 8000000 in
theorem YS:joinedFacts Tryz.prog 3 Tryz.f3 (Rows.OpenSpec.upto Rows.tableFilesMatchSpecSpec).bare Rows.tableFilesMatchSpecUptoRow=true:=by
 unfold joinedFacts
 simp only[iY]
 repeat' apply And.intro
 all_goals as_aux_lemma=>kernel_rfl
end TableFilesMatchSpec
end Go.Proofs.YtpiohnabdhpphaaGreatDoor
