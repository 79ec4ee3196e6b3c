/- The closed facts of the row. -/
import Derived.Test.YtfnmbpecdjncfaaGreatDoorLiveTop2
set_option linter.unusedVariables false
set_option linter.unusedSimpArgs false
set_option linter.unnecessarySimpa false
namespace Go.Proofs.YtfnmbpecdjncfaaGreatDoor
open Go Go.SX Go.SX.Cal Go.ChangeShapes Go.WideShapes Go.ChangeAt Go.RowKit
open Go.IntKind (i64)
namespace TableLiveMatchesSpec
set_option maxRecDepth 100000 in
set_option maxHeartbeats 8000000 in
theorem Tx : joinedFacts Tryz.prog 4 Tryz.f4 (Rows.OpenSpec.upto Rows.tableLiveMatchesSpecSpec).bare Rows.tableLiveMatchesSpecUptoRow = true := by
 unfold joinedFacts
 simp only [gZ]
 repeat' apply And.intro
 all_goals as_aux_lemma => kernel_rfl
end TableLiveMatchesSpec
end Go.Proofs.YtfnmbpecdjncfaaGreatDoor
