/- 'TablePruningLosesNothing' returns true for every input of bulk at most 1048576, and leaves its arguments as they were. -/
import Derived.Test.YtpiohnabdhpphaaGreatDoorPruningTop3
set_option linter.unusedVariables false
set_option linter.unusedSimpArgs false
set_option linter.unnecessarySimpa false
namespace Go.Proofs.YtpiohnabdhpphaaGreatDoor
open Go Go.SX Go.SX.Cal Go.ChangeShapes Go.WideShapes Go.ChangeAt Go.RowKit
namespace TablePruningLosesNothing
set_option maxRecDepth 100000 in
theorem acs:Rows.TablePruningLosesNothingUptoSaid:=
 OpenClaim.holds_of_cond 4 Tryz.f4 rfl rfl rfl rfl rfl rfl rfl ⟨rfl,rfl,rfl,rfl,rfl⟩ rfl rfl rfl rfl rfl (by kernel_rfl) Tryz.func4 aaE
  (of_decide_eq_true (by kernel_rfl)) (by unfold Func.isWrapper;first|(rw[if_pos (by decide+kernel)];kernel_rfl) |(rw[if_neg (by decide+kernel)];exact⟨rfl,rfl⟩))
  (fun os started H enc _ F=>by rw[OpenClaim.pre_eq_preRow];exact aaA os started H enc F)
set_option maxRecDepth 100000 in
theorem xx(f:FuncId)(fn:Func)(hf:Tryz.pinned.checked.prog.funcNamed Rows.tablePruningLosesNothingUptoRow.func=some f)(hfn:Tryz.pinned.checked.prog.funcs[f]? =some fn):
  true=Tryz.pinned.checked.prog.looks []∧∀(j:Nat) t,fn.params[j]? =some t→Tryz.pinned.checked.prog.wantsStandIn t=false:=by
 obtain rfl:f=4:=Option.some.inj ((show Tryz.prog.funcNamed Rows.tablePruningLosesNothingUptoRow.func=some 4 by kernel_rfl).symm.trans hf) |>.symm;obtain rfl:fn=Tryz.f4:=(Option.some.inj (Tryz.func4.symm.trans hfn)).symm;refine⟨by kernel_rfl,fun j t ht=> ?_⟩;have hp:Tryz.f4.params= #[28,3,32,46,33]:=by kernel_rfl
 rw[hp]at ht;have hm:=Array.mem_of_getElem? ht;have all:([28,3,32,46,33]:List TypeId).all (fun t=> !Tryz.prog.wantsStandIn t)=true:=by kernel_rfl
 have:=List.all_eq_true.1 all t (by simpa using hm);exact(show Tryz.prog.wantsStandIn t=false by simpa using this)
set_option maxRecDepth 100000 in
theorem card:Rows.TablePruningLosesNothingUptoCardSaid:=
 Claim7.holds_tied_plain_at .later [] _ _ _ _ acs (fun _ h=>by cases h) (by kernel_rfl) (fun _ h=>by cases h) tablePruningLosesNothingUpto_row_tie rfl ⟨rfl,rfl⟩ (by kernel_rfl) rfl xx (by kernel_rfl)
end TablePruningLosesNothing
theorem tablePruningLosesNothing_card:Rows.TablePruningLosesNothingUptoCardSaid:=TablePruningLosesNothing.card
end Go.Proofs.YtpiohnabdhpphaaGreatDoor
