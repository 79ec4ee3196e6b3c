/- 'LakeBucketsMatchSpec' returns true for every input of bulk at most 1048576, and leaves its arguments as they were. -/
import Derived.Test.YtliijalplckcnaaRows
import Derived.JoinedOf
import Derived.Handed
import Derived.Test.YtliijalplckcnaaLaA
set_option linter.unusedVariables false
set_option linter.unusedSimpArgs false
set_option linter.unnecessarySimpa false
namespace Go.Proofs.Ytliijalplckcnaa
open Go Go.SX Go.ChangeShapes Go.WideShapes Go.ChangeAt Go.RowKit
set_option linter.unusedVariables false
set_option linter.unusedSimpArgs false

theorem bulkAll_eq {H : Type} : ∀ l : List (DataW H), Rows.uptoBulkAll l = (l.map Rows.uptoBulk).sum
 | [] => by simp [Rows.uptoBulkAll]
 | d :: l => by simp [Rows.uptoBulkAll, bulkAll_eq l]

def bulk : Bulk where
 f := Rows.uptoBulk
 one d := by
  cases d with
  | lit l => cases l <;> simp [Rows.uptoBulk]
  | _ => simp [Rows.uptoBulk]
 str b := by simp [Rows.uptoBulk]
 sl e s := by simp only [Rows.uptoBulk, bulkAll_eq]; omega
 ag ps := by simp only [Rows.uptoBulk, bulkAll_eq]; omega

theorem own : ownKnob Try.prog.godebug = none := by kernel_rfl
theorem laidOut : laidOutB Try.prog = true := by kernel_rfl

namespace LakeBucketsMatchSpec

set_option maxRecDepth 100000 in
theorem contract (H : Type) (enc : TypeId × Value → H) (W : World) (base : Nat) (args : Array Value) (ds gs : List (DataW H)) (before : List MemPlace)
  (hval : ∀ (j : Nat) t v, Try.f3.params[j]? = some t → args[j]? = some v → Value.okWide Try.prog W .any base t v)
  (hW : DataW.Whole enc Try.prog Try.f3.params.toList Rows.lakeBucketsMatchSpecSpec.vars false W args.toList ds gs before) (hk : Rows.uptoSmall H (ds ++ gs) = true) :
  Calls Try.prog 3 args W fun e W' => ∃ v, e = .returned v ∧ Rows.lakeBucketsMatchSpecSpec.post enc Try.prog Try.f3 false true false false W args v W' := by
 have hW' := hW
 obtain ⟨p, q, hA0, hV, rfl, hfz, hnd⟩ := hW
 have hp : Try.f3.params = #[22] := by kernel_rfl
 have hA : DataW.TrodAll enc Try.prog W 0 (fun _ => true) true [22] args.toList ds p := by rw [hp] at hA0; exact hA0
 have hval' : ∀ (j : Nat) t v, (#[22] : Array TypeId)[j]? = some t → args[j]? = some v → Value.okWide Try.prog W .any base t v := by rw [hp] at hval; exact hval
 obtain ⟨v0, vs0, d0, ds0, p0, q0, hargs, rfl, rfl, h0, r0⟩ := trodAll_cons hA
 obtain ⟨rfl, rfl, rfl⟩ := trodAll_nil r0
 obtain rfl : args = #[v0] := by cases args; simp_all
 obtain ⟨x0, o0, w0, z0⟩ := arg_read (B := bulk) (fun N => rdOps N) (hval' 0 22 v0 rfl rfl) h0
 obtain ⟨rfl, rfl⟩ := trodVars_none hV
 have hsum : bulk.f d0 ≤ 1048576 := by
  have h := of_decide_eq_true hk
  simp only [List.append_nil, List.cons_append, List.nil_append, Rows.uptoBulkAll] at h
  show Rows.uptoBulk d0 ≤ 1048576
  omega
 have hc := c_law4_LakeBucketsMatchSpec x0 true (have hz := szOps_ok (xs := x0) (by omega); law_buckets x0 hz.1 hz.2)
 refine (hc.call (vs := [v0]) rfl ?_ (fun b l h => by cases h)).mono ?_
 ·intro j v a e1 e2
  match j, e1, e2 with
  | 0, e1, e2 => simp only [List.getElem?_cons_zero, List.getElem?_cons_succ, Option.some.injEq] at e1 e2; subst e1; subst e2; exact arg_cell o0 (ok_cell (by kernel_rfl) (hval' 0 22 v0 rfl rfl))
  | j + 1, e1, e2 => simp at e1
 ·rintro e W' ⟨v, ι', rfl, hv, hk'⟩
  obtain rfl := bool_of hv
  exact ⟨_, rfl, post_true hW' laidOut (by kernel_rfl) hk' rfl 4 (by kernel_rfl) (by kernel_rfl) rfl⟩

set_option maxRecDepth 100000 in
theorem lifted (os : Os) (started : os.Started) (H : Type) (enc : TypeId × Value → H) (F : Stop.Interp) :
  ReturnsInHanded {} Try.checked os 3 .any ((Rows.OpenSpec.upto Rows.lakeBucketsMatchSpecSpec).pre6 enc Try.prog Try.f3 Rows.lakeBucketsMatchSpecUptoRow.domain false) (((Rows.OpenSpec.upto Rows.lakeBucketsMatchSpecSpec).at F).post enc Try.prog Try.f3 false true false false) := by
 refine returnsInHanded_of_cond (C := Try.checked) (s := Rows.OpenSpec.upto Rows.lakeBucketsMatchSpecSpec) (k := Rows.uptoSmall) rfl own started (by kernel_rfl) Try.func3
  (OpenSpec.witness (enc := enc) (C := Try.checked) (s := Rows.OpenSpec.upto Rows.lakeBucketsMatchSpecSpec) (k := Rows.uptoSmall) rfl false ⟨#[], #[.slice none 0 0], []⟩ 8 (by kernel_rfl) (by kernel_rfl) (by kernel_rfl)
   (x := ([.nil], [], [])) (by kernel_rfl) rfl (by kernel_rfl)) ?_
 intro W base args ds gs before hval hW _ hk _
 exact contract H enc W base args ds gs before hval hW hk

theorem holds : Rows.LakeBucketsMatchSpecUptoSaid :=
 OpenClaim.holds_of_cond 3 Try.f3 rfl rfl rfl rfl rfl rfl rfl ⟨rfl, rfl, rfl, rfl, rfl⟩ rfl rfl rfl rfl rfl (by kernel_rfl) Try.func3 (by kernel_rfl)
  (of_decide_eq_true (by kernel_rfl)) (by unfold Func.isWrapper; first | (rw [if_pos (by decide +kernel)]; kernel_rfl) | (rw [if_neg (by decide +kernel)]; exact ⟨rfl, rfl⟩))
  (fun os started H enc _ F => lifted os started H enc F)

end LakeBucketsMatchSpec

theorem lakeBucketsMatchSpec_holds : Rows.LakeBucketsMatchSpecUptoSaid := LakeBucketsMatchSpec.holds

end Go.Proofs.Ytliijalplckcnaa
