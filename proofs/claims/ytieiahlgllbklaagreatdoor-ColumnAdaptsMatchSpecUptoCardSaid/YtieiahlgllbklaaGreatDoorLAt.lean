/- 'ColumnAdaptsMatchSpec' returns true for every input of bulk at most 1048576, and leaves its arguments as they were. -/
import Derived.Test.YtieiahlgllbklaaGreatDoorRows
import Derived.Test.YtieiahlgllbklaaGreatDoorCards
import Derived.Test.YtieiahlgllbklaaGreatDoorTie
import Derived.JoinedOf
import Derived.Handed
import Derived.OpenShut
import Derived.Deep.DeepHandedRow
import Derived.Lib.LaidU8T
import Derived.PinnedBridge
import Derived.Lay
import Derived.LaidMore
import Derived.SevenTiedAt
import Derived.Stop.Joined
import Derived.Test.YtieiahlgllbklaaGreatDoorLaA
namespace Go.Proofs.YtieiahlgllbklaaGreatDoor
open Go Go.SX Go.SX.Cal Go.ChangeShapes Go.WideShapes Go.ChangeAt Go.RowKit
set_option linter.unusedVariables false
set_option linter.unusedSimpArgs false

theorem bulkAll_eq {H : Type} : ∀ l : List (DataW H), Rows.uptoBulkAll l = (l.map Rows.uptoBulk).sum
  | [] => by simp [Rows.uptoBulkAll]
  | d :: l => by simp [Rows.uptoBulkAll, bulkAll_eq l]

def bulk : Bulk where
  f := Rows.uptoBulk
  one d := by
    cases d with
    | lit l => cases l <;> simp [Rows.uptoBulk]
    | _ => simp [Rows.uptoBulk]
  str b := by simp [Rows.uptoBulk]
  sl e s := by simp only [Rows.uptoBulk, bulkAll_eq]; omega
  ag ps := by simp only [Rows.uptoBulk, bulkAll_eq]; omega

theorem own : ownKnob Tryz.prog.godebug = none := by kernel_rfl
theorem laidOut : laidOutB Tryz.prog = true := by kernel_rfl

set_option maxRecDepth 100000 in
theorem u8extra : U8Extra Tryz.prog u8ren := ⟨by kernel_rfl, by kernel_rfl, by kernel_rfl, by kernel_rfl, by kernel_rfl, by kernel_rfl, by kernel_rfl⟩

/-- what the row lists, the tables' blocks hold -/
theorem laid_glob {W : World} (hL : laidMetH Tryz.prog Rows.columnAdaptsMatchSpecRow.laid W) : ∀ (b : Nat) (l : List Value), glob b = some l → b < W.heap.size ∧ ∀ (i : Nat) v, l[i]? = some v → W.cell? ⟨b, i, Option.none⟩ = some v := by
  rw [MakeChecks.laidMetH_plain _ _ _ (by kernel_rfl)] at hL
  have h4 := Go.Lib.laidMet.reads hL (d := Rows.laid_unicode_utf8_acceptRanges) (.tail _ (.tail _ (.tail _ (.head _))))
  have h3 := Go.Lib.laidMet.reads hL (d := Rows.laid_unicode_utf8_first) (.tail _ (.tail _ (.tail _ (.tail _ (.tail _ (.tail _ (.head _)))))))
  rw [show Rows.laid_unicode_utf8_first = Lib.firstData from Pinned.utf8First_eq] at h3
  rw [show (Rows.laid_unicode_utf8_acceptRanges : DataW Unit) = Lib.acceptData by kernel_rfl] at h4
  obtain ⟨a, b⟩ := of_tabs (utf8Tabs_of_readsT (U8Types.of196 u8lays) u8extra h3 h4)
  have lt : ∀ (g : Nat) (v : Value), W.cell? ⟨g, 0, Option.none⟩ = some v → g < W.heap.size := by
    intro g v h
    by_cases hg : g < W.heap.size
    · exact hg
    · simp [World.cell?, Array.getElem?_eq_none (Nat.le_of_not_lt hg)] at h
  intro g l hg
  unfold glob at hg
  split at hg
  · rename_i e; subst e
    obtain rfl := Option.some.inj hg
    exact ⟨lt _ _ (a 0 _ rfl), a⟩
  · split at hg
    · rename_i e; subst e
      obtain rfl := Option.some.inj hg
      exact ⟨lt _ _ (b 0 _ rfl), b⟩
    · cases hg

namespace ColumnAdaptsMatchSpec

set_option maxRecDepth 100000 in
theorem contract (H : Type) (enc : TypeId × Value → H) (W : World) (base : Nat) (args : Array Value) (ds gs : List (DataW H)) (before : List MemPlace)
    (hval : ∀ (j : Nat) t v, Tryz.f3.params[j]? = some t → args[j]? = some v → Value.okWide Tryz.prog W .any base t v)
    (hW : DataW.Whole enc Tryz.prog Tryz.f3.params.toList Rows.columnAdaptsMatchSpecSpec.vars false W args.toList ds gs before) (hk : Rows.uptoSmall H (ds ++ gs) = true) (hL : laidMetH Tryz.prog Rows.columnAdaptsMatchSpecRow.laid W) :
    Calls Tryz.prog 3 args W fun e W' => ∃ v, e = .returned v ∧ Rows.columnAdaptsMatchSpecSpec.post enc Tryz.prog Tryz.f3 false true false false W args v W' := by
  have hW' := hW
  obtain ⟨p, q, hA0, hV, rfl, hfz, hnd⟩ := hW
  have hp : Tryz.f3.params = #[22, 22, 23, 25, 25] := by kernel_rfl
  have hA : DataW.TrodAll enc Tryz.prog W 0 (fun _ => true) true [22, 22, 23, 25, 25] args.toList ds p := by rw [hp] at hA0; exact hA0
  have hval' : ∀ (j : Nat) t v, (#[22, 22, 23, 25, 25] : Array TypeId)[j]? = some t → args[j]? = some v → Value.okWide Tryz.prog W .any base t v := by rw [hp] at hval; exact hval
  obtain ⟨v0, vs0, d0, ds0, p0, q0, hargs, rfl, rfl, h0, r0⟩ := trodAll_cons hA
  obtain ⟨v1, vs1, d1, ds1, p1, q1, rfl, rfl, rfl, h1, r1⟩ := trodAll_cons r0
  obtain ⟨v2, vs2, d2, ds2, p2, q2, rfl, rfl, rfl, h2, r2⟩ := trodAll_cons r1
  obtain ⟨v3, vs3, d3, ds3, p3, q3, rfl, rfl, rfl, h3, r3⟩ := trodAll_cons r2
  obtain ⟨v4, vs4, d4, ds4, p4, q4, rfl, rfl, rfl, h4, r4⟩ := trodAll_cons r3
  obtain ⟨rfl, rfl, rfl⟩ := trodAll_nil r4
  obtain rfl : args = #[v0, v1, v2, v3, v4] := by cases args; simp_all
  obtain ⟨x0, o0, w0, z0⟩ := arg_read (B := bulk) (fun N => rdFields (P := Tryz.prog) (wfT := fun _ => True) (szT := sizeT) (wfF := fun _ => True) (szF := sizeFd) (szL := sizeF) 25 42 3 9 4 22 (by kernel_rfl) (by kernel_rfl) (by kernel_rfl) (by kernel_rfl) (by kernel_rfl) (by kernel_rfl) (by kernel_rfl) (by kernel_rfl) ⟨by kernel_rfl, by kernel_rfl, by kernel_rfl, by kernel_rfl, by kernel_rfl⟩ (by kernel_rfl) ⟨by kernel_rfl, by kernel_rfl, by kernel_rfl, by kernel_rfl⟩ ⟨by kernel_rfl, by kernel_rfl, by kernel_rfl, by kernel_rfl⟩ ⟨by kernel_rfl, by kernel_rfl, by kernel_rfl⟩ ⟨by kernel_rfl, by kernel_rfl, by kernel_rfl⟩ (fun _ _ _ _ _ _ => trivial) szF_mk (fun _ _ _ _ _ _ => trivial) szT_mk (fun xs => by rw [sizeF_sum]; omega) N) (hval' 0 22 v0 rfl rfl) h0
  obtain ⟨x1, o1, w1, z1⟩ := arg_read (B := bulk) (fun N => rdFields (P := Tryz.prog) (wfT := fun _ => True) (szT := sizeT) (wfF := fun _ => True) (szF := sizeFd) (szL := sizeF) 25 42 3 9 4 22 (by kernel_rfl) (by kernel_rfl) (by kernel_rfl) (by kernel_rfl) (by kernel_rfl) (by kernel_rfl) (by kernel_rfl) (by kernel_rfl) ⟨by kernel_rfl, by kernel_rfl, by kernel_rfl, by kernel_rfl, by kernel_rfl⟩ (by kernel_rfl) ⟨by kernel_rfl, by kernel_rfl, by kernel_rfl, by kernel_rfl⟩ ⟨by kernel_rfl, by kernel_rfl, by kernel_rfl, by kernel_rfl⟩ ⟨by kernel_rfl, by kernel_rfl, by kernel_rfl⟩ ⟨by kernel_rfl, by kernel_rfl, by kernel_rfl⟩ (fun _ _ _ _ _ _ => trivial) szF_mk (fun _ _ _ _ _ _ => trivial) szT_mk (fun xs => by rw [sizeF_sum]; omega) N) (hval' 1 22 v1 rfl rfl) h1
  obtain ⟨x2, o2, w2, z2⟩ := arg_read (B := bulk) (fun N => rdRows (szL := szRow) (szR := szRows) (P := Tryz.prog) (wf := fun _ => True) (sz := sizeV) 23 45 3 9 35 (by kernel_rfl) (by kernel_rfl) (by kernel_rfl) (by kernel_rfl) (by kernel_rfl) (by kernel_rfl) ⟨by kernel_rfl, by kernel_rfl, by kernel_rfl, by kernel_rfl⟩ ⟨by kernel_rfl, by kernel_rfl, by kernel_rfl, by kernel_rfl, by kernel_rfl⟩ ⟨by kernel_rfl, by kernel_rfl, by kernel_rfl, by kernel_rfl, by kernel_rfl⟩ (fun _ _ _ _ _ _ _ _ _ => trivial) sz_mk (fun xs => by unfold szRow; rw [sizeL_sum]; omega) (fun xs => by unfold szRows; omega) N) (hval' 2 23 v2 rfl rfl) h2
  obtain ⟨x3, o3, w3, z3⟩ := arg_read (B := bulk) (fun N => rdType (P := Tryz.prog) (wfT := fun _ => True) (szT := sizeT) (wfF := fun _ => True) (szF := sizeFd) 25 42 3 9 4 22 (by kernel_rfl) (by kernel_rfl) (by kernel_rfl) (by kernel_rfl) (by kernel_rfl) (by kernel_rfl) (by kernel_rfl) (by kernel_rfl) ⟨by kernel_rfl, by kernel_rfl, by kernel_rfl, by kernel_rfl, by kernel_rfl⟩ (by kernel_rfl) ⟨by kernel_rfl, by kernel_rfl, by kernel_rfl, by kernel_rfl⟩ ⟨by kernel_rfl, by kernel_rfl, by kernel_rfl, by kernel_rfl⟩ ⟨by kernel_rfl, by kernel_rfl, by kernel_rfl⟩ ⟨by kernel_rfl, by kernel_rfl, by kernel_rfl⟩ (fun _ _ _ _ _ _ => trivial) szF_mk (fun _ _ _ _ _ _ => trivial) szT_mk N) (hval' 3 25 v3 rfl rfl) h3
  obtain ⟨x4, o4, w4, z4⟩ := arg_read (B := bulk) (fun N => rdType (P := Tryz.prog) (wfT := fun _ => True) (szT := sizeT) (wfF := fun _ => True) (szF := sizeFd) 25 42 3 9 4 22 (by kernel_rfl) (by kernel_rfl) (by kernel_rfl) (by kernel_rfl) (by kernel_rfl) (by kernel_rfl) (by kernel_rfl) (by kernel_rfl) ⟨by kernel_rfl, by kernel_rfl, by kernel_rfl, by kernel_rfl, by kernel_rfl⟩ (by kernel_rfl) ⟨by kernel_rfl, by kernel_rfl, by kernel_rfl, by kernel_rfl⟩ ⟨by kernel_rfl, by kernel_rfl, by kernel_rfl, by kernel_rfl⟩ ⟨by kernel_rfl, by kernel_rfl, by kernel_rfl⟩ ⟨by kernel_rfl, by kernel_rfl, by kernel_rfl⟩ (fun _ _ _ _ _ _ => trivial) szF_mk (fun _ _ _ _ _ _ => trivial) szT_mk N) (hval' 4 25 v4 rfl rfl) h4
  obtain ⟨rfl, rfl⟩ := trodVars_none hV
  have hsum : bulk.f d0 + bulk.f d1 + bulk.f d2 + bulk.f d3 + bulk.f d4 ≤ 1048576 := by
    have h := of_decide_eq_true hk
    simp only [List.append_nil, List.cons_append, List.nil_append, Rows.uptoBulkAll] at h
    show Rows.uptoBulk d0 + Rows.uptoBulk d1 + Rows.uptoBulk d2 + Rows.uptoBulk d3 + Rows.uptoBulk d4 ≤ 1048576
    omega
  have hc := c_law2_ColumnAdaptsMatchSpec x0 x1 x2 x3 x4 true (law_top (by omega) (by omega) (by omega) (by omega) (by omega))
  refine (hc.call (vs := [v0, v1, v2, v3, v4]) rfl ?_ (laid_glob hL)).mono ?_
  · intro j v a e1 e2
    match j, e1, e2 with
    | 0, e1, e2 => simp only [List.getElem?_cons_zero, List.getElem?_cons_succ, Option.some.injEq] at e1 e2; subst e1; subst e2; exact arg_cell o0 (ok_cell (by kernel_rfl) (hval' 0 22 v0 rfl rfl))
    | 1, e1, e2 => simp only [List.getElem?_cons_zero, List.getElem?_cons_succ, Option.some.injEq] at e1 e2; subst e1; subst e2; exact arg_cell o1 (ok_cell (by kernel_rfl) (hval' 1 22 v1 rfl rfl))
    | 2, e1, e2 => simp only [List.getElem?_cons_zero, List.getElem?_cons_succ, Option.some.injEq] at e1 e2; subst e1; subst e2; exact arg_cell o2 (ok_cell (by kernel_rfl) (hval' 2 23 v2 rfl rfl))
    | 3, e1, e2 => simp only [List.getElem?_cons_zero, List.getElem?_cons_succ, Option.some.injEq] at e1 e2; subst e1; subst e2; exact arg_type (arg_struct (ok_structF (by kernel_rfl) (hval' 3 25 v3 rfl rfl)) o3)
    | 4, e1, e2 => simp only [List.getElem?_cons_zero, List.getElem?_cons_succ, Option.some.injEq] at e1 e2; subst e1; subst e2; exact arg_type (arg_struct (ok_structF (by kernel_rfl) (hval' 4 25 v4 rfl rfl)) o4)
    | j + 5, e1, e2 => simp at e1
  · rintro e W' ⟨v, ι', rfl, hv, hk'⟩
    obtain rfl := bool_of hv
    exact ⟨_, rfl, post_true hW' laidOut (by kernel_rfl) hk' rfl 4 (by kernel_rfl) (by kernel_rfl) rfl⟩

set_option maxRecDepth 100000 in
theorem laid_met (os : Os) : laidMetH Tryz.prog Rows.columnAdaptsMatchSpecUptoRow.laid ((World.laidAll Tryz.prog os Rows.columnAdaptsMatchSpecUptoRow.laid).forCall (fun _ _ => 0) ⟨#[], #[.slice none 0 0, .slice none 0 0, .slice none 0 0, .agg #[.int .i64 0, .int .i64 0, .slice none 0 0], .agg #[.int .i64 0, .int .i64 0, .slice none 0 0]], []⟩).memory := by
  rw [MakeChecks.laidMetH_plain _ _ _ (by kernel_rfl)]
  exact laidMet_laidAll _ (by kernel_rfl) (by kernel_rfl)

set_option maxRecDepth 100000 in
theorem reads (os : Os) {H : Type} (enc : TypeId × Value → H) : ∃ places, DataW.whole enc Tryz.prog ((World.laidAll Tryz.prog os Rows.columnAdaptsMatchSpecUptoRow.laid).forCall (fun _ _ => 0) ⟨#[], #[.slice none 0 0, .slice none 0 0, .slice none 0 0, .agg #[.int .i64 0, .int .i64 0, .slice none 0 0], .agg #[.int .i64 0, .int .i64 0, .slice none 0 0]], []⟩).memory Tryz.f3.params.toList Rows.columnAdaptsMatchSpecSpec.vars false (#[.slice none 0 0, .slice none 0 0, .slice none 0 0, .agg #[.int .i64 0, .int .i64 0, .slice none 0 0], .agg #[.int .i64 0, .int .i64 0, .slice none 0 0]] : Array Value).toList 8 = some ([.nil, .nil, .nil, .agg [.lit (.int .i64 0), .lit (.int .i64 0), .nil], .agg [.lit (.int .i64 0), .lit (.int .i64 0), .nil]], [], places) :=
  ⟨[], by kernel_rfl⟩

set_option maxRecDepth 100000 in
theorem lifted (os : Os) (started : os.Started) (H : Type) (enc : TypeId × Value → H) (F : Stop.Interp) :
    ReturnsInHanded {} Tryz.checked os 3 .any ((Rows.OpenSpec.upto Rows.columnAdaptsMatchSpecSpec).preRow enc Tryz.prog Tryz.f3 Rows.columnAdaptsMatchSpecUptoRow.domain false Rows.columnAdaptsMatchSpecUptoRow.laid) (((Rows.OpenSpec.upto Rows.columnAdaptsMatchSpecSpec).at F).post enc Tryz.prog Tryz.f3 false true false false) := by
  obtain ⟨places, hx⟩ := reads os enc
  refine returnsInHanded_of_row (C := Tryz.checked) (s := Rows.OpenSpec.upto Rows.columnAdaptsMatchSpecSpec) own started (by kernel_rfl) Tryz.func3
    (witness_row_at (enc := enc) (C := Tryz.checked) false (World.laidAll Tryz.prog os Rows.columnAdaptsMatchSpecUptoRow.laid) #[.slice none 0 0, .slice none 0 0, .slice none 0 0, .agg #[.int .i64 0, .int .i64 0, .slice none 0 0], .agg #[.int .i64 0, .int .i64 0, .slice none 0 0]] (World.laidAll_os _ _ _) (by kernel_rfl) (by kernel_rfl) (by kernel_rfl)
      (OpenSpec.preRow_of_cond 8 hx (by kernel_rfl) (fun k hk => by cases hk; kernel_rfl) (by kernel_rfl) (laid_met os))) ?_
  intro W base args ds gs before hval hW _ hcond _ hL _ _
  exact contract H enc W base args ds gs before hval hW (hcond _ rfl) hL

set_option maxRecDepth 100000 in
theorem holds : Rows.ColumnAdaptsMatchSpecUptoSaid :=
  OpenClaim.holds_of_cond 3 Tryz.f3 rfl rfl rfl rfl rfl rfl rfl ⟨rfl, rfl, rfl, rfl, rfl⟩ rfl rfl rfl rfl rfl (by kernel_rfl) Tryz.func3 (by kernel_rfl)
    (of_decide_eq_true (by kernel_rfl)) (by unfold Func.isWrapper; first | (rw [if_pos (by decide +kernel)]; kernel_rfl) | (rw [if_neg (by decide +kernel)]; exact ⟨rfl, rfl⟩))
    (fun os started H enc _ F => by rw [OpenClaim.pre_eq_preRow]; exact lifted os started H enc F)

set_option maxRecDepth 100000 in
theorem plain (f : FuncId) (fn : Func) (hf : Tryz.pinned.checked.prog.funcNamed Rows.columnAdaptsMatchSpecUptoRow.func = some f) (hfn : Tryz.pinned.checked.prog.funcs[f]? = some fn) :
    true = Tryz.pinned.checked.prog.looks [] ∧ ∀ (j : Nat) t, fn.params[j]? = some t → Tryz.pinned.checked.prog.wantsStandIn t = false := by
  obtain rfl : f = 3 := Option.some.inj ((show Tryz.prog.funcNamed Rows.columnAdaptsMatchSpecUptoRow.func = some 3 by kernel_rfl).symm.trans hf) |>.symm
  obtain rfl : fn = Tryz.f3 := (Option.some.inj (Tryz.func3.symm.trans hfn)).symm
  refine ⟨by kernel_rfl, fun j t ht => ?_⟩
  have hp : Tryz.f3.params = #[22, 22, 23, 25, 25] := by kernel_rfl
  rw [hp] at ht
  have hm := Array.mem_of_getElem? ht
  have all : ([22, 22, 23, 25, 25] : List TypeId).all (fun t => !Tryz.prog.wantsStandIn t) = true := by kernel_rfl
  have := List.all_eq_true.1 all t (by simpa using hm)
  exact (show Tryz.prog.wantsStandIn t = false by simpa using this)

set_option maxRecDepth 100000 in
theorem card : Rows.ColumnAdaptsMatchSpecUptoCardSaid :=
  Claim7.holds_tied_plain_at .later [] _ _ _ _ holds (fun _ h => by cases h) (by kernel_rfl) (fun _ h => by cases h) columnAdaptsMatchSpecUpto_row_tie rfl ⟨rfl, rfl⟩ (by kernel_rfl) rfl plain (by kernel_rfl)

end ColumnAdaptsMatchSpec

theorem columnAdaptsMatchSpec_card : Rows.ColumnAdaptsMatchSpecUptoCardSaid := ColumnAdaptsMatchSpec.card

end Go.Proofs.YtieiahlgllbklaaGreatDoor
