/- 'TableNewMatchesSpec' returns true for every input of bulk at most 1048576, and leaves its arguments as they were. -/
import Derived.Test.YtikbfjpcmalmlaaGreatDoorRows
import Derived.Test.YtikbfjpcmalmlaaGreatDoorCards
import Derived.Test.YtikbfjpcmalmlaaGreatDoorTie
import Derived.JoinedOf
import Derived.Handed
import Derived.OpenShut
import Derived.Deep.DeepHandedRow
import Derived.Lib.LaidU8T
import Derived.PinnedBridge
import Derived.Lay
import Derived.LaidMore
import Derived.SevenTiedAt
import Derived.Stop.Joined
import Derived.Test.YtikbfjpcmalmlaaGreatDoorLaA
set_option linter.unusedVariables false
set_option linter.unusedSimpArgs false
set_option linter.unnecessarySimpa false
namespace Go.Proofs.YtikbfjpcmalmlaaGreatDoor
open Go Go.SX Go.SX.Cal Go.ChangeShapes Go.WideShapes Go.ChangeAt Go.RowKit
set_option linter.unusedVariables false
set_option linter.unusedSimpArgs false

theorem bulkAll_eq {H : Type} : ∀ l : List (DataW H), Rows.uptoBulkAll l = (l.map Rows.uptoBulk).sum
 | [] => by simp [Rows.uptoBulkAll]
 | d :: l => by simp [Rows.uptoBulkAll, bulkAll_eq l]

def bulk : Bulk where
 f := Rows.uptoBulk
 one d := by
  cases d with
  | lit l => cases l <;> simp [Rows.uptoBulk]
  | _ => simp [Rows.uptoBulk]
 str b := by simp [Rows.uptoBulk]
 sl e s := by simp only [Rows.uptoBulk, bulkAll_eq]; omega
 ag ps := by simp only [Rows.uptoBulk, bulkAll_eq]; omega

theorem own : ownKnob Tryz.prog.godebug = none := by kernel_rfl
theorem laidOut : laidOutB Tryz.prog = true := by kernel_rfl

set_option maxRecDepth 100000 in
theorem u8extra : U8Extra Tryz.prog u8ren := ⟨by kernel_rfl, by kernel_rfl, by kernel_rfl, by kernel_rfl, by kernel_rfl, by kernel_rfl, by kernel_rfl⟩

theorem laid_glob {W : World} (hL : laidMetH Tryz.prog Rows.tableNewMatchesSpecRow.laid W) : ∀ (b : Nat) (l : List Value), glob b = some l → b < W.heap.size ∧ GAt W b l := by
 rw [MakeChecks.laidMetH_plain _ _ _ (by kernel_rfl)] at hL
 have h4 := Go.Lib.laidMet.reads hL (d := Rows.laid_unicode_utf8_acceptRanges) (.tail _ (.tail _ (.tail _ (.head _))))
 have h3 := Go.Lib.laidMet.reads hL (d := Rows.laid_unicode_utf8_first) (.tail _ (.tail _ (.tail _ (.tail _ (.tail _ (.tail _ (.head _)))))))
 rw [show Rows.laid_unicode_utf8_first = Lib.firstData from Pinned.utf8First_eq] at h3
 rw [show (Rows.laid_unicode_utf8_acceptRanges : DataW Unit) = Lib.acceptData by kernel_rfl] at h4
 obtain ⟨a, b⟩ := of_tabs (utf8Tabs_of_readsT (U8Types.of196 u8lays) u8extra h3 h4)
 have lt : ∀ (g : Nat) (v : Value), W.cell? ⟨g, 0, Option.none⟩ = some v → g < W.heap.size := by
  intro g v h
  by_cases hg : g < W.heap.size
  ·exact hg
  ·simp [World.cell?, Array.getElem?_eq_none (Nat.le_of_not_lt hg)] at h
 intro g l hg
 unfold glob at hg
 split at hg
 ·rename_i e; subst e
  obtain rfl := Option.some.inj hg
  exact ⟨lt _ _ (a 0 _ rfl), a, fun h => absurd rfl h, fun h => absurd h (show ¬ (0 : Nat) = 3 by decide)⟩
 ·split at hg
  ·rename_i e; subst e
   obtain rfl := Option.some.inj hg
   exact ⟨lt _ _ (b 0 _ rfl), b, fun h => absurd rfl h, fun h => absurd h (show ¬ (0 : Nat) = 3 by decide)⟩
  ·cases hg

namespace TableNewMatchesSpec

set_option maxRecDepth 100000 in
theorem contract (H : Type) (enc : TypeId × Value → H) (W : World) (base : Nat) (args : Array Value) (ds gs : List (DataW H)) (before : List MemPlace)
  (hval : ∀ (j : Nat) t v, Tryz.f4.params[j]? = some t → args[j]? = some v → Value.okWide Tryz.prog W .any base t v)
  (hW : DataW.Whole enc Tryz.prog Tryz.f4.params.toList Rows.tableNewMatchesSpecSpec.vars false W args.toList ds gs before) (hk : Rows.uptoSmall H (ds ++ gs) = true) (hL : laidMetH Tryz.prog Rows.tableNewMatchesSpecRow.laid W) :
  Calls Tryz.prog 4 args W fun e W' => ∃ v, e = .returned v ∧ Rows.tableNewMatchesSpecSpec.post enc Tryz.prog Tryz.f4 false true false false W args v W' := by
 have hW' := hW
 obtain ⟨p, q, hA0, hV, rfl, hfz, hnd⟩ := hW
 have hp : Tryz.f4.params = #[33, 36] := by kernel_rfl
 have hA : DataW.TrodAll enc Tryz.prog W 0 (fun _ => true) true [33, 36] args.toList ds p := by rw [hp] at hA0; exact hA0
 have hval' : ∀ (j : Nat) t v, (#[33, 36] : Array TypeId)[j]? = some t → args[j]? = some v → Value.okWide Tryz.prog W .any base t v := by rw [hp] at hval; exact hval
 obtain ⟨v0, vs0, d0, ds0, p0, q0, hargs, rfl, rfl, h0, r0⟩ := trodAll_cons hA
 obtain ⟨v1, vs1, d1, ds1, p1, q1, rfl, rfl, rfl, h1, r1⟩ := trodAll_cons r0
 obtain ⟨rfl, rfl, rfl⟩ := trodAll_nil r1
 obtain rfl : args = #[v0, v1] := by cases args; simp_all
 obtain ⟨x0, o0, w0, z0⟩ := arg_read (B := bulk) (fun N => rdFields (P := Tryz.prog) (wfT := fun _ => True) (szT := sizeT) (wfF := fun _ => True) (szF := sizeFd) (szL := sizeF) 42 44 3 9 4 33 (by kernel_rfl) (by kernel_rfl) (by kernel_rfl) (by kernel_rfl) (by kernel_rfl) (by kernel_rfl) (by kernel_rfl) (by kernel_rfl) ⟨by kernel_rfl, by kernel_rfl, by kernel_rfl, by kernel_rfl, by kernel_rfl⟩ (by kernel_rfl) ⟨by kernel_rfl, by kernel_rfl, by kernel_rfl, by kernel_rfl⟩ ⟨by kernel_rfl, by kernel_rfl, by kernel_rfl, by kernel_rfl⟩ ⟨by kernel_rfl, by kernel_rfl, by kernel_rfl⟩ ⟨by kernel_rfl, by kernel_rfl, by kernel_rfl⟩ (fun _ _ _ _ _ _ => trivial) szF_mk (fun _ _ _ _ _ _ => trivial) szT_mk (fun xs => by rw [sizeF_sum]; omega) N) (hval' 0 33 v0 rfl rfl) h0
 obtain ⟨x1, o1, w1, z1⟩ := arg_read (B := bulk) (fun N => rdSpec (P := Tryz.prog) 36 34 81 79 3 (by kernel_rfl) (by kernel_rfl) (by kernel_rfl) ⟨by kernel_rfl, by kernel_rfl⟩ (by kernel_rfl) (by kernel_rfl) (by kernel_rfl) (by kernel_rfl) (by kernel_rfl) (by kernel_rfl) (by kernel_rfl) ⟨by kernel_rfl, by kernel_rfl, by kernel_rfl⟩ ⟨by kernel_rfl, by kernel_rfl, by kernel_rfl, by kernel_rfl⟩ ⟨by kernel_rfl, by kernel_rfl, by kernel_rfl, by kernel_rfl⟩  N) (hval' 1 36 v1 rfl rfl) h1
 obtain ⟨rfl, rfl⟩ := trodVars_none hV
 have hsum : bulk.f d0 + bulk.f d1 ≤ 1048576 := by
  have h := of_decide_eq_true hk
  simp only [List.append_nil, List.cons_append, List.nil_append, Rows.uptoBulkAll] at h
  show Rows.uptoBulk d0 + Rows.uptoBulk d1 ≤ 1048576
  omega
 have hc := c_law3_TableNewMatchesSpec x0 x1 true (law_new (by omega) (by omega))
 refine (hc.call (vs := [v0, v1]) rfl ?_ (laid_glob hL)).mono ?_
 ·intro j v a e1 e2
  match j, e1, e2 with
  | 0, e1, e2 => simp only [List.getElem?_cons_zero, List.getElem?_cons_succ, Option.some.injEq] at e1 e2; subst e1; subst e2; exact arg_cell o0 (ok_cell (by kernel_rfl) (hval' 0 33 v0 rfl rfl))
  | 1, e1, e2 => simp only [List.getElem?_cons_zero, List.getElem?_cons_succ, Option.some.injEq] at e1 e2; subst e1; subst e2; exact (arg_struct (ok_structF (by kernel_rfl) (hval' 1 36 v1 rfl rfl)) o1)
  | j + 2, e1, e2 => simp at e1
 ·rintro e W' ⟨v, ι', rfl, hv, hk'⟩
  obtain rfl := bool_of hv
  exact ⟨_, rfl, post_true hW' laidOut (by kernel_rfl) hk' rfl 4 (by kernel_rfl) (by kernel_rfl) rfl⟩

set_option maxRecDepth 100000 in
theorem laid_met (os : Os) : laidMetH Tryz.prog Rows.tableNewMatchesSpecUptoRow.laid ((World.laidAll Tryz.prog os Rows.tableNewMatchesSpecUptoRow.laid).forCall (fun _ _ => 0) ⟨#[], #[.slice none 0 0, .agg #[.slice none 0 0]], []⟩).memory := by
 rw [MakeChecks.laidMetH_plain _ _ _ (by kernel_rfl)]
 exact laidMet_laidAll _ (by kernel_rfl) (by kernel_rfl)

set_option maxRecDepth 100000 in
theorem reads (os : Os) {H : Type} (enc : TypeId × Value → H) : ∃ places, DataW.whole enc Tryz.prog ((World.laidAll Tryz.prog os Rows.tableNewMatchesSpecUptoRow.laid).forCall (fun _ _ => 0) ⟨#[], #[.slice none 0 0, .agg #[.slice none 0 0]], []⟩).memory Tryz.f4.params.toList Rows.tableNewMatchesSpecSpec.vars false (#[.slice none 0 0, .agg #[.slice none 0 0]] : Array Value).toList 8 = some ([.nil, .agg [.nil]], [], places) :=
 ⟨[], by kernel_rfl⟩

set_option maxRecDepth 100000 in
theorem lifted (os : Os) (started : os.Started) (H : Type) (enc : TypeId × Value → H) (F : Stop.Interp) :
  ReturnsInHanded {} Tryz.checked os 4 .any ((Rows.OpenSpec.upto Rows.tableNewMatchesSpecSpec).preRow enc Tryz.prog Tryz.f4 Rows.tableNewMatchesSpecUptoRow.domain false Rows.tableNewMatchesSpecUptoRow.laid) (((Rows.OpenSpec.upto Rows.tableNewMatchesSpecSpec).at F).post enc Tryz.prog Tryz.f4 false true false false) := by
 obtain ⟨places, hx⟩ := reads os enc
 refine returnsInHanded_of_row (C := Tryz.checked) (s := Rows.OpenSpec.upto Rows.tableNewMatchesSpecSpec) own started (by kernel_rfl) Tryz.func4
  (witness_row_at (enc := enc) (C := Tryz.checked) false (World.laidAll Tryz.prog os Rows.tableNewMatchesSpecUptoRow.laid) #[.slice none 0 0, .agg #[.slice none 0 0]] (World.laidAll_os _ _ _) (by kernel_rfl) (by kernel_rfl) (by kernel_rfl)
   (OpenSpec.preRow_of_cond 8 hx (by kernel_rfl) (fun k hk => by cases hk; kernel_rfl) (by kernel_rfl) (laid_met os))) ?_
 intro W base args ds gs before hval hW _ hcond _ hL _ _
 exact contract H enc W base args ds gs before hval hW (hcond _ rfl) hL

set_option maxRecDepth 100000 in
set_option maxHeartbeats 8000000 in
theorem jfacts : joinedFacts Tryz.prog 4 Tryz.f4 (Rows.OpenSpec.upto Rows.tableNewMatchesSpecSpec).bare Rows.tableNewMatchesSpecUptoRow = true := by
 unfold joinedFacts
 simp only [Bool.and_eq_true]
 repeat' apply And.intro
 all_goals as_aux_lemma => kernel_rfl

set_option maxRecDepth 100000 in
theorem holds : Rows.TableNewMatchesSpecUptoSaid :=
 OpenClaim.holds_of_cond 4 Tryz.f4 rfl rfl rfl rfl rfl rfl rfl ⟨rfl, rfl, rfl, rfl, rfl⟩ rfl rfl rfl rfl rfl (by kernel_rfl) Tryz.func4 jfacts
  (of_decide_eq_true (by kernel_rfl)) (by unfold Func.isWrapper; first | (rw [if_pos (by decide +kernel)]; kernel_rfl) | (rw [if_neg (by decide +kernel)]; exact ⟨rfl, rfl⟩))
  (fun os started H enc _ F => by rw [OpenClaim.pre_eq_preRow]; exact lifted os started H enc F)

set_option maxRecDepth 100000 in
theorem plain (f : FuncId) (fn : Func) (hf : Tryz.pinned.checked.prog.funcNamed Rows.tableNewMatchesSpecUptoRow.func = some f) (hfn : Tryz.pinned.checked.prog.funcs[f]? = some fn) :
  true = Tryz.pinned.checked.prog.looks [] ∧ ∀ (j : Nat) t, fn.params[j]? = some t → Tryz.pinned.checked.prog.wantsStandIn t = false := by
 obtain rfl : f = 4 := Option.some.inj ((show Tryz.prog.funcNamed Rows.tableNewMatchesSpecUptoRow.func = some 4 by kernel_rfl).symm.trans hf) |>.symm
 obtain rfl : fn = Tryz.f4 := (Option.some.inj (Tryz.func4.symm.trans hfn)).symm
 refine ⟨by kernel_rfl, fun j t ht => ?_⟩
 have hp : Tryz.f4.params = #[33, 36] := by kernel_rfl
 rw [hp] at ht
 have hm := Array.mem_of_getElem? ht
 have all : ([33, 36] : List TypeId).all (fun t => !Tryz.prog.wantsStandIn t) = true := by kernel_rfl
 have := List.all_eq_true.1 all t (by simpa using hm)
 exact (show Tryz.prog.wantsStandIn t = false by simpa using this)

set_option maxRecDepth 100000 in
theorem card : Rows.TableNewMatchesSpecUptoCardSaid :=
 Claim7.holds_tied_plain_at .later [] _ _ _ _ holds (fun _ h => by cases h) (by kernel_rfl) (fun _ h => by cases h) tableNewMatchesSpecUpto_row_tie rfl ⟨rfl, rfl⟩ (by kernel_rfl) rfl plain (by kernel_rfl)

end TableNewMatchesSpec

theorem tableNewMatchesSpec_card : Rows.TableNewMatchesSpecUptoCardSaid := TableNewMatchesSpec.card

end Go.Proofs.YtikbfjpcmalmlaaGreatDoor
