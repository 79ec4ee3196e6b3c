/- 'ColumnRowsComeBack' returns true for every input of bulk at most 1048576, and leaves its arguments as they were. -/
import Derived.Test.YtmaemlebpjnmoaaGreatDoorRows
import Derived.Test.YtmaemlebpjnmoaaGreatDoorCards
import Derived.Test.YtmaemlebpjnmoaaGreatDoorTie
import Derived.JoinedOf
import Derived.Handed
import Derived.OpenShut
import Derived.Deep.DeepHandedRow
import Derived.Lib.LaidU8T
import Derived.PinnedBridge
import Derived.Lay
import Derived.LaidMore
import Derived.SevenTiedAt
import Derived.Stop.Joined
import Derived.Test.YtmaemlebpjnmoaaGreatDoorLaA
set_option linter.unusedVariables false
set_option linter.unusedSimpArgs false
set_option linter.unnecessarySimpa false
namespace Go.Proofs.YtmaemlebpjnmoaaGreatDoor
open Go Go.SX Go.SX.Cal Go.ChangeShapes Go.WideShapes Go.ChangeAt Go.RowKit
theorem oE {H : Type} : ∀ l : List (DataW H), Rows.uptoBulkAll l = (l.map Rows.uptoBulk).sum
 | [] => by simp [Rows.uptoBulkAll]
 | d :: l => by simp [Rows.uptoBulkAll, oE l]
def BK : rK where
 f := Rows.uptoBulk
 one d := by
  cases d with
  | lit l => cases l <;> simp [Rows.uptoBulk]
  | _ => simp [Rows.uptoBulk]
 str b := by simp [Rows.uptoBulk]
 sl e s := by simp only [Rows.uptoBulk, oE]; omega
 ag ps := by simp only [Rows.uptoBulk, oE]; omega
theorem own : ownKnob Tryz.prog.godebug = none := by kernel_rfl
theorem B9 : laidOutB Tryz.prog = true := by kernel_rfl
set_option maxRecDepth 100000 in
theorem BW : U8Extra Tryz.prog Cc := ⟨by kernel_rfl, by kernel_rfl, by kernel_rfl, by kernel_rfl, by kernel_rfl, by kernel_rfl, by kernel_rfl⟩
theorem yC {W : World} (hL : laidMetH Tryz.prog Rows.columnRowsComeBackRow.laid W) : ∀ (b : Nat) (l : List Value), uw b = some l → b < W.heap.size ∧ ∀ (i : Nat) v, l[i]? = some v → W.cell? ⟨b, i, Option.none⟩ = some v := by
 rw [MakeChecks.laidMetH_plain _ _ _ (by kernel_rfl)] at hL
 have h4 := Go.Lib.laidMet.reads hL (d := Rows.laid_unicode_utf8_acceptRanges) (.head _)
 have h3 := Go.Lib.laidMet.reads hL (d := Rows.laid_unicode_utf8_first) (.tail _ (.head _))
 rw [show Rows.laid_unicode_utf8_first = Lib.firstData from Pinned.utf8First_eq] at h3
 rw [show (Rows.laid_unicode_utf8_acceptRanges : DataW Unit) = Lib.acceptData by kernel_rfl] at h4
 obtain ⟨a, b⟩ := BP (utf8Tabs_of_readsT (U8Types.of196 Bd) BW h3 h4)
 have lt : ∀ (g : Nat) (v : Value), W.cell? ⟨g, 0, Option.none⟩ = some v → g < W.heap.size := by
  intro g v h
  by_cases hg : g < W.heap.size
  ·exact hg
  ·simp [World.cell?, Array.getElem?_eq_none (Nat.le_of_not_lt hg)] at h
 intro g l hg
 unfold uw at hg
 split at hg
 ·rename_i e; subst e
  obtain rfl := Option.some.inj hg
  exact ⟨lt _ _ (a 0 _ rfl), a⟩
 ·split at hg
  ·rename_i e; subst e
   obtain rfl := Option.some.inj hg
   exact ⟨lt _ _ (b 0 _ rfl), b⟩
  ·cases hg
namespace ColumnRowsComeBack
set_option maxRecDepth 100000 in
theorem yY (H : Type) (enc : TypeId × Value → H) (W : World) (base : Nat) (args : Array Value) (ds gs : List (DataW H)) (before : List MemPlace)
  (hval : ∀ (j : Nat) t v, Tryz.f6.params[j]? = some t → args[j]? = some v → Value.okWide Tryz.prog W .any base t v)
  (hW : DataW.Whole enc Tryz.prog Tryz.f6.params.toList Rows.columnRowsComeBackSpec.vars false W args.toList ds gs before) (hk : Rows.uptoSmall H (ds ++ gs) = true) (hL : laidMetH Tryz.prog Rows.columnRowsComeBackRow.laid W) :
  Calls Tryz.prog 6 args W fun e W' => ∃ v, e = .returned v ∧ Rows.columnRowsComeBackSpec.post enc Tryz.prog Tryz.f6 false true false false W args v W' := by
 have hW' := hW
 obtain ⟨p, q, hA0, hV, rfl, hfz, hnd⟩ := hW
 have hp : Tryz.f6.params = #[24, 48] := by kernel_rfl
 have hA : DataW.TrodAll enc Tryz.prog W 0 (fun _ => true) true [24, 48] args.toList ds p := by rw [hp] at hA0; exact hA0
 have hval' : ∀ (j : Nat) t v, (#[24, 48] : Array TypeId)[j]? = some t → args[j]? = some v → Value.okWide Tryz.prog W .any base t v := by rw [hp] at hval; exact hval
 obtain ⟨v0, vs0, d0, ds0, p0, q0, hargs, rfl, rfl, h0, r0⟩ := trodAll_cons hA
 obtain ⟨v1, vs1, d1, ds1, p1, q1, rfl, rfl, rfl, h1, r1⟩ := trodAll_cons r0
 obtain ⟨rfl, rfl, rfl⟩ := trodAll_nil r1
 obtain rfl : args = #[v0, v1] := by cases args; simp_all
 obtain ⟨x0, o0, w0, z0⟩ := uF (B := BK) (fun N => AN (P := Tryz.prog) (wfT := fun _ => True) (szT := gX) (wfF := fun _ => True) (szF := jN) (szL := bQ) 26 116 3 9 4 24 (by kernel_rfl) (by kernel_rfl) (by kernel_rfl) (by kernel_rfl) (by kernel_rfl) (by kernel_rfl) (by kernel_rfl) (by kernel_rfl) ⟨by kernel_rfl, by kernel_rfl, by kernel_rfl, by kernel_rfl, by kernel_rfl⟩ (by kernel_rfl) ⟨by kernel_rfl, by kernel_rfl, by kernel_rfl, by kernel_rfl⟩ ⟨by kernel_rfl, by kernel_rfl, by kernel_rfl, by kernel_rfl⟩ ⟨by kernel_rfl, by kernel_rfl, by kernel_rfl⟩ ⟨by kernel_rfl, by kernel_rfl, by kernel_rfl⟩ (fun _ _ _ _ _ _ => trivial) C1 (fun _ _ _ _ _ _ => trivial) C8 (fun xs => by rw [qh]; omega) N) (hval' 0 24 v0 rfl rfl) h0
 obtain ⟨x1, o1, w1, z1⟩ := uF (B := BK) (fun N => CO (szL := xE) (szR := qd) (P := Tryz.prog) (wf := fun _ => True) (sz := dm) 48 29 3 9 27 (by kernel_rfl) (by kernel_rfl) (by kernel_rfl) (by kernel_rfl) (by kernel_rfl) (by kernel_rfl) ⟨by kernel_rfl, by kernel_rfl, by kernel_rfl, by kernel_rfl⟩ ⟨by kernel_rfl, by kernel_rfl, by kernel_rfl, by kernel_rfl, by kernel_rfl⟩ ⟨by kernel_rfl, by kernel_rfl, by kernel_rfl, by kernel_rfl, by kernel_rfl⟩ (fun _ _ _ _ _ _ _ _ _ => trivial) Dq (fun xs => by unfold xE; rw [qo]; omega) (fun xs => by unfold qd; omega) N) (hval' 1 48 v1 rfl rfl) h1
 obtain ⟨rfl, rfl⟩ := trodVars_none hV
 have hsum : BK.f d0 + BK.f d1 ≤ 1048576 := by
  have h := of_decide_eq_true hk
  simp only [List.append_nil, List.cons_append, List.nil_append, Rows.uptoBulkAll] at h
  show Rows.uptoBulk d0 + Rows.uptoBulk d1 ≤ 1048576
  omega
 have hc := lO x0 x1 true (B3 (by omega) (by omega))
 refine (hc.call (vs := [v0, v1]) rfl ?_ (yC hL)).mono ?_
 ·intro j v a e1 e2
  match j, e1, e2 with
  | 0, e1, e2 => simp only [List.getElem?_cons_zero, List.getElem?_cons_succ, Option.some.injEq] at e1 e2; subst e1; subst e2; exact uy o0 (xz (by kernel_rfl) (hval' 0 24 v0 rfl rfl))
  | 1, e1, e2 => simp only [List.getElem?_cons_zero, List.getElem?_cons_succ, Option.some.injEq] at e1 e2; subst e1; subst e2; exact uy o1 (xz (by kernel_rfl) (hval' 1 48 v1 rfl rfl))
  | j + 2, e1, e2 => simp at e1
 ·rintro e W' ⟨v, ι', rfl, hv, hk'⟩
  obtain rfl := BN hv
  exact ⟨_, rfl, yz hW' B9 (by kernel_rfl) hk' rfl 4 (by kernel_rfl) (by kernel_rfl) rfl⟩
set_option maxRecDepth 100000 in
theorem Aj (os : Os) : laidMetH Tryz.prog Rows.columnRowsComeBackUptoRow.laid ((World.laidAll Tryz.prog os Rows.columnRowsComeBackUptoRow.laid).forCall (fun _ _ => 0) ⟨#[], #[.slice none 0 0, .slice none 0 0], []⟩).memory := by
 rw [MakeChecks.laidMetH_plain _ _ _ (by kernel_rfl)]
 exact laidMet_laidAll _ (by kernel_rfl) (by kernel_rfl)
set_option maxRecDepth 100000 in
theorem reads (os : Os) {H : Type} (enc : TypeId × Value → H) : ∃ places, DataW.whole enc Tryz.prog ((World.laidAll Tryz.prog os Rows.columnRowsComeBackUptoRow.laid).forCall (fun _ _ => 0) ⟨#[], #[.slice none 0 0, .slice none 0 0], []⟩).memory Tryz.f6.params.toList Rows.columnRowsComeBackSpec.vars false (#[.slice none 0 0, .slice none 0 0] : Array Value).toList 8 = some ([.nil, .nil], [], places) :=
 ⟨[], by kernel_rfl⟩
set_option maxRecDepth 100000 in
theorem CP (os : Os) (started : os.Started) (H : Type) (enc : TypeId × Value → H) (F : Stop.Interp) :
  ReturnsInHanded {} Tryz.checked os 6 .any ((Rows.OpenSpec.upto Rows.columnRowsComeBackSpec).preRow enc Tryz.prog Tryz.f6 Rows.columnRowsComeBackUptoRow.domain false Rows.columnRowsComeBackUptoRow.laid) (((Rows.OpenSpec.upto Rows.columnRowsComeBackSpec).at F).post enc Tryz.prog Tryz.f6 false true false false) := by
 obtain ⟨places, hx⟩ := reads os enc
 refine returnsInHanded_of_row (C := Tryz.checked) (s := Rows.OpenSpec.upto Rows.columnRowsComeBackSpec) own started (by kernel_rfl) Tryz.func6
  (witness_row_at (enc := enc) (C := Tryz.checked) false (World.laidAll Tryz.prog os Rows.columnRowsComeBackUptoRow.laid) #[.slice none 0 0, .slice none 0 0] (World.laidAll_os _ _ _) (by kernel_rfl) (by kernel_rfl) (by kernel_rfl)
   (OpenSpec.preRow_of_cond 8 hx (by kernel_rfl) (fun k hk => by cases hk; kernel_rfl) (by kernel_rfl) (Aj os))) ?_
 intro W base args ds gs before hval hW _ hcond _ hL _ _
 exact yY H enc W base args ds gs before hval hW (hcond _ rfl) hL
set_option maxRecDepth 100000 in
theorem Dr : Rows.ColumnRowsComeBackUptoSaid :=
 OpenClaim.holds_of_cond 6 Tryz.f6 rfl rfl rfl rfl rfl rfl rfl ⟨rfl, rfl, rfl, rfl, rfl⟩ rfl rfl rfl rfl rfl (by kernel_rfl) Tryz.func6 (by kernel_rfl)
  (of_decide_eq_true (by kernel_rfl)) (by unfold Func.isWrapper; first | (rw [if_pos (by decide +kernel)]; kernel_rfl) | (rw [if_neg (by decide +kernel)]; exact ⟨rfl, rfl⟩))
  (fun os started H enc _ F => by rw [OpenClaim.pre_eq_preRow]; exact CP os started H enc F)
set_option maxRecDepth 100000 in
theorem kD (f : FuncId) (fn : Func) (hf : Tryz.pinned.checked.prog.funcNamed Rows.columnRowsComeBackUptoRow.func = some f) (hfn : Tryz.pinned.checked.prog.funcs[f]? = some fn) :
  false = Tryz.pinned.checked.prog.looks [] ∧ ∀ (j : Nat) t, fn.params[j]? = some t → Tryz.pinned.checked.prog.wantsStandIn t = false := by
 obtain rfl : f = 6 := Option.some.inj ((show Tryz.prog.funcNamed Rows.columnRowsComeBackUptoRow.func = some 6 by kernel_rfl).symm.trans hf) |>.symm
 obtain rfl : fn = Tryz.f6 := (Option.some.inj (Tryz.func6.symm.trans hfn)).symm
 refine ⟨by kernel_rfl, fun j t ht => ?_⟩
 have hp : Tryz.f6.params = #[24, 48] := by kernel_rfl
 rw [hp] at ht
 have hm := Array.mem_of_getElem? ht
 have all : ([24, 48] : List TypeId).all (fun t => !Tryz.prog.wantsStandIn t) = true := by kernel_rfl
 have := List.all_eq_true.1 all t (by simpa using hm)
 exact (show Tryz.prog.wantsStandIn t = false by simpa using this)
set_option maxRecDepth 100000 in
theorem card : Rows.ColumnRowsComeBackUptoCardSaid :=
 Claim7.holds_tied_plain_at .later [] _ _ _ _ Dr (fun _ h => by cases h) (by kernel_rfl) (fun _ h => by cases h) columnRowsComeBackUpto_row_tie rfl ⟨rfl, rfl⟩ (by kernel_rfl) rfl kD (by kernel_rfl)
end ColumnRowsComeBack
theorem columnRowsComeBack_card : Rows.ColumnRowsComeBackUptoCardSaid := ColumnRowsComeBack.card
end Go.Proofs.YtmaemlebpjnmoaaGreatDoor
