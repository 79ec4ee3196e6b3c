/- 'ValueCastsMatchSpec' returns true for every input of bulk at most 1048576, and leaves its arguments as they were. -/
import Derived.Test.YtpmoopnkoknbeaaGreatDoorRows
import Derived.Test.YtpmoopnkoknbeaaGreatDoorCards
import Derived.Test.YtpmoopnkoknbeaaGreatDoorTie
import Derived.JoinedOf
import Derived.Handed
import Derived.OpenShut
import Derived.Deep.DeepHandedRow
import Derived.Lib.LaidU8T
import Derived.PinnedBridge
import Derived.Lay
import Derived.LaidMore
import Derived.SevenTiedAt
import Derived.Stop.Joined
import Derived.Stop.LaidErr
import Derived.Lib.LaidTab
import Derived.Shelf.Vars
import Derived.Test.YtpmoopnkoknbeaaGreatDoorLaB
set_option linter.unusedVariables false
set_option linter.unusedSimpArgs false
set_option linter.unnecessarySimpa false
namespace Go.Proofs.YtpmoopnkoknbeaaGreatDoor
open Go Go.SX Go.SX.Cal Go.ChangeShapes Go.WideShapes Go.ChangeAt Go.RowKit Go.PX
theorem sS {H : Type} : ∀ l : List (DataW H), Rows.uptoBulkAll l = (l.map Rows.uptoBulk).sum
 | [] => by simp [Rows.uptoBulkAll]
 | d :: l => by simp [Rows.uptoBulkAll, sS l]
def Fj : Bd where
 f := Rows.uptoBulk
 one d := by
  cases d with
  | lit l => cases l <;> simp [Rows.uptoBulk]
  | _ => simp [Rows.uptoBulk]
 str b := by simp [Rows.uptoBulk]
 sl e s := by simp only [Rows.uptoBulk, sS]; omega
 ag ps := by simp only [Rows.uptoBulk, sS]; omega
theorem own : ownKnob Tryz.prog.godebug = none := by kernel_rfl
theorem In : laidOutB Tryz.prog = true := by kernel_rfl
set_option maxRecDepth 100000 in
theorem Il : U8Extra Tryz.prog Jp := ⟨by kernel_rfl, by kernel_rfl, by kernel_rfl, by kernel_rfl, by kernel_rfl, by kernel_rfl, by kernel_rfl⟩
def LJ : String := match (Rows.laid_strconv_ErrRange : DataW Unit) with
  | .iface s _ => s
  | _ => default
theorem Jlq : ((List.range Tryz.prog.types.size).all fun u => Tryz.prog.typeName? 3 u != some LJ || u == 209) = true := by kernel_rfl
theorem Jl (u : TypeId) (h : Tryz.prog.typeName? 3 u = some LJ) : u = 209 := by
  refine typeName_ptr_named (nm := "errors.errorString") (tp := 209) ?_ (by kernel_rfl) (by decide) u (h.trans (congrArg some (by decide +kernel)))
  generalize hq : _ ++ "errors.errorString" = q
  have e : LJ = q := by rw [← hq]; decide +kernel
  subst e
  exact Jlq
def Jk : Option TypeDesc → Field
 | some (.struct fs) => (fs[0]?).getD default
 | _ => default
def LO : Option TypeDesc → Array (String × TypeId)
 | some (.interface ms) => ms
 | _ => #[]
theorem A4 {P : Program} {W : World} {n : String} {g : Nat} {cs : Array Value} {v : Value} (h : W.var? P n = some cs) (hg : P.globalNamed n = some g) (hv : cs[0]? = some v) : W.cell? ⟨g, 0, none⟩ = some v := by
 unfold World.var? at h
 rw [hg] at h
 simp only [Option.bind_some] at h
 split at h
 ·rename_i cs' ty fz e
  obtain rfl := Option.some.inj h
  rw [Lib.cell_of_heap e]; exact hv
 ·cases h
theorem Gk {P : Program} {W : World} {n : String} {g : Nat} {cs : Array Value} (h : W.var? P n = some cs) (hg : P.globalNamed n = some g) : ∃ ty fz, W.heap[g]? = some (.cells cs ty fz) := by
 unfold World.var? at h
 rw [hg] at h
 simp only [Option.bind_some] at h
 split at h
 ·rename_i cs' ty fz e
  obtain rfl := Option.some.inj h
  exact ⟨ty, fz, e⟩
 ·cases h
set_option maxRecDepth 100000 in
theorem E4 {W : World} (hL : laidMetH Tryz.prog Rows.valueCastsMatchSpecRow.laid W) (hsh : W.ShapedOpen Tryz.prog) : ∀ (b : Nat) (l : List Value), xT b = some l → b < W.heap.size ∧ Ia W b l := by
 rw [MakeChecks.laidMetH_plain _ _ _ (by kernel_rfl)] at hL
 have h4 := Go.Lib.laidMet.reads hL (d := Rows.laid_unicode_utf8_acceptRanges) (.tail _ (.tail _ (.tail _ (.head _))))
 have h3 := Go.Lib.laidMet.reads hL (d := Rows.laid_unicode_utf8_first) (.tail _ (.tail _ (.tail _ (.tail _ (.tail _ (.tail _ (.head _)))))))
 rw [show Rows.laid_unicode_utf8_first = Lib.firstData from Pinned.utf8First_eq] at h3
 rw [show (Rows.laid_unicode_utf8_acceptRanges : DataW Unit) = Lib.acceptData by kernel_rfl] at h4
 obtain ⟨a, b⟩ := Iy (utf8Tabs_of_readsT (U8Types.of196 H3) Il h3 h4)
 have hp := Go.Lib.laidMet.reads hL (d := Rows.laid_internal_strconv_uint64pow10) (.tail _ (.tail _ (.head _)))
 rw [show (Rows.laid_internal_strconv_uint64pow10 : DataW Unit) = Lib.tabData .u64 Lib.pow10Tab by kernel_rfl] at hp
 obtain ⟨hp1, hp2⟩ : ∃ ty fz, W.heap[5]? = some (.cells wE.toArray ty fz) := by
  obtain ⟨g, t, cs, fuel, p, e1, e2, e3, e4⟩ := hp
  obtain rfl : g = 5 := Option.some.inj (e1.symm.trans (by kernel_rfl))
  obtain rfl := Option.some.inj (e2.symm.trans (show (Tryz.prog.globals[5]?).map (·.type) = some 201 by kernel_rfl))
  have h6 := Lib.cells_of_tab (P := Tryz.prog) (t := 201) (e := 86) (n := 20) (by kernel_rfl) (by kernel_rfl) (by kernel_rfl) (by kernel_rfl) e4
  have h7 : cs = wE.toArray := by rw [← Array.toArray_toList (xs := cs), h6]; rfl
  subst h7
  exact Gk e3 e1
 obtain ⟨_, _, hr, _⟩ := laid_sentinel (P := Tryz.prog) (g := 1) (ti := 95) (tp := 209) (te := 211) (ts := 9) (ms := LO (Tryz.prog.underlying 95)) (f := Jk (Tryz.prog.underlying 211)) (hL.tail.tail.tail.tail) (by kernel_rfl) (by kernel_rfl) (by kernel_rfl) Jl (by kernel_rfl) (by kernel_rfl) (by kernel_rfl) (by kernel_rfl) (by kernel_rfl) (by kernel_rfl) (by kernel_rfl)
 obtain ⟨_, _, hs, _⟩ := laid_sentinel (P := Tryz.prog) (g := 0) (ti := 95) (tp := 209) (te := 211) (ts := 9) (ms := LO (Tryz.prog.underlying 95)) (f := Jk (Tryz.prog.underlying 211)) (hL.tail.tail.tail.tail.tail) (by kernel_rfl) (by kernel_rfl) (by kernel_rfl) Jl (by kernel_rfl) (by kernel_rfl) (by kernel_rfl) (by kernel_rfl) (by kernel_rfl) (by kernel_rfl) (by kernel_rfl)
 have hr := A4 hr (show Tryz.prog.globalNamed "strconv.ErrRange" = some 1 by kernel_rfl) rfl
 have hs := A4 hs (show Tryz.prog.globalNamed "strconv.ErrSyntax" = some 0 by kernel_rfl) rfl
 obtain ⟨m, hm⟩ := cell_of_shapedOpen_int (g := 2) (t := 3) (k := .i64) hsh (by decide +kernel) (show _ = some (#[.int .i64 0], 3) by kernel_rfl) rfl (by kernel_rfl) (by kernel_rfl) (by kernel_rfl)
 have lt : ∀ (g : Nat) (v : Value), W.cell? ⟨g, 0, Option.none⟩ = some v → g < W.heap.size := by
  intro g v h
  by_cases hg : g < W.heap.size
  ·exact hg
  ·simp [World.cell?, Array.getElem?_eq_none (Nat.le_of_not_lt hg)] at h
 intro g l hg
 match g with
 | 0 =>
  obtain rfl : l = [] := (Option.some.inj hg).symm
  exact ⟨lt _ _ hs, fun i v h => by simp at h, fun _ => ⟨_, hs, _, _, rfl⟩, fun h => absurd h (by decide)⟩
 | 1 =>
  obtain rfl : l = [] := (Option.some.inj hg).symm
  exact ⟨lt _ _ hr, fun i v h => by simp at h, fun _ => ⟨_, hr, _, _, rfl⟩, fun h => absurd h (by decide)⟩
 | 2 =>
  obtain rfl : l = [] := (Option.some.inj hg).symm
  exact ⟨lt _ _ hm, fun i v h => by simp at h, fun _ => ⟨_, hm, _, rfl⟩, fun h => absurd h (by decide)⟩
 | 3 =>
  obtain rfl : l = qD := (Option.some.inj hg).symm
  exact ⟨lt _ _ (a 0 _ rfl), a, fun h => absurd rfl h, fun h => absurd h (by decide)⟩
 | 4 =>
  obtain rfl : l = zn := (Option.some.inj hg).symm
  exact ⟨lt _ _ (b 0 _ rfl), b, fun h => absurd rfl h, fun h => absurd h (by decide)⟩
 | 5 =>
  obtain rfl : l = wE := (Option.some.inj hg).symm
  obtain ⟨fz, hh⟩ := hp2
  refine ⟨(Array.getElem?_eq_some_iff.1 hh).1, fun i v h => ?_, fun _ => ?_, fun _ => ⟨_, _, hh⟩⟩
  ·rw [Lib.cell_of_heap hh]; simpa using h
  ·exact ⟨_, by rw [Lib.cell_of_heap hh]; rfl, trivial⟩
 | g + 6 =>
  have : xT (g + 6) = Option.none := by
   unfold xT
   rw [if_neg (by omega), if_neg (by omega), if_neg (by omega), if_neg (by omega)]
  rw [this] at hg; cases hg
namespace ValueCastsMatchSpec
set_option maxRecDepth 100000 in
theorem Hu (H : Type) (enc : TypeId × Value → H) (W : World) (base : Nat) (args : Array Value) (ds gs : List (DataW H)) (before : List MemPlace)
  (hval : ∀ (j : Nat) t v, Tryz.f5.params[j]? = some t → args[j]? = some v → Value.okWide Tryz.prog W .any base t v)
  (hW : DataW.Whole enc Tryz.prog Tryz.f5.params.toList Rows.valueCastsMatchSpecSpec.vars false W args.toList ds gs before) (hk : Rows.uptoSmall H (ds ++ gs) = true) (hL : laidMetH Tryz.prog Rows.valueCastsMatchSpecRow.laid W) (hsh : W.ShapedOpen Tryz.prog) :
  Calls Tryz.prog 5 args W fun e W' => ∃ v, e = .returned v ∧ Rows.valueCastsMatchSpecSpec.post enc Tryz.prog Tryz.f5 false true false false W args v W' := by
 have hW' := hW
 obtain ⟨p, q, hA0, hV, rfl, hfz, hnd⟩ := hW
 have hp : Tryz.f5.params = #[24, 24, 27] := by kernel_rfl
 have hA : DataW.TrodAll enc Tryz.prog W 0 (fun _ => true) true [24, 24, 27] args.toList ds p := by rw [hp] at hA0; exact hA0
 have hval' : ∀ (j : Nat) t v, (#[24, 24, 27] : Array TypeId)[j]? = some t → args[j]? = some v → Value.okWide Tryz.prog W .any base t v := by rw [hp] at hval; exact hval
 obtain ⟨v0, vs0, d0, ds0, p0, q0, hargs, rfl, rfl, h0, r0⟩ := trodAll_cons hA
 obtain ⟨v1, vs1, d1, ds1, p1, q1, rfl, rfl, rfl, h1, r1⟩ := trodAll_cons r0
 obtain ⟨v2, vs2, d2, ds2, p2, q2, rfl, rfl, rfl, h2, r2⟩ := trodAll_cons r1
 obtain ⟨rfl, rfl, rfl⟩ := trodAll_nil r2
 obtain rfl : args = #[v0, v1, v2] := by cases args; simp_all
 obtain ⟨x0, o0, w0, z0⟩ := w9 (B := Fj) (fun N => F2 (P := Tryz.prog) (wfT := fun _ => True) (szT := dF) (wfF := fun _ => True) (szF := lw) 24 64 3 9 4 22 (by kernel_rfl) (by kernel_rfl) (by kernel_rfl) (by kernel_rfl) (by kernel_rfl) (by kernel_rfl) (by kernel_rfl) (by kernel_rfl) ⟨by kernel_rfl, by kernel_rfl, by kernel_rfl, by kernel_rfl, by kernel_rfl⟩ (by kernel_rfl) ⟨by kernel_rfl, by kernel_rfl, by kernel_rfl, by kernel_rfl⟩ ⟨by kernel_rfl, by kernel_rfl, by kernel_rfl, by kernel_rfl⟩ ⟨by kernel_rfl, by kernel_rfl, by kernel_rfl⟩ ⟨by kernel_rfl, by kernel_rfl, by kernel_rfl⟩ (fun _ _ _ _ _ _ => trivial) FR (fun _ _ _ _ _ _ => trivial) G8 N) (hval' 0 24 v0 rfl rfl) h0
 obtain ⟨x1, o1, w1, z1⟩ := w9 (B := Fj) (fun N => F2 (P := Tryz.prog) (wfT := fun _ => True) (szT := dF) (wfF := fun _ => True) (szF := lw) 24 64 3 9 4 22 (by kernel_rfl) (by kernel_rfl) (by kernel_rfl) (by kernel_rfl) (by kernel_rfl) (by kernel_rfl) (by kernel_rfl) (by kernel_rfl) ⟨by kernel_rfl, by kernel_rfl, by kernel_rfl, by kernel_rfl, by kernel_rfl⟩ (by kernel_rfl) ⟨by kernel_rfl, by kernel_rfl, by kernel_rfl, by kernel_rfl⟩ ⟨by kernel_rfl, by kernel_rfl, by kernel_rfl, by kernel_rfl⟩ ⟨by kernel_rfl, by kernel_rfl, by kernel_rfl⟩ ⟨by kernel_rfl, by kernel_rfl, by kernel_rfl⟩ (fun _ _ _ _ _ _ => trivial) FR (fun _ _ _ _ _ _ => trivial) G8 N) (hval' 1 24 v1 rfl rfl) h1
 obtain ⟨x2, o2, w2, z2⟩ := w9 (B := Fj) (fun N => IQ (P := Tryz.prog) (wf := fun _ => True) (sz := bh) 27 3 9 25 (by kernel_rfl) (by kernel_rfl) (by kernel_rfl) (by kernel_rfl) (by kernel_rfl) ⟨by kernel_rfl, by kernel_rfl, by kernel_rfl, by kernel_rfl⟩ ⟨by kernel_rfl, by kernel_rfl, by kernel_rfl, by kernel_rfl, by kernel_rfl⟩ ⟨by kernel_rfl, by kernel_rfl, by kernel_rfl, by kernel_rfl, by kernel_rfl⟩ (fun _ _ _ _ _ _ _ _ _ => trivial) LL N) (hval' 2 27 v2 rfl rfl) h2
 obtain ⟨rfl, rfl⟩ := trodVars_none hV
 have hsum : Fj.f d0 + Fj.f d1 + Fj.f d2 ≤ 1048576 := by
  have h := of_decide_eq_true hk
  simp only [List.append_nil, List.cons_append, List.nil_append, Rows.uptoBulkAll] at h
  show Rows.uptoBulk d0 + Rows.uptoBulk d1 + Rows.uptoBulk d2 ≤ 1048576
  omega
 have hc := oa x0 x1 x2 true (E9 x0 x1 x2 (by omega) (by omega) (by omega))
 refine (hc.call (vs := [v0, v1, v2]) rfl ?_ (E4 hL hsh)).mono ?_
 ·intro j v a e1 e2
  match j, e1, e2 with
  | 0, e1, e2 => simp only [List.getElem?_cons_zero, List.getElem?_cons_succ, Option.some.injEq] at e1 e2; subst e1; subst e2; exact BM (sN (sO (by kernel_rfl) (hval' 0 24 v0 rfl rfl)) o0)
  | 1, e1, e2 => simp only [List.getElem?_cons_zero, List.getElem?_cons_succ, Option.some.injEq] at e1 e2; subst e1; subst e2; exact BM (sN (sO (by kernel_rfl) (hval' 1 24 v1 rfl rfl)) o1)
  | 2, e1, e2 => simp only [List.getElem?_cons_zero, List.getElem?_cons_succ, Option.some.injEq] at e1 e2; subst e1; subst e2; exact FC (sN (sO (by kernel_rfl) (hval' 2 27 v2 rfl rfl)) o2)
  | j + 3, e1, e2 => simp at e1
 ·rintro e W' ⟨v, ι', rfl, hv, hk'⟩
  obtain rfl := Is hv
  exact ⟨_, rfl, Ft hW' In (by kernel_rfl) hk' rfl 4 (by kernel_rfl) (by kernel_rfl) rfl⟩
set_option maxRecDepth 100000 in
theorem Hd (os : Os) : laidMetH Tryz.prog Rows.valueCastsMatchSpecUptoRow.laid ((World.laidAll Tryz.prog os Rows.valueCastsMatchSpecUptoRow.laid).forCall (fun _ _ => 0) ⟨#[], #[.agg #[.int .i64 0, .int .i64 0, .slice none 0 0], .agg #[.int .i64 0, .int .i64 0, .slice none 0 0], .agg #[.int .i64 0, .int .i64 0, .int .i64 0, .string ByteArray.empty, .slice none 0 0]], []⟩).memory := by
 rw [MakeChecks.laidMetH_plain _ _ _ (by kernel_rfl)]
 exact laidMet_laidAll _ (by kernel_rfl) (by kernel_rfl)
set_option maxRecDepth 100000 in
theorem reads (os : Os) {H : Type} (enc : TypeId × Value → H) : ∃ places, DataW.whole enc Tryz.prog ((World.laidAll Tryz.prog os Rows.valueCastsMatchSpecUptoRow.laid).forCall (fun _ _ => 0) ⟨#[], #[.agg #[.int .i64 0, .int .i64 0, .slice none 0 0], .agg #[.int .i64 0, .int .i64 0, .slice none 0 0], .agg #[.int .i64 0, .int .i64 0, .int .i64 0, .string ByteArray.empty, .slice none 0 0]], []⟩).memory Tryz.f5.params.toList Rows.valueCastsMatchSpecSpec.vars false (#[.agg #[.int .i64 0, .int .i64 0, .slice none 0 0], .agg #[.int .i64 0, .int .i64 0, .slice none 0 0], .agg #[.int .i64 0, .int .i64 0, .int .i64 0, .string ByteArray.empty, .slice none 0 0]] : Array Value).toList 8 = some ([.agg [.lit (.int .i64 0), .lit (.int .i64 0), .nil], .agg [.lit (.int .i64 0), .lit (.int .i64 0), .nil], .agg [.lit (.int .i64 0), .lit (.int .i64 0), .lit (.int .i64 0), .lit (.string []), .nil]], [], places) :=
 ⟨[], by kernel_rfl⟩
set_option maxRecDepth 100000 in
theorem JU (os : Os) (started : os.Started) (H : Type) (enc : TypeId × Value → H) (F : Stop.Interp) :
  ReturnsInHanded {} Tryz.checked os 5 .any ((Rows.OpenSpec.upto Rows.valueCastsMatchSpecSpec).preRow enc Tryz.prog Tryz.f5 Rows.valueCastsMatchSpecUptoRow.domain false Rows.valueCastsMatchSpecUptoRow.laid) (((Rows.OpenSpec.upto Rows.valueCastsMatchSpecSpec).at F).post enc Tryz.prog Tryz.f5 false true false false) := by
 obtain ⟨places, hx⟩ := reads os enc
 refine returnsInHanded_of_row (C := Tryz.checked) (s := Rows.OpenSpec.upto Rows.valueCastsMatchSpecSpec) own started (by kernel_rfl) Tryz.func5
  (witness_row_at (enc := enc) (C := Tryz.checked) false (World.laidAll Tryz.prog os Rows.valueCastsMatchSpecUptoRow.laid) #[.agg #[.int .i64 0, .int .i64 0, .slice none 0 0], .agg #[.int .i64 0, .int .i64 0, .slice none 0 0], .agg #[.int .i64 0, .int .i64 0, .int .i64 0, .string ByteArray.empty, .slice none 0 0]] (World.laidAll_os _ _ _) (by kernel_rfl) (by kernel_rfl) (by kernel_rfl)
   (OpenSpec.preRow_of_cond 8 hx (by kernel_rfl) (fun k hk => by cases hk; kernel_rfl) (by kernel_rfl) (Hd os))) ?_
 intro W base args ds gs before hval hW _ hcond _ hL hsh _
 exact Hu H enc W base args ds gs before hval hW (hcond _ rfl) hL hsh
set_option maxRecDepth 100000 in
theorem Lk : Rows.ValueCastsMatchSpecUptoSaid :=
 OpenClaim.holds_of_cond 5 Tryz.f5 rfl rfl rfl rfl rfl rfl rfl ⟨rfl, rfl, rfl, rfl, rfl⟩ rfl rfl rfl rfl rfl (by kernel_rfl) Tryz.func5 (by kernel_rfl)
  (of_decide_eq_true (by kernel_rfl)) (by unfold Func.isWrapper; first | (rw [if_pos (by decide +kernel)]; kernel_rfl) | (rw [if_neg (by decide +kernel)]; exact ⟨rfl, rfl⟩))
  (fun os started H enc _ F => by rw [OpenClaim.pre_eq_preRow]; exact JU os started H enc F)
set_option maxRecDepth 100000 in
theorem plain (f : FuncId) (fn : Func) (hf : Tryz.pinned.checked.prog.funcNamed Rows.valueCastsMatchSpecUptoRow.func = some f) (hfn : Tryz.pinned.checked.prog.funcs[f]? = some fn) :
  true = Tryz.pinned.checked.prog.looks [] ∧ ∀ (j : Nat) t, fn.params[j]? = some t → Tryz.pinned.checked.prog.wantsStandIn t = false := by
 obtain rfl : f = 5 := Option.some.inj ((show Tryz.prog.funcNamed Rows.valueCastsMatchSpecUptoRow.func = some 5 by kernel_rfl).symm.trans hf) |>.symm
 obtain rfl : fn = Tryz.f5 := (Option.some.inj (Tryz.func5.symm.trans hfn)).symm
 refine ⟨by kernel_rfl, fun j t ht => ?_⟩
 have hp : Tryz.f5.params = #[24, 24, 27] := by kernel_rfl
 rw [hp] at ht
 have hm := Array.mem_of_getElem? ht
 have all : ([24, 24, 27] : List TypeId).all (fun t => !Tryz.prog.wantsStandIn t) = true := by kernel_rfl
 have := List.all_eq_true.1 all t (by simpa using hm)
 exact (show Tryz.prog.wantsStandIn t = false by simpa using this)
set_option maxRecDepth 100000 in
theorem card : Rows.ValueCastsMatchSpecUptoCardSaid :=
 Claim7.holds_tied_plain_at .later [] _ _ _ _ Lk (fun _ h => by cases h) (by kernel_rfl) (fun _ h => by cases h) valueCastsMatchSpecUpto_row_tie rfl ⟨rfl, rfl⟩ (by kernel_rfl) rfl plain (by kernel_rfl)
end ValueCastsMatchSpec
theorem valueCastsMatchSpec_card : Rows.ValueCastsMatchSpecUptoCardSaid := ValueCastsMatchSpec.card
end Go.Proofs.YtpmoopnkoknbeaaGreatDoor
