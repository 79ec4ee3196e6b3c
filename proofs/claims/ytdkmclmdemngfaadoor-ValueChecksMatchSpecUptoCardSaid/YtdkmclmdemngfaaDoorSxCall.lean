/- SX, fifteenth part: calls by contracts; a function's contract from its body. -/
import Derived.Test.YtdkmclmdemngfaaDoorSxFn
namespace Go.SX
open Go
set_option linter.unusedVariables false
set_option linter.unusedSimpArgs false
set_option linter.unnecessarySimpa false

section
variable {P : Program} {n n0 : Nat} {loose an : List Nat} {Q : QT} {fr : Fr} {st : St} {c : Code} {ops : Array Oper}

def chkFn (P : Program) (g : Nat) (as : List AV) : Option (Nat × List AV) :=
  match P.funcs[g]? with
  | some fn => bif fn.body.isSome && !(fn.name == "runtime.NumGoroutine") then some (g, as) else none
  | none => none

def callAt (P : Program) (o : Oper) (fr : Fr) : Option (Nat × List AV) :=
  match o.op with
  | .call ⟨.value f, args, _⟩ =>
    match rv fr f with
    | .one (.pv (.fn g caps)) => chkFn P g (args.toList.map (rv fr) ++ caps.map fun p => .one (.pv p))
    | .one (.fn g caps) => chkFn P g (args.toList.map (rv fr) ++ caps.map .one)
    | _ => none
  | _ => none

theorem run_callFunc {g : Nat} {as as' : List AV} {vs : List Value} (h : chkFn P g as = some (g, as')) (w : World) : (callFunc g vs.toArray).run P w = .ok (.enter g vs.toArray) w ∧ as' = as := by
  unfold chkFn at h
  cases hf : P.funcs[g]? with
  | none => simp [hf] at h
  | some fn =>
    simp only [hf] at h
    cases hb : (fn.body.isSome && !(fn.name == "runtime.NumGoroutine")) with
    | false => simp [hb] at h
    | true =>
      simp only [hb, cond_true, Option.some.injEq, Prod.mk.injEq, true_and] at h
      simp only [Bool.and_eq_true, Bool.not_eq_true'] at hb
      have hbody : fn.body.isNone = false := by
        cases hq : fn.body with
        | none => rw [hq] at hb; simp at hb
        | some c => rfl
      have hn : ¬ fn.name = "runtime.NumGoroutine" := by simpa using hb.2
      have hbn : ¬ fn.body = none := by rintro e; rw [e] at hbody; cases hbody
      refine ⟨?_, h.symm⟩
      simp [callFunc, hf, hn, hbn]

theorem call_sound {o : Oper} {g : Nat} {as : List AV} (h : callAt P o fr = some (g, as)) {ι : IM} {w : World} {a : Act} (hF : FRel n ι w st a fr) :
    ∃ vs, (execOp a.eval o).run P w = .ok (.enter g vs.toArray) w ∧ ARel ι w st vs as := by
  unfold callAt at h
  cases hop : o.op <;> simp only [hop] at h <;> try (cases h; done)
  rename_i cl
  obtain ⟨callee, args, tys⟩ := cl
  cases callee <;> simp only at h <;> try (cases h; done)
  rename_i f
  have hf := rv_rel hF f
  have base : ∀ (l : List Operand), ARel ι w st (l.map a.eval) (l.map (rv fr)) := by
    intro l
    refine ⟨by simp, fun j v av h1 h2 => ?_⟩
    rw [List.getElem?_map, Option.map_eq_some_iff] at h1 h2
    obtain ⟨x, hx, rfl⟩ := h1
    obtain ⟨y, hy, rfl⟩ := h2
    rw [hx] at hy; cases hy
    exact rv_rel hF x
  have app : ∀ {l l' : List Value} {m m' : List AV}, ARel ι w st l m → ARel ι w st l' m' → ARel ι w st (l ++ l') (m ++ m') := by
    intro l l' m m' h1 h2
    refine ⟨by simp [h1.1, h2.1], fun j v av x1 x2 => ?_⟩
    by_cases hj : j < l.length
    · rw [List.getElem?_append_left hj] at x1
      rw [List.getElem?_append_left (by rw [← h1.1]; exact hj)] at x2
      exact h1.2 j v av x1 x2
    · rw [List.getElem?_append_right (by omega)] at x1
      rw [List.getElem?_append_right (by rw [← h1.1]; omega), ← h1.1] at x2
      exact h2.2 _ v av x1 x2
  split at h
  · rename_i g' caps hq
    rw [hq] at hf
    have hp := pure_of (cv_of hf)
    generalize hu : a.eval f = u at *
    cases hp with
    | fn _ _ us hl hv =>
      have hg : g' = g := by
        unfold chkFn at h
        split at h
        · rename_i fn _
          cases hb : (fn.body.isSome && !(fn.name == "runtime.NumGoroutine")) with
          | false => simp [hb] at h
          | true => simp [hb] at h; exact h.1
        · simp at h
      subst hg
      obtain ⟨e1, e2⟩ := run_callFunc (vs := args.toList.map a.eval ++ us) h w
      refine ⟨args.toList.map a.eval ++ us, ?_, ?_⟩
      · have e3 : args.map a.eval ++ us.toArray = (args.toList.map a.eval ++ us).toArray := by apply Array.ext'; simp
        simp [execOp, hop, resolve, hu, Deferred.ofValue, invoke, e3, e1]
      · rw [e2]
        refine app (base _) ⟨by simp [hl], fun j v av x1 x2 => ?_⟩
        rw [List.getElem?_map, Option.map_eq_some_iff] at x2
        obtain ⟨p, hp, rfl⟩ := x2
        exact .one _ _ (.pv _ _ (hv j p v hp x1))
  · rename_i g' caps hq
    rw [hq] at hf
    have hp := cv_of hf
    generalize hu : a.eval f = u at *
    cases hp with
    | fn _ _ us hl hv =>
      have hg : g' = g := by
        unfold chkFn at h
        split at h
        · rename_i fn _
          cases hb : (fn.body.isSome && !(fn.name == "runtime.NumGoroutine")) with
          | false => simp [hb] at h
          | true => simp [hb] at h; exact h.1
        · simp at h
      subst hg
      obtain ⟨e1, e2⟩ := run_callFunc (vs := args.toList.map a.eval ++ us) h w
      refine ⟨args.toList.map a.eval ++ us, ?_, ?_⟩
      · have e3 : args.map a.eval ++ us.toArray = (args.toList.map a.eval ++ us).toArray := by apply Array.ext'; simp
        simp [execOp, hop, resolve, hu, Deferred.ofValue, invoke, e3, e1]
      · rw [e2]
        refine app (base _) ⟨by simp [hl], fun j v av x1 x2 => ?_⟩
        rw [List.getElem?_map, Option.map_eq_some_iff] at x2
        obtain ⟨p, hp, rfl⟩ := x2
        exact .one _ _ (hv j p v hp x1)
  · simp at h

/-! ### contracts of functions of pure values -/

abbrev pureA (a : AV) : Bool := idsA (fun _ => false) a

def pureAs : List AV → Bool
  | [] => true
  | a :: l => pureA a && pureAs l

theorem pureAs_get : ∀ {l : List AV}, pureAs l = true → ∀ (j : Nat) a, l[j]? = some a → pureA a = true
  | [], _, j, a, h => by simp at h
  | x :: l, h, j, a, hj => by
    simp only [pureAs, Bool.and_eq_true] at h
    cases j with
    | zero => simp at hj; subst hj; exact h.1
    | succ j => exact pureAs_get h.2 j a (by simpa using hj)

theorem VRel.conv {ι ι' : IM} {w : World} {st st' : St} (hm : ∀ b, ¬ Mut ι st b → ¬ Mut ι' st' b) {v : Value} {c : CV} (h : VRel ι w st v c) : idsC (fun _ => false) c = true → VRel ι' w st' v c := by
  induction h with
  | pv v p h => exact fun _ => .pv v p (h.mono (Nat.le_refl _) (fun b _ hb => ⟨rfl, hm b hb⟩))
  | pt => intro h; cases h
  | sl => intro h; cases h
  | sn => intro h; cases h
  | mp => intro h; cases h
  | fn f caps vs hl hv ih =>
    intro hi
    simp only [idsC] at hi
    exact .fn f caps vs hl (fun j c v h1 h2 => ih j c v h1 h2 (idsC_go hi j c h1))

theorem AVRel.conv {ι ι' : IM} {w : World} {st st' : St} (hm : ∀ b, ¬ Mut ι st b → ¬ Mut ι' st' b) {v : Value} {a : AV} (h : AVRel ι w st v a) : pureA a = true → AVRel ι' w st' v a := by
  induction h with
  | j v => exact fun _ => .j v
  | one v c h => exact fun hi => .one v c (h.conv hm hi)
  | ag vs cs h => exact fun hi => .ag vs cs ⟨h.1, fun j v c h1 h2 => (h.2 j v c h1 h2).conv hm (idsL_get hi j c h2)⟩
  | tp vs as hl h ih =>
    intro hi
    simp only [pureA, idsA] at hi
    exact .tp vs as hl (fun j v a h1 h2 => ih j v a h1 h2 (idsA_go hi j a h2))

theorem PC.use {g : Nat} {as : List AV} {r : AV} (h : PC P g as r) (hp : pureAs as = true) (hr : pureA r = true) {ι : IM} {w : World} {vs : List Value} (hR : Rel ι w st) (hA : ARel ι w st vs as) :
    Calls P g vs.toArray w fun e w' => ∃ v, e = .returned v ∧ Rel ι w' st ∧ AVRel ι w' st v r ∧ Keeps all ι w st ι w' st := by
  let ι0 : IM := ⟨fun _ => none, Mut ι st⟩
  have hno : ∀ (ι1 : IM) b, ¬ Own ι1 [] b := by
    rintro ι1 b ⟨id, o, h1, _⟩
    simp at h1
  have hR0 : Rel ι0 w [] := ⟨fun id o h => by simp at h, fun b hb => hR.mut_lt hb, fun b hb => absurd hb (hno _ b), fun id id' o o' b h => by simp at h, fun b o h => ⟨fun hm => (hR.gl b o h).1 (hm.elim id (fun ho => absurd ho (hno _ b))), (hR.gl b o h).2⟩⟩
  have hA0 : ARel ι0 w [] vs as := ⟨hA.1, fun j v a h1 h2 => (hA.2 j v a h1 h2).conv (fun b hb hm => hb (hm.elim id (fun ho => absurd ho (hno _ b)))) (pureAs_get hp j a h2)⟩
  refine (h ι0 w vs hR0 hA0).mono ?_
  rintro e w' ⟨v, av, st', ι', he, ⟨rfl, rfl⟩, hR', hv, k⟩
  have hx : Ext w w' := ⟨k.os, k.tape, k.output, k.size, fun b hb => (k.blk b hb (hno _ b)).1⟩
  refine ⟨v, he, hR.ext hx, ?_, hx.keeps ι st⟩
  exact hv.conv (fun b hb hm => hb (.inl (by rw [k.amb]; exact hm))) hr

theorem XO.call {o : Oper} {rest : List Oper} {g : Nat} {as : List AV} {r : AV} {fr' : Fr} (hg : guardOk ops o fr = some true) (hc : callAt P o fr = some (g, as)) (h : PC P g as r) (hp : pureAs as = true) (hr : pureA r = true)
    (hput : putF n o.dst r fr = some fr') (hk : XO P n n0 loose ops rest Q fr' st) : XO P n n0 loose ops (o :: rest) Q fr st := by
  intro ι w a hR hF
  obtain ⟨vs, hrun, hA⟩ := call_sound hc hF
  have hw := guard_sound hg hF
  refine wpList_step fun K hK => ?_
  rw [if_pos hw]
  simp only [Oper.wp, hrun, Oper.upon]
  refine (h.use hp hr hR hA).mono ?_
  rintro e w' ⟨v, rfl, hR', hv, k⟩
  refine hK _ _ (wpList_post (fun e a w h => h.trans (k.weaken (fun _ _ => trivial))) (hk ι w' _ hR' (putF_rel hput (hF.mono' k) hv)))

theorem Yd.call {o : Oper} {g : Nat} {as : List AV} {r : AV} (hc : callAt P o fr = some (g, as)) (h : PC P g as r) (hp : pureAs as = true) (hr : pureA r = true) : Yd P n st o fr r := by
  intro ι w a hR hF K Q hK
  obtain ⟨vs, hrun, hA⟩ := call_sound hc hF
  simp only [Oper.wp, hrun, Oper.upon]
  refine (h.use hp hr hR hA).mono ?_
  rintro e w' ⟨v, rfl, hR', hv, k⟩
  exact hK v w' ι hv hR' k

/-! ### results -/

def resOne (P : Program) (fr : Fr) (st : St) (hs : HS) : ResultVar → Option (AV × List Prop × HS)
  | .tmp t => some (lk fr t, [], hs)
  | .cell a t => match lk fr a with
    | .one c => match ldAt P t c st hs with
      | some out => some (out.av, out.ob, out.hs)
      | none => none
    | _ => none

def resAll (P : Program) (fr : Fr) (st : St) : List ResultVar → HS → Option (List AV × List Prop)
  | [], _ => some ([], [])
  | r :: l, hs => match resOne P fr st hs r with
    | some (a, ob, hs') => match resAll P fr st l hs' with
      | some (as, ob') => some (a :: as, ob ++ ob')
      | none => none
    | none => none

def resAV : List AV → AV
  | [a] => a
  | as => .tp as

theorem loadAt_ptr {t : TypeId} {v u : Value} {w : World} (h : (Instr.loadAt t v).run P w = .ok u w) : ∃ A, v = .pointer (some A) ∧ (loadVar t A).run P w = .ok u w := by
  cases v <;> try (simp [Instr.loadAt, Instr.sureAddr] at h; done)
  rename_i ao
  cases ao with
  | none => simp [Instr.loadAt, Instr.sureAddr] at h
  | some A => exact ⟨A, rfl, by simpa [Instr.loadAt, Instr.sureAddr] using h⟩

theorem res_sound {ι : IM} {w : World} {a : Act} (hR : Rel ι w st) (hF : FRel n ι w st a fr) : ∀ {l : List ResultVar} {hs : HS} {as : List AV} {ob : List Prop}, resAll P fr st l hs = some (as, ob) → AllP ob →
    ∃ vs, (l.mapM (fun | .tmp t => pure (a.tmps.getD t undef) | .cell x t => do loadVar t (← asAddr (a.tmps.getD x undef)) : ResultVar → Sem Value)).run P w = .ok vs w ∧ ARel ι w st vs as
  | [], hs, as, ob, h, hob => by
    simp [resAll] at h
    obtain ⟨rfl, _⟩ := h
    exact ⟨[], by simp, rfl, fun j v a h => by simp at h⟩
  | r :: l, hs, as, ob, h, hob => by
    simp only [resAll] at h
    split at h
    · rename_i a1 ob1 hs1 h1
      split at h
      · rename_i as2 ob2 h2
        simp only [Option.some.injEq, Prod.mk.injEq] at h
        obtain ⟨rfl, rfl⟩ := h
        obtain ⟨o1, o2⟩ := AllP.append hob
        obtain ⟨vs, e1, e2⟩ := res_sound hR hF h2 o2
        have head : ∃ v, ((match r with | .tmp t => pure (a.tmps.getD t undef) | .cell x t => do loadVar t (← asAddr (a.tmps.getD x undef)) : Sem Value)).run P w = .ok v w ∧ AVRel ι w st v a1 := by
          cases r with
          | tmp t =>
            simp only [resOne, Option.some.injEq, Prod.mk.injEq] at h1
            obtain ⟨rfl, _, _⟩ := h1
            exact ⟨_, rfl, hF.slot t⟩
          | cell x t =>
            simp only [resOne] at h1
            have hx := hF.slot x
            split at h1
            · rename_i cv hq
              rw [hq] at hx
              split at h1
              · rename_i out hld
                simp only [Option.some.injEq, Prod.mk.injEq] at h1
                obtain ⟨rfl, rfl, _⟩ := h1
                obtain ⟨u, u1, u2, _⟩ := ldAt_sound (P := P) (w := w) hld o1 hR (cv_of hx)
                obtain ⟨A, hA, hl⟩ := loadAt_ptr u1
                refine ⟨u, ?_, u2⟩
                simp only [hA, asAddr, Sem.run_bind, Sem.run_pure, Result.andThen_ok]
                exact hl
              · simp at h1
            · simp at h1
        obtain ⟨v, v1, v2⟩ := head
        refine ⟨v :: vs, ?_, by simp [e2.1], fun j u q x1 x2 => ?_⟩
        · simp only [List.mapM_cons, Sem.run_bind, v1, Result.andThen_ok, e1, Sem.run_pure]
        · cases j with
          | zero => simp at x1 x2; subst x1; subst x2; exact v2
          | succ j => exact e2.2 j u q (by simpa using x1) (by simpa using x2)
      · simp at h
    · simp at h

theorem results_sound {ι : IM} {w : World} {a : Act} {fn : Func} (hR : Rel ι w st) (hF : FRel n ι w st a fr) {hs : HS} {as : List AV} {ob : List Prop} (h : resAll P fr st fn.results.toList hs = some (as, ob)) (hob : AllP ob) :
    ∃ v, (results fn a.tmps).run P w = .ok v w ∧ AVRel ι w st v (resAV as) := by
  obtain ⟨vs, e1, e2⟩ := res_sound hR hF h hob
  have e3 : (fn.results.mapM (fun | .tmp t => pure (a.tmps.getD t undef) | .cell x t => do loadVar t (← asAddr (a.tmps.getD x undef)) : ResultVar → Sem Value)).run P w = .ok vs.toArray w := by
    rw [Array.mapM_eq_mapM_toList]
    simp only [Sem.run_map, e1, Result.andThen_ok]
  have e4 : (results fn a.tmps).run P w = .ok (if h : vs.toArray.size = 1 then vs.toArray[0] else .tuple vs.toArray) w := by
    unfold results
    rw [Sem.run_bind]
    refine (congrArg (fun r : Result (Array Value) => r.andThen _) e3).trans ?_
    rfl
  refine ⟨_, e4, ?_⟩
  match vs, as, e2 with
  | [], [], _ => exact .tp [] [] rfl (fun j v a h => by simp at h)
  | [v], [av], e2 => exact e2.2 0 v av rfl rfl
  | v :: v' :: vs, av :: av' :: as, e2 =>
    have : ¬ (v :: v' :: vs).toArray.size = 1 := by simp
    rw [dif_neg this]
    exact .tp _ _ e2.1 e2.2
  | [], _ :: _, e2 => have := e2.1; simp at this
  | _ :: _, [], e2 => have := e2.1; simp at this
  | [_], _ :: _ :: _, e2 => have := e2.1; simp at this
  | _ :: _ :: _, [_], e2 => have := e2.1; simp at this

end

end Go.SX
