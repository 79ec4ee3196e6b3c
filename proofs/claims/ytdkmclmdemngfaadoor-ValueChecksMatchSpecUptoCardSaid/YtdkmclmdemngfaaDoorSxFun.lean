/- SX, sixteenth part: freezing; a function's contract. -/
import Derived.Test.YtdkmclmdemngfaaDoorSxCall
namespace Go.SX
open Go
set_option linter.unusedVariables false
set_option linter.unusedSimpArgs false
set_option linter.unnecessarySimpa false

section
variable {P : Program} {n n0 : Nat} {loose an : List Nat} {Q : QT} {fr : Fr} {st : St} {c : Code} {ops : Array Oper}

/-- a value whose objects, but for those for which q holds, are no longer written -/
inductive CF (st : St) (q : Nat → Bool) : CV → CV → Prop where
  | rfl (c : CV) (h : idsC q c = true) : CF st q c c
  | nl : CF st q (.pv (.s (.slice none 0 0))) (.pv (.ro []))
  | sl {id sz off len : Nat} {els els' : List (List PV)} (h : st[id]? = some (.arr sz els)) (hq : q id = false) (hl : off + len ≤ els.length) (e : (els.drop off).take len = els') : CF st q (.sl id sz off len) (.pv (.ro els'))

inductive LF (st : St) (q : Nat → Bool) : List CV → List CV → Prop where
  | nil : LF st q [] []
  | cons {c c' : CV} {l l' : List CV} (h : CF st q c c') (k : LF st q l l') : LF st q (c :: l) (c' :: l')

inductive AF (st : St) (q : Nat → Bool) : AV → AV → Prop where
  | j (a : AV) : AF st q a .j
  | one {c c' : CV} (h : CF st q c c') : AF st q (.one c) (.one c')
  | ag {cs cs' : List CV} (h : LF st q cs cs') : AF st q (.ag cs) (.ag cs')
  | tp0 : AF st q (.tp []) (.tp [])
  | tpc {a a' : AV} {l l' : List AV} (h : AF st q a a') (k : AF st q (.tp l) (.tp l')) : AF st q (.tp (a :: l)) (.tp (a' :: l'))

/-- some objects die, or are left off the end -/
structure SubSt (q : Nat → Bool) (st st' : St) : Prop where
  old : ∀ (id : Nat) o, st'[id]? = some o → o = .dead ∨ (q id = true ∧ st[id]? = some o)
  keep : ∀ id, q id = true → id < st.length → id < st'.length

theorem SubSt.own {q : Nat → Bool} {st' : St} (h : SubSt q st st') {ι : IM} {b : Nat} (ho : Own ι st' b) : ∃ id o, q id = true ∧ st[id]? = some o ∧ o.alive ∧ ι id = some b := by
  obtain ⟨id, o, h1, h2, h3⟩ := ho
  rcases h.old id o h1 with rfl | ⟨h4, h5⟩
  · exact absurd rfl h2
  · exact ⟨id, o, h4, h5, h2, h3⟩

theorem Rel.shrink {q : Nat → Bool} {st' : St} {ι : IM} {w : World} (r : Rel ι w st) (h : SubSt q st st') (hi : stIds q st' = true) : Rel ι w st' ∧ Keeps (fun id => q id = true) ι w st ι w st' := by
  have k : Keeps (fun id => q id = true) ι w st ι w st' :=
    ⟨rfl, rfl, rfl, Nat.le_refl _, rfl, fun b _ hm => ⟨rfl, fun ho => by
      obtain ⟨id, o, _, h2, h3, h4⟩ := h.own ho
      exact hm ⟨id, o, h2, h3, h4⟩⟩, fun id hq hid => ⟨h.keep id hq hid, rfl⟩, fun _ c _ _ h => ⟨c, h, rfl⟩⟩
  refine ⟨⟨fun id o ho => ?_, r.amb, fun b ho => ?_, fun id id' o o' b h1 h2 a1 a2 e1 e2 => ?_, r.glk k⟩, k⟩
  · rcases h.old id o ho with rfl | ⟨hq, ho'⟩
    · trivial
    · have := r.obj id o ho'
      have hb := stIds_get hi id o ho
      cases o with
      | dead => trivial
      | box cells =>
        obtain ⟨b', vs, ty, e', hb', hl⟩ := this
        exact ⟨b', vs, ty, e', hb', hl.mono k (q := q) (fun _ h _ => h) hb⟩
      | raw ob =>
        obtain ⟨b', e', hb'⟩ := this
        exact ⟨b', e', hb'⟩
      | arr sz els =>
        rcases this with ⟨e', he⟩ | ⟨b', c, ty, e', hb', h1, h2, h3⟩
        · exact .inl ⟨e', he⟩
        · refine .inr ⟨b', c, ty, e', hb', h1, h2, fun i e' j cv a1 a2 => ?_⟩
          obtain ⟨v, hv, hr⟩ := h3 i e' j cv a1 a2
          exact ⟨v, hv, k.pure hr⟩
  · obtain ⟨id, o, _, h2, h3, h4⟩ := h.own ho
    exact r.dis b ⟨id, o, h2, h3, h4⟩
  · rcases h.old id o h1 with rfl | ⟨_, h5⟩
    · exact absurd rfl a1
    rcases h.old id' o' h2 with rfl | ⟨_, h6⟩
    · exact absurd rfl a2
    exact r.inj id id' o o' b h5 h6 a1 a2 e1 e2

theorem VRel.fz {q : Nat → Bool} {st' : St} {ι : IM} {w : World} (r : Rel ι w st) (hs : SubSt q st st') (hi : stIds q st' = true) {v : Value} {c c' : CV} (h : VRel ι w st v c) (hf : CF st q c c') : VRel ι w st' v c' := by
  obtain ⟨r', k⟩ := r.shrink hs hi
  cases hf with
  | rfl _ hc => exact h.mono k (q := q) (fun _ h _ => h) hc
  | nl =>
    have := scalar_of (AVRel.one _ _ h)
    subst this
    exact .pv _ _ .nl
  | @sl id sz off len els els' ho hq hl he =>
    subst he
    have hlen : ((els.drop off).take len).length = len := by simp; omega
    cases h with
    | sn _ _ hid hb =>
      have : (els.drop 0).take 0 = [] := by simp
      rw [this]
      exact .pv _ _ .nl
    | sl _ _ _ _ b cap hid hb hcap hc =>
      rcases r.obj id _ ho with ⟨e1, _⟩ | ⟨b', c, ty, e1, e2, hcs, hsz, hcell⟩
      · rw [hb] at e1; cases e1
      · rw [hb] at e1; cases e1
        have hown : Own ι st b := ⟨id, _, ho, by simp [Body.alive], hb⟩
        have := PRel.ro (μ := Mut ι st') (w := w) ⟨b, off * sz, none⟩ cap sz ((els.drop off).take len) (fun i j => c.getD ((off + i) * sz + j) undef) (by rw [hlen]; exact hcap)
          (fun e he => hsz e (List.mem_of_mem_drop (List.mem_of_mem_take he)))
          (fun _ => ⟨lt_of_some e2, fun hm => by
            rcases hm with hm | hm
            · exact r.dis b hown hm
            · obtain ⟨id', o', hq', h5, h6, h7⟩ := hs.own hm
              have := r.inj id id' _ o' b ho h5 (by simp [Body.alive]) h6 hb h7
              subst this
              rw [hq] at hq'; cases hq'⟩)
          (fun i e j p h1 h2 => by
            rw [List.getElem?_take] at h1
            split at h1
            · rw [List.getElem?_drop] at h1
              obtain ⟨u, a1, a2⟩ := hcell _ e j p h1 h2
              rw [add_lit, cell_lit e2]
              rw [show off * sz + (i * sz + j) = (off + i) * sz + j by rw [Nat.add_mul]; omega, a1]
              simp [a1]
            · cases h1)
          (fun i e j p h1 h2 => by
            rw [List.getElem?_take] at h1
            split at h1
            · rw [List.getElem?_drop] at h1
              obtain ⟨u, a1, a2⟩ := hcell _ e j p h1 h2
              have : c.getD ((off + i) * sz + j) undef = u := by simp [a1]
              rw [this]
              exact k.pure a2
            · cases h1)
        rw [hlen] at this
        exact .pv _ _ this

theorem AVRel.fz {q : Nat → Bool} {st' : St} {ι : IM} {w : World} (r : Rel ι w st) (hs : SubSt q st st') (hi : stIds q st' = true) {v : Value} {a a' : AV} (h : AVRel ι w st v a) (hf : AF st q a a') : AVRel ι w st' v a' := by
  induction hf generalizing v with
  | j a => exact .j _
  | one hc => exact .one _ _ ((cv_of h).fz r hs hi hc)
  | @ag cs cs' hl =>
    obtain ⟨vs, rfl, hL⟩ := ag_of h
    refine .ag _ _ ?_
    clear h
    induction hl generalizing vs with
    | nil => exact ⟨hL.1, fun j v c h1 h2 => by simp at h2⟩
    | @cons c c' l l' hc hk ih =>
      match vs, hL with
      | [], hL => have := hL.1; simp at this
      | u :: us, hL =>
        have h0 := hL.2 0 u c rfl rfl
        have ht := ih us ⟨by have := hL.1; simpa using this, fun j v c h1 h2 => hL.2 (j + 1) v c (by simpa using h1) (by simpa using h2)⟩
        refine ⟨by simp [ht.1], fun j v c h1 h2 => ?_⟩
        cases j with
        | zero => simp at h1 h2; subst h1; subst h2; exact h0.fz r hs hi hc
        | succ j => exact ht.2 j v c (by simpa using h1) (by simpa using h2)
  | tp0 =>
    cases h with
    | tp vs as hl hh => exact .tp vs [] hl (fun j v a h1 h2 => by simp at h2)
  | @tpc a a' l l' ha hk ih1 ih2 =>
    cases h with
    | tp vs as hl hh =>
      match vs, hl, hh with
      | u :: us, hl, hh =>
        have h0 := ih1 (hh 0 u a rfl rfl)
        have ht := ih2 (v := .tuple us.toArray) (.tp us l (by simpa using hl) (fun j v a h1 h2 => hh (j + 1) v a (by simpa using h1) (by simpa using h2)))
        cases ht with
        | tp us' _ hl' hh' =>
          refine .tp (u :: us) (a' :: l') (by simpa using hl') (fun j v b h1 h2 => ?_)
          cases j with
          | zero => simp at h1 h2; subst h1; subst h2; exact h0
          | succ j => exact hh' j v b (by simpa using h1) (by simpa using h2)

/-! ### the frame at a function's beginning -/

def argsFr : List AV → Nat → Fr
  | [], _ => []
  | a :: l, i => (i, a) :: argsFr l (i + 1)

theorem lk_argsFr : ∀ (l : List AV) (i t : Nat), lk (argsFr l i) t = (if i ≤ t then l.getD (t - i) .j else .j)
  | [], i, t => by simp [argsFr, lk]
  | a :: l, i, t => by
    simp only [argsFr, lk]
    by_cases e : i = t
    · subst e; simp
    · have hb : Nat.beq i t = false := by cases hq : Nat.beq i t with | false => rfl | true => exact absurd (Nat.eq_of_beq_eq_true hq) e
      rw [hb, cond_false, lk_argsFr l (i + 1) t]
      by_cases h1 : i ≤ t
      · rw [if_pos (by omega), if_pos h1, show t - i = (t - (i + 1)) + 1 by omega]
        simp
      · rw [if_neg (by omega), if_neg h1]

/-- what a function's end must say: pure result, nothing left -/
def FinP (P : Program) (fn : Func) (r : AV) : QT := fun e fr st =>
  (e = .normal ∨ e = .ret) ∧ ∃ hs as ob, resAll P fr st fn.results.toList hs = some (as, ob) ∧ AllP ob ∧ AF st (fun _ => false) (resAV as) r

theorem PC.of {f : Nat} {fn : Func} {args : List AV} {r : AV} (hf : P.funcs[f]? = some fn) (hb : fn.body = some c) (hn : fn.ntmps = n) (hl : args.length ≤ n)
    (h : XW P n 0 [] c (FinP P fn r) (argsFr args 0) []) : PC P f args r := by
  intro ι w vs hR hA
  refine calls_of_wp hf hb ?_
  have hF : FRel n ι w [] { tmps := vs.toArray ++ Array.replicate (fn.ntmps - vs.toArray.size) undef, defers := [] } (argsFr args 0) := by
    refine ⟨rfl, ?_, fun t => ?_⟩
    · simp [hn]; have := hA.1; omega
    · rw [lk_argsFr]
      simp only [Nat.zero_le, if_true, Nat.sub_zero]
      by_cases ht : t < vs.length
      · have hta : t < args.length := by rw [← hA.1]; exact ht
        have e1 : (vs.toArray ++ Array.replicate (fn.ntmps - vs.toArray.size) undef).getD t undef = vs[t] := by
          simp [Array.getElem?_append, ht]
        have e2 : args.getD t .j = args[t] := by simp [List.getD, hta]
        rw [e1, e2]
        exact hA.2 t _ _ (List.getElem?_eq_getElem ht) (List.getElem?_eq_getElem hta)
      · have : args.getD t .j = .j := by
          simp only [List.getD]
          rw [List.getElem?_eq_none (by rw [← hA.1]; omega)]
          rfl
        rw [this]
        exact .j _
  refine Go.wp_mono (h ι w _ hR hF) ?_
  rintro e a w' ⟨ι', fr', st', ⟨he, hs, as, ob, hres, hob, haf⟩, hR', hF', k⟩
  obtain ⟨v, hv, hav⟩ := results_sound hR' hF' hres hob
  have hsub : SubSt (fun _ => false) st' [] := ⟨fun id o h => by simp at h, fun id h => by cases h⟩
  obtain ⟨r1, k1⟩ := hR'.shrink hsub rfl
  have hfin := hav.fz hR' hsub rfl haf
  have hpost : ∃ v', (results fn a.tmps).run P w' = .ok v' w' ∧ (∃ v av st' ι', Ending.returned v' = .returned v ∧ (av = r ∧ st' = []) ∧ Rel ι' w' st' ∧ AVRel ι' w' st' v av ∧ Keeps (fun id => id ∉ ([] : List Nat)) ι w [] ι' w' st') := by
    refine ⟨v, hv, v, r, [], ι', rfl, ⟨rfl, rfl⟩, r1, hfin, ?_⟩
    have kk := k.trans (k1.weaken (fun id h => by cases (show false = true from h)))
    exact ⟨kk.os, kk.tape, kk.output, kk.size, kk.amb, kk.blk, fun id _ h => by simp at h, kk.shp⟩
  rcases he with rfl | rfl
  · exact ⟨hF'.defers, hpost⟩
  · exact ⟨hF'.defers, hpost⟩

end

end Go.SX
