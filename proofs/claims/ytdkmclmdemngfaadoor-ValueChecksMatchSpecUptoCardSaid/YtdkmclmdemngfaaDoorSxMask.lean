/- SX: a part of the store left aside; a number that was dead taken for a new object. -/
import Derived.Test.YtdkmclmdemngfaaDoorSxMut
import Derived.Test.YtdkmclmdemngfaaDoorSxExt
namespace Go.SX
open Go
set_option linter.unusedVariables false
set_option linter.unusedSimpArgs false
set_option linter.unnecessarySimpa false

theorem rnC_id : ∀ c : CV, rnC (fun i => i) c = c
  | .pv _ => rfl
  | .pt _ _ _ _ => rfl
  | .mp _ => rfl
  | .sl _ _ _ _ => rfl
  | .fn f caps => by simp only [rnC]; rw [go caps]
  where
  go : ∀ l : List CV, rnC.go (fun i => i) l = l
    | [] => rfl
    | c :: l => by simp only [rnC.go, rnC_id c, go l]

/-- the same numbers, the same blocks -/
theorem VRel.chg {ι ι' : IM} {w : World} {st st' : St} (hm : ∀ b, Mut ι' st' b → Mut ι st b) (hl : st.length ≤ st'.length) (hi : ∀ i, ι' i = ι i) {v : Value} {c : CV} (h : VRel ι w st v c) : VRel ι' w st' v c := by
  have := h.ren (ρ := fun i => i) (ι' := ι') (st' := st') hm (fun i h => ⟨by omega, hi i⟩)
  rwa [rnC_id] at this

theorem LRel.chg {ι ι' : IM} {w : World} {st st' : St} (hm : ∀ b, Mut ι' st' b → Mut ι st b) (hl : st.length ≤ st'.length) (hi : ∀ i, ι' i = ι i) {vs : List Value} {cs : List CV} (h : LRel ι w st vs cs) : LRel ι' w st' vs cs :=
  ⟨h.1, fun j v c h1 h2 => (h.2 j v c h1 h2).chg hm hl hi⟩

theorem AVRel.chg {ι ι' : IM} {w : World} {st st' : St} (hm : ∀ b, Mut ι' st' b → Mut ι st b) (hl : st.length ≤ st'.length) (hi : ∀ i, ι' i = ι i) {v : Value} {a : AV} (h : AVRel ι w st v a) : AVRel ι' w st' v a := by
  induction h with
  | j v => exact .j v
  | one v c h => exact .one _ _ (h.chg hm hl hi)
  | ag vs cs h => exact .ag _ _ (h.chg hm hl hi)
  | tp vs as hlen h ih => exact .tp vs _ hlen (fun j v a h1 h2 => ih j v a h1 h2)

theorem ObjRel.chg {ι ι' : IM} {w : World} {st st' : St} (hm : ∀ b, Mut ι' st' b → Mut ι st b) (hl : st.length ≤ st'.length) (hi : ∀ i, ι' i = ι i) {id : Nat} {o : Body} (h : ObjRel ι w st id o) : ObjRel ι' w st' id o := by
  cases o with
  | dead => trivial
  | box cells =>
    obtain ⟨b, us, ty, e3, e4, e5⟩ := h
    exact ⟨b, us, ty, (hi id).trans e3, e4, e5.chg hm hl hi⟩
  | raw ob =>
    obtain ⟨b, e3, e4⟩ := h
    exact ⟨b, (hi id).trans e3, e4⟩
  | arr sz els =>
    rcases h with ⟨e3, e4⟩ | ⟨b, c, ty, e3, e4, e5, e6, e7⟩
    · exact .inl ⟨(hi id).trans e3, e4⟩
    · refine .inr ⟨b, c, ty, (hi id).trans e3, e4, e5, e6, fun i' e j p x1 x2 => ?_⟩
      obtain ⟨v, y1, y2⟩ := e7 i' e j p x1 x2
      exact ⟨v, y1, y2.mono (Nat.le_refl _) (fun b _ hb => ⟨rfl, fun h' => hb (hm b h')⟩)⟩

def maskF (T : Nat → Bool) : Nat → St → St
  | _, [] => []
  | i, b :: l => (bif T i then b else .dead) :: maskF T (i + 1) l

theorem maskF_get {T : Nat → Bool} : ∀ (st : St) (i j : Nat), (maskF T i st)[j]? = (st[j]?).map fun b => bif T (i + j) then b else .dead
  | [], i, j => by simp [maskF]
  | b :: l, i, j => by
    cases j with
    | zero => simp [maskF]
    | succ j =>
      simp only [maskF, List.getElem?_cons_succ]
      rw [maskF_get l (i + 1) j, show i + 1 + j = i + (j + 1) by omega]

theorem maskF_len {T : Nat → Bool} : ∀ (st : St) (i : Nat), (maskF T i st).length = st.length
  | [], _ => rfl
  | b :: l, i => by simp [maskF, maskF_len l]

/-- from m where T says so, else from st; what m has more stays -/
def ovl (T : Nat → Bool) : Nat → St → St → St
  | i, b :: l, m :: ms => (bif T i then m else b) :: ovl T (i + 1) l ms
  | _, [], ms => ms
  | _, _ :: _, [] => []

theorem ovl_len {T : Nat → Bool} : ∀ (st m : St) (i : Nat), st.length ≤ m.length → (ovl T i st m).length = m.length
  | [], m, i, _ => by simp [ovl]
  | b :: l, [], i, h => by simp at h
  | b :: l, x :: ms, i, h => by simp only [ovl, List.length_cons]; rw [ovl_len l ms (i + 1) (by simpa using h)]

theorem ovl_get {T : Nat → Bool} : ∀ (st m : St) (i j : Nat), st.length ≤ m.length → (ovl T i st m)[j]? = if j < st.length ∧ T (i + j) = false then st[j]? else m[j]?
  | [], m, i, j, _ => by simp [ovl]
  | b :: l, [], i, j, h => by simp at h
  | b :: l, x :: ms, i, j, h => by
    cases j with
    | zero => simp [ovl]; cases T i <;> simp
    | succ j =>
      simp only [ovl, List.getElem?_cons_succ, List.length_cons]
      rw [ovl_get l ms (i + 1) j (by simpa using h), show i + 1 + j = i + (j + 1) by omega]
      simp

section
variable {ι : IM} {w : World} {st : St} {T : Nat → Bool}

/-- what is left aside counts as the callers' -/
def aside (T : Nat → Bool) (ι : IM) (st : St) : IM := ⟨ι.m, fun b => ι.amb b ∨ ∃ id o, st[id]? = some o ∧ o.alive ∧ T id = false ∧ ι id = some b⟩

theorem mask_own {b : Nat} (h : Own (aside T ι st) (maskF T 0 st) b) : ∃ id o, st[id]? = some o ∧ o.alive ∧ T id = true ∧ ι id = some b := by
  obtain ⟨id, o, h1, h2, h3⟩ := h
  rw [maskF_get, Option.map_eq_some_iff] at h1
  obtain ⟨o', h1, rfl⟩ := h1
  rw [Nat.zero_add] at h2
  cases hT : T id with
  | false => rw [hT] at h2; exact absurd rfl h2
  | true => rw [hT] at h2; exact ⟨id, o', h1, h2, hT, h3⟩

theorem mask_mut {b : Nat} : Mut (aside T ι st) (maskF T 0 st) b ↔ Mut ι st b := by
  constructor
  · rintro ((h | ⟨id, o, h1, h2, _, h3⟩) | h)
    · exact .inl h
    · exact .inr ⟨id, o, h1, h2, h3⟩
    · obtain ⟨id, o, h1, h2, _, h3⟩ := mask_own h
      exact .inr ⟨id, o, h1, h2, h3⟩
  · rintro (h | ⟨id, o, h1, h2, h3⟩)
    · exact .inl (.inl h)
    · cases hT : T id with
      | false => exact .inl (.inr ⟨id, o, h1, h2, hT, h3⟩)
      | true => exact .inr ⟨id, o, by rw [maskF_get, h1, Nat.zero_add, hT]; rfl, h2, h3⟩

theorem Rel.mask (hR : Rel ι w st) (T : Nat → Bool) : Rel (aside T ι st) w (maskF T 0 st) := by
  refine ⟨fun id o ho => ?_, fun b hb => ?_, fun b hb ha => ?_, fun id id' o o' b h1 h2 a1 a2 e1 e2 => ?_, fun b o h => ⟨fun hm => (hR.gl b o h).1 (mask_mut.1 hm), (hR.gl b o h).2⟩⟩
  · rw [maskF_get, Option.map_eq_some_iff] at ho
    obtain ⟨o', h1, rfl⟩ := ho
    cases T (0 + id) with
    | false => trivial
    | true => exact (hR.obj id o' h1).chg (fun b hb => mask_mut.1 hb) (by rw [maskF_len]; exact Nat.le_refl _) (fun _ => rfl)
  · rcases hb with hb | ⟨id, o, h1, h2, _, h3⟩
    · exact hR.amb b hb
    · exact hR.mut_lt (.inr ⟨id, o, h1, h2, h3⟩)
  · obtain ⟨id, o, h1, h2, hT, h3⟩ := mask_own hb
    rcases ha with ha | ⟨id', o', g1, g2, hF, g3⟩
    · exact hR.dis b ⟨id, o, h1, h2, h3⟩ ha
    · have := hR.inj id id' o o' b h1 g1 h2 g2 h3 g3
      subst this
      rw [hT] at hF; cases hF
  · rw [maskF_get, Option.map_eq_some_iff] at h1 h2
    obtain ⟨p, p1, rfl⟩ := h1
    obtain ⟨q, q1, rfl⟩ := h2
    rw [Nat.zero_add] at a1 a2
    cases hT : T id with
    | false => rw [hT] at a1; exact absurd rfl a1
    | true =>
      cases hT' : T id' with
      | false => rw [hT'] at a2; exact absurd rfl a2
      | true =>
        rw [hT] at a1; rw [hT'] at a2
        exact hR.inj id id' p q b p1 q1 a1 a2 e1 e2

/-- back: what was left aside is as it was -/
theorem Rel.unmask (hR : Rel ι w st) {q : Nat → Bool} {w' : World} {ι2 : IM} {sm : St} (hl : st.length ≤ sm.length) (hR2 : Rel ι2 w' sm) (k : Keeps (fun id => q id = true) (aside T ι st) w (maskF T 0 st) ι2 w' sm)
    (hq : ∀ id, T id = false → id < st.length → q id = true) (hb : ∀ id o, st[id]? = some o → T id = false → bodyIds q o = true) (hd : ∀ id, id < st.length → T id = false → sm[id]? = some .dead) :
    Rel ⟨ι2.m, ι.amb⟩ w' (ovl T 0 st sm) ∧ (∀ b, Mut ⟨ι2.m, ι.amb⟩ (ovl T 0 st sm) b → Mut ι2 sm b) ∧ Keeps (fun id => q id = true) ι w st ⟨ι2.m, ι.amb⟩ w' (ovl T 0 st sm) := by
  have hlen := ovl_len (T := T) st sm 0 hl
  have hget : ∀ id o, (ovl T 0 st sm)[id]? = some o → (id < st.length ∧ T id = false ∧ st[id]? = some o) ∨ (sm[id]? = some o ∧ (id < st.length → T id = true)) := by
    intro id o ho
    rw [ovl_get _ _ _ _ hl, Nat.zero_add] at ho
    split at ho
    · rename_i h; exact .inl ⟨h.1, h.2, ho⟩
    · rename_i h
      refine .inr ⟨ho, fun hid => ?_⟩
      cases hT : T id with
      | true => rfl
      | false => exact absurd ⟨hid, hT⟩ h
  have hsame : ∀ id, id < st.length → T id = false → ι2 id = ι id := fun id hid hT => (k.map id (hq id hT hid) (by rw [maskF_len]; exact hid)).2
  have own1 : ∀ b, Own ⟨ι2.m, ι.amb⟩ (ovl T 0 st sm) b → (∃ id o, st[id]? = some o ∧ o.alive ∧ T id = false ∧ ι id = some b) ∨ Own ι2 sm b := by
    rintro b ⟨id, o, h1, h2, h3⟩
    rcases hget id o h1 with ⟨g1, g2, g3⟩ | ⟨g1, _⟩
    · exact .inl ⟨id, o, g3, h2, g2, (hsame id g1 g2).symm.trans h3⟩
    · exact .inr ⟨id, o, g1, h2, h3⟩
  have hamb : ι2.amb = (aside T ι st).amb := k.amb
  have mut1 : ∀ b, Mut ⟨ι2.m, ι.amb⟩ (ovl T 0 st sm) b → Mut ι2 sm b := by
    rintro b (hb' | hb')
    · exact .inl (by rw [hamb]; exact .inl hb')
    · rcases own1 b hb' with h | h
      · exact .inl (by rw [hamb]; exact .inr h)
      · exact .inr h
  have hRm := hR.mask T
  have kk : Keeps (fun id => q id = true) ι w st ⟨ι2.m, ι.amb⟩ w' (ovl T 0 st sm) := by
    refine ⟨k.os, k.tape, k.output, k.size, rfl, fun b hb' hno => ?_, fun id hq' hid => ⟨by rw [hlen]; omega, (k.map id hq' (by rw [maskF_len]; exact hid)).2⟩, k.shp⟩
    have h1 : ¬ Own (aside T ι st) (maskF T 0 st) b := by
      intro h
      obtain ⟨id, o, x1, x2, _, x3⟩ := mask_own h
      exact hno ⟨id, o, x1, x2, x3⟩
    obtain ⟨e1, e2⟩ := k.blk b hb' h1
    refine ⟨e1, fun ho => ?_⟩
    rcases own1 b ho with ⟨id, o, x1, x2, _, x3⟩ | h
    · exact hno ⟨id, o, x1, x2, x3⟩
    · exact e2 h
  refine ⟨⟨fun id o ho => ?_, fun b hb' => Nat.lt_of_lt_of_le (hR.amb b hb') k.size, fun b hb' ha => ?_, fun id id' o o' b h1 h2 a1 a2 e1 e2 => ?_, hR.glk kk⟩, mut1, kk⟩
  · rcases hget id o ho with ⟨g1, g2, g3⟩ | ⟨g1, _⟩
    · have hobj := hR.obj id o g3
      have hi := hb id o g3 g2
      have hblk : ∀ b, o.alive → ι id = some b → w'.heap[b]? = w.heap[b]? := by
        intro b ha e
        refine (k.blk b (hR.mut_lt (.inr ⟨id, o, g3, ha, e⟩)) (fun hown => ?_)).1
        exact hRm.dis b hown (.inr ⟨id, o, g3, ha, g2, e⟩)
      cases o with
      | dead => trivial
      | box cells =>
        obtain ⟨b, us, ty, e3, e4, e5⟩ := hobj
        exact ⟨b, us, ty, (hsame id g1 g2).trans e3, (hblk b (by simp [Body.alive]) e3).trans e4, e5.mono kk (q := q) (fun _ h _ => h) hi⟩
      | raw ob =>
        obtain ⟨b, e3, e4⟩ := hobj
        exact ⟨b, (hsame id g1 g2).trans e3, (hblk b (by simp [Body.alive]) e3).trans e4⟩
      | arr sz els =>
        rcases hobj with ⟨e3, e4⟩ | ⟨b, c, ty, e3, e4, e5, e6, e7⟩
        · exact .inl ⟨(hsame id g1 g2).trans e3, e4⟩
        · refine .inr ⟨b, c, ty, (hsame id g1 g2).trans e3, (hblk b (by simp [Body.alive]) e3).trans e4, e5, e6, fun i' e j p x1 x2 => ?_⟩
          obtain ⟨v, y1, y2⟩ := e7 i' e j p x1 x2
          exact ⟨v, y1, kk.pure y2⟩
    · exact (hR2.obj id o g1).chg mut1 (by rw [hlen]; exact Nat.le_refl _) (fun _ => rfl)
  · rcases own1 b hb' with ⟨id, o, x1, x2, _, x3⟩ | h
    · exact hR.dis b ⟨id, o, x1, x2, x3⟩ ha
    · exact hR2.dis b h (by rw [hamb]; exact .inl ha)
  · rcases hget id o h1 with ⟨g1, g2, g3⟩ | ⟨g1, gT⟩
    · have i1 : ι id = some b := (hsame id g1 g2).symm.trans e1
      rcases hget id' o' h2 with ⟨q1, q2, q3⟩ | ⟨q1, qT⟩
      · exact hR.inj id id' o o' b g3 q3 a1 a2 i1 ((hsame id' q1 q2).symm.trans e2)
      · exact absurd (by rw [hamb]; exact .inr ⟨id, o, g3, a1, g2, i1⟩) (hR2.dis b ⟨id', o', q1, a2, e2⟩)
    · rcases hget id' o' h2 with ⟨q1, q2, q3⟩ | ⟨q1, qT⟩
      · exact absurd (by rw [hamb]; exact .inr ⟨id', o', q3, a2, q2, (hsame id' q1 q2).symm.trans e2⟩) (hR2.dis b ⟨id, o, g1, a1, e1⟩)
      · exact hR2.inj id id' o o' b g1 q1 a1 a2 e1 e2

/-- a new object takes a number that was dead -/
def revI (ι : IM) (L id : Nat) : IM := ⟨fun i => if i = id then ι L else ι i, ι.amb⟩

def rhoR (L id : Nat) : Nat → Nat := fun i => if i = L then id else i

theorem Rel.revive {b : Body} {id : Nat} (hR : Rel ι w (st ++ [b])) (hd : st[id]? = some .dead) (hi : stIds (fun i => !Nat.beq i id && !Nat.beq i st.length) (st ++ [b]) = true) :
    Rel (revI ι st.length id) w (st.set id b) ∧ (∀ x, Mut (revI ι st.length id) (st.set id b) x → Mut ι (st ++ [b]) x) ∧
    Keeps (fun i => i ≠ id ∧ i ≠ st.length) ι w (st ++ [b]) (revI ι st.length id) w (st.set id b) := by
  have hid : id < st.length := (List.getElem?_eq_some_iff.1 hd).1
  have hne : ∀ i, i ≠ id → (st.set id b)[i]? = st[i]? := by
    intro i h; rw [List.getElem?_set, if_neg (fun e => h e.symm)]
  have hat : (st.set id b)[id]? = some b := by rw [List.getElem?_set, if_pos rfl, if_pos hid]
  have hold : ∀ i, i < st.length → (st ++ [b])[i]? = st[i]? := fun i h => List.getElem?_append_left h
  have hnew : (st ++ [b])[st.length]? = some b := by simp
  have hcase : ∀ i o, (st.set id b)[i]? = some o → o.alive → (i = id ∧ o = b) ∨ (i ≠ id ∧ i < st.length ∧ (st ++ [b])[i]? = some o) := by
    intro i o ho ha
    by_cases e : i = id
    · subst e; rw [hat] at ho; cases ho; exact .inl ⟨rfl, rfl⟩
    · rw [hne i e] at ho
      have := (List.getElem?_eq_some_iff.1 ho).1
      exact .inr ⟨e, this, by rw [hold i this]; exact ho⟩
  have own1 : ∀ x, Own (revI ι st.length id) (st.set id b) x → Own ι (st ++ [b]) x := by
    rintro x ⟨i, o, h1, h2, h3⟩
    rcases hcase i o h1 h2 with ⟨rfl, rfl⟩ | ⟨g1, g2, g3⟩
    · exact ⟨st.length, o, hnew, h2, (if_pos rfl : revI ι st.length i i = ι st.length) ▸ h3⟩
    · exact ⟨i, o, g3, h2, (if_neg g1 : revI ι st.length id i = ι i) ▸ h3⟩
  have own2 : ∀ x, Own ι (st ++ [b]) x → Own (revI ι st.length id) (st.set id b) x := by
    rintro x ⟨i, o, h1, h2, h3⟩
    by_cases e : i < st.length
    · have hii : i ≠ id := by
        rintro rfl
        rw [hold i e, hd] at h1; cases h1; exact absurd rfl h2
      exact ⟨i, o, by rw [hne i hii, ← hold i e]; exact h1, h2, (if_neg hii : revI ι st.length id i = ι i).trans h3⟩
    · have hl := (List.getElem?_eq_some_iff.1 h1).1
      have : i = st.length := by simp at hl; omega
      subst this
      rw [hnew] at h1; cases h1
      exact ⟨id, b, hat, h2, (if_pos rfl : revI ι st.length id id = ι st.length).trans h3⟩
  have mut1 : ∀ x, Mut (revI ι st.length id) (st.set id b) x → Mut ι (st ++ [b]) x := fun x h => h.elim .inl (fun h => .inr (own1 x h))
  have kk : Keeps (fun i => i ≠ id ∧ i ≠ st.length) ι w (st ++ [b]) (revI ι st.length id) w (st.set id b) :=
    ⟨rfl, rfl, rfl, Nat.le_refl _, rfl, fun x _ hno => ⟨rfl, fun h => hno (own1 x h)⟩, fun i hf hl => ⟨by simp at hl ⊢; omega, if_neg hf.1⟩, fun _ c _ _ h => ⟨c, h, rfl⟩⟩
  have hq : ∀ i, (fun i => !Nat.beq i id && !Nat.beq i st.length) i = true → i < (st ++ [b]).length → i ≠ id ∧ i ≠ st.length := by
    intro i h _
    simp only [Bool.and_eq_true, Bool.not_eq_true'] at h
    refine ⟨fun e => ?_, fun e => ?_⟩
    · subst e; simp at h
    · subst e; simp at h
  have objs : ∀ i o, (st ++ [b])[i]? = some o → ∀ j, (revI ι st.length id) j = ι i → ObjRel (revI ι st.length id) w (st.set id b) j o := by
    intro i o ho j hj
    have hobj := hR.obj i o ho
    have hids := stIds_get hi i o ho
    cases o with
    | dead => trivial
    | box cells =>
      obtain ⟨x, us, ty, e3, e4, e5⟩ := hobj
      exact ⟨x, us, ty, hj.trans e3, e4, e5.mono kk hq hids⟩
    | raw ob =>
      obtain ⟨x, e3, e4⟩ := hobj
      exact ⟨x, hj.trans e3, e4⟩
    | arr sz els =>
      rcases hobj with ⟨e3, e4⟩ | ⟨x, c, ty, e3, e4, e5, e6, e7⟩
      · exact .inl ⟨hj.trans e3, e4⟩
      · refine .inr ⟨x, c, ty, hj.trans e3, e4, e5, e6, fun i' e j' p x1 x2 => ?_⟩
        obtain ⟨v, y1, y2⟩ := e7 i' e j' p x1 x2
        exact ⟨v, y1, kk.pure y2⟩
  refine ⟨⟨fun i o ho => ?_, hR.amb, fun x hx => hR.dis x (own1 x hx), fun i i' o o' x h1 h2 a1 a2 e1 e2 => ?_, hR.glk kk⟩, mut1, kk⟩
  · by_cases ha : o = .dead
    · subst ha; trivial
    · rcases hcase i o ho ha with ⟨rfl, rfl⟩ | ⟨g1, g2, g3⟩
      · exact objs st.length o hnew i (if_pos rfl)
      · exact objs i o g3 i (if_neg g1)
  · rcases hcase i o h1 a1 with ⟨rfl, rfl⟩ | ⟨g1, g2, g3⟩
    · have x1 : ι st.length = some x := (if_pos rfl : revI ι st.length i i = ι st.length) ▸ e1
      rcases hcase i' o' h2 a2 with ⟨rfl, _⟩ | ⟨q1, q2, q3⟩
      · rfl
      · have := hR.inj st.length i' _ _ x hnew q3 a1 a2 x1 ((if_neg q1 : revI ι st.length i i' = ι i') ▸ e2)
        omega
    · have x1 : ι i = some x := (if_neg g1 : revI ι st.length id i = ι i) ▸ e1
      rcases hcase i' o' h2 a2 with ⟨rfl, rfl⟩ | ⟨q1, q2, q3⟩
      · have := hR.inj i st.length _ _ x g3 hnew a1 a2 x1 ((if_pos rfl : revI ι st.length i' i' = ι st.length) ▸ e2)
        omega
      · exact hR.inj i i' _ _ x g3 q3 a1 a2 x1 ((if_neg q1 : revI ι st.length id i' = ι i') ▸ e2)

theorem VRel.revive {b : Body} {id : Nat} (hid : id < st.length) (hm : ∀ x, Mut (revI ι st.length id) (st.set id b) x → Mut ι (st ++ [b]) x) {v : Value} {c : CV} (h : VRel ι w (st ++ [b]) v c) : idsC (fun i => !Nat.beq i id) c = true → VRel (revI ι st.length id) w (st.set id b) v (rnC (rhoR st.length id) c) := by
  have key : ∀ i, (!Nat.beq i id) = true → i < (st ++ [b]).length → rhoR st.length id i < (st.set id b).length ∧ revI ι st.length id (rhoR st.length id i) = ι i := by
    intro i hi hl
    have hne : i ≠ id := by rintro rfl; simp at hi
    simp only [rhoR]
    split
    · rename_i e; subst e; exact ⟨by simpa using hid, if_pos rfl⟩
    · refine ⟨by simp at hl ⊢; omega, if_neg hne⟩
  induction h with
  | pv v p h => exact fun _ => .pv v p (h.mono (Nat.le_refl _) (fun x _ hx => ⟨rfl, fun h' => hx (hm x h')⟩))
  | pt i sz k off x hid' hb => intro hi; exact .pt _ sz k off x (key i hi hid').1 ((key i hi hid').2.trans hb)
  | sl i sz off len x cap hid' hb hcap hc => intro hi; exact .sl _ sz off len x cap (key i hi hid').1 ((key i hi hid').2.trans hb) hcap hc
  | sn i sz hid' hb => intro hi; exact .sn _ sz (key i hi hid').1 ((key i hi hid').2.trans hb)
  | mp i x hid' hb => intro hi; exact .mp _ x (key i hi hid').1 ((key i hi hid').2.trans hb)
  | fn f caps vs hl hv ih =>
    intro hi
    simp only [idsC] at hi
    simp only [rnC, rnC_go]
    refine .fn f _ vs (by simpa using hl) (fun j c v h1 h2 => ?_)
    rw [List.getElem?_map, Option.map_eq_some_iff] at h1
    obtain ⟨c', h1, rfl⟩ := h1
    exact ih j c' v h1 h2 (idsC_go hi j c' h1)

theorem AVRel.revive {b : Body} {id : Nat} (hid : id < st.length) (hm : ∀ x, Mut (revI ι st.length id) (st.set id b) x → Mut ι (st ++ [b]) x) {v : Value} {a : AV} (h : AVRel ι w (st ++ [b]) v a) : idsA (fun i => !Nat.beq i id) a = true → AVRel (revI ι st.length id) w (st.set id b) v (rnA (rhoR st.length id) a) := by
  induction h with
  | j v => exact fun _ => .j v
  | one v c h => exact fun hi => .one _ _ (h.revive hid hm hi)
  | ag vs cs h =>
    intro hi
    refine .ag _ _ ⟨by simpa using h.1, fun j v c h1 h2 => ?_⟩
    rw [List.getElem?_map, Option.map_eq_some_iff] at h2
    obtain ⟨c', h2, rfl⟩ := h2
    exact (h.2 j v c' h1 h2).revive hid hm (idsL_get hi j c' h2)
  | tp vs as hlen h ih =>
    intro hi
    simp only [idsA] at hi
    simp only [rnA, rnA_go]
    refine .tp vs _ (by simpa using hlen) (fun j v a h1 h2 => ?_)
    rw [List.getElem?_map, Option.map_eq_some_iff] at h2
    obtain ⟨a', h2, rfl⟩ := h2
    exact ih j v a' h1 h2 (idsA_go hi j a' h2)

end
end Go.SX
