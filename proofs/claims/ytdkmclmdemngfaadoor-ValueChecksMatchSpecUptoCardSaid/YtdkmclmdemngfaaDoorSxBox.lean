/- SX: lists that are held in a box. -/
import Derived.Test.YtdkmclmdemngfaaDoorSxIter
namespace Go.SX
open Go
set_option linter.unusedVariables false
set_option linter.unusedSimpArgs false

section
variable {P : Program} {n n0 : Nat} {loose an : List Nat} {Q : QT} {fr : Fr} {st : St} {c : Code} {ops : Array Oper} {l : List Oper}

theorem get_dead {st : St} {id : Nat} {o : Body} (h : (st ++ [Body.dead])[id]? = some o) (ha : o.alive) : id < st.length ∧ st[id]? = some o := by
  by_cases hid : id < st.length
  · rw [List.getElem?_append_left hid] at h
    exact ⟨hid, h⟩
  · have : id = st.length := by
      have := (List.getElem?_eq_some_iff.1 h).1
      simp at this
      omega
    subst this
    simp at h
    subst h
    exact absurd rfl ha

/-- a number without an object, that stands for a block -/
theorem dead_add {ι : IM} {w : World} (r : Rel ι w st) (b : Option Nat) :
    Rel (ι.add st.length b) w (st ++ [.dead]) ∧ Keeps all ι w st (ι.add st.length b) w (st ++ [.dead]) := by
  have own : ∀ x, Own (ι.add st.length b) (st ++ [.dead]) x → Own ι st x := by
    rintro x ⟨id, o, h1, h2, h3⟩
    obtain ⟨g1, g2⟩ := get_dead h1 h2
    simp only [IM.add, if_neg (Nat.ne_of_lt g1)] at h3
    exact ⟨id, o, g2, h2, h3⟩
  have k : Keeps all ι w st (ι.add st.length b) w (st ++ [.dead]) :=
    ⟨rfl, rfl, rfl, Nat.le_refl _, rfl, fun x _ hm => ⟨rfl, fun hm' => hm (own x hm')⟩, fun id _ hid => ⟨by simp; omega, by simp [IM.add, Nat.ne_of_lt hid]⟩, fun _ c _ _ h => ⟨c, h, rfl⟩⟩
  refine ⟨⟨fun id o hid => ?_, r.amb, fun x hx => r.dis x (own x hx), fun id id' o o' x h1 h2 a1 a2 e1 e2 => ?_, r.glk k⟩, k⟩
  · by_cases ha : o = .dead
    · subst ha; trivial
    · obtain ⟨g1, g2⟩ := get_dead hid ha
      have h0 := r.obj id o g2
      have hm : (ι.add st.length b) id = ι id := by simp [IM.add, Nat.ne_of_lt g1]
      cases o with
      | dead => trivial
      | box cells =>
        obtain ⟨b', vs, ty, e, hb', hl⟩ := h0
        exact ⟨b', vs, ty, hm.trans e, hb', hl.mono' k⟩
      | raw ob =>
        obtain ⟨b', e, hb'⟩ := h0
        exact ⟨b', hm.trans e, hb'⟩
      | arr sz els =>
        rcases h0 with ⟨e, he⟩ | ⟨b', c, ty, e, hb', h1, h2, h3⟩
        · exact .inl ⟨hm.trans e, he⟩
        · refine .inr ⟨b', c, ty, hm.trans e, hb', h1, h2, fun i e' j cv a1 a2 => ?_⟩
          obtain ⟨v, hv, hr⟩ := h3 i e' j cv a1 a2
          exact ⟨v, hv, k.pure hr⟩
  · obtain ⟨g1, g2⟩ := get_dead h1 a1
    obtain ⟨q1, q2⟩ := get_dead h2 a2
    simp only [IM.add, if_neg (Nat.ne_of_lt g1)] at e1
    simp only [IM.add, if_neg (Nat.ne_of_lt q1)] at e2
    exact r.inj id id' o o' x g2 q2 a1 a2 e1 e2

theorem Wrote.refl (w : World) (b : Nat) : Wrote w w b := ⟨rfl, rfl, rfl, rfl, fun _ _ => rfl, fun c _ _ h => ⟨c, h, rfl⟩⟩

/-- one cell of a box is seen in another way -/
theorem rebox {ι : IM} {w : World} (r : Rel ι w st) {id j : Nat} {cells : List CV} {c c' : CV} (hid : st[id]? = some (.box cells)) (hj : cells[j]? = some c) (h : ∀ v, VRel ι w st v c → VRel ι w st v c') :
    Rel ι w (st.set id (.box (cells.set j c'))) ∧ Keeps all ι w st ι w (st.set id (.box (cells.set j c'))) := by
  obtain ⟨b, vs, ty, e1, e2, e3⟩ := r.obj id _ hid
  have ha : Body.alive (.box cells) := by simp [Body.alive]
  have k := keeps_set (body' := .box (cells.set j c')) hid ha e1 (Wrote.refl w b)
  refine ⟨r.set hid ha e1 (Wrote.refl w b) ⟨b, vs, ty, e1, e2, ?_⟩, k⟩
  refine LRel.mono' k ⟨by simp [e3.1], fun i v d h1 h2 => ?_⟩
  by_cases e : i = j
  · subst e
    have hlt := (List.getElem?_eq_some_iff.1 hj).1
    rw [List.getElem?_set_self hlt] at h2
    cases h2
    exact h v (e3.2 i v c h1 hj)
  · rw [List.getElem?_set_ne (Ne.symm e)] at h2
    exact e3.2 i v d h1 h2

theorem FRel.same {ι ι' : IM} {w : World} {st' : St} {a : Act} (k : Keeps all ι w st ι' w st') (h : FRel n ι w st a fr) : FRel n ι' w st' a fr := h.mono' k

/-- what a box holds of a list that is about to move: a number of its own, without an object -/
theorem Sub.stale (bx j id sz off len : Nat) (cells : List CV) (hb : st[bx]? = some (.box cells)) (hj : cells[j]? = some (.sl id sz off len)) (st' : St) (hs : (st ++ [Body.dead]).set bx (.box (cells.set j (.sl st.length sz off len))) = st') :
    Sub n n0 loose fr st fr st' := by
  subst hs
  intro ι w a hR hF
  obtain ⟨r1, k1⟩ := dead_add (st := st) hR (ι id)
  have hlt := (List.getElem?_eq_some_iff.1 hb).1
  have hne : ∀ v, VRel (ι.add st.length (ι id)) w (st ++ [.dead]) v (.sl id sz off len) → VRel (ι.add st.length (ι id)) w (st ++ [.dead]) v (.sl st.length sz off len) := by
    intro v hv
    have hnew : (ι.add st.length (ι id)) st.length = ι id := by simp [IM.add]
    have hold : ∀ b, (ι.add st.length (ι id)) id = b → ι id = b := by
      intro b h
      by_cases e : id = st.length
      · simp [IM.add, e] at h; rw [e]; exact h
      · simpa [IM.add, e] using h
    cases hv with
    | sl _ _ _ _ b cap hid hb hcap hc => exact .sl st.length sz off len b cap (by simp) (hnew.trans (hold _ hb)) hcap hc
    | sn _ _ hid hb => exact .sn st.length sz (by simp) (hnew.trans (hold _ hb))
  obtain ⟨r2, k2⟩ := rebox r1 (id := bx) (j := j) (cells := cells) (by rw [List.getElem?_append_left hlt]; exact hb) hj hne
  have k := k1.trans k2
  exact ⟨_, r2, hF.mono' k, k.weaken (fun _ _ => trivial)⟩

/-- a nil slice in a box is taken for an empty list -/
theorem Sub.listb (bx j sz : Nat) (cells : List CV) (hb : st[bx]? = some (.box cells)) (hj : cells[j]? = some (.pv (.s (.slice none 0 0)))) (st' : St) (hs : (st ++ [Body.arr sz []]).set bx (.box (cells.set j (.sl st.length sz 0 0))) = st') :
    Sub n n0 loose fr st fr st' := by
  subst hs
  intro ι w a hR hF
  obtain ⟨r1, k1, hv0⟩ := row_nil (ι := ι) (w := w) (st := st) hR sz
  have hlt := (List.getElem?_eq_some_iff.1 hb).1
  have hne : ∀ v, VRel (ι.add st.length none) w (st ++ [.arr sz []]) v (.pv (.s (.slice none 0 0))) → VRel (ι.add st.length none) w (st ++ [.arr sz []]) v (.sl st.length sz 0 0) := by
    intro v hv
    have := scalar_of (AVRel.one _ _ hv)
    subst this
    exact hv0
  obtain ⟨r2, k2⟩ := rebox r1 (id := bx) (j := j) (cells := cells) (by rw [List.getElem?_append_left hlt]; exact hb) hj hne
  have k := k1.trans k2
  exact ⟨_, r2, hF.mono' k, k.weaken (fun _ _ => trivial)⟩

theorem Enc.cutMOk {α : Type} (E : Enc α) {xs : List α} {l h m : Int} (g : 0 ≤ l ∧ l ≤ h ∧ h ≤ m ∧ m ≤ (xs.length : Int)) : (0 ≤ l ∧ l ≤ h ∧ h ≤ m ∧ m ≤ ((E.els xs).length : Int)) ∧ elemsOk E.sz (E.els xs) :=
  ⟨by rw [E.len]; exact g, E.ok xs⟩

end
end Go.SX
