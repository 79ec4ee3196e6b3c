/- SX, second part: what happens to the relation when a block is laid, an object is made or changed. -/
import Derived.Test.YtdkmclmdemngfaaDoorSxDefs
namespace Go.SX
open Go
set_option linter.unusedVariables false
set_option linter.unusedSimpArgs false
set_option linter.unnecessarySimpa false

theorem heap_alloc_lt (w : World) (o : Obj) {b : Nat} (h : b < w.heap.size) : (w.alloc o).heap[b]? = w.heap[b]? := by
  show (w.heap.push o)[b]? = _
  rw [Array.getElem?_push, if_neg (by omega)]

theorem heap_alloc_at (w : World) (o : Obj) : (w.alloc o).heap[w.heap.size]? = some o := by
  show (w.heap.push o)[w.heap.size]? = _
  simp

theorem size_alloc (w : World) (o : Obj) : (w.alloc o).heap.size = w.heap.size + 1 := by
  show (w.heap.push o).size = _
  simp

theorem lt_of_some {w : World} {b : Nat} {o : Obj} (h : w.heap[b]? = some o) : b < w.heap.size := (Array.getElem?_eq_some_iff.1 h).1

theorem Rel.own_lt {ι : IM} {w : World} {st : St} (h : Rel ι w st) {b : Nat} (hm : Own ι st b) : b < w.heap.size := by
  obtain ⟨id, o, h1, h2, h3⟩ := hm
  have := h.obj id o h1
  cases o with
  | dead => exact absurd rfl h2
  | box cells =>
    obtain ⟨b', vs, ty, e, hb, _⟩ := this
    rw [h3] at e; cases e
    exact lt_of_some hb
  | raw ob =>
    obtain ⟨b', e, hb⟩ := this
    rw [h3] at e; cases e
    exact lt_of_some hb
  | arr sz els =>
    rcases this with ⟨e, _⟩ | ⟨b', c, ty, e, hb, _⟩
    · rw [h3] at e; cases e
    · rw [h3] at e; cases e
      exact lt_of_some hb

theorem Rel.mut_lt {ι : IM} {w : World} {st : St} (h : Rel ι w st) {b : Nat} (hm : Mut ι st b) : b < w.heap.size := by
  rcases hm with hm | hm
  · exact h.amb b hm
  · exact h.own_lt hm

/-- old blocks as they were -/
structure Ext (w w' : World) : Prop where
  os : w'.os = w.os
  tape : w'.tape = w.tape
  output : w'.output = w.output
  size : w.heap.size ≤ w'.heap.size
  blk : ∀ b : Nat, b < w.heap.size → w'.heap[b]? = w.heap[b]?

theorem Ext.refl (w : World) : Ext w w := ⟨rfl, rfl, rfl, Nat.le_refl _, fun _ _ => rfl⟩
theorem Ext.alloc (w : World) (o : Obj) : Ext w (w.alloc o) := ⟨rfl, rfl, rfl, by rw [size_alloc]; omega, fun b hb => heap_alloc_lt w o hb⟩
theorem Ext.drew (w : World) : Ext w w.drew := ⟨rfl, rfl, rfl, Nat.le_refl _, fun _ _ => rfl⟩
theorem Ext.trans {w w' w'' : World} (h : Ext w w') (k : Ext w' w'') : Ext w w'' :=
  ⟨k.os.trans h.os, k.tape.trans h.tape, k.output.trans h.output, Nat.le_trans h.size k.size, fun b hb => (k.blk b (Nat.lt_of_lt_of_le hb h.size)).trans (h.blk b hb)⟩

theorem Ext.keeps {w w' : World} (h : Ext w w') (ι : IM) (st : St) : Keeps all ι w st ι w' st :=
  ⟨h.os, h.tape, h.output, h.size, rfl, fun b hb hm => ⟨h.blk b hb, hm⟩, fun _ _ h => ⟨h, rfl⟩,
   fun b c ty fz hb => ⟨c, (h.blk b (lt_of_some hb)).trans hb, rfl⟩⟩

theorem ObjRel.ext {ι : IM} {w w' : World} {st : St} (h : Ext w w') {id : Nat} {o : Body} (ho : ObjRel ι w st id o) : ObjRel ι w' st id o := by
  have k := h.keeps ι st
  cases o with
  | dead => trivial
  | box cells =>
    obtain ⟨b, vs, ty, e, hb, hl⟩ := ho
    exact ⟨b, vs, ty, e, (h.blk b (lt_of_some hb)).trans hb, hl.mono' k⟩
  | raw ob =>
    obtain ⟨b, e, hb⟩ := ho
    exact ⟨b, e, (h.blk b (lt_of_some hb)).trans hb⟩
  | arr sz els =>
    rcases ho with ⟨e, he⟩ | ⟨b, c, ty, e, hb, h1, h2, h3⟩
    · exact .inl ⟨e, he⟩
    · refine .inr ⟨b, c, ty, e, (h.blk b (lt_of_some hb)).trans hb, h1, h2, fun i e' j cv a1 a2 => ?_⟩
      obtain ⟨v, hv, hr⟩ := h3 i e' j cv a1 a2
      exact ⟨v, hv, k.pure hr⟩

theorem Rel.ext {ι : IM} {w w' : World} {st : St} (h : Ext w w') (r : Rel ι w st) : Rel ι w' st :=
  ⟨fun id o ho => (r.obj id o ho).ext h, fun b hb => Nat.lt_of_lt_of_le (r.amb b hb) h.size, r.dis, r.inj, r.glk (h.keeps ι st)⟩

/-- a new object -/
def IM.add (ι : IM) (n : Nat) (b : Option Nat) : IM := ⟨fun id => if id = n then b else ι id, ι.amb⟩

theorem own_add {ι : IM} {st : St} {body : Body} {b : Option Nat} {x : Nat} (h : Own (ι.add st.length b) (st ++ [body]) x) : Own ι st x ∨ b = some x := by
  obtain ⟨id, o, h1, h2, h3⟩ := h
  by_cases hid : id < st.length
  · rw [List.getElem?_append_left hid] at h1
    simp only [IM.add, if_neg (Nat.ne_of_lt hid)] at h3
    exact .inl ⟨id, o, h1, h2, h3⟩
  · have : id = st.length := by
      have := (List.getElem?_eq_some_iff.1 h1).1
      simp at this
      omega
    subst this
    simp only [IM.add, if_true] at h3
    exact .inr h3

theorem keeps_add {ι : IM} {w w' : World} {st : St} (h : Ext w w') (body : Body) (b : Option Nat) (hb : ∀ x, b = some x → w.heap.size ≤ x) :
    Keeps all ι w st (ι.add st.length b) w' (st ++ [body]) :=
  ⟨h.os, h.tape, h.output, h.size, rfl, fun x hx hm => ⟨h.blk x hx, fun hm' => by
      rcases own_add hm' with h1 | h1
      · exact hm h1
      · have := hb x h1; omega⟩, fun id _ hid => ⟨by simp; omega, by simp [IM.add, Nat.ne_of_lt hid]⟩,
   fun b c ty fz hb => ⟨c, (h.blk b (lt_of_some hb)).trans hb, rfl⟩⟩

theorem Rel.add {ι : IM} {w w' : World} {st : St} (h : Ext w w') (r : Rel ι w st) {body : Body} {b : Option Nat} (hb : ∀ x, b = some x → w.heap.size ≤ x)
    (ho : ObjRel (ι.add st.length b) w' (st ++ [body]) st.length body) : Rel (ι.add st.length b) w' (st ++ [body]) := by
  have k := keeps_add (ι := ι) (st := st) h body b hb
  refine ⟨fun id o hid => ?_, fun b hb => Nat.lt_of_lt_of_le (r.amb b hb) h.size, fun x hx ha => by
    rcases own_add hx with h1 | h1
    · exact r.dis x h1 ha
    · have := hb x h1; have := r.amb x ha; omega, fun id id' o o' x h1 h2 a1 a2 e1 e2 => ?_, r.glk k⟩
  · by_cases hlt : id < st.length
    · rw [List.getElem?_append_left hlt] at hid
      have := r.obj id o hid
      have hm : (ι.add st.length b) id = ι id := by simp [IM.add, Nat.ne_of_lt hlt]
      cases o with
      | dead => trivial
      | box cells =>
        obtain ⟨b', vs, ty, e, hb', hl⟩ := this
        exact ⟨b', vs, ty, hm.trans e, (h.blk b' (lt_of_some hb')).trans hb', hl.mono' k⟩
      | raw ob =>
        obtain ⟨b', e, hb'⟩ := this
        exact ⟨b', hm.trans e, (h.blk b' (lt_of_some hb')).trans hb'⟩
      | arr sz els =>
        rcases this with ⟨e, he⟩ | ⟨b', c, ty, e, hb', h1, h2, h3⟩
        · exact .inl ⟨hm.trans e, he⟩
        · refine .inr ⟨b', c, ty, hm.trans e, (h.blk b' (lt_of_some hb')).trans hb', h1, h2, fun i e' j cv a1 a2 => ?_⟩
          obtain ⟨v, hv, hr⟩ := h3 i e' j cv a1 a2
          exact ⟨v, hv, k.pure hr⟩
    · have : id = st.length := by
        have := (List.getElem?_eq_some_iff.1 hid).1
        simp at this
        omega
      subst this
      simp at hid
      subst hid
      exact ho
  · have old : ∀ i o, (st ++ [body])[i]? = some o → o.alive → i < st.length → (ι.add st.length b) i = some x → x < w.heap.size := by
      intro i o hi ha hlt he
      rw [List.getElem?_append_left hlt] at hi
      simp only [IM.add, if_neg (Nat.ne_of_lt hlt)] at he
      exact r.own_lt ⟨i, o, hi, ha, he⟩
    have last : ∀ i (o : Body), (st ++ [body])[i]? = some o → ¬ i < st.length → i = st.length := by
      intro i o hi hn
      have := (List.getElem?_eq_some_iff.1 hi).1
      simp at this
      omega
    by_cases l1 : id < st.length <;> by_cases l2 : id' < st.length
    · rw [List.getElem?_append_left l1] at h1
      rw [List.getElem?_append_left l2] at h2
      simp only [IM.add, if_neg (Nat.ne_of_lt l1)] at e1
      simp only [IM.add, if_neg (Nat.ne_of_lt l2)] at e2
      exact r.inj id id' o o' x h1 h2 a1 a2 e1 e2
    · have := old id o h1 a1 l1 e1
      have e := last id' o' h2 l2
      subst e
      simp only [IM.add, if_true] at e2
      have := hb x e2
      omega
    · have := old id' o' h2 a2 l2 e2
      have e := last id o h1 l1
      subst e
      simp only [IM.add, if_true] at e1
      have := hb x e1
      omega
    · rw [last id o h1 l1, last id' o' h2 l2]

/-- one object's block is written -/
structure Wrote (w w' : World) (b : Nat) : Prop where
  os : w'.os = w.os
  tape : w'.tape = w.tape
  output : w'.output = w.output
  size : w'.heap.size = w.heap.size
  other : ∀ x : Nat, x ≠ b → w'.heap[x]? = w.heap[x]?
  shp : ∀ (c : Array Value) (ty : TypeId) (fz : Nat × Nat), w.heap[b]? = some (.cells c ty fz) → ∃ c' : Array Value, w'.heap[b]? = some (.cells c' ty fz) ∧ c'.size = c.size

theorem own_set {ι : IM} {st : St} {id : Nat} {body body' : Body} (hid : st[id]? = some body) (ha : body.alive) {x : Nat} (h : Own ι (st.set id body') x) : Own ι st x := by
  obtain ⟨i, o, h1, h2, h3⟩ := h
  by_cases e : i = id
  · subst e; exact ⟨i, body, hid, ha, h3⟩
  · rw [List.getElem?_set_ne (Ne.symm e)] at h1
    exact ⟨i, o, h1, h2, h3⟩

theorem keeps_set {ι : IM} {w w' : World} {st : St} {id b : Nat} {body body' : Body} (hid : st[id]? = some body) (ha : body.alive) (hb : ι id = some b) (h : Wrote w w' b) :
    Keeps all ι w st ι w' (st.set id body') :=
  ⟨h.os, h.tape, h.output, by rw [h.size]; omega, rfl, fun x _ hm => by
      have hne : x ≠ b := by rintro rfl; exact hm ⟨id, body, hid, ha, hb⟩
      exact ⟨h.other x hne, fun hm' => hm (own_set hid ha hm')⟩, fun _ _ h => ⟨by simpa using h, rfl⟩,
   fun x c ty fz hx => by
      by_cases e : x = b
      · subst e; exact h.shp c ty fz hx
      · exact ⟨c, (h.other x e).trans hx, rfl⟩⟩

theorem Rel.set {ι : IM} {w w' : World} {st : St} {id b : Nat} {body body' : Body} (r : Rel ι w st) (hid : st[id]? = some body) (ha : body.alive) (hb : ι id = some b) (h : Wrote w w' b)
    (ho : ObjRel ι w' (st.set id body') id body') : Rel ι w' (st.set id body') := by
  have k := keeps_set (body' := body') hid ha hb h
  refine ⟨fun i o hi => ?_, fun b hb => by rw [h.size]; exact r.amb b hb, fun x hx => r.dis x (own_set hid ha hx), fun i i' o o' x h1 h2 a1 a2 e1 e2 => ?_, r.glk k⟩
  · by_cases e : i = id
    · subst e
      have hlt := (List.getElem?_eq_some_iff.1 hid).1
      rw [List.getElem?_set_self hlt] at hi
      cases hi
      exact ho
    · rw [List.getElem?_set_ne (Ne.symm e)] at hi
      have := r.obj i o hi
      cases o with
      | dead => trivial
      | box cells =>
        obtain ⟨b', vs, ty, e', hb', hl⟩ := this
        have hne : b' ≠ b := by rintro rfl; exact e (r.inj i id _ _ _ hi hid (by simp [Body.alive]) ha e' hb)
        exact ⟨b', vs, ty, e', (h.other b' hne).trans hb', hl.mono' k⟩
      | raw ob =>
        obtain ⟨b', e', hb'⟩ := this
        have hne : b' ≠ b := by rintro rfl; exact e (r.inj i id _ _ _ hi hid (by simp [Body.alive]) ha e' hb)
        exact ⟨b', e', (h.other b' hne).trans hb'⟩
      | arr sz els =>
        rcases this with ⟨e', he⟩ | ⟨b', c, ty, e', hb', h1, h2, h3⟩
        · exact .inl ⟨e', he⟩
        · have hne : b' ≠ b := by rintro rfl; exact e (r.inj i id _ _ _ hi hid (by simp [Body.alive]) ha e' hb)
          refine .inr ⟨b', c, ty, e', (h.other b' hne).trans hb', h1, h2, fun i e' j cv a1 a2 => ?_⟩
          obtain ⟨v, hv, hr⟩ := h3 i e' j cv a1 a2
          exact ⟨v, hv, k.pure hr⟩
  · have conv : ∀ (j : Nat) (o : Body), (st.set id body')[j]? = some o → o.alive → ∃ q : Body, st[j]? = some q ∧ q.alive := by
      intro j o hj hja
      by_cases e : j = id
      · subst e; exact ⟨body, hid, ha⟩
      · rw [List.getElem?_set_ne (Ne.symm e)] at hj
        exact ⟨o, hj, hja⟩
    obtain ⟨q1, z1, y1⟩ := conv i o h1 a1
    obtain ⟨q2, z2, y2⟩ := conv i' o' h2 a2
    exact r.inj i i' q1 q2 x z1 z2 y1 y2 e1 e2

/-- an object dies -/
theorem Rel.kill {ι : IM} {w : World} {st : St} (r : Rel ι w st) (id : Nat) : Rel ι w (st.set id .dead) ∧ Keeps all ι w st ι w (st.set id .dead) := by
  have k : Keeps all ι w st ι w (st.set id .dead) := by
    refine ⟨rfl, rfl, rfl, Nat.le_refl _, rfl, fun b _ hm => ⟨rfl, fun hm' => hm ?_⟩, fun _ _ h => ⟨by simpa using h, rfl⟩, fun _ c _ _ h => ⟨c, h, rfl⟩⟩
    obtain ⟨i, o, h1, h2, h3⟩ := hm'
    by_cases e : i = id
    · subst e
      by_cases hlt : i < st.length
      · rw [List.getElem?_set_self hlt] at h1; cases h1; exact absurd rfl h2
      · rw [List.set_eq_of_length_le (by omega)] at h1; exact ⟨i, o, h1, h2, h3⟩
    · rw [List.getElem?_set_ne (Ne.symm e)] at h1
      exact ⟨i, o, h1, h2, h3⟩
  refine ⟨⟨fun i o hi => ?_, r.amb, fun x hx => ?_, fun i i' o o' x h1 h2 a1 a2 e1 e2 => ?_, r.glk k⟩, k⟩
  rotate_left
  · obtain ⟨i, o, h1, h2, h3⟩ := hx
    refine r.dis x ?_
    by_cases e : i = id
    · subst e
      by_cases hlt : i < st.length
      · rw [List.getElem?_set_self hlt] at h1; cases h1; exact absurd rfl h2
      · rw [List.set_eq_of_length_le (by omega)] at h1; exact ⟨i, o, h1, h2, h3⟩
    · rw [List.getElem?_set_ne (Ne.symm e)] at h1
      exact ⟨i, o, h1, h2, h3⟩
  rotate_left
  · by_cases e : i = id ∧ i < st.length
    · obtain ⟨rfl, hlt⟩ := e
      rw [List.getElem?_set_self hlt] at hi; cases hi; trivial
    · have hi' : st[i]? = some o := by
        by_cases e' : i = id
        · have hn : ¬ i < st.length := fun h => e ⟨e', h⟩
          subst e'
          rwa [List.set_eq_of_length_le (by omega)] at hi
        · rwa [List.getElem?_set_ne (Ne.symm e')] at hi
      have := r.obj i o hi'
      cases o with
      | dead => trivial
      | box cells =>
        obtain ⟨b', vs, ty, e', hb', hl⟩ := this
        exact ⟨b', vs, ty, e', hb', hl.mono' k⟩
      | raw ob =>
        obtain ⟨b', e', hb'⟩ := this
        exact ⟨b', e', hb'⟩
      | arr sz els =>
        rcases this with ⟨e', he⟩ | ⟨b', c, ty, e', hb', h1, h2, h3⟩
        · exact .inl ⟨e', he⟩
        · refine .inr ⟨b', c, ty, e', hb', h1, h2, fun i e' j cv a1 a2 => ?_⟩
          obtain ⟨v, hv, hr⟩ := h3 i e' j cv a1 a2
          exact ⟨v, hv, k.pure hr⟩
  · have conv : ∀ (j : Nat) (o : Body), (st.set id .dead)[j]? = some o → o.alive → st[j]? = some o := by
      intro j o hj hja
      by_cases e : j = id
      · subst e
        by_cases hlt : j < st.length
        · rw [List.getElem?_set_self hlt] at hj; cases hj; exact absurd rfl hja
        · rwa [List.set_eq_of_length_le (by omega)] at hj
      · rwa [List.getElem?_set_ne (Ne.symm e)] at hj
    exact r.inj i i' o o' x (conv i o h1 a1) (conv i' o' h2 a2) a1 a2 e1 e2

end Go.SX
