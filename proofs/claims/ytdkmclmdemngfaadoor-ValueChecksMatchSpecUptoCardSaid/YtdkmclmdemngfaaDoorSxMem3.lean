/- SX, sixth part: arrays: literals, make, slices, addresses, append. -/
import Derived.Test.YtdkmclmdemngfaaDoorSxMem2
namespace Go.SX
open Go
set_option linter.unusedVariables false
set_option linter.unusedSimpArgs false
set_option linter.unnecessarySimpa false

variable {P : Program} {ι : IM} {w : World} {st : St}

/-- cells cut into elements -/
def chunk (sz : Nat) : Nat → List PV → List (List PV)
  | 0, _ => []
  | n + 1, l => l.take sz :: chunk sz n (l.drop sz)

theorem chunk_length (sz : Nat) : ∀ n l, (chunk sz n l).length = n
  | 0, _ => rfl
  | n + 1, l => by simp [chunk, chunk_length sz n]

theorem chunk_mem (sz : Nat) : ∀ n l, n * sz ≤ l.length → ∀ e ∈ chunk sz n l, e.length = sz
  | 0, _, _, e, h => by simp [chunk] at h
  | n + 1, l, hl, e, h => by
    rw [Nat.add_mul, Nat.one_mul] at hl
    simp only [chunk, List.mem_cons] at h
    rcases h with rfl | h
    · simp; omega
    · exact chunk_mem sz n _ (by simp; omega) e h

theorem chunk_get (sz : Nat) : ∀ n l, n * sz ≤ l.length → ∀ i e j c, (chunk sz n l)[i]? = some e → e[j]? = some c → l[i * sz + j]? = some c
  | 0, _, _, i, e, j, c, h, _ => by simp [chunk] at h
  | n + 1, l, hl, i, e, j, c, h, h2 => by
    rw [Nat.add_mul, Nat.one_mul] at hl
    cases i with
    | zero =>
      simp only [chunk, List.getElem?_cons_zero, Option.some.injEq] at h
      subst h
      rw [List.getElem?_take] at h2
      split at h2
      · simpa using h2
      · cases h2
    | succ i =>
      simp only [chunk, List.getElem?_cons_succ] at h
      have := chunk_get sz n (l.drop sz) (by simp; omega) i e j c h h2
      rw [List.getElem?_drop] at this
      rw [Nat.add_mul, Nat.one_mul, ← this]
      congr 1
      omega

/-- a new row of elements, read-only -/
theorem row_ro {c : Array Value} {els : List (List PV)} {sz cap : Nat} {w' : World} {b : Nat} (hx : Ext w w') (r : Rel ι w st) (ty : TypeId) (fz : Nat × Nat) (hb : w.heap.size ≤ b) (hw : w'.heap[b]? = some (.cells c ty fz))
    (hcap : els.length ≤ cap) (hsz : ∀ e ∈ els, e.length = sz)
    (hc : ∀ (i : Nat) e (j : Nat) cv, els[i]? = some e → e[j]? = some cv → ∃ v, c[i * sz + j]? = some v ∧ PRel (Mut ι st) w v cv) :
    Rel ι w' st ∧ Keeps all ι w st ι w' st ∧ VRel ι w' st (.slice (some ⟨b, 0, none⟩) els.length cap) (.pv (.ro els)) := by
  have k := hx.keeps ι st
  refine ⟨r.ext hx, k, ?_⟩
  refine VRel.pv _ _ (PRel.ro ⟨b, 0, none⟩ cap sz els (fun i j => c.getD (i * sz + j) undef) hcap hsz (fun _ => ⟨lt_of_some hw, fun hm => by have := r.mut_lt hm; simp at this; omega⟩) ?_ ?_)
  · intro i e j cv h1 h2
    obtain ⟨v, a1, a2⟩ := hc i e j cv h1 h2
    rw [add_lit, cell_lit hw]
    simp [a1]
  · intro i e j cv h1 h2
    obtain ⟨v, a1, a2⟩ := hc i e j cv h1 h2
    have : c.getD (i * sz + j) undef = v := by simp [a1]
    rw [this]
    exact k.pure a2

/-- a new row of elements, mutable -/
theorem row_mut {c : Array Value} {els : List (List PV)} {sz cap : Nat} {w' : World} {b : Nat} (hx : Ext w w') (r : Rel ι w st) (ty : TypeId) (hb : w.heap.size ≤ b) (hw : w'.heap[b]? = some (.cells c ty (0, 0)))
    (hcap : els.length ≤ cap) (hcs : cap * sz ≤ c.size) (hsz : ∀ e ∈ els, e.length = sz)
    (hc : ∀ (i : Nat) e (j : Nat) cv, els[i]? = some e → e[j]? = some cv → ∃ v, c[i * sz + j]? = some v ∧ PRel (Mut ι st) w v cv) :
    Rel (ι.add st.length (some b)) w' (st ++ [.arr sz els]) ∧ Keeps all ι w st (ι.add st.length (some b)) w' (st ++ [.arr sz els]) ∧
    VRel (ι.add st.length (some b)) w' (st ++ [.arr sz els]) (.slice (some ⟨b, 0, none⟩) els.length cap) (.sl st.length sz 0 els.length) := by
  have hb' : ∀ x, some b = some x → w.heap.size ≤ x := by intro x h; cases h; exact hb
  have k := keeps_add (ι := ι) (st := st) hx (.arr sz els) (some b) hb'
  have hid : (ι.add st.length (some b)) st.length = some b := by simp [IM.add]
  have hle : els.length * sz ≤ cap * sz := Nat.mul_le_mul_right sz hcap
  refine ⟨r.add hx hb' (.inr ⟨b, c, ty, hid, hw, by omega, hsz, ?_⟩), k, ?_⟩
  · intro i e j cv h1 h2
    obtain ⟨v, a1, a2⟩ := hc i e j cv h1 h2
    exact ⟨v, a1, k.pure a2⟩
  · have := VRel.sl (ι := ι.add st.length (some b)) (w := w') (st := st ++ [.arr sz els]) st.length sz 0 els.length b cap (by simp) hid hcap ⟨c, ty, (0, 0), hw, by simpa using hcs⟩
    simpa using this

/-- a new list, empty, of which nothing lies in memory -/
theorem row_nil (r : Rel ι w st) (sz : Nat) :
    Rel (ι.add st.length none) w (st ++ [.arr sz []]) ∧ Keeps all ι w st (ι.add st.length none) w (st ++ [.arr sz []]) ∧
    VRel (ι.add st.length none) w (st ++ [.arr sz []]) (.slice none 0 0) (.sl st.length sz 0 0) := by
  have hb : ∀ x, (none : Option Nat) = some x → w.heap.size ≤ x := by intro x h; cases h
  have k := keeps_add (ι := ι) (st := st) (Ext.refl w) (.arr sz []) none hb
  have hid : (ι.add st.length none) st.length = none := by simp [IM.add]
  exact ⟨r.add (Ext.refl w) hb (.inl ⟨hid, rfl⟩), k, .sn st.length sz (by simp) hid⟩

/-! ### what a slice holds -/

/-- the elements that a value reads as -/
def rdEls (st : St) : CV → Option (List (List PV))
  | .pv (.ro els) => some els
  | .pv (.s (.slice none 0 0)) => some []
  | .sl id sz off len =>
    match st[id]? with
    | some (.arr sz' els) => bif Nat.beq sz sz' && Nat.ble (off + len) els.length then some ((els.drop off).take len) else none
    | _ => none
  | _ => none

/-- the length of a slice -/
def lenCV : CV → Option Nat
  | .pv (.ro els) => some els.length
  | .pv (.s (.slice none 0 0)) => some 0
  | .sl _ _ _ len => some len
  | _ => none

/-- a value that reads as elements: its cells -/
structure Reads (P : Program) (ι : IM) (w : World) (st : St) (sz : Nat) (v : Value) (els : List (List PV)) (vs : List Value) : Prop where
  shape : (v = .slice none 0 0 ∧ els = []) ∨ ∃ a cap, v = .slice (some a) els.length cap ∧ els.length ≤ cap ∧ (∀ (j : Nat) u, vs[j]? = some u → w.cell? (a.add j) = some u)
  len : vs.length = els.length * sz
  each : ∀ (i : Nat) e (j : Nat) c, els[i]? = some e → e[j]? = some c → ∃ u, vs[i * sz + j]? = some u ∧ PRel (Mut ι st) w u c
  one : ∀ u ∈ vs, u.oneCell' = true

theorem flat_get {els : List (List PV)} {sz : Nat} (hsz : ∀ e ∈ els, e.length = sz) {q : Nat} (hq : q < els.length * sz) : ∃ i e j c, els[i]? = some e ∧ e[j]? = some c ∧ q = i * sz + j := by
  have hs : 0 < sz := by
    rcases Nat.eq_zero_or_pos sz with h | h
    · subst h; simp at hq
    · exact h
  have hi : q / sz < els.length := by rw [Nat.div_lt_iff_lt_mul hs]; exact hq
  have hj : q % sz < sz := Nat.mod_lt _ hs
  refine ⟨q / sz, els[q / sz], q % sz, (els[q / sz])[q % sz]'(by rw [hsz _ (List.getElem_mem hi)]; exact hj), List.getElem?_eq_getElem hi, List.getElem?_eq_getElem _, ?_⟩
  have := Nat.div_add_mod q sz
  rw [Nat.mul_comm] at this
  omega

/-- from the cells of the elements to the list of cells -/
theorem reads_mk {v : Value} {els : List (List PV)} {sz : Nat} {a : Addr} {cap : Nat} (hv : v = .slice (some a) els.length cap) (hcap : els.length ≤ cap) (hsz : ∀ e ∈ els, e.length = sz)
    (hc : ∀ (i : Nat) e (j : Nat) c, els[i]? = some e → e[j]? = some c → ∃ u, w.cell? (a.add (i * sz + j)) = some u ∧ PRel (Mut ι st) w u c) : ∃ vs, Reads P ι w st sz v els vs := by
  refine ⟨(List.range (els.length * sz)).map fun q => (w.cell? (a.add q)).getD undef, .inr ⟨a, cap, hv, hcap, ?_⟩, by simp, ?_, ?_⟩
  · intro j u h
    have hj : j < els.length * sz := by simpa using (List.getElem?_eq_some_iff.1 h).1
    obtain ⟨i, e, j', c, h1, h2, rfl⟩ := flat_get hsz hj
    obtain ⟨u', a1, _⟩ := hc i e j' c h1 h2
    simp [hj, a1] at h
    rw [a1, h]
  · intro i e j c h1 h2
    obtain ⟨u, a1, a2⟩ := hc i e j c h1 h2
    have hi : i < els.length := (List.getElem?_eq_some_iff.1 h1).1
    have hj : j < sz := by rw [← hsz e (List.mem_of_getElem? h1)]; exact (List.getElem?_eq_some_iff.1 h2).1
    have hlt : i * sz + j < els.length * sz := by
      have : (i + 1) * sz ≤ els.length * sz := Nat.mul_le_mul_right sz hi
      rw [Nat.add_mul, Nat.one_mul] at this
      omega
    exact ⟨u, by simp [hlt, a1], a2⟩
  · intro u hu
    simp only [List.mem_map, List.mem_range] at hu
    obtain ⟨q, hq, rfl⟩ := hu
    obtain ⟨i, e, j', c, h1, h2, rfl⟩ := flat_get hsz hq
    obtain ⟨u', a1, a2⟩ := hc i e j' c h1 h2
    simp [a1, a2.oneCell]

theorem rd_sound {c : CV} {els : List (List PV)} (h : rdEls st c = some els) (r : Rel ι w st) {v : Value} (hv : VRel ι w st v c) {sz : Nat} (hs : ∀ e ∈ els, e.length = sz) : ∃ vs, Reads P ι w st sz v els vs := by
  cases hv with
  | pv _ p hp =>
    cases hp with
    | s _ hp =>
      cases v <;> try (simp [rdEls] at h; done)
      rename_i a n m
      cases a with
      | some a => simp [plain] at hp
      | none =>
        cases n <;> cases m <;> simp [plain] at hp
        simp [rdEls] at h
        subst h
        exact ⟨[], .inl ⟨rfl, rfl⟩, by simp, fun i e j c h => by simp at h, fun u hu => by cases hu⟩
    | nl =>
      simp [rdEls] at h; subst h
      exact ⟨[], .inl ⟨rfl, rfl⟩, by simp, fun i e j c h => by simp at h, fun u hu => by cases hu⟩
    | ro a cap sz' els' vf hcap hsz hb hc hvv =>
      simp only [rdEls, Option.some.injEq] at h
      subst h
      cases els' with
      | nil => exact reads_mk rfl hcap (by simp) (fun i e j c h => by simp at h)
      | cons e0 rest =>
        have : sz' = sz := by rw [← hsz e0 (by simp), ← hs e0 (by simp)]
        subst this
        exact reads_mk rfl hcap hsz (fun i e j c h1 h2 => ⟨vf i j, hc i e j c h1 h2, hvv i e j c h1 h2⟩)
    | rp => simp [rdEls] at h
    | fn => simp [rdEls] at h
  | pt => simp [rdEls] at h
  | mp => simp [rdEls] at h
  | fn => simp [rdEls] at h
  | sn id sz' hid hb =>
    simp only [rdEls] at h
    cases hs0 : st[id]? with
    | none => simp [hs0] at h
    | some body =>
      cases body with
      | dead => simp [hs0] at h
      | box => simp [hs0] at h
      | raw => simp [hs0] at h
      | arr sz'' els' =>
        simp only [hs0] at h
        cases hz : (Nat.beq sz' sz'' && Nat.ble (0 + 0) els'.length) with
        | false => simp [hz] at h
        | true =>
          simp [hz] at h
          subst h
          exact ⟨[], .inl ⟨rfl, rfl⟩, by simp, fun i e j c h => by simp at h, fun u hu => by cases hu⟩
  | sl id sz' off len b cap hid hb hcap hc =>
    simp only [rdEls] at h
    cases hs0 : st[id]? with
    | none => simp [hs0] at h
    | some body =>
      cases body with
      | dead => simp [hs0] at h
      | box => simp [hs0] at h
      | raw => simp [hs0] at h
      | arr sz'' els' =>
        simp only [hs0] at h
        cases hz : (Nat.beq sz' sz'' && Nat.ble (off + len) els'.length) with
        | false => simp [hz] at h
        | true =>
          simp only [hz, cond_true, Option.some.injEq] at h
          simp only [Bool.and_eq_true] at hz
          have hz0 := Nat.eq_of_beq_eq_true hz.1
          have hle := Nat.le_of_ble_eq_true hz.2
          subst hz0
          subst h
          have hlen : ((els'.drop off).take len).length = len := by simp; omega
          rcases r.obj id _ hs0 with ⟨e1, he⟩ | ⟨b', c, ty, e1, e2, hcs, hsz, hcell⟩
          · rw [hb] at e1; cases e1
          · rw [hb] at e1; cases e1
            cases hel : (els'.drop off).take len with
            | nil =>
              rw [hel] at hlen
              simp at hlen
              subst hlen
              exact reads_mk rfl (by simp) (by simp) (fun i e j c h => by simp at h)
            | cons e0 rest =>
              have hmem : e0 ∈ els' := by
                have : e0 ∈ (els'.drop off).take len := by rw [hel]; simp
                exact List.mem_of_mem_drop (List.mem_of_mem_take this)
              have hss : sz' = sz := by
                rw [← hsz e0 hmem, ← hs e0 (by rw [hel]; simp)]
              subst hss
              rw [← hel]
              have := reads_mk (P := P) (ι := ι) (w := w) (st := st) (v := .slice (some ⟨b, off * sz', none⟩) len cap) (els := (els'.drop off).take len) (sz := sz') (a := ⟨b, off * sz', none⟩) (cap := cap) (by rw [hlen]) (by omega)
                (fun e he => hsz e (List.mem_of_mem_drop (List.mem_of_mem_take he)))
                (fun i e j c' h1 h2 => by
                  rw [List.getElem?_take] at h1
                  split at h1
                  · rw [List.getElem?_drop] at h1
                    obtain ⟨u, a1, a2⟩ := hcell _ e j c' h1 h2
                    refine ⟨u, ?_, a2⟩
                    rw [add_lit, cell_lit e2, ← a1]
                    congr 1
                    rw [Nat.add_mul]; omega
                  · cases h1)
              exact this

end Go.SX
