/- SX, fifth part: stores, new blocks, literals, addresses. -/
import Derived.Test.YtdkmclmdemngfaaDoorSxMem
namespace Go.SX
open Go
set_option linter.unusedVariables false
set_option linter.unusedSimpArgs false
set_option linter.unnecessarySimpa false

variable {P : Program} {ι : IM} {w : World} {st : St}

theorem get_splice {α : Type} (l vs : List α) (o k : Nat) (h : o + vs.length ≤ l.length) :
    (l.take o ++ (vs ++ l.drop (o + vs.length)))[k]? = if k < o then l[k]? else if k < o + vs.length then vs[k - o]? else l[k]? := by
  have ho : min o l.length = o := by omega
  by_cases h1 : k < o
  · rw [List.getElem?_append_left (by simp; omega), if_pos h1, List.getElem?_take, if_pos h1]
  · rw [List.getElem?_append_right (by simp; omega), if_neg h1]
    simp only [List.length_take, ho]
    by_cases h2 : k < o + vs.length
    · rw [List.getElem?_append_left (by omega), if_pos h2]
    · rw [List.getElem?_append_right (by omega), if_neg h2, List.getElem?_drop]
      congr 1
      omega

theorem wrote_setRow {g : Nat} {c arr : Array Value} {ty : TypeId} {fz : Nat × Nat} (hg : w.heap[g]? = some (.cells c ty fz)) (hs : arr.size = c.size) : Wrote w (w.setRow g arr) g :=
  ⟨rfl, rfl, rfl, by simp [World.setRow], fun x hx => setRow_other w g x arr hx, fun c' ty' fz' h => by
    rw [hg] at h; cases h
    exact ⟨arr, setRow_heap w g c arr ty fz hg, hs⟩⟩

/-- cells that are all pure -/
def unpv : List CV → Option (List PV)
  | [] => some []
  | .pv p :: l => match unpv l with
    | some r => some (p :: r)
    | none => none
  | _ :: _ => none

theorem unpv_eq : ∀ {cs : List CV} {ps : List PV}, unpv cs = some ps → cs = ps.map CV.pv
  | [], ps, h => by simp [unpv] at h; subst h; rfl
  | .pv p :: l, ps, h => by
    simp only [unpv] at h
    cases h1 : unpv l with
    | none => simp [h1] at h
    | some r => simp [h1] at h; subst h; simp [unpv_eq h1]
  | .pt _ _ _ _ :: l, ps, h => by simp [unpv] at h
  | .sl _ _ _ _ :: l, ps, h => by simp [unpv] at h
  | .fn _ _ :: l, ps, h => by simp [unpv] at h

theorem pure_of {v : Value} {p : PV} (h : VRel ι w st v (.pv p)) : PRel (Mut ι st) w v p := by
  cases h; assumption

def stAt (P : Program) (t : TypeId) (c : CV) (vcs : List CV) (st : St) (hs : HS) : Option Out :=
  match tsz P t with
  | some n =>
    bif Nat.beq vcs.length n then
      match c with
      | .pt id sz i off =>
        match st[id]? with
        | some (.box cells) =>
          bif Nat.beq sz 0 && Nat.ble (off + n) cells.length then some ⟨.j, st.set id (.box (cells.take off ++ (vcs ++ cells.drop (off + n)))), [], hs, none⟩ else none
        | some (.arr sz' els) =>
          match hs, unpv vcs with
          | e :: hs', some ps =>
            bif Nat.beq sz sz' && Nat.ble (off + n) e.length then
              some ⟨.j, st.set id (.arr sz (els.set i (e.take off ++ (ps ++ e.drop (off + n))))), [els[i]? = some e], hs', none⟩
            else none
          | _, _ => none
        | _ => none
      | _ => none
    else none
  | none => none

theorem run_storeAt {t : TypeId} {n : Nat} (hn : tsz P t = some n) {b o : Nat} {c : Array Value} {ty : TypeId} {x : Value} (hl : x.cells.size = n)
    (hb : w.heap[b]? = some (.cells c ty (0, 0))) (hfit : o + n ≤ c.size) (h1 : ∀ v ∈ x.cells.toList, v.oneCell' = true) :
    (Instr.storeAt t (.pointer (some ⟨b, o, none⟩)) x).run P w = .ok () (w.setRow b (c.toList.take o ++ x.cells.toList ++ c.toList.drop (o + x.cells.toList.length)).toArray) := by
  have := run_storeCells_at P b o ty x.cells.toList 0 c w hb (by simp; omega) h1
  simp only [Nat.add_zero] at this
  simp only [Instr.storeAt, Instr.sureAddr, storeVar, Sem.run_bind, Sem.run_pure, Result.andThen_ok, run_sizeOf hn, hl, ne_eq, not_true_eq_false, if_false]
  exact this

theorem mul_lt_step {i i' sz j : Nat} (h : i' < i) (hj : j < sz) : i' * sz + j < i * sz := by
  have : (i' + 1) * sz ≤ i * sz := Nat.mul_le_mul_right sz h
  rw [Nat.add_mul, Nat.one_mul] at this
  omega

theorem stAt_sound {t : TypeId} {c : CV} {vcs : List CV} {hs : HS} {out : Out} (h : stAt P t c vcs st hs = some out) (hob : AllP out.ob) (r : Rel ι w st) {v x : Value} (hv : VRel ι w st v c)
    (hx : LRel ι w st x.cells.toList vcs) : ∃ w', (Instr.storeAt t v x).run P w = .ok () w' ∧ Rel ι w' out.st ∧ Keeps all ι w st ι w' out.st ∧ out.av = .j ∧ out.mv = none := by
  unfold stAt at h
  cases hn : tsz P t with
  | none => simp [hn] at h
  | some n =>
    simp only [hn] at h
    cases hbl : Nat.beq vcs.length n with
    | false => simp [hbl] at h
    | true =>
      have hvl := Nat.eq_of_beq_eq_true hbl
      simp only [hbl, cond_true] at h
      have hxl : x.cells.size = n := by have := hx.1; simp at this; omega
      cases hv with
      | pv => simp at h
      | sl => simp at h
      | sn => simp at h
      | fn => simp at h
      | mp => simp at h
      | pt id sz i off b hid hb =>
        simp only at h
        cases hs0 : st[id]? with
        | none => simp [hs0] at h
        | some body =>
          cases body with
          | dead => simp [hs0] at h
          | raw => simp [hs0] at h
          | box cells =>
            simp only [hs0] at h
            cases hz : (Nat.beq sz 0 && Nat.ble (off + n) cells.length) with
            | false => simp [hz] at h
            | true =>
              simp only [hz, cond_true] at h
              cases h
              simp only [Bool.and_eq_true] at hz
              have hz0 := Nat.eq_of_beq_eq_true hz.1
              have hle := Nat.le_of_ble_eq_true hz.2
              subst hz0
              obtain ⟨b', vs, ty, e1, e2, hl⟩ := r.obj id _ hs0
              rw [hb] at e1; cases e1
              have hvsl : vs.length = cells.length := hl.1
              have hrun := run_storeAt (P := P) (w := w) hn (b := b) (o := i * 0 + off) (x := x) hxl e2 (by simp; omega) hx.oneCell
              have hw := wrote_setRow (w := w) (arr := (vs.toArray.toList.take (i * 0 + off) ++ x.cells.toList ++ vs.toArray.toList.drop (i * 0 + off + x.cells.toList.length)).toArray) e2 (by simp; omega)
              have ha : Body.alive (.box cells) := by simp [Body.alive]
              have k := keeps_set (body' := .box (cells.take off ++ (vcs ++ cells.drop (off + n)))) hs0 ha hb hw
              refine ⟨_, hrun, r.set hs0 ha hb hw ?_, k, rfl, rfl⟩
              refine ⟨b, _, ty, hb, setRow_heap w b _ _ ty _ e2, ?_⟩
              have hL := LRel.mono' k ((hl.take off).append (hx.append (hl.drop (off + n))))
              simpa [hxl] using hL
          | arr sz' els =>
            simp only [hs0] at h
            cases hs with
            | nil => simp at h
            | cons e hs' =>
              cases hps : unpv vcs with
              | none => simp [hps] at h
              | some ps =>
              have hpe := unpv_eq hps
              subst hpe
              simp only [List.length_map] at hvl
              simp only [hps] at h
              cases hz : (Nat.beq sz sz' && Nat.ble (off + n) e.length) with
              | false => simp [hz] at h
              | true =>
                simp only [hz, cond_true] at h
                cases h
                simp only [Bool.and_eq_true] at hz
                have hz0 := Nat.eq_of_beq_eq_true hz.1
                have hle := Nat.le_of_ble_eq_true hz.2
                subst hz0
                have hob := hob.1
                rcases r.obj id _ hs0 with ⟨e1, he⟩ | ⟨b', c, ty, e1, e2, hcs, hsz, hcell⟩
                · subst he; simp at hob
                · rw [hb] at e1; cases e1
                  have hel : e.length = sz := hsz e (List.mem_of_getElem? hob)
                  have hilt : i < els.length := (List.getElem?_eq_some_iff.1 hob).1
                  have hfit : i * sz + sz ≤ c.size := by
                    have : (i + 1) * sz ≤ els.length * sz := Nat.mul_le_mul_right sz hilt
                    rw [Nat.add_mul, Nat.one_mul] at this
                    omega
                  have hrun := run_storeAt (P := P) (w := w) hn (b := b) (o := i * sz + off) (x := x) hxl e2 (by omega) hx.oneCell
                  have hw := wrote_setRow (w := w) (arr := (c.toList.take (i * sz + off) ++ x.cells.toList ++ c.toList.drop (i * sz + off + x.cells.toList.length)).toArray) e2 (by simp; omega)
                  have ha : Body.alive (.arr sz els) := by simp [Body.alive]
                  have k := keeps_set (body' := .arr sz (els.set i (e.take off ++ (ps ++ e.drop (off + n))))) hs0 ha hb hw
                  refine ⟨_, hrun, r.set hs0 ha hb hw ?_, k, rfl, rfl⟩
                  refine .inr ⟨b, _, ty, hb, setRow_heap w b _ _ ty _ e2, ?_, ?_, ?_⟩
                  · simp [hxl]; omega
                  · intro e' he'
                    rcases List.mem_or_eq_of_mem_set he' with h1 | h1
                    · exact hsz e' h1
                    · subst h1; simp; omega
                  · intro i' e' j cv h1 h2
                    have hget : ∀ q, (c.toList.take (i * sz + off) ++ x.cells.toList ++ c.toList.drop (i * sz + off + x.cells.toList.length)).toArray[q]? =
                        if q < i * sz + off then c[q]? else if q < i * sz + off + n then x.cells[q - (i * sz + off)]? else c[q]? := by
                      intro q
                      have := get_splice c.toList x.cells.toList (i * sz + off) q (by simp [hxl]; omega)
                      simp only [List.append_assoc, List.getElem?_toArray]
                      rw [this]
                      simp [hxl]
                    rw [hget]
                    by_cases hi : i' = i
                    · subst hi
                      rw [List.getElem?_set_self hilt] at h1
                      cases h1
                      have := get_splice e ps off j (by omega)
                      rw [hvl] at this
                      rw [this] at h2
                      by_cases q1 : j < off
                      · rw [if_pos q1] at h2
                        rw [if_pos (by omega)]
                        obtain ⟨v, a1, a2⟩ := hcell i' e j cv hob h2
                        exact ⟨v, a1, k.pure a2⟩
                      · rw [if_neg q1] at h2
                        rw [if_neg (by omega)]
                        by_cases q2 : j < off + n
                        · rw [if_pos q2] at h2
                          rw [if_pos (by omega)]
                          have hlt : j - off < x.cells.toList.length := by simp; omega
                          have e3 : x.cells[i' * sz + j - (i' * sz + off)]? = some (x.cells.toList[j - off]) := by
                            rw [show i' * sz + j - (i' * sz + off) = j - off by omega]
                            simp at hlt
                            simp [hlt]
                          exact ⟨_, e3, k.pure (pure_of (hx.2 (j - off) _ (.pv cv) (List.getElem?_eq_getElem hlt) (by simp [h2])))⟩
                        · rw [if_neg q2] at h2
                          rw [if_neg (by omega)]
                          obtain ⟨v, a1, a2⟩ := hcell i' e j cv hob h2
                          exact ⟨v, a1, k.pure a2⟩
                    · rw [List.getElem?_set_ne (Ne.symm hi)] at h1
                      obtain ⟨v, a1, a2⟩ := hcell i' e' j cv h1 h2
                      have hj : j < sz := by rw [← hsz e' (List.mem_of_getElem? h1)]; exact (List.getElem?_eq_some_iff.1 h2).1
                      refine ⟨v, ?_, k.pure a2⟩
                      rcases Nat.lt_or_gt_of_ne hi with hlt | hgt
                      · have := mul_lt_step hlt hj
                        rw [if_pos (by omega)]; exact a1
                      · have : (i + 1) * sz ≤ i' * sz := Nat.mul_le_mul_right sz hgt
                        rw [Nat.add_mul, Nat.one_mul] at this
                        rw [if_neg (by omega), if_neg (by omega)]; exact a1

/-! ### new blocks -/

/-- a read-only box -/
theorem box_ro {vs : List Value} {ps : List PV} (r : Rel ι w st) (hl : LRel ι w st vs (ps.map CV.pv)) (ty : TypeId) :
    Rel ι (w.alloc (.cells vs.toArray ty)) st ∧ Keeps all ι w st ι (w.alloc (.cells vs.toArray ty)) st ∧
    VRel ι (w.alloc (.cells vs.toArray ty)) st (.pointer (some ⟨w.heap.size, 0, none⟩)) (.pv (.rp [ps] 0 0)) := by
  have hx := Ext.alloc w (.cells vs.toArray ty)
  have k := hx.keeps ι st
  have hll : vs.length = ps.length := by have := hl.1; simpa using this
  refine ⟨r.ext hx, k, ?_⟩
  have := PRel.rp (μ := Mut ι st) (w := w.alloc (.cells vs.toArray ty)) ⟨w.heap.size, 0, none⟩ ps.length [ps] 0 0 (fun _ j => vs.getD j undef) (by simp)
    (fun _ => ⟨by show w.heap.size < _; rw [size_alloc]; omega, fun hm => by have := r.mut_lt hm; simp at this⟩)
    (fun i e j c h1 h2 => by
      cases i with
      | zero =>
        simp at h1; subst h1
        have hj : j < vs.length := by rw [hll]; exact (List.getElem?_eq_some_iff.1 h2).1
        rw [add_lit, cell_lit (heap_alloc_at w _)]
        simp [hj]
      | succ i => simp at h1)
    (fun i e j c h1 h2 => by
      cases i with
      | zero =>
        simp at h1; subst h1
        have hj : j < vs.length := by rw [hll]; exact (List.getElem?_eq_some_iff.1 h2).1
        have := k.pure (pure_of (hl.2 j _ (.pv c) (List.getElem?_eq_getElem hj) (by simp [h2])))
        simpa [hj] using this
      | succ i => simp at h1)
  have e : (⟨w.heap.size, 0, none⟩ : Addr).add (0 * ps.length + 0) = ⟨w.heap.size, 0, none⟩ := by simp [Addr.add]
  rw [e] at this
  exact .pv _ _ this

/-- a mutable box -/
theorem box_mut {vs : List Value} {cs : List CV} (r : Rel ι w st) (hl : LRel ι w st vs cs) (ty : TypeId) :
    Rel (ι.add st.length (some w.heap.size)) (w.alloc (.cells vs.toArray ty)) (st ++ [.box cs]) ∧
    Keeps all ι w st (ι.add st.length (some w.heap.size)) (w.alloc (.cells vs.toArray ty)) (st ++ [.box cs]) ∧
    VRel (ι.add st.length (some w.heap.size)) (w.alloc (.cells vs.toArray ty)) (st ++ [.box cs]) (.pointer (some ⟨w.heap.size, 0, none⟩)) (.pt st.length 0 0 0) := by
  have hx := Ext.alloc w (.cells vs.toArray ty)
  have hb : ∀ x, some w.heap.size = some x → w.heap.size ≤ x := by intro x h; cases h; exact Nat.le_refl _
  have k := keeps_add (ι := ι) (st := st) hx (.box cs) (some w.heap.size) hb
  have hid : (ι.add st.length (some w.heap.size)) st.length = some w.heap.size := by simp [IM.add]
  refine ⟨r.add hx hb ⟨w.heap.size, vs, ty, hid, heap_alloc_at w _, hl.mono' k⟩, k, ?_⟩
  exact VRel.pt st.length 0 0 0 w.heap.size (by simp) hid

end Go.SX
