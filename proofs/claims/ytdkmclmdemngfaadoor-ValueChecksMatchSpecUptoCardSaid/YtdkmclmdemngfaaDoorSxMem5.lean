/- SX, eighth part: append is sound. -/
import Derived.Test.YtdkmclmdemngfaaDoorSxMem4
namespace Go.SX
open Go
set_option linter.unusedVariables false
set_option linter.unusedSimpArgs false
set_option linter.unnecessarySimpa false

variable {P : Program} {ι : IM} {w : World} {st : St}

/-- an object moves to a new block -/
def IM.upd (ι : IM) (id : Nat) (b : Option Nat) : IM := ⟨fun j => if j = id then b else ι j, ι.amb⟩

theorem stays_ne {id j : Nat} (h : stays (some id) j = true) : j ≠ id := by
  rintro rfl; simp [stays] at h

theorem keeps_remap {w' : World} {id b : Nat} {body body' : Body} (hx : Ext w w') (r : Rel ι w st) (hid : st[id]? = some body) (hb : w.heap.size ≤ b) :
    Keeps (fun j => stays (some id) j = true) ι w st (ι.upd id (some b)) w' (st.set id body') := by
  refine ⟨hx.os, hx.tape, hx.output, hx.size, rfl, fun x hxl hm => ⟨hx.blk x hxl, fun hm' => ?_⟩, fun j hj hl => ⟨by simpa using hl, by simp [IM.upd, stays_ne hj]⟩, fun x c ty fz h => ⟨c, (hx.blk x (lt_of_some h)).trans h, rfl⟩⟩
  obtain ⟨j, o, h1, h2, h3⟩ := hm'
  by_cases e : j = id
  · subst e
    simp only [IM.upd, if_true, Option.some.injEq] at h3
    omega
  · rw [List.getElem?_set_ne (Ne.symm e)] at h1
    simp only [IM.upd, if_neg e] at h3
    exact hm ⟨j, o, h1, h2, h3⟩

theorem Rel.remap {w' : World} {id b : Nat} {body body' : Body} (hx : Ext w w') (r : Rel ι w st) (hid : st[id]? = some body) (hb : w.heap.size ≤ b) (hn : stIds (stays (some id)) st = true)
    (ho : ObjRel (ι.upd id (some b)) w' (st.set id body') id body') : Rel (ι.upd id (some b)) w' (st.set id body') := by
  have k := keeps_remap (body' := body') hx r hid hb
  have hlt : id < st.length := (List.getElem?_eq_some_iff.1 hid).1
  refine ⟨fun j o hj => ?_, fun b hb => Nat.lt_of_lt_of_le (r.amb b hb) hx.size, fun x hxo ha => by
    obtain ⟨j, o, h1, h2, h3⟩ := hxo
    by_cases e : j = id
    · subst e
      simp only [IM.upd, if_true, Option.some.injEq] at h3
      have := r.amb x ha
      omega
    · rw [List.getElem?_set_ne (Ne.symm e)] at h1
      simp only [IM.upd, if_neg e] at h3
      exact r.dis x ⟨j, o, h1, h2, h3⟩ ha, fun i i' o o' x h1 h2 a1 a2 e1 e2 => ?_, r.glk k⟩
  · by_cases e : j = id
    · subst e
      rw [List.getElem?_set_self hlt] at hj
      cases hj
      exact ho
    · rw [List.getElem?_set_ne (Ne.symm e)] at hj
      have h0 := r.obj j o hj
      have hi := stIds_get hn j o hj
      have hm : (ι.upd id (some b)) j = ι j := by simp [IM.upd, e]
      cases o with
      | dead => trivial
      | box cells =>
        obtain ⟨b', vs, ty, e', hb', hl⟩ := h0
        exact ⟨b', vs, ty, hm.trans e', (hx.blk b' (lt_of_some hb')).trans hb', hl.mono k (q := stays (some id)) (fun _ h _ => h) hi⟩
      | raw ob =>
        obtain ⟨b', e', hb'⟩ := h0
        exact ⟨b', hm.trans e', (hx.blk b' (lt_of_some hb')).trans hb'⟩
      | arr sz els =>
        rcases h0 with ⟨e', he⟩ | ⟨b', c, ty, e', hb', h1, h2, h3⟩
        · exact .inl ⟨hm.trans e', he⟩
        · refine .inr ⟨b', c, ty, hm.trans e', (hx.blk b' (lt_of_some hb')).trans hb', h1, h2, fun i e' j cv a1 a2 => ?_⟩
          obtain ⟨v, hv, hr⟩ := h3 i e' j cv a1 a2
          exact ⟨v, hv, k.pure hr⟩
  · have old : ∀ (j : Nat) (o : Body), (st.set id body')[j]? = some o → o.alive → j ≠ id → (ι.upd id (some b)) j = some x → st[j]? = some o ∧ ι j = some x ∧ x < w.heap.size := by
      intro j o hj ha hne he
      rw [List.getElem?_set_ne (Ne.symm hne)] at hj
      simp only [IM.upd, if_neg hne] at he
      exact ⟨hj, he, r.own_lt ⟨j, o, hj, ha, he⟩⟩
    by_cases q1 : i = id <;> by_cases q2 : i' = id
    · rw [q1, q2]
    · subst q1
      obtain ⟨_, _, h5⟩ := old i' o' h2 a2 q2 e2
      simp only [IM.upd, if_true, Option.some.injEq] at e1
      omega
    · subst q2
      obtain ⟨_, _, h5⟩ := old i o h1 a1 q1 e1
      simp only [IM.upd, if_true, Option.some.injEq] at e2
      omega
    · obtain ⟨z1, z2, _⟩ := old i o h1 a1 q1 e1
      obtain ⟨y1, y2, _⟩ := old i' o' h2 a2 q2 e2
      exact r.inj i i' o o' x z1 y1 a1 a2 z2 y2

theorem run_append_none (t tx ty e : TypeId) (i : TypeInfo) (ht : P.underlying t = some (.slice e)) (hi : P.info? e = some i) (x : Value) (hs : Src P i.size tx x 0 [] w) :
    (Builtin.append_ #[t, tx] ty #[.slice none 0 0, x]).run P w = .ok (.slice none 0 0) w := by
  have hc := hs.cells
  rcases hs.kind with ⟨e', hk⟩ | hk <;> simp [Builtin.append_, run_underlying ht, run_underlying hk, sizeOf, typeInfo, hi, hs.len, hc]

/-- the cells of a new row behind an append that grows -/
theorem grown_cells {i : TypeInfo} {z : Value} {olds news : List Value} {els nels : List (List PV)} {cap : Nat} (hz : z.cells.size = i.size)
    (ho : olds.length = els.length * i.size) (hn : news.length = nels.length * i.size)
    (h1 : ∀ (k : Nat) e (j : Nat) c, els[k]? = some e → e[j]? = some c → ∃ u, olds[k * i.size + j]? = some u ∧ PRel (Mut ι st) w u c)
    (h2 : ∀ (k : Nat) e (j : Nat) c, nels[k]? = some e → e[j]? = some c → ∃ u, news[k * i.size + j]? = some u ∧ PRel (Mut ι st) w u c) (hc : els.length + nels.length ≤ cap) :
    ((olds ++ news).toArray ++ Builtin.zeroCells z.cells (cap - (els.length + nels.length))).size = cap * i.size ∧
    ∀ (k : Nat) e (j : Nat) c, (els ++ nels)[k]? = some e → e[j]? = some c → ∃ u, ((olds ++ news).toArray ++ Builtin.zeroCells z.cells (cap - (els.length + nels.length)))[k * i.size + j]? = some u ∧ PRel (Mut ι st) w u c := by
  refine ⟨?_, ?_⟩
  · simp only [Array.size_append, List.size_toArray, List.length_append, ho, hn, size_zeroCells, hz, ← Nat.add_mul]
    congr 1
    omega
  · intro k e j cv a1 a2
    have key : ∃ v, (olds ++ news)[k * i.size + j]? = some v ∧ PRel (Mut ι st) w v cv := by
      by_cases hk : k < els.length
      · rw [List.getElem?_append_left hk] at a1
        obtain ⟨u, u1, u2⟩ := h1 k e j cv a1 a2
        exact ⟨u, by rw [List.getElem?_append_left (List.getElem?_eq_some_iff.1 u1).1]; exact u1, u2⟩
      · rw [List.getElem?_append_right (by omega)] at a1
        obtain ⟨u, u1, u2⟩ := h2 _ e j cv a1 a2
        refine ⟨u, ?_, u2⟩
        have hge : els.length * i.size ≤ k * i.size := Nat.mul_le_mul_right _ (by omega)
        rw [List.getElem?_append_right (by rw [ho]; omega), ho, ← u1]
        congr 1
        rw [Nat.sub_mul]; omega
    obtain ⟨v, v1, v2⟩ := key
    refine ⟨v, ?_, v2⟩
    have hlt := (List.getElem?_eq_some_iff.1 v1).1
    rw [Array.getElem?_append_left (by simpa using hlt)]
    simpa using v1

theorem apAt_sound {t tx ty : TypeId} {d x : AV} {hs : HS} {out : Out} (h : apAt P t tx d x st hs = some out) (hob : AllP out.ob) (r : Rel ι w st) {vd vx : Value} (hd : AVRel ι w st vd d) (hx : AVRel ι w st vx x) :
    ∃ v w' ι', (Builtin.append_ #[t, tx] ty #[vd, vx]).run P w = .ok v w' ∧ Rel ι' w' out.st ∧ AVRel ι' w' out.st v out.av ∧ Keeps (fun id => stays out.mv id = true) ι w st ι' w' out.st := by
  unfold apAt at h
  cases hu : P.underlying t with
  | none => simp [hu] at h
  | some dd =>
    cases dd <;> try (simp [hu] at h; done)
    rename_i e
    cases hi : P.info? e with
    | none => simp [hu, hi] at h
    | some i =>
      cases hz : i.zero with
      | none => simp [hu, hi, hz] at h
      | some z =>
        cases hsrc : srcEls P st tx x with
        | none => simp [hu, hi, hz, hsrc] at h
        | some news =>
          simp only [hu, hi, hz, hsrc] at h
          cases hb : (Nat.beq z.cells.size i.size && (Nat.ble i.bytes 16384 && Nat.ble 1 i.size)) with
          | false => simp [hb] at h
          | true =>
            simp only [hb, cond_true] at h
            simp only [Bool.and_eq_true] at hb
            have hzs := Nat.eq_of_beq_eq_true hb.1
            have hby := Nat.le_of_ble_eq_true hb.2.1
            have hsp := Nat.le_of_ble_eq_true hb.2.2
            have bound : ∀ k : Nat, k ≤ 4294967296 → k * i.bytes ≤ 140737488355328 := by
              intro k hk
              have : k * i.bytes ≤ 4294967296 * 16384 := Nat.mul_le_mul hk hby
              omega
            -- a nil head that grows
            have nilGrow : ∀ (hn : elemsOk i.size news) (hl : news.length ≤ 4294967296) (vs : List Value) (hsrc' : Src P i.size tx vx news.length vs w) (h0 : news ≠ []),
                (Builtin.append_ #[t, tx] ty #[.slice none 0 0, vx]).run P w = .ok (.slice (some ⟨w.heap.size, 0, none⟩) news.length (grownCap w news.length 0 e))
                  (w.drew.alloc (.cells ((([] : List Value) ++ vs).toArray ++ Builtin.zeroCells z.cells (grownCap w news.length 0 e - (([] : List (List PV)).length + news.length))) e)) := by
              intro hn hl vs hsrc' h0
              have hpos : 0 < news.length := List.length_pos_iff.2 h0
              have hrun := run_append_grow_src (P := P) w t tx ty e i z hu hi hz none 0 0 [] (by simp [Builtin.firstCells]) vx news.length vs hsrc' (by omega) (by omega)
                (growslice_fits (by omega) (by rw [Nat.zero_add]; exact bound _ hl))
              simp only [Nat.zero_add, List.length_nil] at hrun ⊢
              exact hrun
            cases hd with
            | j => simp at h
            | ag => simp at h
            | tp => simp at h
            | one vd c hv =>
              cases hv with
              | pt => simp at h
              | mp => simp at h
              | fn => simp at h
              | pv _ p hp =>
                cases hp with
                | nl => simp at h
                | ro => simp at h
                | rp => simp at h
                | fn => simp at h
                | s _ hp =>
                  cases vd <;> try (simp at h; done)
                  rename_i ao n m
                  cases ao with
                  | some a => simp at h
                  | none =>
                    cases n with
                    | succ n => simp at h
                    | zero =>
                      cases m with
                      | succ m => simp at h
                      | zero =>
                        simp only [Option.some.injEq] at h
                        subst h
                        obtain ⟨hn, hl, _⟩ := hob
                        obtain ⟨vs, s1, s2⟩ := src_sound (P := P) hsrc r hx hn (by omega)
                        by_cases h0 : news = []
                        · subst h0
                          have hv0 : vs = [] := List.eq_nil_of_length_eq_zero (by simpa using s1.newsLen)
                          subst hv0
                          obtain ⟨a1, a2, a3⟩ := row_nil (ι := ι) (w := w) (st := st) r i.size
                          exact ⟨_, _, _, run_append_none t tx ty e i hu hi vx s1, a1, .one _ _ a3, a2.weaken (fun _ _ => trivial)⟩
                        · have hrun := nilGrow hn hl vs s1 h0
                          have hg := grownCap_ge w news.length 0 e
                          obtain ⟨g1, g2⟩ := grown_cells (ι := ι) (w := w) (st := st) (i := i) (z := z) (olds := []) (news := vs) (els := []) (nels := news) (cap := grownCap w news.length 0 e) hzs (by simp) s1.newsLen
                            (fun k e j c h => by simp at h) s2 (by simpa using hg)
                          simp only [List.nil_append] at g2 g1 hrun
                          obtain ⟨a1, a2, a3⟩ := row_mut (ι := ι) (w := w) (st := st) (els := news) (sz := i.size) (cap := grownCap w news.length 0 e) (b := w.heap.size) ((Ext.drew w).trans (Ext.alloc _ _)) r e (Nat.le_refl _) (heap_alloc_at w.drew _) hg (by rw [g1]; exact Nat.le_refl _) hn g2
                          exact ⟨_, _, _, hrun, a1, .one _ _ a3, a2.weaken (fun _ _ => trivial)⟩
              | sn id sz hid hb0 =>
                simp only at h
                cases hs0 : st[id]? with
                | none => simp [hs0] at h
                | some body =>
                  cases body with
                  | dead => simp [hs0] at h
                  | box => simp [hs0] at h
                  | raw => simp [hs0] at h
                  | arr sz' els =>
                    simp only [hs0] at h
                    cases hq : (Nat.beq sz i.size && (Nat.beq sz' i.size && (Nat.beq 0 0 && stIds (stays (some id)) st))) with
                    | false => simp only [hq, cond_false] at h; cases h
                    | true =>
                      simp only [hq, cond_true, Option.some.injEq] at h
                      subst h
                      simp only [Bool.and_eq_true] at hq
                      have q1 := Nat.eq_of_beq_eq_true hq.1
                      have q2 := Nat.eq_of_beq_eq_true hq.2.1
                      have q4 := hq.2.2.2
                      subst q1; subst q2
                      obtain ⟨hn, hle, hl, _⟩ := hob
                      have hnil : els = [] := List.eq_nil_of_length_eq_zero hle.symm
                      subst hnil
                      obtain ⟨vs, s1, s2⟩ := src_sound (P := P) hsrc r hx hn (by omega)
                      simp only [List.nil_append, Nat.zero_add] at hl ⊢
                      by_cases h0 : news = []
                      · subst h0
                        have hv0 : vs = [] := List.eq_nil_of_length_eq_zero (by simpa using s1.newsLen)
                        subst hv0
                        have hset : st.set id (.arr i.size []) = st := by
                          apply List.ext_getElem?
                          intro j
                          by_cases e : j = id
                          · subst e; rw [List.getElem?_set_self hid, hs0]
                          · rw [List.getElem?_set_ne (Ne.symm e)]
                        rw [hset]
                        exact ⟨_, _, _, run_append_none t tx ty e i hu hi vx s1, r, .one _ _ (.sn id i.size hid hb0), .refl⟩
                      · have hrun := nilGrow hn hl vs s1 h0
                        have hg := grownCap_ge w news.length 0 e
                        obtain ⟨g1, g2⟩ := grown_cells (ι := ι) (w := w) (st := st) (i := i) (z := z) (olds := []) (news := vs) (els := []) (nels := news) (cap := grownCap w news.length 0 e) hzs (by simp) s1.newsLen
                          (fun k e j c h => by simp at h) s2 (by simpa using hg)
                        simp only [List.nil_append] at g2 g1 hrun
                        have hx' : Ext w (w.drew.alloc (.cells (vs.toArray ++ Builtin.zeroCells z.cells (grownCap w news.length 0 e - (([] : List (List PV)).length + news.length))) e)) := (Ext.drew w).trans (Ext.alloc _ _)
                        have k := keeps_remap (b := w.heap.size) (body' := .arr i.size news) hx' r hs0 (Nat.le_refl _)
                        have hw := heap_alloc_at w.drew (.cells (vs.toArray ++ Builtin.zeroCells z.cells (grownCap w news.length 0 e - (([] : List (List PV)).length + news.length))) e)
                        have hidd : (ι.upd id (some w.heap.size)) id = some w.heap.size := by simp [IM.upd]
                        have hle2 : news.length * i.size ≤ grownCap w news.length 0 e * i.size := Nat.mul_le_mul_right _ hg
                        refine ⟨_, _, _, hrun, r.remap hx' hs0 (Nat.le_refl _) q4 (.inr ⟨w.heap.size, _, e, hidd, hw, by rw [g1]; exact hle2, hn, ?_⟩), .one _ _ ?_, k⟩
                        · intro k' e' j cv x1 x2
                          obtain ⟨u, u1, u2⟩ := g2 k' e' j cv x1 x2
                          exact ⟨u, u1, k.pure u2⟩
                        · have := VRel.sl (ι := ι.upd id (some w.heap.size)) (w := w.drew.alloc (.cells (vs.toArray ++ Builtin.zeroCells z.cells (grownCap w news.length 0 e - (([] : List (List PV)).length + news.length))) e)) (st := st.set id (.arr i.size news)) id i.size 0 news.length w.heap.size (grownCap w news.length 0 e) (by simpa using hid) hidd hg
                            ⟨_, e, (0, 0), hw, by rw [g1]; simp⟩
                          simpa using this
              | sl id sz off len b cap hid hb0 hcap hcc =>
                simp only at h
                cases hs0 : st[id]? with
                | none => simp [hs0] at h
                | some body =>
                  cases body with
                  | dead => simp [hs0] at h
                  | box => simp [hs0] at h
                  | raw => simp [hs0] at h
                  | arr sz' els =>
                    simp only [hs0] at h
                    cases hq : (Nat.beq sz i.size && (Nat.beq sz' i.size && (Nat.beq off 0 && stIds (stays (some id)) st))) with
                    | false => simp only [hq, cond_false] at h; cases h
                    | true =>
                      simp only [hq, cond_true, Option.some.injEq] at h
                      subst h
                      simp only [Bool.and_eq_true] at hq
                      have q1 := Nat.eq_of_beq_eq_true hq.1
                      have q2 := Nat.eq_of_beq_eq_true hq.2.1
                      have q3 := Nat.eq_of_beq_eq_true hq.2.2.1
                      have q4 := hq.2.2.2
                      subst q1; subst q3; subst q2
                      obtain ⟨hn, hle, hl, _⟩ := hob
                      subst hle
                      simp only [Nat.zero_mul]
                      obtain ⟨vs, s1, s2⟩ := src_sound (P := P) hsrc r hx hn (by omega)
                      rcases r.obj id _ hs0 with ⟨e1, he⟩ | ⟨b', c, ety, e1, e2, hcs, hsz, hcell⟩
                      · rw [hb0] at e1; cases e1
                      · rw [hb0] at e1; cases e1
                        obtain ⟨c2, ty2, fz2, g1, g2⟩ := hcc
                        rw [e2] at g1; cases g1
                        have ha : Body.alive (.arr i.size els) := by simp [Body.alive]
                        by_cases hroom : els.length + news.length ≤ cap
                        · -- there is room
                          have hfit : els.length * i.size + vs.length ≤ c.size := by
                            rw [s1.newsLen, ← Nat.add_mul]
                            have : (els.length + news.length) * i.size ≤ cap * i.size := Nat.mul_le_mul_right _ hroom
                            simp only [Nat.zero_add] at g2
                            omega
                          have hrun := run_append_room_row (P := P) (w := w) t tx ty e i hu hi b els.length cap vx news.length vs s1 hroom e2 hfit
                          have hsz2 : (c.toList.take (els.length * i.size) ++ vs ++ c.toList.drop (els.length * i.size + vs.length)).toArray.size = c.size := by simp; omega
                          have hw := wrote_setRow (w := w) e2 hsz2
                          have k := keeps_set (body' := .arr i.size (els ++ news)) hs0 ha hb0 hw
                          refine ⟨_, _, _, hrun, r.set hs0 ha hb0 hw (.inr ⟨b, _, ety, hb0, setRow_heap w b _ _ ety _ e2, ?_, ?_, ?_⟩), .one _ _ ?_, k.weaken (fun _ _ => trivial)⟩
                          · rw [hsz2, List.length_append, Nat.add_mul, ← s1.newsLen]; exact hfit
                          · intro e' he'
                            rcases List.mem_append.1 he' with h | h
                            · exact hsz e' h
                            · exact hn e' h
                          · intro i' e' j cv a1 a2
                            have hget0 := get_splice c.toList vs (els.length * i.size) (i' * i.size + j) (by simpa using hfit)
                            have hget : (c.toList.take (els.length * i.size) ++ vs ++ c.toList.drop (els.length * i.size + vs.length)).toArray[i' * i.size + j]? = if i' * i.size + j < els.length * i.size then c.toList[i' * i.size + j]? else if i' * i.size + j < els.length * i.size + vs.length then vs[i' * i.size + j - els.length * i.size]? else c.toList[i' * i.size + j]? := by
                              simp only [List.append_assoc, List.getElem?_toArray]; exact hget0
                            rw [hget]
                            by_cases hk : i' < els.length
                            · rw [List.getElem?_append_left hk] at a1
                              obtain ⟨v, v1, v2⟩ := hcell i' e' j cv a1 a2
                              have hj : j < i.size := by rw [← hsz e' (List.mem_of_getElem? a1)]; exact (List.getElem?_eq_some_iff.1 a2).1
                              have := mul_lt_step hk hj
                              rw [if_pos this]
                              exact ⟨v, by simpa using v1, k.pure v2⟩
                            · rw [List.getElem?_append_right (by omega)] at a1
                              obtain ⟨u, u1, u2⟩ := s2 _ e' j cv a1 a2
                              have hge : els.length * i.size ≤ i' * i.size := Nat.mul_le_mul_right _ (by omega)
                              have hlt := (List.getElem?_eq_some_iff.1 u1).1
                              rw [Nat.sub_mul] at u1 hlt
                              rw [if_neg (by omega), if_pos (by omega)]
                              refine ⟨u, ?_, k.pure u2⟩
                              rw [← u1]
                              congr 1
                              omega
                          · have := VRel.sl (ι := ι) (w := w.setRow b (c.toList.take (els.length * i.size) ++ vs ++ c.toList.drop (els.length * i.size + vs.length)).toArray) (st := st.set id (.arr i.size (els ++ news))) id i.size 0 (els.length + news.length) b cap (by simpa using hid) hb0 hroom
                              ⟨_, ety, (0, 0), setRow_heap w b _ _ ety _ e2, by rw [hsz2]; simpa using g2⟩
                            simpa using this
                        · -- there is none
                          have hreads : ∀ (k : Nat) e' (j : Nat) cv, els[k]? = some e' → e'[j]? = some cv → ∃ u, (c.toList.take (els.length * i.size))[k * i.size + j]? = some u ∧ PRel (Mut ι st) w u cv := by
                            intro k e' j cv a1 a2
                            obtain ⟨v, v1, v2⟩ := hcell k e' j cv a1 a2
                            have hj : j < i.size := by rw [← hsz e' (List.mem_of_getElem? a1)]; exact (List.getElem?_eq_some_iff.1 a2).1
                            have := mul_lt_step (List.getElem?_eq_some_iff.1 a1).1 hj
                            refine ⟨v, ?_, v2⟩
                            rw [List.getElem?_take, if_pos this]
                            simpa using v1
                          have hol : (c.toList.take (els.length * i.size)).length = els.length * i.size := by simp; omega
                          have hold : (Builtin.firstCells i.size els.length (.slice (some ⟨b, 0, none⟩) els.length cap)).run P w.drew = .ok (c.toList.take (els.length * i.size)).toArray w.drew := by
                            refine run_firstCells_some w.drew i.size els.length ⟨b, 0, none⟩ els.length cap _ hol ?_
                            intro j v hj
                            rw [add_lit]
                            have e2' : w.drew.heap[b]? = some (.cells c ety (0, 0)) := e2
                            rw [cell_lit e2']
                            rw [List.getElem?_take] at hj
                            split at hj
                            · simpa using hj
                            · cases hj
                          have hrun := run_append_grow_src (P := P) w t tx ty e i z hu hi hz (some ⟨b, 0, none⟩) els.length cap (c.toList.take (els.length * i.size)) hold vx news.length vs s1 (by omega) (by omega)
                            (growslice_fits (by omega) (bound _ hl))
                          have hg := grownCap_ge w (els.length + news.length) cap e
                          obtain ⟨y1, y2⟩ := grown_cells (ι := ι) (w := w) (st := st) (i := i) (z := z) (olds := c.toList.take (els.length * i.size)) (news := vs) (els := els) (nels := news) (cap := grownCap w (els.length + news.length) cap e) hzs hol s1.newsLen hreads s2 hg
                          have hx' : Ext w (w.drew.alloc (.cells ((c.toList.take (els.length * i.size) ++ vs).toArray ++ Builtin.zeroCells z.cells (grownCap w (els.length + news.length) cap e - (els.length + news.length))) e)) := (Ext.drew w).trans (Ext.alloc _ _)
                          have k := keeps_remap (b := w.heap.size) (body' := .arr i.size (els ++ news)) hx' r hs0 (Nat.le_refl _)
                          have hw := heap_alloc_at w.drew (.cells ((c.toList.take (els.length * i.size) ++ vs).toArray ++ Builtin.zeroCells z.cells (grownCap w (els.length + news.length) cap e - (els.length + news.length))) e)
                          have hidd : (ι.upd id (some w.heap.size)) id = some w.heap.size := by simp [IM.upd]
                          have hle2 : (els.length + news.length) * i.size ≤ grownCap w (els.length + news.length) cap e * i.size := Nat.mul_le_mul_right _ hg
                          refine ⟨_, _, _, hrun, r.remap hx' hs0 (Nat.le_refl _) q4 (.inr ⟨w.heap.size, _, e, hidd, hw, by rw [y1, List.length_append]; exact hle2, ?_, ?_⟩), .one _ _ ?_, k⟩
                          · intro e' he'
                            rcases List.mem_append.1 he' with h | h
                            · exact hsz e' h
                            · exact hn e' h
                          · intro k' e' j cv x1 x2
                            obtain ⟨u, u1, u2⟩ := y2 k' e' j cv x1 x2
                            exact ⟨u, u1, k.pure u2⟩
                          · have := VRel.sl (ι := ι.upd id (some w.heap.size)) (w := w.drew.alloc (.cells ((c.toList.take (els.length * i.size) ++ vs).toArray ++ Builtin.zeroCells z.cells (grownCap w (els.length + news.length) cap e - (els.length + news.length))) e)) (st := st.set id (.arr i.size (els ++ news))) id i.size 0 (els.length + news.length) w.heap.size (grownCap w (els.length + news.length) cap e) (by simpa using hid) hidd hg
                              ⟨_, e, (0, 0), hw, by rw [y1]; simp⟩
                            simpa using this

end Go.SX
