/- SX, fourth part: operations on memory. -/
import Derived.Test.YtdkmclmdemngfaaDoorSxOps
import Derived.Deep.AppendSrc
namespace Go.SX
open Go
set_option linter.unusedVariables false
set_option linter.unusedSimpArgs false
set_option linter.unnecessarySimpa false

variable {P : Program} {ι : IM} {w : World} {st : St}

/-! ### lists of cells -/

theorem LRel.nil : LRel ι w st [] [] := ⟨rfl, fun j v c h => by simp at h⟩

theorem LRel.append {a b : List Value} {x y : List CV} (h : LRel ι w st a x) (k : LRel ι w st b y) : LRel ι w st (a ++ b) (x ++ y) := by
  refine ⟨by simp [h.1, k.1], fun j v c h1 h2 => ?_⟩
  by_cases hj : j < a.length
  · rw [List.getElem?_append_left hj] at h1
    rw [List.getElem?_append_left (by rw [← h.1]; exact hj)] at h2
    exact h.2 j v c h1 h2
  · rw [List.getElem?_append_right (by omega)] at h1
    rw [List.getElem?_append_right (by rw [← h.1]; omega), ← h.1] at h2
    exact k.2 _ v c h1 h2

theorem LRel.take {a : List Value} {x : List CV} (h : LRel ι w st a x) (n : Nat) : LRel ι w st (a.take n) (x.take n) := by
  refine ⟨by simp [h.1], fun j v c h1 h2 => ?_⟩
  rw [List.getElem?_take] at h1 h2
  split at h1
  · rename_i hj; rw [if_pos hj] at h2; exact h.2 j v c h1 h2
  · cases h1

theorem LRel.drop {a : List Value} {x : List CV} (h : LRel ι w st a x) (n : Nat) : LRel ι w st (a.drop n) (x.drop n) := by
  refine ⟨by simp [h.1], fun j v c h1 h2 => ?_⟩
  rw [List.getElem?_drop] at h1 h2
  exact h.2 _ v c h1 h2

theorem LRel.one {v : Value} {c : CV} (h : VRel ι w st v c) : LRel ι w st [v] [c] := by
  refine ⟨rfl, fun j v' c' h1 h2 => ?_⟩
  cases j with
  | zero => simp at h1 h2; subst h1; subst h2; exact h
  | succ j => simp at h1

theorem LRel.oneCell {a : List Value} {x : List CV} (h : LRel ι w st a x) : ∀ v ∈ a, v.oneCell' = true := by
  intro v hv
  obtain ⟨j, hj⟩ := List.getElem?_of_mem hv
  have hlt : j < x.length := by rw [← h.1]; exact (List.getElem?_eq_some_iff.1 hj).1
  exact (h.2 j v _ hj (List.getElem?_eq_getElem hlt)).oneCell

def avCells : AV → Option (List CV)
  | .one c => some [c]
  | .ag cs => some cs
  | _ => none

theorem cells_of_one {v : Value} (h : v.oneCell' = true) : v.cells = #[v] := by
  cases v <;> simp_all [Value.cells, Value.oneCell']

theorem avCells_rel {v : Value} {av : AV} {cs : List CV} (h : AVRel ι w st v av) (hc : avCells av = some cs) : LRel ι w st v.cells.toList cs := by
  cases h with
  | j => cases hc
  | one v c h => cases hc; rw [cells_of_one h.oneCell]; exact .one h
  | ag vs cs h => cases hc; simpa [Value.cells] using h
  | tp => cases hc

/-! ### literals -/

def fillc (place : Nat → Option (Nat × Nat)) (cells : List CV) : List (Nat × List CV) → Option (List CV)
  | [] => some cells
  | (i, v) :: rest =>
    match place i with
    | none => none
    | some (off, size) =>
      bif Nat.beq v.length size && Nat.ble (off + size) cells.length then fillc place (cells.take off ++ (v ++ cells.drop (off + size))) rest else none

theorem foldSet (off : Nat) : ∀ (vs : List Value) (k : Nat) (arr : Array Value), off + k + vs.length ≤ arr.size →
    ((vs.zipIdx k).foldl (fun cs (p : Value × Nat) => cs.setIfInBounds (off + p.2) p.1) arr).toList = arr.toList.take (off + k) ++ vs ++ arr.toList.drop (off + k + vs.length)
  | [], k, arr, _ => by simp
  | v :: vs, k, arr, h => by
    simp only [List.zipIdx_cons, List.foldl_cons]
    rw [foldSet off vs (k + 1) _ (by simp at h ⊢; omega)]
    have e := list_seg_step arr.toList (off + k) v vs (by simp at h ⊢; omega)
    simp only [Array.toList_setIfInBounds]
    rw [← Nat.add_assoc, show off + k + (v :: vs).length = off + k + (vs.length + 1) by simp]
    exact e

theorem fill_rel {place : Nat → Option (Nat × Nat)} : ∀ {parts : List (Nat × Value)} {pcs : List (Nat × List CV)} {cells : Array Value} {cs cs' : List CV},
    LRel ι w st cells.toList cs → parts.length = pcs.length →
    (∀ (j : Nat) (p : Nat × Value) (q : Nat × List CV), parts[j]? = some p → pcs[j]? = some q → p.1 = q.1 ∧ LRel ι w st p.2.cells.toList q.2) →
    fillc place cs pcs = some cs' → ∃ arr, Instr.fill place cells parts = some arr ∧ LRel ι w st arr.toList cs'
  | [], [], cells, cs, cs', h, _, _, hf => by
    simp only [fillc] at hf; cases hf
    exact ⟨cells, rfl, h⟩
  | [], q :: pcs, _, _, _, _, hl, _, _ => by simp at hl
  | p :: parts, [], _, _, _, _, hl, _, _ => by simp at hl
  | (i, v) :: parts, (i', vc) :: pcs, cells, cs, cs', h, hl, hp, hf => by
    obtain ⟨e, hv⟩ := hp 0 (i, v) (i', vc) rfl rfl
    simp only at e hv
    subst e
    simp only [fillc] at hf
    cases hpl : place i with
    | none => simp [hpl] at hf
    | some os =>
      obtain ⟨off, size⟩ := os
      simp only [hpl] at hf
      cases hb : (Nat.beq vc.length size && Nat.ble (off + size) cs.length) with
      | false => simp [hb] at hf
      | true =>
        simp only [hb, cond_true] at hf
        simp only [Bool.and_eq_true] at hb
        have h1 : vc.length = size := Nat.eq_of_beq_eq_true hb.1
        have h2 : off + size ≤ cs.length := Nat.le_of_ble_eq_true hb.2
        have hvl : v.cells.size = size := by have := hv.1; simp at this; omega
        have hcl : cells.size = cs.length := by have := h.1; simpa using this
        have hstep : LRel ι w st (v.cells.zipIdx.foldl (fun cs (c, j) => cs.setIfInBounds (off + j) c) cells).toList (cs.take off ++ (vc ++ cs.drop (off + size))) := by
          have e := foldSet off v.cells.toList 0 cells (by simp; omega)
          have e2 : (v.cells.zipIdx.foldl (fun cs (c, j) => cs.setIfInBounds (off + j) c) cells) = ((v.cells.toList.zipIdx 0).foldl (fun cs (p : Value × Nat) => cs.setIfInBounds (off + p.2) p.1) cells) := by
            rw [← Array.foldl_toList]
            congr 1
            simp
          rw [e2, e]
          simp only [Nat.add_zero, Array.length_toList, List.append_assoc]
          rw [hvl]
          exact (h.take off).append (hv.append (h.drop _))
        obtain ⟨arr, a1, a2⟩ := fill_rel hstep (by simpa using hl) (fun j p q x y => hp (j + 1) p q (by simpa using x) (by simpa using y)) hf
        refine ⟨arr, ?_, a2⟩
        unfold Instr.fill
        simp only [hpl]
        rw [if_neg]
        · exact a1
        · simp [hvl]; omega

/-! ### loads -/

def cutc (e : List CV) (off n : Nat) : Option (List CV) := bif Nat.ble (off + n) e.length then some ((e.drop off).take n) else none

def mkAV (g : Bool) (cs : List CV) : Option AV :=
  match g with
  | true => some (.ag cs)
  | false => match cs with
    | [c] => some (.one c)
    | _ => none

def mkVal (g : Bool) (vs : List Value) : Value :=
  match g with
  | true => .agg vs.toArray
  | false => vs.headD undef

theorem run_isAgg {t : TypeId} {g : Bool} (h : isAg P t = some g) (w : World) : (isAgg t).run P w = .ok g w := by
  unfold isAg at h
  cases hu : P.underlying t with
  | none => simp [hu] at h
  | some d => cases d <;> simp [hu] at h <;> subst h <;> simp [isAgg, run_underlying hu]

theorem run_sizeOf {t : TypeId} {n : Nat} (h : tsz P t = some n) (w : World) : (sizeOf t).run P w = .ok n w := by
  unfold tsz at h
  cases hi : P.info? t with
  | none => simp [hi] at h
  | some i => simp [hi] at h; simp [sizeOf, typeInfo, hi, h]

theorem run_loadAt {t : TypeId} {g : Bool} {n : Nat} (hg : isAg P t = some g) (hn : tsz P t = some n) {A : Addr} {vs : List Value} (hl : vs.length = n)
    (h1 : g = false → n = 1) (hc : ∀ (j : Nat) v, vs[j]? = some v → w.cell? (A.add j) = some v) : (Instr.loadAt t (.pointer (some A))).run P w = .ok (mkVal g vs) w := by
  cases g with
  | true =>
    have := run_loadCells_list (P := P) w A vs hc
    rw [hl] at this
    simp [Instr.loadAt, Instr.sureAddr, loadVar, run_isAgg hg, run_sizeOf hn, this, mkVal]
  | false =>
    have hn1 := h1 rfl
    subst hn1
    match vs, hl with
    | [v], _ =>
      have := hc 0 v rfl
      have e : A.add 0 = A := by simp [Addr.add]
      rw [e] at this
      simp [Instr.loadAt, Instr.sureAddr, loadVar, run_isAgg hg, this, mkVal]

theorem mkVal_rel {g : Bool} {vs : List Value} {cs : List CV} {av : AV} (h : LRel ι w st vs cs) (hm : mkAV g cs = some av) : AVRel ι w st (mkVal g vs) av := by
  cases g with
  | true => simp only [mkAV] at hm; cases hm; exact .ag _ _ h
  | false =>
    match cs, hm with
    | [c], hm =>
      simp only [mkAV] at hm; cases hm
      match vs, h with
      | [v], h => exact .one _ _ (h.2 0 v c rfl rfl)
      | [], h => have := h.1; simp at this
      | _ :: _ :: _, h => have := h.1; simp at this

theorem mkAV_one {cs : List CV} {av : AV} (hm : mkAV false cs = some av) : cs.length = 1 := by
  match cs, hm with
  | [c], _ => rfl
  | [], h => simp [mkAV] at h
  | _ :: _ :: _, h => simp [mkAV] at h

def ldAt (P : Program) (t : TypeId) (c : CV) (st : St) (hs : HS) : Option Out :=
  match isAg P t, tsz P t with
  | some g, some n =>
    match c with
    | .pv (.rp els i off) =>
      match hs with
      | e :: hs' => ((cutc (e.map CV.pv) off n).bind (mkAV g)).map fun av => ⟨av, st, [els[i]? = some e], hs', none⟩
      | [] => none
    | .pt id sz i off =>
      match st[id]? with
      | some (.box cells) => bif Nat.beq sz 0 then ((cutc cells off n).bind (mkAV g)).map fun av => ⟨av, st, [], hs, none⟩ else none
      | some (.arr sz' els) =>
        bif Nat.beq sz sz' then
          match hs with
          | e :: hs' => ((cutc (e.map CV.pv) off n).bind (mkAV g)).map fun av => ⟨av, st, [els[i]? = some e], hs', none⟩
          | [] => none
        else none
      | _ => none
    | _ => none
  | _, _ => none

theorem cell_lit {w : World} {b o : Nat} {c : Array Value} {ty : TypeId} {fz : Nat × Nat} (h : w.heap[b]? = some (.cells c ty fz)) : w.cell? ⟨b, o, none⟩ = c[o]? := by
  simp [World.cell?, h]

theorem add_lit (b o j : Nat) : (⟨b, o, none⟩ : Addr).add j = ⟨b, o + j, none⟩ := by
  unfold Addr.add; split <;> simp_all

/-- an element of a list of elements, read from some offset on -/
theorem cut_rel {e : List CV} {off n : Nat} {cs : List CV} (hc : cutc e off n = some cs) : cs = (e.drop off).take n ∧ off + n ≤ e.length ∧ cs.length = n := by
  unfold cutc at hc
  cases hb : Nat.ble (off + n) e.length with
  | false => simp [hb] at hc
  | true =>
    simp [hb] at hc
    have := Nat.le_of_ble_eq_true hb
    subst hc
    exact ⟨rfl, this, by simp; omega⟩

theorem ldAt_sound {t : TypeId} {c : CV} {hs : HS} {out : Out} (h : ldAt P t c st hs = some out) (hob : AllP out.ob) (r : Rel ι w st) {v : Value} (hv : VRel ι w st v c) :
    ∃ u, (Instr.loadAt t v).run P w = .ok u w ∧ AVRel ι w st u out.av ∧ out.st = st ∧ out.mv = none := by
  unfold ldAt at h
  cases hg : isAg P t with
  | none => simp [hg] at h
  | some g =>
    cases hn : tsz P t with
    | none => simp [hg, hn] at h
    | some n =>
      simp only [hg, hn] at h
      cases hv with
      | sl => simp at h
      | sn => simp at h
      | fn => simp at h
      | mp => simp at h
      | pv _ p hp =>
        cases hp with
        | s => simp at h
        | nl => simp at h
        | ro => simp at h
        | fn => simp at h
        | rp a sz els i off vf hsz hb hc hvv =>
          cases hs with
          | nil => simp at h
          | cons e hs' =>
            simp only [Option.map_eq_some_iff, Option.bind_eq_some_iff] at h
            obtain ⟨av, ⟨cs, hcut, hmk⟩, rfl⟩ := h
            obtain ⟨rfl, hle, hlen⟩ := cut_rel hcut
            simp only [List.length_map] at hle
            have hob := hob.1
            have hel : e.length = sz := hsz e (List.mem_of_getElem? hob)
            have hL : LRel ι w st ((List.range n).map fun j => vf i (off + j)) (((e.map CV.pv).drop off).take n) := by
              refine ⟨by simp; omega, fun j v c h1 h2 => ?_⟩
              rw [List.getElem?_take] at h2
              split at h2
              · rename_i hj
                rw [List.getElem?_drop, List.getElem?_map, Option.map_eq_some_iff] at h2
                obtain ⟨p, h2, rfl⟩ := h2
                simp [hj] at h1
                subst h1
                exact .pv _ _ (hvv i e (off + j) p hob h2)
              · cases h2
            refine ⟨_, run_loadAt (A := a.add (i * sz + off)) (vs := (List.range n).map fun j => vf i (off + j)) hg hn (by simp) ?_ ?_, mkVal_rel hL hmk, rfl, rfl⟩
            · rintro rfl; have := mkAV_one hmk; omega
            · intro j v h1
              have hj : j < n := by simpa using (List.getElem?_eq_some_iff.1 h1).1
              simp [hj] at h1
              subst h1
              rw [add_add, Nat.add_assoc]
              have hlt : off + j < e.length := by omega
              exact hc i e (off + j) _ hob (List.getElem?_eq_getElem hlt)
      | pt id sz i off b hid hb =>
        simp only at h
        cases hs0 : st[id]? with
        | none => simp [hs0] at h
        | some body =>
          cases body with
          | dead => simp [hs0] at h
          | raw => simp [hs0] at h
          | box cells =>
            simp only [hs0] at h
            cases hz : Nat.beq sz 0 with
            | false => simp [hz] at h
            | true =>
              have := Nat.eq_of_beq_eq_true hz
              subst this
              simp only [hz, cond_true, Option.map_eq_some_iff, Option.bind_eq_some_iff] at h
              obtain ⟨av, ⟨cs, hcut, hmk⟩, rfl⟩ := h
              obtain ⟨rfl, hle, hlen⟩ := cut_rel hcut
              obtain ⟨b', vs, ty, e1, e2, hl⟩ := r.obj id _ hs0
              rw [hb] at e1; cases e1
              refine ⟨_, run_loadAt (A := ⟨b, i * 0 + off, none⟩) (vs := (vs.drop off).take n) hg hn (by have := hl.1; simp; omega) ?_ ?_, mkVal_rel ((hl.drop off).take n) hmk, rfl, rfl⟩
              · rintro rfl; have := mkAV_one hmk; omega
              · intro j v h1
                rw [add_lit, cell_lit e2]
                rw [List.getElem?_take] at h1
                split at h1
                · rw [List.getElem?_drop] at h1
                  simpa using h1
                · cases h1
          | arr sz' els =>
            simp only [hs0] at h
            cases hz : Nat.beq sz sz' with
            | false => simp [hz] at h
            | true =>
              have := Nat.eq_of_beq_eq_true hz
              subst this
              cases hs with
              | nil => simp [hz] at h
              | cons e hs' =>
                simp only [hz, cond_true, Option.map_eq_some_iff, Option.bind_eq_some_iff] at h
                obtain ⟨av, ⟨cs, hcut, hmk⟩, rfl⟩ := h
                obtain ⟨rfl, hle, hlen⟩ := cut_rel hcut
                simp only [List.length_map] at hle
                have hob := hob.1
                rcases r.obj id _ hs0 with ⟨e1, he⟩ | ⟨b', c, ty, e1, e2, hcs, hsz, hcell⟩
                · subst he; simp at hob
                · rw [hb] at e1; cases e1
                  have hel : e.length = sz := hsz e (List.mem_of_getElem? hob)
                  have hL : LRel ι w st ((List.range n).map fun j => c.getD (i * sz + (off + j)) undef) (((e.map CV.pv).drop off).take n) := by
                    refine ⟨by simp; omega, fun j v cv h1 h2 => ?_⟩
                    rw [List.getElem?_take] at h2
                    split at h2
                    · rename_i hj
                      rw [List.getElem?_drop, List.getElem?_map, Option.map_eq_some_iff] at h2
                      obtain ⟨p, h2, rfl⟩ := h2
                      simp [hj] at h1
                      obtain ⟨v', a1, a2⟩ := hcell i e (off + j) p hob h2
                      have : v' = v := by rw [← h1]; simp [a1]
                      exact this ▸ .pv _ _ a2
                    · cases h2
                  refine ⟨_, run_loadAt (A := ⟨b, i * sz + off, none⟩) (vs := (List.range n).map fun j => c.getD (i * sz + (off + j)) undef) hg hn (by simp) ?_ ?_, mkVal_rel hL hmk, rfl, rfl⟩
                  · rintro rfl; have := mkAV_one hmk; omega
                  · intro j v h1
                    have hj : j < n := by simpa using (List.getElem?_eq_some_iff.1 h1).1
                    simp [hj] at h1
                    rw [add_lit, cell_lit e2]
                    have hlt : off + j < e.length := by omega
                    obtain ⟨v', a1, a2⟩ := hcell i e (off + j) _ hob (List.getElem?_eq_getElem hlt)
                    rw [Nat.add_assoc, a1]
                    rw [← h1]; simp [a1]

end Go.SX
