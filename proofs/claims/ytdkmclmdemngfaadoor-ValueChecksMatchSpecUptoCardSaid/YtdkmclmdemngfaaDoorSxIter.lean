/- SX: ranges over strings. -/
import Derived.Test.YtdkmclmdemngfaaDoorSxMC
import Derived.Laws.RangeString
namespace Go.SX
open Go
set_option linter.unusedVariables false
set_option linter.unusedSimpArgs false

section
variable {P : Program} {n n0 : Nat} {loose an : List Nat} {Q : QT} {fr : Fr} {st : St} {c : Code} {ops : Array Oper} {l : List Oper}

def rngHd (P : Program) (ops : Array Oper) (l : List Oper) (fr : Fr) : Option ByteArray :=
  match l with
  | o :: _ => match guardOk ops o fr with
    | some true => match o.op with
      | .range t x => match P.underlying t with
        | some .string => match rv fr x with
          | .one (.pv (.s (.string s))) => some s
          | _ => none
        | _ => none
      | _ => none
    | _ => none
  | [] => none

theorem XO.rng (s : ByteArray) (fr' : Fr) (st' : St) (hc : rngHd P ops l fr = some s) (hput : putHd n l (.one (.pt st.length 0 0 0)) fr = some fr') (hst : st ++ [.raw (.stringIter s 0)] = st')
    (hk : XO P n n0 loose ops (l.drop 1) Q fr' st') : XO P n n0 loose ops l Q fr st := by
  cases l with
  | nil => simp [rngHd] at hc
  | cons o rest =>
    simp only [rngHd] at hc
    split at hc
    · rename_i hg
      cases hop : o.op <;> simp only [hop] at hc <;> try (cases hc; done)
      rename_i t x
      split at hc
      · rename_i hu
        split at hc
        · rename_i s' hx
          simp only [Option.some.injEq] at hc
          subst hc
          subst hst
          intro ι w a hR hF
          have hxv := rv_rel hF x
          rw [hx] at hxv
          have hv := scalar_of hxv
          have hw := guard_sound hg hF
          have hrun : (execOp a.eval o).run P w = .ok (.value (.pointer (some ⟨w.heap.size, 0, none⟩))) (w.iter s' 0) := by
            simp [execOp, hop, hv, run_range_string (P := P) w t s' hu]
          have hR' : Rel (ι.add st.length (some w.heap.size)) (w.iter s' 0) (st ++ [.raw (.stringIter s' 0)]) :=
            hR.add (Ext.alloc w _) (fun x e => by cases e; exact Nat.le_refl _) ⟨w.heap.size, by simp [IM.add], heap_alloc_at w _⟩
          have k : Keeps all ι w st (ι.add st.length (some w.heap.size)) (w.iter s' 0) (st ++ [.raw (.stringIter s' 0)]) :=
            keeps_add (Ext.alloc w _) _ _ (fun x e => by cases e; exact Nat.le_refl _)
          have hres : AVRel (ι.add st.length (some w.heap.size)) (w.iter s' 0) (st ++ [.raw (.stringIter s' 0)]) (.pointer (some ⟨w.heap.size, 0, none⟩)) (.one (.pt st.length 0 0 0)) :=
            .one _ _ (VRel.pt st.length 0 0 0 w.heap.size (by simp) (by simp [IM.add]))
          refine wpList_step fun K hK => ?_
          rw [if_pos hw]
          simp only [Oper.wp, hrun, Oper.upon]
          exact hK _ _ (wpList_post (fun e a w h => h.trans (k.weaken (fun _ _ => trivial))) (hk _ _ _ hR' (putF_rel hput (hF.mono' k) hres)))
        · cases hc
      · cases hc
    · simp at hc

def nxtHd (ops : Array Oper) (l : List Oper) (fr : Fr) : Option Nat :=
  match l with
  | o :: _ => match guardOk ops o fr with
    | some true => match o.op with
      | .next x true => match rv fr x with
        | .one (.pt id 0 0 0) => some id
        | _ => none
      | _ => none
    | _ => none
  | [] => none

theorem nxt_get {id : Nat} {o : Oper} (hc : nxtHd ops (o :: l) fr = some id) : guardOk ops o fr = some true ∧ ∃ x, o.op = .next x true ∧ rv fr x = .one (.pt id 0 0 0) := by
  simp only [nxtHd] at hc
  split at hc
  · rename_i hg
    split at hc
    · rename_i x hop
      split at hc
      · rename_i id' hx
        cases hc
        exact ⟨hg, x, hop, hx⟩
      · cases hc
    · cases hc
  · cases hc

theorem pt_val {ι : IM} {w : World} {v : Value} {id : Nat} (h : AVRel ι w st v (.one (.pt id 0 0 0))) : ∃ b, v = .pointer (some ⟨b, 0, none⟩) ∧ id < st.length ∧ ι id = some b := by
  cases h with
  | one _ _ h =>
    cases h with
    | pt _ _ _ _ b hid hb => exact ⟨b, rfl, hid, hb⟩

theorem XO.nxt (id : Nat) (s : ByteArray) (pos : Nat) (fr' : Fr) (st' : St) (hc : nxtHd ops l fr = some id) (ho : st[id]? = some (.raw (.stringIter s pos)))
    (hput : putHd n l (.tp [.one (.pv (.s (.bool true))), .one (.pv (.s (.int .i64 (Int.ofNat pos)))), .one (.pv (.s (.int .i32 (Int.ofNat (Utf8.decode s pos).1))))]) fr = some fr')
    (hst : st.set id (.raw (.stringIter s (pos + (Utf8.decode s pos).2))) = st') (hp : decide (pos < s.size) = true)
    (hk : XO P n n0 loose ops (l.drop 1) Q fr' st') : XO P n n0 loose ops l Q fr st := by
  cases l with
  | nil => simp [nxtHd] at hc
  | cons o rest =>
    obtain ⟨hg, x, hop, hx⟩ := nxt_get hc
    subst hst
    intro ι w a hR hF
    have hxv := rv_rel hF x
    rw [hx] at hxv
    obtain ⟨b, hv, hid, hb⟩ := pt_val hxv
    obtain ⟨b', e1, e2⟩ := hR.obj id _ ho
    rw [hb] at e1; cases e1
    have hw := guard_sound hg hF
    have hlt : pos < s.size := of_decide_eq_true hp
    have hbl := lt_of_some e2
    let w' : World := { w with heap := w.heap.setIfInBounds b (.stringIter s (pos + (Utf8.decode s pos).2)) }
    have hrun : (execOp a.eval o).run P w = .ok (.value (.tuple #[.bool true, .int .i64 (Int.ofNat pos), .int .i32 (Int.ofNat (Utf8.decode s pos).1)])) w' := by
      simp [execOp, hop, hv, Instr.next, getObj, setObj, Sem.run, e2, hlt, goInt, w', Result.andThen]
    have hwr : Wrote w w' b := by
      refine ⟨rfl, rfl, rfl, by simp [w'], fun y hy => ?_, fun c ty fz h => ?_⟩
      · simp [w', Array.getElem?_setIfInBounds, Ne.symm hy]
      · rw [e2] at h; cases h
    have ha : Body.alive (.raw (.stringIter s pos)) := by simp [Body.alive]
    have k := keeps_set (body' := .raw (.stringIter s (pos + (Utf8.decode s pos).2))) ho ha hb hwr
    have hR' := hR.set (body' := .raw (.stringIter s (pos + (Utf8.decode s pos).2))) ho ha hb hwr ⟨b, hb, by simp [w', Array.getElem?_setIfInBounds, hbl]⟩
    have hres : AVRel ι w' (st.set id (.raw (.stringIter s (pos + (Utf8.decode s pos).2)))) (.tuple [.bool true, .int .i64 (Int.ofNat pos), .int .i32 (Int.ofNat (Utf8.decode s pos).1)].toArray) (avT [.bool true, .int .i64 (Int.ofNat pos), .int .i32 (Int.ofNat (Utf8.decode s pos).1)]) := avT_rel rfl
    refine wpList_step fun K hK => ?_
    rw [if_pos hw]
    simp only [Oper.wp, hrun, Oper.upon]
    exact hK _ _ (wpList_post (fun e a w h => h.trans (k.weaken (fun _ _ => trivial))) (hk _ _ _ hR' (putF_rel hput (hF.mono' k) hres)))

theorem XO.nxtE (id : Nat) (s : ByteArray) (pos : Nat) (fr' : Fr) (hc : nxtHd ops l fr = some id) (ho : st[id]? = some (.raw (.stringIter s pos)))
    (hput : putHd n l (.tp [.one (.pv (.s (.bool false)))]) fr = some fr') (hp : decide (pos < s.size) = false)
    (hk : XO P n n0 loose ops (l.drop 1) Q fr' st) : XO P n n0 loose ops l Q fr st := by
  cases l with
  | nil => simp [nxtHd] at hc
  | cons o rest =>
    obtain ⟨hg, x, hop, hx⟩ := nxt_get hc
    intro ι w a hR hF
    have hxv := rv_rel hF x
    rw [hx] at hxv
    obtain ⟨b, hv, hid, hb⟩ := pt_val hxv
    obtain ⟨b', e1, e2⟩ := hR.obj id _ ho
    rw [hb] at e1; cases e1
    have hw := guard_sound hg hF
    have hlt : ¬ pos < s.size := of_decide_eq_false hp
    have hrun : (execOp a.eval o).run P w = .ok (.value (.tuple #[.bool false])) w := by
      simp [execOp, hop, hv, Instr.next, getObj, setObj, Sem.run, e2, hlt, Result.andThen]
    have hres : AVRel ι w st (.tuple [.bool false].toArray) (avT [.bool false]) := avT_rel rfl
    refine wpList_step fun K hK => ?_
    rw [if_pos hw]
    simp only [Oper.wp, hrun, Oper.upon]
    exact hK _ _ (hk _ _ _ hR (putF_rel hput hF hres))

end
end Go.SX
