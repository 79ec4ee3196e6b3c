/- SX: functions that are handed objects of their callers: contracts out of bodies, and calls. SX: ranges over strings. SX: lists that are held in a box. SX: maps whose keys and elements are single plain cells. SX: calls to which lists are handed over for good (they come back in the result), and results that are objects of their own. SX: two numbers change places. SX: the rules of printed proofs in short form; frames are computed, not printed. The program's data as Lean's, with their cells. SX: functions whose contract is given over plain worlds; utf8.ValidString by the shelf's contract. SX: utf8.DecodeRuneInString by the shelf's contract. SX: a list of lists that grow: the outer one is a box, each inner one an object behind it. SX: a list of lists that grow, as a state; its operations. SX: rules of printed proofs for lists of lists that grow. SX: a list of lists of a fixed number: made whole, its inner lists made one by one, their elements read and written. SX: the way from a given row to a contract of pure values: reading the arguments, and closing the row. SX: readings of structs by the program's own fields. SX: readings of values and types. Types out of rows. Lists of fields out of rows. Lists of values, of numbers, of bytes out of rows. -/
import Derived.Laws.RangeString
import Derived.Shelf.Unicode.ValidAny
import Derived.Shelf.Unicode.DecodeAny
import Derived.OpenShut
import Derived.JoinedCond
import Derived.WideKeyArgs
import Derived.Test.YtdbfodeghijdlaaDoorSxB
set_option linter.unusedVariables false
set_option linter.unusedSimpArgs false
set_option linter.unnecessarySimpa false
namespace Go.SX
open Go
set_option linter.unusedVariables false
set_option linter.unusedSimpArgs false

section
variable {P : Program} {n n0 : Nat} {loose an : List Nat} {Q : QT} {fr : Fr} {st : St} {c : Code} {ops : Array Oper} {X : List Nat} {l : List Oper} {tw : List (List Nat × List Nat)} {fr2 : Fr} {st2 : St}

/-- what a function's end must say: pure result; of the store, the callers' objects -/
def FinM (P : Program) (fn : Func) (r : AV) (k : Nat) (sc' : St) : QT := fun e fr st =>
  (e = .normal ∨ e = .ret) ∧ ∃ hs asv ob, resAll P fr st fn.results.toList hs = some (asv, ob) ∧ AllP ob ∧ st.take k = sc' ∧ stIds (fun id => Nat.ble (id + 1) k) sc' = true ∧ AF st (fun id => Nat.ble (id + 1) k) (resAV asv) r

theorem MC.of {f : Nat} {fn : Func} {args : List AV} {r : AV} {sc sc' : St} (k : Nat) (hf : P.funcs[f]? = some fn) (hb : fn.body = some c) (hn : fn.ntmps = n) (hl : args.length ≤ n) (hk : sc.length = k)
    (h : XW P n k [] c (FinM P fn r k sc') (argsFr args 0) sc) : MC P f args sc r sc' := by
  intro ι w vs hR hA
  refine calls_of_wp hf hb ?_
  have hF : FRel n ι w sc { tmps := vs.toArray ++ Array.replicate (fn.ntmps - vs.toArray.size) undef, defers := [] } (argsFr args 0) := by
    refine ⟨rfl, ?_, fun t => ?_⟩
    · simp [hn]; have := hA.1; omega
    · rw [lk_argsFr]
      simp only [Nat.zero_le, if_true, Nat.sub_zero]
      by_cases ht : t < vs.length
      · have hta : t < args.length := by rw [← hA.1]; exact ht
        have e1 : (vs.toArray ++ Array.replicate (fn.ntmps - vs.toArray.size) undef).getD t undef = vs[t] := by
          simp [Array.getElem?_append, ht]
        have e2 : args.getD t .j = args[t] := by simp [List.getD, hta]
        rw [e1, e2]
        exact hA.2 t _ _ (List.getElem?_eq_getElem ht) (List.getElem?_eq_getElem hta)
      · have : args.getD t .j = .j := by
          simp only [List.getD]
          rw [List.getElem?_eq_none (by rw [← hA.1]; omega)]
          rfl
        rw [this]
        exact .j _
  refine Go.wp_mono (h ι w _ hR hF) ?_
  rintro e a w' ⟨ι', fr', st', ⟨he, hs, asv, ob, hres, hob, htk, hid, haf⟩, hR', hF', kk⟩
  obtain ⟨v, hv, hav⟩ := results_sound hR' hF' hres hob
  have hsub : SubSt (fun id => Nat.ble (id + 1) k) st' (st'.take k) := by
    refine ⟨fun id o h => .inr ?_, fun id hq hid => ?_⟩
    · rw [List.getElem?_take] at h
      split at h
      · rename_i hlt; exact ⟨Nat.ble_eq_true_of_le hlt, h⟩
      · cases h
    · have := Nat.le_of_ble_eq_true hq
      simp; omega
  have hid' : stIds (fun id => Nat.ble (id + 1) k) (st'.take k) = true := by rw [htk]; exact hid
  obtain ⟨r1, k1⟩ := hR'.shrink hsub hid'
  have hfin := hav.fz hR' hsub hid' haf
  rw [htk] at r1 k1 hfin
  have hpost : ∃ v', (results fn a.tmps).run P w' = .ok v' w' ∧ (∃ v av s ι', Ending.returned v' = .returned v ∧ (av = r ∧ s = sc') ∧ Rel ι' w' s ∧ AVRel ι' w' s v av ∧ Keeps (fun id => id ∉ ([] : List Nat)) ι w sc ι' w' s) := by
    refine ⟨v, hv, v, r, sc', ι', rfl, ⟨rfl, rfl⟩, r1, hfin, ?_⟩
    have hfx : ∀ id, id < k → fixB k [] id = true := fun id h => by simp [fixB]; omega
    refine ⟨kk.os ▸ k1.os, kk.tape ▸ k1.tape, kk.output ▸ k1.output, kk.size, kk.amb, fun b hb hno => ?_, fun id _ hidl => ?_, kk.shp⟩
    · obtain ⟨e1, e2⟩ := kk.blk b hb hno
      exact ⟨e1, (k1.blk b (Nat.lt_of_lt_of_le hb kk.size) e2).2⟩
    · obtain ⟨m1, m2⟩ := kk.map id (hfx id (by omega)) hidl
      obtain ⟨p1, p2⟩ := k1.map id (Nat.ble_eq_true_of_le (show id + 1 ≤ k by omega)) m1
      exact ⟨p1, p2.trans m2⟩
  rcases he with rfl | rfl
  · exact ⟨hF'.defers, hpost⟩
  · exact ⟨hF'.defers, hpost⟩

theorem FinM.fin {fn : Func} {r : AV} {e : Exit} {k : Nat} {sc' : St} (he : e = .normal ∨ e = .ret) (hs : HS) (avs : List AV) (ob : List Prop) (h : resAll P fr st fn.results.toList hs = some (avs, ob)) (hob : AllP ob) (ht : st.take k = sc') (hi : stIds (fun id => Nat.ble (id + 1) k) sc' = true)
    (ha : AF st (fun id => Nat.ble (id + 1) k) (resAV avs) r) : FinM P fn r k sc' e fr st := ⟨he, hs, avs, ob, h, hob, ht, hi, ha⟩

def nodupB : List Nat → Bool
  | [] => true
  | x :: l => !inL l x && nodupB l

theorem nodupB_get : ∀ {l : List Nat}, nodupB l = true → l.Nodup
  | [], _ => by simp
  | x :: l, h => by
    simp only [nodupB, Bool.and_eq_true, Bool.not_eq_true'] at h
    rw [List.nodup_cons]
    exact ⟨fun hm => (by rw [inL_iff.2 hm] at h; exact absurd h.1 (by simp)), nodupB_get h.2⟩

def calmB (L : Nat) (rs : List Nat) (sc sc' : St) (avs : List AV) : Bool :=
  ((nodupB rs && allLt L rs) && (Nat.beq rs.length sc.length && Nat.beq sc'.length sc.length)) && (stIds (fun i => Nat.ble (i + 1) sc.length) sc && avs.all (idsA (fun i => Nat.ble (i + 1) sc.length)))

structure Calm (L : Nat) (rs : List Nat) (sc sc' : St) (avs : List AV) : Prop where
  nd : rs.Nodup
  lt : allLt L rs = true
  len : rs.length = sc.length
  le : sc'.length = sc.length
  ids : stIds (fun i => Nat.ble (i + 1) sc.length) sc = true
  av : ∀ a ∈ avs, idsA (fun i => Nat.ble (i + 1) sc.length) a = true

theorem calmB_get {L : Nat} {rs : List Nat} {sc sc' : St} {avs : List AV} (h : calmB L rs sc sc' avs = true) : Calm L rs sc sc' avs := by
  unfold calmB at h
  simp only [Bool.and_eq_true] at h
  obtain ⟨⟨⟨h1, h2⟩, h3, h4⟩, h5, h6⟩ := h
  exact ⟨nodupB_get h1, h2, Nat.eq_of_beq_eq_true h3, Nat.eq_of_beq_eq_true h4, h5, fun a ha => List.all_eq_true.1 h6 a ha⟩

theorem MC.use' {g : Nat} {avs : List AV} {sc sc' : St} {r : AV} (h : MC P g avs sc r sc') {st : St} (rs : List Nat) (hb : Calm st.length rs sc sc' avs) (hst : rs.map (fun x => st[x]?) = sc.map (fun o => some (rnB (rho rs st.length) o)))
    {ι : IM} {w : World} {vs : List Value} (hR : Rel ι w st) (hA : ARel ι w st vs (avs.map (rnA (rho rs st.length)))) :
    Calls P g vs.toArray w fun e w' => ∃ v ι', e = .returned v ∧ Rel ι' w' (updAt st rs (sc'.map (rnB (rho rs st.length)))) ∧ AVRel ι' w' (updAt st rs (sc'.map (rnB (rho rs st.length)))) v (rnA (rho rs st.length) r) ∧
      Keeps all ι w st ι' w' (updAt st rs (sc'.map (rnB (rho rs st.length)))) := by
  have := h.use rs hb.nd hb.lt hb.len (by rw [hb.le]; exact Nat.le_refl _) hst hb.ids hb.av hR hA
  have e1 : sc'.take sc.length = sc' := List.take_of_length_le (by rw [hb.le]; exact Nat.le_refl _)
  have e2 : sc'.drop sc.length = [] := List.drop_of_length_le (by rw [hb.le]; exact Nat.le_refl _)
  rw [e1, e2, List.map_nil, List.append_nil] at this
  exact this

/-- a call that hands objects over -/
theorem XO.calm (g : Nat) (avs : List AV) (sc sc' : St) (r : AV) (rs : List Nat) (fr' : Fr) (st' : St) (hc : callHd P n ops l fr = some (g, avs.map (rnA (rho rs st.length)))) (h : MC P g avs sc r sc') (hb : calmB st.length rs sc sc' avs = true)
    (hst : rs.map (fun x => st[x]?) = sc.map (fun o => some (rnB (rho rs st.length) o))) (hst' : updAt st rs (sc'.map (rnB (rho rs st.length))) = st') (hput : putHd n l (rnA (rho rs st.length) r) fr = some fr')
    (hk : XO P n n0 loose ops (l.drop 1) Q fr' st') : XO P n n0 loose ops l Q fr st := by
  cases l with
  | nil => simp [callHd] at hc
  | cons o rest =>
    simp only [callHd] at hc
    split at hc
    · rename_i hg
      intro ι w a hR hF
      obtain ⟨vs, hrun, hA⟩ := call_sound hc hF
      have hw := guard_sound hg hF
      refine wpList_step fun K hK => ?_
      rw [if_pos hw]
      simp only [Oper.wp, hrun, Oper.upon]
      refine (h.use' rs (calmB_get hb) hst hR hA).mono ?_
      rintro e w' ⟨v, ι', rfl, hR', hv, k⟩
      rw [hst'] at hR' hv k
      exact hK _ _ (wpList_post (fun e a w h => h.trans (k.weaken (fun _ _ => trivial))) (hk ι' w' _ hR' (putF_rel hput (hF.mono' k) hv)))
    · simp at hc

theorem GY.calm (g : Nat) (avs : List AV) (sc sc' : St) (r : AV) (rs : List Nat) (fr1 : Fr) (T : List Nat) (st' : St) (ht : tw.head? = some (extT X T, T ++ [])) (hq : qOk st T = true) (hc : callHdD P n ops l fr = some (g, avs.map (rnA (rho rs st.length)))) (h : MC P g avs sc r sc')
    (hb : calmB st.length rs sc sc' avs = true) (hst : rs.map (fun x => st[x]?) = sc.map (fun o => some (rnB (rho rs st.length) o))) (hst' : updAt st rs (sc'.map (rnB (rho rs st.length))) = st')
    (hT : (match hdO l with | some o => (allLks ops o fr T && dstOk n o) && (idsA (inL T) (rnA (rho rs st.length) r) && rs.all (inL T)) | none => false) = true) (hX : stIds (fun i => !inL X i) st' = true)
    (hput : (match hdO l with | some o => putL o.dst (rnA (rho rs st.length) r) (keepF (fun id => !inL [] id) fr) | none => fr) = fr1)
    (hk : GX P n ops X (l.drop 1) (tw.drop 1) fr1 st' fr2 st2) : GX P n ops X l tw fr st fr2 st2 := by
  rw [tw_cons ht]
  cases ho : hdO l with
  | none => rw [ho] at hT; cases hT
  | some o =>
    rw [ho] at hT hput
    have hT2 : ((allLks ops o fr T && dstOk n o) && (idsA (inL T) (rnA (rho rs st.length) r) && rs.all (inL T))) = true := hT
    simp only [Bool.and_eq_true] at hT2
    obtain ⟨⟨t1, t2⟩, t3, t4⟩ := hT2
    have hput2 : putL o.dst (rnA (rho rs st.length) r) (keepF (fun id => !inL [] id) fr) = fr1 := hput
    subst hput2
    have hl := hd_cons ho
    rw [hl] at hc ⊢
    simp only [callHdD] at hc
    split at hc
    · rename_i hg
      have hcall : callAt P o (looksR ops o fr) = some (g, avs.map (rnA (rho rs st.length))) := by
        have h2 := t2
        unfold dstOk at h2
        cases hdd : o.dst with
        | none => simpa [hdd] using hc
        | some d =>
          rw [hdd] at h2
          have h3 : Nat.ble (d + 1) n = true := h2
          simpa [hdd, h3] using hc
      have hC := calmB_get hb
      have hlen' : st'.length = st.length := by rw [← hst', updAt_length]
      have hrsT : ∀ x ∈ rs, inL T x = true := fun x hx => List.all_eq_true.1 t4 x hx
      have hoff : ∀ (q : St) (bs : List Body) id, inL T id = false → (updAt q rs bs)[id]? = q[id]? := fun q bs id hid => updAt_not rs bs q (fun hm => by rw [hrsT id hm] at hid; cases hid)
      refine GX.cons0 (s := ⟨rnA (rho rs st.length) r, T, T, [], st'⟩) hq ⟨dstOk_get t2, hlen', fun id hw => by rw [← hst']; exact hoff _ _ id hw, fun id h => h, fun id h => by simp [inL] at h, allLks_get t1, idsW t3, bodOf hX, .inl ⟨hg, ?_⟩⟩ hk
      intro s1 ι w act hl' hT' hX' hR hF K Q hK
      obtain ⟨vs, hrun, hA⟩ := call_sound hcall hF
      simp only [Oper.wp, hrun, Oper.upon]
      have hst1 : rs.map (fun x => s1[x]?) = sc.map (fun o => some (rnB (rho rs s1.length) o)) := by
        rw [hl', ← hst]
        exact List.map_congr_left (fun x hx => hT' x (hrsT x hx))
      rw [← hl'] at hA
      refine (h.use' rs (by rw [hl']; exact hC) hst1 hR hA).mono ?_
      rintro e w' ⟨v, ι', rfl, hR', hv, k⟩
      rw [hl'] at hR' hv k
      have e : ovl (inL T) 0 s1 st' = updAt s1 rs (sc'.map (rnB (rho rs st.length))) := by
        refine st_ext (by rw [ovl_len _ _ _ (by omega), updAt_length, hlen', hl']) (fun id hid => ?_)
        rw [ovl_len _ _ _ (by omega)] at hid
        rw [ovl_get _ _ _ _ (by omega), Nat.zero_add]
        cases hTi : inL T id with
        | false => rw [hoff _ _ id hTi]; simp; omega
        | true =>
          simp only [Bool.true_eq_false, and_false, if_false]
          rw [← hst']
          by_cases hm : id ∈ rs
          · obtain ⟨i, hi, e⟩ := List.getElem_of_mem hm
            have h1 : rs[i]? = some id := by rw [List.getElem?_eq_getElem hi, e]
            have hi2 : i < sc'.length := by rw [hC.le, ← hC.len]; exact hi
            have h2 : (sc'.map (rnB (rho rs st.length)))[i]? = some (rnB (rho rs st.length) sc'[i]) := by simp [hi2]
            rw [updAt_get rs _ st i hC.nd h1 h2 (by omega), updAt_get rs _ s1 i hC.nd h1 h2 (by omega)]
          · rw [updAt_not rs _ st hm, updAt_not rs _ s1 hm, hT' id hTi]
      exact hK v w' ι' (by rw [e]; exact hv) (by rw [e]; exact hR') (by rw [e]; exact k.weaken (fun _ _ => trivial))
    · simp at hc

end
end Go.SX
namespace Go.SX
open Go
set_option linter.unusedVariables false
set_option linter.unusedSimpArgs false

section
variable {P : Program} {n n0 : Nat} {loose an : List Nat} {Q : QT} {fr : Fr} {st : St} {c : Code} {ops : Array Oper} {l : List Oper}

def rngHd (P : Program) (ops : Array Oper) (l : List Oper) (fr : Fr) : Option ByteArray :=
  match l with
  | o :: _ => match guardOk ops o fr with
    | some true => match o.op with
      | .range t x => match P.underlying t with
        | some .string => match rv fr x with
          | .one (.pv (.s (.string s))) => some s
          | _ => none
        | _ => none
      | _ => none
    | _ => none
  | [] => none

theorem XO.rng (s : ByteArray) (fr' : Fr) (st' : St) (hc : rngHd P ops l fr = some s) (hput : putHd n l (.one (.pt st.length 0 0 0)) fr = some fr') (hst : st ++ [.raw (.stringIter s 0)] = st')
    (hk : XO P n n0 loose ops (l.drop 1) Q fr' st') : XO P n n0 loose ops l Q fr st := by
  cases l with
  | nil => simp [rngHd] at hc
  | cons o rest =>
    simp only [rngHd] at hc
    split at hc
    · rename_i hg
      cases hop : o.op <;> simp only [hop] at hc <;> try (cases hc; done)
      rename_i t x
      split at hc
      · rename_i hu
        split at hc
        · rename_i s' hx
          simp only [Option.some.injEq] at hc
          subst hc
          subst hst
          intro ι w a hR hF
          have hxv := rv_rel hF x
          rw [hx] at hxv
          have hv := scalar_of hxv
          have hw := guard_sound hg hF
          have hrun : (execOp a.eval o).run P w = .ok (.value (.pointer (some ⟨w.heap.size, 0, none⟩))) (w.iter s' 0) := by
            simp [execOp, hop, hv, run_range_string (P := P) w t s' hu]
          have hR' : Rel (ι.add st.length (some w.heap.size)) (w.iter s' 0) (st ++ [.raw (.stringIter s' 0)]) :=
            hR.add (Ext.alloc w _) (fun x e => by cases e; exact Nat.le_refl _) ⟨w.heap.size, by simp [IM.add], heap_alloc_at w _⟩
          have k : Keeps all ι w st (ι.add st.length (some w.heap.size)) (w.iter s' 0) (st ++ [.raw (.stringIter s' 0)]) :=
            keeps_add (Ext.alloc w _) _ _ (fun x e => by cases e; exact Nat.le_refl _)
          have hres : AVRel (ι.add st.length (some w.heap.size)) (w.iter s' 0) (st ++ [.raw (.stringIter s' 0)]) (.pointer (some ⟨w.heap.size, 0, none⟩)) (.one (.pt st.length 0 0 0)) :=
            .one _ _ (VRel.pt st.length 0 0 0 w.heap.size (by simp) (by simp [IM.add]))
          refine wpList_step fun K hK => ?_
          rw [if_pos hw]
          simp only [Oper.wp, hrun, Oper.upon]
          exact hK _ _ (wpList_post (fun e a w h => h.trans (k.weaken (fun _ _ => trivial))) (hk _ _ _ hR' (putF_rel hput (hF.mono' k) hres)))
        · cases hc
      · cases hc
    · simp at hc

def nxtHd (ops : Array Oper) (l : List Oper) (fr : Fr) : Option Nat :=
  match l with
  | o :: _ => match guardOk ops o fr with
    | some true => match o.op with
      | .next x true => match rv fr x with
        | .one (.pt id 0 0 0) => some id
        | _ => none
      | _ => none
    | _ => none
  | [] => none

theorem nxt_get {id : Nat} {o : Oper} (hc : nxtHd ops (o :: l) fr = some id) : guardOk ops o fr = some true ∧ ∃ x, o.op = .next x true ∧ rv fr x = .one (.pt id 0 0 0) := by
  simp only [nxtHd] at hc
  split at hc
  · rename_i hg
    split at hc
    · rename_i x hop
      split at hc
      · rename_i id' hx
        cases hc
        exact ⟨hg, x, hop, hx⟩
      · cases hc
    · cases hc
  · cases hc

theorem pt_val {ι : IM} {w : World} {v : Value} {id : Nat} (h : AVRel ι w st v (.one (.pt id 0 0 0))) : ∃ b, v = .pointer (some ⟨b, 0, none⟩) ∧ id < st.length ∧ ι id = some b := by
  cases h with
  | one _ _ h =>
    cases h with
    | pt _ _ _ _ b hid hb => exact ⟨b, rfl, hid, hb⟩

theorem XO.nxt (id : Nat) (s : ByteArray) (pos : Nat) (fr' : Fr) (st' : St) (hc : nxtHd ops l fr = some id) (ho : st[id]? = some (.raw (.stringIter s pos)))
    (hput : putHd n l (.tp [.one (.pv (.s (.bool true))), .one (.pv (.s (.int .i64 (Int.ofNat pos)))), .one (.pv (.s (.int .i32 (Int.ofNat (Utf8.decode s pos).1))))]) fr = some fr')
    (hst : st.set id (.raw (.stringIter s (pos + (Utf8.decode s pos).2))) = st') (hp : decide (pos < s.size) = true)
    (hk : XO P n n0 loose ops (l.drop 1) Q fr' st') : XO P n n0 loose ops l Q fr st := by
  cases l with
  | nil => simp [nxtHd] at hc
  | cons o rest =>
    obtain ⟨hg, x, hop, hx⟩ := nxt_get hc
    subst hst
    intro ι w a hR hF
    have hxv := rv_rel hF x
    rw [hx] at hxv
    obtain ⟨b, hv, hid, hb⟩ := pt_val hxv
    obtain ⟨b', e1, e2⟩ := hR.obj id _ ho
    rw [hb] at e1; cases e1
    have hw := guard_sound hg hF
    have hlt : pos < s.size := of_decide_eq_true hp
    have hbl := lt_of_some e2
    let w' : World := { w with heap := w.heap.setIfInBounds b (.stringIter s (pos + (Utf8.decode s pos).2)) }
    have hrun : (execOp a.eval o).run P w = .ok (.value (.tuple #[.bool true, .int .i64 (Int.ofNat pos), .int .i32 (Int.ofNat (Utf8.decode s pos).1)])) w' := by
      simp [execOp, hop, hv, Instr.next, getObj, setObj, Sem.run, e2, hlt, goInt, w', Result.andThen]
    have hwr : Wrote w w' b := by
      refine ⟨rfl, rfl, rfl, by simp [w'], fun y hy => ?_, fun c ty fz h => ?_⟩
      · simp [w', Array.getElem?_setIfInBounds, Ne.symm hy]
      · rw [e2] at h; cases h
    have ha : Body.alive (.raw (.stringIter s pos)) := by simp [Body.alive]
    have k := keeps_set (body' := .raw (.stringIter s (pos + (Utf8.decode s pos).2))) ho ha hb hwr
    have hR' := hR.set (body' := .raw (.stringIter s (pos + (Utf8.decode s pos).2))) ho ha hb hwr ⟨b, hb, by simp [w', Array.getElem?_setIfInBounds, hbl]⟩
    have hres : AVRel ι w' (st.set id (.raw (.stringIter s (pos + (Utf8.decode s pos).2)))) (.tuple [.bool true, .int .i64 (Int.ofNat pos), .int .i32 (Int.ofNat (Utf8.decode s pos).1)].toArray) (avT [.bool true, .int .i64 (Int.ofNat pos), .int .i32 (Int.ofNat (Utf8.decode s pos).1)]) := avT_rel rfl
    refine wpList_step fun K hK => ?_
    rw [if_pos hw]
    simp only [Oper.wp, hrun, Oper.upon]
    exact hK _ _ (wpList_post (fun e a w h => h.trans (k.weaken (fun _ _ => trivial))) (hk _ _ _ hR' (putF_rel hput (hF.mono' k) hres)))

theorem XO.nxtE (id : Nat) (s : ByteArray) (pos : Nat) (fr' : Fr) (hc : nxtHd ops l fr = some id) (ho : st[id]? = some (.raw (.stringIter s pos)))
    (hput : putHd n l (.tp [.one (.pv (.s (.bool false)))]) fr = some fr') (hp : decide (pos < s.size) = false)
    (hk : XO P n n0 loose ops (l.drop 1) Q fr' st) : XO P n n0 loose ops l Q fr st := by
  cases l with
  | nil => simp [nxtHd] at hc
  | cons o rest =>
    obtain ⟨hg, x, hop, hx⟩ := nxt_get hc
    intro ι w a hR hF
    have hxv := rv_rel hF x
    rw [hx] at hxv
    obtain ⟨b, hv, hid, hb⟩ := pt_val hxv
    obtain ⟨b', e1, e2⟩ := hR.obj id _ ho
    rw [hb] at e1; cases e1
    have hw := guard_sound hg hF
    have hlt : ¬ pos < s.size := of_decide_eq_false hp
    have hrun : (execOp a.eval o).run P w = .ok (.value (.tuple #[.bool false])) w := by
      simp [execOp, hop, hv, Instr.next, getObj, setObj, Sem.run, e2, hlt, Result.andThen]
    have hres : AVRel ι w st (.tuple [.bool false].toArray) (avT [.bool false]) := avT_rel rfl
    refine wpList_step fun K hK => ?_
    rw [if_pos hw]
    simp only [Oper.wp, hrun, Oper.upon]
    exact hK _ _ (hk _ _ _ hR (putF_rel hput hF hres))

end
end Go.SX
namespace Go.SX
open Go
set_option linter.unusedVariables false
set_option linter.unusedSimpArgs false

section
variable {P : Program} {n n0 : Nat} {loose an : List Nat} {Q : QT} {fr : Fr} {st : St} {c : Code} {ops : Array Oper} {l : List Oper}

theorem get_dead {st : St} {id : Nat} {o : Body} (h : (st ++ [Body.dead])[id]? = some o) (ha : o.alive) : id < st.length ∧ st[id]? = some o := by
  by_cases hid : id < st.length
  · rw [List.getElem?_append_left hid] at h
    exact ⟨hid, h⟩
  · have : id = st.length := by
      have := (List.getElem?_eq_some_iff.1 h).1
      simp at this
      omega
    subst this
    simp at h
    subst h
    exact absurd rfl ha

/-- a number without an object, that stands for a block -/
theorem dead_add {ι : IM} {w : World} (r : Rel ι w st) (b : Option Nat) :
    Rel (ι.add st.length b) w (st ++ [.dead]) ∧ Keeps all ι w st (ι.add st.length b) w (st ++ [.dead]) := by
  have own : ∀ x, Own (ι.add st.length b) (st ++ [.dead]) x → Own ι st x := by
    rintro x ⟨id, o, h1, h2, h3⟩
    obtain ⟨g1, g2⟩ := get_dead h1 h2
    simp only [IM.add, if_neg (Nat.ne_of_lt g1)] at h3
    exact ⟨id, o, g2, h2, h3⟩
  have k : Keeps all ι w st (ι.add st.length b) w (st ++ [.dead]) :=
    ⟨rfl, rfl, rfl, Nat.le_refl _, rfl, fun x _ hm => ⟨rfl, fun hm' => hm (own x hm')⟩, fun id _ hid => ⟨by simp; omega, by simp [IM.add, Nat.ne_of_lt hid]⟩, fun _ c _ _ h => ⟨c, h, rfl⟩⟩
  refine ⟨⟨fun id o hid => ?_, r.amb, fun x hx => r.dis x (own x hx), fun id id' o o' x h1 h2 a1 a2 e1 e2 => ?_, r.glk k⟩, k⟩
  · by_cases ha : o = .dead
    · subst ha; trivial
    · obtain ⟨g1, g2⟩ := get_dead hid ha
      have h0 := r.obj id o g2
      have hm : (ι.add st.length b) id = ι id := by simp [IM.add, Nat.ne_of_lt g1]
      cases o with
      | dead => trivial
      | box cells =>
        obtain ⟨b', vs, ty, e, hb', hl⟩ := h0
        exact ⟨b', vs, ty, hm.trans e, hb', hl.mono' k⟩
      | raw ob =>
        obtain ⟨b', e, hb'⟩ := h0
        exact ⟨b', hm.trans e, hb'⟩
      | arr sz els =>
        rcases h0 with ⟨e, he⟩ | ⟨b', c, ty, e, hb', h1, h2, h3⟩
        · exact .inl ⟨hm.trans e, he⟩
        · refine .inr ⟨b', c, ty, hm.trans e, hb', h1, h2, fun i e' j cv a1 a2 => ?_⟩
          obtain ⟨v, hv, hr⟩ := h3 i e' j cv a1 a2
          exact ⟨v, hv, k.pure hr⟩
  · obtain ⟨g1, g2⟩ := get_dead h1 a1
    obtain ⟨q1, q2⟩ := get_dead h2 a2
    simp only [IM.add, if_neg (Nat.ne_of_lt g1)] at e1
    simp only [IM.add, if_neg (Nat.ne_of_lt q1)] at e2
    exact r.inj id id' o o' x g2 q2 a1 a2 e1 e2

theorem Wrote.refl (w : World) (b : Nat) : Wrote w w b := ⟨rfl, rfl, rfl, rfl, fun _ _ => rfl, fun c _ _ h => ⟨c, h, rfl⟩⟩

/-- one cell of a box is seen in another way -/
theorem rebox {ι : IM} {w : World} (r : Rel ι w st) {id j : Nat} {cells : List CV} {c c' : CV} (hid : st[id]? = some (.box cells)) (hj : cells[j]? = some c) (h : ∀ v, VRel ι w st v c → VRel ι w st v c') :
    Rel ι w (st.set id (.box (cells.set j c'))) ∧ Keeps all ι w st ι w (st.set id (.box (cells.set j c'))) := by
  obtain ⟨b, vs, ty, e1, e2, e3⟩ := r.obj id _ hid
  have ha : Body.alive (.box cells) := by simp [Body.alive]
  have k := keeps_set (body' := .box (cells.set j c')) hid ha e1 (Wrote.refl w b)
  refine ⟨r.set hid ha e1 (Wrote.refl w b) ⟨b, vs, ty, e1, e2, ?_⟩, k⟩
  refine LRel.mono' k ⟨by simp [e3.1], fun i v d h1 h2 => ?_⟩
  by_cases e : i = j
  · subst e
    have hlt := (List.getElem?_eq_some_iff.1 hj).1
    rw [List.getElem?_set_self hlt] at h2
    cases h2
    exact h v (e3.2 i v c h1 hj)
  · rw [List.getElem?_set_ne (Ne.symm e)] at h2
    exact e3.2 i v d h1 h2

theorem FRel.same {ι ι' : IM} {w : World} {st' : St} {a : Act} (k : Keeps all ι w st ι' w st') (h : FRel n ι w st a fr) : FRel n ι' w st' a fr := h.mono' k

/-- what a box holds of a list that is about to move: a number of its own, without an object -/
theorem Sub.stale (bx j id sz off len : Nat) (cells : List CV) (hb : st[bx]? = some (.box cells)) (hj : cells[j]? = some (.sl id sz off len)) (st' : St) (hs : (st ++ [Body.dead]).set bx (.box (cells.set j (.sl st.length sz off len))) = st') :
    Sub n n0 loose fr st fr st' := by
  subst hs
  intro ι w a hR hF
  obtain ⟨r1, k1⟩ := dead_add (st := st) hR (ι id)
  have hlt := (List.getElem?_eq_some_iff.1 hb).1
  have hne : ∀ v, VRel (ι.add st.length (ι id)) w (st ++ [.dead]) v (.sl id sz off len) → VRel (ι.add st.length (ι id)) w (st ++ [.dead]) v (.sl st.length sz off len) := by
    intro v hv
    have hnew : (ι.add st.length (ι id)) st.length = ι id := by simp [IM.add]
    have hold : ∀ b, (ι.add st.length (ι id)) id = b → ι id = b := by
      intro b h
      by_cases e : id = st.length
      · simp [IM.add, e] at h; rw [e]; exact h
      · simpa [IM.add, e] using h
    cases hv with
    | sl _ _ _ _ b cap hid hb hcap hc => exact .sl st.length sz off len b cap (by simp) (hnew.trans (hold _ hb)) hcap hc
    | sn _ _ hid hb => exact .sn st.length sz (by simp) (hnew.trans (hold _ hb))
  obtain ⟨r2, k2⟩ := rebox r1 (id := bx) (j := j) (cells := cells) (by rw [List.getElem?_append_left hlt]; exact hb) hj hne
  have k := k1.trans k2
  exact ⟨_, r2, hF.mono' k, k.weaken (fun _ _ => trivial)⟩

/-- a nil slice in a box is taken for an empty list -/
theorem Sub.listb (bx j sz : Nat) (cells : List CV) (hb : st[bx]? = some (.box cells)) (hj : cells[j]? = some (.pv (.s (.slice none 0 0)))) (st' : St) (hs : (st ++ [Body.arr sz []]).set bx (.box (cells.set j (.sl st.length sz 0 0))) = st') :
    Sub n n0 loose fr st fr st' := by
  subst hs
  intro ι w a hR hF
  obtain ⟨r1, k1, hv0⟩ := row_nil (ι := ι) (w := w) (st := st) hR sz
  have hlt := (List.getElem?_eq_some_iff.1 hb).1
  have hne : ∀ v, VRel (ι.add st.length none) w (st ++ [.arr sz []]) v (.pv (.s (.slice none 0 0))) → VRel (ι.add st.length none) w (st ++ [.arr sz []]) v (.sl st.length sz 0 0) := by
    intro v hv
    have := scalar_of (AVRel.one _ _ hv)
    subst this
    exact hv0
  obtain ⟨r2, k2⟩ := rebox r1 (id := bx) (j := j) (cells := cells) (by rw [List.getElem?_append_left hlt]; exact hb) hj hne
  have k := k1.trans k2
  exact ⟨_, r2, hF.mono' k, k.weaken (fun _ _ => trivial)⟩

/-- a nil slice in a box counts as an empty list -/
theorem Sub.softb (bx j : Nat) (cells : List CV) (hb : st[bx]? = some (.box cells)) (hj : cells[j]? = some (.pv (.s (.slice none 0 0)))) (st' : St) (hs : st.set bx (.box (cells.set j (.pv (.ro [])))) = st') :
    Sub n n0 loose fr st fr st' := by
  subst hs
  intro ι w a hR hF
  obtain ⟨r2, k2⟩ := rebox hR (id := bx) (j := j) (cells := cells) hb hj (c' := .pv (.ro [])) (fun v hv => hv.le .nl)
  exact ⟨_, r2, hF.mono' k2, k2.weaken (fun _ _ => trivial)⟩

theorem Enc.cutMOk {α : Type} (E : Enc α) {xs : List α} {l h m : Int} (g : 0 ≤ l ∧ l ≤ h ∧ h ≤ m ∧ m ≤ (xs.length : Int)) : (0 ≤ l ∧ l ≤ h ∧ h ≤ m ∧ m ≤ ((E.els xs).length : Int)) ∧ elemsOk E.sz (E.els xs) :=
  ⟨by rw [E.len]; exact g, E.ok xs⟩

end
end Go.SX
namespace Go.SX
open Go
set_option linter.unusedVariables false
set_option linter.unusedSimpArgs false

/-- keys: how they stand in a map -/
structure KEnc (κ : Type) where
  enc : κ → Value
  desc : TypeDesc
  eq : κ → κ → Bool
  same : ∀ a b, Instr.sameNow desc (enc a) (enc b) = some (eq a b)
  bits : ∀ a b, eq a b = true → Instr.sameBits 10000 (enc b) (enc a) = true
  flat : ∀ (P : Program) (t : TypeId) (e : Bool) (a : κ) (w : World), P.underlying t = some desc → (Instr.checkKey e 10000 t (enc a)).run P w = .ok () w

/-- elements -/
structure EEnc (α : Type) where
  enc : α → Value
  pl : ∀ a, plain (enc a) = true

def kInt (k : IntKind) : KEnc Int where
  enc n := .int k n
  desc := .int k
  eq a b := a == b
  same a b := by simp [Instr.sameNow]
  bits a b h := by
    have : a = b := by simpa using h
    subst this
    simp [Instr.sameBits]
  flat P t e a w h := by
    rw [show (10000 : Nat) = 9999 + 1 from rfl, Instr.checkKey]
    simp [run_underlying h]

def kStr : KEnc ByteArray where
  enc s := .string s
  desc := .string
  eq a b := a == b
  same a b := by simp [Instr.sameNow]
  bits a b h := by
    have h' : (a.data == b.data) = true := h
    have e : a.data = b.data := by simpa using h'
    show (b.data == a.data) = true
    simp [e]
  flat P t e a w h := by
    rw [show (10000 : Nat) = 9999 + 1 from rfl, Instr.checkKey]
    simp [run_underlying h]

def eInt (k : IntKind) : EEnc Int := ⟨fun n => .int k n, fun _ => rfl⟩
def eBool : EEnc Bool := ⟨fun b => .bool b, fun _ => rfl⟩
def eStr : EEnc ByteArray := ⟨fun b => .string b, fun _ => rfl⟩

section
variable {κ α : Type} (K : KEnc κ) (E : EEnc α)

def mapEs : List (κ × α) → Nat → List MapEntry
  | [], _ => []
  | (k, v) :: l, i => ⟨K.enc k, E.enc v, i⟩ :: mapEs l (i + 1)

def mapObj (m : List (κ × α)) : Obj := .map (mapEs K E m 0).toArray m.length

def mget (m : List (κ × α)) (k : κ) : Option α := match m with
  | [] => none
  | (k', v) :: l => if K.eq k k' then some v else mget l k

def mset (m : List (κ × α)) (k : κ) (v : α) : List (κ × α) := match m with
  | [] => [(k, v)]
  | (k', v') :: l => if K.eq k k' then (k, v) :: l else (k', v') :: mset l k v

theorem mapEs_len : ∀ (m : List (κ × α)) (i : Nat), (mapEs K E m i).length = m.length
  | [], _ => rfl
  | (_, _) :: l, i => by simp [mapEs, mapEs_len l]

/-- where a key stands -/
def mpos (m : List (κ × α)) (k : κ) : Option Nat := match m with
  | [] => none
  | (k', _) :: l => if K.eq k k' then some 0 else (mpos l k).map (· + 1)

theorem find_eq : ∀ (m : List (κ × α)) (k : κ) (i b : Nat), Instr.findNow K.desc (K.enc k) (mapEs K E m b) i = some ((mpos K m k).bind fun j => (mget K m k).map fun v => (i + j, E.enc v))
  | [], k, i, b => by simp [mapEs, Instr.findNow, mpos]
  | (k', v) :: l, k, i, b => by
    simp only [mapEs, Instr.findNow, K.same]
    cases h : K.eq k k' with
    | true => simp [mpos, mget, h]
    | false =>
      simp only [mpos, mget, h, if_false, Bool.false_eq_true]
      rw [find_eq l k (i + 1) (b + 1)]
      cases mpos K l k with
      | none => rfl
      | some j =>
        cases mget K l k with
        | none => rfl
        | some u => simp; omega

theorem mget_pos : ∀ (m : List (κ × α)) (k : κ), (mpos K m k).isSome = (mget K m k).isSome
  | [], k => rfl
  | (k', v) :: l, k => by
    simp only [mpos, mget]
    cases h : K.eq k k' with
    | true => simp
    | false => simpa using mget_pos l k

theorem mset_none : ∀ (m : List (κ × α)) (k : κ) (v : α) (b : Nat), mpos K m k = none → mapEs K E (mset K m k v) b = mapEs K E m b ++ [⟨K.enc k, E.enc v, b + m.length⟩]
  | [], k, v, b, _ => by simp [mset, mapEs]
  | (k', v') :: l, k, v, b, h => by
    simp only [mpos] at h
    cases hq : K.eq k k' with
    | true => simp [hq] at h
    | false =>
      simp only [hq, if_false, Bool.false_eq_true, Option.map_eq_none_iff] at h
      simp only [mset, hq, if_false, Bool.false_eq_true, mapEs, mset_none l k v (b + 1) h, List.cons_append, List.length_cons]
      rw [show b + 1 + l.length = b + (l.length + 1) by omega]

theorem mset_len_none : ∀ (m : List (κ × α)) (k : κ) (v : α), mpos K m k = none → (mset K m k v).length = m.length + 1
  | [], k, v, _ => rfl
  | (k', v') :: l, k, v, h => by
    simp only [mpos] at h
    cases hq : K.eq k k' with
    | true => simp [hq] at h
    | false =>
      simp only [hq, if_false, Bool.false_eq_true, Option.map_eq_none_iff] at h
      simp [mset, hq, mset_len_none l k v h]

theorem mset_some : ∀ (m : List (κ × α)) (k : κ) (v : α) (b j : Nat), mpos K m k = some j →
    ∃ e : MapEntry, (mapEs K E m b)[j]? = some e ∧ (∃ k', e.key = K.enc k' ∧ K.eq k k' = true) ∧ mapEs K E (mset K m k v) b = (mapEs K E m b).modify j (fun e => { e with key := K.enc k, val := E.enc v }) ∧ (mset K m k v).length = m.length
  | [], k, v, b, j, h => by simp [mpos] at h
  | (k', v') :: l, k, v, b, j, h => by
    simp only [mpos] at h
    cases hq : K.eq k k' with
    | true =>
      simp [hq] at h
      subst h
      exact ⟨_, rfl, ⟨k', rfl, hq⟩, by simp [mset, hq, mapEs], by simp [mset, hq]⟩
    | false =>
      simp only [hq, if_false, Bool.false_eq_true, Option.map_eq_some_iff] at h
      obtain ⟨j', h, rfl⟩ := h
      obtain ⟨e, h1, h2, h3, h4⟩ := mset_some l k v (b + 1) j' h
      refine ⟨e, by simpa [mapEs] using h1, h2, ?_, by simp [mset, hq, h4]⟩
      simp only [mset, hq, if_false, Bool.false_eq_true, mapEs, h3, List.modify_succ_cons]


variable {P : Program} {n n0 : Nat} {loose an : List Nat} {Q : QT} {fr : Fr} {st : St} {c : Code} {ops : Array Oper} {l : List Oper}

/-! ### a new map -/

def mkMapHd (ops : Array Oper) (l : List Oper) (fr : Fr) : Bool :=
  match l with
  | o :: _ => match guardOk ops o fr with
    | some true => match o.op with
      | .makeMap _ none => true
      | _ => false
    | _ => false
  | [] => false

theorem XO.mkm (fr' : Fr) (st' : St) (hc : mkMapHd ops l fr = true) (hput : putHd n l (.one (.mp st.length)) fr = some fr') (hst : st ++ [.raw (mapObj K E [])] = st')
    (hk : XO P n n0 loose ops (l.drop 1) Q fr' st') : XO P n n0 loose ops l Q fr st := by
  cases l with
  | nil => simp [mkMapHd] at hc
  | cons o rest =>
    simp only [mkMapHd] at hc
    split at hc
    · rename_i hg
      cases hop : o.op <;> simp only [hop] at hc <;> try (cases hc; done)
      rename_i t r
      cases r with
      | some x => simp at hc
      | none =>
        subst hst
        intro ι w a hR hF
        have hw := guard_sound hg hF
        have hrun : (execOp a.eval o).run P w = .ok (.value (.map (some w.heap.size))) (w.alloc (.map #[] 0)) := by
          simp [execOp, hop, Instr.makeMap]
        have hR' : Rel (ι.add st.length (some w.heap.size)) (w.alloc (.map #[] 0)) (st ++ [.raw (mapObj K E [])]) :=
          hR.add (Ext.alloc w _) (fun x e => by cases e; exact Nat.le_refl _) ⟨w.heap.size, by simp [IM.add], heap_alloc_at w _⟩
        have k : Keeps all ι w st (ι.add st.length (some w.heap.size)) (w.alloc (.map #[] 0)) (st ++ [.raw (mapObj K E [])]) :=
          keeps_add (Ext.alloc w _) _ _ (fun x e => by cases e; exact Nat.le_refl _)
        have hres : AVRel (ι.add st.length (some w.heap.size)) (w.alloc (.map #[] 0)) (st ++ [.raw (mapObj K E [])]) (.map (some w.heap.size)) (.one (.mp st.length)) :=
          .one _ _ (VRel.mp st.length w.heap.size (by simp) (by simp [IM.add]))
        refine wpList_step fun K hK => ?_
        rw [if_pos hw]
        simp only [Oper.wp, hrun, Oper.upon]
        exact hK _ _ (wpList_post (fun e a w h => h.trans (k.weaken (fun _ _ => trivial))) (hk _ _ _ hR' (putF_rel hput (hF.mono' k) hres)))
    · simp at hc

/-! ### reading -/

def lookHd (P : Program) (ops : Array Oper) (l : List Oper) (fr : Fr) : Option (Nat × Value × TypeId × TypeId) :=
  match l with
  | o :: _ => match guardOk ops o fr with
    | some true => match o.op with
      | .lookup t x i false => match P.underlying t with
        | some (.map kt et) => match rv fr x, rv fr i with
          | .one (.mp id), .one (.pv (.s v)) => some (id, v, kt, et)
          | _, _ => none
        | _ => none
      | _ => none
    | _ => none
  | [] => none

theorem mp_val {ι : IM} {w : World} {v : Value} {id : Nat} (h : AVRel ι w st v (.one (.mp id))) : ∃ b, v = .map (some b) ∧ id < st.length ∧ ι id = some b := by
  cases h with
  | one _ _ h =>
    cases h with
    | mp _ b hid hb => exact ⟨b, rfl, hid, hb⟩

theorem run_find {kt : TypeId} (hkt : P.underlying kt = some K.desc) (m : List (κ × α)) (k : κ) (w : World) :
    (Instr.findKey kt (K.enc k) (mapEs K E m 0)).run P w = .ok ((mpos K m k).bind fun j => (mget K m k).map fun v => (j, E.enc v)) w := by
  simp [Instr.findKey, run_underlying hkt, find_eq]

theorem XO.look (id : Nat) (m : List (κ × α)) (k : κ) (z : α) (kt et : TypeId) (fr' : Fr) (hc : lookHd P ops l fr = some (id, K.enc k, kt, et)) (hkt : P.underlying kt = some K.desc) (hz : (P.info? et).bind (·.zero) = some (E.enc z))
    (ho : st[id]? = some (.raw (mapObj K E m))) (hput : putHd n l (.one (.pv (.s (E.enc ((mget K m k).getD z))))) fr = some fr')
    (hk : XO P n n0 loose ops (l.drop 1) Q fr' st) : XO P n n0 loose ops l Q fr st := by
  cases l with
  | nil => simp [lookHd] at hc
  | cons o rest =>
    simp only [lookHd] at hc
    split at hc
    · rename_i hg
      split at hc
      · rename_i t x i hop
        split at hc
        · rename_i kt' et' hu
          split at hc
          · rename_i id' v hx hi
            simp only [Option.some.injEq, Prod.mk.injEq] at hc
            obtain ⟨rfl, rfl, rfl, rfl⟩ := hc
            intro ι w a hR hF
            have h1 := rv_rel hF x
            rw [hx] at h1
            obtain ⟨b, hv, hid, hb⟩ := mp_val h1
            have h2 := rv_rel hF i
            rw [hi] at h2
            have hiv := scalar_of h2
            obtain ⟨b', e1, e2⟩ := hR.obj id' _ ho
            rw [hb] at e1; cases e1
            have hw := guard_sound hg hF
            obtain ⟨inf, hinf, hzero⟩ := Option.bind_eq_some_iff.1 hz
            have hrun : (execOp a.eval o).run P w = .ok (.value (E.enc ((mget K m k).getD z))) w := by
              have hpos := mget_pos K m k
              have hf := run_find (P := P) K E hkt m k w
              simp only [execOp, hop, hv, hiv, Instr.lookup]
              cases hp : mpos K m k with
              | none =>
                rw [hp] at hpos hf
                have hg0 : mget K m k = none := by cases h : mget K m k <;> simp [h] at hpos ⊢
                simp [run_underlying hu, getObj, Sem.run, e2, mapObj, K.flat P _ _ k w hkt, hf, Result.andThen, run_zero hinf hzero, hg0]
              | some j =>
                rw [hp] at hpos hf
                cases hq : mget K m k with
                | none => simp [hq] at hpos
                | some u =>
                  rw [hq] at hf
                  simp [run_underlying hu, getObj, Sem.run, e2, mapObj, K.flat P _ _ k w hkt, hf, Result.andThen]
            refine wpList_step fun K' hK => ?_
            rw [if_pos hw]
            simp only [Oper.wp, hrun, Oper.upon]
            exact hK _ _ (hk _ _ _ hR (putF_rel hput hF (.one _ _ (.pv _ _ (.s _ (E.pl _))))))
          · cases hc
        · cases hc
      · cases hc
    · cases hc

/-! ### writing -/

def updHd (P : Program) (ops : Array Oper) (l : List Oper) (fr : Fr) : Option (Nat × Value × Value × TypeId) :=
  match l with
  | o :: _ => match guardOk ops o fr with
    | some true => match o.dst, o.op with
      | none, .mapUpdate t x i y => match P.underlying t with
        | some (.map kt et) => match rv fr x, rv fr i, rv fr y with
          | .one (.mp id), .one (.pv (.s v)), .one (.pv (.s u)) => some (id, v, u, kt)
          | _, _, _ => none
        | _ => none
      | _, _ => none
    | _ => none
  | [] => none

theorem XO.mupd (id : Nat) (m : List (κ × α)) (k : κ) (u : α) (kt : TypeId) (st' : St) (hc : updHd P ops l fr = some (id, K.enc k, E.enc u, kt)) (hkt : P.underlying kt = some K.desc)
    (ho : st[id]? = some (.raw (mapObj K E m))) (hst : st.set id (.raw (mapObj K E (mset K m k u))) = st')
    (hk : XO P n n0 loose ops (l.drop 1) Q fr st') : XO P n n0 loose ops l Q fr st := by
  cases l with
  | nil => simp [updHd] at hc
  | cons o rest =>
    simp only [updHd] at hc
    split at hc
    · rename_i hg
      split at hc
      · rename_i t x i y hdst hop
        split at hc
        · rename_i kt' et' hu
          split at hc
          · rename_i id' v v2 hx hi hy
            simp only [Option.some.injEq, Prod.mk.injEq] at hc
            obtain ⟨rfl, rfl, rfl, rfl⟩ := hc
            subst hst
            intro ι w a hR hF
            have h1 := rv_rel hF x
            rw [hx] at h1
            obtain ⟨b, hv, hid, hb⟩ := mp_val h1
            have h2 := rv_rel hF i
            rw [hi] at h2
            have hiv := scalar_of h2
            have h3 := rv_rel hF y
            rw [hy] at h3
            have hyv := scalar_of h3
            obtain ⟨b', e1, e2⟩ := hR.obj id' _ ho
            rw [hb] at e1; cases e1
            have hw := guard_sound hg hF
            have hbl := lt_of_some e2
            have hrun : (execOp a.eval o).run P w = .ok .skip { w with heap := w.heap.setIfInBounds b (mapObj K E (mset K m k u)) } := by
              have hpos := mget_pos K m k
              have hf := run_find (P := P) K E hkt m k w
              simp only [execOp, hop, hv, hiv, hyv, Instr.mapUpdate]
              cases hp : mpos K m k with
              | none =>
                rw [hp] at hf
                have e3 := mset_none K E m k u 0 hp
                have e4 := mset_len_none K m k u hp
                simp [run_underlying hu, getObj, setObj, Sem.run, e2, mapObj, K.flat P _ _ k w hkt, hf, Result.andThen, e3, e4]
              | some j =>
                rw [hp] at hpos hf
                cases hq : mget K m k with
                | none => simp [hq] at hpos
                | some u' =>
                  rw [hq] at hf
                  obtain ⟨e, g1, ⟨k', g2, g3⟩, g4, g5⟩ := mset_some K E m k u 0 j hp
                  have hs := K.bits k k' g3
                  simp [run_underlying hu, getObj, setObj, Sem.run, e2, mapObj, K.flat P _ _ k w hkt, hf, Result.andThen, g1, g2, Instr.keyThatStays, hs, g4, g5]
            have hwr : Wrote w { w with heap := w.heap.setIfInBounds b (mapObj K E (mset K m k u)) } b := by
              refine ⟨rfl, rfl, rfl, by simp, fun y hy => ?_, fun c ty fz h => ?_⟩
              · simp [Array.getElem?_setIfInBounds, Ne.symm hy]
              · rw [e2] at h; simp [mapObj] at h
            have ha : Body.alive (.raw (mapObj K E m)) := by simp [Body.alive]
            have kk := keeps_set (body' := .raw (mapObj K E (mset K m k u))) ho ha hb hwr
            have hR' := hR.set (body' := .raw (mapObj K E (mset K m k u))) ho ha hb hwr ⟨b, hb, by simp [Array.getElem?_setIfInBounds, hbl]⟩
            refine wpList_step fun K' hK => ?_
            rw [if_pos hw]
            simp only [Oper.wp, hrun, Oper.upon]
            refine hK _ _ (wpList_post (fun e a w h => h.trans (kk.weaken (fun _ _ => trivial))) (hk _ _ _ hR' ?_))
            rw [hdst]
            exact hF.mono' kk
          · cases hc
        · cases hc
      · cases hc
    · cases hc

end
end Go.SX
namespace Go.SX
open Go
set_option linter.unusedVariables false
set_option linter.unusedSimpArgs false
set_option linter.unnecessarySimpa false

/-- a contract with objects; those of 'lo' may move -/
def MX (P : Program) (f : Nat) (args : List AV) (sc : St) (lo : List Nat) (r : AV) (sc' : St) : Prop := AC P f args sc lo fun av s => av = r ∧ s = sc'

section
variable {P : Program} {n n0 : Nat} {loose an : List Nat} {Q : QT} {fr : Fr} {st : St} {c : Code} {ops : Array Oper} {X : List Nat} {l : List Oper} {tw : List (List Nat × List Nat)} {fr2 : Fr} {st2 : St}

theorem MX.of {f : Nat} {fn : Func} {args : List AV} {r : AV} {sc sc' : St} {lo : List Nat} (k m : Nat) (hkm : Nat.ble k m = true) (hf : P.funcs[f]? = some fn) (hb : fn.body = some c) (hn : fn.ntmps = n) (hl : args.length ≤ n) (hk : sc.length = k)
    (h : XW P n k lo c (FinM P fn r m sc') (argsFr args 0) sc) : MX P f args sc lo r sc' := by
  intro ι w vs hR hA
  refine calls_of_wp hf hb ?_
  have hF : FRel n ι w sc { tmps := vs.toArray ++ Array.replicate (fn.ntmps - vs.toArray.size) undef, defers := [] } (argsFr args 0) := by
    refine ⟨rfl, ?_, fun t => ?_⟩
    · simp [hn]; have := hA.1; omega
    · rw [lk_argsFr]
      simp only [Nat.zero_le, if_true, Nat.sub_zero]
      by_cases ht : t < vs.length
      · have hta : t < args.length := by rw [← hA.1]; exact ht
        have e1 : (vs.toArray ++ Array.replicate (fn.ntmps - vs.toArray.size) undef).getD t undef = vs[t] := by
          simp [Array.getElem?_append, ht]
        have e2 : args.getD t .j = args[t] := by simp [List.getD, hta]
        rw [e1, e2]
        exact hA.2 t _ _ (List.getElem?_eq_getElem ht) (List.getElem?_eq_getElem hta)
      · have : args.getD t .j = .j := by
          simp only [List.getD]
          rw [List.getElem?_eq_none (by rw [← hA.1]; omega)]
          rfl
        rw [this]
        exact .j _
  refine Go.wp_mono (h ι w _ hR hF) ?_
  rintro e a w' ⟨ι', fr', st', ⟨he, hs, asv, ob, hres, hob, htk, hid, haf⟩, hR', hF', kk⟩
  obtain ⟨v, hv, hav⟩ := results_sound hR' hF' hres hob
  have hkm' := Nat.le_of_ble_eq_true hkm
  have hsub : SubSt (fun id => Nat.ble (id + 1) m) st' (st'.take m) := by
    refine ⟨fun id o h => .inr ?_, fun id hq hid => ?_⟩
    · rw [List.getElem?_take] at h
      split at h
      · rename_i hlt; exact ⟨Nat.ble_eq_true_of_le hlt, h⟩
      · cases h
    · have := Nat.le_of_ble_eq_true hq
      simp; omega
  have hid' : stIds (fun id => Nat.ble (id + 1) m) (st'.take m) = true := by rw [htk]; exact hid
  obtain ⟨r1, k1⟩ := hR'.shrink hsub hid'
  have hfin := hav.fz hR' hsub hid' haf
  rw [htk] at r1 k1 hfin
  have hpost : ∃ v', (results fn a.tmps).run P w' = .ok v' w' ∧ (∃ v av s ι', Ending.returned v' = .returned v ∧ (av = r ∧ s = sc') ∧ Rel ι' w' s ∧ AVRel ι' w' s v av ∧ Keeps (fun id => id ∉ lo) ι w sc ι' w' s) := by
    refine ⟨v, hv, v, r, sc', ι', rfl, ⟨rfl, rfl⟩, r1, hfin, ?_⟩
    have hfx : ∀ id, id < k → id ∉ lo → fixB k lo id = true := fun id h h2 => by
      unfold fixB
      rw [Nat.ble_eq_true_of_le (show id + 1 ≤ k by omega), Bool.true_and]
      cases hq : lo.any (Nat.beq id) with
      | false => rfl
      | true =>
        obtain ⟨x, hx, he⟩ := List.any_eq_true.1 hq
        exact absurd (Nat.eq_of_beq_eq_true he ▸ hx) h2
    refine ⟨kk.os ▸ k1.os, kk.tape ▸ k1.tape, kk.output ▸ k1.output, kk.size, kk.amb, fun b hb hno => ?_, fun id hlo hidl => ?_, kk.shp⟩
    · obtain ⟨e1, e2⟩ := kk.blk b hb hno
      exact ⟨e1, (k1.blk b (Nat.lt_of_lt_of_le hb kk.size) e2).2⟩
    · obtain ⟨m1, m2⟩ := kk.map id (hfx id (by omega) hlo) hidl
      obtain ⟨p1, p2⟩ := k1.map id (Nat.ble_eq_true_of_le (show id + 1 ≤ m by omega)) m1
      exact ⟨p1, p2.trans m2⟩
  rcases he with rfl | rfl
  · exact ⟨hF'.defers, hpost⟩
  · exact ⟨hF'.defers, hpost⟩


end

section
variable {P : Program}
open Classical in
theorem MX.use {g : Nat} {args : List AV} {sc sc' : St} {r : AV} {lo : List Nat} (h : MX P g args sc lo r sc') {st : St} (rs : List Nat) (hnd : rs.Nodup) (hlt : allLt st.length rs = true) (hlen : rs.length = sc.length) (hle : sc.length ≤ sc'.length)
    (hst : rs.map (fun x => st[x]?) = sc.map (fun o => some (rnB (rho rs st.length) o))) (hi : stIds (fun i => Nat.ble (i + 1) sc.length) sc = true) (ha : ∀ a ∈ args, idsA (fun i => Nat.ble (i + 1) sc.length) a = true)
    (hbox : ∀ (id : Nat) o, st[id]? = some o → id ∉ rs → bodyIds (fun q => !inL (lo.map (rho rs st.length)) q) o = true)
    {ι : IM} {w : World} {vs : List Value} (hR : Rel ι w st) (hA : ARel ι w st vs (args.map (rnA (rho rs st.length)))) :
    Calls P g vs.toArray w fun e w' => ∃ v ι', e = .returned v ∧ Rel ι' w' (updAt st rs ((sc'.take sc.length).map (rnB (rho rs st.length))) ++ (sc'.drop sc.length).map (rnB (rho rs st.length))) ∧
      AVRel ι' w' (updAt st rs ((sc'.take sc.length).map (rnB (rho rs st.length))) ++ (sc'.drop sc.length).map (rnB (rho rs st.length))) v (rnA (rho rs st.length) r) ∧
      Keeps (fun id => id ∉ lo.map (rho rs st.length)) ι w st ι' w' (updAt st rs ((sc'.take sc.length).map (rnB (rho rs st.length))) ++ (sc'.drop sc.length).map (rnB (rho rs st.length))) := by
  generalize hρ : rho rs st.length = ρ at *
  generalize hk : sc.length = k at *
  have hρ1 : ∀ i x, rs[i]? = some x → ρ i = x := by intro i x hx; rw [← hρ]; simp [rho, hx]
  have hρ2 : ∀ i, k ≤ i → ρ i = st.length + (i - k) := by
    intro i hi; rw [← hρ]; simp only [rho]; rw [List.getElem?_eq_none (by omega), hlen]
  have hρ3 : ∀ i, i < k → ∃ x, rs[i]? = some x ∧ ρ i = x ∧ x < st.length := by
    intro i hi
    have hx : rs[i]? = some (rs[i]'(by omega)) := List.getElem?_eq_getElem (by omega)
    exact ⟨_, hx, hρ1 i _ hx, allLt_get hlt i _ hx⟩
  have hget : ∀ i, i < k → ∃ o, sc[i]? = some o ∧ st[ρ i]? = some (rnB ρ o) := by
    intro i hi
    obtain ⟨x, hx, hρx, _⟩ := hρ3 i hi
    have h0 := congrArg (fun l => l[i]?) hst
    simp only [List.getElem?_map, hx, Option.map_some] at h0
    cases ho : sc[i]? with
    | none => rw [List.getElem?_eq_none_iff] at ho; omega
    | some o => rw [ho] at h0; simp at h0; exact ⟨o, rfl, by rw [hρx]; exact h0⟩
  have hinj : ∀ i j, i < k → j < k → ρ i = ρ j → i = j := by
    intro i j h1 h2 e
    obtain ⟨x, hx, ex, _⟩ := hρ3 i h1
    obtain ⟨y, hy, ey, _⟩ := hρ3 j h2
    have : x = y := by rw [← ex, ← ey, e]
    subst this
    exact (List.getElem?_inj (List.getElem?_eq_some_iff.1 hx).1 hnd).1 (hx.trans hy.symm)
  have hmem : ∀ id, id ∈ rs → ∃ i, i < k ∧ ρ i = id := by
    intro id hid
    obtain ⟨i, hi, e⟩ := List.getElem_of_mem hid
    exact ⟨i, by omega, hρ1 i id (by rw [List.getElem?_eq_getElem hi, e])⟩
  have hmem' : ∀ i, i < k → ρ i ∈ rs := by
    intro i hi
    obtain ⟨x, hx, e, _⟩ := hρ3 i hi
    rw [e]; exact List.mem_of_getElem? hx
  let ιc : IM := ⟨fun i => if i < k then ι (ρ i) else none, fun b => ι.amb b ∨ ∃ id o, st[id]? = some o ∧ o.alive ∧ ι id = some b ∧ id ∉ rs⟩
  have own1 : ∀ b, Own ιc sc b → ∃ i o, i < k ∧ sc[i]? = some o ∧ o.alive ∧ ι (ρ i) = some b := by
    rintro b ⟨i, o, h1, h2, h3⟩
    have hik : i < k := by rw [← hk]; exact (List.getElem?_eq_some_iff.1 h1).1
    have : ιc i = ι (ρ i) := if_pos hik
    exact ⟨i, o, hik, h1, h2, this ▸ h3⟩
  have own2 : ∀ b, Own ιc sc b → Own ι st b := by
    intro b hb
    obtain ⟨i, o, hik, h1, h2, h3⟩ := own1 b hb
    obtain ⟨o', e1, e2⟩ := hget i hik
    rw [h1] at e1; cases e1
    exact ⟨ρ i, _, e2, rnB_alive.2 h2, h3⟩
  have mut1 : ∀ b, Mut ι st b → Mut ιc sc b := by
    rintro b (hb | ⟨id, o, h1, h2, h3⟩)
    · exact .inl (.inl hb)
    · by_cases hid : id ∈ rs
      · obtain ⟨i, hik, rfl⟩ := hmem id hid
        obtain ⟨o', e1, e2⟩ := hget i hik
        rw [h1] at e2; cases e2
        exact .inr ⟨i, o', e1, rnB_alive.1 h2, (if_pos hik : ιc i = ι (ρ i)).trans h3⟩
      · exact .inl (.inr ⟨id, o, h1, h2, h3, hid⟩)
  have mut2 : ∀ b, Mut ιc sc b → Mut ι st b := by
    rintro b ((hb | ⟨id, o, h1, h2, h3, _⟩) | hb)
    · exact .inl hb
    · exact .inr ⟨id, o, h1, h2, h3⟩
    · exact .inr (own2 b hb)
  have hback : ∀ i, Nat.ble (i + 1) k = true → i < sc.length ∧ ιc i = ι (ρ i) := by
    intro i hi
    have := Nat.le_of_ble_eq_true hi
    exact ⟨by omega, if_pos (by omega)⟩
  have hRc : Rel ιc w sc := by
    refine ⟨fun i o ho => ?_, fun b hb => ?_, fun b hb hm => ?_, fun i j o o' b h1 h2 a1 a2 e1 e2 => ?_, fun b o h => ⟨fun hm => (hR.gl b o h).1 (mut2 b hm), (hR.gl b o h).2⟩⟩
    · have hik : i < k := by rw [← hk]; exact (List.getElem?_eq_some_iff.1 ho).1
      obtain ⟨o', e1, e2⟩ := hget i hik
      rw [ho] at e1; cases e1
      have hobj := hR.obj _ _ e2
      have hids := stIds_get hi i o ho
      cases o with
      | dead => trivial
      | box cells =>
        obtain ⟨b, us, ty, e3, e4, e5⟩ := hobj
        exact ⟨b, us, ty, (if_pos hik : ιc i = ι (ρ i)).trans e3, e4, LRel.unren (fun b hb => mut2 b hb) hback hids e5⟩
      | raw ob =>
        obtain ⟨b, e3, e4⟩ := hobj
        exact ⟨b, (if_pos hik : ιc i = ι (ρ i)).trans e3, e4⟩
      | arr sz els =>
        rcases hobj with ⟨e3, e4⟩ | ⟨b, c, ty, e3, e4, e5, e6, e7⟩
        · exact .inl ⟨(if_pos hik : ιc i = ι (ρ i)).trans e3, e4⟩
        · refine .inr ⟨b, c, ty, (if_pos hik : ιc i = ι (ρ i)).trans e3, e4, e5, e6, fun i' e j p x1 x2 => ?_⟩
          obtain ⟨v, y1, y2⟩ := e7 i' e j p x1 x2
          exact ⟨v, y1, y2.mono (Nat.le_refl _) (fun b _ hb => ⟨rfl, fun h' => hb (mut2 b h')⟩)⟩
    · rcases hb with hb | ⟨id, o, h1, h2, h3, _⟩
      · exact hR.amb b hb
      · exact hR.mut_lt (.inr ⟨id, o, h1, h2, h3⟩)
    · obtain ⟨i, o, hik, h1, h2, h3⟩ := own1 b hb
      obtain ⟨o', e1, e2⟩ := hget i hik
      rw [h1] at e1; cases e1
      rcases hm with hm | ⟨id, o2, g1, g2, g3, g4⟩
      · exact hR.dis b (own2 b hb) hm
      · have := hR.inj id (ρ i) o2 _ b g1 e2 g2 (rnB_alive.2 h2) g3 h3
        subst this
        exact g4 (hmem' i hik)
    · have hik : i < k := by rw [← hk]; exact (List.getElem?_eq_some_iff.1 h1).1
      have hjk : j < k := by rw [← hk]; exact (List.getElem?_eq_some_iff.1 h2).1
      obtain ⟨p, p1, p2⟩ := hget i hik
      obtain ⟨q, q1, q2⟩ := hget j hjk
      rw [h1] at p1; cases p1
      rw [h2] at q1; cases q1
      have e1' : ι (ρ i) = some b := (if_pos hik : ιc i = ι (ρ i)) ▸ e1
      have e2' : ι (ρ j) = some b := (if_pos hjk : ιc j = ι (ρ j)) ▸ e2
      exact hinj i j hik hjk (hR.inj _ _ _ _ b p2 q2 (rnB_alive.2 a1) (rnB_alive.2 a2) e1' e2')
  have hAc : ARel ιc w sc vs args := by
    refine ⟨by simpa using hA.1, fun j v a h1 h2 => ?_⟩
    exact AVRel.unren (fun b hb => mut2 b hb) hback a v (ha a (List.mem_of_getElem? h2)) (hA.2 j v _ h1 (by rw [List.getElem?_map, h2]; rfl))
  refine (h ιc w vs hRc hAc).mono ?_
  rintro e w' ⟨v, av, s', ιc', he, ⟨rfl, rfl⟩, hRc', hv, kc⟩
  let ι' : IM := ⟨fun id => if hx : ∃ i, i < k ∧ ρ i = id then ιc' (Classical.choose hx) else if id < st.length then ι id else ιc' (k + (id - st.length)), ι.amb⟩
  have hsame : ∀ id, id < st.length → id ∉ rs → ι' id = ι id := by
    intro id h1 h2
    have hn : ¬ ∃ i, i < k ∧ ρ i = id := by rintro ⟨i, hik, rfl⟩; exact h2 (hmem' i hik)
    show (if hx : ∃ i, i < k ∧ ρ i = id then _ else _) = _
    rw [dif_neg hn, if_pos h1]
  generalize hB : (s'.take k).map (rnB ρ) = B
  generalize hX : (s'.drop k).map (rnB ρ) = X
  have hBlen : B.length = k := by rw [← hB]; simp; omega
  have hXlen : X.length = s'.length - k := by rw [← hX]; simp
  have hl : (updAt st rs B ++ X).length = st.length + (s'.length - k) := by rw [List.length_append, updAt_length, hXlen]
  have hm : ∀ i, i < s'.length → ρ i < (updAt st rs B ++ X).length ∧ ι' (ρ i) = ιc' i := by
    intro i hi
    by_cases hik : i < k
    · obtain ⟨x, _, e, hx⟩ := hρ3 i hik
      refine ⟨by rw [hl, e]; omega, ?_⟩
      have hex : ∃ j, j < k ∧ ρ j = ρ i := ⟨i, hik, rfl⟩
      have hc := Classical.choose_spec hex
      have hci := hinj _ _ hc.1 hik hc.2
      show (if hx : ∃ j, j < k ∧ ρ j = ρ i then ιc' (Classical.choose hx) else _) = _
      rw [dif_pos hex, hci]
    · have e := hρ2 i (by omega)
      refine ⟨by rw [hl, e]; omega, ?_⟩
      have hn : ¬ ∃ j, j < k ∧ ρ j = ρ i := by
        rintro ⟨j, hjk, hj⟩
        obtain ⟨y, _, ey, hy⟩ := hρ3 j hjk
        omega
      show (if hx : ∃ j, j < k ∧ ρ j = ρ i then ιc' (Classical.choose hx) else _) = _
      rw [dif_neg hn, if_neg (by omega), e]
      congr 1
      omega
  have hgetn : ∀ i o, s'[i]? = some o → (updAt st rs B ++ X)[ρ i]? = some (rnB ρ o) := by
    intro i o ho
    have hil := (List.getElem?_eq_some_iff.1 ho).1
    by_cases hik : i < k
    · obtain ⟨x, hx, e, hxl⟩ := hρ3 i hik
      rw [e, List.getElem?_append_left (by rw [updAt_length]; exact hxl)]
      refine updAt_get rs B st i hnd hx ?_ hxl
      rw [← hB, List.getElem?_map, List.getElem?_take, if_pos hik, ho]
      rfl
    · have e := hρ2 i (by omega)
      rw [e, List.getElem?_append_right (by rw [updAt_length]; omega), updAt_length, ← hX, List.getElem?_map, List.getElem?_drop, show k + (st.length + (i - k) - st.length) = i by omega, ho]
      rfl
  have hcase : ∀ id o, (updAt st rs B ++ X)[id]? = some o → (∃ i o', s'[i]? = some o' ∧ ρ i = id ∧ o = rnB ρ o') ∨ (id < st.length ∧ id ∉ rs ∧ st[id]? = some o) := by
    intro id o ho
    by_cases hid : id < st.length
    · by_cases hr : id ∈ rs
      · obtain ⟨i, hik, rfl⟩ := hmem id hr
        have : s'[i]? = some (s'[i]'(by omega)) := List.getElem?_eq_getElem (by omega)
        have h2 := hgetn i _ this
        rw [ho] at h2; cases h2
        exact .inl ⟨i, _, this, rfl, rfl⟩
      · refine .inr ⟨hid, hr, ?_⟩
        rw [List.getElem?_append_left (by rw [updAt_length]; exact hid), updAt_not rs B st hr] at ho
        exact ho
    · have hil : id < (updAt st rs B ++ X).length := (List.getElem?_eq_some_iff.1 ho).1
      have hi' : k + (id - st.length) < s'.length := by omega
      have e : ρ (k + (id - st.length)) = id := by rw [hρ2 _ (by omega)]; omega
      have h1 : s'[k + (id - st.length)]? = some (s'[k + (id - st.length)]'hi') := List.getElem?_eq_getElem hi'
      have h2 := hgetn _ _ h1
      rw [e, ho] at h2; cases h2
      exact .inl ⟨_, _, h1, e, rfl⟩
  have own3 : ∀ b, Own ι' (updAt st rs B ++ X) b → Own ιc' s' b ∨ ∃ id o, st[id]? = some o ∧ o.alive ∧ ι id = some b ∧ id ∉ rs := by
    rintro b ⟨id, o, h1, h2, h3⟩
    rcases hcase id o h1 with ⟨i, o', g1, rfl, rfl⟩ | ⟨g1, g2, g3⟩
    · have hil := (List.getElem?_eq_some_iff.1 g1).1
      exact .inl ⟨i, o', g1, rnB_alive.1 h2, ((hm i hil).2).symm.trans h3⟩
    · exact .inr ⟨id, o, g3, h2, (hsame id g1 g2) ▸ h3, g2⟩
  have mut3 : ∀ b, Mut ι' (updAt st rs B ++ X) b → Mut ιc' s' b := by
    rintro b (hb | hb)
    · exact .inl (by rw [kc.amb]; exact .inl hb)
    · rcases own3 b hb with h1 | h1
      · exact .inr h1
      · exact .inl (by rw [kc.amb]; exact .inr h1)
  have kk : Keeps (fun id => id ∉ lo.map ρ) ι w st ι' w' (updAt st rs B ++ X) := by
    refine ⟨kc.os, kc.tape, kc.output, kc.size, rfl, fun b hb hno => ?_, fun id hlo hid => ⟨by rw [hl]; omega, ?_⟩, kc.shp⟩
    case refine_2 =>
      by_cases hr : id ∈ rs
      · obtain ⟨i, hik, rfl⟩ := hmem id hr
        have hil : i ∉ lo := fun hq => hlo (List.mem_map.2 ⟨i, hq, rfl⟩)
        rw [(hm i (by omega)).2, (kc.map i hil (by omega)).2]
        exact (if_pos hik : ιc i = ι (ρ i))
      · exact hsame id hid hr
    obtain ⟨e1, e2⟩ := kc.blk b hb (fun ho => hno (own2 b ho))
    refine ⟨e1, fun ho => ?_⟩
    rcases own3 b ho with h1 | ⟨id, o, h1, h2, h3, _⟩
    · exact e2 h1
    · exact hno ⟨id, o, h1, h2, h3⟩
  have hfree : ∀ id o b, st[id]? = some o → o.alive → id ∉ rs → ι id = some b → b < w.heap.size ∧ ¬ Own ιc sc b := by
    intro id o b h1 h2 h3 h4
    refine ⟨hR.mut_lt (.inr ⟨id, o, h1, h2, h4⟩), fun hb => ?_⟩
    exact hRc.dis b hb (.inr ⟨id, o, h1, h2, h4, h3⟩)
  refine ⟨v, ι', he, ?_, hv.ren mut3 hm, kk⟩
  refine ⟨fun id o ho => ?_, fun b hb => Nat.lt_of_lt_of_le (hR.amb b hb) kc.size, fun b hb ha' => ?_, fun id id' o o' b h1 h2 a1 a2 e1 e2 => ?_, hR.glk kk⟩
  · rcases hcase id o ho with ⟨i, o', g1, rfl, rfl⟩ | ⟨g1, g2, g3⟩
    · have hil := (List.getElem?_eq_some_iff.1 g1).1
      have hobj := hRc'.obj i o' g1
      cases o' with
      | dead => trivial
      | box cells =>
        obtain ⟨b, us, ty, e3, e4, e5⟩ := hobj
        exact ⟨b, us, ty, (hm i hil).2.trans e3, e4, e5.ren mut3 hm⟩
      | raw ob =>
        obtain ⟨b, e3, e4⟩ := hobj
        exact ⟨b, (hm i hil).2.trans e3, e4⟩
      | arr sz els =>
        rcases hobj with ⟨e3, e4⟩ | ⟨b, c, ty, e3, e4, e5, e6, e7⟩
        · exact .inl ⟨(hm i hil).2.trans e3, e4⟩
        · refine .inr ⟨b, c, ty, (hm i hil).2.trans e3, e4, e5, e6, fun i' e j p x1 x2 => ?_⟩
          obtain ⟨v, y1, y2⟩ := e7 i' e j p x1 x2
          exact ⟨v, y1, y2.mono (Nat.le_refl _) (fun b _ hb => ⟨rfl, fun h' => hb (mut3 b h')⟩)⟩
    · have hobj := hR.obj id o g3
      have hsm : ι' id = ι id := hsame id g1 g2
      cases o with
      | dead => trivial
      | box cells =>
        obtain ⟨b, us, ty, e3, e4, e5⟩ := hobj
        obtain ⟨f1, f2⟩ := hfree id _ b g3 (by simp [Body.alive]) g2 e3
        exact ⟨b, us, ty, hsm.trans e3, ((kc.blk b f1 f2).1).trans e4, e5.mono kk (q := fun q => !inL (lo.map ρ) q) (fun q hq _ => (fun hm' => by rw [inL_iff.2 hm'] at hq; cases hq)) (hbox id _ g3 g2)⟩
      | raw ob =>
        obtain ⟨b, e3, e4⟩ := hobj
        obtain ⟨f1, f2⟩ := hfree id _ b g3 (by simp [Body.alive]) g2 e3
        exact ⟨b, hsm.trans e3, ((kc.blk b f1 f2).1).trans e4⟩
      | arr sz els =>
        rcases hobj with ⟨e3, e4⟩ | ⟨b, c, ty, e3, e4, e5, e6, e7⟩
        · exact .inl ⟨hsm.trans e3, e4⟩
        · obtain ⟨f1, f2⟩ := hfree id _ b g3 (by simp [Body.alive]) g2 e3
          refine .inr ⟨b, c, ty, hsm.trans e3, ((kc.blk b f1 f2).1).trans e4, e5, e6, fun i' e j p x1 x2 => ?_⟩
          obtain ⟨v, y1, y2⟩ := e7 i' e j p x1 x2
          exact ⟨v, y1, kk.pure y2⟩
  · rcases own3 b hb with h1 | ⟨id, o, h1, h2, h3, _⟩
    · exact hRc'.dis b h1 (by rw [kc.amb]; exact .inl ha')
    · exact hR.dis b ⟨id, o, h1, h2, h3⟩ ha'
  · rcases hcase id o h1 with ⟨i, p, g1, rfl, rfl⟩ | ⟨g1, g2, g3⟩
    · have hil := (List.getElem?_eq_some_iff.1 g1).1
      have i1 : ιc' i = some b := (hm i hil).2.symm.trans e1
      rcases hcase id' o' h2 with ⟨j, q, q1, rfl, rfl⟩ | ⟨q1, q2, q3⟩
      · have hjl := (List.getElem?_eq_some_iff.1 q1).1
        have i2 : ιc' j = some b := (hm j hjl).2.symm.trans e2
        exact congrArg ρ (hRc'.inj i j p q b g1 q1 (rnB_alive.1 a1) (rnB_alive.1 a2) i1 i2)
      · exfalso
        refine hRc'.dis b ⟨i, p, g1, rnB_alive.1 a1, i1⟩ ?_
        rw [kc.amb]
        exact .inr ⟨id', o', q3, a2, (hsame id' q1 q2) ▸ e2, q2⟩
    · have i1 : ι id = some b := (hsame id g1 g2) ▸ e1
      rcases hcase id' o' h2 with ⟨j, q, q1, rfl, rfl⟩ | ⟨q1, q2, q3⟩
      · exfalso
        have hjl := (List.getElem?_eq_some_iff.1 q1).1
        have i2 : ιc' j = some b := (hm j hjl).2.symm.trans e2
        refine hRc'.dis b ⟨j, q, q1, rnB_alive.1 a2, i2⟩ ?_
        rw [kc.amb]
        exact .inr ⟨id, o, g3, a1, i1, g2⟩
      · exact hR.inj id id' o o' b g3 q3 a1 a2 i1 ((hsame id' q1 q2) ▸ e2)

end

section
variable {P : Program} {n n0 : Nat} {loose an : List Nat} {Q : QT} {fr : Fr} {st : St} {c : Code} {ops : Array Oper} {X : List Nat} {l : List Oper} {tw : List (List Nat × List Nat)} {fr2 : Fr} {st2 : St}

theorem MX.le {g : Nat} {asv as' : List AV} {sc sc' : St} {lo : List Nat} {r : AV} (h : MX P g asv sc lo r sc') (hl : ALes as' asv) : MX P g as' sc lo r sc' := by
  intro ι w vs hR hA
  obtain ⟨e1, e2⟩ := ALes.get hl
  refine h ι w vs hR ⟨hA.1.trans e1, fun j v a h1 h2 => ?_⟩
  have hlt : j < as'.length := by rw [e1]; exact (List.getElem?_eq_some_iff.1 h2).1
  have h3 : as'[j]? = some as'[j] := List.getElem?_eq_getElem hlt
  exact (hA.2 j v _ h1 h3).le (e2 j _ _ h3 h2)

def calxB (L : Nat) (rs : List Nat) (sc sc' : St) (avs : List AV) : Bool :=
  ((nodupB rs && allLt L rs) && (Nat.beq rs.length sc.length && Nat.ble sc.length sc'.length)) && (stIds (fun i => Nat.ble (i + 1) sc.length) sc && avs.all (idsA (fun i => Nat.ble (i + 1) sc.length)))

/-- the other boxes do not speak of what may move -/
def othersB (rs L : List Nat) : Nat → St → Bool
  | _, [] => true
  | i, o :: l => (inL rs i || bodyIds (fun q => !inL L q) o) && othersB rs L (i + 1) l

theorem othersB_get {rs L : List Nat} : ∀ {st : St} {i : Nat}, othersB rs L i st = true → ∀ (j : Nat) o, st[j]? = some o → i + j ∉ rs → bodyIds (fun q => !inL L q) o = true
  | [], i, _, j, o, h, _ => by simp at h
  | x :: l, i, h, j, o, hj, hn => by
    simp only [othersB, Bool.and_eq_true, Bool.or_eq_true] at h
    cases j with
    | zero =>
      simp at hj; subst hj
      rcases h.1 with h1 | h1
      · exact absurd (inL_iff.1 h1) hn
      · exact h1
    | succ j => exact othersB_get h.2 j o (by simpa using hj) (by rw [show i + 1 + j = i + (j + 1) by omega]; exact hn)

theorem MX.use' {g : Nat} {avs : List AV} {sc sc' : St} {lo : List Nat} {r : AV} (h : MX P g avs sc lo r sc') {st : St} (rs : List Nat) (hb : calxB st.length rs sc sc' avs = true) (hst : rs.map (fun x => st[x]?) = sc.map (fun o => some (rnB (rho rs st.length) o)))
    (hbox : ∀ (id : Nat) o, st[id]? = some o → id ∉ rs → bodyIds (fun q => !inL (lo.map (rho rs st.length)) q) o = true)
    {ι : IM} {w : World} {vs : List Value} (hR : Rel ι w st) (hA : ARel ι w st vs (avs.map (rnA (rho rs st.length)))) :
    Calls P g vs.toArray w fun e w' => ∃ v ι', e = .returned v ∧ Rel ι' w' (updAt st rs ((sc'.take sc.length).map (rnB (rho rs st.length))) ++ (sc'.drop sc.length).map (rnB (rho rs st.length))) ∧
      AVRel ι' w' (updAt st rs ((sc'.take sc.length).map (rnB (rho rs st.length))) ++ (sc'.drop sc.length).map (rnB (rho rs st.length))) v (rnA (rho rs st.length) r) ∧
      Keeps (fun id => id ∉ lo.map (rho rs st.length)) ι w st ι' w' (updAt st rs ((sc'.take sc.length).map (rnB (rho rs st.length))) ++ (sc'.drop sc.length).map (rnB (rho rs st.length))) := by
  unfold calxB at hb
  simp only [Bool.and_eq_true] at hb
  obtain ⟨⟨⟨h1, h2⟩, h3, h4⟩, h5, h6⟩ := hb
  exact h.use rs (nodupB_get h1) h2 (Nat.eq_of_beq_eq_true h3) (Nat.le_of_ble_eq_true h4) hst h5 (fun a ha => List.all_eq_true.1 h6 a ha) hbox hR hA

/-- a call to which lists are handed over for good -/
theorem XO.calx (g : Nat) (avs : List AV) (sc sc' : St) (lo : List Nat) (r : AV) (rs : List Nat) (L : List Nat) (fr' : Fr) (st' : St) (hc : callHd P n ops l fr = some (g, avs.map (rnA (rho rs st.length)))) (h : MX P g avs sc lo r sc') (hb : calxB st.length rs sc sc' avs = true)
    (hL : lo.map (rho rs st.length) = L) (hbx : othersB rs L 0 st = true) (hfx : fixOff n0 loose L = true)
    (hst : rs.map (fun x => st[x]?) = sc.map (fun o => some (rnB (rho rs st.length) o))) (hst' : updAt st rs ((sc'.take sc.length).map (rnB (rho rs st.length))) ++ (sc'.drop sc.length).map (rnB (rho rs st.length)) = st') (hput : putHd n l (rnA (rho rs st.length) r) (keepF (fun id => !inL L id) fr) = some fr')
    (hk : XO P n n0 loose ops (l.drop 1) Q fr' st') : XO P n n0 loose ops l Q fr st := by
  cases l with
  | nil => simp [callHd] at hc
  | cons o rest =>
    simp only [callHd] at hc
    split at hc
    · rename_i hg
      intro ι w a hR hF
      obtain ⟨vs, hrun, hA⟩ := call_sound hc hF
      have hw := guard_sound hg hF
      refine wpList_step fun K hK => ?_
      rw [if_pos hw]
      simp only [Oper.wp, hrun, Oper.upon]
      refine (h.use' rs hb hst (by rw [hL]; exact fun id o ho hn => othersB_get hbx id o ho (by rwa [Nat.zero_add])) hR hA).mono ?_
      rintro e w' ⟨v, ι', rfl, hR', hv, k⟩
      rw [hst', hL] at k
      rw [hst'] at hR' hv
      refine hK _ _ (wpList_post (fun e a w h => h.trans (k.weaken (fun id hf => ?_))) (hk ι' w' _ hR' (putF_rel hput (hF.keep k (q := fun id => !inL L id) (fun id hq _ hm => by rw [inL_iff.2 hm] at hq; cases hq)) hv)))
      intro hm
      have := List.all_eq_true.1 hfx id hm
      have hf' : fixB n0 loose id = true := hf
      rw [hf'] at this
      cases this
    · simp at hc

theorem GY.calx (g : Nat) (avs : List AV) (sc sc' : St) (lo : List Nat) (r : AV) (rs L : List Nat) (fr1 : Fr) (T : List Nat) (st' : St) (ht : tw.head? = some (extT X T, T ++ L.map (· + 1000))) (hq : qOk st T = true) (hc : callHdD P n ops l fr = some (g, avs.map (rnA (rho rs st.length)))) (h : MX P g avs sc lo r sc')
    (hb : (calmB st.length rs sc sc' avs && (L.all (inL X) && L.all (inL T))) = true) (hL : lo.map (rho rs st.length) = L) (hst : rs.map (fun x => st[x]?) = sc.map (fun o => some (rnB (rho rs st.length) o))) (hst' : updAt st rs (sc'.map (rnB (rho rs st.length))) = st')
    (hT : (match hdO l with | some o => (allLks ops o fr T && dstOk n o) && (idsA (inL T) (rnA (rho rs st.length) r) && rs.all (inL T)) | none => false) = true) (hX : stIds (fun i => !inL X i) st' = true)
    (hput : (match hdO l with | some o => putL o.dst (rnA (rho rs st.length) r) (keepF (fun id => !inL L id) fr) | none => fr) = fr1)
    (hk : GX P n ops X (l.drop 1) (tw.drop 1) fr1 st' fr2 st2) : GX P n ops X l tw fr st fr2 st2 := by
  rw [tw_cons ht]
  cases ho : hdO l with
  | none => rw [ho] at hT; cases hT
  | some o =>
    rw [ho] at hT hput
    have hT2 : ((allLks ops o fr T && dstOk n o) && (idsA (inL T) (rnA (rho rs st.length) r) && rs.all (inL T))) = true := hT
    simp only [Bool.and_eq_true] at hT2
    obtain ⟨⟨t1, t2⟩, t3, t4⟩ := hT2
    have hput2 : putL o.dst (rnA (rho rs st.length) r) (keepF (fun id => !inL L id) fr) = fr1 := hput
    subst hput2
    have hl := hd_cons ho
    rw [hl] at hc ⊢
    simp only [callHdD] at hc
    split at hc
    · rename_i hg
      have hcall : callAt P o (looksR ops o fr) = some (g, avs.map (rnA (rho rs st.length))) := by
        have h2 := t2
        unfold dstOk at h2
        cases hdd : o.dst with
        | none => simpa [hdd] using hc
        | some d =>
          rw [hdd] at h2
          have h3 : Nat.ble (d + 1) n = true := h2
          simpa [hdd, h3] using hc
      simp only [Bool.and_eq_true] at hb
      have hC := calmB_get hb.1
      have hLX : ∀ x ∈ L, inL X x = true := fun x hx => List.all_eq_true.1 hb.2.1 x hx
      have hLT : ∀ x ∈ L, inL T x = true := fun x hx => List.all_eq_true.1 hb.2.2 x hx
      have hlen' : st'.length = st.length := by rw [← hst', updAt_length]
      have hrsT : ∀ x ∈ rs, inL T x = true := fun x hx => List.all_eq_true.1 t4 x hx
      have hoff : ∀ (q : St) (bs : List Body) id, inL T id = false → (updAt q rs bs)[id]? = q[id]? := fun q bs id hid => updAt_not rs bs q (fun hm => by rw [hrsT id hm] at hid; cases hid)
      refine GX.cons0 (s := ⟨rnA (rho rs st.length) r, T, T, L, st'⟩) hq ⟨dstOk_get t2, hlen', fun id hw => by rw [← hst']; exact hoff _ _ id hw, fun id h => h, fun id h => ⟨hLT id (inL_iff.1 h), hLX id (inL_iff.1 h)⟩, allLks_get t1, idsW t3, bodOf hX, .inl ⟨hg, ?_⟩⟩ hk
      intro s1 ι w act hl' hT' hX' hR hF K Q hK
      obtain ⟨vs, hrun, hA⟩ := call_sound hcall hF
      simp only [Oper.wp, hrun, Oper.upon]
      have hst1 : rs.map (fun x => s1[x]?) = sc.map (fun o => some (rnB (rho rs s1.length) o)) := by
        rw [hl', ← hst]
        exact List.map_congr_left (fun x hx => hT' x (hrsT x hx))
      rw [← hl'] at hA
      have hcx : calxB s1.length rs sc sc' avs = true := by
        have h0 := hb.1
        rw [← hl'] at h0
        unfold calmB at h0
        unfold calxB
        simp only [Bool.and_eq_true] at h0 ⊢
        obtain ⟨⟨q1, q2, q3⟩, q4⟩ := h0
        exact ⟨⟨q1, q2, Nat.ble_eq_true_of_le (by rw [Nat.eq_of_beq_eq_true q3]; exact Nat.le_refl _)⟩, q4⟩
      refine (h.use' rs hcx hst1 (by
        rw [hl', hL]
        exact fun id o ho _ => stIds_get (stIds_w hX') id o ho) hR hA).mono ?_
      rintro e w' ⟨v, ι', rfl, hR', hv, k⟩
      have z1 : sc'.take sc.length = sc' := List.take_of_length_le (by rw [hC.le]; exact Nat.le_refl _)
      have z2 : sc'.drop sc.length = [] := List.drop_of_length_le (by rw [hC.le]; exact Nat.le_refl _)
      rw [z1, z2, List.map_nil, List.append_nil, hl'] at hR' hv k
      rw [hL] at k
      have e : ovl (inL T) 0 s1 st' = updAt s1 rs (sc'.map (rnB (rho rs st.length))) := by
        refine st_ext (by rw [ovl_len _ _ _ (by omega), updAt_length, hlen', hl']) (fun id hid => ?_)
        rw [ovl_len _ _ _ (by omega)] at hid
        rw [ovl_get _ _ _ _ (by omega), Nat.zero_add]
        cases hTi : inL T id with
        | false => rw [hoff _ _ id hTi]; simp; omega
        | true =>
          simp only [Bool.true_eq_false, and_false, if_false]
          rw [← hst']
          by_cases hm : id ∈ rs
          · obtain ⟨i, hi, e⟩ := List.getElem_of_mem hm
            have h1 : rs[i]? = some id := by rw [List.getElem?_eq_getElem hi, e]
            have hi2 : i < sc'.length := by rw [hC.le, ← hC.len]; exact hi
            have h2 : (sc'.map (rnB (rho rs st.length)))[i]? = some (rnB (rho rs st.length) sc'[i]) := by simp [hi2]
            rw [updAt_get rs _ st i hC.nd h1 h2 (by omega), updAt_get rs _ s1 i hC.nd h1 h2 (by omega)]
          · rw [updAt_not rs _ st hm, updAt_not rs _ s1 hm, hT' id hTi]
      exact hK v w' ι' (by rw [e]; exact hv) (by rw [e]; exact hR') (by rw [e]; exact k.weaken (fun id hid hm => by rw [inL_iff.2 hm] at hid; cases hid))
    · simp at hc

end
end Go.SX
namespace Go.SX
open Go
set_option linter.unusedVariables false
set_option linter.unusedSimpArgs false

/-- two numbers, exchanged -/
def swp (a b : Nat) (i : Nat) : Nat := bif Nat.beq i a then b else bif Nat.beq i b then a else i

theorem Nat.beq_eq_false {i a : Nat} (h : i ≠ a) : Nat.beq i a = false := by
  cases hb : Nat.beq i a with
  | false => rfl
  | true => exact absurd (Nat.eq_of_beq_eq_true hb) h

theorem swp_a {a b : Nat} : swp a b a = b := by simp [swp]
theorem swp_b {a b : Nat} : swp a b b = a := by
  unfold swp
  cases h : Nat.beq b a with
  | true => have := Nat.eq_of_beq_eq_true h; simp [this]
  | false => simp
theorem swp_o {a b i : Nat} (h1 : i ≠ a) (h2 : i ≠ b) : swp a b i = i := by
  unfold swp
  rw [Nat.beq_eq_false h1, Nat.beq_eq_false h2]; rfl
theorem swp_swp {a b : Nat} (i : Nat) : swp a b (swp a b i) = i := by
  by_cases h1 : i = a
  · subst h1; rw [swp_a, swp_b]
  by_cases h2 : i = b
  · subst h2; rw [swp_b, swp_a]
  rw [swp_o h1 h2, swp_o h1 h2]
theorem swp_lt {a b n i : Nat} (ha : a < n) (hb : b < n) (hi : i < n) : swp a b i < n := by
  by_cases h1 : i = a
  · subst h1; rw [swp_a]; exact hb
  by_cases h2 : i = b
  · subst h2; rw [swp_b]; exact ha
  rw [swp_o h1 h2]; exact hi

def swpSt (a b : Nat) (st : St) : St := (List.range st.length).map fun i => rnB (swp a b) ((st[swp a b i]?).getD .dead)

def swpFr (a b : Nat) (fr : Fr) : Fr := fr.map fun x => (x.1, rnA (swp a b) x.2)

section
variable {n n0 : Nat} {loose : List Nat} {fr : Fr} {st : St}

theorem swpSt_len (a b : Nat) : (swpSt a b st).length = st.length := by simp [swpSt]

theorem swpSt_get {a b i : Nat} (ha : a < st.length) (hb : b < st.length) {o : Body} : (swpSt a b st)[i]? = some o ↔ ∃ o', st[swp a b i]? = some o' ∧ o = rnB (swp a b) o' := by
  unfold swpSt
  by_cases hi : i < st.length
  · have h2 := swp_lt ha hb hi
    rw [List.getElem?_map, List.getElem?_range hi, Option.map_some, List.getElem?_eq_getElem h2, Option.getD_some]
    constructor
    · intro h; exact ⟨_, rfl, (Option.some.inj h).symm⟩
    · rintro ⟨o', h, rfl⟩; cases h; rfl
  · have h2 : ¬ swp a b i < st.length := fun h => hi (by have := swp_lt ha hb h; rwa [swp_swp] at this)
    rw [List.getElem?_eq_none (by simp; omega), List.getElem?_eq_none (by omega)]
    simp

theorem swp_lk (a b : Nat) : ∀ (fr : Fr) (t : Nat), lk (swpFr a b fr) t = rnA (swp a b) (lk fr t)
  | [], _ => rfl
  | (d, av) :: fr, t => by
    simp only [swpFr, List.map_cons, lk]
    cases Nat.beq d t with
    | true => rfl
    | false => exact swp_lk a b fr t

theorem Sub.swap (a b : Nat) (fr' : Fr) (st' : St) (hlt : (Nat.ble (a + 1) st.length && Nat.ble (b + 1) st.length) = true) (hf : (fixB n0 loose a || fixB n0 loose b) = false) (hfr : swpFr a b fr = fr') (hst : swpSt a b st = st') :
    Sub n n0 loose fr st fr' st' := by
  subst hfr; subst hst
  simp only [Bool.and_eq_true] at hlt
  have ha := Nat.le_of_ble_eq_true hlt.1
  have hb := Nat.le_of_ble_eq_true hlt.2
  simp only [Bool.or_eq_false_iff] at hf
  intro ι w act hR hF
  let ι' : IM := ⟨fun i => ι (swp a b i), ι.amb⟩
  have own : ∀ x, Own ι' (swpSt a b st) x → Own ι st x := by
    rintro x ⟨i, o, h1, h2, h3⟩
    obtain ⟨o', e1, rfl⟩ := (swpSt_get ha hb).1 h1
    exact ⟨_, o', e1, rnB_alive.1 h2, h3⟩
  have hmut : ∀ x, Mut ι' (swpSt a b st) x → Mut ι st x := fun x h => h.imp id (own x)
  have hl : ∀ i, i < st.length → swp a b i < (swpSt a b st).length ∧ ι' (swp a b i) = ι i := fun i hi => ⟨by rw [swpSt_len]; exact swp_lt ha hb hi, by show ι (swp a b (swp a b i)) = ι i; rw [swp_swp]⟩
  have k : Keeps (fixP n0 loose) ι w st ι' w (swpSt a b st) :=
    ⟨rfl, rfl, rfl, Nat.le_refl _, rfl, fun x _ hm => ⟨rfl, fun hm' => hm (own x hm')⟩, fun id hfix hid => ⟨by rw [swpSt_len]; exact hid, by
      have hfix' : fixB n0 loose id = true := hfix
      show ι (swp a b id) = ι id
      rw [swp_o (by rintro rfl; rw [hf.1] at hfix'; cases hfix') (by rintro rfl; rw [hf.2] at hfix'; cases hfix')]⟩, fun x c ty fz h => ⟨c, h, rfl⟩⟩
  refine ⟨ι', ⟨fun i o hi => ?_, hR.amb, fun x hx => hR.dis x (own x hx), fun i j o o' x h1 h2 a1 a2 e1 e2 => ?_, hR.glk k⟩, ⟨hF.defers, hF.size, fun t => ?_⟩, k⟩
  · obtain ⟨o', e1, rfl⟩ := (swpSt_get ha hb).1 hi
    have := hR.obj _ o' e1
    cases o' with
    | dead => trivial
    | box cells =>
      obtain ⟨b', vs, ty, e, hb', hl'⟩ := this
      exact ⟨b', vs, ty, e, hb', hl'.ren hmut hl⟩
    | raw ob =>
      obtain ⟨b', e, hb'⟩ := this
      exact ⟨b', e, hb'⟩
    | arr sz els =>
      rcases this with ⟨e, he⟩ | ⟨b', c, ty, e, hb', g1, g2, g3⟩
      · exact .inl ⟨e, he⟩
      · refine .inr ⟨b', c, ty, e, hb', g1, g2, fun i' e' j cv a1 a2 => ?_⟩
        obtain ⟨v, hv, hr⟩ := g3 i' e' j cv a1 a2
        exact ⟨v, hv, hr.mono (Nat.le_refl _) (fun b _ hb => ⟨rfl, fun h' => hb (hmut b h')⟩)⟩
  · obtain ⟨p, p1, rfl⟩ := (swpSt_get ha hb).1 h1
    obtain ⟨q, q1, rfl⟩ := (swpSt_get ha hb).1 h2
    have := hR.inj _ _ p q x p1 q1 (rnB_alive.1 a1) (rnB_alive.1 a2) e1 e2
    rw [← swp_swp (a := a) (b := b) i, ← swp_swp (a := a) (b := b) j, this]
  · rw [swp_lk]
    exact (hF.slot t).ren hmut hl

end
end Go.SX
namespace Go.SX
open Go
section
variable {n n0 : Nat} {loose : List Nat} {fr : Fr} {st : St}

/-- the cell j of a box is seen in another way: only the value that lies there matters -/
theorem rebox1 {ι : IM} {w : World} (r : Rel ι w st) {id j : Nat} {cells : List CV} {c c' : CV} (hid : st[id]? = some (.box cells)) (hj : cells[j]? = some c)
    (h : ∀ b vs ty v, ι id = some b → w.heap[b]? = some (.cells (List.toArray vs) ty (0, 0)) → vs[j]? = some v → VRel ι w st v c') :
    Rel ι w (st.set id (.box (cells.set j c'))) ∧ Keeps all ι w st ι w (st.set id (.box (cells.set j c'))) := by
  obtain ⟨b, vs, ty, e1, e2, e3⟩ := r.obj id _ hid
  have ha : Body.alive (.box cells) := by simp [Body.alive]
  have k := keeps_set (body' := .box (cells.set j c')) hid ha e1 (Wrote.refl w b)
  refine ⟨r.set hid ha e1 (Wrote.refl w b) ⟨b, vs, ty, e1, e2, ?_⟩, k⟩
  refine LRel.mono' k ⟨by simp [e3.1], fun i v d h1 h2 => ?_⟩
  by_cases e : i = j
  · subst e
    have hlt := (List.getElem?_eq_some_iff.1 hj).1
    rw [List.getElem?_set_self hlt] at h2
    cases h2
    exact h b vs ty v e1 e2 h1
  · rw [List.getElem?_set_ne (Ne.symm e)] at h2
    exact e3.2 i v d h1 h2

/-- a list of our own that a box holds is no longer written -/
theorem Sub.killb {α : Type} (E : Enc α) (xs : List α) {fr' : Fr} (bx j id : Nat) (cells : List CV) (len : Nat) (hn : n0 ≤ id) (hb : st[bx]? = some (.box cells)) (hj : cells[j]? = some (.sl id E.sz 0 len)) (hid : st[id]? = some (.arr E.sz (E.els xs))) (hl : len = xs.length)
    (st2 : St) (hs2 : (st ++ [Body.dead]).set bx (.box (cells.set j (.sl st.length E.sz 0 len))) = st2) (hi : stIds (fun i => !Nat.beq i id) (st2.set id .dead) = true) (hf : FAF st2 (fun i => !Nat.beq i id) fr fr')
    (st' : St) (hs' : (st2.set id .dead).set bx (.box (cells.set j (.pv (.ro (E.els xs))))) = st') : Sub n n0 loose fr st fr' st' := by
  subst hs2
  subst hs'
  intro ι w a hR hF
  obtain ⟨r1, k1⟩ := dead_add (st := st) hR (ι id)
  have hlt := (List.getElem?_eq_some_iff.1 hb).1
  have hidlt := (List.getElem?_eq_some_iff.1 hid).1
  have hjl := (List.getElem?_eq_some_iff.1 hj).1
  have hne0 : id ≠ bx := by rintro rfl; rw [hb] at hid; cases hid
  have hne : ∀ v, VRel (ι.add st.length (ι id)) w (st ++ [.dead]) v (.sl id E.sz 0 len) → VRel (ι.add st.length (ι id)) w (st ++ [.dead]) v (.sl st.length E.sz 0 len) := by
    intro v hv
    have hnew : (ι.add st.length (ι id)) st.length = ι id := by simp [IM.add]
    have hold : ∀ b, (ι.add st.length (ι id)) id = b → ι id = b := by
      intro b h
      by_cases e : id = st.length
      · simp [IM.add, e] at h; rw [e]; exact h
      · simpa [IM.add, e] using h
    cases hv with
    | sl _ _ _ _ b cap hid hb hcap hc => exact .sl st.length E.sz 0 len b cap (by simp) (hnew.trans (hold _ hb)) hcap hc
    | sn _ _ hid hb => exact .sn st.length E.sz (by simp) (hnew.trans (hold _ hb))
  obtain ⟨r2, k2⟩ := rebox r1 (id := bx) (j := j) (cells := cells) (by rw [List.getElem?_append_left hlt]; exact hb) hj hne
  have k := k1.trans k2
  obtain ⟨b0, vs0, ty0, q1, q2, q3⟩ := hR.obj bx _ hb
  generalize hst2 : (st ++ [Body.dead]).set bx (.box (cells.set j (.sl st.length E.sz 0 len))) = st2 at *
  generalize hι : ι.add st.length (ι id) = ι1 at *
  have hs : SubSt (fun i => !Nat.beq i id) st2 (st2.set id .dead) := by
    refine ⟨fun i o h => ?_, fun i hq hi => by simpa using hi⟩
    rw [List.getElem?_set] at h
    split at h
    · split at h
      · cases h; exact .inl rfl
      · cases h
    · rename_i hne
      refine .inr ⟨?_, h⟩
      cases hb : Nat.beq i id with
      | false => rfl
      | true => exact absurd (Nat.eq_of_beq_eq_true hb).symm hne
  obtain ⟨r3, k3⟩ := r2.shrink hs hi
  have hid2 : st2[id]? = some (.arr E.sz (E.els xs)) := by
    rw [← hst2, List.getElem?_set_ne (Ne.symm hne0), List.getElem?_append_left hidlt]; exact hid
  have hbx2 : st2[bx]? = some (.box (cells.set j (.sl st.length E.sz 0 len))) := by
    rw [← hst2]; exact List.getElem?_set_self (by simp; omega)
  have hbx3 : (st2.set id .dead)[bx]? = some (.box (cells.set j (.sl st.length E.sz 0 len))) := by
    rw [List.getElem?_set_ne hne0]; exact hbx2
  have hι0 : ι1 bx = ι bx := (k.map bx trivial hlt).2
  obtain ⟨r4, k4⟩ := rebox1 r3 (id := bx) (j := j) (c := .sl st.length E.sz 0 len) (c' := .pv (.ro (E.els xs))) hbx3 (List.getElem?_set_self hjl) (fun b vs ty v e1 e2 e3 => by
    rw [hι0, q1] at e1; cases e1
    rw [q2] at e2
    have evs : vs0 = vs := by
      have := congrArg (fun o : Option Obj => match o with | some (.cells c _ _) => c.toList | _ => []) e2
      simpa using this
    subst evs
    have hv : VRel ι w st v (.sl id E.sz 0 len) := q3.2 j v _ e3 hj
    have hv2 : AVRel ι1 w st2 v (.one (.sl id E.sz 0 len)) := .one _ _ (hv.mono' k)
    exact cv_of (hv2.fz r2 hs hi (.one (cf_sl E xs hid2 (by simp) hl))))
  rw [List.set_set] at r4 k4
  refine ⟨ι1, r4, ⟨hF.defers, hF.size, fun t => ?_⟩, ?_⟩
  · exact (((hF.mono' k).slot t).fz r2 hs hi (hf.get t)).mono' k4
  · refine (k.weaken (fun _ _ => trivial)).trans ((k3.weaken (fun i h => ?_)).trans (k4.weaken (fun _ _ => trivial)))
    have h1 : fixB n0 loose i = true := h
    simp only [fixB, Bool.and_eq_true] at h1
    have := Nat.le_of_ble_eq_true h1.1
    have hne : ¬ i = id := by omega
    show (!Nat.beq i id) = true
    cases hb : Nat.beq i id with
    | false => rfl
    | true => exact absurd (Nat.eq_of_beq_eq_true hb) hne

end
end Go.SX
namespace Go.SX
open Go
section
variable {n n0 : Nat} {loose : List Nat} {fr : Fr} {st : St}

/-- the objects of a list of numbers; the others die -/
def maskSt (L : List Nat) : Nat → St → St
  | _, [] => []
  | i, b :: l => (bif inL L i then b else .dead) :: maskSt L (i + 1) l

theorem maskSt_get (L : List Nat) : ∀ (l : St) (i j : Nat), (maskSt L i l)[j]? = (l[j]?).map fun b => bif inL L (i + j) then b else .dead
  | [], _, _ => by simp [maskSt]
  | b :: l, i, 0 => by simp [maskSt]
  | b :: l, i, j + 1 => by simp only [maskSt, List.getElem?_cons_succ]; rw [maskSt_get L l (i + 1) j, show i + 1 + j = i + (j + 1) by omega]

theorem Sub.only {fr' : Fr} {st' : St} (L : List Nat) (m : Nat) (hL : ((List.range n0).all (inL L) && L.all (fun x => Nat.ble (x + 1) m)) = true) (hf : keepF (inL L) fr = fr') (hst : maskSt L 0 (st.take m) = st') (hi : stIds (inL L) st' = true) :
    Sub n n0 loose fr st fr' st' := by
  subst hf
  subst hst
  simp only [Bool.and_eq_true, List.all_eq_true] at hL
  intro ι w a hR hF
  have hs : SubSt (inL L) st (maskSt L 0 (st.take m)) := by
    refine ⟨fun id o h => ?_, fun id hq hid => ?_⟩
    · rw [maskSt_get, Option.map_eq_some_iff] at h
      obtain ⟨b, h1, rfl⟩ := h
      rw [Nat.zero_add]
      cases hq : inL L id with
      | false => exact .inl rfl
      | true =>
        rw [List.getElem?_take] at h1
        split at h1
        · exact .inr ⟨rfl, h1⟩
        · cases h1
    · have h1 := Nat.le_of_ble_eq_true (hL.2 id (inL_iff.1 hq))
      have h2 : (maskSt L 0 (st.take m))[id]? ≠ none := by
        rw [maskSt_get, List.getElem?_take, if_pos (show id < m from h1), List.getElem?_eq_getElem hid]; simp
      exact Nat.lt_of_not_le fun h => h2 (List.getElem?_eq_none h)
  obtain ⟨r1, k1⟩ := hR.shrink hs hi
  refine ⟨ι, r1, hF.keep k1 (q := inL L) (fun _ h _ => h), k1.weaken (fun id h => ?_)⟩
  have h1 : fixB n0 loose id = true := h
  simp only [fixB, Bool.and_eq_true] at h1
  exact hL.1 id (List.mem_range.2 (Nat.le_of_ble_eq_true h1.1))

end
end Go.SX
namespace Go.SX
open Go
set_option linter.unusedVariables false
section
variable {P : Program} {n n0 : Nat} {loose : List Nat} {Q : QT} {fr : Fr} {st : St} {c : Code} {ops : Array Oper} {fn : Func} {p : List Nat}

def condX : Code → Operand
  | .cond x _ _ => x
  | _ => .const (.bool false)

theorem zq (h : ∀ K : Fr → St → Prop, (∀ f s, XW P n n0 loose (cd fn (p ++ [1])) Q f s → K f s) → XW P n n0 loose (cd fn (p ++ [0])) (thenQ K Q) fr st)
    (he : cd fn p = .seq (cd fn (p ++ [0])) (cd fn (p ++ [1])) := by kernel_rfl) : XW P n n0 loose (cd fn p) Q fr st := XW.seq he h

theorem zc (t : Bool) (ht : t = true → XW P n n0 loose (cd fn (p ++ [0])) Q fr st) (hf : t = false → XW P n n0 loose (cd fn (p ++ [1])) Q fr st)
    (he : cd fn p = .cond (condX (cd fn p)) (cd fn (p ++ [0])) (cd fn (p ++ [1])) := by kernel_rfl) (hx : rv fr (condX (cd fn p)) = .one (.pv (.s (.bool t))) := by kernel_rfl) : XW P n n0 loose (cd fn p) Q fr st :=
  XW.cond he hx ht hf

theorem zb (id : Nat) (h : XW P n n0 loose (cd fn (p ++ [0])) (blockQ id Q) fr st) (he : cd fn p = .block id (cd fn (p ++ [0])) := by kernel_rfl) : XW P n n0 loose (cd fn p) Q fr st := XW.block he h

theorem zs (h : Q .normal fr st) (he : c = .skip := by kernel_rfl) : XW P n n0 loose c Q fr st := XW.skip he h
theorem ze (h : Q .ret fr st) (he : c = .ret := by kernel_rfl) : XW P n n0 loose c Q fr st := XW.ret he h
theorem zx (id : Nat) (h : Q (.exit id) fr st) (he : c = .exit id := by kernel_rfl) : XW P n n0 loose c Q fr st := XW.exit he h
theorem zr (h : XO P n n0 loose (regOps c) (regOps c).toList Q fr st) (he : regKind c = some false := by kernel_rfl) : XW P n n0 loose c Q fr st := XW.reg he h
theorem zd {l : List Oper} (h : Q .normal fr st) (he : l = [] := by kernel_rfl) : XO P n n0 loose ops l Q fr st := XO.done he h

def chkP (o : Option (Exit × Fr × St × List Prop)) : Option (List Prop) := match o with
  | some (.normal, _, _, ob) => some ob
  | _ => none
def rF (o : Option (Exit × Fr × St × List Prop)) : Fr := match o with
  | some (_, f, _, _) => f
  | none => []
def rS (o : Option (Exit × Fr × St × List Prop)) : St := match o with
  | some (_, _, s, _) => s
  | none => []

theorem zo {l : List Oper} (an : List Nat) (k : Nat) (ts : List Nat) (hs : HS) (ob : List Prop) (hob : AllP ob)
    (hk : XO P n n0 loose ops (l.drop k) Q (rF (runP ts (evOps P n n0 loose an ops (l.take k) fr st hs))) (rS (runP ts (evOps P n n0 loose an ops (l.take k) fr st hs))))
    (h : chkP (runP ts (evOps P n n0 loose an ops (l.take k) fr st hs)) = some ob := by kernel_rfl) : XO P n n0 loose ops l Q fr st := by
  generalize hr : runP ts (evOps P n n0 loose an ops (l.take k) fr st hs) = r at *
  match r, h with
  | some (.normal, f, s, ob'), h =>
    obtain rfl := Option.some.inj h
    exact XO.go an k ts hs f s ob' hr hob hk

theorem zg {l : List Oper} (an : List Nat) (k : Nat) (ts : List Nat)
    (hk : XO P n n0 loose ops (l.drop k) Q (rF (runP ts (evOps P n n0 loose an ops (l.take k) fr st []))) (rS (runP ts (evOps P n n0 loose an ops (l.take k) fr st []))))
    (h : chkP (runP ts (evOps P n n0 loose an ops (l.take k) fr st [])) = some [] := by kernel_rfl) : XO P n n0 loose ops l Q fr st := zo an k ts [] [] trivial hk h

/-- the same with the frame printed -/
theorem zp {l : List Oper} (an : List Nat) (k : Nat) (ts : List Nat) (hs : HS) (fr' : Fr) (st' : St) (ob : List Prop) (hob : AllP ob)
    (hk : XO P n n0 loose ops (l.drop k) Q fr' st') (h : runP ts (evOps P n n0 loose an ops (l.take k) fr st hs) = some (.normal, fr', st', ob) := by kernel_rfl) : XO P n n0 loose ops l Q fr st := XO.go an k ts hs fr' st' ob h hob hk

theorem zt {l : List Oper} (t : Nat) {B b : Bool} (hB : B = b) (h : XO P n n0 loose ops l Q ((t, vb b) :: fr) st) (hl : lk fr t = vb B := by kernel_rfl) : XO P n n0 loose ops l Q fr st := XO.setb t b hl hB h

def pF (o : Option Fr) : Fr := o.getD []

theorem za {l : List Oper} {g : Nat} {avs : List AV} {r : AV} (h : PC P g avs r) (hk : XO P n n0 loose ops (l.drop 1) Q (pF (putHd n l r fr)) st) (hc : callHd P n ops l fr = some (g, avs) := by kernel_rfl) (hp : pureAs avs = true := by kernel_rfl) (hr : pureA r = true := by kernel_rfl)
    (hput : (putHd n l r fr).isSome = true := by kernel_rfl) : XO P n n0 loose ops l Q fr st := by
  obtain ⟨f, hf⟩ := Option.isSome_iff_exists.1 hput
  rw [hf] at hk
  exact XO.callp hc h hp hr hf hk

theorem zya {l : List Oper} {fr2 : Fr} {g : Nat} {avs : List AV} {r : AV} (h : PC P g avs r) (hk : DX P n st ops (l.drop 1) (putHdD l r fr) fr2) (hc : callHdD P n ops l fr = some (g, avs) := by kernel_rfl) (hp : pureAs avs = true := by kernel_rfl) (hr : pureA r = true := by kernel_rfl) : DX P n st ops l fr fr2 :=
  DX.callp hc h hp hr rfl hk

def dF (o : Option (Fr × List Prop)) : Fr := match o with
  | some (f, _) => f
  | none => []
def dO (o : Option (Fr × List Prop)) : Option (List Prop) := o.map (·.2)

theorem zyo {l : List Oper} {fr2 : Fr} (k : Nat) (hs : HS) (ob : List Prop) (hob : AllP ob) (hk : DX P n st ops (l.drop k) (dF (runD (evDs P n st ops (l.take k) fr hs))) fr2)
    (h : dO (runD (evDs P n st ops (l.take k) fr hs)) = some ob := by kernel_rfl) : DX P n st ops l fr fr2 := by
  generalize hr : runD (evDs P n st ops (l.take k) fr hs) = r at *
  match r, h with
  | some (f, ob'), h =>
    obtain rfl := Option.some.inj h
    exact DX.go k hs f ob' hr hob hk

theorem zyg {l : List Oper} {fr2 : Fr} (k : Nat) (hk : DX P n st ops (l.drop k) (dF (runD (evDs P n st ops (l.take k) fr []))) fr2)
    (h : dO (runD (evDs P n st ops (l.take k) fr [])) = some [] := by kernel_rfl) : DX P n st ops l fr fr2 := zyo k [] [] trivial hk h

theorem zyd {l : List Oper} {fr2 : Fr} (he : l = [] := by kernel_rfl) (hf : fr = fr2 := by kernel_rfl) : DX P n st ops l fr fr2 := by subst hf; exact DX.done he

theorem zw (m : Nat) (fr' : Fr) (hs : DX P n st (regOps c) ((regOps c).toList.take m) fr fr') (hk : XO P n n0 loose (regOps c) ((regOps c).toList.drop m) Q fr' st) (he : regKind c = some true := by kernel_rfl)
    (hm : ((drawOk (regOps c) && sufOk (regOps c) m) && P.follows .mixedOrders) = true := by kernel_rfl) : XW P n n0 loose c Q fr st := XW.drwS m fr' he hm hs hk

theorem zf {r : AV} {e : Exit} (avs : List AV) (ha : AF st (fun _ => false) (resAV avs) r) (h : resAll P fr st fn.results.toList [] = some (avs, []) := by kernel_rfl) (he : e = .normal ∨ e = .ret := by first | exact .inr rfl | exact .inl rfl) : FinP P fn r e fr st :=
  FinP.fin he [] avs [] h trivial ha

theorem zk {fr' : Fr} (ts : List Nat) (h : pickF ts fr = fr' := by kernel_rfl) : Sub n n0 loose fr st fr' st := Sub.pick ts h

/-- what reads of single values ask for -/
def lob : HS → List Prop
  | [] => []
  | x :: l => (([x] : List (List PV))[0]? = some x) :: lob l
theorem lob_ok : ∀ hs : HS, AllP (lob hs)
  | [] => trivial
  | x :: l => ⟨rfl, lob_ok l⟩

theorem zu {l : List Oper} (an : List Nat) (k : Nat) (ts : List Nat) (hs : HS)
    (hk : XO P n n0 loose ops (l.drop k) Q (rF (runP ts (evOps P n n0 loose an ops (l.take k) fr st hs))) (rS (runP ts (evOps P n n0 loose an ops (l.take k) fr st hs))))
    (h : chkP (runP ts (evOps P n n0 loose an ops (l.take k) fr st hs)) = some (lob hs) := by kernel_rfl) : XO P n n0 loose ops l Q fr st := zo an k ts hs _ (lob_ok hs) hk h

theorem zv {l : List Oper} (an : List Nat) (k : Nat) (ts : List Nat) (hs : HS) (fr' : Fr) (st' : St)
    (hk : XO P n n0 loose ops (l.drop k) Q fr' st') (h : runP ts (evOps P n n0 loose an ops (l.take k) fr st hs) = some (.normal, fr', st', lob hs) := by kernel_rfl) : XO P n n0 loose ops l Q fr st := XO.go an k ts hs fr' st' _ h (lob_ok hs) hk

theorem zyu {l : List Oper} {fr2 : Fr} (k : Nat) (hs : HS) (hk : DX P n st ops (l.drop k) (dF (runD (evDs P n st ops (l.take k) fr hs))) fr2)
    (h : dO (runD (evDs P n st ops (l.take k) fr hs)) = some (lob hs) := by kernel_rfl) : DX P n st ops l fr fr2 := zyo k hs _ (lob_ok hs) hk h

theorem zyv {l : List Oper} {fr2 : Fr} (k : Nat) (hs : HS) (fr' : Fr) (hk : DX P n st ops (l.drop k) fr' fr2) (h : runD (evDs P n st ops (l.take k) fr hs) = some (fr', lob hs) := by kernel_rfl) : DX P n st ops l fr fr2 := DX.go k hs fr' _ h (lob_ok hs) hk
theorem zyp {l : List Oper} {fr2 : Fr} (k : Nat) (hs : HS) (fr' : Fr) (ob : List Prop) (hob : AllP ob) (hk : DX P n st ops (l.drop k) fr' fr2) (h : runD (evDs P n st ops (l.take k) fr hs) = some (fr', ob) := by kernel_rfl) : DX P n st ops l fr fr2 := DX.go k hs fr' ob h hob hk

theorem zW {β : Type} {b : Bool} {x y : Option β} {r : β} (h : ift b x y = some r) : (b = true ∧ x = some r) ∨ (b = false ∧ y = some r) := by
  cases b
  · exact .inr ⟨rfl, h⟩
  · exact .inl ⟨rfl, h⟩

theorem zC {β : Type} {t : Bool} {x y : Option β} {r : β} (hh : ift t x y = some r) (ht : t = true → x = some r → XW P n n0 loose (cd fn (p ++ [0])) Q fr st) (hf : t = false → y = some r → XW P n n0 loose (cd fn (p ++ [1])) Q fr st)
    (he : cd fn p = .cond (condX (cd fn p)) (cd fn (p ++ [0])) (cd fn (p ++ [1])) := by kernel_rfl) (hx : rv fr (condX (cd fn p)) = .one (.pv (.s (.bool t))) := by kernel_rfl) : XW P n n0 loose (cd fn p) Q fr st :=
  XW.cond he hx (fun q => ht q (by subst q; exact hh)) (fun q => hf q (by subst q; exact hh))

theorem zB {α β : Type} {o : Option α} {f : α → Option β} {r : β} (h : bnd o f = some r) : ∃ a, o = some a ∧ f a = some r := bnd_some h
theorem zG {β : Type} {q : Prop} [Decidable q] {x : Option β} {r : β} (h : grd q x = some r) : q ∧ x = some r := grd_some h

theorem zF {f : Nat} {args : List AV} {r : AV} (n : Nat) (fn : Func) (h : XW P n 0 [] (cd fn []) (FinP P fn r) (argsFr args 0) []) (hf : P.funcs[f]? = some fn := by kernel_rfl) (hb : fn.body = some (cd fn []) := by kernel_rfl) (hn : fn.ntmps = n := by kernel_rfl)
    (hl : Nat.ble args.length n = true := by rfl) : PC P f args r := PC.of hf hb hn (Nat.le_of_ble_eq_true hl) h

theorem zl {l : List Oper} (g : Nat) (avs : List AV) (r : AV) (fr1 : Fr) (h : PC P g avs r) (hk : XO P n n0 loose ops (l.drop 1) Q fr1 st) (hc : callHd P n ops l fr = some (g, avs) := by kernel_rfl) (hp : pureAs avs = true := by rfl) (hr : pureA r = true := by rfl)
    (hput : putHd n l r fr = some fr1 := by kernel_rfl) : XO P n n0 loose ops l Q fr st := XO.callp hc h hp hr hput hk

theorem zgv {X : List Nat} {l : List Oper} {tw : List (List Nat × List Nat)} {fr2 : Fr} {st2 : St} (k : Nat) (hs : HS) (fr' : Fr) (hk : GX P n ops X (l.drop k) (tw.drop k) fr' st fr2 st2) (h : runQ (evQs P n ops X st k l fr hs) = some (fr', tw.take k, lob hs) := by kernel_rfl) : GX P n ops X l tw fr st fr2 st2 :=
  GY.go k hs fr' _ h (lob_ok hs) hk

theorem numsOf_eK (xs : List Int) : numsOf ((eK .u8).els xs) = xs := by
  rw [(eK .u8).hels]
  simp only [numsOf, List.map_map]
  exact (List.map_congr_left (fun x _ => rfl)).trans (List.map_id xs)
theorem bytesOk_eK (xs : List Int) : bytesOk ((eK .u8).els xs) := by
  unfold bytesOk
  rw [numsOf_eK, (eK .u8).hels]; rfl
theorem strOf_eK (xs : List Int) : strOfEls ((eK .u8).els xs) = strOfNums xs := by
  unfold strOfEls
  rw [numsOf_eK]
theorem numsOf_eR (xs : List Int) : numsOf ((eK .i32).els xs) = xs := by
  rw [(eK .i32).hels]
  simp only [numsOf, List.map_map]
  exact (List.map_congr_left (fun x _ => rfl)).trans (List.map_id xs)
theorem runesOk_eR (xs : List Int) : runesOk ((eK .i32).els xs) := by
  unfold runesOk
  rw [numsOf_eR, (eK .i32).hels]; rfl
theorem strOfRunes_eR (xs : List Int) : strOfRunes ((eK .i32).els xs) = runesBytes xs := by
  unfold strOfRunes
  rw [numsOf_eR]
theorem runeEls_eR (s : ByteArray) : runeEls s = (eK .i32).els (runesS s) := by
  unfold runeEls
  rw [(eK .i32).hels]; rfl
theorem Enc.ne {α : Type} (E : Enc α) {xs : List α} (h : xs ≠ []) : E.els xs ≠ [] := by
  rw [E.hels]
  intro e
  exact h (List.map_eq_nil_iff.1 e)

/-- the bytes of a text -/
def bytesL (s : ByteArray) : List Int := s.data.toList.map fun b => (b.toNat : Int)
theorem byteEls_eq (s : ByteArray) : byteEls s = (eK .u8).els (bytesL s) := by
  rw [(eK .u8).hels]
  unfold byteEls bytesL
  rw [List.map_map]; rfl
theorem byteEls_len (s : ByteArray) : (byteEls s).length = (bytesL s).length := by simp [byteEls, bytesL]
theorem byteEls_ok (s : ByteArray) : elemsOk 1 (byteEls s) := by rw [byteEls_eq]; exact (eK .u8).ok _
theorem byteEls_lapp (ys : List Int) (s : ByteArray) : ys.length + (byteEls s).length = (ys ++ bytesL s).length := by rw [byteEls_len, List.length_append]
theorem byteEls_app (ys : List Int) (s : ByteArray) : (eK .u8).els ys ++ byteEls s = (eK .u8).els (ys ++ bytesL s) := by rw [byteEls_eq]; exact (eK .u8).app2 _ _
end
theorem Enc.cpyR {α : Type} (E : Enc α) (ys xs : List α) (off len : Nat) (h : off + len ≤ ys.length) :
    cpyL (E.els ys) off ((E.els xs).take (min (E.els xs).length len)) = E.els (cpyT ys off (xs.take (min xs.length len))) := by
  rw [← cpyT_eq (by rw [List.length_take]; omega)]
  unfold cpyL
  rw [E.hels, E.hels, E.hels]
  simp only [List.map_append, List.map_take, List.map_drop, List.length_take, List.length_map]
theorem Enc.cpy {α : Type} (E : Enc α) (ys xs : List α) (off off2 len2 len : Nat) (h : off + len ≤ ys.length) :
    cpyL (E.els ys) off ((((E.els xs).drop off2).take len2).take (min (((E.els xs).drop off2).take len2).length len)) = E.els (cpyT ys off (((xs.drop off2).take len2).take (min ((xs.drop off2).take len2).length len))) := by
  have e : ((E.els xs).drop off2).take len2 = E.els ((xs.drop off2).take len2) := by rw [E.hels, E.hels, List.map_take, List.map_drop]
  rw [e]
  exact E.cpyR ys _ off len h
theorem Enc.okc {α : Type} (E : Enc α) (xs : List α) (a b : Nat) : elemsOk E.sz (((E.els xs).drop a).take b) := fun e he => E.ok _ e (List.mem_of_mem_drop (List.mem_of_mem_take he))

abbrev vq (n : Nat) : AV := .one (.pt n 0 0 0)
abbrev vR (x : List PV) : AV := .one (.pv (.rp [x] 0 0))
theorem zj {α : Type} {a b : α} (h : some a = some b) : a = b := Option.some.inj h

end Go.SX
namespace Go.SX
open Go

structure GCivil where
  year : Int
  month : Int
  day : Int
  hour : Int
  minute : Int
  second : Int
  deriving DecidableEq

structure GTurn where
  month : Int
  week : Int
  weekday : Int
  minute : Int
  deriving DecidableEq

structure GZone where
  name : ByteArray
  offset : Int
  summer : Int
  start : GTurn
  stop : GTurn
  deriving DecidableEq

structure GWide where
  neg : Bool
  size : Int × Int × Int × Int
  deriving DecidableEq

structure GChecker where
  leaves : Int
  deriving DecidableEq

structure GTransform where
  kind : Int
  param : Int
  deriving DecidableEq

structure GCursor where
  b : List Int
  bad : Bool
  deriving DecidableEq

structure GScan where
  b : List Int
  bad : Bool
  deriving DecidableEq

structure RWide where
  below : Bool
  d : List Int
  deriving DecidableEq

structure FieldP (α : Type) where
  id : Int
  name : ByteArray
  need : Bool
  type : α

structure GType where
  kind : Int
  scale : Int
  fields : List (FieldP GType)

abbrev GField := FieldP GType

structure GLeaf where
  path : List Int
  type : GType
  df : Int
  rep : Int

structure GPath where
  leaf : GLeaf
  fields : List GField
  pos : List Int

structure GPart where
  reps : List Int
  defs : List Int
  deriving DecidableEq

structure GValue where
  kind : Int
  n : Int
  scale : Int
  s : ByteArray
  items : List GValue

structure GColumn where
  reps : List Int
  defs : List Int
  values : List GValue

structure GShredder where
  p : GPath
  c : GColumn

mutual
def GType.cells : GType → List PV
  | ⟨k, s, fs⟩ => [pi k, pi s, .ro (GType.fcells fs)]
def GType.fcells : List (FieldP GType) → List (List PV)
  | [] => []
  | f :: l => GType.fcell f :: GType.fcells l
def GType.fcell : FieldP GType → List PV
  | ⟨i, n, q, t⟩ => pi i :: .s (.string n) :: .s (.bool q) :: GType.cells t
end

mutual
def GValue.cells : GValue → List PV
  | ⟨k, n, sc, s, it⟩ => [pi k, pi n, pi sc, .s (.string s), .ro (GValue.lcells it)]
def GValue.lcells : List GValue → List (List PV)
  | [] => []
  | v :: l => GValue.cells v :: GValue.lcells l
end

theorem GType.fcells_eq : ∀ l : List (FieldP GType), GType.fcells l = l.map GType.fcell
  | [] => rfl
  | f :: l => by rw [GType.fcells, GType.fcells_eq l]; rfl

theorem GValue.lcells_eq : ∀ l : List GValue, GValue.lcells l = l.map GValue.cells
  | [] => rfl
  | f :: l => by rw [GValue.lcells, GValue.lcells_eq l]; rfl

def eField : Enc GField := ⟨6, GType.fcell, GType.fcells, GType.fcells_eq, fun ⟨_, _, _, ⟨_, _, _⟩⟩ => rfl⟩
def eType : Enc GType := .of 3 GType.cells (fun ⟨_, _, _⟩ => rfl)
def eValue : Enc GValue := ⟨5, GValue.cells, GValue.lcells, GValue.lcells_eq, fun ⟨_, _, _, _, _⟩ => rfl⟩
def eTurn : Enc GTurn := .of 4 (fun x => [pi x.month, pi x.week, pi x.weekday, pi x.minute]) (fun _ => rfl)
def eZone : Enc GZone := .of 11 (fun x => [.s (.string x.name), pi x.offset, pi x.summer, pi x.start.month, pi x.start.week, pi x.start.weekday, pi x.start.minute, pi x.stop.month, pi x.stop.week, pi x.stop.weekday, pi x.stop.minute]) (fun _ => rfl)
def eCivil : Enc GCivil := .of 6 (fun x => [pi x.year, pi x.month, pi x.day, pi x.hour, pi x.minute, pi x.second]) (fun _ => rfl)

def eTransform : Enc GTransform := .of 2 (fun x => [pi x.kind, pi x.param]) (fun _ => rfl)
def eChecker : Enc GChecker := .of 1 (fun x => [pi x.leaves]) (fun _ => rfl)

abbrev leafC (x : GLeaf) : List PV := [.ro (eI.els x.path), pi x.type.kind, pi x.type.scale, .ro (eField.els x.type.fields), pi x.df, pi x.rep]
abbrev colC (x : GColumn) : List PV := [.ro (eI.els x.reps), .ro (eI.els x.defs), .ro (eValue.els x.values)]
abbrev pathC (x : GPath) : List PV := [.ro (eI.els x.leaf.path), pi x.leaf.type.kind, pi x.leaf.type.scale, .ro (eField.els x.leaf.type.fields), pi x.leaf.df, pi x.leaf.rep, .ro (eField.els x.fields), .ro (eI.els x.pos)]
def eLeaf : Enc GLeaf := .of 6 leafC (fun _ => rfl)
def ePath : Enc GPath := .of 8 pathC (fun _ => rfl)
def eColumn : Enc GColumn := .of 3 colC (fun _ => rfl)
def ePart : Enc GPart := .of 2 (fun x => [.ro (eI.els x.reps), .ro (eI.els x.defs)]) (fun _ => rfl)
def eShredder : Enc GShredder := .of 11 (fun x => [.ro (eI.els x.p.leaf.path), pi x.p.leaf.type.kind, pi x.p.leaf.type.scale, .ro (eField.els x.p.leaf.type.fields), pi x.p.leaf.df, pi x.p.leaf.rep, .ro (eField.els x.p.fields), .ro (eI.els x.p.pos), .ro (eI.els x.c.reps), .ro (eI.els x.c.defs), .ro (eValue.els x.c.values)]) (fun _ => rfl)

structure LStep where
  char : Int
  one : Bool
  many : Bool
  deriving DecidableEq, Inhabited

def eStep : Enc LStep := .of 3 (fun x => [.s (.int .i32 x.char), .s (.bool x.one), .s (.bool x.many)]) (fun _ => rfl)

end Go.SX
namespace Go.SX
open Go Go.Shelf Go.Lib Go.Proofs Go.RowKit
set_option linter.unusedVariables false

theorem scalars_eq {ι : IM} {w : World} {st : St} : ∀ {us vs : List Value}, vs.length = us.length → (∀ (j : Nat) v a, vs[j]? = some v → (us.map fun u => AV.one (.pv (.s u)))[j]? = some a → AVRel ι w st v a) → vs = us
  | [], [], _, _ => rfl
  | [], _ :: _, h, _ => by simp at h
  | _ :: _, [], h, _ => by simp at h
  | u :: us, v :: vs, h, hA => by
    have h0 := scalar_of (hA 0 v _ rfl rfl)
    subst h0
    rw [scalars_eq (us := us) (vs := vs) (by simpa using h) (fun j x a h1 h2 => hA (j + 1) x a (by simpa using h1) (by simpa using h2))]

/-- a function of scalars that leaves what was there -/
theorem PC.below {P : Program} {f : Nat} {us : List Value} {v : Value} (hv : plain v = true)
    (h : ∀ w : World, (∀ (b : Nat) (l : List Value), glob b = some l → ∀ (i : Nat) x, l[i]? = some x → w.cell? ⟨b, i, none⟩ = some x) → Calls P f us.toArray w fun e w' => e = .returned v ∧ Below w.heap.size w w') :
    PC P f (us.map fun u => .one (.pv (.s u))) (.one (.pv (.s v))) := by
  intro ι w vs hR hA
  obtain rfl := scalars_eq (by simpa using hA.1) hA.2
  refine (h w (fun b l hb => (hR.gl b l hb).2.2)).mono ?_
  rintro e w' ⟨rfl, hb⟩
  have hx : Ext w w' := ⟨hb.os, hb.tape, hb.output, hb.size, fun b hlt => hb.block b hlt⟩
  exact ⟨v, _, [], ι, rfl, ⟨rfl, rfl⟩, hR.ext hx, .one _ _ (.pv _ _ (.s _ hv)), (hx.keeps ι []).weaken (fun _ _ => trivial)⟩

theorem tabs_of {g3 g4 : Nat} {w : World} (h3 : ∀ (i : Nat) x, firstL[i]? = some x → w.cell? ⟨g3, i, none⟩ = some x) (h4 : ∀ (i : Nat) x, accL[i]? = some x → w.cell? ⟨g4, i, none⟩ = some x) : Utf8Tabs g3 g4 w := by
  refine ⟨fun c hc => h3 c _ ?_, fun i hi => ⟨h4 _ _ ?_, h4 _ _ ?_⟩⟩
  · simp [firstL, hc]
  · simp [accL, show 2 * i < 32 by omega]
  · simp [accL, show 2 * i + 1 < 32 by omega, show (2 * i + 1) / 2 = i by omega]

theorem of_tabs {g3 g4 : Nat} {w : World} (h : Utf8Tabs g3 g4 w) : (∀ (i : Nat) x, firstL[i]? = some x → w.cell? ⟨g3, i, none⟩ = some x) ∧ (∀ (i : Nat) x, accL[i]? = some x → w.cell? ⟨g4, i, none⟩ = some x) := by
  refine ⟨fun i x hx => ?_, fun i x hx => ?_⟩
  · by_cases hi : i < 256
    · simp [firstL, hi] at hx; subst hx; exact h.1 i hi
    · simp [firstL, hi] at hx
  · by_cases hi : i < 32
    · simp only [accL, List.getElem?_map, List.getElem?_range hi, Option.map_some, Option.some.injEq] at hx
      by_cases e : i % 2 = 0
      · rw [if_pos e] at hx
        have := (h.2 (i / 2) (by omega)).1
        rw [show 2 * (i / 2) = i by omega, hx] at this
        exact this
      · rw [if_neg e] at hx
        have := (h.2 (i / 2) (by omega)).2
        rw [show 2 * (i / 2) + 1 = i by omega, hx] at this
        exact this
    · simp [accL, hi] at hx

theorem pc_validString {P : Program} {ρ : Ren} (L : Lays.n196 P ρ) (h3 : glob (ρ.g 3) = some firstL) (h4 : glob (ρ.g 4) = some accL) (s : ByteArray) (hs : s.size ≤ 9223372036854775807) :
    PC P (ρ.f 196) [.one (.pv (.s (.string s)))] (.one (.pv (.s (.bool (validD s.data.toList))))) :=
  PC.below (us := [.string s]) rfl fun w hw => Go.Proofs.Any.utf8_ValidString L s w hs (tabs_of (hw _ _ h3) (hw _ _ h4))

end Go.SX
namespace Go.SX
open Go Go.Shelf Go.Lib Go.Proofs Go.RowKit
set_option linter.unusedVariables false

/-- a function of scalars that yields two and leaves what was there -/
theorem PC.below2 {P : Program} {f : Nat} {us : List Value} {v1 v2 : Value} (hv1 : plain v1 = true) (hv2 : plain v2 = true)
    (h : ∀ w : World, (∀ (b : Nat) (l : List Value), glob b = some l → ∀ (i : Nat) x, l[i]? = some x → w.cell? ⟨b, i, none⟩ = some x) → Calls P f us.toArray w fun e w' => e = .returned (.tuple #[v1, v2]) ∧ Below w.heap.size w w') :
    PC P f (us.map fun u => .one (.pv (.s u))) (.tp [.one (.pv (.s v1)), .one (.pv (.s v2))]) := by
  intro ι w vs hR hA
  obtain rfl := scalars_eq (by simpa using hA.1) hA.2
  refine (h w (fun b l hb => (hR.gl b l hb).2.2)).mono ?_
  rintro e w' ⟨rfl, hb⟩
  have hx : Ext w w' := ⟨hb.os, hb.tape, hb.output, hb.size, fun b hlt => hb.block b hlt⟩
  refine ⟨.tuple #[v1, v2], _, [], ι, rfl, ⟨rfl, rfl⟩, hR.ext hx, ?_, (hx.keeps ι []).weaken (fun _ _ => trivial)⟩
  refine AVRel.tp [v1, v2] _ rfl (fun j v a h1 h2 => ?_)
  match j with
  | 0 => simp at h1 h2; subst h1; subst h2; exact .one _ _ (.pv _ _ (.s _ hv1))
  | 1 => simp at h1 h2; subst h1; subst h2; exact .one _ _ (.pv _ _ (.s _ hv2))
  | j + 2 => simp at h1

theorem pc_decodeRune {P : Program} {ρ : Ren} (L : Lays.n197 P ρ) (h3 : glob (ρ.g 3) = some firstL) (h4 : glob (ρ.g 4) = some accL) (s : ByteArray) :
    PC P (ρ.f 197) [.one (.pv (.s (.string s)))] (.tp [.one (.pv (.s (.int .i32 (decodeGo s).1))), .one (.pv (.s (.int .i64 (decodeGo s).2)))]) :=
  PC.below2 (us := [.string s]) rfl rfl fun w hw => Go.Proofs.Any.utf8_DecodeRuneInString L s w (tabs_of (hw _ _ h3) (hw _ _ h4))

end Go.SX
namespace Go.SX
open Go
set_option linter.unusedVariables false
set_option linter.unusedSimpArgs false

section
variable {P : Program} {n n0 : Nat} {loose an : List Nat} {Q : QT} {fr : Fr} {st : St} {c : Code} {ops : Array Oper}

/-- an operation that leaves the world -/
theorem XO.still {o : Oper} {rest : List Oper} (g : guardOk ops o fr = some true) (av : AV) {fr' : Fr} (hput : putF n o.dst av fr = some fr')
    (hrun : ∀ (ι : IM) w a, Rel ι w st → FRel n ι w st a fr → ∃ v, (execOp a.eval o).run P w = .ok (.value v) w ∧ AVRel ι w st v av)
    (hk : XO P n n0 loose ops rest Q fr' st) : XO P n n0 loose ops (o :: rest) Q fr st := by
  intro ι w a hR hF
  have hw := guard_sound g hF
  obtain ⟨v, h1, hv⟩ := hrun ι w a hR hF
  refine wpList_step fun K hK => ?_
  rw [if_pos hw]
  simp only [Oper.wp, h1, Oper.upon]
  exact hK _ _ (hk ι w _ hR (putF_rel hput hF hv))

/-- an operation that changes the world -/
theorem XO.chg {o : Oper} {rest : List Oper} (g : guardOk ops o fr = some true) {fr' : Fr} {st' : St}
    (hrun : ∀ (ι : IM) w a, Rel ι w st → FRel n ι w st a fr → ∃ v w' ι', (((execOp a.eval o).run P w = .ok (.value v) w') ∨ ((execOp a.eval o).run P w = .ok .skip w' ∧ v = undef)) ∧ Rel ι' w' st' ∧ FRel n ι' w' st' (a.put o.dst v) fr' ∧ Keeps (fixP n0 loose) ι w st ι' w' st')
    (hk : XO P n n0 loose ops rest Q fr' st') : XO P n n0 loose ops (o :: rest) Q fr st := by
  intro ι w a hR hF
  have hw := guard_sound g hF
  obtain ⟨v, w', ι', h1, hR', hF', kk⟩ := hrun ι w a hR hF
  refine wpList_step fun K hK => ?_
  rw [if_pos hw]
  have hgoal := wpList_post (fun e a w h => h.trans kk) (hk ι' w' _ hR' hF')
  rcases h1 with h1 | ⟨h1, rfl⟩
  · simp only [Oper.wp, h1, Oper.upon]; exact hK _ _ hgoal
  · simp only [Oper.wp, h1, Oper.upon]; exact hK _ _ hgoal

/-- where an element of one cell lies -/
theorem pt_one {ι : IM} {w : World} {v : Value} {id i : Nat} (h : VRel ι w st v (.pt id 1 i 0)) : VRel ι w st v (.pt id 0 0 i) := by
  cases h with
  | pt id sz i off b hid hb =>
    have := VRel.pt (ι := ι) (w := w) (st := st) id 0 0 i b hid hb
    simpa using this

/-- a cell of a box is read -/
theorem XO.ldn {o : Oper} {rest : List Oper} (g : guardOk ops o fr = some true) {t : TypeId} {x : Operand} (hop : o.op = .load t x) (id i : Nat) (cells : List CV) (cv : CV) {fr' : Fr} (hx : rv fr x = .one (.pt id 1 i 0)) (hb : st[id]? = some (.box cells)) (hc : cells[i]? = some cv)
    (hg : isAg P t = some false) (hs : tsz P t = some 1) (hput : putF n o.dst (.one cv) fr = some fr') (hk : XO P n n0 loose ops rest Q fr' st) : XO P n n0 loose ops (o :: rest) Q fr st := by
  refine XO.still g (.one cv) hput (fun ι w a hR hF => ?_) hk
  have h1 := rv_rel hF x
  rw [hx] at h1
  have hv := pt_one (cv_of h1)
  have hlt := (List.getElem?_eq_some_iff.1 hc).1
  have hcut : cutc cells i 1 = some [cv] := by
    unfold cutc
    rw [Nat.ble_eq_true_of_le (by omega), cond_true, List.drop_eq_getElem_cons hlt]
    have : cells[i] = cv := by rw [List.getElem?_eq_getElem hlt] at hc; exact Option.some.inj hc
    simp [this]
  have hld : ldAt P t (.pt id 0 0 i) st [] = some ⟨.one cv, st, [], [], none⟩ := by
    unfold ldAt
    rw [hg, hs]
    simp only [hb, Nat.beq_refl, cond_true, hcut, Option.bind_some, mkAV, Option.map_some]
  obtain ⟨u, e1, e2, _⟩ := ldAt_sound (P := P) hld trivial hR hv
  exact ⟨u, by simp [execOp, hop, e1], e2⟩

/-- a cell of a box is written -/
theorem XO.stn {o : Oper} {rest : List Oper} (g : guardOk ops o fr = some true) {t : TypeId} {x y : Operand} (hop : o.op = .store t x y) (hd : o.dst = none) (id i : Nat) (cells : List CV) (cv : CV) (hx : rv fr x = .one (.pt id 1 i 0)) (hy : rv fr y = .one cv) (hb : st[id]? = some (.box cells)) (hi : i < cells.length)
    (hs : tsz P t = some 1) {st' : St} (hst : st.set id (.box (cells.set i cv)) = st') (hk : XO P n n0 loose ops rest Q fr st') : XO P n n0 loose ops (o :: rest) Q fr st := by
  subst hst
  refine XO.chg g (fun ι w a hR hF => ?_) hk
  have h1 := rv_rel hF x
  rw [hx] at h1
  have hv := pt_one (cv_of h1)
  have h2 := rv_rel hF y
  rw [hy] at h2
  have hL := avCells_rel (cs := [cv]) h2 rfl
  have hsp : cells.take i ++ ([cv] ++ cells.drop (i + 1)) = cells.set i cv := by rw [List.set_eq_take_append_cons_drop, if_pos hi]; rfl
  have hsto : stAt P t (.pt id 0 0 i) [cv] st [] = some ⟨.j, st.set id (.box (cells.set i cv)), [], [], none⟩ := by
    unfold stAt
    rw [hs]
    simp only [List.length_singleton, Nat.beq_refl, cond_true, hb, Bool.true_and, Nat.ble_eq_true_of_le (show i + 1 ≤ cells.length by omega), hsp]
  obtain ⟨w', e1, e2, e3, _, _⟩ := stAt_sound (P := P) hsto trivial hR hv hL
  refine ⟨undef, w', ι, .inr ⟨by simp [execOp, hop, e1], rfl⟩, e2, ?_, e3.weaken (fun _ _ => trivial)⟩
  rw [hd]
  exact hF.mono' e3

/-- append to a list of our own -/
theorem XO.apn {o : Oper} {rest : List Oper} (g : guardOk ops o fr = some true) {t tx : TypeId} {d x : Operand} (hop : o.op = .call ⟨.builtin .append, #[d, x], #[t, tx]⟩) (id sz len : Nat) (els news : List (List PV)) {e : TypeId} {i : TypeInfo} {z : Value}
    (hu : P.underlying t = some (.slice e)) (hi : P.info? e = some i) (hz : i.zero = some z) (hsz : (Nat.beq z.cells.size i.size && (Nat.ble i.bytes 16384 && Nat.ble 1 i.size)) = true) (his : i.size = sz)
    (hd : rv fr d = .one (.sl id sz 0 len)) (hx : srcEls P st tx (rv fr x) = some news) (hb : st[id]? = some (.arr sz els)) (hids : stIds (stays (some id)) st = true) (hn : elemsOk sz news) (hlen : len = els.length) (hle : len + news.length ≤ 4294967296) (hfix : mvOk n0 loose (some id) = true)
    {fr' : Fr} (hput : putF n o.dst (.one (.sl id sz 0 (len + news.length))) (mvF (some id) fr) = some fr') {st' : St} (hst : st.set id (.arr sz (els ++ news)) = st') (hk : XO P n n0 loose ops rest Q fr' st') : XO P n n0 loose ops (o :: rest) Q fr st := by
  subst hst; subst his
  refine XO.chg g (fun ι w a hR hF => ?_) hk
  have hap : apAt P t tx (.one (.sl id i.size 0 len)) (rv fr x) st [] = some ⟨.one (.sl id i.size 0 (len + news.length)), st.set id (.arr i.size (els ++ news)), [elemsOk i.size news, len = els.length, len + news.length ≤ 4294967296], [], some id⟩ := by
    unfold apAt
    simp only [hu, hi, hz, hx, hsz, cond_true, hb, Nat.beq_refl, Bool.true_and, hids]
  have h1 := rv_rel hF d
  rw [hd] at h1
  obtain ⟨v, w', ι', a1, a2, a3, a4⟩ := apAt_sound (P := P) (ty := o.type) hap ⟨hn, hlen, hle, trivial⟩ hR h1 (rv_rel hF x)
  refine ⟨v, w', ι', .inl (by simp [execOp, hop, resolve, invoke, builtin, a1]), a2, putF_rel hput (mvF_rel a4 hF) a3, a4.weaken (mvOk_fix hfix)⟩

abbrev nilV : Value := .slice none 0 0
abbrev nilC : CV := .pv (.s nilV)

theorem zeroCells_nil (m : Nat) : (Builtin.zeroCells #[nilV] m).toList = List.replicate m nilV := by
  apply List.ext_getElem?
  intro j
  unfold Builtin.zeroCells
  by_cases h : j < m
  · simp [h, nilV, Nat.mod_one]
  · simp [h]

theorem LRel.nils {ι : IM} {w : World} (m : Nat) : LRel ι w st (List.replicate m nilV) (List.replicate m nilC) := by
  refine ⟨by simp, fun j v c h1 h2 => ?_⟩
  rw [List.getElem?_replicate] at h1 h2
  split at h1
  · rename_i hj
    rw [if_pos hj] at h2
    cases h1; cases h2
    exact .pv _ _ (.s _ rfl)
  · cases h1

/-- one more list behind a list of lists, in memory: what the outer list holds then -/
structure Outer (ι : IM) (w : World) (st : St) (B : Nat) (pre : List CV) (v : Value) : Prop where
  old : v = nilV ∧ pre = [] ∨ ∃ b cap e vs ty, v = .slice (some ⟨b, 0, none⟩) pre.length cap ∧ ι B = some b ∧ pre.length ≤ cap ∧ cap ≤ pre.length + e ∧ st[B]? = some (.box (pre ++ List.replicate e nilC)) ∧ w.heap[b]? = some (.cells vs.toArray ty (0, 0)) ∧ LRel ι w st vs (pre ++ List.replicate e nilC)

theorem ap_outer {ι : IM} {w : World} {B : Nat} {o : Body} (hB : st[B]? = some o) {pre : List CV} {v hv : Value} {hc : CV} (r : Rel ι w st) (hO : Outer ι w st B pre v) (hh : VRel ι w st hv hc) (hids : stIds (stays (some B)) st = true) (hci : idsC (stays (some B)) hc = true) (hpi : idsL (stays (some B)) pre = true)
    {t te ty : TypeId} {i : TypeInfo} (hu : P.underlying t = some (.slice te)) (hi : P.info? te = some i) (hz : i.zero = some nilV) (his : i.size = 1) (hby : i.bytes ≤ 16384) (hle : pre.length + 1 ≤ 4294967296) :
    ∃ v' w' ι' e', (Builtin.append_ #[t, t] ty #[v, .slice (some ⟨w.heap.size, 0, none⟩) 1 1]).run P (w.alloc (.cells #[hv] te)) = .ok v' w' ∧ Rel ι' w' (st.set B (.box (pre ++ [hc] ++ List.replicate e' nilC))) ∧
      VRel ι' w' (st.set B (.box (pre ++ [hc] ++ List.replicate e' nilC))) v' (.sl B 1 0 (pre.length + 1)) ∧ Keeps (fun id => stays (some B) id = true) ι w st ι' w' (st.set B (.box (pre ++ [hc] ++ List.replicate e' nilC))) := by
  have hBl : B < st.length := (List.getElem?_eq_some_iff.1 hB).1
  have hx1 : Ext w (w.alloc (.cells #[hv] te)) := Ext.alloc _ _
  have hsrc : Src P i.size t (.slice (some ⟨w.heap.size, 0, none⟩) 1 1) 1 [hv] (w.alloc (.cells #[hv] te)) := by
    rw [his]
    refine Src.ofSlice _ hu ⟨w.heap.size, 0, none⟩ 1 1 [hv] rfl (fun j u hj => ?_) (fun u hu => by rw [List.mem_singleton] at hu; subst hu; exact hh.oneCell)
    cases j with
    | zero => simp at hj; subst hj; rw [add_lit, cell_lit (heap_alloc_at w _)]; rfl
    | succ j => simp at hj
  have bound : (pre.length + 1) * i.bytes ≤ 140737488355328 := by
    have : (pre.length + 1) * i.bytes ≤ 4294967296 * 16384 := Nat.mul_le_mul hle hby
    omega
  have hzc : (nilV : Value).cells = #[nilV] := rfl
  -- growing: the new block
  have grow : ∀ (base : Option Addr) (cap : Nat) (olds : List Value) (hl : olds.length = pre.length) (hL : LRel ι w st olds pre) (hv0 : v = .slice base pre.length cap) (hcap : cap < pre.length + 1)
      (hold : (Builtin.firstCells i.size pre.length (.slice base pre.length cap)).run P (w.alloc (.cells #[hv] te)).drew = .ok olds.toArray (w.alloc (.cells #[hv] te)).drew),
      ∃ v' w' ι' e', (Builtin.append_ #[t, t] ty #[v, .slice (some ⟨w.heap.size, 0, none⟩) 1 1]).run P (w.alloc (.cells #[hv] te)) = .ok v' w' ∧ Rel ι' w' (st.set B (.box (pre ++ [hc] ++ List.replicate e' nilC))) ∧
      VRel ι' w' (st.set B (.box (pre ++ [hc] ++ List.replicate e' nilC))) v' (.sl B 1 0 (pre.length + 1)) ∧ Keeps (fun id => stays (some B) id = true) ι w st ι' w' (st.set B (.box (pre ++ [hc] ++ List.replicate e' nilC))) := by
    intro base cap olds hl hL hv0 hcap hold
    have hrun := run_append_grow_src (P := P) (w.alloc (.cells #[hv] te)) t t ty te i nilV hu hi hz base pre.length cap olds hold (.slice (some ⟨w.heap.size, 0, none⟩) 1 1) 1 [hv] hsrc (by omega) (by omega) (growslice_fits (by omega) bound)
    have hg := grownCap_ge (w.alloc (.cells #[hv] te)) (pre.length + 1) cap te
    generalize hG : grownCap (w.alloc (.cells #[hv] te)) (pre.length + 1) cap te = G at hrun hg
    have hx2 : Ext w ((w.alloc (.cells #[hv] te)).drew.alloc (.cells ((olds ++ [hv]).toArray ++ Builtin.zeroCells nilV.cells (G - (pre.length + 1))) te)) := hx1.trans ((Ext.drew _).trans (Ext.alloc _ _))
    have hb : w.heap.size ≤ (w.alloc (.cells #[hv] te)).heap.size := hx1.size
    have hw := heap_alloc_at (w.alloc (.cells #[hv] te)).drew (.cells ((olds ++ [hv]).toArray ++ Builtin.zeroCells nilV.cells (G - (pre.length + 1))) te)
    have hwb : (w.alloc (.cells #[hv] te)).drew.heap.size = (w.alloc (.cells #[hv] te)).heap.size := rfl
    rw [hwb] at hw
    have harr : ((olds ++ [hv]).toArray ++ Builtin.zeroCells nilV.cells (G - (pre.length + 1))) = (olds ++ [hv] ++ List.replicate (G - (pre.length + 1)) nilV).toArray := by
      rw [hzc]
      apply Array.ext'
      rw [Array.toList_append, zeroCells_nil]
    have k := keeps_remap (b := (w.alloc (.cells #[hv] te)).heap.size) (body' := .box (pre ++ [hc] ++ List.replicate (G - (pre.length + 1)) nilC)) hx2 r hB hb
    have hid : (ι.upd B (some (w.alloc (.cells #[hv] te)).heap.size)) B = some (w.alloc (.cells #[hv] te)).heap.size := by simp [IM.upd]
    refine ⟨_, _, _, G - (pre.length + 1), by rw [hv0]; exact hrun, r.remap hx2 hB hb hids ⟨_, olds ++ [hv] ++ List.replicate (G - (pre.length + 1)) nilV, te, hid, by rw [hw, harr], ?_⟩, ?_, k⟩
    · refine LRel.append (LRel.append (hL.mono k (q := stays (some B)) (fun _ h _ => h) hpi) (LRel.one (hh.mono k (q := stays (some B)) (fun _ h _ => h) hci))) (LRel.nils _)
    · have := VRel.sl (ι := ι.upd B (some (w.alloc (.cells #[hv] te)).heap.size)) (w := (w.alloc (.cells #[hv] te)).drew.alloc (.cells ((olds ++ [hv]).toArray ++ Builtin.zeroCells nilV.cells (G - (pre.length + 1))) te)) (st := st.set B (.box (pre ++ [hc] ++ List.replicate (G - (pre.length + 1)) nilC))) B 1 0 (pre.length + 1) (w.alloc (.cells #[hv] te)).heap.size G (by simpa using hBl) hid hg
        ⟨_, te, (0, 0), hw, by rw [harr]; simp; omega⟩
      simpa using this
  rcases hO.old with ⟨rfl, rfl⟩ | ⟨b, cap, e, vs, bty, rfl, hb0, hcap, hce, hbox, hheap, hL⟩
  · exact grow none 0 [] rfl LRel.nil rfl (by simp) (by simp [Builtin.firstCells])
  · have hbl := lt_of_some hheap
    have hvl : vs.length = pre.length + e := by have := hL.1; simpa using this
    have hheap1 : (w.alloc (.cells #[hv] te)).heap[b]? = some (.cells vs.toArray bty (0, 0)) := (hx1.blk b hbl).trans hheap
    by_cases hroom : pre.length + 1 ≤ cap
    · obtain ⟨e, rfl⟩ : ∃ e', e = e' + 1 := ⟨e - 1, by omega⟩
      have hfit : pre.length * i.size + [hv].length ≤ vs.toArray.size := by rw [his]; simp; omega
      have hrun := run_append_room_row (P := P) (w := w.alloc (.cells #[hv] te)) t t ty te i hu hi b pre.length cap (.slice (some ⟨w.heap.size, 0, none⟩) 1 1) 1 [hv] hsrc hroom hheap1 hfit
      have hsz2 : (vs.toArray.toList.take (pre.length * i.size) ++ [hv] ++ vs.toArray.toList.drop (pre.length * i.size + [hv].length)).toArray.size = vs.toArray.size := by rw [his]; simp; omega
      have hw := wrote_setRow (w := w.alloc (.cells #[hv] te)) hheap1 hsz2
      have r1 := r.ext hx1
      have k1 := hx1.keeps ι st
      have ha : Body.alive (.box (pre ++ List.replicate (e + 1) nilC)) := by simp [Body.alive]
      have k2 := keeps_set (body' := .box (pre ++ [hc] ++ List.replicate e nilC)) hbox ha hb0 hw
      have k := k1.trans k2
      refine ⟨_, _, ι, e, hrun, r1.set hbox ha hb0 hw ⟨b, _, bty, hb0, setRow_heap _ b _ _ bty _ hheap1, ?_⟩, ?_, k.weaken (fun _ _ => trivial)⟩
      · have hd : (pre ++ List.replicate (e + 1) nilC).drop (pre.length + 1) = List.replicate e nilC := by simp
        have ht : (pre ++ List.replicate (e + 1) nilC).take pre.length = pre := by simp
        have h1 := (hL.take pre.length)
        rw [ht] at h1
        have h2 := hL.drop (pre.length + 1)
        rw [hd] at h2
        have := LRel.mono' k (LRel.append (LRel.append h1 (LRel.one hh)) h2)
        simpa [his] using this
      · have := VRel.sl (ι := ι) (w := (w.alloc (.cells #[hv] te)).setRow b (vs.toArray.toList.take (pre.length * i.size) ++ [hv] ++ vs.toArray.toList.drop (pre.length * i.size + [hv].length)).toArray) (st := st.set B (.box (pre ++ [hc] ++ List.replicate e nilC))) B 1 0 (pre.length + 1) b cap (by simpa using hBl) hb0 hroom
          ⟨_, bty, (0, 0), setRow_heap _ b _ _ bty _ hheap1, by rw [hsz2]; simp; omega⟩
        simpa using this
    · refine grow (some ⟨b, 0, none⟩) cap (vs.take pre.length) (by simp; omega) ?_ rfl (by omega) ?_
      · have h1 := hL.take pre.length
        have ht : (pre ++ List.replicate e nilC).take pre.length = pre := by simp
        rw [ht] at h1
        exact h1
      · rw [his]
        refine run_firstCells_some _ 1 pre.length ⟨b, 0, none⟩ pre.length cap _ (by simp; omega) (fun j u hj => ?_)
        have e2' : (w.alloc (.cells #[hv] te)).drew.heap[b]? = some (.cells vs.toArray bty (0, 0)) := hheap1
        rw [add_lit, cell_lit e2']
        rw [List.getElem?_take] at hj
        split at hj
        · simpa using hj
        · cases hj

/-- a list is put behind a list of lists: its literal, and the append -/
theorem XO.bap {o1 o2 : Oper} {rest : List Oper} (g1 : guardOk ops o1 fr = some true) {t te : TypeId} {x d : Operand} {d1 : Nat} {B : Nat} {o : Body} {pre : List CV} {hc : CV}
    (hop1 : o1.op = .buildSlice t 1 #[(0, x)]) (hd1 : o1.dst = some d1) (hlt : Nat.ble (d1 + 1) n = true) (g2 : guardOk ops o2 ((d1, .j) :: fr) = some true) (hop2 : o2.op = .call ⟨.builtin .append, #[d, .tmp d1], #[t, t]⟩)
    {i : TypeInfo} (hu : P.underlying t = some (.slice te)) (hi : P.info? te = some i) (hz : i.zero = some nilV) (his : i.size = 1) (hby : Nat.ble i.bytes 16384 = true) (hle : pre.length + 1 ≤ 4294967296)
    (hx : rv fr x = .one hc) (hB : st[B]? = some o) (hids : stIds (stays (some B)) st = true) (hci : idsC (stays (some B)) hc = true) (hpi : idsL (stays (some B)) pre = true) (hfix : mvOk n0 loose (some B) = true)
    (hd : (rv ((d1, .j) :: fr) d = .one nilC ∧ pre = []) ∨ (rv ((d1, .j) :: fr) d = .one (.sl B 1 0 pre.length) ∧ ∃ e, o = .box (pre ++ List.replicate e nilC)))
    (ts : List Nat) {fr' : Fr} (hput : putF n o2.dst (.one (.sl B 1 0 (pre.length + 1))) (mvF (some B) (pickF ts ((d1, .j) :: fr))) = some fr')
    (hk : ∀ e', XO P n n0 loose ops rest Q fr' (st.set B (.box (pre ++ [hc] ++ List.replicate e' nilC)))) : XO P n n0 loose ops (o1 :: o2 :: rest) Q fr st := by
  intro ι w a hR hF
  have hw1 := guard_sound g1 hF
  have h1 := rv_rel hF x
  rw [hx] at h1
  have hh := cv_of h1
  have hn : tsz P te = some 1 := by unfold tsz; rw [hi]; simp [his]
  have hz1 : (zeroValue te).run P w = .ok nilV w := run_zero hi hz w
  have hone := hh.oneCell
  have hrun1 : (execOp a.eval o1).run P w = .ok (.value (.slice (some ⟨w.heap.size, 0, none⟩) 1 1)) (w.alloc (.cells #[a.eval x] te)) := by
    have hcells : (a.eval x).cells = #[a.eval x] := cells_of_one hone
    have hlim : ¬ 1 * 1 > 2 ^ 24 := by omega
    have h0 : ¬ 1 * 1 = 0 := by omega
    have hfill : Instr.fill (fun i => some (i * 1, 1)) ((Array.range (1 * 1)).map ((nilV : Value).cells[· % (nilV : Value).cells.size]!)) (((#[(0, x)] : Array (Nat × Operand)).map fun (i, x) => (i, a.eval x)).toList) = some #[a.eval x] := by
      have hnv : (nilV : Value).cells = #[nilV] := rfl
      rw [hnv]
      simp [Instr.fill, hcells]
      apply Array.ext'
      simp [List.range_succ]
    have hrun : (Instr.buildSlice t 1 ((#[(0, x)] : Array (Nat × Operand)).map fun (i, x) => (i, a.eval x))).run P w = .ok (.slice (some ⟨w.heap.size, 0, none⟩) 1 1) (w.alloc (.cells #[a.eval x] te)) := by
      simp only [Instr.buildSlice, Sem.run_bind, run_underlying hu, Result.andThen_ok, run_sizeOf hn, if_neg hlim, if_neg h0, Sem.run_pure, run_zero hi hz, hfill, newRow, run_newObj_alloc]
    simp only [execOp, hop1, Sem.run_bind, hrun, Result.andThen_ok, Sem.run_pure]
  have hF1 : FRel n ι w st (a.put (some d1) (.slice (some ⟨w.heap.size, 0, none⟩) 1 1)) ((d1, .j) :: fr) := hF.put (Nat.le_of_ble_eq_true hlt) (.j _)
  have hw2 := guard_sound g2 hF1
  have hval : (a.put (some d1) (.slice (some ⟨w.heap.size, 0, none⟩) 1 1)).eval (.tmp d1) = .slice (some ⟨w.heap.size, 0, none⟩) 1 1 := by
    have := Nat.le_of_ble_eq_true hlt
    simp [Act.put, Act.eval, hF.size]
    intro h; omega
  have hO : Outer ι w st B pre ((a.put (some d1) (.slice (some ⟨w.heap.size, 0, none⟩) 1 1)).eval d) := by
    refine ⟨?_⟩
    have hdr := rv_rel hF1 d
    rcases hd with ⟨e1, e2⟩ | ⟨e1, e, rfl⟩
    · rw [e1] at hdr
      exact .inl ⟨scalar_of hdr, e2⟩
    · rw [e1] at hdr
      have hv := cv_of hdr
      obtain ⟨b', vs, ty, z1, z2, z3⟩ := hR.obj B _ hB
      generalize hq : (a.put (some d1) (.slice (some ⟨w.heap.size, 0, none⟩) 1 1)).eval d = q at hv
      generalize hpl : pre.length = L at hv
      cases hv with
      | sl _ _ _ _ b cap hid hb hcap hc =>
        rw [z1] at hb; cases hb
        obtain ⟨c2, ty2, fz2, y1, y2⟩ := hc
        rw [z2] at y1; cases y1
        have hvl := z3.1
        simp at hvl y2
        refine .inr ⟨b', cap, e, vs, ty, ?_, z1, by omega, by omega, hB, z2, z3⟩
        simp [hpl]
      | sn _ _ hid hb => rw [z1] at hb; cases hb
  obtain ⟨v', w', ι', e', e1, e2, e3, e4⟩ := ap_outer (P := P) (t := t) (te := te) (ty := o2.type) hB hR hO hh hids hci hpi hu hi hz his (Nat.le_of_ble_eq_true hby) hle
  have hrun2 : (execOp (a.put (some d1) (.slice (some ⟨w.heap.size, 0, none⟩) 1 1)).eval o2).run P (w.alloc (.cells #[a.eval x] te)) = .ok (.value v') w' := by
    simp only [execOp, hop2]
    simp [resolve, invoke, builtin, hval, e1]
  have kk := e4.weaken (mvOk_fix (n0 := n0) (loose := loose) hfix)
  have hFp : FRel n ι w st (a.put (some d1) (.slice (some ⟨w.heap.size, 0, none⟩) 1 1)) (pickF ts ((d1, .j) :: fr)) := ⟨hF1.defers, hF1.size, fun t => (hF1.slot t).le ((FLe.pick ((d1, .j) :: fr) ts).get t)⟩
  have hF2 := putF_rel hput (mvF_rel e4 hFp) (.one _ _ e3)
  refine wpList_step fun K hK => ?_
  rw [if_pos hw1]
  simp only [Oper.wp, hrun1, Oper.upon]
  rw [hd1]
  refine hK _ _ (wpList_step fun K2 hK2 => ?_)
  rw [if_pos hw2]
  simp only [Oper.wp, hrun2, Oper.upon]
  exact hK2 _ _ (wpList_post (fun e a w h => h.trans kk) (hk e' ι' w' _ e2 hF2))

end
end Go.SX
namespace Go.SX
open Go
set_option linter.unusedVariables false
set_option linter.unusedSimpArgs false

section
variable {α : Type} (E : Enc α)

/-- what the outer list holds: slices of the inner ones -/
def hdrs (xss : List (List α)) : List CV := xss.mapIdx fun k xs => .sl (k + 1) E.sz 0 xs.length

def inn (xss : List (List α)) : St := xss.map fun xs => .arr E.sz (E.els xs)

/-- the store of a function whose only objects are those of a list of lists -/
def nst (xss : List (List α)) (e : Nat) : St :=
  match xss with
  | [] => [.dead]
  | _ :: _ => .box (hdrs E xss ++ List.replicate e nilC) :: inn E xss

/-- what a slot holds of it -/
def oav (xss : List (List α)) : AV :=
  match xss with
  | [] => .one nilC
  | _ :: _ => .one (.sl 0 1 0 xss.length)

theorem nst_ne {xss : List (List α)} (h : xss ≠ []) (e : Nat) : nst E xss e = .box (hdrs E xss ++ List.replicate e nilC) :: inn E xss := by
  cases xss with
  | nil => exact absurd rfl h
  | cons x r => rfl

theorem oav_ne {xss : List (List α)} (h : xss ≠ []) : oav xss = .one (.sl 0 1 0 xss.length) := by
  cases xss with
  | nil => exact absurd rfl h
  | cons x r => rfl

theorem hdrs_len (xss : List (List α)) : (hdrs E xss).length = xss.length := by simp [hdrs]

theorem hdrs_get {xss : List (List α)} {k : Nat} {xs : List α} (h : xss[k]? = some xs) : (hdrs E xss)[k]? = some (.sl (k + 1) E.sz 0 xs.length) := by
  simp [hdrs, List.getElem?_mapIdx, h]

theorem hdrs_set (xss : List (List α)) (k : Nat) (xs : List α) (hk : k < xss.length) : hdrs E (xss.set k xs) = (hdrs E xss).set k (.sl (k + 1) E.sz 0 xs.length) := by
  apply List.ext_getElem?
  intro j
  by_cases e : k = j
  · subst e
    rw [hdrs_get E (xs := xs) (by rw [List.getElem?_set_self hk]), List.getElem?_set_self (by rw [hdrs_len]; exact hk)]
  · rw [List.getElem?_set_ne e]
    simp [hdrs, List.getElem?_mapIdx, List.getElem?_set_ne e]

theorem hdrs_app (xss : List (List α)) (xs : List α) : hdrs E (xss ++ [xs]) = hdrs E xss ++ [.sl (xss.length + 1) E.sz 0 xs.length] := by
  simp [hdrs, List.mapIdx_append]

theorem nst_len {xss : List (List α)} (e : Nat) : (nst E xss e).length = xss.length + 1 := by
  cases xss with
  | nil => rfl
  | cons x r => simp [nst, inn]

theorem idsL_app {q : Nat → Bool} : ∀ {a b : List CV}, idsL q a = true → idsL q b = true → idsL q (a ++ b) = true
  | [], b, _, h => h
  | x :: a, b, h, k => by
    simp only [idsL, Bool.and_eq_true, List.cons_append] at h ⊢
    exact ⟨h.1, idsL_app h.2 k⟩

theorem idsL_nils {q : Nat → Bool} : ∀ e, idsL q (List.replicate e nilC) = true
  | 0 => rfl
  | e + 1 => by rw [List.replicate_succ]; simp only [idsL, idsC, Bool.true_and]; exact idsL_nils e

theorem idsL_all {q : Nat → Bool} : ∀ {l : List CV}, (∀ c ∈ l, idsC q c = true) → idsL q l = true
  | [], _ => rfl
  | x :: l, h => by
    simp only [idsL, Bool.and_eq_true]
    exact ⟨h x (List.mem_cons_self ..), idsL_all fun c hc => h c (List.mem_cons_of_mem _ hc)⟩

theorem idsL_hdrs {q : Nat → Bool} (xss : List (List α)) (h : ∀ k, k < xss.length → q (k + 1) = true) : idsL q (hdrs E xss) = true := by
  refine idsL_all fun c hc => ?_
  obtain ⟨k, hk⟩ := List.getElem?_of_mem hc
  have hlt := (List.getElem?_eq_some_iff.1 hk).1
  rw [hdrs_len] at hlt
  rw [hdrs_get E (List.getElem?_eq_getElem hlt)] at hk
  cases hk
  exact h k hlt

theorem stIds_inn {q : Nat → Bool} : ∀ xss : List (List α), stIds q (inn E xss) = true
  | [] => rfl
  | x :: r => by simp only [inn, List.map_cons, stIds, bodyIds, Bool.true_and]; exact stIds_inn r

theorem stIds_app {q : Nat → Bool} : ∀ {a b : St}, stIds q a = true → stIds q b = true → stIds q (a ++ b) = true
  | [], b, _, h => h
  | x :: a, b, h, k => by
    simp only [stIds, Bool.and_eq_true, List.cons_append] at h ⊢
    exact ⟨h.1, stIds_app h.2 k⟩

theorem stIds_nst {q : Nat → Bool} (xss : List (List α)) (e : Nat) (h : ∀ k, k < xss.length → q (k + 1) = true) : stIds q (nst E xss e) = true := by
  cases xss with
  | nil => rfl
  | cons x r =>
    simp only [nst, stIds, bodyIds, Bool.and_eq_true]
    exact ⟨idsL_app (idsL_hdrs E _ h) (idsL_nils e), stIds_inn E _⟩

end

section
variable {α : Type} (E : Enc α) {P : Program} {n n0 : Nat} {loose an : List Nat} {Q : QT} {fr : Fr} {st : St} {c : Code} {ops : Array Oper}

/-- how many lists there are -/
theorem XO.lenO {o : Oper} {rest : List Oper} (xss : List (List α)) (g : guardOk ops o fr = some true) {t te : TypeId} {x : Operand} (hop : o.op = .call ⟨.builtin .len, #[x], #[t]⟩) (hu : P.underlying t = some (.slice te)) (hx : rv fr x = oav xss)
    {fr' : Fr} (hput : putF n o.dst (.one (.pv (.s (.int .i64 ((xss.length : Nat) : Int))))) fr = some fr') (hk : XO P n n0 loose ops rest Q fr' st) : XO P n n0 loose ops (o :: rest) Q fr st := by
  refine XO.still g _ hput (fun ι w a hR hF => ?_) hk
  have h1 := rv_rel hF x
  rw [hx] at h1
  have hl : lenAt P t (oav xss) = some ((xss.length : Nat) : Int) := by
    unfold lenAt
    rw [hu]
    cases xss with
    | nil => rfl
    | cons y r => rfl
  have := run_len (P := P) (w := w) hl h1 o.type
  exact ⟨_, by simp [execOp, hop, resolve, invoke, builtin, this], .one _ _ (.pv _ _ (.s _ rfl))⟩

/-- a store begins -/
theorem Sub.nst0 : Sub n 0 loose fr [] fr (nst E ([] : List (List α)) 0) := Sub.dead 1

/-- only the outer list is named in a frame -/
theorem Sub.front {fr' : Fr} (m : Nat) (hm : 0 < m) (hf : keepF (fun id => Nat.beq id 0) fr = fr') (hi : stIds (fun id => Nat.ble (id + 1) m) (st.take m) = true) : Sub n 0 loose fr st fr' (st.take m) := by
  subst hf
  intro ι w a hR hF
  have hs : SubSt (fun id => Nat.ble (id + 1) m) st (st.take m) := by
    refine ⟨fun id o h => .inr ?_, fun id hq hid => ?_⟩
    · rw [List.getElem?_take] at h
      split at h
      · rename_i hlt; exact ⟨Nat.ble_eq_true_of_le hlt, h⟩
      · cases h
    · have := Nat.le_of_ble_eq_true hq
      simp; omega
  obtain ⟨r1, k1⟩ := hR.shrink hs hi
  refine ⟨ι, r1, hF.keep k1 (q := fun id => Nat.beq id 0) (fun id h _ => ?_), k1.weaken (fun id h => ?_)⟩
  · have := Nat.eq_of_beq_eq_true h
    subst this
    exact Nat.ble_eq_true_of_le hm
  · have h1 : fixB 0 loose id = true := h
    simp [fixB] at h1

/-- the end of an append to an inner list -/
theorem nst_fin {xss : List (List α)} {k : Nat} (hk : k < xss.length) (xs' : List α) (e : Nat) (s : CV) :
    ((((Body.box (hdrs E xss ++ List.replicate e nilC) :: inn E xss) ++ [Body.dead]).set 0 (.box ((hdrs E xss ++ List.replicate e nilC).set k s))).set (k + 1) (.arr E.sz (E.els xs'))).set 0 (.box (((hdrs E xss ++ List.replicate e nilC).set k s).set k (.sl (k + 1) E.sz 0 xs'.length))) =
      nst E (xss.set k xs') e ++ [.dead] := by
  have hne : xss.set k xs' ≠ [] := by
    intro h
    have := congrArg List.length h
    simp at this
    rw [this] at hk; simp at hk
  have hil : k < (inn E xss).length := by simp [inn]; exact hk
  have h1 : (hdrs E xss ++ List.replicate e nilC).set k (.sl (k + 1) E.sz 0 xs'.length) = hdrs E (xss.set k xs') ++ List.replicate e nilC := by
    rw [List.set_append_left k _ (by rw [hdrs_len]; exact hk), hdrs_set E xss k xs' hk]
  have h2 : (inn E xss ++ [Body.dead]).set k (.arr E.sz (E.els xs')) = inn E (xss.set k xs') ++ [Body.dead] := by
    rw [List.set_append_left k _ hil]; simp [inn, List.map_set]
  rw [nst_ne E hne]
  simp only [List.cons_append, List.set_cons_zero, List.set_cons_succ, List.set_set, h1, h2]

theorem nst_box {xss : List (List α)} {k : Nat} (hk : k < xss.length) (e : Nat) : xss ≠ [] := by rintro rfl; simp at hk

/-- the outer list behind an append of one more -/
theorem nst_more (xss : List (List α)) (xs : List α) (e e' : Nat) :
    (nst E xss e ++ [Body.arr E.sz (E.els xs)]).set 0 (.box (hdrs E xss ++ [CV.sl (xss.length + 1) E.sz 0 xs.length] ++ List.replicate e' nilC)) = nst E (xss ++ [xs]) e' := by
  have hne : xss ++ [xs] ≠ [] := by simp
  rw [nst_ne E hne, hdrs_app]
  cases xss with
  | nil => simp [nst, inn]
  | cons y r => simp [nst, inn]

theorem nst_more0 (xss : List (List α)) (e e' : Nat) :
    (((nst E xss e).set 0 (.box (hdrs E xss ++ [nilC] ++ List.replicate e' nilC))) ++ [Body.arr E.sz []]).set 0 (.box ((hdrs E xss ++ [nilC] ++ List.replicate e' nilC).set xss.length (.sl (xss.length + 1) E.sz 0 0))) = nst E (xss ++ [[]]) e' := by
  have hne : xss ++ [([] : List α)] ≠ [] := by simp
  have hs : (hdrs E xss ++ [nilC] ++ List.replicate e' nilC).set xss.length (.sl (xss.length + 1) E.sz 0 0) = hdrs E xss ++ [.sl (xss.length + 1) E.sz 0 0] ++ List.replicate e' nilC := by
    rw [List.append_assoc, List.set_append_right _ _ (by rw [hdrs_len]; exact Nat.le_refl _), hdrs_len]
    simp
  have hels : E.els [] = [] := by rw [E.hels]; rfl
  rw [nst_ne E hne, hdrs_app, hs]
  cases xss with
  | nil => simp [nst, inn, hels]
  | cons y r => simp [nst, inn, hels]

/-- a list of lists that is written no more -/
theorem Sub.nfree {t : Nat} (xss : List (List α)) (e : Nat) : Sub n 0 loose [(t, oav xss)] (nst E xss e) [(t, .one (.sl 0 1 0 xss.length))] [.arr 1 ((eL E).els xss)] := by
  cases hx : xss with
  | nil =>
    refine Sub.trans (Sub.take (n0 := 0) (fr := [(t, .one nilC)]) (st := [.dead]) (fr' := [(t, .one nilC)]) 0 (Nat.le_refl _) rfl rfl) ?_
    have := Sub.list (n := n) (n0 := 0) (loose := loose) (fr := [(t, .one nilC)]) (st := []) (t := t) (sz := 1) (by simp [lk])
    refine Sub.trans this ?_
    have h0 : (eL E).els ([] : List (List α)) = [] := by rw [Enc.hels]; rfl
    rw [h0]
    exact Sub.pick (fr' := [(t, .one (.sl 0 1 0 0))]) [t] (by simp [pickF, lk])
  | cons y r =>
    rw [← hx]
    have hne : xss ≠ [] := by rw [hx]; simp
    rw [nst_ne E hne, oav_ne hne]
    intro ι w a hR hF
    have hbox : (Body.box (hdrs E xss ++ List.replicate e nilC) :: inn E xss)[0]? = some (.box (hdrs E xss ++ List.replicate e nilC)) := rfl
    obtain ⟨b', vs, ty, e1, e2, hL⟩ := hR.obj 0 _ hbox
    have hvl : vs.length = xss.length + e := by have := hL.1; simpa [hdrs_len] using this
    have own : ∀ x, Own ι [Body.arr 1 ((eL E).els xss)] x → x = b' := by
      rintro x ⟨id, o, h1, h2, h3⟩
      cases id with
      | zero => rw [e1] at h3; exact (Option.some.inj h3).symm
      | succ id => simp at h1
    have hown : Own ι (Body.box (hdrs E xss ++ List.replicate e nilC) :: inn E xss) b' := ⟨0, _, rfl, by simp [Body.alive], e1⟩
    have k : Keeps (fun id => Nat.beq id 0 = true) ι w (Body.box (hdrs E xss ++ List.replicate e nilC) :: inn E xss) ι w [Body.arr 1 ((eL E).els xss)] :=
      ⟨rfl, rfl, rfl, Nat.le_refl _, rfl, fun x _ hm => ⟨rfl, fun hm' => by rw [own x hm'] at hm; exact hm hown⟩, fun id hid _ => ⟨by have := Nat.eq_of_beq_eq_true hid; subst this; simp, rfl⟩, fun _ c _ _ h => ⟨c, h, rfl⟩⟩
    have hpure : ∀ (i : Nat) (xs : List α) (v : Value), xss[i]? = some xs → vs[i]? = some v → PRel (Mut ι [Body.arr 1 ((eL E).els xss)]) w v (.ro (E.els xs)) := by
      intro i xs v hxs hv
      have hil := (List.getElem?_eq_some_iff.1 hxs).1
      have hget : (hdrs E xss ++ List.replicate e nilC)[i]? = some (.sl (i + 1) E.sz 0 xs.length) := by
        rw [List.getElem?_append_left (by rw [hdrs_len]; exact hil)]; exact hdrs_get E hxs
      have hvr := hL.2 i v _ hv hget
      have hin : (Body.box (hdrs E xss ++ List.replicate e nilC) :: inn E xss)[i + 1]? = some (.arr E.sz (E.els xs)) := by
        simp [inn, hxs]
      generalize hlx : xs.length = L at hvr
      cases hvr with
      | sn _ _ hid hb =>
        have : xs = [] := List.eq_nil_of_length_eq_zero hlx
        subst this
        have h0 : E.els ([] : List α) = [] := by rw [E.hels]; rfl
        rw [h0]
        exact .nl
      | sl _ _ _ _ b cap hid hb hcap hc =>
        rcases hR.obj (i + 1) _ hin with ⟨z1, _⟩ | ⟨b2, c, ty2, z1, z2, z3, z4, z5⟩
        · rw [hb] at z1; cases z1
        · rw [hb] at z1; cases z1
          have hob : Own ι (Body.box (hdrs E xss ++ List.replicate e nilC) :: inn E xss) b := ⟨i + 1, _, hin, by simp [Body.alive], hb⟩
          have hel : (E.els xs).length = L := by rw [E.len]; exact hlx
          have := PRel.ro (μ := Mut ι [Body.arr 1 ((eL E).els xss)]) (w := w) ⟨b, 0 * E.sz, none⟩ cap E.sz (E.els xs) (fun i j => c.getD (i * E.sz + j) undef) (by rw [hel]; exact hcap) z4
            (fun _ => ⟨lt_of_some z2, fun hm => by
              rcases hm with hm | hm
              · exact hR.dis b hob hm
              · have := own b hm
                subst this
                have := hR.inj 0 (i + 1) _ _ b hbox hin (by simp [Body.alive]) (by simp [Body.alive]) e1 hb
                omega⟩)
            (fun i' e' j p h1 h2 => by
              obtain ⟨u, a1, a2⟩ := z5 i' e' j p h1 h2
              rw [add_lit, cell_lit z2, Nat.zero_mul, Nat.zero_add, a1]
              simp [a1])
            (fun i' e' j p h1 h2 => by
              obtain ⟨u, a1, a2⟩ := z5 i' e' j p h1 h2
              have := k.pure a2
              simpa [a1] using this)
          rw [hel] at this
          exact this
    have hobj : ObjRel ι w [Body.arr 1 ((eL E).els xss)] 0 (.arr 1 ((eL E).els xss)) := by
      refine .inr ⟨b', vs.toArray, ty, e1, e2, by rw [Enc.len]; simp; omega, (eL E).ok xss, fun i el j p h1 h2 => ?_⟩
      rw [Enc.hels, List.getElem?_map, Option.map_eq_some_iff] at h1
      obtain ⟨xs, hxs, rfl⟩ := h1
      cases j with
      | succ j => simp [eL, Enc.of] at h2
      | zero =>
        have hp : p = .ro (E.els xs) := by simp [eL, Enc.of] at h2; exact h2.symm
        subst hp
        have hil := (List.getElem?_eq_some_iff.1 hxs).1
        have hv : vs[i]? = some vs[i] := List.getElem?_eq_getElem (by omega)
        refine ⟨vs[i], ?_, hpure i xs _ hxs hv⟩
        simp [hv]
    refine ⟨ι, ⟨fun id o ho => ?_, hR.amb, fun x hx => ?_, fun id id' o o' x h1 h2 a1 a2 q1 q2 => ?_, hR.glk k⟩, hF.keep k (q := fun id => Nat.beq id 0) (fun _ h _ => h), k.weaken (fun id h => ?_)⟩
    · cases id with
      | zero => simp at ho; subst ho; exact hobj
      | succ id => simp at ho
    · rw [own x hx]; exact hR.dis _ hown
    · have := (List.getElem?_eq_some_iff.1 h1).1
      have := (List.getElem?_eq_some_iff.1 h2).1
      simp at *
      omega
    · have h1 : fixB 0 loose id = true := h
      simp [fixB] at h1

end
end Go.SX
namespace Go.SX
open Go
set_option linter.unusedVariables false
set_option linter.unusedSimpArgs false

def ldnHd (P : Program) (ops : Array Oper) (l : List Oper) (fr : Fr) : Option (Nat × Nat) :=
  match l with
  | [] => none
  | o :: _ => match guardOk ops o fr with
    | some true => match o.op with
      | .load t x => match rv fr x with
        | .one (.pt id sz i off) => match isAg P t, tsz P t with
          | some false, some m => bif Nat.beq sz 1 && (Nat.beq off 0 && Nat.beq m 1) then some (id, i) else none
          | _, _ => none
        | _ => none
      | _ => none
    | _ => none

def stnHd (P : Program) (ops : Array Oper) (l : List Oper) (fr : Fr) : Option (Nat × Nat × CV) :=
  match l with
  | [] => none
  | o :: _ => match guardOk ops o fr with
    | some true => match o.op, o.dst with
      | .store t x y, none => match rv fr x, rv fr y, tsz P t with
        | .one (.pt id sz i off), .one cv, some m => bif Nat.beq sz 1 && (Nat.beq off 0 && Nat.beq m 1) then some (id, i, cv) else none
        | _, _, _ => none
      | _, _ => none
    | _ => none

def apnHd (P : Program) (ops : Array Oper) (l : List Oper) (fr : Fr) : Option (Nat × Nat × Nat × List (List PV)) :=
  match l with
  | [] => none
  | o :: _ => match guardOk ops o fr with
    | some true => match o.op with
      | .call ⟨.builtin .append, args, tys⟩ => match args.toList, tys.toList with
        | [d, x], [t, tx] => match P.underlying t, P.underlying tx, rv fr d, rv fr x with
          | some (.slice e), some (.slice _), .one (.sl id sz off len), .one (.pv (.ro news)) => match P.info? e with
            | some i => match i.zero with
              | some z => bif (Nat.beq z.cells.size i.size && (Nat.ble i.bytes 16384 && Nat.ble 1 i.size)) && (Nat.beq i.size sz && Nat.beq off 0) then some (id, sz, len, news) else none
              | none => none
            | none => none
          | _, _, _, _ => none
        | _, _ => none
      | _ => none
    | _ => none

def lenHd (P : Program) (ops : Array Oper) (l : List Oper) (fr : Fr) : Option AV :=
  match l with
  | [] => none
  | o :: _ => match guardOk ops o fr with
    | some true => match o.op with
      | .call ⟨.builtin .len, args, tys⟩ => match args.toList, tys.toList with
        | [x], [t] => match P.underlying t with
          | some (.slice _) => some (rv fr x)
          | _ => none
        | _, _ => none
      | _ => none
    | _ => none

def bs1Hd (P : Program) (ops : Array Oper) (l : List Oper) (fr : Fr) : Option PV :=
  match l with
  | [] => none
  | o :: _ => match guardOk ops o fr with
    | some true => match o.op with
      | .buildSlice t m parts => match parts.toList, P.underlying t with
        | [(j, x)], some (.slice te) => match rv fr x, P.info? te with
          | .one (.pv p), some i => match i.zero with
            | some (.int _ _) => bif Nat.beq m 1 && (Nat.beq j 0 && Nat.beq i.size 1) then some p else none
            | _ => none
          | _, _ => none
        | _, _ => none
      | _ => none
    | _ => none

def bapHd (P : Program) (n : Nat) (ops : Array Oper) (l : List Oper) (fr : Fr) : Option (AV × AV × Nat) :=
  match l with
  | o1 :: o2 :: _ => match guardOk ops o1 fr, o1.dst with
    | some true, some d1 => match guardOk ops o2 ((d1, .j) :: fr), o1.op, o2.op with
      | some true, .buildSlice t m parts, .call ⟨.builtin .append, args, tys⟩ => match parts.toList, args.toList, tys.toList, P.underlying t with
        | [(j, x)], [d, .tmp d1'], [t', tx], some (.slice te) => match P.info? te with
          | some i => match i.zero with
            | some (.slice none 0 0) => bif (Nat.beq m 1 && (Nat.beq j 0 && Nat.beq i.size 1)) && ((Nat.beq d1 d1' && (Nat.beq t t' && Nat.beq t tx)) && (Nat.ble i.bytes 16384 && Nat.ble (d1 + 1) n)) then some (rv fr x, rv ((d1, .j) :: fr) d, d1) else none
            | _ => none
          | none => none
        | _, _, _, _ => none
      | _, _, _ => none
    | _, _ => none
  | _ => none

theorem at_ne {α : Type} {xs : List α} {i : Int} {e : α} (h : at? xs i = some e) : xs ≠ [] := by
  rintro rfl
  unfold at? at h
  split at h <;> simp at h

section
variable {α : Type} (E : Enc α) {P : Program} {n : Nat} {loose an : List Nat} {Q : QT} {fr : Fr} {st : St} {c : Code} {ops : Array Oper} {l : List Oper}

/-- the slice of an inner list is read -/
theorem znl (xss : List (List α)) (e k : Nat) (xs : List α) (fr' : Fr) (hne : xss ≠ []) (hxs : xss[k]? = some xs) (hk : XO P n 0 loose ops (l.drop 1) Q fr' (nst E xss e))
    (hc : ldnHd P ops l fr = some (0, k) := by kernel_rfl) (hput : putHd n l (.one (.sl (k + 1) E.sz 0 xs.length)) fr = some fr' := by kernel_rfl) : XO P n 0 loose ops l Q fr (nst E xss e) := by
  cases l with
  | nil => simp [ldnHd] at hc
  | cons o rest =>
    simp only [ldnHd] at hc
    split at hc
    · rename_i hg
      split at hc
      · rename_i t x hop
        split at hc
        · rename_i id sz i off hx
          split at hc
          · rename_i m h1 h2
            cases hb : (Nat.beq sz 1 && (Nat.beq off 0 && Nat.beq m 1)) with
            | false => simp [hb] at hc
            | true =>
              simp only [hb, cond_true, Option.some.injEq, Prod.mk.injEq] at hc
              obtain ⟨rfl, rfl⟩ := hc
              simp only [Bool.and_eq_true] at hb
              have b1 := Nat.eq_of_beq_eq_true hb.1
              have b2 := Nat.eq_of_beq_eq_true hb.2.1
              have b3 := Nat.eq_of_beq_eq_true hb.2.2
              subst b1; subst b2; subst b3
              have hlt := (List.getElem?_eq_some_iff.1 hxs).1
              refine XO.ldn hg hop 0 i _ _ hx (by rw [nst_ne E hne]; rfl) ?_ h1 h2 hput hk
              rw [List.getElem?_append_left (by rw [hdrs_len]; exact hlt)]
              exact hdrs_get E hxs
          · cases hc
        · cases hc
      · cases hc
    · cases hc

/-- how many lists there are -/
theorem znn (xss : List (List α)) (fr' : Fr) (hk : XO P n 0 loose ops (l.drop 1) Q fr' st) (hc : lenHd P ops l fr = some (oav xss) := by kernel_rfl) (hput : putHd n l (.one (.pv (.s (.int .i64 ((xss.length : Nat) : Int))))) fr = some fr' := by kernel_rfl) : XO P n 0 loose ops l Q fr st := by
  cases l with
  | nil => simp [lenHd] at hc
  | cons o rest =>
    simp only [lenHd] at hc
    split at hc
    · rename_i hg
      split at hc
      · rename_i args tys hop
        split at hc
        · rename_i x t h1 h2
          split at hc
          · rename_i te hu
            have e1 : args = #[x] := Array.ext' (by simpa using h1)
            have e2 : tys = #[t] := Array.ext' (by simpa using h2)
            subst e1; subst e2
            exact XO.lenO xss hg hop hu (Option.some.inj hc) hput hk
          · cases hc
        · cases hc
      · cases hc
    · cases hc

theorem apn_hd {id sz len : Nat} {news : List (List PV)} (hc : apnHd P ops l fr = some (id, sz, len, news)) : ∃ o rest d x t tx te te2 i z, l = o :: rest ∧ guardOk ops o fr = some true ∧ o.op = .call ⟨.builtin .append, #[d, x], #[t, tx]⟩ ∧
    P.underlying t = some (.slice te) ∧ P.underlying tx = some (.slice te2) ∧ P.info? te = some i ∧ i.zero = some z ∧ (Nat.beq z.cells.size i.size && (Nat.ble i.bytes 16384 && Nat.ble 1 i.size)) = true ∧ i.size = sz ∧ rv fr d = .one (.sl id sz 0 len) ∧ rv fr x = .one (.pv (.ro news)) := by
  cases l with
  | nil => simp [apnHd] at hc
  | cons o rest =>
    simp only [apnHd] at hc
    split at hc
    · rename_i hg
      split at hc
      · rename_i args tys hop
        split at hc
        · rename_i d x t tx h1 h2
          split at hc
          · rename_i te te2 id sz off len news hu hu2 hd hx
            split at hc
            · rename_i i hi
              split at hc
              · rename_i z hz
                cases hb : ((Nat.beq z.cells.size i.size && (Nat.ble i.bytes 16384 && Nat.ble 1 i.size)) && (Nat.beq i.size sz && Nat.beq off 0)) with
                | false => simp [hb] at hc
                | true =>
                  simp only [hb, cond_true, Option.some.injEq, Prod.mk.injEq] at hc
                  obtain ⟨rfl, rfl, rfl, rfl⟩ := hc
                  rw [Bool.and_eq_true, Bool.and_eq_true (Nat.beq i.size sz)] at hb
                  obtain ⟨b1, b2, b3⟩ := hb
                  have b3 := Nat.eq_of_beq_eq_true b3
                  subst b3
                  have e1 : args = #[d, x] := Array.ext' (by simpa using h1)
                  have e2 : tys = #[t, tx] := Array.ext' (by simpa using h2)
                  subst e1; subst e2
                  exact ⟨o, rest, d, x, t, tx, te, te2, i, z, rfl, hg, hop, hu, hu2, hi, hz, b1, Nat.eq_of_beq_eq_true b2, hd, hx⟩
              · cases hc
            · cases hc
          · cases hc
        · cases hc
      · cases hc
    · cases hc

theorem stn_hd {id i : Nat} {cv : CV} (hc : stnHd P ops l fr = some (id, i, cv)) : ∃ o rest t x y, l = o :: rest ∧ guardOk ops o fr = some true ∧ o.op = .store t x y ∧ o.dst = none ∧ rv fr x = .one (.pt id 1 i 0) ∧ rv fr y = .one cv ∧ tsz P t = some 1 := by
  cases l with
  | nil => simp [stnHd] at hc
  | cons o rest =>
    simp only [stnHd] at hc
    split at hc
    · rename_i hg
      split at hc
      · rename_i t x y hop hdst
        split at hc
        · rename_i id sz i off cv m hx hy h1
          cases hb : (Nat.beq sz 1 && (Nat.beq off 0 && Nat.beq m 1)) with
          | false => simp [hb] at hc
          | true =>
            simp only [hb, cond_true, Option.some.injEq, Prod.mk.injEq] at hc
            obtain ⟨rfl, rfl, rfl⟩ := hc
            simp only [Bool.and_eq_true] at hb
            have b1 := Nat.eq_of_beq_eq_true hb.1
            have b2 := Nat.eq_of_beq_eq_true hb.2.1
            have b3 := Nat.eq_of_beq_eq_true hb.2.2
            subst b1; subst b2; subst b3
            exact ⟨o, rest, t, x, y, rfl, hg, hop, hdst, hx, hy, h1⟩
        · cases hc
      · cases hc
    · cases hc

/-- append to an inner list; the frame keeps what is not an inner list -/
theorem XO.apk {id sz len : Nat} {els news : List (List PV)} (hc : apnHd P ops l fr = some (id, sz, len, news)) (h0 : id ≠ 0) (hb : st[id]? = some (.arr sz els)) (hids : stIds (stays (some id)) st = true) (hn : elemsOk sz news) (hlen : len = els.length) (hle : len + news.length ≤ 4294967296)
    {fr' : Fr} (hput : putHd n l (.one (.sl id sz 0 (len + news.length))) (keepF (fun id => Nat.beq id 0) fr) = some fr') (hk : XO P n 0 loose ops (l.drop 1) Q fr' (st.set id (.arr sz (els ++ news)))) : XO P n 0 loose ops l Q fr st := by
  obtain ⟨o, rest, d, x, t, tx, te, te2, i, z, rfl, hg, hop, hu, hu2, hi, hz, hsz, his, hd, hx⟩ := apn_hd hc
  subst his
  refine XO.chg hg (fun ι w a hR hF => ?_) hk
  have hap : apAt P t tx (.one (.sl id i.size 0 len)) (rv fr x) st [] = some ⟨.one (.sl id i.size 0 (len + news.length)), st.set id (.arr i.size (els ++ news)), [elemsOk i.size news, len = els.length, len + news.length ≤ 4294967296], [], some id⟩ := by
    have hsrc : srcEls P st tx (rv fr x) = some news := by unfold srcEls; rw [hu2, hx]; rfl
    unfold apAt
    simp only [hu, hi, hz, hsrc, hsz, cond_true, hb, Nat.beq_refl, Bool.true_and, hids]
  have h1 := rv_rel hF d
  rw [hd] at h1
  obtain ⟨v, w', ι', a1, a2, a3, a4⟩ := apAt_sound (P := P) (ty := o.type) hap ⟨hn, hlen, hle, trivial⟩ hR h1 (rv_rel hF x)
  have hF' := hF.keep a4 (q := fun id => Nat.beq id 0) (fun j hj _ => by
    have := Nat.eq_of_beq_eq_true hj
    subst this
    show (!Nat.beq 0 id) = true
    have : Nat.beq 0 id = false := by
      cases hq : Nat.beq 0 id with
      | false => rfl
      | true => exact absurd (Nat.eq_of_beq_eq_true hq).symm h0
    rw [this]; rfl)
  refine ⟨v, w', ι', .inl (by simp [execOp, hop, resolve, invoke, builtin, a1]), a2, putF_rel hput hF' a3, a4.weaken (fun j hj => ?_)⟩
  have h1 : fixB 0 loose j = true := hj
  simp [fixB] at h1

theorem beq_ne {a b : Nat} (h : a ≠ b) : Nat.beq a b = false := by
  cases hq : Nat.beq a b with
  | false => rfl
  | true => exact absurd (Nat.eq_of_beq_eq_true hq) h

/-- an inner list grows, and is put back: append, address, store; the frame keeps what is not an inner list -/
theorem zna (xss : List (List α)) (e k : Nat) (xs ys : List α) (fr1 fr2 fr' : Fr) (hne : xss ≠ []) (hxs : xss[k]? = some xs) (hle : xs.length + ys.length ≤ 4294967296)
    (hq : ∀ st' : St, XO P n 0 loose ops ((l.drop 1).drop 1) Q fr2 st' → XO P n 0 loose ops (l.drop 1) Q fr1 st')
    (hk : XO P n 0 loose ops (((l.drop 1).drop 1).drop 1) Q fr' (nst E (xss.set k (xs ++ ys)) e))
    (hc : apnHd P ops l fr = some (k + 1, E.sz, xs.length, E.els ys) := by kernel_rfl)
    (hput : putHd n l (.one (.sl (k + 1) E.sz 0 (xs.length + (E.els ys).length))) (keepF (fun id => Nat.beq id 0) fr) = some fr1 := by kernel_rfl)
    (hs : stnHd P ops ((l.drop 1).drop 1) fr2 = some (0, k, .sl (k + 1) E.sz 0 (xs.length + (E.els ys).length)) := by kernel_rfl)
    (hf : keepF (fun id => Nat.beq id 0) fr2 = fr' := by kernel_rfl) : XO P n 0 loose ops l Q fr (nst E xss e) := by
  have hkl := (List.getElem?_eq_some_iff.1 hxs).1
  have hel : (E.els ys).length = ys.length := E.len ys
  have hC : (hdrs E xss ++ List.replicate e nilC)[k]? = some (.sl (k + 1) E.sz 0 xs.length) := by
    rw [List.getElem?_append_left (by rw [hdrs_len]; exact hkl)]; exact hdrs_get E hxs
  have hCl : k < (hdrs E xss ++ List.replicate e nilC).length := by rw [List.length_append, hdrs_len]; omega
  have hfin := nst_fin E hkl (xs ++ ys) e (.sl (Body.box (hdrs E xss ++ List.replicate e nilC) :: inn E xss).length E.sz 0 xs.length)
  rw [nst_ne E hne e]
  refine XO.sub (Sub.stale 0 k (k + 1) E.sz 0 xs.length _ rfl hC _ rfl) ?_
  have hlenS : (Body.box (hdrs E xss ++ List.replicate e nilC) :: inn E xss).length = xss.length + 1 := by simp [inn]
  have hin : (((Body.box (hdrs E xss ++ List.replicate e nilC) :: inn E xss) ++ [Body.dead]).set 0 (.box ((hdrs E xss ++ List.replicate e nilC).set k (.sl (Body.box (hdrs E xss ++ List.replicate e nilC) :: inn E xss).length E.sz 0 xs.length))))[k + 1]? = some (.arr E.sz (E.els xs)) := by
    simp only [List.cons_append, List.set_cons_zero, List.getElem?_cons_succ]
    rw [List.getElem?_append_left (by simp [inn]; exact hkl)]
    simp [inn, hxs]
  have hids : stIds (stays (some (k + 1))) (((Body.box (hdrs E xss ++ List.replicate e nilC) :: inn E xss) ++ [Body.dead]).set 0 (.box ((hdrs E xss ++ List.replicate e nilC).set k (.sl (Body.box (hdrs E xss ++ List.replicate e nilC) :: inn E xss).length E.sz 0 xs.length)))) = true := by
    rw [hlenS]
    simp only [List.cons_append, List.set_cons_zero, stIds, bodyIds, Bool.and_eq_true]
    refine ⟨idsL_all fun c hc => ?_, stIds_app (stIds_inn E xss) rfl⟩
    obtain ⟨j, hj⟩ := List.getElem?_of_mem hc
    by_cases hjk : j = k
    · subst hjk
      rw [List.getElem?_set_self hCl] at hj
      cases hj
      show (!Nat.beq (xss.length + 1) (j + 1)) = true
      rw [beq_ne (by omega)]; rfl
    · rw [List.getElem?_set_ne (Ne.symm hjk)] at hj
      by_cases hjl : j < xss.length
      · rw [List.getElem?_append_left (by rw [hdrs_len]; exact hjl), hdrs_get E (List.getElem?_eq_getElem hjl)] at hj
        cases hj
        show (!Nat.beq (j + 1) (k + 1)) = true
        rw [beq_ne (by omega)]; rfl
      · rw [List.getElem?_append_right (by rw [hdrs_len]; omega), List.getElem?_replicate] at hj
        split at hj
        · cases hj; rfl
        · cases hj
  have hbox : ((((Body.box (hdrs E xss ++ List.replicate e nilC) :: inn E xss) ++ [Body.dead]).set 0 (.box ((hdrs E xss ++ List.replicate e nilC).set k (.sl (Body.box (hdrs E xss ++ List.replicate e nilC) :: inn E xss).length E.sz 0 xs.length)))).set (k + 1) (.arr E.sz (E.els xs ++ E.els ys)))[0]? = some (.box ((hdrs E xss ++ List.replicate e nilC).set k (.sl (Body.box (hdrs E xss ++ List.replicate e nilC) :: inn E xss).length E.sz 0 xs.length))) := by
    rw [List.getElem?_set_ne (by omega)]; rfl
  have happ : E.els xs ++ E.els ys = E.els (xs ++ ys) := by rw [E.hels, E.hels, E.hels, List.map_append]
  have hlapp : xs.length + (E.els ys).length = (xs ++ ys).length := by rw [hel, List.length_append]
  generalize hS1 : ((Body.box (hdrs E xss ++ List.replicate e nilC) :: inn E xss) ++ [Body.dead]).set 0 (.box ((hdrs E xss ++ List.replicate e nilC).set k (.sl (Body.box (hdrs E xss ++ List.replicate e nilC) :: inn E xss).length E.sz 0 xs.length))) = S1 at hin hids hbox hfin ⊢
  refine XO.apk hc (Nat.succ_ne_zero k) hin hids (E.ok ys) (E.len xs).symm (by rw [hel]; exact hle) hput (hq _ ?_)
  obtain ⟨o, rest, t, x, y, hl, hg, hop, hd, hx, hy, ht⟩ := stn_hd hs
  rw [hl] at hk ⊢
  rw [happ] at hbox ⊢
  rw [← hlapp] at hfin
  refine XO.stn hg hop hd 0 k _ _ hx hy hbox (by rw [List.length_set]; exact hCl) ht hfin ?_
  have hne' : xss.set k (xs ++ ys) ≠ [] := by
    intro h
    have := congrArg List.length h
    simp at this
    rw [this] at hkl; simp at hkl
  have hstl := nst_len E (xss := xss.set k (xs ++ ys)) e
  rw [List.length_set] at hstl
  have htk : (nst E (xss.set k (xs ++ ys)) e ++ [Body.dead]).take (xss.length + 1) = nst E (xss.set k (xs ++ ys)) e := by rw [← hstl]; simp
  have hsub := Sub.front (n := n) (loose := loose) (fr := fr2) (st := nst E (xss.set k (xs ++ ys)) e ++ [Body.dead]) (xss.length + 1) (Nat.succ_pos _) hf (by
    rw [htk]
    exact stIds_nst E _ e (fun j hj => Nat.ble_eq_true_of_le (by rw [List.length_set] at hj; omega)))
  rw [htk] at hsub
  exact XO.sub hsub hk

/-- the literal of a list of one -/
theorem znb (p : PV) (fr' : Fr) (hk : XO P n 0 loose ops (l.drop 1) Q fr' (st ++ [.arr 1 [[p]]])) (hc : bs1Hd P ops l fr = some p := by kernel_rfl) (L : Nat) (hL : st.length = L) (hput : putHd n l (.one (.sl L 1 0 1)) fr = some fr' := by kernel_rfl) : XO P n 0 loose ops l Q fr st := by
  subst hL
  cases l with
  | nil => simp [bs1Hd] at hc
  | cons o rest =>
    simp only [bs1Hd] at hc
    split at hc
    · rename_i hg
      split at hc
      · rename_i t m parts hop
        split at hc
        · rename_i j x te h1 hu
          split at hc
          · rename_i p' i hx hi
            split at hc
            · rename_i kk z0 hz
              cases hb : (Nat.beq m 1 && (Nat.beq j 0 && Nat.beq i.size 1)) with
              | false => simp [hb] at hc
              | true =>
                simp only [hb, cond_true, Option.some.injEq] at hc
                subst hc
                simp only [Bool.and_eq_true] at hb
                have b1 := Nat.eq_of_beq_eq_true hb.1
                have b2 := Nat.eq_of_beq_eq_true hb.2.1
                have b3 := Nat.eq_of_beq_eq_true hb.2.2
                subst b1; subst b2
                have e1 : parts = #[(0, x)] := Array.ext' (by simpa using h1)
                subst e1
                refine XO.chg hg (fun ι w a hR hF => ?_) hk
                have hr := rv_rel hF x
                rw [hx] at hr
                have hv := cv_of hr
                have hone := hv.oneCell
                have hn : tsz P te = some 1 := by unfold tsz; rw [hi]; simp [b3]
                have hcells : (a.eval x).cells = #[a.eval x] := cells_of_one hone
                have hlim : ¬ 1 * 1 > 2 ^ 24 := by omega
                have h0 : ¬ 1 * 1 = 0 := by omega
                have hfill : Instr.fill (fun i => some (i * 1, 1)) ((Array.range (1 * 1)).map ((Value.int kk z0).cells[· % (Value.int kk z0).cells.size]!)) (((#[(0, x)] : Array (Nat × Operand)).map fun (i, x) => (i, a.eval x)).toList) = some #[a.eval x] := by
                  have hnv : (Value.int kk z0).cells = #[Value.int kk z0] := rfl
                  rw [hnv]
                  simp [Instr.fill, hcells]
                  apply Array.ext'
                  simp [List.range_succ]
                have hrun : (Instr.buildSlice t 1 ((#[(0, x)] : Array (Nat × Operand)).map fun (i, x) => (i, a.eval x))).run P w = .ok (.slice (some ⟨w.heap.size, 0, none⟩) 1 1) (w.alloc (.cells #[a.eval x] te)) := by
                  simp only [Instr.buildSlice, Sem.run_bind, run_underlying hu, Result.andThen_ok, run_sizeOf hn, if_neg hlim, if_neg h0, Sem.run_pure, run_zero hi hz, hfill, newRow, run_newObj_alloc]
                obtain ⟨a1, a2, a3⟩ := row_mut (ι := ι) (w := w) (st := st) (els := [[p']]) (sz := 1) (cap := 1) (b := w.heap.size) (Ext.alloc w (.cells #[a.eval x] te)) hR te (Nat.le_refl _) (heap_alloc_at w _) (Nat.le_refl _) (by simp) (by simp)
                  (fun i el j cv q1 q2 => by
                    cases i with
                    | succ i => simp at q1
                    | zero =>
                      simp at q1; subst q1
                      cases j with
                      | succ j => simp at q2
                      | zero => simp at q2; subst q2; exact ⟨a.eval x, by simp, pure_of hv⟩)
                refine ⟨_, _, _, .inl ?_, a1, putF_rel hput (hF.mono' a2) (.one _ _ a3), a2.weaken (fun _ _ => trivial)⟩
                simp only [execOp, hop, Sem.run_bind, hrun, Result.andThen_ok, Sem.run_pure]
                rfl
            · cases hc
          · cases hc
        · cases hc
      · cases hc
    · cases hc

theorem bap_hd {vx vd : AV} {d1 : Nat} (hc : bapHd P n ops l fr = some (vx, vd, d1)) : ∃ o1 o2 rest t te x d i, l = o1 :: o2 :: rest ∧ guardOk ops o1 fr = some true ∧ o1.op = .buildSlice t 1 #[(0, x)] ∧ o1.dst = some d1 ∧ Nat.ble (d1 + 1) n = true ∧ guardOk ops o2 ((d1, .j) :: fr) = some true ∧
    o2.op = .call ⟨.builtin .append, #[d, .tmp d1], #[t, t]⟩ ∧ P.underlying t = some (.slice te) ∧ P.info? te = some i ∧ i.zero = some nilV ∧ i.size = 1 ∧ Nat.ble i.bytes 16384 = true ∧ rv fr x = vx ∧ rv ((d1, .j) :: fr) d = vd := by
  unfold bapHd at hc
  split at hc
  · rename_i o1 o2 rest
    split at hc
    · rename_i d1' g1 hd1
      split at hc
      · rename_i t m parts args tys g2 hop1 hop2
        split at hc
        · rename_i j x d d1'' t' tx te h1 h2 h3 hu
          split at hc
          · rename_i i hi
            split at hc
            · rename_i hz
              cases hb : ((Nat.beq m 1 && (Nat.beq j 0 && Nat.beq i.size 1)) && ((Nat.beq d1' d1'' && (Nat.beq t t' && Nat.beq t tx)) && (Nat.ble i.bytes 16384 && Nat.ble (d1' + 1) n))) with
              | false => simp [hb] at hc
              | true =>
                simp only [hb, cond_true, Option.some.injEq, Prod.mk.injEq] at hc
                obtain ⟨rfl, rfl, rfl⟩ := hc
                simp only [Bool.and_eq_true] at hb
                obtain ⟨⟨b1, b2, b3⟩, ⟨b4, b5, b6⟩, b7, b8⟩ := hb
                have b1 := Nat.eq_of_beq_eq_true b1
                have b2 := Nat.eq_of_beq_eq_true b2
                have b4 := Nat.eq_of_beq_eq_true b4
                have b5 := Nat.eq_of_beq_eq_true b5
                have b6 := Nat.eq_of_beq_eq_true b6
                subst b1; subst b2; subst b4; subst b5; subst b6
                have e1 : parts = #[(0, x)] := Array.ext' (by simpa using h1)
                have e2 : args = #[d, .tmp d1'] := Array.ext' (by simpa using h2)
                have e3 : tys = #[t, t] := Array.ext' (by simpa using h3)
                subst e1; subst e2; subst e3
                exact ⟨o1, o2, rest, t, te, x, d, i, rfl, g1, hop1, hd1, b8, g2, hop2, hu, hi, hz, Nat.eq_of_beq_eq_true b3, b7, rfl, rfl⟩
            · cases hc
          · cases hc
        · cases hc
      · cases hc
    · cases hc
  · cases hc

theorem oav_cases (xss : List (List α)) (e : Nat) : ∃ o, (nst E xss e)[0]? = some o ∧ ((oav xss = .one nilC ∧ hdrs E xss = []) ∨ (oav xss = .one (.sl 0 1 0 (hdrs E xss).length) ∧ ∃ e, o = .box (hdrs E xss ++ List.replicate e nilC))) := by
  cases xss with
  | nil => exact ⟨_, rfl, .inl ⟨rfl, rfl⟩⟩
  | cons y r => exact ⟨_, rfl, .inr ⟨by rw [hdrs_len]; rfl, e, rfl⟩⟩

theorem stays0 (k : Nat) : stays (some 0) (k + 1) = true := by
  show (!Nat.beq (k + 1) 0) = true
  rw [beq_ne (by omega)]; rfl

theorem get_app0 {a b : St} {o : Body} (h : a[0]? = some o) : (a ++ b)[0]? = some o := by
  cases a with
  | nil => simp at h
  | cons x r => simpa using h

/-- a list is put behind a list of lists -/
theorem znp (xss : List (List α)) (e : Nat) (xs : List α) (d1 L : Nat) (ts : List Nat) (fr' : Fr) (hle : xss.length + 1 ≤ 4294967296) (hL : xss.length + 1 = L)
    (hk : ∀ e', XO P n 0 loose ops ((l.drop 1).drop 1) Q fr' (nst E (xss ++ [xs]) e'))
    (hc : bapHd P n ops l fr = some (.one (.sl L E.sz 0 xs.length), oav xss, d1) := by kernel_rfl)
    (hput : putHd n (l.drop 1) (.one (.sl 0 1 0 L)) (mvF (some 0) (pickF ts ((d1, .j) :: fr))) = some fr' := by kernel_rfl) : XO P n 0 loose ops l Q fr (nst E xss e ++ [.arr E.sz (E.els xs)]) := by
  subst hL
  obtain ⟨o1, o2, rest, t, te, x, d, i, rfl, g1, hop1, hd1, hlt, g2, hop2, hu, hi, hz, his, hby, hx, hd⟩ := bap_hd hc
  obtain ⟨o, ho, hor⟩ := oav_cases E xss e
  have hB := get_app0 (b := [.arr E.sz (E.els xs)]) ho
  refine XO.bap (pre := hdrs E xss) g1 hop1 hd1 hlt g2 hop2 hu hi hz his hby (by rw [hdrs_len]; exact hle) hx hB ?_ (stays0 xss.length) (idsL_hdrs E xss fun k _ => stays0 k) rfl ?_ ts (by rw [hdrs_len]; exact hput) (fun e' => ?_)
  · exact stIds_app (stIds_nst E xss e fun k _ => stays0 k) rfl
  · rw [hd]; exact hor
  · have := nst_more E xss xs e e'
    rw [this]
    exact hk e'

/-- an empty list is put behind a list of lists -/
theorem znq (xss : List (List α)) (e : Nat) (d1 : Nat) (ts : List Nat) (fr' : Fr) (hle : xss.length + 1 ≤ 4294967296)
    (hk : ∀ e', XO P n 0 loose ops ((l.drop 1).drop 1) Q fr' (nst E (xss ++ [[]]) e'))
    (hc : bapHd P n ops l fr = some (.one nilC, oav xss, d1) := by kernel_rfl)
    (hput : putHd n (l.drop 1) (.one (.sl 0 1 0 (xss.length + 1))) (mvF (some 0) (pickF ts ((d1, .j) :: fr))) = some fr' := by kernel_rfl) : XO P n 0 loose ops l Q fr (nst E xss e) := by
  obtain ⟨o1, o2, rest, t, te, x, d, i, rfl, g1, hop1, hd1, hlt, g2, hop2, hu, hi, hz, his, hby, hx, hd⟩ := bap_hd hc
  obtain ⟨o, ho, hor⟩ := oav_cases E xss e
  refine XO.bap (pre := hdrs E xss) g1 hop1 hd1 hlt g2 hop2 hu hi hz his hby (by rw [hdrs_len]; exact hle) hx ho (stIds_nst E xss e fun k _ => stays0 k) rfl (idsL_hdrs E xss fun k _ => stays0 k) rfl ?_ ts (by rw [hdrs_len]; exact hput) (fun e' => ?_)
  · rw [hd]; exact hor
  · have h0 : ((nst E xss e).set 0 (.box (hdrs E xss ++ [nilC] ++ List.replicate e' nilC)))[0]? = some (.box (hdrs E xss ++ [nilC] ++ List.replicate e' nilC)) := by
      rw [List.getElem?_set_self]
      rw [nst_len]; omega
    have hj : (hdrs E xss ++ [nilC] ++ List.replicate e' nilC)[xss.length]? = some nilC := by
      rw [List.append_assoc, List.getElem?_append_right (by rw [hdrs_len]; exact Nat.le_refl _), hdrs_len, Nat.sub_self]; rfl
    refine XO.sub (Sub.listb 0 xss.length E.sz _ h0 hj (nst E (xss ++ [[]]) e') ?_) (hk e')
    rw [List.length_set, nst_len]
    exact nst_more0 E xss e e'

end
end Go.SX
namespace Go.SX
open Go
set_option linter.unusedVariables false
set_option linter.unusedSimpArgs false

section
variable {α : Type} (E : Enc α)

/-- the store of a function whose only objects are those of a list of lists, the outer one being full -/
def nsb (xss : List (List α)) : St := .box (hdrs E xss) :: inn E xss

/-- the same, of which only the first lists are objects -/
def nsm (xss : List (List α)) (e : Nat) : St := .box (hdrs E xss ++ List.replicate e nilC) :: inn E xss

theorem nsm0 (xss : List (List α)) : nsm E xss 0 = nsb E xss := by simp [nsm, nsb]

theorem nsb_len {xss : List (List α)} : (nsb E xss).length = xss.length + 1 := by simp [nsb, inn]

theorem nsb_set {xss : List (List α)} {k : Nat} {xs xs' : List α} (h : xss[k]? = some xs) (hl : xs'.length = xs.length) : (nsb E xss).set (k + 1) (.arr E.sz (E.els xs')) = nsb E (xss.set k xs') := by
  have hk := (List.getElem?_eq_some_iff.1 h).1
  unfold nsb
  rw [List.set_cons_succ, hdrs_set E xss k xs' hk, hl]
  congr 1
  · congr 1
    symm
    apply List.ext_getElem?
    intro j
    by_cases e : k = j
    · subst e
      rw [List.getElem?_set_self (by rw [hdrs_len]; exact hk), hdrs_get E h]
    · rw [List.getElem?_set_ne e]
  · simp [inn, List.map_set]

theorem nsb_get {xss : List (List α)} {k : Nat} {xs : List α} (h : xss[k]? = some xs) : (nsb E xss)[k + 1]? = some (.arr E.sz (E.els xs)) := by
  simp [nsb, inn, h]

theorem nsm_step (xss : List (List α)) (e : Nat) :
    ((nsm E xss (e + 1)) ++ [Body.arr E.sz []]).set 0 (.box ((hdrs E xss ++ List.replicate (e + 1) nilC).set xss.length (.sl (nsm E xss (e + 1)).length E.sz 0 0))) = nsm E (xss ++ [[]]) e := by
  have hl : (nsm E xss (e + 1)).length = xss.length + 1 := by simp [nsm, inn]
  have hs : (hdrs E xss ++ List.replicate (e + 1) nilC).set xss.length (.sl (xss.length + 1) E.sz 0 0) = hdrs E xss ++ [.sl (xss.length + 1) E.sz 0 0] ++ List.replicate e nilC := by
    rw [List.replicate_succ, List.set_append_right _ _ (by rw [hdrs_len]; exact Nat.le_refl _), hdrs_len]
    simp
  have hels : E.els [] = [] := by rw [E.hels]; rfl
  rw [hl, hs]
  simp [nsm, hdrs_app, inn, hels]

end

section
variable {α : Type} (E : Enc α) {P : Program} {n n0 : Nat} {loose an : List Nat} {Q : QT} {fr : Fr} {st : St} {c : Code} {ops : Array Oper}

/-- nil slices of a new list, taken for empty lists -/
theorem Sub.nils : ∀ (e : Nat) (xss : List (List α)), Sub n n0 loose fr (nsm E xss e) fr (nsb E (xss ++ List.replicate e []))
  | 0, xss => by
    rw [nsm0]
    simp only [List.replicate_zero, List.append_nil]
    exact fun ι w a hR hF => ⟨ι, hR, hF, .refl⟩
  | e + 1, xss => by
    have h1 := Sub.listb (n := n) (n0 := n0) (loose := loose) (fr := fr) (st := nsm E xss (e + 1)) 0 xss.length E.sz (hdrs E xss ++ List.replicate (e + 1) nilC) rfl
      (by rw [List.getElem?_append_right (by rw [hdrs_len]; exact Nat.le_refl _), hdrs_len, Nat.sub_self]; rfl) _ (nsm_step E xss e)
    have h2 := Sub.nils e (xss ++ [[]])
    rw [show xss ++ List.replicate (e + 1) [] = xss ++ [[]] ++ List.replicate e [] from by rw [List.replicate_succ]; simp]
    exact Sub.trans h1 h2

/-- an operation that reads -/
def RdO (P : Program) (n : Nat) (st : St) (o : Oper) (fr : Fr) (av : AV) : Prop :=
  ∀ (ι : IM) w a, Rel ι w st → FRel n ι w st a fr → ∃ v, (execOp a.eval o).run P w = .ok (.value v) w ∧ AVRel ι w st v av

theorem RdO.yd {o : Oper} {av : AV} (h : RdO P n st o fr av) : Yd P n st o fr av := by
  intro ι w a hR hF K Q hK
  obtain ⟨v, h1, h2⟩ := h ι w a hR hF
  simp only [Oper.wp, h1, Oper.upon]
  exact hK v w ι h2 hR .refl

/-- where a load of one cell points -/
def ldPt (P : Program) (o : Oper) (fr : Fr) : Option (Nat × Nat) :=
  match o.op with
  | .load t x => match rv fr x with
    | .one (.pt id sz i off) => match isAg P t, tsz P t with
      | some false, some m => bif Nat.beq sz 1 && (Nat.beq off 0 && Nat.beq m 1) then some (id, i) else none
      | _, _ => none
    | _ => none
  | _ => none

theorem ldPt_some {o : Oper} {id i : Nat} (h : ldPt P o fr = some (id, i)) : ∃ t x, o.op = .load t x ∧ rv fr x = .one (.pt id 1 i 0) ∧ isAg P t = some false ∧ tsz P t = some 1 := by
  unfold ldPt at h
  split at h
  · rename_i t x hop
    split at h
    · rename_i id' sz i' off hx
      split at h
      · rename_i m h1 h2
        cases hb : (Nat.beq sz 1 && (Nat.beq off 0 && Nat.beq m 1)) with
        | false => simp [hb] at h
        | true =>
          simp only [hb, cond_true, Option.some.injEq, Prod.mk.injEq] at h
          obtain ⟨rfl, rfl⟩ := h
          simp only [Bool.and_eq_true] at hb
          have b1 := Nat.eq_of_beq_eq_true hb.1
          have b2 := Nat.eq_of_beq_eq_true hb.2.1
          have b3 := Nat.eq_of_beq_eq_true hb.2.2
          subst b1; subst b2; subst b3
          exact ⟨t, x, hop, hx, h1, h2⟩
      · cases h
    · cases h
  · cases h

/-- a cell of a box -/
theorem RdO.box {o : Oper} {id i : Nat} {cells : List CV} {cv : CV} (h : ldPt P o fr = some (id, i)) (hb : st[id]? = some (.box cells)) (hc : cells[i]? = some cv) : RdO P n st o fr (.one cv) := by
  obtain ⟨t, x, hop, hx, hg, hs⟩ := ldPt_some h
  intro ι w a hR hF
  have h1 := rv_rel hF x
  rw [hx] at h1
  have hv := pt_one (cv_of h1)
  have hlt := (List.getElem?_eq_some_iff.1 hc).1
  have hcut : cutc cells i 1 = some [cv] := by
    unfold cutc
    rw [Nat.ble_eq_true_of_le (by omega), cond_true, List.drop_eq_getElem_cons hlt]
    have : cells[i] = cv := by rw [List.getElem?_eq_getElem hlt] at hc; exact Option.some.inj hc
    simp [this]
  have hld : ldAt P t (.pt id 0 0 i) st [] = some ⟨.one cv, st, [], [], none⟩ := by
    unfold ldAt
    rw [hg, hs]
    simp only [hb, Nat.beq_refl, cond_true, hcut, Option.bind_some, mkAV, Option.map_some]
  obtain ⟨u, e1, e2, _⟩ := ldAt_sound (P := P) hld trivial hR hv
  exact ⟨u, by simp [execOp, hop, e1], e2⟩

/-- an element of one cell of a list -/
theorem RdO.arr {o : Oper} {id i : Nat} {els : List (List PV)} {p : PV} (h : ldPt P o fr = some (id, i)) (hb : st[id]? = some (.arr 1 els)) (hc : els[i]? = some [p]) : RdO P n st o fr (.one (.pv p)) := by
  obtain ⟨t, x, hop, hx, hg, hs⟩ := ldPt_some h
  intro ι w a hR hF
  have h1 := rv_rel hF x
  rw [hx] at h1
  have hv := cv_of h1
  have hld : ldAt P t (.pt id 1 i 0) st [[p]] = some ⟨.one (.pv p), st, [els[i]? = some [p]], [], none⟩ := by
    unfold ldAt
    rw [hg, hs]
    simp only [hb, Nat.beq_refl, cond_true]
    rfl
  obtain ⟨u, e1, e2, _⟩ := ldAt_sound (P := P) hld ⟨hc, trivial⟩ hR hv
  exact ⟨u, by simp [execOp, hop, e1], e2⟩

def ldHd (P : Program) (ops : Array Oper) (l : List Oper) (fr : Fr) : Option (Nat × Nat) :=
  match l with
  | [] => none
  | o :: _ => match guardOk ops o fr with
    | some true => ldPt P o fr
    | _ => none

def ldHdD (P : Program) (n : Nat) (ops : Array Oper) (l : List Oper) (fr : Fr) : Option (Nat × Nat) :=
  match l with
  | [] => none
  | o :: _ => match guardOk ops o (looksR ops o fr) with
    | some true => bif (match o.dst with | some d => Nat.ble (d + 1) n | none => true) then ldPt P o (looksR ops o fr) else none
    | _ => none

theorem XO.rd {l : List Oper} {id i : Nat} (hc : ldHd P ops l fr = some (id, i)) {av : AV} (h : ∀ o, ldPt P o fr = some (id, i) → RdO P n st o fr av) {fr' : Fr} (hput : putHd n l av fr = some fr')
    (hk : XO P n n0 loose ops (l.drop 1) Q fr' st) : XO P n n0 loose ops l Q fr st := by
  cases l with
  | nil => simp [ldHd] at hc
  | cons o rest =>
    simp only [ldHd] at hc
    split at hc
    · rename_i hg
      exact XO.still hg av hput (h o hc) hk
    · cases hc

theorem DX.rd {l : List Oper} {id i : Nat} (hc : ldHdD P n ops l fr = some (id, i)) {av : AV} (h : ∀ o, ldPt P o (looksR ops o fr) = some (id, i) → RdO P n st o (looksR ops o fr) av) {fr2 : Fr}
    (hk : DX P n st ops (l.drop 1) (putHdD l av fr) fr2) : DX P n st ops l fr fr2 := by
  cases l with
  | nil => simp [ldHdD] at hc
  | cons o rest =>
    simp only [ldHdD] at hc
    split at hc
    · rename_i hg
      cases hb : (match o.dst with | some d => Nat.ble (d + 1) n | none => true) with
      | false => simp [hb] at hc
      | true =>
        simp only [hb, cond_true] at hc
        obtain ⟨as2, k1, k2⟩ := hk
        simp only [putHdD, List.drop_succ_cons, List.drop_zero] at k1 k2
        refine ⟨av :: as2, ⟨⟨fun d hd => ?_, .inl ⟨hg, (h o hc).yd⟩⟩, k1⟩, k2⟩
        rw [hd] at hb
        exact Nat.le_of_ble_eq_true hb
    · cases hc

variable {l : List Oper}

/-- the slice of an inner list is read -/
theorem znh (xss : List (List α)) (k : Nat) (xs : List α) (fr' : Fr) (hxs : xss[k]? = some xs) (hk : XO P n n0 loose ops (l.drop 1) Q fr' (nsb E xss))
    (hc : ldHd P ops l fr = some (0, 0 + k) := by kernel_rfl) (hput : putHd n l (.one (.sl (k + 1) E.sz 0 xs.length)) fr = some fr' := by kernel_rfl) : XO P n n0 loose ops l Q fr (nsb E xss) :=
  XO.rd hc (fun o ho => RdO.box ho rfl (by rw [Nat.zero_add]; exact hdrs_get E hxs)) hput hk

theorem znhD (xss : List (List α)) (k : Nat) (xs : List α) {fr2 : Fr} (hxs : xss[k]? = some xs) (hk : DX P n (nsb E xss) ops (l.drop 1) (putHdD l (.one (.sl (k + 1) E.sz 0 xs.length)) fr) fr2)
    (hc : ldHdD P n ops l fr = some (0, 0 + k) := by kernel_rfl) : DX P n (nsb E xss) ops l fr fr2 :=
  DX.rd hc (fun o ho => RdO.box ho rfl (by rw [Nat.zero_add]; exact hdrs_get E hxs)) hk

/-- an element of an inner list is read -/
theorem zne (xss : List (List Bool)) (k j : Nat) (xs : List Bool) (b : Bool) (fr' : Fr) (hxs : xss[k]? = some xs) (hb : xs[j]? = some b) (hk : XO P n n0 loose ops (l.drop 1) Q fr' (nsb eB xss))
    (hc : ldHd P ops l fr = some (k + 1, 0 + j) := by kernel_rfl) (hput : putHd n l (vb b) fr = some fr' := by kernel_rfl) : XO P n n0 loose ops l Q fr (nsb eB xss) :=
  XO.rd hc (fun o ho => RdO.arr ho (nsb_get eB hxs) (by rw [Nat.zero_add, eB.hels, List.getElem?_map, hb]; rfl)) hput hk

theorem zneD (xss : List (List Bool)) (k j : Nat) (xs : List Bool) (b : Bool) {fr2 : Fr} (hxs : xss[k]? = some xs) (hb : xs[j]? = some b) (hk : DX P n (nsb eB xss) ops (l.drop 1) (putHdD l (vb b) fr) fr2)
    (hc : ldHdD P n ops l fr = some (k + 1, 0 + j) := by kernel_rfl) : DX P n (nsb eB xss) ops l fr fr2 :=
  DX.rd hc (fun o ho => RdO.arr ho (nsb_get eB hxs) (by rw [Nat.zero_add, eB.hels, List.getElem?_map, hb]; rfl)) hk

/-- an element of an inner list is written -/
theorem zns (xss : List (List Bool)) (k j : Nat) (xs : List Bool) (b b0 : Bool) (hxs : xss[k]? = some xs) (hb : xs[j]? = some b0) (hk : XO P n n0 loose ops (l.drop 1) Q fr (nsb eB (xss.set k (xs.set j b))))
    (hc : stnHd P ops l fr = some (k + 1, 0 + j, .pv (.s (.bool b))) := by kernel_rfl) : XO P n n0 loose ops l Q fr (nsb eB xss) := by
  obtain ⟨o, rest, t, x, y, rfl, hg, hop, hd, hx, hy, ht⟩ := stn_hd hc
  have hbx := nsb_get eB hxs
  rw [← nsb_set eB hxs (xs' := xs.set j b) (by simp)] at hk
  refine XO.chg hg (fun ι w a hR hF => ?_) hk
  have h1 := rv_rel hF x
  rw [hx] at h1
  have hv := cv_of h1
  have h2 := rv_rel hF y
  rw [hy] at h2
  have hL := avCells_rel (cs := [.pv (.s (.bool b))]) h2 rfl
  have hel : (eB.els xs)[0 + j]? = some [.s (.bool b0)] := by rw [Nat.zero_add, eB.hels, List.getElem?_map, hb]; rfl
  have hsto : stAt P t (.pt (k + 1) 1 (0 + j) 0) [.pv (.s (.bool b))] (nsb eB xss) [[.s (.bool b0)]] = some ⟨.j, (nsb eB xss).set (k + 1) (.arr 1 ((eB.els xs).set (0 + j) [.s (.bool b)])), [(eB.els xs)[0 + j]? = some [.s (.bool b0)]], [], none⟩ := by
    unfold stAt
    rw [ht]
    simp only [List.length_singleton, Nat.beq_refl, cond_true, hbx]
    rfl
  obtain ⟨w', e1, e2, e3, _, _⟩ := stAt_sound (P := P) hsto ⟨hel, trivial⟩ hR hv hL
  have hfin : (eB.els xs).set (0 + j) [.s (.bool b)] = eB.els (xs.set j b) := eB.set0 xs j b
  rw [hfin] at e2 e3
  refine ⟨undef, w', ι, .inr ⟨by simp [execOp, hop, e1], rfl⟩, e2, ?_, e3.weaken (fun _ _ => trivial)⟩
  rw [hd]
  exact hF.mono' e3

def mk1Hd (P : Program) (ops : Array Oper) (l : List Oper) (fr : Fr) (z : Value) : Option (Int × Int) :=
  match l with
  | [] => none
  | o :: _ => match guardOk ops o fr with
    | some true => match o.op with
      | .makeSlice t l c => match P.underlying t, rv fr l, rv fr c with
        | some (.slice te), .one (.pv (.s (.int _ n))), .one (.pv (.s (.int _ m))) => match P.info? te with
          | some i => match i.zero, z with
            | some (.slice none 0 0), .slice none 0 0 => bif Nat.beq i.size 1 && Nat.ble i.bytes 16384 then some (n, m) else none
            | some (.bool false), .bool false => bif Nat.beq i.size 1 && Nat.ble i.bytes 16384 then some (n, m) else none
            | _, _ => none
          | none => none
        | _, _, _ => none
      | _ => none
    | _ => none

theorem mk1_hd {z : Value} {N M : Int} (hc : mk1Hd P ops l fr z = some (N, M)) : ∃ o rest t x y te i k1 k2, l = o :: rest ∧ guardOk ops o fr = some true ∧ o.op = .makeSlice t x y ∧ P.underlying t = some (.slice te) ∧ P.info? te = some i ∧ i.zero = some z ∧
    i.size = 1 ∧ i.bytes ≤ 16384 ∧ rv fr x = .one (.pv (.s (.int k1 N))) ∧ rv fr y = .one (.pv (.s (.int k2 M))) ∧ z.cells = #[z] := by
  cases l with
  | nil => simp [mk1Hd] at hc
  | cons o rest =>
    simp only [mk1Hd] at hc
    split at hc
    · rename_i hg
      split at hc
      · rename_i t x y hop
        split at hc
        · rename_i te k1 n k2 m hu hx hy
          split at hc
          · rename_i i hi
            split at hc
            · rename_i hz
              cases hb : (Nat.beq i.size 1 && Nat.ble i.bytes 16384) with
              | false => simp [hb] at hc
              | true =>
                simp only [hb, cond_true, Option.some.injEq, Prod.mk.injEq] at hc
                obtain ⟨rfl, rfl⟩ := hc
                simp only [Bool.and_eq_true] at hb
                exact ⟨o, rest, t, x, y, te, i, k1, k2, rfl, hg, hop, hu, hi, hz, Nat.eq_of_beq_eq_true hb.1, Nat.le_of_ble_eq_true hb.2, hx, hy, rfl⟩
            · rename_i hz
              cases hb : (Nat.beq i.size 1 && Nat.ble i.bytes 16384) with
              | false => simp [hb] at hc
              | true =>
                simp only [hb, cond_true, Option.some.injEq, Prod.mk.injEq] at hc
                obtain ⟨rfl, rfl⟩ := hc
                simp only [Bool.and_eq_true] at hb
                exact ⟨o, rest, t, x, y, te, i, k1, k2, rfl, hg, hop, hu, hi, hz, Nat.eq_of_beq_eq_true hb.1, Nat.le_of_ble_eq_true hb.2, hx, hy, rfl⟩
            · cases hc
          · cases hc
        · cases hc
      · cases hc
    · cases hc

theorem made1 (z : Value) (N : Nat) : madeCells #[z] (N * 1) = (List.replicate N z).toArray := by
  apply Array.ext'
  apply List.ext_getElem?
  intro j
  by_cases h : j < N
  · have := made_get (z := #[z]) (n := N) (q := j) (by simp) (by simpa using h)
    simp at this ⊢
    rw [List.getElem?_replicate, if_pos h]
    simpa [Nat.mod_one] using this
  · have h1 : (madeCells #[z] (N * 1)).toList.length = N := by simp [size_madeCells]
    rw [List.getElem?_eq_none (by omega), List.getElem?_eq_none (by simp; omega)]

theorem mk1_run {o : Oper} {t te : TypeId} {x y : Operand} {i : TypeInfo} {z : Value} {k1 k2 : IntKind} {N : Int} (hop : o.op = .makeSlice t x y) (hu : P.underlying t = some (.slice te)) (hi : P.info? te = some i) (hz : i.zero = some z) (his : i.size = 1) (hby : i.bytes ≤ 16384)
    (hx : rv fr x = .one (.pv (.s (.int k1 N)))) (hy : rv fr y = .one (.pv (.s (.int k2 N)))) (hzc : z.cells = #[z]) (h0 : 0 ≤ N) (hN : N ≤ 4294967296) {ι : IM} {w : World} {a : Act} (hF : FRel n ι w st a fr) :
    (execOp a.eval o).run P w = .ok (.value (.slice (some ⟨w.heap.size, 0, none⟩) N.toNat N.toNat)) (w.alloc (.cells (List.replicate N.toNat z).toArray te)) := by
  have h1 := rv_rel hF x
  rw [hx] at h1
  have h2 := rv_rel hF y
  rw [hy] at h2
  have hbytes : (i.bytes : Int) * N ≤ 281474976710656 := by
    have : (i.bytes : Int) * N ≤ 16384 * 4294967296 := Int.mul_le_mul (by omega) hN (by omega) (by omega)
    omega
  have hrun := run_make (P := P) w t te i z hu hi hz k1 k2 N N h0 (Int.le_refl _) hbytes (by omega)
  rw [hzc, his, made1] at hrun
  simp only [execOp, hop, Sem.run_bind, scalar_of h1, scalar_of h2, hrun, Result.andThen_ok, Sem.run_pure]

/-- the outer list is made -/
theorem znm (N : Int) (xss : List (List α)) (hxs : xss = List.replicate N.toNat []) (fr' : Fr) (h0 : 0 ≤ N) (hN : N ≤ 4294967296) (hk : XO P n n0 loose ops (l.drop 1) Q fr' (nsb E xss))
    (hc : mk1Hd P ops l fr nilV = some (N, N) := by kernel_rfl) (hput : putHd n l (.one (.sl 0 1 0 N.toNat)) fr = some fr' := by kernel_rfl) : XO P n n0 loose ops l Q fr [] := by
  obtain ⟨o, rest, t, x, y, te, i, k1, k2, rfl, hg, hop, hu, hi, hz, his, hby, hx, hy, hzc⟩ := mk1_hd hc
  subst hxs
  have hsub := Sub.nils E (n := n) (n0 := n0) (loose := loose) (fr := fr') N.toNat []
  rw [List.nil_append] at hsub
  refine XO.chg hg (fr' := fr') (st' := nsm E [] N.toNat) (fun ι w a hR hF => ?_) (XO.sub hsub hk)
  have hrun := mk1_run (o := o) hop hu hi hz his hby hx hy hzc h0 hN hF
  generalize hv : (Value.slice (some ⟨w.heap.size, 0, none⟩) N.toNat N.toNat) = v at hrun
  have hb : ∀ x, some w.heap.size = some x → w.heap.size ≤ x := by intro x h; cases h; exact Nat.le_refl _
  have hx1 := Ext.alloc w (.cells (List.replicate N.toNat nilV).toArray te)
  have k := keeps_add (ι := ι) (st := ([] : St)) hx1 (.box (List.replicate N.toNat nilC)) (some w.heap.size) hb
  have hw := heap_alloc_at w (.cells (List.replicate N.toNat nilV).toArray te)
  have hid : (ι.add ([] : St).length (some w.heap.size)) ([] : St).length = some w.heap.size := by simp [IM.add]
  have hr := hR.add (body := .box (List.replicate N.toNat nilC)) hx1 hb ⟨_, _, te, hid, hw, LRel.nils _⟩
  have hsl := VRel.sl (ι := ι.add ([] : St).length (some w.heap.size)) (w := w.alloc (.cells (List.replicate N.toNat nilV).toArray te)) (st := [] ++ [.box (List.replicate N.toNat nilC)]) 0 1 0 N.toNat w.heap.size N.toNat (by simp) hid (Nat.le_refl _) ⟨_, te, (0, 0), hw, by simp⟩
  refine ⟨v, _, _, .inl hrun, hr, putF_rel hput (hF.mono' k) (.one _ _ ?_), k.weaken (fun _ _ => trivial)⟩
  rw [← hv]
  simpa using hsl

/-- a list of truth values is made, in the place of another one -/
theorem XO.mkk {id : Nat} {N : Int} {els : List (List PV)} (hc : mk1Hd P ops l fr (.bool false) = some (N, N)) (h0 : 0 ≤ N) (hN : N ≤ 4294967296) (hne : id ≠ 0) (hb : st[id]? = some (.arr 1 els)) (hids : stIds (stays (some id)) st = true)
    {fr' : Fr} (hput : putHd n l (.one (.sl id 1 0 N.toNat)) (keepF (fun id => Nat.beq id 0) fr) = some fr') (hk : XO P n 0 loose ops (l.drop 1) Q fr' (st.set id (.arr 1 (eB.els (List.replicate N.toNat false))))) : XO P n 0 loose ops l Q fr st := by
  obtain ⟨o, rest, t, x, y, te, i, k1, k2, rfl, hg, hop, hu, hi, hz, his, hby, hx, hy, hzc⟩ := mk1_hd hc
  refine XO.chg hg (fun ι w a hR hF => ?_) hk
  have hrun := mk1_run (o := o) hop hu hi hz his hby hx hy hzc h0 hN hF
  generalize hv : (Value.slice (some ⟨w.heap.size, 0, none⟩) N.toNat N.toNat) = v at hrun
  have hx1 := Ext.alloc w (.cells (List.replicate N.toNat (Value.bool false)).toArray te)
  have k := keeps_remap (body' := .arr 1 (eB.els (List.replicate N.toNat false))) hx1 hR hb (Nat.le_refl _)
  have hw := heap_alloc_at w (.cells (List.replicate N.toNat (Value.bool false)).toArray te)
  have hlt : id < st.length := (List.getElem?_eq_some_iff.1 hb).1
  have hid : (ι.upd id (some w.heap.size)) id = some w.heap.size := by simp [IM.upd]
  have hr := hR.remap (body' := .arr 1 (eB.els (List.replicate N.toNat false))) hx1 hb (Nat.le_refl _) hids (.inr ⟨w.heap.size, _, te, hid, hw, by rw [eB.len]; simp, eB.ok _, fun i e j p h1 h2 => by
    rw [eB.hels, List.getElem?_map, List.getElem?_replicate] at h1
    split at h1
    · rename_i hi
      simp at h1
      subst h1
      cases j with
      | succ j => simp [eB, Enc.of] at h2
      | zero =>
        simp [eB, Enc.of] at h2
        subst h2
        exact ⟨.bool false, by simp [hi], .s _ rfl⟩
    · cases h1⟩)
  have hsl := VRel.sl (ι := ι.upd id (some w.heap.size)) (w := w.alloc (.cells (List.replicate N.toNat (Value.bool false)).toArray te)) (st := st.set id (.arr 1 (eB.els (List.replicate N.toNat false)))) id 1 0 N.toNat w.heap.size N.toNat (by simpa using hlt) hid (Nat.le_refl _) ⟨_, te, (0, 0), hw, by simp⟩
  have hF' := hF.keep k (q := fun id => Nat.beq id 0) (fun j hj _ => by
    have := Nat.eq_of_beq_eq_true hj
    subst this
    show (!Nat.beq 0 id) = true
    rw [beq_ne (Ne.symm hne)]; rfl)
  refine ⟨v, _, _, .inl hrun, hr, putF_rel hput hF' (.one _ _ ?_), k.weaken (fun j hj => ?_)⟩
  · rw [← hv]
    simpa using hsl
  · have h1 : fixB 0 loose j = true := hj
    simp [fixB] at h1

/-- an inner list is made and put into the outer one: make, address, store; the frame keeps what is not an inner list -/
theorem znk (xss : List (List Bool)) (k : Nat) (xs : List Bool) (N : Int) (fr1 fr2 fr' : Fr) (h0 : 0 ≤ N) (hN : N ≤ 4294967296) (hxs : xss[k]? = some xs)
    (hq : ∀ st' : St, XO P n 0 loose ops ((l.drop 1).drop 1) Q fr2 st' → XO P n 0 loose ops (l.drop 1) Q fr1 st')
    (hk : XO P n 0 loose ops (((l.drop 1).drop 1).drop 1) Q fr' (nsb eB (xss.set k (List.replicate N.toNat false))))
    (hc : mk1Hd P ops l fr (.bool false) = some (N, N) := by kernel_rfl)
    (hput : putHd n l (.one (.sl (k + 1) 1 0 N.toNat)) (keepF (fun id => Nat.beq id 0) fr) = some fr1 := by kernel_rfl)
    (hs : stnHd P ops ((l.drop 1).drop 1) fr2 = some (0, 0 + k, .sl (k + 1) 1 0 N.toNat) := by kernel_rfl)
    (hf : keepF (fun id => Nat.beq id 0) fr2 = fr' := by kernel_rfl) : XO P n 0 loose ops l Q fr (nsb eB xss) := by
  have hkl := (List.getElem?_eq_some_iff.1 hxs).1
  have hne : xss ≠ [] := by rintro rfl; simp at hkl
  have hb0 : ∀ ys : List (List Bool), ys ≠ [] → nst eB ys 0 = nsb eB ys := fun ys h => by rw [nst_ne eB h]; simp [nsb]
  have hC : (hdrs eB xss)[k]? = some (.sl (k + 1) 1 0 xs.length) := hdrs_get eB hxs
  have hCl : k < (hdrs eB xss).length := by rw [hdrs_len]; omega
  have hfin := nst_fin eB hkl (List.replicate N.toNat false) 0 (.sl (nsb eB xss).length 1 0 xs.length)
  simp only [List.replicate_zero, List.append_nil] at hfin
  refine XO.sub (Sub.stale 0 k (k + 1) 1 0 xs.length _ rfl hC _ rfl) ?_
  have hlenS : (nsb eB xss).length = xss.length + 1 := nsb_len eB
  have hin : (((nsb eB xss) ++ [Body.dead]).set 0 (.box ((hdrs eB xss).set k (.sl (nsb eB xss).length 1 0 xs.length))))[k + 1]? = some (.arr 1 (eB.els xs)) := by
    rw [List.getElem?_set_ne (by omega), List.getElem?_append_left (by rw [hlenS]; omega)]
    exact nsb_get eB hxs
  have hids : stIds (stays (some (k + 1))) (((nsb eB xss) ++ [Body.dead]).set 0 (.box ((hdrs eB xss).set k (.sl (nsb eB xss).length 1 0 xs.length)))) = true := by
    rw [hlenS]
    unfold nsb
    simp only [List.cons_append, List.set_cons_zero, stIds, bodyIds, Bool.and_eq_true]
    refine ⟨idsL_all fun c hc => ?_, stIds_app (stIds_inn eB xss) rfl⟩
    obtain ⟨j, hj⟩ := List.getElem?_of_mem hc
    by_cases hjk : j = k
    · subst hjk
      rw [List.getElem?_set_self hCl] at hj
      cases hj
      show (!Nat.beq (xss.length + 1) (j + 1)) = true
      rw [beq_ne (by omega)]; rfl
    · rw [List.getElem?_set_ne (Ne.symm hjk)] at hj
      have hjl : j < xss.length := by have := (List.getElem?_eq_some_iff.1 hj).1; rwa [hdrs_len] at this
      rw [hdrs_get eB (List.getElem?_eq_getElem hjl)] at hj
      cases hj
      show (!Nat.beq (j + 1) (k + 1)) = true
      rw [beq_ne (by omega)]; rfl
  have hbox : ((((nsb eB xss) ++ [Body.dead]).set 0 (.box ((hdrs eB xss).set k (.sl (nsb eB xss).length 1 0 xs.length)))).set (k + 1) (.arr 1 (eB.els (List.replicate N.toNat false))))[0]? = some (.box ((hdrs eB xss).set k (.sl (nsb eB xss).length 1 0 xs.length))) := by
    rw [List.getElem?_set_ne (by omega)]; rfl
  refine XO.mkk hc h0 hN (Nat.succ_ne_zero k) hin hids hput (hq _ ?_)
  obtain ⟨o, rest, t, x, y, hl, hg, hop, hd, hx, hy, ht⟩ := stn_hd hs
  rw [hl] at hk ⊢
  rw [Nat.zero_add] at hx
  have hne' : xss.set k (List.replicate N.toNat false) ≠ [] := by
    intro h
    have := congrArg List.length h
    simp at this
    exact hne this
  have hfin2 : ((((nsb eB xss) ++ [Body.dead]).set 0 (.box ((hdrs eB xss).set k (.sl (nsb eB xss).length 1 0 xs.length)))).set (k + 1) (.arr 1 (eB.els (List.replicate N.toNat false)))).set 0 (.box (((hdrs eB xss).set k (.sl (nsb eB xss).length 1 0 xs.length)).set k (.sl (k + 1) 1 0 N.toNat))) = nsb eB (xss.set k (List.replicate N.toNat false)) ++ [.dead] := by
    rw [hb0 _ hne', List.length_replicate] at hfin
    exact hfin
  refine XO.stn hg hop hd 0 k _ _ hx hy hbox (by rw [List.length_set]; exact hCl) ht hfin2 ?_
  have hstl := nsb_len eB (xss := xss.set k (List.replicate N.toNat false))
  rw [List.length_set] at hstl
  have htk : (nsb eB (xss.set k (List.replicate N.toNat false)) ++ [Body.dead]).take (xss.length + 1) = nsb eB (xss.set k (List.replicate N.toNat false)) := by rw [← hstl]; simp
  have hsub := Sub.front (n := n) (loose := loose) (fr := fr2) (st := nsb eB (xss.set k (List.replicate N.toNat false)) ++ [Body.dead]) (xss.length + 1) (Nat.succ_pos _) hf (by
    rw [htk, ← hb0 _ hne']
    exact stIds_nst eB _ 0 (fun j hj => Nat.ble_eq_true_of_le (by rw [List.length_set] at hj; omega)))
  rw [htk] at hsub
  exact XO.sub hsub hk

end
end Go.SX
namespace Go.SX
open Go
set_option linter.unusedVariables false
set_option linter.unusedSimpArgs false
set_option linter.unnecessarySimpa false

/-- a measure of readings -/
structure Bulk where
  f : {H : Type} → DataW H → Nat
  one : ∀ {H : Type} (d : DataW H), 1 ≤ f d
  str : ∀ {H : Type} (b : List UInt8), b.length + 1 ≤ f (DataW.lit (H := H) (.string b))
  sl : ∀ {H : Type} (e s : List (DataW H)), (e.map f).sum + 1 ≤ f (.slice e s)
  ag : ∀ {H : Type} (ps : List (DataW H)), (ps.map f).sum + 1 ≤ f (.agg ps)

/-- nothing is written -/
abbrev noMut : Nat → Prop := fun _ => False

/-- cells read as pure values -/
def RdOk (w : World) (cs : List Value) (ps : List PV) : Prop :=
  cs.length = ps.length ∧ ∀ (j : Nat) v p, cs[j]? = some v → ps[j]? = some p → PRel noMut w v p

theorem RdOk.one {w : World} {v : Value} {p : PV} (h : PRel noMut w v p) : RdOk w [v] [p] := by
  refine ⟨rfl, fun j v' p' h1 h2 => ?_⟩
  cases j with
  | zero => simp at h1 h2; subst h1; subst h2; exact h
  | succ j => simp at h1

theorem RdOk.nil {w : World} : RdOk w [] [] := ⟨rfl, fun j v p h => by simp at h⟩

theorem RdOk.app {w : World} {cs : List Value} {p q : List PV} {n : Nat} (h : RdOk w (cs.take n) p) (k : RdOk w (cs.drop n) q) (hn : p.length = n) : RdOk w cs (p ++ q) := by
  have e : cs = cs.take n ++ cs.drop n := (List.take_append_drop n cs).symm
  refine ⟨?_, fun j v x h1 h2 => ?_⟩
  · have h1 := h.1; have h2 := k.1
    rw [List.length_append, ← h1, ← h2, ← List.length_append, ← e]
  · by_cases hj : j < n
    · rw [List.getElem?_append_left (by omega)] at h2
      refine h.2 j v x ?_ h2
      rw [List.getElem?_take, if_pos hj]; exact h1
    · rw [List.getElem?_append_right (by omega)] at h2
      refine k.2 (j - n) v x ?_ (by rw [← hn]; exact h2)
      rw [List.getElem?_drop, show n + (j - n) = j by omega]; exact h1

section
variable (B : Bulk) (P : Program)

/-- a reading of type t, of measure at most N, is one of α -/
def RdB (N : Nat) (t : TypeId) {α : Type} (cells : α → List PV) (wf : α → Prop) (size : α → Nat) : Prop :=
  ∀ ⦃H : Type⦄ ⦃enc : TypeId × Value → H⦄ ⦃w : World⦄ ⦃base : Nat⦄ ⦃spare : Nat → Bool⦄ ⦃held : Bool⦄ ⦃fuel : Nat⦄ ⦃cs : List Value⦄ ⦃d : DataW H⦄ ⦃ps : List MemPlace⦄,
    DataW.trod enc P w base spare held fuel t cs = some (d, ps) → B.f d ≤ N → ∃ x, RdOk w cs (cells x) ∧ wf x ∧ size x ≤ B.f d

variable {B P}

theorem RdB.int {N : Nat} {t : TypeId} {k : IntKind} (ht : P.underlying t = some (.int k)) : RdB B P N t (fun n : Int => [.s (.int k n)]) (fun n => k.min ≤ n ∧ n ≤ k.max) (fun _ => 1) := by
  intro H enc w base spare held fuel cs d ps h hN
  obtain ⟨n, rfl, hx, hw⟩ := DataW.trod_int ht h
  refine ⟨n, .one (.s _ rfl), ?_, B.one d⟩
  simpa [Lit.wf] using hw

theorem RdB.bool {N : Nat} {t : TypeId} (ht : P.underlying t = some .bool) : RdB B P N t (fun b : Bool => [.s (.bool b)]) (fun _ => True) (fun _ => 1) := by
  intro H enc w base spare held fuel cs d ps h hN
  obtain ⟨b, rfl, hx⟩ := DataW.trod_bool ht h
  exact ⟨b, .one (.s _ rfl), trivial, B.one d⟩

theorem RdB.str {N : Nat} {t : TypeId} (ht : P.underlying t = some .string) : RdB B P N t (fun s : ByteArray => [.s (.string s)]) (fun _ => True) (fun s => s.size + 1) := by
  intro H enc w base spare held fuel cs d ps h hN
  obtain ⟨s, rfl, hx, hs⟩ := DataW.trod_string ht h
  simp only [Prod.mk.injEq] at hx
  obtain ⟨rfl, rfl⟩ := hx
  refine ⟨s, .one (.s _ rfl), trivial, ?_⟩
  have := B.str (H := H) s.data.toList
  simpa using this

theorem cell_lt {w : World} {a : Addr} {v : Value} (h : w.cell? a = some v) : a.block < w.heap.size := by
  unfold World.cell? at h
  split at h
  · rename_i h1; exact (Array.getElem?_eq_some_iff.1 h1).1
  · cases h

theorem sum_ge {α : Type} {f : α → Nat} {l : List α} {x : α} (h : x ∈ l) : f x ≤ (l.map f).sum := by
  induction l with
  | nil => cases h
  | cons y l ih =>
    simp only [List.map_cons, List.sum_cons]
    rcases List.mem_cons.1 h with rfl | h
    · omega
    · have := ih h; omega

theorem choose_list {α β : Type} {q : Nat → α → β → Prop} : ∀ {l : List α} , (∀ (i : Nat) a, l[i]? = some a → ∃ b, q i a b) → ∃ bs : List β, bs.length = l.length ∧ ∀ (i : Nat) a b, l[i]? = some a → bs[i]? = some b → q i a b := by
  intro l
  induction l generalizing q with
  | nil => intro _; exact ⟨[], rfl, fun i a b h => by simp at h⟩
  | cons x l ih =>
    intro h
    obtain ⟨b0, h0⟩ := h 0 x rfl
    obtain ⟨bs, hl, hb⟩ := ih (q := fun i => q (i + 1)) (fun i a hi => h (i + 1) a (by simpa using hi))
    refine ⟨b0 :: bs, by simp [hl], fun i a b h1 h2 => ?_⟩
    cases i with
    | zero => simp at h1 h2; subst h1; subst h2; exact h0
    | succ i => exact hb i a b (by simpa using h1) (by simpa using h2)

theorem sum_le_of {α β : Type} {f : α → Nat} {g : β → Nat} : ∀ {l : List α} {m : List β}, m.length = l.length → (∀ (i : Nat) a b, l[i]? = some a → m[i]? = some b → g b ≤ f a) → (m.map g).sum ≤ (l.map f).sum
  | [], [], _, _ => by simp
  | [], _ :: _, h, _ => by simp at h
  | _ :: _, [], h, _ => by simp at h
  | a :: l, b :: m, h, hk => by
    have h0 := hk 0 a b rfl rfl
    have := sum_le_of (f := f) (g := g) (l := l) (m := m) (by simpa using h) (fun i x y h1 h2 => hk (i + 1) x y (by simpa using h1) (by simpa using h2))
    simp only [List.map_cons, List.sum_cons]
    omega

theorem RdB.slice {N : Nat} {t e : TypeId} {α : Type} {cells : α → List PV} {wf : α → Prop} {size : α → Nat} (ht : P.underlying t = some (.slice e)) (hc : ∀ x, (cells x).length = P.cellsOf e)
    (hpos : 0 < P.cellsOf e) (h : ∀ N', N' < N → RdB B P N' e cells wf size) :
    RdB B P N t (fun xs : List α => [.ro (xs.map cells)]) (fun xs => ∀ x ∈ xs, wf x) (fun xs => (xs.map size).sum + 1) := by
  intro H enc w base spare held fuel cs d ps hd hN
  rcases DataW.trod_slice ht hd with ⟨rfl, hx⟩ | ⟨a, len, cap, elems, rest, n, _, rfl, hx, hb, hl, hm, hlen, hel, _, _⟩
  · exact ⟨[], .one .nl, by simp, by simpa using B.one d⟩
  simp only [Prod.mk.injEq] at hx
  obtain ⟨rfl, rfl⟩ := hx
  have hsum := B.sl (elems.map (·.1)) (rest.map (·.1))
  have hel' : ∀ (i : Nat) z, elems[i]? = some z → ∃ x : α, (∃ cs', w.cells? base (a.add (i * P.cellsOf e)) (P.cellsOf e) = some cs' ∧ RdOk w cs' (cells x)) ∧ wf x ∧ size x ≤ B.f z.1 := by
    intro i z hz
    have hi : i < len := by rw [← hlen]; exact (List.getElem?_eq_some_iff.1 hz).1
    have hk := hel i hi
    rw [hz] at hk
    obtain ⟨cs', h1, h2⟩ := Option.bind_eq_some_iff.1 hk
    have hle : B.f z.1 ≤ ((elems.map (·.1)).map B.f).sum := sum_ge (f := B.f) (List.mem_map.2 ⟨z, List.mem_of_getElem? hz, rfl⟩)
    obtain ⟨x, k1, k2, k3⟩ := h (B.f z.1) (by omega) (d := z.1) (ps := z.2) h2 (Nat.le_refl _)
    exact ⟨x, ⟨cs', h1, k1⟩, k2, k3⟩
  obtain ⟨xs, hxl, hxs⟩ := choose_list hel'
  have hxlen : xs.length = len := by omega
  have key : ∀ (i : Nat) x, xs[i]? = some x → ∃ z, elems[i]? = some z ∧ (∃ cs', w.cells? base (a.add (i * P.cellsOf e)) (P.cellsOf e) = some cs' ∧ RdOk w cs' (cells x)) ∧ wf x ∧ size x ≤ B.f z.1 := by
    intro i x hx
    have hi : i < elems.length := by rw [← hxl]; exact (List.getElem?_eq_some_iff.1 hx).1
    exact ⟨_, List.getElem?_eq_getElem hi, hxs i _ x (List.getElem?_eq_getElem hi) hx⟩
  refine ⟨xs, .one ?_, ?_, ?_⟩
  · have hcell : ∀ (i : Nat) (ee : List PV) (j : Nat) c, (xs.map cells)[i]? = some ee → ee[j]? = some c → ∃ v, w.cell? (a.add (i * P.cellsOf e + j)) = some v ∧ PRel noMut w v c := by
      intro i ee j c h1 h2
      rw [List.getElem?_map, Option.map_eq_some_iff] at h1
      obtain ⟨x, hx, rfl⟩ := h1
      obtain ⟨z, _, ⟨cs', hcs, hrd⟩, _, _⟩ := key i x hx
      obtain ⟨_, hcl, hcc⟩ := World.cells?_some hcs
      have hj : j < P.cellsOf e := by rw [← hc x]; exact (List.getElem?_eq_some_iff.1 h2).1
      have := hcc j hj
      rw [add_add] at this
      have hget : cs'[j]? = some cs'[j] := List.getElem?_eq_getElem (by omega)
      exact ⟨cs'[j], this.trans hget, hrd.2 j _ c hget h2⟩
    have := PRel.ro (μ := noMut) (w := w) a cap (P.cellsOf e) (xs.map cells) (fun i j => (w.cell? (a.add (i * P.cellsOf e + j))).getD undef) (by simpa [hxlen] using hl)
      (fun ee he => by obtain ⟨x, _, rfl⟩ := List.mem_map.1 he; exact hc x)
      (fun hne => by
        refine ⟨?_, fun h => h⟩
        cases xs with
        | nil => simp at hne
        | cons x0 r0 =>
          have h0 : 0 < (cells x0).length := by rw [hc]; exact hpos
          obtain ⟨v, hv, _⟩ := hcell 0 (cells x0) 0 _ rfl (List.getElem?_eq_getElem h0)
          have := cell_lt hv
          rwa [add_block] at this)
      (fun i ee j c h1 h2 => by obtain ⟨v, hv, _⟩ := hcell i ee j c h1 h2; simp [hv])
      (fun i ee j c h1 h2 => by obtain ⟨v, hv, hr⟩ := hcell i ee j c h1 h2; simpa [hv] using hr)
    rw [List.length_map, hxlen] at this
    exact this
  · intro x hx
    obtain ⟨i, hi, rfl⟩ := List.getElem_of_mem hx
    obtain ⟨_, _, _, k, _⟩ := key i _ (List.getElem?_eq_getElem hi)
    exact k
  · have : (xs.map size).sum ≤ ((elems.map (·.1)).map B.f).sum := by
      rw [List.map_map]
      exact sum_le_of (f := B.f ∘ Prod.fst) (g := size) hxl (fun i z x h1 h2 => (hxs i z x h1 h2).2.2)
    show (xs.map size).sum + 1 ≤ _
    omega

/-- fields one after the other from offset 'off' on: the readings of a struct's parts, laid side by side -/
def FldsAt (P : Program) : Nat → List Field → Bool
  | _, [] => true
  | off, f :: l => Nat.beq f.offset off && FldsAt P (off + P.cellsOf f.type) l

/-- parts of a struct: the first field and the others -/
def RdF (B : Bulk) (P : Program) (N : Nat) (off : Nat) (fs : List Field) {α : Type} (cells : α → List PV) (wf : α → Prop) (size : α → Nat) : Prop :=
  ∀ ⦃H : Type⦄ ⦃enc : TypeId × Value → H⦄ ⦃w : World⦄ ⦃base : Nat⦄ ⦃spare : Nat → Bool⦄ ⦃held : Bool⦄ ⦃n : Nat⦄ ⦃cs : List Value⦄ ⦃xs : List (DataW H × List MemPlace)⦄,
    xs.length = fs.length → (∀ (i : Nat) f, fs[i]? = some f → DataW.trod enc P w base spare held n f.type ((cs.drop f.offset).take (P.cellsOf f.type)) = xs[i]?) → ((xs.map (·.1)).map B.f).sum ≤ N →
    cs.length = off + (fs.map fun f => P.cellsOf f.type).sum →
    ∃ x, RdOk w (cs.drop off) (cells x) ∧ wf x ∧ size x ≤ ((xs.map (·.1)).map B.f).sum

theorem RdF.nil {N off : Nat} : RdF B P N off [] (fun _ : Unit => []) (fun _ => True) (fun _ => 0) := by
  intro H enc w base spare held n cs xs hl h hN hc
  refine ⟨(), ?_, trivial, Nat.zero_le _⟩
  have : cs.drop off = [] := by simp at hc ⊢; omega
  rw [this]
  exact .nil

theorem RdF.cons {N off : Nat} {f : Field} {fs : List Field} {α β : Type} {c1 : α → List PV} {w1 : α → Prop} {s1 : α → Nat} {c2 : β → List PV} {w2 : β → Prop} {s2 : β → Nat} (ho : f.offset = off) (hc : ∀ x, (c1 x).length = P.cellsOf f.type)
    (h : RdB B P N f.type c1 w1 s1) (k : RdF B P N (off + P.cellsOf f.type) fs c2 w2 s2) : RdF B P N off (f :: fs) (fun p : α × β => c1 p.1 ++ c2 p.2) (fun p => w1 p.1 ∧ w2 p.2) (fun p => s1 p.1 + s2 p.2) := by
  intro H enc w base spare held n cs xs hl hx hN hlen
  match xs, hl with
  | z :: zs, hl =>
    simp only [List.map_cons, List.sum_cons] at hN hlen ⊢
    have h0 := hx 0 f rfl
    obtain ⟨x, a1, a2, a3⟩ := h (d := z.1) (ps := z.2) h0 (by omega)
    obtain ⟨y, b1, b2, b3⟩ := k (xs := zs) (cs := cs) (by simpa using hl) (fun i g hg => hx (i + 1) g (by simpa using hg)) (by omega) (by omega)
    refine ⟨(x, y), ?_, ⟨a2, b2⟩, by simp only; omega⟩
    rw [ho] at a1
    refine RdOk.app (n := P.cellsOf f.type) a1 ?_ (hc x)
    rw [List.drop_drop]
    exact b1

theorem RdB.struct {N : Nat} {t : TypeId} {fs : Array Field} {α β : Type} {c : β → List PV} {wf : β → Prop} {s : β → Nat} {cells : α → List PV} {wf' : α → Prop} {size : α → Nat} (ht : P.underlying t = some (.struct fs)) (hsz : P.cellsOf t = 0 + (fs.toList.map fun f => P.cellsOf f.type).sum)
    (h : ∀ N', N' < N → RdF B P N' 0 fs.toList c wf s) (mk : β → α) (h1 : ∀ y, cells (mk y) = c y) (h2 : ∀ y, wf y → wf' (mk y)) (h3 : ∀ y, size (mk y) ≤ s y + 1) : RdB B P N t cells wf' size := by
  intro H enc w base spare held fuel cs d ps hd hN
  obtain ⟨xs, n, _, hx, hlen, hxl, hf⟩ := DataW.trod_struct ht hd
  simp only [Prod.mk.injEq] at hx
  obtain ⟨rfl, rfl⟩ := hx
  have hag := B.ag (xs.map (·.1))
  obtain ⟨y, a1, a2, a3⟩ := h _ (show ((xs.map (·.1)).map B.f).sum < N by omega) (xs := xs) (cs := cs) (by simpa using hxl) (fun i f hi => hf i f (by simpa using hi)) (Nat.le_refl _) (hlen.trans hsz)
  refine ⟨mk y, ?_, h2 y a2, ?_⟩
  · rw [h1]; simpa using a1
  · have := h3 y; omega

theorem RdB.conv {N : Nat} {t : TypeId} {α : Type} {c c' : α → List PV} {wf wf' : α → Prop} {s s' : α → Nat} (h : RdB B P N t c wf s) (h1 : ∀ x, c' x = c x) (h2 : ∀ x, wf x → wf' x) (h3 : ∀ x, s' x ≤ s x) : RdB B P N t c' wf' s' := by
  intro H enc w base spare held fuel cs d ps hd hN
  obtain ⟨x, a1, a2, a3⟩ := h hd hN
  exact ⟨x, by rw [h1]; exact a1, h2 x a2, Nat.le_trans (h3 x) a3⟩

end

/-! ### arguments -/

theorem PRel.toVRel {w : World} {v : Value} {p : PV} (h : PRel noMut w v p) : VRel ⟨fun _ => none, fun _ => False⟩ w [] v (.pv p) :=
  .pv v p (h.mono (Nat.le_refl _) (fun b _ _ => ⟨rfl, fun hm => by
    rcases hm with hm | ⟨id, o, h1, _, _⟩
    · exact hm
    · simp at h1⟩))

theorem arg_one {w : World} {v : Value} {p : PV} (h : RdOk w [v] [p]) : AVRel ⟨fun _ => none, fun _ => False⟩ w [] v (.one (.pv p)) := .one _ _ (h.2 0 v p rfl rfl).toVRel

theorem arg_ag {w : World} {cs : List Value} {ps : List PV} (h : RdOk w cs ps) : AVRel ⟨fun _ => none, fun _ => False⟩ w [] (.agg cs.toArray) (.ag (ps.map .pv)) := by
  refine .ag _ _ ⟨by simpa using h.1, fun j v c h1 h2 => ?_⟩
  rw [List.getElem?_map, Option.map_eq_some_iff] at h2
  obtain ⟨p, h2, rfl⟩ := h2
  exact (h.2 j v p h1 h2).toVRel

/-- an argument of a type: of one cell, or a struct -/
theorem arg_read {B : Bulk} {P : Program} {H : Type} {enc : TypeId × Value → H} {w : World} {base b0 : Nat} {spare : Nat → Bool} {held : Bool} {r : Reach} {t : TypeId} {v : Value} {d : DataW H} {ps : List MemPlace} {α : Type} {cells : α → List PV} {wf : α → Prop} {size : α → Nat}
    (h : ∀ N, RdB B P N t cells wf size) (hval : Value.okWide P w r b0 t v) (hd : DataW.Trod enc P w base spare held t v d ps) :
    ∃ x, RdOk w v.cells.toList (cells x) ∧ wf x ∧ size x ≤ B.f d := by
  obtain ⟨fuel, hd⟩ := hd
  exact h _ hd (Nat.le_refl _)

theorem ok_struct {P : Program} {w : World} {r : Reach} {b0 : Nat} {t : TypeId} {v : Value} {fs : Array Field} (ht : P.underlying t = some (.struct fs)) (hval : Value.okWide P w r b0 t v) : v = .agg v.cells := by
  simp only [Value.okWide, ht] at hval
  obtain ⟨cs, rfl, _⟩ := hval
  rfl

theorem arg_struct {w : World} {v : Value} {ps : List PV} (hv : v = .agg v.cells) (h : RdOk w v.cells.toList ps) : AVRel ⟨fun _ => none, fun _ => False⟩ w [] v (.ag (ps.map .pv)) := by
  have := arg_ag h
  rw [hv]
  simpa [Value.cells] using this

/-- one cell: not a struct, so the value itself -/
theorem arg_cell {w : World} {v : Value} {p : PV} (h : RdOk w v.cells.toList [p]) (hv : ∀ cs, v ≠ .agg cs) : AVRel ⟨fun _ => none, fun _ => False⟩ w [] v (.one (.pv p)) := by
  have e : v.cells = #[v] := by cases v <;> first | rfl | exact absurd rfl (hv _)
  rw [e] at h
  exact arg_one h

theorem ok_cell {P : Program} {w : World} {r : Reach} {b0 : Nat} {t : TypeId} {v : Value} (ht : (match P.underlying t with | some (.int _) => true | some .bool => true | some .string => true | some (.slice _) => true | _ => false) = true) (hval : Value.okWide P w r b0 t v) : ∀ cs, v ≠ .agg cs := by
  rintro cs rfl
  cases hu : P.underlying t with
  | none => simp [hu] at ht
  | some d =>
    cases d <;> simp [hu] at ht <;> simp [Value.okWide, hu, Cell.okWide, Cell.ok] at hval

/-! ### closing -/

structure Kept (w w' : World) : Prop where
  os : w'.os = w.os
  output : w'.output = w.output
  size : w.heap.size ≤ w'.heap.size
  blk : ∀ b : Nat, b < w.heap.size → w'.heap[b]? = w.heap[b]?

theorem PC.call {P : Program} {f : Nat} {args : List AV} {r : AV} (h : PC P f args r) {w : World} {vs : List Value} (hl : vs.length = args.length) (hA : ∀ (j : Nat) v a, vs[j]? = some v → args[j]? = some a → AVRel ⟨fun _ => none, fun _ => False⟩ w [] v a) (hg : ∀ (b : Nat) (l : List Value), glob b = some l → b < w.heap.size ∧ ∀ (i : Nat) v, l[i]? = some v → w.cell? ⟨b, i, none⟩ = some v) :
    Calls P f vs.toArray w fun e w' => ∃ v ι', e = .returned v ∧ AVRel ι' w' [] v r ∧ Kept w w' := by
  refine (h ⟨fun _ => none, fun _ => False⟩ w vs ⟨fun id o h => by simp at h, fun b h => h.elim, fun b h => fun h' => h', fun id id' o o' b h => by simp at h, fun b o h => ⟨fun hm => hm.elim id (fun ⟨_, _, h1, _⟩ => by simp at h1), hg b o h⟩⟩ ⟨hl, hA⟩).mono ?_
  rintro e w' ⟨v, av, st', ι', rfl, ⟨rfl, rfl⟩, hR, hv, k⟩
  refine ⟨v, ι', rfl, hv, k.os, k.output, k.size, fun b hb => (k.blk b hb ?_).1⟩
  rintro ⟨id, o, h1, _⟩
  simp at h1

theorem Kept.keptBut {w w' : World} (k : Kept w w') (may : MemPlace → Prop) : w.keptBut w' may := by
  refine ⟨k.os, k.output, fun i hi => ?_⟩
  rw [k.blk i hi]
  have : w.heap[i]? = some w.heap[i] := Array.getElem?_eq_getElem hi
  rw [this]
  cases w.heap[i] with
  | cells c t fr => exact ⟨rfl, rfl, rfl, fun _ _ => rfl⟩
  | map es clock => exact .inr ⟨rfl, rfl⟩
  | _ => rfl

theorem Kept.frozen {w w' : World} (k : Kept w w') {b off : Nat} (hb : b < w.heap.size) : w'.frozen? ⟨b, off, none⟩ = w.frozen? ⟨b, off, none⟩ := by
  simp [World.frozen?, k.blk b hb]

open Go.ChangeShapes Go.WideElems Go.WideShapes in
theorem stays_all {H : Type} {enc : TypeId × Value → H} {P : Program} {W W' : World} (hl : laidOutB P = true) (k : Kept W W') {sp : Nat → Bool} : ∀ {ts : List TypeId} {vs : List Value} {ds : List (DataW H)} {ps : List MemPlace}, (ts.all fun t => P.readableRec t && Nat.ble (t + 1) P.types.size) = true →
    DataW.TrodAll enc P W 0 (fun _ => true) true ts vs ds ps → (∀ p ∈ ps, p.block < W.heap.size) → (∀ p ∈ ps, sp p.block = true) → DataW.TrodAll enc P W' 0 sp true ts vs ds ps
  | [], _, _, _, _, h, _, _ => by
    obtain ⟨rfl, rfl, rfl⟩ := trodAll_nil h
    exact rfl
  | t :: ts, _, _, _, hr, h, hp, hs => by
    obtain ⟨v, vs1, d, ds1, a, b, rfl, rfl, rfl, h1, h2⟩ := trodAll_cons h
    simp only [List.all_cons, Bool.and_eq_true] at hr
    refine ⟨a, b, Trod_stays hl hr.1.1 (Nat.le_of_ble_eq_true hr.1.2) h1 (fun p hpa => ?_) (fun p hpa => hs p (by simp [hpa])), stays_all hl k hr.2 h2 (fun p hpa => hp p (by simp [hpa])) (fun p hpa => hs p (by simp [hpa])), rfl⟩
    have := hp p (by simp [hpa])
    cases p with
    | cell b off => exact cell?_same (k.blk b this)
    | map b => exact k.blk b this

open Go.ChangeShapes Go.RowKit Go.WideShapes Go.ChangeAt in
/-- the row's end: it returned true and left its arguments alone -/
theorem post_true {H : Type} {enc : TypeId × Value → H} {P : Program} {f : Func} {s : ChangeSpec} {apart fresh handsOn again : Bool} {W W' : World} {args : Array Value} {ds gs : List (DataW H)} {before : List MemPlace}
    (hW : DataW.Whole enc P f.params.toList s.vars apart W args.toList ds gs before) (hl : laidOutB P = true) (hr : (f.params.toList.all fun t => P.readableRec t && Nat.ble (t + 1) P.types.size) = true) (k : Kept W W')
    (hvars : s.vars = []) (t : TypeId) (ht : f.resultTypes = #[t]) (hb : P.underlying t = some .bool) (hsp : s.fn H ds = { results := [.lit (.bool true)], args := ds }) :
    s.post enc P f apart fresh handsOn again W args (.bool true) W' := by
  have hW' := hW
  have hlt : ∀ p ∈ before, p.block < W.heap.size := fun p hp => hW.lt p hp
  obtain ⟨p, q, hA, hV, rfl, hz, hn⟩ := hW'
  rw [hvars] at hV
  obtain ⟨rfl, rfl⟩ := trodVars_none hV
  have hres : ∀ (b : Nat) (sp : Nat → Bool) (hd : Bool), DataW.TrodAll enc P W' b sp hd f.resultTypes.toList ((Value.bool true).resultList f.resultTypes.size) [.lit (.bool true)] [] := by
    intro b sp hd
    rw [ht]
    exact trodAll_cons_mk (shut_bool hb _) trodAll_mk0
  simp only [List.append_nil] at *
  have hargs : ∀ sp : Nat → Bool, (∀ x ∈ p, sp x.block = true) → DataW.TrodAll enc P W' 0 sp true f.params.toList args.toList ds p := fun sp hs => stays_all hl k hr hA hlt hs
  have hold : ∀ x ∈ p, (fun b => decide (b < W.heap.size)) x.block = true := fun x hx => by simpa using hlt x hx
  refine ⟨ds, [], p, [], p, [], by simpa using hW, ?_, ?_, ?_, k.keptBut _, fun _ => ⟨?_, [.lit (.bool true)] ++ ds, [], p, ⟨p, [], ?_, ?_, by simp, ?_, hn⟩, ?_⟩⟩
  · simp only [List.append_nil, hsp]; exact hres _ _ _
  · simp only [List.append_nil, hsp]; exact hargs _ hold
  · simp only [List.append_nil, hsp, hvars]; rfl
  · exact ok_one ht rfl (okWide_bool_mk hb _)
  · have := trodAll_append (hargs (fun _ => true) (fun _ _ => rfl)) (hres 0 (fun _ => true) true)
    simpa using this
  · rw [hvars]; rfl
  · intro b off hp
    rw [k.frozen (b := b) (off := off) (hlt _ hp)]
    exact hz b off hp
  · intro x hx _; exact hx

theorem bool_of {ι : IM} {w : World} {v : Value} {b : Bool} (h : AVRel ι w [] v (.one (.pv (.s (.bool b))))) : v = .bool b := by
  cases h with
  | one _ _ h =>
    cases h with
    | pv _ _ h => cases h with | s => rfl

end Go.SX
namespace Go.SX
open Go
set_option linter.unusedVariables false

def fieldsOf (P : Program) (t : TypeId) : List Field := match P.underlying t with
  | some (.struct fs) => fs.toList
  | _ => []

def isStruct (P : Program) (t : TypeId) : Bool := match P.underlying t with
  | some (.struct _) => true
  | _ => false

def fld (P : Program) (t : TypeId) (i : Nat) : Field := (fieldsOf P t)[i]?.getD default

section
variable {B : Bulk} {P : Program}

theorem RdB.structF {N : Nat} {t : TypeId} {L : List Field} {α β : Type} {c : β → List PV} {wf : β → Prop} {s : β → Nat} {cells : α → List PV} {wf' : α → Prop} {size : α → Nat} (hu : isStruct P t = true) (hL : fieldsOf P t = L) (hsz : P.cellsOf t = 0 + (L.map fun f => P.cellsOf f.type).sum)
    (h : ∀ N', N' < N → RdF B P N' 0 L c wf s) (mk : β → α) (h1 : ∀ y, cells (mk y) = c y) (h2 : ∀ y, wf y → wf' (mk y)) (h3 : ∀ y, size (mk y) ≤ s y + 1) : RdB B P N t cells wf' size := by
  unfold isStruct at hu
  unfold fieldsOf at hL
  cases hd : P.underlying t with
  | none => simp [hd] at hu
  | some d =>
    cases d <;> simp [hd] at hu
    rename_i fs
    simp only [hd] at hL
    subst hL
    exact RdB.struct hd hsz h mk h1 h2 h3

theorem ok_structF {w : World} {r : Reach} {b0 : Nat} {t : TypeId} {v : Value} (hu : isStruct P t = true) (hval : Value.okWide P w r b0 t v) : v = .agg v.cells := by
  unfold isStruct at hu
  cases hd : P.underlying t with
  | none => simp [hd] at hu
  | some d =>
    cases d <;> simp [hd] at hu
    exact ok_struct hd hval

end

/-- a civil time -/
theorem rdCivil {B : Bulk} {P : Program} (t i : TypeId) (hi : P.underlying i = some (.int .i64)) (hu : isStruct P t = true) (hL : fieldsOf P t = [fld P t 0, fld P t 1, fld P t 2, fld P t 3, fld P t 4, fld P t 5]) (hs : P.cellsOf t = 6) (h1 : P.cellsOf i = 1)
    (ht : (fld P t 0).type = i ∧ (fld P t 1).type = i ∧ (fld P t 2).type = i ∧ (fld P t 3).type = i ∧ (fld P t 4).type = i ∧ (fld P t 5).type = i)
    (ho : (fld P t 0).offset = 0 ∧ (fld P t 1).offset = 1 ∧ (fld P t 2).offset = 2 ∧ (fld P t 3).offset = 3 ∧ (fld P t 4).offset = 4 ∧ (fld P t 5).offset = 5) (N : Nat) :
    RdB B P N t (fun c : GCivil => [pi c.year, pi c.month, pi c.day, pi c.hour, pi c.minute, pi c.second]) (fun _ => True) (fun _ => 1) := by
  obtain ⟨t0, t1, t2, t3, t4, t5⟩ := ht
  obtain ⟨o0, o1, o2, o3, o4, o5⟩ := ho
  have I : ∀ (N : Nat) (f : Field), f.type = i → RdB B P N f.type (fun n : Int => [.s (.int .i64 n)]) (fun n => IntKind.min .i64 ≤ n ∧ n ≤ IntKind.max .i64) (fun _ => 1) := fun N f hf => RdB.int (by rw [hf]; exact hi)
  have C : ∀ (f : Field), f.type = i → ∀ x : Int, ([PV.s (.int .i64 x)] : List PV).length = P.cellsOf f.type := fun f hf x => by rw [hf, h1]; rfl
  refine RdB.structF (α := GCivil) (cells := fun c : GCivil => [pi c.year, pi c.month, pi c.day, pi c.hour, pi c.minute, pi c.second]) (wf' := fun _ => True) (size := fun _ => 1) hu hL (by simp [t0, t1, t2, t3, t4, t5, h1, hs]) (fun N' _ => RdF.cons o0 (C _ t0) (I N' _ t0) (RdF.cons (by rw [o1, t0, h1]) (C _ t1) (I N' _ t1) (RdF.cons (by rw [o2, t0, t1, h1]) (C _ t2) (I N' _ t2)
    (RdF.cons (by rw [o3, t0, t1, t2, h1]) (C _ t3) (I N' _ t3) (RdF.cons (by rw [o4, t0, t1, t2, t3, h1]) (C _ t4) (I N' _ t4) (RdF.cons (by rw [o5, t0, t1, t2, t3, t4, h1]) (C _ t5) (I N' _ t5) RdF.nil))))))
    (fun y => (⟨y.1, y.2.1, y.2.2.1, y.2.2.2.1, y.2.2.2.2.1, y.2.2.2.2.2.1⟩ : GCivil)) (fun y => rfl) (fun _ _ => trivial) (fun y => by simp)

end Go.SX
namespace Go.SX
open Go
set_option linter.unusedVariables false

abbrev i64ok (n : Int) : Prop := IntKind.min .i64 ≤ n ∧ n ≤ IntKind.max .i64

/-- a value: kind, number, scale, text, items -/
theorem rdValue {B : Bulk} {P : Program} {wf : GValue → Prop} {sz : GValue → Nat} (tv ti ts tl : TypeId) (hi : P.underlying ti = some (.int .i64)) (hs : P.underlying ts = some .string) (hl : P.underlying tl = some (.slice tv)) (hu : isStruct P tv = true)
    (hL : fieldsOf P tv = [fld P tv 0, fld P tv 1, fld P tv 2, fld P tv 3, fld P tv 4]) (hz : P.cellsOf tv = 5 ∧ P.cellsOf ti = 1 ∧ P.cellsOf ts = 1 ∧ P.cellsOf tl = 1)
    (ht : (fld P tv 0).type = ti ∧ (fld P tv 1).type = ti ∧ (fld P tv 2).type = ti ∧ (fld P tv 3).type = ts ∧ (fld P tv 4).type = tl)
    (ho : (fld P tv 0).offset = 0 ∧ (fld P tv 1).offset = 1 ∧ (fld P tv 2).offset = 2 ∧ (fld P tv 3).offset = 3 ∧ (fld P tv 4).offset = 4)
    (hwf : ∀ k n sc s it, i64ok k → i64ok n → i64ok sc → (∀ x ∈ it, wf x) → wf ⟨k, n, sc, s, it⟩) (hsz : ∀ k n sc s it, sz ⟨k, n, sc, s, it⟩ ≤ s.size + (it.map sz).sum + 6) :
    ∀ N, RdB B P N tv GValue.cells wf sz := by
  obtain ⟨t0, t1, t2, t3, t4⟩ := ht
  obtain ⟨o0, o1, o2, o3, o4⟩ := ho
  obtain ⟨z0, z1, z2, z3⟩ := hz
  intro N
  induction N using Nat.strongRecOn with
  | _ N ih =>
    have I : ∀ (N : Nat) (f : Field), f.type = ti → RdB B P N f.type (fun n : Int => [PV.s (.int .i64 n)]) (fun n => IntKind.min .i64 ≤ n ∧ n ≤ IntKind.max .i64) (fun _ => 1) := fun N f hf => RdB.int (by rw [hf]; exact hi)
    have C : ∀ (f : Field), f.type = ti → ∀ x : Int, ([PV.s (.int .i64 x)] : List PV).length = P.cellsOf f.type := fun f hf x => by rw [hf, z1]; rfl
    refine RdB.structF (α := GValue) (cells := GValue.cells) (wf' := wf) (size := sz) hu hL (by simp [t0, t1, t2, t3, t4, z0, z1, z2, z3]) (fun N' hN' =>
      RdF.cons o0 (C _ t0) (I N' _ t0) (RdF.cons (by rw [o1, t0, z1]) (C _ t1) (I N' _ t1) (RdF.cons (by rw [o2, t0, t1, z1]) (C _ t2) (I N' _ t2)
        (RdF.cons (c1 := fun s : ByteArray => [PV.s (.string s)]) (by rw [o3, t0, t1, t2, z1]) (fun x => by rw [t3, z2]; rfl) (RdB.str (by rw [t3]; exact hs))
          (RdF.cons (c1 := fun xs : List GValue => [PV.ro (xs.map GValue.cells)]) (by rw [o4, t0, t1, t2, t3, z1, z2]) (fun x => by rw [t4, z3]; rfl)
            (RdB.slice (e := tv) (by rw [t4]; exact hl) (fun x => by rw [z0]; exact eValue.hsz x) (by omega) (fun N'' hN'' => ih N'' (by omega))) RdF.nil)))))
      (fun y => (⟨y.1, y.2.1, y.2.2.1, y.2.2.2.1, y.2.2.2.2.1⟩ : GValue)) (fun y => ?_) (fun y h => hwf _ _ _ _ _ h.1 h.2.1 h.2.2.1 h.2.2.2.2.1) (fun y => ?_)
    · simp only [GValue.cells, GValue.lcells_eq]
      rfl
    · have := hsz y.1 y.2.1 y.2.2.1 y.2.2.2.1 y.2.2.2.2.1
      exact Nat.le_trans this (by show _ ≤ 1 + (1 + (1 + ((y.2.2.2.1).size + 1 + ((y.2.2.2.2.1.map sz).sum + 1 + 0)))) + 1; omega)

end Go.SX
namespace Go.SX
open Go
set_option linter.unusedVariables false
set_option linter.unusedSimpArgs false

theorem rdField {B : Bulk} {P : Program} {wfT : GType → Prop} {szT : GType → Nat} {wfF : GField → Prop} {szF : GField → Nat} (tt tf ti ts tb : TypeId) (hi : P.underlying ti = some (.int .i64)) (hs : P.underlying ts = some .string) (hb : P.underlying tb = some .bool) (hu : isStruct P tf = true)
    (hL : fieldsOf P tf = [fld P tf 0, fld P tf 1, fld P tf 2, fld P tf 3]) (hz : P.cellsOf tf = 6 ∧ P.cellsOf tt = 3 ∧ P.cellsOf ti = 1 ∧ P.cellsOf ts = 1 ∧ P.cellsOf tb = 1)
    (ht : (fld P tf 0).type = ti ∧ (fld P tf 1).type = ts ∧ (fld P tf 2).type = tb ∧ (fld P tf 3).type = tt)
    (ho : (fld P tf 0).offset = 0 ∧ (fld P tf 1).offset = 1 ∧ (fld P tf 2).offset = 2 ∧ (fld P tf 3).offset = 3)
    (hwf : ∀ i n q t, i64ok i → wfT t → wfF ⟨i, n, q, t⟩) (hsz : ∀ i n q t, szF ⟨i, n, q, t⟩ ≤ n.size + szT t + 4) {N : Nat} (ih : ∀ N', N' < N → RdB B P N' tt GType.cells wfT szT) :
    RdB B P N tf GType.fcell wfF szF := by
  obtain ⟨t0, t1, t2, t3⟩ := ht
  obtain ⟨o0, o1, o2, o3⟩ := ho
  obtain ⟨z0, z1, z2, z3, z4⟩ := hz
  refine RdB.structF (α := GField) (cells := GType.fcell) (wf' := wfF) (size := szF) hu hL (by simp [t0, t1, t2, t3, z0, z1, z2, z3, z4]) (fun N' hN' =>
    RdF.cons (c1 := fun n : Int => [PV.s (.int .i64 n)]) o0 (fun x => by rw [t0, z2]; rfl) (RdB.int (by rw [t0]; exact hi))
      (RdF.cons (c1 := fun s : ByteArray => [PV.s (.string s)]) (by rw [o1, t0, z2]) (fun x => by rw [t1, z3]; rfl) (RdB.str (by rw [t1]; exact hs))
        (RdF.cons (c1 := fun b : Bool => [PV.s (.bool b)]) (by rw [o2, t0, t1, z2, z3]) (fun x => by rw [t2, z4]; rfl) (RdB.bool (by rw [t2]; exact hb))
          (RdF.cons (c1 := GType.cells) (by rw [o3, t0, t1, t2, z2, z3, z4]) (fun x => by rw [t3, z1]; cases x; rfl) (by rw [t3]; exact ih N' hN') RdF.nil))))
    (fun y => (⟨y.1, y.2.1, y.2.2.1, y.2.2.2.1⟩ : GField)) (fun y => ?_) (fun y h => hwf _ _ _ _ h.1 h.2.2.2.1) (fun y => ?_)
  · simp only [GType.fcell, List.append_nil]
    rfl
  · have := hsz y.1 y.2.1 y.2.2.1 y.2.2.2.1
    exact Nat.le_trans this (by show _ ≤ 1 + ((y.2.1).size + 1 + (1 + (szT y.2.2.2.1 + 0))) + 1; omega)

/-- a type: kind, scale, fields -/
theorem rdType {B : Bulk} {P : Program} {wfT : GType → Prop} {szT : GType → Nat} {wfF : GField → Prop} {szF : GField → Nat} (tt tf ti ts tb tl : TypeId) (hi : P.underlying ti = some (.int .i64)) (hs : P.underlying ts = some .string) (hb : P.underlying tb = some .bool)
    (hl : P.underlying tl = some (.slice tf)) (hu : isStruct P tf = true) (hu' : isStruct P tt = true)
    (hL : fieldsOf P tf = [fld P tf 0, fld P tf 1, fld P tf 2, fld P tf 3]) (hL' : fieldsOf P tt = [fld P tt 0, fld P tt 1, fld P tt 2]) (hz : P.cellsOf tf = 6 ∧ P.cellsOf tt = 3 ∧ P.cellsOf ti = 1 ∧ P.cellsOf ts = 1 ∧ P.cellsOf tb = 1) (hzl : P.cellsOf tl = 1)
    (ht : (fld P tf 0).type = ti ∧ (fld P tf 1).type = ts ∧ (fld P tf 2).type = tb ∧ (fld P tf 3).type = tt)
    (ho : (fld P tf 0).offset = 0 ∧ (fld P tf 1).offset = 1 ∧ (fld P tf 2).offset = 2 ∧ (fld P tf 3).offset = 3)
    (ht' : (fld P tt 0).type = ti ∧ (fld P tt 1).type = ti ∧ (fld P tt 2).type = tl)
    (ho' : (fld P tt 0).offset = 0 ∧ (fld P tt 1).offset = 1 ∧ (fld P tt 2).offset = 2)
    (hwf : ∀ i n q t, i64ok i → wfT t → wfF ⟨i, n, q, t⟩) (hsz : ∀ i n q t, szF ⟨i, n, q, t⟩ ≤ n.size + szT t + 4)
    (hwf' : ∀ k s fs, i64ok k → i64ok s → (∀ f ∈ fs, wfF f) → wfT ⟨k, s, fs⟩) (hsz' : ∀ k s fs, szT ⟨k, s, fs⟩ ≤ (fs.map szF).sum + 4) :
    ∀ N, RdB B P N tt GType.cells wfT szT := by
  intro N
  induction N using Nat.strongRecOn with
  | _ N ih =>
    have hF : ∀ N', N' ≤ N → RdB B P N' tf GType.fcell wfF szF := fun N' h => rdField tt tf ti ts tb hi hs hb hu hL hz ht ho hwf hsz (fun N'' h'' => ih N'' (by omega))
    obtain ⟨t0, t1, t2⟩ := ht'
    obtain ⟨o0, o1, o2⟩ := ho'
    obtain ⟨z0, z1, z2, z3, z4⟩ := hz
    refine RdB.structF (α := GType) (cells := GType.cells) (wf' := wfT) (size := szT) hu' hL' (by simp [t0, t1, t2, z1, z2, hzl]) (fun N' hN' =>
      RdF.cons (c1 := fun n : Int => [PV.s (.int .i64 n)]) o0 (fun x => by rw [t0, z2]; rfl) (RdB.int (by rw [t0]; exact hi))
        (RdF.cons (c1 := fun n : Int => [PV.s (.int .i64 n)]) (by rw [o1, t0, z2]) (fun x => by rw [t1, z2]; rfl) (RdB.int (by rw [t1]; exact hi))
          (RdF.cons (c1 := fun xs : List GField => [PV.ro (xs.map GType.fcell)]) (by rw [o2, t0, t1, z2]) (fun x => by rw [t2, hzl]; rfl)
            (RdB.slice (e := tf) (by rw [t2]; exact hl) (fun x => by rw [z0]; exact eField.hsz x) (by omega) (fun N'' hN'' => hF N'' (by omega))) RdF.nil)))
      (fun y => (⟨y.1, y.2.1, y.2.2.1⟩ : GType)) (fun y => ?_) (fun y h => hwf' _ _ _ h.1 h.2.1 h.2.2.1) (fun y => ?_)
    · simp only [GType.cells, GType.fcells_eq]
      rfl
    · have := hsz' y.1 y.2.1 y.2.2.1
      exact Nat.le_trans this (by show _ ≤ 1 + (1 + ((y.2.2.1.map szF).sum + 1 + 0)) + 1; omega)

theorem arg_type {w : World} {v : Value} {x : GType} (h : AVRel ⟨fun _ => none, fun _ => False⟩ w [] v (.ag ((GType.cells x).map .pv))) : AVRel ⟨fun _ => none, fun _ => False⟩ w [] v (.ag [ci x.kind, ci x.scale, cl eField x.fields]) := by
  cases x; exact h

end Go.SX
namespace Go.SX
open Go
set_option linter.unusedVariables false
set_option linter.unusedSimpArgs false

theorem rdFields {B : Bulk} {P : Program} {wfT : GType → Prop} {szT : GType → Nat} {wfF : GField → Prop} {szF : GField → Nat} {szL : List GField → Nat} (tt tf ti ts tb tl : TypeId) (hi : P.underlying ti = some (.int .i64)) (hs : P.underlying ts = some .string) (hb : P.underlying tb = some .bool)
    (hl : P.underlying tl = some (.slice tf)) (hu : isStruct P tf = true) (hu' : isStruct P tt = true)
    (hL : fieldsOf P tf = [fld P tf 0, fld P tf 1, fld P tf 2, fld P tf 3]) (hL' : fieldsOf P tt = [fld P tt 0, fld P tt 1, fld P tt 2]) (hz : P.cellsOf tf = 6 ∧ P.cellsOf tt = 3 ∧ P.cellsOf ti = 1 ∧ P.cellsOf ts = 1 ∧ P.cellsOf tb = 1) (hzl : P.cellsOf tl = 1)
    (ht : (fld P tf 0).type = ti ∧ (fld P tf 1).type = ts ∧ (fld P tf 2).type = tb ∧ (fld P tf 3).type = tt)
    (ho : (fld P tf 0).offset = 0 ∧ (fld P tf 1).offset = 1 ∧ (fld P tf 2).offset = 2 ∧ (fld P tf 3).offset = 3)
    (ht' : (fld P tt 0).type = ti ∧ (fld P tt 1).type = ti ∧ (fld P tt 2).type = tl)
    (ho' : (fld P tt 0).offset = 0 ∧ (fld P tt 1).offset = 1 ∧ (fld P tt 2).offset = 2)
    (hwf : ∀ i n q t, i64ok i → wfT t → wfF ⟨i, n, q, t⟩) (hsz : ∀ i n q t, szF ⟨i, n, q, t⟩ ≤ n.size + szT t + 4)
    (hwf' : ∀ k s fs, i64ok k → i64ok s → (∀ f ∈ fs, wfF f) → wfT ⟨k, s, fs⟩) (hsz' : ∀ k s fs, szT ⟨k, s, fs⟩ ≤ (fs.map szF).sum + 4) (hszl : ∀ xs, szL xs ≤ (xs.map szF).sum + 1) (N : Nat) :
    RdB B P N tl (fun xs : List GField => [PV.ro (eField.els xs)]) (fun xs => ∀ x ∈ xs, wfF x) szL := by
  have hT := rdType (B := B) (P := P) tt tf ti ts tb tl hi hs hb hl hu hu' hL hL' hz hzl ht ho ht' ho' hwf hsz hwf' hsz'
  have hF : ∀ N, RdB B P N tf GType.fcell wfF szF := fun N => rdField tt tf ti ts tb hi hs hb hu hL hz ht ho hwf hsz (fun N' _ => hT N')
  refine RdB.conv (RdB.slice (e := tf) (cells := GType.fcell) hl (fun x => by rw [hz.1]; exact eField.hsz x) (by rw [hz.1]; omega) (fun N' _ => hF N')) (fun x => ?_) (fun x h => h) hszl
  show [PV.ro (GType.fcells x)] = _
  rw [GType.fcells_eq]

end Go.SX
namespace Go.SX
open Go
set_option linter.unusedVariables false

theorem rdValues {B : Bulk} {P : Program} {wf : GValue → Prop} {sz : GValue → Nat} {szL : List GValue → Nat} (tv ti ts tl : TypeId) (hi : P.underlying ti = some (.int .i64)) (hs : P.underlying ts = some .string) (hl : P.underlying tl = some (.slice tv)) (hu : isStruct P tv = true)
    (hL : fieldsOf P tv = [fld P tv 0, fld P tv 1, fld P tv 2, fld P tv 3, fld P tv 4]) (hz : P.cellsOf tv = 5 ∧ P.cellsOf ti = 1 ∧ P.cellsOf ts = 1 ∧ P.cellsOf tl = 1)
    (ht : (fld P tv 0).type = ti ∧ (fld P tv 1).type = ti ∧ (fld P tv 2).type = ti ∧ (fld P tv 3).type = ts ∧ (fld P tv 4).type = tl)
    (ho : (fld P tv 0).offset = 0 ∧ (fld P tv 1).offset = 1 ∧ (fld P tv 2).offset = 2 ∧ (fld P tv 3).offset = 3 ∧ (fld P tv 4).offset = 4)
    (hwf : ∀ k n sc s it, i64ok k → i64ok n → i64ok sc → (∀ x ∈ it, wf x) → wf ⟨k, n, sc, s, it⟩) (hsz : ∀ k n sc s it, sz ⟨k, n, sc, s, it⟩ ≤ s.size + (it.map sz).sum + 6) (hszl : ∀ xs, szL xs ≤ (xs.map sz).sum + 1) (N : Nat) :
    RdB B P N tl (fun xs : List GValue => [PV.ro (eValue.els xs)]) (fun xs => ∀ x ∈ xs, wf x) szL := by
  have hV := rdValue (B := B) (P := P) tv ti ts tl hi hs hl hu hL hz ht ho hwf hsz
  refine RdB.conv (RdB.slice (e := tv) (cells := GValue.cells) hl (fun x => by rw [hz.1]; exact eValue.hsz x) (by rw [hz.1]; omega) (fun N' _ => hV N')) (fun x => ?_) (fun x h => h) hszl
  show [PV.ro (GValue.lcells x)] = _
  rw [GValue.lcells_eq]

theorem sum_ones : ∀ xs : List Int, (xs.map (fun _ => (1 : Nat))).sum = xs.length
  | [] => rfl
  | x :: l => by rw [List.map_cons, List.sum_cons, sum_ones l, List.length_cons]; omega

theorem rdInts {B : Bulk} {P : Program} (tl ti : TypeId) (hl : P.underlying tl = some (.slice ti)) (hi : P.underlying ti = some (.int .i64)) (hz : P.cellsOf ti = 1) (N : Nat) :
    RdB B P N tl (fun xs : List Int => [PV.ro (eI.els xs)]) (fun xs => ∀ x ∈ xs, i64ok x) (fun xs => xs.length) := by
  refine RdB.conv (RdB.slice (e := ti) (cells := fun n : Int => [PV.s (.int .i64 n)]) hl (fun x => by rw [hz]; rfl) (by rw [hz]; omega) (fun N' _ => RdB.int hi)) (fun x => rfl) (fun x h => h) (fun xs => ?_)
  rw [sum_ones]; omega

theorem rdBytes {B : Bulk} {P : Program} (tl ti : TypeId) (hl : P.underlying tl = some (.slice ti)) (hi : P.underlying ti = some (.int .u8)) (hz : P.cellsOf ti = 1) (N : Nat) :
    RdB B P N tl (fun xs : List Int => [PV.ro ((eK .u8).els xs)]) (fun xs => ∀ x ∈ xs, IntKind.min .u8 ≤ x ∧ x ≤ IntKind.max .u8) (fun xs => xs.length) := by
  refine RdB.conv (RdB.slice (e := ti) (cells := fun n : Int => [PV.s (.int .u8 n)]) hl (fun x => by rw [hz]; rfl) (by rw [hz]; omega) (fun N' _ => RdB.int hi)) (fun x => rfl) (fun x h => h) (fun xs => ?_)
  rw [sum_ones]; omega

end Go.SX
