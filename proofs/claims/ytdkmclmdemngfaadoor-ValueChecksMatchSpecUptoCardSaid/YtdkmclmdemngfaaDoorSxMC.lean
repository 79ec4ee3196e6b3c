/- SX: functions that are handed objects of their callers: contracts out of bodies, and calls. -/
import Derived.Test.YtdkmclmdemngfaaDoorSxGY
namespace Go.SX
open Go
set_option linter.unusedVariables false
set_option linter.unusedSimpArgs false

section
variable {P : Program} {n n0 : Nat} {loose an : List Nat} {Q : QT} {fr : Fr} {st : St} {c : Code} {ops : Array Oper} {X : List Nat} {l : List Oper} {tw : List (List Nat × List Nat)} {fr2 : Fr} {st2 : St}

/-- what a function's end must say: pure result; of the store, the callers' objects -/
def FinM (P : Program) (fn : Func) (r : AV) (k : Nat) (sc' : St) : QT := fun e fr st =>
  (e = .normal ∨ e = .ret) ∧ ∃ hs as ob, resAll P fr st fn.results.toList hs = some (as, ob) ∧ AllP ob ∧ st.take k = sc' ∧ stIds (fun id => Nat.ble (id + 1) k) sc' = true ∧ AF st (fun id => Nat.ble (id + 1) k) (resAV as) r

theorem MC.of {f : Nat} {fn : Func} {args : List AV} {r : AV} {sc sc' : St} (k : Nat) (hf : P.funcs[f]? = some fn) (hb : fn.body = some c) (hn : fn.ntmps = n) (hl : args.length ≤ n) (hk : sc.length = k)
    (h : XW P n k [] c (FinM P fn r k sc') (argsFr args 0) sc) : MC P f args sc r sc' := by
  intro ι w vs hR hA
  refine calls_of_wp hf hb ?_
  have hF : FRel n ι w sc { tmps := vs.toArray ++ Array.replicate (fn.ntmps - vs.toArray.size) undef, defers := [] } (argsFr args 0) := by
    refine ⟨rfl, ?_, fun t => ?_⟩
    · simp [hn]; have := hA.1; omega
    · rw [lk_argsFr]
      simp only [Nat.zero_le, if_true, Nat.sub_zero]
      by_cases ht : t < vs.length
      · have hta : t < args.length := by rw [← hA.1]; exact ht
        have e1 : (vs.toArray ++ Array.replicate (fn.ntmps - vs.toArray.size) undef).getD t undef = vs[t] := by
          simp [Array.getElem?_append, ht]
        have e2 : args.getD t .j = args[t] := by simp [List.getD, hta]
        rw [e1, e2]
        exact hA.2 t _ _ (List.getElem?_eq_getElem ht) (List.getElem?_eq_getElem hta)
      · have : args.getD t .j = .j := by
          simp only [List.getD]
          rw [List.getElem?_eq_none (by rw [← hA.1]; omega)]
          rfl
        rw [this]
        exact .j _
  refine Go.wp_mono (h ι w _ hR hF) ?_
  rintro e a w' ⟨ι', fr', st', ⟨he, hs, as, ob, hres, hob, htk, hid, haf⟩, hR', hF', kk⟩
  obtain ⟨v, hv, hav⟩ := results_sound hR' hF' hres hob
  have hsub : SubSt (fun id => Nat.ble (id + 1) k) st' (st'.take k) := by
    refine ⟨fun id o h => .inr ?_, fun id hq hid => ?_⟩
    · rw [List.getElem?_take] at h
      split at h
      · rename_i hlt; exact ⟨Nat.ble_eq_true_of_le hlt, h⟩
      · cases h
    · have := Nat.le_of_ble_eq_true hq
      simp; omega
  have hid' : stIds (fun id => Nat.ble (id + 1) k) (st'.take k) = true := by rw [htk]; exact hid
  obtain ⟨r1, k1⟩ := hR'.shrink hsub hid'
  have hfin := hav.fz hR' hsub hid' haf
  rw [htk] at r1 k1 hfin
  have hpost : ∃ v', (results fn a.tmps).run P w' = .ok v' w' ∧ (∃ v av s ι', Ending.returned v' = .returned v ∧ (av = r ∧ s = sc') ∧ Rel ι' w' s ∧ AVRel ι' w' s v av ∧ Keeps (fun id => id ∉ ([] : List Nat)) ι w sc ι' w' s) := by
    refine ⟨v, hv, v, r, sc', ι', rfl, ⟨rfl, rfl⟩, r1, hfin, ?_⟩
    have hfx : ∀ id, id < k → fixB k [] id = true := fun id h => by simp [fixB]; omega
    refine ⟨kk.os ▸ k1.os, kk.tape ▸ k1.tape, kk.output ▸ k1.output, kk.size, kk.amb, fun b hb hno => ?_, fun id _ hidl => ?_, kk.shp⟩
    · obtain ⟨e1, e2⟩ := kk.blk b hb hno
      exact ⟨e1, (k1.blk b (Nat.lt_of_lt_of_le hb kk.size) e2).2⟩
    · obtain ⟨m1, m2⟩ := kk.map id (hfx id (by omega)) hidl
      obtain ⟨p1, p2⟩ := k1.map id (Nat.ble_eq_true_of_le (show id + 1 ≤ k by omega)) m1
      exact ⟨p1, p2.trans m2⟩
  rcases he with rfl | rfl
  · exact ⟨hF'.defers, hpost⟩
  · exact ⟨hF'.defers, hpost⟩

theorem FinM.fin {fn : Func} {r : AV} {e : Exit} {k : Nat} {sc' : St} (he : e = .normal ∨ e = .ret) (hs : HS) (avs : List AV) (ob : List Prop) (h : resAll P fr st fn.results.toList hs = some (avs, ob)) (hob : AllP ob) (ht : st.take k = sc') (hi : stIds (fun id => Nat.ble (id + 1) k) sc' = true)
    (ha : AF st (fun id => Nat.ble (id + 1) k) (resAV avs) r) : FinM P fn r k sc' e fr st := ⟨he, hs, avs, ob, h, hob, ht, hi, ha⟩

def nodupB : List Nat → Bool
  | [] => true
  | x :: l => !inL l x && nodupB l

theorem nodupB_get : ∀ {l : List Nat}, nodupB l = true → l.Nodup
  | [], _ => by simp
  | x :: l, h => by
    simp only [nodupB, Bool.and_eq_true, Bool.not_eq_true'] at h
    rw [List.nodup_cons]
    exact ⟨fun hm => (by rw [inL_iff.2 hm] at h; exact absurd h.1 (by simp)), nodupB_get h.2⟩

def calmB (L : Nat) (rs : List Nat) (sc sc' : St) (avs : List AV) : Bool :=
  ((nodupB rs && allLt L rs) && (Nat.beq rs.length sc.length && Nat.beq sc'.length sc.length)) && (stIds (fun i => Nat.ble (i + 1) sc.length) sc && avs.all (idsA (fun i => Nat.ble (i + 1) sc.length)))

structure Calm (L : Nat) (rs : List Nat) (sc sc' : St) (avs : List AV) : Prop where
  nd : rs.Nodup
  lt : allLt L rs = true
  len : rs.length = sc.length
  le : sc'.length = sc.length
  ids : stIds (fun i => Nat.ble (i + 1) sc.length) sc = true
  av : ∀ a ∈ avs, idsA (fun i => Nat.ble (i + 1) sc.length) a = true

theorem calmB_get {L : Nat} {rs : List Nat} {sc sc' : St} {avs : List AV} (h : calmB L rs sc sc' avs = true) : Calm L rs sc sc' avs := by
  unfold calmB at h
  simp only [Bool.and_eq_true] at h
  obtain ⟨⟨⟨h1, h2⟩, h3, h4⟩, h5, h6⟩ := h
  exact ⟨nodupB_get h1, h2, Nat.eq_of_beq_eq_true h3, Nat.eq_of_beq_eq_true h4, h5, fun a ha => List.all_eq_true.1 h6 a ha⟩

theorem MC.use' {g : Nat} {avs : List AV} {sc sc' : St} {r : AV} (h : MC P g avs sc r sc') {st : St} (rs : List Nat) (hb : Calm st.length rs sc sc' avs) (hst : rs.map (fun x => st[x]?) = sc.map (fun o => some (rnB (rho rs st.length) o)))
    {ι : IM} {w : World} {vs : List Value} (hR : Rel ι w st) (hA : ARel ι w st vs (avs.map (rnA (rho rs st.length)))) :
    Calls P g vs.toArray w fun e w' => ∃ v ι', e = .returned v ∧ Rel ι' w' (updAt st rs (sc'.map (rnB (rho rs st.length)))) ∧ AVRel ι' w' (updAt st rs (sc'.map (rnB (rho rs st.length)))) v (rnA (rho rs st.length) r) ∧
      Keeps all ι w st ι' w' (updAt st rs (sc'.map (rnB (rho rs st.length)))) := by
  have := h.use rs hb.nd hb.lt hb.len (by rw [hb.le]; exact Nat.le_refl _) hst hb.ids hb.av hR hA
  have e1 : sc'.take sc.length = sc' := List.take_of_length_le (by rw [hb.le]; exact Nat.le_refl _)
  have e2 : sc'.drop sc.length = [] := List.drop_of_length_le (by rw [hb.le]; exact Nat.le_refl _)
  rw [e1, e2, List.map_nil, List.append_nil] at this
  exact this

/-- a call that hands objects over -/
theorem XO.calm (g : Nat) (avs : List AV) (sc sc' : St) (r : AV) (rs : List Nat) (fr' : Fr) (st' : St) (hc : callHd P n ops l fr = some (g, avs.map (rnA (rho rs st.length)))) (h : MC P g avs sc r sc') (hb : calmB st.length rs sc sc' avs = true)
    (hst : rs.map (fun x => st[x]?) = sc.map (fun o => some (rnB (rho rs st.length) o))) (hst' : updAt st rs (sc'.map (rnB (rho rs st.length))) = st') (hput : putHd n l (rnA (rho rs st.length) r) fr = some fr')
    (hk : XO P n n0 loose ops (l.drop 1) Q fr' st') : XO P n n0 loose ops l Q fr st := by
  cases l with
  | nil => simp [callHd] at hc
  | cons o rest =>
    simp only [callHd] at hc
    split at hc
    · rename_i hg
      intro ι w a hR hF
      obtain ⟨vs, hrun, hA⟩ := call_sound hc hF
      have hw := guard_sound hg hF
      refine wpList_step fun K hK => ?_
      rw [if_pos hw]
      simp only [Oper.wp, hrun, Oper.upon]
      refine (h.use' rs (calmB_get hb) hst hR hA).mono ?_
      rintro e w' ⟨v, ι', rfl, hR', hv, k⟩
      rw [hst'] at hR' hv k
      exact hK _ _ (wpList_post (fun e a w h => h.trans (k.weaken (fun _ _ => trivial))) (hk ι' w' _ hR' (putF_rel hput (hF.mono' k) hv)))
    · simp at hc

theorem GY.calm (g : Nat) (avs : List AV) (sc sc' : St) (r : AV) (rs : List Nat) (fr1 : Fr) (T : List Nat) (st' : St) (ht : tw.head? = some (T, T)) (hc : callHdD P n ops l fr = some (g, avs.map (rnA (rho rs st.length)))) (h : MC P g avs sc r sc')
    (hb : calmB st.length rs sc sc' avs = true) (hst : rs.map (fun x => st[x]?) = sc.map (fun o => some (rnB (rho rs st.length) o))) (hst' : updAt st rs (sc'.map (rnB (rho rs st.length))) = st')
    (hT : (match hdO l with | some o => (allLks ops o fr T && dstOk n o) && (idsA (inL T) (rnA (rho rs st.length) r) && rs.all (inL T)) | none => false) = true) (hX : stIds (fun i => !inL X i) st' = true)
    (hput : (match hdO l with | some o => putL o.dst (rnA (rho rs st.length) r) (keepF (fun id => !inL [] id) fr) | none => fr) = fr1)
    (hk : GX P n ops X (l.drop 1) (tw.drop 1) fr1 st' fr2 st2) : GX P n ops X l tw fr st fr2 st2 := by
  rw [tw_cons ht]
  cases ho : hdO l with
  | none => rw [ho] at hT; cases hT
  | some o =>
    rw [ho] at hT hput
    have hT2 : ((allLks ops o fr T && dstOk n o) && (idsA (inL T) (rnA (rho rs st.length) r) && rs.all (inL T))) = true := hT
    simp only [Bool.and_eq_true] at hT2
    obtain ⟨⟨t1, t2⟩, t3, t4⟩ := hT2
    have hput2 : putL o.dst (rnA (rho rs st.length) r) (keepF (fun id => !inL [] id) fr) = fr1 := hput
    subst hput2
    have hl := hd_cons ho
    rw [hl] at hc ⊢
    simp only [callHdD] at hc
    split at hc
    · rename_i hg
      have hcall : callAt P o (looksR ops o fr) = some (g, avs.map (rnA (rho rs st.length))) := by
        have h2 := t2
        unfold dstOk at h2
        cases hdd : o.dst with
        | none => simpa [hdd] using hc
        | some d =>
          rw [hdd] at h2
          have h3 : Nat.ble (d + 1) n = true := h2
          simpa [hdd, h3] using hc
      have hC := calmB_get hb
      have hlen' : st'.length = st.length := by rw [← hst', updAt_length]
      have hrsT : ∀ x ∈ rs, inL T x = true := fun x hx => List.all_eq_true.1 t4 x hx
      have hoff : ∀ (q : St) (bs : List Body) id, inL T id = false → (updAt q rs bs)[id]? = q[id]? := fun q bs id hid => updAt_not rs bs q (fun hm => by rw [hrsT id hm] at hid; cases hid)
      refine GX.cons (s := ⟨rnA (rho rs st.length) r, T, T, [], st'⟩) ⟨dstOk_get t2, hlen', fun id hw => by rw [← hst']; exact hoff _ _ id hw, fun id h => h, fun id h => by simp [inL] at h, allLks_get t1, t3, hX, .inl ⟨hg, ?_⟩⟩ hk
      intro s1 ι w act hl' hT' hX' hR hF K Q hK
      obtain ⟨vs, hrun, hA⟩ := call_sound hcall hF
      simp only [Oper.wp, hrun, Oper.upon]
      have hst1 : rs.map (fun x => s1[x]?) = sc.map (fun o => some (rnB (rho rs s1.length) o)) := by
        rw [hl', ← hst]
        exact List.map_congr_left (fun x hx => hT' x (hrsT x hx))
      rw [← hl'] at hA
      refine (h.use' rs (by rw [hl']; exact hC) hst1 hR hA).mono ?_
      rintro e w' ⟨v, ι', rfl, hR', hv, k⟩
      rw [hl'] at hR' hv k
      have e : ovl (inL T) 0 s1 st' = updAt s1 rs (sc'.map (rnB (rho rs st.length))) := by
        refine st_ext (by rw [ovl_len _ _ _ (by omega), updAt_length, hlen', hl']) (fun id hid => ?_)
        rw [ovl_len _ _ _ (by omega)] at hid
        rw [ovl_get _ _ _ _ (by omega), Nat.zero_add]
        cases hTi : inL T id with
        | false => rw [hoff _ _ id hTi]; simp; omega
        | true =>
          simp only [Bool.true_eq_false, and_false, if_false]
          rw [← hst']
          by_cases hm : id ∈ rs
          · obtain ⟨i, hi, e⟩ := List.getElem_of_mem hm
            have h1 : rs[i]? = some id := by rw [List.getElem?_eq_getElem hi, e]
            have hi2 : i < sc'.length := by rw [hC.le, ← hC.len]; exact hi
            have h2 : (sc'.map (rnB (rho rs st.length)))[i]? = some (rnB (rho rs st.length) sc'[i]) := by simp [hi2]
            rw [updAt_get rs _ st i hC.nd h1 h2 (by omega), updAt_get rs _ s1 i hC.nd h1 h2 (by omega)]
          · rw [updAt_not rs _ st hm, updAt_not rs _ s1 hm, hT' id hTi]
      exact hK v w' ι' (by rw [e]; exact hv) (by rw [e]; exact hR') (by rw [e]; exact k.weaken (fun _ _ => trivial))
    · simp at hc

end
end Go.SX
