/- SX: regions that draw, with objects: the rules in the form in which they are printed. -/
import Derived.Test.YtdkmclmdemngfaaDoorSxGX
namespace Go.SX
open Go
set_option linter.unusedVariables false
set_option linter.unusedSimpArgs false

section
variable {P : Program} {n n0 : Nat} {loose an : List Nat} {Q : QT} {fr : Fr} {st : St} {c : Code} {ops : Array Oper} {X : List Nat} {l : List Oper} {tw : List (List Nat × List Nat)} {fr2 : Fr} {st2 : St}

theorem GX.ext {tw2 : List (List Nat × List Nat)} (g : Nat) (vs us : List Value) (fr1 : Fr) (T : List Nat) (hc : extHdD P n ops l fr = some (g, vs)) (h : ExtC P g vs (.tuple us.toArray)) (hp : us.all plain = true)
    (hT : (match hdO l with | some o => allLks ops o fr T && dstOk n o | none => false) = true) (hX : stIds (fun i => !inL X i) st = true) (hput : (match hdO l with | some o => putL o.dst (avT us) (keepF (fun id => !inL [] id) fr) | none => fr) = fr1)
    (hk : GX P n ops X (l.drop 1) tw2 fr1 st fr2 st2) : GX P n ops X l ((T, []) :: tw2) fr st fr2 st2 := by
  cases ho : hdO l with
  | none => rw [ho] at hT; cases hT
  | some o =>
    rw [ho] at hT hput
    have hT2 : (allLks ops o fr T && dstOk n o) = true := hT
    rw [Bool.and_eq_true] at hT2
    have hput2 : putL o.dst (avT us) (keepF (fun id => !inL [] id) fr) = fr1 := hput
    subst hput2
    have hl := hd_cons ho
    rw [hl] at hc ⊢
    simp only [extHdD] at hc
    split at hc
    · rename_i hg
      have hcall : extAt P o (looksR ops o fr) = some (g, vs) := by
        have h2 := hT2.2
        unfold dstOk at h2
        cases hdd : o.dst with
        | none => simpa [hdd] using hc
        | some d =>
          rw [hdd] at h2
          have h3 : Nat.ble (d + 1) n = true := h2
          simpa [hdd, h3] using hc
      have hra : idsA (inL T) (avT us) = true := by
        unfold avT
        simp only [idsA]
        clear hp h hk hput
        induction us with
        | nil => rfl
        | cons u us ih => simp only [List.map_cons, idsA.go, idsA, idsC, Bool.true_and]; exact ih
      refine GX.cons (s := ⟨avT us, T, [], [], st⟩) ⟨dstOk_get hT2.2, rfl, fun _ _ => rfl, fun id h => by simp [inL] at h, fun id h => by simp [inL] at h, allLks_get hT2.1, hra, hX, .inl ⟨hg, ?_⟩⟩ hk
      intro st' ι w act hl' hT' hX' hR hF K Q hK
      have e2 : ovl (inL ([] : List Nat)) 0 st' st = st' := ovl_nil hl'
      have hrun := ext_sound hcall h hF (w := w)
      simp only [Oper.wp, hrun, Oper.upon]
      exact hK _ w ι (by rw [e2]; exact avT_rel hp) (by rw [e2]; exact hR) (by rw [e2]; exact .refl)
    · simp at hc

theorem GY.go (k : Nat) (hs : HS) (fr' : Fr) (ob : List Prop) (h : runQ (evQs P n ops X st k l fr hs) = some (fr', tw.take k, ob)) (hob : AllP ob) (hk : GX P n ops X (l.drop k) (tw.drop k) fr' st fr2 st2) : GX P n ops X l tw fr st fr2 st2 := by
  have := GX.go (tw2 := tw.drop k) k hs fr' (tw.take k) ob h hob hk
  rwa [List.take_append_drop] at this

def hdT (tw : List (List Nat × List Nat)) (T W : List Nat) : Prop := tw.head? = some (T, W)

theorem tw_cons {T W : List Nat} (h : tw.head? = some (T, W)) : tw = (T, W) :: tw.drop 1 := by
  cases tw with
  | nil => cases h
  | cons x l => simp at h; subst h; rfl

theorem GY.wr (hs : HS) (fr' : Fr) (T : List Nat) (st' : St) (ob : List Prop) (ht : tw.head? = some (T, T)) (h : evW P n ops X l fr st hs = some (fr', T, st', ob)) (hob : AllP ob) (hk : GX P n ops X (l.drop 1) (tw.drop 1) fr' st' fr2 st2) : GX P n ops X l tw fr st fr2 st2 := by
  rw [tw_cons ht]; exact GX.wr hs fr' T st' ob h hob hk

theorem GY.new (mu : Bool) (id : Nat) (hs : HS) (fr' : Fr) (T : List Nat) (st' : St) (ob : List Prop) (ht : tw.head? = some (T, T)) (h : evN P n ops X mu id l fr st hs = some (fr', T, st', ob)) (hob : AllP ob) (hk : GX P n ops X (l.drop 1) (tw.drop 1) fr' st' fr2 st2) : GX P n ops X l tw fr st fr2 st2 := by
  rw [tw_cons ht]; exact GX.new mu id hs fr' T st' ob h hob hk

theorem GY.cal (g : Nat) (avs : List AV) (r : AV) (fr1 : Fr) (T : List Nat) (ht : tw.head? = some (T, [])) (hc : callHdD P n ops l fr = some (g, avs)) (h : PC P g avs r) (hp : pureAs avs = true) (hr : pureA r = true)
    (hT : (match hdO l with | some o => allLks ops o fr T && dstOk n o | none => false) = true) (hX : stIds (fun i => !inL X i) st = true) (hput : (match hdO l with | some o => putL o.dst r (keepF (fun id => !inL [] id) fr) | none => fr) = fr1)
    (hk : GX P n ops X (l.drop 1) (tw.drop 1) fr1 st fr2 st2) : GX P n ops X l tw fr st fr2 st2 := by
  rw [tw_cons ht]; exact GX.cal g avs r fr1 T hc h hp hr hT hX hput hk

theorem GY.ext (g : Nat) (vs us : List Value) (fr1 : Fr) (T : List Nat) (ht : tw.head? = some (T, [])) (hc : extHdD P n ops l fr = some (g, vs)) (h : ExtC P g vs (.tuple us.toArray)) (hp : us.all plain = true)
    (hT : (match hdO l with | some o => allLks ops o fr T && dstOk n o | none => false) = true) (hX : stIds (fun i => !inL X i) st = true) (hput : (match hdO l with | some o => putL o.dst (avT us) (keepF (fun id => !inL [] id) fr) | none => fr) = fr1)
    (hk : GX P n ops X (l.drop 1) (tw.drop 1) fr1 st fr2 st2) : GX P n ops X l tw fr st fr2 st2 := by
  rw [tw_cons ht]; exact GX.ext g vs us fr1 T hc h hp hT hX hput hk

theorem GY.done (he : l = []) (ht : tw = []) : GX P n ops X l tw fr st fr st := by subst ht; exact GX.done he

/-- numbers kept for objects to come -/
theorem Sub.dead (k : Nat) : Sub n n0 loose fr st fr (st ++ List.replicate k .dead) := by
  intro ι w a hR hF
  have hget : ∀ (id : Nat) (o : Body), (st ++ List.replicate k Body.dead)[id]? = some o → o.alive → st[id]? = some o := by
    intro id o h ha
    by_cases hid : id < st.length
    · rwa [List.getElem?_append_left hid] at h
    · rw [List.getElem?_append_right (by omega), List.getElem?_replicate] at h
      split at h
      · cases h; exact absurd rfl ha
      · cases h
  have own1 : ∀ b, Own ι (st ++ List.replicate k .dead) b → Own ι st b := by
    rintro b ⟨id, o, h1, h2, h3⟩
    exact ⟨id, o, hget id o h1 h2, h2, h3⟩
  have mut1 : ∀ b, Mut ι (st ++ List.replicate k .dead) b → Mut ι st b := fun b h => h.elim .inl (fun h => .inr (own1 b h))
  have hl : st.length ≤ (st ++ List.replicate k Body.dead).length := by simp
  refine ⟨ι, ⟨fun id o ho => ?_, hR.amb, fun b hb => hR.dis b (own1 b hb), fun id id' o o' b h1 h2 a1 a2 e1 e2 => hR.inj id id' o o' b (hget id o h1 a1) (hget id' o' h2 a2) a1 a2 e1 e2, fun b o h => ⟨fun hm => (hR.gl b o h).1 (mut1 b hm), (hR.gl b o h).2⟩⟩,
    ⟨hF.defers, hF.size, fun t => (hF.slot t).chg mut1 hl (fun _ => rfl)⟩, ⟨rfl, rfl, rfl, Nat.le_refl _, rfl, fun b _ hno => ⟨rfl, fun h => hno (own1 b h)⟩, fun id _ hid => ⟨by omega, rfl⟩, fun _ c _ _ h => ⟨c, h, rfl⟩⟩⟩
  by_cases ha : o = .dead
  · subst ha; trivial
  · exact (hR.obj id o (hget id o ho ha)).chg mut1 hl (fun _ => rfl)

end
end Go.SX
