/- SX: calls that hand objects of the caller over: contracts with a store of their own, and what they give in a greater store. -/
import Derived.Test.YtdkmclmdemngfaaDoorSxGen
namespace Go.SX
open Go
set_option linter.unusedVariables false
set_option linter.unusedSimpArgs false
set_option linter.unnecessarySimpa false

/-- a contract with objects: from the store sc to the store sc', which keeps the objects of sc in their blocks -/
def MC (P : Program) (f : Nat) (args : List AV) (sc : St) (r : AV) (sc' : St) : Prop := AC P f args sc [] fun av s => av = r ∧ s = sc'

/-! ### other numbers -/

def rnC (ρ : Nat → Nat) : CV → CV
  | .pv p => .pv p
  | .pt id sz i off => .pt (ρ id) sz i off
  | .mp id => .mp (ρ id)
  | .sl id sz off len => .sl (ρ id) sz off len
  | .fn f caps => .fn f (go caps)
  where
  go : List CV → List CV
    | [] => []
    | c :: l => rnC ρ c :: go l

def rnA (ρ : Nat → Nat) : AV → AV
  | .j => .j
  | .one c => .one (rnC ρ c)
  | .ag cs => .ag (cs.map (rnC ρ))
  | .tp vs => .tp (go vs)
  where
  go : List AV → List AV
    | [] => []
    | a :: l => rnA ρ a :: go l

def rnB (ρ : Nat → Nat) : Body → Body
  | .dead => .dead
  | .box cells => .box (cells.map (rnC ρ))
  | .arr sz els => .arr sz els
  | .raw o => .raw o

theorem rnB_alive {ρ : Nat → Nat} {o : Body} : (rnB ρ o).alive ↔ o.alive := by
  cases o <;> simp [rnB, Body.alive]

theorem rnC_go {ρ : Nat → Nat} : ∀ l : List CV, rnC.go ρ l = l.map (rnC ρ)
  | [] => rfl
  | c :: l => by simp [rnC.go, rnC_go l]

theorem rnA_go {ρ : Nat → Nat} : ∀ l : List AV, rnA.go ρ l = l.map (rnA ρ)
  | [] => rfl
  | c :: l => by simp [rnA.go, rnA_go l]

/-- where the objects stand alike, values read alike: towards the caller -/
theorem VRel.ren {ρ : Nat → Nat} {ι ι' : IM} {w : World} {st st' : St} (hm : ∀ b, Mut ι' st' b → Mut ι st b) (hl : ∀ i, i < st.length → ρ i < st'.length ∧ ι' (ρ i) = ι i) {v : Value} {c : CV} (h : VRel ι w st v c) : VRel ι' w st' v (rnC ρ c) := by
  induction h with
  | pv v p h => exact .pv v p (h.mono (Nat.le_refl _) (fun b _ hb => ⟨rfl, fun h' => hb (hm b h')⟩))
  | pt id sz i off b hid hb => exact .pt _ sz i off b (hl id hid).1 ((hl id hid).2.trans hb)
  | sl id sz off len b cap hid hb hcap hc => exact .sl _ sz off len b cap (hl id hid).1 ((hl id hid).2.trans hb) hcap hc
  | sn id sz hid hb => exact .sn _ sz (hl id hid).1 ((hl id hid).2.trans hb)
  | mp id b hid hb => exact .mp _ b (hl id hid).1 ((hl id hid).2.trans hb)
  | fn f caps vs hlen hv ih =>
    simp only [rnC, rnC_go]
    refine .fn f _ vs (by simpa using hlen) (fun j c v h1 h2 => ?_)
    rw [List.getElem?_map, Option.map_eq_some_iff] at h1
    obtain ⟨c', h1, rfl⟩ := h1
    exact ih j c' v h1 h2

theorem LRel.ren {ρ : Nat → Nat} {ι ι' : IM} {w : World} {st st' : St} (hm : ∀ b, Mut ι' st' b → Mut ι st b) (hl : ∀ i, i < st.length → ρ i < st'.length ∧ ι' (ρ i) = ι i) {vs : List Value} {cs : List CV} (h : LRel ι w st vs cs) : LRel ι' w st' vs (cs.map (rnC ρ)) := by
  refine ⟨by simpa using h.1, fun j v c h1 h2 => ?_⟩
  rw [List.getElem?_map, Option.map_eq_some_iff] at h2
  obtain ⟨c', h2, rfl⟩ := h2
  exact (h.2 j v c' h1 h2).ren hm hl

theorem AVRel.ren {ρ : Nat → Nat} {ι ι' : IM} {w : World} {st st' : St} (hm : ∀ b, Mut ι' st' b → Mut ι st b) (hl : ∀ i, i < st.length → ρ i < st'.length ∧ ι' (ρ i) = ι i) {v : Value} {a : AV} (h : AVRel ι w st v a) : AVRel ι' w st' v (rnA ρ a) := by
  induction h with
  | j v => exact .j v
  | one v c h => exact .one _ _ (h.ren hm hl)
  | ag vs cs h => exact .ag _ _ (h.ren hm hl)
  | tp vs as hlen h ih =>
    simp only [rnA, rnA_go]
    refine .tp vs _ (by simpa using hlen) (fun j v a h1 h2 => ?_)
    rw [List.getElem?_map, Option.map_eq_some_iff] at h2
    obtain ⟨a', h2, rfl⟩ := h2
    exact ih j v a' h1 h2

/-- towards the callee -/
theorem VRel.unren {ρ : Nat → Nat} {q : Nat → Bool} {ι ι' : IM} {w : World} {st st' : St} (hm : ∀ b, Mut ι' st' b → Mut ι st b) (hl : ∀ i, q i = true → i < st'.length ∧ ι' i = ι (ρ i)) :
    ∀ (c : CV) (v : Value), idsC q c = true → VRel ι w st v (rnC ρ c) → VRel ι' w st' v c
  | .pv p, v, _, h => by
    cases h with
    | pv _ _ h => exact .pv v p (h.mono (Nat.le_refl _) (fun b _ hb => ⟨rfl, fun h' => hb (hm b h')⟩))
  | .pt id sz i off, v, hi, h => by
    simp only [rnC] at h
    cases h with
    | pt _ _ _ _ b hid hb => exact .pt id sz i off b (hl id hi).1 ((hl id hi).2.trans hb)
  | .sl id sz off len, v, hi, h => by
    simp only [rnC] at h
    cases h with
    | sl _ _ _ _ b cap hid hb hcap hc => exact .sl id sz off len b cap (hl id hi).1 ((hl id hi).2.trans hb) hcap hc
    | sn _ _ hid hb => exact .sn id sz (hl id hi).1 ((hl id hi).2.trans hb)
  | .mp id, v, hi, h => by
    simp only [rnC] at h
    cases h with
    | mp _ b hid hb => exact .mp id b (hl id hi).1 ((hl id hi).2.trans hb)
  | .fn f caps, v, hi, h => by
    simp only [rnC, rnC_go] at h
    cases h with
    | fn _ _ vs hlen hv =>
      simp only [idsC] at hi
      refine .fn f caps vs (by simpa using hlen) (fun j c v h1 h2 => ?_)
      have hmem : c ∈ caps := List.mem_of_getElem? h1
      exact VRel.unren hm hl c v (idsC_go hi j c h1) (hv j _ v (by rw [List.getElem?_map, h1]; rfl) h2)

theorem LRel.unren {ρ : Nat → Nat} {q : Nat → Bool} {ι ι' : IM} {w : World} {st st' : St} (hm : ∀ b, Mut ι' st' b → Mut ι st b) (hl : ∀ i, q i = true → i < st'.length ∧ ι' i = ι (ρ i)) {vs : List Value} {cs : List CV} (hi : idsL q cs = true)
    (h : LRel ι w st vs (cs.map (rnC ρ))) : LRel ι' w st' vs cs := by
  refine ⟨by simpa using h.1, fun j v c h1 h2 => ?_⟩
  exact VRel.unren hm hl c v (idsL_get hi j c h2) (h.2 j v _ h1 (by rw [List.getElem?_map, h2]; rfl))

theorem AVRel.unren {ρ : Nat → Nat} {q : Nat → Bool} {ι ι' : IM} {w : World} {st st' : St} (hm : ∀ b, Mut ι' st' b → Mut ι st b) (hl : ∀ i, q i = true → i < st'.length ∧ ι' i = ι (ρ i)) :
    ∀ (a : AV) (v : Value), idsA q a = true → AVRel ι w st v (rnA ρ a) → AVRel ι' w st' v a
  | .j, v, _, _ => .j v
  | .one c, v, hi, h => by
    cases h with
    | one _ _ h => exact .one _ _ (VRel.unren hm hl c v hi h)
  | .ag cs, v, hi, h => by
    simp only [rnA] at h
    cases h with
    | ag vs _ h => exact .ag vs cs (LRel.unren hm hl hi h)
  | .tp as, v, hi, h => by
    simp only [rnA, rnA_go] at h
    cases h with
    | tp vs _ hlen hv =>
      simp only [idsA] at hi
      refine .tp vs as (by simpa using hlen) (fun j v a h1 h2 => ?_)
      have hmem : a ∈ as := List.mem_of_getElem? h2
      exact AVRel.unren hm hl a v (idsA_go hi j a h2) (hv j v _ h1 (by rw [List.getElem?_map, h2]; rfl))

/-! ### a part of the store changed -/

def updAt : St → List Nat → List Body → St
  | st, r :: rs, b :: bs => updAt (st.set r b) rs bs
  | st, _, _ => st

theorem updAt_length : ∀ (rs : List Nat) (bs : List Body) (st : St), (updAt st rs bs).length = st.length
  | [], _, _ => by simp [updAt]
  | _ :: _, [], _ => by simp [updAt]
  | r :: rs, b :: bs, st => by rw [updAt, updAt_length rs bs]; simp

theorem updAt_not {id : Nat} : ∀ (rs : List Nat) (bs : List Body) (st : St), id ∉ rs → (updAt st rs bs)[id]? = st[id]?
  | [], _, _, _ => by simp [updAt]
  | _ :: _, [], _, _ => by simp [updAt]
  | r :: rs, b :: bs, st, h => by
    simp only [List.mem_cons, not_or] at h
    rw [updAt, updAt_not rs bs _ h.2, List.getElem?_set, if_neg (fun e => h.1 e.symm)]

theorem updAt_get {id : Nat} {b : Body} : ∀ (rs : List Nat) (bs : List Body) (st : St) (i : Nat), rs.Nodup → rs[i]? = some id → bs[i]? = some b → id < st.length → (updAt st rs bs)[id]? = some b
  | [], _, _, _, _, h, _, _ => by simp at h
  | _ :: _, [], _, _, _, _, h, _ => by simp at h
  | r :: rs, b' :: bs, st, i, hn, h1, h2, hid => by
    rw [List.nodup_cons] at hn
    rw [updAt]
    cases i with
    | zero =>
      simp at h1 h2
      subst h1; subst h2
      rw [updAt_not rs bs _ hn.1, List.getElem?_set, if_pos rfl, if_pos hid]
    | succ i => exact updAt_get rs bs _ i hn.2 (by simpa using h1) (by simpa using h2) (by simpa using hid)

/-- the caller's numbers: rs for the objects that are handed over, then those from m on -/
def rho (rs : List Nat) (m : Nat) (i : Nat) : Nat := match rs[i]? with
  | some x => x
  | none => m + (i - rs.length)

def allLt (m : Nat) : List Nat → Bool
  | [] => true
  | r :: l => Nat.ble (r + 1) m && allLt m l

theorem allLt_get {m : Nat} : ∀ {l : List Nat}, allLt m l = true → ∀ (i r : Nat), l[i]? = some r → r < m
  | [], _, i, r, h => by simp at h
  | x :: l, h, i, r, hi => by
    simp only [allLt, Bool.and_eq_true] at h
    cases i with
    | zero => simp at hi; subst hi; exact Nat.le_of_ble_eq_true h.1
    | succ i => exact allLt_get h.2 i r (by simpa using hi)

variable {P : Program}

theorem MC.use {g : Nat} {args : List AV} {sc sc' : St} {r : AV} (h : MC P g args sc r sc') {st : St} (rs : List Nat) (hnd : rs.Nodup) (hlt : allLt st.length rs = true) (hlen : rs.length = sc.length) (hle : sc.length ≤ sc'.length)
    (hst : rs.map (fun x => st[x]?) = sc.map (fun o => some (rnB (rho rs st.length) o))) (hi : stIds (fun i => Nat.ble (i + 1) sc.length) sc = true) (ha : ∀ a ∈ args, idsA (fun i => Nat.ble (i + 1) sc.length) a = true)
    {ι : IM} {w : World} {vs : List Value} (hR : Rel ι w st) (hA : ARel ι w st vs (args.map (rnA (rho rs st.length)))) :
    Calls P g vs.toArray w fun e w' => ∃ v ι', e = .returned v ∧ Rel ι' w' (updAt st rs ((sc'.take sc.length).map (rnB (rho rs st.length))) ++ (sc'.drop sc.length).map (rnB (rho rs st.length))) ∧
      AVRel ι' w' (updAt st rs ((sc'.take sc.length).map (rnB (rho rs st.length))) ++ (sc'.drop sc.length).map (rnB (rho rs st.length))) v (rnA (rho rs st.length) r) ∧
      Keeps all ι w st ι' w' (updAt st rs ((sc'.take sc.length).map (rnB (rho rs st.length))) ++ (sc'.drop sc.length).map (rnB (rho rs st.length))) := by
  generalize hρ : rho rs st.length = ρ at *
  generalize hk : sc.length = k at *
  have hρ1 : ∀ i x, rs[i]? = some x → ρ i = x := by intro i x hx; rw [← hρ]; simp [rho, hx]
  have hρ2 : ∀ i, k ≤ i → ρ i = st.length + (i - k) := by
    intro i hi; rw [← hρ]; simp only [rho]; rw [List.getElem?_eq_none (by omega), hlen]
  have hρ3 : ∀ i, i < k → ∃ x, rs[i]? = some x ∧ ρ i = x ∧ x < st.length := by
    intro i hi
    have hx : rs[i]? = some (rs[i]'(by omega)) := List.getElem?_eq_getElem (by omega)
    exact ⟨_, hx, hρ1 i _ hx, allLt_get hlt i _ hx⟩
  have hget : ∀ i, i < k → ∃ o, sc[i]? = some o ∧ st[ρ i]? = some (rnB ρ o) := by
    intro i hi
    obtain ⟨x, hx, hρx, _⟩ := hρ3 i hi
    have h0 := congrArg (fun l => l[i]?) hst
    simp only [List.getElem?_map, hx, Option.map_some] at h0
    cases ho : sc[i]? with
    | none => rw [List.getElem?_eq_none_iff] at ho; omega
    | some o => rw [ho] at h0; simp at h0; exact ⟨o, rfl, by rw [hρx]; exact h0⟩
  have hinj : ∀ i j, i < k → j < k → ρ i = ρ j → i = j := by
    intro i j h1 h2 e
    obtain ⟨x, hx, ex, _⟩ := hρ3 i h1
    obtain ⟨y, hy, ey, _⟩ := hρ3 j h2
    have : x = y := by rw [← ex, ← ey, e]
    subst this
    exact (List.getElem?_inj (List.getElem?_eq_some_iff.1 hx).1 hnd).1 (hx.trans hy.symm)
  have hmem : ∀ id, id ∈ rs → ∃ i, i < k ∧ ρ i = id := by
    intro id hid
    obtain ⟨i, hi, e⟩ := List.getElem_of_mem hid
    exact ⟨i, by omega, hρ1 i id (by rw [List.getElem?_eq_getElem hi, e])⟩
  have hmem' : ∀ i, i < k → ρ i ∈ rs := by
    intro i hi
    obtain ⟨x, hx, e, _⟩ := hρ3 i hi
    rw [e]; exact List.mem_of_getElem? hx
  let ιc : IM := ⟨fun i => if i < k then ι (ρ i) else none, fun b => ι.amb b ∨ ∃ id o, st[id]? = some o ∧ o.alive ∧ ι id = some b ∧ id ∉ rs⟩
  have own1 : ∀ b, Own ιc sc b → ∃ i o, i < k ∧ sc[i]? = some o ∧ o.alive ∧ ι (ρ i) = some b := by
    rintro b ⟨i, o, h1, h2, h3⟩
    have hik : i < k := by rw [← hk]; exact (List.getElem?_eq_some_iff.1 h1).1
    have : ιc i = ι (ρ i) := if_pos hik
    exact ⟨i, o, hik, h1, h2, this ▸ h3⟩
  have own2 : ∀ b, Own ιc sc b → Own ι st b := by
    intro b hb
    obtain ⟨i, o, hik, h1, h2, h3⟩ := own1 b hb
    obtain ⟨o', e1, e2⟩ := hget i hik
    rw [h1] at e1; cases e1
    exact ⟨ρ i, _, e2, rnB_alive.2 h2, h3⟩
  have mut1 : ∀ b, Mut ι st b → Mut ιc sc b := by
    rintro b (hb | ⟨id, o, h1, h2, h3⟩)
    · exact .inl (.inl hb)
    · by_cases hid : id ∈ rs
      · obtain ⟨i, hik, rfl⟩ := hmem id hid
        obtain ⟨o', e1, e2⟩ := hget i hik
        rw [h1] at e2; cases e2
        exact .inr ⟨i, o', e1, rnB_alive.1 h2, (if_pos hik : ιc i = ι (ρ i)).trans h3⟩
      · exact .inl (.inr ⟨id, o, h1, h2, h3, hid⟩)
  have mut2 : ∀ b, Mut ιc sc b → Mut ι st b := by
    rintro b ((hb | ⟨id, o, h1, h2, h3, _⟩) | hb)
    · exact .inl hb
    · exact .inr ⟨id, o, h1, h2, h3⟩
    · exact .inr (own2 b hb)
  have hback : ∀ i, Nat.ble (i + 1) k = true → i < sc.length ∧ ιc i = ι (ρ i) := by
    intro i hi
    have := Nat.le_of_ble_eq_true hi
    exact ⟨by omega, if_pos (by omega)⟩
  have hRc : Rel ιc w sc := by
    refine ⟨fun i o ho => ?_, fun b hb => ?_, fun b hb hm => ?_, fun i j o o' b h1 h2 a1 a2 e1 e2 => ?_, fun b o h => ⟨fun hm => (hR.gl b o h).1 (mut2 b hm), (hR.gl b o h).2⟩⟩
    · have hik : i < k := by rw [← hk]; exact (List.getElem?_eq_some_iff.1 ho).1
      obtain ⟨o', e1, e2⟩ := hget i hik
      rw [ho] at e1; cases e1
      have hobj := hR.obj _ _ e2
      have hids := stIds_get hi i o ho
      cases o with
      | dead => trivial
      | box cells =>
        obtain ⟨b, us, ty, e3, e4, e5⟩ := hobj
        exact ⟨b, us, ty, (if_pos hik : ιc i = ι (ρ i)).trans e3, e4, LRel.unren (fun b hb => mut2 b hb) hback hids e5⟩
      | raw ob =>
        obtain ⟨b, e3, e4⟩ := hobj
        exact ⟨b, (if_pos hik : ιc i = ι (ρ i)).trans e3, e4⟩
      | arr sz els =>
        rcases hobj with ⟨e3, e4⟩ | ⟨b, c, ty, e3, e4, e5, e6, e7⟩
        · exact .inl ⟨(if_pos hik : ιc i = ι (ρ i)).trans e3, e4⟩
        · refine .inr ⟨b, c, ty, (if_pos hik : ιc i = ι (ρ i)).trans e3, e4, e5, e6, fun i' e j p x1 x2 => ?_⟩
          obtain ⟨v, y1, y2⟩ := e7 i' e j p x1 x2
          exact ⟨v, y1, y2.mono (Nat.le_refl _) (fun b _ hb => ⟨rfl, fun h' => hb (mut2 b h')⟩)⟩
    · rcases hb with hb | ⟨id, o, h1, h2, h3, _⟩
      · exact hR.amb b hb
      · exact hR.mut_lt (.inr ⟨id, o, h1, h2, h3⟩)
    · obtain ⟨i, o, hik, h1, h2, h3⟩ := own1 b hb
      obtain ⟨o', e1, e2⟩ := hget i hik
      rw [h1] at e1; cases e1
      rcases hm with hm | ⟨id, o2, g1, g2, g3, g4⟩
      · exact hR.dis b (own2 b hb) hm
      · have := hR.inj id (ρ i) o2 _ b g1 e2 g2 (rnB_alive.2 h2) g3 h3
        subst this
        exact g4 (hmem' i hik)
    · have hik : i < k := by rw [← hk]; exact (List.getElem?_eq_some_iff.1 h1).1
      have hjk : j < k := by rw [← hk]; exact (List.getElem?_eq_some_iff.1 h2).1
      obtain ⟨p, p1, p2⟩ := hget i hik
      obtain ⟨q, q1, q2⟩ := hget j hjk
      rw [h1] at p1; cases p1
      rw [h2] at q1; cases q1
      have e1' : ι (ρ i) = some b := (if_pos hik : ιc i = ι (ρ i)) ▸ e1
      have e2' : ι (ρ j) = some b := (if_pos hjk : ιc j = ι (ρ j)) ▸ e2
      exact hinj i j hik hjk (hR.inj _ _ _ _ b p2 q2 (rnB_alive.2 a1) (rnB_alive.2 a2) e1' e2')
  have hAc : ARel ιc w sc vs args := by
    refine ⟨by simpa using hA.1, fun j v a h1 h2 => ?_⟩
    exact AVRel.unren (fun b hb => mut2 b hb) hback a v (ha a (List.mem_of_getElem? h2)) (hA.2 j v _ h1 (by rw [List.getElem?_map, h2]; rfl))
  refine (h ιc w vs hRc hAc).mono ?_
  rintro e w' ⟨v, av, s', ιc', he, ⟨rfl, rfl⟩, hRc', hv, kc⟩
  let ι' : IM := ⟨fun id => if id < st.length then ι id else ιc' (k + (id - st.length)), ι.amb⟩
  generalize hB : (s'.take k).map (rnB ρ) = B
  generalize hX : (s'.drop k).map (rnB ρ) = X
  have hBlen : B.length = k := by rw [← hB]; simp; omega
  have hXlen : X.length = s'.length - k := by rw [← hX]; simp
  have hl : (updAt st rs B ++ X).length = st.length + (s'.length - k) := by rw [List.length_append, updAt_length, hXlen]
  have hm : ∀ i, i < s'.length → ρ i < (updAt st rs B ++ X).length ∧ ι' (ρ i) = ιc' i := by
    intro i hi
    by_cases hik : i < k
    · obtain ⟨x, _, e, hx⟩ := hρ3 i hik
      refine ⟨by rw [hl, e]; omega, ?_⟩
      have e1 : ι' (ρ i) = ι (ρ i) := if_pos (by rw [e]; exact hx)
      have e2 := (kc.map i (by simp) (by omega)).2
      rw [e1, e2]
      exact (if_pos hik : ιc i = ι (ρ i)).symm
    · have e := hρ2 i (by omega)
      refine ⟨by rw [hl, e]; omega, ?_⟩
      have e1 : ι' (ρ i) = ιc' (k + (ρ i - st.length)) := if_neg (by omega)
      rw [e1, e]
      congr 1
      omega
  have hgetn : ∀ i o, s'[i]? = some o → (updAt st rs B ++ X)[ρ i]? = some (rnB ρ o) := by
    intro i o ho
    have hil := (List.getElem?_eq_some_iff.1 ho).1
    by_cases hik : i < k
    · obtain ⟨x, hx, e, hxl⟩ := hρ3 i hik
      rw [e, List.getElem?_append_left (by rw [updAt_length]; exact hxl)]
      refine updAt_get rs B st i hnd hx ?_ hxl
      rw [← hB, List.getElem?_map, List.getElem?_take, if_pos hik, ho]
      rfl
    · have e := hρ2 i (by omega)
      rw [e, List.getElem?_append_right (by rw [updAt_length]; omega), updAt_length, ← hX, List.getElem?_map, List.getElem?_drop, show k + (st.length + (i - k) - st.length) = i by omega, ho]
      rfl
  have hcase : ∀ id o, (updAt st rs B ++ X)[id]? = some o → (∃ i o', s'[i]? = some o' ∧ ρ i = id ∧ o = rnB ρ o') ∨ (id < st.length ∧ id ∉ rs ∧ st[id]? = some o) := by
    intro id o ho
    by_cases hid : id < st.length
    · by_cases hr : id ∈ rs
      · obtain ⟨i, hik, rfl⟩ := hmem id hr
        have : s'[i]? = some (s'[i]'(by omega)) := List.getElem?_eq_getElem (by omega)
        have h2 := hgetn i _ this
        rw [ho] at h2; cases h2
        exact .inl ⟨i, _, this, rfl, rfl⟩
      · refine .inr ⟨hid, hr, ?_⟩
        rw [List.getElem?_append_left (by rw [updAt_length]; exact hid), updAt_not rs B st hr] at ho
        exact ho
    · have hil : id < (updAt st rs B ++ X).length := (List.getElem?_eq_some_iff.1 ho).1
      have hi' : k + (id - st.length) < s'.length := by omega
      have e : ρ (k + (id - st.length)) = id := by rw [hρ2 _ (by omega)]; omega
      have h1 : s'[k + (id - st.length)]? = some (s'[k + (id - st.length)]'hi') := List.getElem?_eq_getElem hi'
      have h2 := hgetn _ _ h1
      rw [e, ho] at h2; cases h2
      exact .inl ⟨_, _, h1, e, rfl⟩
  have own3 : ∀ b, Own ι' (updAt st rs B ++ X) b → Own ιc' s' b ∨ ∃ id o, st[id]? = some o ∧ o.alive ∧ ι id = some b ∧ id ∉ rs := by
    rintro b ⟨id, o, h1, h2, h3⟩
    rcases hcase id o h1 with ⟨i, o', g1, rfl, rfl⟩ | ⟨g1, g2, g3⟩
    · have hil := (List.getElem?_eq_some_iff.1 g1).1
      exact .inl ⟨i, o', g1, rnB_alive.1 h2, ((hm i hil).2).symm.trans h3⟩
    · exact .inr ⟨id, o, g3, h2, (if_pos g1 : ι' id = ι id) ▸ h3, g2⟩
  have mut3 : ∀ b, Mut ι' (updAt st rs B ++ X) b → Mut ιc' s' b := by
    rintro b (hb | hb)
    · exact .inl (by rw [kc.amb]; exact .inl hb)
    · rcases own3 b hb with h1 | h1
      · exact .inr h1
      · exact .inl (by rw [kc.amb]; exact .inr h1)
  have kk : Keeps all ι w st ι' w' (updAt st rs B ++ X) := by
    refine ⟨kc.os, kc.tape, kc.output, kc.size, rfl, fun b hb hno => ?_, fun id _ hid => ⟨by rw [hl]; omega, if_pos hid⟩, kc.shp⟩
    obtain ⟨e1, e2⟩ := kc.blk b hb (fun ho => hno (own2 b ho))
    refine ⟨e1, fun ho => ?_⟩
    rcases own3 b ho with h1 | ⟨id, o, h1, h2, h3, _⟩
    · exact e2 h1
    · exact hno ⟨id, o, h1, h2, h3⟩
  have hfree : ∀ id o b, st[id]? = some o → o.alive → id ∉ rs → ι id = some b → b < w.heap.size ∧ ¬ Own ιc sc b := by
    intro id o b h1 h2 h3 h4
    refine ⟨hR.mut_lt (.inr ⟨id, o, h1, h2, h4⟩), fun hb => ?_⟩
    exact hRc.dis b hb (.inr ⟨id, o, h1, h2, h4, h3⟩)
  refine ⟨v, ι', he, ?_, hv.ren mut3 hm, kk⟩
  refine ⟨fun id o ho => ?_, fun b hb => Nat.lt_of_lt_of_le (hR.amb b hb) kc.size, fun b hb ha' => ?_, fun id id' o o' b h1 h2 a1 a2 e1 e2 => ?_, hR.glk kk⟩
  · rcases hcase id o ho with ⟨i, o', g1, rfl, rfl⟩ | ⟨g1, g2, g3⟩
    · have hil := (List.getElem?_eq_some_iff.1 g1).1
      have hobj := hRc'.obj i o' g1
      cases o' with
      | dead => trivial
      | box cells =>
        obtain ⟨b, us, ty, e3, e4, e5⟩ := hobj
        exact ⟨b, us, ty, (hm i hil).2.trans e3, e4, e5.ren mut3 hm⟩
      | raw ob =>
        obtain ⟨b, e3, e4⟩ := hobj
        exact ⟨b, (hm i hil).2.trans e3, e4⟩
      | arr sz els =>
        rcases hobj with ⟨e3, e4⟩ | ⟨b, c, ty, e3, e4, e5, e6, e7⟩
        · exact .inl ⟨(hm i hil).2.trans e3, e4⟩
        · refine .inr ⟨b, c, ty, (hm i hil).2.trans e3, e4, e5, e6, fun i' e j p x1 x2 => ?_⟩
          obtain ⟨v, y1, y2⟩ := e7 i' e j p x1 x2
          exact ⟨v, y1, y2.mono (Nat.le_refl _) (fun b _ hb => ⟨rfl, fun h' => hb (mut3 b h')⟩)⟩
    · have hobj := hR.obj id o g3
      have hsame : ι' id = ι id := if_pos g1
      cases o with
      | dead => trivial
      | box cells =>
        obtain ⟨b, us, ty, e3, e4, e5⟩ := hobj
        obtain ⟨f1, f2⟩ := hfree id _ b g3 (by simp [Body.alive]) g2 e3
        exact ⟨b, us, ty, hsame.trans e3, ((kc.blk b f1 f2).1).trans e4, e5.mono' kk⟩
      | raw ob =>
        obtain ⟨b, e3, e4⟩ := hobj
        obtain ⟨f1, f2⟩ := hfree id _ b g3 (by simp [Body.alive]) g2 e3
        exact ⟨b, hsame.trans e3, ((kc.blk b f1 f2).1).trans e4⟩
      | arr sz els =>
        rcases hobj with ⟨e3, e4⟩ | ⟨b, c, ty, e3, e4, e5, e6, e7⟩
        · exact .inl ⟨hsame.trans e3, e4⟩
        · obtain ⟨f1, f2⟩ := hfree id _ b g3 (by simp [Body.alive]) g2 e3
          refine .inr ⟨b, c, ty, hsame.trans e3, ((kc.blk b f1 f2).1).trans e4, e5, e6, fun i' e j p x1 x2 => ?_⟩
          obtain ⟨v, y1, y2⟩ := e7 i' e j p x1 x2
          exact ⟨v, y1, kk.pure y2⟩
  · rcases own3 b hb with h1 | ⟨id, o, h1, h2, h3, _⟩
    · exact hRc'.dis b h1 (by rw [kc.amb]; exact .inl ha')
    · exact hR.dis b ⟨id, o, h1, h2, h3⟩ ha'
  · rcases hcase id o h1 with ⟨i, p, g1, rfl, rfl⟩ | ⟨g1, g2, g3⟩
    · have hil := (List.getElem?_eq_some_iff.1 g1).1
      have i1 : ιc' i = some b := (hm i hil).2.symm.trans e1
      rcases hcase id' o' h2 with ⟨j, q, q1, rfl, rfl⟩ | ⟨q1, q2, q3⟩
      · have hjl := (List.getElem?_eq_some_iff.1 q1).1
        have i2 : ιc' j = some b := (hm j hjl).2.symm.trans e2
        exact congrArg ρ (hRc'.inj i j p q b g1 q1 (rnB_alive.1 a1) (rnB_alive.1 a2) i1 i2)
      · exfalso
        refine hRc'.dis b ⟨i, p, g1, rnB_alive.1 a1, i1⟩ ?_
        rw [kc.amb]
        exact .inr ⟨id', o', q3, a2, (if_pos q1 : ι' id' = ι id') ▸ e2, q2⟩
    · have i1 : ι id = some b := (if_pos g1 : ι' id = ι id) ▸ e1
      rcases hcase id' o' h2 with ⟨j, q, q1, rfl, rfl⟩ | ⟨q1, q2, q3⟩
      · exfalso
        have hjl := (List.getElem?_eq_some_iff.1 q1).1
        have i2 : ιc' j = some b := (hm j hjl).2.symm.trans e2
        refine hRc'.dis b ⟨j, q, q1, rnB_alive.1 a2, i2⟩ ?_
        rw [kc.amb]
        exact .inr ⟨id, o, g3, a1, i1, g2⟩
      · exact hR.inj id id' o o' b g3 q3 a1 a2 i1 ((if_pos q1 : ι' id' = ι id') ▸ e2)

end Go.SX
