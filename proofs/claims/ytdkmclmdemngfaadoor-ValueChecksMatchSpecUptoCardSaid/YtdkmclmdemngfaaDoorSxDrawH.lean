/- SX: regions whose order is open, with operations that make and change objects: the walk in the order of the text serves every order. -/
import Derived.Test.YtdkmclmdemngfaaDoorSxDrawG
namespace Go.SX
open Go
set_option linter.unusedVariables false
set_option linter.unusedSimpArgs false
set_option linter.unnecessarySimpa false

/-- a step: its value; the numbers that it touches; those that it writes; those that lie elsewhere behind it; the store behind it -/
structure GS where
  a : AV
  T : List Nat
  W : List Nat
  xs : List Nat
  st2 : St

section
variable {P : Program} {n n0 : Nat} {loose : List Nat} {Q : QT} {fr : Fr} {st : St} {c : Code} {ops : Array Oper} {X : List Nat}

def YgP (P : Program) (n : Nat) (X : List Nat) (o : Oper) (fr : Fr) (s : GS) (st : St) : Prop :=
  ∀ st' ι w act, st'.length = st.length → (∀ id, inL s.T id = true → st'[id]? = st[id]?) → stIds (fun i => !inL X i) st' = true → Rel ι w st' → FRel n ι w st' act fr → ∀ (K : Act → World → Prop) (Q : Exit → Act → World → Prop),
    (∀ v w' ι', AVRel ι' w' (ovl (inL s.W) 0 st' s.st2) v s.a → Rel ι' w' (ovl (inL s.W) 0 st' s.st2) → Keeps (fun id => inL s.xs id = false) ι w st' ι' w' (ovl (inL s.W) 0 st' s.st2) → K (act.put o.dst v) w') → o.wp P act w K Q

structure StepG (P : Program) (n : Nat) (ops : Array Oper) (X : List Nat) (o : Oper) (s : GS) (fr : Fr) (st : St) : Prop where
  bd : ∀ d, o.dst = some d → d < n
  len : s.st2.length = st.length
  out : ∀ id, inL s.W id = false → s.st2[id]? = st[id]?
  wt : ∀ id, inL s.W id = true → inL s.T id = true
  xw : ∀ id, inL s.xs id = true → inL s.W id = true ∧ inL X id = true
  lks : ∀ t ∈ Oper.looksAt ops o, idsA (inL s.T) (lk fr t) = true
  ids : idsA (inL s.T) s.a = true
  bod : stIds (fun i => !inL X i) s.st2 = true
  run : (guardOk ops o (looksR ops o fr) = some true ∧ YgP P n X o (looksR ops o fr) s st) ∨ (guardOk ops o (looksR ops o fr) = some false ∧ s.a = .tp [] ∧ s.W = [] ∧ s.xs = [])

def nextF (o : Oper) (s : GS) (fr : Fr) : Fr := putL o.dst s.a (keepF (fun id => !inL s.xs id) fr)

def StepsG (P : Program) (n : Nat) (ops : Array Oper) (X : List Nat) : List Oper → List GS → Fr → St → Prop
  | [], [], _, _ => True
  | o :: l, s :: ss, fr, st => StepG P n ops X o s fr st ∧ StepsG P n ops X l ss (nextF o s fr) s.st2
  | _, _, _, _ => False

def endF : List Oper → List GS → Fr → Fr
  | o :: l, s :: ss, fr => endF l ss (nextF o s fr)
  | _, _, fr => fr

def endS : List GS → St → St
  | s :: ss, _ => endS ss s.st2
  | [], st => st

theorem stepsG_get : ∀ {l : List Oper} {ss : List GS} {fr : Fr} {st : St}, StepsG P n ops X l ss fr st → l.length = ss.length ∧ ∀ (i : Nat) o, l[i]? = some o → ∃ s, ss[i]? = some s ∧ StepG P n ops X o s (endF (l.take i) (ss.take i) fr) (endS (ss.take i) st)
  | [], [], _, _, _ => ⟨rfl, fun i o h => by simp at h⟩
  | [], _ :: _, _, _, h => h.elim
  | _ :: _, [], _, _, h => h.elim
  | o :: l, s :: ss, fr, st, h => by
    obtain ⟨h1, h2⟩ := h
    obtain ⟨e1, e2⟩ := stepsG_get h2
    refine ⟨by simp [e1], fun i o' hi => ?_⟩
    cases i with
    | zero => simp at hi; subst hi; exact ⟨s, rfl, by simpa [endF, endS] using h1⟩
    | succ i =>
      obtain ⟨s', b1, b2⟩ := e2 i o' (by simpa using hi)
      exact ⟨s', by simpa using b1, by simpa [endF, endS] using b2⟩

theorem lk_next {o : Oper} {s : GS} {fr : Fr} {t : Nat} : lk (nextF o s fr) t = if o.dst = some t then s.a else junk (inL s.xs) (lk fr t) := by
  unfold nextF
  cases hd : o.dst with
  | none => simp [putL, lk_keepF, junk]
  | some d =>
    simp only [putL, lk, Option.some.injEq]
    by_cases e : d = t
    · subst e; simp
    · have hb : Nat.beq d t = false := by cases hq : Nat.beq d t with | false => rfl | true => exact absurd (Nat.eq_of_beq_eq_true hq) e
      rw [hb, cond_false, if_neg e, lk_keepF]
      rfl

theorem lk_endF : ∀ (l : List Oper) (ss : List GS) (fr : Fr) (t off : Nat) (g : Nat → AV) (dst : Nat → Option Nat) (av : Nat → AV) (mv : Nat → Nat → Bool), l.length = ss.length →
    (∀ i o, l[i]? = some o → dst (off + i) = o.dst) → (∀ i s, ss[i]? = some s → av (off + i) = s.a ∧ mv (off + i) = inL s.xs) → (lk fr t = gJ g dst av mv (fun _ => true) off t) →
    lk (endF l ss fr) t = gJ g dst av mv (fun _ => true) (off + l.length) t
  | [], [], fr, t, off, g, dst, av, mv, _, _, _, h => by simpa [endF] using h
  | [], _ :: _, _, _, _, _, _, _, _, hl, _, _, _ => by simp at hl
  | _ :: _, [], _, _, _, _, _, _, _, hl, _, _, _ => by simp at hl
  | o :: l, s :: ss, fr, t, off, g, dst, av, mv, hl, hd, ha, h => by
    have := lk_endF l ss (nextF o s fr) t (off + 1) g dst av mv (by simpa using hl)
      (fun i o' hi => by have := hd (i + 1) o' (by simpa using hi); rwa [show off + (i + 1) = off + 1 + i by omega] at this)
      (fun i s' hi => by have := ha (i + 1) s' (by simpa using hi); rwa [show off + (i + 1) = off + 1 + i by omega] at this) ?_
    · simp only [endF, List.length_cons]
      rw [this, show off + 1 + l.length = off + (l.length + 1) by omega]
    · have e1 := hd 0 o rfl
      have e2 := ha 0 s rfl
      simp only [Nat.add_zero] at e1 e2
      rw [lk_next]
      simp only [gJ, if_true, e1, e2.1, e2.2, h]

theorem endS_get : ∀ (ss : List GS) (st : St) (id off : Nat) (s0 : Nat → Option Body) (wr : Nat → Nat → Bool) (nb : Nat → Nat → Option Body), (∀ i s, ss[i]? = some s → wr (off + i) = inL s.W ∧ (nb (off + i) id = s.st2[id]?)) →
    (∀ (i : Nat) s, ss[i]? = some s → inL s.W id = false → s.st2[id]? = (endS (ss.take i) st)[id]?) → st[id]? = sJ s0 wr nb (fun _ => true) off id → (endS ss st)[id]? = sJ s0 wr nb (fun _ => true) (off + ss.length) id
  | [], st, id, off, s0, wr, nb, _, _, h => by simpa [endS] using h
  | s :: ss, st, id, off, s0, wr, nb, ha, ho, h => by
    have := endS_get ss s.st2 id (off + 1) s0 wr nb
      (fun i s' hi => by have := ha (i + 1) s' (by simpa using hi); rwa [show off + (i + 1) = off + 1 + i by omega] at this)
      (fun i s' hi hw => by have := ho (i + 1) s' (by simpa using hi) hw; simpa [endS] using this) ?_
    · simp only [endS, List.length_cons]
      rw [this, show off + 1 + ss.length = off + (ss.length + 1) by omega]
    · have e := ha 0 s rfl
      simp only [Nat.add_zero] at e
      simp only [sJ, true_and, e.1]
      cases hw : inL s.W id with
      | true => simp only [if_true]; exact e.2.symm
      | false =>
        simp only [Bool.false_eq_true, if_false]
        have := ho 0 s rfl hw
        simp only [List.take_zero, endS] at this
        rw [this]; exact h

theorem endS_len : ∀ {l : List Oper} {ss : List GS} {fr : Fr} {st : St}, StepsG P n ops X l ss fr st → (endS ss st).length = st.length
  | [], [], _, _, _ => rfl
  | [], _ :: _, _, _, h => h.elim
  | _ :: _, [], _, _, h => h.elim
  | o :: l, s :: ss, fr, st, h => by
    simp only [endS]
    rw [endS_len h.2, h.1.len]

/-- steps that touch what the other writes -/
def conf (s t : GS) : Bool := s.W.any (inL t.T) || s.T.any (inL t.W)

def confsOk (ops : Array Oper) (ss : List GS) : Bool := (List.range ss.length).all fun j => (List.range j).all fun i =>
  match ss[i]?, ss[j]? with
  | some s, some t => !conf s t || ((masks ops.toList []).getD j 0).testBit i
  | _, _ => false

theorem conf_of {s t : GS} {id : Nat} (h1 : inL s.W id = true) (h2 : inL t.T id = true) : conf s t = true := by
  unfold conf
  rw [Bool.or_eq_true, List.any_eq_true]
  exact .inl ⟨id, inL_iff.1 h1, h2⟩

theorem conf_of' {s t : GS} {id : Nat} (h1 : inL s.T id = true) (h2 : inL t.W id = true) : conf s t = true := by
  unfold conf
  rw [Bool.or_eq_true, List.any_eq_true, List.any_eq_true]
  exact .inr ⟨id, inL_iff.1 h1, h2⟩

theorem st_ext {s t : St} (hl : s.length = t.length) (h : ∀ id, id < s.length → s[id]? = t[id]?) : s = t := by
  apply List.ext_getElem? 
  intro id
  by_cases hid : id < s.length
  · exact h id hid
  · rw [List.getElem?_eq_none (by omega), List.getElem?_eq_none (by omega)]

theorem XW.drawG {id : Nat} {ss : List GS} (m : Nat) (X : List Nat) (he : c = .region id ops true) (hm : P.follows .mixedOrders = true) (hok : (drawOk ops && sufOk ops m) = true) (hcf : confsOk ops ss = true)
    (hX0 : stIds (fun i => !inL X i) st = true) (hfix : ∀ id, inL X id = true → fixB n0 loose id = false)
    (hs : StepsG P n ops X (ops.toList.take m) ss fr st) (hQ : XO P n n0 loose ops (ops.toList.drop m) Q (endF (ops.toList.take m) ss fr) (endS ss st)) : XW P n n0 loose c Q fr st := by
  subst he
  simp only [Bool.and_eq_true] at hok
  obtain ⟨hok, hsuf⟩ := hok
  unfold sufOk at hsuf
  simp only [Bool.and_eq_true] at hsuf
  obtain ⟨hmN0, hsuf⟩ := hsuf
  have hmN := Nat.le_of_ble_eq_true hmN0
  have hfull0 : ∀ j, m ≤ j → j < ops.size → ∀ i, i < j → ((masks ops.toList []).getD j 0).testBit i = true := by
    intro j h1 h2 i h3
    have := List.all_eq_true.1 hsuf j (List.mem_range.2 h2)
    rw [Bool.or_eq_true] at this
    rcases this with h | h
    · rw [Nat.blt_eq] at h; omega
    · exact List.all_eq_true.1 h i (List.mem_range.2 h3)
  obtain ⟨hlen, hstep⟩ := stepsG_get hs
  have hms := masks_sound (ops := ops) (l := ops.toList) (ms := []) (pre := []) (by simp) rfl (fun i j h => by simp at h)
  have hord := ordOk_get (ops := ops) (ms := masks ops.toList []) (l := ops.toList) (pre := []) (j := 0) rfl hok
  have hfull : ∀ j, m ≤ j → j < ops.size → ∀ i, i < j → Behind ops i j := fun j h1 h2 i h3 => hms i j (by simpa using hfull0 j h1 h2 i h3)
  have hback : ∀ (j : Nat) o, ops[j]? = some o → ∀ e ∈ o.after, Region.binds .any e = true → e.on < j := fun j o ho e he hb => by
    have := (hord j o (by simpa using ho)).1 e he hb
    omega
  have hssl : ss.length = m := by rw [← hlen]; simp; omega
  -- the data by their places
  let dst : Nat → Option Nat := fun i => (ops[i]?).bind (·.dst)
  let av : Nat → AV := fun i => (ss[i]?.map (·.a)).getD .j
  let mv : Nat → Nat → Bool := fun i => inL ((ss[i]?.map (·.xs)).getD [])
  let wr : Nat → Nat → Bool := fun i => inL ((ss[i]?.map (·.W)).getD [])
  let tch : Nat → Nat → Bool := fun i => inL ((ss[i]?.map (·.T)).getD [])
  let nb : Nat → Nat → Option Body := fun i x => (ss[i]?.bind fun s => s.st2[x]?)
  let s0 : Nat → Option Body := fun x => st[x]?
  have hdst : ∀ i o, ops[i]? = some o → dst i = o.dst := fun i o h => by simp [dst, h]
  have hav : ∀ i s, ss[i]? = some s → av i = s.a := fun i s h => by simp [av, h]
  have hmv : ∀ i s, ss[i]? = some s → mv i = inL s.xs := fun i s h => by simp [mv, h]
  have hwr : ∀ i s, ss[i]? = some s → wr i = inL s.W := fun i s h => by simp [wr, h]
  have htc : ∀ i s, ss[i]? = some s → tch i = inL s.T := fun i s h => by simp [tch, h]
  have hnb : ∀ i s x, ss[i]? = some s → nb i x = s.st2[x]? := fun i s x h => by simp [nb, h]
  have hstepAt : ∀ i, i < m → ∃ s, ss[i]? = some s ∧ ∃ h : i < ops.size, StepG P n ops X ops[i] s (endF ((ops.toList.take m).take i) (ss.take i) fr) (endS (ss.take i) st) := by
    intro i hi
    have hiN : i < ops.size := by omega
    obtain ⟨s, h1, h2⟩ := hstep i ops[i] (by rw [List.getElem?_take, if_pos hi]; simp [hiN])
    exact ⟨s, h1, hiN, h2⟩
  have hF_i : ∀ i, i ≤ m → ∀ t, lk (endF ((ops.toList.take m).take i) (ss.take i) fr) t = gJ (lk fr) dst av mv (fun _ => true) i t := by
    intro i hi t
    have hl : ((ops.toList.take m).take i).length = i := by simp; omega
    have := lk_endF ((ops.toList.take m).take i) (ss.take i) fr t 0 (lk fr) dst av mv (by rw [hl]; simp; omega)
      (fun k o hk => by
        rw [List.getElem?_take] at hk
        split at hk
        · rw [List.getElem?_take] at hk
          split at hk
          · rw [Nat.zero_add]; exact hdst k o (by simpa using hk)
          · cases hk
        · cases hk)
      (fun k s hk => by
        rw [List.getElem?_take] at hk
        split at hk
        · rw [Nat.zero_add]; exact ⟨hav k s hk, hmv k s hk⟩
        · cases hk) rfl
    rw [hl, Nat.zero_add] at this
    exact this
  have hS_i : ∀ i, i ≤ m → ∀ x, (endS (ss.take i) st)[x]? = sJ s0 wr nb (fun _ => true) i x := by
    intro i hi x
    have hl : (ss.take i).length = i := by simp; omega
    have := endS_get (ss.take i) st x 0 s0 wr nb
      (fun k s hk => by
        rw [List.getElem?_take] at hk
        split at hk
        · rw [Nat.zero_add]; exact ⟨hwr k s hk, hnb k s x hk⟩
        · cases hk)
      (fun k s hk hw => by
        rw [List.getElem?_take] at hk
        split at hk
        · rename_i hki
          obtain ⟨s', e1, _, e2⟩ := hstepAt k (by omega)
          rw [hk] at e1; cases e1
          rw [List.take_take, Nat.min_eq_left (by omega)]
          exact e2.out x hw
        · cases hk) rfl
    rw [hl, Nat.zero_add] at this
    exact this
  have hSlen : ∀ i, i ≤ m → (endS (ss.take i) st).length = st.length := by
    intro i
    induction i with
    | zero => intro _; simp [endS]
    | succ i ih =>
      intro hi
      obtain ⟨s, e1, _, e2⟩ := hstepAt i (by omega)
      have : endS (ss.take (i + 1)) st = s.st2 := by
        have e3 : ss.take (i + 1) = ss.take i ++ [s] := by
          rw [List.take_add_one, e1]; rfl
        rw [e3]
        have app : ∀ (l : List GS) (st : St), endS (l ++ [s]) st = s.st2 := by
          intro l
          induction l with
          | nil => intro _; rfl
          | cons x l ih => intro _; exact ih _
        exact app _ _
      rw [this, e2.len, ih (by omega)]
  -- conflicts
  have hconf : ∀ i j s t, i < j → ss[i]? = some s → ss[j]? = some t → conf s t = true → Behind ops i j := by
    intro i j s t hij h1 h2 hc
    have hj := (List.getElem?_eq_some_iff.1 h2).1
    have := List.all_eq_true.1 (List.all_eq_true.1 hcf j (List.mem_range.2 hj)) i (List.mem_range.2 hij)
    rw [h1, h2] at this
    simp only [hc, Bool.not_true, Bool.false_or] at this
    exact hms i j this
  let sD : (Nat → Bool) → St := fun D => stOf st.length (sJ s0 wr nb D m)
  have hsDlen : ∀ D, (sD D).length = st.length := fun D => stOf_len _ _
  have hsome : ∀ D k x, k ≤ m → x < st.length → ∃ b, sJ s0 wr nb D k x = some b := by
    intro D k x hk hx
    rcases sJ_or (s0 := s0) (wr := wr) (nb := nb) (D := D) (id := x) k with h | ⟨j, h1, h2, h3⟩
    · rw [h]; exact ⟨_, List.getElem?_eq_getElem hx⟩
    · rw [h3]
      obtain ⟨s, e1, _, e2⟩ := hstepAt j (by omega)
      rw [hnb j s x e1]
      have : x < s.st2.length := by rw [e2.len, hSlen j (by omega)]; exact hx
      exact ⟨_, List.getElem?_eq_getElem this⟩
  have hsDget : ∀ D x, x < st.length → (sD D)[x]? = sJ s0 wr nb D m x := by
    intro D x hx
    obtain ⟨b, hb⟩ := hsome D m x (Nat.le_refl _) hx
    show (stOf st.length (sJ s0 wr nb D m))[x]? = _
    rw [stOf_get hx, hb]; rfl
  have hsDids : ∀ D, stIds (fun i => !inL X i) (sD D) = true := by
    intro D
    have all : ∀ (l : St), (∀ (j : Nat) o, l[j]? = some o → bodyIds (fun i => !inL X i) o = true) → stIds (fun i => !inL X i) l = true := by
      intro l
      induction l with
      | nil => intro _; rfl
      | cons b l ih =>
        intro h
        simp only [stIds, Bool.and_eq_true]
        exact ⟨h 0 b rfl, ih (fun j o hj => h (j + 1) o (by simpa using hj))⟩
    refine all _ (fun x o ho => ?_)
    have hx : x < st.length := by rw [← hsDlen D]; exact (List.getElem?_eq_some_iff.1 ho).1
    rw [hsDget D x hx] at ho
    rcases sJ_or (s0 := s0) (wr := wr) (nb := nb) (D := D) (id := x) m with h | ⟨j, h1, h2, h3⟩
    · rw [h] at ho; exact stIds_get hX0 x o ho
    · rw [h3] at ho
      obtain ⟨s, e1, _, e2⟩ := hstepAt j h1
      rw [hnb j s x e1] at ho
      exact stIds_get e2.bod x o ho
  intro ι w a hR hF
  refine wp_region_any hm ?_
  have atM : ∀ (listed : Array Bool) (ι' : IM) (w' : World) (a' : Act), (∀ j, j < m → listed.getD j false = true) → Rel ι' w' (sD fun j => listed.getD j false) → FRelF n ι' w' (sD fun j => listed.getD j false) a' (gJ (lk fr) dst av mv (fun j => listed.getD j false) m) → Keeps (fixP n0 loose) ι w st ι' w' (sD fun j => listed.getD j false) →
      wpList P ops (PostX n n0 loose ι w st Q) (ops.toList.drop m) a' w' := by
    intro listed ι' w' a' hall hR' hF' hk
    have gsame : ∀ k, k ≤ m → ∀ t, gJ (lk fr) dst av mv (fun j => listed.getD j false) k t = gJ (lk fr) dst av mv (fun _ => true) k t := by
      intro k
      induction k with
      | zero => intro _ _; rfl
      | succ k ih => intro hk t; simp only [gJ, hall k (by omega), if_true, ih (by omega)]
    have ssame : ∀ k, k ≤ m → ∀ x, sJ s0 wr nb (fun j => listed.getD j false) k x = sJ s0 wr nb (fun _ => true) k x := by
      intro k
      induction k with
      | zero => intro _ _; rfl
      | succ k ih => intro hk x; simp only [sJ, hall k (by omega), true_and, ih (by omega)]
    have hst : (sD fun j => listed.getD j false) = endS ss st := by
      have hlS := hSlen m (Nat.le_refl _)
      rw [List.take_of_length_le (by omega)] at hlS
      refine st_ext (by rw [hsDlen, hlS]) (fun x hx => ?_)
      rw [hsDlen] at hx
      have h1 := hS_i m (Nat.le_refl _) x
      rw [List.take_of_length_le (by omega)] at h1
      rw [hsDget _ x hx, ssame m (Nat.le_refl _), h1]
    rw [hst] at hR' hF' hk
    have hFm : FRel n ι' w' (endS ss st) a' (endF (ops.toList.take m) ss fr) := by
      refine ⟨hF'.defers, hF'.size, fun t => ?_⟩
      have h1 := hF_i m (Nat.le_refl _) t
      rw [List.take_of_length_le (l := ops.toList.take m) (by simp; omega), List.take_of_length_le (l := ss) (by omega)] at h1
      rw [h1, ← gsame m (Nat.le_refl _)]
      exact hF'.slot t
    exact wpList_post (fun e a w h => h.trans hk) (hQ ι' w' a' hR' hFm)
  have fin : ∀ {listed : Array Bool} (ι' : IM) (w' : World) (a' : Act), (∀ j, j < m → listed.getD j false = true) → Rel ι' w' (sD fun j => listed.getD j false) → FRelF n ι' w' (sD fun j => listed.getD j false) a' (gJ (lk fr) dst av mv (fun j => listed.getD j false) m) → Keeps (fixP n0 loose) ι w st ι' w' (sD fun j => listed.getD j false) →
      ops.toList.drop m = [] → PostX n n0 loose ι w st Q .normal a' w' := by
    intro listed ι' w' a' hall hR' hF' hk he
    have := atM listed ι' w' a' hall hR' hF' hk
    rw [he] at this
    exact this
  -- whatever order: the invariant
  have key : ∀ (fuel : Nat) (listed : Array Bool) (ι' : IM) (w' : World) (a' : Act), listed.size = ops.size →
      (∀ j o, ops[j]? = some o → listed.getD j false = true → ∀ e ∈ o.after, Region.binds .any e = true → listed.getD e.on false = true) →
      ((List.range ops.size).filter fun j => !listed.getD j false).length ≤ fuel →
      (∀ j, m ≤ j → listed.getD j false = false) → Rel ι' w' (sD fun j => listed.getD j false) → FRelF n ι' w' (sD fun j => listed.getD j false) a' (gJ (lk fr) dst av mv (fun j => listed.getD j false) m) → Keeps (fixP n0 loose) ι w st ι' w' (sD fun j => listed.getD j false) →
      wpAny P .any ops (PostX n n0 loose ι w st Q) fuel listed a' w' := by
    intro fuel
    induction fuel with
    | zero =>
      intro listed ι' w' a' hls hcl hcnt hlow hR' hF' hk
      have hall : ∀ j, j < ops.size → listed.getD j false = true := by
        intro j hj
        cases hq : listed.getD j false with
        | true => rfl
        | false =>
          have : j ∈ (List.range ops.size).filter fun j => !listed.getD j false := by
            rw [List.mem_filter]; exact ⟨List.mem_range.2 hj, by simp only [hq]; rfl⟩
          have := List.length_pos_of_mem this
          omega
      have hready : Region.ready .any ops listed = [] := by
        unfold Region.ready
        rw [List.filter_eq_nil_iff]
        intro j hj
        have hj' := List.mem_range.1 hj
        have : listed.getD j true = true := by
          have h1 := hall j hj'
          simp [Array.getD, hls, hj'] at h1 ⊢
          exact h1
        simp only [this]
        simp
      refine ⟨hready, ?_⟩
      have hmE : m = ops.size := by
        apply Classical.byContradiction
        intro h
        have h1 := hall m (by omega)
        rw [hlow m (Nat.le_refl _)] at h1
        cases h1
      exact fin ι' w' a' (fun j hj => hall j (by omega)) hR' hF' hk (by rw [hmE]; simp)
    | succ fuel ih =>
      intro listed ι' w' a' hls hcl hcnt hlow hR' hF' hk
      refine ⟨fun hready => ?_, fun i hi => ?_⟩
      · -- nothing is ready: all are listed
        have hall : ∀ j, j < ops.size → listed.getD j false = true := by
          intro j
          induction j using Nat.strongRecOn with
          | _ j ihj =>
            intro hj
            cases hq : listed.getD j false with
            | true => rfl
            | false =>
              exfalso
              have hmem : j ∈ Region.ready .any ops listed := by
                unfold Region.ready
                rw [List.mem_filter]
                refine ⟨List.mem_range.2 hj, ?_⟩
                have ho : ops[j]? = some ops[j] := Array.getElem?_eq_getElem hj
                have h1 : listed.getD j true = false := by
                  simp [Array.getD, hls, hj] at hq ⊢
                  exact hq
                rw [h1, ho]
                simp only [Bool.not_false, Bool.true_and, Option.map_some, Option.getD_some]
                rw [Array.all_eq_true_iff_forall_mem]
                intro e he
                cases hb : Region.binds .any e with
                | false => rfl
                | true =>
                  have hlt : e.on < j := hback j _ ho e he hb
                  rw [ihj e.on hlt (by omega)]
                  simp
              rw [hready] at hmem
              cases hmem
        have hmE : m = ops.size := by
          apply Classical.byContradiction
          intro h
          have h1 := hall m (by omega)
          rw [hlow m (Nat.le_refl _)] at h1
          cases h1
        exact fin ι' w' a' (fun j hj => hall j (by omega)) hR' hF' hk (by rw [hmE]; simp)
      · -- operation i comes up
        have hi0 := hi
        unfold Region.ready at hi
        rw [List.mem_filter] at hi
        obtain ⟨hi1, hi2⟩ := hi
        have hiN := List.mem_range.1 hi1
        have ho : ops[i]? = some ops[i] := Array.getElem?_eq_getElem hiN
        rw [ho] at hi2
        simp only [Option.map_some, Option.getD_some, Bool.and_eq_true] at hi2
        have hnl : listed.getD i false = false := by
          have := hi2.1
          simp [Array.getD, hls, hiN] at this ⊢
          exact this
        have hpred : ∀ e ∈ ops[i].after, Region.binds .any e = true → listed.getD e.on false = true := by
          intro e he hb
          have := Array.all_eq_true_iff_forall_mem.1 hi2.2 e he
          simpa [hb] using this
        have closed : ∀ p q, Behind ops p q → listed.getD q false = true → listed.getD p false = true := by
          intro p q hbe
          induction hbe with
          | one ho' he hb h => intro hq; subst h; exact hcl _ _ ho' hq _ he hb
          | more ho' he hb h ihb => intro hq; exact ihb (hcl _ _ ho' hq _ he hb)
        have ahead : ∀ p, Behind ops p i → listed.getD p false = true := by
          intro p hbe
          cases hbe with
          | one ho' he hb h => rw [ho] at ho'; cases ho'; subst h; exact hpred _ he hb
          | more ho' he hb h => rw [ho] at ho'; cases ho'; exact closed p _ h (hpred _ he hb)
        have late : ∀ q, Behind ops i q → listed.getD q false = false := by
          intro q hbe
          cases hq : listed.getD q false with
          | false => rfl
          | true => rw [closed i q hbe hq] at hnl; cases hnl
        by_cases hmi : m ≤ i
        · -- the serial part begins
          have hbel : ∀ j, j < i → listed.getD j false = true := fun j hj => ahead j (hfull i hmi hiN j hj)
          have hallm : ∀ j, j < m → listed.getD j false = true := fun j hj => hbel j (by omega)
          have hlm : ∀ j, j < ops.size → (listed.getD j false = true ↔ j < m) := by
            intro j hj
            refine ⟨fun h => ?_, fun h => hallm j h⟩
            apply Classical.byContradiction
            intro h2
            rw [hlow j (by omega)] at h
            cases h
          have hcount : ops.size ≤ m + (fuel + 1) := by
            have e1 : ((List.range ops.size).filter fun j => !listed.getD j false) = (List.range ops.size).filter fun j => !decide (j < m) := by
              apply List.filter_congr
              intro j hj
              have := hlm j (List.mem_range.1 hj)
              by_cases h : j < m
              · simp only [this.2 h, h, decide_true]
              · have h3 : listed.getD j false = false := hlow j (by omega)
                simp only [h3, h, decide_false]
            rw [e1, count_ge _ hmN] at hcnt
            omega
          have hser := serial (P := P) (Q := PostX n n0 loose ι w st Q) hfull hback (fuel + 1) m listed a' w' (Nat.le_refl _) hmN hls hlm hcount (atM listed ι' w' a' hallm hR' hF' hk)
          exact hser.2 i hi0
        have hmi' : i < m := by omega
        have touch1 : ∀ j o, j < i → ops[j]? = some o → Oper.apart ops o ops[i] = false → listed.getD j false = true := by
          intro j o hj hoj hap
          have := (hord i ops[i] (by simp [hiN])).2 j o (by omega) (by simpa using hoj)
          rcases this with h1 | h1
          · rw [h1] at hap; cases hap
          · exact ahead j (hms j i (by simpa using h1))
        have touch2 : ∀ j o, i < j → ops[j]? = some o → Oper.apart ops ops[i] o = false → listed.getD j false = false := by
          intro j o hj hoj hap
          have hjN : j < ops.size := (Array.getElem?_eq_some_iff.1 hoj).1
          have := (hord j o (by simpa using hoj)).2 i ops[i] (by omega) (by simp [hiN])
          rcases this with h1 | h1
          · rw [h1] at hap; cases hap
          · exact late j (hms i j (by simpa using h1))
        obtain ⟨s, hsi, _, hG⟩ := hstepAt i hmi'
        -- objects: what is listed ahead or behind
        have obj1 : ∀ j, j < i → listed.getD j false = false → ∀ x, wr j x = true → tch i x = false := by
          intro j hj hnj x hw
          cases ht : tch i x with
          | false => rfl
          | true =>
            obtain ⟨t, htj, _, _⟩ := hstepAt j (by omega)
            rw [hwr j t htj] at hw; rw [htc i s hsi] at ht
            have := ahead j (hconf j i t s hj htj hsi (conf_of hw ht))
            rw [hnj] at this; cases this
        have obj2 : ∀ j, i < j → j < m → listed.getD j false = true → (∀ x, wr j x = true → tch i x = false) ∧ (∀ x, wr i x = true → tch j x = false) := by
          intro j hj hjm hlj
          obtain ⟨t, htj, _, _⟩ := hstepAt j hjm
          refine ⟨fun x hw => ?_, fun x hw => ?_⟩
          · cases ht : tch i x with
            | false => rfl
            | true =>
              rw [hwr j t htj] at hw; rw [htc i s hsi] at ht
              have := late j (hconf i j s t hj hsi htj (conf_of' ht hw))
              rw [hlj] at this; cases this
          · cases ht : tch j x with
            | false => rfl
            | true =>
              rw [hwr i s hsi] at hw; rw [htc j t htj] at ht
              have := late j (hconf i j s t hj hsi htj (conf_of hw ht))
              rw [hlj] at this; cases this
        have mvwr : ∀ j, j < m → ∀ x, mv j x = true → wr j x = true := by
          intro j hj x hx
          obtain ⟨t, htj, _, hGt⟩ := hstepAt j hj
          rw [hmv j t htj] at hx; rw [hwr j t htj]
          exact (hGt.xw x hx).1
        have wrtc : ∀ j, j < m → ∀ x, wr j x = true → tch j x = true := by
          intro j hj x hx
          obtain ⟨t, htj, _, hGt⟩ := hstepAt j hj
          rw [hwr j t htj] at hx; rw [htc j t htj]
          exact hGt.wt x hx
        have hdi : dst i = ops[i].dst := hdst i ops[i] ho
        have dstof : ∀ j t, dst j = some t → ∃ o, ops[j]? = some o ∧ o.dst = some t := by
          intro j t hd
          simp only [dst] at hd
          cases hq : ops[j]? with
          | none => simp [hq] at hd
          | some o => exact ⟨o, rfl, by simpa [hq] using hd⟩
        -- the slots that i looks at
        have hFi : FRel n ι' w' (sD fun j => listed.getD j false) a' (looksR ops ops[i] (endF ((ops.toList.take m).take i) (ss.take i) fr)) := by
          refine ⟨hF'.defers, hF'.size, fun t => ?_⟩
          unfold looksR
          have lkr : lk (restr (Oper.looksAt ops ops[i]) (lk (endF ((ops.toList.take m).take i) (ss.take i) fr))) t = .j ∨ (t ∈ Oper.looksAt ops ops[i] ∧ lk (restr (Oper.looksAt ops ops[i]) (lk (endF ((ops.toList.take m).take i) (ss.take i) fr))) t = lk (endF ((ops.toList.take m).take i) (ss.take i) fr) t) := by
            generalize Oper.looksAt ops ops[i] = ts
            induction ts with
            | nil => exact .inl rfl
            | cons x l ihl =>
              simp only [restr, List.map_cons, lk]
              cases hb : Nat.beq x t with
              | true => have := Nat.eq_of_beq_eq_true hb; subst this; exact .inr ⟨by simp, rfl⟩
              | false =>
                rcases ihl with h | ⟨h1, h2⟩
                · exact .inl h
                · exact .inr ⟨by simp [h1], h2⟩
          rcases lkr with h | ⟨ht, h⟩
          · rw [h]; exact .j _
          · rw [h, hF_i i (by omega) t]
            have hT : idsA (tch i) (gJ (lk fr) dst av mv (fun _ => true) i t) = true := by
              rw [← hF_i i (by omega) t, htc i s hsi]; exact hG.lks t ht
            have := gJ_look (fr0 := lk fr) (dst := dst) (av := av) (mv := mv) (tch := tch) (D := fun j => listed.getD j false) (i := i) (N := m) (t := t) hmi' hnl hT
              (fun j hj hnj hd => by
                obtain ⟨o, ho', hdo⟩ := dstof j t hd
                have := touch1 j o hj ho' (by
                  cases hap : Oper.apart ops o ops[i] with
                  | false => rfl
                  | true => exact absurd ht ((Oper.apart_spec hap).1 t hdo))
                rw [hnj] at this; cases this)
              (fun j hj hjm hlj => by
                refine ⟨fun hd => ?_, fun x hx => (obj2 j hj hjm hlj).1 x (mvwr j hjm x hx)⟩
                obtain ⟨o, ho', hdo⟩ := dstof j t hd
                have := touch2 j o hj ho' (by
                  cases hap : Oper.apart ops ops[i] o with
                  | false => rfl
                  | true => exact absurd ht ((Oper.apart_spec hap).2.2 t hdo))
                rw [hlj] at this; cases this)
            rcases this with e | e
            · rw [e]; exact .j _
            · rw [← e]; exact hF'.slot t
        -- behind it
        have hset : ∀ j, (listed.setIfInBounds i true).getD j false = if j = i then true else listed.getD j false := by
          intro j
          by_cases e : j = i
          · subst e
            simp [Array.getD, hls, hiN]
          · by_cases hj : j < listed.size
            · simp [Array.getD, hj, e, Array.getElem_setIfInBounds_ne, Ne.symm e]
            · simp [Array.getD, hj, e]
        have hset' : (fun j => (listed.setIfInBounds i true).getD j false) = fun j => if j = i then true else listed.getD j false := funext hset
        have hSt : sD (fun j => if j = i then true else listed.getD j false) = ovl (inL s.W) 0 (sD fun j => listed.getD j false) s.st2 := by
          have hl2 : s.st2.length = st.length := by rw [hG.len, hSlen i (by omega)]
          have hle : (sD fun j => listed.getD j false).length ≤ s.st2.length := by rw [hsDlen, hl2]; exact Nat.le_refl _
          refine st_ext (by rw [hsDlen, ovl_len _ _ _ hle, hl2]) (fun x hx => ?_)
          rw [hsDlen] at hx
          rw [hsDget _ x hx, ovl_get _ _ _ _ hle, Nat.zero_add, hsDlen, hsDget _ x hx]
          have hp := sJ_put (s0 := s0) (wr := wr) (nb := nb) (D := fun j => listed.getD j false) (i := i) (N := m) (id := x) hmi' hnl
            (fun j hj hjm hlj hwi => by
              cases hwj : wr j x with
              | false => rfl
              | true =>
                have h1 := (obj2 j hj hjm hlj).2 x hwi
                rw [wrtc j hjm x hwj] at h1; cases h1)
          rw [hp, hwr i s hsi, hnb i s x hsi]
          cases hw : inL s.W x with
          | true => simp [hx]
          | false => simp [hx]
        have next : ∀ v w'' ι'', AVRel ι'' w'' (ovl (inL s.W) 0 (sD fun j => listed.getD j false) s.st2) v s.a → Rel ι'' w'' (ovl (inL s.W) 0 (sD fun j => listed.getD j false) s.st2) →
            Keeps (fun id => inL s.xs id = false) ι' w' (sD fun j => listed.getD j false) ι'' w'' (ovl (inL s.W) 0 (sD fun j => listed.getD j false) s.st2) →
            wpAny P .any ops (PostX n n0 loose ι w st Q) fuel (listed.setIfInBounds i true) (a'.put ops[i].dst v) w'' := by
          intro v w'' ι'' hv hR'' hk''
          rw [← hSt] at hv hR'' hk''
          refine ih _ ι'' w'' _ (by simpa using hls) ?_ ?_ (fun j hj => by rw [hset, if_neg (by omega)]; exact hlow j hj) (by rw [hset']; exact hR'') ?_ (by
            rw [hset']
            refine hk.trans (hk''.weaken (fun x hx => ?_))
            cases hxx : inL s.xs x with
            | false => rfl
            | true =>
              have := hfix x (hG.xw x hxx).2
              rw [show fixB n0 loose x = true from hx] at this; cases this)
          · intro j o hoj hj e he hb
            rw [hset] at hj ⊢
            by_cases e1 : e.on = i
            · rw [if_pos e1]
            · rw [if_neg e1]
              by_cases e2 : j = i
              · subst e2
                rw [ho] at hoj; cases hoj
                exact hpred e he hb
              · rw [if_neg e2] at hj
                exact hcl j o hoj hj e he hb
          · have := count_set (N := ops.size) (i := i) (D := fun j => listed.getD j false) hiN hnl
            simp only [hset]
            omega
          · rw [hset']
            refine ⟨?_, ?_, fun t => ?_⟩
            · cases hq : ops[i].dst <;> simp [Act.put, hF'.defers]
            · cases hq : ops[i].dst <;> simp [Act.put, hF'.size]
            · have hp := gJ_put (fr0 := lk fr) (dst := dst) (av := av) (mv := mv) (tch := tch) (D := fun j => listed.getD j false) (i := i) (N := m) (t := t) hmi' hnl (by rw [hav i s hsi, htc i s hsi]; exact hG.ids)
                (fun k hk1 hk2 hk3 => by
                  obtain ⟨tt, e1, _, e2⟩ := hstepAt k hk2
                  rw [hav k tt e1, htc k tt e1]; exact e2.ids)
                (fun j hj hjm hlj => by
                  refine ⟨fun d hd hdj => ?_, fun x hx => (obj2 j hj hjm hlj).1 x (mvwr j hjm x hx), fun x hx => (obj2 j hj hjm hlj).2 x (mvwr i hmi' x hx)⟩
                  obtain ⟨o, ho', hdo⟩ := dstof j d hdj
                  have := touch2 j o hj ho' (by
                    cases hap : Oper.apart ops ops[i] o with
                    | false => rfl
                    | true => exact absurd hdo ((Oper.apart_spec hap).2.1 d (hdi ▸ hd)))
                  rw [hlj] at this; cases this)
              rw [hp]
              by_cases hdt : dst i = some t
              · rw [if_pos hdt, hav i s hsi]
                rw [hdi] at hdt
                have hlt := hG.bd t hdt
                have e3 : (a'.put ops[i].dst v).tmps.getD t undef = v := by
                  rw [hdt]
                  simp [Act.put, hF'.size, hlt]
                rw [e3]; exact hv
              · rw [if_neg hdt, hmv i s hsi]
                have e3 : (a'.put ops[i].dst v).tmps.getD t undef = a'.tmps.getD t undef := by
                  cases hq : ops[i].dst with
                  | none => rfl
                  | some d =>
                    have : d ≠ t := by rintro rfl; exact hdt (hdi.trans hq)
                    simp [Act.put, this]
                rw [e3]
                unfold junk
                cases hid : idsA (fun id => !inL s.xs id) (gJ (lk fr) dst av mv (fun j => listed.getD j false) m t) with
                | false => exact .j _
                | true => exact (hF'.slot t).mono hk'' (q := fun id => !inL s.xs id) (fun x hx _ => by simpa using hx) hid
        unfold wpOp
        rw [ho]
        simp only
        rcases hG.run with ⟨hg, hy⟩ | ⟨hg, e1, e2, e3⟩
        · have hw := guard_sound hg hFi
          rw [if_pos hw]
          refine .inl (hy (sD fun j => listed.getD j false) ι' w' a' (by rw [hsDlen, hSlen i (by omega)]) (fun x hx => ?_) (hsDids _) hR' hFi _ _ next)
          by_cases hxl : x < st.length
          · rw [hsDget _ x hxl, hS_i i (by omega) x]
            refine sJ_look (D := fun j => listed.getD j false) hmi' hnl (fun j hj hnj => ?_) (fun j hj hjm hlj => ?_)
            · cases hwj : wr j x with
              | false => rfl
              | true =>
                have := obj1 j hj hnj x hwj
                rw [htc i s hsi, hx] at this; cases this
            · cases hwj : wr j x with
              | false => rfl
              | true =>
                have := (obj2 j hj hjm hlj).1 x hwj
                rw [htc i s hsi, hx] at this; cases this
          · rw [List.getElem?_eq_none (by rw [hsDlen]; omega), List.getElem?_eq_none (by rw [hSlen i (by omega)]; omega)]
        · have hw := guard_sound hg hFi
          rw [if_neg (by rw [hw]; simp)]
          have hov : ovl (inL s.W) 0 (sD fun j => listed.getD j false) s.st2 = sD fun j => listed.getD j false := by
            have hl2 : s.st2.length = st.length := by rw [hG.len, hSlen i (by omega)]
            have hle : (sD fun j => listed.getD j false).length ≤ s.st2.length := by rw [hsDlen, hl2]; exact Nat.le_refl _
            refine st_ext (by rw [ovl_len _ _ _ hle, hl2, hsDlen]) (fun x hx => ?_)
            rw [ovl_len _ _ _ hle, hl2] at hx
            rw [ovl_get _ _ _ _ hle, hsDlen, e2]
            simp [inL, hx]
          have := next undef w' ι' (by rw [e1]; exact undef_rel) (by rw [hov]; exact hR') (by rw [hov]; exact .refl)
          exact this
  have h0 : (sD fun j => (Array.replicate ops.size false).getD j false) = st := by
    refine st_ext (hsDlen _) (fun x hx => ?_)
    rw [hsDlen] at hx
    rw [hsDget _ x hx]
    have : ∀ k, sJ s0 wr nb (fun j => (Array.replicate ops.size false).getD j false) k x = s0 x := by
      intro k
      induction k with
      | zero => rfl
      | succ k ih =>
        simp only [sJ]
        rw [if_neg (by simp [Array.getD]), ih]
    exact this m
  refine key ops.size _ ι { w with drawn := w.drawn + 1 } a (by simp) ?_ ?_ (fun j _ => by simp [Array.getD]) (by rw [h0]; exact hR.ext (Ext.drew w)) ?_ (by rw [h0]; exact ((Ext.drew w).keeps ι st).weaken (fun _ _ => trivial))
  · intro j o ho hj
    simp [Array.getD] at hj
  · refine Nat.le_trans (List.length_filter_le _ _) (by simp)
  · rw [h0]
    refine ⟨hF.defers, hF.size, fun t => ?_⟩
    have : ∀ k, gJ (lk fr) dst av mv (fun j => (Array.replicate ops.size false).getD j false) k t = lk fr t := by
      intro k
      induction k with
      | zero => rfl
      | succ k ih =>
        simp only [gJ]
        rw [if_neg (by simp [Array.getD]), ih]
    rw [this m]
    exact (hF.slot t).mono' ((Ext.drew w).keeps ι st)

end
end Go.SX
