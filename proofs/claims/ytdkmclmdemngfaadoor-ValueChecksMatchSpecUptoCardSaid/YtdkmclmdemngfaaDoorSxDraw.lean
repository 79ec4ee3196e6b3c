/- SX, thirteenth part: regions whose order is open: one walk in the order of the text serves every order. -/
import Derived.Test.YtdkmclmdemngfaaDoorSxCode
import Derived.Orders
namespace Go.SX
open Go
set_option linter.unusedVariables false
set_option linter.unusedSimpArgs false
set_option linter.unnecessarySimpa false

/-- the frame, as a function -/
structure FRelF (n : Nat) (ι : IM) (w : World) (st : St) (a : Act) (g : Nat → AV) : Prop where
  defers : a.defers = []
  size : a.tmps.size = n
  slot : ∀ t, AVRel ι w st (a.tmps.getD t undef) (g t)

/-- the entries at some slots -/
def restr (ts : List Nat) (g : Nat → AV) : Fr := ts.map fun t => (t, g t)

theorem lk_restr (ts : List Nat) (g : Nat → AV) (t : Nat) : lk (restr ts g) t = g t ∨ lk (restr ts g) t = .j := by
  induction ts with
  | nil => exact .inr rfl
  | cons x l ih =>
    simp only [restr, List.map_cons, lk]
    cases hb : Nat.beq x t with
    | true => have := Nat.eq_of_beq_eq_true hb; subst this; exact .inl rfl
    | false => exact ih

theorem FRelF.restr {n : Nat} {ι : IM} {w : World} {st : St} {a : Act} {g g' : Nat → AV} (h : FRelF n ι w st a g) (ts : List Nat) (hg : ∀ t ∈ ts, g' t = g t) : FRel n ι w st a (restr ts g') := by
  refine ⟨h.defers, h.size, fun t => ?_⟩
  have : SX.restr ts g' = SX.restr ts g := by
    unfold SX.restr
    exact List.map_congr_left fun t ht => by rw [hg t ht]
  rw [this]
  rcases lk_restr ts g t with e | e
  · rw [e]; exact h.slot t
  · rw [e]; exact .j _

/-- an operation yields av, whatever world of its kind it meets -/
def Yd (P : Program) (n : Nat) (st : St) (o : Oper) (fr : Fr) (av : AV) : Prop :=
  ∀ ι w a, Rel ι w st → FRel n ι w st a fr → ∀ (K : Act → World → Prop) (Q : Exit → Act → World → Prop),
    (∀ v w' ι', AVRel ι' w' st v av → Rel ι' w' st → Keeps all ι w st ι' w' st → K (a.put o.dst v) w') → o.wp P a w K Q

/-- last writers -/
def gD (fr0 : Nat → AV) (dst : Nat → Option Nat) (av : Nat → AV) (D : Nat → Bool) : Nat → Nat → AV
  | 0, t => fr0 t
  | k + 1, t => if D k = true ∧ dst k = some t then av k else gD fr0 dst av D k t

section
variable {fr0 : Nat → AV} {dst : Nat → Option Nat} {av : Nat → AV}

theorem gD_same {D E : Nat → Bool} {t : Nat} : ∀ {k : Nat}, (∀ j, j < k → dst j = some t → D j = E j) → gD fr0 dst av D k t = gD fr0 dst av E k t
  | 0, _ => rfl
  | k + 1, h => by
    simp only [gD]
    have ih := gD_same (k := k) (fun j hj hd => h j (by omega) hd)
    by_cases hd : dst k = some t
    · rw [h k (by omega) hd, ih]
    · simp [hd, ih]

theorem gD_past {D : Nat → Bool} {t i : Nat} : ∀ {k : Nat}, i ≤ k → (∀ j, i ≤ j → j < k → dst j = some t → D j = false) → gD fr0 dst av D k t = gD fr0 dst av D i t
  | 0, hi, _ => by have : i = 0 := by omega
                   subst this; rfl
  | k + 1, hi, h => by
    by_cases e : i = k + 1
    · subst e; rfl
    · simp only [gD]
      have ih := gD_past (k := k) (by omega) (fun j h1 h2 hd => h j h1 (by omega) hd)
      rw [if_neg, ih]
      rintro ⟨h1, h2⟩
      rw [h k (by omega) (by omega) h2] at h1
      cases h1

theorem gD_put {D : Nat → Bool} {t i N : Nat} (hi : i < N) (hl : dst i = some t → ∀ j, i < j → j < N → dst j = some t → D j = false) :
    gD fr0 dst av (fun j => if j = i then true else D j) N t = if dst i = some t then av i else gD fr0 dst av D N t := by
  by_cases hd : dst i = some t
  · rw [if_pos hd]
    rw [gD_past (i := i + 1) (by omega)]
    · simp [gD, hd]
    · intro j h1 h2 h3
      rw [if_neg (by omega)]
      exact hl hd j (by omega) h2 h3
  · rw [if_neg hd]
    apply gD_same
    intro j hj hdj
    rw [if_neg]
    rintro rfl
    exact hd hdj
end

/-! ### the edges -/

/-- j comes behind i, by the edges -/
inductive Behind (ops : Array Oper) : Nat → Nat → Prop where
  | one {i j : Nat} {o : Oper} {e : Edge} (ho : ops[j]? = some o) (he : e ∈ o.after) (hb : Region.binds .any e = true) (h : e.on = i) : Behind ops i j
  | more {i j : Nat} {o : Oper} {e : Edge} (ho : ops[j]? = some o) (he : e ∈ o.after) (hb : Region.binds .any e = true) (h : Behind ops i e.on) : Behind ops i j

/-- the masks are right: certificate -/
def maskOf (ms : List Nat) (o : Oper) : Nat := o.after.toList.foldl (fun s e => bif Region.binds .any e then s ||| (2 ^ e.on ||| ms.getD e.on 0) else s) 0

def masks : List Oper → List Nat → List Nat
  | [], ms => ms
  | o :: l, ms => masks l (ms ++ [maskOf ms o])

theorem foldl_or {ms : List Nat} {i : Nat} : ∀ {l : List Edge} {s : Nat}, (l.foldl (fun s e => bif Region.binds .any e then s ||| (2 ^ e.on ||| ms.getD e.on 0) else s) s).testBit i = true →
    s.testBit i = true ∨ ∃ e ∈ l, Region.binds .any e = true ∧ (e.on = i ∨ (ms.getD e.on 0).testBit i = true)
  | [], s, h => .inl h
  | e :: l, s, h => by
    simp only [List.foldl_cons] at h
    rcases foldl_or h with h1 | ⟨e', h1, h2⟩
    · cases hb : Region.binds .any e with
      | false => simp [hb] at h1; exact .inl h1
      | true =>
        simp only [hb, cond_true, Nat.testBit_or, Bool.or_eq_true] at h1
        rcases h1 with h1 | h1 | h1
        · exact .inl h1
        · rw [Nat.testBit_two_pow] at h1
          exact .inr ⟨e, by simp, hb, .inl (by simpa using h1)⟩
        · exact .inr ⟨e, by simp, hb, .inr h1⟩
    · exact .inr ⟨e', by simp [h1], h2⟩

theorem masks_sound {ops : Array Oper} : ∀ {l : List Oper} {ms : List Nat} {pre : List Oper}, ops.toList = pre ++ l → ms.length = pre.length → (∀ i j, (ms.getD j 0).testBit i = true → Behind ops i j) → ∀ i j, ((masks l ms).getD j 0).testBit i = true → Behind ops i j
  | [], ms, pre, _, _, h => h
  | o :: l, ms, pre, he, hl, h => by
    refine masks_sound (l := l) (pre := pre ++ [o]) (by simpa using he) (by simp [hl]) ?_
    intro i j hj
    by_cases h1 : j < ms.length
    · have e0 : (ms ++ [maskOf ms o]).getD j 0 = ms.getD j 0 := by simp [List.getD, List.getElem?_append_left h1]
      rw [e0] at hj
      exact h i j hj
    · by_cases h2 : j = ms.length
      · subst h2
        have e1 : (ms ++ [maskOf ms o]).getD ms.length 0 = maskOf ms o := by simp [List.getD]
        rw [e1] at hj
        have ho : ops[ms.length]? = some o := by
          rw [← Array.getElem?_toList, he, hl]; simp
        rcases foldl_or hj with h3 | ⟨e, h4, h5, h6⟩
        · simp at h3
        · rcases h6 with h6 | h6
          · exact .one ho (by simpa using h4) h5 h6
          · exact .more ho (by simpa using h4) h5 (h i e.on h6)
      · have : (ms ++ [maskOf ms o]).getD j 0 = 0 := by
          simp only [List.getD]
          rw [List.getElem?_eq_none (by simp; omega)]
          rfl
        rw [this] at hj
        simp at hj

/-- operations that touch each other come in the order of the text; edges lead back -/
def pairOk (ops : Array Oper) (ms : List Nat) (o : Oper) (j : Nat) : List Oper → Nat → Bool
  | [], _ => true
  | p :: l, i => (Oper.apart ops p o || (ms.getD j 0).testBit i) && pairOk ops ms o j l (i + 1)

def ordOk (ops : Array Oper) (ms : List Nat) : List Oper → List Oper → Nat → Bool
  | _, [], _ => true
  | pre, o :: l, j => o.after.all (fun e => !Region.binds .any e || Nat.ble (e.on + 1) j) && (pairOk ops ms o j pre 0 && ordOk ops ms (pre ++ [o]) l (j + 1))

def drawOk (ops : Array Oper) : Bool := ordOk ops (masks ops.toList []) [] ops.toList 0

theorem pairOk_get {ops : Array Oper} {ms : List Nat} {o : Oper} {j : Nat} : ∀ {l : List Oper} {i : Nat}, pairOk ops ms o j l i = true → ∀ (k : Nat) p, l[k]? = some p → Oper.apart ops p o = true ∨ (ms.getD j 0).testBit (i + k) = true
  | [], i, _, k, p, h => by simp at h
  | q :: l, i, h, k, p, hk => by
    simp only [pairOk, Bool.and_eq_true, Bool.or_eq_true] at h
    cases k with
    | zero => simp at hk; subst hk; simpa using h.1
    | succ k =>
      have := pairOk_get h.2 k p (by simpa using hk)
      rwa [show i + 1 + k = i + (k + 1) by omega] at this

theorem ordOk_get {ops : Array Oper} {ms : List Nat} : ∀ {l pre : List Oper} {j : Nat}, pre.length = j → ordOk ops ms pre l j = true → ∀ (k : Nat) o, l[k]? = some o →
    (∀ e ∈ o.after, Region.binds .any e = true → e.on < j + k) ∧ ∀ (i : Nat) p, i < j + k → (pre ++ l)[i]? = some p → Oper.apart ops p o = true ∨ (ms.getD (j + k) 0).testBit i = true
  | [], pre, j, _, _, k, o, h => by simp at h
  | q :: l, pre, j, hp, h, k, o, hk => by
    simp only [ordOk, Bool.and_eq_true] at h
    cases k with
    | zero =>
      simp at hk; subst hk
      refine ⟨fun e he hb => ?_, fun i p hi hip => ?_⟩
      · have := Array.all_eq_true_iff_forall_mem.1 h.1 e he
        simp [hb] at this
        exact Nat.le_of_ble_eq_true (by simpa using this)
      · rw [List.getElem?_append_left (by omega)] at hip
        have := pairOk_get h.2.1 i p hip
        simpa using this
    | succ k =>
      have := ordOk_get (l := l) (pre := pre ++ [q]) (j := j + 1) (by simp [hp]) h.2.2 k o (by simpa using hk)
      rw [show j + 1 + k = j + (k + 1) by omega] at this
      refine ⟨this.1, fun i p hi hip => this.2 i p hi (by simpa using hip)⟩

/-! ### the walk in the order of the text -/

def putL (dst : Option Nat) (av : AV) (fr : Fr) : Fr :=
  match dst with
  | none => fr
  | some d => (d, av) :: fr

def looksR (ops : Array Oper) (o : Oper) (fr : Fr) : Fr := restr (Oper.looksAt ops o) (lk fr)

def StepOk (P : Program) (n : Nat) (st : St) (ops : Array Oper) (o : Oper) (a : AV) (fr : Fr) : Prop :=
  (∀ d, o.dst = some d → d < n) ∧ ((guardOk ops o (looksR ops o fr) = some true ∧ Yd P n st o (looksR ops o fr) a) ∨ (guardOk ops o (looksR ops o fr) = some false ∧ a = .tp []))

def StepsOk (P : Program) (n : Nat) (st : St) (ops : Array Oper) : List Oper → List AV → Fr → Prop
  | [], [], _ => True
  | o :: l, a :: as, fr => StepOk P n st ops o a fr ∧ StepsOk P n st ops l as (putL o.dst a fr)
  | _, _, _ => False

def putAll : List Oper → List AV → Fr → Fr
  | o :: l, a :: as, fr => putAll l as (putL o.dst a fr)
  | _, _, fr => fr

section
variable {P : Program} {n n0 : Nat} {loose : List Nat} {Q : QT} {fr : Fr} {st : St} {c : Code} {ops : Array Oper}

theorem stepsOk_get : ∀ {l : List Oper} {as : List AV} {fr : Fr}, StepsOk P n st ops l as fr → l.length = as.length ∧ ∀ (i : Nat) o, l[i]? = some o → ∃ a, as[i]? = some a ∧ StepOk P n st ops o a (putAll (l.take i) (as.take i) fr)
  | [], [], _, _ => ⟨rfl, fun i o h => by simp at h⟩
  | [], _ :: _, _, h => h.elim
  | _ :: _, [], _, h => h.elim
  | o :: l, a :: as, fr, h => by
    obtain ⟨h1, h2⟩ := h
    obtain ⟨e1, e2⟩ := stepsOk_get h2
    refine ⟨by simp [e1], fun i o' hi => ?_⟩
    cases i with
    | zero => simp at hi; subst hi; exact ⟨a, rfl, by simpa [putAll] using h1⟩
    | succ i =>
      obtain ⟨a', b1, b2⟩ := e2 i o' (by simpa using hi)
      exact ⟨a', by simpa using b1, by simpa [putAll] using b2⟩

/-- the frames of the walk are those of the last writers -/
theorem lk_putAll : ∀ (l : List Oper) (as : List AV) (fr : Fr) (t : Nat) (g : Nat → AV) (off : Nat) (dst : Nat → Option Nat) (av : Nat → AV), l.length = as.length →
    (∀ i o, l[i]? = some o → dst (off + i) = o.dst) → (∀ i a, as[i]? = some a → av (off + i) = a) → lk fr t = gD g dst av (fun _ => true) off t →
    lk (putAll l as fr) t = gD g dst av (fun _ => true) (off + l.length) t
  | [], [], fr, t, g, off, dst, av, _, _, _, h => by simpa [putAll] using h
  | [], _ :: _, _, _, _, _, _, _, hl, _, _, _ => by simp at hl
  | _ :: _, [], _, _, _, _, _, _, hl, _, _, _ => by simp at hl
  | o :: l, a :: as, fr, t, g, off, dst, av, hl, hd, ha, h => by
    have := lk_putAll l as (putL o.dst a fr) t g (off + 1) dst av (by simpa using hl)
      (fun i o' hi => by have := hd (i + 1) o' (by simpa using hi); rwa [show off + (i + 1) = off + 1 + i by omega] at this)
      (fun i a' hi => by have := ha (i + 1) a' (by simpa using hi); rwa [show off + (i + 1) = off + 1 + i by omega] at this) ?_
    · simp only [putAll, List.length_cons]
      rw [this, show off + 1 + l.length = off + (l.length + 1) by omega]
    · have e1 := hd 0 o rfl
      have e2 := ha 0 a rfl
      simp only [Nat.add_zero] at e1 e2
      simp only [gD, e1, e2, true_and]
      cases hdst : o.dst with
      | none => simp [putL, h]
      | some d =>
        simp only [putL, lk, Option.some.injEq]
        by_cases hdt : d = t
        · subst hdt; simp
        · have hb : Nat.beq d t = false := by cases hq : Nat.beq d t with | false => rfl | true => exact absurd (Nat.eq_of_beq_eq_true hq) hdt
          rw [hb, cond_false, if_neg hdt, h]

theorem count_set {N i : Nat} {D : Nat → Bool} (hi : i < N) (hd : D i = false) : ((List.range N).filter fun j => !(if j = i then true else D j)).length + 1 = ((List.range N).filter fun j => !D j).length := by
  induction N with
  | zero => omega
  | succ N ih =>
    rw [List.range_succ, List.filter_append, List.filter_append, List.length_append, List.length_append]
    by_cases e : i = N
    · subst e
      have : ((List.range i).filter fun j => !(if j = i then true else D j)) = (List.range i).filter fun j => !D j := by
        apply List.filter_congr
        intro j hj
        have : j ≠ i := by have := List.mem_range.1 hj; omega
        simp [this]
      rw [this]
      simp [hd]
    · have := ih (by omega)
      have e2 : N ≠ i := Ne.symm e
      simp only [List.filter_cons, List.filter_nil, if_neg e2] at *
      omega

theorem XW.draw {id : Nat} {as : List AV} (he : c = .region id ops true) (hm : P.follows .mixedOrders = true) (hok : drawOk ops = true)
    (hs : StepsOk P n st ops ops.toList as fr) (hQ : Q .normal (putAll ops.toList as fr) st) : XW P n n0 loose c Q fr st := by
  subst he
  obtain ⟨hlen, hstep⟩ := stepsOk_get hs
  have hN : ops.toList.length = ops.size := by simp
  -- the order
  have hms := masks_sound (ops := ops) (l := ops.toList) (ms := []) (pre := []) (by simp) rfl (fun i j h => by simp at h)
  have hord := ordOk_get (ops := ops) (ms := masks ops.toList []) (l := ops.toList) (pre := []) (j := 0) rfl hok
  let dst : Nat → Option Nat := fun i => (ops[i]?).bind (·.dst)
  let av : Nat → AV := fun i => as.getD i .j
  have hdst : ∀ i o, ops.toList[i]? = some o → dst i = o.dst := by
    intro i o h
    simp only [Array.getElem?_toList] at h
    simp [dst, h]
  have hav : ∀ i a, as[i]? = some a → av i = a := by
    intro i a h
    simp [av, List.getD, h]
  -- the frame behind the first i operations of the text
  have hT : ∀ i, i ≤ ops.size → ∀ t, lk (putAll (ops.toList.take i) (as.take i) fr) t = gD (lk fr) dst av (fun _ => true) i t := by
    intro i hi t
    have := lk_putAll (ops.toList.take i) (as.take i) fr t (lk fr) 0 dst av (by simp [← hlen])
      (fun k o hk => by
        rw [List.getElem?_take] at hk
        split at hk
        · simpa using hdst k o hk
        · cases hk)
      (fun k a hk => by
        rw [List.getElem?_take] at hk
        split at hk
        · simpa using hav k a hk
        · cases hk) rfl
    have hl : (ops.toList.take i).length = i := by simp; omega
    rw [hl, Nat.zero_add] at this
    exact this
  intro ι w a hR hF
  refine wp_region_any hm ?_
  -- whatever order: the invariant
  have key : ∀ (fuel : Nat) (listed : Array Bool) (ι' : IM) (w' : World) (a' : Act), listed.size = ops.size →
      (∀ j o, ops[j]? = some o → listed.getD j false = true → ∀ e ∈ o.after, Region.binds .any e = true → listed.getD e.on false = true) →
      ((List.range ops.size).filter fun j => !listed.getD j false).length ≤ fuel →
      Rel ι' w' st → FRelF n ι' w' st a' (gD (lk fr) dst av (fun j => listed.getD j false) ops.size) → Keeps all ι w st ι' w' st →
      wpAny P .any ops (PostX n n0 loose ι w st Q) fuel listed a' w' := by
    intro fuel
    induction fuel with
    | zero =>
      intro listed ι' w' a' hls hcl hcnt hR' hF' hk
      have hall : ∀ j, j < ops.size → listed.getD j false = true := by
        intro j hj
        cases hq : listed.getD j false with
        | true => rfl
        | false =>
          have : j ∈ (List.range ops.size).filter fun j => !listed.getD j false := by
            rw [List.mem_filter]; exact ⟨List.mem_range.2 hj, by simp only [hq]; rfl⟩
          have := List.length_pos_of_mem this
          omega
      have hready : Region.ready .any ops listed = [] := by
        unfold Region.ready
        rw [List.filter_eq_nil_iff]
        intro j hj
        have hj' := List.mem_range.1 hj
        have : listed.getD j true = true := by
          have h1 := hall j hj'
          simp [Array.getD, hls, hj'] at h1 ⊢
          exact h1
        simp only [this]
        simp
      refine ⟨hready, ι', putAll ops.toList as fr, st, hQ, hR', ⟨hF'.defers, hF'.size, fun t => ?_⟩, hk.weaken (fun _ _ => trivial)⟩
      have h1 := hT ops.size (Nat.le_refl _) t
      rw [List.take_of_length_le (by simp), List.take_of_length_le (by rw [← hlen]; simp)] at h1
      rw [h1, gD_same (E := fun j => listed.getD j false) (fun j hj _ => (hall j hj).symm)]
      exact hF'.slot t
    | succ fuel ih =>
      intro listed ι' w' a' hls hcl hcnt hR' hF' hk
      refine ⟨fun hready => ?_, fun i hi => ?_⟩
      · -- nothing is ready: all are listed
        have hall : ∀ j, j < ops.size → listed.getD j false = true := by
          intro j
          induction j using Nat.strongRecOn with
          | _ j ihj =>
            intro hj
            cases hq : listed.getD j false with
            | true => rfl
            | false =>
              exfalso
              have hmem : j ∈ Region.ready .any ops listed := by
                unfold Region.ready
                rw [List.mem_filter]
                refine ⟨List.mem_range.2 hj, ?_⟩
                have ho : ops[j]? = some ops[j] := Array.getElem?_eq_getElem hj
                have h1 : listed.getD j true = false := by
                  simp [Array.getD, hls, hj] at hq ⊢
                  exact hq
                rw [h1, ho]
                simp only [Bool.not_false, Bool.true_and, Option.map_some, Option.getD_some]
                rw [Array.all_eq_true_iff_forall_mem]
                intro e he
                cases hb : Region.binds .any e with
                | false => rfl
                | true =>
                  have hlt : e.on < j := by
                    have := (hord j ops[j] (by simp [hj])).1 e he hb
                    omega
                  rw [ihj e.on hlt (by omega)]
                  simp
              rw [hready] at hmem
              cases hmem
        refine ⟨ι', putAll ops.toList as fr, st, hQ, hR', ⟨hF'.defers, hF'.size, fun t => ?_⟩, hk.weaken (fun _ _ => trivial)⟩
        have h1 := hT ops.size (Nat.le_refl _) t
        rw [List.take_of_length_le (by simp), List.take_of_length_le (by rw [← hlen]; simp)] at h1
        rw [h1, gD_same (E := fun j => listed.getD j false) (fun j hj _ => (hall j hj).symm)]
        exact hF'.slot t
      · -- operation i comes up
        unfold Region.ready at hi
        rw [List.mem_filter] at hi
        obtain ⟨hi1, hi2⟩ := hi
        have hiN := List.mem_range.1 hi1
        have ho : ops[i]? = some ops[i] := Array.getElem?_eq_getElem hiN
        rw [ho] at hi2
        simp only [Option.map_some, Option.getD_some, Bool.and_eq_true] at hi2
        have hnl : listed.getD i false = false := by
          have := hi2.1
          simp [Array.getD, hls, hiN] at this ⊢
          exact this
        have hpred : ∀ e ∈ ops[i].after, Region.binds .any e = true → listed.getD e.on false = true := by
          intro e he hb
          have := Array.all_eq_true_iff_forall_mem.1 hi2.2 e he
          simpa [hb] using this
        -- what comes ahead of i is listed; what comes behind it is not
        have closed : ∀ p q, Behind ops p q → listed.getD q false = true → listed.getD p false = true := by
          intro p q hbe
          induction hbe with
          | one ho' he hb h => intro hq; subst h; exact hcl _ _ ho' hq _ he hb
          | more ho' he hb h ihb => intro hq; exact ihb (hcl _ _ ho' hq _ he hb)
        have ahead : ∀ p, Behind ops p i → listed.getD p false = true := by
          intro p hbe
          cases hbe with
          | one ho' he hb h => rw [ho] at ho'; cases ho'; subst h; exact hpred _ he hb
          | more ho' he hb h => rw [ho] at ho'; cases ho'; exact closed p _ h (hpred _ he hb)
        have late : ∀ q, Behind ops i q → listed.getD q false = false := by
          intro q hbe
          cases hq : listed.getD q false with
          | false => rfl
          | true => rw [closed i q hbe hq] at hnl; cases hnl
        have touch1 : ∀ j o, j < i → ops[j]? = some o → Oper.apart ops o ops[i] = false → listed.getD j false = true := by
          intro j o hj hoj hap
          have := (hord i ops[i] (by simp [hiN])).2 j o (by omega) (by simpa using hoj)
          rcases this with h1 | h1
          · rw [h1] at hap; cases hap
          · exact ahead j (hms j i (by simpa using h1))
        have touch2 : ∀ j o, i < j → ops[j]? = some o → Oper.apart ops ops[i] o = false → listed.getD j false = false := by
          intro j o hj hoj hap
          have hjN : j < ops.size := (Array.getElem?_eq_some_iff.1 hoj).1
          have := (hord j o (by simpa using hoj)).2 i ops[i] (by omega) (by simp [hiN])
          rcases this with h1 | h1
          · rw [h1] at hap; cases hap
          · exact late j (hms i j (by simpa using h1))
        -- the slots that i looks at
        have hlook : ∀ t ∈ Oper.looksAt ops ops[i], gD (lk fr) dst av (fun _ => true) i t = gD (lk fr) dst av (fun j => listed.getD j false) ops.size t := by
          intro t ht
          rw [gD_past (i := i) (k := ops.size) (D := fun j => listed.getD j false) (by omega)]
          · apply gD_same
            intro j hj hd
            symm
            obtain ⟨o, ho', hdo⟩ : ∃ o, ops[j]? = some o ∧ o.dst = some t := by
              simp only [dst] at hd
              cases hq : ops[j]? with
              | none => simp [hq] at hd
              | some o => exact ⟨o, rfl, by simpa [hq] using hd⟩
            refine touch1 j o hj ho' ?_
            cases hap : Oper.apart ops o ops[i] with
            | false => rfl
            | true => exact absurd ht ((Oper.apart_spec hap).1 t hdo)
          · intro j h1 h2 hd
            by_cases hji : j = i
            · subst hji; exact hnl
            · obtain ⟨o, ho', hdo⟩ : ∃ o, ops[j]? = some o ∧ o.dst = some t := by
                simp only [dst] at hd
                cases hq : ops[j]? with
                | none => simp [hq] at hd
                | some o => exact ⟨o, rfl, by simpa [hq] using hd⟩
              refine touch2 j o (by omega) ho' ?_
              cases hap : Oper.apart ops ops[i] o with
              | false => rfl
              | true => exact absurd ht ((Oper.apart_spec hap).2.2 t hdo)
        obtain ⟨ai, hai, hbd, hst⟩ := hstep i ops[i] (by simp [hiN])
        have hfr : ∀ t, lk (putAll (ops.toList.take i) (as.take i) fr) t = gD (lk fr) dst av (fun _ => true) i t := hT i (by omega)
        have hFi : FRel n ι' w' st a' (looksR ops ops[i] (putAll (ops.toList.take i) (as.take i) fr)) := by
          refine hF'.restr _ ?_
          intro t ht
          rw [hfr t, hlook t ht]
        -- behind it
        have next : ∀ v w'' ι'', AVRel ι'' w'' st v ai → Rel ι'' w'' st → Keeps all ι' w' st ι'' w'' st → wpAny P .any ops (PostX n n0 loose ι w st Q) fuel (listed.setIfInBounds i true) (a'.put ops[i].dst v) w'' := by
          intro v w'' ι'' hv hR'' hk''
          have hset : ∀ j, (listed.setIfInBounds i true).getD j false = if j = i then true else listed.getD j false := by
            intro j
            by_cases e : j = i
            · subst e
              simp [Array.getD, hls, hiN]
            · by_cases hj : j < listed.size
              · simp [Array.getD, hj, e, Array.getElem_setIfInBounds_ne, Ne.symm e]
              · simp [Array.getD, hj, e]
          have hset' : (fun j => (listed.setIfInBounds i true).getD j false) = fun j => if j = i then true else listed.getD j false := funext hset
          refine ih _ ι'' w'' _ (by simpa using hls) ?_ ?_ hR'' ?_ (hk.trans hk'')
          · intro j o hoj hj e he hb
            rw [hset] at hj ⊢
            by_cases e1 : e.on = i
            · rw [if_pos e1]
            · rw [if_neg e1]
              by_cases e2 : j = i
              · subst e2
                rw [ho] at hoj; cases hoj
                exact hpred e he hb
              · rw [if_neg e2] at hj
                exact hcl j o hoj hj e he hb
          · have := count_set (N := ops.size) (i := i) (D := fun j => listed.getD j false) hiN hnl
            simp only [hset]
            omega
          · rw [hset']
            have hdi : dst i = ops[i].dst := hdst i ops[i] (by simp [hiN])
            have hvi : av i = ai := hav i ai hai
            have hlast : ∀ t, dst i = some t → ∀ j, i < j → j < ops.size → dst j = some t → (fun j => listed.getD j false) j = false := by
              intro t hdt j h1 h2 h3
              have hoj : ops[j]? = some ops[j] := Array.getElem?_eq_getElem h2
              refine touch2 j ops[j] h1 hoj ?_
              cases hap : Oper.apart ops ops[i] ops[j] with
              | false => rfl
              | true =>
                have := (Oper.apart_spec hap).2.1 t (by rw [← hdi]; exact hdt)
                exact absurd (by rw [← hdst j ops[j] (by simp [h2])]; exact h3) this
            refine ⟨?_, ?_, fun t => ?_⟩
            · cases hq : ops[i].dst <;> simp [Act.put, hF'.defers]
            · cases hq : ops[i].dst <;> simp [Act.put, hF'.size]
            · rw [gD_put hiN (hlast t)]
              by_cases hdt : dst i = some t
              · rw [if_pos hdt, hvi]
                rw [hdi] at hdt
                have hlt := hbd t hdt
                have e3 : (a'.put ops[i].dst v).tmps.getD t undef = v := by
                  rw [hdt]
                  simp [Act.put, hF'.size, hlt]
                rw [e3]; exact hv
              · rw [if_neg hdt]
                have e3 : (a'.put ops[i].dst v).tmps.getD t undef = a'.tmps.getD t undef := by
                  cases hq : ops[i].dst with
                  | none => rfl
                  | some d =>
                    have : d ≠ t := by rintro rfl; exact hdt (hdi.trans hq)
                    simp [Act.put, this]
                rw [e3]
                exact (hF'.slot t).mono' hk''
        unfold wpOp
        rw [ho]
        simp only
        rcases hst with ⟨hg, hy⟩ | ⟨hg, rfl⟩
        · have hw := guard_sound hg hFi
          rw [if_pos hw]
          exact .inl (hy ι' w' a' hR' hFi _ _ next)
        · have hw := guard_sound hg hFi
          rw [if_neg (by rw [hw]; simp)]
          exact next undef w' ι' undef_rel hR' .refl
  refine key ops.size _ ι { w with drawn := w.drawn + 1 } a (by simp) ?_ ?_ (hR.ext (Ext.drew w)) ?_ ?_
  · intro j o ho hj
    simp [Array.getD] at hj
  · refine Nat.le_trans (List.length_filter_le _ _) (by simp)
  · refine ⟨hF.defers, hF.size, fun t => ?_⟩
    have : gD (lk fr) dst av (fun j => (Array.replicate ops.size false).getD j false) ops.size t = lk fr t := by
      rw [gD_past (i := 0) (by omega)]
      · rfl
      · intro j _ _ _
        simp [Array.getD]
    rw [this]
    exact (hF.slot t).mono' ((Ext.drew w).keeps ι st)
  · exact (Ext.drew w).keeps ι st
end

end Go.SX
