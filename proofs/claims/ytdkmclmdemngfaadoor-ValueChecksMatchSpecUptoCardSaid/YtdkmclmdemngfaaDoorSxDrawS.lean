/- SX: regions whose order is open up to a point, and whose last operations come one after the other. -/
import Derived.Test.YtdkmclmdemngfaaDoorSxDraw
namespace Go.SX
open Go
set_option linter.unusedVariables false
set_option linter.unusedSimpArgs false
set_option linter.unnecessarySimpa false

section
variable {P : Program} {n n0 : Nat} {loose : List Nat} {Q : QT} {fr : Fr} {st : St} {c : Code} {ops : Array Oper}

/-- operations from m on that come behind all ahead of them -/
def sufOk (ops : Array Oper) (m : Nat) : Bool := Nat.ble m ops.size && (List.range ops.size).all fun j => Nat.blt j m || (List.range j).all fun i => ((masks ops.toList []).getD j 0).testBit i

/-- one after the other: what comes up is the next one -/
theorem serial {Q : Exit → Act → World → Prop} {m : Nat} (hfull : ∀ j, m ≤ j → j < ops.size → ∀ i, i < j → Behind ops i j) (hback : ∀ (j : Nat) o, ops[j]? = some o → ∀ e ∈ o.after, Region.binds .any e = true → e.on < j) :
    ∀ (fuel : Nat) (k : Nat) (listed : Array Bool) (a : Act) (w : World), m ≤ k → k ≤ ops.size → listed.size = ops.size → (∀ j, j < ops.size → (listed.getD j false = true ↔ j < k)) → ops.size ≤ k + fuel → wpList P ops Q (ops.toList.drop k) a w → wpAny P .any ops Q fuel listed a w := by
  intro fuel
  induction fuel with
  | zero =>
    intro k listed a w hmk hk hls hl hf hw
    have : k = ops.size := by omega
    subst this
    rw [List.drop_of_length_le (by simp)] at hw
    refine ⟨?_, hw⟩
    unfold Region.ready
    rw [List.filter_eq_nil_iff]
    intro j hj
    have hj' := List.mem_range.1 hj
    have h1 := (hl j hj').2 hj'
    have : listed.getD j true = true := by
      simp [Array.getD, hls, hj'] at h1 ⊢; exact h1
    simp [this]
  | succ fuel ih =>
    intro k listed a w hmk hk hls hl hf hw
    have hrd : ∀ i, i ∈ Region.ready .any ops listed ↔ (i = k ∧ k < ops.size) := by
      intro i
      unfold Region.ready
      rw [List.mem_filter, List.mem_range]
      constructor
      · rintro ⟨hi, hr⟩
        have ho : ops[i]? = some ops[i] := Array.getElem?_eq_getElem hi
        rw [ho] at hr
        simp only [Option.map_some, Option.getD_some, Bool.and_eq_true] at hr
        have hnl : ¬ i < k := by
          intro h
          have h1 := (hl i hi).2 h
          have := hr.1
          simp [Array.getD, hls, hi] at h1 this
          rw [h1] at this; cases this
        have hpred : ∀ e ∈ ops[i].after, Region.binds .any e = true → listed.getD e.on false = true := by
          intro e he hb
          have := Array.all_eq_true_iff_forall_mem.1 hr.2 e he
          simpa [hb] using this
        refine ⟨?_, by omega⟩
        apply Classical.byContradiction
        intro hne
        have hki : k < i := by omega
        -- k is behind no listed one: a way from k to i begins with an edge to something listed
        have key : ∀ p q, Behind ops p q → q < k → p < k := by
          intro p q hb
          induction hb with
          | one ho' he hb h => intro hq; subst h; exact Nat.lt_trans (hback _ _ ho' _ he hb) hq
          | more ho' he hb h ihb => intro hq; exact ihb (Nat.lt_trans (hback _ _ ho' _ he hb) hq)
        have := hfull i (by omega) hi k hki
        cases this with
        | one ho' he hb h =>
          rw [ho] at ho'; cases ho'
          have h2 := hpred _ he hb
          rw [h] at h2
          exact absurd ((hl k (by omega)).1 h2) (Nat.lt_irrefl k)
        | more ho' he hb h =>
          rw [ho] at ho'; cases ho'
          have h2 := hpred _ he hb
          have h3 := hback _ _ ho _ he hb
          have := key _ _ h ((hl _ (by omega)).1 h2)
          omega
      · rintro ⟨rfl, hlt⟩
        refine ⟨hlt, ?_⟩
        have ho : ops[i]? = some ops[i] := Array.getElem?_eq_getElem hlt
        have h1 : listed.getD i true = false := by
          have : ¬ listed.getD i false = true := fun h => Nat.lt_irrefl _ ((hl i hlt).1 h)
          simp [Array.getD, hls, hlt] at this ⊢
          exact this
        rw [h1, ho]
        simp only [Bool.not_false, Bool.true_and, Option.map_some, Option.getD_some]
        rw [Array.all_eq_true_iff_forall_mem]
        intro e he
        cases hb : Region.binds .any e with
        | false => rfl
        | true =>
          have := hback _ _ ho e he hb
          rw [(hl e.on (by omega)).2 this]; simp
    refine ⟨fun hready => ?_, fun i hi => ?_⟩
    · have : k = ops.size := by
        apply Classical.byContradiction
        intro h
        have := (hrd k).2 ⟨rfl, by omega⟩
        rw [hready] at this
        cases this
      subst this
      rw [List.drop_of_length_le (by simp)] at hw
      exact hw
    · obtain ⟨rfl, hlt⟩ := (hrd i).1 hi
      have ho : ops[i]? = some ops[i] := Array.getElem?_eq_getElem hlt
      have hd : ops.toList.drop i = ops[i] :: ops.toList.drop (i + 1) := by
        have : i < ops.toList.length := by simpa using hlt
        rw [List.drop_eq_getElem_cons this]; simp
      rw [hd] at hw
      have next : ∀ a' w', wpList P ops Q (ops.toList.drop (i + 1)) a' w' → wpAny P .any ops Q fuel (listed.setIfInBounds i true) a' w' := by
        intro a' w' h'
        refine ih (i + 1) _ a' w' (by omega) (by omega) (by simpa using hls) (fun j hj => ?_) (by omega) h'
        by_cases e : j = i
        · subst e; simp [Array.getD, hls, hj]
        · have : (listed.setIfInBounds i true).getD j false = listed.getD j false := by
            simp [Array.getD, hls, hj, Array.getElem_setIfInBounds_ne, Ne.symm e]
          rw [this, hl j hj]; omega
      refine wpOp_mono next ?_
      unfold wpOp
      rw [ho]
      exact hw

theorem count_ge {m : Nat} : ∀ N, m ≤ N → ((List.range N).filter fun j => !decide (j < m)).length = N - m
  | 0, h => by simp
  | N + 1, h => by
    rw [List.range_succ, List.filter_append, List.length_append]
    by_cases e : m = N + 1
    · subst e
      have : ((List.range N).filter fun j => !decide (j < N + 1)) = [] := by
        rw [List.filter_eq_nil_iff]; intro j hj; have := List.mem_range.1 hj; simp; omega
      rw [this]; simp
    · rw [count_ge N (by omega)]
      have : ¬ N < m := by omega
      simp [this]; omega

theorem XW.drawS {id : Nat} {as : List AV} (m : Nat) (he : c = .region id ops true) (hm : P.follows .mixedOrders = true) (hok : (drawOk ops && sufOk ops m) = true)
    (hs : StepsOk P n st ops (ops.toList.take m) as fr) (hQ : XO P n n0 loose ops (ops.toList.drop m) Q (putAll (ops.toList.take m) as fr) st) : XW P n n0 loose c Q fr st := by
  subst he
  simp only [Bool.and_eq_true] at hok
  obtain ⟨hok, hsuf⟩ := hok
  unfold sufOk at hsuf
  simp only [Bool.and_eq_true] at hsuf
  obtain ⟨hmN0, hsuf⟩ := hsuf
  have hmN := Nat.le_of_ble_eq_true hmN0
  have hfull0 : ∀ j, m ≤ j → j < ops.size → ∀ i, i < j → ((masks ops.toList []).getD j 0).testBit i = true := by
    intro j h1 h2 i h3
    have := List.all_eq_true.1 hsuf j (List.mem_range.2 h2)
    rw [Bool.or_eq_true] at this
    rcases this with h | h
    · rw [Nat.blt_eq] at h; omega
    · exact List.all_eq_true.1 h i (List.mem_range.2 h3)
  obtain ⟨hlen, hstep⟩ := stepsOk_get hs
  -- the order
  have hms := masks_sound (ops := ops) (l := ops.toList) (ms := []) (pre := []) (by simp) rfl (fun i j h => by simp at h)
  have hord := ordOk_get (ops := ops) (ms := masks ops.toList []) (l := ops.toList) (pre := []) (j := 0) rfl hok
  let dst : Nat → Option Nat := fun i => (ops[i]?).bind (·.dst)
  let av : Nat → AV := fun i => as.getD i .j
  have hdst : ∀ i o, ops.toList[i]? = some o → dst i = o.dst := by
    intro i o h
    simp only [Array.getElem?_toList] at h
    simp [dst, h]
  have hav : ∀ i a, as[i]? = some a → av i = a := by
    intro i a h
    simp [av, List.getD, h]
  -- the frame behind the first i operations of the text
  have hfull : ∀ j, m ≤ j → j < ops.size → ∀ i, i < j → Behind ops i j := fun j h1 h2 i h3 => hms i j (by simpa using hfull0 j h1 h2 i h3)
  have hback : ∀ (j : Nat) o, ops[j]? = some o → ∀ e ∈ o.after, Region.binds .any e = true → e.on < j := fun j o ho e he hb => by
    have := (hord j o (by simpa using ho)).1 e he hb
    omega
  have hT : ∀ i, i ≤ m → ∀ t, lk (putAll ((ops.toList.take m).take i) (as.take i) fr) t = gD (lk fr) dst av (fun _ => true) i t := by
    intro i hi t
    have := lk_putAll ((ops.toList.take m).take i) (as.take i) fr t (lk fr) 0 dst av (by simp only [List.length_take] at hlen ⊢; omega)
      (fun k o hk => by
        rw [List.getElem?_take] at hk
        split at hk
        · rw [List.getElem?_take] at hk
          split at hk
          · simpa using hdst k o hk
          · cases hk
        · cases hk)
      (fun k a hk => by
        rw [List.getElem?_take] at hk
        split at hk
        · simpa using hav k a hk
        · cases hk) rfl
    have hl : ((ops.toList.take m).take i).length = i := by simp; omega
    rw [hl, Nat.zero_add] at this
    exact this
  intro ι w a hR hF
  refine wp_region_any hm ?_
  have atM : ∀ (listed : Array Bool) (ι' : IM) (w' : World) (a' : Act), (∀ j, j < m → listed.getD j false = true) → Rel ι' w' st → FRelF n ι' w' st a' (gD (lk fr) dst av (fun j => listed.getD j false) m) → Keeps all ι w st ι' w' st →
      wpList P ops (PostX n n0 loose ι w st Q) (ops.toList.drop m) a' w' := by
    intro listed ι' w' a' hall hR' hF' hk
    have hFm : FRel n ι' w' st a' (putAll (ops.toList.take m) as fr) := by
      refine ⟨hF'.defers, hF'.size, fun t => ?_⟩
      have h1 := hT m (Nat.le_refl _) t
      rw [List.take_of_length_le (l := ops.toList.take m) (by simp; omega), List.take_of_length_le (l := as) (by rw [← hlen]; simp; omega)] at h1
      rw [h1, gD_same (E := fun j => listed.getD j false) (fun j hj _ => (hall j hj).symm)]
      exact hF'.slot t
    exact wpList_post (fun e a w h => h.trans (hk.weaken (fun _ _ => trivial))) (hQ ι' w' a' hR' hFm)
  have fin : ∀ {listed : Array Bool} (ι' : IM) (w' : World) (a' : Act), (∀ j, j < m → listed.getD j false = true) → Rel ι' w' st → FRelF n ι' w' st a' (gD (lk fr) dst av (fun j => listed.getD j false) m) → Keeps all ι w st ι' w' st →
      ops.toList.drop m = [] → PostX n n0 loose ι w st Q .normal a' w' := by
    intro listed ι' w' a' hall hR' hF' hk he
    have := atM listed ι' w' a' hall hR' hF' hk
    rw [he] at this
    exact this
  -- whatever order: the invariant
  have key : ∀ (fuel : Nat) (listed : Array Bool) (ι' : IM) (w' : World) (a' : Act), listed.size = ops.size →
      (∀ j o, ops[j]? = some o → listed.getD j false = true → ∀ e ∈ o.after, Region.binds .any e = true → listed.getD e.on false = true) →
      ((List.range ops.size).filter fun j => !listed.getD j false).length ≤ fuel →
      (∀ j, m ≤ j → listed.getD j false = false) → Rel ι' w' st → FRelF n ι' w' st a' (gD (lk fr) dst av (fun j => listed.getD j false) m) → Keeps all ι w st ι' w' st →
      wpAny P .any ops (PostX n n0 loose ι w st Q) fuel listed a' w' := by
    intro fuel
    induction fuel with
    | zero =>
      intro listed ι' w' a' hls hcl hcnt hlow hR' hF' hk
      have hall : ∀ j, j < ops.size → listed.getD j false = true := by
        intro j hj
        cases hq : listed.getD j false with
        | true => rfl
        | false =>
          have : j ∈ (List.range ops.size).filter fun j => !listed.getD j false := by
            rw [List.mem_filter]; exact ⟨List.mem_range.2 hj, by simp only [hq]; rfl⟩
          have := List.length_pos_of_mem this
          omega
      have hready : Region.ready .any ops listed = [] := by
        unfold Region.ready
        rw [List.filter_eq_nil_iff]
        intro j hj
        have hj' := List.mem_range.1 hj
        have : listed.getD j true = true := by
          have h1 := hall j hj'
          simp [Array.getD, hls, hj'] at h1 ⊢
          exact h1
        simp only [this]
        simp
      refine ⟨hready, ?_⟩
      have hmE : m = ops.size := by
        apply Classical.byContradiction
        intro h
        have h1 := hall m (by omega)
        rw [hlow m (Nat.le_refl _)] at h1
        cases h1
      exact fin ι' w' a' (fun j hj => hall j (by omega)) hR' hF' hk (by rw [hmE]; simp)
    | succ fuel ih =>
      intro listed ι' w' a' hls hcl hcnt hlow hR' hF' hk
      refine ⟨fun hready => ?_, fun i hi => ?_⟩
      · -- nothing is ready: all are listed
        have hall : ∀ j, j < ops.size → listed.getD j false = true := by
          intro j
          induction j using Nat.strongRecOn with
          | _ j ihj =>
            intro hj
            cases hq : listed.getD j false with
            | true => rfl
            | false =>
              exfalso
              have hmem : j ∈ Region.ready .any ops listed := by
                unfold Region.ready
                rw [List.mem_filter]
                refine ⟨List.mem_range.2 hj, ?_⟩
                have ho : ops[j]? = some ops[j] := Array.getElem?_eq_getElem hj
                have h1 : listed.getD j true = false := by
                  simp [Array.getD, hls, hj] at hq ⊢
                  exact hq
                rw [h1, ho]
                simp only [Bool.not_false, Bool.true_and, Option.map_some, Option.getD_some]
                rw [Array.all_eq_true_iff_forall_mem]
                intro e he
                cases hb : Region.binds .any e with
                | false => rfl
                | true =>
                  have hlt : e.on < j := by
                    have := (hord j ops[j] (by simp [hj])).1 e he hb
                    omega
                  rw [ihj e.on hlt (by omega)]
                  simp
              rw [hready] at hmem
              cases hmem
        have hmE : m = ops.size := by
          apply Classical.byContradiction
          intro h
          have h1 := hall m (by omega)
          rw [hlow m (Nat.le_refl _)] at h1
          cases h1
        exact fin ι' w' a' (fun j hj => hall j (by omega)) hR' hF' hk (by rw [hmE]; simp)
      · -- operation i comes up
        have hi0 := hi
        unfold Region.ready at hi
        rw [List.mem_filter] at hi
        obtain ⟨hi1, hi2⟩ := hi
        have hiN := List.mem_range.1 hi1
        have ho : ops[i]? = some ops[i] := Array.getElem?_eq_getElem hiN
        rw [ho] at hi2
        simp only [Option.map_some, Option.getD_some, Bool.and_eq_true] at hi2
        have hnl : listed.getD i false = false := by
          have := hi2.1
          simp [Array.getD, hls, hiN] at this ⊢
          exact this
        have hpred : ∀ e ∈ ops[i].after, Region.binds .any e = true → listed.getD e.on false = true := by
          intro e he hb
          have := Array.all_eq_true_iff_forall_mem.1 hi2.2 e he
          simpa [hb] using this
        -- what comes ahead of i is listed; what comes behind it is not
        have closed : ∀ p q, Behind ops p q → listed.getD q false = true → listed.getD p false = true := by
          intro p q hbe
          induction hbe with
          | one ho' he hb h => intro hq; subst h; exact hcl _ _ ho' hq _ he hb
          | more ho' he hb h ihb => intro hq; exact ihb (hcl _ _ ho' hq _ he hb)
        have ahead : ∀ p, Behind ops p i → listed.getD p false = true := by
          intro p hbe
          cases hbe with
          | one ho' he hb h => rw [ho] at ho'; cases ho'; subst h; exact hpred _ he hb
          | more ho' he hb h => rw [ho] at ho'; cases ho'; exact closed p _ h (hpred _ he hb)
        have late : ∀ q, Behind ops i q → listed.getD q false = false := by
          intro q hbe
          cases hq : listed.getD q false with
          | false => rfl
          | true => rw [closed i q hbe hq] at hnl; cases hnl
        by_cases hmi : m ≤ i
        · -- the serial part begins
          have hbel : ∀ j, j < i → listed.getD j false = true := fun j hj => ahead j (hfull i hmi hiN j hj)
          have hallm : ∀ j, j < m → listed.getD j false = true := fun j hj => hbel j (by omega)
          have him : i = m := by
            apply Classical.byContradiction
            intro h
            have h1 := hbel m (by omega)
            rw [hlow m (Nat.le_refl _)] at h1
            cases h1
          have hlm : ∀ j, j < ops.size → (listed.getD j false = true ↔ j < m) := by
            intro j hj
            refine ⟨fun h => ?_, fun h => hallm j h⟩
            apply Classical.byContradiction
            intro h2
            rw [hlow j (by omega)] at h
            cases h
          have hcount : ops.size ≤ m + (fuel + 1) := by
            have e1 : ((List.range ops.size).filter fun j => !listed.getD j false) = (List.range ops.size).filter fun j => !decide (j < m) := by
              apply List.filter_congr
              intro j hj
              have := hlm j (List.mem_range.1 hj)
              by_cases h : j < m
              · simp only [this.2 h, h, decide_true]
              · have h3 : listed.getD j false = false := hlow j (by omega)
                simp only [h3, h, decide_false]
            rw [e1, count_ge _ hmN] at hcnt
            omega
          have hser := serial (P := P) (Q := PostX n n0 loose ι w st Q) hfull hback (fuel + 1) m listed a' w' (Nat.le_refl _) hmN hls hlm hcount (atM listed ι' w' a' hallm hR' hF' hk)
          exact hser.2 i hi0
        have hmi' : i < m := by omega
        have touch1 : ∀ j o, j < i → ops[j]? = some o → Oper.apart ops o ops[i] = false → listed.getD j false = true := by
          intro j o hj hoj hap
          have := (hord i ops[i] (by simp [hiN])).2 j o (by omega) (by simpa using hoj)
          rcases this with h1 | h1
          · rw [h1] at hap; cases hap
          · exact ahead j (hms j i (by simpa using h1))
        have touch2 : ∀ j o, i < j → ops[j]? = some o → Oper.apart ops ops[i] o = false → listed.getD j false = false := by
          intro j o hj hoj hap
          have hjN : j < ops.size := (Array.getElem?_eq_some_iff.1 hoj).1
          have := (hord j o (by simpa using hoj)).2 i ops[i] (by omega) (by simp [hiN])
          rcases this with h1 | h1
          · rw [h1] at hap; cases hap
          · exact late j (hms i j (by simpa using h1))
        -- the slots that i looks at
        have hlook : ∀ t ∈ Oper.looksAt ops ops[i], gD (lk fr) dst av (fun _ => true) i t = gD (lk fr) dst av (fun j => listed.getD j false) m t := by
          intro t ht
          rw [gD_past (i := i) (k := m) (D := fun j => listed.getD j false) (by omega)]
          · apply gD_same
            intro j hj hd
            symm
            obtain ⟨o, ho', hdo⟩ : ∃ o, ops[j]? = some o ∧ o.dst = some t := by
              simp only [dst] at hd
              cases hq : ops[j]? with
              | none => simp [hq] at hd
              | some o => exact ⟨o, rfl, by simpa [hq] using hd⟩
            refine touch1 j o hj ho' ?_
            cases hap : Oper.apart ops o ops[i] with
            | false => rfl
            | true => exact absurd ht ((Oper.apart_spec hap).1 t hdo)
          · intro j h1 h2 hd
            by_cases hji : j = i
            · subst hji; exact hnl
            · obtain ⟨o, ho', hdo⟩ : ∃ o, ops[j]? = some o ∧ o.dst = some t := by
                simp only [dst] at hd
                cases hq : ops[j]? with
                | none => simp [hq] at hd
                | some o => exact ⟨o, rfl, by simpa [hq] using hd⟩
              refine touch2 j o (by omega) ho' ?_
              cases hap : Oper.apart ops ops[i] o with
              | false => rfl
              | true => exact absurd ht ((Oper.apart_spec hap).2.2 t hdo)
        obtain ⟨ai, hai, hbd, hst⟩ := hstep i ops[i] (by rw [List.getElem?_take, if_pos hmi']; simp [hiN])
        have hfr : ∀ t, lk (putAll ((ops.toList.take m).take i) (as.take i) fr) t = gD (lk fr) dst av (fun _ => true) i t := hT i (by omega)
        have hFi : FRel n ι' w' st a' (looksR ops ops[i] (putAll ((ops.toList.take m).take i) (as.take i) fr)) := by
          refine hF'.restr _ ?_
          intro t ht
          rw [hfr t, hlook t ht]
        -- behind it
        have next : ∀ v w'' ι'', AVRel ι'' w'' st v ai → Rel ι'' w'' st → Keeps all ι' w' st ι'' w'' st → wpAny P .any ops (PostX n n0 loose ι w st Q) fuel (listed.setIfInBounds i true) (a'.put ops[i].dst v) w'' := by
          intro v w'' ι'' hv hR'' hk''
          have hset : ∀ j, (listed.setIfInBounds i true).getD j false = if j = i then true else listed.getD j false := by
            intro j
            by_cases e : j = i
            · subst e
              simp [Array.getD, hls, hiN]
            · by_cases hj : j < listed.size
              · simp [Array.getD, hj, e, Array.getElem_setIfInBounds_ne, Ne.symm e]
              · simp [Array.getD, hj, e]
          have hset' : (fun j => (listed.setIfInBounds i true).getD j false) = fun j => if j = i then true else listed.getD j false := funext hset
          refine ih _ ι'' w'' _ (by simpa using hls) ?_ ?_ (fun j hj => by rw [hset, if_neg (by omega)]; exact hlow j hj) hR'' ?_ (hk.trans hk'')
          · intro j o hoj hj e he hb
            rw [hset] at hj ⊢
            by_cases e1 : e.on = i
            · rw [if_pos e1]
            · rw [if_neg e1]
              by_cases e2 : j = i
              · subst e2
                rw [ho] at hoj; cases hoj
                exact hpred e he hb
              · rw [if_neg e2] at hj
                exact hcl j o hoj hj e he hb
          · have := count_set (N := ops.size) (i := i) (D := fun j => listed.getD j false) hiN hnl
            simp only [hset]
            omega
          · rw [hset']
            have hdi : dst i = ops[i].dst := hdst i ops[i] (by simp [hiN])
            have hvi : av i = ai := hav i ai hai
            have hlast : ∀ t, dst i = some t → ∀ j, i < j → j < m → dst j = some t → (fun j => listed.getD j false) j = false := by
              intro t hdt j h1 h2' h3
              have h2 : j < ops.size := by omega
              have hoj : ops[j]? = some ops[j] := Array.getElem?_eq_getElem h2
              refine touch2 j ops[j] h1 hoj ?_
              cases hap : Oper.apart ops ops[i] ops[j] with
              | false => rfl
              | true =>
                have := (Oper.apart_spec hap).2.1 t (by rw [← hdi]; exact hdt)
                exact absurd (by rw [← hdst j ops[j] (by simp [h2])]; exact h3) this
            refine ⟨?_, ?_, fun t => ?_⟩
            · cases hq : ops[i].dst <;> simp [Act.put, hF'.defers]
            · cases hq : ops[i].dst <;> simp [Act.put, hF'.size]
            · rw [gD_put hmi' (hlast t)]
              by_cases hdt : dst i = some t
              · rw [if_pos hdt, hvi]
                rw [hdi] at hdt
                have hlt := hbd t hdt
                have e3 : (a'.put ops[i].dst v).tmps.getD t undef = v := by
                  rw [hdt]
                  simp [Act.put, hF'.size, hlt]
                rw [e3]; exact hv
              · rw [if_neg hdt]
                have e3 : (a'.put ops[i].dst v).tmps.getD t undef = a'.tmps.getD t undef := by
                  cases hq : ops[i].dst with
                  | none => rfl
                  | some d =>
                    have : d ≠ t := by rintro rfl; exact hdt (hdi.trans hq)
                    simp [Act.put, this]
                rw [e3]
                exact (hF'.slot t).mono' hk''
        unfold wpOp
        rw [ho]
        simp only
        rcases hst with ⟨hg, hy⟩ | ⟨hg, rfl⟩
        · have hw := guard_sound hg hFi
          rw [if_pos hw]
          exact .inl (hy ι' w' a' hR' hFi _ _ next)
        · have hw := guard_sound hg hFi
          rw [if_neg (by rw [hw]; simp)]
          exact next undef w' ι' undef_rel hR' .refl
  refine key ops.size _ ι { w with drawn := w.drawn + 1 } a (by simp) ?_ ?_ (fun j _ => by simp [Array.getD]) (hR.ext (Ext.drew w)) ?_ ?_
  · intro j o ho hj
    simp [Array.getD] at hj
  · refine Nat.le_trans (List.length_filter_le _ _) (by simp)
  · refine ⟨hF.defers, hF.size, fun t => ?_⟩
    have : gD (lk fr) dst av (fun j => (Array.replicate ops.size false).getD j false) m t = lk fr t := by
      rw [gD_past (i := 0) (by omega)]
      · rfl
      · intro j _ _ _
        simp [Array.getD]
    rw [this]
    exact (hF.slot t).mono' ((Ext.drew w).keeps ι st)
  · exact (Ext.drew w).keeps ι st
end

end Go.SX
