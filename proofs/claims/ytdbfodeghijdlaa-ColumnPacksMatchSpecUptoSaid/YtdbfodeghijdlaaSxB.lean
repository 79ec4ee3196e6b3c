/- SX: regions whose order is open up to a point, and whose last operations come one after the other. SX: regions that draw, with a serial end, as the printed proofs use them. SX: calls of functions that the model stands in for; loops round by round. SX: a part of the store left aside; a number that was dead taken for a new object. SX: regions whose order is open, with operations that make and change objects. SX: regions whose order is open, with operations that make and change objects: the walk in the order of the text serves every order. SX: regions that draw, with objects: the rules that printed proofs use. SX: regions that draw, with objects: the rules in the form in which they are printed. SX: functions that are handed objects of their callers: contracts out of bodies, and calls. SX: ranges over strings. SX: lists that are held in a box. SX: maps whose keys and elements are single plain cells. SX: the rules of printed proofs in short form; frames are computed, not printed. The program's data as Lean's, with their cells. SX: the way from a given row to a contract of pure values: reading the arguments, and closing the row. SX: readings of structs by the program's own fields. SX: readings of values and types. Types out of rows. Lists of fields out of rows. Lists of values, of numbers, of bytes out of rows. -/
import Derived.Laws.Externs
import Derived.Laws.RangeString
import Derived.OpenShut
import Derived.JoinedCond
import Derived.WideKeyArgs
import Derived.Test.YtdbfodeghijdlaaSxA
namespace Go.SX
open Go
set_option linter.unusedVariables false
set_option linter.unusedSimpArgs false
set_option linter.unnecessarySimpa false

section
variable {P : Program} {n n0 : Nat} {loose : List Nat} {Q : QT} {fr : Fr} {st : St} {c : Code} {ops : Array Oper}

def sufOk (ops : Array Oper) (m : Nat) : Bool := Nat.ble m ops.size && (List.range ops.size).all fun j => Nat.blt j m || (List.range j).all fun i => ((masks ops.toList []).getD j 0).testBit i

theorem serial {Q : Exit → Act → World → Prop} {m : Nat} (hfull : ∀ j, m ≤ j → j < ops.size → ∀ i, i < j → Behind ops i j) (hback : ∀ (j : Nat) o, ops[j]? = some o → ∀ e ∈ o.after, Region.binds .any e = true → e.on < j) :
  ∀ (fuel : Nat) (k : Nat) (listed : Array Bool) (a : Act) (w : World), m ≤ k → k ≤ ops.size → listed.size = ops.size → (∀ j, j < ops.size → (listed.getD j false = true ↔ j < k)) → ops.size ≤ k + fuel → wpList P ops Q (ops.toList.drop k) a w → wpAny P .any ops Q fuel listed a w := by
 intro fuel
 induction fuel with
 | zero =>
  intro k listed a w hmk hk hls hl hf hw
  have : k = ops.size := by omega
  subst this
  rw [List.drop_of_length_le (by simp)] at hw
  refine ⟨?_, hw⟩
  unfold Region.ready
  rw [List.filter_eq_nil_iff]
  intro j hj
  have hj' := List.mem_range.1 hj
  have h1 := (hl j hj').2 hj'
  have : listed.getD j true = true := by
   simp [Array.getD, hls, hj'] at h1 ⊢; exact h1
  simp [this]
 | succ fuel ih =>
  intro k listed a w hmk hk hls hl hf hw
  have hrd : ∀ i, i ∈ Region.ready .any ops listed ↔ (i = k ∧ k < ops.size) := by
   intro i
   unfold Region.ready
   rw [List.mem_filter, List.mem_range]
   constructor
   ·rintro ⟨hi, hr⟩
    have ho : ops[i]? = some ops[i] := Array.getElem?_eq_getElem hi
    rw [ho] at hr
    simp only [Option.map_some, Option.getD_some, Bool.and_eq_true] at hr
    have hnl : ¬ i < k := by
     intro h
     have h1 := (hl i hi).2 h
     have := hr.1
     simp [Array.getD, hls, hi] at h1 this
     rw [h1] at this; cases this
    have hpred : ∀ e ∈ ops[i].after, Region.binds .any e = true → listed.getD e.on false = true := by
     intro e he hb
     have := Array.all_eq_true_iff_forall_mem.1 hr.2 e he
     simpa [hb] using this
    refine ⟨?_, by omega⟩
    apply Classical.byContradiction
    intro hne
    have hki : k < i := by omega
    -- k is behind no listed one: a way from k to i begins with an edge to something listed
    have key : ∀ p q, Behind ops p q → q < k → p < k := by
     intro p q hb
     induction hb with
     | one ho' he hb h => intro hq; subst h; exact Nat.lt_trans (hback _ _ ho' _ he hb) hq
     | more ho' he hb h ihb => intro hq; exact ihb (Nat.lt_trans (hback _ _ ho' _ he hb) hq)
    have := hfull i (by omega) hi k hki
    cases this with
    | one ho' he hb h =>
     rw [ho] at ho'; cases ho'
     have h2 := hpred _ he hb
     rw [h] at h2
     exact absurd ((hl k (by omega)).1 h2) (Nat.lt_irrefl k)
    | more ho' he hb h =>
     rw [ho] at ho'; cases ho'
     have h2 := hpred _ he hb
     have h3 := hback _ _ ho _ he hb
     have := key _ _ h ((hl _ (by omega)).1 h2)
     omega
   ·rintro ⟨rfl, hlt⟩
    refine ⟨hlt, ?_⟩
    have ho : ops[i]? = some ops[i] := Array.getElem?_eq_getElem hlt
    have h1 : listed.getD i true = false := by
     have : ¬ listed.getD i false = true := fun h => Nat.lt_irrefl _ ((hl i hlt).1 h)
     simp [Array.getD, hls, hlt] at this ⊢
     exact this
    rw [h1, ho]
    simp only [Bool.not_false, Bool.true_and, Option.map_some, Option.getD_some]
    rw [Array.all_eq_true_iff_forall_mem]
    intro e he
    cases hb : Region.binds .any e with
    | false => rfl
    | true =>
     have := hback _ _ ho e he hb
     rw [(hl e.on (by omega)).2 this]; simp
  refine ⟨fun hready => ?_, fun i hi => ?_⟩
  ·have : k = ops.size := by
    apply Classical.byContradiction
    intro h
    have := (hrd k).2 ⟨rfl, by omega⟩
    rw [hready] at this
    cases this
   subst this
   rw [List.drop_of_length_le (by simp)] at hw
   exact hw
  ·obtain ⟨rfl, hlt⟩ := (hrd i).1 hi
   have ho : ops[i]? = some ops[i] := Array.getElem?_eq_getElem hlt
   have hd : ops.toList.drop i = ops[i] :: ops.toList.drop (i + 1) := by
    have : i < ops.toList.length := by simpa using hlt
    rw [List.drop_eq_getElem_cons this]; simp
   rw [hd] at hw
   have next : ∀ a' w', wpList P ops Q (ops.toList.drop (i + 1)) a' w' → wpAny P .any ops Q fuel (listed.setIfInBounds i true) a' w' := by
    intro a' w' h'
    refine ih (i + 1) _ a' w' (by omega) (by omega) (by simpa using hls) (fun j hj => ?_) (by omega) h'
    by_cases e : j = i
    ·subst e; simp [Array.getD, hls, hj]
    ·have : (listed.setIfInBounds i true).getD j false = listed.getD j false := by
      simp [Array.getD, hls, hj, Array.getElem_setIfInBounds_ne, Ne.symm e]
     rw [this, hl j hj]; omega
   refine wpOp_mono next ?_
   unfold wpOp
   rw [ho]
   exact hw

theorem count_ge {m : Nat} : ∀ N, m ≤ N → ((List.range N).filter fun j => !decide (j < m)).length = N - m
 | 0, h => by simp
 | N + 1, h => by
  rw [List.range_succ, List.filter_append, List.length_append]
  by_cases e : m = N + 1
  ·subst e
   have : ((List.range N).filter fun j => !decide (j < N + 1)) = [] := by
    rw [List.filter_eq_nil_iff]; intro j hj; have := List.mem_range.1 hj; simp; omega
   rw [this]; simp
  ·rw [count_ge N (by omega)]
   have : ¬ N < m := by omega
   simp [this]; omega

theorem XW.drawS {id : Nat} {asv : List AV} (m : Nat) (he : c = .region id ops true) (hm : P.follows .mixedOrders = true) (hok : (drawOk ops && sufOk ops m) = true)
  (hs : StepsOk P n st ops (ops.toList.take m) asv fr) (hQ : XO P n n0 loose ops (ops.toList.drop m) Q (putAll (ops.toList.take m) asv fr) st) : XW P n n0 loose c Q fr st := by
 subst he
 simp only [Bool.and_eq_true] at hok
 obtain ⟨hok, hsuf⟩ := hok
 unfold sufOk at hsuf
 simp only [Bool.and_eq_true] at hsuf
 obtain ⟨hmN0, hsuf⟩ := hsuf
 have hmN := Nat.le_of_ble_eq_true hmN0
 have hfull0 : ∀ j, m ≤ j → j < ops.size → ∀ i, i < j → ((masks ops.toList []).getD j 0).testBit i = true := by
  intro j h1 h2 i h3
  have := List.all_eq_true.1 hsuf j (List.mem_range.2 h2)
  rw [Bool.or_eq_true] at this
  rcases this with h | h
  ·rw [Nat.blt_eq] at h; omega
  ·exact List.all_eq_true.1 h i (List.mem_range.2 h3)
 obtain ⟨hlen, hstep⟩ := stepsOk_get hs
 -- the order
 have hms := masks_sound (ops := ops) (l := ops.toList) (ms := []) (pre := []) (by simp) rfl (fun i j h => by simp at h)
 have hord := ordOk_get (ops := ops) (ms := masks ops.toList []) (l := ops.toList) (pre := []) (j := 0) rfl hok
 let dst : Nat → Option Nat := fun i => (ops[i]?).bind (·.dst)
 let av : Nat → AV := fun i => asv.getD i .j
 have hdst : ∀ i o, ops.toList[i]? = some o → dst i = o.dst := by
  intro i o h
  simp only [Array.getElem?_toList] at h
  simp [dst, h]
 have hav : ∀ i a, asv[i]? = some a → av i = a := by
  intro i a h
  simp [av, List.getD, h]
 -- the frame behind the first i operations of the text
 have hfull : ∀ j, m ≤ j → j < ops.size → ∀ i, i < j → Behind ops i j := fun j h1 h2 i h3 => hms i j (by simpa using hfull0 j h1 h2 i h3)
 have hback : ∀ (j : Nat) o, ops[j]? = some o → ∀ e ∈ o.after, Region.binds .any e = true → e.on < j := fun j o ho e he hb => by
  have := (hord j o (by simpa using ho)).1 e he hb
  omega
 have hT : ∀ i, i ≤ m → ∀ t, lk (putAll ((ops.toList.take m).take i) (asv.take i) fr) t = gD (lk fr) dst av (fun _ => true) i t := by
  intro i hi t
  have := lk_putAll ((ops.toList.take m).take i) (asv.take i) fr t (lk fr) 0 dst av (by simp only [List.length_take] at hlen ⊢; omega)
   (fun k o hk => by
    rw [List.getElem?_take] at hk
    split at hk
    ·rw [List.getElem?_take] at hk
     split at hk
     ·simpa using hdst k o hk
     ·cases hk
    ·cases hk)
   (fun k a hk => by
    rw [List.getElem?_take] at hk
    split at hk
    ·simpa using hav k a hk
    ·cases hk) rfl
  have hl : ((ops.toList.take m).take i).length = i := by simp; omega
  rw [hl, Nat.zero_add] at this
  exact this
 intro ι w a hR hF
 refine wp_region_any hm ?_
 have atM : ∀ (listed : Array Bool) (ι' : IM) (w' : World) (a' : Act), (∀ j, j < m → listed.getD j false = true) → Rel ι' w' st → FRelF n ι' w' st a' (gD (lk fr) dst av (fun j => listed.getD j false) m) → Keeps all ι w st ι' w' st →
   wpList P ops (PostX n n0 loose ι w st Q) (ops.toList.drop m) a' w' := by
  intro listed ι' w' a' hall hR' hF' hk
  have hFm : FRel n ι' w' st a' (putAll (ops.toList.take m) asv fr) := by
   refine ⟨hF'.defers, hF'.size, fun t => ?_⟩
   have h1 := hT m (Nat.le_refl _) t
   rw [List.take_of_length_le (l := ops.toList.take m) (by simp; omega), List.take_of_length_le (l := asv) (by rw [← hlen]; simp; omega)] at h1
   rw [h1, gD_same (E := fun j => listed.getD j false) (fun j hj _ => (hall j hj).symm)]
   exact hF'.slot t
  exact wpList_post (fun e a w h => h.trans (hk.weaken (fun _ _ => trivial))) (hQ ι' w' a' hR' hFm)
 have fin : ∀ {listed : Array Bool} (ι' : IM) (w' : World) (a' : Act), (∀ j, j < m → listed.getD j false = true) → Rel ι' w' st → FRelF n ι' w' st a' (gD (lk fr) dst av (fun j => listed.getD j false) m) → Keeps all ι w st ι' w' st →
   ops.toList.drop m = [] → PostX n n0 loose ι w st Q .normal a' w' := by
  intro listed ι' w' a' hall hR' hF' hk he
  have := atM listed ι' w' a' hall hR' hF' hk
  rw [he] at this
  exact this
 -- whatever order: the invariant
 have key : ∀ (fuel : Nat) (listed : Array Bool) (ι' : IM) (w' : World) (a' : Act), listed.size = ops.size →
   (∀ j o, ops[j]? = some o → listed.getD j false = true → ∀ e ∈ o.after, Region.binds .any e = true → listed.getD e.on false = true) →
   ((List.range ops.size).filter fun j => !listed.getD j false).length ≤ fuel →
   (∀ j, m ≤ j → listed.getD j false = false) → Rel ι' w' st → FRelF n ι' w' st a' (gD (lk fr) dst av (fun j => listed.getD j false) m) → Keeps all ι w st ι' w' st →
   wpAny P .any ops (PostX n n0 loose ι w st Q) fuel listed a' w' := by
  intro fuel
  induction fuel with
  | zero =>
   intro listed ι' w' a' hls hcl hcnt hlow hR' hF' hk
   have hall : ∀ j, j < ops.size → listed.getD j false = true := by
    intro j hj
    cases hq : listed.getD j false with
    | true => rfl
    | false =>
     have : j ∈ (List.range ops.size).filter fun j => !listed.getD j false := by
      rw [List.mem_filter]; exact ⟨List.mem_range.2 hj, by simp only [hq]; rfl⟩
     have := List.length_pos_of_mem this
     omega
   have hready : Region.ready .any ops listed = [] := by
    unfold Region.ready
    rw [List.filter_eq_nil_iff]
    intro j hj
    have hj' := List.mem_range.1 hj
    have : listed.getD j true = true := by
     have h1 := hall j hj'
     simp [Array.getD, hls, hj'] at h1 ⊢
     exact h1
    simp only [this]
    simp
   refine ⟨hready, ?_⟩
   have hmE : m = ops.size := by
    apply Classical.byContradiction
    intro h
    have h1 := hall m (by omega)
    rw [hlow m (Nat.le_refl _)] at h1
    cases h1
   exact fin ι' w' a' (fun j hj => hall j (by omega)) hR' hF' hk (by rw [hmE]; simp)
  | succ fuel ih =>
   intro listed ι' w' a' hls hcl hcnt hlow hR' hF' hk
   refine ⟨fun hready => ?_, fun i hi => ?_⟩
   ·
    have hall : ∀ j, j < ops.size → listed.getD j false = true := by
     intro j
     induction j using Nat.strongRecOn with
     | _ j ihj =>
      intro hj
      cases hq : listed.getD j false with
      | true => rfl
      | false =>
       exfalso
       have hmem : j ∈ Region.ready .any ops listed := by
        unfold Region.ready
        rw [List.mem_filter]
        refine ⟨List.mem_range.2 hj, ?_⟩
        have ho : ops[j]? = some ops[j] := Array.getElem?_eq_getElem hj
        have h1 : listed.getD j true = false := by
         simp [Array.getD, hls, hj] at hq ⊢
         exact hq
        rw [h1, ho]
        simp only [Bool.not_false, Bool.true_and, Option.map_some, Option.getD_some]
        rw [Array.all_eq_true_iff_forall_mem]
        intro e he
        cases hb : Region.binds .any e with
        | false => rfl
        | true =>
         have hlt : e.on < j := by
          have := (hord j ops[j] (by simp [hj])).1 e he hb
          omega
         rw [ihj e.on hlt (by omega)]
         simp
       rw [hready] at hmem
       cases hmem
    have hmE : m = ops.size := by
     apply Classical.byContradiction
     intro h
     have h1 := hall m (by omega)
     rw [hlow m (Nat.le_refl _)] at h1
     cases h1
    exact fin ι' w' a' (fun j hj => hall j (by omega)) hR' hF' hk (by rw [hmE]; simp)
   ·
    have hi0 := hi
    unfold Region.ready at hi
    rw [List.mem_filter] at hi
    obtain ⟨hi1, hi2⟩ := hi
    have hiN := List.mem_range.1 hi1
    have ho : ops[i]? = some ops[i] := Array.getElem?_eq_getElem hiN
    rw [ho] at hi2
    simp only [Option.map_some, Option.getD_some, Bool.and_eq_true] at hi2
    have hnl : listed.getD i false = false := by
     have := hi2.1
     simp [Array.getD, hls, hiN] at this ⊢
     exact this
    have hpred : ∀ e ∈ ops[i].after, Region.binds .any e = true → listed.getD e.on false = true := by
     intro e he hb
     have := Array.all_eq_true_iff_forall_mem.1 hi2.2 e he
     simpa [hb] using this
    -- what comes ahead of i is listed; what comes behind it is not
    have closed : ∀ p q, Behind ops p q → listed.getD q false = true → listed.getD p false = true := by
     intro p q hbe
     induction hbe with
     | one ho' he hb h => intro hq; subst h; exact hcl _ _ ho' hq _ he hb
     | more ho' he hb h ihb => intro hq; exact ihb (hcl _ _ ho' hq _ he hb)
    have ahead : ∀ p, Behind ops p i → listed.getD p false = true := by
     intro p hbe
     cases hbe with
     | one ho' he hb h => rw [ho] at ho'; cases ho'; subst h; exact hpred _ he hb
     | more ho' he hb h => rw [ho] at ho'; cases ho'; exact closed p _ h (hpred _ he hb)
    have late : ∀ q, Behind ops i q → listed.getD q false = false := by
     intro q hbe
     cases hq : listed.getD q false with
     | false => rfl
     | true => rw [closed i q hbe hq] at hnl; cases hnl
    by_cases hmi : m ≤ i
    ·
     have hbel : ∀ j, j < i → listed.getD j false = true := fun j hj => ahead j (hfull i hmi hiN j hj)
     have hallm : ∀ j, j < m → listed.getD j false = true := fun j hj => hbel j (by omega)
     have him : i = m := by
      apply Classical.byContradiction
      intro h
      have h1 := hbel m (by omega)
      rw [hlow m (Nat.le_refl _)] at h1
      cases h1
     have hlm : ∀ j, j < ops.size → (listed.getD j false = true ↔ j < m) := by
      intro j hj
      refine ⟨fun h => ?_, fun h => hallm j h⟩
      apply Classical.byContradiction
      intro h2
      rw [hlow j (by omega)] at h
      cases h
     have hcount : ops.size ≤ m + (fuel + 1) := by
      have e1 : ((List.range ops.size).filter fun j => !listed.getD j false) = (List.range ops.size).filter fun j => !decide (j < m) := by
       apply List.filter_congr
       intro j hj
       have := hlm j (List.mem_range.1 hj)
       by_cases h : j < m
       ·simp only [this.2 h, h, decide_true]
       ·have h3 : listed.getD j false = false := hlow j (by omega)
        simp only [h3, h, decide_false]
      rw [e1, count_ge _ hmN] at hcnt
      omega
     have hser := serial (P := P) (Q := PostX n n0 loose ι w st Q) hfull hback (fuel + 1) m listed a' w' (Nat.le_refl _) hmN hls hlm hcount (atM listed ι' w' a' hallm hR' hF' hk)
     exact hser.2 i hi0
    have hmi' : i < m := by omega
    have touch1 : ∀ j o, j < i → ops[j]? = some o → Oper.apart ops o ops[i] = false → listed.getD j false = true := by
     intro j o hj hoj hap
     have := (hord i ops[i] (by simp [hiN])).2 j o (by omega) (by simpa using hoj)
     rcases this with h1 | h1
     ·rw [h1] at hap; cases hap
     ·exact ahead j (hms j i (by simpa using h1))
    have touch2 : ∀ j o, i < j → ops[j]? = some o → Oper.apart ops ops[i] o = false → listed.getD j false = false := by
     intro j o hj hoj hap
     have hjN : j < ops.size := (Array.getElem?_eq_some_iff.1 hoj).1
     have := (hord j o (by simpa using hoj)).2 i ops[i] (by omega) (by simp [hiN])
     rcases this with h1 | h1
     ·rw [h1] at hap; cases hap
     ·exact late j (hms i j (by simpa using h1))
    -- the slots that i looks at
    have hlook : ∀ t ∈ Oper.looksAt ops ops[i], gD (lk fr) dst av (fun _ => true) i t = gD (lk fr) dst av (fun j => listed.getD j false) m t := by
     intro t ht
     rw [gD_past (i := i) (k := m) (D := fun j => listed.getD j false) (by omega)]
     ·apply gD_same
      intro j hj hd
      symm
      obtain ⟨o, ho', hdo⟩ : ∃ o, ops[j]? = some o ∧ o.dst = some t := by
       simp only [dst] at hd
       cases hq : ops[j]? with
       | none => simp [hq] at hd
       | some o => exact ⟨o, rfl, by simpa [hq] using hd⟩
      refine touch1 j o hj ho' ?_
      cases hap : Oper.apart ops o ops[i] with
      | false => rfl
      | true => exact absurd ht ((Oper.apart_spec hap).1 t hdo)
     ·intro j h1 h2 hd
      by_cases hji : j = i
      ·subst hji; exact hnl
      ·obtain ⟨o, ho', hdo⟩ : ∃ o, ops[j]? = some o ∧ o.dst = some t := by
        simp only [dst] at hd
        cases hq : ops[j]? with
        | none => simp [hq] at hd
        | some o => exact ⟨o, rfl, by simpa [hq] using hd⟩
       refine touch2 j o (by omega) ho' ?_
       cases hap : Oper.apart ops ops[i] o with
       | false => rfl
       | true => exact absurd ht ((Oper.apart_spec hap).2.2 t hdo)
    obtain ⟨ai, hai, hbd, hst⟩ := hstep i ops[i] (by rw [List.getElem?_take, if_pos hmi']; simp [hiN])
    have hfr : ∀ t, lk (putAll ((ops.toList.take m).take i) (asv.take i) fr) t = gD (lk fr) dst av (fun _ => true) i t := hT i (by omega)
    have hFi : FRel n ι' w' st a' (looksR ops ops[i] (putAll ((ops.toList.take m).take i) (asv.take i) fr)) := by
     refine hF'.restr _ ?_
     intro t ht
     rw [hfr t, hlook t ht]
    -- behind it
    have next : ∀ v w'' ι'', AVRel ι'' w'' st v ai → Rel ι'' w'' st → Keeps all ι' w' st ι'' w'' st → wpAny P .any ops (PostX n n0 loose ι w st Q) fuel (listed.setIfInBounds i true) (a'.put ops[i].dst v) w'' := by
     intro v w'' ι'' hv hR'' hk''
     have hset : ∀ j, (listed.setIfInBounds i true).getD j false = if j = i then true else listed.getD j false := by
      intro j
      by_cases e : j = i
      ·subst e
       simp [Array.getD, hls, hiN]
      ·by_cases hj : j < listed.size
       ·simp [Array.getD, hj, e, Array.getElem_setIfInBounds_ne, Ne.symm e]
       ·simp [Array.getD, hj, e]
     have hset' : (fun j => (listed.setIfInBounds i true).getD j false) = fun j => if j = i then true else listed.getD j false := funext hset
     refine ih _ ι'' w'' _ (by simpa using hls) ?_ ?_ (fun j hj => by rw [hset, if_neg (by omega)]; exact hlow j hj) hR'' ?_ (hk.trans hk'')
     ·intro j o hoj hj e he hb
      rw [hset] at hj ⊢
      by_cases e1 : e.on = i
      ·rw [if_pos e1]
      ·rw [if_neg e1]
       by_cases e2 : j = i
       ·subst e2
        rw [ho] at hoj; cases hoj
        exact hpred e he hb
       ·rw [if_neg e2] at hj
        exact hcl j o hoj hj e he hb
     ·have := count_set (N := ops.size) (i := i) (D := fun j => listed.getD j false) hiN hnl
      simp only [hset]
      omega
     ·rw [hset']
      have hdi : dst i = ops[i].dst := hdst i ops[i] (by simp [hiN])
      have hvi : av i = ai := hav i ai hai
      have hlast : ∀ t, dst i = some t → ∀ j, i < j → j < m → dst j = some t → (fun j => listed.getD j false) j = false := by
       intro t hdt j h1 h2' h3
       have h2 : j < ops.size := by omega
       have hoj : ops[j]? = some ops[j] := Array.getElem?_eq_getElem h2
       refine touch2 j ops[j] h1 hoj ?_
       cases hap : Oper.apart ops ops[i] ops[j] with
       | false => rfl
       | true =>
        have := (Oper.apart_spec hap).2.1 t (by rw [← hdi]; exact hdt)
        exact absurd (by rw [← hdst j ops[j] (by simp [h2])]; exact h3) this
      refine ⟨?_, ?_, fun t => ?_⟩
      ·cases hq : ops[i].dst <;> simp [Act.put, hF'.defers]
      ·cases hq : ops[i].dst <;> simp [Act.put, hF'.size]
      ·rw [gD_put hmi' (hlast t)]
       by_cases hdt : dst i = some t
       ·rw [if_pos hdt, hvi]
        rw [hdi] at hdt
        have hlt := hbd t hdt
        have e3 : (a'.put ops[i].dst v).tmps.getD t undef = v := by
         rw [hdt]
         simp [Act.put, hF'.size, hlt]
        rw [e3]; exact hv
       ·rw [if_neg hdt]
        have e3 : (a'.put ops[i].dst v).tmps.getD t undef = a'.tmps.getD t undef := by
         cases hq : ops[i].dst with
         | none => rfl
         | some d =>
          have : d ≠ t := by rintro rfl; exact hdt (hdi.trans hq)
          simp [Act.put, this]
        rw [e3]
        exact (hF'.slot t).mono' hk''
    unfold wpOp
    rw [ho]
    simp only
    rcases hst with ⟨hg, hy⟩ | ⟨hg, rfl⟩
    ·have hw := guard_sound hg hFi
     rw [if_pos hw]
     exact .inl (hy ι' w' a' hR' hFi _ _ next)
    ·have hw := guard_sound hg hFi
     rw [if_neg (by rw [hw]; simp)]
     exact next undef w' ι' undef_rel hR' .refl
 refine key ops.size _ ι { w with drawn := w.drawn + 1 } a (by simp) ?_ ?_ (fun j _ => by simp [Array.getD]) (hR.ext (Ext.drew w)) ?_ ?_
 ·intro j o ho hj
  simp [Array.getD] at hj
 ·refine Nat.le_trans (List.length_filter_le _ _) (by simp)
 ·refine ⟨hF.defers, hF.size, fun t => ?_⟩
  have : gD (lk fr) dst av (fun j => (Array.replicate ops.size false).getD j false) m t = lk fr t := by
   rw [gD_past (i := 0) (by omega)]
   ·rfl
   ·intro j _ _ _
    simp [Array.getD]
  rw [this]
  exact (hF.slot t).mono' ((Ext.drew w).keeps ι st)
 ·exact (Ext.drew w).keeps ι st
end

end Go.SX
namespace Go.SX
open Go
set_option linter.unusedVariables false

section
variable {P : Program} {n n0 : Nat} {loose an : List Nat} {Q : QT} {fr : Fr} {st : St} {c : Code} {ops : Array Oper}

theorem XW.drwS (m : Nat) (fr' : Fr) (he : regKind c = some true) (hm : ((drawOk (regOps c) && sufOk (regOps c) m) && P.follows .mixedOrders) = true) (hs : DX P n st (regOps c) ((regOps c).toList.take m) fr fr')
  (hk : XO P n n0 loose (regOps c) ((regOps c).toList.drop m) Q fr' st) : XW P n n0 loose c Q fr st := by
 obtain ⟨asv, hs1, hs2⟩ := hs
 cases c <;> simp only [regKind] at he <;> try (cases he; done)
 simp only [Option.some.injEq] at he
 subst he
 rw [Bool.and_eq_true] at hm
 exact XW.drawS m rfl hm.2 hm.1 hs1 (hs2 ▸ hk)

end
end Go.SX
namespace Go.SX
open Go
set_option linter.unusedVariables false
set_option linter.unusedSimpArgs false

section
variable {P : Program} {n n0 : Nat} {loose an : List Nat} {Q : QT} {fr : Fr} {st : St} {c : Code} {ops : Array Oper}

theorem XR.one {k : Nat} (h : XW P n n0 loose c (thenQ (XR P n n0 loose c Q k) Q) fr st) : XR P n n0 loose c Q (k + 1) fr st := h

def scalars : List AV → Option (List Value)
 | [] => some []
 | .one (.pv (.s v)) :: l => match scalars l with
  | some r => some (v :: r)
  | none => none
 | _ => none

def extAt (P : Program) (o : Oper) (fr : Fr) : Option (Nat × List Value) :=
 match o.op with
 | .call ⟨.value f, args, _⟩ =>
  match rv fr f with
  | .one (.pv (.fn g [])) => match scalars (args.toList.map (rv fr)) with
   | some vs => some (g, vs)
   | none => none
  | _ => none
 | _ => none

def ExtC (P : Program) (g : Nat) (vs : List Value) (v : Value) : Prop := ∀ w : World, (callFunc g vs.toArray).run P w = .ok (.value v) w

theorem scalars_sound {ι : IM} {w : World} : ∀ {l : List AV} {vs us : List Value}, scalars l = some vs → us.length = l.length → (∀ (j : Nat) v a, us[j]? = some v → l[j]? = some a → AVRel ι w st v a) → us = vs
 | [], vs, us, h, hl, _ => by
  simp [scalars] at h
  subst h
  exact List.length_eq_zero_iff.1 (by simpa using hl)
 | a :: l, vs, [], h, hl, hr => by simp at hl
 | a :: l, vs, u :: us, h, hl, hr => by
   skip
   cases a <;> try (simp [scalars] at h; done)
   rename_i cv
   cases cv <;> try (simp [scalars] at h; done)
   rename_i p
   cases p <;> try (simp [scalars] at h; done)
   rename_i x
   simp only [scalars] at h
   split at h
   ·rename_i r hq
    simp only [Option.some.injEq] at h
    subst h
    have h0 := hr 0 u _ rfl rfl
    have e1 : u = x := scalar_of h0
    have e2 := scalars_sound hq (us := us) (by simpa using hl) (fun j v a h1 h2 => hr (j + 1) v a (by simpa using h1) (by simpa using h2))
    rw [e1, e2]
   ·cases h

theorem ext_sound {o : Oper} {g : Nat} {vs : List Value} {v : Value} (h : extAt P o fr = some (g, vs)) (hx : ExtC P g vs v) {ι : IM} {w : World} {a : Act} (hF : FRel n ι w st a fr) : (execOp a.eval o).run P w = .ok (.value v) w := by
 unfold extAt at h
 cases hop : o.op <;> simp only [hop] at h <;> try (cases h; done)
 rename_i cl
 obtain ⟨callee, args, tys⟩ := cl
 cases callee <;> simp only at h <;> try (cases h; done)
 rename_i f
 have hf := rv_rel hF f
 split at h
 ·rename_i g' hq
  split at h
  ·rename_i us hs
   simp only [Option.some.injEq, Prod.mk.injEq] at h
   obtain ⟨rfl, rfl⟩ := h
   rw [hq] at hf
   have hp := pure_of (cv_of hf)
   have e := scalars_sound (st := st) (ι := ι) (w := w) hs (us := args.toList.map a.eval) (by simp) (fun j v av h1 h2 => by
    rw [List.getElem?_map, Option.map_eq_some_iff] at h1 h2
    obtain ⟨x, hx, rfl⟩ := h1
    obtain ⟨y, hy, rfl⟩ := h2
    rw [hx] at hy; cases hy
    exact rv_rel hF x)
   generalize hu : a.eval f = u at *
   cases hp with
   | fn _ _ ws hl hv =>
    have : ws = [] := List.length_eq_zero_iff.1 (by simpa using hl)
    subst this
    have e3 : args.map a.eval ++ (#[] : Array Value) = us.toArray := by
     apply Array.ext'
     simp [← e]
    have e4 := hx w
    simp [execOp, hop, resolve, hu, Deferred.ofValue, invoke]
    rw [← e3, Array.append_empty] at e4
    exact e4
  ·cases h
 ·cases h

def extHd (P : Program) (n : Nat) (ops : Array Oper) (l : List Oper) (fr : Fr) : Option (Nat × List Value) :=
 match l with
 | o :: _ => match guardOk ops o fr with
  | some true => extAt P o fr
  | _ => none
 | [] => none

def avT (us : List Value) : AV := .tp (us.map fun u => .one (.pv (.s u)))

theorem avT_rel {ι : IM} {w : World} {us : List Value} (h : us.all plain = true) : AVRel ι w st (.tuple us.toArray) (avT us) := by
 refine .tp us _ (by simp) (fun j v a h1 h2 => ?_)
 rw [List.getElem?_map, Option.map_eq_some_iff] at h2
 obtain ⟨u, hu, rfl⟩ := h2
 rw [hu] at h1
 cases h1
 exact .one _ _ (.pv _ _ (.s _ (List.all_eq_true.1 h _ (List.mem_of_getElem? hu))))

theorem XO.ext {l : List Oper} (g : Nat) (vs us : List Value) (fr' : Fr) (hc : extHd P n ops l fr = some (g, vs)) (h : ExtC P g vs (.tuple us.toArray)) (hp : us.all plain = true) (hput : putHd n l (avT us) fr = some fr')
  (hk : XO P n n0 loose ops (l.drop 1) Q fr' st) : XO P n n0 loose ops l Q fr st := by
 cases l with
 | nil => simp [extHd] at hc
 | cons o rest =>
  simp only [extHd] at hc
  split at hc
  ·rename_i hg
   intro ι w a hR hF
   have hrun := ext_sound hc h hF (w := w)
   have hw := guard_sound hg hF
   refine wpList_step fun K hK => ?_
   rw [if_pos hw]
   simp only [Oper.wp, hrun, Oper.upon]
   exact hK _ _ (hk ι w _ hR (putF_rel hput hF (avT_rel hp)))
  ·simp at hc

def extHdD (P : Program) (n : Nat) (ops : Array Oper) (l : List Oper) (fr : Fr) : Option (Nat × List Value) :=
 match l with
 | o :: _ => match guardOk ops o (looksR ops o fr) with
  | some true => bif (match o.dst with | some d => Nat.ble (d + 1) n | none => true) then extAt P o (looksR ops o fr) else none
  | _ => none
 | [] => none

theorem DX.ext {l : List Oper} {fr2 : Fr} (g : Nat) (vs us : List Value) (fr1 : Fr) (hc : extHdD P n ops l fr = some (g, vs)) (h : ExtC P g vs (.tuple us.toArray)) (hp : us.all plain = true) (hput : putHdD l (avT us) fr = fr1)
  (hk : DX P n st ops (l.drop 1) fr1 fr2) : DX P n st ops l fr fr2 := by
 obtain ⟨as2, hk⟩ := hk
 cases l with
 | nil => simp [extHdD] at hc
 | cons o rest =>
  simp only [extHdD] at hc
  split at hc
  ·rename_i hg
   cases hb : (match o.dst with | some d => Nat.ble (d + 1) n | none => true) with
   | false => simp [hb] at hc
   | true =>
    simp only [hb, cond_true] at hc
    simp only [putHdD] at hput
    subst hput
    obtain ⟨k1, k2⟩ := hk
    simp only [List.drop_succ_cons, List.drop_zero] at k1 k2
    refine ⟨avT us :: as2, ⟨⟨fun d hd => ?_, .inl ⟨hg, ?_⟩⟩, k1⟩, k2⟩
    ·rw [hd] at hb
     exact Nat.le_of_ble_eq_true hb
    ·intro ι w a hR hF K Q hK
     have hrun := ext_sound hc h hF (w := w)
     simp only [Oper.wp, hrun, Oper.upon]
     exact hK _ w ι (avT_rel hp) hR .refl
  ·simp at hc

/-! ### math/bits -/

end
end Go.SX
namespace Go.SX
open Go
set_option linter.unusedVariables false
set_option linter.unusedSimpArgs false
set_option linter.unnecessarySimpa false

theorem rnC_id : ∀ c : CV, rnC (fun i => i) c = c
 | .pv _ => rfl
 | .pt _ _ _ _ => rfl
 | .mp _ => rfl
 | .sl _ _ _ _ => rfl
 | .fn f caps => by simp only [rnC]; rw [go caps]
 where
 go : ∀ l : List CV, rnC.go (fun i => i) l = l
  | [] => rfl
  | c :: l => by simp only [rnC.go, rnC_id c, go l]

theorem VRel.chg {ι ι' : IM} {w : World} {st st' : St} (hm : ∀ b, Mut ι' st' b → Mut ι st b) (hl : st.length ≤ st'.length) (hi : ∀ i, ι' i = ι i) {v : Value} {c : CV} (h : VRel ι w st v c) : VRel ι' w st' v c := by
 have := h.ren (ρ := fun i => i) (ι' := ι') (st' := st') hm (fun i h => ⟨by omega, hi i⟩)
 rwa [rnC_id] at this

theorem LRel.chg {ι ι' : IM} {w : World} {st st' : St} (hm : ∀ b, Mut ι' st' b → Mut ι st b) (hl : st.length ≤ st'.length) (hi : ∀ i, ι' i = ι i) {vs : List Value} {cs : List CV} (h : LRel ι w st vs cs) : LRel ι' w st' vs cs :=
 ⟨h.1, fun j v c h1 h2 => (h.2 j v c h1 h2).chg hm hl hi⟩

theorem AVRel.chg {ι ι' : IM} {w : World} {st st' : St} (hm : ∀ b, Mut ι' st' b → Mut ι st b) (hl : st.length ≤ st'.length) (hi : ∀ i, ι' i = ι i) {v : Value} {a : AV} (h : AVRel ι w st v a) : AVRel ι' w st' v a := by
 induction h with
 | j v => exact .j v
 | one v c h => exact .one _ _ (h.chg hm hl hi)
 | ag vs cs h => exact .ag _ _ (h.chg hm hl hi)
 | tp vs asv hlen h ih => exact .tp vs _ hlen (fun j v a h1 h2 => ih j v a h1 h2)

theorem ObjRel.chg {ι ι' : IM} {w : World} {st st' : St} (hm : ∀ b, Mut ι' st' b → Mut ι st b) (hl : st.length ≤ st'.length) (hi : ∀ i, ι' i = ι i) {id : Nat} {o : Body} (h : ObjRel ι w st id o) : ObjRel ι' w st' id o := by
 cases o with
 | dead => trivial
 | box cells =>
  obtain ⟨b, us, ty, e3, e4, e5⟩ := h
  exact ⟨b, us, ty, (hi id).trans e3, e4, e5.chg hm hl hi⟩
 | raw ob =>
  obtain ⟨b, e3, e4⟩ := h
  exact ⟨b, (hi id).trans e3, e4⟩
 | arr sz els =>
  rcases h with ⟨e3, e4⟩ | ⟨b, c, ty, e3, e4, e5, e6, e7⟩
  ·exact .inl ⟨(hi id).trans e3, e4⟩
  ·refine .inr ⟨b, c, ty, (hi id).trans e3, e4, e5, e6, fun i' e j p x1 x2 => ?_⟩
   obtain ⟨v, y1, y2⟩ := e7 i' e j p x1 x2
   exact ⟨v, y1, y2.mono (Nat.le_refl _) (fun b _ hb => ⟨rfl, fun h' => hb (hm b h')⟩)⟩

def maskF (T : Nat → Bool) : Nat → St → St
 | _, [] => []
 | i, b :: l => (bif T i then b else .dead) :: maskF T (i + 1) l

theorem maskF_get {T : Nat → Bool} : ∀ (st : St) (i j : Nat), (maskF T i st)[j]? = (st[j]?).map fun b => bif T (i + j) then b else .dead
 | [], i, j => by simp [maskF]
 | b :: l, i, j => by
  cases j with
  | zero => simp [maskF]
  | succ j =>
   simp only [maskF, List.getElem?_cons_succ]
   rw [maskF_get l (i + 1) j, show i + 1 + j = i + (j + 1) by omega]

theorem maskF_len {T : Nat → Bool} : ∀ (st : St) (i : Nat), (maskF T i st).length = st.length
 | [], _ => rfl
 | b :: l, i => by simp [maskF, maskF_len l]

def ovl (T : Nat → Bool) : Nat → St → St → St
 | i, b :: l, m :: ms => (bif T i then m else b) :: ovl T (i + 1) l ms
 | _, [], ms => ms
 | _, _ :: _, [] => []

theorem ovl_len {T : Nat → Bool} : ∀ (st m : St) (i : Nat), st.length ≤ m.length → (ovl T i st m).length = m.length
 | [], m, i, _ => by simp [ovl]
 | b :: l, [], i, h => by simp at h
 | b :: l, x :: ms, i, h => by simp only [ovl, List.length_cons]; rw [ovl_len l ms (i + 1) (by simpa using h)]

theorem ovl_get {T : Nat → Bool} : ∀ (st m : St) (i j : Nat), st.length ≤ m.length → (ovl T i st m)[j]? = if j < st.length ∧ T (i + j) = false then st[j]? else m[j]?
 | [], m, i, j, _ => by simp [ovl]
 | b :: l, [], i, j, h => by simp at h
 | b :: l, x :: ms, i, j, h => by
  cases j with
  | zero => simp [ovl]; cases T i <;> simp
  | succ j =>
   simp only [ovl, List.getElem?_cons_succ, List.length_cons]
   rw [ovl_get l ms (i + 1) j (by simpa using h), show i + 1 + j = i + (j + 1) by omega]
   simp

section
variable {ι : IM} {w : World} {st : St} {T : Nat → Bool}

def aside (T : Nat → Bool) (ι : IM) (st : St) : IM := ⟨ι.m, fun b => ι.amb b ∨ ∃ id o, st[id]? = some o ∧ o.alive ∧ T id = false ∧ ι id = some b⟩

theorem mask_own {b : Nat} (h : Own (aside T ι st) (maskF T 0 st) b) : ∃ id o, st[id]? = some o ∧ o.alive ∧ T id = true ∧ ι id = some b := by
 obtain ⟨id, o, h1, h2, h3⟩ := h
 rw [maskF_get, Option.map_eq_some_iff] at h1
 obtain ⟨o', h1, rfl⟩ := h1
 rw [Nat.zero_add] at h2
 cases hT : T id with
 | false => rw [hT] at h2; exact absurd rfl h2
 | true => rw [hT] at h2; exact ⟨id, o', h1, h2, hT, h3⟩

theorem mask_mut {b : Nat} : Mut (aside T ι st) (maskF T 0 st) b ↔ Mut ι st b := by
 constructor
 ·rintro ((h | ⟨id, o, h1, h2, _, h3⟩) | h)
  ·exact .inl h
  ·exact .inr ⟨id, o, h1, h2, h3⟩
  ·obtain ⟨id, o, h1, h2, _, h3⟩ := mask_own h
   exact .inr ⟨id, o, h1, h2, h3⟩
 ·rintro (h | ⟨id, o, h1, h2, h3⟩)
  ·exact .inl (.inl h)
  ·cases hT : T id with
   | false => exact .inl (.inr ⟨id, o, h1, h2, hT, h3⟩)
   | true => exact .inr ⟨id, o, by rw [maskF_get, h1, Nat.zero_add, hT]; rfl, h2, h3⟩

theorem Rel.mask (hR : Rel ι w st) (T : Nat → Bool) : Rel (aside T ι st) w (maskF T 0 st) := by
 refine ⟨fun id o ho => ?_, fun b hb => ?_, fun b hb ha => ?_, fun id id' o o' b h1 h2 a1 a2 e1 e2 => ?_, fun b o h => ⟨fun hm => (hR.gl b o h).1 (mask_mut.1 hm), (hR.gl b o h).2⟩⟩
 ·rw [maskF_get, Option.map_eq_some_iff] at ho
  obtain ⟨o', h1, rfl⟩ := ho
  cases T (0 + id) with
  | false => trivial
  | true => exact (hR.obj id o' h1).chg (fun b hb => mask_mut.1 hb) (by rw [maskF_len]; exact Nat.le_refl _) (fun _ => rfl)
 ·rcases hb with hb | ⟨id, o, h1, h2, _, h3⟩
  ·exact hR.amb b hb
  ·exact hR.mut_lt (.inr ⟨id, o, h1, h2, h3⟩)
 ·obtain ⟨id, o, h1, h2, hT, h3⟩ := mask_own hb
  rcases ha with ha | ⟨id', o', g1, g2, hF, g3⟩
  ·exact hR.dis b ⟨id, o, h1, h2, h3⟩ ha
  ·have := hR.inj id id' o o' b h1 g1 h2 g2 h3 g3
   subst this
   rw [hT] at hF; cases hF
 ·rw [maskF_get, Option.map_eq_some_iff] at h1 h2
  obtain ⟨p, p1, rfl⟩ := h1
  obtain ⟨q, q1, rfl⟩ := h2
  rw [Nat.zero_add] at a1 a2
  cases hT : T id with
  | false => rw [hT] at a1; exact absurd rfl a1
  | true =>
   cases hT' : T id' with
   | false => rw [hT'] at a2; exact absurd rfl a2
   | true =>
    rw [hT] at a1; rw [hT'] at a2
    exact hR.inj id id' p q b p1 q1 a1 a2 e1 e2

theorem Rel.unmask (hR : Rel ι w st) {q : Nat → Bool} {w' : World} {ι2 : IM} {sm : St} (hl : st.length ≤ sm.length) (hR2 : Rel ι2 w' sm) (k : Keeps (fun id => q id = true) (aside T ι st) w (maskF T 0 st) ι2 w' sm)
  (hq : ∀ id, T id = false → id < st.length → q id = true) (hb : ∀ id o, st[id]? = some o → T id = false → bodyIds q o = true) (hd : ∀ id, id < st.length → T id = false → sm[id]? = some .dead) :
  Rel ⟨ι2.m, ι.amb⟩ w' (ovl T 0 st sm) ∧ (∀ b, Mut ⟨ι2.m, ι.amb⟩ (ovl T 0 st sm) b → Mut ι2 sm b) ∧ Keeps (fun id => q id = true) ι w st ⟨ι2.m, ι.amb⟩ w' (ovl T 0 st sm) := by
 have hlen := ovl_len (T := T) st sm 0 hl
 have hget : ∀ id o, (ovl T 0 st sm)[id]? = some o → (id < st.length ∧ T id = false ∧ st[id]? = some o) ∨ (sm[id]? = some o ∧ (id < st.length → T id = true)) := by
  intro id o ho
  rw [ovl_get _ _ _ _ hl, Nat.zero_add] at ho
  split at ho
  ·rename_i h; exact .inl ⟨h.1, h.2, ho⟩
  ·rename_i h
   refine .inr ⟨ho, fun hid => ?_⟩
   cases hT : T id with
   | true => rfl
   | false => exact absurd ⟨hid, hT⟩ h
 have hsame : ∀ id, id < st.length → T id = false → ι2 id = ι id := fun id hid hT => (k.map id (hq id hT hid) (by rw [maskF_len]; exact hid)).2
 have own1 : ∀ b, Own ⟨ι2.m, ι.amb⟩ (ovl T 0 st sm) b → (∃ id o, st[id]? = some o ∧ o.alive ∧ T id = false ∧ ι id = some b) ∨ Own ι2 sm b := by
  rintro b ⟨id, o, h1, h2, h3⟩
  rcases hget id o h1 with ⟨g1, g2, g3⟩ | ⟨g1, _⟩
  ·exact .inl ⟨id, o, g3, h2, g2, (hsame id g1 g2).symm.trans h3⟩
  ·exact .inr ⟨id, o, g1, h2, h3⟩
 have hamb : ι2.amb = (aside T ι st).amb := k.amb
 have mut1 : ∀ b, Mut ⟨ι2.m, ι.amb⟩ (ovl T 0 st sm) b → Mut ι2 sm b := by
  rintro b (hb' | hb')
  ·exact .inl (by rw [hamb]; exact .inl hb')
  ·rcases own1 b hb' with h | h
   ·exact .inl (by rw [hamb]; exact .inr h)
   ·exact .inr h
 have hRm := hR.mask T
 have kk : Keeps (fun id => q id = true) ι w st ⟨ι2.m, ι.amb⟩ w' (ovl T 0 st sm) := by
  refine ⟨k.os, k.tape, k.output, k.size, rfl, fun b hb' hno => ?_, fun id hq' hid => ⟨by rw [hlen]; omega, (k.map id hq' (by rw [maskF_len]; exact hid)).2⟩, k.shp⟩
  have h1 : ¬ Own (aside T ι st) (maskF T 0 st) b := by
   intro h
   obtain ⟨id, o, x1, x2, _, x3⟩ := mask_own h
   exact hno ⟨id, o, x1, x2, x3⟩
  obtain ⟨e1, e2⟩ := k.blk b hb' h1
  refine ⟨e1, fun ho => ?_⟩
  rcases own1 b ho with ⟨id, o, x1, x2, _, x3⟩ | h
  ·exact hno ⟨id, o, x1, x2, x3⟩
  ·exact e2 h
 refine ⟨⟨fun id o ho => ?_, fun b hb' => Nat.lt_of_lt_of_le (hR.amb b hb') k.size, fun b hb' ha => ?_, fun id id' o o' b h1 h2 a1 a2 e1 e2 => ?_, hR.glk kk⟩, mut1, kk⟩
 ·rcases hget id o ho with ⟨g1, g2, g3⟩ | ⟨g1, _⟩
  ·have hobj := hR.obj id o g3
   have hi := hb id o g3 g2
   have hblk : ∀ b, o.alive → ι id = some b → w'.heap[b]? = w.heap[b]? := by
    intro b ha e
    refine (k.blk b (hR.mut_lt (.inr ⟨id, o, g3, ha, e⟩)) (fun hown => ?_)).1
    exact hRm.dis b hown (.inr ⟨id, o, g3, ha, g2, e⟩)
   cases o with
   | dead => trivial
   | box cells =>
    obtain ⟨b, us, ty, e3, e4, e5⟩ := hobj
    exact ⟨b, us, ty, (hsame id g1 g2).trans e3, (hblk b (by simp [Body.alive]) e3).trans e4, e5.mono kk (q := q) (fun _ h _ => h) hi⟩
   | raw ob =>
    obtain ⟨b, e3, e4⟩ := hobj
    exact ⟨b, (hsame id g1 g2).trans e3, (hblk b (by simp [Body.alive]) e3).trans e4⟩
   | arr sz els =>
    rcases hobj with ⟨e3, e4⟩ | ⟨b, c, ty, e3, e4, e5, e6, e7⟩
    ·exact .inl ⟨(hsame id g1 g2).trans e3, e4⟩
    ·refine .inr ⟨b, c, ty, (hsame id g1 g2).trans e3, (hblk b (by simp [Body.alive]) e3).trans e4, e5, e6, fun i' e j p x1 x2 => ?_⟩
     obtain ⟨v, y1, y2⟩ := e7 i' e j p x1 x2
     exact ⟨v, y1, kk.pure y2⟩
  ·exact (hR2.obj id o g1).chg mut1 (by rw [hlen]; exact Nat.le_refl _) (fun _ => rfl)
 ·rcases own1 b hb' with ⟨id, o, x1, x2, _, x3⟩ | h
  ·exact hR.dis b ⟨id, o, x1, x2, x3⟩ ha
  ·exact hR2.dis b h (by rw [hamb]; exact .inl ha)
 ·rcases hget id o h1 with ⟨g1, g2, g3⟩ | ⟨g1, gT⟩
  ·have i1 : ι id = some b := (hsame id g1 g2).symm.trans e1
   rcases hget id' o' h2 with ⟨q1, q2, q3⟩ | ⟨q1, qT⟩
   ·exact hR.inj id id' o o' b g3 q3 a1 a2 i1 ((hsame id' q1 q2).symm.trans e2)
   ·exact absurd (by rw [hamb]; exact .inr ⟨id, o, g3, a1, g2, i1⟩) (hR2.dis b ⟨id', o', q1, a2, e2⟩)
  ·rcases hget id' o' h2 with ⟨q1, q2, q3⟩ | ⟨q1, qT⟩
   ·exact absurd (by rw [hamb]; exact .inr ⟨id', o', q3, a2, q2, (hsame id' q1 q2).symm.trans e2⟩) (hR2.dis b ⟨id, o, g1, a1, e1⟩)
   ·exact hR2.inj id id' o o' b g1 q1 a1 a2 e1 e2

end
end Go.SX
namespace Go.SX
open Go
set_option linter.unusedVariables false
set_option linter.unusedSimpArgs false
set_option linter.unnecessarySimpa false

def inL (l : List Nat) (i : Nat) : Bool := l.any (Nat.beq i)

theorem inL_iff {l : List Nat} {i : Nat} : inL l i = true ↔ i ∈ l := by
 simp only [inL, List.any_eq_true]
 constructor
 ·rintro ⟨x, hx, h⟩; rw [Nat.eq_of_beq_eq_true h]; exact hx
 ·intro h; exact ⟨i, h, Nat.beq_refl i⟩

theorem idsA_mono {q r : Nat → Bool} (h : ∀ i, q i = true → r i = true) : ∀ a : AV, idsA q a = true → idsA r a = true
 | .j, _ => rfl
 | .one c, hi => hc c hi
 | .ag cs, hi => hl cs hi
 | .tp vs, hi => by simp only [idsA] at hi ⊢; exact go vs hi
 where
 hc : ∀ c : CV, idsC q c = true → idsC r c = true
  | .pv _, _ => rfl
  | .pt id _ _ _, hi => h id hi
  | .mp id, hi => h id hi
  | .sl id _ _ _, hi => h id hi
  | .fn _ caps, hi => by simp only [idsC] at hi ⊢; exact hg caps hi
 hg : ∀ l : List CV, idsC.go q l = true → idsC.go r l = true
  | [], _ => rfl
  | c :: l, hi => by simp only [idsC.go, Bool.and_eq_true] at hi ⊢; exact ⟨hc c hi.1, hg l hi.2⟩
 hl : ∀ l : List CV, idsL q l = true → idsL r l = true
  | [], _ => rfl
  | c :: l, hi => by simp only [idsL, Bool.and_eq_true] at hi ⊢; exact ⟨hc c hi.1, hl l hi.2⟩
 go : ∀ l : List AV, idsA.go q l = true → idsA.go r l = true
  | [], _ => rfl
  | a :: l, hi => by simp only [idsA.go, Bool.and_eq_true] at hi ⊢; exact ⟨idsA_mono h a hi.1, go l hi.2⟩

/-! ### what the listed operations have made, in the order of the text -/

section
variable (fr0 : Nat → AV) (s0 : Nat → Option Body) (dst : Nat → Option Nat) (av : Nat → AV) (mv wr : Nat → Nat → Bool) (nb : Nat → Nat → Option Body)

variable {fr0 s0 dst av mv wr nb} {tch : Nat → Nat → Bool} {D : Nat → Bool} {i N : Nat}

end

end Go.SX
namespace Go.SX
open Go
set_option linter.unusedVariables false
set_option linter.unusedSimpArgs false
set_option linter.unnecessarySimpa false

structure GS where
 a : AV
 T : List Nat
 W : List Nat
 xs : List Nat
 st2 : St

section
variable {P : Program} {n n0 : Nat} {loose : List Nat} {Q : QT} {fr : Fr} {st : St} {c : Code} {ops : Array Oper} {X : List Nat}

def YgP (P : Program) (n : Nat) (X : List Nat) (o : Oper) (fr : Fr) (s : GS) (st : St) : Prop :=
 ∀ st' ι w act, st'.length = st.length → (∀ id, inL s.T id = true → st'[id]? = st[id]?) → stIds (fun i => !inL X i) st' = true → Rel ι w st' → FRel n ι w st' act fr → ∀ (K : Act → World → Prop) (Q : Exit → Act → World → Prop),
  (∀ v w' ι', AVRel ι' w' (ovl (inL s.W) 0 st' s.st2) v s.a → Rel ι' w' (ovl (inL s.W) 0 st' s.st2) → Keeps (fun id => inL s.xs id = false) ι w st' ι' w' (ovl (inL s.W) 0 st' s.st2) → K (act.put o.dst v) w') → o.wp P act w K Q

structure StepG (P : Program) (n : Nat) (ops : Array Oper) (X : List Nat) (o : Oper) (s : GS) (fr : Fr) (st : St) : Prop where
 bd : ∀ d, o.dst = some d → d < n
 len : s.st2.length = st.length
 out : ∀ id, inL s.W id = false → s.st2[id]? = st[id]?
 wt : ∀ id, inL s.W id = true → inL s.T id = true
 xw : ∀ id, inL s.xs id = true → inL s.W id = true ∧ inL X id = true
 lks : ∀ t ∈ Oper.looksAt ops o, idsA (inL s.T) (lk fr t) = true
 ids : idsA (inL s.T) s.a = true
 bod : stIds (fun i => !inL X i) s.st2 = true
 run : (guardOk ops o (looksR ops o fr) = some true ∧ YgP P n X o (looksR ops o fr) s st) ∨ (guardOk ops o (looksR ops o fr) = some false ∧ s.a = .tp [] ∧ s.W = [] ∧ s.xs = [])

def nextF (o : Oper) (s : GS) (fr : Fr) : Fr := putL o.dst s.a (keepF (fun id => !inL s.xs id) fr)

def StepsG (P : Program) (n : Nat) (ops : Array Oper) (X : List Nat) : List Oper → List GS → Fr → St → Prop
 | [], [], _, _ => True
 | o :: l, s :: ss, fr, st => StepG P n ops X o s fr st ∧ StepsG P n ops X l ss (nextF o s fr) s.st2
 | _, _, _, _ => False

def endF : List Oper → List GS → Fr → Fr
 | o :: l, s :: ss, fr => endF l ss (nextF o s fr)
 | _, _, fr => fr

def endS : List GS → St → St
 | s :: ss, _ => endS ss s.st2
 | [], st => st

theorem st_ext {s t : St} (hl : s.length = t.length) (h : ∀ id, id < s.length → s[id]? = t[id]?) : s = t := by
 apply List.ext_getElem?
 intro id
 by_cases hid : id < s.length
 ·exact h id hid
 ·rw [List.getElem?_eq_none (by omega), List.getElem?_eq_none (by omega)]

end
end Go.SX
namespace Go.SX
open Go
set_option linter.unusedVariables false
set_option linter.unusedSimpArgs false
set_option linter.unnecessarySimpa false

section
variable {P : Program} {n n0 : Nat} {loose an : List Nat} {Q : QT} {fr : Fr} {st : St} {c : Code} {ops : Array Oper} {X : List Nat}

def isDead : Body → Bool
 | .dead => true
 | _ => false

def deadOff (T : Nat → Bool) : Nat → St → Bool
 | _, [] => true
 | i, b :: l => (T i || isDead b) && deadOff T (i + 1) l

theorem deadOff_get {T : Nat → Bool} : ∀ {st : St} {i : Nat}, deadOff T i st = true → ∀ j, j < st.length → T (i + j) = false → st[j]? = some .dead
 | [], i, _, j, hj, _ => by simp at hj
 | b :: l, i, h, j, hj, hT => by
  simp only [deadOff, Bool.and_eq_true, Bool.or_eq_true] at h
  cases j with
  | zero =>
   rw [Nat.add_zero] at hT
   rcases h.1 with h1 | h1
   ·rw [h1] at hT; cases hT
   ·cases b <;> simp [isDead] at h1 ⊢
  | succ j =>
   have := deadOff_get h.2 j (by simpa using hj) (by rw [show i + 1 + j = i + (j + 1) by omega]; exact hT)
   simpa using this

theorem mask_eq {T : Nat → Bool} {st st' : St} (hl : st'.length = st.length) (h : ∀ id, T id = true → st'[id]? = st[id]?) : maskF T 0 st' = maskF T 0 st := by
 refine st_ext (by rw [maskF_len, maskF_len, hl]) (fun id hid => ?_)
 rw [maskF_get, maskF_get, Nat.zero_add]
 rw [maskF_len] at hid
 cases hT : T id with
 | true => rw [h id hT]
 | false =>
  rw [List.getElem?_eq_getElem (by omega), List.getElem?_eq_getElem (show id < st.length by omega)]
  rfl

theorem ovl_ovl {T : Nat → Bool} {a b m : St} (h1 : a.length = b.length) (h2 : b.length ≤ m.length) : ovl T 0 a (ovl T 0 b m) = ovl T 0 a m := by
 refine st_ext (by rw [ovl_len _ _ _ (by rw [ovl_len _ _ _ h2]; omega), ovl_len _ _ _ h2, ovl_len _ _ _ (by omega)]) (fun id hid => ?_)
 rw [ovl_get _ _ _ _ (by rw [ovl_len _ _ _ h2]; omega), ovl_get _ _ _ _ h2, ovl_get _ _ _ _ (by omega), Nat.zero_add, h1]
 by_cases hc : id < b.length ∧ T id = false
 ·simp [hc]
 ·simp [hc]

theorem ovl_mask {T : Nat → Bool} {a : St} : ovl T 0 a (maskF T 0 a) = a := by
 refine st_ext (by rw [ovl_len _ _ _ (by rw [maskF_len]; exact Nat.le_refl _), maskF_len]) (fun id hid => ?_)
 rw [ovl_get _ _ _ _ (by rw [maskF_len]; exact Nat.le_refl _), maskF_get, Nat.zero_add]
 rw [ovl_len _ _ _ (by rw [maskF_len]; exact Nat.le_refl _), maskF_len] at hid
 cases hT : T id with
 | true =>
  rw [List.getElem?_eq_getElem hid]
  simp
 | false => simp [hid]

theorem ovl_nil {a b : St} (h : a.length = b.length) : ovl (inL []) 0 a b = a := by
 refine st_ext (by rw [ovl_len _ _ _ (by omega), h]) (fun id hid => ?_)
 rw [ovl_len _ _ _ (by omega)] at hid
 rw [ovl_get _ _ _ _ (by omega)]
 simp [inL, h, hid]

theorem bodyIds_mono {q r : Nat → Bool} (h : ∀ i, q i = true → r i = true) (o : Body) (hi : bodyIds q o = true) : bodyIds r o = true := by
 cases o with
 | box cells => exact idsA_mono (q := q) (r := r) h (.ag cells) hi
 | _ => rfl

theorem ev_aside {mu : Bool} {o : Oper} {hs : HS} {out : Out} {T : List Nat} (h : ev P mu o fr (maskF (inL T) 0 st) hs = some out) (hob : AllP out.ob) (hlen : st.length ≤ out.st.length) (hmv : ∀ m, out.mv = some m → inL T m = true ∧ inL X m = true)
  (hdead : ∀ id, id < st.length → inL T id = false → out.st[id]? = some .dead) {st' : St} {ι : IM} {w : World} {act : Act} (hl : st'.length = st.length) (hT : ∀ id, inL T id = true → st'[id]? = st[id]?) (hX : stIds (fun i => !inL X i) st' = true)
  (hR : Rel ι w st') (hF : FRel n ι w st' act fr) :
  ∃ v w' ι', (((execOp act.eval o).run P w = .ok (.value v) w') ∨ ((execOp act.eval o).run P w = .ok .skip w' ∧ v = undef)) ∧ Rel ι' w' (ovl (inL T) 0 st' out.st) ∧ AVRel ι' w' (ovl (inL T) 0 st' out.st) v out.av ∧
   Keeps (fun id => stays out.mv id = true) ι w st' ι' w' (ovl (inL T) 0 st' out.st) := by
 rw [← mask_eq hl hT] at h
 have hRm := hR.mask (inL T)
 have hFm : FRel n (aside (inL T) ι st') w (maskF (inL T) 0 st') act fr :=
  ⟨hF.defers, hF.size, fun t => (hF.slot t).chg (fun b hb => mask_mut.1 hb) (by rw [maskF_len]; exact Nat.le_refl _) (fun _ => rfl)⟩
 obtain ⟨v, w', ι2, hrun, hR2, hv, k⟩ := ev_sound h hob hRm hFm
 obtain ⟨r1, m1, k1⟩ := hR.unmask (T := inL T) (by rw [hl]; exact hlen) hR2 k
  (fun id hTf _ => by
   unfold stays
   cases hm : out.mv with
   | none => rfl
   | some m =>
    have : id ≠ m := by rintro rfl; rw [(hmv id hm).1] at hTf; cases hTf
    simp only [Bool.not_eq_true']
    cases hb : Nat.beq id m with
    | false => rfl
    | true => exact absurd (Nat.eq_of_beq_eq_true hb) this)
  (fun id o ho _ => bodyIds_mono (fun i hi => by
   unfold stays
   cases hm : out.mv with
   | none => rfl
   | some m =>
    have : i ≠ m := by rintro rfl; simp [(hmv i hm).2] at hi
    simp only [Bool.not_eq_true']
    cases hb : Nat.beq i m with
    | false => rfl
    | true => exact absurd (Nat.eq_of_beq_eq_true hb) this) o (stIds_get hX id o ho))
  (fun id hid hTf => hdead id (by omega) hTf)
 exact ⟨v, w', ⟨ι2.m, ι.amb⟩, hrun, r1, hv.chg m1 (by rw [ovl_len _ _ _ (by rw [hl]; exact hlen)]; exact Nat.le_refl _) (fun _ => rfl), k1⟩

theorem wp_of_run {o : Oper} {act : Act} {w w' : World} {v : Value} {K : Act → World → Prop} {Q : Exit → Act → World → Prop} (h : ((execOp act.eval o).run P w = .ok (.value v) w') ∨ ((execOp act.eval o).run P w = .ok .skip w' ∧ v = undef)) (hK : K (act.put o.dst v) w') : o.wp P act w K Q := by
 rcases h with h | ⟨h, rfl⟩ <;> simp only [Oper.wp, h, Oper.upon] <;> exact hK

/-! ### the numbers in values -/

def idsC' : CV → List Nat
 | .pv _ => []
 | .pt id _ _ _ => [id]
 | .mp id => [id]
 | .sl id _ _ _ => [id]
 | .fn _ caps => go caps
 where
 go : List CV → List Nat
  | [] => []
  | c :: l => idsC' c ++ go l

def idsL' : List CV → List Nat
 | [] => []
 | c :: l => idsC' c ++ idsL' l

def idsA' : AV → List Nat
 | .j => []
 | .one c => idsC' c
 | .ag cs => idsL' cs
 | .tp vs => go vs
 where
 go : List AV → List Nat
  | [] => []
  | a :: l => idsA' a ++ go l

def tchOf (ops : Array Oper) (o : Oper) (fr : Fr) : List Nat := (Oper.looksAt ops o).flatMap fun t => idsA' (lk fr t)

def allLks (ops : Array Oper) (o : Oper) (fr : Fr) (T : List Nat) : Bool := (Oper.looksAt ops o).all fun t => idsA (inL T) (lk fr t)

def dstOk (n : Nat) (o : Oper) : Bool := match o.dst with
 | some d => Nat.ble (d + 1) n
 | none => true

theorem dstOk_get {o : Oper} (h : dstOk n o = true) : ∀ d, o.dst = some d → d < n := by
 intro d hd
 unfold dstOk at h
 rw [hd] at h
 exact Nat.le_of_ble_eq_true h

theorem allLks_get {o : Oper} {T : List Nat} (h : allLks ops o fr T = true) : ∀ t ∈ Oper.looksAt ops o, idsA (inL T) (lk fr t) = true := fun t ht => List.all_eq_true.1 h t ht

def GX (P : Program) (n : Nat) (ops : Array Oper) (X : List Nat) (l : List Oper) (tw : List (List Nat × List Nat)) (fr : Fr) (st : St) (fr' : Fr) (st' : St) : Prop :=
 ∃ ss, StepsG P n ops X l ss fr st ∧ ss.map (fun s => (s.T, s.W)) = tw ∧ endF l ss fr = fr' ∧ endS ss st = st'

theorem GX.done {l : List Oper} (he : l = []) : GX P n ops X l [] fr st fr st := by
 subst he
 exact ⟨[], trivial, rfl, rfl, rfl⟩

theorem GX.cons {o : Oper} {l : List Oper} {tw : List (List Nat × List Nat)} {s : GS} {fr2 : Fr} {st2 : St} (h : StepG P n ops X o s fr st) (hk : GX P n ops X l tw (nextF o s fr) s.st2 fr2 st2) : GX P n ops X (o :: l) ((s.T, s.W) :: tw) fr st fr2 st2 := by
 obtain ⟨ss, h1, h2, h3, h4⟩ := hk
 exact ⟨s :: ss, ⟨h, h1⟩, by simp [h2], h3, h4⟩

theorem GX.eq {l : List Oper} {tw : List (List Nat × List Nat)} {fr1 fr2 : Fr} {st2 : St} (he : fr = fr1) (h : GX P n ops X l tw fr1 st fr2 st2) : GX P n ops X l tw fr st fr2 st2 := he ▸ h

def confTW (s t : List Nat × List Nat) : Bool := s.2.any (inL t.1) || s.1.any (inL t.2)

def confsTW (ops : Array Oper) (tw : List (List Nat × List Nat)) : Bool := (List.range tw.length).all fun j => (List.range j).all fun i =>
 match tw[i]?, tw[j]? with
 | some s, some t => !confTW s t || ((masks ops.toList []).getD j 0).testBit i
 | _, _ => false

/-! ### single steps -/

def hdO : List Oper → Option Oper
 | o :: _ => some o
 | [] => none

theorem hd_cons {l : List Oper} {o : Oper} (h : hdO l = some o) : l = o :: l.drop 1 := by
 cases l with
 | nil => cases h
 | cons x l => simp [hdO] at h; subst h; rfl

def evQ1 (P : Program) (n : Nat) (ops : Array Oper) (X : List Nat) (l : List Oper) (fr : Fr) (st : St) (hs : HS) : Option (AV × List Nat × List Prop × HS) :=
 match hdO l with
 | some o =>
  bif dstOk n o && quietOp o.op then
   match guardOk ops o (looksR ops o fr) with
   | some true =>
    match ev P false o (looksR ops o fr) (maskF (inL (tchOf ops o fr)) 0 st) hs with
    | some out => bif (allLks ops o fr (tchOf ops o fr) && idsA (inL (tchOf ops o fr)) out.av) && stIds (fun i => !inL X i) st then some (out.av, tchOf ops o fr, out.ob, out.hs) else none
    | none => none
   | some false => bif stIds (fun i => !inL X i) st && allLks ops o fr (tchOf ops o fr) then some (.tp [], tchOf ops o fr, [], hs) else none
   | none => none
  else none
 | none => none

structure QS where
 fr : Fr
 tw : List (List Nat × List Nat)
 ob : List Prop
 hs : HS

def evQs (P : Program) (n : Nat) (ops : Array Oper) (X : List Nat) (st : St) : Nat → List Oper → Fr → HS → Option QS
 | 0, _, fr, hs => some ⟨fr, [], [], hs⟩
 | k + 1, l, fr, hs =>
  match evQ1 P n ops X l fr st hs with
  | some (a, T, ob, hs') =>
   match hdO l with
   | some o => match evQs P n ops X st k (l.drop 1) (putL o.dst a (keepF (fun id => !inL [] id) fr)) hs' with
    | some r => some ⟨r.fr, (T, []) :: r.tw, ob ++ r.ob, r.hs⟩
    | none => none
   | none => none
  | none => none

theorem evQ1_step {l : List Oper} {o : Oper} {hs hs' : HS} {a : AV} {T : List Nat} {ob : List Prop} (ho : hdO l = some o) (h : evQ1 P n ops X l fr st hs = some (a, T, ob, hs')) (hob : AllP ob) : StepG P n ops X o ⟨a, T, [], [], st⟩ fr st := by
 unfold evQ1 at h
 rw [ho] at h
 simp only at h
 cases hb : (dstOk n o && quietOp o.op) with
 | false => rw [hb] at h; cases h
 | true =>
  rw [hb] at h
  simp only [cond_true] at h
  rw [Bool.and_eq_true] at hb
  split at h
  ·rename_i hg
   split at h
   ·rename_i out hev
    cases hc : ((allLks ops o fr (tchOf ops o fr) && idsA (inL (tchOf ops o fr)) out.av) && stIds (fun i => !inL X i) st) with
    | false => rw [hc] at h; cases h
    | true =>
     rw [hc] at h
     simp only [cond_true, Option.some.injEq, Prod.mk.injEq] at h
     obtain ⟨rfl, rfl, rfl, rfl⟩ := h
     simp only [Bool.and_eq_true] at hc
     obtain ⟨⟨c1, c2⟩, c3⟩ := hc
     obtain ⟨q1, q2⟩ := ev_quiet hb.2 hev
     refine ⟨dstOk_get hb.1, rfl, fun _ _ => rfl, fun id h => by simp [inL] at h, fun id h => by simp [inL] at h, allLks_get c1, c2, c3, .inl ⟨hg, ?_⟩⟩
     intro st' ι w act hl hT hX hR hF K Q hK
     obtain ⟨v, w', ι', hrun, r1, r2, r3⟩ := ev_aside (X := X) hev hob (by rw [q1, maskF_len]; exact Nat.le_refl _) (fun m hm => by rw [q2] at hm; cases hm)
      (fun id hid hTf => by rw [q1, maskF_get, Nat.zero_add, List.getElem?_eq_getElem hid, hTf]; rfl) hl hT hX hR hF
     have e1 : ovl (inL (tchOf ops o fr)) 0 st' out.st = st' := by
      rw [q1, ← mask_eq hl hT]; exact ovl_mask
     have e2 : ovl (inL ([] : List Nat)) 0 st' st = st' := ovl_nil hl
     rw [e1] at r1 r2 r3
     refine wp_of_run hrun (hK v w' ι' (by rw [e2]; exact r2) (by rw [e2]; exact r1) (by
      rw [e2]
      refine r3.weaken (fun id _ => ?_)
      rw [q2]; rfl))
   ·cases h
  ·rename_i hg
   cases hc : (stIds (fun i => !inL X i) st && allLks ops o fr (tchOf ops o fr)) with
   | false => rw [hc] at h; cases h
   | true =>
    rw [hc] at h
    simp only [cond_true, Option.some.injEq, Prod.mk.injEq] at h
    obtain ⟨rfl, rfl, rfl, rfl⟩ := h
    rw [Bool.and_eq_true] at hc
    exact ⟨dstOk_get hb.1, rfl, fun _ _ => rfl, fun id h => by simp [inL] at h, fun id h => by simp [inL] at h, allLks_get hc.2, rfl, hc.1, .inr ⟨hg, rfl, rfl, rfl⟩⟩
  ·cases h

def runQ (o : Option QS) : Option (Fr × List (List Nat × List Nat) × List Prop) := o.map fun r => (r.fr, r.tw, r.ob)

theorem GX.qs {tw2 : List (List Nat × List Nat)} {fr2 : Fr} {st2 : St} : ∀ (k : Nat) {l : List Oper} {fr : Fr} {hs : HS} {r : QS}, evQs P n ops X st k l fr hs = some r → AllP r.ob → GX P n ops X (l.drop k) tw2 r.fr st fr2 st2 → GX P n ops X l (r.tw ++ tw2) fr st fr2 st2
 | 0, l, fr, hs, r, h, hob, hk => by
  simp only [evQs, Option.some.injEq] at h
  subst h
  simpa using hk
 | k + 1, l, fr, hs, r, h, hob, hk => by
  simp only [evQs] at h
  split at h
  ·rename_i a T ob hs' h1
   split at h
   ·rename_i o ho
    split at h
    ·rename_i r' h2
     simp only [Option.some.injEq] at h
     subst h
     obtain ⟨o1, o2⟩ := AllP.append hob
     have hs1 := evQ1_step ho h1 o1
     rw [hd_cons ho]
     have := GX.qs (tw2 := tw2) k h2 o2 (by rw [List.drop_drop, Nat.add_comm 1 k]; exact hk)
     exact GX.cons hs1 this
    ·cases h
   ·cases h
  ·cases h

theorem GX.go {l : List Oper} {tw2 : List (List Nat × List Nat)} {fr2 : Fr} {st2 : St} (k : Nat) (hs : HS) (fr' : Fr) (tw1 : List (List Nat × List Nat)) (ob : List Prop) (h : runQ (evQs P n ops X st k l fr hs) = some (fr', tw1, ob)) (hob : AllP ob)
  (hk : GX P n ops X (l.drop k) tw2 fr' st fr2 st2) : GX P n ops X l (tw1 ++ tw2) fr st fr2 st2 := by
 cases ho : evQs P n ops X st k l fr hs with
 | none => rw [ho] at h; cases h
 | some r =>
  rw [ho] at h
  simp only [runQ, Option.map_some, Option.some.injEq, Prod.mk.injEq] at h
  obtain ⟨rfl, rfl, rfl⟩ := h
  exact GX.qs k ho hob hk

def movOk (mv : Option Nat) (T X : List Nat) : Bool := match mv with
 | some m => inL T m && inL X m
 | none => true

theorem movOk_get {mv : Option Nat} {T X : List Nat} (h : movOk mv T X = true) : ∀ m, mv = some m → inL T m = true ∧ inL X m = true := by
 rintro m rfl
 simpa [movOk] using h

def wOk (n : Nat) (ops : Array Oper) (X : List Nat) (o : Oper) (fr : Fr) (st : St) (T : List Nat) (out : Out) : Bool :=
 ((dstOk n o && Nat.beq out.st.length st.length) && (allLks ops o fr T && idsA (inL T) out.av)) && ((deadOff (inL T) 0 out.st && stIds (fun i => !inL X i) (ovl (inL T) 0 st out.st)) && movOk out.mv T X)

def evW (P : Program) (n : Nat) (ops : Array Oper) (X : List Nat) (l : List Oper) (fr : Fr) (st : St) (hs : HS) : Option (Fr × List Nat × St × List Prop) :=
 match hdO l with
 | some o =>
  match guardOk ops o (looksR ops o fr) with
  | some true =>
   match ev P false o (looksR ops o fr) (maskF (inL (tchOf ops o fr)) 0 st) hs with
   | some out =>
    bif wOk n ops X o fr st (tchOf ops o fr) out then
     some (nextF o ⟨out.av, tchOf ops o fr, tchOf ops o fr, out.mv.toList, ovl (inL (tchOf ops o fr)) 0 st out.st⟩ fr, tchOf ops o fr, ovl (inL (tchOf ops o fr)) 0 st out.st, out.ob)
    else none
   | none => none
  | _ => none
 | none => none

theorem GX.wr {l : List Oper} {tw2 : List (List Nat × List Nat)} {fr2 : Fr} {st2 : St} (hs : HS) (fr' : Fr) (T : List Nat) (st' : St) (ob : List Prop) (h : evW P n ops X l fr st hs = some (fr', T, st', ob)) (hob : AllP ob)
  (hk : GX P n ops X (l.drop 1) tw2 fr' st' fr2 st2) : GX P n ops X l ((T, T) :: tw2) fr st fr2 st2 := by
 unfold evW at h
 split at h
 ·rename_i o ho
  split at h
  ·rename_i hg
   split at h
   ·rename_i out hev
    cases hc : wOk n ops X o fr st (tchOf ops o fr) out with
    | false => rw [hc] at h; cases h
    | true =>
     rw [hc] at h
     simp only [cond_true, Option.some.injEq, Prod.mk.injEq] at h
     obtain ⟨rfl, rfl, rfl, rfl⟩ := h
     unfold wOk at hc
     simp only [Bool.and_eq_true] at hc
     obtain ⟨⟨⟨c1, c2⟩, c3, c4⟩, ⟨c5, c6⟩, c7⟩ := hc
     have hlen := Nat.eq_of_beq_eq_true c2
     rw [hd_cons ho]
     refine GX.cons (s := ⟨out.av, tchOf ops o fr, tchOf ops o fr, out.mv.toList, ovl (inL (tchOf ops o fr)) 0 st out.st⟩) ?_ hk
     have hmvv := movOk_get c7
     refine ⟨dstOk_get c1, by rw [ovl_len _ _ _ (by omega)]; exact hlen, fun id hw => ?_, fun id h => h, fun id h => ?_, allLks_get c3, c4, c6, .inl ⟨hg, ?_⟩⟩
     ·show (ovl (inL (tchOf ops o fr)) 0 st out.st)[id]? = st[id]?
      have hw' : inL (tchOf ops o fr) id = false := hw
      rw [ovl_get _ _ _ _ (by omega), Nat.zero_add]
      by_cases hid : id < st.length
      ·simp [hid, hw']
      ·rw [if_neg (fun h => hid h.1), List.getElem?_eq_none (by omega), List.getElem?_eq_none (by omega)]
     ·have := inL_iff.1 h
      simp only [Option.mem_toList] at this
      exact hmvv id this
     ·intro st' ι w act hl hT hX hR hF K Q hK
      obtain ⟨v, w', ι', hrun, r1, r2, r3⟩ := ev_aside (X := X) hev hob (by omega) hmvv (fun id hid hTf => deadOff_get c5 id (by omega) (by rw [Nat.zero_add]; exact hTf)) hl hT hX hR hF
      have e : ovl (inL (tchOf ops o fr)) 0 st' (ovl (inL (tchOf ops o fr)) 0 st out.st) = ovl (inL (tchOf ops o fr)) 0 st' out.st := ovl_ovl hl (by omega)
      refine wp_of_run hrun (hK v w' ι' (by rw [e]; exact r2) (by rw [e]; exact r1) (by
       rw [e]
       refine r3.weaken (fun id hid => ?_)
       unfold stays
       cases hm : out.mv with
       | none => rfl
       | some m =>
        simp only [Bool.not_eq_true']
        cases hb : Nat.beq id m with
        | false => rfl
        | true =>
         have := Nat.eq_of_beq_eq_true hb
         subst this
         have hx : inL out.mv.toList id = true := inL_iff.2 (by simp [hm])
         have hid' : inL out.mv.toList id = false := hid
         rw [hx] at hid'; cases hid'))
   ·cases h
  ·cases h
 ·cases h

end
end Go.SX
namespace Go.SX
open Go
set_option linter.unusedVariables false
set_option linter.unusedSimpArgs false

section
variable {P : Program} {n n0 : Nat} {loose an : List Nat} {Q : QT} {fr : Fr} {st : St} {c : Code} {ops : Array Oper} {X : List Nat} {l : List Oper} {tw : List (List Nat × List Nat)} {fr2 : Fr} {st2 : St}

theorem GX.ext {tw2 : List (List Nat × List Nat)} (g : Nat) (vs us : List Value) (fr1 : Fr) (T : List Nat) (hc : extHdD P n ops l fr = some (g, vs)) (h : ExtC P g vs (.tuple us.toArray)) (hp : us.all plain = true)
  (hT : (match hdO l with | some o => allLks ops o fr T && dstOk n o | none => false) = true) (hX : stIds (fun i => !inL X i) st = true) (hput : (match hdO l with | some o => putL o.dst (avT us) (keepF (fun id => !inL [] id) fr) | none => fr) = fr1)
  (hk : GX P n ops X (l.drop 1) tw2 fr1 st fr2 st2) : GX P n ops X l ((T, []) :: tw2) fr st fr2 st2 := by
 cases ho : hdO l with
 | none => rw [ho] at hT; cases hT
 | some o =>
  rw [ho] at hT hput
  have hT2 : (allLks ops o fr T && dstOk n o) = true := hT
  rw [Bool.and_eq_true] at hT2
  have hput2 : putL o.dst (avT us) (keepF (fun id => !inL [] id) fr) = fr1 := hput
  subst hput2
  have hl := hd_cons ho
  rw [hl] at hc ⊢
  simp only [extHdD] at hc
  split at hc
  ·rename_i hg
   have hcall : extAt P o (looksR ops o fr) = some (g, vs) := by
    have h2 := hT2.2
    unfold dstOk at h2
    cases hdd : o.dst with
    | none => simpa [hdd] using hc
    | some d =>
     rw [hdd] at h2
     have h3 : Nat.ble (d + 1) n = true := h2
     simpa [hdd, h3] using hc
   have hra : idsA (inL T) (avT us) = true := by
    unfold avT
    simp only [idsA]
    clear hp h hk hput
    induction us with
    | nil => rfl
    | cons u us ih => simp only [List.map_cons, idsA.go, idsA, idsC, Bool.true_and]; exact ih
   refine GX.cons (s := ⟨avT us, T, [], [], st⟩) ⟨dstOk_get hT2.2, rfl, fun _ _ => rfl, fun id h => by simp [inL] at h, fun id h => by simp [inL] at h, allLks_get hT2.1, hra, hX, .inl ⟨hg, ?_⟩⟩ hk
   intro st' ι w act hl' hT' hX' hR hF K Q hK
   have e2 : ovl (inL ([] : List Nat)) 0 st' st = st' := ovl_nil hl'
   have hrun := ext_sound hcall h hF (w := w)
   simp only [Oper.wp, hrun, Oper.upon]
   exact hK _ w ι (by rw [e2]; exact avT_rel hp) (by rw [e2]; exact hR) (by rw [e2]; exact .refl)
  ·simp at hc

theorem GY.go (k : Nat) (hs : HS) (fr' : Fr) (ob : List Prop) (h : runQ (evQs P n ops X st k l fr hs) = some (fr', tw.take k, ob)) (hob : AllP ob) (hk : GX P n ops X (l.drop k) (tw.drop k) fr' st fr2 st2) : GX P n ops X l tw fr st fr2 st2 := by
 have := GX.go (tw2 := tw.drop k) k hs fr' (tw.take k) ob h hob hk
 rwa [List.take_append_drop] at this

theorem tw_cons {T W : List Nat} (h : tw.head? = some (T, W)) : tw = (T, W) :: tw.drop 1 := by
 cases tw with
 | nil => cases h
 | cons x l => simp at h; subst h; rfl

theorem GY.wr (hs : HS) (fr' : Fr) (T : List Nat) (st' : St) (ob : List Prop) (ht : tw.head? = some (T, T)) (h : evW P n ops X l fr st hs = some (fr', T, st', ob)) (hob : AllP ob) (hk : GX P n ops X (l.drop 1) (tw.drop 1) fr' st' fr2 st2) : GX P n ops X l tw fr st fr2 st2 := by
 rw [tw_cons ht]; exact GX.wr hs fr' T st' ob h hob hk

theorem GY.ext (g : Nat) (vs us : List Value) (fr1 : Fr) (T : List Nat) (ht : tw.head? = some (T, [])) (hc : extHdD P n ops l fr = some (g, vs)) (h : ExtC P g vs (.tuple us.toArray)) (hp : us.all plain = true)
  (hT : (match hdO l with | some o => allLks ops o fr T && dstOk n o | none => false) = true) (hX : stIds (fun i => !inL X i) st = true) (hput : (match hdO l with | some o => putL o.dst (avT us) (keepF (fun id => !inL [] id) fr) | none => fr) = fr1)
  (hk : GX P n ops X (l.drop 1) (tw.drop 1) fr1 st fr2 st2) : GX P n ops X l tw fr st fr2 st2 := by
 rw [tw_cons ht]; exact GX.ext g vs us fr1 T hc h hp hT hX hput hk

theorem GY.done (he : l = []) (ht : tw = []) : GX P n ops X l tw fr st fr st := by subst ht; exact GX.done he

theorem Sub.dead (k : Nat) : Sub n n0 loose fr st fr (st ++ List.replicate k .dead) := by
 intro ι w a hR hF
 have hget : ∀ (id : Nat) (o : Body), (st ++ List.replicate k Body.dead)[id]? = some o → o.alive → st[id]? = some o := by
  intro id o h ha
  by_cases hid : id < st.length
  ·rwa [List.getElem?_append_left hid] at h
  ·rw [List.getElem?_append_right (by omega), List.getElem?_replicate] at h
   split at h
   ·cases h; exact absurd rfl ha
   ·cases h
 have own1 : ∀ b, Own ι (st ++ List.replicate k .dead) b → Own ι st b := by
  rintro b ⟨id, o, h1, h2, h3⟩
  exact ⟨id, o, hget id o h1 h2, h2, h3⟩
 have mut1 : ∀ b, Mut ι (st ++ List.replicate k .dead) b → Mut ι st b := fun b h => h.elim .inl (fun h => .inr (own1 b h))
 have hl : st.length ≤ (st ++ List.replicate k Body.dead).length := by simp
 refine ⟨ι, ⟨fun id o ho => ?_, hR.amb, fun b hb => hR.dis b (own1 b hb), fun id id' o o' b h1 h2 a1 a2 e1 e2 => hR.inj id id' o o' b (hget id o h1 a1) (hget id' o' h2 a2) a1 a2 e1 e2, fun b o h => ⟨fun hm => (hR.gl b o h).1 (mut1 b hm), (hR.gl b o h).2⟩⟩,
  ⟨hF.defers, hF.size, fun t => (hF.slot t).chg mut1 hl (fun _ => rfl)⟩, ⟨rfl, rfl, rfl, Nat.le_refl _, rfl, fun b _ hno => ⟨rfl, fun h => hno (own1 b h)⟩, fun id _ hid => ⟨by omega, rfl⟩, fun _ c _ _ h => ⟨c, h, rfl⟩⟩⟩
 by_cases ha : o = .dead
 ·subst ha; trivial
 ·exact (hR.obj id o (hget id o ho ha)).chg mut1 hl (fun _ => rfl)

end
end Go.SX
namespace Go.SX
open Go
set_option linter.unusedVariables false
set_option linter.unusedSimpArgs false

section
variable {P : Program} {n n0 : Nat} {loose an : List Nat} {Q : QT} {fr : Fr} {st : St} {c : Code} {ops : Array Oper} {X : List Nat} {l : List Oper} {tw : List (List Nat × List Nat)} {fr2 : Fr} {st2 : St}

def FinM (P : Program) (fn : Func) (r : AV) (k : Nat) (sc' : St) : QT := fun e fr st =>
 (e = .normal ∨ e = .ret) ∧ ∃ hs asv ob, resAll P fr st fn.results.toList hs = some (asv, ob) ∧ AllP ob ∧ st.take k = sc' ∧ stIds (fun id => Nat.ble (id + 1) k) sc' = true ∧ AF st (fun id => Nat.ble (id + 1) k) (resAV asv) r

theorem MC.of {f : Nat} {fn : Func} {args : List AV} {r : AV} {sc sc' : St} (k : Nat) (hf : P.funcs[f]? = some fn) (hb : fn.body = some c) (hn : fn.ntmps = n) (hl : args.length ≤ n) (hk : sc.length = k)
  (h : XW P n k [] c (FinM P fn r k sc') (argsFr args 0) sc) : MC P f args sc r sc' := by
 intro ι w vs hR hA
 refine calls_of_wp hf hb ?_
 have hF : FRel n ι w sc { tmps := vs.toArray ++ Array.replicate (fn.ntmps - vs.toArray.size) undef, defers := [] } (argsFr args 0) := by
  refine ⟨rfl, ?_, fun t => ?_⟩
  ·simp [hn]; have := hA.1; omega
  ·rw [lk_argsFr]
   simp only [Nat.zero_le, if_true, Nat.sub_zero]
   by_cases ht : t < vs.length
   ·have hta : t < args.length := by rw [← hA.1]; exact ht
    have e1 : (vs.toArray ++ Array.replicate (fn.ntmps - vs.toArray.size) undef).getD t undef = vs[t] := by
     simp [Array.getElem?_append, ht]
    have e2 : args.getD t .j = args[t] := by simp [List.getD, hta]
    rw [e1, e2]
    exact hA.2 t _ _ (List.getElem?_eq_getElem ht) (List.getElem?_eq_getElem hta)
   ·have : args.getD t .j = .j := by
     simp only [List.getD]
     rw [List.getElem?_eq_none (by rw [← hA.1]; omega)]
     rfl
    rw [this]
    exact .j _
 refine Go.wp_mono (h ι w _ hR hF) ?_
 rintro e a w' ⟨ι', fr', st', ⟨he, hs, asv, ob, hres, hob, htk, hid, haf⟩, hR', hF', kk⟩
 obtain ⟨v, hv, hav⟩ := results_sound hR' hF' hres hob
 have hsub : SubSt (fun id => Nat.ble (id + 1) k) st' (st'.take k) := by
  refine ⟨fun id o h => .inr ?_, fun id hq hid => ?_⟩
  ·rw [List.getElem?_take] at h
   split at h
   ·rename_i hlt; exact ⟨Nat.ble_eq_true_of_le hlt, h⟩
   ·cases h
  ·have := Nat.le_of_ble_eq_true hq
   simp; omega
 have hid' : stIds (fun id => Nat.ble (id + 1) k) (st'.take k) = true := by rw [htk]; exact hid
 obtain ⟨r1, k1⟩ := hR'.shrink hsub hid'
 have hfin := hav.fz hR' hsub hid' haf
 rw [htk] at r1 k1 hfin
 have hpost : ∃ v', (results fn a.tmps).run P w' = .ok v' w' ∧ (∃ v av s ι', Ending.returned v' = .returned v ∧ (av = r ∧ s = sc') ∧ Rel ι' w' s ∧ AVRel ι' w' s v av ∧ Keeps (fun id => id ∉ ([] : List Nat)) ι w sc ι' w' s) := by
  refine ⟨v, hv, v, r, sc', ι', rfl, ⟨rfl, rfl⟩, r1, hfin, ?_⟩
  have hfx : ∀ id, id < k → fixB k [] id = true := fun id h => by simp [fixB]; omega
  refine ⟨kk.os ▸ k1.os, kk.tape ▸ k1.tape, kk.output ▸ k1.output, kk.size, kk.amb, fun b hb hno => ?_, fun id _ hidl => ?_, kk.shp⟩
  ·obtain ⟨e1, e2⟩ := kk.blk b hb hno
   exact ⟨e1, (k1.blk b (Nat.lt_of_lt_of_le hb kk.size) e2).2⟩
  ·obtain ⟨m1, m2⟩ := kk.map id (hfx id (by omega)) hidl
   obtain ⟨p1, p2⟩ := k1.map id (Nat.ble_eq_true_of_le (show id + 1 ≤ k by omega)) m1
   exact ⟨p1, p2.trans m2⟩
 rcases he with rfl | rfl
 ·exact ⟨hF'.defers, hpost⟩
 ·exact ⟨hF'.defers, hpost⟩

theorem FinM.fin {fn : Func} {r : AV} {e : Exit} {k : Nat} {sc' : St} (he : e = .normal ∨ e = .ret) (hs : HS) (avs : List AV) (ob : List Prop) (h : resAll P fr st fn.results.toList hs = some (avs, ob)) (hob : AllP ob) (ht : st.take k = sc') (hi : stIds (fun id => Nat.ble (id + 1) k) sc' = true)
 (ha : AF st (fun id => Nat.ble (id + 1) k) (resAV avs) r) : FinM P fn r k sc' e fr st := ⟨he, hs, avs, ob, h, hob, ht, hi, ha⟩

end
end Go.SX
namespace Go.SX
open Go
set_option linter.unusedVariables false
set_option linter.unusedSimpArgs false

section
variable {P : Program} {n n0 : Nat} {loose an : List Nat} {Q : QT} {fr : Fr} {st : St} {c : Code} {ops : Array Oper} {l : List Oper}

end
end Go.SX
namespace Go.SX
open Go
set_option linter.unusedVariables false
set_option linter.unusedSimpArgs false

section
variable {P : Program} {n n0 : Nat} {loose an : List Nat} {Q : QT} {fr : Fr} {st : St} {c : Code} {ops : Array Oper} {l : List Oper}

theorem Wrote.refl (w : World) (b : Nat) : Wrote w w b := ⟨rfl, rfl, rfl, rfl, fun _ _ => rfl, fun c _ _ h => ⟨c, h, rfl⟩⟩

theorem FRel.same {ι ι' : IM} {w : World} {st' : St} {a : Act} (k : Keeps all ι w st ι' w st') (h : FRel n ι w st a fr) : FRel n ι' w st' a fr := h.mono' k

end
end Go.SX
namespace Go.SX
open Go
set_option linter.unusedVariables false
set_option linter.unusedSimpArgs false

structure KEnc (κ : Type) where
 enc : κ → Value
 desc : TypeDesc
 eq : κ → κ → Bool
 same : ∀ a b, Instr.sameNow desc (enc a) (enc b) = some (eq a b)
 bits : ∀ a b, eq a b = true → Instr.sameBits 10000 (enc b) (enc a) = true
 flat : ∀ (P : Program) (t : TypeId) (e : Bool) (a : κ) (w : World), P.underlying t = some desc → (Instr.checkKey e 10000 t (enc a)).run P w = .ok () w

structure EEnc (α : Type) where
 enc : α → Value
 pl : ∀ a, plain (enc a) = true

section
variable {κ α : Type} (K : KEnc κ) (E : EEnc α)

variable {P : Program} {n n0 : Nat} {loose an : List Nat} {Q : QT} {fr : Fr} {st : St} {c : Code} {ops : Array Oper} {l : List Oper}

/-! ### a new map -/

/-! ### reading -/

/-! ### writing -/

end
end Go.SX
namespace Go.SX
open Go
set_option linter.unusedVariables false
section
variable {P : Program} {n n0 : Nat} {loose : List Nat} {Q : QT} {fr : Fr} {st : St} {c : Code} {ops : Array Oper} {fn : Func} {p : List Nat}

def condX : Code → Operand
 | .cond x _ _ => x
 | _ => .const (.bool false)

theorem zq (h : ∀ K : Fr → St → Prop, (∀ f s, XW P n n0 loose (cd fn (p ++ [1])) Q f s → K f s) → XW P n n0 loose (cd fn (p ++ [0])) (thenQ K Q) fr st)
 (he : cd fn p = .seq (cd fn (p ++ [0])) (cd fn (p ++ [1])) := by kernel_rfl) : XW P n n0 loose (cd fn p) Q fr st := XW.seq he h

theorem zb (id : Nat) (h : XW P n n0 loose (cd fn (p ++ [0])) (blockQ id Q) fr st) (he : cd fn p = .block id (cd fn (p ++ [0])) := by kernel_rfl) : XW P n n0 loose (cd fn p) Q fr st := XW.block he h

theorem zs (h : Q .normal fr st) (he : c = .skip := by kernel_rfl) : XW P n n0 loose c Q fr st := XW.skip he h
theorem ze (h : Q .ret fr st) (he : c = .ret := by kernel_rfl) : XW P n n0 loose c Q fr st := XW.ret he h
theorem zx (id : Nat) (h : Q (.exit id) fr st) (he : c = .exit id := by kernel_rfl) : XW P n n0 loose c Q fr st := XW.exit he h
theorem zr (h : XO P n n0 loose (regOps c) (regOps c).toList Q fr st) (he : regKind c = some false := by kernel_rfl) : XW P n n0 loose c Q fr st := XW.reg he h
theorem zd {l : List Oper} (h : Q .normal fr st) (he : l = [] := by kernel_rfl) : XO P n n0 loose ops l Q fr st := XO.done he h

def chkP (o : Option (Exit × Fr × St × List Prop)) : Option (List Prop) := match o with
 | some (.normal, _, _, ob) => some ob
 | _ => none
def rF (o : Option (Exit × Fr × St × List Prop)) : Fr := match o with
 | some (_, f, _, _) => f
 | none => []
def rS (o : Option (Exit × Fr × St × List Prop)) : St := match o with
 | some (_, _, s, _) => s
 | none => []

theorem zo {l : List Oper} (an : List Nat) (k : Nat) (ts : List Nat) (hs : HS) (ob : List Prop) (hob : AllP ob)
  (hk : XO P n n0 loose ops (l.drop k) Q (rF (runP ts (evOps P n n0 loose an ops (l.take k) fr st hs))) (rS (runP ts (evOps P n n0 loose an ops (l.take k) fr st hs))))
  (h : chkP (runP ts (evOps P n n0 loose an ops (l.take k) fr st hs)) = some ob := by kernel_rfl) : XO P n n0 loose ops l Q fr st := by
 generalize hr : runP ts (evOps P n n0 loose an ops (l.take k) fr st hs) = r at *
 match r, h with
 | some (.normal, f, s, ob'), h =>
  obtain rfl := Option.some.inj h
  exact XO.go an k ts hs f s ob' hr hob hk

theorem zg {l : List Oper} (an : List Nat) (k : Nat) (ts : List Nat)
 (hk : XO P n n0 loose ops (l.drop k) Q (rF (runP ts (evOps P n n0 loose an ops (l.take k) fr st []))) (rS (runP ts (evOps P n n0 loose an ops (l.take k) fr st []))))
 (h : chkP (runP ts (evOps P n n0 loose an ops (l.take k) fr st [])) = some [] := by kernel_rfl) : XO P n n0 loose ops l Q fr st := zo an k ts [] [] trivial hk h

theorem zp {l : List Oper} (an : List Nat) (k : Nat) (ts : List Nat) (hs : HS) (fr' : Fr) (st' : St) (ob : List Prop) (hob : AllP ob)
 (hk : XO P n n0 loose ops (l.drop k) Q fr' st') (h : runP ts (evOps P n n0 loose an ops (l.take k) fr st hs) = some (.normal, fr', st', ob) := by kernel_rfl) : XO P n n0 loose ops l Q fr st := XO.go an k ts hs fr' st' ob h hob hk

theorem zt {l : List Oper} (t : Nat) {B b : Bool} (hB : B = b) (h : XO P n n0 loose ops l Q ((t, vb b) :: fr) st) (hl : lk fr t = vb B := by kernel_rfl) : XO P n n0 loose ops l Q fr st := XO.setb t b hl hB h

def pF (o : Option Fr) : Fr := o.getD []

theorem za {l : List Oper} {g : Nat} {avs : List AV} {r : AV} (h : PC P g avs r) (hk : XO P n n0 loose ops (l.drop 1) Q (pF (putHd n l r fr)) st) (hc : callHd P n ops l fr = some (g, avs) := by kernel_rfl) (hp : pureAs avs = true := by kernel_rfl) (hr : pureA r = true := by kernel_rfl)
  (hput : (putHd n l r fr).isSome = true := by kernel_rfl) : XO P n n0 loose ops l Q fr st := by
 obtain ⟨f, hf⟩ := Option.isSome_iff_exists.1 hput
 rw [hf] at hk
 exact XO.callp hc h hp hr hf hk

def dF (o : Option (Fr × List Prop)) : Fr := match o with
 | some (f, _) => f
 | none => []
def dO (o : Option (Fr × List Prop)) : Option (List Prop) := o.map (·.2)

theorem zyo {l : List Oper} {fr2 : Fr} (k : Nat) (hs : HS) (ob : List Prop) (hob : AllP ob) (hk : DX P n st ops (l.drop k) (dF (runD (evDs P n st ops (l.take k) fr hs))) fr2)
  (h : dO (runD (evDs P n st ops (l.take k) fr hs)) = some ob := by kernel_rfl) : DX P n st ops l fr fr2 := by
 generalize hr : runD (evDs P n st ops (l.take k) fr hs) = r at *
 match r, h with
 | some (f, ob'), h =>
  obtain rfl := Option.some.inj h
  exact DX.go k hs f ob' hr hob hk

theorem zyg {l : List Oper} {fr2 : Fr} (k : Nat) (hk : DX P n st ops (l.drop k) (dF (runD (evDs P n st ops (l.take k) fr []))) fr2)
 (h : dO (runD (evDs P n st ops (l.take k) fr [])) = some [] := by kernel_rfl) : DX P n st ops l fr fr2 := zyo k [] [] trivial hk h

theorem zyd {l : List Oper} {fr2 : Fr} (he : l = [] := by kernel_rfl) (hf : fr = fr2 := by kernel_rfl) : DX P n st ops l fr fr2 := by subst hf; exact DX.done he

theorem zw (m : Nat) (fr' : Fr) (hs : DX P n st (regOps c) ((regOps c).toList.take m) fr fr') (hk : XO P n n0 loose (regOps c) ((regOps c).toList.drop m) Q fr' st) (he : regKind c = some true := by kernel_rfl)
 (hm : ((drawOk (regOps c) && sufOk (regOps c) m) && P.follows .mixedOrders) = true := by kernel_rfl) : XW P n n0 loose c Q fr st := XW.drwS m fr' he hm hs hk

theorem zf {r : AV} {e : Exit} (avs : List AV) (ha : AF st (fun _ => false) (resAV avs) r) (h : resAll P fr st fn.results.toList [] = some (avs, []) := by kernel_rfl) (he : e = .normal ∨ e = .ret := by first | exact .inr rfl | exact .inl rfl) : FinP P fn r e fr st :=
 FinP.fin he [] avs [] h trivial ha

theorem zk {fr' : Fr} (ts : List Nat) (h : pickF ts fr = fr' := by kernel_rfl) : Sub n n0 loose fr st fr' st := Sub.pick ts h

def lob : HS → List Prop
 | [] => []
 | x :: l => (([x] : List (List PV))[0]? = some x) :: lob l
theorem lob_ok : ∀ hs : HS, AllP (lob hs)
 | [] => trivial
 | x :: l => ⟨rfl, lob_ok l⟩

theorem zu {l : List Oper} (an : List Nat) (k : Nat) (ts : List Nat) (hs : HS)
 (hk : XO P n n0 loose ops (l.drop k) Q (rF (runP ts (evOps P n n0 loose an ops (l.take k) fr st hs))) (rS (runP ts (evOps P n n0 loose an ops (l.take k) fr st hs))))
 (h : chkP (runP ts (evOps P n n0 loose an ops (l.take k) fr st hs)) = some (lob hs) := by kernel_rfl) : XO P n n0 loose ops l Q fr st := zo an k ts hs _ (lob_ok hs) hk h

theorem zv {l : List Oper} (an : List Nat) (k : Nat) (ts : List Nat) (hs : HS) (fr' : Fr) (st' : St)
 (hk : XO P n n0 loose ops (l.drop k) Q fr' st') (h : runP ts (evOps P n n0 loose an ops (l.take k) fr st hs) = some (.normal, fr', st', lob hs) := by kernel_rfl) : XO P n n0 loose ops l Q fr st := XO.go an k ts hs fr' st' _ h (lob_ok hs) hk

theorem zyp {l : List Oper} {fr2 : Fr} (k : Nat) (hs : HS) (fr' : Fr) (ob : List Prop) (hob : AllP ob) (hk : DX P n st ops (l.drop k) fr' fr2) (h : runD (evDs P n st ops (l.take k) fr hs) = some (fr', ob) := by kernel_rfl) : DX P n st ops l fr fr2 := DX.go k hs fr' ob h hob hk

theorem zW {β : Type} {b : Bool} {x y : Option β} {r : β} (h : ift b x y = some r) : (b = true ∧ x = some r) ∨ (b = false ∧ y = some r) := by
 cases b
 ·exact .inr ⟨rfl, h⟩
 ·exact .inl ⟨rfl, h⟩

theorem zC {β : Type} {t : Bool} {x y : Option β} {r : β} (hh : ift t x y = some r) (ht : t = true → x = some r → XW P n n0 loose (cd fn (p ++ [0])) Q fr st) (hf : t = false → y = some r → XW P n n0 loose (cd fn (p ++ [1])) Q fr st)
  (he : cd fn p = .cond (condX (cd fn p)) (cd fn (p ++ [0])) (cd fn (p ++ [1])) := by kernel_rfl) (hx : rv fr (condX (cd fn p)) = .one (.pv (.s (.bool t))) := by kernel_rfl) : XW P n n0 loose (cd fn p) Q fr st :=
 XW.cond he hx (fun q => ht q (by subst q; exact hh)) (fun q => hf q (by subst q; exact hh))

theorem zB {α β : Type} {o : Option α} {f : α → Option β} {r : β} (h : bnd o f = some r) : ∃ a, o = some a ∧ f a = some r := bnd_some h
theorem zG {β : Type} {q : Prop} [Decidable q] {x : Option β} {r : β} (h : grd q x = some r) : q ∧ x = some r := grd_some h

theorem zF {f : Nat} {args : List AV} {r : AV} (n : Nat) (fn : Func) (h : XW P n 0 [] (cd fn []) (FinP P fn r) (argsFr args 0) []) (hf : P.funcs[f]? = some fn := by kernel_rfl) (hb : fn.body = some (cd fn []) := by kernel_rfl) (hn : fn.ntmps = n := by kernel_rfl)
 (hl : Nat.ble args.length n = true := by rfl) : PC P f args r := PC.of hf hb hn (Nat.le_of_ble_eq_true hl) h

theorem zl {l : List Oper} (g : Nat) (avs : List AV) (r : AV) (fr1 : Fr) (h : PC P g avs r) (hk : XO P n n0 loose ops (l.drop 1) Q fr1 st) (hc : callHd P n ops l fr = some (g, avs) := by kernel_rfl) (hp : pureAs avs = true := by rfl) (hr : pureA r = true := by rfl)
 (hput : putHd n l r fr = some fr1 := by kernel_rfl) : XO P n n0 loose ops l Q fr st := XO.callp hc h hp hr hput hk

theorem numsOf_eK (xs : List Int) : numsOf ((eK .u8).els xs) = xs := by
 rw [(eK .u8).hels]
 simp only [numsOf, List.map_map]
 exact (List.map_congr_left (fun x _ => rfl)).trans (List.map_id xs)
theorem bytesOk_eK (xs : List Int) : bytesOk ((eK .u8).els xs) := by
 unfold bytesOk
 rw [numsOf_eK, (eK .u8).hels]; rfl
theorem strOf_eK (xs : List Int) : strOfEls ((eK .u8).els xs) = strOfNums xs := by
 unfold strOfEls
 rw [numsOf_eK]
end
end Go.SX
namespace Go.SX
open Go

structure FieldP (α : Type) where
 id : Int
 name : ByteArray
 need : Bool
 type : α

structure GType where
 kind : Int
 scale : Int
 fields : List (FieldP GType)

structure GValue where
 kind : Int
 n : Int
 scale : Int
 s : ByteArray
 items : List GValue

mutual
def GType.cells : GType → List PV
 | ⟨k, s, fs⟩ => [pi k, pi s, .ro (GType.fcells fs)]
def GType.fcells : List (FieldP GType) → List (List PV)
 | [] => []
 | f :: l => GType.fcell f :: GType.fcells l
def GType.fcell : FieldP GType → List PV
 | ⟨i, n, q, t⟩ => pi i :: .s (.string n) :: .s (.bool q) :: GType.cells t
end

mutual
def GValue.cells : GValue → List PV
 | ⟨k, n, sc, s, it⟩ => [pi k, pi n, pi sc, .s (.string s), .ro (GValue.lcells it)]
def GValue.lcells : List GValue → List (List PV)
 | [] => []
 | v :: l => GValue.cells v :: GValue.lcells l
end

end Go.SX
namespace Go.SX
open Go
set_option linter.unusedVariables false
set_option linter.unusedSimpArgs false
set_option linter.unnecessarySimpa false

structure Bulk where
 f : {H : Type} → DataW H → Nat
 one : ∀ {H : Type} (d : DataW H), 1 ≤ f d
 str : ∀ {H : Type} (b : List UInt8), b.length + 1 ≤ f (DataW.lit (H := H) (.string b))
 sl : ∀ {H : Type} (e s : List (DataW H)), (e.map f).sum + 1 ≤ f (.slice e s)
 ag : ∀ {H : Type} (ps : List (DataW H)), (ps.map f).sum + 1 ≤ f (.agg ps)

abbrev noMut : Nat → Prop := fun _ => False

def RdOk (w : World) (cs : List Value) (ps : List PV) : Prop :=
 cs.length = ps.length ∧ ∀ (j : Nat) v p, cs[j]? = some v → ps[j]? = some p → PRel noMut w v p

theorem RdOk.one {w : World} {v : Value} {p : PV} (h : PRel noMut w v p) : RdOk w [v] [p] := by
 refine ⟨rfl, fun j v' p' h1 h2 => ?_⟩
 cases j with
 | zero => simp at h1 h2; subst h1; subst h2; exact h
 | succ j => simp at h1

theorem RdOk.nil {w : World} : RdOk w [] [] := ⟨rfl, fun j v p h => by simp at h⟩

theorem RdOk.app {w : World} {cs : List Value} {p q : List PV} {n : Nat} (h : RdOk w (cs.take n) p) (k : RdOk w (cs.drop n) q) (hn : p.length = n) : RdOk w cs (p ++ q) := by
 have e : cs = cs.take n ++ cs.drop n := (List.take_append_drop n cs).symm
 refine ⟨?_, fun j v x h1 h2 => ?_⟩
 ·have h1 := h.1; have h2 := k.1
  rw [List.length_append, ← h1, ← h2, ← List.length_append, ← e]
 ·by_cases hj : j < n
  ·rw [List.getElem?_append_left (by omega)] at h2
   refine h.2 j v x ?_ h2
   rw [List.getElem?_take, if_pos hj]; exact h1
  ·rw [List.getElem?_append_right (by omega)] at h2
   refine k.2 (j - n) v x ?_ (by rw [← hn]; exact h2)
   rw [List.getElem?_drop, show n + (j - n) = j by omega]; exact h1

section
variable (B : Bulk) (P : Program)

def RdB (N : Nat) (t : TypeId) {α : Type} (cells : α → List PV) (wf : α → Prop) (size : α → Nat) : Prop :=
 ∀ ⦃H : Type⦄ ⦃enc : TypeId × Value → H⦄ ⦃w : World⦄ ⦃base : Nat⦄ ⦃spare : Nat → Bool⦄ ⦃held : Bool⦄ ⦃fuel : Nat⦄ ⦃cs : List Value⦄ ⦃d : DataW H⦄ ⦃ps : List MemPlace⦄,
  DataW.trod enc P w base spare held fuel t cs = some (d, ps) → B.f d ≤ N → ∃ x, RdOk w cs (cells x) ∧ wf x ∧ size x ≤ B.f d

variable {B P}

theorem RdB.int {N : Nat} {t : TypeId} {k : IntKind} (ht : P.underlying t = some (.int k)) : RdB B P N t (fun n : Int => [.s (.int k n)]) (fun n => k.min ≤ n ∧ n ≤ k.max) (fun _ => 1) := by
 intro H enc w base spare held fuel cs d ps h hN
 obtain ⟨n, rfl, hx, hw⟩ := DataW.trod_int ht h
 refine ⟨n, .one (.s _ rfl), ?_, B.one d⟩
 simpa [Lit.wf] using hw

theorem RdB.bool {N : Nat} {t : TypeId} (ht : P.underlying t = some .bool) : RdB B P N t (fun b : Bool => [.s (.bool b)]) (fun _ => True) (fun _ => 1) := by
 intro H enc w base spare held fuel cs d ps h hN
 obtain ⟨b, rfl, hx⟩ := DataW.trod_bool ht h
 exact ⟨b, .one (.s _ rfl), trivial, B.one d⟩

theorem RdB.str {N : Nat} {t : TypeId} (ht : P.underlying t = some .string) : RdB B P N t (fun s : ByteArray => [.s (.string s)]) (fun _ => True) (fun s => s.size + 1) := by
 intro H enc w base spare held fuel cs d ps h hN
 obtain ⟨s, rfl, hx, hs⟩ := DataW.trod_string ht h
 simp only [Prod.mk.injEq] at hx
 obtain ⟨rfl, rfl⟩ := hx
 refine ⟨s, .one (.s _ rfl), trivial, ?_⟩
 have := B.str (H := H) s.data.toList
 simpa using this

theorem cell_lt {w : World} {a : Addr} {v : Value} (h : w.cell? a = some v) : a.block < w.heap.size := by
 unfold World.cell? at h
 split at h
 ·rename_i h1; exact (Array.getElem?_eq_some_iff.1 h1).1
 ·cases h

theorem sum_ge {α : Type} {f : α → Nat} {l : List α} {x : α} (h : x ∈ l) : f x ≤ (l.map f).sum := by
 induction l with
 | nil => cases h
 | cons y l ih =>
  simp only [List.map_cons, List.sum_cons]
  rcases List.mem_cons.1 h with rfl | h
  ·omega
  ·have := ih h; omega

theorem choose_list {α β : Type} {q : Nat → α → β → Prop} : ∀ {l : List α} , (∀ (i : Nat) a, l[i]? = some a → ∃ b, q i a b) → ∃ bs : List β, bs.length = l.length ∧ ∀ (i : Nat) a b, l[i]? = some a → bs[i]? = some b → q i a b := by
 intro l
 induction l generalizing q with
 | nil => intro _; exact ⟨[], rfl, fun i a b h => by simp at h⟩
 | cons x l ih =>
  intro h
  obtain ⟨b0, h0⟩ := h 0 x rfl
  obtain ⟨bs, hl, hb⟩ := ih (q := fun i => q (i + 1)) (fun i a hi => h (i + 1) a (by simpa using hi))
  refine ⟨b0 :: bs, by simp [hl], fun i a b h1 h2 => ?_⟩
  cases i with
  | zero => simp at h1 h2; subst h1; subst h2; exact h0
  | succ i => exact hb i a b (by simpa using h1) (by simpa using h2)

theorem sum_le_of {α β : Type} {f : α → Nat} {g : β → Nat} : ∀ {l : List α} {m : List β}, m.length = l.length → (∀ (i : Nat) a b, l[i]? = some a → m[i]? = some b → g b ≤ f a) → (m.map g).sum ≤ (l.map f).sum
 | [], [], _, _ => by simp
 | [], _ :: _, h, _ => by simp at h
 | _ :: _, [], h, _ => by simp at h
 | a :: l, b :: m, h, hk => by
  have h0 := hk 0 a b rfl rfl
  have := sum_le_of (f := f) (g := g) (l := l) (m := m) (by simpa using h) (fun i x y h1 h2 => hk (i + 1) x y (by simpa using h1) (by simpa using h2))
  simp only [List.map_cons, List.sum_cons]
  omega

theorem RdB.slice {N : Nat} {t e : TypeId} {α : Type} {cells : α → List PV} {wf : α → Prop} {size : α → Nat} (ht : P.underlying t = some (.slice e)) (hc : ∀ x, (cells x).length = P.cellsOf e)
  (hpos : 0 < P.cellsOf e) (h : ∀ N', N' < N → RdB B P N' e cells wf size) :
  RdB B P N t (fun xs : List α => [.ro (xs.map cells)]) (fun xs => ∀ x ∈ xs, wf x) (fun xs => (xs.map size).sum + 1) := by
 intro H enc w base spare held fuel cs d ps hd hN
 rcases DataW.trod_slice ht hd with ⟨rfl, hx⟩ | ⟨a, len, cap, elems, rest, n, _, rfl, hx, hb, hl, hm, hlen, hel, _, _⟩
 ·exact ⟨[], .one .nl, by simp, by simpa using B.one d⟩
 simp only [Prod.mk.injEq] at hx
 obtain ⟨rfl, rfl⟩ := hx
 have hsum := B.sl (elems.map (·.1)) (rest.map (·.1))
 have hel' : ∀ (i : Nat) z, elems[i]? = some z → ∃ x : α, (∃ cs', w.cells? base (a.add (i * P.cellsOf e)) (P.cellsOf e) = some cs' ∧ RdOk w cs' (cells x)) ∧ wf x ∧ size x ≤ B.f z.1 := by
  intro i z hz
  have hi : i < len := by rw [← hlen]; exact (List.getElem?_eq_some_iff.1 hz).1
  have hk := hel i hi
  rw [hz] at hk
  obtain ⟨cs', h1, h2⟩ := Option.bind_eq_some_iff.1 hk
  have hle : B.f z.1 ≤ ((elems.map (·.1)).map B.f).sum := sum_ge (f := B.f) (List.mem_map.2 ⟨z, List.mem_of_getElem? hz, rfl⟩)
  obtain ⟨x, k1, k2, k3⟩ := h (B.f z.1) (by omega) (d := z.1) (ps := z.2) h2 (Nat.le_refl _)
  exact ⟨x, ⟨cs', h1, k1⟩, k2, k3⟩
 obtain ⟨xs, hxl, hxs⟩ := choose_list hel'
 have hxlen : xs.length = len := by omega
 have key : ∀ (i : Nat) x, xs[i]? = some x → ∃ z, elems[i]? = some z ∧ (∃ cs', w.cells? base (a.add (i * P.cellsOf e)) (P.cellsOf e) = some cs' ∧ RdOk w cs' (cells x)) ∧ wf x ∧ size x ≤ B.f z.1 := by
  intro i x hx
  have hi : i < elems.length := by rw [← hxl]; exact (List.getElem?_eq_some_iff.1 hx).1
  exact ⟨_, List.getElem?_eq_getElem hi, hxs i _ x (List.getElem?_eq_getElem hi) hx⟩
 refine ⟨xs, .one ?_, ?_, ?_⟩
 ·have hcell : ∀ (i : Nat) (ee : List PV) (j : Nat) c, (xs.map cells)[i]? = some ee → ee[j]? = some c → ∃ v, w.cell? (a.add (i * P.cellsOf e + j)) = some v ∧ PRel noMut w v c := by
   intro i ee j c h1 h2
   rw [List.getElem?_map, Option.map_eq_some_iff] at h1
   obtain ⟨x, hx, rfl⟩ := h1
   obtain ⟨z, _, ⟨cs', hcs, hrd⟩, _, _⟩ := key i x hx
   obtain ⟨_, hcl, hcc⟩ := World.cells?_some hcs
   have hj : j < P.cellsOf e := by rw [← hc x]; exact (List.getElem?_eq_some_iff.1 h2).1
   have := hcc j hj
   rw [add_add] at this
   have hget : cs'[j]? = some cs'[j] := List.getElem?_eq_getElem (by omega)
   exact ⟨cs'[j], this.trans hget, hrd.2 j _ c hget h2⟩
  have := PRel.ro (μ := noMut) (w := w) a cap (P.cellsOf e) (xs.map cells) (fun i j => (w.cell? (a.add (i * P.cellsOf e + j))).getD undef) (by simpa [hxlen] using hl)
   (fun ee he => by obtain ⟨x, _, rfl⟩ := List.mem_map.1 he; exact hc x)
   (fun hne => by
    refine ⟨?_, fun h => h⟩
    cases xs with
    | nil => simp at hne
    | cons x0 r0 =>
     have h0 : 0 < (cells x0).length := by rw [hc]; exact hpos
     obtain ⟨v, hv, _⟩ := hcell 0 (cells x0) 0 _ rfl (List.getElem?_eq_getElem h0)
     have := cell_lt hv
     rwa [add_block] at this)
   (fun i ee j c h1 h2 => by obtain ⟨v, hv, _⟩ := hcell i ee j c h1 h2; simp [hv])
   (fun i ee j c h1 h2 => by obtain ⟨v, hv, hr⟩ := hcell i ee j c h1 h2; simpa [hv] using hr)
  rw [List.length_map, hxlen] at this
  exact this
 ·intro x hx
  obtain ⟨i, hi, rfl⟩ := List.getElem_of_mem hx
  obtain ⟨_, _, _, k, _⟩ := key i _ (List.getElem?_eq_getElem hi)
  exact k
 ·have : (xs.map size).sum ≤ ((elems.map (·.1)).map B.f).sum := by
   rw [List.map_map]
   exact sum_le_of (f := B.f ∘ Prod.fst) (g := size) hxl (fun i z x h1 h2 => (hxs i z x h1 h2).2.2)
  show (xs.map size).sum + 1 ≤ _
  omega

def RdF (B : Bulk) (P : Program) (N : Nat) (off : Nat) (fs : List Field) {α : Type} (cells : α → List PV) (wf : α → Prop) (size : α → Nat) : Prop :=
 ∀ ⦃H : Type⦄ ⦃enc : TypeId × Value → H⦄ ⦃w : World⦄ ⦃base : Nat⦄ ⦃spare : Nat → Bool⦄ ⦃held : Bool⦄ ⦃n : Nat⦄ ⦃cs : List Value⦄ ⦃xs : List (DataW H × List MemPlace)⦄,
  xs.length = fs.length → (∀ (i : Nat) f, fs[i]? = some f → DataW.trod enc P w base spare held n f.type ((cs.drop f.offset).take (P.cellsOf f.type)) = xs[i]?) → ((xs.map (·.1)).map B.f).sum ≤ N →
  cs.length = off + (fs.map fun f => P.cellsOf f.type).sum →
  ∃ x, RdOk w (cs.drop off) (cells x) ∧ wf x ∧ size x ≤ ((xs.map (·.1)).map B.f).sum

theorem RdF.nil {N off : Nat} : RdF B P N off [] (fun _ : Unit => []) (fun _ => True) (fun _ => 0) := by
 intro H enc w base spare held n cs xs hl h hN hc
 refine ⟨(), ?_, trivial, Nat.zero_le _⟩
 have : cs.drop off = [] := by simp at hc ⊢; omega
 rw [this]
 exact .nil

theorem RdF.cons {N off : Nat} {f : Field} {fs : List Field} {α β : Type} {c1 : α → List PV} {w1 : α → Prop} {s1 : α → Nat} {c2 : β → List PV} {w2 : β → Prop} {s2 : β → Nat} (ho : f.offset = off) (hc : ∀ x, (c1 x).length = P.cellsOf f.type)
  (h : RdB B P N f.type c1 w1 s1) (k : RdF B P N (off + P.cellsOf f.type) fs c2 w2 s2) : RdF B P N off (f :: fs) (fun p : α × β => c1 p.1 ++ c2 p.2) (fun p => w1 p.1 ∧ w2 p.2) (fun p => s1 p.1 + s2 p.2) := by
 intro H enc w base spare held n cs xs hl hx hN hlen
 match xs, hl with
 | z :: zs, hl =>
  simp only [List.map_cons, List.sum_cons] at hN hlen ⊢
  have h0 := hx 0 f rfl
  obtain ⟨x, a1, a2, a3⟩ := h (d := z.1) (ps := z.2) h0 (by omega)
  obtain ⟨y, b1, b2, b3⟩ := k (xs := zs) (cs := cs) (by simpa using hl) (fun i g hg => hx (i + 1) g (by simpa using hg)) (by omega) (by omega)
  refine ⟨(x, y), ?_, ⟨a2, b2⟩, by simp only; omega⟩
  rw [ho] at a1
  refine RdOk.app (n := P.cellsOf f.type) a1 ?_ (hc x)
  rw [List.drop_drop]
  exact b1

theorem RdB.struct {N : Nat} {t : TypeId} {fs : Array Field} {α β : Type} {c : β → List PV} {wf : β → Prop} {s : β → Nat} {cells : α → List PV} {wf' : α → Prop} {size : α → Nat} (ht : P.underlying t = some (.struct fs)) (hsz : P.cellsOf t = 0 + (fs.toList.map fun f => P.cellsOf f.type).sum)
  (h : ∀ N', N' < N → RdF B P N' 0 fs.toList c wf s) (mk : β → α) (h1 : ∀ y, cells (mk y) = c y) (h2 : ∀ y, wf y → wf' (mk y)) (h3 : ∀ y, size (mk y) ≤ s y + 1) : RdB B P N t cells wf' size := by
 intro H enc w base spare held fuel cs d ps hd hN
 obtain ⟨xs, n, _, hx, hlen, hxl, hf⟩ := DataW.trod_struct ht hd
 simp only [Prod.mk.injEq] at hx
 obtain ⟨rfl, rfl⟩ := hx
 have hag := B.ag (xs.map (·.1))
 obtain ⟨y, a1, a2, a3⟩ := h _ (show ((xs.map (·.1)).map B.f).sum < N by omega) (xs := xs) (cs := cs) (by simpa using hxl) (fun i f hi => hf i f (by simpa using hi)) (Nat.le_refl _) (hlen.trans hsz)
 refine ⟨mk y, ?_, h2 y a2, ?_⟩
 ·rw [h1]; simpa using a1
 ·have := h3 y; omega

theorem RdB.conv {N : Nat} {t : TypeId} {α : Type} {c c' : α → List PV} {wf wf' : α → Prop} {s s' : α → Nat} (h : RdB B P N t c wf s) (h1 : ∀ x, c' x = c x) (h2 : ∀ x, wf x → wf' x) (h3 : ∀ x, s' x ≤ s x) : RdB B P N t c' wf' s' := by
 intro H enc w base spare held fuel cs d ps hd hN
 obtain ⟨x, a1, a2, a3⟩ := h hd hN
 exact ⟨x, by rw [h1]; exact a1, h2 x a2, Nat.le_trans (h3 x) a3⟩

end

/-! ### arguments -/

theorem PRel.toVRel {w : World} {v : Value} {p : PV} (h : PRel noMut w v p) : VRel ⟨fun _ => none, fun _ => False⟩ w [] v (.pv p) :=
 .pv v p (h.mono (Nat.le_refl _) (fun b _ _ => ⟨rfl, fun hm => by
  rcases hm with hm | ⟨id, o, h1, _, _⟩
  ·exact hm
  ·simp at h1⟩))

theorem arg_one {w : World} {v : Value} {p : PV} (h : RdOk w [v] [p]) : AVRel ⟨fun _ => none, fun _ => False⟩ w [] v (.one (.pv p)) := .one _ _ (h.2 0 v p rfl rfl).toVRel

theorem arg_read {B : Bulk} {P : Program} {H : Type} {enc : TypeId × Value → H} {w : World} {base b0 : Nat} {spare : Nat → Bool} {held : Bool} {r : Reach} {t : TypeId} {v : Value} {d : DataW H} {ps : List MemPlace} {α : Type} {cells : α → List PV} {wf : α → Prop} {size : α → Nat}
  (h : ∀ N, RdB B P N t cells wf size) (hval : Value.okWide P w r b0 t v) (hd : DataW.Trod enc P w base spare held t v d ps) :
  ∃ x, RdOk w v.cells.toList (cells x) ∧ wf x ∧ size x ≤ B.f d := by
 obtain ⟨fuel, hd⟩ := hd
 exact h _ hd (Nat.le_refl _)

theorem arg_cell {w : World} {v : Value} {p : PV} (h : RdOk w v.cells.toList [p]) (hv : ∀ cs, v ≠ .agg cs) : AVRel ⟨fun _ => none, fun _ => False⟩ w [] v (.one (.pv p)) := by
 have e : v.cells = #[v] := by cases v <;> first | rfl | exact absurd rfl (hv _)
 rw [e] at h
 exact arg_one h

theorem ok_cell {P : Program} {w : World} {r : Reach} {b0 : Nat} {t : TypeId} {v : Value} (ht : (match P.underlying t with | some (.int _) => true | some .bool => true | some .string => true | some (.slice _) => true | _ => false) = true) (hval : Value.okWide P w r b0 t v) : ∀ cs, v ≠ .agg cs := by
 rintro cs rfl
 cases hu : P.underlying t with
 | none => simp [hu] at ht
 | some d =>
  cases d <;> simp [hu] at ht <;> simp [Value.okWide, hu, Cell.okWide, Cell.ok] at hval

/-! ### closing -/

structure Kept (w w' : World) : Prop where
 os : w'.os = w.os
 output : w'.output = w.output
 size : w.heap.size ≤ w'.heap.size
 blk : ∀ b : Nat, b < w.heap.size → w'.heap[b]? = w.heap[b]?

theorem PC.call {P : Program} {f : Nat} {args : List AV} {r : AV} (h : PC P f args r) {w : World} {vs : List Value} (hl : vs.length = args.length) (hA : ∀ (j : Nat) v a, vs[j]? = some v → args[j]? = some a → AVRel ⟨fun _ => none, fun _ => False⟩ w [] v a) (hg : ∀ (b : Nat) (l : List Value), glob b = some l → b < w.heap.size ∧ ∀ (i : Nat) v, l[i]? = some v → w.cell? ⟨b, i, none⟩ = some v) :
  Calls P f vs.toArray w fun e w' => ∃ v ι', e = .returned v ∧ AVRel ι' w' [] v r ∧ Kept w w' := by
 refine (h ⟨fun _ => none, fun _ => False⟩ w vs ⟨fun id o h => by simp at h, fun b h => h.elim, fun b h => fun h' => h', fun id id' o o' b h => by simp at h, fun b o h => ⟨fun hm => hm.elim id (fun ⟨_, _, h1, _⟩ => by simp at h1), hg b o h⟩⟩ ⟨hl, hA⟩).mono ?_
 rintro e w' ⟨v, av, st', ι', rfl, ⟨rfl, rfl⟩, hR, hv, k⟩
 refine ⟨v, ι', rfl, hv, k.os, k.output, k.size, fun b hb => (k.blk b hb ?_).1⟩
 rintro ⟨id, o, h1, _⟩
 simp at h1

theorem Kept.keptBut {w w' : World} (k : Kept w w') (may : MemPlace → Prop) : w.keptBut w' may := by
 refine ⟨k.os, k.output, fun i hi => ?_⟩
 rw [k.blk i hi]
 have : w.heap[i]? = some w.heap[i] := Array.getElem?_eq_getElem hi
 rw [this]
 cases w.heap[i] with
 | cells c t fr => exact ⟨rfl, rfl, rfl, fun _ _ => rfl⟩
 | map es clock => exact .inr ⟨rfl, rfl⟩
 | _ => rfl

theorem Kept.frozen {w w' : World} (k : Kept w w') {b off : Nat} (hb : b < w.heap.size) : w'.frozen? ⟨b, off, none⟩ = w.frozen? ⟨b, off, none⟩ := by
 simp [World.frozen?, k.blk b hb]

open Go.ChangeShapes Go.WideElems Go.WideShapes in
theorem stays_all {H : Type} {enc : TypeId × Value → H} {P : Program} {W W' : World} (hl : laidOutB P = true) (k : Kept W W') {sp : Nat → Bool} : ∀ {ts : List TypeId} {vs : List Value} {ds : List (DataW H)} {ps : List MemPlace}, (ts.all fun t => P.readableRec t && Nat.ble (t + 1) P.types.size) = true →
  DataW.TrodAll enc P W 0 (fun _ => true) true ts vs ds ps → (∀ p ∈ ps, p.block < W.heap.size) → (∀ p ∈ ps, sp p.block = true) → DataW.TrodAll enc P W' 0 sp true ts vs ds ps
 | [], _, _, _, _, h, _, _ => by
  obtain ⟨rfl, rfl, rfl⟩ := trodAll_nil h
  exact rfl
 | t :: ts, _, _, _, hr, h, hp, hs => by
  obtain ⟨v, vs1, d, ds1, a, b, rfl, rfl, rfl, h1, h2⟩ := trodAll_cons h
  simp only [List.all_cons, Bool.and_eq_true] at hr
  refine ⟨a, b, Trod_stays hl hr.1.1 (Nat.le_of_ble_eq_true hr.1.2) h1 (fun p hpa => ?_) (fun p hpa => hs p (by simp [hpa])), stays_all hl k hr.2 h2 (fun p hpa => hp p (by simp [hpa])) (fun p hpa => hs p (by simp [hpa])), rfl⟩
  have := hp p (by simp [hpa])
  cases p with
  | cell b off => exact cell?_same (k.blk b this)
  | map b => exact k.blk b this

open Go.ChangeShapes Go.RowKit Go.WideShapes Go.ChangeAt in
theorem post_true {H : Type} {enc : TypeId × Value → H} {P : Program} {f : Func} {s : ChangeSpec} {apart fresh handsOn again : Bool} {W W' : World} {args : Array Value} {ds gs : List (DataW H)} {before : List MemPlace}
  (hW : DataW.Whole enc P f.params.toList s.vars apart W args.toList ds gs before) (hl : laidOutB P = true) (hr : (f.params.toList.all fun t => P.readableRec t && Nat.ble (t + 1) P.types.size) = true) (k : Kept W W')
  (hvars : s.vars = []) (t : TypeId) (ht : f.resultTypes = #[t]) (hb : P.underlying t = some .bool) (hsp : s.fn H ds = { results := [.lit (.bool true)], args := ds }) :
  s.post enc P f apart fresh handsOn again W args (.bool true) W' := by
 have hW' := hW
 have hlt : ∀ p ∈ before, p.block < W.heap.size := fun p hp => hW.lt p hp
 obtain ⟨p, q, hA, hV, rfl, hz, hn⟩ := hW'
 rw [hvars] at hV
 obtain ⟨rfl, rfl⟩ := trodVars_none hV
 have hres : ∀ (b : Nat) (sp : Nat → Bool) (hd : Bool), DataW.TrodAll enc P W' b sp hd f.resultTypes.toList ((Value.bool true).resultList f.resultTypes.size) [.lit (.bool true)] [] := by
  intro b sp hd
  rw [ht]
  exact trodAll_cons_mk (shut_bool hb _) trodAll_mk0
 simp only [List.append_nil] at *
 have hargs : ∀ sp : Nat → Bool, (∀ x ∈ p, sp x.block = true) → DataW.TrodAll enc P W' 0 sp true f.params.toList args.toList ds p := fun sp hs => stays_all hl k hr hA hlt hs
 have hold : ∀ x ∈ p, (fun b => decide (b < W.heap.size)) x.block = true := fun x hx => by simpa using hlt x hx
 refine ⟨ds, [], p, [], p, [], by simpa using hW, ?_, ?_, ?_, k.keptBut _, fun _ => ⟨?_, [.lit (.bool true)] ++ ds, [], p, ⟨p, [], ?_, ?_, by simp, ?_, hn⟩, ?_⟩⟩
 ·simp only [List.append_nil, hsp]; exact hres _ _ _
 ·simp only [List.append_nil, hsp]; exact hargs _ hold
 ·simp only [List.append_nil, hsp, hvars]; rfl
 ·exact ok_one ht rfl (okWide_bool_mk hb _)
 ·have := trodAll_append (hargs (fun _ => true) (fun _ _ => rfl)) (hres 0 (fun _ => true) true)
  simpa using this
 ·rw [hvars]; rfl
 ·intro b off hp
  rw [k.frozen (b := b) (off := off) (hlt _ hp)]
  exact hz b off hp
 ·intro x hx _; exact hx

theorem bool_of {ι : IM} {w : World} {v : Value} {b : Bool} (h : AVRel ι w [] v (.one (.pv (.s (.bool b))))) : v = .bool b := by
 cases h with
 | one _ _ h =>
  cases h with
  | pv _ _ h => cases h with | s => rfl

end Go.SX
namespace Go.SX
open Go
set_option linter.unusedVariables false

section
variable {B : Bulk} {P : Program}

end

end Go.SX
namespace Go.SX
open Go
set_option linter.unusedVariables false

abbrev i64ok (n : Int) : Prop := IntKind.min .i64 ≤ n ∧ n ≤ IntKind.max .i64

end Go.SX
namespace Go.SX
open Go
set_option linter.unusedVariables false
set_option linter.unusedSimpArgs false

end Go.SX
namespace Go.SX
open Go
set_option linter.unusedVariables false
set_option linter.unusedSimpArgs false

end Go.SX
namespace Go.SX
open Go
set_option linter.unusedVariables false

theorem sum_ones : ∀ xs : List Int, (xs.map (fun _ => (1 : Nat))).sum = xs.length
 | [] => rfl
 | x :: l => by rw [List.map_cons, List.sum_cons, sum_ones l, List.length_cons]; omega

theorem rdInts {B : Bulk} {P : Program} (tl ti : TypeId) (hl : P.underlying tl = some (.slice ti)) (hi : P.underlying ti = some (.int .i64)) (hz : P.cellsOf ti = 1) (N : Nat) :
  RdB B P N tl (fun xs : List Int => [PV.ro (eI.els xs)]) (fun xs => ∀ x ∈ xs, i64ok x) (fun xs => xs.length) := by
 refine RdB.conv (RdB.slice (e := ti) (cells := fun n : Int => [PV.s (.int .i64 n)]) hl (fun x => by rw [hz]; rfl) (by rw [hz]; omega) (fun N' _ => RdB.int hi)) (fun x => rfl) (fun x h => h) (fun xs => ?_)
 rw [sum_ones]; omega

theorem rdBytes {B : Bulk} {P : Program} (tl ti : TypeId) (hl : P.underlying tl = some (.slice ti)) (hi : P.underlying ti = some (.int .u8)) (hz : P.cellsOf ti = 1) (N : Nat) :
  RdB B P N tl (fun xs : List Int => [PV.ro ((eK .u8).els xs)]) (fun xs => ∀ x ∈ xs, IntKind.min .u8 ≤ x ∧ x ≤ IntKind.max .u8) (fun xs => xs.length) := by
 refine RdB.conv (RdB.slice (e := ti) (cells := fun n : Int => [PV.s (.int .u8 n)]) hl (fun x => by rw [hz]; rfl) (by rw [hz]; omega) (fun N' _ => RdB.int hi)) (fun x => rfl) (fun x h => h) (fun xs => ?_)
 rw [sum_ones]; omega

end Go.SX
