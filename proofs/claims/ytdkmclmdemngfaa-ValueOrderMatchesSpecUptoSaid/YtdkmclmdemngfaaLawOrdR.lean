/- What the reference compares. -/
import Derived.Test.YtdkmclmdemngfaaLawOrd4
namespace Go.Proofs.Ytdkmclmdemngfaa
open Go Go.SX Go.SX.Cal
set_option linter.unusedVariables false
set_option linter.unusedSimpArgs false

theorem order_eq (a b : Int) : ref1_order a b = some (c3 a b) := by
  unfold ref1_order c3
  by_cases h : a < b
  · simp [h, ift_ite]
  · by_cases k : b < a <;> simp [h, k, ift_ite]

theorem rwithinO (a b c : Int) : ref1_within a b c = some (decide (b ≤ a ∧ a ≤ c)) := withinO a b c

/-! ### digits -/

/-- the number of digits, the lowest one first -/
def dval : List Int → Int
  | [] => 0
  | d :: l => d + 10 * dval l

def digs (l : List Int) : Prop := ∀ d ∈ l, 0 ≤ d ∧ d ≤ 9

/-- no zero at the top -/
def top (l : List Int) : Prop := ∀ d, l.getLast? = some d → d ≠ 0

theorem dval_nonneg : ∀ {l : List Int}, digs l → 0 ≤ dval l
  | [], _ => by simp [dval]
  | d :: l, h => by
    have h1 := h d (by simp)
    have h2 := dval_nonneg (l := l) (fun x hx => h x (by simp [hx]))
    simp only [dval]; omega

theorem p10n : ∀ n, 0 < p10 n := fun n => by have := p10_pos n; omega

theorem dval_lt : ∀ {l : List Int}, digs l → dval l < p10 l.length
  | [], _ => by simp [dval, p10]
  | d :: l, h => by
    have h1 := h d (by simp)
    have h2 := dval_lt (l := l) (fun x hx => h x (by simp [hx]))
    simp only [dval, List.length_cons, p10]; omega

theorem dval_ge : ∀ {l : List Int}, digs l → top l → l ≠ [] → p10 (l.length - 1) ≤ dval l
  | [], _, _, h => absurd rfl h
  | [d], h, ht, _ => by
    have h1 := h d (by simp)
    have h2 := ht d (by simp)
    simp [dval, p10]; omega
  | d :: e :: l, h, ht, _ => by
    have h1 := h d (by simp)
    have h2 := dval_ge (l := e :: l) (fun x hx => h x (by simp [hx])) (fun x hx => ht x (by simpa using hx)) (by simp)
    simp only [List.length_cons] at h2 ⊢
    rw [show l.length + 1 + 1 - 1 = (l.length + 1 - 1) + 1 by omega]
    simp only [p10]
    rw [dval]
    omega

theorem p10_mono {m n : Nat} (h : m ≤ n) : p10 m ≤ p10 n := by
  induction n with
  | zero => have : m = 0 := by omega
            subst this; exact Int.le_refl _
  | succ n ih =>
    by_cases e : m = n + 1
    · subst e; exact Int.le_refl _
    · have h1 := ih (by omega)
      have h2 := p10n n
      simp only [p10]; omega

theorem dval_append : ∀ (l m : List Int), dval (l ++ m) = dval l + p10 l.length * dval m
  | [], m => by simp [dval, p10]
  | d :: l, m => by
    simp only [List.cons_append, dval, dval_append l m, List.length_cons, p10]
    rw [Int.mul_add, ← Int.mul_assoc, Int.mul_comm 10 (p10 l.length)]; omega

theorem dval_zeros (k : Nat) : dval (List.replicate k 0) = 0 := by
  induction k with
  | zero => rfl
  | succ k ih => simp [List.replicate_succ, dval, ih]

/-- digits of one length: the highest difference decides -/
theorem most_loop {a b : List Int} (ha : digs a) (hb : digs b) (hl : a.length = b.length) (hbig : a.length < 1000000) : ∀ (k i : Nat), i ≤ a.length → i < k → dval (a.drop i) = dval (b.drop i) →
    ∃ r, ref1_most_l1 a b k ((i : Int) - 1) = some r ∧ -9 ≤ r ∧ r ≤ 9 ∧ c3 r 0 = c3 (dval a) (dval b) := by
  intro k
  induction k with
  | zero => intro i h1 h2; omega
  | succ k ih =>
    intro i h1 h2 he
    rw [ref1_most_l1]
    cases i with
    | zero =>
      rw [show decide ((0 : Int) ≤ ((0 : Nat) : Int) - 1) = false from rfl, ift_false]
      simp only [List.drop_zero] at he
      exact ⟨0, rfl, by omega, by omega, by rw [he, c3_self, c3_self]⟩
    | succ i =>
      have hia : i < a.length := by omega
      have hib : i < b.length := by omega
      have e1 : ((i + 1 : Nat) : Int) - 1 = (i : Int) := by omega
      have aa : at? a (i : Int) = some a[i] := by unfold at?; simp [hia]
      have bb : at? b (i : Int) = some b[i] := by unfold at?; simp [hib]
      rw [e1, show decide ((0 : Int) ≤ (i : Int)) = true by simp, ift_true, aa, bb]
      simp only [bnd_eq]
      have da : a.drop i = a[i] :: a.drop (i + 1) := List.drop_eq_getElem_cons hia
      have db : b.drop i = b[i] :: b.drop (i + 1) := List.drop_eq_getElem_cons hib
      have ra := ha a[i] (List.getElem_mem hia)
      have rb := hb b[i] (List.getElem_mem hib)
      by_cases hne : a[i] = b[i]
      · rw [show (a[i] != b[i]) = false by simp [hne], ift_false, w64 (by omega) (by omega)]
        refine ih i (by omega) (by omega) ?_
        rw [da, db]; simp only [dval]; omega
      · rw [show (a[i] != b[i]) = true by simp [hne], ift_true, w64 (by omega) (by omega)]
        refine ⟨_, rfl, by omega, by omega, ?_⟩
        have va : dval a = dval (a.take i) + p10 i * dval (a.drop i) := by
          have := dval_append (a.take i) (a.drop i)
          rw [List.take_append_drop, List.length_take, Nat.min_eq_left (by omega)] at this
          exact this
        have vb : dval b = dval (b.take i) + p10 i * dval (b.drop i) := by
          have := dval_append (b.take i) (b.drop i)
          rw [List.take_append_drop, List.length_take, Nat.min_eq_left (by omega)] at this
          exact this
        have la := dval_lt (l := a.take i) (fun x hx => ha x (List.mem_of_mem_take hx))
        have lb := dval_lt (l := b.take i) (fun x hx => hb x (List.mem_of_mem_take hx))
        have na := dval_nonneg (l := a.take i) (fun x hx => ha x (List.mem_of_mem_take hx))
        have nb := dval_nonneg (l := b.take i) (fun x hx => hb x (List.mem_of_mem_take hx))
        rw [List.length_take, Nat.min_eq_left (by omega)] at la lb
        rw [da] at va; rw [db] at vb
        simp only [dval] at va vb
        have hp := p10n i
        have key : p10 i * (a[i] + 10 * dval (a.drop (i + 1))) - p10 i * (b[i] + 10 * dval (b.drop (i + 1))) = p10 i * (a[i] - b[i]) := by
          rw [← Int.mul_sub, he]; congr 1; omega
        unfold c3
        rcases Int.lt_or_gt_of_ne hne with hlt | hgt
        · have : p10 i * (a[i] - b[i]) ≤ p10 i * (-1) := Int.mul_le_mul_of_nonneg_left (by omega) (by omega)
          rw [if_pos (by omega), if_pos (by omega)]
        · have : p10 i * 1 ≤ p10 i * (a[i] - b[i]) := Int.mul_le_mul_of_nonneg_left (by omega) (by omega)
          rw [if_neg (by omega), if_pos (by omega), if_neg (by omega), if_pos (by omega)]

theorem most_eq {a b : List Int} (ha : digs a) (hb : digs b) (ta : top a) (tb : top b) (la : a.length < 1000) (lb : b.length < 1000) : ∃ r, ref1_most a b = some r ∧ -1000 ≤ r ∧ r ≤ 1000 ∧ c3 r 0 = c3 (dval a) (dval b) := by
  unfold ref1_most
  by_cases hl : a.length = b.length
  · rw [show ((a.length : Int) != (b.length : Int)) = false by simp [hl], ift_false, w64 (by omega) (by omega)]
    obtain ⟨r, h1, h2, h3, h4⟩ := most_loop ha hb hl (by omega) BIG a.length (Nat.le_refl _) (by rw [big_val]; omega) (by rw [List.drop_length, hl, List.drop_length])
    exact ⟨r, h1, by omega, by omega, h4⟩
  · have hne : ((a.length : Int) != (b.length : Int)) = true := by simp; omega
    rw [hne, ift_true, w64 (by omega) (by omega)]
    refine ⟨_, rfl, by omega, by omega, ?_⟩
    have l1 := dval_lt ha
    have l2 := dval_lt hb
    rcases Nat.lt_or_gt_of_ne hl with h | h
    · have g := dval_ge hb tb (by rintro rfl; simp at h)
      have := p10_mono (show a.length ≤ b.length - 1 by omega)
      unfold c3; rw [if_pos (by omega), if_pos (by omega)]
    · have g := dval_ge ha ta (by rintro rfl; simp at h)
      have := p10_mono (show b.length ≤ a.length - 1 by omega)
      unfold c3; rw [if_neg (by omega), if_pos (by omega), if_neg (by omega), if_pos (by omega)]

/-- what stands for an integer -/
structure RW (r : RWide) (n : Int) : Prop where
  dg : digs r.d
  tp : top r.d
  ln : r.d.length < 100
  vl : (if r.below = true then -dval r.d else dval r.d) = n
  bl : r.below = true → 0 < dval r.d

theorem rcompare_eq {a b : RWide} {m n : Int} (ha : RW a m) (hb : RW b n) : ref1_compareWide a b = some (c3 m n) := by
  obtain ⟨da, ta, la, va, ba⟩ := ha
  obtain ⟨db, tb, lb, vb, bb⟩ := hb
  have pa := dval_nonneg da
  have pb := dval_nonneg db
  obtain ⟨r, h1, h2, h3, h4⟩ := most_eq da db ta tb (by omega) (by omega)
  unfold ref1_compareWide
  rw [h1]
  simp only [bnd_eq]
  have fin : ∀ x : Int, ref1_compareWide_j1 x = some (c3 x 0) := by
    intro x
    unfold ref1_compareWide_j1 c3
    by_cases h : x < 0
    · simp [h, ift_ite]
    · by_cases k : 0 < x <;> simp [h, k, ift_ite]
  by_cases hs : a.below = b.below
  · rw [show (!(a.below == b.below)) = false by simp [hs], ift_false, w64 (by omega) (by omega), fin, fin]
    rw [← hs] at vb
    cases hbel : a.below with
    | true =>
      rw [ift_true]
      rw [hbel] at va vb
      simp only [if_true] at va vb
      congr 1
      subst va; subst vb
      have e : c3 (0 - r) 0 = -c3 r 0 := by unfold c3; by_cases x1 : r < 0 <;> by_cases x2 : 0 < r <;> simp [x1, x2] <;> omega
      have e2 : c3 (-dval a.d) (-dval b.d) = -c3 (dval a.d) (dval b.d) := by unfold c3; by_cases x1 : dval a.d < dval b.d <;> by_cases x2 : dval b.d < dval a.d <;> simp [x1, x2] <;> omega
      rw [e, e2, h4]
    | false =>
      rw [ift_false]
      rw [hbel] at va vb
      simp only [Bool.false_eq_true, if_false] at va vb
      subst va; subst vb
      rw [h4]
  · have hb2 := (bool_ne a.below b.below hs)
    rw [hb2.1, ift_true]
    cases hbel : a.below with
    | true =>
      have hb0 : b.below = false := by have := hb2.2; rw [hbel] at this; simpa using this
      rw [ift_true]
      rw [hbel] at va; rw [hb0] at vb
      simp only [if_true, Bool.false_eq_true, if_false] at va vb
      have := ba hbel
      unfold c3; rw [if_pos (by omega)]
    | false =>
      have hb0 : b.below = true := by have := hb2.2; rw [hbel] at this; simpa using this
      rw [ift_false]
      rw [hbel] at va; rw [hb0] at vb
      simp only [if_true, Bool.false_eq_true, if_false] at va vb
      have := bb hb0
      unfold c3; rw [if_neg (by omega), if_pos (by omega)]

end Go.Proofs.Ytdkmclmdemngfaa
