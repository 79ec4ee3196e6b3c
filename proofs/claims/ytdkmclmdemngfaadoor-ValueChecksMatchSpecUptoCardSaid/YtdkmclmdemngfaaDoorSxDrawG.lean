/- SX: regions whose order is open, with operations that make and change objects. -/
import Derived.Test.YtdkmclmdemngfaaDoorSxMask
namespace Go.SX
open Go
set_option linter.unusedVariables false
set_option linter.unusedSimpArgs false
set_option linter.unnecessarySimpa false

def inL (l : List Nat) (i : Nat) : Bool := l.any (Nat.beq i)

theorem inL_iff {l : List Nat} {i : Nat} : inL l i = true ↔ i ∈ l := by
  simp only [inL, List.any_eq_true]
  constructor
  · rintro ⟨x, hx, h⟩; rw [Nat.eq_of_beq_eq_true h]; exact hx
  · intro h; exact ⟨i, h, Nat.beq_refl i⟩

def junk (q : Nat → Bool) (a : AV) : AV := bif idsA (fun id => !q id) a then a else .j

theorem idsA_mono {q r : Nat → Bool} (h : ∀ i, q i = true → r i = true) : ∀ a : AV, idsA q a = true → idsA r a = true
  | .j, _ => rfl
  | .one c, hi => hc c hi
  | .ag cs, hi => hl cs hi
  | .tp vs, hi => by simp only [idsA] at hi ⊢; exact go vs hi
  where
  hc : ∀ c : CV, idsC q c = true → idsC r c = true
    | .pv _, _ => rfl
    | .pt id _ _ _, hi => h id hi
    | .mp id, hi => h id hi
    | .sl id _ _ _, hi => h id hi
    | .fn _ caps, hi => by simp only [idsC] at hi ⊢; exact hg caps hi
  hg : ∀ l : List CV, idsC.go q l = true → idsC.go r l = true
    | [], _ => rfl
    | c :: l, hi => by simp only [idsC.go, Bool.and_eq_true] at hi ⊢; exact ⟨hc c hi.1, hg l hi.2⟩
  hl : ∀ l : List CV, idsL q l = true → idsL r l = true
    | [], _ => rfl
    | c :: l, hi => by simp only [idsL, Bool.and_eq_true] at hi ⊢; exact ⟨hc c hi.1, hl l hi.2⟩
  go : ∀ l : List AV, idsA.go q l = true → idsA.go r l = true
    | [], _ => rfl
    | a :: l, hi => by simp only [idsA.go, Bool.and_eq_true] at hi ⊢; exact ⟨idsA_mono h a hi.1, go l hi.2⟩

theorem junk_cases (q : Nat → Bool) (a : AV) : junk q a = a ∨ junk q a = .j := by
  unfold junk; cases idsA (fun id => !q id) a <;> simp

theorem junk_j (q : Nat → Bool) : junk q .j = .j := rfl

theorem junk_comm (q r : Nat → Bool) (a : AV) : junk q (junk r a) = junk r (junk q a) := by
  unfold junk
  cases h1 : idsA (fun id => !q id) a <;> cases h2 : idsA (fun id => !r id) a <;> simp [h1, h2, idsA]

theorem junk_keep {q T : Nat → Bool} {a : AV} (hT : idsA T a = true) (h : ∀ id, q id = true → T id = false) : junk q a = a := by
  unfold junk
  rw [idsA_mono (r := fun id => !q id) (fun i hi => by
    cases hq : q i with
    | false => rfl
    | true => rw [h i hq] at hi; cases hi) a hT]
  rfl

/-! ### what the listed operations have made, in the order of the text -/

section
variable (fr0 : Nat → AV) (s0 : Nat → Option Body) (dst : Nat → Option Nat) (av : Nat → AV) (mv wr : Nat → Nat → Bool) (nb : Nat → Nat → Option Body)

def gJ (D : Nat → Bool) : Nat → Nat → AV
  | 0, t => fr0 t
  | k + 1, t => if D k = true then (if dst k = some t then av k else junk (mv k) (gJ D k t)) else gJ D k t

def sJ (D : Nat → Bool) : Nat → Nat → Option Body
  | 0, id => s0 id
  | k + 1, id => if D k = true ∧ wr k id = true then nb k id else sJ D k id

variable {fr0 s0 dst av mv wr nb} {tch : Nat → Nat → Bool} {D : Nat → Bool} {i N : Nat}

theorem gJ_look {t : Nat} (hi : i < N) (hDi : D i = false) (hT : idsA (tch i) (gJ fr0 dst av mv (fun _ => true) i t) = true)
    (h1 : ∀ j, j < i → D j = false → dst j ≠ some t) (h2 : ∀ j, i < j → j < N → D j = true → dst j ≠ some t ∧ ∀ id, mv j id = true → tch i id = false) :
    gJ fr0 dst av mv (fun _ => true) i t = .j ∨ gJ fr0 dst av mv D N t = gJ fr0 dst av mv (fun _ => true) i t := by
  have a1 : ∀ k, k ≤ i → gJ fr0 dst av mv (fun _ => true) k t = .j ∨ gJ fr0 dst av mv D k t = gJ fr0 dst av mv (fun _ => true) k t := by
    intro k
    induction k with
    | zero => intro _; exact .inr rfl
    | succ k ih =>
      intro hk
      simp only [gJ, if_true]
      cases hD : D k with
      | true =>
        simp only [if_true]
        by_cases hd : dst k = some t
        · rw [if_pos hd, if_pos hd]; exact .inr rfl
        · rw [if_neg hd, if_neg hd]
          rcases ih (by omega) with h | h
          · left; rw [h]; rfl
          · right; rw [h]
      | false =>
        have hd := h1 k (by omega) hD
        simp only [Bool.false_eq_true, if_false]
        rw [if_neg hd]
        rcases ih (by omega) with h | h
        · left; rw [h]; rfl
        · rcases junk_cases (mv k) (gJ fr0 dst av mv (fun _ => true) k t) with e | e
          · right; rw [e]; exact h
          · left; exact e
  rcases a1 i (Nat.le_refl _) with h | h
  · exact .inl h
  right
  have a2 : ∀ k, i + k ≤ N → gJ fr0 dst av mv D (i + k) t = gJ fr0 dst av mv D i t := by
    intro k
    induction k with
    | zero => intro _; rfl
    | succ k ih =>
      intro hk
      have e := ih (by omega)
      show gJ fr0 dst av mv D (i + k + 1) t = _
      simp only [gJ]
      cases hD : D (i + k) with
      | false => simp only [Bool.false_eq_true, if_false]; exact e
      | true =>
        have hki : i < i + k := by
          cases k with
          | zero => rw [Nat.add_zero, hDi] at hD; cases hD
          | succ k => omega
        obtain ⟨x1, x2⟩ := h2 (i + k) hki (by omega) hD
        simp only [if_true]
        rw [if_neg x1, e, h]
        exact junk_keep hT x2
  have := a2 (N - i) (by omega)
  rw [show i + (N - i) = N by omega] at this
  rw [this, h]

theorem gJ_put {t : Nat} (hi : i < N) (hDi : D i = false) (hTi : idsA (tch i) (av i) = true) (hTk : ∀ k, i < k → k < N → D k = true → idsA (tch k) (av k) = true)
    (h2 : ∀ j, i < j → j < N → D j = true → (∀ d, dst i = some d → dst j ≠ some d) ∧ (∀ id, mv j id = true → tch i id = false) ∧ (∀ id, mv i id = true → tch j id = false)) :
    gJ fr0 dst av mv (fun j => if j = i then true else D j) N t = if dst i = some t then av i else junk (mv i) (gJ fr0 dst av mv D N t) := by
  have a1 : ∀ k, k ≤ i → gJ fr0 dst av mv (fun j => if j = i then true else D j) k t = gJ fr0 dst av mv D k t := by
    intro k
    induction k with
    | zero => intro _; rfl
    | succ k ih =>
      intro hk
      simp only [gJ]
      have hne : ¬ k = i := by omega
      simp only [hne, if_false]
      rw [ih (by omega)]
  have a2 : ∀ k, i + 1 + k ≤ N → gJ fr0 dst av mv (fun j => if j = i then true else D j) (i + 1 + k) t = if dst i = some t then av i else junk (mv i) (gJ fr0 dst av mv D (i + 1 + k) t) := by
    intro k
    induction k with
    | zero =>
      intro _
      simp only [Nat.add_zero, gJ, if_true, hDi, Bool.false_eq_true, if_false]
      rw [a1 i (Nat.le_refl _)]
    | succ k ih =>
      intro hk
      have e := ih (by omega)
      show gJ fr0 dst av mv _ (i + 1 + k + 1) t = if dst i = some t then av i else junk (mv i) (gJ fr0 dst av mv D (i + 1 + k + 1) t)
      simp only [gJ]
      have hne : ¬ i + 1 + k = i := by omega
      simp only [hne, if_false]
      cases hD : D (i + 1 + k) with
      | false => simp only [Bool.false_eq_true, if_false]; exact e
      | true =>
        obtain ⟨x1, x2, x3⟩ := h2 (i + 1 + k) (by omega) (by omega) hD
        simp only [if_true]
        by_cases hd : dst (i + 1 + k) = some t
        · rw [if_pos hd, if_pos hd]
          by_cases hdi : dst i = some t
          · exact absurd hd (x1 t hdi)
          · rw [if_neg hdi, junk_keep (hTk _ (by omega) (by omega) hD) x3]
        · rw [if_neg hd, if_neg hd, e]
          by_cases hdi : dst i = some t
          · rw [if_pos hdi, if_pos hdi]; exact junk_keep hTi x2
          · rw [if_neg hdi, if_neg hdi]; exact junk_comm _ _ _
  have := a2 (N - (i + 1)) (by omega)
  rwa [show i + 1 + (N - (i + 1)) = N by omega] at this

theorem sJ_look {id : Nat} (hi : i < N) (hDi : D i = false) (h1 : ∀ j, j < i → D j = false → wr j id = false) (h2 : ∀ j, i < j → j < N → D j = true → wr j id = false) :
    sJ s0 wr nb D N id = sJ s0 wr nb (fun _ => true) i id := by
  have a1 : ∀ k, k ≤ i → sJ s0 wr nb D k id = sJ s0 wr nb (fun _ => true) k id := by
    intro k
    induction k with
    | zero => intro _; rfl
    | succ k ih =>
      intro hk
      simp only [sJ, true_and]
      cases hD : D k with
      | true => simp only [true_and]; rw [ih (by omega)]
      | false =>
        rw [h1 k (by omega) hD]
        simp only [Bool.false_eq_true, false_and, if_false]
        exact ih (by omega)
  have a2 : ∀ k, i + k ≤ N → sJ s0 wr nb D (i + k) id = sJ s0 wr nb D i id := by
    intro k
    induction k with
    | zero => intro _; rfl
    | succ k ih =>
      intro hk
      show sJ s0 wr nb D (i + k + 1) id = _
      simp only [sJ]
      rw [if_neg, ih (by omega)]
      rintro ⟨hD, hw⟩
      have hki : i < i + k := by
        cases k with
        | zero => rw [Nat.add_zero, hDi] at hD; cases hD
        | succ k => omega
      rw [h2 _ hki (by omega) hD] at hw
      cases hw
  have := a2 (N - i) (by omega)
  rw [show i + (N - i) = N by omega] at this
  rw [this, a1 i (Nat.le_refl _)]

theorem sJ_put {id : Nat} (hi : i < N) (hDi : D i = false) (h2 : ∀ j, i < j → j < N → D j = true → wr i id = true → wr j id = false) :
    sJ s0 wr nb (fun j => if j = i then true else D j) N id = if wr i id = true then nb i id else sJ s0 wr nb D N id := by
  have a1 : ∀ k, k ≤ i → sJ s0 wr nb (fun j => if j = i then true else D j) k id = sJ s0 wr nb D k id := by
    intro k
    induction k with
    | zero => intro _; rfl
    | succ k ih =>
      intro hk
      simp only [sJ]
      have hne : ¬ k = i := by omega
      simp only [hne, if_false]
      rw [ih (by omega)]
  have a2 : ∀ k, i + 1 + k ≤ N → sJ s0 wr nb (fun j => if j = i then true else D j) (i + 1 + k) id = if wr i id = true then nb i id else sJ s0 wr nb D (i + 1 + k) id := by
    intro k
    induction k with
    | zero =>
      intro _
      simp only [Nat.add_zero, sJ, if_true, true_and, hDi, Bool.false_eq_true, false_and, if_false]
      rw [a1 i (Nat.le_refl _)]
    | succ k ih =>
      intro hk
      have e := ih (by omega)
      show sJ s0 wr nb _ (i + 1 + k + 1) id = if wr i id = true then nb i id else sJ s0 wr nb D (i + 1 + k + 1) id
      simp only [sJ]
      have hne : ¬ i + 1 + k = i := by omega
      simp only [hne, if_false]
      rw [e]
      by_cases hw : D (i + 1 + k) = true ∧ wr (i + 1 + k) id = true
      · rw [if_pos hw, if_pos hw, if_neg]
        intro hwi
        have := h2 _ (by omega) (by omega) hw.1 hwi
        rw [hw.2] at this; cases this
      · rw [if_neg hw, if_neg hw]
  have := a2 (N - (i + 1)) (by omega)
  rwa [show i + 1 + (N - (i + 1)) = N by omega] at this

theorem sJ_or {id : Nat} (k : Nat) : sJ s0 wr nb D k id = s0 id ∨ ∃ j, j < k ∧ wr j id = true ∧ sJ s0 wr nb D k id = nb j id := by
  induction k with
  | zero => exact .inl rfl
  | succ k ih =>
    simp only [sJ]
    by_cases h : D k = true ∧ wr k id = true
    · rw [if_pos h]; exact .inr ⟨k, by omega, h.2, rfl⟩
    · rw [if_neg h]
      rcases ih with h1 | ⟨j, h1, h2, h3⟩
      · exact .inl h1
      · exact .inr ⟨j, by omega, h2, h3⟩

end

/-- a store by its numbers -/
def stOf (L : Nat) (f : Nat → Option Body) : St := (List.range L).map fun id => (f id).getD .dead

theorem stOf_len (L : Nat) (f : Nat → Option Body) : (stOf L f).length = L := by simp [stOf]

theorem stOf_get {L : Nat} {f : Nat → Option Body} {id : Nat} (h : id < L) : (stOf L f)[id]? = some ((f id).getD .dead) := by simp [stOf, h]

end Go.SX
