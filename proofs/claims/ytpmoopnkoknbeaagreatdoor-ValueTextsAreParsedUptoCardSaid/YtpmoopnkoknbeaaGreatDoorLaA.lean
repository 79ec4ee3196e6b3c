/- The calendar, in plain integers. Names, in plain terms. The fields of a type, in plain terms. The check of types and the common type, in plain terms. Texts and sound values, in plain terms. Values of a type, in plain terms; the law of Sound and Check. What the clocks of the program compute. The zones' clocks. The clocks lead back. What the reference computes for civil time. The law 'ValueTimeMatchesSpec', in plain terms. The text of a value, as a list of bytes; numbers and moments. The texts of values: both make T. The texts of values: show and text make T of all sound values. The texts of values: Text. The reader's steps. The reader is defined on all texts. The reader is defined on all texts: values. The reader reads the texts of values: leaves. The reader reads the texts of values. The reference's reader: its parts. The reference's reader: texts in quotes, decimals, moments. The reference's reader: leaves. The reference's reader reads the texts of leaves. The reference's reader: it is defined on all texts, and reads the texts of values. -/
import Derived.Test.YtpmoopnkoknbeaaGreatDoorGeA
set_option linter.unusedVariables false
set_option linter.unusedSimpArgs false
set_option linter.unnecessarySimpa false
namespace Go.SX.Cal
open Go
set_option linter.unusedVariables false

theorem w64 {x : Int} (h1 : -9223372036854775808 ≤ x) (h2 : x ≤ 9223372036854775807) : IntKind.i64.wrap x = x := by
  simp only [IntKind.wrap, IntKind.bits, IntKind.signed]
  simp only [Bool.true_and, decide_eq_true_eq, ge_iff_le]
  split <;> omega

/-! ### years of an era -/

def S (y : Int) : Int := 365 * y + y / 4 - y / 100
def F (r : Int) : Int := r - r / 1460 + r / 36524
def yr (r : Int) : Int := (r - r / 1460 + r / 36524 - r / 146096) / 365

theorem table : ((List.range 400).all fun y => decide (F (S (y : Int)) / 365 = y ∧ F (S ((y : Int) + 1) - 1) / 365 = y)) = true := by decide +kernel

theorem table_at {y : Int} (h0 : 0 ≤ y) (h1 : y ≤ 399) : F (S y) / 365 = y ∧ F (S (y + 1) - 1) / 365 = y := by
  have := List.all_eq_true.1 table y.toNat (List.mem_range.2 (by omega))
  have h := of_decide_eq_true this
  rw [Int.toNat_of_nonneg h0] at h
  exact h

theorem F_mono {r s : Int} (h : r ≤ s) : F r ≤ F s := by unfold F; omega

theorem yr_bound {r : Int} (h0 : 0 ≤ r) (h1 : r ≤ 146096) : 0 ≤ yr r ∧ yr r ≤ 399 := by unfold yr; omega

theorem yr_eq {r : Int} (h0 : 0 ≤ r) (h1 : r ≤ 146095) : yr r = F r / 365 := by
  unfold yr F
  have : r / 146096 = 0 := by omega
  rw [this, Int.sub_zero]

/-- a year has 366 days -/
def leap (y : Int) : Prop := y % 4 = 0 ∧ (y % 100 ≠ 0 ∨ y % 400 = 0)

instance (y : Int) : Decidable (leap y) := by unfold leap; infer_instance

theorem yr_ok {r : Int} (h0 : 0 ≤ r) (h1 : r ≤ 146096) : S (yr r) ≤ r ∧ r ≤ S (yr r) + 365 ∧ (r = S (yr r) + 365 → leap (yr r + 1)) := by
  obtain ⟨b0, b1⟩ := yr_bound h0 h1
  by_cases hr : r = 146096
  · subst hr; decide +kernel
  have h2 : r ≤ 146095 := by omega
  have e := yr_eq h0 h2
  generalize yr r = y at *
  have lo : S y ≤ r := by
    apply Classical.byContradiction
    intro hn
    have hy : 1 ≤ y := by
      apply Classical.byContradiction
      intro hy
      have : y = 0 := by omega
      subst this
      simp [S] at hn
      omega
    have t := (table_at (y := y - 1) (by omega) (by omega)).2
    rw [show y - 1 + 1 = y by omega] at t
    have := F_mono (show r ≤ S y - 1 by omega)
    have : F r / 365 ≤ y - 1 := by rw [← t]; exact Int.ediv_le_ediv (by decide) this
    omega
  have hi : r < S (y + 1) ∨ y = 399 := by
    by_cases hy : y = 399
    · exact .inr hy
    left
    apply Classical.byContradiction
    intro hn
    have t := (table_at (y := y + 1) (by omega) (by omega)).1
    have := F_mono (show S (y + 1) ≤ r by omega)
    have : y + 1 ≤ F r / 365 := by rw [← t]; exact Int.ediv_le_ediv (by decide) this
    omega
  refine ⟨lo, ?_, fun he => ?_⟩
  · rcases hi with hi | rfl
    · unfold S at *; omega
    · simp [S] at *; omega
  · rcases hi with hi | rfl
    · unfold S at *
      have h4 : (y + 1) / 4 = y / 4 + 1 ∧ (y + 1) / 100 = y / 100 := by omega
      exact ⟨by omega, .inl (by omega)⟩
    · simp [S] at *; omega

/-! ### days -/

def mdays (m : Int) : Int := (153 * m + 2) / 5

/-- days from 1970-01-01 -/
def days (y m d : Int) : Int :=
  if m ≤ 2 then (y - 1) / 400 * 146097 + S ((y - 1) % 400) + mdays (m + 9) + d - 1 - 719468 else y / 400 * 146097 + S (y % 400) + mdays (m - 3) + d - 1 - 719468

def dim (y m : Int) : Int := if m = 2 then (if leap y then 29 else 28) else if m = 4 ∨ m = 6 ∨ m = 9 ∨ m = 11 then 30 else 31

def date (n : Int) : Int × Int × Int :=
  let era := (n + 719468) / 146097
  let r := (n + 719468) % 146097
  let y := yr r
  let k := r - S y
  let m := (5 * k + 2) / 153
  let d := k - mdays m + 1
  if m + 3 > 12 then (era * 400 + y + 1, m + 3 - 12, d) else (era * 400 + y, m + 3, d)

theorem date_ok (n : Int) : days (date n).1 (date n).2.1 (date n).2.2 = n ∧ 1 ≤ (date n).2.1 ∧ (date n).2.1 ≤ 12 ∧ 1 ≤ (date n).2.2 ∧ (date n).2.2 ≤ dim (date n).1 (date n).2.1 := by
  simp only [date]
  have hr0 : 0 ≤ (n + 719468) % 146097 := by omega
  have hr1 : (n + 719468) % 146097 ≤ 146096 := by omega
  have hn : n + 719468 = (n + 719468) / 146097 * 146097 + (n + 719468) % 146097 := by omega
  generalize (n + 719468) % 146097 = r at *
  generalize (n + 719468) / 146097 = era at *
  obtain ⟨b0, b1⟩ := yr_bound hr0 hr1
  obtain ⟨s0, s1, s2⟩ := yr_ok hr0 hr1
  generalize yr r = y at *
  have hk0 : 0 ≤ r - S y := by omega
  have hk1 : r - S y ≤ 365 := by omega
  have hk2 : r - S y = 365 → leap (y + 1) := fun h => s2 (by omega)
  have hrk : r = S y + (r - S y) := by omega
  generalize r - S y = k at *
  subst hrk
  have hm0 : 0 ≤ (5 * k + 2) / 153 := by omega
  have hm1 : (5 * k + 2) / 153 ≤ 11 := by omega
  have hd : 1 ≤ k - mdays ((5 * k + 2) / 153) + 1 := by unfold mdays; omega
  have hd2 : k ≤ mdays ((5 * k + 2) / 153 + 1) - 1 := by unfold mdays; omega
  generalize hm : (5 * k + 2) / 153 = m at *
  by_cases hc : m + 3 > 12
  · simp only [hc, if_true]
    have e1 : (era * 400 + y + 1 - 1) / 400 = era := by omega
    have e2 : (era * 400 + y + 1 - 1) % 400 = y := by omega
    refine ⟨?_, by omega, by omega, hd, ?_⟩
    · unfold days
      rw [if_pos (by omega), e1, e2, show m + 3 - 12 + 9 = m by omega]
      omega
    · unfold dim
      have hcase : m = 10 ∨ m = 11 := by omega
      rcases hcase with rfl | rfl
      · simp [mdays] at *; omega
      · have hL : leap (era * 400 + y + 1) ↔ leap (y + 1) := by unfold leap; omega
        simp only [show (11 : Int) + 3 - 12 = 2 by rfl, if_true]
        by_cases hl : leap (y + 1)
        · rw [if_pos (hL.2 hl)]; simp [mdays] at *; omega
        · rw [if_neg (fun h => hl (hL.1 h))]
          have : k ≠ 365 := fun h => hl (hk2 h)
          simp [mdays] at *; omega
  · simp only [hc, if_false]
    have e1 : (era * 400 + y) / 400 = era := by omega
    have e2 : (era * 400 + y) % 400 = y := by omega
    refine ⟨?_, by omega, by omega, hd, ?_⟩
    · unfold days
      rw [if_neg (by omega), e1, e2, show m + 3 - 3 = m by omega]
      omega
    · unfold dim
      rw [if_neg (by omega)]
      have hcase : m = 0 ∨ m = 1 ∨ m = 2 ∨ m = 3 ∨ m = 4 ∨ m = 5 ∨ m = 6 ∨ m = 7 ∨ m = 8 ∨ m = 9 := by omega
      rcases hcase with rfl | rfl | rfl | rfl | rfl | rfl | rfl | rfl | rfl | rfl <;> simp [mdays] at * <;> omega

/-- the first of March of a year -/
def E (y : Int) : Int := y / 400 * 146097 + S (y % 400) - 719468

theorem E_leap {y : Int} (h : leap (y + 1)) : E (y + 1) = E y + 366 := by
  unfold E S; unfold leap at h
  by_cases h4 : (y + 1) % 400 = 0
  · have a1 : (y + 1) / 400 = y / 400 + 1 := by omega
    have a2 : y % 400 = 399 := by omega
    rw [a1, h4, a2]; omega
  · have a1 : (y + 1) / 400 = y / 400 := by omega
    have a2 : (y + 1) % 400 = y % 400 + 1 := by omega
    rw [a1, a2]
    have hq : 0 ≤ y % 400 ∧ y % 400 ≤ 398 := by omega
    have h5 : (y % 400 + 1) % 4 = 0 := by omega
    have h6 : (y % 400 + 1) % 100 ≠ 0 := by omega
    generalize y % 400 = q at *
    have : (q + 1) / 4 = q / 4 + 1 := by omega
    have : (q + 1) / 100 = q / 100 := by omega
    omega

theorem E_not {y : Int} (h : ¬ leap (y + 1)) : E (y + 1) = E y + 365 := by
  unfold E S; unfold leap at h
  have h4 : (y + 1) % 400 ≠ 0 := by omega
  have a1 : (y + 1) / 400 = y / 400 := by omega
  have a2 : (y + 1) % 400 = y % 400 + 1 := by omega
  rw [a1, a2]
  have hq : 0 ≤ y % 400 ∧ y % 400 ≤ 398 := by omega
  have h5 : (y % 400 + 1) % 4 ≠ 0 ∨ (y % 400 + 1) % 100 = 0 := by omega
  generalize y % 400 = q at *
  by_cases h7 : (q + 1) % 100 = 0
  · have : (q + 1) / 4 = q / 4 + 1 := by omega
    have : (q + 1) / 100 = q / 100 + 1 := by omega
    omega
  · have : (q + 1) / 4 = q / 4 := by omega
    have : (q + 1) / 100 = q / 100 := by omega
    omega

theorem days_E (y m d : Int) : days y m d = if m ≤ 2 then E (y - 1) + mdays (m + 9) + d - 1 else E y + mdays (m - 3) + d - 1 := by
  unfold days E; split <;> omega

theorem E_step (y : Int) : (leap (y + 1) ∧ E (y + 1) = E y + 366) ∨ (¬ leap (y + 1) ∧ E (y + 1) = E y + 365) := by
  by_cases h : leap (y + 1)
  · exact .inl ⟨h, E_leap h⟩
  · exact .inr ⟨h, E_not h⟩

/-- the first of January -/
theorem days_jan (y : Int) : days y 1 1 = E (y - 1) + 306 := by
  rw [days_E, if_pos (by decide)]; simp [mdays]

/-- a day lies in its month, and in its year -/
theorem days_in (y m d : Int) (h0 : 1 ≤ m) (h1 : m ≤ 12) (h2 : 1 ≤ d) (h3 : d ≤ dim y m) : days y 1 1 ≤ days y m 1 ∧ days y m d = days y m 1 + d - 1 ∧ days y m d < days (y + 1) 1 1 := by
  rw [days_jan, days_jan, days_E, days_E, show y + 1 - 1 = y by omega]
  have hE := E_step (y - 1)
  rw [show y - 1 + 1 = y by omega] at hE
  unfold dim at h3
  have hc : m = 1 ∨ m = 2 ∨ m = 3 ∨ m = 4 ∨ m = 5 ∨ m = 6 ∨ m = 7 ∨ m = 8 ∨ m = 9 ∨ m = 10 ∨ m = 11 ∨ m = 12 := by omega
  rcases hE with ⟨hl, hE⟩ | ⟨hl, hE⟩ <;> simp only [hl, if_true, if_false] at h3 <;> rcases hc with rfl | rfl | rfl | rfl | rfl | rfl | rfl | rfl | rfl | rfl | rfl | rfl <;> simp [mdays] at * <;> omega

/-- the years follow each other -/
theorem days_year (y : Int) : days y 1 1 + 365 ≤ days (y + 1) 1 1 ∧ days (y + 1) 1 1 ≤ days y 1 1 + 366 := by
  rw [days_jan, days_jan, show y + 1 - 1 = y by omega]
  have hE := E_step (y - 1)
  rw [show y - 1 + 1 = y by omega] at hE
  omega

theorem days_mono_nat (y : Int) (k : Nat) : days y 1 1 + 365 * k ≤ days (y + k) 1 1 := by
  induction k with
  | zero => simp
  | succ k ih =>
    have := (days_year (y + k)).1
    rw [show y + ((k + 1 : Nat) : Int) = y + k + 1 by omega]
    omega

theorem days_mono {y z : Int} (h : y ≤ z) : days y 1 1 + 365 * (z - y) ≤ days z 1 1 := by
  have := days_mono_nat y (z - y).toNat
  rw [show y + ((z - y).toNat : Int) = z by omega] at this
  omega

/-- the year of a day -/
theorem year_iff {n y : Int} : (date n).1 = y ↔ days y 1 1 ≤ n ∧ n < days (y + 1) 1 1 := by
  obtain ⟨h1, h2, h3, h4, h5⟩ := date_ok n
  obtain ⟨a1, a2, a3⟩ := days_in _ _ _ h2 h3 h4 h5
  rw [h1] at a2 a3
  constructor
  · rintro rfl
    exact ⟨by omega, a3⟩
  · rintro ⟨b1, b2⟩
    apply Classical.byContradiction
    intro hn
    rcases Int.lt_or_gt_of_ne hn with hlt | hgt
    · have := days_mono (show (date n).1 + 1 ≤ y by omega)
      omega
    · have := days_mono (show y + 1 ≤ (date n).1 by omega)
      omega

end Go.SX.Cal
namespace Go.Proofs.YtpmoopnkoknbeaaGreatDoor
open Go Go.SX Go.SX.Cal
set_option linter.unusedVariables false
set_option linter.unusedSimpArgs false

theorem ift_true {β : Type} (x y : Option β) : ift true x y = x := rfl
theorem ift_false {β : Type} (x y : Option β) : ift false x y = y := rfl
theorem ift_ite {β : Type} (b : Bool) (x y : Option β) : ift b x y = if b = true then x else y := by cases b <;> rfl
theorem big_val : BIG = 1152921504606846976 := rfl

/-- the first index from i on, below n, at which P holds -/
def first (P : Nat → Bool) (i n : Nat) : Option Nat := (List.range' i (n - i)).find? P

theorem first_step {P : Nat → Bool} {i n : Nat} (h : i < n) : first P i n = if P i = true then some i else first P (i + 1) n := by
  unfold first
  rw [show n - i = (n - (i + 1)) + 1 by omega, List.range'_succ, List.find?_cons]
  cases hp : P i <;> simp [hp]

theorem first_end {P : Nat → Bool} {n : Nat} : first P n n = none := by simp [first]

theorem first_none {P : Nat → Bool} {i n : Nat} : first P i n = none ↔ ∀ j, i ≤ j → j < n → P j = false := by
  unfold first
  rw [List.find?_eq_none]
  constructor
  · intro h j h1 h2
    have := h j (by rw [List.mem_range'_1]; omega)
    simpa using this
  · intro h j hj
    rw [List.mem_range'_1] at hj
    have := h j (by omega) (by omega)
    simp [this]

theorem search {β : Type} {f : Nat → Nat → Option β} {n : Nat} {P : Nat → Bool} {A : Nat → Option β} {B : Option β} (hstep : ∀ k i, i < n → f (k + 1) i = if P i = true then A i else f k (i + 1)) (hend : ∀ k, f (k + 1) n = B) :
    ∀ k i, i ≤ n → n - i < k → f k i = (first P i n).elim B A := by
  intro k
  induction k with
  | zero => intro i _ h; omega
  | succ k ih =>
    intro i hi hk
    by_cases h : i = n
    · subst h
      rw [hend, first_end]; rfl
    · rw [hstep k i (by omega), first_step (by omega)]
      by_cases hp : P i = true
      · simp [hp]
      · simp only [hp, if_false]
        exact ih (i + 1) (by omega) (by omega)

def byt (s : ByteArray) (i : Nat) : Nat := (s.data.toList.getD i 0).toNat

theorem get_byt (s : ByteArray) (i : Nat) (h : i < s.size) : (s.get! i).toNat = byt s i := by
  unfold byt
  have h' : i < s.data.size := h
  have : s.get! i = s.data.toList.getD i 0 := by
    simp only [ByteArray.get!, List.getD, Array.getElem?_toList]
    rw [getElem!_pos s.data i h', Array.getElem?_eq_getElem h']; rfl
  rw [this]

def small (b : Nat) : Bool := decide (97 ≤ b) && decide (b ≤ 122)
def other (b : Nat) : Bool := b == 95 || (decide (48 ≤ b) && decide (b ≤ 57))
def good (b : Nat) : Bool := small b || other b

theorem name1_eq (n : Nat) : value_Name_1 (Int.ofNat n) = some (!good n) := by
  unfold value_Name_1 value_Name_1_j1
  simp only [ift_ite, decide_eq_true_eq, Int.ofNat_eq_natCast]
  repeat' split
  all_goals (rw [Option.some.injEq, Bool.eq_iff_iff]; simp [good, small, other]; omega)

theorem decode_lo (s : ByteArray) (i : Nat) (h : i < s.size) (hb : byt s i < 128) : Utf8.decode s i = (byt s i, 1) := by
  have e := get_byt s i h
  unfold Utf8.decode
  simp [e, hb]

theorem decode_hi (s : ByteArray) (i : Nat) (h : i < s.size) (hb : ¬ byt s i < 128) : 128 ≤ (Utf8.decode s i).1 := by
  have e := get_byt s i h
  unfold Utf8.decode
  simp only [Nat.add_zero, e, if_neg hb, Utf8.runeError]
  repeat' split
  all_goals simp_all
  all_goals omega


/-- a byte that spoils a name -/
def bad (s : ByteArray) (i : Nat) : Bool := !good (byt s i)

theorem indexFunc_eq (s : ByteArray) : ∀ k i, i ≤ s.size → s.size - i < k → ∃ r, strings_indexFunc_of_value_Name_1_l1 s true k i = some r ∧ (decide (0 ≤ r) = (first (bad s) i s.size).isSome) := by
  intro k
  induction k with
  | zero => intro i _ h; omega
  | succ k ih =>
    intro i hi hk
    rw [strings_indexFunc_of_value_Name_1_l1]
    by_cases h : i = s.size
    · subst h
      rw [first_end]
      simp only [Nat.lt_irrefl, decide_false, ift_false]
      exact ⟨-1, rfl, rfl⟩
    · have hlt : i < s.size := by omega
      simp only [hlt, decide_true, ift_true, name1_eq, bnd_eq]
      rw [first_step hlt]
      by_cases hb : byt s i < 128
      · rw [decode_lo s i hlt hb]
        simp only [bad]
        by_cases hg : good (byt s i) = true
        · simp only [hg, Bool.not_true, ift_ite]
          obtain ⟨r, h1, h2⟩ := ih (i + 1) (by omega) (by omega)
          exact ⟨r, by simpa using h1, by simpa [bad] using h2⟩
        · simp only [hg, Bool.not_false, ift_ite]
          exact ⟨_, rfl, by simp⟩
      · have h1 := decode_hi s i hlt hb
        have g1 : good (Utf8.decode s i).1 = false := by
          generalize (Utf8.decode s i).1 = x at h1
          simp [good, small, other]; omega
        have g2 : bad s i = true := by
          simp [bad, good, small, other]; omega
        simp only [g1, g2, Bool.not_false, ift_ite]
        exact ⟨_, rfl, by simp⟩

def isName (s : ByteArray) : Bool := decide (1 ≤ s.size) && decide (s.size ≤ 24) && small (byt s 0) && (first (bad s) 0 s.size).isNone

theorem size_zero (s : ByteArray) : (s.toList == (ByteArray.mk #[]).toList) = decide (s.size = 0) := by
  rw [ByteArray.toList_eq, ByteArray.toList_eq, Bool.eq_iff_iff]
  show (s.data.toList == []) = true ↔ decide (s.data.size = 0) = true
  rw [← Array.length_toList]
  cases s.data.toList <;> simp

theorem vName (s : ByteArray) (hs : s.size < 1000000000) : value_Name s = some (isName s) := by
  obtain ⟨r, h1, h2⟩ := indexFunc_eq s BIG 0 (Nat.zero_le _) (by rw [big_val]; omega)
  unfold value_Name value_Name_j1 strings_ContainsFunc_of_value_Name_1 strings_IndexFunc_of_value_Name_1 strings_indexFunc_of_value_Name_1
  rw [h1, size_zero]
  simp only [bnd_eq, h2, ift_ite]
  by_cases z0 : s.size = 0
  · simp [z0, isName]
  · by_cases z1 : 24 < s.size
    · have : ¬ s.size ≤ 24 := by omega
      simp [z0, z1, isName, this, show (24 : Int) < (s.size : Int) by omega]
    · have hz : ¬ (24 : Int) < (s.size : Int) := by omega
      have hb : ((s.data.toList.getD (0 : Int).toNat 0).toNat : Int) = (byt s 0 : Int) := rfl
      simp only [z0, decide_false, hz, Bool.false_eq_true, if_false, hb]
      rw [grd_pos (by omega), grd_pos (by omega)]
      simp only [decide_eq_true_eq]
      have : s.size ≤ 24 := by omega
      by_cases q1 : byt s 0 < 97
      · have : ¬ 97 ≤ byt s 0 := by omega
        simp [show (byt s 0 : Int) < 97 by omega, isName, small, this]
      · by_cases q2 : 122 < byt s 0
        · have : ¬ byt s 0 ≤ 122 := by omega
          simp [show ¬ (byt s 0 : Int) < 97 by omega, show (122 : Int) < (byt s 0 : Int) by omega, isName, small, this]
        · simp [show ¬ (byt s 0 : Int) < 97 by omega, show ¬ (122 : Int) < (byt s 0 : Int) by omega, isName, small, show 1 ≤ s.size by omega, this, show 97 ≤ byt s 0 by omega, show byt s 0 ≤ 122 by omega]

def rbad (s : ByteArray) (i : Nat) : Bool := !small (byt s i) && (i == 0 || !other (byt s i))

theorem rname_step (s : ByteArray) (hs : s.size < 1000000000) (k i : Nat) (hi : i < s.size) : ref1_Name_l1 s (k + 1) (i : Int) = if rbad s i = true then some false else ref1_Name_l1 s k ((i + 1 : Nat) : Int) := by
  rw [ref1_Name_l1, ← ift_ite]
  have hb : ((s.data.toList.getD (i : Int).toNat 0).toNat : Int) = (byt s i : Int) := rfl
  have hw : IntKind.i64.wrap ((i : Int) + 1) = ((i + 1 : Nat) : Int) := by rw [w64 (by omega) (by omega)]; omega
  have hg : 0 ≤ (i : Int) ∧ (i : Int) < (s.size : Int) := by omega
  rw [show decide ((i : Int) < (s.size : Int)) = true by simp [hg.2], ift_true]
  simp only [ref1_Name_j2, ref1_Name_j3, ref1_Name_j4, hb, hw, bnd_eq, grd_pos hg]
  have e1 : ((byt s i : Int) == 95) = (byt s i == 95) := by rw [Bool.eq_iff_iff]; simp; omega
  have e2 : (decide ((97 : Int) ≤ byt s i)) = decide (97 ≤ byt s i) := by rw [Bool.eq_iff_iff]; simp; omega
  have e3 : (decide ((byt s i : Int) ≤ 122)) = decide (byt s i ≤ 122) := by rw [Bool.eq_iff_iff]; simp; omega
  have e4 : (decide ((48 : Int) ≤ byt s i)) = decide (48 ≤ byt s i) := by rw [Bool.eq_iff_iff]; simp; omega
  have e5 : (decide ((byt s i : Int) ≤ 57)) = decide (byt s i ≤ 57) := by rw [Bool.eq_iff_iff]; simp; omega
  have e6 : ((i : Int) == 0) = (i == 0) := by rw [Bool.eq_iff_iff]; simp
  simp only [e1, e2, e3, e4, e5, e6, rbad, small, other]
  generalize hq : ref1_Name_l1 s k ((i + 1 : Nat) : Int) = q
  generalize (byt s i == 95) = b1
  generalize decide (97 ≤ byt s i) = b2
  generalize decide (byt s i ≤ 122) = b3
  generalize decide (48 ≤ byt s i) = b4
  generalize decide (byt s i ≤ 57) = b5
  generalize (i == 0) = b6
  cases b1 <;> cases b2 <;> cases b3 <;> cases b4 <;> cases b5 <;> cases b6 <;> rfl

theorem rName (s : ByteArray) (hs : s.size < 1000000000) : ref1_Name s = some (isName s) := by
  have hl := search (f := fun k i => ref1_Name_l1 s k (i : Int)) (n := s.size) (P := rbad s) (A := fun _ => some false) (B := some true) (fun k i hi => rname_step s hs k i hi)
    (fun k => by rw [ref1_Name_l1]; simp only [Int.lt_irrefl, decide_false, ift_false]; rfl) BIG 0 (Nat.zero_le _) (by rw [big_val]; omega)
  have hl : ref1_Name_l1 s BIG (0 : Int) = _ := hl
  unfold ref1_Name ref1_Name_j1
  rw [hl]
  simp only [ift_ite]
  by_cases z0 : s.size = 0
  · simp [z0, isName]
  · by_cases z1 : 24 < s.size
    · have : ¬ s.size ≤ 24 := by omega
      simp [z0, z1, isName, this, show (24 : Int) < (s.size : Int) by omega]
    · have hz : ¬ (24 : Int) < (s.size : Int) := by omega
      have hz2 : ¬ (s.size : Int) < 1 := by omega
      simp only [hz, hz2, decide_false, Bool.false_eq_true, if_false]
      have e : (first (rbad s) 0 s.size).isNone = (small (byt s 0) && (first (bad s) 0 s.size).isNone) := by
        rw [Bool.eq_iff_iff, Bool.and_eq_true, Option.isNone_iff_eq_none, Option.isNone_iff_eq_none, first_none, first_none]
        constructor
        · intro h
          have h0 := h 0 (Nat.le_refl _) (by omega)
          simp only [rbad, beq_self_eq_true, Bool.true_or, Bool.and_true] at h0
          have h0' : small (byt s 0) = true := by simpa using h0
          refine ⟨h0', fun j _ hj => ?_⟩
          have h1 := h j (Nat.zero_le _) hj
          simp only [rbad, bad, good] at h1 ⊢
          cases hs : small (byt s j) <;> cases ho : other (byt s j) <;> simp_all
        · rintro ⟨h0, h⟩ j _ hj
          have h1 := h j (Nat.zero_le _) hj
          simp only [rbad, bad, good] at h1 ⊢
          by_cases hj0 : j = 0
          · subst hj0; simp [h0]
          · cases hs : small (byt s j) <;> cases ho : other (byt s j) <;> simp_all
      have : (first (rbad s) 0 s.size).elim (some true) (fun _ => some false) = some ((first (rbad s) 0 s.size).isNone) := by cases first (rbad s) 0 s.size <;> rfl
      rw [this, e]
      simp [isName, show 1 ≤ s.size by omega, show s.size ≤ 24 by omega]

end Go.Proofs.YtpmoopnkoknbeaaGreatDoor
namespace Go.Proofs.YtpmoopnkoknbeaaGreatDoor
open Go Go.SX Go.SX.Cal
set_option linter.unusedVariables false
set_option linter.unusedSimpArgs false

mutual
def sizeT : GType → Nat
  | ⟨_, _, fs⟩ => sizeF fs + 1
def sizeF : List (FieldP GType) → Nat
  | [] => 0
  | f :: l => sizeFd f + sizeF l
def sizeFd : FieldP GType → Nat
  | ⟨_, n, _, t⟩ => n.size + sizeT t + 1
end

theorem sizeF_mem : ∀ {l : List GField} {x : GField}, x ∈ l → sizeFd x ≤ sizeF l
  | [], _, h => by cases h
  | y :: l, x, h => by
    simp only [sizeF]
    rcases List.mem_cons.1 h with rfl | h
    · omega
    · have := sizeF_mem h; omega

theorem sizeFd_eq : ∀ x : GField, sizeFd x = x.name.size + sizeT x.type + 1
  | ⟨_, _, _, _⟩ => by simp only [sizeFd]

theorem sizeT_eq : ∀ x : GType, sizeT x = sizeF x.fields + 1
  | ⟨_, _, _⟩ => by simp only [sizeT]

theorem sizeF_len : ∀ l : List GField, l.length ≤ sizeF l
  | [] => by simp [sizeF]
  | x :: l => by
    have := sizeF_len l
    have := sizeFd_eq x
    simp only [sizeF, List.length_cons]; omega

theorem wrap_succ {i n : Nat} (h : i < n) (hn : n < 1000000000) : IntKind.i64.wrap ((i : Int) + 1) = ((i + 1 : Nat) : Int) := by rw [w64 (by omega) (by omega)]; omega

theorem at_nat {α : Type} {xs : List α} {i : Nat} (h : i < xs.length) : at? xs (i : Int) = some xs[i] := by unfold at?; simp [h]

theorem dec_lt {i n : Nat} (h : i < n) : decide ((i : Int) < (n : Int)) = true := by simp [h]

/-- the name of the field at i -/
def fnm (fs : List GField) (i : Nat) : ByteArray := (fs[i]?.map (·.name)).getD ByteArray.empty

theorem fnm_at {fs : List GField} {i : Nat} (h : i < fs.length) : fnm fs i = fs[i].name := by simp [fnm, h]

def noName (fs : List GField) (i : Nat) : Bool := !isName (fnm fs i)
def eqN (fs : List GField) (i j : Nat) : Bool := (fnm fs j).toList == (fnm fs i).toList
def twin (fs : List GField) (i : Nat) : Bool := (first (eqN fs i) 0 i).isSome
def badN (fs : List GField) : Bool := (first (noName fs) 0 fs.length).isSome
def dupN (fs : List GField) : Bool := (first (twin fs) 0 fs.length).isSome

structure FsOk (fs : List GField) : Prop where
  len : fs.length < 1000000000
  nam : ∀ f ∈ fs, f.name.size < 1000000000

theorem fsOk_of {fs : List GField} (h : sizeF fs < 1000000000) : FsOk fs :=
  ⟨by have := sizeF_len fs; omega, fun f hf => by have := sizeF_mem hf; have := sizeFd_eq f; omega⟩

theorem eta_f : ∀ f : GField, FieldP.mk f.id f.name f.need (GType.mk f.type.kind f.type.scale f.type.fields) = f
  | ⟨_, _, _, ⟨_, _, _⟩⟩ => rfl
theorem contains1 {fs : List GField} (ho : FsOk fs) : slices_ContainsFunc_api_Field_api_Field_of_value_fields_1 fs = some (badN fs) := by
  have hl := search (f := fun k i => slices_IndexFunc_api_Field_api_Field_of_value_fields_1_l1 fs k (i : Int)) (n := fs.length) (P := noName fs) (A := fun i => some (i : Int)) (B := some (-1)) (fun k i hi => by
      show slices_IndexFunc_api_Field_api_Field_of_value_fields_1_l1 fs (k + 1) (i : Int) = _
      rw [slices_IndexFunc_api_Field_api_Field_of_value_fields_1_l1, dec_lt hi, ift_true, at_nat hi, bnd_eq, value_fields_1, vName _ (ho.nam _ (List.getElem_mem hi)), wrap_succ hi ho.len]
      simp only [bnd_eq, ift_ite, noName, fnm_at hi])
    (fun k => by rw [slices_IndexFunc_api_Field_api_Field_of_value_fields_1_l1]; simp only [Int.lt_irrefl, decide_false, ift_false]; rfl) BIG 0 (Nat.zero_le _) (by rw [big_val]; have := ho.len; omega)
  have hl : slices_IndexFunc_api_Field_api_Field_of_value_fields_1_l1 fs BIG (0 : Int) = _ := hl
  unfold slices_ContainsFunc_api_Field_api_Field_of_value_fields_1 slices_IndexFunc_api_Field_api_Field_of_value_fields_1
  rw [hl]
  unfold badN
  cases first (noName fs) 0 fs.length with
  | none => rfl
  | some j => simp [bnd_eq]

theorem contains2 {fs : List GField} (ho : FsOk fs) {i : Nat} (hi : i < fs.length) : slices_ContainsFunc_api_Field_api_Field_of_value_fields_2 ((fs.drop (0 : Int).toNat).take ((i : Int).toNat - (0 : Int).toNat)) fs[i] = some (twin fs i, fs[i]) := by
  have ep : (fs.drop (0 : Int).toNat).take ((i : Int).toNat - (0 : Int).toNat) = fs.take i := by simp
  rw [ep]
  have hlen : (fs.take i).length = i := by simp; omega
  have hl := search (f := fun k j => slices_IndexFunc_api_Field_api_Field_of_value_fields_2_l1 (fs.take i) k fs[i].id fs[i].name fs[i].need fs[i].type.kind fs[i].type.scale fs[i].type.fields (j : Int)) (n := i) (P := eqN fs i) (A := fun j => some ((j : Int), fs[i])) (B := some (-1, fs[i])) (fun k j hj => by
      have hj' : j < (fs.take i).length := by rw [hlen]; exact hj
      have hjf : j < fs.length := by omega
      show slices_IndexFunc_api_Field_api_Field_of_value_fields_2_l1 (fs.take i) (k + 1) _ _ _ _ _ _ (j : Int) = _
      rw [slices_IndexFunc_api_Field_api_Field_of_value_fields_2_l1, dec_lt hj', ift_true, at_nat hj', bnd_eq, value_fields_2, wrap_succ hj (by have := ho.len; omega)]
      simp only [bnd_eq, ift_ite, eqN, fnm_at hi, fnm_at hjf, List.getElem_take, eta_f])
    (fun k => by
      show slices_IndexFunc_api_Field_api_Field_of_value_fields_2_l1 (fs.take i) (k + 1) _ _ _ _ _ _ (i : Int) = _
      rw [slices_IndexFunc_api_Field_api_Field_of_value_fields_2_l1]; simp only [hlen, Int.lt_irrefl, decide_false, ift_false, slices_IndexFunc_api_Field_api_Field_of_value_fields_2_j1, eta_f]) BIG 0 (Nat.zero_le _) (by rw [big_val]; have := ho.len; omega)
  have hl : slices_IndexFunc_api_Field_api_Field_of_value_fields_2_l1 (fs.take i) BIG _ _ _ _ _ _ (0 : Int) = _ := hl
  unfold slices_ContainsFunc_api_Field_api_Field_of_value_fields_2 slices_IndexFunc_api_Field_api_Field_of_value_fields_2
  rw [hl]
  unfold twin
  cases first (eqN fs i) 0 i with
  | none => rfl
  | some j => simp [bnd_eq]

theorem fields_loop {t : GType} (ho : FsOk t.fields) : value_fields_l1 t BIG (0 : Int) = some (if dupN t.fields = true then 5 else 0) := by
  have hl := search (f := fun k i => value_fields_l1 t k (i : Int)) (n := t.fields.length) (P := twin t.fields) (A := fun _ => some 5) (B := some 0) (fun k i hi => by
      show value_fields_l1 t (k + 1) (i : Int) = _
      rw [value_fields_l1, dec_lt hi, ift_true, at_nat hi, bnd_eq, grd_pos (by omega), contains2 ho hi, wrap_succ hi ho.len]
      simp only [bnd_eq, ift_ite])
    (fun k => by rw [value_fields_l1]; simp only [Int.lt_irrefl, decide_false, ift_false]; rfl) BIG 0 (Nat.zero_le _) (by rw [big_val]; have := ho.len; omega)
  have hl : value_fields_l1 t BIG (0 : Int) = _ := hl
  rw [hl]
  unfold dupN
  cases first (twin t.fields) 0 t.fields.length <;> rfl

theorem shape_l3 {t : GType} (ho : FsOk t.fields) (rec2 : Int → Option Int) {i : Nat} (hi : i < t.fields.length) : ref1_shape_l3 rec2 t (i : Int) BIG (0 : Int) = if twin t.fields i = true then some 5 else rec2 ((i + 1 : Nat) : Int) := by
  have hl := search (f := fun k j => ref1_shape_l3 rec2 t (i : Int) k (j : Int)) (n := i) (P := eqN t.fields i) (A := fun j => some 5) (B := rec2 ((i + 1 : Nat) : Int)) (fun k j hj => by
      have hjf : j < t.fields.length := by omega
      show ref1_shape_l3 rec2 t (i : Int) (k + 1) (j : Int) = _
      rw [ref1_shape_l3, dec_lt hj, ift_true, at_nat hjf, at_nat hi, wrap_succ hj (by have := ho.len; omega)]
      simp only [bnd_eq, ift_ite, eqN, fnm_at hi, fnm_at hjf])
    (fun k => by
      show ref1_shape_l3 rec2 t (i : Int) (k + 1) (i : Int) = _
      rw [ref1_shape_l3]; simp only [Int.lt_irrefl, decide_false, ift_false, ref1_shape_j5]; rw [wrap_succ hi ho.len]) BIG 0 (Nat.zero_le _) (by rw [big_val]; have := ho.len; omega)
  have hl : ref1_shape_l3 rec2 t (i : Int) BIG (0 : Int) = _ := hl
  rw [hl]
  unfold twin
  cases first (eqN t.fields i) 0 i <;> simp

theorem shape_l2 {t : GType} (ho : FsOk t.fields) : ref1_shape_l2 t BIG (0 : Int) = some (if dupN t.fields = true then 5 else 0) := by
  have hl := search (f := fun k i => ref1_shape_l2 t k (i : Int)) (n := t.fields.length) (P := twin t.fields) (A := fun _ => some 5) (B := some 0) (fun k i hi => by
      show ref1_shape_l2 t (k + 1) (i : Int) = _
      rw [ref1_shape_l2, dec_lt hi, ift_true, shape_l3 ho _ hi])
    (fun k => by rw [ref1_shape_l2]; simp only [Int.lt_irrefl, decide_false, ift_false]; rfl) BIG 0 (Nat.zero_le _) (by rw [big_val]; have := ho.len; omega)
  have hl : ref1_shape_l2 t BIG (0 : Int) = _ := hl
  rw [hl]
  unfold dupN
  cases first (twin t.fields) 0 t.fields.length <;> rfl

theorem shape_l1 {t : GType} (ho : FsOk t.fields) : ref1_shape_l1 t BIG (0 : Int) = some (if badN t.fields = true then 4 else if dupN t.fields = true then 5 else 0) := by
  have hl := search (f := fun k i => ref1_shape_l1 t k (i : Int)) (n := t.fields.length) (P := noName t.fields) (A := fun _ => some 4) (B := some (if dupN t.fields = true then 5 else 0)) (fun k i hi => by
      show ref1_shape_l1 t (k + 1) (i : Int) = _
      rw [ref1_shape_l1, dec_lt hi, ift_true, at_nat hi, bnd_eq, rName _ (ho.nam _ (List.getElem_mem hi)), wrap_succ hi ho.len]
      simp only [bnd_eq, ift_ite, noName, fnm_at hi])
    (fun k => by rw [ref1_shape_l1]; simp only [Int.lt_irrefl, decide_false, ift_false, ref1_shape_j4]; exact shape_l2 ho) BIG 0 (Nat.zero_le _) (by rw [big_val]; have := ho.len; omega)
  have hl : ref1_shape_l1 t BIG (0 : Int) = _ := hl
  rw [hl]
  unfold badN
  cases first (noName t.fields) 0 t.fields.length <;> rfl

/-- what is wrong with the fields -/
def vf (t : GType) : Int :=
  if t.kind = 6 then (if t.fields.length ≠ 1 ∨ (fnm t.fields 0).size ≠ 0 then 1 else 0)
  else if t.kind ≠ 7 then (if 0 < t.fields.length then 1 else 0)
  else if t.fields.length = 0 then 1 else if badN t.fields = true then 4 else if dupN t.fields = true then 5 else 0

def scBad (t : GType) : Prop := t.scale ≠ 0 ∧ (t.kind ≠ 3 ∨ t.scale < 0 ∨ 12 < t.scale)
instance (t : GType) : Decidable (scBad t) := by unfold scBad; infer_instance

/-- what is wrong with a type alone -/
def shp (t : GType) : Int := if t.kind < 1 ∨ 7 < t.kind then 3 else if scBad t then 1 else vf t

theorem vFields {t : GType} (ho : FsOk t.fields) : value_fields t = some (vf t) := by
  unfold value_fields value_fields_j1 vf
  rw [contains1 ho, fields_loop ho]
  simp only [bnd_eq, ift_ite]
  by_cases h6 : t.kind = 6
  · simp only [h6, beq_self_eq_true, if_true]
    by_cases hl : t.fields.length = 1
    · have : (0 : Nat) < t.fields.length := by omega
      rw [show at? t.fields (0 : Int) = some t.fields[0] from at_nat (i := 0) this]
      simp only [hl, bnd_eq, size_zero, fnm_at this]
      by_cases hz : t.fields[0].name.size = 0 <;> simp [hz]
    · simp [hl, show ((t.fields.length : Int) = 1) = False from eq_false (by omega)]
  · by_cases h7 : t.kind = 7
    · simp [h7]
      by_cases hl : t.fields = []
      · simp [hl]
      · simp [hl]
        by_cases hb : badN t.fields = true
        · simp [hb]
        · simp [hb]
    · simp [h6, h7]
      by_cases hl : 0 < t.fields.length
      · simp [hl]
      · simp [hl]

theorem rShape {t : GType} (ho : FsOk t.fields) : ref1_shape t = some (shp t) := by
  have hj3 : ∀ x, ref1_shape_j3 t x = if x = true then some 1 else if t.kind ≠ 7 then some 0 else some (if badN t.fields = true then 4 else if dupN t.fields = true then 5 else 0) := by
    intro x
    unfold ref1_shape_j3
    rw [shape_l1 ho]
    cases x <;> simp [ift_ite]
  have hleaf : ref1_Leaf t.kind = some (decide (t.kind ≠ 6 ∧ t.kind ≠ 7)) := by
    unfold ref1_Leaf ref1_Leaf_j1
    by_cases h6 : t.kind = 6 <;> by_cases h7 : t.kind = 7 <;> simp [h6, h7, ift_ite]
  have hj1 : ∀ x, ref1_shape_j1 t x = if x = true then some 1 else some (vf t) := by
    intro x
    cases x with
    | true => rfl
    | false =>
      unfold ref1_shape_j1 ref1_shape_j2 vf
      rw [hleaf]
      simp only [ift_ite, bnd_eq, hj3]
      by_cases h6 : t.kind = 6
      · simp only [h6, beq_self_eq_true, if_true]
        by_cases hl : t.fields.length = 1
        · have : (0 : Nat) < t.fields.length := by omega
          rw [show at? t.fields (0 : Int) = some t.fields[0] from at_nat (i := 0) this]
          simp only [hl, bnd_eq, size_zero, fnm_at this]
          by_cases hz : t.fields[0].name.size = 0 <;> simp [hz]
        · simp [hl, show ((t.fields.length : Int) = 1) = False from eq_false (by omega)]
      · by_cases h7 : t.kind = 7
        · simp [h7]
          by_cases hl : t.fields = []
          · simp [hl]
          · simp [hl]
        · simp [h6, h7]
          by_cases hl : 0 < t.fields.length
          · simp [hl]
          · simp [hl]
  unfold ref1_shape shp ref1_within ref1_within_j1
  simp only [ift_ite, hj1, bnd_eq]
  by_cases a1 : t.kind < 1
  · simp [a1, show ¬ (1 : Int) ≤ t.kind by omega, bnd_eq]
  · by_cases a2 : 7 < t.kind
    · simp [a2, show (1 : Int) ≤ t.kind by omega, show ¬ t.kind ≤ 7 by omega, bnd_eq]
    · simp only [a1, a2, show (1 : Int) ≤ t.kind by omega, show t.kind ≤ 7 by omega, decide_true, or_self, if_false, if_true, Bool.not_true, bnd_eq]
      unfold scBad
      by_cases h3 : t.kind = 3
      · by_cases b1 : t.scale < 0
        · simp [h3, b1, show ¬ (0 : Int) ≤ t.scale by omega, show t.scale ≠ 0 by omega, bnd_eq]
        · by_cases b2 : 12 < t.scale
          · simp [h3, b1, b2, show (0 : Int) ≤ t.scale by omega, show ¬ t.scale ≤ 12 by omega, show t.scale ≠ 0 by omega, bnd_eq]
          · simp [h3, b1, b2, show (0 : Int) ≤ t.scale by omega, show t.scale ≤ 12 by omega, bnd_eq]
      · by_cases b0 : t.scale = 0 <;> simp [h3, b0]

end Go.Proofs.YtpmoopnkoknbeaaGreatDoor
namespace Go.Proofs.YtpmoopnkoknbeaaGreatDoor
open Go Go.SX Go.SX.Cal
set_option linter.unusedVariables false
set_option linter.unusedSimpArgs false

/-- what a checked type is, as far as the common type asks -/
inductive V : GType → Prop where
  | mk (t : GType) (h1 : shp t = 0) (h3 : t.fields.length ≤ 40) (h2 : ∀ f, f ∈ t.fields → V f.type) : V t

theorem leafV (t : GType) : value_leaf t = some (decide (t.kind ≠ 6 ∧ t.kind ≠ 7)) := by
  unfold value_leaf value_leaf_j1
  by_cases h6 : t.kind = 6 <;> by_cases h7 : t.kind = 7 <;> simp [h6, h7, ift_ite]

theorem leafR (k : Int) : ref1_Leaf k = some (decide (k ≠ 6 ∧ k ≠ 7)) := by
  unfold ref1_Leaf ref1_Leaf_j1
  by_cases h6 : k = 6 <;> by_cases h7 : k = 7 <;> simp [h6, h7, ift_ite]

theorem checkJ2 {t : GType} (ho : FsOk t.fields) (q : GType → Int → GChecker → Option (Int × GChecker)) (l z : Int) :
    value_checker_check_j2 q t l z = if shp t ≠ 0 then some (shp t, ⟨z⟩) else value_checker_check_l1 q t l BIG z 0 := by
  have hj4 : ∀ x, value_checker_check_j4 q t l z x = if x = true then some (1, ⟨z⟩) else if vf t ≠ 0 then some (vf t, ⟨z⟩) else value_checker_check_l1 q t l BIG z 0 := by
    intro x
    unfold value_checker_check_j4
    rw [vFields ho]
    cases x <;> simp [ift_ite, bnd_eq]
  unfold value_checker_check_j2 value_checker_check_j3 shp
  simp only [ift_ite, hj4]
  by_cases a1 : t.kind < 1
  · simp [a1]
  · by_cases a2 : 7 < t.kind
    · simp [a1, a2]
    · simp only [a1, a2, decide_false, or_self, if_false, Bool.false_eq_true]
      unfold scBad
      by_cases b0 : t.scale = 0
      · simp [b0]
      · by_cases h3 : t.kind = 3
        · by_cases b1 : t.scale < 0
          · simp [b0, h3, b1]
          · by_cases b2 : 12 < t.scale
            · simp [b0, h3, b1, b2]
            · simp [b0, h3, b1, b2]
        · simp [b0, h3]

theorem checkR1 {t : GType} (ho : FsOk t.fields) (q : GType → Int → Int → Option (Int × Int)) (l z : Int) :
    ref1_checkType_j1 q t l z = if shp t ≠ 0 then some (shp t, z) else ref1_checkType_l1 q t l BIG z 0 := by
  unfold ref1_checkType_j1
  rw [rShape ho]
  simp [ift_ite, bnd_eq]

theorem V_of {t : GType} (h : shp t = 0) (hl : t.fields.length ≤ 40) (hf : ∀ f ∈ t.fields, V f.type) : V t := .mk t h hl hf
theorem V.wid {t : GType} (h : V t) : t.fields.length ≤ 40 := by cases h; assumption

theorem shp_pos {t : GType} (h : shp t = 0) (hk : ¬ (t.kind ≠ 6 ∧ t.kind ≠ 7)) : 1 ≤ t.fields.length := by
  unfold shp at h
  split at h
  · cases h
  · split at h
    · cases h
    · unfold vf at h
      by_cases h6 : t.kind = 6
      · rw [if_pos h6] at h
        by_cases h1 : t.fields.length = 1
        · omega
        · rw [if_pos (.inl h1)] at h; cases h
      · rw [if_neg h6, if_neg (by omega)] at h
        by_cases h1 : t.fields.length = 0
        · rw [if_pos h1] at h; cases h
        · omega



theorem check_loop {t : GType} (ho : FsOk t.fields) (l : Int) (hl0 : -10 ≤ l) (hl1 : l ≤ 10) (q1 : GType → Int → GChecker → Option (Int × GChecker)) (q2 : GType → Int → Int → Option (Int × Int))
    (hq : ∀ f ∈ t.fields, ∀ n : Int, 0 ≤ n → n ≤ 40 → ∃ e m, q1 f.type (l + 1) ⟨n⟩ = some (e, ⟨m⟩) ∧ q2 f.type (l + 1) n = some (e, m) ∧ 0 ≤ m ∧ m ≤ 40 ∧ (e = 0 → V f.type ∧ n + 1 ≤ m)) :
    ∀ (kk i : Nat) (n : Int), i ≤ t.fields.length → t.fields.length - i < kk → 0 ≤ n → n ≤ 40 →
      ∃ e m, value_checker_check_l1 q1 t l kk n (i : Int) = some (e, ⟨m⟩) ∧ ref1_checkType_l1 q2 t l kk n (i : Int) = some (e, m) ∧ 0 ≤ m ∧ m ≤ 40 ∧ (e = 0 → (∀ j, i ≤ j → ∀ h : j < t.fields.length, V t.fields[j].type) ∧ n + ((t.fields.length - i : Nat) : Int) ≤ m) := by
  intro kk
  induction kk with
  | zero => intro i n _ h; omega
  | succ kk ih =>
    intro i n hi hk n0 n1
    rw [value_checker_check_l1, ref1_checkType_l1]
    by_cases h : i = t.fields.length
    · subst h
      simp only [Int.lt_irrefl, decide_false, ift_false]
      exact ⟨0, n, rfl, rfl, n0, n1, fun _ => ⟨fun j h1 h2 => by omega, by omega⟩⟩
    · have hlt : i < t.fields.length := by omega
      rw [dec_lt hlt, ift_true, ift_true, at_nat hlt, bnd_eq, bnd_eq, w64 (x := l + 1) (by omega) (by omega), wrap_succ hlt ho.len]
      obtain ⟨e, m, h1, h2, h3, h4, h5⟩ := hq _ (List.getElem_mem hlt) n n0 n1
      rw [h1, h2]
      simp only [bnd_eq, ift_ite]
      by_cases he : e = 0
      · obtain ⟨e', m', g1, g2, g3, g4, g5⟩ := ih (i + 1) m (by omega) (by omega) h3 h4
        refine ⟨e', m', by simpa [he] using g1, by simpa [he] using g2, g3, g4, fun h0 => ⟨fun j hj hjl => ?_, ?_⟩⟩
        · by_cases hji : j = i
          · subst hji; exact (h5 he).1
          · exact (g5 h0).1 j (by omega) hjl
        · have a1 := (h5 he).2
          have a2 := (g5 h0).2
          omega
      · exact ⟨e, m, by simp [he], by simp [he], h3, h4, fun h0 => absurd h0 he⟩

theorem check_eq : ∀ (d k : Nat) (t : GType) (l n : Int), l = 5 - d → d ≤ 5 → d < k → sizeT t < 1000000000 → 0 ≤ n → n ≤ 40 →
    ∃ e m, value_checker_check k t l ⟨n⟩ = some (e, ⟨m⟩) ∧ ref1_checkType k t l n = some (e, m) ∧ 0 ≤ m ∧ m ≤ 40 ∧ (e = 0 → V t ∧ n + 1 ≤ m) := by
  intro d
  induction d with
  | zero =>
    intro k t l n hl _ hk hs n0 n1
    obtain ⟨k, rfl⟩ : ∃ k', k = k' + 1 := ⟨k - 1, by omega⟩
    have hl4 : (4 : Int) < l := by omega
    rw [value_checker_check, ref1_checkType]
    simp only [hl4, decide_true, ift_true, value_checker_check_j1]
    exact ⟨7, n, rfl, rfl, n0, n1, fun h => by omega⟩
  | succ d ih =>
    intro k t l n hl hd hk hs n0 n1
    obtain ⟨k, rfl⟩ : ∃ k', k = k' + 1 := ⟨k - 1, by omega⟩
    have hl4 : ¬ (4 : Int) < l := by omega
    have hsz := sizeT_eq t
    have ho : FsOk t.fields := fsOk_of (by omega)
    have hq : ∀ f ∈ t.fields, ∀ n : Int, 0 ≤ n → n ≤ 40 → ∃ e m, value_checker_check k f.type (l + 1) ⟨n⟩ = some (e, ⟨m⟩) ∧ ref1_checkType k f.type (l + 1) n = some (e, m) ∧ 0 ≤ m ∧ m ≤ 40 ∧ (e = 0 → V f.type ∧ n + 1 ≤ m) := by
      intro f hf n n0 n1
      have h1 := sizeF_mem hf
      have h2 := sizeFd_eq f
      exact ih k f.type (l + 1) n (by omega) (by omega) (by omega) (by omega) n0 n1
    have main : ∀ z : Int, 0 ≤ z → z ≤ 40 → n ≤ z → (t.kind ≠ 6 ∧ t.kind ≠ 7 → n + 1 ≤ z) → ∃ e m, value_checker_check_j2 (value_checker_check k) t l z = some (e, ⟨m⟩) ∧ ref1_checkType_j1 (ref1_checkType k) t l z = some (e, m) ∧ 0 ≤ m ∧ m ≤ 40 ∧ (e = 0 → V t ∧ n + 1 ≤ m) := by
      intro z z0 z1 z2 z3
      rw [checkJ2 ho, checkR1 ho]
      by_cases hsh : shp t = 0
      · obtain ⟨e, m, h1, h2, h3, h4, h5⟩ := check_loop ho l (by omega) (by omega) _ _ hq BIG 0 z (Nat.zero_le _) (by rw [big_val]; have := ho.len; omega) z0 z1
        refine ⟨e, m, by simpa [hsh] using h1, by simpa [hsh] using h2, h3, h4, fun he => ⟨V_of hsh (by have := (h5 he).2; omega) (fun f hf => ?_), ?_⟩⟩
        · obtain ⟨j, hj, rfl⟩ := List.getElem_of_mem hf
          exact (h5 he).1 j (Nat.zero_le _) hj
        · have a1 := (h5 he).2
          by_cases hlf : t.kind ≠ 6 ∧ t.kind ≠ 7
          · have := z3 hlf; omega
          · have := shp_pos hsh hlf; omega
      · exact ⟨shp t, z, by simp [hsh], by simp [hsh], z0, z1, fun h => absurd h hsh⟩
    rw [value_checker_check, ref1_checkType]
    simp only [hl4, decide_false, ift_false, leafV, leafR, bnd_eq, value_checker_check_j1]
    by_cases hleaf : t.kind ≠ 6 ∧ t.kind ≠ 7
    · simp only [hleaf, ne_eq, not_false_eq_true, and_self, decide_true, ift_true]
      by_cases h40 : n = 40
      · simp only [h40, beq_self_eq_true, ift_true]
        exact ⟨7, 40, rfl, rfl, by omega, by omega, fun h => by omega⟩
      · have : (n == 40) = false := by simpa using h40
        simp only [this, ift_false]
        rw [w64 (x := n + 1) (by omega) (by omega)]
        exact main (n + 1) (by omega) (by omega) (by omega) (fun _ => Int.le_refl _)
    · simp only [hleaf, decide_false, ift_false]
      exact main n n0 n1 (Int.le_refl _) (fun h => absurd h hleaf)

theorem checkType_eq (t : GType) (hs : sizeT t < 1000000000) : ∃ e, value_CheckType t = some e ∧ ref1_CheckType t = some e ∧ (e = 0 → V t) := by
  obtain ⟨e, m, h1, h2, h3, h4, h5⟩ := check_eq 4 BIG t 1 0 (by omega) (by omega) (by rw [big_val]; omega) hs (by omega) (by omega)
  refine ⟨e, ?_, ?_, fun h => (h5 h).1⟩
  · unfold value_CheckType; rw [h1]; rfl
  · unfold ref1_CheckType; rw [h2]; rfl

end Go.Proofs.YtpmoopnkoknbeaaGreatDoor
namespace Go.Proofs.YtpmoopnkoknbeaaGreatDoor
open Go Go.SX Go.SX.Cal Go.Lib
set_option linter.unusedVariables false
set_option linter.unusedSimpArgs false

mutual
def sizeV : GValue → Nat
  | ⟨_, _, _, s, it⟩ => s.size + sizeL it + 1
def sizeL : List GValue → Nat
  | [] => 0
  | x :: l => sizeV x + sizeL l
end

theorem sizeV_eq : ∀ v : GValue, sizeV v = v.s.size + sizeL v.items + 1
  | ⟨_, _, _, _, _⟩ => by simp only [sizeV]

theorem sizeL_mem : ∀ {l : List GValue} {x : GValue}, x ∈ l → sizeV x ≤ sizeL l
  | [], _, h => by cases h
  | y :: l, x, h => by
    simp only [sizeL]
    rcases List.mem_cons.1 h with rfl | h
    · omega
    · have := sizeL_mem h; omega

theorem sizeV_pos : ∀ v : GValue, 1 ≤ sizeV v
  | ⟨_, _, _, _, _⟩ => by simp only [sizeV]; omega

theorem sizeL_len : ∀ l : List GValue, l.length ≤ sizeL l
  | [] => by simp [sizeL]
  | x :: l => by
    have := sizeL_len l
    have := sizeV_pos x
    simp only [sizeL, List.length_cons]; omega

theorem ift_and (b x : Bool) : ift b (some x) (some false) = some (b && x) := by cases b <;> rfl
theorem bnd_some' {α β : Type} (a : α) (f : α → Option β) : bnd (some a) f = f a := rfl

theorem first_skip {P : Nat → Bool} {n : Nat} : ∀ (d i : Nat), i + d ≤ n → (∀ j, i ≤ j → j < i + d → P j = false) → first P i n = first P (i + d) n
  | 0, i, _, _ => rfl
  | d + 1, i, h, hP => by
    rw [first_step (by omega), hP i (by omega) (by omega)]
    simp only [Bool.false_eq_true, if_false]
    rw [first_skip d (i + 1) (by omega) (fun j h1 h2 => hP j (by omega) (by omega))]
    congr 1; omega

theorem decode_skip (s : ByteArray) (i : Nat) (h : i < s.size) (hb : ¬ byt s i < 128) :
    1 ≤ (Utf8.decode s i).2 ∧ i + (Utf8.decode s i).2 ≤ s.size ∧ ∀ j, i ≤ j → j < i + (Utf8.decode s i).2 → 128 ≤ byt s j := by
  have e := get_byt s i h
  have one : ∀ j, i ≤ j → j < i + 1 → 128 ≤ byt s j := fun j h1 h2 => by
    have : j = i := by omega
    subst this; omega
  have ct : ∀ k, (decide (i + k < s.size) && (s.get! (i + k)).toNat / 64 == 2) = true → i + k < s.size ∧ 128 ≤ byt s (i + k) := by
    intro k hk
    simp only [Bool.and_eq_true, decide_eq_true_eq, beq_iff_eq] at hk
    rw [get_byt s _ hk.1] at hk
    exact ⟨hk.1, by omega⟩
  unfold Utf8.decode
  simp only [Nat.add_zero, e, if_neg hb]
  split
  · rename_i h1
    simp only [Bool.and_eq_true] at h1
    obtain ⟨l1, b1⟩ := ct 1 (by simpa using h1.2)
    split
    · refine ⟨by simp, by simp only; omega, fun j h2 h3 => ?_⟩
      simp only at h3
      by_cases hj : j = i
      · subst hj; omega
      · have : j = i + 1 := by omega
        subst this; exact b1
    · exact ⟨by simp, by simp only; omega, one⟩
  · split
    · rename_i h1
      simp only [Bool.and_eq_true] at h1
      obtain ⟨l1, b1⟩ := ct 1 (by simpa using h1.1.2)
      obtain ⟨l2, b2⟩ := ct 2 (by simpa using h1.2)
      split
      · refine ⟨by simp, by simp only; omega, fun j h2 h3 => ?_⟩
        simp only at h3
        by_cases hj : j = i
        · subst hj; omega
        · by_cases hj : j = i + 1
          · subst hj; exact b1
          · have : j = i + 2 := by omega
            subst this; exact b2
      · exact ⟨by simp, by simp only; omega, one⟩
    · split
      · rename_i h1
        simp only [Bool.and_eq_true] at h1
        obtain ⟨l1, b1⟩ := ct 1 (by simpa using h1.1.1.2)
        obtain ⟨l2, b2⟩ := ct 2 (by simpa using h1.1.2)
        obtain ⟨l3, b3⟩ := ct 3 (by simpa using h1.2)
        split
        · refine ⟨by simp, by simp only; omega, fun j h2 h3 => ?_⟩
          simp only at h3
          by_cases hj : j = i
          · subst hj; omega
          · by_cases hj : j = i + 1
            · subst hj; exact b1
            · by_cases hj : j = i + 2
              · subst hj; exact b2
              · have : j = i + 3 := by omega
                subst this; exact b3
        · exact ⟨by simp, by simp only; omega, one⟩
      · exact ⟨by simp, by simp only; omega, one⟩

/-- a byte that is a control character -/
def ctl (s : ByteArray) (i : Nat) : Bool := decide (byt s i < 32) || byt s i == 127

theorem vtext_loop (s : ByteArray) : ∀ k i, i ≤ s.size → s.size - i < k → value_text_l1 s k i = some (first (ctl s) i s.size).isNone := by
  intro k
  induction k with
  | zero => intro i _ h; omega
  | succ k ih =>
    intro i hi hk
    rw [value_text_l1]
    by_cases h : i = s.size
    · subst h
      rw [first_end]
      simp only [Nat.lt_irrefl, decide_false, ift_false, value_text_j3]
      rfl
    · have hlt : i < s.size := by omega
      simp only [hlt, decide_true, ift_true, value_text_j2, ift_ite]
      by_cases hb : byt s i < 128
      · rw [decode_lo s i hlt hb, first_step hlt]
        by_cases h1 : byt s i < 32
        · have : ctl s i = true := by simp [ctl, h1]
          simp [this, show ((byt s i : Nat) : Int) < 32 by omega]
        · have e1 : ¬ ((byt s i : Nat) : Int) < 32 := by omega
          by_cases h2 : byt s i = 127
          · have : ctl s i = true := by simp [ctl, h2]
            simp [this, h2]
          · have : ctl s i = false := by simp [ctl, h1, h2]
            have e2 : ¬ ((byt s i : Nat) : Int) = 127 := by omega
            simp only [this, Int.ofNat_eq_natCast, e1, decide_false, Bool.false_eq_true, if_false, beq_iff_eq, e2]
            exact ih (i + 1) (by omega) (by omega)
      · have h1 := decode_hi s i hlt hb
        obtain ⟨h2, h3, h4⟩ := decode_skip s i hlt hb
        have e1 : ¬ (((Utf8.decode s i).1 : Nat) : Int) < 32 := by omega
        have e2 : ¬ (((Utf8.decode s i).1 : Nat) : Int) = 127 := by omega
        simp only [Int.ofNat_eq_natCast, e1, decide_false, Bool.false_eq_true, if_false, beq_iff_eq, e2]
        rw [ih _ h3 (by omega), first_skip _ i h3 (fun j a b => by
          have := h4 j a b
          simp only [ctl, Bool.or_eq_false_iff, decide_eq_false_iff_not, beq_eq_false_iff_ne]
          omega)]
        simp

theorem rchar_loop (s : ByteArray) (hs : s.size < 1000000000) : ∀ k i, i ≤ s.size → s.size - i < k → ref1_characters_l1 s k (i : Int) = some (first (ctl s) i s.size).isNone := by
  intro k
  induction k with
  | zero => intro i _ h; omega
  | succ k ih =>
    intro i hi hk
    rw [ref1_characters_l1]
    by_cases h : i = s.size
    · subst h
      rw [first_end]
      simp only [Int.lt_irrefl, decide_false, ift_false, ref1_characters_j3]
      rfl
    · have hlt : i < s.size := by omega
      have g : (0 : Int) ≤ (i : Int) ∧ (i : Int) < (s.size : Int) := ⟨by omega, by omega⟩
      have e : ((s.data.toList.getD (i : Int).toNat 0).toNat : Int) = (byt s i : Int) := by simp [byt]
      simp only [dec_lt hlt, ift_true, grd, if_pos g, bnd_some', ref1_characters_j2, ift_ite, e]
      rw [first_step hlt, wrap_succ hlt hs]
      by_cases h1 : byt s i < 32
      · have : ctl s i = true := by simp [ctl, h1]
        simp [this, show ((byt s i : Nat) : Int) < 32 by omega]
      · have e1 : ¬ ((byt s i : Nat) : Int) < 32 := by omega
        by_cases h2 : byt s i = 127
        · have : ctl s i = true := by simp [ctl, h2]
          simp [this, h2]
        · have : ctl s i = false := by simp [ctl, h1, h2]
          have e2 : ¬ ((byt s i : Nat) : Int) = 127 := by omega
          simp only [this, e1, decide_false, Bool.false_eq_true, if_false, beq_iff_eq, e2]
          exact ih (i + 1) (by omega) (by omega)

/-- a text of a Text -/
def textOk (s : ByteArray) : Bool := decide (s.size ≤ 256) && (validD s.data.toList && (first (ctl s) 0 s.size).isNone)

theorem validS (s : ByteArray) (hs : s.size < 1000000000) : utf8_ValidString s = some (validD s.data.toList) := by
  unfold utf8_ValidString grd
  rw [if_pos (by omega)]

theorem vText (s : ByteArray) (hs : s.size < 1000000000) : value_text s = some (textOk s) := by
  unfold value_text value_text_j1 textOk
  rw [validS s hs, vtext_loop s BIG 0 (by omega) (by rw [big_val]; omega)]
  by_cases h : s.size ≤ 256
  · have : ¬ (256 : Int) < (s.size : Int) := by omega
    simp only [this, h, decide_false, decide_true, ift_false, bnd_some']
    cases validD s.data.toList <;> rfl
  · have : (256 : Int) < (s.size : Int) := by omega
    simp only [this, h, decide_false, decide_true, ift_true]
    rfl

theorem rChars (s : ByteArray) (hs : s.size < 1000000000) : ref1_characters s = some (textOk s) := by
  have := rchar_loop s hs BIG 0 (by omega) (by rw [big_val]; omega)
  unfold ref1_characters ref1_characters_j1 textOk
  rw [validS s hs, show (0 : Int) = ((0 : Nat) : Int) from rfl, this]
  by_cases h : s.size ≤ 256
  · have e : ¬ (256 : Int) < (s.size : Int) := by omega
    simp only [e, h, decide_false, decide_true, bnd_some']
    cases validD s.data.toList <;> rfl
  · have e : (256 : Int) < (s.size : Int) := by omega
    simp only [e, h, decide_false, decide_true, bnd_some']
    cases validD s.data.toList <;> rfl

theorem vWithin (a b c : Int) : value_within a b c = some (decide (b ≤ a) && decide (a ≤ c)) := by
  unfold value_within value_within_j1; exact ift_and _ _
theorem rWithin (a b c : Int) : ref1_within a b c = some (decide (b ≤ a) && decide (a ≤ c)) := by
  unfold ref1_within ref1_within_j1; exact ift_and _ _

/-- a value that is sound but for its items -/
def plainOk (v : GValue) : Bool :=
  let bare := v.n == 0 && v.scale == 0
  let noS := decide (v.s.size = 0)
  let noI := ((v.items.length : Int) == 0)
  if v.kind = 0 then bare && (noS && noI)
  else if v.kind = 1 then (decide (0 ≤ v.n) && decide (v.n ≤ 1)) && (v.scale == 0 && (noS && noI))
  else if v.kind = 2 then (decide (-999999999999999999 ≤ v.n) && decide (v.n ≤ 999999999999999999)) && (v.scale == 0 && (noS && noI))
  else if v.kind = 3 then (decide (-999999999999999999 ≤ v.n) && decide (v.n ≤ 999999999999999999)) && ((decide (0 ≤ v.scale) && decide (v.scale ≤ 12)) && (noS && noI))
  else if v.kind = 4 then bare && (textOk v.s && noI)
  else if v.kind = 5 then (decide (-62135596800 ≤ v.n) && decide (v.n ≤ 253402300799)) && (v.scale == 0 && (noS && noI))
  else if v.kind = 6 then bare && (noS && decide ((v.items.length : Int) ≤ 64))
  else if v.kind = 7 then bare && (noS && decide ((0 : Int) < (v.items.length : Int)))
  else false

theorem vPlain (v : GValue) (hs : v.s.size < 1000000000) : value_plain v = some (plainOk v) := by
  have j : ∀ x, value_plain_j1 v x = some (if v.kind = 0 then x && (decide (v.s.size = 0) && ((v.items.length : Int) == 0))
      else if v.kind = 1 then (decide (0 ≤ v.n) && decide (v.n ≤ 1)) && (v.scale == 0 && (decide (v.s.size = 0) && ((v.items.length : Int) == 0)))
      else if v.kind = 2 then (decide (-999999999999999999 ≤ v.n) && decide (v.n ≤ 999999999999999999)) && (v.scale == 0 && (decide (v.s.size = 0) && ((v.items.length : Int) == 0)))
      else if v.kind = 3 then (decide (-999999999999999999 ≤ v.n) && decide (v.n ≤ 999999999999999999)) && ((decide (0 ≤ v.scale) && decide (v.scale ≤ 12)) && (decide (v.s.size = 0) && ((v.items.length : Int) == 0)))
      else if v.kind = 4 then x && (textOk v.s && ((v.items.length : Int) == 0))
      else if v.kind = 5 then (decide (-62135596800 ≤ v.n) && decide (v.n ≤ 253402300799)) && (v.scale == 0 && (decide (v.s.size = 0) && ((v.items.length : Int) == 0)))
      else if v.kind = 6 then x && (decide (v.s.size = 0) && decide ((v.items.length : Int) ≤ 64))
      else if v.kind = 7 then x && (decide (v.s.size = 0) && decide ((0 : Int) < (v.items.length : Int)))
      else false) := by
    intro x
    unfold value_plain_j1 value_plain_j2 value_plain_j3 value_plain_j4 value_plain_j5 value_plain_j6 value_plain_j7 value_plain_j8 value_plain_j9
    simp only [vWithin, vText v.s hs, bnd_some', ift_and, size_zero]
    simp only [ift_ite, beq_iff_eq]
    repeat' split
    all_goals (first | rfl | simp_all)
  unfold value_plain
  rw [j, j]
  unfold plainOk
  cases v.n == 0
  · simp only [ift_false, Bool.false_and]
  · simp only [ift_true, Bool.true_and]

theorem rAlone (v : GValue) (hs : v.s.size < 1000000000) : ref1_alone v = some (plainOk v) := by
  have j : ∀ x, ref1_alone_j1 v x = some (if v.kind = 0 then x && (v.n == 0 && v.scale == 0)
      else if v.kind = 1 then x && ((decide (0 ≤ v.n) && decide (v.n ≤ 1)) && v.scale == 0)
      else if v.kind = 2 then x && ((decide (-999999999999999999 ≤ v.n) && decide (v.n ≤ 999999999999999999)) && v.scale == 0)
      else if v.kind = 3 then x && ((decide (-999999999999999999 ≤ v.n) && decide (v.n ≤ 999999999999999999)) && (decide (0 ≤ v.scale) && decide (v.scale ≤ 12)))
      else if v.kind = 4 then ((v.items.length : Int) == 0) && (v.n == 0 && (v.scale == 0 && textOk v.s))
      else if v.kind = 5 then x && ((decide (-62135596800 ≤ v.n) && decide (v.n ≤ 253402300799)) && v.scale == 0)
      else if v.kind = 6 then decide (v.s.size = 0) && (v.n == 0 && (v.scale == 0 && decide ((v.items.length : Int) ≤ 64)))
      else if v.kind = 7 then decide (v.s.size = 0) && (v.n == 0 && (v.scale == 0 && decide ((0 : Int) < (v.items.length : Int))))
      else false) := by
    intro x
    unfold ref1_alone_j1 ref1_alone_j2 ref1_alone_j3 ref1_alone_j4 ref1_alone_j5 ref1_alone_j6 ref1_alone_j7 ref1_alone_j8 ref1_alone_j9
    simp only [rWithin, rChars v.s hs, bnd_some', ift_and, size_zero]
    simp only [ift_ite, beq_iff_eq]
    repeat' split
    all_goals (first | rfl | simp_all)
  unfold ref1_alone
  rw [j, j, size_zero]
  unfold plainOk
  generalize decide (v.s.size = 0) = a
  generalize ((v.items.length : Int) == 0) = b
  generalize textOk v.s = t
  generalize (v.n == 0) = c
  generalize (v.scale == 0) = d
  generalize (decide (0 ≤ v.n) && decide (v.n ≤ 1)) = e1
  generalize (decide (-999999999999999999 ≤ v.n) && decide (v.n ≤ 999999999999999999)) = e2
  generalize (decide (0 ≤ v.scale) && decide (v.scale ≤ 12)) = e3
  generalize (decide (-62135596800 ≤ v.n) && decide (v.n ≤ 253402300799)) = e4
  generalize decide ((v.items.length : Int) ≤ 64) = e5
  generalize decide ((0 : Int) < (v.items.length : Int)) = e6
  cases a <;> simp only [ift_false, ift_true] <;> congr 1 <;> repeat' split
  all_goals (first | rfl | (cases b <;> cases c <;> cases d <;> simp <;> done) | (simp [Bool.and_comm, Bool.and_assoc, Bool.and_left_comm]))

/-- items one after the other, as long as they are sound -/
def soundL (f : GValue → Int → Bool × Int) : List GValue → Int → Bool × Int
  | [], z => (true, z)
  | v :: l, z => if (f v z).1 = true then soundL f l (f v z).2 else (false, (f v z).2)

def cnt (v : GValue) (z : Int) : Int := if v.kind = 0 then z else z + 1

/-- d: how many levels are left -/
def soundD : Nat → GValue → Int → Bool × Int
  | 0, v, z => (false, cnt v z)
  | d + 1, v, z => if 256 < cnt v z ∨ plainOk v = false then (false, cnt v z) else soundL (soundD d) v.items (cnt v z)

def soundB (v : GValue) : Bool := (soundD 4 v 0).1

theorem soundL_le {f : GValue → Int → Bool × Int} : ∀ {l : List GValue} {z : Int}, (∀ v ∈ l, ∀ z, 0 ≤ z → z ≤ 256 → 0 ≤ (f v z).2 ∧ (f v z).2 ≤ 257 ∧ ((f v z).1 = true → (f v z).2 ≤ 256)) → 0 ≤ z → z ≤ 256 →
    0 ≤ (soundL f l z).2 ∧ (soundL f l z).2 ≤ 257 ∧ ((soundL f l z).1 = true → (soundL f l z).2 ≤ 256)
  | [], z, _, h0, h1 => by simp only [soundL]; omega
  | v :: l, z, hf, h0, h1 => by
    obtain ⟨a, b, c⟩ := hf v (by simp) z h0 h1
    simp only [soundL]
    split
    · rename_i h
      exact soundL_le (fun x hx => hf x (by simp [hx])) a (c h)
    · exact ⟨a, b, fun h => by cases h⟩

theorem soundD_le : ∀ (d : Nat) (v : GValue) (z : Int), 0 ≤ z → z ≤ 256 → 0 ≤ (soundD d v z).2 ∧ (soundD d v z).2 ≤ 257 ∧ ((soundD d v z).1 = true → (soundD d v z).2 ≤ 256)
  | 0, v, z, h0, h1 => by
    have hc : z ≤ cnt v z ∧ cnt v z ≤ z + 1 := by unfold cnt; split <;> omega
    simp only [soundD]
    exact ⟨by omega, by omega, fun h => by cases h⟩
  | d + 1, v, z, h0, h1 => by
    have hc : z ≤ cnt v z ∧ cnt v z ≤ z + 1 := by unfold cnt; split <;> omega
    simp only [soundD]
    split
    · exact ⟨by omega, by omega, fun h => by cases h⟩
    · rename_i h
      have : ¬ 256 < cnt v z := fun e => h (.inl e)
      exact soundL_le (fun x _ => soundD_le d x) (by omega) (by omega)

theorem cnt_wrap (v : GValue) (z : Int) (h0 : 0 ≤ z) (h1 : z ≤ 256) {β : Type} (f : Int → Option β) : ift (v.kind != (0 : Int)) (f (IntKind.i64.wrap (z + 1))) (f z) = f (cnt v z) := by
  rw [w64 (by omega) (by omega)]
  unfold cnt
  by_cases h : v.kind = 0
  · simp [h, ift_ite]
  · simp [h, ift_ite]

theorem vsound_loop {d : Nat} (l : Int) (q : GValue → Int → Int → Option (Bool × Int)) (xs : List GValue) (hl : xs.length < 1000000000)
    (hq : ∀ v ∈ xs, ∀ z, 0 ≤ z → z ≤ 256 → q v l z = some (!(soundD d v z).1, (soundD d v z).2)) : ∀ (k i : Nat) (z : Int), i ≤ xs.length → xs.length - i < k → 0 ≤ z → z ≤ 256 →
    ∃ r : Int, slices_IndexFunc_api_Value_api_Value_of_value_sound_1_l1 q xs l k z (i : Int) = some (r, (soundL (soundD d) (xs.drop i) z).2) ∧ decide (0 ≤ r) = !(soundL (soundD d) (xs.drop i) z).1 := by
  intro k
  induction k with
  | zero => intro i z _ h; omega
  | succ k ih =>
    intro i z hi hk h0 h1
    rw [slices_IndexFunc_api_Value_api_Value_of_value_sound_1_l1]
    by_cases h : i = xs.length
    · subst h
      simp only [Int.lt_irrefl, decide_false, ift_false, List.drop_length, soundL, slices_IndexFunc_api_Value_api_Value_of_value_sound_1_j1]
      exact ⟨-1, rfl, rfl⟩
    · have hlt : i < xs.length := by omega
      have hm : xs[i] ∈ xs := List.getElem_mem hlt
      simp only [dec_lt hlt, ift_true, at_nat hlt, bnd_some', hq _ hm z h0 h1]
      rw [List.drop_eq_getElem_cons hlt]
      simp only [soundL]
      obtain ⟨a, b, c⟩ := soundD_le d xs[i] z h0 h1
      cases hs : (soundD d xs[i] z).1 with
      | false =>
        simp only [Bool.not_false, ift_true, Bool.false_eq_true, if_false]
        exact ⟨_, rfl, by simp⟩
      | true =>
        simp only [Bool.not_true, ift_false, if_true]
        rw [wrap_succ hlt hl]
        exact ih (i + 1) _ (by omega) (by omega) a (c hs)

theorem vsound_eq : ∀ (d k : Nat) (v : GValue) (z : Int), d ≤ 4 → 4 * d + 4 ≤ k → sizeV v < 1000000000 → 0 ≤ z → z ≤ 256 → value_sound k v (5 - d : Int) z = some (soundD d v z) := by
  intro d
  induction d with
  | zero =>
    intro k v z _ hk hs h0 h1
    obtain ⟨k, rfl⟩ : ∃ q, k = q + 1 := ⟨k - 1, by omega⟩
    rw [value_sound, cnt_wrap v z h0 h1]
    unfold value_sound_j1 value_sound_j2
    simp [soundD, ift_true]
  | succ d ih =>
    intro k v z hd hk hs h0 h1
    obtain ⟨k, rfl⟩ : ∃ q, k = q + 4 := ⟨k - 4, by omega⟩
    have hsz := sizeV_eq v
    have hlen := sizeL_len v.items
    rw [value_sound, cnt_wrap v z h0 h1]
    unfold value_sound_j1 value_sound_j2
    rw [vPlain v (by omega)]
    have e4 : ¬ (4 : Int) < 5 - ((d + 1 : Nat) : Int) := by omega
    have hc : z ≤ cnt v z ∧ cnt v z ≤ z + 1 := by unfold cnt; split <;> omega
    simp only [e4, decide_false, ift_false, soundD, bnd_some']
    by_cases h2 : (256 : Int) < cnt v z
    · simp [h2, ift_true]
    · cases hp : plainOk v with
      | false => simp [h2, ift_true, ift_false]
      | true =>
        simp only [h2, decide_false, ift_false, Bool.not_true, false_or, Bool.true_eq_false, if_false]
        have := vsound_loop (d := d) (5 - ((d + 1 : Nat) : Int)) (value_sound_1_s (k + 1)) v.items (by omega) (by
          intro x hx z h0 h1
          have := sizeL_mem hx
          rw [value_sound_1_s, w64 (by omega) (by omega), show (5 - ((d + 1 : Nat) : Int) + 1) = 5 - (d : Int) by omega, ih k x z (by omega) (by omega) (by omega) h0 h1]
          rfl) BIG 0 (cnt v z) (by omega) (by rw [big_val]; omega) (by omega) (by omega)
        obtain ⟨r, e1, e2⟩ := this
        rw [show ((0 : Nat) : Int) = (0 : Int) from rfl] at e1
        rw [slices_ContainsFunc_api_Value_api_Value_of_value_sound_1, slices_IndexFunc_api_Value_api_Value_of_value_sound_1, e1]
        simp only [bnd_some', e2, List.drop_zero, Bool.not_not]

theorem vSound (v : GValue) (hs : sizeV v < 1000000000) : value_Sound v = some (soundB v) := by
  unfold value_Sound soundB
  have := vsound_eq 4 BIG v 0 (by omega) (by rw [big_val]; omega) hs (by omega) (by omega)
  rw [show (5 - ((4 : Nat) : Int)) = (1 : Int) from rfl] at this
  rw [this]; rfl

theorem rsound_loop {d : Nat} (l : Int) (hl0 : 0 ≤ l) (hl1 : l ≤ 100) (q : GValue → Int → Int → Option (Bool × Int)) (v : GValue) (hl : v.items.length < 1000000000)
    (hq : ∀ x ∈ v.items, ∀ z, 0 ≤ z → z ≤ 256 → q x (l + 1) z = some (soundD d x z)) : ∀ (k i : Nat) (z : Int), i ≤ v.items.length → v.items.length - i < k → 0 ≤ z → z ≤ 256 →
    ref1_sound_l1 q v l k z (i : Int) = some (soundL (soundD d) (v.items.drop i) z) := by
  intro k
  induction k with
  | zero => intro i z _ h; omega
  | succ k ih =>
    intro i z hi hk h0 h1
    rw [ref1_sound_l1]
    by_cases h : i = v.items.length
    · subst h
      simp only [Int.lt_irrefl, decide_false, ift_false, List.drop_length, soundL, ref1_sound_j3]
    · have hlt : i < v.items.length := by omega
      have hm : v.items[i] ∈ v.items := List.getElem_mem hlt
      rw [w64 (x := l + 1) (by omega) (by omega)]
      simp only [dec_lt hlt, ift_true, at_nat hlt, bnd_some', hq _ hm z h0 h1]
      rw [List.drop_eq_getElem_cons hlt]
      simp only [soundL]
      obtain ⟨a, b, c⟩ := soundD_le d v.items[i] z h0 h1
      cases hs : (soundD d v.items[i] z).1 with
      | false => simp only [Bool.not_false, ift_true, Bool.false_eq_true, if_false]
      | true =>
        simp only [Bool.not_true, ift_false, if_true]
        rw [wrap_succ hlt hl]
        exact ih (i + 1) _ (by omega) (by omega) a (c hs)

theorem rsound_eq : ∀ (d k : Nat) (v : GValue) (z : Int), d ≤ 4 → d + 1 ≤ k → sizeV v < 1000000000 → 0 ≤ z → z ≤ 256 → ref1_sound k v (5 - d : Int) z = some (soundD d v z) := by
  intro d
  induction d with
  | zero =>
    intro k v z _ hk hs h0 h1
    obtain ⟨k, rfl⟩ : ∃ q, k = q + 1 := ⟨k - 1, by omega⟩
    rw [ref1_sound, cnt_wrap v z h0 h1]
    unfold ref1_sound_j1 ref1_sound_j2
    simp [soundD, ift_true]
  | succ d ih =>
    intro k v z hd hk hs h0 h1
    obtain ⟨k, rfl⟩ : ∃ q, k = q + 1 := ⟨k - 1, by omega⟩
    have hsz := sizeV_eq v
    have hlen := sizeL_len v.items
    rw [ref1_sound, cnt_wrap v z h0 h1]
    unfold ref1_sound_j1 ref1_sound_j2
    rw [rAlone v (by omega)]
    have e4 : ¬ (4 : Int) < 5 - ((d + 1 : Nat) : Int) := by omega
    have hc : z ≤ cnt v z ∧ cnt v z ≤ z + 1 := by unfold cnt; split <;> omega
    simp only [e4, decide_false, ift_false, soundD, bnd_some']
    by_cases h2 : (256 : Int) < cnt v z
    · simp [h2, ift_true]
    · cases hp : plainOk v with
      | false => simp [h2, ift_true, ift_false]
      | true =>
        simp only [h2, decide_false, ift_false, Bool.not_true, false_or, Bool.true_eq_false, if_false]
        have := rsound_loop (d := d) (5 - ((d + 1 : Nat) : Int)) (by omega) (by omega) (ref1_sound k) v (by omega) (by
          intro x hx z h0 h1
          have := sizeL_mem hx
          rw [show (5 - ((d + 1 : Nat) : Int) + 1) = 5 - (d : Int) by omega]
          exact ih k x z (by omega) (by omega) (by omega) h0 h1) BIG 0 (cnt v z) (by omega) (by rw [big_val]; omega) (by omega) (by omega)
        rw [show ((0 : Nat) : Int) = (0 : Int) from rfl, List.drop_zero] at this
        exact this

theorem rSound (v : GValue) (hs : sizeV v < 1000000000) : ref1_Sound v = some (soundB v) := by
  unfold ref1_Sound soundB
  have := rsound_eq 4 BIG v 0 (by omega) (by rw [big_val]; omega) hs (by omega) (by omega)
  rw [show (5 - ((4 : Nat) : Int)) = (1 : Int) from rfl] at this
  rw [this]; rfl

end Go.Proofs.YtpmoopnkoknbeaaGreatDoor
namespace Go.Proofs.YtpmoopnkoknbeaaGreatDoor
open Go Go.SX Go.SX.Cal Go.Lib
set_option linter.unusedVariables false
set_option linter.unusedSimpArgs false

/-- sound within d levels -/
def Snd (d : Nat) (v : GValue) : Prop := ∃ z, (soundD d v z).1 = true

theorem soundL_mem {f : GValue → Int → Bool × Int} : ∀ {l : List GValue} {z : Int}, (soundL f l z).1 = true → ∀ x ∈ l, ∃ z', (f x z').1 = true
  | [], _, _, x, hx => by cases hx
  | v :: l, z, h, x, hx => by
    simp only [soundL] at h
    by_cases hv : (f v z).1 = true
    · rw [if_pos hv] at h
      rcases List.mem_cons.1 hx with rfl | hx
      · exact ⟨z, hv⟩
      · exact soundL_mem h x hx
    · rw [if_neg hv] at h; cases h

theorem Snd.zero {v : GValue} (h : Snd 0 v) : False := by obtain ⟨z, h⟩ := h; cases h

theorem Snd.succ {d : Nat} {v : GValue} (h : Snd (d + 1) v) : plainOk v = true ∧ ∀ x ∈ v.items, Snd d x := by
  obtain ⟨z, h⟩ := h
  simp only [soundD] at h
  by_cases hc : 256 < cnt v z ∨ plainOk v = false
  · rw [if_pos hc] at h; cases h
  · rw [if_neg hc] at h
    refine ⟨?_, fun x hx => soundL_mem h x hx⟩
    cases hp : plainOk v with
    | true => rfl
    | false => exact absurd (.inr hp) hc

theorem plain_scale {v : GValue} (h : plainOk v = true) (hk : v.kind ≠ 3) : v.scale = 0 := by
  unfold plainOk at h
  simp only at h
  split at h
  · simp at h; exact h.1.2
  · split at h
    · simp at h; exact h.2.1
    · split at h
      · simp at h; exact h.2.1
      · split at h
        · simp at h; exact h.1.2
        · split at h
          · simp at h; exact h.2.1
          · split at h
            · simp at h; exact h.1.2
            · split at h
              · simp at h; exact h.1.2
              · cases h

theorem plain_items {v : GValue} (h : plainOk v = true) (h6 : v.kind ≠ 6) (h7 : v.kind ≠ 7) : v.items = [] := by
  unfold plainOk at h
  simp only at h
  rw [← List.length_eq_zero_iff]
  split at h
  · simp at h; simp [h.2.2]
  · split at h
    · simp at h; simp [h.2.2.2]
    · split at h
      · simp at h; simp [h.2.2.2]
      · split at h
        · simp at h; simp [h.2.2.2]
        · split at h
          · simp at h; simp [h.2.2]
          · split at h
            · simp at h; simp [h.2.2.2]
            · cases h

theorem V.sh {t : GType} (h : V t) : shp t = 0 := by cases h; assumption
theorem V.fs {t : GType} (h : V t) : ∀ f, f ∈ t.fields → V f.type := by cases h; assumption

theorem V.scale {t : GType} (h : V t) (hk : t.kind ≠ 3) : t.scale = 0 := by
  have := h.sh
  unfold shp at this
  split at this
  · cases this
  · by_cases h2 : scBad t
    · rw [if_pos h2] at this; cases this
    · by_cases hs : t.scale = 0
      · exact hs
      · exact absurd ⟨hs, .inl hk⟩ h2

theorem V.list {t : GType} (h : V t) (hk : t.kind = 6) : t.fields.length = 1 := by
  have := h.sh
  unfold shp at this
  split at this
  · cases this
  · by_cases h2 : scBad t
    · rw [if_pos h2] at this; cases this
    · rw [if_neg h2] at this
      unfold vf at this
      rw [if_pos hk] at this
      split at this
      · cases this
      · rename_i h3
        by_cases hl : t.fields.length = 1
        · exact hl
        · exact absurd (.inl hl) h3

def ft (t : GType) (i : Nat) : GType := (t.fields[if t.kind = 6 then 0 else i]?.map (·.type)).getD ⟨0, 0, []⟩
def nd (t : GType) (i : Nat) : Bool := (t.fields[if t.kind = 6 then 0 else i]?.map (·.need)).getD false
def iv (v : GValue) (i : Nat) : GValue := v.items[i]?.getD ⟨0, 0, 0, ByteArray.empty, []⟩

theorem iv_at {v : GValue} {i : Nat} (h : i < v.items.length) : v.items[i] = iv v i := by simp [iv, h]

/-- a sound value is of a right type -/
def ofD : Nat → GType → GValue → Bool
  | 0, _, _ => true
  | d + 1, t, v =>
    if v.kind = 0 then true
    else if v.kind ≠ t.kind then false
    else if v.kind = 3 then v.scale == t.scale
    else if v.kind = 7 ∧ t.fields.length ≠ v.items.length then false
    else (first (fun i => !ofD d (ft t i) (iv v i)) 0 v.items.length).isNone

/-- there is room: a field for every item -/
def Fit (t : GType) (v : GValue) : Prop := ∀ i, i < v.items.length → (if t.kind = 6 then 0 else i) < t.fields.length

theorem fit_of {d : Nat} {t : GType} {v : GValue} (hs : Snd (d + 1) v) (ht : V t) (h : ofD (d + 1) t v = true) : Fit t v ∧ ∀ i, i < v.items.length → ofD d (ft t i) (iv v i) = true := by
  obtain ⟨hp, _⟩ := hs.succ
  by_cases h67 : v.kind = 6 ∨ v.kind = 7
  · simp only [ofD] at h
    rw [if_neg (by omega)] at h
    by_cases hk : v.kind = t.kind
    · rw [if_neg (fun hh => hh hk), if_neg (by omega)] at h
      by_cases hl : v.kind = 7 ∧ t.fields.length ≠ v.items.length
      · rw [if_pos hl] at h; cases h
      · rw [if_neg hl] at h
        have hn := Option.isNone_iff_eq_none.1 h
        rw [first_none] at hn
        refine ⟨fun i hi => ?_, fun i hi => by simpa using hn i (Nat.zero_le _) hi⟩
        by_cases h6 : t.kind = 6
        · rw [if_pos h6, ht.list h6]; omega
        · rw [if_neg h6]
          have : ¬ t.fields.length ≠ v.items.length := fun hh => hl ⟨by omega, hh⟩
          omega
    · rw [if_pos hk] at h; cases h
  · have : v.items = [] := plain_items hp (by omega) (by omega)
    refine ⟨fun i hi => ?_, fun i hi => ?_⟩
    · rw [this] at hi; simp at hi
    · rw [this] at hi; simp at hi

theorem ft_at {t : GType} {i : Nat} (h : (if t.kind = 6 then 0 else i) < t.fields.length) : ∃ f : GField, f ∈ t.fields ∧ t.fields[if t.kind = 6 then 0 else i]? = some f ∧ f.type = ft t i ∧ f.need = nd t i := by
  refine ⟨t.fields[if t.kind = 6 then 0 else i], List.getElem_mem h, List.getElem?_eq_getElem h, ?_, ?_⟩
  · unfold ft; rw [List.getElem?_eq_getElem h]; rfl
  · unfold nd; rw [List.getElem?_eq_getElem h]; rfl

theorem at_some {α : Type} {xs : List α} {i : Nat} {x : α} (h : xs[i]? = some x) : at? xs (i : Int) = some x := by unfold at?; simp [h]

theorem iv_mem {v : GValue} {i : Nat} (h : i < v.items.length) : iv v i ∈ v.items := by rw [← iv_at h]; exact List.getElem_mem h

theorem of_eq : ∀ (d k k' : Nat) (t : GType) (v : GValue), Snd d v → V t → sizeV v < 1000000000 → sizeT t < 1000000000 → 4 * d + 1 ≤ k → d + 1 ≤ k' →
    value_of k t v = some (ofD d t v) ∧ ref1_of k' t v = some (ofD d t v) := by
  intro d
  induction d with
  | zero => intro k k' t v hs; exact hs.zero.elim
  | succ d ih =>
    intro k k' t v hs ht hv hT hk hk'
    obtain ⟨k, rfl⟩ : ∃ q, k = q + 4 := ⟨k - 4, by omega⟩
    obtain ⟨k', rfl⟩ : ∃ q, k' = q + 1 := ⟨k' - 1, by omega⟩
    obtain ⟨hp, hi⟩ := hs.succ
    have hsz := sizeV_eq v
    have hlen := sizeL_len v.items
    have hsT := sizeT_eq t
    have hlF := sizeF_len t.fields
    rw [value_of, ref1_of]
    simp only [ofD, ref1_of_j1]
    by_cases h0 : v.kind = 0
    · simp [h0, ift_ite]
    · by_cases hkk : v.kind = t.kind
      · have sc : v.kind ≠ 3 → v.scale = t.scale := fun h => by rw [plain_scale hp h, ht.scale (by omega)]
        -- the items
        have room : ¬ (v.kind = 7 ∧ t.fields.length ≠ v.items.length) → Fit t v := by
          intro hn i hi
          by_cases h6 : t.kind = 6
          · rw [if_pos h6, ht.list h6]; omega
          · rw [if_neg h6]
            by_cases h7 : v.kind = 7
            · have : ¬ t.fields.length ≠ v.items.length := fun hh => hn ⟨h7, hh⟩
              omega
            · rw [plain_items hp (by omega) h7] at hi; simp at hi
        have sub : Fit t v → ∀ i, i < v.items.length → ∃ f : GField, t.fields[if t.kind = 6 then 0 else i]? = some f ∧ f.type = ft t i ∧ value_of k (ft t i) (iv v i) = some (ofD d (ft t i) (iv v i)) ∧ ref1_of k' (ft t i) (iv v i) = some (ofD d (ft t i) (iv v i)) := by
          intro hf i hi'
          obtain ⟨f, f1, f2, f3, _⟩ := ft_at (hf i hi')
          have m1 := sizeL_mem (iv_mem hi')
          have m2 := sizeF_mem f1
          have m3 := sizeFd_eq f
          rw [f3] at m3
          obtain ⟨a, b⟩ := ih k k' (ft t i) (iv v i) (hi _ (iv_mem hi')) (by rw [← f3]; exact ht.fs f f1) (by omega) (by omega) (by omega) (by omega)
          exact ⟨f, f2, f3, a, b⟩
        have ref : Fit t v → ref1_of_l1 (ref1_of k') t v BIG (0 : Int) = some (first (fun i => !ofD d (ft t i) (iv v i)) 0 v.items.length).isNone := by
          intro hf
          have := search (f := fun k i => ref1_of_l1 (ref1_of k') t v k (i : Int)) (n := v.items.length) (P := fun i => !ofD d (ft t i) (iv v i)) (A := fun _ => some false) (B := some true) (fun kk i hi' => by
            obtain ⟨f, f2, f3, _, f5⟩ := sub hf i hi'
            simp only [ref1_of_l1, dec_lt hi', ift_true, ref1_of_j3]
            have e : ift (t.kind == (6 : Int)) (bnd (at? t.fields (0 : Int)) fun e1 => bnd (at? v.items (i : Int)) fun e2 => bnd (ref1_of k' e1.type e2) fun r1 => ift (!r1) (some false) (ref1_of_l1 (ref1_of k') t v kk (IntKind.i64.wrap ((i : Int) + 1))))
                (bnd (at? t.fields (i : Int)) fun e1 => bnd (at? v.items (i : Int)) fun e2 => bnd (ref1_of k' e1.type e2) fun r1 => ift (!r1) (some false) (ref1_of_l1 (ref1_of k') t v kk (IntKind.i64.wrap ((i : Int) + 1)))) =
                (bnd (at? t.fields ((if t.kind = 6 then 0 else i : Nat) : Int)) fun e1 => bnd (at? v.items (i : Int)) fun e2 => bnd (ref1_of k' e1.type e2) fun r1 => ift (!r1) (some false) (ref1_of_l1 (ref1_of k') t v kk (IntKind.i64.wrap ((i : Int) + 1)))) := by
              by_cases h6 : t.kind = 6 <;> simp [h6, ift_ite]
            rw [e, at_some f2, bnd_some', at_nat hi', bnd_some', f3, iv_at hi', f5, bnd_some', wrap_succ hi' (by omega), ift_ite]) (fun kk => by simp [ref1_of_l1, ift_ite, ref1_of_j4]) BIG 0 (Nat.zero_le _) (by rw [big_val]; omega)
          rw [show ((0 : Nat) : Int) = (0 : Int) from rfl] at this
          rw [this]
          cases first (fun i => !ofD d (ft t i) (iv v i)) 0 v.items.length <;> rfl
        have e0 : (v.kind == (0 : Int)) = false := by simp [h0]
        have e1 : (v.kind != t.kind) = false := by simp [hkk]
        have e2 : ¬ v.kind ≠ t.kind := fun h => h hkk
        simp only [e0, e1, e2, ift_false, h0, if_false]
        by_cases h3 : v.kind = 3
        · have hni : v.items = [] := plain_items hp (by omega) (by omega)
          refine ⟨by simp [h3, ift_ite], ?_⟩
          have hr := ref (fun i hi => by rw [hni] at hi; simp at hi)
          rw [hni] at hr
          simp only [List.length_nil, first_end, Option.isNone_none] at hr
          simp only [h3, if_true, ref1_of_j2]
          by_cases hsc : v.scale = t.scale
          · have : t.kind ≠ 7 := by omega
            simp [hsc, ift_ite, hr, this]
          · simp [hsc, ift_ite]
        · have hsc := sc h3
          have e3 : (v.kind == (3 : Int)) = false := by simp [h3]
          have e4 : (v.scale != t.scale) = false := by simp [hsc]
          simp only [e3, e4, ift_false, h3, if_false]
          by_cases hl : v.kind = 7 ∧ t.fields.length ≠ v.items.length
          · have e6 : (v.kind == (6 : Int)) = false := by simp [hl.1]
            have e7 : (v.kind == (7 : Int)) = true := by simp [hl.1]
            have t7 : (t.kind == (7 : Int)) = true := by rw [← hkk]; exact e7
            have n1 : ((t.fields.length : Int) != (v.items.length : Int)) = true := by simp; omega
            have n2 : ((v.items.length : Int) != (t.fields.length : Int)) = true := by simp; omega
            rw [slices_EqualFunc_api_Field_api_Value_api_Field_api_Value_of_value_of_2]
            simp [e6, e7, t7, n1, n2, hl, ift_true, ift_false, ref1_of_j2, bnd_some']
          · have hf := room hl
            have hr := ref hf
            simp only [hl, if_false]
            refine ⟨?_, ?_⟩
            · by_cases h6 : v.kind = 6
              · have e6 : (v.kind == (6 : Int)) = true := by simp [h6]
                have t6 : t.kind = 6 := by omega
                have := search (f := fun kk i => slices_IndexFunc_api_Value_api_Value_of_value_of_1_l1 (value_of_1_s (k + 1)) v.items t.kind t.scale t.fields kk (i : Int)) (n := v.items.length) (P := fun i => !ofD d (ft t i) (iv v i)) (A := fun i => some (i : Int)) (B := some (-1)) (fun kk i hi' => by
                  obtain ⟨f, f2, f3, f4, _⟩ := sub hf i hi'
                  rw [if_pos t6] at f2
                  simp only [slices_IndexFunc_api_Value_api_Value_of_value_of_1_l1, dec_lt hi', ift_true, at_nat hi', bnd_some', value_of_1_s]
                  rw [show (0 : Int) = ((0 : Nat) : Int) from rfl, at_some f2, bnd_some', f3, iv_at hi', f4, bnd_some', bnd_some', wrap_succ hi' (by omega), ift_ite]) (fun kk => by simp [slices_IndexFunc_api_Value_api_Value_of_value_of_1_l1, ift_ite, slices_IndexFunc_api_Value_api_Value_of_value_of_1_j1]) BIG 0 (Nat.zero_le _) (by rw [big_val]; omega)
                rw [show ((0 : Nat) : Int) = (0 : Int) from rfl] at this
                rw [e6, ift_true, slices_ContainsFunc_api_Value_api_Value_of_value_of_1, slices_IndexFunc_api_Value_api_Value_of_value_of_1, this]
                cases first (fun i => !ofD d (ft t i) (iv v i)) 0 v.items.length <;> simp [bnd_some']
              · have e6 : (v.kind == (6 : Int)) = false := by simp [h6]
                by_cases h7 : v.kind = 7
                · have e7 : (v.kind == (7 : Int)) = true := by simp [h7]
                  have hlen' : t.fields.length = v.items.length := by
                    by_cases hh : t.fields.length = v.items.length
                    · exact hh
                    · exact absurd ⟨h7, hh⟩ hl
                  have n1 : ((t.fields.length : Int) != (v.items.length : Int)) = false := by simp; omega
                  have := search (f := fun kk i => slices_EqualFunc_api_Field_api_Value_api_Field_api_Value_of_value_of_2_l1 (value_of_2 (k + 2)) t.fields v.items kk (i : Int)) (n := v.items.length) (P := fun i => !ofD d (ft t i) (iv v i)) (A := fun _ => some false) (B := some true) (fun kk i hi' => by
                    obtain ⟨f, f2, f3, _, _⟩ := sub hf i hi'
                    obtain ⟨f', f1', f2', f3', _⟩ := ft_at (hf i hi')
                    have m1 := sizeL_mem (iv_mem hi')
                    have m2 := sizeF_mem f1'
                    have m3 := sizeFd_eq f'
                    rw [f3'] at m3
                    have f4 := (ih (k + 1) (d + 1) (ft t i) (iv v i) (hi _ (iv_mem hi')) (by rw [← f3']; exact ht.fs f' f1') (by omega) (by omega) (by omega) (by omega)).1
                    rw [if_neg (by omega)] at f2
                    have hi2 : i < t.fields.length := by omega
                    simp only [slices_EqualFunc_api_Field_api_Value_api_Field_api_Value_of_value_of_2_l1, dec_lt hi2, ift_true, at_some f2, bnd_some', value_of_2]
                    rw [at_nat hi', bnd_some', f3, iv_at hi', f4, bnd_some', bnd_some', wrap_succ hi' (by omega), ift_ite]) (fun kk => by simp [slices_EqualFunc_api_Field_api_Value_api_Field_api_Value_of_value_of_2_l1, ift_ite, slices_EqualFunc_api_Field_api_Value_api_Field_api_Value_of_value_of_2_j1, hlen']) BIG 0 (Nat.zero_le _) (by rw [big_val]; omega)
                  rw [show ((0 : Nat) : Int) = (0 : Int) from rfl] at this
                  rw [e6, e7, ift_false, ift_true, slices_EqualFunc_api_Field_api_Value_api_Field_api_Value_of_value_of_2, n1, ift_false, this]
                  cases first (fun i => !ofD d (ft t i) (iv v i)) 0 v.items.length <;> rfl
                · have e7 : (v.kind == (7 : Int)) = false := by simp [h7]
                  rw [e6, e7, ift_false, ift_false, plain_items hp h6 h7]
                  simp [first_end]
            · have n2 : v.kind = 7 → ((v.items.length : Int) != (t.fields.length : Int)) = false := by
                intro h7
                have : ¬ t.fields.length ≠ v.items.length := fun hh => hl ⟨h7, hh⟩
                simp; omega
              simp only [ref1_of_j2]
              by_cases h7 : v.kind = 7
              · have t7 : (t.kind == (7 : Int)) = true := by simp [← hkk, h7]
                rw [t7, ift_true, n2 h7, ift_false]; exact hr
              · have t7 : (t.kind == (7 : Int)) = false := by simp [← hkk, h7]
                rw [t7, ift_false, ift_false]; exact hr
      · have e0 : (v.kind == (0 : Int)) = false := by simp [h0]
        have e1 : (v.kind != t.kind) = true := by simp [hkk]
        simp [e0, e1, h0, hkk, ift_true, ift_false]

/-- a null where there must be none -/
def lackD : Nat → GType → GValue → Bool
  | 0, _, _ => false
  | d + 1, t, v => (first (fun i => ((iv v i).kind == 0 && nd t i) || lackD d (ft t i) (iv v i)) 0 v.items.length).isSome

theorem lack_eq : ∀ (d k k' : Nat) (t : GType) (v : GValue), Snd d v → V t → ofD d t v = true → sizeV v < 1000000000 → sizeT t < 1000000000 → d + 1 ≤ k → d + 1 ≤ k' →
    value_lacks k t v = some (lackD d t v) ∧ ref1_missing k' t v = some (lackD d t v) := by
  intro d
  induction d with
  | zero => intro k k' t v hs; exact hs.zero.elim
  | succ d ih =>
    intro k k' t v hs ht ho hv hT hk hk'
    obtain ⟨k, rfl⟩ : ∃ q, k = q + 1 := ⟨k - 1, by omega⟩
    obtain ⟨k', rfl⟩ : ∃ q, k' = q + 1 := ⟨k' - 1, by omega⟩
    obtain ⟨hp, hi⟩ := hs.succ
    obtain ⟨hf, hof⟩ := fit_of hs ht ho
    have hsz := sizeV_eq v
    have hlen := sizeL_len v.items
    have hsT := sizeT_eq t
    have sub : ∀ i, i < v.items.length → ∃ f : GField, t.fields[if t.kind = 6 then 0 else i]? = some f ∧ f.type = ft t i ∧ f.need = nd t i ∧ value_lacks k (ft t i) (iv v i) = some (lackD d (ft t i) (iv v i)) ∧ ref1_missing k' (ft t i) (iv v i) = some (lackD d (ft t i) (iv v i)) := by
      intro i hi'
      obtain ⟨f, f1, f2, f3, f4⟩ := ft_at (hf i hi')
      have m1 := sizeL_mem (iv_mem hi')
      have m2 := sizeF_mem f1
      have m3 := sizeFd_eq f
      rw [f3] at m3
      obtain ⟨a, b⟩ := ih k k' (ft t i) (iv v i) (hi _ (iv_mem hi')) (by rw [← f3]; exact ht.fs f f1) (hof i hi') (by omega) (by omega) (by omega) (by omega)
      exact ⟨f, f2, f3, f4, a, b⟩
    rw [value_lacks, ref1_missing]
    simp only [lackD]
    refine ⟨?_, ?_⟩
    · have := search (f := fun kk i => value_lacks_l1 (value_lacks k) t v kk (i : Int)) (n := v.items.length) (P := fun i => ((iv v i).kind == 0 && nd t i) || lackD d (ft t i) (iv v i)) (A := fun _ => some true) (B := some false) (fun kk i hi' => by
        obtain ⟨f, f2, f3, f4, f5, _⟩ := sub i hi'
        have e : value_field t (i : Int) = some f := by
          unfold value_field value_field_j1
          by_cases h6 : t.kind = 6
          · rw [if_pos h6] at f2
            rw [show (0 : Int) = ((0 : Nat) : Int) from rfl, at_some f2]
            simp [h6, ift_ite, bnd_some']
          · rw [if_neg h6] at f2
            rw [at_some f2]
            simp [h6, ift_ite, bnd_some']
        simp only [value_lacks_l1, dec_lt hi', ift_true, at_nat hi', bnd_some', e, value_lacks_j1, f3, f4, iv_at hi', f5, wrap_succ hi' (show v.items.length < 1000000000 by omega)]
        cases (iv v i).kind == 0 <;> cases nd t i <;> cases lackD d (ft t i) (iv v i) <;> rfl) (fun kk => by simp [value_lacks_l1, ift_ite, value_lacks_j2]) BIG 0 (Nat.zero_le _) (by rw [big_val]; omega)
      rw [show ((0 : Nat) : Int) = (0 : Int) from rfl] at this
      rw [this]
      cases first (fun i => ((iv v i).kind == 0 && nd t i) || lackD d (ft t i) (iv v i)) 0 v.items.length <;> rfl
    · have := search (f := fun kk i => ref1_missing_l1 (ref1_missing k') t v kk (i : Int)) (n := v.items.length) (P := fun i => ((iv v i).kind == 0 && nd t i) || lackD d (ft t i) (iv v i)) (A := fun _ => some true) (B := some false) (fun kk i hi' => by
        obtain ⟨f, f2, f3, f4, _, f5⟩ := sub i hi'
        have e : ∀ j : Int, at? t.fields j = some f → ref1_missing_j1 (ref1_missing_l1 (ref1_missing k') t v kk) (ref1_missing k') t v (i : Int) j = if (((iv v i).kind == 0 && nd t i) || lackD d (ft t i) (iv v i)) = true then some true else ref1_missing_l1 (ref1_missing k') t v kk ((i + 1 : Nat) : Int) := by
          intro j hj
          simp only [ref1_missing_j1, ref1_missing_j2, hj, bnd_some', at_nat hi', f3, f4, iv_at hi', f5, wrap_succ hi' (show v.items.length < 1000000000 by omega)]
          cases (iv v i).kind == 0 <;> cases nd t i <;> cases lackD d (ft t i) (iv v i) <;> rfl
        simp only [ref1_missing_l1, dec_lt hi', ift_true]
        by_cases h6 : t.kind = 6
        · rw [if_pos h6] at f2
          have e6 : (t.kind == (6 : Int)) = true := by simp [h6]
          rw [e6, ift_true]
          exact e 0 (at_some f2)
        · rw [if_neg h6] at f2
          have e6 : (t.kind == (6 : Int)) = false := by simp [h6]
          rw [e6, ift_false]
          exact e i (at_some f2)) (fun kk => by simp [ref1_missing_l1, ift_ite, ref1_missing_j3]) BIG 0 (Nat.zero_le _) (by rw [big_val]; omega)
      rw [show ((0 : Nat) : Int) = (0 : Int) from rfl] at this
      rw [this]
      cases first (fun i => ((iv v i).kind == 0 && nd t i) || lackD d (ft t i) (iv v i)) 0 v.items.length <;> rfl

theorem Check_eq (t : GType) (v : GValue) (hv : sizeV v < 1000000000) (hT : sizeT t < 1000000000) : ∃ e, value_Check t v = some e ∧ ref1_Check t v = some e := by
  obtain ⟨e, h1, h2, h3⟩ := checkType_eq t hT
  unfold value_Check ref1_Check
  rw [h1, h2, vSound v hv, rSound v hv]
  simp only [bnd_some']
  by_cases he : e = 0
  · subst he
    have ht := h3 rfl
    cases hs : soundB v with
    | false => exact ⟨1, rfl, rfl⟩
    | true =>
      have hS : Snd 4 v := ⟨0, hs⟩
      obtain ⟨a, b⟩ := of_eq 4 BIG BIG t v hS ht hv hT (by rw [big_val]; omega) (by rw [big_val]; omega)
      rw [a, b]
      cases ho : ofD 4 t v with
      | false => exact ⟨2, rfl, rfl⟩
      | true =>
        obtain ⟨c, d⟩ := lack_eq 4 BIG BIG t v hS ht ho hv hT (by rw [big_val]; omega) (by rw [big_val]; omega)
        rw [c, d]
        cases lackD 4 t v with
        | false => exact ⟨0, rfl, rfl⟩
        | true => exact ⟨9, rfl, rfl⟩
  · have : (e != (0 : Int)) = true := by simp [he]
    rw [this]
    exact ⟨e, rfl, rfl⟩

theorem empty_size : ByteArray.empty.size = 0 := rfl

end Go.Proofs.YtpmoopnkoknbeaaGreatDoor
namespace Go.Proofs.YtpmoopnkoknbeaaGreatDoor.Tm
open Go Go.SX Go.SX.Cal
set_option linter.unusedVariables false
set_option linter.unusedSimpArgs false

theorem ift_true {β : Type} (x y : Option β) : ift true x y = x := rfl
theorem ift_false {β : Type} (x y : Option β) : ift false x y = y := rfl
theorem ift_ite {β : Type} (b : Bool) (x y : Option β) : ift b x y = if b = true then x else y := by cases b <;> rfl

theorem floor_eq {a b : Int} (hb : 0 < b) (hb2 : b ≤ 1000000) (h1 : -1000000000000000 ≤ a) (h2 : a ≤ 1000000000000000) : value_floor a b = some (a / b, a % b) := by
  unfold value_floor value_floor_j1
  rw [grd_pos (by omega), grd_pos (by omega)]
  have hq : -1000000000000000 ≤ a / b ∧ a / b ≤ 1000000000000000 := by
    have e : a = b * (a / b) + a % b := (Int.mul_ediv_add_emod a b).symm
    have r0 := Int.emod_nonneg a (show b ≠ 0 by omega)
    have r1 := Int.emod_lt_of_pos a hb
    constructor
    · apply Int.le_ediv_of_mul_le hb
      have : -1000000000000000 * b ≤ -1000000000000000 * 1 := by apply Int.mul_le_mul_of_nonpos_left <;> omega
      omega
    · apply Int.ediv_le_of_le_mul hb
      have : 1000000000000000 * 1 ≤ 1000000000000000 * b := by apply Int.mul_le_mul_of_nonneg_left <;> omega
      omega
  have r0 := Int.emod_nonneg a (show b ≠ 0 by omega)
  have r1 := Int.emod_lt_of_pos a hb
  rw [Int.tdiv_eq_ediv, Int.tmod_eq_emod]
  have hs : b.sign = 1 := Int.sign_eq_one_of_pos hb
  have hn : (b.natAbs : Int) = b := by omega
  by_cases hc : 0 ≤ a ∨ b ∣ a
  · simp only [hc, if_true, Int.natCast_zero, Int.ofNat_zero, Int.cast_ofNat_Int, Int.sub_zero, Int.add_zero]
    rw [show decide (a % b < 0) = false by simp; omega, ift_false, w64 (by omega) (by omega)]
  · simp only [hc, if_false, hs, hn]
    have hne : a % b ≠ 0 := fun h => hc (.inr (Int.dvd_of_emod_eq_zero h))
    rw [show decide (a % b - b < 0) = true by simp; omega, ift_true]
    simp (disch := omega) only [w64]
    rw [show a / b + 1 - 1 = a / b by omega, show a % b - b + b = a % b by omega]

theorem days_eq {y m d : Int} (h1 : -1000000 ≤ y) (h2 : y ≤ 1000000) (h3 : 1 ≤ m) (h4 : m ≤ 12) (h5 : -100 ≤ d) (h6 : d ≤ 100) : value_days y m d = some (Cal.days y m d) := by
  have key : ∀ y' m', -1000001 ≤ y' → y' ≤ 1000001 → 3 ≤ m' → m' ≤ 14 → value_days_j1 d y' m' = some (y' / 400 * 146097 + S (y' % 400) + mdays (m' - 3) + d - 1 - 719468) := by
    intro y' m' a1 a2 a3 a4
    unfold value_days_j1
    rw [floor_eq (by decide) (by decide) (by omega) (by omega)]
    simp only [bnd_eq]
    have hr : 0 ≤ y' % 400 ∧ y' % 400 ≤ 399 := by omega
    simp (disch := omega) only [w64, Int.tdiv_eq_ediv_of_nonneg]
    unfold S mdays
    congr 1
    omega
  unfold value_days Cal.days
  by_cases hm : m ≤ 2
  · simp only [hm, decide_true, ift_true, if_true]
    simp (disch := omega) only [w64]
    rw [key _ _ (by omega) (by omega) (by omega) (by omega), show m + 12 - 3 = m + 9 by omega]
  · simp only [hm, decide_false, ift_false, if_false]
    rw [key _ _ (by omega) (by omega) (by omega) (by omega)]

theorem S_bound {y : Int} (h0 : 0 ≤ y) (h1 : y ≤ 399) : 0 ≤ S y ∧ S y ≤ 146096 := by unfold S; omega

theorem date_eq {n : Int} (h1 : -1000000000 ≤ n) (h2 : n ≤ 1000000000) : value_date n = some (Cal.date n) := by
  unfold value_date value_date_j1
  rw [w64 (by omega) (by omega), floor_eq (by decide) (by decide) (by omega) (by omega)]
  simp only [bnd_eq]
  have hr0 : 0 ≤ (n + 719468) % 146097 := by omega
  have hr1 : (n + 719468) % 146097 ≤ 146096 := by omega
  have he : -10000 ≤ (n + 719468) / 146097 ∧ (n + 719468) / 146097 ≤ 10000 := by omega
  obtain ⟨b0, b1⟩ := yr_bound hr0 hr1
  obtain ⟨s0, s1, _⟩ := yr_ok hr0 hr1
  unfold Cal.date
  simp only
  generalize (n + 719468) % 146097 = r at *
  generalize (n + 719468) / 146097 = era at *
  have e1 : IntKind.i64.wrap (IntKind.i64.wrap (IntKind.i64.wrap (r - IntKind.i64.wrap (r.tdiv 1460)) + IntKind.i64.wrap (r.tdiv 36524)) - IntKind.i64.wrap (r.tdiv 146096)) = r - r / 1460 + r / 36524 - r / 146096 := by
    simp (disch := omega) only [w64, Int.tdiv_eq_ediv_of_nonneg]
  rw [e1]
  have e2 : IntKind.i64.wrap ((r - r / 1460 + r / 36524 - r / 146096).tdiv 365) = yr r := by
    rw [Int.tdiv_eq_ediv_of_nonneg (by omega)]
    exact w64 (by unfold yr at *; omega) (by unfold yr at *; omega)
  rw [e2]
  generalize yr r = y at *
  have hS := S_bound b0 b1
  have e3 : IntKind.i64.wrap (IntKind.i64.wrap (IntKind.i64.wrap (y * 365) + IntKind.i64.wrap (y.tdiv 4)) - IntKind.i64.wrap (y.tdiv 100)) = S y := by
    simp (disch := omega) only [w64, Int.tdiv_eq_ediv_of_nonneg]
    unfold S; omega
  rw [e3]
  have hk : 0 ≤ r - S y ∧ r - S y ≤ 365 := by omega
  rw [w64 (x := r - S y) (by omega) (by omega)]
  generalize r - S y = k at *
  have e4 : IntKind.i64.wrap ((IntKind.i64.wrap (IntKind.i64.wrap (5 * k) + 2)).tdiv 153) = (5 * k + 2) / 153 := by
    simp (disch := omega) only [w64, Int.tdiv_eq_ediv_of_nonneg]
  rw [e4]
  have hm : 0 ≤ (5 * k + 2) / 153 ∧ (5 * k + 2) / 153 ≤ 11 := by omega
  generalize (5 * k + 2) / 153 = m at *
  unfold mdays
  simp (disch := omega) only [w64, Int.tdiv_eq_ediv_of_nonneg]
  by_cases hc : (12 : Int) < m + 3
  · simp only [hc, decide_true, ift_true, if_true, gt_iff_lt]
  · simp only [hc, decide_false, ift_false, if_false, gt_iff_lt]

/-- civil time -/
def civ (s : Int) : GCivil := ⟨(Cal.date (s / 86400)).1, (Cal.date (s / 86400)).2.1, (Cal.date (s / 86400)).2.2, s % 86400 / 3600, s % 86400 % 3600 / 60, s % 86400 % 60⟩

theorem civil_eq {s : Int} (h1 : -1000000000000 ≤ s) (h2 : s ≤ 1000000000000) : value_civil s = some (civ s) := by
  unfold value_civil
  rw [floor_eq (by decide) (by decide) (by omega) (by omega)]
  simp only [bnd_eq]
  rw [date_eq (by omega) (by omega)]
  simp only [bnd_eq]
  have : 0 ≤ s % 86400 ∧ s % 86400 < 86400 := by omega
  unfold civ
  generalize s % 86400 = t at *
  simp (disch := omega) only [w64, Int.tdiv_eq_ediv_of_nonneg, Int.tmod_eq_emod_of_nonneg]

/-- days have bounds -/
theorem days_bound {y m d : Int} (h1 : -20000 ≤ y) (h2 : y ≤ 20000) (h3 : 1 ≤ m) (h4 : m ≤ 12) (h5 : -100 ≤ d) (h6 : d ≤ 100) : -10000000 ≤ Cal.days y m d ∧ Cal.days y m d ≤ 10000000 := by
  unfold Cal.days S mdays; split <;> omega

def sec (c : GCivil) : Int := Cal.days c.year c.month c.day * 86400 + c.hour * 3600 + c.minute * 60 + c.second

/-- civil times that can be counted -/
structure Fine (c : GCivil) : Prop where
  y0 : -20000 ≤ c.year
  y1 : c.year ≤ 20000
  m0 : 1 ≤ c.month
  m1 : c.month ≤ 12
  d0 : -100 ≤ c.day
  d1 : c.day ≤ 100
  h0 : 0 ≤ c.hour
  h1 : c.hour ≤ 23
  i0 : 0 ≤ c.minute
  i1 : c.minute ≤ 59
  s0 : 0 ≤ c.second
  s1 : c.second ≤ 59

theorem seconds_eq {c : GCivil} (h : Fine c) : value_seconds c = some (sec c) := by
  obtain ⟨y0, y1, m0, m1, d0, d1, h0, h1, i0, i1, s0, s1⟩ := h
  have := days_bound y0 y1 m0 m1 d0 d1
  unfold value_seconds
  rw [days_eq (by omega) (by omega) m0 m1 d0 d1]
  simp only [bnd_eq]
  unfold sec
  simp (disch := omega) only [w64]

theorem tmod_zero (a b : Int) : (a.tmod b == 0) = (a % b == 0) := by
  have : a.tmod b = 0 ↔ a % b = 0 := by
    rw [← Int.dvd_iff_tmod_eq_zero, ← Int.dvd_iff_emod_eq_zero]
  by_cases h : a % b = 0
  · rw [h, this.2 h]
  · have h2 : a.tmod b ≠ 0 := fun e => h (this.1 e)
    rw [beq_eq_false_iff_ne.2 h2, beq_eq_false_iff_ne.2 h]

theorem leap_eq (y : Int) : value_leap y = some (decide (leap y)) := by
  unfold value_leap value_leap_j1
  have e2 : ((y.tmod 100) != 0) = !(y % 100 == 0) := by rw [bne, tmod_zero]
  rw [tmod_zero, tmod_zero, e2]
  unfold leap
  by_cases a : y % 4 = 0
  · by_cases b : y % 100 = 0
    · by_cases c : y % 400 = 0
      · simp [a, b, c, ift_ite]
      · simp [a, b, c, ift_ite]
    · simp [a, b, ift_ite]
  · simp [a, ift_ite]

theorem daysIn_eq {y m : Int} : value_daysIn y m = some (dim y m) := by
  unfold value_daysIn value_daysIn_j1 dim
  rw [leap_eq]
  simp only [bnd_eq]
  by_cases h2 : m = 2
  · subst h2
    by_cases hl : leap y <;> simp [hl, ift_ite]
  by_cases h4 : m = 4
  · subst h4; simp [ift_ite]
  by_cases h6 : m = 6
  · subst h6; simp [ift_ite]
  by_cases h9 : m = 9
  · subst h9; simp [ift_ite]
  by_cases h11 : m = 11
  · subst h11; simp [ift_ite]
  simp [h2, h4, h6, h9, h11, ift_ite]

theorem dim_bound (y m : Int) : 28 ≤ dim y m ∧ dim y m ≤ 31 := by
  unfold dim; split <;> (try split) <;> (try split) <;> omega

theorem within_eq (a b c : Int) : value_within a b c = some (decide (b ≤ a ∧ a ≤ c)) := by
  unfold value_within value_within_j1
  by_cases h : b ≤ a <;> by_cases k : a ≤ c <;> simp [h, k, ift_ite]

theorem check_eq (c : GCivil) : value_checkCivil c = some (if 1 ≤ c.year ∧ c.year ≤ 9999 ∧ 1 ≤ c.month ∧ c.month ≤ 12 ∧ 1 ≤ c.day ∧ c.day ≤ dim c.year c.month ∧ 0 ≤ c.hour ∧ c.hour ≤ 23 ∧ 0 ≤ c.minute ∧ c.minute ≤ 59 ∧ 0 ≤ c.second ∧ c.second ≤ 59 then 0 else 3) := by
  unfold value_checkCivil value_checkCivil_j1 value_checkCivil_j2
  simp only [within_eq, daysIn_eq, bnd_eq]
  by_cases h1 : 1 ≤ c.year ∧ c.year ≤ 9999
  · by_cases h2 : 1 ≤ c.month ∧ c.month ≤ 12
    · by_cases h3 : 1 ≤ c.day ∧ c.day ≤ dim c.year c.month
      · by_cases h4 : 0 ≤ c.hour ∧ c.hour ≤ 23
        · by_cases h5 : 0 ≤ c.minute ∧ c.minute ≤ 59
          · by_cases h6 : 0 ≤ c.second ∧ c.second ≤ 59
            · simp [h1, h2, h3, h4, h5, h6, ift_ite]
            · rw [if_neg (by omega)]; simp [h1, h2, h3, h4, h5, h6, ift_ite]
          · rw [if_neg (by omega)]; simp [h1, h2, h3, h4, h5, ift_ite]
        · rw [if_neg (by omega)]; simp [h1, h2, h3, h4, ift_ite]
      · rw [if_neg (by omega)]; simp [h1, h2, h3, ift_ite]
    · rw [if_neg (by omega)]; simp [h1, h2, ift_ite]
  · rw [if_neg (by omega)]; simp [h1, ift_ite]

end Go.Proofs.YtpmoopnkoknbeaaGreatDoor.Tm
namespace Go.Proofs.YtpmoopnkoknbeaaGreatDoor.Tm
open Go Go.SX Go.SX.Cal
set_option linter.unusedVariables false
set_option linter.unusedSimpArgs false

theorem big_val : BIG = 1152921504606846976 := rfl

structure TOk (t : GTurn) : Prop where
  m0 : 1 ≤ t.month
  m1 : t.month ≤ 12
  w0 : 1 ≤ t.week
  w1 : t.week ≤ 5
  d0 : 1 ≤ t.weekday
  d1 : t.weekday ≤ 7
  i0 : 0 ≤ t.minute
  i1 : t.minute ≤ 1440

def atN (t : GTurn) (y : Int) : Int := Cal.days y t.month 1 + (t.weekday - ((Cal.days y t.month 1 + 3) % 7 + 1) + 7) % 7

/-- the day of a turn in a year -/
def atDay (t : GTurn) (y : Int) : Int :=
  if t.week < 5 then atN t y + (t.week - 1) * 7 else atN t y + 7 * ((Cal.days y t.month 1 + dim y t.month - 1 - atN t y) / 7)

theorem atN_bound {t : GTurn} (y : Int) : Cal.days y t.month 1 ≤ atN t y ∧ atN t y ≤ Cal.days y t.month 1 + 6 := by unfold atN; omega

theorem atDay_bound {t : GTurn} (ht : TOk t) (y : Int) : Cal.days y t.month 1 ≤ atDay t y ∧ atDay t y ≤ Cal.days y t.month 1 + 30 := by
  have := atN_bound (t := t) y
  have hd := dim_bound y t.month
  have := ht.w0
  unfold atDay; split <;> omega

structure ZOk (z : GZone) : Prop where
  o0 : -720 ≤ z.offset
  o1 : z.offset ≤ 720
  s : z.summer = 0 ∨ (TOk z.start ∧ TOk z.stop ∧ (z.summer = 30 ∨ z.summer = 60) ∧ z.start.minute = 120 ∧ ((z.start.month = 3 ∧ 10 ≤ z.stop.month ∧ z.stop.month ≤ 11) ∨ (z.start.month = 10 ∧ z.stop.month = 4)))

def yof (z : GZone) (m : Int) : Int := (Cal.date ((m + z.offset * 60) / 86400)).1
def bgn (z : GZone) (y : Int) : Int := atDay z.start y * 86400 + z.start.minute * 60 - z.offset * 60
def fin (z : GZone) (y : Int) : Int := atDay z.stop y * 86400 + z.stop.minute * 60 - z.offset * 60 - z.summer * 60
def isIn (z : GZone) (m : Int) : Prop := if fin z (yof z m) ≤ bgn z (yof z m) then m < fin z (yof z m) ∨ bgn z (yof z m) ≤ m else bgn z (yof z m) ≤ m ∧ m < fin z (yof z m)
instance (z : GZone) (m : Int) : Decidable (isIn z m) := by unfold isIn; infer_instance
def ahd (z : GZone) (m : Int) : Int := if z.summer = 0 then z.offset * 60 else if isIn z m then z.offset * 60 + z.summer * 60 else z.offset * 60

theorem year_bound {n : Int} (h1 : -5000000 ≤ n) (h2 : n ≤ 5000000) : -20000 ≤ (Cal.date n).1 ∧ (Cal.date n).1 ≤ 20000 := by
  obtain ⟨b0, b1⟩ := yr_bound (r := (n + 719468) % 146097) (by omega) (by omega)
  simp only [Cal.date]
  split <;> omega

end Go.Proofs.YtpmoopnkoknbeaaGreatDoor.Tm
namespace Go.Proofs.YtpmoopnkoknbeaaGreatDoor.Tm
open Go Go.SX Go.SX.Cal
set_option linter.unusedVariables false
set_option linter.unusedSimpArgs false




theorem civ_ok {s : Int} (h1 : -400000000000 ≤ s) (h2 : s ≤ 400000000000) : Fine (civ s) ∧ sec (civ s) = s ∧ 1 ≤ (civ s).day ∧ (civ s).day ≤ dim (civ s).year (civ s).month := by
  obtain ⟨e, m0, m1, d0, d1⟩ := date_ok (s / 86400)
  have hy := year_bound (n := s / 86400) (by omega) (by omega)
  have hd := dim_bound (Cal.date (s / 86400)).1 (Cal.date (s / 86400)).2.1
  refine ⟨⟨hy.1, hy.2, m0, m1, ?_, ?_, ?_, ?_, ?_, ?_, ?_, ?_⟩, ?_, d0, d1⟩
  · show -100 ≤ (Cal.date (s / 86400)).2.2; omega
  · show (Cal.date (s / 86400)).2.2 ≤ 100; omega
  · show 0 ≤ s % 86400 / 3600; omega
  · show s % 86400 / 3600 ≤ 23; omega
  · show 0 ≤ s % 86400 % 3600 / 60; omega
  · show s % 86400 % 3600 / 60 ≤ 59; omega
  · show 0 ≤ s % 86400 % 60; omega
  · show s % 86400 % 60 ≤ 59; omega
  · show Cal.days (Cal.date (s / 86400)).1 (Cal.date (s / 86400)).2.1 (Cal.date (s / 86400)).2.2 * 86400 + s % 86400 / 3600 * 3600 + s % 86400 % 3600 / 60 * 60 + s % 86400 % 60 = s
    rw [e]; omega


/-- a civil time that is right -/
def chk (c : GCivil) : Prop := 1 ≤ c.year ∧ c.year ≤ 9999 ∧ 1 ≤ c.month ∧ c.month ≤ 12 ∧ 1 ≤ c.day ∧ c.day ≤ dim c.year c.month ∧ 0 ≤ c.hour ∧ c.hour ≤ 23 ∧ 0 ≤ c.minute ∧ c.minute ≤ 59 ∧ 0 ≤ c.second ∧ c.second ≤ 59

instance (c : GCivil) : Decidable (chk c) := by unfold chk; infer_instance

theorem chk_fine {c : GCivil} (h : chk c) : Fine c := by
  obtain ⟨a, b, c1, d, e, f, g, i, j, k, l, m⟩ := h
  have := dim_bound c.year c.month
  exact ⟨by omega, by omega, c1, d, by omega, by omega, g, i, j, k, l, m⟩

def J (z : GZone) (y : Int) : Int := Cal.days y 1 1 * 86400 - z.offset * 60

theorem yof_iff {z : GZone} {m y : Int} : yof z m = y ↔ J z y ≤ m ∧ m < J z (y + 1) := by
  unfold yof J
  rw [year_iff]
  omega

theorem month_E (y : Int) : Cal.days y 3 1 = E y ∧ Cal.days y 4 1 = E y + 31 ∧ Cal.days y 10 1 = E y + 214 ∧ Cal.days y 11 1 = E y + 245 ∧ Cal.days (y + 1) 1 1 = E y + 306 ∧ E y - 60 ≤ Cal.days y 1 1 ∧ Cal.days y 1 1 ≤ E y - 59 := by
  rw [days_jan, days_jan, show y + 1 - 1 = y by omega]
  have hE := E_step (y - 1)
  rw [show y - 1 + 1 = y by omega] at hE
  simp only [days_E]
  simp [mdays]
  omega

/-- near the turn of the year nothing turns -/
theorem near {z : GZone} (hz : ZOk z) (hs : z.summer ≠ 0) {m : Int} (y : Int) (h1 : J z y - 1728000 ≤ m) (h2 : m < J z y + 1728000) : ahd z m = if z.start.month = 3 then z.offset * 60 else z.offset * 60 + z.summer * 60 := by
  obtain ⟨o0, o1, hss⟩ := hz
  rcases hss with h | ⟨t1, t2, hsu, hmin, hmo⟩
  · exact absurd h hs
  have key : (z.start.month = 3 ∧ ¬ isIn z m) ∨ (z.start.month ≠ 3 ∧ isIn z m) := by
    unfold isIn
    by_cases hy : J z y ≤ m
    · have h366 := days_year y
      have hyo : yof z m = y := yof_iff.2 ⟨hy, by unfold J at *; omega⟩
      rw [hyo]
      obtain ⟨e3, e4, e10, e11, en, ej0, ej1⟩ := month_E y
      have b1 := atDay_bound t1 y
      have b2 := atDay_bound t2 y
      have i3 := t2.i0; have i4 := t2.i1
      unfold bgn fin
      unfold J at *
      rcases hmo with ⟨m1, m2, m3⟩ | ⟨m1, m2⟩
      · rw [m1, e3] at b1
        refine .inl ⟨m1, ?_⟩
        have hst : z.stop.month = 10 ∨ z.stop.month = 11 := by omega
        rcases hst with hst | hst
        · rw [hst, e10] at b2
          rw [if_neg (by omega)]; omega
        · rw [hst, e11] at b2
          rw [if_neg (by omega)]; omega
      · rw [m1, e10] at b1
        rw [m2, e4] at b2
        refine .inr ⟨by omega, ?_⟩
        rw [if_pos (by omega)]; omega
    · have h366 := days_year (y - 1)
      rw [show y - 1 + 1 = y by omega] at h366
      have hyo : yof z m = y - 1 := yof_iff.2 ⟨by unfold J at *; omega, by rw [show y - 1 + 1 = y by omega]; omega⟩
      rw [hyo]
      obtain ⟨e3, e4, e10, e11, en, ej0, ej1⟩ := month_E (y - 1)
      rw [show y - 1 + 1 = y by omega] at en
      have b1 := atDay_bound t1 (y - 1)
      have b2 := atDay_bound t2 (y - 1)
      have i3 := t2.i0; have i4 := t2.i1
      unfold bgn fin
      unfold J at *
      rcases hmo with ⟨m1, m2, m3⟩ | ⟨m1, m2⟩
      · rw [m1, e3] at b1
        refine .inl ⟨m1, ?_⟩
        have hst : z.stop.month = 10 ∨ z.stop.month = 11 := by omega
        rcases hst with hst | hst
        · rw [hst, e10] at b2
          rw [if_neg (by omega)]; omega
        · rw [hst, e11] at b2
          rw [if_neg (by omega)]; omega
      · rw [m1, e10] at b1
        rw [m2, e4] at b2
        refine .inr ⟨by omega, ?_⟩
        rw [if_pos (by omega)]; omega
  unfold ahd
  rw [if_neg hs]
  rcases key with ⟨k1, k2⟩ | ⟨k1, k2⟩
  · rw [if_neg k2, if_pos k1]
  · rw [if_pos k2, if_neg k1]

theorem days_one : Cal.days 1 1 1 = -719162 := by decide +kernel

/-- at the first moment no clock turns back -/
theorem first {z : GZone} (hz : ZOk z) {m : Int} (hs : z.summer ≠ 0) (h : ahd z m = z.offset * 60) (hx : ahd z (m - z.summer * 60) = z.offset * 60 + z.summer * 60) (hm : (-62135596800) ≤ m) : (-62135596800) ≤ m - z.summer * 60 := by
  apply Classical.byContradiction
  intro hn
  have hsu : z.summer = 30 ∨ z.summer = 60 := by rcases hz.s with h | ⟨_, _, h, _⟩ <;> omega
  have o0 := hz.o0; have o1 := hz.o1
  have n1 := near hz hs (m := m) 1 (by unfold J; rw [days_one]; omega) (by unfold J; rw [days_one]; omega)
  have n2 := near hz hs (m := m - z.summer * 60) 1 (by unfold J; rw [days_one]; omega) (by unfold J; rw [days_one]; omega)
  rw [n1] at h; rw [n2] at hx
  split at h <;> omega

end Go.Proofs.YtpmoopnkoknbeaaGreatDoor.Tm
namespace Go.Proofs.YtpmoopnkoknbeaaGreatDoor.Tm
open Go Go.SX Go.SX.Cal
set_option linter.unusedVariables false
set_option linter.unusedSimpArgs false

theorem rfloor_eq {a b : Int} (hb : 0 < b) (hb2 : b ≤ 1000000) (h1 : -1000000000000000 ≤ a) (h2 : a ≤ 1000000000000000) : ref1_floor a b = some (a / b) := by
  have hf := floor_eq hb hb2 h1 h2
  unfold value_floor value_floor_j1 at hf
  unfold ref1_floor ref1_floor_j1 ref1_floor_j2
  rw [grd_pos (by omega), grd_pos (by omega)] at hf ⊢
  have hsgn : decide (b < 0) = false := by simp; omega
  rw [hsgn]
  by_cases h0 : a.tmod b = 0
  · rw [h0] at hf ⊢
    rw [show decide ((0 : Int) < 0) = false from rfl, ift_false] at hf
    rw [show ((0 : Int) != 0) = false from rfl, ift_false, ift_false]
    have := congrArg (Option.map Prod.fst) hf
    simpa using this
  · have hne : (a.tmod b != 0) = true := by simp [h0]
    rw [hne, ift_true]
    by_cases ha : a < 0
    · have hneg : a.tmod b < 0 := by
        have r1 := Int.emod_lt_of_pos a hb
        have r0 := Int.emod_nonneg a (show b ≠ 0 by omega)
        have e := Int.tmod_eq_emod (a := a) (b := b)
        by_cases hd : b ∣ a
        · exfalso
          exact h0 (Int.tmod_eq_zero_of_dvd hd)
        · rw [if_neg (by omega)] at e
          have : (b.natAbs : Int) = b := by omega
          omega
      rw [show decide (a.tmod b < 0) = true by simpa using hneg, ift_true] at hf
      rw [show decide (a < 0) = true by simpa using ha]
      have := congrArg (Option.map Prod.fst) hf
      simpa [ift_ite] using this
    · have hpos : ¬ a.tmod b < 0 := by
        have := Int.tmod_nonneg (a := a) b (by omega)
        omega
      rw [show decide (a.tmod b < 0) = false by simpa using hpos, ift_false] at hf
      rw [show decide (a < 0) = false by simpa using ha]
      have := congrArg (Option.map Prod.fst) hf
      simpa [ift_ite] using this

theorem rdim_eq {y m : Int} : ref1_MonthDays y m = some (dim y m) := daysIn_eq

theorem rwithin_eq (a b c : Int) : ref1_within a b c = some (decide (b ≤ a ∧ a ≤ c)) := within_eq a b c

theorem jan_zero : Cal.days 0 1 1 = -719528 := by decide +kernel

theorem yearStart_eq {y : Int} (h1 : 0 ≤ y) (h2 : y ≤ 20000) : ref1_yearStart y = some (Cal.days y 1 1) := by
  unfold ref1_yearStart ref1_yearStart_j1
  by_cases hy : 0 < y
  · rw [show decide (0 < y) = true by simpa using hy, ift_true]
    simp only [bnd_eq]
    simp (disch := omega) only [w64, Int.tdiv_eq_ediv_of_nonneg]
    congr 1
    rw [days_jan]
    unfold E S
    omega
  · have : y = 0 := by omega
    subst this
    rw [jan_zero]; rfl

theorem month_step (y k : Int) (h1 : 1 ≤ k) (h2 : k ≤ 11) : Cal.days y (k + 1) 1 = Cal.days y k 1 + dim y k := by
  have hE := E_step (y - 1)
  rw [show y - 1 + 1 = y by omega] at hE
  rw [days_E, days_E]
  unfold dim
  have hc : k = 1 ∨ k = 2 ∨ k = 3 ∨ k = 4 ∨ k = 5 ∨ k = 6 ∨ k = 7 ∨ k = 8 ∨ k = 9 ∨ k = 10 ∨ k = 11 := by omega
  rcases hE with ⟨hl, hE⟩ | ⟨hl, hE⟩ <;> simp only [hl, if_true, if_false] <;> rcases hc with rfl | rfl | rfl | rfl | rfl | rfl | rfl | rfl | rfl | rfl | rfl <;> simp [mdays] <;> omega

theorem days_d (y m d : Int) : Cal.days y m d = Cal.days y m 1 + d - 1 := by
  rw [days_E, days_E]; split <;> omega

theorem rDays_loop {y m d : Int} (h1 : 0 ≤ y) (h2 : y ≤ 20000) (h3 : 1 ≤ m) (h4 : m ≤ 12) (h5 : -100 ≤ d) (h6 : d ≤ 100) : ∀ (k : Nat) (x : Int), 1 ≤ x → x ≤ m → m - x < k →
    ref1_Days_l1 y m d k (Cal.days y x 1) x = some (Cal.days y m d) := by
  intro k
  induction k with
  | zero => intro x a b c; omega
  | succ k ih =>
    intro x a b c
    rw [ref1_Days_l1]
    have hb := days_bound (y := y) (m := x) (d := 1) (by omega) (by omega) a (by omega) (by decide) (by decide)
    have hd := dim_bound y x
    by_cases hx : x < m
    · rw [show decide (x < m) = true by simpa using hx, ift_true, rdim_eq]
      simp only [bnd_eq]
      rw [w64 (by omega) (by omega), w64 (by omega) (by omega), ← month_step y x a (by omega), ih (x + 1) (by omega) (by omega) (by omega)]
    · have : x = m := by omega
      subst this
      rw [show decide (x < x) = false by simp, ift_false]
      unfold ref1_Days_j1
      simp (disch := omega) only [w64]
      rw [days_d y x d]

theorem rDays_eq {y m d : Int} (h1 : 0 ≤ y) (h2 : y ≤ 20000) (h3 : 1 ≤ m) (h4 : m ≤ 12) (h5 : -100 ≤ d) (h6 : d ≤ 100) : ref1_Days y m d = some (Cal.days y m d) := by
  unfold ref1_Days
  rw [yearStart_eq h1 h2]
  simp only [bnd_eq]
  exact rDays_loop h1 h2 h3 h4 h5 h6 BIG 1 (by decide) h3 (by rw [big_val]; omega)

theorem civil_months {s Y M D : Int} (hs1 : -1000000000000 ≤ s) (hs2 : s ≤ 1000000000000) (hY : 0 ≤ Y) (hY2 : Y ≤ 20000) (hM1 : 1 ≤ M) (hM2 : M ≤ 12) (hD1 : 1 ≤ D) (hD2 : D ≤ dim Y M) (hn : Cal.days Y M D = s / 86400) :
    ∀ (k : Nat) (b : Int), 1 ≤ b → b ≤ M → M - b < k → ref1_civil_l2 s (s / 86400) Y k b (s / 86400 - Cal.days Y b 1) = some ⟨Y, M, D, s % 86400 / 3600, s % 86400 % 3600 / 60, s % 86400 % 60⟩ := by
  intro k
  induction k with
  | zero => intro b h1 h2 h3; omega
  | succ k ih =>
    intro b h1 h2 h3
    rw [ref1_civil_l2]
    have hd := dim_bound Y b
    have hdM := dim_bound Y M
    have hbd := days_bound (y := Y) (m := b) (d := 1) (by omega) (by omega) h1 (by omega) (by decide) (by decide)
    rw [rdim_eq]
    simp only [bnd_eq]
    by_cases hb : b < M
    · have hle : dim Y b ≤ s / 86400 - Cal.days Y b 1 := by
        have e1 := month_step Y b h1 (by omega)
        -- months from b + 1 on come later
        have mono : ∀ (j : Nat), b + 1 + j ≤ M → Cal.days Y (b + 1) 1 ≤ Cal.days Y (b + 1 + j) 1 := by
          intro j
          induction j with
          | zero => intro _; simp
          | succ j ihj =>
            intro hj
            have := ihj (by omega)
            have e2 := month_step Y (b + 1 + j) (by omega) (by omega)
            have e3 := dim_bound Y (b + 1 + j)
            rw [show b + 1 + ((j + 1 : Nat) : Int) = b + 1 + j + 1 by omega, e2]
            omega
        have := mono (M - (b + 1)).toNat (by omega)
        rw [show b + 1 + ((M - (b + 1)).toNat : Int) = M by omega] at this
        have e4 := days_d Y M D
        omega
      rw [show decide (dim Y b ≤ s / 86400 - Cal.days Y b 1) = true by simpa using hle, ift_true]
      rw [w64 (by omega) (by omega), w64 (by omega) (by omega), show s / 86400 - Cal.days Y b 1 - dim Y b = s / 86400 - Cal.days Y (b + 1) 1 by rw [month_step Y b h1 (by omega)]; omega]
      exact ih (b + 1) (by omega) (by omega) (by omega)
    · have : b = M := by omega
      subst this
      have e4 := days_d Y b D
      rw [show decide (dim Y b ≤ s / 86400 - Cal.days Y b 1) = false by simp; omega, ift_false]
      unfold ref1_civil_j2
      have ht : 0 ≤ s - 86400 * (s / 86400) ∧ s - 86400 * (s / 86400) < 86400 := by omega
      simp (disch := omega) only [w64, Int.tdiv_eq_ediv_of_nonneg, Int.tmod_eq_emod_of_nonneg]
      simp only [bnd_eq]
      have e5 : s - 86400 * (s / 86400) = s % 86400 := by omega
      rw [e5, show s / 86400 - Cal.days Y b 1 + 1 = D by omega]
      have e6 : s % 86400 / 60 % 60 = s % 86400 % 3600 / 60 := by omega
      simp (disch := omega) only [w64, Int.tmod_eq_emod_of_nonneg]
      rw [e6]

theorem civil_years {s Y : Int} (hs1 : -1000000000000 ≤ s) (hs2 : s ≤ 1000000000000) (hYd : (Cal.date (s / 86400)).1 = Y) : ∀ (k : Nat) (lo hi : Int), 0 ≤ lo → lo ≤ Y → Y < hi → hi ≤ 10001 → hi - lo ≤ k →
    ref1_civil_l1 s (s / 86400) k lo hi = some (civ s) := by
  intro k
  induction k with
  | zero => intro lo hi a b c d e; omega
  | succ k ih =>
    intro lo hi a b c d e
    rw [ref1_civil_l1]
    rw [w64 (x := hi - lo) (by omega) (by omega), w64 (x := lo + hi) (by omega) (by omega)]
    by_cases h1 : 1 < hi - lo
    · rw [show decide (1 < hi - lo) = true by simpa using h1, ift_true]
      simp (disch := omega) only [w64, Int.tdiv_eq_ediv_of_nonneg]
      rw [yearStart_eq (by omega) (by omega)]
      simp only [bnd_eq]
      obtain ⟨y1, y2⟩ := year_iff.1 hYd
      by_cases hm : (lo + hi) / 2 ≤ Y
      · have := days_mono hm
        rw [show decide (Cal.days ((lo + hi) / 2) 1 1 ≤ s / 86400) = true by simp; omega, ift_true]
        exact ih _ _ (by omega) hm c d (by omega)
      · have := days_mono (y := Y + 1) (z := (lo + hi) / 2) (by omega)
        rw [show decide (Cal.days ((lo + hi) / 2) 1 1 ≤ s / 86400) = false by simp; omega, ift_false]
        exact ih _ _ a b (by omega) (by omega) (by omega)
    · rw [show decide (1 < hi - lo) = false by simpa using h1, ift_false]
      have : lo = Y := by omega
      subst this
      unfold ref1_civil_j1
      rw [yearStart_eq (by omega) (by omega)]
      simp only [bnd_eq]
      have hb := days_bound (y := lo) (m := 1) (d := 1) (by omega) (by omega) (by decide) (by decide) (by decide) (by decide)
      rw [w64 (by omega) (by omega)]
      obtain ⟨e1, m0, m1, d0, d1⟩ := date_ok (s / 86400)
      rw [hYd] at e1 d1
      have := civil_months hs1 hs2 (by omega) (by omega) m0 m1 d0 d1 e1 BIG 1 (by decide) m0 (by rw [big_val]; omega)
      rw [this]
      unfold civ
      rw [hYd]

theorem rcivil_eq {s : Int} (hs1 : -1000000000000 ≤ s) (hs2 : s ≤ 1000000000000) (h0 : 0 ≤ (Cal.date (s / 86400)).1) (h1 : (Cal.date (s / 86400)).1 ≤ 10000) : ref1_civil s = some (civ s) := by
  unfold ref1_civil
  rw [rfloor_eq (by decide) (by decide) (by omega) (by omega)]
  simp only [bnd_eq]
  exact civil_years hs1 hs2 rfl BIG 0 10001 (by decide) h0 (by omega) (by decide) (by rw [big_val]; decide)

/-- the years of moments -/
theorem years_of {s : Int} (h1 : -62160000000 ≤ s) (h2 : s ≤ 253402400799) : 0 ≤ (Cal.date (s / 86400)).1 ∧ (Cal.date (s / 86400)).1 ≤ 10000 := by
  obtain ⟨a1, a2⟩ := (year_iff (n := s / 86400) (y := (Cal.date (s / 86400)).1)).1 rfl
  have e0 := jan_zero
  have e1 : Cal.days 10001 1 1 = 2933263 := by decide +kernel
  constructor
  · apply Classical.byContradiction
    intro hn
    have := days_mono (y := (Cal.date (s / 86400)).1 + 1) (z := 0) (by omega)
    omega
  · apply Classical.byContradiction
    intro hn
    have := days_mono (y := 10001) (z := (Cal.date (s / 86400)).1) (by omega)
    omega

/-! ### turns -/

end Go.Proofs.YtpmoopnkoknbeaaGreatDoor.Tm
namespace Go.Proofs.YtpmoopnkoknbeaaGreatDoor.Tm
open Go Go.SX Go.SX.Cal
set_option linter.unusedVariables false
set_option linter.unusedSimpArgs false

theorem rcheck_eq (c : GCivil) : ref1_isCivil c = some (decide (chk c)) := by
  unfold ref1_isCivil ref1_isCivil_j1
  simp only [rwithin_eq, rdim_eq, bnd_eq]
  by_cases h1 : 1 ≤ c.year ∧ c.year ≤ 9999
  · by_cases h2 : 1 ≤ c.month ∧ c.month ≤ 12
    · by_cases h3 : 1 ≤ c.day ∧ c.day ≤ dim c.year c.month
      · by_cases h4 : 0 ≤ c.hour ∧ c.hour ≤ 23
        · by_cases h5 : 0 ≤ c.minute ∧ c.minute ≤ 59
          · by_cases h6 : 0 ≤ c.second ∧ c.second ≤ 59
            · have : chk c := ⟨h1.1, h1.2, h2.1, h2.2, h3.1, h3.2, h4.1, h4.2, h5.1, h5.2, h6.1, h6.2⟩
              simp [h1, h2, h3, h4, h5, h6, this, ift_ite]
            · have : ¬ chk c := fun h => h6 (by unfold chk at h; omega)
              simp [h1, h2, h3, h4, h5, h6, this, ift_ite]
          · have : ¬ chk c := fun h => h5 (by unfold chk at h; omega)
            simp [h1, h2, h3, h4, h5, this, ift_ite]
        · have : ¬ chk c := fun h => h4 (by unfold chk at h; omega)
          simp [h1, h2, h3, h4, this, ift_ite]
      · have : ¬ chk c := fun h => h3 (by unfold chk at h; omega)
        simp [h1, h2, h3, this, ift_ite]
    · have : ¬ chk c := fun h => h2 (by unfold chk at h; omega)
      simp [h1, h2, this, ift_ite]
  · have : ¬ chk c := fun h => h1 (by unfold chk at h; omega)
    simp [h1, this, ift_ite]

theorem rseconds_eq {c : GCivil} (h : chk c) : ref1_seconds c = some (sec c) := by
  have hF := chk_fine h
  obtain ⟨y0, y1, m0, m1, d0, d1, h0, h1, i0, i1, s0, s1⟩ := id hF
  have hy : 1 ≤ c.year := h.1
  have := days_bound y0 y1 m0 m1 d0 d1
  unfold ref1_seconds
  rw [rDays_eq (by omega) (by omega) m0 m1 d0 d1]
  simp only [bnd_eq]
  unfold sec
  simp (disch := omega) only [w64]
  congr 1
  omega

end Go.Proofs.YtpmoopnkoknbeaaGreatDoor.Tm
namespace Go.Proofs.YtpmoopnkoknbeaaGreatDoor
open Go Go.PX Go.SX Go.SX.Cal
set_option linter.unusedVariables false
set_option linter.unusedSimpArgs false

def dcm (n sc : Int) : List UInt8 := sg n ((pad (sc.toNat + 1) n.natAbs).take ((pad (sc.toNat + 1) n.natAbs).length - sc.toNat) ++ 46 :: (pad (sc.toNat + 1) n.natAbs).drop ((pad (sc.toNat + 1) n.natAbs).length - sc.toNat))

def two (n : Int) : List UInt8 := pad 2 n.natAbs

def moc (c : GCivil) : List UInt8 := pad 4 c.year.natAbs ++ 45 :: (two c.month ++ 45 :: (two c.day ++ 84 :: (two c.hour ++ 58 :: (two c.minute ++ 58 :: (two c.second ++ [90])))))

mutual
def T : GValue → List UInt8
  | ⟨k, n, sc, s, l⟩ =>
    if k = 0 then [110, 117, 108, 108]
    else if k = 1 then (if n = 1 then [116, 114, 117, 101] else [102, 97, 108, 115, 101])
    else if k = 2 then sg n (Lib.decDigits n.natAbs)
    else if k = 3 then dcm n sc
    else if k = 4 then 39 :: (esc s.data.toList ++ [39])
    else if k = 5 then moc (Tm.civ n)
    else if k = 6 then 91 :: (TJ l ++ [93])
    else 40 :: (TJ l ++ [41])
def TJ : List GValue → List UInt8
  | [] => []
  | v :: l => T v ++ TR l
def TR : List GValue → List UInt8
  | [] => []
  | v :: l => 44 :: 32 :: (T v ++ TR l)
end

theorem TR_app : ∀ l r : List GValue, TR (l ++ r) = TR l ++ TR r
  | [], r => by simp [TR]
  | v :: l, r => by simp [TR, TR_app l r]

theorem TJ_snoc (l : List GValue) (v : GValue) (h : l ≠ []) : TJ (l ++ [v]) = TJ l ++ 44 :: 32 :: T v := by
  match l, h with
  | x :: l, _ => simp [TJ, TR_app, TR]

theorem joinTail_T : ∀ l : List GValue, Lib.joinTail [44, 32] (l.map T) = TR l
  | [] => rfl
  | v :: l => by
    have := joinTail_T l
    unfold Lib.joinTail at this ⊢
    rw [List.map_cons, List.map_cons, List.flatten_cons, this]
    rfl

theorem join_T : ∀ l : List GValue, Lib.join (l.map T) [44, 32] = TJ l
  | [] => rfl
  | v :: l => by rw [List.map_cons, Lib.join_cons, joinTail_T]; simp [TJ]

theorem replicate_rep : ∀ k : Nat, Lib.repeatL [48] k = List.replicate k 48
  | 0 => rfl
  | k + 1 => by simp [Lib.repeatL, replicate_rep k, List.replicate_succ]

theorem dec_len (u : Nat) (h : u < 1000000000000000000) : (Lib.decDigits u).length ≤ 18 := decDigits_short u 18 (by decide) (by omega)
theorem itoa_eq {n : Int} (h1 : -999999999999999999 ≤ n) (h2 : n ≤ 999999999999999999) : strconv_Itoa n = some (bs (sg n (Lib.decDigits n.natAbs))) := by
  unfold strconv_Itoa
  rw [grdp (by omega), itoa_sg]

theorem itoa_pos {n : Int} (h1 : 0 ≤ n) (h2 : n ≤ 999999999999999999) : strconv_Itoa n = some (bs (Lib.decDigits n.natAbs)) := by
  rw [itoa_eq (by omega) h2]
  unfold sg
  rw [if_neg (by omega)]

theorem padded_eq {n w : Int} (h1 : 0 ≤ n) (h2 : n ≤ 999999999999999999) (h3 : 0 ≤ w) (h4 : w ≤ 100) : value_padded n w = some (bs (pad w.toNat n.natAbs)) := by
  have hl := dec_len n.natAbs (by omega)
  unfold value_padded
  rw [itoa_pos h1 h2]
  simp only [bnd_eq, bs_size]
  rw [w64 (by omega) (by omega)]
  have e : (if (0 : Int) > w - ((Lib.decDigits n.natAbs).length : Int) then (0 : Int) else w - ((Lib.decDigits n.natAbs).length : Int)) = ((w.toNat - (Lib.decDigits n.natAbs).length : Nat) : Int) := by
    split <;> omega
  rw [e]
  unfold strings_Repeat
  rw [grdp ⟨by omega, by omega, by decide⟩]
  simp only [bnd_eq, Int.toNat_natCast]
  show grd _ (some (bs (Lib.repeatL [48] _) ++ _)) = _
  rw [replicate_rep, bs_app, grdp]
  · rfl
  · rw [bs_size, List.length_replicate]; omega

theorem rdigits_loop (u : List UInt8) (w : Int) (h3 : 0 ≤ w) (h4 : w ≤ 100) : ∀ (m f j : Nat), j + m = w.toNat - u.length → m < f →
    ref1_digits_l1 w f (bs (List.replicate j 48 ++ u)) = some (bs (List.replicate (w.toNat - u.length) 48 ++ u)) := by
  intro m
  induction m with
  | zero =>
    intro f j hj hf
    obtain ⟨f, rfl⟩ : ∃ g, f = g + 1 := ⟨f - 1, by omega⟩
    rw [ref1_digits_l1, bs_size, ifte, if_neg (by simp; omega)]
    unfold ref1_digits_j1
    rw [show j = w.toNat - u.length by omega]
  | succ m ih =>
    intro f j hj hf
    obtain ⟨f, rfl⟩ : ∃ g, f = g + 1 := ⟨f - 1, by omega⟩
    rw [ref1_digits_l1, bs_size, ifte, if_pos (by simp; omega), grdp (by show (bs [48]).size + _ ≤ _; rw [bs_size]; simp; omega)]
    have : (ByteArray.mk #[48]) ++ bs (List.replicate j 48 ++ u) = bs (List.replicate (j + 1) 48 ++ u) := by
      show bs [48] ++ _ = _
      rw [bs_app]; rfl
    rw [this]
    exact ih f (j + 1) (by omega) (by omega)

theorem rdigits_eq {n w : Int} (h1 : 0 ≤ n) (h2 : n ≤ 999999999999999999) (h3 : 0 ≤ w) (h4 : w ≤ 100) : ref1_digits n w = some (bs (pad w.toNat n.natAbs)) := by
  unfold ref1_digits
  rw [itoa_pos h1 h2]
  simp only [bnd_eq]
  have h := rdigits_loop (Lib.decDigits n.natAbs) w h3 h4 (w.toNat - (Lib.decDigits n.natAbs).length) BIG 0 (by omega) (by rw [big_val]; omega)
  rw [List.replicate_zero, List.nil_append] at h
  rw [h]
  rfl

theorem pad_le {n : Int} (h : n.natAbs ≤ 999999999999999999) (k : Nat) (hk : k ≤ 18) : (pad k n.natAbs).length ≤ 18 := pad_len_le k 18 _ (by decide) hk (by omega)

/-- what both make of a number and its digits -/
def cutF (r1 x2 : ByteArray) (p2 : Int) : Option ByteArray :=
    grd (0 ≤ (0 : Int) ∧ (0 : Int) ≤ (IntKind.i64.wrap ((r1.size : Int) - p2)) ∧ (IntKind.i64.wrap ((r1.size : Int) - p2)) ≤ (r1.size : Int)) <|
    bnd (some (r1.extract (0 : Int).toNat (IntKind.i64.wrap ((r1.size : Int) - p2)).toNat)) fun y1 =>
    grd (x2.size + y1.size ≤ 4611686018427387904) <|
    grd ((x2 ++ y1).size + (ByteArray.mk #[46]).size ≤ 4611686018427387904) <|
    grd (0 ≤ (IntKind.i64.wrap ((r1.size : Int) - p2)) ∧ (IntKind.i64.wrap ((r1.size : Int) - p2)) ≤ (r1.size : Int) ∧ (r1.size : Int) ≤ (r1.size : Int)) <|
    bnd (some (r1.extract (IntKind.i64.wrap ((r1.size : Int) - p2)).toNat (r1.size : Int).toNat)) fun y2 =>
    grd (((x2 ++ y1) ++ (ByteArray.mk #[46])).size + y2.size ≤ 4611686018427387904) <|
    some (((x2 ++ y1) ++ (ByteArray.mk #[46])) ++ y2)

theorem decimal_j1 (p2 x1 : Int) (x2 : ByteArray) : value_decimal_j1 p2 x1 x2 = bnd (value_padded x1 (IntKind.i64.wrap (p2 + (1 : Int)))) fun r1 => cutF r1 x2 p2 := rfl
theorem text_j1 (v : GValue) (x1 : Int) (x2 : ByteArray) : ref1_text_j1 v x1 x2 = bnd (ref1_digits x1 (IntKind.i64.wrap (v.scale + (1 : Int)))) fun r1 => cutF r1 x2 v.scale := rfl

theorem cut_eq (p x : List UInt8) (sc : Int) (h1 : 0 ≤ sc) (h2 : sc.toNat ≤ p.length) (h3 : p.length ≤ 100) (h4 : x.length ≤ 1) :
    cutF (bs p) (bs x) sc = some (bs (x ++ (p.take (p.length - sc.toNat) ++ 46 :: p.drop (p.length - sc.toNat)))) := by
  unfold cutF
  simp only [bs_size]
  rw [w64 (by omega) (by omega), grdp (by omega)]
  simp only [bnd_eq, bs_ext, Int.toNat_natCast, List.take_length]
  have e : ((p.length : Int) - sc).toNat = p.length - sc.toNat := by omega
  rw [e]
  show grd ((bs x).size + (bs _).size ≤ _) (grd ((bs x ++ bs _).size + (bs [46]).size ≤ _) (grd _ (grd (((bs x ++ bs _) ++ bs [46]).size + (bs _).size ≤ _) (some (((bs x ++ bs _) ++ bs [46]) ++ bs _))))) = _
  simp only [bs_app, bs_size]
  have hl : ((p.take (p.length - sc.toNat)).drop (Int.toNat 0)).length ≤ 100 := by simp; omega
  rw [grdp (by omega), grdp (by simp at hl ⊢; omega), grdp (by omega), grdp (by simp at hl ⊢; omega)]
  simp

theorem decimal_eq {n sc : Int} (h1 : -999999999999999999 ≤ n) (h2 : n ≤ 999999999999999999) (h3 : 0 ≤ sc) (h4 : sc ≤ 12) : value_decimal n sc = some (bs (dcm n sc)) := by
  have hp := pad_le (n := n) (by omega) (sc.toNat + 1) (by omega)
  have hg := pad_len_ge (sc.toNat + 1) n.natAbs
  unfold value_decimal dcm
  rw [ifte]
  by_cases hn : n < 0
  · rw [if_pos (by simpa using hn), decimal_j1, w64 (x := 0 - n) (by omega) (by omega), w64 (x := sc + 1) (by omega) (by omega), padded_eq (by omega) (by omega) (by omega) (by omega)]
    rw [show (0 - n).natAbs = n.natAbs by omega, show (sc + 1).toNat = sc.toNat + 1 by omega]
    rw [bnd_eq, show (ByteArray.mk #[45]) = bs [45] from rfl, cut_eq _ [45] sc h3 (by omega) (by omega) (by simp)]
    unfold sg; rw [if_pos hn]; rfl
  · rw [if_neg (by simpa using hn), decimal_j1, w64 (x := sc + 1) (by omega) (by omega), padded_eq (by omega) (by omega) (by omega) (by omega)]
    rw [show (sc + 1).toNat = sc.toNat + 1 by omega]
    rw [bnd_eq, show (ByteArray.mk #[]) = bs [] from rfl, cut_eq _ [] sc h3 (by omega) (by omega) (by simp)]
    unfold sg; rw [if_neg hn]; rfl

theorem rdecimal_eq {v : GValue} (hk : v.kind = 3) (h1 : -999999999999999999 ≤ v.n) (h2 : v.n ≤ 999999999999999999) (h3 : 0 ≤ v.scale) (h4 : v.scale ≤ 12) (k0 : Nat) : ref1_text (k0 + 1) v = some (bs (dcm v.n v.scale)) := by
  have hp := pad_le (n := v.n) (by omega) (v.scale.toNat + 1) (by omega)
  have hg := pad_len_ge (v.scale.toNat + 1) v.n.natAbs
  rw [ref1_text]
  simp only [hk, ifte]
  unfold dcm
  rw [if_neg (by decide), if_neg (by decide), if_pos (by decide)]
  by_cases hn : v.n < 0
  · rw [if_pos (by simpa using hn), text_j1, w64 (x := 0 - v.n) (by omega) (by omega), w64 (x := v.scale + 1) (by omega) (by omega), rdigits_eq (by omega) (by omega) (by omega) (by omega)]
    rw [show (0 - v.n).natAbs = v.n.natAbs by omega, show (v.scale + 1).toNat = v.scale.toNat + 1 by omega]
    rw [bnd_eq, show (ByteArray.mk #[45]) = bs [45] from rfl, cut_eq _ [45] v.scale h3 (by omega) (by omega) (by simp)]
    unfold sg; rw [if_pos hn]; rfl
  · rw [if_neg (by simpa using hn), text_j1, w64 (x := v.scale + 1) (by omega) (by omega), rdigits_eq (by omega) (by omega) (by omega) (by omega)]
    rw [show (v.scale + 1).toNat = v.scale.toNat + 1 by omega]
    rw [bnd_eq, show (ByteArray.mk #[]) = bs [] from rfl, cut_eq _ [] v.scale h3 (by omega) (by omega) (by simp)]
    unfold sg; rw [if_neg hn]; rfl

end Go.Proofs.YtpmoopnkoknbeaaGreatDoor
namespace Go.Proofs.YtpmoopnkoknbeaaGreatDoor
open Go Go.PX Go.SX Go.SX.Cal
set_option linter.unusedVariables false
set_option linter.unusedSimpArgs false

theorem civ_chk {n : Int} (h1 : -62135596800 ≤ n) (h2 : n ≤ 253402300799) : Tm.chk (Tm.civ n) ∧ Tm.sec (Tm.civ n) = n := by
  obtain ⟨hf, hs, hd1, hd2⟩ := Tm.civ_ok (s := n) (by omega) (by omega)
  refine ⟨?_, hs⟩
  have hy1 : 1 ≤ (Tm.civ n).year := by
    rcases Int.lt_or_le (Tm.civ n).year 1 with h | h
    · exfalso
      have h3 : (Cal.date (n / 86400)).1 = (Tm.civ n).year := rfl
      have h4 := (year_iff.1 h3).2
      have h5 := days_mono (y := (Tm.civ n).year + 1) (z := 1) (by omega)
      rw [Tm.days_one] at h5
      omega
    · exact h
  have hy2 : (Tm.civ n).year ≤ 9999 := by
    rcases Int.lt_or_le 9999 (Tm.civ n).year with h | h
    · exfalso
      have h3 : (Cal.date (n / 86400)).1 = (Tm.civ n).year := rfl
      have h4 := (year_iff.1 h3).1
      have h5 := days_mono (y := 10000) (z := (Tm.civ n).year) (by omega)
      have h6 : Cal.days 10000 1 1 = 2932897 := by decide +kernel
      rw [h6] at h5
      omega
    · exact h
  obtain ⟨_, _, m1, m2, _, _, a1, a2, a3, a4, a5, a6⟩ := hf
  exact ⟨hy1, hy2, m1, m2, hd1, hd2, a1, a2, a3, a4, a5, a6⟩

theorem value_mo {n : Int} (h1 : -62135596800 ≤ n) (h2 : n ≤ 253402300799) : value_moment n = some (bs (moc (Tm.civ n))) := by
  obtain ⟨a1, a2, b1, b2, c1, c2, d1, d2, e1, e2, f1, f2⟩ := (civ_chk h1 h2).1
  have hdim := Tm.dim_bound (Tm.civ n).year (Tm.civ n).month
  unfold value_moment moc two
  rw [Tm.civil_eq (by omega) (by omega)]
  generalize Tm.civ n = c at *
  have l1 := pad_le (n := c.year) (by omega) 4 (by decide)
  have l2 := pad_le (n := c.month) (by omega) 2 (by decide)
  have l3 := pad_le (n := c.day) (by omega) 2 (by decide)
  have l4 := pad_le (n := c.hour) (by omega) 2 (by decide)
  have l5 := pad_le (n := c.minute) (by omega) 2 (by decide)
  have l6 := pad_le (n := c.second) (by omega) 2 (by decide)
  simp only [bnd_eq]
  rw [padded_eq (n := c.year) (by omega) (by omega) (by omega) (by omega), padded_eq (n := c.month) (by omega) (by omega) (by omega) (by omega), padded_eq (n := c.day) (by omega) (by omega) (by omega) (by omega),
    padded_eq (n := c.hour) (by omega) (by omega) (by omega) (by omega), padded_eq (n := c.minute) (by omega) (by omega) (by omega) (by omega), padded_eq (n := c.second) (by omega) (by omega) (by omega) (by omega)]
  simp only [bnd_eq, show (4 : Int).toNat = 4 from rfl, show (2 : Int).toNat = 2 from rfl]
  generalize pad 4 c.year.natAbs = x1 at *
  generalize pad 2 c.month.natAbs = x2 at *
  generalize pad 2 c.day.natAbs = x3 at *
  generalize pad 2 c.hour.natAbs = x4 at *
  generalize pad 2 c.minute.natAbs = x5 at *
  generalize pad 2 c.second.natAbs = x6 at *
  simp only [bs_app, bs_size, List.length_append, List.length_cons, List.length_nil]
  repeat rw [grdp (by omega)]
  simp only [List.append_assoc, List.cons_append, List.nil_append]

theorem ref_mo {n : Int} (h1 : -62135596800 ≤ n) (h2 : n ≤ 253402300799) (v : GValue) (hk : v.kind = 5) (hn : v.n = n) (k0 : Nat) : ref1_text (k0 + 1) v = some (bs (moc (Tm.civ n))) := by
  obtain ⟨a1, a2, b1, b2, c1, c2, d1, d2, e1, e2, f1, f2⟩ := (civ_chk h1 h2).1
  have hdim := Tm.dim_bound (Tm.civ n).year (Tm.civ n).month
  have hy := Tm.years_of (s := n) (by omega) (by omega)
  rw [ref1_text]
  simp only [hk, hn, ifte]
  rw [if_neg (by decide), if_neg (by decide), if_neg (by decide), if_neg (by decide), if_pos (by decide)]
  rw [Tm.rcivil_eq (by omega) (by omega) hy.1 hy.2]
  unfold moc two
  generalize Tm.civ n = c at *
  have l1 := pad_le (n := c.year) (by omega) 4 (by decide)
  have l2 := pad_le (n := c.month) (by omega) 2 (by decide)
  have l3 := pad_le (n := c.day) (by omega) 2 (by decide)
  have l4 := pad_le (n := c.hour) (by omega) 2 (by decide)
  have l5 := pad_le (n := c.minute) (by omega) 2 (by decide)
  have l6 := pad_le (n := c.second) (by omega) 2 (by decide)
  simp only [bnd_eq]
  rw [rdigits_eq (n := c.year) (by omega) (by omega) (by omega) (by omega), rdigits_eq (n := c.month) (by omega) (by omega) (by omega) (by omega), rdigits_eq (n := c.day) (by omega) (by omega) (by omega) (by omega),
    rdigits_eq (n := c.hour) (by omega) (by omega) (by omega) (by omega), rdigits_eq (n := c.minute) (by omega) (by omega) (by omega) (by omega), rdigits_eq (n := c.second) (by omega) (by omega) (by omega) (by omega)]
  simp only [bnd_eq, show (4 : Int).toNat = 4 from rfl, show (2 : Int).toNat = 2 from rfl]
  generalize pad 4 c.year.natAbs = x1 at *
  generalize pad 2 c.month.natAbs = x2 at *
  generalize pad 2 c.day.natAbs = x3 at *
  generalize pad 2 c.hour.natAbs = x4 at *
  generalize pad 2 c.minute.natAbs = x5 at *
  generalize pad 2 c.second.natAbs = x6 at *
  simp only [bs_app, bs_size, List.length_append, List.length_cons, List.length_nil]
  repeat rw [grdp (by omega)]
  simp only [List.append_assoc, List.cons_append, List.nil_append]

end Go.Proofs.YtpmoopnkoknbeaaGreatDoor
namespace Go.Proofs.YtpmoopnkoknbeaaGreatDoor
open Go Go.PX Go.SX Go.SX.Cal
set_option linter.unusedVariables false
set_option linter.unusedSimpArgs false

/-- what is known of the leaves -/
structure Leafy (v : GValue) : Prop where
  num : v.kind = 2 ∨ v.kind = 3 → -999999999999999999 ≤ v.n ∧ v.n ≤ 999999999999999999
  sc : v.kind = 3 → 0 ≤ v.scale ∧ v.scale ≤ 12
  mom : v.kind = 5 → -62135596800 ≤ v.n ∧ v.n ≤ 253402300799
  txt : v.kind = 4 → v.s.size ≤ 256
  kin : 0 ≤ v.kind ∧ v.kind ≤ 7
  lst : v.kind = 6 → v.items.length ≤ 64
  bool : v.kind = 1 → v.n = 0 ∨ v.n = 1
  zero : v.kind ≠ 4 → v.s.size = 0
  nn : v.kind = 0 ∨ v.kind = 4 ∨ v.kind = 6 ∨ v.kind = 7 → v.n = 0
  rcd : v.kind = 7 → 1 ≤ v.items.length

theorem leafy {v : GValue} (h : plainOk v = true) : Leafy v := by
  unfold plainOk at h
  simp only at h
  split at h
  · simp at h; exact ⟨by omega, by omega, by omega, by omega, by omega, by omega, by omega, fun _ => by rw [h.2.1]; rfl, fun _ => h.1.1, by omega⟩
  · split at h
    · simp at h; exact ⟨by omega, by omega, by omega, by omega, by omega, by omega, by omega, fun _ => by rw [h.2.2.1]; rfl, by omega, by omega⟩
    · split at h
      · simp at h; exact ⟨by omega, by omega, by omega, by omega, by omega, by omega, by omega, fun _ => by rw [h.2.2.1]; rfl, by omega, by omega⟩
      · split at h
        · simp at h; exact ⟨by omega, by omega, by omega, by omega, by omega, by omega, by omega, fun _ => by rw [h.2.2.1]; rfl, by omega, by omega⟩
        · split at h
          · unfold textOk at h; simp at h; exact ⟨by omega, by omega, by omega, by omega, by omega, by omega, by omega, by omega, fun _ => h.1.1, by omega⟩
          · split at h
            · simp at h; exact ⟨by omega, by omega, by omega, by omega, by omega, by omega, by omega, fun _ => by rw [h.2.2.1]; rfl, by omega, by omega⟩
            · split at h
              · simp at h; exact ⟨by omega, by omega, by omega, by omega, by omega, by omega, by omega, fun _ => by rw [h.2.1]; rfl, fun _ => h.1.1, by omega⟩
              · split at h
                · simp at h; exact ⟨by omega, by omega, by omega, by omega, by omega, by omega, by omega, fun _ => by rw [h.2.1]; rfl, fun _ => h.1.1, by omega⟩
                · cases h

theorem sg_len (n : Int) (l : List UInt8) : (sg n l).length ≤ l.length + 1 := by unfold sg; split <;> simp

theorem dcm_len {n sc : Int} (h1 : -999999999999999999 ≤ n) (h2 : n ≤ 999999999999999999) (h3 : 0 ≤ sc) (h4 : sc ≤ 12) : (dcm n sc).length ≤ 20 := by
  have hp := pad_le (n := n) (by omega) (sc.toNat + 1) (by omega)
  unfold dcm
  refine Nat.le_trans (sg_len _ _) ?_
  simp
  omega

theorem moc_len {n : Int} (h1 : -62135596800 ≤ n) (h2 : n ≤ 253402300799) : (moc (Tm.civ n)).length = 20 := by
  obtain ⟨a1, a2, b1, b2, c1, c2, d1, d2, e1, e2, f1, f2⟩ := (civ_chk h1 h2).1
  have hdim := Tm.dim_bound (Tm.civ n).year (Tm.civ n).month
  unfold moc two
  rw [show ∀ a b c d e f : List UInt8, a ++ 45 :: (b ++ 45 :: (c ++ 84 :: (d ++ 58 :: (e ++ 58 :: (f ++ [90]))))) = a ++ ([45] ++ b) ++ ([45] ++ c) ++ ([84] ++ d) ++ ([58] ++ e) ++ ([58] ++ f) ++ [90] from fun _ _ _ _ _ _ => by simp]
  simp only [List.length_append, List.length_singleton]
  rw [pad_len 4 _ (by decide) (by omega), pad_len 2 _ (by decide) (by omega), pad_len 2 _ (by decide) (by omega), pad_len 2 _ (by decide) (by omega), pad_len 2 _ (by decide) (by omega), pad_len 2 _ (by decide) (by omega)]

theorem T_len : ∀ (d : Nat) (v : GValue), Snd d v → (T v).length + 2 ≤ 30 * sizeV v := by
  intro d
  induction d with
  | zero => intro v h; exact h.zero.elim
  | succ d ih =>
    intro v h
    obtain ⟨hp, hi⟩ := h.succ
    have hl := leafy hp
    have hTR : ∀ l : List GValue, (∀ x ∈ l, Snd d x) → (TR l).length ≤ 30 * sizeL l := by
      intro l
      induction l with
      | nil => intro _; simp [TR]
      | cons x l ihl =>
        intro hx
        have h1 := ih x (hx x (List.mem_cons_self ..))
        have h2 := ihl (fun y hy => hx y (List.mem_cons_of_mem _ hy))
        simp only [TR, sizeL, List.length_cons, List.length_append]
        omega
    have hTJ : (TJ v.items).length ≤ 30 * sizeL v.items := by
      have := hTR v.items hi
      cases hv : v.items with
      | nil => simp [TJ]
      | cons x l =>
        rw [hv] at this
        simp only [TR, TJ, List.length_cons, List.length_append] at this ⊢
        omega
    obtain ⟨k, n, sc, s, l⟩ := v
    have hs := sizeV_eq ⟨k, n, sc, s, l⟩
    simp only at hs hTJ hl
    have g1 := hl.num
    have g2 := hl.sc
    have g3 := hl.mom
    simp only at g1 g2 g3
    rw [T]
    split
    · simp; omega
    · split
      · split <;> simp <;> omega
      · split
        · have := sg_len n (Lib.decDigits n.natAbs)
          have := dec_len n.natAbs (by have := g1 (.inl ‹_›); omega)
          omega
        · split
          · have a := g1 (.inr ‹_›)
            have b := g2 ‹_›
            have := dcm_len a.1 a.2 b.1 b.2
            omega
          · split
            · have := esc_len s.data.toList
              have e : s.data.toList.length = s.size := by simp
              simp; omega
            · split
              · have a := g3 ‹_›
                have := moc_len a.1 a.2
                omega
              · split <;> simp <;> omega

end Go.Proofs.YtpmoopnkoknbeaaGreatDoor
namespace Go.Proofs.YtpmoopnkoknbeaaGreatDoor
open Go Go.PX Go.SX Go.SX.Cal
set_option linter.unusedVariables false
set_option linter.unusedSimpArgs false

theorem T_eq (v : GValue) : T v = if v.kind = 0 then [110, 117, 108, 108]
    else if v.kind = 1 then (if v.n = 1 then [116, 114, 117, 101] else [102, 97, 108, 115, 101])
    else if v.kind = 2 then sg v.n (Lib.decDigits v.n.natAbs)
    else if v.kind = 3 then dcm v.n v.scale
    else if v.kind = 4 then 39 :: (esc v.s.data.toList ++ [39])
    else if v.kind = 5 then moc (Tm.civ v.n)
    else if v.kind = 6 then 91 :: (TJ v.items ++ [93])
    else 40 :: (TJ v.items ++ [41]) := by
  obtain ⟨k, n, sc, s, l⟩ := v
  rw [T]

theorem TJ_len {d : Nat} {l : List GValue} (h : ∀ x ∈ l, Snd d x) : (TJ l).length ≤ 30 * sizeL l := by
  induction l with
  | nil => simp [TJ]
  | cons x l ih =>
    have hTR : ∀ l : List GValue, (∀ x ∈ l, Snd d x) → (TR l).length ≤ 30 * sizeL l := by
      intro l
      induction l with
      | nil => intro _; simp [TR]
      | cons x l ihl =>
        intro hx
        have h1 := T_len d x (hx x (List.mem_cons_self ..))
        have h2 := ihl (fun y hy => hx y (List.mem_cons_of_mem _ hy))
        simp only [TR, sizeL, List.length_cons, List.length_append]
        omega
    have h1 := T_len d x (h x (List.mem_cons_self ..))
    have h2 := hTR l (fun y hy => h y (List.mem_cons_of_mem _ hy))
    simp only [TJ, sizeL, List.length_append]
    omega

theorem sizeL_take : ∀ (l : List GValue) (i : Nat), sizeL (l.take i) ≤ sizeL l
  | [], i => by simp
  | v :: l, 0 => by simp [sizeL]
  | v :: l, i + 1 => by
    have := sizeL_take l i
    simp only [List.take_succ_cons, sizeL]
    omega

theorem take_snoc {α : Type} {l : List α} {i : Nat} (h : i < l.length) : l.take (i + 1) = l.take i ++ [l[i]] := List.take_succ_eq_append_getElem h

theorem show_loop (v : GValue) (q : GValue → Option ByteArray) (hq : ∀ x ∈ v.items, q x = some (bs (T x))) (hl : v.items.length ≤ 1000000000) : ∀ (m f i : Nat), i + m = v.items.length → m < f →
    value_show_l1 q v f ((v.items.take i).map fun x => bs (T x)) (i : Int) = value_show_j1 v (v.items.map fun x => bs (T x)) := by
  intro m
  induction m with
  | zero =>
    intro f i hi hf
    obtain ⟨f, rfl⟩ : ∃ g, f = g + 1 := ⟨f - 1, by omega⟩
    rw [value_show_l1, ifte, if_neg (by simp; omega), show i = v.items.length by omega, List.take_length]
  | succ m ih =>
    intro f i hi hf
    obtain ⟨f, rfl⟩ : ∃ g, f = g + 1 := ⟨f - 1, by omega⟩
    have hlt : i < v.items.length := by omega
    rw [value_show_l1, ifte, if_pos (by simp; omega), at_nat hlt, bnd_eq, hq _ (List.getElem_mem hlt), bnd_eq, grdp (by simp; omega), w64 (by omega) (by omega)]
    have e : ((v.items.take i).map fun x => bs (T x)) ++ [bs (T v.items[i])] = (v.items.take (i + 1)).map fun x => bs (T x) := by
      rw [take_snoc hlt, List.map_append]; rfl
    rw [e]
    exact ih f (i + 1) (by omega) (by omega)

theorem show_j1 {d : Nat} (v : GValue) (hv : sizeV v ≤ 10000000) (hi : ∀ x ∈ v.items, Snd d x) : value_show_j1 v (v.items.map fun x => bs (T x)) = some (bs (if v.kind = 6 then 91 :: (TJ v.items ++ [93]) else 40 :: (TJ v.items ++ [41]))) := by
  have hs := sizeV_eq v
  have hl := TJ_len hi
  have hn := sizeL_len v.items
  unfold value_show_j1 strings_Join
  have e : (v.items.map fun x => bs (T x)).map (·.data.toList) = v.items.map T := by
    rw [List.map_map]; rfl
  rw [e]
  show bnd (grd (_ ∧ (Lib.join _ [44, 32]).length ≤ _) (some (bs (Lib.join _ [44, 32])))) _ = _
  rw [join_T, grdp (by simp; omega), bnd_eq, ifte]
  by_cases h6 : v.kind = 6
  · rw [if_pos (by simpa using h6), if_pos h6]
    show grd ((bs [91]).size + _ ≤ _) (grd ((bs [91] ++ _).size + (bs [93]).size ≤ _) (some ((bs [91] ++ _) ++ bs [93]))) = _
    simp only [bs_app, bs_size, List.length_append, List.length_singleton]
    rw [grdp (by omega), grdp (by omega)]
    simp
  · rw [if_neg (by simpa using h6), if_neg h6]
    show grd ((bs [40]).size + _ ≤ _) (grd ((bs [40] ++ _).size + (bs [41]).size ≤ _) (some ((bs [40] ++ _) ++ bs [41]))) = _
    simp only [bs_app, bs_size, List.length_append, List.length_singleton]
    rw [grdp (by omega), grdp (by omega)]
    simp

theorem show_eq : ∀ (d k : Nat) (v : GValue), Snd d v → d ≤ k → sizeV v ≤ 10000000 → value_show k v = some (bs (T v)) := by
  intro d
  induction d with
  | zero => intro k v h; exact h.zero.elim
  | succ d ih =>
    intro k v h hk hv
    obtain ⟨k, rfl⟩ : ∃ g, k = g + 1 := ⟨k - 1, by omega⟩
    obtain ⟨hp, hi⟩ := h.succ
    have hl := leafy hp
    have hs := sizeV_eq v
    have hn := sizeL_len v.items
    rw [value_show, T_eq]
    simp only [ifte, beq_iff_eq]
    by_cases h0 : v.kind = 0
    · simp only [h0, if_true]
    rw [if_neg h0, if_neg h0]
    by_cases h1 : v.kind = 1
    · rw [if_pos h1, if_pos h1]
      unfold strconv_FormatBool internal_strconv_FormatBool
      by_cases hn1 : v.n = 1
      · simp [hn1, ift, bnd]
      · have e1 : (v.n == 1) = false := by simpa using hn1
        rw [if_neg hn1, e1]; rfl
    rw [if_neg h1, if_neg h1]
    by_cases h2 : v.kind = 2
    · rw [if_pos h2, if_pos h2, itoa_eq (hl.num (.inl h2)).1 (hl.num (.inl h2)).2]; rfl
    rw [if_neg h2, if_neg h2]
    by_cases h3 : v.kind = 3
    · rw [if_pos h3, if_pos h3, decimal_eq (hl.num (.inr h3)).1 (hl.num (.inr h3)).2 (hl.sc h3).1 (hl.sc h3).2]; rfl
    rw [if_neg h3, if_neg h3]
    by_cases h4 : v.kind = 4
    · rw [if_pos h4, if_pos h4]
      have hz := hl.txt h4
      have hr := replaceAll_esc v.s.data.toList
      have hel := esc_len v.s.data.toList
      have hsl : v.s.data.toList.length = v.s.size := by simp
      unfold strings_ReplaceAll
      rw [grdp ⟨by omega, by decide, by
        show v.s.size + Lib.count v.s.data.toList [39] * 2 ≤ _
        have := hr.2; omega⟩, bnd_eq]
      show grd ((bs [39]).size + (bs (Lib.replaceAll v.s.data.toList [39] [39, 39])).size ≤ _) (grd ((bs [39] ++ bs (Lib.replaceAll v.s.data.toList [39] [39, 39])).size + (bs [39]).size ≤ _) (some ((bs [39] ++ bs (Lib.replaceAll v.s.data.toList [39] [39, 39])) ++ bs [39]))) = _
      rw [hr.1]
      simp only [bs_app, bs_size, List.length_append, List.length_singleton]
      rw [grdp (by omega), grdp (by omega)]
      simp
    rw [if_neg h4, if_neg h4]
    by_cases h5 : v.kind = 5
    · rw [if_pos h5, if_pos h5, value_mo (hl.mom h5).1 (hl.mom h5).2]; rfl
    rw [if_neg h5, if_neg h5]
    have := show_loop v (value_show k) (fun x hx => ih k x (hi x hx) (by omega) (by have := sizeL_mem hx; omega)) (by omega) v.items.length BIG 0 (by omega) (by rw [big_val]; omega)
    simp only [List.take_zero, List.map_nil] at this
    refine Eq.trans ?_ (show_j1 v hv hi)
    rw [← this]
    rfl

theorem getD_at (l : List UInt8) (i : Nat) (h : i < l.length) : l.getD i 0 = l[i] := by simp [List.getD, h]

theorem rtext_loop (v : GValue) (hs : v.s.size ≤ 256) : ∀ (m f i : Nat), i + m = v.s.size → m < f →
    ref1_text_l1 v f (bs (39 :: esc (v.s.data.toList.take i))) (i : Int) = some (bs (39 :: (esc v.s.data.toList ++ [39]))) := by
  have hsl : v.s.data.toList.length = v.s.size := by simp
  intro m
  induction m with
  | zero =>
    intro f i hi hf
    obtain ⟨f, rfl⟩ : ∃ g, f = g + 1 := ⟨f - 1, by omega⟩
    have hel := esc_len v.s.data.toList
    rw [ref1_text_l1, ifte, if_neg (by simp; omega), List.take_of_length_le (by omega)]
    unfold ref1_text_j3
    show grd ((bs _).size + (bs [39]).size ≤ _) (some (bs _ ++ bs [39])) = _
    simp only [bs_app, bs_size, List.length_append, List.length_singleton, List.length_cons, List.length_nil]
    rw [grdp (by omega)]
    simp
  | succ m ih =>
    intro f i hi hf
    obtain ⟨f, rfl⟩ : ∃ g, f = g + 1 := ⟨f - 1, by omega⟩
    have hlt : i < v.s.data.toList.length := by omega
    have hel := esc_len (v.s.data.toList.take i)
    have htl : (v.s.data.toList.take i).length ≤ i := by simp; omega
    have hone : v.s.extract (i : Int).toNat (((i : Int) + 1).toNat) = bs [v.s.data.toList[i]] := by
      have := bs_ext v.s.data.toList i (i + 1)
      rw [bs_eta] at this
      rw [show (i : Int).toNat = i by omega, show ((i : Int) + 1).toNat = i + 1 by omega, this]
      rw [List.take_succ_eq_append_getElem hlt, List.drop_left' (by simp; omega)]
    have hget : v.s.data.toList.getD (i : Int).toNat 0 = v.s.data.toList[i] := by
      rw [show (i : Int).toNat = i by omega, getD_at _ _ hlt]
    rw [ref1_text_l1, ifte, if_pos (by simp; omega), w64 (x := (i : Int) + 1) (by omega) (by omega), grdp (by omega), hone, bs_app, hget]
    have hnext : v.s.data.toList.take (i + 1) = v.s.data.toList.take i ++ [v.s.data.toList[i]] := List.take_succ_eq_append_getElem hlt
    generalize hc : v.s.data.toList[i] = c at *
    simp only [bs_size, List.length_cons, List.length_nil]
    rw [grdp (by omega), bnd_eq, grdp (by omega), ifte]
    unfold ref1_text_j2
    rw [w64 (x := (i : Int) + 1) (by omega) (by omega)]
    have := ih f (i + 1) (by omega) (by omega)
    rw [hnext, esc_app] at this
    by_cases h39 : c = 39
    · subst h39
      rw [if_pos (by decide)]
      show grd ((bs _).size + (bs [39]).size ≤ _) (ref1_text_l1 v f (bs _ ++ bs [39]) _) = _
      rw [bs_app, bs_size, bs_size, grdp (by simp; omega)]
      rw [← this]
      simp [esc]
    · rw [if_neg (by
        simp only [beq_iff_eq]
        intro h
        exact h39 (UInt8.toNat_inj.1 (by show c.toNat = 39; omega)))]
      rw [← this]
      simp [esc, h39]

theorem rtext_items {d : Nat} (v : GValue) (q : GValue → Option ByteArray) (hv : sizeV v ≤ 10000000) (hi : ∀ x ∈ v.items, Snd d x) (hq : ∀ x ∈ v.items, q x = some (bs (T x))) : ∀ (m f i : Nat), i + m = v.items.length → m < f →
    ref1_text_l2 q v f (bs (TJ (v.items.take i))) (i : Int) = some (bs (if v.kind = 6 then 91 :: (TJ v.items ++ [93]) else 40 :: (TJ v.items ++ [41]))) := by
  have hs := sizeV_eq v
  have hn := sizeL_len v.items
  intro m
  induction m with
  | zero =>
    intro f i hii hf
    obtain ⟨f, rfl⟩ : ∃ g, f = g + 1 := ⟨f - 1, by omega⟩
    have hl := TJ_len hi
    rw [ref1_text_l2, ifte, if_neg (by simp; omega), List.take_of_length_le (by omega)]
    unfold ref1_text_j6
    rw [ifte]
    by_cases h6 : v.kind = 6
    · rw [if_pos (by simpa using h6), if_pos h6]
      show grd ((bs [91]).size + _ ≤ _) (grd ((bs [91] ++ _).size + (bs [93]).size ≤ _) (some ((bs [91] ++ _) ++ bs [93]))) = _
      simp only [bs_app, bs_size, List.length_append, List.length_singleton]
      rw [grdp (by omega), grdp (by omega)]
      simp
    · rw [if_neg (by simpa using h6), if_neg h6]
      show grd ((bs [40]).size + _ ≤ _) (grd ((bs [40] ++ _).size + (bs [41]).size ≤ _) (some ((bs [40] ++ _) ++ bs [41]))) = _
      simp only [bs_app, bs_size, List.length_append, List.length_singleton]
      rw [grdp (by omega), grdp (by omega)]
      simp
  | succ m ih =>
    intro f i hii hf
    obtain ⟨f, rfl⟩ : ∃ g, f = g + 1 := ⟨f - 1, by omega⟩
    have hlt : i < v.items.length := by omega
    have hm := List.getElem_mem hlt
    have hTl := T_len d _ (hi _ hm)
    have hsm := sizeL_mem hm
    have hJl : (TJ (v.items.take i)).length ≤ 30 * sizeL v.items := Nat.le_trans (TJ_len (fun x hx => hi x (List.mem_of_mem_take hx))) (by have := sizeL_take v.items i; omega)
    have hnext := ih f (i + 1) (by omega) (by omega)
    rw [take_snoc hlt] at hnext
    rw [ref1_text_l2, ifte, if_pos (by simp; omega), ifte]
    by_cases h0 : i = 0
    · subst h0
      rw [if_neg (by simp)]
      unfold ref1_text_j5
      rw [show at? v.items ((0 : Nat) : Int) = some v.items[0] from at_nat hlt, bnd_eq, hq _ hm, bnd_eq, bs_app, bs_size, bs_size, grdp (by omega), w64 (by omega) (by omega), ← hnext]
      simp [TJ, TR]
    · rw [if_pos (by simp; omega)]
      unfold ref1_text_j5
      rw [at_nat hlt, bnd_eq, hq _ hm, bnd_eq]
      show grd ((bs _).size + (bs [44, 32]).size ≤ _) (grd ((bs _ ++ bs [44, 32]).size + _ ≤ _) (ref1_text_l2 q v f ((bs _ ++ bs [44, 32]) ++ _) _)) = _
      simp only [bs_app, bs_size, List.length_append, List.length_cons, List.length_nil]
      rw [grdp (by omega), grdp (by omega), w64 (by omega) (by omega), ← hnext, TJ_snoc _ _ (fun e => by have := congrArg List.length e; rw [List.length_take, List.length_nil] at this; omega)]
      simp

theorem rtext_eq : ∀ (d k : Nat) (v : GValue), Snd d v → d ≤ k → sizeV v ≤ 10000000 → ref1_text k v = some (bs (T v)) := by
  intro d
  induction d with
  | zero => intro k v h; exact h.zero.elim
  | succ d ih =>
    intro k v h hk hv
    obtain ⟨k, rfl⟩ : ∃ g, k = g + 1 := ⟨k - 1, by omega⟩
    obtain ⟨hp, hi⟩ := h.succ
    have hl := leafy hp
    have hs := sizeV_eq v
    have hn := sizeL_len v.items
    by_cases h3 : v.kind = 3
    · rw [rdecimal_eq h3 (hl.num (.inr h3)).1 (hl.num (.inr h3)).2 (hl.sc h3).1 (hl.sc h3).2, T_eq]
      simp [h3]
    by_cases h5 : v.kind = 5
    · rw [ref_mo (hl.mom h5).1 (hl.mom h5).2 v h5 rfl, T_eq]
      simp [h5]
    rw [ref1_text, T_eq]
    simp only [ifte, beq_iff_eq]
    by_cases h1 : v.kind = 1
    · have h0 : ¬ v.kind = 0 := by omega
      rw [if_pos h1, if_neg h0, if_pos h1]
      by_cases hn1 : v.n = 1
      · rw [if_pos hn1, if_pos hn1]
      · rw [if_neg hn1, if_neg hn1]
    rw [if_neg h1]
    by_cases h2 : v.kind = 2
    · rw [if_pos h2, itoa_eq (hl.num (.inl h2)).1 (hl.num (.inl h2)).2, if_neg (show ¬ v.kind = 0 by omega), if_neg h1, if_pos h2]; rfl
    rw [if_neg h2, if_neg h3]
    by_cases h4 : v.kind = 4
    · rw [if_pos h4, if_neg (show ¬ v.kind = 0 by omega), if_neg h1, if_neg h2, if_neg h3, if_pos h4]
      have := rtext_loop v (hl.txt h4) v.s.size BIG 0 (by omega) (by rw [big_val]; have := hl.txt h4; omega)
      rw [List.take_zero] at this
      exact this
    rw [if_neg h4, if_neg h5]
    by_cases h0 : v.kind = 0
    · unfold ref1_text_j4
      simp [h0, ifte]
    rw [if_neg h0, if_neg h1, if_neg h2, if_neg h3, if_neg h4, if_neg h5]
    have hlp := rtext_items v (ref1_text k) hv hi (fun x hx => ih k x (hi x hx) (by omega) (by have := sizeL_mem hx; omega)) v.items.length BIG 0 (by omega) (by rw [big_val]; omega)
    rw [List.take_zero, TJ] at hlp
    unfold ref1_text_j4
    have hk7 : v.kind = 6 ∨ v.kind = 7 := by have := hl.kin; omega
    rcases hk7 with h6 | h7
    · rw [if_pos h6, ifte, if_pos (by simp [h6]), if_pos h6]
      rw [if_pos h6] at hlp
      exact hlp
    · rw [if_neg (by omega), ifte, if_pos (by simp [h7]), if_neg (by omega)]
      rw [if_neg (by omega)] at hlp
      exact hlp

/-- the text of any value -/
def TX (v : GValue) : List UInt8 := if soundB v = true then T v else []

theorem snd_of {v : GValue} (h : soundB v = true) : Snd 4 v := ⟨0, h⟩

theorem vText_eq (v : GValue) (hv : sizeV v ≤ 10000000) : value_Text v = some (bs (TX v)) := by
  unfold value_Text TX
  rw [vSound v (by omega), bnd_eq, ifte]
  cases h : soundB v with
  | false => rfl
  | true =>
    rw [if_neg (by simp), show_eq 4 BIG v (snd_of h) (by rw [big_val]; omega) hv]; rfl

theorem rText_eq (v : GValue) (hv : sizeV v ≤ 10000000) : ref1_Text v = some (bs (TX v)) := by
  unfold ref1_Text TX
  rw [rSound v (by omega), bnd_eq, ifte]
  cases h : soundB v with
  | false => rfl
  | true =>
    rw [if_neg (by simp), rtext_eq 4 BIG v (snd_of h) (by rw [big_val]; omega) hv]; rfl

end Go.Proofs.YtpmoopnkoknbeaaGreatDoor
namespace Go.Proofs.YtpmoopnkoknbeaaGreatDoor
open Go Go.PX Go.SX Go.SX.Cal
set_option linter.unusedVariables false
set_option linter.unusedSimpArgs false

theorem take_eq (p s : List UInt8) (bad : Bool) : value_reader_take (bs p) ⟨bs s, bad⟩ = some (pre p s, ⟨bs (off p s), bad⟩) := by
  have hp : internal_stringslite_HasPrefix (bs s) (bs p) = some (pre p s) := by
    unfold internal_stringslite_HasPrefix internal_stringslite_HasPrefix_j1
    simp only [bs_size, ifte]
    by_cases h : p.length ≤ s.length
    · rw [if_pos (by simpa using h), grdp (by omega), bnd_eq, bs_ext, bs_eq]
      congr 1
      rw [Bool.eq_iff_iff, pre_take]
      simp [h]
    · rw [if_neg (by simpa using h)]
      congr 1
      rw [eq_comm, Bool.eq_false_iff]
      intro h2
      exact h ((pre_take _ _).1 h2).1
  unfold value_reader_take value_reader_take_j1 strings_CutPrefix internal_stringslite_CutPrefix
  simp only [hp, bnd_eq, ifte]
  unfold off
  cases h : pre p s with
  | false => simp [bnd]
  | true =>
    have := ((pre_take _ _).1 h).1
    simp only [bs_size, Bool.not_true, Bool.false_eq_true, if_false]
    rw [grdp (by omega), bs_ext]
    simp [bnd, ift]

abbrev spn (p s : List UInt8) : List UInt8 := s.takeWhile (p.contains ·)
abbrev drp (p s : List UInt8) : List UInt8 := s.dropWhile (p.contains ·)

theorem spn_drp (p s : List UInt8) : spn p s ++ drp p s = s := List.takeWhile_append_dropWhile
theorem drp_len (p s : List UInt8) : (drp p s).length ≤ s.length := by
  have := congrArg List.length (spn_drp p s)
  rw [List.length_append] at this; omega
theorem spn_len (p s : List UInt8) : (spn p s).length ≤ s.length := by
  have := congrArg List.length (spn_drp p s)
  rw [List.length_append] at this; omega

theorem span_eq (p s : List UInt8) (bad : Bool) (hp : p.length ≤ 1000) (ha : p.all (fun b => decide (b.toNat < 128)) = true) (hs : s.length ≤ 1000000000) :
    value_reader_span (bs p) ⟨bs s, bad⟩ = some (bs (spn p s), ⟨bs (drp p s), bad⟩) := by
  have hd := drp_len p s
  have hl := congrArg List.length (spn_drp p s)
  rw [List.length_append] at hl
  unfold value_reader_span strings_TrimLeft
  rw [grdp ⟨by rw [bs_size]; omega, ha⟩, bnd_eq]
  show grd (_ ∧ _ ∧ _) (bnd (some ((bs s).extract _ (IntKind.i64.wrap (((bs s).size : Int) - ((bs (drp p s)).size : Int))).toNat)) fun y1 => some (y1, GReader.mk (bs (drp p s)) bad)) = _
  rw [grdp]
  · simp only [bs_size]
    rw [w64 (by omega) (by omega), bnd_eq, bs_ext, show (((s.length : Nat) : Int) - ((drp p s).length : Int)).toNat = (spn p s).length by omega]
    have : s.take (spn p s).length = spn p s := by
      have h2 := spn_drp p s
      have h3 : (spn p s ++ drp p s).take (spn p s).length = spn p s := List.take_left' rfl
      rw [h2] at h3
      exact h3
    rw [this]
    rfl
  · show (0 : Int) ≤ 0 ∧ (0 : Int) ≤ IntKind.i64.wrap (((bs s).size : Int) - ((bs (drp p s)).size : Int)) ∧ IntKind.i64.wrap (((bs s).size : Int) - ((bs (drp p s)).size : Int)) ≤ ((bs s).size : Int)
    simp only [bs_size]
    rw [w64 (by omega) (by omega)]
    omega

theorem number_eq (l : List UInt8) (s : ByteArray) (bad : Bool) (hl : l.length ≤ 1000000000) : value_reader_number (bs l) ⟨s, bad⟩ = some ((atoiR l).1, ⟨s, bad || (atoiR l).2⟩) := by
  unfold value_reader_number value_reader_number_j1 value_reader_number_j2 strconv_Atoi
  rw [grdp (by rw [bs_size]; omega), bnd_eq]
  show ift (atoiR l).2 _ _ = _
  simp only [ifte]
  cases h : (atoiR l).2 <;> cases bad <;> simp

theorem must_eq (p s : List UInt8) (bad : Bool) : value_reader_must (bs p) ⟨bs s, bad⟩ = some ((), ⟨bs (off p s), bad || !pre p s⟩) := by
  unfold value_reader_must
  rw [take_eq, bnd_eq, ifte]
  cases h : pre p s <;> cases bad <;> simp

abbrev D10 : List UInt8 := [48, 49, 50, 51, 52, 53, 54, 55, 56, 57]
abbrev D11 : List UInt8 := [45, 48, 49, 50, 51, 52, 53, 54, 55, 56, 57]

/-- one part of a moment -/
def st (e : UInt8) (s : List UInt8) (bad : Bool) : Int × List UInt8 × Bool :=
  ((atoiR (spn D10 s)).1, off [e] (drp D10 s), (bad || (atoiR (spn D10 s)).2) || !pre [e] (drp D10 s))

theorem st_len (e : UInt8) (s : List UInt8) (bad : Bool) : (st e s bad).2.1.length ≤ s.length := by
  have h1 := drp_len D10 s
  have h2 := off_len [e] (drp D10 s)
  show (off [e] (drp D10 s)).length ≤ _
  omega

theorem span10 (s : List UInt8) (bad : Bool) (hs : s.length ≤ 1000000000) : value_reader_span (ByteArray.mk #[48, 49, 50, 51, 52, 53, 54, 55, 56, 57]) ⟨bs s, bad⟩ = some (bs (spn D10 s), ⟨bs (drp D10 s), bad⟩) :=
  span_eq D10 s bad (by decide) (by decide) hs
theorem span11 (s : List UInt8) (bad : Bool) (hs : s.length ≤ 1000000000) : value_reader_span (ByteArray.mk #[45, 48, 49, 50, 51, 52, 53, 54, 55, 56, 57]) ⟨bs s, bad⟩ = some (bs (spn D11 s), ⟨bs (drp D11 s), bad⟩) :=
  span_eq D11 s bad (by decide) (by decide) hs

theorem grd_le {β : Type} {a b : Nat} (h : a ≤ b) (x : Option β) : grd (a ≤ b) x = x := grdp h x

def mom6 (a1 a2 a3 a4 a5 a6 : Int × List UInt8 × Bool) : Int × GReader :=
  if Tm.chk ⟨a1.1, a2.1, a3.1, a4.1, a5.1, a6.1⟩ then (Tm.sec ⟨a1.1, a2.1, a3.1, a4.1, a5.1, a6.1⟩, ⟨bs a6.2.1, a6.2.2⟩) else (0, ⟨bs a6.2.1, true⟩)

theorem moment_eq (s : List UInt8) (bad : Bool) (hs : s.length ≤ 1000000000) (a1 a2 a3 a4 a5 a6 : Int × List UInt8 × Bool)
    (h1 : a1 = st 45 s bad) (h2 : a2 = st 45 a1.2.1 a1.2.2) (h3 : a3 = st 84 a2.2.1 a2.2.2) (h4 : a4 = st 58 a3.2.1 a3.2.2) (h5 : a5 = st 58 a4.2.1 a4.2.2) (h6 : a6 = st 90 a5.2.1 a5.2.2) :
    value_reader_moment ⟨bs s, bad⟩ = some (mom6 a1 a2 a3 a4 a5 a6) := by
  have l1 : a1.2.1.length ≤ s.length := by rw [h1]; exact st_len _ _ _
  have l2 : a2.2.1.length ≤ a1.2.1.length := by rw [h2]; exact st_len _ _ _
  have l3 : a3.2.1.length ≤ a2.2.1.length := by rw [h3]; exact st_len _ _ _
  have l4 : a4.2.1.length ≤ a3.2.1.length := by rw [h4]; exact st_len _ _ _
  have l5 : a5.2.1.length ≤ a4.2.1.length := by rw [h5]; exact st_len _ _ _
  unfold value_reader_moment
  simp only [show at? ([(ByteArray.mk #[45]), (ByteArray.mk #[45]), (ByteArray.mk #[84]), (ByteArray.mk #[58]), (ByteArray.mk #[58]), (ByteArray.mk #[90])]) (0 : Int) = some (bs [45]) from rfl,
    show at? ([(ByteArray.mk #[45]), (ByteArray.mk #[45]), (ByteArray.mk #[84]), (ByteArray.mk #[58]), (ByteArray.mk #[58]), (ByteArray.mk #[90])]) (1 : Int) = some (bs [45]) from rfl,
    show at? ([(ByteArray.mk #[45]), (ByteArray.mk #[45]), (ByteArray.mk #[84]), (ByteArray.mk #[58]), (ByteArray.mk #[58]), (ByteArray.mk #[90])]) (2 : Int) = some (bs [84]) from rfl,
    show at? ([(ByteArray.mk #[45]), (ByteArray.mk #[45]), (ByteArray.mk #[84]), (ByteArray.mk #[58]), (ByteArray.mk #[58]), (ByteArray.mk #[90])]) (3 : Int) = some (bs [58]) from rfl,
    show at? ([(ByteArray.mk #[45]), (ByteArray.mk #[45]), (ByteArray.mk #[84]), (ByteArray.mk #[58]), (ByteArray.mk #[58]), (ByteArray.mk #[90])]) (4 : Int) = some (bs [58]) from rfl,
    show at? ([(ByteArray.mk #[45]), (ByteArray.mk #[45]), (ByteArray.mk #[84]), (ByteArray.mk #[58]), (ByteArray.mk #[58]), (ByteArray.mk #[90])]) (5 : Int) = some (bs [90]) from rfl, bnd_eq]
  simp only [List.cons_append, List.nil_append, List.length_cons, List.length_nil]
  simp only [grd_le (show (0 + 1 + 1 : Nat) ≤ 4294967296 by decide), grd_le (show (0 + 1 + 1 + 1 : Nat) ≤ 4294967296 by decide), grd_le (show (0 + 1 + 1 + 1 + 1 : Nat) ≤ 4294967296 by decide), grd_le (show (0 + 1 + 1 + 1 + 1 + 1 : Nat) ≤ 4294967296 by decide), grd_le (show (0 + 1 + 1 + 1 + 1 + 1 + 1 : Nat) ≤ 4294967296 by decide)]
  rw [span10 s bad (by omega), bnd_eq]; dsimp only
  rw [number_eq _ _ _ (by have := spn_len D10 s; omega), bnd_eq]; dsimp only
  rw [must_eq, bnd_eq]; dsimp only
  rw [show off [45] (drp D10 s) = a1.2.1 by rw [h1]; rfl, show ((bad || (atoiR (spn D10 s)).2) || !pre [45] (drp D10 s)) = a1.2.2 by rw [h1]; rfl, show (atoiR (spn D10 s)).1 = a1.1 by rw [h1]; rfl]
  rw [span10 a1.2.1 a1.2.2 (by omega), bnd_eq]; dsimp only
  rw [number_eq _ _ _ (by have := spn_len D10 a1.2.1; omega), bnd_eq]; dsimp only
  rw [must_eq, bnd_eq]; dsimp only
  rw [show off [45] (drp D10 a1.2.1) = a2.2.1 by rw [h2]; rfl, show ((a1.2.2 || (atoiR (spn D10 a1.2.1)).2) || !pre [45] (drp D10 a1.2.1)) = a2.2.2 by rw [h2]; rfl, show (atoiR (spn D10 a1.2.1)).1 = a2.1 by rw [h2]; rfl]
  rw [span10 a2.2.1 a2.2.2 (by omega), bnd_eq]; dsimp only
  rw [number_eq _ _ _ (by have := spn_len D10 a2.2.1; omega), bnd_eq]; dsimp only
  rw [must_eq, bnd_eq]; dsimp only
  rw [show off [84] (drp D10 a2.2.1) = a3.2.1 by rw [h3]; rfl, show ((a2.2.2 || (atoiR (spn D10 a2.2.1)).2) || !pre [84] (drp D10 a2.2.1)) = a3.2.2 by rw [h3]; rfl, show (atoiR (spn D10 a2.2.1)).1 = a3.1 by rw [h3]; rfl]
  rw [span10 a3.2.1 a3.2.2 (by omega), bnd_eq]; dsimp only
  rw [number_eq _ _ _ (by have := spn_len D10 a3.2.1; omega), bnd_eq]; dsimp only
  rw [must_eq, bnd_eq]; dsimp only
  rw [show off [58] (drp D10 a3.2.1) = a4.2.1 by rw [h4]; rfl, show ((a3.2.2 || (atoiR (spn D10 a3.2.1)).2) || !pre [58] (drp D10 a3.2.1)) = a4.2.2 by rw [h4]; rfl, show (atoiR (spn D10 a3.2.1)).1 = a4.1 by rw [h4]; rfl]
  rw [span10 a4.2.1 a4.2.2 (by omega), bnd_eq]; dsimp only
  rw [number_eq _ _ _ (by have := spn_len D10 a4.2.1; omega), bnd_eq]; dsimp only
  rw [must_eq, bnd_eq]; dsimp only
  rw [show off [58] (drp D10 a4.2.1) = a5.2.1 by rw [h5]; rfl, show ((a4.2.2 || (atoiR (spn D10 a4.2.1)).2) || !pre [58] (drp D10 a4.2.1)) = a5.2.2 by rw [h5]; rfl, show (atoiR (spn D10 a4.2.1)).1 = a5.1 by rw [h5]; rfl]
  rw [span10 a5.2.1 a5.2.2 (by omega), bnd_eq]; dsimp only
  rw [number_eq _ _ _ (by have := spn_len D10 a5.2.1; omega), bnd_eq]; dsimp only
  rw [must_eq, bnd_eq]; dsimp only
  rw [show off [90] (drp D10 a5.2.1) = a6.2.1 by rw [h6]; rfl, show ((a5.2.2 || (atoiR (spn D10 a5.2.1)).2) || !pre [90] (drp D10 a5.2.1)) = a6.2.2 by rw [h6]; rfl, show (atoiR (spn D10 a5.2.1)).1 = a6.1 by rw [h6]; rfl]
  rw [show at? [a1.1, a2.1, a3.1, a4.1, a5.1, a6.1] (0 : Int) = some a1.1 from rfl, bnd_eq, show at? [a1.1, a2.1, a3.1, a4.1, a5.1, a6.1] (1 : Int) = some a2.1 from rfl, bnd_eq, show at? [a1.1, a2.1, a3.1, a4.1, a5.1, a6.1] (2 : Int) = some a3.1 from rfl, bnd_eq, show at? [a1.1, a2.1, a3.1, a4.1, a5.1, a6.1] (3 : Int) = some a4.1 from rfl, bnd_eq, show at? [a1.1, a2.1, a3.1, a4.1, a5.1, a6.1] (4 : Int) = some a5.1 from rfl, bnd_eq, show at? [a1.1, a2.1, a3.1, a4.1, a5.1, a6.1] (5 : Int) = some a6.1 from rfl, bnd_eq, Tm.check_eq, bnd_eq, ifte]
  unfold mom6
  by_cases hc : Tm.chk ⟨a1.1, a2.1, a3.1, a4.1, a5.1, a6.1⟩
  · have hc2 := hc
    unfold Tm.chk at hc2
    rw [if_pos hc, if_pos hc2, if_neg (by decide), Tm.seconds_eq (Tm.chk_fine hc), bnd_eq]
  · have hc2 := hc
    unfold Tm.chk at hc2
    rw [if_neg hc, if_neg hc2, if_pos (by decide)]

end Go.Proofs.YtpmoopnkoknbeaaGreatDoor
namespace Go.Proofs.YtpmoopnkoknbeaaGreatDoor
open Go Go.PX Go.SX Go.SX.Cal
set_option linter.unusedVariables false
set_option linter.unusedSimpArgs false

/-- what a reading of a value gives: r.1 the value -/
structure Rd (t : GType) (s : List UInt8) (bad : Bool) (v : GValue) (s' : List UInt8) (b' : Bool) : Prop where
  le : s'.length ≤ s.length
  sz : sizeV v + s'.length ≤ s.length + sizeT t
  ok : b' = false → bad = false ∧ sizeV v + s'.length ≤ s.length

theorem quo_ok : ∀ (n : Nat) (s cur acc : List UInt8), s.length ≤ n → (quo cur acc s).2.2 = false → (quo cur acc s).1.length + (quo cur acc s).2.1.length + 1 ≤ acc.length + s.length
  | 0, s, cur, acc, h => by
    have : s = [] := List.length_eq_zero_iff.1 (by omega)
    subst this
    rw [quo_nil]; simp
  | n + 1, s, cur, acc, h => by
    match s with
    | [] => rw [quo_nil]; simp
    | b :: r =>
      simp at h
      by_cases hb : b = 39
      · subst hb
        by_cases hr : r.head? = some 39
        · match r, hr with
          | c :: r, hr =>
            simp at hr; subst hr
            rw [quo_two]
            intro h2
            have := quo_ok n r r (acc ++ [39]) (by simp at h; omega) h2
            simp at this ⊢
            omega
        · rw [quo_end _ _ _ hr]; simp; omega
      · rw [quo_other hb]
        intro h2
        have := quo_ok n r cur (acc ++ [b]) h h2
        simp at this ⊢
        omega

theorem quo_bad : ∀ (n : Nat) (s cur acc : List UInt8), s.length ≤ n → (quo cur acc s).2.2 = true → (quo cur acc s).1 = []
  | 0, s, cur, acc, h => by
    have : s = [] := List.length_eq_zero_iff.1 (by omega)
    subst this
    rw [quo_nil]; simp
  | n + 1, s, cur, acc, h => by
    match s with
    | [] => rw [quo_nil]; simp
    | b :: r =>
      simp at h
      by_cases hb : b = 39
      · subst hb
        by_cases hr : r.head? = some 39
        · match r, hr with
          | c :: r, hr =>
            simp at hr; subst hr
            rw [quo_two]
            exact quo_bad n r r (acc ++ [39]) (by simp at h; omega)
        · rw [quo_end _ _ _ hr]; simp
      · rw [quo_other hb]
        exact quo_bad n r cur (acc ++ [b]) h

theorem quo_le (s : List UInt8) : (quo s [] s).2.1.length ≤ s.length := by
  have := (quo_len s.length s s [] (Nat.le_refl _)).1
  omega

theorem quoted_eq (s : List UInt8) (bad : Bool) (hs : s.length ≤ 1000000000) : value_reader_quoted ⟨bs s, bad⟩ = some (bs (quo s [] s).1, ⟨bs (quo s [] s).2.1, bad || (quo s [] s).2.2⟩) := by
  unfold value_reader_quoted
  rw [grdp (by rw [bs_size]; omega)]

theorem off_ok {p s : List UInt8} (h : pre p s = true) : (off p s).length + p.length = s.length := by
  have := ((pre_take _ _).1 h).1
  unfold off
  rw [if_pos h, List.length_drop]; omega

theorem atoi_pos_len {l : List UInt8} (h : (atoiR l).2 = false) : 1 ≤ l.length := by
  cases l with
  | nil => cases h
  | cons _ _ => simp

theorem st_ok {e : UInt8} {s : List UInt8} {bad : Bool} (h : (st e s bad).2.2 = false) : bad = false ∧ (st e s bad).2.1.length + 2 ≤ s.length := by
  unfold st at h ⊢
  simp only [Bool.or_eq_false_iff, Bool.not_eq_false'] at h
  obtain ⟨⟨h1, h2⟩, h3⟩ := h
  refine ⟨h1, ?_⟩
  have a := atoi_pos_len h2
  have b := off_ok h3
  have c := congrArg List.length (spn_drp D10 s)
  rw [List.length_append] at c
  simp only [List.length_singleton] at b
  show (off [e] (drp D10 s)).length + 2 ≤ _
  omega

theorem moment_tot (s : List UInt8) (bad : Bool) (hs : s.length ≤ 1000000000) : ∃ x s' b', value_reader_moment ⟨bs s, bad⟩ = some (x, ⟨bs s', b'⟩) ∧ s'.length ≤ s.length ∧ (b' = false → bad = false ∧ s'.length + 2 ≤ s.length) := by
  have := moment_eq s bad hs _ _ _ _ _ _ rfl rfl rfl rfl rfl rfl
  rw [this]
  have l1 := st_len 45 s bad
  have k1 := @st_ok 45 s bad
  generalize st 45 s bad = a1 at *
  have l2 := st_len 45 a1.2.1 a1.2.2
  have k2 := @st_ok 45 a1.2.1 a1.2.2
  generalize st 45 a1.2.1 a1.2.2 = a2 at *
  have l3 := st_len 84 a2.2.1 a2.2.2
  have k3 := @st_ok 84 a2.2.1 a2.2.2
  generalize st 84 a2.2.1 a2.2.2 = a3 at *
  have l4 := st_len 58 a3.2.1 a3.2.2
  have k4 := @st_ok 58 a3.2.1 a3.2.2
  generalize st 58 a3.2.1 a3.2.2 = a4 at *
  have l5 := st_len 58 a4.2.1 a4.2.2
  have k5 := @st_ok 58 a4.2.1 a4.2.2
  generalize st 58 a4.2.1 a4.2.2 = a5 at *
  have l6 := st_len 90 a5.2.1 a5.2.2
  have k6 := @st_ok 90 a5.2.1 a5.2.2
  generalize st 90 a5.2.1 a5.2.2 = a6 at *
  unfold mom6
  split
  · refine ⟨_, _, _, rfl, by omega, fun h => ?_⟩
    have := k6 h
    have := k5 this.1
    have := k4 this.1
    have := k3 this.1
    have := k2 this.1
    have := k1 this.1
    exact ⟨this.1, by omega⟩
  · exact ⟨_, _, _, rfl, by omega, fun h => by cases h⟩

/-- the loop over the items -/
theorem items_tot {t : GType} (hV : V t) (hT : sizeT t < 1000000000) (q : GType → GReader → Option (GValue × GReader)) (e : UInt8) (N M : Nat) (hN : N ≤ 1000000000) (hkk : t.kind = 6 ∨ t.kind = 7)
    (hq : ∀ f ∈ t.fields, ∀ s bad, s.length ≤ N → ∃ v s' b', q f.type ⟨bs s, bad⟩ = some (v, ⟨bs s', b'⟩) ∧ s'.length ≤ s.length ∧ sizeV v + s'.length ≤ s.length + M ∧ (b' = false → bad = false ∧ sizeV v + s'.length ≤ s.length)) :
    ∀ (m f : Nat) (l : List GValue) (s : List UInt8) (b : Bool) (S : Nat), 66 ≤ l.length + m → l.length ≤ 66 → m < f → s.length ≤ N → (t.kind = 7 → l.length ≤ t.fields.length) → (b = false → sizeL l + s.length ≤ S) → sizeL l + s.length ≤ S + M →
      ∃ l' s' b', value_reader_items_l1 q t (bs [e]) f l (bs s) b = some (l', ⟨bs s', b'⟩) ∧ s'.length ≤ s.length ∧ sizeL l' + s'.length ≤ S + M ∧ (b' = false → b = false ∧ sizeL l' + s'.length ≤ S) := by
  have hlen := sizeT_eq t
  have hfl := sizeF_len t.fields
  have hsn : ∀ (l : List GValue) v, sizeL (l ++ [v]) = sizeL l + sizeV v := by
    intro l v
    induction l with
    | nil => simp [sizeL]
    | cons x l ih => simp only [List.cons_append, sizeL, ih]; omega
  intro m
  induction m with
  | zero =>
    intro f l s b S h1 h2 hf hs h7 hb hb2
    obtain ⟨f, rfl⟩ : ∃ g, f = g + 1 := ⟨f - 1, by omega⟩
    rw [value_reader_items_l1, ifte]
    cases b with
    | true =>
      rw [if_neg (by simp)]
      exact ⟨l, s, true, rfl, Nat.le_refl _, hb2, fun h => by cases h⟩
    | false =>
      rw [if_pos (by simp), take_eq, bnd_eq]
      have hol := off_len [e] s
      unfold value_reader_items_j1 value_reader_items_j2 value_reader_items_j3 value_reader_items_j4
      simp only [ifte]
      cases hp : pre [e] s with
      | true =>
        have := off_ok hp
        refine ⟨l, off [e] s, false, rfl, hol, by omega, fun _ => ⟨by simp, ?_⟩⟩
        have := hb rfl
        omega
      | false =>
        have h64 : decide ((64 : Int) < ((l.length : Nat) : Int)) = true := by simp; omega
        have hpos : decide ((0 : Int) < ((l.length : Nat) : Int)) = true := by simp; omega
        simp only [h64, hpos, Bool.not_false, if_true]
        show ∃ l' s' b', bnd (value_reader_must (bs [44, 32]) _) _ = _ ∧ _
        rw [must_eq, bnd_eq]
        have h3 := off_len [44, 32] (off [e] s)
        dsimp only
        split
        · split
          · exact ⟨l, _, true, rfl, by omega, by omega, fun h => by cases h⟩
          · exact ⟨l, _, true, rfl, by omega, by omega, fun h => by cases h⟩
        · exact ⟨l, _, true, rfl, by omega, by omega, fun h => by cases h⟩
  | succ m ih =>
    intro f l s b S h1 h2 hf hs h7 hb hb2
    obtain ⟨f, rfl⟩ : ∃ g, f = g + 1 := ⟨f - 1, by omega⟩
    rw [value_reader_items_l1, ifte]
    cases b with
    | true =>
      rw [if_neg (by simp)]
      exact ⟨l, s, true, rfl, Nat.le_refl _, hb2, fun h => by cases h⟩
    | false =>
      rw [if_pos (by simp), take_eq, bnd_eq]
      have hol := off_len [e] s
      have hb1 := hb rfl
      cases hp : pre [e] s with
      | true =>
        have := off_ok hp
        unfold value_reader_items_j1 value_reader_items_j4
        exact ⟨l, off [e] s, false, rfl, hol, by omega, fun _ => ⟨rfl, by omega⟩⟩
      | false =>
        -- from here: s1 and b1 behind the comma
        have j3 : ∀ (s1 : List UInt8) (b1 : Bool), s1.length ≤ s.length → ¬ (t.kind = 7 ∧ l.length = t.fields.length) → l.length ≤ 64 →
            ∃ l' s' b', value_reader_items_j3 (value_reader_items_l1 q t (bs [e]) f) q t l (bs s1) b1 false = some (l', ⟨bs s', b'⟩) ∧ s'.length ≤ s.length ∧ sizeL l' + s'.length ≤ S + M ∧ (b' = false → sizeL l' + s'.length ≤ S) := by
          intro s1 b1 hs1 hk hl64
          unfold value_reader_items_j3
          rw [ifte, if_neg (by simp)]
          obtain ⟨fd, hfm, hfd⟩ : ∃ fd, fd ∈ t.fields ∧ value_field t ((l.length : Nat) : Int) = some fd := by
            unfold value_field value_field_j1
            rw [ifte]
            by_cases h6 : t.kind = 6
            · rw [if_pos (by simpa using h6)]
              have := hV.list h6
              exact ⟨t.fields[0], List.getElem_mem (by omega), by rw [show at? t.fields (0 : Int) = some t.fields[0] from at_nat (i := 0) (by omega)]; rfl⟩
            · rw [if_neg (by simpa using h6)]
              have h70 : t.kind = 7 := by omega
              have := h7 h70
              have hlt : l.length < t.fields.length := by
                rcases Nat.lt_or_ge l.length t.fields.length with h | h
                · exact h
                · exact absurd ⟨h70, by omega⟩ hk
              exact ⟨t.fields[l.length], List.getElem_mem hlt, by rw [at_nat hlt]; rfl⟩
          rw [hfd, bnd_eq]
          obtain ⟨v, s', b', e1, e2, e3, e4⟩ := hq fd hfm s1 b1 (by omega)
          rw [e1, bnd_eq, grdp (by omega)]
          dsimp only
          have hlt7 : t.kind = 7 → (l ++ [v]).length ≤ t.fields.length := by
            intro h
            have := h7 h
            rw [List.length_append, List.length_singleton]
            rcases Nat.lt_or_ge l.length t.fields.length with h' | h'
            · omega
            · exact absurd ⟨h, by omega⟩ hk
          obtain ⟨l2, s2, b2, g1, g2, g3, g4⟩ := ih f (l ++ [v]) s' b' S (by simp; omega) (by simp; omega) (by omega) (by omega) hlt7 (fun h => by rw [hsn]; have := e4 h; omega) (by rw [hsn]; omega)
          exact ⟨l2, s2, b2, g1, by omega, g3, fun h => (g4 h).2⟩
        have j2 : ∀ (s1 : List UInt8) (b1 : Bool), s1.length ≤ s.length →
            ∃ l' s' b', value_reader_items_j2 (value_reader_items_l1 q t (bs [e]) f) q t l (bs s1) b1 = some (l', ⟨bs s', b'⟩) ∧ s'.length ≤ s.length ∧ sizeL l' + s'.length ≤ S + M ∧ (b' = false → sizeL l' + s'.length ≤ S) := by
          intro s1 b1 hs1
          have out : ∃ l' s' b', value_reader_items_j3 (value_reader_items_l1 q t (bs [e]) f) q t l (bs s1) b1 true = some (l', ⟨bs s', b'⟩) ∧ s'.length ≤ s.length ∧ sizeL l' + s'.length ≤ S + M ∧ (b' = false → sizeL l' + s'.length ≤ S) := by
            unfold value_reader_items_j3 value_reader_items_j4
            exact ⟨l, s1, true, rfl, hs1, by omega, fun h => by cases h⟩
          unfold value_reader_items_j2
          simp only [ifte]
          have hd : decide ((64 : Int) < ((l.length : Nat) : Int)) = decide (64 < l.length) := by
            rw [Bool.eq_iff_iff]; simp; omega
          rw [hd]
          by_cases hk7 : t.kind = 7
          · rw [if_pos (by simpa using hk7)]
            by_cases hkl : l.length = t.fields.length
            · rw [if_pos (by simp [hkl])]
              exact out
            · rw [if_neg (by simp; omega)]
              by_cases h64 : 64 < l.length
              · rw [show decide (64 < l.length) = true by simpa using h64]; exact out
              · rw [show decide (64 < l.length) = false by simpa using h64]; exact j3 s1 b1 hs1 (fun h => hkl h.2) (by omega)
          · rw [if_neg (by simpa using hk7)]
            by_cases h64 : 64 < l.length
            · rw [show decide (64 < l.length) = true by simpa using h64]; exact out
            · rw [show decide (64 < l.length) = false by simpa using h64]; exact j3 s1 b1 hs1 (fun h => hk7 h.1) (by omega)
        unfold value_reader_items_j1
        dsimp only
        rw [ifte, if_pos (by simp), ifte]
        split
        · show ∃ l' s' b', bnd (value_reader_must (bs [44, 32]) ⟨bs (off [e] s), false⟩) _ = _ ∧ _
          rw [must_eq, bnd_eq]
          have h3 := off_len [44, 32] (off [e] s)
          obtain ⟨l', s', b', e1, e2, e3, e4⟩ := j2 (off [44, 32] (off [e] s)) (false || !pre [44, 32] (off [e] s)) (by omega)
          exact ⟨l', s', b', e1, e2, e3, fun h => ⟨rfl, e4 h⟩⟩
        · obtain ⟨l', s', b', e1, e2, e3, e4⟩ := j2 (off [e] s) false hol
          exact ⟨l', s', b', e1, e2, e3, fun h => ⟨rfl, e4 h⟩⟩

end Go.Proofs.YtpmoopnkoknbeaaGreatDoor
namespace Go.Proofs.YtpmoopnkoknbeaaGreatDoor
open Go Go.PX Go.SX Go.SX.Cal
set_option linter.unusedVariables false
set_option linter.unusedSimpArgs false

theorem sizeV_leaf (k n sc : Int) (s : ByteArray) : sizeV ⟨k, n, sc, s, []⟩ = s.size + 1 := by
  rw [sizeV_eq]; simp [sizeL]
theorem sizeV_list (k n sc : Int) (l : List GValue) : sizeV ⟨k, n, sc, ByteArray.empty, l⟩ = sizeL l + 1 := by
  rw [sizeV_eq]; simp [empty_size]

theorem value_tot : ∀ (n : Nat) (t : GType), sizeT t ≤ n → V t → sizeT t < 1000000000 → ∀ (k : Nat), 2 * n ≤ k → ∀ (s : List UInt8) (bad : Bool), s.length ≤ 1000000000 →
    ∃ v s' b', value_reader_value k t ⟨bs s, bad⟩ = some (v, ⟨bs s', b'⟩) ∧ Rd t s bad v s' b' := by
  intro n
  induction n with
  | zero => intro t h; have := sizeT_eq t; omega
  | succ n ih =>
    intro t hn hV hT k hk s bad hs
    obtain ⟨k, rfl⟩ : ∃ g, k = g + 2 := ⟨k - 2, by omega⟩
    have hst := sizeT_eq t
    rw [value_reader_value, show (ByteArray.mk #[110, 117, 108, 108]) = bs [110, 117, 108, 108] from rfl, take_eq, bnd_eq]
    dsimp only
    simp only [ifte]
    have ho := off_len [110, 117, 108, 108] s
    cases hp : pre [110, 117, 108, 108] s with
    | true =>
      have := off_ok hp
      simp only [List.length_cons, List.length_nil] at this
      exact ⟨_, _, _, rfl, ho, by rw [sizeV_leaf, empty_size]; omega, fun h => ⟨h, by rw [sizeV_leaf, empty_size]; omega⟩⟩
    | false =>
      have hoff : off [110, 117, 108, 108] s = s := by unfold off; rw [hp]; rfl
      rw [hoff]
      rw [if_neg (by simp)]
      unfold value_reader_value_j1
      simp only [beq_iff_eq]
      by_cases h1 : t.kind = 1
      · rw [if_pos h1, show (ByteArray.mk #[116, 114, 117, 101]) = bs [116, 114, 117, 101] from rfl, take_eq, bnd_eq]
        dsimp only
        have h2 := off_len [116, 114, 117, 101] s
        cases hq : pre [116, 114, 117, 101] s with
        | true =>
          have := off_ok hq
          simp only [List.length_cons, List.length_nil] at this
          exact ⟨_, _, _, rfl, h2, by rw [sizeV_leaf, empty_size]; omega, fun h => ⟨h, by rw [sizeV_leaf, empty_size]; omega⟩⟩
        | false =>
          rw [if_neg (by simp), show (ByteArray.mk #[102, 97, 108, 115, 101]) = bs [102, 97, 108, 115, 101] from rfl, must_eq, bnd_eq]
          dsimp only
          have h3 := off_len [102, 97, 108, 115, 101] (off [116, 114, 117, 101] s)
          refine ⟨_, _, _, rfl, by omega, by rw [sizeV_leaf, empty_size]; omega, fun h => ?_⟩
          simp only [Bool.or_eq_false_iff, Bool.not_eq_false'] at h
          have := off_ok h.2
          simp only [List.length_cons, List.length_nil] at this
          exact ⟨h.1, by rw [sizeV_leaf, empty_size]; omega⟩
      rw [if_neg h1]
      by_cases h2 : t.kind = 2
      · have hsp := congrArg List.length (spn_drp D11 s)
        rw [List.length_append] at hsp
        rw [if_pos h2, span11 s bad hs, bnd_eq]
        dsimp only
        rw [number_eq _ _ _ (by omega), bnd_eq]
        refine ⟨_, _, _, rfl, by omega, by rw [sizeV_leaf, empty_size]; omega, fun h => ?_⟩
        simp only [Bool.or_eq_false_iff] at h
        have := atoi_pos_len h.2
        exact ⟨h.1, by rw [sizeV_leaf, empty_size]; omega⟩
      rw [if_neg h2]
      by_cases h3 : t.kind = 3
      · have hsp := congrArg List.length (spn_drp D11 s)
        rw [List.length_append] at hsp
        have hol := off_len [46] (drp D11 s)
        have hsp2 := congrArg List.length (spn_drp D11 (off [46] (drp D11 s)))
        rw [List.length_append] at hsp2
        rw [if_pos h3, span11 s bad hs, bnd_eq]
        dsimp only
        rw [show (ByteArray.mk #[46]) = bs [46] from rfl, must_eq, bnd_eq]
        dsimp only
        rw [span11 _ _ (by omega), bnd_eq]
        dsimp only
        rw [bs_size, bs_size, grdp (by omega), bs_app, number_eq _ _ _ (by rw [List.length_append]; omega), bnd_eq]
        refine ⟨_, _, _, rfl, by omega, by rw [sizeV_leaf, empty_size]; omega, fun h => ?_⟩
        simp only [Bool.or_eq_false_iff, Bool.not_eq_false'] at h
        have := atoi_pos_len h.2
        rw [List.length_append] at this
        exact ⟨h.1.1, by rw [sizeV_leaf, empty_size]; omega⟩
      rw [if_neg h3]
      by_cases h4 : t.kind = 4
      · have hol := off_len [39] s
        rw [if_pos h4, show (ByteArray.mk #[39]) = bs [39] from rfl, must_eq, bnd_eq]
        dsimp only
        rw [quoted_eq _ _ (by omega), bnd_eq]
        have hql := quo_le (off [39] s)
        have hq1 := quo_ok _ (off [39] s) (off [39] s) [] (Nat.le_refl _)
        have hq2 := quo_bad _ (off [39] s) (off [39] s) [] (Nat.le_refl _)
        refine ⟨_, _, _, rfl, by omega, ?_, fun h => ?_⟩
        · rw [sizeV_leaf, bs_size]
          cases hb : (quo (off [39] s) [] (off [39] s)).2.2 with
          | true => rw [hq2 hb]; simp; omega
          | false => have := hq1 hb; simp at this ⊢; omega
        · simp only [Bool.or_eq_false_iff, Bool.not_eq_false'] at h
          have := hq1 h.2
          simp only [List.length_nil] at this
          exact ⟨h.1.1, by rw [sizeV_leaf, bs_size]; omega⟩
      rw [if_neg h4]
      by_cases h5 : t.kind = 5
      · rw [if_pos h5]
        obtain ⟨x, s', b', e1, e2, e3⟩ := moment_tot s bad hs
        rw [e1, bnd_eq]
        exact ⟨_, _, _, rfl, e2, by rw [sizeV_leaf, empty_size]; omega, fun h => ⟨(e3 h).1, by rw [sizeV_leaf, empty_size]; have := (e3 h).2; omega⟩⟩
      rw [if_neg h5]
      have loop : ∀ (o e : UInt8), (t.kind = 6 ∨ t.kind = 7) → ∃ l' s' b', value_reader_items (k + 1) t (bs [e]) ⟨bs (off [o] s), bad || !pre [o] s⟩ = some (l', ⟨bs s', b'⟩) ∧ s'.length ≤ s.length ∧ sizeL l' + 1 + s'.length ≤ s.length + sizeT t ∧ (b' = false → bad = false ∧ sizeL l' + 1 + s'.length ≤ s.length) := by
        intro o e hkk
        have hol := off_len [o] s
        have hok := @off_ok [o] s
        rw [value_reader_items]
        dsimp only
        obtain ⟨l', s', b', e1, e2, e3, e4⟩ := items_tot hV hT (value_reader_value k) e 1000000000 (sizeT t - 1) (Nat.le_refl _) hkk (fun f hf u b hu => by
            have h1 := sizeF_mem hf
            have h2 := sizeFd_eq f
            obtain ⟨v, s', b', g1, g2⟩ := ih f.type (by omega) (hV.fs f hf) (by omega) k (by omega) u b hu
            exact ⟨v, s', b', g1, g2.le, by have := g2.sz; omega, g2.ok⟩) 66 BIG [] (off [o] s) (bad || !pre [o] s) (off [o] s).length (by simp) (by simp) (by rw [big_val]; omega) (by omega) (by simp) (by simp [sizeL]) (by simp [sizeL])
        refine ⟨l', s', b', e1, by omega, by omega, fun h => ?_⟩
        obtain ⟨a1, a2⟩ := e4 h
        simp only [Bool.or_eq_false_iff, Bool.not_eq_false'] at a1
        have := hok a1.2
        simp only [List.length_singleton] at this
        exact ⟨a1.1, by omega⟩
      by_cases h6 : t.kind = 6
      · rw [if_pos h6, show (ByteArray.mk #[91]) = bs [91] from rfl, must_eq, bnd_eq, show (ByteArray.mk #[93]) = bs [93] from rfl]
        dsimp only
        obtain ⟨l', s', b', e1, e2, e3, e4⟩ := loop 91 93 (.inl h6)
        rw [e1, bnd_eq]
        exact ⟨_, _, _, rfl, e2, by rw [sizeV_list]; omega, fun h => ⟨(e4 h).1, by rw [sizeV_list]; have := (e4 h).2; omega⟩⟩
      rw [if_neg h6]
      by_cases h7 : t.kind = 7
      · rw [if_pos h7, show (ByteArray.mk #[40]) = bs [40] from rfl, must_eq, bnd_eq, show (ByteArray.mk #[41]) = bs [41] from rfl]
        dsimp only
        obtain ⟨l', s', b', e1, e2, e3, e4⟩ := loop 40 41 (.inr h7)
        rw [e1, bnd_eq]
        exact ⟨_, _, _, rfl, e2, by rw [sizeV_list]; omega, fun h => ⟨(e4 h).1, by rw [sizeV_list]; have := (e4 h).2; omega⟩⟩
      exfalso
      have := hV.sh
      unfold shp at this
      by_cases hx : t.kind < 1 ∨ 7 < t.kind
      · rw [if_pos hx] at this; cases this
      · omega

end Go.Proofs.YtpmoopnkoknbeaaGreatDoor
namespace Go.Proofs.YtpmoopnkoknbeaaGreatDoor
open Go Go.PX Go.SX Go.SX.Cal
set_option linter.unusedVariables false
set_option linter.unusedSimpArgs false

/-- what follows a value -/
def endOk (r : List UInt8) : Prop := ∀ b, r.head? = some b → b = 44 ∨ b = 93 ∨ b = 41

theorem endOk_nil : endOk [] := by intro b h; cases h
theorem endOk_cons {b : UInt8} {r : List UInt8} (h : b = 44 ∨ b = 93 ∨ b = 41) : endOk (b :: r) := by
  intro c hc; simp at hc; subst hc; exact h

theorem tw {p : UInt8 → Bool} {l r : List UInt8} (h : ∀ x ∈ l, p x = true) (h2 : ∀ b, r.head? = some b → p b = false) : (l ++ r).takeWhile p = l ∧ (l ++ r).dropWhile p = r := by
  induction l with
  | nil =>
    cases r with
    | nil => exact ⟨rfl, rfl⟩
    | cons b r => have := h2 b rfl; simp [this]
  | cons x l ih =>
    have h3 := h x (List.mem_cons_self ..)
    have := ih (fun y hy => h y (List.mem_cons_of_mem _ hy))
    simp [h3, this]

theorem d10_eq (b : UInt8) : D10.contains b = isD b := by
  have h : ((List.range 256).all fun n => D10.contains (UInt8.ofNat n) == isD (UInt8.ofNat n)) = true := by decide +kernel
  have h2 := List.all_eq_true.1 h b.toNat (List.mem_range.2 (UInt8.toNat_lt b))
  rw [UInt8.ofNat_toNat] at h2
  exact beq_iff_eq.1 h2

theorem d11_eq (b : UInt8) : D11.contains b = (b == 45 || isD b) := by
  rw [← d10_eq]; rfl

theorem end_d11 {r : List UInt8} (h : endOk r) : ∀ b, r.head? = some b → D11.contains b = false := by
  intro b hb
  rcases h b hb with rfl | rfl | rfl <;> decide

theorem all_d10 {l : List UInt8} (h : l.all isD = true) : ∀ x ∈ l, D10.contains x = true := by
  intro x hx; rw [d10_eq]; exact List.all_eq_true.1 h x hx
theorem all_d11 {l : List UInt8} (h : l.all isD = true) : ∀ x ∈ l, D11.contains x = true := by
  intro x hx; rw [d11_eq, List.all_eq_true.1 h x hx, Bool.or_true]
theorem sg_d11 {l : List UInt8} (n : Int) (h : l.all isD = true) : ∀ x ∈ sg n l, D11.contains x = true := by
  unfold sg
  split
  · intro x hx
    rcases List.mem_cons.1 hx with rfl | hx
    · decide
    · exact all_d11 h x hx
  · exact all_d11 h

theorem sg_app (n : Int) (l r : List UInt8) : sg n l ++ r = sg n (l ++ r) := by unfold sg; split <;> rfl

theorem all_app {l r : List UInt8} (h : (l ++ r).all isD = true) : l.all isD = true ∧ r.all isD = true := by
  rw [List.all_append, Bool.and_eq_true] at h; exact h

theorem atoiR_sg {n : Int} {l : List UInt8} (hd : l.all isD = true) (h0 : l ≠ []) (hn : num 0 l = n.natAbs) (h : n.natAbs < 9223372036854775808) : atoiR (sg n l) = (n, false) := by
  unfold atoiR
  rw [atoi_sg hd h0 hn h]

theorem pre_cons_ne {a b : UInt8} (p r : List UInt8) (h : a ≠ b) : pre (a :: p) (b :: r) = false := by simp [pre, h]

theorem moc_two (n : Int) (h0 : 0 ≤ n) (h : n ≤ 99) (e : UInt8) (he : isD e = false) (r : List UInt8) : st e (two n ++ e :: r) false = (n, r, false) := by
  obtain ⟨h1, h2, h3⟩ := pad_spec 2 n.natAbs
  obtain ⟨t1, t2⟩ := tw (l := two n) (r := e :: r) (all_d10 h1) (fun b hb => by simp at hb; subst hb; rw [d10_eq]; exact he)
  unfold st
  show ((atoiR ((two n ++ e :: r).takeWhile (D10.contains ·))).1, off [e] ((two n ++ e :: r).dropWhile (D10.contains ·)), (false || (atoiR ((two n ++ e :: r).takeWhile (D10.contains ·))).2) || !pre [e] ((two n ++ e :: r).dropWhile (D10.contains ·))) = _
  rw [t1, t2]
  have hz : atoiR (two n) = (n, false) := by
    have := atoiR_sg (n := n) h1 h3 h2 (by omega)
    unfold sg at this
    rw [if_neg (by omega)] at this
    exact this
  rw [hz, show off [e] (e :: r) = r from off_app [e] r, show pre [e] (e :: r) = true from pre_app [e] r]
  rfl

theorem moc_four (n : Int) (h0 : 0 ≤ n) (h : n ≤ 9999) (e : UInt8) (he : isD e = false) (r : List UInt8) : st e (pad 4 n.natAbs ++ e :: r) false = (n, r, false) := by
  obtain ⟨h1, h2, h3⟩ := pad_spec 4 n.natAbs
  obtain ⟨t1, t2⟩ := tw (l := pad 4 n.natAbs) (r := e :: r) (all_d10 h1) (fun b hb => by simp at hb; subst hb; rw [d10_eq]; exact he)
  unfold st
  show ((atoiR ((pad 4 n.natAbs ++ e :: r).takeWhile (D10.contains ·))).1, off [e] ((pad 4 n.natAbs ++ e :: r).dropWhile (D10.contains ·)), (false || (atoiR ((pad 4 n.natAbs ++ e :: r).takeWhile (D10.contains ·))).2) || !pre [e] ((pad 4 n.natAbs ++ e :: r).dropWhile (D10.contains ·))) = _
  rw [t1, t2]
  have hz : atoiR (pad 4 n.natAbs) = (n, false) := by
    have := atoiR_sg (n := n) h1 h3 h2 (by omega)
    unfold sg at this
    rw [if_neg (by omega)] at this
    exact this
  rw [hz, show off [e] (e :: r) = r from off_app [e] r, show pre [e] (e :: r) = true from pre_app [e] r]
  rfl

theorem moment_ok {c : GCivil} (hc : Tm.chk c) (r : List UInt8) (hl : (moc c ++ r).length ≤ 1000000000) : value_reader_moment ⟨bs (moc c ++ r), false⟩ = some (Tm.sec c, ⟨bs r, false⟩) := by
  obtain ⟨a1, a2, b1, b2, c1, c2, d1, d2, e1, e2, f1, f2⟩ := id hc
  have hdim := Tm.dim_bound c.year c.month
  rw [moment_eq _ _ hl _ _ _ _ _ _ rfl rfl rfl rfl rfl rfl]
  unfold moc
  simp only [List.append_assoc, List.cons_append, List.nil_append]
  rw [moc_four c.year (by omega) a2 45 (by decide)]
  dsimp only
  rw [moc_two c.month (by omega) (by omega) 45 (by decide)]
  dsimp only
  rw [moc_two c.day (by omega) (by omega) 84 (by decide)]
  dsimp only
  rw [moc_two c.hour (by omega) (by omega) 58 (by decide)]
  dsimp only
  rw [moc_two c.minute (by omega) (by omega) 58 (by decide)]
  dsimp only
  rw [moc_two c.second (by omega) (by omega) 90 (by decide)]
  unfold mom6
  rw [if_pos hc]

/-- the first byte of a text -/
theorem dig_head {l : List UInt8} (h : l.all isD = true) (h0 : l ≠ []) (n : Int) (r : List UInt8) : ∃ b u, sg n l ++ r = b :: u ∧ (b = 45 ∨ isD b = true) := by
  unfold sg
  split
  · exact ⟨45, l ++ r, rfl, .inl rfl⟩
  · match l, h0 with
    | b :: l, _ =>
      simp only [List.all_cons, Bool.and_eq_true] at h
      exact ⟨b, l ++ r, rfl, .inr h.1⟩

theorem dcm_split {n sc : Int} (h3 : 0 ≤ sc) : ∃ p q, dcm n sc = sg n (p ++ 46 :: q) ∧ p.all isD = true ∧ q.all isD = true ∧ p ≠ [] ∧ num 0 (p ++ q) = n.natAbs ∧ (p ++ q).length = (pad (sc.toNat + 1) n.natAbs).length ∧ q.length = sc.toNat ∧ p ++ q = pad (sc.toNat + 1) n.natAbs := by
  obtain ⟨h1, h2, _⟩ := pad_spec (sc.toNat + 1) n.natAbs
  have hg := pad_len_ge (sc.toNat + 1) n.natAbs
  generalize hp : pad (sc.toNat + 1) n.natAbs = w at *
  have ha := List.take_append_drop (w.length - sc.toNat) w
  rw [← ha] at h1
  obtain ⟨i1, i2⟩ := all_app h1
  refine ⟨w.take (w.length - sc.toNat), w.drop (w.length - sc.toNat), ?_, i1, i2, ?_, by rw [ha, h2], by rw [ha], by simp; omega, ha⟩
  · unfold dcm; rw [hp]
  · intro h
    have := congrArg List.length h
    rw [List.length_take, List.length_nil] at this
    omega

theorem T_head {d : Nat} {v : GValue} (h : Snd (d + 1) v) (r : List UInt8) : ∃ b u, T v ++ r = b :: u ∧ b ≠ 93 ∧ b ≠ 41 ∧ b ≠ 44 ∧ (v.kind ≠ 0 → b ≠ 110) := by
  obtain ⟨hp, _⟩ := h.succ
  have hl := leafy hp
  have hdig : ∀ b : UInt8, b = 45 ∨ isD b = true → b ≠ 93 ∧ b ≠ 41 ∧ b ≠ 44 ∧ (v.kind ≠ 0 → b ≠ 110) := by
    rintro b (rfl | h)
    · exact ⟨by decide, by decide, by decide, fun _ => by decide⟩
    · refine ⟨?_, ?_, ?_, fun _ => ?_⟩ <;> rintro rfl <;> cases h
  rw [T_eq]
  split
  · exact ⟨110, _, rfl, by decide, by decide, by decide, fun h => absurd ‹_› h⟩
  · split
    · split
      · exact ⟨116, _, rfl, by decide, by decide, by decide, fun _ => by decide⟩
      · exact ⟨102, _, rfl, by decide, by decide, by decide, fun _ => by decide⟩
    · split
      · obtain ⟨a, b, c⟩ := decDigits_spec v.n.natAbs
        obtain ⟨b, u, e, hb⟩ := dig_head a c v.n r
        exact ⟨b, u, e, hdig b hb⟩
      · split
        · obtain ⟨p, q, e1, e2, e3, e4, _⟩ := dcm_split (n := v.n) (hl.sc ‹_›).1
          obtain ⟨b, u, e, hb⟩ := dig_head e2 e4 v.n (46 :: q ++ r)
          refine ⟨b, u, ?_, hdig b hb⟩
          rw [e1, ← e, ← sg_app]; simp
        · split
          · exact ⟨39, _, rfl, by decide, by decide, by decide, fun _ => by decide⟩
          · split
            · obtain ⟨a, _, c⟩ := pad_spec 4 (Tm.civ v.n).year.natAbs
              unfold moc
              match hm : pad 4 (Tm.civ v.n).year.natAbs, c with
              | b :: l, _ =>
                rw [hm] at a
                simp only [List.all_cons, Bool.and_eq_true] at a
                exact ⟨b, _, rfl, hdig b (.inr a.1)⟩
            · split
              · exact ⟨91, _, rfl, by decide, by decide, by decide, fun _ => by decide⟩
              · exact ⟨40, _, rfl, by decide, by decide, by decide, fun _ => by decide⟩

end Go.Proofs.YtpmoopnkoknbeaaGreatDoor
namespace Go.Proofs.YtpmoopnkoknbeaaGreatDoor
open Go Go.PX Go.SX Go.SX.Cal
set_option linter.unusedVariables false
set_option linter.unusedSimpArgs false

theorem of_parts {d : Nat} {t : GType} {v : GValue} (h : ofD (d + 1) t v = true) (h0 : v.kind ≠ 0) : v.kind = t.kind ∧ (v.kind = 3 → v.scale = t.scale) ∧ (v.kind = 7 → t.fields.length = v.items.length) := by
  simp only [ofD] at h
  rw [if_neg h0] at h
  by_cases hk : v.kind = t.kind
  · rw [if_neg (fun hh => hh hk)] at h
    refine ⟨hk, fun h3 => ?_, fun h7 => ?_⟩
    · rw [if_pos h3] at h; exact beq_iff_eq.1 h
    · rw [if_neg (by omega)] at h
      by_cases hl : v.kind = 7 ∧ t.fields.length ≠ v.items.length
      · rw [if_pos hl] at h; cases h
      · by_cases hx : t.fields.length = v.items.length
        · exact hx
        · exact absurd ⟨h7, hx⟩ hl
  · rw [if_pos hk] at h; cases h

theorem v_eq {v : GValue} {k n sc : Int} {s : ByteArray} {l : List GValue} (h1 : v.kind = k) (h2 : v.n = n) (h3 : v.scale = sc) (h4 : v.s = s) (h5 : v.items = l) : GValue.mk k n sc s l = v := by
  obtain ⟨a, b, c, d, e⟩ := v
  simp only at h1 h2 h3 h4 h5
  subst h1 h2 h3 h4 h5
  rfl

theorem ba_nil {s : ByteArray} (h : s.size = 0) : s = ByteArray.empty := by
  apply PX.ba_ext
  have : s.data.toList.length = 0 := by simpa using h
  rw [List.length_eq_zero_iff.1 this]
  rfl

/-- the rest of a list or record, from item i on -/
def W (v : GValue) (i : Nat) (e : UInt8) (r : List UInt8) : List UInt8 := (if i = 0 then TJ v.items else TR (v.items.drop i)) ++ e :: r

theorem W_end (v : GValue) (e : UInt8) (r : List UInt8) : W v v.items.length e r = e :: r := by
  unfold W
  by_cases h : v.items.length = 0
  · rw [if_pos h, List.length_eq_zero_iff.1 h]; rfl
  · rw [if_neg h, List.drop_length]; rfl

theorem W_step {v : GValue} {i : Nat} (h : i < v.items.length) (e : UInt8) (r : List UInt8) : W v i e r = (if i = 0 then [] else [44, 32]) ++ (T (iv v i) ++ W v (i + 1) e r) := by
  unfold W
  rw [if_neg (show ¬ i + 1 = 0 by omega)]
  have hd : v.items.drop i = iv v i :: v.items.drop (i + 1) := by rw [← iv_at h]; exact List.drop_eq_getElem_cons h
  by_cases h0 : i = 0
  · subst h0
    rw [List.drop_zero] at hd
    rw [if_pos rfl, if_pos rfl, hd, TJ]
    simp
  · rw [if_neg h0, if_neg h0, hd, TR]
    simp

theorem W_ok {v : GValue} {i : Nat} (h0 : i ≠ 0) {e : UInt8} (he : e = 93 ∨ e = 41) (r : List UInt8) : endOk (W v i e r) := by
  unfold W
  rw [if_neg h0]
  cases v.items.drop i with
  | nil => exact endOk_cons (.inr he)
  | cons x l => exact endOk_cons (.inl rfl)

theorem pre_ne {a b : UInt8} {u : List UInt8} (h : a ≠ b) : pre [a] (b :: u) = false := by simp [pre, h]

theorem items_ok {t : GType} {v : GValue} {d : Nat} (hV : V t) (hk : v.kind = t.kind) (hkk : t.kind = 6 ∨ t.kind = 7) (hlen : v.items.length ≤ 64) (h7 : v.kind = 7 → t.fields.length = v.items.length) (hfit : Fit t v)
    (hi : ∀ x ∈ v.items, Snd (d + 1) x) (q : GType → GReader → Option (GValue × GReader)) (e : UInt8) (he : e = 93 ∨ e = 41) (r : List UInt8) (N : Nat)
    (hq : ∀ i, i < v.items.length → ∀ r, endOk r → (T (iv v i) ++ r).length ≤ N → q (ft t i) ⟨bs (T (iv v i) ++ r), false⟩ = some (iv v i, ⟨bs r, false⟩)) :
    ∀ (m f i : Nat), i + m = v.items.length → m < f → (W v i e r).length ≤ N → value_reader_items_l1 q t (bs [e]) f (v.items.take i) (bs (W v i e r)) false = some (v.items, ⟨bs r, false⟩) := by
  intro m
  induction m with
  | zero =>
    intro f i hii hf _
    obtain ⟨f, rfl⟩ : ∃ g, f = g + 1 := ⟨f - 1, by omega⟩
    obtain rfl : i = v.items.length := by omega
    rw [value_reader_items_l1, ifte, if_pos (by simp), take_eq, bnd_eq, W_end, List.take_length]
    unfold value_reader_items_j1 value_reader_items_j4
    rw [show pre [e] (e :: r) = true from pre_app [e] r, show off [e] (e :: r) = r from off_app [e] r]
    rfl
  | succ m ih =>
    intro f i hii hf hN
    obtain ⟨f, rfl⟩ : ∃ g, f = g + 1 := ⟨f - 1, by omega⟩
    have hlt : i < v.items.length := by omega
    have hx := hi _ (iv_mem hlt)
    have hpre : pre [e] (W v i e r) = false := by
      rw [W_step hlt]
      by_cases h0 : i = 0
      · rw [if_pos h0, List.nil_append]
        obtain ⟨b, u, e1, e2, e3, e4, _⟩ := T_head hx (W v (i + 1) e r)
        rw [e1]
        refine pre_ne ?_
        rcases he with rfl | rfl
        · exact fun h => e2 h.symm
        · exact fun h => e3 h.symm
      · rw [if_neg h0]
        exact pre_ne (by rcases he with rfl | rfl <;> decide)
    have hoff : off [e] (W v i e r) = W v i e r := by unfold off; rw [hpre]; rfl
    have hlt7 : (v.items.take i).length = i := by rw [List.length_take]; omega
    have hlW := congrArg List.length (W_step hlt e r)
    rw [List.length_append] at hlW
    -- behind the comma
    have main : value_reader_items_j2 (value_reader_items_l1 q t (bs [e]) f) q t (v.items.take i) (bs (T (iv v i) ++ W v (i + 1) e r)) false = some (v.items, ⟨bs r, false⟩) := by
      have j3 : value_reader_items_j3 (value_reader_items_l1 q t (bs [e]) f) q t (v.items.take i) (bs (T (iv v i) ++ W v (i + 1) e r)) false false = some (v.items, ⟨bs r, false⟩) := by
        unfold value_reader_items_j3
        rw [ifte, if_neg (by simp), hlt7]
        obtain ⟨fd, f1, f2, f3, _⟩ := ft_at (hfit i hlt)
        have hfd : value_field t ((i : Nat) : Int) = some fd := by
          unfold value_field value_field_j1
          rw [ifte]
          by_cases h6 : t.kind = 6
          · rw [if_pos h6] at f2
            rw [if_pos (by simpa using h6), show at? t.fields (0 : Int) = some fd from at_some (i := 0) f2]; rfl
          · rw [if_neg h6] at f2
            rw [if_neg (by simpa using h6), at_some f2]; rfl
        rw [hfd, bnd_eq, f3, hq i hlt _ (W_ok (by omega) he r) (by omega), bnd_eq, grdp (by omega)]
        dsimp only
        rw [← iv_at hlt, ← List.take_succ_eq_append_getElem hlt]
        exact ih f (i + 1) (by omega) (by omega) (by rw [List.length_append] at hlW; omega)
      unfold value_reader_items_j2
      simp only [ifte, hlt7]
      have h64 : decide ((64 : Int) < ((i : Nat) : Int)) = false := by simp; omega
      rw [h64]
      by_cases hk7 : t.kind = 7
      · have := h7 (by omega)
        rw [if_pos (by simpa using hk7), if_neg (by simp; omega)]
        exact j3
      · rw [if_neg (by simpa using hk7)]
        exact j3
    rw [value_reader_items_l1, ifte, if_pos (by simp), take_eq, bnd_eq, hpre, hoff]
    unfold value_reader_items_j1
    dsimp only
    rw [ifte, if_pos (by simp), ifte, hlt7]
    by_cases h0 : i = 0
    · rw [if_neg (by simp [h0])]
      rw [show W v i e r = T (iv v i) ++ W v (i + 1) e r by rw [W_step hlt, if_pos h0, List.nil_append]]
      exact main
    · rw [if_pos (by simp; omega)]
      show bnd (value_reader_must (bs [44, 32]) _) _ = _
      rw [must_eq, bnd_eq, W_step hlt, if_neg h0, pre_app, off_app]
      exact main

theorem value_ok : ∀ (d : Nat) (t : GType) (v : GValue), Snd d v → V t → ofD d t v = true → ∀ (k : Nat), 2 * d ≤ k → ∀ r, endOk r → (T v ++ r).length ≤ 1000000000 →
    value_reader_value k t ⟨bs (T v ++ r), false⟩ = some (v, ⟨bs r, false⟩) := by
  intro d
  induction d with
  | zero => intro t v h; exact h.zero.elim
  | succ d ih =>
    intro t v h hV ho k hk r hr hN
    obtain ⟨k, rfl⟩ : ∃ g, k = g + 2 := ⟨k - 2, by omega⟩
    obtain ⟨hp, hi⟩ := h.succ
    have hl := leafy hp
    rw [value_reader_value, show (ByteArray.mk #[110, 117, 108, 108]) = bs [110, 117, 108, 108] from rfl, take_eq, bnd_eq]
    dsimp only
    simp only [ifte]
    by_cases h0 : v.kind = 0
    · have hT : T v = [110, 117, 108, 108] := by rw [T_eq, if_pos h0]
      rw [hT, pre_app, off_app, if_pos rfl]
      rw [v_eq h0 (hl.nn (.inl h0)) (plain_scale hp (by omega)) (ba_nil (hl.zero (by omega))) (plain_items hp (by omega) (by omega))]
    obtain ⟨o1, o2, o3⟩ := of_parts ho h0
    have hpre : pre [110, 117, 108, 108] (T v ++ r) = false := by
      obtain ⟨b, u, e1, _, _, _, e2⟩ := T_head h r
      rw [e1]
      exact pre_cons_ne _ _ (fun hh => e2 h0 hh.symm)
    have hoff : off [110, 117, 108, 108] (T v ++ r) = T v ++ r := by unfold off; rw [hpre]; rfl
    have hsc : v.scale = t.scale := by
      by_cases h3 : v.kind = 3
      · exact o2 h3
      · rw [plain_scale hp h3, hV.scale (by omega)]
    rw [hpre, hoff, if_neg (by simp)]
    unfold value_reader_value_j1
    simp only [beq_iff_eq, ← o1]
    by_cases h1 : v.kind = 1
    · have hz := ba_nil (hl.zero (by omega))
      have hit := plain_items hp (by omega) (by omega)
      rw [if_pos h1, show (ByteArray.mk #[116, 114, 117, 101]) = bs [116, 114, 117, 101] from rfl, take_eq, bnd_eq]
      dsimp only
      rcases hl.bool h1 with hn | hn
      · have hT : T v = [102, 97, 108, 115, 101] := by rw [T_eq, if_neg h0, if_pos h1, if_neg (by omega)]
        rw [hT, show pre [116, 114, 117, 101] ([102, 97, 108, 115, 101] ++ r) = false from pre_cons_ne _ _ (by decide), if_neg (by simp)]
        rw [show off [116, 114, 117, 101] ([102, 97, 108, 115, 101] ++ r) = [102, 97, 108, 115, 101] ++ r by unfold off; rw [show pre [116, 114, 117, 101] ([102, 97, 108, 115, 101] ++ r) = false from pre_cons_ne _ _ (by decide)]; rfl]
        rw [show (ByteArray.mk #[102, 97, 108, 115, 101]) = bs [102, 97, 108, 115, 101] from rfl, must_eq, bnd_eq, pre_app, off_app]
        rw [v_eq rfl hn hsc hz hit]; rfl
      · have hT : T v = [116, 114, 117, 101] := by rw [T_eq, if_neg h0, if_pos h1, if_pos hn]
        rw [hT, pre_app, off_app, if_pos rfl]
        rw [v_eq rfl hn hsc hz hit]
    rw [if_neg h1]
    by_cases h2 : v.kind = 2
    · have hz := ba_nil (hl.zero (by omega))
      have hit := plain_items hp (by omega) (by omega)
      have hnn := hl.num (.inl h2)
      have hT : T v = sg v.n (Lib.decDigits v.n.natAbs) := by rw [T_eq, if_neg h0, if_neg h1, if_pos h2]
      obtain ⟨a, b, c⟩ := decDigits_spec v.n.natAbs
      obtain ⟨t1, t2⟩ := tw (sg_d11 v.n a) (end_d11 hr)
      rw [if_pos h2, span11 _ _ hN, bnd_eq]
      dsimp only
      rw [hT] at hN ⊢
      rw [show spn D11 (sg v.n (Lib.decDigits v.n.natAbs) ++ r) = _ from t1, show drp D11 (sg v.n (Lib.decDigits v.n.natAbs) ++ r) = _ from t2]
      rw [List.length_append] at hN
      rw [number_eq _ _ _ (by omega), bnd_eq, atoiR_sg a c b (by omega)]
      rw [v_eq rfl rfl hsc hz hit]; rfl
    rw [if_neg h2]
    by_cases h3 : v.kind = 3
    · have hz := ba_nil (hl.zero (by omega))
      have hit := plain_items hp (by omega) (by omega)
      have hnn := hl.num (.inr h3)
      have hT : T v = dcm v.n v.scale := by rw [T_eq, if_neg h0, if_neg h1, if_neg h2, if_pos h3]
      obtain ⟨p, q, e1, e2, e3, e4, e5, e6, _⟩ := dcm_split (n := v.n) (hl.sc h3).1
      have hpl := pad_le (n := v.n) (by omega) (v.scale.toNat + 1) (by have := hl.sc h3; omega)
      have e6l := e6
      rw [List.length_append] at e6l
      have hTr : T v ++ r = sg v.n p ++ 46 :: (q ++ r) := by rw [hT, e1, ← sg_app]; simp
      obtain ⟨t1, t2⟩ := tw (r := 46 :: (q ++ r)) (sg_d11 v.n e2) (fun b hb => by simp at hb; subst hb; decide)
      obtain ⟨u1, u2⟩ := tw (l := q) (r := r) (all_d11 e3) (end_d11 hr)
      have hlen : (q ++ r).length ≤ 1000000000 := by rw [hTr] at hN; simp at hN ⊢; omega
      rw [if_pos h3, span11 _ _ hN, bnd_eq, hTr]
      dsimp only
      rw [show spn D11 (sg v.n p ++ 46 :: (q ++ r)) = _ from t1, show drp D11 (sg v.n p ++ 46 :: (q ++ r)) = _ from t2]
      rw [show (ByteArray.mk #[46]) = bs [46] from rfl, must_eq, bnd_eq]
      dsimp only
      rw [show off [46] (46 :: (q ++ r)) = q ++ r from off_app [46] _, show pre [46] (46 :: (q ++ r)) = true from pre_app [46] _]
      rw [span11 _ _ hlen, bnd_eq]
      dsimp only
      rw [show spn D11 (q ++ r) = q from u1, show drp D11 (q ++ r) = r from u2]
      have hsl := sg_len v.n p
      rw [bs_size, bs_size, grdp (by omega), bs_app, number_eq _ _ _ (by rw [List.length_append]; omega), bnd_eq, sg_app, atoiR_sg (by rw [List.all_append, e2, e3]; rfl) (by simp [e4]) e5 (by omega)]
      rw [v_eq rfl rfl hsc hz hit]; rfl
    rw [if_neg h3]
    by_cases h4 : v.kind = 4
    · have hit := plain_items hp (by omega) (by omega)
      have hT : T v = 39 :: (esc v.s.data.toList ++ [39]) := by rw [T_eq, if_neg h0, if_neg h1, if_neg h2, if_neg h3, if_pos h4]
      rw [if_pos h4, show (ByteArray.mk #[39]) = bs [39] from rfl, must_eq, bnd_eq]
      dsimp only
      have hTr : T v ++ r = [39] ++ (esc v.s.data.toList ++ 39 :: r) := by rw [hT]; simp
      rw [hTr] at hN ⊢
      rw [List.length_append] at hN
      rw [pre_app, off_app, quoted_eq _ _ (by omega), bnd_eq, quo_esc _ _ _ _ (fun hh => by rcases hr 39 hh with h | h | h <;> cases h)]
      dsimp only
      rw [List.nil_append, bs_eta]
      rw [v_eq rfl (hl.nn (.inr (.inl h4))) hsc rfl hit]; rfl
    rw [if_neg h4]
    by_cases h5 : v.kind = 5
    · have hz := ba_nil (hl.zero (by omega))
      have hit := plain_items hp (by omega) (by omega)
      have hm := hl.mom h5
      obtain ⟨c1, c2⟩ := civ_chk hm.1 hm.2
      have hT : T v = moc (Tm.civ v.n) := by rw [T_eq, if_neg h0, if_neg h1, if_neg h2, if_neg h3, if_neg h4, if_pos h5]
      rw [hT] at hN ⊢
      rw [if_pos h5, moment_ok c1 r hN, bnd_eq, c2]
      dsimp only
      rw [v_eq rfl rfl hsc hz hit]
    rw [if_neg h5]
    obtain ⟨hfit, hof⟩ := fit_of h hV ho
    have hz := ba_nil (hl.zero (by omega))
    have hn := hl.nn (by have := hl.kin; omega)
    have hlen : v.items.length ≤ 64 := by
      by_cases h6 : v.kind = 6
      · exact hl.lst h6
      · have := o3 (by have := hl.kin; omega)
        have := hV.wid; omega
    have loop : ∀ (o e : UInt8), (e = 93 ∨ e = 41) → T v = o :: (TJ v.items ++ [e]) → value_reader_items (k + 1) t (bs [e]) ⟨bs (off [o] (T v ++ r)), false || !pre [o] (T v ++ r)⟩ = some (v.items, ⟨bs r, false⟩) := by
      intro o e he hT
      have hTr : T v ++ r = [o] ++ W v 0 e r := by rw [hT]; unfold W; simp
      rw [hTr] at hN ⊢
      rw [List.length_append] at hN
      rw [pre_app, off_app, value_reader_items]
      dsimp only
      cases d with
      | zero =>
        have hnil : v.items = [] := by
          cases hv : v.items with
          | nil => rfl
          | cons x l => exact (hi x (by rw [hv]; exact List.mem_cons_self ..)).zero.elim
        have hW : W v 0 e r = e :: r := by have := W_end v e r; rw [hnil] at this; exact this
        rw [hW, big_val, value_reader_items_l1, ifte, if_pos (by simp)]
        show bnd (value_reader_take (bs [e]) ⟨bs (e :: r), false⟩) _ = _
        rw [take_eq, bnd_eq]
        unfold value_reader_items_j1 value_reader_items_j4
        rw [show pre [e] (e :: r) = true from pre_app [e] r, show off [e] (e :: r) = r from off_app [e] r, hnil]
        rfl
      | succ d =>
        have := items_ok hV o1 (by have := hl.kin; omega) hlen o3 hfit hi (value_reader_value k) e he r 1000000000 (fun i hlt r' hr' hn' => ih (ft t i) (iv v i) (hi _ (iv_mem hlt)) (by
            obtain ⟨fd, f1, _, f3, _⟩ := ft_at (hfit i hlt)
            rw [← f3]; exact hV.fs fd f1) (hof i hlt) k (by omega) r' hr' hn') v.items.length BIG 0 (by omega) (by rw [big_val]; omega) (by omega)
        rw [List.take_zero] at this
        exact this
    by_cases h6 : v.kind = 6
    · rw [if_pos h6, show (ByteArray.mk #[91]) = bs [91] from rfl, must_eq, bnd_eq, show (ByteArray.mk #[93]) = bs [93] from rfl]
      dsimp only
      rw [loop 91 93 (.inl rfl) (by rw [T_eq, if_neg h0, if_neg h1, if_neg h2, if_neg h3, if_neg h4, if_neg h5, if_pos h6]), bnd_eq]
      dsimp only
      rw [v_eq rfl hn hsc hz rfl]
    · have h7 : v.kind = 7 := by have := hl.kin; omega
      rw [if_neg h6, if_pos h7, show (ByteArray.mk #[40]) = bs [40] from rfl, must_eq, bnd_eq, show (ByteArray.mk #[41]) = bs [41] from rfl]
      dsimp only
      rw [loop 40 41 (.inr rfl) (by rw [T_eq, if_neg h0, if_neg h1, if_neg h2, if_neg h3, if_neg h4, if_neg h5, if_neg h6]), bnd_eq]
      dsimp only
      rw [v_eq rfl hn hsc hz rfl]

end Go.Proofs.YtpmoopnkoknbeaaGreatDoor
namespace Go.Proofs.YtpmoopnkoknbeaaGreatDoor
open Go Go.PX Go.SX Go.SX.Cal
set_option linter.unusedVariables false
set_option linter.unusedSimpArgs false

theorem getI (l : List UInt8) (i : Nat) (h : i < l.length) : (bs l).data.toList.getD (i : Int).toNat 0 = l[i] := by
  rw [show (i : Int).toNat = i by omega]; exact getD_at l i h

theorem beqI (a b : UInt8) : (((a.toNat : Nat) : Int) == ((b.toNat : Nat) : Int)) = (a == b) := by
  rw [Bool.eq_iff_iff]
  simp only [beq_iff_eq, ← UInt8.toNat_inj]
  omega

theorem upTo_in (s p : List UInt8) (rec1 : Int → Option ByteArray) (i : Nat) (hi : i < s.length) (hp : p.length ≤ 1000) : ∀ (m f j : Nat) (b : Bool), j + m = p.length → m < f →
    ref1_upTo_l2 rec1 (bs s) (bs p) (i : Int) f b (j : Int) = ref1_upTo_j2 rec1 (bs s) (i : Int) (b || (p.drop j).contains s[i]) := by
  intro m
  induction m with
  | zero =>
    intro f j b hj hf
    obtain ⟨f, rfl⟩ : ∃ g, f = g + 1 := ⟨f - 1, by omega⟩
    rw [ref1_upTo_l2, bs_size, ifte, if_neg (by simp; omega), List.drop_of_length_le (by omega)]
    simp
  | succ m ih =>
    intro f j b hj hf
    obtain ⟨f, rfl⟩ : ∃ g, f = g + 1 := ⟨f - 1, by omega⟩
    have hlt : j < p.length := by omega
    have hd : p.drop j = p[j] :: p.drop (j + 1) := List.drop_eq_getElem_cons hlt
    rw [ref1_upTo_l2, bs_size, ifte, if_pos (by simp; omega), ifte]
    unfold ref1_upTo_j1
    rw [w64 (by omega) (by omega)]
    cases b with
    | true =>
      rw [if_pos rfl]
      have := ih f (j + 1) true (by omega) (by omega)
      rw [Bool.true_or] at this ⊢
      exact this
    | false =>
      rw [if_neg (by simp), grdp (by omega), bs_size, grdp (by omega), bnd_eq, getI p j hlt, getI s i hi, beqI]
      have := ih f (j + 1) (p[j] == s[i]) (by omega) (by omega)
      rw [Bool.false_or, hd, List.contains_cons, show (s[i] == p[j]) = (p[j] == s[i]) by rw [Bool.eq_iff_iff, beq_iff_eq, beq_iff_eq]; exact eq_comm]
      exact this

theorem spn_cons_pos {p : List UInt8} {b : UInt8} {l : List UInt8} (h : p.contains b = true) : spn p (b :: l) = b :: spn p l := List.takeWhile_cons_of_pos h
theorem spn_cons_neg {p : List UInt8} {b : UInt8} {l : List UInt8} (h : p.contains b = false) : spn p (b :: l) = [] := List.takeWhile_cons_of_neg (by rw [h]; decide)

theorem upTo_out (s p : List UInt8) (hp : p.length ≤ 1000) (hs : s.length ≤ 1000000000) : ∀ (m f i : Nat), i + m = s.length → m < f →
    ref1_upTo_l1 (bs s) (bs p) f (i : Int) = some (bs (s.take i ++ spn p (s.drop i))) := by
  have hend : ∀ i : Nat, i ≤ s.length → ref1_upTo_j3 (bs s) (i : Int) = some (bs (s.take i)) := by
    intro i hi
    unfold ref1_upTo_j3
    rw [bs_size, grdp (by omega), bs_ext, show (i : Int).toNat = i by omega]
    simp
  intro m
  induction m with
  | zero =>
    intro f i hi hf
    obtain ⟨f, rfl⟩ : ∃ g, f = g + 1 := ⟨f - 1, by omega⟩
    rw [ref1_upTo_l1, bs_size, ifte, if_neg (by simp; omega), hend i (by omega), List.drop_of_length_le (by omega)]
    simp [spn]
  | succ m ih =>
    intro f i hi hf
    obtain ⟨f, rfl⟩ : ∃ g, f = g + 1 := ⟨f - 1, by omega⟩
    have hlt : i < s.length := by omega
    have hd : s.drop i = s[i] :: s.drop (i + 1) := List.drop_eq_getElem_cons hlt
    have h2 := upTo_in s p (ref1_upTo_l1 (bs s) (bs p) f) i hlt hp p.length BIG 0 false (by omega) (by rw [big_val]; omega)
    rw [ref1_upTo_l1, bs_size, ifte, if_pos (by simp; omega)]
    refine Eq.trans h2 ?_
    rw [Bool.false_or, List.drop_zero]
    unfold ref1_upTo_j2
    rw [ifte]
    cases hc : p.contains s[i] with
    | false =>
      rw [if_pos (by simp), hend i (by omega), hd, spn_cons_neg hc]
      simp
    | true =>
      rw [if_neg (by simp), w64 (by omega) (by omega)]
      refine Eq.trans (ih f (i + 1) (by omega) (by omega)) ?_
      rw [hd, spn_cons_pos hc, take_snoc hlt, List.append_assoc]
      rfl

theorem upTo_eq (s p : List UInt8) (hp : p.length ≤ 1000) (hs : s.length ≤ 1000000000) : ref1_upTo (bs s) (bs p) = some (bs (spn p s)) := by
  have := upTo_out s p hp hs s.length BIG 0 (by omega) (by rw [big_val]; omega)
  rw [List.take_zero, List.drop_zero, List.nil_append] at this
  unfold ref1_upTo
  exact this

/-- the number of few digits -/
def am (l : List UInt8) : Int × Bool := if l.length ≠ 0 ∧ l.length ≤ 18 ∧ l.all isD = true then ((num 0 l : Nat), true) else (0, false)

theorem spn_full {l : List UInt8} : (spn D10 l).length = l.length ↔ l.all isD = true := by
  induction l with
  | nil => simp [spn]
  | cons b l ih =>
    cases hc : D10.contains b with
    | false =>
      rw [spn_cons_neg hc]
      rw [d10_eq] at hc
      simp [hc]
    | true =>
      rw [spn_cons_pos hc]
      rw [d10_eq] at hc
      simp [hc, ih]

theorem num_take_lt {l : List UInt8} (h : l.all isD = true) (hl : l.length ≤ 18) (i : Nat) : num 0 (l.take i) < 1000000000000000000 := by
  have h1 : (l.take i).all isD = true := List.all_eq_true.2 (fun x hx => List.all_eq_true.1 h x (List.mem_of_mem_take hx))
  have h2 := num_lt (l.take i) 0 0 h1 (by decide)
  have h3 : (l.take i).length ≤ 18 := by simp; omega
  have h4 : 10 ^ (0 + (l.take i).length) ≤ 10 ^ 18 := Nat.pow_le_pow_right (by decide) (by omega)
  have h5 : (10 : Nat) ^ 18 = 1000000000000000000 := by decide
  omega

theorem u8w {x : Int} (h1 : 0 ≤ x) (h2 : x ≤ 255) : IntKind.u8.wrap x = x := by
  simp only [IntKind.wrap]
  first
    | (simp; omega)
    | (unfold IntKind.bits IntKind.signed; simp; omega)

theorem amount_loop (l : List UInt8) (hd : l.all isD = true) (hl : l.length ≤ 18) : ∀ (m f i : Nat), i + m = l.length → m < f →
    ref1_amount_l1 (bs l) f ((num 0 (l.take i) : Nat) : Int) (i : Int) = some (((num 0 l : Nat) : Int), true) := by
  intro m
  induction m with
  | zero =>
    intro f i hi hf
    obtain ⟨f, rfl⟩ : ∃ g, f = g + 1 := ⟨f - 1, by omega⟩
    rw [ref1_amount_l1, bs_size, ifte, if_neg (by simp; omega), List.take_of_length_le (by omega)]
    rfl
  | succ m ih =>
    intro f i hi hf
    obtain ⟨f, rfl⟩ : ∃ g, f = g + 1 := ⟨f - 1, by omega⟩
    have hlt : i < l.length := by omega
    have hb := (isD_iff _).1 (List.all_eq_true.1 hd _ (List.getElem_mem hlt))
    have n1 := num_take_lt hd hl i
    have n2 := num_take_lt hd hl (i + 1)
    have e : num 0 (l.take (i + 1)) = num 0 (l.take i) * 10 + (l[i].toNat - 48) := by
      rw [take_snoc hlt, num_append, num_cons, num_nil]
    rw [ref1_amount_l1, bs_size, ifte, if_pos (by simp; omega), grdp (by omega), bnd_eq, bnd_eq, getI l i hlt]
    rw [u8w (by omega) (by omega), w64 (x := (10 : Int) * _) (by omega) (by omega), w64 (x := ((l[i].toNat : Nat) : Int) - 48) (by omega) (by omega), w64 (by omega) (by omega), w64 (by omega) (by omega)]
    rw [show (10 : Int) * ((num 0 (l.take i) : Nat) : Int) + (((l[i].toNat : Nat) : Int) - 48) = ((num 0 (l.take (i + 1)) : Nat) : Int) by rw [e]; omega]
    exact ih f (i + 1) (by omega) (by omega)

theorem amount_eq (l : List UInt8) (hs : l.length ≤ 1000000000) : ref1_amount (bs l) = some (am l) := by
  unfold ref1_amount ref1_amount_j1 am
  simp only [ifte, bs_size]
  by_cases h0 : l.length = 0
  · rw [if_pos (by simp [h0]), if_pos trivial, if_neg (by omega)]
  rw [if_neg (by simp; intro h; rw [h] at h0; exact h0 rfl)]
  by_cases h18 : 18 < l.length
  · rw [if_pos (by simp; omega), if_pos trivial, if_neg (by omega)]
  rw [if_neg (by simp; omega), show (ByteArray.mk #[48, 49, 50, 51, 52, 53, 54, 55, 56, 57]) = bs D10 from rfl, upTo_eq _ _ (by decide) hs, bnd_eq, bs_size]
  by_cases hd : l.all isD = true
  · have := spn_full.2 hd
    rw [this, if_neg (by simp), if_pos ⟨h0, by omega, hd⟩]
    have := amount_loop l hd (by omega) l.length BIG 0 (by omega) (by rw [big_val]; omega)
    rw [List.take_zero] at this
    exact this
  · have : (spn D10 l).length ≠ l.length := fun h => hd (spn_full.1 h)
    rw [if_pos (by simp; omega), if_neg (fun h => hd h.2.2)]

/-- the number behind a possible sign -/
def sgd : List UInt8 → Int × Bool
  | [] => am []
  | b :: r => if b = 45 then (-(am r).1, (am r).2) else am (b :: r)

theorem am_bound (l : List UInt8) : 0 ≤ (am l).1 ∧ (am l).1 < 1000000000000000000 := by
  unfold am
  split
  · rename_i h
    have := num_take_lt h.2.2 h.2.1 l.length
    rw [List.take_length] at this
    constructor
    · show (0 : Int) ≤ ((num 0 l : Nat) : Int); omega
    · show ((num 0 l : Nat) : Int) < _; omega
  · exact ⟨Int.le_refl _, by decide⟩

theorem signed_eq (l : List UInt8) (hs : l.length ≤ 1000000000) : ref1_signed (bs l) = some (sgd l) := by
  unfold ref1_signed ref1_signed_j1
  simp only [ifte, bs_size]
  cases l with
  | nil =>
    rw [if_neg (by simp), if_neg (by simp), amount_eq [] (by simp), bnd_eq]; rfl
  | cons b r =>
    rw [if_pos (by simp), grdp (by simp), show (0 : Int).toNat = ((0 : Nat) : Int).toNat from rfl, getI (b :: r) 0 (by simp)]
    show (if (((b.toNat : Nat) : Int) == ((((45 : UInt8).toNat : Nat)) : Int)) = true then _ else _) = _
    rw [beqI]
    by_cases h : b = 45
    · subst h
      rw [if_pos (by decide), grdp (by rw [List.length_cons]; omega), bs_ext]
      have e : ((45 :: r).take (((45 :: r).length : Nat) : Int).toNat).drop (1 : Int).toNat = r := by simp
      rw [e, amount_eq r (by simp at hs; omega), bnd_eq]
      have := am_bound r
      rw [w64 (by omega) (by omega)]
      simp [sgd]
    · rw [if_neg (by simpa using h), amount_eq _ hs, bnd_eq]
      simp [sgd, h]

end Go.Proofs.YtpmoopnkoknbeaaGreatDoor
namespace Go.Proofs.YtpmoopnkoknbeaaGreatDoor
open Go Go.PX Go.SX Go.SX.Cal
set_option linter.unusedVariables false
set_option linter.unusedSimpArgs false

def rq : List UInt8 → List UInt8 → Option (List UInt8 × List UInt8)
  | acc, [] => none
  | acc, [b] => if b = 39 then some (acc, []) else none
  | acc, b :: c :: r => if b = 39 then (if c = 39 then rq (acc ++ [39]) r else some (acc, c :: r)) else rq (acc ++ [b]) (c :: r)

theorem rq_nil (acc : List UInt8) : rq acc [] = none := by simp [rq]
theorem rq_other {b : UInt8} (h : b ≠ 39) (acc r : List UInt8) : rq acc (b :: r) = rq (acc ++ [b]) r := by
  cases r with
  | nil => simp [rq, h]
  | cons c r => simp [rq, h]
theorem rq_two (acc r : List UInt8) : rq acc (39 :: 39 :: r) = rq (acc ++ [39]) r := by simp [rq]
theorem rq_end (acc r : List UInt8) (h : r.head? ≠ some 39) : rq acc (39 :: r) = some (acc, r) := by
  cases r with
  | nil => simp [rq]
  | cons c r => simp at h; simp [rq, h]

theorem rq_esc : ∀ (s acc rest : List UInt8), rest.head? ≠ some 39 → rq acc (esc s ++ 39 :: rest) = some (acc ++ s, rest)
  | [], acc, rest, h => by simp [esc, rq_end _ _ h]
  | b :: s, acc, rest, h => by
    by_cases hb : b = 39
    · subst hb
      simp only [esc, if_true, List.cons_append, rq_two]
      rw [rq_esc s _ rest h]; simp
    · simp only [esc, if_neg hb, List.cons_append]
      rw [rq_other hb, rq_esc s _ rest h]; simp

theorem rq_len : ∀ (n : Nat) (s acc : List UInt8), s.length ≤ n → ∀ a r, rq acc s = some (a, r) → a.length + r.length + 1 ≤ acc.length + s.length
  | 0, s, acc, h => by
    have : s = [] := List.length_eq_zero_iff.1 (by omega)
    subst this
    rw [rq_nil]; intro a r h; cases h
  | n + 1, s, acc, h => by
    match s with
    | [] => rw [rq_nil]; intro a r h; cases h
    | b :: r =>
      simp at h
      by_cases hb : b = 39
      · subst hb
        by_cases hr : r.head? = some 39
        · match r, hr with
          | c :: r, hr =>
            simp at hr; subst hr
            rw [rq_two]
            intro a u h2
            have := rq_len n r (acc ++ [39]) (by simp at h; omega) a u h2
            simp at this ⊢
            omega
        · rw [rq_end _ _ hr]
          intro a u h2
          simp at h2
          obtain ⟨rfl, rfl⟩ := h2
          simp; omega
      · rw [rq_other hb]
        intro a u h2
        have := rq_len n r (acc ++ [b]) h a u h2
        simp at this ⊢
        omega

abbrev nov : GValue := GValue.mk (0 : Int) (0 : Int) (0 : Int) ByteArray.empty []

def rqR (p1 : ByteArray) : Option (List UInt8 × List UInt8) → GValue × ByteArray × Bool
  | none => (nov, p1, false)
  | some (a, r) => (GValue.mk 4 0 0 (bs a) [], bs r, true)

theorem ext_from (l : List UInt8) (k : Nat) : (bs l).extract k ((l.length : Nat) : Int).toNat = bs (l.drop k) := by
  rw [bs_ext, Int.toNat_natCast, List.take_length]

theorem rquoted_loop (L : List UInt8) (hL : L.length ≤ 1000000000) : ∀ (m f i : Nat) (acc : List UInt8), L.length ≤ i + m → i ≤ L.length → m < f → acc.length ≤ i →
    ref1_quoted_l1 (bs L) f (bs acc) (i : Int) = some (rqR (bs L) (rq acc (L.drop i))) := by
  intro m
  induction m with
  | zero =>
    intro f i acc h1 h2 hf ha
    obtain ⟨f, rfl⟩ : ∃ g, f = g + 1 := ⟨f - 1, by omega⟩
    rw [ref1_quoted_l1, bs_size, ifte, if_neg (by simp; omega), List.drop_of_length_le (by omega), rq_nil]
    rfl
  | succ m ih =>
    intro f i acc h1 h2 hf ha
    obtain ⟨f, rfl⟩ : ∃ g, f = g + 1 := ⟨f - 1, by omega⟩
    rcases Nat.lt_or_ge i L.length with hlt | hge
    · have hd : L.drop i = L[i] :: L.drop (i + 1) := List.drop_eq_getElem_cons hlt
      have hw : IntKind.i64.wrap ((i : Int) + 1) = ((i + 1 : Nat) : Int) := by rw [w64 (by omega) (by omega)]; omega
      have hw3 : IntKind.i64.wrap (((i + 1 : Nat) : Int) + 1) = ((i + 2 : Nat) : Int) := by rw [w64 (by omega) (by omega)]; omega
      have hne : ((((L[i]).toNat : Nat) : Int) != (39 : Int)) = !(L[i] == 39) := by
        rw [← beqI]; rfl
      have hone : (bs L).extract (i : Int).toNat ((i + 1 : Nat) : Int).toNat = bs [L[i]] := by
        rw [bs_ext, show (i : Int).toNat = i by omega, show ((i + 1 : Nat) : Int).toNat = i + 1 by omega, take_snoc hlt, List.drop_left' (by simp; omega)]
      rw [ref1_quoted_l1]
      unfold ref1_quoted_j3 ref1_quoted_j2
      simp only [bs_size, hw, hw3]
      rw [ifte, if_pos (by simp; omega), grdp (by omega), ifte, getI L i hlt, hne, hd]
      by_cases hb : L[i] = 39
      · rw [if_neg (by simp [hb]), ifte, hb]
        by_cases hn : i + 1 < L.length
        · have hd2 : L.drop (i + 1) = L[i + 1] :: L.drop (i + 2) := List.drop_eq_getElem_cons hn
          rw [if_pos (by simp; omega), grdp (by omega), bnd_eq, getI L (i + 1) hn]
          rw [show ((((L[i + 1]).toNat : Nat) : Int) == (39 : Int)) = (L[i + 1] == 39) by rw [← beqI]; rfl]
          by_cases hc : L[i + 1] = 39
          · rw [ifte, if_pos (by simp [hc]), hd2, hc, rq_two]
            show grd (acc.length + 1 ≤ _) (ref1_quoted_l1 (bs L) f (bs acc ++ bs [39]) _) = _
            rw [grdp (by omega), bs_app]
            rw [hw3]
            exact ih f (i + 2) (acc ++ [39]) (by omega) (by omega) (by omega) (by simp; omega)
          · rw [ifte, if_neg (by simp [hc]), grdp (by omega), bnd_eq, show ((i + 1 : Nat) : Int).toNat = i + 1 by omega, ext_from, rq_end _ _ (by rw [hd2]; exact fun h => hc (Option.some.inj h))]
            rfl
        · rw [if_neg (by simp; omega), ifte, if_neg (by simp), grdp (by omega), bnd_eq, show ((i + 1 : Nat) : Int).toNat = i + 1 by omega, ext_from, rq_end _ _ (by rw [List.drop_of_length_le (by omega)]; simp)]
          rfl
      · rw [if_pos (by simp [hb]), grdp (by omega), hone, bs_size, grdp (by simp; omega), bnd_eq, bs_app, rq_other hb]
        exact ih f (i + 1) (acc ++ [L[i]]) (by omega) (by omega) (by omega) (by simp; omega)
    · rw [ref1_quoted_l1, bs_size, ifte, if_neg (by simp; omega), List.drop_of_length_le (by omega), rq_nil]
      rfl

def rquo : List UInt8 → GValue × ByteArray × Bool
  | [] => (nov, bs [], false)
  | b :: r => if b = 39 then rqR (bs (b :: r)) (rq [] r) else (nov, bs (b :: r), false)

theorem rquoted_eq (L : List UInt8) (hL : L.length ≤ 1000000000) : ref1_quoted (bs L) = some (rquo L) := by
  unfold ref1_quoted ref1_quoted_j1
  simp only [ifte, bs_size]
  cases L with
  | nil => rfl
  | cons b r =>
    rw [if_neg (by simp; omega), grdp (by simp), show (0 : Int).toNat = ((0 : Nat) : Int).toNat from rfl, getI (b :: r) 0 (by simp)]
    rw [show (((((b :: r)[0]).toNat : Nat) : Int) != (39 : Int)) = !(b == 39) by rw [← beqI]; rfl]
    by_cases hb : b = 39
    · rw [if_neg (by simp [hb]), show rquo (b :: r) = rqR (bs (b :: r)) (rq [] r) from if_pos hb]
      have := rquoted_loop (b :: r) hL (b :: r).length BIG 1 [] (by omega) (by simp) (by rw [big_val]; omega) (by simp)
      rw [List.drop_succ_cons, List.drop_zero] at this
      exact this
    · rw [if_pos (by simp [hb]), show rquo (b :: r) = (nov, bs (b :: r), false) from if_neg hb]

/-! decimals -/

theorem strip_eq (p1 : GType) (p2 r4 : ByteArray) : ∀ (n f : Nat) (l : List UInt8), l.length ≤ n → l.length ≤ 1000000000 → n < f → ∃ l', ref1_begin_l2 p1 p2 r4 f (bs l) = ref1_begin_j6 p1 p2 r4 (bs l') ∧ l'.length ≤ l.length ∧ ((l.length ≤ 18 ∨ ∃ c r, l = 45 :: c :: r ∧ c ≠ 48) → l' = l) := by
  intro n
  induction n with
  | zero =>
    intro f l hl _ hf
    obtain ⟨f, rfl⟩ : ∃ g, f = g + 1 := ⟨f - 1, by omega⟩
    refine ⟨l, ?_, Nat.le_refl _, fun _ => rfl⟩
    rw [ref1_begin_l2, bs_size, ifte, if_neg (by simp; omega)]
    unfold ref1_begin_j5
    rw [ifte, if_neg (by simp)]
  | succ n ih =>
    intro f l hl hb hf
    obtain ⟨f, rfl⟩ : ∃ g, f = g + 1 := ⟨f - 1, by omega⟩
    rw [ref1_begin_l2, bs_size, ifte]
    by_cases h18 : 18 < l.length
    · obtain ⟨b, c, r, rfl⟩ : ∃ b c r, l = b :: c :: r := by
        match l, h18 with
        | b :: c :: r, _ => exact ⟨b, c, r, rfl⟩
        | [_], h => simp at h
        | [], h => simp at h
      simp only [List.length_cons] at hl hb h18
      rw [if_pos (by simp; omega), grdp (by simp; omega), ifte, show (0 : Int).toNat = ((0 : Nat) : Int).toNat from rfl, getI _ 0 (by simp)]
      rw [show (((((b :: c :: r)[0]).toNat : Nat) : Int) == (48 : Int)) = (b == 48) by rw [← beqI]; rfl]
      have hstop : ref1_begin_j5 (ref1_begin_l2 p1 p2 r4 f) p1 p2 r4 (bs (b :: c :: r)) false = ref1_begin_j6 p1 p2 r4 (bs (b :: c :: r)) := by
        unfold ref1_begin_j5
        rw [ifte, if_neg (by simp)]
      by_cases h48 : b = 48
      · subst h48
        rw [if_pos (by decide)]
        unfold ref1_begin_j5
        rw [ifte, if_pos rfl, bs_size, grdp (by simp; omega), ifte, show (0 : Int).toNat = ((0 : Nat) : Int).toNat from rfl, getI _ 0 (by simp)]
        rw [if_neg (by show ¬ ((((48 : UInt8).toNat : Nat) : Int) == (45 : Int)) = true; decide), grdp (by simp; omega), show (1 : Int).toNat = 1 from rfl, ext_from, List.drop_succ_cons, List.drop_zero]
        obtain ⟨l', g1, g2, g3⟩ := ih f (c :: r) (by simp; omega) (by simp; omega) (by omega)
        refine ⟨l', g1, by simp at g2 ⊢; omega, fun hh => ?_⟩
        rcases hh with hh | ⟨_, _, hh, _⟩
        · simp at hh; omega
        · simp at hh
      · rw [if_neg (by simpa using h48), grdp (by simp; omega), ifte]
        rw [show (((((b :: c :: r)[0]).toNat : Nat) : Int) == (45 : Int)) = (b == 45) by rw [← beqI]; rfl]
        by_cases h45 : b = 45
        · subst h45
          rw [if_pos (by decide), grdp (by simp; omega), show (1 : Int).toNat = ((1 : Nat) : Int).toNat from rfl, getI _ 1 (by simp)]
          rw [show (((((45 :: c :: r)[1]).toNat : Nat) : Int) == (48 : Int)) = (c == 48) by rw [← beqI]; rfl]
          by_cases hc : c = 48
          · subst hc
            rw [show ((48 : UInt8) == 48) = true by decide]
            unfold ref1_begin_j5
            rw [ifte, if_pos rfl, bs_size, grdp (by simp; omega), ifte, show (0 : Int).toNat = ((0 : Nat) : Int).toNat from rfl, getI _ 0 (by simp)]
            rw [if_pos (by show ((((45 : UInt8).toNat : Nat) : Int) == (45 : Int)) = true; decide), grdp (by simp; omega), show (2 : Int).toNat = 2 from rfl, ext_from, List.drop_succ_cons, List.drop_succ_cons, List.drop_zero]
            show ∃ l', grd ((bs [45]).size + (bs r).size ≤ _) (bnd (some (bs [45] ++ bs r)) fun y3 => ref1_begin_l2 p1 p2 r4 f y3) = _ ∧ _
            rw [bs_size, bs_size, grdp (by simp; omega), bnd_eq, bs_app]
            obtain ⟨l', g1, g2, g3⟩ := ih f ([45] ++ r) (by simp; omega) (by simp; omega) (by omega)
            refine ⟨l', g1, by simp at g2 ⊢; omega, fun hh => ?_⟩
            rcases hh with hh | ⟨_, _, hh, hne⟩
            · simp at hh; omega
            · simp at hh; exact absurd hh.1.symm hne
          · rw [show (c == 48) = false by simpa using hc, hstop]
            exact ⟨_, rfl, Nat.le_refl _, fun _ => rfl⟩
        · rw [if_neg (by simpa using h45), hstop]
          exact ⟨_, rfl, Nat.le_refl _, fun _ => rfl⟩
    · refine ⟨l, ?_, Nat.le_refl _, fun _ => rfl⟩
      rw [if_neg (by simp; omega)]
      unfold ref1_begin_j5
      rw [ifte, if_neg (by simp)]

abbrev nop (l : List UInt8) : List UInt8 := l.filter (· != 46)

theorem points_eq (p1 : GType) (p2 : ByteArray) (w : List UInt8) (hw : w.length ≤ 1000000000) : ∀ (m f i : Nat), i + m = w.length → m < f →
    ref1_begin_l1 p1 p2 (bs w) f (bs (nop (w.take i))) (i : Int) = ref1_begin_l2 p1 p2 (bs w) BIG (bs (nop w)) := by
  intro m
  induction m with
  | zero =>
    intro f i hi hf
    obtain ⟨f, rfl⟩ : ∃ g, f = g + 1 := ⟨f - 1, by omega⟩
    rw [ref1_begin_l1, bs_size, ifte, if_neg (by simp; omega), List.take_of_length_le (by omega)]
    rfl
  | succ m ih =>
    intro f i hi hf
    obtain ⟨f, rfl⟩ : ∃ g, f = g + 1 := ⟨f - 1, by omega⟩
    have hlt : i < w.length := by omega
    have hw1 : IntKind.i64.wrap ((i : Int) + 1) = ((i + 1 : Nat) : Int) := by rw [w64 (by omega) (by omega)]; omega
    have hone : (bs w).extract (i : Int).toNat ((i + 1 : Nat) : Int).toNat = bs [w[i]] := by
      rw [bs_ext, show (i : Int).toNat = i by omega, show ((i + 1 : Nat) : Int).toNat = i + 1 by omega, take_snoc hlt, List.drop_left' (by simp; omega)]
    have hfl : (nop (w.take i)).length ≤ i := Nat.le_trans (List.length_filter_le _ _) (by simp; omega)
    rw [ref1_begin_l1, bs_size, ifte, if_pos (by simp; omega), grdp (by omega), ifte, getI w i hlt, hw1]
    rw [show ((((w[i]).toNat : Nat) : Int) != (46 : Int)) = (w[i] != 46) by show (!_) = (!_); rw [← beqI]; rfl]
    unfold ref1_begin_j3
    rw [hw1]
    have := ih f (i + 1) (by omega) (by omega)
    rw [take_snoc hlt, show nop (w.take i ++ [w[i]]) = nop (w.take i) ++ nop [w[i]] from List.filter_append ..] at this
    by_cases hc : w[i] = 46
    · rw [if_neg (by simp [hc])]
      rw [show nop [w[i]] = [] by simp [nop, hc], List.append_nil] at this
      exact this
    · rw [if_pos (by simp [hc]), grdp (by omega), hone, bs_size, bs_size, grdp (by simp at hfl ⊢; omega), bnd_eq, bs_app]
      rw [show nop [w[i]] = [w[i]] by simp [nop, hc]] at this
      exact this

end Go.Proofs.YtpmoopnkoknbeaaGreatDoor
namespace Go.Proofs.YtpmoopnkoknbeaaGreatDoor
open Go Go.PX Go.SX Go.SX.Cal
set_option linter.unusedVariables false
set_option linter.unusedSimpArgs false

abbrev NUL : List UInt8 := [110, 117, 108, 108]

structure Rr (s : List UInt8) (v : GValue) (s' : List UInt8) (ok : Bool) : Prop where
  le : s'.length ≤ s.length
  sz : ok = true → sizeV v + s'.length ≤ s.length + 1

theorem nul_eq (s : List UInt8) {β : Type} (F : Bool → Option β) :
    (ift (decide ((4 : Int) ≤ ((bs s).size : Int)))
      (grd (0 ≤ (0 : Int) ∧ (0 : Int) ≤ (4 : Int) ∧ (4 : Int) ≤ ((bs s).size : Int)) <|
       bnd (some (((bs s).extract (0 : Int).toNat (4 : Int).toNat).toList == (ByteArray.mk #[110, 117, 108, 108]).toList)) fun y1 => F y1)
      (F false)) = F (pre NUL s) := by
  rw [bs_size, ifte]
  by_cases h : 4 ≤ s.length
  · rw [if_pos (by simp; omega), grdp (by omega), bnd_eq, bs_ext, show (ByteArray.mk #[110, 117, 108, 108]) = bs NUL from rfl, bs_eq]
    congr 1
    rw [Bool.eq_iff_iff, pre_take]
    simp [h]
  · rw [if_neg (by simp; omega)]
    congr 1
    rw [eq_comm, Bool.eq_false_iff]
    intro h2
    exact h ((pre_take _ _).1 h2).1

theorem begin_nul (t : GType) (s : List UInt8) : ref1_begin t (bs s) = ref1_begin_j1 t (bs s) (pre NUL s) := nul_eq s (fun y => ref1_begin_j1 t (bs s) y)

theorem begin_true (t : GType) (s : List UInt8) (h : pre NUL s = true) : ref1_begin_j1 t (bs s) true = some (nov, bs (off NUL s), true) := by
  have := ((pre_take _ _).1 h).1
  simp only [List.length_cons, List.length_nil] at this
  unfold ref1_begin_j1
  rw [ifte, if_pos rfl, bs_size, grdp (by omega), show (4 : Int).toNat = 4 from rfl, ext_from]
  unfold off
  rw [if_pos h]
  rfl

theorem drop_spn (p s : List UInt8) : s.drop (spn p s).length = drp p s := by
  have h := spn_drp p s
  have h2 : (spn p s ++ drp p s).drop (spn p s).length = drp p s := List.drop_left' rfl
  rw [h] at h2
  exact h2

theorem ext_spn (p s : List UInt8) : (bs s).extract (((spn p s).length : Nat) : Int).toNat ((s.length : Nat) : Int).toNat = bs (drp p s) := by
  rw [Int.toNat_natCast, ext_from, drop_spn]

abbrev DB : List UInt8 := [116, 114, 117, 101, 102, 97, 108, 115]
abbrev D12 : List UInt8 := [45, 48, 49, 50, 51, 52, 53, 54, 55, 56, 57, 46]
abbrev D14 : List UInt8 := [48, 49, 50, 51, 52, 53, 54, 55, 56, 57, 45, 84, 58, 90]

theorem begin_j2 (s : List UInt8) (x : Int) (p : List UInt8) (hs : s.length ≤ 1000000000) : ref1_begin_j2 (bs s) (bs (spn p s)) x = some (GValue.mk 1 x 0 ByteArray.empty [], bs (drp p s), true) := by
  have h := spn_len p s
  unfold ref1_begin_j2
  rw [bs_size, bs_size, grdp (by omega), ext_spn]

theorem begin_bool {t : GType} (h : t.kind = 1) (s : List UInt8) (hs : s.length ≤ 1000000000) : ref1_begin_j1 t (bs s) false = some (GValue.mk 1 (if spn DB s = [116, 114, 117, 101] then 1 else 0) 0 ByteArray.empty [], bs (drp DB s), true) := by
  unfold ref1_begin_j1
  simp only [ifte, beq_iff_eq, h]
  rw [if_neg (by simp), if_pos trivial, show (ByteArray.mk #[116, 114, 117, 101, 102, 97, 108, 115]) = bs DB from rfl, upTo_eq _ _ (by decide) hs, bnd_eq, begin_j2 s 1 DB hs, begin_j2 s 0 DB hs]
  have e : (bs (spn DB s)).toList = (ByteArray.mk #[116, 114, 117, 101]).toList ↔ spn DB s = [116, 114, 117, 101] := by
    rw [show (ByteArray.mk #[116, 114, 117, 101]) = bs [116, 114, 117, 101] from rfl, bs_toList, bs_toList]
  by_cases hx : spn DB s = [116, 114, 117, 101]
  · rw [if_pos (e.2 hx), if_pos hx]
  · rw [if_neg (fun h => hx (e.1 h)), if_neg hx]

theorem begin_int {t : GType} (h : t.kind = 2) (s : List UInt8) (hs : s.length ≤ 1000000000) : ref1_begin_j1 t (bs s) false = some (GValue.mk 2 (sgd (spn D11 s)).1 0 ByteArray.empty [], bs (drp D11 s), (sgd (spn D11 s)).2) := by
  have hl := spn_len D11 s
  unfold ref1_begin_j1
  simp only [ifte, beq_iff_eq, h]
  rw [if_neg (by simp), if_neg (by decide), if_pos trivial, show (ByteArray.mk #[45, 48, 49, 50, 51, 52, 53, 54, 55, 56, 57]) = bs D11 from rfl, upTo_eq _ _ (by decide) hs, bnd_eq, signed_eq _ (by omega), bnd_eq, bs_size, bs_size, grdp (by omega), ext_spn]

theorem begin_dec {t : GType} (h : t.kind = 3) (s : List UInt8) (hs : s.length ≤ 1000000000) : ∃ l', ref1_begin_j1 t (bs s) false = some (GValue.mk 3 (sgd l').1 t.scale ByteArray.empty [], bs (drp D12 s), (sgd l').2) ∧
    (((nop (spn D12 s)).length ≤ 18 ∨ ∃ c r, nop (spn D12 s) = 45 :: c :: r ∧ c ≠ 48) → l' = nop (spn D12 s)) := by
  have hl := spn_len D12 s
  have hf : (nop (spn D12 s)).length ≤ (spn D12 s).length := List.length_filter_le _ _
  have hp := points_eq t (bs s) (spn D12 s) (by omega) (spn D12 s).length BIG 0 (by omega) (by rw [big_val]; omega)
  obtain ⟨l', g1, g2, g3⟩ := strip_eq t (bs s) (bs (spn D12 s)) (nop (spn D12 s)).length BIG (nop (spn D12 s)) (Nat.le_refl _) (by omega) (by rw [big_val]; omega)
  refine ⟨l', ?_, g3⟩
  unfold ref1_begin_j1
  simp only [ifte, beq_iff_eq, h]
  rw [if_neg (by simp), if_neg (by decide), if_neg (by decide), if_pos trivial, show (ByteArray.mk #[45, 48, 49, 50, 51, 52, 53, 54, 55, 56, 57, 46]) = bs D12 from rfl, upTo_eq _ _ (by decide) hs, bnd_eq]
  refine (Eq.trans hp g1).trans ?_
  unfold ref1_begin_j6
  rw [signed_eq _ (by omega), bnd_eq, bs_size, bs_size, grdp (by omega), ext_spn]

theorem begin_text {t : GType} (h : t.kind = 4) (s : List UInt8) (hs : s.length ≤ 1000000000) : ref1_begin_j1 t (bs s) false = some (rquo s) := by
  unfold ref1_begin_j1
  simp only [ifte, beq_iff_eq, h]
  rw [if_neg (by simp), if_neg (by decide), if_neg (by decide), if_neg (by decide), if_pos trivial, rquoted_eq _ hs, bnd_eq]

def sl (w : List UInt8) (a b : Nat) : List UInt8 := (w.take b).drop a

def momR (s w : List UInt8) : GValue × ByteArray × Bool :=
  if (am (sl w 0 4)).2 = true ∧ (am (sl w 5 7)).2 = true ∧ (am (sl w 8 10)).2 = true ∧ (am (sl w 11 13)).2 = true ∧ (am (sl w 14 16)).2 = true ∧ (am (sl w 17 19)).2 = true ∧
    Tm.chk ⟨(am (sl w 0 4)).1, (am (sl w 5 7)).1, (am (sl w 8 10)).1, (am (sl w 11 13)).1, (am (sl w 14 16)).1, (am (sl w 17 19)).1⟩
  then (GValue.mk 5 (Tm.sec ⟨(am (sl w 0 4)).1, (am (sl w 5 7)).1, (am (sl w 8 10)).1, (am (sl w 11 13)).1, (am (sl w 14 16)).1, (am (sl w 17 19)).1⟩) 0 ByteArray.empty [], bs (s.drop 20), true)
  else (nov, bs s, false)

theorem begin_mom {t : GType} (h : t.kind = 5) (s : List UInt8) (hs : s.length ≤ 1000000000) : ref1_begin_j1 t (bs s) false = some (if (spn D14 s).length = 20 then momR s (spn D14 s) else (nov, bs s, false)) := by
  have hl := spn_len D14 s
  have hsl : ∀ a b, b ≤ 20 → (sl (spn D14 s) a b).length ≤ 1000000000 := by intro a b hb; unfold sl; simp; omega
  have hx : ∀ a b : Nat, (bs (spn D14 s)).extract a b = bs (sl (spn D14 s) a b) := fun a b => bs_ext _ _ _
  unfold ref1_begin_j1
  simp only [ifte, beq_iff_eq, h]
  rw [if_neg (by simp), if_neg (by decide), if_neg (by decide), if_neg (by decide), if_neg (by decide), if_pos trivial, show (ByteArray.mk #[48, 49, 50, 51, 52, 53, 54, 55, 56, 57, 45, 84, 58, 90]) = bs D14 from rfl, upTo_eq _ _ (by decide) hs, bnd_eq, bs_size, bs_size]
  by_cases h20 : (spn D14 s).length = 20
  · rw [if_neg (by simp [h20]), if_pos h20, h20]
    unfold momR
    simp only [show (0 : Int).toNat = 0 from rfl, show (4 : Int).toNat = 4 from rfl, show (5 : Int).toNat = 5 from rfl, show (7 : Int).toNat = 7 from rfl, show (8 : Int).toNat = 8 from rfl, show (10 : Int).toNat = 10 from rfl, show (11 : Int).toNat = 11 from rfl, show (13 : Int).toNat = 13 from rfl, show (14 : Int).toNat = 14 from rfl, show (16 : Int).toNat = 16 from rfl, show (17 : Int).toNat = 17 from rfl, show (19 : Int).toNat = 19 from rfl, show (20 : Int).toNat = 20 from rfl, hx, ext_from]
    rw [amount_eq _ (hsl 0 4 (by decide)), amount_eq _ (hsl 5 7 (by decide)), amount_eq _ (hsl 8 10 (by decide)), amount_eq _ (hsl 11 13 (by decide)), amount_eq _ (hsl 14 16 (by decide)), amount_eq _ (hsl 17 19 (by decide))]
    generalize am (sl (spn D14 s) 0 4) = a1
    generalize am (sl (spn D14 s) 5 7) = a2
    generalize am (sl (spn D14 s) 8 10) = a3
    generalize am (sl (spn D14 s) 11 13) = a4
    generalize am (sl (spn D14 s) 14 16) = a5
    generalize am (sl (spn D14 s) 17 19) = a6
    simp only [bnd_eq, Tm.rcheck_eq]
    obtain ⟨y1, b1⟩ := a1; obtain ⟨y2, b2⟩ := a2; obtain ⟨y3, b3⟩ := a3; obtain ⟨y4, b4⟩ := a4; obtain ⟨y5, b5⟩ := a5; obtain ⟨y6, b6⟩ := a6
    dsimp only
    rw [grdp (by decide)]
    cases b1 with
    | false => simp
    | true =>
      rw [if_neg (by simp), grdp (by decide)]
      cases b2 with
      | false => simp
      | true =>
        rw [if_neg (by simp), grdp (by decide)]
        cases b3 with
        | false => simp
        | true =>
          rw [if_neg (by simp), grdp (by decide)]
          cases b4 with
          | false => simp
          | true =>
            rw [if_neg (by simp), grdp (by decide)]
            cases b5 with
            | false => simp
            | true =>
              rw [if_neg (by simp), grdp (by decide)]
              cases b6 with
              | false => simp
              | true =>
                rw [if_neg (by simp)]
                by_cases hc : Tm.chk ⟨y1, y2, y3, y4, y5, y6⟩
                · rw [if_neg (by simp [hc]), Tm.rseconds_eq hc, bnd_eq, grdp (by omega), if_pos ⟨rfl, rfl, rfl, rfl, rfl, rfl, hc⟩]
                · rw [if_pos (by simp [hc]), if_neg (fun h => hc h.2.2.2.2.2.2)]
  · rw [if_pos (by simp; omega), if_neg h20]

theorem begin_tot {t : GType} (hk : t.kind = 1 ∨ t.kind = 2 ∨ t.kind = 3 ∨ t.kind = 4 ∨ t.kind = 5) (s : List UInt8) (hs : s.length ≤ 1000000000) :
    ∃ v s' ok, ref1_begin t (bs s) = some (v, bs s', ok) ∧ Rr s v s' ok := by
  rw [begin_nul]
  cases hp : pre NUL s with
  | true =>
    rw [begin_true t s hp]
    have h1 := off_len NUL s
    exact ⟨_, _, _, rfl, h1, fun _ => by rw [sizeV_leaf, empty_size]; omega⟩
  | false =>
    rcases hk with h | h | h | h | h
    · rw [begin_bool h s hs]
      have h1 := drp_len DB s
      exact ⟨_, _, _, rfl, h1, fun _ => by rw [sizeV_leaf, empty_size]; omega⟩
    · rw [begin_int h s hs]
      have h1 := drp_len D11 s
      exact ⟨_, _, _, rfl, h1, fun _ => by rw [sizeV_leaf, empty_size]; omega⟩
    · obtain ⟨l', e, _⟩ := begin_dec h s hs
      rw [e]
      have h1 := drp_len D12 s
      exact ⟨_, _, _, rfl, h1, fun _ => by rw [sizeV_leaf, empty_size]; omega⟩
    · rw [begin_text h s hs]
      cases s with
      | nil => exact ⟨nov, [], false, rfl, Nat.le_refl _, fun h => by cases h⟩
      | cons b r =>
        by_cases hb : b = 39
        · rw [show rquo (b :: r) = rqR (bs (b :: r)) (rq [] r) from if_pos hb]
          cases hq : rq [] r with
          | none => exact ⟨nov, b :: r, false, rfl, Nat.le_refl _, fun h => by cases h⟩
          | some x =>
            obtain ⟨a, u⟩ := x
            have := rq_len _ r [] (Nat.le_refl _) a u hq
            simp only [List.length_nil] at this
            exact ⟨_, u, true, rfl, by simp; omega, fun _ => by rw [sizeV_leaf, bs_size]; simp; omega⟩
        · rw [show rquo (b :: r) = (nov, bs (b :: r), false) from if_neg hb]
          exact ⟨nov, b :: r, false, rfl, Nat.le_refl _, fun h => by cases h⟩
    · rw [begin_mom h s hs]
      by_cases h20 : (spn D14 s).length = 20
      · rw [if_pos h20]
        unfold momR
        split
        · exact ⟨_, s.drop 20, true, rfl, by simp, fun _ => by rw [sizeV_leaf, empty_size]; simp; omega⟩
        · exact ⟨nov, s, false, rfl, Nat.le_refl _, fun h => by cases h⟩
      · rw [if_neg h20]
        exact ⟨nov, s, false, rfl, Nat.le_refl _, fun h => by cases h⟩

end Go.Proofs.YtpmoopnkoknbeaaGreatDoor
namespace Go.Proofs.YtpmoopnkoknbeaaGreatDoor
open Go Go.PX Go.SX Go.SX.Cal
set_option linter.unusedVariables false
set_option linter.unusedSimpArgs false

theorem am_ok {l : List UInt8} (h0 : l ≠ []) (h1 : l.length ≤ 18) (hd : l.all isD = true) : am l = (((num 0 l : Nat) : Int), true) := by
  unfold am
  rw [if_pos ⟨fun h => h0 (List.length_eq_zero_iff.1 h), h1, hd⟩]

theorem sgd_sg {n : Int} {l : List UInt8} (h0 : l ≠ []) (h1 : l.length ≤ 18) (hd : l.all isD = true) (hn : num 0 l = n.natAbs) : sgd (sg n l) = (n, true) := by
  unfold sg
  split
  · show (if (45 : UInt8) = 45 then (-(am l).1, (am l).2) else am (45 :: l)) = _
    rw [if_pos rfl, am_ok h0 h1 hd, hn]
    simp only [Prod.mk.injEq, and_true]
    omega
  · match l, h0 with
    | b :: r, h0 =>
      have hb : b ≠ 45 := by
        rintro rfl
        simp only [List.all_cons, Bool.and_eq_true] at hd
        exact absurd hd.1 (by decide)
      show (if b = 45 then (-(am r).1, (am r).2) else am (b :: r)) = _
      rw [if_neg hb, am_ok h0 h1 hd, hn]
      simp only [Prod.mk.injEq, and_true]
      omega

theorem dec_head (u : Nat) (h : u ≠ 0) : ∃ c r, Lib.decDigits u = c :: r ∧ c ≠ 48 := by
  induction u using Nat.strongRecOn with
  | _ u ih =>
    rw [Lib.decDigits]
    by_cases h10 : u < 10
    · rw [dif_pos h10]
      refine ⟨_, _, rfl, fun e => ?_⟩
      have := (ofNat_isD u h10).2
      rw [e] at this
      exact h (by have h2 : (48 : UInt8).toNat = 48 := rfl; omega)
    · rw [dif_neg h10]
      obtain ⟨c, r, e, hc⟩ := ih (u / 10) (by omega) (by omega)
      exact ⟨c, r ++ _, by rw [e]; rfl, hc⟩

theorem nop_dig {l : List UInt8} (h : l.all isD = true) : nop l = l := by
  apply List.filter_eq_self.2
  intro x hx
  have := List.all_eq_true.1 h x hx
  simp only [bne_iff_ne]
  rintro rfl
  exact absurd this (by decide)

theorem nop_dcm {n : Int} {p q : List UInt8} (h1 : p.all isD = true) (h2 : q.all isD = true) : nop (sg n (p ++ 46 :: q)) = sg n (p ++ q) := by
  have e : nop (p ++ 46 :: q) = p ++ q := by
    show List.filter _ _ = _
    rw [List.filter_append]
    show nop p ++ nop (46 :: q) = _
    rw [nop_dig h1, show nop (46 :: q) = nop q from rfl, nop_dig h2]
  unfold sg
  split
  · rw [show nop (45 :: (p ++ 46 :: q)) = 45 :: nop (p ++ 46 :: q) from rfl, e]
  · exact e

theorem d12_of {b : UInt8} (h : D11.contains b = true) : D12.contains b = true := by
  have hh : ((List.range 256).all fun n => !D11.contains (UInt8.ofNat n) || D12.contains (UInt8.ofNat n)) = true := by decide +kernel
  have h2 := List.all_eq_true.1 hh b.toNat (List.mem_range.2 (UInt8.toNat_lt b))
  rw [UInt8.ofNat_toNat, h] at h2
  exact h2

theorem d14_of {b : UInt8} (h : isD b = true) : D14.contains b = true := by
  have hh : ((List.range 256).all fun n => !isD (UInt8.ofNat n) || D14.contains (UInt8.ofNat n)) = true := by decide +kernel
  have h2 := List.all_eq_true.1 hh b.toNat (List.mem_range.2 (UInt8.toNat_lt b))
  rw [UInt8.ofNat_toNat, h] at h2
  exact h2

theorem all_d14 {l : List UInt8} (h : l.all isD = true) : l.all (D14.contains ·) = true :=
  List.all_eq_true.2 (fun x hx => d14_of (List.all_eq_true.1 h x hx))

theorem four {l : List UInt8} (h : l.length = 4) : ∃ a b c d, l = [a, b, c, d] := by
  match l, h with
  | [a, b, c, d], _ => exact ⟨a, b, c, d, rfl⟩
theorem pair {l : List UInt8} (h : l.length = 2) : ∃ a b, l = [a, b] := by
  match l, h with
  | [a, b], _ => exact ⟨a, b, rfl⟩

theorem am_pad {n : Int} (k : Nat) (hk : 1 ≤ k ∧ k ≤ 4) (h0 : 0 ≤ n) (h1 : n.natAbs < 10 ^ k) : (pad k n.natAbs).length = k ∧ am (pad k n.natAbs) = (n, true) := by
  obtain ⟨a, b, c⟩ := pad_spec k n.natAbs
  have hl := pad_len k n.natAbs hk.1 h1
  refine ⟨hl, ?_⟩
  rw [am_ok c (by omega) a, b]
  simp only [Prod.mk.injEq, and_true]
  omega

theorem begin_ok {d : Nat} {t : GType} {v : GValue} (h : Snd (d + 1) v) (hV : V t) (ho : ofD (d + 1) t v = true) (hk : t.kind = 1 ∨ t.kind = 2 ∨ t.kind = 3 ∨ t.kind = 4 ∨ t.kind = 5) (r : List UInt8) (hr : endOk r) (hN : (T v ++ r).length ≤ 1000000000) :
    ref1_begin t (bs (T v ++ r)) = some (v, bs r, true) := by
  obtain ⟨hp, hi⟩ := h.succ
  have hl := leafy hp
  rw [begin_nul]
  by_cases h0 : v.kind = 0
  · have hT : T v = NUL := by rw [T_eq, if_pos h0]
    rw [hT, pre_app, begin_true _ _ (pre_app _ _), off_app]
    unfold nov
    rw [v_eq h0 (hl.nn (.inl h0)) (plain_scale hp (by omega)) (ba_nil (hl.zero (by omega))) (plain_items hp (by omega) (by omega))]
  obtain ⟨o1, o2, o3⟩ := of_parts ho h0
  have hpre : pre NUL (T v ++ r) = false := by
    obtain ⟨b, u, e1, _, _, _, e2⟩ := T_head h r
    rw [e1]
    exact pre_cons_ne _ _ (fun hh => e2 h0 hh.symm)
  have hsc : v.scale = t.scale := by
    by_cases h3 : v.kind = 3
    · exact o2 h3
    · rw [plain_scale hp h3, hV.scale (by omega)]
  have hit := plain_items hp (by omega) (by omega)
  rw [hpre]
  rcases hk with hk | hk | hk | hk | hk
  · have h1 : v.kind = 1 := by omega
    have hz := ba_nil (hl.zero (by omega))
    rw [begin_bool hk _ hN]
    have hend : ∀ b, r.head? = some b → DB.contains b = false := by
      intro b hb
      rcases hr b hb with rfl | rfl | rfl <;> decide
    rcases hl.bool h1 with hn | hn
    · have hT : T v = [102, 97, 108, 115, 101] := by rw [T_eq, if_neg h0, if_pos h1, if_neg (by omega)]
      obtain ⟨t1, t2⟩ := tw (p := (DB.contains ·)) (l := [102, 97, 108, 115, 101]) (r := r) (by decide) hend
      rw [hT, show spn DB ([102, 97, 108, 115, 101] ++ r) = _ from t1, show drp DB ([102, 97, 108, 115, 101] ++ r) = _ from t2, if_neg (by decide)]
      rw [v_eq h1 hn (plain_scale hp (by omega)) hz hit]
    · have hT : T v = [116, 114, 117, 101] := by rw [T_eq, if_neg h0, if_pos h1, if_pos hn]
      obtain ⟨t1, t2⟩ := tw (p := (DB.contains ·)) (l := [116, 114, 117, 101]) (r := r) (by decide) hend
      rw [hT, show spn DB ([116, 114, 117, 101] ++ r) = _ from t1, show drp DB ([116, 114, 117, 101] ++ r) = _ from t2, if_pos rfl]
      rw [v_eq h1 hn (plain_scale hp (by omega)) hz hit]
  · have h2 : v.kind = 2 := by omega
    have hz := ba_nil (hl.zero (by omega))
    have hnn := hl.num (.inl h2)
    have hT : T v = sg v.n (Lib.decDigits v.n.natAbs) := by rw [T_eq, if_neg h0, if_neg (by omega), if_pos h2]
    obtain ⟨a, b, c⟩ := decDigits_spec v.n.natAbs
    obtain ⟨t1, t2⟩ := tw (sg_d11 v.n a) (end_d11 hr)
    rw [begin_int hk _ hN, hT, show spn D11 (sg v.n (Lib.decDigits v.n.natAbs) ++ r) = _ from t1, show drp D11 (sg v.n (Lib.decDigits v.n.natAbs) ++ r) = _ from t2]
    rw [sgd_sg c (dec_len _ (by omega)) a b]
    rw [v_eq h2 rfl (plain_scale hp (by omega)) hz hit]
  · have h3 : v.kind = 3 := by omega
    have hz := ba_nil (hl.zero (by omega))
    have hnn := hl.num (.inr h3)
    have hsb := hl.sc h3
    have hT : T v = dcm v.n v.scale := by rw [T_eq, if_neg h0, if_neg (by omega), if_neg (by omega), if_pos h3]
    obtain ⟨p, q, e1, e2, e3, e4, e5, e6, e7, e8⟩ := dcm_split (n := v.n) hsb.1
    have hpl := pad_le (n := v.n) (by omega) (v.scale.toNat + 1) (by omega)
    have hall : ∀ x ∈ sg v.n (p ++ 46 :: q), D12.contains x = true := by
      have hin : ∀ x ∈ p ++ 46 :: q, D12.contains x = true := by
        intro x hx
        rcases List.mem_append.1 hx with hx | hx
        · exact d12_of (all_d11 e2 x hx)
        · rcases List.mem_cons.1 hx with rfl | hx
          · decide
          · exact d12_of (all_d11 e3 x hx)
      unfold sg
      split
      · intro x hx
        rcases List.mem_cons.1 hx with rfl | hx
        · decide
        · exact hin x hx
      · exact hin
    have hend : ∀ b, r.head? = some b → D12.contains b = false := by
      intro b hb
      rcases hr b hb with rfl | rfl | rfl <;> decide
    obtain ⟨t1, t2⟩ := tw (r := r) hall hend
    obtain ⟨l', g1, g2⟩ := begin_dec hk _ hN
    have hT2 : T v = sg v.n (p ++ 46 :: q) := by rw [hT, e1]
    have hsp : spn D12 (T v ++ r) = sg v.n (p ++ 46 :: q) := by rw [hT2]; exact t1
    have hdr : drp D12 (T v ++ r) = r := by rw [hT2]; exact t2
    rw [hsp, nop_dcm e2 e3] at g2
    have hl' : l' = sg v.n (p ++ q) := by
      apply g2
      have hsl := sg_len v.n (p ++ q)
      rcases Nat.lt_or_ge 18 (sg v.n (p ++ q)).length with hgt | hle
      · right
        have hneg : v.n < 0 := by
          rcases Int.lt_or_le v.n 0 with hh | hh
          · exact hh
          · exfalso; unfold sg at hgt; rw [if_neg (by omega)] at hgt; omega
        have e9 : p ++ q = Lib.decDigits v.n.natAbs := by
          rw [e8]
          unfold pad
          have hdl : v.scale.toNat + 1 - (Lib.decDigits v.n.natAbs).length = 0 := by
            rcases Nat.lt_or_ge (Lib.decDigits v.n.natAbs).length (v.scale.toNat + 1) with hh | hh
            · exfalso
              have : (pad (v.scale.toNat + 1) v.n.natAbs).length = v.scale.toNat + 1 := by unfold pad; simp; omega
              omega
            · omega
          rw [hdl]; rfl
        obtain ⟨c, u, e10, e11⟩ := dec_head v.n.natAbs (by omega)
        refine ⟨c, u, ?_, e11⟩
        unfold sg
        rw [if_pos hneg, e9, e10]
      · exact .inl hle
    rw [g1, hl', hdr, sgd_sg (by simp [e4]) (by omega) (by rw [List.all_append, e2, e3]; rfl) e5]
    rw [v_eq h3 rfl hsc hz hit]
  · have h4 : v.kind = 4 := by omega
    have hT : T v = 39 :: (esc v.s.data.toList ++ [39]) := by rw [T_eq, if_neg h0, if_neg (by omega), if_neg (by omega), if_neg (by omega), if_pos h4]
    have hTr : T v ++ r = 39 :: (esc v.s.data.toList ++ 39 :: r) := by rw [hT]; simp
    rw [begin_text hk _ hN, hTr, show rquo (39 :: (esc v.s.data.toList ++ 39 :: r)) = rqR (bs (39 :: (esc v.s.data.toList ++ 39 :: r))) (rq [] (esc v.s.data.toList ++ 39 :: r)) from rfl, rq_esc _ _ _ (fun hh => by rcases hr 39 hh with h | h | h <;> cases h)]
    show some (GValue.mk 4 0 0 (bs ([] ++ v.s.data.toList)) [], bs r, true) = _
    rw [List.nil_append, bs_eta, v_eq h4 (hl.nn (.inr (.inl h4))) (plain_scale hp (by omega)) rfl hit]
  · have h5 : v.kind = 5 := by omega
    have hz := ba_nil (hl.zero (by omega))
    have hm := hl.mom h5
    obtain ⟨c1, c2⟩ := civ_chk hm.1 hm.2
    have hml := moc_len hm.1 hm.2
    have hT : T v = moc (Tm.civ v.n) := by rw [T_eq, if_neg h0, if_neg (by omega), if_neg (by omega), if_neg (by omega), if_neg (by omega), if_pos h5]
    have hend : ∀ b, r.head? = some b → D14.contains b = false := by
      intro b hb
      rcases hr b hb with rfl | rfl | rfl <;> decide
    have hall : (moc (Tm.civ v.n)).all (D14.contains ·) = true := by
      have hx : ∀ k u, (pad k u).all (D14.contains ·) = true := fun k u => all_d14 (pad_spec k u).1
      unfold moc two
      simp only [List.all_append, List.all_cons, List.all_nil, hx]
      decide
    obtain ⟨t1, t2⟩ := tw (r := r) (List.all_eq_true.1 hall) hend
    rw [hT] at hN ⊢
    rw [begin_mom hk _ hN, show spn D14 (moc (Tm.civ v.n) ++ r) = _ from t1, if_pos hml]
    have hdrop : (moc (Tm.civ v.n) ++ r).drop 20 = r := List.drop_left' hml
    obtain ⟨a1, a2, b1, b2, d1, d2, f1, f2, g1, g2, i1, i2⟩ := id c1
    have hdim := Tm.dim_bound (Tm.civ v.n).year (Tm.civ v.n).month
    generalize Tm.civ v.n = c at *
    obtain ⟨p1, q1⟩ := am_pad (n := c.year) 4 (by decide) (by omega) (by omega)
    obtain ⟨p2, q2⟩ := am_pad (n := c.month) 2 (by decide) (by omega) (by omega)
    obtain ⟨p3, q3⟩ := am_pad (n := c.day) 2 (by decide) (by omega) (by omega)
    obtain ⟨p4, q4⟩ := am_pad (n := c.hour) 2 (by decide) (by omega) (by omega)
    obtain ⟨p5, q5⟩ := am_pad (n := c.minute) 2 (by decide) (by omega) (by omega)
    obtain ⟨p6, q6⟩ := am_pad (n := c.second) 2 (by decide) (by omega) (by omega)
    have key : momR (moc c ++ r) (moc c) = (GValue.mk 5 (Tm.sec c) 0 ByteArray.empty [], bs r, true) := by
      unfold momR
      rw [hdrop]
      have s1 : sl (moc c) 0 4 = pad 4 c.year.natAbs ∧ sl (moc c) 5 7 = pad 2 c.month.natAbs ∧ sl (moc c) 8 10 = pad 2 c.day.natAbs ∧ sl (moc c) 11 13 = pad 2 c.hour.natAbs ∧ sl (moc c) 14 16 = pad 2 c.minute.natAbs ∧ sl (moc c) 17 19 = pad 2 c.second.natAbs := by
        unfold moc two sl
        generalize pad 4 c.year.natAbs = x1 at *
        generalize pad 2 c.month.natAbs = x2 at *
        generalize pad 2 c.day.natAbs = x3 at *
        generalize pad 2 c.hour.natAbs = x4 at *
        generalize pad 2 c.minute.natAbs = x5 at *
        generalize pad 2 c.second.natAbs = x6 at *
        obtain ⟨_, _, _, _, rfl⟩ := four p1
        obtain ⟨_, _, rfl⟩ := pair p2
        obtain ⟨_, _, rfl⟩ := pair p3
        obtain ⟨_, _, rfl⟩ := pair p4
        obtain ⟨_, _, rfl⟩ := pair p5
        obtain ⟨_, _, rfl⟩ := pair p6
        exact ⟨rfl, rfl, rfl, rfl, rfl, rfl⟩
      obtain ⟨s1, s2, s3, s4, s5, s6⟩ := s1
      rw [s1, s2, s3, s4, s5, s6, q1, q2, q3, q4, q5, q6]
      exact if_pos ⟨rfl, rfl, rfl, rfl, rfl, rfl, c1⟩
    rw [key, c2, v_eq h5 rfl (plain_scale hp (by omega)) hz hit]

end Go.Proofs.YtpmoopnkoknbeaaGreatDoor
namespace Go.Proofs.YtpmoopnkoknbeaaGreatDoor
open Go Go.PX Go.SX Go.SX.Cal
set_option linter.unusedVariables false
set_option linter.unusedSimpArgs false

theorem read_nul (k0 : Nat) (t : GType) (hl : ¬ (t.kind ≠ 6 ∧ t.kind ≠ 7)) (s : List UInt8) : ref1_read (k0 + 1) t (bs s) = ref1_read_j1 (ref1_read k0) t (bs s) (pre NUL s) := by
  rw [ref1_read, leafR, bnd_eq, ifte, if_neg (by simpa using hl)]
  exact nul_eq s (fun y => ref1_read_j1 (ref1_read k0) t (bs s) y)

theorem read_leaf (k0 : Nat) (t : GType) (hl : t.kind ≠ 6 ∧ t.kind ≠ 7) (s : List UInt8) : ref1_read (k0 + 1) t (bs s) = bnd (ref1_begin t (bs s)) fun r2 => some (r2.1, r2.2.1, r2.2.2) := by
  rw [ref1_read, leafR, bnd_eq, ifte, if_pos (by simpa using hl)]

theorem sizeL_snoc (l : List GValue) (v : GValue) : sizeL (l ++ [v]) = sizeL l + sizeV v := by
  induction l with
  | nil => simp [sizeL]
  | cons x l ih => simp only [List.cons_append, sizeL, ih]; omega

theorem closer (l : List UInt8) (F : Bool → Option (GValue × ByteArray × Bool)) :
    (ift (decide ((0 : Int) < ((bs l).size : Int)))
         (grd (0 ≤ (0 : Int) ∧ (0 : Int) < ((bs l).size : Int)) <|
          ift ((((bs l).data.toList.getD (0 : Int).toNat 0).toNat : Int) == (93 : Int)) (F true)
            (grd (0 ≤ (0 : Int) ∧ (0 : Int) < ((bs l).size : Int)) <| F ((((bs l).data.toList.getD (0 : Int).toNat 0).toNat : Int) == (41 : Int))))
         (F false)) = F (decide (l.head? = some 93 ∨ l.head? = some 41)) := by
  rw [bs_size, ifte]
  cases l with
  | nil => rfl
  | cons b r =>
    rw [if_pos (by simp), grdp (by rw [List.length_cons]; omega), ifte, show (0 : Int).toNat = ((0 : Nat) : Int).toNat from rfl, getI (b :: r) 0 (by simp)]
    rw [show (((((b :: r)[0]).toNat : Nat) : Int) == (93 : Int)) = (b == 93) by rw [← beqI]; rfl, show (((((b :: r)[0]).toNat : Nat) : Int) == (41 : Int)) = (b == 41) by rw [← beqI]; rfl]
    by_cases h1 : b = 93
    · rw [if_pos (by simpa using h1)]; congr 1; simp [h1]
    · rw [if_neg (by simpa using h1), grdp (by rw [List.length_cons]; omega)]
      congr 1
      rw [Bool.eq_iff_iff]; simp [h1]

theorem read_loop {t : GType} (hV : V t) (hkk : t.kind = 6 ∨ t.kind = 7) (p2 : List UInt8) (N : Nat) (hN : N ≤ 1000000000) (hp2 : p2.length ≤ N) (q : GType → ByteArray → Option (GValue × ByteArray × Bool))
    (hq : ∀ f ∈ t.fields, ∀ s, s.length ≤ N → ∃ v s' ok, q f.type (bs s) = some (v, bs s', ok) ∧ Rr s v s' ok) :
    ∀ (m f : Nat) (l : List GValue) (s : List UInt8), l.length + m = 257 → m < f → sizeL l + s.length + (if l.length = 0 then 1 else 0) ≤ p2.length →
      ∃ v s' ok, ref1_read_l1 q t (bs p2) f l (bs s) (l.length : Int) = some (v, bs s', ok) ∧ Rr p2 v s' ok := by
  have out : ∀ l : List GValue, ∃ v s' ok, (some (GValue.mk t.kind 0 0 ByteArray.empty l, bs p2, false) : Option (GValue × ByteArray × Bool)) = some (v, bs s', ok) ∧ Rr p2 v s' ok :=
    fun l => ⟨_, p2, false, rfl, Nat.le_refl _, fun h => by cases h⟩
  intro m
  induction m with
  | zero =>
    intro f l s hm hf hS
    obtain ⟨f, rfl⟩ : ∃ g, f = g + 1 := ⟨f - 1, by omega⟩
    rw [ref1_read_l1, ifte, if_neg (by simp; omega)]
    exact out l
  | succ m ih =>
    intro f l s hm hf hS
    obtain ⟨f, rfl⟩ : ∃ g, f = g + 1 := ⟨f - 1, by omega⟩
    rw [ref1_read_l1, ifte, if_pos (by simp; omega)]
    have hc := closer s (fun b => ref1_read_j2 (ref1_read_l1 q t (bs p2) f) q t (bs p2) l (bs s) (l.length : Int) b)
    refine Exists.imp (fun v => Exists.imp fun s' => Exists.imp fun ok => And.imp_left (fun h => Eq.trans hc h)) ?_
    have j3 : ∀ s1 : List UInt8, sizeL l + s1.length + 1 ≤ p2.length → ∃ v s' ok, ref1_read_j3 (ref1_read_l1 q t (bs p2) f) q t (bs p2) l (l.length : Int) (bs s1) = some (v, bs s', ok) ∧ Rr p2 v s' ok := by
      intro s1 hs1
      have j4 : ∀ x6 : Nat, ∃ v s' ok, ref1_read_j4 (ref1_read_l1 q t (bs p2) f) q t (bs p2) l (l.length : Int) (bs s1) (x6 : Int) = some (v, bs s', ok) ∧ Rr p2 v s' ok := by
        intro x6
        unfold ref1_read_j4
        rw [ifte]
        by_cases hx : t.fields.length ≤ x6
        · rw [if_pos (by simp; omega)]
          exact out l
        · rw [if_neg (by simp; omega), at_nat (by omega), bnd_eq]
          obtain ⟨v, s', ok, e1, e2⟩ := hq _ (List.getElem_mem (show x6 < t.fields.length by omega)) s1 (by omega)
          rw [e1, bnd_eq]
          dsimp only
          cases ok with
          | false => exact out l
          | true =>
            have h1 := e2.le
            have h2 := e2.sz rfl
            rw [ifte, if_neg (by simp), grdp (by omega), w64 (by omega) (by omega)]
            have := ih f (l ++ [v]) s' (by simp; omega) (by omega) (by rw [sizeL_snoc, if_neg (by simp)]; omega)
            rw [List.length_append, List.length_singleton] at this
            exact this
      unfold ref1_read_j3
      rw [ifte]
      split
      · exact j4 l.length
      · exact j4 0
    by_cases hh : s.head? = some 93 ∨ s.head? = some 41
    · rw [show decide (s.head? = some 93 ∨ s.head? = some 41) = true by simpa using hh]
      unfold ref1_read_j2
      have hpos : 1 ≤ s.length := by
        cases s with
        | nil => simp at hh
        | cons _ _ => simp
      rw [ifte, if_pos rfl, bs_size, grdp (by omega), show (1 : Int).toNat = 1 from rfl, ext_from]
      exact ⟨_, s.drop 1, true, rfl, by simp; omega, fun _ => by rw [sizeV_list]; simp; omega⟩
    · rw [show decide (s.head? = some 93 ∨ s.head? = some 41) = false by simpa using hh]
      unfold ref1_read_j2
      rw [ifte, if_neg (by simp), ifte]
      by_cases hl0 : l.length = 0
      · rw [if_neg (by simp only [decide_eq_true_eq]; omega)]
        rw [if_pos hl0] at hS
        exact j3 s hS
      · rw [if_pos (by simp only [decide_eq_true_eq]; omega), ifte, bs_size]
        rw [if_neg hl0] at hS
        by_cases h2 : s.length < 2
        · rw [if_pos (by simp; omega)]
          exact out l
        · rw [if_neg (by simp; omega), grdp (by omega), show (2 : Int).toNat = 2 from rfl, ext_from]
          exact j3 _ (by simp; omega)

theorem kinds {t : GType} (hV : V t) : 1 ≤ t.kind ∧ t.kind ≤ 7 := by
  have := hV.sh
  unfold shp at this
  by_cases hx : t.kind < 1 ∨ 7 < t.kind
  · rw [if_pos hx] at this; cases this
  · omega

theorem read_tot : ∀ (n : Nat) (t : GType), sizeT t ≤ n → V t → ∀ (k : Nat), n ≤ k → ∀ (s : List UInt8), s.length ≤ 1000000000 →
    ∃ v s' ok, ref1_read k t (bs s) = some (v, bs s', ok) ∧ Rr s v s' ok := by
  intro n
  induction n with
  | zero => intro t h; have := sizeT_eq t; omega
  | succ n ih =>
    intro t hn hV k hk s hs
    obtain ⟨k, rfl⟩ : ∃ g, k = g + 1 := ⟨k - 1, by omega⟩
    have hst := sizeT_eq t
    have hkd := kinds hV
    by_cases hl : t.kind ≠ 6 ∧ t.kind ≠ 7
    · rw [read_leaf k t hl]
      obtain ⟨v, s', ok, e1, e2⟩ := begin_tot (t := t) (by omega) s hs
      rw [e1]
      exact ⟨v, s', ok, rfl, e2⟩
    · rw [read_nul k t hl]
      cases hp : pre NUL s with
      | true =>
        have := off_ok hp
        simp only [List.length_cons, List.length_nil] at this
        unfold ref1_read_j1
        rw [ifte, if_pos rfl, bs_size, grdp (by omega), show (4 : Int).toNat = 4 from rfl, ext_from]
        exact ⟨_, s.drop 4, true, rfl, by simp, fun _ => by rw [sizeV_leaf, empty_size]; simp; omega⟩
      | false =>
        unfold ref1_read_j1
        rw [ifte, if_neg (by simp), ifte, bs_size]
        by_cases h2 : s.length < 2
        · rw [if_pos (by simp; omega)]
          exact ⟨_, s, false, rfl, Nat.le_refl _, fun h => by cases h⟩
        · rw [if_neg (by simp; omega), grdp (by omega), show (1 : Int).toNat = 1 from rfl, ext_from]
          exact read_loop hV (by omega) s 1000000000 (Nat.le_refl _) hs (ref1_read k) (fun f hf u hu => by
            have h1 := sizeF_mem hf
            have h2 := sizeFd_eq f
            exact ih f.type (by omega) (hV.fs f hf) k (by omega) u hu) 257 BIG [] (s.drop 1) (by simp) (by rw [big_val]; omega) (by simp [sizeL]; omega)

theorem ritems_ok {t : GType} {v : GValue} {d : Nat} (hV : V t) (hk : v.kind = t.kind) (hkk : t.kind = 6 ∨ t.kind = 7) (hlen : v.items.length ≤ 64) (hv : GValue.mk t.kind 0 0 ByteArray.empty v.items = v) (hfit : Fit t v)
    (hi : ∀ x ∈ v.items, Snd (d + 1) x) (p2 : ByteArray) (q : GType → ByteArray → Option (GValue × ByteArray × Bool)) (e : UInt8) (he : e = 93 ∨ e = 41) (r : List UInt8) (N : Nat)
    (hq : ∀ i, i < v.items.length → ∀ r, endOk r → (T (iv v i) ++ r).length ≤ N → q (ft t i) (bs (T (iv v i) ++ r)) = some (iv v i, bs r, true)) :
    ∀ (m f i : Nat), i + m = v.items.length → m < f → (W v i e r).length ≤ N → ref1_read_l1 q t p2 f (v.items.take i) (bs (W v i e r)) (i : Int) = some (v, bs r, true) := by
  intro m
  induction m with
  | zero =>
    intro f i hii hf _
    obtain ⟨f, rfl⟩ : ∃ g, f = g + 1 := ⟨f - 1, by omega⟩
    obtain rfl : i = v.items.length := by omega
    rw [ref1_read_l1, ifte, if_pos (by simp; omega), W_end, List.take_length]
    refine (closer (e :: r) (fun b => ref1_read_j2 (ref1_read_l1 q t p2 f) q t p2 v.items (bs (e :: r)) (v.items.length : Int) b)).trans ?_
    rw [show decide ((e :: r).head? = some 93 ∨ (e :: r).head? = some 41) = true by simpa using he]
    unfold ref1_read_j2
    rw [ifte, if_pos rfl, bs_size, grdp (by rw [List.length_cons]; omega), show (1 : Int).toNat = 1 from rfl, ext_from, hv]
    rfl
  | succ m ih =>
    intro f i hii hf hN
    obtain ⟨f, rfl⟩ : ∃ g, f = g + 1 := ⟨f - 1, by omega⟩
    have hlt : i < v.items.length := by omega
    have hx := hi _ (iv_mem hlt)
    have hlt7 : (v.items.take i).length = i := by rw [List.length_take]; omega
    have hlW := congrArg List.length (W_step hlt e r)
    rw [List.length_append] at hlW
    obtain ⟨b, u, e1, e2, e3, e4, _⟩ := T_head hx (W v (i + 1) e r)
    have hhd : ¬ ((W v i e r).head? = some 93 ∨ (W v i e r).head? = some 41) := by
      rw [W_step hlt]
      by_cases h0 : i = 0
      · rw [if_pos h0, List.nil_append, e1]
        simp [e2, e3]
      · rw [if_neg h0]; simp
    rw [ref1_read_l1, ifte, if_pos (by simp; omega)]
    refine (closer (W v i e r) (fun b => ref1_read_j2 (ref1_read_l1 q t p2 f) q t p2 (v.items.take i) (bs (W v i e r)) (i : Int) b)).trans ?_
    rw [show decide ((W v i e r).head? = some 93 ∨ (W v i e r).head? = some 41) = false by simpa using hhd]
    have j3 : ref1_read_j3 (ref1_read_l1 q t p2 f) q t p2 (v.items.take i) (i : Int) (bs (T (iv v i) ++ W v (i + 1) e r)) = some (v, bs r, true) := by
      have j4 : ∀ x6 : Nat, x6 = (if t.kind = 6 then 0 else i) → ref1_read_j4 (ref1_read_l1 q t p2 f) q t p2 (v.items.take i) (i : Int) (bs (T (iv v i) ++ W v (i + 1) e r)) (x6 : Int) = some (v, bs r, true) := by
        intro x6 hx6
        obtain ⟨fd, f1, f2, f3, _⟩ := ft_at (hfit i hlt)
        have hfi := hfit i hlt
        rw [← hx6] at f2 hfi
        unfold ref1_read_j4
        rw [ifte, if_neg (by simp; omega), at_some f2, bnd_eq, f3, hq i hlt _ (W_ok (by omega) he r) (by omega), bnd_eq]
        dsimp only
        rw [ifte, if_neg (by simp), grdp (by omega), w64 (by omega) (by omega), ← iv_at hlt, ← List.take_succ_eq_append_getElem hlt]
        exact ih f (i + 1) (by omega) (by omega) (by rw [List.length_append] at hlW; omega)
      unfold ref1_read_j3
      rw [ifte]
      by_cases h7 : t.kind = 7
      · rw [if_pos (by simpa using h7)]
        exact j4 i (by rw [if_neg (by omega)])
      · rw [if_neg (by simpa using h7)]
        exact j4 0 (by rw [if_pos (by omega)])
    unfold ref1_read_j2
    rw [ifte, if_neg (by simp), ifte]
    by_cases h0 : i = 0
    · rw [if_neg (by simp; omega)]
      rw [show W v i e r = T (iv v i) ++ W v (i + 1) e r by rw [W_step hlt, if_pos h0, List.nil_append]]
      exact j3
    · have hw2 : W v i e r = 44 :: 32 :: (T (iv v i) ++ W v (i + 1) e r) := by rw [W_step hlt, if_neg h0]; rfl
      rw [if_pos (by simp; omega), ifte, hw2, bs_size, if_neg (by simp; omega), grdp (by simp; omega), show (2 : Int).toNat = 2 from rfl, ext_from]
      exact j3

theorem read_ok : ∀ (d : Nat) (t : GType) (v : GValue), Snd d v → V t → ofD d t v = true → ∀ (k : Nat), d ≤ k → ∀ r, endOk r → (T v ++ r).length ≤ 1000000000 →
    ref1_read k t (bs (T v ++ r)) = some (v, bs r, true) := by
  intro d
  induction d with
  | zero => intro t v h; exact h.zero.elim
  | succ d ih =>
    intro t v h hV ho k hk r hr hN
    obtain ⟨k, rfl⟩ : ∃ g, k = g + 1 := ⟨k - 1, by omega⟩
    obtain ⟨hp, hi⟩ := h.succ
    have hl := leafy hp
    have hkd := kinds hV
    by_cases hlf : t.kind ≠ 6 ∧ t.kind ≠ 7
    · rw [read_leaf k t hlf, begin_ok h hV ho (by omega) r hr hN]; rfl
    rw [read_nul k t hlf]
    by_cases h0 : v.kind = 0
    · have hT : T v = NUL := by rw [T_eq, if_pos h0]
      rw [hT, pre_app]
      unfold ref1_read_j1
      rw [ifte, if_pos rfl, bs_size, grdp (by simp; omega), show (4 : Int).toNat = 4 from rfl, ext_from]
      rw [v_eq h0 (hl.nn (.inl h0)) (plain_scale hp (by omega)) (ba_nil (hl.zero (by omega))) (plain_items hp (by omega) (by omega))]
      rfl
    obtain ⟨o1, o2, o3⟩ := of_parts ho h0
    have hpre : pre NUL (T v ++ r) = false := by
      obtain ⟨b, u, e1, _, _, _, e2⟩ := T_head h r
      rw [e1]
      exact pre_cons_ne _ _ (fun hh => e2 h0 hh.symm)
    obtain ⟨hfit, hof⟩ := fit_of h hV ho
    have hz := ba_nil (hl.zero (by omega))
    have hn := hl.nn (by omega)
    have hv : GValue.mk t.kind 0 0 ByteArray.empty v.items = v := v_eq o1 hn (plain_scale hp (by omega)) hz rfl
    have hlen : v.items.length ≤ 64 := by
      by_cases h6 : v.kind = 6
      · exact hl.lst h6
      · have := o3 (by omega)
        have := hV.wid; omega
    obtain ⟨o, e, he, hT⟩ : ∃ o e : UInt8, (e = 93 ∨ e = 41) ∧ T v = o :: (TJ v.items ++ [e]) := by
      rw [T_eq, if_neg h0, if_neg (by omega), if_neg (by omega), if_neg (by omega), if_neg (by omega), if_neg (by omega)]
      split
      · exact ⟨91, 93, .inl rfl, rfl⟩
      · exact ⟨40, 41, .inr rfl, rfl⟩
    have hTr : T v ++ r = o :: W v 0 e r := by rw [hT]; unfold W; simp
    have hWl : 1 ≤ (W v 0 e r).length := by unfold W; rw [List.length_append, List.length_cons]; omega
    rw [hpre]
    unfold ref1_read_j1
    rw [ifte, if_neg (by simp), ifte, bs_size, hTr]
    rw [hTr] at hN
    rw [List.length_cons] at hN
    rw [if_neg (by simp; omega), grdp (by rw [List.length_cons]; omega), show (1 : Int).toNat = 1 from rfl, ext_from, List.drop_succ_cons, List.drop_zero]
    cases d with
    | zero =>
      have hnil : v.items = [] := by
        cases hv : v.items with
        | nil => rfl
        | cons x l => exact (hi x (by rw [hv]; exact List.mem_cons_self ..)).zero.elim
      have := ritems_ok (d := 0) hV o1 (by omega) hlen hv hfit (fun x hx => by rw [hnil] at hx; cases hx) (bs (o :: W v 0 e r)) (ref1_read k) e he r 1000000000 (fun i hlt => by rw [hnil] at hlt; cases hlt) v.items.length BIG 0 (by omega) (by rw [big_val]; omega) (by omega)
      rw [List.take_zero] at this
      exact this
    | succ d =>
      have := ritems_ok hV o1 (by omega) hlen hv hfit hi (bs (o :: W v 0 e r)) (ref1_read k) e he r 1000000000 (fun i hlt r' hr' hn' => ih (ft t i) (iv v i) (hi _ (iv_mem hlt)) (by
          obtain ⟨fd, f1, _, f3, _⟩ := ft_at (hfit i hlt)
          rw [← f3]; exact hV.fs fd f1) (hof i hlt) k (by omega) r' hr' hn') v.items.length BIG 0 (by omega) (by rw [big_val]; omega) (by omega)
      rw [List.take_zero] at this
      exact this

end Go.Proofs.YtpmoopnkoknbeaaGreatDoor
