/- What the clocks of the program compute. -/
import Derived.Test.YtdkmclmdemngfaaGenT
import Derived.Test.YtdkmclmdemngfaaLawCal
namespace Go.Proofs.Ytdkmclmdemngfaa
open Go Go.SX Go.SX.Cal
set_option linter.unusedVariables false
set_option linter.unusedSimpArgs false

theorem ift_true {β : Type} (x y : Option β) : ift true x y = x := rfl
theorem ift_false {β : Type} (x y : Option β) : ift false x y = y := rfl
theorem ift_ite {β : Type} (b : Bool) (x y : Option β) : ift b x y = if b = true then x else y := by cases b <;> rfl

theorem floor_eq {a b : Int} (hb : 0 < b) (hb2 : b ≤ 1000000) (h1 : -1000000000000000 ≤ a) (h2 : a ≤ 1000000000000000) : value_floor a b = some (a / b, a % b) := by
  unfold value_floor value_floor_j1
  rw [grd_pos (by omega), grd_pos (by omega)]
  have hq : -1000000000000000 ≤ a / b ∧ a / b ≤ 1000000000000000 := by
    have e : a = b * (a / b) + a % b := (Int.mul_ediv_add_emod a b).symm
    have r0 := Int.emod_nonneg a (show b ≠ 0 by omega)
    have r1 := Int.emod_lt_of_pos a hb
    constructor
    · apply Int.le_ediv_of_mul_le hb
      have : -1000000000000000 * b ≤ -1000000000000000 * 1 := by apply Int.mul_le_mul_of_nonpos_left <;> omega
      omega
    · apply Int.ediv_le_of_le_mul hb
      have : 1000000000000000 * 1 ≤ 1000000000000000 * b := by apply Int.mul_le_mul_of_nonneg_left <;> omega
      omega
  have r0 := Int.emod_nonneg a (show b ≠ 0 by omega)
  have r1 := Int.emod_lt_of_pos a hb
  rw [Int.tdiv_eq_ediv, Int.tmod_eq_emod]
  have hs : b.sign = 1 := Int.sign_eq_one_of_pos hb
  have hn : (b.natAbs : Int) = b := by omega
  by_cases hc : 0 ≤ a ∨ b ∣ a
  · simp only [hc, if_true, Int.natCast_zero, Int.ofNat_zero, Int.cast_ofNat_Int, Int.sub_zero, Int.add_zero]
    rw [show decide (a % b < 0) = false by simp; omega, ift_false, w64 (by omega) (by omega)]
  · simp only [hc, if_false, hs, hn]
    have hne : a % b ≠ 0 := fun h => hc (.inr (Int.dvd_of_emod_eq_zero h))
    rw [show decide (a % b - b < 0) = true by simp; omega, ift_true]
    simp (disch := omega) only [w64]
    rw [show a / b + 1 - 1 = a / b by omega, show a % b - b + b = a % b by omega]

theorem days_eq {y m d : Int} (h1 : -1000000 ≤ y) (h2 : y ≤ 1000000) (h3 : 1 ≤ m) (h4 : m ≤ 12) (h5 : -100 ≤ d) (h6 : d ≤ 100) : value_days y m d = some (Cal.days y m d) := by
  have key : ∀ y' m', -1000001 ≤ y' → y' ≤ 1000001 → 3 ≤ m' → m' ≤ 14 → value_days_j1 d y' m' = some (y' / 400 * 146097 + S (y' % 400) + mdays (m' - 3) + d - 1 - 719468) := by
    intro y' m' a1 a2 a3 a4
    unfold value_days_j1
    rw [floor_eq (by decide) (by decide) (by omega) (by omega)]
    simp only [bnd_eq]
    have hr : 0 ≤ y' % 400 ∧ y' % 400 ≤ 399 := by omega
    simp (disch := omega) only [w64, Int.tdiv_eq_ediv_of_nonneg]
    unfold S mdays
    congr 1
    omega
  unfold value_days Cal.days
  by_cases hm : m ≤ 2
  · simp only [hm, decide_true, ift_true, if_true]
    simp (disch := omega) only [w64]
    rw [key _ _ (by omega) (by omega) (by omega) (by omega), show m + 12 - 3 = m + 9 by omega]
  · simp only [hm, decide_false, ift_false, if_false]
    rw [key _ _ (by omega) (by omega) (by omega) (by omega)]

theorem S_bound {y : Int} (h0 : 0 ≤ y) (h1 : y ≤ 399) : 0 ≤ S y ∧ S y ≤ 146096 := by unfold S; omega

theorem date_eq {n : Int} (h1 : -1000000000 ≤ n) (h2 : n ≤ 1000000000) : value_date n = some (Cal.date n) := by
  unfold value_date value_date_j1
  rw [w64 (by omega) (by omega), floor_eq (by decide) (by decide) (by omega) (by omega)]
  simp only [bnd_eq]
  have hr0 : 0 ≤ (n + 719468) % 146097 := by omega
  have hr1 : (n + 719468) % 146097 ≤ 146096 := by omega
  have he : -10000 ≤ (n + 719468) / 146097 ∧ (n + 719468) / 146097 ≤ 10000 := by omega
  obtain ⟨b0, b1⟩ := yr_bound hr0 hr1
  obtain ⟨s0, s1, _⟩ := yr_ok hr0 hr1
  unfold Cal.date
  simp only
  generalize (n + 719468) % 146097 = r at *
  generalize (n + 719468) / 146097 = era at *
  have e1 : IntKind.i64.wrap (IntKind.i64.wrap (IntKind.i64.wrap (r - IntKind.i64.wrap (r.tdiv 1460)) + IntKind.i64.wrap (r.tdiv 36524)) - IntKind.i64.wrap (r.tdiv 146096)) = r - r / 1460 + r / 36524 - r / 146096 := by
    simp (disch := omega) only [w64, Int.tdiv_eq_ediv_of_nonneg]
  rw [e1]
  have e2 : IntKind.i64.wrap ((r - r / 1460 + r / 36524 - r / 146096).tdiv 365) = yr r := by
    rw [Int.tdiv_eq_ediv_of_nonneg (by omega)]
    exact w64 (by unfold yr at *; omega) (by unfold yr at *; omega)
  rw [e2]
  generalize yr r = y at *
  have hS := S_bound b0 b1
  have e3 : IntKind.i64.wrap (IntKind.i64.wrap (IntKind.i64.wrap (y * 365) + IntKind.i64.wrap (y.tdiv 4)) - IntKind.i64.wrap (y.tdiv 100)) = S y := by
    simp (disch := omega) only [w64, Int.tdiv_eq_ediv_of_nonneg]
    unfold S; omega
  rw [e3]
  have hk : 0 ≤ r - S y ∧ r - S y ≤ 365 := by omega
  rw [w64 (x := r - S y) (by omega) (by omega)]
  generalize r - S y = k at *
  have e4 : IntKind.i64.wrap ((IntKind.i64.wrap (IntKind.i64.wrap (5 * k) + 2)).tdiv 153) = (5 * k + 2) / 153 := by
    simp (disch := omega) only [w64, Int.tdiv_eq_ediv_of_nonneg]
  rw [e4]
  have hm : 0 ≤ (5 * k + 2) / 153 ∧ (5 * k + 2) / 153 ≤ 11 := by omega
  generalize (5 * k + 2) / 153 = m at *
  unfold mdays
  simp (disch := omega) only [w64, Int.tdiv_eq_ediv_of_nonneg]
  by_cases hc : (12 : Int) < m + 3
  · simp only [hc, decide_true, ift_true, if_true, gt_iff_lt]
  · simp only [hc, decide_false, ift_false, if_false, gt_iff_lt]

/-- civil time -/
def civ (s : Int) : GCivil := ⟨(Cal.date (s / 86400)).1, (Cal.date (s / 86400)).2.1, (Cal.date (s / 86400)).2.2, s % 86400 / 3600, s % 86400 % 3600 / 60, s % 86400 % 60⟩

theorem civil_eq {s : Int} (h1 : -1000000000000 ≤ s) (h2 : s ≤ 1000000000000) : value_civil s = some (civ s) := by
  unfold value_civil
  rw [floor_eq (by decide) (by decide) (by omega) (by omega)]
  simp only [bnd_eq]
  rw [date_eq (by omega) (by omega)]
  simp only [bnd_eq]
  have : 0 ≤ s % 86400 ∧ s % 86400 < 86400 := by omega
  unfold civ
  generalize s % 86400 = t at *
  simp (disch := omega) only [w64, Int.tdiv_eq_ediv_of_nonneg, Int.tmod_eq_emod_of_nonneg]

/-- days have bounds -/
theorem days_bound {y m d : Int} (h1 : -20000 ≤ y) (h2 : y ≤ 20000) (h3 : 1 ≤ m) (h4 : m ≤ 12) (h5 : -100 ≤ d) (h6 : d ≤ 100) : -10000000 ≤ Cal.days y m d ∧ Cal.days y m d ≤ 10000000 := by
  unfold Cal.days S mdays; split <;> omega

def sec (c : GCivil) : Int := Cal.days c.year c.month c.day * 86400 + c.hour * 3600 + c.minute * 60 + c.second

/-- civil times that can be counted -/
structure Fine (c : GCivil) : Prop where
  y0 : -20000 ≤ c.year
  y1 : c.year ≤ 20000
  m0 : 1 ≤ c.month
  m1 : c.month ≤ 12
  d0 : -100 ≤ c.day
  d1 : c.day ≤ 100
  h0 : 0 ≤ c.hour
  h1 : c.hour ≤ 23
  i0 : 0 ≤ c.minute
  i1 : c.minute ≤ 59
  s0 : 0 ≤ c.second
  s1 : c.second ≤ 59

theorem sec_bound {c : GCivil} (h : Fine c) : -900000000000 ≤ sec c ∧ sec c ≤ 900000000000 := by
  obtain ⟨y0, y1, m0, m1, d0, d1, h0, h1, i0, i1, s0, s1⟩ := h
  have := days_bound y0 y1 m0 m1 d0 d1
  unfold sec; omega

theorem seconds_eq {c : GCivil} (h : Fine c) : value_seconds c = some (sec c) := by
  obtain ⟨y0, y1, m0, m1, d0, d1, h0, h1, i0, i1, s0, s1⟩ := h
  have := days_bound y0 y1 m0 m1 d0 d1
  unfold value_seconds
  rw [days_eq (by omega) (by omega) m0 m1 d0 d1]
  simp only [bnd_eq]
  unfold sec
  simp (disch := omega) only [w64]

theorem weekday_eq {n : Int} (h1 : -1000000000 ≤ n) (h2 : n ≤ 1000000000) : value_weekday n = some ((n + 3) % 7 + 1) := by
  unfold value_weekday
  rw [w64 (by omega) (by omega), floor_eq (by decide) (by decide) (by omega) (by omega)]
  simp only [bnd_eq]
  rw [w64 (by omega) (by omega)]

theorem tmod_zero (a b : Int) : (a.tmod b == 0) = (a % b == 0) := by
  have : a.tmod b = 0 ↔ a % b = 0 := by
    rw [← Int.dvd_iff_tmod_eq_zero, ← Int.dvd_iff_emod_eq_zero]
  by_cases h : a % b = 0
  · rw [h, this.2 h]
  · have h2 : a.tmod b ≠ 0 := fun e => h (this.1 e)
    rw [beq_eq_false_iff_ne.2 h2, beq_eq_false_iff_ne.2 h]

theorem leap_eq (y : Int) : value_leap y = some (decide (leap y)) := by
  unfold value_leap value_leap_j1
  have e2 : ((y.tmod 100) != 0) = !(y % 100 == 0) := by rw [bne, tmod_zero]
  rw [tmod_zero, tmod_zero, e2]
  unfold leap
  by_cases a : y % 4 = 0
  · by_cases b : y % 100 = 0
    · by_cases c : y % 400 = 0
      · simp [a, b, c, ift_ite]
      · simp [a, b, c, ift_ite]
    · simp [a, b, ift_ite]
  · simp [a, ift_ite]

theorem daysIn_eq {y m : Int} : value_daysIn y m = some (dim y m) := by
  unfold value_daysIn value_daysIn_j1 dim
  rw [leap_eq]
  simp only [bnd_eq]
  by_cases h2 : m = 2
  · subst h2
    by_cases hl : leap y <;> simp [hl, ift_ite]
  by_cases h4 : m = 4
  · subst h4; simp [ift_ite]
  by_cases h6 : m = 6
  · subst h6; simp [ift_ite]
  by_cases h9 : m = 9
  · subst h9; simp [ift_ite]
  by_cases h11 : m = 11
  · subst h11; simp [ift_ite]
  simp [h2, h4, h6, h9, h11, ift_ite]

theorem dim_bound (y m : Int) : 28 ≤ dim y m ∧ dim y m ≤ 31 := by
  unfold dim; split <;> (try split) <;> (try split) <;> omega

theorem within_eq (a b c : Int) : value_within a b c = some (decide (b ≤ a ∧ a ≤ c)) := by
  unfold value_within value_within_j1
  by_cases h : b ≤ a <;> by_cases k : a ≤ c <;> simp [h, k, ift_ite]

theorem check_eq (c : GCivil) : value_checkCivil c = some (if 1 ≤ c.year ∧ c.year ≤ 9999 ∧ 1 ≤ c.month ∧ c.month ≤ 12 ∧ 1 ≤ c.day ∧ c.day ≤ dim c.year c.month ∧ 0 ≤ c.hour ∧ c.hour ≤ 23 ∧ 0 ≤ c.minute ∧ c.minute ≤ 59 ∧ 0 ≤ c.second ∧ c.second ≤ 59 then 0 else 3) := by
  unfold value_checkCivil value_checkCivil_j1 value_checkCivil_j2
  simp only [within_eq, daysIn_eq, bnd_eq]
  by_cases h1 : 1 ≤ c.year ∧ c.year ≤ 9999
  · by_cases h2 : 1 ≤ c.month ∧ c.month ≤ 12
    · by_cases h3 : 1 ≤ c.day ∧ c.day ≤ dim c.year c.month
      · by_cases h4 : 0 ≤ c.hour ∧ c.hour ≤ 23
        · by_cases h5 : 0 ≤ c.minute ∧ c.minute ≤ 59
          · by_cases h6 : 0 ≤ c.second ∧ c.second ≤ 59
            · simp [h1, h2, h3, h4, h5, h6, ift_ite]
            · rw [if_neg (by omega)]; simp [h1, h2, h3, h4, h5, h6, ift_ite]
          · rw [if_neg (by omega)]; simp [h1, h2, h3, h4, h5, ift_ite]
        · rw [if_neg (by omega)]; simp [h1, h2, h3, h4, ift_ite]
      · rw [if_neg (by omega)]; simp [h1, h2, h3, ift_ite]
    · rw [if_neg (by omega)]; simp [h1, h2, ift_ite]
  · rw [if_neg (by omega)]; simp [h1, ift_ite]

end Go.Proofs.Ytdkmclmdemngfaa
