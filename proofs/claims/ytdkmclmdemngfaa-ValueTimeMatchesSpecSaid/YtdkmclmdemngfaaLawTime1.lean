/- What the reference computes for civil time. -/
import Derived.Test.YtdkmclmdemngfaaLawClock3
namespace Go.Proofs.Ytdkmclmdemngfaa
open Go Go.SX Go.SX.Cal
set_option linter.unusedVariables false
set_option linter.unusedSimpArgs false

theorem rfloor_eq {a b : Int} (hb : 0 < b) (hb2 : b ≤ 1000000) (h1 : -1000000000000000 ≤ a) (h2 : a ≤ 1000000000000000) : ref1_floor a b = some (a / b) := by
  have hf := floor_eq hb hb2 h1 h2
  unfold value_floor value_floor_j1 at hf
  unfold ref1_floor ref1_floor_j1 ref1_floor_j2
  rw [grd_pos (by omega), grd_pos (by omega)] at hf ⊢
  have hsgn : decide (b < 0) = false := by simp; omega
  rw [hsgn]
  by_cases h0 : a.tmod b = 0
  · rw [h0] at hf ⊢
    rw [show decide ((0 : Int) < 0) = false from rfl, ift_false] at hf
    rw [show ((0 : Int) != 0) = false from rfl, ift_false, ift_false]
    have := congrArg (Option.map Prod.fst) hf
    simpa using this
  · have hne : (a.tmod b != 0) = true := by simp [h0]
    rw [hne, ift_true]
    by_cases ha : a < 0
    · have hneg : a.tmod b < 0 := by
        have r1 := Int.emod_lt_of_pos a hb
        have r0 := Int.emod_nonneg a (show b ≠ 0 by omega)
        have e := Int.tmod_eq_emod (a := a) (b := b)
        by_cases hd : b ∣ a
        · exfalso
          exact h0 (Int.tmod_eq_zero_of_dvd hd)
        · rw [if_neg (by omega)] at e
          have : (b.natAbs : Int) = b := by omega
          omega
      rw [show decide (a.tmod b < 0) = true by simpa using hneg, ift_true] at hf
      rw [show decide (a < 0) = true by simpa using ha]
      have := congrArg (Option.map Prod.fst) hf
      simpa [ift_ite] using this
    · have hpos : ¬ a.tmod b < 0 := by
        have := Int.tmod_nonneg (a := a) b (by omega)
        omega
      rw [show decide (a.tmod b < 0) = false by simpa using hpos, ift_false] at hf
      rw [show decide (a < 0) = false by simpa using ha]
      have := congrArg (Option.map Prod.fst) hf
      simpa [ift_ite] using this

theorem rleap_eq (y : Int) : ref1_leap y = some (decide (leap y)) := leap_eq y

theorem rdim_eq {y m : Int} : ref1_MonthDays y m = some (dim y m) := daysIn_eq

theorem rwithin_eq (a b c : Int) : ref1_within a b c = some (decide (b ≤ a ∧ a ≤ c)) := within_eq a b c

theorem rweekday_eq {n : Int} (h1 : -1000000000 ≤ n) (h2 : n ≤ 1000000000) : ref1_weekday n = some ((n + 3) % 7 + 1) := by
  unfold ref1_weekday
  rw [w64 (by omega) (by omega), rfloor_eq (by decide) (by decide) (by omega) (by omega)]
  simp only [bnd_eq]
  simp (disch := omega) only [w64]
  congr 1
  omega

theorem jan_zero : Cal.days 0 1 1 = -719528 := by decide +kernel

theorem yearStart_eq {y : Int} (h1 : 0 ≤ y) (h2 : y ≤ 20000) : ref1_yearStart y = some (Cal.days y 1 1) := by
  unfold ref1_yearStart ref1_yearStart_j1
  by_cases hy : 0 < y
  · rw [show decide (0 < y) = true by simpa using hy, ift_true]
    simp only [bnd_eq]
    simp (disch := omega) only [w64, Int.tdiv_eq_ediv_of_nonneg]
    congr 1
    rw [days_jan]
    unfold E S
    omega
  · have : y = 0 := by omega
    subst this
    rw [jan_zero]; rfl

theorem month_step (y k : Int) (h1 : 1 ≤ k) (h2 : k ≤ 11) : Cal.days y (k + 1) 1 = Cal.days y k 1 + dim y k := by
  have hE := E_step (y - 1)
  rw [show y - 1 + 1 = y by omega] at hE
  rw [days_E, days_E]
  unfold dim
  have hc : k = 1 ∨ k = 2 ∨ k = 3 ∨ k = 4 ∨ k = 5 ∨ k = 6 ∨ k = 7 ∨ k = 8 ∨ k = 9 ∨ k = 10 ∨ k = 11 := by omega
  rcases hE with ⟨hl, hE⟩ | ⟨hl, hE⟩ <;> simp only [hl, if_true, if_false] <;> rcases hc with rfl | rfl | rfl | rfl | rfl | rfl | rfl | rfl | rfl | rfl | rfl <;> simp [mdays] <;> omega

theorem days_d (y m d : Int) : Cal.days y m d = Cal.days y m 1 + d - 1 := by
  rw [days_E, days_E]; split <;> omega

theorem rDays_loop {y m d : Int} (h1 : 0 ≤ y) (h2 : y ≤ 20000) (h3 : 1 ≤ m) (h4 : m ≤ 12) (h5 : -100 ≤ d) (h6 : d ≤ 100) : ∀ (k : Nat) (x : Int), 1 ≤ x → x ≤ m → m - x < k →
    ref1_Days_l1 y m d k (Cal.days y x 1) x = some (Cal.days y m d) := by
  intro k
  induction k with
  | zero => intro x a b c; omega
  | succ k ih =>
    intro x a b c
    rw [ref1_Days_l1]
    have hb := days_bound (y := y) (m := x) (d := 1) (by omega) (by omega) a (by omega) (by decide) (by decide)
    have hd := dim_bound y x
    by_cases hx : x < m
    · rw [show decide (x < m) = true by simpa using hx, ift_true, rdim_eq]
      simp only [bnd_eq]
      rw [w64 (by omega) (by omega), w64 (by omega) (by omega), ← month_step y x a (by omega), ih (x + 1) (by omega) (by omega) (by omega)]
    · have : x = m := by omega
      subst this
      rw [show decide (x < x) = false by simp, ift_false]
      unfold ref1_Days_j1
      simp (disch := omega) only [w64]
      rw [days_d y x d]

theorem rDays_eq {y m d : Int} (h1 : 0 ≤ y) (h2 : y ≤ 20000) (h3 : 1 ≤ m) (h4 : m ≤ 12) (h5 : -100 ≤ d) (h6 : d ≤ 100) : ref1_Days y m d = some (Cal.days y m d) := by
  unfold ref1_Days
  rw [yearStart_eq h1 h2]
  simp only [bnd_eq]
  exact rDays_loop h1 h2 h3 h4 h5 h6 BIG 1 (by decide) h3 (by rw [big_val]; omega)

theorem civil_months {s Y M D : Int} (hs1 : -1000000000000 ≤ s) (hs2 : s ≤ 1000000000000) (hY : 0 ≤ Y) (hY2 : Y ≤ 20000) (hM1 : 1 ≤ M) (hM2 : M ≤ 12) (hD1 : 1 ≤ D) (hD2 : D ≤ dim Y M) (hn : Cal.days Y M D = s / 86400) :
    ∀ (k : Nat) (b : Int), 1 ≤ b → b ≤ M → M - b < k → ref1_civil_l2 s (s / 86400) Y k b (s / 86400 - Cal.days Y b 1) = some ⟨Y, M, D, s % 86400 / 3600, s % 86400 % 3600 / 60, s % 86400 % 60⟩ := by
  intro k
  induction k with
  | zero => intro b h1 h2 h3; omega
  | succ k ih =>
    intro b h1 h2 h3
    rw [ref1_civil_l2]
    have hd := dim_bound Y b
    have hdM := dim_bound Y M
    have hbd := days_bound (y := Y) (m := b) (d := 1) (by omega) (by omega) h1 (by omega) (by decide) (by decide)
    rw [rdim_eq]
    simp only [bnd_eq]
    by_cases hb : b < M
    · have hle : dim Y b ≤ s / 86400 - Cal.days Y b 1 := by
        have e1 := month_step Y b h1 (by omega)
        -- months from b + 1 on come later
        have mono : ∀ (j : Nat), b + 1 + j ≤ M → Cal.days Y (b + 1) 1 ≤ Cal.days Y (b + 1 + j) 1 := by
          intro j
          induction j with
          | zero => intro _; simp
          | succ j ihj =>
            intro hj
            have := ihj (by omega)
            have e2 := month_step Y (b + 1 + j) (by omega) (by omega)
            have e3 := dim_bound Y (b + 1 + j)
            rw [show b + 1 + ((j + 1 : Nat) : Int) = b + 1 + j + 1 by omega, e2]
            omega
        have := mono (M - (b + 1)).toNat (by omega)
        rw [show b + 1 + ((M - (b + 1)).toNat : Int) = M by omega] at this
        have e4 := days_d Y M D
        omega
      rw [show decide (dim Y b ≤ s / 86400 - Cal.days Y b 1) = true by simpa using hle, ift_true]
      rw [w64 (by omega) (by omega), w64 (by omega) (by omega), show s / 86400 - Cal.days Y b 1 - dim Y b = s / 86400 - Cal.days Y (b + 1) 1 by rw [month_step Y b h1 (by omega)]; omega]
      exact ih (b + 1) (by omega) (by omega) (by omega)
    · have : b = M := by omega
      subst this
      have e4 := days_d Y b D
      rw [show decide (dim Y b ≤ s / 86400 - Cal.days Y b 1) = false by simp; omega, ift_false]
      unfold ref1_civil_j2
      have ht : 0 ≤ s - 86400 * (s / 86400) ∧ s - 86400 * (s / 86400) < 86400 := by omega
      simp (disch := omega) only [w64, Int.tdiv_eq_ediv_of_nonneg, Int.tmod_eq_emod_of_nonneg]
      simp only [bnd_eq]
      have e5 : s - 86400 * (s / 86400) = s % 86400 := by omega
      rw [e5, show s / 86400 - Cal.days Y b 1 + 1 = D by omega]
      have e6 : s % 86400 / 60 % 60 = s % 86400 % 3600 / 60 := by omega
      simp (disch := omega) only [w64, Int.tmod_eq_emod_of_nonneg]
      rw [e6]

theorem civil_years {s Y : Int} (hs1 : -1000000000000 ≤ s) (hs2 : s ≤ 1000000000000) (hYd : (Cal.date (s / 86400)).1 = Y) : ∀ (k : Nat) (lo hi : Int), 0 ≤ lo → lo ≤ Y → Y < hi → hi ≤ 10001 → hi - lo ≤ k →
    ref1_civil_l1 s (s / 86400) k lo hi = some (civ s) := by
  intro k
  induction k with
  | zero => intro lo hi a b c d e; omega
  | succ k ih =>
    intro lo hi a b c d e
    rw [ref1_civil_l1]
    rw [w64 (x := hi - lo) (by omega) (by omega), w64 (x := lo + hi) (by omega) (by omega)]
    by_cases h1 : 1 < hi - lo
    · rw [show decide (1 < hi - lo) = true by simpa using h1, ift_true]
      simp (disch := omega) only [w64, Int.tdiv_eq_ediv_of_nonneg]
      rw [yearStart_eq (by omega) (by omega)]
      simp only [bnd_eq]
      obtain ⟨y1, y2⟩ := year_iff.1 hYd
      by_cases hm : (lo + hi) / 2 ≤ Y
      · have := days_mono hm
        rw [show decide (Cal.days ((lo + hi) / 2) 1 1 ≤ s / 86400) = true by simp; omega, ift_true]
        exact ih _ _ (by omega) hm c d (by omega)
      · have := days_mono (y := Y + 1) (z := (lo + hi) / 2) (by omega)
        rw [show decide (Cal.days ((lo + hi) / 2) 1 1 ≤ s / 86400) = false by simp; omega, ift_false]
        exact ih _ _ a b (by omega) (by omega) (by omega)
    · rw [show decide (1 < hi - lo) = false by simpa using h1, ift_false]
      have : lo = Y := by omega
      subst this
      unfold ref1_civil_j1
      rw [yearStart_eq (by omega) (by omega)]
      simp only [bnd_eq]
      have hb := days_bound (y := lo) (m := 1) (d := 1) (by omega) (by omega) (by decide) (by decide) (by decide) (by decide)
      rw [w64 (by omega) (by omega)]
      obtain ⟨e1, m0, m1, d0, d1⟩ := date_ok (s / 86400)
      rw [hYd] at e1 d1
      have := civil_months hs1 hs2 (by omega) (by omega) m0 m1 d0 d1 e1 BIG 1 (by decide) m0 (by rw [big_val]; omega)
      rw [this]
      unfold civ
      rw [hYd]

theorem rcivil_eq {s : Int} (hs1 : -1000000000000 ≤ s) (hs2 : s ≤ 1000000000000) (h0 : 0 ≤ (Cal.date (s / 86400)).1) (h1 : (Cal.date (s / 86400)).1 ≤ 10000) : ref1_civil s = some (civ s) := by
  unfold ref1_civil
  rw [rfloor_eq (by decide) (by decide) (by omega) (by omega)]
  simp only [bnd_eq]
  exact civil_years hs1 hs2 rfl BIG 0 10001 (by decide) h0 (by omega) (by decide) (by rw [big_val]; decide)

/-- the years of moments -/
theorem years_of {s : Int} (h1 : -62160000000 ≤ s) (h2 : s ≤ 253402400799) : 0 ≤ (Cal.date (s / 86400)).1 ∧ (Cal.date (s / 86400)).1 ≤ 10000 := by
  obtain ⟨a1, a2⟩ := (year_iff (n := s / 86400) (y := (Cal.date (s / 86400)).1)).1 rfl
  have e0 := jan_zero
  have e1 : Cal.days 10001 1 1 = 2933263 := by decide +kernel
  constructor
  · apply Classical.byContradiction
    intro hn
    have := days_mono (y := (Cal.date (s / 86400)).1 + 1) (z := 0) (by omega)
    omega
  · apply Classical.byContradiction
    intro hn
    have := days_mono (y := 10001) (z := (Cal.date (s / 86400)).1) (by omega)
    omega

/-! ### turns -/

def Ld (d0 : Int) (c : Nat) : List Int := (List.range c).map fun (i : Nat) => d0 + 7 * (i : Int)

theorem Ld_succ (d0 : Int) (c : Nat) : Ld d0 (c + 1) = Ld d0 c ++ [d0 + 7 * (c : Int)] := by simp [Ld, List.range_succ]

theorem Ld_at (d0 : Int) (c : Nat) (k : Int) (h0 : 0 ≤ k) (h1 : k < c) : at? (Ld d0 c) k = some (d0 + 7 * k) := by
  unfold at? Ld
  rw [if_pos h0]
  have : k.toNat < c := by omega
  simp [this]
  omega

theorem turn_end {t : GTurn} {y : Int} (ht : TOk t) (h1 : 0 ≤ y) (h2 : y ≤ 20000) {c : Nat} (hc0 : 1 ≤ c) (hc1 : atN t y - Cal.days y t.month 1 + 1 + 7 * ((c : Int) - 1) ≤ dim y t.month) (hc2 : dim y t.month < atN t y - Cal.days y t.month 1 + 1 + 7 * (c : Int)) :
    ref1_turn_j2 y t (Ld (atN t y - Cal.days y t.month 1 + 1) c) = some (atDay t y * 86400 + t.minute * 60) := by
  have hb := days_bound (y := y) (m := t.month) (d := 1) (by omega) (by omega) ht.m0 ht.m1 (by decide) (by decide)
  have hn := atN_bound (t := t) y
  have hdim := dim_bound y t.month
  obtain ⟨m0, m1, w0, w1, d0, d1, i0, i1⟩ := id ht
  unfold ref1_turn_j2
  have hlen : (Ld (atN t y - Cal.days y t.month 1 + 1) c).length = c := by simp [Ld]
  rw [hlen, w64 (x := t.week - 1) (by omega) (by omega)]
  simp only [bnd_eq]
  have fin : ∀ k : Int, 0 ≤ k → k < c → ref1_turn_j3 y t (Ld (atN t y - Cal.days y t.month 1 + 1) c) k = some ((atN t y + 7 * k) * 86400 + t.minute * 60) := by
    intro k k0 k1
    unfold ref1_turn_j3
    rw [Ld_at _ _ _ k0 k1]
    simp only [bnd_eq]
    rw [rDays_eq h1 h2 m0 m1 (by omega) (by omega), days_d]
    simp only [bnd_eq]
    have : Cal.days y t.month 1 + (atN t y - Cal.days y t.month 1 + 1 + 7 * k) - 1 = atN t y + 7 * k := by omega
    rw [this]
    simp (disch := omega) only [w64]
    congr 1
    omega
  unfold atDay
  by_cases hk : (c : Int) ≤ t.week - 1
  · rw [show decide ((c : Int) ≤ t.week - 1) = true by simpa using hk, ift_true, w64 (by omega) (by omega), fin _ (by omega) (by omega)]
    have : ¬ t.week < 5 := by omega
    rw [if_neg this]
    congr 3
    omega
  · rw [show decide ((c : Int) ≤ t.week - 1) = false by simpa using hk, ift_false, fin _ (by omega) (by omega)]
    by_cases hw : t.week < 5
    · rw [if_pos hw]; congr 3; omega
    · rw [if_neg hw]
      have : t.week = 5 := by omega
      rw [this]
      congr 3
      omega

theorem turn_loop {t : GTurn} {y : Int} (ht : TOk t) (h1 : 0 ≤ y) (h2 : y ≤ 20000) : ∀ (k : Nat) (c : Nat) (x : Int), 1 ≤ x → x ≤ dim y t.month + 1 → dim y t.month + 1 - x < k →
    (c = 0 ∨ atN t y - Cal.days y t.month 1 + 1 + 7 * ((c : Int) - 1) < x) → x ≤ atN t y - Cal.days y t.month 1 + 1 + 7 * (c : Int) →
    ref1_turn_l1 y t k (Ld (atN t y - Cal.days y t.month 1 + 1) c) x = some (atDay t y * 86400 + t.minute * 60) := by
  have hb := days_bound (y := y) (m := t.month) (d := 1) (by omega) (by omega) ht.m0 ht.m1 (by decide) (by decide)
  have hn := atN_bound (t := t) y
  have hdim := dim_bound y t.month
  obtain ⟨m0, m1, w0, w1, d0, d1, i0, i1⟩ := id ht
  intro k
  induction k with
  | zero => intro c x a b e; omega
  | succ k ih =>
    intro c x a b e f g
    rw [ref1_turn_l1, rdim_eq]
    simp only [bnd_eq]
    by_cases hx : x ≤ dim y t.month
    · rw [show decide (x ≤ dim y t.month) = true by simpa using hx, ift_true, rDays_eq h1 h2 m0 m1 (by omega) (by omega), days_d]
      simp only [bnd_eq]
      rw [rweekday_eq (by omega) (by omega)]
      simp only [bnd_eq]
      unfold ref1_turn_j1
      have hcl : (c : Int) ≤ 5 := by omega
      by_cases hm : x = atN t y - Cal.days y t.month 1 + 1 + 7 * (c : Int)
      · have hw : ((Cal.days y t.month 1 + x - 1 + 3) % 7 + 1 == t.weekday) = true := by
          simp only [beq_iff_eq]
          unfold atN at hm
          omega
        rw [hw, ift_true, grd_pos (by simp [Ld]; omega), w64 (by omega) (by omega)]
        have : Ld (atN t y - Cal.days y t.month 1 + 1) c ++ [x] = Ld (atN t y - Cal.days y t.month 1 + 1) (c + 1) := by rw [Ld_succ, hm]
        rw [this]
        refine ih (c + 1) (x + 1) (by omega) (by omega) (by omega) (.inr ?_) ?_
        · rw [show ((c + 1 : Nat) : Int) - 1 = c by omega]; omega
        · rw [show ((c + 1 : Nat) : Int) = c + 1 by omega]; omega
      · have hw : ((Cal.days y t.month 1 + x - 1 + 3) % 7 + 1 == t.weekday) = false := by
          simp only [beq_eq_false_iff_ne]
          intro hw
          unfold atN at *
          rcases f with rfl | f
          · omega
          · omega
        rw [hw, ift_false, w64 (by omega) (by omega)]
        refine ih c (x + 1) (by omega) (by omega) (by omega) ?_ (by omega)
        rcases f with f | f
        · exact .inl f
        · exact .inr (by omega)
    · rw [show decide (x ≤ dim y t.month) = false by simpa using hx, ift_false]
      have hc0 : 1 ≤ c := by omega
      exact turn_end ht h1 h2 hc0 (by omega) (by omega)

theorem turn_eq {t : GTurn} {y : Int} (ht : TOk t) (h1 : 0 ≤ y) (h2 : y ≤ 20000) : ref1_turn y t = some (atDay t y * 86400 + t.minute * 60) := by
  unfold ref1_turn
  have hn := atN_bound (t := t) y
  have hdim := dim_bound y t.month
  exact turn_loop ht h1 h2 BIG 0 1 (by decide) (by omega) (by rw [big_val]; omega) (.inl rfl) (by simp; omega)

theorem rahead_eq {z : GZone} {m : Int} (hz : ZOk z) (h1 : -62135650000 ≤ m) (h2 : m ≤ 253402350000) : ref1_ahead z m = some (ahd z m) := by
  obtain ⟨o0, o1, hs⟩ := hz
  unfold ref1_ahead ahd
  have hs0 : 0 ≤ z.summer ∧ z.summer ≤ 60 := by rcases hs with h | ⟨_, _, h, _⟩ <;> omega
  have e60 : (60 : Int) * z.offset = z.offset * 60 := Int.mul_comm _ _
  have e61 : (60 : Int) * z.summer = z.summer * 60 := Int.mul_comm _ _
  rw [e60, e61, w64 (x := z.offset * 60) (by omega) (by omega), w64 (x := z.summer * 60) (by omega) (by omega)]
  rcases hs with hs | ⟨t1, t2, hs, _, _⟩
  · simp [hs, ift_ite]
  have hne : z.summer ≠ 0 := by omega
  have e0 : (z.summer == 0) = false := beq_eq_false_iff_ne.2 (by omega)
  have hyr := years_of (s := m + z.offset * 60) (by omega) (by omega)
  rw [e0, ift_false, if_neg hne, w64 (x := m + z.offset * 60) (by omega) (by omega), rcivil_eq (by omega) (by omega) hyr.1 hyr.2]
  simp only [bnd_eq]
  have hy : (civ (m + z.offset * 60)).year = yof z m := rfl
  have hyb : 0 ≤ yof z m ∧ yof z m ≤ 10000 := hyr
  rw [hy, turn_eq t1 hyb.1 (by omega)]
  simp only [bnd_eq]
  rw [turn_eq t2 hyb.1 (by omega)]
  simp only [bnd_eq]
  have b1 := atDay_bound t1 (yof z m)
  have b2 := atDay_bound t2 (yof z m)
  have c1 := days_bound (d := 1) (y := yof z m) (by omega) (by omega) t1.m0 t1.m1 (by decide) (by decide)
  have c2 := days_bound (d := 1) (y := yof z m) (by omega) (by omega) t2.m0 t2.m1 (by decide) (by decide)
  have i1 := t1.i0; have i2 := t1.i1; have i3 := t2.i0; have i4 := t2.i1
  have e1 : IntKind.i64.wrap (atDay z.start (yof z m) * 86400 + z.start.minute * 60 - z.offset * 60) = bgn z (yof z m) := w64 (by omega) (by omega)
  have e2 : IntKind.i64.wrap (IntKind.i64.wrap (atDay z.stop (yof z m) * 86400 + z.stop.minute * 60 - z.offset * 60) - z.summer * 60) = fin z (yof z m) := by
    simp (disch := omega) only [w64]; rfl
  unfold ref1_ahead_j1 ref1_ahead_j2
  rw [e60, e61, w64 (x := z.offset * 60) (by omega) (by omega), w64 (x := z.summer * 60) (by omega) (by omega), w64 (x := z.offset * 60 + z.summer * 60) (by omega) (by omega)]
  simp only [bnd_eq]
  rw [e1, e2]
  unfold isIn
  by_cases hbe : fin z (yof z m) ≤ bgn z (yof z m) <;> by_cases hb : bgn z (yof z m) ≤ m <;> by_cases he : m < fin z (yof z m) <;> simp [hbe, hb, he, ift_ite]

end Go.Proofs.Ytdkmclmdemngfaa
