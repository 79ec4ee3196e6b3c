/- The calendar, in plain integers. Bins: both sides put sizes together alike. -/
import Derived.Test.YtbmkkmbgoenllaaGeA
set_option linter.unusedVariables false
set_option linter.unusedSimpArgs false
set_option linter.unnecessarySimpa false
namespace Go.SX.Cal
open Go
set_option linter.unusedVariables false

theorem w64 {x : Int} (h1 : -9223372036854775808 ≤ x) (h2 : x ≤ 9223372036854775807) : IntKind.i64.wrap x = x := by
  simp only [IntKind.wrap, IntKind.bits, IntKind.signed]
  simp only [Bool.true_and, decide_eq_true_eq, ge_iff_le]
  split <;> omega

/-! ### years of an era -/

def S (y : Int) : Int := 365 * y + y / 4 - y / 100
def F (r : Int) : Int := r - r / 1460 + r / 36524
def yr (r : Int) : Int := (r - r / 1460 + r / 36524 - r / 146096) / 365

theorem table : ((List.range 400).all fun y => decide (F (S (y : Int)) / 365 = y ∧ F (S ((y : Int) + 1) - 1) / 365 = y)) = true := by decide +kernel

theorem table_at {y : Int} (h0 : 0 ≤ y) (h1 : y ≤ 399) : F (S y) / 365 = y ∧ F (S (y + 1) - 1) / 365 = y := by
  have := List.all_eq_true.1 table y.toNat (List.mem_range.2 (by omega))
  have h := of_decide_eq_true this
  rw [Int.toNat_of_nonneg h0] at h
  exact h

theorem F_mono {r s : Int} (h : r ≤ s) : F r ≤ F s := by unfold F; omega

theorem yr_bound {r : Int} (h0 : 0 ≤ r) (h1 : r ≤ 146096) : 0 ≤ yr r ∧ yr r ≤ 399 := by unfold yr; omega

theorem yr_eq {r : Int} (h0 : 0 ≤ r) (h1 : r ≤ 146095) : yr r = F r / 365 := by
  unfold yr F
  have : r / 146096 = 0 := by omega
  rw [this, Int.sub_zero]

/-- a year has 366 days -/
def leap (y : Int) : Prop := y % 4 = 0 ∧ (y % 100 ≠ 0 ∨ y % 400 = 0)

instance (y : Int) : Decidable (leap y) := by unfold leap; infer_instance

theorem yr_ok {r : Int} (h0 : 0 ≤ r) (h1 : r ≤ 146096) : S (yr r) ≤ r ∧ r ≤ S (yr r) + 365 ∧ (r = S (yr r) + 365 → leap (yr r + 1)) := by
  obtain ⟨b0, b1⟩ := yr_bound h0 h1
  by_cases hr : r = 146096
  · subst hr; decide +kernel
  have h2 : r ≤ 146095 := by omega
  have e := yr_eq h0 h2
  generalize yr r = y at *
  have lo : S y ≤ r := by
    apply Classical.byContradiction
    intro hn
    have hy : 1 ≤ y := by
      apply Classical.byContradiction
      intro hy
      have : y = 0 := by omega
      subst this
      simp [S] at hn
      omega
    have t := (table_at (y := y - 1) (by omega) (by omega)).2
    rw [show y - 1 + 1 = y by omega] at t
    have := F_mono (show r ≤ S y - 1 by omega)
    have : F r / 365 ≤ y - 1 := by rw [← t]; exact Int.ediv_le_ediv (by decide) this
    omega
  have hi : r < S (y + 1) ∨ y = 399 := by
    by_cases hy : y = 399
    · exact .inr hy
    left
    apply Classical.byContradiction
    intro hn
    have t := (table_at (y := y + 1) (by omega) (by omega)).1
    have := F_mono (show S (y + 1) ≤ r by omega)
    have : y + 1 ≤ F r / 365 := by rw [← t]; exact Int.ediv_le_ediv (by decide) this
    omega
  refine ⟨lo, ?_, fun he => ?_⟩
  · rcases hi with hi | rfl
    · unfold S at *; omega
    · simp [S] at *; omega
  · rcases hi with hi | rfl
    · unfold S at *
      have h4 : (y + 1) / 4 = y / 4 + 1 ∧ (y + 1) / 100 = y / 100 := by omega
      exact ⟨by omega, .inl (by omega)⟩
    · simp [S] at *; omega

/-! ### days -/

def mdays (m : Int) : Int := (153 * m + 2) / 5

/-- days from 1970-01-01 -/
def days (y m d : Int) : Int :=
  if m ≤ 2 then (y - 1) / 400 * 146097 + S ((y - 1) % 400) + mdays (m + 9) + d - 1 - 719468 else y / 400 * 146097 + S (y % 400) + mdays (m - 3) + d - 1 - 719468

def dim (y m : Int) : Int := if m = 2 then (if leap y then 29 else 28) else if m = 4 ∨ m = 6 ∨ m = 9 ∨ m = 11 then 30 else 31

def date (n : Int) : Int × Int × Int :=
  let era := (n + 719468) / 146097
  let r := (n + 719468) % 146097
  let y := yr r
  let k := r - S y
  let m := (5 * k + 2) / 153
  let d := k - mdays m + 1
  if m + 3 > 12 then (era * 400 + y + 1, m + 3 - 12, d) else (era * 400 + y, m + 3, d)

theorem date_ok (n : Int) : days (date n).1 (date n).2.1 (date n).2.2 = n ∧ 1 ≤ (date n).2.1 ∧ (date n).2.1 ≤ 12 ∧ 1 ≤ (date n).2.2 ∧ (date n).2.2 ≤ dim (date n).1 (date n).2.1 := by
  simp only [date]
  have hr0 : 0 ≤ (n + 719468) % 146097 := by omega
  have hr1 : (n + 719468) % 146097 ≤ 146096 := by omega
  have hn : n + 719468 = (n + 719468) / 146097 * 146097 + (n + 719468) % 146097 := by omega
  generalize (n + 719468) % 146097 = r at *
  generalize (n + 719468) / 146097 = era at *
  obtain ⟨b0, b1⟩ := yr_bound hr0 hr1
  obtain ⟨s0, s1, s2⟩ := yr_ok hr0 hr1
  generalize yr r = y at *
  have hk0 : 0 ≤ r - S y := by omega
  have hk1 : r - S y ≤ 365 := by omega
  have hk2 : r - S y = 365 → leap (y + 1) := fun h => s2 (by omega)
  have hrk : r = S y + (r - S y) := by omega
  generalize r - S y = k at *
  subst hrk
  have hm0 : 0 ≤ (5 * k + 2) / 153 := by omega
  have hm1 : (5 * k + 2) / 153 ≤ 11 := by omega
  have hd : 1 ≤ k - mdays ((5 * k + 2) / 153) + 1 := by unfold mdays; omega
  have hd2 : k ≤ mdays ((5 * k + 2) / 153 + 1) - 1 := by unfold mdays; omega
  generalize hm : (5 * k + 2) / 153 = m at *
  by_cases hc : m + 3 > 12
  · simp only [hc, if_true]
    have e1 : (era * 400 + y + 1 - 1) / 400 = era := by omega
    have e2 : (era * 400 + y + 1 - 1) % 400 = y := by omega
    refine ⟨?_, by omega, by omega, hd, ?_⟩
    · unfold days
      rw [if_pos (by omega), e1, e2, show m + 3 - 12 + 9 = m by omega]
      omega
    · unfold dim
      have hcase : m = 10 ∨ m = 11 := by omega
      rcases hcase with rfl | rfl
      · simp [mdays] at *; omega
      · have hL : leap (era * 400 + y + 1) ↔ leap (y + 1) := by unfold leap; omega
        simp only [show (11 : Int) + 3 - 12 = 2 by rfl, if_true]
        by_cases hl : leap (y + 1)
        · rw [if_pos (hL.2 hl)]; simp [mdays] at *; omega
        · rw [if_neg (fun h => hl (hL.1 h))]
          have : k ≠ 365 := fun h => hl (hk2 h)
          simp [mdays] at *; omega
  · simp only [hc, if_false]
    have e1 : (era * 400 + y) / 400 = era := by omega
    have e2 : (era * 400 + y) % 400 = y := by omega
    refine ⟨?_, by omega, by omega, hd, ?_⟩
    · unfold days
      rw [if_neg (by omega), e1, e2, show m + 3 - 3 = m by omega]
      omega
    · unfold dim
      rw [if_neg (by omega)]
      have hcase : m = 0 ∨ m = 1 ∨ m = 2 ∨ m = 3 ∨ m = 4 ∨ m = 5 ∨ m = 6 ∨ m = 7 ∨ m = 8 ∨ m = 9 := by omega
      rcases hcase with rfl | rfl | rfl | rfl | rfl | rfl | rfl | rfl | rfl | rfl <;> simp [mdays] at * <;> omega

/-- the first of March of a year -/
def E (y : Int) : Int := y / 400 * 146097 + S (y % 400) - 719468

theorem E_leap {y : Int} (h : leap (y + 1)) : E (y + 1) = E y + 366 := by
  unfold E S; unfold leap at h
  by_cases h4 : (y + 1) % 400 = 0
  · have a1 : (y + 1) / 400 = y / 400 + 1 := by omega
    have a2 : y % 400 = 399 := by omega
    rw [a1, h4, a2]; omega
  · have a1 : (y + 1) / 400 = y / 400 := by omega
    have a2 : (y + 1) % 400 = y % 400 + 1 := by omega
    rw [a1, a2]
    have hq : 0 ≤ y % 400 ∧ y % 400 ≤ 398 := by omega
    have h5 : (y % 400 + 1) % 4 = 0 := by omega
    have h6 : (y % 400 + 1) % 100 ≠ 0 := by omega
    generalize y % 400 = q at *
    have : (q + 1) / 4 = q / 4 + 1 := by omega
    have : (q + 1) / 100 = q / 100 := by omega
    omega

theorem E_not {y : Int} (h : ¬ leap (y + 1)) : E (y + 1) = E y + 365 := by
  unfold E S; unfold leap at h
  have h4 : (y + 1) % 400 ≠ 0 := by omega
  have a1 : (y + 1) / 400 = y / 400 := by omega
  have a2 : (y + 1) % 400 = y % 400 + 1 := by omega
  rw [a1, a2]
  have hq : 0 ≤ y % 400 ∧ y % 400 ≤ 398 := by omega
  have h5 : (y % 400 + 1) % 4 ≠ 0 ∨ (y % 400 + 1) % 100 = 0 := by omega
  generalize y % 400 = q at *
  by_cases h7 : (q + 1) % 100 = 0
  · have : (q + 1) / 4 = q / 4 + 1 := by omega
    have : (q + 1) / 100 = q / 100 + 1 := by omega
    omega
  · have : (q + 1) / 4 = q / 4 := by omega
    have : (q + 1) / 100 = q / 100 := by omega
    omega

theorem days_E (y m d : Int) : days y m d = if m ≤ 2 then E (y - 1) + mdays (m + 9) + d - 1 else E y + mdays (m - 3) + d - 1 := by
  unfold days E; split <;> omega

theorem E_step (y : Int) : (leap (y + 1) ∧ E (y + 1) = E y + 366) ∨ (¬ leap (y + 1) ∧ E (y + 1) = E y + 365) := by
  by_cases h : leap (y + 1)
  · exact .inl ⟨h, E_leap h⟩
  · exact .inr ⟨h, E_not h⟩

/-- the first of January -/
theorem days_jan (y : Int) : days y 1 1 = E (y - 1) + 306 := by
  rw [days_E, if_pos (by decide)]; simp [mdays]

/-- a day lies in its month, and in its year -/
theorem days_in (y m d : Int) (h0 : 1 ≤ m) (h1 : m ≤ 12) (h2 : 1 ≤ d) (h3 : d ≤ dim y m) : days y 1 1 ≤ days y m 1 ∧ days y m d = days y m 1 + d - 1 ∧ days y m d < days (y + 1) 1 1 := by
  rw [days_jan, days_jan, days_E, days_E, show y + 1 - 1 = y by omega]
  have hE := E_step (y - 1)
  rw [show y - 1 + 1 = y by omega] at hE
  unfold dim at h3
  have hc : m = 1 ∨ m = 2 ∨ m = 3 ∨ m = 4 ∨ m = 5 ∨ m = 6 ∨ m = 7 ∨ m = 8 ∨ m = 9 ∨ m = 10 ∨ m = 11 ∨ m = 12 := by omega
  rcases hE with ⟨hl, hE⟩ | ⟨hl, hE⟩ <;> simp only [hl, if_true, if_false] at h3 <;> rcases hc with rfl | rfl | rfl | rfl | rfl | rfl | rfl | rfl | rfl | rfl | rfl | rfl <;> simp [mdays] at * <;> omega

/-- the years follow each other -/
theorem days_year (y : Int) : days y 1 1 + 365 ≤ days (y + 1) 1 1 ∧ days (y + 1) 1 1 ≤ days y 1 1 + 366 := by
  rw [days_jan, days_jan, show y + 1 - 1 = y by omega]
  have hE := E_step (y - 1)
  rw [show y - 1 + 1 = y by omega] at hE
  omega

theorem days_mono_nat (y : Int) (k : Nat) : days y 1 1 + 365 * k ≤ days (y + k) 1 1 := by
  induction k with
  | zero => simp
  | succ k ih =>
    have := (days_year (y + k)).1
    rw [show y + ((k + 1 : Nat) : Int) = y + k + 1 by omega]
    omega

theorem days_mono {y z : Int} (h : y ≤ z) : days y 1 1 + 365 * (z - y) ≤ days z 1 1 := by
  have := days_mono_nat y (z - y).toNat
  rw [show y + ((z - y).toNat : Int) = z by omega] at this
  omega

/-- the year of a day -/
theorem year_iff {n y : Int} : (date n).1 = y ↔ days y 1 1 ≤ n ∧ n < days (y + 1) 1 1 := by
  obtain ⟨h1, h2, h3, h4, h5⟩ := date_ok n
  obtain ⟨a1, a2, a3⟩ := days_in _ _ _ h2 h3 h4 h5
  rw [h1] at a2 a3
  constructor
  · rintro rfl
    exact ⟨by omega, a3⟩
  · rintro ⟨b1, b2⟩
    apply Classical.byContradiction
    intro hn
    rcases Int.lt_or_gt_of_ne hn with hlt | hgt
    · have := days_mono (show (date n).1 + 1 ≤ y by omega)
      omega
    · have := days_mono (show y + 1 ≤ (date n).1 by omega)
      omega

end Go.SX.Cal
namespace Go.Proofs.Ytbmkkmbgoenllaa
open Go Go.SX Go.SX.Cal
set_option linter.unusedVariables false
set_option linter.unusedSimpArgs false

theorem bnd_s {α β : Type} (a : α) (f : α → Option β) : bnd (some a) f = f a := rfl
theorem iftT {β : Type} (x y : Option β) : ift true x y = x := rfl
theorem iftF {β : Type} (x y : Option β) : ift false x y = y := rfl
theorem grd_p {β : Type} {p : Prop} [Decidable p] {x : Option β} (h : p) : grd p x = x := if_pos h
theorem fuel {m f : Nat} (h : m < f) : ∃ q, f = q + 1 := ⟨f - 1, by omega⟩
theorem dec_ge {i n : Nat} (h : ¬ i < n) : decide ((i : Int) < (n : Int)) = false := by simp; omega
theorem dec_lt' {i n : Nat} (h : i < n) : decide ((i : Int) < (n : Int)) = true := by simp; omega
theorem drop_at {α : Type} {l : List α} {i : Nat} (hi : i < l.length) : l.drop i = l[i] :: l.drop (i + 1) := List.drop_eq_getElem_cons hi
theorem at_get {α : Type} {xs : List α} {i : Nat} (h : i < xs.length) : at? xs (i : Int) = some xs[i] := by
  unfold at?; rw [if_pos (by omega)]; simp [h]
theorem wi {x : Int} (h0 : -9223372036854775808 ≤ x) (h1 : x ≤ 9223372036854775807) : IntKind.i64.wrap x = x := w64 h0 h1
theorem big_val' : BIG = 1152921504606846976 := rfl

/-- sizes from number i on are put into bins l, the last one of which has the sum s -/
def bins (t : Int) : List Int → Nat → List (List Int) → Int → List (List Int)
  | [], _, l, _ => l
  | n :: r, i, l, s =>
    if t ≤ n then bins t r (i + 1) l s
    else if l ≠ [] ∧ s + n ≤ t then bins t r (i + 1) (l.set (l.length - 1) ((l[l.length - 1]?.getD []) ++ [(i : Int)])) (s + n)
    else bins t r (i + 1) (l ++ [[(i : Int)]]) n

/-- what holds ahead of number i -/
structure Inv (i : Nat) (l : List (List Int)) (s : Int) : Prop where
  a : l.length ≤ i
  b : ∀ x ∈ l, x.length ≤ i
  c : 0 ≤ s ∧ s ≤ 2000
  d : l = [] → s = 0

theorem Inv.skip {i : Nat} {l : List (List Int)} {s : Int} (h : Inv i l s) : Inv (i + 1) l s := ⟨by have := h.a; omega, fun x hx => by have := h.b x hx; omega, h.c, h.d⟩

theorem Inv.put {i : Nat} {l : List (List Int)} {s n : Int} (h : Inv i l s) (hl : l ≠ []) (hn : 0 ≤ n) (hs : s + n ≤ 2000) (v : Int) : Inv (i + 1) (l.set (l.length - 1) ((l[l.length - 1]?.getD []) ++ [v])) (s + n) := by
  have hlen : l.length ≠ 0 := fun h0 => hl (List.eq_nil_of_length_eq_zero h0)
  refine ⟨by rw [List.length_set]; have := h.a; omega, fun x hx => ?_, by have := h.c; omega, fun h0 => ?_⟩
  · rcases List.mem_or_eq_of_mem_set hx with h1 | h1
    · have := h.b x h1; omega
    · subst h1
      have hg : l[l.length - 1]? = some l[l.length - 1] := List.getElem?_eq_getElem (by omega)
      rw [hg]
      have := h.b _ (List.getElem_mem (show l.length - 1 < l.length by omega))
      simp; omega
  · have := congrArg List.length h0
    simp at this
    exact absurd this (by simpa using hl)

theorem Inv.more {i : Nat} {l : List (List Int)} {s n : Int} (h : Inv i l s) (hn : 0 ≤ n) (hs : n ≤ 2000) (v : Int) : Inv (i + 1) (l ++ [[v]]) n := by
  refine ⟨by simp; have := h.a; omega, fun x hx => ?_, ⟨hn, hs⟩, fun h0 => by simp at h0⟩
  rcases List.mem_append.1 hx with h1 | h1
  · have := h.b x h1; omega
  · rw [List.mem_singleton] at h1; subst h1; simp

theorem set_at {α : Type} {l : List α} {k : Nat} (v : α) {i : Int} (h : i.toNat = k) : l.set i.toNat v = l.set k v := by rw [h]

/-! ### the program -/

theorem clip1 (p : List Int) : slices_Clip_int_int p = some p := by
  unfold slices_Clip_int_int
  rw [grd_p (by omega)]; simp
theorem clip2 (p : List (List Int)) : slices_Clip_int_int_f16 p = some p := by
  unfold slices_Clip_int_int_f16
  rw [grd_p (by omega)]; simp

theorem clips_eq {l3 : List (List Int)} (hl : l3.length < 1000000000) : ∀ (m f i : Nat), i + m = l3.length → m < f → lake_Bins_l2 l3 f l3 (i : Int) = some (l3, 0) := by
  intro m
  induction m with
  | zero =>
    intro f i hi hf
    obtain ⟨f, rfl⟩ := fuel hf
    rw [lake_Bins_l2, dec_ge (by omega), iftF]
    unfold lake_Bins_j5
    rw [clip2, bnd_s]
  | succ m ih =>
    intro f i hi hf
    obtain ⟨f, rfl⟩ := fuel hf
    have h1 : i < l3.length := by omega
    rw [lake_Bins_l2, dec_lt' h1, iftT, at_get h1, bnd_s, clip1, bnd_s, wi (by omega) (by omega), show (i : Int) + 1 = ((i + 1 : Nat) : Int) by omega, show ((i : Int)).toNat = i by omega, List.set_getElem_self]
    exact ih f (i + 1) (by omega) (by omega)

theorem bins_len {t : Int} : ∀ (r : List Int) (i : Nat) (l : List (List Int)) (s : Int), (bins t r i l s).length ≤ l.length + r.length
  | [], i, l, s => by simp [bins]
  | n :: r, i, l, s => by
    simp only [bins]
    split
    · have := bins_len (t := t) r (i + 1) l s; simp; omega
    · split
      · have := bins_len (t := t) r (i + 1) (l.set (l.length - 1) ((l[l.length - 1]?.getD []) ++ [(i : Int)])) (s + n)
        rw [List.length_set] at this; simp; omega
      · have := bins_len (t := t) r (i + 1) (l ++ [[(i : Int)]]) n
        simp at this; simp; omega

theorem p_eq {p1 : List Int} {t : Int} (ht : 1 ≤ t ∧ t ≤ 2000) (hp : ∀ n ∈ p1, 0 ≤ n) (hl : p1.length < 1000000000) : ∀ (m f i : Nat) (l : List (List Int)) (s : Int), i + m = p1.length → m < f → Inv i l s →
    lake_Bins_l1 p1 t f l s (i : Int) = some (bins t (p1.drop i) i l s, 0) := by
  intro m
  induction m with
  | zero =>
    intro f i l s hi hf h
    obtain ⟨f, rfl⟩ := fuel hf
    have ha := h.a
    rw [lake_Bins_l1, dec_ge (by omega), iftF, List.drop_of_length_le (by omega)]
    unfold lake_Bins_j4
    simp only [bins]
    exact clips_eq (by omega) l.length BIG 0 (by omega) (by rw [big_val']; omega)
  | succ m ih =>
    intro f i l s hi hf h
    obtain ⟨f, rfl⟩ := fuel hf
    have h1 : i < p1.length := by omega
    have hn := hp _ (List.getElem_mem h1)
    have ha := h.a; have hc := h.c
    have hx : IntKind.i64.wrap (((l.length : Nat) : Int) - 1) = ((l.length : Nat) : Int) - 1 := wi (by omega) (by omega)
    have hw : IntKind.i64.wrap ((i : Int) + 1) = ((i + 1 : Nat) : Int) := by rw [wi (by omega) (by omega)]; omega
    rw [lake_Bins_l1, dec_lt' h1, iftT, at_get h1, bnd_s, drop_at h1]
    simp only [bins]
    by_cases hnt : t ≤ p1[i]
    · rw [decide_eq_true hnt, iftT, if_pos hnt]
      unfold lake_Bins_j3
      rw [hw]
      exact ih f (i + 1) l s (by omega) (by omega) h.skip
    · rw [decide_eq_false hnt, iftF, if_neg hnt, hx, bnd_s]
      have hsn : IntKind.i64.wrap (s + p1[i]) = s + p1[i] := wi (by omega) (by omega)
      have more : lake_Bins_j2 (lake_Bins_l1 p1 t f) l s (i : Int) p1[i] false = some (bins t (p1.drop (i + 1)) (i + 1) (l ++ [[(i : Int)]]) p1[i], 0) := by
        unfold lake_Bins_j2 lake_Bins_j3
        rw [iftF, grd_p (by omega), hw]
        exact ih f (i + 1) _ _ (by omega) (by omega) (h.more hn (by omega) _)
      by_cases hle : l = []
      · subst hle
        rw [show decide ((0 : Int) ≤ ((([] : List (List Int)).length : Nat) : Int) - 1) = false from rfl, iftF, if_neg (fun hh => hh.1 rfl)]
        exact more
      · have hl0 : l.length ≠ 0 := fun h0 => hle (List.eq_nil_of_length_eq_zero h0)
        rw [decide_eq_true (by omega), iftT, hsn]
        by_cases hs : s + p1[i] ≤ t
        · rw [decide_eq_true hs, if_pos ⟨hle, hs⟩]
          have hg : l[l.length - 1]? = some l[l.length - 1] := List.getElem?_eq_getElem (by omega)
          have hat : at? l (((l.length : Nat) : Int) - 1) = some l[l.length - 1] := by
            rw [show ((l.length : Nat) : Int) - 1 = ((l.length - 1 : Nat) : Int) by omega]; exact at_get (by omega)
          have hb := h.b _ (List.getElem_mem (show l.length - 1 < l.length by omega))
          have hput := h.put hle hn (by omega) (i : Int)
          rw [hg] at hput
          rw [hg]
          unfold lake_Bins_j2 lake_Bins_j3
          rw [iftT, hx, hat, bnd_s, grd_p (by omega), hsn, hw, show (((l.length : Nat) : Int) - 1).toNat = l.length - 1 by omega]
          exact ih f (i + 1) _ _ (by omega) (by omega) hput
        · rw [decide_eq_false hs, if_neg (fun hh => hs hh.2)]
          exact more

/-! ### the reference -/

theorem r_eq {p1 : List Int} {t : Int} (ht : 1 ≤ t ∧ t ≤ 2000) (hp : ∀ n ∈ p1, 0 ≤ n) (hl : p1.length < 1000000000) : ∀ (m f i : Nat) (l : List (List Int)) (s : Int), i + m = p1.length → m < f → Inv i l s →
    ref4_Bins_l2 p1 t f l s (i : Int) = some (bins t (p1.drop i) i l s, 0) := by
  intro m
  induction m with
  | zero =>
    intro f i l s hi hf h
    obtain ⟨f, rfl⟩ := fuel hf
    rw [ref4_Bins_l2, dec_ge (by omega), iftF, List.drop_of_length_le (by omega)]
    rfl
  | succ m ih =>
    intro f i l s hi hf h
    obtain ⟨f, rfl⟩ := fuel hf
    have h1 : i < p1.length := by omega
    have hn := hp _ (List.getElem_mem h1)
    have ha := h.a; have hc := h.c
    have hw : IntKind.i64.wrap ((i : Int) + 1) = ((i + 1 : Nat) : Int) := by rw [wi (by omega) (by omega)]; omega
    rw [ref4_Bins_l2, dec_lt' h1, iftT, at_get h1, bnd_s, drop_at h1]
    simp only [bins]
    by_cases hnt : t ≤ p1[i]
    · rw [decide_eq_true hnt, iftT, if_pos hnt]
      unfold ref4_Bins_j5
      rw [hw]
      exact ih f (i + 1) l s (by omega) (by omega) h.skip
    · rw [decide_eq_false hnt, iftF, if_neg hnt]
      have hsn : IntKind.i64.wrap (s + p1[i]) = s + p1[i] := wi (by omega) (by omega)
      -- into the last one
      have put : ∀ (l' : List (List Int)) (s' : Int), l' ≠ [] → l'.length ≤ i + 1 → (∀ x ∈ l', x.length ≤ i) → 0 ≤ s' → s' ≤ 2000 →
          ref4_Bins_j4 (ref4_Bins_l2 p1 t f) (i : Int) p1[i] l' s' = ref4_Bins_l2 p1 t f (l'.set (l'.length - 1) ((l'[l'.length - 1]?.getD []) ++ [(i : Int)])) (s' + p1[i]) ((i + 1 : Nat) : Int) := by
        intro l' s' hne hlen hb hs0 hs1
        have hl0 : l'.length ≠ 0 := fun h0 => hne (List.eq_nil_of_length_eq_zero h0)
        have hx : IntKind.i64.wrap (((l'.length : Nat) : Int) - 1) = ((l'.length : Nat) : Int) - 1 := wi (by omega) (by omega)
        have hg : l'[l'.length - 1]? = some l'[l'.length - 1] := List.getElem?_eq_getElem (by omega)
        have hat : at? l' (((l'.length : Nat) : Int) - 1) = some l'[l'.length - 1] := by
          rw [show ((l'.length : Nat) : Int) - 1 = ((l'.length - 1 : Nat) : Int) by omega]; exact at_get (by omega)
        have hbb := hb _ (List.getElem_mem (show l'.length - 1 < l'.length by omega))
        rw [hg]
        unfold ref4_Bins_j4 ref4_Bins_j5
        rw [hx, hat, bnd_s, grd_p (by omega), wi (x := s' + p1[i]) (by omega) (by omega), hw, show (((l'.length : Nat) : Int) - 1).toNat = l'.length - 1 by omega]
        rfl
      have more : ref4_Bins_j3 (ref4_Bins_l2 p1 t f) l s (i : Int) p1[i] true = some (bins t (p1.drop (i + 1)) (i + 1) (l ++ [[(i : Int)]]) p1[i], 0) := by
        unfold ref4_Bins_j3
        rw [iftT, grd_p (by omega), put (l ++ [[]]) 0 (by simp) (by simp; omega) (fun x hx => by
          rcases List.mem_append.1 hx with h1 | h1
          · exact h.b x h1
          · rw [List.mem_singleton] at h1; subst h1; simp) (by omega) (by omega)]
        have e : (l ++ [([] : List Int)]).set ((l ++ [([] : List Int)]).length - 1) (((l ++ [([] : List Int)])[(l ++ [([] : List Int)]).length - 1]?.getD []) ++ [(i : Int)]) = l ++ [[(i : Int)]] := by
          simp [List.set_append_right]
        rw [e, Int.zero_add]
        exact ih f (i + 1) _ _ (by omega) (by omega) (h.more hn (by omega) _)
      by_cases hle : l = []
      · subst hle
        rw [show (((([] : List (List Int)).length : Nat) : Int) == 0) = true from rfl, iftT, if_neg (fun hh => hh.1 rfl)]
        exact more
      · have hl0 : l.length ≠ 0 := fun h0 => hle (List.eq_nil_of_length_eq_zero h0)
        rw [show (((l.length : Nat) : Int) == 0) = false by simp; exact hle, iftF, hsn]
        by_cases hs : s + p1[i] ≤ t
        · rw [decide_eq_false (by omega), if_pos ⟨hle, hs⟩]
          unfold ref4_Bins_j3
          rw [iftF, put l s hle (by omega) h.b hc.1 hc.2]
          exact ih f (i + 1) _ _ (by omega) (by omega) (h.put hle hn (by omega) _)
        · rw [decide_eq_true (by omega), if_neg (fun hh => hs hh.2)]
          exact more

/-! ### errors -/

theorem find_eq {p1 : List Int} (hl : p1.length < 1000000000) : ∀ (m f i : Nat), i + m = p1.length → m < f → ∃ r, slices_IndexFunc_int_int_of_lake_Bins_1_l1 p1 f (i : Int) = some r ∧ (0 ≤ r ↔ ∃ n ∈ p1.drop i, n < 0) := by
  intro m
  induction m with
  | zero =>
    intro f i hi hf
    obtain ⟨f, rfl⟩ := fuel hf
    rw [slices_IndexFunc_int_int_of_lake_Bins_1_l1, dec_ge (by omega), iftF, List.drop_of_length_le (by omega)]
    exact ⟨-1, rfl, by simp⟩
  | succ m ih =>
    intro f i hi hf
    obtain ⟨f, rfl⟩ := fuel hf
    have h1 : i < p1.length := by omega
    rw [slices_IndexFunc_int_int_of_lake_Bins_1_l1, dec_lt' h1, iftT, at_get h1, bnd_s, drop_at h1]
    unfold lake_Bins_1
    rw [bnd_s]
    by_cases hn : p1[i] < 0
    · rw [decide_eq_true hn, iftT]
      exact ⟨_, rfl, by constructor <;> intro _; exact ⟨_, List.mem_cons_self .., hn⟩; omega⟩
    · rw [decide_eq_false hn, iftF, wi (by omega) (by omega), show (i : Int) + 1 = ((i + 1 : Nat) : Int) by omega]
      obtain ⟨r, h2, h3⟩ := ih f (i + 1) (by omega) (by omega)
      refine ⟨r, h2, h3.trans ⟨fun ⟨n, a, b⟩ => ⟨n, List.mem_cons_of_mem _ a, b⟩, fun ⟨n, a, b⟩ => ?_⟩⟩
      rcases List.mem_cons.1 a with rfl | a
      · exact absurd b hn
      · exact ⟨n, a, b⟩

theorem has_eq {p1 : List Int} (hl : p1.length < 1000000000) : slices_ContainsFunc_int_int_of_lake_Bins_1 p1 = some (decide (∃ n ∈ p1, n < 0)) := by
  obtain ⟨r, h1, h2⟩ := find_eq hl p1.length BIG 0 (by omega) (by rw [big_val']; omega)
  unfold slices_ContainsFunc_int_int_of_lake_Bins_1 slices_IndexFunc_int_int_of_lake_Bins_1
  have h1' : slices_IndexFunc_int_int_of_lake_Bins_1_l1 p1 BIG (0 : Int) = some r := h1
  rw [h1', bnd_s]
  rw [List.drop_zero] at h2
  by_cases h : 0 ≤ r
  · rw [decide_eq_true h, decide_eq_true (h2.1 h)]
  · rw [decide_eq_false h, decide_eq_false (fun hh => h (h2.2 hh))]

theorem neg_eq {p1 : List Int} {t : Int} (hl : p1.length < 1000000000) : ∀ (m f i : Nat), i + m = p1.length → m < f → ref4_Bins_l1 p1 t f (i : Int) = if ∃ n ∈ p1.drop i, n < 0 then some ([], 3) else ref4_Bins_j2 p1 t := by
  intro m
  induction m with
  | zero =>
    intro f i hi hf
    obtain ⟨f, rfl⟩ := fuel hf
    rw [ref4_Bins_l1, dec_ge (by omega), iftF, List.drop_of_length_le (by omega), if_neg (by simp)]
  | succ m ih =>
    intro f i hi hf
    obtain ⟨f, rfl⟩ := fuel hf
    have h1 : i < p1.length := by omega
    rw [ref4_Bins_l1, dec_lt' h1, iftT, at_get h1, bnd_s, drop_at h1]
    by_cases hn : p1[i] < 0
    · rw [decide_eq_true hn, iftT, if_pos ⟨_, List.mem_cons_self .., hn⟩]
    · rw [decide_eq_false hn, iftF, wi (by omega) (by omega), show (i : Int) + 1 = ((i + 1 : Nat) : Int) by omega, ih f (i + 1) (by omega) (by omega)]
      have e : (∃ n ∈ p1[i] :: p1.drop (i + 1), n < 0) ↔ (∃ n ∈ p1.drop (i + 1), n < 0) := by
        constructor
        · rintro ⟨n, a, b⟩
          rcases List.mem_cons.1 a with rfl | a
          · exact absurd b hn
          · exact ⟨n, a, b⟩
        · rintro ⟨n, a, b⟩; exact ⟨n, List.mem_cons_of_mem _ a, b⟩
      simp only [e]

theorem inv0 : Inv 0 [] 0 := ⟨Nat.le_refl _, (fun x hx => by cases hx), ⟨by omega, by omega⟩, fun _ => rfl⟩

/-- what both sides answer -/
theorem bins_both {p1 : List Int} {t : Int} (hl : p1.length < 1000000000) : ∃ r : List (List Int) × Int, lake_Bins p1 t = some r ∧ ref4_Bins p1 t = some r ∧ r.1.length ≤ p1.length ∧ ∀ x ∈ r.1, x.length ≤ 4000000000 := by
  unfold lake_Bins ref4_Bins
  by_cases h1 : t < 1
  · rw [decide_eq_true h1, iftT, iftT]
    exact ⟨([], 3), rfl, rfl, by simp, fun x hx => by cases hx⟩
  · rw [decide_eq_false h1, iftF, iftF]
    by_cases h2 : 2000 < t
    · rw [decide_eq_true h2, iftT]
      exact ⟨([], 3), rfl, rfl, by simp, fun x hx => by cases hx⟩
    · rw [decide_eq_false h2, iftF, has_eq hl, bnd_s]
      unfold lake_Bins_j1 ref4_Bins_j1
      rw [iftF]
      have hneg := neg_eq (t := t) hl p1.length BIG 0 (by omega) (by rw [big_val']; omega)
      rw [List.drop_zero] at hneg
      have hneg' : ref4_Bins_l1 p1 t BIG (0 : Int) = _ := hneg
      rw [hneg']
      by_cases hn : ∃ n ∈ p1, n < 0
      · rw [decide_eq_true hn, iftT, if_pos hn]
        exact ⟨([], 3), rfl, rfl, by simp, fun x hx => by cases hx⟩
      · rw [decide_eq_false hn, iftF, if_neg hn]
        have hp : ∀ n ∈ p1, 0 ≤ n := fun n hm => by
          rcases Int.lt_or_le n 0 with h | h
          · exact absurd ⟨n, hm, h⟩ hn
          · exact h
        have e1 := p_eq (t := t) (by omega) hp hl p1.length BIG 0 [] 0 (by omega) (by rw [big_val']; omega) inv0
        have e2 := r_eq (t := t) (by omega) hp hl p1.length BIG 0 [] 0 (by omega) (by rw [big_val']; omega) inv0
        rw [List.drop_zero] at e1 e2
        have e1' : lake_Bins_l1 p1 t BIG [] (0 : Int) (0 : Int) = _ := e1
        have e2' : ref4_Bins_l2 p1 t BIG [] (0 : Int) (0 : Int) = _ := e2
        refine ⟨_, e1', e2', ?_, ?_⟩
        · have := bins_len (t := t) p1 0 [] 0
          simpa using this
        · have key : ∀ (r : List Int) (i : Nat) (l : List (List Int)) (s : Int), (∀ n ∈ r, 0 ≤ n) → Inv i l s → ∀ x ∈ bins t r i l s, x.length ≤ i + r.length := by
            intro r
            induction r with
            | nil => intro i l s _ h x hx; exact Nat.le_trans (h.b x hx) (by simp)
            | cons n r ih =>
              intro i l s hr h x hx
              have hn0 := hr n (List.mem_cons_self ..)
              have hr' : ∀ n ∈ r, 0 ≤ n := fun n hn => hr n (List.mem_cons_of_mem _ hn)
              simp only [bins] at hx
              rw [List.length_cons]
              split at hx
              · have := ih (i + 1) l s hr' h.skip x hx; omega
              · rename_i hnt
                split at hx
                · rename_i hh
                  have := ih (i + 1) _ _ hr' (h.put hh.1 hn0 (by omega) _) x hx; omega
                · have := ih (i + 1) _ _ hr' (h.more hn0 (by omega) _) x hx; omega
          intro x hx
          have := key p1 0 [] 0 hp inv0 x hx
          omega

theorem ints_self {l : List Int} (hl : l.length ≤ 4000000000) : law4_ints l l = some true := by
  have : ∀ (m f i : Nat), i + m = l.length → m < f → law4_ints_l1 l l f (i : Int) = some true := by
    intro m
    induction m with
    | zero =>
      intro f i hi hf
      obtain ⟨f, rfl⟩ := fuel hf
      rw [law4_ints_l1, dec_ge (by omega), iftF]; rfl
    | succ m ih =>
      intro f i hi hf
      obtain ⟨f, rfl⟩ := fuel hf
      have h1 : i < l.length := by omega
      rw [law4_ints_l1, dec_lt' h1, iftT, at_get h1, bnd_s, bnd_s, bne_self_eq_false, iftF, wi (by omega) (by omega), show (i : Int) + 1 = ((i + 1 : Nat) : Int) by omega, ih f (i + 1) (by omega) (by omega)]
  unfold law4_ints
  rw [bne_self_eq_false, iftF]
  exact this l.length BIG 0 (by omega) (by rw [big_val']; omega)

theorem one_eq : lake_Bins [1] 2 = some ([[0]], 0) := by decide +kernel

theorem law_bins (p1 : List Int) (t : Int) (hl : p1.length < 1000000000) : law4_LakeBinsMatchSpec p1 t = some true := by
  obtain ⟨r, h1, h2, h3, h4⟩ := bins_both (t := t) hl
  have loop : ∀ (m f i : Nat), i + m = r.1.length → m < f → law4_LakeBinsMatchSpec_l1 r r f (i : Int) = some true := by
    intro m
    induction m with
    | zero =>
      intro f i hi hf
      obtain ⟨f, rfl⟩ := fuel hf
      rw [law4_LakeBinsMatchSpec_l1, dec_ge (by omega), iftF]; rfl
    | succ m ih =>
      intro f i hi hf
      obtain ⟨f, rfl⟩ := fuel hf
      have h1 : i < r.1.length := by omega
      rw [law4_LakeBinsMatchSpec_l1, dec_lt' h1, iftT, at_get h1, bnd_s, bnd_s, ints_self (h4 _ (List.getElem_mem h1)), bnd_s, Bool.not_true, iftF, wi (by omega) (by omega), show (i : Int) + 1 = ((i + 1 : Nat) : Int) by omega, ih f (i + 1) (by omega) (by omega)]
  unfold law4_LakeBinsMatchSpec
  rw [h1, bnd_s, h2, bnd_s, one_eq, bnd_s]
  simp only
  rw [show ((0 : Int) != 0) = false from rfl, iftF, show ((([[0]] : List (List Int)).length : Int) != 1) = false from rfl, iftF, bne_self_eq_false, iftF, bne_self_eq_false]
  unfold law4_LakeBinsMatchSpec_j1
  rw [iftF]
  exact loop r.1.length BIG 0 (by omega) (by rw [big_val']; omega)

end Go.Proofs.Ytbmkkmbgoenllaa
