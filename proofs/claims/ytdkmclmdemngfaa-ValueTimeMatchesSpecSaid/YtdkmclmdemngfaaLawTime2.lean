/- The law 'ValueTimeMatchesSpec', in plain terms. -/
import Derived.Test.YtdkmclmdemngfaaLawTime1
namespace Go.Proofs.Ytdkmclmdemngfaa
open Go Go.SX Go.SX.Cal
set_option linter.unusedVariables false
set_option linter.unusedSimpArgs false

theorem rzone_loop (xs : List GZone) (nm : ByteArray) (hl : xs.length < 1000000) : ∀ (k i : Nat), i ≤ xs.length → xs.length < i + k →
    ref1_zoneOf_l1 nm xs k (i : Int) = some (match (xs.drop i).find? (fun z => z.name.toList == nm.toList) with | some z => (z, true) | none => (noZone, false)) := by
  intro k
  induction k with
  | zero => intro i h1 h2; omega
  | succ k ih =>
    intro i h1 h2
    rw [ref1_zoneOf_l1]
    by_cases hi : i < xs.length
    · have e : xs.drop i = xs[i] :: xs.drop (i + 1) := List.drop_eq_getElem_cons hi
      have ea : at? xs (i : Int) = some xs[i] := by unfold at?; simp [hi]
      rw [show decide ((i : Int) < (xs.length : Int)) = true by simp [hi], ift_true, ea]
      simp only [bnd_eq]
      rw [e, List.find?_cons]
      cases hb : (xs[i].name.toList == nm.toList) with
      | true => rfl
      | false =>
        rw [ift_false, w64 (by omega) (by omega), show (i : Int) + 1 = ((i + 1 : Nat) : Int) by omega, ih (i + 1) (by omega) (by omega)]
    · have : i = xs.length := by omega
      subst this
      rw [show decide ((xs.length : Int) < (xs.length : Int)) = false by simp, ift_false]
      simp [ref1_zoneOf_j1, noZone]

theorem rzone_eq (nm : ByteArray) : ref1_zoneOf nm = value_zone nm := by
  rw [zone_eq]
  unfold ref1_zoneOf
  rw [zones_eq]
  simp only [bnd_eq]
  have := rzone_loop Zs nm (by decide) BIG 0 (Nat.zero_le _) (by rw [big_val]; decide)
  rw [show ((0 : Nat) : Int) = 0 from rfl] at this
  rw [this, List.drop_zero]
  cases Zs.find? (fun z => z.name.toList == nm.toList) <;> rfl

theorem rLocal_eq (m : Int) (nm : ByteArray) : ref1_Local m nm = value_Local m nm := by
  unfold ref1_Local value_Local
  rw [rzone_eq, zone_eq]
  simp only [bnd_eq, rwithin_eq, within_eq]
  cases hz0 : zf nm with
  | none =>
    have : Zs.find? (fun z => z.name.toList == nm.toList) = none := hz0
    rw [this]; rfl
  | some z =>
    have : Zs.find? (fun z => z.name.toList == nm.toList) = some z := hz0
    rw [this]
    have hz := zf_ok hz0
    by_cases hm : -62135596800 ≤ m ∧ m ≤ 253402300799
    · have hb := ahd_bound hz m
      simp only
      rw [rahead_eq hz (by omega) (by omega), ahead_eq hz (by omega) (by omega)]
      simp only [bnd_eq]
      rw [w64 (by omega) (by omega)]
      have hy := years_of (s := m + ahd z m) (by omega) (by omega)
      rw [rcivil_eq (by omega) (by omega) hy.1 hy.2, civil_eq (by omega) (by omega)]
    · rw [show decide (-62135596800 ≤ m ∧ m ≤ 253402300799) = false by simpa using hm]; rfl

theorem rcheck_eq (c : GCivil) : ref1_isCivil c = some (decide (chk c)) := by
  unfold ref1_isCivil ref1_isCivil_j1
  simp only [rwithin_eq, rdim_eq, bnd_eq]
  by_cases h1 : 1 ≤ c.year ∧ c.year ≤ 9999
  · by_cases h2 : 1 ≤ c.month ∧ c.month ≤ 12
    · by_cases h3 : 1 ≤ c.day ∧ c.day ≤ dim c.year c.month
      · by_cases h4 : 0 ≤ c.hour ∧ c.hour ≤ 23
        · by_cases h5 : 0 ≤ c.minute ∧ c.minute ≤ 59
          · by_cases h6 : 0 ≤ c.second ∧ c.second ≤ 59
            · have : chk c := ⟨h1.1, h1.2, h2.1, h2.2, h3.1, h3.2, h4.1, h4.2, h5.1, h5.2, h6.1, h6.2⟩
              simp [h1, h2, h3, h4, h5, h6, this, ift_ite]
            · have : ¬ chk c := fun h => h6 (by unfold chk at h; omega)
              simp [h1, h2, h3, h4, h5, h6, this, ift_ite]
          · have : ¬ chk c := fun h => h5 (by unfold chk at h; omega)
            simp [h1, h2, h3, h4, h5, this, ift_ite]
        · have : ¬ chk c := fun h => h4 (by unfold chk at h; omega)
          simp [h1, h2, h3, h4, this, ift_ite]
      · have : ¬ chk c := fun h => h3 (by unfold chk at h; omega)
        simp [h1, h2, h3, this, ift_ite]
    · have : ¬ chk c := fun h => h2 (by unfold chk at h; omega)
      simp [h1, h2, this, ift_ite]
  · have : ¬ chk c := fun h => h1 (by unfold chk at h; omega)
    simp [h1, this, ift_ite]

theorem rseconds_eq {c : GCivil} (h : chk c) : ref1_seconds c = some (sec c) := by
  have hF := chk_fine h
  obtain ⟨y0, y1, m0, m1, d0, d1, h0, h1, i0, i1, s0, s1⟩ := id hF
  have hy : 1 ≤ c.year := h.1
  have := days_bound y0 y1 m0 m1 d0 d1
  unfold ref1_seconds
  rw [rDays_eq (by omega) (by omega) m0 m1 d0 d1]
  simp only [bnd_eq]
  unfold sec
  simp (disch := omega) only [w64]
  congr 1
  omega

theorem chk_low {c : GCivil} (h : chk c) : -62135596800 ≤ sec c ∧ sec c ≤ 253402300799 := by
  obtain ⟨a, b, c1, d, e, f, g, i, j, k, l, m⟩ := h
  have hd := days_in c.year c.month c.day c1 d e f
  have e1 := days_mono (y := 1) (z := c.year) (by omega)
  have e2 := days_mono (y := c.year + 1) (z := 10000) (by omega)
  have e3 : Cal.days 1 1 1 = -719162 := by decide +kernel
  have e4 : Cal.days 10000 1 1 = 2932897 := by decide +kernel
  have hdim := dim_bound c.year c.month
  unfold sec
  omega

theorem rInstant_eq (c : GCivil) (nm : ByteArray) : ref1_Instant c nm = value_Instant c nm := by
  cases hz0 : zf nm with
  | none =>
    unfold ref1_Instant value_Instant
    rw [rzone_eq, zone_eq]
    have : Zs.find? (fun z => z.name.toList == nm.toList) = none := hz0
    rw [this]; rfl
  | some z =>
    rw [Instant_eq hz0]
    unfold ref1_Instant
    rw [rzone_eq, zone_eq, rcheck_eq]
    have : Zs.find? (fun z => z.name.toList == nm.toList) = some z := hz0
    rw [this]
    have hz := zf_ok hz0
    simp only [bnd_eq]
    by_cases hc : chk c
    · have hs := chk_low hc
      obtain ⟨o0, o1, hss⟩ := id hz
      have hs0 : 0 ≤ z.summer ∧ z.summer ≤ 60 := by rcases hss with h | ⟨_, _, h, _⟩ <;> omega
      rw [if_pos hc, rseconds_eq hc]
      simp only [bnd_eq, hc, decide_true]
      rw [show (!true) = false from rfl, ift_false, ift_false]
      have e60 : (60 : Int) * z.offset = z.offset * 60 := Int.mul_comm _ _
      have e61 : (60 : Int) * z.summer = z.summer * 60 := Int.mul_comm _ _
      rw [e60, e61, w64 (x := z.offset * 60) (by omega) (by omega), w64 (x := z.summer * 60) (by omega) (by omega), w64 (x := sec c - z.offset * 60) (by omega) (by omega), w64 (x := sec c - z.offset * 60 - z.summer * 60) (by omega) (by omega)]
      rw [rahead_eq hz (by omega) (by omega)]
      simp only [bnd_eq]
      rw [w64 (x := z.offset + z.summer) (by omega) (by omega), w64 (by omega) (by omega)]
      unfold inst ref1_Instant_j1
      simp only [rwithin_eq, bnd_eq]
      by_cases he : sec c - z.offset * 60 - z.summer * 60 + ahd z (sec c - z.offset * 60 - z.summer * 60) = sec c
      · have he2 : (ahd z (sec c - z.offset * 60 - z.summer * 60) == 60 * (z.offset + z.summer)) = true := by rw [beq_iff_eq]; omega
        rw [he2, ift_true]
        simp only [he, if_true]
        by_cases hr : -62135596800 ≤ sec c - z.offset * 60 - z.summer * 60 ∧ sec c - z.offset * 60 - z.summer * 60 ≤ 253402300799
        · simp [hr, ift_ite]
        · rw [if_neg hr]; simp [hr, ift_ite]
      · have he2 : (ahd z (sec c - z.offset * 60 - z.summer * 60) == 60 * (z.offset + z.summer)) = false := by rw [beq_eq_false_iff_ne]; omega
        rw [he2, ift_false]
        simp only [he, if_false]
        by_cases hr : -62135596800 ≤ sec c - z.offset * 60 ∧ sec c - z.offset * 60 ≤ 253402300799
        · simp [hr, ift_ite]
        · rw [if_neg hr]; simp [hr, ift_ite]
    · rw [if_neg hc]
      simp [hc, ift_ite]

/-- what Local gives: an error, or a civil time of the years 0 to 10000 -/
theorem Local_cases (m : Int) (nm : ByteArray) : (∃ f, value_Local m nm = some (noCivil, f) ∧ f ≠ 0) ∨
    ∃ s z, zf nm = some z ∧ value_Local m nm = some (civ s, 0) ∧ -62135646800 ≤ s ∧ s ≤ 253402350799 := by
  cases hz0 : zf nm with
  | none => exact .inl ⟨4, Local_none hz0, by decide⟩
  | some z =>
    by_cases hm : -62135596800 ≤ m ∧ m ≤ 253402300799
    · have hb := ahd_bound (zf_ok hz0) m
      exact .inr ⟨m + ahd z m, z, rfl, Local_in hz0 hm.1 hm.2, by omega, by omega⟩
    · exact .inl ⟨3, Local_out hz0 hm, by decide⟩

theorem ne_zero_b {f : Int} (h : f ≠ 0) : (f != 0) = true := by simp [h]

theorem rPart_eq (m part : Int) (nm : ByteArray) : (∃ r, value_Part m part nm = some r) ∧ ref1_Part m part nm = value_Part m part nm := by
  unfold ref1_Part value_Part
  rw [rLocal_eq]
  rcases Local_cases m nm with ⟨f, hf, hne⟩ | ⟨s, z, hz, hL, h1, h2⟩
  · rw [hf]; simp only [bnd_eq]; simp only [ne_zero_b hne, ift_true]; exact ⟨⟨_, rfl⟩, trivial⟩
  · rw [hL]
    simp only [bnd_eq]
    obtain ⟨hF, _, _, _⟩ := civ_ok (s := s) (by omega) (by omega)
    have hy : 0 ≤ (civ s).year ∧ (civ s).year ≤ 10000 := years_of (by omega) (by omega)
    obtain ⟨y0, y1, m0, m1, d0, d1, _⟩ := hF
    have hb := days_bound y0 y1 m0 m1 d0 d1
    have hb1 := days_bound (m := 1) (d := 1) y0 y1 (by decide) (by decide) (by decide) (by decide)
    rw [rDays_eq hy.1 (by omega) m0 m1 d0 d1, days_eq (by omega) (by omega) m0 m1 d0 d1]
    simp only [bnd_eq]
    rw [rweekday_eq (by omega) (by omega), weekday_eq (by omega) (by omega), yearStart_eq hy.1 (by omega), days_eq (by omega) (by omega) (by decide) (by decide) (by decide) (by decide)]
    simp only [bnd_eq]
    refine ⟨?_, trivial⟩
    rw [show ((0 : Int) != 0) = false from rfl, ift_false]
    simp only [ift_ite]
    repeat' split
    all_goals exact ⟨_, rfl⟩

theorem civ_mul (K : Int) : (civ (K * 86400)).hour = 0 ∧ (civ (K * 86400)).minute = 0 ∧ (civ (K * 86400)).second = 0 := by
  have : K * 86400 % 86400 = 0 := by omega
  refine ⟨?_, ?_, ?_⟩ <;> simp [civ, this]

theorem Instant_some (c : GCivil) (nm : ByteArray) : ∃ r, value_Instant c nm = some r := by
  cases hz0 : zf nm with
  | none =>
    unfold value_Instant
    rw [zone_eq]
    have : Zs.find? (fun z => z.name.toList == nm.toList) = none := hz0
    rw [this]; exact ⟨_, rfl⟩
  | some z => exact ⟨_, Instant_eq hz0⟩

theorem rTrunc_eq (m part : Int) (nm : ByteArray) : (∃ r, value_Trunc m part nm = some r) ∧ ref1_Trunc m part nm = value_Trunc m part nm := by
  unfold ref1_Trunc value_Trunc
  rw [rLocal_eq]
  rcases Local_cases m nm with ⟨f, hf, hne⟩ | ⟨s, z, hz, hL, h1, h2⟩
  · rw [hf]; simp only [bnd_eq]; simp only [ne_zero_b hne, ift_true]; exact ⟨⟨_, rfl⟩, trivial⟩
  · rw [hL]
    simp only [bnd_eq, rwithin_eq]
    rw [show ((0 : Int) != 0) = false from rfl, ift_false, ift_false]
    obtain ⟨hF, _, hd0, hd1⟩ := civ_ok (s := s) (by omega) (by omega)
    have hy : 0 ≤ (civ s).year ∧ (civ s).year ≤ 10000 := years_of (by omega) (by omega)
    have hdn : Cal.days (civ s).year (civ s).month (civ s).day = s / 86400 := (date_ok (s / 86400)).1
    obtain ⟨y0, y1, m0, m1, d0, d1, _⟩ := hF
    have hb := days_bound y0 y1 m0 m1 d0 d1
    have J : ∀ a b c d e f, ∃ r, value_Trunc_j1 nm a b c d e f = some r ∧ ref1_Trunc_j7 nm a b c d e f = some r := by
      intro a b c d e f
      obtain ⟨r, hr⟩ := Instant_some ⟨a, b, c, d, e, f⟩ nm
      exact ⟨r, by unfold value_Trunc_j1; rw [hr]; rfl, by unfold ref1_Trunc_j7; rw [rInstant_eq, hr]; rfl⟩
    unfold ref1_Trunc_j1 ref1_Trunc_j2 ref1_Trunc_j3 ref1_Trunc_j4 ref1_Trunc_j5 ref1_Trunc_j6
    by_cases p1 : part = 1
    · subst p1
      obtain ⟨r, e1, e2⟩ := J (civ s).year 1 1 0 0 0
      simp only [show decide ((1 : Int) ≤ 1 ∧ (1 : Int) ≤ 7) = true from rfl, show (!true) = false from rfl, ift_false, show ((1 : Int) == 7) = false from rfl, show ((1 : Int) == 1) = true from rfl, show decide ((1 : Int) < 2) = true from rfl, show decide ((1 : Int) < 3) = true from rfl, show decide ((1 : Int) < 4) = true from rfl, show decide ((1 : Int) < 5) = true from rfl, show decide ((1 : Int) < 6) = true from rfl, ift_true]
      exact ⟨⟨r, e1⟩, e2.trans e1.symm⟩
    by_cases p2 : part = 2
    · subst p2
      obtain ⟨r, e1, e2⟩ := J (civ s).year (civ s).month 1 0 0 0
      simp only [show decide ((1 : Int) ≤ 2 ∧ (2 : Int) ≤ 7) = true from rfl, show (!true) = false from rfl, ift_false, show ((2 : Int) == 7) = false from rfl, show ((2 : Int) == 1) = false from rfl, show ((2 : Int) == 2) = true from rfl, show decide ((2 : Int) < 2) = false from rfl, show decide ((2 : Int) < 3) = true from rfl, show decide ((2 : Int) < 4) = true from rfl, show decide ((2 : Int) < 5) = true from rfl, show decide ((2 : Int) < 6) = true from rfl, ift_true]
      exact ⟨⟨r, e1⟩, e2.trans e1.symm⟩
    by_cases p3 : part = 3
    · subst p3
      obtain ⟨r, e1, e2⟩ := J (civ s).year (civ s).month (civ s).day 0 0 0
      simp only [show decide ((1 : Int) ≤ 3 ∧ (3 : Int) ≤ 7) = true from rfl, show (!true) = false from rfl, ift_false, show ((3 : Int) == 7) = false from rfl, show ((3 : Int) == 1) = false from rfl, show ((3 : Int) == 2) = false from rfl, show ((3 : Int) == 3) = true from rfl, show decide ((3 : Int) < 2) = false from rfl, show decide ((3 : Int) < 3) = false from rfl, show decide ((3 : Int) < 4) = true from rfl, show decide ((3 : Int) < 5) = true from rfl, show decide ((3 : Int) < 6) = true from rfl, ift_true]
      exact ⟨⟨r, e1⟩, e2.trans e1.symm⟩
    by_cases p4 : part = 4
    · subst p4
      obtain ⟨r, e1, e2⟩ := J (civ s).year (civ s).month (civ s).day (civ s).hour 0 0
      simp only [show decide ((1 : Int) ≤ 4 ∧ (4 : Int) ≤ 7) = true from rfl, show (!true) = false from rfl, ift_false, show ((4 : Int) == 7) = false from rfl, show ((4 : Int) == 1) = false from rfl, show ((4 : Int) == 2) = false from rfl, show ((4 : Int) == 3) = false from rfl, show ((4 : Int) == 4) = true from rfl, show decide ((4 : Int) < 2) = false from rfl, show decide ((4 : Int) < 3) = false from rfl, show decide ((4 : Int) < 4) = false from rfl, show decide ((4 : Int) < 5) = true from rfl, show decide ((4 : Int) < 6) = true from rfl, ift_true]
      exact ⟨⟨r, e1⟩, e2.trans e1.symm⟩
    by_cases p5 : part = 5
    · subst p5
      obtain ⟨r, e1, e2⟩ := J (civ s).year (civ s).month (civ s).day (civ s).hour (civ s).minute 0
      simp only [show decide ((1 : Int) ≤ 5 ∧ (5 : Int) ≤ 7) = true from rfl, show (!true) = false from rfl, ift_false, show ((5 : Int) == 7) = false from rfl, show ((5 : Int) == 1) = false from rfl, show ((5 : Int) == 2) = false from rfl, show ((5 : Int) == 3) = false from rfl, show ((5 : Int) == 4) = false from rfl, show ((5 : Int) == 5) = true from rfl, show decide ((5 : Int) < 2) = false from rfl, show decide ((5 : Int) < 3) = false from rfl, show decide ((5 : Int) < 4) = false from rfl, show decide ((5 : Int) < 5) = false from rfl, show decide ((5 : Int) < 6) = true from rfl, ift_true]
      exact ⟨⟨r, e1⟩, e2.trans e1.symm⟩
    by_cases p6 : part = 6
    · subst p6
      obtain ⟨r, e1, e2⟩ := J (civ s).year (civ s).month (civ s).day (civ s).hour (civ s).minute (civ s).second
      simp only [show decide ((1 : Int) ≤ 6 ∧ (6 : Int) ≤ 7) = true from rfl, show (!true) = false from rfl, ift_false, show ((6 : Int) == 7) = false from rfl, show ((6 : Int) == 1) = false from rfl, show ((6 : Int) == 2) = false from rfl, show ((6 : Int) == 3) = false from rfl, show ((6 : Int) == 4) = false from rfl, show ((6 : Int) == 5) = false from rfl, show ((6 : Int) == 6) = true from rfl, show decide ((6 : Int) < 2) = false from rfl, show decide ((6 : Int) < 3) = false from rfl, show decide ((6 : Int) < 4) = false from rfl, show decide ((6 : Int) < 5) = false from rfl, show decide ((6 : Int) < 6) = false from rfl, ift_true]
      exact ⟨⟨r, e1⟩, e2.trans e1.symm⟩
    by_cases p7 : part = 7
    · subst p7
      rw [rDays_eq hy.1 (by omega) m0 m1 d0 d1, days_eq (by omega) (by omega) m0 m1 d0 d1]
      simp only [bnd_eq]
      rw [rweekday_eq (by omega) (by omega), weekday_eq (by omega) (by omega)]
      simp only [bnd_eq]
      rw [hdn]
      have hK : -719163 ≤ s / 86400 ∧ s / 86400 ≤ 2932897 := by omega
      generalize s / 86400 = K at *
      have hw : 0 ≤ (K + 3) % 7 ∧ (K + 3) % 7 ≤ 6 := by omega
      generalize (K + 3) % 7 = wd at *
      rw [w64 (x := K - (wd + 1)) (by omega) (by omega), w64 (x := K - (wd + 1) + 1) (by omega) (by omega), w64 (by omega) (by omega), w64 (by omega) (by omega)]
      rw [show (86400 : Int) * (K - (wd + 1) + 1) = (K - (wd + 1) + 1) * 86400 by omega]
      have hyr := years_of (s := (K - (wd + 1) + 1) * 86400) (by omega) (by omega)
      rw [rcivil_eq (by omega) (by omega) hyr.1 hyr.2, civil_eq (by omega) (by omega)]
      simp only [bnd_eq]
      obtain ⟨z1, z2, z3⟩ := civ_mul (K - (wd + 1) + 1)
      rw [z1, z2, z3]
      obtain ⟨r, e1, e2⟩ := J (civ ((K - (wd + 1) + 1) * 86400)).year (civ ((K - (wd + 1) + 1) * 86400)).month (civ ((K - (wd + 1) + 1) * 86400)).day 0 0 0
      simp only [show decide ((1 : Int) ≤ 7 ∧ (7 : Int) ≤ 7) = true from rfl, show (!true) = false from rfl, ift_false, show ((7 : Int) == 7) = true from rfl, show ((7 : Int) == 1) = false from rfl, show ((7 : Int) == 2) = false from rfl, show ((7 : Int) == 3) = false from rfl, show ((7 : Int) == 4) = false from rfl, show ((7 : Int) == 5) = false from rfl, show ((7 : Int) == 6) = false from rfl, show decide ((3 : Int) < 2) = false from rfl, show decide ((3 : Int) < 3) = false from rfl, show decide ((3 : Int) < 4) = true from rfl, show decide ((3 : Int) < 5) = true from rfl, show decide ((3 : Int) < 6) = true from rfl, ift_true]
      exact ⟨⟨r, e1⟩, e2.trans e1.symm⟩
    have hnw : ¬ ((1 : Int) ≤ part ∧ part ≤ 7) := by omega
    rw [show decide ((1 : Int) ≤ part ∧ part ≤ 7) = false by simpa using hnw]
    rw [beq_eq_false_iff_ne.2 p1, beq_eq_false_iff_ne.2 p2, beq_eq_false_iff_ne.2 p3, beq_eq_false_iff_ne.2 p4, beq_eq_false_iff_ne.2 p5, beq_eq_false_iff_ne.2 p6, beq_eq_false_iff_ne.2 p7]
    exact ⟨⟨_, rfl⟩, rfl⟩

theorem rMonths_eq (m k : Int) (nm : ByteArray) : (∃ r, value_Months m k nm = some r) ∧ ref1_Months m k nm = value_Months m k nm := by
  unfold ref1_Months value_Months
  rw [rLocal_eq]
  rcases Local_cases m nm with ⟨f, hf, hne⟩ | ⟨s, z, hz, hL, h1, h2⟩
  · rw [hf]; simp only [bnd_eq]; simp only [ne_zero_b hne, ift_true]; exact ⟨⟨_, rfl⟩, trivial⟩
  · rw [hL]
    simp only [bnd_eq, rwithin_eq, within_eq]
    rw [show ((0 : Int) != 0) = false from rfl, ift_false, ift_false]
    obtain ⟨hF, _, hd0, hd1⟩ := civ_ok (s := s) (by omega) (by omega)
    have hy : 0 ≤ (civ s).year ∧ (civ s).year ≤ 10000 := years_of (by omega) (by omega)
    have hm0 := hF.m0; have hm1 := hF.m1
    by_cases hk : -200000 ≤ k ∧ k ≤ 200000
    · rw [show decide (-200000 ≤ k ∧ k ≤ 200000) = true by simpa using hk, show (!true) = false from rfl, ift_false]
      have ec : (12 : Int) * (civ s).year = (civ s).year * 12 := Int.mul_comm _ _
      rw [ec, w64 (x := (civ s).year * 12) (by omega) (by omega), w64 (x := (civ s).year * 12 + (civ s).month) (by omega) (by omega), w64 (x := (civ s).year * 12 + (civ s).month - 1) (by omega) (by omega), w64 (x := (civ s).year * 12 + (civ s).month - 1 + k) (by omega) (by omega)]
      rw [rfloor_eq (by decide) (by decide) (by omega) (by omega), floor_eq (by decide) (by decide) (by omega) (by omega)]
      simp only [bnd_eq, rdim_eq, daysIn_eq]
      have hq : -10000000 ≤ (civ s).year * 12 + (civ s).month - 1 + k ∧ (civ s).year * 12 + (civ s).month - 1 + k ≤ 10000000 := by omega
      have hbig : ¬ (-120012 ≤ k ∧ k ≤ 120012) → ¬ (1 ≤ ((civ s).year * 12 + (civ s).month - 1 + k) / 12 ∧ ((civ s).year * 12 + (civ s).month - 1 + k) / 12 ≤ 9999) := by omega
      generalize (civ s).year * 12 + (civ s).month - 1 + k = q at *
      have er : q - 12 * (q / 12) = q % 12 := by omega
      rw [w64 (x := 12 * (q / 12)) (by omega) (by omega), w64 (x := q - 12 * (q / 12)) (by omega) (by omega), er, w64 (x := q % 12 + 1) (by omega) (by omega)]
      by_cases hyr : 1 ≤ q / 12 ∧ q / 12 ≤ 9999
      · have hk2 : -120012 ≤ k ∧ k ≤ 120012 := Classical.byContradiction fun h => hbig h hyr
        rw [show decide (1 ≤ q / 12 ∧ q / 12 ≤ 9999) = true by simpa using hyr, show decide (-120012 ≤ k ∧ k ≤ 120012) = true by simpa using hk2, show (!true) = false from rfl, ift_false, ift_false]
        unfold ref1_Months_j1
        rw [w64 (x := q % 12 + 1) (by omega) (by omega)]
        simp only [rInstant_eq]
        by_cases hd : dim (q / 12) (q % 12 + 1) < (civ s).day
        · rw [show decide (dim (q / 12) (q % 12 + 1) < (civ s).day) = true by simpa using hd, ift_true, if_pos hd]
          obtain ⟨r, hr⟩ := Instant_some ⟨q / 12, q % 12 + 1, dim (q / 12) (q % 12 + 1), (civ s).hour, (civ s).minute, (civ s).second⟩ nm
          rw [hr]; exact ⟨⟨_, rfl⟩, rfl⟩
        · rw [show decide (dim (q / 12) (q % 12 + 1) < (civ s).day) = false by simpa using hd, ift_false, if_neg hd]
          obtain ⟨r, hr⟩ := Instant_some ⟨q / 12, q % 12 + 1, (civ s).day, (civ s).hour, (civ s).minute, (civ s).second⟩ nm
          rw [hr]; exact ⟨⟨_, rfl⟩, rfl⟩
      · rw [show decide (1 ≤ q / 12 ∧ q / 12 ≤ 9999) = false by simpa using hyr, show (!false) = true from rfl, ift_true]
        rw [Instant_eq hz]
        have hnc : ∀ d, ¬ chk ⟨q / 12, q % 12 + 1, d, (civ s).hour, (civ s).minute, (civ s).second⟩ := fun d h => hyr ⟨h.1, h.2.1⟩
        rw [if_neg (hnc _)]
        simp only [bnd_eq]
        rcases Bool.eq_false_or_eq_true (decide (-120012 ≤ k ∧ k ≤ 120012)) with hb | hb <;> rw [hb] <;> exact ⟨⟨_, rfl⟩, rfl⟩
    · rw [show decide (-200000 ≤ k ∧ k ≤ 200000) = false by simpa using hk, show decide (-120012 ≤ k ∧ k ≤ 120012) = false by simp; omega]
      exact ⟨⟨_, rfl⟩, rfl⟩

def nowhere : ByteArray := ByteArray.mk #[110, 111, 119, 104, 101, 114, 101]

theorem zf_nowhere : zf nowhere = none := by decide +kernel

theorem law_time (m part k : Int) (nm : ByteArray) (c : GCivil) : law1_ValueTimeMatchesSpec m part k nm c = some true := by
  unfold law1_ValueTimeMatchesSpec
  have h0 := Local_none (m := 0) zf_nowhere
  unfold nowhere at h0
  rw [h0]
  simp only [bnd_eq]
  rw [show ((4 : Int) != 4) = false from rfl, ift_false, rLocal_eq]
  obtain ⟨rl, hrl⟩ : ∃ r, value_Local m nm = some r := by
    rcases Local_cases m nm with ⟨f, hf, _⟩ | ⟨s, z, _, hL, _⟩
    · exact ⟨_, hf⟩
    · exact ⟨_, hL⟩
  rw [hrl]
  simp only [bnd_eq, bne_self_eq_false, ift_false]
  have hsame : (!((rl.1.year == rl.1.year) && ((rl.1.month == rl.1.month) && ((rl.1.day == rl.1.day) && ((rl.1.hour == rl.1.hour) && ((rl.1.minute == rl.1.minute) && ((rl.1.second == rl.1.second) && true))))))) = false := by simp
  rw [hsame]
  unfold law1_ValueTimeMatchesSpec_j1
  obtain ⟨ri, hri⟩ := Instant_some c nm
  rw [ift_false, rInstant_eq, hri]
  simp only [bnd_eq, bne_self_eq_false, ift_false]
  unfold law1_ValueTimeMatchesSpec_j2
  obtain ⟨⟨rp, hrp⟩, ep⟩ := rPart_eq m part nm
  rw [ift_false, ep, hrp]
  simp only [bnd_eq, bne_self_eq_false, ift_false]
  unfold law1_ValueTimeMatchesSpec_j3
  obtain ⟨⟨rt, hrt⟩, et⟩ := rTrunc_eq m part nm
  rw [ift_false, et, hrt]
  simp only [bnd_eq, bne_self_eq_false, ift_false]
  unfold law1_ValueTimeMatchesSpec_j4 law1_ValueTimeMatchesSpec_j5
  obtain ⟨⟨rm, hrm⟩, em⟩ := rMonths_eq m k nm
  rw [ift_false, em, hrm]
  simp only [bnd_eq, beq_self_eq_true, ift_true]

end Go.Proofs.Ytdkmclmdemngfaa
