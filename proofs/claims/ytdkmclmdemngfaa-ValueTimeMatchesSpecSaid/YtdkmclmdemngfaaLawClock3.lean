/- The clocks lead back. -/
import Derived.Test.YtdkmclmdemngfaaLawClock2
namespace Go.Proofs.Ytdkmclmdemngfaa
open Go Go.SX Go.SX.Cal
set_option linter.unusedVariables false
set_option linter.unusedSimpArgs false




theorem civ_ok {s : Int} (h1 : -400000000000 ≤ s) (h2 : s ≤ 400000000000) : Fine (civ s) ∧ sec (civ s) = s ∧ 1 ≤ (civ s).day ∧ (civ s).day ≤ dim (civ s).year (civ s).month := by
  obtain ⟨e, m0, m1, d0, d1⟩ := date_ok (s / 86400)
  have hy := year_bound (n := s / 86400) (by omega) (by omega)
  have hd := dim_bound (Cal.date (s / 86400)).1 (Cal.date (s / 86400)).2.1
  refine ⟨⟨hy.1, hy.2, m0, m1, ?_, ?_, ?_, ?_, ?_, ?_, ?_, ?_⟩, ?_, d0, d1⟩
  · show -100 ≤ (Cal.date (s / 86400)).2.2; omega
  · show (Cal.date (s / 86400)).2.2 ≤ 100; omega
  · show 0 ≤ s % 86400 / 3600; omega
  · show s % 86400 / 3600 ≤ 23; omega
  · show 0 ≤ s % 86400 % 3600 / 60; omega
  · show s % 86400 % 3600 / 60 ≤ 59; omega
  · show 0 ≤ s % 86400 % 60; omega
  · show s % 86400 % 60 ≤ 59; omega
  · show Cal.days (Cal.date (s / 86400)).1 (Cal.date (s / 86400)).2.1 (Cal.date (s / 86400)).2.2 * 86400 + s % 86400 / 3600 * 3600 + s % 86400 % 3600 / 60 * 60 + s % 86400 % 60 = s
    rw [e]; omega

def zf (nm : ByteArray) : Option GZone := Zs.find? (fun z => z.name.toList == nm.toList)

theorem zf_ok {nm : ByteArray} {z : GZone} (h : zf nm = some z) : ZOk z := zones_ok z (List.mem_of_find?_eq_some h)

def noCivil : GCivil := ⟨0, 0, 0, 0, 0, 0⟩

theorem Local_none {m : Int} {nm : ByteArray} (h : zf nm = none) : value_Local m nm = some (noCivil, 4) := by
  unfold value_Local
  rw [zone_eq]
  have : Zs.find? (fun z => z.name.toList == nm.toList) = none := h
  rw [this]; rfl

theorem Local_out {m : Int} {nm : ByteArray} {z : GZone} (h : zf nm = some z) (hm : ¬ ((-62135596800) ≤ m ∧ m ≤ 253402300799)) : value_Local m nm = some (noCivil, 3) := by
  unfold value_Local
  rw [zone_eq]
  have : Zs.find? (fun z => z.name.toList == nm.toList) = some z := h
  rw [this]
  simp only [bnd_eq, within_eq]
  rw [show decide (-62135596800 ≤ m ∧ m ≤ 253402300799) = false by simpa using hm]
  rfl

theorem ahd_bound {z : GZone} (hz : ZOk z) (m : Int) : -43200 ≤ ahd z m ∧ ahd z m ≤ 46800 := by
  obtain ⟨o0, o1, hs⟩ := hz
  have hs0 : 0 ≤ z.summer ∧ z.summer ≤ 60 := by rcases hs with h | ⟨_, _, h, _⟩ <;> omega
  rcases ahd_cases (z := z) (m := m) with h | h <;> omega

theorem Local_in {m : Int} {nm : ByteArray} {z : GZone} (h : zf nm = some z) (h1 : (-62135596800) ≤ m) (h2 : m ≤ 253402300799) : value_Local m nm = some (civ (m + ahd z m), 0) := by
  unfold value_Local
  rw [zone_eq]
  have hz := zf_ok h
  have hb := ahd_bound hz m
  have : Zs.find? (fun z => z.name.toList == nm.toList) = some z := h
  rw [this]
  simp only [bnd_eq, within_eq]
  rw [show decide (-62135596800 ≤ m ∧ m ≤ 253402300799) = true by simpa using ⟨h1, h2⟩, ahead_eq hz (by omega) (by omega)]
  simp only [bnd_eq]
  rw [w64 (by omega) (by omega), civil_eq (by omega) (by omega)]
  rfl

/-- a civil time that is right -/
def chk (c : GCivil) : Prop := 1 ≤ c.year ∧ c.year ≤ 9999 ∧ 1 ≤ c.month ∧ c.month ≤ 12 ∧ 1 ≤ c.day ∧ c.day ≤ dim c.year c.month ∧ 0 ≤ c.hour ∧ c.hour ≤ 23 ∧ 0 ≤ c.minute ∧ c.minute ≤ 59 ∧ 0 ≤ c.second ∧ c.second ≤ 59

instance (c : GCivil) : Decidable (chk c) := by unfold chk; infer_instance

theorem chk_fine {c : GCivil} (h : chk c) : Fine c := by
  obtain ⟨a, b, c1, d, e, f, g, i, j, k, l, m⟩ := h
  have := dim_bound c.year c.month
  exact ⟨by omega, by omega, c1, d, by omega, by omega, g, i, j, k, l, m⟩

theorem chk_bound {c : GCivil} (h : chk c) : -900000000000 ≤ sec c ∧ sec c ≤ 900000000000 := sec_bound (chk_fine h)

/-- what Instant looks at: the earlier moment, or the later one -/
def inst (z : GZone) (s : Int) : Int := if s - z.offset * 60 - z.summer * 60 + ahd z (s - z.offset * 60 - z.summer * 60) = s then s - z.offset * 60 - z.summer * 60 else s - z.offset * 60

theorem chk_sec {c : GCivil} (h : chk c) : -300000000000 ≤ sec c ∧ sec c ≤ 300000000000 := by
  obtain ⟨a, b, c1, d, e, f, g, i, j, k, l, m⟩ := h
  have hd := days_in c.year c.month c.day c1 d e f
  have e1 := days_mono (y := 1) (z := c.year) (by omega)
  have e2 := days_mono (y := c.year + 1) (z := 10000) (by omega)
  have e3 : Cal.days 1 1 1 = -719162 := by decide +kernel
  have e4 : Cal.days 10000 1 1 = 2932897 := by decide +kernel
  have hdim := dim_bound c.year c.month
  unfold sec
  omega

theorem Instant_eq {c : GCivil} {nm : ByteArray} {z : GZone} (h : zf nm = some z) : value_Instant c nm = some (if chk c then (if (-62135596800) ≤ inst z (sec c) ∧ inst z (sec c) ≤ 253402300799 then (inst z (sec c), 0) else (0, 3)) else (0, 3)) := by
  unfold value_Instant
  rw [zone_eq, check_eq]
  have hz := zf_ok h
  have : Zs.find? (fun z => z.name.toList == nm.toList) = some z := h
  rw [this]
  simp only [bnd_eq]
  by_cases hc : chk c
  · have hs := chk_sec hc
    obtain ⟨o0, o1, hss⟩ := id hz
    have hs0 : 0 ≤ z.summer ∧ z.summer ≤ 60 := by rcases hss with h | ⟨_, _, h, _⟩ <;> omega
    have hc' := hc
    unfold chk at hc'
    rw [if_pos hc', if_pos hc, seconds_eq (chk_fine hc)]
    simp only [bnd_eq]
    rw [show ((0 : Int) != 0) = false from rfl, ift_false, show (!true) = false from rfl, ift_false]
    rw [w64 (x := z.offset * 60) (by omega) (by omega), w64 (x := z.summer * 60) (by omega) (by omega), w64 (x := sec c - z.offset * 60) (by omega) (by omega), w64 (x := sec c - z.offset * 60 - z.summer * 60) (by omega) (by omega)]
    rw [ahead_eq hz (by omega) (by omega)]
    simp only [bnd_eq]
    have hb := ahd_bound hz (sec c - z.offset * 60 - z.summer * 60)
    rw [w64 (by omega) (by omega)]
    unfold inst value_Instant_j1
    simp only [within_eq, bnd_eq]
    by_cases he : sec c - z.offset * 60 - z.summer * 60 + ahd z (sec c - z.offset * 60 - z.summer * 60) = sec c
    · simp only [he, if_true, beq_self_eq_true, ift_true]
      by_cases hr : (-62135596800) ≤ sec c - z.offset * 60 - z.summer * 60 ∧ sec c - z.offset * 60 - z.summer * 60 ≤ 253402300799
      · simp [hr, ift_ite]
      · rw [if_neg hr]; simp [hr, ift_ite]
    · simp only [he, if_false, beq_eq_false_iff_ne.2 he, ift_false]
      by_cases hr : (-62135596800) ≤ sec c - z.offset * 60 ∧ sec c - z.offset * 60 ≤ 253402300799
      · simp [hr, ift_ite]
      · rw [if_neg hr]; simp [hr, ift_ite]
  · have hc' := hc
    unfold chk at hc'
    rw [if_neg hc', if_neg hc]
    simp [ift_ite]

/-! ### where the clocks turn -/

def J (z : GZone) (y : Int) : Int := Cal.days y 1 1 * 86400 - z.offset * 60

theorem yof_iff {z : GZone} {m y : Int} : yof z m = y ↔ J z y ≤ m ∧ m < J z (y + 1) := by
  unfold yof J
  rw [year_iff]
  omega

theorem month_E (y : Int) : Cal.days y 3 1 = E y ∧ Cal.days y 4 1 = E y + 31 ∧ Cal.days y 10 1 = E y + 214 ∧ Cal.days y 11 1 = E y + 245 ∧ Cal.days (y + 1) 1 1 = E y + 306 ∧ E y - 60 ≤ Cal.days y 1 1 ∧ Cal.days y 1 1 ≤ E y - 59 := by
  rw [days_jan, days_jan, show y + 1 - 1 = y by omega]
  have hE := E_step (y - 1)
  rw [show y - 1 + 1 = y by omega] at hE
  simp only [days_E]
  simp [mdays]
  omega

/-- near the turn of the year nothing turns -/
theorem near {z : GZone} (hz : ZOk z) (hs : z.summer ≠ 0) {m : Int} (y : Int) (h1 : J z y - 1728000 ≤ m) (h2 : m < J z y + 1728000) : ahd z m = if z.start.month = 3 then z.offset * 60 else z.offset * 60 + z.summer * 60 := by
  obtain ⟨o0, o1, hss⟩ := hz
  rcases hss with h | ⟨t1, t2, hsu, hmin, hmo⟩
  · exact absurd h hs
  have key : (z.start.month = 3 ∧ ¬ isIn z m) ∨ (z.start.month ≠ 3 ∧ isIn z m) := by
    unfold isIn
    by_cases hy : J z y ≤ m
    · have h366 := days_year y
      have hyo : yof z m = y := yof_iff.2 ⟨hy, by unfold J at *; omega⟩
      rw [hyo]
      obtain ⟨e3, e4, e10, e11, en, ej0, ej1⟩ := month_E y
      have b1 := atDay_bound t1 y
      have b2 := atDay_bound t2 y
      have i3 := t2.i0; have i4 := t2.i1
      unfold bgn fin
      unfold J at *
      rcases hmo with ⟨m1, m2, m3⟩ | ⟨m1, m2⟩
      · rw [m1, e3] at b1
        refine .inl ⟨m1, ?_⟩
        have hst : z.stop.month = 10 ∨ z.stop.month = 11 := by omega
        rcases hst with hst | hst
        · rw [hst, e10] at b2
          rw [if_neg (by omega)]; omega
        · rw [hst, e11] at b2
          rw [if_neg (by omega)]; omega
      · rw [m1, e10] at b1
        rw [m2, e4] at b2
        refine .inr ⟨by omega, ?_⟩
        rw [if_pos (by omega)]; omega
    · have h366 := days_year (y - 1)
      rw [show y - 1 + 1 = y by omega] at h366
      have hyo : yof z m = y - 1 := yof_iff.2 ⟨by unfold J at *; omega, by rw [show y - 1 + 1 = y by omega]; omega⟩
      rw [hyo]
      obtain ⟨e3, e4, e10, e11, en, ej0, ej1⟩ := month_E (y - 1)
      rw [show y - 1 + 1 = y by omega] at en
      have b1 := atDay_bound t1 (y - 1)
      have b2 := atDay_bound t2 (y - 1)
      have i3 := t2.i0; have i4 := t2.i1
      unfold bgn fin
      unfold J at *
      rcases hmo with ⟨m1, m2, m3⟩ | ⟨m1, m2⟩
      · rw [m1, e3] at b1
        refine .inl ⟨m1, ?_⟩
        have hst : z.stop.month = 10 ∨ z.stop.month = 11 := by omega
        rcases hst with hst | hst
        · rw [hst, e10] at b2
          rw [if_neg (by omega)]; omega
        · rw [hst, e11] at b2
          rw [if_neg (by omega)]; omega
      · rw [m1, e10] at b1
        rw [m2, e4] at b2
        refine .inr ⟨by omega, ?_⟩
        rw [if_pos (by omega)]; omega
  unfold ahd
  rw [if_neg hs]
  rcases key with ⟨k1, k2⟩ | ⟨k1, k2⟩
  · rw [if_neg k2, if_pos k1]
  · rw [if_pos k2, if_neg k1]

theorem ahd_in {z : GZone} {m : Int} (hs : z.summer ≠ 0) (h : ahd z m = z.offset * 60 + z.summer * 60) : isIn z m := by
  unfold ahd at h
  rw [if_neg hs] at h
  split at h
  · assumption
  · omega

theorem ahd_out {z : GZone} {m : Int} (hs : z.summer ≠ 0) (h : ahd z m = z.offset * 60) : ¬ isIn z m := by
  unfold ahd at h
  rw [if_neg hs] at h
  split at h
  · omega
  · assumption

/-- from the standard clock to the clock in summer: a turn lies between -/
theorem gap {z : GZone} (hz : ZOk z) (hs : z.summer ≠ 0) {x m : Int} (hx : ahd z x = z.offset * 60) (hm : ahd z m = z.offset * 60 + z.summer * 60) (h1 : x ≤ m) (h2 : m < x + z.summer * 60) :
    ∃ N : Int, x < N * 86400 + 7200 - z.offset * 60 ∧ N * 86400 + 7200 - z.offset * 60 ≤ m := by
  have hsu : z.summer = 30 ∨ z.summer = 60 := by rcases hz.s with h | ⟨_, _, h, _⟩ <;> omega
  have hmin : z.start.minute = 120 := by
    rcases hz.s with h | ⟨_, _, _, h, _⟩
    · exact absurd h hs
    · exact h
  by_cases hy : yof z x = yof z m
  · have i1 := ahd_out hs hx
    have i2 := ahd_in hs hm
    unfold isIn at i1 i2
    rw [hy] at i1
    refine ⟨atDay z.start (yof z m), ?_⟩
    have hb : bgn z (yof z m) = atDay z.start (yof z m) * 86400 + 7200 - z.offset * 60 := by unfold bgn; rw [hmin]; omega
    rw [← hb]
    split at i1
    · rename_i hc
      rw [if_pos hc] at i2
      omega
    · rename_i hc
      rw [if_neg hc] at i2
      omega
  · exfalso
    have a1 := (yof_iff (z := z) (m := m) (y := yof z m)).1 rfl
    have a2 := (yof_iff (z := z) (m := x) (y := yof z x)).1 rfl
    have hlt : x < J z (yof z m) := by
      apply Classical.byContradiction
      intro hn
      exact hy ((yof_iff (z := z) (m := x) (y := yof z m)).2 ⟨by omega, by omega⟩)
    have n1 := near hz hs (m := m) (yof z m) (by omega) (by omega)
    have n2 := near hz hs (m := x) (yof z m) (by omega) (by omega)
    rw [n2] at hx
    rw [n1] at hm
    split at hx <;> omega

theorem days_one : Cal.days 1 1 1 = -719162 := by decide +kernel

/-- at the first moment no clock turns back -/
theorem first {z : GZone} (hz : ZOk z) {m : Int} (hs : z.summer ≠ 0) (h : ahd z m = z.offset * 60) (hx : ahd z (m - z.summer * 60) = z.offset * 60 + z.summer * 60) (hm : (-62135596800) ≤ m) : (-62135596800) ≤ m - z.summer * 60 := by
  apply Classical.byContradiction
  intro hn
  have hsu : z.summer = 30 ∨ z.summer = 60 := by rcases hz.s with h | ⟨_, _, h, _⟩ <;> omega
  have o0 := hz.o0; have o1 := hz.o1
  have n1 := near hz hs (m := m) 1 (by unfold J; rw [days_one]; omega) (by unfold J; rw [days_one]; omega)
  have n2 := near hz hs (m := m - z.summer * 60) 1 (by unfold J; rw [days_one]; omega) (by unfold J; rw [days_one]; omega)
  rw [n1] at h; rw [n2] at hx
  split at h <;> omega

/-- Instant of what the clock shows -/
theorem inst_back {z : GZone} (hz : ZOk z) {m : Int} (h1 : (-62135596800) ≤ m) (h2 : m ≤ 253402300799) : (-62135596800) ≤ inst z (m + ahd z m) ∧ inst z (m + ahd z m) ≤ m ∧ inst z (m + ahd z m) + ahd z (inst z (m + ahd z m)) = m + ahd z m := by
  have hsu : 0 ≤ z.summer := by rcases hz.s with h | ⟨_, _, h, _⟩ <;> omega
  unfold inst
  by_cases hs : z.summer = 0
  · have hA : ∀ x, ahd z x = z.offset * 60 := fun x => by unfold ahd; rw [if_pos hs]
    simp only [hA, hs]
    split <;> omega
  · rcases ahd_cases (z := z) (m := m) with hA | hA
    · rw [hA]
      have e1 : m + z.offset * 60 - z.offset * 60 - z.summer * 60 = m - z.summer * 60 := by omega
      have e2 : m + z.offset * 60 - z.offset * 60 = m := by omega
      rw [e1, e2]
      split
      · rename_i he
        have hx : ahd z (m - z.summer * 60) = z.offset * 60 + z.summer * 60 := by omega
        have := first hz hs hA hx h1
        omega
      · rw [hA]; omega
    · rw [hA]
      have e1 : m + (z.offset * 60 + z.summer * 60) - z.offset * 60 - z.summer * 60 = m := by omega
      rw [e1, hA]
      rw [if_pos (by omega), hA]; omega

/-- Instant of an earlier civil time that is no time within a gap -/
theorem inst_le {z : GZone} (hz : ZOk z) {m s' : Int} (hle : s' ≤ m + ahd z m)
    (hal : ∀ N : Int, N * 86400 + 7200 < s' → s' < N * 86400 + 7200 + z.summer * 60 → N * 86400 + 7200 + z.summer * 60 ≤ m + ahd z m → False) : inst z s' ≤ m := by
  have hsu : 0 ≤ z.summer := by rcases hz.s with h | ⟨_, _, h, _⟩ <;> omega
  by_cases hs : z.summer = 0
  · have hA : ∀ x, ahd z x = z.offset * 60 := fun x => by unfold ahd; rw [if_pos hs]
    unfold inst
    simp only [hA, hs] at *
    split <;> omega
  · unfold inst
    rcases ahd_cases (z := z) (m := m) with hA | hA
    · rw [hA] at hle; split <;> omega
    · rw [hA] at hle hal
      split
      · omega
      · rename_i he
        have hx : ahd z (s' - z.offset * 60 - z.summer * 60) = z.offset * 60 := by
          rcases ahd_cases (z := z) (m := s' - z.offset * 60 - z.summer * 60) with h | h
          · exact h
          · exfalso; rw [h] at he; omega
        apply Classical.byContradiction
        intro hn
        obtain ⟨N, g1, g2⟩ := gap hz hs hx hA (by omega) (by omega)
        exact hal N (by omega) (by omega) (by omega)

end Go.Proofs.Ytdkmclmdemngfaa
