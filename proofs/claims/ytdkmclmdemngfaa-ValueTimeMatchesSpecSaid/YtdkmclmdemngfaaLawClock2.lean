/- The zones' clocks. -/
import Derived.Test.YtdkmclmdemngfaaLawClock
namespace Go.Proofs.Ytdkmclmdemngfaa
open Go Go.SX Go.SX.Cal
set_option linter.unusedVariables false
set_option linter.unusedSimpArgs false

theorem big_val : BIG = 1152921504606846976 := rfl

structure TOk (t : GTurn) : Prop where
  m0 : 1 ≤ t.month
  m1 : t.month ≤ 12
  w0 : 1 ≤ t.week
  w1 : t.week ≤ 5
  d0 : 1 ≤ t.weekday
  d1 : t.weekday ≤ 7
  i0 : 0 ≤ t.minute
  i1 : t.minute ≤ 1440

def atN (t : GTurn) (y : Int) : Int := Cal.days y t.month 1 + (t.weekday - ((Cal.days y t.month 1 + 3) % 7 + 1) + 7) % 7

/-- the day of a turn in a year -/
def atDay (t : GTurn) (y : Int) : Int :=
  if t.week < 5 then atN t y + (t.week - 1) * 7 else atN t y + 7 * ((Cal.days y t.month 1 + dim y t.month - 1 - atN t y) / 7)

theorem at_loop {t : GTurn} {r1 r3 : Int} (ht : TOk t) (h1 : -100000000 ≤ r1) (h2 : r1 ≤ 100000000) (h3 : 0 ≤ r3) (h4 : r3 ≤ 31) : ∀ (k : Nat) (x : Int), r1 ≤ x → x < r1 + r3 → (r1 + r3 - 1 - x) / 7 < k →
    value_at_l1 t r1 r3 k x = some ((x + 7 * ((r1 + r3 - 1 - x) / 7)) * 86400 + t.minute * 60) := by
  intro k
  induction k with
  | zero => intro x a b c; omega
  | succ k ih =>
    intro x a b c
    rw [value_at_l1]
    simp (disch := omega) only [w64]
    simp only [bnd_eq]
    by_cases hc : x + 7 < r1 + r3
    · simp only [hc, decide_true, ift_true]
      rw [ih (x + 7) (by omega) (by omega) (by omega)]
      congr 3
      omega
    · simp only [hc, decide_false, ift_false]
      unfold value_at_j1
      have : (r1 + r3 - 1 - x) / 7 = 0 := by omega
      obtain ⟨_, _, _, _, _, _, i0, i1⟩ := ht
      rw [this]
      simp (disch := omega) only [w64]
      simp only [bnd_eq]
      congr 2
      omega

theorem atN_bound {t : GTurn} (y : Int) : Cal.days y t.month 1 ≤ atN t y ∧ atN t y ≤ Cal.days y t.month 1 + 6 := by unfold atN; omega

theorem atDay_bound {t : GTurn} (ht : TOk t) (y : Int) : Cal.days y t.month 1 ≤ atDay t y ∧ atDay t y ≤ Cal.days y t.month 1 + 30 := by
  have := atN_bound (t := t) y
  have hd := dim_bound y t.month
  have := ht.w0
  unfold atDay; split <;> omega

theorem at_eq {t : GTurn} {y : Int} (ht : TOk t) (h1 : -20000 ≤ y) (h2 : y ≤ 20000) : value_at t y = some (atDay t y * 86400 + t.minute * 60) := by
  have hb := days_bound (d := 1) h1 h2 ht.m0 ht.m1 (by decide) (by decide)
  have hn := atN_bound (t := t) y
  have hdim := dim_bound y t.month
  obtain ⟨m0, m1, w0, w1, d0, d1, i0, i1⟩ := id ht
  unfold value_at
  rw [days_eq (by omega) (by omega) m0 m1 (by decide) (by decide)]
  simp only [bnd_eq]
  rw [weekday_eq (by omega) (by omega)]
  simp only [bnd_eq, daysIn_eq]
  have e : (IntKind.i64.wrap (IntKind.i64.wrap (t.weekday - ((Cal.days y t.month 1 + 3) % 7 + 1)) + 7)).tmod 7 = (t.weekday - ((Cal.days y t.month 1 + 3) % 7 + 1) + 7) % 7 := by
    simp (disch := omega) only [w64, Int.tmod_eq_emod_of_nonneg]
  rw [e]
  have e2 : Cal.days y t.month 1 + (t.weekday - ((Cal.days y t.month 1 + 3) % 7 + 1) + 7) % 7 = atN t y := rfl
  have e3 : IntKind.i64.wrap (Cal.days y t.month 1 + (t.weekday - ((Cal.days y t.month 1 + 3) % 7 + 1) + 7) % 7) = atN t y := by rw [e2]; exact w64 (by omega) (by omega)
  rw [e3]
  unfold atDay
  by_cases hw : t.week < 5
  · simp only [hw, decide_true, ift_true, if_true]
    unfold value_at_j1
    simp (disch := omega) only [w64]
    simp only [bnd_eq]
  · simp only [hw, decide_false, ift_false, if_false]
    rw [at_loop ht (by omega) (by omega) (by omega) (by omega) BIG _ (by omega) (by omega) (by rw [big_val]; omega)]

/-! ### zones -/

structure ZOk (z : GZone) : Prop where
  o0 : -720 ≤ z.offset
  o1 : z.offset ≤ 720
  s : z.summer = 0 ∨ (TOk z.start ∧ TOk z.stop ∧ (z.summer = 30 ∨ z.summer = 60) ∧ z.start.minute = 120 ∧ ((z.start.month = 3 ∧ 10 ≤ z.stop.month ∧ z.stop.month ≤ 11) ∨ (z.start.month = 10 ∧ z.stop.month = 4)))

def yof (z : GZone) (m : Int) : Int := (Cal.date ((m + z.offset * 60) / 86400)).1
def bgn (z : GZone) (y : Int) : Int := atDay z.start y * 86400 + z.start.minute * 60 - z.offset * 60
def fin (z : GZone) (y : Int) : Int := atDay z.stop y * 86400 + z.stop.minute * 60 - z.offset * 60 - z.summer * 60
def isIn (z : GZone) (m : Int) : Prop := if fin z (yof z m) ≤ bgn z (yof z m) then m < fin z (yof z m) ∨ bgn z (yof z m) ≤ m else bgn z (yof z m) ≤ m ∧ m < fin z (yof z m)
instance (z : GZone) (m : Int) : Decidable (isIn z m) := by unfold isIn; infer_instance
def ahd (z : GZone) (m : Int) : Int := if z.summer = 0 then z.offset * 60 else if isIn z m then z.offset * 60 + z.summer * 60 else z.offset * 60

theorem year_bound {n : Int} (h1 : -5000000 ≤ n) (h2 : n ≤ 5000000) : -20000 ≤ (Cal.date n).1 ∧ (Cal.date n).1 ≤ 20000 := by
  obtain ⟨b0, b1⟩ := yr_bound (r := (n + 719468) % 146097) (by omega) (by omega)
  simp only [Cal.date]
  split <;> omega

theorem ahead_eq {z : GZone} {m : Int} (hz : ZOk z) (h1 : -400000000000 ≤ m) (h2 : m ≤ 400000000000) : value_ahead z m = some (ahd z m) := by
  obtain ⟨o0, o1, hs⟩ := hz
  unfold value_ahead ahd
  have hs0 : 0 ≤ z.summer ∧ z.summer ≤ 60 := by rcases hs with h | ⟨_, _, h, _⟩ <;> omega
  rw [w64 (x := z.summer * 60) (by omega) (by omega), w64 (x := z.offset * 60) (by omega) (by omega)]
  rcases hs with hs | ⟨t1, t2, hs, _, _⟩
  · simp [hs, ift_ite]
  have hne : z.summer ≠ 0 := by omega
  have e0 : (z.summer * 60 == 0) = false := beq_eq_false_iff_ne.2 (by omega)
  rw [e0, ift_false, if_neg hne, w64 (x := m + z.offset * 60) (by omega) (by omega), civil_eq (by omega) (by omega)]
  simp only [bnd_eq]
  have hy : (civ (m + z.offset * 60)).year = yof z m := rfl
  have hyb : -20000 ≤ yof z m ∧ yof z m ≤ 20000 := year_bound (n := (m + z.offset * 60) / 86400) (by omega) (by omega)
  rw [hy, at_eq t1 hyb.1 hyb.2]
  simp only [bnd_eq]
  rw [at_eq t2 hyb.1 hyb.2]
  simp only [bnd_eq]
  have b1 := atDay_bound t1 (yof z m)
  have b2 := atDay_bound t2 (yof z m)
  have c1 := days_bound (d := 1) (y := yof z m) hyb.1 hyb.2 t1.m0 t1.m1 (by decide) (by decide)
  have c2 := days_bound (d := 1) (y := yof z m) hyb.1 hyb.2 t2.m0 t2.m1 (by decide) (by decide)
  have i1 := t1.i0; have i2 := t1.i1; have i3 := t2.i0; have i4 := t2.i1
  have e1 : IntKind.i64.wrap (atDay z.start (yof z m) * 86400 + z.start.minute * 60 - z.offset * 60) = bgn z (yof z m) := w64 (by omega) (by omega)
  have e2 : IntKind.i64.wrap (IntKind.i64.wrap (atDay z.stop (yof z m) * 86400 + z.stop.minute * 60 - z.offset * 60) - z.summer * 60) = fin z (yof z m) := by
    simp (disch := omega) only [w64]; rfl
  unfold value_ahead_j1 value_ahead_j2
  rw [w64 (x := z.offset * 60) (by omega) (by omega), w64 (x := z.summer * 60) (by omega) (by omega), w64 (x := z.offset * 60 + z.summer * 60) (by omega) (by omega)]
  simp only [bnd_eq]
  rw [e1, e2]
  unfold isIn
  by_cases hbe : fin z (yof z m) ≤ bgn z (yof z m) <;> by_cases hb : bgn z (yof z m) ≤ m <;> by_cases he : m < fin z (yof z m) <;> simp [hbe, hb, he, ift_ite]

theorem ahd_cases {z : GZone} {m : Int} : ahd z m = z.offset * 60 ∨ ahd z m = z.offset * 60 + z.summer * 60 := by
  unfold ahd; split
  · exact .inl rfl
  · split
    · exact .inr rfl
    · exact .inl rfl

def Zs : List GZone := (api_Zones).getD []

theorem zones_eq : api_Zones = some Zs := rfl

theorem zones_ok : ∀ z ∈ Zs, ZOk z := by
  intro z hz
  simp only [Zs, api_Zones, Option.getD_some, List.mem_cons, List.not_mem_nil, or_false] at hz
  rcases hz with rfl | rfl | rfl | rfl | rfl | rfl
  · exact ⟨by decide, by decide, .inl rfl⟩
  · exact ⟨by decide, by decide, .inr ⟨⟨by decide, by decide, by decide, by decide, by decide, by decide, by decide, by decide⟩, ⟨by decide, by decide, by decide, by decide, by decide, by decide, by decide, by decide⟩, by decide, by decide, by decide⟩⟩
  · exact ⟨by decide, by decide, .inl rfl⟩
  · exact ⟨by decide, by decide, .inr ⟨⟨by decide, by decide, by decide, by decide, by decide, by decide, by decide, by decide⟩, ⟨by decide, by decide, by decide, by decide, by decide, by decide, by decide, by decide⟩, by decide, by decide, by decide⟩⟩
  · exact ⟨by decide, by decide, .inr ⟨⟨by decide, by decide, by decide, by decide, by decide, by decide, by decide, by decide⟩, ⟨by decide, by decide, by decide, by decide, by decide, by decide, by decide, by decide⟩, by decide, by decide, by decide⟩⟩
  · exact ⟨by decide, by decide, .inr ⟨⟨by decide, by decide, by decide, by decide, by decide, by decide, by decide, by decide⟩, ⟨by decide, by decide, by decide, by decide, by decide, by decide, by decide, by decide⟩, by decide, by decide, by decide⟩⟩

theorem index_eq (xs : List GZone) (nm : ByteArray) (hl : xs.length < 1000000) : ∀ (k i : Nat), i ≤ xs.length → xs.length < i + k →
    slices_IndexFunc_api_Zone_api_Zone_s1_l1 xs nm k (i : Int) = some (match (xs.drop i).findIdx? (fun z => z.name.toList == nm.toList) with | some j => ((i + j : Nat) : Int) | none => -1) := by
  intro k
  induction k with
  | zero => intro i h1 h2; omega
  | succ k ih =>
    intro i h1 h2
    rw [slices_IndexFunc_api_Zone_api_Zone_s1_l1]
    by_cases hi : i < xs.length
    · have e : xs.drop i = xs[i] :: xs.drop (i + 1) := List.drop_eq_getElem_cons hi
      have ea : at? xs (i : Int) = some xs[i] := by unfold at?; simp [hi]
      rw [show decide ((i : Int) < (xs.length : Int)) = true by simp [hi], ift_true, ea]
      simp only [bnd_eq, value_zone_1_s2]
      rw [e, List.findIdx?_cons]
      by_cases hb : (xs[i].name.toList == nm.toList) = true
      · rw [hb]; simp [ift_true]
      · simp only [Bool.not_eq_true] at hb
        rw [hb, ift_false, w64 (by omega) (by omega), show (i : Int) + 1 = ((i + 1 : Nat) : Int) by omega, ih (i + 1) (by omega) (by omega)]
        simp only [Bool.false_eq_true, if_false]
        cases (xs.drop (i + 1)).findIdx? (fun z => z.name.toList == nm.toList) with
        | none => rfl
        | some j =>
          simp only [Option.map_some]
          rw [show i + 1 + j = i + (j + 1) by omega]
    · have : i = xs.length := by omega
      subst this
      rw [show decide ((xs.length : Int) < (xs.length : Int)) = false by simp, ift_false]
      simp [slices_IndexFunc_api_Zone_api_Zone_s1_j1]

def noZone : GZone := ⟨ByteArray.empty, 0, 0, ⟨0, 0, 0, 0⟩, ⟨0, 0, 0, 0⟩⟩

theorem zone_eq (nm : ByteArray) : value_zone nm = some (match Zs.find? (fun z => z.name.toList == nm.toList) with | some z => (z, true) | none => (noZone, false)) := by
  unfold value_zone
  rw [zones_eq]
  simp only [bnd_eq]
  unfold slices_IndexFunc_api_Zone_api_Zone_s1
  have := index_eq Zs nm (by decide) BIG 0 (Nat.zero_le _) (by rw [big_val]; decide)
  rw [show ((0 : Nat) : Int) = 0 from rfl] at this
  rw [this, List.drop_zero]
  simp only [bnd_eq]
  cases hf : Zs.findIdx? (fun z => z.name.toList == nm.toList) with
  | none =>
    rw [List.findIdx?_eq_none_iff] at hf
    have : Zs.find? (fun z => z.name.toList == nm.toList) = none := by
      rw [List.find?_eq_none]; intro x hx; simp [hf x hx]
    rw [this]
    rfl
  | some j =>
    rw [List.findIdx?_eq_some_iff_getElem] at hf
    obtain ⟨hj, h1, h2⟩ := hf
    have : Zs.find? (fun z => z.name.toList == nm.toList) = some Zs[j] := by
      rw [List.find?_eq_some_iff_getElem]
      exact ⟨h1, j, hj, rfl, fun k hk => by simpa using h2 k hk⟩
    rw [this]
    simp only [Nat.zero_add]
    rw [show decide ((j : Int) < 0) = false by simp, ift_false]
    have ea : at? Zs (j : Int) = some Zs[j] := by unfold at?; simp [hj]
    rw [ea]
    rfl

end Go.Proofs.Ytdkmclmdemngfaa
