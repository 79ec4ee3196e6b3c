/- The law 'ValueClocksLeadBack', in plain terms. -/
import Derived.Test.YtdkmclmdemngfaaLawClock3
namespace Go.Proofs.Ytdkmclmdemngfaa
open Go Go.SX Go.SX.Cal
set_option linter.unusedVariables false
set_option linter.unusedSimpArgs false

def utc : ByteArray := ByteArray.mk #[117, 116, 99]

theorem zf_utc : zf utc = some ⟨utc, 0, 0, ⟨0, 0, 0, 0⟩, ⟨0, 0, 0, 0⟩⟩ := by decide +kernel

theorem local_zero : value_Local 0 utc = some (civ 0, 0) := by
  rw [Local_in zf_utc (by decide) (by decide)]
  have : ahd ⟨utc, 0, 0, ⟨0, 0, 0, 0⟩, ⟨0, 0, 0, 0⟩⟩ 0 = 0 := by unfold ahd; rw [if_pos rfl]; rfl
  rw [this]; rfl

theorem year_zero : (civ 0).year = 1970 := by decide +kernel

/-- the law's end, at what Trunc gives -/
def tailT (m part n : Int) (r5 : Int × Int) : Option Bool :=
  ift (r5.2 != (0 : Int)) (some true) (ift (decide (r5.1 ≤ m)) (ift (part != (6 : Int)) (some true) (some (r5.1 == n))) (some false))

theorem tail_true {m part n : Int} {r5 : Int × Int} (h : r5.2 = 0 → r5.1 ≤ m ∧ (part = 6 → r5.1 = n)) : tailT m part n r5 = some true := by
  unfold tailT
  by_cases h0 : r5.2 = 0
  · obtain ⟨h1, h2⟩ := h h0
    simp only [h0, bne_self_eq_false, ift_false, h1, decide_true, ift_true]
    by_cases hp : part = 6
    · simp [hp, h2 hp, ift_ite]
    · simp [hp, ift_ite]
  · simp [h0, ift_ite]

theorem j4_eq {m part : Int} {nm : ByteArray} {r3 : Int × Int} : law1_ValueClocksLeadBack_j4 m part nm r3 false = bnd (value_Trunc m part nm) fun r5 => tailT m part r3.1 r5 := rfl

theorem trunc_j1 {nm : ByteArray} {a b c d e f : Int} {r : Int × Int} (h : value_Instant ⟨a, b, c, d, e, f⟩ nm = some r) : value_Trunc_j1 nm a b c d e f = some r := by
  unfold value_Trunc_j1
  rw [h]; rfl

theorem law_clocks (m part : Int) (nm : ByteArray) : law1_ValueClocksLeadBack m part nm = some true := by
  unfold law1_ValueClocksLeadBack
  have hl := local_zero
  unfold utc at hl
  rw [hl]
  simp only [bnd_eq, year_zero]
  rw [show ((0 : Int) != 0) = false from rfl, ift_false, show ((1970 : Int) != 1970) = false from rfl]
  unfold law1_ValueClocksLeadBack_j1
  rw [ift_false]
  cases hz0 : zf nm with
  | none => rw [Local_none hz0]; rfl
  | some z =>
    by_cases hm : -62135596800 ≤ m ∧ m ≤ 253402300799
    · obtain ⟨h1, h2⟩ := hm
      have hz := zf_ok hz0
      have hL := Local_in hz0 h1 h2
      rw [hL, bnd_eq]
      rw [show (((civ (m + ahd z m), (0 : Int)).2 : Int) != 0) = false from rfl, ift_false, Instant_eq hz0]
      simp only [bnd_eq]
      have hab := ahd_bound hz m
      obtain ⟨hF, hsec, hd0, hd1⟩ := civ_ok (s := m + ahd z m) (by omega) (by omega)
      obtain ⟨i1, i2, i3⟩ := inst_back hz h1 h2
      generalize hs : m + ahd z m = s at *
      by_cases hy : 1 ≤ (civ s).year ∧ (civ s).year ≤ 9999
      · obtain ⟨hy0, hy1⟩ := hy
        have hc : chk (civ s) := ⟨hy0, hy1, hF.m0, hF.m1, hd0, hd1, hF.h0, hF.h1, hF.i0, hF.i1, hF.s0, hF.s1⟩
        rw [show decide ((civ s).year < 1) = false by simp; omega, ift_false, show decide (9999 < (civ s).year) = false by simp; omega]
        unfold law1_ValueClocksLeadBack_j3
        rw [ift_false, if_pos hc, hsec, if_pos ⟨i1, by omega⟩]
        simp only
        rw [Local_in hz0 i1 (by omega), i3]
        simp only [bnd_eq]
        rw [show ((0 : Int) != 0) = false from rfl, ift_false, ift_false, show decide (m < inst z s) = false by simp; omega, ift_false]
        have hsame : (!((civ s).year == (civ s).year && ((civ s).month == (civ s).month && ((civ s).day == (civ s).day && ((civ s).hour == (civ s).hour && ((civ s).minute == (civ s).minute && ((civ s).second == (civ s).second && true))))))) = false := by simp
        rw [hsame, j4_eq]
        -- the tail at any civil time
        have fine : ∀ c' : GCivil, (chk c' → sec c' ≤ s ∧ ∀ N : Int, N * 86400 + 7200 < sec c' → sec c' < N * 86400 + 7200 + z.summer * 60 → N * 86400 + 7200 + z.summer * 60 ≤ s → False) → (part = 6 → c' = civ s) →
            ∀ r5, value_Instant c' nm = some r5 → tailT m part (inst z s) r5 = some true := by
          intro c' hc' h6 r5 hr
          rw [Instant_eq hz0] at hr
          obtain rfl := Option.some.inj hr
          refine tail_true fun h0 => ?_
          by_cases hk : chk c'
          · rw [if_pos hk] at h0 ⊢
            obtain ⟨g1, g2⟩ := hc' hk
            split at h0
            · rename_i hr'
              rw [if_pos hr']
              refine ⟨inst_le hz (by rw [hs]; exact g1) (by rw [hs]; exact g2), fun hp => ?_⟩
              rw [h6 hp, hsec]
            · simp at h0
          · rw [if_neg hk] at h0; simp at h0
        have hsu : 0 ≤ z.summer ∧ z.summer ≤ 60 := by rcases hz.s with h | ⟨_, _, h, _⟩ <;> omega
        have hT : value_Trunc m part nm = some (match value_Trunc m part nm with | some r => r | none => (0, 0)) ∧ ∀ r5, value_Trunc m part nm = some r5 → tailT m part (inst z s) r5 = some true := by
          obtain ⟨D1, D2, D3⟩ := days_in (civ s).year (civ s).month (civ s).day hF.m0 hF.m1 hd0 hd1
          have hse : sec (civ s) = Cal.days (civ s).year (civ s).month (civ s).day * 86400 + (civ s).hour * 3600 + (civ s).minute * 60 + (civ s).second := rfl
          rw [hsec] at hse
          obtain ⟨y0, y1, m0, m1, d0, d1, h0, hh1, q0, q1, s0, s1⟩ := id hF
          have go : ∀ (a b c d e f : Int), (chk ⟨a, b, c, d, e, f⟩ → sec ⟨a, b, c, d, e, f⟩ ≤ s ∧ ∀ N : Int, N * 86400 + 7200 < sec ⟨a, b, c, d, e, f⟩ → sec ⟨a, b, c, d, e, f⟩ < N * 86400 + 7200 + z.summer * 60 → N * 86400 + 7200 + z.summer * 60 ≤ s → False) → (part = 6 → (⟨a, b, c, d, e, f⟩ : GCivil) = civ s) →
              ∃ r5, value_Trunc_j1 nm a b c d e f = some r5 ∧ tailT m part (inst z s) r5 = some true := by
            intro a b c d e f k1 k2
            have hI := Instant_eq (c := ⟨a, b, c, d, e, f⟩) hz0
            exact ⟨_, trunc_j1 hI, fine _ k1 k2 _ hI⟩
          have all : ∃ r5, value_Trunc m part nm = some r5 ∧ tailT m part (inst z s) r5 = some true := by
            unfold value_Trunc
            rw [hL]
            simp only [bnd_eq]
            rw [show ((0 : Int) != 0) = false from rfl, ift_false]
            have daysEq := days_eq (y := (civ s).year) (m := (civ s).month) (d := (civ s).day) (by omega) (by omega) m0 m1 d0 d1
            generalize civ s = c at *
            obtain ⟨cy, cm, cd, ch, ci, cs⟩ := c
            simp only at *
            by_cases p1 : part = 1
            · subst p1
              refine go _ _ _ _ _ _ (fun _ => ?_) (fun hp => by omega)
              have : sec ⟨cy, 1, 1, 0, 0, 0⟩ = Cal.days cy 1 1 * 86400 := by simp [sec]
              rw [this]
              exact ⟨by omega, fun N a1 a2 a3 => by omega⟩
            rw [beq_eq_false_iff_ne.2 p1, ift_false]
            by_cases p2 : part = 2
            · subst p2
              refine go _ _ _ _ _ _ (fun _ => ?_) (fun hp => by omega)
              have : sec ⟨cy, cm, 1, 0, 0, 0⟩ = Cal.days cy cm 1 * 86400 := by simp [sec]
              rw [this]
              exact ⟨by omega, fun N a1 a2 a3 => by omega⟩
            rw [beq_eq_false_iff_ne.2 p2, ift_false]
            by_cases p3 : part = 3
            · subst p3
              refine go _ _ _ _ _ _ (fun _ => ?_) (fun hp => by omega)
              have : sec ⟨cy, cm, cd, 0, 0, 0⟩ = Cal.days cy cm cd * 86400 := by simp [sec]
              rw [this]
              exact ⟨by omega, fun N a1 a2 a3 => by omega⟩
            rw [beq_eq_false_iff_ne.2 p3, ift_false]
            by_cases p4 : part = 4
            · subst p4
              refine go _ _ _ _ _ _ (fun _ => ?_) (fun hp => by omega)
              have : sec ⟨cy, cm, cd, ch, 0, 0⟩ = Cal.days cy cm cd * 86400 + ch * 3600 := by simp [sec]
              rw [this]
              exact ⟨by omega, fun N a1 a2 a3 => by omega⟩
            rw [beq_eq_false_iff_ne.2 p4, ift_false]
            by_cases p5 : part = 5
            · subst p5
              refine go _ _ _ _ _ _ (fun _ => ?_) (fun hp => by omega)
              have : sec ⟨cy, cm, cd, ch, ci, 0⟩ = Cal.days cy cm cd * 86400 + ch * 3600 + ci * 60 := by simp [sec]
              rw [this]
              exact ⟨by omega, fun N a1 a2 a3 => by omega⟩
            rw [beq_eq_false_iff_ne.2 p5, ift_false]
            by_cases p6 : part = 6
            · subst p6
              refine go _ _ _ _ _ _ (fun _ => ?_) (fun _ => rfl)
              have : sec ⟨cy, cm, cd, ch, ci, cs⟩ = s := by simp [sec]; omega
              rw [this]
              exact ⟨by omega, fun N a1 a2 a3 => by omega⟩
            rw [beq_eq_false_iff_ne.2 p6, ift_false]
            by_cases p7 : part = 7
            · subst p7
              have hdb := days_bound y0 y1 m0 m1 d0 d1
              rw [show ((7 : Int) == 7) = true from rfl, ift_true, daysEq]
              simp only [bnd_eq]
              rw [weekday_eq (by omega) (by omega)]
              simp only [bnd_eq]
              generalize Cal.days cy cm cd = K at *
              have hw : 0 ≤ (K + 3) % 7 ∧ (K + 3) % 7 ≤ 6 := by omega
              generalize (K + 3) % 7 = wd at *
              rw [w64 (x := K - (wd + 1)) (by omega) (by omega), w64 (x := K - (wd + 1) + 1) (by omega) (by omega), w64 (by omega) (by omega), civil_eq (by omega) (by omega)]
              simp only [bnd_eq]
              refine go _ _ _ _ _ _ (fun _ => ?_) (fun hp => by omega)
              obtain ⟨_, hx, _⟩ := civ_ok (s := (K - (wd + 1) + 1) * 86400) (by omega) (by omega)
              have : sec ⟨(civ ((K - (wd + 1) + 1) * 86400)).year, (civ ((K - (wd + 1) + 1) * 86400)).month, (civ ((K - (wd + 1) + 1) * 86400)).day, (civ ((K - (wd + 1) + 1) * 86400)).hour, (civ ((K - (wd + 1) + 1) * 86400)).minute, (civ ((K - (wd + 1) + 1) * 86400)).second⟩ = (K - (wd + 1) + 1) * 86400 := hx
              rw [this]
              exact ⟨by omega, fun N a1 a2 a3 => by omega⟩
            rw [beq_eq_false_iff_ne.2 p7, ift_false]
            exact ⟨_, rfl, rfl⟩
          obtain ⟨r5, e1, e2⟩ := all
          rw [e1]
          exact ⟨rfl, fun r hr => by obtain rfl := Option.some.inj hr; exact e2⟩
        obtain ⟨e1, e2⟩ := hT
        rw [e1, bnd_eq]
        exact e2 _ e1
      · have hc : ¬ chk (civ s) := fun h => hy ⟨h.1, h.2.1⟩
        rw [if_neg hc]
        by_cases hy1 : (civ s).year < 1
        · rw [show decide ((civ s).year < 1) = true by simpa using hy1]; rfl
        · rw [show decide ((civ s).year < 1) = false by simpa using hy1, ift_false, show decide (9999 < (civ s).year) = true by simp; omega]; rfl
    · rw [Local_out hz0 hm]; rfl

end Go.Proofs.Ytdkmclmdemngfaa
