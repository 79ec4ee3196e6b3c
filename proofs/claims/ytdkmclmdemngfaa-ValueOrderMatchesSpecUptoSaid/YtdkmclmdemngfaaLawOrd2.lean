/- Comparing numbers of 256 bits. -/
import Derived.Test.YtdkmclmdemngfaaLawOrd1
namespace Go.Proofs.Ytdkmclmdemngfaa
open Go Go.SX Go.SX.Cal
set_option linter.unusedVariables false
set_option linter.unusedSimpArgs false

def c3 (a b : Int) : Int := if a < b then -1 else if b < a then 1 else 0

def sv (w : GWide) : Int := if w.neg = true then -val w else val w

theorem csize_eq {a b : GWide} (ha : W4 a) (hb : W4 b) : value_compareSize a b = some (c3 (val a) (val b)) := by
  obtain ⟨n, x0, x1, x2, x3⟩ := a
  obtain ⟨m, y0, y1, y2, y3⟩ := b
  obtain ⟨a0, a1, b0, b1, c0, c1, d0, d1⟩ := ha
  obtain ⟨e0, e1, f0, f1, g0, g1, h0, h1⟩ := hb
  simp only at *
  unfold value_compareSize
  simp only [ift_ite, decide_eq_true_eq]
  unfold c3 val
  simp only
  by_cases q3 : x3 < y3
  · rw [if_pos q3, if_pos (by omega)]
  rw [if_neg q3]
  by_cases q3' : y3 < x3
  · rw [if_pos q3', if_neg (by omega), if_pos (by omega)]
  rw [if_neg q3']
  by_cases q2 : x2 < y2
  · rw [if_pos q2, if_pos (by omega)]
  rw [if_neg q2]
  by_cases q2' : y2 < x2
  · rw [if_pos q2', if_neg (by omega), if_pos (by omega)]
  rw [if_neg q2']
  by_cases q1 : x1 < y1
  · rw [if_pos q1, if_pos (by omega)]
  rw [if_neg q1]
  by_cases q1' : y1 < x1
  · rw [if_pos q1', if_neg (by omega), if_pos (by omega)]
  rw [if_neg q1']
  by_cases q0 : x0 < y0
  · rw [if_pos q0, if_pos (by omega)]
  rw [if_neg q0]
  by_cases q0' : y0 < x0
  · rw [if_pos q0', if_neg (by omega), if_pos (by omega)]
  rw [if_neg q0', if_neg (by omega), if_neg (by omega)]

def zeroW (w : GWide) : Prop := w.size.1 = 0 ∧ w.size.2.1 = 0 ∧ w.size.2.2.1 = 0 ∧ w.size.2.2.2 = 0

instance (w : GWide) : Decidable (zeroW w) := by unfold zeroW; infer_instance

theorem bool_ne (n m : Bool) (h : ¬ n = m) : (!(n == m)) = true ∧ (!m) = n := by revert h; cases n <;> cases m <;> simp

theorem zero_eq (w : GWide) : value_wide_zero w = some (decide (zeroW w)) := by
  unfold value_wide_zero zeroW
  simp only [bnd_eq]
  congr 1
  by_cases h1 : w.size.1 = 0 <;> by_cases h2 : w.size.2.1 = 0 <;> by_cases h3 : w.size.2.2.1 = 0 <;> by_cases h4 : w.size.2.2.2 = 0 <;> simp [h1, h2, h3, h4]

theorem minus_j {b1 b6 : Bool} {x0 x1 x2 x3 y0 y1 y2 y3 : Int} (ha : W4 ⟨b1, x0, x1, x2, x3⟩) (hb : W4 ⟨b6, y0, y1, y2, y3⟩) :
    ∃ w, value_wide_minus_j1 b1 x0 x1 x2 x3 b6 y0 y1 y2 y3 = some w ∧ w.neg = b1 ∧ (zeroW w ↔ val ⟨b1, x0, x1, x2, x3⟩ = val ⟨b6, y0, y1, y2, y3⟩) := by
  obtain ⟨a0, a1, b0, b1', c0, c1, d0, d1⟩ := ha
  obtain ⟨e0, e1, f0, f1, g0, g1, h0, h1⟩ := hb
  simp only at *
  unfold value_wide_minus_j1
  simp only [bnd_eq, Int.add_zero, Int.sub_zero]
  have hk : ∀ (p : Prop) [Decidable p], 0 ≤ (if p then (1 : Int) else 0) ∧ (if p then (1 : Int) else 0) ≤ 1 := by
    intro p _; split <;> omega
  have k1 := hk (x0 < y0)
  have e0' : (if x0 < y0 then (1 : Int) else 0) = 0 ↔ ¬ x0 < y0 := by split <;> simp_all
  generalize (if x0 < y0 then (1 : Int) else 0) = u1 at *
  have k2 := hk (x1 < y1 + u1)
  have e1' : (if x1 < y1 + u1 then (1 : Int) else 0) = 0 ↔ ¬ x1 < y1 + u1 := by split <;> simp_all
  generalize (if x1 < y1 + u1 then (1 : Int) else 0) = u2 at *
  have k3 := hk (x2 < y2 + u2)
  have e2' : (if x2 < y2 + u2 then (1 : Int) else 0) = 0 ↔ ¬ x2 < y2 + u2 := by split <;> simp_all
  generalize (if x2 < y2 + u2 then (1 : Int) else 0) = u3 at *
  rw [grd_pos (by omega), grd_pos (by omega), grd_pos (by omega), grd_pos (by omega)]
  refine ⟨_, rfl, rfl, ?_⟩
  simp only [zeroW, val]
  constructor
  · rintro ⟨z0, z1, z2, z3⟩
    have q0 : x0 = y0 := by omega
    have q1 : u1 = 0 := by rw [e0']; omega
    have q2 : x1 = y1 := by omega
    have q3 : u2 = 0 := by rw [e1']; omega
    have q4 : x2 = y2 := by omega
    have q5 : u3 = 0 := by rw [e2']; omega
    have q6 : x3 = y3 := by omega
    omega
  · intro hv
    have q3 : x3 = y3 := by omega
    have q2 : x2 = y2 := by omega
    have q1 : x1 = y1 := by omega
    have q0 : x0 = y0 := by omega
    have r1 : u1 = 0 := by rw [e0']; omega
    have r2 : u2 = 0 := by rw [e1']; omega
    have r3 : u3 = 0 := by rw [e2']; omega
    subst q0 q1 q2 q3 r1 r2 r3
    simp

theorem plus_same {k : Nat} {b : Bool} {x0 x1 x2 x3 y0 y1 y2 y3 : Int} (ha : W4 ⟨b, x0, x1, x2, x3⟩) (hb : W4 ⟨b, y0, y1, y2, y3⟩) (hv : val ⟨b, x0, x1, x2, x3⟩ + val ⟨b, y0, y1, y2, y3⟩ < 115792089237316195423570985008687907853269984665640564039457584007913129639936) :
    ∃ w, value_wide_plus (k + 1) ⟨b, x0, x1, x2, x3⟩ ⟨b, y0, y1, y2, y3⟩ = some w ∧ w.neg = b ∧ (zeroW w ↔ val ⟨b, x0, x1, x2, x3⟩ + val ⟨b, y0, y1, y2, y3⟩ = 0) := by
  obtain ⟨a0, a1, b0, b1', c0, c1, d0, d1⟩ := ha
  obtain ⟨e0, e1, f0, f1, g0, g1, h0, h1⟩ := hb
  simp only at *
  rw [value_wide_plus]
  simp only [beq_self_eq_true, Bool.not_true, ift_false, bnd_eq, Int.add_zero]
  simp only [val] at hv ⊢
  have m0 : x0 + y0 = (x0 + y0) / 18446744073709551616 * 18446744073709551616 + (x0 + y0) % 18446744073709551616 := by omega
  have u0 : 0 ≤ (x0 + y0) / 18446744073709551616 ∧ (x0 + y0) / 18446744073709551616 ≤ 1 := by omega
  have v0 : 0 ≤ (x0 + y0) % 18446744073709551616 := by omega
  generalize (x0 + y0) / 18446744073709551616 = t0 at *
  generalize (x0 + y0) % 18446744073709551616 = r0 at *
  have m1 : x1 + y1 + t0 = (x1 + y1 + t0) / 18446744073709551616 * 18446744073709551616 + (x1 + y1 + t0) % 18446744073709551616 := by omega
  have u1 : 0 ≤ (x1 + y1 + t0) / 18446744073709551616 ∧ (x1 + y1 + t0) / 18446744073709551616 ≤ 1 := by omega
  have v1 : 0 ≤ (x1 + y1 + t0) % 18446744073709551616 := by omega
  generalize (x1 + y1 + t0) / 18446744073709551616 = t1 at *
  generalize (x1 + y1 + t0) % 18446744073709551616 = r1 at *
  have m2 : x2 + y2 + t1 = (x2 + y2 + t1) / 18446744073709551616 * 18446744073709551616 + (x2 + y2 + t1) % 18446744073709551616 := by omega
  have u2 : 0 ≤ (x2 + y2 + t1) / 18446744073709551616 ∧ (x2 + y2 + t1) / 18446744073709551616 ≤ 1 := by omega
  have v2 : 0 ≤ (x2 + y2 + t1) % 18446744073709551616 := by omega
  generalize (x2 + y2 + t1) / 18446744073709551616 = t2 at *
  generalize (x2 + y2 + t1) % 18446744073709551616 = r2 at *
  have m3 : x3 + y3 + t2 = (x3 + y3 + t2) / 18446744073709551616 * 18446744073709551616 + (x3 + y3 + t2) % 18446744073709551616 := by omega
  have u3 : 0 ≤ (x3 + y3 + t2) / 18446744073709551616 ∧ (x3 + y3 + t2) / 18446744073709551616 ≤ 1 := by omega
  have v3 : 0 ≤ (x3 + y3 + t2) % 18446744073709551616 := by omega
  generalize (x3 + y3 + t2) / 18446744073709551616 = t3 at *
  generalize (x3 + y3 + t2) % 18446744073709551616 = r3 at *
  rw [grd_pos (by omega), grd_pos (by omega), grd_pos (by omega), grd_pos (by omega)]
  refine ⟨_, rfl, rfl, ?_⟩
  simp only [zeroW]
  constructor
  · rintro ⟨z0, z1, z2, z3⟩
    have : t3 = 0 := by omega
    omega
  · intro hz
    refine ⟨by omega, by omega, by omega, by omega⟩

theorem wcompare_eq {a b : GWide} (ha : W4 a) (hb : W4 b) (va : val a < 57896044618658097711785492504343953926634992332820282019728792003956564819968) (vb : val b < 57896044618658097711785492504343953926634992332820282019728792003956564819968)
    (na : a.neg = true → 0 < val a) (nb : b.neg = true → 0 < val b) : value_wide_compare a b = some (c3 (sv a) (sv b)) := by
  have pa : 0 ≤ val a := by obtain ⟨a0, a1, b0, b1, c0, c1, d0, d1⟩ := ha; unfold val; omega
  have pb : 0 ≤ val b := by obtain ⟨a0, a1, b0, b1, c0, c1, d0, d1⟩ := hb; unfold val; omega
  obtain ⟨n, x0, x1, x2, x3⟩ := a
  obtain ⟨m, y0, y1, y2, y3⟩ := b
  have hany : ∀ (q : Bool), W4 ⟨q, y0, y1, y2, y3⟩ := fun q => ⟨hb.1, hb.2, hb.3, hb.4, hb.5, hb.6, hb.7, hb.8⟩
  have hval : ∀ (q q' : Bool) (z0 z1 z2 z3 : Int), val ⟨q, z0, z1, z2, z3⟩ = val ⟨q', z0, z1, z2, z3⟩ := fun _ _ _ _ _ _ => rfl
  unfold value_wide_compare
  simp only [zero_eq]
  have hB : BIG = 1152921504606846974 + 1 + 1 := rfl
  rw [hB, value_wide_minus]
  simp only
  by_cases hs : n = m
  · subst hs
    simp only [beq_self_eq_true, Bool.not_true, ift_false]
    rw [csize_eq ha hb]
    simp only [bnd_eq]
    by_cases hlt : val ⟨n, x0, x1, x2, x3⟩ < val ⟨n, y0, y1, y2, y3⟩
    · have e1 : c3 (val ⟨n, x0, x1, x2, x3⟩) (val ⟨n, y0, y1, y2, y3⟩) = -1 := by unfold c3; rw [if_pos hlt]
      rw [e1, show decide ((-1 : Int) < 0) = true from rfl, ift_true]
      unfold value_wide_negated
      simp only [bnd_eq]
      obtain ⟨w, g1, g2, g3⟩ := minus_j (b6 := n) (hany (!n)) ha
      rw [g1]
      simp only [bnd_eq]
      have hz : ¬ zeroW w := fun h => by
        have := g3.1 h
        have e2 := hval (!n) n y0 y1 y2 y3
        omega
      have hz' : ¬ zeroW ⟨w.neg, w.size.1, w.size.2.1, w.size.2.2.1, w.size.2.2.2⟩ := hz
      rw [show decide (zeroW ⟨w.neg, w.size.1, w.size.2.1, w.size.2.2.1, w.size.2.2.2⟩) = false by simpa using hz', ift_false, g2]
      unfold sv
      cases n with
      | true => simp only [Bool.not_true, ift_false, if_true]; unfold c3; rw [if_neg (by omega), if_pos (by omega)]
      | false => simp only [Bool.not_false, ift_true, Bool.false_eq_true, if_false]; unfold c3; rw [if_pos (by omega)]
    · have e1 : decide (c3 (val ⟨n, x0, x1, x2, x3⟩) (val ⟨n, y0, y1, y2, y3⟩) < 0) = false := by
        unfold c3; rw [if_neg hlt]; split <;> rfl
      rw [e1, ift_false]
      obtain ⟨w, g1, g2, g3⟩ := minus_j ha hb
      rw [g1]
      simp only [bnd_eq]
      have hz : zeroW ⟨w.neg, w.size.1, w.size.2.1, w.size.2.2.1, w.size.2.2.2⟩ ↔ val ⟨n, x0, x1, x2, x3⟩ = val ⟨n, y0, y1, y2, y3⟩ := g3
      by_cases heq : val ⟨n, x0, x1, x2, x3⟩ = val ⟨n, y0, y1, y2, y3⟩
      · rw [show decide (zeroW ⟨w.neg, w.size.1, w.size.2.1, w.size.2.2.1, w.size.2.2.2⟩) = true by simpa using hz.2 heq, ift_true]
        unfold sv
        simp only
        rw [heq]
        unfold c3; rw [if_neg (by omega), if_neg (by omega)]
      · rw [show decide (zeroW ⟨w.neg, w.size.1, w.size.2.1, w.size.2.2.1, w.size.2.2.2⟩) = false by simpa using fun h => heq (hz.1 h), ift_false, g2]
        unfold sv
        cases n with
        | true => simp only [ift_true, if_true]; unfold c3; rw [if_pos (by omega)]
        | false => simp only [ift_false, Bool.false_eq_true, if_false]; unfold c3; rw [if_neg (by omega), if_pos (by omega)]
  · have hsb : (!(n == m)) = true := (bool_ne n m hs).1
    rw [hsb, ift_true]
    unfold value_wide_negated
    simp only [bnd_eq]
    have hnm : (!m) = n := (bool_ne n m hs).2
    rw [hnm]
    obtain ⟨w, g1, g2, g3⟩ := plus_same (k := 1152921504606846974) ha (hany n) (by have := hval n m y0 y1 y2 y3; omega)
    rw [g1]
    simp only [bnd_eq]
    have hz : zeroW ⟨w.neg, w.size.1, w.size.2.1, w.size.2.2.1, w.size.2.2.2⟩ ↔ val ⟨n, x0, x1, x2, x3⟩ + val ⟨n, y0, y1, y2, y3⟩ = 0 := g3
    have hpos : ¬ val ⟨n, x0, x1, x2, x3⟩ + val ⟨n, y0, y1, y2, y3⟩ = 0 := by
      have e := hval n m y0 y1 y2 y3
      cases n with
      | true => have := na rfl; omega
      | false =>
        have : m = true := by simpa using hnm
        have := nb this
        omega
    rw [show decide (zeroW ⟨w.neg, w.size.1, w.size.2.1, w.size.2.2.1, w.size.2.2.2⟩) = false by simpa using fun h => hpos (hz.1 h), ift_false, g2]
    unfold sv
    cases n with
    | true =>
      have : m = false := by simpa using hnm
      subst this
      have := na rfl
      simp only [ift_true, if_true, Bool.false_eq_true, if_false]; unfold c3; rw [if_pos (by omega)]
    | false =>
      have : m = true := by simpa using hnm
      subst this
      have := nb rfl
      simp only [ift_false, if_true, Bool.false_eq_true, if_false]; unfold c3; rw [if_neg (by omega), if_pos (by omega)]

end Go.Proofs.Ytdkmclmdemngfaa
