/- Numbers of 256 bits: what 'times' and 'compare' compute. -/
import Derived.Test.YtdkmclmdemngfaaGenO
import Derived.Test.YtdkmclmdemngfaaLawCal
namespace Go.Proofs.Ytdkmclmdemngfaa
open Go Go.SX Go.SX.Cal
set_option linter.unusedVariables false
set_option linter.unusedSimpArgs false

theorem ift_true {β : Type} (x y : Option β) : ift true x y = x := rfl
theorem ift_false {β : Type} (x y : Option β) : ift false x y = y := rfl
theorem ift_ite {β : Type} (b : Bool) (x y : Option β) : ift b x y = if b = true then x else y := by cases b <;> rfl
theorem big_val : BIG = 1152921504606846976 := rfl

theorem wu {x : Int} : IntKind.u64.wrap x = x % 18446744073709551616 := by
  simp only [IntKind.wrap, IntKind.bits, IntKind.signed]
  simp

/-- words -/
structure W4 (w : GWide) : Prop where
  a0 : 0 ≤ w.size.1
  a1 : w.size.1 < 18446744073709551616
  b0 : 0 ≤ w.size.2.1
  b1 : w.size.2.1 < 18446744073709551616
  c0 : 0 ≤ w.size.2.2.1
  c1 : w.size.2.2.1 < 18446744073709551616
  d0 : 0 ≤ w.size.2.2.2
  d1 : w.size.2.2.2 < 18446744073709551616

def val (w : GWide) : Int := w.size.1 + w.size.2.1 * 18446744073709551616 + w.size.2.2.1 * 340282366920938463463374607431768211456 + w.size.2.2.2 * 6277101735386680763835789423207666416102355444464034512896

theorem mask32 {x : Int} (h0 : 0 ≤ x) (h1 : x < 18446744073709551616) : ((BitVec.ofInt (IntKind.u64).bits x &&& BitVec.ofInt (IntKind.u64).bits (4294967295 : Int)).toNat : Int) = x % 4294967296 := by
  have e : (BitVec.ofInt 64 x).toNat = x.toNat := by
    rw [BitVec.toNat_ofInt]
    have : x % ((2 ^ 64 : Nat) : Int) = x := by omega
    rw [this]
  have hand : (BitVec.ofInt 64 x &&& BitVec.ofInt 64 (4294967295 : Int)).toNat = x.toNat % 4294967296 := by
    rw [BitVec.toNat_and, e]
    have : (BitVec.ofInt 64 (4294967295 : Int)).toNat = 2 ^ 32 - 1 := by decide
    rw [this, Nat.and_two_pow_sub_one_eq_mod]
  show ((BitVec.ofInt 64 x &&& BitVec.ofInt 64 (4294967295 : Int)).toNat : Int) = _
  rw [hand]
  omega

theorem sh32 (x : Int) : x.fdiv (2 ^ (min (32 : Int).toNat (IntKind.u64).bits)) = x / 4294967296 := by
  have : (2 : Int) ^ (min (32 : Int).toNat (IntKind.u64).bits) = 4294967296 := by decide
  rw [this, Int.fdiv_eq_ediv_of_nonneg _ (by decide)]

theorem m64 {x : Int} (h0 : 0 ≤ x) (h1 : x < 18446744073709551616) : x % 18446744073709551616 = x := Int.emod_eq_of_lt h0 h1

theorem prod_bound {a b : Int} (a0 : 0 ≤ a) (a1 : a < 4294967296) (b0 : 0 ≤ b) (b1 : b < 4294967296) : 0 ≤ a * b ∧ a * b ≤ 18446744065119617025 := by
  refine ⟨Int.mul_nonneg a0 b0, ?_⟩
  have h1 : a * b ≤ 4294967295 * b := Int.mul_le_mul_of_nonneg_right (by omega) b0
  omega

theorem mul_lin (p11 p10 p01 p00 : Int) (h11 : 0 ≤ p11 ∧ p11 ≤ 18446744065119617025) (h10 : 0 ≤ p10 ∧ p10 ≤ 18446744065119617025) (h01 : 0 ≤ p01 ∧ p01 ≤ 18446744065119617025) (h00 : 0 ≤ p00 ∧ p00 ≤ 18446744065119617025) :
    p11 + (p10 + p00 / 4294967296) / 4294967296 + ((p10 + p00 / 4294967296) % 4294967296 + p01) / 4294967296 = (p11 * 18446744073709551616 + (p10 + p01) * 4294967296 + p00) / 18446744073709551616 := by
  omega

theorem mul_eq {x y : Int} (h0 : 0 ≤ x) (h1 : x < 18446744073709551616) (k0 : 0 ≤ y) (k1 : y < 18446744073709551616) : math_bits_Mul64 x y = some (x * y / 18446744073709551616, x * y % 18446744073709551616) := by
  unfold math_bits_Mul64
  simp only [bnd_eq, sh32]
  rw [mask32 h0 h1, mask32 k0 k1]
  simp only [wu]
  have hx0 : 0 ≤ x % 4294967296 ∧ x % 4294967296 < 4294967296 := by omega
  have hx1 : 0 ≤ x / 4294967296 ∧ x / 4294967296 < 4294967296 := by omega
  have hy0 : 0 ≤ y % 4294967296 ∧ y % 4294967296 < 4294967296 := by omega
  have hy1 : 0 ≤ y / 4294967296 ∧ y / 4294967296 < 4294967296 := by omega
  have ex : x = x / 4294967296 * 4294967296 + x % 4294967296 := by omega
  have ey : y = y / 4294967296 * 4294967296 + y % 4294967296 := by omega
  have exy : x * y = (x / 4294967296 * (y / 4294967296)) * 18446744073709551616 + (x / 4294967296 * (y % 4294967296) + x % 4294967296 * (y / 4294967296)) * 4294967296 + x % 4294967296 * (y % 4294967296) := by
    generalize x / 4294967296 = x1 at *
    generalize x % 4294967296 = x0 at *
    generalize y / 4294967296 = y1 at *
    generalize y % 4294967296 = y0 at *
    rw [ex, ey]
    simp only [Int.add_mul, Int.mul_add]
    have e1 : x1 * 4294967296 * (y1 * 4294967296) = x1 * y1 * 18446744073709551616 := by
      rw [Int.mul_assoc, Int.mul_left_comm 4294967296 y1, ← Int.mul_assoc]; rfl
    have e2 : x1 * 4294967296 * y0 = x1 * y0 * 4294967296 := by rw [Int.mul_assoc, Int.mul_comm 4294967296, ← Int.mul_assoc]
    have e3 : x0 * (y1 * 4294967296) = x0 * y1 * 4294967296 := by rw [Int.mul_assoc]
    rw [e1, e2, e3]; omega
  have b11 := prod_bound hx1.1 hx1.2 hy1.1 hy1.2
  have b10 := prod_bound hx1.1 hx1.2 hy0.1 hy0.2
  have b01 := prod_bound hx0.1 hx0.2 hy1.1 hy1.2
  have b00 := prod_bound hx0.1 hx0.2 hy0.1 hy0.2
  rw [m64 (x := x % 4294967296) (by omega) (by omega), m64 (x := y % 4294967296) (by omega) (by omega)]
  have L := mul_lin _ _ _ _ b11 b10 b01 b00
  rw [exy]
  generalize x / 4294967296 * (y / 4294967296) = p11 at *
  generalize x / 4294967296 * (y % 4294967296) = p10 at *
  generalize x % 4294967296 * (y / 4294967296) = p01 at *
  generalize x % 4294967296 * (y % 4294967296) = p00 at *
  rw [m64 (x := p10) (by omega) (by omega), m64 (x := p00) (by omega) (by omega), m64 (x := p01) (by omega) (by omega), m64 (x := p11) (by omega) (by omega), m64 (x := p10 + p00 / 4294967296) (by omega) (by omega)]
  rw [mask32 (x := p10 + p00 / 4294967296) (by omega) (by omega)]
  rw [m64 (x := (p10 + p00 / 4294967296) % 4294967296) (by omega) (by omega), m64 (x := (p10 + p00 / 4294967296) % 4294967296 + p01) (by omega) (by omega)]
  rw [m64 (x := p11 + (p10 + p00 / 4294967296) / 4294967296) (by omega) (by omega), m64 (x := p11 + (p10 + p00 / 4294967296) / 4294967296 + ((p10 + p00 / 4294967296) % 4294967296 + p01) / 4294967296) (by omega) (by omega), L]

/-- one word of a product, with what is carried -/
theorem word_step {x n c : Int} (h0 : 0 ≤ x) (h1 : x < 18446744073709551616) (n0 : 0 ≤ n) (n1 : n < 18446744073709551616) (c0 : 0 ≤ c) (c1 : c < 18446744073709551616) :
    (x * n / 18446744073709551616 + (x * n % 18446744073709551616 + c) / 18446744073709551616) % 18446744073709551616 = (x * n + c) / 18446744073709551616 ∧ (x * n % 18446744073709551616 + c) % 18446744073709551616 = (x * n + c) % 18446744073709551616 ∧ 0 ≤ (x * n + c) / 18446744073709551616 ∧ (x * n + c) / 18446744073709551616 < 18446744073709551616 := by
  have hp : 0 ≤ x * n := Int.mul_nonneg h0 n0
  have hq : x * n ≤ 18446744073709551615 * n := Int.mul_le_mul_of_nonneg_right (by omega) n0
  have hq2 : (18446744073709551615 : Int) * n ≤ 18446744073709551615 * 18446744073709551615 := Int.mul_le_mul_of_nonneg_left (by omega) (by decide)
  have hb : x * n ≤ 340282366920938463426481119284349108225 := by
    refine Int.le_trans hq (Int.le_trans hq2 (by decide))
  generalize x * n = p at *
  omega

theorem times_eq {w : GWide} {n : Int} (h : W4 w) (n0 : 0 ≤ n) (n1 : n < 18446744073709551616) (hv : val w * n < 115792089237316195423570985008687907853269984665640564039457584007913129639936) :
    ∃ w', value_wide_times w n = some w' ∧ W4 w' ∧ val w' = val w * n ∧ w'.neg = w.neg := by
  obtain ⟨neg, x0, x1, x2, x3⟩ := w
  obtain ⟨a0, a1, b0, b1, c0, c1, d0, d1⟩ := h
  simp only at a0 a1 b0 b1 c0 c1 d0 d1
  unfold value_wide_times
  simp only
  rw [mul_eq a0 a1 n0 n1, mul_eq b0 b1 n0 n1, mul_eq c0 c1 n0 n1, mul_eq d0 d1 n0 n1]
  simp only [bnd_eq, wu]
  have hval : val ⟨neg, x0, x1, x2, x3⟩ * n = x0 * n + x1 * n * 18446744073709551616 + x2 * n * 340282366920938463463374607431768211456 + x3 * n * 6277101735386680763835789423207666416102355444464034512896 := by
    unfold val
    simp only [Int.add_mul]
    rw [Int.mul_right_comm x1, Int.mul_right_comm x2, Int.mul_right_comm x3]
  rw [hval] at hv ⊢
  obtain ⟨p1, p2, p3, p4⟩ := word_step (c := 0) a0 a1 n0 n1 (by decide) (by decide)
  simp only [Int.add_zero] at p1 p2 p3 p4 ⊢
  rw [p1, p2]
  generalize hc1 : x0 * n / 18446744073709551616 = k1 at *
  obtain ⟨q1, q2, q3, q4⟩ := word_step (c := k1) b0 b1 n0 n1 p3 p4
  rw [q1, q2]
  generalize hc2 : (x1 * n + k1) / 18446744073709551616 = k2 at *
  obtain ⟨r1, r2, r3, r4⟩ := word_step (c := k2) c0 c1 n0 n1 q3 q4
  rw [r1, r2]
  generalize hc3 : (x2 * n + k2) / 18446744073709551616 = k3 at *
  obtain ⟨s1, s2, s3, s4⟩ := word_step (c := k3) d0 d1 n0 n1 r3 r4
  rw [s2]
  have e0 := Int.mul_nonneg a0 n0
  have e1 := Int.mul_nonneg b0 n0
  have e2 := Int.mul_nonneg c0 n0
  have e3 := Int.mul_nonneg d0 n0
  clear p1 p2 q1 q2 r1 r2 s1 s2
  generalize x0 * n = P0 at *
  generalize x1 * n = P1 at *
  generalize x2 * n = P2 at *
  generalize x3 * n = P3 at *
  rw [grd_pos (by omega), grd_pos (by omega), grd_pos (by omega), grd_pos (by omega)]
  refine ⟨_, rfl, ⟨by simp only; omega, by simp only; omega, by simp only; omega, by simp only; omega, by simp only; omega, by simp only; omega, by simp only; omega, by simp only; omega⟩, ?_, rfl⟩
  simp only [val]
  have f0 : P0 = k1 * 18446744073709551616 + P0 % 18446744073709551616 := by omega
  have f1 : P1 + k1 = k2 * 18446744073709551616 + (P1 + k1) % 18446744073709551616 := by omega
  have f2 : P2 + k2 = k3 * 18446744073709551616 + (P2 + k2) % 18446744073709551616 := by omega
  have f3 : P3 + k3 = (P3 + k3) / 18446744073709551616 * 18446744073709551616 + (P3 + k3) % 18446744073709551616 := by omega
  have z : (P3 + k3) / 18446744073709551616 = 0 := by
    generalize P0 % 18446744073709551616 = m0 at *
    generalize (P1 + k1) % 18446744073709551616 = m1 at *
    generalize (P2 + k2) % 18446744073709551616 = m2 at *
    omega
  rw [z] at f3
  generalize P0 % 18446744073709551616 = m0 at *
  generalize (P1 + k1) % 18446744073709551616 = m1 at *
  generalize (P2 + k2) % 18446744073709551616 = m2 at *
  generalize (P3 + k3) % 18446744073709551616 = m3 at *
  omega

/-- ten to a power, by steps -/
def p10 : Nat → Int
  | 0 => 1
  | k + 1 => p10 k * 10

theorem p10_pos : ∀ k, 1 ≤ p10 k
  | 0 => by decide
  | k + 1 => by have := p10_pos k; simp only [p10]; omega

theorem shifted_loop {d : Int} (hd : d ≤ 100) : ∀ (j k : Nat) (neg : Bool) (x0 x1 x2 x3 : Int) (i : Int), W4 ⟨neg, x0, x1, x2, x3⟩ → val ⟨neg, x0, x1, x2, x3⟩ * p10 j < 115792089237316195423570985008687907853269984665640564039457584007913129639936 → 0 ≤ val ⟨neg, x0, x1, x2, x3⟩ → 0 ≤ i → i + j = d → j < k →
    ∃ w', value_wide_shifted_l1 d k neg x0 x1 x2 x3 i = some w' ∧ W4 w' ∧ val w' = val ⟨neg, x0, x1, x2, x3⟩ * p10 j ∧ w'.neg = neg := by
  intro j
  induction j with
  | zero =>
    intro k neg x0 x1 x2 x3 i hw hv hv0 hi hij hk
    match k, hk with
    | k + 1, hk =>
      rw [value_wide_shifted_l1, show decide (i < d) = false by simp; omega, ift_false]
      exact ⟨_, rfl, hw, by simp [p10], rfl⟩
  | succ j ih =>
    intro k neg x0 x1 x2 x3 i hw hv hv0 hi hij hk
    match k, hk with
    | k + 1, hk =>
      rw [value_wide_shifted_l1, show decide (i < d) = true by simp; omega, ift_true]
      have hp := p10_pos j
      have hstep : val ⟨neg, x0, x1, x2, x3⟩ * p10 (j + 1) = val ⟨neg, x0, x1, x2, x3⟩ * 10 * p10 j := by
        simp only [p10]; rw [Int.mul_comm (p10 j) 10, Int.mul_assoc]
      have hle : val ⟨neg, x0, x1, x2, x3⟩ * 10 * 1 ≤ val ⟨neg, x0, x1, x2, x3⟩ * 10 * p10 j := Int.mul_le_mul_of_nonneg_left hp (by omega)
      obtain ⟨w1, h1, h2, h3, h4⟩ := times_eq hw (show (0 : Int) ≤ 10 by decide) (by decide) (by rw [hstep] at hv; omega)
      rw [h1]
      simp only [bnd_eq]
      obtain ⟨n1, y0, y1, y2, y3⟩ := w1
      simp only at h4 ⊢
      subst h4
      rw [w64 (by omega) (by omega)]
      obtain ⟨w2, g1, g2, g3, g4⟩ := ih k n1 y0 y1 y2 y3 (i + 1) h2 (by rw [h3, ← hstep]; exact hv) (by rw [h3]; omega) (by omega) (by omega) (by omega)
      exact ⟨w2, g1, g2, by rw [g3, h3, hstep], g4⟩

/-- a number, times ten to a power -/
theorem scaled_eq {n d : Int} (h1 : -9223372036854775808 ≤ n) (h2 : n ≤ 9223372036854775807) (d0 : 0 ≤ d) (d1 : d ≤ 12) :
    ∃ w, value_scaled n d = some w ∧ W4 w ∧ val w = (if n < 0 then -n else n) * p10 d.toNat ∧ w.neg = decide (n < 0) ∧ val w < 57896044618658097711785492504343953926634992332820282019728792003956564819968 := by
  have hp : p10 d.toNat ≤ 1000000000000 := by
    have hc : d = 0 ∨ d = 1 ∨ d = 2 ∨ d = 3 ∨ d = 4 ∨ d = 5 ∨ d = 6 ∨ d = 7 ∨ d = 8 ∨ d = 9 ∨ d = 10 ∨ d = 11 ∨ d = 12 := by omega
    rcases hc with rfl | rfl | rfl | rfl | rfl | rfl | rfl | rfl | rfl | rfl | rfl | rfl | rfl <;> decide
  have hp1 := p10_pos d.toNat
  have key : ∀ (neg : Bool) (a : Int), 0 ≤ a → a ≤ 9223372036854775808 → ∃ w, value_wide_shifted ⟨neg, a, 0, 0, 0⟩ d = some w ∧ W4 w ∧ val w = a * p10 d.toNat ∧ w.neg = neg ∧ val w < 57896044618658097711785492504343953926634992332820282019728792003956564819968 := by
    intro neg a a0 a1
    have hv : val ⟨neg, a, 0, 0, 0⟩ = a := by simp [val]
    have hb : a * p10 d.toNat ≤ 9223372036854775808 * 1000000000000 := by
      refine Int.le_trans (Int.mul_le_mul_of_nonneg_right a1 (by omega)) (Int.mul_le_mul_of_nonneg_left hp (by decide))
    have hb2 : a * p10 d.toNat ≤ 9223372036854775808000000000000 := Int.le_trans hb (by decide)
    unfold value_wide_shifted
    obtain ⟨w, g1, g2, g3, g4⟩ := shifted_loop (d := d) (by omega) d.toNat BIG neg a 0 0 0 0 ⟨a0, by simp only; omega, by simp, by simp, by simp, by simp, by simp, by simp⟩ (by rw [hv]; omega) (by rw [hv]; exact a0) (by decide) (by omega) (by rw [big_val]; omega)
    exact ⟨w, g1, g2, by rw [g3, hv], g4, by rw [g3, hv]; omega⟩
  unfold value_scaled value_whole
  by_cases hn : n < 0
  · rw [show decide (n < 0) = true by simpa using hn, ift_true]
    simp only [bnd_eq, wu]
    have e : (0 - n % 18446744073709551616) % 18446744073709551616 = -n := by omega
    rw [e]
    obtain ⟨w, g1, g2, g3, g4, g5⟩ := key true (-n) (by omega) (by omega)
    rw [g1]
    simp only [bnd_eq]
    exact ⟨_, rfl, g2, by rw [if_pos hn]; exact g3, g4, g5⟩
  · rw [show decide (n < 0) = false by simpa using hn, ift_false]
    simp only [bnd_eq, wu]
    rw [m64 (by omega) (by omega)]
    obtain ⟨w, g1, g2, g3, g4, g5⟩ := key false n (by omega) (by omega)
    rw [g1]
    simp only [bnd_eq]
    exact ⟨_, rfl, g2, by rw [if_neg hn]; exact g3, g4, g5⟩

end Go.Proofs.Ytdkmclmdemngfaa
