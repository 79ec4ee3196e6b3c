/- The reference's integers: differences, quotients, rounding. Numbers of 256 bits: what each operation of the program computes, as equations. Division of numbers of 256 bits, rounding, and values made of them. The reference's integers, in plain terms. The reference's integers: sums, products, quotients, values made of them. Values made of numbers on both sides; Round. Casts of numbers: both scale alike. Casts of leaves on both sides. Casts of leaves on both sides: together. Casts of leaves on both sides are the same. Which casts there are. Casts on both sides are the same. Casts on both sides are the same: all values. Can and Cast are as specified. -/
import Derived.Lib.ValidLaws
import Derived.Test.YtpmoopnkoknbeaaGreatDoorLaA
set_option linter.unusedVariables false
set_option linter.unusedSimpArgs false
set_option linter.unnecessarySimpa false
namespace Go.Proofs.YtpmoopnkoknbeaaGreatDoor.Nm
open Go Go.SX Go.SX.Cal Go.Lib
theorem dm {β : Type} {p : Prop} [Decidable p] {x : Option β} (h : p) : bB p x = x := if_pos h
def ab (n : Int) : Int := if n < 0 then -n else n
theorem Gm {l : List Int} {x : Int} (h : dS l) (hx : 0 ≤ x ∧ x ≤ 9) : dS (l ++ [x]) := by
 intro d hd
 rcases List.mem_append.1 hd with h1 | h1
 ·exact h d h1
 ·simp at h1; subst h1; exact hx
theorem BA {n : Int} (hn0 : -9223372036854775808 ≤ n) (hn1 : n ≤ 9223372036854775807) : ∀ (k : Nat) (l : List Int) (m : Int), l.length ≤ 19 → 19 - l.length < k → dS l → (m = 0 → sa l) → ab m < p10 (19 - l.length) → -9223372036854775808 ≤ m → m ≤ 9223372036854775807 → ab n = aI l + p10 l.length * ab m →
  ∃ d, cB n k l m = some ⟨decide (n < 0), d⟩ ∧ dS d ∧ sa d ∧ d.length ≤ 19 ∧ aI d = ab n := by
 intro k
 induction k with
 | zero => intro l m h1 h2; omega
 | succ k ih =>
  intro l m hl hk hd ht hm m0 m1 hv
  rw [cB]
  by_cases h0 : m = 0
  ·subst h0
   rw [show ((0 : Int) != 0) = false from rfl, ah]
   exact ⟨l, rfl, hd, ht rfl, hl, by simp [ab] at hv ⊢; omega⟩
  ·have hlen : l.length < 19 := by
    apply Classical.byContradiction
    intro hn
    have : l.length = 19 := by omega
    rw [this] at hm
    simp only [Nat.sub_self, p10] at hm
    unfold ab at hm; split at hm <;> omega
   rw [show (m != 0) = true by simp [h0], aw]
   have hq : m.tdiv 10 = if m < 0 then -((-m) / 10) else m / 10 := by
    by_cases hneg : m < 0
    ·rw [if_pos hneg]
     have : m = -(-m) := by omega
     rw [this, Int.neg_tdiv, Int.neg_neg, Int.tdiv_eq_ediv_of_nonneg (by omega)]
    ·rw [if_neg hneg, Int.tdiv_eq_ediv_of_nonneg (by omega)]
   have hr : m.tmod 10 = if m < 0 then -((-m) % 10) else m % 10 := by
    by_cases hneg : m < 0
    ·rw [if_pos hneg]
     have : m = -(-m) := by omega
     rw [this, Int.neg_tmod, Int.neg_neg, Int.tmod_eq_emod_of_nonneg (by omega)]
    ·rw [if_neg hneg, Int.tmod_eq_emod_of_nonneg (by omega)]
   have step : ∀ x, x = ab m % 10 → jk (cB n k) l m x = cB n k (l ++ [ab m % 10]) (m.tdiv 10) := by
    intro x hx
    unfold jk
    rw [dm (by omega), hx, fJ (by rw [hq]; split <;> omega) (by rw [hq]; split <;> omega)]
   have hgo : cB n k (l ++ [ab m % 10]) (m.tdiv 10) = cB n k (l ++ [ab m % 10]) (m.tdiv 10) := rfl
   have habq : ab (m.tdiv 10) = ab m / 10 := by
    rw [hq]; unfold ab
    by_cases hneg : m < 0
    ·simp only [hneg, if_true]; split <;> omega
    ·simp only [hneg, if_false]; split <;> omega
   have hab0 : 0 ≤ ab m := by unfold ab; split <;> omega
   have hp : p10 (19 - l.length) = p10 (19 - (l ++ [ab m % 10]).length) * 10 := by
    rw [show 19 - l.length = (19 - (l ++ [ab m % 10]).length) + 1 by simp; omega]; rfl
   have nxt := ih (l ++ [ab m % 10]) (m.tdiv 10) (by simp; omega) (by simp; omega) (Gm hd (by omega)) (fun hz => by
     intro d hdl
     simp at hdl
     subst hdl
     have h1 : ab m / 10 = 0 := by rw [← habq, hz]; rfl
     have h2 : ab m ≠ 0 := by unfold ab; split <;> omega
     omega) (by rw [habq]; rw [hp] at hm; omega) (by rw [hq]; split <;> omega) (by rw [hq]; split <;> omega) (by
     rw [fY, List.length_append, List.length_singleton, habq, hv]
     simp only [aI, p10]
     have e : ab m = ab m % 10 + 10 * (ab m / 10) := by omega
     have e2 : p10 l.length * ab m = p10 l.length * (ab m % 10) + p10 l.length * 10 * (ab m / 10) := by
      rw [Int.mul_assoc, ← Int.mul_add, ← e]
     rw [e2]; simp only [Int.mul_zero, Int.add_zero]; omega)
   by_cases hneg : m.tmod 10 < 0
   ·rw [show decide (m.tmod 10 < 0) = true by simpa using hneg, aw]
    have hx : IntKind.i64.wrap (0 - m.tmod 10) = ab m % 10 := by
     rw [fJ (by rw [hr]; split <;> omega) (by rw [hr]; split <;> omega)]
     rw [hr] at hneg ⊢
     unfold ab
     by_cases h : m < 0
     ·simp only [h, if_true]; omega
     ·simp only [h, if_false] at hneg; omega
    rw [step _ hx]; exact nxt
   ·rw [show decide (m.tmod 10 < 0) = false by simpa using hneg, ah]
    have hx : m.tmod 10 = ab m % 10 := by
     rw [hr] at hneg ⊢
     unfold ab
     by_cases h : m < 0
     ·simp only [h, if_true] at hneg ⊢; omega
     ·simp only [h, if_false]
    rw [step _ hx]; exact nxt
theorem Df {a b : List Int} (ha : dS a) (hb : dS b) (la : a.length < 1000000) (k i : Nat) (l : List Int) (c : Int) (hl : l.length = i) (c0 : 0 ≤ c) (c1 : c ≤ 1) (hi : i < a.length) :
  bK a b (k + 1) l c (i : Int) = if jg a i - c - jg b i < 0 then bK a b k (l ++ [jg a i - c - jg b i + 10]) 1 ((i + 1 : Nat) : Int) else bK a b k (l ++ [jg a i - c - jg b i]) 0 ((i + 1 : Nat) : Int) := by
 obtain ⟨a0, a9⟩ := kI ha i
 obtain ⟨b0, b9⟩ := kI hb i
 have j1 : ∀ n : Int, n = jg a i - c - jg b i → j5 (bK a b k) l (i : Int) n = if jg a i - c - jg b i < 0 then bK a b k (l ++ [jg a i - c - jg b i + 10]) 1 ((i + 1 : Nat) : Int) else bK a b k (l ++ [jg a i - c - jg b i]) 0 ((i + 1 : Nat) : Int) := by
  rintro n rfl
  unfold j5 mm
  rw [dm (by omega), dm (by omega), fJ (x := (i : Int) + 1) (by omega) (by omega), show (i : Int) + 1 = ((i + 1 : Nat) : Int) by omega]
  by_cases h : jg a i - c - jg b i < 0
  ·rw [show decide (jg a i - c - jg b i < 0) = true by simpa using h, aw, if_pos h, fJ (by omega) (by omega)]
  ·rw [show decide (jg a i - c - jg b i < 0) = false by simpa using h, ah, if_neg h]
 rw [bK, gp hi, aw, cf hi, ar, sR hi, fJ (x := jg a i - c) (by omega) (by omega)]
 by_cases h : i < b.length
 ·rw [gp h, aw, cf h, ar, sR h, fJ (by omega) (by omega)]
  exact j1 _ rfl
 ·rw [show decide ((i : Int) < (b.length : Int)) = false by simp; omega, ah]
  exact j1 _ (by rw [qb (a := b) (by omega)]; omega)
theorem Dl {a b : List Int} (ha : dS a) (hb : dS b) (la : a.length < 1000) (lb : b.length ≤ a.length) (hab : aI b ≤ aI a) : ∀ (k i : Nat) (l : List Int) (c : Int),
  l.length = i → dS l → 0 ≤ c → c ≤ 1 → i ≤ a.length → a.length - i < k → aI l = aI (a.take i) - aI (b.take i) + p10 i * c →
  ∃ r, bK a b k l c (i : Int) = some r ∧ dS r ∧ sa r ∧ aI r = aI a - aI b ∧ r.length ≤ a.length := by
 intro k
 induction k with
 | zero => intro i l c _ _ _ _ _ h; omega
 | succ k ih =>
  intro i l c hl dl c0 c1 hi hk hv
  by_cases he : i = a.length
  ·subst he
   rw [bK, show decide ((a.length : Int) < (a.length : Int)) = false by simp, ah]
   unfold oL
   rw [List.take_of_length_le (Nat.le_refl _), List.take_of_length_le lb] at hv
   have hlt := ma dl
   rw [hl] at hlt
   have hc : c = 0 := by
    by_cases h : c = 0
    ·exact h
    ·have : c = 1 := by omega
     subst this
     omega
   subst hc
   obtain ⟨d', h1, h2, h3, h4, h5⟩ := pn false l (by omega) dl
   rw [h1, ar]
   exact ⟨d', rfl, h2, h3, by rw [h4, hv]; omega, by omega⟩
  ·obtain ⟨a0, a9⟩ := kI ha i
   obtain ⟨b0, b9⟩ := kI hb i
   rw [Df ha hb (by omega) k i l c hl c0 c1 (by omega)]
   have hp : p10 i * (jg a i - c - jg b i) = p10 i * jg a i - p10 i * c - p10 i * jg b i := by rw [Int.mul_sub, Int.mul_sub]
   by_cases h : jg a i - c - jg b i < 0
   ·rw [if_pos h]
    refine ih (i + 1) _ 1 (by simp [hl]) (vw dl (by omega) (by omega)) (by omega) (by omega) (by omega) (by omega) ?_
    rw [oU, oU, fY, hl]
    simp only [aI, p10]
    rw [Int.mul_add, Int.mul_add, hp]; omega
   ·rw [if_neg h]
    refine ih (i + 1) _ 0 (by simp [hl]) (vw dl (by omega) (by omega)) (by omega) (by omega) (by omega) (by omega) ?_
    rw [oU, oU, fY, hl]
    simp only [aI, p10]
    rw [Int.mul_add, hp]; omega
theorem HR {a b : List Int} (ha : dS a) (hb : dS b) (tb : sa b) (hab : aI b ≤ aI a) : b.length ≤ a.length := by
 by_cases h : b.length ≤ a.length
 ·exact h
 ·have h1 := ma ha
  have h2 := qd hb tb (by rintro rfl; simp at h)
  have := mM (show a.length ≤ b.length - 1 by omega)
  omega
theorem Gj {a b : List Int} (ha : dS a) (hb : dS b) (tb : sa b) (la : a.length < 1000) (hab : aI b ≤ aI a) :
  ∃ r, pN a b = some r ∧ dS r ∧ sa r ∧ aI r = aI a - aI b ∧ r.length ≤ a.length := by
 unfold pN
 exact Dl ha hb la (HR ha hb tb hab) hab ba 0 [] 0 rfl qu (by omega) (by omega) (by omega) (by rw [aF]; omega) (by simp [aI])
theorem Am {b : List Int} (hb : dS b) (tb : sa b) (lb : b.length < 900) (hp : 0 < aI b) (rec1 : List Int → List Int → Int → Option (List Int × List Int)) (i : Nat) (hi0 : i < 1000) : ∀ (t k : Nat) (l r : List Int) (e : Int),
  dS r → sa r → r.length < 900 → i < l.length → l[i]? = some e → 0 ≤ e → e + t ≤ 1000 → aI r / aI b = t → t < k →
  ∃ r', fi rec1 b (i : Int) k l r = rec1 (l.set i (e + t)) r' (IntKind.i64.wrap ((i : Int) - 1)) ∧ dS r' ∧ sa r' ∧ r'.length ≤ r.length ∧ aI r' = aI r % aI b := by
 intro t
 induction t with
 | zero =>
  intro k l r e hr tr lr hi he e0 e1 ht hk
  obtain ⟨k, rfl⟩ : ∃ q, k = q + 1 := ⟨k - 1, by omega⟩
  obtain ⟨m, h1, h2, h3, h4⟩ := zL hr hb tr tb (by omega) (by omega)
  have n0 := dD hr
  have hlt : aI r < aI b := by
   have h1 := Int.emod_add_mul_ediv (aI r) (aI b)
   have h2 := Int.emod_lt_of_pos (aI r) hp
   rw [ht] at h1
   simp at h1; omega
  rw [fi, h1, ar]
  have hm : m < 0 := by
   unfold c3 at h4
   rw [if_pos hlt] at h4
   by_cases hh : m < 0
   ·exact hh
   ·rw [if_neg hh] at h4; split at h4 <;> omega
  rw [show decide ((0 : Int) ≤ m) = false by simp; omega, ah]
  refine ⟨r, ?_, hr, tr, Nat.le_refl _, (Int.emod_eq_of_lt n0 hlt).symm⟩
  unfold nQ
  congr 1
  have : l[i] = e := by rw [List.getElem?_eq_getElem hi] at he; exact Option.some.inj he
  simp [← this]
 | succ t ih =>
  intro k l r e hr tr lr hi he e0 e1 ht hk
  obtain ⟨k, rfl⟩ : ∃ q, k = q + 1 := ⟨k - 1, by omega⟩
  obtain ⟨m, h1, h2, h3, h4⟩ := zL hr hb tr tb (by omega) (by omega)
  have n0 := dD hr
  have hd := Int.emod_add_mul_ediv (aI r) (aI b)
  have hm0 := Int.emod_nonneg (aI r) (show aI b ≠ 0 by omega)
  have hge : aI b ≤ aI r := by
   rw [ht] at hd
   have : aI b * 1 ≤ aI b * ((t + 1 : Nat) : Int) := Int.mul_le_mul_of_nonneg_left (by omega) (by omega)
   omega
  rw [fi, h1, ar]
  have hm : 0 ≤ m := by
   unfold c3 at h4
   rw [if_neg (by omega : ¬ aI r < aI b)] at h4
   by_cases hh : m < 0
   ·rw [if_pos hh] at h4; split at h4 <;> omega
   ·omega
  obtain ⟨r2, g1, g2, g3, g4, g5⟩ := Gj hr hb tb (by omega) hge
  have he2 : at? l (i : Int) = some e := by unfold at?; simp [he]
  rw [show decide ((0 : Int) ≤ m) = true by simpa using hm, aw, g1, ar, he2, ar, fJ (by omega) (by omega), show (i : Int).toNat = i by omega]
  have hq : aI r2 / aI b = t := by
   rw [g4, Int.sub_ediv_of_dvd _ (Int.dvd_refl _), ht, Int.ediv_self (by omega)]; omega
  obtain ⟨r', q1, q2, q3, q4, q5⟩ := ih k (l.set i (e + 1)) r2 (e + 1) g2 g3 (by omega) (by simpa using hi) (by simp [hi]) (by omega) (by omega) hq (by omega)
  refine ⟨r', ?_, q2, q3, by omega, ?_⟩
  ·rw [q1, List.set_set]
   congr 2
   push_cast; omega
  ·rw [q5, g4, Int.sub_emod_right]
theorem zx {a b : List Int} (ha : dS a) (la : a.length < 400) (hb : dS b) (tb : sa b) (lb : b.length < 400) (hp : 0 < aI b) : ∀ (i k : Nat) (l r : List Int),
  i ≤ a.length → i < k → l.length = a.length → (∀ j, j < i → l[j]? = some 0) → dS (l.drop i) → dS r → sa r → r.length ≤ b.length → aI r < aI b → aI (a.drop i) = aI (l.drop i) * aI b + aI r →
  ∃ q r', dp a b k l r ((i : Int) - 1) = some (q, r') ∧ dS q ∧ sa q ∧ dS r' ∧ sa r' ∧ q.length ≤ a.length ∧ r'.length ≤ b.length ∧ aI a = aI q * aI b + aI r' ∧ aI r' < aI b := by
 intro i
 induction i with
 | zero =>
  intro k l r hi hk hl hz hdl hr tr lr hlt hv
  obtain ⟨k, rfl⟩ : ∃ q, k = q + 1 := ⟨k - 1, by omega⟩
  rw [dp, show decide ((0 : Int) ≤ ((0 : Nat) : Int) - 1) = false from rfl, ah]
  unfold nZ
  simp only [List.drop_zero] at hdl hv
  obtain ⟨d', h1, h2, h3, h4, h5⟩ := pn false l (by omega) hdl
  rw [h1, ar]
  exact ⟨d', r, rfl, h2, h3, hr, tr, by omega, lr, by rw [h4]; exact hv, hlt⟩
 | succ i ih =>
  intro k l r hi hk hl hz hdl hr tr lr hlt hv
  obtain ⟨k, rfl⟩ : ∃ q, k = q + 1 := ⟨k - 1, by omega⟩
  have hia : i < a.length := by omega
  have e1 : ((i + 1 : Nat) : Int) - 1 = (i : Int) := by omega
  rw [dp, e1, show decide ((0 : Int) ≤ (i : Int)) = true by simp, aw, cf hia, ar, dm (by simp; omega)]
  have ra := ha a[i] (List.getElem_mem hia)
  obtain ⟨d', h1, h2, h3, h4, h5⟩ := pn false ([a[i]] ++ r) (by simp; omega) (zi hr ra.1 ra.2)
  rw [h1, ar]
  have hv' : aI d' = a[i] + 10 * aI r := by rw [h4]; rfl
  have n0 := dD hr
  have hd := Int.emod_add_mul_ediv (aI d') (aI b)
  have hm1 := Int.emod_lt_of_pos (aI d') hp
  have hm0 := Int.emod_nonneg (aI d') (show aI b ≠ 0 by omega)
  have t9 : aI d' / aI b ≤ 9 := by
   have : aI d' < 10 * aI b := by omega
   have := Int.ediv_lt_of_lt_mul hp this
   omega
  have t0 : 0 ≤ aI d' / aI b := Int.ediv_nonneg (by omega) (by omega)
  obtain ⟨r', q1, q2, q3, q4, q5⟩ := Am hb tb (by omega) hp (dp a b k) i (by omega) (aI d' / aI b).toNat ba l d' 0 h2 h3 (by simp at h5; omega) (by omega) (hz i (by omega)) (by omega) (by omega) (by omega) (by rw [aF]; omega)
  rw [q1, fJ (by omega) (by omega), Int.zero_add, Int.toNat_of_nonneg t0]
  have hdrop : (l.set i (aI d' / aI b)).drop i = (aI d' / aI b) :: l.drop (i + 1) := by
   rw [List.drop_eq_getElem_cons (by simp; omega)]
   congr 1
   ·simp
   ·rw [List.drop_set_of_lt (by omega)]
  refine ih k _ r' (by omega) (by omega) (by simpa using hl) (fun j hj => ?_) ?_ q2 q3 ?_ (by rw [q5]; exact hm1) ?_
  ·rw [List.getElem?_set_ne (by omega)]; exact hz j (by omega)
  ·rw [hdrop]; exact zi hdl t0 t9
  ·exact HR hb q2 q3 (by rw [q5]; omega)
  ·rw [hdrop, List.drop_eq_getElem_cons hia]
   simp only [aI]
   rw [hv, q5, Int.add_mul, Int.mul_assoc, Int.mul_comm (aI d' / aI b)]
   have : 10 * (aI (l.drop (i + 1)) * aI b + aI r) = 10 * (aI (l.drop (i + 1)) * aI b) + 10 * aI r := Int.mul_add _ _ _
   omega
theorem Fe {a b : List Int} (ha : dS a) (la : a.length < 400) (hb : dS b) (tb : sa b) (lb : b.length < 400) (hp : 0 < aI b) :
  ∃ q r, ov a b = some (q, r) ∧ dS q ∧ sa q ∧ dS r ∧ sa r ∧ q.length ≤ a.length ∧ r.length ≤ b.length ∧ aI q = aI a / aI b ∧ aI r = aI a % aI b := by
 unfold ov
 rw [dm (by omega), fJ (by omega) (by omega)]
 have n0 := dD ha
 obtain ⟨q, r, h1, h2, h3, h4, h5, h6, h7, h8, h9⟩ := zx ha la hb tb lb hp a.length ba (List.replicate a.length 0) [] (Nat.le_refl _) (by rw [aF]; omega) (by simp) (fun j hj => by simp [hj]) (by simp [dS]) qu wB (by simp) (by simpa [aI] using hp) (by simp [aI])
 have r0 := dD h4
 refine ⟨q, r, by rw [show (a.length : Int).toNat = a.length by omega]; exact h1, h2, h3, h4, h5, h6, h7, ?_, ?_⟩
 ·rw [h8, Int.add_comm, Int.add_mul_ediv_right _ _ (by omega), Int.ediv_eq_zero_of_lt r0 h9]; omega
 ·rw [h8, Int.add_comm, Int.add_mul_emod_self_right, Int.emod_eq_of_lt r0 h9]
end Go.Proofs.YtpmoopnkoknbeaaGreatDoor.Nm
namespace Go.Proofs.YtpmoopnkoknbeaaGreatDoor.Nm
open Go Go.SX Go.SX.Cal
theorem IJ (p11 p10 p01 p00 : Int) (h11 : 0 ≤ p11 ∧ p11 ≤ 18446744065119617025) (h10 : 0 ≤ p10 ∧ p10 ≤ 18446744065119617025) (h01 : 0 ≤ p01 ∧ p01 ≤ 18446744065119617025) (h00 : 0 ≤ p00 ∧ p00 ≤ 18446744065119617025) :
  p11 + (p10 + p00 / 4294967296) / 4294967296 + ((p10 + p00 / 4294967296) % 4294967296 + p01) / 4294967296 = (p11 * 18446744073709551616 + (p10 + p01) * 4294967296 + p00) / 18446744073709551616 := by
 omega
theorem Ac {x y : Int} (h0 : 0 ≤ x) (h1 : x < 18446744073709551616) (k0 : 0 ≤ y) (k1 : y < 18446744073709551616) : fx x y = some (x * y / 18446744073709551616, x * y % 18446744073709551616) := by
 unfold fx
 simp only [ae, MB]
 rw [Dt h0 h1, Dt k0 k1]
 simp only [wu]
 have hx0 : 0 ≤ x % 4294967296 ∧ x % 4294967296 < 4294967296 := by omega
 have hx1 : 0 ≤ x / 4294967296 ∧ x / 4294967296 < 4294967296 := by omega
 have hy0 : 0 ≤ y % 4294967296 ∧ y % 4294967296 < 4294967296 := by omega
 have hy1 : 0 ≤ y / 4294967296 ∧ y / 4294967296 < 4294967296 := by omega
 have ex : x = x / 4294967296 * 4294967296 + x % 4294967296 := by omega
 have ey : y = y / 4294967296 * 4294967296 + y % 4294967296 := by omega
 have exy : x * y = (x / 4294967296 * (y / 4294967296)) * 18446744073709551616 + (x / 4294967296 * (y % 4294967296) + x % 4294967296 * (y / 4294967296)) * 4294967296 + x % 4294967296 * (y % 4294967296) := by
  generalize x / 4294967296 = x1 at *
  generalize x % 4294967296 = x0 at *
  generalize y / 4294967296 = y1 at *
  generalize y % 4294967296 = y0 at *
  rw [ex, ey]
  simp only [Int.add_mul, Int.mul_add]
  have e1 : x1 * 4294967296 * (y1 * 4294967296) = x1 * y1 * 18446744073709551616 := by
   rw [Int.mul_assoc, Int.mul_left_comm 4294967296 y1, ← Int.mul_assoc]; rfl
  have e2 : x1 * 4294967296 * y0 = x1 * y0 * 4294967296 := by rw [Int.mul_assoc, Int.mul_comm 4294967296, ← Int.mul_assoc]
  have e3 : x0 * (y1 * 4294967296) = x0 * y1 * 4294967296 := by rw [Int.mul_assoc]
  rw [e1, e2, e3]; omega
 have b11 := Go.SX.Cal.prod_bound hx1.1 hx1.2 hy1.1 hy1.2
 have b10 := Go.SX.Cal.prod_bound hx1.1 hx1.2 hy0.1 hy0.2
 have b01 := Go.SX.Cal.prod_bound hx0.1 hx0.2 hy1.1 hy1.2
 have b00 := Go.SX.Cal.prod_bound hx0.1 hx0.2 hy0.1 hy0.2
 rw [H4 (x := x % 4294967296) (by omega) (by omega), H4 (x := y % 4294967296) (by omega) (by omega)]
 have L := IJ _ _ _ _ b11 b10 b01 b00
 rw [exy]
 generalize x / 4294967296 * (y / 4294967296) = p11 at *
 generalize x / 4294967296 * (y % 4294967296) = p10 at *
 generalize x % 4294967296 * (y / 4294967296) = p01 at *
 generalize x % 4294967296 * (y % 4294967296) = p00 at *
 rw [H4 (x := p10) (by omega) (by omega), H4 (x := p00) (by omega) (by omega), H4 (x := p01) (by omega) (by omega), H4 (x := p11) (by omega) (by omega), H4 (x := p10 + p00 / 4294967296) (by omega) (by omega)]
 rw [Dt (x := p10 + p00 / 4294967296) (by omega) (by omega)]
 rw [H4 (x := (p10 + p00 / 4294967296) % 4294967296) (by omega) (by omega), H4 (x := (p10 + p00 / 4294967296) % 4294967296 + p01) (by omega) (by omega)]
 rw [H4 (x := p11 + (p10 + p00 / 4294967296) / 4294967296) (by omega) (by omega), H4 (x := p11 + (p10 + p00 / 4294967296) / 4294967296 + ((p10 + p00 / 4294967296) % 4294967296 + p01) / 4294967296) (by omega) (by omega), L]
theorem HF {w : aE} {n : Int} (h : W4 w) (n0 : 0 ≤ n) (n1 : n < 18446744073709551616) (hv : val w * n < 115792089237316195423570985008687907853269984665640564039457584007913129639936) :
  ∃ w', cU w n = some w' ∧ W4 w' ∧ val w' = val w * n ∧ w'.neg = w.neg := by
 obtain ⟨neg, x0, x1, x2, x3⟩ := w
 obtain ⟨a0, a1, b0, b1, c0, c1, d0, d1⟩ := h
 simp only at a0 a1 b0 b1 c0 c1 d0 d1
 unfold cU
 simp only
 rw [Ac a0 a1 n0 n1, Ac b0 b1 n0 n1, Ac c0 c1 n0 n1, Ac d0 d1 n0 n1]
 simp only [ae, wu]
 have hval : val ⟨neg, x0, x1, x2, x3⟩ * n = x0 * n + x1 * n * 18446744073709551616 + x2 * n * 340282366920938463463374607431768211456 + x3 * n * 6277101735386680763835789423207666416102355444464034512896 := by
  unfold val
  simp only [Int.add_mul]
  rw [Int.mul_right_comm x1, Int.mul_right_comm x2, Int.mul_right_comm x3]
 rw [hval] at hv ⊢
 obtain ⟨p1, p2, p3, p4⟩ := rS (c := 0) a0 a1 n0 n1 (by decide) (by decide)
 simp only [Int.add_zero] at p1 p2 p3 p4 ⊢
 rw [p1, p2]
 generalize hc1 : x0 * n / 18446744073709551616 = k1 at *
 obtain ⟨q1, q2, q3, q4⟩ := rS (c := k1) b0 b1 n0 n1 p3 p4
 rw [q1, q2]
 generalize hc2 : (x1 * n + k1) / 18446744073709551616 = k2 at *
 obtain ⟨r1, r2, r3, r4⟩ := rS (c := k2) c0 c1 n0 n1 q3 q4
 rw [r1, r2]
 generalize hc3 : (x2 * n + k2) / 18446744073709551616 = k3 at *
 obtain ⟨s1, s2, s3, s4⟩ := rS (c := k3) d0 d1 n0 n1 r3 r4
 rw [s2]
 have e0 := Int.mul_nonneg a0 n0
 have e1 := Int.mul_nonneg b0 n0
 have e2 := Int.mul_nonneg c0 n0
 have e3 := Int.mul_nonneg d0 n0
 clear p1 p2 q1 q2 r1 r2 s1 s2
 generalize x0 * n = P0 at *
 generalize x1 * n = P1 at *
 generalize x2 * n = P2 at *
 generalize x3 * n = P3 at *
 rw [dm (by omega), dm (by omega), dm (by omega), dm (by omega)]
 refine ⟨_, rfl, ⟨by simp only; omega, by simp only; omega, by simp only; omega, by simp only; omega, by simp only; omega, by simp only; omega, by simp only; omega, by simp only; omega⟩, ?_, rfl⟩
 simp only [val]
 have f0 : P0 = k1 * 18446744073709551616 + P0 % 18446744073709551616 := by omega
 have f1 : P1 + k1 = k2 * 18446744073709551616 + (P1 + k1) % 18446744073709551616 := by omega
 have f2 : P2 + k2 = k3 * 18446744073709551616 + (P2 + k2) % 18446744073709551616 := by omega
 have f3 : P3 + k3 = (P3 + k3) / 18446744073709551616 * 18446744073709551616 + (P3 + k3) % 18446744073709551616 := by omega
 have z : (P3 + k3) / 18446744073709551616 = 0 := by
  generalize P0 % 18446744073709551616 = m0 at *
  generalize (P1 + k1) % 18446744073709551616 = m1 at *
  generalize (P2 + k2) % 18446744073709551616 = m2 at *
  omega
 rw [z] at f3
 generalize P0 % 18446744073709551616 = m0 at *
 generalize (P1 + k1) % 18446744073709551616 = m1 at *
 generalize (P2 + k2) % 18446744073709551616 = m2 at *
 generalize (P3 + k3) % 18446744073709551616 = m3 at *
 omega
theorem Gu {a b : aE} (ha : W4 a) (hb : W4 b) : df a b = some (c3 (val a) (val b)) := by
 obtain ⟨n, x0, x1, x2, x3⟩ := a
 obtain ⟨m, y0, y1, y2, y3⟩ := b
 obtain ⟨a0, a1, b0, b1, c0, c1, d0, d1⟩ := ha
 obtain ⟨e0, e1, f0, f1, g0, g1, h0, h1⟩ := hb
 simp only at *
 unfold df
 simp only [aM, decide_eq_true_eq]
 unfold c3 val
 simp only
 by_cases q3 : x3 < y3
 ·rw [if_pos q3, if_pos (by omega)]
 rw [if_neg q3]
 by_cases q3' : y3 < x3
 ·rw [if_pos q3', if_neg (by omega), if_pos (by omega)]
 rw [if_neg q3']
 by_cases q2 : x2 < y2
 ·rw [if_pos q2, if_pos (by omega)]
 rw [if_neg q2]
 by_cases q2' : y2 < x2
 ·rw [if_pos q2', if_neg (by omega), if_pos (by omega)]
 rw [if_neg q2']
 by_cases q1 : x1 < y1
 ·rw [if_pos q1, if_pos (by omega)]
 rw [if_neg q1]
 by_cases q1' : y1 < x1
 ·rw [if_pos q1', if_neg (by omega), if_pos (by omega)]
 rw [if_neg q1']
 by_cases q0 : x0 < y0
 ·rw [if_pos q0, if_pos (by omega)]
 rw [if_neg q0]
 by_cases q0' : y0 < x0
 ·rw [if_pos q0', if_neg (by omega), if_pos (by omega)]
 rw [if_neg q0', if_neg (by omega), if_neg (by omega)]
def wd (A j : Nat) : Nat := A / 2 ^ (64 * j) % 2 ^ 64
def eU (s : Bool) (A : Nat) : aE := ⟨s, (wd A 0 : Int), (wd A 1 : Int), (wd A 2 : Int), (wd A 3 : Int)⟩
theorem eta_w (w : aE) : aE.mk w.neg (w.size.1, w.size.2.1, w.size.2.2.1, w.size.2.2.2) = w := rfl
theorem JI (A : Nat) : wd A 0 = A % 18446744073709551616 := by unfold wd; simp
theorem La (A : Nat) : wd A 1 = A / 18446744073709551616 % 18446744073709551616 := by unfold wd; simp
theorem Lb (A : Nat) : wd A 2 = A / 340282366920938463463374607431768211456 % 18446744073709551616 := by unfold wd; simp
theorem KT (A : Nat) : wd A 3 = A / 6277101735386680763835789423207666416102355444464034512896 % 18446744073709551616 := by unfold wd; simp
theorem pU (s : Bool) (A : Nat) : W4 (eU s A) := by
 have h : ∀ j, (0 : Int) ≤ (wd A j : Int) ∧ (wd A j : Int) < 18446744073709551616 := fun j => by
  have : wd A j < 2 ^ 64 := Nat.mod_lt _ (by decide)
  omega
 exact ⟨(h 0).1, (h 0).2, (h 1).1, (h 1).2, (h 2).1, (h 2).2, (h 3).1, (h 3).2⟩
theorem nt (s : Bool) (A : Nat) (h : A < 115792089237316195423570985008687907853269984665640564039457584007913129639936) : val (eU s A) = A := by
 unfold val eU
 simp only [JI, La, Lb, KT]
 omega
theorem Jm {w : aE} (h : W4 w) : w = eU w.neg (val w).toNat := by
 obtain ⟨neg, x0, x1, x2, x3⟩ := w
 obtain ⟨a0, a1, b0, b1, c0, c1, d0, d1⟩ := h
 simp only at a0 a1 b0 b1 c0 c1 d0 d1
 unfold eU val
 simp only [JI, La, Lb, KT, aE.mk.injEq, Prod.mk.injEq, true_and]
 refine ⟨?_, ?_, ?_, ?_⟩ <;> omega
theorem JK {w : aE} {s : Bool} {A : Nat} (h : W4 w) (hs : w.neg = s) (hv : val w = A) : w = eU s A := by
 rw [Jm h, hs, hv]; rfl
theorem xR (s : Bool) (A m : Nat) (hm : m < 18446744073709551616) (h : A * m < 115792089237316195423570985008687907853269984665640564039457584007913129639936) (hA : A < 115792089237316195423570985008687907853269984665640564039457584007913129639936) : cU (eU s A) (m : Int) = some (eU s (A * m)) := by
 have hv := nt s A hA
 obtain ⟨w, h1, h2, h3, h4⟩ := HF (n := (m : Int)) (pU s A) (by omega) (by omega) (by rw [hv]; omega)
 rw [h1, JK h2 (s := s) (A := A * m) h4 (by rw [h3, hv]; push_cast; rfl)]
theorem wV (s t : Bool) (A B : Nat) (hA : A < 115792089237316195423570985008687907853269984665640564039457584007913129639936) (hB : B < 115792089237316195423570985008687907853269984665640564039457584007913129639936) : df (eU s A) (eU t B) = some (c3 (A : Int) (B : Int)) := by
 rw [Gu (pU s A) (pU t B), nt s A hA, nt t B hB]
theorem whole_mk (n : Int) (h0 : -9223372036854775808 ≤ n) (h1 : n ≤ 9223372036854775807) : il n = some (eU (decide (n < 0)) n.natAbs) := by
 unfold il
 by_cases h : n < 0
 ·rw [show decide (n < 0) = true by simpa using h, aw]
  congr 1
  unfold eU
  simp only [JI, La, Lb, KT, aE.mk.injEq, Prod.mk.injEq, true_and, wu]
  refine ⟨?_, ?_, ?_, ?_⟩ <;> omega
 ·rw [show decide (n < 0) = false by simpa using h, ah]
  congr 1
  unfold eU
  simp only [JI, La, Lb, KT, aE.mk.injEq, Prod.mk.injEq, true_and, wu]
  refine ⟨?_, ?_, ?_, ?_⟩ <;> omega
theorem EI (s : Bool) (d : Nat) (hd : d ≤ 1000) : ∀ (j k A i : Nat), i + j = d → j < k → A * 10 ^ j < 115792089237316195423570985008687907853269984665640564039457584007913129639936 →
  cp (d : Int) k s (wd A 0) (wd A 1) (wd A 2) (wd A 3) (i : Int) = some (eU s (A * 10 ^ j)) := by
 intro j
 induction j with
 | zero =>
  intro k A i hi hk hA
  obtain ⟨k, rfl⟩ : ∃ q, k = q + 1 := ⟨k - 1, by omega⟩
  rw [cp, show decide ((i : Int) < (d : Int)) = false by simp; omega, ah, Nat.pow_zero, Nat.mul_one]
  rfl
 | succ j ih =>
  intro k A i hi hk hA
  obtain ⟨k, rfl⟩ : ∃ q, k = q + 1 := ⟨k - 1, by omega⟩
  have e : A * 10 ^ (j + 1) = A * 10 * 10 ^ j := by rw [Nat.pow_succ, Nat.mul_comm (10 ^ j) 10, Nat.mul_assoc]
  have hp : 0 < 10 ^ j := Nat.pow_pos (by decide)
  have hle : A * 10 * 1 ≤ A * 10 * 10 ^ j := Nat.mul_le_mul_left _ hp
  rw [e] at hA ⊢
  have ht := xR s A 10 (by decide) (by omega) (by omega)
  rw [cp, show decide ((i : Int) < (d : Int)) = true by simp; omega, aw]
  have ht' : cU (aE.mk s ((wd A 0 : Int), (wd A 1 : Int), (wd A 2 : Int), (wd A 3 : Int))) (10 : Int) = some (eU s (A * 10)) := ht
  rw [ht', ar, fJ (by omega) (by omega), show (i : Int) + 1 = ((i + 1 : Nat) : Int) by omega]
  exact ih k (A * 10) (i + 1) (by omega) (by omega) hA
theorem shifted_mk (s : Bool) (A d : Nat) (hd : d ≤ 1000) (h : A * 10 ^ d < 115792089237316195423570985008687907853269984665640564039457584007913129639936) : iH (eU s A) (d : Int) = some (eU s (A * 10 ^ d)) :=
 EI s d hd d ba A 0 (by omega) (by rw [aF]; omega) h
theorem Fl (n : Int) (d : Nat) (h0 : -9223372036854775808 ≤ n) (h1 : n ≤ 9223372036854775807) (hd : d ≤ 1000) (h : n.natAbs * 10 ^ d < 115792089237316195423570985008687907853269984665640564039457584007913129639936) :
  ll n (d : Int) = some (eU (decide (n < 0)) (n.natAbs * 10 ^ d)) := by
 unfold ll
 rw [whole_mk n h0 h1, ar, eta_w, shifted_mk _ _ d hd h, ar]
theorem E0 {s t : Bool} {x0 x1 x2 x3 y0 y1 y2 y3 : Int} (ha : W4 ⟨s, x0, x1, x2, x3⟩) (hb : W4 ⟨t, y0, y1, y2, y3⟩) (hle : val ⟨t, y0, y1, y2, y3⟩ ≤ val ⟨s, x0, x1, x2, x3⟩) :
  ∃ w, eA s x0 x1 x2 x3 t y0 y1 y2 y3 = some w ∧ W4 w ∧ w.neg = s ∧ val w = val ⟨s, x0, x1, x2, x3⟩ - val ⟨t, y0, y1, y2, y3⟩ := by
 obtain ⟨a0, a1, b0, b1, c0, c1, d0, d1⟩ := ha
 obtain ⟨e0, e1, f0, f1, g0, g1, h0, h1⟩ := hb
 simp only at a0 a1 b0 b1 c0 c1 d0 d1 e0 e1 f0 f1 g0 g1 h0 h1
 simp only [val] at hle ⊢
 unfold eA
 simp only [ae, Int.add_zero, Int.sub_zero]
 have k1 : ∃ u, (if x0 < y0 then (1 : Int) else 0) = u ∧ 0 ≤ u ∧ u ≤ 1 ∧ (x0 - y0) % 18446744073709551616 = x0 - y0 + u * 18446744073709551616 := by
  split
  ·exact ⟨1, rfl, by omega, by omega, by omega⟩
  ·exact ⟨0, rfl, by omega, by omega, by omega⟩
 obtain ⟨u1, p1, p2, p3, p4⟩ := k1
 rw [p1, p4]
 have k2 : ∃ u, (if x1 < y1 + u1 then (1 : Int) else 0) = u ∧ 0 ≤ u ∧ u ≤ 1 ∧ (x1 - y1 - u1) % 18446744073709551616 = x1 - y1 - u1 + u * 18446744073709551616 := by
  split
  ·exact ⟨1, rfl, by omega, by omega, by omega⟩
  ·exact ⟨0, rfl, by omega, by omega, by omega⟩
 obtain ⟨u2, q1, q2, q3, q4⟩ := k2
 rw [q1, q4]
 have k3 : ∃ u, (if x2 < y2 + u2 then (1 : Int) else 0) = u ∧ 0 ≤ u ∧ u ≤ 1 ∧ (x2 - y2 - u2) % 18446744073709551616 = x2 - y2 - u2 + u * 18446744073709551616 := by
  split
  ·exact ⟨1, rfl, by omega, by omega, by omega⟩
  ·exact ⟨0, rfl, by omega, by omega, by omega⟩
 obtain ⟨u3, r1, r2, r3, r4⟩ := k3
 rw [r1, r4]
 rw [dm (by omega), dm (by omega), dm (by omega), dm (by omega)]
 have p5 : 0 ≤ x0 - y0 + u1 * 18446744073709551616 ∧ x0 - y0 + u1 * 18446744073709551616 < 18446744073709551616 := by omega
 have q5 : 0 ≤ x1 - y1 - u1 + u2 * 18446744073709551616 ∧ x1 - y1 - u1 + u2 * 18446744073709551616 < 18446744073709551616 := by omega
 have r5 : 0 ≤ x2 - y2 - u2 + u3 * 18446744073709551616 ∧ x2 - y2 - u2 + u3 * 18446744073709551616 < 18446744073709551616 := by omega
 clear p1 p4 q1 q4 r1 r4
 have s5 : (x3 - y3 - u3) % 18446744073709551616 = x3 - y3 - u3 := by omega
 rw [s5]
 refine ⟨_, rfl, ⟨p5.1, p5.2, q5.1, q5.2, r5.1, r5.2, by simp only; omega, by simp only; omega⟩, rfl, ?_⟩
 simp only
 omega
theorem Bw {k : Nat} {b : Bool} {x0 x1 x2 x3 y0 y1 y2 y3 : Int} (ha : W4 ⟨b, x0, x1, x2, x3⟩) (hb : W4 ⟨b, y0, y1, y2, y3⟩) (hv : val ⟨b, x0, x1, x2, x3⟩ + val ⟨b, y0, y1, y2, y3⟩ < 115792089237316195423570985008687907853269984665640564039457584007913129639936) :
  ∃ w, dM (k + 1) ⟨b, x0, x1, x2, x3⟩ ⟨b, y0, y1, y2, y3⟩ = some w ∧ W4 w ∧ w.neg = b ∧ val w = val ⟨b, x0, x1, x2, x3⟩ + val ⟨b, y0, y1, y2, y3⟩ := by
 obtain ⟨a0, a1, b0, b1', c0, c1, d0, d1⟩ := ha
 obtain ⟨e0, e1, f0, f1, g0, g1, h0, h1⟩ := hb
 simp only at a0 a1 b0 b1' c0 c1 d0 d1 e0 e1 f0 f1 g0 g1 h0 h1
 rw [dM]
 simp only [beq_self_eq_true, Bool.not_true, ah, ae, Int.add_zero]
 simp only [val] at hv ⊢
 have m0 : x0 + y0 = (x0 + y0) / 18446744073709551616 * 18446744073709551616 + (x0 + y0) % 18446744073709551616 := by omega
 have u0 : 0 ≤ (x0 + y0) / 18446744073709551616 ∧ (x0 + y0) / 18446744073709551616 ≤ 1 := by omega
 have v0 : 0 ≤ (x0 + y0) % 18446744073709551616 ∧ (x0 + y0) % 18446744073709551616 < 18446744073709551616 := by omega
 generalize (x0 + y0) / 18446744073709551616 = t0 at *
 generalize (x0 + y0) % 18446744073709551616 = r0 at *
 have m1 : x1 + y1 + t0 = (x1 + y1 + t0) / 18446744073709551616 * 18446744073709551616 + (x1 + y1 + t0) % 18446744073709551616 := by omega
 have u1 : 0 ≤ (x1 + y1 + t0) / 18446744073709551616 ∧ (x1 + y1 + t0) / 18446744073709551616 ≤ 1 := by omega
 have v1 : 0 ≤ (x1 + y1 + t0) % 18446744073709551616 ∧ (x1 + y1 + t0) % 18446744073709551616 < 18446744073709551616 := by omega
 generalize (x1 + y1 + t0) / 18446744073709551616 = t1 at *
 generalize (x1 + y1 + t0) % 18446744073709551616 = r1 at *
 have m2 : x2 + y2 + t1 = (x2 + y2 + t1) / 18446744073709551616 * 18446744073709551616 + (x2 + y2 + t1) % 18446744073709551616 := by omega
 have u2 : 0 ≤ (x2 + y2 + t1) / 18446744073709551616 ∧ (x2 + y2 + t1) / 18446744073709551616 ≤ 1 := by omega
 have v2 : 0 ≤ (x2 + y2 + t1) % 18446744073709551616 ∧ (x2 + y2 + t1) % 18446744073709551616 < 18446744073709551616 := by omega
 generalize (x2 + y2 + t1) / 18446744073709551616 = t2 at *
 generalize (x2 + y2 + t1) % 18446744073709551616 = r2 at *
 have m3 : x3 + y3 + t2 = (x3 + y3 + t2) / 18446744073709551616 * 18446744073709551616 + (x3 + y3 + t2) % 18446744073709551616 := by omega
 have u3 : 0 ≤ (x3 + y3 + t2) / 18446744073709551616 ∧ (x3 + y3 + t2) / 18446744073709551616 ≤ 1 := by omega
 have v3 : 0 ≤ (x3 + y3 + t2) % 18446744073709551616 ∧ (x3 + y3 + t2) % 18446744073709551616 < 18446744073709551616 := by omega
 generalize (x3 + y3 + t2) / 18446744073709551616 = t3 at *
 generalize (x3 + y3 + t2) % 18446744073709551616 = r3 at *
 rw [dm (by omega), dm (by omega), dm (by omega), dm (by omega)]
 have z : t3 = 0 := by omega
 subst z
 refine ⟨_, rfl, ⟨v0.1, v0.2, v1.1, v1.2, v2.1, v2.2, v3.1, v3.2⟩, rfl, ?_⟩
 simp only
 omega
theorem xh (a b : aE) (ha : W4 a) (hb : W4 b) (hle : val b ≤ val a) :
  eA a.neg a.size.1 a.size.2.1 a.size.2.2.1 a.size.2.2.2 b.neg b.size.1 b.size.2.1 b.size.2.2.1 b.size.2.2.2 = some (eU a.neg (val a - val b).toNat) := by
 obtain ⟨w, h1, h2, h3, h4⟩ := E0 ha hb hle
 rw [h1, Jm h2, h3, h4]
theorem Az (k : Nat) (s : Bool) (A B : Nat) (hv : A + B < 115792089237316195423570985008687907853269984665640564039457584007913129639936) :
  dM (k + 1) (eU s A) (eU s B) = some (eU s (A + B)) := by
 have va := nt s A (by omega)
 have vb := nt s B (by omega)
 have hv' : val (eU s A) + val (eU s B) < 115792089237316195423570985008687907853269984665640564039457584007913129639936 := by rw [va, vb]; omega
 obtain ⟨w, h1, h2, h3, h4⟩ := Bw (k := k) (pU s A) (pU s B) hv'
 have h5 : val w = ((A + B : Nat) : Int) := by
  have : val w = val (eU s A) + val (eU s B) := h4
  rw [this, va, vb]; omega
 have h6 := JK h2 h3 h5
 rw [h6] at h1
 exact h1
def sgv (s : Bool) (A : Nat) : Int := if s = true then -(A : Int) else (A : Int)
theorem KB {a b : Int} : decide (c3 a b < 0) = decide (a < b) := by
 unfold c3
 by_cases h : a < b
 ·simp [h]
 ·rw [if_neg h]; split <;> simp [h]
theorem yp (k : Nat) (s : Bool) (A B : Nat) (hA : A < 115792089237316195423570985008687907853269984665640564039457584007913129639936) (hB : B < 115792089237316195423570985008687907853269984665640564039457584007913129639936) :
  dV (k + 1) (eU s A) (eU s B) = some (if A < B then eU (!s) (B - A) else eU s (A - B)) := by
 rw [dV, show (eU s A).neg = s from rfl, show (eU s B).neg = s from rfl]
 simp only [beq_self_eq_true, Bool.not_true, ah]
 have e := wV s s A B hA hB
 have e' : df (aE.mk s ((eU s A).size.1, (eU s A).size.2.1, (eU s A).size.2.2.1, (eU s A).size.2.2.2)) (aE.mk s ((eU s B).size.1, (eU s B).size.2.1, (eU s B).size.2.2.1, (eU s B).size.2.2.2)) = some (c3 (A : Int) (B : Int)) := e
 rw [e', ar, KB]
 by_cases h : A < B
 ·rw [show decide ((A : Int) < (B : Int)) = true by simpa using h, aw, if_pos h]
  unfold gn
  rw [ar]
  have va := nt s A hA
  have vb := nt (!s) B hB
  have q := xh (eU (!s) B) (eU s A) (pU _ _) (pU _ _) (by rw [va, vb]; omega)
  rw [va, vb, show ((B : Int) - (A : Int)).toNat = B - A by omega] at q
  exact q
 ·rw [show decide ((A : Int) < (B : Int)) = false by simpa using h, ah, if_neg h]
  have va := nt s A hA
  have vb := nt s B hB
  have q := xh (eU s A) (eU s B) (pU _ _) (pU _ _) (by rw [va, vb]; omega)
  rw [va, vb, show ((A : Int) - (B : Int)).toNat = A - B by omega] at q
  exact q
end Go.Proofs.YtpmoopnkoknbeaaGreatDoor.Nm
namespace Go.Proofs.YtpmoopnkoknbeaaGreatDoor.Nm
open Go Go.SX Go.SX.Cal
theorem D7 (Q n j : Nat) : wd (Q ||| 2 ^ n) j = wd Q j ||| (if j = n / 64 then 2 ^ (n % 64) else 0) := by
 refine Nat.eq_of_testBit_eq fun i => ?_
 unfold wd
 rw [Nat.testBit_mod_two_pow, Nat.testBit_div_two_pow, Nat.testBit_or, Nat.testBit_or, Nat.testBit_mod_two_pow, Nat.testBit_div_two_pow, Nat.testBit_two_pow]
 by_cases hj : j = n / 64
 ·rw [if_pos hj, Nat.testBit_two_pow]
  by_cases hi : i < 64
  ·have : (n = i + 64 * j) ↔ (n % 64 = i) := by omega
   simp [hi, this]
  ·have : ¬ (n % 64 = i) := by omega
   simp [hi, this]
 ·rw [if_neg hj]
  by_cases hi : i < 64
  ·have : ¬ (n = i + 64 * j) := by omega
   simp [hi, this]
  ·simp [hi]
theorem Kd (A n : Nat) : wd A (n / 64) / 2 ^ (n % 64) % 2 = A / 2 ^ n % 2 := by
 have h : (wd A (n / 64)).testBit (n % 64) = A.testBit n := by
  unfold wd
  rw [Nat.testBit_mod_two_pow, Nat.testBit_div_two_pow, show n % 64 + 64 * (n / 64) = n by omega]
  have : n % 64 < 64 := Nat.mod_lt _ (by decide)
  simp [this]
 rw [Nat.testBit_eq_decide_div_mod_eq, Nat.testBit_eq_decide_div_mod_eq] at h
 have h1 := Nat.mod_two_eq_zero_or_one (wd A (n / 64) / 2 ^ (n % 64))
 have h2 := Nat.mod_two_eq_zero_or_one (A / 2 ^ n)
 rcases h1 with h1 | h1 <;> rcases h2 with h2 | h2 <;> simp_all
theorem Mc (x : Nat) (h : x < 18446744073709551616) : (BitVec.ofInt 64 (x : Int)).toNat = x := by
 rw [BitVec.toNat_ofInt]
 have : (x : Int) % ((2 ^ 64 : Nat) : Int) = x := by omega
 rw [this]; rfl
theorem Cj (x y : Nat) (hx : x < 18446744073709551616) (hy : y < 18446744073709551616) : IntKind.u64.wrap ((BitVec.ofInt (IntKind.u64).bits (x : Int) ||| BitVec.ofInt (IntKind.u64).bits (y : Int)).toNat : Int) = ((x ||| y : Nat) : Int) := by
 show IntKind.u64.wrap ((BitVec.ofInt 64 (x : Int) ||| BitVec.ofInt 64 (y : Int)).toNat : Int) = _
 rw [BitVec.toNat_or, Mc x hx, Mc y hy, wu]
 have : x ||| y < 2 ^ 64 := Nat.or_lt_two_pow hx hy
 omega
theorem Lu (x : Nat) (hx : x < 18446744073709551616) : IntKind.u64.wrap ((BitVec.ofInt (IntKind.u64).bits (x : Int) &&& BitVec.ofInt (IntKind.u64).bits (1 : Int)).toNat : Int) = ((x % 2 : Nat) : Int) := by
 show IntKind.u64.wrap ((BitVec.ofInt 64 (x : Int) &&& BitVec.ofInt 64 ((1 : Nat) : Int)).toNat : Int) = _
 rw [BitVec.toNat_and, Mc x hx, Mc 1 (by decide), wu]
 have e : x &&& 1 = x % 2 := Nat.and_two_pow_sub_one_eq_mod x 1
 rw [e]
 omega
theorem J4 (x b : Nat) (hx : x % 2 = 0) (hb : b < 2) : x ||| b = x + b := by
 have := Nat.two_pow_add_eq_or_of_lt (i := 1) (b := b) (by simpa using hb) (x / 2)
 rw [show 2 ^ 1 * (x / 2) = x by omega] at this
 exact this.symm
theorem fd (x s : Nat) : (x : Int).fdiv (2 ^ s) = ((x / 2 ^ s : Nat) : Int) := by
 rw [Int.fdiv_eq_ediv_of_nonneg _ (Int.le_of_lt (Int.pow_pos (by decide)))]
 push_cast; rfl
theorem qk (A j : Nat) : wd A j < 18446744073709551616 := Nat.mod_lt _ (by decide)
theorem Jw (s : Nat) (h : s < 64) : min ((s : Int)).toNat (IntKind.u64).bits = s := by
 show min ((s : Int)).toNat 64 = s
 omega
theorem Lv (s : Nat) (h : s < 64) : IntKind.u64.wrap ((1 : Int) * 2 ^ s) = ((2 ^ s : Nat) : Int) := by
 have : 2 ^ s < 2 ^ 64 := Nat.pow_lt_pow_right (by decide) h
 rw [wu, Int.one_mul, show ((2 : Int) ^ s) = ((2 ^ s : Nat) : Int) by push_cast; rfl]
 generalize 2 ^ s = P at *
 omega
theorem J8 (R b : Nat) (hb : b < 2) : wd (R * 2) 0 ||| b = wd (R * 2 + b) 0 ∧ wd (R * 2) 1 = wd (R * 2 + b) 1 ∧ wd (R * 2) 2 = wd (R * 2 + b) 2 ∧ wd (R * 2) 3 = wd (R * 2 + b) 3 := by
 rw [J4 _ _ (by rw [JI]; omega) hb]
 simp only [JI, La, Lb, KT]
 omega
abbrev QT := Int → Int → Int → Int → Bool → Int → Int → Int → Int → Int → Option (aE × aE)
theorem Kl (rec1 : QT) (t b : Bool) (B Q C n : Nat) (hn : n < 256) (hB : B < 57896044618658097711785492504343953926634992332820282019728792003956564819968) (hC : C < 115792089237316195423570985008687907853269984665640564039457584007913129639936) (r1 : aE) (hr : r1.neg = b) (h1 : r1.size.2.1 = (wd C 1 : Int)) (h2 : r1.size.2.2.1 = (wd C 2 : Int)) (h3 : r1.size.2.2.2 = (wd C 3 : Int)) :
  em rec1 (eU t B) (wd Q 0) (wd Q 1) (wd Q 2) (wd Q 3) (n : Int) r1 (wd C 0) =
   if B ≤ C then rec1 (wd (Q ||| 2 ^ n) 0) (wd (Q ||| 2 ^ n) 1) (wd (Q ||| 2 ^ n) 2) (wd (Q ||| 2 ^ n) 3) false (wd (C - B) 0) (wd (C - B) 1) (wd (C - B) 2) (wd (C - B) 3) ((n : Int) - 1)
   else rec1 (wd Q 0) (wd Q 1) (wd Q 2) (wd Q 3) b (wd C 0) (wd C 1) (wd C 2) (wd C 3) ((n : Int) - 1) := by
 unfold em
 rw [h1, h2, h3, hr, eta_w]
 have e1 : df (aE.mk b ((wd C 0 : Int), (wd C 1 : Int), (wd C 2 : Int), (wd C 3 : Int))) (eU t B) = some (c3 (C : Int) (B : Int)) := wV b t C B hC (by omega)
 rw [e1, ar]
 have hw : IntKind.i64.wrap ((n : Int) - 1) = (n : Int) - 1 := fJ (by omega) (by omega)
 by_cases h : B ≤ C
 ·rw [show decide ((0 : Int) ≤ c3 (C : Int) (B : Int)) = true by unfold c3; rw [if_neg (by omega)]; split <;> simp, aw, if_pos h]
  have e2 : dV ba (aE.mk false ((wd C 0 : Int), (wd C 1 : Int), (wd C 2 : Int), (wd C 3 : Int))) (aE.mk false ((eU t B).size.1, (eU t B).size.2.1, (eU t B).size.2.2.1, (eU t B).size.2.2.2)) = some (eU false (C - B)) := by
   have := yp 1152921504606846975 false C B hC (by omega)
   rw [if_neg (by omega)] at this
   exact this
  rw [e2, ar]
  have e3 : IntKind.i64.wrap ((n : Int).tdiv 64) = ((n / 64 : Nat) : Int) := by
   rw [Int.tdiv_eq_ediv_of_nonneg (by omega), fJ (by omega) (by omega)]; omega
  have e4 : (n : Int).tmod 64 = ((n % 64 : Nat) : Int) := by
   rw [Int.tmod_eq_emod_of_nonneg (by omega)]; omega
  have hs : n % 64 < 64 := Nat.mod_lt _ (by decide)
  have hp : 2 ^ (n % 64) < 18446744073709551616 := Nat.pow_lt_pow_right (by decide) hs
  rw [e3, e4, Jw _ hs, Lv _ hs]
  simp only [ar]
  rw [Cj _ _ (qk Q 0) hp, Cj _ _ (qk Q 1) hp, Cj _ _ (qk Q 2) hp, Cj _ _ (qk Q 3) hp, D7 Q n 0, D7 Q n 1, D7 Q n 2, D7 Q n 3]
  have hc : n / 64 = 0 ∨ n / 64 = 1 ∨ n / 64 = 2 ∨ n / 64 = 3 := by omega
  unfold dB bB
  have hg : (0 : Int) ≤ ((n % 64 : Nat) : Int) := by omega
  simp only [if_pos hg, hw]
  rcases hc with hc | hc | hc | hc <;> simp only [hc, aM] <;> simp [eU]
 ·rw [show decide ((0 : Int) ≤ c3 (C : Int) (B : Int)) = false by unfold c3; rw [if_pos (by omega)]; rfl, ah, if_neg h]
  unfold dB
  rw [hw]
theorem Hk (s t b : Bool) (A B Q R n k : Nat) (hn : n < 256) (hB : B < 57896044618658097711785492504343953926634992332820282019728792003956564819968) (hR : R < B) :
  bc (eU s A) (eU t B) (k + 1) (wd Q 0) (wd Q 1) (wd Q 2) (wd Q 3) b (wd R 0) (wd R 1) (wd R 2) (wd R 3) (n : Int) =
   if B ≤ R * 2 + A / 2 ^ n % 2 then bc (eU s A) (eU t B) k (wd (Q ||| 2 ^ n) 0) (wd (Q ||| 2 ^ n) 1) (wd (Q ||| 2 ^ n) 2) (wd (Q ||| 2 ^ n) 3) false (wd (R * 2 + A / 2 ^ n % 2 - B) 0) (wd (R * 2 + A / 2 ^ n % 2 - B) 1) (wd (R * 2 + A / 2 ^ n % 2 - B) 2) (wd (R * 2 + A / 2 ^ n % 2 - B) 3) ((n : Int) - 1)
   else bc (eU s A) (eU t B) k (wd Q 0) (wd Q 1) (wd Q 2) (wd Q 3) b (wd (R * 2 + A / 2 ^ n % 2) 0) (wd (R * 2 + A / 2 ^ n % 2) 1) (wd (R * 2 + A / 2 ^ n % 2) 2) (wd (R * 2 + A / 2 ^ n % 2) 3) ((n : Int) - 1) := by
 rw [bc, show decide ((0 : Int) ≤ (n : Int)) = true by simp, aw]
 have e1 : cU (aE.mk b ((wd R 0 : Int), (wd R 1 : Int), (wd R 2 : Int), (wd R 3 : Int))) (2 : Int) = some (eU b (R * 2)) := xR b R 2 (by decide) (by omega) (by omega)
 rw [e1, ar]
 have e3 : IntKind.i64.wrap ((n : Int).tdiv 64) = ((n / 64 : Nat) : Int) := by
  rw [Int.tdiv_eq_ediv_of_nonneg (by omega), fJ (by omega) (by omega)]; omega
 have e4 : (n : Int).tmod 64 = ((n % 64 : Nat) : Int) := by
  rw [Int.tmod_eq_emod_of_nonneg (by omega)]; omega
 have hs : n % 64 < 64 := Nat.mod_lt _ (by decide)
 have hbit : A / 2 ^ n % 2 < 2 := Nat.mod_lt _ (by decide)
 have hb2 := Kd A n
 generalize hbb : A / 2 ^ n % 2 = bit at *
 obtain ⟨w0, w1, w2, w3⟩ := J8 R bit hbit
 have fin := Kl (bc (eU s A) (eU t B) k) t b B Q (R * 2 + bit) n hn hB (by omega) (eU b (R * 2)) rfl (by rw [← w1]; rfl) (by rw [← w2]; rfl) (by rw [← w3]; rfl)
 rw [e3, e4, Jw _ hs]
 simp only [ar]
 have key : ∀ j, n / 64 = j → IntKind.u64.wrap ((BitVec.ofInt (IntKind.u64).bits (eU b (R * 2)).size.1 ||| BitVec.ofInt (IntKind.u64).bits (IntKind.u64.wrap ((BitVec.ofInt (IntKind.u64).bits ((wd A j : Int).fdiv (2 ^ (n % 64))) &&& BitVec.ofInt (IntKind.u64).bits (1 : Int)).toNat : Int))).toNat : Int) = (wd (R * 2 + bit) 0 : Int) := by
  intro j hj
  subst hj
  have hlt : wd A (n / 64) / 2 ^ (n % 64) < 18446744073709551616 := Nat.lt_of_le_of_lt (Nat.div_le_self _ _) (qk _ _)
  rw [fd, Lu _ hlt, hb2, show (eU b (R * 2)).size.1 = (wd (R * 2) 0 : Int) from rfl, Cj _ _ (qk _ _) (by omega), w0]
 have hc : n / 64 = 0 ∨ n / 64 = 1 ∨ n / 64 = 2 ∨ n / 64 = 3 := by omega
 have hg : (0 : Int) ≤ ((n % 64 : Nat) : Int) := by omega
 simp only [bB, if_pos hg]
 rcases hc with hc | hc | hc | hc
 ·rw [hc, show (((0 : Nat) : Int) == (0 : Int)) = true from rfl, aw]
  have := key 0 hc
  rw [show (eU s A).size.1 = (wd A 0 : Int) from rfl, this]; exact fin
 ·rw [hc, show (((1 : Nat) : Int) == (0 : Int)) = false from rfl, show (((1 : Nat) : Int) == (1 : Int)) = true from rfl, ah, aw]
  have := key 1 hc
  rw [show (eU s A).size.2.1 = (wd A 1 : Int) from rfl, this]; exact fin
 ·rw [hc, show (((2 : Nat) : Int) == (0 : Int)) = false from rfl, show (((2 : Nat) : Int) == (1 : Int)) = false from rfl, show (((2 : Nat) : Int) == (2 : Int)) = true from rfl, ah, ah, aw]
  have := key 2 hc
  rw [show (eU s A).size.2.2.1 = (wd A 2 : Int) from rfl, this]; exact fin
 ·rw [hc, show (((3 : Nat) : Int) == (0 : Int)) = false from rfl, show (((3 : Nat) : Int) == (1 : Int)) = false from rfl, show (((3 : Nat) : Int) == (2 : Int)) = false from rfl, show (((3 : Nat) : Int) == (3 : Int)) = true from rfl, ah, ah, ah, aw]
  have := key 3 hc
  rw [show (eU s A).size.2.2.2 = (wd A 3 : Int) from rfl, this]; exact fin
theorem Gb (P B bit : Nat) (hB : 0 < B) (hb : bit < 2) :
  (B ≤ P % B * 2 + bit → (2 * P + bit) / B = 2 * (P / B) + 1 ∧ (2 * P + bit) % B = P % B * 2 + bit - B) ∧
  (¬ B ≤ P % B * 2 + bit → (2 * P + bit) / B = 2 * (P / B) ∧ (2 * P + bit) % B = P % B * 2 + bit) := by
 have h := Nat.div_add_mod P B
 have hm := Nat.mod_lt P hB
 have e : B * (2 * (P / B)) = 2 * (B * (P / B)) := by rw [Nat.mul_left_comm]
 constructor
 ·intro hc
  have e2 : B * (2 * (P / B) + 1) = B * (2 * (P / B)) + B := by rw [Nat.mul_add, Nat.mul_one]
  exact (Nat.div_mod_unique hB).2 ⟨by omega, by omega⟩
 ·intro hc
  exact (Nat.div_mod_unique hB).2 ⟨by omega, by omega⟩
theorem F7 (s t : Bool) (A B : Nat) (hB0 : 0 < B) (hB : B < 57896044618658097711785492504343953926634992332820282019728792003956564819968) : ∀ (n k : Nat) (b : Bool), n ≤ 256 → n < k →
  bc (eU s A) (eU t B) k (wd (2 ^ n * (A / 2 ^ n / B)) 0) (wd (2 ^ n * (A / 2 ^ n / B)) 1) (wd (2 ^ n * (A / 2 ^ n / B)) 2) (wd (2 ^ n * (A / 2 ^ n / B)) 3) b (wd (A / 2 ^ n % B) 0) (wd (A / 2 ^ n % B) 1) (wd (A / 2 ^ n % B) 2) (wd (A / 2 ^ n % B) 3) ((n : Int) - 1) = some (eU (!(s == t)) (A / B), eU s (A % B)) := by
 intro n
 induction n with
 | zero =>
  intro k b hn hk
  obtain ⟨k, rfl⟩ : ∃ q, k = q + 1 := ⟨k - 1, by omega⟩
  rw [bc, show decide ((0 : Int) ≤ ((0 : Nat) : Int) - 1) = false from rfl, ah, Nat.pow_zero, Nat.one_mul, Nat.div_one]
  rfl
 | succ n ih =>
  intro k b hn hk
  obtain ⟨k, rfl⟩ : ∃ q, k = q + 1 := ⟨k - 1, by omega⟩
  have hA : A / 2 ^ n = 2 * (A / 2 ^ (n + 1)) + A / 2 ^ n % 2 := by
   rw [Nat.pow_succ, ← Nat.div_div_eq_div_mul]; omega
  rw [show ((n + 1 : Nat) : Int) - 1 = (n : Int) by omega, Hk s t b A B _ _ n k (by omega) hB (Nat.mod_lt _ hB0)]
  obtain ⟨d1, d2⟩ := Gb (A / 2 ^ (n + 1)) B (A / 2 ^ n % 2) hB0 (Nat.mod_lt _ (by decide))
  rw [← hA] at d1 d2
  by_cases hc : B ≤ A / 2 ^ (n + 1) % B * 2 + A / 2 ^ n % 2
  ·rw [if_pos hc]
   obtain ⟨q1, q2⟩ := d1 hc
   rw [← q2]
   have hq : 2 ^ (n + 1) * (A / 2 ^ (n + 1) / B) ||| 2 ^ n = 2 ^ n * (A / 2 ^ n / B) := by
    rw [← Nat.two_pow_add_eq_or_of_lt (Nat.pow_lt_pow_right (by decide) (by omega)), q1, Nat.pow_succ, Nat.mul_add, Nat.mul_one, Nat.mul_assoc]
   rw [hq]
   exact ih k false (by omega) (by omega)
  ·rw [if_neg hc]
   obtain ⟨q1, q2⟩ := d2 hc
   rw [← q2]
   have hq : 2 ^ (n + 1) * (A / 2 ^ (n + 1) / B) = 2 ^ n * (A / 2 ^ n / B) := by
    rw [q1, Nat.pow_succ, Nat.mul_assoc]
   rw [hq]
   exact ih k b (by omega) (by omega)
theorem Kq (s t : Bool) (A B : Nat) (hA : A < 115792089237316195423570985008687907853269984665640564039457584007913129639936) (hB0 : 0 < B) (hB : B < 57896044618658097711785492504343953926634992332820282019728792003956564819968) :
  nO (eU s A) (eU t B) = some (eU (!(s == t)) (A / B), eU s (A % B)) := by
 have h := F7 s t A B hB0 hB 256 ba false (Nat.le_refl _) (by rw [aF]; omega)
 have hz : A / 2 ^ 256 = 0 := Nat.div_eq_of_lt hA
 rw [hz, Nat.zero_div, Nat.mul_zero, Nat.zero_mod] at h
 exact h
def rhn (A B : Nat) : Nat := if B < A % B * 2 ∨ (A % B * 2 = B ∧ A / B % 2 = 1) then A / B + 1 else A / B
theorem Ku (A B : Nat) : rhn A B ≤ A / B + 1 := by unfold rhn; split <;> omega
theorem rounded_mk (s t : Bool) (A B : Nat) (hA : A < 57896044618658097711785492504343953926634992332820282019728792003956564819968) (hB0 : 0 < B) (hB : B < 57896044618658097711785492504343953926634992332820282019728792003956564819968) :
  iy (eU s A) (eU t B) = some (eU (!(s == t)) (rhn A B)) := by
 unfold iy
 have hm := Nat.mod_lt A hB0
 have hd := Nat.div_le_self A B
 rw [eta_w, eta_w, Kq s t A B (by omega) hB0 hB, ar]
 simp only
 have e1 : cU (eU s (A % B)) (2 : Int) = some (eU s (A % B * 2)) := xR s (A % B) 2 (by decide) (by omega) (by omega)
 rw [eta_w, e1, ar, eta_w, wV s t (A % B * 2) B (by omega) (by omega), ar]
 rw [show (eU (!(s == t)) (A / B)).size.1 = (wd (A / B) 0 : Int) from rfl, Lu _ (qk _ _), ar]
 have hbit : wd (A / B) 0 % 2 = A / B % 2 := by rw [JI]; omega
 rw [hbit]
 have up : dc (eU (!(s == t)) (A / B), eU s (A % B)) true = some (eU (!(s == t)) (A / B + 1)) := by
  unfold dc
  rw [aw, whole_mk 1 (by decide) (by decide), ar]
  have := Az 1152921504606846975 (!(s == t)) (A / B) 1 (by omega)
  have e : dM ba (aE.mk (eU (!(s == t)) (A / B)).neg ((eU (!(s == t)) (A / B)).size.1, (eU (!(s == t)) (A / B)).size.2.1, (eU (!(s == t)) (A / B)).size.2.2.1, (eU (!(s == t)) (A / B)).size.2.2.2)) (aE.mk (eU (!(s == t)) (A / B)).neg ((eU (decide ((1 : Int) < 0)) (Int.natAbs 1)).size.1, (eU (decide ((1 : Int) < 0)) (Int.natAbs 1)).size.2.1, (eU (decide ((1 : Int) < 0)) (Int.natAbs 1)).size.2.2.1, (eU (decide ((1 : Int) < 0)) (Int.natAbs 1)).size.2.2.2)) = some (eU (!(s == t)) (A / B + 1)) := this
  rw [e, ar]
  rfl
 have down : dc (eU (!(s == t)) (A / B), eU s (A % B)) false = some (eU (!(s == t)) (A / B)) := rfl
 unfold rhn
 by_cases h1 : B < A % B * 2
 ·rw [show decide ((0 : Int) < c3 ((A % B * 2 : Nat) : Int) (B : Int)) = true by unfold c3; rw [if_neg (by omega), if_pos (by omega)]; rfl, aw, if_pos (.inl h1)]
  exact up
 ·by_cases h2 : A % B * 2 = B
  ·rw [show c3 ((A % B * 2 : Nat) : Int) (B : Int) = 0 by unfold c3; rw [if_neg (by omega), if_neg (by omega)]]
   rw [show decide ((0 : Int) < 0) = false from rfl, show ((0 : Int) == 0) = true from rfl, ah, aw]
   by_cases h3 : A / B % 2 = 1
   ·rw [h3, if_pos (.inr ⟨h2, rfl⟩)]; exact up
   ·rw [if_neg (by omega), show (((A / B % 2 : Nat) : Int) == (1 : Int)) = false by simp; omega]; exact down
  ·rw [show c3 ((A % B * 2 : Nat) : Int) (B : Int) = -1 by unfold c3; rw [if_pos (by omega)]]
   rw [show decide ((0 : Int) < -1) = false from rfl, show ((-1 : Int) == 0) = false from rfl, ah, ah, if_neg (by omega)]
   exact down
theorem Fk (s : Bool) (A : Nat) (hA : A < 115792089237316195423570985008687907853269984665640564039457584007913129639936) : ja (eU s A) = some (if A < 9223372036854775808 then (sgv s A, true) else (0, false)) := by
 unfold ja
 rw [show (eU s A).size.2.1 = (wd A 1 : Int) from rfl, show (eU s A).size.2.2.1 = (wd A 2 : Int) from rfl, show (eU s A).size.2.2.2 = (wd A 3 : Int) from rfl, show (eU s A).size.1 = (wd A 0 : Int) from rfl, Cj _ _ (qk _ _) (qk _ _), ar, Cj _ _ (Nat.or_lt_two_pow (n := 64) (qk _ _) (qk _ _)) (qk _ _), ar]
 have hz : (wd A 1 ||| wd A 2 ||| wd A 3 = 0) ↔ A < 18446744073709551616 := by
  rw [Nat.or_eq_zero_iff, Nat.or_eq_zero_iff, La, Lb, KT]; omega
 have bad : ff (eU s A) true = some (0, false) := rfl
 by_cases h : A < 18446744073709551616
 ·rw [hz.2 h, show ((((0 : Nat) : Int)) != (0 : Int)) = false from rfl, ah]
  have hw : wd A 0 = A := by rw [JI]; omega
  rw [hw]
  by_cases h2 : A < 9223372036854775808
  ·rw [show decide ((9223372036854775808 : Int) ≤ (A : Int)) = false by simp; omega, if_pos h2]
   unfold ff
   rw [ah, show (eU s A).neg = s from rfl, show (eU s A).size.1 = (wd A 0 : Int) from rfl, hw, fJ (x := (A : Int)) (by omega) (by omega), fJ (x := 0 - (A : Int)) (by omega) (by omega)]
   cases s
   ·rfl
   ·simp only [aw, sgv]; simp
  ·rw [show decide ((9223372036854775808 : Int) ≤ (A : Int)) = true by simp; omega, if_neg h2]; exact bad
 ·have hne : wd A 1 ||| wd A 2 ||| wd A 3 ≠ 0 := fun e => h (hz.1 e)
  rw [show ((((wd A 1 ||| wd A 2 ||| wd A 3 : Nat) : Int)) != (0 : Int)) = true by simp only [bne_iff_ne, ne_eq]; omega, aw, if_neg (by omega)]; exact bad
end Go.Proofs.YtpmoopnkoknbeaaGreatDoor.Nm
namespace Go.Proofs.YtpmoopnkoknbeaaGreatDoor.Nm
open Go Go.SX Go.SX.Cal Go.Lib
def sg (b : Bool) (z : Int) : Int := if b = true then -z else z
structure wq (w : dt) (z : Int) (N : Nat) : Prop where
 d : dS w.d
 t : sa w.d
 l : w.d.length ≤ N
 b : w.below = true → w.d ≠ []
 v : z = sg w.below (aI w.d)
theorem yW {l : List Int} (h : dS l) (t : sa l) : aI l = 0 ↔ l = [] := by
 constructor
 ·intro e
  cases hl : l with
  | nil => rfl
  | cons x m =>
   have h1 := qd h t (by simp [hl])
   have h2 := Ak (l.length - 1)
   omega
 ·rintro rfl; rfl
theorem Lt (b : Bool) (d : List Int) (N : Nat) (hl : d.length ≤ N) (hN : N < 1000000) (hd : dS d) : ∃ w, mw b d = some w ∧ wq w (sg b (aI d)) N := by
 obtain ⟨d', h1, h2, h3, h4, h5⟩ := pn b d (by omega) hd
 refine ⟨_, h1, h2, h3, by show d'.length ≤ N; omega, ?_, ?_⟩
 ·intro hb e
  have hb : (b && decide (0 < d'.length)) = true := hb
  have e : d' = [] := e
  simp [e] at hb
 ·show sg b (aI d) = sg (b && decide (0 < d'.length)) (aI d')
  cases hz : d' with
  | nil => rw [hz] at h4; simp [aI] at h4; simp [← h4, sg, aI]
  | cons x m => rw [← hz, h4]; simp [hz]
theorem rwideOf (n : Int) (h0 : -9223372036854775808 ≤ n) (h1 : n ≤ 9223372036854775807) : ∃ w, kG n = some w ∧ wq w n 19 := by
 unfold kG
 obtain ⟨d, e1, e2, e3, e4, e5⟩ := BA h0 h1 ba [] n (by simp) (by rw [aF]; simp) qu (fun _ => wB) (by
  simp only [List.length_nil]
  have : p10 (19 - 0) = 10000000000000000000 := by decide
  rw [this]; unfold ab; split <;> omega) h0 h1 (by simp [aI, p10])
 refine ⟨_, e1, e2, e3, e4, ?_, ?_⟩
 ·intro hb e
  simp at hb e
  rw [e] at e5
  simp [aI, ab, hb] at e5
  omega
 ·show n = sg (decide (n < 0)) (aI d)
  rw [e5]
  unfold sg ab
  by_cases h : n < 0
  ·simp [h]
  ·simp [h]
end Go.Proofs.YtpmoopnkoknbeaaGreatDoor.Nm
namespace Go.Proofs.YtpmoopnkoknbeaaGreatDoor.Nm
open Go Go.SX Go.SX.Cal Go.Lib
theorem p10_pow : ∀ n, p10 n = ((10 ^ n : Nat) : Int)
 | 0 => rfl
 | n + 1 => by simp only [p10, p10_pow n, Nat.pow_succ]; push_cast; rfl
theorem wq.mono {w : dt} {z : Int} {N M : Nat} (h : wq w z N) (hm : N ≤ M) : wq w z M := ⟨h.d, h.t, Nat.le_trans h.l hm, h.b, h.v⟩
theorem wq.neg {w : dt} {z : Int} {N : Nat} (h : wq w z N) : decide (z < 0) = w.below := by
 have h0 := dD h.d
 have hv := h.v
 unfold sg at hv
 by_cases hb : w.below = true
 ·rw [if_pos hb] at hv
  have : aI w.d ≠ 0 := fun e => h.b hb ((yW h.d h.t).1 e)
  rw [hb]; simp; omega
 ·rw [if_neg hb] at hv
  have hb' : w.below = false := by simpa using hb
  rw [hb']; simp; omega
theorem wq.abs {w : dt} {z : Int} {N : Nat} (h : wq w z N) : aI w.d = (z.natAbs : Int) := by
 have h0 := dD h.d
 have hv := h.v
 unfold sg at hv
 split at hv <;> omega
theorem wq.nil {w : dt} {z : Int} {N : Nat} (h : wq w z N) : (w.d.length = 0) ↔ z = 0 := by
 have := h.abs
 have h2 := yW h.d h.t
 rw [List.length_eq_zero_iff, ← h2]; omega
theorem wq.lt {w : dt} {z : Int} {N : Nat} (h : wq w z N) : (z.natAbs : Int) < p10 N := by
 rw [← h.abs]
 exact Int.lt_of_lt_of_le (ma h.d) (mM h.l)
theorem wq.tight {w : dt} {z : Int} {N M : Nat} (h : wq w z N) (hz : (z.natAbs : Int) < p10 M) : wq w z M := by
 refine ⟨h.d, h.t, ?_, h.b, h.v⟩
 by_cases hn : w.d = []
 ·simp [hn]
 ·have h1 := qd h.d h.t hn
  rw [h.abs] at h1
  apply Classical.byContradiction
  intro hc
  have := mM (show M ≤ w.d.length - 1 by omega)
  omega
theorem sZ : ∀ k, aI (List.replicate k 0) = 0
 | 0 => rfl
 | k + 1 => by rw [List.replicate_succ]; simp [aI, sZ k]
theorem rtens {a : dt} {x : Int} {N k : Nat} (ha : wq a x N) (hN : N < 900) (hk : k < 900) : ∃ w, oS a (k : Int) = some w ∧ wq w (x * p10 k) (N + k) := by
 unfold oS
 by_cases h : a.d.length = 0
 ·rw [show ((a.d.length : Int) == 0) = true by simp [h], aw]
  have hx := ha.nil.1 h
  subst hx
  exact ⟨a, rfl, by rw [Int.zero_mul]; exact ha.mono (by omega)⟩
 ·have hl := ha.l
  rw [show ((a.d.length : Int) == 0) = false by simpa using h, ah, dm (by omega), dm (by simp; omega)]
  refine ⟨_, rfl, ⟨?_, ?_, ?_, ?_, ?_⟩⟩
  ·intro d hd
   rcases List.mem_append.1 hd with h1 | h1
   ·have := List.eq_of_mem_replicate h1; omega
   ·exact ha.d d h1
  ·intro d hd
   have hne : a.d ≠ [] := by rintro e; simp [e] at h
   simp only at hd
   cases hq : a.d.getLast? with
   | none => exact absurd (List.getLast?_eq_none_iff.1 hq) hne
   | some z =>
    rw [List.getLast?_append, hq] at hd
    simp at hd
    exact ha.t d (by rw [hq, hd])
  ·simp; omega
  ·intro hb e
   simp at e
   exact ha.b hb e.2
  ·simp only
   rw [fY, sZ, List.length_replicate, ha.v, show ((k : Int)).toNat = k by omega]
   unfold sg; split
   ·rw [Int.neg_mul, Int.mul_comm, Int.zero_add]
   ·rw [Int.mul_comm, Int.zero_add]
def LG (A B : Int) : Int := if B < A % B * 2 ∨ (A % B * 2 = B ∧ A / B % 2 = 1) then A / B + 1 else A / B
def rz (x y : Int) : Int := sg (!(decide (x < 0) == decide (y < 0))) (LG x.natAbs y.natAbs)
theorem reven {a b : dt} {x y : Int} {N M : Nat} (ha : wq a x N) (hb : wq b y M) (hN : N < 390) (hM : M < 390) (hy : y ≠ 0) : ∃ w, rQ a b = some w ∧ wq w (rz x y) (N + 2) := by
 have hla := ha.l
 have hlb := hb.l
 have hp : 0 < aI b.d := by rw [hb.abs]; omega
 have n0 := dD ha.d
 unfold rQ
 obtain ⟨q, r, h1, h2, h3, h4, h5, h6, h7, h8, h9⟩ := Fe ha.d (by omega) hb.d hb.t (by omega) hp
 obtain ⟨rr, g1, g2, g3, g4, g5⟩ := Ea h4 h4 h5 h5 (by omega) (by omega)
 obtain ⟨c, k1, k2, k3, k4⟩ := zL g2 hb.d g3 hb.t (by omega) (by omega)
 rw [h1, ar, g1, ar, k1, ar]
 rw [g4, h9] at k4
 have fin : ∀ (up : Bool) (z : Int), (up = true → z = aI a.d / aI b.d + 1) → (up = false → z = aI a.d / aI b.d) → sg (!(a.below == b.below)) z = rz x y → ∃ w, ir a b (q, r) up = some w ∧ wq w (rz x y) (N + 2) := by
  intro up z hu hd hz
  unfold ir ns
  cases up with
  | true =>
   obtain ⟨q1, e1, e2, e3, e4, e5⟩ := Ea h2 (b := [1]) (fun d hd => by simp at hd; omega) h3 (fun d hd => by simp at hd; omega) (by omega) (by simp)
   rw [aw, e1, ar]
   obtain ⟨w, f1, f2⟩ := Lt (!(a.below == b.below)) q1 (N + 2) (by simp at e5; omega) (by omega) e2
   rw [f1, ar]
   refine ⟨w, rfl, ?_⟩
   rw [← hz, hu rfl]
   rw [e4, h8] at f2
   simpa [aI] using f2
  | false =>
   obtain ⟨w, f1, f2⟩ := Lt (!(a.below == b.below)) q (N + 2) (by omega) (by omega) h2
   rw [ah, f1, ar]
   refine ⟨w, rfl, ?_⟩
   rw [← hz, hd rfl]
   rw [h8] at f2
   exact f2
 have hrz : rz x y = sg (!(a.below == b.below)) (LG (aI a.d) (aI b.d)) := by
  unfold rz; rw [ha.neg, hb.neg, ha.abs, hb.abs]
 have hq0 := dD h2
 unfold LG at hrz
 by_cases hc : aI b.d < aI a.d % aI b.d + aI a.d % aI b.d
 ·have : 0 < c := by
   unfold c3 at k4
   rw [if_neg (by omega : ¬ aI a.d % aI b.d + aI a.d % aI b.d < aI b.d), if_pos hc] at k4
   split at k4
   ·omega
   ·split at k4 <;> omega
  rw [show decide ((0 : Int) < c) = true by simpa using this, aw]
  rw [if_pos (.inl (by omega))] at hrz
  exact fin true _ (fun _ => rfl) (fun h => by cases h) hrz.symm
 ·have hc0 : ¬ 0 < c := by
   intro h
   unfold c3 at k4
   rw [if_neg (by omega : ¬ c < 0), if_pos h, if_neg hc] at k4
   split at k4 <;> omega
  rw [show decide ((0 : Int) < c) = false by simpa using hc0, ah]
  by_cases he : aI a.d % aI b.d + aI a.d % aI b.d = aI b.d
  ·have hcz : c = 0 := by
    unfold c3 at k4
    rw [if_neg (by omega : ¬ aI a.d % aI b.d + aI a.d % aI b.d < aI b.d), if_neg hc] at k4
    split at k4 <;> omega
   subst hcz
   rw [show ((0 : Int) == 0) = true from rfl, aw]
   cases q with
   | nil =>
    simp only [List.length_nil]
    rw [show decide ((0 : Int) < ((0 : Nat) : Int)) = false from rfl, ah]
    have : aI a.d / aI b.d = 0 := by rw [← h8]; rfl
    rw [if_neg (by rw [this]; omega)] at hrz
    exact fin false _ (fun h => by cases h) (fun _ => rfl) hrz.symm
   | cons u us =>
    have hu := h2 u (by simp)
    rw [show decide ((0 : Int) < (((u :: us).length : Nat) : Int)) = true by simp, aw, show at? (u :: us) (0 : Int) = some u from rfl, ar]
    have hpar : u.tmod 2 = aI a.d / aI b.d % 2 := by
     rw [Int.tmod_eq_emod_of_nonneg hu.1, ← h8]; simp only [aI]; omega
    rw [hpar]
    by_cases h1' : aI a.d / aI b.d % 2 = 1
    ·rw [if_pos (.inr ⟨by omega, h1'⟩)] at hrz
     rw [h1']
     exact fin true _ (fun _ => rfl) (fun h => by cases h) hrz.symm
    ·rw [if_neg (by omega)] at hrz
     rw [show (aI a.d / aI b.d % 2 == 1) = false by simpa using h1']
     exact fin false _ (fun h => by cases h) (fun _ => rfl) hrz.symm
  ·have hcz : c ≠ 0 := by
    rintro rfl
    unfold c3 at k4
    rw [if_pos (by omega : aI a.d % aI b.d + aI a.d % aI b.d < aI b.d)] at k4
    simp at k4
   rw [show (c == 0) = false by simpa using hcz, ah]
   rw [if_neg (by omega)] at hrz
   exact fin false _ (fun h => by cases h) (fun _ => rfl) hrz.symm
theorem Da {w : dt} (hd : dS w.d) (hl : w.d.length ≤ 18) : ∀ (i k : Nat), i ≤ w.d.length → i < k → ec w k (aI (w.d.drop i)) ((i : Int) - 1) = mn w (aI w.d) := by
 intro i
 induction i with
 | zero =>
  intro k hi hk
  obtain ⟨k, rfl⟩ : ∃ q, k = q + 1 := ⟨k - 1, by omega⟩
  rw [ec, show decide ((0 : Int) ≤ ((0 : Nat) : Int) - 1) = false from rfl, ah, List.drop_zero]
 | succ i ih =>
  intro k hi hk
  obtain ⟨k, rfl⟩ : ∃ q, k = q + 1 := ⟨k - 1, by omega⟩
  have hi' : i < w.d.length := by omega
  have e := List.drop_eq_getElem_cons hi'
  have d0 : dS (w.d.drop i) := fun x hx => hd x (List.mem_of_mem_drop hx)
  have b1 := ma d0
  have b0 := dD d0
  have d1 : dS (w.d.drop (i + 1)) := fun x hx => hd x (List.mem_of_mem_drop hx)
  have b2 := dD d1
  have b3 := mM (show (w.d.drop i).length ≤ 18 by simp; omega)
  have b4 : p10 18 = 1000000000000000000 := by decide
  have rd := hd w.d[i] (List.getElem_mem hi')
  have hv : aI (w.d.drop i) = w.d[i] + 10 * aI (w.d.drop (i + 1)) := by rw [e]; rfl
  rw [ec, show ((i + 1 : Nat) : Int) - 1 = (i : Int) by omega, show decide ((0 : Int) ≤ (i : Int)) = true by simp, aw, cf hi', ar, fJ (x := 10 * aI (w.d.drop (i + 1))) (by omega) (by omega), fJ (x := 10 * aI (w.d.drop (i + 1)) + w.d[i]) (by omega) (by omega), fJ (by omega) (by omega), show 10 * aI (w.d.drop (i + 1)) + w.d[i] = aI (w.d.drop i) by omega]
  exact ih k (by omega) (by omega)
theorem KN {w : dt} {z : Int} {N : Nat} (h : wq w z N) (hN : N < 900) : pC w = some (if z.natAbs < 1000000000000000000 then (z, true) else (0, false)) := by
 have hl := h.l
 have ha := h.abs
 have hv := h.v
 have b4 : p10 18 = 1000000000000000000 := by decide
 unfold pC
 by_cases hlen : w.d.length ≤ 18
 ·have h1 := ma h.d
  have h2 := mM hlen
  have hs := Da h.d hlen w.d.length ba (Nat.le_refl _) (by rw [aF]; omega)
  rw [List.drop_length] at hs
  rw [show decide ((18 : Int) < (w.d.length : Int)) = false by simp; omega, ah, fJ (by omega) (by omega), show ec w ba 0 ((w.d.length : Int) - 1) = ec w ba (aI []) ((w.d.length : Int) - 1) from rfl, hs, if_pos (by omega)]
  unfold mn mj
  unfold sg at hv
  cases hb : w.below
  ·rw [hb] at hv; simp at hv; rw [ah, hv]
  ·rw [hb] at hv; simp at hv; rw [aw, fJ (by omega) (by omega), hv]; congr 2; omega
 ·have h1 := qd h.d h.t (by rintro e; simp [e] at hlen)
  have h2 := mM (show 18 ≤ w.d.length - 1 by omega)
  rw [show decide ((18 : Int) < (w.d.length : Int)) = true by simp; omega, aw, if_neg (by omega)]
def JD : ac := ⟨0, 0, 0, ByteArray.empty, []⟩
def numV (kind z scale : Int) : ac := if z.natAbs < 1000000000000000000 ∧ cK ⟨kind, z, scale, ByteArray.empty, []⟩ = true then ⟨kind, z, scale, ByteArray.empty, []⟩ else JD
theorem wQ (k z s : Int) : bh ⟨k, z, s, ByteArray.empty, []⟩ < 1000000000 := by
 simp only [bh, bM]
 have : ByteArray.empty.size = 0 := rfl
 omega
theorem rnumber {w : dt} {z : Int} {N : Nat} (kind scale : Int) (h : wq w z N) (hN : N < 900) : ow kind w scale = some (numV kind z scale) := by
 unfold ow numV
 rw [KN h hN, ar]
 by_cases hz : z.natAbs < 1000000000000000000
 ·rw [if_pos hz]
  simp only [Bool.not_true, ah]
  rw [uz _ (wQ _ _ _), ar]
  cases hs : cK ⟨kind, z, scale, ByteArray.empty, []⟩
  ·rw [if_neg (by simp)]; rfl
  ·rw [if_pos ⟨hz, rfl⟩]; rfl
 ·rw [if_neg hz, if_neg (fun h => hz h.1)]
  rfl
end Go.Proofs.YtpmoopnkoknbeaaGreatDoor.Nm
namespace Go.Proofs.YtpmoopnkoknbeaaGreatDoor.Nm
open Go Go.SX Go.SX.Cal Go.Lib
theorem vW {v : ac} (h : cK v = true) : bi v = true := by
 unfold cK aW at h
 by_cases hc : 256 < lm v 0 ∨ bi v = false
 ·rw [if_pos hc] at h; cases h
 ·rw [not_or] at hc
  simpa using hc.2
theorem Cf {k n s : Int} : cK ⟨k, n, s, ByteArray.empty, []⟩ = bi ⟨k, n, s, ByteArray.empty, []⟩ := by
 unfold cK aW
 have hc : ¬ 256 < lm ⟨k, n, s, ByteArray.empty, []⟩ 0 := by unfold lm; split <;> omega
 cases hp : bi ⟨k, n, s, ByteArray.empty, []⟩
 ·rw [if_pos (.inr rfl)]
 ·rw [if_neg (by simp [hc])]; rfl
theorem wg {v : ac} (h : cK v = true) : v.n.natAbs < 1000000000000000000 := by
 have hp := vW h
 unfold bi at hp
 simp only at hp
 split at hp
 ·simp at hp; omega
 split at hp
 ·simp at hp; omega
 split at hp
 ·simp at hp; omega
 split at hp
 ·simp at hp; omega
 split at hp
 ·simp at hp; omega
 split at hp
 ·simp at hp; omega
 split at hp
 ·simp at hp; omega
 split at hp
 ·simp at hp; omega
 ·cases hp
theorem numV_eq {k z s : Int} : numV k z s = if bi ⟨k, z, s, ByteArray.empty, []⟩ = true then ⟨k, z, s, ByteArray.empty, []⟩ else JD := by
 unfold numV
 by_cases h : cK ⟨k, z, s, ByteArray.empty, []⟩ = true
 ·rw [if_pos ⟨wg h, h⟩, if_pos (vW h)]
 ·rw [if_neg (fun q => h q.2), if_neg (fun q => h (by rw [Cf]; exact q))]
theorem made_mk (kind scale : Int) (s : Bool) (A : Nat) (hA : A < 115792089237316195423570985008687907853269984665640564039457584007913129639936) : lZ kind (eU s A) scale = some (numV kind (sgv s A) scale) := by
 unfold lZ l9
 rw [eta_w, Fk s A hA, ar]
 have habs : (sgv s A).natAbs = A := by unfold sgv; split <;> omega
 by_cases h : A < 9223372036854775808
 ·rw [if_pos h]
  simp only [Bool.not_true, ah]
  rw [vh _ (wQ _ _ _), ar]
  unfold numV
  cases hs : cK ⟨kind, sgv s A, scale, ByteArray.empty, []⟩
  ·rw [if_neg (by simp)]; rfl
  ·rw [if_pos ⟨wg hs, rfl⟩]; rfl
 ·rw [if_neg h]
  simp only [Bool.not_false, aw]
  unfold numV
  rw [if_neg (fun q => by have := q.1; omega)]; rfl
theorem IP (A B : Nat) : LG A B = (rhn A B : Int) := by
 unfold LG rhn
 have e1 : (A : Int) % (B : Int) = ((A % B : Nat) : Int) := by push_cast; rfl
 have e2 : (A : Int) / (B : Int) = ((A / B : Nat) : Int) := by push_cast; rfl
 rw [e1, e2]
 generalize A % B = m
 generalize A / B = q
 by_cases h : B < m * 2 ∨ (m * 2 = B ∧ q % 2 = 1)
 ·rw [if_pos h, if_pos (by omega)]; push_cast; rfl
 ·rw [if_neg h, if_neg (by omega)]
theorem rz_sgv (x y : Int) : rz x y = sgv (!(decide (x < 0) == decide (y < 0))) (rhn x.natAbs y.natAbs) := by
 unfold rz; rw [IP]; rfl
theorem rhn_pow {A : Nat} (hA : A < 1000000000000000000) (k : Nat) : rhn A (10 ^ k) ≤ 1000000000000000000 := by
 have h := Ku A (10 ^ k)
 have := Nat.div_le_self A (10 ^ k)
 omega
theorem scaled1 (k : Nat) (hk : k ≤ 60) : ll 1 (k : Int) = some (eU false (10 ^ k)) := by
 have h : (10 : Nat) ^ k ≤ 10 ^ 60 := Nat.pow_le_pow_right (by decide) hk
 have := Fl 1 k (by decide) (by decide) (by omega) (by rw [show Int.natAbs 1 = 1 from rfl, Nat.one_mul]; exact Nat.lt_of_le_of_lt h (by decide))
 rw [show Int.natAbs 1 = 1 from rfl, Nat.one_mul] at this
 exact this
theorem rw1 : ∃ w, kG 1 = some w ∧ wq w 1 1 := by
 obtain ⟨w, h1, h2⟩ := rwideOf 1 (by decide) (by decide)
 exact ⟨w, h1, h2.tight (by decide)⟩
theorem Aj {d : Nat} (q : ac → ac → Option Bool) (v : ac) (hl : v.items.length < 1000000000) (hq : ∀ x ∈ v.items, q x x = some true) : ∀ (m k i : Nat), i + m = v.items.length → m < k → cO q v v k (i : Int) = some true := by
 intro m
 induction m with
 | zero =>
  intro k i hi hk
  obtain ⟨k, rfl⟩ : ∃ q, k = q + 1 := ⟨k - 1, by omega⟩
  rw [cO, show decide ((i : Int) < (v.items.length : Int)) = false by simp; omega, ah]; rfl
 | succ m ih =>
  intro k i hi hk
  obtain ⟨k, rfl⟩ : ∃ q, k = q + 1 := ⟨k - 1, by omega⟩
  have hi' : i < v.items.length := by omega
  rw [cO, gp hi', aw, cf hi', ar, ar, hq _ (List.getElem_mem hi'), ar, Bool.not_true, ah, dW hi' hl]
  exact ih k (i + 1) (by omega) (by omega)
theorem uj : ∀ (k : Nat) (v : ac), bh v < k → bh v < 1000000000 → cw k v v = some true := by
 intro k
 induction k with
 | zero => intro v h; omega
 | succ k ih =>
  intro v hk hv
  have hl := eN v.items
  have he := eJ v
  rw [cw, show (v.kind != v.kind) = false by simp, show (v.n != v.n) = false by simp, show (v.scale != v.scale) = false by simp, show (!(v.s.toList == v.s.toList)) = false by simp, show ((v.items.length : Int) != (v.items.length : Int)) = false by simp]
  simp only [ah]
  unfold eF
  rw [ah]
  refine Aj (d := 0) _ v (by omega) (fun x hx => ?_) v.items.length ba 0 (by omega) (by rw [aF]; omega)
  have := eQ hx
  exact ih x (by omega) (by omega)
end Go.Proofs.YtpmoopnkoknbeaaGreatDoor.Nm
namespace Go.Proofs.YtpmoopnkoknbeaaGreatDoor
open Go Go.PX Go.SX Go.SX.Cal
theorem Fm (A B K : Nat) (hK : 0 < K) (hB : 0 < B) : Nm.rhn (A * K) (B * K) = Nm.rhn A B := by
 unfold Nm.rhn
 have h1 : A * K / (B * K) = A / B := Nat.mul_div_mul_right A B hK
 have h2 : A * K % (B * K) = A % B * K := Nat.mul_mod_mul_right K A B
 rw [h1, h2]
 have e1 : B * K < A % B * K * 2 ↔ B < A % B * 2 := by
  rw [show A % B * K * 2 = A % B * 2 * K by rw [Nat.mul_assoc, Nat.mul_comm K 2, ← Nat.mul_assoc]]
  exact Nat.mul_lt_mul_right hK
 have e2 : A % B * K * 2 = B * K ↔ A % B * 2 = B := by
  rw [show A % B * K * 2 = A % B * 2 * K by rw [Nat.mul_assoc, Nat.mul_comm K 2, ← Nat.mul_assoc]]
  exact Nat.mul_left_inj (by omega)
 simp only [e1, e2]
theorem Fy (Q B : Nat) (hB : 0 < B) : Nm.rhn (Q * B) B = Q := by
 unfold Nm.rhn
 rw [Nat.mul_mod_left, Nat.mul_div_cancel _ hB, if_neg (by omega)]
def Js (n : Int) (sv su : Nat) : Int := Nm.sgv (decide (n < 0)) (if sv ≤ su then n.natAbs * 10 ^ (su - sv) else Nm.rhn n.natAbs (10 ^ (sv - su)))
theorem DV {k : Nat} (h : k ≤ 12) : 10 ^ k ≤ 1000000000000 := Nat.le_trans (Nat.pow_le_pow_right (by decide) h) (by decide)
theorem A2 {n : Int} {sv su : Nat} (k : Int) (hn : n.natAbs < 1000000000000000000) (h1 : sv ≤ 12) (h2 : su ≤ 12) :
  (ay (il n) fun r5 => ay (jp (aE.mk r5.neg (r5.size.1, r5.size.2.1, r5.size.2.2.1, r5.size.2.2.2)) (sv : Int) (su : Int)) fun r6 =>
   ay (lZ k (aE.mk r6.neg (r6.size.1, r6.size.2.1, r6.size.2.2.1, r6.size.2.2.2)) (su : Int)) fun r7 => some r7) = some (Nm.numV k (Js n sv su) su) := by
 rw [Nm.whole_mk n (by omega) (by omega), ae]
 rw [Nm.eta_w]
 unfold jp
 simp only [Nm.eta_w]
 rw [aB]
 unfold Js
 have hb : ∀ A : Nat, A ≤ 1000000000000000000 * 1000000000000 → A < 57896044618658097711785492504343953926634992332820282019728792003956564819968 := fun A hA => Nat.lt_of_le_of_lt hA (by decide)
 have hb2 : ∀ A : Nat, A ≤ 1000000000000000000 * 1000000000000 → A < 115792089237316195423570985008687907853269984665640564039457584007913129639936 := fun A hA => Nat.lt_of_le_of_lt hA (by decide)
 by_cases hle : sv ≤ su
 ·have hm : n.natAbs * 10 ^ (su - sv) ≤ 1000000000000000000 * 1000000000000 := Nat.mul_le_mul (by omega) (DV (by omega))
  rw [if_pos (by simpa using hle), if_pos hle, fJ (by omega) (by omega), show ((su : Int) - (sv : Int)) = ((su - sv : Nat) : Int) by omega, Nm.shifted_mk _ _ _ (by omega) (hb2 _ hm), ae]
  rw [ae, Nm.made_mk _ _ _ _ (hb2 _ hm), ae]
 ·have hp := DV (k := sv - su) (by omega)
  have hpp : 0 < 10 ^ (sv - su) := Nat.pow_pos (by decide)
  have hr := Nm.rhn_pow hn (sv - su)
  rw [if_neg (by simp; omega), if_neg hle, fJ (by omega) (by omega), show ((sv : Int) - (su : Int)) = ((sv - su : Nat) : Int) by omega, Nm.scaled1 _ (by omega), ae]
  rw [Nm.rounded_mk _ _ _ _ (hb _ (by omega)) hpp (hb _ (by omega)), ae, ae, Nm.made_mk _ _ _ _ (hb2 _ (by omega)), ae]
  congr 2
  cases decide (n < 0) <;> rfl
theorem H7 {v : ac} {u : af} {sv su : Nat} (hn : v.n.natAbs < 1000000000000000000) (h1 : v.scale = (sv : Int)) (h2 : u.scale = (su : Int)) (h3 : sv ≤ 12) (h4 : su ≤ 12) :
  cT v u = some (Nm.numV u.kind (Js v.n sv su) su) := by
 unfold cT
 rw [h1, h2]
 obtain ⟨w1, e1, f1⟩ := Nm.rwideOf v.n (by omega) (by omega)
 obtain ⟨w2, e2, f2⟩ := Nm.rtens f1 (k := 12 - sv) (by omega) (by omega)
 obtain ⟨w3, e3, f3⟩ := Nm.rw1
 obtain ⟨w4, e4, f4⟩ := Nm.rtens f3 (k := 12 - su) (by omega) (by omega)
 have hp : Cal.p10 (12 - su) = ((10 ^ (12 - su) : Nat) : Int) := Nm.p10_pow _
 have hpos : 0 < 10 ^ (12 - su) := Nat.pow_pos (by decide)
 obtain ⟨w5, e5, f5⟩ := Nm.reven f2 f4 (by omega) (by omega) (by rw [hp]; omega)
 rw [e1, ae, fJ (x := 12 - (sv : Int)) (by omega) (by omega), show (12 : Int) - (sv : Int) = ((12 - sv : Nat) : Int) by omega, e2, ae, e3, ae, fJ (x := 12 - (su : Int)) (by omega) (by omega), show (12 : Int) - (su : Int) = ((12 - su : Nat) : Int) by omega, e4, ae, e5, ae,
  Nm.rnumber _ _ f5 (by omega), ae]
 congr 2
 rw [Nm.rz_sgv, Nm.p10_pow, Nm.p10_pow]
 unfold Js
 have hpv : 0 < 10 ^ (12 - sv) := Nat.pow_pos (by decide)
 have ha : (v.n * ((10 ^ (12 - sv) : Nat) : Int)).natAbs = v.n.natAbs * 10 ^ (12 - sv) := by rw [Int.natAbs_mul, Int.natAbs_natCast]
 have hb : (1 * ((10 ^ (12 - su) : Nat) : Int)).natAbs = 10 ^ (12 - su) := by rw [Int.one_mul, Int.natAbs_natCast]
 have hneg : decide (v.n * ((10 ^ (12 - sv) : Nat) : Int) < 0) = decide (v.n < 0) := by
  rw [Bool.eq_iff_iff]
  simp only [decide_eq_true_eq]
  constructor
  ·intro h
   rcases Int.lt_or_le v.n 0 with h' | h'
   ·exact h'
   ·have := Int.mul_nonneg h' (Int.natCast_nonneg (10 ^ (12 - sv))); omega
  ·intro h
   exact Int.mul_neg_of_neg_of_pos h (by omega)
 have hneg2 : decide (1 * ((10 ^ (12 - su) : Nat) : Int) < 0) = false := decide_eq_false (by rw [Int.one_mul]; omega)
 rw [ha, hb, hneg, hneg2]
 have hq : Nm.rhn (v.n.natAbs * 10 ^ (12 - sv)) (10 ^ (12 - su)) = if sv ≤ su then v.n.natAbs * 10 ^ (su - sv) else Nm.rhn v.n.natAbs (10 ^ (sv - su)) := by
  by_cases hle : sv ≤ su
  ·rw [if_pos hle, show 12 - sv = (su - sv) + (12 - su) by omega, Nat.pow_add, ← Nat.mul_assoc]
   exact Fy _ _ hpos
  ·rw [if_neg hle, show 12 - su = (sv - su) + (12 - sv) by omega, Nat.pow_add]
   exact Fm _ _ _ hpv (Nat.pow_pos (by decide))
 rw [hq]
 cases decide (v.n < 0) <;> rfl
end Go.Proofs.YtpmoopnkoknbeaaGreatDoor
namespace Go.Proofs.YtpmoopnkoknbeaaGreatDoor
open Go Go.PX Go.SX Go.SX.Cal
def cn (a b : Int) : Bool :=
 if a = 1 then (b == 1 || (b == 2 || b == 4)) else if a = 2 then decide (1 ≤ b) && decide (b ≤ 5) else if a = 3 then (b == 2 || (b == 3 || b == 4))
 else if a = 4 then decide (1 ≤ b) && decide (b ≤ 5) else if a = 5 then (b == 2 || (b == 5 || b == 4)) else a == b
theorem JV (a b : Int) : o9 a b = some (cn a b) := by
 unfold o9 ld lq lF cn
 simp only [F5, zX, ar]
 simp only [aB, beq_iff_eq]
 repeat' split
 all_goals rfl
def Lw (w : ac) (u : af) : Prop := w = kH ∨ (w.kind = u.kind ∧ w.scale = u.scale ∧ bi w = true)
theorem xd {k z s : Int} {u : af} (hk : k = u.kind) (hs : s = u.scale) : Lw (Nm.numV k z s) u := by
 rw [Nm.numV_eq]
 split
 ·exact .inr ⟨hk, hs, ‹_›⟩
 ·exact .inl rfl
theorem A3 (n : Int) (s : Nat) : Js n s s = n := by
 unfold Js Nm.sgv
 rw [if_pos (Nat.le_refl _), Nat.sub_self, Nat.pow_zero, Nat.mul_one]
 by_cases h : n < 0
 ·rw [decide_eq_true h, if_pos rfl]; omega
 ·rw [decide_eq_false h, if_neg (by simp)]; omega
theorem GH {v : ac} (hp : bi v = true) (h4 : v.kind ≠ 4) (h6 : v.kind ≠ 6) (h7 : v.kind ≠ 7) : ac.mk v.kind v.n v.scale ByteArray.empty [] = v :=
 mR rfl rfl rfl (jn ((lz hp).zero h4)) (bq hp h6 h7)
theorem Ga {v : ac} (hp : bi v = true) (h4 : v.kind ≠ 4) (h6 : v.kind ≠ 6) (h7 : v.kind ≠ 7) : Nm.numV v.kind v.n v.scale = v := by
 rw [Nm.numV_eq, GH hp h4 h6 h7, if_pos hp]
theorem DF {t : af} (hV : V t) : 0 ≤ t.scale ∧ t.scale ≤ 12 := by
 have h := hV.sh
 unfold shp at h
 split at h
 ·cases h
 ·by_cases hb : tF t
  ·rw [if_pos hb] at h; cases h
  ·unfold tF at hb; omega
theorem FU {t : af} (hV : V t) (h6 : t.kind ≠ 6) (h7 : t.kind ≠ 7) : t.fields = [] := by
 have h := hV.sh
 unfold shp at h
 split at h
 ·cases h
 ·split at h
  ·cases h
  ·unfold vf at h
   rw [if_neg h6, if_pos h7] at h
   split at h
   ·cases h
   ·exact List.length_eq_zero_iff.1 (by omega)
theorem JE {t : af} (hV : V t) (h6 : t.kind ≠ 6) (h7 : t.kind ≠ 7) {s : Int} (hs : t.scale = s) : af.mk t.kind s [] = t := by
 have := FU hV h6 h7
 obtain ⟨a, b, c⟩ := t
 simp only at this hs
 subst this hs
 rfl
theorem LK {t : af} {v : ac} (hv : bh v < 1000000000) (hT : dF t < 1000000000) (h : ck t v = 0) : Lw v t := by
 obtain ⟨hV, hS, ho, hs, _⟩ := yY hv hT h
 obtain ⟨hp, _⟩ := rt.succ (d := 3) hS
 have hl := lz hp
 by_cases h0 : v.kind = 0
 ·left
  exact (mR h0 (hl.nn (.inl h0)) (bW hp (by omega)) (jn (hl.zero (by omega))) (bq hp (by omega) (by omega))).symm
 ·obtain ⟨o1, o2, _⟩ := qB (d := 3) ho h0
  refine .inr ⟨o1, ?_, hp⟩
  by_cases h3 : v.kind = 3
  ·exact o2 h3
  ·rw [bW hp h3, hV.scale (by omega)]
abbrev qJ : List UInt8 := [110, 117, 108, 108]
theorem vH (k s : Int) (u : List UInt8) (hu : u.length ≤ 1000000) : ∃ p, gb ⟨k, s, []⟩ (bs u) = some p ∧ cM ⟨k, s, []⟩ (bs u) = some p ∧ (p.1 = kH ∧ p.2 ≠ 0 ∨ p.2 = 0 ∧ ck ⟨k, s, []⟩ p.1 = 0 ∧ u = T p.1 ∧ bh p.1 ≤ 10000000) :=
 Gy ⟨k, s, []⟩ u (by rw [gA]; simp [je]; omega)
theorem xi (k s : Int) : dF ⟨k, s, []⟩ < 1000000000 := by rw [gA]; simp [je]
theorem wi {k s : Int} {u : List UInt8} {p : ac} (hn : u ≠ qJ) (hc : ck ⟨k, s, []⟩ p = 0) (hu : u = T p) (hs : bh p ≤ 10000000) : p.kind = k ∧ (k = 3 → p.scale = s) ∧ bi p = true ∧ cK p = true := by
 obtain ⟨hV, hS, ho, hso, _⟩ := yY (by omega) (xi k s) hc
 obtain ⟨hp, _⟩ := rt.succ (d := 3) hS
 have h0 : p.kind ≠ 0 := by
  intro h0
  apply hn
  rw [hu, mQ, if_pos h0]
 obtain ⟨o1, o2, _⟩ := qB (d := 3) ho h0
 exact ⟨o1, fun h => o2 (by rw [o1]; exact h), hp, hso⟩
def Cb (v : ac) (t : af) : Option ac :=
 ay (il v.n) fun r5 =>
  ay (jp (aE.mk r5.neg (r5.size.1, r5.size.2.1, r5.size.2.2.1, r5.size.2.2.2)) v.scale t.scale) fun r6 =>
  ay (lZ t.kind (aE.mk r6.neg (r6.size.1, r6.size.2.1, r6.size.2.2.1, r6.size.2.2.2)) t.scale) fun r7 => some r7
theorem wP {β : Type} (x : Option β) : (ay x fun r => some r) = x := by cases x <;> rfl
theorem pq (k : Nat) {v : ac} {t : af} (h0 : v.kind ≠ 0) (h6 : v.kind ≠ 6) (h7 : v.kind ≠ 7) :
  bl (k + 1) v t = if v.kind = t.kind ∧ t.kind ≠ 3 then some v else if t.kind = 4 then (ay (fD ba v) fun r2 => some ⟨4, 0, 0, r2, []⟩)
   else if v.kind = 4 then cP k v.s t else if t.kind = 1 then (if 0 ≤ v.n ∧ v.n ≤ 1 then Cb v t else some kH) else Cb v t := by
 have j3f : gK v t false = Cb v t := by
  unfold gK Cb
  rw [aB, if_neg (by simp)]
 have j3t : gK v t true = some kH := by
  unfold gK
  rw [aB, if_pos rfl]
 have j2f : gO (cP k) v t false = if t.kind = 4 then (ay (fD ba v) fun r2 => some ⟨4, 0, 0, r2, []⟩)
   else if v.kind = 4 then cP k v.s t else if t.kind = 1 then (if 0 ≤ v.n ∧ v.n ≤ 1 then Cb v t else some kH) else Cb v t := by
  unfold gO
  rw [aB, if_neg (by simp), zX]
  simp only [aB, beq_iff_eq, wP, j3f, ar]
  by_cases hb : 0 ≤ v.n ∧ v.n ≤ 1
  ·rw [if_pos hb, show (decide (0 ≤ v.n) && decide (v.n ≤ 1)) = true by simpa using hb, Bool.not_true, j3f]
  ·rw [if_neg hb, show (decide (0 ≤ v.n) && decide (v.n ≤ 1)) = false by rw [Bool.eq_false_iff]; intro h; apply hb; simpa using h, Bool.not_false, j3t]
 have j2t : gO (cP k) v t true = some v := by
  unfold gO
  rw [aB, if_pos rfl]
 rw [bl]
 unfold ki
 simp only [aB, beq_iff_eq]
 rw [if_neg h0, if_neg h6, if_neg h7]
 by_cases he : v.kind = t.kind
 ·rw [if_pos he]
  by_cases h3 : t.kind = 3
  ·rw [show (t.kind != 3) = false by simp [h3], j2f, if_neg (show ¬ (v.kind = t.kind ∧ t.kind ≠ 3) from fun h => h.2 h3)]
  ·rw [show (t.kind != 3) = true by simp [h3], j2t, if_pos ⟨he, h3⟩]
 ·rw [if_neg he, j2f, if_neg (show ¬ (v.kind = t.kind ∧ t.kind ≠ 3) from fun h => he h.1)]
theorem vK {v : ac} {t : af} (k : Nat) (hp : bi v = true) (hkv : v.kind = 2 ∨ v.kind = 3) (hV : V t) (hkt : t.kind = 3 ∨ (t.kind = 2 ∧ v.kind = 3)) : bl (k + 1) v t = some (Nm.numV t.kind (Js v.n v.scale.toNat t.scale.toNat) t.scale) := by
 have hl := lz hp
 have hn := hl.num (by omega)
 have hsv : 0 ≤ v.scale ∧ v.scale ≤ 12 := by
  by_cases h3 : v.kind = 3
  ·exact hl.sc h3
  ·rw [bW hp h3]; decide
 have hst := DF hV
 have main := A2 (n := v.n) (sv := v.scale.toNat) (su := t.scale.toNat) t.kind (by omega) (by omega) (by omega)
 rw [show ((v.scale.toNat : Nat) : Int) = v.scale by omega, show ((t.scale.toNat : Nat) : Int) = t.scale by omega] at main
 rw [pq k (by omega) (by omega) (by omega), if_neg (by omega), if_neg (by omega), if_neg (by omega), if_neg (by omega)]
 exact main
theorem uw {v : ac} {t : af} (hp : bi v = true) (hkv : v.kind = 2 ∨ v.kind = 3) (hV : V t) : cT v t = some (Nm.numV t.kind (Js v.n v.scale.toNat t.scale.toNat) t.scale) := by
 have hl := lz hp
 have hn := hl.num (by omega)
 have hsv : 0 ≤ v.scale ∧ v.scale ≤ 12 := by
  by_cases h3 : v.kind = 3
  ·exact hl.sc h3
  ·rw [bW hp h3]; decide
 have hst := DF hV
 have main := H7 (v := v) (u := t) (sv := v.scale.toNat) (su := t.scale.toNat) (by omega) (by omega) (by omega) (by omega) (by omega)
 rw [show ((t.scale.toNat : Nat) : Int) = t.scale by omega] at main
 exact main
theorem AH {t : af} (hV : V t) (hk : t.kind = 3) (s : List UInt8) (hs : s.length ≤ 256) (hn : s ≠ qJ) : ∀ (m i : Nat) (f : Nat) (f2 : Nat) (k : Nat), i + m = 13 → m < f → m < f2 →
  ∃ w, bk (bl (k + 1)) (bs s) t f 0 0 0 ByteArray.empty [] (i : Int) = some w ∧ dJ ⟨4, 0, 0, bs s, []⟩ t f2 (i : Int) = some w ∧ Lw w t := by
 intro m
 induction m with
 | zero =>
  intro i f f2 k hi hf hf2
  obtain ⟨f, rfl⟩ : ∃ g, f = g + 1 := ⟨f - 1, by omega⟩
  obtain ⟨f2, rfl⟩ : ∃ g, f2 = g + 1 := ⟨f2 - 1, by omega⟩
  refine ⟨kH, ?_, ?_, .inl rfl⟩
  ·rw [bk, aB, if_pos (by decide)]
   unfold di fu
   rw [aB, if_neg (by simp; omega), bl, aB, if_pos (by decide)]; rfl
  ·rw [dJ, aB, if_neg (by simp; omega)]; rfl
 | succ m ih =>
  intro i f f2 k hi hf hf2
  obtain ⟨f, rfl⟩ : ∃ g, f = g + 1 := ⟨f - 1, by omega⟩
  obtain ⟨f2, rfl⟩ : ∃ g, f2 = g + 1 := ⟨f2 - 1, by omega⟩
  obtain ⟨p, p1, p2, p3⟩ := vH 3 i s (by omega)
  have hnul : ((bs s).toList == (ByteArray.mk #[110, 117, 108, 108]).toList) = false := by
   rw [show (ByteArray.mk #[110, 117, 108, 108]) = bs qJ from rfl, mZ]; simpa using hn
  have hw : IntKind.i64.wrap ((i : Int) + 1) = ((i + 1 : Nat) : Int) := by rw [fJ (by omega) (by omega)]; omega
  have hpar : dK 3 (i : Int) (bs s) = some p.1 := by
   unfold dK
   rw [hnul, aB, if_neg (by simp), p1]; rfl
  rw [bk, dJ]
  unfold di
  simp only [aB]
  rw [if_pos (by decide), if_pos (by simp; omega), hpar, ae, hw, if_pos (by simp; omega), p2, ae]
  rcases p3 with ⟨h1, h2⟩ | ⟨h1, h2, h3, h4⟩
  ·rw [h1, if_neg (by simpa using h2)]
   exact ih (i + 1) f f2 k (by omega) (by omega) (by omega)
  ·obtain ⟨k1, k2, k3, k4⟩ := wi hn h2 h3 h4
   rw [if_pos (by simpa using h1), uw k3 (.inr k1) hV, ae]
   obtain ⟨f, rfl⟩ : ∃ g, f = g + 1 := ⟨f - 1, by omega⟩
   rw [bk]
   unfold di fu
   simp only [aB]
   rw [if_neg (by simp; omega), if_neg (by simp)]
   have e : ac.mk p.1.kind p.1.n p.1.scale p.1.s p.1.items = p.1 := mR rfl rfl rfl rfl rfl
   rw [e, vK k k3 (.inr k1) hV (.inl hk)]
   exact ⟨_, rfl, rfl, xd rfl rfl⟩
theorem I0 {v : ac} (h4 : v.kind = 4) (hp : bi v = true) : v = ⟨4, 0, 0, v.s, []⟩ :=
 (mR h4 ((lz hp).nn (.inr (.inl h4))) (bW hp (by omega)) rfl (bq hp (by omega) (by omega))).symm
end Go.Proofs.YtpmoopnkoknbeaaGreatDoor
namespace Go.Proofs.YtpmoopnkoknbeaaGreatDoor
open Go Go.PX Go.SX Go.SX.Cal
theorem Ei (k : Int) : gU k = some (decide (k = 2 ∨ k = 3)) := by
 unfold gU jH
 rw [aB]
 by_cases h : k = 2
 ·simp [h]
 ·rw [if_neg (by simpa using h)]; congr 1; rw [Bool.eq_iff_iff]; simp [h]
theorem HP (v : ac) (t : af) (hv : bh v ≤ 10000000) :
  nz v t = if (v.kind = 2 ∨ v.kind = 3) ∧ (t.kind = 2 ∨ t.kind = 3) then cT v t else if v.kind = t.kind then some v
   else if t.kind = 4 then some ⟨4, 0, 0, bs (TX v), []⟩
   else if v.kind = 4 then (if v.s.data.toList = qJ then some kH
    else if t.kind = 3 then (ay (cM ⟨2, 0, []⟩ v.s) fun r5 => if r5.2 = 0 then cT r5.1 t else dJ v t ba 0)
    else (ay (cM t v.s) fun r9 => some r9.1))
   else if cK ⟨t.kind, v.n, 0, ByteArray.empty, []⟩ = true then some ⟨t.kind, v.n, 0, ByteArray.empty, []⟩ else some kH := by
 have hsz : bh ⟨t.kind, v.n, 0, ByteArray.empty, []⟩ < 1000000000 := by rw [bz, bD]; decide
 have hnl : (v.s.toList == (ByteArray.mk #[110, 117, 108, 108]).toList) = decide (v.s.data.toList = qJ) := by
  rw [show (ByteArray.mk #[110, 117, 108, 108]) = bs qJ from rfl, ← mZ, vg]
 have j3t : iI v t true = ay (cM ⟨2, 0, []⟩ v.s) fun r5 => if r5.2 = 0 then cT r5.1 t else dJ v t ba 0 := by
  unfold iI
  rw [aB, if_pos rfl]
  congr 1
  funext r5
  rw [aB, wP]
  simp only [beq_iff_eq]
 have j3f : iI v t false = if v.kind = 4 then (ay (cM t v.s) fun r9 => some r9.1) else if cK ⟨t.kind, v.n, 0, ByteArray.empty, []⟩ = true then some ⟨t.kind, v.n, 0, ByteArray.empty, []⟩ else some kH := by
  unfold iI
  rw [aB, if_neg (by simp), aB]
  simp only [beq_iff_eq]
  by_cases h4 : v.kind = 4
  ·rw [if_pos h4, if_pos h4]
  ·rw [if_neg h4, if_neg h4, uz _ hsz, ae, aB]
   cases cK ⟨t.kind, v.n, 0, ByteArray.empty, []⟩ <;> simp
 have j2f : iE v t false = if v.kind = 4 then (if t.kind = 3 then (ay (cM ⟨2, 0, []⟩ v.s) fun r5 => if r5.2 = 0 then cT r5.1 t else dJ v t ba 0) else (ay (cM t v.s) fun r9 => some r9.1)) else if cK ⟨t.kind, v.n, 0, ByteArray.empty, []⟩ = true then some ⟨t.kind, v.n, 0, ByteArray.empty, []⟩ else some kH := by
  unfold iE
  rw [aB, if_neg (by simp), aB]
  simp only [beq_iff_eq]
  by_cases h4 : v.kind = 4
  ·rw [if_pos h4, if_pos h4]
   by_cases h3 : t.kind = 3
   ·rw [show (t.kind == 3) = true by simpa using h3, j3t, if_pos h3]
   ·rw [show (t.kind == 3) = false by simpa using h3, j3f, if_pos h4, if_neg h3]
  ·rw [if_neg h4, if_neg h4, j3f, if_neg h4]
 have j2t : iE v t true = some kH := by
  unfold iE
  rw [aB, if_pos rfl]
 have j1f : iw v t false = if v.kind = t.kind then some v
   else if t.kind = 4 then some ⟨4, 0, 0, bs (TX v), []⟩
   else if v.kind = 4 then (if v.s.data.toList = qJ then some kH
    else if t.kind = 3 then (ay (cM ⟨2, 0, []⟩ v.s) fun r5 => if r5.2 = 0 then cT r5.1 t else dJ v t ba 0)
    else (ay (cM t v.s) fun r9 => some r9.1))
   else if cK ⟨t.kind, v.n, 0, ByteArray.empty, []⟩ = true then some ⟨t.kind, v.n, 0, ByteArray.empty, []⟩ else some kH := by
  unfold iw
  rw [aB, if_neg (by simp), hnl, xU v hv]
  simp only [aB, beq_iff_eq, ae]
  by_cases he : v.kind = t.kind
  ·rw [if_pos he, if_pos he]
  ·rw [if_neg he, if_neg he]
   by_cases h4t : t.kind = 4
   ·rw [if_pos h4t, if_pos h4t]
   ·rw [if_neg h4t, if_neg h4t]
    by_cases h4 : v.kind = 4
    ·rw [if_pos h4, if_pos h4]
     by_cases hn : v.s.data.toList = qJ
     ·rw [decide_eq_true hn, j2t, if_pos hn]
     ·rw [decide_eq_false hn, j2f, if_pos h4, if_neg hn]
    ·rw [if_neg h4, if_neg h4, j2f, if_neg h4]
 have j1t : iw v t true = cT v t := by
  unfold iw
  rw [aB, if_pos rfl, wP]
 unfold nz
 rw [Ei, ae, Ei, ae, aB]
 by_cases h1 : v.kind = 2 ∨ v.kind = 3
 ·rw [if_pos (by simpa using h1)]
  by_cases h2 : t.kind = 2 ∨ t.kind = 3
  ·rw [decide_eq_true h2, j1t, if_pos ⟨h1, h2⟩]
  ·rw [decide_eq_false h2, j1f, if_neg (show ¬ ((v.kind = 2 ∨ v.kind = 3) ∧ (t.kind = 2 ∨ t.kind = 3)) from fun h => h2 h.2)]
 ·rw [if_neg (by simpa using h1), j1f, if_neg (show ¬ ((v.kind = 2 ∨ v.kind = 3) ∧ (t.kind = 2 ∨ t.kind = 3)) from fun h => h1 h.1)]
theorem nS {l : List UInt8} (h1 : l.length ≤ 256) (h2 : l.all (fun b => decide (32 ≤ b.toNat ∧ b.toNat < 127)) = true) : bi ⟨4, 0, 0, bs l, []⟩ = true := by
 have hb : ∀ i, iB (bs l) i < 127 ∧ (i < l.length → 32 ≤ iB (bs l) i) := by
  intro i
  unfold iB
  by_cases hi : i < l.length
  ·have := List.all_eq_true.1 h2 _ (List.getElem_mem hi)
   simp only [decide_eq_true_eq] at this
   rw [show (bs l).data.toList.getD i 0 = l[i] from zr l i hi]
   exact ⟨this.2, fun _ => this.1⟩
  ·rw [show (bs l).data.toList.getD i 0 = 0 by show l.getD i 0 = 0; simp [List.getD, hi]]
   exact ⟨by decide, fun h => absurd h hi⟩
 have hc : first (zq (bs l)) 0 (bs l).size = none := by
  rw [kC]
  intro j _ hj
  rw [aD] at hj
  have := hb j
  unfold zq
  simp only [Bool.or_eq_false_iff, decide_eq_false_iff_not, beq_eq_false_iff_ne]
  exact ⟨by have := this.2 hj; omega, by omega⟩
 have hv : Lib.validD (bs l).data.toList = true := by
  have h := Lib.validD_ascii l.length l (fun b hb => by
   have := List.all_eq_true.1 h2 b (List.mem_of_mem_take hb)
   simp only [decide_eq_true_eq] at this
   omega)
  rw [List.drop_length] at h
  exact h
 unfold bi oE
 simp only
 rw [if_neg (by decide), if_neg (by decide), if_neg (by decide), if_neg (by decide), if_pos trivial]
 have hv2 : Lib.validD l = true := hv
 rw [hc, aD, hv2]
 simp [h1]
theorem Av {l : List UInt8} (h : l.all oQ = true) : l.all (fun b => decide (32 ≤ b.toNat ∧ b.toNat < 127)) = true := by
 rw [List.all_eq_true] at h ⊢
 intro x hx
 have := (ry x).1 (h x hx)
 simp only [decide_eq_true_eq]
 omega
theorem JB {l : List UInt8} (n : Int) (h : l.all (fun b => decide (32 ≤ b.toNat ∧ b.toNat < 127)) = true) : (sg n l).all (fun b => decide (32 ≤ b.toNat ∧ b.toNat < 127)) = true := by
 unfold sg
 split
 ·rw [List.all_cons, h]; decide
 ·exact h
theorem FG {d : Nat} {v : ac} (hS : rt (d + 1) v) (h0 : v.kind ≠ 0) (h4 : v.kind ≠ 4) (h6 : v.kind ≠ 6) (h7 : v.kind ≠ 7) : bi ⟨4, 0, 0, bs (T v), []⟩ = true := by
 obtain ⟨hp, _⟩ := hS.succ
 have hl := lz hp
 have hk := hl.kin
 rw [mQ, if_neg h0]
 by_cases h1 : v.kind = 1
 ·rw [if_pos h1]
  split
  ·exact nS (by decide) (by decide)
  ·exact nS (by decide) (by decide)
 rw [if_neg h1]
 by_cases h2 : v.kind = 2
 ·have hn := hl.num (.inl h2)
  have := wx v.n.natAbs (by omega)
  have := xl v.n (Lib.decDigits v.n.natAbs)
  rw [if_pos h2]
  exact nS (by omega) (JB _ (Av (jj _).1))
 rw [if_neg h2]
 by_cases h3 : v.kind = 3
 ·have hn := hl.num (.inr h3)
  have hs := hl.sc h3
  have := D9 hn.1 hn.2 hs.1 hs.2
  obtain ⟨p, q, e1, e2, e3, _⟩ := rn (n := v.n) hs.1
  rw [if_pos h3]
  refine nS (by omega) ?_
  rw [e1]
  refine JB _ ?_
  rw [List.all_append, List.all_cons, Av e2, Av e3]
  decide
 rw [if_neg h3, if_neg h4]
 have h5 : v.kind = 5 := by omega
 have hm := hl.mom h5
 have := zA hm.1 hm.2
 rw [if_pos h5]
 refine nS (by omega) ?_
 have hx : ∀ k u, (kz k u).all (fun b => decide (32 ≤ b.toNat ∧ b.toNat < 127)) = true := fun k u => Av (nP k u).1
 unfold uq AS
 simp only [List.all_append, List.all_cons, List.all_nil, hx]
 decide
end Go.Proofs.YtpmoopnkoknbeaaGreatDoor
namespace Go.Proofs.YtpmoopnkoknbeaaGreatDoor
open Go Go.PX Go.SX Go.SX.Cal
theorem xp {v : ac} (h : v.items = []) : cK v = bi v := by
 unfold cK aW
 have hc : ¬ 256 < lm v 0 := by unfold lm; split <;> omega
 cases hp : bi v
 ·rw [if_pos (.inr rfl)]
 ·rw [if_neg (by simp [hc]), h]; rfl
theorem FP {t : af} (k : Nat) : ∀ (m i f : Nat), i + m = 13 → m < f →
  bk (bl (k + 1)) (bs qJ) t f 0 0 0 ByteArray.empty [] (i : Int) = some kH := by
 intro m
 induction m with
 | zero =>
  intro i f hi hf
  obtain ⟨f, rfl⟩ : ∃ g, f = g + 1 := ⟨f - 1, by omega⟩
  rw [bk, aB, if_pos (by decide)]
  unfold di fu
  rw [aB, if_neg (by simp; omega), bl, aB, if_pos (by decide)]; rfl
 | succ m ih =>
  intro i f hi hf
  obtain ⟨f, rfl⟩ : ∃ g, f = g + 1 := ⟨f - 1, by omega⟩
  have hw : IntKind.i64.wrap ((i : Int) + 1) = ((i + 1 : Nat) : Int) := by rw [fJ (by omega) (by omega)]; omega
  have hpar : dK 3 (i : Int) (bs qJ) = some kH := by
   unfold dK
   rw [show (ByteArray.mk #[110, 117, 108, 108]) = bs qJ from rfl, mZ, aB, if_pos (by simp)]
  rw [bk]
  unfold di
  simp only [aB]
  rw [if_pos (by decide), if_pos (by simp; omega), hpar, ae, hw]
  exact ih (i + 1) f (by omega) (by omega)
theorem xX (k s : Int) : dK k s (bs qJ) = some kH := by
 unfold dK
 rw [show (ByteArray.mk #[110, 117, 108, 108]) = bs qJ from rfl, mZ, aB, if_pos (by simp)]
theorem vX {k s : Int} {u : List UInt8} (hn : u ≠ qJ) {p : ac × Int} (h : gb ⟨k, s, []⟩ (bs u) = some p) : dK k s (bs u) = some p.1 := by
 unfold dK
 rw [show (ByteArray.mk #[110, 117, 108, 108]) = bs qJ from rfl, mZ, aB, if_neg (by simpa using hn), h]; rfl
theorem C0 {v : ac} {t : af} (hp : bi v = true) (hV : V t) (h1 : v.kind ≠ 3) (h2 : t.kind ≠ 3) : v.scale = 0 ∧ t.scale = 0 := ⟨bW hp h1, hV.scale h2⟩
theorem EN {d : Nat} {v : ac} {t : af} (hS : rt (d + 1) v) (hV : V t) (h0 : v.kind ≠ 0) (h6 : v.kind ≠ 6) (h7 : v.kind ≠ 7) (t6 : t.kind ≠ 6) (t7 : t.kind ≠ 7) (hc : cn v.kind t.kind = true) (hv : bh v ≤ 10000000) (hd : d ≤ 4) (k : Nat) :
  ∃ w, bl (k + 3) v t = some w ∧ nz v t = some w ∧ Lw w t := by
 obtain ⟨hp, _⟩ := id hS.succ
 have hl := lz hp
 have hk := hl.kin
 have hkt := yC hV
 have hit := bq hp h6 h7
 have hso : cK v = true := by rw [xp hit, hp]
 rw [HP v t hv]
 by_cases hnn : (v.kind = 2 ∨ v.kind = 3) ∧ (t.kind = 2 ∨ t.kind = 3)
 ·rw [if_pos hnn, uw hp hnn.1 hV]
  by_cases h22 : v.kind = 2 ∧ t.kind = 2
  ·obtain ⟨s1, s2⟩ := C0 hp hV (by omega) (by omega)
   rw [pq (k + 2) h0 h6 h7, if_pos ⟨by omega, by omega⟩]
   refine ⟨v, rfl, ?_, .inr ⟨by omega, by omega, hp⟩⟩
   rw [s1, s2, A3, show t.kind = v.kind by omega, show (0 : Int) = v.scale by omega, Ga hp (by omega) h6 h7]
  ·rw [vK (k + 2) hp hnn.1 hV (by omega)]
   exact ⟨_, rfl, rfl, xd rfl rfl⟩
 rw [if_neg hnn, pq (k + 2) h0 h6 h7]
 by_cases he : v.kind = t.kind
 ·have h3 : t.kind ≠ 3 := by intro h; exact hnn ⟨by omega, by omega⟩
  obtain ⟨s1, s2⟩ := C0 hp hV (by omega) h3
  rw [if_pos ⟨he, h3⟩, if_pos he]
  exact ⟨v, rfl, rfl, .inr ⟨he, by omega, hp⟩⟩
 rw [if_neg (show ¬ (v.kind = t.kind ∧ t.kind ≠ 3) from fun h => he h.1), if_neg he]
 by_cases h4t : t.kind = 4
 ·rw [if_pos h4t, if_pos h4t, zW (d + 1) ba v hS (by rw [aF]; omega) hv, ae, rc hso]
  exact ⟨_, rfl, rfl, .inr ⟨h4t.symm, (hV.scale (by omega)).symm, FG hS h0 (by omega) h6 h7⟩⟩
 rw [if_neg h4t, if_neg h4t]
 by_cases h4 : v.kind = 4
 ·rw [if_pos h4, if_pos h4]
  have hsz := hl.txt h4
  have hsl : v.s.data.toList.length = v.s.size := by simp
  have hve := I0 h4 hp
  generalize hs : v.s.data.toList = s at *
  have hbs : v.s = bs s := by rw [← hs, vg]
  rw [hbs, cP, aB]
  by_cases h3 : t.kind = 3
  ·rw [if_neg (by simpa using h3)]
   by_cases hn : s = qJ
   ·rw [if_pos hn, hn, xX, ae]
    refine ⟨kH, ?_, rfl, .inl rfl⟩
    exact FP (t := t) k 13 0 ba (by omega) (by rw [aF]; omega)
   ·rw [if_neg hn, if_pos h3]
    obtain ⟨p, p1, p2, p3⟩ := vH 2 0 s (by omega)
    rw [vX hn p1, ae, p2, ae]
    rcases p3 with ⟨g1, g2⟩ | ⟨g1, g2, g3, g4⟩
    ·rw [if_neg g2, g1]
     have := AH hV h3 s (by omega) hn 13 0 ba ba k (by omega) (by rw [aF]; omega) (by rw [aF]; omega)
     rw [hve, hbs]
     exact this
    ·obtain ⟨k1, k2, k3, k4⟩ := wi hn g2 g3 g4
     rw [if_pos g1, uw k3 (.inl k1) hV, aF, bk]
     unfold di fu
     simp only [aB]
     rw [if_neg (by simp; omega), if_neg (by simp)]
     have e : ac.mk p.1.kind p.1.n p.1.scale p.1.s p.1.items = p.1 := mR rfl rfl rfl rfl rfl
     rw [e, vK k k3 (.inl k1) hV (.inl h3), ae]
     exact ⟨_, rfl, rfl, xd rfl rfl⟩
  ·rw [if_pos (by simpa using h3), wP, if_neg h3]
   by_cases hn : s = qJ
   ·rw [if_pos hn, hn, xX]
    exact ⟨kH, rfl, rfl, .inl rfl⟩
   ·rw [if_neg hn]
    obtain ⟨p, p1, p2, p3⟩ := vH t.kind 0 s (by omega)
    rw [vX hn p1]
    rw [JE hV t6 t7 (hV.scale h3)] at p2 p3
    rw [p2, ae]
    refine ⟨p.1, rfl, rfl, ?_⟩
    rcases p3 with ⟨g1, g2⟩ | ⟨g1, g2, g3, g4⟩
    ·exact .inl g1
    ·exact LK (by omega) (by rw [← JE hV t6 t7 (hV.scale h3)]; exact xi _ _) g2
 rw [if_neg h4, if_neg h4]
 have hcomb : (v.kind = 1 ∧ t.kind = 2) ∨ (v.kind = 2 ∧ t.kind = 1) ∨ (v.kind = 2 ∧ t.kind = 5) ∨ (v.kind = 5 ∧ t.kind = 2) := by
  unfold cn at hc
  by_cases h1 : v.kind = 1
  ·rw [if_pos h1] at hc; simp at hc; omega
  rw [if_neg h1] at hc
  by_cases h2 : v.kind = 2
  ·omega
  rw [if_neg h2] at hc
  by_cases h3 : v.kind = 3
  ·rw [if_pos h3] at hc; simp at hc; omega
  rw [if_neg h3, if_neg h4] at hc
  by_cases h5 : v.kind = 5
  ·rw [if_pos h5] at hc; simp at hc; omega
  omega
 obtain ⟨s1, s2⟩ := C0 hp hV (by omega) (by omega)
 have hn18 : v.n.natAbs < 1000000000000000000 := by
  rcases hcomb with h | h | h | h
  ·have := hl.bool h.1; omega
  ·have := hl.num (.inl h.1); omega
  ·have := hl.num (.inl h.1); omega
  ·have := hl.mom h.1; omega
 have hJ : Cb v t = some (Nm.numV t.kind v.n 0) := by
  have main := A2 (n := v.n) (sv := 0) (su := 0) t.kind hn18 (by omega) (by omega)
  rw [A3] at main
  unfold Cb
  rw [s1, s2]
  exact main
 have hR : (if cK ⟨t.kind, v.n, 0, ByteArray.empty, []⟩ = true then some ⟨t.kind, v.n, 0, ByteArray.empty, []⟩ else some kH) = some (Nm.numV t.kind v.n 0) := by
  rw [Nm.numV_eq, xp rfl]
  split <;> rfl
 rw [hR, hJ]
 by_cases h1 : t.kind = 1
 ·rw [if_pos h1]
  by_cases hb : 0 ≤ v.n ∧ v.n ≤ 1
  ·rw [if_pos hb]; exact ⟨_, rfl, rfl, xd rfl s2.symm⟩
  ·rw [if_neg hb]
   have hz : Nm.numV t.kind v.n 0 = kH := by
    have hpn : ¬ bi ⟨t.kind, v.n, 0, ByteArray.empty, []⟩ = true := by
     intro hpl
     have := (lz hpl).bool h1
     simp only at this
     omega
    rw [Nm.numV_eq, if_neg hpn]
    rfl
   rw [hz]
   exact ⟨kH, rfl, rfl, .inl rfl⟩
 ·rw [if_neg h1]; exact ⟨_, rfl, rfl, xd rfl s2.symm⟩
end Go.Proofs.YtpmoopnkoknbeaaGreatDoor
namespace Go.Proofs.YtpmoopnkoknbeaaGreatDoor
open Go Go.PX Go.SX Go.SX.Cal
def CV : Nat → ac → af → Prop
 | 0, _, _ => False
 | d + 1, v, t => v.kind = 0 ∨ (v.kind ≠ 6 ∧ v.kind ≠ 7 ∧ t.kind ≠ 6 ∧ t.kind ≠ 7 ∧ cn v.kind t.kind = true) ∨
  ((v.kind = 6 ∨ v.kind = 7) ∧ v.kind = t.kind ∧ (v.kind = 7 → v.items.length = t.fields.length) ∧ If t v ∧ ∀ i, i < v.items.length → CV d (iv v i) (ft t i))
theorem Ee {a b : Int} (ha : 1 ≤ a ∧ a ≤ 5) (h : cn a b = true) : 1 ≤ b ∧ b ≤ 5 := by
 unfold cn at h
 by_cases h1 : a = 1
 ·rw [if_pos h1] at h; simp at h; omega
 rw [if_neg h1] at h
 by_cases h2 : a = 2
 ·rw [if_pos h2] at h; simp at h; omega
 rw [if_neg h2] at h
 by_cases h3 : a = 3
 ·rw [if_pos h3] at h; simp at h; omega
 rw [if_neg h3] at h
 by_cases h4 : a = 4
 ·rw [if_pos h4] at h; simp at h; omega
 rw [if_neg h4] at h
 by_cases h5 : a = 5
 ·rw [if_pos h5] at h; simp at h; omega
 omega
theorem Bc {a b : Int} (ha : a = 6 ∨ a = 7) : cn a b = decide (a = b) := by
 unfold cn
 rw [if_neg (by omega), if_neg (by omega), if_neg (by omega), if_neg (by omega), if_neg (by omega), Bool.eq_iff_iff]
 simp
theorem yP (k : Nat) (a b : af) (ha : 1 ≤ a.kind ∧ a.kind ≤ 5) (hb : 1 ≤ b.kind ∧ b.kind ≤ 5) : eL (k + 1) a b = some (cn a.kind b.kind) := by
 rw [eL]
 unfold gE io kM mK oo mC kJ cn
 rw [Ei, Ei, oY, oY]
 simp only [ae, aB, beq_iff_eq]
 have hak : a.kind = 1 ∨ a.kind = 2 ∨ a.kind = 3 ∨ a.kind = 4 ∨ a.kind = 5 := by omega
 have hbk : b.kind = 1 ∨ b.kind = 2 ∨ b.kind = 3 ∨ b.kind = 4 ∨ b.kind = 5 := by omega
 rcases hak with h | h | h | h | h <;> rcases hbk with h' | h' | h' | h' | h' <;> simp [h, h']
theorem FW {t : af} {v : ac} (hV : V t) (hl : v.items.length ≤ 1000000000) (hfit : If t v) (hkk : t.kind = 6 ∨ t.kind = 7) (q1 q2 : ac → af → Option Bool) (P : ac → af → Prop)
  (hq : ∀ i, i < v.items.length → ∃ b, q1 (iv v i) (ft t i) = some b ∧ q2 (iv v i) (ft t i) = some b ∧ (b = true → P (iv v i) (ft t i))) :
  ∀ (m f f2 i : Nat), i + m = v.items.length → m < f → m < f2 → ∃ b, cF q1 v t f (i : Int) = some b ∧ cX q2 v t f2 (i : Int) = some b ∧ (b = true → ∀ j, i ≤ j → j < v.items.length → P (iv v j) (ft t j)) := by
 intro m
 induction m with
 | zero =>
  intro f f2 i hi hf hf2
  obtain ⟨f, rfl⟩ : ∃ g, f = g + 1 := ⟨f - 1, by omega⟩
  obtain ⟨f2, rfl⟩ : ∃ g, f2 = g + 1 := ⟨f2 - 1, by omega⟩
  rw [cF, cX, aB, aB, if_neg (by simp; omega), if_neg (by simp; omega)]
  exact ⟨true, rfl, rfl, fun _ j h1 h2 => by omega⟩
 | succ m ih =>
  intro f f2 i hi hf hf2
  obtain ⟨f, rfl⟩ : ∃ g, f = g + 1 := ⟨f - 1, by omega⟩
  obtain ⟨f2, rfl⟩ : ∃ g, f2 = g + 1 := ⟨f2 - 1, by omega⟩
  have hlt : i < v.items.length := by omega
  obtain ⟨fd, f1, e2, e3, _⟩ := qZ (hfit i hlt)
  have hfd : dq t ((i : Nat) : Int) = some fd := by
   unfold dq fe
   rw [aB]
   by_cases h6 : t.kind = 6
   ·rw [if_pos h6] at e2
    rw [if_pos (by simpa using h6), show at? t.fields (0 : Int) = some fd from gr (i := 0) e2]; rfl
   ·rw [if_neg h6] at e2
    rw [if_neg (by simpa using h6), gr e2]; rfl
  have hj2 : ∀ rec1, (ax (t.kind == (6 : Int)) (gh rec1 q2 v t (i : Int) (0 : Int)) (gh rec1 q2 v t (i : Int) (i : Int))) = ay (q2 (iv v i) (ft t i)) fun r5 => ax (!r5) (some false) (rec1 (IntKind.i64.wrap ((i : Int) + (1 : Int)))) := by
   intro rec1
   unfold gh
   rw [aB]
   by_cases h6 : t.kind = 6
   ·rw [if_pos h6] at e2
    rw [if_pos (by simpa using h6), cf hlt, ae, show at? t.fields (0 : Int) = some fd from gr (i := 0) e2, ae, e3, m5 hlt]
   ·rw [if_neg h6] at e2
    rw [if_neg (by simpa using h6), cf hlt, ae, gr e2, ae, e3, m5 hlt]
  obtain ⟨b, b1, b2, b3⟩ := hq i hlt
  rw [cF, cX, hj2, aB, aB, if_pos (by simp; omega), if_pos (by simp; omega), cf hlt, ae, hfd, ae, e3, m5 hlt, b1, b2, ae, ae, aB, aB, fJ (by omega) (by omega)]
  cases b with
  | false => exact ⟨false, rfl, rfl, fun h => by cases h⟩
  | true =>
   rw [if_neg (by simp), if_neg (by simp)]
   obtain ⟨c, c1, c2, c3⟩ := ih f f2 (i + 1) (by omega) (by omega) (by omega)
   refine ⟨c, c1, c2, fun hc j h1 h2 => ?_⟩
   by_cases hj : j = i
   ·subst hj; exact b3 rfl
   ·exact c3 hc j (by omega) h2
theorem BW : ∀ (d : Nat) (v : ac) (t : af), rt d v → V t → bh v ≤ 10000000 → ∀ (k k' : Nat), d ≤ k → d ≤ k' → ∃ b, bw k v t = some b ∧ bJ k' v t = some b ∧ (b = true → CV d v t) := by
 intro d
 induction d with
 | zero => intro v t h; exact h.zero.elim
 | succ d ih =>
  intro v t h hV hv k k' hk hk'
  obtain ⟨k, rfl⟩ : ∃ g, k = g + 1 := ⟨k - 1, by omega⟩
  obtain ⟨k', rfl⟩ : ∃ g, k' = g + 1 := ⟨k' - 1, by omega⟩
  obtain ⟨hp, hi⟩ := h.succ
  have hl := lz hp
  have hkin := hl.kin
  have hkt := yC hV
  have hs := eJ v
  have hn := eN v.items
  rw [bw, bJ, JV, oY, oY]
  simp only [aB, beq_iff_eq, ae]
  by_cases h0 : v.kind = 0
  ·rw [if_pos h0, if_pos h0]
   exact ⟨true, rfl, rfl, fun _ => .inl h0⟩
  rw [if_neg h0, if_neg h0]
  by_cases hlf : v.kind ≠ 6 ∧ v.kind ≠ 7
  ·
   have hit := bq hp hlf.1 hlf.2
   have hl1 : cF (bw k) v t ba 0 = some true := by
    rw [aF, cF, hit]; rfl
   have hj1f : bS (bw k) v t false = some true := by
    unfold bS; rw [aB, if_neg (by simp), hl1]
   have hj1t : bS (bw k) v t true = some false := by
    unfold bS; rw [aB, if_pos rfl]
   rw [if_neg hlf.2, decide_eq_true hlf, hj1t, hj1f]
   simp only [if_true]
   by_cases htf : t.kind ≠ 6 ∧ t.kind ≠ 7
   ·rw [decide_eq_true htf, aF, yP _ _ _ (by show 1 ≤ v.kind ∧ v.kind ≤ 5; omega) (by omega)]
    show ∃ b, (if (!cn v.kind t.kind) = true then some false else some true) = some b ∧ some (cn v.kind t.kind) = some b ∧ _
    cases hc : cn v.kind t.kind with
    | false => exact ⟨false, rfl, rfl, fun h => by cases h⟩
    | true => exact ⟨true, rfl, rfl, fun _ => .inr (.inl ⟨hlf.1, hlf.2, htf.1, htf.2, hc⟩)⟩
   ·have hcf : cn v.kind t.kind = false := by
     cases hc : cn v.kind t.kind with
     | false => rfl
     | true => have := Ee (by omega) hc; omega
    rw [decide_eq_false htf, hcf]
    exact ⟨false, rfl, rfl, fun h => by cases h⟩
  ·have h67 : v.kind = 6 ∨ v.kind = 7 := by omega
   rw [Bc h67, decide_eq_false hlf]
   have hj1t : bS (bw k) v t true = some false := by
    unfold bS; rw [aB, if_pos rfl]
   have hr1t : dU (bJ k') v t true = some false := by
    unfold dU; rw [aB, if_pos rfl]
   by_cases he : v.kind = t.kind
   ·have htf : ¬ (t.kind ≠ 6 ∧ t.kind ≠ 7) := by omega
    rw [decide_eq_true he, decide_eq_false htf, show (v.kind != t.kind) = false from by rw [he]; exact bne_self_eq_false _]
    simp only [Bool.not_true, Bool.false_eq_true, if_false, beq_self_eq_true]
    have main : (v.kind = 7 → v.items.length = t.fields.length) → ∃ b, bS (bw k) v t false = some b ∧ dU (bJ k') v t false = some b ∧ (b = true → CV (d + 1) v t) := by
     intro h7l
     have hfit : If t v := by
      intro i hi'
      by_cases h6 : t.kind = 6
      ·rw [if_pos h6, hV.list h6]; omega
      ·rw [if_neg h6, ← h7l (by omega)]; exact hi'
     unfold bS dU
     rw [aB, aB, if_neg (by simp), if_neg (by simp)]
     obtain ⟨b, b1, b2, b3⟩ := FW hV (by omega) hfit (by omega) (bw k) (bJ k') (CV d) (fun i hlt => by
      obtain ⟨fd, f1, _, f3, _⟩ := qZ (hfit i hlt)
      have hm := mY hlt
      have := eQ hm
      exact ih (iv v i) (ft t i) (hi _ hm) (by rw [← f3]; exact hV.fs fd f1) (by omega) k k' (by omega) (by omega)) v.items.length ba ba 0 (by omega) (by rw [aF]; omega) (by rw [aF]; omega)
     exact ⟨b, b1, b2, fun hb => .inr (.inr ⟨h67, he, h7l, hfit, fun i hi' => b3 hb i (Nat.zero_le _) hi'⟩)⟩
    by_cases h7 : v.kind = 7
    ·rw [if_pos h7, if_pos (show t.kind = 7 by omega)]
     by_cases hle : v.items.length = t.fields.length
     ·rw [show ((v.items.length : Int) != (t.fields.length : Int)) = false by simp [hle]]
      exact main (fun _ => hle)
     ·rw [show ((v.items.length : Int) != (t.fields.length : Int)) = true by simp; omega, hj1t, hr1t]
      exact ⟨false, rfl, rfl, fun h => by cases h⟩
    ·rw [if_neg h7, if_neg (show ¬ t.kind = 7 by omega)]
     exact main (fun h => absurd h h7)
   ·rw [decide_eq_false he, hj1t]
    by_cases htf : t.kind ≠ 6 ∧ t.kind ≠ 7
    ·rw [decide_eq_true htf]
     exact ⟨false, rfl, rfl, fun h => by cases h⟩
    ·rw [decide_eq_false htf, show (v.kind != t.kind) = true by simp [he], hr1t]
     exact ⟨false, rfl, rfl, fun h => by cases h⟩
end Go.Proofs.YtpmoopnkoknbeaaGreatDoor
namespace Go.Proofs.YtpmoopnkoknbeaaGreatDoor
open Go Go.PX Go.SX Go.SX.Cal
def Sz (d : Nat) (v w : ac) : Prop := ∀ z z' : Int, z ≤ z' → (aW d v z').1 = true → (aW d w z).1 = true ∧ (aW d w z).2 ≤ (aW d v z').2
theorem En (d : Nat) : ∀ (l m : List ac), m.length = l.length → (∀ (j : Nat) v w, l[j]? = some v → m[j]? = some w → Sz d v w) → ∀ z z' : Int, z ≤ z' → (cZ (aW d) l z').1 = true → (cZ (aW d) m z).1 = true ∧ (cZ (aW d) m z).2 ≤ (cZ (aW d) l z').2
 | [], [], _, _, z, z', hz, _ => ⟨rfl, hz⟩
 | [], w :: m, h, _, _, _, _, _ => by simp at h
 | v :: l, [], h, _, _, _, _, _ => by simp at h
 | v :: l, w :: m, h, hS, z, z', hz, hs => by
  simp only [cZ] at hs ⊢
  by_cases hv : (aW d v z').1 = true
  ·rw [if_pos hv] at hs ⊢
   obtain ⟨a, b⟩ := hS 0 v w rfl rfl z z' hz hv
   rw [if_pos a]
   exact En d l m (by simpa using h) (fun j v w h1 h2 => hS (j + 1) v w h1 h2) _ _ b hs
  ·rw [if_neg hv] at hs; cases hs
theorem Bt : ∀ (d e : Nat) (w : ac) (z : Int), d ≤ e → (aW d w z).1 = true → aW e w z = aW d w z := by
 intro d
 induction d with
 | zero => intro e w z _ h; cases h
 | succ d ih =>
  intro e w z he h
  obtain ⟨e, rfl⟩ : ∃ g, e = g + 1 := ⟨e - 1, by omega⟩
  simp only [aW] at h ⊢
  by_cases hc : 256 < lm w z ∨ bi w = false
  ·rw [if_pos hc] at h; cases h
  ·rw [if_neg hc] at h
   rw [if_neg hc, if_neg hc]
   have key : ∀ (l : List ac) (y : Int), (cZ (aW d) l y).1 = true → cZ (aW e) l y = cZ (aW d) l y := by
    intro l
    induction l with
    | nil => intro y _; rfl
    | cons x l ihl =>
     intro y hy
     simp only [cZ] at hy ⊢
     by_cases hx : (aW d x y).1 = true
     ·rw [if_pos hx] at hy
      rw [ih e x y (by omega) hx, if_pos hx, if_pos hx]
      exact ihl _ hy
     ·rw [if_neg hx] at hy; cases hy
   exact key _ _ h
theorem DC {d : Nat} {v : ac} : Sz (d + 1) v kH := by
 intro z z' hz h
 simp only [aW] at h ⊢
 by_cases hc : 256 < lm v z' ∨ bi v = false
 ·rw [if_pos hc] at h; cases h
 ·rw [if_neg hc] at h ⊢
  have h1 : z' ≤ lm v z' := by unfold lm; split <;> omega
  have hcn : lm kH z = z := rfl
  have h2 : ¬ (256 < lm kH z ∨ bi kH = false) := by
   rw [hcn, not_or]
   rw [not_or] at hc
   exact ⟨by omega, by decide⟩
  rw [if_neg h2, hcn]
  refine ⟨rfl, ?_⟩
  have key : ∀ (l : List ac) (y : Int), (∀ x ∈ l, ∀ y, (aW d x y).1 = true → y ≤ (aW d x y).2) → (cZ (aW d) l y).1 = true → y ≤ (cZ (aW d) l y).2 := by
   intro l
   induction l with
   | nil => intro y _ _; exact Int.le_refl _
   | cons x l ihl =>
    intro y hx hy
    simp only [cZ] at hy ⊢
    by_cases hh : (aW d x y).1 = true
    ·rw [if_pos hh] at hy ⊢
     have := hx x (List.mem_cons_self ..) y hh
     have := ihl _ (fun x' h' => hx x' (List.mem_cons_of_mem _ h')) hy
     omega
    ·rw [if_neg hh] at hy; cases hy
  have up : ∀ (d : Nat) (x : ac) (y : Int), (aW d x y).1 = true → y ≤ (aW d x y).2 := by
   intro d
   induction d with
   | zero => intro x y h; cases h
   | succ d ihd =>
    intro x y h
    simp only [aW] at h ⊢
    by_cases hc : 256 < lm x y ∨ bi x = false
    ·rw [if_pos hc] at h; cases h
    ·rw [if_neg hc] at h ⊢
     have h1 : y ≤ lm x y := by unfold lm; split <;> omega
     have key : ∀ (l : List ac) (y : Int), (cZ (aW d) l y).1 = true → y ≤ (cZ (aW d) l y).2 := by
      intro l
      induction l with
      | nil => intro y _; exact Int.le_refl _
      | cons x l ihl =>
       intro y hy
       simp only [cZ] at hy ⊢
       by_cases hh : (aW d x y).1 = true
       ·rw [if_pos hh] at hy ⊢
        have := ihd x y hh
        have := ihl _ hy
        omega
       ·rw [if_neg hh] at hy; cases hy
     have := key _ _ h
     omega
  have := key v.items (lm v z') (fun x _ y => up d x y) h
  show z ≤ _
  omega
theorem I6 {d : Nat} {v w : ac} {u : af} (h0 : v.kind ≠ 0) (hvi : v.items = []) (hw : Lw w u) (u6 : u.kind ≠ 6) (u7 : u.kind ≠ 7) : Sz (d + 1) v w := by
 rcases hw with rfl | ⟨h1, h2, h3⟩
 ·exact DC
 ·intro z z' hz h
  have hwi := bq h3 (by omega) (by omega)
  simp only [aW] at h ⊢
  by_cases hc : 256 < lm v z' ∨ bi v = false
  ·rw [if_pos hc] at h; cases h
  ·rw [if_neg hc] at h ⊢
   have e1 : lm v z' = z' + 1 := by unfold lm; rw [if_neg h0]
   have e2 : lm w z ≤ z + 1 := by unfold lm; split <;> omega
   rw [not_or] at hc
   have h4 : ¬ (256 < lm w z ∨ bi w = false) := by
    rw [not_or, h3]
    exact ⟨by omega, by simp⟩
   rw [if_neg h4, hvi, hwi]
   refine ⟨rfl, ?_⟩
   show lm w z ≤ lm v z'
   omega
theorem IR {d : Nat} {w : ac} {u : af} (hw : Lw w u) (u6 : u.kind ≠ 6) (u7 : u.kind ≠ 7) : rZ (d + 1) u w = true ∧ kf (d + 1) u w = false := by
 rcases hw with rfl | ⟨h1, h2, h3⟩
 ·exact ⟨by simp [rZ, kH], rfl⟩
 ·have hwi := bq h3 (by omega) (by omega)
  refine ⟨?_, ?_⟩
  ·simp only [rZ]
   by_cases h0 : w.kind = 0
   ·rw [if_pos h0]
   ·rw [if_neg h0, if_neg (fun h => h h1)]
    by_cases hk3 : w.kind = 3
    ·rw [if_pos hk3]; simpa using h2
    ·rw [if_neg hk3, if_neg (by omega), hwi]; rfl
  ·simp only [kf, hwi]; rfl
theorem EH {w : ac} {u : af} (hw : Lw w u) (u4 : u.kind ≠ 4) (u6 : u.kind ≠ 6) (u7 : u.kind ≠ 7) : bh w = 1 := by
 rcases hw with rfl | ⟨h1, h2, h3⟩
 ·rw [bz, bD]
 ·rw [eJ, bq h3 (by omega) (by omega), (lz h3).zero (by omega)]; simp [bM]
theorem Dc {d : Nat} {v : ac} {t : af} (hS : rt (d + 1) v) (hV : V t) (h0 : v.kind ≠ 0) (h6 : v.kind ≠ 6) (h7 : v.kind ≠ 7) (t6 : t.kind ≠ 6) (t7 : t.kind ≠ 7) (hc : cn v.kind t.kind = true) (hv : bh v ≤ 10000000) (hd : d ≤ 4) (k : Nat) :
  ∃ w, bl (k + 3) v t = some w ∧ nz v t = some w ∧ Lw w t ∧ bh w ≤ 30 * bh v := by
 obtain ⟨w, e1, e2, e3⟩ := EN hS hV h0 h6 h7 t6 t7 hc hv hd k
 refine ⟨w, e1, e2, e3, ?_⟩
 have hpos := nA v
 by_cases h4 : t.kind = 4
 ·rw [pq (k + 2) h0 h6 h7] at e1
  by_cases he : v.kind = t.kind ∧ t.kind ≠ 3
  ·rw [if_pos he] at e1
   cases e1; omega
  ·rw [if_neg he, if_pos h4, zW (d + 1) ba v hS (by rw [aF]; omega) hv, ae] at e1
   cases e1
   have := yA _ v hS
   rw [bz, aD]; omega
 ·rw [EH e3 h4 t6 t7]; omega
def Pw (d : Nat) (t : af) (v w : ac) : Prop := Sz d v w ∧ rZ d t w = true ∧ kf d t w = false ∧ bh w ≤ 30 * bh v
theorem Je (l : List ac) : dk l = some l := by
 unfold dk
 rw [bO (by omega)]
 simp
theorem Fw {t : af} {v : ac} {d : Nat} (hV : V t) (hl : v.items.length ≤ 1000000000) (hfit : If t v) (hkk : t.kind = 6 ∨ t.kind = 7) (q1 q2 : ac → af → Option ac)
  (hq : ∀ i, i < v.items.length → ∃ w, q1 (iv v i) (ft t i) = some w ∧ q2 (iv v i) (ft t i) = some w ∧ Pw d (ft t i) (iv v i) w)
  (hout : ∀ l : List ac, l.length = v.items.length → (∀ (j : Nat) w, l[j]? = some w → Pw d (ft t j) (iv v j) w) → cK ⟨v.kind, 0, 0, ByteArray.empty, l⟩ = true ∧ bh ⟨v.kind, 0, 0, ByteArray.empty, l⟩ < 1000000000) :
  ∀ (m f f2 : Nat) (l : List ac), l.length + m = v.items.length → m < f → m < f2 → (∀ (j : Nat) w, l[j]? = some w → Pw d (ft t j) (iv v j) w ∧ ¬ (w.kind = 0 ∧ nd t j = true)) →
   ∃ w, bT q1 v t f l (l.length : Int) = some w ∧ dO q2 v t f2 l (l.length : Int) = some w ∧
    (w = kH ∨ ∃ l', w = ⟨v.kind, 0, 0, ByteArray.empty, l'⟩ ∧ l'.length = v.items.length ∧ ∀ (j : Nat) x, l'[j]? = some x → Pw d (ft t j) (iv v j) x ∧ ¬ (x.kind = 0 ∧ nd t j = true)) := by
 intro m
 induction m with
 | zero =>
  intro f f2 l hi hf hf2 hP
  obtain ⟨f, rfl⟩ : ∃ g, f = g + 1 := ⟨f - 1, by omega⟩
  obtain ⟨f2, rfl⟩ : ∃ g, f2 = g + 1 := ⟨f2 - 1, by omega⟩
  obtain ⟨s1, s2⟩ := hout l (by omega) (fun j w h => (hP j w h).1)
  rw [bT, dO, aB, aB, if_neg (by simp; omega), if_neg (by simp; omega)]
  unfold kx pV
  rw [Je, ae, uz _ s2, s1, ae, aB, if_neg (by simp)]
  exact ⟨_, rfl, rfl, .inr ⟨l, rfl, by omega, hP⟩⟩
 | succ m ih =>
  intro f f2 l hi hf hf2 hP
  obtain ⟨f, rfl⟩ : ∃ g, f = g + 1 := ⟨f - 1, by omega⟩
  obtain ⟨f2, rfl⟩ : ∃ g, f2 = g + 1 := ⟨f2 - 1, by omega⟩
  generalize hli : l.length = i at *
  have hlt : i < v.items.length := by omega
  obtain ⟨fd, f1, e2, e3, e4⟩ := qZ (hfit i hlt)
  have hfd : dq t ((i : Nat) : Int) = some fd := by
   unfold dq fe
   rw [aB]
   by_cases h6 : t.kind = 6
   ·rw [if_pos h6] at e2
    rw [if_pos (by simpa using h6), show at? t.fields (0 : Int) = some fd from gr (i := 0) e2]; rfl
   ·rw [if_neg h6] at e2
    rw [if_neg (by simpa using h6), gr e2]; rfl
  obtain ⟨w, w1, w2, w3⟩ := hq i hlt
  have hj : ∀ rec1, (ax (t.kind == (6 : Int)) (jF rec1 q2 v t l (i : Int) (0 : Int)) (jF rec1 q2 v t l (i : Int) (i : Int))) = ax (w.kind == (0 : Int)) (gC rec1 l (i : Int) w fd.need) (gC rec1 l (i : Int) w false) := by
   intro rec1
   unfold jF
   rw [aB]
   by_cases h6 : t.kind = 6
   ·rw [if_pos h6] at e2
    rw [if_pos (by simpa using h6), cf hlt, ae, show at? t.fields (0 : Int) = some fd from gr (i := 0) e2, ae, e3, m5 hlt, w2, ae]
   ·rw [if_neg h6] at e2
    rw [if_neg (by simpa using h6), cf hlt, ae, gr e2, ae, e3, m5 hlt, w2, ae]
  rw [bT, dO, hj, aB, aB, if_pos (by simp; omega), if_pos (by simp; omega), cf hlt, ae, hfd, ae, e3, m5 hlt, w1, ae]
  have go : (¬ (w.kind = 0 ∧ nd t i = true)) → ∃ x, eP (bT q1 v t f) l (i : Int) w false = some x ∧ gC (dO q2 v t f2) l (i : Int) w false = some x ∧
    (x = kH ∨ ∃ l', x = ⟨v.kind, 0, 0, ByteArray.empty, l'⟩ ∧ l'.length = v.items.length ∧ ∀ (j : Nat) x, l'[j]? = some x → Pw d (ft t j) (iv v j) x ∧ ¬ (x.kind = 0 ∧ nd t j = true)) := by
   intro hne
   unfold eP gC
   rw [aB, aB, if_neg (by simp), if_neg (by simp), bO (by omega), bO (by omega), fJ (by omega) (by omega)]
   have := ih f f2 (l ++ [w]) (by simp; omega) (by omega) (by omega) (fun j x hx => by
    rcases Nat.lt_or_ge j l.length with h | h
    ·rw [List.getElem?_append_left h] at hx
     exact hP j x hx
    ·rw [List.getElem?_append_right h] at hx
     have hj : j = i := by
      rcases Nat.lt_or_ge (j - l.length) 1 with h' | h'
      ·omega
      ·simp [List.getElem?_eq_none, h'] at hx
     subst hj
     rw [show j - l.length = 0 by omega] at hx
     simp at hx
     subst hx
     exact ⟨w3, hne⟩)
   rw [List.length_append, hli, List.length_singleton] at this
   exact this
  rw [aB, aB, e4]
  by_cases hk0 : w.kind = 0
  ·rw [if_pos (by simpa using hk0), if_pos (by simpa using hk0)]
   cases hnd : nd t i with
   | false =>
    exact go (fun h => by rw [hnd] at h; cases h.2)
   | true =>
    unfold eP gC
    rw [aB, aB, if_pos rfl, if_pos rfl]
    exact ⟨kH, rfl, rfl, .inl rfl⟩
  ·rw [if_neg (by simpa using hk0), if_neg (by simpa using hk0)]
   exact go (fun h => hk0 h.1)
end Go.Proofs.YtpmoopnkoknbeaaGreatDoor
namespace Go.Proofs.YtpmoopnkoknbeaaGreatDoor
open Go Go.PX Go.SX Go.SX.Cal
theorem AU : ∀ (l m : List ac), m.length = l.length → (∀ (j : Nat) v w, l[j]? = some v → m[j]? = some w → bh w ≤ 30 * bh v) → bM m ≤ 30 * bM l
 | [], [], _, _ => by simp [bM]
 | [], w :: m, h, _ => by simp at h
 | v :: l, [], h, _ => by simp at h
 | v :: l, w :: m, h, hS => by
  have h1 := hS 0 v w rfl rfl
  have h2 := AU l m (by simpa using h) (fun j v w a b => hS (j + 1) v w a b)
  simp only [bM]; omega
theorem AI {v : ac} {i : Nat} (h : i < v.items.length) : v.items[i]? = some (iv v i) := by rw [List.getElem?_eq_getElem h, m5 h]
theorem D4 {d : Nat} {v : ac} {t : af} (hS : rt (d + 1) v) (h67 : v.kind = 6 ∨ v.kind = 7) (hk : v.kind = t.kind) (h7 : v.kind = 7 → v.items.length = t.fields.length) {l : List ac} (hl : l.length = v.items.length)
  (hP : ∀ (j : Nat) w, l[j]? = some w → Pw d (ft t j) (iv v j) w) : Sz (d + 1) v ⟨v.kind, 0, 0, ByteArray.empty, l⟩ ∧ rZ (d + 1) t ⟨v.kind, 0, 0, ByteArray.empty, l⟩ = true ∧ bh ⟨v.kind, 0, 0, ByteArray.empty, l⟩ ≤ 30 * bh v := by
 obtain ⟨hp, _⟩ := hS.succ
 have hlf := lz hp
 have hpo : bi ⟨v.kind, 0, 0, ByteArray.empty, l⟩ = true := by
  unfold bi
  simp only
  rw [if_neg (by omega), if_neg (by omega), if_neg (by omega), if_neg (by omega), if_neg (by omega), if_neg (by omega)]
  rcases h67 with h | h
  ·have := hlf.lst h
   rw [if_pos h, bD]; simp; omega
  ·have := hlf.rcd h
   rw [if_neg (by omega), if_pos h, bD]; simp; omega
 refine ⟨?_, ?_, ?_⟩
 ·intro z z' hz h
  simp only [aW] at h ⊢
  by_cases hc : 256 < lm v z' ∨ bi v = false
  ·rw [if_pos hc] at h; cases h
  ·rw [if_neg hc] at h
   rw [if_neg hc]
   have e1 : lm v z' = z' + 1 := by unfold lm; rw [if_neg (by omega)]
   have e2 : lm ⟨v.kind, 0, 0, ByteArray.empty, l⟩ z = z + 1 := by unfold lm; rw [if_neg (show ¬ v.kind = 0 by omega)]
   rw [not_or] at hc
   have h4 : ¬ (256 < lm ⟨v.kind, 0, 0, ByteArray.empty, l⟩ z ∨ bi ⟨v.kind, 0, 0, ByteArray.empty, l⟩ = false) := by
    rw [not_or, hpo, e2]
    exact ⟨by omega, by simp⟩
   rw [if_neg h4]
   exact En d v.items l hl (fun j x w h1 h2 => by
    have hj : j < v.items.length := by
     rcases Nat.lt_or_ge j v.items.length with h | h
     ·exact h
     ·rw [List.getElem?_eq_none h] at h1; cases h1
    rw [AI hj] at h1
    cases h1
    exact (hP j w h2).1) _ _ (by rw [e1, e2]; omega) h
 ·simp only [rZ]
  rw [if_neg (show ¬ v.kind = 0 by omega), if_neg (fun h => h hk), if_neg (show ¬ v.kind = 3 by omega), if_neg (fun h => h.2 (by rw [hl]; exact (h7 h.1).symm))]
  rw [Option.isNone_iff_eq_none, kC]
  intro j _ hj
  have hg : l[j]? = some (iv ⟨v.kind, 0, 0, ByteArray.empty, l⟩ j) := AI (v := ⟨v.kind, 0, 0, ByteArray.empty, l⟩) hj
  rw [(hP j _ hg).2.1]; rfl
 ·rw [lQ]
  have := AU v.items l hl (fun j x w h1 h2 => by
   have hj : j < v.items.length := by
    rcases Nat.lt_or_ge j v.items.length with h | h
    ·exact h
    ·rw [List.getElem?_eq_none h] at h1; cases h1
   rw [AI hj] at h1
   cases h1
   exact (hP j w h2).2.2.2)
  have hs := eJ v
  omega
theorem CX {d : Nat} {k : Int} {t : af} {v : ac} {l : List ac} (hP : ∀ (j : Nat) w, l[j]? = some w → Pw d (ft t j) (iv v j) w ∧ ¬ (w.kind = 0 ∧ nd t j = true)) : kf (d + 1) t ⟨k, 0, 0, ByteArray.empty, l⟩ = false := by
 simp only [kf]
 rw [show first (fun i => ((iv ⟨k, 0, 0, ByteArray.empty, l⟩ i).kind == 0 && nd t i) || kf d (ft t i) (iv ⟨k, 0, 0, ByteArray.empty, l⟩ i)) 0 l.length = none from ?_]
 ·rfl
 ·rw [kC]
  intro j _ hj
  have hg : l[j]? = some (iv ⟨k, 0, 0, ByteArray.empty, l⟩ j) := AI (v := ⟨k, 0, 0, ByteArray.empty, l⟩) hj
  obtain ⟨a, b⟩ := hP j _ hg
  rw [a.2.2.1, Bool.or_false]
  cases hx : ((iv ⟨k, 0, 0, ByteArray.empty, l⟩ j).kind == 0 && nd t j) with
  | false => rfl
  | true =>
   exfalso
   apply b
   simpa using hx
theorem EF : ∀ (d : Nat) (x : ac) (y : Int), (aW d x y).1 = true → y ≤ (aW d x y).2 := by
 intro d
 induction d with
 | zero => intro x y h; cases h
 | succ d ihd =>
  intro x y h
  simp only [aW] at h ⊢
  by_cases hc : 256 < lm x y ∨ bi x = false
  ·rw [if_pos hc] at h; cases h
  ·rw [if_neg hc] at h ⊢
   have h1 : y ≤ lm x y := by unfold lm; split <;> omega
   have key : ∀ (l : List ac) (y : Int), (cZ (aW d) l y).1 = true → y ≤ (cZ (aW d) l y).2 := by
    intro l
    induction l with
    | nil => intro y _; exact Int.le_refl _
    | cons x l ihl =>
     intro y hy
     simp only [cZ] at hy ⊢
     by_cases hh : (aW d x y).1 = true
     ·rw [if_pos hh] at hy ⊢
      have := ihd x y hh
      have := ihl _ hy
      omega
     ·rw [if_neg hh] at hy; cases hy
   have := key _ _ h
   omega
def Jo (d : Nat) (v : ac) : Prop := ∃ z : Int, 0 ≤ z ∧ (aW d v z).1 = true
theorem Jo.snd {d : Nat} {v : ac} (h : Jo d v) : rt d v := by obtain ⟨z, _, h⟩ := h; exact ⟨z, h⟩
theorem Jo.items {d : Nat} {v : ac} (h : Jo (d + 1) v) : ∀ x ∈ v.items, Jo d x := by
 obtain ⟨z, h0, h⟩ := h
 simp only [aW] at h
 by_cases hc : 256 < lm v z ∨ bi v = false
 ·rw [if_pos hc] at h; cases h
 ·rw [if_neg hc] at h
  have h1 : 0 ≤ lm v z := by unfold lm; split <;> omega
  have key : ∀ (l : List ac) (y : Int), 0 ≤ y → (cZ (aW d) l y).1 = true → ∀ x ∈ l, Jo d x := by
   intro l
   induction l with
   | nil => intro y _ _ x hx; cases hx
   | cons a l ihl =>
    intro y hy0 hy x hx
    simp only [cZ] at hy
    by_cases hh : (aW d a y).1 = true
    ·rw [if_pos hh] at hy
     rcases List.mem_cons.1 hx with rfl | hx
     ·exact ⟨y, hy0, hh⟩
     ·exact ihl _ (by have := EF d a y hh; omega) hy x hx
    ·rw [if_neg hh] at hy; cases hy
  exact key _ _ h1 h
theorem Ih : ∀ (d : Nat) (v : ac) (t : af), Jo d v → d ≤ 4 → V t → CV d v t → bh v ≤ 10000000 → ∀ (k k' : Nat), 2 * d + 1 ≤ k → d ≤ k' →
  ∃ w, bl k v t = some w ∧ ew k' v t = some w ∧ Pw d t v w := by
 intro d
 induction d with
 | zero => intro v t h; exact h.snd.zero.elim
 | succ d ih =>
  intro v t hnn hd hV hC hv k k' hk hk'
  have h := hnn.snd
  obtain ⟨k, rfl⟩ : ∃ g, k = g + 3 := ⟨k - 3, by omega⟩
  obtain ⟨k', rfl⟩ : ∃ g, k' = g + 1 := ⟨k' - 1, by omega⟩
  obtain ⟨hp, hi⟩ := h.succ
  have hl := lz hp
  have hpos := nA v
  have hs := eJ v
  have hn := eN v.items
  have hnul : Pw (d + 1) t v kH := ⟨DC, by simp [rZ, kH], rfl, by rw [bz, bD]; omega⟩
  rcases hC with h0 | ⟨h6, h7, t6, t7, hc⟩ | ⟨h67, he, h7l, hfit, hCi⟩
  ·have hvn : v = kH := (mR h0 (hl.nn (.inl h0)) (bW hp (by omega)) (jn (hl.zero (by omega))) (bq hp (by omega) (by omega))).symm
   refine ⟨kH, ?_, ?_, hnul⟩
   ·rw [bl, aB, if_pos (by simpa using h0)]
   ·rw [ew, aB, if_pos (by simpa using h0), hvn]
  ·by_cases h0 : v.kind = 0
   ·have hvn : v = kH := (mR h0 (hl.nn (.inl h0)) (bW hp (by omega)) (jn (hl.zero (by omega))) (bq hp (by omega) (by omega))).symm
    refine ⟨kH, ?_, ?_, hnul⟩
    ·rw [bl, aB, if_pos (by simpa using h0)]
    ·rw [ew, aB, if_pos (by simpa using h0), hvn]
   ·obtain ⟨w, e1, e2, e3, e4⟩ := Dc h hV h0 h6 h7 t6 t7 hc hv (by omega) k
    obtain ⟨o1, o2⟩ := IR (d := d) e3 t6 t7
    refine ⟨w, e1, ?_, I6 h0 (bq hp h6 h7) e3 t6 t7, o1, o2, e4⟩
    rw [ew, aB, if_neg (by simpa using h0), oY, ae, decide_eq_true ⟨h6, h7⟩, aB, if_pos rfl, e2, ae]
  ·have h0 : v.kind ≠ 0 := by omega
   have hq : ∀ i, i < v.items.length → ∃ w, bl (k + 1) (iv v i) (ft t i) = some w ∧ ew k' (iv v i) (ft t i) = some w ∧ Pw d (ft t i) (iv v i) w := by
    intro i hlt
    obtain ⟨fd, f1, _, f3, _⟩ := qZ (hfit i hlt)
    have hm := mY hlt
    have := eQ hm
    exact ih (iv v i) (ft t i) (hnn.items _ hm) (by omega) (by rw [← f3]; exact hV.fs fd f1) (hCi i hlt) (by omega) (k + 1) k' (by omega) (by omega)
   obtain ⟨z, hz0, hz⟩ := id hnn
   have hout : ∀ l : List ac, l.length = v.items.length → (∀ (j : Nat) w, l[j]? = some w → Pw d (ft t j) (iv v j) w) → cK ⟨v.kind, 0, 0, ByteArray.empty, l⟩ = true ∧ bh ⟨v.kind, 0, 0, ByteArray.empty, l⟩ < 1000000000 := by
    intro l hll hP
    obtain ⟨g1, g2, g3⟩ := D4 h h67 he h7l hll hP
    refine ⟨?_, by omega⟩
    unfold cK
    have h2 := (g1 0 z hz0 hz).1
    rw [Bt (d + 1) 4 _ 0 hd h2]
    exact h2
   obtain ⟨w, e1, e2, e3⟩ := Fw hV (by omega) hfit (by omega) (bl (k + 1)) (ew k') hq hout v.items.length ba ba [] (by simp) (by rw [aF]; omega) (by rw [aF]; omega) (fun j w h => by simp at h)
   refine ⟨w, ?_, ?_, ?_⟩
   ·rw [bl]
    unfold ki
    simp only [aB, beq_iff_eq]
    rw [if_neg h0, fy, wP]
    by_cases h6 : v.kind = 6
    ·rw [if_pos h6]; exact e1
    ·rw [if_neg h6, if_pos (show v.kind = 7 by omega)]; exact e1
   ·rw [ew, aB, if_neg (by simpa using h0), oY, ae, decide_eq_false (by omega), aB, if_neg (by simp)]
    exact e2
   ·rcases e3 with rfl | ⟨l, rfl, hll, hP⟩
    ·exact hnul
    ·obtain ⟨g1, g2, g3⟩ := D4 h h67 he h7l hll (fun j w hw => (hP j w hw).1)
     exact ⟨g1, g2, CX hP, g3⟩
theorem IU (v : ac) (t : af) (hv : bh v ≤ 10000000) (hT : dF t < 1000000000) : ∃ w, pf v t = some w ∧ rR v t = some w ∧ bh w < 1000000000 ∧
  (w = kH ∨ (cK v = true ∧ bR t = some 0 ∧ CV 4 v t ∧ V t ∧ bl ba v t = some w ∧ rZ 4 t w = true ∧ kf 4 t w = false ∧ cK w = true)) ∧
  (cK v = true → bR t = some 0 → (bJ ba v t = some true) → bl ba v t = some w) := by
 have hvj : gS v t true = some kH := by unfold gS; rw [aB, if_pos rfl]
 have hrj : iu v t true = some kH := by unfold iu; rw [aB, if_pos rfl]
 have hno : bh kH < 1000000000 := by rw [bz, bD]; decide
 unfold pf rR
 rw [vh v (by omega), uz v (by omega), ae, ae, aB, aB, hvj, hrj]
 cases hs : cK v with
 | false => exact ⟨kH, rfl, rfl, hno, .inl rfl, fun h => by cases h⟩
 | true =>
  rw [if_neg (by simp), if_neg (by simp)]
  obtain ⟨e, h1, h2, h3⟩ := jO t hT
  rw [h1, h2, ae, ae, aB, aB]
  by_cases he : e = 0
  ·subst he
   have hV := h3 rfl
   rw [if_neg (by simp), if_neg (by simp)]
   have hnn : Jo 4 v := ⟨0, Int.le_refl _, hs⟩
   obtain ⟨b, b1, b2, b3⟩ := BW 4 v t hnn.snd hV hv ba ba (by rw [aF]; omega) (by rw [aF]; omega)
   rw [b1, b2, ae, ae]
   cases b with
   | false =>
    rw [Bool.not_false, hvj, hrj]
    exact ⟨kH, rfl, rfl, hno, .inl rfl, fun _ _ h => by cases h⟩
   | true =>
    have hC := b3 rfl
    obtain ⟨w, w1, w2, w3, w4, w5, w6⟩ := Ih 4 v t hnn (by omega) hV hC hv ba ba (by rw [aF]; omega) (by rw [aF]; omega)
    have hsw := (w3 0 0 (Int.le_refl _) hs).1
    have hsB : cK w = true := hsw
    unfold gS iu
    rw [Bool.not_true, aB, aB, if_neg (by simp), if_neg (by simp), w1, w2, ae, ae, vh w (by omega), hsB, ae, aB, if_neg (by simp)]
    exact ⟨w, rfl, rfl, by omega, .inr ⟨rfl, rfl, hC, hV, rfl, w4, w5, hsB⟩, fun _ _ _ => rfl⟩
  ·rw [if_pos (by simpa using he), if_pos (by simpa using he)]
   exact ⟨kH, rfl, rfl, hno, .inl rfl, fun _ h => by cases h; exact absurd rfl he⟩
end Go.Proofs.YtpmoopnkoknbeaaGreatDoor
namespace Go.Proofs.YtpmoopnkoknbeaaGreatDoor
open Go Go.PX Go.SX Go.SX.Cal
theorem Al (p1 p2 : List aL) (hl : p1.length = p2.length) (hb : p1.length ≤ 1000000) (a b : af) (ha : a.fields = p1) (hbb : b.fields = p2) (q1 : aL → aL → Option Bool) (q2 : af → af → Option Bool)
  (hq : ∀ (i : Nat) (f g : aL), p1[i]? = some f → p2[i]? = some g → ∃ x, q1 f g = some x ∧ q2 f.type g.type = some x) :
  ∀ (m f f2 i : Nat), i + m = p1.length → m < f → m < f2 → ∃ x, aj q1 p1 p2 f (i : Int) = some x ∧ gg q2 a b f2 (i : Int) = some x := by
 intro m
 induction m with
 | zero =>
  intro f f2 i hi hf hf2
  obtain ⟨f, rfl⟩ : ∃ g, f = g + 1 := ⟨f - 1, by omega⟩
  obtain ⟨f2, rfl⟩ : ∃ g, f2 = g + 1 := ⟨f2 - 1, by omega⟩
  rw [aj, gg, aB, aB, if_neg (by simp; omega), if_neg (by rw [ha]; simp; omega)]
  exact ⟨true, rfl, rfl⟩
 | succ m ih =>
  intro f f2 i hi hf hf2
  obtain ⟨f, rfl⟩ : ∃ g, f = g + 1 := ⟨f - 1, by omega⟩
  obtain ⟨f2, rfl⟩ : ∃ g, f2 = g + 1 := ⟨f2 - 1, by omega⟩
  have h1 : i < p1.length := by omega
  have h2 : i < p2.length := by omega
  obtain ⟨x, x1, x2⟩ := hq i p1[i] p2[i] (List.getElem?_eq_getElem h1) (List.getElem?_eq_getElem h2)
  rw [aj, gg, ha, hbb, aB, aB, if_pos (by simp; omega), if_pos (by simp; omega), cf h1, ae, ae, cf h2, ae, ae, x1, x2, ae, ae, aB, aB, fJ (by omega) (by omega)]
  cases x with
  | false => exact ⟨false, rfl, rfl⟩
  | true =>
   rw [if_neg (by simp), if_neg (by simp)]
   exact ih f f2 (i + 1) (by omega) (by omega) (by omega)
theorem MR : ∀ (n : Nat) (a b : af), dF a ≤ n → V a → V b → ∀ (k k' : Nat), 3 * n ≤ k → n ≤ k' → ∃ x, ga k a b = some x ∧ eL k' a b = some x := by
 intro n
 induction n with
 | zero => intro a b h; have := gA a; omega
 | succ n ih =>
  intro a b hn ha hb k k' hk hk'
  obtain ⟨k, rfl⟩ : ∃ g, k = g + 3 := ⟨k - 3, by omega⟩
  obtain ⟨k', rfl⟩ : ∃ g, k' = g + 1 := ⟨k' - 1, by omega⟩
  have hka := yC ha
  have hkb := yC hb
  have hst := gA a
  rw [ga, JV, F8, ae, aB]
  have hcj : ∀ x, ic x = some x := fun x => rfl
  simp only [hcj, ae, aB]
  have hq : ∀ (i : Nat) (f g : aL), a.fields[i]? = some f → b.fields[i]? = some g → ∃ x, eE (k + 1) f g = some x ∧ eL k' f.type g.type = some x := by
   intro i f g h1 h2
   have m1 := List.mem_of_getElem? h1
   have m2 := List.mem_of_getElem? h2
   have s1 := gZ m1
   have s2 := gx f
   obtain ⟨x, x1, x2⟩ := ih f.type g.type (by omega) (ha.fs f m1) (hb.fs g m2) k k' (by omega) (by omega)
   exact ⟨x, by rw [eE, x1]; rfl, x2⟩
  by_cases hlf : a.kind ≠ 6 ∧ a.kind ≠ 7
  ·by_cases hlb : b.kind ≠ 6 ∧ b.kind ≠ 7
   ·rw [yP k' a b (by omega) (by omega), decide_eq_true hlf]
    cases cn a.kind b.kind <;> exact ⟨_, rfl, rfl⟩
   ·have hcf : cn a.kind b.kind = false := by
     cases hc : cn a.kind b.kind with
     | false => rfl
     | true => have := Ee (by omega) hc; omega
    rw [hcf]
    refine ⟨false, rfl, ?_⟩
    rw [eL]
    unfold gE io kM
    rw [oY, oY]
    simp only [aB, ae, beq_iff_eq]
    rw [if_neg hlf.1, if_neg (by simp), if_neg hlf.2, if_neg (by simp), decide_eq_true hlf, if_neg (by simp), decide_eq_false hlb]
    rfl
  ·have h67 : a.kind = 6 ∨ a.kind = 7 := by omega
   rw [Bc h67, decide_eq_false hlf]
   by_cases he : a.kind = b.kind
   ·rw [decide_eq_true he, if_pos rfl, if_neg (by simp)]
    rw [aG, eL]
    by_cases hle : a.fields.length = b.fields.length
    ·rw [show ((a.fields.length : Int) != (b.fields.length : Int)) = false by simp [hle], aB, if_neg (by simp)]
     have hwa := ha.wid
     obtain ⟨x, x1, x2⟩ := Al a.fields b.fields hle (by omega) a b rfl rfl (eE (k + 1)) (eL k') hq a.fields.length ba ba 0 (by omega) (by rw [aF]; omega) (by rw [aF]; omega)
     rw [show (0 : Int) = ((0 : Nat) : Int) from rfl, x1, ae]
     refine ⟨x, rfl, ?_⟩
     by_cases h6 : a.kind = 6
     ·have l1 := ha.list h6
      have l2 := hb.list (by omega)
      obtain ⟨y, y1, y2⟩ := hq 0 a.fields[0] b.fields[0] (List.getElem?_eq_getElem (by omega)) (List.getElem?_eq_getElem (by omega))
      have hx : x = y := by
       have hb1 : ba = 1152921504606846974 + 2 := rfl
       rw [hb1, gg, aB, if_pos (by simp; omega), show at? a.fields ((0 : Nat) : Int) = some a.fields[0] from cf (by omega), ae, show at? b.fields ((0 : Nat) : Int) = some b.fields[0] from cf (by omega), ae, y2, ae] at x2
       cases y with
       | false => exact (Option.some.inj x2).symm
       | true =>
        rw [aB, if_neg (by simp), fJ (by omega) (by omega), show (((0 : Nat) : Int) + 1) = ((1 : Nat) : Int) from rfl, gg, aB, if_neg (by simp; omega)] at x2
        exact (Option.some.inj x2).symm
      unfold gE
      simp only [aB, beq_iff_eq]
      rw [if_pos h6, if_pos (show b.kind = 6 by omega), show at? a.fields (0 : Int) = some a.fields[0] from cf (i := 0) (by omega), ae, show at? b.fields (0 : Int) = some b.fields[0] from cf (i := 0) (by omega), ae, y2, hx]
      rfl
     ·have h7 : a.kind = 7 := by omega
      unfold gE io
      simp only [aB, beq_iff_eq]
      rw [if_neg h6, if_neg (by simp), if_pos h7, if_pos (show b.kind = 7 by omega), show ((a.fields.length : Int) != (b.fields.length : Int)) = false by simp [hle], if_neg (by simp)]
      exact x2
    ·have h7 : a.kind = 7 := by
      rcases h67 with h | h
      ·exact absurd (by rw [ha.list h, hb.list (by omega)]) hle
      ·exact h
     rw [show ((a.fields.length : Int) != (b.fields.length : Int)) = true by simp; omega, aB, if_pos rfl]
     refine ⟨false, rfl, ?_⟩
     unfold gE io
     simp only [aB, beq_iff_eq]
     rw [if_neg (show ¬ a.kind = 6 by omega), if_neg (by simp), if_pos h7, if_pos (show b.kind = 7 by omega), show ((a.fields.length : Int) != (b.fields.length : Int)) = true by simp; omega, if_pos rfl]
   ·rw [decide_eq_false he]
    refine ⟨false, rfl, ?_⟩
    rw [eL]
    unfold gE io kM
    rw [oY, oY]
    simp only [aB, ae, beq_iff_eq]
    rcases h67 with h | h
    ·rw [if_pos h, if_neg (show ¬ b.kind = 6 by omega), if_neg (show ¬ a.kind = 7 by omega), if_neg (by simp), decide_eq_false hlf]
     rfl
    ·rw [if_neg (show ¬ a.kind = 6 by omega), if_neg (by simp), if_pos h, if_neg (show ¬ b.kind = 7 by omega), decide_eq_false hlf]
     rfl
theorem Kc (a b : af) (ha : dF a < 1000000000) (hb : dF b < 1000000000) : ∃ x, lV a b = some x ∧ tA a b = some x := by
 obtain ⟨e, h1, h2, h3⟩ := jO a ha
 obtain ⟨g, k1, k2, k3⟩ := jO b hb
 unfold lV tA jI my
 rw [h1, h2, ae, ae, k1, k2, ae, ae]
 simp only [aB, beq_iff_eq]
 by_cases he : e = 0
 ·rw [if_pos he, if_pos he]
  by_cases hg : g = 0
  ·rw [if_pos hg, if_pos hg]
   obtain ⟨x, x1, x2⟩ := MR (dF a) a b (Nat.le_refl _) (h3 he) (k3 hg) ba ba (by rw [aF]; omega) (by rw [aF]; omega)
   rw [x1, x2]
   exact ⟨x, rfl, rfl⟩
  ·rw [if_neg hg, if_neg hg]; exact ⟨false, rfl, rfl⟩
 ·rw [if_neg he, if_neg he]; exact ⟨false, rfl, rfl⟩
theorem B9 : ba = 1152921504606846975 + 1 := rfl
theorem Fq : bR ⟨2, 0, []⟩ = some 0 := by
 unfold bR
 rw [B9]
 rfl
theorem II : lV ⟨2, 0, []⟩ ⟨2, 0, []⟩ = some true := by
 unfold lV jI
 rw [Fq, ae, ae, aB, if_pos (by decide), aB, if_pos (by decide), B9, ga, JV, F8]
 rfl
theorem E9 (a b : af) (v : ac) (ha : dF a < 1000000000) (hb : dF b < 1000000000) (hv : bh v ≤ 10000000) : gI a b v = some true := by
 obtain ⟨x, x1, x2⟩ := Kc a b ha hb
 obtain ⟨w, w1, w2, w3, _⟩ := IU v b hv hb
 unfold gI de
 rw [II, ae, x1, x2, w1, w2]
 simp only [ae, aB]
 rw [if_pos trivial, if_pos (by simp), uj _ w (Nat.le_refl _) ba (by rw [aF]; omega) w3]
 rfl
end Go.Proofs.YtpmoopnkoknbeaaGreatDoor
