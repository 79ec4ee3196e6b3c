/- The reference's integers: differences, quotients, rounding. Numbers of 256 bits: what each operation of the program computes, as equations. Division of numbers of 256 bits, rounding, and values made of them. The reference's integers, in plain terms. The reference's integers: sums, products, quotients, values made of them. Values made of numbers on both sides; Round. Casts of numbers: both scale alike. Casts of leaves on both sides. Casts of leaves on both sides: together. Casts of leaves on both sides are the same. Which casts there are. Casts on both sides are the same. Casts on both sides are the same: all values. Can and Cast are as specified. What is cast has its type. -/
import Derived.Lib.ValidLaws
import Derived.Test.YtpmoopnkoknbeaaGreatDoorLaA
set_option linter.unusedVariables false
set_option linter.unusedSimpArgs false
set_option linter.unnecessarySimpa false
namespace Go.Proofs.YtpmoopnkoknbeaaGreatDoor.Nm
open Go Go.SX Go.SX.Cal Go.Lib
theorem dw {β : Type} {p : Prop} [Decidable p] {x : Option β} (h : p) : bI p x = x := if_pos h
def ab (n : Int) : Int := if n < 0 then -n else n
theorem Gw {l : List Int} {x : Int} (h : dY l) (hx : 0 ≤ x ∧ x ≤ 9) : dY (l ++ [x]) := by
 intro d hd
 rcases List.mem_append.1 hd with h1 | h1
 ·exact h d h1
 ·simp at h1; subst h1; exact hx
theorem B5 {n : Int} (hn0 : -9223372036854775808 ≤ n) (hn1 : n ≤ 9223372036854775807) : ∀ (k : Nat) (l : List Int) (m : Int), l.length ≤ 19 → 19 - l.length < k → dY l → (m = 0 → sI l) → ab m < p10 (19 - l.length) → -9223372036854775808 ≤ m → m ≤ 9223372036854775807 → ab n = aI l + p10 l.length * ab m →
  ∃ d, cJ n k l m = some ⟨decide (n < 0), d⟩ ∧ dY d ∧ sI d ∧ d.length ≤ 19 ∧ aI d = ab n := by
 intro k
 induction k with
 | zero => intro l m h1 h2; omega
 | succ k ih =>
  intro l m hl hk hd ht hm m0 m1 hv
  rw [cJ]
  by_cases h0 : m = 0
  ·subst h0
   rw [show ((0 : Int) != 0) = false from rfl, ah]
   exact ⟨l, rfl, hd, ht rfl, hl, by simp [ab] at hv ⊢; omega⟩
  ·have hlen : l.length < 19 := by
    apply Classical.byContradiction
    intro hn
    have : l.length = 19 := by omega
    rw [this] at hm
    simp only [Nat.sub_self, p10] at hm
    unfold ab at hm; split at hm <;> omega
   rw [show (m != 0) = true by simp [h0], aw]
   have hq : m.tdiv 10 = if m < 0 then -((-m) / 10) else m / 10 := by
    by_cases hneg : m < 0
    ·rw [if_pos hneg]
     have : m = -(-m) := by omega
     rw [this, Int.neg_tdiv, Int.neg_neg, Int.tdiv_eq_ediv_of_nonneg (by omega)]
    ·rw [if_neg hneg, Int.tdiv_eq_ediv_of_nonneg (by omega)]
   have hr : m.tmod 10 = if m < 0 then -((-m) % 10) else m % 10 := by
    by_cases hneg : m < 0
    ·rw [if_pos hneg]
     have : m = -(-m) := by omega
     rw [this, Int.neg_tmod, Int.neg_neg, Int.tmod_eq_emod_of_nonneg (by omega)]
    ·rw [if_neg hneg, Int.tmod_eq_emod_of_nonneg (by omega)]
   have step : ∀ x, x = ab m % 10 → jN (cJ n k) l m x = cJ n k (l ++ [ab m % 10]) (m.tdiv 10) := by
    intro x hx
    unfold jN
    rw [dw (by omega), hx, fL (by rw [hq]; split <;> omega) (by rw [hq]; split <;> omega)]
   have hgo : cJ n k (l ++ [ab m % 10]) (m.tdiv 10) = cJ n k (l ++ [ab m % 10]) (m.tdiv 10) := rfl
   have habq : ab (m.tdiv 10) = ab m / 10 := by
    rw [hq]; unfold ab
    by_cases hneg : m < 0
    ·simp only [hneg, if_true]; split <;> omega
    ·simp only [hneg, if_false]; split <;> omega
   have hab0 : 0 ≤ ab m := by unfold ab; split <;> omega
   have hp : p10 (19 - l.length) = p10 (19 - (l ++ [ab m % 10]).length) * 10 := by
    rw [show 19 - l.length = (19 - (l ++ [ab m % 10]).length) + 1 by simp; omega]; rfl
   have nxt := ih (l ++ [ab m % 10]) (m.tdiv 10) (by simp; omega) (by simp; omega) (Gw hd (by omega)) (fun hz => by
     intro d hdl
     simp at hdl
     subst hdl
     have h1 : ab m / 10 = 0 := by rw [← habq, hz]; rfl
     have h2 : ab m ≠ 0 := by unfold ab; split <;> omega
     omega) (by rw [habq]; rw [hp] at hm; omega) (by rw [hq]; split <;> omega) (by rw [hq]; split <;> omega) (by
     rw [gq, List.length_append, List.length_singleton, habq, hv]
     simp only [aI, p10]
     have e : ab m = ab m % 10 + 10 * (ab m / 10) := by omega
     have e2 : p10 l.length * ab m = p10 l.length * (ab m % 10) + p10 l.length * 10 * (ab m / 10) := by
      rw [Int.mul_assoc, ← Int.mul_add, ← e]
     rw [e2]; simp only [Int.mul_zero, Int.add_zero]; omega)
   by_cases hneg : m.tmod 10 < 0
   ·rw [show decide (m.tmod 10 < 0) = true by simpa using hneg, aw]
    have hx : IntKind.i64.wrap (0 - m.tmod 10) = ab m % 10 := by
     rw [fL (by rw [hr]; split <;> omega) (by rw [hr]; split <;> omega)]
     rw [hr] at hneg ⊢
     unfold ab
     by_cases h : m < 0
     ·simp only [h, if_true]; omega
     ·simp only [h, if_false] at hneg; omega
    rw [step _ hx]; exact nxt
   ·rw [show decide (m.tmod 10 < 0) = false by simpa using hneg, ah]
    have hx : m.tmod 10 = ab m % 10 := by
     rw [hr] at hneg ⊢
     unfold ab
     by_cases h : m < 0
     ·simp only [h, if_true] at hneg ⊢; omega
     ·simp only [h, if_false]
    rw [step _ hx]; exact nxt
theorem C6 {a b : List Int} (ha : dY a) (hb : dY b) (la : a.length < 1000000) (k i : Nat) (l : List Int) (c : Int) (hl : l.length = i) (c0 : 0 ≤ c) (c1 : c ≤ 1) (hi : i < a.length) :
  bU a b (k + 1) l c (i : Int) = if jx a i - c - jx b i < 0 then bU a b k (l ++ [jx a i - c - jx b i + 10]) 1 ((i + 1 : Nat) : Int) else bU a b k (l ++ [jx a i - c - jx b i]) 0 ((i + 1 : Nat) : Int) := by
 obtain ⟨a0, a9⟩ := kO ha i
 obtain ⟨b0, b9⟩ := kO hb i
 have j1 : ∀ n : Int, n = jx a i - c - jx b i → j9 (bU a b k) l (i : Int) n = if jx a i - c - jx b i < 0 then bU a b k (l ++ [jx a i - c - jx b i + 10]) 1 ((i + 1 : Nat) : Int) else bU a b k (l ++ [jx a i - c - jx b i]) 0 ((i + 1 : Nat) : Int) := by
  rintro n rfl
  unfold j9 mJ
  rw [dw (by omega), dw (by omega), fL (x := (i : Int) + 1) (by omega) (by omega), show (i : Int) + 1 = ((i + 1 : Nat) : Int) by omega]
  by_cases h : jx a i - c - jx b i < 0
  ·rw [show decide (jx a i - c - jx b i < 0) = true by simpa using h, aw, if_pos h, fL (by omega) (by omega)]
  ·rw [show decide (jx a i - c - jx b i < 0) = false by simpa using h, ah, if_neg h]
 rw [bU, gC hi, aw, cf hi, au, tF hi, fL (x := jx a i - c) (by omega) (by omega)]
 by_cases h : i < b.length
 ·rw [gC h, aw, cf h, au, tF h, fL (by omega) (by omega)]
  exact j1 _ rfl
 ·rw [show decide ((i : Int) < (b.length : Int)) = false by simp; omega, ah]
  exact j1 _ (by rw [pO (a := b) (by omega)]; omega)
theorem DA {a b : List Int} (ha : dY a) (hb : dY b) (la : a.length < 1000) (lb : b.length ≤ a.length) (hab : aI b ≤ aI a) : ∀ (k i : Nat) (l : List Int) (c : Int),
  l.length = i → dY l → 0 ≤ c → c ≤ 1 → i ≤ a.length → a.length - i < k → aI l = aI (a.take i) - aI (b.take i) + p10 i * c →
  ∃ r, bU a b k l c (i : Int) = some r ∧ dY r ∧ sI r ∧ aI r = aI a - aI b ∧ r.length ≤ a.length := by
 intro k
 induction k with
 | zero => intro i l c _ _ _ _ _ h; omega
 | succ k ih =>
  intro i l c hl dl c0 c1 hi hk hv
  by_cases he : i = a.length
  ·subst he
   rw [bU, show decide ((a.length : Int) < (a.length : Int)) = false by simp, ah]
   unfold oV
   rw [List.take_of_length_le (Nat.le_refl _), List.take_of_length_le lb] at hv
   have hlt := mM dl
   rw [hl] at hlt
   have hc : c = 0 := by
    by_cases h : c = 0
    ·exact h
    ·have : c = 1 := by omega
     subst this
     omega
   subst hc
   obtain ⟨d', h1, h2, h3, h4, h5⟩ := qw false l (by omega) dl
   rw [h1, au]
   exact ⟨d', rfl, h2, h3, by rw [h4, hv]; omega, by omega⟩
  ·obtain ⟨a0, a9⟩ := kO ha i
   obtain ⟨b0, b9⟩ := kO hb i
   rw [C6 ha hb (by omega) k i l c hl c0 c1 (by omega)]
   have hp : p10 i * (jx a i - c - jx b i) = p10 i * jx a i - p10 i * c - p10 i * jx b i := by rw [Int.mul_sub, Int.mul_sub]
   by_cases h : jx a i - c - jx b i < 0
   ·rw [if_pos h]
    refine ih (i + 1) _ 1 (by simp [hl]) (vw dl (by omega) (by omega)) (by omega) (by omega) (by omega) (by omega) ?_
    rw [pj, pj, gq, hl]
    simp only [aI, p10]
    rw [Int.mul_add, Int.mul_add, hp]; omega
   ·rw [if_neg h]
    refine ih (i + 1) _ 0 (by simp [hl]) (vw dl (by omega) (by omega)) (by omega) (by omega) (by omega) (by omega) ?_
    rw [pj, pj, gq, hl]
    simp only [aI, p10]
    rw [Int.mul_add, hp]; omega
theorem Hn {a b : List Int} (ha : dY a) (hb : dY b) (tb : sI b) (hab : aI b ≤ aI a) : b.length ≤ a.length := by
 by_cases h : b.length ≤ a.length
 ·exact h
 ·have h1 := mM ha
  have h2 := pM hb tb (by rintro rfl; simp at h)
  have := mO (show a.length ≤ b.length - 1 by omega)
  omega
theorem H5 {a b : List Int} (ha : dY a) (hb : dY b) (tb : sI b) (la : a.length < 1000) (hab : aI b ≤ aI a) :
  ∃ r, qk a b = some r ∧ dY r ∧ sI r ∧ aI r = aI a - aI b ∧ r.length ≤ a.length := by
 unfold qk
 exact DA ha hb la (Hn ha hb tb hab) hab aW 0 [] 0 rfl rL (by omega) (by omega) (by omega) (by rw [aA]; omega) (by simp [aI])
theorem AN {b : List Int} (hb : dY b) (tb : sI b) (lb : b.length < 900) (hp : 0 < aI b) (rec1 : List Int → List Int → Int → Option (List Int × List Int)) (i : Nat) (hi0 : i < 1000) : ∀ (t k : Nat) (l r : List Int) (e : Int),
  dY r → sI r → r.length < 900 → i < l.length → l[i]? = some e → 0 ≤ e → e + t ≤ 1000 → aI r / aI b = t → t < k →
  ∃ r', fG rec1 b (i : Int) k l r = rec1 (l.set i (e + t)) r' (IntKind.i64.wrap ((i : Int) - 1)) ∧ dY r' ∧ sI r' ∧ r'.length ≤ r.length ∧ aI r' = aI r % aI b := by
 intro t
 induction t with
 | zero =>
  intro k l r e hr tr lr hi he e0 e1 ht hk
  obtain ⟨k, rfl⟩ : ∃ q, k = q + 1 := ⟨k - 1, by omega⟩
  obtain ⟨m, h1, h2, h3, h4⟩ := Af hr hb tr tb (by omega) (by omega)
  have n0 := dM hr
  have hlt : aI r < aI b := by
   have h1 := Int.emod_add_mul_ediv (aI r) (aI b)
   have h2 := Int.emod_lt_of_pos (aI r) hp
   rw [ht] at h1
   simp at h1; omega
  rw [fG, h1, au]
  have hm : m < 0 := by
   unfold c3 at h4
   rw [if_pos hlt] at h4
   by_cases hh : m < 0
   ·exact hh
   ·rw [if_neg hh] at h4; split at h4 <;> omega
  rw [show decide ((0 : Int) ≤ m) = false by simp; omega, ah]
  refine ⟨r, ?_, hr, tr, Nat.le_refl _, (Int.emod_eq_of_lt n0 hlt).symm⟩
  unfold n4
  congr 1
  have : l[i] = e := by rw [List.getElem?_eq_getElem hi] at he; exact Option.some.inj he
  simp [← this]
 | succ t ih =>
  intro k l r e hr tr lr hi he e0 e1 ht hk
  obtain ⟨k, rfl⟩ : ∃ q, k = q + 1 := ⟨k - 1, by omega⟩
  obtain ⟨m, h1, h2, h3, h4⟩ := Af hr hb tr tb (by omega) (by omega)
  have n0 := dM hr
  have hd := Int.emod_add_mul_ediv (aI r) (aI b)
  have hm0 := Int.emod_nonneg (aI r) (show aI b ≠ 0 by omega)
  have hge : aI b ≤ aI r := by
   rw [ht] at hd
   have : aI b * 1 ≤ aI b * ((t + 1 : Nat) : Int) := Int.mul_le_mul_of_nonneg_left (by omega) (by omega)
   omega
  rw [fG, h1, au]
  have hm : 0 ≤ m := by
   unfold c3 at h4
   rw [if_neg (by omega : ¬ aI r < aI b)] at h4
   by_cases hh : m < 0
   ·rw [if_pos hh] at h4; split at h4 <;> omega
   ·omega
  obtain ⟨r2, g1, g2, g3, g4, g5⟩ := H5 hr hb tb (by omega) hge
  have he2 : at? l (i : Int) = some e := by unfold at?; simp [he]
  rw [show decide ((0 : Int) ≤ m) = true by simpa using hm, aw, g1, au, he2, au, fL (by omega) (by omega), show (i : Int).toNat = i by omega]
  have hq : aI r2 / aI b = t := by
   rw [g4, Int.sub_ediv_of_dvd _ (Int.dvd_refl _), ht, Int.ediv_self (by omega)]; omega
  obtain ⟨r', q1, q2, q3, q4, q5⟩ := ih k (l.set i (e + 1)) r2 (e + 1) g2 g3 (by omega) (by simpa using hi) (by simp [hi]) (by omega) (by omega) hq (by omega)
  refine ⟨r', ?_, q2, q3, by omega, ?_⟩
  ·rw [q1, List.set_set]
   congr 2
   push_cast; omega
  ·rw [q5, g4, Int.sub_emod_right]
theorem Aa {a b : List Int} (ha : dY a) (la : a.length < 400) (hb : dY b) (tb : sI b) (lb : b.length < 400) (hp : 0 < aI b) : ∀ (i k : Nat) (l r : List Int),
  i ≤ a.length → i < k → l.length = a.length → (∀ j, j < i → l[j]? = some 0) → dY (l.drop i) → dY r → sI r → r.length ≤ b.length → aI r < aI b → aI (a.drop i) = aI (l.drop i) * aI b + aI r →
  ∃ q r', dy a b k l r ((i : Int) - 1) = some (q, r') ∧ dY q ∧ sI q ∧ dY r' ∧ sI r' ∧ q.length ≤ a.length ∧ r'.length ≤ b.length ∧ aI a = aI q * aI b + aI r' ∧ aI r' < aI b := by
 intro i
 induction i with
 | zero =>
  intro k l r hi hk hl hz hdl hr tr lr hlt hv
  obtain ⟨k, rfl⟩ : ∃ q, k = q + 1 := ⟨k - 1, by omega⟩
  rw [dy, show decide ((0 : Int) ≤ ((0 : Nat) : Int) - 1) = false from rfl, ah]
  unfold ou
  simp only [List.drop_zero] at hdl hv
  obtain ⟨d', h1, h2, h3, h4, h5⟩ := qw false l (by omega) hdl
  rw [h1, au]
  exact ⟨d', r, rfl, h2, h3, hr, tr, by omega, lr, by rw [h4]; exact hv, hlt⟩
 | succ i ih =>
  intro k l r hi hk hl hz hdl hr tr lr hlt hv
  obtain ⟨k, rfl⟩ : ∃ q, k = q + 1 := ⟨k - 1, by omega⟩
  have hia : i < a.length := by omega
  have e1 : ((i + 1 : Nat) : Int) - 1 = (i : Int) := by omega
  rw [dy, e1, show decide ((0 : Int) ≤ (i : Int)) = true by simp, aw, cf hia, au, dw (by simp; omega)]
  have ra := ha a[i] (List.getElem_mem hia)
  obtain ⟨d', h1, h2, h3, h4, h5⟩ := qw false ([a[i]] ++ r) (by simp; omega) (yY hr ra.1 ra.2)
  rw [h1, au]
  have hv' : aI d' = a[i] + 10 * aI r := by rw [h4]; rfl
  have n0 := dM hr
  have hd := Int.emod_add_mul_ediv (aI d') (aI b)
  have hm1 := Int.emod_lt_of_pos (aI d') hp
  have hm0 := Int.emod_nonneg (aI d') (show aI b ≠ 0 by omega)
  have t9 : aI d' / aI b ≤ 9 := by
   have : aI d' < 10 * aI b := by omega
   have := Int.ediv_lt_of_lt_mul hp this
   omega
  have t0 : 0 ≤ aI d' / aI b := Int.ediv_nonneg (by omega) (by omega)
  obtain ⟨r', q1, q2, q3, q4, q5⟩ := AN hb tb (by omega) hp (dy a b k) i (by omega) (aI d' / aI b).toNat aW l d' 0 h2 h3 (by simp at h5; omega) (by omega) (hz i (by omega)) (by omega) (by omega) (by omega) (by rw [aA]; omega)
  rw [q1, fL (by omega) (by omega), Int.zero_add, Int.toNat_of_nonneg t0]
  have hdrop : (l.set i (aI d' / aI b)).drop i = (aI d' / aI b) :: l.drop (i + 1) := by
   rw [List.drop_eq_getElem_cons (by simp; omega)]
   congr 1
   ·simp
   ·rw [List.drop_set_of_lt (by omega)]
  refine ih k _ r' (by omega) (by omega) (by simpa using hl) (fun j hj => ?_) ?_ q2 q3 ?_ (by rw [q5]; exact hm1) ?_
  ·rw [List.getElem?_set_ne (by omega)]; exact hz j (by omega)
  ·rw [hdrop]; exact yY hdl t0 t9
  ·exact Hn hb q2 q3 (by rw [q5]; omega)
  ·rw [hdrop, List.drop_eq_getElem_cons hia]
   simp only [aI]
   rw [hv, q5, Int.add_mul, Int.mul_assoc, Int.mul_comm (aI d' / aI b)]
   have : 10 * (aI (l.drop (i + 1)) * aI b + aI r) = 10 * (aI (l.drop (i + 1)) * aI b) + 10 * aI r := Int.mul_add _ _ _
   omega
theorem Fm {a b : List Int} (ha : dY a) (la : a.length < 400) (hb : dY b) (tb : sI b) (lb : b.length < 400) (hp : 0 < aI b) :
  ∃ q r, oF a b = some (q, r) ∧ dY q ∧ sI q ∧ dY r ∧ sI r ∧ q.length ≤ a.length ∧ r.length ≤ b.length ∧ aI q = aI a / aI b ∧ aI r = aI a % aI b := by
 unfold oF
 rw [dw (by omega), fL (by omega) (by omega)]
 have n0 := dM ha
 obtain ⟨q, r, h1, h2, h3, h4, h5, h6, h7, h8, h9⟩ := Aa ha la hb tb lb hp a.length aW (List.replicate a.length 0) [] (Nat.le_refl _) (by rw [aA]; omega) (by simp) (fun j hj => by simp [hj]) (by simp [dY]) rL wQ (by simp) (by simpa [aI] using hp) (by simp [aI])
 have r0 := dM h4
 refine ⟨q, r, by rw [show (a.length : Int).toNat = a.length by omega]; exact h1, h2, h3, h4, h5, h6, h7, ?_, ?_⟩
 ·rw [h8, Int.add_comm, Int.add_mul_ediv_right _ _ (by omega), Int.ediv_eq_zero_of_lt r0 h9]; omega
 ·rw [h8, Int.add_comm, Int.add_mul_emod_self_right, Int.emod_eq_of_lt r0 h9]
end Go.Proofs.YtpmoopnkoknbeaaGreatDoor.Nm
namespace Go.Proofs.YtpmoopnkoknbeaaGreatDoor.Nm
open Go Go.SX Go.SX.Cal
theorem Jx (p11 p10 p01 p00 : Int) (h11 : 0 ≤ p11 ∧ p11 ≤ 18446744065119617025) (h10 : 0 ≤ p10 ∧ p10 ≤ 18446744065119617025) (h01 : 0 ≤ p01 ∧ p01 ≤ 18446744065119617025) (h00 : 0 ≤ p00 ∧ p00 ≤ 18446744065119617025) :
  p11 + (p10 + p00 / 4294967296) / 4294967296 + ((p10 + p00 / 4294967296) % 4294967296 + p01) / 4294967296 = (p11 * 18446744073709551616 + (p10 + p01) * 4294967296 + p00) / 18446744073709551616 := by
 omega
theorem A2 {x y : Int} (h0 : 0 ≤ x) (h1 : x < 18446744073709551616) (k0 : 0 ≤ y) (k1 : y < 18446744073709551616) : fT x y = some (x * y / 18446744073709551616, x * y % 18446744073709551616) := by
 unfold fT
 simp only [ae, Nf]
 rw [CI h0 h1, CI k0 k1]
 simp only [wu]
 have hx0 : 0 ≤ x % 4294967296 ∧ x % 4294967296 < 4294967296 := by omega
 have hx1 : 0 ≤ x / 4294967296 ∧ x / 4294967296 < 4294967296 := by omega
 have hy0 : 0 ≤ y % 4294967296 ∧ y % 4294967296 < 4294967296 := by omega
 have hy1 : 0 ≤ y / 4294967296 ∧ y / 4294967296 < 4294967296 := by omega
 have ex : x = x / 4294967296 * 4294967296 + x % 4294967296 := by omega
 have ey : y = y / 4294967296 * 4294967296 + y % 4294967296 := by omega
 have exy : x * y = (x / 4294967296 * (y / 4294967296)) * 18446744073709551616 + (x / 4294967296 * (y % 4294967296) + x % 4294967296 * (y / 4294967296)) * 4294967296 + x % 4294967296 * (y % 4294967296) := by
  generalize x / 4294967296 = x1 at *
  generalize x % 4294967296 = x0 at *
  generalize y / 4294967296 = y1 at *
  generalize y % 4294967296 = y0 at *
  rw [ex, ey]
  simp only [Int.add_mul, Int.mul_add]
  have e1 : x1 * 4294967296 * (y1 * 4294967296) = x1 * y1 * 18446744073709551616 := by
   rw [Int.mul_assoc, Int.mul_left_comm 4294967296 y1, ← Int.mul_assoc]; rfl
  have e2 : x1 * 4294967296 * y0 = x1 * y0 * 4294967296 := by rw [Int.mul_assoc, Int.mul_comm 4294967296, ← Int.mul_assoc]
  have e3 : x0 * (y1 * 4294967296) = x0 * y1 * 4294967296 := by rw [Int.mul_assoc]
  rw [e1, e2, e3]; omega
 have b11 := Go.SX.Cal.prod_bound hx1.1 hx1.2 hy1.1 hy1.2
 have b10 := Go.SX.Cal.prod_bound hx1.1 hx1.2 hy0.1 hy0.2
 have b01 := Go.SX.Cal.prod_bound hx0.1 hx0.2 hy1.1 hy1.2
 have b00 := Go.SX.Cal.prod_bound hx0.1 hx0.2 hy0.1 hy0.2
 rw [Hw (x := x % 4294967296) (by omega) (by omega), Hw (x := y % 4294967296) (by omega) (by omega)]
 have L := Jx _ _ _ _ b11 b10 b01 b00
 rw [exy]
 generalize x / 4294967296 * (y / 4294967296) = p11 at *
 generalize x / 4294967296 * (y % 4294967296) = p10 at *
 generalize x % 4294967296 * (y / 4294967296) = p01 at *
 generalize x % 4294967296 * (y % 4294967296) = p00 at *
 rw [Hw (x := p10) (by omega) (by omega), Hw (x := p00) (by omega) (by omega), Hw (x := p01) (by omega) (by omega), Hw (x := p11) (by omega) (by omega), Hw (x := p10 + p00 / 4294967296) (by omega) (by omega)]
 rw [CI (x := p10 + p00 / 4294967296) (by omega) (by omega)]
 rw [Hw (x := (p10 + p00 / 4294967296) % 4294967296) (by omega) (by omega), Hw (x := (p10 + p00 / 4294967296) % 4294967296 + p01) (by omega) (by omega)]
 rw [Hw (x := p11 + (p10 + p00 / 4294967296) / 4294967296) (by omega) (by omega), Hw (x := p11 + (p10 + p00 / 4294967296) / 4294967296 + ((p10 + p00 / 4294967296) % 4294967296 + p01) / 4294967296) (by omega) (by omega), L]
theorem GO {w : aF} {n : Int} (h : W4 w) (n0 : 0 ≤ n) (n1 : n < 18446744073709551616) (hv : val w * n < 115792089237316195423570985008687907853269984665640564039457584007913129639936) :
  ∃ w', de w n = some w' ∧ W4 w' ∧ val w' = val w * n ∧ w'.neg = w.neg := by
 obtain ⟨neg, x0, x1, x2, x3⟩ := w
 obtain ⟨a0, a1, b0, b1, c0, c1, d0, d1⟩ := h
 simp only at a0 a1 b0 b1 c0 c1 d0 d1
 unfold de
 simp only
 rw [A2 a0 a1 n0 n1, A2 b0 b1 n0 n1, A2 c0 c1 n0 n1, A2 d0 d1 n0 n1]
 simp only [ae, wu]
 have hval : val ⟨neg, x0, x1, x2, x3⟩ * n = x0 * n + x1 * n * 18446744073709551616 + x2 * n * 340282366920938463463374607431768211456 + x3 * n * 6277101735386680763835789423207666416102355444464034512896 := by
  unfold val
  simp only [Int.add_mul]
  rw [Int.mul_right_comm x1, Int.mul_right_comm x2, Int.mul_right_comm x3]
 rw [hval] at hv ⊢
 obtain ⟨p1, p2, p3, p4⟩ := rT (c := 0) a0 a1 n0 n1 (by decide) (by decide)
 simp only [Int.add_zero] at p1 p2 p3 p4 ⊢
 rw [p1, p2]
 generalize hc1 : x0 * n / 18446744073709551616 = k1 at *
 obtain ⟨q1, q2, q3, q4⟩ := rT (c := k1) b0 b1 n0 n1 p3 p4
 rw [q1, q2]
 generalize hc2 : (x1 * n + k1) / 18446744073709551616 = k2 at *
 obtain ⟨r1, r2, r3, r4⟩ := rT (c := k2) c0 c1 n0 n1 q3 q4
 rw [r1, r2]
 generalize hc3 : (x2 * n + k2) / 18446744073709551616 = k3 at *
 obtain ⟨s1, s2, s3, s4⟩ := rT (c := k3) d0 d1 n0 n1 r3 r4
 rw [s2]
 have e0 := Int.mul_nonneg a0 n0
 have e1 := Int.mul_nonneg b0 n0
 have e2 := Int.mul_nonneg c0 n0
 have e3 := Int.mul_nonneg d0 n0
 clear p1 p2 q1 q2 r1 r2 s1 s2
 generalize x0 * n = P0 at *
 generalize x1 * n = P1 at *
 generalize x2 * n = P2 at *
 generalize x3 * n = P3 at *
 rw [dw (by omega), dw (by omega), dw (by omega), dw (by omega)]
 refine ⟨_, rfl, ⟨by simp only; omega, by simp only; omega, by simp only; omega, by simp only; omega, by simp only; omega, by simp only; omega, by simp only; omega, by simp only; omega⟩, ?_, rfl⟩
 simp only [val]
 have f0 : P0 = k1 * 18446744073709551616 + P0 % 18446744073709551616 := by omega
 have f1 : P1 + k1 = k2 * 18446744073709551616 + (P1 + k1) % 18446744073709551616 := by omega
 have f2 : P2 + k2 = k3 * 18446744073709551616 + (P2 + k2) % 18446744073709551616 := by omega
 have f3 : P3 + k3 = (P3 + k3) / 18446744073709551616 * 18446744073709551616 + (P3 + k3) % 18446744073709551616 := by omega
 have z : (P3 + k3) / 18446744073709551616 = 0 := by
  generalize P0 % 18446744073709551616 = m0 at *
  generalize (P1 + k1) % 18446744073709551616 = m1 at *
  generalize (P2 + k2) % 18446744073709551616 = m2 at *
  omega
 rw [z] at f3
 generalize P0 % 18446744073709551616 = m0 at *
 generalize (P1 + k1) % 18446744073709551616 = m1 at *
 generalize (P2 + k2) % 18446744073709551616 = m2 at *
 generalize (P3 + k3) % 18446744073709551616 = m3 at *
 omega
theorem Ha {a b : aF} (ha : W4 a) (hb : W4 b) : dp a b = some (c3 (val a) (val b)) := by
 obtain ⟨n, x0, x1, x2, x3⟩ := a
 obtain ⟨m, y0, y1, y2, y3⟩ := b
 obtain ⟨a0, a1, b0, b1, c0, c1, d0, d1⟩ := ha
 obtain ⟨e0, e1, f0, f1, g0, g1, h0, h1⟩ := hb
 simp only at *
 unfold dp
 simp only [aM, decide_eq_true_eq]
 unfold c3 val
 simp only
 by_cases q3 : x3 < y3
 ·rw [if_pos q3, if_pos (by omega)]
 rw [if_neg q3]
 by_cases q3' : y3 < x3
 ·rw [if_pos q3', if_neg (by omega), if_pos (by omega)]
 rw [if_neg q3']
 by_cases q2 : x2 < y2
 ·rw [if_pos q2, if_pos (by omega)]
 rw [if_neg q2]
 by_cases q2' : y2 < x2
 ·rw [if_pos q2', if_neg (by omega), if_pos (by omega)]
 rw [if_neg q2']
 by_cases q1 : x1 < y1
 ·rw [if_pos q1, if_pos (by omega)]
 rw [if_neg q1]
 by_cases q1' : y1 < x1
 ·rw [if_pos q1', if_neg (by omega), if_pos (by omega)]
 rw [if_neg q1']
 by_cases q0 : x0 < y0
 ·rw [if_pos q0, if_pos (by omega)]
 rw [if_neg q0]
 by_cases q0' : y0 < x0
 ·rw [if_pos q0', if_neg (by omega), if_pos (by omega)]
 rw [if_neg q0', if_neg (by omega), if_neg (by omega)]
def wd (A j : Nat) : Nat := A / 2 ^ (64 * j) % 2 ^ 64
def fl (s : Bool) (A : Nat) : aF := ⟨s, (wd A 0 : Int), (wd A 1 : Int), (wd A 2 : Int), (wd A 3 : Int)⟩
theorem eta_w (w : aF) : aF.mk w.neg (w.size.1, w.size.2.1, w.size.2.2.1, w.size.2.2.2) = w := rfl
theorem J0 (A : Nat) : wd A 0 = A % 18446744073709551616 := by unfold wd; simp
theorem Ls (A : Nat) : wd A 1 = A / 18446744073709551616 % 18446744073709551616 := by unfold wd; simp
theorem Lx (A : Nat) : wd A 2 = A / 340282366920938463463374607431768211456 % 18446744073709551616 := by unfold wd; simp
theorem Ly (A : Nat) : wd A 3 = A / 6277101735386680763835789423207666416102355444464034512896 % 18446744073709551616 := by unfold wd; simp
theorem pX (s : Bool) (A : Nat) : W4 (fl s A) := by
 have h : ∀ j, (0 : Int) ≤ (wd A j : Int) ∧ (wd A j : Int) < 18446744073709551616 := fun j => by
  have : wd A j < 2 ^ 64 := Nat.mod_lt _ (by decide)
  omega
 exact ⟨(h 0).1, (h 0).2, (h 1).1, (h 1).2, (h 2).1, (h 2).2, (h 3).1, (h 3).2⟩
theorem nu (s : Bool) (A : Nat) (h : A < 115792089237316195423570985008687907853269984665640564039457584007913129639936) : val (fl s A) = A := by
 unfold val fl
 simp only [J0, Ls, Lx, Ly]
 omega
theorem JT {w : aF} (h : W4 w) : w = fl w.neg (val w).toNat := by
 obtain ⟨neg, x0, x1, x2, x3⟩ := w
 obtain ⟨a0, a1, b0, b1, c0, c1, d0, d1⟩ := h
 simp only at a0 a1 b0 b1 c0 c1 d0 d1
 unfold fl val
 simp only [J0, Ls, Lx, Ly, aF.mk.injEq, Prod.mk.injEq, true_and]
 refine ⟨?_, ?_, ?_, ?_⟩ <;> omega
theorem J8 {w : aF} {s : Bool} {A : Nat} (h : W4 w) (hs : w.neg = s) (hv : val w = A) : w = fl s A := by
 rw [JT h, hs, hv]; rfl
theorem xa (s : Bool) (A m : Nat) (hm : m < 18446744073709551616) (h : A * m < 115792089237316195423570985008687907853269984665640564039457584007913129639936) (hA : A < 115792089237316195423570985008687907853269984665640564039457584007913129639936) : de (fl s A) (m : Int) = some (fl s (A * m)) := by
 have hv := nu s A hA
 obtain ⟨w, h1, h2, h3, h4⟩ := GO (n := (m : Int)) (pX s A) (by omega) (by omega) (by rw [hv]; omega)
 rw [h1, J8 h2 (s := s) (A := A * m) h4 (by rw [h3, hv]; push_cast; rfl)]
theorem xS (s t : Bool) (A B : Nat) (hA : A < 115792089237316195423570985008687907853269984665640564039457584007913129639936) (hB : B < 115792089237316195423570985008687907853269984665640564039457584007913129639936) : dp (fl s A) (fl t B) = some (c3 (A : Int) (B : Int)) := by
 rw [Ha (pX s A) (pX t B), nu s A hA, nu t B hB]
theorem whole_mk (n : Int) (h0 : -9223372036854775808 ≤ n) (h1 : n ≤ 9223372036854775807) : iC n = some (fl (decide (n < 0)) n.natAbs) := by
 unfold iC
 by_cases h : n < 0
 ·rw [show decide (n < 0) = true by simpa using h, aw]
  congr 1
  unfold fl
  simp only [J0, Ls, Lx, Ly, aF.mk.injEq, Prod.mk.injEq, true_and, wu]
  refine ⟨?_, ?_, ?_, ?_⟩ <;> omega
 ·rw [show decide (n < 0) = false by simpa using h, ah]
  congr 1
  unfold fl
  simp only [J0, Ls, Lx, Ly, aF.mk.injEq, Prod.mk.injEq, true_and, wu]
  refine ⟨?_, ?_, ?_, ?_⟩ <;> omega
theorem FB (s : Bool) (d : Nat) (hd : d ≤ 1000) : ∀ (j k A i : Nat), i + j = d → j < k → A * 10 ^ j < 115792089237316195423570985008687907853269984665640564039457584007913129639936 →
  cD (d : Int) k s (wd A 0) (wd A 1) (wd A 2) (wd A 3) (i : Int) = some (fl s (A * 10 ^ j)) := by
 intro j
 induction j with
 | zero =>
  intro k A i hi hk hA
  obtain ⟨k, rfl⟩ : ∃ q, k = q + 1 := ⟨k - 1, by omega⟩
  rw [cD, show decide ((i : Int) < (d : Int)) = false by simp; omega, ah, Nat.pow_zero, Nat.mul_one]
  rfl
 | succ j ih =>
  intro k A i hi hk hA
  obtain ⟨k, rfl⟩ : ∃ q, k = q + 1 := ⟨k - 1, by omega⟩
  have e : A * 10 ^ (j + 1) = A * 10 * 10 ^ j := by rw [Nat.pow_succ, Nat.mul_comm (10 ^ j) 10, Nat.mul_assoc]
  have hp : 0 < 10 ^ j := Nat.pow_pos (by decide)
  have hle : A * 10 * 1 ≤ A * 10 * 10 ^ j := Nat.mul_le_mul_left _ hp
  rw [e] at hA ⊢
  have ht := xa s A 10 (by decide) (by omega) (by omega)
  rw [cD, show decide ((i : Int) < (d : Int)) = true by simp; omega, aw]
  have ht' : de (aF.mk s ((wd A 0 : Int), (wd A 1 : Int), (wd A 2 : Int), (wd A 3 : Int))) (10 : Int) = some (fl s (A * 10)) := ht
  rw [ht', au, fL (by omega) (by omega), show (i : Int) + 1 = ((i + 1 : Nat) : Int) by omega]
  exact ih k (A * 10) (i + 1) (by omega) (by omega) hA
theorem shifted_mk (s : Bool) (A d : Nat) (hd : d ≤ 1000) (h : A * 10 ^ d < 115792089237316195423570985008687907853269984665640564039457584007913129639936) : iJ (fl s A) (d : Int) = some (fl s (A * 10 ^ d)) :=
 FB s d hd d aW A 0 (by omega) (by rw [aA]; omega) h
theorem FK (n : Int) (d : Nat) (h0 : -9223372036854775808 ≤ n) (h1 : n ≤ 9223372036854775807) (hd : d ≤ 1000) (h : n.natAbs * 10 ^ d < 115792089237316195423570985008687907853269984665640564039457584007913129639936) :
  lS n (d : Int) = some (fl (decide (n < 0)) (n.natAbs * 10 ^ d)) := by
 unfold lS
 rw [whole_mk n h0 h1, au, eta_w, shifted_mk _ _ d hd h, au]
theorem zFS {s t : Bool} {x0 x1 x2 x3 y0 y1 y2 y3 : Int} (ha : W4 ⟨s, x0, x1, x2, x3⟩) (hb : W4 ⟨t, y0, y1, y2, y3⟩) (hle : val ⟨t, y0, y1, y2, y3⟩ ≤ val ⟨s, x0, x1, x2, x3⟩) :
  ∃ w, eP s x0 x1 x2 x3 t y0 y1 y2 y3 = some w ∧ W4 w ∧ w.neg = s ∧ val w = val ⟨s, x0, x1, x2, x3⟩ - val ⟨t, y0, y1, y2, y3⟩ := by
 obtain ⟨a0, a1, b0, b1, c0, c1, d0, d1⟩ := ha
 obtain ⟨e0, e1, f0, f1, g0, g1, h0, h1⟩ := hb
 simp only at a0 a1 b0 b1 c0 c1 d0 d1 e0 e1 f0 f1 g0 g1 h0 h1
 simp only [val] at hle ⊢
 unfold eP
 simp only [ae, Int.add_zero, Int.sub_zero]
 have k1 : ∃ u, (if x0 < y0 then (1 : Int) else 0) = u ∧ 0 ≤ u ∧ u ≤ 1 ∧ (x0 - y0) % 18446744073709551616 = x0 - y0 + u * 18446744073709551616 := by
  split
  ·exact ⟨1, rfl, by omega, by omega, by omega⟩
  ·exact ⟨0, rfl, by omega, by omega, by omega⟩
 obtain ⟨u1, p1, p2, p3, p4⟩ := k1
 rw [p1, p4]
 have k2 : ∃ u, (if x1 < y1 + u1 then (1 : Int) else 0) = u ∧ 0 ≤ u ∧ u ≤ 1 ∧ (x1 - y1 - u1) % 18446744073709551616 = x1 - y1 - u1 + u * 18446744073709551616 := by
  split
  ·exact ⟨1, rfl, by omega, by omega, by omega⟩
  ·exact ⟨0, rfl, by omega, by omega, by omega⟩
 obtain ⟨u2, q1, q2, q3, q4⟩ := k2
 rw [q1, q4]
 have k3 : ∃ u, (if x2 < y2 + u2 then (1 : Int) else 0) = u ∧ 0 ≤ u ∧ u ≤ 1 ∧ (x2 - y2 - u2) % 18446744073709551616 = x2 - y2 - u2 + u * 18446744073709551616 := by
  split
  ·exact ⟨1, rfl, by omega, by omega, by omega⟩
  ·exact ⟨0, rfl, by omega, by omega, by omega⟩
 obtain ⟨u3, r1, r2, r3, r4⟩ := k3
 rw [r1, r4]
 rw [dw (by omega), dw (by omega), dw (by omega), dw (by omega)]
 have p5 : 0 ≤ x0 - y0 + u1 * 18446744073709551616 ∧ x0 - y0 + u1 * 18446744073709551616 < 18446744073709551616 := by omega
 have q5 : 0 ≤ x1 - y1 - u1 + u2 * 18446744073709551616 ∧ x1 - y1 - u1 + u2 * 18446744073709551616 < 18446744073709551616 := by omega
 have r5 : 0 ≤ x2 - y2 - u2 + u3 * 18446744073709551616 ∧ x2 - y2 - u2 + u3 * 18446744073709551616 < 18446744073709551616 := by omega
 clear p1 p4 q1 q4 r1 r4
 have s5 : (x3 - y3 - u3) % 18446744073709551616 = x3 - y3 - u3 := by omega
 rw [s5]
 refine ⟨_, rfl, ⟨p5.1, p5.2, q5.1, q5.2, r5.1, r5.2, by simp only; omega, by simp only; omega⟩, rfl, ?_⟩
 simp only
 omega
theorem Bn {k : Nat} {b : Bool} {x0 x1 x2 x3 y0 y1 y2 y3 : Int} (ha : W4 ⟨b, x0, x1, x2, x3⟩) (hb : W4 ⟨b, y0, y1, y2, y3⟩) (hv : val ⟨b, x0, x1, x2, x3⟩ + val ⟨b, y0, y1, y2, y3⟩ < 115792089237316195423570985008687907853269984665640564039457584007913129639936) :
  ∃ w, dS (k + 1) ⟨b, x0, x1, x2, x3⟩ ⟨b, y0, y1, y2, y3⟩ = some w ∧ W4 w ∧ w.neg = b ∧ val w = val ⟨b, x0, x1, x2, x3⟩ + val ⟨b, y0, y1, y2, y3⟩ := by
 obtain ⟨a0, a1, b0, b1', c0, c1, d0, d1⟩ := ha
 obtain ⟨e0, e1, f0, f1, g0, g1, h0, h1⟩ := hb
 simp only at a0 a1 b0 b1' c0 c1 d0 d1 e0 e1 f0 f1 g0 g1 h0 h1
 rw [dS]
 simp only [beq_self_eq_true, Bool.not_true, ah, ae, Int.add_zero]
 simp only [val] at hv ⊢
 have m0 : x0 + y0 = (x0 + y0) / 18446744073709551616 * 18446744073709551616 + (x0 + y0) % 18446744073709551616 := by omega
 have u0 : 0 ≤ (x0 + y0) / 18446744073709551616 ∧ (x0 + y0) / 18446744073709551616 ≤ 1 := by omega
 have v0 : 0 ≤ (x0 + y0) % 18446744073709551616 ∧ (x0 + y0) % 18446744073709551616 < 18446744073709551616 := by omega
 generalize (x0 + y0) / 18446744073709551616 = t0 at *
 generalize (x0 + y0) % 18446744073709551616 = r0 at *
 have m1 : x1 + y1 + t0 = (x1 + y1 + t0) / 18446744073709551616 * 18446744073709551616 + (x1 + y1 + t0) % 18446744073709551616 := by omega
 have u1 : 0 ≤ (x1 + y1 + t0) / 18446744073709551616 ∧ (x1 + y1 + t0) / 18446744073709551616 ≤ 1 := by omega
 have v1 : 0 ≤ (x1 + y1 + t0) % 18446744073709551616 ∧ (x1 + y1 + t0) % 18446744073709551616 < 18446744073709551616 := by omega
 generalize (x1 + y1 + t0) / 18446744073709551616 = t1 at *
 generalize (x1 + y1 + t0) % 18446744073709551616 = r1 at *
 have m2 : x2 + y2 + t1 = (x2 + y2 + t1) / 18446744073709551616 * 18446744073709551616 + (x2 + y2 + t1) % 18446744073709551616 := by omega
 have u2 : 0 ≤ (x2 + y2 + t1) / 18446744073709551616 ∧ (x2 + y2 + t1) / 18446744073709551616 ≤ 1 := by omega
 have v2 : 0 ≤ (x2 + y2 + t1) % 18446744073709551616 ∧ (x2 + y2 + t1) % 18446744073709551616 < 18446744073709551616 := by omega
 generalize (x2 + y2 + t1) / 18446744073709551616 = t2 at *
 generalize (x2 + y2 + t1) % 18446744073709551616 = r2 at *
 have m3 : x3 + y3 + t2 = (x3 + y3 + t2) / 18446744073709551616 * 18446744073709551616 + (x3 + y3 + t2) % 18446744073709551616 := by omega
 have u3 : 0 ≤ (x3 + y3 + t2) / 18446744073709551616 ∧ (x3 + y3 + t2) / 18446744073709551616 ≤ 1 := by omega
 have v3 : 0 ≤ (x3 + y3 + t2) % 18446744073709551616 ∧ (x3 + y3 + t2) % 18446744073709551616 < 18446744073709551616 := by omega
 generalize (x3 + y3 + t2) / 18446744073709551616 = t3 at *
 generalize (x3 + y3 + t2) % 18446744073709551616 = r3 at *
 rw [dw (by omega), dw (by omega), dw (by omega), dw (by omega)]
 have z : t3 = 0 := by omega
 subst z
 refine ⟨_, rfl, ⟨v0.1, v0.2, v1.1, v1.2, v2.1, v2.2, v3.1, v3.2⟩, rfl, ?_⟩
 simp only
 omega
theorem xC (a b : aF) (ha : W4 a) (hb : W4 b) (hle : val b ≤ val a) :
  eP a.neg a.size.1 a.size.2.1 a.size.2.2.1 a.size.2.2.2 b.neg b.size.1 b.size.2.1 b.size.2.2.1 b.size.2.2.2 = some (fl a.neg (val a - val b).toNat) := by
 obtain ⟨w, h1, h2, h3, h4⟩ := zFS ha hb hle
 rw [h1, JT h2, h3, h4]
theorem Ao (k : Nat) (s : Bool) (A B : Nat) (hv : A + B < 115792089237316195423570985008687907853269984665640564039457584007913129639936) :
  dS (k + 1) (fl s A) (fl s B) = some (fl s (A + B)) := by
 have va := nu s A (by omega)
 have vb := nu s B (by omega)
 have hv' : val (fl s A) + val (fl s B) < 115792089237316195423570985008687907853269984665640564039457584007913129639936 := by rw [va, vb]; omega
 obtain ⟨w, h1, h2, h3, h4⟩ := Bn (k := k) (pX s A) (pX s B) hv'
 have h5 : val w = ((A + B : Nat) : Int) := by
  have : val w = val (fl s A) + val (fl s B) := h4
  rw [this, va, vb]; omega
 have h6 := J8 h2 h3 h5
 rw [h6] at h1
 exact h1
def sgv (s : Bool) (A : Nat) : Int := if s = true then -(A : Int) else (A : Int)
theorem Kx {a b : Int} : decide (c3 a b < 0) = decide (a < b) := by
 unfold c3
 by_cases h : a < b
 ·simp [h]
 ·rw [if_neg h]; split <;> simp [h]
theorem yJ (k : Nat) (s : Bool) (A B : Nat) (hA : A < 115792089237316195423570985008687907853269984665640564039457584007913129639936) (hB : B < 115792089237316195423570985008687907853269984665640564039457584007913129639936) :
  ec (k + 1) (fl s A) (fl s B) = some (if A < B then fl (!s) (B - A) else fl s (A - B)) := by
 rw [ec, show (fl s A).neg = s from rfl, show (fl s B).neg = s from rfl]
 simp only [beq_self_eq_true, Bool.not_true, ah]
 have e := xS s s A B hA hB
 have e' : dp (aF.mk s ((fl s A).size.1, (fl s A).size.2.1, (fl s A).size.2.2.1, (fl s A).size.2.2.2)) (aF.mk s ((fl s B).size.1, (fl s B).size.2.1, (fl s B).size.2.2.1, (fl s B).size.2.2.2)) = some (c3 (A : Int) (B : Int)) := e
 rw [e', au, Kx]
 by_cases h : A < B
 ·rw [show decide ((A : Int) < (B : Int)) = true by simpa using h, aw, if_pos h]
  unfold gz
  rw [au]
  have va := nu s A hA
  have vb := nu (!s) B hB
  have q := xC (fl (!s) B) (fl s A) (pX _ _) (pX _ _) (by rw [va, vb]; omega)
  rw [va, vb, show ((B : Int) - (A : Int)).toNat = B - A by omega] at q
  exact q
 ·rw [show decide ((A : Int) < (B : Int)) = false by simpa using h, ah, if_neg h]
  have va := nu s A hA
  have vb := nu s B hB
  have q := xC (fl s A) (fl s B) (pX _ _) (pX _ _) (by rw [va, vb]; omega)
  rw [va, vb, show ((A : Int) - (B : Int)).toNat = A - B by omega] at q
  exact q
end Go.Proofs.YtpmoopnkoknbeaaGreatDoor.Nm
namespace Go.Proofs.YtpmoopnkoknbeaaGreatDoor.Nm
open Go Go.SX Go.SX.Cal
theorem EL (Q n j : Nat) : wd (Q ||| 2 ^ n) j = wd Q j ||| (if j = n / 64 then 2 ^ (n % 64) else 0) := by
 refine Nat.eq_of_testBit_eq fun i => ?_
 unfold wd
 rw [Nat.testBit_mod_two_pow, Nat.testBit_div_two_pow, Nat.testBit_or, Nat.testBit_or, Nat.testBit_mod_two_pow, Nat.testBit_div_two_pow, Nat.testBit_two_pow]
 by_cases hj : j = n / 64
 ·rw [if_pos hj, Nat.testBit_two_pow]
  by_cases hi : i < 64
  ·have : (n = i + 64 * j) ↔ (n % 64 = i) := by omega
   simp [hi, this]
  ·have : ¬ (n % 64 = i) := by omega
   simp [hi, this]
 ·rw [if_neg hj]
  by_cases hi : i < 64
  ·have : ¬ (n = i + 64 * j) := by omega
   simp [hi, this]
  ·simp [hi]
theorem Ks (A n : Nat) : wd A (n / 64) / 2 ^ (n % 64) % 2 = A / 2 ^ n % 2 := by
 have h : (wd A (n / 64)).testBit (n % 64) = A.testBit n := by
  unfold wd
  rw [Nat.testBit_mod_two_pow, Nat.testBit_div_two_pow, show n % 64 + 64 * (n / 64) = n by omega]
  have : n % 64 < 64 := Nat.mod_lt _ (by decide)
  simp [this]
 rw [Nat.testBit_eq_decide_div_mod_eq, Nat.testBit_eq_decide_div_mod_eq] at h
 have h1 := Nat.mod_two_eq_zero_or_one (wd A (n / 64) / 2 ^ (n % 64))
 have h2 := Nat.mod_two_eq_zero_or_one (A / 2 ^ n)
 rcases h1 with h1 | h1 <;> rcases h2 with h2 | h2 <;> simp_all
theorem MB (x : Nat) (h : x < 18446744073709551616) : (BitVec.ofInt 64 (x : Int)).toNat = x := by
 rw [BitVec.toNat_ofInt]
 have : (x : Int) % ((2 ^ 64 : Nat) : Int) = x := by omega
 rw [this]; rfl
theorem DT (x y : Nat) (hx : x < 18446744073709551616) (hy : y < 18446744073709551616) : IntKind.u64.wrap ((BitVec.ofInt (IntKind.u64).bits (x : Int) ||| BitVec.ofInt (IntKind.u64).bits (y : Int)).toNat : Int) = ((x ||| y : Nat) : Int) := by
 show IntKind.u64.wrap ((BitVec.ofInt 64 (x : Int) ||| BitVec.ofInt 64 (y : Int)).toNat : Int) = _
 rw [BitVec.toNat_or, MB x hx, MB y hy, wu]
 have : x ||| y < 2 ^ 64 := Nat.or_lt_two_pow hx hy
 omega
theorem LV (x : Nat) (hx : x < 18446744073709551616) : IntKind.u64.wrap ((BitVec.ofInt (IntKind.u64).bits (x : Int) &&& BitVec.ofInt (IntKind.u64).bits (1 : Int)).toNat : Int) = ((x % 2 : Nat) : Int) := by
 show IntKind.u64.wrap ((BitVec.ofInt 64 (x : Int) &&& BitVec.ofInt 64 ((1 : Nat) : Int)).toNat : Int) = _
 rw [BitVec.toNat_and, MB x hx, MB 1 (by decide), wu]
 have e : x &&& 1 = x % 2 := Nat.and_two_pow_sub_one_eq_mod x 1
 rw [e]
 omega
theorem KK (x b : Nat) (hx : x % 2 = 0) (hb : b < 2) : x ||| b = x + b := by
 have := Nat.two_pow_add_eq_or_of_lt (i := 1) (b := b) (by simpa using hb) (x / 2)
 rw [show 2 ^ 1 * (x / 2) = x by omega] at this
 exact this.symm
theorem fd (x s : Nat) : (x : Int).fdiv (2 ^ s) = ((x / 2 ^ s : Nat) : Int) := by
 rw [Int.fdiv_eq_ediv_of_nonneg _ (Int.le_of_lt (Int.pow_pos (by decide)))]
 push_cast; rfl
theorem qC (A j : Nat) : wd A j < 18446744073709551616 := Nat.mod_lt _ (by decide)
theorem J9 (s : Nat) (h : s < 64) : min ((s : Int)).toNat (IntKind.u64).bits = s := by
 show min ((s : Int)).toNat 64 = s
 omega
theorem L5 (s : Nat) (h : s < 64) : IntKind.u64.wrap ((1 : Int) * 2 ^ s) = ((2 ^ s : Nat) : Int) := by
 have : 2 ^ s < 2 ^ 64 := Nat.pow_lt_pow_right (by decide) h
 rw [wu, Int.one_mul, show ((2 : Int) ^ s) = ((2 ^ s : Nat) : Int) by push_cast; rfl]
 generalize 2 ^ s = P at *
 omega
theorem La (R b : Nat) (hb : b < 2) : wd (R * 2) 0 ||| b = wd (R * 2 + b) 0 ∧ wd (R * 2) 1 = wd (R * 2 + b) 1 ∧ wd (R * 2) 2 = wd (R * 2 + b) 2 ∧ wd (R * 2) 3 = wd (R * 2 + b) 3 := by
 rw [KK _ _ (by rw [J0]; omega) hb]
 simp only [J0, Ls, Lx, Ly]
 omega
abbrev QT := Int → Int → Int → Int → Bool → Int → Int → Int → Int → Int → Option (aF × aF)
theorem Lf (rec1 : QT) (t b : Bool) (B Q C n : Nat) (hn : n < 256) (hB : B < 57896044618658097711785492504343953926634992332820282019728792003956564819968) (hC : C < 115792089237316195423570985008687907853269984665640564039457584007913129639936) (r1 : aF) (hr : r1.neg = b) (h1 : r1.size.2.1 = (wd C 1 : Int)) (h2 : r1.size.2.2.1 = (wd C 2 : Int)) (h3 : r1.size.2.2.2 = (wd C 3 : Int)) :
  ew rec1 (fl t B) (wd Q 0) (wd Q 1) (wd Q 2) (wd Q 3) (n : Int) r1 (wd C 0) =
   if B ≤ C then rec1 (wd (Q ||| 2 ^ n) 0) (wd (Q ||| 2 ^ n) 1) (wd (Q ||| 2 ^ n) 2) (wd (Q ||| 2 ^ n) 3) false (wd (C - B) 0) (wd (C - B) 1) (wd (C - B) 2) (wd (C - B) 3) ((n : Int) - 1)
   else rec1 (wd Q 0) (wd Q 1) (wd Q 2) (wd Q 3) b (wd C 0) (wd C 1) (wd C 2) (wd C 3) ((n : Int) - 1) := by
 unfold ew
 rw [h1, h2, h3, hr, eta_w]
 have e1 : dp (aF.mk b ((wd C 0 : Int), (wd C 1 : Int), (wd C 2 : Int), (wd C 3 : Int))) (fl t B) = some (c3 (C : Int) (B : Int)) := xS b t C B hC (by omega)
 rw [e1, au]
 have hw : IntKind.i64.wrap ((n : Int) - 1) = (n : Int) - 1 := fL (by omega) (by omega)
 by_cases h : B ≤ C
 ·rw [show decide ((0 : Int) ≤ c3 (C : Int) (B : Int)) = true by unfold c3; rw [if_neg (by omega)]; split <;> simp, aw, if_pos h]
  have e2 : ec aW (aF.mk false ((wd C 0 : Int), (wd C 1 : Int), (wd C 2 : Int), (wd C 3 : Int))) (aF.mk false ((fl t B).size.1, (fl t B).size.2.1, (fl t B).size.2.2.1, (fl t B).size.2.2.2)) = some (fl false (C - B)) := by
   have := yJ 1152921504606846975 false C B hC (by omega)
   rw [if_neg (by omega)] at this
   exact this
  rw [e2, au]
  have e3 : IntKind.i64.wrap ((n : Int).tdiv 64) = ((n / 64 : Nat) : Int) := by
   rw [Int.tdiv_eq_ediv_of_nonneg (by omega), fL (by omega) (by omega)]; omega
  have e4 : (n : Int).tmod 64 = ((n % 64 : Nat) : Int) := by
   rw [Int.tmod_eq_emod_of_nonneg (by omega)]; omega
  have hs : n % 64 < 64 := Nat.mod_lt _ (by decide)
  have hp : 2 ^ (n % 64) < 18446744073709551616 := Nat.pow_lt_pow_right (by decide) hs
  rw [e3, e4, J9 _ hs, L5 _ hs]
  simp only [au]
  rw [DT _ _ (qC Q 0) hp, DT _ _ (qC Q 1) hp, DT _ _ (qC Q 2) hp, DT _ _ (qC Q 3) hp, EL Q n 0, EL Q n 1, EL Q n 2, EL Q n 3]
  have hc : n / 64 = 0 ∨ n / 64 = 1 ∨ n / 64 = 2 ∨ n / 64 = 3 := by omega
  unfold dK bI
  have hg : (0 : Int) ≤ ((n % 64 : Nat) : Int) := by omega
  simp only [if_pos hg, hw]
  rcases hc with hc | hc | hc | hc <;> simp only [hc, aM] <;> simp [fl]
 ·rw [show decide ((0 : Int) ≤ c3 (C : Int) (B : Int)) = false by unfold c3; rw [if_pos (by omega)]; rfl, ah, if_neg h]
  unfold dK
  rw [hw]
theorem Ht (s t b : Bool) (A B Q R n k : Nat) (hn : n < 256) (hB : B < 57896044618658097711785492504343953926634992332820282019728792003956564819968) (hR : R < B) :
  bh (fl s A) (fl t B) (k + 1) (wd Q 0) (wd Q 1) (wd Q 2) (wd Q 3) b (wd R 0) (wd R 1) (wd R 2) (wd R 3) (n : Int) =
   if B ≤ R * 2 + A / 2 ^ n % 2 then bh (fl s A) (fl t B) k (wd (Q ||| 2 ^ n) 0) (wd (Q ||| 2 ^ n) 1) (wd (Q ||| 2 ^ n) 2) (wd (Q ||| 2 ^ n) 3) false (wd (R * 2 + A / 2 ^ n % 2 - B) 0) (wd (R * 2 + A / 2 ^ n % 2 - B) 1) (wd (R * 2 + A / 2 ^ n % 2 - B) 2) (wd (R * 2 + A / 2 ^ n % 2 - B) 3) ((n : Int) - 1)
   else bh (fl s A) (fl t B) k (wd Q 0) (wd Q 1) (wd Q 2) (wd Q 3) b (wd (R * 2 + A / 2 ^ n % 2) 0) (wd (R * 2 + A / 2 ^ n % 2) 1) (wd (R * 2 + A / 2 ^ n % 2) 2) (wd (R * 2 + A / 2 ^ n % 2) 3) ((n : Int) - 1) := by
 rw [bh, show decide ((0 : Int) ≤ (n : Int)) = true by simp, aw]
 have e1 : de (aF.mk b ((wd R 0 : Int), (wd R 1 : Int), (wd R 2 : Int), (wd R 3 : Int))) (2 : Int) = some (fl b (R * 2)) := xa b R 2 (by decide) (by omega) (by omega)
 rw [e1, au]
 have e3 : IntKind.i64.wrap ((n : Int).tdiv 64) = ((n / 64 : Nat) : Int) := by
  rw [Int.tdiv_eq_ediv_of_nonneg (by omega), fL (by omega) (by omega)]; omega
 have e4 : (n : Int).tmod 64 = ((n % 64 : Nat) : Int) := by
  rw [Int.tmod_eq_emod_of_nonneg (by omega)]; omega
 have hs : n % 64 < 64 := Nat.mod_lt _ (by decide)
 have hbit : A / 2 ^ n % 2 < 2 := Nat.mod_lt _ (by decide)
 have hb2 := Ks A n
 generalize hbb : A / 2 ^ n % 2 = bit at *
 obtain ⟨w0, w1, w2, w3⟩ := La R bit hbit
 have fin := Lf (bh (fl s A) (fl t B) k) t b B Q (R * 2 + bit) n hn hB (by omega) (fl b (R * 2)) rfl (by rw [← w1]; rfl) (by rw [← w2]; rfl) (by rw [← w3]; rfl)
 rw [e3, e4, J9 _ hs]
 simp only [au]
 have key : ∀ j, n / 64 = j → IntKind.u64.wrap ((BitVec.ofInt (IntKind.u64).bits (fl b (R * 2)).size.1 ||| BitVec.ofInt (IntKind.u64).bits (IntKind.u64.wrap ((BitVec.ofInt (IntKind.u64).bits ((wd A j : Int).fdiv (2 ^ (n % 64))) &&& BitVec.ofInt (IntKind.u64).bits (1 : Int)).toNat : Int))).toNat : Int) = (wd (R * 2 + bit) 0 : Int) := by
  intro j hj
  subst hj
  have hlt : wd A (n / 64) / 2 ^ (n % 64) < 18446744073709551616 := Nat.lt_of_le_of_lt (Nat.div_le_self _ _) (qC _ _)
  rw [fd, LV _ hlt, hb2, show (fl b (R * 2)).size.1 = (wd (R * 2) 0 : Int) from rfl, DT _ _ (qC _ _) (by omega), w0]
 have hc : n / 64 = 0 ∨ n / 64 = 1 ∨ n / 64 = 2 ∨ n / 64 = 3 := by omega
 have hg : (0 : Int) ≤ ((n % 64 : Nat) : Int) := by omega
 simp only [bI, if_pos hg]
 rcases hc with hc | hc | hc | hc
 ·rw [hc, show (((0 : Nat) : Int) == (0 : Int)) = true from rfl, aw]
  have := key 0 hc
  rw [show (fl s A).size.1 = (wd A 0 : Int) from rfl, this]; exact fin
 ·rw [hc, show (((1 : Nat) : Int) == (0 : Int)) = false from rfl, show (((1 : Nat) : Int) == (1 : Int)) = true from rfl, ah, aw]
  have := key 1 hc
  rw [show (fl s A).size.2.1 = (wd A 1 : Int) from rfl, this]; exact fin
 ·rw [hc, show (((2 : Nat) : Int) == (0 : Int)) = false from rfl, show (((2 : Nat) : Int) == (1 : Int)) = false from rfl, show (((2 : Nat) : Int) == (2 : Int)) = true from rfl, ah, ah, aw]
  have := key 2 hc
  rw [show (fl s A).size.2.2.1 = (wd A 2 : Int) from rfl, this]; exact fin
 ·rw [hc, show (((3 : Nat) : Int) == (0 : Int)) = false from rfl, show (((3 : Nat) : Int) == (1 : Int)) = false from rfl, show (((3 : Nat) : Int) == (2 : Int)) = false from rfl, show (((3 : Nat) : Int) == (3 : Int)) = true from rfl, ah, ah, ah, aw]
  have := key 3 hc
  rw [show (fl s A).size.2.2.2 = (wd A 3 : Int) from rfl, this]; exact fin
theorem HU (P B bit : Nat) (hB : 0 < B) (hb : bit < 2) :
  (B ≤ P % B * 2 + bit → (2 * P + bit) / B = 2 * (P / B) + 1 ∧ (2 * P + bit) % B = P % B * 2 + bit - B) ∧
  (¬ B ≤ P % B * 2 + bit → (2 * P + bit) / B = 2 * (P / B) ∧ (2 * P + bit) % B = P % B * 2 + bit) := by
 have h := Nat.div_add_mod P B
 have hm := Nat.mod_lt P hB
 have e : B * (2 * (P / B)) = 2 * (B * (P / B)) := by rw [Nat.mul_left_comm]
 constructor
 ·intro hc
  have e2 : B * (2 * (P / B) + 1) = B * (2 * (P / B)) + B := by rw [Nat.mul_add, Nat.mul_one]
  exact (Nat.div_mod_unique hB).2 ⟨by omega, by omega⟩
 ·intro hc
  exact (Nat.div_mod_unique hB).2 ⟨by omega, by omega⟩
theorem Hy (s t : Bool) (A B : Nat) (hB0 : 0 < B) (hB : B < 57896044618658097711785492504343953926634992332820282019728792003956564819968) : ∀ (n k : Nat) (b : Bool), n ≤ 256 → n < k →
  bh (fl s A) (fl t B) k (wd (2 ^ n * (A / 2 ^ n / B)) 0) (wd (2 ^ n * (A / 2 ^ n / B)) 1) (wd (2 ^ n * (A / 2 ^ n / B)) 2) (wd (2 ^ n * (A / 2 ^ n / B)) 3) b (wd (A / 2 ^ n % B) 0) (wd (A / 2 ^ n % B) 1) (wd (A / 2 ^ n % B) 2) (wd (A / 2 ^ n % B) 3) ((n : Int) - 1) = some (fl (!(s == t)) (A / B), fl s (A % B)) := by
 intro n
 induction n with
 | zero =>
  intro k b hn hk
  obtain ⟨k, rfl⟩ : ∃ q, k = q + 1 := ⟨k - 1, by omega⟩
  rw [bh, show decide ((0 : Int) ≤ ((0 : Nat) : Int) - 1) = false from rfl, ah, Nat.pow_zero, Nat.one_mul, Nat.div_one]
  rfl
 | succ n ih =>
  intro k b hn hk
  obtain ⟨k, rfl⟩ : ∃ q, k = q + 1 := ⟨k - 1, by omega⟩
  have hA : A / 2 ^ n = 2 * (A / 2 ^ (n + 1)) + A / 2 ^ n % 2 := by
   rw [Nat.pow_succ, ← Nat.div_div_eq_div_mul]; omega
  rw [show ((n + 1 : Nat) : Int) - 1 = (n : Int) by omega, Ht s t b A B _ _ n k (by omega) hB (Nat.mod_lt _ hB0)]
  obtain ⟨d1, d2⟩ := HU (A / 2 ^ (n + 1)) B (A / 2 ^ n % 2) hB0 (Nat.mod_lt _ (by decide))
  rw [← hA] at d1 d2
  by_cases hc : B ≤ A / 2 ^ (n + 1) % B * 2 + A / 2 ^ n % 2
  ·rw [if_pos hc]
   obtain ⟨q1, q2⟩ := d1 hc
   rw [← q2]
   have hq : 2 ^ (n + 1) * (A / 2 ^ (n + 1) / B) ||| 2 ^ n = 2 ^ n * (A / 2 ^ n / B) := by
    rw [← Nat.two_pow_add_eq_or_of_lt (Nat.pow_lt_pow_right (by decide) (by omega)), q1, Nat.pow_succ, Nat.mul_add, Nat.mul_one, Nat.mul_assoc]
   rw [hq]
   exact ih k false (by omega) (by omega)
  ·rw [if_neg hc]
   obtain ⟨q1, q2⟩ := d2 hc
   rw [← q2]
   have hq : 2 ^ (n + 1) * (A / 2 ^ (n + 1) / B) = 2 ^ n * (A / 2 ^ n / B) := by
    rw [q1, Nat.pow_succ, Nat.mul_assoc]
   rw [hq]
   exact ih k b (by omega) (by omega)
theorem KM (s t : Bool) (A B : Nat) (hA : A < 115792089237316195423570985008687907853269984665640564039457584007913129639936) (hB0 : 0 < B) (hB : B < 57896044618658097711785492504343953926634992332820282019728792003956564819968) :
  nW (fl s A) (fl t B) = some (fl (!(s == t)) (A / B), fl s (A % B)) := by
 have h := Hy s t A B hB0 hB 256 aW false (Nat.le_refl _) (by rw [aA]; omega)
 have hz : A / 2 ^ 256 = 0 := Nat.div_eq_of_lt hA
 rw [hz, Nat.zero_div, Nat.mul_zero, Nat.zero_mod] at h
 exact h
def rhn (A B : Nat) : Nat := if B < A % B * 2 ∨ (A % B * 2 = B ∧ A / B % 2 = 1) then A / B + 1 else A / B
theorem KX (A B : Nat) : rhn A B ≤ A / B + 1 := by unfold rhn; split <;> omega
theorem rounded_mk (s t : Bool) (A B : Nat) (hA : A < 57896044618658097711785492504343953926634992332820282019728792003956564819968) (hB0 : 0 < B) (hB : B < 57896044618658097711785492504343953926634992332820282019728792003956564819968) :
  iE (fl s A) (fl t B) = some (fl (!(s == t)) (rhn A B)) := by
 unfold iE
 have hm := Nat.mod_lt A hB0
 have hd := Nat.div_le_self A B
 rw [eta_w, eta_w, KM s t A B (by omega) hB0 hB, au]
 simp only
 have e1 : de (fl s (A % B)) (2 : Int) = some (fl s (A % B * 2)) := xa s (A % B) 2 (by decide) (by omega) (by omega)
 rw [eta_w, e1, au, eta_w, xS s t (A % B * 2) B (by omega) (by omega), au]
 rw [show (fl (!(s == t)) (A / B)).size.1 = (wd (A / B) 0 : Int) from rfl, LV _ (qC _ _), au]
 have hbit : wd (A / B) 0 % 2 = A / B % 2 := by rw [J0]; omega
 rw [hbit]
 have up : dk (fl (!(s == t)) (A / B), fl s (A % B)) true = some (fl (!(s == t)) (A / B + 1)) := by
  unfold dk
  rw [aw, whole_mk 1 (by decide) (by decide), au]
  have := Ao 1152921504606846975 (!(s == t)) (A / B) 1 (by omega)
  have e : dS aW (aF.mk (fl (!(s == t)) (A / B)).neg ((fl (!(s == t)) (A / B)).size.1, (fl (!(s == t)) (A / B)).size.2.1, (fl (!(s == t)) (A / B)).size.2.2.1, (fl (!(s == t)) (A / B)).size.2.2.2)) (aF.mk (fl (!(s == t)) (A / B)).neg ((fl (decide ((1 : Int) < 0)) (Int.natAbs 1)).size.1, (fl (decide ((1 : Int) < 0)) (Int.natAbs 1)).size.2.1, (fl (decide ((1 : Int) < 0)) (Int.natAbs 1)).size.2.2.1, (fl (decide ((1 : Int) < 0)) (Int.natAbs 1)).size.2.2.2)) = some (fl (!(s == t)) (A / B + 1)) := this
  rw [e, au]
  rfl
 have down : dk (fl (!(s == t)) (A / B), fl s (A % B)) false = some (fl (!(s == t)) (A / B)) := rfl
 unfold rhn
 by_cases h1 : B < A % B * 2
 ·rw [show decide ((0 : Int) < c3 ((A % B * 2 : Nat) : Int) (B : Int)) = true by unfold c3; rw [if_neg (by omega), if_pos (by omega)]; rfl, aw, if_pos (.inl h1)]
  exact up
 ·by_cases h2 : A % B * 2 = B
  ·rw [show c3 ((A % B * 2 : Nat) : Int) (B : Int) = 0 by unfold c3; rw [if_neg (by omega), if_neg (by omega)]]
   rw [show decide ((0 : Int) < 0) = false from rfl, show ((0 : Int) == 0) = true from rfl, ah, aw]
   by_cases h3 : A / B % 2 = 1
   ·rw [h3, if_pos (.inr ⟨h2, rfl⟩)]; exact up
   ·rw [if_neg (by omega), show (((A / B % 2 : Nat) : Int) == (1 : Int)) = false by simp; omega]; exact down
  ·rw [show c3 ((A % B * 2 : Nat) : Int) (B : Int) = -1 by unfold c3; rw [if_pos (by omega)]]
   rw [show decide ((0 : Int) < -1) = false from rfl, show ((-1 : Int) == 0) = false from rfl, ah, ah, if_neg (by omega)]
   exact down
theorem E2 (s : Bool) (A : Nat) (hA : A < 115792089237316195423570985008687907853269984665640564039457584007913129639936) : jo (fl s A) = some (if A < 9223372036854775808 then (sgv s A, true) else (0, false)) := by
 unfold jo
 rw [show (fl s A).size.2.1 = (wd A 1 : Int) from rfl, show (fl s A).size.2.2.1 = (wd A 2 : Int) from rfl, show (fl s A).size.2.2.2 = (wd A 3 : Int) from rfl, show (fl s A).size.1 = (wd A 0 : Int) from rfl, DT _ _ (qC _ _) (qC _ _), au, DT _ _ (Nat.or_lt_two_pow (n := 64) (qC _ _) (qC _ _)) (qC _ _), au]
 have hz : (wd A 1 ||| wd A 2 ||| wd A 3 = 0) ↔ A < 18446744073709551616 := by
  rw [Nat.or_eq_zero_iff, Nat.or_eq_zero_iff, Ls, Lx, Ly]; omega
 have bad : fy (fl s A) true = some (0, false) := rfl
 by_cases h : A < 18446744073709551616
 ·rw [hz.2 h, show ((((0 : Nat) : Int)) != (0 : Int)) = false from rfl, ah]
  have hw : wd A 0 = A := by rw [J0]; omega
  rw [hw]
  by_cases h2 : A < 9223372036854775808
  ·rw [show decide ((9223372036854775808 : Int) ≤ (A : Int)) = false by simp; omega, if_pos h2]
   unfold fy
   rw [ah, show (fl s A).neg = s from rfl, show (fl s A).size.1 = (wd A 0 : Int) from rfl, hw, fL (x := (A : Int)) (by omega) (by omega), fL (x := 0 - (A : Int)) (by omega) (by omega)]
   cases s
   ·rfl
   ·simp only [aw, sgv]; simp
  ·rw [show decide ((9223372036854775808 : Int) ≤ (A : Int)) = true by simp; omega, if_neg h2]; exact bad
 ·have hne : wd A 1 ||| wd A 2 ||| wd A 3 ≠ 0 := fun e => h (hz.1 e)
  rw [show ((((wd A 1 ||| wd A 2 ||| wd A 3 : Nat) : Int)) != (0 : Int)) = true by simp only [bne_iff_ne, ne_eq]; omega, aw, if_neg (by omega)]; exact bad
end Go.Proofs.YtpmoopnkoknbeaaGreatDoor.Nm
namespace Go.Proofs.YtpmoopnkoknbeaaGreatDoor.Nm
open Go Go.SX Go.SX.Cal Go.Lib
def sg (b : Bool) (z : Int) : Int := if b = true then -z else z
structure wM (w : dD) (z : Int) (N : Nat) : Prop where
 d : dY w.d
 t : sI w.d
 l : w.d.length ≤ N
 b : w.below = true → w.d ≠ []
 v : z = sg w.below (aI w.d)
theorem yZ {l : List Int} (h : dY l) (t : sI l) : aI l = 0 ↔ l = [] := by
 constructor
 ·intro e
  cases hl : l with
  | nil => rfl
  | cons x m =>
   have h1 := pM h t (by simp [hl])
   have h2 := zM (l.length - 1)
   omega
 ·rintro rfl; rfl
theorem L6 (b : Bool) (d : List Int) (N : Nat) (hl : d.length ≤ N) (hN : N < 1000000) (hd : dY d) : ∃ w, m6 b d = some w ∧ wM w (sg b (aI d)) N := by
 obtain ⟨d', h1, h2, h3, h4, h5⟩ := qw b d (by omega) hd
 refine ⟨_, h1, h2, h3, by show d'.length ≤ N; omega, ?_, ?_⟩
 ·intro hb e
  have hb : (b && decide (0 < d'.length)) = true := hb
  have e : d' = [] := e
  simp [e] at hb
 ·show sg b (aI d) = sg (b && decide (0 < d'.length)) (aI d')
  cases hz : d' with
  | nil => rw [hz] at h4; simp [aI] at h4; simp [← h4, sg, aI]
  | cons x m => rw [← hz, h4]; simp [hz]
theorem rwideOf (n : Int) (h0 : -9223372036854775808 ≤ n) (h1 : n ≤ 9223372036854775807) : ∃ w, kY n = some w ∧ wM w n 19 := by
 unfold kY
 obtain ⟨d, e1, e2, e3, e4, e5⟩ := B5 h0 h1 aW [] n (by simp) (by rw [aA]; simp) rL (fun _ => wQ) (by
  simp only [List.length_nil]
  have : p10 (19 - 0) = 10000000000000000000 := by decide
  rw [this]; unfold ab; split <;> omega) h0 h1 (by simp [aI, p10])
 refine ⟨_, e1, e2, e3, e4, ?_, ?_⟩
 ·intro hb e
  simp at hb e
  rw [e] at e5
  simp [aI, ab, hb] at e5
  omega
 ·show n = sg (decide (n < 0)) (aI d)
  rw [e5]
  unfold sg ab
  by_cases h : n < 0
  ·simp [h]
  ·simp [h]
end Go.Proofs.YtpmoopnkoknbeaaGreatDoor.Nm
namespace Go.Proofs.YtpmoopnkoknbeaaGreatDoor.Nm
open Go Go.SX Go.SX.Cal Go.Lib
theorem p10_pow : ∀ n, p10 n = ((10 ^ n : Nat) : Int)
 | 0 => rfl
 | n + 1 => by simp only [p10, p10_pow n, Nat.pow_succ]; push_cast; rfl
theorem wM.mono {w : dD} {z : Int} {N M : Nat} (h : wM w z N) (hm : N ≤ M) : wM w z M := ⟨h.d, h.t, Nat.le_trans h.l hm, h.b, h.v⟩
theorem wM.neg {w : dD} {z : Int} {N : Nat} (h : wM w z N) : decide (z < 0) = w.below := by
 have h0 := dM h.d
 have hv := h.v
 unfold sg at hv
 by_cases hb : w.below = true
 ·rw [if_pos hb] at hv
  have : aI w.d ≠ 0 := fun e => h.b hb ((yZ h.d h.t).1 e)
  rw [hb]; simp; omega
 ·rw [if_neg hb] at hv
  have hb' : w.below = false := by simpa using hb
  rw [hb']; simp; omega
theorem wM.abs {w : dD} {z : Int} {N : Nat} (h : wM w z N) : aI w.d = (z.natAbs : Int) := by
 have h0 := dM h.d
 have hv := h.v
 unfold sg at hv
 split at hv <;> omega
theorem wM.nil {w : dD} {z : Int} {N : Nat} (h : wM w z N) : (w.d.length = 0) ↔ z = 0 := by
 have := h.abs
 have h2 := yZ h.d h.t
 rw [List.length_eq_zero_iff, ← h2]; omega
theorem wM.lt {w : dD} {z : Int} {N : Nat} (h : wM w z N) : (z.natAbs : Int) < p10 N := by
 rw [← h.abs]
 exact Int.lt_of_lt_of_le (mM h.d) (mO h.l)
theorem wM.tight {w : dD} {z : Int} {N M : Nat} (h : wM w z N) (hz : (z.natAbs : Int) < p10 M) : wM w z M := by
 refine ⟨h.d, h.t, ?_, h.b, h.v⟩
 by_cases hn : w.d = []
 ·simp [hn]
 ·have h1 := pM h.d h.t hn
  rw [h.abs] at h1
  apply Classical.byContradiction
  intro hc
  have := mO (show M ≤ w.d.length - 1 by omega)
  omega
theorem tc : ∀ k, aI (List.replicate k 0) = 0
 | 0 => rfl
 | k + 1 => by rw [List.replicate_succ]; simp [aI, tc k]
theorem rtens {a : dD} {x : Int} {N k : Nat} (ha : wM a x N) (hN : N < 900) (hk : k < 900) : ∃ w, ph a (k : Int) = some w ∧ wM w (x * p10 k) (N + k) := by
 unfold ph
 by_cases h : a.d.length = 0
 ·rw [show ((a.d.length : Int) == 0) = true by simp [h], aw]
  have hx := ha.nil.1 h
  subst hx
  exact ⟨a, rfl, by rw [Int.zero_mul]; exact ha.mono (by omega)⟩
 ·have hl := ha.l
  rw [show ((a.d.length : Int) == 0) = false by simpa using h, ah, dw (by omega), dw (by simp; omega)]
  refine ⟨_, rfl, ⟨?_, ?_, ?_, ?_, ?_⟩⟩
  ·intro d hd
   rcases List.mem_append.1 hd with h1 | h1
   ·have := List.eq_of_mem_replicate h1; omega
   ·exact ha.d d h1
  ·intro d hd
   have hne : a.d ≠ [] := by rintro e; simp [e] at h
   simp only at hd
   cases hq : a.d.getLast? with
   | none => exact absurd (List.getLast?_eq_none_iff.1 hq) hne
   | some z =>
    rw [List.getLast?_append, hq] at hd
    simp at hd
    exact ha.t d (by rw [hq, hd])
  ·simp; omega
  ·intro hb e
   simp at e
   exact ha.b hb e.2
  ·simp only
   rw [gq, tc, List.length_replicate, ha.v, show ((k : Int)).toNat = k by omega]
   unfold sg; split
   ·rw [Int.neg_mul, Int.mul_comm, Int.zero_add]
   ·rw [Int.mul_comm, Int.zero_add]
def LI (A B : Int) : Int := if B < A % B * 2 ∨ (A % B * 2 = B ∧ A / B % 2 = 1) then A / B + 1 else A / B
def rz (x y : Int) : Int := sg (!(decide (x < 0) == decide (y < 0))) (LI x.natAbs y.natAbs)
theorem reven {a b : dD} {x y : Int} {N M : Nat} (ha : wM a x N) (hb : wM b y M) (hN : N < 390) (hM : M < 390) (hy : y ≠ 0) : ∃ w, rZ a b = some w ∧ wM w (rz x y) (N + 2) := by
 have hla := ha.l
 have hlb := hb.l
 have hp : 0 < aI b.d := by rw [hb.abs]; omega
 have n0 := dM ha.d
 unfold rZ
 obtain ⟨q, r, h1, h2, h3, h4, h5, h6, h7, h8, h9⟩ := Fm ha.d (by omega) hb.d hb.t (by omega) hp
 obtain ⟨rr, g1, g2, g3, g4, g5⟩ := D0 h4 h4 h5 h5 (by omega) (by omega)
 obtain ⟨c, k1, k2, k3, k4⟩ := Af g2 hb.d g3 hb.t (by omega) (by omega)
 rw [h1, au, g1, au, k1, au]
 rw [g4, h9] at k4
 have fin : ∀ (up : Bool) (z : Int), (up = true → z = aI a.d / aI b.d + 1) → (up = false → z = aI a.d / aI b.d) → sg (!(a.below == b.below)) z = rz x y → ∃ w, iH a b (q, r) up = some w ∧ wM w (rz x y) (N + 2) := by
  intro up z hu hd hz
  unfold iH nt
  cases up with
  | true =>
   obtain ⟨q1, e1, e2, e3, e4, e5⟩ := D0 h2 (b := [1]) (fun d hd => by simp at hd; omega) h3 (fun d hd => by simp at hd; omega) (by omega) (by simp)
   rw [aw, e1, au]
   obtain ⟨w, f1, f2⟩ := L6 (!(a.below == b.below)) q1 (N + 2) (by simp at e5; omega) (by omega) e2
   rw [f1, au]
   refine ⟨w, rfl, ?_⟩
   rw [← hz, hu rfl]
   rw [e4, h8] at f2
   simpa [aI] using f2
  | false =>
   obtain ⟨w, f1, f2⟩ := L6 (!(a.below == b.below)) q (N + 2) (by omega) (by omega) h2
   rw [ah, f1, au]
   refine ⟨w, rfl, ?_⟩
   rw [← hz, hd rfl]
   rw [h8] at f2
   exact f2
 have hrz : rz x y = sg (!(a.below == b.below)) (LI (aI a.d) (aI b.d)) := by
  unfold rz; rw [ha.neg, hb.neg, ha.abs, hb.abs]
 have hq0 := dM h2
 unfold LI at hrz
 by_cases hc : aI b.d < aI a.d % aI b.d + aI a.d % aI b.d
 ·have : 0 < c := by
   unfold c3 at k4
   rw [if_neg (by omega : ¬ aI a.d % aI b.d + aI a.d % aI b.d < aI b.d), if_pos hc] at k4
   split at k4
   ·omega
   ·split at k4 <;> omega
  rw [show decide ((0 : Int) < c) = true by simpa using this, aw]
  rw [if_pos (.inl (by omega))] at hrz
  exact fin true _ (fun _ => rfl) (fun h => by cases h) hrz.symm
 ·have hc0 : ¬ 0 < c := by
   intro h
   unfold c3 at k4
   rw [if_neg (by omega : ¬ c < 0), if_pos h, if_neg hc] at k4
   split at k4 <;> omega
  rw [show decide ((0 : Int) < c) = false by simpa using hc0, ah]
  by_cases he : aI a.d % aI b.d + aI a.d % aI b.d = aI b.d
  ·have hcz : c = 0 := by
    unfold c3 at k4
    rw [if_neg (by omega : ¬ aI a.d % aI b.d + aI a.d % aI b.d < aI b.d), if_neg hc] at k4
    split at k4 <;> omega
   subst hcz
   rw [show ((0 : Int) == 0) = true from rfl, aw]
   cases q with
   | nil =>
    simp only [List.length_nil]
    rw [show decide ((0 : Int) < ((0 : Nat) : Int)) = false from rfl, ah]
    have : aI a.d / aI b.d = 0 := by rw [← h8]; rfl
    rw [if_neg (by rw [this]; omega)] at hrz
    exact fin false _ (fun h => by cases h) (fun _ => rfl) hrz.symm
   | cons u us =>
    have hu := h2 u (by simp)
    rw [show decide ((0 : Int) < (((u :: us).length : Nat) : Int)) = true by simp, aw, show at? (u :: us) (0 : Int) = some u from rfl, au]
    have hpar : u.tmod 2 = aI a.d / aI b.d % 2 := by
     rw [Int.tmod_eq_emod_of_nonneg hu.1, ← h8]; simp only [aI]; omega
    rw [hpar]
    by_cases h1' : aI a.d / aI b.d % 2 = 1
    ·rw [if_pos (.inr ⟨by omega, h1'⟩)] at hrz
     rw [h1']
     exact fin true _ (fun _ => rfl) (fun h => by cases h) hrz.symm
    ·rw [if_neg (by omega)] at hrz
     rw [show (aI a.d / aI b.d % 2 == 1) = false by simpa using h1']
     exact fin false _ (fun h => by cases h) (fun _ => rfl) hrz.symm
  ·have hcz : c ≠ 0 := by
    rintro rfl
    unfold c3 at k4
    rw [if_pos (by omega : aI a.d % aI b.d + aI a.d % aI b.d < aI b.d)] at k4
    simp at k4
   rw [show (c == 0) = false by simpa using hcz, ah]
   rw [if_neg (by omega)] at hrz
   exact fin false _ (fun h => by cases h) (fun _ => rfl) hrz.symm
theorem Du {w : dD} (hd : dY w.d) (hl : w.d.length ≤ 18) : ∀ (i k : Nat), i ≤ w.d.length → i < k → em w k (aI (w.d.drop i)) ((i : Int) - 1) = mG w (aI w.d) := by
 intro i
 induction i with
 | zero =>
  intro k hi hk
  obtain ⟨k, rfl⟩ : ∃ q, k = q + 1 := ⟨k - 1, by omega⟩
  rw [em, show decide ((0 : Int) ≤ ((0 : Nat) : Int) - 1) = false from rfl, ah, List.drop_zero]
 | succ i ih =>
  intro k hi hk
  obtain ⟨k, rfl⟩ : ∃ q, k = q + 1 := ⟨k - 1, by omega⟩
  have hi' : i < w.d.length := by omega
  have e := List.drop_eq_getElem_cons hi'
  have d0 : dY (w.d.drop i) := fun x hx => hd x (List.mem_of_mem_drop hx)
  have b1 := mM d0
  have b0 := dM d0
  have d1 : dY (w.d.drop (i + 1)) := fun x hx => hd x (List.mem_of_mem_drop hx)
  have b2 := dM d1
  have b3 := mO (show (w.d.drop i).length ≤ 18 by simp; omega)
  have b4 : p10 18 = 1000000000000000000 := by decide
  have rd := hd w.d[i] (List.getElem_mem hi')
  have hv : aI (w.d.drop i) = w.d[i] + 10 * aI (w.d.drop (i + 1)) := by rw [e]; rfl
  rw [em, show ((i + 1 : Nat) : Int) - 1 = (i : Int) by omega, show decide ((0 : Int) ≤ (i : Int)) = true by simp, aw, cf hi', au, fL (x := 10 * aI (w.d.drop (i + 1))) (by omega) (by omega), fL (x := 10 * aI (w.d.drop (i + 1)) + w.d[i]) (by omega) (by omega), fL (by omega) (by omega), show 10 * aI (w.d.drop (i + 1)) + w.d[i] = aI (w.d.drop i) by omega]
  exact ih k (by omega) (by omega)
theorem Lc {w : dD} {z : Int} {N : Nat} (h : wM w z N) (hN : N < 900) : qr w = some (if z.natAbs < 1000000000000000000 then (z, true) else (0, false)) := by
 have hl := h.l
 have ha := h.abs
 have hv := h.v
 have b4 : p10 18 = 1000000000000000000 := by decide
 unfold qr
 by_cases hlen : w.d.length ≤ 18
 ·have h1 := mM h.d
  have h2 := mO hlen
  have hs := Du h.d hlen w.d.length aW (Nat.le_refl _) (by rw [aA]; omega)
  rw [List.drop_length] at hs
  rw [show decide ((18 : Int) < (w.d.length : Int)) = false by simp; omega, ah, fL (by omega) (by omega), show em w aW 0 ((w.d.length : Int) - 1) = em w aW (aI []) ((w.d.length : Int) - 1) from rfl, hs, if_pos (by omega)]
  unfold mG mE
  unfold sg at hv
  cases hb : w.below
  ·rw [hb] at hv; simp at hv; rw [ah, hv]
  ·rw [hb] at hv; simp at hv; rw [aw, fL (by omega) (by omega), hv]; congr 2; omega
 ·have h1 := pM h.d h.t (by rintro e; simp [e] at hlen)
  have h2 := mO (show 18 ≤ w.d.length - 1 by omega)
  rw [show decide ((18 : Int) < (w.d.length : Int)) = true by simp; omega, aw, if_neg (by omega)]
def JY : ac := ⟨0, 0, 0, ByteArray.empty, []⟩
def numV (kind z scale : Int) : ac := if z.natAbs < 1000000000000000000 ∧ cx ⟨kind, z, scale, ByteArray.empty, []⟩ = true then ⟨kind, z, scale, ByteArray.empty, []⟩ else JY
theorem xk (k z s : Int) : aY ⟨k, z, s, ByteArray.empty, []⟩ < 1000000000 := by
 simp only [aY, bX]
 have : ByteArray.empty.size = 0 := rfl
 omega
theorem rnumber {w : dD} {z : Int} {N : Nat} (kind scale : Int) (h : wM w z N) (hN : N < 900) : oK kind w scale = some (numV kind z scale) := by
 unfold oK numV
 rw [Lc h hN, au]
 by_cases hz : z.natAbs < 1000000000000000000
 ·rw [if_pos hz]
  simp only [Bool.not_true, ah]
  rw [vp _ (xk _ _ _), au]
  cases hs : cx ⟨kind, z, scale, ByteArray.empty, []⟩
  ·rw [if_neg (by simp)]; rfl
  ·rw [if_pos ⟨hz, rfl⟩]; rfl
 ·rw [if_neg hz, if_neg (fun h => hz h.1)]
  rfl
end Go.Proofs.YtpmoopnkoknbeaaGreatDoor.Nm
namespace Go.Proofs.YtpmoopnkoknbeaaGreatDoor.Nm
open Go Go.SX Go.SX.Cal Go.Lib
theorem wx {v : ac} (h : cx v = true) : bl v = true := by
 unfold cx bc at h
 by_cases hc : 256 < ls v 0 ∨ bl v = false
 ·rw [if_pos hc] at h; cases h
 ·rw [not_or] at hc
  simpa using hc.2
theorem Di {k n s : Int} : cx ⟨k, n, s, ByteArray.empty, []⟩ = bl ⟨k, n, s, ByteArray.empty, []⟩ := by
 unfold cx bc
 have hc : ¬ 256 < ls ⟨k, n, s, ByteArray.empty, []⟩ 0 := by unfold ls; split <;> omega
 cases hp : bl ⟨k, n, s, ByteArray.empty, []⟩
 ·rw [if_pos (.inr rfl)]
 ·rw [if_neg (by simp [hc])]; rfl
theorem wn {v : ac} (h : cx v = true) : v.n.natAbs < 1000000000000000000 := by
 have hp := wx h
 unfold bl at hp
 simp only at hp
 split at hp
 ·simp at hp; omega
 split at hp
 ·simp at hp; omega
 split at hp
 ·simp at hp; omega
 split at hp
 ·simp at hp; omega
 split at hp
 ·simp at hp; omega
 split at hp
 ·simp at hp; omega
 split at hp
 ·simp at hp; omega
 split at hp
 ·simp at hp; omega
 ·cases hp
theorem numV_eq {k z s : Int} : numV k z s = if bl ⟨k, z, s, ByteArray.empty, []⟩ = true then ⟨k, z, s, ByteArray.empty, []⟩ else JY := by
 unfold numV
 by_cases h : cx ⟨k, z, s, ByteArray.empty, []⟩ = true
 ·rw [if_pos ⟨wn h, h⟩, if_pos (wx h)]
 ·rw [if_neg (fun q => h q.2), if_neg (fun q => h (by rw [Di]; exact q))]
theorem made_mk (kind scale : Int) (s : Bool) (A : Nat) (hA : A < 115792089237316195423570985008687907853269984665640564039457584007913129639936) : me kind (fl s A) scale = some (numV kind (sgv s A) scale) := by
 unfold me mr
 rw [eta_w, E2 s A hA, au]
 have habs : (sgv s A).natAbs = A := by unfold sgv; split <;> omega
 by_cases h : A < 9223372036854775808
 ·rw [if_pos h]
  simp only [Bool.not_true, ah]
  rw [o9 _ (xk _ _ _), au]
  unfold numV
  cases hs : cx ⟨kind, sgv s A, scale, ByteArray.empty, []⟩
  ·rw [if_neg (by simp)]; rfl
  ·rw [if_pos ⟨wn hs, rfl⟩]; rfl
 ·rw [if_neg h]
  simp only [Bool.not_false, aw]
  unfold numV
  rw [if_neg (fun q => by have := q.1; omega)]; rfl
theorem JB (A B : Nat) : LI A B = (rhn A B : Int) := by
 unfold LI rhn
 have e1 : (A : Int) % (B : Int) = ((A % B : Nat) : Int) := by push_cast; rfl
 have e2 : (A : Int) / (B : Int) = ((A / B : Nat) : Int) := by push_cast; rfl
 rw [e1, e2]
 generalize A % B = m
 generalize A / B = q
 by_cases h : B < m * 2 ∨ (m * 2 = B ∧ q % 2 = 1)
 ·rw [if_pos h, if_pos (by omega)]; push_cast; rfl
 ·rw [if_neg h, if_neg (by omega)]
theorem rz_sgv (x y : Int) : rz x y = sgv (!(decide (x < 0) == decide (y < 0))) (rhn x.natAbs y.natAbs) := by
 unfold rz; rw [JB]; rfl
theorem rhn_pow {A : Nat} (hA : A < 1000000000000000000) (k : Nat) : rhn A (10 ^ k) ≤ 1000000000000000000 := by
 have h := KX A (10 ^ k)
 have := Nat.div_le_self A (10 ^ k)
 omega
theorem scaled1 (k : Nat) (hk : k ≤ 60) : lS 1 (k : Int) = some (fl false (10 ^ k)) := by
 have h : (10 : Nat) ^ k ≤ 10 ^ 60 := Nat.pow_le_pow_right (by decide) hk
 have := FK 1 k (by decide) (by decide) (by omega) (by rw [show Int.natAbs 1 = 1 from rfl, Nat.one_mul]; exact Nat.lt_of_le_of_lt h (by decide))
 rw [show Int.natAbs 1 = 1 from rfl, Nat.one_mul] at this
 exact this
theorem rw1 : ∃ w, kY 1 = some w ∧ wM w 1 1 := by
 obtain ⟨w, h1, h2⟩ := rwideOf 1 (by decide) (by decide)
 exact ⟨w, h1, h2.tight (by decide)⟩
theorem AX {d : Nat} (q : ac → ac → Option Bool) (v : ac) (hl : v.items.length < 1000000000) (hq : ∀ x ∈ v.items, q x x = some true) : ∀ (m k i : Nat), i + m = v.items.length → m < k → cX q v v k (i : Int) = some true := by
 intro m
 induction m with
 | zero =>
  intro k i hi hk
  obtain ⟨k, rfl⟩ : ∃ q, k = q + 1 := ⟨k - 1, by omega⟩
  rw [cX, show decide ((i : Int) < (v.items.length : Int)) = false by simp; omega, ah]; rfl
 | succ m ih =>
  intro k i hi hk
  obtain ⟨k, rfl⟩ : ∃ q, k = q + 1 := ⟨k - 1, by omega⟩
  have hi' : i < v.items.length := by omega
  rw [cX, gC hi', aw, cf hi', au, au, hq _ (List.getElem_mem hi'), au, Bool.not_true, ah, d8 hi' hl]
  exact ih k (i + 1) (by omega) (by omega)
theorem nB : ∀ (k : Nat) (v : ac), aY v < k → aY v < 1000000000 → bS k v v = some true := by
 intro k
 induction k with
 | zero => intro v h; omega
 | succ k ih =>
  intro v hk hv
  have hl := dZ v.items
  have he := eb v
  rw [bS, show (v.kind != v.kind) = false by simp, show (v.n != v.n) = false by simp, show (v.scale != v.scale) = false by simp, show (!(v.s.toList == v.s.toList)) = false by simp, show ((v.items.length : Int) != (v.items.length : Int)) = false by simp]
  simp only [ah]
  unfold eR
  rw [ah]
  refine AX (d := 0) _ v (by omega) (fun x hx => ?_) v.items.length aW 0 (by omega) (by rw [aA]; omega)
  have := ef hx
  exact ih x (by omega) (by omega)
end Go.Proofs.YtpmoopnkoknbeaaGreatDoor.Nm
namespace Go.Proofs.YtpmoopnkoknbeaaGreatDoor
open Go Go.PX Go.SX Go.SX.Cal
theorem FN (A B K : Nat) (hK : 0 < K) (hB : 0 < B) : Nm.rhn (A * K) (B * K) = Nm.rhn A B := by
 unfold Nm.rhn
 have h1 : A * K / (B * K) = A / B := Nat.mul_div_mul_right A B hK
 have h2 : A * K % (B * K) = A % B * K := Nat.mul_mod_mul_right K A B
 rw [h1, h2]
 have e1 : B * K < A % B * K * 2 ↔ B < A % B * 2 := by
  rw [show A % B * K * 2 = A % B * 2 * K by rw [Nat.mul_assoc, Nat.mul_comm K 2, ← Nat.mul_assoc]]
  exact Nat.mul_lt_mul_right hK
 have e2 : A % B * K * 2 = B * K ↔ A % B * 2 = B := by
  rw [show A % B * K * 2 = A % B * 2 * K by rw [Nat.mul_assoc, Nat.mul_comm K 2, ← Nat.mul_assoc]]
  exact Nat.mul_left_inj (by omega)
 simp only [e1, e2]
theorem E1 (Q B : Nat) (hB : 0 < B) : Nm.rhn (Q * B) B = Q := by
 unfold Nm.rhn
 rw [Nat.mul_mod_left, Nat.mul_div_cancel _ hB, if_neg (by omega)]
def JL (n : Int) (sv su : Nat) : Int := Nm.sgv (decide (n < 0)) (if sv ≤ su then n.natAbs * 10 ^ (su - sv) else Nm.rhn n.natAbs (10 ^ (sv - su)))
theorem Ei {k : Nat} (h : k ≤ 12) : 10 ^ k ≤ 1000000000000 := Nat.le_trans (Nat.pow_le_pow_right (by decide) h) (by decide)
theorem Bu {n : Int} {sv su : Nat} (k : Int) (hn : n.natAbs < 1000000000000000000) (h1 : sv ≤ 12) (h2 : su ≤ 12) :
  (az (iC n) fun r5 => az (jM (aF.mk r5.neg (r5.size.1, r5.size.2.1, r5.size.2.2.1, r5.size.2.2.2)) (sv : Int) (su : Int)) fun r6 =>
   az (me k (aF.mk r6.neg (r6.size.1, r6.size.2.1, r6.size.2.2.1, r6.size.2.2.2)) (su : Int)) fun r7 => some r7) = some (Nm.numV k (JL n sv su) su) := by
 rw [Nm.whole_mk n (by omega) (by omega), ae]
 rw [Nm.eta_w]
 unfold jM
 simp only [Nm.eta_w]
 rw [ar]
 unfold JL
 have hb : ∀ A : Nat, A ≤ 1000000000000000000 * 1000000000000 → A < 57896044618658097711785492504343953926634992332820282019728792003956564819968 := fun A hA => Nat.lt_of_le_of_lt hA (by decide)
 have hb2 : ∀ A : Nat, A ≤ 1000000000000000000 * 1000000000000 → A < 115792089237316195423570985008687907853269984665640564039457584007913129639936 := fun A hA => Nat.lt_of_le_of_lt hA (by decide)
 by_cases hle : sv ≤ su
 ·have hm : n.natAbs * 10 ^ (su - sv) ≤ 1000000000000000000 * 1000000000000 := Nat.mul_le_mul (by omega) (Ei (by omega))
  rw [if_pos (by simpa using hle), if_pos hle, fL (by omega) (by omega), show ((su : Int) - (sv : Int)) = ((su - sv : Nat) : Int) by omega, Nm.shifted_mk _ _ _ (by omega) (hb2 _ hm), ae]
  rw [ae, Nm.made_mk _ _ _ _ (hb2 _ hm), ae]
 ·have hp := Ei (k := sv - su) (by omega)
  have hpp : 0 < 10 ^ (sv - su) := Nat.pow_pos (by decide)
  have hr := Nm.rhn_pow hn (sv - su)
  rw [if_neg (by simp; omega), if_neg hle, fL (by omega) (by omega), show ((sv : Int) - (su : Int)) = ((sv - su : Nat) : Int) by omega, Nm.scaled1 _ (by omega), ae]
  rw [Nm.rounded_mk _ _ _ _ (hb _ (by omega)) hpp (hb _ (by omega)), ae, ae, Nm.made_mk _ _ _ _ (hb2 _ (by omega)), ae]
  congr 2
  cases decide (n < 0) <;> rfl
theorem HF {v : ac} {u : af} {sv su : Nat} (hn : v.n.natAbs < 1000000000000000000) (h1 : v.scale = (sv : Int)) (h2 : u.scale = (su : Int)) (h3 : sv ≤ 12) (h4 : su ≤ 12) :
  dc v u = some (Nm.numV u.kind (JL v.n sv su) su) := by
 unfold dc
 rw [h1, h2]
 obtain ⟨w1, e1, f1⟩ := Nm.rwideOf v.n (by omega) (by omega)
 obtain ⟨w2, e2, f2⟩ := Nm.rtens f1 (k := 12 - sv) (by omega) (by omega)
 obtain ⟨w3, e3, f3⟩ := Nm.rw1
 obtain ⟨w4, e4, f4⟩ := Nm.rtens f3 (k := 12 - su) (by omega) (by omega)
 have hp : Cal.p10 (12 - su) = ((10 ^ (12 - su) : Nat) : Int) := Nm.p10_pow _
 have hpos : 0 < 10 ^ (12 - su) := Nat.pow_pos (by decide)
 obtain ⟨w5, e5, f5⟩ := Nm.reven f2 f4 (by omega) (by omega) (by rw [hp]; omega)
 rw [e1, ae, fL (x := 12 - (sv : Int)) (by omega) (by omega), show (12 : Int) - (sv : Int) = ((12 - sv : Nat) : Int) by omega, e2, ae, e3, ae, fL (x := 12 - (su : Int)) (by omega) (by omega), show (12 : Int) - (su : Int) = ((12 - su : Nat) : Int) by omega, e4, ae, e5, ae,
  Nm.rnumber _ _ f5 (by omega), ae]
 congr 2
 rw [Nm.rz_sgv, Nm.p10_pow, Nm.p10_pow]
 unfold JL
 have hpv : 0 < 10 ^ (12 - sv) := Nat.pow_pos (by decide)
 have ha : (v.n * ((10 ^ (12 - sv) : Nat) : Int)).natAbs = v.n.natAbs * 10 ^ (12 - sv) := by rw [Int.natAbs_mul, Int.natAbs_natCast]
 have hb : (1 * ((10 ^ (12 - su) : Nat) : Int)).natAbs = 10 ^ (12 - su) := by rw [Int.one_mul, Int.natAbs_natCast]
 have hneg : decide (v.n * ((10 ^ (12 - sv) : Nat) : Int) < 0) = decide (v.n < 0) := by
  rw [Bool.eq_iff_iff]
  simp only [decide_eq_true_eq]
  constructor
  ·intro h
   rcases Int.lt_or_le v.n 0 with h' | h'
   ·exact h'
   ·have := Int.mul_nonneg h' (Int.natCast_nonneg (10 ^ (12 - sv))); omega
  ·intro h
   exact Int.mul_neg_of_neg_of_pos h (by omega)
 have hneg2 : decide (1 * ((10 ^ (12 - su) : Nat) : Int) < 0) = false := decide_eq_false (by rw [Int.one_mul]; omega)
 rw [ha, hb, hneg, hneg2]
 have hq : Nm.rhn (v.n.natAbs * 10 ^ (12 - sv)) (10 ^ (12 - su)) = if sv ≤ su then v.n.natAbs * 10 ^ (su - sv) else Nm.rhn v.n.natAbs (10 ^ (sv - su)) := by
  by_cases hle : sv ≤ su
  ·rw [if_pos hle, show 12 - sv = (su - sv) + (12 - su) by omega, Nat.pow_add, ← Nat.mul_assoc]
   exact E1 _ _ hpos
  ·rw [if_neg hle, show 12 - su = (sv - su) + (12 - sv) by omega, Nat.pow_add]
   exact FN _ _ _ hpv (Nat.pow_pos (by decide))
 rw [hq]
 cases decide (v.n < 0) <;> rfl
end Go.Proofs.YtpmoopnkoknbeaaGreatDoor
namespace Go.Proofs.YtpmoopnkoknbeaaGreatDoor
open Go Go.PX Go.SX Go.SX.Cal
def cn (a b : Int) : Bool :=
 if a = 1 then (b == 1 || (b == 2 || b == 4)) else if a = 2 then decide (1 ≤ b) && decide (b ≤ 5) else if a = 3 then (b == 2 || (b == 3 || b == 4))
 else if a = 4 then decide (1 ≤ b) && decide (b ≤ 5) else if a = 5 then (b == 2 || (b == 5 || b == 4)) else a == b
theorem Jr (a b : Int) : pC a b = some (cn a b) := by
 unfold pC lm lO lK cn
 simp only [Hk, Ac, au]
 simp only [ar, beq_iff_eq]
 repeat' split
 all_goals rfl
def Lw (w : ac) (u : af) : Prop := w = kf ∨ (w.kind = u.kind ∧ w.scale = u.scale ∧ bl w = true)
theorem xG {k z s : Int} {u : af} (hk : k = u.kind) (hs : s = u.scale) : Lw (Nm.numV k z s) u := by
 rw [Nm.numV_eq]
 split
 ·exact .inr ⟨hk, hs, ‹_›⟩
 ·exact .inl rfl
theorem tN (n : Int) (s : Nat) : JL n s s = n := by
 unfold JL Nm.sgv
 rw [if_pos (Nat.le_refl _), Nat.sub_self, Nat.pow_zero, Nat.mul_one]
 by_cases h : n < 0
 ·rw [decide_eq_true h, if_pos rfl]; omega
 ·rw [decide_eq_false h, if_neg (by simp)]; omega
theorem If {v : ac} (hp : bl v = true) (h4 : v.kind ≠ 4) (h6 : v.kind ≠ 6) (h7 : v.kind ≠ 7) : ac.mk v.kind v.n v.scale ByteArray.empty [] = v :=
 lX rfl rfl rfl (iR ((ja hp).zero h4)) (bn hp h6 h7)
theorem xy {v : ac} (hp : bl v = true) (h4 : v.kind ≠ 4) (h6 : v.kind ≠ 6) (h7 : v.kind ≠ 7) : Nm.numV v.kind v.n v.scale = v := by
 rw [Nm.numV_eq, If hp h4 h6 h7, if_pos hp]
theorem D1 {t : af} (hV : V t) : 0 ≤ t.scale ∧ t.scale ≤ 12 := by
 have h := hV.sh
 unfold shp at h
 split at h
 ·cases h
 ·by_cases hb : tW t
  ·rw [if_pos hb] at h; cases h
  ·unfold tW at hb; omega
theorem Hx {t : af} (hV : V t) (h6 : t.kind ≠ 6) (h7 : t.kind ≠ 7) : t.fields = [] := by
 have h := hV.sh
 unfold shp at h
 split at h
 ·cases h
 ·split at h
  ·cases h
  ·unfold vf at h
   rw [if_neg h6, if_pos h7] at h
   split at h
   ·cases h
   ·exact List.length_eq_zero_iff.1 (by omega)
theorem Ee {t : af} (hV : V t) (h6 : t.kind ≠ 6) (h7 : t.kind ≠ 7) {s : Int} (hs : t.scale = s) : af.mk t.kind s [] = t := by
 have := Hx hV h6 h7
 obtain ⟨a, b, c⟩ := t
 simp only at this hs
 subst this hs
 rfl
theorem LN {t : af} {v : ac} (hv : aY v < 1000000000) (hT : dn t < 1000000000) (h : ck t v = 0) : Lw v t := by
 obtain ⟨hV, hS, ho, hs, _⟩ := rc hv hT h
 obtain ⟨hp, _⟩ := pF.succ (d := 3) hS
 have hl := ja hp
 by_cases h0 : v.kind = 0
 ·left
  exact (lX h0 (hl.nn (.inl h0)) (bL hp (by omega)) (iR (hl.zero (by omega))) (bn hp (by omega) (by omega))).symm
 ·obtain ⟨o1, o2, _⟩ := kA (d := 3) ho h0
  refine .inr ⟨o1, ?_, hp⟩
  by_cases h3 : v.kind = 3
  ·exact o2 h3
  ·rw [bL hp h3, hV.scale (by omega)]
abbrev pw : List UInt8 := [110, 117, 108, 108]
theorem pf (k s : Int) (u : List UInt8) (hu : u.length ≤ 1000000) : ∃ p, fp ⟨k, s, []⟩ (bs u) = some p ∧ cT ⟨k, s, []⟩ (bs u) = some p ∧ (p.1 = kf ∧ p.2 ≠ 0 ∨ p.2 = 0 ∧ ck ⟨k, s, []⟩ p.1 = 0 ∧ u = T p.1 ∧ aY p.1 ≤ 10000000) :=
 Hl ⟨k, s, []⟩ u (by rw [gN]; simp [jy]; omega)
theorem xT (k s : Int) : dn ⟨k, s, []⟩ < 1000000000 := by rw [gN]; simp [jy]
theorem HN {d : Nat} {v : ac} (h : pF (d + 1) v) (hT : T v = pw) : v.kind = 0 := by
 obtain ⟨b, u, e, _, _, _, h2⟩ := vq h []
 by_cases h0 : v.kind = 0
 ·exact h0
 ·rw [List.append_nil, hT] at e
  injection e with e1 _
  exact absurd e1.symm (h2 h0)
theorem oB {k s : Int} {u : List UInt8} {p : ac} (hn : u ≠ pw) (hc : ck ⟨k, s, []⟩ p = 0) (hu : u = T p) (hs : aY p ≤ 10000000) : p.kind = k ∧ (k = 3 → p.scale = s) ∧ bl p = true ∧ cx p = true := by
 obtain ⟨hV, hS, ho, hso, _⟩ := rc (by omega) (xT k s) hc
 obtain ⟨hp, _⟩ := pF.succ (d := 3) hS
 have h0 : p.kind ≠ 0 := by
  intro h0
  apply hn
  rw [hu, kZ, if_pos h0]
 obtain ⟨o1, o2, _⟩ := kA (d := 3) ho h0
 exact ⟨o1, fun h => o2 (by rw [o1]; exact h), hp, hso⟩
def BG (v : ac) (t : af) : Option ac :=
 az (iC v.n) fun r5 =>
  az (jM (aF.mk r5.neg (r5.size.1, r5.size.2.1, r5.size.2.2.1, r5.size.2.2.2)) v.scale t.scale) fun r6 =>
  az (me t.kind (aF.mk r6.neg (r6.size.1, r6.size.2.1, r6.size.2.2.1, r6.size.2.2.2)) t.scale) fun r7 => some r7
theorem tu {β : Type} (x : Option β) : (az x fun r => some r) = x := by cases x <;> rfl
theorem kJ (k : Nat) {v : ac} {t : af} (h0 : v.kind ≠ 0) (h6 : v.kind ≠ 6) (h7 : v.kind ≠ 7) :
  aV (k + 1) v t = if v.kind = t.kind ∧ t.kind ≠ 3 then some v else if t.kind = 4 then (az (fQ aW v) fun r2 => some ⟨4, 0, 0, r2, []⟩)
   else if v.kind = 4 then cm k v.s t else if t.kind = 1 then (if 0 ≤ v.n ∧ v.n ≤ 1 then BG v t else some kf) else BG v t := by
 have j3f : gX v t false = BG v t := by
  unfold gX BG
  rw [ar, if_neg (by simp)]
 have j3t : gX v t true = some kf := by
  unfold gX
  rw [ar, if_pos rfl]
 have j2f : ib (cm k) v t false = if t.kind = 4 then (az (fQ aW v) fun r2 => some ⟨4, 0, 0, r2, []⟩)
   else if v.kind = 4 then cm k v.s t else if t.kind = 1 then (if 0 ≤ v.n ∧ v.n ≤ 1 then BG v t else some kf) else BG v t := by
  unfold ib
  rw [ar, if_neg (by simp), Ac]
  simp only [ar, beq_iff_eq, tu, j3f, au]
  by_cases hb : 0 ≤ v.n ∧ v.n ≤ 1
  ·rw [if_pos hb, show (decide (0 ≤ v.n) && decide (v.n ≤ 1)) = true by simpa using hb, Bool.not_true, j3f]
  ·rw [if_neg hb, show (decide (0 ≤ v.n) && decide (v.n ≤ 1)) = false by rw [Bool.eq_false_iff]; intro h; apply hb; simpa using h, Bool.not_false, j3t]
 have j2t : ib (cm k) v t true = some v := by
  unfold ib
  rw [ar, if_pos rfl]
 rw [aV]
 unfold jh
 simp only [ar, beq_iff_eq]
 rw [if_neg h0, if_neg h6, if_neg h7]
 by_cases he : v.kind = t.kind
 ·rw [if_pos he]
  by_cases h3 : t.kind = 3
  ·rw [show (t.kind != 3) = false by simp [h3], j2f, if_neg (show ¬ (v.kind = t.kind ∧ t.kind ≠ 3) from fun h => h.2 h3)]
  ·rw [show (t.kind != 3) = true by simp [h3], j2t, if_pos ⟨he, h3⟩]
 ·rw [if_neg he, j2f, if_neg (show ¬ (v.kind = t.kind ∧ t.kind ≠ 3) from fun h => he h.1)]
theorem pr {v : ac} {t : af} (k : Nat) (hp : bl v = true) (hkv : v.kind = 2 ∨ v.kind = 3) (hV : V t) (hkt : t.kind = 3 ∨ (t.kind = 2 ∧ v.kind = 3)) : aV (k + 1) v t = some (Nm.numV t.kind (JL v.n v.scale.toNat t.scale.toNat) t.scale) := by
 have hl := ja hp
 have hn := hl.num (by omega)
 have hsv : 0 ≤ v.scale ∧ v.scale ≤ 12 := by
  by_cases h3 : v.kind = 3
  ·exact hl.sc h3
  ·rw [bL hp h3]; decide
 have hst := D1 hV
 have main := Bu (n := v.n) (sv := v.scale.toNat) (su := t.scale.toNat) t.kind (by omega) (by omega) (by omega)
 rw [show ((v.scale.toNat : Nat) : Int) = v.scale by omega, show ((t.scale.toNat : Nat) : Int) = t.scale by omega] at main
 rw [kJ k (by omega) (by omega) (by omega), if_neg (by omega), if_neg (by omega), if_neg (by omega), if_neg (by omega)]
 exact main
theorem vv {v : ac} {t : af} (hp : bl v = true) (hkv : v.kind = 2 ∨ v.kind = 3) (hV : V t) : dc v t = some (Nm.numV t.kind (JL v.n v.scale.toNat t.scale.toNat) t.scale) := by
 have hl := ja hp
 have hn := hl.num (by omega)
 have hsv : 0 ≤ v.scale ∧ v.scale ≤ 12 := by
  by_cases h3 : v.kind = 3
  ·exact hl.sc h3
  ·rw [bL hp h3]; decide
 have hst := D1 hV
 have main := HF (v := v) (u := t) (sv := v.scale.toNat) (su := t.scale.toNat) (by omega) (by omega) (by omega) (by omega) (by omega)
 rw [show ((t.scale.toNat : Nat) : Int) = t.scale by omega] at main
 exact main
theorem Aw {t : af} (hV : V t) (hk : t.kind = 3) (s : List UInt8) (hs : s.length ≤ 256) (hn : s ≠ pw) : ∀ (m i : Nat) (f : Nat) (f2 : Nat) (k : Nat), i + m = 13 → m < f → m < f2 →
  ∃ w, aT (aV (k + 1)) (bs s) t f 0 0 0 ByteArray.empty [] (i : Int) = some w ∧ dV ⟨4, 0, 0, bs s, []⟩ t f2 (i : Int) = some w ∧ Lw w t := by
 intro m
 induction m with
 | zero =>
  intro i f f2 k hi hf hf2
  obtain ⟨f, rfl⟩ : ∃ g, f = g + 1 := ⟨f - 1, by omega⟩
  obtain ⟨f2, rfl⟩ : ∃ g, f2 = g + 1 := ⟨f2 - 1, by omega⟩
  refine ⟨kf, ?_, ?_, .inl rfl⟩
  ·rw [aT, ar, if_pos (by decide)]
   unfold b7 eB
   rw [ar, if_neg (by simp; omega), aV, ar, if_pos (by decide)]; rfl
  ·rw [dV, ar, if_neg (by simp; omega)]; rfl
 | succ m ih =>
  intro i f f2 k hi hf hf2
  obtain ⟨f, rfl⟩ : ∃ g, f = g + 1 := ⟨f - 1, by omega⟩
  obtain ⟨f2, rfl⟩ : ∃ g, f2 = g + 1 := ⟨f2 - 1, by omega⟩
  obtain ⟨p, p1, p2, p3⟩ := pf 3 i s (by omega)
  have hnul : ((bs s).toList == (ByteArray.mk #[110, 117, 108, 108]).toList) = false := by
   rw [show (ByteArray.mk #[110, 117, 108, 108]) = bs pw from rfl, nr]; simpa using hn
  have hw : IntKind.i64.wrap ((i : Int) + 1) = ((i + 1 : Nat) : Int) := by rw [fL (by omega) (by omega)]; omega
  have hpar : dW 3 (i : Int) (bs s) = some p.1 := by
   unfold dW
   rw [hnul, ar, if_neg (by simp), p1]; rfl
  rw [aT, dV]
  unfold b7
  simp only [ar]
  rw [if_pos (by decide), if_pos (by simp; omega), hpar, ae, hw, if_pos (by simp; omega), p2, ae]
  rcases p3 with ⟨h1, h2⟩ | ⟨h1, h2, h3, h4⟩
  ·rw [h1, if_neg (by simpa using h2)]
   exact ih (i + 1) f f2 k (by omega) (by omega) (by omega)
  ·obtain ⟨k1, k2, k3, k4⟩ := oB hn h2 h3 h4
   rw [if_pos (by simpa using h1), vv k3 (.inr k1) hV, ae]
   obtain ⟨f, rfl⟩ : ∃ g, f = g + 1 := ⟨f - 1, by omega⟩
   rw [aT]
   unfold b7 eB
   simp only [ar]
   rw [if_neg (by simp; omega), if_neg (by simp)]
   have e : ac.mk p.1.kind p.1.n p.1.scale p.1.s p.1.items = p.1 := lX rfl rfl rfl rfl rfl
   rw [e, pr k k3 (.inr k1) hV (.inl hk)]
   exact ⟨_, rfl, rfl, xG rfl rfl⟩
theorem I4 {v : ac} (h4 : v.kind = 4) (hp : bl v = true) : v = ⟨4, 0, 0, v.s, []⟩ :=
 (lX h4 ((ja hp).nn (.inr (.inl h4))) (bL hp (by omega)) rfl (bn hp (by omega) (by omega))).symm
end Go.Proofs.YtpmoopnkoknbeaaGreatDoor
namespace Go.Proofs.YtpmoopnkoknbeaaGreatDoor
open Go Go.PX Go.SX Go.SX.Cal
theorem Ej (k : Int) : gR k = some (decide (k = 2 ∨ k = 3)) := by
 unfold gR jO
 rw [ar]
 by_cases h : k = 2
 ·simp [h]
 ·rw [if_neg (by simpa using h)]; congr 1; rw [Bool.eq_iff_iff]; simp [h]
theorem Hc (v : ac) (t : af) (hv : aY v ≤ 10000000) :
  nT v t = if (v.kind = 2 ∨ v.kind = 3) ∧ (t.kind = 2 ∨ t.kind = 3) then dc v t else if v.kind = t.kind then some v
   else if t.kind = 4 then some ⟨4, 0, 0, bs (TX v), []⟩
   else if v.kind = 4 then (if v.s.data.toList = pw then some kf
    else if t.kind = 3 then (az (cT ⟨2, 0, []⟩ v.s) fun r5 => if r5.2 = 0 then dc r5.1 t else dV v t aW 0)
    else (az (cT t v.s) fun r9 => some r9.1))
   else if cx ⟨t.kind, v.n, 0, ByteArray.empty, []⟩ = true then some ⟨t.kind, v.n, 0, ByteArray.empty, []⟩ else some kf := by
 have hsz : aY ⟨t.kind, v.n, 0, ByteArray.empty, []⟩ < 1000000000 := by rw [bp, bH]; decide
 have hnl : (v.s.toList == (ByteArray.mk #[110, 117, 108, 108]).toList) = decide (v.s.data.toList = pw) := by
  rw [show (ByteArray.mk #[110, 117, 108, 108]) = bs pw from rfl, ← nr, vF]
 have j3t : iO v t true = az (cT ⟨2, 0, []⟩ v.s) fun r5 => if r5.2 = 0 then dc r5.1 t else dV v t aW 0 := by
  unfold iO
  rw [ar, if_pos rfl]
  congr 1
  funext r5
  rw [ar, tu]
  simp only [beq_iff_eq]
 have j3f : iO v t false = if v.kind = 4 then (az (cT t v.s) fun r9 => some r9.1) else if cx ⟨t.kind, v.n, 0, ByteArray.empty, []⟩ = true then some ⟨t.kind, v.n, 0, ByteArray.empty, []⟩ else some kf := by
  unfold iO
  rw [ar, if_neg (by simp), ar]
  simp only [beq_iff_eq]
  by_cases h4 : v.kind = 4
  ·rw [if_pos h4, if_pos h4]
  ·rw [if_neg h4, if_neg h4, vp _ hsz, ae, ar]
   cases cx ⟨t.kind, v.n, 0, ByteArray.empty, []⟩ <;> simp
 have j2f : iT v t false = if v.kind = 4 then (if t.kind = 3 then (az (cT ⟨2, 0, []⟩ v.s) fun r5 => if r5.2 = 0 then dc r5.1 t else dV v t aW 0) else (az (cT t v.s) fun r9 => some r9.1)) else if cx ⟨t.kind, v.n, 0, ByteArray.empty, []⟩ = true then some ⟨t.kind, v.n, 0, ByteArray.empty, []⟩ else some kf := by
  unfold iT
  rw [ar, if_neg (by simp), ar]
  simp only [beq_iff_eq]
  by_cases h4 : v.kind = 4
  ·rw [if_pos h4, if_pos h4]
   by_cases h3 : t.kind = 3
   ·rw [show (t.kind == 3) = true by simpa using h3, j3t, if_pos h3]
   ·rw [show (t.kind == 3) = false by simpa using h3, j3f, if_pos h4, if_neg h3]
  ·rw [if_neg h4, if_neg h4, j3f, if_neg h4]
 have j2t : iT v t true = some kf := by
  unfold iT
  rw [ar, if_pos rfl]
 have j1f : iX v t false = if v.kind = t.kind then some v
   else if t.kind = 4 then some ⟨4, 0, 0, bs (TX v), []⟩
   else if v.kind = 4 then (if v.s.data.toList = pw then some kf
    else if t.kind = 3 then (az (cT ⟨2, 0, []⟩ v.s) fun r5 => if r5.2 = 0 then dc r5.1 t else dV v t aW 0)
    else (az (cT t v.s) fun r9 => some r9.1))
   else if cx ⟨t.kind, v.n, 0, ByteArray.empty, []⟩ = true then some ⟨t.kind, v.n, 0, ByteArray.empty, []⟩ else some kf := by
  unfold iX
  rw [ar, if_neg (by simp), hnl, yh v hv]
  simp only [ar, beq_iff_eq, ae]
  by_cases he : v.kind = t.kind
  ·rw [if_pos he, if_pos he]
  ·rw [if_neg he, if_neg he]
   by_cases h4t : t.kind = 4
   ·rw [if_pos h4t, if_pos h4t]
   ·rw [if_neg h4t, if_neg h4t]
    by_cases h4 : v.kind = 4
    ·rw [if_pos h4, if_pos h4]
     by_cases hn : v.s.data.toList = pw
     ·rw [decide_eq_true hn, j2t, if_pos hn]
     ·rw [decide_eq_false hn, j2f, if_pos h4, if_neg hn]
    ·rw [if_neg h4, if_neg h4, j2f, if_neg h4]
 have j1t : iX v t true = dc v t := by
  unfold iX
  rw [ar, if_pos rfl, tu]
 unfold nT
 rw [Ej, ae, Ej, ae, ar]
 by_cases h1 : v.kind = 2 ∨ v.kind = 3
 ·rw [if_pos (by simpa using h1)]
  by_cases h2 : t.kind = 2 ∨ t.kind = 3
  ·rw [decide_eq_true h2, j1t, if_pos ⟨h1, h2⟩]
  ·rw [decide_eq_false h2, j1f, if_neg (show ¬ ((v.kind = 2 ∨ v.kind = 3) ∧ (t.kind = 2 ∨ t.kind = 3)) from fun h => h2 h.2)]
 ·rw [if_neg (by simpa using h1), j1f, if_neg (show ¬ ((v.kind = 2 ∨ v.kind = 3) ∧ (t.kind = 2 ∨ t.kind = 3)) from fun h => h1 h.1)]
theorem nV {l : List UInt8} (h1 : l.length ≤ 256) (h2 : l.all (fun b => decide (32 ≤ b.toNat ∧ b.toNat < 127)) = true) : bl ⟨4, 0, 0, bs l, []⟩ = true := by
 have hb : ∀ i, iI (bs l) i < 127 ∧ (i < l.length → 32 ≤ iI (bs l) i) := by
  intro i
  unfold iI
  by_cases hi : i < l.length
  ·have := List.all_eq_true.1 h2 _ (List.getElem_mem hi)
   simp only [decide_eq_true_eq] at this
   rw [show (bs l).data.toList.getD i 0 = l[i] from zL l i hi]
   exact ⟨this.2, fun _ => this.1⟩
  ·rw [show (bs l).data.toList.getD i 0 = 0 by show l.getD i 0 = 0; simp [List.getD, hi]]
   exact ⟨by decide, fun h => absurd h hi⟩
 have hc : first (zR (bs l)) 0 (bs l).size = none := by
  rw [jE]
  intro j _ hj
  rw [aE] at hj
  have := hb j
  unfold zR
  simp only [Bool.or_eq_false_iff, decide_eq_false_iff_not, beq_eq_false_iff_ne]
  exact ⟨by have := this.2 hj; omega, by omega⟩
 have hv : Lib.validD (bs l).data.toList = true := by
  have h := Lib.validD_ascii l.length l (fun b hb => by
   have := List.all_eq_true.1 h2 b (List.mem_of_mem_take hb)
   simp only [decide_eq_true_eq] at this
   omega)
  rw [List.drop_length] at h
  exact h
 unfold bl pa
 simp only
 rw [if_neg (by decide), if_neg (by decide), if_neg (by decide), if_neg (by decide), if_pos trivial]
 have hv2 : Lib.validD l = true := hv
 rw [hc, aE, hv2]
 simp [h1]
theorem Ap {l : List UInt8} (h : l.all oC = true) : l.all (fun b => decide (32 ≤ b.toNat ∧ b.toNat < 127)) = true := by
 rw [List.all_eq_true] at h ⊢
 intro x hx
 have := (se x).1 (h x hx)
 simp only [decide_eq_true_eq]
 omega
theorem JN {l : List UInt8} (n : Int) (h : l.all (fun b => decide (32 ≤ b.toNat ∧ b.toNat < 127)) = true) : (sg n l).all (fun b => decide (32 ≤ b.toNat ∧ b.toNat < 127)) = true := by
 unfold sg
 split
 ·rw [List.all_cons, h]; decide
 ·exact h
theorem zG {d : Nat} {v : ac} (hS : pF (d + 1) v) (h0 : v.kind ≠ 0) (h4 : v.kind ≠ 4) (h6 : v.kind ≠ 6) (h7 : v.kind ≠ 7) : bl ⟨4, 0, 0, bs (T v), []⟩ = true := by
 obtain ⟨hp, _⟩ := hS.succ
 have hl := ja hp
 have hk := hl.kin
 rw [kZ, if_neg h0]
 by_cases h1 : v.kind = 1
 ·rw [if_pos h1]
  split
  ·exact nV (by decide) (by decide)
  ·exact nV (by decide) (by decide)
 rw [if_neg h1]
 by_cases h2 : v.kind = 2
 ·have hn := hl.num (.inl h2)
  have := wO v.n.natAbs (by omega)
  have := xK v.n (Lib.decDigits v.n.natAbs)
  rw [if_pos h2]
  exact nV (by omega) (JN _ (Ap (ij _).1))
 rw [if_neg h2]
 by_cases h3 : v.kind = 3
 ·have hn := hl.num (.inr h3)
  have hs := hl.sc h3
  have := wS hn.1 hn.2 hs.1 hs.2
  obtain ⟨p, q, e1, e2, e3, _⟩ := ma (n := v.n) hs.1
  rw [if_pos h3]
  refine nV (by omega) ?_
  rw [e1]
  refine JN _ ?_
  rw [List.all_append, List.all_cons, Ap e2, Ap e3]
  decide
 rw [if_neg h3, if_neg h4]
 have h5 : v.kind = 5 := by omega
 have hm := hl.mom h5
 have := Ar hm.1 hm.2
 rw [if_pos h5]
 refine nV (by omega) ?_
 have hx : ∀ k u, (kN k u).all (fun b => decide (32 ≤ b.toNat ∧ b.toNat < 127)) = true := fun k u => Ap (nZ k u).1
 unfold vj Bc
 simp only [List.all_append, List.all_cons, List.all_nil, hx]
 decide
end Go.Proofs.YtpmoopnkoknbeaaGreatDoor
namespace Go.Proofs.YtpmoopnkoknbeaaGreatDoor
open Go Go.PX Go.SX Go.SX.Cal
theorem pI {v : ac} (h : v.items = []) : cx v = bl v := by
 unfold cx bc
 have hc : ¬ 256 < ls v 0 := by unfold ls; split <;> omega
 cases hp : bl v
 ·rw [if_pos (.inr rfl)]
 ·rw [if_neg (by simp [hc]), h]; rfl
theorem Hv {t : af} (k : Nat) : ∀ (m i f : Nat), i + m = 13 → m < f →
  aT (aV (k + 1)) (bs pw) t f 0 0 0 ByteArray.empty [] (i : Int) = some kf := by
 intro m
 induction m with
 | zero =>
  intro i f hi hf
  obtain ⟨f, rfl⟩ : ∃ g, f = g + 1 := ⟨f - 1, by omega⟩
  rw [aT, ar, if_pos (by decide)]
  unfold b7 eB
  rw [ar, if_neg (by simp; omega), aV, ar, if_pos (by decide)]; rfl
 | succ m ih =>
  intro i f hi hf
  obtain ⟨f, rfl⟩ : ∃ g, f = g + 1 := ⟨f - 1, by omega⟩
  have hw : IntKind.i64.wrap ((i : Int) + 1) = ((i + 1 : Nat) : Int) := by rw [fL (by omega) (by omega)]; omega
  have hpar : dW 3 (i : Int) (bs pw) = some kf := by
   unfold dW
   rw [show (ByteArray.mk #[110, 117, 108, 108]) = bs pw from rfl, nr, ar, if_pos (by simp)]
  rw [aT]
  unfold b7
  simp only [ar]
  rw [if_pos (by decide), if_pos (by simp; omega), hpar, ae, hw]
  exact ih (i + 1) f (by omega) (by omega)
theorem wY (k s : Int) : dW k s (bs pw) = some kf := by
 unfold dW
 rw [show (ByteArray.mk #[110, 117, 108, 108]) = bs pw from rfl, nr, ar, if_pos (by simp)]
theorem kQ {k s : Int} {u : List UInt8} (hn : u ≠ pw) {p : ac × Int} (h : fp ⟨k, s, []⟩ (bs u) = some p) : dW k s (bs u) = some p.1 := by
 unfold dW
 rw [show (ByteArray.mk #[110, 117, 108, 108]) = bs pw from rfl, nr, ar, if_neg (by simpa using hn), h]; rfl
theorem Dk {v : ac} {t : af} (hp : bl v = true) (hV : V t) (h1 : v.kind ≠ 3) (h2 : t.kind ≠ 3) : v.scale = 0 ∧ t.scale = 0 := ⟨bL hp h1, hV.scale h2⟩
theorem E8 {d : Nat} {v : ac} {t : af} (hS : pF (d + 1) v) (hV : V t) (h0 : v.kind ≠ 0) (h6 : v.kind ≠ 6) (h7 : v.kind ≠ 7) (t6 : t.kind ≠ 6) (t7 : t.kind ≠ 7) (hc : cn v.kind t.kind = true) (hv : aY v ≤ 10000000) (hd : d ≤ 4) (k : Nat) :
  ∃ w, aV (k + 3) v t = some w ∧ nT v t = some w ∧ Lw w t := by
 obtain ⟨hp, _⟩ := id hS.succ
 have hl := ja hp
 have hk := hl.kin
 have hkt := xe hV
 have hit := bn hp h6 h7
 have hso : cx v = true := by rw [pI hit, hp]
 rw [Hc v t hv]
 by_cases hnn : (v.kind = 2 ∨ v.kind = 3) ∧ (t.kind = 2 ∨ t.kind = 3)
 ·rw [if_pos hnn, vv hp hnn.1 hV]
  by_cases h22 : v.kind = 2 ∧ t.kind = 2
  ·obtain ⟨s1, s2⟩ := Dk hp hV (by omega) (by omega)
   rw [kJ (k + 2) h0 h6 h7, if_pos ⟨by omega, by omega⟩]
   refine ⟨v, rfl, ?_, .inr ⟨by omega, by omega, hp⟩⟩
   rw [s1, s2, tN, show t.kind = v.kind by omega, show (0 : Int) = v.scale by omega, xy hp (by omega) h6 h7]
  ·rw [pr (k + 2) hp hnn.1 hV (by omega)]
   exact ⟨_, rfl, rfl, xG rfl rfl⟩
 rw [if_neg hnn, kJ (k + 2) h0 h6 h7]
 by_cases he : v.kind = t.kind
 ·have h3 : t.kind ≠ 3 := by intro h; exact hnn ⟨by omega, by omega⟩
  obtain ⟨s1, s2⟩ := Dk hp hV (by omega) h3
  rw [if_pos ⟨he, h3⟩, if_pos he]
  exact ⟨v, rfl, rfl, .inr ⟨he, by omega, hp⟩⟩
 rw [if_neg (show ¬ (v.kind = t.kind ∧ t.kind ≠ 3) from fun h => he h.1), if_neg he]
 by_cases h4t : t.kind = 4
 ·rw [if_pos h4t, if_pos h4t, wV (d + 1) aW v hS (by rw [aA]; omega) hv, ae, qY hso]
  exact ⟨_, rfl, rfl, .inr ⟨h4t.symm, (hV.scale (by omega)).symm, zG hS h0 (by omega) h6 h7⟩⟩
 rw [if_neg h4t, if_neg h4t]
 by_cases h4 : v.kind = 4
 ·rw [if_pos h4, if_pos h4]
  have hsz := hl.txt h4
  have hsl : v.s.data.toList.length = v.s.size := by simp
  have hve := I4 h4 hp
  generalize hs : v.s.data.toList = s at *
  have hbs : v.s = bs s := by rw [← hs, vF]
  rw [hbs, cm, ar]
  by_cases h3 : t.kind = 3
  ·rw [if_neg (by simpa using h3)]
   by_cases hn : s = pw
   ·rw [if_pos hn, hn, wY, ae]
    refine ⟨kf, ?_, rfl, .inl rfl⟩
    exact Hv (t := t) k 13 0 aW (by omega) (by rw [aA]; omega)
   ·rw [if_neg hn, if_pos h3]
    obtain ⟨p, p1, p2, p3⟩ := pf 2 0 s (by omega)
    rw [kQ hn p1, ae, p2, ae]
    rcases p3 with ⟨g1, g2⟩ | ⟨g1, g2, g3, g4⟩
    ·rw [if_neg g2, g1]
     have := Aw hV h3 s (by omega) hn 13 0 aW aW k (by omega) (by rw [aA]; omega) (by rw [aA]; omega)
     rw [hve, hbs]
     exact this
    ·obtain ⟨k1, k2, k3, k4⟩ := oB hn g2 g3 g4
     rw [if_pos g1, vv k3 (.inl k1) hV, aA, aT]
     unfold b7 eB
     simp only [ar]
     rw [if_neg (by simp; omega), if_neg (by simp)]
     have e : ac.mk p.1.kind p.1.n p.1.scale p.1.s p.1.items = p.1 := lX rfl rfl rfl rfl rfl
     rw [e, pr k k3 (.inl k1) hV (.inl h3), ae]
     exact ⟨_, rfl, rfl, xG rfl rfl⟩
  ·rw [if_pos (by simpa using h3), tu, if_neg h3]
   by_cases hn : s = pw
   ·rw [if_pos hn, hn, wY]
    exact ⟨kf, rfl, rfl, .inl rfl⟩
   ·rw [if_neg hn]
    obtain ⟨p, p1, p2, p3⟩ := pf t.kind 0 s (by omega)
    rw [kQ hn p1]
    rw [Ee hV t6 t7 (hV.scale h3)] at p2 p3
    rw [p2, ae]
    refine ⟨p.1, rfl, rfl, ?_⟩
    rcases p3 with ⟨g1, g2⟩ | ⟨g1, g2, g3, g4⟩
    ·exact .inl g1
    ·exact LN (by omega) (by rw [← Ee hV t6 t7 (hV.scale h3)]; exact xT _ _) g2
 rw [if_neg h4, if_neg h4]
 have hcomb : (v.kind = 1 ∧ t.kind = 2) ∨ (v.kind = 2 ∧ t.kind = 1) ∨ (v.kind = 2 ∧ t.kind = 5) ∨ (v.kind = 5 ∧ t.kind = 2) := by
  unfold cn at hc
  by_cases h1 : v.kind = 1
  ·rw [if_pos h1] at hc; simp at hc; omega
  rw [if_neg h1] at hc
  by_cases h2 : v.kind = 2
  ·omega
  rw [if_neg h2] at hc
  by_cases h3 : v.kind = 3
  ·rw [if_pos h3] at hc; simp at hc; omega
  rw [if_neg h3, if_neg h4] at hc
  by_cases h5 : v.kind = 5
  ·rw [if_pos h5] at hc; simp at hc; omega
  omega
 obtain ⟨s1, s2⟩ := Dk hp hV (by omega) (by omega)
 have hn18 : v.n.natAbs < 1000000000000000000 := by
  rcases hcomb with h | h | h | h
  ·have := hl.bool h.1; omega
  ·have := hl.num (.inl h.1); omega
  ·have := hl.num (.inl h.1); omega
  ·have := hl.mom h.1; omega
 have hJ : BG v t = some (Nm.numV t.kind v.n 0) := by
  have main := Bu (n := v.n) (sv := 0) (su := 0) t.kind hn18 (by omega) (by omega)
  rw [tN] at main
  unfold BG
  rw [s1, s2]
  exact main
 have hR : (if cx ⟨t.kind, v.n, 0, ByteArray.empty, []⟩ = true then some ⟨t.kind, v.n, 0, ByteArray.empty, []⟩ else some kf) = some (Nm.numV t.kind v.n 0) := by
  rw [Nm.numV_eq, pI rfl]
  split <;> rfl
 rw [hR, hJ]
 by_cases h1 : t.kind = 1
 ·rw [if_pos h1]
  by_cases hb : 0 ≤ v.n ∧ v.n ≤ 1
  ·rw [if_pos hb]; exact ⟨_, rfl, rfl, xG rfl s2.symm⟩
  ·rw [if_neg hb]
   have hz : Nm.numV t.kind v.n 0 = kf := by
    have hpn : ¬ bl ⟨t.kind, v.n, 0, ByteArray.empty, []⟩ = true := by
     intro hpl
     have := (ja hpl).bool h1
     simp only at this
     omega
    rw [Nm.numV_eq, if_neg hpn]
    rfl
   rw [hz]
   exact ⟨kf, rfl, rfl, .inl rfl⟩
 ·rw [if_neg h1]; exact ⟨_, rfl, rfl, xG rfl s2.symm⟩
end Go.Proofs.YtpmoopnkoknbeaaGreatDoor
namespace Go.Proofs.YtpmoopnkoknbeaaGreatDoor
open Go Go.PX Go.SX Go.SX.Cal
def CV : Nat → ac → af → Prop
 | 0, _, _ => False
 | d + 1, v, t => v.kind = 0 ∨ (v.kind ≠ 6 ∧ v.kind ≠ 7 ∧ t.kind ≠ 6 ∧ t.kind ≠ 7 ∧ cn v.kind t.kind = true) ∨
  ((v.kind = 6 ∨ v.kind = 7) ∧ v.kind = t.kind ∧ (v.kind = 7 → v.items.length = t.fields.length) ∧ H6 t v ∧ ∀ i, i < v.items.length → CV d (iv v i) (ft t i))
theorem D7 {a b : Int} (ha : 1 ≤ a ∧ a ≤ 5) (h : cn a b = true) : 1 ≤ b ∧ b ≤ 5 := by
 unfold cn at h
 by_cases h1 : a = 1
 ·rw [if_pos h1] at h; simp at h; omega
 rw [if_neg h1] at h
 by_cases h2 : a = 2
 ·rw [if_pos h2] at h; simp at h; omega
 rw [if_neg h2] at h
 by_cases h3 : a = 3
 ·rw [if_pos h3] at h; simp at h; omega
 rw [if_neg h3] at h
 by_cases h4 : a = 4
 ·rw [if_pos h4] at h; simp at h; omega
 rw [if_neg h4] at h
 by_cases h5 : a = 5
 ·rw [if_pos h5] at h; simp at h; omega
 omega
theorem Cl {a b : Int} (ha : a = 6 ∨ a = 7) : cn a b = decide (a = b) := by
 unfold cn
 rw [if_neg (by omega), if_neg (by omega), if_neg (by omega), if_neg (by omega), if_neg (by omega), Bool.eq_iff_iff]
 simp
theorem yW (k : Nat) (a b : af) (ha : 1 ≤ a.kind ∧ a.kind ≤ 5) (hb : 1 ≤ b.kind ∧ b.kind ≤ 5) : fe (k + 1) a b = some (cn a.kind b.kind) := by
 rw [fe]
 unfold gO iA kW mR oI m5 kU cn
 rw [Ej, Ej, oT, oT]
 simp only [ae, ar, beq_iff_eq]
 have hak : a.kind = 1 ∨ a.kind = 2 ∨ a.kind = 3 ∨ a.kind = 4 ∨ a.kind = 5 := by omega
 have hbk : b.kind = 1 ∨ b.kind = 2 ∨ b.kind = 3 ∨ b.kind = 4 ∨ b.kind = 5 := by omega
 rcases hak with h | h | h | h | h <;> rcases hbk with h' | h' | h' | h' | h' <;> simp [h, h']
theorem HG {t : af} {v : ac} (hV : V t) (hl : v.items.length ≤ 1000000000) (hfit : H6 t v) (hkk : t.kind = 6 ∨ t.kind = 7) (q1 q2 : ac → af → Option Bool) (P : ac → af → Prop)
  (hq : ∀ i, i < v.items.length → ∃ b, q1 (iv v i) (ft t i) = some b ∧ q2 (iv v i) (ft t i) = some b ∧ (b = true → P (iv v i) (ft t i))) :
  ∀ (m f f2 i : Nat), i + m = v.items.length → m < f → m < f2 → ∃ b, bB q1 v t f (i : Int) = some b ∧ df q2 v t f2 (i : Int) = some b ∧ (b = true → ∀ j, i ≤ j → j < v.items.length → P (iv v j) (ft t j)) := by
 intro m
 induction m with
 | zero =>
  intro f f2 i hi hf hf2
  obtain ⟨f, rfl⟩ : ∃ g, f = g + 1 := ⟨f - 1, by omega⟩
  obtain ⟨f2, rfl⟩ : ∃ g, f2 = g + 1 := ⟨f2 - 1, by omega⟩
  rw [bB, df, ar, ar, if_neg (by simp; omega), if_neg (by simp; omega)]
  exact ⟨true, rfl, rfl, fun _ j h1 h2 => by omega⟩
 | succ m ih =>
  intro f f2 i hi hf hf2
  obtain ⟨f, rfl⟩ : ∃ g, f = g + 1 := ⟨f - 1, by omega⟩
  obtain ⟨f2, rfl⟩ : ∃ g, f2 = g + 1 := ⟨f2 - 1, by omega⟩
  have hlt : i < v.items.length := by omega
  obtain ⟨fd, f1, e2, e3, _⟩ := qF (hfit i hlt)
  have hfd : cS t ((i : Nat) : Int) = some fd := by
   unfold cS eG
   rw [ar]
   by_cases h6 : t.kind = 6
   ·rw [if_pos h6] at e2
    rw [if_pos (by simpa using h6), show at? t.fields (0 : Int) = some fd from fM (i := 0) e2]; rfl
   ·rw [if_neg h6] at e2
    rw [if_neg (by simpa using h6), fM e2]; rfl
  have hj2 : ∀ rec1, (ax (t.kind == (6 : Int)) (gw rec1 q2 v t (i : Int) (0 : Int)) (gw rec1 q2 v t (i : Int) (i : Int))) = az (q2 (iv v i) (ft t i)) fun r5 => ax (!r5) (some false) (rec1 (IntKind.i64.wrap ((i : Int) + (1 : Int)))) := by
   intro rec1
   unfold gw
   rw [ar]
   by_cases h6 : t.kind = 6
   ·rw [if_pos h6] at e2
    rw [if_pos (by simpa using h6), cf hlt, ae, show at? t.fields (0 : Int) = some fd from fM (i := 0) e2, ae, e3, lI hlt]
   ·rw [if_neg h6] at e2
    rw [if_neg (by simpa using h6), cf hlt, ae, fM e2, ae, e3, lI hlt]
  obtain ⟨b, b1, b2, b3⟩ := hq i hlt
  rw [bB, df, hj2, ar, ar, if_pos (by simp; omega), if_pos (by simp; omega), cf hlt, ae, hfd, ae, e3, lI hlt, b1, b2, ae, ae, ar, ar, fL (by omega) (by omega)]
  cases b with
  | false => exact ⟨false, rfl, rfl, fun h => by cases h⟩
  | true =>
   rw [if_neg (by simp), if_neg (by simp)]
   obtain ⟨c, c1, c2, c3⟩ := ih f f2 (i + 1) (by omega) (by omega) (by omega)
   refine ⟨c, c1, c2, fun hc j h1 h2 => ?_⟩
   by_cases hj : j = i
   ·subst hj; exact b3 rfl
   ·exact c3 hc j (by omega) h2
theorem Bv : ∀ (d : Nat) (v : ac) (t : af), pF d v → V t → aY v ≤ 10000000 → ∀ (k k' : Nat), d ≤ k → d ≤ k' → ∃ b, aU k v t = some b ∧ bV k' v t = some b ∧ (b = true → CV d v t) := by
 intro d
 induction d with
 | zero => intro v t h; exact h.zero.elim
 | succ d ih =>
  intro v t h hV hv k k' hk hk'
  obtain ⟨k, rfl⟩ : ∃ g, k = g + 1 := ⟨k - 1, by omega⟩
  obtain ⟨k', rfl⟩ : ∃ g, k' = g + 1 := ⟨k' - 1, by omega⟩
  obtain ⟨hp, hi⟩ := h.succ
  have hl := ja hp
  have hkin := hl.kin
  have hkt := xe hV
  have hs := eb v
  have hn := dZ v.items
  rw [aU, bV, Jr, oT, oT]
  simp only [ar, beq_iff_eq, ae]
  by_cases h0 : v.kind = 0
  ·rw [if_pos h0, if_pos h0]
   exact ⟨true, rfl, rfl, fun _ => .inl h0⟩
  rw [if_neg h0, if_neg h0]
  by_cases hlf : v.kind ≠ 6 ∧ v.kind ≠ 7
  ·
   have hit := bn hp hlf.1 hlf.2
   have hl1 : bB (aU k) v t aW 0 = some true := by
    rw [aA, bB, hit]; rfl
   have hj1f : bq (aU k) v t false = some true := by
    unfold bq; rw [ar, if_neg (by simp), hl1]
   have hj1t : bq (aU k) v t true = some false := by
    unfold bq; rw [ar, if_pos rfl]
   rw [if_neg hlf.2, decide_eq_true hlf, hj1t, hj1f]
   simp only [if_true]
   by_cases htf : t.kind ≠ 6 ∧ t.kind ≠ 7
   ·rw [decide_eq_true htf, aA, yW _ _ _ (by show 1 ≤ v.kind ∧ v.kind ≤ 5; omega) (by omega)]
    show ∃ b, (if (!cn v.kind t.kind) = true then some false else some true) = some b ∧ some (cn v.kind t.kind) = some b ∧ _
    cases hc : cn v.kind t.kind with
    | false => exact ⟨false, rfl, rfl, fun h => by cases h⟩
    | true => exact ⟨true, rfl, rfl, fun _ => .inr (.inl ⟨hlf.1, hlf.2, htf.1, htf.2, hc⟩)⟩
   ·have hcf : cn v.kind t.kind = false := by
     cases hc : cn v.kind t.kind with
     | false => rfl
     | true => have := D7 (by omega) hc; omega
    rw [decide_eq_false htf, hcf]
    exact ⟨false, rfl, rfl, fun h => by cases h⟩
  ·have h67 : v.kind = 6 ∨ v.kind = 7 := by omega
   rw [Cl h67, decide_eq_false hlf]
   have hj1t : bq (aU k) v t true = some false := by
    unfold bq; rw [ar, if_pos rfl]
   have hr1t : ed (bV k') v t true = some false := by
    unfold ed; rw [ar, if_pos rfl]
   by_cases he : v.kind = t.kind
   ·have htf : ¬ (t.kind ≠ 6 ∧ t.kind ≠ 7) := by omega
    rw [decide_eq_true he, decide_eq_false htf, show (v.kind != t.kind) = false from by rw [he]; exact bne_self_eq_false _]
    simp only [Bool.not_true, Bool.false_eq_true, if_false, beq_self_eq_true]
    have main : (v.kind = 7 → v.items.length = t.fields.length) → ∃ b, bq (aU k) v t false = some b ∧ ed (bV k') v t false = some b ∧ (b = true → CV (d + 1) v t) := by
     intro h7l
     have hfit : H6 t v := by
      intro i hi'
      by_cases h6 : t.kind = 6
      ·rw [if_pos h6, hV.list h6]; omega
      ·rw [if_neg h6, ← h7l (by omega)]; exact hi'
     unfold bq ed
     rw [ar, ar, if_neg (by simp), if_neg (by simp)]
     obtain ⟨b, b1, b2, b3⟩ := HG hV (by omega) hfit (by omega) (aU k) (bV k') (CV d) (fun i hlt => by
      obtain ⟨fd, f1, _, f3, _⟩ := qF (hfit i hlt)
      have hm := lP hlt
      have := ef hm
      exact ih (iv v i) (ft t i) (hi _ hm) (by rw [← f3]; exact hV.fs fd f1) (by omega) k k' (by omega) (by omega)) v.items.length aW aW 0 (by omega) (by rw [aA]; omega) (by rw [aA]; omega)
     exact ⟨b, b1, b2, fun hb => .inr (.inr ⟨h67, he, h7l, hfit, fun i hi' => b3 hb i (Nat.zero_le _) hi'⟩)⟩
    by_cases h7 : v.kind = 7
    ·rw [if_pos h7, if_pos (show t.kind = 7 by omega)]
     by_cases hle : v.items.length = t.fields.length
     ·rw [show ((v.items.length : Int) != (t.fields.length : Int)) = false by simp [hle]]
      exact main (fun _ => hle)
     ·rw [show ((v.items.length : Int) != (t.fields.length : Int)) = true by simp; omega, hj1t, hr1t]
      exact ⟨false, rfl, rfl, fun h => by cases h⟩
    ·rw [if_neg h7, if_neg (show ¬ t.kind = 7 by omega)]
     exact main (fun h => absurd h h7)
   ·rw [decide_eq_false he, hj1t]
    by_cases htf : t.kind ≠ 6 ∧ t.kind ≠ 7
    ·rw [decide_eq_true htf]
     exact ⟨false, rfl, rfl, fun h => by cases h⟩
    ·rw [decide_eq_false htf, show (v.kind != t.kind) = true by simp [he], hr1t]
     exact ⟨false, rfl, rfl, fun h => by cases h⟩
end Go.Proofs.YtpmoopnkoknbeaaGreatDoor
namespace Go.Proofs.YtpmoopnkoknbeaaGreatDoor
open Go Go.PX Go.SX Go.SX.Cal
def Sz (d : Nat) (v w : ac) : Prop := ∀ z z' : Int, z ≤ z' → (bc d v z').1 = true → (bc d w z).1 = true ∧ (bc d w z).2 ≤ (bc d v z').2
theorem ED (d : Nat) : ∀ (l m : List ac), m.length = l.length → (∀ (j : Nat) v w, l[j]? = some v → m[j]? = some w → Sz d v w) → ∀ z z' : Int, z ≤ z' → (dm (bc d) l z').1 = true → (dm (bc d) m z).1 = true ∧ (dm (bc d) m z).2 ≤ (dm (bc d) l z').2
 | [], [], _, _, z, z', hz, _ => ⟨rfl, hz⟩
 | [], w :: m, h, _, _, _, _, _ => by simp at h
 | v :: l, [], h, _, _, _, _, _ => by simp at h
 | v :: l, w :: m, h, hS, z, z', hz, hs => by
  simp only [dm] at hs ⊢
  by_cases hv : (bc d v z').1 = true
  ·rw [if_pos hv] at hs ⊢
   obtain ⟨a, b⟩ := hS 0 v w rfl rfl z z' hz hv
   rw [if_pos a]
   exact ED d l m (by simpa using h) (fun j v w h1 h2 => hS (j + 1) v w h1 h2) _ _ b hs
  ·rw [if_neg hv] at hs; cases hs
theorem BR : ∀ (d e : Nat) (w : ac) (z : Int), d ≤ e → (bc d w z).1 = true → bc e w z = bc d w z := by
 intro d
 induction d with
 | zero => intro e w z _ h; cases h
 | succ d ih =>
  intro e w z he h
  obtain ⟨e, rfl⟩ : ∃ g, e = g + 1 := ⟨e - 1, by omega⟩
  simp only [bc] at h ⊢
  by_cases hc : 256 < ls w z ∨ bl w = false
  ·rw [if_pos hc] at h; cases h
  ·rw [if_neg hc] at h
   rw [if_neg hc, if_neg hc]
   have key : ∀ (l : List ac) (y : Int), (dm (bc d) l y).1 = true → dm (bc e) l y = dm (bc d) l y := by
    intro l
    induction l with
    | nil => intro y _; rfl
    | cons x l ihl =>
     intro y hy
     simp only [dm] at hy ⊢
     by_cases hx : (bc d x y).1 = true
     ·rw [if_pos hx] at hy
      rw [ih e x y (by omega) hx, if_pos hx, if_pos hx]
      exact ihl _ hy
     ·rw [if_neg hx] at hy; cases hy
   exact key _ _ h
theorem EK {d : Nat} {v : ac} : Sz (d + 1) v kf := by
 intro z z' hz h
 simp only [bc] at h ⊢
 by_cases hc : 256 < ls v z' ∨ bl v = false
 ·rw [if_pos hc] at h; cases h
 ·rw [if_neg hc] at h ⊢
  have h1 : z' ≤ ls v z' := by unfold ls; split <;> omega
  have hcn : ls kf z = z := rfl
  have h2 : ¬ (256 < ls kf z ∨ bl kf = false) := by
   rw [hcn, not_or]
   rw [not_or] at hc
   exact ⟨by omega, by decide⟩
  rw [if_neg h2, hcn]
  refine ⟨rfl, ?_⟩
  have key : ∀ (l : List ac) (y : Int), (∀ x ∈ l, ∀ y, (bc d x y).1 = true → y ≤ (bc d x y).2) → (dm (bc d) l y).1 = true → y ≤ (dm (bc d) l y).2 := by
   intro l
   induction l with
   | nil => intro y _ _; exact Int.le_refl _
   | cons x l ihl =>
    intro y hx hy
    simp only [dm] at hy ⊢
    by_cases hh : (bc d x y).1 = true
    ·rw [if_pos hh] at hy ⊢
     have := hx x (List.mem_cons_self ..) y hh
     have := ihl _ (fun x' h' => hx x' (List.mem_cons_of_mem _ h')) hy
     omega
    ·rw [if_neg hh] at hy; cases hy
  have up : ∀ (d : Nat) (x : ac) (y : Int), (bc d x y).1 = true → y ≤ (bc d x y).2 := by
   intro d
   induction d with
   | zero => intro x y h; cases h
   | succ d ihd =>
    intro x y h
    simp only [bc] at h ⊢
    by_cases hc : 256 < ls x y ∨ bl x = false
    ·rw [if_pos hc] at h; cases h
    ·rw [if_neg hc] at h ⊢
     have h1 : y ≤ ls x y := by unfold ls; split <;> omega
     have key : ∀ (l : List ac) (y : Int), (dm (bc d) l y).1 = true → y ≤ (dm (bc d) l y).2 := by
      intro l
      induction l with
      | nil => intro y _; exact Int.le_refl _
      | cons x l ihl =>
       intro y hy
       simp only [dm] at hy ⊢
       by_cases hh : (bc d x y).1 = true
       ·rw [if_pos hh] at hy ⊢
        have := ihd x y hh
        have := ihl _ hy
        omega
       ·rw [if_neg hh] at hy; cases hy
     have := key _ _ h
     omega
  have := key v.items (ls v z') (fun x _ y => up d x y) h
  show z ≤ _
  omega
theorem JD {d : Nat} {v w : ac} {u : af} (h0 : v.kind ≠ 0) (hvi : v.items = []) (hw : Lw w u) (u6 : u.kind ≠ 6) (u7 : u.kind ≠ 7) : Sz (d + 1) v w := by
 rcases hw with rfl | ⟨h1, h2, h3⟩
 ·exact EK
 ·intro z z' hz h
  have hwi := bn h3 (by omega) (by omega)
  simp only [bc] at h ⊢
  by_cases hc : 256 < ls v z' ∨ bl v = false
  ·rw [if_pos hc] at h; cases h
  ·rw [if_neg hc] at h ⊢
   have e1 : ls v z' = z' + 1 := by unfold ls; rw [if_neg h0]
   have e2 : ls w z ≤ z + 1 := by unfold ls; split <;> omega
   rw [not_or] at hc
   have h4 : ¬ (256 < ls w z ∨ bl w = false) := by
    rw [not_or, h3]
    exact ⟨by omega, by simp⟩
   rw [if_neg h4, hvi, hwi]
   refine ⟨rfl, ?_⟩
   show ls w z ≤ ls v z'
   omega
theorem IX {d : Nat} {w : ac} {u : af} (hw : Lw w u) (u6 : u.kind ≠ 6) (u7 : u.kind ≠ 7) : qK (d + 1) u w = true ∧ ig (d + 1) u w = false := by
 rcases hw with rfl | ⟨h1, h2, h3⟩
 ·exact ⟨by simp [qK, kf], rfl⟩
 ·have hwi := bn h3 (by omega) (by omega)
  refine ⟨?_, ?_⟩
  ·simp only [qK]
   by_cases h0 : w.kind = 0
   ·rw [if_pos h0]
   ·rw [if_neg h0, if_neg (fun h => h h1)]
    by_cases hk3 : w.kind = 3
    ·rw [if_pos hk3]; simpa using h2
    ·rw [if_neg hk3, if_neg (by omega), hwi]; rfl
  ·simp only [ig, hwi]; rfl
theorem Fx {w : ac} {u : af} (hw : Lw w u) (u4 : u.kind ≠ 4) (u6 : u.kind ≠ 6) (u7 : u.kind ≠ 7) : aY w = 1 := by
 rcases hw with rfl | ⟨h1, h2, h3⟩
 ·rw [bp, bH]
 ·rw [eb, bn h3 (by omega) (by omega), (ja h3).zero (by omega)]; simp [bX]
theorem DL {d : Nat} {v : ac} {t : af} (hS : pF (d + 1) v) (hV : V t) (h0 : v.kind ≠ 0) (h6 : v.kind ≠ 6) (h7 : v.kind ≠ 7) (t6 : t.kind ≠ 6) (t7 : t.kind ≠ 7) (hc : cn v.kind t.kind = true) (hv : aY v ≤ 10000000) (hd : d ≤ 4) (k : Nat) :
  ∃ w, aV (k + 3) v t = some w ∧ nT v t = some w ∧ Lw w t ∧ aY w ≤ 30 * aY v := by
 obtain ⟨w, e1, e2, e3⟩ := E8 hS hV h0 h6 h7 t6 t7 hc hv hd k
 refine ⟨w, e1, e2, e3, ?_⟩
 have hpos := nO v
 by_cases h4 : t.kind = 4
 ·rw [kJ (k + 2) h0 h6 h7] at e1
  by_cases he : v.kind = t.kind ∧ t.kind ≠ 3
  ·rw [if_pos he] at e1
   cases e1; omega
  ·rw [if_neg he, if_pos h4, wV (d + 1) aW v hS (by rw [aA]; omega) hv, ae] at e1
   cases e1
   have := wz _ v hS
   rw [bp, aE]; omega
 ·rw [Fx e3 h4 t6 t7]; omega
def Pw (d : Nat) (t : af) (v w : ac) : Prop := Sz d v w ∧ qK d t w = true ∧ ig d t w = false ∧ aY w ≤ 30 * aY v
theorem En (l : List ac) : du l = some l := by
 unfold du
 rw [bT (by omega)]
 simp
theorem Fu {t : af} {v : ac} {d : Nat} (hV : V t) (hl : v.items.length ≤ 1000000000) (hfit : H6 t v) (hkk : t.kind = 6 ∨ t.kind = 7) (q1 q2 : ac → af → Option ac)
  (hq : ∀ i, i < v.items.length → ∃ w, q1 (iv v i) (ft t i) = some w ∧ q2 (iv v i) (ft t i) = some w ∧ Pw d (ft t i) (iv v i) w)
  (hout : ∀ l : List ac, l.length = v.items.length → (∀ (j : Nat) w, l[j]? = some w → Pw d (ft t j) (iv v j) w) → cx ⟨v.kind, 0, 0, ByteArray.empty, l⟩ = true ∧ aY ⟨v.kind, 0, 0, ByteArray.empty, l⟩ < 1000000000) :
  ∀ (m f f2 : Nat) (l : List ac), l.length + m = v.items.length → m < f → m < f2 → (∀ (j : Nat) w, l[j]? = some w → Pw d (ft t j) (iv v j) w ∧ ¬ (w.kind = 0 ∧ nd t j = true)) →
   ∃ w, bk q1 v t f l (l.length : Int) = some w ∧ dX q2 v t f2 l (l.length : Int) = some w ∧
    (w = kf ∨ ∃ l', w = ⟨v.kind, 0, 0, ByteArray.empty, l'⟩ ∧ l'.length = v.items.length ∧ ∀ (j : Nat) x, l'[j]? = some x → Pw d (ft t j) (iv v j) x ∧ ¬ (x.kind = 0 ∧ nd t j = true)) := by
 intro m
 induction m with
 | zero =>
  intro f f2 l hi hf hf2 hP
  obtain ⟨f, rfl⟩ : ∃ g, f = g + 1 := ⟨f - 1, by omega⟩
  obtain ⟨f2, rfl⟩ : ∃ g, f2 = g + 1 := ⟨f2 - 1, by omega⟩
  obtain ⟨s1, s2⟩ := hout l (by omega) (fun j w h => (hP j w h).1)
  rw [bk, dX, ar, ar, if_neg (by simp; omega), if_neg (by simp; omega)]
  unfold iQ qg
  rw [En, ae, vp _ s2, s1, ae, ar, if_neg (by simp)]
  exact ⟨_, rfl, rfl, .inr ⟨l, rfl, by omega, hP⟩⟩
 | succ m ih =>
  intro f f2 l hi hf hf2 hP
  obtain ⟨f, rfl⟩ : ∃ g, f = g + 1 := ⟨f - 1, by omega⟩
  obtain ⟨f2, rfl⟩ : ∃ g, f2 = g + 1 := ⟨f2 - 1, by omega⟩
  generalize hli : l.length = i at *
  have hlt : i < v.items.length := by omega
  obtain ⟨fd, f1, e2, e3, e4⟩ := qF (hfit i hlt)
  have hfd : cS t ((i : Nat) : Int) = some fd := by
   unfold cS eG
   rw [ar]
   by_cases h6 : t.kind = 6
   ·rw [if_pos h6] at e2
    rw [if_pos (by simpa using h6), show at? t.fields (0 : Int) = some fd from fM (i := 0) e2]; rfl
   ·rw [if_neg h6] at e2
    rw [if_neg (by simpa using h6), fM e2]; rfl
  obtain ⟨w, w1, w2, w3⟩ := hq i hlt
  have hj : ∀ rec1, (ax (t.kind == (6 : Int)) (jP rec1 q2 v t l (i : Int) (0 : Int)) (jP rec1 q2 v t l (i : Int) (i : Int))) = ax (w.kind == (0 : Int)) (gQ rec1 l (i : Int) w fd.need) (gQ rec1 l (i : Int) w false) := by
   intro rec1
   unfold jP
   rw [ar]
   by_cases h6 : t.kind = 6
   ·rw [if_pos h6] at e2
    rw [if_pos (by simpa using h6), cf hlt, ae, show at? t.fields (0 : Int) = some fd from fM (i := 0) e2, ae, e3, lI hlt, w2, ae]
   ·rw [if_neg h6] at e2
    rw [if_neg (by simpa using h6), cf hlt, ae, fM e2, ae, e3, lI hlt, w2, ae]
  rw [bk, dX, hj, ar, ar, if_pos (by simp; omega), if_pos (by simp; omega), cf hlt, ae, hfd, ae, e3, lI hlt, w1, ae]
  have go : (¬ (w.kind = 0 ∧ nd t i = true)) → ∃ x, dz (bk q1 v t f) l (i : Int) w false = some x ∧ gQ (dX q2 v t f2) l (i : Int) w false = some x ∧
    (x = kf ∨ ∃ l', x = ⟨v.kind, 0, 0, ByteArray.empty, l'⟩ ∧ l'.length = v.items.length ∧ ∀ (j : Nat) x, l'[j]? = some x → Pw d (ft t j) (iv v j) x ∧ ¬ (x.kind = 0 ∧ nd t j = true)) := by
   intro hne
   unfold dz gQ
   rw [ar, ar, if_neg (by simp), if_neg (by simp), bT (by omega), bT (by omega), fL (by omega) (by omega)]
   have := ih f f2 (l ++ [w]) (by simp; omega) (by omega) (by omega) (fun j x hx => by
    rcases Nat.lt_or_ge j l.length with h | h
    ·rw [List.getElem?_append_left h] at hx
     exact hP j x hx
    ·rw [List.getElem?_append_right h] at hx
     have hj : j = i := by
      rcases Nat.lt_or_ge (j - l.length) 1 with h' | h'
      ·omega
      ·simp [List.getElem?_eq_none, h'] at hx
     subst hj
     rw [show j - l.length = 0 by omega] at hx
     simp at hx
     subst hx
     exact ⟨w3, hne⟩)
   rw [List.length_append, hli, List.length_singleton] at this
   exact this
  rw [ar, ar, e4]
  by_cases hk0 : w.kind = 0
  ·rw [if_pos (by simpa using hk0), if_pos (by simpa using hk0)]
   cases hnd : nd t i with
   | false =>
    exact go (fun h => by rw [hnd] at h; cases h.2)
   | true =>
    unfold dz gQ
    rw [ar, ar, if_pos rfl, if_pos rfl]
    exact ⟨kf, rfl, rfl, .inl rfl⟩
  ·rw [if_neg (by simpa using hk0), if_neg (by simpa using hk0)]
   exact go (fun h => hk0 h.1)
end Go.Proofs.YtpmoopnkoknbeaaGreatDoor
namespace Go.Proofs.YtpmoopnkoknbeaaGreatDoor
open Go Go.PX Go.SX Go.SX.Cal
theorem Bd : ∀ (l m : List ac), m.length = l.length → (∀ (j : Nat) v w, l[j]? = some v → m[j]? = some w → aY w ≤ 30 * aY v) → bX m ≤ 30 * bX l
 | [], [], _, _ => by simp [bX]
 | [], w :: m, h, _ => by simp at h
 | v :: l, [], h, _ => by simp at h
 | v :: l, w :: m, h, hS => by
  have h1 := hS 0 v w rfl rfl
  have h2 := Bd l m (by simpa using h) (fun j v w a b => hS (j + 1) v w a b)
  simp only [bX]; omega
theorem zV {v : ac} {i : Nat} (h : i < v.items.length) : v.items[i]? = some (iv v i) := by rw [List.getElem?_eq_getElem h, lI h]
theorem ER {d : Nat} {v : ac} {t : af} (hS : pF (d + 1) v) (h67 : v.kind = 6 ∨ v.kind = 7) (hk : v.kind = t.kind) (h7 : v.kind = 7 → v.items.length = t.fields.length) {l : List ac} (hl : l.length = v.items.length)
  (hP : ∀ (j : Nat) w, l[j]? = some w → Pw d (ft t j) (iv v j) w) : Sz (d + 1) v ⟨v.kind, 0, 0, ByteArray.empty, l⟩ ∧ qK (d + 1) t ⟨v.kind, 0, 0, ByteArray.empty, l⟩ = true ∧ aY ⟨v.kind, 0, 0, ByteArray.empty, l⟩ ≤ 30 * aY v := by
 obtain ⟨hp, _⟩ := hS.succ
 have hlf := ja hp
 have hpo : bl ⟨v.kind, 0, 0, ByteArray.empty, l⟩ = true := by
  unfold bl
  simp only
  rw [if_neg (by omega), if_neg (by omega), if_neg (by omega), if_neg (by omega), if_neg (by omega), if_neg (by omega)]
  rcases h67 with h | h
  ·have := hlf.lst h
   rw [if_pos h, bH]; simp; omega
  ·have := hlf.rcd h
   rw [if_neg (by omega), if_pos h, bH]; simp; omega
 refine ⟨?_, ?_, ?_⟩
 ·intro z z' hz h
  simp only [bc] at h ⊢
  by_cases hc : 256 < ls v z' ∨ bl v = false
  ·rw [if_pos hc] at h; cases h
  ·rw [if_neg hc] at h
   rw [if_neg hc]
   have e1 : ls v z' = z' + 1 := by unfold ls; rw [if_neg (by omega)]
   have e2 : ls ⟨v.kind, 0, 0, ByteArray.empty, l⟩ z = z + 1 := by unfold ls; rw [if_neg (show ¬ v.kind = 0 by omega)]
   rw [not_or] at hc
   have h4 : ¬ (256 < ls ⟨v.kind, 0, 0, ByteArray.empty, l⟩ z ∨ bl ⟨v.kind, 0, 0, ByteArray.empty, l⟩ = false) := by
    rw [not_or, hpo, e2]
    exact ⟨by omega, by simp⟩
   rw [if_neg h4]
   exact ED d v.items l hl (fun j x w h1 h2 => by
    have hj : j < v.items.length := by
     rcases Nat.lt_or_ge j v.items.length with h | h
     ·exact h
     ·rw [List.getElem?_eq_none h] at h1; cases h1
    rw [zV hj] at h1
    cases h1
    exact (hP j w h2).1) _ _ (by rw [e1, e2]; omega) h
 ·simp only [qK]
  rw [if_neg (show ¬ v.kind = 0 by omega), if_neg (fun h => h hk), if_neg (show ¬ v.kind = 3 by omega), if_neg (fun h => h.2 (by rw [hl]; exact (h7 h.1).symm))]
  rw [Option.isNone_iff_eq_none, jE]
  intro j _ hj
  have hg : l[j]? = some (iv ⟨v.kind, 0, 0, ByteArray.empty, l⟩ j) := zV (v := ⟨v.kind, 0, 0, ByteArray.empty, l⟩) hj
  rw [(hP j _ hg).2.1]; rfl
 ·rw [l7]
  have := Bd v.items l hl (fun j x w h1 h2 => by
   have hj : j < v.items.length := by
    rcases Nat.lt_or_ge j v.items.length with h | h
    ·exact h
    ·rw [List.getElem?_eq_none h] at h1; cases h1
   rw [zV hj] at h1
   cases h1
   exact (hP j w h2).2.2.2)
  have hs := eb v
  omega
theorem Dv {d : Nat} {k : Int} {t : af} {v : ac} {l : List ac} (hP : ∀ (j : Nat) w, l[j]? = some w → Pw d (ft t j) (iv v j) w ∧ ¬ (w.kind = 0 ∧ nd t j = true)) : ig (d + 1) t ⟨k, 0, 0, ByteArray.empty, l⟩ = false := by
 simp only [ig]
 rw [show first (fun i => ((iv ⟨k, 0, 0, ByteArray.empty, l⟩ i).kind == 0 && nd t i) || ig d (ft t i) (iv ⟨k, 0, 0, ByteArray.empty, l⟩ i)) 0 l.length = none from ?_]
 ·rfl
 ·rw [jE]
  intro j _ hj
  have hg : l[j]? = some (iv ⟨k, 0, 0, ByteArray.empty, l⟩ j) := zV (v := ⟨k, 0, 0, ByteArray.empty, l⟩) hj
  obtain ⟨a, b⟩ := hP j _ hg
  rw [a.2.2.1, Bool.or_false]
  cases hx : ((iv ⟨k, 0, 0, ByteArray.empty, l⟩ j).kind == 0 && nd t j) with
  | false => rfl
  | true =>
   exfalso
   apply b
   simpa using hx
theorem Ft : ∀ (d : Nat) (x : ac) (y : Int), (bc d x y).1 = true → y ≤ (bc d x y).2 := by
 intro d
 induction d with
 | zero => intro x y h; cases h
 | succ d ihd =>
  intro x y h
  simp only [bc] at h ⊢
  by_cases hc : 256 < ls x y ∨ bl x = false
  ·rw [if_pos hc] at h; cases h
  ·rw [if_neg hc] at h ⊢
   have h1 : y ≤ ls x y := by unfold ls; split <;> omega
   have key : ∀ (l : List ac) (y : Int), (dm (bc d) l y).1 = true → y ≤ (dm (bc d) l y).2 := by
    intro l
    induction l with
    | nil => intro y _; exact Int.le_refl _
    | cons x l ihl =>
     intro y hy
     simp only [dm] at hy ⊢
     by_cases hh : (bc d x y).1 = true
     ·rw [if_pos hh] at hy ⊢
      have := ihd x y hh
      have := ihl _ hy
      omega
     ·rw [if_neg hh] at hy; cases hy
   have := key _ _ h
   omega
def JJ (d : Nat) (v : ac) : Prop := ∃ z : Int, 0 ≤ z ∧ (bc d v z).1 = true
theorem JJ.snd {d : Nat} {v : ac} (h : JJ d v) : pF d v := by obtain ⟨z, _, h⟩ := h; exact ⟨z, h⟩
theorem JJ.items {d : Nat} {v : ac} (h : JJ (d + 1) v) : ∀ x ∈ v.items, JJ d x := by
 obtain ⟨z, h0, h⟩ := h
 simp only [bc] at h
 by_cases hc : 256 < ls v z ∨ bl v = false
 ·rw [if_pos hc] at h; cases h
 ·rw [if_neg hc] at h
  have h1 : 0 ≤ ls v z := by unfold ls; split <;> omega
  have key : ∀ (l : List ac) (y : Int), 0 ≤ y → (dm (bc d) l y).1 = true → ∀ x ∈ l, JJ d x := by
   intro l
   induction l with
   | nil => intro y _ _ x hx; cases hx
   | cons a l ihl =>
    intro y hy0 hy x hx
    simp only [dm] at hy
    by_cases hh : (bc d a y).1 = true
    ·rw [if_pos hh] at hy
     rcases List.mem_cons.1 hx with rfl | hx
     ·exact ⟨y, hy0, hh⟩
     ·exact ihl _ (by have := Ft d a y hh; omega) hy x hx
    ·rw [if_neg hh] at hy; cases hy
  exact key _ _ h1 h
theorem I2 : ∀ (d : Nat) (v : ac) (t : af), JJ d v → d ≤ 4 → V t → CV d v t → aY v ≤ 10000000 → ∀ (k k' : Nat), 2 * d + 1 ≤ k → d ≤ k' →
  ∃ w, aV k v t = some w ∧ eO k' v t = some w ∧ Pw d t v w := by
 intro d
 induction d with
 | zero => intro v t h; exact h.snd.zero.elim
 | succ d ih =>
  intro v t hnn hd hV hC hv k k' hk hk'
  have h := hnn.snd
  obtain ⟨k, rfl⟩ : ∃ g, k = g + 3 := ⟨k - 3, by omega⟩
  obtain ⟨k', rfl⟩ : ∃ g, k' = g + 1 := ⟨k' - 1, by omega⟩
  obtain ⟨hp, hi⟩ := h.succ
  have hl := ja hp
  have hpos := nO v
  have hs := eb v
  have hn := dZ v.items
  have hnul : Pw (d + 1) t v kf := ⟨EK, by simp [qK, kf], rfl, by rw [bp, bH]; omega⟩
  rcases hC with h0 | ⟨h6, h7, t6, t7, hc⟩ | ⟨h67, he, h7l, hfit, hCi⟩
  ·have hvn : v = kf := (lX h0 (hl.nn (.inl h0)) (bL hp (by omega)) (iR (hl.zero (by omega))) (bn hp (by omega) (by omega))).symm
   refine ⟨kf, ?_, ?_, hnul⟩
   ·rw [aV, ar, if_pos (by simpa using h0)]
   ·rw [eO, ar, if_pos (by simpa using h0), hvn]
  ·by_cases h0 : v.kind = 0
   ·have hvn : v = kf := (lX h0 (hl.nn (.inl h0)) (bL hp (by omega)) (iR (hl.zero (by omega))) (bn hp (by omega) (by omega))).symm
    refine ⟨kf, ?_, ?_, hnul⟩
    ·rw [aV, ar, if_pos (by simpa using h0)]
    ·rw [eO, ar, if_pos (by simpa using h0), hvn]
   ·obtain ⟨w, e1, e2, e3, e4⟩ := DL h hV h0 h6 h7 t6 t7 hc hv (by omega) k
    obtain ⟨o1, o2⟩ := IX (d := d) e3 t6 t7
    refine ⟨w, e1, ?_, JD h0 (bn hp h6 h7) e3 t6 t7, o1, o2, e4⟩
    rw [eO, ar, if_neg (by simpa using h0), oT, ae, decide_eq_true ⟨h6, h7⟩, ar, if_pos rfl, e2, ae]
  ·have h0 : v.kind ≠ 0 := by omega
   have hq : ∀ i, i < v.items.length → ∃ w, aV (k + 1) (iv v i) (ft t i) = some w ∧ eO k' (iv v i) (ft t i) = some w ∧ Pw d (ft t i) (iv v i) w := by
    intro i hlt
    obtain ⟨fd, f1, _, f3, _⟩ := qF (hfit i hlt)
    have hm := lP hlt
    have := ef hm
    exact ih (iv v i) (ft t i) (hnn.items _ hm) (by omega) (by rw [← f3]; exact hV.fs fd f1) (hCi i hlt) (by omega) (k + 1) k' (by omega) (by omega)
   obtain ⟨z, hz0, hz⟩ := id hnn
   have hout : ∀ l : List ac, l.length = v.items.length → (∀ (j : Nat) w, l[j]? = some w → Pw d (ft t j) (iv v j) w) → cx ⟨v.kind, 0, 0, ByteArray.empty, l⟩ = true ∧ aY ⟨v.kind, 0, 0, ByteArray.empty, l⟩ < 1000000000 := by
    intro l hll hP
    obtain ⟨g1, g2, g3⟩ := ER h h67 he h7l hll hP
    refine ⟨?_, by omega⟩
    unfold cx
    have h2 := (g1 0 z hz0 hz).1
    rw [BR (d + 1) 4 _ 0 hd h2]
    exact h2
   obtain ⟨w, e1, e2, e3⟩ := Fu hV (by omega) hfit (by omega) (aV (k + 1)) (eO k') hq hout v.items.length aW aW [] (by simp) (by rw [aA]; omega) (by rw [aA]; omega) (fun j w h => by simp at h)
   refine ⟨w, ?_, ?_, ?_⟩
   ·rw [aV]
    unfold jh
    simp only [ar, beq_iff_eq]
    rw [if_neg h0, eT, tu]
    by_cases h6 : v.kind = 6
    ·rw [if_pos h6]; exact e1
    ·rw [if_neg h6, if_pos (show v.kind = 7 by omega)]; exact e1
   ·rw [eO, ar, if_neg (by simpa using h0), oT, ae, decide_eq_false (by omega), ar, if_neg (by simp)]
    exact e2
   ·rcases e3 with rfl | ⟨l, rfl, hll, hP⟩
    ·exact hnul
    ·obtain ⟨g1, g2, g3⟩ := ER h h67 he h7l hll (fun j w hw => (hP j w hw).1)
     exact ⟨g1, g2, Dv hP, g3⟩
theorem Jl (v : ac) (t : af) (hv : aY v ≤ 10000000) (hT : dn t < 1000000000) : ∃ w, eC v t = some w ∧ rO v t = some w ∧ aY w < 1000000000 ∧
  (w = kf ∨ (cx v = true ∧ bC t = some 0 ∧ CV 4 v t ∧ V t ∧ aV aW v t = some w ∧ qK 4 t w = true ∧ ig 4 t w = false ∧ cx w = true)) ∧
  (cx v = true → bC t = some 0 → (bV aW v t = some true) → aV aW v t = some w) := by
 have hvj : gu v t true = some kf := by unfold gu; rw [ar, if_pos rfl]
 have hrj : iM v t true = some kf := by unfold iM; rw [ar, if_pos rfl]
 have hno : aY kf < 1000000000 := by rw [bp, bH]; decide
 unfold eC rO
 rw [o9 v (by omega), vp v (by omega), ae, ae, ar, ar, hvj, hrj]
 cases hs : cx v with
 | false => exact ⟨kf, rfl, rfl, hno, .inl rfl, fun h => by cases h⟩
 | true =>
  rw [if_neg (by simp), if_neg (by simp)]
  obtain ⟨e, h1, h2, h3⟩ := iW t hT
  rw [h1, h2, ae, ae, ar, ar]
  by_cases he : e = 0
  ·subst he
   have hV := h3 rfl
   rw [if_neg (by simp), if_neg (by simp)]
   have hnn : JJ 4 v := ⟨0, Int.le_refl _, hs⟩
   obtain ⟨b, b1, b2, b3⟩ := Bv 4 v t hnn.snd hV hv aW aW (by rw [aA]; omega) (by rw [aA]; omega)
   rw [b1, b2, ae, ae]
   cases b with
   | false =>
    rw [Bool.not_false, hvj, hrj]
    exact ⟨kf, rfl, rfl, hno, .inl rfl, fun _ _ h => by cases h⟩
   | true =>
    have hC := b3 rfl
    obtain ⟨w, w1, w2, w3, w4, w5, w6⟩ := I2 4 v t hnn (by omega) hV hC hv aW aW (by rw [aA]; omega) (by rw [aA]; omega)
    have hsw := (w3 0 0 (Int.le_refl _) hs).1
    have hsB : cx w = true := hsw
    unfold gu iM
    rw [Bool.not_true, ar, ar, if_neg (by simp), if_neg (by simp), w1, w2, ae, ae, o9 w (by omega), hsB, ae, ar, if_neg (by simp)]
    exact ⟨w, rfl, rfl, by omega, .inr ⟨rfl, rfl, hC, hV, rfl, w4, w5, hsB⟩, fun _ _ _ => rfl⟩
  ·rw [if_pos (by simpa using he), if_pos (by simpa using he)]
   exact ⟨kf, rfl, rfl, hno, .inl rfl, fun _ h => by cases h; exact absurd rfl he⟩
end Go.Proofs.YtpmoopnkoknbeaaGreatDoor
namespace Go.Proofs.YtpmoopnkoknbeaaGreatDoor
open Go Go.PX Go.SX Go.SX.Cal
theorem AS (p1 p2 : List aL) (hl : p1.length = p2.length) (hb : p1.length ≤ 1000000) (a b : af) (ha : a.fields = p1) (hbb : b.fields = p2) (q1 : aL → aL → Option Bool) (q2 : af → af → Option Bool)
  (hq : ∀ (i : Nat) (f g : aL), p1[i]? = some f → p2[i]? = some g → ∃ x, q1 f g = some x ∧ q2 f.type g.type = some x) :
  ∀ (m f f2 i : Nat), i + m = p1.length → m < f → m < f2 → ∃ x, ak q1 p1 p2 f (i : Int) = some x ∧ gm q2 a b f2 (i : Int) = some x := by
 intro m
 induction m with
 | zero =>
  intro f f2 i hi hf hf2
  obtain ⟨f, rfl⟩ : ∃ g, f = g + 1 := ⟨f - 1, by omega⟩
  obtain ⟨f2, rfl⟩ : ∃ g, f2 = g + 1 := ⟨f2 - 1, by omega⟩
  rw [ak, gm, ar, ar, if_neg (by simp; omega), if_neg (by rw [ha]; simp; omega)]
  exact ⟨true, rfl, rfl⟩
 | succ m ih =>
  intro f f2 i hi hf hf2
  obtain ⟨f, rfl⟩ : ∃ g, f = g + 1 := ⟨f - 1, by omega⟩
  obtain ⟨f2, rfl⟩ : ∃ g, f2 = g + 1 := ⟨f2 - 1, by omega⟩
  have h1 : i < p1.length := by omega
  have h2 : i < p2.length := by omega
  obtain ⟨x, x1, x2⟩ := hq i p1[i] p2[i] (List.getElem?_eq_getElem h1) (List.getElem?_eq_getElem h2)
  rw [ak, gm, ha, hbb, ar, ar, if_pos (by simp; omega), if_pos (by simp; omega), cf h1, ae, ae, cf h2, ae, ae, x1, x2, ae, ae, ar, ar, fL (by omega) (by omega)]
  cases x with
  | false => exact ⟨false, rfl, rfl⟩
  | true =>
   rw [if_neg (by simp), if_neg (by simp)]
   exact ih f f2 (i + 1) (by omega) (by omega) (by omega)
theorem MR : ∀ (n : Nat) (a b : af), dn a ≤ n → V a → V b → ∀ (k k' : Nat), 3 * n ≤ k → n ≤ k' → ∃ x, ia k a b = some x ∧ fe k' a b = some x := by
 intro n
 induction n with
 | zero => intro a b h; have := gN a; omega
 | succ n ih =>
  intro a b hn ha hb k k' hk hk'
  obtain ⟨k, rfl⟩ : ∃ g, k = g + 3 := ⟨k - 3, by omega⟩
  obtain ⟨k', rfl⟩ : ∃ g, k' = g + 1 := ⟨k' - 1, by omega⟩
  have hka := xe ha
  have hkb := xe hb
  have hst := gN a
  rw [ia, Jr, JM, ae, ar]
  have hcj : ∀ x, iu x = some x := fun x => rfl
  simp only [hcj, ae, ar]
  have hq : ∀ (i : Nat) (f g : aL), a.fields[i]? = some f → b.fields[i]? = some g → ∃ x, eV (k + 1) f g = some x ∧ fe k' f.type g.type = some x := by
   intro i f g h1 h2
   have m1 := List.mem_of_getElem? h1
   have m2 := List.mem_of_getElem? h2
   have s1 := io m1
   have s2 := gG f
   obtain ⟨x, x1, x2⟩ := ih f.type g.type (by omega) (ha.fs f m1) (hb.fs g m2) k k' (by omega) (by omega)
   exact ⟨x, by rw [eV, x1]; rfl, x2⟩
  by_cases hlf : a.kind ≠ 6 ∧ a.kind ≠ 7
  ·by_cases hlb : b.kind ≠ 6 ∧ b.kind ≠ 7
   ·rw [yW k' a b (by omega) (by omega), decide_eq_true hlf]
    cases cn a.kind b.kind <;> exact ⟨_, rfl, rfl⟩
   ·have hcf : cn a.kind b.kind = false := by
     cases hc : cn a.kind b.kind with
     | false => rfl
     | true => have := D7 (by omega) hc; omega
    rw [hcf]
    refine ⟨false, rfl, ?_⟩
    rw [fe]
    unfold gO iA kW
    rw [oT, oT]
    simp only [ar, ae, beq_iff_eq]
    rw [if_neg hlf.1, if_neg (by simp), if_neg hlf.2, if_neg (by simp), decide_eq_true hlf, if_neg (by simp), decide_eq_false hlb]
    rfl
  ·have h67 : a.kind = 6 ∨ a.kind = 7 := by omega
   rw [Cl h67, decide_eq_false hlf]
   by_cases he : a.kind = b.kind
   ·rw [decide_eq_true he, if_pos rfl, if_neg (by simp)]
    rw [aG, fe]
    by_cases hle : a.fields.length = b.fields.length
    ·rw [show ((a.fields.length : Int) != (b.fields.length : Int)) = false by simp [hle], ar, if_neg (by simp)]
     have hwa := ha.wid
     obtain ⟨x, x1, x2⟩ := AS a.fields b.fields hle (by omega) a b rfl rfl (eV (k + 1)) (fe k') hq a.fields.length aW aW 0 (by omega) (by rw [aA]; omega) (by rw [aA]; omega)
     rw [show (0 : Int) = ((0 : Nat) : Int) from rfl, x1, ae]
     refine ⟨x, rfl, ?_⟩
     by_cases h6 : a.kind = 6
     ·have l1 := ha.list h6
      have l2 := hb.list (by omega)
      obtain ⟨y, y1, y2⟩ := hq 0 a.fields[0] b.fields[0] (List.getElem?_eq_getElem (by omega)) (List.getElem?_eq_getElem (by omega))
      have hx : x = y := by
       have hb1 : aW = 1152921504606846974 + 2 := rfl
       rw [hb1, gm, ar, if_pos (by simp; omega), show at? a.fields ((0 : Nat) : Int) = some a.fields[0] from cf (by omega), ae, show at? b.fields ((0 : Nat) : Int) = some b.fields[0] from cf (by omega), ae, y2, ae] at x2
       cases y with
       | false => exact (Option.some.inj x2).symm
       | true =>
        rw [ar, if_neg (by simp), fL (by omega) (by omega), show (((0 : Nat) : Int) + 1) = ((1 : Nat) : Int) from rfl, gm, ar, if_neg (by simp; omega)] at x2
        exact (Option.some.inj x2).symm
      unfold gO
      simp only [ar, beq_iff_eq]
      rw [if_pos h6, if_pos (show b.kind = 6 by omega), show at? a.fields (0 : Int) = some a.fields[0] from cf (i := 0) (by omega), ae, show at? b.fields (0 : Int) = some b.fields[0] from cf (i := 0) (by omega), ae, y2, hx]
      rfl
     ·have h7 : a.kind = 7 := by omega
      unfold gO iA
      simp only [ar, beq_iff_eq]
      rw [if_neg h6, if_neg (by simp), if_pos h7, if_pos (show b.kind = 7 by omega), show ((a.fields.length : Int) != (b.fields.length : Int)) = false by simp [hle], if_neg (by simp)]
      exact x2
    ·have h7 : a.kind = 7 := by
      rcases h67 with h | h
      ·exact absurd (by rw [ha.list h, hb.list (by omega)]) hle
      ·exact h
     rw [show ((a.fields.length : Int) != (b.fields.length : Int)) = true by simp; omega, ar, if_pos rfl]
     refine ⟨false, rfl, ?_⟩
     unfold gO iA
     simp only [ar, beq_iff_eq]
     rw [if_neg (show ¬ a.kind = 6 by omega), if_neg (by simp), if_pos h7, if_pos (show b.kind = 7 by omega), show ((a.fields.length : Int) != (b.fields.length : Int)) = true by simp; omega, if_pos rfl]
   ·rw [decide_eq_false he]
    refine ⟨false, rfl, ?_⟩
    rw [fe]
    unfold gO iA kW
    rw [oT, oT]
    simp only [ar, ae, beq_iff_eq]
    rcases h67 with h | h
    ·rw [if_pos h, if_neg (show ¬ b.kind = 6 by omega), if_neg (show ¬ a.kind = 7 by omega), if_neg (by simp), decide_eq_false hlf]
     rfl
    ·rw [if_neg (show ¬ a.kind = 6 by omega), if_neg (by simp), if_pos h, if_neg (show ¬ b.kind = 7 by omega), decide_eq_false hlf]
     rfl
theorem KU (a b : af) (ha : dn a < 1000000000) (hb : dn b < 1000000000) : ∃ x, rY a b = some x ∧ Cs a b = some x := by
 obtain ⟨e, h1, h2, h3⟩ := iW a ha
 obtain ⟨g, k1, k2, k3⟩ := iW b hb
 unfold rY Cs ln oH
 rw [h1, h2, ae, ae, k1, k2, ae, ae]
 simp only [ar, beq_iff_eq]
 by_cases he : e = 0
 ·rw [if_pos he, if_pos he]
  by_cases hg : g = 0
  ·rw [if_pos hg, if_pos hg]
   obtain ⟨x, x1, x2⟩ := MR (dn a) a b (Nat.le_refl _) (h3 he) (k3 hg) aW aW (by rw [aA]; omega) (by rw [aA]; omega)
   rw [x1, x2]
   exact ⟨x, rfl, rfl⟩
  ·rw [if_neg hg, if_neg hg]; exact ⟨false, rfl, rfl⟩
 ·rw [if_neg he, if_neg he]; exact ⟨false, rfl, rfl⟩
theorem vg : aW = 1152921504606846975 + 1 := rfl
end Go.Proofs.YtpmoopnkoknbeaaGreatDoor
namespace Go.Proofs.YtpmoopnkoknbeaaGreatDoor
open Go Go.PX Go.SX Go.SX.Cal
theorem EB {t : af} {w : ac} (hT : dn t < 1000000000) (hV : V t) (hw : aY w < 1000000000) (hc : bC t = some 0) (hs : cx w = true) (ho : qK 4 t w = true) (hl : ig 4 t w = false) : eW t w = some 0 := by
 unfold eW
 obtain ⟨a, _⟩ := of_eq 4 aW aW t w ⟨0, hs⟩ hV hw hT (by rw [aA]; omega) (by rw [aA]; omega)
 obtain ⟨b, _⟩ := AQ 4 aW aW t w ⟨0, hs⟩ hV ho hw hT (by rw [aA]; omega) (by rw [aA]; omega)
 rw [hc, ae, ar, if_neg (by simp), o9 w hw, hs, ae, ar, if_neg (by simp), a, ho, ae, ar, if_neg (by simp), b, hl, ae, ar, if_neg (by simp)]
theorem I1 {t : af} {v : ac} (hv : aY v < 1000000000) (hT : dn t < 1000000000) (h : ck t v = 0) : ig 4 t v = false := by
 obtain ⟨hV, hS, ho, hs, hc, _⟩ := rc hv hT h
 have hcc := Jd hv hT
 rw [h] at hcc
 unfold eW at hcc
 obtain ⟨a, _⟩ := of_eq 4 aW aW t v hS hV hv hT (by rw [aA]; omega) (by rw [aA]; omega)
 obtain ⟨b, _⟩ := AQ 4 aW aW t v hS hV ho hv hT (by rw [aA]; omega) (by rw [aA]; omega)
 rw [hc, ae, ar, if_neg (by simp), o9 v hv, hs, ae, ar, if_neg (by simp), a, ho, ae, ar, if_neg (by simp), b, ae, ar] at hcc
 cases hl : ig 4 t v with
 | false => rfl
 | true => rw [hl, if_pos rfl] at hcc; cases hcc
theorem IG {a : Int} (h : 1 ≤ a ∧ a ≤ 7) : cn a a = true := by
 have : a = 1 ∨ a = 2 ∨ a = 3 ∨ a = 4 ∨ a = 5 ∨ a = 6 ∨ a = 7 := by omega
 rcases this with rfl | rfl | rfl | rfl | rfl | rfl | rfl <;> rfl
theorem B9 {t : af} {v : ac} {i : Nat} (hfit : H6 t v) (hlt : i < v.items.length) : ∃ fd, fd ∈ t.fields ∧ cS t ((i : Nat) : Int) = some fd ∧ fd.type = ft t i ∧ fd.need = nd t i := by
 obtain ⟨fd, f1, e2, e3, e4⟩ := qF (hfit i hlt)
 refine ⟨fd, f1, ?_, e3, e4⟩
 unfold cS eG
 rw [ar]
 by_cases h6 : t.kind = 6
 ·rw [if_pos h6] at e2
  rw [if_pos (by simpa using h6), show at? t.fields (0 : Int) = some fd from fM (i := 0) e2]; rfl
 ·rw [if_neg h6] at e2
  rw [if_neg (by simpa using h6), fM e2]; rfl
theorem Ia : ∀ (d : Nat) (v : ac) (t : af), pF d v → V t → qK d t v = true → aY v ≤ 10000000 → ∀ k, d ≤ k → aU k v t = some true := by
 intro d
 induction d with
 | zero => intro v t h; exact h.zero.elim
 | succ d ih =>
  intro v t h hV ho hv k hk
  obtain ⟨k, rfl⟩ : ∃ g, k = g + 1 := ⟨k - 1, by omega⟩
  obtain ⟨hp, hi⟩ := h.succ
  have hl := ja hp
  have hs := eb v
  have hn := dZ v.items
  rw [aU, ar]
  by_cases h0 : v.kind = 0
  ·rw [if_pos (by simpa using h0)]
  obtain ⟨o1, o2, o3⟩ := kA ho h0
  obtain ⟨hfit, hof⟩ := xL h hV ho
  have hkin := hl.kin
  rw [if_neg (by simpa using h0), Jr, ← o1, IG (by omega), ae]
  have loop : ∀ (m f i : Nat), i + m = v.items.length → m < f → bB (aU k) v t f (i : Int) = some true := by
   intro m
   induction m with
   | zero =>
    intro f i hii hf
    obtain ⟨f, rfl⟩ : ∃ g, f = g + 1 := ⟨f - 1, by omega⟩
    rw [bB, ar, if_neg (by simp; omega)]; rfl
   | succ m ihm =>
    intro f i hii hf
    obtain ⟨f, rfl⟩ : ∃ g, f = g + 1 := ⟨f - 1, by omega⟩
    have hlt : i < v.items.length := by omega
    obtain ⟨fd, f1, hfd, e3, _⟩ := B9 hfit hlt
    have hm := lP hlt
    have := ef hm
    rw [bB, ar, if_pos (by simp; omega), cf hlt, ae, hfd, ae, e3, lI hlt, ih (iv v i) (ft t i) (hi _ hm) (by rw [← e3]; exact hV.fs fd f1) (hof i hlt) (by omega) k (by omega), ae, ar, if_neg (by simp), fL (by omega) (by omega)]
    exact ihm f (i + 1) (by omega) (by omega)
  have hj : bq (aU k) v t false = some true := by
   unfold bq
   rw [ar, if_neg (by simp)]
   exact loop v.items.length aW 0 (by omega) (by rw [aA]; omega)
  rw [ar, if_neg (by simp), ar]
  by_cases h7 : v.kind = 7
  ·rw [if_pos (by simpa using h7), show ((v.items.length : Int) != (t.fields.length : Int)) = false by rw [o3 h7]; exact bne_self_eq_false _]
   exact hj
  ·rw [if_neg (by simpa using h7)]
   exact hj
theorem FO : ∀ (d : Nat) (v : ac) (t : af), pF d v → V t → qK d t v = true → ig d t v = false → aY v ≤ 10000000 → ∀ k, 2 * d + 1 ≤ k → aV k v t = some v := by
 intro d
 induction d with
 | zero => intro v t h; exact h.zero.elim
 | succ d ih =>
  intro v t h hV ho hlk hv k hk
  obtain ⟨k, rfl⟩ : ∃ g, k = g + 3 := ⟨k - 3, by omega⟩
  obtain ⟨hp, hi⟩ := h.succ
  have hl := ja hp
  have hs := eb v
  have hn := dZ v.items
  have hkin := hl.kin
  by_cases h0 : v.kind = 0
  ·rw [aV, ar, if_pos (by simpa using h0), lX h0 (hl.nn (.inl h0)) (bL hp (by omega)) (iR (hl.zero (by omega))) (bn hp (by omega) (by omega))]
  obtain ⟨o1, o2, o3⟩ := kA ho h0
  obtain ⟨hfit, hof⟩ := xL h hV ho
  by_cases hlf : v.kind ≠ 6 ∧ v.kind ≠ 7
  ·by_cases h3 : v.kind = 3
   ·have hsb := hl.sc h3
    rw [pr (k + 2) hp (.inr h3) hV (.inl (by omega)), ← o2 h3, tN, ← o1, xy hp (by omega) hlf.1 hlf.2]
   ·rw [kJ (k + 2) h0 hlf.1 hlf.2, if_pos ⟨o1, by omega⟩]
  ·have h67 : v.kind = 6 ∨ v.kind = 7 := by omega
   have hv2 : ac.mk v.kind 0 0 ByteArray.empty v.items = v := lX rfl (hl.nn (by omega)) (bL hp (by omega)) (iR (hl.zero (by omega))) rfl
   have hlk2 : ∀ i, i < v.items.length → ¬ ((iv v i).kind = 0 ∧ nd t i = true) ∧ ig d (ft t i) (iv v i) = false := by
    intro i hlt
    simp only [ig] at hlk
    cases hx : first (fun i => ((iv v i).kind == 0 && nd t i) || ig d (ft t i) (iv v i)) 0 v.items.length with
    | some y => rw [hx] at hlk; cases hlk
    | none =>
     rw [jE] at hx
     have := hx i (Nat.zero_le _) hlt
     simp only [Bool.or_eq_false_iff] at this
     refine ⟨fun hh => ?_, this.2⟩
     have h1 := this.1
     rw [hh.2, Bool.and_true] at h1
     simp [hh.1] at h1
   have loop : ∀ (m f i : Nat), i + m = v.items.length → m < f → bk (aV (k + 1)) v t f (v.items.take i) (i : Int) = some v := by
    intro m
    induction m with
    | zero =>
     intro f i hii hf
     obtain ⟨f, rfl⟩ : ∃ g, f = g + 1 := ⟨f - 1, by omega⟩
     rw [bk, ar, if_neg (by simp; omega), List.take_of_length_le (by omega)]
     unfold iQ
     rw [En, ae, hv2]
    | succ m ihm =>
     intro f i hii hf
     obtain ⟨f, rfl⟩ : ∃ g, f = g + 1 := ⟨f - 1, by omega⟩
     have hlt : i < v.items.length := by omega
     obtain ⟨fd, f1, hfd, e3, e4⟩ := B9 hfit hlt
     have hm := lP hlt
     have := ef hm
     obtain ⟨k1, k2⟩ := hlk2 i hlt
     have hlen : (v.items.take i).length ≤ 10000000 := by rw [List.length_take]; omega
     have hnext : dz (bk (aV (k + 1)) v t f) (v.items.take i) (i : Int) (iv v i) false = some v := by
      unfold dz
      rw [ar, if_neg (by simp), bT (by omega), fL (by omega) (by omega), ← lI hlt, ← List.take_succ_eq_append_getElem hlt]
      exact ihm f (i + 1) (by omega) (by omega)
     rw [bk, ar, if_pos (by simp; omega), cf hlt, ae, hfd, ae, e3, lI hlt, ih (iv v i) (ft t i) (hi _ hm) (by rw [← e3]; exact hV.fs fd f1) (hof i hlt) k2 (by omega) (k + 1) (by omega), ae, ar, e4]
     by_cases hk0 : (iv v i).kind = 0
     ·rw [if_pos (by simpa using hk0)]
      cases hnd : nd t i with
      | false => exact hnext
      | true => exact absurd ⟨hk0, hnd⟩ k1
     ·rw [if_neg (by simpa using hk0)]
      exact hnext
   have hlp := loop v.items.length aW 0 (by omega) (by rw [aA]; omega)
   rw [List.take_zero] at hlp
   rw [aV]
   unfold jh
   simp only [ar, beq_iff_eq]
   rw [if_neg h0, eT, tu]
   by_cases h6 : v.kind = 6
   ·rw [if_pos h6]; exact hlp
   ·rw [if_neg h6, if_pos (show v.kind = 7 by omega)]; exact hlp
theorem A9 {v w : ac} {t : af} (hv : aY v < 1000000000) (hw : aY w < 1000000000) (hs : cx v = true) (hc : bC t = some 0) (hcv : aU aW v t = some true) (hcw : aV aW v t = some w) (hsw : cx w = true) : eC v t = some w := by
 unfold eC gu
 rw [o9 v hv, hs, ae, ar, if_neg (by simp), hc, ae, ar, if_neg (by simp), hcv, ae, ar, if_neg (by simp), hcw, ae, o9 w hw, hsw, ae, ar, if_neg (by simp)]
theorem Fi {v : ac} {t : af} (hv : aY v ≤ 10000000) (hT : dn t < 1000000000) (h : ck t v = 0) : eC v t = some v := by
 obtain ⟨hV, hS, ho, hs, hc, _⟩ := rc (by omega) hT h
 exact A9 (by omega) (by omega) hs hc (Ia 4 v t hS hV ho hv aW (by rw [aA]; omega)) (FO 4 v t hS hV ho (I1 (by omega) hT h) hv aW (by rw [aA]; omega)) hs
theorem Dg : bC ⟨4, 0, []⟩ = some 0 := by
 unfold bC
 rw [vg]
 rfl
theorem By {v : ac} {t : af} (h0 : v.kind ≠ 0) (h7 : v.kind ≠ 7) (hi : v.items = []) (hc : cn v.kind t.kind = true) : aU aW v t = some true := by
 rw [vg, aU, ar, if_neg (by simpa using h0), Jr, hc, ae, ar, if_neg (by simp), ar, if_neg (by simpa using h7)]
 unfold bq
 rw [ar, if_neg (by simp), vg, bB, hi]
 rfl
theorem IU {a : Int} (h : 1 ≤ a ∧ a ≤ 5) : cn a 4 = true := by
 have : a = 1 ∨ a = 2 ∨ a = 3 ∨ a = 4 ∨ a = 5 := by omega
 rcases this with rfl | rfl | rfl | rfl | rfl <;> rfl
abbrev txt (v : ac) : ac := ⟨4, 0, 0, bs (T v), []⟩
theorem zm {v : ac} (hv : aY v ≤ 10000000) (hs : cx v = true) (h0 : v.kind ≠ 0) (h4 : v.kind ≠ 4) (h6 : v.kind ≠ 6) (h7 : v.kind ≠ 7) : eC v ⟨4, 0, []⟩ = some (txt v) ∧ bl (txt v) = true ∧ aY (txt v) < 1000000000 := by
 have hS : pF 4 v := ⟨0, hs⟩
 obtain ⟨hp, _⟩ := hS.succ
 have hk := (ja hp).kin
 have hpl := zG (d := 3) hS h0 h4 h6 h7
 have hTl := wz 4 v hS
 have hsz : aY (txt v) < 1000000000 := by rw [bp, aE]; omega
 refine ⟨?_, hpl, hsz⟩
 refine A9 (by omega) hsz hs Dg (By h0 h7 (bn hp h6 h7) (IU (by omega))) ?_ (by rw [pI rfl]; exact hpl)
 rw [vg, kJ _ h0 h6 h7, if_neg (fun h => h4 h.1), if_pos rfl, wV 4 aW v hS (by rw [aA]; omega) hv, ae]
theorem Bx {n : Int} {p q : List UInt8} (hq : q.all oC = true) : (sg n (p ++ 46 :: q)).reverse.takeWhile oC = q.reverse := by
 have e : (sg n (p ++ 46 :: q)).reverse = q.reverse ++ 46 :: (sg n p).reverse := by
  rw [← xE]; simp
 rw [e]
 exact (tw (fun x hx => List.all_eq_true.1 hq x (List.mem_reverse.1 hx)) (fun b hb => by simp at hb; subst hb; decide)).1
theorem FE {v : ac} {t : af} (hv : aY v ≤ 10000000) (hT : dn t < 1000000000) (h : ck t v = 0) (hk : t.kind = 3) (h0 : v.kind ≠ 0) (k : Nat) : ∀ (m i f : Nat), i + m = v.scale.toNat → m + 2 < f →
  aT (aV (k + 1)) (bs (T v)) t f 0 0 0 ByteArray.empty [] (i : Int) = some v := by
 obtain ⟨hV, hS, ho, hs, hc, _⟩ := rc (by omega) hT h
 obtain ⟨hp, _⟩ := pF.succ (d := 3) hS
 have hl := ja hp
 obtain ⟨o1, o2, _⟩ := kA (d := 3) ho h0
 have h3 : v.kind = 3 := by omega
 have hsb := hl.sc h3
 have hTl := wz 4 v hS
 have hT3 : T v = CK v.n v.scale := by rw [kZ, if_neg h0, if_neg (by omega), if_neg (by omega), if_pos h3]
 have hnull : T v ≠ pw := fun e => h0 (HN (d := 3) hS e)
 have hd20 : (T v).length ≤ 20 := by
  rw [hT3]
  have hn := hl.num (.inr h3)
  exact wS hn.1 hn.2 hsb.1 hsb.2
 intro m
 induction m with
 | zero =>
  intro i f hi hf
  obtain ⟨f, rfl⟩ : ∃ g, f = g + 2 := ⟨f - 2, by omega⟩
  have hpar : fp ⟨3, (i : Int), []⟩ (bs (T v)) = some (v, 0) := by
   have e : af.mk 3 (i : Int) [] = t := by
    rw [← hk]; exact Ee hV (by omega) (by omega) (by rw [← o2 h3]; omega)
   rw [e]
   exact vG hv hT h
  rw [aT, ar, if_pos (by decide)]
  unfold b7
  rw [ar, if_pos (by simp; omega), kQ hnull hpar, ae, aT, ar, if_neg (by simpa using h0)]
  unfold b7 eB
  rw [ar, if_neg (by simp)]
  have e : ac.mk v.kind v.n v.scale v.s v.items = v := lX rfl rfl rfl rfl rfl
  rw [e, pr k hp (.inr h3) hV (.inl hk), ← o2 h3, tN, ← o1, xy hp (by omega) (by omega) (by omega), ae]
 | succ m ih =>
  intro i f hi hf
  obtain ⟨f, rfl⟩ : ∃ g, f = g + 1 := ⟨f - 1, by omega⟩
  obtain ⟨p, p1, _, p3⟩ := pf 3 i (T v) (by omega)
  have hp1 : p.1 = kf := by
   rcases p3 with h' | ⟨g1, g2, g3, g4⟩
   ·exact h'.1
   ·exfalso
    obtain ⟨k1, k2, k3, k4⟩ := oB hnull g2 g3 g4
    have hT2 : T p.1 = CK p.1.n p.1.scale := by rw [kZ, if_neg (by omega), if_neg (by omega), if_neg (by omega), if_pos k1]
    obtain ⟨a, b, e1, _, e3, _, _, _, e7, _⟩ := ma (n := v.n) hsb.1
    obtain ⟨a', b', e1', _, e3', _, _, _, e7', _⟩ := ma (n := p.1.n) ((ja k3).sc k1).1
    have x1 := Bx (n := v.n) (p := a) e3
    have x2 := Bx (n := p.1.n) (p := a') e3'
    rw [← e1, ← hT3, g3, hT2, e1', x2] at x1
    have := congrArg List.length x1
    rw [List.length_reverse, List.length_reverse, e7, e7', k2 rfl] at this
    omega
  rw [aT, ar, if_pos (by decide)]
  unfold b7
  rw [ar, if_pos (by simp; omega), kQ hnull p1, hp1, ae, fL (by omega) (by omega)]
  exact ih (i + 1) f (by omega) (by omega)
theorem F9 {v : ac} {t : af} (hv : aY v ≤ 10000000) (hT : dn t < 1000000000) (h : ck t v = 0) (h0 : v.kind ≠ 0) (h4 : t.kind ≠ 4) (h6 : t.kind ≠ 6) (h7 : t.kind ≠ 7) (hp : bl (txt v) = true) (hsz : aY (txt v) < 1000000000) : eC (txt v) t = some v := by
 obtain ⟨hV, hS, ho, hs, hc, _⟩ := rc (by omega) hT h
 obtain ⟨hpv, _⟩ := pF.succ (d := 3) hS
 have hl := ja hpv
 obtain ⟨o1, o2, _⟩ := kA (d := 3) ho h0
 have hkt := xe hV
 have hnull : T v ≠ pw := fun e => h0 (HN (d := 3) hS e)
 have hcn : cn (txt v).kind t.kind = true := by
  show cn 4 t.kind = true
  have : t.kind = 1 ∨ t.kind = 2 ∨ t.kind = 3 ∨ t.kind = 5 := by omega
  rcases this with e | e | e | e <;> rw [e] <;> rfl
 refine A9 hsz (by omega) (by rw [pI rfl]; exact hp) hc (By (by show (4 : Int) ≠ 0; decide) (by show (4 : Int) ≠ 7; decide) rfl hcn) ?_ hs
 have hB : aW = 1152921504606846973 + 3 := rfl
 rw [hB, kJ _ (by show (4 : Int) ≠ 0; decide) (by show (4 : Int) ≠ 6; decide) (by show (4 : Int) ≠ 7; decide), if_neg (fun hh => h4 hh.1.symm), if_neg h4, if_pos rfl]
 show cm _ (bs (T v)) t = _
 rw [cm, ar]
 by_cases h3 : t.kind = 3
 ·rw [if_neg (by simpa using h3)]
  have hkv : v.kind = 3 := by omega
  have hsb := hl.sc hkv
  have hT3 : T v = CK v.n v.scale := by rw [kZ, if_neg h0, if_neg (by omega), if_neg (by omega), if_pos hkv]
  have hd20 : (T v).length ≤ 20 := by
   rw [hT3]
   have hn := hl.num (.inr hkv)
   exact wS hn.1 hn.2 hsb.1 hsb.2
  obtain ⟨p, p1, _, p3⟩ := pf 2 0 (T v) (by omega)
  have hp1 : p.1 = kf := by
   rcases p3 with h' | ⟨g1, g2, g3, g4⟩
   ·exact h'.1
   ·exfalso
    obtain ⟨k1, _, k3, _⟩ := oB hnull g2 g3 g4
    have hT2 : T p.1 = sg p.1.n (Lib.decDigits p.1.n.natAbs) := by rw [kZ, if_neg (by omega), if_neg (by omega), if_pos k1]
    obtain ⟨a, b, e1, _⟩ := ma (n := v.n) hsb.1
    have hm : (46 : UInt8) ∈ T v := by
     rw [hT3, e1, ← xE]; simp
    rw [g3, hT2] at hm
    have := zH p.1.n (ij p.1.n.natAbs).1 46 hm
    exact absurd this (by decide)
  rw [kQ hnull p1, hp1, ae]
  exact FE hv hT h h3 h0 _ v.scale.toNat 0 aW (by omega) (by rw [aA]; omega)
 ·rw [if_pos (by simpa using h3), tu]
  have e : af.mk t.kind 0 [] = t := Ee hV h6 h7 (hV.scale h3)
  refine (kQ hnull (p := (v, 0)) ?_)
  rw [e]
  exact vG hv hT h
theorem Fv : eC ⟨2, 5, 0, ByteArray.empty, []⟩ ⟨4, 0, []⟩ = some ⟨4, 0, 0, ByteArray.mk #[53], []⟩ := by
 obtain ⟨h, _⟩ := zm (v := ⟨2, 5, 0, ByteArray.empty, []⟩) (by rw [bp, bH]; decide) (by decide +kernel) (by decide) (by decide) (by decide) (by decide)
 rw [h]
 have e : T ⟨2, 5, 0, ByteArray.empty, []⟩ = [53] := by
  rw [kZ]
  show sg 5 (Lib.decDigits 5) = _
  rw [Lib.decDigits]
  rfl
 show some (ac.mk 4 0 0 (bs (T ⟨2, 5, 0, ByteArray.empty, []⟩)) []) = _
 rw [e]
theorem Ip (a b : af) (v : ac) (ha : dn a < 1000000000) (hb : dn b < 1000000000) (hv : aY v ≤ 10000000) : fU a b v = some true := by
 obtain ⟨w, w1, w2, w3, w4, _⟩ := Jl v b hv hb
 obtain ⟨x, x1, _⟩ := KU a b ha hb
 obtain ⟨g, g1, g2, g3⟩ := iW b hb
 -- the last part
 have j6 : ck a v = 0 → cy a v = some true := by
  intro hc
  unfold cy
  rw [Fi hv ha hc, ae, nB _ v (Nat.le_refl _) aW (by rw [aA]; omega) (by omega), ae]
 have j3 : ck a v = 0 → v.kind ≠ 0 → bt a b v false = some true := by
  intro hc h0
  unfold bt
  rw [ar, if_neg (by simp), oT, ae, ar]
  have j4f : bO a v false = some true := by
   unfold bO
   rw [ar, if_neg (by simp)]
   exact j6 hc
  by_cases hlf : a.kind ≠ 6 ∧ a.kind ≠ 7
  ·rw [if_pos (by simpa using hlf)]
   by_cases h4 : a.kind = 4
   ·rw [show (a.kind != 4) = false by simp [h4]]
    exact j4f
   ·rw [show (a.kind != 4) = true by simp [h4]]
    obtain ⟨_, hS, ho, hs, _⟩ := rc (by omega) ha hc
    obtain ⟨o1, _, _⟩ := kA (d := 3) ho h0
    obtain ⟨t1, t2, t3⟩ := zm hv hs h0 (by omega) (by omega) (by omega)
    unfold bO dv
    rw [ar, if_pos rfl, t1, ae, ar, if_neg (show ¬ (((4 : Int) != 4) = true) by decide), F9 hv ha hc h0 h4 hlf.1 hlf.2 t2 t3, ae, nB _ v (Nat.le_refl _) aW (by rw [aA]; omega) (by omega), ae, ar, if_neg (by simp)]
    exact j6 hc
  ·rw [if_neg (by simpa using hlf)]
   exact j4f
 have j1 : cz a b v w false = some true := by
  have hj2t : bP a b v w true = some true := by
   unfold bP
   rw [ar, if_pos rfl]
  unfold cz
  rw [ar, if_neg (by simp), KB (by omega) ha, ae, ar]
  by_cases hc : ck a v = 0
  ·rw [if_neg (by simpa using hc)]
   by_cases h0 : v.kind = 0
   ·rw [show (v.kind == 0) = true by simpa using h0]; exact hj2t
   ·rw [show (v.kind == 0) = false by simpa using h0]
    unfold bP
    rw [ar, if_neg (by simp), g2, ae, ar]
    by_cases hg : g = 0
    ·rw [if_pos (by simpa using hg), x1, ae, ar]
     cases x with
     | true =>
      rw [if_neg (by simp)]
      exact j3 hc h0
     | false =>
      rw [if_pos (by simp)]
      by_cases hw0 : w.kind = 0
      ·rw [show (w.kind != 0) = false by simp [hw0]]
       exact j3 hc h0
      ·rw [show (w.kind != 0) = true by simp [hw0]]
       unfold bt
       rw [ar, if_pos rfl, w2, ae, show (w.kind != 0) = true by simp [hw0]]
    ·rw [if_neg (by simpa using hg)]
     exact j3 hc h0
  ·rw [if_pos (by simpa using hc)]
   exact hj2t
 have hfive : bS aW ⟨4, 0, 0, ByteArray.mk #[53], []⟩ ⟨4, 0, 0, ByteArray.mk #[53], []⟩ = some true := by
  have hz : aY ⟨4, 0, 0, ByteArray.mk #[53], []⟩ = 2 := by
   rw [bp]; rfl
  exact nB 2 _ (by omega) aW (by rw [aA]; omega) (by omega)
 unfold fU ry
 rw [ae, Fv, ae, hfive, ae, ar, if_neg (by simp), w1, ae, g2, ae, ar]
 by_cases hg : g = 0
 ·subst hg
  have hVb := g3 rfl
  have hck : eW b w = some 0 := by
   rcases w4 with rfl | ⟨_, _, _, _, _, ho, hlk, hsw⟩
   ·exact EB hb hVb w3 g1 (by decide +kernel) (by simp [qK, kf]) rfl
   ·exact EB hb hVb w3 g1 hsw ho hlk
  rw [if_pos (by decide), hck, ae]
  exact j1
 ·rw [if_neg (by simpa using hg)]
  exact j1
end Go.Proofs.YtpmoopnkoknbeaaGreatDoor
