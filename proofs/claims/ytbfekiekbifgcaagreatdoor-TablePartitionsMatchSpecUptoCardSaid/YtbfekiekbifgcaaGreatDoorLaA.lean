/- The calendar, in plain integers. What needs no program: searches, bytes, sizes, words, digits. A part of the proof. -/
import Derived.Lib.ValidU
import Derived.Lib.ValidLaws
import Derived.Test.YtbfekiekbifgcaaGreatDoorGeA
set_option linter.unusedVariables false
set_option linter.unusedSimpArgs false
set_option linter.unnecessarySimpa false
namespace Go.SX.Cal
open Go
theorem fi {x : Int} (h1 : -9223372036854775808 ≤ x) (h2 : x ≤ 9223372036854775807) : IntKind.i64.wrap x = x := by
 simp only [IntKind.wrap, IntKind.bits, IntKind.signed]
 simp only [Bool.true_and, decide_eq_true_eq, ge_iff_le]
 split <;> omega
def S (y : Int) : Int := 365 * y + y / 4 - y / 100
def F (r : Int) : Int := r - r / 1460 + r / 36524
def yr (r : Int) : Int := (r - r / 1460 + r / 36524 - r / 146096) / 365
theorem L4 : ((List.range 400).all fun y => decide (F (S (y : Int)) / 365 = y ∧ F (S ((y : Int) + 1) - 1) / 365 = y)) = true := by decide +kernel
theorem C1 {y : Int} (h0 : 0 ≤ y) (h1 : y ≤ 399) : F (S y) / 365 = y ∧ F (S (y + 1) - 1) / 365 = y := by
 have := List.all_eq_true.1 L4 y.toNat (List.mem_range.2 (by omega))
 have h := of_decide_eq_true this
 rw [Int.toNat_of_nonneg h0] at h
 exact h
theorem Ie {r s : Int} (h : r ≤ s) : F r ≤ F s := by unfold F; omega
theorem wa {r : Int} (h0 : 0 ≤ r) (h1 : r ≤ 146096) : 0 ≤ yr r ∧ yr r ≤ 399 := by unfold yr; omega
theorem Mp {r : Int} (h0 : 0 ≤ r) (h1 : r ≤ 146095) : yr r = F r / 365 := by
 unfold yr F
 have : r / 146096 = 0 := by omega
 rw [this, Int.sub_zero]
def qY (y : Int) : Prop := y % 4 = 0 ∧ (y % 100 ≠ 0 ∨ y % 400 = 0)
instance (y : Int) : Decidable (qY y) := by unfold qY; infer_instance
theorem JR {r : Int} (h0 : 0 ≤ r) (h1 : r ≤ 146096) : S (yr r) ≤ r ∧ r ≤ S (yr r) + 365 ∧ (r = S (yr r) + 365 → qY (yr r + 1)) := by
 obtain ⟨b0, b1⟩ := wa h0 h1
 by_cases hr : r = 146096
 ·subst hr; decide +kernel
 have h2 : r ≤ 146095 := by omega
 have e := Mp h0 h2
 generalize yr r = y at *
 have lo : S y ≤ r := by
  apply Classical.byContradiction
  intro hn
  have hy : 1 ≤ y := by
   apply Classical.byContradiction
   intro hy
   have : y = 0 := by omega
   subst this
   simp [S] at hn
   omega
  have t := (C1 (y := y - 1) (by omega) (by omega)).2
  rw [show y - 1 + 1 = y by omega] at t
  have := Ie (show r ≤ S y - 1 by omega)
  have : F r / 365 ≤ y - 1 := by rw [← t]; exact Int.ediv_le_ediv (by decide) this
  omega
 have hi : r < S (y + 1) ∨ y = 399 := by
  by_cases hy : y = 399
  ·exact .inr hy
  left
  apply Classical.byContradiction
  intro hn
  have t := (C1 (y := y + 1) (by omega) (by omega)).1
  have := Ie (show S (y + 1) ≤ r by omega)
  have : y + 1 ≤ F r / 365 := by rw [← t]; exact Int.ediv_le_ediv (by decide) this
  omega
 refine ⟨lo, ?_, fun he => ?_⟩
 ·rcases hi with hi | rfl
  ·unfold S at *; omega
  ·simp [S] at *; omega
 ·rcases hi with hi | rfl
  ·unfold S at *
   have h4 : (y + 1) / 4 = y / 4 + 1 ∧ (y + 1) / 100 = y / 100 := by omega
   exact ⟨by omega, .inl (by omega)⟩
  ·simp [S] at *; omega
def lv (m : Int) : Int := (153 * m + 2) / 5
def days (y m d : Int) : Int :=
 if m ≤ 2 then (y - 1) / 400 * 146097 + S ((y - 1) % 400) + lv (m + 9) + d - 1 - 719468 else y / 400 * 146097 + S (y % 400) + lv (m - 3) + d - 1 - 719468
def Ai (y m : Int) : Int := if m = 2 then (if qY y then 29 else 28) else if m = 4 ∨ m = 6 ∨ m = 9 ∨ m = 11 then 30 else 31
def date (n : Int) : Int × Int × Int :=
 let era := (n + 719468) / 146097
 let r := (n + 719468) % 146097
 let y := yr r
 let k := r - S y
 let m := (5 * k + 2) / 153
 let d := k - lv m + 1
 if m + 3 > 12 then (era * 400 + y + 1, m + 3 - 12, d) else (era * 400 + y, m + 3, d)
theorem Bm (n : Int) : days (date n).1 (date n).2.1 (date n).2.2 = n ∧ 1 ≤ (date n).2.1 ∧ (date n).2.1 ≤ 12 ∧ 1 ≤ (date n).2.2 ∧ (date n).2.2 ≤ Ai (date n).1 (date n).2.1 := by
 simp only [date]
 have hr0 : 0 ≤ (n + 719468) % 146097 := by omega
 have hr1 : (n + 719468) % 146097 ≤ 146096 := by omega
 have hn : n + 719468 = (n + 719468) / 146097 * 146097 + (n + 719468) % 146097 := by omega
 generalize (n + 719468) % 146097 = r at *
 generalize (n + 719468) / 146097 = era at *
 obtain ⟨b0, b1⟩ := wa hr0 hr1
 obtain ⟨s0, s1, s2⟩ := JR hr0 hr1
 generalize yr r = y at *
 have hk0 : 0 ≤ r - S y := by omega
 have hk1 : r - S y ≤ 365 := by omega
 have hk2 : r - S y = 365 → qY (y + 1) := fun h => s2 (by omega)
 have hrk : r = S y + (r - S y) := by omega
 generalize r - S y = k at *
 subst hrk
 have hm0 : 0 ≤ (5 * k + 2) / 153 := by omega
 have hm1 : (5 * k + 2) / 153 ≤ 11 := by omega
 have hd : 1 ≤ k - lv ((5 * k + 2) / 153) + 1 := by unfold lv; omega
 have hd2 : k ≤ lv ((5 * k + 2) / 153 + 1) - 1 := by unfold lv; omega
 generalize hm : (5 * k + 2) / 153 = m at *
 by_cases hc : m + 3 > 12
 ·simp only [hc, if_true]
  have e1 : (era * 400 + y + 1 - 1) / 400 = era := by omega
  have e2 : (era * 400 + y + 1 - 1) % 400 = y := by omega
  refine ⟨?_, by omega, by omega, hd, ?_⟩
  ·unfold days
   rw [if_pos (by omega), e1, e2, show m + 3 - 12 + 9 = m by omega]
   omega
  ·unfold Ai
   have hcase : m = 10 ∨ m = 11 := by omega
   rcases hcase with rfl | rfl
   ·simp [lv] at *; omega
   ·have hL : qY (era * 400 + y + 1) ↔ qY (y + 1) := by unfold qY; omega
    simp only [show (11 : Int) + 3 - 12 = 2 by rfl, if_true]
    by_cases hl : qY (y + 1)
    ·rw [if_pos (hL.2 hl)]; simp [lv] at *; omega
    ·rw [if_neg (fun h => hl (hL.1 h))]
     have : k ≠ 365 := fun h => hl (hk2 h)
     simp [lv] at *; omega
 ·simp only [hc, if_false]
  have e1 : (era * 400 + y) / 400 = era := by omega
  have e2 : (era * 400 + y) % 400 = y := by omega
  refine ⟨?_, by omega, by omega, hd, ?_⟩
  ·unfold days
   rw [if_neg (by omega), e1, e2, show m + 3 - 3 = m by omega]
   omega
  ·unfold Ai
   rw [if_neg (by omega)]
   have hcase : m = 0 ∨ m = 1 ∨ m = 2 ∨ m = 3 ∨ m = 4 ∨ m = 5 ∨ m = 6 ∨ m = 7 ∨ m = 8 ∨ m = 9 := by omega
   rcases hcase with rfl | rfl | rfl | rfl | rfl | rfl | rfl | rfl | rfl | rfl <;> simp [lv] at * <;> omega
def E (y : Int) : Int := y / 400 * 146097 + S (y % 400) - 719468
theorem Lx {y : Int} (h : qY (y + 1)) : E (y + 1) = E y + 366 := by
 unfold E S; unfold qY at h
 by_cases h4 : (y + 1) % 400 = 0
 ·have a1 : (y + 1) / 400 = y / 400 + 1 := by omega
  have a2 : y % 400 = 399 := by omega
  rw [a1, h4, a2]; omega
 ·have a1 : (y + 1) / 400 = y / 400 := by omega
  have a2 : (y + 1) % 400 = y % 400 + 1 := by omega
  rw [a1, a2]
  have hq : 0 ≤ y % 400 ∧ y % 400 ≤ 398 := by omega
  have h5 : (y % 400 + 1) % 4 = 0 := by omega
  have h6 : (y % 400 + 1) % 100 ≠ 0 := by omega
  generalize y % 400 = q at *
  have : (q + 1) / 4 = q / 4 + 1 := by omega
  have : (q + 1) / 100 = q / 100 := by omega
  omega
theorem MF {y : Int} (h : ¬ qY (y + 1)) : E (y + 1) = E y + 365 := by
 unfold E S; unfold qY at h
 have h4 : (y + 1) % 400 ≠ 0 := by omega
 have a1 : (y + 1) / 400 = y / 400 := by omega
 have a2 : (y + 1) % 400 = y % 400 + 1 := by omega
 rw [a1, a2]
 have hq : 0 ≤ y % 400 ∧ y % 400 ≤ 398 := by omega
 have h5 : (y % 400 + 1) % 4 ≠ 0 ∨ (y % 400 + 1) % 100 = 0 := by omega
 generalize y % 400 = q at *
 by_cases h7 : (q + 1) % 100 = 0
 ·have : (q + 1) / 4 = q / 4 + 1 := by omega
  have : (q + 1) / 100 = q / 100 + 1 := by omega
  omega
 ·have : (q + 1) / 4 = q / 4 := by omega
  have : (q + 1) / 100 = q / 100 := by omega
  omega
theorem sA (y m d : Int) : days y m d = if m ≤ 2 then E (y - 1) + lv (m + 9) + d - 1 else E y + lv (m - 3) + d - 1 := by
 unfold days E; split <;> omega
theorem B1 (y : Int) : (qY (y + 1) ∧ E (y + 1) = E y + 366) ∨ (¬ qY (y + 1) ∧ E (y + 1) = E y + 365) := by
 by_cases h : qY (y + 1)
 ·exact .inl ⟨h, Lx h⟩
 ·exact .inr ⟨h, MF h⟩
theorem o7 (y : Int) : days y 1 1 = E (y - 1) + 306 := by
 rw [sA, if_pos (by decide)]; simp [lv]
theorem Jx (y m d : Int) (h0 : 1 ≤ m) (h1 : m ≤ 12) (h2 : 1 ≤ d) (h3 : d ≤ Ai y m) : days y 1 1 ≤ days y m 1 ∧ days y m d = days y m 1 + d - 1 ∧ days y m d < days (y + 1) 1 1 := by
 rw [o7, o7, sA, sA, show y + 1 - 1 = y by omega]
 have hE := B1 (y - 1)
 rw [show y - 1 + 1 = y by omega] at hE
 unfold Ai at h3
 have hc : m = 1 ∨ m = 2 ∨ m = 3 ∨ m = 4 ∨ m = 5 ∨ m = 6 ∨ m = 7 ∨ m = 8 ∨ m = 9 ∨ m = 10 ∨ m = 11 ∨ m = 12 := by omega
 rcases hE with ⟨hl, hE⟩ | ⟨hl, hE⟩ <;> simp only [hl, if_true, if_false] at h3 <;> rcases hc with rfl | rfl | rfl | rfl | rfl | rfl | rfl | rfl | rfl | rfl | rfl | rfl <;> simp [lv] at * <;> omega
theorem wY (y : Int) : days y 1 1 + 365 ≤ days (y + 1) 1 1 ∧ days (y + 1) 1 1 ≤ days y 1 1 + 366 := by
 rw [o7, o7, show y + 1 - 1 = y by omega]
 have hE := B1 (y - 1)
 rw [show y - 1 + 1 = y by omega] at hE
 omega
theorem zZ (y : Int) (k : Nat) : days y 1 1 + 365 * k ≤ days (y + k) 1 1 := by
 induction k with
 | zero => simp
 | succ k ih =>
  have := (wY (y + k)).1
  rw [show y + ((k + 1 : Nat) : Int) = y + k + 1 by omega]
  omega
theorem oO {y z : Int} (h : y ≤ z) : days y 1 1 + 365 * (z - y) ≤ days z 1 1 := by
 have := zZ y (z - y).toNat
 rw [show y + ((z - y).toNat : Int) = z by omega] at this
 omega
theorem yK {n y : Int} : (date n).1 = y ↔ days y 1 1 ≤ n ∧ n < days (y + 1) 1 1 := by
 obtain ⟨h1, h2, h3, h4, h5⟩ := Bm n
 obtain ⟨a1, a2, a3⟩ := Jx _ _ _ h2 h3 h4 h5
 rw [h1] at a2 a3
 constructor
 ·rintro rfl
  exact ⟨by omega, a3⟩
 ·rintro ⟨b1, b2⟩
  apply Classical.byContradiction
  intro hn
  rcases Int.lt_or_gt_of_ne hn with hlt | hgt
  ·have := oO (show (date n).1 + 1 ≤ y by omega)
   omega
  ·have := oO (show y + 1 ≤ (date n).1 by omega)
   omega
end Go.SX.Cal
namespace Go.SX.Cal
open Go Go.SX Go.Lib
theorem af {β : Type} (x y : Option β) : aA true x y = x := rfl
theorem ae {β : Type} (x y : Option β) : aA false x y = y := rfl
theorem au {β : Type} (b : Bool) (x y : Option β) : aA b x y = if b = true then x else y := by cases b <;> rfl
theorem aI : aV = 1152921504606846976 := rfl
def first (P : Nat → Bool) (i n : Nat) : Option Nat := (List.range' i (n - i)).find? P
theorem gb {P : Nat → Bool} {i n : Nat} (h : i < n) : first P i n = if P i = true then some i else first P (i + 1) n := by
 unfold first
 rw [show n - i = (n - (i + 1)) + 1 by omega, List.range'_succ, List.find?_cons]
 cases hp : P i <;> simp [hp]
theorem iz {P : Nat → Bool} {n : Nat} : first P n n = none := by simp [first]
theorem kx {P : Nat → Bool} {i n : Nat} : first P i n = none ↔ ∀ j, i ≤ j → j < n → P j = false := by
 unfold first
 rw [List.find?_eq_none]
 constructor
 ·intro h j h1 h2
  have := h j (by rw [List.mem_range'_1]; omega)
  simpa using this
 ·intro h j hj
  rw [List.mem_range'_1] at hj
  have := h j (by omega) (by omega)
  simp [this]
theorem ir {β : Type} {f : Nat → Nat → Option β} {n : Nat} {P : Nat → Bool} {A : Nat → Option β} {B : Option β} (hstep : ∀ k i, i < n → f (k + 1) i = if P i = true then A i else f k (i + 1)) (hend : ∀ k, f (k + 1) n = B) :
  ∀ k i, i ≤ n → n - i < k → f k i = (first P i n).elim B A := by
 intro k
 induction k with
 | zero => intro i _ h; omega
 | succ k ih =>
  intro i hi hk
  by_cases h : i = n
  ·subst h
   rw [hend, iz]; rfl
  ·rw [hstep k i (by omega), gb (by omega)]
   by_cases hp : P i = true
   ·simp [hp]
   ·simp only [hp, if_false]
    exact ih (i + 1) (by omega) (by omega)
def eE (s : ByteArray) (i : Nat) : Nat := (s.data.toList.getD i 0).toNat
theorem ov (s : ByteArray) (i : Nat) (h : i < s.size) : (s.get! i).toNat = eE s i := by
 unfold eE
 have h' : i < s.data.size := h
 have : s.get! i = s.data.toList.getD i 0 := by
  simp only [ByteArray.get!, List.getD, Array.getElem?_toList]
  rw [getElem!_pos s.data i h', Array.getElem?_eq_getElem h']; rfl
 rw [this]
theorem qo (s : ByteArray) (i : Nat) (h : i < s.size) (hb : eE s i < 128) : Utf8.decode s i = (eE s i, 1) := by
 have e := ov s i h
 unfold Utf8.decode
 simp [e, hb]
theorem qG (s : ByteArray) (i : Nat) (h : i < s.size) (hb : ¬ eE s i < 128) : 128 ≤ (Utf8.decode s i).1 := by
 have e := ov s i h
 unfold Utf8.decode
 simp only [Nat.add_zero, e, if_neg hb, Utf8.runeError]
 repeat' split
 all_goals simp_all
 all_goals omega
theorem gM (s : ByteArray) : (s.toList == (ByteArray.mk #[]).toList) = decide (s.size = 0) := by
 rw [ByteArray.toList_eq, ByteArray.toList_eq, Bool.eq_iff_iff]
 show (s.data.toList == []) = true ↔ decide (s.data.size = 0) = true
 rw [← Array.length_toList]
 cases s.data.toList <;> simp
mutual
def gi : aq → Nat
 | ⟨_, _, fs⟩ => sizeF fs + 1
def sizeF : List (fQ aq) → Nat
 | [] => 0
 | f :: l => kL f + sizeF l
def kL : fQ aq → Nat
 | ⟨_, n, _, t⟩ => n.size + gi t + 1
end
theorem fm : ∀ {l : List ah} {x : ah}, x ∈ l → kL x ≤ sizeF l
 | [], _, h => by cases h
 | y :: l, x, h => by
  simp only [sizeF]
  rcases List.mem_cons.1 h with rfl | h
  ·omega
  ·have := fm h; omega
theorem eM : ∀ x : ah, kL x = x.name.size + gi x.type + 1
 | ⟨_, _, _, _⟩ => by simp only [kL]
theorem mD : ∀ x : aq, gi x = sizeF x.fields + 1
 | ⟨_, _, _⟩ => by simp only [gi]
theorem eg : ∀ l : List ah, l.length ≤ sizeF l
 | [] => by simp [sizeF]
 | x :: l => by
  have := eg l
  have := eM x
  simp only [sizeF, List.length_cons]; omega
theorem aG {i n : Nat} (h : i < n) (hn : n < 1000000000) : IntKind.i64.wrap ((i : Int) + 1) = ((i + 1 : Nat) : Int) := by rw [fi (by omega) (by omega)]; omega
theorem aZ {α : Type} {xs : List α} {i : Nat} (h : i < xs.length) : at? xs (i : Int) = some xs[i] := by unfold at?; simp [h]
theorem bn {i n : Nat} (h : i < n) : decide ((i : Int) < (n : Int)) = true := by simp [h]
mutual
def bO : ac → Nat
 | ⟨_, _, _, s, it⟩ => s.size + sizeL it + 1
def sizeL : List ac → Nat
 | [] => 0
 | x :: l => bO x + sizeL l
end
theorem kM : ∀ v : ac, bO v = v.s.size + sizeL v.items + 1
 | ⟨_, _, _, _, _⟩ => by simp only [bO]
theorem cY : ∀ {l : List ac} {x : ac}, x ∈ l → bO x ≤ sizeL l
 | [], _, h => by cases h
 | y :: l, x, h => by
  simp only [sizeL]
  rcases List.mem_cons.1 h with rfl | h
  ·omega
  ·have := cY h; omega
theorem js : ∀ v : ac, 1 ≤ bO v
 | ⟨_, _, _, _, _⟩ => by simp only [bO]; omega
theorem cP : ∀ l : List ac, l.length ≤ sizeL l
 | [] => by simp [sizeL]
 | x :: l => by
  have := cP l
  have := js x
  simp only [sizeL, List.length_cons]; omega
theorem ow (b x : Bool) : aA b (some x) (some false) = some (b && x) := by cases b <;> rfl
theorem am {α β : Type} (a : α) (f : α → Option β) : aD (some a) f = f a := rfl
theorem oU {P : Nat → Bool} {n : Nat} : ∀ (d i : Nat), i + d ≤ n → (∀ j, i ≤ j → j < i + d → P j = false) → first P i n = first P (i + d) n
 | 0, i, _, _ => rfl
 | d + 1, i, h, hP => by
  rw [gb (by omega), hP i (by omega) (by omega)]
  simp only [Bool.false_eq_true, if_false]
  rw [oU d (i + 1) (by omega) (fun j h1 h2 => hP j (by omega) (by omega))]
  congr 1; omega
theorem sK (s : ByteArray) (i : Nat) (h : i < s.size) (hb : ¬ eE s i < 128) :
  1 ≤ (Utf8.decode s i).2 ∧ i + (Utf8.decode s i).2 ≤ s.size ∧ ∀ j, i ≤ j → j < i + (Utf8.decode s i).2 → 128 ≤ eE s j := by
 have e := ov s i h
 have one : ∀ j, i ≤ j → j < i + 1 → 128 ≤ eE s j := fun j h1 h2 => by
  have : j = i := by omega
  subst this; omega
 have ct : ∀ k, (decide (i + k < s.size) && (s.get! (i + k)).toNat / 64 == 2) = true → i + k < s.size ∧ 128 ≤ eE s (i + k) := by
  intro k hk
  simp only [Bool.and_eq_true, decide_eq_true_eq, beq_iff_eq] at hk
  rw [ov s _ hk.1] at hk
  exact ⟨hk.1, by omega⟩
 unfold Utf8.decode
 simp only [Nat.add_zero, e, if_neg hb]
 split
 ·rename_i h1
  simp only [Bool.and_eq_true] at h1
  obtain ⟨l1, b1⟩ := ct 1 (by simpa using h1.2)
  split
  ·refine ⟨by simp, by simp only; omega, fun j h2 h3 => ?_⟩
   simp only at h3
   by_cases hj : j = i
   ·subst hj; omega
   ·have : j = i + 1 := by omega
    subst this; exact b1
  ·exact ⟨by simp, by simp only; omega, one⟩
 ·split
  ·rename_i h1
   simp only [Bool.and_eq_true] at h1
   obtain ⟨l1, b1⟩ := ct 1 (by simpa using h1.1.2)
   obtain ⟨l2, b2⟩ := ct 2 (by simpa using h1.2)
   split
   ·refine ⟨by simp, by simp only; omega, fun j h2 h3 => ?_⟩
    simp only at h3
    by_cases hj : j = i
    ·subst hj; omega
    ·by_cases hj : j = i + 1
     ·subst hj; exact b1
     ·have : j = i + 2 := by omega
      subst this; exact b2
   ·exact ⟨by simp, by simp only; omega, one⟩
  ·split
   ·rename_i h1
    simp only [Bool.and_eq_true] at h1
    obtain ⟨l1, b1⟩ := ct 1 (by simpa using h1.1.1.2)
    obtain ⟨l2, b2⟩ := ct 2 (by simpa using h1.1.2)
    obtain ⟨l3, b3⟩ := ct 3 (by simpa using h1.2)
    split
    ·refine ⟨by simp, by simp only; omega, fun j h2 h3 => ?_⟩
     simp only at h3
     by_cases hj : j = i
     ·subst hj; omega
     ·by_cases hj : j = i + 1
      ·subst hj; exact b1
      ·by_cases hj : j = i + 2
       ·subst hj; exact b2
       ·have : j = i + 3 := by omega
        subst this; exact b3
    ·exact ⟨by simp, by simp only; omega, one⟩
   ·exact ⟨by simp, by simp only; omega, one⟩
def tU (s : ByteArray) (i : Nat) : Bool := decide (eE s i < 32) || eE s i == 127
theorem wu {x : Int} : IntKind.u64.wrap x = x % 18446744073709551616 := by
 simp only [IntKind.wrap, IntKind.bits, IntKind.signed]
 simp
structure W4 (w : bg) : Prop where
 a0 : 0 ≤ w.size.1
 a1 : w.size.1 < 18446744073709551616
 b0 : 0 ≤ w.size.2.1
 b1 : w.size.2.1 < 18446744073709551616
 c0 : 0 ≤ w.size.2.2.1
 c1 : w.size.2.2.1 < 18446744073709551616
 d0 : 0 ≤ w.size.2.2.2
 d1 : w.size.2.2.2 < 18446744073709551616
def val (w : bg) : Int := w.size.1 + w.size.2.1 * 18446744073709551616 + w.size.2.2.1 * 340282366920938463463374607431768211456 + w.size.2.2.2 * 6277101735386680763835789423207666416102355444464034512896
theorem uB {x : Int} (h0 : 0 ≤ x) (h1 : x < 18446744073709551616) : ((BitVec.ofInt (IntKind.u64).bits x &&& BitVec.ofInt (IntKind.u64).bits (4294967295 : Int)).toNat : Int) = x % 4294967296 := by
 have e : (BitVec.ofInt 64 x).toNat = x.toNat := by
  rw [BitVec.toNat_ofInt]
  have : x % ((2 ^ 64 : Nat) : Int) = x := by omega
  rw [this]
 have hand : (BitVec.ofInt 64 x &&& BitVec.ofInt 64 (4294967295 : Int)).toNat = x.toNat % 4294967296 := by
  rw [BitVec.toNat_and, e]
  have : (BitVec.ofInt 64 (4294967295 : Int)).toNat = 2 ^ 32 - 1 := by decide
  rw [this, Nat.and_two_pow_sub_one_eq_mod]
 show ((BitVec.ofInt 64 x &&& BitVec.ofInt 64 (4294967295 : Int)).toNat : Int) = _
 rw [hand]
 omega
theorem Ly (x : Int) : x.fdiv (2 ^ (min (32 : Int).toNat (IntKind.u64).bits)) = x / 4294967296 := by
 have : (2 : Int) ^ (min (32 : Int).toNat (IntKind.u64).bits) = 4294967296 := by decide
 rw [this, Int.fdiv_eq_ediv_of_nonneg _ (by decide)]
theorem yu {x : Int} (h0 : 0 ≤ x) (h1 : x < 18446744073709551616) : x % 18446744073709551616 = x := Int.emod_eq_of_lt h0 h1
theorem prod_bound {a b : Int} (a0 : 0 ≤ a) (a1 : a < 4294967296) (b0 : 0 ≤ b) (b1 : b < 4294967296) : 0 ≤ a * b ∧ a * b ≤ 18446744065119617025 := by
 refine ⟨Int.mul_nonneg a0 b0, ?_⟩
 have h1 : a * b ≤ 4294967295 * b := Int.mul_le_mul_of_nonneg_right (by omega) b0
 omega
theorem kT {x n c : Int} (h0 : 0 ≤ x) (h1 : x < 18446744073709551616) (n0 : 0 ≤ n) (n1 : n < 18446744073709551616) (c0 : 0 ≤ c) (c1 : c < 18446744073709551616) :
  (x * n / 18446744073709551616 + (x * n % 18446744073709551616 + c) / 18446744073709551616) % 18446744073709551616 = (x * n + c) / 18446744073709551616 ∧ (x * n % 18446744073709551616 + c) % 18446744073709551616 = (x * n + c) % 18446744073709551616 ∧ 0 ≤ (x * n + c) / 18446744073709551616 ∧ (x * n + c) / 18446744073709551616 < 18446744073709551616 := by
 have hp : 0 ≤ x * n := Int.mul_nonneg h0 n0
 have hq : x * n ≤ 18446744073709551615 * n := Int.mul_le_mul_of_nonneg_right (by omega) n0
 have hq2 : (18446744073709551615 : Int) * n ≤ 18446744073709551615 * 18446744073709551615 := Int.mul_le_mul_of_nonneg_left (by omega) (by decide)
 have hb : x * n ≤ 340282366920938463426481119284349108225 := by
  refine Int.le_trans hq (Int.le_trans hq2 (by decide))
 generalize x * n = p at *
 omega
def cj : Nat → Int
 | 0 => 1
 | k + 1 => cj k * 10
theorem mm : ∀ k, 1 ≤ cj k
 | 0 => by decide
 | k + 1 => by have := mm k; simp only [cj]; omega
def c3 (a b : Int) : Int := if a < b then -1 else if b < a then 1 else 0
def sv (w : bg) : Int := if w.neg = true then -val w else val w
def nS (w : bg) : Prop := w.size.1 = 0 ∧ w.size.2.1 = 0 ∧ w.size.2.2.1 = 0 ∧ w.size.2.2.2 = 0
theorem vP (n m : Bool) (h : ¬ n = m) : (!(n == m)) = true ∧ (!m) = n := by revert h; cases n <;> cases m <;> simp
def aQ : List Int → Int
 | [] => 0
 | d :: l => d + 10 * aQ l
def dy (l : List Int) : Prop := ∀ d ∈ l, 0 ≤ d ∧ d ≤ 9
def vw (l : List Int) : Prop := ∀ d, l.getLast? = some d → d ≠ 0
theorem d8 : ∀ {l : List Int}, dy l → 0 ≤ aQ l
 | [], _ => by simp [aQ]
 | d :: l, h => by
  have h1 := h d (by simp)
  have h2 := d8 (l := l) (fun x hx => h x (by simp [hx]))
  simp only [aQ]; omega
theorem BL : ∀ n, 0 < cj n := fun n => by have := mm n; omega
theorem ja : ∀ {l : List Int}, dy l → aQ l < cj l.length
 | [], _ => by simp [aQ, cj]
 | d :: l, h => by
  have h1 := h d (by simp)
  have h2 := ja (l := l) (fun x hx => h x (by simp [hx]))
  simp only [aQ, List.length_cons, cj]; omega
theorem mA : ∀ {l : List Int}, dy l → vw l → l ≠ [] → cj (l.length - 1) ≤ aQ l
 | [], _, _, h => absurd rfl h
 | [d], h, ht, _ => by
  have h1 := h d (by simp)
  have h2 := ht d (by simp)
  simp [aQ, cj]; omega
 | d :: e :: l, h, ht, _ => by
  have h1 := h d (by simp)
  have h2 := mA (l := e :: l) (fun x hx => h x (by simp [hx])) (fun x hx => ht x (by simpa using hx)) (by simp)
  simp only [List.length_cons] at h2 ⊢
  rw [show l.length + 1 + 1 - 1 = (l.length + 1 - 1) + 1 by omega]
  simp only [cj]
  rw [aQ]
  omega
theorem mw {m n : Nat} (h : m ≤ n) : cj m ≤ cj n := by
 induction n with
 | zero =>
   have : m = 0 := by omega
   subst this; exact Int.le_refl _
 | succ n ih =>
  by_cases e : m = n + 1
  ·subst e; exact Int.le_refl _
  ·have h1 := ih (by omega)
   have h2 := BL n
   simp only [cj]; omega
theorem cX : ∀ (l m : List Int), aQ (l ++ m) = aQ l + cj l.length * aQ m
 | [], m => by simp [aQ, cj]
 | d :: l, m => by
  simp only [List.cons_append, aQ, cX l m, List.length_cons, cj]
  rw [Int.mul_add, ← Int.mul_assoc, Int.mul_comm 10 (cj l.length)]; omega
theorem np (k : Nat) : aQ (List.replicate k 0) = 0 := by
 induction k with
 | zero => rfl
 | succ k ih => simp [List.replicate_succ, aQ, ih]
end Go.SX.Cal
namespace Go.Proofs.YtbfekiekbifgcaaGreatDoor.Rw
open Go Go.SX Go.SX.Cal
theorem af {β : Type} (x y : Option β) : aA true x y = x := rfl
theorem ae {β : Type} (x y : Option β) : aA false x y = y := rfl
theorem au {β : Type} (b : Bool) (x y : Option β) : aA b x y = if b = true then x else y := by cases b <;> rfl
theorem aI : aV = 1152921504606846976 := rfl
def first (P : Nat → Bool) (i n : Nat) : Option Nat := (List.range' i (n - i)).find? P
theorem gb {P : Nat → Bool} {i n : Nat} (h : i < n) : first P i n = if P i = true then some i else first P (i + 1) n := by
 unfold first
 rw [show n - i = (n - (i + 1)) + 1 by omega, List.range'_succ, List.find?_cons]
 cases hp : P i <;> simp [hp]
theorem iz {P : Nat → Bool} {n : Nat} : first P n n = none := by simp [first]
theorem kx {P : Nat → Bool} {i n : Nat} : first P i n = none ↔ ∀ j, i ≤ j → j < n → P j = false := by
 unfold first
 rw [List.find?_eq_none]
 constructor
 ·intro h j h1 h2
  have := h j (by rw [List.mem_range'_1]; omega)
  simpa using this
 ·intro h j hj
  rw [List.mem_range'_1] at hj
  have := h j (by omega) (by omega)
  simp [this]
theorem ir {β : Type} {f : Nat → Nat → Option β} {n : Nat} {P : Nat → Bool} {A : Nat → Option β} {B : Option β} (hstep : ∀ k i, i < n → f (k + 1) i = if P i = true then A i else f k (i + 1)) (hend : ∀ k, f (k + 1) n = B) :
  ∀ k i, i ≤ n → n - i < k → f k i = (first P i n).elim B A := by
 intro k
 induction k with
 | zero => intro i _ h; omega
 | succ k ih =>
  intro i hi hk
  by_cases h : i = n
  ·subst h
   rw [hend, iz]; rfl
  ·rw [hstep k i (by omega), gb (by omega)]
   by_cases hp : P i = true
   ·simp [hp]
   ·simp only [hp, if_false]
    exact ih (i + 1) (by omega) (by omega)
def eE (s : ByteArray) (i : Nat) : Nat := (s.data.toList.getD i 0).toNat
theorem ov (s : ByteArray) (i : Nat) (h : i < s.size) : (s.get! i).toNat = eE s i := by
 unfold eE
 have h' : i < s.data.size := h
 have : s.get! i = s.data.toList.getD i 0 := by
  simp only [ByteArray.get!, List.getD, Array.getElem?_toList]
  rw [getElem!_pos s.data i h', Array.getElem?_eq_getElem h']; rfl
 rw [this]
def iH (b : Nat) : Bool := decide (97 ≤ b) && decide (b ≤ 122)
def other (b : Nat) : Bool := b == 95 || (decide (48 ≤ b) && decide (b ≤ 57))
def rk (b : Nat) : Bool := iH b || other b
theorem zb (n : Nat) : lh (Int.ofNat n) = some (!rk n) := by
 unfold lh dM
 simp only [au, decide_eq_true_eq, Int.ofNat_eq_natCast]
 repeat' split
 all_goals (rw [Option.some.injEq, Bool.eq_iff_iff]; simp [rk, iH, other]; omega)
theorem qo (s : ByteArray) (i : Nat) (h : i < s.size) (hb : eE s i < 128) : Utf8.decode s i = (eE s i, 1) := by
 have e := ov s i h
 unfold Utf8.decode
 simp [e, hb]
theorem qG (s : ByteArray) (i : Nat) (h : i < s.size) (hb : ¬ eE s i < 128) : 128 ≤ (Utf8.decode s i).1 := by
 have e := ov s i h
 unfold Utf8.decode
 simp only [Nat.add_zero, e, if_neg hb, Utf8.runeError]
 repeat' split
 all_goals simp_all
 all_goals omega
def Bj (s : ByteArray) (i : Nat) : Bool := !rk (eE s i)
theorem qZ (s : ByteArray) : ∀ k i, i ≤ s.size → s.size - i < k → ∃ r, aX s true k i = some r ∧ (decide (0 ≤ r) = (first (Bj s) i s.size).isSome) := by
 intro k
 induction k with
 | zero => intro i _ h; omega
 | succ k ih =>
  intro i hi hk
  rw [aX]
  by_cases h : i = s.size
  ·subst h
   rw [iz]
   simp only [Nat.lt_irrefl, decide_false, ae]
   exact ⟨-1, rfl, rfl⟩
  ·have hlt : i < s.size := by omega
   simp only [hlt, decide_true, af, zb, ar]
   rw [gb hlt]
   by_cases hb : eE s i < 128
   ·rw [qo s i hlt hb]
    simp only [Bj]
    by_cases hg : rk (eE s i) = true
    ·simp only [hg, Bool.not_true, au]
     obtain ⟨r, h1, h2⟩ := ih (i + 1) (by omega) (by omega)
     exact ⟨r, by simpa using h1, by simpa [Bj] using h2⟩
    ·simp only [hg, Bool.not_false, au]
     exact ⟨_, rfl, by simp⟩
   ·have h1 := qG s i hlt hb
    have g1 : rk (Utf8.decode s i).1 = false := by
     generalize (Utf8.decode s i).1 = x at h1
     simp [rk, iH, other]; omega
    have g2 : Bj s i = true := by
     simp [Bj, rk, iH, other]; omega
    simp only [g1, g2, Bool.not_false, au]
    exact ⟨_, rfl, by simp⟩
def hU (s : ByteArray) : Bool := decide (1 ≤ s.size) && decide (s.size ≤ 24) && iH (eE s 0) && (first (Bj s) 0 s.size).isNone
theorem gM (s : ByteArray) : (s.toList == (ByteArray.mk #[]).toList) = decide (s.size = 0) := by
 rw [ByteArray.toList_eq, ByteArray.toList_eq, Bool.eq_iff_iff]
 show (s.data.toList == []) = true ↔ decide (s.data.size = 0) = true
 rw [← Array.length_toList]
 cases s.data.toList <;> simp
theorem Ia (s : ByteArray) (hs : s.size < 1000000000) : mY s = some (hU s) := by
 obtain ⟨r, h1, h2⟩ := qZ s aV 0 (Nat.zero_le _) (by rw [aI]; omega)
 unfold mY iX cM dk dj
 rw [h1, gM]
 simp only [ar, h2, au]
 by_cases z0 : s.size = 0
 ·simp [z0, hU]
 ·by_cases z1 : 24 < s.size
  ·have : ¬ s.size ≤ 24 := by omega
   simp [z0, z1, hU, this, show (24 : Int) < (s.size : Int) by omega]
  ·have hz : ¬ (24 : Int) < (s.size : Int) := by omega
   have hb : ((s.data.toList.getD (0 : Int).toNat 0).toNat : Int) = (eE s 0 : Int) := rfl
   simp only [z0, decide_false, hz, Bool.false_eq_true, if_false, hb]
   rw [aJ (by omega), aJ (by omega)]
   simp only [decide_eq_true_eq]
   have : s.size ≤ 24 := by omega
   by_cases q1 : eE s 0 < 97
   ·have : ¬ 97 ≤ eE s 0 := by omega
    simp [show (eE s 0 : Int) < 97 by omega, hU, iH, this]
   ·by_cases q2 : 122 < eE s 0
    ·have : ¬ eE s 0 ≤ 122 := by omega
     simp [show ¬ (eE s 0 : Int) < 97 by omega, show (122 : Int) < (eE s 0 : Int) by omega, hU, iH, this]
    ·simp [show ¬ (eE s 0 : Int) < 97 by omega, show ¬ (122 : Int) < (eE s 0 : Int) by omega, hU, iH, show 1 ≤ s.size by omega, this, show 97 ≤ eE s 0 by omega, show eE s 0 ≤ 122 by omega]
def qd (s : ByteArray) (i : Nat) : Bool := !iH (eE s i) && (i == 0 || !other (eE s i))
theorem vp (s : ByteArray) (hs : s.size < 1000000000) (k i : Nat) (hi : i < s.size) : bB s (k + 1) (i : Int) = if qd s i = true then some false else bB s k ((i + 1 : Nat) : Int) := by
 rw [bB, ← au]
 have hb : ((s.data.toList.getD (i : Int).toNat 0).toNat : Int) = (eE s i : Int) := rfl
 have hw : IntKind.i64.wrap ((i : Int) + 1) = ((i + 1 : Nat) : Int) := by rw [fi (by omega) (by omega)]; omega
 have hg : 0 ≤ (i : Int) ∧ (i : Int) < (s.size : Int) := by omega
 rw [show decide ((i : Int) < (s.size : Int)) = true by simp [hg.2], af]
 simp only [mC, kU, kW, hb, hw, ar, aJ hg]
 have e1 : ((eE s i : Int) == 95) = (eE s i == 95) := by rw [Bool.eq_iff_iff]; simp; omega
 have e2 : (decide ((97 : Int) ≤ eE s i)) = decide (97 ≤ eE s i) := by rw [Bool.eq_iff_iff]; simp; omega
 have e3 : (decide ((eE s i : Int) ≤ 122)) = decide (eE s i ≤ 122) := by rw [Bool.eq_iff_iff]; simp; omega
 have e4 : (decide ((48 : Int) ≤ eE s i)) = decide (48 ≤ eE s i) := by rw [Bool.eq_iff_iff]; simp; omega
 have e5 : (decide ((eE s i : Int) ≤ 57)) = decide (eE s i ≤ 57) := by rw [Bool.eq_iff_iff]; simp; omega
 have e6 : ((i : Int) == 0) = (i == 0) := by rw [Bool.eq_iff_iff]; simp
 simp only [e1, e2, e3, e4, e5, e6, qd, iH, other]
 generalize hq : bB s k ((i + 1 : Nat) : Int) = q
 generalize (eE s i == 95) = b1
 generalize decide (97 ≤ eE s i) = b2
 generalize decide (eE s i ≤ 122) = b3
 generalize decide (48 ≤ eE s i) = b4
 generalize decide (eE s i ≤ 57) = b5
 generalize (i == 0) = b6
 cases b1 <;> cases b2 <;> cases b3 <;> cases b4 <;> cases b5 <;> cases b6 <;> rfl
theorem H3 (s : ByteArray) (hs : s.size < 1000000000) : oJ s = some (hU s) := by
 have hl := ir (f := fun k i => bB s k (i : Int)) (n := s.size) (P := qd s) (A := fun _ => some false) (B := some true) (fun k i hi => vp s hs k i hi)
  (fun k => by rw [bB]; simp only [Int.lt_irrefl, decide_false, ae]; rfl) aV 0 (Nat.zero_le _) (by rw [aI]; omega)
 have hl : bB s aV (0 : Int) = _ := hl
 unfold oJ ml
 rw [hl]
 simp only [au]
 by_cases z0 : s.size = 0
 ·simp [z0, hU]
 ·by_cases z1 : 24 < s.size
  ·have : ¬ s.size ≤ 24 := by omega
   simp [z0, z1, hU, this, show (24 : Int) < (s.size : Int) by omega]
  ·have hz : ¬ (24 : Int) < (s.size : Int) := by omega
   have hz2 : ¬ (s.size : Int) < 1 := by omega
   simp only [hz, hz2, decide_false, Bool.false_eq_true, if_false]
   have e : (first (qd s) 0 s.size).isNone = (iH (eE s 0) && (first (Bj s) 0 s.size).isNone) := by
    rw [Bool.eq_iff_iff, Bool.and_eq_true, Option.isNone_iff_eq_none, Option.isNone_iff_eq_none, kx, kx]
    constructor
    ·intro h
     have h0 := h 0 (Nat.le_refl _) (by omega)
     simp only [qd, beq_self_eq_true, Bool.true_or, Bool.and_true] at h0
     have h0' : iH (eE s 0) = true := by simpa using h0
     refine ⟨h0', fun j _ hj => ?_⟩
     have h1 := h j (Nat.zero_le _) hj
     simp only [qd, Bj, rk] at h1 ⊢
     cases hs : iH (eE s j) <;> cases ho : other (eE s j) <;> simp_all
    ·rintro ⟨h0, h⟩ j _ hj
     have h1 := h j (Nat.zero_le _) hj
     simp only [qd, Bj, rk] at h1 ⊢
     by_cases hj0 : j = 0
     ·subst hj0; simp [h0]
     ·cases hs : iH (eE s j) <;> cases ho : other (eE s j) <;> simp_all
   have : (first (qd s) 0 s.size).elim (some true) (fun _ => some false) = some ((first (qd s) 0 s.size).isNone) := by cases first (qd s) 0 s.size <;> rfl
   rw [this, e]
   simp [hU, show 1 ≤ s.size by omega, show s.size ≤ 24 by omega]
end Go.Proofs.YtbfekiekbifgcaaGreatDoor.Rw
namespace Go.Proofs.YtbfekiekbifgcaaGreatDoor.Rw
open Go Go.SX Go.SX.Cal
theorem fm : ∀ {l : List ah} {x : ah}, x ∈ l → kL x ≤ sizeF l
 | [], _, h => by cases h
 | y :: l, x, h => by
  simp only [sizeF]
  rcases List.mem_cons.1 h with rfl | h
  ·omega
  ·have := fm h; omega
theorem eM : ∀ x : ah, kL x = x.name.size + gi x.type + 1
 | ⟨_, _, _, _⟩ => by simp only [kL]
theorem mD : ∀ x : aq, gi x = sizeF x.fields + 1
 | ⟨_, _, _⟩ => by simp only [gi]
theorem eg : ∀ l : List ah, l.length ≤ sizeF l
 | [] => by simp [sizeF]
 | x :: l => by
  have := eg l
  have := eM x
  simp only [sizeF, List.length_cons]; omega
theorem aG {i n : Nat} (h : i < n) (hn : n < 1000000000) : IntKind.i64.wrap ((i : Int) + 1) = ((i + 1 : Nat) : Int) := by rw [fi (by omega) (by omega)]; omega
theorem aZ {α : Type} {xs : List α} {i : Nat} (h : i < xs.length) : at? xs (i : Int) = some xs[i] := by unfold at?; simp [h]
theorem bn {i n : Nat} (h : i < n) : decide ((i : Int) < (n : Int)) = true := by simp [h]
def GA (fs : List ah) (i : Nat) : ByteArray := (fs[i]?.map (·.name)).getD ByteArray.empty
theorem kI {fs : List ah} {i : Nat} (h : i < fs.length) : GA fs i = fs[i].name := by simp [GA, h]
def lT (fs : List ah) (i : Nat) : Bool := !hU (GA fs i)
def Ed (fs : List ah) (i j : Nat) : Bool := (GA fs j).toList == (GA fs i).toList
def rt (fs : List ah) (i : Nat) : Bool := (first (Ed fs i) 0 i).isSome
def uq (fs : List ah) : Bool := (first (lT fs) 0 fs.length).isSome
def tc (fs : List ah) : Bool := (first (rt fs) 0 fs.length).isSome
structure m6 (fs : List ah) : Prop where
 len : fs.length < 1000000000
 nam : ∀ f ∈ fs, f.name.size < 1000000000
theorem BB {fs : List ah} (h : sizeF fs < 1000000000) : m6 fs :=
 ⟨by have := eg fs; omega, fun f hf => by have := fm hf; have := eM f; omega⟩
theorem DB : ∀ f : ah, fQ.mk f.id f.name f.need (aq.mk f.type.kind f.type.scale f.type.fields) = f
 | ⟨_, _, _, ⟨_, _, _⟩⟩ => rfl
theorem w6 {fs : List ah} (ho : m6 fs) : aO fs = some (uq fs) := by
 have hl := ir (f := fun k i => al fs k (i : Int)) (n := fs.length) (P := lT fs) (A := fun i => some (i : Int)) (B := some (-1)) (fun k i hi => by
   show al fs (k + 1) (i : Int) = _
   rw [al, bn hi, af, aZ hi, ar, mJ, Ia _ (ho.nam _ (List.getElem_mem hi)), aG hi ho.len]
   simp only [ar, au, lT, kI hi])
  (fun k => by rw [al]; simp only [Int.lt_irrefl, decide_false, ae]; rfl) aV 0 (Nat.zero_le _) (by rw [aI]; have := ho.len; omega)
 have hl : al fs aV (0 : Int) = _ := hl
 unfold aO bu
 rw [hl]
 unfold uq
 cases first (lT fs) 0 fs.length with
 | none => rfl
 | some j => simp [ar]
theorem xo {fs : List ah} (ho : m6 fs) {i : Nat} (hi : i < fs.length) : aN ((fs.drop (0 : Int).toNat).take ((i : Int).toNat - (0 : Int).toNat)) fs[i] = some (rt fs i, fs[i]) := by
 have ep : (fs.drop (0 : Int).toNat).take ((i : Int).toNat - (0 : Int).toNat) = fs.take i := by simp
 rw [ep]
 have hlen : (fs.take i).length = i := by simp; omega
 have hl := ir (f := fun k j => aj (fs.take i) k fs[i].id fs[i].name fs[i].need fs[i].type.kind fs[i].type.scale fs[i].type.fields (j : Int)) (n := i) (P := Ed fs i) (A := fun j => some ((j : Int), fs[i])) (B := some (-1, fs[i])) (fun k j hj => by
   have hj' : j < (fs.take i).length := by rw [hlen]; exact hj
   have hjf : j < fs.length := by omega
   show aj (fs.take i) (k + 1) _ _ _ _ _ _ (j : Int) = _
   rw [aj, bn hj', af, aZ hj', ar, me, aG hj (by have := ho.len; omega)]
   simp only [ar, au, Ed, kI hi, kI hjf, List.getElem_take, DB])
  (fun k => by
   show aj (fs.take i) (k + 1) _ _ _ _ _ _ (i : Int) = _
   rw [aj]; simp only [hlen, Int.lt_irrefl, decide_false, ae, bm, DB]) aV 0 (Nat.zero_le _) (by rw [aI]; have := ho.len; omega)
 have hl : aj (fs.take i) aV _ _ _ _ _ _ (0 : Int) = _ := hl
 unfold aN bt
 rw [hl]
 unfold rt
 cases first (Ed fs i) 0 i with
 | none => rfl
 | some j => simp [ar]
theorem sU {t : aq} (ho : m6 t.fields) : bD t aV (0 : Int) = some (if tc t.fields = true then 5 else 0) := by
 have hl := ir (f := fun k i => bD t k (i : Int)) (n := t.fields.length) (P := rt t.fields) (A := fun _ => some 5) (B := some 0) (fun k i hi => by
   show bD t (k + 1) (i : Int) = _
   rw [bD, bn hi, af, aZ hi, ar, aJ (by omega), xo ho hi, aG hi ho.len]
   simp only [ar, au])
  (fun k => by rw [bD]; simp only [Int.lt_irrefl, decide_false, ae]; rfl) aV 0 (Nat.zero_le _) (by rw [aI]; have := ho.len; omega)
 have hl : bD t aV (0 : Int) = _ := hl
 rw [hl]
 unfold tc
 cases first (rt t.fields) 0 t.fields.length <;> rfl
theorem yJ {t : aq} (ho : m6 t.fields) (rec2 : Int → Option Int) {i : Nat} (hi : i < t.fields.length) : bM rec2 t (i : Int) aV (0 : Int) = if rt t.fields i = true then some 5 else rec2 ((i + 1 : Nat) : Int) := by
 have hl := ir (f := fun k j => bM rec2 t (i : Int) k (j : Int)) (n := i) (P := Ed t.fields i) (A := fun j => some 5) (B := rec2 ((i + 1 : Nat) : Int)) (fun k j hj => by
   have hjf : j < t.fields.length := by omega
   show bM rec2 t (i : Int) (k + 1) (j : Int) = _
   rw [bM, bn hj, af, aZ hjf, aZ hi, aG hj (by have := ho.len; omega)]
   simp only [ar, au, Ed, kI hi, kI hjf])
  (fun k => by
   show bM rec2 t (i : Int) (k + 1) (i : Int) = _
   rw [bM]; simp only [Int.lt_irrefl, decide_false, ae, nA]; rw [aG hi ho.len]) aV 0 (Nat.zero_le _) (by rw [aI]; have := ho.len; omega)
 have hl : bM rec2 t (i : Int) aV (0 : Int) = _ := hl
 rw [hl]
 unfold rt
 cases first (Ed t.fields i) 0 i <;> simp
theorem zD {t : aq} (ho : m6 t.fields) : bN t aV (0 : Int) = some (if tc t.fields = true then 5 else 0) := by
 have hl := ir (f := fun k i => bN t k (i : Int)) (n := t.fields.length) (P := rt t.fields) (A := fun _ => some 5) (B := some 0) (fun k i hi => by
   show bN t (k + 1) (i : Int) = _
   rw [bN, bn hi, af, yJ ho _ hi])
  (fun k => by rw [bN]; simp only [Int.lt_irrefl, decide_false, ae]; rfl) aV 0 (Nat.zero_le _) (by rw [aI]; have := ho.len; omega)
 have hl : bN t aV (0 : Int) = _ := hl
 rw [hl]
 unfold tc
 cases first (rt t.fields) 0 t.fields.length <;> rfl
theorem yX {t : aq} (ho : m6 t.fields) : b8 t aV (0 : Int) = some (if uq t.fields = true then 4 else if tc t.fields = true then 5 else 0) := by
 have hl := ir (f := fun k i => b8 t k (i : Int)) (n := t.fields.length) (P := lT t.fields) (A := fun _ => some 4) (B := some (if tc t.fields = true then 5 else 0)) (fun k i hi => by
   show b8 t (k + 1) (i : Int) = _
   rw [b8, bn hi, af, aZ hi, ar, H3 _ (ho.nam _ (List.getElem_mem hi)), aG hi ho.len]
   simp only [ar, au, lT, kI hi])
  (fun k => by rw [b8]; simp only [Int.lt_irrefl, decide_false, ae, nu]; exact zD ho) aV 0 (Nat.zero_le _) (by rw [aI]; have := ho.len; omega)
 have hl : b8 t aV (0 : Int) = _ := hl
 rw [hl]
 unfold uq
 cases first (lT t.fields) 0 t.fields.length <;> rfl
def vf (t : aq) : Int :=
 if t.kind = 6 then (if t.fields.length ≠ 1 ∨ (GA t.fields 0).size ≠ 0 then 1 else 0)
 else if t.kind ≠ 7 then (if 0 < t.fields.length then 1 else 0)
 else if t.fields.length = 0 then 1 else if uq t.fields = true then 4 else if tc t.fields = true then 5 else 0
def qD (t : aq) : Prop := t.scale ≠ 0 ∧ (t.kind ≠ 3 ∨ t.scale < 0 ∨ 12 < t.scale)
instance (t : aq) : Decidable (qD t) := by unfold qD; infer_instance
def shp (t : aq) : Int := if t.kind < 1 ∨ 7 < t.kind then 3 else if qD t then 1 else vf t
theorem BK {t : aq} (ho : m6 t.fields) : kR t = some (vf t) := by
 unfold kR jY vf
 rw [w6 ho, sU ho]
 simp only [ar, au]
 by_cases h6 : t.kind = 6
 ·simp only [h6, beq_self_eq_true, if_true]
  by_cases hl : t.fields.length = 1
  ·have : (0 : Nat) < t.fields.length := by omega
   rw [show at? t.fields (0 : Int) = some t.fields[0] from aZ (i := 0) this]
   simp only [hl, ar, gM, kI this]
   by_cases hz : t.fields[0].name.size = 0 <;> simp [hz]
  ·simp [hl, show ((t.fields.length : Int) = 1) = False from eq_false (by omega)]
 ·by_cases h7 : t.kind = 7
  ·simp [h7]
   by_cases hl : t.fields = []
   ·simp [hl]
   ·simp [hl]
    by_cases hb : uq t.fields = true
    ·simp [hb]
    ·simp [hb]
  ·simp [h6, h7]
   by_cases hl : 0 < t.fields.length
   ·simp [hl]
   ·simp [hl]
theorem D8 {t : aq} (ho : m6 t.fields) : ni t = some (shp t) := by
 have hj3 : ∀ x, eU t x = if x = true then some 1 else if t.kind ≠ 7 then some 0 else some (if uq t.fields = true then 4 else if tc t.fields = true then 5 else 0) := by
  intro x
  unfold eU
  rw [yX ho]
  cases x <;> simp [au]
 have hleaf : eY t.kind = some (decide (t.kind ≠ 6 ∧ t.kind ≠ 7)) := by
  unfold eY jT
  by_cases h6 : t.kind = 6 <;> by_cases h7 : t.kind = 7 <;> simp [h6, h7, au]
 have hj1 : ∀ x, eS t x = if x = true then some 1 else some (vf t) := by
  intro x
  cases x with
  | true => rfl
  | false =>
   unfold eS j7 vf
   rw [hleaf]
   simp only [au, ar, hj3]
   by_cases h6 : t.kind = 6
   ·simp only [h6, beq_self_eq_true, if_true]
    by_cases hl : t.fields.length = 1
    ·have : (0 : Nat) < t.fields.length := by omega
     rw [show at? t.fields (0 : Int) = some t.fields[0] from aZ (i := 0) this]
     simp only [hl, ar, gM, kI this]
     by_cases hz : t.fields[0].name.size = 0 <;> simp [hz]
    ·simp [hl, show ((t.fields.length : Int) = 1) = False from eq_false (by omega)]
   ·by_cases h7 : t.kind = 7
    ·simp [h7]
     by_cases hl : t.fields = []
     ·simp [hl]
     ·simp [hl]
    ·simp [h6, h7]
     by_cases hl : 0 < t.fields.length
     ·simp [hl]
     ·simp [hl]
 unfold ni shp cF gZ
 simp only [au, hj1, ar]
 by_cases a1 : t.kind < 1
 ·simp [a1, show ¬ (1 : Int) ≤ t.kind by omega, ar]
 ·by_cases a2 : 7 < t.kind
  ·simp [a2, show (1 : Int) ≤ t.kind by omega, show ¬ t.kind ≤ 7 by omega, ar]
  ·simp only [a1, a2, show (1 : Int) ≤ t.kind by omega, show t.kind ≤ 7 by omega, decide_true, or_self, if_false, if_true, Bool.not_true, ar]
   unfold qD
   by_cases h3 : t.kind = 3
   ·by_cases b1 : t.scale < 0
    ·simp [h3, b1, show ¬ (0 : Int) ≤ t.scale by omega, show t.scale ≠ 0 by omega, ar]
    ·by_cases b2 : 12 < t.scale
     ·simp [h3, b1, b2, show (0 : Int) ≤ t.scale by omega, show ¬ t.scale ≤ 12 by omega, show t.scale ≠ 0 by omega, ar]
     ·simp [h3, b1, b2, show (0 : Int) ≤ t.scale by omega, show t.scale ≤ 12 by omega, ar]
   ·by_cases b0 : t.scale = 0 <;> simp [h3, b0]
end Go.Proofs.YtbfekiekbifgcaaGreatDoor.Rw
namespace Go.Proofs.YtbfekiekbifgcaaGreatDoor.Rw
open Go Go.SX Go.SX.Cal
inductive V : aq → Prop where
 | mk (t : aq) (h1 : shp t = 0) (h2 : ∀ f, f ∈ t.fields → V f.type) : V t
theorem Ht (t : aq) : lU t = some (decide (t.kind ≠ 6 ∧ t.kind ≠ 7)) := by
 unfold lU lB
 by_cases h6 : t.kind = 6 <;> by_cases h7 : t.kind = 7 <;> simp [h6, h7, au]
theorem leafR (k : Int) : eY k = some (decide (k ≠ 6 ∧ k ≠ 7)) := by
 unfold eY jT
 by_cases h6 : k = 6 <;> by_cases h7 : k = 7 <;> simp [h6, h7, au]
theorem BE {t : aq} (ho : m6 t.fields) (q : aq → Int → bQ → Option (Int × bQ)) (l z : Int) :
  b7 q t l z = if shp t ≠ 0 then some (shp t, ⟨z⟩) else bj q t l aV z 0 := by
 have hj4 : ∀ x, bZ q t l z x = if x = true then some (1, ⟨z⟩) else if vf t ≠ 0 then some (vf t, ⟨z⟩) else bj q t l aV z 0 := by
  intro x
  unfold bZ
  rw [BK ho]
  cases x <;> simp [au, ar]
 unfold b7 eW shp
 simp only [au, hj4]
 by_cases a1 : t.kind < 1
 ·simp [a1]
 ·by_cases a2 : 7 < t.kind
  ·simp [a1, a2]
  ·simp only [a1, a2, decide_false, or_self, if_false, Bool.false_eq_true]
   unfold qD
   by_cases b0 : t.scale = 0
   ·simp [b0]
   ·by_cases h3 : t.kind = 3
    ·by_cases b1 : t.scale < 0
     ·simp [b0, h3, b1]
     ·by_cases b2 : 12 < t.scale
      ·simp [b0, h3, b1, b2]
      ·simp [b0, h3, b1, b2]
    ·simp [b0, h3]
theorem BC {t : aq} (ho : m6 t.fields) (q : aq → Int → Int → Option (Int × Int)) (l z : Int) :
  dv q t l z = if shp t ≠ 0 then some (shp t, z) else cD q t l aV z 0 := by
 unfold dv
 rw [D8 ho]
 simp [au, ar]
theorem Lj {t : aq} (h : shp t = 0) (hf : ∀ f ∈ t.fields, V f.type) : V t := .mk t h hf
theorem u5 {t : aq} (ho : m6 t.fields) (l : Int) (hl0 : -10 ≤ l) (hl1 : l ≤ 10) (q1 : aq → Int → bQ → Option (Int × bQ)) (q2 : aq → Int → Int → Option (Int × Int))
  (hq : ∀ f ∈ t.fields, ∀ n : Int, 0 ≤ n → n ≤ 40 → ∃ e m, q1 f.type (l + 1) ⟨n⟩ = some (e, ⟨m⟩) ∧ q2 f.type (l + 1) n = some (e, m) ∧ 0 ≤ m ∧ m ≤ 40 ∧ (e = 0 → V f.type)) :
  ∀ (kk i : Nat) (n : Int), i ≤ t.fields.length → t.fields.length - i < kk → 0 ≤ n → n ≤ 40 →
   ∃ e m, bj q1 t l kk n (i : Int) = some (e, ⟨m⟩) ∧ cD q2 t l kk n (i : Int) = some (e, m) ∧ 0 ≤ m ∧ m ≤ 40 ∧ (e = 0 → ∀ j, i ≤ j → ∀ h : j < t.fields.length, V t.fields[j].type) := by
 intro kk
 induction kk with
 | zero => intro i n _ h; omega
 | succ kk ih =>
  intro i n hi hk n0 n1
  rw [bj, cD]
  by_cases h : i = t.fields.length
  ·subst h
   simp only [Int.lt_irrefl, decide_false, ae]
   exact ⟨0, n, rfl, rfl, n0, n1, fun _ j h1 h2 => by omega⟩
  ·have hlt : i < t.fields.length := by omega
   rw [bn hlt, af, af, aZ hlt, ar, ar, fi (x := l + 1) (by omega) (by omega), aG hlt ho.len]
   obtain ⟨e, m, h1, h2, h3, h4, h5⟩ := hq _ (List.getElem_mem hlt) n n0 n1
   rw [h1, h2]
   simp only [ar, au]
   by_cases he : e = 0
   ·obtain ⟨e', m', g1, g2, g3, g4, g5⟩ := ih (i + 1) m (by omega) (by omega) h3 h4
    refine ⟨e', m', by simpa [he] using g1, by simpa [he] using g2, g3, g4, fun h0 j hj hjl => ?_⟩
    by_cases hji : j = i
    ·subst hji; exact h5 he
    ·exact g5 h0 j (by omega) hjl
   ·exact ⟨e, m, by simp [he], by simp [he], h3, h4, fun h0 => absurd h0 he⟩
theorem yY : ∀ (d k : Nat) (t : aq) (l n : Int), l = 5 - d → d ≤ 5 → d < k → gi t < 1000000000 → 0 ≤ n → n ≤ 40 →
  ∃ e m, aM k t l ⟨n⟩ = some (e, ⟨m⟩) ∧ bH k t l n = some (e, m) ∧ 0 ≤ m ∧ m ≤ 40 ∧ (e = 0 → V t) := by
 intro d
 induction d with
 | zero =>
  intro k t l n hl _ hk hs n0 n1
  obtain ⟨k, rfl⟩ : ∃ k', k = k' + 1 := ⟨k - 1, by omega⟩
  have hl4 : (4 : Int) < l := by omega
  rw [aM, bH]
  simp only [hl4, decide_true, af, cA]
  exact ⟨7, n, rfl, rfl, n0, n1, fun h => by omega⟩
 | succ d ih =>
  intro k t l n hl hd hk hs n0 n1
  obtain ⟨k, rfl⟩ : ∃ k', k = k' + 1 := ⟨k - 1, by omega⟩
  have hl4 : ¬ (4 : Int) < l := by omega
  have hsz := mD t
  have ho : m6 t.fields := BB (by omega)
  have hq : ∀ f ∈ t.fields, ∀ n : Int, 0 ≤ n → n ≤ 40 → ∃ e m, aM k f.type (l + 1) ⟨n⟩ = some (e, ⟨m⟩) ∧ bH k f.type (l + 1) n = some (e, m) ∧ 0 ≤ m ∧ m ≤ 40 ∧ (e = 0 → V f.type) := by
   intro f hf n n0 n1
   have h1 := fm hf
   have h2 := eM f
   exact ih k f.type (l + 1) n (by omega) (by omega) (by omega) (by omega) n0 n1
  have main : ∀ z : Int, 0 ≤ z → z ≤ 40 → ∃ e m, b7 (aM k) t l z = some (e, ⟨m⟩) ∧ dv (bH k) t l z = some (e, m) ∧ 0 ≤ m ∧ m ≤ 40 ∧ (e = 0 → V t) := by
   intro z z0 z1
   rw [BE ho, BC ho]
   by_cases Ac : shp t = 0
   ·obtain ⟨e, m, h1, h2, h3, h4, h5⟩ := u5 ho l (by omega) (by omega) _ _ hq aV 0 z (Nat.zero_le _) (by rw [aI]; have := ho.len; omega) z0 z1
    refine ⟨e, m, by simpa [Ac] using h1, by simpa [Ac] using h2, h3, h4, fun he => Lj Ac (fun f hf => ?_)⟩
    obtain ⟨j, hj, rfl⟩ := List.getElem_of_mem hf
    exact h5 he j (Nat.zero_le _) hj
   ·exact ⟨shp t, z, by simp [Ac], by simp [Ac], z0, z1, fun h => absurd h Ac⟩
  rw [aM, bH]
  simp only [hl4, decide_false, ae, Ht, leafR, ar, cA]
  by_cases hleaf : t.kind ≠ 6 ∧ t.kind ≠ 7
  ·simp only [hleaf, ne_eq, not_false_eq_true, and_self, decide_true, af]
   by_cases h40 : n = 40
   ·simp only [h40, beq_self_eq_true, af]
    exact ⟨7, 40, rfl, rfl, by omega, by omega, fun h => by omega⟩
   ·have : (n == 40) = false := by simpa using h40
    simp only [this, ae]
    rw [fi (x := n + 1) (by omega) (by omega)]
    exact main (n + 1) (by omega) (by omega)
  ·simp only [hleaf, decide_false, ae]
   exact main n n0 n1
theorem checkType_eq (t : aq) (hs : gi t < 1000000000) : ∃ e, eC t = some e ∧ fM t = some e ∧ (e = 0 → V t) := by
 obtain ⟨e, m, h1, h2, h3, h4, h5⟩ := yY 4 aV t 1 0 (by omega) (by omega) (by rw [aI]; omega) hs (by omega) (by omega)
 refine ⟨e, ?_, ?_, h5⟩
 ·unfold eC; rw [h1]; rfl
 ·unfold fM; rw [h2]; rfl
end Go.Proofs.YtbfekiekbifgcaaGreatDoor.Rw
namespace Go.Proofs.YtbfekiekbifgcaaGreatDoor.Rw
open Go Go.SX Go.SX.Cal Go.Lib
theorem kM : ∀ v : ac, bO v = v.s.size + sizeL v.items + 1
 | ⟨_, _, _, _, _⟩ => by simp only [bO]
theorem cY : ∀ {l : List ac} {x : ac}, x ∈ l → bO x ≤ sizeL l
 | [], _, h => by cases h
 | y :: l, x, h => by
  simp only [sizeL]
  rcases List.mem_cons.1 h with rfl | h
  ·omega
  ·have := cY h; omega
theorem js : ∀ v : ac, 1 ≤ bO v
 | ⟨_, _, _, _, _⟩ => by simp only [bO]; omega
theorem cP : ∀ l : List ac, l.length ≤ sizeL l
 | [] => by simp [sizeL]
 | x :: l => by
  have := cP l
  have := js x
  simp only [sizeL, List.length_cons]; omega
theorem ow (b x : Bool) : aA b (some x) (some false) = some (b && x) := by cases b <;> rfl
theorem am {α β : Type} (a : α) (f : α → Option β) : aD (some a) f = f a := rfl
theorem oU {P : Nat → Bool} {n : Nat} : ∀ (d i : Nat), i + d ≤ n → (∀ j, i ≤ j → j < i + d → P j = false) → first P i n = first P (i + d) n
 | 0, i, _, _ => rfl
 | d + 1, i, h, hP => by
  rw [gb (by omega), hP i (by omega) (by omega)]
  simp only [Bool.false_eq_true, if_false]
  rw [oU d (i + 1) (by omega) (fun j h1 h2 => hP j (by omega) (by omega))]
  congr 1; omega
theorem sK (s : ByteArray) (i : Nat) (h : i < s.size) (hb : ¬ eE s i < 128) :
  1 ≤ (Utf8.decode s i).2 ∧ i + (Utf8.decode s i).2 ≤ s.size ∧ ∀ j, i ≤ j → j < i + (Utf8.decode s i).2 → 128 ≤ eE s j := by
 have e := ov s i h
 have one : ∀ j, i ≤ j → j < i + 1 → 128 ≤ eE s j := fun j h1 h2 => by
  have : j = i := by omega
  subst this; omega
 have ct : ∀ k, (decide (i + k < s.size) && (s.get! (i + k)).toNat / 64 == 2) = true → i + k < s.size ∧ 128 ≤ eE s (i + k) := by
  intro k hk
  simp only [Bool.and_eq_true, decide_eq_true_eq, beq_iff_eq] at hk
  rw [ov s _ hk.1] at hk
  exact ⟨hk.1, by omega⟩
 unfold Utf8.decode
 simp only [Nat.add_zero, e, if_neg hb]
 split
 ·rename_i h1
  simp only [Bool.and_eq_true] at h1
  obtain ⟨l1, b1⟩ := ct 1 (by simpa using h1.2)
  split
  ·refine ⟨by simp, by simp only; omega, fun j h2 h3 => ?_⟩
   simp only at h3
   by_cases hj : j = i
   ·subst hj; omega
   ·have : j = i + 1 := by omega
    subst this; exact b1
  ·exact ⟨by simp, by simp only; omega, one⟩
 ·split
  ·rename_i h1
   simp only [Bool.and_eq_true] at h1
   obtain ⟨l1, b1⟩ := ct 1 (by simpa using h1.1.2)
   obtain ⟨l2, b2⟩ := ct 2 (by simpa using h1.2)
   split
   ·refine ⟨by simp, by simp only; omega, fun j h2 h3 => ?_⟩
    simp only at h3
    by_cases hj : j = i
    ·subst hj; omega
    ·by_cases hj : j = i + 1
     ·subst hj; exact b1
     ·have : j = i + 2 := by omega
      subst this; exact b2
   ·exact ⟨by simp, by simp only; omega, one⟩
  ·split
   ·rename_i h1
    simp only [Bool.and_eq_true] at h1
    obtain ⟨l1, b1⟩ := ct 1 (by simpa using h1.1.1.2)
    obtain ⟨l2, b2⟩ := ct 2 (by simpa using h1.1.2)
    obtain ⟨l3, b3⟩ := ct 3 (by simpa using h1.2)
    split
    ·refine ⟨by simp, by simp only; omega, fun j h2 h3 => ?_⟩
     simp only at h3
     by_cases hj : j = i
     ·subst hj; omega
     ·by_cases hj : j = i + 1
      ·subst hj; exact b1
      ·by_cases hj : j = i + 2
       ·subst hj; exact b2
       ·have : j = i + 3 := by omega
        subst this; exact b3
    ·exact ⟨by simp, by simp only; omega, one⟩
   ·exact ⟨by simp, by simp only; omega, one⟩
def tU (s : ByteArray) (i : Nat) : Bool := decide (eE s i < 32) || eE s i == 127
theorem vv (s : ByteArray) : ∀ k i, i ≤ s.size → s.size - i < k → eo s k i = some (first (tU s) i s.size).isNone := by
 intro k
 induction k with
 | zero => intro i _ h; omega
 | succ k ih =>
  intro i hi hk
  rw [eo]
  by_cases h : i = s.size
  ·subst h
   rw [iz]
   simp only [Nat.lt_irrefl, decide_false, ae, nH]
   rfl
  ·have hlt : i < s.size := by omega
   simp only [hlt, decide_true, af, lr, au]
   by_cases hb : eE s i < 128
   ·rw [qo s i hlt hb, gb hlt]
    by_cases h1 : eE s i < 32
    ·have : tU s i = true := by simp [tU, h1]
     simp [this, show ((eE s i : Nat) : Int) < 32 by omega]
    ·have e1 : ¬ ((eE s i : Nat) : Int) < 32 := by omega
     by_cases h2 : eE s i = 127
     ·have : tU s i = true := by simp [tU, h2]
      simp [this, h2]
     ·have : tU s i = false := by simp [tU, h1, h2]
      have e2 : ¬ ((eE s i : Nat) : Int) = 127 := by omega
      simp only [this, Int.ofNat_eq_natCast, e1, decide_false, Bool.false_eq_true, if_false, beq_iff_eq, e2]
      exact ih (i + 1) (by omega) (by omega)
   ·have h1 := qG s i hlt hb
    obtain ⟨h2, h3, h4⟩ := sK s i hlt hb
    have e1 : ¬ (((Utf8.decode s i).1 : Nat) : Int) < 32 := by omega
    have e2 : ¬ (((Utf8.decode s i).1 : Nat) : Int) = 127 := by omega
    simp only [Int.ofNat_eq_natCast, e1, decide_false, Bool.false_eq_true, if_false, beq_iff_eq, e2]
    rw [ih _ h3 (by omega), oU _ i h3 (fun j a b => by
     have := h4 j a b
     simp only [tU, Bool.or_eq_false_iff, decide_eq_false_iff_not, beq_eq_false_iff_ne]
     omega)]
    simp
theorem uS (s : ByteArray) (hs : s.size < 1000000000) : ∀ k i, i ≤ s.size → s.size - i < k → cm s k (i : Int) = some (first (tU s) i s.size).isNone := by
 intro k
 induction k with
 | zero => intro i _ h; omega
 | succ k ih =>
  intro i hi hk
  rw [cm]
  by_cases h : i = s.size
  ·subst h
   rw [iz]
   simp only [Int.lt_irrefl, decide_false, ae, jN]
   rfl
  ·have hlt : i < s.size := by omega
   have g : (0 : Int) ≤ (i : Int) ∧ (i : Int) < (s.size : Int) := ⟨by omega, by omega⟩
   have e : ((s.data.toList.getD (i : Int).toNat 0).toNat : Int) = (eE s i : Int) := by simp [eE]
   simp only [bn hlt, af, eZ, if_pos g, am, hJ, au, e]
   rw [gb hlt, aG hlt hs]
   by_cases h1 : eE s i < 32
   ·have : tU s i = true := by simp [tU, h1]
    simp [this, show ((eE s i : Nat) : Int) < 32 by omega]
   ·have e1 : ¬ ((eE s i : Nat) : Int) < 32 := by omega
    by_cases h2 : eE s i = 127
    ·have : tU s i = true := by simp [tU, h2]
     simp [this, h2]
    ·have : tU s i = false := by simp [tU, h1, h2]
     have e2 : ¬ ((eE s i : Nat) : Int) = 127 := by omega
     simp only [this, e1, decide_false, Bool.false_eq_true, if_false, beq_iff_eq, e2]
     exact ih (i + 1) (by omega) (by omega)
def kd (s : ByteArray) : Bool := decide (s.size ≤ 256) && (validD s.data.toList && (first (tU s) 0 s.size).isNone)
theorem zJ (s : ByteArray) (hs : s.size < 1000000000) : utf8_ValidString s = some (validD s.data.toList) := by
 unfold utf8_ValidString eZ
 rw [if_pos (by omega)]
theorem HY (s : ByteArray) (hs : s.size < 1000000000) : mR s = some (kd s) := by
 unfold mR lD kd
 rw [zJ s hs, vv s aV 0 (by omega) (by rw [aI]; omega)]
 by_cases h : s.size ≤ 256
 ·have : ¬ (256 : Int) < (s.size : Int) := by omega
  simp only [this, h, decide_false, decide_true, ae, am]
  cases validD s.data.toList <;> rfl
 ·have : (256 : Int) < (s.size : Int) := by omega
  simp only [this, h, decide_false, decide_true, af]
  rfl
theorem EB (s : ByteArray) (hs : s.size < 1000000000) : iB s = some (kd s) := by
 have := uS s hs aV 0 (by omega) (by rw [aI]; omega)
 unfold iB gY kd
 rw [zJ s hs, show (0 : Int) = ((0 : Nat) : Int) from rfl, this]
 by_cases h : s.size ≤ 256
 ·have e : ¬ (256 : Int) < (s.size : Int) := by omega
  simp only [e, h, decide_false, decide_true, am]
  cases validD s.data.toList <;> rfl
 ·have e : (256 : Int) < (s.size : Int) := by omega
  simp only [e, h, decide_false, decide_true, am]
  cases validD s.data.toList <;> rfl
theorem Ba (a b c : Int) : cz a b c = some (decide (b ≤ a) && decide (a ≤ c)) := by
 unfold cz ga; exact ow _ _
theorem B2 (a b c : Int) : cF a b c = some (decide (b ≤ a) && decide (a ≤ c)) := by
 unfold cF gZ; exact ow _ _
def du (v : ac) : Bool :=
 let bare := v.n == 0 && v.scale == 0
 let noS := decide (v.s.size = 0)
 let noI := ((v.items.length : Int) == 0)
 if v.kind = 0 then bare && (noS && noI)
 else if v.kind = 1 then (decide (0 ≤ v.n) && decide (v.n ≤ 1)) && (v.scale == 0 && (noS && noI))
 else if v.kind = 2 then (decide (-999999999999999999 ≤ v.n) && decide (v.n ≤ 999999999999999999)) && (v.scale == 0 && (noS && noI))
 else if v.kind = 3 then (decide (-999999999999999999 ≤ v.n) && decide (v.n ≤ 999999999999999999)) && ((decide (0 ≤ v.scale) && decide (v.scale ≤ 12)) && (noS && noI))
 else if v.kind = 4 then bare && (kd v.s && noI)
 else if v.kind = 5 then (decide (-62135596800 ≤ v.n) && decide (v.n ≤ 253402300799)) && (v.scale == 0 && (noS && noI))
 else if v.kind = 6 then bare && (noS && decide ((v.items.length : Int) ≤ 64))
 else if v.kind = 7 then bare && (noS && decide ((0 : Int) < (v.items.length : Int)))
 else false
theorem DP (v : ac) (hs : v.s.size < 1000000000) : lW v = some (du v) := by
 have j : ∀ x, ik v x = some (if v.kind = 0 then x && (decide (v.s.size = 0) && ((v.items.length : Int) == 0))
   else if v.kind = 1 then (decide (0 ≤ v.n) && decide (v.n ≤ 1)) && (v.scale == 0 && (decide (v.s.size = 0) && ((v.items.length : Int) == 0)))
   else if v.kind = 2 then (decide (-999999999999999999 ≤ v.n) && decide (v.n ≤ 999999999999999999)) && (v.scale == 0 && (decide (v.s.size = 0) && ((v.items.length : Int) == 0)))
   else if v.kind = 3 then (decide (-999999999999999999 ≤ v.n) && decide (v.n ≤ 999999999999999999)) && ((decide (0 ≤ v.scale) && decide (v.scale ≤ 12)) && (decide (v.s.size = 0) && ((v.items.length : Int) == 0)))
   else if v.kind = 4 then x && (kd v.s && ((v.items.length : Int) == 0))
   else if v.kind = 5 then (decide (-62135596800 ≤ v.n) && decide (v.n ≤ 253402300799)) && (v.scale == 0 && (decide (v.s.size = 0) && ((v.items.length : Int) == 0)))
   else if v.kind = 6 then x && (decide (v.s.size = 0) && decide ((v.items.length : Int) ≤ 64))
   else if v.kind = 7 then x && (decide (v.s.size = 0) && decide ((0 : Int) < (v.items.length : Int)))
   else false) := by
  intro x
  unfold ik jp gX gR hH jo gV jg jl
  simp only [Ba, HY v.s hs, am, ow, gM]
  simp only [au, beq_iff_eq]
  repeat' split
  all_goals (first | rfl | simp_all)
 unfold lW
 rw [j, j]
 unfold du
 cases v.n == 0
 ·simp only [ae, Bool.false_and]
 ·simp only [af, Bool.true_and]
theorem ED (v : ac) (hs : v.s.size < 1000000000) : nh v = some (du v) := by
 have j : ∀ x, i5 v x = some (if v.kind = 0 then x && (v.n == 0 && v.scale == 0)
   else if v.kind = 1 then x && ((decide (0 ≤ v.n) && decide (v.n ≤ 1)) && v.scale == 0)
   else if v.kind = 2 then x && ((decide (-999999999999999999 ≤ v.n) && decide (v.n ≤ 999999999999999999)) && v.scale == 0)
   else if v.kind = 3 then x && ((decide (-999999999999999999 ≤ v.n) && decide (v.n ≤ 999999999999999999)) && (decide (0 ≤ v.scale) && decide (v.scale ≤ 12)))
   else if v.kind = 4 then ((v.items.length : Int) == 0) && (v.n == 0 && (v.scale == 0 && kd v.s))
   else if v.kind = 5 then x && ((decide (-62135596800 ≤ v.n) && decide (v.n ≤ 253402300799)) && v.scale == 0)
   else if v.kind = 6 then decide (v.s.size = 0) && (v.n == 0 && (v.scale == 0 && decide ((v.items.length : Int) ≤ 64)))
   else if v.kind = 7 then decide (v.s.size = 0) && (v.n == 0 && (v.scale == 0 && decide ((0 : Int) < (v.items.length : Int))))
   else false) := by
  intro x
  unfold i5 j4 j5 j6 j9 i6 j0 iW iZ
  simp only [B2, EB v.s hs, am, ow, gM]
  simp only [au, beq_iff_eq]
  repeat' split
  all_goals (first | rfl | simp_all)
 unfold nh
 rw [j, j, gM]
 unfold du
 generalize decide (v.s.size = 0) = a
 generalize ((v.items.length : Int) == 0) = b
 generalize kd v.s = t
 generalize (v.n == 0) = c
 generalize (v.scale == 0) = d
 generalize (decide (0 ≤ v.n) && decide (v.n ≤ 1)) = e1
 generalize (decide (-999999999999999999 ≤ v.n) && decide (v.n ≤ 999999999999999999)) = e2
 generalize (decide (0 ≤ v.scale) && decide (v.scale ≤ 12)) = e3
 generalize (decide (-62135596800 ≤ v.n) && decide (v.n ≤ 253402300799)) = e4
 generalize decide ((v.items.length : Int) ≤ 64) = e5
 generalize decide ((0 : Int) < (v.items.length : Int)) = e6
 cases a <;> simp only [ae, af] <;> congr 1 <;> repeat' split
 all_goals (first | rfl | (cases b <;> cases c <;> cases d <;> simp <;> done) | (simp [Bool.and_comm, Bool.and_assoc, Bool.and_left_comm]))
def dF (f : ac → Int → Bool × Int) : List ac → Int → Bool × Int
 | [], z => (true, z)
 | v :: l, z => if (f v z).1 = true then dF f l (f v z).2 else (false, (f v z).2)
def oF (v : ac) (z : Int) : Int := if v.kind = 0 then z else z + 1
def bW : Nat → ac → Int → Bool × Int
 | 0, v, z => (false, oF v z)
 | d + 1, v, z => if 256 < oF v z ∨ du v = false then (false, oF v z) else dF (bW d) v.items (oF v z)
def jM (v : ac) : Bool := (bW 4 v 0).1
theorem qF {f : ac → Int → Bool × Int} : ∀ {l : List ac} {z : Int}, (∀ v ∈ l, ∀ z, 0 ≤ z → z ≤ 256 → 0 ≤ (f v z).2 ∧ (f v z).2 ≤ 257 ∧ ((f v z).1 = true → (f v z).2 ≤ 256)) → 0 ≤ z → z ≤ 256 →
  0 ≤ (dF f l z).2 ∧ (dF f l z).2 ≤ 257 ∧ ((dF f l z).1 = true → (dF f l z).2 ≤ 256)
 | [], z, _, h0, h1 => by simp only [dF]; omega
 | v :: l, z, hf, h0, h1 => by
  obtain ⟨a, b, c⟩ := hf v (by simp) z h0 h1
  simp only [dF]
  split
  ·rename_i h
   exact qF (fun x hx => hf x (by simp [hx])) a (c h)
  ·exact ⟨a, b, fun h => by cases h⟩
theorem mX : ∀ (d : Nat) (v : ac) (z : Int), 0 ≤ z → z ≤ 256 → 0 ≤ (bW d v z).2 ∧ (bW d v z).2 ≤ 257 ∧ ((bW d v z).1 = true → (bW d v z).2 ≤ 256)
 | 0, v, z, h0, h1 => by
  have hc : z ≤ oF v z ∧ oF v z ≤ z + 1 := by unfold oF; split <;> omega
  simp only [bW]
  exact ⟨by omega, by omega, fun h => by cases h⟩
 | d + 1, v, z, h0, h1 => by
  have hc : z ≤ oF v z ∧ oF v z ≤ z + 1 := by unfold oF; split <;> omega
  simp only [bW]
  split
  ·exact ⟨by omega, by omega, fun h => by cases h⟩
  ·rename_i h
   have : ¬ 256 < oF v z := fun e => h (.inl e)
   exact qF (fun x _ => mX d x) (by omega) (by omega)
theorem mE (v : ac) (z : Int) (h0 : 0 ≤ z) (h1 : z ≤ 256) {β : Type} (f : Int → Option β) : aA (v.kind != (0 : Int)) (f (IntKind.i64.wrap (z + 1))) (f z) = f (oF v z) := by
 rw [fi (by omega) (by omega)]
 unfold oF
 by_cases h : v.kind = 0
 ·simp [h, au]
 ·simp [h, au]
theorem rN {d : Nat} (l : Int) (q : ac → Int → Int → Option (Bool × Int)) (xs : List ac) (hl : xs.length < 1000000000)
  (hq : ∀ v ∈ xs, ∀ z, 0 ≤ z → z ≤ 256 → q v l z = some (!(bW d v z).1, (bW d v z).2)) : ∀ (k i : Nat) (z : Int), i ≤ xs.length → xs.length - i < k → 0 ≤ z → z ≤ 256 →
  ∃ r : Int, aC q xs l k z (i : Int) = some (r, (dF (bW d) (xs.drop i) z).2) ∧ decide (0 ≤ r) = !(dF (bW d) (xs.drop i) z).1 := by
 intro k
 induction k with
 | zero => intro i z _ h; omega
 | succ k ih =>
  intro i z hi hk h0 h1
  rw [aC]
  by_cases h : i = xs.length
  ·subst h
   simp only [Int.lt_irrefl, decide_false, ae, List.drop_length, dF, bo]
   exact ⟨-1, rfl, rfl⟩
  ·have hlt : i < xs.length := by omega
   have hm : xs[i] ∈ xs := List.getElem_mem hlt
   simp only [bn hlt, af, aZ hlt, am, hq _ hm z h0 h1]
   rw [List.drop_eq_getElem_cons hlt]
   simp only [dF]
   obtain ⟨a, b, c⟩ := mX d xs[i] z h0 h1
   cases hs : (bW d xs[i] z).1 with
   | false =>
    simp only [Bool.not_false, af, Bool.false_eq_true, if_false]
    exact ⟨_, rfl, by simp⟩
   | true =>
    simp only [Bool.not_true, ae, if_true]
    rw [aG hlt hl]
    exact ih (i + 1) _ (by omega) (by omega) a (c hs)
theorem xa : ∀ (d k : Nat) (v : ac) (z : Int), d ≤ 4 → 4 * d + 4 ≤ k → bO v < 1000000000 → 0 ≤ z → z ≤ 256 → fK k v (5 - d : Int) z = some (bW d v z) := by
 intro d
 induction d with
 | zero =>
  intro k v z _ hk hs h0 h1
  obtain ⟨k, rfl⟩ : ∃ q, k = q + 1 := ⟨k - 1, by omega⟩
  rw [fK, mE v z h0 h1]
  unfold ij fE
  simp [bW, af]
 | succ d ih =>
  intro k v z hd hk hs h0 h1
  obtain ⟨k, rfl⟩ : ∃ q, k = q + 4 := ⟨k - 4, by omega⟩
  have hsz := kM v
  have hlen := cP v.items
  rw [fK, mE v z h0 h1]
  unfold ij fE
  rw [DP v (by omega)]
  have e4 : ¬ (4 : Int) < 5 - ((d + 1 : Nat) : Int) := by omega
  have hc : z ≤ oF v z ∧ oF v z ≤ z + 1 := by unfold oF; split <;> omega
  simp only [e4, decide_false, ae, bW, am]
  by_cases h2 : (256 : Int) < oF v z
  ·simp [h2, af]
  ·cases hp : du v with
   | false => simp [h2, af, ae]
   | true =>
    simp only [h2, decide_false, ae, Bool.not_true, false_or, Bool.true_eq_false, if_false]
    have := rN (d := d) (5 - ((d + 1 : Nat) : Int)) (eD (k + 1)) v.items (by omega) (by
     intro x hx z h0 h1
     have := cY hx
     rw [eD, fi (by omega) (by omega), show (5 - ((d + 1 : Nat) : Int) + 1) = 5 - (d : Int) by omega, ih k x z (by omega) (by omega) (by omega) h0 h1]
     rfl) aV 0 (oF v z) (by omega) (by rw [aI]; omega) (by omega) (by omega)
    obtain ⟨r, e1, e2⟩ := this
    rw [show ((0 : Nat) : Int) = (0 : Int) from rfl] at e1
    rw [aB, aU, e1]
    simp only [am, e2, List.drop_zero, Bool.not_not]
theorem xp (v : ac) (hs : bO v < 1000000000) : jz v = some (jM v) := by
 unfold jz jM
 have := xa 4 aV v 0 (by omega) (by rw [aI]; omega) hs (by omega) (by omega)
 rw [show (5 - ((4 : Nat) : Int)) = (1 : Int) from rfl] at this
 rw [this]; rfl
theorem sN {d : Nat} (l : Int) (hl0 : 0 ≤ l) (hl1 : l ≤ 100) (q : ac → Int → Int → Option (Bool × Int)) (v : ac) (hl : v.items.length < 1000000000)
  (hq : ∀ x ∈ v.items, ∀ z, 0 ≤ z → z ≤ 256 → q x (l + 1) z = some (bW d x z)) : ∀ (k i : Nat) (z : Int), i ≤ v.items.length → v.items.length - i < k → 0 ≤ z → z ≤ 256 →
  fv q v l k z (i : Int) = some (dF (bW d) (v.items.drop i) z) := by
 intro k
 induction k with
 | zero => intro i z _ h; omega
 | succ k ih =>
  intro i z hi hk h0 h1
  rw [fv]
  by_cases h : i = v.items.length
  ·subst h
   simp only [Int.lt_irrefl, decide_false, ae, List.drop_length, dF, ny]
  ·have hlt : i < v.items.length := by omega
   have hm : v.items[i] ∈ v.items := List.getElem_mem hlt
   rw [fi (x := l + 1) (by omega) (by omega)]
   simp only [bn hlt, af, aZ hlt, am, hq _ hm z h0 h1]
   rw [List.drop_eq_getElem_cons hlt]
   simp only [dF]
   obtain ⟨a, b, c⟩ := mX d v.items[i] z h0 h1
   cases hs : (bW d v.items[i] z).1 with
   | false => simp only [Bool.not_false, af, Bool.false_eq_true, if_false]
   | true =>
    simp only [Bool.not_true, ae, if_true]
    rw [aG hlt hl]
    exact ih (i + 1) _ (by omega) (by omega) a (c hs)
theorem xD : ∀ (d k : Nat) (v : ac) (z : Int), d ≤ 4 → d + 1 ≤ k → bO v < 1000000000 → 0 ≤ z → z ≤ 256 → dI k v (5 - d : Int) z = some (bW d v z) := by
 intro d
 induction d with
 | zero =>
  intro k v z _ hk hs h0 h1
  obtain ⟨k, rfl⟩ : ∃ q, k = q + 1 := ⟨k - 1, by omega⟩
  rw [dI, mE v z h0 h1]
  unfold iU gE
  simp [bW, af]
 | succ d ih =>
  intro k v z hd hk hs h0 h1
  obtain ⟨k, rfl⟩ : ∃ q, k = q + 1 := ⟨k - 1, by omega⟩
  have hsz := kM v
  have hlen := cP v.items
  rw [dI, mE v z h0 h1]
  unfold iU gE
  rw [ED v (by omega)]
  have e4 : ¬ (4 : Int) < 5 - ((d + 1 : Nat) : Int) := by omega
  have hc : z ≤ oF v z ∧ oF v z ≤ z + 1 := by unfold oF; split <;> omega
  simp only [e4, decide_false, ae, bW, am]
  by_cases h2 : (256 : Int) < oF v z
  ·simp [h2, af]
  ·cases hp : du v with
   | false => simp [h2, af, ae]
   | true =>
    simp only [h2, decide_false, ae, Bool.not_true, false_or, Bool.true_eq_false, if_false]
    have := sN (d := d) (5 - ((d + 1 : Nat) : Int)) (by omega) (by omega) (dI k) v (by omega) (by
     intro x hx z h0 h1
     have := cY hx
     rw [show (5 - ((d + 1 : Nat) : Int) + 1) = 5 - (d : Int) by omega]
     exact ih k x z (by omega) (by omega) (by omega) h0 h1) aV 0 (oF v z) (by omega) (by rw [aI]; omega) (by omega) (by omega)
    rw [show ((0 : Nat) : Int) = (0 : Int) from rfl, List.drop_zero] at this
    exact this
theorem BO (v : ac) (hs : bO v < 1000000000) : kH v = some (jM v) := by
 unfold kH jM
 have := xD 4 aV v 0 (by omega) (by rw [aI]; omega) hs (by omega) (by omega)
 rw [show (5 - ((4 : Nat) : Int)) = (1 : Int) from rfl] at this
 rw [this]; rfl
end Go.Proofs.YtbfekiekbifgcaaGreatDoor.Rw
namespace Go.Proofs.YtbfekiekbifgcaaGreatDoor.Rw
open Go Go.SX Go.SX.Cal Go.Lib
def Hv (d : Nat) (v : ac) : Prop := ∃ z, (bW d v z).1 = true
theorem zj {f : ac → Int → Bool × Int} : ∀ {l : List ac} {z : Int}, (dF f l z).1 = true → ∀ x ∈ l, ∃ z', (f x z').1 = true
 | [], _, _, x, hx => by cases hx
 | v :: l, z, h, x, hx => by
  simp only [dF] at h
  by_cases hv : (f v z).1 = true
  ·rw [if_pos hv] at h
   rcases List.mem_cons.1 hx with rfl | hx
   ·exact ⟨z, hv⟩
   ·exact zj h x hx
  ·rw [if_neg hv] at h; cases h
theorem Hv.zero {v : ac} (h : Hv 0 v) : False := by obtain ⟨z, h⟩ := h; cases h
theorem Hv.succ {d : Nat} {v : ac} (h : Hv (d + 1) v) : du v = true ∧ ∀ x ∈ v.items, Hv d x := by
 obtain ⟨z, h⟩ := h
 simp only [bW] at h
 by_cases hc : 256 < oF v z ∨ du v = false
 ·rw [if_pos hc] at h; cases h
 ·rw [if_neg hc] at h
  refine ⟨?_, fun x hx => zj h x hx⟩
  cases hp : du v with
  | true => rfl
  | false => exact absurd (.inr hp) hc
theorem Dx {v : ac} (h : du v = true) (hk : v.kind ≠ 3) : v.scale = 0 := by
 unfold du at h
 simp only at h
 split at h
 ·simp at h; exact h.1.2
 ·split at h
  ·simp at h; exact h.2.1
  ·split at h
   ·simp at h; exact h.2.1
   ·split at h
    ·simp at h; exact h.1.2
    ·split at h
     ·simp at h; exact h.2.1
     ·split at h
      ·simp at h; exact h.1.2
      ·split at h
       ·simp at h; exact h.1.2
       ·cases h
theorem pQ {v : ac} (h : du v = true) (h6 : v.kind ≠ 6) (h7 : v.kind ≠ 7) : v.items = [] := by
 unfold du at h
 simp only at h
 rw [← List.length_eq_zero_iff]
 split at h
 ·simp at h; simp [h.2.2]
 ·split at h
  ·simp at h; simp [h.2.2.2]
  ·split at h
   ·simp at h; simp [h.2.2.2]
   ·split at h
    ·simp at h; simp [h.2.2.2]
    ·split at h
     ·simp at h; simp [h.2.2]
     ·split at h
      ·simp at h; simp [h.2.2.2]
      ·cases h
theorem V.sh {t : aq} (h : V t) : shp t = 0 := by cases h; assumption
theorem V.fs {t : aq} (h : V t) : ∀ f, f ∈ t.fields → V f.type := by cases h; assumption
theorem V.scale {t : aq} (h : V t) (hk : t.kind ≠ 3) : t.scale = 0 := by
 have := h.sh
 unfold shp at this
 split at this
 ·cases this
 ·by_cases h2 : qD t
  ·rw [if_pos h2] at this; cases this
  ·by_cases hs : t.scale = 0
   ·exact hs
   ·exact absurd ⟨hs, .inl hk⟩ h2
theorem V.list {t : aq} (h : V t) (hk : t.kind = 6) : t.fields.length = 1 := by
 have := h.sh
 unfold shp at this
 split at this
 ·cases this
 ·by_cases h2 : qD t
  ·rw [if_pos h2] at this; cases this
  ·rw [if_neg h2] at this
   unfold vf at this
   rw [if_pos hk] at this
   split at this
   ·cases this
   ·rename_i h3
    by_cases hl : t.fields.length = 1
    ·exact hl
    ·exact absurd (.inl hl) h3
def ft (t : aq) (i : Nat) : aq := (t.fields[if t.kind = 6 then 0 else i]?.map (·.type)).getD ⟨0, 0, []⟩
def nd (t : aq) (i : Nat) : Bool := (t.fields[if t.kind = 6 then 0 else i]?.map (·.need)).getD false
def iv (v : ac) (i : Nat) : ac := v.items[i]?.getD ⟨0, 0, 0, ByteArray.empty, []⟩
theorem AP {v : ac} {i : Nat} (h : i < v.items.length) : v.items[i] = iv v i := by simp [iv, h]
def zY : Nat → aq → ac → Bool
 | 0, _, _ => true
 | d + 1, t, v =>
  if v.kind = 0 then true
  else if v.kind ≠ t.kind then false
  else if v.kind = 3 then v.scale == t.scale
  else if v.kind = 7 ∧ t.fields.length ≠ v.items.length then false
  else (first (fun i => !zY d (ft t i) (iv v i)) 0 v.items.length).isNone
def M5 (t : aq) (v : ac) : Prop := ∀ i, i < v.items.length → (if t.kind = 6 then 0 else i) < t.fields.length
theorem KN {d : Nat} {t : aq} {v : ac} (hs : Hv (d + 1) v) (ht : V t) (h : zY (d + 1) t v = true) : M5 t v ∧ ∀ i, i < v.items.length → zY d (ft t i) (iv v i) = true := by
 obtain ⟨hp, _⟩ := hs.succ
 by_cases h67 : v.kind = 6 ∨ v.kind = 7
 ·simp only [zY] at h
  rw [if_neg (by omega)] at h
  by_cases hk : v.kind = t.kind
  ·rw [if_neg (fun hh => hh hk), if_neg (by omega)] at h
   by_cases hl : v.kind = 7 ∧ t.fields.length ≠ v.items.length
   ·rw [if_pos hl] at h; cases h
   ·rw [if_neg hl] at h
    have hn := Option.isNone_iff_eq_none.1 h
    rw [kx] at hn
    refine ⟨fun i hi => ?_, fun i hi => by simpa using hn i (Nat.zero_le _) hi⟩
    by_cases h6 : t.kind = 6
    ·rw [if_pos h6, ht.list h6]; omega
    ·rw [if_neg h6]
     have : ¬ t.fields.length ≠ v.items.length := fun hh => hl ⟨by omega, hh⟩
     omega
  ·rw [if_pos hk] at h; cases h
 ·have : v.items = [] := pQ hp (by omega) (by omega)
  refine ⟨fun i hi => ?_, fun i hi => ?_⟩
  ·rw [this] at hi; simp at hi
  ·rw [this] at hi; simp at hi
theorem Hd {t : aq} {i : Nat} (h : (if t.kind = 6 then 0 else i) < t.fields.length) : ∃ f : ah, f ∈ t.fields ∧ t.fields[if t.kind = 6 then 0 else i]? = some f ∧ f.type = ft t i ∧ f.need = nd t i := by
 refine ⟨t.fields[if t.kind = 6 then 0 else i], List.getElem_mem h, List.getElem?_eq_getElem h, ?_, ?_⟩
 ·unfold ft; rw [List.getElem?_eq_getElem h]; rfl
 ·unfold nd; rw [List.getElem?_eq_getElem h]; rfl
theorem oE {α : Type} {xs : List α} {i : Nat} {x : α} (h : xs[i]? = some x) : at? xs (i : Int) = some x := by unfold at?; simp [h]
theorem xA {v : ac} {i : Nat} (h : i < v.items.length) : iv v i ∈ v.items := by rw [← AP h]; exact List.getElem_mem h
theorem of_eq : ∀ (d k k' : Nat) (t : aq) (v : ac), Hv d v → V t → bO v < 1000000000 → gi t < 1000000000 → 4 * d + 1 ≤ k → d + 1 ≤ k' →
  mi k t v = some (zY d t v) ∧ fe k' t v = some (zY d t v) := by
 intro d
 induction d with
 | zero => intro k k' t v hs; exact hs.zero.elim
 | succ d ih =>
  intro k k' t v hs ht hv hT hk hk'
  obtain ⟨k, rfl⟩ : ∃ q, k = q + 4 := ⟨k - 4, by omega⟩
  obtain ⟨k', rfl⟩ : ∃ q, k' = q + 1 := ⟨k' - 1, by omega⟩
  obtain ⟨hp, hi⟩ := hs.succ
  have hsz := kM v
  have hlen := cP v.items
  have hsT := mD t
  have hlF := eg t.fields
  rw [mi, fe]
  simp only [zY, qW]
  by_cases h0 : v.kind = 0
  ·simp [h0, au]
  ·by_cases hkk : v.kind = t.kind
   ·have sc : v.kind ≠ 3 → v.scale = t.scale := fun h => by rw [Dx hp h, ht.scale (by omega)]
    -- the items
    have room : ¬ (v.kind = 7 ∧ t.fields.length ≠ v.items.length) → M5 t v := by
     intro hn i hi
     by_cases h6 : t.kind = 6
     ·rw [if_pos h6, ht.list h6]; omega
     ·rw [if_neg h6]
      by_cases h7 : v.kind = 7
      ·have : ¬ t.fields.length ≠ v.items.length := fun hh => hn ⟨h7, hh⟩
       omega
      ·rw [pQ hp (by omega) h7] at hi; simp at hi
    have sub : M5 t v → ∀ i, i < v.items.length → ∃ f : ah, t.fields[if t.kind = 6 then 0 else i]? = some f ∧ f.type = ft t i ∧ mi k (ft t i) (iv v i) = some (zY d (ft t i) (iv v i)) ∧ fe k' (ft t i) (iv v i) = some (zY d (ft t i) (iv v i)) := by
     intro hf i hi'
     obtain ⟨f, f1, f2, f3, _⟩ := Hd (hf i hi')
     have m1 := cY (xA hi')
     have m2 := fm f1
     have m3 := eM f
     rw [f3] at m3
     obtain ⟨a, b⟩ := ih k k' (ft t i) (iv v i) (hi _ (xA hi')) (by rw [← f3]; exact ht.fs f f1) (by omega) (by omega) (by omega) (by omega)
     exact ⟨f, f2, f3, a, b⟩
    have ref : M5 t v → eV (fe k') t v aV (0 : Int) = some (first (fun i => !zY d (ft t i) (iv v i)) 0 v.items.length).isNone := by
     intro hf
     have := ir (f := fun k i => eV (fe k') t v k (i : Int)) (n := v.items.length) (P := fun i => !zY d (ft t i) (iv v i)) (A := fun _ => some false) (B := some true) (fun kk i hi' => by
      obtain ⟨f, f2, f3, _, f5⟩ := sub hf i hi'
      simp only [eV, bn hi', af, rm]
      have e : aA (t.kind == (6 : Int)) (aD (at? t.fields (0 : Int)) fun e1 => aD (at? v.items (i : Int)) fun e2 => aD (fe k' e1.type e2) fun r1 => aA (!r1) (some false) (eV (fe k') t v kk (IntKind.i64.wrap ((i : Int) + 1))))
        (aD (at? t.fields (i : Int)) fun e1 => aD (at? v.items (i : Int)) fun e2 => aD (fe k' e1.type e2) fun r1 => aA (!r1) (some false) (eV (fe k') t v kk (IntKind.i64.wrap ((i : Int) + 1)))) =
        (aD (at? t.fields ((if t.kind = 6 then 0 else i : Nat) : Int)) fun e1 => aD (at? v.items (i : Int)) fun e2 => aD (fe k' e1.type e2) fun r1 => aA (!r1) (some false) (eV (fe k') t v kk (IntKind.i64.wrap ((i : Int) + 1)))) := by
       by_cases h6 : t.kind = 6 <;> simp [h6, au]
      rw [e, oE f2, am, aZ hi', am, f3, AP hi', f5, am, aG hi' (by omega), au]) (fun kk => by simp [eV, au, uz]) aV 0 (Nat.zero_le _) (by rw [aI]; omega)
     rw [show ((0 : Nat) : Int) = (0 : Int) from rfl] at this
     rw [this]
     cases first (fun i => !zY d (ft t i) (iv v i)) 0 v.items.length <;> rfl
    have e0 : (v.kind == (0 : Int)) = false := by simp [h0]
    have e1 : (v.kind != t.kind) = false := by simp [hkk]
    have e2 : ¬ v.kind ≠ t.kind := fun h => h hkk
    simp only [e0, e1, e2, ae, h0, if_false]
    by_cases h3 : v.kind = 3
    ·have hni : v.items = [] := pQ hp (by omega) (by omega)
     refine ⟨by simp [h3, au], ?_⟩
     have hr := ref (fun i hi => by rw [hni] at hi; simp at hi)
     rw [hni] at hr
     simp only [List.length_nil, iz, Option.isNone_none] at hr
     simp only [h3, if_true, mW]
     by_cases hsc : v.scale = t.scale
     ·have : t.kind ≠ 7 := by omega
      simp [hsc, au, hr, this]
     ·simp [hsc, au]
    ·have hsc := sc h3
     have e3 : (v.kind == (3 : Int)) = false := by simp [h3]
     have e4 : (v.scale != t.scale) = false := by simp [hsc]
     simp only [e3, e4, ae, h3, if_false]
     by_cases hl : v.kind = 7 ∧ t.fields.length ≠ v.items.length
     ·have e6 : (v.kind == (6 : Int)) = false := by simp [hl.1]
      have e7 : (v.kind == (7 : Int)) = true := by simp [hl.1]
      have t7 : (t.kind == (7 : Int)) = true := by rw [← hkk]; exact e7
      have n1 : ((t.fields.length : Int) != (v.items.length : Int)) = true := by simp; omega
      have n2 : ((v.items.length : Int) != (t.fields.length : Int)) = true := by simp; omega
      rw [aF]
      simp [e6, e7, t7, n1, n2, hl, af, ae, mW, am]
     ·have hf := room hl
      have hr := ref hf
      simp only [hl, if_false]
      refine ⟨?_, ?_⟩
      ·by_cases h6 : v.kind = 6
       ·have e6 : (v.kind == (6 : Int)) = true := by simp [h6]
        have t6 : t.kind = 6 := by omega
        have := ir (f := fun kk i => aH (jS (k + 1)) v.items t.kind t.scale t.fields kk (i : Int)) (n := v.items.length) (P := fun i => !zY d (ft t i) (iv v i)) (A := fun i => some (i : Int)) (B := some (-1)) (fun kk i hi' => by
         obtain ⟨f, f2, f3, f4, _⟩ := sub hf i hi'
         rw [if_pos t6] at f2
         simp only [aH, bn hi', af, aZ hi', am, jS]
         rw [show (0 : Int) = ((0 : Nat) : Int) from rfl, oE f2, am, f3, AP hi', f4, am, am, aG hi' (by omega), au]) (fun kk => by simp [aH, au, bV]) aV 0 (Nat.zero_le _) (by rw [aI]; omega)
        rw [show ((0 : Nat) : Int) = (0 : Int) from rfl] at this
        rw [e6, af, be, bh, this]
        cases first (fun i => !zY d (ft t i) (iv v i)) 0 v.items.length <;> simp [am]
       ·have e6 : (v.kind == (6 : Int)) = false := by simp [h6]
        by_cases h7 : v.kind = 7
        ·have e7 : (v.kind == (7 : Int)) = true := by simp [h7]
         have hlen' : t.fields.length = v.items.length := by
          by_cases hh : t.fields.length = v.items.length
          ·exact hh
          ·exact absurd ⟨h7, hh⟩ hl
         have n1 : ((t.fields.length : Int) != (v.items.length : Int)) = false := by simp; omega
         have := ir (f := fun kk i => aw (lS (k + 2)) t.fields v.items kk (i : Int)) (n := v.items.length) (P := fun i => !zY d (ft t i) (iv v i)) (A := fun _ => some false) (B := some true) (fun kk i hi' => by
          obtain ⟨f, f2, f3, _, _⟩ := sub hf i hi'
          obtain ⟨f', f1', f2', f3', _⟩ := Hd (hf i hi')
          have m1 := cY (xA hi')
          have m2 := fm f1'
          have m3 := eM f'
          rw [f3'] at m3
          have f4 := (ih (k + 1) (d + 1) (ft t i) (iv v i) (hi _ (xA hi')) (by rw [← f3']; exact ht.fs f' f1') (by omega) (by omega) (by omega) (by omega)).1
          rw [if_neg (by omega)] at f2
          have hi2 : i < t.fields.length := by omega
          simp only [aw, bn hi2, af, oE f2, am, lS]
          rw [aZ hi', am, f3, AP hi', f4, am, am, aG hi' (by omega), au]) (fun kk => by simp [aw, au, bi, hlen']) aV 0 (Nat.zero_le _) (by rw [aI]; omega)
         rw [show ((0 : Nat) : Int) = (0 : Int) from rfl] at this
         rw [e6, e7, ae, af, aF, n1, ae, this]
         cases first (fun i => !zY d (ft t i) (iv v i)) 0 v.items.length <;> rfl
        ·have e7 : (v.kind == (7 : Int)) = false := by simp [h7]
         rw [e6, e7, ae, ae, pQ hp h6 h7]
         simp [iz]
      ·have n2 : v.kind = 7 → ((v.items.length : Int) != (t.fields.length : Int)) = false := by
        intro h7
        have : ¬ t.fields.length ≠ v.items.length := fun hh => hl ⟨h7, hh⟩
        simp; omega
       simp only [mW]
       by_cases h7 : v.kind = 7
       ·have t7 : (t.kind == (7 : Int)) = true := by simp [← hkk, h7]
        rw [t7, af, n2 h7, ae]; exact hr
       ·have t7 : (t.kind == (7 : Int)) = false := by simp [← hkk, h7]
        rw [t7, ae, ae]; exact hr
   ·have e0 : (v.kind == (0 : Int)) = false := by simp [h0]
    have e1 : (v.kind != t.kind) = true := by simp [hkk]
    simp [e0, e1, h0, hkk, af, ae]
def ot : Nat → aq → ac → Bool
 | 0, _, _ => false
 | d + 1, t, v => (first (fun i => ((iv v i).kind == 0 && nd t i) || ot d (ft t i) (iv v i)) 0 v.items.length).isSome
theorem EU : ∀ (d k k' : Nat) (t : aq) (v : ac), Hv d v → V t → zY d t v = true → bO v < 1000000000 → gi t < 1000000000 → d + 1 ≤ k → d + 1 ≤ k' →
  fR k t v = some (ot d t v) ∧ cN k' t v = some (ot d t v) := by
 intro d
 induction d with
 | zero => intro k k' t v hs; exact hs.zero.elim
 | succ d ih =>
  intro k k' t v hs ht ho hv hT hk hk'
  obtain ⟨k, rfl⟩ : ∃ q, k = q + 1 := ⟨k - 1, by omega⟩
  obtain ⟨k', rfl⟩ : ∃ q, k' = q + 1 := ⟨k' - 1, by omega⟩
  obtain ⟨hp, hi⟩ := hs.succ
  obtain ⟨hf, hof⟩ := KN hs ht ho
  have hsz := kM v
  have hlen := cP v.items
  have hsT := mD t
  have sub : ∀ i, i < v.items.length → ∃ f : ah, t.fields[if t.kind = 6 then 0 else i]? = some f ∧ f.type = ft t i ∧ f.need = nd t i ∧ fR k (ft t i) (iv v i) = some (ot d (ft t i) (iv v i)) ∧ cN k' (ft t i) (iv v i) = some (ot d (ft t i) (iv v i)) := by
   intro i hi'
   obtain ⟨f, f1, f2, f3, f4⟩ := Hd (hf i hi')
   have m1 := cY (xA hi')
   have m2 := fm f1
   have m3 := eM f
   rw [f3] at m3
   obtain ⟨a, b⟩ := ih k k' (ft t i) (iv v i) (hi _ (xA hi')) (by rw [← f3]; exact ht.fs f f1) (hof i hi') (by omega) (by omega) (by omega) (by omega)
   exact ⟨f, f2, f3, f4, a, b⟩
  rw [fR, cN]
  simp only [ot]
  refine ⟨?_, ?_⟩
  ·have := ir (f := fun kk i => dE (fR k) t v kk (i : Int)) (n := v.items.length) (P := fun i => ((iv v i).kind == 0 && nd t i) || ot d (ft t i) (iv v i)) (A := fun _ => some true) (B := some false) (fun kk i hi' => by
    obtain ⟨f, f2, f3, f4, f5, _⟩ := sub i hi'
    have e : pV t (i : Int) = some f := by
     unfold pV mf
     by_cases h6 : t.kind = 6
     ·rw [if_pos h6] at f2
      rw [show (0 : Int) = ((0 : Nat) : Int) from rfl, oE f2]
      simp [h6, au, am]
     ·rw [if_neg h6] at f2
      rw [oE f2]
      simp [h6, au, am]
    simp only [dE, bn hi', af, aZ hi', am, e, kz, f3, f4, AP hi', f5, aG hi' (show v.items.length < 1000000000 by omega)]
    cases (iv v i).kind == 0 <;> cases nd t i <;> cases ot d (ft t i) (iv v i) <;> rfl) (fun kk => by simp [dE, au, pr]) aV 0 (Nat.zero_le _) (by rw [aI]; omega)
   rw [show ((0 : Nat) : Int) = (0 : Int) from rfl] at this
   rw [this]
   cases first (fun i => ((iv v i).kind == 0 && nd t i) || ot d (ft t i) (iv v i)) 0 v.items.length <;> rfl
  ·have := ir (f := fun kk i => cx (cN k') t v kk (i : Int)) (n := v.items.length) (P := fun i => ((iv v i).kind == 0 && nd t i) || ot d (ft t i) (iv v i)) (A := fun _ => some true) (B := some false) (fun kk i hi' => by
    obtain ⟨f, f2, f3, f4, _, f5⟩ := sub i hi'
    have e : ∀ j : Int, at? t.fields j = some f → jU (cx (cN k') t v kk) (cN k') t v (i : Int) j = if (((iv v i).kind == 0 && nd t i) || ot d (ft t i) (iv v i)) = true then some true else cx (cN k') t v kk ((i + 1 : Nat) : Int) := by
     intro j hj
     simp only [jU, jX, hj, am, aZ hi', f3, f4, AP hi', f5, aG hi' (show v.items.length < 1000000000 by omega)]
     cases (iv v i).kind == 0 <;> cases nd t i <;> cases ot d (ft t i) (iv v i) <;> rfl
    simp only [cx, bn hi', af]
    by_cases h6 : t.kind = 6
    ·rw [if_pos h6] at f2
     have e6 : (t.kind == (6 : Int)) = true := by simp [h6]
     rw [e6, af]
     exact e 0 (oE f2)
    ·rw [if_neg h6] at f2
     have e6 : (t.kind == (6 : Int)) = false := by simp [h6]
     rw [e6, ae]
     exact e i (oE f2)) (fun kk => by simp [cx, au, n8]) aV 0 (Nat.zero_le _) (by rw [aI]; omega)
   rw [show ((0 : Nat) : Int) = (0 : Int) from rfl] at this
   rw [this]
   cases first (fun i => ((iv v i).kind == 0 && nd t i) || ot d (ft t i) (iv v i)) 0 v.items.length <;> rfl
theorem Cc (t : aq) (v : ac) (hv : bO v < 1000000000) (hT : gi t < 1000000000) : ∃ e, jF t v = some e ∧ pC t v = some e := by
 obtain ⟨e, h1, h2, h3⟩ := checkType_eq t hT
 unfold jF pC
 rw [h1, h2, xp v hv, BO v hv]
 simp only [am]
 by_cases he : e = 0
 ·subst he
  have ht := h3 rfl
  cases hs : jM v with
  | false => exact ⟨1, rfl, rfl⟩
  | true =>
   have hS : Hv 4 v := ⟨0, hs⟩
   obtain ⟨a, b⟩ := of_eq 4 aV aV t v hS ht hv hT (by rw [aI]; omega) (by rw [aI]; omega)
   rw [a, b]
   cases ho : zY 4 t v with
   | false => exact ⟨2, rfl, rfl⟩
   | true =>
    obtain ⟨c, d⟩ := EU 4 aV aV t v hS ht ho hv hT (by rw [aI]; omega) (by rw [aI]; omega)
    rw [c, d]
    cases ot 4 t v with
    | false => exact ⟨0, rfl, rfl⟩
    | true => exact ⟨9, rfl, rfl⟩
 ·have : (e != (0 : Int)) = true := by simp [he]
  rw [this]
  exact ⟨e, rfl, rfl⟩
end Go.Proofs.YtbfekiekbifgcaaGreatDoor.Rw
namespace Go.Proofs.YtbfekiekbifgcaaGreatDoor.Rw
open Go Go.SX Go.SX.Cal
theorem DN {l : List ah} {i : Nat} (h : i < l.length) : sizeF (l.drop i) = kL l[i] + sizeF (l.drop (i + 1)) := by
 rw [List.drop_eq_getElem_cons h]; simp only [sizeF]
theorem Cj : aV = 1152921504606846975 + 1 := rfl
end Go.Proofs.YtbfekiekbifgcaaGreatDoor.Rw
namespace Go.Proofs.YtbfekiekbifgcaaGreatDoor.Rw
open Go Go.SX Go.SX.Cal
end Go.Proofs.YtbfekiekbifgcaaGreatDoor.Rw
namespace Go.Proofs.YtbfekiekbifgcaaGreatDoor.Rw
open Go Go.SX Go.SX.Cal
mutual
def G0 : aq → List Int
 | ⟨_, _, fs⟩ => jA fs
def jA : List (fQ aq) → List Int
 | [] => []
 | f :: l => zS f ++ jA l
def zS : fQ aq → List Int
 | ⟨i, _, _, t⟩ => i :: G0 t
end
theorem I2 : ∀ t : aq, G0 t = jA t.fields
 | ⟨_, _, _⟩ => by simp only [G0]
theorem qn : ∀ f : ah, zS f = f.id :: jA f.type.fields
 | ⟨_, _, _, t⟩ => by simp only [zS, I2]
theorem zO {l : List ah} {i : Nat} (h : i < l.length) : jA (l.drop i) = zS l[i] ++ jA (l.drop (i + 1)) := by
 rw [List.drop_eq_getElem_cons h]; simp only [jA]
mutual
theorem G9 : ∀ t : aq, (G0 t).length ≤ gi t
 | ⟨_, _, fs⟩ => by simp only [G0, gi]; have := tk fs; omega
theorem tk : ∀ l : List (fQ aq), (jA l).length ≤ sizeF l
 | [] => by simp [jA]
 | f :: l => by
  simp only [jA, sizeF, List.length_append]
  have := F3 f
  have := tk l
  omega
theorem F3 : ∀ f : fQ aq, (zS f).length ≤ kL f
 | ⟨i, n, q, t⟩ => by
  simp only [zS, kL, List.length_cons]
  have := G9 t
  omega
end
theorem Ko : ∀ (N k : Nat) (fs : List ah), sizeF fs ≤ N → N < k → sizeF fs < 1000000000 → lC k fs = some (jA fs) := by
 intro N
 induction N with
 | zero =>
  intro k fs h hk _
  obtain ⟨k, rfl⟩ : ∃ x, k = x + 1 := ⟨k - 1, by omega⟩
  have hl := eg fs
  have : fs = [] := List.eq_nil_of_length_eq_zero (by omega)
  subst this
  rw [lC, Cj, jG]
  rfl
 | succ N ih =>
  intro k fs hN hk hs
  obtain ⟨k, rfl⟩ : ∃ x, k = x + 1 := ⟨k - 1, by omega⟩
  have hl := eg fs
  rw [lC]
  have loop : ∀ (kk i : Nat) (acc : List Int), i ≤ fs.length → fs.length - i < kk → acc.length + sizeF (fs.drop i) ≤ sizeF fs → jG (lC k) fs kk acc (i : Int) = some (acc ++ jA (fs.drop i)) := by
   intro kk
   induction kk with
   | zero => intro i acc _ h; omega
   | succ kk ihk =>
    intro i acc hi hk2 hacc
    rw [jG]
    by_cases h : i = fs.length
    ·subst h
     simp only [Int.lt_irrefl, decide_false, ae, sS, List.drop_length, jA, List.append_nil]
    ·have h1 : i < fs.length := by omega
     have m1 := fm (List.getElem_mem h1)
     have m2 := eM fs[i]
     have m3 := mD fs[i].type
     have m4 := DN h1
     have m5 := tk fs[i].type.fields
     rw [bn h1, af, aZ h1, ar, aJ (by omega), ih k _ (by omega) (by omega) (by omega), ar, aJ (by simp; omega), aG h1 (by omega)]
     rw [ihk (i + 1) _ (by omega) (by omega) (by simp; omega), zO h1, qn]
     simp
  have := loop aV 0 [] (Nat.zero_le _) (by rw [aI]; omega) (by simp)
  simpa using this
def Cb (x : Int) (m : List (Int × Int)) : Int × List (Int × Int) :=
 if x < 1 then (3, m) else
  let y := IntKind.i64.wrap ((kh (gN .i64) m x).getD 0 + 1)
  if 1 < (kh (gN .i64) (ke (gN .i64) m x y) x).getD 0 then (5, ke (gN .i64) m x y) else (0, ke (gN .i64) m x y)
def scan : List Int → List (Int × Int) → Int × List (Int × Int)
 | [], m => (0, m)
 | x :: l, m => if (Cb x m).1 ≠ 0 then Cb x m else scan l (Cb x m).2
theorem CJ : ∀ (a b : List Int) (m : List (Int × Int)), scan (a ++ b) m = if (scan a m).1 ≠ 0 then scan a m else scan b (scan a m).2
 | [], b, m => by simp [scan]
 | x :: a, b, m => by
  simp only [List.cons_append, scan]
  by_cases h : (Cb x m).1 = 0
  ·simp only [h, ne_eq, not_true, if_false]
   exact CJ a b _
  ·simp [h]
theorem EG (f : ah) (m : List (Int × Int)) : gn f m = some (Cb f.id m) := by
 unfold gn Cb
 simp only [ar, au, decide_eq_true_eq]
 split
 ·rfl
 ·split <;> rfl
theorem FF : ∀ (N k : Nat) (fs : List ah) (m : List (Int × Int)), sizeF fs ≤ N → N < k → sizeF fs < 1000000000 → aW k fs m = some (scan (jA fs) m) := by
 intro N
 induction N with
 | zero =>
  intro k fs m h hk _
  obtain ⟨k, rfl⟩ : ∃ x, k = x + 1 := ⟨k - 1, by omega⟩
  have hl := eg fs
  have : fs = [] := List.eq_nil_of_length_eq_zero (by omega)
  subst this
  rw [aW, Cj, bc]
  rfl
 | succ N ih =>
  intro k fs m hN hk hs
  obtain ⟨k, rfl⟩ : ∃ x, k = x + 1 := ⟨k - 1, by omega⟩
  have hl := eg fs
  rw [aW]
  have loop : ∀ (kk i : Nat) (m : List (Int × Int)), i ≤ fs.length → fs.length - i < kk → bc (aW k) fs kk m (i : Int) = some (scan (jA (fs.drop i)) m) := by
   intro kk
   induction kk with
   | zero => intro i m _ h; omega
   | succ kk ihk =>
    intro i m hi hk2
    rw [bc]
    by_cases h : i = fs.length
    ·subst h
     simp only [Int.lt_irrefl, decide_false, ae, dX, List.drop_length, jA, scan]
    ·have h1 : i < fs.length := by omega
     have m1 := fm (List.getElem_mem h1)
     have m2 := eM fs[i]
     have m3 := mD fs[i].type
     rw [bn h1, af, aZ h1, ar, EG, ar, aG h1 (by omega), zO h1, qn, List.cons_append, scan, ih k _ _ (by omega) (by omega) (by omega)]
     simp only [ar, au]
     by_cases h0 : (Cb fs[i].id m).1 = 0
     ·simp only [h0, bne_self_eq_false, Bool.false_eq_true, if_false, ne_eq, not_true, CJ]
      by_cases h2 : (scan (jA fs[i].type.fields) (Cb fs[i].id m).2).1 = 0
      ·simp only [h2, bne_self_eq_false, Bool.false_eq_true, if_false, not_true]
       exact ihk (i + 1) _ (by omega) (by omega)
      ·simp [h2]
     ·simp [h0]
  have := loop aV 0 m (Nat.zero_le _) (by rw [aI]; omega)
  simpa using this
end Go.Proofs.YtbfekiekbifgcaaGreatDoor.Rw
namespace Go.Proofs.YtbfekiekbifgcaaGreatDoor.Rw
open Go Go.SX Go.SX.Cal
abbrev KI : Kz Int := gN .i64
theorem pX : ∀ (m : List (Int × Int)) (k v : Int), kh KI (ke KI m k v) k = some v
 | [], k, v => by simp [ke, kh, gN]
 | (k', v') :: l, k, v => by
  by_cases h : k = k'
  ·simp [ke, kh, gN, h]
  ·have hb : (k == k') = false := by simpa using h
   have := pX l k v
   simp only [ke, kh, gN, hb, Bool.false_eq_true, if_false] at this ⊢
   exact this
theorem sy : ∀ (m : List (Int × Int)) (k v x : Int), x ≠ k → kh KI (ke KI m k v) x = kh KI m x
 | [], k, v, x, hx => by simp [ke, kh, gN, hx]
 | (k', v') :: l, k, v, x, hx => by
  by_cases h : k = k'
  ·subst h
   simp [ke, kh, gN, hx]
  ·have hb : (k == k') = false := by simpa using h
   have := sy l k v x hx
   simp only [ke, kh, gN, hb, Bool.false_eq_true, if_false] at this ⊢
   rw [this]
def MQ (m : List (Int × Int)) (seen : List Int) : Prop := ∀ x, (kh KI m x).getD 0 = if x ∈ seen then 1 else 0
theorem HR {m : List (Int × Int)} {seen : List Int} (h : MQ m seen) (x : Int) : (Cb x m).1 = (if x < 1 then 3 else if x ∈ seen then 5 else 0) ∧ ((Cb x m).1 = 0 → MQ (Cb x m).2 (seen ++ [x])) := by
 unfold Cb
 have hx := h x
 by_cases h1 : x < 1
 ·simp [h1]
 ·simp only [h1, if_false]
  have e : (kh (gN .i64) m x).getD 0 = if x ∈ seen then 1 else 0 := hx
  rw [e]
  by_cases h2 : x ∈ seen
  ·simp only [h2, if_true]
   rw [show IntKind.i64.wrap (1 + 1) = 2 from fi (by omega) (by omega)]
   have := pX m x 2
   simp only [KI] at this
   simp [this]
  ·simp only [h2, if_false]
   rw [show IntKind.i64.wrap (0 + 1) = 1 from fi (by omega) (by omega)]
   have h3 := pX m x 1
   simp only [KI] at h3
   simp only [h3, Option.getD_some, Int.lt_irrefl, if_false, true_and]
   intro _ y
   by_cases hy : y = x
   ·subst hy
    simp [KI, h3]
   ·have h4 := sy m x 1 y hy
    simp only [KI] at h4
    have h5 := h y
    simp only [KI] at h5 ⊢
    rw [h4, h5]
    simp [hy]
theorem Gq (ids : List Int) (hl : ids.length < 1000000000) (rec1 : Int → Option Int) {i : Nat} (hi : i < ids.length) : bJ rec1 ids (i : Int) ids[i] aV (0 : Int) = if ids[i] ∈ ids.take i then some 5 else rec1 ((i + 1 : Nat) : Int) := by
 have hs := ir (f := fun k j => bJ rec1 ids (i : Int) ids[i] k (j : Int)) (n := i) (P := fun j => ids[j]? == some ids[i]) (A := fun j => some 5) (B := rec1 ((i + 1 : Nat) : Int)) (fun k j hj => by
   have hjf : j < ids.length := by omega
   show bJ rec1 ids (i : Int) ids[i] (k + 1) (j : Int) = _
   rw [bJ, bn hj, af, aZ hjf, aG hj (by omega)]
   simp only [ar, au, List.getElem?_eq_getElem hjf, Option.some_beq_some])
  (fun k => by
   show bJ rec1 ids (i : Int) ids[i] (k + 1) (i : Int) = _
   rw [bJ]; simp only [Int.lt_irrefl, decide_false, ae, lq]; rw [aG hi hl]) aV 0 (Nat.zero_le _) (by rw [aI]; omega)
 have hs : bJ rec1 ids (i : Int) ids[i] aV (0 : Int) = _ := hs
 rw [hs]
 cases hf : first (fun j => ids[j]? == some ids[i]) 0 i with
 | none =>
  rw [kx] at hf
  have : ids[i] ∉ ids.take i := by
   intro hm
   obtain ⟨j, hj, he⟩ := List.getElem_of_mem hm
   have hj' : j < i := by simp at hj; omega
   have := hf j (Nat.zero_le _) hj'
   rw [List.getElem_take] at he
   simp [List.getElem?_eq_getElem (show j < ids.length by omega), he] at this
  simp [this]
 | some j =>
  have : ids[i] ∈ ids.take i := by
   unfold first at hf
   have h1 := List.find?_some hf
   have h2 := List.mem_of_find?_eq_some hf
   rw [List.mem_range'_1] at h2
   have hjl : j < ids.length := by omega
   simp only [List.getElem?_eq_getElem hjl, Option.some_beq_some, beq_iff_eq] at h1
   rw [← h1]
   exact List.mem_iff_getElem.2 ⟨j, by simp; omega, by simp⟩
  simp [this]
theorem Dr (ids : List Int) (hl : ids.length < 1000000000) : ∀ (kk i : Nat) (m : List (Int × Int)), i ≤ ids.length → ids.length - i < kk → MQ m (ids.take i) → cw ids kk (i : Int) = some (scan (ids.drop i) m).1 := by
 intro kk
 induction kk with
 | zero => intro i m _ h; omega
 | succ kk ih =>
  intro i m hi hk hm
  rw [cw]
  by_cases h : i = ids.length
  ·subst h
   simp only [Int.lt_irrefl, decide_false, ae, List.drop_length, scan]
   rfl
  ·have h1 : i < ids.length := by omega
   rw [bn h1, af, aZ h1, ar, Gq ids hl _ h1, List.drop_eq_getElem_cons h1, scan]
   obtain ⟨g1, g2⟩ := HR hm ids[i]
   rw [g1] at g2 ⊢
   simp only [au, decide_eq_true_eq]
   by_cases h2 : ids[i] < 1
   ·simp [h2, g1]
   ·by_cases h3 : ids[i] ∈ ids.take i
    ·simp [h2, h3, g1]
    ·simp only [h2, h3, if_false, ne_eq, not_true]
     simp only [h2, h3, if_false] at g2
     refine ih (i + 1) _ (by omega) (by omega) ?_
     have := g2 trivial
     rwa [List.take_append_getElem h1] at this
theorem As (fs : List ah) (hs : sizeF fs < 1000000000 - 1) : ∃ e, ec fs = some e ∧ jm fs = some e := by
 obtain ⟨e, h1, h2, h3⟩ := checkType_eq ⟨7, 0, fs⟩ (by simp only [gi]; omega)
 unfold ec jm
 rw [h1, h2]
 simp only [ar, au]
 by_cases he : e = 0
 ·have w := FF 1000000000 aV fs [] (by omega) (by rw [aI]; omega) (by omega)
  have i := Ko 1000000000 aV fs (by omega) (by rw [aI]; omega) (by omega)
  have hl := tk fs
  have l := Dr (jA fs) (by omega) aV 0 [] (Nat.zero_le _) (by rw [aI]; omega) (fun x => by simp [kh])
  have l : cw (jA fs) aV (0 : Int) = _ := l
  refine ⟨(scan (jA fs) []).1, ?_, ?_⟩
  ·simp [he, w, ar]
  ·simp [he, i, ar, l]
 ·exact ⟨e, by simp [he], by simp [he]⟩
end Go.Proofs.YtbfekiekbifgcaaGreatDoor.Rw
namespace Go.Proofs.YtbfekiekbifgcaaGreatDoor.Rw
open Go Go.SX Go.SX.Cal
theorem ry {α β : Type} (a : α) (f : α → Option β) : aD (some a) f = f a := rfl
theorem qO {β : Type} (x y : Option β) : aA true x y = x := rfl
theorem pq {β : Type} (x y : Option β) : aA false x y = y := rfl
theorem L0 {β : Type} {p : Prop} [Decidable p] {x : Option β} (h : p) : eZ p x = x := if_pos h
theorem gw {m f : Nat} (h : m < f) : ∃ q, f = q + 1 := ⟨f - 1, by omega⟩
theorem Bk {i n : Nat} (h : ¬ i < n) : decide ((i : Int) < (n : Int)) = false := by simp; omega
theorem tK {α : Type} {l : List α} {i : Nat} (hi : i < l.length) : l.drop i = l[i] :: l.drop (i + 1) := List.drop_eq_getElem_cons hi
noncomputable def ck (t : aq) (v : ac) : Int := (jF t v).getD 0
theorem ck_c {t : aq} {v : ac} (hv : bO v < 1000000000) (hT : gi t < 1000000000) : jF t v = some (ck t v) := by
 obtain ⟨e, h1, _⟩ := Cc t v hv hT
 unfold ck; rw [h1]; rfl
theorem Nk {t : aq} {v : ac} (hv : bO v < 1000000000) (hT : gi t < 1000000000) : pC t v = some (ck t v) := by
 obtain ⟨e, h1, h2⟩ := Cc t v hv hT
 unfold ck; rw [h1, h2]; rfl
noncomputable def rowF : List ah → List ac → Int
 | f :: fs, v :: vs => if ck f.type v ≠ 0 then ck f.type v else if f.need = true ∧ v.kind = 0 then 9 else rowF fs vs
 | _, _ => 0
theorem Dk {f : ah} {fs : List ah} {v : ac} {vs : List ac} (h : ck f.type v ≠ 0) : rowF (f :: fs) (v :: vs) = ck f.type v := by simp only [rowF]; rw [if_pos h]
theorem Ax {f : ah} {fs : List ah} {v : ac} {vs : List ac} (h : ck f.type v = 0) (h2 : f.need = true ∧ v.kind = 0) : rowF (f :: fs) (v :: vs) = 9 := by simp only [rowF]; rw [if_neg (fun k => k h), if_pos h2]
theorem yw {f : ah} {fs : List ah} {v : ac} {vs : List ac} (h : ck f.type v = 0) (h2 : ¬ (f.need = true ∧ v.kind = 0)) : rowF (f :: fs) (v :: vs) = rowF fs vs := by simp only [rowF]; rw [if_neg (fun k => k h), if_neg h2]
theorem EX {fs : List ah} (h : sizeF fs < 1000000000) {i : Nat} (hi : i < fs.length) : gi fs[i].type < 1000000000 := by
 have := fm (List.getElem_mem hi)
 have := eM fs[i]
 omega
theorem Cy {r : List ac} (h : sizeL r < 1000000000) {i : Nat} (hi : i < r.length) : bO r[i] < 1000000000 := by
 have := cY (List.getElem_mem hi)
 omega
theorem Mu {fs : List ah} {r : List ac} (hf : sizeF fs < 1000000000) (hr : sizeL r < 1000000000) (hl : r.length = fs.length) (rec1 : Int → Option Int) (x1 : Int) : ∀ (m f i : Nat), i + m = fs.length → m < f →
  cu rec1 fs x1 r f (i : Int) = if rowF (fs.drop i) (r.drop i) ≠ 0 then some (rowF (fs.drop i) (r.drop i)) else jc rec1 x1 := by
 have hfl := eg fs
 intro m
 induction m with
 | zero =>
  intro f i hi hf'
  obtain ⟨f, rfl⟩ := gw hf'
  rw [cu, Bk (by omega), pq, List.drop_of_length_le (l := fs) (by omega)]
  simp [rowF]
 | succ m ih =>
  intro f i hi hf'
  obtain ⟨f, rfl⟩ := gw hf'
  have h1 : i < fs.length := by omega
  have h2 : i < r.length := by omega
  rw [cu, bn h1, qO, aZ h1, ry, aZ h2, ry, ck_c (Cy hr h2) (EX hf h1), ry, tK h1, tK h2]
  unfold jb
  by_cases he : ck fs[i].type r[i] = 0
  ·by_cases hk : r[i].kind = 0
   ·cases hn : fs[i].need with
    | true => rw [Ax he ⟨hn, hk⟩, he, show ((0 : Int) != 0) = false from rfl, pq, show (r[i].kind == 0) = true by simp [hk], qO, qO, if_pos (by decide)]
    | false => rw [yw he (by simp [hn]), he, show ((0 : Int) != 0) = false from rfl, pq, show (r[i].kind == 0) = true by simp [hk], qO, pq, aG h1 (by omega), ih f (i + 1) (by omega) (by omega)]
   ·rw [yw he (fun h => hk h.2), he, show ((0 : Int) != 0) = false from rfl, pq, show (r[i].kind == 0) = false by simp [hk], pq, pq, aG h1 (by omega), ih f (i + 1) (by omega) (by omega)]
  ·rw [Dk he, show (ck fs[i].type r[i] != 0) = true by simp [he], qO, if_pos he]
theorem My {fs : List ah} {r : List ac} (hf : sizeF fs < 1000000000) (hr : sizeL r < 1000000000) (hl : r.length = fs.length) : ∀ (m f i : Nat), i + m = fs.length → m < f →
  dn fs r f (i : Int) = some (rowF (fs.drop i) (r.drop i)) := by
 have hfl := eg fs
 intro m
 induction m with
 | zero =>
  intro f i hi hf'
  obtain ⟨f, rfl⟩ := gw hf'
  rw [dn, Bk (by omega), pq, List.drop_of_length_le (l := fs) (by omega)]
  simp [rowF, nq]
 | succ m ih =>
  intro f i hi hf'
  obtain ⟨f, rfl⟩ := gw hf'
  have h1 : i < fs.length := by omega
  have h2 : i < r.length := by omega
  rw [dn, bn h1, qO, aZ h1, ry, aZ h2, ry, Nk (Cy hr h2) (EX hf h1), ry, tK h1, tK h2]
  unfold kQ
  by_cases he : ck fs[i].type r[i] = 0
  ·cases hn : fs[i].need with
   | true =>
    by_cases hk : r[i].kind = 0
    ·rw [Ax he ⟨hn, hk⟩, he, show ((0 : Int) != 0) = false from rfl, pq, qO, show (r[i].kind == 0) = true by simp [hk], qO]
    ·rw [yw he (fun h => hk h.2), he, show ((0 : Int) != 0) = false from rfl, pq, qO, show (r[i].kind == 0) = false by simp [hk], pq, aG h1 (by omega), ih f (i + 1) (by omega) (by omega)]
   | false => rw [yw he (by simp [hn]), he, show ((0 : Int) != 0) = false from rfl, pq, pq, pq, aG h1 (by omega), ih f (i + 1) (by omega) (by omega)]
  ·rw [Dk he, show (ck fs[i].type r[i] != 0) = true by simp [he], qO]
noncomputable def vQ (fs : List ah) : List (List ac) → Int
 | r :: rs => if r.length ≠ fs.length then 1 else if rowF fs r ≠ 0 then rowF fs r else vQ fs rs
 | [] => 0
theorem Ks {fs : List ah} {rows : List (List ac)} (hf : sizeF fs < 1000000000) (hr : ∀ r ∈ rows, sizeL r < 1000000000) (hl : rows.length < 1000000000) : ∀ (m f i : Nat), i + m = rows.length → m < f →
  bK fs rows f (i : Int) = some (vQ fs (rows.drop i)) := by
 intro m
 induction m with
 | zero =>
  intro f i hi hf'
  obtain ⟨f, rfl⟩ := gw hf'
  rw [bK, Bk (by omega), pq, List.drop_of_length_le (by omega)]; rfl
 | succ m ih =>
  intro f i hi hf'
  obtain ⟨f, rfl⟩ := gw hf'
  have h1 : i < rows.length := by omega
  rw [bK, bn h1, qO, aZ h1, ry, tK h1]
  simp only [vQ]
  by_cases hle : rows[i].length = fs.length
  ·have hc := Mu hf (hr _ (List.getElem_mem h1)) hle (bK fs rows f) (i : Int) fs.length aV 0 (by omega) (by have := eg fs; rw [aI]; omega)
   rw [show ((0 : Nat) : Int) = 0 from rfl, List.drop_zero, List.drop_zero] at hc
   rw [show (((rows[i].length : Nat) : Int) != (fs.length : Int)) = false by simp [hle], pq, hc, if_neg (show ¬ rows[i].length ≠ fs.length from fun h => h hle)]
   unfold jc
   by_cases h0 : rowF fs rows[i] = 0
   ·rw [if_neg (fun h => h h0), if_neg (fun h => h h0), aG h1 hl, ih f (i + 1) (by omega) (by omega)]
   ·rw [if_pos h0, if_pos h0]
  ·rw [show (((rows[i].length : Nat) : Int) != (fs.length : Int)) = true by simp; omega, qO, if_pos hle]
theorem KZ {fs : List ah} {rows : List (List ac)} (hf : sizeF fs < 1000000000) (hr : ∀ r ∈ rows, sizeL r < 1000000000) (hl : rows.length < 1000000000) : ∀ (m f i : Nat), i + m = rows.length → m < f →
  eb fs rows f (i : Int) = some (vQ fs (rows.drop i)) := by
 intro m
 induction m with
 | zero =>
  intro f i hi hf'
  obtain ⟨f, rfl⟩ := gw hf'
  rw [eb, Bk (by omega), pq, List.drop_of_length_le (by omega)]; rfl
 | succ m ih =>
  intro f i hi hf'
  obtain ⟨f, rfl⟩ := gw hf'
  have h1 : i < rows.length := by omega
  rw [eb, bn h1, qO, aZ h1, ry, tK h1]
  simp only [vQ]
  unfold qg
  by_cases hle : rows[i].length = fs.length
  ·have hc := My hf (hr _ (List.getElem_mem h1)) hle fs.length aV 0 (by omega) (by have := eg fs; rw [aI]; omega)
   rw [show ((0 : Nat) : Int) = 0 from rfl, List.drop_zero, List.drop_zero] at hc
   rw [show (((rows[i].length : Nat) : Int) != (fs.length : Int)) = false by simp [hle], pq, hc, ry, if_neg (fun h => h hle)]
   by_cases h0 : rowF fs rows[i] = 0
   ·rw [h0, show ((0 : Int) != 0) = false from rfl, pq, if_neg (fun h => h rfl), aG h1 hl, ih f (i + 1) (by omega) (by omega)]
   ·rw [show (rowF fs rows[i] != 0) = true by simp [h0], qO, if_pos h0]
  ·rw [show (((rows[i].length : Nat) : Int) != (fs.length : Int)) = true by simp; omega, qO, ry, if_pos hle]; rfl
def sc (fs : List ah) : Int := (ec fs).getD 0
theorem Mk {fs : List ah} (h : sizeF fs < 1000000000 - 1) : ec fs = some (sc fs) := by
 obtain ⟨e, h1, _⟩ := As fs h
 unfold sc; rw [h1]; rfl
theorem Nm {fs : List ah} (h : sizeF fs < 1000000000 - 1) : jm fs = some (sc fs) := by
 obtain ⟨e, h1, h2⟩ := As fs h
 unfold sc; rw [h1, h2]; rfl
noncomputable def crF (fs : List ah) (rows : List (List ac)) : Int := if sc fs ≠ 0 then sc fs else if 2000 < rows.length then 7 else vQ fs rows
theorem c_CheckRows {fs : List ah} {rows : List (List ac)} (hf : sizeF fs < 1000000000 - 1) (hr : ∀ r ∈ rows, sizeL r < 1000000000) (hl : rows.length < 1000000000) : jk fs rows = some (crF fs rows) := by
 unfold jk crF
 rw [Mk hf, ry]
 by_cases h : sc fs = 0
 ·rw [h, show ((0 : Int) != 0) = false from rfl, pq, if_neg (fun h => h rfl)]
  by_cases h2 : 2000 < rows.length
  ·rw [decide_eq_true (by omega), qO, if_pos h2]
  ·have hc := Ks (fs := fs) (by omega) hr hl rows.length aV 0 (by omega) (by rw [aI]; omega)
   rw [show ((0 : Nat) : Int) = 0 from rfl, List.drop_zero] at hc
   rw [decide_eq_false (by omega), pq, hc, if_neg h2]
 ·rw [show (sc fs != 0) = true by simp [h], qO, if_pos h]
theorem r_CheckRows {fs : List ah} {rows : List (List ac)} (hf : sizeF fs < 1000000000 - 1) (hr : ∀ r ∈ rows, sizeL r < 1000000000) (hl : rows.length < 1000000000) : kE fs rows = some (crF fs rows) := by
 unfold kE crF
 rw [Nm hf, ry]
 by_cases h : sc fs = 0
 ·rw [h, show ((0 : Int) != 0) = false from rfl, pq, if_neg (fun h => h rfl)]
  by_cases h2 : 2000 < rows.length
  ·rw [decide_eq_true (by omega), qO, if_pos h2]
  ·have hc := KZ (fs := fs) (by omega) hr hl rows.length aV 0 (by omega) (by rw [aI]; omega)
   rw [show ((0 : Nat) : Int) = 0 from rfl, List.drop_zero] at hc
   rw [decide_eq_false (by omega), pq, hc, if_neg h2]
 ·rw [show (sc fs != 0) = true by simp [h], qO, if_pos h]
theorem rowF_at : ∀ {fs : List ah} {r : List ac}, rowF fs r = 0 → ∀ (i : Nat) f v, fs[i]? = some f → r[i]? = some v → ck f.type v = 0 ∧ ¬ (f.need = true ∧ v.kind = 0)
 | [], _, _, i, f, v, h1, _ => by simp at h1
 | _ :: _, [], _, i, f, v, _, h2 => by simp at h2
 | g :: fs, x :: r, h, i, f, v, h1, h2 => by
  simp only [rowF] at h
  by_cases ha : ck g.type x = 0
  ·rw [if_neg (fun h => h ha)] at h
   by_cases hb : g.need = true ∧ x.kind = 0
   ·rw [if_pos hb] at h; cases h
   ·rw [if_neg hb] at h
    cases i with
    | zero => simp at h1 h2; subst h1; subst h2; exact ⟨ha, hb⟩
    | succ i => exact rowF_at h i f v (by simpa using h1) (by simpa using h2)
  ·rw [if_pos ha] at h; exact absurd h ha
theorem rowsF_at {fs : List ah} : ∀ {rows : List (List ac)}, vQ fs rows = 0 → ∀ r ∈ rows, r.length = fs.length ∧ rowF fs r = 0
 | [], _, r, h => by cases h
 | x :: rows, h, r, hr => by
  simp only [vQ] at h
  by_cases ha : x.length = fs.length
  ·rw [if_neg (fun h => h ha)] at h
   by_cases hb : rowF fs x = 0
   ·rw [if_neg (fun h => h hb)] at h
    rcases List.mem_cons.1 hr with rfl | hr
    ·exact ⟨ha, hb⟩
    ·exact rowsF_at h r hr
   ·rw [if_pos hb] at h; exact absurd h hb
  ·rw [if_pos ha] at h; cases h
end Go.Proofs.YtbfekiekbifgcaaGreatDoor.Rw
namespace Go.Proofs.YtbfekiekbifgcaaGreatDoor.Rw
open Go Go.SX Go.SX.Cal
def Ot (f : ah) : Bool := decide (f.type.kind ≠ 6 ∧ f.type.kind ≠ 7)
abbrev ML := List (ah × Nat)
def AM (p : tV) (f : ah) (i : Nat) : tV :=
 ⟨⟨p.leaf.path ++ [f.id], if Ot f = true then f.type else p.leaf.type, p.leaf.df + (if f.need = true then 0 else 1) + (if f.type.kind = 6 then 1 else 0), p.leaf.rep + (if f.type.kind = 6 then 1 else 0)⟩, p.fields ++ [f], p.pos ++ [(i : Int)]⟩
structure Ay (p : tV) (n : Nat) : Prop where
 a : p.fields.length + n ≤ 1000000000
 b : p.pos.length + n ≤ 1000000000
 c : p.leaf.path.length + n ≤ 1000000000
 d : 0 ≤ p.leaf.df ∧ p.leaf.df + 2 * n ≤ 1000000000
 e : 0 ≤ p.leaf.rep ∧ p.leaf.rep + n ≤ 1000000000
theorem Ay.step {p : tV} {n : Nat} (h : Ay p (n + 1)) (f : ah) (i : Nat) : Ay (AM p f i) n := by
 have := h.d
 have := h.e
 refine ⟨by simp [AM]; have := h.a; omega, by simp [AM]; have := h.b; omega, by simp [AM]; have := h.c; omega, ?_, ?_⟩
 ·simp only [AM]; split <;> split <;> omega
 ·simp only [AM]; split <;> omega
theorem Ay.le {p : tV} {n m : Nat} (h : Ay p n) (hm : m ≤ n) : Ay p m :=
 ⟨by have := h.a; omega, by have := h.b; omega, by have := h.c; omega, by have := h.d; omega, by have := h.e; omega⟩
def p0 : tV := ⟨⟨[], ⟨0, 0, []⟩, 0, 0⟩, [], []⟩
end Go.Proofs.YtbfekiekbifgcaaGreatDoor.Rw
namespace Go.Proofs.YtbfekiekbifgcaaGreatDoor.Rw
open Go Go.SX Go.SX.Cal
abbrev L2 := Int × Int × Option ac
def M6 (c : tu) (E : List L2) : tu := ⟨c.reps ++ E.map (·.1), c.defs ++ E.map (·.2.1), c.values ++ E.filterMap (·.2.2)⟩
structure CR (c : tu) (n : Nat) : Prop where
 a : c.reps.length + n ≤ 4000000000
 b : c.defs.length + n ≤ 4000000000
 c : c.values.length + n ≤ 4000000000
theorem CR.le {c : tu} {n m : Nat} (h : CR c n) (hm : m ≤ n) : CR c m := ⟨by have := h.a; omega, by have := h.b; omega, by have := h.c; omega⟩
theorem CR.app {c : tu} {n : Nat} {E : List L2} (h : CR c (E.length + n)) : CR (M6 c E) n := by
 have h1 := h.a; have h2 := h.b; have h3 := h.c
 have h4 := List.length_filterMap_le (fun x : L2 => x.2.2) E
 refine ⟨?_, ?_, ?_⟩
 ·simp only [M6, List.length_append, List.length_map]; omega
 ·simp only [M6, List.length_append, List.length_map]; omega
 ·simp only [M6, List.length_append]; omega
structure zh (P : tV) (k : Nat) (u : ML) : Prop where
 a : P.fields.drop k = u.map Prod.fst
 b : P.pos.drop k = u.map fun x => (x.2 : Int)
theorem zh.fld {P : tV} {k : Nat} {f : ah} {i : Nat} {u : ML} (h : zh P k ((f, i) :: u)) : at? P.fields (k : Int) = some f := by
 apply oE
 have := congrArg (fun l : List ah => l[0]?) h.a
 simpa using this
theorem zh.ps {P : tV} {k : Nat} {f : ah} {i : Nat} {u : ML} (h : zh P k ((f, i) :: u)) : at? P.pos (k : Int) = some (i : Int) := by
 apply oE
 have := congrArg (fun l : List Int => l[0]?) h.b
 simpa using this
theorem zh.tl {P : tV} {k : Nat} {x : ah × Nat} {u : ML} (h : zh P k (x :: u)) : zh P (k + 1) u := by
 constructor
 ·have := congrArg List.tail h.a
  simpa [List.tail_drop] using this
 ·have := congrArg List.tail h.b
  simpa [List.tail_drop] using this
end Go.Proofs.YtbfekiekbifgcaaGreatDoor.Rw
namespace Go.Proofs.YtbfekiekbifgcaaGreatDoor.Rw
open Go Go.SX Go.SX.Cal
end Go.Proofs.YtbfekiekbifgcaaGreatDoor.Rw
namespace Go.Proofs.YtbfekiekbifgcaaGreatDoor.Rw
open Go Go.SX Go.SX.Cal
def Mb (v : ac) : Prop := du v = true ∧ v.kind ≠ 6 ∧ v.kind ≠ 7
end Go.Proofs.YtbfekiekbifgcaaGreatDoor.Rw
namespace Go.Proofs.YtbfekiekbifgcaaGreatDoor.Rw
open Go Go.SX Go.SX.Cal
theorem yS : ∀ (l : List Int) (m : List (Int × Int)) (seen : List Int), MQ m seen → (scan l m).1 = 0 → l.Nodup ∧ ∀ x ∈ l, x ∉ seen
 | [], _, _, _, _ => ⟨List.nodup_nil, by simp⟩
 | x :: l, m, seen, h, h0 => by
  obtain ⟨h1, h2⟩ := HR h x
  simp only [scan] at h0
  by_cases he : (Cb x m).1 = 0
  ·rw [if_neg (fun k => k he)] at h0
   obtain ⟨h3, h4⟩ := yS l _ _ (h2 he) h0
   have hx : x ∉ seen := by
    intro hm
    rw [he, if_pos hm] at h1
    split at h1 <;> omega
   refine ⟨List.nodup_cons.2 ⟨fun hm => h4 x hm (by simp), h3⟩, fun y hy => ?_⟩
   rcases List.mem_cons.1 hy with rfl | hy
   ·exact hx
   ·exact fun hm => h4 y hy (by simp [hm])
  ·rw [if_pos he] at h0; exact absurd h0 he
def Uq (fs : List ah) : Prop := (jA fs).Nodup
theorem sc_zero {fs : List ah} (hs : sizeF fs < 1000000000 - 1) (h : sc fs = 0) : V ⟨7, 0, fs⟩ ∧ Uq fs := by
 obtain ⟨e, h1, h2, h3⟩ := checkType_eq ⟨7, 0, fs⟩ (by simp only [gi]; omega)
 have hc := Mk hs
 rw [h] at hc
 unfold ec at hc
 rw [h1] at hc
 simp only [ar, au] at hc
 by_cases he : e = 0
 ·have w := FF 1000000000 aV fs [] (by omega) (by rw [aI]; omega) (by omega)
  simp [he, w, ar] at hc
  exact ⟨h3 he, (yS (jA fs) [] [] (fun x => by simp [kh]) hc).1⟩
 ·simp [he] at hc
theorem pf (f : ah) (fs : List ah) : jA (f :: fs) = zS f ++ jA fs := by simp only [jA]
theorem DT : ∀ {fs : List ah} {g : ah}, g ∈ fs → g.id ∈ jA fs
 | [], g, h => by cases h
 | f :: fs, g, h => by
  rw [pf]
  rcases List.mem_cons.1 h with rfl | h
  ·exact List.mem_append_left _ (by rw [qn]; exact List.mem_cons_self ..)
  ·exact List.mem_append_right _ (DT h)
theorem Uq.sub : ∀ {fs : List ah} {f : ah}, Uq fs → f ∈ fs → Uq f.type.fields
 | [], f, _, h => by cases h
 | g :: fs, f, hu, h => by
  unfold Uq at hu
  rw [pf, List.nodup_append] at hu
  rcases List.mem_cons.1 h with rfl | h
  ·have := hu.1
   rw [qn] at this
   exact (List.nodup_cons.1 this).2
  ·exact Uq.sub (fs := fs) hu.2.1 h
theorem Uq.inj : ∀ {fs : List ah} {j j' : Nat} {g g' : ah}, Uq fs → fs[j]? = some g → fs[j']? = some g' → g'.id = g.id → j' = j
 | [], j, j', g, g', _, h, _, _ => by simp at h
 | f :: fs, 0, 0, g, g', _, _, _, _ => rfl
 | f :: fs, 0, j' + 1, g, g', hu, h, h', he => by
  unfold Uq at hu
  rw [pf, List.nodup_append] at hu
  simp at h h'
  subst h
  exact absurd he.symm (hu.2.2 _ (by rw [qn]; exact List.mem_cons_self ..) _ (DT (List.mem_of_getElem? h')))
 | f :: fs, j + 1, 0, g, g', hu, h, h', he => by
  unfold Uq at hu
  rw [pf, List.nodup_append] at hu
  simp at h h'
  subst h'
  exact absurd he (hu.2.2 _ (by rw [qn]; exact List.mem_cons_self ..) _ (DT (List.mem_of_getElem? h)))
 | f :: fs, j + 1, j' + 1, g, g', hu, h, h', he => by
  unfold Uq at hu
  rw [pf, List.nodup_append] at hu
  have := Uq.inj (fs := fs) (j := j) (j' := j') hu.2.1 (by simpa using h) (by simpa using h') he
  omega
theorem of_kind {d : Nat} {t : aq} {v : ac} (h : zY (d + 1) t v = true) : v.kind = 0 ∨ v.kind = t.kind := by
 simp only [zY] at h
 by_cases h0 : v.kind = 0
 ·exact .inl h0
 ·rw [if_neg h0] at h
  by_cases h1 : v.kind = t.kind
  ·exact .inr h1
  ·rw [if_pos h1] at h; cases h
def NB (n : Nat) (E : List L2) : Prop := ∀ x ∈ E, ∀ y, x.2.2 = some y → Mb y ∧ y.s.size < n
theorem NB.le {n m : Nat} {E : List L2} (h : NB n E) (hm : n ≤ m) : NB m E := fun x hx y hy => ⟨(h x hx y hy).1, Nat.lt_of_lt_of_le (h x hx y hy).2 hm⟩
structure Om (f : ah) (d : Nat) (v : ac) : Prop where
 s : Hv d v
 o : zY d f.type v = true
 l : ot d f.type v = false
 n : ¬ (f.need = true ∧ v.kind = 0)
theorem ck_ok {f : ah} {v : ac} (hv : bO v < 1000000000) (hT : gi f.type < 1000000000) (h : ck f.type v = 0) (hn : ¬ (f.need = true ∧ v.kind = 0)) : Om f 4 v := by
 obtain ⟨e, h1, h2, h3⟩ := checkType_eq f.type hT
 have hc := ck_c hv hT
 rw [h] at hc
 unfold jF at hc
 rw [h1, xp v hv] at hc
 simp only [am] at hc
 by_cases he : e = 0
 ·subst he
  have ht := h3 rfl
  cases hs : jM v with
  | false => rw [hs] at hc; cases hc
  | true =>
   have hS : Hv 4 v := ⟨0, hs⟩
   obtain ⟨a, b⟩ := of_eq 4 aV aV f.type v hS ht hv hT (by rw [aI]; omega) (by rw [aI]; omega)
   rw [hs, a] at hc
   cases ho : zY 4 f.type v with
   | false => rw [ho] at hc; cases hc
   | true =>
    obtain ⟨c, d⟩ := EU 4 aV aV f.type v hS ht ho hv hT (by rw [aI]; omega) (by rw [aI]; omega)
    rw [ho, c] at hc
    cases hl : ot 4 f.type v with
    | false => exact ⟨hS, ho, hl, hn⟩
    | true => rw [hl] at hc; cases hc
 ·rw [show (e != (0 : Int)) = true by simp [he]] at hc
  cases hc; exact absurd rfl he
end Go.Proofs.YtbfekiekbifgcaaGreatDoor.Rw
namespace Go.Proofs.YtbfekiekbifgcaaGreatDoor.Rw
open Go Go.SX Go.SX.Cal
def rv (r : List ac) (i : Nat) : ac := r[i]?.getD ⟨0, 0, 0, ByteArray.empty, []⟩
def MD (rows : List (List ac)) : Nat := (rows.map sizeL).sum
def c0 : tu := ⟨[], [], []⟩
theorem Dt (p : List ac) : bX p = some p := by
 unfold bX
 rw [L0 (by omega)]
 simp
theorem Hy (r : List ac) (rows : List (List ac)) : MD (r :: rows) = sizeL r + MD rows := by simp [MD]
theorem crF_zero {fs : List ah} {rows : List (List ac)} (h : crF fs rows = 0) : sc fs = 0 ∧ vQ fs rows = 0 := by
 unfold crF at h
 by_cases h0 : sc fs = 0
 ·rw [if_neg (fun k => k h0)] at h
  by_cases h1 : 2000 < rows.length
  ·rw [if_pos h1] at h; cases h
  ·rw [if_neg h1] at h; exact ⟨h0, h⟩
 ·rw [if_pos h0] at h; exact absurd h h0
end Go.Proofs.YtbfekiekbifgcaaGreatDoor.Rw
namespace Go.Proofs.YtbfekiekbifgcaaGreatDoor.Rw
open Go Go.SX Go.SX.Cal
theorem oL : ∀ l : List ac, sizeL l = (l.map bO).sum
 | [] => by simp [sizeL]
 | x :: l => by simp [sizeL, oL l]
theorem Kf (k n sc : Int) (s : ByteArray) (it : List ac) : bO ⟨k, n, sc, s, it⟩ ≤ s.size + (it.map bO).sum + 6 := by
 simp only [bO, oL]; omega
theorem oN : ∀ l : List ah, sizeF l = (l.map kL).sum
 | [] => by simp [sizeF]
 | x :: l => by simp [sizeF, oN l]
theorem H0 (k s : Int) (fs : List ah) : gi ⟨k, s, fs⟩ ≤ (fs.map kL).sum + 4 := by
 rw [mD, oN]; simp only; omega
theorem H4 (i : Int) (n : ByteArray) (q : Bool) (t : aq) : kL ⟨i, n, q, t⟩ ≤ n.size + gi t + 4 := by
 rw [eM]; simp only; omega
def szRow (r : List ac) : Nat := sizeL r + 1
def szRows (rows : List (List ac)) : Nat := (rows.map szRow).sum
theorem szRows_eq : ∀ rows : List (List ac), szRows rows = MD rows + rows.length
 | [] => by simp [szRows, MD]
 | r :: rows => by
  have := szRows_eq rows
  unfold szRows at this ⊢
  rw [Hy, List.map_cons, List.sum_cons, List.length_cons, this]
  unfold szRow; omega
end Go.Proofs.YtbfekiekbifgcaaGreatDoor.Rw
