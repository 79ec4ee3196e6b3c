/- The calendar, in plain integers. Names, in plain terms. The fields of a type, in plain terms. The check of types and the common type, in plain terms. Texts and sound values, in plain terms. Values of a type, in plain terms; the law of Sound and Check. What the clocks of the program compute. The zones' clocks. The clocks lead back. What the reference computes for civil time. The law 'ValueTimeMatchesSpec', in plain terms. The text of a value, as a list of bytes; numbers and moments. The texts of values: both make T. The texts of values: show and text make T of all sound values. The texts of values: Text. The reader's steps. The reader is defined on all texts. The reader is defined on all texts: values. The reader reads the texts of values: leaves. The reader reads the texts of values. The reference's reader: its parts. The reference's reader: texts in quotes, decimals, moments. The reference's reader: leaves. The reference's reader reads the texts of leaves. The reference's reader: it is defined on all texts, and reads the texts of values. Parse on both sides, and the two laws of texts. Sizes of arguments. What needs no program: searches, bytes, sizes, words, digits. The reference's integers: their digits. -/
import Derived.Lib.ValidU
import Derived.Test.YtpmoopnkoknbeaaGreatDoorGeB
set_option linter.unusedVariables false
set_option linter.unusedSimpArgs false
set_option linter.unnecessarySimpa false
namespace Go.SX.Cal
open Go
theorem fL {x : Int} (h1 : -9223372036854775808 ≤ x) (h2 : x ≤ 9223372036854775807) : IntKind.i64.wrap x = x := by
 simp only [IntKind.wrap, IntKind.bits, IntKind.signed]
 simp only [Bool.true_and, decide_eq_true_eq, ge_iff_le]
 split <;> omega
def S (y : Int) : Int := 365 * y + y / 4 - y / 100
def F (r : Int) : Int := r - r / 1460 + r / 36524
def yr (r : Int) : Int := (r - r / 1460 + r / 36524 - r / 146096) / 365
theorem LM : ((List.range 400).all fun y => decide (F (S (y : Int)) / 365 = y ∧ F (S ((y : Int) + 1) - 1) / 365 = y)) = true := by decide +kernel
theorem Cz {y : Int} (h0 : 0 ≤ y) (h1 : y ≤ 399) : F (S y) / 365 = y ∧ F (S (y + 1) - 1) / 365 = y := by
 have := List.all_eq_true.1 LM y.toNat (List.mem_range.2 (by omega))
 have h := of_decide_eq_true this
 rw [Int.toNat_of_nonneg h0] at h
 exact h
theorem Gj {r s : Int} (h : r ≤ s) : F r ≤ F s := by unfold F; omega
theorem uI {r : Int} (h0 : 0 ≤ r) (h1 : r ≤ 146096) : 0 ≤ yr r ∧ yr r ≤ 399 := by unfold yr; omega
theorem Mj {r : Int} (h0 : 0 ≤ r) (h1 : r ≤ 146095) : yr r = F r / 365 := by
 unfold yr F
 have : r / 146096 = 0 := by omega
 rw [this, Int.sub_zero]
def pY (y : Int) : Prop := y % 4 = 0 ∧ (y % 100 ≠ 0 ∨ y % 400 = 0)
instance (y : Int) : Decidable (pY y) := by unfold pY; infer_instance
theorem J2 {r : Int} (h0 : 0 ≤ r) (h1 : r ≤ 146096) : S (yr r) ≤ r ∧ r ≤ S (yr r) + 365 ∧ (r = S (yr r) + 365 → pY (yr r + 1)) := by
 obtain ⟨b0, b1⟩ := uI h0 h1
 by_cases hr : r = 146096
 ·subst hr; decide +kernel
 have h2 : r ≤ 146095 := by omega
 have e := Mj h0 h2
 generalize yr r = y at *
 have lo : S y ≤ r := by
  apply Classical.byContradiction
  intro hn
  have hy : 1 ≤ y := by
   apply Classical.byContradiction
   intro hy
   have : y = 0 := by omega
   subst this
   simp [S] at hn
   omega
  have t := (Cz (y := y - 1) (by omega) (by omega)).2
  rw [show y - 1 + 1 = y by omega] at t
  have := Gj (show r ≤ S y - 1 by omega)
  have : F r / 365 ≤ y - 1 := by rw [← t]; exact Int.ediv_le_ediv (by decide) this
  omega
 have hi : r < S (y + 1) ∨ y = 399 := by
  by_cases hy : y = 399
  ·exact .inr hy
  left
  apply Classical.byContradiction
  intro hn
  have t := (Cz (y := y + 1) (by omega) (by omega)).1
  have := Gj (show S (y + 1) ≤ r by omega)
  have : y + 1 ≤ F r / 365 := by rw [← t]; exact Int.ediv_le_ediv (by decide) this
  omega
 refine ⟨lo, ?_, fun he => ?_⟩
 ·rcases hi with hi | rfl
  ·unfold S at *; omega
  ·simp [S] at *; omega
 ·rcases hi with hi | rfl
  ·unfold S at *
   have h4 : (y + 1) / 4 = y / 4 + 1 ∧ (y + 1) / 100 = y / 100 := by omega
   exact ⟨by omega, .inl (by omega)⟩
  ·simp [S] at *; omega
def ku (m : Int) : Int := (153 * m + 2) / 5
def days (y m d : Int) : Int :=
 if m ≤ 2 then (y - 1) / 400 * 146097 + S ((y - 1) % 400) + ku (m + 9) + d - 1 - 719468 else y / 400 * 146097 + S (y % 400) + ku (m - 3) + d - 1 - 719468
def wW (y m : Int) : Int := if m = 2 then (if pY y then 29 else 28) else if m = 4 ∨ m = 6 ∨ m = 9 ∨ m = 11 then 30 else 31
def date (n : Int) : Int × Int × Int :=
 let era := (n + 719468) / 146097
 let r := (n + 719468) % 146097
 let y := yr r
 let k := r - S y
 let m := (5 * k + 2) / 153
 let d := k - ku m + 1
 if m + 3 > 12 then (era * 400 + y + 1, m + 3 - 12, d) else (era * 400 + y, m + 3, d)
theorem Ah (n : Int) : days (date n).1 (date n).2.1 (date n).2.2 = n ∧ 1 ≤ (date n).2.1 ∧ (date n).2.1 ≤ 12 ∧ 1 ≤ (date n).2.2 ∧ (date n).2.2 ≤ wW (date n).1 (date n).2.1 := by
 simp only [date]
 have hr0 : 0 ≤ (n + 719468) % 146097 := by omega
 have hr1 : (n + 719468) % 146097 ≤ 146096 := by omega
 have hn : n + 719468 = (n + 719468) / 146097 * 146097 + (n + 719468) % 146097 := by omega
 generalize (n + 719468) % 146097 = r at *
 generalize (n + 719468) / 146097 = era at *
 obtain ⟨b0, b1⟩ := uI hr0 hr1
 obtain ⟨s0, s1, s2⟩ := J2 hr0 hr1
 generalize yr r = y at *
 have hk0 : 0 ≤ r - S y := by omega
 have hk1 : r - S y ≤ 365 := by omega
 have hk2 : r - S y = 365 → pY (y + 1) := fun h => s2 (by omega)
 have hrk : r = S y + (r - S y) := by omega
 generalize r - S y = k at *
 subst hrk
 have hm0 : 0 ≤ (5 * k + 2) / 153 := by omega
 have hm1 : (5 * k + 2) / 153 ≤ 11 := by omega
 have hd : 1 ≤ k - ku ((5 * k + 2) / 153) + 1 := by unfold ku; omega
 have hd2 : k ≤ ku ((5 * k + 2) / 153 + 1) - 1 := by unfold ku; omega
 generalize hm : (5 * k + 2) / 153 = m at *
 by_cases hc : m + 3 > 12
 ·simp only [hc, if_true]
  have e1 : (era * 400 + y + 1 - 1) / 400 = era := by omega
  have e2 : (era * 400 + y + 1 - 1) % 400 = y := by omega
  refine ⟨?_, by omega, by omega, hd, ?_⟩
  ·unfold days
   rw [if_pos (by omega), e1, e2, show m + 3 - 12 + 9 = m by omega]
   omega
  ·unfold wW
   have hcase : m = 10 ∨ m = 11 := by omega
   rcases hcase with rfl | rfl
   ·simp [ku] at *; omega
   ·have hL : pY (era * 400 + y + 1) ↔ pY (y + 1) := by unfold pY; omega
    simp only [show (11 : Int) + 3 - 12 = 2 by rfl, if_true]
    by_cases hl : pY (y + 1)
    ·rw [if_pos (hL.2 hl)]; simp [ku] at *; omega
    ·rw [if_neg (fun h => hl (hL.1 h))]
     have : k ≠ 365 := fun h => hl (hk2 h)
     simp [ku] at *; omega
 ·simp only [hc, if_false]
  have e1 : (era * 400 + y) / 400 = era := by omega
  have e2 : (era * 400 + y) % 400 = y := by omega
  refine ⟨?_, by omega, by omega, hd, ?_⟩
  ·unfold days
   rw [if_neg (by omega), e1, e2, show m + 3 - 3 = m by omega]
   omega
  ·unfold wW
   rw [if_neg (by omega)]
   have hcase : m = 0 ∨ m = 1 ∨ m = 2 ∨ m = 3 ∨ m = 4 ∨ m = 5 ∨ m = 6 ∨ m = 7 ∨ m = 8 ∨ m = 9 := by omega
   rcases hcase with rfl | rfl | rfl | rfl | rfl | rfl | rfl | rfl | rfl | rfl <;> simp [ku] at * <;> omega
def E (y : Int) : Int := y / 400 * 146097 + S (y % 400) - 719468
theorem KR {y : Int} (h : pY (y + 1)) : E (y + 1) = E y + 366 := by
 unfold E S; unfold pY at h
 by_cases h4 : (y + 1) % 400 = 0
 ·have a1 : (y + 1) / 400 = y / 400 + 1 := by omega
  have a2 : y % 400 = 399 := by omega
  rw [a1, h4, a2]; omega
 ·have a1 : (y + 1) / 400 = y / 400 := by omega
  have a2 : (y + 1) % 400 = y % 400 + 1 := by omega
  rw [a1, a2]
  have hq : 0 ≤ y % 400 ∧ y % 400 ≤ 398 := by omega
  have h5 : (y % 400 + 1) % 4 = 0 := by omega
  have h6 : (y % 400 + 1) % 100 ≠ 0 := by omega
  generalize y % 400 = q at *
  have : (q + 1) / 4 = q / 4 + 1 := by omega
  have : (q + 1) / 100 = q / 100 := by omega
  omega
theorem L9 {y : Int} (h : ¬ pY (y + 1)) : E (y + 1) = E y + 365 := by
 unfold E S; unfold pY at h
 have h4 : (y + 1) % 400 ≠ 0 := by omega
 have a1 : (y + 1) / 400 = y / 400 := by omega
 have a2 : (y + 1) % 400 = y % 400 + 1 := by omega
 rw [a1, a2]
 have hq : 0 ≤ y % 400 ∧ y % 400 ≤ 398 := by omega
 have h5 : (y % 400 + 1) % 4 ≠ 0 ∨ (y % 400 + 1) % 100 = 0 := by omega
 generalize y % 400 = q at *
 by_cases h7 : (q + 1) % 100 = 0
 ·have : (q + 1) / 4 = q / 4 + 1 := by omega
  have : (q + 1) / 100 = q / 100 + 1 := by omega
  omega
 ·have : (q + 1) / 4 = q / 4 := by omega
  have : (q + 1) / 100 = q / 100 := by omega
  omega
theorem rI (y m d : Int) : days y m d = if m ≤ 2 then E (y - 1) + ku (m + 9) + d - 1 else E y + ku (m - 3) + d - 1 := by
 unfold days E; split <;> omega
theorem Am (y : Int) : (pY (y + 1) ∧ E (y + 1) = E y + 366) ∨ (¬ pY (y + 1) ∧ E (y + 1) = E y + 365) := by
 by_cases h : pY (y + 1)
 ·exact .inl ⟨h, KR h⟩
 ·exact .inr ⟨h, L9 h⟩
theorem nU (y : Int) : days y 1 1 = E (y - 1) + 306 := by
 rw [rI, if_pos (by decide)]; simp [ku]
theorem I9 (y m d : Int) (h0 : 1 ≤ m) (h1 : m ≤ 12) (h2 : 1 ≤ d) (h3 : d ≤ wW y m) : days y 1 1 ≤ days y m 1 ∧ days y m d = days y m 1 + d - 1 ∧ days y m d < days (y + 1) 1 1 := by
 rw [nU, nU, rI, rI, show y + 1 - 1 = y by omega]
 have hE := Am (y - 1)
 rw [show y - 1 + 1 = y by omega] at hE
 unfold wW at h3
 have hc : m = 1 ∨ m = 2 ∨ m = 3 ∨ m = 4 ∨ m = 5 ∨ m = 6 ∨ m = 7 ∨ m = 8 ∨ m = 9 ∨ m = 10 ∨ m = 11 ∨ m = 12 := by omega
 rcases hE with ⟨hl, hE⟩ | ⟨hl, hE⟩ <;> simp only [hl, if_true, if_false] at h3 <;> rcases hc with rfl | rfl | rfl | rfl | rfl | rfl | rfl | rfl | rfl | rfl | rfl | rfl <;> simp [ku] at * <;> omega
theorem vM (y : Int) : days y 1 1 + 365 ≤ days (y + 1) 1 1 ∧ days (y + 1) 1 1 ≤ days y 1 1 + 366 := by
 rw [nU, nU, show y + 1 - 1 = y by omega]
 have hE := Am (y - 1)
 rw [show y - 1 + 1 = y by omega] at hE
 omega
theorem yM (y : Int) (k : Nat) : days y 1 1 + 365 * k ≤ days (y + k) 1 1 := by
 induction k with
 | zero => simp
 | succ k ih =>
  have := (vM (y + k)).1
  rw [show y + ((k + 1 : Nat) : Int) = y + k + 1 by omega]
  omega
theorem kP {y z : Int} (h : y ≤ z) : days y 1 1 + 365 * (z - y) ≤ days z 1 1 := by
 have := yM y (z - y).toNat
 rw [show y + ((z - y).toNat : Int) = z by omega] at this
 omega
theorem rE {n y : Int} : (date n).1 = y ↔ days y 1 1 ≤ n ∧ n < days (y + 1) 1 1 := by
 obtain ⟨h1, h2, h3, h4, h5⟩ := Ah n
 obtain ⟨a1, a2, a3⟩ := I9 _ _ _ h2 h3 h4 h5
 rw [h1] at a2 a3
 constructor
 ·rintro rfl
  exact ⟨by omega, a3⟩
 ·rintro ⟨b1, b2⟩
  apply Classical.byContradiction
  intro hn
  rcases Int.lt_or_gt_of_ne hn with hlt | hgt
  ·have := kP (show (date n).1 + 1 ≤ y by omega)
   omega
  ·have := kP (show y + 1 ≤ (date n).1 by omega)
   omega
end Go.SX.Cal
namespace Go.Proofs.YtpmoopnkoknbeaaGreatDoor
open Go Go.SX Go.SX.Cal
theorem aw {β : Type} (x y : Option β) : ax true x y = x := rfl
theorem ah {β : Type} (x y : Option β) : ax false x y = y := rfl
theorem aM {β : Type} (b : Bool) (x y : Option β) : ax b x y = if b = true then x else y := by cases b <;> rfl
theorem aA : aW = 1152921504606846976 := rfl
def first (P : Nat → Bool) (i n : Nat) : Option Nat := (List.range' i (n - i)).find? P
theorem jH {P : Nat → Bool} {i n : Nat} (h : i < n) : first P i n = if P i = true then some i else first P (i + 1) n := by
 unfold first
 rw [show n - i = (n - (i + 1)) + 1 by omega, List.range'_succ, List.find?_cons]
 cases hp : P i <;> simp [hp]
theorem kV {P : Nat → Bool} {n : Nat} : first P n n = none := by simp [first]
theorem jE {P : Nat → Bool} {i n : Nat} : first P i n = none ↔ ∀ j, i ≤ j → j < n → P j = false := by
 unfold first
 rw [List.find?_eq_none]
 constructor
 ·intro h j h1 h2
  have := h j (by rw [List.mem_range'_1]; omega)
  simpa using this
 ·intro h j hj
  rw [List.mem_range'_1] at hj
  have := h j (by omega) (by omega)
  simp [this]
theorem l9 {β : Type} {f : Nat → Nat → Option β} {n : Nat} {P : Nat → Bool} {A : Nat → Option β} {B : Option β} (hstep : ∀ k i, i < n → f (k + 1) i = if P i = true then A i else f k (i + 1)) (hend : ∀ k, f (k + 1) n = B) :
  ∀ k i, i ≤ n → n - i < k → f k i = (first P i n).elim B A := by
 intro k
 induction k with
 | zero => intro i _ h; omega
 | succ k ih =>
  intro i hi hk
  by_cases h : i = n
  ·subst h
   rw [hend, kV]; rfl
  ·rw [hstep k i (by omega), jH (by omega)]
   by_cases hp : P i = true
   ·simp [hp]
   ·simp only [hp, if_false]
    exact ih (i + 1) (by omega) (by omega)
def iI (s : ByteArray) (i : Nat) : Nat := (s.data.toList.getD i 0).toNat
theorem nE (s : ByteArray) (i : Nat) (h : i < s.size) : (s.get! i).toNat = iI s i := by
 unfold iI
 have h' : i < s.data.size := h
 have : s.get! i = s.data.toList.getD i 0 := by
  simp only [ByteArray.get!, List.getD, Array.getElem?_toList]
  rw [getElem!_pos s.data i h', Array.getElem?_eq_getElem h']; rfl
 rw [this]
def oO (b : Nat) : Bool := decide (97 ≤ b) && decide (b ≤ 122)
def other (b : Nat) : Bool := b == 95 || (decide (48 ≤ b) && decide (b ≤ 57))
def Ad (b : Nat) : Bool := oO b || other b
theorem Gv (n : Nat) : nI (Int.ofNat n) = some (!Ad n) := by
 unfold nI dT
 simp only [aM, decide_eq_true_eq, Int.ofNat_eq_natCast]
 repeat' split
 all_goals (rw [Option.some.injEq, Bool.eq_iff_iff]; simp [Ad, oO, other]; omega)
theorem vJ (s : ByteArray) (i : Nat) (h : i < s.size) (hb : iI s i < 128) : Utf8.decode s i = (iI s i, 1) := by
 have e := nE s i h
 unfold Utf8.decode
 simp [e, hb]
theorem vH (s : ByteArray) (i : Nat) (h : i < s.size) (hb : ¬ iI s i < 128) : 128 ≤ (Utf8.decode s i).1 := by
 have e := nE s i h
 unfold Utf8.decode
 simp only [Nat.add_zero, e, if_neg hb, Utf8.runeError]
 repeat' split
 all_goals simp_all
 all_goals omega
def bad (s : ByteArray) (i : Nat) : Bool := !Ad (iI s i)
theorem Al (s : ByteArray) : ∀ k i, i ≤ s.size → s.size - i < k → ∃ r, bg s true k i = some r ∧ (decide (0 ≤ r) = (first (bad s) i s.size).isSome) := by
 intro k
 induction k with
 | zero => intro i _ h; omega
 | succ k ih =>
  intro i hi hk
  rw [bg]
  by_cases h : i = s.size
  ·subst h
   rw [kV]
   simp only [Nat.lt_irrefl, decide_false, ah]
   exact ⟨-1, rfl, rfl⟩
  ·have hlt : i < s.size := by omega
   simp only [hlt, decide_true, aw, Gv, ae]
   rw [jH hlt]
   by_cases hb : iI s i < 128
   ·rw [vJ s i hlt hb]
    simp only [bad]
    by_cases hg : Ad (iI s i) = true
    ·simp only [hg, Bool.not_true, aM]
     obtain ⟨r, h1, h2⟩ := ih (i + 1) (by omega) (by omega)
     exact ⟨r, by simpa using h1, by simpa [bad] using h2⟩
    ·simp only [hg, Bool.not_false, aM]
     exact ⟨_, rfl, by simp⟩
   ·have h1 := vH s i hlt hb
    have g1 : Ad (Utf8.decode s i).1 = false := by
     generalize (Utf8.decode s i).1 = x at h1
     simp [Ad, oO, other]; omega
    have g2 : bad s i = true := by
     simp [bad, Ad, oO, other]; omega
    simp only [g1, g2, Bool.not_false, aM]
    exact ⟨_, rfl, by simp⟩
def ov (s : ByteArray) : Bool := decide (1 ≤ s.size) && decide (s.size ≤ 24) && oO (iI s 0) && (first (bad s) 0 s.size).isNone
theorem mc (s : ByteArray) : (s.toList == (ByteArray.mk #[]).toList) = decide (s.size = 0) := by
 rw [ByteArray.toList_eq, ByteArray.toList_eq, Bool.eq_iff_iff]
 show (s.data.toList == []) = true ↔ decide (s.data.size = 0) = true
 rw [← Array.length_toList]
 cases s.data.toList <;> simp
theorem LC (s : ByteArray) (hs : s.size < 1000000000) : pQ s = some (ov s) := by
 obtain ⟨r, h1, h2⟩ := Al s aW 0 (Nat.zero_le _) (by rw [aA]; omega)
 unfold pQ jc dI ej eh
 rw [h1, mc]
 simp only [ae, h2, aM]
 by_cases z0 : s.size = 0
 ·simp [z0, ov]
 ·by_cases z1 : 24 < s.size
  ·have : ¬ s.size ≤ 24 := by omega
   simp [z0, z1, ov, this, show (24 : Int) < (s.size : Int) by omega]
  ·have hz : ¬ (24 : Int) < (s.size : Int) := by omega
   have hb : ((s.data.toList.getD (0 : Int).toNat 0).toNat : Int) = (iI s 0 : Int) := rfl
   simp only [z0, decide_false, hz, Bool.false_eq_true, if_false, hb]
   rw [dw (by omega), dw (by omega)]
   simp only [decide_eq_true_eq]
   have : s.size ≤ 24 := by omega
   by_cases q1 : iI s 0 < 97
   ·have : ¬ 97 ≤ iI s 0 := by omega
    simp [show (iI s 0 : Int) < 97 by omega, ov, oO, this]
   ·by_cases q2 : 122 < iI s 0
    ·have : ¬ iI s 0 ≤ 122 := by omega
     simp [show ¬ (iI s 0 : Int) < 97 by omega, show (122 : Int) < (iI s 0 : Int) by omega, ov, oO, this]
    ·simp [show ¬ (iI s 0 : Int) < 97 by omega, show ¬ (122 : Int) < (iI s 0 : Int) by omega, ov, oO, show 1 ≤ s.size by omega, this, show 97 ≤ iI s 0 by omega, show iI s 0 ≤ 122 by omega]
def yD (s : ByteArray) (i : Nat) : Bool := !oO (iI s i) && (i == 0 || !other (iI s i))
theorem DV (s : ByteArray) (hs : s.size < 1000000000) (k i : Nat) (hi : i < s.size) : cH s (k + 1) (i : Int) = if yD s i = true then some false else cH s k ((i + 1 : Nat) : Int) := by
 rw [cH, ← aM]
 have hb : ((s.data.toList.getD (i : Int).toNat 0).toNat : Int) = (iI s i : Int) := rfl
 have hw : IntKind.i64.wrap ((i : Int) + 1) = ((i + 1 : Nat) : Int) := by rw [fL (by omega) (by omega)]; omega
 have hg : 0 ≤ (i : Int) ∧ (i : Int) < (s.size : Int) := by omega
 rw [show decide ((i : Int) < (s.size : Int)) = true by simp [hg.2], aw]
 simp only [nv, lU, lf, hb, hw, ae, dw hg]
 have e1 : ((iI s i : Int) == 95) = (iI s i == 95) := by rw [Bool.eq_iff_iff]; simp; omega
 have e2 : (decide ((97 : Int) ≤ iI s i)) = decide (97 ≤ iI s i) := by rw [Bool.eq_iff_iff]; simp; omega
 have e3 : (decide ((iI s i : Int) ≤ 122)) = decide (iI s i ≤ 122) := by rw [Bool.eq_iff_iff]; simp; omega
 have e4 : (decide ((48 : Int) ≤ iI s i)) = decide (48 ≤ iI s i) := by rw [Bool.eq_iff_iff]; simp; omega
 have e5 : (decide ((iI s i : Int) ≤ 57)) = decide (iI s i ≤ 57) := by rw [Bool.eq_iff_iff]; simp; omega
 have e6 : ((i : Int) == 0) = (i == 0) := by rw [Bool.eq_iff_iff]; simp
 simp only [e1, e2, e3, e4, e5, e6, yD, oO, other]
 generalize hq : cH s k ((i + 1 : Nat) : Int) = q
 generalize (iI s i == 95) = b1
 generalize decide (97 ≤ iI s i) = b2
 generalize decide (iI s i ≤ 122) = b3
 generalize decide (48 ≤ iI s i) = b4
 generalize decide (iI s i ≤ 57) = b5
 generalize (i == 0) = b6
 cases b1 <;> cases b2 <;> cases b3 <;> cases b4 <;> cases b5 <;> cases b6 <;> rfl
theorem LH (s : ByteArray) (hs : s.size < 1000000000) : rW s = some (ov s) := by
 have hl := l9 (f := fun k i => cH s k (i : Int)) (n := s.size) (P := yD s) (A := fun _ => some false) (B := some true) (fun k i hi => DV s hs k i hi)
  (fun k => by rw [cH]; simp only [Int.lt_irrefl, decide_false, ah]; rfl) aW 0 (Nat.zero_le _) (by rw [aA]; omega)
 have hl : cH s aW (0 : Int) = _ := hl
 unfold rW nL
 rw [hl]
 simp only [aM]
 by_cases z0 : s.size = 0
 ·simp [z0, ov]
 ·by_cases z1 : 24 < s.size
  ·have : ¬ s.size ≤ 24 := by omega
   simp [z0, z1, ov, this, show (24 : Int) < (s.size : Int) by omega]
  ·have hz : ¬ (24 : Int) < (s.size : Int) := by omega
   have hz2 : ¬ (s.size : Int) < 1 := by omega
   simp only [hz, hz2, decide_false, Bool.false_eq_true, if_false]
   have e : (first (yD s) 0 s.size).isNone = (oO (iI s 0) && (first (bad s) 0 s.size).isNone) := by
    rw [Bool.eq_iff_iff, Bool.and_eq_true, Option.isNone_iff_eq_none, Option.isNone_iff_eq_none, jE, jE]
    constructor
    ·intro h
     have h0 := h 0 (Nat.le_refl _) (by omega)
     simp only [yD, beq_self_eq_true, Bool.true_or, Bool.and_true] at h0
     have h0' : oO (iI s 0) = true := by simpa using h0
     refine ⟨h0', fun j _ hj => ?_⟩
     have h1 := h j (Nat.zero_le _) hj
     simp only [yD, bad, Ad] at h1 ⊢
     cases hs : oO (iI s j) <;> cases ho : other (iI s j) <;> simp_all
    ·rintro ⟨h0, h⟩ j _ hj
     have h1 := h j (Nat.zero_le _) hj
     simp only [yD, bad, Ad] at h1 ⊢
     by_cases hj0 : j = 0
     ·subst hj0; simp [h0]
     ·cases hs : oO (iI s j) <;> cases ho : other (iI s j) <;> simp_all
   have : (first (yD s) 0 s.size).elim (some true) (fun _ => some false) = some ((first (yD s) 0 s.size).isNone) := by cases first (yD s) 0 s.size <;> rfl
   rw [this, e]
   simp [ov, show 1 ≤ s.size by omega, show s.size ≤ 24 by omega]
end Go.Proofs.YtpmoopnkoknbeaaGreatDoor
namespace Go.Proofs.YtpmoopnkoknbeaaGreatDoor
open Go Go.SX Go.SX.Cal
mutual
def dn : af → Nat
 | ⟨_, _, fs⟩ => jy fs + 1
def jy : List (nj af) → Nat
 | [] => 0
 | f :: l => lv f + jy l
def lv : nj af → Nat
 | ⟨_, n, _, t⟩ => n.size + dn t + 1
end
theorem io : ∀ {l : List aL} {x : aL}, x ∈ l → lv x ≤ jy l
 | [], _, h => by cases h
 | y :: l, x, h => by
  simp only [jy]
  rcases List.mem_cons.1 h with rfl | h
  ·omega
  ·have := io h; omega
theorem gG : ∀ x : aL, lv x = x.name.size + dn x.type + 1
 | ⟨_, _, _, _⟩ => by simp only [lv]
theorem gN : ∀ x : af, dn x = jy x.fields + 1
 | ⟨_, _, _⟩ => by simp only [dn]
theorem nS : ∀ l : List aL, l.length ≤ jy l
 | [] => by simp [jy]
 | x :: l => by
  have := nS l
  have := gG x
  simp only [jy, List.length_cons]; omega
theorem d8 {i n : Nat} (h : i < n) (hn : n < 1000000000) : IntKind.i64.wrap ((i : Int) + 1) = ((i + 1 : Nat) : Int) := by rw [fL (by omega) (by omega)]; omega
theorem cf {α : Type} {xs : List α} {i : Nat} (h : i < xs.length) : at? xs (i : Int) = some xs[i] := by unfold at?; simp [h]
theorem gC {i n : Nat} (h : i < n) : decide ((i : Int) < (n : Int)) = true := by simp [h]
def Lo (fs : List aL) (i : Nat) : ByteArray := (fs[i]?.map (·.name)).getD ByteArray.empty
theorem rF {fs : List aL} {i : Nat} (h : i < fs.length) : Lo fs i = fs[i].name := by simp [Lo, h]
def sZ (fs : List aL) (i : Nat) : Bool := !ov (Lo fs i)
def Le (fs : List aL) (i j : Nat) : Bool := (Lo fs j).toList == (Lo fs i).toList
def Ay (fs : List aL) (i : Nat) : Bool := (first (Le fs i) 0 i).isSome
def C0 (fs : List aL) : Bool := (first (sZ fs) 0 fs.length).isSome
def Br (fs : List aL) : Bool := (first (Ay fs) 0 fs.length).isSome
structure v7 (fs : List aL) : Prop where
 len : fs.length < 1000000000
 nam : ∀ f ∈ fs, f.name.size < 1000000000
theorem Jy {fs : List aL} (h : jy fs < 1000000000) : v7 fs :=
 ⟨by have := nS fs; omega, fun f hf => by have := io hf; have := gG f; omega⟩
theorem J4 : ∀ f : aL, nj.mk f.id f.name f.need (af.mk f.type.kind f.type.scale f.type.fields) = f
 | ⟨_, _, _, ⟨_, _, _⟩⟩ => rfl
theorem Fb {fs : List aL} (ho : v7 fs) : bf fs = some (C0 fs) := by
 have hl := l9 (f := fun k i => aq fs k (i : Int)) (n := fs.length) (P := sZ fs) (A := fun i => some (i : Int)) (B := some (-1)) (fun k i hi => by
   show aq fs (k + 1) (i : Int) = _
   rw [aq, gC hi, aw, cf hi, ae, n6, LC _ (ho.nam _ (List.getElem_mem hi)), d8 hi ho.len]
   simp only [ae, aM, sZ, rF hi])
  (fun k => by rw [aq]; simp only [Int.lt_irrefl, decide_false, ah]; rfl) aW 0 (Nat.zero_le _) (by rw [aA]; have := ho.len; omega)
 have hl : aq fs aW (0 : Int) = _ := hl
 unfold bf bK
 rw [hl]
 unfold C0
 cases first (sZ fs) 0 fs.length with
 | none => rfl
 | some j => simp [ae]
theorem FI {fs : List aL} (ho : v7 fs) {i : Nat} (hi : i < fs.length) : be ((fs.drop (0 : Int).toNat).take ((i : Int).toNat - (0 : Int).toNat)) fs[i] = some (Ay fs i, fs[i]) := by
 have ep : (fs.drop (0 : Int).toNat).take ((i : Int).toNat - (0 : Int).toNat) = fs.take i := by simp
 rw [ep]
 have hlen : (fs.take i).length = i := by simp; omega
 have hl := l9 (f := fun k j => al (fs.take i) k fs[i].id fs[i].name fs[i].need fs[i].type.kind fs[i].type.scale fs[i].type.fields (j : Int)) (n := i) (P := Le fs i) (A := fun j => some ((j : Int), fs[i])) (B := some (-1, fs[i])) (fun k j hj => by
   have hj' : j < (fs.take i).length := by rw [hlen]; exact hj
   have hjf : j < fs.length := by omega
   show al (fs.take i) (k + 1) _ _ _ _ _ _ (j : Int) = _
   rw [al, gC hj', aw, cf hj', ae, oa, d8 hj (by have := ho.len; omega)]
   simp only [ae, aM, Le, rF hi, rF hjf, List.getElem_take, J4])
  (fun k => by
   show al (fs.take i) (k + 1) _ _ _ _ _ _ (i : Int) = _
   rw [al]; simp only [hlen, Int.lt_irrefl, decide_false, ah, bE, J4]) aW 0 (Nat.zero_le _) (by rw [aA]; have := ho.len; omega)
 have hl : al (fs.take i) aW _ _ _ _ _ _ (0 : Int) = _ := hl
 unfold be bJ
 rw [hl]
 unfold Ay
 cases first (Le fs i) 0 i with
 | none => rfl
 | some j => simp [ae]
theorem Bl {t : af} (ho : v7 t.fields) : cY t aW (0 : Int) = some (if Br t.fields = true then 5 else 0) := by
 have hl := l9 (f := fun k i => cY t k (i : Int)) (n := t.fields.length) (P := Ay t.fields) (A := fun _ => some 5) (B := some 0) (fun k i hi => by
   show cY t (k + 1) (i : Int) = _
   rw [cY, gC hi, aw, cf hi, ae, dw (by omega), FI ho hi, d8 hi ho.len]
   simp only [ae, aM])
  (fun k => by rw [cY]; simp only [Int.lt_irrefl, decide_false, ah]; rfl) aW 0 (Nat.zero_le _) (by rw [aA]; have := ho.len; omega)
 have hl : cY t aW (0 : Int) = _ := hl
 rw [hl]
 unfold Br
 cases first (Ay t.fields) 0 t.fields.length <;> rfl
theorem Ii {t : af} (ho : v7 t.fields) (rec2 : Int → Option Int) {i : Nat} (hi : i < t.fields.length) : dB rec2 t (i : Int) aW (0 : Int) = if Ay t.fields i = true then some 5 else rec2 ((i + 1 : Nat) : Int) := by
 have hl := l9 (f := fun k j => dB rec2 t (i : Int) k (j : Int)) (n := i) (P := Le t.fields i) (A := fun j => some 5) (B := rec2 ((i + 1 : Nat) : Int)) (fun k j hj => by
   have hjf : j < t.fields.length := by omega
   show dB rec2 t (i : Int) (k + 1) (j : Int) = _
   rw [dB, gC hj, aw, cf hjf, cf hi, d8 hj (by have := ho.len; omega)]
   simp only [ae, aM, Le, rF hi, rF hjf])
  (fun k => by
   show dB rec2 t (i : Int) (k + 1) (i : Int) = _
   rw [dB]; simp only [Int.lt_irrefl, decide_false, ah, oX]; rw [d8 hi ho.len]) aW 0 (Nat.zero_le _) (by rw [aA]; have := ho.len; omega)
 have hl : dB rec2 t (i : Int) aW (0 : Int) = _ := hl
 rw [hl]
 unfold Ay
 cases first (Le t.fields i) 0 i <;> simp
theorem Hh {t : af} (ho : v7 t.fields) : di t aW (0 : Int) = some (if Br t.fields = true then 5 else 0) := by
 have hl := l9 (f := fun k i => di t k (i : Int)) (n := t.fields.length) (P := Ay t.fields) (A := fun _ => some 5) (B := some 0) (fun k i hi => by
   show di t (k + 1) (i : Int) = _
   rw [di, gC hi, aw, Ii ho _ hi])
  (fun k => by rw [di]; simp only [Int.lt_irrefl, decide_false, ah]; rfl) aW 0 (Nat.zero_le _) (by rw [aA]; have := ho.len; omega)
 have hl : di t aW (0 : Int) = _ := hl
 rw [hl]
 unfold Br
 cases first (Ay t.fields) 0 t.fields.length <;> rfl
theorem H2 {t : af} (ho : v7 t.fields) : dO t aW (0 : Int) = some (if C0 t.fields = true then 4 else if Br t.fields = true then 5 else 0) := by
 have hl := l9 (f := fun k i => dO t k (i : Int)) (n := t.fields.length) (P := sZ t.fields) (A := fun _ => some 4) (B := some (if Br t.fields = true then 5 else 0)) (fun k i hi => by
   show dO t (k + 1) (i : Int) = _
   rw [dO, gC hi, aw, cf hi, ae, LH _ (ho.nam _ (List.getElem_mem hi)), d8 hi ho.len]
   simp only [ae, aM, sZ, rF hi])
  (fun k => by rw [dO]; simp only [Int.lt_irrefl, decide_false, ah, o8]; exact Hh ho) aW 0 (Nat.zero_le _) (by rw [aA]; have := ho.len; omega)
 have hl : dO t aW (0 : Int) = _ := hl
 rw [hl]
 unfold C0
 cases first (sZ t.fields) 0 t.fields.length <;> rfl
def vf (t : af) : Int :=
 if t.kind = 6 then (if t.fields.length ≠ 1 ∨ (Lo t.fields 0).size ≠ 0 then 1 else 0)
 else if t.kind ≠ 7 then (if 0 < t.fields.length then 1 else 0)
 else if t.fields.length = 0 then 1 else if C0 t.fields = true then 4 else if Br t.fields = true then 5 else 0
def tW (t : af) : Prop := t.scale ≠ 0 ∧ (t.kind ≠ 3 ∨ t.scale < 0 ∨ 12 < t.scale)
instance (t : af) : Decidable (tW t) := by unfold tW; infer_instance
def shp (t : af) : Int := if t.kind < 1 ∨ 7 < t.kind then 3 else if tW t then 1 else vf t
theorem IN {t : af} (ho : v7 t.fields) : nH t = some (vf t) := by
 unfold nH kF vf
 rw [Fb ho, Bl ho]
 simp only [ae, aM]
 by_cases h6 : t.kind = 6
 ·simp only [h6, beq_self_eq_true, if_true]
  by_cases hl : t.fields.length = 1
  ·have : (0 : Nat) < t.fields.length := by omega
   rw [show at? t.fields (0 : Int) = some t.fields[0] from cf (i := 0) this]
   simp only [hl, ae, mc, rF this]
   by_cases hz : t.fields[0].name.size = 0 <;> simp [hz]
  ·simp [hl, show ((t.fields.length : Int) = 1) = False from eq_false (by omega)]
 ·by_cases h7 : t.kind = 7
  ·simp [h7]
   by_cases hl : t.fields = []
   ·simp [hl]
   ·simp [hl]
    by_cases hb : C0 t.fields = true
    ·simp [hb]
    ·simp [hb]
  ·simp [h6, h7]
   by_cases hl : 0 < t.fields.length
   ·simp [hl]
   ·simp [hl]
theorem Kk {t : af} (ho : v7 t.fields) : pJ t = some (shp t) := by
 have hj3 : ∀ x, gp t x = if x = true then some 1 else if t.kind ≠ 7 then some 0 else some (if C0 t.fields = true then 4 else if Br t.fields = true then 5 else 0) := by
  intro x
  unfold gp
  rw [H2 ho]
  cases x <;> simp [aM]
 have hleaf : eN t.kind = some (decide (t.kind ≠ 6 ∧ t.kind ≠ 7)) := by
  unfold eN lw
  by_cases h6 : t.kind = 6 <;> by_cases h7 : t.kind = 7 <;> simp [h6, h7, aM]
 have hj1 : ∀ x, gv t x = if x = true then some 1 else some (vf t) := by
  intro x
  cases x with
  | true => rfl
  | false =>
   unfold gv kt vf
   rw [hleaf]
   simp only [aM, ae, hj3]
   by_cases h6 : t.kind = 6
   ·simp only [h6, beq_self_eq_true, if_true]
    by_cases hl : t.fields.length = 1
    ·have : (0 : Nat) < t.fields.length := by omega
     rw [show at? t.fields (0 : Int) = some t.fields[0] from cf (i := 0) this]
     simp only [hl, ae, mc, rF this]
     by_cases hz : t.fields[0].name.size = 0 <;> simp [hz]
    ·simp [hl, show ((t.fields.length : Int) = 1) = False from eq_false (by omega)]
   ·by_cases h7 : t.kind = 7
    ·simp [h7]
     by_cases hl : t.fields = []
     ·simp [hl]
     ·simp [hl]
    ·simp [h6, h7]
     by_cases hl : 0 < t.fields.length
     ·simp [hl]
     ·simp [hl]
 unfold pJ shp cC js
 simp only [aM, hj1, ae]
 by_cases a1 : t.kind < 1
 ·simp [a1, show ¬ (1 : Int) ≤ t.kind by omega, ae]
 ·by_cases a2 : 7 < t.kind
  ·simp [a2, show (1 : Int) ≤ t.kind by omega, show ¬ t.kind ≤ 7 by omega, ae]
  ·simp only [a1, a2, show (1 : Int) ≤ t.kind by omega, show t.kind ≤ 7 by omega, decide_true, or_self, if_false, if_true, Bool.not_true, ae]
   unfold tW
   by_cases h3 : t.kind = 3
   ·by_cases b1 : t.scale < 0
    ·simp [h3, b1, show ¬ (0 : Int) ≤ t.scale by omega, show t.scale ≠ 0 by omega, ae]
    ·by_cases b2 : 12 < t.scale
     ·simp [h3, b1, b2, show (0 : Int) ≤ t.scale by omega, show ¬ t.scale ≤ 12 by omega, show t.scale ≠ 0 by omega, ae]
     ·simp [h3, b1, b2, show (0 : Int) ≤ t.scale by omega, show t.scale ≤ 12 by omega, ae]
   ·by_cases b0 : t.scale = 0 <;> simp [h3, b0]
end Go.Proofs.YtpmoopnkoknbeaaGreatDoor
namespace Go.Proofs.YtpmoopnkoknbeaaGreatDoor
open Go Go.SX Go.SX.Cal
inductive V : af → Prop where
 | mk (t : af) (h1 : shp t = 0) (h3 : t.fields.length ≤ 40) (h2 : ∀ f, f ∈ t.fields → V f.type) : V t
theorem JM (t : af) : mb t = some (decide (t.kind ≠ 6 ∧ t.kind ≠ 7)) := by
 unfold mb mH
 by_cases h6 : t.kind = 6 <;> by_cases h7 : t.kind = 7 <;> simp [h6, h7, aM]
theorem oT (k : Int) : eN k = some (decide (k ≠ 6 ∧ k ≠ 7)) := by
 unfold eN lw
 by_cases h6 : k = 6 <;> by_cases h7 : k = 7 <;> simp [h6, h7, aM]
theorem Jq {t : af} (ho : v7 t.fields) (q : af → Int → cc → Option (Int × cc)) (l z : Int) :
  dH q t l z = if shp t ≠ 0 then some (shp t, ⟨z⟩) else bR q t l aW z 0 := by
 have hj4 : ∀ x, cV q t l z x = if x = true then some (1, ⟨z⟩) else if vf t ≠ 0 then some (vf t, ⟨z⟩) else bR q t l aW z 0 := by
  intro x
  unfold cV
  rw [IN ho]
  cases x <;> simp [aM, ae]
 unfold dH gg shp
 simp only [aM, hj4]
 by_cases a1 : t.kind < 1
 ·simp [a1]
 ·by_cases a2 : 7 < t.kind
  ·simp [a1, a2]
  ·simp only [a1, a2, decide_false, or_self, if_false, Bool.false_eq_true]
   unfold tW
   by_cases b0 : t.scale = 0
   ·simp [b0]
   ·by_cases h3 : t.kind = 3
    ·by_cases b1 : t.scale < 0
     ·simp [b0, h3, b1]
     ·by_cases b2 : 12 < t.scale
      ·simp [b0, h3, b1, b2]
      ·simp [b0, h3, b1, b2]
    ·simp [b0, h3]
theorem IR {t : af} (ho : v7 t.fields) (q : af → Int → Int → Option (Int × Int)) (l z : Int) :
  fO q t l z = if shp t ≠ 0 then some (shp t, z) else dL q t l aW z 0 := by
 unfold fO
 rw [Kk ho]
 simp [aM, ae]
theorem MZ {t : af} (h : shp t = 0) (hl : t.fields.length ≤ 40) (hf : ∀ f ∈ t.fields, V f.type) : V t := .mk t h hl hf
theorem V.wid {t : af} (h : V t) : t.fields.length ≤ 40 := by cases h; assumption
theorem Ju {t : af} (h : shp t = 0) (hk : ¬ (t.kind ≠ 6 ∧ t.kind ≠ 7)) : 1 ≤ t.fields.length := by
 unfold shp at h
 split at h
 ·cases h
 ·split at h
  ·cases h
  ·unfold vf at h
   by_cases h6 : t.kind = 6
   ·rw [if_pos h6] at h
    by_cases h1 : t.fields.length = 1
    ·omega
    ·rw [if_pos (.inl h1)] at h; cases h
   ·rw [if_neg h6, if_neg (by omega)] at h
    by_cases h1 : t.fields.length = 0
    ·rw [if_pos h1] at h; cases h
    ·omega
theorem CU {t : af} (ho : v7 t.fields) (l : Int) (hl0 : -10 ≤ l) (hl1 : l ≤ 10) (q1 : af → Int → cc → Option (Int × cc)) (q2 : af → Int → Int → Option (Int × Int))
  (hq : ∀ f ∈ t.fields, ∀ n : Int, 0 ≤ n → n ≤ 40 → ∃ e m, q1 f.type (l + 1) ⟨n⟩ = some (e, ⟨m⟩) ∧ q2 f.type (l + 1) n = some (e, m) ∧ 0 ≤ m ∧ m ≤ 40 ∧ (e = 0 → V f.type ∧ n + 1 ≤ m)) :
  ∀ (kk i : Nat) (n : Int), i ≤ t.fields.length → t.fields.length - i < kk → 0 ≤ n → n ≤ 40 →
   ∃ e m, bR q1 t l kk n (i : Int) = some (e, ⟨m⟩) ∧ dL q2 t l kk n (i : Int) = some (e, m) ∧ 0 ≤ m ∧ m ≤ 40 ∧ (e = 0 → (∀ j, i ≤ j → ∀ h : j < t.fields.length, V t.fields[j].type) ∧ n + ((t.fields.length - i : Nat) : Int) ≤ m) := by
 intro kk
 induction kk with
 | zero => intro i n _ h; omega
 | succ kk ih =>
  intro i n hi hk n0 n1
  rw [bR, dL]
  by_cases h : i = t.fields.length
  ·subst h
   simp only [Int.lt_irrefl, decide_false, ah]
   exact ⟨0, n, rfl, rfl, n0, n1, fun _ => ⟨fun j h1 h2 => by omega, by omega⟩⟩
  ·have hlt : i < t.fields.length := by omega
   rw [gC hlt, aw, aw, cf hlt, ae, ae, fL (x := l + 1) (by omega) (by omega), d8 hlt ho.len]
   obtain ⟨e, m, h1, h2, h3, h4, h5⟩ := hq _ (List.getElem_mem hlt) n n0 n1
   rw [h1, h2]
   simp only [ae, aM]
   by_cases he : e = 0
   ·obtain ⟨e', m', g1, g2, g3, g4, g5⟩ := ih (i + 1) m (by omega) (by omega) h3 h4
    refine ⟨e', m', by simpa [he] using g1, by simpa [he] using g2, g3, g4, fun h0 => ⟨fun j hj hjl => ?_, ?_⟩⟩
    ·by_cases hji : j = i
     ·subst hji; exact (h5 he).1
     ·exact (g5 h0).1 j (by omega) hjl
    ·have a1 := (h5 he).2
     have a2 := (g5 h0).2
     omega
   ·exact ⟨e, m, by simp [he], by simp [he], h3, h4, fun h0 => absurd h0 he⟩
theorem check_eq : ∀ (d k : Nat) (t : af) (l n : Int), l = 5 - d → d ≤ 5 → d < k → dn t < 1000000000 → 0 ≤ n → n ≤ 40 →
  ∃ e m, aQ k t l ⟨n⟩ = some (e, ⟨m⟩) ∧ cL k t l n = some (e, m) ∧ 0 ≤ m ∧ m ≤ 40 ∧ (e = 0 → V t ∧ n + 1 ≤ m) := by
 intro d
 induction d with
 | zero =>
  intro k t l n hl _ hk hs n0 n1
  obtain ⟨k, rfl⟩ : ∃ k', k = k' + 1 := ⟨k - 1, by omega⟩
  have hl4 : (4 : Int) < l := by omega
  rw [aQ, cL]
  simp only [hl4, decide_true, aw, dG]
  exact ⟨7, n, rfl, rfl, n0, n1, fun h => by omega⟩
 | succ d ih =>
  intro k t l n hl hd hk hs n0 n1
  obtain ⟨k, rfl⟩ : ∃ k', k = k' + 1 := ⟨k - 1, by omega⟩
  have hl4 : ¬ (4 : Int) < l := by omega
  have hsz := gN t
  have ho : v7 t.fields := Jy (by omega)
  have hq : ∀ f ∈ t.fields, ∀ n : Int, 0 ≤ n → n ≤ 40 → ∃ e m, aQ k f.type (l + 1) ⟨n⟩ = some (e, ⟨m⟩) ∧ cL k f.type (l + 1) n = some (e, m) ∧ 0 ≤ m ∧ m ≤ 40 ∧ (e = 0 → V f.type ∧ n + 1 ≤ m) := by
   intro f hf n n0 n1
   have h1 := io hf
   have h2 := gG f
   exact ih k f.type (l + 1) n (by omega) (by omega) (by omega) (by omega) n0 n1
  have main : ∀ z : Int, 0 ≤ z → z ≤ 40 → n ≤ z → (t.kind ≠ 6 ∧ t.kind ≠ 7 → n + 1 ≤ z) → ∃ e m, dH (aQ k) t l z = some (e, ⟨m⟩) ∧ fO (cL k) t l z = some (e, m) ∧ 0 ≤ m ∧ m ≤ 40 ∧ (e = 0 → V t ∧ n + 1 ≤ m) := by
   intro z z0 z1 z2 z3
   rw [Jq ho, IR ho]
   by_cases hsh : shp t = 0
   ·obtain ⟨e, m, h1, h2, h3, h4, h5⟩ := CU ho l (by omega) (by omega) _ _ hq aW 0 z (Nat.zero_le _) (by rw [aA]; have := ho.len; omega) z0 z1
    refine ⟨e, m, by simpa [hsh] using h1, by simpa [hsh] using h2, h3, h4, fun he => ⟨MZ hsh (by have := (h5 he).2; omega) (fun f hf => ?_), ?_⟩⟩
    ·obtain ⟨j, hj, rfl⟩ := List.getElem_of_mem hf
     exact (h5 he).1 j (Nat.zero_le _) hj
    ·have a1 := (h5 he).2
     by_cases hlf : t.kind ≠ 6 ∧ t.kind ≠ 7
     ·have := z3 hlf; omega
     ·have := Ju hsh hlf; omega
   ·exact ⟨shp t, z, by simp [hsh], by simp [hsh], z0, z1, fun h => absurd h hsh⟩
  rw [aQ, cL]
  simp only [hl4, decide_false, ah, JM, oT, ae, dG]
  by_cases hleaf : t.kind ≠ 6 ∧ t.kind ≠ 7
  ·simp only [hleaf, ne_eq, not_false_eq_true, and_self, decide_true, aw]
   by_cases h40 : n = 40
   ·simp only [h40, beq_self_eq_true, aw]
    exact ⟨7, 40, rfl, rfl, by omega, by omega, fun h => by omega⟩
   ·have : (n == 40) = false := by simpa using h40
    simp only [this, ah]
    rw [fL (x := n + 1) (by omega) (by omega)]
    exact main (n + 1) (by omega) (by omega) (by omega) (fun _ => Int.le_refl _)
  ·simp only [hleaf, decide_false, ah]
   exact main n n0 n1 (Int.le_refl _) (fun h => absurd h hleaf)
theorem iW (t : af) (hs : dn t < 1000000000) : ∃ e, bC t = some e ∧ cZ t = some e ∧ (e = 0 → V t) := by
 obtain ⟨e, m, h1, h2, h3, h4, h5⟩ := check_eq 4 aW t 1 0 (by omega) (by omega) (by rw [aA]; omega) hs (by omega) (by omega)
 refine ⟨e, ?_, ?_, fun h => (h5 h).1⟩
 ·unfold bC; rw [h1]; rfl
 ·unfold cZ; rw [h2]; rfl
end Go.Proofs.YtpmoopnkoknbeaaGreatDoor
namespace Go.Proofs.YtpmoopnkoknbeaaGreatDoor
open Go Go.SX Go.SX.Cal Go.Lib
mutual
def aY : ac → Nat
 | ⟨_, _, _, s, it⟩ => s.size + bX it + 1
def bX : List ac → Nat
 | [] => 0
 | x :: l => aY x + bX l
end
theorem eb : ∀ v : ac, aY v = v.s.size + bX v.items + 1
 | ⟨_, _, _, _, _⟩ => by simp only [aY]
theorem ef : ∀ {l : List ac} {x : ac}, x ∈ l → aY x ≤ bX l
 | [], _, h => by cases h
 | y :: l, x, h => by
  simp only [bX]
  rcases List.mem_cons.1 h with rfl | h
  ·omega
  ·have := ef h; omega
theorem nO : ∀ v : ac, 1 ≤ aY v
 | ⟨_, _, _, _, _⟩ => by simp only [aY]; omega
theorem dZ : ∀ l : List ac, l.length ≤ bX l
 | [] => by simp [bX]
 | x :: l => by
  have := dZ l
  have := nO x
  simp only [bX, List.length_cons]; omega
theorem uo (b x : Bool) : ax b (some x) (some false) = some (b && x) := by cases b <;> rfl
theorem Hk (b x : Bool) : ax b (some true) (some x) = some (b || x) := by cases b <;> rfl
theorem au {α β : Type} (a : α) (f : α → Option β) : az (some a) f = f a := rfl
theorem p7 {P : Nat → Bool} {n : Nat} : ∀ (d i : Nat), i + d ≤ n → (∀ j, i ≤ j → j < i + d → P j = false) → first P i n = first P (i + d) n
 | 0, i, _, _ => rfl
 | d + 1, i, h, hP => by
  rw [jH (by omega), hP i (by omega) (by omega)]
  simp only [Bool.false_eq_true, if_false]
  rw [p7 d (i + 1) (by omega) (fun j h1 h2 => hP j (by omega) (by omega))]
  congr 1; omega
theorem wG (s : ByteArray) (i : Nat) (h : i < s.size) (hb : ¬ iI s i < 128) :
  1 ≤ (Utf8.decode s i).2 ∧ i + (Utf8.decode s i).2 ≤ s.size ∧ ∀ j, i ≤ j → j < i + (Utf8.decode s i).2 → 128 ≤ iI s j := by
 have e := nE s i h
 have one : ∀ j, i ≤ j → j < i + 1 → 128 ≤ iI s j := fun j h1 h2 => by
  have : j = i := by omega
  subst this; omega
 have ct : ∀ k, (decide (i + k < s.size) && (s.get! (i + k)).toNat / 64 == 2) = true → i + k < s.size ∧ 128 ≤ iI s (i + k) := by
  intro k hk
  simp only [Bool.and_eq_true, decide_eq_true_eq, beq_iff_eq] at hk
  rw [nE s _ hk.1] at hk
  exact ⟨hk.1, by omega⟩
 unfold Utf8.decode
 simp only [Nat.add_zero, e, if_neg hb]
 split
 ·rename_i h1
  simp only [Bool.and_eq_true] at h1
  obtain ⟨l1, b1⟩ := ct 1 (by simpa using h1.2)
  split
  ·refine ⟨by simp, by simp only; omega, fun j h2 h3 => ?_⟩
   simp only at h3
   by_cases hj : j = i
   ·subst hj; omega
   ·have : j = i + 1 := by omega
    subst this; exact b1
  ·exact ⟨by simp, by simp only; omega, one⟩
 ·split
  ·rename_i h1
   simp only [Bool.and_eq_true] at h1
   obtain ⟨l1, b1⟩ := ct 1 (by simpa using h1.1.2)
   obtain ⟨l2, b2⟩ := ct 2 (by simpa using h1.2)
   split
   ·refine ⟨by simp, by simp only; omega, fun j h2 h3 => ?_⟩
    simp only at h3
    by_cases hj : j = i
    ·subst hj; omega
    ·by_cases hj : j = i + 1
     ·subst hj; exact b1
     ·have : j = i + 2 := by omega
      subst this; exact b2
   ·exact ⟨by simp, by simp only; omega, one⟩
  ·split
   ·rename_i h1
    simp only [Bool.and_eq_true] at h1
    obtain ⟨l1, b1⟩ := ct 1 (by simpa using h1.1.1.2)
    obtain ⟨l2, b2⟩ := ct 2 (by simpa using h1.1.2)
    obtain ⟨l3, b3⟩ := ct 3 (by simpa using h1.2)
    split
    ·refine ⟨by simp, by simp only; omega, fun j h2 h3 => ?_⟩
     simp only at h3
     by_cases hj : j = i
     ·subst hj; omega
     ·by_cases hj : j = i + 1
      ·subst hj; exact b1
      ·by_cases hj : j = i + 2
       ·subst hj; exact b2
       ·have : j = i + 3 := by omega
        subst this; exact b3
    ·exact ⟨by simp, by simp only; omega, one⟩
   ·exact ⟨by simp, by simp only; omega, one⟩
def zR (s : ByteArray) (i : Nat) : Bool := decide (iI s i < 32) || iI s i == 127
theorem DQ (s : ByteArray) : ∀ k i, i ≤ s.size → s.size - i < k → fo s k i = some (first (zR s) i s.size).isNone := by
 intro k
 induction k with
 | zero => intro i _ h; omega
 | succ k ih =>
  intro i hi hk
  rw [fo]
  by_cases h : i = s.size
  ·subst h
   rw [kV]
   simp only [Nat.lt_irrefl, decide_false, ah, oZ]
   rfl
  ·have hlt : i < s.size := by omega
   simp only [hlt, decide_true, aw, mA, aM]
   by_cases hb : iI s i < 128
   ·rw [vJ s i hlt hb, jH hlt]
    by_cases h1 : iI s i < 32
    ·have : zR s i = true := by simp [zR, h1]
     simp [this, show ((iI s i : Nat) : Int) < 32 by omega]
    ·have e1 : ¬ ((iI s i : Nat) : Int) < 32 := by omega
     by_cases h2 : iI s i = 127
     ·have : zR s i = true := by simp [zR, h2]
      simp [this, h2]
     ·have : zR s i = false := by simp [zR, h1, h2]
      have e2 : ¬ ((iI s i : Nat) : Int) = 127 := by omega
      simp only [this, Int.ofNat_eq_natCast, e1, decide_false, Bool.false_eq_true, if_false, beq_iff_eq, e2]
      exact ih (i + 1) (by omega) (by omega)
   ·have h1 := vH s i hlt hb
    obtain ⟨h2, h3, h4⟩ := wG s i hlt hb
    have e1 : ¬ (((Utf8.decode s i).1 : Nat) : Int) < 32 := by omega
    have e2 : ¬ (((Utf8.decode s i).1 : Nat) : Int) = 127 := by omega
    simp only [Int.ofNat_eq_natCast, e1, decide_false, Bool.false_eq_true, if_false, beq_iff_eq, e2]
    rw [ih _ h3 (by omega), p7 _ i h3 (fun j a b => by
     have := h4 j a b
     simp only [zR, Bool.or_eq_false_iff, decide_eq_false_iff_not, beq_eq_false_iff_ne]
     omega)]
    simp
theorem DR (s : ByteArray) (hs : s.size < 1000000000) : ∀ k i, i ≤ s.size → s.size - i < k → cW s k (i : Int) = some (first (zR s) i s.size).isNone := by
 intro k
 induction k with
 | zero => intro i _ h; omega
 | succ k ih =>
  intro i hi hk
  rw [cW]
  by_cases h : i = s.size
  ·subst h
   rw [kV]
   simp only [Int.lt_irrefl, decide_false, ah, kM]
   rfl
  ·have hlt : i < s.size := by omega
   have g : (0 : Int) ≤ (i : Int) ∧ (i : Int) < (s.size : Int) := ⟨by omega, by omega⟩
   have e : ((s.data.toList.getD (i : Int).toNat 0).toNat : Int) = (iI s i : Int) := by simp [iI]
   simp only [gC hlt, aw, bI, if_pos g, au, iY, aM, e]
   rw [jH hlt, d8 hlt hs]
   by_cases h1 : iI s i < 32
   ·have : zR s i = true := by simp [zR, h1]
    simp [this, show ((iI s i : Nat) : Int) < 32 by omega]
   ·have e1 : ¬ ((iI s i : Nat) : Int) < 32 := by omega
    by_cases h2 : iI s i = 127
    ·have : zR s i = true := by simp [zR, h2]
     simp [this, h2]
    ·have : zR s i = false := by simp [zR, h1, h2]
     have e2 : ¬ ((iI s i : Nat) : Int) = 127 := by omega
     simp only [this, e1, decide_false, Bool.false_eq_true, if_false, beq_iff_eq, e2]
     exact ih (i + 1) (by omega) (by omega)
def pa (s : ByteArray) : Bool := decide (s.size ≤ 256) && (validD s.data.toList && (first (zR s) 0 s.size).isNone)
theorem Gn (s : ByteArray) (hs : s.size < 1000000000) : utf8_ValidString s = some (validD s.data.toList) := by
 unfold utf8_ValidString bI
 rw [if_pos (by omega)]
theorem Mm (s : ByteArray) (hs : s.size < 1000000000) : qz s = some (pa s) := by
 unfold qz my pa
 rw [Gn s hs, DQ s aW 0 (by omega) (by rw [aA]; omega)]
 by_cases h : s.size ≤ 256
 ·have : ¬ (256 : Int) < (s.size : Int) := by omega
  simp only [this, h, decide_false, decide_true, ah, au]
  cases validD s.data.toList <;> rfl
 ·have : (256 : Int) < (s.size : Int) := by omega
  simp only [this, h, decide_false, decide_true, aw]
  rfl
theorem KC (s : ByteArray) (hs : s.size < 1000000000) : kE s = some (pa s) := by
 have := DR s hs aW 0 (by omega) (by rw [aA]; omega)
 unfold kE iF pa
 rw [Gn s hs, show (0 : Int) = ((0 : Nat) : Int) from rfl, this]
 by_cases h : s.size ≤ 256
 ·have e : ¬ (256 : Int) < (s.size : Int) := by omega
  simp only [e, h, decide_false, decide_true, au]
  cases validD s.data.toList <;> rfl
 ·have e : (256 : Int) < (s.size : Int) := by omega
  simp only [e, h, decide_false, decide_true, au]
  cases validD s.data.toList <;> rfl
theorem Ac (a b c : Int) : bQ a b c = some (decide (b ≤ a) && decide (a ≤ c)) := by
 unfold bQ i7; exact uo _ _
theorem JE (a b c : Int) : cC a b c = some (decide (b ≤ a) && decide (a ≤ c)) := by
 unfold cC js; exact uo _ _
def bl (v : ac) : Bool :=
 let bare := v.n == 0 && v.scale == 0
 let noS := decide (v.s.size = 0)
 let noI := ((v.items.length : Int) == 0)
 if v.kind = 0 then bare && (noS && noI)
 else if v.kind = 1 then (decide (0 ≤ v.n) && decide (v.n ≤ 1)) && (v.scale == 0 && (noS && noI))
 else if v.kind = 2 then (decide (-999999999999999999 ≤ v.n) && decide (v.n ≤ 999999999999999999)) && (v.scale == 0 && (noS && noI))
 else if v.kind = 3 then (decide (-999999999999999999 ≤ v.n) && decide (v.n ≤ 999999999999999999)) && ((decide (0 ≤ v.scale) && decide (v.scale ≤ 12)) && (noS && noI))
 else if v.kind = 4 then bare && (pa v.s && noI)
 else if v.kind = 5 then (decide (-62135596800 ≤ v.n) && decide (v.n ≤ 253402300799)) && (v.scale == 0 && (noS && noI))
 else if v.kind = 6 then bare && (noS && decide ((v.items.length : Int) ≤ 64))
 else if v.kind = 7 then bare && (noS && decide ((0 : Int) < (v.items.length : Int)))
 else false
theorem KZ (v : ac) (hs : v.s.size < 1000000000) : oJ v = some (bl v) := by
 have j : ∀ x, jt v x = some (if v.kind = 0 then x && (decide (v.s.size = 0) && ((v.items.length : Int) == 0))
   else if v.kind = 1 then (decide (0 ≤ v.n) && decide (v.n ≤ 1)) && (v.scale == 0 && (decide (v.s.size = 0) && ((v.items.length : Int) == 0)))
   else if v.kind = 2 then (decide (-999999999999999999 ≤ v.n) && decide (v.n ≤ 999999999999999999)) && (v.scale == 0 && (decide (v.s.size = 0) && ((v.items.length : Int) == 0)))
   else if v.kind = 3 then (decide (-999999999999999999 ≤ v.n) && decide (v.n ≤ 999999999999999999)) && ((decide (0 ≤ v.scale) && decide (v.scale ≤ 12)) && (decide (v.s.size = 0) && ((v.items.length : Int) == 0)))
   else if v.kind = 4 then x && (pa v.s && ((v.items.length : Int) == 0))
   else if v.kind = 5 then (decide (-62135596800 ≤ v.n) && decide (v.n ≤ 253402300799)) && (v.scale == 0 && (decide (v.s.size = 0) && ((v.items.length : Int) == 0)))
   else if v.kind = 6 then x && (decide (v.s.size = 0) && decide ((v.items.length : Int) ≤ 64))
   else if v.kind = 7 then x && (decide (v.s.size = 0) && decide ((0 : Int) < (v.items.length : Int)))
   else false) := by
  intro x
  unfold jt jC ip im il jI iw jA jJ
  simp only [Ac, Mm v.s hs, au, uo, mc]
  simp only [aM, beq_iff_eq]
  repeat' split
  all_goals (first | rfl | simp_all)
 unfold oJ
 rw [j, j]
 unfold bl
 cases v.n == 0
 ·simp only [ah, Bool.false_and]
 ·simp only [aw, Bool.true_and]
theorem KY (v : ac) (hs : v.s.size < 1000000000) : qb v = some (bl v) := by
 have j : ∀ x, kz v x = some (if v.kind = 0 then x && (v.n == 0 && v.scale == 0)
   else if v.kind = 1 then x && ((decide (0 ≤ v.n) && decide (v.n ≤ 1)) && v.scale == 0)
   else if v.kind = 2 then x && ((decide (-999999999999999999 ≤ v.n) && decide (v.n ≤ 999999999999999999)) && v.scale == 0)
   else if v.kind = 3 then x && ((decide (-999999999999999999 ≤ v.n) && decide (v.n ≤ 999999999999999999)) && (decide (0 ≤ v.scale) && decide (v.scale ≤ 12)))
   else if v.kind = 4 then ((v.items.length : Int) == 0) && (v.n == 0 && (v.scale == 0 && pa v.s))
   else if v.kind = 5 then x && ((decide (-62135596800 ≤ v.n) && decide (v.n ≤ 253402300799)) && v.scale == 0)
   else if v.kind = 6 then decide (v.s.size = 0) && (v.n == 0 && (v.scale == 0 && decide ((v.items.length : Int) ≤ 64)))
   else if v.kind = 7 then decide (v.s.size = 0) && (v.n == 0 && (v.scale == 0 && decide ((0 : Int) < (v.items.length : Int))))
   else false) := by
  intro x
  unfold kz km kj ke kw jf ky je jg
  simp only [JE, KC v.s hs, au, uo, mc]
  simp only [aM, beq_iff_eq]
  repeat' split
  all_goals (first | rfl | simp_all)
 unfold qb
 rw [j, j, mc]
 unfold bl
 generalize decide (v.s.size = 0) = a
 generalize ((v.items.length : Int) == 0) = b
 generalize pa v.s = t
 generalize (v.n == 0) = c
 generalize (v.scale == 0) = d
 generalize (decide (0 ≤ v.n) && decide (v.n ≤ 1)) = e1
 generalize (decide (-999999999999999999 ≤ v.n) && decide (v.n ≤ 999999999999999999)) = e2
 generalize (decide (0 ≤ v.scale) && decide (v.scale ≤ 12)) = e3
 generalize (decide (-62135596800 ≤ v.n) && decide (v.n ≤ 253402300799)) = e4
 generalize decide ((v.items.length : Int) ≤ 64) = e5
 generalize decide ((0 : Int) < (v.items.length : Int)) = e6
 cases a <;> simp only [ah, aw] <;> congr 1 <;> repeat' split
 all_goals (first | rfl | (cases b <;> cases c <;> cases d <;> simp <;> done) | (simp [Bool.and_comm, Bool.and_assoc, Bool.and_left_comm]))
def dm (f : ac → Int → Bool × Int) : List ac → Int → Bool × Int
 | [], z => (true, z)
 | v :: l, z => if (f v z).1 = true then dm f l (f v z).2 else (false, (f v z).2)
def ls (v : ac) (z : Int) : Int := if v.kind = 0 then z else z + 1
def bc : Nat → ac → Int → Bool × Int
 | 0, v, z => (false, ls v z)
 | d + 1, v, z => if 256 < ls v z ∨ bl v = false then (false, ls v z) else dm (bc d) v.items (ls v z)
def cx (v : ac) : Bool := (bc 4 v 0).1
theorem zC {f : ac → Int → Bool × Int} : ∀ {l : List ac} {z : Int}, (∀ v ∈ l, ∀ z, 0 ≤ z → z ≤ 256 → 0 ≤ (f v z).2 ∧ (f v z).2 ≤ 257 ∧ ((f v z).1 = true → (f v z).2 ≤ 256)) → 0 ≤ z → z ≤ 256 →
  0 ≤ (dm f l z).2 ∧ (dm f l z).2 ≤ 257 ∧ ((dm f l z).1 = true → (dm f l z).2 ≤ 256)
 | [], z, _, h0, h1 => by simp only [dm]; omega
 | v :: l, z, hf, h0, h1 => by
  obtain ⟨a, b, c⟩ := hf v (by simp) z h0 h1
  simp only [dm]
  split
  ·rename_i h
   exact zC (fun x hx => hf x (by simp [hx])) a (c h)
  ·exact ⟨a, b, fun h => by cases h⟩
theorem vV : ∀ (d : Nat) (v : ac) (z : Int), 0 ≤ z → z ≤ 256 → 0 ≤ (bc d v z).2 ∧ (bc d v z).2 ≤ 257 ∧ ((bc d v z).1 = true → (bc d v z).2 ≤ 256)
 | 0, v, z, h0, h1 => by
  have hc : z ≤ ls v z ∧ ls v z ≤ z + 1 := by unfold ls; split <;> omega
  simp only [bc]
  exact ⟨by omega, by omega, fun h => by cases h⟩
 | d + 1, v, z, h0, h1 => by
  have hc : z ≤ ls v z ∧ ls v z ≤ z + 1 := by unfold ls; split <;> omega
  simp only [bc]
  split
  ·exact ⟨by omega, by omega, fun h => by cases h⟩
  ·rename_i h
   have : ¬ 256 < ls v z := fun e => h (.inl e)
   exact zC (fun x _ => vV d x) (by omega) (by omega)
theorem t8 (v : ac) (z : Int) (h0 : 0 ≤ z) (h1 : z ≤ 256) {β : Type} (f : Int → Option β) : ax (v.kind != (0 : Int)) (f (IntKind.i64.wrap (z + 1))) (f z) = f (ls v z) := by
 rw [fL (by omega) (by omega)]
 unfold ls
 by_cases h : v.kind = 0
 ·simp [h, aM]
 ·simp [h, aM]
theorem BJ {d : Nat} (l : Int) (q : ac → Int → Int → Option (Bool × Int)) (xs : List ac) (hl : xs.length < 1000000000)
  (hq : ∀ v ∈ xs, ∀ z, 0 ≤ z → z ≤ 256 → q v l z = some (!(bc d v z).1, (bc d v z).2)) : ∀ (k i : Nat) (z : Int), i ≤ xs.length → xs.length - i < k → 0 ≤ z → z ≤ 256 →
  ∃ r : Int, aH q xs l k z (i : Int) = some (r, (dm (bc d) (xs.drop i) z).2) ∧ decide (0 ≤ r) = !(dm (bc d) (xs.drop i) z).1 := by
 intro k
 induction k with
 | zero => intro i z _ h; omega
 | succ k ih =>
  intro i z hi hk h0 h1
  rw [aH]
  by_cases h : i = xs.length
  ·subst h
   simp only [Int.lt_irrefl, decide_false, ah, List.drop_length, dm, bG]
   exact ⟨-1, rfl, rfl⟩
  ·have hlt : i < xs.length := by omega
   have hm : xs[i] ∈ xs := List.getElem_mem hlt
   simp only [gC hlt, aw, cf hlt, au, hq _ hm z h0 h1]
   rw [List.drop_eq_getElem_cons hlt]
   simp only [dm]
   obtain ⟨a, b, c⟩ := vV d xs[i] z h0 h1
   cases hs : (bc d xs[i] z).1 with
   | false =>
    simp only [Bool.not_false, aw, Bool.false_eq_true, if_false]
    exact ⟨_, rfl, by simp⟩
   | true =>
    simp only [Bool.not_true, ah, if_true]
    rw [d8 hlt hl]
    exact ih (i + 1) _ (by omega) (by omega) a (c hs)
theorem Fl : ∀ (d k : Nat) (v : ac) (z : Int), d ≤ 4 → 4 * d + 4 ≤ k → aY v < 1000000000 → 0 ≤ z → z ≤ 256 → iB k v (5 - d : Int) z = some (bc d v z) := by
 intro d
 induction d with
 | zero =>
  intro k v z _ hk hs h0 h1
  obtain ⟨k, rfl⟩ : ∃ q, k = q + 1 := ⟨k - 1, by omega⟩
  rw [iB, t8 v z h0 h1]
  unfold jv ix
  simp [bc, aw]
 | succ d ih =>
  intro k v z hd hk hs h0 h1
  obtain ⟨k, rfl⟩ : ∃ q, k = q + 4 := ⟨k - 4, by omega⟩
  have hsz := eb v
  have hlen := dZ v.items
  rw [iB, t8 v z h0 h1]
  unfold jv ix
  rw [KZ v (by omega)]
  have e4 : ¬ (4 : Int) < 5 - ((d + 1 : Nat) : Int) := by omega
  have hc : z ≤ ls v z ∧ ls v z ≤ z + 1 := by unfold ls; split <;> omega
  simp only [e4, decide_false, ah, bc, au]
  by_cases h2 : (256 : Int) < ls v z
  ·simp [h2, aw]
  ·cases hp : bl v with
   | false => simp [h2, aw, ah]
   | true =>
    simp only [h2, decide_false, ah, Bool.not_true, false_or, Bool.true_eq_false, if_false]
    have := BJ (d := d) (5 - ((d + 1 : Nat) : Int)) (fR (k + 1)) v.items (by omega) (by
     intro x hx z h0 h1
     have := ef hx
     rw [fR, fL (by omega) (by omega), show (5 - ((d + 1 : Nat) : Int) + 1) = 5 - (d : Int) by omega, ih k x z (by omega) (by omega) (by omega) h0 h1]
     rfl) aW 0 (ls v z) (by omega) (by rw [aA]; omega) (by omega) (by omega)
    obtain ⟨r, e1, e2⟩ := this
    rw [show ((0 : Nat) : Int) = (0 : Int) from rfl] at e1
    rw [aB, aP, e1]
    simp only [au, e2, List.drop_zero, Bool.not_not]
theorem o9 (v : ac) (hs : aY v < 1000000000) : iD v = some (cx v) := by
 unfold iD cx
 have := Fl 4 aW v 0 (by omega) (by rw [aA]; omega) hs (by omega) (by omega)
 rw [show (5 - ((4 : Nat) : Int)) = (1 : Int) from rfl] at this
 rw [this]; rfl
theorem B1 {d : Nat} (l : Int) (hl0 : 0 ≤ l) (hl1 : l ≤ 100) (q : ac → Int → Int → Option (Bool × Int)) (v : ac) (hl : v.items.length < 1000000000)
  (hq : ∀ x ∈ v.items, ∀ z, 0 ≤ z → z ≤ 256 → q x (l + 1) z = some (bc d x z)) : ∀ (k i : Nat) (z : Int), i ≤ v.items.length → v.items.length - i < k → 0 ≤ z → z ≤ 256 →
  hU q v l k z (i : Int) = some (dm (bc d) (v.items.drop i) z) := by
 intro k
 induction k with
 | zero => intro i z _ h; omega
 | succ k ih =>
  intro i z hi hk h0 h1
  rw [hU]
  by_cases h : i = v.items.length
  ·subst h
   simp only [Int.lt_irrefl, decide_false, ah, List.drop_length, dm, o7]
  ·have hlt : i < v.items.length := by omega
   have hm : v.items[i] ∈ v.items := List.getElem_mem hlt
   rw [fL (x := l + 1) (by omega) (by omega)]
   simp only [gC hlt, aw, cf hlt, au, hq _ hm z h0 h1]
   rw [List.drop_eq_getElem_cons hlt]
   simp only [dm]
   obtain ⟨a, b, c⟩ := vV d v.items[i] z h0 h1
   cases hs : (bc d v.items[i] z).1 with
   | false => simp only [Bool.not_false, aw, Bool.false_eq_true, if_false]
   | true =>
    simp only [Bool.not_true, ah, if_true]
    rw [d8 hlt hl]
    exact ih (i + 1) _ (by omega) (by omega) a (c hs)
theorem FU : ∀ (d k : Nat) (v : ac) (z : Int), d ≤ 4 → d + 1 ≤ k → aY v < 1000000000 → 0 ≤ z → z ≤ 256 → fg k v (5 - d : Int) z = some (bc d v z) := by
 intro d
 induction d with
 | zero =>
  intro k v z _ hk hs h0 h1
  obtain ⟨k, rfl⟩ : ∃ q, k = q + 1 := ⟨k - 1, by omega⟩
  rw [fg, t8 v z h0 h1]
  unfold ko jd
  simp [bc, aw]
 | succ d ih =>
  intro k v z hd hk hs h0 h1
  obtain ⟨k, rfl⟩ : ∃ q, k = q + 1 := ⟨k - 1, by omega⟩
  have hsz := eb v
  have hlen := dZ v.items
  rw [fg, t8 v z h0 h1]
  unfold ko jd
  rw [KY v (by omega)]
  have e4 : ¬ (4 : Int) < 5 - ((d + 1 : Nat) : Int) := by omega
  have hc : z ≤ ls v z ∧ ls v z ≤ z + 1 := by unfold ls; split <;> omega
  simp only [e4, decide_false, ah, bc, au]
  by_cases h2 : (256 : Int) < ls v z
  ·simp [h2, aw]
  ·cases hp : bl v with
   | false => simp [h2, aw, ah]
   | true =>
    simp only [h2, decide_false, ah, Bool.not_true, false_or, Bool.true_eq_false, if_false]
    have := B1 (d := d) (5 - ((d + 1 : Nat) : Int)) (by omega) (by omega) (fg k) v (by omega) (by
     intro x hx z h0 h1
     have := ef hx
     rw [show (5 - ((d + 1 : Nat) : Int) + 1) = 5 - (d : Int) by omega]
     exact ih k x z (by omega) (by omega) (by omega) h0 h1) aW 0 (ls v z) (by omega) (by rw [aA]; omega) (by omega) (by omega)
    rw [show ((0 : Nat) : Int) = (0 : Int) from rfl, List.drop_zero] at this
    exact this
theorem vp (v : ac) (hs : aY v < 1000000000) : iU v = some (cx v) := by
 unfold iU cx
 have := FU 4 aW v 0 (by omega) (by rw [aA]; omega) hs (by omega) (by omega)
 rw [show (5 - ((4 : Nat) : Int)) = (1 : Int) from rfl] at this
 rw [this]; rfl
end Go.Proofs.YtpmoopnkoknbeaaGreatDoor
namespace Go.Proofs.YtpmoopnkoknbeaaGreatDoor
open Go Go.SX Go.SX.Cal Go.Lib
def pF (d : Nat) (v : ac) : Prop := ∃ z, (bc d v z).1 = true
theorem yv {f : ac → Int → Bool × Int} : ∀ {l : List ac} {z : Int}, (dm f l z).1 = true → ∀ x ∈ l, ∃ z', (f x z').1 = true
 | [], _, _, x, hx => by cases hx
 | v :: l, z, h, x, hx => by
  simp only [dm] at h
  by_cases hv : (f v z).1 = true
  ·rw [if_pos hv] at h
   rcases List.mem_cons.1 hx with rfl | hx
   ·exact ⟨z, hv⟩
   ·exact yv h x hx
  ·rw [if_neg hv] at h; cases h
theorem pF.zero {v : ac} (h : pF 0 v) : False := by obtain ⟨z, h⟩ := h; cases h
theorem pF.succ {d : Nat} {v : ac} (h : pF (d + 1) v) : bl v = true ∧ ∀ x ∈ v.items, pF d x := by
 obtain ⟨z, h⟩ := h
 simp only [bc] at h
 by_cases hc : 256 < ls v z ∨ bl v = false
 ·rw [if_pos hc] at h; cases h
 ·rw [if_neg hc] at h
  refine ⟨?_, fun x hx => yv h x hx⟩
  cases hp : bl v with
  | true => rfl
  | false => exact absurd (.inr hp) hc
theorem bL {v : ac} (h : bl v = true) (hk : v.kind ≠ 3) : v.scale = 0 := by
 unfold bl at h
 simp only at h
 split at h
 ·simp at h; exact h.1.2
 ·split at h
  ·simp at h; exact h.2.1
  ·split at h
   ·simp at h; exact h.2.1
   ·split at h
    ·simp at h; exact h.1.2
    ·split at h
     ·simp at h; exact h.2.1
     ·split at h
      ·simp at h; exact h.1.2
      ·split at h
       ·simp at h; exact h.1.2
       ·cases h
theorem bn {v : ac} (h : bl v = true) (h6 : v.kind ≠ 6) (h7 : v.kind ≠ 7) : v.items = [] := by
 unfold bl at h
 simp only at h
 rw [← List.length_eq_zero_iff]
 split at h
 ·simp at h; simp [h.2.2]
 ·split at h
  ·simp at h; simp [h.2.2.2]
  ·split at h
   ·simp at h; simp [h.2.2.2]
   ·split at h
    ·simp at h; simp [h.2.2.2]
    ·split at h
     ·simp at h; simp [h.2.2]
     ·split at h
      ·simp at h; simp [h.2.2.2]
      ·cases h
theorem V.sh {t : af} (h : V t) : shp t = 0 := by cases h; assumption
theorem V.fs {t : af} (h : V t) : ∀ f, f ∈ t.fields → V f.type := by cases h; assumption
theorem V.scale {t : af} (h : V t) (hk : t.kind ≠ 3) : t.scale = 0 := by
 have := h.sh
 unfold shp at this
 split at this
 ·cases this
 ·by_cases h2 : tW t
  ·rw [if_pos h2] at this; cases this
  ·by_cases hs : t.scale = 0
   ·exact hs
   ·exact absurd ⟨hs, .inl hk⟩ h2
theorem V.list {t : af} (h : V t) (hk : t.kind = 6) : t.fields.length = 1 := by
 have := h.sh
 unfold shp at this
 split at this
 ·cases this
 ·by_cases h2 : tW t
  ·rw [if_pos h2] at this; cases this
  ·rw [if_neg h2] at this
   unfold vf at this
   rw [if_pos hk] at this
   split at this
   ·cases this
   ·rename_i h3
    by_cases hl : t.fields.length = 1
    ·exact hl
    ·exact absurd (.inl hl) h3
def ft (t : af) (i : Nat) : af := (t.fields[if t.kind = 6 then 0 else i]?.map (·.type)).getD ⟨0, 0, []⟩
def nd (t : af) (i : Nat) : Bool := (t.fields[if t.kind = 6 then 0 else i]?.map (·.need)).getD false
def iv (v : ac) (i : Nat) : ac := v.items[i]?.getD ⟨0, 0, 0, ByteArray.empty, []⟩
theorem lI {v : ac} {i : Nat} (h : i < v.items.length) : v.items[i] = iv v i := by simp [iv, h]
def qK : Nat → af → ac → Bool
 | 0, _, _ => true
 | d + 1, t, v =>
  if v.kind = 0 then true
  else if v.kind ≠ t.kind then false
  else if v.kind = 3 then v.scale == t.scale
  else if v.kind = 7 ∧ t.fields.length ≠ v.items.length then false
  else (first (fun i => !qK d (ft t i) (iv v i)) 0 v.items.length).isNone
def H6 (t : af) (v : ac) : Prop := ∀ i, i < v.items.length → (if t.kind = 6 then 0 else i) < t.fields.length
theorem xL {d : Nat} {t : af} {v : ac} (hs : pF (d + 1) v) (ht : V t) (h : qK (d + 1) t v = true) : H6 t v ∧ ∀ i, i < v.items.length → qK d (ft t i) (iv v i) = true := by
 obtain ⟨hp, _⟩ := hs.succ
 by_cases h67 : v.kind = 6 ∨ v.kind = 7
 ·simp only [qK] at h
  rw [if_neg (by omega)] at h
  by_cases hk : v.kind = t.kind
  ·rw [if_neg (fun hh => hh hk), if_neg (by omega)] at h
   by_cases hl : v.kind = 7 ∧ t.fields.length ≠ v.items.length
   ·rw [if_pos hl] at h; cases h
   ·rw [if_neg hl] at h
    have hn := Option.isNone_iff_eq_none.1 h
    rw [jE] at hn
    refine ⟨fun i hi => ?_, fun i hi => by simpa using hn i (Nat.zero_le _) hi⟩
    by_cases h6 : t.kind = 6
    ·rw [if_pos h6, ht.list h6]; omega
    ·rw [if_neg h6]
     have : ¬ t.fields.length ≠ v.items.length := fun hh => hl ⟨by omega, hh⟩
     omega
  ·rw [if_pos hk] at h; cases h
 ·have : v.items = [] := bn hp (by omega) (by omega)
  refine ⟨fun i hi => ?_, fun i hi => ?_⟩
  ·rw [this] at hi; simp at hi
  ·rw [this] at hi; simp at hi
theorem qF {t : af} {i : Nat} (h : (if t.kind = 6 then 0 else i) < t.fields.length) : ∃ f : aL, f ∈ t.fields ∧ t.fields[if t.kind = 6 then 0 else i]? = some f ∧ f.type = ft t i ∧ f.need = nd t i := by
 refine ⟨t.fields[if t.kind = 6 then 0 else i], List.getElem_mem h, List.getElem?_eq_getElem h, ?_, ?_⟩
 ·unfold ft; rw [List.getElem?_eq_getElem h]; rfl
 ·unfold nd; rw [List.getElem?_eq_getElem h]; rfl
theorem fM {α : Type} {xs : List α} {i : Nat} {x : α} (h : xs[i]? = some x) : at? xs (i : Int) = some x := by unfold at?; simp [h]
theorem lP {v : ac} {i : Nat} (h : i < v.items.length) : iv v i ∈ v.items := by rw [← lI h]; exact List.getElem_mem h
theorem of_eq : ∀ (d k k' : Nat) (t : af) (v : ac), pF d v → V t → aY v < 1000000000 → dn t < 1000000000 → 4 * d + 1 ≤ k → d + 1 ≤ k' →
  lp k t v = some (qK d t v) ∧ eY k' t v = some (qK d t v) := by
 intro d
 induction d with
 | zero => intro k k' t v hs; exact hs.zero.elim
 | succ d ih =>
  intro k k' t v hs ht hv hT hk hk'
  obtain ⟨k, rfl⟩ : ∃ q, k = q + 4 := ⟨k - 4, by omega⟩
  obtain ⟨k', rfl⟩ : ∃ q, k' = q + 1 := ⟨k' - 1, by omega⟩
  obtain ⟨hp, hi⟩ := hs.succ
  have hsz := eb v
  have hlen := dZ v.items
  have hsT := gN t
  have hlF := nS t.fields
  rw [lp, eY]
  simp only [qK, pZ]
  by_cases h0 : v.kind = 0
  ·simp [h0, aM]
  ·by_cases hkk : v.kind = t.kind
   ·have sc : v.kind ≠ 3 → v.scale = t.scale := fun h => by rw [bL hp h, ht.scale (by omega)]
    -- the items
    have room : ¬ (v.kind = 7 ∧ t.fields.length ≠ v.items.length) → H6 t v := by
     intro hn i hi
     by_cases h6 : t.kind = 6
     ·rw [if_pos h6, ht.list h6]; omega
     ·rw [if_neg h6]
      by_cases h7 : v.kind = 7
      ·have : ¬ t.fields.length ≠ v.items.length := fun hh => hn ⟨h7, hh⟩
       omega
      ·rw [bn hp (by omega) h7] at hi; simp at hi
    have sub : H6 t v → ∀ i, i < v.items.length → ∃ f : aL, t.fields[if t.kind = 6 then 0 else i]? = some f ∧ f.type = ft t i ∧ lp k (ft t i) (iv v i) = some (qK d (ft t i) (iv v i)) ∧ eY k' (ft t i) (iv v i) = some (qK d (ft t i) (iv v i)) := by
     intro hf i hi'
     obtain ⟨f, f1, f2, f3, _⟩ := qF (hf i hi')
     have m1 := ef (lP hi')
     have m2 := io f1
     have m3 := gG f
     rw [f3] at m3
     obtain ⟨a, b⟩ := ih k k' (ft t i) (iv v i) (hi _ (lP hi')) (by rw [← f3]; exact ht.fs f f1) (by omega) (by omega) (by omega) (by omega)
     exact ⟨f, f2, f3, a, b⟩
    have ref : H6 t v → eD (eY k') t v aW (0 : Int) = some (first (fun i => !qK d (ft t i) (iv v i)) 0 v.items.length).isNone := by
     intro hf
     have := l9 (f := fun k i => eD (eY k') t v k (i : Int)) (n := v.items.length) (P := fun i => !qK d (ft t i) (iv v i)) (A := fun _ => some false) (B := some true) (fun kk i hi' => by
      obtain ⟨f, f2, f3, _, f5⟩ := sub hf i hi'
      simp only [eD, gC hi', aw, qt]
      have e : ax (t.kind == (6 : Int)) (az (at? t.fields (0 : Int)) fun e1 => az (at? v.items (i : Int)) fun e2 => az (eY k' e1.type e2) fun r1 => ax (!r1) (some false) (eD (eY k') t v kk (IntKind.i64.wrap ((i : Int) + 1))))
        (az (at? t.fields (i : Int)) fun e1 => az (at? v.items (i : Int)) fun e2 => az (eY k' e1.type e2) fun r1 => ax (!r1) (some false) (eD (eY k') t v kk (IntKind.i64.wrap ((i : Int) + 1)))) =
        (az (at? t.fields ((if t.kind = 6 then 0 else i : Nat) : Int)) fun e1 => az (at? v.items (i : Int)) fun e2 => az (eY k' e1.type e2) fun r1 => ax (!r1) (some false) (eD (eY k') t v kk (IntKind.i64.wrap ((i : Int) + 1)))) := by
       by_cases h6 : t.kind = 6 <;> simp [h6, aM]
      rw [e, fM f2, au, cf hi', au, f3, lI hi', f5, au, d8 hi' (by omega), aM]) (fun kk => by simp [eD, aM, tI]) aW 0 (Nat.zero_le _) (by rw [aA]; omega)
     rw [show ((0 : Nat) : Int) = (0 : Int) from rfl] at this
     rw [this]
     cases first (fun i => !qK d (ft t i) (iv v i)) 0 v.items.length <;> rfl
    have e0 : (v.kind == (0 : Int)) = false := by simp [h0]
    have e1 : (v.kind != t.kind) = false := by simp [hkk]
    have e2 : ¬ v.kind ≠ t.kind := fun h => h hkk
    simp only [e0, e1, e2, ah, h0, if_false]
    by_cases h3 : v.kind = 3
    ·have hni : v.items = [] := bn hp (by omega) (by omega)
     refine ⟨by simp [h3, aM], ?_⟩
     have hr := ref (fun i hi => by rw [hni] at hi; simp at hi)
     rw [hni] at hr
     simp only [List.length_nil, kV, Option.isNone_none] at hr
     simp only [h3, if_true, mi]
     by_cases hsc : v.scale = t.scale
     ·have : t.kind ≠ 7 := by omega
      simp [hsc, aM, hr, this]
     ·simp [hsc, aM]
    ·have hsc := sc h3
     have e3 : (v.kind == (3 : Int)) = false := by simp [h3]
     have e4 : (v.scale != t.scale) = false := by simp [hsc]
     simp only [e3, e4, ah, h3, if_false]
     by_cases hl : v.kind = 7 ∧ t.fields.length ≠ v.items.length
     ·have e6 : (v.kind == (6 : Int)) = false := by simp [hl.1]
      have e7 : (v.kind == (7 : Int)) = true := by simp [hl.1]
      have t7 : (t.kind == (7 : Int)) = true := by rw [← hkk]; exact e7
      have n1 : ((t.fields.length : Int) != (v.items.length : Int)) = true := by simp; omega
      have n2 : ((v.items.length : Int) != (t.fields.length : Int)) = true := by simp; omega
      rw [aC]
      simp [e6, e7, t7, n1, n2, hl, aw, ah, mi, au]
     ·have hf := room hl
      have hr := ref hf
      simp only [hl, if_false]
      refine ⟨?_, ?_⟩
      ·by_cases h6 : v.kind = 6
       ·have e6 : (v.kind == (6 : Int)) = true := by simp [h6]
        have t6 : t.kind = 6 := by omega
        have := l9 (f := fun kk i => aD (iP (k + 1)) v.items t.kind t.scale t.fields kk (i : Int)) (n := v.items.length) (P := fun i => !qK d (ft t i) (iv v i)) (A := fun i => some (i : Int)) (B := some (-1)) (fun kk i hi' => by
         obtain ⟨f, f2, f3, f4, _⟩ := sub hf i hi'
         rw [if_pos t6] at f2
         simp only [aD, gC hi', aw, cf hi', au, iP]
         rw [show (0 : Int) = ((0 : Nat) : Int) from rfl, fM f2, au, f3, lI hi', f4, au, au, d8 hi' (by omega), aM]) (fun kk => by simp [aD, aM, bN]) aW 0 (Nat.zero_le _) (by rw [aA]; omega)
        rw [show ((0 : Nat) : Int) = (0 : Int) from rfl] at this
        rw [e6, aw, aR, aX, this]
        cases first (fun i => !qK d (ft t i) (iv v i)) 0 v.items.length <;> simp [au]
       ·have e6 : (v.kind == (6 : Int)) = false := by simp [h6]
        by_cases h7 : v.kind = 7
        ·have e7 : (v.kind == (7 : Int)) = true := by simp [h7]
         have hlen' : t.fields.length = v.items.length := by
          by_cases hh : t.fields.length = v.items.length
          ·exact hh
          ·exact absurd ⟨h7, hh⟩ hl
         have n1 : ((t.fields.length : Int) != (v.items.length : Int)) = false := by simp; omega
         have := l9 (f := fun kk i => ap (kL (k + 2)) t.fields v.items kk (i : Int)) (n := v.items.length) (P := fun i => !qK d (ft t i) (iv v i)) (A := fun _ => some false) (B := some true) (fun kk i hi' => by
          obtain ⟨f, f2, f3, _, _⟩ := sub hf i hi'
          obtain ⟨f', f1', f2', f3', _⟩ := qF (hf i hi')
          have m1 := ef (lP hi')
          have m2 := io f1'
          have m3 := gG f'
          rw [f3'] at m3
          have f4 := (ih (k + 1) (d + 1) (ft t i) (iv v i) (hi _ (lP hi')) (by rw [← f3']; exact ht.fs f' f1') (by omega) (by omega) (by omega) (by omega)).1
          rw [if_neg (by omega)] at f2
          have hi2 : i < t.fields.length := by omega
          simp only [ap, gC hi2, aw, fM f2, au, kL]
          rw [cf hi', au, f3, lI hi', f4, au, au, d8 hi' (by omega), aM]) (fun kk => by simp [ap, aM, ba, hlen']) aW 0 (Nat.zero_le _) (by rw [aA]; omega)
         rw [show ((0 : Nat) : Int) = (0 : Int) from rfl] at this
         rw [e6, e7, ah, aw, aC, n1, ah, this]
         cases first (fun i => !qK d (ft t i) (iv v i)) 0 v.items.length <;> rfl
        ·have e7 : (v.kind == (7 : Int)) = false := by simp [h7]
         rw [e6, e7, ah, ah, bn hp h6 h7]
         simp [kV]
      ·have n2 : v.kind = 7 → ((v.items.length : Int) != (t.fields.length : Int)) = false := by
        intro h7
        have : ¬ t.fields.length ≠ v.items.length := fun hh => hl ⟨h7, hh⟩
        simp; omega
       simp only [mi]
       by_cases h7 : v.kind = 7
       ·have t7 : (t.kind == (7 : Int)) = true := by simp [← hkk, h7]
        rw [t7, aw, n2 h7, ah]; exact hr
       ·have t7 : (t.kind == (7 : Int)) = false := by simp [← hkk, h7]
        rw [t7, ah, ah]; exact hr
   ·have e0 : (v.kind == (0 : Int)) = false := by simp [h0]
    have e1 : (v.kind != t.kind) = true := by simp [hkk]
    simp [e0, e1, h0, hkk, aw, ah]
def ig : Nat → af → ac → Bool
 | 0, _, _ => false
 | d + 1, t, v => (first (fun i => ((iv v i).kind == 0 && nd t i) || ig d (ft t i) (iv v i)) 0 v.items.length).isSome
theorem AQ : ∀ (d k k' : Nat) (t : af) (v : ac), pF d v → V t → qK d t v = true → aY v < 1000000000 → dn t < 1000000000 → d + 1 ≤ k → d + 1 ≤ k' →
  fw k t v = some (ig d t v) ∧ cI k' t v = some (ig d t v) := by
 intro d
 induction d with
 | zero => intro k k' t v hs; exact hs.zero.elim
 | succ d ih =>
  intro k k' t v hs ht ho hv hT hk hk'
  obtain ⟨k, rfl⟩ : ∃ q, k = q + 1 := ⟨k - 1, by omega⟩
  obtain ⟨k', rfl⟩ : ∃ q, k' = q + 1 := ⟨k' - 1, by omega⟩
  obtain ⟨hp, hi⟩ := hs.succ
  obtain ⟨hf, hof⟩ := xL hs ht ho
  have hsz := eb v
  have hlen := dZ v.items
  have hsT := gN t
  have sub : ∀ i, i < v.items.length → ∃ f : aL, t.fields[if t.kind = 6 then 0 else i]? = some f ∧ f.type = ft t i ∧ f.need = nd t i ∧ fw k (ft t i) (iv v i) = some (ig d (ft t i) (iv v i)) ∧ cI k' (ft t i) (iv v i) = some (ig d (ft t i) (iv v i)) := by
   intro i hi'
   obtain ⟨f, f1, f2, f3, f4⟩ := qF (hf i hi')
   have m1 := ef (lP hi')
   have m2 := io f1
   have m3 := gG f
   rw [f3] at m3
   obtain ⟨a, b⟩ := ih k k' (ft t i) (iv v i) (hi _ (lP hi')) (by rw [← f3]; exact ht.fs f f1) (hof i hi') (by omega) (by omega) (by omega) (by omega)
   exact ⟨f, f2, f3, f4, a, b⟩
  rw [fw, cI]
  simp only [ig]
  refine ⟨?_, ?_⟩
  ·have := l9 (f := fun kk i => dx (fw k) t v kk (i : Int)) (n := v.items.length) (P := fun i => ((iv v i).kind == 0 && nd t i) || ig d (ft t i) (iv v i)) (A := fun _ => some true) (B := some false) (fun kk i hi' => by
    obtain ⟨f, f2, f3, f4, f5, _⟩ := sub i hi'
    have e : cS t (i : Int) = some f := by
     unfold cS eG
     by_cases h6 : t.kind = 6
     ·rw [if_pos h6] at f2
      rw [show (0 : Int) = ((0 : Nat) : Int) from rfl, fM f2]
      simp [h6, aM, au]
     ·rw [if_neg h6] at f2
      rw [fM f2]
      simp [h6, aM, au]
    simp only [dx, gC hi', aw, cf hi', au, e, jr, f3, f4, lI hi', f5, d8 hi' (show v.items.length < 1000000000 by omega)]
    cases (iv v i).kind == 0 <;> cases nd t i <;> cases ig d (ft t i) (iv v i) <;> rfl) (fun kk => by simp [dx, aM, oc]) aW 0 (Nat.zero_le _) (by rw [aA]; omega)
   rw [show ((0 : Nat) : Int) = (0 : Int) from rfl] at this
   rw [this]
   cases first (fun i => ((iv v i).kind == 0 && nd t i) || ig d (ft t i) (iv v i)) 0 v.items.length <;> rfl
  ·have := l9 (f := fun kk i => cg (cI k') t v kk (i : Int)) (n := v.items.length) (P := fun i => ((iv v i).kind == 0 && nd t i) || ig d (ft t i) (iv v i)) (A := fun _ => some true) (B := some false) (fun kk i hi' => by
    obtain ⟨f, f2, f3, f4, _, f5⟩ := sub i hi'
    have e : ∀ j : Int, at? t.fields j = some f → iZ (cg (cI k') t v kk) (cI k') t v (i : Int) j = if (((iv v i).kind == 0 && nd t i) || ig d (ft t i) (iv v i)) = true then some true else cg (cI k') t v kk ((i + 1 : Nat) : Int) := by
     intro j hj
     simp only [iZ, i6, hj, au, cf hi', f3, f4, lI hi', f5, d8 hi' (show v.items.length < 1000000000 by omega)]
     cases (iv v i).kind == 0 <;> cases nd t i <;> cases ig d (ft t i) (iv v i) <;> rfl
    simp only [cg, gC hi', aw]
    by_cases h6 : t.kind = 6
    ·rw [if_pos h6] at f2
     have e6 : (t.kind == (6 : Int)) = true := by simp [h6]
     rw [e6, aw]
     exact e 0 (fM f2)
    ·rw [if_neg h6] at f2
     have e6 : (t.kind == (6 : Int)) = false := by simp [h6]
     rw [e6, ah]
     exact e i (fM f2)) (fun kk => by simp [cg, aM, nh]) aW 0 (Nat.zero_le _) (by rw [aA]; omega)
   rw [show ((0 : Nat) : Int) = (0 : Int) from rfl] at this
   rw [this]
   cases first (fun i => ((iv v i).kind == 0 && nd t i) || ig d (ft t i) (iv v i)) 0 v.items.length <;> rfl
theorem Cg (t : af) (v : ac) (hv : aY v < 1000000000) (hT : dn t < 1000000000) : ∃ e, eW t v = some e ∧ mo t v = some e := by
 obtain ⟨e, h1, h2, h3⟩ := iW t hT
 unfold eW mo
 rw [h1, h2, o9 v hv, vp v hv]
 simp only [au]
 by_cases he : e = 0
 ·subst he
  have ht := h3 rfl
  cases hs : cx v with
  | false => exact ⟨1, rfl, rfl⟩
  | true =>
   have hS : pF 4 v := ⟨0, hs⟩
   obtain ⟨a, b⟩ := of_eq 4 aW aW t v hS ht hv hT (by rw [aA]; omega) (by rw [aA]; omega)
   rw [a, b]
   cases ho : qK 4 t v with
   | false => exact ⟨2, rfl, rfl⟩
   | true =>
    obtain ⟨c, d⟩ := AQ 4 aW aW t v hS ht ho hv hT (by rw [aA]; omega) (by rw [aA]; omega)
    rw [c, d]
    cases ig 4 t v with
    | false => exact ⟨0, rfl, rfl⟩
    | true => exact ⟨9, rfl, rfl⟩
 ·have : (e != (0 : Int)) = true := by simp [he]
  rw [this]
  exact ⟨e, rfl, rfl⟩
theorem bH : ByteArray.empty.size = 0 := rfl
end Go.Proofs.YtpmoopnkoknbeaaGreatDoor
namespace Go.Proofs.YtpmoopnkoknbeaaGreatDoor.Tm
open Go Go.SX Go.SX.Cal
theorem aw {β : Type} (x y : Option β) : ax true x y = x := rfl
theorem ah {β : Type} (x y : Option β) : ax false x y = y := rfl
theorem aM {β : Type} (b : Bool) (x y : Option β) : ax b x y = if b = true then x else y := by cases b <;> rfl
theorem uH {a b : Int} (hb : 0 < b) (hb2 : b ≤ 1000000) (h1 : -1000000000000000 ≤ a) (h2 : a ≤ 1000000000000000) : jL a b = some (a / b, a % b) := by
 unfold jL jF
 rw [dw (by omega), dw (by omega)]
 have hq : -1000000000000000 ≤ a / b ∧ a / b ≤ 1000000000000000 := by
  have e : a = b * (a / b) + a % b := (Int.mul_ediv_add_emod a b).symm
  have r0 := Int.emod_nonneg a (show b ≠ 0 by omega)
  have r1 := Int.emod_lt_of_pos a hb
  constructor
  ·apply Int.le_ediv_of_mul_le hb
   have : -1000000000000000 * b ≤ -1000000000000000 * 1 := by apply Int.mul_le_mul_of_nonpos_left <;> omega
   omega
  ·apply Int.ediv_le_of_le_mul hb
   have : 1000000000000000 * 1 ≤ 1000000000000000 * b := by apply Int.mul_le_mul_of_nonneg_left <;> omega
   omega
 have r0 := Int.emod_nonneg a (show b ≠ 0 by omega)
 have r1 := Int.emod_lt_of_pos a hb
 rw [Int.tdiv_eq_ediv, Int.tmod_eq_emod]
 have hs : b.sign = 1 := Int.sign_eq_one_of_pos hb
 have hn : (b.natAbs : Int) = b := by omega
 by_cases hc : 0 ≤ a ∨ b ∣ a
 ·simp only [hc, if_true, Int.natCast_zero, Int.ofNat_zero, Int.cast_ofNat_Int, Int.sub_zero, Int.add_zero]
  rw [show decide (a % b < 0) = false by simp; omega, ah, fL (by omega) (by omega)]
 ·simp only [hc, if_false, hs, hn]
  have hne : a % b ≠ 0 := fun h => hc (.inr (Int.dvd_of_emod_eq_zero h))
  rw [show decide (a % b - b < 0) = true by simp; omega, aw]
  simp (disch := omega) only [fL]
  rw [show a / b + 1 - 1 = a / b by omega, show a % b - b + b = a % b by omega]
theorem IJ {y m d : Int} (h1 : -1000000 ≤ y) (h2 : y ≤ 1000000) (h3 : 1 ≤ m) (h4 : m ≤ 12) (h5 : -100 ≤ d) (h6 : d ≤ 100) : qj y m d = some (Cal.days y m d) := by
 have key : ∀ y' m', -1000001 ≤ y' → y' ≤ 1000001 → 3 ≤ m' → m' ≤ 14 → kl d y' m' = some (y' / 400 * 146097 + S (y' % 400) + ku (m' - 3) + d - 1 - 719468) := by
  intro y' m' a1 a2 a3 a4
  unfold kl
  rw [uH (by decide) (by decide) (by omega) (by omega)]
  simp only [ae]
  have hr : 0 ≤ y' % 400 ∧ y' % 400 ≤ 399 := by omega
  simp (disch := omega) only [fL, Int.tdiv_eq_ediv_of_nonneg]
  unfold S ku
  congr 1
  omega
 unfold qj Cal.days
 by_cases hm : m ≤ 2
 ·simp only [hm, decide_true, aw, if_true]
  simp (disch := omega) only [fL]
  rw [key _ _ (by omega) (by omega) (by omega) (by omega), show m + 12 - 3 = m + 9 by omega]
 ·simp only [hm, decide_false, ah, if_false]
  rw [key _ _ (by omega) (by omega) (by omega) (by omega)]
theorem Jm {y : Int} (h0 : 0 ≤ y) (h1 : y ≤ 399) : 0 ≤ S y ∧ S y ≤ 146096 := by unfold S; omega
theorem Jp {n : Int} (h1 : -1000000000 ≤ n) (h2 : n ≤ 1000000000) : pK n = some (Cal.date n) := by
 unfold pK mt
 rw [fL (by omega) (by omega), uH (by decide) (by decide) (by omega) (by omega)]
 simp only [ae]
 have hr0 : 0 ≤ (n + 719468) % 146097 := by omega
 have hr1 : (n + 719468) % 146097 ≤ 146096 := by omega
 have he : -10000 ≤ (n + 719468) / 146097 ∧ (n + 719468) / 146097 ≤ 10000 := by omega
 obtain ⟨b0, b1⟩ := uI hr0 hr1
 obtain ⟨s0, s1, _⟩ := J2 hr0 hr1
 unfold Cal.date
 simp only
 generalize (n + 719468) % 146097 = r at *
 generalize (n + 719468) / 146097 = era at *
 have e1 : IntKind.i64.wrap (IntKind.i64.wrap (IntKind.i64.wrap (r - IntKind.i64.wrap (r.tdiv 1460)) + IntKind.i64.wrap (r.tdiv 36524)) - IntKind.i64.wrap (r.tdiv 146096)) = r - r / 1460 + r / 36524 - r / 146096 := by
  simp (disch := omega) only [fL, Int.tdiv_eq_ediv_of_nonneg]
 rw [e1]
 have e2 : IntKind.i64.wrap ((r - r / 1460 + r / 36524 - r / 146096).tdiv 365) = yr r := by
  rw [Int.tdiv_eq_ediv_of_nonneg (by omega)]
  exact fL (by unfold yr at *; omega) (by unfold yr at *; omega)
 rw [e2]
 generalize yr r = y at *
 have hS := Jm b0 b1
 have e3 : IntKind.i64.wrap (IntKind.i64.wrap (IntKind.i64.wrap (y * 365) + IntKind.i64.wrap (y.tdiv 4)) - IntKind.i64.wrap (y.tdiv 100)) = S y := by
  simp (disch := omega) only [fL, Int.tdiv_eq_ediv_of_nonneg]
  unfold S; omega
 rw [e3]
 have hk : 0 ≤ r - S y ∧ r - S y ≤ 365 := by omega
 rw [fL (x := r - S y) (by omega) (by omega)]
 generalize r - S y = k at *
 have e4 : IntKind.i64.wrap ((IntKind.i64.wrap (IntKind.i64.wrap (5 * k) + 2)).tdiv 153) = (5 * k + 2) / 153 := by
  simp (disch := omega) only [fL, Int.tdiv_eq_ediv_of_nonneg]
 rw [e4]
 have hm : 0 ≤ (5 * k + 2) / 153 ∧ (5 * k + 2) / 153 ≤ 11 := by omega
 generalize (5 * k + 2) / 153 = m at *
 unfold ku
 simp (disch := omega) only [fL, Int.tdiv_eq_ediv_of_nonneg]
 by_cases hc : (12 : Int) < m + 3
 ·simp only [hc, decide_true, aw, if_true, gt_iff_lt]
 ·simp only [hc, decide_false, ah, if_false, gt_iff_lt]
def civ (s : Int) : dJ := ⟨(Cal.date (s / 86400)).1, (Cal.date (s / 86400)).2.1, (Cal.date (s / 86400)).2.2, s % 86400 / 3600, s % 86400 % 3600 / 60, s % 86400 % 60⟩
theorem civil_eq {s : Int} (h1 : -1000000000000 ≤ s) (h2 : s ≤ 1000000000000) : oD s = some (civ s) := by
 unfold oD
 rw [uH (by decide) (by decide) (by omega) (by omega)]
 simp only [ae]
 rw [Jp (by omega) (by omega)]
 simp only [ae]
 have : 0 ≤ s % 86400 ∧ s % 86400 < 86400 := by omega
 unfold civ
 generalize s % 86400 = t at *
 simp (disch := omega) only [fL, Int.tdiv_eq_ediv_of_nonneg, Int.tmod_eq_emod_of_nonneg]
theorem n9 {y m d : Int} (h1 : -20000 ≤ y) (h2 : y ≤ 20000) (h3 : 1 ≤ m) (h4 : m ≤ 12) (h5 : -100 ≤ d) (h6 : d ≤ 100) : -10000000 ≤ Cal.days y m d ∧ Cal.days y m d ≤ 10000000 := by
 unfold Cal.days S ku; split <;> omega
def sec (c : dJ) : Int := Cal.days c.year c.month c.day * 86400 + c.hour * 3600 + c.minute * 60 + c.second
structure Ke (c : dJ) : Prop where
 y0 : -20000 ≤ c.year
 y1 : c.year ≤ 20000
 m0 : 1 ≤ c.month
 m1 : c.month ≤ 12
 d0 : -100 ≤ c.day
 d1 : c.day ≤ 100
 h0 : 0 ≤ c.hour
 h1 : c.hour ≤ 23
 i0 : 0 ≤ c.minute
 i1 : c.minute ≤ 59
 s0 : 0 ≤ c.second
 s1 : c.second ≤ 59
theorem seconds_eq {c : dJ} (h : Ke c) : mL c = some (sec c) := by
 obtain ⟨y0, y1, m0, m1, d0, d1, h0, h1, i0, i1, s0, s1⟩ := h
 have := n9 y0 y1 m0 m1 d0 d1
 unfold mL
 rw [IJ (by omega) (by omega) m0 m1 d0 d1]
 simp only [ae]
 unfold sec
 simp (disch := omega) only [fL]
theorem vO (a b : Int) : (a.tmod b == 0) = (a % b == 0) := by
 have : a.tmod b = 0 ↔ a % b = 0 := by
  rw [← Int.dvd_iff_tmod_eq_zero, ← Int.dvd_iff_emod_eq_zero]
 by_cases h : a % b = 0
 ·rw [h, this.2 h]
 ·have h2 : a.tmod b ≠ 0 := fun e => h (this.1 e)
  rw [beq_eq_false_iff_ne.2 h2, beq_eq_false_iff_ne.2 h]
theorem I6 (y : Int) : qm y = some (decide (pY y)) := by
 unfold qm kr
 have e2 : ((y.tmod 100) != 0) = !(y % 100 == 0) := by rw [bne, vO]
 rw [vO, vO, e2]
 unfold pY
 by_cases a : y % 4 = 0
 ·by_cases b : y % 100 = 0
  ·by_cases c : y % 400 = 0
   ·simp [a, b, c, aM]
   ·simp [a, b, c, aM]
  ·simp [a, b, aM]
 ·simp [a, aM]
theorem yX {y m : Int} : nA y m = some (wW y m) := by
 unfold nA gH wW
 rw [I6]
 simp only [ae]
 by_cases h2 : m = 2
 ·subst h2
  by_cases hl : pY y <;> simp [hl, aM]
 by_cases h4 : m = 4
 ·subst h4; simp [aM]
 by_cases h6 : m = 6
 ·subst h6; simp [aM]
 by_cases h9 : m = 9
 ·subst h9; simp [aM]
 by_cases h11 : m = 11
 ·subst h11; simp [aM]
 simp [h2, h4, h6, h9, h11, aM]
theorem dim_bound (y m : Int) : 28 ≤ wW y m ∧ wW y m ≤ 31 := by
 unfold wW; split <;> (try split) <;> (try split) <;> omega
theorem zF (a b c : Int) : bQ a b c = some (decide (b ≤ a ∧ a ≤ c)) := by
 unfold bQ i7
 by_cases h : b ≤ a <;> by_cases k : a ≤ c <;> simp [h, k, aM]
theorem check_eq (c : dJ) : jW c = some (if 1 ≤ c.year ∧ c.year ≤ 9999 ∧ 1 ≤ c.month ∧ c.month ≤ 12 ∧ 1 ≤ c.day ∧ c.day ≤ wW c.year c.month ∧ 0 ≤ c.hour ∧ c.hour ≤ 23 ∧ 0 ≤ c.minute ∧ c.minute ≤ 59 ∧ 0 ≤ c.second ∧ c.second ≤ 59 then 0 else 3) := by
 unfold jW fW fY
 simp only [zF, yX, ae]
 by_cases h1 : 1 ≤ c.year ∧ c.year ≤ 9999
 ·by_cases h2 : 1 ≤ c.month ∧ c.month ≤ 12
  ·by_cases h3 : 1 ≤ c.day ∧ c.day ≤ wW c.year c.month
   ·by_cases h4 : 0 ≤ c.hour ∧ c.hour ≤ 23
    ·by_cases h5 : 0 ≤ c.minute ∧ c.minute ≤ 59
     ·by_cases h6 : 0 ≤ c.second ∧ c.second ≤ 59
      ·simp [h1, h2, h3, h4, h5, h6, aM]
      ·rw [if_neg (by omega)]; simp [h1, h2, h3, h4, h5, h6, aM]
     ·rw [if_neg (by omega)]; simp [h1, h2, h3, h4, h5, aM]
    ·rw [if_neg (by omega)]; simp [h1, h2, h3, h4, aM]
   ·rw [if_neg (by omega)]; simp [h1, h2, h3, aM]
  ·rw [if_neg (by omega)]; simp [h1, h2, aM]
 ·rw [if_neg (by omega)]; simp [h1, aM]
end Go.Proofs.YtpmoopnkoknbeaaGreatDoor.Tm
namespace Go.Proofs.YtpmoopnkoknbeaaGreatDoor.Tm
open Go Go.SX Go.SX.Cal
theorem aA : aW = 1152921504606846976 := rfl
structure M1 (t : yp) : Prop where
 m0 : 1 ≤ t.month
 m1 : t.month ≤ 12
 w0 : 1 ≤ t.week
 w1 : t.week ≤ 5
 d0 : 1 ≤ t.weekday
 d1 : t.weekday ≤ 7
 i0 : 0 ≤ t.minute
 i1 : t.minute ≤ 1440
def Lp (t : yp) (y : Int) : Int := Cal.days y t.month 1 + (t.weekday - ((Cal.days y t.month 1 + 3) % 7 + 1) + 7) % 7
def Cn (t : yp) (y : Int) : Int :=
 if t.week < 5 then Lp t y + (t.week - 1) * 7 else Lp t y + 7 * ((Cal.days y t.month 1 + wW y t.month - 1 - Lp t y) / 7)
theorem F4 {t : yp} (y : Int) : Cal.days y t.month 1 ≤ Lp t y ∧ Lp t y ≤ Cal.days y t.month 1 + 6 := by unfold Lp; omega
theorem oP {t : yp} (ht : M1 t) (y : Int) : Cal.days y t.month 1 ≤ Cn t y ∧ Cn t y ≤ Cal.days y t.month 1 + 30 := by
 have := F4 (t := t) y
 have hd := dim_bound y t.month
 have := ht.w0
 unfold Cn; split <;> omega
structure Ni (z : qP) : Prop where
 o0 : -720 ≤ z.offset
 o1 : z.offset ≤ 720
 s : z.summer = 0 ∨ (M1 z.start ∧ M1 z.stop ∧ (z.summer = 30 ∨ z.summer = 60) ∧ z.start.minute = 120 ∧ ((z.start.month = 3 ∧ 10 ≤ z.stop.month ∧ z.stop.month ≤ 11) ∨ (z.start.month = 10 ∧ z.stop.month = 4)))
def IA (z : qP) (m : Int) : Int := (Cal.date ((m + z.offset * 60) / 86400)).1
def LD (z : qP) (y : Int) : Int := Cn z.start y * 86400 + z.start.minute * 60 - z.offset * 60
def fin (z : qP) (y : Int) : Int := Cn z.stop y * 86400 + z.stop.minute * 60 - z.offset * 60 - z.summer * 60
def F3 (z : qP) (m : Int) : Prop := if fin z (IA z m) ≤ LD z (IA z m) then m < fin z (IA z m) ∨ LD z (IA z m) ≤ m else LD z (IA z m) ≤ m ∧ m < fin z (IA z m)
instance (z : qP) (m : Int) : Decidable (F3 z m) := by unfold F3; infer_instance
def MG (z : qP) (m : Int) : Int := if z.summer = 0 then z.offset * 60 else if F3 z m then z.offset * 60 + z.summer * 60 else z.offset * 60
theorem CG {n : Int} (h1 : -5000000 ≤ n) (h2 : n ≤ 5000000) : -20000 ≤ (Cal.date n).1 ∧ (Cal.date n).1 ≤ 20000 := by
 obtain ⟨b0, b1⟩ := uI (r := (n + 719468) % 146097) (by omega) (by omega)
 simp only [Cal.date]
 split <;> omega
end Go.Proofs.YtpmoopnkoknbeaaGreatDoor.Tm
namespace Go.Proofs.YtpmoopnkoknbeaaGreatDoor.Tm
open Go Go.SX Go.SX.Cal
theorem civ_ok {s : Int} (h1 : -400000000000 ≤ s) (h2 : s ≤ 400000000000) : Ke (civ s) ∧ sec (civ s) = s ∧ 1 ≤ (civ s).day ∧ (civ s).day ≤ wW (civ s).year (civ s).month := by
 obtain ⟨e, m0, m1, d0, d1⟩ := Ah (s / 86400)
 have hy := CG (n := s / 86400) (by omega) (by omega)
 have hd := dim_bound (Cal.date (s / 86400)).1 (Cal.date (s / 86400)).2.1
 refine ⟨⟨hy.1, hy.2, m0, m1, ?_, ?_, ?_, ?_, ?_, ?_, ?_, ?_⟩, ?_, d0, d1⟩
 ·show -100 ≤ (Cal.date (s / 86400)).2.2; omega
 ·show (Cal.date (s / 86400)).2.2 ≤ 100; omega
 ·show 0 ≤ s % 86400 / 3600; omega
 ·show s % 86400 / 3600 ≤ 23; omega
 ·show 0 ≤ s % 86400 % 3600 / 60; omega
 ·show s % 86400 % 3600 / 60 ≤ 59; omega
 ·show 0 ≤ s % 86400 % 60; omega
 ·show s % 86400 % 60 ≤ 59; omega
 ·show Cal.days (Cal.date (s / 86400)).1 (Cal.date (s / 86400)).2.1 (Cal.date (s / 86400)).2.2 * 86400 + s % 86400 / 3600 * 3600 + s % 86400 % 3600 / 60 * 60 + s % 86400 % 60 = s
  rw [e]; omega
def chk (c : dJ) : Prop := 1 ≤ c.year ∧ c.year ≤ 9999 ∧ 1 ≤ c.month ∧ c.month ≤ 12 ∧ 1 ≤ c.day ∧ c.day ≤ wW c.year c.month ∧ 0 ≤ c.hour ∧ c.hour ≤ 23 ∧ 0 ≤ c.minute ∧ c.minute ≤ 59 ∧ 0 ≤ c.second ∧ c.second ≤ 59
instance (c : dJ) : Decidable (chk c) := by unfold chk; infer_instance
theorem chk_fine {c : dJ} (h : chk c) : Ke c := by
 obtain ⟨a, b, c1, d, e, f, g, i, j, k, l, m⟩ := h
 have := dim_bound c.year c.month
 exact ⟨by omega, by omega, c1, d, by omega, by omega, g, i, j, k, l, m⟩
def J (z : qP) (y : Int) : Int := Cal.days y 1 1 * 86400 - z.offset * 60
theorem Eu {z : qP} {m y : Int} : IA z m = y ↔ J z y ≤ m ∧ m < J z (y + 1) := by
 unfold IA J
 rw [rE]
 omega
theorem Es (y : Int) : Cal.days y 3 1 = E y ∧ Cal.days y 4 1 = E y + 31 ∧ Cal.days y 10 1 = E y + 214 ∧ Cal.days y 11 1 = E y + 245 ∧ Cal.days (y + 1) 1 1 = E y + 306 ∧ E y - 60 ≤ Cal.days y 1 1 ∧ Cal.days y 1 1 ≤ E y - 59 := by
 rw [nU, nU, show y + 1 - 1 = y by omega]
 have hE := Am (y - 1)
 rw [show y - 1 + 1 = y by omega] at hE
 simp only [rI]
 simp [ku]
 omega
theorem L3 {z : qP} (hz : Ni z) (hs : z.summer ≠ 0) {m : Int} (y : Int) (h1 : J z y - 1728000 ≤ m) (h2 : m < J z y + 1728000) : MG z m = if z.start.month = 3 then z.offset * 60 else z.offset * 60 + z.summer * 60 := by
 obtain ⟨o0, o1, hss⟩ := hz
 rcases hss with h | ⟨t1, t2, hsu, hmin, hmo⟩
 ·exact absurd h hs
 have key : (z.start.month = 3 ∧ ¬ F3 z m) ∨ (z.start.month ≠ 3 ∧ F3 z m) := by
  unfold F3
  by_cases hy : J z y ≤ m
  ·have h366 := vM y
   have hyo : IA z m = y := Eu.2 ⟨hy, by unfold J at *; omega⟩
   rw [hyo]
   obtain ⟨e3, e4, e10, e11, en, ej0, ej1⟩ := Es y
   have b1 := oP t1 y
   have b2 := oP t2 y
   have i3 := t2.i0; have i4 := t2.i1
   unfold LD fin
   unfold J at *
   rcases hmo with ⟨m1, m2, m3⟩ | ⟨m1, m2⟩
   ·rw [m1, e3] at b1
    refine .inl ⟨m1, ?_⟩
    have hst : z.stop.month = 10 ∨ z.stop.month = 11 := by omega
    rcases hst with hst | hst
    ·rw [hst, e10] at b2
     rw [if_neg (by omega)]; omega
    ·rw [hst, e11] at b2
     rw [if_neg (by omega)]; omega
   ·rw [m1, e10] at b1
    rw [m2, e4] at b2
    refine .inr ⟨by omega, ?_⟩
    rw [if_pos (by omega)]; omega
  ·have h366 := vM (y - 1)
   rw [show y - 1 + 1 = y by omega] at h366
   have hyo : IA z m = y - 1 := Eu.2 ⟨by unfold J at *; omega, by rw [show y - 1 + 1 = y by omega]; omega⟩
   rw [hyo]
   obtain ⟨e3, e4, e10, e11, en, ej0, ej1⟩ := Es (y - 1)
   rw [show y - 1 + 1 = y by omega] at en
   have b1 := oP t1 (y - 1)
   have b2 := oP t2 (y - 1)
   have i3 := t2.i0; have i4 := t2.i1
   unfold LD fin
   unfold J at *
   rcases hmo with ⟨m1, m2, m3⟩ | ⟨m1, m2⟩
   ·rw [m1, e3] at b1
    refine .inl ⟨m1, ?_⟩
    have hst : z.stop.month = 10 ∨ z.stop.month = 11 := by omega
    rcases hst with hst | hst
    ·rw [hst, e10] at b2
     rw [if_neg (by omega)]; omega
    ·rw [hst, e11] at b2
     rw [if_neg (by omega)]; omega
   ·rw [m1, e10] at b1
    rw [m2, e4] at b2
    refine .inr ⟨by omega, ?_⟩
    rw [if_pos (by omega)]; omega
 unfold MG
 rw [if_neg hs]
 rcases key with ⟨k1, k2⟩ | ⟨k1, k2⟩
 ·rw [if_neg k2, if_pos k1]
 ·rw [if_pos k2, if_neg k1]
theorem days_one : Cal.days 1 1 1 = -719162 := by decide +kernel
theorem first {z : qP} (hz : Ni z) {m : Int} (hs : z.summer ≠ 0) (h : MG z m = z.offset * 60) (hx : MG z (m - z.summer * 60) = z.offset * 60 + z.summer * 60) (hm : (-62135596800) ≤ m) : (-62135596800) ≤ m - z.summer * 60 := by
 apply Classical.byContradiction
 intro hn
 have hsu : z.summer = 30 ∨ z.summer = 60 := by rcases hz.s with h | ⟨_, _, h, _⟩ <;> omega
 have o0 := hz.o0; have o1 := hz.o1
 have n1 := L3 hz hs (m := m) 1 (by unfold J; rw [days_one]; omega) (by unfold J; rw [days_one]; omega)
 have n2 := L3 hz hs (m := m - z.summer * 60) 1 (by unfold J; rw [days_one]; omega) (by unfold J; rw [days_one]; omega)
 rw [n1] at h; rw [n2] at hx
 split at h <;> omega
end Go.Proofs.YtpmoopnkoknbeaaGreatDoor.Tm
namespace Go.Proofs.YtpmoopnkoknbeaaGreatDoor.Tm
open Go Go.SX Go.SX.Cal
theorem Ff {a b : Int} (hb : 0 < b) (hb2 : b ≤ 1000000) (h1 : -1000000000000000 ≤ a) (h2 : a ≤ 1000000000000000) : pH a b = some (a / b) := by
 have hf := uH hb hb2 h1 h2
 unfold jL jF at hf
 unfold pH mK mD
 rw [dw (by omega), dw (by omega)] at hf ⊢
 have hsgn : decide (b < 0) = false := by simp; omega
 rw [hsgn]
 by_cases h0 : a.tmod b = 0
 ·rw [h0] at hf ⊢
  rw [show decide ((0 : Int) < 0) = false from rfl, ah] at hf
  rw [show ((0 : Int) != 0) = false from rfl, ah, ah]
  have := congrArg (Option.map Prod.fst) hf
  simpa using this
 ·have hne : (a.tmod b != 0) = true := by simp [h0]
  rw [hne, aw]
  by_cases ha : a < 0
  ·have hneg : a.tmod b < 0 := by
    have r1 := Int.emod_lt_of_pos a hb
    have r0 := Int.emod_nonneg a (show b ≠ 0 by omega)
    have e := Int.tmod_eq_emod (a := a) (b := b)
    by_cases hd : b ∣ a
    ·exfalso
     exact h0 (Int.tmod_eq_zero_of_dvd hd)
    ·rw [if_neg (by omega)] at e
     have : (b.natAbs : Int) = b := by omega
     omega
   rw [show decide (a.tmod b < 0) = true by simpa using hneg, aw] at hf
   rw [show decide (a < 0) = true by simpa using ha]
   have := congrArg (Option.map Prod.fst) hf
   simpa [aM] using this
  ·have hpos : ¬ a.tmod b < 0 := by
    have := Int.tmod_nonneg (a := a) b (by omega)
    omega
   rw [show decide (a.tmod b < 0) = false by simpa using hpos, ah] at hf
   rw [show decide (a < 0) = false by simpa using ha]
   have := congrArg (Option.map Prod.fst) hf
   simpa [aM] using this
theorem Aq {y m : Int} : iq y m = some (wW y m) := yX
theorem Dd (a b c : Int) : cC a b c = some (decide (b ≤ a ∧ a ≤ c)) := zF a b c
theorem Cy : Cal.days 0 1 1 = -719528 := by decide +kernel
theorem qh {y : Int} (h1 : 0 ≤ y) (h2 : y ≤ 20000) : iy y = some (Cal.days y 1 1) := by
 unfold iy jl
 by_cases hy : 0 < y
 ·rw [show decide (0 < y) = true by simpa using hy, aw]
  simp only [ae]
  simp (disch := omega) only [fL, Int.tdiv_eq_ediv_of_nonneg]
  congr 1
  rw [nU]
  unfold E S
  omega
 ·have : y = 0 := by omega
  subst this
  rw [Cy]; rfl
theorem qy (y k : Int) (h1 : 1 ≤ k) (h2 : k ≤ 11) : Cal.days y (k + 1) 1 = Cal.days y k 1 + wW y k := by
 have hE := Am (y - 1)
 rw [show y - 1 + 1 = y by omega] at hE
 rw [rI, rI]
 unfold wW
 have hc : k = 1 ∨ k = 2 ∨ k = 3 ∨ k = 4 ∨ k = 5 ∨ k = 6 ∨ k = 7 ∨ k = 8 ∨ k = 9 ∨ k = 10 ∨ k = 11 := by omega
 rcases hE with ⟨hl, hE⟩ | ⟨hl, hE⟩ <;> simp only [hl, if_true, if_false] <;> rcases hc with rfl | rfl | rfl | rfl | rfl | rfl | rfl | rfl | rfl | rfl | rfl <;> simp [ku] <;> omega
theorem Dj (y m d : Int) : Cal.days y m d = Cal.days y m 1 + d - 1 := by
 rw [rI, rI]; split <;> omega
theorem DH {y m d : Int} (h1 : 0 ≤ y) (h2 : y ≤ 20000) (h3 : 1 ≤ m) (h4 : m ≤ 12) (h5 : -100 ≤ d) (h6 : d ≤ 100) : ∀ (k : Nat) (x : Int), 1 ≤ x → x ≤ m → m - x < k →
  iK y m d k (Cal.days y x 1) x = some (Cal.days y m d) := by
 intro k
 induction k with
 | zero => intro x a b c; omega
 | succ k ih =>
  intro x a b c
  rw [iK]
  have hb := n9 (y := y) (m := x) (d := 1) (by omega) (by omega) a (by omega) (by decide) (by decide)
  have hd := dim_bound y x
  by_cases hx : x < m
  ·rw [show decide (x < m) = true by simpa using hx, aw, Aq]
   simp only [ae]
   rw [fL (by omega) (by omega), fL (by omega) (by omega), ← qy y x a (by omega), ih (x + 1) (by omega) (by omega) (by omega)]
  ·have : x = m := by omega
   subst this
   rw [show decide (x < x) = false by simp, ah]
   unfold pL
   simp (disch := omega) only [fL]
   rw [Dj y x d]
theorem H9 {y m d : Int} (h1 : 0 ≤ y) (h2 : y ≤ 20000) (h3 : 1 ≤ m) (h4 : m ≤ 12) (h5 : -100 ≤ d) (h6 : d ≤ 100) : sa y m d = some (Cal.days y m d) := by
 unfold sa
 rw [qh h1 h2]
 simp only [ae]
 exact DH h1 h2 h3 h4 h5 h6 aW 1 (by decide) h3 (by rw [aA]; omega)
theorem A5 {s Y M D : Int} (hs1 : -1000000000000 ≤ s) (hs2 : s ≤ 1000000000000) (hY : 0 ≤ Y) (hY2 : Y ≤ 20000) (hM1 : 1 ≤ M) (hM2 : M ≤ 12) (hD1 : 1 ≤ D) (hD2 : D ≤ wW Y M) (hn : Cal.days Y M D = s / 86400) :
  ∀ (k : Nat) (b : Int), 1 ≤ b → b ≤ M → M - b < k → gU s (s / 86400) Y k b (s / 86400 - Cal.days Y b 1) = some ⟨Y, M, D, s % 86400 / 3600, s % 86400 % 3600 / 60, s % 86400 % 60⟩ := by
 intro k
 induction k with
 | zero => intro b h1 h2 h3; omega
 | succ k ih =>
  intro b h1 h2 h3
  rw [gU]
  have hd := dim_bound Y b
  have hdM := dim_bound Y M
  have hbd := n9 (y := Y) (m := b) (d := 1) (by omega) (by omega) h1 (by omega) (by decide) (by decide)
  rw [Aq]
  simp only [ae]
  by_cases hb : b < M
  ·have hle : wW Y b ≤ s / 86400 - Cal.days Y b 1 := by
    have e1 := qy Y b h1 (by omega)
    -- months from b + 1 on come later
    have mono : ∀ (j : Nat), b + 1 + j ≤ M → Cal.days Y (b + 1) 1 ≤ Cal.days Y (b + 1 + j) 1 := by
     intro j
     induction j with
     | zero => intro _; simp
     | succ j ihj =>
      intro hj
      have := ihj (by omega)
      have e2 := qy Y (b + 1 + j) (by omega) (by omega)
      have e3 := dim_bound Y (b + 1 + j)
      rw [show b + 1 + ((j + 1 : Nat) : Int) = b + 1 + j + 1 by omega, e2]
      omega
    have := mono (M - (b + 1)).toNat (by omega)
    rw [show b + 1 + ((M - (b + 1)).toNat : Int) = M by omega] at this
    have e4 := Dj Y M D
    omega
   rw [show decide (wW Y b ≤ s / 86400 - Cal.days Y b 1) = true by simpa using hle, aw]
   rw [fL (by omega) (by omega), fL (by omega) (by omega), show s / 86400 - Cal.days Y b 1 - wW Y b = s / 86400 - Cal.days Y (b + 1) 1 by rw [qy Y b h1 (by omega)]; omega]
   exact ih (b + 1) (by omega) (by omega) (by omega)
  ·have : b = M := by omega
   subst this
   have e4 := Dj Y b D
   rw [show decide (wW Y b ≤ s / 86400 - Cal.days Y b 1) = false by simp; omega, ah]
   unfold o5
   have ht : 0 ≤ s - 86400 * (s / 86400) ∧ s - 86400 * (s / 86400) < 86400 := by omega
   simp (disch := omega) only [fL, Int.tdiv_eq_ediv_of_nonneg, Int.tmod_eq_emod_of_nonneg]
   simp only [ae]
   have e5 : s - 86400 * (s / 86400) = s % 86400 := by omega
   rw [e5, show s / 86400 - Cal.days Y b 1 + 1 = D by omega]
   have e6 : s % 86400 / 60 % 60 = s % 86400 % 3600 / 60 := by omega
   simp (disch := omega) only [fL, Int.tmod_eq_emod_of_nonneg]
   rw [e6]
theorem Bf {s Y : Int} (hs1 : -1000000000000 ≤ s) (hs2 : s ≤ 1000000000000) (hYd : (Cal.date (s / 86400)).1 = Y) : ∀ (k : Nat) (lo hi : Int), 0 ≤ lo → lo ≤ Y → Y < hi → hi ≤ 10001 → hi - lo ≤ k →
  gn s (s / 86400) k lo hi = some (civ s) := by
 intro k
 induction k with
 | zero => intro lo hi a b c d e; omega
 | succ k ih =>
  intro lo hi a b c d e
  rw [gn]
  rw [fL (x := hi - lo) (by omega) (by omega), fL (x := lo + hi) (by omega) (by omega)]
  by_cases h1 : 1 < hi - lo
  ·rw [show decide (1 < hi - lo) = true by simpa using h1, aw]
   simp (disch := omega) only [fL, Int.tdiv_eq_ediv_of_nonneg]
   rw [qh (by omega) (by omega)]
   simp only [ae]
   obtain ⟨y1, y2⟩ := rE.1 hYd
   by_cases hm : (lo + hi) / 2 ≤ Y
   ·have := kP hm
    rw [show decide (Cal.days ((lo + hi) / 2) 1 1 ≤ s / 86400) = true by simp; omega, aw]
    exact ih _ _ (by omega) hm c d (by omega)
   ·have := kP (y := Y + 1) (z := (lo + hi) / 2) (by omega)
    rw [show decide (Cal.days ((lo + hi) / 2) 1 1 ≤ s / 86400) = false by simp; omega, ah]
    exact ih _ _ a b (by omega) (by omega) (by omega)
  ·rw [show decide (1 < hi - lo) = false by simpa using h1, ah]
   have : lo = Y := by omega
   subst this
   unfold oU
   rw [qh (by omega) (by omega)]
   simp only [ae]
   have hb := n9 (y := lo) (m := 1) (d := 1) (by omega) (by omega) (by decide) (by decide) (by decide) (by decide)
   rw [fL (by omega) (by omega)]
   obtain ⟨e1, m0, m1, d0, d1⟩ := Ah (s / 86400)
   rw [hYd] at e1 d1
   have := A5 hs1 hs2 (by omega) (by omega) m0 m1 d0 d1 e1 aW 1 (by decide) m0 (by rw [aA]; omega)
   rw [this]
   unfold civ
   rw [hYd]
theorem rcivil_eq {s : Int} (hs1 : -1000000000000 ≤ s) (hs2 : s ≤ 1000000000000) (h0 : 0 ≤ (Cal.date (s / 86400)).1) (h1 : (Cal.date (s / 86400)).1 ≤ 10000) : qn s = some (civ s) := by
 unfold qn
 rw [Ff (by decide) (by decide) (by omega) (by omega)]
 simp only [ae]
 exact Bf hs1 hs2 rfl aW 0 10001 (by decide) h0 (by omega) (by decide) (by rw [aA]; decide)
theorem years_of {s : Int} (h1 : -62160000000 ≤ s) (h2 : s ≤ 253402400799) : 0 ≤ (Cal.date (s / 86400)).1 ∧ (Cal.date (s / 86400)).1 ≤ 10000 := by
 obtain ⟨a1, a2⟩ := (rE (n := s / 86400) (y := (Cal.date (s / 86400)).1)).1 rfl
 have e0 := Cy
 have e1 : Cal.days 10001 1 1 = 2933263 := by decide +kernel
 constructor
 ·apply Classical.byContradiction
  intro hn
  have := kP (y := (Cal.date (s / 86400)).1 + 1) (z := 0) (by omega)
  omega
 ·apply Classical.byContradiction
  intro hn
  have := kP (y := 10001) (z := (Cal.date (s / 86400)).1) (by omega)
  omega
end Go.Proofs.YtpmoopnkoknbeaaGreatDoor.Tm
namespace Go.Proofs.YtpmoopnkoknbeaaGreatDoor.Tm
open Go Go.SX Go.SX.Cal
theorem rcheck_eq (c : dJ) : nG c = some (decide (chk c)) := by
 unfold nG eU
 simp only [Dd, Aq, ae]
 by_cases h1 : 1 ≤ c.year ∧ c.year ≤ 9999
 ·by_cases h2 : 1 ≤ c.month ∧ c.month ≤ 12
  ·by_cases h3 : 1 ≤ c.day ∧ c.day ≤ wW c.year c.month
   ·by_cases h4 : 0 ≤ c.hour ∧ c.hour ≤ 23
    ·by_cases h5 : 0 ≤ c.minute ∧ c.minute ≤ 59
     ·by_cases h6 : 0 ≤ c.second ∧ c.second ≤ 59
      ·have : chk c := ⟨h1.1, h1.2, h2.1, h2.2, h3.1, h3.2, h4.1, h4.2, h5.1, h5.2, h6.1, h6.2⟩
       simp [h1, h2, h3, h4, h5, h6, this, aM]
      ·have : ¬ chk c := fun h => h6 (by unfold chk at h; omega)
       simp [h1, h2, h3, h4, h5, h6, this, aM]
     ·have : ¬ chk c := fun h => h5 (by unfold chk at h; omega)
      simp [h1, h2, h3, h4, h5, this, aM]
    ·have : ¬ chk c := fun h => h4 (by unfold chk at h; omega)
     simp [h1, h2, h3, h4, this, aM]
   ·have : ¬ chk c := fun h => h3 (by unfold chk at h; omega)
    simp [h1, h2, h3, this, aM]
  ·have : ¬ chk c := fun h => h2 (by unfold chk at h; omega)
   simp [h1, h2, this, aM]
 ·have : ¬ chk c := fun h => h1 (by unfold chk at h; omega)
  simp [h1, this, aM]
theorem rseconds_eq {c : dJ} (h : chk c) : nF c = some (sec c) := by
 have hF := chk_fine h
 obtain ⟨y0, y1, m0, m1, d0, d1, h0, h1, i0, i1, s0, s1⟩ := id hF
 have hy : 1 ≤ c.year := h.1
 have := n9 y0 y1 m0 m1 d0 d1
 unfold nF
 rw [H9 (by omega) (by omega) m0 m1 d0 d1]
 simp only [ae]
 unfold sec
 simp (disch := omega) only [fL]
 congr 1
 omega
end Go.Proofs.YtpmoopnkoknbeaaGreatDoor.Tm
namespace Go.Proofs.YtpmoopnkoknbeaaGreatDoor
open Go Go.PX Go.SX Go.SX.Cal
def CK (n sc : Int) : List UInt8 := sg n ((kN (sc.toNat + 1) n.natAbs).take ((kN (sc.toNat + 1) n.natAbs).length - sc.toNat) ++ 46 :: (kN (sc.toNat + 1) n.natAbs).drop ((kN (sc.toNat + 1) n.natAbs).length - sc.toNat))
def Bc (n : Int) : List UInt8 := kN 2 n.natAbs
def vj (c : dJ) : List UInt8 := kN 4 c.year.natAbs ++ 45 :: (Bc c.month ++ 45 :: (Bc c.day ++ 84 :: (Bc c.hour ++ 58 :: (Bc c.minute ++ 58 :: (Bc c.second ++ [90])))))
mutual
def T : ac → List UInt8
 | ⟨k, n, sc, s, l⟩ =>
  if k = 0 then [110, 117, 108, 108]
  else if k = 1 then (if n = 1 then [116, 114, 117, 101] else [102, 97, 108, 115, 101])
  else if k = 2 then sg n (Lib.decDigits n.natAbs)
  else if k = 3 then CK n sc
  else if k = 4 then 39 :: (rA s.data.toList ++ [39])
  else if k = 5 then vj (Tm.civ n)
  else if k = 6 then 91 :: (TJ l ++ [93])
  else 40 :: (TJ l ++ [41])
def TJ : List ac → List UInt8
 | [] => []
 | v :: l => T v ++ TR l
def TR : List ac → List UInt8
 | [] => []
 | v :: l => 44 :: 32 :: (T v ++ TR l)
end
theorem Hf : ∀ l r : List ac, TR (l ++ r) = TR l ++ TR r
 | [], r => by simp [TR]
 | v :: l, r => by simp [TR, Hf l r]
theorem Jw (l : List ac) (v : ac) (h : l ≠ []) : TJ (l ++ [v]) = TJ l ++ 44 :: 32 :: T v := by
 match l, h with
 | x :: l, _ => simp [TJ, Hf, TR]
theorem xA : ∀ l : List ac, Lib.joinTail [44, 32] (l.map T) = TR l
 | [] => rfl
 | v :: l => by
  have := xA l
  unfold Lib.joinTail at this ⊢
  rw [List.map_cons, List.map_cons, List.flatten_cons, this]
  rfl
theorem KG : ∀ l : List ac, Lib.join (l.map T) [44, 32] = TJ l
 | [] => rfl
 | v :: l => by rw [List.map_cons, Lib.join_cons, xA]; simp [TJ]
theorem sO : ∀ k : Nat, Lib.repeatL [48] k = List.replicate k 48
 | 0 => rfl
 | k + 1 => by simp [Lib.repeatL, sO k, List.replicate_succ]
theorem wO (u : Nat) (h : u < 1000000000000000000) : (Lib.decDigits u).length ≤ 18 := ng u 18 (by decide) (by omega)
theorem AR {n : Int} (h1 : -999999999999999999 ≤ n) (h2 : n ≤ 999999999999999999) : strconv_Itoa n = some (bs (sg n (Lib.decDigits n.natAbs))) := by
 unfold strconv_Itoa
 rw [bT (by omega), Jv]
theorem Cb {n : Int} (h1 : 0 ≤ n) (h2 : n ≤ 999999999999999999) : strconv_Itoa n = some (bs (Lib.decDigits n.natAbs)) := by
 rw [AR (by omega) h2]
 unfold sg
 rw [if_neg (by omega)]
theorem kR {n w : Int} (h1 : 0 ≤ n) (h2 : n ≤ 999999999999999999) (h3 : 0 ≤ w) (h4 : w ≤ 100) : eH n w = some (bs (kN w.toNat n.natAbs)) := by
 have hl := wO n.natAbs (by omega)
 unfold eH
 rw [Cb h1 h2]
 simp only [ae, aE]
 rw [fL (by omega) (by omega)]
 have e : (if (0 : Int) > w - ((Lib.decDigits n.natAbs).length : Int) then (0 : Int) else w - ((Lib.decDigits n.natAbs).length : Int)) = ((w.toNat - (Lib.decDigits n.natAbs).length : Nat) : Int) := by
  split <;> omega
 rw [e]
 unfold strings_Repeat
 rw [bT ⟨by omega, by omega, by decide⟩]
 simp only [ae, Int.toNat_natCast]
 show bI _ (some (bs (Lib.repeatL [48] _) ++ _)) = _
 rw [sO, gS, bT]
 ·rfl
 ·rw [aE, List.length_replicate]; omega
theorem AG (u : List UInt8) (w : Int) (h3 : 0 ≤ w) (h4 : w ≤ 100) : ∀ (m f j : Nat), j + m = w.toNat - u.length → m < f →
  fE w f (bs (List.replicate j 48 ++ u)) = some (bs (List.replicate (w.toNat - u.length) 48 ++ u)) := by
 intro m
 induction m with
 | zero =>
  intro f j hj hf
  obtain ⟨f, rfl⟩ : ∃ g, f = g + 1 := ⟨f - 1, by omega⟩
  rw [fE, aE, ar, if_neg (by simp; omega)]
  unfold n5
  rw [show j = w.toNat - u.length by omega]
 | succ m ih =>
  intro f j hj hf
  obtain ⟨f, rfl⟩ : ∃ g, f = g + 1 := ⟨f - 1, by omega⟩
  rw [fE, aE, ar, if_pos (by simp; omega), bT (by show (bs [48]).size + _ ≤ _; rw [aE]; simp; omega)]
  have : (ByteArray.mk #[48]) ++ bs (List.replicate j 48 ++ u) = bs (List.replicate (j + 1) 48 ++ u) := by
   show bs [48] ++ _ = _
   rw [gS]; rfl
  rw [this]
  exact ih f (j + 1) (by omega) (by omega)
theorem ju {n w : Int} (h1 : 0 ≤ n) (h2 : n ≤ 999999999999999999) (h3 : 0 ≤ w) (h4 : w ≤ 100) : fI n w = some (bs (kN w.toNat n.natAbs)) := by
 unfold fI
 rw [Cb h1 h2]
 simp only [ae]
 have h := AG (Lib.decDigits n.natAbs) w h3 h4 (w.toNat - (Lib.decDigits n.natAbs).length) aW 0 (by omega) (by rw [aA]; omega)
 rw [List.replicate_zero, List.nil_append] at h
 rw [h]
 rfl
theorem jz {n : Int} (h : n.natAbs ≤ 999999999999999999) (k : Nat) (hk : k ≤ 18) : (kN k n.natAbs).length ≤ 18 := Dn k 18 _ (by decide) hk (by omega)
def I8 (r1 x2 : ByteArray) (p2 : Int) : Option ByteArray :=
 bI (0 ≤ (0 : Int) ∧ (0 : Int) ≤ (IntKind.i64.wrap ((r1.size : Int) - p2)) ∧ (IntKind.i64.wrap ((r1.size : Int) - p2)) ≤ (r1.size : Int)) <|
 az (some (r1.extract (0 : Int).toNat (IntKind.i64.wrap ((r1.size : Int) - p2)).toNat)) fun y1 =>
 bI (x2.size + y1.size ≤ 4611686018427387904) <|
 bI ((x2 ++ y1).size + (ByteArray.mk #[46]).size ≤ 4611686018427387904) <|
 bI (0 ≤ (IntKind.i64.wrap ((r1.size : Int) - p2)) ∧ (IntKind.i64.wrap ((r1.size : Int) - p2)) ≤ (r1.size : Int) ∧ (r1.size : Int) ≤ (r1.size : Int)) <|
 az (some (r1.extract (IntKind.i64.wrap ((r1.size : Int) - p2)).toNat (r1.size : Int).toNat)) fun y2 =>
 bI (((x2 ++ y1) ++ (ByteArray.mk #[46])).size + y2.size ≤ 4611686018427387904) <|
 some (((x2 ++ y1) ++ (ByteArray.mk #[46])) ++ y2)
theorem xP (p2 x1 : Int) (x2 : ByteArray) : jS p2 x1 x2 = az (eH x1 (IntKind.i64.wrap (p2 + (1 : Int)))) fun r1 => I8 r1 x2 p2 := rfl
theorem EF (v : ac) (x1 : Int) (x2 : ByteArray) : nC v x1 x2 = az (fI x1 (IntKind.i64.wrap (v.scale + (1 : Int)))) fun r1 => I8 r1 x2 v.scale := rfl
theorem qw (p x : List UInt8) (sc : Int) (h1 : 0 ≤ sc) (h2 : sc.toNat ≤ p.length) (h3 : p.length ≤ 100) (h4 : x.length ≤ 1) :
  I8 (bs p) (bs x) sc = some (bs (x ++ (p.take (p.length - sc.toNat) ++ 46 :: p.drop (p.length - sc.toNat)))) := by
 unfold I8
 simp only [aE]
 rw [fL (by omega) (by omega), bT (by omega)]
 simp only [ae, lh, Int.toNat_natCast, List.take_length]
 have e : ((p.length : Int) - sc).toNat = p.length - sc.toNat := by omega
 rw [e]
 show bI ((bs x).size + (bs _).size ≤ _) (bI ((bs x ++ bs _).size + (bs [46]).size ≤ _) (bI _ (bI (((bs x ++ bs _) ++ bs [46]).size + (bs _).size ≤ _) (some (((bs x ++ bs _) ++ bs [46]) ++ bs _))))) = _
 simp only [gS, aE]
 have hl : ((p.take (p.length - sc.toNat)).drop (Int.toNat 0)).length ≤ 100 := by simp; omega
 rw [bT (by omega), bT (by simp at hl ⊢; omega), bT (by omega), bT (by simp at hl ⊢; omega)]
 simp
theorem CH {n sc : Int} (h1 : -999999999999999999 ≤ n) (h2 : n ≤ 999999999999999999) (h3 : 0 ≤ sc) (h4 : sc ≤ 12) : mw n sc = some (bs (CK n sc)) := by
 have hp := jz (n := n) (by omega) (sc.toNat + 1) (by omega)
 have hg := tB (sc.toNat + 1) n.natAbs
 unfold mw CK
 rw [ar]
 by_cases hn : n < 0
 ·rw [if_pos (by simpa using hn), xP, fL (x := 0 - n) (by omega) (by omega), fL (x := sc + 1) (by omega) (by omega), kR (by omega) (by omega) (by omega) (by omega)]
  rw [show (0 - n).natAbs = n.natAbs by omega, show (sc + 1).toNat = sc.toNat + 1 by omega]
  rw [ae, show (ByteArray.mk #[45]) = bs [45] from rfl, qw _ [45] sc h3 (by omega) (by omega) (by simp)]
  unfold sg; rw [if_pos hn]; rfl
 ·rw [if_neg (by simpa using hn), xP, fL (x := sc + 1) (by omega) (by omega), kR (by omega) (by omega) (by omega) (by omega)]
  rw [show (sc + 1).toNat = sc.toNat + 1 by omega]
  rw [ae, show (ByteArray.mk #[]) = bs [] from rfl, qw _ [] sc h3 (by omega) (by omega) (by simp)]
  unfold sg; rw [if_neg hn]; rfl
theorem Cj {v : ac} (hk : v.kind = 3) (h1 : -999999999999999999 ≤ v.n) (h2 : v.n ≤ 999999999999999999) (h3 : 0 ≤ v.scale) (h4 : v.scale ≤ 12) (k0 : Nat) : d9 (k0 + 1) v = some (bs (CK v.n v.scale)) := by
 have hp := jz (n := v.n) (by omega) (v.scale.toNat + 1) (by omega)
 have hg := tB (v.scale.toNat + 1) v.n.natAbs
 rw [d9]
 simp only [hk, ar]
 unfold CK
 rw [if_neg (by decide), if_neg (by decide), if_pos (by decide)]
 by_cases hn : v.n < 0
 ·rw [if_pos (by simpa using hn), EF, fL (x := 0 - v.n) (by omega) (by omega), fL (x := v.scale + 1) (by omega) (by omega), ju (by omega) (by omega) (by omega) (by omega)]
  rw [show (0 - v.n).natAbs = v.n.natAbs by omega, show (v.scale + 1).toNat = v.scale.toNat + 1 by omega]
  rw [ae, show (ByteArray.mk #[45]) = bs [45] from rfl, qw _ [45] v.scale h3 (by omega) (by omega) (by simp)]
  unfold sg; rw [if_pos hn]; rfl
 ·rw [if_neg (by simpa using hn), EF, fL (x := v.scale + 1) (by omega) (by omega), ju (by omega) (by omega) (by omega) (by omega)]
  rw [show (v.scale + 1).toNat = v.scale.toNat + 1 by omega]
  rw [ae, show (ByteArray.mk #[]) = bs [] from rfl, qw _ [] v.scale h3 (by omega) (by omega) (by simp)]
  unfold sg; rw [if_neg hn]; rfl
end Go.Proofs.YtpmoopnkoknbeaaGreatDoor
namespace Go.Proofs.YtpmoopnkoknbeaaGreatDoor
open Go Go.PX Go.SX Go.SX.Cal
theorem tP {n : Int} (h1 : -62135596800 ≤ n) (h2 : n ≤ 253402300799) : Tm.chk (Tm.civ n) ∧ Tm.sec (Tm.civ n) = n := by
 obtain ⟨hf, hs, hd1, hd2⟩ := Tm.civ_ok (s := n) (by omega) (by omega)
 refine ⟨?_, hs⟩
 have hy1 : 1 ≤ (Tm.civ n).year := by
  rcases Int.lt_or_le (Tm.civ n).year 1 with h | h
  ·exfalso
   have h3 : (Cal.date (n / 86400)).1 = (Tm.civ n).year := rfl
   have h4 := (rE.1 h3).2
   have h5 := kP (y := (Tm.civ n).year + 1) (z := 1) (by omega)
   rw [Tm.days_one] at h5
   omega
  ·exact h
 have hy2 : (Tm.civ n).year ≤ 9999 := by
  rcases Int.lt_or_le 9999 (Tm.civ n).year with h | h
  ·exfalso
   have h3 : (Cal.date (n / 86400)).1 = (Tm.civ n).year := rfl
   have h4 := (rE.1 h3).1
   have h5 := kP (y := 10000) (z := (Tm.civ n).year) (by omega)
   have h6 : Cal.days 10000 1 1 = 2932897 := by decide +kernel
   rw [h6] at h5
   omega
  ·exact h
 obtain ⟨_, _, m1, m2, _, _, a1, a2, a3, a4, a5, a6⟩ := hf
 exact ⟨hy1, hy2, m1, m2, hd1, hd2, a1, a2, a3, a4, a5, a6⟩
theorem Hp {n : Int} (h1 : -62135596800 ≤ n) (h2 : n ≤ 253402300799) : nK n = some (bs (vj (Tm.civ n))) := by
 obtain ⟨a1, a2, b1, b2, c1, c2, d1, d2, e1, e2, f1, f2⟩ := (tP h1 h2).1
 have hdim := Tm.dim_bound (Tm.civ n).year (Tm.civ n).month
 unfold nK vj Bc
 rw [Tm.civil_eq (by omega) (by omega)]
 generalize Tm.civ n = c at *
 have l1 := jz (n := c.year) (by omega) 4 (by decide)
 have l2 := jz (n := c.month) (by omega) 2 (by decide)
 have l3 := jz (n := c.day) (by omega) 2 (by decide)
 have l4 := jz (n := c.hour) (by omega) 2 (by decide)
 have l5 := jz (n := c.minute) (by omega) 2 (by decide)
 have l6 := jz (n := c.second) (by omega) 2 (by decide)
 simp only [ae]
 rw [kR (n := c.year) (by omega) (by omega) (by omega) (by omega), kR (n := c.month) (by omega) (by omega) (by omega) (by omega), kR (n := c.day) (by omega) (by omega) (by omega) (by omega),
  kR (n := c.hour) (by omega) (by omega) (by omega) (by omega), kR (n := c.minute) (by omega) (by omega) (by omega) (by omega), kR (n := c.second) (by omega) (by omega) (by omega) (by omega)]
 simp only [ae, show (4 : Int).toNat = 4 from rfl, show (2 : Int).toNat = 2 from rfl]
 generalize kN 4 c.year.natAbs = x1 at *
 generalize kN 2 c.month.natAbs = x2 at *
 generalize kN 2 c.day.natAbs = x3 at *
 generalize kN 2 c.hour.natAbs = x4 at *
 generalize kN 2 c.minute.natAbs = x5 at *
 generalize kN 2 c.second.natAbs = x6 at *
 simp only [gS, aE, List.length_append, List.length_cons, List.length_nil]
 repeat rw [bT (by omega)]
 simp only [List.append_assoc, List.cons_append, List.nil_append]
theorem Kc {n : Int} (h1 : -62135596800 ≤ n) (h2 : n ≤ 253402300799) (v : ac) (hk : v.kind = 5) (hn : v.n = n) (k0 : Nat) : d9 (k0 + 1) v = some (bs (vj (Tm.civ n))) := by
 obtain ⟨a1, a2, b1, b2, c1, c2, d1, d2, e1, e2, f1, f2⟩ := (tP h1 h2).1
 have hdim := Tm.dim_bound (Tm.civ n).year (Tm.civ n).month
 have hy := Tm.years_of (s := n) (by omega) (by omega)
 rw [d9]
 simp only [hk, hn, ar]
 rw [if_neg (by decide), if_neg (by decide), if_neg (by decide), if_neg (by decide), if_pos (by decide)]
 rw [Tm.rcivil_eq (by omega) (by omega) hy.1 hy.2]
 unfold vj Bc
 generalize Tm.civ n = c at *
 have l1 := jz (n := c.year) (by omega) 4 (by decide)
 have l2 := jz (n := c.month) (by omega) 2 (by decide)
 have l3 := jz (n := c.day) (by omega) 2 (by decide)
 have l4 := jz (n := c.hour) (by omega) 2 (by decide)
 have l5 := jz (n := c.minute) (by omega) 2 (by decide)
 have l6 := jz (n := c.second) (by omega) 2 (by decide)
 simp only [ae]
 rw [ju (n := c.year) (by omega) (by omega) (by omega) (by omega), ju (n := c.month) (by omega) (by omega) (by omega) (by omega), ju (n := c.day) (by omega) (by omega) (by omega) (by omega),
  ju (n := c.hour) (by omega) (by omega) (by omega) (by omega), ju (n := c.minute) (by omega) (by omega) (by omega) (by omega), ju (n := c.second) (by omega) (by omega) (by omega) (by omega)]
 simp only [ae, show (4 : Int).toNat = 4 from rfl, show (2 : Int).toNat = 2 from rfl]
 generalize kN 4 c.year.natAbs = x1 at *
 generalize kN 2 c.month.natAbs = x2 at *
 generalize kN 2 c.day.natAbs = x3 at *
 generalize kN 2 c.hour.natAbs = x4 at *
 generalize kN 2 c.minute.natAbs = x5 at *
 generalize kN 2 c.second.natAbs = x6 at *
 simp only [gS, aE, List.length_append, List.length_cons, List.length_nil]
 repeat rw [bT (by omega)]
 simp only [List.append_assoc, List.cons_append, List.nil_append]
end Go.Proofs.YtpmoopnkoknbeaaGreatDoor
namespace Go.Proofs.YtpmoopnkoknbeaaGreatDoor
open Go Go.PX Go.SX Go.SX.Cal
structure Mn (v : ac) : Prop where
 num : v.kind = 2 ∨ v.kind = 3 → -999999999999999999 ≤ v.n ∧ v.n ≤ 999999999999999999
 sc : v.kind = 3 → 0 ≤ v.scale ∧ v.scale ≤ 12
 mom : v.kind = 5 → -62135596800 ≤ v.n ∧ v.n ≤ 253402300799
 txt : v.kind = 4 → v.s.size ≤ 256
 kin : 0 ≤ v.kind ∧ v.kind ≤ 7
 lst : v.kind = 6 → v.items.length ≤ 64
 bool : v.kind = 1 → v.n = 0 ∨ v.n = 1
 zero : v.kind ≠ 4 → v.s.size = 0
 nn : v.kind = 0 ∨ v.kind = 4 ∨ v.kind = 6 ∨ v.kind = 7 → v.n = 0
 rcd : v.kind = 7 → 1 ≤ v.items.length
theorem ja {v : ac} (h : bl v = true) : Mn v := by
 unfold bl at h
 simp only at h
 split at h
 ·simp at h; exact ⟨by omega, by omega, by omega, by omega, by omega, by omega, by omega, fun _ => by rw [h.2.1]; rfl, fun _ => h.1.1, by omega⟩
 ·split at h
  ·simp at h; exact ⟨by omega, by omega, by omega, by omega, by omega, by omega, by omega, fun _ => by rw [h.2.2.1]; rfl, by omega, by omega⟩
  ·split at h
   ·simp at h; exact ⟨by omega, by omega, by omega, by omega, by omega, by omega, by omega, fun _ => by rw [h.2.2.1]; rfl, by omega, by omega⟩
   ·split at h
    ·simp at h; exact ⟨by omega, by omega, by omega, by omega, by omega, by omega, by omega, fun _ => by rw [h.2.2.1]; rfl, by omega, by omega⟩
    ·split at h
     ·unfold pa at h; simp at h; exact ⟨by omega, by omega, by omega, by omega, by omega, by omega, by omega, by omega, fun _ => h.1.1, by omega⟩
     ·split at h
      ·simp at h; exact ⟨by omega, by omega, by omega, by omega, by omega, by omega, by omega, fun _ => by rw [h.2.2.1]; rfl, by omega, by omega⟩
      ·split at h
       ·simp at h; exact ⟨by omega, by omega, by omega, by omega, by omega, by omega, by omega, fun _ => by rw [h.2.1]; rfl, fun _ => h.1.1, by omega⟩
       ·split at h
        ·simp at h; exact ⟨by omega, by omega, by omega, by omega, by omega, by omega, by omega, fun _ => by rw [h.2.1]; rfl, fun _ => h.1.1, by omega⟩
        ·cases h
theorem xK (n : Int) (l : List UInt8) : (sg n l).length ≤ l.length + 1 := by unfold sg; split <;> simp
theorem wS {n sc : Int} (h1 : -999999999999999999 ≤ n) (h2 : n ≤ 999999999999999999) (h3 : 0 ≤ sc) (h4 : sc ≤ 12) : (CK n sc).length ≤ 20 := by
 have hp := jz (n := n) (by omega) (sc.toNat + 1) (by omega)
 unfold CK
 refine Nat.le_trans (xK _ _) ?_
 simp
 omega
theorem Ar {n : Int} (h1 : -62135596800 ≤ n) (h2 : n ≤ 253402300799) : (vj (Tm.civ n)).length = 20 := by
 obtain ⟨a1, a2, b1, b2, c1, c2, d1, d2, e1, e2, f1, f2⟩ := (tP h1 h2).1
 have hdim := Tm.dim_bound (Tm.civ n).year (Tm.civ n).month
 unfold vj Bc
 rw [show ∀ a b c d e f : List UInt8, a ++ 45 :: (b ++ 45 :: (c ++ 84 :: (d ++ 58 :: (e ++ 58 :: (f ++ [90]))))) = a ++ ([45] ++ b) ++ ([45] ++ c) ++ ([84] ++ d) ++ ([58] ++ e) ++ ([58] ++ f) ++ [90] from fun _ _ _ _ _ _ => by simp]
 simp only [List.length_append, List.length_singleton]
 rw [pW 4 _ (by decide) (by omega), pW 2 _ (by decide) (by omega), pW 2 _ (by decide) (by omega), pW 2 _ (by decide) (by omega), pW 2 _ (by decide) (by omega), pW 2 _ (by decide) (by omega)]
theorem wz : ∀ (d : Nat) (v : ac), pF d v → (T v).length + 2 ≤ 30 * aY v := by
 intro d
 induction d with
 | zero => intro v h; exact h.zero.elim
 | succ d ih =>
  intro v h
  obtain ⟨hp, hi⟩ := h.succ
  have hl := ja hp
  have hTR : ∀ l : List ac, (∀ x ∈ l, pF d x) → (TR l).length ≤ 30 * bX l := by
   intro l
   induction l with
   | nil => intro _; simp [TR]
   | cons x l ihl =>
    intro hx
    have h1 := ih x (hx x (List.mem_cons_self ..))
    have h2 := ihl (fun y hy => hx y (List.mem_cons_of_mem _ hy))
    simp only [TR, bX, List.length_cons, List.length_append]
    omega
  have hTJ : (TJ v.items).length ≤ 30 * bX v.items := by
   have := hTR v.items hi
   cases hv : v.items with
   | nil => simp [TJ]
   | cons x l =>
    rw [hv] at this
    simp only [TR, TJ, List.length_cons, List.length_append] at this ⊢
    omega
  obtain ⟨k, n, sc, s, l⟩ := v
  have hs := eb ⟨k, n, sc, s, l⟩
  simp only at hs hTJ hl
  have g1 := hl.num
  have g2 := hl.sc
  have g3 := hl.mom
  simp only at g1 g2 g3
  rw [T]
  split
  ·simp; omega
  ·split
   ·split <;> simp <;> omega
   ·split
    ·have := xK n (Lib.decDigits n.natAbs)
     have := wO n.natAbs (by have := g1 (.inl ‹_›); omega)
     omega
    ·split
     ·have a := g1 (.inr ‹_›)
      have b := g2 ‹_›
      have := wS a.1 a.2 b.1 b.2
      omega
     ·split
      ·have := wN s.data.toList
       have e : s.data.toList.length = s.size := by simp
       simp; omega
      ·split
       ·have a := g3 ‹_›
        have := Ar a.1 a.2
        omega
       ·split <;> simp <;> omega
end Go.Proofs.YtpmoopnkoknbeaaGreatDoor
namespace Go.Proofs.YtpmoopnkoknbeaaGreatDoor
open Go Go.PX Go.SX Go.SX.Cal
theorem kZ (v : ac) : T v = if v.kind = 0 then [110, 117, 108, 108]
  else if v.kind = 1 then (if v.n = 1 then [116, 114, 117, 101] else [102, 97, 108, 115, 101])
  else if v.kind = 2 then sg v.n (Lib.decDigits v.n.natAbs)
  else if v.kind = 3 then CK v.n v.scale
  else if v.kind = 4 then 39 :: (rA v.s.data.toList ++ [39])
  else if v.kind = 5 then vj (Tm.civ v.n)
  else if v.kind = 6 then 91 :: (TJ v.items ++ [93])
  else 40 :: (TJ v.items ++ [41]) := by
 obtain ⟨k, n, sc, s, l⟩ := v
 rw [T]
theorem DI {d : Nat} {l : List ac} (h : ∀ x ∈ l, pF d x) : (TJ l).length ≤ 30 * bX l := by
 induction l with
 | nil => simp [TJ]
 | cons x l ih =>
  have hTR : ∀ l : List ac, (∀ x ∈ l, pF d x) → (TR l).length ≤ 30 * bX l := by
   intro l
   induction l with
   | nil => intro _; simp [TR]
   | cons x l ihl =>
    intro hx
    have h1 := wz d x (hx x (List.mem_cons_self ..))
    have h2 := ihl (fun y hy => hx y (List.mem_cons_of_mem _ hy))
    simp only [TR, bX, List.length_cons, List.length_append]
    omega
  have h1 := wz d x (h x (List.mem_cons_self ..))
  have h2 := hTR l (fun y hy => h y (List.mem_cons_of_mem _ hy))
  simp only [TJ, bX, List.length_append]
  omega
theorem xB : ∀ (l : List ac) (i : Nat), bX (l.take i) ≤ bX l
 | [], i => by simp
 | v :: l, 0 => by simp [bX]
 | v :: l, i + 1 => by
  have := xB l i
  simp only [List.take_succ_cons, bX]
  omega
theorem mq {α : Type} {l : List α} {i : Nat} (h : i < l.length) : l.take (i + 1) = l.take i ++ [l[i]] := List.take_succ_eq_append_getElem h
theorem Fa (v : ac) (q : ac → Option ByteArray) (hq : ∀ x ∈ v.items, q x = some (bs (T x))) (hl : v.items.length ≤ 1000000000) : ∀ (m f i : Nat), i + m = v.items.length → m < f →
  gk q v f ((v.items.take i).map fun x => bs (T x)) (i : Int) = kg v (v.items.map fun x => bs (T x)) := by
 intro m
 induction m with
 | zero =>
  intro f i hi hf
  obtain ⟨f, rfl⟩ : ∃ g, f = g + 1 := ⟨f - 1, by omega⟩
  rw [gk, ar, if_neg (by simp; omega), show i = v.items.length by omega, List.take_length]
 | succ m ih =>
  intro f i hi hf
  obtain ⟨f, rfl⟩ : ∃ g, f = g + 1 := ⟨f - 1, by omega⟩
  have hlt : i < v.items.length := by omega
  rw [gk, ar, if_pos (by simp; omega), cf hlt, ae, hq _ (List.getElem_mem hlt), ae, bT (by simp; omega), fL (by omega) (by omega)]
  have e : ((v.items.take i).map fun x => bs (T x)) ++ [bs (T v.items[i])] = (v.items.take (i + 1)).map fun x => bs (T x) := by
   rw [mq hlt, List.map_append]; rfl
  rw [e]
  exact ih f (i + 1) (by omega) (by omega)
theorem Jz {d : Nat} (v : ac) (hv : aY v ≤ 10000000) (hi : ∀ x ∈ v.items, pF d x) : kg v (v.items.map fun x => bs (T x)) = some (bs (if v.kind = 6 then 91 :: (TJ v.items ++ [93]) else 40 :: (TJ v.items ++ [41]))) := by
 have hs := eb v
 have hl := DI hi
 have hn := dZ v.items
 unfold kg strings_Join
 have e : (v.items.map fun x => bs (T x)).map (·.data.toList) = v.items.map T := by
  rw [List.map_map]; rfl
 rw [e]
 show az (bI (_ ∧ (Lib.join _ [44, 32]).length ≤ _) (some (bs (Lib.join _ [44, 32])))) _ = _
 rw [KG, bT (by simp; omega), ae, ar]
 by_cases h6 : v.kind = 6
 ·rw [if_pos (by simpa using h6), if_pos h6]
  show bI ((bs [91]).size + _ ≤ _) (bI ((bs [91] ++ _).size + (bs [93]).size ≤ _) (some ((bs [91] ++ _) ++ bs [93]))) = _
  simp only [gS, aE, List.length_append, List.length_singleton]
  rw [bT (by omega), bT (by omega)]
  simp
 ·rw [if_neg (by simpa using h6), if_neg h6]
  show bI ((bs [40]).size + _ ≤ _) (bI ((bs [40] ++ _).size + (bs [41]).size ≤ _) (some ((bs [40] ++ _) ++ bs [41]))) = _
  simp only [gS, aE, List.length_append, List.length_singleton]
  rw [bT (by omega), bT (by omega)]
  simp
theorem wV : ∀ (d k : Nat) (v : ac), pF d v → d ≤ k → aY v ≤ 10000000 → fQ k v = some (bs (T v)) := by
 intro d
 induction d with
 | zero => intro k v h; exact h.zero.elim
 | succ d ih =>
  intro k v h hk hv
  obtain ⟨k, rfl⟩ : ∃ g, k = g + 1 := ⟨k - 1, by omega⟩
  obtain ⟨hp, hi⟩ := h.succ
  have hl := ja hp
  have hs := eb v
  have hn := dZ v.items
  rw [fQ, kZ]
  simp only [ar, beq_iff_eq]
  by_cases h0 : v.kind = 0
  ·simp only [h0, if_true]
  rw [if_neg h0, if_neg h0]
  by_cases h1 : v.kind = 1
  ·rw [if_pos h1, if_pos h1]
   unfold kG gh
   by_cases hn1 : v.n = 1
   ·simp [hn1, ax, az]
   ·have e1 : (v.n == 1) = false := by simpa using hn1
    rw [if_neg hn1, e1]; rfl
  rw [if_neg h1, if_neg h1]
  by_cases h2 : v.kind = 2
  ·rw [if_pos h2, if_pos h2, AR (hl.num (.inl h2)).1 (hl.num (.inl h2)).2]; rfl
  rw [if_neg h2, if_neg h2]
  by_cases h3 : v.kind = 3
  ·rw [if_pos h3, if_pos h3, CH (hl.num (.inr h3)).1 (hl.num (.inr h3)).2 (hl.sc h3).1 (hl.sc h3).2]; rfl
  rw [if_neg h3, if_neg h3]
  by_cases h4 : v.kind = 4
  ·rw [if_pos h4, if_pos h4]
   have hz := hl.txt h4
   have hr := xR v.s.data.toList
   have hel := wN v.s.data.toList
   have hsl : v.s.data.toList.length = v.s.size := by simp
   unfold strings_ReplaceAll
   rw [bT ⟨by omega, by decide, by
    show v.s.size + Lib.count v.s.data.toList [39] * 2 ≤ _
    have := hr.2; omega⟩, ae]
   show bI ((bs [39]).size + (bs (Lib.replaceAll v.s.data.toList [39] [39, 39])).size ≤ _) (bI ((bs [39] ++ bs (Lib.replaceAll v.s.data.toList [39] [39, 39])).size + (bs [39]).size ≤ _) (some ((bs [39] ++ bs (Lib.replaceAll v.s.data.toList [39] [39, 39])) ++ bs [39]))) = _
   rw [hr.1]
   simp only [gS, aE, List.length_append, List.length_singleton]
   rw [bT (by omega), bT (by omega)]
   simp
  rw [if_neg h4, if_neg h4]
  by_cases h5 : v.kind = 5
  ·rw [if_pos h5, if_pos h5, Hp (hl.mom h5).1 (hl.mom h5).2]; rfl
  rw [if_neg h5, if_neg h5]
  have := Fa v (fQ k) (fun x hx => ih k x (hi x hx) (by omega) (by have := ef hx; omega)) (by omega) v.items.length aW 0 (by omega) (by rw [aA]; omega)
  simp only [List.take_zero, List.map_nil] at this
  refine Eq.trans ?_ (Jz v hv hi)
  rw [← this]
  rfl
theorem zL (l : List UInt8) (i : Nat) (h : i < l.length) : l.getD i 0 = l[i] := by simp [List.getD, h]
theorem C9 (v : ac) (hs : v.s.size ≤ 256) : ∀ (m f i : Nat), i + m = v.s.size → m < f →
  eu v f (bs (39 :: rA (v.s.data.toList.take i))) (i : Int) = some (bs (39 :: (rA v.s.data.toList ++ [39]))) := by
 have hsl : v.s.data.toList.length = v.s.size := by simp
 intro m
 induction m with
 | zero =>
  intro f i hi hf
  obtain ⟨f, rfl⟩ : ∃ g, f = g + 1 := ⟨f - 1, by omega⟩
  have hel := wN v.s.data.toList
  rw [eu, ar, if_neg (by simp; omega), List.take_of_length_le (by omega)]
  unfold pU
  show bI ((bs _).size + (bs [39]).size ≤ _) (some (bs _ ++ bs [39])) = _
  simp only [gS, aE, List.length_append, List.length_singleton, List.length_cons, List.length_nil]
  rw [bT (by omega)]
  simp
 | succ m ih =>
  intro f i hi hf
  obtain ⟨f, rfl⟩ : ∃ g, f = g + 1 := ⟨f - 1, by omega⟩
  have hlt : i < v.s.data.toList.length := by omega
  have hel := wN (v.s.data.toList.take i)
  have htl : (v.s.data.toList.take i).length ≤ i := by simp; omega
  have hone : v.s.extract (i : Int).toNat (((i : Int) + 1).toNat) = bs [v.s.data.toList[i]] := by
   have := lh v.s.data.toList i (i + 1)
   rw [vF] at this
   rw [show (i : Int).toNat = i by omega, show ((i : Int) + 1).toNat = i + 1 by omega, this]
   rw [List.take_succ_eq_append_getElem hlt, List.drop_left' (by simp; omega)]
  have hget : v.s.data.toList.getD (i : Int).toNat 0 = v.s.data.toList[i] := by
   rw [show (i : Int).toNat = i by omega, zL _ _ hlt]
  rw [eu, ar, if_pos (by simp; omega), fL (x := (i : Int) + 1) (by omega) (by omega), bT (by omega), hone, gS, hget]
  have hnext : v.s.data.toList.take (i + 1) = v.s.data.toList.take i ++ [v.s.data.toList[i]] := List.take_succ_eq_append_getElem hlt
  generalize hc : v.s.data.toList[i] = c at *
  simp only [aE, List.length_cons, List.length_nil]
  rw [bT (by omega), ae, bT (by omega), ar]
  unfold nw
  rw [fL (x := (i : Int) + 1) (by omega) (by omega)]
  have := ih f (i + 1) (by omega) (by omega)
  rw [hnext, EV] at this
  by_cases h39 : c = 39
  ·subst h39
   rw [if_pos (by decide)]
   show bI ((bs _).size + (bs [39]).size ≤ _) (eu v f (bs _ ++ bs [39]) _) = _
   rw [gS, aE, aE, bT (by simp; omega)]
   rw [← this]
   simp [rA]
  ·rw [if_neg (by
    simp only [beq_iff_eq]
    intro h
    exact h39 (UInt8.toNat_inj.1 (by show c.toNat = 39; omega)))]
   rw [← this]
   simp [rA, h39]
theorem BB {d : Nat} (v : ac) (q : ac → Option ByteArray) (hv : aY v ≤ 10000000) (hi : ∀ x ∈ v.items, pF d x) (hq : ∀ x ∈ v.items, q x = some (bs (T x))) : ∀ (m f i : Nat), i + m = v.items.length → m < f →
  eA q v f (bs (TJ (v.items.take i))) (i : Int) = some (bs (if v.kind = 6 then 91 :: (TJ v.items ++ [93]) else 40 :: (TJ v.items ++ [41]))) := by
 have hs := eb v
 have hn := dZ v.items
 intro m
 induction m with
 | zero =>
  intro f i hii hf
  obtain ⟨f, rfl⟩ : ∃ g, f = g + 1 := ⟨f - 1, by omega⟩
  have hl := DI hi
  rw [eA, ar, if_neg (by simp; omega), List.take_of_length_le (by omega)]
  unfold p9
  rw [ar]
  by_cases h6 : v.kind = 6
  ·rw [if_pos (by simpa using h6), if_pos h6]
   show bI ((bs [91]).size + _ ≤ _) (bI ((bs [91] ++ _).size + (bs [93]).size ≤ _) (some ((bs [91] ++ _) ++ bs [93]))) = _
   simp only [gS, aE, List.length_append, List.length_singleton]
   rw [bT (by omega), bT (by omega)]
   simp
  ·rw [if_neg (by simpa using h6), if_neg h6]
   show bI ((bs [40]).size + _ ≤ _) (bI ((bs [40] ++ _).size + (bs [41]).size ≤ _) (some ((bs [40] ++ _) ++ bs [41]))) = _
   simp only [gS, aE, List.length_append, List.length_singleton]
   rw [bT (by omega), bT (by omega)]
   simp
 | succ m ih =>
  intro f i hii hf
  obtain ⟨f, rfl⟩ : ∃ g, f = g + 1 := ⟨f - 1, by omega⟩
  have hlt : i < v.items.length := by omega
  have hm := List.getElem_mem hlt
  have hTl := wz d _ (hi _ hm)
  have hsm := ef hm
  have hJl : (TJ (v.items.take i)).length ≤ 30 * bX v.items := Nat.le_trans (DI (fun x hx => hi x (List.mem_of_mem_take hx))) (by have := xB v.items i; omega)
  have hnext := ih f (i + 1) (by omega) (by omega)
  rw [mq hlt] at hnext
  rw [eA, ar, if_pos (by simp; omega), ar]
  by_cases h0 : i = 0
  ·subst h0
   rw [if_neg (by simp)]
   unfold lg
   rw [show at? v.items ((0 : Nat) : Int) = some v.items[0] from cf hlt, ae, hq _ hm, ae, gS, aE, aE, bT (by omega), fL (by omega) (by omega), ← hnext]
   simp [TJ, TR]
  ·rw [if_pos (by simp; omega)]
   unfold lg
   rw [cf hlt, ae, hq _ hm, ae]
   show bI ((bs _).size + (bs [44, 32]).size ≤ _) (bI ((bs _ ++ bs [44, 32]).size + _ ≤ _) (eA q v f ((bs _ ++ bs [44, 32]) ++ _) _)) = _
   simp only [gS, aE, List.length_append, List.length_cons, List.length_nil]
   rw [bT (by omega), bT (by omega), fL (by omega) (by omega), ← hnext, Jw _ _ (fun e => by have := congrArg List.length e; rw [List.length_take, List.length_nil] at this; omega)]
   simp
theorem Gl : ∀ (d k : Nat) (v : ac), pF d v → d ≤ k → aY v ≤ 10000000 → d9 k v = some (bs (T v)) := by
 intro d
 induction d with
 | zero => intro k v h; exact h.zero.elim
 | succ d ih =>
  intro k v h hk hv
  obtain ⟨k, rfl⟩ : ∃ g, k = g + 1 := ⟨k - 1, by omega⟩
  obtain ⟨hp, hi⟩ := h.succ
  have hl := ja hp
  have hs := eb v
  have hn := dZ v.items
  by_cases h3 : v.kind = 3
  ·rw [Cj h3 (hl.num (.inr h3)).1 (hl.num (.inr h3)).2 (hl.sc h3).1 (hl.sc h3).2, kZ]
   simp [h3]
  by_cases h5 : v.kind = 5
  ·rw [Kc (hl.mom h5).1 (hl.mom h5).2 v h5 rfl, kZ]
   simp [h5]
  rw [d9, kZ]
  simp only [ar, beq_iff_eq]
  by_cases h1 : v.kind = 1
  ·have h0 : ¬ v.kind = 0 := by omega
   rw [if_pos h1, if_neg h0, if_pos h1]
   by_cases hn1 : v.n = 1
   ·rw [if_pos hn1, if_pos hn1]
   ·rw [if_neg hn1, if_neg hn1]
  rw [if_neg h1]
  by_cases h2 : v.kind = 2
  ·rw [if_pos h2, AR (hl.num (.inl h2)).1 (hl.num (.inl h2)).2, if_neg (show ¬ v.kind = 0 by omega), if_neg h1, if_pos h2]; rfl
  rw [if_neg h2, if_neg h3]
  by_cases h4 : v.kind = 4
  ·rw [if_pos h4, if_neg (show ¬ v.kind = 0 by omega), if_neg h1, if_neg h2, if_neg h3, if_pos h4]
   have := C9 v (hl.txt h4) v.s.size aW 0 (by omega) (by rw [aA]; have := hl.txt h4; omega)
   rw [List.take_zero] at this
   exact this
  rw [if_neg h4, if_neg h5]
  by_cases h0 : v.kind = 0
  ·unfold lQ
   simp [h0, ar]
  rw [if_neg h0, if_neg h1, if_neg h2, if_neg h3, if_neg h4, if_neg h5]
  have hlp := BB v (d9 k) hv hi (fun x hx => ih k x (hi x hx) (by omega) (by have := ef hx; omega)) v.items.length aW 0 (by omega) (by rw [aA]; omega)
  rw [List.take_zero, TJ] at hlp
  unfold lQ
  have hk7 : v.kind = 6 ∨ v.kind = 7 := by have := hl.kin; omega
  rcases hk7 with h6 | h7
  ·rw [if_pos h6, ar, if_pos (by simp [h6]), if_pos h6]
   rw [if_pos h6] at hlp
   exact hlp
  ·rw [if_neg (by omega), ar, if_pos (by simp [h7]), if_neg (by omega)]
   rw [if_neg (by omega)] at hlp
   exact hlp
def TX (v : ac) : List UInt8 := if cx v = true then T v else []
theorem GR {v : ac} (h : cx v = true) : pF 4 v := ⟨0, h⟩
theorem BV (v : ac) (hv : aY v ≤ 10000000) : qx v = some (bs (TX v)) := by
 unfold qx TX
 rw [o9 v (by omega), ae, ar]
 cases h : cx v with
 | false => rfl
 | true =>
  rw [if_neg (by simp), wV 4 aW v (GR h) (by rw [aA]; omega) hv]; rfl
theorem yh (v : ac) (hv : aY v ≤ 10000000) : pB v = some (bs (TX v)) := by
 unfold pB TX
 rw [vp v (by omega), ae, ar]
 cases h : cx v with
 | false => rfl
 | true =>
  rw [if_neg (by simp), Gl 4 aW v (GR h) (by rw [aA]; omega) hv]; rfl
end Go.Proofs.YtpmoopnkoknbeaaGreatDoor
namespace Go.Proofs.YtpmoopnkoknbeaaGreatDoor
open Go Go.PX Go.SX Go.SX.Cal
theorem mN (p s : List UInt8) (bad : Bool) : cR (bs p) ⟨bs s, bad⟩ = some (pre p s, ⟨bs (off p s), bad⟩) := by
 have hp : bZ (bs s) (bs p) = some (pre p s) := by
  unfold bZ ce
  simp only [aE, ar]
  by_cases h : p.length ≤ s.length
  ·rw [if_pos (by simpa using h), bT (by omega), ae, lh, nr]
   congr 1
   rw [Bool.eq_iff_iff, i8]
   simp [h]
  ·rw [if_neg (by simpa using h)]
   congr 1
   rw [eq_comm, Bool.eq_false_iff]
   intro h2
   exact h ((i8 _ _).1 h2).1
 unfold cR fH jp dE
 simp only [hp, ae, ar]
 unfold off
 cases h : pre p s with
 | false => simp [az]
 | true =>
  have := ((i8 _ _).1 h).1
  simp only [aE, Bool.not_true, Bool.false_eq_true, if_false]
  rw [bT (by omega), lh]
  simp [az, ax]
abbrev jb (p s : List UInt8) : List UInt8 := s.takeWhile (p.contains ·)
abbrev ow (p s : List UInt8) : List UInt8 := s.dropWhile (p.contains ·)
theorem ny (p s : List UInt8) : jb p s ++ ow p s = s := List.takeWhile_append_dropWhile
theorem tT (p s : List UInt8) : (ow p s).length ≤ s.length := by
 have := congrArg List.length (ny p s)
 rw [List.length_append] at this; omega
theorem mz (p s : List UInt8) : (jb p s).length ≤ s.length := by
 have := congrArg List.length (ny p s)
 rw [List.length_append] at this; omega
theorem Ev (p s : List UInt8) (bad : Bool) (hp : p.length ≤ 1000) (ha : p.all (fun b => decide (b.toNat < 128)) = true) (hs : s.length ≤ 1000000000) :
  bz (bs p) ⟨bs s, bad⟩ = some (bs (jb p s), ⟨bs (ow p s), bad⟩) := by
 have hd := tT p s
 have hl := congrArg List.length (ny p s)
 rw [List.length_append] at hl
 unfold bz jQ
 rw [bT ⟨by rw [aE]; omega, ha⟩, ae]
 show bI (_ ∧ _ ∧ _) (az (some ((bs s).extract _ (IntKind.i64.wrap (((bs s).size : Int) - ((bs (ow p s)).size : Int))).toNat)) fun y1 => some (y1, aO.mk (bs (ow p s)) bad)) = _
 rw [bT]
 ·simp only [aE]
  rw [fL (by omega) (by omega), ae, lh, show (((s.length : Nat) : Int) - ((ow p s).length : Int)).toNat = (jb p s).length by omega]
  have : s.take (jb p s).length = jb p s := by
   have h2 := ny p s
   have h3 : (jb p s ++ ow p s).take (jb p s).length = jb p s := List.take_left' rfl
   rw [h2] at h3
   exact h3
  rw [this]
  rfl
 ·show (0 : Int) ≤ 0 ∧ (0 : Int) ≤ IntKind.i64.wrap (((bs s).size : Int) - ((bs (ow p s)).size : Int)) ∧ IntKind.i64.wrap (((bs s).size : Int) - ((bs (ow p s)).size : Int)) ≤ ((bs s).size : Int)
  simp only [aE]
  rw [fL (by omega) (by omega)]
  omega
theorem ji (l : List UInt8) (s : ByteArray) (bad : Bool) (hl : l.length ≤ 1000000000) : bM (bs l) ⟨s, bad⟩ = some ((gy l).1, ⟨s, bad || (gy l).2⟩) := by
 unfold bM gd gf nN
 rw [bT (by rw [aE]; omega), ae]
 show ax (gy l).2 _ _ = _
 simp only [ar]
 cases h : (gy l).2 <;> cases bad <;> simp
theorem gb (p s : List UInt8) (bad : Bool) : aZ (bs p) ⟨bs s, bad⟩ = some ((), ⟨bs (off p s), bad || !pre p s⟩) := by
 unfold aZ
 rw [mN, ae, ar]
 cases h : pre p s <;> cases bad <;> simp
abbrev lW : List UInt8 := [48, 49, 50, 51, 52, 53, 54, 55, 56, 57]
abbrev vn : List UInt8 := [45, 48, 49, 50, 51, 52, 53, 54, 55, 56, 57]
def st (e : UInt8) (s : List UInt8) (bad : Bool) : Int × List UInt8 × Bool :=
 ((gy (jb lW s)).1, off [e] (ow lW s), (bad || (gy (jb lW s)).2) || !pre [e] (ow lW s))
theorem ot (e : UInt8) (s : List UInt8) (bad : Bool) : (st e s bad).2.1.length ≤ s.length := by
 have h1 := tT lW s
 have h2 := kB [e] (ow lW s)
 show (off [e] (ow lW s)).length ≤ _
 omega
theorem vU (s : List UInt8) (bad : Bool) (hs : s.length ≤ 1000000000) : bz (ByteArray.mk #[48, 49, 50, 51, 52, 53, 54, 55, 56, 57]) ⟨bs s, bad⟩ = some (bs (jb lW s), ⟨bs (ow lW s), bad⟩) :=
 Ev lW s bad (by decide) (by decide) hs
theorem vP (s : List UInt8) (bad : Bool) (hs : s.length ≤ 1000000000) : bz (ByteArray.mk #[45, 48, 49, 50, 51, 52, 53, 54, 55, 56, 57]) ⟨bs s, bad⟩ = some (bs (jb vn s), ⟨bs (ow vn s), bad⟩) :=
 Ev vn s bad (by decide) (by decide) hs
theorem yi {β : Type} {a b : Nat} (h : a ≤ b) (x : Option β) : bI (a ≤ b) x = x := bT h x
def II (a1 a2 a3 a4 a5 a6 : Int × List UInt8 × Bool) : Int × aO :=
 if Tm.chk ⟨a1.1, a2.1, a3.1, a4.1, a5.1, a6.1⟩ then (Tm.sec ⟨a1.1, a2.1, a3.1, a4.1, a5.1, a6.1⟩, ⟨bs a6.2.1, a6.2.2⟩) else (0, ⟨bs a6.2.1, true⟩)
theorem zn (s : List UInt8) (bad : Bool) (hs : s.length ≤ 1000000000) (a1 a2 a3 a4 a5 a6 : Int × List UInt8 × Bool)
  (h1 : a1 = st 45 s bad) (h2 : a2 = st 45 a1.2.1 a1.2.2) (h3 : a3 = st 84 a2.2.1 a2.2.2) (h4 : a4 = st 58 a3.2.1 a3.2.2) (h5 : a5 = st 58 a4.2.1 a4.2.2) (h6 : a6 = st 90 a5.2.1 a5.2.2) :
  eM ⟨bs s, bad⟩ = some (II a1 a2 a3 a4 a5 a6) := by
 have l1 : a1.2.1.length ≤ s.length := by rw [h1]; exact ot _ _ _
 have l2 : a2.2.1.length ≤ a1.2.1.length := by rw [h2]; exact ot _ _ _
 have l3 : a3.2.1.length ≤ a2.2.1.length := by rw [h3]; exact ot _ _ _
 have l4 : a4.2.1.length ≤ a3.2.1.length := by rw [h4]; exact ot _ _ _
 have l5 : a5.2.1.length ≤ a4.2.1.length := by rw [h5]; exact ot _ _ _
 unfold eM
 simp only [show at? ([(ByteArray.mk #[45]), (ByteArray.mk #[45]), (ByteArray.mk #[84]), (ByteArray.mk #[58]), (ByteArray.mk #[58]), (ByteArray.mk #[90])]) (0 : Int) = some (bs [45]) from rfl,
  show at? ([(ByteArray.mk #[45]), (ByteArray.mk #[45]), (ByteArray.mk #[84]), (ByteArray.mk #[58]), (ByteArray.mk #[58]), (ByteArray.mk #[90])]) (1 : Int) = some (bs [45]) from rfl,
  show at? ([(ByteArray.mk #[45]), (ByteArray.mk #[45]), (ByteArray.mk #[84]), (ByteArray.mk #[58]), (ByteArray.mk #[58]), (ByteArray.mk #[90])]) (2 : Int) = some (bs [84]) from rfl,
  show at? ([(ByteArray.mk #[45]), (ByteArray.mk #[45]), (ByteArray.mk #[84]), (ByteArray.mk #[58]), (ByteArray.mk #[58]), (ByteArray.mk #[90])]) (3 : Int) = some (bs [58]) from rfl,
  show at? ([(ByteArray.mk #[45]), (ByteArray.mk #[45]), (ByteArray.mk #[84]), (ByteArray.mk #[58]), (ByteArray.mk #[58]), (ByteArray.mk #[90])]) (4 : Int) = some (bs [58]) from rfl,
  show at? ([(ByteArray.mk #[45]), (ByteArray.mk #[45]), (ByteArray.mk #[84]), (ByteArray.mk #[58]), (ByteArray.mk #[58]), (ByteArray.mk #[90])]) (5 : Int) = some (bs [90]) from rfl, ae]
 simp only [List.cons_append, List.nil_append, List.length_cons, List.length_nil]
 simp only [yi (show (0 + 1 + 1 : Nat) ≤ 4294967296 by decide), yi (show (0 + 1 + 1 + 1 : Nat) ≤ 4294967296 by decide), yi (show (0 + 1 + 1 + 1 + 1 : Nat) ≤ 4294967296 by decide), yi (show (0 + 1 + 1 + 1 + 1 + 1 : Nat) ≤ 4294967296 by decide), yi (show (0 + 1 + 1 + 1 + 1 + 1 + 1 : Nat) ≤ 4294967296 by decide)]
 rw [vU s bad (by omega), ae]; dsimp only
 rw [ji _ _ _ (by have := mz lW s; omega), ae]; dsimp only
 rw [gb, ae]; dsimp only
 rw [show off [45] (ow lW s) = a1.2.1 by rw [h1]; rfl, show ((bad || (gy (jb lW s)).2) || !pre [45] (ow lW s)) = a1.2.2 by rw [h1]; rfl, show (gy (jb lW s)).1 = a1.1 by rw [h1]; rfl]
 rw [vU a1.2.1 a1.2.2 (by omega), ae]; dsimp only
 rw [ji _ _ _ (by have := mz lW a1.2.1; omega), ae]; dsimp only
 rw [gb, ae]; dsimp only
 rw [show off [45] (ow lW a1.2.1) = a2.2.1 by rw [h2]; rfl, show ((a1.2.2 || (gy (jb lW a1.2.1)).2) || !pre [45] (ow lW a1.2.1)) = a2.2.2 by rw [h2]; rfl, show (gy (jb lW a1.2.1)).1 = a2.1 by rw [h2]; rfl]
 rw [vU a2.2.1 a2.2.2 (by omega), ae]; dsimp only
 rw [ji _ _ _ (by have := mz lW a2.2.1; omega), ae]; dsimp only
 rw [gb, ae]; dsimp only
 rw [show off [84] (ow lW a2.2.1) = a3.2.1 by rw [h3]; rfl, show ((a2.2.2 || (gy (jb lW a2.2.1)).2) || !pre [84] (ow lW a2.2.1)) = a3.2.2 by rw [h3]; rfl, show (gy (jb lW a2.2.1)).1 = a3.1 by rw [h3]; rfl]
 rw [vU a3.2.1 a3.2.2 (by omega), ae]; dsimp only
 rw [ji _ _ _ (by have := mz lW a3.2.1; omega), ae]; dsimp only
 rw [gb, ae]; dsimp only
 rw [show off [58] (ow lW a3.2.1) = a4.2.1 by rw [h4]; rfl, show ((a3.2.2 || (gy (jb lW a3.2.1)).2) || !pre [58] (ow lW a3.2.1)) = a4.2.2 by rw [h4]; rfl, show (gy (jb lW a3.2.1)).1 = a4.1 by rw [h4]; rfl]
 rw [vU a4.2.1 a4.2.2 (by omega), ae]; dsimp only
 rw [ji _ _ _ (by have := mz lW a4.2.1; omega), ae]; dsimp only
 rw [gb, ae]; dsimp only
 rw [show off [58] (ow lW a4.2.1) = a5.2.1 by rw [h5]; rfl, show ((a4.2.2 || (gy (jb lW a4.2.1)).2) || !pre [58] (ow lW a4.2.1)) = a5.2.2 by rw [h5]; rfl, show (gy (jb lW a4.2.1)).1 = a5.1 by rw [h5]; rfl]
 rw [vU a5.2.1 a5.2.2 (by omega), ae]; dsimp only
 rw [ji _ _ _ (by have := mz lW a5.2.1; omega), ae]; dsimp only
 rw [gb, ae]; dsimp only
 rw [show off [90] (ow lW a5.2.1) = a6.2.1 by rw [h6]; rfl, show ((a5.2.2 || (gy (jb lW a5.2.1)).2) || !pre [90] (ow lW a5.2.1)) = a6.2.2 by rw [h6]; rfl, show (gy (jb lW a5.2.1)).1 = a6.1 by rw [h6]; rfl]
 rw [show at? [a1.1, a2.1, a3.1, a4.1, a5.1, a6.1] (0 : Int) = some a1.1 from rfl, ae, show at? [a1.1, a2.1, a3.1, a4.1, a5.1, a6.1] (1 : Int) = some a2.1 from rfl, ae, show at? [a1.1, a2.1, a3.1, a4.1, a5.1, a6.1] (2 : Int) = some a3.1 from rfl, ae, show at? [a1.1, a2.1, a3.1, a4.1, a5.1, a6.1] (3 : Int) = some a4.1 from rfl, ae, show at? [a1.1, a2.1, a3.1, a4.1, a5.1, a6.1] (4 : Int) = some a5.1 from rfl, ae, show at? [a1.1, a2.1, a3.1, a4.1, a5.1, a6.1] (5 : Int) = some a6.1 from rfl, ae, Tm.check_eq, ae, ar]
 unfold II
 by_cases hc : Tm.chk ⟨a1.1, a2.1, a3.1, a4.1, a5.1, a6.1⟩
 ·have hc2 := hc
  unfold Tm.chk at hc2
  rw [if_pos hc, if_pos hc2, if_neg (by decide), Tm.seconds_eq (Tm.chk_fine hc), ae]
 ·have hc2 := hc
  unfold Tm.chk at hc2
  rw [if_neg hc, if_neg hc2, if_pos (by decide)]
end Go.Proofs.YtpmoopnkoknbeaaGreatDoor
namespace Go.Proofs.YtpmoopnkoknbeaaGreatDoor
open Go Go.PX Go.SX Go.SX.Cal
structure Rd (t : af) (s : List UInt8) (bad : Bool) (v : ac) (s' : List UInt8) (b' : Bool) : Prop where
 le : s'.length ≤ s.length
 sz : aY v + s'.length ≤ s.length + dn t
 ok : b' = false → bad = false ∧ aY v + s'.length ≤ s.length
theorem Dz : ∀ (n : Nat) (s cur acc : List UInt8), s.length ≤ n → (quo cur acc s).2.2 = false → (quo cur acc s).1.length + (quo cur acc s).2.1.length + 1 ≤ acc.length + s.length
 | 0, s, cur, acc, h => by
  have : s = [] := List.length_eq_zero_iff.1 (by omega)
  subst this
  rw [qf]; simp
 | n + 1, s, cur, acc, h => by
  match s with
  | [] => rw [qf]; simp
  | b :: r =>
   simp at h
   by_cases hb : b = 39
   ·subst hb
    by_cases hr : r.head? = some 39
    ·match r, hr with
     | c :: r, hr =>
      simp at hr; subst hr
      rw [ue]
      intro h2
      have := Dz n r r (acc ++ [39]) (by simp at h; omega) h2
      simp at this ⊢
      omega
    ·rw [uv _ _ _ hr]; simp; omega
   ·rw [pe hb]
    intro h2
    have := Dz n r cur (acc ++ [b]) h h2
    simp at this ⊢
    omega
theorem An : ∀ (n : Nat) (s cur acc : List UInt8), s.length ≤ n → (quo cur acc s).2.2 = true → (quo cur acc s).1 = []
 | 0, s, cur, acc, h => by
  have : s = [] := List.length_eq_zero_iff.1 (by omega)
  subst this
  rw [qf]; simp
 | n + 1, s, cur, acc, h => by
  match s with
  | [] => rw [qf]; simp
  | b :: r =>
   simp at h
   by_cases hb : b = 39
   ·subst hb
    by_cases hr : r.head? = some 39
    ·match r, hr with
     | c :: r, hr =>
      simp at hr; subst hr
      rw [ue]
      exact An n r r (acc ++ [39]) (by simp at h; omega)
    ·rw [uv _ _ _ hr]; simp
   ·rw [pe hb]
    exact An n r cur (acc ++ [b]) h
theorem Kf (s : List UInt8) : (quo s [] s).2.1.length ≤ s.length := by
 have := (A8 s.length s s [] (Nat.le_refl _)).1
 omega
theorem za (s : List UInt8) (bad : Bool) (hs : s.length ≤ 1000000000) : ga ⟨bs s, bad⟩ = some (bs (quo s [] s).1, ⟨bs (quo s [] s).2.1, bad || (quo s [] s).2.2⟩) := by
 unfold ga
 rw [bT (by rw [aE]; omega)]
theorem rD {p s : List UInt8} (h : pre p s = true) : (off p s).length + p.length = s.length := by
 have := ((i8 _ _).1 h).1
 unfold off
 rw [if_pos h, List.length_drop]; omega
theorem p8 {l : List UInt8} (h : (gy l).2 = false) : 1 ≤ l.length := by
 cases l with
 | nil => cases h
 | cons _ _ => simp
theorem zb {e : UInt8} {s : List UInt8} {bad : Bool} (h : (st e s bad).2.2 = false) : bad = false ∧ (st e s bad).2.1.length + 2 ≤ s.length := by
 unfold st at h ⊢
 simp only [Bool.or_eq_false_iff, Bool.not_eq_false'] at h
 obtain ⟨⟨h1, h2⟩, h3⟩ := h
 refine ⟨h1, ?_⟩
 have a := p8 h2
 have b := rD h3
 have c := congrArg List.length (ny lW s)
 rw [List.length_append] at c
 simp only [List.length_singleton] at b
 show (off [e] (ow lW s)).length + 2 ≤ _
 omega
theorem Dy (s : List UInt8) (bad : Bool) (hs : s.length ≤ 1000000000) : ∃ x s' b', eM ⟨bs s, bad⟩ = some (x, ⟨bs s', b'⟩) ∧ s'.length ≤ s.length ∧ (b' = false → bad = false ∧ s'.length + 2 ≤ s.length) := by
 have := zn s bad hs _ _ _ _ _ _ rfl rfl rfl rfl rfl rfl
 rw [this]
 have l1 := ot 45 s bad
 have k1 := @zb 45 s bad
 generalize st 45 s bad = a1 at *
 have l2 := ot 45 a1.2.1 a1.2.2
 have k2 := @zb 45 a1.2.1 a1.2.2
 generalize st 45 a1.2.1 a1.2.2 = a2 at *
 have l3 := ot 84 a2.2.1 a2.2.2
 have k3 := @zb 84 a2.2.1 a2.2.2
 generalize st 84 a2.2.1 a2.2.2 = a3 at *
 have l4 := ot 58 a3.2.1 a3.2.2
 have k4 := @zb 58 a3.2.1 a3.2.2
 generalize st 58 a3.2.1 a3.2.2 = a4 at *
 have l5 := ot 58 a4.2.1 a4.2.2
 have k5 := @zb 58 a4.2.1 a4.2.2
 generalize st 58 a4.2.1 a4.2.2 = a5 at *
 have l6 := ot 90 a5.2.1 a5.2.2
 have k6 := @zb 90 a5.2.1 a5.2.2
 generalize st 90 a5.2.1 a5.2.2 = a6 at *
 unfold II
 split
 ·refine ⟨_, _, _, rfl, by omega, fun h => ?_⟩
  have := k6 h
  have := k5 this.1
  have := k4 this.1
  have := k3 this.1
  have := k2 this.1
  have := k1 this.1
  exact ⟨this.1, by omega⟩
 ·exact ⟨_, _, _, rfl, by omega, fun h => by cases h⟩
theorem E4 {t : af} (hV : V t) (hT : dn t < 1000000000) (q : af → aO → Option (ac × aO)) (e : UInt8) (N M : Nat) (hN : N ≤ 1000000000) (hkk : t.kind = 6 ∨ t.kind = 7)
  (hq : ∀ f ∈ t.fields, ∀ s bad, s.length ≤ N → ∃ v s' b', q f.type ⟨bs s, bad⟩ = some (v, ⟨bs s', b'⟩) ∧ s'.length ≤ s.length ∧ aY v + s'.length ≤ s.length + M ∧ (b' = false → bad = false ∧ aY v + s'.length ≤ s.length)) :
  ∀ (m f : Nat) (l : List ac) (s : List UInt8) (b : Bool) (S : Nat), 66 ≤ l.length + m → l.length ≤ 66 → m < f → s.length ≤ N → (t.kind = 7 → l.length ≤ t.fields.length) → (b = false → bX l + s.length ≤ S) → bX l + s.length ≤ S + M →
   ∃ l' s' b', aJ q t (bs [e]) f l (bs s) b = some (l', ⟨bs s', b'⟩) ∧ s'.length ≤ s.length ∧ bX l' + s'.length ≤ S + M ∧ (b' = false → b = false ∧ bX l' + s'.length ≤ S) := by
 have hlen := gN t
 have hfl := nS t.fields
 have hsn : ∀ (l : List ac) v, bX (l ++ [v]) = bX l + aY v := by
  intro l v
  induction l with
  | nil => simp [bX]
  | cons x l ih => simp only [List.cons_append, bX, ih]; omega
 intro m
 induction m with
 | zero =>
  intro f l s b S h1 h2 hf hs h7 hb hb2
  obtain ⟨f, rfl⟩ : ∃ g, f = g + 1 := ⟨f - 1, by omega⟩
  rw [aJ, ar]
  cases b with
  | true =>
   rw [if_neg (by simp)]
   exact ⟨l, s, true, rfl, Nat.le_refl _, hb2, fun h => by cases h⟩
  | false =>
   rw [if_pos (by simp), mN, ae]
   have hol := kB [e] s
   unfold ca cB bw cA
   simp only [ar]
   cases hp : pre [e] s with
   | true =>
    have := rD hp
    refine ⟨l, off [e] s, false, rfl, hol, by omega, fun _ => ⟨by simp, ?_⟩⟩
    have := hb rfl
    omega
   | false =>
    have h64 : decide ((64 : Int) < ((l.length : Nat) : Int)) = true := by simp; omega
    have hpos : decide ((0 : Int) < ((l.length : Nat) : Int)) = true := by simp; omega
    simp only [h64, hpos, Bool.not_false, if_true]
    show ∃ l' s' b', az (aZ (bs [44, 32]) _) _ = _ ∧ _
    rw [gb, ae]
    have h3 := kB [44, 32] (off [e] s)
    dsimp only
    split
    ·split
     ·exact ⟨l, _, true, rfl, by omega, by omega, fun h => by cases h⟩
     ·exact ⟨l, _, true, rfl, by omega, by omega, fun h => by cases h⟩
    ·exact ⟨l, _, true, rfl, by omega, by omega, fun h => by cases h⟩
 | succ m ih =>
  intro f l s b S h1 h2 hf hs h7 hb hb2
  obtain ⟨f, rfl⟩ : ∃ g, f = g + 1 := ⟨f - 1, by omega⟩
  rw [aJ, ar]
  cases b with
  | true =>
   rw [if_neg (by simp)]
   exact ⟨l, s, true, rfl, Nat.le_refl _, hb2, fun h => by cases h⟩
  | false =>
   rw [if_pos (by simp), mN, ae]
   have hol := kB [e] s
   have hb1 := hb rfl
   cases hp : pre [e] s with
   | true =>
    have := rD hp
    unfold ca cA
    exact ⟨l, off [e] s, false, rfl, hol, by omega, fun _ => ⟨rfl, by omega⟩⟩
   | false =>
    -- from here: s1 and b1 behind the comma
    have j3 : ∀ (s1 : List UInt8) (b1 : Bool), s1.length ≤ s.length → ¬ (t.kind = 7 ∧ l.length = t.fields.length) → l.length ≤ 64 →
      ∃ l' s' b', bw (aJ q t (bs [e]) f) q t l (bs s1) b1 false = some (l', ⟨bs s', b'⟩) ∧ s'.length ≤ s.length ∧ bX l' + s'.length ≤ S + M ∧ (b' = false → bX l' + s'.length ≤ S) := by
     intro s1 b1 hs1 hk hl64
     unfold bw
     rw [ar, if_neg (by simp)]
     obtain ⟨fd, hfm, hfd⟩ : ∃ fd, fd ∈ t.fields ∧ cS t ((l.length : Nat) : Int) = some fd := by
      unfold cS eG
      rw [ar]
      by_cases h6 : t.kind = 6
      ·rw [if_pos (by simpa using h6)]
       have := hV.list h6
       exact ⟨t.fields[0], List.getElem_mem (by omega), by rw [show at? t.fields (0 : Int) = some t.fields[0] from cf (i := 0) (by omega)]; rfl⟩
      ·rw [if_neg (by simpa using h6)]
       have h70 : t.kind = 7 := by omega
       have := h7 h70
       have hlt : l.length < t.fields.length := by
        rcases Nat.lt_or_ge l.length t.fields.length with h | h
        ·exact h
        ·exact absurd ⟨h70, by omega⟩ hk
       exact ⟨t.fields[l.length], List.getElem_mem hlt, by rw [cf hlt]; rfl⟩
     rw [hfd, ae]
     obtain ⟨v, s', b', e1, e2, e3, e4⟩ := hq fd hfm s1 b1 (by omega)
     rw [e1, ae, bT (by omega)]
     dsimp only
     have hlt7 : t.kind = 7 → (l ++ [v]).length ≤ t.fields.length := by
      intro h
      have := h7 h
      rw [List.length_append, List.length_singleton]
      rcases Nat.lt_or_ge l.length t.fields.length with h' | h'
      ·omega
      ·exact absurd ⟨h, by omega⟩ hk
     obtain ⟨l2, s2, b2, g1, g2, g3, g4⟩ := ih f (l ++ [v]) s' b' S (by simp; omega) (by simp; omega) (by omega) (by omega) hlt7 (fun h => by rw [hsn]; have := e4 h; omega) (by rw [hsn]; omega)
     exact ⟨l2, s2, b2, g1, by omega, g3, fun h => (g4 h).2⟩
    have j2 : ∀ (s1 : List UInt8) (b1 : Bool), s1.length ≤ s.length →
      ∃ l' s' b', cB (aJ q t (bs [e]) f) q t l (bs s1) b1 = some (l', ⟨bs s', b'⟩) ∧ s'.length ≤ s.length ∧ bX l' + s'.length ≤ S + M ∧ (b' = false → bX l' + s'.length ≤ S) := by
     intro s1 b1 hs1
     have out : ∃ l' s' b', bw (aJ q t (bs [e]) f) q t l (bs s1) b1 true = some (l', ⟨bs s', b'⟩) ∧ s'.length ≤ s.length ∧ bX l' + s'.length ≤ S + M ∧ (b' = false → bX l' + s'.length ≤ S) := by
      unfold bw cA
      exact ⟨l, s1, true, rfl, hs1, by omega, fun h => by cases h⟩
     unfold cB
     simp only [ar]
     have hd : decide ((64 : Int) < ((l.length : Nat) : Int)) = decide (64 < l.length) := by
      rw [Bool.eq_iff_iff]; simp; omega
     rw [hd]
     by_cases hk7 : t.kind = 7
     ·rw [if_pos (by simpa using hk7)]
      by_cases hkl : l.length = t.fields.length
      ·rw [if_pos (by simp [hkl])]
       exact out
      ·rw [if_neg (by simp; omega)]
       by_cases h64 : 64 < l.length
       ·rw [show decide (64 < l.length) = true by simpa using h64]; exact out
       ·rw [show decide (64 < l.length) = false by simpa using h64]; exact j3 s1 b1 hs1 (fun h => hkl h.2) (by omega)
     ·rw [if_neg (by simpa using hk7)]
      by_cases h64 : 64 < l.length
      ·rw [show decide (64 < l.length) = true by simpa using h64]; exact out
      ·rw [show decide (64 < l.length) = false by simpa using h64]; exact j3 s1 b1 hs1 (fun h => hk7 h.1) (by omega)
    unfold ca
    dsimp only
    rw [ar, if_pos (by simp), ar]
    split
    ·show ∃ l' s' b', az (aZ (bs [44, 32]) ⟨bs (off [e] s), false⟩) _ = _ ∧ _
     rw [gb, ae]
     have h3 := kB [44, 32] (off [e] s)
     obtain ⟨l', s', b', e1, e2, e3, e4⟩ := j2 (off [44, 32] (off [e] s)) (false || !pre [44, 32] (off [e] s)) (by omega)
     exact ⟨l', s', b', e1, e2, e3, fun h => ⟨rfl, e4 h⟩⟩
    ·obtain ⟨l', s', b', e1, e2, e3, e4⟩ := j2 (off [e] s) false hol
     exact ⟨l', s', b', e1, e2, e3, fun h => ⟨rfl, e4 h⟩⟩
end Go.Proofs.YtpmoopnkoknbeaaGreatDoor
namespace Go.Proofs.YtpmoopnkoknbeaaGreatDoor
open Go Go.PX Go.SX Go.SX.Cal
theorem bp (k n sc : Int) (s : ByteArray) : aY ⟨k, n, sc, s, []⟩ = s.size + 1 := by
 rw [eb]; simp [bX]
theorem l7 (k n sc : Int) (l : List ac) : aY ⟨k, n, sc, ByteArray.empty, l⟩ = bX l + 1 := by
 rw [eb]; simp [bH]
theorem E5 : ∀ (n : Nat) (t : af), dn t ≤ n → V t → dn t < 1000000000 → ∀ (k : Nat), 2 * n ≤ k → ∀ (s : List UInt8) (bad : Bool), s.length ≤ 1000000000 →
  ∃ v s' b', aS k t ⟨bs s, bad⟩ = some (v, ⟨bs s', b'⟩) ∧ Rd t s bad v s' b' := by
 intro n
 induction n with
 | zero => intro t h; have := gN t; omega
 | succ n ih =>
  intro t hn hV hT k hk s bad hs
  obtain ⟨k, rfl⟩ : ∃ g, k = g + 2 := ⟨k - 2, by omega⟩
  have hst := gN t
  rw [aS, show (ByteArray.mk #[110, 117, 108, 108]) = bs [110, 117, 108, 108] from rfl, mN, ae]
  dsimp only
  simp only [ar]
  have ho := kB [110, 117, 108, 108] s
  cases hp : pre [110, 117, 108, 108] s with
  | true =>
   have := rD hp
   simp only [List.length_cons, List.length_nil] at this
   exact ⟨_, _, _, rfl, ho, by rw [bp, bH]; omega, fun h => ⟨h, by rw [bp, bH]; omega⟩⟩
  | false =>
   have hoff : off [110, 117, 108, 108] s = s := by unfold off; rw [hp]; rfl
   rw [hoff]
   rw [if_neg (by simp)]
   unfold bm
   simp only [beq_iff_eq]
   by_cases h1 : t.kind = 1
   ·rw [if_pos h1, show (ByteArray.mk #[116, 114, 117, 101]) = bs [116, 114, 117, 101] from rfl, mN, ae]
    dsimp only
    have h2 := kB [116, 114, 117, 101] s
    cases hq : pre [116, 114, 117, 101] s with
    | true =>
     have := rD hq
     simp only [List.length_cons, List.length_nil] at this
     exact ⟨_, _, _, rfl, h2, by rw [bp, bH]; omega, fun h => ⟨h, by rw [bp, bH]; omega⟩⟩
    | false =>
     rw [if_neg (by simp), show (ByteArray.mk #[102, 97, 108, 115, 101]) = bs [102, 97, 108, 115, 101] from rfl, gb, ae]
     dsimp only
     have h3 := kB [102, 97, 108, 115, 101] (off [116, 114, 117, 101] s)
     refine ⟨_, _, _, rfl, by omega, by rw [bp, bH]; omega, fun h => ?_⟩
     simp only [Bool.or_eq_false_iff, Bool.not_eq_false'] at h
     have := rD h.2
     simp only [List.length_cons, List.length_nil] at this
     exact ⟨h.1, by rw [bp, bH]; omega⟩
   rw [if_neg h1]
   by_cases h2 : t.kind = 2
   ·have hsp := congrArg List.length (ny vn s)
    rw [List.length_append] at hsp
    rw [if_pos h2, vP s bad hs, ae]
    dsimp only
    rw [ji _ _ _ (by omega), ae]
    refine ⟨_, _, _, rfl, by omega, by rw [bp, bH]; omega, fun h => ?_⟩
    simp only [Bool.or_eq_false_iff] at h
    have := p8 h.2
    exact ⟨h.1, by rw [bp, bH]; omega⟩
   rw [if_neg h2]
   by_cases h3 : t.kind = 3
   ·have hsp := congrArg List.length (ny vn s)
    rw [List.length_append] at hsp
    have hol := kB [46] (ow vn s)
    have hsp2 := congrArg List.length (ny vn (off [46] (ow vn s)))
    rw [List.length_append] at hsp2
    rw [if_pos h3, vP s bad hs, ae]
    dsimp only
    rw [show (ByteArray.mk #[46]) = bs [46] from rfl, gb, ae]
    dsimp only
    rw [vP _ _ (by omega), ae]
    dsimp only
    rw [aE, aE, bT (by omega), gS, ji _ _ _ (by rw [List.length_append]; omega), ae]
    refine ⟨_, _, _, rfl, by omega, by rw [bp, bH]; omega, fun h => ?_⟩
    simp only [Bool.or_eq_false_iff, Bool.not_eq_false'] at h
    have := p8 h.2
    rw [List.length_append] at this
    exact ⟨h.1.1, by rw [bp, bH]; omega⟩
   rw [if_neg h3]
   by_cases h4 : t.kind = 4
   ·have hol := kB [39] s
    rw [if_pos h4, show (ByteArray.mk #[39]) = bs [39] from rfl, gb, ae]
    dsimp only
    rw [za _ _ (by omega), ae]
    have hql := Kf (off [39] s)
    have hq1 := Dz _ (off [39] s) (off [39] s) [] (Nat.le_refl _)
    have hq2 := An _ (off [39] s) (off [39] s) [] (Nat.le_refl _)
    refine ⟨_, _, _, rfl, by omega, ?_, fun h => ?_⟩
    ·rw [bp, aE]
     cases hb : (quo (off [39] s) [] (off [39] s)).2.2 with
     | true => rw [hq2 hb]; simp; omega
     | false => have := hq1 hb; simp at this ⊢; omega
    ·simp only [Bool.or_eq_false_iff, Bool.not_eq_false'] at h
     have := hq1 h.2
     simp only [List.length_nil] at this
     exact ⟨h.1.1, by rw [bp, aE]; omega⟩
   rw [if_neg h4]
   by_cases h5 : t.kind = 5
   ·rw [if_pos h5]
    obtain ⟨x, s', b', e1, e2, e3⟩ := Dy s bad hs
    rw [e1, ae]
    exact ⟨_, _, _, rfl, e2, by rw [bp, bH]; omega, fun h => ⟨(e3 h).1, by rw [bp, bH]; have := (e3 h).2; omega⟩⟩
   rw [if_neg h5]
   have loop : ∀ (o e : UInt8), (t.kind = 6 ∨ t.kind = 7) → ∃ l' s' b', cU (k + 1) t (bs [e]) ⟨bs (off [o] s), bad || !pre [o] s⟩ = some (l', ⟨bs s', b'⟩) ∧ s'.length ≤ s.length ∧ bX l' + 1 + s'.length ≤ s.length + dn t ∧ (b' = false → bad = false ∧ bX l' + 1 + s'.length ≤ s.length) := by
    intro o e hkk
    have hol := kB [o] s
    have hok := @rD [o] s
    rw [cU]
    dsimp only
    obtain ⟨l', s', b', e1, e2, e3, e4⟩ := E4 hV hT (aS k) e 1000000000 (dn t - 1) (Nat.le_refl _) hkk (fun f hf u b hu => by
      have h1 := io hf
      have h2 := gG f
      obtain ⟨v, s', b', g1, g2⟩ := ih f.type (by omega) (hV.fs f hf) (by omega) k (by omega) u b hu
      exact ⟨v, s', b', g1, g2.le, by have := g2.sz; omega, g2.ok⟩) 66 aW [] (off [o] s) (bad || !pre [o] s) (off [o] s).length (by simp) (by simp) (by rw [aA]; omega) (by omega) (by simp) (by simp [bX]) (by simp [bX])
    refine ⟨l', s', b', e1, by omega, by omega, fun h => ?_⟩
    obtain ⟨a1, a2⟩ := e4 h
    simp only [Bool.or_eq_false_iff, Bool.not_eq_false'] at a1
    have := hok a1.2
    simp only [List.length_singleton] at this
    exact ⟨a1.1, by omega⟩
   by_cases h6 : t.kind = 6
   ·rw [if_pos h6, show (ByteArray.mk #[91]) = bs [91] from rfl, gb, ae, show (ByteArray.mk #[93]) = bs [93] from rfl]
    dsimp only
    obtain ⟨l', s', b', e1, e2, e3, e4⟩ := loop 91 93 (.inl h6)
    rw [e1, ae]
    exact ⟨_, _, _, rfl, e2, by rw [l7]; omega, fun h => ⟨(e4 h).1, by rw [l7]; have := (e4 h).2; omega⟩⟩
   rw [if_neg h6]
   by_cases h7 : t.kind = 7
   ·rw [if_pos h7, show (ByteArray.mk #[40]) = bs [40] from rfl, gb, ae, show (ByteArray.mk #[41]) = bs [41] from rfl]
    dsimp only
    obtain ⟨l', s', b', e1, e2, e3, e4⟩ := loop 40 41 (.inr h7)
    rw [e1, ae]
    exact ⟨_, _, _, rfl, e2, by rw [l7]; omega, fun h => ⟨(e4 h).1, by rw [l7]; have := (e4 h).2; omega⟩⟩
   exfalso
   have := hV.sh
   unfold shp at this
   by_cases hx : t.kind < 1 ∨ 7 < t.kind
   ·rw [if_pos hx] at this; cases this
   ·omega
end Go.Proofs.YtpmoopnkoknbeaaGreatDoor
namespace Go.Proofs.YtpmoopnkoknbeaaGreatDoor
open Go Go.PX Go.SX Go.SX.Cal
def tM (r : List UInt8) : Prop := ∀ b, r.head? = some b → b = 44 ∨ b = 93 ∨ b = 41
theorem zk : tM [] := by intro b h; cases h
theorem yf {b : UInt8} {r : List UInt8} (h : b = 44 ∨ b = 93 ∨ b = 41) : tM (b :: r) := by
 intro c hc; simp at hc; subst hc; exact h
theorem tw {p : UInt8 → Bool} {l r : List UInt8} (h : ∀ x ∈ l, p x = true) (h2 : ∀ b, r.head? = some b → p b = false) : (l ++ r).takeWhile p = l ∧ (l ++ r).dropWhile p = r := by
 induction l with
 | nil =>
  cases r with
  | nil => exact ⟨rfl, rfl⟩
  | cons b r => have := h2 b rfl; simp [this]
 | cons x l ih =>
  have h3 := h x (List.mem_cons_self ..)
  have := ih (fun y hy => h y (List.mem_cons_of_mem _ hy))
  simp [h3, this]
theorem wa (b : UInt8) : lW.contains b = oC b := by
 have h : ((List.range 256).all fun n => lW.contains (UInt8.ofNat n) == oC (UInt8.ofNat n)) = true := by decide +kernel
 have h2 := List.all_eq_true.1 h b.toNat (List.mem_range.2 (UInt8.toNat_lt b))
 rw [UInt8.ofNat_toNat] at h2
 exact beq_iff_eq.1 h2
theorem KQ (b : UInt8) : vn.contains b = (b == 45 || oC b) := by
 rw [← wa]; rfl
theorem zN {r : List UInt8} (h : tM r) : ∀ b, r.head? = some b → vn.contains b = false := by
 intro b hb
 rcases h b hb with rfl | rfl | rfl <;> decide
theorem EC {l : List UInt8} (h : l.all oC = true) : ∀ x ∈ l, lW.contains x = true := by
 intro x hx; rw [wa]; exact List.all_eq_true.1 h x hx
theorem tQ {l : List UInt8} (h : l.all oC = true) : ∀ x ∈ l, vn.contains x = true := by
 intro x hx; rw [KQ, List.all_eq_true.1 h x hx, Bool.or_true]
theorem zH {l : List UInt8} (n : Int) (h : l.all oC = true) : ∀ x ∈ sg n l, vn.contains x = true := by
 unfold sg
 split
 ·intro x hx
  rcases List.mem_cons.1 hx with rfl | hx
  ·decide
  ·exact tQ h x hx
 ·exact tQ h
theorem xE (n : Int) (l r : List UInt8) : sg n l ++ r = sg n (l ++ r) := by unfold sg; split <;> rfl
theorem IS {l r : List UInt8} (h : (l ++ r).all oC = true) : l.all oC = true ∧ r.all oC = true := by
 rw [List.all_append, Bool.and_eq_true] at h; exact h
theorem tS {n : Int} {l : List UInt8} (hd : l.all oC = true) (h0 : l ≠ []) (hn : num 0 l = n.natAbs) (h : n.natAbs < 9223372036854775808) : gy (sg n l) = (n, false) := by
 unfold gy
 rw [Jk hd h0 hn h]
theorem mT {a b : UInt8} (p r : List UInt8) (h : a ≠ b) : pre (a :: p) (b :: r) = false := by simp [pre, h]
theorem uc (n : Int) (h0 : 0 ≤ n) (h : n ≤ 99) (e : UInt8) (he : oC e = false) (r : List UInt8) : st e (Bc n ++ e :: r) false = (n, r, false) := by
 obtain ⟨h1, h2, h3⟩ := nZ 2 n.natAbs
 obtain ⟨t1, t2⟩ := tw (l := Bc n) (r := e :: r) (EC h1) (fun b hb => by simp at hb; subst hb; rw [wa]; exact he)
 unfold st
 show ((gy ((Bc n ++ e :: r).takeWhile (lW.contains ·))).1, off [e] ((Bc n ++ e :: r).dropWhile (lW.contains ·)), (false || (gy ((Bc n ++ e :: r).takeWhile (lW.contains ·))).2) || !pre [e] ((Bc n ++ e :: r).dropWhile (lW.contains ·))) = _
 rw [t1, t2]
 have hz : gy (Bc n) = (n, false) := by
  have := tS (n := n) h1 h3 h2 (by omega)
  unfold sg at this
  rw [if_neg (by omega)] at this
  exact this
 rw [hz, show off [e] (e :: r) = r from jZ [e] r, show pre [e] (e :: r) = true from iG [e] r]
 rfl
theorem Gf (n : Int) (h0 : 0 ≤ n) (h : n ≤ 9999) (e : UInt8) (he : oC e = false) (r : List UInt8) : st e (kN 4 n.natAbs ++ e :: r) false = (n, r, false) := by
 obtain ⟨h1, h2, h3⟩ := nZ 4 n.natAbs
 obtain ⟨t1, t2⟩ := tw (l := kN 4 n.natAbs) (r := e :: r) (EC h1) (fun b hb => by simp at hb; subst hb; rw [wa]; exact he)
 unfold st
 show ((gy ((kN 4 n.natAbs ++ e :: r).takeWhile (lW.contains ·))).1, off [e] ((kN 4 n.natAbs ++ e :: r).dropWhile (lW.contains ·)), (false || (gy ((kN 4 n.natAbs ++ e :: r).takeWhile (lW.contains ·))).2) || !pre [e] ((kN 4 n.natAbs ++ e :: r).dropWhile (lW.contains ·))) = _
 rw [t1, t2]
 have hz : gy (kN 4 n.natAbs) = (n, false) := by
  have := tS (n := n) h1 h3 h2 (by omega)
  unfold sg at this
  rw [if_neg (by omega)] at this
  exact this
 rw [hz, show off [e] (e :: r) = r from jZ [e] r, show pre [e] (e :: r) = true from iG [e] r]
 rfl
theorem F0 {c : dJ} (hc : Tm.chk c) (r : List UInt8) (hl : (vj c ++ r).length ≤ 1000000000) : eM ⟨bs (vj c ++ r), false⟩ = some (Tm.sec c, ⟨bs r, false⟩) := by
 obtain ⟨a1, a2, b1, b2, c1, c2, d1, d2, e1, e2, f1, f2⟩ := id hc
 have hdim := Tm.dim_bound c.year c.month
 rw [zn _ _ hl _ _ _ _ _ _ rfl rfl rfl rfl rfl rfl]
 unfold vj
 simp only [List.append_assoc, List.cons_append, List.nil_append]
 rw [Gf c.year (by omega) a2 45 (by decide)]
 dsimp only
 rw [uc c.month (by omega) (by omega) 45 (by decide)]
 dsimp only
 rw [uc c.day (by omega) (by omega) 84 (by decide)]
 dsimp only
 rw [uc c.hour (by omega) (by omega) 58 (by decide)]
 dsimp only
 rw [uc c.minute (by omega) (by omega) 58 (by decide)]
 dsimp only
 rw [uc c.second (by omega) (by omega) 90 (by decide)]
 unfold II
 rw [if_pos hc]
theorem Ci {l : List UInt8} (h : l.all oC = true) (h0 : l ≠ []) (n : Int) (r : List UInt8) : ∃ b u, sg n l ++ r = b :: u ∧ (b = 45 ∨ oC b = true) := by
 unfold sg
 split
 ·exact ⟨45, l ++ r, rfl, .inl rfl⟩
 ·match l, h0 with
  | b :: l, _ =>
   simp only [List.all_cons, Bool.and_eq_true] at h
   exact ⟨b, l ++ r, rfl, .inr h.1⟩
theorem ma {n sc : Int} (h3 : 0 ≤ sc) : ∃ p q, CK n sc = sg n (p ++ 46 :: q) ∧ p.all oC = true ∧ q.all oC = true ∧ p ≠ [] ∧ num 0 (p ++ q) = n.natAbs ∧ (p ++ q).length = (kN (sc.toNat + 1) n.natAbs).length ∧ q.length = sc.toNat ∧ p ++ q = kN (sc.toNat + 1) n.natAbs := by
 obtain ⟨h1, h2, _⟩ := nZ (sc.toNat + 1) n.natAbs
 have hg := tB (sc.toNat + 1) n.natAbs
 generalize hp : kN (sc.toNat + 1) n.natAbs = w at *
 have ha := List.take_append_drop (w.length - sc.toNat) w
 rw [← ha] at h1
 obtain ⟨i1, i2⟩ := IS h1
 refine ⟨w.take (w.length - sc.toNat), w.drop (w.length - sc.toNat), ?_, i1, i2, ?_, by rw [ha, h2], by rw [ha], by simp; omega, ha⟩
 ·unfold CK; rw [hp]
 ·intro h
  have := congrArg List.length h
  rw [List.length_take, List.length_nil] at this
  omega
theorem vq {d : Nat} {v : ac} (h : pF (d + 1) v) (r : List UInt8) : ∃ b u, T v ++ r = b :: u ∧ b ≠ 93 ∧ b ≠ 41 ∧ b ≠ 44 ∧ (v.kind ≠ 0 → b ≠ 110) := by
 obtain ⟨hp, _⟩ := h.succ
 have hl := ja hp
 have hdig : ∀ b : UInt8, b = 45 ∨ oC b = true → b ≠ 93 ∧ b ≠ 41 ∧ b ≠ 44 ∧ (v.kind ≠ 0 → b ≠ 110) := by
  rintro b (rfl | h)
  ·exact ⟨by decide, by decide, by decide, fun _ => by decide⟩
  ·refine ⟨?_, ?_, ?_, fun _ => ?_⟩ <;> rintro rfl <;> cases h
 rw [kZ]
 split
 ·exact ⟨110, _, rfl, by decide, by decide, by decide, fun h => absurd ‹_› h⟩
 ·split
  ·split
   ·exact ⟨116, _, rfl, by decide, by decide, by decide, fun _ => by decide⟩
   ·exact ⟨102, _, rfl, by decide, by decide, by decide, fun _ => by decide⟩
  ·split
   ·obtain ⟨a, b, c⟩ := ij v.n.natAbs
    obtain ⟨b, u, e, hb⟩ := Ci a c v.n r
    exact ⟨b, u, e, hdig b hb⟩
   ·split
    ·obtain ⟨p, q, e1, e2, e3, e4, _⟩ := ma (n := v.n) (hl.sc ‹_›).1
     obtain ⟨b, u, e, hb⟩ := Ci e2 e4 v.n (46 :: q ++ r)
     refine ⟨b, u, ?_, hdig b hb⟩
     rw [e1, ← e, ← xE]; simp
    ·split
     ·exact ⟨39, _, rfl, by decide, by decide, by decide, fun _ => by decide⟩
     ·split
      ·obtain ⟨a, _, c⟩ := nZ 4 (Tm.civ v.n).year.natAbs
       unfold vj
       match hm : kN 4 (Tm.civ v.n).year.natAbs, c with
       | b :: l, _ =>
        rw [hm] at a
        simp only [List.all_cons, Bool.and_eq_true] at a
        exact ⟨b, _, rfl, hdig b (.inr a.1)⟩
      ·split
       ·exact ⟨91, _, rfl, by decide, by decide, by decide, fun _ => by decide⟩
       ·exact ⟨40, _, rfl, by decide, by decide, by decide, fun _ => by decide⟩
end Go.Proofs.YtpmoopnkoknbeaaGreatDoor
namespace Go.Proofs.YtpmoopnkoknbeaaGreatDoor
open Go Go.PX Go.SX Go.SX.Cal
theorem kA {d : Nat} {t : af} {v : ac} (h : qK (d + 1) t v = true) (h0 : v.kind ≠ 0) : v.kind = t.kind ∧ (v.kind = 3 → v.scale = t.scale) ∧ (v.kind = 7 → t.fields.length = v.items.length) := by
 simp only [qK] at h
 rw [if_neg h0] at h
 by_cases hk : v.kind = t.kind
 ·rw [if_neg (fun hh => hh hk)] at h
  refine ⟨hk, fun h3 => ?_, fun h7 => ?_⟩
  ·rw [if_pos h3] at h; exact beq_iff_eq.1 h
  ·rw [if_neg (by omega)] at h
   by_cases hl : v.kind = 7 ∧ t.fields.length ≠ v.items.length
   ·rw [if_pos hl] at h; cases h
   ·by_cases hx : t.fields.length = v.items.length
    ·exact hx
    ·exact absurd ⟨h7, hx⟩ hl
 ·rw [if_pos hk] at h; cases h
theorem lX {v : ac} {k n sc : Int} {s : ByteArray} {l : List ac} (h1 : v.kind = k) (h2 : v.n = n) (h3 : v.scale = sc) (h4 : v.s = s) (h5 : v.items = l) : ac.mk k n sc s l = v := by
 obtain ⟨a, b, c, d, e⟩ := v
 simp only at h1 h2 h3 h4 h5
 subst h1 h2 h3 h4 h5
 rfl
theorem iR {s : ByteArray} (h : s.size = 0) : s = ByteArray.empty := by
 apply PX.ba_ext
 have : s.data.toList.length = 0 := by simpa using h
 rw [List.length_eq_zero_iff.1 this]
 rfl
def W (v : ac) (i : Nat) (e : UInt8) (r : List UInt8) : List UInt8 := (if i = 0 then TJ v.items else TR (v.items.drop i)) ++ e :: r
theorem Id (v : ac) (e : UInt8) (r : List UInt8) : W v v.items.length e r = e :: r := by
 unfold W
 by_cases h : v.items.length = 0
 ·rw [if_pos h, List.length_eq_zero_iff.1 h]; rfl
 ·rw [if_neg h, List.drop_length]; rfl
theorem rl {v : ac} {i : Nat} (h : i < v.items.length) (e : UInt8) (r : List UInt8) : W v i e r = (if i = 0 then [] else [44, 32]) ++ (T (iv v i) ++ W v (i + 1) e r) := by
 unfold W
 rw [if_neg (show ¬ i + 1 = 0 by omega)]
 have hd : v.items.drop i = iv v i :: v.items.drop (i + 1) := by rw [← lI h]; exact List.drop_eq_getElem_cons h
 by_cases h0 : i = 0
 ·subst h0
  rw [List.drop_zero] at hd
  rw [if_pos rfl, if_pos rfl, hd, TJ]
  simp
 ·rw [if_neg h0, if_neg h0, hd, TR]
  simp
theorem LZ {v : ac} {i : Nat} (h0 : i ≠ 0) {e : UInt8} (he : e = 93 ∨ e = 41) (r : List UInt8) : tM (W v i e r) := by
 unfold W
 rw [if_neg h0]
 cases v.items.drop i with
 | nil => exact yf (.inr he)
 | cons x l => exact yf (.inl rfl)
theorem Gk {a b : UInt8} {u : List UInt8} (h : a ≠ b) : pre [a] (b :: u) = false := by simp [pre, h]
theorem G0 {t : af} {v : ac} {d : Nat} (hV : V t) (hk : v.kind = t.kind) (hkk : t.kind = 6 ∨ t.kind = 7) (hlen : v.items.length ≤ 64) (h7 : v.kind = 7 → t.fields.length = v.items.length) (hfit : H6 t v)
  (hi : ∀ x ∈ v.items, pF (d + 1) x) (q : af → aO → Option (ac × aO)) (e : UInt8) (he : e = 93 ∨ e = 41) (r : List UInt8) (N : Nat)
  (hq : ∀ i, i < v.items.length → ∀ r, tM r → (T (iv v i) ++ r).length ≤ N → q (ft t i) ⟨bs (T (iv v i) ++ r), false⟩ = some (iv v i, ⟨bs r, false⟩)) :
  ∀ (m f i : Nat), i + m = v.items.length → m < f → (W v i e r).length ≤ N → aJ q t (bs [e]) f (v.items.take i) (bs (W v i e r)) false = some (v.items, ⟨bs r, false⟩) := by
 intro m
 induction m with
 | zero =>
  intro f i hii hf _
  obtain ⟨f, rfl⟩ : ∃ g, f = g + 1 := ⟨f - 1, by omega⟩
  obtain rfl : i = v.items.length := by omega
  rw [aJ, ar, if_pos (by simp), mN, ae, Id, List.take_length]
  unfold ca cA
  rw [show pre [e] (e :: r) = true from iG [e] r, show off [e] (e :: r) = r from jZ [e] r]
  rfl
 | succ m ih =>
  intro f i hii hf hN
  obtain ⟨f, rfl⟩ : ∃ g, f = g + 1 := ⟨f - 1, by omega⟩
  have hlt : i < v.items.length := by omega
  have hx := hi _ (lP hlt)
  have hpre : pre [e] (W v i e r) = false := by
   rw [rl hlt]
   by_cases h0 : i = 0
   ·rw [if_pos h0, List.nil_append]
    obtain ⟨b, u, e1, e2, e3, e4, _⟩ := vq hx (W v (i + 1) e r)
    rw [e1]
    refine Gk ?_
    rcases he with rfl | rfl
    ·exact fun h => e2 h.symm
    ·exact fun h => e3 h.symm
   ·rw [if_neg h0]
    exact Gk (by rcases he with rfl | rfl <;> decide)
  have hoff : off [e] (W v i e r) = W v i e r := by unfold off; rw [hpre]; rfl
  have hlt7 : (v.items.take i).length = i := by rw [List.length_take]; omega
  have hlW := congrArg List.length (rl hlt e r)
  rw [List.length_append] at hlW
  -- behind the comma
  have main : cB (aJ q t (bs [e]) f) q t (v.items.take i) (bs (T (iv v i) ++ W v (i + 1) e r)) false = some (v.items, ⟨bs r, false⟩) := by
   have j3 : bw (aJ q t (bs [e]) f) q t (v.items.take i) (bs (T (iv v i) ++ W v (i + 1) e r)) false false = some (v.items, ⟨bs r, false⟩) := by
    unfold bw
    rw [ar, if_neg (by simp), hlt7]
    obtain ⟨fd, f1, f2, f3, _⟩ := qF (hfit i hlt)
    have hfd : cS t ((i : Nat) : Int) = some fd := by
     unfold cS eG
     rw [ar]
     by_cases h6 : t.kind = 6
     ·rw [if_pos h6] at f2
      rw [if_pos (by simpa using h6), show at? t.fields (0 : Int) = some fd from fM (i := 0) f2]; rfl
     ·rw [if_neg h6] at f2
      rw [if_neg (by simpa using h6), fM f2]; rfl
    rw [hfd, ae, f3, hq i hlt _ (LZ (by omega) he r) (by omega), ae, bT (by omega)]
    dsimp only
    rw [← lI hlt, ← List.take_succ_eq_append_getElem hlt]
    exact ih f (i + 1) (by omega) (by omega) (by rw [List.length_append] at hlW; omega)
   unfold cB
   simp only [ar, hlt7]
   have h64 : decide ((64 : Int) < ((i : Nat) : Int)) = false := by simp; omega
   rw [h64]
   by_cases hk7 : t.kind = 7
   ·have := h7 (by omega)
    rw [if_pos (by simpa using hk7), if_neg (by simp; omega)]
    exact j3
   ·rw [if_neg (by simpa using hk7)]
    exact j3
  rw [aJ, ar, if_pos (by simp), mN, ae, hpre, hoff]
  unfold ca
  dsimp only
  rw [ar, if_pos (by simp), ar, hlt7]
  by_cases h0 : i = 0
  ·rw [if_neg (by simp [h0])]
   rw [show W v i e r = T (iv v i) ++ W v (i + 1) e r by rw [rl hlt, if_pos h0, List.nil_append]]
   exact main
  ·rw [if_pos (by simp; omega)]
   show az (aZ (bs [44, 32]) _) _ = _
   rw [gb, ae, rl hlt, if_neg h0, iG, jZ]
   exact main
theorem HO : ∀ (d : Nat) (t : af) (v : ac), pF d v → V t → qK d t v = true → ∀ (k : Nat), 2 * d ≤ k → ∀ r, tM r → (T v ++ r).length ≤ 1000000000 →
  aS k t ⟨bs (T v ++ r), false⟩ = some (v, ⟨bs r, false⟩) := by
 intro d
 induction d with
 | zero => intro t v h; exact h.zero.elim
 | succ d ih =>
  intro t v h hV ho k hk r hr hN
  obtain ⟨k, rfl⟩ : ∃ g, k = g + 2 := ⟨k - 2, by omega⟩
  obtain ⟨hp, hi⟩ := h.succ
  have hl := ja hp
  rw [aS, show (ByteArray.mk #[110, 117, 108, 108]) = bs [110, 117, 108, 108] from rfl, mN, ae]
  dsimp only
  simp only [ar]
  by_cases h0 : v.kind = 0
  ·have hT : T v = [110, 117, 108, 108] := by rw [kZ, if_pos h0]
   rw [hT, iG, jZ, if_pos rfl]
   rw [lX h0 (hl.nn (.inl h0)) (bL hp (by omega)) (iR (hl.zero (by omega))) (bn hp (by omega) (by omega))]
  obtain ⟨o1, o2, o3⟩ := kA ho h0
  have hpre : pre [110, 117, 108, 108] (T v ++ r) = false := by
   obtain ⟨b, u, e1, _, _, _, e2⟩ := vq h r
   rw [e1]
   exact mT _ _ (fun hh => e2 h0 hh.symm)
  have hoff : off [110, 117, 108, 108] (T v ++ r) = T v ++ r := by unfold off; rw [hpre]; rfl
  have hsc : v.scale = t.scale := by
   by_cases h3 : v.kind = 3
   ·exact o2 h3
   ·rw [bL hp h3, hV.scale (by omega)]
  rw [hpre, hoff, if_neg (by simp)]
  unfold bm
  simp only [beq_iff_eq, ← o1]
  by_cases h1 : v.kind = 1
  ·have hz := iR (hl.zero (by omega))
   have hit := bn hp (by omega) (by omega)
   rw [if_pos h1, show (ByteArray.mk #[116, 114, 117, 101]) = bs [116, 114, 117, 101] from rfl, mN, ae]
   dsimp only
   rcases hl.bool h1 with hn | hn
   ·have hT : T v = [102, 97, 108, 115, 101] := by rw [kZ, if_neg h0, if_pos h1, if_neg (by omega)]
    rw [hT, show pre [116, 114, 117, 101] ([102, 97, 108, 115, 101] ++ r) = false from mT _ _ (by decide), if_neg (by simp)]
    rw [show off [116, 114, 117, 101] ([102, 97, 108, 115, 101] ++ r) = [102, 97, 108, 115, 101] ++ r by unfold off; rw [show pre [116, 114, 117, 101] ([102, 97, 108, 115, 101] ++ r) = false from mT _ _ (by decide)]; rfl]
    rw [show (ByteArray.mk #[102, 97, 108, 115, 101]) = bs [102, 97, 108, 115, 101] from rfl, gb, ae, iG, jZ]
    rw [lX rfl hn hsc hz hit]; rfl
   ·have hT : T v = [116, 114, 117, 101] := by rw [kZ, if_neg h0, if_pos h1, if_pos hn]
    rw [hT, iG, jZ, if_pos rfl]
    rw [lX rfl hn hsc hz hit]
  rw [if_neg h1]
  by_cases h2 : v.kind = 2
  ·have hz := iR (hl.zero (by omega))
   have hit := bn hp (by omega) (by omega)
   have hnn := hl.num (.inl h2)
   have hT : T v = sg v.n (Lib.decDigits v.n.natAbs) := by rw [kZ, if_neg h0, if_neg h1, if_pos h2]
   obtain ⟨a, b, c⟩ := ij v.n.natAbs
   obtain ⟨t1, t2⟩ := tw (zH v.n a) (zN hr)
   rw [if_pos h2, vP _ _ hN, ae]
   dsimp only
   rw [hT] at hN ⊢
   rw [show jb vn (sg v.n (Lib.decDigits v.n.natAbs) ++ r) = _ from t1, show ow vn (sg v.n (Lib.decDigits v.n.natAbs) ++ r) = _ from t2]
   rw [List.length_append] at hN
   rw [ji _ _ _ (by omega), ae, tS a c b (by omega)]
   rw [lX rfl rfl hsc hz hit]; rfl
  rw [if_neg h2]
  by_cases h3 : v.kind = 3
  ·have hz := iR (hl.zero (by omega))
   have hit := bn hp (by omega) (by omega)
   have hnn := hl.num (.inr h3)
   have hT : T v = CK v.n v.scale := by rw [kZ, if_neg h0, if_neg h1, if_neg h2, if_pos h3]
   obtain ⟨p, q, e1, e2, e3, e4, e5, e6, _⟩ := ma (n := v.n) (hl.sc h3).1
   have hpl := jz (n := v.n) (by omega) (v.scale.toNat + 1) (by have := hl.sc h3; omega)
   have e6l := e6
   rw [List.length_append] at e6l
   have hTr : T v ++ r = sg v.n p ++ 46 :: (q ++ r) := by rw [hT, e1, ← xE]; simp
   obtain ⟨t1, t2⟩ := tw (r := 46 :: (q ++ r)) (zH v.n e2) (fun b hb => by simp at hb; subst hb; decide)
   obtain ⟨u1, u2⟩ := tw (l := q) (r := r) (tQ e3) (zN hr)
   have hlen : (q ++ r).length ≤ 1000000000 := by rw [hTr] at hN; simp at hN ⊢; omega
   rw [if_pos h3, vP _ _ hN, ae, hTr]
   dsimp only
   rw [show jb vn (sg v.n p ++ 46 :: (q ++ r)) = _ from t1, show ow vn (sg v.n p ++ 46 :: (q ++ r)) = _ from t2]
   rw [show (ByteArray.mk #[46]) = bs [46] from rfl, gb, ae]
   dsimp only
   rw [show off [46] (46 :: (q ++ r)) = q ++ r from jZ [46] _, show pre [46] (46 :: (q ++ r)) = true from iG [46] _]
   rw [vP _ _ hlen, ae]
   dsimp only
   rw [show jb vn (q ++ r) = q from u1, show ow vn (q ++ r) = r from u2]
   have hsl := xK v.n p
   rw [aE, aE, bT (by omega), gS, ji _ _ _ (by rw [List.length_append]; omega), ae, xE, tS (by rw [List.all_append, e2, e3]; rfl) (by simp [e4]) e5 (by omega)]
   rw [lX rfl rfl hsc hz hit]; rfl
  rw [if_neg h3]
  by_cases h4 : v.kind = 4
  ·have hit := bn hp (by omega) (by omega)
   have hT : T v = 39 :: (rA v.s.data.toList ++ [39]) := by rw [kZ, if_neg h0, if_neg h1, if_neg h2, if_neg h3, if_pos h4]
   rw [if_pos h4, show (ByteArray.mk #[39]) = bs [39] from rfl, gb, ae]
   dsimp only
   have hTr : T v ++ r = [39] ++ (rA v.s.data.toList ++ 39 :: r) := by rw [hT]; simp
   rw [hTr] at hN ⊢
   rw [List.length_append] at hN
   rw [iG, jZ, za _ _ (by omega), ae, zK _ _ _ _ (fun hh => by rcases hr 39 hh with h | h | h <;> cases h)]
   dsimp only
   rw [List.nil_append, vF]
   rw [lX rfl (hl.nn (.inr (.inl h4))) hsc rfl hit]; rfl
  rw [if_neg h4]
  by_cases h5 : v.kind = 5
  ·have hz := iR (hl.zero (by omega))
   have hit := bn hp (by omega) (by omega)
   have hm := hl.mom h5
   obtain ⟨c1, c2⟩ := tP hm.1 hm.2
   have hT : T v = vj (Tm.civ v.n) := by rw [kZ, if_neg h0, if_neg h1, if_neg h2, if_neg h3, if_neg h4, if_pos h5]
   rw [hT] at hN ⊢
   rw [if_pos h5, F0 c1 r hN, ae, c2]
   dsimp only
   rw [lX rfl rfl hsc hz hit]
  rw [if_neg h5]
  obtain ⟨hfit, hof⟩ := xL h hV ho
  have hz := iR (hl.zero (by omega))
  have hn := hl.nn (by have := hl.kin; omega)
  have hlen : v.items.length ≤ 64 := by
   by_cases h6 : v.kind = 6
   ·exact hl.lst h6
   ·have := o3 (by have := hl.kin; omega)
    have := hV.wid; omega
  have loop : ∀ (o e : UInt8), (e = 93 ∨ e = 41) → T v = o :: (TJ v.items ++ [e]) → cU (k + 1) t (bs [e]) ⟨bs (off [o] (T v ++ r)), false || !pre [o] (T v ++ r)⟩ = some (v.items, ⟨bs r, false⟩) := by
   intro o e he hT
   have hTr : T v ++ r = [o] ++ W v 0 e r := by rw [hT]; unfold W; simp
   rw [hTr] at hN ⊢
   rw [List.length_append] at hN
   rw [iG, jZ, cU]
   dsimp only
   cases d with
   | zero =>
    have hnil : v.items = [] := by
     cases hv : v.items with
     | nil => rfl
     | cons x l => exact (hi x (by rw [hv]; exact List.mem_cons_self ..)).zero.elim
    have hW : W v 0 e r = e :: r := by have := Id v e r; rw [hnil] at this; exact this
    rw [hW, aA, aJ, ar, if_pos (by simp)]
    show az (cR (bs [e]) ⟨bs (e :: r), false⟩) _ = _
    rw [mN, ae]
    unfold ca cA
    rw [show pre [e] (e :: r) = true from iG [e] r, show off [e] (e :: r) = r from jZ [e] r, hnil]
    rfl
   | succ d =>
    have := G0 hV o1 (by have := hl.kin; omega) hlen o3 hfit hi (aS k) e he r 1000000000 (fun i hlt r' hr' hn' => ih (ft t i) (iv v i) (hi _ (lP hlt)) (by
      obtain ⟨fd, f1, _, f3, _⟩ := qF (hfit i hlt)
      rw [← f3]; exact hV.fs fd f1) (hof i hlt) k (by omega) r' hr' hn') v.items.length aW 0 (by omega) (by rw [aA]; omega) (by omega)
    rw [List.take_zero] at this
    exact this
  by_cases h6 : v.kind = 6
  ·rw [if_pos h6, show (ByteArray.mk #[91]) = bs [91] from rfl, gb, ae, show (ByteArray.mk #[93]) = bs [93] from rfl]
   dsimp only
   rw [loop 91 93 (.inl rfl) (by rw [kZ, if_neg h0, if_neg h1, if_neg h2, if_neg h3, if_neg h4, if_neg h5, if_pos h6]), ae]
   dsimp only
   rw [lX rfl hn hsc hz rfl]
  ·have h7 : v.kind = 7 := by have := hl.kin; omega
   rw [if_neg h6, if_pos h7, show (ByteArray.mk #[40]) = bs [40] from rfl, gb, ae, show (ByteArray.mk #[41]) = bs [41] from rfl]
   dsimp only
   rw [loop 40 41 (.inr rfl) (by rw [kZ, if_neg h0, if_neg h1, if_neg h2, if_neg h3, if_neg h4, if_neg h5, if_neg h6]), ae]
   dsimp only
   rw [lX rfl hn hsc hz rfl]
end Go.Proofs.YtpmoopnkoknbeaaGreatDoor
namespace Go.Proofs.YtpmoopnkoknbeaaGreatDoor
open Go Go.PX Go.SX Go.SX.Cal
theorem vX (l : List UInt8) (i : Nat) (h : i < l.length) : (bs l).data.toList.getD (i : Int).toNat 0 = l[i] := by
 rw [show (i : Int).toNat = i by omega]; exact zL l i h
theorem xc (a b : UInt8) : (((a.toNat : Nat) : Int) == ((b.toNat : Nat) : Int)) = (a == b) := by
 rw [Bool.eq_iff_iff]
 simp only [beq_iff_eq, ← UInt8.toNat_inj]
 omega
theorem IP (s p : List UInt8) (rec1 : Int → Option ByteArray) (i : Nat) (hi : i < s.length) (hp : p.length ≤ 1000) : ∀ (m f j : Nat) (b : Bool), j + m = p.length → m < f →
  fj rec1 (bs s) (bs p) (i : Int) f b (j : Int) = nz rec1 (bs s) (i : Int) (b || (p.drop j).contains s[i]) := by
 intro m
 induction m with
 | zero =>
  intro f j b hj hf
  obtain ⟨f, rfl⟩ : ∃ g, f = g + 1 := ⟨f - 1, by omega⟩
  rw [fj, aE, ar, if_neg (by simp; omega), List.drop_of_length_le (by omega)]
  simp
 | succ m ih =>
  intro f j b hj hf
  obtain ⟨f, rfl⟩ : ∃ g, f = g + 1 := ⟨f - 1, by omega⟩
  have hlt : j < p.length := by omega
  have hd : p.drop j = p[j] :: p.drop (j + 1) := List.drop_eq_getElem_cons hlt
  rw [fj, aE, ar, if_pos (by simp; omega), ar]
  unfold nJ
  rw [fL (by omega) (by omega)]
  cases b with
  | true =>
   rw [if_pos rfl]
   have := ih f (j + 1) true (by omega) (by omega)
   rw [Bool.true_or] at this ⊢
   exact this
  | false =>
   rw [if_neg (by simp), bT (by omega), aE, bT (by omega), ae, vX p j hlt, vX s i hi, xc]
   have := ih f (j + 1) (p[j] == s[i]) (by omega) (by omega)
   rw [Bool.false_or, hd, List.contains_cons, show (s[i] == p[j]) = (p[j] == s[i]) by rw [Bool.eq_iff_iff, beq_iff_eq, beq_iff_eq]; exact eq_comm]
   exact this
theorem tV {p : List UInt8} {b : UInt8} {l : List UInt8} (h : p.contains b = true) : jb p (b :: l) = b :: jb p l := List.takeWhile_cons_of_pos h
theorem uB {p : List UInt8} {b : UInt8} {l : List UInt8} (h : p.contains b = false) : jb p (b :: l) = [] := List.takeWhile_cons_of_neg (by rw [h]; decide)
theorem Ij (s p : List UInt8) (hp : p.length ≤ 1000) (hs : s.length ≤ 1000000000) : ∀ (m f i : Nat), i + m = s.length → m < f →
  dQ (bs s) (bs p) f (i : Int) = some (bs (s.take i ++ jb p (s.drop i))) := by
 have hend : ∀ i : Nat, i ≤ s.length → lx (bs s) (i : Int) = some (bs (s.take i)) := by
  intro i hi
  unfold lx
  rw [aE, bT (by omega), lh, show (i : Int).toNat = i by omega]
  simp
 intro m
 induction m with
 | zero =>
  intro f i hi hf
  obtain ⟨f, rfl⟩ : ∃ g, f = g + 1 := ⟨f - 1, by omega⟩
  rw [dQ, aE, ar, if_neg (by simp; omega), hend i (by omega), List.drop_of_length_le (by omega)]
  simp [jb]
 | succ m ih =>
  intro f i hi hf
  obtain ⟨f, rfl⟩ : ∃ g, f = g + 1 := ⟨f - 1, by omega⟩
  have hlt : i < s.length := by omega
  have hd : s.drop i = s[i] :: s.drop (i + 1) := List.drop_eq_getElem_cons hlt
  have h2 := IP s p (dQ (bs s) (bs p) f) i hlt hp p.length aW 0 false (by omega) (by rw [aA]; omega)
  rw [dQ, aE, ar, if_pos (by simp; omega)]
  refine Eq.trans h2 ?_
  rw [Bool.false_or, List.drop_zero]
  unfold nz
  rw [ar]
  cases hc : p.contains s[i] with
  | false =>
   rw [if_pos (by simp), hend i (by omega), hd, uB hc]
   simp
  | true =>
   rw [if_neg (by simp), fL (by omega) (by omega)]
   refine Eq.trans (ih f (i + 1) (by omega) (by omega)) ?_
   rw [hd, tV hc, mq hlt, List.append_assoc]
   rfl
theorem uf (s p : List UInt8) (hp : p.length ≤ 1000) (hs : s.length ≤ 1000000000) : kX (bs s) (bs p) = some (bs (jb p s)) := by
 have := Ij s p hp hs s.length aW 0 (by omega) (by rw [aA]; omega)
 rw [List.take_zero, List.drop_zero, List.nil_append] at this
 unfold kX
 exact this
def am (l : List UInt8) : Int × Bool := if l.length ≠ 0 ∧ l.length ≤ 18 ∧ l.all oC = true then ((num 0 l : Nat), true) else (0, false)
theorem Cr {l : List UInt8} : (jb lW l).length = l.length ↔ l.all oC = true := by
 induction l with
 | nil => simp [jb]
 | cons b l ih =>
  cases hc : lW.contains b with
  | false =>
   rw [uB hc]
   rw [wa] at hc
   simp [hc]
  | true =>
   rw [tV hc]
   rw [wa] at hc
   simp [hc, ih]
theorem q7 {l : List UInt8} (h : l.all oC = true) (hl : l.length ≤ 18) (i : Nat) : num 0 (l.take i) < 1000000000000000000 := by
 have h1 : (l.take i).all oC = true := List.all_eq_true.2 (fun x hx => List.all_eq_true.1 h x (List.mem_of_mem_take hx))
 have h2 := HC (l.take i) 0 0 h1 (by decide)
 have h3 : (l.take i).length ≤ 18 := by simp; omega
 have h4 : 10 ^ (0 + (l.take i).length) ≤ 10 ^ 18 := Nat.pow_le_pow_right (by decide) (by omega)
 have h5 : (10 : Nat) ^ 18 = 1000000000000000000 := by decide
 omega
theorem NX {x : Int} (h1 : 0 ≤ x) (h2 : x ≤ 255) : IntKind.u8.wrap x = x := by
 simp only [IntKind.wrap]
 first
  | (simp; omega)
  | (unfold IntKind.bits IntKind.signed; simp; omega)
theorem BH (l : List UInt8) (hd : l.all oC = true) (hl : l.length ≤ 18) : ∀ (m f i : Nat), i + m = l.length → m < f →
  fu (bs l) f ((num 0 (l.take i) : Nat) : Int) (i : Int) = some (((num 0 l : Nat) : Int), true) := by
 intro m
 induction m with
 | zero =>
  intro f i hi hf
  obtain ⟨f, rfl⟩ : ∃ g, f = g + 1 := ⟨f - 1, by omega⟩
  rw [fu, aE, ar, if_neg (by simp; omega), List.take_of_length_le (by omega)]
  rfl
 | succ m ih =>
  intro f i hi hf
  obtain ⟨f, rfl⟩ : ∃ g, f = g + 1 := ⟨f - 1, by omega⟩
  have hlt : i < l.length := by omega
  have hb := (se _).1 (List.all_eq_true.1 hd _ (List.getElem_mem hlt))
  have n1 := q7 hd hl i
  have n2 := q7 hd hl (i + 1)
  have e : num 0 (l.take (i + 1)) = num 0 (l.take i) * 10 + (l[i].toNat - 48) := by
   rw [mq hlt, s7, mW, zQ]
  rw [fu, aE, ar, if_pos (by simp; omega), bT (by omega), ae, ae, vX l i hlt]
  rw [NX (by omega) (by omega), fL (x := (10 : Int) * _) (by omega) (by omega), fL (x := ((l[i].toNat : Nat) : Int) - 48) (by omega) (by omega), fL (by omega) (by omega), fL (by omega) (by omega)]
  rw [show (10 : Int) * ((num 0 (l.take i) : Nat) : Int) + (((l[i].toNat : Nat) : Int) - 48) = ((num 0 (l.take (i + 1)) : Nat) : Int) by rw [e]; omega]
  exact ih f (i + 1) (by omega) (by omega)
theorem jU (l : List UInt8) (hs : l.length ≤ 1000000000) : fx (bs l) = some (am l) := by
 unfold fx jK am
 simp only [ar, aE]
 by_cases h0 : l.length = 0
 ·rw [if_pos (by simp [h0]), if_pos trivial, if_neg (by omega)]
 rw [if_neg (by simp; intro h; rw [h] at h0; exact h0 rfl)]
 by_cases h18 : 18 < l.length
 ·rw [if_pos (by simp; omega), if_pos trivial, if_neg (by omega)]
 rw [if_neg (by simp; omega), show (ByteArray.mk #[48, 49, 50, 51, 52, 53, 54, 55, 56, 57]) = bs lW from rfl, uf _ _ (by decide) hs, ae, aE]
 by_cases hd : l.all oC = true
 ·have := Cr.2 hd
  rw [this, if_neg (by simp), if_pos ⟨h0, by omega, hd⟩]
  have := BH l hd (by omega) l.length aW 0 (by omega) (by rw [aA]; omega)
  rw [List.take_zero] at this
  exact this
 ·have : (jb lW l).length ≠ l.length := fun h => hd (Cr.1 h)
  rw [if_pos (by simp; omega), if_neg (fun h => hd h.2.2)]
def J7 : List UInt8 → Int × Bool
 | [] => am []
 | b :: r => if b = 45 then (-(am r).1, (am r).2) else am (b :: r)
theorem GJ (l : List UInt8) : 0 ≤ (am l).1 ∧ (am l).1 < 1000000000000000000 := by
 unfold am
 split
 ·rename_i h
  have := q7 h.2.2 h.2.1 l.length
  rw [List.take_length] at this
  constructor
  ·show (0 : Int) ≤ ((num 0 l : Nat) : Int); omega
  ·show ((num 0 l : Nat) : Int) < _; omega
 ·exact ⟨Int.le_refl _, by decide⟩
theorem zD (l : List UInt8) (hs : l.length ≤ 1000000000) : mU (bs l) = some (J7 l) := by
 unfold mU lz
 simp only [ar, aE]
 cases l with
 | nil =>
  rw [if_neg (by simp), if_neg (by simp), jU [] (by simp), ae]; rfl
 | cons b r =>
  rw [if_pos (by simp), bT (by simp), show (0 : Int).toNat = ((0 : Nat) : Int).toNat from rfl, vX (b :: r) 0 (by simp)]
  show (if (((b.toNat : Nat) : Int) == ((((45 : UInt8).toNat : Nat)) : Int)) = true then _ else _) = _
  rw [xc]
  by_cases h : b = 45
  ·subst h
   rw [if_pos (by decide), bT (by rw [List.length_cons]; omega), lh]
   have e : ((45 :: r).take (((45 :: r).length : Nat) : Int).toNat).drop (1 : Int).toNat = r := by simp
   rw [e, jU r (by simp at hs; omega), ae]
   have := GJ r
   rw [fL (by omega) (by omega)]
   simp [J7]
  ·rw [if_neg (by simpa using h), jU _ hs, ae]
   simp [J7, h]
end Go.Proofs.YtpmoopnkoknbeaaGreatDoor
namespace Go.Proofs.YtpmoopnkoknbeaaGreatDoor
open Go Go.PX Go.SX Go.SX.Cal
def rq : List UInt8 → List UInt8 → Option (List UInt8 × List UInt8)
 | acc, [] => none
 | acc, [b] => if b = 39 then some (acc, []) else none
 | acc, b :: c :: r => if b = 39 then (if c = 39 then rq (acc ++ [39]) r else some (acc, c :: r)) else rq (acc ++ [b]) (c :: r)
theorem AD (acc : List UInt8) : rq acc [] = none := by simp [rq]
theorem yu {b : UInt8} (h : b ≠ 39) (acc r : List UInt8) : rq acc (b :: r) = rq (acc ++ [b]) r := by
 cases r with
 | nil => simp [rq, h]
 | cons c r => simp [rq, h]
theorem Dh (acc r : List UInt8) : rq acc (39 :: 39 :: r) = rq (acc ++ [39]) r := by simp [rq]
theorem A3 (acc r : List UInt8) (h : r.head? ≠ some 39) : rq acc (39 :: r) = some (acc, r) := by
 cases r with
 | nil => simp [rq]
 | cons c r => simp at h; simp [rq, h]
theorem DJ : ∀ (s acc rest : List UInt8), rest.head? ≠ some 39 → rq acc (rA s ++ 39 :: rest) = some (acc ++ s, rest)
 | [], acc, rest, h => by simp [rA, A3 _ _ h]
 | b :: s, acc, rest, h => by
  by_cases hb : b = 39
  ·subst hb
   simp only [rA, if_true, List.cons_append, Dh]
   rw [DJ s _ rest h]; simp
  ·simp only [rA, if_neg hb, List.cons_append]
   rw [yu hb, DJ s _ rest h]; simp
theorem DM : ∀ (n : Nat) (s acc : List UInt8), s.length ≤ n → ∀ a r, rq acc s = some (a, r) → a.length + r.length + 1 ≤ acc.length + s.length
 | 0, s, acc, h => by
  have : s = [] := List.length_eq_zero_iff.1 (by omega)
  subst this
  rw [AD]; intro a r h; cases h
 | n + 1, s, acc, h => by
  match s with
  | [] => rw [AD]; intro a r h; cases h
  | b :: r =>
   simp at h
   by_cases hb : b = 39
   ·subst hb
    by_cases hr : r.head? = some 39
    ·match r, hr with
     | c :: r, hr =>
      simp at hr; subst hr
      rw [Dh]
      intro a u h2
      have := DM n r (acc ++ [39]) (by simp at h; omega) a u h2
      simp at this ⊢
      omega
    ·rw [A3 _ _ hr]
     intro a u h2
     simp at h2
     obtain ⟨rfl, rfl⟩ := h2
     simp; omega
   ·rw [yu hb]
    intro a u h2
    have := DM n r (acc ++ [b]) h a u h2
    simp at this ⊢
    omega
abbrev kf : ac := ac.mk (0 : Int) (0 : Int) (0 : Int) ByteArray.empty []
def Mk (p1 : ByteArray) : Option (List UInt8 × List UInt8) → ac × ByteArray × Bool
 | none => (kf, p1, false)
 | some (a, r) => (ac.mk 4 0 0 (bs a) [], bs r, true)
theorem gE (l : List UInt8) (k : Nat) : (bs l).extract k ((l.length : Nat) : Int).toNat = bs (l.drop k) := by
 rw [lh, Int.toNat_natCast, List.take_length]
theorem Ab (L : List UInt8) (hL : L.length ≤ 1000000000) : ∀ (m f i : Nat) (acc : List UInt8), L.length ≤ i + m → i ≤ L.length → m < f → acc.length ≤ i →
  cq (bs L) f (bs acc) (i : Int) = some (Mk (bs L) (rq acc (L.drop i))) := by
 intro m
 induction m with
 | zero =>
  intro f i acc h1 h2 hf ha
  obtain ⟨f, rfl⟩ : ∃ g, f = g + 1 := ⟨f - 1, by omega⟩
  rw [cq, aE, ar, if_neg (by simp; omega), List.drop_of_length_le (by omega), AD]
  rfl
 | succ m ih =>
  intro f i acc h1 h2 hf ha
  obtain ⟨f, rfl⟩ : ∃ g, f = g + 1 := ⟨f - 1, by omega⟩
  rcases Nat.lt_or_ge i L.length with hlt | hge
  ·have hd : L.drop i = L[i] :: L.drop (i + 1) := List.drop_eq_getElem_cons hlt
   have hw : IntKind.i64.wrap ((i : Int) + 1) = ((i + 1 : Nat) : Int) := by rw [fL (by omega) (by omega)]; omega
   have hw3 : IntKind.i64.wrap (((i + 1 : Nat) : Int) + 1) = ((i + 2 : Nat) : Int) := by rw [fL (by omega) (by omega)]; omega
   have hne : ((((L[i]).toNat : Nat) : Int) != (39 : Int)) = !(L[i] == 39) := by
    rw [← xc]; rfl
   have hone : (bs L).extract (i : Int).toNat ((i + 1 : Nat) : Int).toNat = bs [L[i]] := by
    rw [lh, show (i : Int).toNat = i by omega, show ((i + 1 : Nat) : Int).toNat = i + 1 by omega, mq hlt, List.drop_left' (by simp; omega)]
   rw [cq]
   unfold lu lE
   simp only [aE, hw, hw3]
   rw [ar, if_pos (by simp; omega), bT (by omega), ar, vX L i hlt, hne, hd]
   by_cases hb : L[i] = 39
   ·rw [if_neg (by simp [hb]), ar, hb]
    by_cases hn : i + 1 < L.length
    ·have hd2 : L.drop (i + 1) = L[i + 1] :: L.drop (i + 2) := List.drop_eq_getElem_cons hn
     rw [if_pos (by simp; omega), bT (by omega), ae, vX L (i + 1) hn]
     rw [show ((((L[i + 1]).toNat : Nat) : Int) == (39 : Int)) = (L[i + 1] == 39) by rw [← xc]; rfl]
     by_cases hc : L[i + 1] = 39
     ·rw [ar, if_pos (by simp [hc]), hd2, hc, Dh]
      show bI (acc.length + 1 ≤ _) (cq (bs L) f (bs acc ++ bs [39]) _) = _
      rw [bT (by omega), gS]
      rw [hw3]
      exact ih f (i + 2) (acc ++ [39]) (by omega) (by omega) (by omega) (by simp; omega)
     ·rw [ar, if_neg (by simp [hc]), bT (by omega), ae, show ((i + 1 : Nat) : Int).toNat = i + 1 by omega, gE, A3 _ _ (by rw [hd2]; exact fun h => hc (Option.some.inj h))]
      rfl
    ·rw [if_neg (by simp; omega), ar, if_neg (by simp), bT (by omega), ae, show ((i + 1 : Nat) : Int).toNat = i + 1 by omega, gE, A3 _ _ (by rw [List.drop_of_length_le (by omega)]; simp)]
     rfl
   ·rw [if_pos (by simp [hb]), bT (by omega), hone, aE, bT (by simp; omega), ae, gS, yu hb]
    exact ih f (i + 1) (acc ++ [L[i]]) (by omega) (by omega) (by omega) (by simp; omega)
  ·rw [cq, aE, ar, if_neg (by simp; omega), List.drop_of_length_le (by omega), AD]
   rfl
def DE : List UInt8 → ac × ByteArray × Bool
 | [] => (kf, bs [], false)
 | b :: r => if b = 39 then Mk (bs (b :: r)) (rq [] r) else (kf, bs (b :: r), false)
theorem CL (L : List UInt8) (hL : L.length ≤ 1000000000) : oE (bs L) = some (DE L) := by
 unfold oE lN
 simp only [ar, aE]
 cases L with
 | nil => rfl
 | cons b r =>
  rw [if_neg (by simp; omega), bT (by simp), show (0 : Int).toNat = ((0 : Nat) : Int).toNat from rfl, vX (b :: r) 0 (by simp)]
  rw [show (((((b :: r)[0]).toNat : Nat) : Int) != (39 : Int)) = !(b == 39) by rw [← xc]; rfl]
  by_cases hb : b = 39
  ·rw [if_neg (by simp [hb]), show DE (b :: r) = Mk (bs (b :: r)) (rq [] r) from if_pos hb]
   have := Ab (b :: r) hL (b :: r).length aW 1 [] (by omega) (by simp) (by rw [aA]; omega) (by simp)
   rw [List.drop_succ_cons, List.drop_zero] at this
   exact this
  ·rw [if_pos (by simp [hb]), show DE (b :: r) = (kf, bs (b :: r), false) from if_neg hb]
theorem Ir (p1 : af) (p2 r4 : ByteArray) : ∀ (n f : Nat) (l : List UInt8), l.length ≤ n → l.length ≤ 1000000000 → n < f → ∃ l', cw p1 p2 r4 f (bs l) = kh p1 p2 r4 (bs l') ∧ l'.length ≤ l.length ∧ ((l.length ≤ 18 ∨ ∃ c r, l = 45 :: c :: r ∧ c ≠ 48) → l' = l) := by
 intro n
 induction n with
 | zero =>
  intro f l hl _ hf
  obtain ⟨f, rfl⟩ : ∃ g, f = g + 1 := ⟨f - 1, by omega⟩
  refine ⟨l, ?_, Nat.le_refl _, fun _ => rfl⟩
  rw [cw, aE, ar, if_neg (by simp; omega)]
  unfold dP
  rw [ar, if_neg (by simp)]
 | succ n ih =>
  intro f l hl hb hf
  obtain ⟨f, rfl⟩ : ∃ g, f = g + 1 := ⟨f - 1, by omega⟩
  rw [cw, aE, ar]
  by_cases h18 : 18 < l.length
  ·obtain ⟨b, c, r, rfl⟩ : ∃ b c r, l = b :: c :: r := by
    match l, h18 with
    | b :: c :: r, _ => exact ⟨b, c, r, rfl⟩
    | [_], h => simp at h
    | [], h => simp at h
   simp only [List.length_cons] at hl hb h18
   rw [if_pos (by simp; omega), bT (by simp; omega), ar, show (0 : Int).toNat = ((0 : Nat) : Int).toNat from rfl, vX _ 0 (by simp)]
   rw [show (((((b :: c :: r)[0]).toNat : Nat) : Int) == (48 : Int)) = (b == 48) by rw [← xc]; rfl]
   have hstop : dP (cw p1 p2 r4 f) p1 p2 r4 (bs (b :: c :: r)) false = kh p1 p2 r4 (bs (b :: c :: r)) := by
    unfold dP
    rw [ar, if_neg (by simp)]
   by_cases h48 : b = 48
   ·subst h48
    rw [if_pos (by decide)]
    unfold dP
    rw [ar, if_pos rfl, aE, bT (by simp; omega), ar, show (0 : Int).toNat = ((0 : Nat) : Int).toNat from rfl, vX _ 0 (by simp)]
    rw [if_neg (by show ¬ ((((48 : UInt8).toNat : Nat) : Int) == (45 : Int)) = true; decide), bT (by simp; omega), show (1 : Int).toNat = 1 from rfl, gE, List.drop_succ_cons, List.drop_zero]
    obtain ⟨l', g1, g2, g3⟩ := ih f (c :: r) (by simp; omega) (by simp; omega) (by omega)
    refine ⟨l', g1, by simp at g2 ⊢; omega, fun hh => ?_⟩
    rcases hh with hh | ⟨_, _, hh, _⟩
    ·simp at hh; omega
    ·simp at hh
   ·rw [if_neg (by simpa using h48), bT (by simp; omega), ar]
    rw [show (((((b :: c :: r)[0]).toNat : Nat) : Int) == (45 : Int)) = (b == 45) by rw [← xc]; rfl]
    by_cases h45 : b = 45
    ·subst h45
     rw [if_pos (by decide), bT (by simp; omega), show (1 : Int).toNat = ((1 : Nat) : Int).toNat from rfl, vX _ 1 (by simp)]
     rw [show (((((45 :: c :: r)[1]).toNat : Nat) : Int) == (48 : Int)) = (c == 48) by rw [← xc]; rfl]
     by_cases hc : c = 48
     ·subst hc
      rw [show ((48 : UInt8) == 48) = true by decide]
      unfold dP
      rw [ar, if_pos rfl, aE, bT (by simp; omega), ar, show (0 : Int).toNat = ((0 : Nat) : Int).toNat from rfl, vX _ 0 (by simp)]
      rw [if_pos (by show ((((45 : UInt8).toNat : Nat) : Int) == (45 : Int)) = true; decide), bT (by simp; omega), show (2 : Int).toNat = 2 from rfl, gE, List.drop_succ_cons, List.drop_succ_cons, List.drop_zero]
      show ∃ l', bI ((bs [45]).size + (bs r).size ≤ _) (az (some (bs [45] ++ bs r)) fun y3 => cw p1 p2 r4 f y3) = _ ∧ _
      rw [aE, aE, bT (by simp; omega), ae, gS]
      obtain ⟨l', g1, g2, g3⟩ := ih f ([45] ++ r) (by simp; omega) (by simp; omega) (by omega)
      refine ⟨l', g1, by simp at g2 ⊢; omega, fun hh => ?_⟩
      rcases hh with hh | ⟨_, _, hh, hne⟩
      ·simp at hh; omega
      ·simp at hh; exact absurd hh.1.symm hne
     ·rw [show (c == 48) = false by simpa using hc, hstop]
      exact ⟨_, rfl, Nat.le_refl _, fun _ => rfl⟩
    ·rw [if_neg (by simpa using h45), hstop]
     exact ⟨_, rfl, Nat.le_refl _, fun _ => rfl⟩
  ·refine ⟨l, ?_, Nat.le_refl _, fun _ => rfl⟩
   rw [if_neg (by simp; omega)]
   unfold dP
   rw [ar, if_neg (by simp)]
abbrev wH (l : List UInt8) : List UInt8 := l.filter (· != 46)
theorem F1 (p1 : af) (p2 : ByteArray) (w : List UInt8) (hw : w.length ≤ 1000000000) : ∀ (m f i : Nat), i + m = w.length → m < f →
  eo p1 p2 (bs w) f (bs (wH (w.take i))) (i : Int) = cw p1 p2 (bs w) aW (bs (wH w)) := by
 intro m
 induction m with
 | zero =>
  intro f i hi hf
  obtain ⟨f, rfl⟩ : ∃ g, f = g + 1 := ⟨f - 1, by omega⟩
  rw [eo, aE, ar, if_neg (by simp; omega), List.take_of_length_le (by omega)]
  rfl
 | succ m ih =>
  intro f i hi hf
  obtain ⟨f, rfl⟩ : ∃ g, f = g + 1 := ⟨f - 1, by omega⟩
  have hlt : i < w.length := by omega
  have hw1 : IntKind.i64.wrap ((i : Int) + 1) = ((i + 1 : Nat) : Int) := by rw [fL (by omega) (by omega)]; omega
  have hone : (bs w).extract (i : Int).toNat ((i + 1 : Nat) : Int).toNat = bs [w[i]] := by
   rw [lh, show (i : Int).toNat = i by omega, show ((i + 1 : Nat) : Int).toNat = i + 1 by omega, mq hlt, List.drop_left' (by simp; omega)]
  have hfl : (wH (w.take i)).length ≤ i := Nat.le_trans (List.length_filter_le _ _) (by simp; omega)
  rw [eo, aE, ar, if_pos (by simp; omega), bT (by omega), ar, vX w i hlt, hw1]
  rw [show ((((w[i]).toNat : Nat) : Int) != (46 : Int)) = (w[i] != 46) by show (!_) = (!_); rw [← xc]; rfl]
  unfold mB
  rw [hw1]
  have := ih f (i + 1) (by omega) (by omega)
  rw [mq hlt, show wH (w.take i ++ [w[i]]) = wH (w.take i) ++ wH [w[i]] from List.filter_append ..] at this
  by_cases hc : w[i] = 46
  ·rw [if_neg (by simp [hc])]
   rw [show wH [w[i]] = [] by simp [wH, hc], List.append_nil] at this
   exact this
  ·rw [if_pos (by simp [hc]), bT (by omega), hone, aE, aE, bT (by simp at hfl ⊢; omega), ae, gS]
   rw [show wH [w[i]] = [w[i]] by simp [wH, hc]] at this
   exact this
end Go.Proofs.YtpmoopnkoknbeaaGreatDoor
namespace Go.Proofs.YtpmoopnkoknbeaaGreatDoor
open Go Go.PX Go.SX Go.SX.Cal
abbrev Fz : List UInt8 := [110, 117, 108, 108]
structure Rr (s : List UInt8) (v : ac) (s' : List UInt8) (ok : Bool) : Prop where
 le : s'.length ≤ s.length
 sz : ok = true → aY v + s'.length ≤ s.length + 1
theorem Gu (s : List UInt8) {β : Type} (F : Bool → Option β) :
  (ax (decide ((4 : Int) ≤ ((bs s).size : Int)))
   (bI (0 ≤ (0 : Int) ∧ (0 : Int) ≤ (4 : Int) ∧ (4 : Int) ≤ ((bs s).size : Int)) <|
    az (some (((bs s).extract (0 : Int).toNat (4 : Int).toNat).toList == (ByteArray.mk #[110, 117, 108, 108]).toList)) fun y1 => F y1)
   (F false)) = F (pre Fz s) := by
 rw [aE, ar]
 by_cases h : 4 ≤ s.length
 ·rw [if_pos (by simp; omega), bT (by omega), ae, lh, show (ByteArray.mk #[110, 117, 108, 108]) = bs Fz from rfl, nr]
  congr 1
  rw [Bool.eq_iff_iff, i8]
  simp [h]
 ·rw [if_neg (by simp; omega)]
  congr 1
  rw [eq_comm, Bool.eq_false_iff]
  intro h2
  exact h ((i8 _ _).1 h2).1
theorem zy (t : af) (s : List UInt8) : md t (bs s) = bW t (bs s) (pre Fz s) := Gu s (fun y => bW t (bs s) y)
theorem xo (t : af) (s : List UInt8) (h : pre Fz s = true) : bW t (bs s) true = some (kf, bs (off Fz s), true) := by
 have := ((i8 _ _).1 h).1
 simp only [List.length_cons, List.length_nil] at this
 unfold bW
 rw [ar, if_pos rfl, aE, bT (by omega), show (4 : Int).toNat = 4 from rfl, gE]
 unfold off
 rw [if_pos h]
 rfl
theorem HA (p s : List UInt8) : s.drop (jb p s).length = ow p s := by
 have h := ny p s
 have h2 : (jb p s ++ ow p s).drop (jb p s).length = ow p s := List.drop_left' rfl
 rw [h] at h2
 exact h2
theorem Ak (p s : List UInt8) : (bs s).extract (((jb p s).length : Nat) : Int).toNat ((s.length : Nat) : Int).toNat = bs (ow p s) := by
 rw [Int.toNat_natCast, gE, HA]
abbrev DB : List UInt8 := [116, 114, 117, 101, 102, 97, 108, 115]
abbrev yC : List UInt8 := [45, 48, 49, 50, 51, 52, 53, 54, 55, 56, 57, 46]
abbrev yy : List UInt8 := [48, 49, 50, 51, 52, 53, 54, 55, 56, 57, 45, 84, 58, 90]
theorem Cm (s : List UInt8) (x : Int) (p : List UInt8) (hs : s.length ≤ 1000000000) : kx (bs s) (bs (jb p s)) x = some (ac.mk 1 x 0 ByteArray.empty [], bs (ow p s), true) := by
 have h := mz p s
 unfold kx
 rw [aE, aE, bT (by omega), Ak]
theorem wX {t : af} (h : t.kind = 1) (s : List UInt8) (hs : s.length ≤ 1000000000) : bW t (bs s) false = some (ac.mk 1 (if jb DB s = [116, 114, 117, 101] then 1 else 0) 0 ByteArray.empty [], bs (ow DB s), true) := by
 unfold bW
 simp only [ar, beq_iff_eq, h]
 rw [if_neg (by simp), if_pos trivial, show (ByteArray.mk #[116, 114, 117, 101, 102, 97, 108, 115]) = bs DB from rfl, uf _ _ (by decide) hs, ae, Cm s 1 DB hs, Cm s 0 DB hs]
 have e : (bs (jb DB s)).toList = (ByteArray.mk #[116, 114, 117, 101]).toList ↔ jb DB s = [116, 114, 117, 101] := by
  rw [show (ByteArray.mk #[116, 114, 117, 101]) = bs [116, 114, 117, 101] from rfl, rR, rR]
 by_cases hx : jb DB s = [116, 114, 117, 101]
 ·rw [if_pos (e.2 hx), if_pos hx]
 ·rw [if_neg (fun h => hx (e.1 h)), if_neg hx]
theorem zc {t : af} (h : t.kind = 2) (s : List UInt8) (hs : s.length ≤ 1000000000) : bW t (bs s) false = some (ac.mk 2 (J7 (jb vn s)).1 0 ByteArray.empty [], bs (ow vn s), (J7 (jb vn s)).2) := by
 have hl := mz vn s
 unfold bW
 simp only [ar, beq_iff_eq, h]
 rw [if_neg (by simp), if_neg (by decide), if_pos trivial, show (ByteArray.mk #[45, 48, 49, 50, 51, 52, 53, 54, 55, 56, 57]) = bs vn from rfl, uf _ _ (by decide) hs, ae, zD _ (by omega), ae, aE, aE, bT (by omega), Ak]
theorem zo {t : af} (h : t.kind = 3) (s : List UInt8) (hs : s.length ≤ 1000000000) : ∃ l', bW t (bs s) false = some (ac.mk 3 (J7 l').1 t.scale ByteArray.empty [], bs (ow yC s), (J7 l').2) ∧
  (((wH (jb yC s)).length ≤ 18 ∨ ∃ c r, wH (jb yC s) = 45 :: c :: r ∧ c ≠ 48) → l' = wH (jb yC s)) := by
 have hl := mz yC s
 have hf : (wH (jb yC s)).length ≤ (jb yC s).length := List.length_filter_le _ _
 have hp := F1 t (bs s) (jb yC s) (by omega) (jb yC s).length aW 0 (by omega) (by rw [aA]; omega)
 obtain ⟨l', g1, g2, g3⟩ := Ir t (bs s) (bs (jb yC s)) (wH (jb yC s)).length aW (wH (jb yC s)) (Nat.le_refl _) (by omega) (by rw [aA]; omega)
 refine ⟨l', ?_, g3⟩
 unfold bW
 simp only [ar, beq_iff_eq, h]
 rw [if_neg (by simp), if_neg (by decide), if_neg (by decide), if_pos trivial, show (ByteArray.mk #[45, 48, 49, 50, 51, 52, 53, 54, 55, 56, 57, 46]) = bs yC from rfl, uf _ _ (by decide) hs, ae]
 refine (Eq.trans hp g1).trans ?_
 unfold kh
 rw [zD _ (by omega), ae, aE, aE, bT (by omega), Ak]
theorem yb {t : af} (h : t.kind = 4) (s : List UInt8) (hs : s.length ≤ 1000000000) : bW t (bs s) false = some (DE s) := by
 unfold bW
 simp only [ar, beq_iff_eq, h]
 rw [if_neg (by simp), if_neg (by decide), if_neg (by decide), if_neg (by decide), if_pos trivial, CL _ hs, ae]
def sl (w : List UInt8) (a b : Nat) : List UInt8 := (w.take b).drop a
def GP (s w : List UInt8) : ac × ByteArray × Bool :=
 if (am (sl w 0 4)).2 = true ∧ (am (sl w 5 7)).2 = true ∧ (am (sl w 8 10)).2 = true ∧ (am (sl w 11 13)).2 = true ∧ (am (sl w 14 16)).2 = true ∧ (am (sl w 17 19)).2 = true ∧
  Tm.chk ⟨(am (sl w 0 4)).1, (am (sl w 5 7)).1, (am (sl w 8 10)).1, (am (sl w 11 13)).1, (am (sl w 14 16)).1, (am (sl w 17 19)).1⟩
 then (ac.mk 5 (Tm.sec ⟨(am (sl w 0 4)).1, (am (sl w 5 7)).1, (am (sl w 8 10)).1, (am (sl w 11 13)).1, (am (sl w 14 16)).1, (am (sl w 17 19)).1⟩) 0 ByteArray.empty [], bs (s.drop 20), true)
 else (kf, bs s, false)
theorem yR {t : af} (h : t.kind = 5) (s : List UInt8) (hs : s.length ≤ 1000000000) : bW t (bs s) false = some (if (jb yy s).length = 20 then GP s (jb yy s) else (kf, bs s, false)) := by
 have hl := mz yy s
 have hsl : ∀ a b, b ≤ 20 → (sl (jb yy s) a b).length ≤ 1000000000 := by intro a b hb; unfold sl; simp; omega
 have hx : ∀ a b : Nat, (bs (jb yy s)).extract a b = bs (sl (jb yy s) a b) := fun a b => lh _ _ _
 unfold bW
 simp only [ar, beq_iff_eq, h]
 rw [if_neg (by simp), if_neg (by decide), if_neg (by decide), if_neg (by decide), if_neg (by decide), if_pos trivial, show (ByteArray.mk #[48, 49, 50, 51, 52, 53, 54, 55, 56, 57, 45, 84, 58, 90]) = bs yy from rfl, uf _ _ (by decide) hs, ae, aE, aE]
 by_cases h20 : (jb yy s).length = 20
 ·rw [if_neg (by simp [h20]), if_pos h20, h20]
  unfold GP
  simp only [show (0 : Int).toNat = 0 from rfl, show (4 : Int).toNat = 4 from rfl, show (5 : Int).toNat = 5 from rfl, show (7 : Int).toNat = 7 from rfl, show (8 : Int).toNat = 8 from rfl, show (10 : Int).toNat = 10 from rfl, show (11 : Int).toNat = 11 from rfl, show (13 : Int).toNat = 13 from rfl, show (14 : Int).toNat = 14 from rfl, show (16 : Int).toNat = 16 from rfl, show (17 : Int).toNat = 17 from rfl, show (19 : Int).toNat = 19 from rfl, show (20 : Int).toNat = 20 from rfl, hx, gE]
  rw [jU _ (hsl 0 4 (by decide)), jU _ (hsl 5 7 (by decide)), jU _ (hsl 8 10 (by decide)), jU _ (hsl 11 13 (by decide)), jU _ (hsl 14 16 (by decide)), jU _ (hsl 17 19 (by decide))]
  generalize am (sl (jb yy s) 0 4) = a1
  generalize am (sl (jb yy s) 5 7) = a2
  generalize am (sl (jb yy s) 8 10) = a3
  generalize am (sl (jb yy s) 11 13) = a4
  generalize am (sl (jb yy s) 14 16) = a5
  generalize am (sl (jb yy s) 17 19) = a6
  simp only [ae, Tm.rcheck_eq]
  obtain ⟨y1, b1⟩ := a1; obtain ⟨y2, b2⟩ := a2; obtain ⟨y3, b3⟩ := a3; obtain ⟨y4, b4⟩ := a4; obtain ⟨y5, b5⟩ := a5; obtain ⟨y6, b6⟩ := a6
  dsimp only
  rw [bT (by decide)]
  cases b1 with
  | false => simp
  | true =>
   rw [if_neg (by simp), bT (by decide)]
   cases b2 with
   | false => simp
   | true =>
    rw [if_neg (by simp), bT (by decide)]
    cases b3 with
    | false => simp
    | true =>
     rw [if_neg (by simp), bT (by decide)]
     cases b4 with
     | false => simp
     | true =>
      rw [if_neg (by simp), bT (by decide)]
      cases b5 with
      | false => simp
      | true =>
       rw [if_neg (by simp), bT (by decide)]
       cases b6 with
       | false => simp
       | true =>
        rw [if_neg (by simp)]
        by_cases hc : Tm.chk ⟨y1, y2, y3, y4, y5, y6⟩
        ·rw [if_neg (by simp [hc]), Tm.rseconds_eq hc, ae, bT (by omega), if_pos ⟨rfl, rfl, rfl, rfl, rfl, rfl, hc⟩]
        ·rw [if_pos (by simp [hc]), if_neg (fun h => hc h.2.2.2.2.2.2)]
 ·rw [if_pos (by simp; omega), if_neg h20]
theorem FD {t : af} (hk : t.kind = 1 ∨ t.kind = 2 ∨ t.kind = 3 ∨ t.kind = 4 ∨ t.kind = 5) (s : List UInt8) (hs : s.length ≤ 1000000000) :
  ∃ v s' ok, md t (bs s) = some (v, bs s', ok) ∧ Rr s v s' ok := by
 rw [zy]
 cases hp : pre Fz s with
 | true =>
  rw [xo t s hp]
  have h1 := kB Fz s
  exact ⟨_, _, _, rfl, h1, fun _ => by rw [bp, bH]; omega⟩
 | false =>
  rcases hk with h | h | h | h | h
  ·rw [wX h s hs]
   have h1 := tT DB s
   exact ⟨_, _, _, rfl, h1, fun _ => by rw [bp, bH]; omega⟩
  ·rw [zc h s hs]
   have h1 := tT vn s
   exact ⟨_, _, _, rfl, h1, fun _ => by rw [bp, bH]; omega⟩
  ·obtain ⟨l', e, _⟩ := zo h s hs
   rw [e]
   have h1 := tT yC s
   exact ⟨_, _, _, rfl, h1, fun _ => by rw [bp, bH]; omega⟩
  ·rw [yb h s hs]
   cases s with
   | nil => exact ⟨kf, [], false, rfl, Nat.le_refl _, fun h => by cases h⟩
   | cons b r =>
    by_cases hb : b = 39
    ·rw [show DE (b :: r) = Mk (bs (b :: r)) (rq [] r) from if_pos hb]
     cases hq : rq [] r with
     | none => exact ⟨kf, b :: r, false, rfl, Nat.le_refl _, fun h => by cases h⟩
     | some x =>
      obtain ⟨a, u⟩ := x
      have := DM _ r [] (Nat.le_refl _) a u hq
      simp only [List.length_nil] at this
      exact ⟨_, u, true, rfl, by simp; omega, fun _ => by rw [bp, aE]; simp; omega⟩
    ·rw [show DE (b :: r) = (kf, bs (b :: r), false) from if_neg hb]
     exact ⟨kf, b :: r, false, rfl, Nat.le_refl _, fun h => by cases h⟩
  ·rw [yR h s hs]
   by_cases h20 : (jb yy s).length = 20
   ·rw [if_pos h20]
    unfold GP
    split
    ·exact ⟨_, s.drop 20, true, rfl, by simp, fun _ => by rw [bp, bH]; simp; omega⟩
    ·exact ⟨kf, s, false, rfl, Nat.le_refl _, fun h => by cases h⟩
   ·rw [if_neg h20]
    exact ⟨kf, s, false, rfl, Nat.le_refl _, fun h => by cases h⟩
end Go.Proofs.YtpmoopnkoknbeaaGreatDoor
namespace Go.Proofs.YtpmoopnkoknbeaaGreatDoor
open Go Go.PX Go.SX Go.SX.Cal
theorem HW {l : List UInt8} (h0 : l ≠ []) (h1 : l.length ≤ 18) (hd : l.all oC = true) : am l = (((num 0 l : Nat) : Int), true) := by
 unfold am
 rw [if_pos ⟨fun h => h0 (List.length_eq_zero_iff.1 h), h1, hd⟩]
theorem G6 {n : Int} {l : List UInt8} (h0 : l ≠ []) (h1 : l.length ≤ 18) (hd : l.all oC = true) (hn : num 0 l = n.natAbs) : J7 (sg n l) = (n, true) := by
 unfold sg
 split
 ·show (if (45 : UInt8) = 45 then (-(am l).1, (am l).2) else am (45 :: l)) = _
  rw [if_pos rfl, HW h0 h1 hd, hn]
  simp only [Prod.mk.injEq, and_true]
  omega
 ·match l, h0 with
  | b :: r, h0 =>
   have hb : b ≠ 45 := by
    rintro rfl
    simp only [List.all_cons, Bool.and_eq_true] at hd
    exact absurd hd.1 (by decide)
   show (if b = 45 then (-(am r).1, (am r).2) else am (b :: r)) = _
   rw [if_neg hb, HW h0 h1 hd, hn]
   simp only [Prod.mk.injEq, and_true]
   omega
theorem HI (u : Nat) (h : u ≠ 0) : ∃ c r, Lib.decDigits u = c :: r ∧ c ≠ 48 := by
 induction u using Nat.strongRecOn with
 | _ u ih =>
  rw [Lib.decDigits]
  by_cases h10 : u < 10
  ·rw [dif_pos h10]
   refine ⟨_, _, rfl, fun e => ?_⟩
   have := (vy u h10).2
   rw [e] at this
   exact h (by have h2 : (48 : UInt8).toNat = 48 := rfl; omega)
  ·rw [dif_neg h10]
   obtain ⟨c, r, e, hc⟩ := ih (u / 10) (by omega) (by omega)
   exact ⟨c, r ++ _, by rw [e]; rfl, hc⟩
theorem D5 {l : List UInt8} (h : l.all oC = true) : wH l = l := by
 apply List.filter_eq_self.2
 intro x hx
 have := List.all_eq_true.1 h x hx
 simp only [bne_iff_ne]
 rintro rfl
 exact absurd this (by decide)
theorem Jh {n : Int} {p q : List UInt8} (h1 : p.all oC = true) (h2 : q.all oC = true) : wH (sg n (p ++ 46 :: q)) = sg n (p ++ q) := by
 have e : wH (p ++ 46 :: q) = p ++ q := by
  show List.filter _ _ = _
  rw [List.filter_append]
  show wH p ++ wH (46 :: q) = _
  rw [D5 h1, show wH (46 :: q) = wH q from rfl, D5 h2]
 unfold sg
 split
 ·rw [show wH (45 :: (p ++ 46 :: q)) = 45 :: wH (p ++ 46 :: q) from rfl, e]
 ·exact e
theorem H7 {b : UInt8} (h : vn.contains b = true) : yC.contains b = true := by
 have hh : ((List.range 256).all fun n => !vn.contains (UInt8.ofNat n) || yC.contains (UInt8.ofNat n)) = true := by decide +kernel
 have h2 := List.all_eq_true.1 hh b.toNat (List.mem_range.2 (UInt8.toNat_lt b))
 rw [UInt8.ofNat_toNat, h] at h2
 exact h2
theorem KA {b : UInt8} (h : oC b = true) : yy.contains b = true := by
 have hh : ((List.range 256).all fun n => !oC (UInt8.ofNat n) || yy.contains (UInt8.ofNat n)) = true := by decide +kernel
 have h2 := List.all_eq_true.1 hh b.toNat (List.mem_range.2 (UInt8.toNat_lt b))
 rw [UInt8.ofNat_toNat, h] at h2
 exact h2
theorem Js {l : List UInt8} (h : l.all oC = true) : l.all (yy.contains ·) = true :=
 List.all_eq_true.2 (fun x hx => KA (List.all_eq_true.1 h x hx))
theorem Nb {l : List UInt8} (h : l.length = 4) : ∃ a b c d, l = [a, b, c, d] := by
 match l, h with
 | [a, b, c, d], _ => exact ⟨a, b, c, d, rfl⟩
theorem Hi {l : List UInt8} (h : l.length = 2) : ∃ a b, l = [a, b] := by
 match l, h with
 | [a, b], _ => exact ⟨a, b, rfl⟩
theorem vS {n : Int} (k : Nat) (hk : 1 ≤ k ∧ k ≤ 4) (h0 : 0 ≤ n) (h1 : n.natAbs < 10 ^ k) : (kN k n.natAbs).length = k ∧ am (kN k n.natAbs) = (n, true) := by
 obtain ⟨a, b, c⟩ := nZ k n.natAbs
 have hl := pW k n.natAbs hk.1 h1
 refine ⟨hl, ?_⟩
 rw [HW c (by omega) a, b]
 simp only [Prod.mk.injEq, and_true]
 omega
theorem Gx {d : Nat} {t : af} {v : ac} (h : pF (d + 1) v) (hV : V t) (ho : qK (d + 1) t v = true) (hk : t.kind = 1 ∨ t.kind = 2 ∨ t.kind = 3 ∨ t.kind = 4 ∨ t.kind = 5) (r : List UInt8) (hr : tM r) (hN : (T v ++ r).length ≤ 1000000000) :
  md t (bs (T v ++ r)) = some (v, bs r, true) := by
 obtain ⟨hp, hi⟩ := h.succ
 have hl := ja hp
 rw [zy]
 by_cases h0 : v.kind = 0
 ·have hT : T v = Fz := by rw [kZ, if_pos h0]
  rw [hT, iG, xo _ _ (iG _ _), jZ]
  unfold kf
  rw [lX h0 (hl.nn (.inl h0)) (bL hp (by omega)) (iR (hl.zero (by omega))) (bn hp (by omega) (by omega))]
 obtain ⟨o1, o2, o3⟩ := kA ho h0
 have hpre : pre Fz (T v ++ r) = false := by
  obtain ⟨b, u, e1, _, _, _, e2⟩ := vq h r
  rw [e1]
  exact mT _ _ (fun hh => e2 h0 hh.symm)
 have hsc : v.scale = t.scale := by
  by_cases h3 : v.kind = 3
  ·exact o2 h3
  ·rw [bL hp h3, hV.scale (by omega)]
 have hit := bn hp (by omega) (by omega)
 rw [hpre]
 rcases hk with hk | hk | hk | hk | hk
 ·have h1 : v.kind = 1 := by omega
  have hz := iR (hl.zero (by omega))
  rw [wX hk _ hN]
  have hend : ∀ b, r.head? = some b → DB.contains b = false := by
   intro b hb
   rcases hr b hb with rfl | rfl | rfl <;> decide
  rcases hl.bool h1 with hn | hn
  ·have hT : T v = [102, 97, 108, 115, 101] := by rw [kZ, if_neg h0, if_pos h1, if_neg (by omega)]
   obtain ⟨t1, t2⟩ := tw (p := (DB.contains ·)) (l := [102, 97, 108, 115, 101]) (r := r) (by decide) hend
   rw [hT, show jb DB ([102, 97, 108, 115, 101] ++ r) = _ from t1, show ow DB ([102, 97, 108, 115, 101] ++ r) = _ from t2, if_neg (by decide)]
   rw [lX h1 hn (bL hp (by omega)) hz hit]
  ·have hT : T v = [116, 114, 117, 101] := by rw [kZ, if_neg h0, if_pos h1, if_pos hn]
   obtain ⟨t1, t2⟩ := tw (p := (DB.contains ·)) (l := [116, 114, 117, 101]) (r := r) (by decide) hend
   rw [hT, show jb DB ([116, 114, 117, 101] ++ r) = _ from t1, show ow DB ([116, 114, 117, 101] ++ r) = _ from t2, if_pos rfl]
   rw [lX h1 hn (bL hp (by omega)) hz hit]
 ·have h2 : v.kind = 2 := by omega
  have hz := iR (hl.zero (by omega))
  have hnn := hl.num (.inl h2)
  have hT : T v = sg v.n (Lib.decDigits v.n.natAbs) := by rw [kZ, if_neg h0, if_neg (by omega), if_pos h2]
  obtain ⟨a, b, c⟩ := ij v.n.natAbs
  obtain ⟨t1, t2⟩ := tw (zH v.n a) (zN hr)
  rw [zc hk _ hN, hT, show jb vn (sg v.n (Lib.decDigits v.n.natAbs) ++ r) = _ from t1, show ow vn (sg v.n (Lib.decDigits v.n.natAbs) ++ r) = _ from t2]
  rw [G6 c (wO _ (by omega)) a b]
  rw [lX h2 rfl (bL hp (by omega)) hz hit]
 ·have h3 : v.kind = 3 := by omega
  have hz := iR (hl.zero (by omega))
  have hnn := hl.num (.inr h3)
  have hsb := hl.sc h3
  have hT : T v = CK v.n v.scale := by rw [kZ, if_neg h0, if_neg (by omega), if_neg (by omega), if_pos h3]
  obtain ⟨p, q, e1, e2, e3, e4, e5, e6, e7, e8⟩ := ma (n := v.n) hsb.1
  have hpl := jz (n := v.n) (by omega) (v.scale.toNat + 1) (by omega)
  have hall : ∀ x ∈ sg v.n (p ++ 46 :: q), yC.contains x = true := by
   have hin : ∀ x ∈ p ++ 46 :: q, yC.contains x = true := by
    intro x hx
    rcases List.mem_append.1 hx with hx | hx
    ·exact H7 (tQ e2 x hx)
    ·rcases List.mem_cons.1 hx with rfl | hx
     ·decide
     ·exact H7 (tQ e3 x hx)
   unfold sg
   split
   ·intro x hx
    rcases List.mem_cons.1 hx with rfl | hx
    ·decide
    ·exact hin x hx
   ·exact hin
  have hend : ∀ b, r.head? = some b → yC.contains b = false := by
   intro b hb
   rcases hr b hb with rfl | rfl | rfl <;> decide
  obtain ⟨t1, t2⟩ := tw (r := r) hall hend
  obtain ⟨l', g1, g2⟩ := zo hk _ hN
  have hT2 : T v = sg v.n (p ++ 46 :: q) := by rw [hT, e1]
  have hsp : jb yC (T v ++ r) = sg v.n (p ++ 46 :: q) := by rw [hT2]; exact t1
  have hdr : ow yC (T v ++ r) = r := by rw [hT2]; exact t2
  rw [hsp, Jh e2 e3] at g2
  have hl' : l' = sg v.n (p ++ q) := by
   apply g2
   have hsl := xK v.n (p ++ q)
   rcases Nat.lt_or_ge 18 (sg v.n (p ++ q)).length with hgt | hle
   ·right
    have hneg : v.n < 0 := by
     rcases Int.lt_or_le v.n 0 with hh | hh
     ·exact hh
     ·exfalso; unfold sg at hgt; rw [if_neg (by omega)] at hgt; omega
    have e9 : p ++ q = Lib.decDigits v.n.natAbs := by
     rw [e8]
     unfold kN
     have hdl : v.scale.toNat + 1 - (Lib.decDigits v.n.natAbs).length = 0 := by
      rcases Nat.lt_or_ge (Lib.decDigits v.n.natAbs).length (v.scale.toNat + 1) with hh | hh
      ·exfalso
       have : (kN (v.scale.toNat + 1) v.n.natAbs).length = v.scale.toNat + 1 := by unfold kN; simp; omega
       omega
      ·omega
     rw [hdl]; rfl
    obtain ⟨c, u, e10, e11⟩ := HI v.n.natAbs (by omega)
    refine ⟨c, u, ?_, e11⟩
    unfold sg
    rw [if_pos hneg, e9, e10]
   ·exact .inl hle
  rw [g1, hl', hdr, G6 (by simp [e4]) (by omega) (by rw [List.all_append, e2, e3]; rfl) e5]
  rw [lX h3 rfl hsc hz hit]
 ·have h4 : v.kind = 4 := by omega
  have hT : T v = 39 :: (rA v.s.data.toList ++ [39]) := by rw [kZ, if_neg h0, if_neg (by omega), if_neg (by omega), if_neg (by omega), if_pos h4]
  have hTr : T v ++ r = 39 :: (rA v.s.data.toList ++ 39 :: r) := by rw [hT]; simp
  rw [yb hk _ hN, hTr, show DE (39 :: (rA v.s.data.toList ++ 39 :: r)) = Mk (bs (39 :: (rA v.s.data.toList ++ 39 :: r))) (rq [] (rA v.s.data.toList ++ 39 :: r)) from rfl, DJ _ _ _ (fun hh => by rcases hr 39 hh with h | h | h <;> cases h)]
  show some (ac.mk 4 0 0 (bs ([] ++ v.s.data.toList)) [], bs r, true) = _
  rw [List.nil_append, vF, lX h4 (hl.nn (.inr (.inl h4))) (bL hp (by omega)) rfl hit]
 ·have h5 : v.kind = 5 := by omega
  have hz := iR (hl.zero (by omega))
  have hm := hl.mom h5
  obtain ⟨c1, c2⟩ := tP hm.1 hm.2
  have hml := Ar hm.1 hm.2
  have hT : T v = vj (Tm.civ v.n) := by rw [kZ, if_neg h0, if_neg (by omega), if_neg (by omega), if_neg (by omega), if_neg (by omega), if_pos h5]
  have hend : ∀ b, r.head? = some b → yy.contains b = false := by
   intro b hb
   rcases hr b hb with rfl | rfl | rfl <;> decide
  have hall : (vj (Tm.civ v.n)).all (yy.contains ·) = true := by
   have hx : ∀ k u, (kN k u).all (yy.contains ·) = true := fun k u => Js (nZ k u).1
   unfold vj Bc
   simp only [List.all_append, List.all_cons, List.all_nil, hx]
   decide
  obtain ⟨t1, t2⟩ := tw (r := r) (List.all_eq_true.1 hall) hend
  rw [hT] at hN ⊢
  rw [yR hk _ hN, show jb yy (vj (Tm.civ v.n) ++ r) = _ from t1, if_pos hml]
  have hdrop : (vj (Tm.civ v.n) ++ r).drop 20 = r := List.drop_left' hml
  obtain ⟨a1, a2, b1, b2, d1, d2, f1, f2, g1, g2, i1, i2⟩ := id c1
  have hdim := Tm.dim_bound (Tm.civ v.n).year (Tm.civ v.n).month
  generalize Tm.civ v.n = c at *
  obtain ⟨p1, q1⟩ := vS (n := c.year) 4 (by decide) (by omega) (by omega)
  obtain ⟨p2, q2⟩ := vS (n := c.month) 2 (by decide) (by omega) (by omega)
  obtain ⟨p3, q3⟩ := vS (n := c.day) 2 (by decide) (by omega) (by omega)
  obtain ⟨p4, q4⟩ := vS (n := c.hour) 2 (by decide) (by omega) (by omega)
  obtain ⟨p5, q5⟩ := vS (n := c.minute) 2 (by decide) (by omega) (by omega)
  obtain ⟨p6, q6⟩ := vS (n := c.second) 2 (by decide) (by omega) (by omega)
  have key : GP (vj c ++ r) (vj c) = (ac.mk 5 (Tm.sec c) 0 ByteArray.empty [], bs r, true) := by
   unfold GP
   rw [hdrop]
   have s1 : sl (vj c) 0 4 = kN 4 c.year.natAbs ∧ sl (vj c) 5 7 = kN 2 c.month.natAbs ∧ sl (vj c) 8 10 = kN 2 c.day.natAbs ∧ sl (vj c) 11 13 = kN 2 c.hour.natAbs ∧ sl (vj c) 14 16 = kN 2 c.minute.natAbs ∧ sl (vj c) 17 19 = kN 2 c.second.natAbs := by
    unfold vj Bc sl
    generalize kN 4 c.year.natAbs = x1 at *
    generalize kN 2 c.month.natAbs = x2 at *
    generalize kN 2 c.day.natAbs = x3 at *
    generalize kN 2 c.hour.natAbs = x4 at *
    generalize kN 2 c.minute.natAbs = x5 at *
    generalize kN 2 c.second.natAbs = x6 at *
    obtain ⟨_, _, _, _, rfl⟩ := Nb p1
    obtain ⟨_, _, rfl⟩ := Hi p2
    obtain ⟨_, _, rfl⟩ := Hi p3
    obtain ⟨_, _, rfl⟩ := Hi p4
    obtain ⟨_, _, rfl⟩ := Hi p5
    obtain ⟨_, _, rfl⟩ := Hi p6
    exact ⟨rfl, rfl, rfl, rfl, rfl, rfl⟩
   obtain ⟨s1, s2, s3, s4, s5, s6⟩ := s1
   rw [s1, s2, s3, s4, s5, s6, q1, q2, q3, q4, q5, q6]
   exact if_pos ⟨rfl, rfl, rfl, rfl, rfl, rfl, c1⟩
  rw [key, c2, lX h5 rfl (bL hp (by omega)) hz hit]
end Go.Proofs.YtpmoopnkoknbeaaGreatDoor
namespace Go.Proofs.YtpmoopnkoknbeaaGreatDoor
open Go Go.PX Go.SX Go.SX.Cal
theorem Bg (k0 : Nat) (t : af) (hl : ¬ (t.kind ≠ 6 ∧ t.kind ≠ 7)) (s : List UInt8) : cj (k0 + 1) t (bs s) = gc (cj k0) t (bs s) (pre Fz s) := by
 rw [cj, oT, ae, ar, if_neg (by simpa using hl)]
 exact Gu s (fun y => gc (cj k0) t (bs s) y)
theorem yT (k0 : Nat) (t : af) (hl : t.kind ≠ 6 ∧ t.kind ≠ 7) (s : List UInt8) : cj (k0 + 1) t (bs s) = az (md t (bs s)) fun r2 => some (r2.1, r2.2.1, r2.2.2) := by
 rw [cj, oT, ae, ar, if_pos (by simpa using hl)]
theorem DN (l : List ac) (v : ac) : bX (l ++ [v]) = bX l + aY v := by
 induction l with
 | nil => simp [bX]
 | cons x l ih => simp only [List.cons_append, bX, ih]; omega
theorem Dt (l : List UInt8) (F : Bool → Option (ac × ByteArray × Bool)) :
  (ax (decide ((0 : Int) < ((bs l).size : Int)))
    (bI (0 ≤ (0 : Int) ∧ (0 : Int) < ((bs l).size : Int)) <|
     ax ((((bs l).data.toList.getD (0 : Int).toNat 0).toNat : Int) == (93 : Int)) (F true)
      (bI (0 ≤ (0 : Int) ∧ (0 : Int) < ((bs l).size : Int)) <| F ((((bs l).data.toList.getD (0 : Int).toNat 0).toNat : Int) == (41 : Int))))
    (F false)) = F (decide (l.head? = some 93 ∨ l.head? = some 41)) := by
 rw [aE, ar]
 cases l with
 | nil => rfl
 | cons b r =>
  rw [if_pos (by simp), bT (by rw [List.length_cons]; omega), ar, show (0 : Int).toNat = ((0 : Nat) : Int).toNat from rfl, vX (b :: r) 0 (by simp)]
  rw [show (((((b :: r)[0]).toNat : Nat) : Int) == (93 : Int)) = (b == 93) by rw [← xc]; rfl, show (((((b :: r)[0]).toNat : Nat) : Int) == (41 : Int)) = (b == 41) by rw [← xc]; rfl]
  by_cases h1 : b = 93
  ·rw [if_pos (by simpa using h1)]; congr 1; simp [h1]
  ·rw [if_neg (by simpa using h1), bT (by rw [List.length_cons]; omega)]
   congr 1
   rw [Bool.eq_iff_iff]; simp [h1]
theorem FY {t : af} (hV : V t) (hkk : t.kind = 6 ∨ t.kind = 7) (p2 : List UInt8) (N : Nat) (hN : N ≤ 1000000000) (hp2 : p2.length ≤ N) (q : af → ByteArray → Option (ac × ByteArray × Bool))
  (hq : ∀ f ∈ t.fields, ∀ s, s.length ≤ N → ∃ v s' ok, q f.type (bs s) = some (v, bs s', ok) ∧ Rr s v s' ok) :
  ∀ (m f : Nat) (l : List ac) (s : List UInt8), l.length + m = 257 → m < f → bX l + s.length + (if l.length = 0 then 1 else 0) ≤ p2.length →
   ∃ v s' ok, bo q t (bs p2) f l (bs s) (l.length : Int) = some (v, bs s', ok) ∧ Rr p2 v s' ok := by
 have out : ∀ l : List ac, ∃ v s' ok, (some (ac.mk t.kind 0 0 ByteArray.empty l, bs p2, false) : Option (ac × ByteArray × Bool)) = some (v, bs s', ok) ∧ Rr p2 v s' ok :=
  fun l => ⟨_, p2, false, rfl, Nat.le_refl _, fun h => by cases h⟩
 intro m
 induction m with
 | zero =>
  intro f l s hm hf hS
  obtain ⟨f, rfl⟩ : ∃ g, f = g + 1 := ⟨f - 1, by omega⟩
  rw [bo, ar, if_neg (by simp; omega)]
  exact out l
 | succ m ih =>
  intro f l s hm hf hS
  obtain ⟨f, rfl⟩ : ∃ g, f = g + 1 := ⟨f - 1, by omega⟩
  rw [bo, ar, if_pos (by simp; omega)]
  have hc := Dt s (fun b => eJ (bo q t (bs p2) f) q t (bs p2) l (bs s) (l.length : Int) b)
  refine Exists.imp (fun v => Exists.imp fun s' => Exists.imp fun ok => And.imp_left (fun h => Eq.trans hc h)) ?_
  have j3 : ∀ s1 : List UInt8, bX l + s1.length + 1 ≤ p2.length → ∃ v s' ok, iN (bo q t (bs p2) f) q t (bs p2) l (l.length : Int) (bs s1) = some (v, bs s', ok) ∧ Rr p2 v s' ok := by
   intro s1 hs1
   have j4 : ∀ x6 : Nat, ∃ v s' ok, iL (bo q t (bs p2) f) q t (bs p2) l (l.length : Int) (bs s1) (x6 : Int) = some (v, bs s', ok) ∧ Rr p2 v s' ok := by
    intro x6
    unfold iL
    rw [ar]
    by_cases hx : t.fields.length ≤ x6
    ·rw [if_pos (by simp; omega)]
     exact out l
    ·rw [if_neg (by simp; omega), cf (by omega), ae]
     obtain ⟨v, s', ok, e1, e2⟩ := hq _ (List.getElem_mem (show x6 < t.fields.length by omega)) s1 (by omega)
     rw [e1, ae]
     dsimp only
     cases ok with
     | false => exact out l
     | true =>
      have h1 := e2.le
      have h2 := e2.sz rfl
      rw [ar, if_neg (by simp), bT (by omega), fL (by omega) (by omega)]
      have := ih f (l ++ [v]) s' (by simp; omega) (by omega) (by rw [DN, if_neg (by simp)]; omega)
      rw [List.length_append, List.length_singleton] at this
      exact this
   unfold iN
   rw [ar]
   split
   ·exact j4 l.length
   ·exact j4 0
  by_cases hh : s.head? = some 93 ∨ s.head? = some 41
  ·rw [show decide (s.head? = some 93 ∨ s.head? = some 41) = true by simpa using hh]
   unfold eJ
   have hpos : 1 ≤ s.length := by
    cases s with
    | nil => simp at hh
    | cons _ _ => simp
   rw [ar, if_pos rfl, aE, bT (by omega), show (1 : Int).toNat = 1 from rfl, gE]
   exact ⟨_, s.drop 1, true, rfl, by simp; omega, fun _ => by rw [l7]; simp; omega⟩
  ·rw [show decide (s.head? = some 93 ∨ s.head? = some 41) = false by simpa using hh]
   unfold eJ
   rw [ar, if_neg (by simp), ar]
   by_cases hl0 : l.length = 0
   ·rw [if_neg (by simp only [decide_eq_true_eq]; omega)]
    rw [if_pos hl0] at hS
    exact j3 s hS
   ·rw [if_pos (by simp only [decide_eq_true_eq]; omega), ar, aE]
    rw [if_neg hl0] at hS
    by_cases h2 : s.length < 2
    ·rw [if_pos (by simp; omega)]
     exact out l
    ·rw [if_neg (by simp; omega), bT (by omega), show (2 : Int).toNat = 2 from rfl, gE]
     exact j3 _ (by simp; omega)
theorem xe {t : af} (hV : V t) : 1 ≤ t.kind ∧ t.kind ≤ 7 := by
 have := hV.sh
 unfold shp at this
 by_cases hx : t.kind < 1 ∨ 7 < t.kind
 ·rw [if_pos hx] at this; cases this
 ·omega
theorem Hm : ∀ (n : Nat) (t : af), dn t ≤ n → V t → ∀ (k : Nat), n ≤ k → ∀ (s : List UInt8), s.length ≤ 1000000000 →
  ∃ v s' ok, cj k t (bs s) = some (v, bs s', ok) ∧ Rr s v s' ok := by
 intro n
 induction n with
 | zero => intro t h; have := gN t; omega
 | succ n ih =>
  intro t hn hV k hk s hs
  obtain ⟨k, rfl⟩ : ∃ g, k = g + 1 := ⟨k - 1, by omega⟩
  have hst := gN t
  have hkd := xe hV
  by_cases hl : t.kind ≠ 6 ∧ t.kind ≠ 7
  ·rw [yT k t hl]
   obtain ⟨v, s', ok, e1, e2⟩ := FD (t := t) (by omega) s hs
   rw [e1]
   exact ⟨v, s', ok, rfl, e2⟩
  ·rw [Bg k t hl]
   cases hp : pre Fz s with
   | true =>
    have := rD hp
    simp only [List.length_cons, List.length_nil] at this
    unfold gc
    rw [ar, if_pos rfl, aE, bT (by omega), show (4 : Int).toNat = 4 from rfl, gE]
    exact ⟨_, s.drop 4, true, rfl, by simp, fun _ => by rw [bp, bH]; simp; omega⟩
   | false =>
    unfold gc
    rw [ar, if_neg (by simp), ar, aE]
    by_cases h2 : s.length < 2
    ·rw [if_pos (by simp; omega)]
     exact ⟨_, s, false, rfl, Nat.le_refl _, fun h => by cases h⟩
    ·rw [if_neg (by simp; omega), bT (by omega), show (1 : Int).toNat = 1 from rfl, gE]
     exact FY hV (by omega) s 1000000000 (Nat.le_refl _) hs (cj k) (fun f hf u hu => by
      have h1 := io hf
      have h2 := gG f
      exact ih f.type (by omega) (hV.fs f hf) k (by omega) u hu) 257 aW [] (s.drop 1) (by simp) (by rw [aA]; omega) (by simp [bX]; omega)
theorem zB {t : af} {v : ac} {d : Nat} (hV : V t) (hk : v.kind = t.kind) (hkk : t.kind = 6 ∨ t.kind = 7) (hlen : v.items.length ≤ 64) (hv : ac.mk t.kind 0 0 ByteArray.empty v.items = v) (hfit : H6 t v)
  (hi : ∀ x ∈ v.items, pF (d + 1) x) (p2 : ByteArray) (q : af → ByteArray → Option (ac × ByteArray × Bool)) (e : UInt8) (he : e = 93 ∨ e = 41) (r : List UInt8) (N : Nat)
  (hq : ∀ i, i < v.items.length → ∀ r, tM r → (T (iv v i) ++ r).length ≤ N → q (ft t i) (bs (T (iv v i) ++ r)) = some (iv v i, bs r, true)) :
  ∀ (m f i : Nat), i + m = v.items.length → m < f → (W v i e r).length ≤ N → bo q t p2 f (v.items.take i) (bs (W v i e r)) (i : Int) = some (v, bs r, true) := by
 intro m
 induction m with
 | zero =>
  intro f i hii hf _
  obtain ⟨f, rfl⟩ : ∃ g, f = g + 1 := ⟨f - 1, by omega⟩
  obtain rfl : i = v.items.length := by omega
  rw [bo, ar, if_pos (by simp; omega), Id, List.take_length]
  refine (Dt (e :: r) (fun b => eJ (bo q t p2 f) q t p2 v.items (bs (e :: r)) (v.items.length : Int) b)).trans ?_
  rw [show decide ((e :: r).head? = some 93 ∨ (e :: r).head? = some 41) = true by simpa using he]
  unfold eJ
  rw [ar, if_pos rfl, aE, bT (by rw [List.length_cons]; omega), show (1 : Int).toNat = 1 from rfl, gE, hv]
  rfl
 | succ m ih =>
  intro f i hii hf hN
  obtain ⟨f, rfl⟩ : ∃ g, f = g + 1 := ⟨f - 1, by omega⟩
  have hlt : i < v.items.length := by omega
  have hx := hi _ (lP hlt)
  have hlt7 : (v.items.take i).length = i := by rw [List.length_take]; omega
  have hlW := congrArg List.length (rl hlt e r)
  rw [List.length_append] at hlW
  obtain ⟨b, u, e1, e2, e3, e4, _⟩ := vq hx (W v (i + 1) e r)
  have hhd : ¬ ((W v i e r).head? = some 93 ∨ (W v i e r).head? = some 41) := by
   rw [rl hlt]
   by_cases h0 : i = 0
   ·rw [if_pos h0, List.nil_append, e1]
    simp [e2, e3]
   ·rw [if_neg h0]; simp
  rw [bo, ar, if_pos (by simp; omega)]
  refine (Dt (W v i e r) (fun b => eJ (bo q t p2 f) q t p2 (v.items.take i) (bs (W v i e r)) (i : Int) b)).trans ?_
  rw [show decide ((W v i e r).head? = some 93 ∨ (W v i e r).head? = some 41) = false by simpa using hhd]
  have j3 : iN (bo q t p2 f) q t p2 (v.items.take i) (i : Int) (bs (T (iv v i) ++ W v (i + 1) e r)) = some (v, bs r, true) := by
   have j4 : ∀ x6 : Nat, x6 = (if t.kind = 6 then 0 else i) → iL (bo q t p2 f) q t p2 (v.items.take i) (i : Int) (bs (T (iv v i) ++ W v (i + 1) e r)) (x6 : Int) = some (v, bs r, true) := by
    intro x6 hx6
    obtain ⟨fd, f1, f2, f3, _⟩ := qF (hfit i hlt)
    have hfi := hfit i hlt
    rw [← hx6] at f2 hfi
    unfold iL
    rw [ar, if_neg (by simp; omega), fM f2, ae, f3, hq i hlt _ (LZ (by omega) he r) (by omega), ae]
    dsimp only
    rw [ar, if_neg (by simp), bT (by omega), fL (by omega) (by omega), ← lI hlt, ← List.take_succ_eq_append_getElem hlt]
    exact ih f (i + 1) (by omega) (by omega) (by rw [List.length_append] at hlW; omega)
   unfold iN
   rw [ar]
   by_cases h7 : t.kind = 7
   ·rw [if_pos (by simpa using h7)]
    exact j4 i (by rw [if_neg (by omega)])
   ·rw [if_neg (by simpa using h7)]
    exact j4 0 (by rw [if_pos (by omega)])
  unfold eJ
  rw [ar, if_neg (by simp), ar]
  by_cases h0 : i = 0
  ·rw [if_neg (by simp; omega)]
   rw [show W v i e r = T (iv v i) ++ W v (i + 1) e r by rw [rl hlt, if_pos h0, List.nil_append]]
   exact j3
  ·have hw2 : W v i e r = 44 :: 32 :: (T (iv v i) ++ W v (i + 1) e r) := by rw [rl hlt, if_neg h0]; rfl
   rw [if_pos (by simp; omega), ar, hw2, aE, if_neg (by simp; omega), bT (by simp; omega), show (2 : Int).toNat = 2 from rfl, gE]
   exact j3
theorem JA : ∀ (d : Nat) (t : af) (v : ac), pF d v → V t → qK d t v = true → ∀ (k : Nat), d ≤ k → ∀ r, tM r → (T v ++ r).length ≤ 1000000000 →
  cj k t (bs (T v ++ r)) = some (v, bs r, true) := by
 intro d
 induction d with
 | zero => intro t v h; exact h.zero.elim
 | succ d ih =>
  intro t v h hV ho k hk r hr hN
  obtain ⟨k, rfl⟩ : ∃ g, k = g + 1 := ⟨k - 1, by omega⟩
  obtain ⟨hp, hi⟩ := h.succ
  have hl := ja hp
  have hkd := xe hV
  by_cases hlf : t.kind ≠ 6 ∧ t.kind ≠ 7
  ·rw [yT k t hlf, Gx h hV ho (by omega) r hr hN]; rfl
  rw [Bg k t hlf]
  by_cases h0 : v.kind = 0
  ·have hT : T v = Fz := by rw [kZ, if_pos h0]
   rw [hT, iG]
   unfold gc
   rw [ar, if_pos rfl, aE, bT (by simp; omega), show (4 : Int).toNat = 4 from rfl, gE]
   rw [lX h0 (hl.nn (.inl h0)) (bL hp (by omega)) (iR (hl.zero (by omega))) (bn hp (by omega) (by omega))]
   rfl
  obtain ⟨o1, o2, o3⟩ := kA ho h0
  have hpre : pre Fz (T v ++ r) = false := by
   obtain ⟨b, u, e1, _, _, _, e2⟩ := vq h r
   rw [e1]
   exact mT _ _ (fun hh => e2 h0 hh.symm)
  obtain ⟨hfit, hof⟩ := xL h hV ho
  have hz := iR (hl.zero (by omega))
  have hn := hl.nn (by omega)
  have hv : ac.mk t.kind 0 0 ByteArray.empty v.items = v := lX o1 hn (bL hp (by omega)) hz rfl
  have hlen : v.items.length ≤ 64 := by
   by_cases h6 : v.kind = 6
   ·exact hl.lst h6
   ·have := o3 (by omega)
    have := hV.wid; omega
  obtain ⟨o, e, he, hT⟩ : ∃ o e : UInt8, (e = 93 ∨ e = 41) ∧ T v = o :: (TJ v.items ++ [e]) := by
   rw [kZ, if_neg h0, if_neg (by omega), if_neg (by omega), if_neg (by omega), if_neg (by omega), if_neg (by omega)]
   split
   ·exact ⟨91, 93, .inl rfl, rfl⟩
   ·exact ⟨40, 41, .inr rfl, rfl⟩
  have hTr : T v ++ r = o :: W v 0 e r := by rw [hT]; unfold W; simp
  have hWl : 1 ≤ (W v 0 e r).length := by unfold W; rw [List.length_append, List.length_cons]; omega
  rw [hpre]
  unfold gc
  rw [ar, if_neg (by simp), ar, aE, hTr]
  rw [hTr] at hN
  rw [List.length_cons] at hN
  rw [if_neg (by simp; omega), bT (by rw [List.length_cons]; omega), show (1 : Int).toNat = 1 from rfl, gE, List.drop_succ_cons, List.drop_zero]
  cases d with
  | zero =>
   have hnil : v.items = [] := by
    cases hv : v.items with
    | nil => rfl
    | cons x l => exact (hi x (by rw [hv]; exact List.mem_cons_self ..)).zero.elim
   have := zB (d := 0) hV o1 (by omega) hlen hv hfit (fun x hx => by rw [hnil] at hx; cases hx) (bs (o :: W v 0 e r)) (cj k) e he r 1000000000 (fun i hlt => by rw [hnil] at hlt; cases hlt) v.items.length aW 0 (by omega) (by rw [aA]; omega) (by omega)
   rw [List.take_zero] at this
   exact this
  | succ d =>
   have := zB hV o1 (by omega) hlen hv hfit hi (bs (o :: W v 0 e r)) (cj k) e he r 1000000000 (fun i hlt r' hr' hn' => ih (ft t i) (iv v i) (hi _ (lP hlt)) (by
     obtain ⟨fd, f1, _, f3, _⟩ := qF (hfit i hlt)
     rw [← f3]; exact hV.fs fd f1) (hof i hlt) k (by omega) r' hr' hn') v.items.length aW 0 (by omega) (by rw [aA]; omega) (by omega)
   rw [List.take_zero] at this
   exact this
end Go.Proofs.YtpmoopnkoknbeaaGreatDoor
namespace Go.Proofs.YtpmoopnkoknbeaaGreatDoor
open Go Go.PX Go.SX Go.SX.Cal
noncomputable def ck (t : af) (v : ac) : Int := (eW t v).getD 0
theorem Jd {t : af} {v : ac} (hv : aY v < 1000000000) (hT : dn t < 1000000000) : eW t v = some (ck t v) := by
 obtain ⟨e, h1, _⟩ := Cg t v hv hT
 unfold ck; rw [h1]; rfl
theorem KB {t : af} {v : ac} (hv : aY v < 1000000000) (hT : dn t < 1000000000) : mo t v = some (ck t v) := by
 obtain ⟨e, h1, h2⟩ := Cg t v hv hT
 unfold ck; rw [h1, h2]; rfl
theorem rc {t : af} {v : ac} (hv : aY v < 1000000000) (hT : dn t < 1000000000) (h : ck t v = 0) : V t ∧ pF 4 v ∧ qK 4 t v = true ∧ cx v = true ∧ bC t = some 0 ∧ cZ t = some 0 := by
 obtain ⟨e, h1, h2, h3⟩ := iW t hT
 have hc := Jd hv hT
 rw [h] at hc
 unfold eW at hc
 rw [h1, o9 v hv] at hc
 simp only [au] at hc
 by_cases he : e = 0
 ·subst he
  have ht := h3 rfl
  cases hs : cx v with
  | false => rw [hs] at hc; cases hc
  | true =>
   have hS : pF 4 v := ⟨0, hs⟩
   obtain ⟨a, b⟩ := of_eq 4 aW aW t v hS ht hv hT (by rw [aA]; omega) (by rw [aA]; omega)
   rw [hs, a] at hc
   cases ho : qK 4 t v with
   | false => rw [ho] at hc; cases hc
   | true => exact ⟨ht, hS, rfl, rfl, h1, h2⟩
 ·rw [show (e != (0 : Int)) = true by simp [he]] at hc
  cases hc; exact absurd rfl he
theorem qY {v : ac} (h : cx v = true) : TX v = T v := if_pos h
theorem vG {t : af} {v : ac} (hv : aY v ≤ 10000000) (hT : dn t < 1000000000) (h : ck t v = 0) : fp t (bs (T v)) = some (v, 0) := by
 obtain ⟨hV, hS, ho, hs, hc, _⟩ := rc (by omega) hT h
 have hl := wz 4 v hS
 have hr := HO 4 t v hS hV ho aW (by rw [aA]; omega) [] zk (by rw [List.append_nil]; omega)
 rw [List.append_nil] at hr
 unfold fp gA
 rw [hc, ae, ar, if_neg (by decide), hr, ae]
 simp only [ar]
 rw [if_neg (by decide), show (ByteArray.mk #[]) = bs [] from rfl, nr, if_neg (by simp), Jd (by omega) hT, ae, h, if_neg (by decide), BV v hv, ae, nr, qY hs, if_neg (by simp)]
theorem EZ {t : af} {v : ac} (hv : aY v ≤ 10000000) (hT : dn t < 1000000000) (h : ck t v = 0) : cT t (bs (T v)) = some (v, 0) := by
 obtain ⟨hV, hS, ho, hs, _, hc⟩ := rc (by omega) hT h
 have hl := wz 4 v hS
 have hr := JA 4 t v hS hV ho aW (by rw [aA]; omega) [] zk (by rw [List.append_nil]; omega)
 rw [List.append_nil] at hr
 unfold cT gZ
 rw [hc, ae, ar, if_neg (by decide), hr, ae]
 simp only [ar]
 rw [if_neg (by decide), show (ByteArray.mk #[]) = bs [] from rfl, nr, if_neg (by simp), KB (by omega) hT, ae, h, if_neg (by decide), yh v hv, ae, nr, qY hs, if_neg (by simp)]
def LW (t : af) (s : List UInt8) (p : ac × Int) : Prop := (p.2 ≠ 0 ∧ p.1 = kf ∧ p.2 = 6) ∨ (p.2 = 0 ∧ ck t p.1 = 0 ∧ s = T p.1 ∧ aY p.1 ≤ 10000000)
theorem Nj {t : af} {s : List UInt8} {p : ac × Int} (h : LW t s p) : p = (kf, 6) ∨ ∃ v, p = (v, 0) ∧ ck t v = 0 ∧ s = T v ∧ aY v ≤ 10000000 := by
 obtain ⟨v, f⟩ := p
 rcases h with ⟨_, rfl, rfl⟩ | ⟨rfl, h1, h2, h3⟩
 ·exact .inl rfl
 ·exact .inr ⟨v, rfl, h1, h2, h3⟩
theorem Db {t : af} {s : List UInt8} (hT : dn t + s.length + 1 ≤ 10000000) (hV : V t) (hc : bC t = some 0) : ∃ p, fp t (bs s) = some p ∧ LW t s p := by
 obtain ⟨x, s', b', e1, e2⟩ := E5 (dn t) t (Nat.le_refl _) hV (by omega) aW (by rw [aA]; omega) s false (by omega)
 have hsz := e2.sz
 unfold fp gA
 rw [hc, ae, ar, if_neg (by decide), e1, ae]
 simp only [ar]
 have bad : LW t s (kf, 6) := .inl ⟨by decide, rfl, rfl⟩
 cases b' with
 | true => exact ⟨_, rfl, bad⟩
 | false =>
  rw [if_neg (by decide)]
  have hx : aY x ≤ 10000000 := by omega
  rw [show (ByteArray.mk #[]) = bs [] from rfl, nr]
  by_cases hs' : s' = []
  ·rw [if_neg (by simp [hs']), Jd (by omega) (by omega), ae]
   by_cases hck : ck t x = 0
   ·rw [if_neg (by simp [hck]), BV x hx, ae, nr]
    obtain ⟨_, _, _, hso, _⟩ := rc (by omega) (by omega) hck
    by_cases hts : TX x = s
    ·rw [if_neg (by simp [hts])]
     exact ⟨_, rfl, .inr ⟨rfl, hck, by rw [← hts, qY hso], hx⟩⟩
    ·rw [if_pos (by simp [hts])]
     exact ⟨_, rfl, bad⟩
   ·rw [if_pos (by simp [hck])]
    exact ⟨_, rfl, bad⟩
  ·rw [if_pos (by simp [hs'])]
   exact ⟨_, rfl, bad⟩
theorem C1 {t : af} {s : List UInt8} (hT : dn t + s.length + 1 ≤ 10000000) (hV : V t) (hc : cZ t = some 0) : ∃ p, cT t (bs s) = some p ∧ LW t s p := by
 obtain ⟨x, s', ok, e1, e2⟩ := Hm (dn t) t (Nat.le_refl _) hV aW (by rw [aA]; omega) s (by omega)
 have hsz := e2.sz
 unfold cT gZ
 rw [hc, ae, ar, if_neg (by decide), e1, ae]
 simp only [ar]
 have bad : LW t s (kf, 6) := .inl ⟨by decide, rfl, rfl⟩
 cases ok with
 | false => exact ⟨_, rfl, bad⟩
 | true =>
  have hx : aY x ≤ 10000000 := by have := hsz rfl; omega
  rw [if_neg (by decide)]
  rw [show (ByteArray.mk #[]) = bs [] from rfl, nr]
  by_cases hs' : s' = []
  ·rw [if_neg (by simp [hs']), KB (by omega) (by omega), ae]
   by_cases hck : ck t x = 0
   ·rw [if_neg (by simp [hck]), yh x hx, ae, nr]
    obtain ⟨_, _, _, hso, _⟩ := rc (by omega) (by omega) hck
    by_cases hts : TX x = s
    ·rw [if_neg (by simp [hts])]
     exact ⟨_, rfl, .inr ⟨rfl, hck, by rw [← hts, qY hso], hx⟩⟩
    ·rw [if_pos (by simp [hts])]
     exact ⟨_, rfl, bad⟩
   ·rw [if_pos (by simp [hck])]
    exact ⟨_, rfl, bad⟩
  ·rw [if_pos (by simp [hs'])]
   exact ⟨_, rfl, bad⟩
theorem Hl (t : af) (s : List UInt8) (hT : dn t + s.length + 1 ≤ 10000000) : ∃ p, fp t (bs s) = some p ∧ cT t (bs s) = some p ∧ (p.1 = kf ∧ p.2 ≠ 0 ∨ p.2 = 0 ∧ ck t p.1 = 0 ∧ s = T p.1 ∧ aY p.1 ≤ 10000000) := by
 obtain ⟨e, h1, h2, h3⟩ := iW t (by omega)
 by_cases he : e = 0
 ·subst he
  have hV := h3 rfl
  obtain ⟨p, a1, a2⟩ := Db hT hV h1
  obtain ⟨q, b1, b2⟩ := C1 hT hV h2
  have hpq : q = p := by
   rcases Nj a2 with rfl | ⟨v, rfl, c1, c2, c3⟩
   ·rcases Nj b2 with rfl | ⟨w, rfl, c1, c2, c3⟩
    ·rfl
    ·subst c2
     rw [vG c3 (by omega) c1] at a1
     cases a1
   ·subst c2
    rw [EZ c3 (by omega) c1] at b1
    cases b1; rfl
  subst hpq
  exact ⟨q, a1, b1, a2.imp (fun h => ⟨h.2.1, h.1⟩) id⟩
 ·refine ⟨(kf, e), ?_, ?_, .inl ⟨rfl, he⟩⟩
  ·unfold fp; rw [h1, ae, ar, if_pos (by simpa using he)]
  ·unfold cT; rw [h2, ae, ar, if_pos (by simpa using he)]
theorem nB : ∀ (n : Nat) (v : ac), aY v ≤ n → ∀ k, n ≤ k → aY v < 1000000000 → bS k v v = some true := by
 intro n
 induction n with
 | zero => intro v h; have := nO v; omega
 | succ n ih =>
  intro v h k hk hv
  obtain ⟨k, rfl⟩ : ∃ g, k = g + 1 := ⟨k - 1, by omega⟩
  have hs := eb v
  have hn := dZ v.items
  have loop : ∀ (m f i : Nat), i + m = v.items.length → m < f → cX (bS k) v v f (i : Int) = some true := by
   intro m
   induction m with
   | zero =>
    intro f i hi hf
    obtain ⟨f, rfl⟩ : ∃ g, f = g + 1 := ⟨f - 1, by omega⟩
    rw [cX, ar, if_neg (by simp; omega)]
    rfl
   | succ m ihm =>
    intro f i hi hf
    obtain ⟨f, rfl⟩ : ∃ g, f = g + 1 := ⟨f - 1, by omega⟩
    have hlt : i < v.items.length := by omega
    have hm := ef (List.getElem_mem hlt)
    rw [cX, ar, if_pos (by simp; omega), cf hlt, ae, ae, ih _ (by omega) k (by omega) (by omega), ae, ar, if_neg (by simp), fL (by omega) (by omega)]
    exact ihm f (i + 1) (by omega) (by omega)
  rw [bS]
  unfold eR
  simp only [bne_self_eq_false, beq_self_eq_true, Bool.not_true, ar]
  have h0 := loop v.items.length aW 0 (by omega) (by rw [aA]; omega)
  rw [Int.natCast_zero] at h0
  simp only [bne_self_eq_false, Bool.false_eq_true, if_false]
  exact h0
end Go.Proofs.YtpmoopnkoknbeaaGreatDoor
namespace Go.Proofs.YtpmoopnkoknbeaaGreatDoor
open Go Go.PX Go.SX Go.SX.Cal
theorem zg : ∀ l : List ac, bX l = (l.map aY).sum
 | [] => by simp [bX]
 | x :: l => by simp [bX, zg l]
theorem Mi (k n sc : Int) (s : ByteArray) (it : List ac) : aY ⟨k, n, sc, s, it⟩ ≤ s.size + (it.map aY).sum + 6 := by
 simp only [aY, zg]; omega
theorem zu : ∀ l : List aL, jy l = (l.map lv).sum
 | [] => by simp [jy]
 | x :: l => by simp [jy, zu l]
theorem HD (k s : Int) (fs : List aL) : dn ⟨k, s, fs⟩ ≤ (fs.map lv).sum + 4 := by
 rw [gN, zu]; simp only; omega
theorem HH (i : Int) (n : ByteArray) (q : Bool) (t : af) : lv ⟨i, n, q, t⟩ ≤ n.size + dn t + 4 := by
 rw [gG]; simp only; omega
theorem Fk {w : World} {v : Value} {x : ac} (h : aK ⟨fun _ => none, fun _ => False⟩ w [] v (.ag ((ac.cells x).map .pv))) : aK ⟨fun _ => none, fun _ => False⟩ w [] v (.ag [ci x.kind, ci x.n, ci x.scale, eQ x.s, cl aj x.items]) := by
 cases x; exact h
end Go.Proofs.YtpmoopnkoknbeaaGreatDoor
namespace Go.SX.Cal
open Go Go.SX Go.Lib
theorem aw {β : Type} (x y : Option β) : ax true x y = x := rfl
theorem ah {β : Type} (x y : Option β) : ax false x y = y := rfl
theorem aM {β : Type} (b : Bool) (x y : Option β) : ax b x y = if b = true then x else y := by cases b <;> rfl
theorem aA : aW = 1152921504606846976 := rfl
def first (P : Nat → Bool) (i n : Nat) : Option Nat := (List.range' i (n - i)).find? P
theorem jH {P : Nat → Bool} {i n : Nat} (h : i < n) : first P i n = if P i = true then some i else first P (i + 1) n := by
 unfold first
 rw [show n - i = (n - (i + 1)) + 1 by omega, List.range'_succ, List.find?_cons]
 cases hp : P i <;> simp [hp]
theorem kV {P : Nat → Bool} {n : Nat} : first P n n = none := by simp [first]
theorem jE {P : Nat → Bool} {i n : Nat} : first P i n = none ↔ ∀ j, i ≤ j → j < n → P j = false := by
 unfold first
 rw [List.find?_eq_none]
 constructor
 ·intro h j h1 h2
  have := h j (by rw [List.mem_range'_1]; omega)
  simpa using this
 ·intro h j hj
  rw [List.mem_range'_1] at hj
  have := h j (by omega) (by omega)
  simp [this]
theorem l9 {β : Type} {f : Nat → Nat → Option β} {n : Nat} {P : Nat → Bool} {A : Nat → Option β} {B : Option β} (hstep : ∀ k i, i < n → f (k + 1) i = if P i = true then A i else f k (i + 1)) (hend : ∀ k, f (k + 1) n = B) :
  ∀ k i, i ≤ n → n - i < k → f k i = (first P i n).elim B A := by
 intro k
 induction k with
 | zero => intro i _ h; omega
 | succ k ih =>
  intro i hi hk
  by_cases h : i = n
  ·subst h
   rw [hend, kV]; rfl
  ·rw [hstep k i (by omega), jH (by omega)]
   by_cases hp : P i = true
   ·simp [hp]
   ·simp only [hp, if_false]
    exact ih (i + 1) (by omega) (by omega)
def iI (s : ByteArray) (i : Nat) : Nat := (s.data.toList.getD i 0).toNat
theorem nE (s : ByteArray) (i : Nat) (h : i < s.size) : (s.get! i).toNat = iI s i := by
 unfold iI
 have h' : i < s.data.size := h
 have : s.get! i = s.data.toList.getD i 0 := by
  simp only [ByteArray.get!, List.getD, Array.getElem?_toList]
  rw [getElem!_pos s.data i h', Array.getElem?_eq_getElem h']; rfl
 rw [this]
theorem vJ (s : ByteArray) (i : Nat) (h : i < s.size) (hb : iI s i < 128) : Utf8.decode s i = (iI s i, 1) := by
 have e := nE s i h
 unfold Utf8.decode
 simp [e, hb]
theorem vH (s : ByteArray) (i : Nat) (h : i < s.size) (hb : ¬ iI s i < 128) : 128 ≤ (Utf8.decode s i).1 := by
 have e := nE s i h
 unfold Utf8.decode
 simp only [Nat.add_zero, e, if_neg hb, Utf8.runeError]
 repeat' split
 all_goals simp_all
 all_goals omega
theorem mc (s : ByteArray) : (s.toList == (ByteArray.mk #[]).toList) = decide (s.size = 0) := by
 rw [ByteArray.toList_eq, ByteArray.toList_eq, Bool.eq_iff_iff]
 show (s.data.toList == []) = true ↔ decide (s.data.size = 0) = true
 rw [← Array.length_toList]
 cases s.data.toList <;> simp
mutual
def dn : af → Nat
 | ⟨_, _, fs⟩ => jy fs + 1
def jy : List (nj af) → Nat
 | [] => 0
 | f :: l => lv f + jy l
def lv : nj af → Nat
 | ⟨_, n, _, t⟩ => n.size + dn t + 1
end
theorem io : ∀ {l : List aL} {x : aL}, x ∈ l → lv x ≤ jy l
 | [], _, h => by cases h
 | y :: l, x, h => by
  simp only [jy]
  rcases List.mem_cons.1 h with rfl | h
  ·omega
  ·have := io h; omega
theorem gG : ∀ x : aL, lv x = x.name.size + dn x.type + 1
 | ⟨_, _, _, _⟩ => by simp only [lv]
theorem gN : ∀ x : af, dn x = jy x.fields + 1
 | ⟨_, _, _⟩ => by simp only [dn]
theorem nS : ∀ l : List aL, l.length ≤ jy l
 | [] => by simp [jy]
 | x :: l => by
  have := nS l
  have := gG x
  simp only [jy, List.length_cons]; omega
theorem d8 {i n : Nat} (h : i < n) (hn : n < 1000000000) : IntKind.i64.wrap ((i : Int) + 1) = ((i + 1 : Nat) : Int) := by rw [fL (by omega) (by omega)]; omega
theorem cf {α : Type} {xs : List α} {i : Nat} (h : i < xs.length) : at? xs (i : Int) = some xs[i] := by unfold at?; simp [h]
theorem gC {i n : Nat} (h : i < n) : decide ((i : Int) < (n : Int)) = true := by simp [h]
mutual
def aY : ac → Nat
 | ⟨_, _, _, s, it⟩ => s.size + bX it + 1
def bX : List ac → Nat
 | [] => 0
 | x :: l => aY x + bX l
end
theorem eb : ∀ v : ac, aY v = v.s.size + bX v.items + 1
 | ⟨_, _, _, _, _⟩ => by simp only [aY]
theorem ef : ∀ {l : List ac} {x : ac}, x ∈ l → aY x ≤ bX l
 | [], _, h => by cases h
 | y :: l, x, h => by
  simp only [bX]
  rcases List.mem_cons.1 h with rfl | h
  ·omega
  ·have := ef h; omega
theorem nO : ∀ v : ac, 1 ≤ aY v
 | ⟨_, _, _, _, _⟩ => by simp only [aY]; omega
theorem dZ : ∀ l : List ac, l.length ≤ bX l
 | [] => by simp [bX]
 | x :: l => by
  have := dZ l
  have := nO x
  simp only [bX, List.length_cons]; omega
theorem uo (b x : Bool) : ax b (some x) (some false) = some (b && x) := by cases b <;> rfl
theorem Hk (b x : Bool) : ax b (some true) (some x) = some (b || x) := by cases b <;> rfl
theorem au {α β : Type} (a : α) (f : α → Option β) : az (some a) f = f a := rfl
theorem p7 {P : Nat → Bool} {n : Nat} : ∀ (d i : Nat), i + d ≤ n → (∀ j, i ≤ j → j < i + d → P j = false) → first P i n = first P (i + d) n
 | 0, i, _, _ => rfl
 | d + 1, i, h, hP => by
  rw [jH (by omega), hP i (by omega) (by omega)]
  simp only [Bool.false_eq_true, if_false]
  rw [p7 d (i + 1) (by omega) (fun j h1 h2 => hP j (by omega) (by omega))]
  congr 1; omega
theorem wG (s : ByteArray) (i : Nat) (h : i < s.size) (hb : ¬ iI s i < 128) :
  1 ≤ (Utf8.decode s i).2 ∧ i + (Utf8.decode s i).2 ≤ s.size ∧ ∀ j, i ≤ j → j < i + (Utf8.decode s i).2 → 128 ≤ iI s j := by
 have e := nE s i h
 have one : ∀ j, i ≤ j → j < i + 1 → 128 ≤ iI s j := fun j h1 h2 => by
  have : j = i := by omega
  subst this; omega
 have ct : ∀ k, (decide (i + k < s.size) && (s.get! (i + k)).toNat / 64 == 2) = true → i + k < s.size ∧ 128 ≤ iI s (i + k) := by
  intro k hk
  simp only [Bool.and_eq_true, decide_eq_true_eq, beq_iff_eq] at hk
  rw [nE s _ hk.1] at hk
  exact ⟨hk.1, by omega⟩
 unfold Utf8.decode
 simp only [Nat.add_zero, e, if_neg hb]
 split
 ·rename_i h1
  simp only [Bool.and_eq_true] at h1
  obtain ⟨l1, b1⟩ := ct 1 (by simpa using h1.2)
  split
  ·refine ⟨by simp, by simp only; omega, fun j h2 h3 => ?_⟩
   simp only at h3
   by_cases hj : j = i
   ·subst hj; omega
   ·have : j = i + 1 := by omega
    subst this; exact b1
  ·exact ⟨by simp, by simp only; omega, one⟩
 ·split
  ·rename_i h1
   simp only [Bool.and_eq_true] at h1
   obtain ⟨l1, b1⟩ := ct 1 (by simpa using h1.1.2)
   obtain ⟨l2, b2⟩ := ct 2 (by simpa using h1.2)
   split
   ·refine ⟨by simp, by simp only; omega, fun j h2 h3 => ?_⟩
    simp only at h3
    by_cases hj : j = i
    ·subst hj; omega
    ·by_cases hj : j = i + 1
     ·subst hj; exact b1
     ·have : j = i + 2 := by omega
      subst this; exact b2
   ·exact ⟨by simp, by simp only; omega, one⟩
  ·split
   ·rename_i h1
    simp only [Bool.and_eq_true] at h1
    obtain ⟨l1, b1⟩ := ct 1 (by simpa using h1.1.1.2)
    obtain ⟨l2, b2⟩ := ct 2 (by simpa using h1.1.2)
    obtain ⟨l3, b3⟩ := ct 3 (by simpa using h1.2)
    split
    ·refine ⟨by simp, by simp only; omega, fun j h2 h3 => ?_⟩
     simp only at h3
     by_cases hj : j = i
     ·subst hj; omega
     ·by_cases hj : j = i + 1
      ·subst hj; exact b1
      ·by_cases hj : j = i + 2
       ·subst hj; exact b2
       ·have : j = i + 3 := by omega
        subst this; exact b3
    ·exact ⟨by simp, by simp only; omega, one⟩
   ·exact ⟨by simp, by simp only; omega, one⟩
def zR (s : ByteArray) (i : Nat) : Bool := decide (iI s i < 32) || iI s i == 127
theorem wu {x : Int} : IntKind.u64.wrap x = x % 18446744073709551616 := by
 simp only [IntKind.wrap, IntKind.bits, IntKind.signed]
 simp
structure W4 (w : aF) : Prop where
 a0 : 0 ≤ w.size.1
 a1 : w.size.1 < 18446744073709551616
 b0 : 0 ≤ w.size.2.1
 b1 : w.size.2.1 < 18446744073709551616
 c0 : 0 ≤ w.size.2.2.1
 c1 : w.size.2.2.1 < 18446744073709551616
 d0 : 0 ≤ w.size.2.2.2
 d1 : w.size.2.2.2 < 18446744073709551616
def val (w : aF) : Int := w.size.1 + w.size.2.1 * 18446744073709551616 + w.size.2.2.1 * 340282366920938463463374607431768211456 + w.size.2.2.2 * 6277101735386680763835789423207666416102355444464034512896
theorem CI {x : Int} (h0 : 0 ≤ x) (h1 : x < 18446744073709551616) : ((BitVec.ofInt (IntKind.u64).bits x &&& BitVec.ofInt (IntKind.u64).bits (4294967295 : Int)).toNat : Int) = x % 4294967296 := by
 have e : (BitVec.ofInt 64 x).toNat = x.toNat := by
  rw [BitVec.toNat_ofInt]
  have : x % ((2 ^ 64 : Nat) : Int) = x := by omega
  rw [this]
 have hand : (BitVec.ofInt 64 x &&& BitVec.ofInt 64 (4294967295 : Int)).toNat = x.toNat % 4294967296 := by
  rw [BitVec.toNat_and, e]
  have : (BitVec.ofInt 64 (4294967295 : Int)).toNat = 2 ^ 32 - 1 := by decide
  rw [this, Nat.and_two_pow_sub_one_eq_mod]
 show ((BitVec.ofInt 64 x &&& BitVec.ofInt 64 (4294967295 : Int)).toNat : Int) = _
 rw [hand]
 omega
theorem Nf (x : Int) : x.fdiv (2 ^ (min (32 : Int).toNat (IntKind.u64).bits)) = x / 4294967296 := by
 have : (2 : Int) ^ (min (32 : Int).toNat (IntKind.u64).bits) = 4294967296 := by decide
 rw [this, Int.fdiv_eq_ediv_of_nonneg _ (by decide)]
theorem Hw {x : Int} (h0 : 0 ≤ x) (h1 : x < 18446744073709551616) : x % 18446744073709551616 = x := Int.emod_eq_of_lt h0 h1
theorem prod_bound {a b : Int} (a0 : 0 ≤ a) (a1 : a < 4294967296) (b0 : 0 ≤ b) (b1 : b < 4294967296) : 0 ≤ a * b ∧ a * b ≤ 18446744065119617025 := by
 refine ⟨Int.mul_nonneg a0 b0, ?_⟩
 have h1 : a * b ≤ 4294967295 * b := Int.mul_le_mul_of_nonneg_right (by omega) b0
 omega
theorem rT {x n c : Int} (h0 : 0 ≤ x) (h1 : x < 18446744073709551616) (n0 : 0 ≤ n) (n1 : n < 18446744073709551616) (c0 : 0 ≤ c) (c1 : c < 18446744073709551616) :
  (x * n / 18446744073709551616 + (x * n % 18446744073709551616 + c) / 18446744073709551616) % 18446744073709551616 = (x * n + c) / 18446744073709551616 ∧ (x * n % 18446744073709551616 + c) % 18446744073709551616 = (x * n + c) % 18446744073709551616 ∧ 0 ≤ (x * n + c) / 18446744073709551616 ∧ (x * n + c) / 18446744073709551616 < 18446744073709551616 := by
 have hp : 0 ≤ x * n := Int.mul_nonneg h0 n0
 have hq : x * n ≤ 18446744073709551615 * n := Int.mul_le_mul_of_nonneg_right (by omega) n0
 have hq2 : (18446744073709551615 : Int) * n ≤ 18446744073709551615 * 18446744073709551615 := Int.mul_le_mul_of_nonneg_left (by omega) (by decide)
 have hb : x * n ≤ 340282366920938463426481119284349108225 := by
  refine Int.le_trans hq (Int.le_trans hq2 (by decide))
 generalize x * n = p at *
 omega
def p10 : Nat → Int
 | 0 => 1
 | k + 1 => p10 k * 10
theorem zM : ∀ k, 1 ≤ p10 k
 | 0 => by decide
 | k + 1 => by have := zM k; simp only [p10]; omega
def c3 (a b : Int) : Int := if a < b then -1 else if b < a then 1 else 0
def sv (w : aF) : Int := if w.neg = true then -val w else val w
def aI : List Int → Int
 | [] => 0
 | d :: l => d + 10 * aI l
def dY (l : List Int) : Prop := ∀ d ∈ l, 0 ≤ d ∧ d ≤ 9
def sI (l : List Int) : Prop := ∀ d, l.getLast? = some d → d ≠ 0
theorem dM : ∀ {l : List Int}, dY l → 0 ≤ aI l
 | [], _ => by simp [aI]
 | d :: l, h => by
  have h1 := h d (by simp)
  have h2 := dM (l := l) (fun x hx => h x (by simp [hx]))
  simp only [aI]; omega
theorem Mg : ∀ n, 0 < p10 n := fun n => by have := zM n; omega
theorem mM : ∀ {l : List Int}, dY l → aI l < p10 l.length
 | [], _ => by simp [aI, p10]
 | d :: l, h => by
  have h1 := h d (by simp)
  have h2 := mM (l := l) (fun x hx => h x (by simp [hx]))
  simp only [aI, List.length_cons, p10]; omega
theorem pM : ∀ {l : List Int}, dY l → sI l → l ≠ [] → p10 (l.length - 1) ≤ aI l
 | [], _, _, h => absurd rfl h
 | [d], h, ht, _ => by
  have h1 := h d (by simp)
  have h2 := ht d (by simp)
  simp [aI, p10]; omega
 | d :: e :: l, h, ht, _ => by
  have h1 := h d (by simp)
  have h2 := pM (l := e :: l) (fun x hx => h x (by simp [hx])) (fun x hx => ht x (by simpa using hx)) (by simp)
  simp only [List.length_cons] at h2 ⊢
  rw [show l.length + 1 + 1 - 1 = (l.length + 1 - 1) + 1 by omega]
  simp only [p10]
  rw [aI]
  omega
theorem mO {m n : Nat} (h : m ≤ n) : p10 m ≤ p10 n := by
 induction n with
 | zero =>
   have : m = 0 := by omega
   subst this; exact Int.le_refl _
 | succ n ih =>
  by_cases e : m = n + 1
  ·subst e; exact Int.le_refl _
  ·have h1 := ih (by omega)
   have h2 := Mg n
   simp only [p10]; omega
theorem gq : ∀ (l m : List Int), aI (l ++ m) = aI l + p10 l.length * aI m
 | [], m => by simp [aI, p10]
 | d :: l, m => by
  simp only [List.cons_append, aI, gq l m, List.length_cons, p10]
  rw [Int.mul_add, ← Int.mul_assoc, Int.mul_comm 10 (p10 l.length)]; omega
theorem tc (k : Nat) : aI (List.replicate k 0) = 0 := by
 induction k with
 | zero => rfl
 | succ k ih => simp [List.replicate_succ, aI, ih]
end Go.SX.Cal
namespace Go.Proofs.YtpmoopnkoknbeaaGreatDoor.Nm
open Go Go.SX Go.SX.Cal Go.Lib
theorem D2 (a : Int) : c3 a a = 0 := by unfold c3; rw [if_neg (by omega), if_neg (by omega)]
theorem FF {a b : List Int} (ha : dY a) (hb : dY b) (hl : a.length = b.length) (hbig : a.length < 1000000) : ∀ (k i : Nat), i ≤ a.length → i < k → aI (a.drop i) = aI (b.drop i) →
  ∃ r, iS a b k ((i : Int) - 1) = some r ∧ -9 ≤ r ∧ r ≤ 9 ∧ c3 r 0 = c3 (aI a) (aI b) := by
 intro k
 induction k with
 | zero => intro i h1 h2; omega
 | succ k ih =>
  intro i h1 h2 he
  rw [iS]
  cases i with
  | zero =>
   rw [show decide ((0 : Int) ≤ ((0 : Nat) : Int) - 1) = false from rfl, ah]
   simp only [List.drop_zero] at he
   exact ⟨0, rfl, by omega, by omega, by rw [he, D2, D2]⟩
  | succ i =>
   have hia : i < a.length := by omega
   have hib : i < b.length := by omega
   have e1 : ((i + 1 : Nat) : Int) - 1 = (i : Int) := by omega
   have aa : at? a (i : Int) = some a[i] := by unfold at?; simp [hia]
   have bb : at? b (i : Int) = some b[i] := by unfold at?; simp [hib]
   rw [e1, show decide ((0 : Int) ≤ (i : Int)) = true by simp, aw, aa, bb]
   simp only [ae]
   have da : a.drop i = a[i] :: a.drop (i + 1) := List.drop_eq_getElem_cons hia
   have db : b.drop i = b[i] :: b.drop (i + 1) := List.drop_eq_getElem_cons hib
   have ra := ha a[i] (List.getElem_mem hia)
   have rb := hb b[i] (List.getElem_mem hib)
   by_cases hne : a[i] = b[i]
   ·rw [show (a[i] != b[i]) = false by simp [hne], ah, fL (by omega) (by omega)]
    refine ih i (by omega) (by omega) ?_
    rw [da, db]; simp only [aI]; omega
   ·rw [show (a[i] != b[i]) = true by simp [hne], aw, fL (by omega) (by omega)]
    refine ⟨_, rfl, by omega, by omega, ?_⟩
    have va : aI a = aI (a.take i) + p10 i * aI (a.drop i) := by
     have := gq (a.take i) (a.drop i)
     rw [List.take_append_drop, List.length_take, Nat.min_eq_left (by omega)] at this
     exact this
    have vb : aI b = aI (b.take i) + p10 i * aI (b.drop i) := by
     have := gq (b.take i) (b.drop i)
     rw [List.take_append_drop, List.length_take, Nat.min_eq_left (by omega)] at this
     exact this
    have la := mM (l := a.take i) (fun x hx => ha x (List.mem_of_mem_take hx))
    have lb := mM (l := b.take i) (fun x hx => hb x (List.mem_of_mem_take hx))
    have na := dM (l := a.take i) (fun x hx => ha x (List.mem_of_mem_take hx))
    have nb := dM (l := b.take i) (fun x hx => hb x (List.mem_of_mem_take hx))
    rw [List.length_take, Nat.min_eq_left (by omega)] at la lb
    rw [da] at va; rw [db] at vb
    simp only [aI] at va vb
    have hp := Mg i
    have key : p10 i * (a[i] + 10 * aI (a.drop (i + 1))) - p10 i * (b[i] + 10 * aI (b.drop (i + 1))) = p10 i * (a[i] - b[i]) := by
     rw [← Int.mul_sub, he]; congr 1; omega
    unfold c3
    rcases Int.lt_or_gt_of_ne hne with hlt | hgt
    ·have : p10 i * (a[i] - b[i]) ≤ p10 i * (-1) := Int.mul_le_mul_of_nonneg_left (by omega) (by omega)
     rw [if_pos (by omega), if_pos (by omega)]
    ·have : p10 i * 1 ≤ p10 i * (a[i] - b[i]) := Int.mul_le_mul_of_nonneg_left (by omega) (by omega)
     rw [if_neg (by omega), if_pos (by omega), if_neg (by omega), if_pos (by omega)]
theorem Af {a b : List Int} (ha : dY a) (hb : dY b) (ta : sI a) (tb : sI b) (la : a.length < 1000) (lb : b.length < 1000) : ∃ r, pn a b = some r ∧ -1000 ≤ r ∧ r ≤ 1000 ∧ c3 r 0 = c3 (aI a) (aI b) := by
 unfold pn
 by_cases hl : a.length = b.length
 ·rw [show ((a.length : Int) != (b.length : Int)) = false by simp [hl], ah, fL (by omega) (by omega)]
  obtain ⟨r, h1, h2, h3, h4⟩ := FF ha hb hl (by omega) aW a.length (Nat.le_refl _) (by rw [aA]; omega) (by rw [List.drop_length, hl, List.drop_length])
  exact ⟨r, h1, by omega, by omega, h4⟩
 ·have hne : ((a.length : Int) != (b.length : Int)) = true := by simp; omega
  rw [hne, aw, fL (by omega) (by omega)]
  refine ⟨_, rfl, by omega, by omega, ?_⟩
  have l1 := mM ha
  have l2 := mM hb
  rcases Nat.lt_or_gt_of_ne hl with h | h
  ·have g := pM hb tb (by rintro rfl; simp at h)
   have := mO (show a.length ≤ b.length - 1 by omega)
   unfold c3; rw [if_pos (by omega), if_pos (by omega)]
  ·have g := pM ha ta (by rintro rfl; simp at h)
   have := mO (show b.length ≤ a.length - 1 by omega)
   unfold c3; rw [if_neg (by omega), if_pos (by omega), if_neg (by omega), if_pos (by omega)]
theorem rL : dY [] := fun _ h => by cases h
theorem wQ : sI [] := fun _ h => by cases h
theorem vw {l : List Int} {x : Int} (h : dY l) (h0 : 0 ≤ x) (h1 : x ≤ 9) : dY (l ++ [x]) := by
 intro d hd
 rcases List.mem_append.1 hd with hd | hd
 ·exact h d hd
 ·simp at hd; subst hd; exact ⟨h0, h1⟩
theorem zX {l : List Int} {x : Int} (h : dY (l ++ [x])) : dY l ∧ 0 ≤ x ∧ x ≤ 9 :=
 ⟨fun d hd => h d (List.mem_append.2 (.inl hd)), h x (by simp)⟩
theorem Cx {l : List Int} {x : Int} (h : x ≠ 0) : sI (l ++ [x]) := by
 intro d hd
 simp at hd
 subst hd; exact h
theorem yY {l : List Int} {x : Int} (h : dY l) (h0 : 0 ≤ x) (h1 : x ≤ 9) : dY (x :: l) := by
 intro d hd
 rcases List.mem_cons.1 hd with rfl | hd
 ·exact ⟨h0, h1⟩
 ·exact h d hd
theorem HL (b : Bool) : ∀ (k : Nat) (d : List Int), d.length < k → d.length < 1000000 → dY d →
  ∃ d', gr b k d = some ⟨b && decide (0 < d'.length), d'⟩ ∧ dY d' ∧ sI d' ∧ aI d' = aI d ∧ d'.length ≤ d.length := by
 intro k
 induction k with
 | zero => intro d h; omega
 | succ k ih =>
  intro d hk hl hd
  rw [gr]
  have fin : ∀ x : List Int, kT (gr b k) b x false = some ⟨b && decide (0 < x.length), x⟩ := by
   intro x
   unfold kT q9 oN
   cases b <;> simp [aM]
  rcases List.eq_nil_or_concat d with rfl | ⟨l, x, rfl⟩
  ·rw [show decide ((0 : Int) < (([] : List Int).length : Int)) = false from rfl, ah, fin]
   exact ⟨[], rfl, rL, wQ, rfl, Nat.le_refl _⟩
  ·rw [List.concat_eq_append] at *
   have hlen : (l ++ [x]).length = l.length + 1 := by simp
   have e1 : IntKind.i64.wrap (((l ++ [x]).length : Int) - 1) = (l.length : Int) := by rw [hlen, fL (by omega) (by omega)]; omega
   have e2 : at? (l ++ [x]) (l.length : Int) = some x := by unfold at?; simp
   obtain ⟨dl, x0, x9⟩ := zX hd
   rw [show decide ((0 : Int) < ((l ++ [x]).length : Int)) = true by simp, aw, e1, e2, au]
   by_cases hx : x = 0
   ·subst hx
    rw [show ((0 : Int) == 0) = true from rfl]
    unfold kT
    rw [aw, e1]
    unfold bI
    rw [if_pos (by omega)]
    have e3 : ((l ++ [(0 : Int)]).drop (0 : Int).toNat).take ((l.length : Int).toNat - (0 : Int).toNat) = l := by simp
    rw [e3]
    obtain ⟨d', h1, h2, h3, h4, h5⟩ := ih l (by omega) (by omega) dl
    refine ⟨d', h1, h2, h3, ?_, by omega⟩
    rw [h4, gq]; simp [aI]
   ·rw [show (x == 0) = false by simp [hx], fin]
    exact ⟨_, rfl, hd, Cx hx, rfl, Nat.le_refl _⟩
theorem qw (b : Bool) (d : List Int) (hl : d.length < 1000000) (hd : dY d) :
  ∃ d', m6 b d = some ⟨b && decide (0 < d'.length), d'⟩ ∧ dY d' ∧ sI d' ∧ aI d' = aI d ∧ d'.length ≤ d.length := by
 unfold m6
 exact HL b aW d (by rw [aA]; omega) hl hd
def jx (a : List Int) (i : Nat) : Int := a.getD i 0
theorem tF {a : List Int} {i : Nat} (h : i < a.length) : a[i] = jx a i := by simp [jx, h]
theorem pO {a : List Int} {i : Nat} (h : a.length ≤ i) : jx a i = 0 := by simp [jx, h]
theorem kO {a : List Int} (ha : dY a) (i : Nat) : 0 ≤ jx a i ∧ jx a i ≤ 9 := by
 by_cases h : i < a.length
 ·rw [← tF h]; exact ha _ (List.getElem_mem h)
 ·rw [pO (by omega)]; omega
theorem Ec {a : List Int} (ta : sI a) {i : Nat} (h : i + 1 = a.length) : jx a i ≠ 0 := by
 have hi : i < a.length := by omega
 rw [← tF hi]
 refine ta _ ?_
 rw [List.getLast?_eq_getElem?, show a.length - 1 = i by omega, List.getElem?_eq_getElem hi]
theorem pj (a : List Int) (i : Nat) : aI (a.take (i + 1)) = aI (a.take i) + p10 i * jx a i := by
 by_cases h : i < a.length
 ·rw [List.take_succ_eq_append_getElem h, gq, List.length_take, Nat.min_eq_left (by omega), tF h]
  simp [aI]
 ·rw [pO (by omega), List.take_of_length_le (by omega), List.take_of_length_le (by omega)]; simp
theorem Km {n : Int} (h0 : 0 ≤ n) : n.tdiv 10 = n / 10 := Int.tdiv_eq_ediv_of_nonneg h0
theorem Kv {n : Int} (h0 : 0 ≤ n) : n.tmod 10 = n % 10 := Int.tmod_eq_emod_of_nonneg h0
theorem FT {a b : List Int} (ha : dY a) (hb : dY b) (la : a.length < 1000000) (lb : b.length < 1000000) (k i : Nat) (l : List Int) (c : Int) (hl : l.length = i) (hi : i < 1000002) (c0 : 0 ≤ c) (c1 : c ≤ 1)
  (hc : i < a.length ∨ i < b.length ∨ 0 < c) :
  bF a b (k + 1) l c (i : Int) = bF a b k (l ++ [(c + jx a i + jx b i) % 10]) ((c + jx a i + jx b i) / 10) ((i + 1 : Nat) : Int) := by
 obtain ⟨a0, a9⟩ := kO ha i
 obtain ⟨b0, b9⟩ := kO hb i
 have j3 : ∀ n : Int, n = c + jx a i + jx b i → lq (bF a b k) l (i : Int) n = bF a b k (l ++ [(c + jx a i + jx b i) % 10]) ((c + jx a i + jx b i) / 10) ((i + 1 : Nat) : Int) := by
  rintro n rfl
  unfold lq bI
  rw [if_pos (by omega), Km (by omega), Kv (by omega), fL (x := (c + jx a i + jx b i) / 10) (by omega) (by omega), fL (by omega) (by omega), show (i : Int) + 1 = ((i + 1 : Nat) : Int) by omega]
 have j2 : lA (bF a b k) b l (i : Int) (c + jx a i) = bF a b k (l ++ [(c + jx a i + jx b i) % 10]) ((c + jx a i + jx b i) / 10) ((i + 1 : Nat) : Int) := by
  unfold lA
  by_cases h : i < b.length
  ·rw [gC h, aw, cf h, au, tF h, fL (by omega) (by omega)]
   exact j3 _ rfl
  ·rw [show decide ((i : Int) < (b.length : Int)) = false by simp; omega, ah]
   exact j3 _ (by rw [pO (a := b) (by omega)]; omega)
 have j1 : jY (bF a b k) a b l c (i : Int) true = bF a b k (l ++ [(c + jx a i + jx b i) % 10]) ((c + jx a i + jx b i) / 10) ((i + 1 : Nat) : Int) := by
  unfold jY
  rw [aw]
  by_cases h : i < a.length
  ·rw [gC h, aw, cf h, au, tF h, fL (by omega) (by omega)]
   exact j2
  ·rw [show decide ((i : Int) < (a.length : Int)) = false by simp; omega, ah]
   have e : c + jx a i = c := by rw [pO (by omega)]; omega
   rw [e] at j2 ⊢
   exact j2
 rw [bF]
 by_cases h : i < a.length
 ·rw [gC h, aw]; exact j1
 ·rw [show decide ((i : Int) < (a.length : Int)) = false by simp; omega, ah]
  by_cases h' : i < b.length
  ·rw [gC h', aw]; exact j1
  ·rw [show decide ((i : Int) < (b.length : Int)) = false by simp; omega, ah, show decide ((0 : Int) < c) = true by simp; omega]; exact j1
theorem E6 {a b : List Int} (ha : dY a) (hb : dY b) (ta : sI a) (tb : sI b) (la : a.length < 1000) (lb : b.length < 1000) : ∀ (k i : Nat) (l : List Int) (c : Int),
  l.length = i → dY l → 0 ≤ c → c ≤ 1 → i ≤ max a.length b.length + 1 → (i = max a.length b.length + 1 → c = 0) → max a.length b.length + 1 - i < k →
  aI l + p10 i * c = aI (a.take i) + aI (b.take i) → (i < a.length ∨ i < b.length ∨ 0 < c ∨ sI l) →
  ∃ r, bF a b k l c (i : Int) = some r ∧ dY r ∧ sI r ∧ aI r = aI a + aI b ∧ r.length ≤ max a.length b.length + 1 := by
 intro k
 induction k with
 | zero => intro i l c _ _ _ _ _ _ h; omega
 | succ k ih =>
  intro i l c hl dl c0 c1 hi hlast hk hv ht
  by_cases hc : i < a.length ∨ i < b.length ∨ 0 < c
  ·rw [FT ha hb (by omega) (by omega) k i l c hl (by omega) c0 c1 hc]
   obtain ⟨a0, a9⟩ := kO ha i
   obtain ⟨b0, b9⟩ := kO hb i
   have hi' : i ≤ max a.length b.length := by
    by_cases e : i = max a.length b.length + 1
    ·have := hlast e; omega
    ·omega
   refine ih (i + 1) _ _ (by simp [hl]) (vw dl (by omega) (by omega)) (by omega) (by omega) (by omega) (fun e => ?_) (by omega) ?_ ?_
   ·have e1 : jx a i = 0 := pO (by omega)
    have e2 : jx b i = 0 := pO (by omega)
    omega
   ·rw [pj, pj, gq, hl]
    simp only [aI, p10]
    have e : p10 i * ((c + jx a i + jx b i) % 10 + 10 * 0) + p10 i * 10 * ((c + jx a i + jx b i) / 10) = p10 i * (c + jx a i + jx b i) := by
     rw [Int.mul_assoc, ← Int.mul_add]; congr 1; omega
    have e2 : p10 i * (c + jx a i + jx b i) = p10 i * c + p10 i * jx a i + p10 i * jx b i := by rw [Int.mul_add, Int.mul_add]
    omega
   ·by_cases h1 : i + 1 < a.length ∨ i + 1 < b.length ∨ 0 < (c + jx a i + jx b i) / 10
    ·rcases h1 with h1 | h1 | h1
     ·exact .inl h1
     ·exact .inr (.inl h1)
     ·exact .inr (.inr (.inl h1))
    ·refine .inr (.inr (.inr (Cx ?_)))
     rcases hc with hc | hc | hc
     ·have := Ec ta (i := i) (by omega); omega
     ·have := Ec tb (i := i) (by omega); omega
     ·omega
  ·have hc0 : c = 0 := by omega
   subst hc0
   rw [bF, show decide ((i : Int) < (a.length : Int)) = false by simp; omega, show decide ((i : Int) < (b.length : Int)) = false by simp; omega, ah, ah]
   refine ⟨l, rfl, dl, ?_, ?_, by omega⟩
   ·rcases ht with h | h | h | h
    ·omega
    ·omega
    ·omega
    ·exact h
   ·rw [List.take_of_length_le (by omega), List.take_of_length_le (by omega)] at hv
    simpa using hv
theorem D0 {a b : List Int} (ha : dY a) (hb : dY b) (ta : sI a) (tb : sI b) (la : a.length < 1000) (lb : b.length < 1000) :
  ∃ r, pE a b = some r ∧ dY r ∧ sI r ∧ aI r = aI a + aI b ∧ r.length ≤ max a.length b.length + 1 := by
 unfold pE
 exact E6 ha hb ta tb la lb aW 0 [] 0 rfl rL (by omega) (by omega) (by omega) (fun _ => rfl) (by rw [aA]; omega) (by simp [aI]) (.inr (.inr (.inr wQ)))
end Go.Proofs.YtpmoopnkoknbeaaGreatDoor.Nm
