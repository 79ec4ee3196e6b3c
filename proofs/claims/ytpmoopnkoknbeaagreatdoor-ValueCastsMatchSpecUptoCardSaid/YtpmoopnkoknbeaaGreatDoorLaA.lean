/- The calendar, in plain integers. Names, in plain terms. The fields of a type, in plain terms. The check of types and the common type, in plain terms. Texts and sound values, in plain terms. Values of a type, in plain terms; the law of Sound and Check. What the clocks of the program compute. The zones' clocks. The clocks lead back. What the reference computes for civil time. The law 'ValueTimeMatchesSpec', in plain terms. The text of a value, as a list of bytes; numbers and moments. The texts of values: both make T. The texts of values: show and text make T of all sound values. The texts of values: Text. The reader's steps. The reader is defined on all texts. The reader is defined on all texts: values. The reader reads the texts of values: leaves. The reader reads the texts of values. The reference's reader: its parts. The reference's reader: texts in quotes, decimals, moments. The reference's reader: leaves. The reference's reader reads the texts of leaves. The reference's reader: it is defined on all texts, and reads the texts of values. Parse on both sides, and the two laws of texts. Sizes of arguments. What needs no program: searches, bytes, sizes, words, digits. The reference's integers: their digits. -/
import Derived.Lib.ValidU
import Derived.Test.YtpmoopnkoknbeaaGreatDoorGeB
set_option linter.unusedVariables false
set_option linter.unusedSimpArgs false
set_option linter.unnecessarySimpa false
namespace Go.SX.Cal
open Go
theorem fJ {x : Int} (h1 : -9223372036854775808 ≤ x) (h2 : x ≤ 9223372036854775807) : IntKind.i64.wrap x = x := by
 simp only [IntKind.wrap, IntKind.bits, IntKind.signed]
 simp only [Bool.true_and, decide_eq_true_eq, ge_iff_le]
 split <;> omega
def S (y : Int) : Int := 365 * y + y / 4 - y / 100
def F (r : Int) : Int := r - r / 1460 + r / 36524
def yr (r : Int) : Int := (r - r / 1460 + r / 36524 - r / 146096) / 365
theorem LN : ((List.range 400).all fun y => decide (F (S (y : Int)) / 365 = y ∧ F (S ((y : Int) + 1) - 1) / 365 = y)) = true := by decide +kernel
theorem BT {y : Int} (h0 : 0 ≤ y) (h1 : y ≤ 399) : F (S y) / 365 = y ∧ F (S (y + 1) - 1) / 365 = y := by
 have := List.all_eq_true.1 LN y.toNat (List.mem_range.2 (by omega))
 have h := of_decide_eq_true this
 rw [Int.toNat_of_nonneg h0] at h
 exact h
theorem GB {r s : Int} (h : r ≤ s) : F r ≤ F s := by unfold F; omega
theorem tJ {r : Int} (h0 : 0 ≤ r) (h1 : r ≤ 146096) : 0 ≤ yr r ∧ yr r ≤ 399 := by unfold yr; omega
theorem Ln {r : Int} (h0 : 0 ≤ r) (h1 : r ≤ 146095) : yr r = F r / 365 := by
 unfold yr F
 have : r / 146096 = 0 := by omega
 rw [this, Int.sub_zero]
def pS (y : Int) : Prop := y % 4 = 0 ∧ (y % 100 ≠ 0 ∨ y % 400 = 0)
instance (y : Int) : Decidable (pS y) := by unfold pS; infer_instance
theorem Jr {r : Int} (h0 : 0 ≤ r) (h1 : r ≤ 146096) : S (yr r) ≤ r ∧ r ≤ S (yr r) + 365 ∧ (r = S (yr r) + 365 → pS (yr r + 1)) := by
 obtain ⟨b0, b1⟩ := tJ h0 h1
 by_cases hr : r = 146096
 ·subst hr; decide +kernel
 have h2 : r ≤ 146095 := by omega
 have e := Ln h0 h2
 generalize yr r = y at *
 have lo : S y ≤ r := by
  apply Classical.byContradiction
  intro hn
  have hy : 1 ≤ y := by
   apply Classical.byContradiction
   intro hy
   have : y = 0 := by omega
   subst this
   simp [S] at hn
   omega
  have t := (BT (y := y - 1) (by omega) (by omega)).2
  rw [show y - 1 + 1 = y by omega] at t
  have := GB (show r ≤ S y - 1 by omega)
  have : F r / 365 ≤ y - 1 := by rw [← t]; exact Int.ediv_le_ediv (by decide) this
  omega
 have hi : r < S (y + 1) ∨ y = 399 := by
  by_cases hy : y = 399
  ·exact .inr hy
  left
  apply Classical.byContradiction
  intro hn
  have t := (BT (y := y + 1) (by omega) (by omega)).1
  have := GB (show S (y + 1) ≤ r by omega)
  have : y + 1 ≤ F r / 365 := by rw [← t]; exact Int.ediv_le_ediv (by decide) this
  omega
 refine ⟨lo, ?_, fun he => ?_⟩
 ·rcases hi with hi | rfl
  ·unfold S at *; omega
  ·simp [S] at *; omega
 ·rcases hi with hi | rfl
  ·unfold S at *
   have h4 : (y + 1) / 4 = y / 4 + 1 ∧ (y + 1) / 100 = y / 100 := by omega
   exact ⟨by omega, .inl (by omega)⟩
  ·simp [S] at *; omega
def jU (m : Int) : Int := (153 * m + 2) / 5
def days (y m d : Int) : Int :=
 if m ≤ 2 then (y - 1) / 400 * 146097 + S ((y - 1) % 400) + jU (m + 9) + d - 1 - 719468 else y / 400 * 146097 + S (y % 400) + jU (m - 3) + d - 1 - 719468
def ww (y m : Int) : Int := if m = 2 then (if pS y then 29 else 28) else if m = 4 ∨ m = 6 ∨ m = 9 ∨ m = 11 then 30 else 31
def date (n : Int) : Int × Int × Int :=
 let era := (n + 719468) / 146097
 let r := (n + 719468) % 146097
 let y := yr r
 let k := r - S y
 let m := (5 * k + 2) / 153
 let d := k - jU m + 1
 if m + 3 > 12 then (era * 400 + y + 1, m + 3 - 12, d) else (era * 400 + y, m + 3, d)
theorem AE (n : Int) : days (date n).1 (date n).2.1 (date n).2.2 = n ∧ 1 ≤ (date n).2.1 ∧ (date n).2.1 ≤ 12 ∧ 1 ≤ (date n).2.2 ∧ (date n).2.2 ≤ ww (date n).1 (date n).2.1 := by
 simp only [date]
 have hr0 : 0 ≤ (n + 719468) % 146097 := by omega
 have hr1 : (n + 719468) % 146097 ≤ 146096 := by omega
 have hn : n + 719468 = (n + 719468) / 146097 * 146097 + (n + 719468) % 146097 := by omega
 generalize (n + 719468) % 146097 = r at *
 generalize (n + 719468) / 146097 = era at *
 obtain ⟨b0, b1⟩ := tJ hr0 hr1
 obtain ⟨s0, s1, s2⟩ := Jr hr0 hr1
 generalize yr r = y at *
 have hk0 : 0 ≤ r - S y := by omega
 have hk1 : r - S y ≤ 365 := by omega
 have hk2 : r - S y = 365 → pS (y + 1) := fun h => s2 (by omega)
 have hrk : r = S y + (r - S y) := by omega
 generalize r - S y = k at *
 subst hrk
 have hm0 : 0 ≤ (5 * k + 2) / 153 := by omega
 have hm1 : (5 * k + 2) / 153 ≤ 11 := by omega
 have hd : 1 ≤ k - jU ((5 * k + 2) / 153) + 1 := by unfold jU; omega
 have hd2 : k ≤ jU ((5 * k + 2) / 153 + 1) - 1 := by unfold jU; omega
 generalize hm : (5 * k + 2) / 153 = m at *
 by_cases hc : m + 3 > 12
 ·simp only [hc, if_true]
  have e1 : (era * 400 + y + 1 - 1) / 400 = era := by omega
  have e2 : (era * 400 + y + 1 - 1) % 400 = y := by omega
  refine ⟨?_, by omega, by omega, hd, ?_⟩
  ·unfold days
   rw [if_pos (by omega), e1, e2, show m + 3 - 12 + 9 = m by omega]
   omega
  ·unfold ww
   have hcase : m = 10 ∨ m = 11 := by omega
   rcases hcase with rfl | rfl
   ·simp [jU] at *; omega
   ·have hL : pS (era * 400 + y + 1) ↔ pS (y + 1) := by unfold pS; omega
    simp only [show (11 : Int) + 3 - 12 = 2 by rfl, if_true]
    by_cases hl : pS (y + 1)
    ·rw [if_pos (hL.2 hl)]; simp [jU] at *; omega
    ·rw [if_neg (fun h => hl (hL.1 h))]
     have : k ≠ 365 := fun h => hl (hk2 h)
     simp [jU] at *; omega
 ·simp only [hc, if_false]
  have e1 : (era * 400 + y) / 400 = era := by omega
  have e2 : (era * 400 + y) % 400 = y := by omega
  refine ⟨?_, by omega, by omega, hd, ?_⟩
  ·unfold days
   rw [if_neg (by omega), e1, e2, show m + 3 - 3 = m by omega]
   omega
  ·unfold ww
   rw [if_neg (by omega)]
   have hcase : m = 0 ∨ m = 1 ∨ m = 2 ∨ m = 3 ∨ m = 4 ∨ m = 5 ∨ m = 6 ∨ m = 7 ∨ m = 8 ∨ m = 9 := by omega
   rcases hcase with rfl | rfl | rfl | rfl | rfl | rfl | rfl | rfl | rfl | rfl <;> simp [jU] at * <;> omega
def E (y : Int) : Int := y / 400 * 146097 + S (y % 400) - 719468
theorem J3 {y : Int} (h : pS (y + 1)) : E (y + 1) = E y + 366 := by
 unfold E S; unfold pS at h
 by_cases h4 : (y + 1) % 400 = 0
 ·have a1 : (y + 1) / 400 = y / 400 + 1 := by omega
  have a2 : y % 400 = 399 := by omega
  rw [a1, h4, a2]; omega
 ·have a1 : (y + 1) / 400 = y / 400 := by omega
  have a2 : (y + 1) % 400 = y % 400 + 1 := by omega
  rw [a1, a2]
  have hq : 0 ≤ y % 400 ∧ y % 400 ≤ 398 := by omega
  have h5 : (y % 400 + 1) % 4 = 0 := by omega
  have h6 : (y % 400 + 1) % 100 ≠ 0 := by omega
  generalize y % 400 = q at *
  have : (q + 1) / 4 = q / 4 + 1 := by omega
  have : (q + 1) / 100 = q / 100 := by omega
  omega
theorem LB {y : Int} (h : ¬ pS (y + 1)) : E (y + 1) = E y + 365 := by
 unfold E S; unfold pS at h
 have h4 : (y + 1) % 400 ≠ 0 := by omega
 have a1 : (y + 1) / 400 = y / 400 := by omega
 have a2 : (y + 1) % 400 = y % 400 + 1 := by omega
 rw [a1, a2]
 have hq : 0 ≤ y % 400 ∧ y % 400 ≤ 398 := by omega
 have h5 : (y % 400 + 1) % 4 ≠ 0 ∨ (y % 400 + 1) % 100 = 0 := by omega
 generalize y % 400 = q at *
 by_cases h7 : (q + 1) % 100 = 0
 ·have : (q + 1) / 4 = q / 4 + 1 := by omega
  have : (q + 1) / 100 = q / 100 + 1 := by omega
  omega
 ·have : (q + 1) / 4 = q / 4 := by omega
  have : (q + 1) / 100 = q / 100 := by omega
  omega
theorem qY (y m d : Int) : days y m d = if m ≤ 2 then E (y - 1) + jU (m + 9) + d - 1 else E y + jU (m - 3) + d - 1 := by
 unfold days E; split <;> omega
theorem zN (y : Int) : (pS (y + 1) ∧ E (y + 1) = E y + 366) ∨ (¬ pS (y + 1) ∧ E (y + 1) = E y + 365) := by
 by_cases h : pS (y + 1)
 ·exact .inl ⟨h, J3 h⟩
 ·exact .inr ⟨h, LB h⟩
theorem nM (y : Int) : days y 1 1 = E (y - 1) + 306 := by
 rw [qY, if_pos (by decide)]; simp [jU]
theorem Ii (y m d : Int) (h0 : 1 ≤ m) (h1 : m ≤ 12) (h2 : 1 ≤ d) (h3 : d ≤ ww y m) : days y 1 1 ≤ days y m 1 ∧ days y m d = days y m 1 + d - 1 ∧ days y m d < days (y + 1) 1 1 := by
 rw [nM, nM, qY, qY, show y + 1 - 1 = y by omega]
 have hE := zN (y - 1)
 rw [show y - 1 + 1 = y by omega] at hE
 unfold ww at h3
 have hc : m = 1 ∨ m = 2 ∨ m = 3 ∨ m = 4 ∨ m = 5 ∨ m = 6 ∨ m = 7 ∨ m = 8 ∨ m = 9 ∨ m = 10 ∨ m = 11 ∨ m = 12 := by omega
 rcases hE with ⟨hl, hE⟩ | ⟨hl, hE⟩ <;> simp only [hl, if_true, if_false] at h3 <;> rcases hc with rfl | rfl | rfl | rfl | rfl | rfl | rfl | rfl | rfl | rfl | rfl | rfl <;> simp [jU] at * <;> omega
theorem vo (y : Int) : days y 1 1 + 365 ≤ days (y + 1) 1 1 ∧ days (y + 1) 1 1 ≤ days y 1 1 + 366 := by
 rw [nM, nM, show y + 1 - 1 = y by omega]
 have hE := zN (y - 1)
 rw [show y - 1 + 1 = y by omega] at hE
 omega
theorem yg (y : Int) (k : Nat) : days y 1 1 + 365 * k ≤ days (y + k) 1 1 := by
 induction k with
 | zero => simp
 | succ k ih =>
  have := (vo (y + k)).1
  rw [show y + ((k + 1 : Nat) : Int) = y + k + 1 by omega]
  omega
theorem kE {y z : Int} (h : y ≤ z) : days y 1 1 + 365 * (z - y) ≤ days z 1 1 := by
 have := yg y (z - y).toNat
 rw [show y + ((z - y).toNat : Int) = z by omega] at this
 omega
theorem qQ {n y : Int} : (date n).1 = y ↔ days y 1 1 ≤ n ∧ n < days (y + 1) 1 1 := by
 obtain ⟨h1, h2, h3, h4, h5⟩ := AE n
 obtain ⟨a1, a2, a3⟩ := Ii _ _ _ h2 h3 h4 h5
 rw [h1] at a2 a3
 constructor
 ·rintro rfl
  exact ⟨by omega, a3⟩
 ·rintro ⟨b1, b2⟩
  apply Classical.byContradiction
  intro hn
  rcases Int.lt_or_gt_of_ne hn with hlt | hgt
  ·have := kE (show (date n).1 + 1 ≤ y by omega)
   omega
  ·have := kE (show y + 1 ≤ (date n).1 by omega)
   omega
end Go.SX.Cal
namespace Go.Proofs.YtpmoopnkoknbeaaGreatDoor
open Go Go.SX Go.SX.Cal
theorem aw {β : Type} (x y : Option β) : ax true x y = x := rfl
theorem ah {β : Type} (x y : Option β) : ax false x y = y := rfl
theorem aM {β : Type} (b : Bool) (x y : Option β) : ax b x y = if b = true then x else y := by cases b <;> rfl
theorem aF : ba = 1152921504606846976 := rfl
def first (P : Nat → Bool) (i n : Nat) : Option Nat := (List.range' i (n - i)).find? P
theorem jf {P : Nat → Bool} {i n : Nat} (h : i < n) : first P i n = if P i = true then some i else first P (i + 1) n := by
 unfold first
 rw [show n - i = (n - (i + 1)) + 1 by omega, List.range'_succ, List.find?_cons]
 cases hp : P i <;> simp [hp]
theorem kL {P : Nat → Bool} {n : Nat} : first P n n = none := by simp [first]
theorem kC {P : Nat → Bool} {i n : Nat} : first P i n = none ↔ ∀ j, i ≤ j → j < n → P j = false := by
 unfold first
 rw [List.find?_eq_none]
 constructor
 ·intro h j h1 h2
  have := h j (by rw [List.mem_range'_1]; omega)
  simpa using this
 ·intro h j hj
  rw [List.mem_range'_1] at hj
  have := h j (by omega) (by omega)
  simp [this]
theorem lW {β : Type} {f : Nat → Nat → Option β} {n : Nat} {P : Nat → Bool} {A : Nat → Option β} {B : Option β} (hstep : ∀ k i, i < n → f (k + 1) i = if P i = true then A i else f k (i + 1)) (hend : ∀ k, f (k + 1) n = B) :
  ∀ k i, i ≤ n → n - i < k → f k i = (first P i n).elim B A := by
 intro k
 induction k with
 | zero => intro i _ h; omega
 | succ k ih =>
  intro i hi hk
  by_cases h : i = n
  ·subst h
   rw [hend, kL]; rfl
  ·rw [hstep k i (by omega), jf (by omega)]
   by_cases hp : P i = true
   ·simp [hp]
   ·simp only [hp, if_false]
    exact ih (i + 1) (by omega) (by omega)
def iB (s : ByteArray) (i : Nat) : Nat := (s.data.toList.getD i 0).toNat
theorem m6 (s : ByteArray) (i : Nat) (h : i < s.size) : (s.get! i).toNat = iB s i := by
 unfold iB
 have h' : i < s.data.size := h
 have : s.get! i = s.data.toList.getD i 0 := by
  simp only [ByteArray.get!, List.getD, Array.getElem?_toList]
  rw [getElem!_pos s.data i h', Array.getElem?_eq_getElem h']; rfl
 rw [this]
def oq (b : Nat) : Bool := decide (97 ≤ b) && decide (b ≤ 122)
def other (b : Nat) : Bool := b == 95 || (decide (48 ≤ b) && decide (b ≤ 57))
def zC (b : Nat) : Bool := oq b || other b
theorem Gn (n : Nat) : m8 (Int.ofNat n) = some (!zC n) := by
 unfold m8 dP
 simp only [aM, decide_eq_true_eq, Int.ofNat_eq_natCast]
 repeat' split
 all_goals (rw [Option.some.injEq, Bool.eq_iff_iff]; simp [zC, oq, other]; omega)
theorem uI (s : ByteArray) (i : Nat) (h : i < s.size) (hb : iB s i < 128) : Utf8.decode s i = (iB s i, 1) := by
 have e := m6 s i h
 unfold Utf8.decode
 simp [e, hb]
theorem uK (s : ByteArray) (i : Nat) (h : i < s.size) (hb : ¬ iB s i < 128) : 128 ≤ (Utf8.decode s i).1 := by
 have e := m6 s i h
 unfold Utf8.decode
 simp only [Nat.add_zero, e, if_neg hb, Utf8.runeError]
 repeat' split
 all_goals simp_all
 all_goals omega
def bad (s : ByteArray) (i : Nat) : Bool := !zC (iB s i)
theorem Ad (s : ByteArray) : ∀ k i, i ≤ s.size → s.size - i < k → ∃ r, aZ s true k i = some r ∧ (decide (0 ≤ r) = (first (bad s) i s.size).isSome) := by
 intro k
 induction k with
 | zero => intro i _ h; omega
 | succ k ih =>
  intro i hi hk
  rw [aZ]
  by_cases h : i = s.size
  ·subst h
   rw [kL]
   simp only [Nat.lt_irrefl, decide_false, ah]
   exact ⟨-1, rfl, rfl⟩
  ·have hlt : i < s.size := by omega
   simp only [hlt, decide_true, aw, Gn, ae]
   rw [jf hlt]
   by_cases hb : iB s i < 128
   ·rw [uI s i hlt hb]
    simp only [bad]
    by_cases hg : zC (iB s i) = true
    ·simp only [hg, Bool.not_true, aM]
     obtain ⟨r, h1, h2⟩ := ih (i + 1) (by omega) (by omega)
     exact ⟨r, by simpa using h1, by simpa [bad] using h2⟩
    ·simp only [hg, Bool.not_false, aM]
     exact ⟨_, rfl, by simp⟩
   ·have h1 := uK s i hlt hb
    have g1 : zC (Utf8.decode s i).1 = false := by
     generalize (Utf8.decode s i).1 = x at h1
     simp [zC, oq, other]; omega
    have g2 : bad s i = true := by
     simp [bad, zC, oq, other]; omega
    simp only [g1, g2, Bool.not_false, aM]
    exact ⟨_, rfl, by simp⟩
def nX (s : ByteArray) : Bool := decide (1 ≤ s.size) && decide (s.size ≤ 24) && oq (iB s 0) && (first (bad s) 0 s.size).isNone
theorem lY (s : ByteArray) : (s.toList == (ByteArray.mk #[]).toList) = decide (s.size = 0) := by
 rw [ByteArray.toList_eq, ByteArray.toList_eq, Bool.eq_iff_iff]
 show (s.data.toList == []) = true ↔ decide (s.data.size = 0) = true
 rw [← Array.length_toList]
 cases s.data.toList <;> simp
theorem Lm (s : ByteArray) (hs : s.size < 1000000000) : pr s = some (nX s) := by
 obtain ⟨r, h1, h2⟩ := Ad s ba 0 (Nat.zero_le _) (by rw [aF]; omega)
 unfold pr iW dy d9 dZ
 rw [h1, lY]
 simp only [ae, h2, aM]
 by_cases z0 : s.size = 0
 ·simp [z0, nX]
 ·by_cases z1 : 24 < s.size
  ·have : ¬ s.size ≤ 24 := by omega
   simp [z0, z1, nX, this, show (24 : Int) < (s.size : Int) by omega]
  ·have hz : ¬ (24 : Int) < (s.size : Int) := by omega
   have hb : ((s.data.toList.getD (0 : Int).toNat 0).toNat : Int) = (iB s 0 : Int) := rfl
   simp only [z0, decide_false, hz, Bool.false_eq_true, if_false, hb]
   rw [dm (by omega), dm (by omega)]
   simp only [decide_eq_true_eq]
   have : s.size ≤ 24 := by omega
   by_cases q1 : iB s 0 < 97
   ·have : ¬ 97 ≤ iB s 0 := by omega
    simp [show (iB s 0 : Int) < 97 by omega, nX, oq, this]
   ·by_cases q2 : 122 < iB s 0
    ·have : ¬ iB s 0 ≤ 122 := by omega
     simp [show ¬ (iB s 0 : Int) < 97 by omega, show (122 : Int) < (iB s 0 : Int) by omega, nX, oq, this]
    ·simp [show ¬ (iB s 0 : Int) < 97 by omega, show ¬ (122 : Int) < (iB s 0 : Int) by omega, nX, oq, show 1 ≤ s.size by omega, this, show 97 ≤ iB s 0 by omega, show iB s 0 ≤ 122 by omega]
def yi (s : ByteArray) (i : Nat) : Bool := !oq (iB s i) && (i == 0 || !other (iB s i))
theorem Ci (s : ByteArray) (hs : s.size < 1000000000) (k i : Nat) (hi : i < s.size) : cy s (k + 1) (i : Int) = if yi s i = true then some false else cy s k ((i + 1 : Nat) : Int) := by
 rw [cy, ← aM]
 have hb : ((s.data.toList.getD (i : Int).toNat 0).toNat : Int) = (iB s i : Int) := rfl
 have hw : IntKind.i64.wrap ((i : Int) + 1) = ((i + 1 : Nat) : Int) := by rw [fJ (by omega) (by omega)]; omega
 have hg : 0 ≤ (i : Int) ∧ (i : Int) < (s.size : Int) := by omega
 rw [show decide ((i : Int) < (s.size : Int)) = true by simp [hg.2], aw]
 simp only [nh, kQ, kP, hb, hw, ae, dm hg]
 have e1 : ((iB s i : Int) == 95) = (iB s i == 95) := by rw [Bool.eq_iff_iff]; simp; omega
 have e2 : (decide ((97 : Int) ≤ iB s i)) = decide (97 ≤ iB s i) := by rw [Bool.eq_iff_iff]; simp; omega
 have e3 : (decide ((iB s i : Int) ≤ 122)) = decide (iB s i ≤ 122) := by rw [Bool.eq_iff_iff]; simp; omega
 have e4 : (decide ((48 : Int) ≤ iB s i)) = decide (48 ≤ iB s i) := by rw [Bool.eq_iff_iff]; simp; omega
 have e5 : (decide ((iB s i : Int) ≤ 57)) = decide (iB s i ≤ 57) := by rw [Bool.eq_iff_iff]; simp; omega
 have e6 : ((i : Int) == 0) = (i == 0) := by rw [Bool.eq_iff_iff]; simp
 simp only [e1, e2, e3, e4, e5, e6, yi, oq, other]
 generalize hq : cy s k ((i + 1 : Nat) : Int) = q
 generalize (iB s i == 95) = b1
 generalize decide (97 ≤ iB s i) = b2
 generalize decide (iB s i ≤ 122) = b3
 generalize decide (48 ≤ iB s i) = b4
 generalize decide (iB s i ≤ 57) = b5
 generalize (i == 0) = b6
 cases b1 <;> cases b2 <;> cases b3 <;> cases b4 <;> cases b5 <;> cases b6 <;> rfl
theorem L5 (s : ByteArray) (hs : s.size < 1000000000) : rV s = some (nX s) := by
 have hl := lW (f := fun k i => cy s k (i : Int)) (n := s.size) (P := yi s) (A := fun _ => some false) (B := some true) (fun k i hi => Ci s hs k i hi)
  (fun k => by rw [cy]; simp only [Int.lt_irrefl, decide_false, ah]; rfl) ba 0 (Nat.zero_le _) (by rw [aF]; omega)
 have hl : cy s ba (0 : Int) = _ := hl
 unfold rV nw
 rw [hl]
 simp only [aM]
 by_cases z0 : s.size = 0
 ·simp [z0, nX]
 ·by_cases z1 : 24 < s.size
  ·have : ¬ s.size ≤ 24 := by omega
   simp [z0, z1, nX, this, show (24 : Int) < (s.size : Int) by omega]
  ·have hz : ¬ (24 : Int) < (s.size : Int) := by omega
   have hz2 : ¬ (s.size : Int) < 1 := by omega
   simp only [hz, hz2, decide_false, Bool.false_eq_true, if_false]
   have e : (first (yi s) 0 s.size).isNone = (oq (iB s 0) && (first (bad s) 0 s.size).isNone) := by
    rw [Bool.eq_iff_iff, Bool.and_eq_true, Option.isNone_iff_eq_none, Option.isNone_iff_eq_none, kC, kC]
    constructor
    ·intro h
     have h0 := h 0 (Nat.le_refl _) (by omega)
     simp only [yi, beq_self_eq_true, Bool.true_or, Bool.and_true] at h0
     have h0' : oq (iB s 0) = true := by simpa using h0
     refine ⟨h0', fun j _ hj => ?_⟩
     have h1 := h j (Nat.zero_le _) hj
     simp only [yi, bad, zC] at h1 ⊢
     cases hs : oq (iB s j) <;> cases ho : other (iB s j) <;> simp_all
    ·rintro ⟨h0, h⟩ j _ hj
     have h1 := h j (Nat.zero_le _) hj
     simp only [yi, bad, zC] at h1 ⊢
     by_cases hj0 : j = 0
     ·subst hj0; simp [h0]
     ·cases hs : oq (iB s j) <;> cases ho : other (iB s j) <;> simp_all
   have : (first (yi s) 0 s.size).elim (some true) (fun _ => some false) = some ((first (yi s) 0 s.size).isNone) := by cases first (yi s) 0 s.size <;> rfl
   rw [this, e]
   simp [nX, show 1 ≤ s.size by omega, show s.size ≤ 24 by omega]
end Go.Proofs.YtpmoopnkoknbeaaGreatDoor
namespace Go.Proofs.YtpmoopnkoknbeaaGreatDoor
open Go Go.SX Go.SX.Cal
mutual
def dF : af → Nat
 | ⟨_, _, fs⟩ => je fs + 1
def je : List (mU af) → Nat
 | [] => 0
 | f :: l => lw f + je l
def lw : mU af → Nat
 | ⟨_, n, _, t⟩ => n.size + dF t + 1
end
theorem gZ : ∀ {l : List aL} {x : aL}, x ∈ l → lw x ≤ je l
 | [], _, h => by cases h
 | y :: l, x, h => by
  simp only [je]
  rcases List.mem_cons.1 h with rfl | h
  ·omega
  ·have := gZ h; omega
theorem gx : ∀ x : aL, lw x = x.name.size + dF x.type + 1
 | ⟨_, _, _, _⟩ => by simp only [lw]
theorem gA : ∀ x : af, dF x = je x.fields + 1
 | ⟨_, _, _⟩ => by simp only [dF]
theorem nD : ∀ l : List aL, l.length ≤ je l
 | [] => by simp [je]
 | x :: l => by
  have := nD l
  have := gx x
  simp only [je, List.length_cons]; omega
theorem dW {i n : Nat} (h : i < n) (hn : n < 1000000000) : IntKind.i64.wrap ((i : Int) + 1) = ((i + 1 : Nat) : Int) := by rw [fJ (by omega) (by omega)]; omega
theorem cf {α : Type} {xs : List α} {i : Nat} (h : i < xs.length) : at? xs (i : Int) = some xs[i] := by unfold at?; simp [h]
theorem gp {i n : Nat} (h : i < n) : decide ((i : Int) < (n : Int)) = true := by simp [h]
def KQ (fs : List aL) (i : Nat) : ByteArray := (fs[i]?.map (·.name)).getD ByteArray.empty
theorem qM {fs : List aL} {i : Nat} (h : i < fs.length) : KQ fs i = fs[i].name := by simp [KQ, h]
def sI (fs : List aL) (i : Nat) : Bool := !nX (KQ fs i)
def Kz (fs : List aL) (i j : Nat) : Bool := (KQ fs j).toList == (KQ fs i).toList
def Aq (fs : List aL) (i : Nat) : Bool := (first (Kz fs i) 0 i).isSome
def Dp (fs : List aL) : Bool := (first (sI fs) 0 fs.length).isSome
def Bn (fs : List aL) : Bool := (first (Aq fs) 0 fs.length).isSome
structure vJ (fs : List aL) : Prop where
 len : fs.length < 1000000000
 nam : ∀ f ∈ fs, f.name.size < 1000000000
theorem I1 {fs : List aL} (h : je fs < 1000000000) : vJ fs :=
 ⟨by have := nD fs; omega, fun f hf => by have := gZ hf; have := gx f; omega⟩
theorem JJ : ∀ f : aL, mU.mk f.id f.name f.need (af.mk f.type.kind f.type.scale f.type.fields) = f
 | ⟨_, _, _, ⟨_, _, _⟩⟩ => rfl
theorem Fs {fs : List aL} (ho : vJ fs) : aX fs = some (Dp fs) := by
 have hl := lW (f := fun k i => aq fs k (i : Int)) (n := fs.length) (P := sI fs) (A := fun i => some (i : Int)) (B := some (-1)) (fun k i hi => by
   show aq fs (k + 1) (i : Int) = _
   rw [aq, gp hi, aw, cf hi, ae, nF, Lm _ (ho.nam _ (List.getElem_mem hi)), dW hi ho.len]
   simp only [ae, aM, sI, qM hi])
  (fun k => by rw [aq]; simp only [Int.lt_irrefl, decide_false, ah]; rfl) ba 0 (Nat.zero_le _) (by rw [aF]; have := ho.len; omega)
 have hl : aq fs ba (0 : Int) = _ := hl
 unfold aX bC
 rw [hl]
 unfold Dp
 cases first (sI fs) 0 fs.length with
 | none => rfl
 | some j => simp [ae]
theorem Fx {fs : List aL} (ho : vJ fs) {i : Nat} (hi : i < fs.length) : aY ((fs.drop (0 : Int).toNat).take ((i : Int).toNat - (0 : Int).toNat)) fs[i] = some (Aq fs i, fs[i]) := by
 have ep : (fs.drop (0 : Int).toNat).take ((i : Int).toNat - (0 : Int).toNat) = fs.take i := by simp
 rw [ep]
 have hlen : (fs.take i).length = i := by simp; omega
 have hl := lW (f := fun k j => al (fs.take i) k fs[i].id fs[i].name fs[i].need fs[i].type.kind fs[i].type.scale fs[i].type.fields (j : Int)) (n := i) (P := Kz fs i) (A := fun j => some ((j : Int), fs[i])) (B := some (-1, fs[i])) (fun k j hj => by
   have hj' : j < (fs.take i).length := by rw [hlen]; exact hj
   have hjf : j < fs.length := by omega
   show al (fs.take i) (k + 1) _ _ _ _ _ _ (j : Int) = _
   rw [al, gp hj', aw, cf hj', ae, nG, dW hj (by have := ho.len; omega)]
   simp only [ae, aM, Kz, qM hi, qM hjf, List.getElem_take, JJ])
  (fun k => by
   show al (fs.take i) (k + 1) _ _ _ _ _ _ (i : Int) = _
   rw [al]; simp only [hlen, Int.lt_irrefl, decide_false, ah, bu, JJ]) ba 0 (Nat.zero_le _) (by rw [aF]; have := ho.len; omega)
 have hl : al (fs.take i) ba _ _ _ _ _ _ (0 : Int) = _ := hl
 unfold aY bE
 rw [hl]
 unfold Aq
 cases first (Kz fs i) 0 i with
 | none => rfl
 | some j => simp [ae]
theorem B0 {t : af} (ho : vJ t.fields) : cR t ba (0 : Int) = some (if Bn t.fields = true then 5 else 0) := by
 have hl := lW (f := fun k i => cR t k (i : Int)) (n := t.fields.length) (P := Aq t.fields) (A := fun _ => some 5) (B := some 0) (fun k i hi => by
   show cR t (k + 1) (i : Int) = _
   rw [cR, gp hi, aw, cf hi, ae, dm (by omega), Fx ho hi, dW hi ho.len]
   simp only [ae, aM])
  (fun k => by rw [cR]; simp only [Int.lt_irrefl, decide_false, ah]; rfl) ba 0 (Nat.zero_le _) (by rw [aF]; have := ho.len; omega)
 have hl : cR t ba (0 : Int) = _ := hl
 rw [hl]
 unfold Bn
 cases first (Aq t.fields) 0 t.fields.length <;> rfl
theorem Hs {t : af} (ho : vJ t.fields) (rec2 : Int → Option Int) {i : Nat} (hi : i < t.fields.length) : dr rec2 t (i : Int) ba (0 : Int) = if Aq t.fields i = true then some 5 else rec2 ((i + 1 : Nat) : Int) := by
 have hl := lW (f := fun k j => dr rec2 t (i : Int) k (j : Int)) (n := i) (P := Kz t.fields i) (A := fun j => some 5) (B := rec2 ((i + 1 : Nat) : Int)) (fun k j hj => by
   have hjf : j < t.fields.length := by omega
   show dr rec2 t (i : Int) (k + 1) (j : Int) = _
   rw [dr, gp hj, aw, cf hjf, cf hi, dW hj (by have := ho.len; omega)]
   simp only [ae, aM, Kz, qM hi, qM hjf])
  (fun k => by
   show dr rec2 t (i : Int) (k + 1) (i : Int) = _
   rw [dr]; simp only [Int.lt_irrefl, decide_false, ah, oM]; rw [dW hi ho.len]) ba 0 (Nat.zero_le _) (by rw [aF]; have := ho.len; omega)
 have hl : dr rec2 t (i : Int) ba (0 : Int) = _ := hl
 rw [hl]
 unfold Aq
 cases first (Kz t.fields i) 0 i <;> simp
theorem Gg {t : af} (ho : vJ t.fields) : cW t ba (0 : Int) = some (if Bn t.fields = true then 5 else 0) := by
 have hl := lW (f := fun k i => cW t k (i : Int)) (n := t.fields.length) (P := Aq t.fields) (A := fun _ => some 5) (B := some 0) (fun k i hi => by
   show cW t (k + 1) (i : Int) = _
   rw [cW, gp hi, aw, Hs ho _ hi])
  (fun k => by rw [cW]; simp only [Int.lt_irrefl, decide_false, ah]; rfl) ba 0 (Nat.zero_le _) (by rw [aF]; have := ho.len; omega)
 have hl : cW t ba (0 : Int) = _ := hl
 rw [hl]
 unfold Bn
 cases first (Aq t.fields) 0 t.fields.length <;> rfl
theorem FX {t : af} (ho : vJ t.fields) : dG t ba (0 : Int) = some (if Dp t.fields = true then 4 else if Bn t.fields = true then 5 else 0) := by
 have hl := lW (f := fun k i => dG t k (i : Int)) (n := t.fields.length) (P := sI t.fields) (A := fun _ => some 4) (B := some (if Bn t.fields = true then 5 else 0)) (fun k i hi => by
   show dG t (k + 1) (i : Int) = _
   rw [dG, gp hi, aw, cf hi, ae, L5 _ (ho.nam _ (List.getElem_mem hi)), dW hi ho.len]
   simp only [ae, aM, sI, qM hi])
  (fun k => by rw [dG]; simp only [Int.lt_irrefl, decide_false, ah, oI]; exact Gg ho) ba 0 (Nat.zero_le _) (by rw [aF]; have := ho.len; omega)
 have hl : dG t ba (0 : Int) = _ := hl
 rw [hl]
 unfold Dp
 cases first (sI t.fields) 0 t.fields.length <;> rfl
def vf (t : af) : Int :=
 if t.kind = 6 then (if t.fields.length ≠ 1 ∨ (KQ t.fields 0).size ≠ 0 then 1 else 0)
 else if t.kind ≠ 7 then (if 0 < t.fields.length then 1 else 0)
 else if t.fields.length = 0 then 1 else if Dp t.fields = true then 4 else if Bn t.fields = true then 5 else 0
def tF (t : af) : Prop := t.scale ≠ 0 ∧ (t.kind ≠ 3 ∨ t.scale < 0 ∨ 12 < t.scale)
instance (t : af) : Decidable (tF t) := by unfold tF; infer_instance
def shp (t : af) : Int := if t.kind < 1 ∨ 7 < t.kind then 3 else if tF t then 1 else vf t
theorem IA {t : af} (ho : vJ t.fields) : m9 t = some (vf t) := by
 unfold m9 kr vf
 rw [Fs ho, B0 ho]
 simp only [ae, aM]
 by_cases h6 : t.kind = 6
 ·simp only [h6, beq_self_eq_true, if_true]
  by_cases hl : t.fields.length = 1
  ·have : (0 : Nat) < t.fields.length := by omega
   rw [show at? t.fields (0 : Int) = some t.fields[0] from cf (i := 0) this]
   simp only [hl, ae, lY, qM this]
   by_cases hz : t.fields[0].name.size = 0 <;> simp [hz]
  ·simp [hl, show ((t.fields.length : Int) = 1) = False from eq_false (by omega)]
 ·by_cases h7 : t.kind = 7
  ·simp [h7]
   by_cases hl : t.fields = []
   ·simp [hl]
   ·simp [hl]
    by_cases hb : Dp t.fields = true
    ·simp [hb]
    ·simp [hb]
  ·simp [h6, h7]
   by_cases hl : 0 < t.fields.length
   ·simp [hl]
   ·simp [hl]
theorem JQ {t : af} (ho : vJ t.fields) : pD t = some (shp t) := by
 have hj3 : ∀ x, gc t x = if x = true then some 1 else if t.kind ≠ 7 then some 0 else some (if Dp t.fields = true then 4 else if Bn t.fields = true then 5 else 0) := by
  intro x
  unfold gc
  rw [FX ho]
  cases x <;> simp [aM]
 have hleaf : eR t.kind = some (decide (t.kind ≠ 6 ∧ t.kind ≠ 7)) := by
  unfold eR kU
  by_cases h6 : t.kind = 6 <;> by_cases h7 : t.kind = 7 <;> simp [h6, h7, aM]
 have hj1 : ∀ x, gf t x = if x = true then some 1 else some (vf t) := by
  intro x
  cases x with
  | true => rfl
  | false =>
   unfold gf jX vf
   rw [hleaf]
   simp only [aM, ae, hj3]
   by_cases h6 : t.kind = 6
   ·simp only [h6, beq_self_eq_true, if_true]
    by_cases hl : t.fields.length = 1
    ·have : (0 : Nat) < t.fields.length := by omega
     rw [show at? t.fields (0 : Int) = some t.fields[0] from cf (i := 0) this]
     simp only [hl, ae, lY, qM this]
     by_cases hz : t.fields[0].name.size = 0 <;> simp [hz]
    ·simp [hl, show ((t.fields.length : Int) = 1) = False from eq_false (by omega)]
   ·by_cases h7 : t.kind = 7
    ·simp [h7]
     by_cases hl : t.fields = []
     ·simp [hl]
     ·simp [hl]
    ·simp [h6, h7]
     by_cases hl : 0 < t.fields.length
     ·simp [hl]
     ·simp [hl]
 unfold pD shp cq jt
 simp only [aM, hj1, ae]
 by_cases a1 : t.kind < 1
 ·simp [a1, show ¬ (1 : Int) ≤ t.kind by omega, ae]
 ·by_cases a2 : 7 < t.kind
  ·simp [a2, show (1 : Int) ≤ t.kind by omega, show ¬ t.kind ≤ 7 by omega, ae]
  ·simp only [a1, a2, show (1 : Int) ≤ t.kind by omega, show t.kind ≤ 7 by omega, decide_true, or_self, if_false, if_true, Bool.not_true, ae]
   unfold tF
   by_cases h3 : t.kind = 3
   ·by_cases b1 : t.scale < 0
    ·simp [h3, b1, show ¬ (0 : Int) ≤ t.scale by omega, show t.scale ≠ 0 by omega, ae]
    ·by_cases b2 : 12 < t.scale
     ·simp [h3, b1, b2, show (0 : Int) ≤ t.scale by omega, show ¬ t.scale ≤ 12 by omega, show t.scale ≠ 0 by omega, ae]
     ·simp [h3, b1, b2, show (0 : Int) ≤ t.scale by omega, show t.scale ≤ 12 by omega, ae]
   ·by_cases b0 : t.scale = 0 <;> simp [h3, b0]
end Go.Proofs.YtpmoopnkoknbeaaGreatDoor
namespace Go.Proofs.YtpmoopnkoknbeaaGreatDoor
open Go Go.SX Go.SX.Cal
inductive V : af → Prop where
 | mk (t : af) (h1 : shp t = 0) (h3 : t.fields.length ≤ 40) (h2 : ∀ f, f ∈ t.fields → V f.type) : V t
theorem F8 (t : af) : lX t = some (decide (t.kind ≠ 6 ∧ t.kind ≠ 7)) := by
 unfold lX mf
 by_cases h6 : t.kind = 6 <;> by_cases h7 : t.kind = 7 <;> simp [h6, h7, aM]
theorem oY (k : Int) : eR k = some (decide (k ≠ 6 ∧ k ≠ 7)) := by
 unfold eR kU
 by_cases h6 : k = 6 <;> by_cases h7 : k = 7 <;> simp [h6, h7, aM]
theorem Ig {t : af} (ho : vJ t.fields) (q : af → Int → bY → Option (Int × bY)) (l z : Int) :
  dw q t l z = if shp t ≠ 0 then some (shp t, ⟨z⟩) else bH q t l ba z 0 := by
 have hj4 : ∀ x, cJ q t l z x = if x = true then some (1, ⟨z⟩) else if vf t ≠ 0 then some (vf t, ⟨z⟩) else bH q t l ba z 0 := by
  intro x
  unfold cJ
  rw [IA ho]
  cases x <;> simp [aM, ae]
 unfold dw fO shp
 simp only [aM, hj4]
 by_cases a1 : t.kind < 1
 ·simp [a1]
 ·by_cases a2 : 7 < t.kind
  ·simp [a1, a2]
  ·simp only [a1, a2, decide_false, or_self, if_false, Bool.false_eq_true]
   unfold tF
   by_cases b0 : t.scale = 0
   ·simp [b0]
   ·by_cases h3 : t.kind = 3
    ·by_cases b1 : t.scale < 0
     ·simp [b0, h3, b1]
     ·by_cases b2 : 12 < t.scale
      ·simp [b0, h3, b1, b2]
      ·simp [b0, h3, b1, b2]
    ·simp [b0, h3]
theorem IX {t : af} (ho : vJ t.fields) (q : af → Int → Int → Option (Int × Int)) (l z : Int) :
  fv q t l z = if shp t ≠ 0 then some (shp t, z) else dE q t l ba z 0 := by
 unfold fv
 rw [JQ ho]
 simp [aM, ae]
theorem Mw {t : af} (h : shp t = 0) (hl : t.fields.length ≤ 40) (hf : ∀ f ∈ t.fields, V f.type) : V t := .mk t h hl hf
theorem V.wid {t : af} (h : V t) : t.fields.length ≤ 40 := by cases h; assumption
theorem Jg {t : af} (h : shp t = 0) (hk : ¬ (t.kind ≠ 6 ∧ t.kind ≠ 7)) : 1 ≤ t.fields.length := by
 unfold shp at h
 split at h
 ·cases h
 ·split at h
  ·cases h
  ·unfold vf at h
   by_cases h6 : t.kind = 6
   ·rw [if_pos h6] at h
    by_cases h1 : t.fields.length = 1
    ·omega
    ·rw [if_pos (.inl h1)] at h; cases h
   ·rw [if_neg h6, if_neg (by omega)] at h
    by_cases h1 : t.fields.length = 0
    ·rw [if_pos h1] at h; cases h
    ·omega
theorem C2 {t : af} (ho : vJ t.fields) (l : Int) (hl0 : -10 ≤ l) (hl1 : l ≤ 10) (q1 : af → Int → bY → Option (Int × bY)) (q2 : af → Int → Int → Option (Int × Int))
  (hq : ∀ f ∈ t.fields, ∀ n : Int, 0 ≤ n → n ≤ 40 → ∃ e m, q1 f.type (l + 1) ⟨n⟩ = some (e, ⟨m⟩) ∧ q2 f.type (l + 1) n = some (e, m) ∧ 0 ≤ m ∧ m ≤ 40 ∧ (e = 0 → V f.type ∧ n + 1 ≤ m)) :
  ∀ (kk i : Nat) (n : Int), i ≤ t.fields.length → t.fields.length - i < kk → 0 ≤ n → n ≤ 40 →
   ∃ e m, bH q1 t l kk n (i : Int) = some (e, ⟨m⟩) ∧ dE q2 t l kk n (i : Int) = some (e, m) ∧ 0 ≤ m ∧ m ≤ 40 ∧ (e = 0 → (∀ j, i ≤ j → ∀ h : j < t.fields.length, V t.fields[j].type) ∧ n + ((t.fields.length - i : Nat) : Int) ≤ m) := by
 intro kk
 induction kk with
 | zero => intro i n _ h; omega
 | succ kk ih =>
  intro i n hi hk n0 n1
  rw [bH, dE]
  by_cases h : i = t.fields.length
  ·subst h
   simp only [Int.lt_irrefl, decide_false, ah]
   exact ⟨0, n, rfl, rfl, n0, n1, fun _ => ⟨fun j h1 h2 => by omega, by omega⟩⟩
  ·have hlt : i < t.fields.length := by omega
   rw [gp hlt, aw, aw, cf hlt, ae, ae, fJ (x := l + 1) (by omega) (by omega), dW hlt ho.len]
   obtain ⟨e, m, h1, h2, h3, h4, h5⟩ := hq _ (List.getElem_mem hlt) n n0 n1
   rw [h1, h2]
   simp only [ae, aM]
   by_cases he : e = 0
   ·obtain ⟨e', m', g1, g2, g3, g4, g5⟩ := ih (i + 1) m (by omega) (by omega) h3 h4
    refine ⟨e', m', by simpa [he] using g1, by simpa [he] using g2, g3, g4, fun h0 => ⟨fun j hj hjl => ?_, ?_⟩⟩
    ·by_cases hji : j = i
     ·subst hji; exact (h5 he).1
     ·exact (g5 h0).1 j (by omega) hjl
    ·have a1 := (h5 he).2
     have a2 := (g5 h0).2
     omega
   ·exact ⟨e, m, by simp [he], by simp [he], h3, h4, fun h0 => absurd h0 he⟩
theorem check_eq : ∀ (d k : Nat) (t : af) (l n : Int), l = 5 - d → d ≤ 5 → d < k → dF t < 1000000000 → 0 ≤ n → n ≤ 40 →
  ∃ e m, aP k t l ⟨n⟩ = some (e, ⟨m⟩) ∧ cD k t l n = some (e, m) ∧ 0 ≤ m ∧ m ≤ 40 ∧ (e = 0 → V t ∧ n + 1 ≤ m) := by
 intro d
 induction d with
 | zero =>
  intro k t l n hl _ hk hs n0 n1
  obtain ⟨k, rfl⟩ : ∃ k', k = k' + 1 := ⟨k - 1, by omega⟩
  have hl4 : (4 : Int) < l := by omega
  rw [aP, cD]
  simp only [hl4, decide_true, aw, dv]
  exact ⟨7, n, rfl, rfl, n0, n1, fun h => by omega⟩
 | succ d ih =>
  intro k t l n hl hd hk hs n0 n1
  obtain ⟨k, rfl⟩ : ∃ k', k = k' + 1 := ⟨k - 1, by omega⟩
  have hl4 : ¬ (4 : Int) < l := by omega
  have hsz := gA t
  have ho : vJ t.fields := I1 (by omega)
  have hq : ∀ f ∈ t.fields, ∀ n : Int, 0 ≤ n → n ≤ 40 → ∃ e m, aP k f.type (l + 1) ⟨n⟩ = some (e, ⟨m⟩) ∧ cD k f.type (l + 1) n = some (e, m) ∧ 0 ≤ m ∧ m ≤ 40 ∧ (e = 0 → V f.type ∧ n + 1 ≤ m) := by
   intro f hf n n0 n1
   have h1 := gZ hf
   have h2 := gx f
   exact ih k f.type (l + 1) n (by omega) (by omega) (by omega) (by omega) n0 n1
  have main : ∀ z : Int, 0 ≤ z → z ≤ 40 → n ≤ z → (t.kind ≠ 6 ∧ t.kind ≠ 7 → n + 1 ≤ z) → ∃ e m, dw (aP k) t l z = some (e, ⟨m⟩) ∧ fv (cD k) t l z = some (e, m) ∧ 0 ≤ m ∧ m ≤ 40 ∧ (e = 0 → V t ∧ n + 1 ≤ m) := by
   intro z z0 z1 z2 z3
   rw [Ig ho, IX ho]
   by_cases hsh : shp t = 0
   ·obtain ⟨e, m, h1, h2, h3, h4, h5⟩ := C2 ho l (by omega) (by omega) _ _ hq ba 0 z (Nat.zero_le _) (by rw [aF]; have := ho.len; omega) z0 z1
    refine ⟨e, m, by simpa [hsh] using h1, by simpa [hsh] using h2, h3, h4, fun he => ⟨Mw hsh (by have := (h5 he).2; omega) (fun f hf => ?_), ?_⟩⟩
    ·obtain ⟨j, hj, rfl⟩ := List.getElem_of_mem hf
     exact (h5 he).1 j (Nat.zero_le _) hj
    ·have a1 := (h5 he).2
     by_cases hlf : t.kind ≠ 6 ∧ t.kind ≠ 7
     ·have := z3 hlf; omega
     ·have := Jg hsh hlf; omega
   ·exact ⟨shp t, z, by simp [hsh], by simp [hsh], z0, z1, fun h => absurd h hsh⟩
  rw [aP, cD]
  simp only [hl4, decide_false, ah, F8, oY, ae, dv]
  by_cases hleaf : t.kind ≠ 6 ∧ t.kind ≠ 7
  ·simp only [hleaf, ne_eq, not_false_eq_true, and_self, decide_true, aw]
   by_cases h40 : n = 40
   ·simp only [h40, beq_self_eq_true, aw]
    exact ⟨7, 40, rfl, rfl, by omega, by omega, fun h => by omega⟩
   ·have : (n == 40) = false := by simpa using h40
    simp only [this, ah]
    rw [fJ (x := n + 1) (by omega) (by omega)]
    exact main (n + 1) (by omega) (by omega) (by omega) (fun _ => Int.le_refl _)
  ·simp only [hleaf, decide_false, ah]
   exact main n n0 n1 (Int.le_refl _) (fun h => absurd h hleaf)
theorem jO (t : af) (hs : dF t < 1000000000) : ∃ e, bR t = some e ∧ dH t = some e ∧ (e = 0 → V t) := by
 obtain ⟨e, m, h1, h2, h3, h4, h5⟩ := check_eq 4 ba t 1 0 (by omega) (by omega) (by rw [aF]; omega) hs (by omega) (by omega)
 refine ⟨e, ?_, ?_, fun h => (h5 h).1⟩
 ·unfold bR; rw [h1]; rfl
 ·unfold dH; rw [h2]; rfl
end Go.Proofs.YtpmoopnkoknbeaaGreatDoor
namespace Go.Proofs.YtpmoopnkoknbeaaGreatDoor
open Go Go.SX Go.SX.Cal Go.Lib
mutual
def bh : ac → Nat
 | ⟨_, _, _, s, it⟩ => s.size + bM it + 1
def bM : List ac → Nat
 | [] => 0
 | x :: l => bh x + bM l
end
theorem eJ : ∀ v : ac, bh v = v.s.size + bM v.items + 1
 | ⟨_, _, _, _, _⟩ => by simp only [bh]
theorem eQ : ∀ {l : List ac} {x : ac}, x ∈ l → bh x ≤ bM l
 | [], _, h => by cases h
 | y :: l, x, h => by
  simp only [bM]
  rcases List.mem_cons.1 h with rfl | h
  ·omega
  ·have := eQ h; omega
theorem nA : ∀ v : ac, 1 ≤ bh v
 | ⟨_, _, _, _, _⟩ => by simp only [bh]; omega
theorem eN : ∀ l : List ac, l.length ≤ bM l
 | [] => by simp [bM]
 | x :: l => by
  have := eN l
  have := nA x
  simp only [bM, List.length_cons]; omega
theorem tn (b x : Bool) : ax b (some x) (some false) = some (b && x) := by cases b <;> rfl
theorem F5 (b x : Bool) : ax b (some true) (some x) = some (b || x) := by cases b <;> rfl
theorem ar {α β : Type} (a : α) (f : α → Option β) : ay (some a) f = f a := rfl
theorem pA {P : Nat → Bool} {n : Nat} : ∀ (d i : Nat), i + d ≤ n → (∀ j, i ≤ j → j < i + d → P j = false) → first P i n = first P (i + d) n
 | 0, i, _, _ => rfl
 | d + 1, i, h, hP => by
  rw [jf (by omega), hP i (by omega) (by omega)]
  simp only [Bool.false_eq_true, if_false]
  rw [pA d (i + 1) (by omega) (fun j h1 h2 => hP j (by omega) (by omega))]
  congr 1; omega
theorem we (s : ByteArray) (i : Nat) (h : i < s.size) (hb : ¬ iB s i < 128) :
  1 ≤ (Utf8.decode s i).2 ∧ i + (Utf8.decode s i).2 ≤ s.size ∧ ∀ j, i ≤ j → j < i + (Utf8.decode s i).2 → 128 ≤ iB s j := by
 have e := m6 s i h
 have one : ∀ j, i ≤ j → j < i + 1 → 128 ≤ iB s j := fun j h1 h2 => by
  have : j = i := by omega
  subst this; omega
 have ct : ∀ k, (decide (i + k < s.size) && (s.get! (i + k)).toNat / 64 == 2) = true → i + k < s.size ∧ 128 ≤ iB s (i + k) := by
  intro k hk
  simp only [Bool.and_eq_true, decide_eq_true_eq, beq_iff_eq] at hk
  rw [m6 s _ hk.1] at hk
  exact ⟨hk.1, by omega⟩
 unfold Utf8.decode
 simp only [Nat.add_zero, e, if_neg hb]
 split
 ·rename_i h1
  simp only [Bool.and_eq_true] at h1
  obtain ⟨l1, b1⟩ := ct 1 (by simpa using h1.2)
  split
  ·refine ⟨by simp, by simp only; omega, fun j h2 h3 => ?_⟩
   simp only at h3
   by_cases hj : j = i
   ·subst hj; omega
   ·have : j = i + 1 := by omega
    subst this; exact b1
  ·exact ⟨by simp, by simp only; omega, one⟩
 ·split
  ·rename_i h1
   simp only [Bool.and_eq_true] at h1
   obtain ⟨l1, b1⟩ := ct 1 (by simpa using h1.1.2)
   obtain ⟨l2, b2⟩ := ct 2 (by simpa using h1.2)
   split
   ·refine ⟨by simp, by simp only; omega, fun j h2 h3 => ?_⟩
    simp only at h3
    by_cases hj : j = i
    ·subst hj; omega
    ·by_cases hj : j = i + 1
     ·subst hj; exact b1
     ·have : j = i + 2 := by omega
      subst this; exact b2
   ·exact ⟨by simp, by simp only; omega, one⟩
  ·split
   ·rename_i h1
    simp only [Bool.and_eq_true] at h1
    obtain ⟨l1, b1⟩ := ct 1 (by simpa using h1.1.1.2)
    obtain ⟨l2, b2⟩ := ct 2 (by simpa using h1.1.2)
    obtain ⟨l3, b3⟩ := ct 3 (by simpa using h1.2)
    split
    ·refine ⟨by simp, by simp only; omega, fun j h2 h3 => ?_⟩
     simp only at h3
     by_cases hj : j = i
     ·subst hj; omega
     ·by_cases hj : j = i + 1
      ·subst hj; exact b1
      ·by_cases hj : j = i + 2
       ·subst hj; exact b2
       ·have : j = i + 3 := by omega
        subst this; exact b3
    ·exact ⟨by simp, by simp only; omega, one⟩
   ·exact ⟨by simp, by simp only; omega, one⟩
def zq (s : ByteArray) (i : Nat) : Bool := decide (iB s i < 32) || iB s i == 127
theorem Cl (s : ByteArray) : ∀ k i, i ≤ s.size → s.size - i < k → eW s k i = some (first (zq s) i s.size).isNone := by
 intro k
 induction k with
 | zero => intro i _ h; omega
 | succ k ih =>
  intro i hi hk
  rw [eW]
  by_cases h : i = s.size
  ·subst h
   rw [kL]
   simp only [Nat.lt_irrefl, decide_false, ah, oG]
   rfl
  ·have hlt : i < s.size := by omega
   simp only [hlt, decide_true, aw, mg, aM]
   by_cases hb : iB s i < 128
   ·rw [uI s i hlt hb, jf hlt]
    by_cases h1 : iB s i < 32
    ·have : zq s i = true := by simp [zq, h1]
     simp [this, show ((iB s i : Nat) : Int) < 32 by omega]
    ·have e1 : ¬ ((iB s i : Nat) : Int) < 32 := by omega
     by_cases h2 : iB s i = 127
     ·have : zq s i = true := by simp [zq, h2]
      simp [this, h2]
     ·have : zq s i = false := by simp [zq, h1, h2]
      have e2 : ¬ ((iB s i : Nat) : Int) = 127 := by omega
      simp only [this, Int.ofNat_eq_natCast, e1, decide_false, Bool.false_eq_true, if_false, beq_iff_eq, e2]
      exact ih (i + 1) (by omega) (by omega)
   ·have h1 := uK s i hlt hb
    obtain ⟨h2, h3, h4⟩ := we s i hlt hb
    have e1 : ¬ (((Utf8.decode s i).1 : Nat) : Int) < 32 := by omega
    have e2 : ¬ (((Utf8.decode s i).1 : Nat) : Int) = 127 := by omega
    simp only [Int.ofNat_eq_natCast, e1, decide_false, Bool.false_eq_true, if_false, beq_iff_eq, e2]
    rw [ih _ h3 (by omega), pA _ i h3 (fun j a b => by
     have := h4 j a b
     simp only [zq, Bool.or_eq_false_iff, decide_eq_false_iff_not, beq_eq_false_iff_ne]
     omega)]
    simp
theorem CL (s : ByteArray) (hs : s.size < 1000000000) : ∀ k i, i ≤ s.size → s.size - i < k → cL s k (i : Int) = some (first (zq s) i s.size).isNone := by
 intro k
 induction k with
 | zero => intro i _ h; omega
 | succ k ih =>
  intro i hi hk
  rw [cL]
  by_cases h : i = s.size
  ·subst h
   rw [kL]
   simp only [Int.lt_irrefl, decide_false, ah, kA]
   rfl
  ·have hlt : i < s.size := by omega
   have g : (0 : Int) ≤ (i : Int) ∧ (i : Int) < (s.size : Int) := ⟨by omega, by omega⟩
   have e : ((s.data.toList.getD (i : Int).toNat 0).toNat : Int) = (iB s i : Int) := by simp [iB]
   simp only [gp hlt, aw, bB, if_pos g, ar, ix, aM, e]
   rw [jf hlt, dW hlt hs]
   by_cases h1 : iB s i < 32
   ·have : zq s i = true := by simp [zq, h1]
    simp [this, show ((iB s i : Nat) : Int) < 32 by omega]
   ·have e1 : ¬ ((iB s i : Nat) : Int) < 32 := by omega
    by_cases h2 : iB s i = 127
    ·have : zq s i = true := by simp [zq, h2]
     simp [this, h2]
    ·have : zq s i = false := by simp [zq, h1, h2]
     have e2 : ¬ ((iB s i : Nat) : Int) = 127 := by omega
     simp only [this, e1, decide_false, Bool.false_eq_true, if_false, beq_iff_eq, e2]
     exact ih (i + 1) (by omega) (by omega)
def oE (s : ByteArray) : Bool := decide (s.size ≤ 256) && (validD s.data.toList && (first (zq s) 0 s.size).isNone)
theorem Gp (s : ByteArray) (hs : s.size < 1000000000) : utf8_ValidString s = some (validD s.data.toList) := by
 unfold utf8_ValidString bB
 rw [if_pos (by omega)]
theorem L4 (s : ByteArray) (hs : s.size < 1000000000) : pK s = some (oE s) := by
 unfold pK mo oE
 rw [Gp s hs, Cl s ba 0 (by omega) (by rw [aF]; omega)]
 by_cases h : s.size ≤ 256
 ·have : ¬ (256 : Int) < (s.size : Int) := by omega
  simp only [this, h, decide_false, decide_true, ah, ar]
  cases validD s.data.toList <;> rfl
 ·have : (256 : Int) < (s.size : Int) := by omega
  simp only [this, h, decide_false, decide_true, aw]
  rfl
theorem J0 (s : ByteArray) (hs : s.size < 1000000000) : ko s = some (oE s) := by
 have := CL s hs ba 0 (by omega) (by rw [aF]; omega)
 unfold ko iG oE
 rw [Gp s hs, show (0 : Int) = ((0 : Nat) : Int) from rfl, this]
 by_cases h : s.size ≤ 256
 ·have e : ¬ (256 : Int) < (s.size : Int) := by omega
  simp only [e, h, decide_false, decide_true, ar]
  cases validD s.data.toList <;> rfl
 ·have e : (256 : Int) < (s.size : Int) := by omega
  simp only [e, h, decide_false, decide_true, ar]
  cases validD s.data.toList <;> rfl
theorem zX (a b c : Int) : bI a b c = some (decide (b ≤ a) && decide (a ≤ c)) := by
 unfold bI iN; exact tn _ _
theorem Iu (a b c : Int) : cq a b c = some (decide (b ≤ a) && decide (a ≤ c)) := by
 unfold cq jt; exact tn _ _
def bi (v : ac) : Bool :=
 let bare := v.n == 0 && v.scale == 0
 let noS := decide (v.s.size = 0)
 let noI := ((v.items.length : Int) == 0)
 if v.kind = 0 then bare && (noS && noI)
 else if v.kind = 1 then (decide (0 ≤ v.n) && decide (v.n ≤ 1)) && (v.scale == 0 && (noS && noI))
 else if v.kind = 2 then (decide (-999999999999999999 ≤ v.n) && decide (v.n ≤ 999999999999999999)) && (v.scale == 0 && (noS && noI))
 else if v.kind = 3 then (decide (-999999999999999999 ≤ v.n) && decide (v.n ≤ 999999999999999999)) && ((decide (0 ≤ v.scale) && decide (v.scale ≤ 12)) && (noS && noI))
 else if v.kind = 4 then bare && (oE v.s && noI)
 else if v.kind = 5 then (decide (-62135596800 ≤ v.n) && decide (v.n ≤ 253402300799)) && (v.scale == 0 && (noS && noI))
 else if v.kind = 6 then bare && (noS && decide ((v.items.length : Int) ≤ 64))
 else if v.kind = 7 then bare && (noS && decide ((0 : Int) < (v.items.length : Int)))
 else false
theorem KE (v : ac) (hs : v.s.size < 1000000000) : og v = some (bi v) := by
 have j : ∀ x, ju v x = some (if v.kind = 0 then x && (decide (v.s.size = 0) && ((v.items.length : Int) == 0))
   else if v.kind = 1 then (decide (0 ≤ v.n) && decide (v.n ≤ 1)) && (v.scale == 0 && (decide (v.s.size = 0) && ((v.items.length : Int) == 0)))
   else if v.kind = 2 then (decide (-999999999999999999 ≤ v.n) && decide (v.n ≤ 999999999999999999)) && (v.scale == 0 && (decide (v.s.size = 0) && ((v.items.length : Int) == 0)))
   else if v.kind = 3 then (decide (-999999999999999999 ≤ v.n) && decide (v.n ≤ 999999999999999999)) && ((decide (0 ≤ v.scale) && decide (v.scale ≤ 12)) && (decide (v.s.size = 0) && ((v.items.length : Int) == 0)))
   else if v.kind = 4 then x && (oE v.s && ((v.items.length : Int) == 0))
   else if v.kind = 5 then (decide (-62135596800 ≤ v.n) && decide (v.n ≤ 253402300799)) && (v.scale == 0 && (decide (v.s.size = 0) && ((v.items.length : Int) == 0)))
   else if v.kind = 6 then x && (decide (v.s.size = 0) && decide ((v.items.length : Int) ≤ 64))
   else if v.kind = 7 then x && (decide (v.s.size = 0) && decide ((0 : Int) < (v.items.length : Int)))
   else false) := by
  intro x
  unfold ju jd ij ii hO jc ib jz jq
  simp only [zX, L4 v.s hs, ar, tn, lY]
  simp only [aM, beq_iff_eq]
  repeat' split
  all_goals (first | rfl | simp_all)
 unfold og
 rw [j, j]
 unfold bi
 cases v.n == 0
 ·simp only [ah, Bool.false_and]
 ·simp only [aw, Bool.true_and]
theorem J9 (v : ac) (hs : v.s.size < 1000000000) : pY v = some (bi v) := by
 have j : ∀ x, j6 v x = some (if v.kind = 0 then x && (v.n == 0 && v.scale == 0)
   else if v.kind = 1 then x && ((decide (0 ≤ v.n) && decide (v.n ≤ 1)) && v.scale == 0)
   else if v.kind = 2 then x && ((decide (-999999999999999999 ≤ v.n) && decide (v.n ≤ 999999999999999999)) && v.scale == 0)
   else if v.kind = 3 then x && ((decide (-999999999999999999 ≤ v.n) && decide (v.n ≤ 999999999999999999)) && (decide (0 ≤ v.scale) && decide (v.scale ≤ 12)))
   else if v.kind = 4 then ((v.items.length : Int) == 0) && (v.n == 0 && (v.scale == 0 && oE v.s))
   else if v.kind = 5 then x && ((decide (-62135596800 ≤ v.n) && decide (v.n ≤ 253402300799)) && v.scale == 0)
   else if v.kind = 6 then decide (v.s.size = 0) && (v.n == 0 && (v.scale == 0 && decide ((v.items.length : Int) ≤ 64)))
   else if v.kind = 7 then decide (v.s.size = 0) && (v.n == 0 && (v.scale == 0 && decide ((0 : Int) < (v.items.length : Int))))
   else false) := by
  intro x
  unfold j6 j0 kh j8 kj iT jW iU iV
  simp only [Iu, J0 v.s hs, ar, tn, lY]
  simp only [aM, beq_iff_eq]
  repeat' split
  all_goals (first | rfl | simp_all)
 unfold pY
 rw [j, j, lY]
 unfold bi
 generalize decide (v.s.size = 0) = a
 generalize ((v.items.length : Int) == 0) = b
 generalize oE v.s = t
 generalize (v.n == 0) = c
 generalize (v.scale == 0) = d
 generalize (decide (0 ≤ v.n) && decide (v.n ≤ 1)) = e1
 generalize (decide (-999999999999999999 ≤ v.n) && decide (v.n ≤ 999999999999999999)) = e2
 generalize (decide (0 ≤ v.scale) && decide (v.scale ≤ 12)) = e3
 generalize (decide (-62135596800 ≤ v.n) && decide (v.n ≤ 253402300799)) = e4
 generalize decide ((v.items.length : Int) ≤ 64) = e5
 generalize decide ((0 : Int) < (v.items.length : Int)) = e6
 cases a <;> simp only [ah, aw] <;> congr 1 <;> repeat' split
 all_goals (first | rfl | (cases b <;> cases c <;> cases d <;> simp <;> done) | (simp [Bool.and_comm, Bool.and_assoc, Bool.and_left_comm]))
def cZ (f : ac → Int → Bool × Int) : List ac → Int → Bool × Int
 | [], z => (true, z)
 | v :: l, z => if (f v z).1 = true then cZ f l (f v z).2 else (false, (f v z).2)
def lm (v : ac) (z : Int) : Int := if v.kind = 0 then z else z + 1
def aW : Nat → ac → Int → Bool × Int
 | 0, v, z => (false, lm v z)
 | d + 1, v, z => if 256 < lm v z ∨ bi v = false then (false, lm v z) else cZ (aW d) v.items (lm v z)
def cK (v : ac) : Bool := (aW 4 v 0).1
theorem yT {f : ac → Int → Bool × Int} : ∀ {l : List ac} {z : Int}, (∀ v ∈ l, ∀ z, 0 ≤ z → z ≤ 256 → 0 ≤ (f v z).2 ∧ (f v z).2 ≤ 257 ∧ ((f v z).1 = true → (f v z).2 ≤ 256)) → 0 ≤ z → z ≤ 256 →
  0 ≤ (cZ f l z).2 ∧ (cZ f l z).2 ≤ 257 ∧ ((cZ f l z).1 = true → (cZ f l z).2 ≤ 256)
 | [], z, _, h0, h1 => by simp only [cZ]; omega
 | v :: l, z, hf, h0, h1 => by
  obtain ⟨a, b, c⟩ := hf v (by simp) z h0 h1
  simp only [cZ]
  split
  ·rename_i h
   exact yT (fun x hx => hf x (by simp [hx])) a (c h)
  ·exact ⟨a, b, fun h => by cases h⟩
theorem vE : ∀ (d : Nat) (v : ac) (z : Int), 0 ≤ z → z ≤ 256 → 0 ≤ (aW d v z).2 ∧ (aW d v z).2 ≤ 257 ∧ ((aW d v z).1 = true → (aW d v z).2 ≤ 256)
 | 0, v, z, h0, h1 => by
  have hc : z ≤ lm v z ∧ lm v z ≤ z + 1 := by unfold lm; split <;> omega
  simp only [aW]
  exact ⟨by omega, by omega, fun h => by cases h⟩
 | d + 1, v, z, h0, h1 => by
  have hc : z ≤ lm v z ∧ lm v z ≤ z + 1 := by unfold lm; split <;> omega
  simp only [aW]
  split
  ·exact ⟨by omega, by omega, fun h => by cases h⟩
  ·rename_i h
   have : ¬ 256 < lm v z := fun e => h (.inl e)
   exact yT (fun x _ => vE d x) (by omega) (by omega)
theorem t8 (v : ac) (z : Int) (h0 : 0 ≤ z) (h1 : z ≤ 256) {β : Type} (f : Int → Option β) : ax (v.kind != (0 : Int)) (f (IntKind.i64.wrap (z + 1))) (f z) = f (lm v z) := by
 rw [fJ (by omega) (by omega)]
 unfold lm
 by_cases h : v.kind = 0
 ·simp [h, aM]
 ·simp [h, aM]
theorem A9 {d : Nat} (l : Int) (q : ac → Int → Int → Option (Bool × Int)) (xs : List ac) (hl : xs.length < 1000000000)
  (hq : ∀ v ∈ xs, ∀ z, 0 ≤ z → z ≤ 256 → q v l z = some (!(aW d v z).1, (aW d v z).2)) : ∀ (k i : Nat) (z : Int), i ≤ xs.length → xs.length - i < k → 0 ≤ z → z ≤ 256 →
  ∃ r : Int, aH q xs l k z (i : Int) = some (r, (cZ (aW d) (xs.drop i) z).2) ∧ decide (0 ≤ r) = !(cZ (aW d) (xs.drop i) z).1 := by
 intro k
 induction k with
 | zero => intro i z _ h; omega
 | succ k ih =>
  intro i z hi hk h0 h1
  rw [aH]
  by_cases h : i = xs.length
  ·subst h
   simp only [Int.lt_irrefl, decide_false, ah, List.drop_length, cZ, bA]
   exact ⟨-1, rfl, rfl⟩
  ·have hlt : i < xs.length := by omega
   have hm : xs[i] ∈ xs := List.getElem_mem hlt
   simp only [gp hlt, aw, cf hlt, ar, hq _ hm z h0 h1]
   rw [List.drop_eq_getElem_cons hlt]
   simp only [cZ]
   obtain ⟨a, b, c⟩ := vE d xs[i] z h0 h1
   cases hs : (aW d xs[i] z).1 with
   | false =>
    simp only [Bool.not_false, aw, Bool.false_eq_true, if_false]
    exact ⟨_, rfl, by simp⟩
   | true =>
    simp only [Bool.not_true, ah, if_true]
    rw [dW hlt hl]
    exact ih (i + 1) _ (by omega) (by omega) a (c hs)
theorem EW : ∀ (d k : Nat) (v : ac) (z : Int), d ≤ 4 → 4 * d + 4 ≤ k → bh v < 1000000000 → 0 ≤ z → z ≤ 256 → ip k v (5 - d : Int) z = some (aW d v z) := by
 intro d
 induction d with
 | zero =>
  intro k v z _ hk hs h0 h1
  obtain ⟨k, rfl⟩ : ∃ q, k = q + 1 := ⟨k - 1, by omega⟩
  rw [ip, t8 v z h0 h1]
  unfold ji hH
  simp [aW, aw]
 | succ d ih =>
  intro k v z hd hk hs h0 h1
  obtain ⟨k, rfl⟩ : ∃ q, k = q + 4 := ⟨k - 4, by omega⟩
  have hsz := eJ v
  have hlen := eN v.items
  rw [ip, t8 v z h0 h1]
  unfold ji hH
  rw [KE v (by omega)]
  have e4 : ¬ (4 : Int) < 5 - ((d + 1 : Nat) : Int) := by omega
  have hc : z ≤ lm v z ∧ lm v z ≤ z + 1 := by unfold lm; split <;> omega
  simp only [e4, decide_false, ah, aW, ar]
  by_cases h2 : (256 : Int) < lm v z
  ·simp [h2, aw]
  ·cases hp : bi v with
   | false => simp [h2, aw, ah]
   | true =>
    simp only [h2, decide_false, ah, Bool.not_true, false_or, Bool.true_eq_false, if_false]
    have := A9 (d := d) (5 - ((d + 1 : Nat) : Int)) (fw (k + 1)) v.items (by omega) (by
     intro x hx z h0 h1
     have := eQ hx
     rw [fw, fJ (by omega) (by omega), show (5 - ((d + 1 : Nat) : Int) + 1) = 5 - (d : Int) by omega, ih k x z (by omega) (by omega) (by omega) h0 h1]
     rfl) ba 0 (lm v z) (by omega) (by rw [aF]; omega) (by omega) (by omega)
    obtain ⟨r, e1, e2⟩ := this
    rw [show ((0 : Nat) : Int) = (0 : Int) from rfl] at e1
    rw [az, aQ, e1]
    simp only [ar, e2, List.drop_zero, Bool.not_not]
theorem vh (v : ac) (hs : bh v < 1000000000) : im v = some (cK v) := by
 unfold im cK
 have := EW 4 ba v 0 (by omega) (by rw [aF]; omega) hs (by omega) (by omega)
 rw [show (5 - ((4 : Nat) : Int)) = (1 : Int) from rfl] at this
 rw [this]; rfl
theorem Be {d : Nat} (l : Int) (hl0 : 0 ≤ l) (hl1 : l ≤ 100) (q : ac → Int → Int → Option (Bool × Int)) (v : ac) (hl : v.items.length < 1000000000)
  (hq : ∀ x ∈ v.items, ∀ z, 0 ≤ z → z ≤ 256 → q x (l + 1) z = some (aW d x z)) : ∀ (k i : Nat) (z : Int), i ≤ v.items.length → v.items.length - i < k → 0 ≤ z → z ≤ 256 →
  gR q v l k z (i : Int) = some (cZ (aW d) (v.items.drop i) z) := by
 intro k
 induction k with
 | zero => intro i z _ h; omega
 | succ k ih =>
  intro i z hi hk h0 h1
  rw [gR]
  by_cases h : i = v.items.length
  ·subst h
   simp only [Int.lt_irrefl, decide_false, ah, List.drop_length, cZ, oK]
  ·have hlt : i < v.items.length := by omega
   have hm : v.items[i] ∈ v.items := List.getElem_mem hlt
   rw [fJ (x := l + 1) (by omega) (by omega)]
   simp only [gp hlt, aw, cf hlt, ar, hq _ hm z h0 h1]
   rw [List.drop_eq_getElem_cons hlt]
   simp only [cZ]
   obtain ⟨a, b, c⟩ := vE d v.items[i] z h0 h1
   cases hs : (aW d v.items[i] z).1 with
   | false => simp only [Bool.not_false, aw, Bool.false_eq_true, if_false]
   | true =>
    simp only [Bool.not_true, ah, if_true]
    rw [dW hlt hl]
    exact ih (i + 1) _ (by omega) (by omega) a (c hs)
theorem EL : ∀ (d k : Nat) (v : ac) (z : Int), d ≤ 4 → d + 1 ≤ k → bh v < 1000000000 → 0 ≤ z → z ≤ 256 → eO k v (5 - d : Int) z = some (aW d v z) := by
 intro d
 induction d with
 | zero =>
  intro k v z _ hk hs h0 h1
  obtain ⟨k, rfl⟩ : ∃ q, k = q + 1 := ⟨k - 1, by omega⟩
  rw [eO, t8 v z h0 h1]
  unfold jY iQ
  simp [aW, aw]
 | succ d ih =>
  intro k v z hd hk hs h0 h1
  obtain ⟨k, rfl⟩ : ∃ q, k = q + 1 := ⟨k - 1, by omega⟩
  have hsz := eJ v
  have hlen := eN v.items
  rw [eO, t8 v z h0 h1]
  unfold jY iQ
  rw [J9 v (by omega)]
  have e4 : ¬ (4 : Int) < 5 - ((d + 1 : Nat) : Int) := by omega
  have hc : z ≤ lm v z ∧ lm v z ≤ z + 1 := by unfold lm; split <;> omega
  simp only [e4, decide_false, ah, aW, ar]
  by_cases h2 : (256 : Int) < lm v z
  ·simp [h2, aw]
  ·cases hp : bi v with
   | false => simp [h2, aw, ah]
   | true =>
    simp only [h2, decide_false, ah, Bool.not_true, false_or, Bool.true_eq_false, if_false]
    have := Be (d := d) (5 - ((d + 1 : Nat) : Int)) (by omega) (by omega) (eO k) v (by omega) (by
     intro x hx z h0 h1
     have := eQ hx
     rw [show (5 - ((d + 1 : Nat) : Int) + 1) = 5 - (d : Int) by omega]
     exact ih k x z (by omega) (by omega) (by omega) h0 h1) ba 0 (lm v z) (by omega) (by rw [aF]; omega) (by omega) (by omega)
    rw [show ((0 : Nat) : Int) = (0 : Int) from rfl, List.drop_zero] at this
    exact this
theorem uz (v : ac) (hs : bh v < 1000000000) : iF v = some (cK v) := by
 unfold iF cK
 have := EL 4 ba v 0 (by omega) (by rw [aF]; omega) hs (by omega) (by omega)
 rw [show (5 - ((4 : Nat) : Int)) = (1 : Int) from rfl] at this
 rw [this]; rfl
end Go.Proofs.YtpmoopnkoknbeaaGreatDoor
namespace Go.Proofs.YtpmoopnkoknbeaaGreatDoor
open Go Go.SX Go.SX.Cal Go.Lib
def rt (d : Nat) (v : ac) : Prop := ∃ z, (aW d v z).1 = true
theorem xZ {f : ac → Int → Bool × Int} : ∀ {l : List ac} {z : Int}, (cZ f l z).1 = true → ∀ x ∈ l, ∃ z', (f x z').1 = true
 | [], _, _, x, hx => by cases hx
 | v :: l, z, h, x, hx => by
  simp only [cZ] at h
  by_cases hv : (f v z).1 = true
  ·rw [if_pos hv] at h
   rcases List.mem_cons.1 hx with rfl | hx
   ·exact ⟨z, hv⟩
   ·exact xZ h x hx
  ·rw [if_neg hv] at h; cases h
theorem rt.zero {v : ac} (h : rt 0 v) : False := by obtain ⟨z, h⟩ := h; cases h
theorem rt.succ {d : Nat} {v : ac} (h : rt (d + 1) v) : bi v = true ∧ ∀ x ∈ v.items, rt d x := by
 obtain ⟨z, h⟩ := h
 simp only [aW] at h
 by_cases hc : 256 < lm v z ∨ bi v = false
 ·rw [if_pos hc] at h; cases h
 ·rw [if_neg hc] at h
  refine ⟨?_, fun x hx => xZ h x hx⟩
  cases hp : bi v with
  | true => rfl
  | false => exact absurd (.inr hp) hc
theorem bW {v : ac} (h : bi v = true) (hk : v.kind ≠ 3) : v.scale = 0 := by
 unfold bi at h
 simp only at h
 split at h
 ·simp at h; exact h.1.2
 ·split at h
  ·simp at h; exact h.2.1
  ·split at h
   ·simp at h; exact h.2.1
   ·split at h
    ·simp at h; exact h.1.2
    ·split at h
     ·simp at h; exact h.2.1
     ·split at h
      ·simp at h; exact h.1.2
      ·split at h
       ·simp at h; exact h.1.2
       ·cases h
theorem bq {v : ac} (h : bi v = true) (h6 : v.kind ≠ 6) (h7 : v.kind ≠ 7) : v.items = [] := by
 unfold bi at h
 simp only at h
 rw [← List.length_eq_zero_iff]
 split at h
 ·simp at h; simp [h.2.2]
 ·split at h
  ·simp at h; simp [h.2.2.2]
  ·split at h
   ·simp at h; simp [h.2.2.2]
   ·split at h
    ·simp at h; simp [h.2.2.2]
    ·split at h
     ·simp at h; simp [h.2.2]
     ·split at h
      ·simp at h; simp [h.2.2.2]
      ·cases h
theorem V.sh {t : af} (h : V t) : shp t = 0 := by cases h; assumption
theorem V.fs {t : af} (h : V t) : ∀ f, f ∈ t.fields → V f.type := by cases h; assumption
theorem V.scale {t : af} (h : V t) (hk : t.kind ≠ 3) : t.scale = 0 := by
 have := h.sh
 unfold shp at this
 split at this
 ·cases this
 ·by_cases h2 : tF t
  ·rw [if_pos h2] at this; cases this
  ·by_cases hs : t.scale = 0
   ·exact hs
   ·exact absurd ⟨hs, .inl hk⟩ h2
theorem V.list {t : af} (h : V t) (hk : t.kind = 6) : t.fields.length = 1 := by
 have := h.sh
 unfold shp at this
 split at this
 ·cases this
 ·by_cases h2 : tF t
  ·rw [if_pos h2] at this; cases this
  ·rw [if_neg h2] at this
   unfold vf at this
   rw [if_pos hk] at this
   split at this
   ·cases this
   ·rename_i h3
    by_cases hl : t.fields.length = 1
    ·exact hl
    ·exact absurd (.inl hl) h3
def ft (t : af) (i : Nat) : af := (t.fields[if t.kind = 6 then 0 else i]?.map (·.type)).getD ⟨0, 0, []⟩
def nd (t : af) (i : Nat) : Bool := (t.fields[if t.kind = 6 then 0 else i]?.map (·.need)).getD false
def iv (v : ac) (i : Nat) : ac := v.items[i]?.getD ⟨0, 0, 0, ByteArray.empty, []⟩
theorem m5 {v : ac} {i : Nat} (h : i < v.items.length) : v.items[i] = iv v i := by simp [iv, h]
def rZ : Nat → af → ac → Bool
 | 0, _, _ => true
 | d + 1, t, v =>
  if v.kind = 0 then true
  else if v.kind ≠ t.kind then false
  else if v.kind = 3 then v.scale == t.scale
  else if v.kind = 7 ∧ t.fields.length ≠ v.items.length then false
  else (first (fun i => !rZ d (ft t i) (iv v i)) 0 v.items.length).isNone
def If (t : af) (v : ac) : Prop := ∀ i, i < v.items.length → (if t.kind = 6 then 0 else i) < t.fields.length
theorem C9 {d : Nat} {t : af} {v : ac} (hs : rt (d + 1) v) (ht : V t) (h : rZ (d + 1) t v = true) : If t v ∧ ∀ i, i < v.items.length → rZ d (ft t i) (iv v i) = true := by
 obtain ⟨hp, _⟩ := hs.succ
 by_cases h67 : v.kind = 6 ∨ v.kind = 7
 ·simp only [rZ] at h
  rw [if_neg (by omega)] at h
  by_cases hk : v.kind = t.kind
  ·rw [if_neg (fun hh => hh hk), if_neg (by omega)] at h
   by_cases hl : v.kind = 7 ∧ t.fields.length ≠ v.items.length
   ·rw [if_pos hl] at h; cases h
   ·rw [if_neg hl] at h
    have hn := Option.isNone_iff_eq_none.1 h
    rw [kC] at hn
    refine ⟨fun i hi => ?_, fun i hi => by simpa using hn i (Nat.zero_le _) hi⟩
    by_cases h6 : t.kind = 6
    ·rw [if_pos h6, ht.list h6]; omega
    ·rw [if_neg h6]
     have : ¬ t.fields.length ≠ v.items.length := fun hh => hl ⟨by omega, hh⟩
     omega
  ·rw [if_pos hk] at h; cases h
 ·have : v.items = [] := bq hp (by omega) (by omega)
  refine ⟨fun i hi => ?_, fun i hi => ?_⟩
  ·rw [this] at hi; simp at hi
  ·rw [this] at hi; simp at hi
theorem qZ {t : af} {i : Nat} (h : (if t.kind = 6 then 0 else i) < t.fields.length) : ∃ f : aL, f ∈ t.fields ∧ t.fields[if t.kind = 6 then 0 else i]? = some f ∧ f.type = ft t i ∧ f.need = nd t i := by
 refine ⟨t.fields[if t.kind = 6 then 0 else i], List.getElem_mem h, List.getElem?_eq_getElem h, ?_, ?_⟩
 ·unfold ft; rw [List.getElem?_eq_getElem h]; rfl
 ·unfold nd; rw [List.getElem?_eq_getElem h]; rfl
theorem gr {α : Type} {xs : List α} {i : Nat} {x : α} (h : xs[i]? = some x) : at? xs (i : Int) = some x := by unfold at?; simp [h]
theorem mY {v : ac} {i : Nat} (h : i < v.items.length) : iv v i ∈ v.items := by rw [← m5 h]; exact List.getElem_mem h
theorem of_eq : ∀ (d k k' : Nat) (t : af) (v : ac), rt d v → V t → bh v < 1000000000 → dF t < 1000000000 → 4 * d + 1 ≤ k → d + 1 ≤ k' →
  lE k t v = some (rZ d t v) ∧ eH k' t v = some (rZ d t v) := by
 intro d
 induction d with
 | zero => intro k k' t v hs; exact hs.zero.elim
 | succ d ih =>
  intro k k' t v hs ht hv hT hk hk'
  obtain ⟨k, rfl⟩ : ∃ q, k = q + 4 := ⟨k - 4, by omega⟩
  obtain ⟨k', rfl⟩ : ∃ q, k' = q + 1 := ⟨k' - 1, by omega⟩
  obtain ⟨hp, hi⟩ := hs.succ
  have hsz := eJ v
  have hlen := eN v.items
  have hsT := gA t
  have hlF := nD t.fields
  rw [lE, eH]
  simp only [rZ, ph]
  by_cases h0 : v.kind = 0
  ·simp [h0, aM]
  ·by_cases hkk : v.kind = t.kind
   ·have sc : v.kind ≠ 3 → v.scale = t.scale := fun h => by rw [bW hp h, ht.scale (by omega)]
    -- the items
    have room : ¬ (v.kind = 7 ∧ t.fields.length ≠ v.items.length) → If t v := by
     intro hn i hi
     by_cases h6 : t.kind = 6
     ·rw [if_pos h6, ht.list h6]; omega
     ·rw [if_neg h6]
      by_cases h7 : v.kind = 7
      ·have : ¬ t.fields.length ≠ v.items.length := fun hh => hn ⟨h7, hh⟩
       omega
      ·rw [bq hp (by omega) h7] at hi; simp at hi
    have sub : If t v → ∀ i, i < v.items.length → ∃ f : aL, t.fields[if t.kind = 6 then 0 else i]? = some f ∧ f.type = ft t i ∧ lE k (ft t i) (iv v i) = some (rZ d (ft t i) (iv v i)) ∧ eH k' (ft t i) (iv v i) = some (rZ d (ft t i) (iv v i)) := by
     intro hf i hi'
     obtain ⟨f, f1, f2, f3, _⟩ := qZ (hf i hi')
     have m1 := eQ (mY hi')
     have m2 := gZ f1
     have m3 := gx f
     rw [f3] at m3
     obtain ⟨a, b⟩ := ih k k' (ft t i) (iv v i) (hi _ (mY hi')) (by rw [← f3]; exact ht.fs f f1) (by omega) (by omega) (by omega) (by omega)
     exact ⟨f, f2, f3, a, b⟩
    have ref : If t v → ed (eH k') t v ba (0 : Int) = some (first (fun i => !rZ d (ft t i) (iv v i)) 0 v.items.length).isNone := by
     intro hf
     have := lW (f := fun k i => ed (eH k') t v k (i : Int)) (n := v.items.length) (P := fun i => !rZ d (ft t i) (iv v i)) (A := fun _ => some false) (B := some true) (fun kk i hi' => by
      obtain ⟨f, f2, f3, _, f5⟩ := sub hf i hi'
      simp only [ed, gp hi', aw, pk]
      have e : ax (t.kind == (6 : Int)) (ay (at? t.fields (0 : Int)) fun e1 => ay (at? v.items (i : Int)) fun e2 => ay (eH k' e1.type e2) fun r1 => ax (!r1) (some false) (ed (eH k') t v kk (IntKind.i64.wrap ((i : Int) + 1))))
        (ay (at? t.fields (i : Int)) fun e1 => ay (at? v.items (i : Int)) fun e2 => ay (eH k' e1.type e2) fun r1 => ax (!r1) (some false) (ed (eH k') t v kk (IntKind.i64.wrap ((i : Int) + 1)))) =
        (ay (at? t.fields ((if t.kind = 6 then 0 else i : Nat) : Int)) fun e1 => ay (at? v.items (i : Int)) fun e2 => ay (eH k' e1.type e2) fun r1 => ax (!r1) (some false) (ed (eH k') t v kk (IntKind.i64.wrap ((i : Int) + 1)))) := by
       by_cases h6 : t.kind = 6 <;> simp [h6, aM]
      rw [e, gr f2, ar, cf hi', ar, f3, m5 hi', f5, ar, dW hi' (by omega), aM]) (fun kk => by simp [ed, aM, sQ]) ba 0 (Nat.zero_le _) (by rw [aF]; omega)
     rw [show ((0 : Nat) : Int) = (0 : Int) from rfl] at this
     rw [this]
     cases first (fun i => !rZ d (ft t i) (iv v i)) 0 v.items.length <;> rfl
    have e0 : (v.kind == (0 : Int)) = false := by simp [h0]
    have e1 : (v.kind != t.kind) = false := by simp [hkk]
    have e2 : ¬ v.kind ≠ t.kind := fun h => h hkk
    simp only [e0, e1, e2, ah, h0, if_false]
    by_cases h3 : v.kind = 3
    ·have hni : v.items = [] := bq hp (by omega) (by omega)
     refine ⟨by simp [h3, aM], ?_⟩
     have hr := ref (fun i hi => by rw [hni] at hi; simp at hi)
     rw [hni] at hr
     simp only [List.length_nil, kL, Option.isNone_none] at hr
     simp only [h3, if_true, lP]
     by_cases hsc : v.scale = t.scale
     ·have : t.kind ≠ 7 := by omega
      simp [hsc, aM, hr, this]
     ·simp [hsc, aM]
    ·have hsc := sc h3
     have e3 : (v.kind == (3 : Int)) = false := by simp [h3]
     have e4 : (v.scale != t.scale) = false := by simp [hsc]
     simp only [e3, e4, ah, h3, if_false]
     by_cases hl : v.kind = 7 ∧ t.fields.length ≠ v.items.length
     ·have e6 : (v.kind == (6 : Int)) = false := by simp [hl.1]
      have e7 : (v.kind == (7 : Int)) = true := by simp [hl.1]
      have t7 : (t.kind == (7 : Int)) = true := by rw [← hkk]; exact e7
      have n1 : ((t.fields.length : Int) != (v.items.length : Int)) = true := by simp; omega
      have n2 : ((v.items.length : Int) != (t.fields.length : Int)) = true := by simp; omega
      rw [aA]
      simp [e6, e7, t7, n1, n2, hl, aw, ah, lP, ar]
     ·have hf := room hl
      have hr := ref hf
      simp only [hl, if_false]
      refine ⟨?_, ?_⟩
      ·by_cases h6 : v.kind = 6
       ·have e6 : (v.kind == (6 : Int)) = true := by simp [h6]
        have t6 : t.kind = 6 := by omega
        have := lW (f := fun kk i => aC (iJ (k + 1)) v.items t.kind t.scale t.fields kk (i : Int)) (n := v.items.length) (P := fun i => !rZ d (ft t i) (iv v i)) (A := fun i => some (i : Int)) (B := some (-1)) (fun kk i hi' => by
         obtain ⟨f, f2, f3, f4, _⟩ := sub hf i hi'
         rw [if_pos t6] at f2
         simp only [aC, gp hi', aw, cf hi', ar, iJ]
         rw [show (0 : Int) = ((0 : Nat) : Int) from rfl, gr f2, ar, f3, m5 hi', f4, ar, ar, dW hi' (by omega), aM]) (fun kk => by simp [aC, aM, bG]) ba 0 (Nat.zero_le _) (by rw [aF]; omega)
        rw [show ((0 : Nat) : Int) = (0 : Int) from rfl] at this
        rw [e6, aw, aR, aT, this]
        cases first (fun i => !rZ d (ft t i) (iv v i)) 0 v.items.length <;> simp [ar]
       ·have e6 : (v.kind == (6 : Int)) = false := by simp [h6]
        by_cases h7 : v.kind = 7
        ·have e7 : (v.kind == (7 : Int)) = true := by simp [h7]
         have hlen' : t.fields.length = v.items.length := by
          by_cases hh : t.fields.length = v.items.length
          ·exact hh
          ·exact absurd ⟨h7, hh⟩ hl
         have n1 : ((t.fields.length : Int) != (v.items.length : Int)) = false := by simp; omega
         have := lW (f := fun kk i => ap (kv (k + 2)) t.fields v.items kk (i : Int)) (n := v.items.length) (P := fun i => !rZ d (ft t i) (iv v i)) (A := fun _ => some false) (B := some true) (fun kk i hi' => by
          obtain ⟨f, f2, f3, _, _⟩ := sub hf i hi'
          obtain ⟨f', f1', f2', f3', _⟩ := qZ (hf i hi')
          have m1 := eQ (mY hi')
          have m2 := gZ f1'
          have m3 := gx f'
          rw [f3'] at m3
          have f4 := (ih (k + 1) (d + 1) (ft t i) (iv v i) (hi _ (mY hi')) (by rw [← f3']; exact ht.fs f' f1') (by omega) (by omega) (by omega) (by omega)).1
          rw [if_neg (by omega)] at f2
          have hi2 : i < t.fields.length := by omega
          simp only [ap, gp hi2, aw, gr f2, ar, kv]
          rw [cf hi', ar, f3, m5 hi', f4, ar, ar, dW hi' (by omega), aM]) (fun kk => by simp [ap, aM, aV, hlen']) ba 0 (Nat.zero_le _) (by rw [aF]; omega)
         rw [show ((0 : Nat) : Int) = (0 : Int) from rfl] at this
         rw [e6, e7, ah, aw, aA, n1, ah, this]
         cases first (fun i => !rZ d (ft t i) (iv v i)) 0 v.items.length <;> rfl
        ·have e7 : (v.kind == (7 : Int)) = false := by simp [h7]
         rw [e6, e7, ah, ah, bq hp h6 h7]
         simp [kL]
      ·have n2 : v.kind = 7 → ((v.items.length : Int) != (t.fields.length : Int)) = false := by
        intro h7
        have : ¬ t.fields.length ≠ v.items.length := fun hh => hl ⟨h7, hh⟩
        simp; omega
       simp only [lP]
       by_cases h7 : v.kind = 7
       ·have t7 : (t.kind == (7 : Int)) = true := by simp [← hkk, h7]
        rw [t7, aw, n2 h7, ah]; exact hr
       ·have t7 : (t.kind == (7 : Int)) = false := by simp [← hkk, h7]
        rw [t7, ah, ah]; exact hr
   ·have e0 : (v.kind == (0 : Int)) = false := by simp [h0]
    have e1 : (v.kind != t.kind) = true := by simp [hkk]
    simp [e0, e1, h0, hkk, aw, ah]
def kf : Nat → af → ac → Bool
 | 0, _, _ => false
 | d + 1, t, v => (first (fun i => ((iv v i).kind == 0 && nd t i) || kf d (ft t i) (iv v i)) 0 v.items.length).isSome
theorem I2 : ∀ (d k k' : Nat) (t : af) (v : ac), rt d v → V t → rZ d t v = true → bh v < 1000000000 → dF t < 1000000000 → d + 1 ≤ k → d + 1 ≤ k' →
  fh k t v = some (kf d t v) ∧ cx k' t v = some (kf d t v) := by
 intro d
 induction d with
 | zero => intro k k' t v hs; exact hs.zero.elim
 | succ d ih =>
  intro k k' t v hs ht ho hv hT hk hk'
  obtain ⟨k, rfl⟩ : ∃ q, k = q + 1 := ⟨k - 1, by omega⟩
  obtain ⟨k', rfl⟩ : ∃ q, k' = q + 1 := ⟨k' - 1, by omega⟩
  obtain ⟨hp, hi⟩ := hs.succ
  obtain ⟨hf, hof⟩ := C9 hs ht ho
  have hsz := eJ v
  have hlen := eN v.items
  have hsT := gA t
  have sub : ∀ i, i < v.items.length → ∃ f : aL, t.fields[if t.kind = 6 then 0 else i]? = some f ∧ f.type = ft t i ∧ f.need = nd t i ∧ fh k (ft t i) (iv v i) = some (kf d (ft t i) (iv v i)) ∧ cx k' (ft t i) (iv v i) = some (kf d (ft t i) (iv v i)) := by
   intro i hi'
   obtain ⟨f, f1, f2, f3, f4⟩ := qZ (hf i hi')
   have m1 := eQ (mY hi')
   have m2 := gZ f1
   have m3 := gx f
   rw [f3] at m3
   obtain ⟨a, b⟩ := ih k k' (ft t i) (iv v i) (hi _ (mY hi')) (by rw [← f3]; exact ht.fs f f1) (hof i hi') (by omega) (by omega) (by omega) (by omega)
   exact ⟨f, f2, f3, f4, a, b⟩
  rw [fh, cx]
  simp only [kf]
  refine ⟨?_, ?_⟩
  ·have := lW (f := fun kk i => dn (fh k) t v kk (i : Int)) (n := v.items.length) (P := fun i => ((iv v i).kind == 0 && nd t i) || kf d (ft t i) (iv v i)) (A := fun _ => some true) (B := some false) (fun kk i hi' => by
    obtain ⟨f, f2, f3, f4, f5, _⟩ := sub i hi'
    have e : dq t (i : Int) = some f := by
     unfold dq fe
     by_cases h6 : t.kind = 6
     ·rw [if_pos h6] at f2
      rw [show (0 : Int) = ((0 : Nat) : Int) from rfl, gr f2]
      simp [h6, aM, ar]
     ·rw [if_neg h6] at f2
      rw [gr f2]
      simp [h6, aM, ar]
    simp only [dn, gp hi', aw, cf hi', ar, e, jx, f3, f4, m5 hi', f5, dW hi' (show v.items.length < 1000000000 by omega)]
    cases (iv v i).kind == 0 <;> cases nd t i <;> cases kf d (ft t i) (iv v i) <;> rfl) (fun kk => by simp [dn, aM, nN]) ba 0 (Nat.zero_le _) (by rw [aF]; omega)
   rw [show ((0 : Nat) : Int) = (0 : Int) from rfl] at this
   rw [this]
   cases first (fun i => ((iv v i).kind == 0 && nd t i) || kf d (ft t i) (iv v i)) 0 v.items.length <;> rfl
  ·have := lW (f := fun kk i => b7 (cx k') t v kk (i : Int)) (n := v.items.length) (P := fun i => ((iv v i).kind == 0 && nd t i) || kf d (ft t i) (iv v i)) (A := fun _ => some true) (B := some false) (fun kk i hi' => by
    obtain ⟨f, f2, f3, f4, _, f5⟩ := sub i hi'
    have e : ∀ j : Int, at? t.fields j = some f → iP (b7 (cx k') t v kk) (cx k') t v (i : Int) j = if (((iv v i).kind == 0 && nd t i) || kf d (ft t i) (iv v i)) = true then some true else b7 (cx k') t v kk ((i + 1 : Nat) : Int) := by
     intro j hj
     simp only [iP, iO, hj, ar, cf hi', f3, f4, m5 hi', f5, dW hi' (show v.items.length < 1000000000 by omega)]
     cases (iv v i).kind == 0 <;> cases nd t i <;> cases kf d (ft t i) (iv v i) <;> rfl
    simp only [b7, gp hi', aw]
    by_cases h6 : t.kind = 6
    ·rw [if_pos h6] at f2
     have e6 : (t.kind == (6 : Int)) = true := by simp [h6]
     rw [e6, aw]
     exact e 0 (gr f2)
    ·rw [if_neg h6] at f2
     have e6 : (t.kind == (6 : Int)) = false := by simp [h6]
     rw [e6, ah]
     exact e i (gr f2)) (fun kk => by simp [b7, aM, mV]) ba 0 (Nat.zero_le _) (by rw [aF]; omega)
   rw [show ((0 : Nat) : Int) = (0 : Int) from rfl] at this
   rw [this]
   cases first (fun i => ((iv v i).kind == 0 && nd t i) || kf d (ft t i) (iv v i)) 0 v.items.length <;> rfl
theorem Bm (t : af) (v : ac) (hv : bh v < 1000000000) (hT : dF t < 1000000000) : ∃ e, jA t v = some e ∧ nR t v = some e := by
 obtain ⟨e, h1, h2, h3⟩ := jO t hT
 unfold jA nR
 rw [h1, h2, vh v hv, uz v hv]
 simp only [ar]
 by_cases he : e = 0
 ·subst he
  have ht := h3 rfl
  cases hs : cK v with
  | false => exact ⟨1, rfl, rfl⟩
  | true =>
   have hS : rt 4 v := ⟨0, hs⟩
   obtain ⟨a, b⟩ := of_eq 4 ba ba t v hS ht hv hT (by rw [aF]; omega) (by rw [aF]; omega)
   rw [a, b]
   cases ho : rZ 4 t v with
   | false => exact ⟨2, rfl, rfl⟩
   | true =>
    obtain ⟨c, d⟩ := I2 4 ba ba t v hS ht ho hv hT (by rw [aF]; omega) (by rw [aF]; omega)
    rw [c, d]
    cases kf 4 t v with
    | false => exact ⟨0, rfl, rfl⟩
    | true => exact ⟨9, rfl, rfl⟩
 ·have : (e != (0 : Int)) = true := by simp [he]
  rw [this]
  exact ⟨e, rfl, rfl⟩
theorem bD : ByteArray.empty.size = 0 := rfl
end Go.Proofs.YtpmoopnkoknbeaaGreatDoor
namespace Go.Proofs.YtpmoopnkoknbeaaGreatDoor.Tm
open Go Go.SX Go.SX.Cal
theorem aw {β : Type} (x y : Option β) : ax true x y = x := rfl
theorem ah {β : Type} (x y : Option β) : ax false x y = y := rfl
theorem aM {β : Type} (b : Bool) (x y : Option β) : ax b x y = if b = true then x else y := by cases b <;> rfl
theorem tW {a b : Int} (hb : 0 < b) (hb2 : b ≤ 1000000) (h1 : -1000000000000000 ≤ a) (h2 : a ≤ 1000000000000000) : jl a b = some (a / b, a % b) := by
 unfold jl jo
 rw [dm (by omega), dm (by omega)]
 have hq : -1000000000000000 ≤ a / b ∧ a / b ≤ 1000000000000000 := by
  have e : a = b * (a / b) + a % b := (Int.mul_ediv_add_emod a b).symm
  have r0 := Int.emod_nonneg a (show b ≠ 0 by omega)
  have r1 := Int.emod_lt_of_pos a hb
  constructor
  ·apply Int.le_ediv_of_mul_le hb
   have : -1000000000000000 * b ≤ -1000000000000000 * 1 := by apply Int.mul_le_mul_of_nonpos_left <;> omega
   omega
  ·apply Int.ediv_le_of_le_mul hb
   have : 1000000000000000 * 1 ≤ 1000000000000000 * b := by apply Int.mul_le_mul_of_nonneg_left <;> omega
   omega
 have r0 := Int.emod_nonneg a (show b ≠ 0 by omega)
 have r1 := Int.emod_lt_of_pos a hb
 rw [Int.tdiv_eq_ediv, Int.tmod_eq_emod]
 have hs : b.sign = 1 := Int.sign_eq_one_of_pos hb
 have hn : (b.natAbs : Int) = b := by omega
 by_cases hc : 0 ≤ a ∨ b ∣ a
 ·simp only [hc, if_true, Int.natCast_zero, Int.ofNat_zero, Int.cast_ofNat_Int, Int.sub_zero, Int.add_zero]
  rw [show decide (a % b < 0) = false by simp; omega, ah, fJ (by omega) (by omega)]
 ·simp only [hc, if_false, hs, hn]
  have hne : a % b ≠ 0 := fun h => hc (.inr (Int.dvd_of_emod_eq_zero h))
  rw [show decide (a % b - b < 0) = true by simp; omega, aw]
  simp (disch := omega) only [fJ]
  rw [show a / b + 1 - 1 = a / b by omega, show a % b - b + b = a % b by omega]
theorem IV {y m d : Int} (h1 : -1000000 ≤ y) (h2 : y ≤ 1000000) (h3 : 1 ≤ m) (h4 : m ≤ 12) (h5 : -100 ≤ d) (h6 : d ≤ 100) : pg y m d = some (Cal.days y m d) := by
 have key : ∀ y' m', -1000001 ≤ y' → y' ≤ 1000001 → 3 ≤ m' → m' ≤ 14 → jZ d y' m' = some (y' / 400 * 146097 + S (y' % 400) + jU (m' - 3) + d - 1 - 719468) := by
  intro y' m' a1 a2 a3 a4
  unfold jZ
  rw [tW (by decide) (by decide) (by omega) (by omega)]
  simp only [ae]
  have hr : 0 ≤ y' % 400 ∧ y' % 400 ≤ 399 := by omega
  simp (disch := omega) only [fJ, Int.tdiv_eq_ediv_of_nonneg]
  unfold S jU
  congr 1
  omega
 unfold pg Cal.days
 by_cases hm : m ≤ 2
 ·simp only [hm, decide_true, aw, if_true]
  simp (disch := omega) only [fJ]
  rw [key _ _ (by omega) (by omega) (by omega) (by omega), show m + 12 - 3 = m + 9 by omega]
 ·simp only [hm, decide_false, ah, if_false]
  rw [key _ _ (by omega) (by omega) (by omega) (by omega)]
theorem Iz {y : Int} (h0 : 0 ≤ y) (h1 : y ≤ 399) : 0 ≤ S y ∧ S y ≤ 146096 := by unfold S; omega
theorem IB {n : Int} (h1 : -1000000000 ≤ n) (h2 : n ≤ 1000000000) : pW n = some (Cal.date n) := by
 unfold pW mh
 rw [fJ (by omega) (by omega), tW (by decide) (by decide) (by omega) (by omega)]
 simp only [ae]
 have hr0 : 0 ≤ (n + 719468) % 146097 := by omega
 have hr1 : (n + 719468) % 146097 ≤ 146096 := by omega
 have he : -10000 ≤ (n + 719468) / 146097 ∧ (n + 719468) / 146097 ≤ 10000 := by omega
 obtain ⟨b0, b1⟩ := tJ hr0 hr1
 obtain ⟨s0, s1, _⟩ := Jr hr0 hr1
 unfold Cal.date
 simp only
 generalize (n + 719468) % 146097 = r at *
 generalize (n + 719468) / 146097 = era at *
 have e1 : IntKind.i64.wrap (IntKind.i64.wrap (IntKind.i64.wrap (r - IntKind.i64.wrap (r.tdiv 1460)) + IntKind.i64.wrap (r.tdiv 36524)) - IntKind.i64.wrap (r.tdiv 146096)) = r - r / 1460 + r / 36524 - r / 146096 := by
  simp (disch := omega) only [fJ, Int.tdiv_eq_ediv_of_nonneg]
 rw [e1]
 have e2 : IntKind.i64.wrap ((r - r / 1460 + r / 36524 - r / 146096).tdiv 365) = yr r := by
  rw [Int.tdiv_eq_ediv_of_nonneg (by omega)]
  exact fJ (by unfold yr at *; omega) (by unfold yr at *; omega)
 rw [e2]
 generalize yr r = y at *
 have hS := Iz b0 b1
 have e3 : IntKind.i64.wrap (IntKind.i64.wrap (IntKind.i64.wrap (y * 365) + IntKind.i64.wrap (y.tdiv 4)) - IntKind.i64.wrap (y.tdiv 100)) = S y := by
  simp (disch := omega) only [fJ, Int.tdiv_eq_ediv_of_nonneg]
  unfold S; omega
 rw [e3]
 have hk : 0 ≤ r - S y ∧ r - S y ≤ 365 := by omega
 rw [fJ (x := r - S y) (by omega) (by omega)]
 generalize r - S y = k at *
 have e4 : IntKind.i64.wrap ((IntKind.i64.wrap (IntKind.i64.wrap (5 * k) + 2)).tdiv 153) = (5 * k + 2) / 153 := by
  simp (disch := omega) only [fJ, Int.tdiv_eq_ediv_of_nonneg]
 rw [e4]
 have hm : 0 ≤ (5 * k + 2) / 153 ∧ (5 * k + 2) / 153 ≤ 11 := by omega
 generalize (5 * k + 2) / 153 = m at *
 unfold jU
 simp (disch := omega) only [fJ, Int.tdiv_eq_ediv_of_nonneg]
 by_cases hc : (12 : Int) < m + 3
 ·simp only [hc, decide_true, aw, if_true, gt_iff_lt]
 ·simp only [hc, decide_false, ah, if_false, gt_iff_lt]
def civ (s : Int) : dz := ⟨(Cal.date (s / 86400)).1, (Cal.date (s / 86400)).2.1, (Cal.date (s / 86400)).2.2, s % 86400 / 3600, s % 86400 % 3600 / 60, s % 86400 % 60⟩
theorem civil_eq {s : Int} (h1 : -1000000000000 ≤ s) (h2 : s ≤ 1000000000000) : oz s = some (civ s) := by
 unfold oz
 rw [tW (by decide) (by decide) (by omega) (by omega)]
 simp only [ae]
 rw [IB (by omega) (by omega)]
 simp only [ae]
 have : 0 ≤ s % 86400 ∧ s % 86400 < 86400 := by omega
 unfold civ
 generalize s % 86400 = t at *
 simp (disch := omega) only [fJ, Int.tdiv_eq_ediv_of_nonneg, Int.tmod_eq_emod_of_nonneg]
theorem n4 {y m d : Int} (h1 : -20000 ≤ y) (h2 : y ≤ 20000) (h3 : 1 ≤ m) (h4 : m ≤ 12) (h5 : -100 ≤ d) (h6 : d ≤ 100) : -10000000 ≤ Cal.days y m d ∧ Cal.days y m d ≤ 10000000 := by
 unfold Cal.days S jU; split <;> omega
def sec (c : dz) : Int := Cal.days c.year c.month c.day * 86400 + c.hour * 3600 + c.minute * 60 + c.second
structure JM (c : dz) : Prop where
 y0 : -20000 ≤ c.year
 y1 : c.year ≤ 20000
 m0 : 1 ≤ c.month
 m1 : c.month ≤ 12
 d0 : -100 ≤ c.day
 d1 : c.day ≤ 100
 h0 : 0 ≤ c.hour
 h1 : c.hour ≤ 23
 i0 : 0 ≤ c.minute
 i1 : c.minute ≤ 59
 s0 : 0 ≤ c.second
 s1 : c.second ≤ 59
theorem seconds_eq {c : dz} (h : JM c) : md c = some (sec c) := by
 obtain ⟨y0, y1, m0, m1, d0, d1, h0, h1, i0, i1, s0, s1⟩ := h
 have := n4 y0 y1 m0 m1 d0 d1
 unfold md
 rw [IV (by omega) (by omega) m0 m1 d0 d1]
 simp only [ae]
 unfold sec
 simp (disch := omega) only [fJ]
theorem u9 (a b : Int) : (a.tmod b == 0) = (a % b == 0) := by
 have : a.tmod b = 0 ↔ a % b = 0 := by
  rw [← Int.dvd_iff_tmod_eq_zero, ← Int.dvd_iff_emod_eq_zero]
 by_cases h : a % b = 0
 ·rw [h, this.2 h]
 ·have h2 : a.tmod b ≠ 0 := fun e => h (this.1 e)
  rw [beq_eq_false_iff_ne.2 h2, beq_eq_false_iff_ne.2 h]
theorem Ir (y : Int) : qa y = some (decide (pS y)) := by
 unfold qa j9
 have e2 : ((y.tmod 100) != 0) = !(y % 100 == 0) := by rw [bne, u9]
 rw [u9, u9, e2]
 unfold pS
 by_cases a : y % 4 = 0
 ·by_cases b : y % 100 = 0
  ·by_cases c : y % 400 = 0
   ·simp [a, b, c, aM]
   ·simp [a, b, c, aM]
  ·simp [a, b, aM]
 ·simp [a, aM]
theorem zd {y m : Int} : ni y m = some (ww y m) := by
 unfold ni gy ww
 rw [Ir]
 simp only [ae]
 by_cases h2 : m = 2
 ·subst h2
  by_cases hl : pS y <;> simp [hl, aM]
 by_cases h4 : m = 4
 ·subst h4; simp [aM]
 by_cases h6 : m = 6
 ·subst h6; simp [aM]
 by_cases h9 : m = 9
 ·subst h9; simp [aM]
 by_cases h11 : m = 11
 ·subst h11; simp [aM]
 simp [h2, h4, h6, h9, h11, aM]
theorem dim_bound (y m : Int) : 28 ≤ ww y m ∧ ww y m ≤ 31 := by
 unfold ww; split <;> (try split) <;> (try split) <;> omega
theorem yD (a b c : Int) : bI a b c = some (decide (b ≤ a ∧ a ≤ c)) := by
 unfold bI iN
 by_cases h : b ≤ a <;> by_cases k : a ≤ c <;> simp [h, k, aM]
theorem check_eq (c : dz) : jL c = some (if 1 ≤ c.year ∧ c.year ≤ 9999 ∧ 1 ≤ c.month ∧ c.month ≤ 12 ∧ 1 ≤ c.day ∧ c.day ≤ ww c.year c.month ∧ 0 ≤ c.hour ∧ c.hour ≤ 23 ∧ 0 ≤ c.minute ∧ c.minute ≤ 59 ∧ 0 ≤ c.second ∧ c.second ≤ 59 then 0 else 3) := by
 unfold jL fE fG
 simp only [yD, zd, ae]
 by_cases h1 : 1 ≤ c.year ∧ c.year ≤ 9999
 ·by_cases h2 : 1 ≤ c.month ∧ c.month ≤ 12
  ·by_cases h3 : 1 ≤ c.day ∧ c.day ≤ ww c.year c.month
   ·by_cases h4 : 0 ≤ c.hour ∧ c.hour ≤ 23
    ·by_cases h5 : 0 ≤ c.minute ∧ c.minute ≤ 59
     ·by_cases h6 : 0 ≤ c.second ∧ c.second ≤ 59
      ·simp [h1, h2, h3, h4, h5, h6, aM]
      ·rw [if_neg (by omega)]; simp [h1, h2, h3, h4, h5, h6, aM]
     ·rw [if_neg (by omega)]; simp [h1, h2, h3, h4, h5, aM]
    ·rw [if_neg (by omega)]; simp [h1, h2, h3, h4, aM]
   ·rw [if_neg (by omega)]; simp [h1, h2, h3, aM]
  ·rw [if_neg (by omega)]; simp [h1, h2, aM]
 ·rw [if_neg (by omega)]; simp [h1, aM]
end Go.Proofs.YtpmoopnkoknbeaaGreatDoor.Tm
namespace Go.Proofs.YtpmoopnkoknbeaaGreatDoor.Tm
open Go Go.SX Go.SX.Cal
theorem aF : ba = 1152921504606846976 := rfl
structure ME (t : wK) : Prop where
 m0 : 1 ≤ t.month
 m1 : t.month ≤ 12
 w0 : 1 ≤ t.week
 w1 : t.week ≤ 5
 d0 : 1 ≤ t.weekday
 d1 : t.weekday ≤ 7
 i0 : 0 ≤ t.minute
 i1 : t.minute ≤ 1440
def KS (t : wK) (y : Int) : Int := Cal.days y t.month 1 + (t.weekday - ((Cal.days y t.month 1 + 3) % 7 + 1) + 7) % 7
def AZ (t : wK) (y : Int) : Int :=
 if t.week < 5 then KS t y + (t.week - 1) * 7 else KS t y + 7 * ((Cal.days y t.month 1 + ww y t.month - 1 - KS t y) / 7)
theorem E6 {t : wK} (y : Int) : Cal.days y t.month 1 ≤ KS t y ∧ KS t y ≤ Cal.days y t.month 1 + 6 := by unfold KS; omega
theorem ou {t : wK} (ht : ME t) (y : Int) : Cal.days y t.month 1 ≤ AZ t y ∧ AZ t y ≤ Cal.days y t.month 1 + 30 := by
 have := E6 (t := t) y
 have hd := dim_bound y t.month
 have := ht.w0
 unfold AZ; split <;> omega
structure MZ (z : qX) : Prop where
 o0 : -720 ≤ z.offset
 o1 : z.offset ≤ 720
 s : z.summer = 0 ∨ (ME z.start ∧ ME z.stop ∧ (z.summer = 30 ∨ z.summer = 60) ∧ z.start.minute = 120 ∧ ((z.start.month = 3 ∧ 10 ≤ z.stop.month ∧ z.stop.month ≤ 11) ∨ (z.start.month = 10 ∧ z.stop.month = 4)))
def Ic (z : qX) (m : Int) : Int := (Cal.date ((m + z.offset * 60) / 86400)).1
def Ls (z : qX) (y : Int) : Int := AZ z.start y * 86400 + z.start.minute * 60 - z.offset * 60
def fin (z : qX) (y : Int) : Int := AZ z.stop y * 86400 + z.stop.minute * 60 - z.offset * 60 - z.summer * 60
def Fb (z : qX) (m : Int) : Prop := if fin z (Ic z m) ≤ Ls z (Ic z m) then m < fin z (Ic z m) ∨ Ls z (Ic z m) ≤ m else Ls z (Ic z m) ≤ m ∧ m < fin z (Ic z m)
instance (z : qX) (m : Int) : Decidable (Fb z m) := by unfold Fb; infer_instance
def Me (z : qX) (m : Int) : Int := if z.summer = 0 then z.offset * 60 else if Fb z m then z.offset * 60 + z.summer * 60 else z.offset * 60
theorem Dd {n : Int} (h1 : -5000000 ≤ n) (h2 : n ≤ 5000000) : -20000 ≤ (Cal.date n).1 ∧ (Cal.date n).1 ≤ 20000 := by
 obtain ⟨b0, b1⟩ := tJ (r := (n + 719468) % 146097) (by omega) (by omega)
 simp only [Cal.date]
 split <;> omega
end Go.Proofs.YtpmoopnkoknbeaaGreatDoor.Tm
namespace Go.Proofs.YtpmoopnkoknbeaaGreatDoor.Tm
open Go Go.SX Go.SX.Cal
theorem civ_ok {s : Int} (h1 : -400000000000 ≤ s) (h2 : s ≤ 400000000000) : JM (civ s) ∧ sec (civ s) = s ∧ 1 ≤ (civ s).day ∧ (civ s).day ≤ ww (civ s).year (civ s).month := by
 obtain ⟨e, m0, m1, d0, d1⟩ := AE (s / 86400)
 have hy := Dd (n := s / 86400) (by omega) (by omega)
 have hd := dim_bound (Cal.date (s / 86400)).1 (Cal.date (s / 86400)).2.1
 refine ⟨⟨hy.1, hy.2, m0, m1, ?_, ?_, ?_, ?_, ?_, ?_, ?_, ?_⟩, ?_, d0, d1⟩
 ·show -100 ≤ (Cal.date (s / 86400)).2.2; omega
 ·show (Cal.date (s / 86400)).2.2 ≤ 100; omega
 ·show 0 ≤ s % 86400 / 3600; omega
 ·show s % 86400 / 3600 ≤ 23; omega
 ·show 0 ≤ s % 86400 % 3600 / 60; omega
 ·show s % 86400 % 3600 / 60 ≤ 59; omega
 ·show 0 ≤ s % 86400 % 60; omega
 ·show s % 86400 % 60 ≤ 59; omega
 ·show Cal.days (Cal.date (s / 86400)).1 (Cal.date (s / 86400)).2.1 (Cal.date (s / 86400)).2.2 * 86400 + s % 86400 / 3600 * 3600 + s % 86400 % 3600 / 60 * 60 + s % 86400 % 60 = s
  rw [e]; omega
def chk (c : dz) : Prop := 1 ≤ c.year ∧ c.year ≤ 9999 ∧ 1 ≤ c.month ∧ c.month ≤ 12 ∧ 1 ≤ c.day ∧ c.day ≤ ww c.year c.month ∧ 0 ≤ c.hour ∧ c.hour ≤ 23 ∧ 0 ≤ c.minute ∧ c.minute ≤ 59 ∧ 0 ≤ c.second ∧ c.second ≤ 59
instance (c : dz) : Decidable (chk c) := by unfold chk; infer_instance
theorem chk_fine {c : dz} (h : chk c) : JM c := by
 obtain ⟨a, b, c1, d, e, f, g, i, j, k, l, m⟩ := h
 have := dim_bound c.year c.month
 exact ⟨by omega, by omega, c1, d, by omega, by omega, g, i, j, k, l, m⟩
def J (z : qX) (y : Int) : Int := Cal.days y 1 1 * 86400 - z.offset * 60
theorem EB {z : qX} {m y : Int} : Ic z m = y ↔ J z y ≤ m ∧ m < J z (y + 1) := by
 unfold Ic J
 rw [qQ]
 omega
theorem D0 (y : Int) : Cal.days y 3 1 = E y ∧ Cal.days y 4 1 = E y + 31 ∧ Cal.days y 10 1 = E y + 214 ∧ Cal.days y 11 1 = E y + 245 ∧ Cal.days (y + 1) 1 1 = E y + 306 ∧ E y - 60 ≤ Cal.days y 1 1 ∧ Cal.days y 1 1 ≤ E y - 59 := by
 rw [nM, nM, show y + 1 - 1 = y by omega]
 have hE := zN (y - 1)
 rw [show y - 1 + 1 = y by omega] at hE
 simp only [qY]
 simp [jU]
 omega
theorem Lp {z : qX} (hz : MZ z) (hs : z.summer ≠ 0) {m : Int} (y : Int) (h1 : J z y - 1728000 ≤ m) (h2 : m < J z y + 1728000) : Me z m = if z.start.month = 3 then z.offset * 60 else z.offset * 60 + z.summer * 60 := by
 obtain ⟨o0, o1, hss⟩ := hz
 rcases hss with h | ⟨t1, t2, hsu, hmin, hmo⟩
 ·exact absurd h hs
 have key : (z.start.month = 3 ∧ ¬ Fb z m) ∨ (z.start.month ≠ 3 ∧ Fb z m) := by
  unfold Fb
  by_cases hy : J z y ≤ m
  ·have h366 := vo y
   have hyo : Ic z m = y := EB.2 ⟨hy, by unfold J at *; omega⟩
   rw [hyo]
   obtain ⟨e3, e4, e10, e11, en, ej0, ej1⟩ := D0 y
   have b1 := ou t1 y
   have b2 := ou t2 y
   have i3 := t2.i0; have i4 := t2.i1
   unfold Ls fin
   unfold J at *
   rcases hmo with ⟨m1, m2, m3⟩ | ⟨m1, m2⟩
   ·rw [m1, e3] at b1
    refine .inl ⟨m1, ?_⟩
    have hst : z.stop.month = 10 ∨ z.stop.month = 11 := by omega
    rcases hst with hst | hst
    ·rw [hst, e10] at b2
     rw [if_neg (by omega)]; omega
    ·rw [hst, e11] at b2
     rw [if_neg (by omega)]; omega
   ·rw [m1, e10] at b1
    rw [m2, e4] at b2
    refine .inr ⟨by omega, ?_⟩
    rw [if_pos (by omega)]; omega
  ·have h366 := vo (y - 1)
   rw [show y - 1 + 1 = y by omega] at h366
   have hyo : Ic z m = y - 1 := EB.2 ⟨by unfold J at *; omega, by rw [show y - 1 + 1 = y by omega]; omega⟩
   rw [hyo]
   obtain ⟨e3, e4, e10, e11, en, ej0, ej1⟩ := D0 (y - 1)
   rw [show y - 1 + 1 = y by omega] at en
   have b1 := ou t1 (y - 1)
   have b2 := ou t2 (y - 1)
   have i3 := t2.i0; have i4 := t2.i1
   unfold Ls fin
   unfold J at *
   rcases hmo with ⟨m1, m2, m3⟩ | ⟨m1, m2⟩
   ·rw [m1, e3] at b1
    refine .inl ⟨m1, ?_⟩
    have hst : z.stop.month = 10 ∨ z.stop.month = 11 := by omega
    rcases hst with hst | hst
    ·rw [hst, e10] at b2
     rw [if_neg (by omega)]; omega
    ·rw [hst, e11] at b2
     rw [if_neg (by omega)]; omega
   ·rw [m1, e10] at b1
    rw [m2, e4] at b2
    refine .inr ⟨by omega, ?_⟩
    rw [if_pos (by omega)]; omega
 unfold Me
 rw [if_neg hs]
 rcases key with ⟨k1, k2⟩ | ⟨k1, k2⟩
 ·rw [if_neg k2, if_pos k1]
 ·rw [if_pos k2, if_neg k1]
theorem days_one : Cal.days 1 1 1 = -719162 := by decide +kernel
theorem first {z : qX} (hz : MZ z) {m : Int} (hs : z.summer ≠ 0) (h : Me z m = z.offset * 60) (hx : Me z (m - z.summer * 60) = z.offset * 60 + z.summer * 60) (hm : (-62135596800) ≤ m) : (-62135596800) ≤ m - z.summer * 60 := by
 apply Classical.byContradiction
 intro hn
 have hsu : z.summer = 30 ∨ z.summer = 60 := by rcases hz.s with h | ⟨_, _, h, _⟩ <;> omega
 have o0 := hz.o0; have o1 := hz.o1
 have n1 := Lp hz hs (m := m) 1 (by unfold J; rw [days_one]; omega) (by unfold J; rw [days_one]; omega)
 have n2 := Lp hz hs (m := m - z.summer * 60) 1 (by unfold J; rw [days_one]; omega) (by unfold J; rw [days_one]; omega)
 rw [n1] at h; rw [n2] at hx
 split at h <;> omega
end Go.Proofs.YtpmoopnkoknbeaaGreatDoor.Tm
namespace Go.Proofs.YtpmoopnkoknbeaaGreatDoor.Tm
open Go Go.SX Go.SX.Cal
theorem EV {a b : Int} (hb : 0 < b) (hb2 : b ≤ 1000000) (h1 : -1000000000000000 ≤ a) (h2 : a ≤ 1000000000000000) : pF a b = some (a / b) := by
 have hf := tW hb hb2 h1 h2
 unfold jl jo at hf
 unfold pF me ml
 rw [dm (by omega), dm (by omega)] at hf ⊢
 have hsgn : decide (b < 0) = false := by simp; omega
 rw [hsgn]
 by_cases h0 : a.tmod b = 0
 ·rw [h0] at hf ⊢
  rw [show decide ((0 : Int) < 0) = false from rfl, ah] at hf
  rw [show ((0 : Int) != 0) = false from rfl, ah, ah]
  have := congrArg (Option.map Prod.fst) hf
  simpa using this
 ·have hne : (a.tmod b != 0) = true := by simp [h0]
  rw [hne, aw]
  by_cases ha : a < 0
  ·have hneg : a.tmod b < 0 := by
    have r1 := Int.emod_lt_of_pos a hb
    have r0 := Int.emod_nonneg a (show b ≠ 0 by omega)
    have e := Int.tmod_eq_emod (a := a) (b := b)
    by_cases hd : b ∣ a
    ·exfalso
     exact h0 (Int.tmod_eq_zero_of_dvd hd)
    ·rw [if_neg (by omega)] at e
     have : (b.natAbs : Int) = b := by omega
     omega
   rw [show decide (a.tmod b < 0) = true by simpa using hneg, aw] at hf
   rw [show decide (a < 0) = true by simpa using ha]
   have := congrArg (Option.map Prod.fst) hf
   simpa [aM] using this
  ·have hpos : ¬ a.tmod b < 0 := by
    have := Int.tmod_nonneg (a := a) b (by omega)
    omega
   rw [show decide (a.tmod b < 0) = false by simpa using hpos, ah] at hf
   rw [show decide (a < 0) = false by simpa using ha]
   have := congrArg (Option.map Prod.fst) hf
   simpa [aM] using this
theorem AJ {y m : Int} : hU y m = some (ww y m) := zd
theorem Do (a b c : Int) : cq a b c = some (decide (b ≤ a ∧ a ≤ c)) := yD a b c
theorem BD : Cal.days 0 1 1 = -719528 := by decide +kernel
theorem pQ {y : Int} (h1 : 0 ≤ y) (h2 : y ≤ 20000) : ia y = some (Cal.days y 1 1) := by
 unfold ia jb
 by_cases hy : 0 < y
 ·rw [show decide (0 < y) = true by simpa using hy, aw]
  simp only [ae]
  simp (disch := omega) only [fJ, Int.tdiv_eq_ediv_of_nonneg]
  congr 1
  rw [nM]
  unfold E S
  omega
 ·have : y = 0 := by omega
  subst this
  rw [BD]; rfl
theorem pR (y k : Int) (h1 : 1 ≤ k) (h2 : k ≤ 11) : Cal.days y (k + 1) 1 = Cal.days y k 1 + ww y k := by
 have hE := zN (y - 1)
 rw [show y - 1 + 1 = y by omega] at hE
 rw [qY, qY]
 unfold ww
 have hc : k = 1 ∨ k = 2 ∨ k = 3 ∨ k = 4 ∨ k = 5 ∨ k = 6 ∨ k = 7 ∨ k = 8 ∨ k = 9 ∨ k = 10 ∨ k = 11 := by omega
 rcases hE with ⟨hl, hE⟩ | ⟨hl, hE⟩ <;> simp only [hl, if_true, if_false] <;> rcases hc with rfl | rfl | rfl | rfl | rfl | rfl | rfl | rfl | rfl | rfl | rfl <;> simp [jU] <;> omega
theorem CO (y m d : Int) : Cal.days y m d = Cal.days y m 1 + d - 1 := by
 rw [qY, qY]; split <;> omega
theorem Dy {y m d : Int} (h1 : 0 ≤ y) (h2 : y ≤ 20000) (h3 : 1 ≤ m) (h4 : m ≤ 12) (h5 : -100 ≤ d) (h6 : d ≤ 100) : ∀ (k : Nat) (x : Int), 1 ≤ x → x ≤ m → m - x < k →
  iL y m d k (Cal.days y x 1) x = some (Cal.days y m d) := by
 intro k
 induction k with
 | zero => intro x a b c; omega
 | succ k ih =>
  intro x a b c
  rw [iL]
  have hb := n4 (y := y) (m := x) (d := 1) (by omega) (by omega) a (by omega) (by decide) (by decide)
  have hd := dim_bound y x
  by_cases hx : x < m
  ·rw [show decide (x < m) = true by simpa using hx, aw, AJ]
   simp only [ae]
   rw [fJ (by omega) (by omega), fJ (by omega) (by omega), ← pR y x a (by omega), ih (x + 1) (by omega) (by omega) (by omega)]
  ·have : x = m := by omega
   subst this
   rw [show decide (x < x) = false by simp, ah]
   unfold p7
   simp (disch := omega) only [fJ]
   rw [CO y x d]
theorem Hg {y m d : Int} (h1 : 0 ≤ y) (h2 : y ≤ 20000) (h3 : 1 ≤ m) (h4 : m ≤ 12) (h5 : -100 ≤ d) (h6 : d ≤ 100) : rP y m d = some (Cal.days y m d) := by
 unfold rP
 rw [pQ h1 h2]
 simp only [ae]
 exact Dy h1 h2 h3 h4 h5 h6 ba 1 (by decide) h3 (by rw [aF]; omega)
theorem At {s Y M D : Int} (hs1 : -1000000000000 ≤ s) (hs2 : s ≤ 1000000000000) (hY : 0 ≤ Y) (hY2 : Y ≤ 20000) (hM1 : 1 ≤ M) (hM2 : M ≤ 12) (hD1 : 1 ≤ D) (hD2 : D ≤ ww Y M) (hn : Cal.days Y M D = s / 86400) :
  ∀ (k : Nat) (b : Int), 1 ≤ b → b ≤ M → M - b < k → gL s (s / 86400) Y k b (s / 86400 - Cal.days Y b 1) = some ⟨Y, M, D, s % 86400 / 3600, s % 86400 % 3600 / 60, s % 86400 % 60⟩ := by
 intro k
 induction k with
 | zero => intro b h1 h2 h3; omega
 | succ k ih =>
  intro b h1 h2 h3
  rw [gL]
  have hd := dim_bound Y b
  have hdM := dim_bound Y M
  have hbd := n4 (y := Y) (m := b) (d := 1) (by omega) (by omega) h1 (by omega) (by decide) (by decide)
  rw [AJ]
  simp only [ae]
  by_cases hb : b < M
  ·have hle : ww Y b ≤ s / 86400 - Cal.days Y b 1 := by
    have e1 := pR Y b h1 (by omega)
    -- months from b + 1 on come later
    have mono : ∀ (j : Nat), b + 1 + j ≤ M → Cal.days Y (b + 1) 1 ≤ Cal.days Y (b + 1 + j) 1 := by
     intro j
     induction j with
     | zero => intro _; simp
     | succ j ihj =>
      intro hj
      have := ihj (by omega)
      have e2 := pR Y (b + 1 + j) (by omega) (by omega)
      have e3 := dim_bound Y (b + 1 + j)
      rw [show b + 1 + ((j + 1 : Nat) : Int) = b + 1 + j + 1 by omega, e2]
      omega
    have := mono (M - (b + 1)).toNat (by omega)
    rw [show b + 1 + ((M - (b + 1)).toNat : Int) = M by omega] at this
    have e4 := CO Y M D
    omega
   rw [show decide (ww Y b ≤ s / 86400 - Cal.days Y b 1) = true by simpa using hle, aw]
   rw [fJ (by omega) (by omega), fJ (by omega) (by omega), show s / 86400 - Cal.days Y b 1 - ww Y b = s / 86400 - Cal.days Y (b + 1) 1 by rw [pR Y b h1 (by omega)]; omega]
   exact ih (b + 1) (by omega) (by omega) (by omega)
  ·have : b = M := by omega
   subst this
   have e4 := CO Y b D
   rw [show decide (ww Y b ≤ s / 86400 - Cal.days Y b 1) = false by simp; omega, ah]
   unfold oO
   have ht : 0 ≤ s - 86400 * (s / 86400) ∧ s - 86400 * (s / 86400) < 86400 := by omega
   simp (disch := omega) only [fJ, Int.tdiv_eq_ediv_of_nonneg, Int.tmod_eq_emod_of_nonneg]
   simp only [ae]
   have e5 : s - 86400 * (s / 86400) = s % 86400 := by omega
   rw [e5, show s / 86400 - Cal.days Y b 1 + 1 = D by omega]
   have e6 : s % 86400 / 60 % 60 = s % 86400 % 3600 / 60 := by omega
   simp (disch := omega) only [fJ, Int.tmod_eq_emod_of_nonneg]
   rw [e6]
theorem Bk {s Y : Int} (hs1 : -1000000000000 ≤ s) (hs2 : s ≤ 1000000000000) (hYd : (Cal.date (s / 86400)).1 = Y) : ∀ (k : Nat) (lo hi : Int), 0 ≤ lo → lo ≤ Y → Y < hi → hi ≤ 10001 → hi - lo ≤ k →
  fU s (s / 86400) k lo hi = some (civ s) := by
 intro k
 induction k with
 | zero => intro lo hi a b c d e; omega
 | succ k ih =>
  intro lo hi a b c d e
  rw [fU]
  rw [fJ (x := hi - lo) (by omega) (by omega), fJ (x := lo + hi) (by omega) (by omega)]
  by_cases h1 : 1 < hi - lo
  ·rw [show decide (1 < hi - lo) = true by simpa using h1, aw]
   simp (disch := omega) only [fJ, Int.tdiv_eq_ediv_of_nonneg]
   rw [pQ (by omega) (by omega)]
   simp only [ae]
   obtain ⟨y1, y2⟩ := qQ.1 hYd
   by_cases hm : (lo + hi) / 2 ≤ Y
   ·have := kE hm
    rw [show decide (Cal.days ((lo + hi) / 2) 1 1 ≤ s / 86400) = true by simp; omega, aw]
    exact ih _ _ (by omega) hm c d (by omega)
   ·have := kE (y := Y + 1) (z := (lo + hi) / 2) (by omega)
    rw [show decide (Cal.days ((lo + hi) / 2) 1 1 ≤ s / 86400) = false by simp; omega, ah]
    exact ih _ _ a b (by omega) (by omega) (by omega)
  ·rw [show decide (1 < hi - lo) = false by simpa using h1, ah]
   have : lo = Y := by omega
   subst this
   unfold oJ
   rw [pQ (by omega) (by omega)]
   simp only [ae]
   have hb := n4 (y := lo) (m := 1) (d := 1) (by omega) (by omega) (by decide) (by decide) (by decide) (by decide)
   rw [fJ (by omega) (by omega)]
   obtain ⟨e1, m0, m1, d0, d1⟩ := AE (s / 86400)
   rw [hYd] at e1 d1
   have := At hs1 hs2 (by omega) (by omega) m0 m1 d0 d1 e1 ba 1 (by decide) m0 (by rw [aF]; omega)
   rw [this]
   unfold civ
   rw [hYd]
theorem rcivil_eq {s : Int} (hs1 : -1000000000000 ≤ s) (hs2 : s ≤ 1000000000000) (h0 : 0 ≤ (Cal.date (s / 86400)).1) (h1 : (Cal.date (s / 86400)).1 ≤ 10000) : pI s = some (civ s) := by
 unfold pI
 rw [EV (by decide) (by decide) (by omega) (by omega)]
 simp only [ae]
 exact Bk hs1 hs2 rfl ba 0 10001 (by decide) h0 (by omega) (by decide) (by rw [aF]; decide)
theorem years_of {s : Int} (h1 : -62160000000 ≤ s) (h2 : s ≤ 253402400799) : 0 ≤ (Cal.date (s / 86400)).1 ∧ (Cal.date (s / 86400)).1 ≤ 10000 := by
 obtain ⟨a1, a2⟩ := (qQ (n := s / 86400) (y := (Cal.date (s / 86400)).1)).1 rfl
 have e0 := BD
 have e1 : Cal.days 10001 1 1 = 2933263 := by decide +kernel
 constructor
 ·apply Classical.byContradiction
  intro hn
  have := kE (y := (Cal.date (s / 86400)).1 + 1) (z := 0) (by omega)
  omega
 ·apply Classical.byContradiction
  intro hn
  have := kE (y := 10001) (z := (Cal.date (s / 86400)).1) (by omega)
  omega
end Go.Proofs.YtpmoopnkoknbeaaGreatDoor.Tm
namespace Go.Proofs.YtpmoopnkoknbeaaGreatDoor.Tm
open Go Go.SX Go.SX.Cal
theorem rcheck_eq (c : dz) : nv c = some (decide (chk c)) := by
 unfold nv eD
 simp only [Do, AJ, ae]
 by_cases h1 : 1 ≤ c.year ∧ c.year ≤ 9999
 ·by_cases h2 : 1 ≤ c.month ∧ c.month ≤ 12
  ·by_cases h3 : 1 ≤ c.day ∧ c.day ≤ ww c.year c.month
   ·by_cases h4 : 0 ≤ c.hour ∧ c.hour ≤ 23
    ·by_cases h5 : 0 ≤ c.minute ∧ c.minute ≤ 59
     ·by_cases h6 : 0 ≤ c.second ∧ c.second ≤ 59
      ·have : chk c := ⟨h1.1, h1.2, h2.1, h2.2, h3.1, h3.2, h4.1, h4.2, h5.1, h5.2, h6.1, h6.2⟩
       simp [h1, h2, h3, h4, h5, h6, this, aM]
      ·have : ¬ chk c := fun h => h6 (by unfold chk at h; omega)
       simp [h1, h2, h3, h4, h5, h6, this, aM]
     ·have : ¬ chk c := fun h => h5 (by unfold chk at h; omega)
      simp [h1, h2, h3, h4, h5, this, aM]
    ·have : ¬ chk c := fun h => h4 (by unfold chk at h; omega)
     simp [h1, h2, h3, h4, this, aM]
   ·have : ¬ chk c := fun h => h3 (by unfold chk at h; omega)
    simp [h1, h2, h3, this, aM]
  ·have : ¬ chk c := fun h => h2 (by unfold chk at h; omega)
   simp [h1, h2, this, aM]
 ·have : ¬ chk c := fun h => h1 (by unfold chk at h; omega)
  simp [h1, this, aM]
theorem rseconds_eq {c : dz} (h : chk c) : nk c = some (sec c) := by
 have hF := chk_fine h
 obtain ⟨y0, y1, m0, m1, d0, d1, h0, h1, i0, i1, s0, s1⟩ := id hF
 have hy : 1 ≤ c.year := h.1
 have := n4 y0 y1 m0 m1 d0 d1
 unfold nk
 rw [Hg (by omega) (by omega) m0 m1 d0 d1]
 simp only [ae]
 unfold sec
 simp (disch := omega) only [fJ]
 congr 1
 omega
end Go.Proofs.YtpmoopnkoknbeaaGreatDoor.Tm
namespace Go.Proofs.YtpmoopnkoknbeaaGreatDoor
open Go Go.PX Go.SX Go.SX.Cal
def FO (n sc : Int) : List UInt8 := sg n ((kz (sc.toNat + 1) n.natAbs).take ((kz (sc.toNat + 1) n.natAbs).length - sc.toNat) ++ 46 :: (kz (sc.toNat + 1) n.natAbs).drop ((kz (sc.toNat + 1) n.natAbs).length - sc.toNat))
def AS (n : Int) : List UInt8 := kz 2 n.natAbs
def uq (c : dz) : List UInt8 := kz 4 c.year.natAbs ++ 45 :: (AS c.month ++ 45 :: (AS c.day ++ 84 :: (AS c.hour ++ 58 :: (AS c.minute ++ 58 :: (AS c.second ++ [90])))))
mutual
def T : ac → List UInt8
 | ⟨k, n, sc, s, l⟩ =>
  if k = 0 then [110, 117, 108, 108]
  else if k = 1 then (if n = 1 then [116, 114, 117, 101] else [102, 97, 108, 115, 101])
  else if k = 2 then sg n (Lib.decDigits n.natAbs)
  else if k = 3 then FO n sc
  else if k = 4 then 39 :: (qH s.data.toList ++ [39])
  else if k = 5 then uq (Tm.civ n)
  else if k = 6 then 91 :: (TJ l ++ [93])
  else 40 :: (TJ l ++ [41])
def TJ : List ac → List UInt8
 | [] => []
 | v :: l => T v ++ TR l
def TR : List ac → List UInt8
 | [] => []
 | v :: l => 44 :: 32 :: (T v ++ TR l)
end
theorem G7 : ∀ l r : List ac, TR (l ++ r) = TR l ++ TR r
 | [], r => by simp [TR]
 | v :: l, r => by simp [TR, G7 l r]
theorem IH (l : List ac) (v : ac) (h : l ≠ []) : TJ (l ++ [v]) = TJ l ++ 44 :: 32 :: T v := by
 match l, h with
 | x :: l, _ => simp [TJ, G7, TR]
theorem xG : ∀ l : List ac, Lib.joinTail [44, 32] (l.map T) = TR l
 | [] => rfl
 | v :: l => by
  have := xG l
  unfold Lib.joinTail at this ⊢
  rw [List.map_cons, List.map_cons, List.flatten_cons, this]
  rfl
theorem JZ : ∀ l : List ac, Lib.join (l.map T) [44, 32] = TJ l
 | [] => rfl
 | v :: l => by rw [List.map_cons, Lib.join_cons, xG]; simp [TJ]
theorem sx : ∀ k : Nat, Lib.repeatL [48] k = List.replicate k 48
 | 0 => rfl
 | k + 1 => by simp [Lib.repeatL, sx k, List.replicate_succ]
theorem wx (u : Nat) (h : u < 1000000000000000000) : (Lib.decDigits u).length ≤ 18 := mO u 18 (by decide) (by omega)
theorem Ag {n : Int} (h1 : -999999999999999999 ≤ n) (h2 : n ≤ 999999999999999999) : strconv_Itoa n = some (bs (sg n (Lib.decDigits n.natAbs))) := by
 unfold strconv_Itoa
 rw [bO (by omega), IN]
theorem BE {n : Int} (h1 : 0 ≤ n) (h2 : n ≤ 999999999999999999) : strconv_Itoa n = some (bs (Lib.decDigits n.natAbs)) := by
 rw [Ag (by omega) h2]
 unfold sg
 rw [if_neg (by omega)]
theorem kK {n w : Int} (h1 : 0 ≤ n) (h2 : n ≤ 999999999999999999) (h3 : 0 ≤ w) (h4 : w ≤ 100) : eh n w = some (bs (kz w.toNat n.natAbs)) := by
 have hl := wx n.natAbs (by omega)
 unfold eh
 rw [BE h1 h2]
 simp only [ae, aD]
 rw [fJ (by omega) (by omega)]
 have e : (if (0 : Int) > w - ((Lib.decDigits n.natAbs).length : Int) then (0 : Int) else w - ((Lib.decDigits n.natAbs).length : Int)) = ((w.toNat - (Lib.decDigits n.natAbs).length : Nat) : Int) := by
  split <;> omega
 rw [e]
 unfold strings_Repeat
 rw [bO ⟨by omega, by omega, by decide⟩]
 simp only [ae, Int.toNat_natCast]
 show bB _ (some (bs (Lib.repeatL [48] _) ++ _)) = _
 rw [sx, gQ, bO]
 ·rfl
 ·rw [aD, List.length_replicate]; omega
theorem zJ (u : List UInt8) (w : Int) (h3 : 0 ≤ w) (h4 : w ≤ 100) : ∀ (m f j : Nat), j + m = w.toNat - u.length → m < f →
  fc w f (bs (List.replicate j 48 ++ u)) = some (bs (List.replicate (w.toNat - u.length) 48 ++ u)) := by
 intro m
 induction m with
 | zero =>
  intro f j hj hf
  obtain ⟨f, rfl⟩ : ∃ g, f = g + 1 := ⟨f - 1, by omega⟩
  rw [fc, aD, aB, if_neg (by simp; omega)]
  unfold nV
  rw [show j = w.toNat - u.length by omega]
 | succ m ih =>
  intro f j hj hf
  obtain ⟨f, rfl⟩ : ∃ g, f = g + 1 := ⟨f - 1, by omega⟩
  rw [fc, aD, aB, if_pos (by simp; omega), bO (by show (bs [48]).size + _ ≤ _; rw [aD]; simp; omega)]
  have : (ByteArray.mk #[48]) ++ bs (List.replicate j 48 ++ u) = bs (List.replicate (j + 1) 48 ++ u) := by
   show bs [48] ++ _ = _
   rw [gQ]; rfl
  rw [this]
  exact ih f (j + 1) (by omega) (by omega)
theorem jy {n w : Int} (h1 : 0 ≤ n) (h2 : n ≤ 999999999999999999) (h3 : 0 ≤ w) (h4 : w ≤ 100) : fm n w = some (bs (kz w.toNat n.natAbs)) := by
 unfold fm
 rw [BE h1 h2]
 simp only [ae]
 have h := zJ (Lib.decDigits n.natAbs) w h3 h4 (w.toNat - (Lib.decDigits n.natAbs).length) ba 0 (by omega) (by rw [aF]; omega)
 rw [List.replicate_zero, List.nil_append] at h
 rw [h]
 rfl
theorem js {n : Int} (h : n.natAbs ≤ 999999999999999999) (k : Nat) (hk : k ≤ 18) : (kz k n.natAbs).length ≤ 18 := Dv k 18 _ (by decide) hk (by omega)
def Jf (r1 x2 : ByteArray) (p2 : Int) : Option ByteArray :=
 bB (0 ≤ (0 : Int) ∧ (0 : Int) ≤ (IntKind.i64.wrap ((r1.size : Int) - p2)) ∧ (IntKind.i64.wrap ((r1.size : Int) - p2)) ≤ (r1.size : Int)) <|
 ay (some (r1.extract (0 : Int).toNat (IntKind.i64.wrap ((r1.size : Int) - p2)).toNat)) fun y1 =>
 bB (x2.size + y1.size ≤ 4611686018427387904) <|
 bB ((x2 ++ y1).size + (ByteArray.mk #[46]).size ≤ 4611686018427387904) <|
 bB (0 ≤ (IntKind.i64.wrap ((r1.size : Int) - p2)) ∧ (IntKind.i64.wrap ((r1.size : Int) - p2)) ≤ (r1.size : Int) ∧ (r1.size : Int) ≤ (r1.size : Int)) <|
 ay (some (r1.extract (IntKind.i64.wrap ((r1.size : Int) - p2)).toNat (r1.size : Int).toNat)) fun y2 =>
 bB (((x2 ++ y1) ++ (ByteArray.mk #[46])).size + y2.size ≤ 4611686018427387904) <|
 some (((x2 ++ y1) ++ (ByteArray.mk #[46])) ++ y2)
theorem xn (p2 x1 : Int) (x2 : ByteArray) : jG p2 x1 x2 = ay (eh x1 (IntKind.i64.wrap (p2 + (1 : Int)))) fun r1 => Jf r1 x2 p2 := rfl
theorem Eu (v : ac) (x1 : Int) (x2 : ByteArray) : nq v x1 x2 = ay (fm x1 (IntKind.i64.wrap (v.scale + (1 : Int)))) fun r1 => Jf r1 x2 v.scale := rfl
theorem pn (p x : List UInt8) (sc : Int) (h1 : 0 ≤ sc) (h2 : sc.toNat ≤ p.length) (h3 : p.length ≤ 100) (h4 : x.length ≤ 1) :
  Jf (bs p) (bs x) sc = some (bs (x ++ (p.take (p.length - sc.toNat) ++ 46 :: p.drop (p.length - sc.toNat)))) := by
 unfold Jf
 simp only [aD]
 rw [fJ (by omega) (by omega), bO (by omega)]
 simp only [ae, lA, Int.toNat_natCast, List.take_length]
 have e : ((p.length : Int) - sc).toNat = p.length - sc.toNat := by omega
 rw [e]
 show bB ((bs x).size + (bs _).size ≤ _) (bB ((bs x ++ bs _).size + (bs [46]).size ≤ _) (bB _ (bB (((bs x ++ bs _) ++ bs [46]).size + (bs _).size ≤ _) (some (((bs x ++ bs _) ++ bs [46]) ++ bs _))))) = _
 simp only [gQ, aD]
 have hl : ((p.take (p.length - sc.toNat)).drop (Int.toNat 0)).length ≤ 100 := by simp; omega
 rw [bO (by omega), bO (by simp at hl ⊢; omega), bO (by omega), bO (by simp at hl ⊢; omega)]
 simp
theorem Cp {n sc : Int} (h1 : -999999999999999999 ≤ n) (h2 : n ≤ 999999999999999999) (h3 : 0 ≤ sc) (h4 : sc ≤ 12) : mb n sc = some (bs (FO n sc)) := by
 have hp := js (n := n) (by omega) (sc.toNat + 1) (by omega)
 have hg := tc (sc.toNat + 1) n.natAbs
 unfold mb FO
 rw [aB]
 by_cases hn : n < 0
 ·rw [if_pos (by simpa using hn), xn, fJ (x := 0 - n) (by omega) (by omega), fJ (x := sc + 1) (by omega) (by omega), kK (by omega) (by omega) (by omega) (by omega)]
  rw [show (0 - n).natAbs = n.natAbs by omega, show (sc + 1).toNat = sc.toNat + 1 by omega]
  rw [ae, show (ByteArray.mk #[45]) = bs [45] from rfl, pn _ [45] sc h3 (by omega) (by omega) (by simp)]
  unfold sg; rw [if_pos hn]; rfl
 ·rw [if_neg (by simpa using hn), xn, fJ (x := sc + 1) (by omega) (by omega), kK (by omega) (by omega) (by omega) (by omega)]
  rw [show (sc + 1).toNat = sc.toNat + 1 by omega]
  rw [ae, show (ByteArray.mk #[]) = bs [] from rfl, pn _ [] sc h3 (by omega) (by omega) (by simp)]
  unfold sg; rw [if_neg hn]; rfl
theorem AX {v : ac} (hk : v.kind = 3) (h1 : -999999999999999999 ≤ v.n) (h2 : v.n ≤ 999999999999999999) (h3 : 0 ≤ v.scale) (h4 : v.scale ≤ 12) (k0 : Nat) : dT (k0 + 1) v = some (bs (FO v.n v.scale)) := by
 have hp := js (n := v.n) (by omega) (v.scale.toNat + 1) (by omega)
 have hg := tc (v.scale.toNat + 1) v.n.natAbs
 rw [dT]
 simp only [hk, aB]
 unfold FO
 rw [if_neg (by decide), if_neg (by decide), if_pos (by decide)]
 by_cases hn : v.n < 0
 ·rw [if_pos (by simpa using hn), Eu, fJ (x := 0 - v.n) (by omega) (by omega), fJ (x := v.scale + 1) (by omega) (by omega), jy (by omega) (by omega) (by omega) (by omega)]
  rw [show (0 - v.n).natAbs = v.n.natAbs by omega, show (v.scale + 1).toNat = v.scale.toNat + 1 by omega]
  rw [ae, show (ByteArray.mk #[45]) = bs [45] from rfl, pn _ [45] v.scale h3 (by omega) (by omega) (by simp)]
  unfold sg; rw [if_pos hn]; rfl
 ·rw [if_neg (by simpa using hn), Eu, fJ (x := v.scale + 1) (by omega) (by omega), jy (by omega) (by omega) (by omega) (by omega)]
  rw [show (v.scale + 1).toNat = v.scale.toNat + 1 by omega]
  rw [ae, show (ByteArray.mk #[]) = bs [] from rfl, pn _ [] v.scale h3 (by omega) (by omega) (by simp)]
  unfold sg; rw [if_neg hn]; rfl
end Go.Proofs.YtpmoopnkoknbeaaGreatDoor
namespace Go.Proofs.YtpmoopnkoknbeaaGreatDoor
open Go Go.PX Go.SX Go.SX.Cal
theorem tC {n : Int} (h1 : -62135596800 ≤ n) (h2 : n ≤ 253402300799) : Tm.chk (Tm.civ n) ∧ Tm.sec (Tm.civ n) = n := by
 obtain ⟨hf, hs, hd1, hd2⟩ := Tm.civ_ok (s := n) (by omega) (by omega)
 refine ⟨?_, hs⟩
 have hy1 : 1 ≤ (Tm.civ n).year := by
  rcases Int.lt_or_le (Tm.civ n).year 1 with h | h
  ·exfalso
   have h3 : (Cal.date (n / 86400)).1 = (Tm.civ n).year := rfl
   have h4 := (qQ.1 h3).2
   have h5 := kE (y := (Tm.civ n).year + 1) (z := 1) (by omega)
   rw [Tm.days_one] at h5
   omega
  ·exact h
 have hy2 : (Tm.civ n).year ≤ 9999 := by
  rcases Int.lt_or_le 9999 (Tm.civ n).year with h | h
  ·exfalso
   have h3 : (Cal.date (n / 86400)).1 = (Tm.civ n).year := rfl
   have h4 := (qQ.1 h3).1
   have h5 := kE (y := 10000) (z := (Tm.civ n).year) (by omega)
   have h6 : Cal.days 10000 1 1 = 2932897 := by decide +kernel
   rw [h6] at h5
   omega
  ·exact h
 obtain ⟨_, _, m1, m2, _, _, a1, a2, a3, a4, a5, a6⟩ := hf
 exact ⟨hy1, hy2, m1, m2, hd1, hd2, a1, a2, a3, a4, a5, a6⟩
theorem HZ {n : Int} (h1 : -62135596800 ≤ n) (h2 : n ≤ 253402300799) : nu n = some (bs (uq (Tm.civ n))) := by
 obtain ⟨a1, a2, b1, b2, c1, c2, d1, d2, e1, e2, f1, f2⟩ := (tC h1 h2).1
 have hdim := Tm.dim_bound (Tm.civ n).year (Tm.civ n).month
 unfold nu uq AS
 rw [Tm.civil_eq (by omega) (by omega)]
 generalize Tm.civ n = c at *
 have l1 := js (n := c.year) (by omega) 4 (by decide)
 have l2 := js (n := c.month) (by omega) 2 (by decide)
 have l3 := js (n := c.day) (by omega) 2 (by decide)
 have l4 := js (n := c.hour) (by omega) 2 (by decide)
 have l5 := js (n := c.minute) (by omega) 2 (by decide)
 have l6 := js (n := c.second) (by omega) 2 (by decide)
 simp only [ae]
 rw [kK (n := c.year) (by omega) (by omega) (by omega) (by omega), kK (n := c.month) (by omega) (by omega) (by omega) (by omega), kK (n := c.day) (by omega) (by omega) (by omega) (by omega),
  kK (n := c.hour) (by omega) (by omega) (by omega) (by omega), kK (n := c.minute) (by omega) (by omega) (by omega) (by omega), kK (n := c.second) (by omega) (by omega) (by omega) (by omega)]
 simp only [ae, show (4 : Int).toNat = 4 from rfl, show (2 : Int).toNat = 2 from rfl]
 generalize kz 4 c.year.natAbs = x1 at *
 generalize kz 2 c.month.natAbs = x2 at *
 generalize kz 2 c.day.natAbs = x3 at *
 generalize kz 2 c.hour.natAbs = x4 at *
 generalize kz 2 c.minute.natAbs = x5 at *
 generalize kz 2 c.second.natAbs = x6 at *
 simp only [gQ, aD, List.length_append, List.length_cons, List.length_nil]
 repeat rw [bO (by omega)]
 simp only [List.append_assoc, List.cons_append, List.nil_append]
theorem KC {n : Int} (h1 : -62135596800 ≤ n) (h2 : n ≤ 253402300799) (v : ac) (hk : v.kind = 5) (hn : v.n = n) (k0 : Nat) : dT (k0 + 1) v = some (bs (uq (Tm.civ n))) := by
 obtain ⟨a1, a2, b1, b2, c1, c2, d1, d2, e1, e2, f1, f2⟩ := (tC h1 h2).1
 have hdim := Tm.dim_bound (Tm.civ n).year (Tm.civ n).month
 have hy := Tm.years_of (s := n) (by omega) (by omega)
 rw [dT]
 simp only [hk, hn, aB]
 rw [if_neg (by decide), if_neg (by decide), if_neg (by decide), if_neg (by decide), if_pos (by decide)]
 rw [Tm.rcivil_eq (by omega) (by omega) hy.1 hy.2]
 unfold uq AS
 generalize Tm.civ n = c at *
 have l1 := js (n := c.year) (by omega) 4 (by decide)
 have l2 := js (n := c.month) (by omega) 2 (by decide)
 have l3 := js (n := c.day) (by omega) 2 (by decide)
 have l4 := js (n := c.hour) (by omega) 2 (by decide)
 have l5 := js (n := c.minute) (by omega) 2 (by decide)
 have l6 := js (n := c.second) (by omega) 2 (by decide)
 simp only [ae]
 rw [jy (n := c.year) (by omega) (by omega) (by omega) (by omega), jy (n := c.month) (by omega) (by omega) (by omega) (by omega), jy (n := c.day) (by omega) (by omega) (by omega) (by omega),
  jy (n := c.hour) (by omega) (by omega) (by omega) (by omega), jy (n := c.minute) (by omega) (by omega) (by omega) (by omega), jy (n := c.second) (by omega) (by omega) (by omega) (by omega)]
 simp only [ae, show (4 : Int).toNat = 4 from rfl, show (2 : Int).toNat = 2 from rfl]
 generalize kz 4 c.year.natAbs = x1 at *
 generalize kz 2 c.month.natAbs = x2 at *
 generalize kz 2 c.day.natAbs = x3 at *
 generalize kz 2 c.hour.natAbs = x4 at *
 generalize kz 2 c.minute.natAbs = x5 at *
 generalize kz 2 c.second.natAbs = x6 at *
 simp only [gQ, aD, List.length_append, List.length_cons, List.length_nil]
 repeat rw [bO (by omega)]
 simp only [List.append_assoc, List.cons_append, List.nil_append]
end Go.Proofs.YtpmoopnkoknbeaaGreatDoor
namespace Go.Proofs.YtpmoopnkoknbeaaGreatDoor
open Go Go.PX Go.SX Go.SX.Cal
structure Ly (v : ac) : Prop where
 num : v.kind = 2 ∨ v.kind = 3 → -999999999999999999 ≤ v.n ∧ v.n ≤ 999999999999999999
 sc : v.kind = 3 → 0 ≤ v.scale ∧ v.scale ≤ 12
 mom : v.kind = 5 → -62135596800 ≤ v.n ∧ v.n ≤ 253402300799
 txt : v.kind = 4 → v.s.size ≤ 256
 kin : 0 ≤ v.kind ∧ v.kind ≤ 7
 lst : v.kind = 6 → v.items.length ≤ 64
 bool : v.kind = 1 → v.n = 0 ∨ v.n = 1
 zero : v.kind ≠ 4 → v.s.size = 0
 nn : v.kind = 0 ∨ v.kind = 4 ∨ v.kind = 6 ∨ v.kind = 7 → v.n = 0
 rcd : v.kind = 7 → 1 ≤ v.items.length
theorem lz {v : ac} (h : bi v = true) : Ly v := by
 unfold bi at h
 simp only at h
 split at h
 ·simp at h; exact ⟨by omega, by omega, by omega, by omega, by omega, by omega, by omega, fun _ => by rw [h.2.1]; rfl, fun _ => h.1.1, by omega⟩
 ·split at h
  ·simp at h; exact ⟨by omega, by omega, by omega, by omega, by omega, by omega, by omega, fun _ => by rw [h.2.2.1]; rfl, by omega, by omega⟩
  ·split at h
   ·simp at h; exact ⟨by omega, by omega, by omega, by omega, by omega, by omega, by omega, fun _ => by rw [h.2.2.1]; rfl, by omega, by omega⟩
   ·split at h
    ·simp at h; exact ⟨by omega, by omega, by omega, by omega, by omega, by omega, by omega, fun _ => by rw [h.2.2.1]; rfl, by omega, by omega⟩
    ·split at h
     ·unfold oE at h; simp at h; exact ⟨by omega, by omega, by omega, by omega, by omega, by omega, by omega, by omega, fun _ => h.1.1, by omega⟩
     ·split at h
      ·simp at h; exact ⟨by omega, by omega, by omega, by omega, by omega, by omega, by omega, fun _ => by rw [h.2.2.1]; rfl, by omega, by omega⟩
      ·split at h
       ·simp at h; exact ⟨by omega, by omega, by omega, by omega, by omega, by omega, by omega, fun _ => by rw [h.2.1]; rfl, fun _ => h.1.1, by omega⟩
       ·split at h
        ·simp at h; exact ⟨by omega, by omega, by omega, by omega, by omega, by omega, by omega, fun _ => by rw [h.2.1]; rfl, fun _ => h.1.1, by omega⟩
        ·cases h
theorem xl (n : Int) (l : List UInt8) : (sg n l).length ≤ l.length + 1 := by unfold sg; split <;> simp
theorem D9 {n sc : Int} (h1 : -999999999999999999 ≤ n) (h2 : n ≤ 999999999999999999) (h3 : 0 ≤ sc) (h4 : sc ≤ 12) : (FO n sc).length ≤ 20 := by
 have hp := js (n := n) (by omega) (sc.toNat + 1) (by omega)
 unfold FO
 refine Nat.le_trans (xl _ _) ?_
 simp
 omega
theorem zA {n : Int} (h1 : -62135596800 ≤ n) (h2 : n ≤ 253402300799) : (uq (Tm.civ n)).length = 20 := by
 obtain ⟨a1, a2, b1, b2, c1, c2, d1, d2, e1, e2, f1, f2⟩ := (tC h1 h2).1
 have hdim := Tm.dim_bound (Tm.civ n).year (Tm.civ n).month
 unfold uq AS
 rw [show ∀ a b c d e f : List UInt8, a ++ 45 :: (b ++ 45 :: (c ++ 84 :: (d ++ 58 :: (e ++ 58 :: (f ++ [90]))))) = a ++ ([45] ++ b) ++ ([45] ++ c) ++ ([84] ++ d) ++ ([58] ++ e) ++ ([58] ++ f) ++ [90] from fun _ _ _ _ _ _ => by simp]
 simp only [List.length_append, List.length_singleton]
 rw [pG 4 _ (by decide) (by omega), pG 2 _ (by decide) (by omega), pG 2 _ (by decide) (by omega), pG 2 _ (by decide) (by omega), pG 2 _ (by decide) (by omega), pG 2 _ (by decide) (by omega)]
theorem yA : ∀ (d : Nat) (v : ac), rt d v → (T v).length + 2 ≤ 30 * bh v := by
 intro d
 induction d with
 | zero => intro v h; exact h.zero.elim
 | succ d ih =>
  intro v h
  obtain ⟨hp, hi⟩ := h.succ
  have hl := lz hp
  have hTR : ∀ l : List ac, (∀ x ∈ l, rt d x) → (TR l).length ≤ 30 * bM l := by
   intro l
   induction l with
   | nil => intro _; simp [TR]
   | cons x l ihl =>
    intro hx
    have h1 := ih x (hx x (List.mem_cons_self ..))
    have h2 := ihl (fun y hy => hx y (List.mem_cons_of_mem _ hy))
    simp only [TR, bM, List.length_cons, List.length_append]
    omega
  have hTJ : (TJ v.items).length ≤ 30 * bM v.items := by
   have := hTR v.items hi
   cases hv : v.items with
   | nil => simp [TJ]
   | cons x l =>
    rw [hv] at this
    simp only [TR, TJ, List.length_cons, List.length_append] at this ⊢
    omega
  obtain ⟨k, n, sc, s, l⟩ := v
  have hs := eJ ⟨k, n, sc, s, l⟩
  simp only at hs hTJ hl
  have g1 := hl.num
  have g2 := hl.sc
  have g3 := hl.mom
  simp only at g1 g2 g3
  rw [T]
  split
  ·simp; omega
  ·split
   ·split <;> simp <;> omega
   ·split
    ·have := xl n (Lib.decDigits n.natAbs)
     have := wx n.natAbs (by have := g1 (.inl ‹_›); omega)
     omega
    ·split
     ·have a := g1 (.inr ‹_›)
      have b := g2 ‹_›
      have := D9 a.1 a.2 b.1 b.2
      omega
     ·split
      ·have := wD s.data.toList
       have e : s.data.toList.length = s.size := by simp
       simp; omega
      ·split
       ·have a := g3 ‹_›
        have := zA a.1 a.2
        omega
       ·split <;> simp <;> omega
end Go.Proofs.YtpmoopnkoknbeaaGreatDoor
namespace Go.Proofs.YtpmoopnkoknbeaaGreatDoor
open Go Go.PX Go.SX Go.SX.Cal
theorem mQ (v : ac) : T v = if v.kind = 0 then [110, 117, 108, 108]
  else if v.kind = 1 then (if v.n = 1 then [116, 114, 117, 101] else [102, 97, 108, 115, 101])
  else if v.kind = 2 then sg v.n (Lib.decDigits v.n.natAbs)
  else if v.kind = 3 then FO v.n v.scale
  else if v.kind = 4 then 39 :: (qH v.s.data.toList ++ [39])
  else if v.kind = 5 then uq (Tm.civ v.n)
  else if v.kind = 6 then 91 :: (TJ v.items ++ [93])
  else 40 :: (TJ v.items ++ [41]) := by
 obtain ⟨k, n, sc, s, l⟩ := v
 rw [T]
theorem Cm {d : Nat} {l : List ac} (h : ∀ x ∈ l, rt d x) : (TJ l).length ≤ 30 * bM l := by
 induction l with
 | nil => simp [TJ]
 | cons x l ih =>
  have hTR : ∀ l : List ac, (∀ x ∈ l, rt d x) → (TR l).length ≤ 30 * bM l := by
   intro l
   induction l with
   | nil => intro _; simp [TR]
   | cons x l ihl =>
    intro hx
    have h1 := yA d x (hx x (List.mem_cons_self ..))
    have h2 := ihl (fun y hy => hx y (List.mem_cons_of_mem _ hy))
    simp only [TR, bM, List.length_cons, List.length_append]
    omega
  have h1 := yA d x (h x (List.mem_cons_self ..))
  have h2 := hTR l (fun y hy => h y (List.mem_cons_of_mem _ hy))
  simp only [TJ, bM, List.length_append]
  omega
theorem w8 : ∀ (l : List ac) (i : Nat), bM (l.take i) ≤ bM l
 | [], i => by simp
 | v :: l, 0 => by simp [bM]
 | v :: l, i + 1 => by
  have := w8 l i
  simp only [List.take_succ_cons, bM]
  omega
theorem lO {α : Type} {l : List α} {i : Nat} (h : i < l.length) : l.take (i + 1) = l.take i ++ [l[i]] := List.take_succ_eq_append_getElem h
theorem EE (v : ac) (q : ac → Option ByteArray) (hq : ∀ x ∈ v.items, q x = some (bs (T x))) (hl : v.items.length ≤ 1000000000) : ∀ (m f i : Nat), i + m = v.items.length → m < f →
  fW q v f ((v.items.take i).map fun x => bs (T x)) (i : Int) = ke v (v.items.map fun x => bs (T x)) := by
 intro m
 induction m with
 | zero =>
  intro f i hi hf
  obtain ⟨f, rfl⟩ : ∃ g, f = g + 1 := ⟨f - 1, by omega⟩
  rw [fW, aB, if_neg (by simp; omega), show i = v.items.length by omega, List.take_length]
 | succ m ih =>
  intro f i hi hf
  obtain ⟨f, rfl⟩ : ∃ g, f = g + 1 := ⟨f - 1, by omega⟩
  have hlt : i < v.items.length := by omega
  rw [fW, aB, if_pos (by simp; omega), cf hlt, ae, hq _ (List.getElem_mem hlt), ae, bO (by simp; omega), fJ (by omega) (by omega)]
  have e : ((v.items.take i).map fun x => bs (T x)) ++ [bs (T v.items[i])] = (v.items.take (i + 1)).map fun x => bs (T x) := by
   rw [lO hlt, List.map_append]; rfl
  rw [e]
  exact ih f (i + 1) (by omega) (by omega)
theorem IL {d : Nat} (v : ac) (hv : bh v ≤ 10000000) (hi : ∀ x ∈ v.items, rt d x) : ke v (v.items.map fun x => bs (T x)) = some (bs (if v.kind = 6 then 91 :: (TJ v.items ++ [93]) else 40 :: (TJ v.items ++ [41]))) := by
 have hs := eJ v
 have hl := Cm hi
 have hn := eN v.items
 unfold ke strings_Join
 have e : (v.items.map fun x => bs (T x)).map (·.data.toList) = v.items.map T := by
  rw [List.map_map]; rfl
 rw [e]
 show ay (bB (_ ∧ (Lib.join _ [44, 32]).length ≤ _) (some (bs (Lib.join _ [44, 32])))) _ = _
 rw [JZ, bO (by simp; omega), ae, aB]
 by_cases h6 : v.kind = 6
 ·rw [if_pos (by simpa using h6), if_pos h6]
  show bB ((bs [91]).size + _ ≤ _) (bB ((bs [91] ++ _).size + (bs [93]).size ≤ _) (some ((bs [91] ++ _) ++ bs [93]))) = _
  simp only [gQ, aD, List.length_append, List.length_singleton]
  rw [bO (by omega), bO (by omega)]
  simp
 ·rw [if_neg (by simpa using h6), if_neg h6]
  show bB ((bs [40]).size + _ ≤ _) (bB ((bs [40] ++ _).size + (bs [41]).size ≤ _) (some ((bs [40] ++ _) ++ bs [41]))) = _
  simp only [gQ, aD, List.length_append, List.length_singleton]
  rw [bO (by omega), bO (by omega)]
  simp
theorem zW : ∀ (d k : Nat) (v : ac), rt d v → d ≤ k → bh v ≤ 10000000 → fD k v = some (bs (T v)) := by
 intro d
 induction d with
 | zero => intro k v h; exact h.zero.elim
 | succ d ih =>
  intro k v h hk hv
  obtain ⟨k, rfl⟩ : ∃ g, k = g + 1 := ⟨k - 1, by omega⟩
  obtain ⟨hp, hi⟩ := h.succ
  have hl := lz hp
  have hs := eJ v
  have hn := eN v.items
  rw [fD, mQ]
  simp only [aB, beq_iff_eq]
  by_cases h0 : v.kind = 0
  ·simp only [h0, if_true]
  rw [if_neg h0, if_neg h0]
  by_cases h1 : v.kind = 1
  ·rw [if_pos h1, if_pos h1]
   unfold ku fQ
   by_cases hn1 : v.n = 1
   ·simp [hn1, ax, ay]
   ·have e1 : (v.n == 1) = false := by simpa using hn1
    rw [if_neg hn1, e1]; rfl
  rw [if_neg h1, if_neg h1]
  by_cases h2 : v.kind = 2
  ·rw [if_pos h2, if_pos h2, Ag (hl.num (.inl h2)).1 (hl.num (.inl h2)).2]; rfl
  rw [if_neg h2, if_neg h2]
  by_cases h3 : v.kind = 3
  ·rw [if_pos h3, if_pos h3, Cp (hl.num (.inr h3)).1 (hl.num (.inr h3)).2 (hl.sc h3).1 (hl.sc h3).2]; rfl
  rw [if_neg h3, if_neg h3]
  by_cases h4 : v.kind = 4
  ·rw [if_pos h4, if_pos h4]
   have hz := hl.txt h4
   have hr := xS v.s.data.toList
   have hel := wD v.s.data.toList
   have hsl : v.s.data.toList.length = v.s.size := by simp
   unfold strings_ReplaceAll
   rw [bO ⟨by omega, by decide, by
    show v.s.size + Lib.count v.s.data.toList [39] * 2 ≤ _
    have := hr.2; omega⟩, ae]
   show bB ((bs [39]).size + (bs (Lib.replaceAll v.s.data.toList [39] [39, 39])).size ≤ _) (bB ((bs [39] ++ bs (Lib.replaceAll v.s.data.toList [39] [39, 39])).size + (bs [39]).size ≤ _) (some ((bs [39] ++ bs (Lib.replaceAll v.s.data.toList [39] [39, 39])) ++ bs [39]))) = _
   rw [hr.1]
   simp only [gQ, aD, List.length_append, List.length_singleton]
   rw [bO (by omega), bO (by omega)]
   simp
  rw [if_neg h4, if_neg h4]
  by_cases h5 : v.kind = 5
  ·rw [if_pos h5, if_pos h5, HZ (hl.mom h5).1 (hl.mom h5).2]; rfl
  rw [if_neg h5, if_neg h5]
  have := EE v (fD k) (fun x hx => ih k x (hi x hx) (by omega) (by have := eQ hx; omega)) (by omega) v.items.length ba 0 (by omega) (by rw [aF]; omega)
  simp only [List.take_zero, List.map_nil] at this
  refine Eq.trans ?_ (IL v hv hi)
  rw [← this]
  rfl
theorem zr (l : List UInt8) (i : Nat) (h : i < l.length) : l.getD i 0 = l[i] := by simp [List.getD, h]
theorem Dq (v : ac) (hs : v.s.size ≤ 256) : ∀ (m f i : Nat), i + m = v.s.size → m < f →
  ei v f (bs (39 :: qH (v.s.data.toList.take i))) (i : Int) = some (bs (39 :: (qH v.s.data.toList ++ [39]))) := by
 have hsl : v.s.data.toList.length = v.s.size := by simp
 intro m
 induction m with
 | zero =>
  intro f i hi hf
  obtain ⟨f, rfl⟩ : ∃ g, f = g + 1 := ⟨f - 1, by omega⟩
  have hel := wD v.s.data.toList
  rw [ei, aB, if_neg (by simp; omega), List.take_of_length_le (by omega)]
  unfold po
  show bB ((bs _).size + (bs [39]).size ≤ _) (some (bs _ ++ bs [39])) = _
  simp only [gQ, aD, List.length_append, List.length_singleton, List.length_cons, List.length_nil]
  rw [bO (by omega)]
  simp
 | succ m ih =>
  intro f i hi hf
  obtain ⟨f, rfl⟩ : ∃ g, f = g + 1 := ⟨f - 1, by omega⟩
  have hlt : i < v.s.data.toList.length := by omega
  have hel := wD (v.s.data.toList.take i)
  have htl : (v.s.data.toList.take i).length ≤ i := by simp; omega
  have hone : v.s.extract (i : Int).toNat (((i : Int) + 1).toNat) = bs [v.s.data.toList[i]] := by
   have := lA v.s.data.toList i (i + 1)
   rw [vg] at this
   rw [show (i : Int).toNat = i by omega, show ((i : Int) + 1).toNat = i + 1 by omega, this]
   rw [List.take_succ_eq_append_getElem hlt, List.drop_left' (by simp; omega)]
  have hget : v.s.data.toList.getD (i : Int).toNat 0 = v.s.data.toList[i] := by
   rw [show (i : Int).toNat = i by omega, zr _ _ hlt]
  rw [ei, aB, if_pos (by simp; omega), fJ (x := (i : Int) + 1) (by omega) (by omega), bO (by omega), hone, gQ, hget]
  have hnext : v.s.data.toList.take (i + 1) = v.s.data.toList.take i ++ [v.s.data.toList[i]] := List.take_succ_eq_append_getElem hlt
  generalize hc : v.s.data.toList[i] = c at *
  simp only [aD, List.length_cons, List.length_nil]
  rw [bO (by omega), ae, bO (by omega), aB]
  unfold m7
  rw [fJ (x := (i : Int) + 1) (by omega) (by omega)]
  have := ih f (i + 1) (by omega) (by omega)
  rw [hnext, DD] at this
  by_cases h39 : c = 39
  ·subst h39
   rw [if_pos (by decide)]
   show bB ((bs _).size + (bs [39]).size ≤ _) (ei v f (bs _ ++ bs [39]) _) = _
   rw [gQ, aD, aD, bO (by simp; omega)]
   rw [← this]
   simp [qH]
  ·rw [if_neg (by
    simp only [beq_iff_eq]
    intro h
    exact h39 (UInt8.toNat_inj.1 (by show c.toNat = 39; omega)))]
   rw [← this]
   simp [qH, h39]
theorem AW {d : Nat} (v : ac) (q : ac → Option ByteArray) (hv : bh v ≤ 10000000) (hi : ∀ x ∈ v.items, rt d x) (hq : ∀ x ∈ v.items, q x = some (bs (T x))) : ∀ (m f i : Nat), i + m = v.items.length → m < f →
  el q v f (bs (TJ (v.items.take i))) (i : Int) = some (bs (if v.kind = 6 then 91 :: (TJ v.items ++ [93]) else 40 :: (TJ v.items ++ [41]))) := by
 have hs := eJ v
 have hn := eN v.items
 intro m
 induction m with
 | zero =>
  intro f i hii hf
  obtain ⟨f, rfl⟩ : ∃ g, f = g + 1 := ⟨f - 1, by omega⟩
  have hl := Cm hi
  rw [el, aB, if_neg (by simp; omega), List.take_of_length_le (by omega)]
  unfold pP
  rw [aB]
  by_cases h6 : v.kind = 6
  ·rw [if_pos (by simpa using h6), if_pos h6]
   show bB ((bs [91]).size + _ ≤ _) (bB ((bs [91] ++ _).size + (bs [93]).size ≤ _) (some ((bs [91] ++ _) ++ bs [93]))) = _
   simp only [gQ, aD, List.length_append, List.length_singleton]
   rw [bO (by omega), bO (by omega)]
   simp
  ·rw [if_neg (by simpa using h6), if_neg h6]
   show bB ((bs [40]).size + _ ≤ _) (bB ((bs [40] ++ _).size + (bs [41]).size ≤ _) (some ((bs [40] ++ _) ++ bs [41]))) = _
   simp only [gQ, aD, List.length_append, List.length_singleton]
   rw [bO (by omega), bO (by omega)]
   simp
 | succ m ih =>
  intro f i hii hf
  obtain ⟨f, rfl⟩ : ∃ g, f = g + 1 := ⟨f - 1, by omega⟩
  have hlt : i < v.items.length := by omega
  have hm := List.getElem_mem hlt
  have hTl := yA d _ (hi _ hm)
  have hsm := eQ hm
  have hJl : (TJ (v.items.take i)).length ≤ 30 * bM v.items := Nat.le_trans (Cm (fun x hx => hi x (List.mem_of_mem_take hx))) (by have := w8 v.items i; omega)
  have hnext := ih f (i + 1) (by omega) (by omega)
  rw [lO hlt] at hnext
  rw [el, aB, if_pos (by simp; omega), aB]
  by_cases h0 : i = 0
  ·subst h0
   rw [if_neg (by simp)]
   unfold kV
   rw [show at? v.items ((0 : Nat) : Int) = some v.items[0] from cf hlt, ae, hq _ hm, ae, gQ, aD, aD, bO (by omega), fJ (by omega) (by omega), ← hnext]
   simp [TJ, TR]
  ·rw [if_pos (by simp; omega)]
   unfold kV
   rw [cf hlt, ae, hq _ hm, ae]
   show bB ((bs _).size + (bs [44, 32]).size ≤ _) (bB ((bs _ ++ bs [44, 32]).size + _ ≤ _) (el q v f ((bs _ ++ bs [44, 32]) ++ _) _)) = _
   simp only [gQ, aD, List.length_append, List.length_cons, List.length_nil]
   rw [bO (by omega), bO (by omega), fJ (by omega) (by omega), ← hnext, IH _ _ (fun e => by have := congrArg List.length e; rw [List.length_take, List.length_nil] at this; omega)]
   simp
theorem Hm : ∀ (d k : Nat) (v : ac), rt d v → d ≤ k → bh v ≤ 10000000 → dT k v = some (bs (T v)) := by
 intro d
 induction d with
 | zero => intro k v h; exact h.zero.elim
 | succ d ih =>
  intro k v h hk hv
  obtain ⟨k, rfl⟩ : ∃ g, k = g + 1 := ⟨k - 1, by omega⟩
  obtain ⟨hp, hi⟩ := h.succ
  have hl := lz hp
  have hs := eJ v
  have hn := eN v.items
  by_cases h3 : v.kind = 3
  ·rw [AX h3 (hl.num (.inr h3)).1 (hl.num (.inr h3)).2 (hl.sc h3).1 (hl.sc h3).2, mQ]
   simp [h3]
  by_cases h5 : v.kind = 5
  ·rw [KC (hl.mom h5).1 (hl.mom h5).2 v h5 rfl, mQ]
   simp [h5]
  rw [dT, mQ]
  simp only [aB, beq_iff_eq]
  by_cases h1 : v.kind = 1
  ·have h0 : ¬ v.kind = 0 := by omega
   rw [if_pos h1, if_neg h0, if_pos h1]
   by_cases hn1 : v.n = 1
   ·rw [if_pos hn1, if_pos hn1]
   ·rw [if_neg hn1, if_neg hn1]
  rw [if_neg h1]
  by_cases h2 : v.kind = 2
  ·rw [if_pos h2, Ag (hl.num (.inl h2)).1 (hl.num (.inl h2)).2, if_neg (show ¬ v.kind = 0 by omega), if_neg h1, if_pos h2]; rfl
  rw [if_neg h2, if_neg h3]
  by_cases h4 : v.kind = 4
  ·rw [if_pos h4, if_neg (show ¬ v.kind = 0 by omega), if_neg h1, if_neg h2, if_neg h3, if_pos h4]
   have := Dq v (hl.txt h4) v.s.size ba 0 (by omega) (by rw [aF]; have := hl.txt h4; omega)
   rw [List.take_zero] at this
   exact this
  rw [if_neg h4, if_neg h5]
  by_cases h0 : v.kind = 0
  ·unfold lh
   simp [h0, aB]
  rw [if_neg h0, if_neg h1, if_neg h2, if_neg h3, if_neg h4, if_neg h5]
  have hlp := AW v (dT k) hv hi (fun x hx => ih k x (hi x hx) (by omega) (by have := eQ hx; omega)) v.items.length ba 0 (by omega) (by rw [aF]; omega)
  rw [List.take_zero, TJ] at hlp
  unfold lh
  have hk7 : v.kind = 6 ∨ v.kind = 7 := by have := hl.kin; omega
  rcases hk7 with h6 | h7
  ·rw [if_pos h6, aB, if_pos (by simp [h6]), if_pos h6]
   rw [if_pos h6] at hlp
   exact hlp
  ·rw [if_neg (by omega), aB, if_pos (by simp [h7]), if_neg (by omega)]
   rw [if_neg (by omega)] at hlp
   exact hlp
def TX (v : ac) : List UInt8 := if cK v = true then T v else []
theorem Gd {v : ac} (h : cK v = true) : rt 4 v := ⟨0, h⟩
theorem AT (v : ac) (hv : bh v ≤ 10000000) : qc v = some (bs (TX v)) := by
 unfold qc TX
 rw [vh v (by omega), ae, aB]
 cases h : cK v with
 | false => rfl
 | true =>
  rw [if_neg (by simp), zW 4 ba v (Gd h) (by rw [aF]; omega) hv]; rfl
theorem xU (v : ac) (hv : bh v ≤ 10000000) : oW v = some (bs (TX v)) := by
 unfold oW TX
 rw [uz v (by omega), ae, aB]
 cases h : cK v with
 | false => rfl
 | true =>
  rw [if_neg (by simp), Hm 4 ba v (Gd h) (by rw [aF]; omega) hv]; rfl
end Go.Proofs.YtpmoopnkoknbeaaGreatDoor
namespace Go.Proofs.YtpmoopnkoknbeaaGreatDoor
open Go Go.PX Go.SX Go.SX.Cal
theorem mq (p s : List UInt8) (bad : Bool) : cI (bs p) ⟨bs s, bad⟩ = some (pre p s, ⟨bs (off p s), bad⟩) := by
 have hp : bQ (bs s) (bs p) = some (pre p s) := by
  unfold bQ bX
  simp only [aD, aB]
  by_cases h : p.length ≤ s.length
  ·rw [if_pos (by simpa using h), bO (by omega), ae, lA, mZ]
   congr 1
   rw [Bool.eq_iff_iff, iM]
   simp [h]
  ·rw [if_neg (by simpa using h)]
   congr 1
   rw [eq_comm, Bool.eq_false_iff]
   intro h2
   exact h ((iM _ _).1 h2).1
 unfold cI fk i8 du
 simp only [hp, ae, aB]
 unfold off
 cases h : pre p s with
 | false => simp [ay]
 | true =>
  have := ((iM _ _).1 h).1
  simp only [aD, Bool.not_true, Bool.false_eq_true, if_false]
  rw [bO (by omega), lA]
  simp [ay, ax]
abbrev iS (p s : List UInt8) : List UInt8 := s.takeWhile (p.contains ·)
abbrev od (p s : List UInt8) : List UInt8 := s.dropWhile (p.contains ·)
theorem np (p s : List UInt8) : iS p s ++ od p s = s := List.takeWhile_append_dropWhile
theorem tL (p s : List UInt8) : (od p s).length ≤ s.length := by
 have := congrArg List.length (np p s)
 rw [List.length_append] at this; omega
theorem mi (p s : List UInt8) : (iS p s).length ≤ s.length := by
 have := congrArg List.length (np p s)
 rw [List.length_append] at this; omega
theorem DH (p s : List UInt8) (bad : Bool) (hp : p.length ≤ 1000) (ha : p.all (fun b => decide (b.toNat < 128)) = true) (hs : s.length ≤ 1000000000) :
  br (bs p) ⟨bs s, bad⟩ = some (bs (iS p s), ⟨bs (od p s), bad⟩) := by
 have hd := tL p s
 have hl := congrArg List.length (np p s)
 rw [List.length_append] at hl
 unfold br jD
 rw [bO ⟨by rw [aD]; omega, ha⟩, ae]
 show bB (_ ∧ _ ∧ _) (ay (some ((bs s).extract _ (IntKind.i64.wrap (((bs s).size : Int) - ((bs (od p s)).size : Int))).toNat)) fun y1 => some (y1, aO.mk (bs (od p s)) bad)) = _
 rw [bO]
 ·simp only [aD]
  rw [fJ (by omega) (by omega), ae, lA, show (((s.length : Nat) : Int) - ((od p s).length : Int)).toNat = (iS p s).length by omega]
  have : s.take (iS p s).length = iS p s := by
   have h2 := np p s
   have h3 : (iS p s ++ od p s).take (iS p s).length = iS p s := List.take_left' rfl
   rw [h2] at h3
   exact h3
  rw [this]
  rfl
 ·show (0 : Int) ≤ 0 ∧ (0 : Int) ≤ IntKind.i64.wrap (((bs s).size : Int) - ((bs (od p s)).size : Int)) ∧ IntKind.i64.wrap (((bs s).size : Int) - ((bs (od p s)).size : Int)) ≤ ((bs s).size : Int)
  simp only [aD]
  rw [fJ (by omega) (by omega)]
  omega
theorem iX (l : List UInt8) (s : ByteArray) (bad : Bool) (hl : l.length ≤ 1000000000) : bF (bs l) ⟨s, bad⟩ = some ((gi l).1, ⟨s, bad || (gi l).2⟩) := by
 unfold bF fM fR nc
 rw [bO (by rw [aD]; omega), ae]
 show ax (gi l).2 _ _ = _
 simp only [aB]
 cases h : (gi l).2 <;> cases bad <;> simp
theorem fT (p s : List UInt8) (bad : Bool) : aU (bs p) ⟨bs s, bad⟩ = some ((), ⟨bs (off p s), bad || !pre p s⟩) := by
 unfold aU
 rw [mq, ae, aB]
 cases h : pre p s <;> cases bad <;> simp
abbrev lG : List UInt8 := [48, 49, 50, 51, 52, 53, 54, 55, 56, 57]
abbrev ut : List UInt8 := [45, 48, 49, 50, 51, 52, 53, 54, 55, 56, 57]
def st (e : UInt8) (s : List UInt8) (bad : Bool) : Int × List UInt8 × Bool :=
 ((gi (iS lG s)).1, off [e] (od lG s), (bad || (gi (iS lG s)).2) || !pre [e] (od lG s))
theorem nH (e : UInt8) (s : List UInt8) (bad : Bool) : (st e s bad).2.1.length ≤ s.length := by
 have h1 := tL lG s
 have h2 := kt [e] (od lG s)
 show (off [e] (od lG s)).length ≤ _
 omega
theorem vn (s : List UInt8) (bad : Bool) (hs : s.length ≤ 1000000000) : br (ByteArray.mk #[48, 49, 50, 51, 52, 53, 54, 55, 56, 57]) ⟨bs s, bad⟩ = some (bs (iS lG s), ⟨bs (od lG s), bad⟩) :=
 DH lG s bad (by decide) (by decide) hs
theorem vp (s : List UInt8) (bad : Bool) (hs : s.length ≤ 1000000000) : br (ByteArray.mk #[45, 48, 49, 50, 51, 52, 53, 54, 55, 56, 57]) ⟨bs s, bad⟩ = some (bs (iS ut s), ⟨bs (od ut s), bad⟩) :=
 DH ut s bad (by decide) (by decide) hs
theorem w7 {β : Type} {a b : Nat} (h : a ≤ b) (x : Option β) : bB (a ≤ b) x = x := bO h x
def Jb (a1 a2 a3 a4 a5 a6 : Int × List UInt8 × Bool) : Int × aO :=
 if Tm.chk ⟨a1.1, a2.1, a3.1, a4.1, a5.1, a6.1⟩ then (Tm.sec ⟨a1.1, a2.1, a3.1, a4.1, a5.1, a6.1⟩, ⟨bs a6.2.1, a6.2.2⟩) else (0, ⟨bs a6.2.1, true⟩)
theorem yN (s : List UInt8) (bad : Bool) (hs : s.length ≤ 1000000000) (a1 a2 a3 a4 a5 a6 : Int × List UInt8 × Bool)
  (h1 : a1 = st 45 s bad) (h2 : a2 = st 45 a1.2.1 a1.2.2) (h3 : a3 = st 84 a2.2.1 a2.2.2) (h4 : a4 = st 58 a3.2.1 a3.2.2) (h5 : a5 = st 58 a4.2.1 a4.2.2) (h6 : a6 = st 90 a5.2.1 a5.2.2) :
  ez ⟨bs s, bad⟩ = some (Jb a1 a2 a3 a4 a5 a6) := by
 have l1 : a1.2.1.length ≤ s.length := by rw [h1]; exact nH _ _ _
 have l2 : a2.2.1.length ≤ a1.2.1.length := by rw [h2]; exact nH _ _ _
 have l3 : a3.2.1.length ≤ a2.2.1.length := by rw [h3]; exact nH _ _ _
 have l4 : a4.2.1.length ≤ a3.2.1.length := by rw [h4]; exact nH _ _ _
 have l5 : a5.2.1.length ≤ a4.2.1.length := by rw [h5]; exact nH _ _ _
 unfold ez
 simp only [show at? ([(ByteArray.mk #[45]), (ByteArray.mk #[45]), (ByteArray.mk #[84]), (ByteArray.mk #[58]), (ByteArray.mk #[58]), (ByteArray.mk #[90])]) (0 : Int) = some (bs [45]) from rfl,
  show at? ([(ByteArray.mk #[45]), (ByteArray.mk #[45]), (ByteArray.mk #[84]), (ByteArray.mk #[58]), (ByteArray.mk #[58]), (ByteArray.mk #[90])]) (1 : Int) = some (bs [45]) from rfl,
  show at? ([(ByteArray.mk #[45]), (ByteArray.mk #[45]), (ByteArray.mk #[84]), (ByteArray.mk #[58]), (ByteArray.mk #[58]), (ByteArray.mk #[90])]) (2 : Int) = some (bs [84]) from rfl,
  show at? ([(ByteArray.mk #[45]), (ByteArray.mk #[45]), (ByteArray.mk #[84]), (ByteArray.mk #[58]), (ByteArray.mk #[58]), (ByteArray.mk #[90])]) (3 : Int) = some (bs [58]) from rfl,
  show at? ([(ByteArray.mk #[45]), (ByteArray.mk #[45]), (ByteArray.mk #[84]), (ByteArray.mk #[58]), (ByteArray.mk #[58]), (ByteArray.mk #[90])]) (4 : Int) = some (bs [58]) from rfl,
  show at? ([(ByteArray.mk #[45]), (ByteArray.mk #[45]), (ByteArray.mk #[84]), (ByteArray.mk #[58]), (ByteArray.mk #[58]), (ByteArray.mk #[90])]) (5 : Int) = some (bs [90]) from rfl, ae]
 simp only [List.cons_append, List.nil_append, List.length_cons, List.length_nil]
 simp only [w7 (show (0 + 1 + 1 : Nat) ≤ 4294967296 by decide), w7 (show (0 + 1 + 1 + 1 : Nat) ≤ 4294967296 by decide), w7 (show (0 + 1 + 1 + 1 + 1 : Nat) ≤ 4294967296 by decide), w7 (show (0 + 1 + 1 + 1 + 1 + 1 : Nat) ≤ 4294967296 by decide), w7 (show (0 + 1 + 1 + 1 + 1 + 1 + 1 : Nat) ≤ 4294967296 by decide)]
 rw [vn s bad (by omega), ae]; dsimp only
 rw [iX _ _ _ (by have := mi lG s; omega), ae]; dsimp only
 rw [fT, ae]; dsimp only
 rw [show off [45] (od lG s) = a1.2.1 by rw [h1]; rfl, show ((bad || (gi (iS lG s)).2) || !pre [45] (od lG s)) = a1.2.2 by rw [h1]; rfl, show (gi (iS lG s)).1 = a1.1 by rw [h1]; rfl]
 rw [vn a1.2.1 a1.2.2 (by omega), ae]; dsimp only
 rw [iX _ _ _ (by have := mi lG a1.2.1; omega), ae]; dsimp only
 rw [fT, ae]; dsimp only
 rw [show off [45] (od lG a1.2.1) = a2.2.1 by rw [h2]; rfl, show ((a1.2.2 || (gi (iS lG a1.2.1)).2) || !pre [45] (od lG a1.2.1)) = a2.2.2 by rw [h2]; rfl, show (gi (iS lG a1.2.1)).1 = a2.1 by rw [h2]; rfl]
 rw [vn a2.2.1 a2.2.2 (by omega), ae]; dsimp only
 rw [iX _ _ _ (by have := mi lG a2.2.1; omega), ae]; dsimp only
 rw [fT, ae]; dsimp only
 rw [show off [84] (od lG a2.2.1) = a3.2.1 by rw [h3]; rfl, show ((a2.2.2 || (gi (iS lG a2.2.1)).2) || !pre [84] (od lG a2.2.1)) = a3.2.2 by rw [h3]; rfl, show (gi (iS lG a2.2.1)).1 = a3.1 by rw [h3]; rfl]
 rw [vn a3.2.1 a3.2.2 (by omega), ae]; dsimp only
 rw [iX _ _ _ (by have := mi lG a3.2.1; omega), ae]; dsimp only
 rw [fT, ae]; dsimp only
 rw [show off [58] (od lG a3.2.1) = a4.2.1 by rw [h4]; rfl, show ((a3.2.2 || (gi (iS lG a3.2.1)).2) || !pre [58] (od lG a3.2.1)) = a4.2.2 by rw [h4]; rfl, show (gi (iS lG a3.2.1)).1 = a4.1 by rw [h4]; rfl]
 rw [vn a4.2.1 a4.2.2 (by omega), ae]; dsimp only
 rw [iX _ _ _ (by have := mi lG a4.2.1; omega), ae]; dsimp only
 rw [fT, ae]; dsimp only
 rw [show off [58] (od lG a4.2.1) = a5.2.1 by rw [h5]; rfl, show ((a4.2.2 || (gi (iS lG a4.2.1)).2) || !pre [58] (od lG a4.2.1)) = a5.2.2 by rw [h5]; rfl, show (gi (iS lG a4.2.1)).1 = a5.1 by rw [h5]; rfl]
 rw [vn a5.2.1 a5.2.2 (by omega), ae]; dsimp only
 rw [iX _ _ _ (by have := mi lG a5.2.1; omega), ae]; dsimp only
 rw [fT, ae]; dsimp only
 rw [show off [90] (od lG a5.2.1) = a6.2.1 by rw [h6]; rfl, show ((a5.2.2 || (gi (iS lG a5.2.1)).2) || !pre [90] (od lG a5.2.1)) = a6.2.2 by rw [h6]; rfl, show (gi (iS lG a5.2.1)).1 = a6.1 by rw [h6]; rfl]
 rw [show at? [a1.1, a2.1, a3.1, a4.1, a5.1, a6.1] (0 : Int) = some a1.1 from rfl, ae, show at? [a1.1, a2.1, a3.1, a4.1, a5.1, a6.1] (1 : Int) = some a2.1 from rfl, ae, show at? [a1.1, a2.1, a3.1, a4.1, a5.1, a6.1] (2 : Int) = some a3.1 from rfl, ae, show at? [a1.1, a2.1, a3.1, a4.1, a5.1, a6.1] (3 : Int) = some a4.1 from rfl, ae, show at? [a1.1, a2.1, a3.1, a4.1, a5.1, a6.1] (4 : Int) = some a5.1 from rfl, ae, show at? [a1.1, a2.1, a3.1, a4.1, a5.1, a6.1] (5 : Int) = some a6.1 from rfl, ae, Tm.check_eq, ae, aB]
 unfold Jb
 by_cases hc : Tm.chk ⟨a1.1, a2.1, a3.1, a4.1, a5.1, a6.1⟩
 ·have hc2 := hc
  unfold Tm.chk at hc2
  rw [if_pos hc, if_pos hc2, if_neg (by decide), Tm.seconds_eq (Tm.chk_fine hc), ae]
 ·have hc2 := hc
  unfold Tm.chk at hc2
  rw [if_neg hc, if_neg hc2, if_pos (by decide)]
end Go.Proofs.YtpmoopnkoknbeaaGreatDoor
namespace Go.Proofs.YtpmoopnkoknbeaaGreatDoor
open Go Go.PX Go.SX Go.SX.Cal
structure Rd (t : af) (s : List UInt8) (bad : Bool) (v : ac) (s' : List UInt8) (b' : Bool) : Prop where
 le : s'.length ≤ s.length
 sz : bh v + s'.length ≤ s.length + dF t
 ok : b' = false → bad = false ∧ bh v + s'.length ≤ s.length
theorem Dk : ∀ (n : Nat) (s cur acc : List UInt8), s.length ≤ n → (quo cur acc s).2.2 = false → (quo cur acc s).1.length + (quo cur acc s).2.1.length + 1 ≤ acc.length + s.length
 | 0, s, cur, acc, h => by
  have : s = [] := List.length_eq_zero_iff.1 (by omega)
  subst this
  rw [pw]; simp
 | n + 1, s, cur, acc, h => by
  match s with
  | [] => rw [pw]; simp
  | b :: r =>
   simp at h
   by_cases hb : b = 39
   ·subst hb
    by_cases hr : r.head? = some 39
    ·match r, hr with
     | c :: r, hr =>
      simp at hr; subst hr
      rw [tG]
      intro h2
      have := Dk n r r (acc ++ [39]) (by simp at h; omega) h2
      simp at this ⊢
      omega
    ·rw [tz _ _ _ hr]; simp; omega
   ·rw [oZ hb]
    intro h2
    have := Dk n r cur (acc ++ [b]) h h2
    simp at this ⊢
    omega
theorem zU : ∀ (n : Nat) (s cur acc : List UInt8), s.length ≤ n → (quo cur acc s).2.2 = true → (quo cur acc s).1 = []
 | 0, s, cur, acc, h => by
  have : s = [] := List.length_eq_zero_iff.1 (by omega)
  subst this
  rw [pw]; simp
 | n + 1, s, cur, acc, h => by
  match s with
  | [] => rw [pw]; simp
  | b :: r =>
   simp at h
   by_cases hb : b = 39
   ·subst hb
    by_cases hr : r.head? = some 39
    ·match r, hr with
     | c :: r, hr =>
      simp at hr; subst hr
      rw [tG]
      exact zU n r r (acc ++ [39]) (by simp at h; omega)
    ·rw [tz _ _ _ hr]; simp
   ·rw [oZ hb]
    exact zU n r cur (acc ++ [b]) h
theorem JT (s : List UInt8) : (quo s [] s).2.1.length ≤ s.length := by
 have := (zo s.length s s [] (Nat.le_refl _)).1
 omega
theorem yM (s : List UInt8) (bad : Bool) (hs : s.length ≤ 1000000000) : fI ⟨bs s, bad⟩ = some (bs (quo s [] s).1, ⟨bs (quo s [] s).2.1, bad || (quo s [] s).2.2⟩) := by
 unfold fI
 rw [bO (by rw [aD]; omega)]
theorem qw {p s : List UInt8} (h : pre p s = true) : (off p s).length + p.length = s.length := by
 have := ((iM _ _).1 h).1
 unfold off
 rw [if_pos h, List.length_drop]; omega
theorem pL {l : List UInt8} (h : (gi l).2 = false) : 1 ≤ l.length := by
 cases l with
 | nil => cases h
 | cons _ _ => simp
theorem yV {e : UInt8} {s : List UInt8} {bad : Bool} (h : (st e s bad).2.2 = false) : bad = false ∧ (st e s bad).2.1.length + 2 ≤ s.length := by
 unfold st at h ⊢
 simp only [Bool.or_eq_false_iff, Bool.not_eq_false'] at h
 obtain ⟨⟨h1, h2⟩, h3⟩ := h
 refine ⟨h1, ?_⟩
 have a := pL h2
 have b := qw h3
 have c := congrArg List.length (np lG s)
 rw [List.length_append] at c
 simp only [List.length_singleton] at b
 show (off [e] (od lG s)).length + 2 ≤ _
 omega
theorem Co (s : List UInt8) (bad : Bool) (hs : s.length ≤ 1000000000) : ∃ x s' b', ez ⟨bs s, bad⟩ = some (x, ⟨bs s', b'⟩) ∧ s'.length ≤ s.length ∧ (b' = false → bad = false ∧ s'.length + 2 ≤ s.length) := by
 have := yN s bad hs _ _ _ _ _ _ rfl rfl rfl rfl rfl rfl
 rw [this]
 have l1 := nH 45 s bad
 have k1 := @yV 45 s bad
 generalize st 45 s bad = a1 at *
 have l2 := nH 45 a1.2.1 a1.2.2
 have k2 := @yV 45 a1.2.1 a1.2.2
 generalize st 45 a1.2.1 a1.2.2 = a2 at *
 have l3 := nH 84 a2.2.1 a2.2.2
 have k3 := @yV 84 a2.2.1 a2.2.2
 generalize st 84 a2.2.1 a2.2.2 = a3 at *
 have l4 := nH 58 a3.2.1 a3.2.2
 have k4 := @yV 58 a3.2.1 a3.2.2
 generalize st 58 a3.2.1 a3.2.2 = a4 at *
 have l5 := nH 58 a4.2.1 a4.2.2
 have k5 := @yV 58 a4.2.1 a4.2.2
 generalize st 58 a4.2.1 a4.2.2 = a5 at *
 have l6 := nH 90 a5.2.1 a5.2.2
 have k6 := @yV 90 a5.2.1 a5.2.2
 generalize st 90 a5.2.1 a5.2.2 = a6 at *
 unfold Jb
 split
 ·refine ⟨_, _, _, rfl, by omega, fun h => ?_⟩
  have := k6 h
  have := k5 this.1
  have := k4 this.1
  have := k3 this.1
  have := k2 this.1
  have := k1 this.1
  exact ⟨this.1, by omega⟩
 ·exact ⟨_, _, _, rfl, by omega, fun h => by cases h⟩
theorem EX {t : af} (hV : V t) (hT : dF t < 1000000000) (q : af → aO → Option (ac × aO)) (e : UInt8) (N M : Nat) (hN : N ≤ 1000000000) (hkk : t.kind = 6 ∨ t.kind = 7)
  (hq : ∀ f ∈ t.fields, ∀ s bad, s.length ≤ N → ∃ v s' b', q f.type ⟨bs s, bad⟩ = some (v, ⟨bs s', b'⟩) ∧ s'.length ≤ s.length ∧ bh v + s'.length ≤ s.length + M ∧ (b' = false → bad = false ∧ bh v + s'.length ≤ s.length)) :
  ∀ (m f : Nat) (l : List ac) (s : List UInt8) (b : Bool) (S : Nat), 66 ≤ l.length + m → l.length ≤ 66 → m < f → s.length ≤ N → (t.kind = 7 → l.length ≤ t.fields.length) → (b = false → bM l + s.length ≤ S) → bM l + s.length ≤ S + M →
   ∃ l' s' b', aJ q t (bs [e]) f l (bs s) b = some (l', ⟨bs s', b'⟩) ∧ s'.length ≤ s.length ∧ bM l' + s'.length ≤ S + M ∧ (b' = false → b = false ∧ bM l' + s'.length ≤ S) := by
 have hlen := gA t
 have hfl := nD t.fields
 have hsn : ∀ (l : List ac) v, bM (l ++ [v]) = bM l + bh v := by
  intro l v
  induction l with
  | nil => simp [bM]
  | cons x l ih => simp only [List.cons_append, bM, ih]; omega
 intro m
 induction m with
 | zero =>
  intro f l s b S h1 h2 hf hs h7 hb hb2
  obtain ⟨f, rfl⟩ : ∃ g, f = g + 1 := ⟨f - 1, by omega⟩
  rw [aJ, aB]
  cases b with
  | true =>
   rw [if_neg (by simp)]
   exact ⟨l, s, true, rfl, Nat.le_refl _, hb2, fun h => by cases h⟩
  | false =>
   rw [if_pos (by simp), mq, ae]
   have hol := kt [e] s
   unfold bV cm bo cr
   simp only [aB]
   cases hp : pre [e] s with
   | true =>
    have := qw hp
    refine ⟨l, off [e] s, false, rfl, hol, by omega, fun _ => ⟨by simp, ?_⟩⟩
    have := hb rfl
    omega
   | false =>
    have h64 : decide ((64 : Int) < ((l.length : Nat) : Int)) = true := by simp; omega
    have hpos : decide ((0 : Int) < ((l.length : Nat) : Int)) = true := by simp; omega
    simp only [h64, hpos, Bool.not_false, if_true]
    show ∃ l' s' b', ay (aU (bs [44, 32]) _) _ = _ ∧ _
    rw [fT, ae]
    have h3 := kt [44, 32] (off [e] s)
    dsimp only
    split
    ·split
     ·exact ⟨l, _, true, rfl, by omega, by omega, fun h => by cases h⟩
     ·exact ⟨l, _, true, rfl, by omega, by omega, fun h => by cases h⟩
    ·exact ⟨l, _, true, rfl, by omega, by omega, fun h => by cases h⟩
 | succ m ih =>
  intro f l s b S h1 h2 hf hs h7 hb hb2
  obtain ⟨f, rfl⟩ : ∃ g, f = g + 1 := ⟨f - 1, by omega⟩
  rw [aJ, aB]
  cases b with
  | true =>
   rw [if_neg (by simp)]
   exact ⟨l, s, true, rfl, Nat.le_refl _, hb2, fun h => by cases h⟩
  | false =>
   rw [if_pos (by simp), mq, ae]
   have hol := kt [e] s
   have hb1 := hb rfl
   cases hp : pre [e] s with
   | true =>
    have := qw hp
    unfold bV cr
    exact ⟨l, off [e] s, false, rfl, hol, by omega, fun _ => ⟨rfl, by omega⟩⟩
   | false =>
    -- from here: s1 and b1 behind the comma
    have j3 : ∀ (s1 : List UInt8) (b1 : Bool), s1.length ≤ s.length → ¬ (t.kind = 7 ∧ l.length = t.fields.length) → l.length ≤ 64 →
      ∃ l' s' b', bo (aJ q t (bs [e]) f) q t l (bs s1) b1 false = some (l', ⟨bs s', b'⟩) ∧ s'.length ≤ s.length ∧ bM l' + s'.length ≤ S + M ∧ (b' = false → bM l' + s'.length ≤ S) := by
     intro s1 b1 hs1 hk hl64
     unfold bo
     rw [aB, if_neg (by simp)]
     obtain ⟨fd, hfm, hfd⟩ : ∃ fd, fd ∈ t.fields ∧ dq t ((l.length : Nat) : Int) = some fd := by
      unfold dq fe
      rw [aB]
      by_cases h6 : t.kind = 6
      ·rw [if_pos (by simpa using h6)]
       have := hV.list h6
       exact ⟨t.fields[0], List.getElem_mem (by omega), by rw [show at? t.fields (0 : Int) = some t.fields[0] from cf (i := 0) (by omega)]; rfl⟩
      ·rw [if_neg (by simpa using h6)]
       have h70 : t.kind = 7 := by omega
       have := h7 h70
       have hlt : l.length < t.fields.length := by
        rcases Nat.lt_or_ge l.length t.fields.length with h | h
        ·exact h
        ·exact absurd ⟨h70, by omega⟩ hk
       exact ⟨t.fields[l.length], List.getElem_mem hlt, by rw [cf hlt]; rfl⟩
     rw [hfd, ae]
     obtain ⟨v, s', b', e1, e2, e3, e4⟩ := hq fd hfm s1 b1 (by omega)
     rw [e1, ae, bO (by omega)]
     dsimp only
     have hlt7 : t.kind = 7 → (l ++ [v]).length ≤ t.fields.length := by
      intro h
      have := h7 h
      rw [List.length_append, List.length_singleton]
      rcases Nat.lt_or_ge l.length t.fields.length with h' | h'
      ·omega
      ·exact absurd ⟨h, by omega⟩ hk
     obtain ⟨l2, s2, b2, g1, g2, g3, g4⟩ := ih f (l ++ [v]) s' b' S (by simp; omega) (by simp; omega) (by omega) (by omega) hlt7 (fun h => by rw [hsn]; have := e4 h; omega) (by rw [hsn]; omega)
     exact ⟨l2, s2, b2, g1, by omega, g3, fun h => (g4 h).2⟩
    have j2 : ∀ (s1 : List UInt8) (b1 : Bool), s1.length ≤ s.length →
      ∃ l' s' b', cm (aJ q t (bs [e]) f) q t l (bs s1) b1 = some (l', ⟨bs s', b'⟩) ∧ s'.length ≤ s.length ∧ bM l' + s'.length ≤ S + M ∧ (b' = false → bM l' + s'.length ≤ S) := by
     intro s1 b1 hs1
     have out : ∃ l' s' b', bo (aJ q t (bs [e]) f) q t l (bs s1) b1 true = some (l', ⟨bs s', b'⟩) ∧ s'.length ≤ s.length ∧ bM l' + s'.length ≤ S + M ∧ (b' = false → bM l' + s'.length ≤ S) := by
      unfold bo cr
      exact ⟨l, s1, true, rfl, hs1, by omega, fun h => by cases h⟩
     unfold cm
     simp only [aB]
     have hd : decide ((64 : Int) < ((l.length : Nat) : Int)) = decide (64 < l.length) := by
      rw [Bool.eq_iff_iff]; simp; omega
     rw [hd]
     by_cases hk7 : t.kind = 7
     ·rw [if_pos (by simpa using hk7)]
      by_cases hkl : l.length = t.fields.length
      ·rw [if_pos (by simp [hkl])]
       exact out
      ·rw [if_neg (by simp; omega)]
       by_cases h64 : 64 < l.length
       ·rw [show decide (64 < l.length) = true by simpa using h64]; exact out
       ·rw [show decide (64 < l.length) = false by simpa using h64]; exact j3 s1 b1 hs1 (fun h => hkl h.2) (by omega)
     ·rw [if_neg (by simpa using hk7)]
      by_cases h64 : 64 < l.length
      ·rw [show decide (64 < l.length) = true by simpa using h64]; exact out
      ·rw [show decide (64 < l.length) = false by simpa using h64]; exact j3 s1 b1 hs1 (fun h => hk7 h.1) (by omega)
    unfold bV
    dsimp only
    rw [aB, if_pos (by simp), aB]
    split
    ·show ∃ l' s' b', ay (aU (bs [44, 32]) ⟨bs (off [e] s), false⟩) _ = _ ∧ _
     rw [fT, ae]
     have h3 := kt [44, 32] (off [e] s)
     obtain ⟨l', s', b', e1, e2, e3, e4⟩ := j2 (off [44, 32] (off [e] s)) (false || !pre [44, 32] (off [e] s)) (by omega)
     exact ⟨l', s', b', e1, e2, e3, fun h => ⟨rfl, e4 h⟩⟩
    ·obtain ⟨l', s', b', e1, e2, e3, e4⟩ := j2 (off [e] s) false hol
     exact ⟨l', s', b', e1, e2, e3, fun h => ⟨rfl, e4 h⟩⟩
end Go.Proofs.YtpmoopnkoknbeaaGreatDoor
namespace Go.Proofs.YtpmoopnkoknbeaaGreatDoor
open Go Go.PX Go.SX Go.SX.Cal
theorem bz (k n sc : Int) (s : ByteArray) : bh ⟨k, n, sc, s, []⟩ = s.size + 1 := by
 rw [eJ]; simp [bM]
theorem lQ (k n sc : Int) (l : List ac) : bh ⟨k, n, sc, ByteArray.empty, l⟩ = bM l + 1 := by
 rw [eJ]; simp [bD]
theorem EP : ∀ (n : Nat) (t : af), dF t ≤ n → V t → dF t < 1000000000 → ∀ (k : Nat), 2 * n ≤ k → ∀ (s : List UInt8) (bad : Bool), s.length ≤ 1000000000 →
  ∃ v s' b', aS k t ⟨bs s, bad⟩ = some (v, ⟨bs s', b'⟩) ∧ Rd t s bad v s' b' := by
 intro n
 induction n with
 | zero => intro t h; have := gA t; omega
 | succ n ih =>
  intro t hn hV hT k hk s bad hs
  obtain ⟨k, rfl⟩ : ∃ g, k = g + 2 := ⟨k - 2, by omega⟩
  have hst := gA t
  rw [aS, show (ByteArray.mk #[110, 117, 108, 108]) = bs [110, 117, 108, 108] from rfl, mq, ae]
  dsimp only
  simp only [aB]
  have ho := kt [110, 117, 108, 108] s
  cases hp : pre [110, 117, 108, 108] s with
  | true =>
   have := qw hp
   simp only [List.length_cons, List.length_nil] at this
   exact ⟨_, _, _, rfl, ho, by rw [bz, bD]; omega, fun h => ⟨h, by rw [bz, bD]; omega⟩⟩
  | false =>
   have hoff : off [110, 117, 108, 108] s = s := by unfold off; rw [hp]; rfl
   rw [hoff]
   rw [if_neg (by simp)]
   unfold bg
   simp only [beq_iff_eq]
   by_cases h1 : t.kind = 1
   ·rw [if_pos h1, show (ByteArray.mk #[116, 114, 117, 101]) = bs [116, 114, 117, 101] from rfl, mq, ae]
    dsimp only
    have h2 := kt [116, 114, 117, 101] s
    cases hq : pre [116, 114, 117, 101] s with
    | true =>
     have := qw hq
     simp only [List.length_cons, List.length_nil] at this
     exact ⟨_, _, _, rfl, h2, by rw [bz, bD]; omega, fun h => ⟨h, by rw [bz, bD]; omega⟩⟩
    | false =>
     rw [if_neg (by simp), show (ByteArray.mk #[102, 97, 108, 115, 101]) = bs [102, 97, 108, 115, 101] from rfl, fT, ae]
     dsimp only
     have h3 := kt [102, 97, 108, 115, 101] (off [116, 114, 117, 101] s)
     refine ⟨_, _, _, rfl, by omega, by rw [bz, bD]; omega, fun h => ?_⟩
     simp only [Bool.or_eq_false_iff, Bool.not_eq_false'] at h
     have := qw h.2
     simp only [List.length_cons, List.length_nil] at this
     exact ⟨h.1, by rw [bz, bD]; omega⟩
   rw [if_neg h1]
   by_cases h2 : t.kind = 2
   ·have hsp := congrArg List.length (np ut s)
    rw [List.length_append] at hsp
    rw [if_pos h2, vp s bad hs, ae]
    dsimp only
    rw [iX _ _ _ (by omega), ae]
    refine ⟨_, _, _, rfl, by omega, by rw [bz, bD]; omega, fun h => ?_⟩
    simp only [Bool.or_eq_false_iff] at h
    have := pL h.2
    exact ⟨h.1, by rw [bz, bD]; omega⟩
   rw [if_neg h2]
   by_cases h3 : t.kind = 3
   ·have hsp := congrArg List.length (np ut s)
    rw [List.length_append] at hsp
    have hol := kt [46] (od ut s)
    have hsp2 := congrArg List.length (np ut (off [46] (od ut s)))
    rw [List.length_append] at hsp2
    rw [if_pos h3, vp s bad hs, ae]
    dsimp only
    rw [show (ByteArray.mk #[46]) = bs [46] from rfl, fT, ae]
    dsimp only
    rw [vp _ _ (by omega), ae]
    dsimp only
    rw [aD, aD, bO (by omega), gQ, iX _ _ _ (by rw [List.length_append]; omega), ae]
    refine ⟨_, _, _, rfl, by omega, by rw [bz, bD]; omega, fun h => ?_⟩
    simp only [Bool.or_eq_false_iff, Bool.not_eq_false'] at h
    have := pL h.2
    rw [List.length_append] at this
    exact ⟨h.1.1, by rw [bz, bD]; omega⟩
   rw [if_neg h3]
   by_cases h4 : t.kind = 4
   ·have hol := kt [39] s
    rw [if_pos h4, show (ByteArray.mk #[39]) = bs [39] from rfl, fT, ae]
    dsimp only
    rw [yM _ _ (by omega), ae]
    have hql := JT (off [39] s)
    have hq1 := Dk _ (off [39] s) (off [39] s) [] (Nat.le_refl _)
    have hq2 := zU _ (off [39] s) (off [39] s) [] (Nat.le_refl _)
    refine ⟨_, _, _, rfl, by omega, ?_, fun h => ?_⟩
    ·rw [bz, aD]
     cases hb : (quo (off [39] s) [] (off [39] s)).2.2 with
     | true => rw [hq2 hb]; simp; omega
     | false => have := hq1 hb; simp at this ⊢; omega
    ·simp only [Bool.or_eq_false_iff, Bool.not_eq_false'] at h
     have := hq1 h.2
     simp only [List.length_nil] at this
     exact ⟨h.1.1, by rw [bz, aD]; omega⟩
   rw [if_neg h4]
   by_cases h5 : t.kind = 5
   ·rw [if_pos h5]
    obtain ⟨x, s', b', e1, e2, e3⟩ := Co s bad hs
    rw [e1, ae]
    exact ⟨_, _, _, rfl, e2, by rw [bz, bD]; omega, fun h => ⟨(e3 h).1, by rw [bz, bD]; have := (e3 h).2; omega⟩⟩
   rw [if_neg h5]
   have loop : ∀ (o e : UInt8), (t.kind = 6 ∨ t.kind = 7) → ∃ l' s' b', cN (k + 1) t (bs [e]) ⟨bs (off [o] s), bad || !pre [o] s⟩ = some (l', ⟨bs s', b'⟩) ∧ s'.length ≤ s.length ∧ bM l' + 1 + s'.length ≤ s.length + dF t ∧ (b' = false → bad = false ∧ bM l' + 1 + s'.length ≤ s.length) := by
    intro o e hkk
    have hol := kt [o] s
    have hok := @qw [o] s
    rw [cN]
    dsimp only
    obtain ⟨l', s', b', e1, e2, e3, e4⟩ := EX hV hT (aS k) e 1000000000 (dF t - 1) (Nat.le_refl _) hkk (fun f hf u b hu => by
      have h1 := gZ hf
      have h2 := gx f
      obtain ⟨v, s', b', g1, g2⟩ := ih f.type (by omega) (hV.fs f hf) (by omega) k (by omega) u b hu
      exact ⟨v, s', b', g1, g2.le, by have := g2.sz; omega, g2.ok⟩) 66 ba [] (off [o] s) (bad || !pre [o] s) (off [o] s).length (by simp) (by simp) (by rw [aF]; omega) (by omega) (by simp) (by simp [bM]) (by simp [bM])
    refine ⟨l', s', b', e1, by omega, by omega, fun h => ?_⟩
    obtain ⟨a1, a2⟩ := e4 h
    simp only [Bool.or_eq_false_iff, Bool.not_eq_false'] at a1
    have := hok a1.2
    simp only [List.length_singleton] at this
    exact ⟨a1.1, by omega⟩
   by_cases h6 : t.kind = 6
   ·rw [if_pos h6, show (ByteArray.mk #[91]) = bs [91] from rfl, fT, ae, show (ByteArray.mk #[93]) = bs [93] from rfl]
    dsimp only
    obtain ⟨l', s', b', e1, e2, e3, e4⟩ := loop 91 93 (.inl h6)
    rw [e1, ae]
    exact ⟨_, _, _, rfl, e2, by rw [lQ]; omega, fun h => ⟨(e4 h).1, by rw [lQ]; have := (e4 h).2; omega⟩⟩
   rw [if_neg h6]
   by_cases h7 : t.kind = 7
   ·rw [if_pos h7, show (ByteArray.mk #[40]) = bs [40] from rfl, fT, ae, show (ByteArray.mk #[41]) = bs [41] from rfl]
    dsimp only
    obtain ⟨l', s', b', e1, e2, e3, e4⟩ := loop 40 41 (.inr h7)
    rw [e1, ae]
    exact ⟨_, _, _, rfl, e2, by rw [lQ]; omega, fun h => ⟨(e4 h).1, by rw [lQ]; have := (e4 h).2; omega⟩⟩
   exfalso
   have := hV.sh
   unfold shp at this
   by_cases hx : t.kind < 1 ∨ 7 < t.kind
   ·rw [if_pos hx] at this; cases this
   ·omega
end Go.Proofs.YtpmoopnkoknbeaaGreatDoor
namespace Go.Proofs.YtpmoopnkoknbeaaGreatDoor
open Go Go.PX Go.SX Go.SX.Cal
def tP (r : List UInt8) : Prop := ∀ b, r.head? = some b → b = 44 ∨ b = 93 ∨ b = 41
theorem zl : tP [] := by intro b h; cases h
theorem xL {b : UInt8} {r : List UInt8} (h : b = 44 ∨ b = 93 ∨ b = 41) : tP (b :: r) := by
 intro c hc; simp at hc; subst hc; exact h
theorem tw {p : UInt8 → Bool} {l r : List UInt8} (h : ∀ x ∈ l, p x = true) (h2 : ∀ b, r.head? = some b → p b = false) : (l ++ r).takeWhile p = l ∧ (l ++ r).dropWhile p = r := by
 induction l with
 | nil =>
  cases r with
  | nil => exact ⟨rfl, rfl⟩
  | cons b r => have := h2 b rfl; simp [this]
 | cons x l ih =>
  have h3 := h x (List.mem_cons_self ..)
  have := ih (fun y hy => h y (List.mem_cons_of_mem _ hy))
  simp [h3, this]
theorem uD (b : UInt8) : lG.contains b = oQ b := by
 have h : ((List.range 256).all fun n => lG.contains (UInt8.ofNat n) == oQ (UInt8.ofNat n)) = true := by decide +kernel
 have h2 := List.all_eq_true.1 h b.toNat (List.mem_range.2 (UInt8.toNat_lt b))
 rw [UInt8.ofNat_toNat] at h2
 exact beq_iff_eq.1 h2
theorem KF (b : UInt8) : ut.contains b = (b == 45 || oQ b) := by
 rw [← uD]; rfl
theorem zt {r : List UInt8} (h : tP r) : ∀ b, r.head? = some b → ut.contains b = false := by
 intro b hb
 rcases h b hb with rfl | rfl | rfl <;> decide
theorem Eg {l : List UInt8} (h : l.all oQ = true) : ∀ x ∈ l, lG.contains x = true := by
 intro x hx; rw [uD]; exact List.all_eq_true.1 h x hx
theorem tY {l : List UInt8} (h : l.all oQ = true) : ∀ x ∈ l, ut.contains x = true := by
 intro x hx; rw [KF, List.all_eq_true.1 h x hx, Bool.or_true]
theorem Cu {l : List UInt8} (n : Int) (h : l.all oQ = true) : ∀ x ∈ sg n l, ut.contains x = true := by
 unfold sg
 split
 ·intro x hx
  rcases List.mem_cons.1 hx with rfl | hx
  ·decide
  ·exact tY h x hx
 ·exact tY h
theorem Dn (n : Int) (l r : List UInt8) : sg n l ++ r = sg n (l ++ r) := by unfold sg; split <;> rfl
theorem I8 {l r : List UInt8} (h : (l ++ r).all oQ = true) : l.all oQ = true ∧ r.all oQ = true := by
 rw [List.all_append, Bool.and_eq_true] at h; exact h
theorem th {n : Int} {l : List UInt8} (hd : l.all oQ = true) (h0 : l ≠ []) (hn : num 0 l = n.natAbs) (h : n.natAbs < 9223372036854775808) : gi (sg n l) = (n, false) := by
 unfold gi
 rw [Jd hd h0 hn h]
theorem mL {a b : UInt8} (p r : List UInt8) (h : a ≠ b) : pre (a :: p) (b :: r) = false := by simp [pre, h]
theorem um (n : Int) (h0 : 0 ≤ n) (h : n ≤ 99) (e : UInt8) (he : oQ e = false) (r : List UInt8) : st e (AS n ++ e :: r) false = (n, r, false) := by
 obtain ⟨h1, h2, h3⟩ := nP 2 n.natAbs
 obtain ⟨t1, t2⟩ := tw (l := AS n) (r := e :: r) (Eg h1) (fun b hb => by simp at hb; subst hb; rw [uD]; exact he)
 unfold st
 show ((gi ((AS n ++ e :: r).takeWhile (lG.contains ·))).1, off [e] ((AS n ++ e :: r).dropWhile (lG.contains ·)), (false || (gi ((AS n ++ e :: r).takeWhile (lG.contains ·))).2) || !pre [e] ((AS n ++ e :: r).dropWhile (lG.contains ·))) = _
 rw [t1, t2]
 have hz : gi (AS n) = (n, false) := by
  have := th (n := n) h1 h3 h2 (by omega)
  unfold sg at this
  rw [if_neg (by omega)] at this
  exact this
 rw [hz, show off [e] (e :: r) = r from jM [e] r, show pre [e] (e :: r) = true from iC [e] r]
 rfl
theorem GN (n : Int) (h0 : 0 ≤ n) (h : n ≤ 9999) (e : UInt8) (he : oQ e = false) (r : List UInt8) : st e (kz 4 n.natAbs ++ e :: r) false = (n, r, false) := by
 obtain ⟨h1, h2, h3⟩ := nP 4 n.natAbs
 obtain ⟨t1, t2⟩ := tw (l := kz 4 n.natAbs) (r := e :: r) (Eg h1) (fun b hb => by simp at hb; subst hb; rw [uD]; exact he)
 unfold st
 show ((gi ((kz 4 n.natAbs ++ e :: r).takeWhile (lG.contains ·))).1, off [e] ((kz 4 n.natAbs ++ e :: r).dropWhile (lG.contains ·)), (false || (gi ((kz 4 n.natAbs ++ e :: r).takeWhile (lG.contains ·))).2) || !pre [e] ((kz 4 n.natAbs ++ e :: r).dropWhile (lG.contains ·))) = _
 rw [t1, t2]
 have hz : gi (kz 4 n.natAbs) = (n, false) := by
  have := th (n := n) h1 h3 h2 (by omega)
  unfold sg at this
  rw [if_neg (by omega)] at this
  exact this
 rw [hz, show off [e] (e :: r) = r from jM [e] r, show pre [e] (e :: r) = true from iC [e] r]
 rfl
theorem ER {c : dz} (hc : Tm.chk c) (r : List UInt8) (hl : (uq c ++ r).length ≤ 1000000000) : ez ⟨bs (uq c ++ r), false⟩ = some (Tm.sec c, ⟨bs r, false⟩) := by
 obtain ⟨a1, a2, b1, b2, c1, c2, d1, d2, e1, e2, f1, f2⟩ := id hc
 have hdim := Tm.dim_bound c.year c.month
 rw [yN _ _ hl _ _ _ _ _ _ rfl rfl rfl rfl rfl rfl]
 unfold uq
 simp only [List.append_assoc, List.cons_append, List.nil_append]
 rw [GN c.year (by omega) a2 45 (by decide)]
 dsimp only
 rw [um c.month (by omega) (by omega) 45 (by decide)]
 dsimp only
 rw [um c.day (by omega) (by omega) 84 (by decide)]
 dsimp only
 rw [um c.hour (by omega) (by omega) 58 (by decide)]
 dsimp only
 rw [um c.minute (by omega) (by omega) 58 (by decide)]
 dsimp only
 rw [um c.second (by omega) (by omega) 90 (by decide)]
 unfold Jb
 rw [if_pos hc]
theorem BU {l : List UInt8} (h : l.all oQ = true) (h0 : l ≠ []) (n : Int) (r : List UInt8) : ∃ b u, sg n l ++ r = b :: u ∧ (b = 45 ∨ oQ b = true) := by
 unfold sg
 split
 ·exact ⟨45, l ++ r, rfl, .inl rfl⟩
 ·match l, h0 with
  | b :: l, _ =>
   simp only [List.all_cons, Bool.and_eq_true] at h
   exact ⟨b, l ++ r, rfl, .inr h.1⟩
theorem rn {n sc : Int} (h3 : 0 ≤ sc) : ∃ p q, FO n sc = sg n (p ++ 46 :: q) ∧ p.all oQ = true ∧ q.all oQ = true ∧ p ≠ [] ∧ num 0 (p ++ q) = n.natAbs ∧ (p ++ q).length = (kz (sc.toNat + 1) n.natAbs).length ∧ q.length = sc.toNat ∧ p ++ q = kz (sc.toNat + 1) n.natAbs := by
 obtain ⟨h1, h2, _⟩ := nP (sc.toNat + 1) n.natAbs
 have hg := tc (sc.toNat + 1) n.natAbs
 generalize hp : kz (sc.toNat + 1) n.natAbs = w at *
 have ha := List.take_append_drop (w.length - sc.toNat) w
 rw [← ha] at h1
 obtain ⟨i1, i2⟩ := I8 h1
 refine ⟨w.take (w.length - sc.toNat), w.drop (w.length - sc.toNat), ?_, i1, i2, ?_, by rw [ha, h2], by rw [ha], by simp; omega, ha⟩
 ·unfold FO; rw [hp]
 ·intro h
  have := congrArg List.length h
  rw [List.length_take, List.length_nil] at this
  omega
theorem wF {d : Nat} {v : ac} (h : rt (d + 1) v) (r : List UInt8) : ∃ b u, T v ++ r = b :: u ∧ b ≠ 93 ∧ b ≠ 41 ∧ b ≠ 44 ∧ (v.kind ≠ 0 → b ≠ 110) := by
 obtain ⟨hp, _⟩ := h.succ
 have hl := lz hp
 have hdig : ∀ b : UInt8, b = 45 ∨ oQ b = true → b ≠ 93 ∧ b ≠ 41 ∧ b ≠ 44 ∧ (v.kind ≠ 0 → b ≠ 110) := by
  rintro b (rfl | h)
  ·exact ⟨by decide, by decide, by decide, fun _ => by decide⟩
  ·refine ⟨?_, ?_, ?_, fun _ => ?_⟩ <;> rintro rfl <;> cases h
 rw [mQ]
 split
 ·exact ⟨110, _, rfl, by decide, by decide, by decide, fun h => absurd ‹_› h⟩
 ·split
  ·split
   ·exact ⟨116, _, rfl, by decide, by decide, by decide, fun _ => by decide⟩
   ·exact ⟨102, _, rfl, by decide, by decide, by decide, fun _ => by decide⟩
  ·split
   ·obtain ⟨a, b, c⟩ := jj v.n.natAbs
    obtain ⟨b, u, e, hb⟩ := BU a c v.n r
    exact ⟨b, u, e, hdig b hb⟩
   ·split
    ·obtain ⟨p, q, e1, e2, e3, e4, _⟩ := rn (n := v.n) (hl.sc ‹_›).1
     obtain ⟨b, u, e, hb⟩ := BU e2 e4 v.n (46 :: q ++ r)
     refine ⟨b, u, ?_, hdig b hb⟩
     rw [e1, ← e, ← Dn]; simp
    ·split
     ·exact ⟨39, _, rfl, by decide, by decide, by decide, fun _ => by decide⟩
     ·split
      ·obtain ⟨a, _, c⟩ := nP 4 (Tm.civ v.n).year.natAbs
       unfold uq
       match hm : kz 4 (Tm.civ v.n).year.natAbs, c with
       | b :: l, _ =>
        rw [hm] at a
        simp only [List.all_cons, Bool.and_eq_true] at a
        exact ⟨b, _, rfl, hdig b (.inr a.1)⟩
      ·split
       ·exact ⟨91, _, rfl, by decide, by decide, by decide, fun _ => by decide⟩
       ·exact ⟨40, _, rfl, by decide, by decide, by decide, fun _ => by decide⟩
end Go.Proofs.YtpmoopnkoknbeaaGreatDoor
namespace Go.Proofs.YtpmoopnkoknbeaaGreatDoor
open Go Go.PX Go.SX Go.SX.Cal
theorem qB {d : Nat} {t : af} {v : ac} (h : rZ (d + 1) t v = true) (h0 : v.kind ≠ 0) : v.kind = t.kind ∧ (v.kind = 3 → v.scale = t.scale) ∧ (v.kind = 7 → t.fields.length = v.items.length) := by
 simp only [rZ] at h
 rw [if_neg h0] at h
 by_cases hk : v.kind = t.kind
 ·rw [if_neg (fun hh => hh hk)] at h
  refine ⟨hk, fun h3 => ?_, fun h7 => ?_⟩
  ·rw [if_pos h3] at h; exact beq_iff_eq.1 h
  ·rw [if_neg (by omega)] at h
   by_cases hl : v.kind = 7 ∧ t.fields.length ≠ v.items.length
   ·rw [if_pos hl] at h; cases h
   ·by_cases hx : t.fields.length = v.items.length
    ·exact hx
    ·exact absurd ⟨h7, hx⟩ hl
 ·rw [if_pos hk] at h; cases h
theorem mR {v : ac} {k n sc : Int} {s : ByteArray} {l : List ac} (h1 : v.kind = k) (h2 : v.n = n) (h3 : v.scale = sc) (h4 : v.s = s) (h5 : v.items = l) : ac.mk k n sc s l = v := by
 obtain ⟨a, b, c, d, e⟩ := v
 simp only at h1 h2 h3 h4 h5
 subst h1 h2 h3 h4 h5
 rfl
theorem jn {s : ByteArray} (h : s.size = 0) : s = ByteArray.empty := by
 apply PX.ba_ext
 have : s.data.toList.length = 0 := by simpa using h
 rw [List.length_eq_zero_iff.1 this]
 rfl
def W (v : ac) (i : Nat) (e : UInt8) (r : List UInt8) : List UInt8 := (if i = 0 then TJ v.items else TR (v.items.drop i)) ++ e :: r
theorem HE (v : ac) (e : UInt8) (r : List UInt8) : W v v.items.length e r = e :: r := by
 unfold W
 by_cases h : v.items.length = 0
 ·rw [if_pos h, List.length_eq_zero_iff.1 h]; rfl
 ·rw [if_neg h, List.drop_length]; rfl
theorem q8 {v : ac} {i : Nat} (h : i < v.items.length) (e : UInt8) (r : List UInt8) : W v i e r = (if i = 0 then [] else [44, 32]) ++ (T (iv v i) ++ W v (i + 1) e r) := by
 unfold W
 rw [if_neg (show ¬ i + 1 = 0 by omega)]
 have hd : v.items.drop i = iv v i :: v.items.drop (i + 1) := by rw [← m5 h]; exact List.drop_eq_getElem_cons h
 by_cases h0 : i = 0
 ·subst h0
  rw [List.drop_zero] at hd
  rw [if_pos rfl, if_pos rfl, hd, TJ]
  simp
 ·rw [if_neg h0, if_neg h0, hd, TR]
  simp
theorem LC {v : ac} {i : Nat} (h0 : i ≠ 0) {e : UInt8} (he : e = 93 ∨ e = 41) (r : List UInt8) : tP (W v i e r) := by
 unfold W
 rw [if_neg h0]
 cases v.items.drop i with
 | nil => exact xL (.inr he)
 | cons x l => exact xL (.inl rfl)
theorem GJ {a b : UInt8} {u : List UInt8} (h : a ≠ b) : pre [a] (b :: u) = false := by simp [pre, h]
theorem HV {t : af} {v : ac} {d : Nat} (hV : V t) (hk : v.kind = t.kind) (hkk : t.kind = 6 ∨ t.kind = 7) (hlen : v.items.length ≤ 64) (h7 : v.kind = 7 → t.fields.length = v.items.length) (hfit : If t v)
  (hi : ∀ x ∈ v.items, rt (d + 1) x) (q : af → aO → Option (ac × aO)) (e : UInt8) (he : e = 93 ∨ e = 41) (r : List UInt8) (N : Nat)
  (hq : ∀ i, i < v.items.length → ∀ r, tP r → (T (iv v i) ++ r).length ≤ N → q (ft t i) ⟨bs (T (iv v i) ++ r), false⟩ = some (iv v i, ⟨bs r, false⟩)) :
  ∀ (m f i : Nat), i + m = v.items.length → m < f → (W v i e r).length ≤ N → aJ q t (bs [e]) f (v.items.take i) (bs (W v i e r)) false = some (v.items, ⟨bs r, false⟩) := by
 intro m
 induction m with
 | zero =>
  intro f i hii hf _
  obtain ⟨f, rfl⟩ : ∃ g, f = g + 1 := ⟨f - 1, by omega⟩
  obtain rfl : i = v.items.length := by omega
  rw [aJ, aB, if_pos (by simp), mq, ae, HE, List.take_length]
  unfold bV cr
  rw [show pre [e] (e :: r) = true from iC [e] r, show off [e] (e :: r) = r from jM [e] r]
  rfl
 | succ m ih =>
  intro f i hii hf hN
  obtain ⟨f, rfl⟩ : ∃ g, f = g + 1 := ⟨f - 1, by omega⟩
  have hlt : i < v.items.length := by omega
  have hx := hi _ (mY hlt)
  have hpre : pre [e] (W v i e r) = false := by
   rw [q8 hlt]
   by_cases h0 : i = 0
   ·rw [if_pos h0, List.nil_append]
    obtain ⟨b, u, e1, e2, e3, e4, _⟩ := wF hx (W v (i + 1) e r)
    rw [e1]
    refine GJ ?_
    rcases he with rfl | rfl
    ·exact fun h => e2 h.symm
    ·exact fun h => e3 h.symm
   ·rw [if_neg h0]
    exact GJ (by rcases he with rfl | rfl <;> decide)
  have hoff : off [e] (W v i e r) = W v i e r := by unfold off; rw [hpre]; rfl
  have hlt7 : (v.items.take i).length = i := by rw [List.length_take]; omega
  have hlW := congrArg List.length (q8 hlt e r)
  rw [List.length_append] at hlW
  -- behind the comma
  have main : cm (aJ q t (bs [e]) f) q t (v.items.take i) (bs (T (iv v i) ++ W v (i + 1) e r)) false = some (v.items, ⟨bs r, false⟩) := by
   have j3 : bo (aJ q t (bs [e]) f) q t (v.items.take i) (bs (T (iv v i) ++ W v (i + 1) e r)) false false = some (v.items, ⟨bs r, false⟩) := by
    unfold bo
    rw [aB, if_neg (by simp), hlt7]
    obtain ⟨fd, f1, f2, f3, _⟩ := qZ (hfit i hlt)
    have hfd : dq t ((i : Nat) : Int) = some fd := by
     unfold dq fe
     rw [aB]
     by_cases h6 : t.kind = 6
     ·rw [if_pos h6] at f2
      rw [if_pos (by simpa using h6), show at? t.fields (0 : Int) = some fd from gr (i := 0) f2]; rfl
     ·rw [if_neg h6] at f2
      rw [if_neg (by simpa using h6), gr f2]; rfl
    rw [hfd, ae, f3, hq i hlt _ (LC (by omega) he r) (by omega), ae, bO (by omega)]
    dsimp only
    rw [← m5 hlt, ← List.take_succ_eq_append_getElem hlt]
    exact ih f (i + 1) (by omega) (by omega) (by rw [List.length_append] at hlW; omega)
   unfold cm
   simp only [aB, hlt7]
   have h64 : decide ((64 : Int) < ((i : Nat) : Int)) = false := by simp; omega
   rw [h64]
   by_cases hk7 : t.kind = 7
   ·have := h7 (by omega)
    rw [if_pos (by simpa using hk7), if_neg (by simp; omega)]
    exact j3
   ·rw [if_neg (by simpa using hk7)]
    exact j3
  rw [aJ, aB, if_pos (by simp), mq, ae, hpre, hoff]
  unfold bV
  dsimp only
  rw [aB, if_pos (by simp), aB, hlt7]
  by_cases h0 : i = 0
  ·rw [if_neg (by simp [h0])]
   rw [show W v i e r = T (iv v i) ++ W v (i + 1) e r by rw [q8 hlt, if_pos h0, List.nil_append]]
   exact main
  ·rw [if_pos (by simp; omega)]
   show ay (aU (bs [44, 32]) _) _ = _
   rw [fT, ae, q8 hlt, if_neg h0, iC, jM]
   exact main
theorem HT : ∀ (d : Nat) (t : af) (v : ac), rt d v → V t → rZ d t v = true → ∀ (k : Nat), 2 * d ≤ k → ∀ r, tP r → (T v ++ r).length ≤ 1000000000 →
  aS k t ⟨bs (T v ++ r), false⟩ = some (v, ⟨bs r, false⟩) := by
 intro d
 induction d with
 | zero => intro t v h; exact h.zero.elim
 | succ d ih =>
  intro t v h hV ho k hk r hr hN
  obtain ⟨k, rfl⟩ : ∃ g, k = g + 2 := ⟨k - 2, by omega⟩
  obtain ⟨hp, hi⟩ := h.succ
  have hl := lz hp
  rw [aS, show (ByteArray.mk #[110, 117, 108, 108]) = bs [110, 117, 108, 108] from rfl, mq, ae]
  dsimp only
  simp only [aB]
  by_cases h0 : v.kind = 0
  ·have hT : T v = [110, 117, 108, 108] := by rw [mQ, if_pos h0]
   rw [hT, iC, jM, if_pos rfl]
   rw [mR h0 (hl.nn (.inl h0)) (bW hp (by omega)) (jn (hl.zero (by omega))) (bq hp (by omega) (by omega))]
  obtain ⟨o1, o2, o3⟩ := qB ho h0
  have hpre : pre [110, 117, 108, 108] (T v ++ r) = false := by
   obtain ⟨b, u, e1, _, _, _, e2⟩ := wF h r
   rw [e1]
   exact mL _ _ (fun hh => e2 h0 hh.symm)
  have hoff : off [110, 117, 108, 108] (T v ++ r) = T v ++ r := by unfold off; rw [hpre]; rfl
  have hsc : v.scale = t.scale := by
   by_cases h3 : v.kind = 3
   ·exact o2 h3
   ·rw [bW hp h3, hV.scale (by omega)]
  rw [hpre, hoff, if_neg (by simp)]
  unfold bg
  simp only [beq_iff_eq, ← o1]
  by_cases h1 : v.kind = 1
  ·have hz := jn (hl.zero (by omega))
   have hit := bq hp (by omega) (by omega)
   rw [if_pos h1, show (ByteArray.mk #[116, 114, 117, 101]) = bs [116, 114, 117, 101] from rfl, mq, ae]
   dsimp only
   rcases hl.bool h1 with hn | hn
   ·have hT : T v = [102, 97, 108, 115, 101] := by rw [mQ, if_neg h0, if_pos h1, if_neg (by omega)]
    rw [hT, show pre [116, 114, 117, 101] ([102, 97, 108, 115, 101] ++ r) = false from mL _ _ (by decide), if_neg (by simp)]
    rw [show off [116, 114, 117, 101] ([102, 97, 108, 115, 101] ++ r) = [102, 97, 108, 115, 101] ++ r by unfold off; rw [show pre [116, 114, 117, 101] ([102, 97, 108, 115, 101] ++ r) = false from mL _ _ (by decide)]; rfl]
    rw [show (ByteArray.mk #[102, 97, 108, 115, 101]) = bs [102, 97, 108, 115, 101] from rfl, fT, ae, iC, jM]
    rw [mR rfl hn hsc hz hit]; rfl
   ·have hT : T v = [116, 114, 117, 101] := by rw [mQ, if_neg h0, if_pos h1, if_pos hn]
    rw [hT, iC, jM, if_pos rfl]
    rw [mR rfl hn hsc hz hit]
  rw [if_neg h1]
  by_cases h2 : v.kind = 2
  ·have hz := jn (hl.zero (by omega))
   have hit := bq hp (by omega) (by omega)
   have hnn := hl.num (.inl h2)
   have hT : T v = sg v.n (Lib.decDigits v.n.natAbs) := by rw [mQ, if_neg h0, if_neg h1, if_pos h2]
   obtain ⟨a, b, c⟩ := jj v.n.natAbs
   obtain ⟨t1, t2⟩ := tw (Cu v.n a) (zt hr)
   rw [if_pos h2, vp _ _ hN, ae]
   dsimp only
   rw [hT] at hN ⊢
   rw [show iS ut (sg v.n (Lib.decDigits v.n.natAbs) ++ r) = _ from t1, show od ut (sg v.n (Lib.decDigits v.n.natAbs) ++ r) = _ from t2]
   rw [List.length_append] at hN
   rw [iX _ _ _ (by omega), ae, th a c b (by omega)]
   rw [mR rfl rfl hsc hz hit]; rfl
  rw [if_neg h2]
  by_cases h3 : v.kind = 3
  ·have hz := jn (hl.zero (by omega))
   have hit := bq hp (by omega) (by omega)
   have hnn := hl.num (.inr h3)
   have hT : T v = FO v.n v.scale := by rw [mQ, if_neg h0, if_neg h1, if_neg h2, if_pos h3]
   obtain ⟨p, q, e1, e2, e3, e4, e5, e6, _⟩ := rn (n := v.n) (hl.sc h3).1
   have hpl := js (n := v.n) (by omega) (v.scale.toNat + 1) (by have := hl.sc h3; omega)
   have e6l := e6
   rw [List.length_append] at e6l
   have hTr : T v ++ r = sg v.n p ++ 46 :: (q ++ r) := by rw [hT, e1, ← Dn]; simp
   obtain ⟨t1, t2⟩ := tw (r := 46 :: (q ++ r)) (Cu v.n e2) (fun b hb => by simp at hb; subst hb; decide)
   obtain ⟨u1, u2⟩ := tw (l := q) (r := r) (tY e3) (zt hr)
   have hlen : (q ++ r).length ≤ 1000000000 := by rw [hTr] at hN; simp at hN ⊢; omega
   rw [if_pos h3, vp _ _ hN, ae, hTr]
   dsimp only
   rw [show iS ut (sg v.n p ++ 46 :: (q ++ r)) = _ from t1, show od ut (sg v.n p ++ 46 :: (q ++ r)) = _ from t2]
   rw [show (ByteArray.mk #[46]) = bs [46] from rfl, fT, ae]
   dsimp only
   rw [show off [46] (46 :: (q ++ r)) = q ++ r from jM [46] _, show pre [46] (46 :: (q ++ r)) = true from iC [46] _]
   rw [vp _ _ hlen, ae]
   dsimp only
   rw [show iS ut (q ++ r) = q from u1, show od ut (q ++ r) = r from u2]
   have hsl := xl v.n p
   rw [aD, aD, bO (by omega), gQ, iX _ _ _ (by rw [List.length_append]; omega), ae, Dn, th (by rw [List.all_append, e2, e3]; rfl) (by simp [e4]) e5 (by omega)]
   rw [mR rfl rfl hsc hz hit]; rfl
  rw [if_neg h3]
  by_cases h4 : v.kind = 4
  ·have hit := bq hp (by omega) (by omega)
   have hT : T v = 39 :: (qH v.s.data.toList ++ [39]) := by rw [mQ, if_neg h0, if_neg h1, if_neg h2, if_neg h3, if_pos h4]
   rw [if_pos h4, show (ByteArray.mk #[39]) = bs [39] from rfl, fT, ae]
   dsimp only
   have hTr : T v ++ r = [39] ++ (qH v.s.data.toList ++ 39 :: r) := by rw [hT]; simp
   rw [hTr] at hN ⊢
   rw [List.length_append] at hN
   rw [iC, jM, yM _ _ (by omega), ae, AQ _ _ _ _ (fun hh => by rcases hr 39 hh with h | h | h <;> cases h)]
   dsimp only
   rw [List.nil_append, vg]
   rw [mR rfl (hl.nn (.inr (.inl h4))) hsc rfl hit]; rfl
  rw [if_neg h4]
  by_cases h5 : v.kind = 5
  ·have hz := jn (hl.zero (by omega))
   have hit := bq hp (by omega) (by omega)
   have hm := hl.mom h5
   obtain ⟨c1, c2⟩ := tC hm.1 hm.2
   have hT : T v = uq (Tm.civ v.n) := by rw [mQ, if_neg h0, if_neg h1, if_neg h2, if_neg h3, if_neg h4, if_pos h5]
   rw [hT] at hN ⊢
   rw [if_pos h5, ER c1 r hN, ae, c2]
   dsimp only
   rw [mR rfl rfl hsc hz hit]
  rw [if_neg h5]
  obtain ⟨hfit, hof⟩ := C9 h hV ho
  have hz := jn (hl.zero (by omega))
  have hn := hl.nn (by have := hl.kin; omega)
  have hlen : v.items.length ≤ 64 := by
   by_cases h6 : v.kind = 6
   ·exact hl.lst h6
   ·have := o3 (by have := hl.kin; omega)
    have := hV.wid; omega
  have loop : ∀ (o e : UInt8), (e = 93 ∨ e = 41) → T v = o :: (TJ v.items ++ [e]) → cN (k + 1) t (bs [e]) ⟨bs (off [o] (T v ++ r)), false || !pre [o] (T v ++ r)⟩ = some (v.items, ⟨bs r, false⟩) := by
   intro o e he hT
   have hTr : T v ++ r = [o] ++ W v 0 e r := by rw [hT]; unfold W; simp
   rw [hTr] at hN ⊢
   rw [List.length_append] at hN
   rw [iC, jM, cN]
   dsimp only
   cases d with
   | zero =>
    have hnil : v.items = [] := by
     cases hv : v.items with
     | nil => rfl
     | cons x l => exact (hi x (by rw [hv]; exact List.mem_cons_self ..)).zero.elim
    have hW : W v 0 e r = e :: r := by have := HE v e r; rw [hnil] at this; exact this
    rw [hW, aF, aJ, aB, if_pos (by simp)]
    show ay (cI (bs [e]) ⟨bs (e :: r), false⟩) _ = _
    rw [mq, ae]
    unfold bV cr
    rw [show pre [e] (e :: r) = true from iC [e] r, show off [e] (e :: r) = r from jM [e] r, hnil]
    rfl
   | succ d =>
    have := HV hV o1 (by have := hl.kin; omega) hlen o3 hfit hi (aS k) e he r 1000000000 (fun i hlt r' hr' hn' => ih (ft t i) (iv v i) (hi _ (mY hlt)) (by
      obtain ⟨fd, f1, _, f3, _⟩ := qZ (hfit i hlt)
      rw [← f3]; exact hV.fs fd f1) (hof i hlt) k (by omega) r' hr' hn') v.items.length ba 0 (by omega) (by rw [aF]; omega) (by omega)
    rw [List.take_zero] at this
    exact this
  by_cases h6 : v.kind = 6
  ·rw [if_pos h6, show (ByteArray.mk #[91]) = bs [91] from rfl, fT, ae, show (ByteArray.mk #[93]) = bs [93] from rfl]
   dsimp only
   rw [loop 91 93 (.inl rfl) (by rw [mQ, if_neg h0, if_neg h1, if_neg h2, if_neg h3, if_neg h4, if_neg h5, if_pos h6]), ae]
   dsimp only
   rw [mR rfl hn hsc hz rfl]
  ·have h7 : v.kind = 7 := by have := hl.kin; omega
   rw [if_neg h6, if_pos h7, show (ByteArray.mk #[40]) = bs [40] from rfl, fT, ae, show (ByteArray.mk #[41]) = bs [41] from rfl]
   dsimp only
   rw [loop 40 41 (.inr rfl) (by rw [mQ, if_neg h0, if_neg h1, if_neg h2, if_neg h3, if_neg h4, if_neg h5, if_neg h6]), ae]
   dsimp only
   rw [mR rfl hn hsc hz rfl]
end Go.Proofs.YtpmoopnkoknbeaaGreatDoor
namespace Go.Proofs.YtpmoopnkoknbeaaGreatDoor
open Go Go.PX Go.SX Go.SX.Cal
theorem vv (l : List UInt8) (i : Nat) (h : i < l.length) : (bs l).data.toList.getD (i : Int).toNat 0 = l[i] := by
 rw [show (i : Int).toNat = i by omega]; exact zr l i h
theorem xx (a b : UInt8) : (((a.toNat : Nat) : Int) == ((b.toNat : Nat) : Int)) = (a == b) := by
 rw [Bool.eq_iff_iff]
 simp only [beq_iff_eq, ← UInt8.toNat_inj]
 omega
theorem Jc (s p : List UInt8) (rec1 : Int → Option ByteArray) (i : Nat) (hi : i < s.length) (hp : p.length ≤ 1000) : ∀ (m f j : Nat) (b : Bool), j + m = p.length → m < f →
  eV rec1 (bs s) (bs p) (i : Int) f b (j : Int) = ny rec1 (bs s) (i : Int) (b || (p.drop j).contains s[i]) := by
 intro m
 induction m with
 | zero =>
  intro f j b hj hf
  obtain ⟨f, rfl⟩ : ∃ g, f = g + 1 := ⟨f - 1, by omega⟩
  rw [eV, aD, aB, if_neg (by simp; omega), List.drop_of_length_le (by omega)]
  simp
 | succ m ih =>
  intro f j b hj hf
  obtain ⟨f, rfl⟩ : ∃ g, f = g + 1 := ⟨f - 1, by omega⟩
  have hlt : j < p.length := by omega
  have hd : p.drop j = p[j] :: p.drop (j + 1) := List.drop_eq_getElem_cons hlt
  rw [eV, aD, aB, if_pos (by simp; omega), aB]
  unfold nj
  rw [fJ (by omega) (by omega)]
  cases b with
  | true =>
   rw [if_pos rfl]
   have := ih f (j + 1) true (by omega) (by omega)
   rw [Bool.true_or] at this ⊢
   exact this
  | false =>
   rw [if_neg (by simp), bO (by omega), aD, bO (by omega), ae, vv p j hlt, vv s i hi, xx]
   have := ih f (j + 1) (p[j] == s[i]) (by omega) (by omega)
   rw [Bool.false_or, hd, List.contains_cons, show (s[i] == p[j]) = (p[j] == s[i]) by rw [Bool.eq_iff_iff, beq_iff_eq, beq_iff_eq]; exact eq_comm]
   exact this
theorem tK {p : List UInt8} {b : UInt8} {l : List UInt8} (h : p.contains b = true) : iS p (b :: l) = b :: iS p l := List.takeWhile_cons_of_pos h
theorem ua {p : List UInt8} {b : UInt8} {l : List UInt8} (h : p.contains b = false) : iS p (b :: l) = [] := List.takeWhile_cons_of_neg (by rw [h]; decide)
theorem HW (s p : List UInt8) (hp : p.length ≤ 1000) (hs : s.length ≤ 1000000000) : ∀ (m f i : Nat), i + m = s.length → m < f →
  dQ (bs s) (bs p) f (i : Int) = some (bs (s.take i ++ iS p (s.drop i))) := by
 have hend : ∀ i : Nat, i ≤ s.length → lc (bs s) (i : Int) = some (bs (s.take i)) := by
  intro i hi
  unfold lc
  rw [aD, bO (by omega), lA, show (i : Int).toNat = i by omega]
  simp
 intro m
 induction m with
 | zero =>
  intro f i hi hf
  obtain ⟨f, rfl⟩ : ∃ g, f = g + 1 := ⟨f - 1, by omega⟩
  rw [dQ, aD, aB, if_neg (by simp; omega), hend i (by omega), List.drop_of_length_le (by omega)]
  simp [iS]
 | succ m ih =>
  intro f i hi hf
  obtain ⟨f, rfl⟩ : ∃ g, f = g + 1 := ⟨f - 1, by omega⟩
  have hlt : i < s.length := by omega
  have hd : s.drop i = s[i] :: s.drop (i + 1) := List.drop_eq_getElem_cons hlt
  have h2 := Jc s p (dQ (bs s) (bs p) f) i hlt hp p.length ba 0 false (by omega) (by rw [aF]; omega)
  rw [dQ, aD, aB, if_pos (by simp; omega)]
  refine Eq.trans h2 ?_
  rw [Bool.false_or, List.drop_zero]
  unfold ny
  rw [aB]
  cases hc : p.contains s[i] with
  | false =>
   rw [if_pos (by simp), hend i (by omega), hd, ua hc]
   simp
  | true =>
   rw [if_neg (by simp), fJ (by omega) (by omega)]
   refine Eq.trans (ih f (i + 1) (by omega) (by omega)) ?_
   rw [hd, tK hc, lO hlt, List.append_assoc]
   rfl
theorem ui (s p : List UInt8) (hp : p.length ≤ 1000) (hs : s.length ≤ 1000000000) : kD (bs s) (bs p) = some (bs (iS p s)) := by
 have := HW s p hp hs s.length ba 0 (by omega) (by rw [aF]; omega)
 rw [List.take_zero, List.drop_zero, List.nil_append] at this
 unfold kD
 exact this
def am (l : List UInt8) : Int × Bool := if l.length ≠ 0 ∧ l.length ≤ 18 ∧ l.all oQ = true then ((num 0 l : Nat), true) else (0, false)
theorem BN {l : List UInt8} : (iS lG l).length = l.length ↔ l.all oQ = true := by
 induction l with
 | nil => simp [iS]
 | cons b l ih =>
  cases hc : lG.contains b with
  | false =>
   rw [ua hc]
   rw [uD] at hc
   simp [hc]
  | true =>
   rw [tK hc]
   rw [uD] at hc
   simp [hc, ih]
theorem qG {l : List UInt8} (h : l.all oQ = true) (hl : l.length ≤ 18) (i : Nat) : num 0 (l.take i) < 1000000000000000000 := by
 have h1 : (l.take i).all oQ = true := List.all_eq_true.2 (fun x hx => List.all_eq_true.1 h x (List.mem_of_mem_take hx))
 have h2 := Gi (l.take i) 0 0 h1 (by decide)
 have h3 : (l.take i).length ≤ 18 := by simp; omega
 have h4 : 10 ^ (0 + (l.take i).length) ≤ 10 ^ 18 := Nat.pow_le_pow_right (by decide) (by omega)
 have h5 : (10 : Nat) ^ 18 = 1000000000000000000 := by decide
 omega
theorem NC {x : Int} (h1 : 0 ≤ x) (h2 : x ≤ 255) : IntKind.u8.wrap x = x := by
 simp only [IntKind.wrap]
 first
  | (simp; omega)
  | (unfold IntKind.bits IntKind.signed; simp; omega)
theorem A6 (l : List UInt8) (hd : l.all oQ = true) (hl : l.length ≤ 18) : ∀ (m f i : Nat), i + m = l.length → m < f →
  fj (bs l) f ((num 0 (l.take i) : Nat) : Int) (i : Int) = some (((num 0 l : Nat) : Int), true) := by
 intro m
 induction m with
 | zero =>
  intro f i hi hf
  obtain ⟨f, rfl⟩ : ∃ g, f = g + 1 := ⟨f - 1, by omega⟩
  rw [fj, aD, aB, if_neg (by simp; omega), List.take_of_length_le (by omega)]
  rfl
 | succ m ih =>
  intro f i hi hf
  obtain ⟨f, rfl⟩ : ∃ g, f = g + 1 := ⟨f - 1, by omega⟩
  have hlt : i < l.length := by omega
  have hb := (ry _).1 (List.all_eq_true.1 hd _ (List.getElem_mem hlt))
  have n1 := qG hd hl i
  have n2 := qG hd hl (i + 1)
  have e : num 0 (l.take (i + 1)) = num 0 (l.take i) * 10 + (l[i].toNat - 48) := by
   rw [lO hlt, sM, mG, zZ]
  rw [fj, aD, aB, if_pos (by simp; omega), bO (by omega), ae, ae, vv l i hlt]
  rw [NC (by omega) (by omega), fJ (x := (10 : Int) * _) (by omega) (by omega), fJ (x := ((l[i].toNat : Nat) : Int) - 48) (by omega) (by omega), fJ (by omega) (by omega), fJ (by omega) (by omega)]
  rw [show (10 : Int) * ((num 0 (l.take i) : Nat) : Int) + (((l[i].toNat : Nat) : Int) - 48) = ((num 0 (l.take (i + 1)) : Nat) : Int) by rw [e]; omega]
  exact ih f (i + 1) (by omega) (by omega)
theorem jK (l : List UInt8) (hs : l.length ≤ 1000000000) : fo (bs l) = some (am l) := by
 unfold fo jm am
 simp only [aB, aD]
 by_cases h0 : l.length = 0
 ·rw [if_pos (by simp [h0]), if_pos trivial, if_neg (by omega)]
 rw [if_neg (by simp; intro h; rw [h] at h0; exact h0 rfl)]
 by_cases h18 : 18 < l.length
 ·rw [if_pos (by simp; omega), if_pos trivial, if_neg (by omega)]
 rw [if_neg (by simp; omega), show (ByteArray.mk #[48, 49, 50, 51, 52, 53, 54, 55, 56, 57]) = bs lG from rfl, ui _ _ (by decide) hs, ae, aD]
 by_cases hd : l.all oQ = true
 ·have := BN.2 hd
  rw [this, if_neg (by simp), if_pos ⟨h0, by omega, hd⟩]
  have := A6 l hd (by omega) l.length ba 0 (by omega) (by rw [aF]; omega)
  rw [List.take_zero] at this
  exact this
 ·have : (iS lG l).length ≠ l.length := fun h => hd (BN.1 h)
  rw [if_pos (by simp; omega), if_neg (fun h => hd h.2.2)]
def Jv : List UInt8 → Int × Bool
 | [] => am []
 | b :: r => if b = 45 then (-(am r).1, (am r).2) else am (b :: r)
theorem F3 (l : List UInt8) : 0 ≤ (am l).1 ∧ (am l).1 < 1000000000000000000 := by
 unfold am
 split
 ·rename_i h
  have := qG h.2.2 h.2.1 l.length
  rw [List.take_length] at this
  constructor
  ·show (0 : Int) ≤ ((num 0 l : Nat) : Int); omega
  ·show ((num 0 l : Nat) : Int) < _; omega
 ·exact ⟨Int.le_refl _, by decide⟩
theorem zb (l : List UInt8) (hs : l.length ≤ 1000000000) : mr (bs l) = some (Jv l) := by
 unfold mr kW
 simp only [aB, aD]
 cases l with
 | nil =>
  rw [if_neg (by simp), if_neg (by simp), jK [] (by simp), ae]; rfl
 | cons b r =>
  rw [if_pos (by simp), bO (by simp), show (0 : Int).toNat = ((0 : Nat) : Int).toNat from rfl, vv (b :: r) 0 (by simp)]
  show (if (((b.toNat : Nat) : Int) == ((((45 : UInt8).toNat : Nat)) : Int)) = true then _ else _) = _
  rw [xx]
  by_cases h : b = 45
  ·subst h
   rw [if_pos (by decide), bO (by rw [List.length_cons]; omega), lA]
   have e : ((45 :: r).take (((45 :: r).length : Nat) : Int).toNat).drop (1 : Int).toNat = r := by simp
   rw [e, jK r (by simp at hs; omega), ae]
   have := F3 r
   rw [fJ (by omega) (by omega)]
   simp [Jv]
  ·rw [if_neg (by simpa using h), jK _ hs, ae]
   simp [Jv, h]
end Go.Proofs.YtpmoopnkoknbeaaGreatDoor
namespace Go.Proofs.YtpmoopnkoknbeaaGreatDoor
open Go Go.PX Go.SX Go.SX.Cal
def rq : List UInt8 → List UInt8 → Option (List UInt8 × List UInt8)
 | acc, [] => none
 | acc, [b] => if b = 39 then some (acc, []) else none
 | acc, b :: c :: r => if b = 39 then (if c = 39 then rq (acc ++ [39]) r else some (acc, c :: r)) else rq (acc ++ [b]) (c :: r)
theorem AR (acc : List UInt8) : rq acc [] = none := by simp [rq]
theorem wO {b : UInt8} (h : b ≠ 39) (acc r : List UInt8) : rq acc (b :: r) = rq (acc ++ [b]) r := by
 cases r with
 | nil => simp [rq, h]
 | cons c r => simp [rq, h]
theorem C3 (acc r : List UInt8) : rq acc (39 :: 39 :: r) = rq (acc ++ [39]) r := by simp [rq]
theorem AD (acc r : List UInt8) (h : r.head? ≠ some 39) : rq acc (39 :: r) = some (acc, r) := by
 cases r with
 | nil => simp [rq]
 | cons c r => simp at h; simp [rq, h]
theorem Cg : ∀ (s acc rest : List UInt8), rest.head? ≠ some 39 → rq acc (qH s ++ 39 :: rest) = some (acc ++ s, rest)
 | [], acc, rest, h => by simp [qH, AD _ _ h]
 | b :: s, acc, rest, h => by
  by_cases hb : b = 39
  ·subst hb
   simp only [qH, if_true, List.cons_append, C3]
   rw [Cg s _ rest h]; simp
  ·simp only [qH, if_neg hb, List.cons_append]
   rw [wO hb, Cg s _ rest h]; simp
theorem Cw : ∀ (n : Nat) (s acc : List UInt8), s.length ≤ n → ∀ a r, rq acc s = some (a, r) → a.length + r.length + 1 ≤ acc.length + s.length
 | 0, s, acc, h => by
  have : s = [] := List.length_eq_zero_iff.1 (by omega)
  subst this
  rw [AR]; intro a r h; cases h
 | n + 1, s, acc, h => by
  match s with
  | [] => rw [AR]; intro a r h; cases h
  | b :: r =>
   simp at h
   by_cases hb : b = 39
   ·subst hb
    by_cases hr : r.head? = some 39
    ·match r, hr with
     | c :: r, hr =>
      simp at hr; subst hr
      rw [C3]
      intro a u h2
      have := Cw n r (acc ++ [39]) (by simp at h; omega) a u h2
      simp at this ⊢
      omega
    ·rw [AD _ _ hr]
     intro a u h2
     simp at h2
     obtain ⟨rfl, rfl⟩ := h2
     simp; omega
   ·rw [wO hb]
    intro a u h2
    have := Cw n r (acc ++ [b]) h a u h2
    simp at this ⊢
    omega
abbrev kH : ac := ac.mk (0 : Int) (0 : Int) (0 : Int) ByteArray.empty []
def LU (p1 : ByteArray) : Option (List UInt8 × List UInt8) → ac × ByteArray × Bool
 | none => (kH, p1, false)
 | some (a, r) => (ac.mk 4 0 0 (bs a) [], bs r, true)
theorem gk (l : List UInt8) (k : Nat) : (bs l).extract k ((l.length : Nat) : Int).toNat = bs (l.drop k) := by
 rw [lA, Int.toNat_natCast, List.take_length]
theorem AA (L : List UInt8) (hL : L.length ≤ 1000000000) : ∀ (m f i : Nat) (acc : List UInt8), L.length ≤ i + m → i ≤ L.length → m < f → acc.length ≤ i →
  ca (bs L) f (bs acc) (i : Int) = some (LU (bs L) (rq acc (L.drop i))) := by
 intro m
 induction m with
 | zero =>
  intro f i acc h1 h2 hf ha
  obtain ⟨f, rfl⟩ : ∃ g, f = g + 1 := ⟨f - 1, by omega⟩
  rw [ca, aD, aB, if_neg (by simp; omega), List.drop_of_length_le (by omega), AR]
  rfl
 | succ m ih =>
  intro f i acc h1 h2 hf ha
  obtain ⟨f, rfl⟩ : ∃ g, f = g + 1 := ⟨f - 1, by omega⟩
  rcases Nat.lt_or_ge i L.length with hlt | hge
  ·have hd : L.drop i = L[i] :: L.drop (i + 1) := List.drop_eq_getElem_cons hlt
   have hw : IntKind.i64.wrap ((i : Int) + 1) = ((i + 1 : Nat) : Int) := by rw [fJ (by omega) (by omega)]; omega
   have hw3 : IntKind.i64.wrap (((i + 1 : Nat) : Int) + 1) = ((i + 2 : Nat) : Int) := by rw [fJ (by omega) (by omega)]; omega
   have hne : ((((L[i]).toNat : Nat) : Int) != (39 : Int)) = !(L[i] == 39) := by
    rw [← xx]; rfl
   have hone : (bs L).extract (i : Int).toNat ((i + 1 : Nat) : Int).toNat = bs [L[i]] := by
    rw [lA, show (i : Int).toNat = i by omega, show ((i + 1 : Nat) : Int).toNat = i + 1 by omega, lO hlt, List.drop_left' (by simp; omega)]
   rw [ca]
   unfold ly ln
   simp only [aD, hw, hw3]
   rw [aB, if_pos (by simp; omega), bO (by omega), aB, vv L i hlt, hne, hd]
   by_cases hb : L[i] = 39
   ·rw [if_neg (by simp [hb]), aB, hb]
    by_cases hn : i + 1 < L.length
    ·have hd2 : L.drop (i + 1) = L[i + 1] :: L.drop (i + 2) := List.drop_eq_getElem_cons hn
     rw [if_pos (by simp; omega), bO (by omega), ae, vv L (i + 1) hn]
     rw [show ((((L[i + 1]).toNat : Nat) : Int) == (39 : Int)) = (L[i + 1] == 39) by rw [← xx]; rfl]
     by_cases hc : L[i + 1] = 39
     ·rw [aB, if_pos (by simp [hc]), hd2, hc, C3]
      show bB (acc.length + 1 ≤ _) (ca (bs L) f (bs acc ++ bs [39]) _) = _
      rw [bO (by omega), gQ]
      rw [hw3]
      exact ih f (i + 2) (acc ++ [39]) (by omega) (by omega) (by omega) (by simp; omega)
     ·rw [aB, if_neg (by simp [hc]), bO (by omega), ae, show ((i + 1 : Nat) : Int).toNat = i + 1 by omega, gk, AD _ _ (by rw [hd2]; exact fun h => hc (Option.some.inj h))]
      rfl
    ·rw [if_neg (by simp; omega), aB, if_neg (by simp), bO (by omega), ae, show ((i + 1 : Nat) : Int).toNat = i + 1 by omega, gk, AD _ _ (by rw [List.drop_of_length_le (by omega)]; simp)]
     rfl
   ·rw [if_pos (by simp [hb]), bO (by omega), hone, aD, bO (by simp; omega), ae, gQ, wO hb]
    exact ih f (i + 1) (acc ++ [L[i]]) (by omega) (by omega) (by omega) (by simp; omega)
  ·rw [ca, aD, aB, if_neg (by simp; omega), List.drop_of_length_le (by omega), AR]
   rfl
def CZ : List UInt8 → ac × ByteArray × Bool
 | [] => (kH, bs [], false)
 | b :: r => if b = 39 then LU (bs (b :: r)) (rq [] r) else (kH, bs (b :: r), false)
theorem Cq (L : List UInt8) (hL : L.length ≤ 1000000000) : oB (bs L) = some (CZ L) := by
 unfold oB lB
 simp only [aB, aD]
 cases L with
 | nil => rfl
 | cons b r =>
  rw [if_neg (by simp; omega), bO (by simp), show (0 : Int).toNat = ((0 : Nat) : Int).toNat from rfl, vv (b :: r) 0 (by simp)]
  rw [show (((((b :: r)[0]).toNat : Nat) : Int) != (39 : Int)) = !(b == 39) by rw [← xx]; rfl]
  by_cases hb : b = 39
  ·rw [if_neg (by simp [hb]), show CZ (b :: r) = LU (bs (b :: r)) (rq [] r) from if_pos hb]
   have := AA (b :: r) hL (b :: r).length ba 1 [] (by omega) (by simp) (by rw [aF]; omega) (by simp)
   rw [List.drop_succ_cons, List.drop_zero] at this
   exact this
  ·rw [if_pos (by simp [hb]), show CZ (b :: r) = (kH, bs (b :: r), false) from if_neg hb]
theorem GR (p1 : af) (p2 r4 : ByteArray) : ∀ (n f : Nat) (l : List UInt8), l.length ≤ n → l.length ≤ 1000000000 → n < f → ∃ l', cj p1 p2 r4 f (bs l) = jV p1 p2 r4 (bs l') ∧ l'.length ≤ l.length ∧ ((l.length ≤ 18 ∨ ∃ c r, l = 45 :: c :: r ∧ c ≠ 48) → l' = l) := by
 intro n
 induction n with
 | zero =>
  intro f l hl _ hf
  obtain ⟨f, rfl⟩ : ∃ g, f = g + 1 := ⟨f - 1, by omega⟩
  refine ⟨l, ?_, Nat.le_refl _, fun _ => rfl⟩
  rw [cj, aD, aB, if_neg (by simp; omega)]
  unfold dI
  rw [aB, if_neg (by simp)]
 | succ n ih =>
  intro f l hl hb hf
  obtain ⟨f, rfl⟩ : ∃ g, f = g + 1 := ⟨f - 1, by omega⟩
  rw [cj, aD, aB]
  by_cases h18 : 18 < l.length
  ·obtain ⟨b, c, r, rfl⟩ : ∃ b c r, l = b :: c :: r := by
    match l, h18 with
    | b :: c :: r, _ => exact ⟨b, c, r, rfl⟩
    | [_], h => simp at h
    | [], h => simp at h
   simp only [List.length_cons] at hl hb h18
   rw [if_pos (by simp; omega), bO (by simp; omega), aB, show (0 : Int).toNat = ((0 : Nat) : Int).toNat from rfl, vv _ 0 (by simp)]
   rw [show (((((b :: c :: r)[0]).toNat : Nat) : Int) == (48 : Int)) = (b == 48) by rw [← xx]; rfl]
   have hstop : dI (cj p1 p2 r4 f) p1 p2 r4 (bs (b :: c :: r)) false = jV p1 p2 r4 (bs (b :: c :: r)) := by
    unfold dI
    rw [aB, if_neg (by simp)]
   by_cases h48 : b = 48
   ·subst h48
    rw [if_pos (by decide)]
    unfold dI
    rw [aB, if_pos rfl, aD, bO (by simp; omega), aB, show (0 : Int).toNat = ((0 : Nat) : Int).toNat from rfl, vv _ 0 (by simp)]
    rw [if_neg (by show ¬ ((((48 : UInt8).toNat : Nat) : Int) == (45 : Int)) = true; decide), bO (by simp; omega), show (1 : Int).toNat = 1 from rfl, gk, List.drop_succ_cons, List.drop_zero]
    obtain ⟨l', g1, g2, g3⟩ := ih f (c :: r) (by simp; omega) (by simp; omega) (by omega)
    refine ⟨l', g1, by simp at g2 ⊢; omega, fun hh => ?_⟩
    rcases hh with hh | ⟨_, _, hh, _⟩
    ·simp at hh; omega
    ·simp at hh
   ·rw [if_neg (by simpa using h48), bO (by simp; omega), aB]
    rw [show (((((b :: c :: r)[0]).toNat : Nat) : Int) == (45 : Int)) = (b == 45) by rw [← xx]; rfl]
    by_cases h45 : b = 45
    ·subst h45
     rw [if_pos (by decide), bO (by simp; omega), show (1 : Int).toNat = ((1 : Nat) : Int).toNat from rfl, vv _ 1 (by simp)]
     rw [show (((((45 :: c :: r)[1]).toNat : Nat) : Int) == (48 : Int)) = (c == 48) by rw [← xx]; rfl]
     by_cases hc : c = 48
     ·subst hc
      rw [show ((48 : UInt8) == 48) = true by decide]
      unfold dI
      rw [aB, if_pos rfl, aD, bO (by simp; omega), aB, show (0 : Int).toNat = ((0 : Nat) : Int).toNat from rfl, vv _ 0 (by simp)]
      rw [if_pos (by show ((((45 : UInt8).toNat : Nat) : Int) == (45 : Int)) = true; decide), bO (by simp; omega), show (2 : Int).toNat = 2 from rfl, gk, List.drop_succ_cons, List.drop_succ_cons, List.drop_zero]
      show ∃ l', bB ((bs [45]).size + (bs r).size ≤ _) (ay (some (bs [45] ++ bs r)) fun y3 => cj p1 p2 r4 f y3) = _ ∧ _
      rw [aD, aD, bO (by simp; omega), ae, gQ]
      obtain ⟨l', g1, g2, g3⟩ := ih f ([45] ++ r) (by simp; omega) (by simp; omega) (by omega)
      refine ⟨l', g1, by simp at g2 ⊢; omega, fun hh => ?_⟩
      rcases hh with hh | ⟨_, _, hh, hne⟩
      ·simp at hh; omega
      ·simp at hh; exact absurd hh.1.symm hne
     ·rw [show (c == 48) = false by simpa using hc, hstop]
      exact ⟨_, rfl, Nat.le_refl _, fun _ => rfl⟩
    ·rw [if_neg (by simpa using h45), hstop]
     exact ⟨_, rfl, Nat.le_refl _, fun _ => rfl⟩
  ·refine ⟨l, ?_, Nat.le_refl _, fun _ => rfl⟩
   rw [if_neg (by simp; omega)]
   unfold dI
   rw [aB, if_neg (by simp)]
abbrev wl (l : List UInt8) : List UInt8 := l.filter (· != 46)
theorem FF (p1 : af) (p2 : ByteArray) (w : List UInt8) (hw : w.length ≤ 1000000000) : ∀ (m f i : Nat), i + m = w.length → m < f →
  eb p1 p2 (bs w) f (bs (wl (w.take i))) (i : Int) = cj p1 p2 (bs w) ba (bs (wl w)) := by
 intro m
 induction m with
 | zero =>
  intro f i hi hf
  obtain ⟨f, rfl⟩ : ∃ g, f = g + 1 := ⟨f - 1, by omega⟩
  rw [eb, aD, aB, if_neg (by simp; omega), List.take_of_length_le (by omega)]
  rfl
 | succ m ih =>
  intro f i hi hf
  obtain ⟨f, rfl⟩ : ∃ g, f = g + 1 := ⟨f - 1, by omega⟩
  have hlt : i < w.length := by omega
  have hw1 : IntKind.i64.wrap ((i : Int) + 1) = ((i + 1 : Nat) : Int) := by rw [fJ (by omega) (by omega)]; omega
  have hone : (bs w).extract (i : Int).toNat ((i + 1 : Nat) : Int).toNat = bs [w[i]] := by
   rw [lA, show (i : Int).toNat = i by omega, show ((i + 1 : Nat) : Int).toNat = i + 1 by omega, lO hlt, List.drop_left' (by simp; omega)]
  have hfl : (wl (w.take i)).length ≤ i := Nat.le_trans (List.length_filter_le _ _) (by simp; omega)
  rw [eb, aD, aB, if_pos (by simp; omega), bO (by omega), aB, vv w i hlt, hw1]
  rw [show ((((w[i]).toNat : Nat) : Int) != (46 : Int)) = (w[i] != 46) by show (!_) = (!_); rw [← xx]; rfl]
  unfold mc
  rw [hw1]
  have := ih f (i + 1) (by omega) (by omega)
  rw [lO hlt, show wl (w.take i ++ [w[i]]) = wl (w.take i) ++ wl [w[i]] from List.filter_append ..] at this
  by_cases hc : w[i] = 46
  ·rw [if_neg (by simp [hc])]
   rw [show wl [w[i]] = [] by simp [wl, hc], List.append_nil] at this
   exact this
  ·rw [if_pos (by simp [hc]), bO (by omega), hone, aD, aD, bO (by simp at hfl ⊢; omega), ae, gQ]
   rw [show wl [w[i]] = [w[i]] by simp [wl, hc]] at this
   exact this
end Go.Proofs.YtpmoopnkoknbeaaGreatDoor
namespace Go.Proofs.YtpmoopnkoknbeaaGreatDoor
open Go Go.PX Go.SX Go.SX.Cal
abbrev EK : List UInt8 := [110, 117, 108, 108]
structure Rr (s : List UInt8) (v : ac) (s' : List UInt8) (ok : Bool) : Prop where
 le : s'.length ≤ s.length
 sz : ok = true → bh v + s'.length ≤ s.length + 1
theorem Hq (s : List UInt8) {β : Type} (F : Bool → Option β) :
  (ax (decide ((4 : Int) ≤ ((bs s).size : Int)))
   (bB (0 ≤ (0 : Int) ∧ (0 : Int) ≤ (4 : Int) ∧ (4 : Int) ≤ ((bs s).size : Int)) <|
    ay (some (((bs s).extract (0 : Int).toNat (4 : Int).toNat).toList == (ByteArray.mk #[110, 117, 108, 108]).toList)) fun y1 => F y1)
   (F false)) = F (pre EK s) := by
 rw [aD, aB]
 by_cases h : 4 ≤ s.length
 ·rw [if_pos (by simp; omega), bO (by omega), ae, lA, show (ByteArray.mk #[110, 117, 108, 108]) = bs EK from rfl, mZ]
  congr 1
  rw [Bool.eq_iff_iff, iM]
  simp [h]
 ·rw [if_neg (by simp; omega)]
  congr 1
  rw [eq_comm, Bool.eq_false_iff]
  intro h2
  exact h ((iM _ _).1 h2).1
theorem yR (t : af) (s : List UInt8) : lK t (bs s) = bN t (bs s) (pre EK s) := Hq s (fun y => bN t (bs s) y)
theorem xt (t : af) (s : List UInt8) (h : pre EK s = true) : bN t (bs s) true = some (kH, bs (off EK s), true) := by
 have := ((iM _ _).1 h).1
 simp only [List.length_cons, List.length_nil] at this
 unfold bN
 rw [aB, if_pos rfl, aD, bO (by omega), show (4 : Int).toNat = 4 from rfl, gk]
 unfold off
 rw [if_pos h]
 rfl
theorem GU (p s : List UInt8) : s.drop (iS p s).length = od p s := by
 have h := np p s
 have h2 : (iS p s ++ od p s).drop (iS p s).length = od p s := List.drop_left' rfl
 rw [h] at h2
 exact h2
theorem AK (p s : List UInt8) : (bs s).extract (((iS p s).length : Nat) : Int).toNat ((s.length : Nat) : Int).toNat = bs (od p s) := by
 rw [Int.toNat_natCast, gk, GU]
abbrev DB : List UInt8 := [116, 114, 117, 101, 102, 97, 108, 115]
abbrev yw : List UInt8 := [45, 48, 49, 50, 51, 52, 53, 54, 55, 56, 57, 46]
abbrev yf : List UInt8 := [48, 49, 50, 51, 52, 53, 54, 55, 56, 57, 45, 84, 58, 90]
theorem BK (s : List UInt8) (x : Int) (p : List UInt8) (hs : s.length ≤ 1000000000) : kg (bs s) (bs (iS p s)) x = some (ac.mk 1 x 0 ByteArray.empty [], bs (od p s), true) := by
 have h := mi p s
 unfold kg
 rw [aD, aD, bO (by omega), AK]
theorem wH {t : af} (h : t.kind = 1) (s : List UInt8) (hs : s.length ≤ 1000000000) : bN t (bs s) false = some (ac.mk 1 (if iS DB s = [116, 114, 117, 101] then 1 else 0) 0 ByteArray.empty [], bs (od DB s), true) := by
 unfold bN
 simp only [aB, beq_iff_eq, h]
 rw [if_neg (by simp), if_pos trivial, show (ByteArray.mk #[116, 114, 117, 101, 102, 97, 108, 115]) = bs DB from rfl, ui _ _ (by decide) hs, ae, BK s 1 DB hs, BK s 0 DB hs]
 have e : (bs (iS DB s)).toList = (ByteArray.mk #[116, 114, 117, 101]).toList ↔ iS DB s = [116, 114, 117, 101] := by
  rw [show (ByteArray.mk #[116, 114, 117, 101]) = bs [116, 114, 117, 101] from rfl, rI, rI]
 by_cases hx : iS DB s = [116, 114, 117, 101]
 ·rw [if_pos (e.2 hx), if_pos hx]
 ·rw [if_neg (fun h => hx (e.1 h)), if_neg hx]
theorem yH {t : af} (h : t.kind = 2) (s : List UInt8) (hs : s.length ≤ 1000000000) : bN t (bs s) false = some (ac.mk 2 (Jv (iS ut s)).1 0 ByteArray.empty [], bs (od ut s), (Jv (iS ut s)).2) := by
 have hl := mi ut s
 unfold bN
 simp only [aB, beq_iff_eq, h]
 rw [if_neg (by simp), if_neg (by decide), if_pos trivial, show (ByteArray.mk #[45, 48, 49, 50, 51, 52, 53, 54, 55, 56, 57]) = bs ut from rfl, ui _ _ (by decide) hs, ae, zb _ (by omega), ae, aD, aD, bO (by omega), AK]
theorem zc {t : af} (h : t.kind = 3) (s : List UInt8) (hs : s.length ≤ 1000000000) : ∃ l', bN t (bs s) false = some (ac.mk 3 (Jv l').1 t.scale ByteArray.empty [], bs (od yw s), (Jv l').2) ∧
  (((wl (iS yw s)).length ≤ 18 ∨ ∃ c r, wl (iS yw s) = 45 :: c :: r ∧ c ≠ 48) → l' = wl (iS yw s)) := by
 have hl := mi yw s
 have hf : (wl (iS yw s)).length ≤ (iS yw s).length := List.length_filter_le _ _
 have hp := FF t (bs s) (iS yw s) (by omega) (iS yw s).length ba 0 (by omega) (by rw [aF]; omega)
 obtain ⟨l', g1, g2, g3⟩ := GR t (bs s) (bs (iS yw s)) (wl (iS yw s)).length ba (wl (iS yw s)) (Nat.le_refl _) (by omega) (by rw [aF]; omega)
 refine ⟨l', ?_, g3⟩
 unfold bN
 simp only [aB, beq_iff_eq, h]
 rw [if_neg (by simp), if_neg (by decide), if_neg (by decide), if_pos trivial, show (ByteArray.mk #[45, 48, 49, 50, 51, 52, 53, 54, 55, 56, 57, 46]) = bs yw from rfl, ui _ _ (by decide) hs, ae]
 refine (Eq.trans hp g1).trans ?_
 unfold jV
 rw [zb _ (by omega), ae, aD, aD, bO (by omega), AK]
theorem xV {t : af} (h : t.kind = 4) (s : List UInt8) (hs : s.length ≤ 1000000000) : bN t (bs s) false = some (CZ s) := by
 unfold bN
 simp only [aB, beq_iff_eq, h]
 rw [if_neg (by simp), if_neg (by decide), if_neg (by decide), if_neg (by decide), if_pos trivial, Cq _ hs, ae]
def sl (w : List UInt8) (a b : Nat) : List UInt8 := (w.take b).drop a
def HQ (s w : List UInt8) : ac × ByteArray × Bool :=
 if (am (sl w 0 4)).2 = true ∧ (am (sl w 5 7)).2 = true ∧ (am (sl w 8 10)).2 = true ∧ (am (sl w 11 13)).2 = true ∧ (am (sl w 14 16)).2 = true ∧ (am (sl w 17 19)).2 = true ∧
  Tm.chk ⟨(am (sl w 0 4)).1, (am (sl w 5 7)).1, (am (sl w 8 10)).1, (am (sl w 11 13)).1, (am (sl w 14 16)).1, (am (sl w 17 19)).1⟩
 then (ac.mk 5 (Tm.sec ⟨(am (sl w 0 4)).1, (am (sl w 5 7)).1, (am (sl w 8 10)).1, (am (sl w 11 13)).1, (am (sl w 14 16)).1, (am (sl w 17 19)).1⟩) 0 ByteArray.empty [], bs (s.drop 20), true)
 else (kH, bs s, false)
theorem yX {t : af} (h : t.kind = 5) (s : List UInt8) (hs : s.length ≤ 1000000000) : bN t (bs s) false = some (if (iS yf s).length = 20 then HQ s (iS yf s) else (kH, bs s, false)) := by
 have hl := mi yf s
 have hsl : ∀ a b, b ≤ 20 → (sl (iS yf s) a b).length ≤ 1000000000 := by intro a b hb; unfold sl; simp; omega
 have hx : ∀ a b : Nat, (bs (iS yf s)).extract a b = bs (sl (iS yf s) a b) := fun a b => lA _ _ _
 unfold bN
 simp only [aB, beq_iff_eq, h]
 rw [if_neg (by simp), if_neg (by decide), if_neg (by decide), if_neg (by decide), if_neg (by decide), if_pos trivial, show (ByteArray.mk #[48, 49, 50, 51, 52, 53, 54, 55, 56, 57, 45, 84, 58, 90]) = bs yf from rfl, ui _ _ (by decide) hs, ae, aD, aD]
 by_cases h20 : (iS yf s).length = 20
 ·rw [if_neg (by simp [h20]), if_pos h20, h20]
  unfold HQ
  simp only [show (0 : Int).toNat = 0 from rfl, show (4 : Int).toNat = 4 from rfl, show (5 : Int).toNat = 5 from rfl, show (7 : Int).toNat = 7 from rfl, show (8 : Int).toNat = 8 from rfl, show (10 : Int).toNat = 10 from rfl, show (11 : Int).toNat = 11 from rfl, show (13 : Int).toNat = 13 from rfl, show (14 : Int).toNat = 14 from rfl, show (16 : Int).toNat = 16 from rfl, show (17 : Int).toNat = 17 from rfl, show (19 : Int).toNat = 19 from rfl, show (20 : Int).toNat = 20 from rfl, hx, gk]
  rw [jK _ (hsl 0 4 (by decide)), jK _ (hsl 5 7 (by decide)), jK _ (hsl 8 10 (by decide)), jK _ (hsl 11 13 (by decide)), jK _ (hsl 14 16 (by decide)), jK _ (hsl 17 19 (by decide))]
  generalize am (sl (iS yf s) 0 4) = a1
  generalize am (sl (iS yf s) 5 7) = a2
  generalize am (sl (iS yf s) 8 10) = a3
  generalize am (sl (iS yf s) 11 13) = a4
  generalize am (sl (iS yf s) 14 16) = a5
  generalize am (sl (iS yf s) 17 19) = a6
  simp only [ae, Tm.rcheck_eq]
  obtain ⟨y1, b1⟩ := a1; obtain ⟨y2, b2⟩ := a2; obtain ⟨y3, b3⟩ := a3; obtain ⟨y4, b4⟩ := a4; obtain ⟨y5, b5⟩ := a5; obtain ⟨y6, b6⟩ := a6
  dsimp only
  rw [bO (by decide)]
  cases b1 with
  | false => simp
  | true =>
   rw [if_neg (by simp), bO (by decide)]
   cases b2 with
   | false => simp
   | true =>
    rw [if_neg (by simp), bO (by decide)]
    cases b3 with
    | false => simp
    | true =>
     rw [if_neg (by simp), bO (by decide)]
     cases b4 with
     | false => simp
     | true =>
      rw [if_neg (by simp), bO (by decide)]
      cases b5 with
      | false => simp
      | true =>
       rw [if_neg (by simp), bO (by decide)]
       cases b6 with
       | false => simp
       | true =>
        rw [if_neg (by simp)]
        by_cases hc : Tm.chk ⟨y1, y2, y3, y4, y5, y6⟩
        ·rw [if_neg (by simp [hc]), Tm.rseconds_eq hc, ae, bO (by omega), if_pos ⟨rfl, rfl, rfl, rfl, rfl, rfl, hc⟩]
        ·rw [if_pos (by simp [hc]), if_neg (fun h => hc h.2.2.2.2.2.2)]
 ·rw [if_pos (by simp; omega), if_neg h20]
theorem FE {t : af} (hk : t.kind = 1 ∨ t.kind = 2 ∨ t.kind = 3 ∨ t.kind = 4 ∨ t.kind = 5) (s : List UInt8) (hs : s.length ≤ 1000000000) :
  ∃ v s' ok, lK t (bs s) = some (v, bs s', ok) ∧ Rr s v s' ok := by
 rw [yR]
 cases hp : pre EK s with
 | true =>
  rw [xt t s hp]
  have h1 := kt EK s
  exact ⟨_, _, _, rfl, h1, fun _ => by rw [bz, bD]; omega⟩
 | false =>
  rcases hk with h | h | h | h | h
  ·rw [wH h s hs]
   have h1 := tL DB s
   exact ⟨_, _, _, rfl, h1, fun _ => by rw [bz, bD]; omega⟩
  ·rw [yH h s hs]
   have h1 := tL ut s
   exact ⟨_, _, _, rfl, h1, fun _ => by rw [bz, bD]; omega⟩
  ·obtain ⟨l', e, _⟩ := zc h s hs
   rw [e]
   have h1 := tL yw s
   exact ⟨_, _, _, rfl, h1, fun _ => by rw [bz, bD]; omega⟩
  ·rw [xV h s hs]
   cases s with
   | nil => exact ⟨kH, [], false, rfl, Nat.le_refl _, fun h => by cases h⟩
   | cons b r =>
    by_cases hb : b = 39
    ·rw [show CZ (b :: r) = LU (bs (b :: r)) (rq [] r) from if_pos hb]
     cases hq : rq [] r with
     | none => exact ⟨kH, b :: r, false, rfl, Nat.le_refl _, fun h => by cases h⟩
     | some x =>
      obtain ⟨a, u⟩ := x
      have := Cw _ r [] (Nat.le_refl _) a u hq
      simp only [List.length_nil] at this
      exact ⟨_, u, true, rfl, by simp; omega, fun _ => by rw [bz, aD]; simp; omega⟩
    ·rw [show CZ (b :: r) = (kH, bs (b :: r), false) from if_neg hb]
     exact ⟨kH, b :: r, false, rfl, Nat.le_refl _, fun h => by cases h⟩
  ·rw [yX h s hs]
   by_cases h20 : (iS yf s).length = 20
   ·rw [if_pos h20]
    unfold HQ
    split
    ·exact ⟨_, s.drop 20, true, rfl, by simp, fun _ => by rw [bz, bD]; simp; omega⟩
    ·exact ⟨kH, s, false, rfl, Nat.le_refl _, fun h => by cases h⟩
   ·rw [if_neg h20]
    exact ⟨kH, s, false, rfl, Nat.le_refl _, fun h => by cases h⟩
end Go.Proofs.YtpmoopnkoknbeaaGreatDoor
namespace Go.Proofs.YtpmoopnkoknbeaaGreatDoor
open Go Go.PX Go.SX Go.SX.Cal
theorem Hy {l : List UInt8} (h0 : l ≠ []) (h1 : l.length ≤ 18) (hd : l.all oQ = true) : am l = (((num 0 l : Nat) : Int), true) := by
 unfold am
 rw [if_pos ⟨fun h => h0 (List.length_eq_zero_iff.1 h), h1, hd⟩]
theorem HY {n : Int} {l : List UInt8} (h0 : l ≠ []) (h1 : l.length ≤ 18) (hd : l.all oQ = true) (hn : num 0 l = n.natAbs) : Jv (sg n l) = (n, true) := by
 unfold sg
 split
 ·show (if (45 : UInt8) = 45 then (-(am l).1, (am l).2) else am (45 :: l)) = _
  rw [if_pos rfl, Hy h0 h1 hd, hn]
  simp only [Prod.mk.injEq, and_true]
  omega
 ·match l, h0 with
  | b :: r, h0 =>
   have hb : b ≠ 45 := by
    rintro rfl
    simp only [List.all_cons, Bool.and_eq_true] at hd
    exact absurd hd.1 (by decide)
   show (if b = 45 then (-(am r).1, (am r).2) else am (b :: r)) = _
   rw [if_neg hb, Hy h0 h1 hd, hn]
   simp only [Prod.mk.injEq, and_true]
   omega
theorem G1 (u : Nat) (h : u ≠ 0) : ∃ c r, Lib.decDigits u = c :: r ∧ c ≠ 48 := by
 induction u using Nat.strongRecOn with
 | _ u ih =>
  rw [Lib.decDigits]
  by_cases h10 : u < 10
  ·rw [dif_pos h10]
   refine ⟨_, _, rfl, fun e => ?_⟩
   have := (uB u h10).2
   rw [e] at this
   exact h (by have h2 : (48 : UInt8).toNat = 48 := rfl; omega)
  ·rw [dif_neg h10]
   obtain ⟨c, r, e, hc⟩ := ih (u / 10) (by omega) (by omega)
   exact ⟨c, r ++ _, by rw [e]; rfl, hc⟩
theorem Es {l : List UInt8} (h : l.all oQ = true) : wl l = l := by
 apply List.filter_eq_self.2
 intro x hx
 have := List.all_eq_true.1 h x hx
 simp only [bne_iff_ne]
 rintro rfl
 exact absurd this (by decide)
theorem Ix {n : Int} {p q : List UInt8} (h1 : p.all oQ = true) (h2 : q.all oQ = true) : wl (sg n (p ++ 46 :: q)) = sg n (p ++ q) := by
 have e : wl (p ++ 46 :: q) = p ++ q := by
  show List.filter _ _ = _
  rw [List.filter_append]
  show wl p ++ wl (46 :: q) = _
  rw [Es h1, show wl (46 :: q) = wl q from rfl, Es h2]
 unfold sg
 split
 ·rw [show wl (45 :: (p ++ 46 :: q)) = 45 :: wl (p ++ 46 :: q) from rfl, e]
 ·exact e
theorem Hv {b : UInt8} (h : ut.contains b = true) : yw.contains b = true := by
 have hh : ((List.range 256).all fun n => !ut.contains (UInt8.ofNat n) || yw.contains (UInt8.ofNat n)) = true := by decide +kernel
 have h2 := List.all_eq_true.1 hh b.toNat (List.mem_range.2 (UInt8.toNat_lt b))
 rw [UInt8.ofNat_toNat, h] at h2
 exact h2
theorem JL {b : UInt8} (h : oQ b = true) : yf.contains b = true := by
 have hh : ((List.range 256).all fun n => !oQ (UInt8.ofNat n) || yf.contains (UInt8.ofNat n)) = true := by decide +kernel
 have h2 := List.all_eq_true.1 hh b.toNat (List.mem_range.2 (UInt8.toNat_lt b))
 rw [UInt8.ofNat_toNat, h] at h2
 exact h2
theorem IE {l : List UInt8} (h : l.all oQ = true) : l.all (yf.contains ·) = true :=
 List.all_eq_true.2 (fun x hx => JL (List.all_eq_true.1 h x hx))
theorem MH {l : List UInt8} (h : l.length = 4) : ∃ a b c d, l = [a, b, c, d] := by
 match l, h with
 | [a, b, c, d], _ => exact ⟨a, b, c, d, rfl⟩
theorem H5 {l : List UInt8} (h : l.length = 2) : ∃ a b, l = [a, b] := by
 match l, h with
 | [a, b], _ => exact ⟨a, b, rfl⟩
theorem u5 {n : Int} (k : Nat) (hk : 1 ≤ k ∧ k ≤ 4) (h0 : 0 ≤ n) (h1 : n.natAbs < 10 ^ k) : (kz k n.natAbs).length = k ∧ am (kz k n.natAbs) = (n, true) := by
 obtain ⟨a, b, c⟩ := nP k n.natAbs
 have hl := pG k n.natAbs hk.1 h1
 refine ⟨hl, ?_⟩
 rw [Hy c (by omega) a, b]
 simp only [Prod.mk.injEq, and_true]
 omega
theorem Hc {d : Nat} {t : af} {v : ac} (h : rt (d + 1) v) (hV : V t) (ho : rZ (d + 1) t v = true) (hk : t.kind = 1 ∨ t.kind = 2 ∨ t.kind = 3 ∨ t.kind = 4 ∨ t.kind = 5) (r : List UInt8) (hr : tP r) (hN : (T v ++ r).length ≤ 1000000000) :
  lK t (bs (T v ++ r)) = some (v, bs r, true) := by
 obtain ⟨hp, hi⟩ := h.succ
 have hl := lz hp
 rw [yR]
 by_cases h0 : v.kind = 0
 ·have hT : T v = EK := by rw [mQ, if_pos h0]
  rw [hT, iC, xt _ _ (iC _ _), jM]
  unfold kH
  rw [mR h0 (hl.nn (.inl h0)) (bW hp (by omega)) (jn (hl.zero (by omega))) (bq hp (by omega) (by omega))]
 obtain ⟨o1, o2, o3⟩ := qB ho h0
 have hpre : pre EK (T v ++ r) = false := by
  obtain ⟨b, u, e1, _, _, _, e2⟩ := wF h r
  rw [e1]
  exact mL _ _ (fun hh => e2 h0 hh.symm)
 have hsc : v.scale = t.scale := by
  by_cases h3 : v.kind = 3
  ·exact o2 h3
  ·rw [bW hp h3, hV.scale (by omega)]
 have hit := bq hp (by omega) (by omega)
 rw [hpre]
 rcases hk with hk | hk | hk | hk | hk
 ·have h1 : v.kind = 1 := by omega
  have hz := jn (hl.zero (by omega))
  rw [wH hk _ hN]
  have hend : ∀ b, r.head? = some b → DB.contains b = false := by
   intro b hb
   rcases hr b hb with rfl | rfl | rfl <;> decide
  rcases hl.bool h1 with hn | hn
  ·have hT : T v = [102, 97, 108, 115, 101] := by rw [mQ, if_neg h0, if_pos h1, if_neg (by omega)]
   obtain ⟨t1, t2⟩ := tw (p := (DB.contains ·)) (l := [102, 97, 108, 115, 101]) (r := r) (by decide) hend
   rw [hT, show iS DB ([102, 97, 108, 115, 101] ++ r) = _ from t1, show od DB ([102, 97, 108, 115, 101] ++ r) = _ from t2, if_neg (by decide)]
   rw [mR h1 hn (bW hp (by omega)) hz hit]
  ·have hT : T v = [116, 114, 117, 101] := by rw [mQ, if_neg h0, if_pos h1, if_pos hn]
   obtain ⟨t1, t2⟩ := tw (p := (DB.contains ·)) (l := [116, 114, 117, 101]) (r := r) (by decide) hend
   rw [hT, show iS DB ([116, 114, 117, 101] ++ r) = _ from t1, show od DB ([116, 114, 117, 101] ++ r) = _ from t2, if_pos rfl]
   rw [mR h1 hn (bW hp (by omega)) hz hit]
 ·have h2 : v.kind = 2 := by omega
  have hz := jn (hl.zero (by omega))
  have hnn := hl.num (.inl h2)
  have hT : T v = sg v.n (Lib.decDigits v.n.natAbs) := by rw [mQ, if_neg h0, if_neg (by omega), if_pos h2]
  obtain ⟨a, b, c⟩ := jj v.n.natAbs
  obtain ⟨t1, t2⟩ := tw (Cu v.n a) (zt hr)
  rw [yH hk _ hN, hT, show iS ut (sg v.n (Lib.decDigits v.n.natAbs) ++ r) = _ from t1, show od ut (sg v.n (Lib.decDigits v.n.natAbs) ++ r) = _ from t2]
  rw [HY c (wx _ (by omega)) a b]
  rw [mR h2 rfl (bW hp (by omega)) hz hit]
 ·have h3 : v.kind = 3 := by omega
  have hz := jn (hl.zero (by omega))
  have hnn := hl.num (.inr h3)
  have hsb := hl.sc h3
  have hT : T v = FO v.n v.scale := by rw [mQ, if_neg h0, if_neg (by omega), if_neg (by omega), if_pos h3]
  obtain ⟨p, q, e1, e2, e3, e4, e5, e6, e7, e8⟩ := rn (n := v.n) hsb.1
  have hpl := js (n := v.n) (by omega) (v.scale.toNat + 1) (by omega)
  have hall : ∀ x ∈ sg v.n (p ++ 46 :: q), yw.contains x = true := by
   have hin : ∀ x ∈ p ++ 46 :: q, yw.contains x = true := by
    intro x hx
    rcases List.mem_append.1 hx with hx | hx
    ·exact Hv (tY e2 x hx)
    ·rcases List.mem_cons.1 hx with rfl | hx
     ·decide
     ·exact Hv (tY e3 x hx)
   unfold sg
   split
   ·intro x hx
    rcases List.mem_cons.1 hx with rfl | hx
    ·decide
    ·exact hin x hx
   ·exact hin
  have hend : ∀ b, r.head? = some b → yw.contains b = false := by
   intro b hb
   rcases hr b hb with rfl | rfl | rfl <;> decide
  obtain ⟨t1, t2⟩ := tw (r := r) hall hend
  obtain ⟨l', g1, g2⟩ := zc hk _ hN
  have hT2 : T v = sg v.n (p ++ 46 :: q) := by rw [hT, e1]
  have hsp : iS yw (T v ++ r) = sg v.n (p ++ 46 :: q) := by rw [hT2]; exact t1
  have hdr : od yw (T v ++ r) = r := by rw [hT2]; exact t2
  rw [hsp, Ix e2 e3] at g2
  have hl' : l' = sg v.n (p ++ q) := by
   apply g2
   have hsl := xl v.n (p ++ q)
   rcases Nat.lt_or_ge 18 (sg v.n (p ++ q)).length with hgt | hle
   ·right
    have hneg : v.n < 0 := by
     rcases Int.lt_or_le v.n 0 with hh | hh
     ·exact hh
     ·exfalso; unfold sg at hgt; rw [if_neg (by omega)] at hgt; omega
    have e9 : p ++ q = Lib.decDigits v.n.natAbs := by
     rw [e8]
     unfold kz
     have hdl : v.scale.toNat + 1 - (Lib.decDigits v.n.natAbs).length = 0 := by
      rcases Nat.lt_or_ge (Lib.decDigits v.n.natAbs).length (v.scale.toNat + 1) with hh | hh
      ·exfalso
       have : (kz (v.scale.toNat + 1) v.n.natAbs).length = v.scale.toNat + 1 := by unfold kz; simp; omega
       omega
      ·omega
     rw [hdl]; rfl
    obtain ⟨c, u, e10, e11⟩ := G1 v.n.natAbs (by omega)
    refine ⟨c, u, ?_, e11⟩
    unfold sg
    rw [if_pos hneg, e9, e10]
   ·exact .inl hle
  rw [g1, hl', hdr, HY (by simp [e4]) (by omega) (by rw [List.all_append, e2, e3]; rfl) e5]
  rw [mR h3 rfl hsc hz hit]
 ·have h4 : v.kind = 4 := by omega
  have hT : T v = 39 :: (qH v.s.data.toList ++ [39]) := by rw [mQ, if_neg h0, if_neg (by omega), if_neg (by omega), if_neg (by omega), if_pos h4]
  have hTr : T v ++ r = 39 :: (qH v.s.data.toList ++ 39 :: r) := by rw [hT]; simp
  rw [xV hk _ hN, hTr, show CZ (39 :: (qH v.s.data.toList ++ 39 :: r)) = LU (bs (39 :: (qH v.s.data.toList ++ 39 :: r))) (rq [] (qH v.s.data.toList ++ 39 :: r)) from rfl, Cg _ _ _ (fun hh => by rcases hr 39 hh with h | h | h <;> cases h)]
  show some (ac.mk 4 0 0 (bs ([] ++ v.s.data.toList)) [], bs r, true) = _
  rw [List.nil_append, vg, mR h4 (hl.nn (.inr (.inl h4))) (bW hp (by omega)) rfl hit]
 ·have h5 : v.kind = 5 := by omega
  have hz := jn (hl.zero (by omega))
  have hm := hl.mom h5
  obtain ⟨c1, c2⟩ := tC hm.1 hm.2
  have hml := zA hm.1 hm.2
  have hT : T v = uq (Tm.civ v.n) := by rw [mQ, if_neg h0, if_neg (by omega), if_neg (by omega), if_neg (by omega), if_neg (by omega), if_pos h5]
  have hend : ∀ b, r.head? = some b → yf.contains b = false := by
   intro b hb
   rcases hr b hb with rfl | rfl | rfl <;> decide
  have hall : (uq (Tm.civ v.n)).all (yf.contains ·) = true := by
   have hx : ∀ k u, (kz k u).all (yf.contains ·) = true := fun k u => IE (nP k u).1
   unfold uq AS
   simp only [List.all_append, List.all_cons, List.all_nil, hx]
   decide
  obtain ⟨t1, t2⟩ := tw (r := r) (List.all_eq_true.1 hall) hend
  rw [hT] at hN ⊢
  rw [yX hk _ hN, show iS yf (uq (Tm.civ v.n) ++ r) = _ from t1, if_pos hml]
  have hdrop : (uq (Tm.civ v.n) ++ r).drop 20 = r := List.drop_left' hml
  obtain ⟨a1, a2, b1, b2, d1, d2, f1, f2, g1, g2, i1, i2⟩ := id c1
  have hdim := Tm.dim_bound (Tm.civ v.n).year (Tm.civ v.n).month
  generalize Tm.civ v.n = c at *
  obtain ⟨p1, q1⟩ := u5 (n := c.year) 4 (by decide) (by omega) (by omega)
  obtain ⟨p2, q2⟩ := u5 (n := c.month) 2 (by decide) (by omega) (by omega)
  obtain ⟨p3, q3⟩ := u5 (n := c.day) 2 (by decide) (by omega) (by omega)
  obtain ⟨p4, q4⟩ := u5 (n := c.hour) 2 (by decide) (by omega) (by omega)
  obtain ⟨p5, q5⟩ := u5 (n := c.minute) 2 (by decide) (by omega) (by omega)
  obtain ⟨p6, q6⟩ := u5 (n := c.second) 2 (by decide) (by omega) (by omega)
  have key : HQ (uq c ++ r) (uq c) = (ac.mk 5 (Tm.sec c) 0 ByteArray.empty [], bs r, true) := by
   unfold HQ
   rw [hdrop]
   have s1 : sl (uq c) 0 4 = kz 4 c.year.natAbs ∧ sl (uq c) 5 7 = kz 2 c.month.natAbs ∧ sl (uq c) 8 10 = kz 2 c.day.natAbs ∧ sl (uq c) 11 13 = kz 2 c.hour.natAbs ∧ sl (uq c) 14 16 = kz 2 c.minute.natAbs ∧ sl (uq c) 17 19 = kz 2 c.second.natAbs := by
    unfold uq AS sl
    generalize kz 4 c.year.natAbs = x1 at *
    generalize kz 2 c.month.natAbs = x2 at *
    generalize kz 2 c.day.natAbs = x3 at *
    generalize kz 2 c.hour.natAbs = x4 at *
    generalize kz 2 c.minute.natAbs = x5 at *
    generalize kz 2 c.second.natAbs = x6 at *
    obtain ⟨_, _, _, _, rfl⟩ := MH p1
    obtain ⟨_, _, rfl⟩ := H5 p2
    obtain ⟨_, _, rfl⟩ := H5 p3
    obtain ⟨_, _, rfl⟩ := H5 p4
    obtain ⟨_, _, rfl⟩ := H5 p5
    obtain ⟨_, _, rfl⟩ := H5 p6
    exact ⟨rfl, rfl, rfl, rfl, rfl, rfl⟩
   obtain ⟨s1, s2, s3, s4, s5, s6⟩ := s1
   rw [s1, s2, s3, s4, s5, s6, q1, q2, q3, q4, q5, q6]
   exact if_pos ⟨rfl, rfl, rfl, rfl, rfl, rfl, c1⟩
  rw [key, c2, mR h5 rfl (bW hp (by omega)) hz hit]
end Go.Proofs.YtpmoopnkoknbeaaGreatDoor
namespace Go.Proofs.YtpmoopnkoknbeaaGreatDoor
open Go Go.PX Go.SX Go.SX.Cal
theorem B3 (k0 : Nat) (t : af) (hl : ¬ (t.kind ≠ 6 ∧ t.kind ≠ 7)) (s : List UInt8) : bZ (k0 + 1) t (bs s) = fL (bZ k0) t (bs s) (pre EK s) := by
 rw [bZ, oY, ae, aB, if_neg (by simpa using hl)]
 exact Hq s (fun y => fL (bZ k0) t (bs s) y)
theorem yJ (k0 : Nat) (t : af) (hl : t.kind ≠ 6 ∧ t.kind ≠ 7) (s : List UInt8) : bZ (k0 + 1) t (bs s) = ay (lK t (bs s)) fun r2 => some (r2.1, r2.2.1, r2.2.2) := by
 rw [bZ, oY, ae, aB, if_pos (by simpa using hl)]
theorem Cy (l : List ac) (v : ac) : bM (l ++ [v]) = bM l + bh v := by
 induction l with
 | nil => simp [bM]
 | cons x l ih => simp only [List.cons_append, bM, ih]; omega
theorem C7 (l : List UInt8) (F : Bool → Option (ac × ByteArray × Bool)) :
  (ax (decide ((0 : Int) < ((bs l).size : Int)))
    (bB (0 ≤ (0 : Int) ∧ (0 : Int) < ((bs l).size : Int)) <|
     ax ((((bs l).data.toList.getD (0 : Int).toNat 0).toNat : Int) == (93 : Int)) (F true)
      (bB (0 ≤ (0 : Int) ∧ (0 : Int) < ((bs l).size : Int)) <| F ((((bs l).data.toList.getD (0 : Int).toNat 0).toNat : Int) == (41 : Int))))
    (F false)) = F (decide (l.head? = some 93 ∨ l.head? = some 41)) := by
 rw [aD, aB]
 cases l with
 | nil => rfl
 | cons b r =>
  rw [if_pos (by simp), bO (by rw [List.length_cons]; omega), aB, show (0 : Int).toNat = ((0 : Nat) : Int).toNat from rfl, vv (b :: r) 0 (by simp)]
  rw [show (((((b :: r)[0]).toNat : Nat) : Int) == (93 : Int)) = (b == 93) by rw [← xx]; rfl, show (((((b :: r)[0]).toNat : Nat) : Int) == (41 : Int)) = (b == 41) by rw [← xx]; rfl]
  by_cases h1 : b = 93
  ·rw [if_pos (by simpa using h1)]; congr 1; simp [h1]
  ·rw [if_neg (by simpa using h1), bO (by rw [List.length_cons]; omega)]
   congr 1
   rw [Bool.eq_iff_iff]; simp [h1]
theorem Fo {t : af} (hV : V t) (hkk : t.kind = 6 ∨ t.kind = 7) (p2 : List UInt8) (N : Nat) (hN : N ≤ 1000000000) (hp2 : p2.length ≤ N) (q : af → ByteArray → Option (ac × ByteArray × Bool))
  (hq : ∀ f ∈ t.fields, ∀ s, s.length ≤ N → ∃ v s' ok, q f.type (bs s) = some (v, bs s', ok) ∧ Rr s v s' ok) :
  ∀ (m f : Nat) (l : List ac) (s : List UInt8), l.length + m = 257 → m < f → bM l + s.length + (if l.length = 0 then 1 else 0) ≤ p2.length →
   ∃ v s' ok, bj q t (bs p2) f l (bs s) (l.length : Int) = some (v, bs s', ok) ∧ Rr p2 v s' ok := by
 have out : ∀ l : List ac, ∃ v s' ok, (some (ac.mk t.kind 0 0 ByteArray.empty l, bs p2, false) : Option (ac × ByteArray × Bool)) = some (v, bs s', ok) ∧ Rr p2 v s' ok :=
  fun l => ⟨_, p2, false, rfl, Nat.le_refl _, fun h => by cases h⟩
 intro m
 induction m with
 | zero =>
  intro f l s hm hf hS
  obtain ⟨f, rfl⟩ : ∃ g, f = g + 1 := ⟨f - 1, by omega⟩
  rw [bj, aB, if_neg (by simp; omega)]
  exact out l
 | succ m ih =>
  intro f l s hm hf hS
  obtain ⟨f, rfl⟩ : ∃ g, f = g + 1 := ⟨f - 1, by omega⟩
  rw [bj, aB, if_pos (by simp; omega)]
  have hc := C7 s (fun b => ej (bj q t (bs p2) f) q t (bs p2) l (bs s) (l.length : Int) b)
  refine Exists.imp (fun v => Exists.imp fun s' => Exists.imp fun ok => And.imp_left (fun h => Eq.trans hc h)) ?_
  have j3 : ∀ s1 : List UInt8, bM l + s1.length + 1 ≤ p2.length → ∃ v s' ok, iK (bj q t (bs p2) f) q t (bs p2) l (l.length : Int) (bs s1) = some (v, bs s', ok) ∧ Rr p2 v s' ok := by
   intro s1 hs1
   have j4 : ∀ x6 : Nat, ∃ v s' ok, iz (bj q t (bs p2) f) q t (bs p2) l (l.length : Int) (bs s1) (x6 : Int) = some (v, bs s', ok) ∧ Rr p2 v s' ok := by
    intro x6
    unfold iz
    rw [aB]
    by_cases hx : t.fields.length ≤ x6
    ·rw [if_pos (by simp; omega)]
     exact out l
    ·rw [if_neg (by simp; omega), cf (by omega), ae]
     obtain ⟨v, s', ok, e1, e2⟩ := hq _ (List.getElem_mem (show x6 < t.fields.length by omega)) s1 (by omega)
     rw [e1, ae]
     dsimp only
     cases ok with
     | false => exact out l
     | true =>
      have h1 := e2.le
      have h2 := e2.sz rfl
      rw [aB, if_neg (by simp), bO (by omega), fJ (by omega) (by omega)]
      have := ih f (l ++ [v]) s' (by simp; omega) (by omega) (by rw [Cy, if_neg (by simp)]; omega)
      rw [List.length_append, List.length_singleton] at this
      exact this
   unfold iK
   rw [aB]
   split
   ·exact j4 l.length
   ·exact j4 0
  by_cases hh : s.head? = some 93 ∨ s.head? = some 41
  ·rw [show decide (s.head? = some 93 ∨ s.head? = some 41) = true by simpa using hh]
   unfold ej
   have hpos : 1 ≤ s.length := by
    cases s with
    | nil => simp at hh
    | cons _ _ => simp
   rw [aB, if_pos rfl, aD, bO (by omega), show (1 : Int).toNat = 1 from rfl, gk]
   exact ⟨_, s.drop 1, true, rfl, by simp; omega, fun _ => by rw [lQ]; simp; omega⟩
  ·rw [show decide (s.head? = some 93 ∨ s.head? = some 41) = false by simpa using hh]
   unfold ej
   rw [aB, if_neg (by simp), aB]
   by_cases hl0 : l.length = 0
   ·rw [if_neg (by simp only [decide_eq_true_eq]; omega)]
    rw [if_pos hl0] at hS
    exact j3 s hS
   ·rw [if_pos (by simp only [decide_eq_true_eq]; omega), aB, aD]
    rw [if_neg hl0] at hS
    by_cases h2 : s.length < 2
    ·rw [if_pos (by simp; omega)]
     exact out l
    ·rw [if_neg (by simp; omega), bO (by omega), show (2 : Int).toNat = 2 from rfl, gk]
     exact j3 _ (by simp; omega)
theorem yC {t : af} (hV : V t) : 1 ≤ t.kind ∧ t.kind ≤ 7 := by
 have := hV.sh
 unfold shp at this
 by_cases hx : t.kind < 1 ∨ 7 < t.kind
 ·rw [if_pos hx] at this; cases this
 ·omega
theorem Hn : ∀ (n : Nat) (t : af), dF t ≤ n → V t → ∀ (k : Nat), n ≤ k → ∀ (s : List UInt8), s.length ≤ 1000000000 →
  ∃ v s' ok, bZ k t (bs s) = some (v, bs s', ok) ∧ Rr s v s' ok := by
 intro n
 induction n with
 | zero => intro t h; have := gA t; omega
 | succ n ih =>
  intro t hn hV k hk s hs
  obtain ⟨k, rfl⟩ : ∃ g, k = g + 1 := ⟨k - 1, by omega⟩
  have hst := gA t
  have hkd := yC hV
  by_cases hl : t.kind ≠ 6 ∧ t.kind ≠ 7
  ·rw [yJ k t hl]
   obtain ⟨v, s', ok, e1, e2⟩ := FE (t := t) (by omega) s hs
   rw [e1]
   exact ⟨v, s', ok, rfl, e2⟩
  ·rw [B3 k t hl]
   cases hp : pre EK s with
   | true =>
    have := qw hp
    simp only [List.length_cons, List.length_nil] at this
    unfold fL
    rw [aB, if_pos rfl, aD, bO (by omega), show (4 : Int).toNat = 4 from rfl, gk]
    exact ⟨_, s.drop 4, true, rfl, by simp, fun _ => by rw [bz, bD]; simp; omega⟩
   | false =>
    unfold fL
    rw [aB, if_neg (by simp), aB, aD]
    by_cases h2 : s.length < 2
    ·rw [if_pos (by simp; omega)]
     exact ⟨_, s, false, rfl, Nat.le_refl _, fun h => by cases h⟩
    ·rw [if_neg (by simp; omega), bO (by omega), show (1 : Int).toNat = 1 from rfl, gk]
     exact Fo hV (by omega) s 1000000000 (Nat.le_refl _) hs (bZ k) (fun f hf u hu => by
      have h1 := gZ hf
      have h2 := gx f
      exact ih f.type (by omega) (hV.fs f hf) k (by omega) u hu) 257 ba [] (s.drop 1) (by simp) (by rw [aF]; omega) (by simp [bM]; omega)
theorem ze {t : af} {v : ac} {d : Nat} (hV : V t) (hk : v.kind = t.kind) (hkk : t.kind = 6 ∨ t.kind = 7) (hlen : v.items.length ≤ 64) (hv : ac.mk t.kind 0 0 ByteArray.empty v.items = v) (hfit : If t v)
  (hi : ∀ x ∈ v.items, rt (d + 1) x) (p2 : ByteArray) (q : af → ByteArray → Option (ac × ByteArray × Bool)) (e : UInt8) (he : e = 93 ∨ e = 41) (r : List UInt8) (N : Nat)
  (hq : ∀ i, i < v.items.length → ∀ r, tP r → (T (iv v i) ++ r).length ≤ N → q (ft t i) (bs (T (iv v i) ++ r)) = some (iv v i, bs r, true)) :
  ∀ (m f i : Nat), i + m = v.items.length → m < f → (W v i e r).length ≤ N → bj q t p2 f (v.items.take i) (bs (W v i e r)) (i : Int) = some (v, bs r, true) := by
 intro m
 induction m with
 | zero =>
  intro f i hii hf _
  obtain ⟨f, rfl⟩ : ∃ g, f = g + 1 := ⟨f - 1, by omega⟩
  obtain rfl : i = v.items.length := by omega
  rw [bj, aB, if_pos (by simp; omega), HE, List.take_length]
  refine (C7 (e :: r) (fun b => ej (bj q t p2 f) q t p2 v.items (bs (e :: r)) (v.items.length : Int) b)).trans ?_
  rw [show decide ((e :: r).head? = some 93 ∨ (e :: r).head? = some 41) = true by simpa using he]
  unfold ej
  rw [aB, if_pos rfl, aD, bO (by rw [List.length_cons]; omega), show (1 : Int).toNat = 1 from rfl, gk, hv]
  rfl
 | succ m ih =>
  intro f i hii hf hN
  obtain ⟨f, rfl⟩ : ∃ g, f = g + 1 := ⟨f - 1, by omega⟩
  have hlt : i < v.items.length := by omega
  have hx := hi _ (mY hlt)
  have hlt7 : (v.items.take i).length = i := by rw [List.length_take]; omega
  have hlW := congrArg List.length (q8 hlt e r)
  rw [List.length_append] at hlW
  obtain ⟨b, u, e1, e2, e3, e4, _⟩ := wF hx (W v (i + 1) e r)
  have hhd : ¬ ((W v i e r).head? = some 93 ∨ (W v i e r).head? = some 41) := by
   rw [q8 hlt]
   by_cases h0 : i = 0
   ·rw [if_pos h0, List.nil_append, e1]
    simp [e2, e3]
   ·rw [if_neg h0]; simp
  rw [bj, aB, if_pos (by simp; omega)]
  refine (C7 (W v i e r) (fun b => ej (bj q t p2 f) q t p2 (v.items.take i) (bs (W v i e r)) (i : Int) b)).trans ?_
  rw [show decide ((W v i e r).head? = some 93 ∨ (W v i e r).head? = some 41) = false by simpa using hhd]
  have j3 : iK (bj q t p2 f) q t p2 (v.items.take i) (i : Int) (bs (T (iv v i) ++ W v (i + 1) e r)) = some (v, bs r, true) := by
   have j4 : ∀ x6 : Nat, x6 = (if t.kind = 6 then 0 else i) → iz (bj q t p2 f) q t p2 (v.items.take i) (i : Int) (bs (T (iv v i) ++ W v (i + 1) e r)) (x6 : Int) = some (v, bs r, true) := by
    intro x6 hx6
    obtain ⟨fd, f1, f2, f3, _⟩ := qZ (hfit i hlt)
    have hfi := hfit i hlt
    rw [← hx6] at f2 hfi
    unfold iz
    rw [aB, if_neg (by simp; omega), gr f2, ae, f3, hq i hlt _ (LC (by omega) he r) (by omega), ae]
    dsimp only
    rw [aB, if_neg (by simp), bO (by omega), fJ (by omega) (by omega), ← m5 hlt, ← List.take_succ_eq_append_getElem hlt]
    exact ih f (i + 1) (by omega) (by omega) (by rw [List.length_append] at hlW; omega)
   unfold iK
   rw [aB]
   by_cases h7 : t.kind = 7
   ·rw [if_pos (by simpa using h7)]
    exact j4 i (by rw [if_neg (by omega)])
   ·rw [if_neg (by simpa using h7)]
    exact j4 0 (by rw [if_pos (by omega)])
  unfold ej
  rw [aB, if_neg (by simp), aB]
  by_cases h0 : i = 0
  ·rw [if_neg (by simp; omega)]
   rw [show W v i e r = T (iv v i) ++ W v (i + 1) e r by rw [q8 hlt, if_pos h0, List.nil_append]]
   exact j3
  ·have hw2 : W v i e r = 44 :: 32 :: (T (iv v i) ++ W v (i + 1) e r) := by rw [q8 hlt, if_neg h0]; rfl
   rw [if_pos (by simp; omega), aB, hw2, aD, if_neg (by simp; omega), bO (by simp; omega), show (2 : Int).toNat = 2 from rfl, gk]
   exact j3
theorem zIO : ∀ (d : Nat) (t : af) (v : ac), rt d v → V t → rZ d t v = true → ∀ (k : Nat), d ≤ k → ∀ r, tP r → (T v ++ r).length ≤ 1000000000 →
  bZ k t (bs (T v ++ r)) = some (v, bs r, true) := by
 intro d
 induction d with
 | zero => intro t v h; exact h.zero.elim
 | succ d ih =>
  intro t v h hV ho k hk r hr hN
  obtain ⟨k, rfl⟩ : ∃ g, k = g + 1 := ⟨k - 1, by omega⟩
  obtain ⟨hp, hi⟩ := h.succ
  have hl := lz hp
  have hkd := yC hV
  by_cases hlf : t.kind ≠ 6 ∧ t.kind ≠ 7
  ·rw [yJ k t hlf, Hc h hV ho (by omega) r hr hN]; rfl
  rw [B3 k t hlf]
  by_cases h0 : v.kind = 0
  ·have hT : T v = EK := by rw [mQ, if_pos h0]
   rw [hT, iC]
   unfold fL
   rw [aB, if_pos rfl, aD, bO (by simp; omega), show (4 : Int).toNat = 4 from rfl, gk]
   rw [mR h0 (hl.nn (.inl h0)) (bW hp (by omega)) (jn (hl.zero (by omega))) (bq hp (by omega) (by omega))]
   rfl
  obtain ⟨o1, o2, o3⟩ := qB ho h0
  have hpre : pre EK (T v ++ r) = false := by
   obtain ⟨b, u, e1, _, _, _, e2⟩ := wF h r
   rw [e1]
   exact mL _ _ (fun hh => e2 h0 hh.symm)
  obtain ⟨hfit, hof⟩ := C9 h hV ho
  have hz := jn (hl.zero (by omega))
  have hn := hl.nn (by omega)
  have hv : ac.mk t.kind 0 0 ByteArray.empty v.items = v := mR o1 hn (bW hp (by omega)) hz rfl
  have hlen : v.items.length ≤ 64 := by
   by_cases h6 : v.kind = 6
   ·exact hl.lst h6
   ·have := o3 (by omega)
    have := hV.wid; omega
  obtain ⟨o, e, he, hT⟩ : ∃ o e : UInt8, (e = 93 ∨ e = 41) ∧ T v = o :: (TJ v.items ++ [e]) := by
   rw [mQ, if_neg h0, if_neg (by omega), if_neg (by omega), if_neg (by omega), if_neg (by omega), if_neg (by omega)]
   split
   ·exact ⟨91, 93, .inl rfl, rfl⟩
   ·exact ⟨40, 41, .inr rfl, rfl⟩
  have hTr : T v ++ r = o :: W v 0 e r := by rw [hT]; unfold W; simp
  have hWl : 1 ≤ (W v 0 e r).length := by unfold W; rw [List.length_append, List.length_cons]; omega
  rw [hpre]
  unfold fL
  rw [aB, if_neg (by simp), aB, aD, hTr]
  rw [hTr] at hN
  rw [List.length_cons] at hN
  rw [if_neg (by simp; omega), bO (by rw [List.length_cons]; omega), show (1 : Int).toNat = 1 from rfl, gk, List.drop_succ_cons, List.drop_zero]
  cases d with
  | zero =>
   have hnil : v.items = [] := by
    cases hv : v.items with
    | nil => rfl
    | cons x l => exact (hi x (by rw [hv]; exact List.mem_cons_self ..)).zero.elim
   have := ze (d := 0) hV o1 (by omega) hlen hv hfit (fun x hx => by rw [hnil] at hx; cases hx) (bs (o :: W v 0 e r)) (bZ k) e he r 1000000000 (fun i hlt => by rw [hnil] at hlt; cases hlt) v.items.length ba 0 (by omega) (by rw [aF]; omega) (by omega)
   rw [List.take_zero] at this
   exact this
  | succ d =>
   have := ze hV o1 (by omega) hlen hv hfit hi (bs (o :: W v 0 e r)) (bZ k) e he r 1000000000 (fun i hlt r' hr' hn' => ih (ft t i) (iv v i) (hi _ (mY hlt)) (by
     obtain ⟨fd, f1, _, f3, _⟩ := qZ (hfit i hlt)
     rw [← f3]; exact hV.fs fd f1) (hof i hlt) k (by omega) r' hr' hn') v.items.length ba 0 (by omega) (by rw [aF]; omega) (by omega)
   rw [List.take_zero] at this
   exact this
end Go.Proofs.YtpmoopnkoknbeaaGreatDoor
namespace Go.Proofs.YtpmoopnkoknbeaaGreatDoor
open Go Go.PX Go.SX Go.SX.Cal
noncomputable def ck (t : af) (v : ac) : Int := (jA t v).getD 0
theorem Kk {t : af} {v : ac} (hv : bh v < 1000000000) (hT : dF t < 1000000000) : jA t v = some (ck t v) := by
 obtain ⟨e, h1, _⟩ := Bm t v hv hT
 unfold ck; rw [h1]; rfl
theorem LI {t : af} {v : ac} (hv : bh v < 1000000000) (hT : dF t < 1000000000) : nR t v = some (ck t v) := by
 obtain ⟨e, h1, h2⟩ := Bm t v hv hT
 unfold ck; rw [h1, h2]; rfl
theorem yY {t : af} {v : ac} (hv : bh v < 1000000000) (hT : dF t < 1000000000) (h : ck t v = 0) : V t ∧ rt 4 v ∧ rZ 4 t v = true ∧ cK v = true ∧ bR t = some 0 ∧ dH t = some 0 := by
 obtain ⟨e, h1, h2, h3⟩ := jO t hT
 have hc := Kk hv hT
 rw [h] at hc
 unfold jA at hc
 rw [h1, vh v hv] at hc
 simp only [ar] at hc
 by_cases he : e = 0
 ·subst he
  have ht := h3 rfl
  cases hs : cK v with
  | false => rw [hs] at hc; cases hc
  | true =>
   have hS : rt 4 v := ⟨0, hs⟩
   obtain ⟨a, b⟩ := of_eq 4 ba ba t v hS ht hv hT (by rw [aF]; omega) (by rw [aF]; omega)
   rw [hs, a] at hc
   cases ho : rZ 4 t v with
   | false => rw [ho] at hc; cases hc
   | true => exact ⟨ht, hS, rfl, rfl, h1, h2⟩
 ·rw [show (e != (0 : Int)) = true by simp [he]] at hc
  cases hc; exact absurd rfl he
theorem rc {v : ac} (h : cK v = true) : TX v = T v := if_pos h
theorem ED {t : af} {v : ac} (hv : bh v ≤ 10000000) (hT : dF t < 1000000000) (h : ck t v = 0) : gb t (bs (T v)) = some (v, 0) := by
 obtain ⟨hV, hS, ho, hs, hc, _⟩ := yY (by omega) hT h
 have hl := yA 4 v hS
 have hr := HT 4 t v hS hV ho ba (by rw [aF]; omega) [] zl (by rw [List.append_nil]; omega)
 rw [List.append_nil] at hr
 unfold gb gm
 rw [hc, ae, aB, if_neg (by decide), hr, ae]
 simp only [aB]
 rw [if_neg (by decide), show (ByteArray.mk #[]) = bs [] from rfl, mZ, if_neg (by simp), Kk (by omega) hT, ae, h, if_neg (by decide), AT v hv, ae, mZ, rc hs, if_neg (by simp)]
theorem EC {t : af} {v : ac} (hv : bh v ≤ 10000000) (hT : dF t < 1000000000) (h : ck t v = 0) : cM t (bs (T v)) = some (v, 0) := by
 obtain ⟨hV, hS, ho, hs, _, hc⟩ := yY (by omega) hT h
 have hl := yA 4 v hS
 have hr := zIO 4 t v hS hV ho ba (by rw [aF]; omega) [] zl (by rw [List.append_nil]; omega)
 rw [List.append_nil] at hr
 unfold cM gV
 rw [hc, ae, aB, if_neg (by decide), hr, ae]
 simp only [aB]
 rw [if_neg (by decide), show (ByteArray.mk #[]) = bs [] from rfl, mZ, if_neg (by simp), LI (by omega) hT, ae, h, if_neg (by decide), xU v hv, ae, mZ, rc hs, if_neg (by simp)]
def LH (t : af) (s : List UInt8) (p : ac × Int) : Prop := (p.2 ≠ 0 ∧ p.1 = kH ∧ p.2 = 6) ∨ (p.2 = 0 ∧ ck t p.1 = 0 ∧ s = T p.1 ∧ bh p.1 ≤ 10000000)
theorem Np {t : af} {s : List UInt8} {p : ac × Int} (h : LH t s p) : p = (kH, 6) ∨ ∃ v, p = (v, 0) ∧ ck t v = 0 ∧ s = T v ∧ bh v ≤ 10000000 := by
 obtain ⟨v, f⟩ := p
 rcases h with ⟨_, rfl, rfl⟩ | ⟨rfl, h1, h2, h3⟩
 ·exact .inl rfl
 ·exact .inr ⟨v, rfl, h1, h2, h3⟩
theorem Dg {t : af} {s : List UInt8} (hT : dF t + s.length + 1 ≤ 10000000) (hV : V t) (hc : bR t = some 0) : ∃ p, gb t (bs s) = some p ∧ LH t s p := by
 obtain ⟨x, s', b', e1, e2⟩ := EP (dF t) t (Nat.le_refl _) hV (by omega) ba (by rw [aF]; omega) s false (by omega)
 have hsz := e2.sz
 unfold gb gm
 rw [hc, ae, aB, if_neg (by decide), e1, ae]
 simp only [aB]
 have bad : LH t s (kH, 6) := .inl ⟨by decide, rfl, rfl⟩
 cases b' with
 | true => exact ⟨_, rfl, bad⟩
 | false =>
  rw [if_neg (by decide)]
  have hx : bh x ≤ 10000000 := by omega
  rw [show (ByteArray.mk #[]) = bs [] from rfl, mZ]
  by_cases hs' : s' = []
  ·rw [if_neg (by simp [hs']), Kk (by omega) (by omega), ae]
   by_cases hck : ck t x = 0
   ·rw [if_neg (by simp [hck]), AT x hx, ae, mZ]
    obtain ⟨_, _, _, hso, _⟩ := yY (by omega) (by omega) hck
    by_cases hts : TX x = s
    ·rw [if_neg (by simp [hts])]
     exact ⟨_, rfl, .inr ⟨rfl, hck, by rw [← hts, rc hso], hx⟩⟩
    ·rw [if_pos (by simp [hts])]
     exact ⟨_, rfl, bad⟩
   ·rw [if_pos (by simp [hck])]
    exact ⟨_, rfl, bad⟩
  ·rw [if_pos (by simp [hs'])]
   exact ⟨_, rfl, bad⟩
theorem CJ {t : af} {s : List UInt8} (hT : dF t + s.length + 1 ≤ 10000000) (hV : V t) (hc : dH t = some 0) : ∃ p, cM t (bs s) = some p ∧ LH t s p := by
 obtain ⟨x, s', ok, e1, e2⟩ := Hn (dF t) t (Nat.le_refl _) hV ba (by rw [aF]; omega) s (by omega)
 have hsz := e2.sz
 unfold cM gV
 rw [hc, ae, aB, if_neg (by decide), e1, ae]
 simp only [aB]
 have bad : LH t s (kH, 6) := .inl ⟨by decide, rfl, rfl⟩
 cases ok with
 | false => exact ⟨_, rfl, bad⟩
 | true =>
  have hx : bh x ≤ 10000000 := by have := hsz rfl; omega
  rw [if_neg (by decide)]
  rw [show (ByteArray.mk #[]) = bs [] from rfl, mZ]
  by_cases hs' : s' = []
  ·rw [if_neg (by simp [hs']), LI (by omega) (by omega), ae]
   by_cases hck : ck t x = 0
   ·rw [if_neg (by simp [hck]), xU x hx, ae, mZ]
    obtain ⟨_, _, _, hso, _⟩ := yY (by omega) (by omega) hck
    by_cases hts : TX x = s
    ·rw [if_neg (by simp [hts])]
     exact ⟨_, rfl, .inr ⟨rfl, hck, by rw [← hts, rc hso], hx⟩⟩
    ·rw [if_pos (by simp [hts])]
     exact ⟨_, rfl, bad⟩
   ·rw [if_pos (by simp [hck])]
    exact ⟨_, rfl, bad⟩
  ·rw [if_pos (by simp [hs'])]
   exact ⟨_, rfl, bad⟩
theorem Gy (t : af) (s : List UInt8) (hT : dF t + s.length + 1 ≤ 10000000) : ∃ p, gb t (bs s) = some p ∧ cM t (bs s) = some p ∧ (p.1 = kH ∧ p.2 ≠ 0 ∨ p.2 = 0 ∧ ck t p.1 = 0 ∧ s = T p.1 ∧ bh p.1 ≤ 10000000) := by
 obtain ⟨e, h1, h2, h3⟩ := jO t (by omega)
 by_cases he : e = 0
 ·subst he
  have hV := h3 rfl
  obtain ⟨p, a1, a2⟩ := Dg hT hV h1
  obtain ⟨q, b1, b2⟩ := CJ hT hV h2
  have hpq : q = p := by
   rcases Np a2 with rfl | ⟨v, rfl, c1, c2, c3⟩
   ·rcases Np b2 with rfl | ⟨w, rfl, c1, c2, c3⟩
    ·rfl
    ·subst c2
     rw [ED c3 (by omega) c1] at a1
     cases a1
   ·subst c2
    rw [EC c3 (by omega) c1] at b1
    cases b1; rfl
  subst hpq
  exact ⟨q, a1, b1, a2.imp (fun h => ⟨h.2.1, h.1⟩) id⟩
 ·refine ⟨(kH, e), ?_, ?_, .inl ⟨rfl, he⟩⟩
  ·unfold gb; rw [h1, ae, aB, if_pos (by simpa using he)]
  ·unfold cM; rw [h2, ae, aB, if_pos (by simpa using he)]
theorem uj : ∀ (n : Nat) (v : ac), bh v ≤ n → ∀ k, n ≤ k → bh v < 1000000000 → cw k v v = some true := by
 intro n
 induction n with
 | zero => intro v h; have := nA v; omega
 | succ n ih =>
  intro v h k hk hv
  obtain ⟨k, rfl⟩ : ∃ g, k = g + 1 := ⟨k - 1, by omega⟩
  have hs := eJ v
  have hn := eN v.items
  have loop : ∀ (m f i : Nat), i + m = v.items.length → m < f → cO (cw k) v v f (i : Int) = some true := by
   intro m
   induction m with
   | zero =>
    intro f i hi hf
    obtain ⟨f, rfl⟩ : ∃ g, f = g + 1 := ⟨f - 1, by omega⟩
    rw [cO, aB, if_neg (by simp; omega)]
    rfl
   | succ m ihm =>
    intro f i hi hf
    obtain ⟨f, rfl⟩ : ∃ g, f = g + 1 := ⟨f - 1, by omega⟩
    have hlt : i < v.items.length := by omega
    have hm := eQ (List.getElem_mem hlt)
    rw [cO, aB, if_pos (by simp; omega), cf hlt, ae, ae, ih _ (by omega) k (by omega) (by omega), ae, aB, if_neg (by simp), fJ (by omega) (by omega)]
    exact ihm f (i + 1) (by omega) (by omega)
  rw [cw]
  unfold eF
  simp only [bne_self_eq_false, beq_self_eq_true, Bool.not_true, aB]
  have h0 := loop v.items.length ba 0 (by omega) (by rw [aF]; omega)
  rw [Int.natCast_zero] at h0
  simp only [bne_self_eq_false, Bool.false_eq_true, if_false]
  exact h0
end Go.Proofs.YtpmoopnkoknbeaaGreatDoor
namespace Go.Proofs.YtpmoopnkoknbeaaGreatDoor
open Go Go.PX Go.SX Go.SX.Cal
theorem yI : ∀ l : List ac, bM l = (l.map bh).sum
 | [] => by simp [bM]
 | x :: l => by simp [bM, yI l]
theorem LL (k n sc : Int) (s : ByteArray) (it : List ac) : bh ⟨k, n, sc, s, it⟩ ≤ s.size + (it.map bh).sum + 6 := by
 simp only [bh, yI]; omega
theorem zg : ∀ l : List aL, je l = (l.map lw).sum
 | [] => by simp [je]
 | x :: l => by simp [je, zg l]
theorem G8 (k s : Int) (fs : List aL) : dF ⟨k, s, fs⟩ ≤ (fs.map lw).sum + 4 := by
 rw [gA, zg]; simp only; omega
theorem FR (i : Int) (n : ByteArray) (q : Bool) (t : af) : lw ⟨i, n, q, t⟩ ≤ n.size + dF t + 4 := by
 rw [gx]; simp only; omega
theorem FC {w : World} {v : Value} {x : ac} (h : aK ⟨fun _ => none, fun _ => False⟩ w [] v (.ag ((ac.cells x).map .pv))) : aK ⟨fun _ => none, fun _ => False⟩ w [] v (.ag [ci x.kind, ci x.n, ci x.scale, eG x.s, cl ak x.items]) := by
 cases x; exact h
end Go.Proofs.YtpmoopnkoknbeaaGreatDoor
namespace Go.SX.Cal
open Go Go.SX Go.Lib
theorem aw {β : Type} (x y : Option β) : ax true x y = x := rfl
theorem ah {β : Type} (x y : Option β) : ax false x y = y := rfl
theorem aM {β : Type} (b : Bool) (x y : Option β) : ax b x y = if b = true then x else y := by cases b <;> rfl
theorem aF : ba = 1152921504606846976 := rfl
def first (P : Nat → Bool) (i n : Nat) : Option Nat := (List.range' i (n - i)).find? P
theorem jf {P : Nat → Bool} {i n : Nat} (h : i < n) : first P i n = if P i = true then some i else first P (i + 1) n := by
 unfold first
 rw [show n - i = (n - (i + 1)) + 1 by omega, List.range'_succ, List.find?_cons]
 cases hp : P i <;> simp [hp]
theorem kL {P : Nat → Bool} {n : Nat} : first P n n = none := by simp [first]
theorem kC {P : Nat → Bool} {i n : Nat} : first P i n = none ↔ ∀ j, i ≤ j → j < n → P j = false := by
 unfold first
 rw [List.find?_eq_none]
 constructor
 ·intro h j h1 h2
  have := h j (by rw [List.mem_range'_1]; omega)
  simpa using this
 ·intro h j hj
  rw [List.mem_range'_1] at hj
  have := h j (by omega) (by omega)
  simp [this]
theorem lW {β : Type} {f : Nat → Nat → Option β} {n : Nat} {P : Nat → Bool} {A : Nat → Option β} {B : Option β} (hstep : ∀ k i, i < n → f (k + 1) i = if P i = true then A i else f k (i + 1)) (hend : ∀ k, f (k + 1) n = B) :
  ∀ k i, i ≤ n → n - i < k → f k i = (first P i n).elim B A := by
 intro k
 induction k with
 | zero => intro i _ h; omega
 | succ k ih =>
  intro i hi hk
  by_cases h : i = n
  ·subst h
   rw [hend, kL]; rfl
  ·rw [hstep k i (by omega), jf (by omega)]
   by_cases hp : P i = true
   ·simp [hp]
   ·simp only [hp, if_false]
    exact ih (i + 1) (by omega) (by omega)
def iB (s : ByteArray) (i : Nat) : Nat := (s.data.toList.getD i 0).toNat
theorem m6 (s : ByteArray) (i : Nat) (h : i < s.size) : (s.get! i).toNat = iB s i := by
 unfold iB
 have h' : i < s.data.size := h
 have : s.get! i = s.data.toList.getD i 0 := by
  simp only [ByteArray.get!, List.getD, Array.getElem?_toList]
  rw [getElem!_pos s.data i h', Array.getElem?_eq_getElem h']; rfl
 rw [this]
theorem uI (s : ByteArray) (i : Nat) (h : i < s.size) (hb : iB s i < 128) : Utf8.decode s i = (iB s i, 1) := by
 have e := m6 s i h
 unfold Utf8.decode
 simp [e, hb]
theorem uK (s : ByteArray) (i : Nat) (h : i < s.size) (hb : ¬ iB s i < 128) : 128 ≤ (Utf8.decode s i).1 := by
 have e := m6 s i h
 unfold Utf8.decode
 simp only [Nat.add_zero, e, if_neg hb, Utf8.runeError]
 repeat' split
 all_goals simp_all
 all_goals omega
theorem lY (s : ByteArray) : (s.toList == (ByteArray.mk #[]).toList) = decide (s.size = 0) := by
 rw [ByteArray.toList_eq, ByteArray.toList_eq, Bool.eq_iff_iff]
 show (s.data.toList == []) = true ↔ decide (s.data.size = 0) = true
 rw [← Array.length_toList]
 cases s.data.toList <;> simp
mutual
def dF : af → Nat
 | ⟨_, _, fs⟩ => je fs + 1
def je : List (mU af) → Nat
 | [] => 0
 | f :: l => lw f + je l
def lw : mU af → Nat
 | ⟨_, n, _, t⟩ => n.size + dF t + 1
end
theorem gZ : ∀ {l : List aL} {x : aL}, x ∈ l → lw x ≤ je l
 | [], _, h => by cases h
 | y :: l, x, h => by
  simp only [je]
  rcases List.mem_cons.1 h with rfl | h
  ·omega
  ·have := gZ h; omega
theorem gx : ∀ x : aL, lw x = x.name.size + dF x.type + 1
 | ⟨_, _, _, _⟩ => by simp only [lw]
theorem gA : ∀ x : af, dF x = je x.fields + 1
 | ⟨_, _, _⟩ => by simp only [dF]
theorem nD : ∀ l : List aL, l.length ≤ je l
 | [] => by simp [je]
 | x :: l => by
  have := nD l
  have := gx x
  simp only [je, List.length_cons]; omega
theorem dW {i n : Nat} (h : i < n) (hn : n < 1000000000) : IntKind.i64.wrap ((i : Int) + 1) = ((i + 1 : Nat) : Int) := by rw [fJ (by omega) (by omega)]; omega
theorem cf {α : Type} {xs : List α} {i : Nat} (h : i < xs.length) : at? xs (i : Int) = some xs[i] := by unfold at?; simp [h]
theorem gp {i n : Nat} (h : i < n) : decide ((i : Int) < (n : Int)) = true := by simp [h]
mutual
def bh : ac → Nat
 | ⟨_, _, _, s, it⟩ => s.size + bM it + 1
def bM : List ac → Nat
 | [] => 0
 | x :: l => bh x + bM l
end
theorem eJ : ∀ v : ac, bh v = v.s.size + bM v.items + 1
 | ⟨_, _, _, _, _⟩ => by simp only [bh]
theorem eQ : ∀ {l : List ac} {x : ac}, x ∈ l → bh x ≤ bM l
 | [], _, h => by cases h
 | y :: l, x, h => by
  simp only [bM]
  rcases List.mem_cons.1 h with rfl | h
  ·omega
  ·have := eQ h; omega
theorem nA : ∀ v : ac, 1 ≤ bh v
 | ⟨_, _, _, _, _⟩ => by simp only [bh]; omega
theorem eN : ∀ l : List ac, l.length ≤ bM l
 | [] => by simp [bM]
 | x :: l => by
  have := eN l
  have := nA x
  simp only [bM, List.length_cons]; omega
theorem tn (b x : Bool) : ax b (some x) (some false) = some (b && x) := by cases b <;> rfl
theorem F5 (b x : Bool) : ax b (some true) (some x) = some (b || x) := by cases b <;> rfl
theorem ar {α β : Type} (a : α) (f : α → Option β) : ay (some a) f = f a := rfl
theorem pA {P : Nat → Bool} {n : Nat} : ∀ (d i : Nat), i + d ≤ n → (∀ j, i ≤ j → j < i + d → P j = false) → first P i n = first P (i + d) n
 | 0, i, _, _ => rfl
 | d + 1, i, h, hP => by
  rw [jf (by omega), hP i (by omega) (by omega)]
  simp only [Bool.false_eq_true, if_false]
  rw [pA d (i + 1) (by omega) (fun j h1 h2 => hP j (by omega) (by omega))]
  congr 1; omega
theorem we (s : ByteArray) (i : Nat) (h : i < s.size) (hb : ¬ iB s i < 128) :
  1 ≤ (Utf8.decode s i).2 ∧ i + (Utf8.decode s i).2 ≤ s.size ∧ ∀ j, i ≤ j → j < i + (Utf8.decode s i).2 → 128 ≤ iB s j := by
 have e := m6 s i h
 have one : ∀ j, i ≤ j → j < i + 1 → 128 ≤ iB s j := fun j h1 h2 => by
  have : j = i := by omega
  subst this; omega
 have ct : ∀ k, (decide (i + k < s.size) && (s.get! (i + k)).toNat / 64 == 2) = true → i + k < s.size ∧ 128 ≤ iB s (i + k) := by
  intro k hk
  simp only [Bool.and_eq_true, decide_eq_true_eq, beq_iff_eq] at hk
  rw [m6 s _ hk.1] at hk
  exact ⟨hk.1, by omega⟩
 unfold Utf8.decode
 simp only [Nat.add_zero, e, if_neg hb]
 split
 ·rename_i h1
  simp only [Bool.and_eq_true] at h1
  obtain ⟨l1, b1⟩ := ct 1 (by simpa using h1.2)
  split
  ·refine ⟨by simp, by simp only; omega, fun j h2 h3 => ?_⟩
   simp only at h3
   by_cases hj : j = i
   ·subst hj; omega
   ·have : j = i + 1 := by omega
    subst this; exact b1
  ·exact ⟨by simp, by simp only; omega, one⟩
 ·split
  ·rename_i h1
   simp only [Bool.and_eq_true] at h1
   obtain ⟨l1, b1⟩ := ct 1 (by simpa using h1.1.2)
   obtain ⟨l2, b2⟩ := ct 2 (by simpa using h1.2)
   split
   ·refine ⟨by simp, by simp only; omega, fun j h2 h3 => ?_⟩
    simp only at h3
    by_cases hj : j = i
    ·subst hj; omega
    ·by_cases hj : j = i + 1
     ·subst hj; exact b1
     ·have : j = i + 2 := by omega
      subst this; exact b2
   ·exact ⟨by simp, by simp only; omega, one⟩
  ·split
   ·rename_i h1
    simp only [Bool.and_eq_true] at h1
    obtain ⟨l1, b1⟩ := ct 1 (by simpa using h1.1.1.2)
    obtain ⟨l2, b2⟩ := ct 2 (by simpa using h1.1.2)
    obtain ⟨l3, b3⟩ := ct 3 (by simpa using h1.2)
    split
    ·refine ⟨by simp, by simp only; omega, fun j h2 h3 => ?_⟩
     simp only at h3
     by_cases hj : j = i
     ·subst hj; omega
     ·by_cases hj : j = i + 1
      ·subst hj; exact b1
      ·by_cases hj : j = i + 2
       ·subst hj; exact b2
       ·have : j = i + 3 := by omega
        subst this; exact b3
    ·exact ⟨by simp, by simp only; omega, one⟩
   ·exact ⟨by simp, by simp only; omega, one⟩
def zq (s : ByteArray) (i : Nat) : Bool := decide (iB s i < 32) || iB s i == 127
theorem wu {x : Int} : IntKind.u64.wrap x = x % 18446744073709551616 := by
 simp only [IntKind.wrap, IntKind.bits, IntKind.signed]
 simp
structure W4 (w : aE) : Prop where
 a0 : 0 ≤ w.size.1
 a1 : w.size.1 < 18446744073709551616
 b0 : 0 ≤ w.size.2.1
 b1 : w.size.2.1 < 18446744073709551616
 c0 : 0 ≤ w.size.2.2.1
 c1 : w.size.2.2.1 < 18446744073709551616
 d0 : 0 ≤ w.size.2.2.2
 d1 : w.size.2.2.2 < 18446744073709551616
def val (w : aE) : Int := w.size.1 + w.size.2.1 * 18446744073709551616 + w.size.2.2.1 * 340282366920938463463374607431768211456 + w.size.2.2.2 * 6277101735386680763835789423207666416102355444464034512896
theorem Dt {x : Int} (h0 : 0 ≤ x) (h1 : x < 18446744073709551616) : ((BitVec.ofInt (IntKind.u64).bits x &&& BitVec.ofInt (IntKind.u64).bits (4294967295 : Int)).toNat : Int) = x % 4294967296 := by
 have e : (BitVec.ofInt 64 x).toNat = x.toNat := by
  rw [BitVec.toNat_ofInt]
  have : x % ((2 ^ 64 : Nat) : Int) = x := by omega
  rw [this]
 have hand : (BitVec.ofInt 64 x &&& BitVec.ofInt 64 (4294967295 : Int)).toNat = x.toNat % 4294967296 := by
  rw [BitVec.toNat_and, e]
  have : (BitVec.ofInt 64 (4294967295 : Int)).toNat = 2 ^ 32 - 1 := by decide
  rw [this, Nat.and_two_pow_sub_one_eq_mod]
 show ((BitVec.ofInt 64 x &&& BitVec.ofInt 64 (4294967295 : Int)).toNat : Int) = _
 rw [hand]
 omega
theorem MB (x : Int) : x.fdiv (2 ^ (min (32 : Int).toNat (IntKind.u64).bits)) = x / 4294967296 := by
 have : (2 : Int) ^ (min (32 : Int).toNat (IntKind.u64).bits) = 4294967296 := by decide
 rw [this, Int.fdiv_eq_ediv_of_nonneg _ (by decide)]
theorem H4 {x : Int} (h0 : 0 ≤ x) (h1 : x < 18446744073709551616) : x % 18446744073709551616 = x := Int.emod_eq_of_lt h0 h1
theorem prod_bound {a b : Int} (a0 : 0 ≤ a) (a1 : a < 4294967296) (b0 : 0 ≤ b) (b1 : b < 4294967296) : 0 ≤ a * b ∧ a * b ≤ 18446744065119617025 := by
 refine ⟨Int.mul_nonneg a0 b0, ?_⟩
 have h1 : a * b ≤ 4294967295 * b := Int.mul_le_mul_of_nonneg_right (by omega) b0
 omega
theorem rS {x n c : Int} (h0 : 0 ≤ x) (h1 : x < 18446744073709551616) (n0 : 0 ≤ n) (n1 : n < 18446744073709551616) (c0 : 0 ≤ c) (c1 : c < 18446744073709551616) :
  (x * n / 18446744073709551616 + (x * n % 18446744073709551616 + c) / 18446744073709551616) % 18446744073709551616 = (x * n + c) / 18446744073709551616 ∧ (x * n % 18446744073709551616 + c) % 18446744073709551616 = (x * n + c) % 18446744073709551616 ∧ 0 ≤ (x * n + c) / 18446744073709551616 ∧ (x * n + c) / 18446744073709551616 < 18446744073709551616 := by
 have hp : 0 ≤ x * n := Int.mul_nonneg h0 n0
 have hq : x * n ≤ 18446744073709551615 * n := Int.mul_le_mul_of_nonneg_right (by omega) n0
 have hq2 : (18446744073709551615 : Int) * n ≤ 18446744073709551615 * 18446744073709551615 := Int.mul_le_mul_of_nonneg_left (by omega) (by decide)
 have hb : x * n ≤ 340282366920938463426481119284349108225 := by
  refine Int.le_trans hq (Int.le_trans hq2 (by decide))
 generalize x * n = p at *
 omega
def p10 : Nat → Int
 | 0 => 1
 | k + 1 => p10 k * 10
theorem Ak : ∀ k, 1 ≤ p10 k
 | 0 => by decide
 | k + 1 => by have := Ak k; simp only [p10]; omega
def c3 (a b : Int) : Int := if a < b then -1 else if b < a then 1 else 0
def sv (w : aE) : Int := if w.neg = true then -val w else val w
def aI : List Int → Int
 | [] => 0
 | d :: l => d + 10 * aI l
def dS (l : List Int) : Prop := ∀ d ∈ l, 0 ≤ d ∧ d ≤ 9
def sa (l : List Int) : Prop := ∀ d, l.getLast? = some d → d ≠ 0
theorem dD : ∀ {l : List Int}, dS l → 0 ≤ aI l
 | [], _ => by simp [aI]
 | d :: l, h => by
  have h1 := h d (by simp)
  have h2 := dD (l := l) (fun x hx => h x (by simp [hx]))
  simp only [aI]; omega
theorem Ld : ∀ n, 0 < p10 n := fun n => by have := Ak n; omega
theorem ma : ∀ {l : List Int}, dS l → aI l < p10 l.length
 | [], _ => by simp [aI, p10]
 | d :: l, h => by
  have h1 := h d (by simp)
  have h2 := ma (l := l) (fun x hx => h x (by simp [hx]))
  simp only [aI, List.length_cons, p10]; omega
theorem qd : ∀ {l : List Int}, dS l → sa l → l ≠ [] → p10 (l.length - 1) ≤ aI l
 | [], _, _, h => absurd rfl h
 | [d], h, ht, _ => by
  have h1 := h d (by simp)
  have h2 := ht d (by simp)
  simp [aI, p10]; omega
 | d :: e :: l, h, ht, _ => by
  have h1 := h d (by simp)
  have h2 := qd (l := e :: l) (fun x hx => h x (by simp [hx])) (fun x hx => ht x (by simpa using hx)) (by simp)
  simp only [List.length_cons] at h2 ⊢
  rw [show l.length + 1 + 1 - 1 = (l.length + 1 - 1) + 1 by omega]
  simp only [p10]
  rw [aI]
  omega
theorem mM {m n : Nat} (h : m ≤ n) : p10 m ≤ p10 n := by
 induction n with
 | zero =>
   have : m = 0 := by omega
   subst this; exact Int.le_refl _
 | succ n ih =>
  by_cases e : m = n + 1
  ·subst e; exact Int.le_refl _
  ·have h1 := ih (by omega)
   have h2 := Ld n
   simp only [p10]; omega
theorem fY : ∀ (l m : List Int), aI (l ++ m) = aI l + p10 l.length * aI m
 | [], m => by simp [aI, p10]
 | d :: l, m => by
  simp only [List.cons_append, aI, fY l m, List.length_cons, p10]
  rw [Int.mul_add, ← Int.mul_assoc, Int.mul_comm 10 (p10 l.length)]; omega
theorem sZ (k : Nat) : aI (List.replicate k 0) = 0 := by
 induction k with
 | zero => rfl
 | succ k ih => simp [List.replicate_succ, aI, ih]
end Go.SX.Cal
namespace Go.Proofs.YtpmoopnkoknbeaaGreatDoor.Nm
open Go Go.SX Go.SX.Cal Go.Lib
theorem DZ (a : Int) : c3 a a = 0 := by unfold c3; rw [if_neg (by omega), if_neg (by omega)]
theorem E7 {a b : List Int} (ha : dS a) (hb : dS b) (hl : a.length = b.length) (hbig : a.length < 1000000) : ∀ (k i : Nat), i ≤ a.length → i < k → aI (a.drop i) = aI (b.drop i) →
  ∃ r, iD a b k ((i : Int) - 1) = some r ∧ -9 ≤ r ∧ r ≤ 9 ∧ c3 r 0 = c3 (aI a) (aI b) := by
 intro k
 induction k with
 | zero => intro i h1 h2; omega
 | succ k ih =>
  intro i h1 h2 he
  rw [iD]
  cases i with
  | zero =>
   rw [show decide ((0 : Int) ≤ ((0 : Nat) : Int) - 1) = false from rfl, ah]
   simp only [List.drop_zero] at he
   exact ⟨0, rfl, by omega, by omega, by rw [he, DZ, DZ]⟩
  | succ i =>
   have hia : i < a.length := by omega
   have hib : i < b.length := by omega
   have e1 : ((i + 1 : Nat) : Int) - 1 = (i : Int) := by omega
   have aa : at? a (i : Int) = some a[i] := by unfold at?; simp [hia]
   have bb : at? b (i : Int) = some b[i] := by unfold at?; simp [hib]
   rw [e1, show decide ((0 : Int) ≤ (i : Int)) = true by simp, aw, aa, bb]
   simp only [ae]
   have da : a.drop i = a[i] :: a.drop (i + 1) := List.drop_eq_getElem_cons hia
   have db : b.drop i = b[i] :: b.drop (i + 1) := List.drop_eq_getElem_cons hib
   have ra := ha a[i] (List.getElem_mem hia)
   have rb := hb b[i] (List.getElem_mem hib)
   by_cases hne : a[i] = b[i]
   ·rw [show (a[i] != b[i]) = false by simp [hne], ah, fJ (by omega) (by omega)]
    refine ih i (by omega) (by omega) ?_
    rw [da, db]; simp only [aI]; omega
   ·rw [show (a[i] != b[i]) = true by simp [hne], aw, fJ (by omega) (by omega)]
    refine ⟨_, rfl, by omega, by omega, ?_⟩
    have va : aI a = aI (a.take i) + p10 i * aI (a.drop i) := by
     have := fY (a.take i) (a.drop i)
     rw [List.take_append_drop, List.length_take, Nat.min_eq_left (by omega)] at this
     exact this
    have vb : aI b = aI (b.take i) + p10 i * aI (b.drop i) := by
     have := fY (b.take i) (b.drop i)
     rw [List.take_append_drop, List.length_take, Nat.min_eq_left (by omega)] at this
     exact this
    have la := ma (l := a.take i) (fun x hx => ha x (List.mem_of_mem_take hx))
    have lb := ma (l := b.take i) (fun x hx => hb x (List.mem_of_mem_take hx))
    have na := dD (l := a.take i) (fun x hx => ha x (List.mem_of_mem_take hx))
    have nb := dD (l := b.take i) (fun x hx => hb x (List.mem_of_mem_take hx))
    rw [List.length_take, Nat.min_eq_left (by omega)] at la lb
    rw [da] at va; rw [db] at vb
    simp only [aI] at va vb
    have hp := Ld i
    have key : p10 i * (a[i] + 10 * aI (a.drop (i + 1))) - p10 i * (b[i] + 10 * aI (b.drop (i + 1))) = p10 i * (a[i] - b[i]) := by
     rw [← Int.mul_sub, he]; congr 1; omega
    unfold c3
    rcases Int.lt_or_gt_of_ne hne with hlt | hgt
    ·have : p10 i * (a[i] - b[i]) ≤ p10 i * (-1) := Int.mul_le_mul_of_nonneg_left (by omega) (by omega)
     rw [if_pos (by omega), if_pos (by omega)]
    ·have : p10 i * 1 ≤ p10 i * (a[i] - b[i]) := Int.mul_le_mul_of_nonneg_left (by omega) (by omega)
     rw [if_neg (by omega), if_pos (by omega), if_neg (by omega), if_pos (by omega)]
theorem zL {a b : List Int} (ha : dS a) (hb : dS b) (ta : sa a) (tb : sa b) (la : a.length < 1000) (lb : b.length < 1000) : ∃ r, oT a b = some r ∧ -1000 ≤ r ∧ r ≤ 1000 ∧ c3 r 0 = c3 (aI a) (aI b) := by
 unfold oT
 by_cases hl : a.length = b.length
 ·rw [show ((a.length : Int) != (b.length : Int)) = false by simp [hl], ah, fJ (by omega) (by omega)]
  obtain ⟨r, h1, h2, h3, h4⟩ := E7 ha hb hl (by omega) ba a.length (Nat.le_refl _) (by rw [aF]; omega) (by rw [List.drop_length, hl, List.drop_length])
  exact ⟨r, h1, by omega, by omega, h4⟩
 ·have hne : ((a.length : Int) != (b.length : Int)) = true := by simp; omega
  rw [hne, aw, fJ (by omega) (by omega)]
  refine ⟨_, rfl, by omega, by omega, ?_⟩
  have l1 := ma ha
  have l2 := ma hb
  rcases Nat.lt_or_gt_of_ne hl with h | h
  ·have g := qd hb tb (by rintro rfl; simp at h)
   have := mM (show a.length ≤ b.length - 1 by omega)
   unfold c3; rw [if_pos (by omega), if_pos (by omega)]
  ·have g := qd ha ta (by rintro rfl; simp at h)
   have := mM (show b.length ≤ a.length - 1 by omega)
   unfold c3; rw [if_neg (by omega), if_pos (by omega), if_neg (by omega), if_pos (by omega)]
theorem qu : dS [] := fun _ h => by cases h
theorem wB : sa [] := fun _ h => by cases h
theorem vw {l : List Int} {x : Int} (h : dS l) (h0 : 0 ≤ x) (h1 : x ≤ 9) : dS (l ++ [x]) := by
 intro d hd
 rcases List.mem_append.1 hd with hd | hd
 ·exact h d hd
 ·simp at hd; subst hd; exact ⟨h0, h1⟩
theorem zw {l : List Int} {x : Int} (h : dS (l ++ [x])) : dS l ∧ 0 ≤ x ∧ x ≤ 9 :=
 ⟨fun d hd => h d (List.mem_append.2 (.inl hd)), h x (by simp)⟩
theorem A8 {l : List Int} {x : Int} (h : x ≠ 0) : sa (l ++ [x]) := by
 intro d hd
 simp at hd
 subst hd; exact h
theorem zi {l : List Int} {x : Int} (h : dS l) (h0 : 0 ≤ x) (h1 : x ≤ 9) : dS (x :: l) := by
 intro d hd
 rcases List.mem_cons.1 hd with rfl | hd
 ·exact ⟨h0, h1⟩
 ·exact h d hd
theorem HI (b : Bool) : ∀ (k : Nat) (d : List Int), d.length < k → d.length < 1000000 → dS d →
  ∃ d', gd b k d = some ⟨b && decide (0 < d'.length), d'⟩ ∧ dS d' ∧ sa d' ∧ aI d' = aI d ∧ d'.length ≤ d.length := by
 intro k
 induction k with
 | zero => intro d h; omega
 | succ k ih =>
  intro d hk hl hd
  rw [gd]
  have fin : ∀ x : List Int, kF (gd b k) b x false = some ⟨b && decide (0 < x.length), x⟩ := by
   intro x
   unfold kF q7 oh
   cases b <;> simp [aM]
  rcases List.eq_nil_or_concat d with rfl | ⟨l, x, rfl⟩
  ·rw [show decide ((0 : Int) < (([] : List Int).length : Int)) = false from rfl, ah, fin]
   exact ⟨[], rfl, qu, wB, rfl, Nat.le_refl _⟩
  ·rw [List.concat_eq_append] at *
   have hlen : (l ++ [x]).length = l.length + 1 := by simp
   have e1 : IntKind.i64.wrap (((l ++ [x]).length : Int) - 1) = (l.length : Int) := by rw [hlen, fJ (by omega) (by omega)]; omega
   have e2 : at? (l ++ [x]) (l.length : Int) = some x := by unfold at?; simp
   obtain ⟨dl, x0, x9⟩ := zw hd
   rw [show decide ((0 : Int) < ((l ++ [x]).length : Int)) = true by simp, aw, e1, e2, ar]
   by_cases hx : x = 0
   ·subst hx
    rw [show ((0 : Int) == 0) = true from rfl]
    unfold kF
    rw [aw, e1]
    unfold bB
    rw [if_pos (by omega)]
    have e3 : ((l ++ [(0 : Int)]).drop (0 : Int).toNat).take ((l.length : Int).toNat - (0 : Int).toNat) = l := by simp
    rw [e3]
    obtain ⟨d', h1, h2, h3, h4, h5⟩ := ih l (by omega) (by omega) dl
    refine ⟨d', h1, h2, h3, ?_, by omega⟩
    rw [h4, fY]; simp [aI]
   ·rw [show (x == 0) = false by simp [hx], fin]
    exact ⟨_, rfl, hd, A8 hx, rfl, Nat.le_refl _⟩
theorem pn (b : Bool) (d : List Int) (hl : d.length < 1000000) (hd : dS d) :
  ∃ d', mw b d = some ⟨b && decide (0 < d'.length), d'⟩ ∧ dS d' ∧ sa d' ∧ aI d' = aI d ∧ d'.length ≤ d.length := by
 unfold mw
 exact HI b ba d (by rw [aF]; omega) hl hd
def jg (a : List Int) (i : Nat) : Int := a.getD i 0
theorem sR {a : List Int} {i : Nat} (h : i < a.length) : a[i] = jg a i := by simp [jg, h]
theorem qb {a : List Int} {i : Nat} (h : a.length ≤ i) : jg a i = 0 := by simp [jg, h]
theorem kI {a : List Int} (ha : dS a) (i : Nat) : 0 ≤ jg a i ∧ jg a i ≤ 9 := by
 by_cases h : i < a.length
 ·rw [← sR h]; exact ha _ (List.getElem_mem h)
 ·rw [qb (by omega)]; omega
theorem DY {a : List Int} (ta : sa a) {i : Nat} (h : i + 1 = a.length) : jg a i ≠ 0 := by
 have hi : i < a.length := by omega
 rw [← sR hi]
 refine ta _ ?_
 rw [List.getLast?_eq_getElem?, show a.length - 1 = i by omega, List.getElem?_eq_getElem hi]
theorem oU (a : List Int) (i : Nat) : aI (a.take (i + 1)) = aI (a.take i) + p10 i * jg a i := by
 by_cases h : i < a.length
 ·rw [List.take_succ_eq_append_getElem h, fY, List.length_take, Nat.min_eq_left (by omega), sR h]
  simp [aI]
 ·rw [qb (by omega), List.take_of_length_le (by omega), List.take_of_length_le (by omega)]; simp
theorem JS {n : Int} (h0 : 0 ≤ n) : n.tdiv 10 = n / 10 := Int.tdiv_eq_ediv_of_nonneg h0
theorem Ko {n : Int} (h0 : 0 ≤ n) : n.tmod 10 = n % 10 := Int.tmod_eq_emod_of_nonneg h0
theorem E8 {a b : List Int} (ha : dS a) (hb : dS b) (la : a.length < 1000000) (lb : b.length < 1000000) (k i : Nat) (l : List Int) (c : Int) (hl : l.length = i) (hi : i < 1000002) (c0 : 0 ≤ c) (c1 : c ≤ 1)
  (hc : i < a.length ∨ i < b.length ∨ 0 < c) :
  bv a b (k + 1) l c (i : Int) = bv a b k (l ++ [(c + jg a i + jg b i) % 10]) ((c + jg a i + jg b i) / 10) ((i + 1 : Nat) : Int) := by
 obtain ⟨a0, a9⟩ := kI ha i
 obtain ⟨b0, b9⟩ := kI hb i
 have j3 : ∀ n : Int, n = c + jg a i + jg b i → kY (bv a b k) l (i : Int) n = bv a b k (l ++ [(c + jg a i + jg b i) % 10]) ((c + jg a i + jg b i) / 10) ((i + 1 : Nat) : Int) := by
  rintro n rfl
  unfold kY bB
  rw [if_pos (by omega), JS (by omega), Ko (by omega), fJ (x := (c + jg a i + jg b i) / 10) (by omega) (by omega), fJ (by omega) (by omega), show (i : Int) + 1 = ((i + 1 : Nat) : Int) by omega]
 have j2 : lp (bv a b k) b l (i : Int) (c + jg a i) = bv a b k (l ++ [(c + jg a i + jg b i) % 10]) ((c + jg a i + jg b i) / 10) ((i + 1 : Nat) : Int) := by
  unfold lp
  by_cases h : i < b.length
  ·rw [gp h, aw, cf h, ar, sR h, fJ (by omega) (by omega)]
   exact j3 _ rfl
  ·rw [show decide ((i : Int) < (b.length : Int)) = false by simp; omega, ah]
   exact j3 _ (by rw [qb (a := b) (by omega)]; omega)
 have j1 : jB (bv a b k) a b l c (i : Int) true = bv a b k (l ++ [(c + jg a i + jg b i) % 10]) ((c + jg a i + jg b i) / 10) ((i + 1 : Nat) : Int) := by
  unfold jB
  rw [aw]
  by_cases h : i < a.length
  ·rw [gp h, aw, cf h, ar, sR h, fJ (by omega) (by omega)]
   exact j2
  ·rw [show decide ((i : Int) < (a.length : Int)) = false by simp; omega, ah]
   have e : c + jg a i = c := by rw [qb (by omega)]; omega
   rw [e] at j2 ⊢
   exact j2
 rw [bv]
 by_cases h : i < a.length
 ·rw [gp h, aw]; exact j1
 ·rw [show decide ((i : Int) < (a.length : Int)) = false by simp; omega, ah]
  by_cases h' : i < b.length
  ·rw [gp h', aw]; exact j1
  ·rw [show decide ((i : Int) < (b.length : Int)) = false by simp; omega, ah, show decide ((0 : Int) < c) = true by simp; omega]; exact j1
theorem Fz {a b : List Int} (ha : dS a) (hb : dS b) (ta : sa a) (tb : sa b) (la : a.length < 1000) (lb : b.length < 1000) : ∀ (k i : Nat) (l : List Int) (c : Int),
  l.length = i → dS l → 0 ≤ c → c ≤ 1 → i ≤ max a.length b.length + 1 → (i = max a.length b.length + 1 → c = 0) → max a.length b.length + 1 - i < k →
  aI l + p10 i * c = aI (a.take i) + aI (b.take i) → (i < a.length ∨ i < b.length ∨ 0 < c ∨ sa l) →
  ∃ r, bv a b k l c (i : Int) = some r ∧ dS r ∧ sa r ∧ aI r = aI a + aI b ∧ r.length ≤ max a.length b.length + 1 := by
 intro k
 induction k with
 | zero => intro i l c _ _ _ _ _ _ h; omega
 | succ k ih =>
  intro i l c hl dl c0 c1 hi hlast hk hv ht
  by_cases hc : i < a.length ∨ i < b.length ∨ 0 < c
  ·rw [E8 ha hb (by omega) (by omega) k i l c hl (by omega) c0 c1 hc]
   obtain ⟨a0, a9⟩ := kI ha i
   obtain ⟨b0, b9⟩ := kI hb i
   have hi' : i ≤ max a.length b.length := by
    by_cases e : i = max a.length b.length + 1
    ·have := hlast e; omega
    ·omega
   refine ih (i + 1) _ _ (by simp [hl]) (vw dl (by omega) (by omega)) (by omega) (by omega) (by omega) (fun e => ?_) (by omega) ?_ ?_
   ·have e1 : jg a i = 0 := qb (by omega)
    have e2 : jg b i = 0 := qb (by omega)
    omega
   ·rw [oU, oU, fY, hl]
    simp only [aI, p10]
    have e : p10 i * ((c + jg a i + jg b i) % 10 + 10 * 0) + p10 i * 10 * ((c + jg a i + jg b i) / 10) = p10 i * (c + jg a i + jg b i) := by
     rw [Int.mul_assoc, ← Int.mul_add]; congr 1; omega
    have e2 : p10 i * (c + jg a i + jg b i) = p10 i * c + p10 i * jg a i + p10 i * jg b i := by rw [Int.mul_add, Int.mul_add]
    omega
   ·by_cases h1 : i + 1 < a.length ∨ i + 1 < b.length ∨ 0 < (c + jg a i + jg b i) / 10
    ·rcases h1 with h1 | h1 | h1
     ·exact .inl h1
     ·exact .inr (.inl h1)
     ·exact .inr (.inr (.inl h1))
    ·refine .inr (.inr (.inr (A8 ?_)))
     rcases hc with hc | hc | hc
     ·have := DY ta (i := i) (by omega); omega
     ·have := DY tb (i := i) (by omega); omega
     ·omega
  ·have hc0 : c = 0 := by omega
   subst hc0
   rw [bv, show decide ((i : Int) < (a.length : Int)) = false by simp; omega, show decide ((i : Int) < (b.length : Int)) = false by simp; omega, ah, ah]
   refine ⟨l, rfl, dl, ?_, ?_, by omega⟩
   ·rcases ht with h | h | h | h
    ·omega
    ·omega
    ·omega
    ·exact h
   ·rw [List.take_of_length_le (by omega), List.take_of_length_le (by omega)] at hv
    simpa using hv
theorem Ea {a b : List Int} (ha : dS a) (hb : dS b) (ta : sa a) (tb : sa b) (la : a.length < 1000) (lb : b.length < 1000) :
  ∃ r, o7 a b = some r ∧ dS r ∧ sa r ∧ aI r = aI a + aI b ∧ r.length ≤ max a.length b.length + 1 := by
 unfold o7
 exact Fz ha hb ta tb la lb ba 0 [] 0 rfl qu (by omega) (by omega) (by omega) (fun _ => rfl) (by rw [aF]; omega) (by simp [aI]) (.inr (.inr (.inr wB)))
end Go.Proofs.YtpmoopnkoknbeaaGreatDoor.Nm
