/- Names, in plain terms. -/
import Derived.Test.YtdkmclmdemngfaaDoorGenK
import Derived.Test.YtdkmclmdemngfaaDoorLawCal
namespace Go.Proofs.YtdkmclmdemngfaaDoor
open Go Go.SX Go.SX.Cal
set_option linter.unusedVariables false
set_option linter.unusedSimpArgs false

theorem ift_true {β : Type} (x y : Option β) : ift true x y = x := rfl
theorem ift_false {β : Type} (x y : Option β) : ift false x y = y := rfl
theorem ift_ite {β : Type} (b : Bool) (x y : Option β) : ift b x y = if b = true then x else y := by cases b <;> rfl
theorem big_val : BIG = 1152921504606846976 := rfl

/-- the first index from i on, below n, at which P holds -/
def first (P : Nat → Bool) (i n : Nat) : Option Nat := (List.range' i (n - i)).find? P

theorem first_step {P : Nat → Bool} {i n : Nat} (h : i < n) : first P i n = if P i = true then some i else first P (i + 1) n := by
  unfold first
  rw [show n - i = (n - (i + 1)) + 1 by omega, List.range'_succ, List.find?_cons]
  cases hp : P i <;> simp [hp]

theorem first_end {P : Nat → Bool} {n : Nat} : first P n n = none := by simp [first]

theorem first_none {P : Nat → Bool} {i n : Nat} : first P i n = none ↔ ∀ j, i ≤ j → j < n → P j = false := by
  unfold first
  rw [List.find?_eq_none]
  constructor
  · intro h j h1 h2
    have := h j (by rw [List.mem_range'_1]; omega)
    simpa using this
  · intro h j hj
    rw [List.mem_range'_1] at hj
    have := h j (by omega) (by omega)
    simp [this]

theorem search {β : Type} {f : Nat → Nat → Option β} {n : Nat} {P : Nat → Bool} {A : Nat → Option β} {B : Option β} (hstep : ∀ k i, i < n → f (k + 1) i = if P i = true then A i else f k (i + 1)) (hend : ∀ k, f (k + 1) n = B) :
    ∀ k i, i ≤ n → n - i < k → f k i = (first P i n).elim B A := by
  intro k
  induction k with
  | zero => intro i _ h; omega
  | succ k ih =>
    intro i hi hk
    by_cases h : i = n
    · subst h
      rw [hend, first_end]; rfl
    · rw [hstep k i (by omega), first_step (by omega)]
      by_cases hp : P i = true
      · simp [hp]
      · simp only [hp, if_false]
        exact ih (i + 1) (by omega) (by omega)

def byt (s : ByteArray) (i : Nat) : Nat := (s.data.toList.getD i 0).toNat

theorem get_byt (s : ByteArray) (i : Nat) (h : i < s.size) : (s.get! i).toNat = byt s i := by
  unfold byt
  have h' : i < s.data.size := h
  have : s.get! i = s.data.toList.getD i 0 := by
    simp only [ByteArray.get!, List.getD, Array.getElem?_toList]
    rw [getElem!_pos s.data i h', Array.getElem?_eq_getElem h']; rfl
  rw [this]

theorem byt_lt (s : ByteArray) (i : Nat) : byt s i < 256 := by
  unfold byt
  exact UInt8.toNat_lt _

def small (b : Nat) : Bool := decide (97 ≤ b) && decide (b ≤ 122)
def other (b : Nat) : Bool := b == 95 || (decide (48 ≤ b) && decide (b ≤ 57))
def good (b : Nat) : Bool := small b || other b

theorem name1_eq (n : Nat) : value_Name_1 (Int.ofNat n) = some (!good n) := by
  unfold value_Name_1 value_Name_1_j1
  simp only [ift_ite, decide_eq_true_eq, Int.ofNat_eq_natCast]
  repeat' split
  all_goals (rw [Option.some.injEq, Bool.eq_iff_iff]; simp [good, small, other]; omega)

theorem decode_lo (s : ByteArray) (i : Nat) (h : i < s.size) (hb : byt s i < 128) : Utf8.decode s i = (byt s i, 1) := by
  have e := get_byt s i h
  unfold Utf8.decode
  simp [e, hb]

theorem decode_hi (s : ByteArray) (i : Nat) (h : i < s.size) (hb : ¬ byt s i < 128) : 128 ≤ (Utf8.decode s i).1 := by
  have e := get_byt s i h
  unfold Utf8.decode
  simp only [Nat.add_zero, e, if_neg hb, Utf8.runeError]
  repeat' split
  all_goals simp_all
  all_goals omega


/-- a byte that spoils a name -/
def bad (s : ByteArray) (i : Nat) : Bool := !good (byt s i)

theorem indexFunc_eq (s : ByteArray) : ∀ k i, i ≤ s.size → s.size - i < k → ∃ r, strings_indexFunc_of_value_Name_1_l1 s true k i = some r ∧ (decide (0 ≤ r) = (first (bad s) i s.size).isSome) := by
  intro k
  induction k with
  | zero => intro i _ h; omega
  | succ k ih =>
    intro i hi hk
    rw [strings_indexFunc_of_value_Name_1_l1]
    by_cases h : i = s.size
    · subst h
      rw [first_end]
      simp only [Nat.lt_irrefl, decide_false, ift_false]
      exact ⟨-1, rfl, rfl⟩
    · have hlt : i < s.size := by omega
      simp only [hlt, decide_true, ift_true, name1_eq, bnd_eq]
      rw [first_step hlt]
      by_cases hb : byt s i < 128
      · rw [decode_lo s i hlt hb]
        simp only [bad]
        by_cases hg : good (byt s i) = true
        · simp only [hg, Bool.not_true, ift_ite]
          obtain ⟨r, h1, h2⟩ := ih (i + 1) (by omega) (by omega)
          exact ⟨r, by simpa using h1, by simpa [bad] using h2⟩
        · simp only [hg, Bool.not_false, ift_ite]
          exact ⟨_, rfl, by simp⟩
      · have h1 := decode_hi s i hlt hb
        have g1 : good (Utf8.decode s i).1 = false := by
          generalize (Utf8.decode s i).1 = x at h1
          simp [good, small, other]; omega
        have g2 : bad s i = true := by
          simp [bad, good, small, other]; omega
        simp only [g1, g2, Bool.not_false, ift_ite]
        exact ⟨_, rfl, by simp⟩

def isName (s : ByteArray) : Bool := decide (1 ≤ s.size) && decide (s.size ≤ 24) && small (byt s 0) && (first (bad s) 0 s.size).isNone

theorem size_zero (s : ByteArray) : (s.toList == (ByteArray.mk #[]).toList) = decide (s.size = 0) := by
  rw [ByteArray.toList_eq, ByteArray.toList_eq, Bool.eq_iff_iff]
  show (s.data.toList == []) = true ↔ decide (s.data.size = 0) = true
  rw [← Array.length_toList]
  cases s.data.toList <;> simp

theorem vName (s : ByteArray) (hs : s.size < 1000000000) : value_Name s = some (isName s) := by
  obtain ⟨r, h1, h2⟩ := indexFunc_eq s BIG 0 (Nat.zero_le _) (by rw [big_val]; omega)
  unfold value_Name value_Name_j1 strings_ContainsFunc_of_value_Name_1 strings_IndexFunc_of_value_Name_1 strings_indexFunc_of_value_Name_1
  rw [h1, size_zero]
  simp only [bnd_eq, h2, ift_ite]
  by_cases z0 : s.size = 0
  · simp [z0, isName]
  · by_cases z1 : 24 < s.size
    · have : ¬ s.size ≤ 24 := by omega
      simp [z0, z1, isName, this, show (24 : Int) < (s.size : Int) by omega]
    · have hz : ¬ (24 : Int) < (s.size : Int) := by omega
      have hb : ((s.data.toList.getD (0 : Int).toNat 0).toNat : Int) = (byt s 0 : Int) := rfl
      simp only [z0, decide_false, hz, Bool.false_eq_true, if_false, hb]
      rw [grd_pos (by omega), grd_pos (by omega)]
      simp only [decide_eq_true_eq]
      have : s.size ≤ 24 := by omega
      by_cases q1 : byt s 0 < 97
      · have : ¬ 97 ≤ byt s 0 := by omega
        simp [show (byt s 0 : Int) < 97 by omega, isName, small, this]
      · by_cases q2 : 122 < byt s 0
        · have : ¬ byt s 0 ≤ 122 := by omega
          simp [show ¬ (byt s 0 : Int) < 97 by omega, show (122 : Int) < (byt s 0 : Int) by omega, isName, small, this]
        · simp [show ¬ (byt s 0 : Int) < 97 by omega, show ¬ (122 : Int) < (byt s 0 : Int) by omega, isName, small, show 1 ≤ s.size by omega, this, show 97 ≤ byt s 0 by omega, show byt s 0 ≤ 122 by omega]

def rbad (s : ByteArray) (i : Nat) : Bool := !small (byt s i) && (i == 0 || !other (byt s i))

theorem rname_step (s : ByteArray) (hs : s.size < 1000000000) (k i : Nat) (hi : i < s.size) : ref1_Name_l1 s (k + 1) (i : Int) = if rbad s i = true then some false else ref1_Name_l1 s k ((i + 1 : Nat) : Int) := by
  rw [ref1_Name_l1, ← ift_ite]
  have hb : ((s.data.toList.getD (i : Int).toNat 0).toNat : Int) = (byt s i : Int) := rfl
  have hw : IntKind.i64.wrap ((i : Int) + 1) = ((i + 1 : Nat) : Int) := by rw [w64 (by omega) (by omega)]; omega
  have hg : 0 ≤ (i : Int) ∧ (i : Int) < (s.size : Int) := by omega
  rw [show decide ((i : Int) < (s.size : Int)) = true by simp [hg.2], ift_true]
  simp only [ref1_Name_j2, ref1_Name_j3, ref1_Name_j4, hb, hw, bnd_eq, grd_pos hg]
  have e1 : ((byt s i : Int) == 95) = (byt s i == 95) := by rw [Bool.eq_iff_iff]; simp; omega
  have e2 : (decide ((97 : Int) ≤ byt s i)) = decide (97 ≤ byt s i) := by rw [Bool.eq_iff_iff]; simp; omega
  have e3 : (decide ((byt s i : Int) ≤ 122)) = decide (byt s i ≤ 122) := by rw [Bool.eq_iff_iff]; simp; omega
  have e4 : (decide ((48 : Int) ≤ byt s i)) = decide (48 ≤ byt s i) := by rw [Bool.eq_iff_iff]; simp; omega
  have e5 : (decide ((byt s i : Int) ≤ 57)) = decide (byt s i ≤ 57) := by rw [Bool.eq_iff_iff]; simp; omega
  have e6 : ((i : Int) == 0) = (i == 0) := by rw [Bool.eq_iff_iff]; simp
  simp only [e1, e2, e3, e4, e5, e6, rbad, small, other]
  generalize hq : ref1_Name_l1 s k ((i + 1 : Nat) : Int) = q
  generalize (byt s i == 95) = b1
  generalize decide (97 ≤ byt s i) = b2
  generalize decide (byt s i ≤ 122) = b3
  generalize decide (48 ≤ byt s i) = b4
  generalize decide (byt s i ≤ 57) = b5
  generalize (i == 0) = b6
  cases b1 <;> cases b2 <;> cases b3 <;> cases b4 <;> cases b5 <;> cases b6 <;> rfl

theorem rName (s : ByteArray) (hs : s.size < 1000000000) : ref1_Name s = some (isName s) := by
  have hl := search (f := fun k i => ref1_Name_l1 s k (i : Int)) (n := s.size) (P := rbad s) (A := fun _ => some false) (B := some true) (fun k i hi => rname_step s hs k i hi)
    (fun k => by rw [ref1_Name_l1]; simp only [Int.lt_irrefl, decide_false, ift_false]; rfl) BIG 0 (Nat.zero_le _) (by rw [big_val]; omega)
  have hl : ref1_Name_l1 s BIG (0 : Int) = _ := hl
  unfold ref1_Name ref1_Name_j1
  rw [hl]
  simp only [ift_ite]
  by_cases z0 : s.size = 0
  · simp [z0, isName]
  · by_cases z1 : 24 < s.size
    · have : ¬ s.size ≤ 24 := by omega
      simp [z0, z1, isName, this, show (24 : Int) < (s.size : Int) by omega]
    · have hz : ¬ (24 : Int) < (s.size : Int) := by omega
      have hz2 : ¬ (s.size : Int) < 1 := by omega
      simp only [hz, hz2, decide_false, Bool.false_eq_true, if_false]
      have e : (first (rbad s) 0 s.size).isNone = (small (byt s 0) && (first (bad s) 0 s.size).isNone) := by
        rw [Bool.eq_iff_iff, Bool.and_eq_true, Option.isNone_iff_eq_none, Option.isNone_iff_eq_none, first_none, first_none]
        constructor
        · intro h
          have h0 := h 0 (Nat.le_refl _) (by omega)
          simp only [rbad, beq_self_eq_true, Bool.true_or, Bool.and_true] at h0
          have h0' : small (byt s 0) = true := by simpa using h0
          refine ⟨h0', fun j _ hj => ?_⟩
          have h1 := h j (Nat.zero_le _) hj
          simp only [rbad, bad, good] at h1 ⊢
          cases hs : small (byt s j) <;> cases ho : other (byt s j) <;> simp_all
        · rintro ⟨h0, h⟩ j _ hj
          have h1 := h j (Nat.zero_le _) hj
          simp only [rbad, bad, good] at h1 ⊢
          by_cases hj0 : j = 0
          · subst hj0; simp [h0]
          · cases hs : small (byt s j) <;> cases ho : other (byt s j) <;> simp_all
      have : (first (rbad s) 0 s.size).elim (some true) (fun _ => some false) = some ((first (rbad s) 0 s.size).isNone) := by cases first (rbad s) 0 s.size <;> rfl
      rw [this, e]
      simp [isName, show 1 ≤ s.size by omega, show s.size ≤ 24 by omega]

end Go.Proofs.YtdkmclmdemngfaaDoor
