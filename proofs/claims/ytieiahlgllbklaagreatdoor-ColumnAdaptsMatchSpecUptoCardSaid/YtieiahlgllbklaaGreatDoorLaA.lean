/- The calendar, in plain integers. Names, in plain terms. The fields of a type, in plain terms. The check of types and the common type, in plain terms. Texts and sound values, in plain terms. Values of a type, in plain terms; the law of Sound and Check. Rows: lists of fields. SameType: both answers are the same. CheckSchema: both answers are the same. CheckSchema, end; the law of types. Rows: CheckRows, of both sides. Values: what is adapted is the same as itself. Adapt: casts of leaves. Adapt: fields that are found, types that widen, schemas that are adaptable. Adapt: values and rows. Adapt: the law. -/
import Derived.Test.YtieiahlgllbklaaGreatDoorGeA
namespace Go.SX.Cal
open Go
set_option linter.unusedVariables false

theorem w64 {x : Int} (h1 : -9223372036854775808 ≤ x) (h2 : x ≤ 9223372036854775807) : IntKind.i64.wrap x = x := by
  simp only [IntKind.wrap, IntKind.bits, IntKind.signed]
  simp only [Bool.true_and, decide_eq_true_eq, ge_iff_le]
  split <;> omega

/-! ### years of an era -/

def S (y : Int) : Int := 365 * y + y / 4 - y / 100
def F (r : Int) : Int := r - r / 1460 + r / 36524
/-- a year has 366 days -/
def leap (y : Int) : Prop := y % 4 = 0 ∧ (y % 100 ≠ 0 ∨ y % 400 = 0)

instance (y : Int) : Decidable (leap y) := by unfold leap; infer_instance

/-! ### days -/

/-- the first of March of a year -/
def E (y : Int) : Int := y / 400 * 146097 + S (y % 400) - 719468

end Go.SX.Cal
namespace Go.Proofs.YtieiahlgllbklaaGreatDoor
open Go Go.SX Go.SX.Cal
set_option linter.unusedVariables false
set_option linter.unusedSimpArgs false

theorem ift_true {β : Type} (x y : Option β) : ift true x y = x := rfl
theorem ift_false {β : Type} (x y : Option β) : ift false x y = y := rfl
theorem ift_ite {β : Type} (b : Bool) (x y : Option β) : ift b x y = if b = true then x else y := by cases b <;> rfl
theorem big_val : BIG = 1152921504606846976 := rfl

/-- the first index from i on, below n, at which P holds -/
def first (P : Nat → Bool) (i n : Nat) : Option Nat := (List.range' i (n - i)).find? P

theorem first_step {P : Nat → Bool} {i n : Nat} (h : i < n) : first P i n = if P i = true then some i else first P (i + 1) n := by
  unfold first
  rw [show n - i = (n - (i + 1)) + 1 by omega, List.range'_succ, List.find?_cons]
  cases hp : P i <;> simp [hp]

theorem first_end {P : Nat → Bool} {n : Nat} : first P n n = none := by simp [first]

theorem first_none {P : Nat → Bool} {i n : Nat} : first P i n = none ↔ ∀ j, i ≤ j → j < n → P j = false := by
  unfold first
  rw [List.find?_eq_none]
  constructor
  · intro h j h1 h2
    have := h j (by rw [List.mem_range'_1]; omega)
    simpa using this
  · intro h j hj
    rw [List.mem_range'_1] at hj
    have := h j (by omega) (by omega)
    simp [this]

theorem search {β : Type} {f : Nat → Nat → Option β} {n : Nat} {P : Nat → Bool} {A : Nat → Option β} {B : Option β} (hstep : ∀ k i, i < n → f (k + 1) i = if P i = true then A i else f k (i + 1)) (hend : ∀ k, f (k + 1) n = B) :
    ∀ k i, i ≤ n → n - i < k → f k i = (first P i n).elim B A := by
  intro k
  induction k with
  | zero => intro i _ h; omega
  | succ k ih =>
    intro i hi hk
    by_cases h : i = n
    · subst h
      rw [hend, first_end]; rfl
    · rw [hstep k i (by omega), first_step (by omega)]
      by_cases hp : P i = true
      · simp [hp]
      · simp only [hp, if_false]
        exact ih (i + 1) (by omega) (by omega)

def byt (s : ByteArray) (i : Nat) : Nat := (s.data.toList.getD i 0).toNat

theorem get_byt (s : ByteArray) (i : Nat) (h : i < s.size) : (s.get! i).toNat = byt s i := by
  unfold byt
  have h' : i < s.data.size := h
  have : s.get! i = s.data.toList.getD i 0 := by
    simp only [ByteArray.get!, List.getD, Array.getElem?_toList]
    rw [getElem!_pos s.data i h', Array.getElem?_eq_getElem h']; rfl
  rw [this]

def small (b : Nat) : Bool := decide (97 ≤ b) && decide (b ≤ 122)
def other (b : Nat) : Bool := b == 95 || (decide (48 ≤ b) && decide (b ≤ 57))
def good (b : Nat) : Bool := small b || other b

theorem name1_eq (n : Nat) : value_Name_1 (Int.ofNat n) = some (!good n) := by
  unfold value_Name_1 value_Name_1_j1
  simp only [ift_ite, decide_eq_true_eq, Int.ofNat_eq_natCast]
  repeat' split
  all_goals (rw [Option.some.injEq, Bool.eq_iff_iff]; simp [good, small, other]; omega)

theorem decode_lo (s : ByteArray) (i : Nat) (h : i < s.size) (hb : byt s i < 128) : Utf8.decode s i = (byt s i, 1) := by
  have e := get_byt s i h
  unfold Utf8.decode
  simp [e, hb]

theorem decode_hi (s : ByteArray) (i : Nat) (h : i < s.size) (hb : ¬ byt s i < 128) : 128 ≤ (Utf8.decode s i).1 := by
  have e := get_byt s i h
  unfold Utf8.decode
  simp only [Nat.add_zero, e, if_neg hb, Utf8.runeError]
  repeat' split
  all_goals simp_all
  all_goals omega


/-- a byte that spoils a name -/
def bad (s : ByteArray) (i : Nat) : Bool := !good (byt s i)

theorem indexFunc_eq (s : ByteArray) : ∀ k i, i ≤ s.size → s.size - i < k → ∃ r, strings_indexFunc_of_value_Name_1_l1 s true k i = some r ∧ (decide (0 ≤ r) = (first (bad s) i s.size).isSome) := by
  intro k
  induction k with
  | zero => intro i _ h; omega
  | succ k ih =>
    intro i hi hk
    rw [strings_indexFunc_of_value_Name_1_l1]
    by_cases h : i = s.size
    · subst h
      rw [first_end]
      simp only [Nat.lt_irrefl, decide_false, ift_false]
      exact ⟨-1, rfl, rfl⟩
    · have hlt : i < s.size := by omega
      simp only [hlt, decide_true, ift_true, name1_eq, bnd_eq]
      rw [first_step hlt]
      by_cases hb : byt s i < 128
      · rw [decode_lo s i hlt hb]
        simp only [bad]
        by_cases hg : good (byt s i) = true
        · simp only [hg, Bool.not_true, ift_ite]
          obtain ⟨r, h1, h2⟩ := ih (i + 1) (by omega) (by omega)
          exact ⟨r, by simpa using h1, by simpa [bad] using h2⟩
        · simp only [hg, Bool.not_false, ift_ite]
          exact ⟨_, rfl, by simp⟩
      · have h1 := decode_hi s i hlt hb
        have g1 : good (Utf8.decode s i).1 = false := by
          generalize (Utf8.decode s i).1 = x at h1
          simp [good, small, other]; omega
        have g2 : bad s i = true := by
          simp [bad, good, small, other]; omega
        simp only [g1, g2, Bool.not_false, ift_ite]
        exact ⟨_, rfl, by simp⟩

def isName (s : ByteArray) : Bool := decide (1 ≤ s.size) && decide (s.size ≤ 24) && small (byt s 0) && (first (bad s) 0 s.size).isNone

theorem size_zero (s : ByteArray) : (s.toList == (ByteArray.mk #[]).toList) = decide (s.size = 0) := by
  rw [ByteArray.toList_eq, ByteArray.toList_eq, Bool.eq_iff_iff]
  show (s.data.toList == []) = true ↔ decide (s.data.size = 0) = true
  rw [← Array.length_toList]
  cases s.data.toList <;> simp

theorem vName (s : ByteArray) (hs : s.size < 1000000000) : value_Name s = some (isName s) := by
  obtain ⟨r, h1, h2⟩ := indexFunc_eq s BIG 0 (Nat.zero_le _) (by rw [big_val]; omega)
  unfold value_Name value_Name_j1 strings_ContainsFunc_of_value_Name_1 strings_IndexFunc_of_value_Name_1 strings_indexFunc_of_value_Name_1
  rw [h1, size_zero]
  simp only [bnd_eq, h2, ift_ite]
  by_cases z0 : s.size = 0
  · simp [z0, isName]
  · by_cases z1 : 24 < s.size
    · have : ¬ s.size ≤ 24 := by omega
      simp [z0, z1, isName, this, show (24 : Int) < (s.size : Int) by omega]
    · have hz : ¬ (24 : Int) < (s.size : Int) := by omega
      have hb : ((s.data.toList.getD (0 : Int).toNat 0).toNat : Int) = (byt s 0 : Int) := rfl
      simp only [z0, decide_false, hz, Bool.false_eq_true, if_false, hb]
      rw [grd_pos (by omega), grd_pos (by omega)]
      simp only [decide_eq_true_eq]
      have : s.size ≤ 24 := by omega
      by_cases q1 : byt s 0 < 97
      · have : ¬ 97 ≤ byt s 0 := by omega
        simp [show (byt s 0 : Int) < 97 by omega, isName, small, this]
      · by_cases q2 : 122 < byt s 0
        · have : ¬ byt s 0 ≤ 122 := by omega
          simp [show ¬ (byt s 0 : Int) < 97 by omega, show (122 : Int) < (byt s 0 : Int) by omega, isName, small, this]
        · simp [show ¬ (byt s 0 : Int) < 97 by omega, show ¬ (122 : Int) < (byt s 0 : Int) by omega, isName, small, show 1 ≤ s.size by omega, this, show 97 ≤ byt s 0 by omega, show byt s 0 ≤ 122 by omega]

def rbad (s : ByteArray) (i : Nat) : Bool := !small (byt s i) && (i == 0 || !other (byt s i))

theorem rname_step (s : ByteArray) (hs : s.size < 1000000000) (k i : Nat) (hi : i < s.size) : ref1_Name_l1 s (k + 1) (i : Int) = if rbad s i = true then some false else ref1_Name_l1 s k ((i + 1 : Nat) : Int) := by
  rw [ref1_Name_l1, ← ift_ite]
  have hb : ((s.data.toList.getD (i : Int).toNat 0).toNat : Int) = (byt s i : Int) := rfl
  have hw : IntKind.i64.wrap ((i : Int) + 1) = ((i + 1 : Nat) : Int) := by rw [w64 (by omega) (by omega)]; omega
  have hg : 0 ≤ (i : Int) ∧ (i : Int) < (s.size : Int) := by omega
  rw [show decide ((i : Int) < (s.size : Int)) = true by simp [hg.2], ift_true]
  simp only [ref1_Name_j2, ref1_Name_j3, ref1_Name_j4, hb, hw, bnd_eq, grd_pos hg]
  have e1 : ((byt s i : Int) == 95) = (byt s i == 95) := by rw [Bool.eq_iff_iff]; simp; omega
  have e2 : (decide ((97 : Int) ≤ byt s i)) = decide (97 ≤ byt s i) := by rw [Bool.eq_iff_iff]; simp; omega
  have e3 : (decide ((byt s i : Int) ≤ 122)) = decide (byt s i ≤ 122) := by rw [Bool.eq_iff_iff]; simp; omega
  have e4 : (decide ((48 : Int) ≤ byt s i)) = decide (48 ≤ byt s i) := by rw [Bool.eq_iff_iff]; simp; omega
  have e5 : (decide ((byt s i : Int) ≤ 57)) = decide (byt s i ≤ 57) := by rw [Bool.eq_iff_iff]; simp; omega
  have e6 : ((i : Int) == 0) = (i == 0) := by rw [Bool.eq_iff_iff]; simp
  simp only [e1, e2, e3, e4, e5, e6, rbad, small, other]
  generalize hq : ref1_Name_l1 s k ((i + 1 : Nat) : Int) = q
  generalize (byt s i == 95) = b1
  generalize decide (97 ≤ byt s i) = b2
  generalize decide (byt s i ≤ 122) = b3
  generalize decide (48 ≤ byt s i) = b4
  generalize decide (byt s i ≤ 57) = b5
  generalize (i == 0) = b6
  cases b1 <;> cases b2 <;> cases b3 <;> cases b4 <;> cases b5 <;> cases b6 <;> rfl

theorem rName (s : ByteArray) (hs : s.size < 1000000000) : ref1_Name s = some (isName s) := by
  have hl := search (f := fun k i => ref1_Name_l1 s k (i : Int)) (n := s.size) (P := rbad s) (A := fun _ => some false) (B := some true) (fun k i hi => rname_step s hs k i hi)
    (fun k => by rw [ref1_Name_l1]; simp only [Int.lt_irrefl, decide_false, ift_false]; rfl) BIG 0 (Nat.zero_le _) (by rw [big_val]; omega)
  have hl : ref1_Name_l1 s BIG (0 : Int) = _ := hl
  unfold ref1_Name ref1_Name_j1
  rw [hl]
  simp only [ift_ite]
  by_cases z0 : s.size = 0
  · simp [z0, isName]
  · by_cases z1 : 24 < s.size
    · have : ¬ s.size ≤ 24 := by omega
      simp [z0, z1, isName, this, show (24 : Int) < (s.size : Int) by omega]
    · have hz : ¬ (24 : Int) < (s.size : Int) := by omega
      have hz2 : ¬ (s.size : Int) < 1 := by omega
      simp only [hz, hz2, decide_false, Bool.false_eq_true, if_false]
      have e : (first (rbad s) 0 s.size).isNone = (small (byt s 0) && (first (bad s) 0 s.size).isNone) := by
        rw [Bool.eq_iff_iff, Bool.and_eq_true, Option.isNone_iff_eq_none, Option.isNone_iff_eq_none, first_none, first_none]
        constructor
        · intro h
          have h0 := h 0 (Nat.le_refl _) (by omega)
          simp only [rbad, beq_self_eq_true, Bool.true_or, Bool.and_true] at h0
          have h0' : small (byt s 0) = true := by simpa using h0
          refine ⟨h0', fun j _ hj => ?_⟩
          have h1 := h j (Nat.zero_le _) hj
          simp only [rbad, bad, good] at h1 ⊢
          cases hs : small (byt s j) <;> cases ho : other (byt s j) <;> simp_all
        · rintro ⟨h0, h⟩ j _ hj
          have h1 := h j (Nat.zero_le _) hj
          simp only [rbad, bad, good] at h1 ⊢
          by_cases hj0 : j = 0
          · subst hj0; simp [h0]
          · cases hs : small (byt s j) <;> cases ho : other (byt s j) <;> simp_all
      have : (first (rbad s) 0 s.size).elim (some true) (fun _ => some false) = some ((first (rbad s) 0 s.size).isNone) := by cases first (rbad s) 0 s.size <;> rfl
      rw [this, e]
      simp [isName, show 1 ≤ s.size by omega, show s.size ≤ 24 by omega]

end Go.Proofs.YtieiahlgllbklaaGreatDoor
namespace Go.Proofs.YtieiahlgllbklaaGreatDoor
open Go Go.SX Go.SX.Cal
set_option linter.unusedVariables false
set_option linter.unusedSimpArgs false

mutual
def sizeT : GType → Nat
  | ⟨_, _, fs⟩ => sizeF fs + 1
def sizeF : List (FieldP GType) → Nat
  | [] => 0
  | f :: l => sizeFd f + sizeF l
def sizeFd : FieldP GType → Nat
  | ⟨_, n, _, t⟩ => n.size + sizeT t + 1
end

theorem sizeF_mem : ∀ {l : List GField} {x : GField}, x ∈ l → sizeFd x ≤ sizeF l
  | [], _, h => by cases h
  | y :: l, x, h => by
    simp only [sizeF]
    rcases List.mem_cons.1 h with rfl | h
    · omega
    · have := sizeF_mem h; omega

theorem sizeFd_eq : ∀ x : GField, sizeFd x = x.name.size + sizeT x.type + 1
  | ⟨_, _, _, _⟩ => by simp only [sizeFd]

theorem sizeT_eq : ∀ x : GType, sizeT x = sizeF x.fields + 1
  | ⟨_, _, _⟩ => by simp only [sizeT]

theorem sizeF_len : ∀ l : List GField, l.length ≤ sizeF l
  | [] => by simp [sizeF]
  | x :: l => by
    have := sizeF_len l
    have := sizeFd_eq x
    simp only [sizeF, List.length_cons]; omega

theorem wrap_succ {i n : Nat} (h : i < n) (hn : n < 1000000000) : IntKind.i64.wrap ((i : Int) + 1) = ((i + 1 : Nat) : Int) := by rw [w64 (by omega) (by omega)]; omega

theorem at_nat {α : Type} {xs : List α} {i : Nat} (h : i < xs.length) : at? xs (i : Int) = some xs[i] := by unfold at?; simp [h]

theorem dec_lt {i n : Nat} (h : i < n) : decide ((i : Int) < (n : Int)) = true := by simp [h]

/-- the name of the field at i -/
def fnm (fs : List GField) (i : Nat) : ByteArray := (fs[i]?.map (·.name)).getD ByteArray.empty

theorem fnm_at {fs : List GField} {i : Nat} (h : i < fs.length) : fnm fs i = fs[i].name := by simp [fnm, h]

def noName (fs : List GField) (i : Nat) : Bool := !isName (fnm fs i)
def eqN (fs : List GField) (i j : Nat) : Bool := (fnm fs j).toList == (fnm fs i).toList
def twin (fs : List GField) (i : Nat) : Bool := (first (eqN fs i) 0 i).isSome
def badN (fs : List GField) : Bool := (first (noName fs) 0 fs.length).isSome
def dupN (fs : List GField) : Bool := (first (twin fs) 0 fs.length).isSome

structure FsOk (fs : List GField) : Prop where
  len : fs.length < 1000000000
  nam : ∀ f ∈ fs, f.name.size < 1000000000

theorem fsOk_of {fs : List GField} (h : sizeF fs < 1000000000) : FsOk fs :=
  ⟨by have := sizeF_len fs; omega, fun f hf => by have := sizeF_mem hf; have := sizeFd_eq f; omega⟩

theorem eta_f : ∀ f : GField, FieldP.mk f.id f.name f.need (GType.mk f.type.kind f.type.scale f.type.fields) = f
  | ⟨_, _, _, ⟨_, _, _⟩⟩ => rfl
theorem contains1 {fs : List GField} (ho : FsOk fs) : slices_ContainsFunc_api_Field_api_Field_of_value_fields_1 fs = some (badN fs) := by
  have hl := search (f := fun k i => slices_IndexFunc_api_Field_api_Field_of_value_fields_1_l1 fs k (i : Int)) (n := fs.length) (P := noName fs) (A := fun i => some (i : Int)) (B := some (-1)) (fun k i hi => by
      show slices_IndexFunc_api_Field_api_Field_of_value_fields_1_l1 fs (k + 1) (i : Int) = _
      rw [slices_IndexFunc_api_Field_api_Field_of_value_fields_1_l1, dec_lt hi, ift_true, at_nat hi, bnd_eq, value_fields_1, vName _ (ho.nam _ (List.getElem_mem hi)), wrap_succ hi ho.len]
      simp only [bnd_eq, ift_ite, noName, fnm_at hi])
    (fun k => by rw [slices_IndexFunc_api_Field_api_Field_of_value_fields_1_l1]; simp only [Int.lt_irrefl, decide_false, ift_false]; rfl) BIG 0 (Nat.zero_le _) (by rw [big_val]; have := ho.len; omega)
  have hl : slices_IndexFunc_api_Field_api_Field_of_value_fields_1_l1 fs BIG (0 : Int) = _ := hl
  unfold slices_ContainsFunc_api_Field_api_Field_of_value_fields_1 slices_IndexFunc_api_Field_api_Field_of_value_fields_1
  rw [hl]
  unfold badN
  cases first (noName fs) 0 fs.length with
  | none => rfl
  | some j => simp [bnd_eq]

theorem contains2 {fs : List GField} (ho : FsOk fs) {i : Nat} (hi : i < fs.length) : slices_ContainsFunc_api_Field_api_Field_of_value_fields_2 ((fs.drop (0 : Int).toNat).take ((i : Int).toNat - (0 : Int).toNat)) fs[i] = some (twin fs i, fs[i]) := by
  have ep : (fs.drop (0 : Int).toNat).take ((i : Int).toNat - (0 : Int).toNat) = fs.take i := by simp
  rw [ep]
  have hlen : (fs.take i).length = i := by simp; omega
  have hl := search (f := fun k j => slices_IndexFunc_api_Field_api_Field_of_value_fields_2_l1 (fs.take i) k fs[i].id fs[i].name fs[i].need fs[i].type.kind fs[i].type.scale fs[i].type.fields (j : Int)) (n := i) (P := eqN fs i) (A := fun j => some ((j : Int), fs[i])) (B := some (-1, fs[i])) (fun k j hj => by
      have hj' : j < (fs.take i).length := by rw [hlen]; exact hj
      have hjf : j < fs.length := by omega
      show slices_IndexFunc_api_Field_api_Field_of_value_fields_2_l1 (fs.take i) (k + 1) _ _ _ _ _ _ (j : Int) = _
      rw [slices_IndexFunc_api_Field_api_Field_of_value_fields_2_l1, dec_lt hj', ift_true, at_nat hj', bnd_eq, value_fields_2, wrap_succ hj (by have := ho.len; omega)]
      simp only [bnd_eq, ift_ite, eqN, fnm_at hi, fnm_at hjf, List.getElem_take, eta_f])
    (fun k => by
      show slices_IndexFunc_api_Field_api_Field_of_value_fields_2_l1 (fs.take i) (k + 1) _ _ _ _ _ _ (i : Int) = _
      rw [slices_IndexFunc_api_Field_api_Field_of_value_fields_2_l1]; simp only [hlen, Int.lt_irrefl, decide_false, ift_false, slices_IndexFunc_api_Field_api_Field_of_value_fields_2_j1, eta_f]) BIG 0 (Nat.zero_le _) (by rw [big_val]; have := ho.len; omega)
  have hl : slices_IndexFunc_api_Field_api_Field_of_value_fields_2_l1 (fs.take i) BIG _ _ _ _ _ _ (0 : Int) = _ := hl
  unfold slices_ContainsFunc_api_Field_api_Field_of_value_fields_2 slices_IndexFunc_api_Field_api_Field_of_value_fields_2
  rw [hl]
  unfold twin
  cases first (eqN fs i) 0 i with
  | none => rfl
  | some j => simp [bnd_eq]

theorem fields_loop {t : GType} (ho : FsOk t.fields) : value_fields_l1 t BIG (0 : Int) = some (if dupN t.fields = true then 5 else 0) := by
  have hl := search (f := fun k i => value_fields_l1 t k (i : Int)) (n := t.fields.length) (P := twin t.fields) (A := fun _ => some 5) (B := some 0) (fun k i hi => by
      show value_fields_l1 t (k + 1) (i : Int) = _
      rw [value_fields_l1, dec_lt hi, ift_true, at_nat hi, bnd_eq, grd_pos (by omega), contains2 ho hi, wrap_succ hi ho.len]
      simp only [bnd_eq, ift_ite])
    (fun k => by rw [value_fields_l1]; simp only [Int.lt_irrefl, decide_false, ift_false]; rfl) BIG 0 (Nat.zero_le _) (by rw [big_val]; have := ho.len; omega)
  have hl : value_fields_l1 t BIG (0 : Int) = _ := hl
  rw [hl]
  unfold dupN
  cases first (twin t.fields) 0 t.fields.length <;> rfl

theorem shape_l3 {t : GType} (ho : FsOk t.fields) (rec2 : Int → Option Int) {i : Nat} (hi : i < t.fields.length) : ref1_shape_l3 rec2 t (i : Int) BIG (0 : Int) = if twin t.fields i = true then some 5 else rec2 ((i + 1 : Nat) : Int) := by
  have hl := search (f := fun k j => ref1_shape_l3 rec2 t (i : Int) k (j : Int)) (n := i) (P := eqN t.fields i) (A := fun j => some 5) (B := rec2 ((i + 1 : Nat) : Int)) (fun k j hj => by
      have hjf : j < t.fields.length := by omega
      show ref1_shape_l3 rec2 t (i : Int) (k + 1) (j : Int) = _
      rw [ref1_shape_l3, dec_lt hj, ift_true, at_nat hjf, at_nat hi, wrap_succ hj (by have := ho.len; omega)]
      simp only [bnd_eq, ift_ite, eqN, fnm_at hi, fnm_at hjf])
    (fun k => by
      show ref1_shape_l3 rec2 t (i : Int) (k + 1) (i : Int) = _
      rw [ref1_shape_l3]; simp only [Int.lt_irrefl, decide_false, ift_false, ref1_shape_j5]; rw [wrap_succ hi ho.len]) BIG 0 (Nat.zero_le _) (by rw [big_val]; have := ho.len; omega)
  have hl : ref1_shape_l3 rec2 t (i : Int) BIG (0 : Int) = _ := hl
  rw [hl]
  unfold twin
  cases first (eqN t.fields i) 0 i <;> simp

theorem shape_l2 {t : GType} (ho : FsOk t.fields) : ref1_shape_l2 t BIG (0 : Int) = some (if dupN t.fields = true then 5 else 0) := by
  have hl := search (f := fun k i => ref1_shape_l2 t k (i : Int)) (n := t.fields.length) (P := twin t.fields) (A := fun _ => some 5) (B := some 0) (fun k i hi => by
      show ref1_shape_l2 t (k + 1) (i : Int) = _
      rw [ref1_shape_l2, dec_lt hi, ift_true, shape_l3 ho _ hi])
    (fun k => by rw [ref1_shape_l2]; simp only [Int.lt_irrefl, decide_false, ift_false]; rfl) BIG 0 (Nat.zero_le _) (by rw [big_val]; have := ho.len; omega)
  have hl : ref1_shape_l2 t BIG (0 : Int) = _ := hl
  rw [hl]
  unfold dupN
  cases first (twin t.fields) 0 t.fields.length <;> rfl

theorem shape_l1 {t : GType} (ho : FsOk t.fields) : ref1_shape_l1 t BIG (0 : Int) = some (if badN t.fields = true then 4 else if dupN t.fields = true then 5 else 0) := by
  have hl := search (f := fun k i => ref1_shape_l1 t k (i : Int)) (n := t.fields.length) (P := noName t.fields) (A := fun _ => some 4) (B := some (if dupN t.fields = true then 5 else 0)) (fun k i hi => by
      show ref1_shape_l1 t (k + 1) (i : Int) = _
      rw [ref1_shape_l1, dec_lt hi, ift_true, at_nat hi, bnd_eq, rName _ (ho.nam _ (List.getElem_mem hi)), wrap_succ hi ho.len]
      simp only [bnd_eq, ift_ite, noName, fnm_at hi])
    (fun k => by rw [ref1_shape_l1]; simp only [Int.lt_irrefl, decide_false, ift_false, ref1_shape_j4]; exact shape_l2 ho) BIG 0 (Nat.zero_le _) (by rw [big_val]; have := ho.len; omega)
  have hl : ref1_shape_l1 t BIG (0 : Int) = _ := hl
  rw [hl]
  unfold badN
  cases first (noName t.fields) 0 t.fields.length <;> rfl

/-- what is wrong with the fields -/
def vf (t : GType) : Int :=
  if t.kind = 6 then (if t.fields.length ≠ 1 ∨ (fnm t.fields 0).size ≠ 0 then 1 else 0)
  else if t.kind ≠ 7 then (if 0 < t.fields.length then 1 else 0)
  else if t.fields.length = 0 then 1 else if badN t.fields = true then 4 else if dupN t.fields = true then 5 else 0

def scBad (t : GType) : Prop := t.scale ≠ 0 ∧ (t.kind ≠ 3 ∨ t.scale < 0 ∨ 12 < t.scale)
instance (t : GType) : Decidable (scBad t) := by unfold scBad; infer_instance

/-- what is wrong with a type alone -/
def shp (t : GType) : Int := if t.kind < 1 ∨ 7 < t.kind then 3 else if scBad t then 1 else vf t

theorem vFields {t : GType} (ho : FsOk t.fields) : value_fields t = some (vf t) := by
  unfold value_fields value_fields_j1 vf
  rw [contains1 ho, fields_loop ho]
  simp only [bnd_eq, ift_ite]
  by_cases h6 : t.kind = 6
  · simp only [h6, beq_self_eq_true, if_true]
    by_cases hl : t.fields.length = 1
    · have : (0 : Nat) < t.fields.length := by omega
      rw [show at? t.fields (0 : Int) = some t.fields[0] from at_nat (i := 0) this]
      simp only [hl, bnd_eq, size_zero, fnm_at this]
      by_cases hz : t.fields[0].name.size = 0 <;> simp [hz]
    · simp [hl, show ((t.fields.length : Int) = 1) = False from eq_false (by omega)]
  · by_cases h7 : t.kind = 7
    · simp [h7]
      by_cases hl : t.fields = []
      · simp [hl]
      · simp [hl]
        by_cases hb : badN t.fields = true
        · simp [hb]
        · simp [hb]
    · simp [h6, h7]
      by_cases hl : 0 < t.fields.length
      · simp [hl]
      · simp [hl]

theorem rShape {t : GType} (ho : FsOk t.fields) : ref1_shape t = some (shp t) := by
  have hj3 : ∀ x, ref1_shape_j3 t x = if x = true then some 1 else if t.kind ≠ 7 then some 0 else some (if badN t.fields = true then 4 else if dupN t.fields = true then 5 else 0) := by
    intro x
    unfold ref1_shape_j3
    rw [shape_l1 ho]
    cases x <;> simp [ift_ite]
  have hleaf : ref1_Leaf t.kind = some (decide (t.kind ≠ 6 ∧ t.kind ≠ 7)) := by
    unfold ref1_Leaf ref1_Leaf_j1
    by_cases h6 : t.kind = 6 <;> by_cases h7 : t.kind = 7 <;> simp [h6, h7, ift_ite]
  have hj1 : ∀ x, ref1_shape_j1 t x = if x = true then some 1 else some (vf t) := by
    intro x
    cases x with
    | true => rfl
    | false =>
      unfold ref1_shape_j1 ref1_shape_j2 vf
      rw [hleaf]
      simp only [ift_ite, bnd_eq, hj3]
      by_cases h6 : t.kind = 6
      · simp only [h6, beq_self_eq_true, if_true]
        by_cases hl : t.fields.length = 1
        · have : (0 : Nat) < t.fields.length := by omega
          rw [show at? t.fields (0 : Int) = some t.fields[0] from at_nat (i := 0) this]
          simp only [hl, bnd_eq, size_zero, fnm_at this]
          by_cases hz : t.fields[0].name.size = 0 <;> simp [hz]
        · simp [hl, show ((t.fields.length : Int) = 1) = False from eq_false (by omega)]
      · by_cases h7 : t.kind = 7
        · simp [h7]
          by_cases hl : t.fields = []
          · simp [hl]
          · simp [hl]
        · simp [h6, h7]
          by_cases hl : 0 < t.fields.length
          · simp [hl]
          · simp [hl]
  unfold ref1_shape shp ref1_within ref1_within_j1
  simp only [ift_ite, hj1, bnd_eq]
  by_cases a1 : t.kind < 1
  · simp [a1, show ¬ (1 : Int) ≤ t.kind by omega, bnd_eq]
  · by_cases a2 : 7 < t.kind
    · simp [a2, show (1 : Int) ≤ t.kind by omega, show ¬ t.kind ≤ 7 by omega, bnd_eq]
    · simp only [a1, a2, show (1 : Int) ≤ t.kind by omega, show t.kind ≤ 7 by omega, decide_true, or_self, if_false, if_true, Bool.not_true, bnd_eq]
      unfold scBad
      by_cases h3 : t.kind = 3
      · by_cases b1 : t.scale < 0
        · simp [h3, b1, show ¬ (0 : Int) ≤ t.scale by omega, show t.scale ≠ 0 by omega, bnd_eq]
        · by_cases b2 : 12 < t.scale
          · simp [h3, b1, b2, show (0 : Int) ≤ t.scale by omega, show ¬ t.scale ≤ 12 by omega, show t.scale ≠ 0 by omega, bnd_eq]
          · simp [h3, b1, b2, show (0 : Int) ≤ t.scale by omega, show t.scale ≤ 12 by omega, bnd_eq]
      · by_cases b0 : t.scale = 0 <;> simp [h3, b0]

end Go.Proofs.YtieiahlgllbklaaGreatDoor
namespace Go.Proofs.YtieiahlgllbklaaGreatDoor
open Go Go.SX Go.SX.Cal
set_option linter.unusedVariables false
set_option linter.unusedSimpArgs false

/-- what a checked type is, as far as the common type asks -/
inductive V : GType → Prop where
  | mk (t : GType) (h1 : shp t = 0) (h2 : ∀ f, f ∈ t.fields → V f.type) : V t

theorem leafV (t : GType) : value_leaf t = some (decide (t.kind ≠ 6 ∧ t.kind ≠ 7)) := by
  unfold value_leaf value_leaf_j1
  by_cases h6 : t.kind = 6 <;> by_cases h7 : t.kind = 7 <;> simp [h6, h7, ift_ite]

theorem leafR (k : Int) : ref1_Leaf k = some (decide (k ≠ 6 ∧ k ≠ 7)) := by
  unfold ref1_Leaf ref1_Leaf_j1
  by_cases h6 : k = 6 <;> by_cases h7 : k = 7 <;> simp [h6, h7, ift_ite]

theorem checkJ2 {t : GType} (ho : FsOk t.fields) (q : GType → Int → GChecker → Option (Int × GChecker)) (l z : Int) :
    value_checker_check_j2 q t l z = if shp t ≠ 0 then some (shp t, ⟨z⟩) else value_checker_check_l1 q t l BIG z 0 := by
  have hj4 : ∀ x, value_checker_check_j4 q t l z x = if x = true then some (1, ⟨z⟩) else if vf t ≠ 0 then some (vf t, ⟨z⟩) else value_checker_check_l1 q t l BIG z 0 := by
    intro x
    unfold value_checker_check_j4
    rw [vFields ho]
    cases x <;> simp [ift_ite, bnd_eq]
  unfold value_checker_check_j2 value_checker_check_j3 shp
  simp only [ift_ite, hj4]
  by_cases a1 : t.kind < 1
  · simp [a1]
  · by_cases a2 : 7 < t.kind
    · simp [a1, a2]
    · simp only [a1, a2, decide_false, or_self, if_false, Bool.false_eq_true]
      unfold scBad
      by_cases b0 : t.scale = 0
      · simp [b0]
      · by_cases h3 : t.kind = 3
        · by_cases b1 : t.scale < 0
          · simp [b0, h3, b1]
          · by_cases b2 : 12 < t.scale
            · simp [b0, h3, b1, b2]
            · simp [b0, h3, b1, b2]
        · simp [b0, h3]

theorem checkR1 {t : GType} (ho : FsOk t.fields) (q : GType → Int → Int → Option (Int × Int)) (l z : Int) :
    ref1_checkType_j1 q t l z = if shp t ≠ 0 then some (shp t, z) else ref1_checkType_l1 q t l BIG z 0 := by
  unfold ref1_checkType_j1
  rw [rShape ho]
  simp [ift_ite, bnd_eq]

theorem V_of {t : GType} (h : shp t = 0) (hf : ∀ f ∈ t.fields, V f.type) : V t := .mk t h hf


theorem check_loop {t : GType} (ho : FsOk t.fields) (l : Int) (hl0 : -10 ≤ l) (hl1 : l ≤ 10) (q1 : GType → Int → GChecker → Option (Int × GChecker)) (q2 : GType → Int → Int → Option (Int × Int))
    (hq : ∀ f ∈ t.fields, ∀ n : Int, 0 ≤ n → n ≤ 40 → ∃ e m, q1 f.type (l + 1) ⟨n⟩ = some (e, ⟨m⟩) ∧ q2 f.type (l + 1) n = some (e, m) ∧ 0 ≤ m ∧ m ≤ 40 ∧ (e = 0 → V f.type)) :
    ∀ (kk i : Nat) (n : Int), i ≤ t.fields.length → t.fields.length - i < kk → 0 ≤ n → n ≤ 40 →
      ∃ e m, value_checker_check_l1 q1 t l kk n (i : Int) = some (e, ⟨m⟩) ∧ ref1_checkType_l1 q2 t l kk n (i : Int) = some (e, m) ∧ 0 ≤ m ∧ m ≤ 40 ∧ (e = 0 → ∀ j, i ≤ j → ∀ h : j < t.fields.length, V t.fields[j].type) := by
  intro kk
  induction kk with
  | zero => intro i n _ h; omega
  | succ kk ih =>
    intro i n hi hk n0 n1
    rw [value_checker_check_l1, ref1_checkType_l1]
    by_cases h : i = t.fields.length
    · subst h
      simp only [Int.lt_irrefl, decide_false, ift_false]
      exact ⟨0, n, rfl, rfl, n0, n1, fun _ j h1 h2 => by omega⟩
    · have hlt : i < t.fields.length := by omega
      rw [dec_lt hlt, ift_true, ift_true, at_nat hlt, bnd_eq, bnd_eq, w64 (x := l + 1) (by omega) (by omega), wrap_succ hlt ho.len]
      obtain ⟨e, m, h1, h2, h3, h4, h5⟩ := hq _ (List.getElem_mem hlt) n n0 n1
      rw [h1, h2]
      simp only [bnd_eq, ift_ite]
      by_cases he : e = 0
      · obtain ⟨e', m', g1, g2, g3, g4, g5⟩ := ih (i + 1) m (by omega) (by omega) h3 h4
        refine ⟨e', m', by simpa [he] using g1, by simpa [he] using g2, g3, g4, fun h0 j hj hjl => ?_⟩
        by_cases hji : j = i
        · subst hji; exact h5 he
        · exact g5 h0 j (by omega) hjl
      · exact ⟨e, m, by simp [he], by simp [he], h3, h4, fun h0 => absurd h0 he⟩

theorem check_eq : ∀ (d k : Nat) (t : GType) (l n : Int), l = 5 - d → d ≤ 5 → d < k → sizeT t < 1000000000 → 0 ≤ n → n ≤ 40 →
    ∃ e m, value_checker_check k t l ⟨n⟩ = some (e, ⟨m⟩) ∧ ref1_checkType k t l n = some (e, m) ∧ 0 ≤ m ∧ m ≤ 40 ∧ (e = 0 → V t) := by
  intro d
  induction d with
  | zero =>
    intro k t l n hl _ hk hs n0 n1
    obtain ⟨k, rfl⟩ : ∃ k', k = k' + 1 := ⟨k - 1, by omega⟩
    have hl4 : (4 : Int) < l := by omega
    rw [value_checker_check, ref1_checkType]
    simp only [hl4, decide_true, ift_true, value_checker_check_j1]
    exact ⟨7, n, rfl, rfl, n0, n1, fun h => by omega⟩
  | succ d ih =>
    intro k t l n hl hd hk hs n0 n1
    obtain ⟨k, rfl⟩ : ∃ k', k = k' + 1 := ⟨k - 1, by omega⟩
    have hl4 : ¬ (4 : Int) < l := by omega
    have hsz := sizeT_eq t
    have ho : FsOk t.fields := fsOk_of (by omega)
    have hq : ∀ f ∈ t.fields, ∀ n : Int, 0 ≤ n → n ≤ 40 → ∃ e m, value_checker_check k f.type (l + 1) ⟨n⟩ = some (e, ⟨m⟩) ∧ ref1_checkType k f.type (l + 1) n = some (e, m) ∧ 0 ≤ m ∧ m ≤ 40 ∧ (e = 0 → V f.type) := by
      intro f hf n n0 n1
      have h1 := sizeF_mem hf
      have h2 := sizeFd_eq f
      exact ih k f.type (l + 1) n (by omega) (by omega) (by omega) (by omega) n0 n1
    have main : ∀ z : Int, 0 ≤ z → z ≤ 40 → ∃ e m, value_checker_check_j2 (value_checker_check k) t l z = some (e, ⟨m⟩) ∧ ref1_checkType_j1 (ref1_checkType k) t l z = some (e, m) ∧ 0 ≤ m ∧ m ≤ 40 ∧ (e = 0 → V t) := by
      intro z z0 z1
      rw [checkJ2 ho, checkR1 ho]
      by_cases hsh : shp t = 0
      · obtain ⟨e, m, h1, h2, h3, h4, h5⟩ := check_loop ho l (by omega) (by omega) _ _ hq BIG 0 z (Nat.zero_le _) (by rw [big_val]; have := ho.len; omega) z0 z1
        refine ⟨e, m, by simpa [hsh] using h1, by simpa [hsh] using h2, h3, h4, fun he => V_of hsh (fun f hf => ?_)⟩
        obtain ⟨j, hj, rfl⟩ := List.getElem_of_mem hf
        exact h5 he j (Nat.zero_le _) hj
      · exact ⟨shp t, z, by simp [hsh], by simp [hsh], z0, z1, fun h => absurd h hsh⟩
    rw [value_checker_check, ref1_checkType]
    simp only [hl4, decide_false, ift_false, leafV, leafR, bnd_eq, value_checker_check_j1]
    by_cases hleaf : t.kind ≠ 6 ∧ t.kind ≠ 7
    · simp only [hleaf, ne_eq, not_false_eq_true, and_self, decide_true, ift_true]
      by_cases h40 : n = 40
      · simp only [h40, beq_self_eq_true, ift_true]
        exact ⟨7, 40, rfl, rfl, by omega, by omega, fun h => by omega⟩
      · have : (n == 40) = false := by simpa using h40
        simp only [this, ift_false]
        rw [w64 (x := n + 1) (by omega) (by omega)]
        exact main (n + 1) (by omega) (by omega)
    · simp only [hleaf, decide_false, ift_false]
      exact main n n0 n1

theorem checkType_eq (t : GType) (hs : sizeT t < 1000000000) : ∃ e, value_CheckType t = some e ∧ ref1_CheckType t = some e ∧ (e = 0 → V t) := by
  obtain ⟨e, m, h1, h2, h3, h4, h5⟩ := check_eq 4 BIG t 1 0 (by omega) (by omega) (by rw [big_val]; omega) hs (by omega) (by omega)
  refine ⟨e, ?_, ?_, h5⟩
  · unfold value_CheckType; rw [h1]; rfl
  · unfold ref1_CheckType; rw [h2]; rfl

end Go.Proofs.YtieiahlgllbklaaGreatDoor
namespace Go.Proofs.YtieiahlgllbklaaGreatDoor
open Go Go.SX Go.SX.Cal Go.Lib
set_option linter.unusedVariables false
set_option linter.unusedSimpArgs false

mutual
def sizeV : GValue → Nat
  | ⟨_, _, _, s, it⟩ => s.size + sizeL it + 1
def sizeL : List GValue → Nat
  | [] => 0
  | x :: l => sizeV x + sizeL l
end

theorem sizeV_eq : ∀ v : GValue, sizeV v = v.s.size + sizeL v.items + 1
  | ⟨_, _, _, _, _⟩ => by simp only [sizeV]

theorem sizeL_mem : ∀ {l : List GValue} {x : GValue}, x ∈ l → sizeV x ≤ sizeL l
  | [], _, h => by cases h
  | y :: l, x, h => by
    simp only [sizeL]
    rcases List.mem_cons.1 h with rfl | h
    · omega
    · have := sizeL_mem h; omega

theorem sizeV_pos : ∀ v : GValue, 1 ≤ sizeV v
  | ⟨_, _, _, _, _⟩ => by simp only [sizeV]; omega

theorem sizeL_len : ∀ l : List GValue, l.length ≤ sizeL l
  | [] => by simp [sizeL]
  | x :: l => by
    have := sizeL_len l
    have := sizeV_pos x
    simp only [sizeL, List.length_cons]; omega

theorem ift_and (b x : Bool) : ift b (some x) (some false) = some (b && x) := by cases b <;> rfl
theorem bnd_some' {α β : Type} (a : α) (f : α → Option β) : bnd (some a) f = f a := rfl

theorem first_skip {P : Nat → Bool} {n : Nat} : ∀ (d i : Nat), i + d ≤ n → (∀ j, i ≤ j → j < i + d → P j = false) → first P i n = first P (i + d) n
  | 0, i, _, _ => rfl
  | d + 1, i, h, hP => by
    rw [first_step (by omega), hP i (by omega) (by omega)]
    simp only [Bool.false_eq_true, if_false]
    rw [first_skip d (i + 1) (by omega) (fun j h1 h2 => hP j (by omega) (by omega))]
    congr 1; omega

theorem decode_skip (s : ByteArray) (i : Nat) (h : i < s.size) (hb : ¬ byt s i < 128) :
    1 ≤ (Utf8.decode s i).2 ∧ i + (Utf8.decode s i).2 ≤ s.size ∧ ∀ j, i ≤ j → j < i + (Utf8.decode s i).2 → 128 ≤ byt s j := by
  have e := get_byt s i h
  have one : ∀ j, i ≤ j → j < i + 1 → 128 ≤ byt s j := fun j h1 h2 => by
    have : j = i := by omega
    subst this; omega
  have ct : ∀ k, (decide (i + k < s.size) && (s.get! (i + k)).toNat / 64 == 2) = true → i + k < s.size ∧ 128 ≤ byt s (i + k) := by
    intro k hk
    simp only [Bool.and_eq_true, decide_eq_true_eq, beq_iff_eq] at hk
    rw [get_byt s _ hk.1] at hk
    exact ⟨hk.1, by omega⟩
  unfold Utf8.decode
  simp only [Nat.add_zero, e, if_neg hb]
  split
  · rename_i h1
    simp only [Bool.and_eq_true] at h1
    obtain ⟨l1, b1⟩ := ct 1 (by simpa using h1.2)
    split
    · refine ⟨by simp, by simp only; omega, fun j h2 h3 => ?_⟩
      simp only at h3
      by_cases hj : j = i
      · subst hj; omega
      · have : j = i + 1 := by omega
        subst this; exact b1
    · exact ⟨by simp, by simp only; omega, one⟩
  · split
    · rename_i h1
      simp only [Bool.and_eq_true] at h1
      obtain ⟨l1, b1⟩ := ct 1 (by simpa using h1.1.2)
      obtain ⟨l2, b2⟩ := ct 2 (by simpa using h1.2)
      split
      · refine ⟨by simp, by simp only; omega, fun j h2 h3 => ?_⟩
        simp only at h3
        by_cases hj : j = i
        · subst hj; omega
        · by_cases hj : j = i + 1
          · subst hj; exact b1
          · have : j = i + 2 := by omega
            subst this; exact b2
      · exact ⟨by simp, by simp only; omega, one⟩
    · split
      · rename_i h1
        simp only [Bool.and_eq_true] at h1
        obtain ⟨l1, b1⟩ := ct 1 (by simpa using h1.1.1.2)
        obtain ⟨l2, b2⟩ := ct 2 (by simpa using h1.1.2)
        obtain ⟨l3, b3⟩ := ct 3 (by simpa using h1.2)
        split
        · refine ⟨by simp, by simp only; omega, fun j h2 h3 => ?_⟩
          simp only at h3
          by_cases hj : j = i
          · subst hj; omega
          · by_cases hj : j = i + 1
            · subst hj; exact b1
            · by_cases hj : j = i + 2
              · subst hj; exact b2
              · have : j = i + 3 := by omega
                subst this; exact b3
        · exact ⟨by simp, by simp only; omega, one⟩
      · exact ⟨by simp, by simp only; omega, one⟩

/-- a byte that is a control character -/
def ctl (s : ByteArray) (i : Nat) : Bool := decide (byt s i < 32) || byt s i == 127

theorem vtext_loop (s : ByteArray) : ∀ k i, i ≤ s.size → s.size - i < k → value_text_l1 s k i = some (first (ctl s) i s.size).isNone := by
  intro k
  induction k with
  | zero => intro i _ h; omega
  | succ k ih =>
    intro i hi hk
    rw [value_text_l1]
    by_cases h : i = s.size
    · subst h
      rw [first_end]
      simp only [Nat.lt_irrefl, decide_false, ift_false, value_text_j3]
      rfl
    · have hlt : i < s.size := by omega
      simp only [hlt, decide_true, ift_true, value_text_j2, ift_ite]
      by_cases hb : byt s i < 128
      · rw [decode_lo s i hlt hb, first_step hlt]
        by_cases h1 : byt s i < 32
        · have : ctl s i = true := by simp [ctl, h1]
          simp [this, show ((byt s i : Nat) : Int) < 32 by omega]
        · have e1 : ¬ ((byt s i : Nat) : Int) < 32 := by omega
          by_cases h2 : byt s i = 127
          · have : ctl s i = true := by simp [ctl, h2]
            simp [this, h2]
          · have : ctl s i = false := by simp [ctl, h1, h2]
            have e2 : ¬ ((byt s i : Nat) : Int) = 127 := by omega
            simp only [this, Int.ofNat_eq_natCast, e1, decide_false, Bool.false_eq_true, if_false, beq_iff_eq, e2]
            exact ih (i + 1) (by omega) (by omega)
      · have h1 := decode_hi s i hlt hb
        obtain ⟨h2, h3, h4⟩ := decode_skip s i hlt hb
        have e1 : ¬ (((Utf8.decode s i).1 : Nat) : Int) < 32 := by omega
        have e2 : ¬ (((Utf8.decode s i).1 : Nat) : Int) = 127 := by omega
        simp only [Int.ofNat_eq_natCast, e1, decide_false, Bool.false_eq_true, if_false, beq_iff_eq, e2]
        rw [ih _ h3 (by omega), first_skip _ i h3 (fun j a b => by
          have := h4 j a b
          simp only [ctl, Bool.or_eq_false_iff, decide_eq_false_iff_not, beq_eq_false_iff_ne]
          omega)]
        simp

theorem rchar_loop (s : ByteArray) (hs : s.size < 1000000000) : ∀ k i, i ≤ s.size → s.size - i < k → ref1_characters_l1 s k (i : Int) = some (first (ctl s) i s.size).isNone := by
  intro k
  induction k with
  | zero => intro i _ h; omega
  | succ k ih =>
    intro i hi hk
    rw [ref1_characters_l1]
    by_cases h : i = s.size
    · subst h
      rw [first_end]
      simp only [Int.lt_irrefl, decide_false, ift_false, ref1_characters_j3]
      rfl
    · have hlt : i < s.size := by omega
      have g : (0 : Int) ≤ (i : Int) ∧ (i : Int) < (s.size : Int) := ⟨by omega, by omega⟩
      have e : ((s.data.toList.getD (i : Int).toNat 0).toNat : Int) = (byt s i : Int) := by simp [byt]
      simp only [dec_lt hlt, ift_true, grd, if_pos g, bnd_some', ref1_characters_j2, ift_ite, e]
      rw [first_step hlt, wrap_succ hlt hs]
      by_cases h1 : byt s i < 32
      · have : ctl s i = true := by simp [ctl, h1]
        simp [this, show ((byt s i : Nat) : Int) < 32 by omega]
      · have e1 : ¬ ((byt s i : Nat) : Int) < 32 := by omega
        by_cases h2 : byt s i = 127
        · have : ctl s i = true := by simp [ctl, h2]
          simp [this, h2]
        · have : ctl s i = false := by simp [ctl, h1, h2]
          have e2 : ¬ ((byt s i : Nat) : Int) = 127 := by omega
          simp only [this, e1, decide_false, Bool.false_eq_true, if_false, beq_iff_eq, e2]
          exact ih (i + 1) (by omega) (by omega)

/-- a text of a Text -/
def textOk (s : ByteArray) : Bool := decide (s.size ≤ 256) && (validD s.data.toList && (first (ctl s) 0 s.size).isNone)

theorem validS (s : ByteArray) (hs : s.size < 1000000000) : utf8_ValidString s = some (validD s.data.toList) := by
  unfold utf8_ValidString grd
  rw [if_pos (by omega)]

theorem vText (s : ByteArray) (hs : s.size < 1000000000) : value_text s = some (textOk s) := by
  unfold value_text value_text_j1 textOk
  rw [validS s hs, vtext_loop s BIG 0 (by omega) (by rw [big_val]; omega)]
  by_cases h : s.size ≤ 256
  · have : ¬ (256 : Int) < (s.size : Int) := by omega
    simp only [this, h, decide_false, decide_true, ift_false, bnd_some']
    cases validD s.data.toList <;> rfl
  · have : (256 : Int) < (s.size : Int) := by omega
    simp only [this, h, decide_false, decide_true, ift_true]
    rfl

theorem rChars (s : ByteArray) (hs : s.size < 1000000000) : ref1_characters s = some (textOk s) := by
  have := rchar_loop s hs BIG 0 (by omega) (by rw [big_val]; omega)
  unfold ref1_characters ref1_characters_j1 textOk
  rw [validS s hs, show (0 : Int) = ((0 : Nat) : Int) from rfl, this]
  by_cases h : s.size ≤ 256
  · have e : ¬ (256 : Int) < (s.size : Int) := by omega
    simp only [e, h, decide_false, decide_true, bnd_some']
    cases validD s.data.toList <;> rfl
  · have e : (256 : Int) < (s.size : Int) := by omega
    simp only [e, h, decide_false, decide_true, bnd_some']
    cases validD s.data.toList <;> rfl

theorem vWithin (a b c : Int) : value_within a b c = some (decide (b ≤ a) && decide (a ≤ c)) := by
  unfold value_within value_within_j1; exact ift_and _ _
theorem rWithin (a b c : Int) : ref1_within a b c = some (decide (b ≤ a) && decide (a ≤ c)) := by
  unfold ref1_within ref1_within_j1; exact ift_and _ _

/-- a value that is sound but for its items -/
def plainOk (v : GValue) : Bool :=
  let bare := v.n == 0 && v.scale == 0
  let noS := decide (v.s.size = 0)
  let noI := ((v.items.length : Int) == 0)
  if v.kind = 0 then bare && (noS && noI)
  else if v.kind = 1 then (decide (0 ≤ v.n) && decide (v.n ≤ 1)) && (v.scale == 0 && (noS && noI))
  else if v.kind = 2 then (decide (-999999999999999999 ≤ v.n) && decide (v.n ≤ 999999999999999999)) && (v.scale == 0 && (noS && noI))
  else if v.kind = 3 then (decide (-999999999999999999 ≤ v.n) && decide (v.n ≤ 999999999999999999)) && ((decide (0 ≤ v.scale) && decide (v.scale ≤ 12)) && (noS && noI))
  else if v.kind = 4 then bare && (textOk v.s && noI)
  else if v.kind = 5 then (decide (-62135596800 ≤ v.n) && decide (v.n ≤ 253402300799)) && (v.scale == 0 && (noS && noI))
  else if v.kind = 6 then bare && (noS && decide ((v.items.length : Int) ≤ 64))
  else if v.kind = 7 then bare && (noS && decide ((0 : Int) < (v.items.length : Int)))
  else false

theorem vPlain (v : GValue) (hs : v.s.size < 1000000000) : value_plain v = some (plainOk v) := by
  have j : ∀ x, value_plain_j1 v x = some (if v.kind = 0 then x && (decide (v.s.size = 0) && ((v.items.length : Int) == 0))
      else if v.kind = 1 then (decide (0 ≤ v.n) && decide (v.n ≤ 1)) && (v.scale == 0 && (decide (v.s.size = 0) && ((v.items.length : Int) == 0)))
      else if v.kind = 2 then (decide (-999999999999999999 ≤ v.n) && decide (v.n ≤ 999999999999999999)) && (v.scale == 0 && (decide (v.s.size = 0) && ((v.items.length : Int) == 0)))
      else if v.kind = 3 then (decide (-999999999999999999 ≤ v.n) && decide (v.n ≤ 999999999999999999)) && ((decide (0 ≤ v.scale) && decide (v.scale ≤ 12)) && (decide (v.s.size = 0) && ((v.items.length : Int) == 0)))
      else if v.kind = 4 then x && (textOk v.s && ((v.items.length : Int) == 0))
      else if v.kind = 5 then (decide (-62135596800 ≤ v.n) && decide (v.n ≤ 253402300799)) && (v.scale == 0 && (decide (v.s.size = 0) && ((v.items.length : Int) == 0)))
      else if v.kind = 6 then x && (decide (v.s.size = 0) && decide ((v.items.length : Int) ≤ 64))
      else if v.kind = 7 then x && (decide (v.s.size = 0) && decide ((0 : Int) < (v.items.length : Int)))
      else false) := by
    intro x
    unfold value_plain_j1 value_plain_j2 value_plain_j3 value_plain_j4 value_plain_j5 value_plain_j6 value_plain_j7 value_plain_j8 value_plain_j9
    simp only [vWithin, vText v.s hs, bnd_some', ift_and, size_zero]
    simp only [ift_ite, beq_iff_eq]
    repeat' split
    all_goals (first | rfl | simp_all)
  unfold value_plain
  rw [j, j]
  unfold plainOk
  cases v.n == 0
  · simp only [ift_false, Bool.false_and]
  · simp only [ift_true, Bool.true_and]

theorem rAlone (v : GValue) (hs : v.s.size < 1000000000) : ref1_alone v = some (plainOk v) := by
  have j : ∀ x, ref1_alone_j1 v x = some (if v.kind = 0 then x && (v.n == 0 && v.scale == 0)
      else if v.kind = 1 then x && ((decide (0 ≤ v.n) && decide (v.n ≤ 1)) && v.scale == 0)
      else if v.kind = 2 then x && ((decide (-999999999999999999 ≤ v.n) && decide (v.n ≤ 999999999999999999)) && v.scale == 0)
      else if v.kind = 3 then x && ((decide (-999999999999999999 ≤ v.n) && decide (v.n ≤ 999999999999999999)) && (decide (0 ≤ v.scale) && decide (v.scale ≤ 12)))
      else if v.kind = 4 then ((v.items.length : Int) == 0) && (v.n == 0 && (v.scale == 0 && textOk v.s))
      else if v.kind = 5 then x && ((decide (-62135596800 ≤ v.n) && decide (v.n ≤ 253402300799)) && v.scale == 0)
      else if v.kind = 6 then decide (v.s.size = 0) && (v.n == 0 && (v.scale == 0 && decide ((v.items.length : Int) ≤ 64)))
      else if v.kind = 7 then decide (v.s.size = 0) && (v.n == 0 && (v.scale == 0 && decide ((0 : Int) < (v.items.length : Int))))
      else false) := by
    intro x
    unfold ref1_alone_j1 ref1_alone_j2 ref1_alone_j3 ref1_alone_j4 ref1_alone_j5 ref1_alone_j6 ref1_alone_j7 ref1_alone_j8 ref1_alone_j9
    simp only [rWithin, rChars v.s hs, bnd_some', ift_and, size_zero]
    simp only [ift_ite, beq_iff_eq]
    repeat' split
    all_goals (first | rfl | simp_all)
  unfold ref1_alone
  rw [j, j, size_zero]
  unfold plainOk
  generalize decide (v.s.size = 0) = a
  generalize ((v.items.length : Int) == 0) = b
  generalize textOk v.s = t
  generalize (v.n == 0) = c
  generalize (v.scale == 0) = d
  generalize (decide (0 ≤ v.n) && decide (v.n ≤ 1)) = e1
  generalize (decide (-999999999999999999 ≤ v.n) && decide (v.n ≤ 999999999999999999)) = e2
  generalize (decide (0 ≤ v.scale) && decide (v.scale ≤ 12)) = e3
  generalize (decide (-62135596800 ≤ v.n) && decide (v.n ≤ 253402300799)) = e4
  generalize decide ((v.items.length : Int) ≤ 64) = e5
  generalize decide ((0 : Int) < (v.items.length : Int)) = e6
  cases a <;> simp only [ift_false, ift_true] <;> congr 1 <;> repeat' split
  all_goals (first | rfl | (cases b <;> cases c <;> cases d <;> simp <;> done) | (simp [Bool.and_comm, Bool.and_assoc, Bool.and_left_comm]))

/-- items one after the other, as long as they are sound -/
def soundL (f : GValue → Int → Bool × Int) : List GValue → Int → Bool × Int
  | [], z => (true, z)
  | v :: l, z => if (f v z).1 = true then soundL f l (f v z).2 else (false, (f v z).2)

def cnt (v : GValue) (z : Int) : Int := if v.kind = 0 then z else z + 1

/-- d: how many levels are left -/
def soundD : Nat → GValue → Int → Bool × Int
  | 0, v, z => (false, cnt v z)
  | d + 1, v, z => if 256 < cnt v z ∨ plainOk v = false then (false, cnt v z) else soundL (soundD d) v.items (cnt v z)

def soundB (v : GValue) : Bool := (soundD 4 v 0).1

theorem soundL_le {f : GValue → Int → Bool × Int} : ∀ {l : List GValue} {z : Int}, (∀ v ∈ l, ∀ z, 0 ≤ z → z ≤ 256 → 0 ≤ (f v z).2 ∧ (f v z).2 ≤ 257 ∧ ((f v z).1 = true → (f v z).2 ≤ 256)) → 0 ≤ z → z ≤ 256 →
    0 ≤ (soundL f l z).2 ∧ (soundL f l z).2 ≤ 257 ∧ ((soundL f l z).1 = true → (soundL f l z).2 ≤ 256)
  | [], z, _, h0, h1 => by simp only [soundL]; omega
  | v :: l, z, hf, h0, h1 => by
    obtain ⟨a, b, c⟩ := hf v (by simp) z h0 h1
    simp only [soundL]
    split
    · rename_i h
      exact soundL_le (fun x hx => hf x (by simp [hx])) a (c h)
    · exact ⟨a, b, fun h => by cases h⟩

theorem soundD_le : ∀ (d : Nat) (v : GValue) (z : Int), 0 ≤ z → z ≤ 256 → 0 ≤ (soundD d v z).2 ∧ (soundD d v z).2 ≤ 257 ∧ ((soundD d v z).1 = true → (soundD d v z).2 ≤ 256)
  | 0, v, z, h0, h1 => by
    have hc : z ≤ cnt v z ∧ cnt v z ≤ z + 1 := by unfold cnt; split <;> omega
    simp only [soundD]
    exact ⟨by omega, by omega, fun h => by cases h⟩
  | d + 1, v, z, h0, h1 => by
    have hc : z ≤ cnt v z ∧ cnt v z ≤ z + 1 := by unfold cnt; split <;> omega
    simp only [soundD]
    split
    · exact ⟨by omega, by omega, fun h => by cases h⟩
    · rename_i h
      have : ¬ 256 < cnt v z := fun e => h (.inl e)
      exact soundL_le (fun x _ => soundD_le d x) (by omega) (by omega)

theorem cnt_wrap (v : GValue) (z : Int) (h0 : 0 ≤ z) (h1 : z ≤ 256) {β : Type} (f : Int → Option β) : ift (v.kind != (0 : Int)) (f (IntKind.i64.wrap (z + 1))) (f z) = f (cnt v z) := by
  rw [w64 (by omega) (by omega)]
  unfold cnt
  by_cases h : v.kind = 0
  · simp [h, ift_ite]
  · simp [h, ift_ite]

theorem vsound_loop {d : Nat} (l : Int) (q : GValue → Int → Int → Option (Bool × Int)) (xs : List GValue) (hl : xs.length < 1000000000)
    (hq : ∀ v ∈ xs, ∀ z, 0 ≤ z → z ≤ 256 → q v l z = some (!(soundD d v z).1, (soundD d v z).2)) : ∀ (k i : Nat) (z : Int), i ≤ xs.length → xs.length - i < k → 0 ≤ z → z ≤ 256 →
    ∃ r : Int, slices_IndexFunc_api_Value_api_Value_of_value_sound_1_l1 q xs l k z (i : Int) = some (r, (soundL (soundD d) (xs.drop i) z).2) ∧ decide (0 ≤ r) = !(soundL (soundD d) (xs.drop i) z).1 := by
  intro k
  induction k with
  | zero => intro i z _ h; omega
  | succ k ih =>
    intro i z hi hk h0 h1
    rw [slices_IndexFunc_api_Value_api_Value_of_value_sound_1_l1]
    by_cases h : i = xs.length
    · subst h
      simp only [Int.lt_irrefl, decide_false, ift_false, List.drop_length, soundL, slices_IndexFunc_api_Value_api_Value_of_value_sound_1_j1]
      exact ⟨-1, rfl, rfl⟩
    · have hlt : i < xs.length := by omega
      have hm : xs[i] ∈ xs := List.getElem_mem hlt
      simp only [dec_lt hlt, ift_true, at_nat hlt, bnd_some', hq _ hm z h0 h1]
      rw [List.drop_eq_getElem_cons hlt]
      simp only [soundL]
      obtain ⟨a, b, c⟩ := soundD_le d xs[i] z h0 h1
      cases hs : (soundD d xs[i] z).1 with
      | false =>
        simp only [Bool.not_false, ift_true, Bool.false_eq_true, if_false]
        exact ⟨_, rfl, by simp⟩
      | true =>
        simp only [Bool.not_true, ift_false, if_true]
        rw [wrap_succ hlt hl]
        exact ih (i + 1) _ (by omega) (by omega) a (c hs)

theorem vsound_eq : ∀ (d k : Nat) (v : GValue) (z : Int), d ≤ 4 → 4 * d + 4 ≤ k → sizeV v < 1000000000 → 0 ≤ z → z ≤ 256 → value_sound k v (5 - d : Int) z = some (soundD d v z) := by
  intro d
  induction d with
  | zero =>
    intro k v z _ hk hs h0 h1
    obtain ⟨k, rfl⟩ : ∃ q, k = q + 1 := ⟨k - 1, by omega⟩
    rw [value_sound, cnt_wrap v z h0 h1]
    unfold value_sound_j1 value_sound_j2
    simp [soundD, ift_true]
  | succ d ih =>
    intro k v z hd hk hs h0 h1
    obtain ⟨k, rfl⟩ : ∃ q, k = q + 4 := ⟨k - 4, by omega⟩
    have hsz := sizeV_eq v
    have hlen := sizeL_len v.items
    rw [value_sound, cnt_wrap v z h0 h1]
    unfold value_sound_j1 value_sound_j2
    rw [vPlain v (by omega)]
    have e4 : ¬ (4 : Int) < 5 - ((d + 1 : Nat) : Int) := by omega
    have hc : z ≤ cnt v z ∧ cnt v z ≤ z + 1 := by unfold cnt; split <;> omega
    simp only [e4, decide_false, ift_false, soundD, bnd_some']
    by_cases h2 : (256 : Int) < cnt v z
    · simp [h2, ift_true]
    · cases hp : plainOk v with
      | false => simp [h2, ift_true, ift_false]
      | true =>
        simp only [h2, decide_false, ift_false, Bool.not_true, false_or, Bool.true_eq_false, if_false]
        have := vsound_loop (d := d) (5 - ((d + 1 : Nat) : Int)) (value_sound_1_s (k + 1)) v.items (by omega) (by
          intro x hx z h0 h1
          have := sizeL_mem hx
          rw [value_sound_1_s, w64 (by omega) (by omega), show (5 - ((d + 1 : Nat) : Int) + 1) = 5 - (d : Int) by omega, ih k x z (by omega) (by omega) (by omega) h0 h1]
          rfl) BIG 0 (cnt v z) (by omega) (by rw [big_val]; omega) (by omega) (by omega)
        obtain ⟨r, e1, e2⟩ := this
        rw [show ((0 : Nat) : Int) = (0 : Int) from rfl] at e1
        rw [slices_ContainsFunc_api_Value_api_Value_of_value_sound_1, slices_IndexFunc_api_Value_api_Value_of_value_sound_1, e1]
        simp only [bnd_some', e2, List.drop_zero, Bool.not_not]

theorem vSound (v : GValue) (hs : sizeV v < 1000000000) : value_Sound v = some (soundB v) := by
  unfold value_Sound soundB
  have := vsound_eq 4 BIG v 0 (by omega) (by rw [big_val]; omega) hs (by omega) (by omega)
  rw [show (5 - ((4 : Nat) : Int)) = (1 : Int) from rfl] at this
  rw [this]; rfl

theorem rsound_loop {d : Nat} (l : Int) (hl0 : 0 ≤ l) (hl1 : l ≤ 100) (q : GValue → Int → Int → Option (Bool × Int)) (v : GValue) (hl : v.items.length < 1000000000)
    (hq : ∀ x ∈ v.items, ∀ z, 0 ≤ z → z ≤ 256 → q x (l + 1) z = some (soundD d x z)) : ∀ (k i : Nat) (z : Int), i ≤ v.items.length → v.items.length - i < k → 0 ≤ z → z ≤ 256 →
    ref1_sound_l1 q v l k z (i : Int) = some (soundL (soundD d) (v.items.drop i) z) := by
  intro k
  induction k with
  | zero => intro i z _ h; omega
  | succ k ih =>
    intro i z hi hk h0 h1
    rw [ref1_sound_l1]
    by_cases h : i = v.items.length
    · subst h
      simp only [Int.lt_irrefl, decide_false, ift_false, List.drop_length, soundL, ref1_sound_j3]
    · have hlt : i < v.items.length := by omega
      have hm : v.items[i] ∈ v.items := List.getElem_mem hlt
      rw [w64 (x := l + 1) (by omega) (by omega)]
      simp only [dec_lt hlt, ift_true, at_nat hlt, bnd_some', hq _ hm z h0 h1]
      rw [List.drop_eq_getElem_cons hlt]
      simp only [soundL]
      obtain ⟨a, b, c⟩ := soundD_le d v.items[i] z h0 h1
      cases hs : (soundD d v.items[i] z).1 with
      | false => simp only [Bool.not_false, ift_true, Bool.false_eq_true, if_false]
      | true =>
        simp only [Bool.not_true, ift_false, if_true]
        rw [wrap_succ hlt hl]
        exact ih (i + 1) _ (by omega) (by omega) a (c hs)

theorem rsound_eq : ∀ (d k : Nat) (v : GValue) (z : Int), d ≤ 4 → d + 1 ≤ k → sizeV v < 1000000000 → 0 ≤ z → z ≤ 256 → ref1_sound k v (5 - d : Int) z = some (soundD d v z) := by
  intro d
  induction d with
  | zero =>
    intro k v z _ hk hs h0 h1
    obtain ⟨k, rfl⟩ : ∃ q, k = q + 1 := ⟨k - 1, by omega⟩
    rw [ref1_sound, cnt_wrap v z h0 h1]
    unfold ref1_sound_j1 ref1_sound_j2
    simp [soundD, ift_true]
  | succ d ih =>
    intro k v z hd hk hs h0 h1
    obtain ⟨k, rfl⟩ : ∃ q, k = q + 1 := ⟨k - 1, by omega⟩
    have hsz := sizeV_eq v
    have hlen := sizeL_len v.items
    rw [ref1_sound, cnt_wrap v z h0 h1]
    unfold ref1_sound_j1 ref1_sound_j2
    rw [rAlone v (by omega)]
    have e4 : ¬ (4 : Int) < 5 - ((d + 1 : Nat) : Int) := by omega
    have hc : z ≤ cnt v z ∧ cnt v z ≤ z + 1 := by unfold cnt; split <;> omega
    simp only [e4, decide_false, ift_false, soundD, bnd_some']
    by_cases h2 : (256 : Int) < cnt v z
    · simp [h2, ift_true]
    · cases hp : plainOk v with
      | false => simp [h2, ift_true, ift_false]
      | true =>
        simp only [h2, decide_false, ift_false, Bool.not_true, false_or, Bool.true_eq_false, if_false]
        have := rsound_loop (d := d) (5 - ((d + 1 : Nat) : Int)) (by omega) (by omega) (ref1_sound k) v (by omega) (by
          intro x hx z h0 h1
          have := sizeL_mem hx
          rw [show (5 - ((d + 1 : Nat) : Int) + 1) = 5 - (d : Int) by omega]
          exact ih k x z (by omega) (by omega) (by omega) h0 h1) BIG 0 (cnt v z) (by omega) (by rw [big_val]; omega) (by omega) (by omega)
        rw [show ((0 : Nat) : Int) = (0 : Int) from rfl, List.drop_zero] at this
        exact this

theorem rSound (v : GValue) (hs : sizeV v < 1000000000) : ref1_Sound v = some (soundB v) := by
  unfold ref1_Sound soundB
  have := rsound_eq 4 BIG v 0 (by omega) (by rw [big_val]; omega) hs (by omega) (by omega)
  rw [show (5 - ((4 : Nat) : Int)) = (1 : Int) from rfl] at this
  rw [this]; rfl

end Go.Proofs.YtieiahlgllbklaaGreatDoor
namespace Go.Proofs.YtieiahlgllbklaaGreatDoor
open Go Go.SX Go.SX.Cal Go.Lib
set_option linter.unusedVariables false
set_option linter.unusedSimpArgs false

/-- sound within d levels -/
def Snd (d : Nat) (v : GValue) : Prop := ∃ z, (soundD d v z).1 = true

theorem soundL_mem {f : GValue → Int → Bool × Int} : ∀ {l : List GValue} {z : Int}, (soundL f l z).1 = true → ∀ x ∈ l, ∃ z', (f x z').1 = true
  | [], _, _, x, hx => by cases hx
  | v :: l, z, h, x, hx => by
    simp only [soundL] at h
    by_cases hv : (f v z).1 = true
    · rw [if_pos hv] at h
      rcases List.mem_cons.1 hx with rfl | hx
      · exact ⟨z, hv⟩
      · exact soundL_mem h x hx
    · rw [if_neg hv] at h; cases h

theorem Snd.zero {v : GValue} (h : Snd 0 v) : False := by obtain ⟨z, h⟩ := h; cases h

theorem Snd.succ {d : Nat} {v : GValue} (h : Snd (d + 1) v) : plainOk v = true ∧ ∀ x ∈ v.items, Snd d x := by
  obtain ⟨z, h⟩ := h
  simp only [soundD] at h
  by_cases hc : 256 < cnt v z ∨ plainOk v = false
  · rw [if_pos hc] at h; cases h
  · rw [if_neg hc] at h
    refine ⟨?_, fun x hx => soundL_mem h x hx⟩
    cases hp : plainOk v with
    | true => rfl
    | false => exact absurd (.inr hp) hc

theorem plain_scale {v : GValue} (h : plainOk v = true) (hk : v.kind ≠ 3) : v.scale = 0 := by
  unfold plainOk at h
  simp only at h
  split at h
  · simp at h; exact h.1.2
  · split at h
    · simp at h; exact h.2.1
    · split at h
      · simp at h; exact h.2.1
      · split at h
        · simp at h; exact h.1.2
        · split at h
          · simp at h; exact h.2.1
          · split at h
            · simp at h; exact h.1.2
            · split at h
              · simp at h; exact h.1.2
              · cases h

theorem plain_items {v : GValue} (h : plainOk v = true) (h6 : v.kind ≠ 6) (h7 : v.kind ≠ 7) : v.items = [] := by
  unfold plainOk at h
  simp only at h
  rw [← List.length_eq_zero_iff]
  split at h
  · simp at h; simp [h.2.2]
  · split at h
    · simp at h; simp [h.2.2.2]
    · split at h
      · simp at h; simp [h.2.2.2]
      · split at h
        · simp at h; simp [h.2.2.2]
        · split at h
          · simp at h; simp [h.2.2]
          · split at h
            · simp at h; simp [h.2.2.2]
            · cases h

theorem V.sh {t : GType} (h : V t) : shp t = 0 := by cases h; assumption
theorem V.fs {t : GType} (h : V t) : ∀ f, f ∈ t.fields → V f.type := by cases h; assumption

theorem V.scale {t : GType} (h : V t) (hk : t.kind ≠ 3) : t.scale = 0 := by
  have := h.sh
  unfold shp at this
  split at this
  · cases this
  · by_cases h2 : scBad t
    · rw [if_pos h2] at this; cases this
    · by_cases hs : t.scale = 0
      · exact hs
      · exact absurd ⟨hs, .inl hk⟩ h2

theorem V.list {t : GType} (h : V t) (hk : t.kind = 6) : t.fields.length = 1 := by
  have := h.sh
  unfold shp at this
  split at this
  · cases this
  · by_cases h2 : scBad t
    · rw [if_pos h2] at this; cases this
    · rw [if_neg h2] at this
      unfold vf at this
      rw [if_pos hk] at this
      split at this
      · cases this
      · rename_i h3
        by_cases hl : t.fields.length = 1
        · exact hl
        · exact absurd (.inl hl) h3

def ft (t : GType) (i : Nat) : GType := (t.fields[if t.kind = 6 then 0 else i]?.map (·.type)).getD ⟨0, 0, []⟩
def nd (t : GType) (i : Nat) : Bool := (t.fields[if t.kind = 6 then 0 else i]?.map (·.need)).getD false
def iv (v : GValue) (i : Nat) : GValue := v.items[i]?.getD ⟨0, 0, 0, ByteArray.empty, []⟩

theorem iv_at {v : GValue} {i : Nat} (h : i < v.items.length) : v.items[i] = iv v i := by simp [iv, h]

/-- a sound value is of a right type -/
def ofD : Nat → GType → GValue → Bool
  | 0, _, _ => true
  | d + 1, t, v =>
    if v.kind = 0 then true
    else if v.kind ≠ t.kind then false
    else if v.kind = 3 then v.scale == t.scale
    else if v.kind = 7 ∧ t.fields.length ≠ v.items.length then false
    else (first (fun i => !ofD d (ft t i) (iv v i)) 0 v.items.length).isNone

/-- there is room: a field for every item -/
def Fit (t : GType) (v : GValue) : Prop := ∀ i, i < v.items.length → (if t.kind = 6 then 0 else i) < t.fields.length

theorem fit_of {d : Nat} {t : GType} {v : GValue} (hs : Snd (d + 1) v) (ht : V t) (h : ofD (d + 1) t v = true) : Fit t v ∧ ∀ i, i < v.items.length → ofD d (ft t i) (iv v i) = true := by
  obtain ⟨hp, _⟩ := hs.succ
  by_cases h67 : v.kind = 6 ∨ v.kind = 7
  · simp only [ofD] at h
    rw [if_neg (by omega)] at h
    by_cases hk : v.kind = t.kind
    · rw [if_neg (fun hh => hh hk), if_neg (by omega)] at h
      by_cases hl : v.kind = 7 ∧ t.fields.length ≠ v.items.length
      · rw [if_pos hl] at h; cases h
      · rw [if_neg hl] at h
        have hn := Option.isNone_iff_eq_none.1 h
        rw [first_none] at hn
        refine ⟨fun i hi => ?_, fun i hi => by simpa using hn i (Nat.zero_le _) hi⟩
        by_cases h6 : t.kind = 6
        · rw [if_pos h6, ht.list h6]; omega
        · rw [if_neg h6]
          have : ¬ t.fields.length ≠ v.items.length := fun hh => hl ⟨by omega, hh⟩
          omega
    · rw [if_pos hk] at h; cases h
  · have : v.items = [] := plain_items hp (by omega) (by omega)
    refine ⟨fun i hi => ?_, fun i hi => ?_⟩
    · rw [this] at hi; simp at hi
    · rw [this] at hi; simp at hi

theorem ft_at {t : GType} {i : Nat} (h : (if t.kind = 6 then 0 else i) < t.fields.length) : ∃ f : GField, f ∈ t.fields ∧ t.fields[if t.kind = 6 then 0 else i]? = some f ∧ f.type = ft t i ∧ f.need = nd t i := by
  refine ⟨t.fields[if t.kind = 6 then 0 else i], List.getElem_mem h, List.getElem?_eq_getElem h, ?_, ?_⟩
  · unfold ft; rw [List.getElem?_eq_getElem h]; rfl
  · unfold nd; rw [List.getElem?_eq_getElem h]; rfl

theorem at_some {α : Type} {xs : List α} {i : Nat} {x : α} (h : xs[i]? = some x) : at? xs (i : Int) = some x := by unfold at?; simp [h]

theorem iv_mem {v : GValue} {i : Nat} (h : i < v.items.length) : iv v i ∈ v.items := by rw [← iv_at h]; exact List.getElem_mem h

theorem of_eq : ∀ (d k k' : Nat) (t : GType) (v : GValue), Snd d v → V t → sizeV v < 1000000000 → sizeT t < 1000000000 → 4 * d + 1 ≤ k → d + 1 ≤ k' →
    value_of k t v = some (ofD d t v) ∧ ref1_of k' t v = some (ofD d t v) := by
  intro d
  induction d with
  | zero => intro k k' t v hs; exact hs.zero.elim
  | succ d ih =>
    intro k k' t v hs ht hv hT hk hk'
    obtain ⟨k, rfl⟩ : ∃ q, k = q + 4 := ⟨k - 4, by omega⟩
    obtain ⟨k', rfl⟩ : ∃ q, k' = q + 1 := ⟨k' - 1, by omega⟩
    obtain ⟨hp, hi⟩ := hs.succ
    have hsz := sizeV_eq v
    have hlen := sizeL_len v.items
    have hsT := sizeT_eq t
    have hlF := sizeF_len t.fields
    rw [value_of, ref1_of]
    simp only [ofD, ref1_of_j1]
    by_cases h0 : v.kind = 0
    · simp [h0, ift_ite]
    · by_cases hkk : v.kind = t.kind
      · have sc : v.kind ≠ 3 → v.scale = t.scale := fun h => by rw [plain_scale hp h, ht.scale (by omega)]
        -- the items
        have room : ¬ (v.kind = 7 ∧ t.fields.length ≠ v.items.length) → Fit t v := by
          intro hn i hi
          by_cases h6 : t.kind = 6
          · rw [if_pos h6, ht.list h6]; omega
          · rw [if_neg h6]
            by_cases h7 : v.kind = 7
            · have : ¬ t.fields.length ≠ v.items.length := fun hh => hn ⟨h7, hh⟩
              omega
            · rw [plain_items hp (by omega) h7] at hi; simp at hi
        have sub : Fit t v → ∀ i, i < v.items.length → ∃ f : GField, t.fields[if t.kind = 6 then 0 else i]? = some f ∧ f.type = ft t i ∧ value_of k (ft t i) (iv v i) = some (ofD d (ft t i) (iv v i)) ∧ ref1_of k' (ft t i) (iv v i) = some (ofD d (ft t i) (iv v i)) := by
          intro hf i hi'
          obtain ⟨f, f1, f2, f3, _⟩ := ft_at (hf i hi')
          have m1 := sizeL_mem (iv_mem hi')
          have m2 := sizeF_mem f1
          have m3 := sizeFd_eq f
          rw [f3] at m3
          obtain ⟨a, b⟩ := ih k k' (ft t i) (iv v i) (hi _ (iv_mem hi')) (by rw [← f3]; exact ht.fs f f1) (by omega) (by omega) (by omega) (by omega)
          exact ⟨f, f2, f3, a, b⟩
        have ref : Fit t v → ref1_of_l1 (ref1_of k') t v BIG (0 : Int) = some (first (fun i => !ofD d (ft t i) (iv v i)) 0 v.items.length).isNone := by
          intro hf
          have := search (f := fun k i => ref1_of_l1 (ref1_of k') t v k (i : Int)) (n := v.items.length) (P := fun i => !ofD d (ft t i) (iv v i)) (A := fun _ => some false) (B := some true) (fun kk i hi' => by
            obtain ⟨f, f2, f3, _, f5⟩ := sub hf i hi'
            simp only [ref1_of_l1, dec_lt hi', ift_true, ref1_of_j3]
            have e : ift (t.kind == (6 : Int)) (bnd (at? t.fields (0 : Int)) fun e1 => bnd (at? v.items (i : Int)) fun e2 => bnd (ref1_of k' e1.type e2) fun r1 => ift (!r1) (some false) (ref1_of_l1 (ref1_of k') t v kk (IntKind.i64.wrap ((i : Int) + 1))))
                (bnd (at? t.fields (i : Int)) fun e1 => bnd (at? v.items (i : Int)) fun e2 => bnd (ref1_of k' e1.type e2) fun r1 => ift (!r1) (some false) (ref1_of_l1 (ref1_of k') t v kk (IntKind.i64.wrap ((i : Int) + 1)))) =
                (bnd (at? t.fields ((if t.kind = 6 then 0 else i : Nat) : Int)) fun e1 => bnd (at? v.items (i : Int)) fun e2 => bnd (ref1_of k' e1.type e2) fun r1 => ift (!r1) (some false) (ref1_of_l1 (ref1_of k') t v kk (IntKind.i64.wrap ((i : Int) + 1)))) := by
              by_cases h6 : t.kind = 6 <;> simp [h6, ift_ite]
            rw [e, at_some f2, bnd_some', at_nat hi', bnd_some', f3, iv_at hi', f5, bnd_some', wrap_succ hi' (by omega), ift_ite]) (fun kk => by simp [ref1_of_l1, ift_ite, ref1_of_j4]) BIG 0 (Nat.zero_le _) (by rw [big_val]; omega)
          rw [show ((0 : Nat) : Int) = (0 : Int) from rfl] at this
          rw [this]
          cases first (fun i => !ofD d (ft t i) (iv v i)) 0 v.items.length <;> rfl
        have e0 : (v.kind == (0 : Int)) = false := by simp [h0]
        have e1 : (v.kind != t.kind) = false := by simp [hkk]
        have e2 : ¬ v.kind ≠ t.kind := fun h => h hkk
        simp only [e0, e1, e2, ift_false, h0, if_false]
        by_cases h3 : v.kind = 3
        · have hni : v.items = [] := plain_items hp (by omega) (by omega)
          refine ⟨by simp [h3, ift_ite], ?_⟩
          have hr := ref (fun i hi => by rw [hni] at hi; simp at hi)
          rw [hni] at hr
          simp only [List.length_nil, first_end, Option.isNone_none] at hr
          simp only [h3, if_true, ref1_of_j2]
          by_cases hsc : v.scale = t.scale
          · have : t.kind ≠ 7 := by omega
            simp [hsc, ift_ite, hr, this]
          · simp [hsc, ift_ite]
        · have hsc := sc h3
          have e3 : (v.kind == (3 : Int)) = false := by simp [h3]
          have e4 : (v.scale != t.scale) = false := by simp [hsc]
          simp only [e3, e4, ift_false, h3, if_false]
          by_cases hl : v.kind = 7 ∧ t.fields.length ≠ v.items.length
          · have e6 : (v.kind == (6 : Int)) = false := by simp [hl.1]
            have e7 : (v.kind == (7 : Int)) = true := by simp [hl.1]
            have t7 : (t.kind == (7 : Int)) = true := by rw [← hkk]; exact e7
            have n1 : ((t.fields.length : Int) != (v.items.length : Int)) = true := by simp; omega
            have n2 : ((v.items.length : Int) != (t.fields.length : Int)) = true := by simp; omega
            rw [slices_EqualFunc_api_Field_api_Value_api_Field_api_Value_of_value_of_2]
            simp [e6, e7, t7, n1, n2, hl, ift_true, ift_false, ref1_of_j2, bnd_some']
          · have hf := room hl
            have hr := ref hf
            simp only [hl, if_false]
            refine ⟨?_, ?_⟩
            · by_cases h6 : v.kind = 6
              · have e6 : (v.kind == (6 : Int)) = true := by simp [h6]
                have t6 : t.kind = 6 := by omega
                have := search (f := fun kk i => slices_IndexFunc_api_Value_api_Value_of_value_of_1_l1 (value_of_1_s (k + 1)) v.items t.kind t.scale t.fields kk (i : Int)) (n := v.items.length) (P := fun i => !ofD d (ft t i) (iv v i)) (A := fun i => some (i : Int)) (B := some (-1)) (fun kk i hi' => by
                  obtain ⟨f, f2, f3, f4, _⟩ := sub hf i hi'
                  rw [if_pos t6] at f2
                  simp only [slices_IndexFunc_api_Value_api_Value_of_value_of_1_l1, dec_lt hi', ift_true, at_nat hi', bnd_some', value_of_1_s]
                  rw [show (0 : Int) = ((0 : Nat) : Int) from rfl, at_some f2, bnd_some', f3, iv_at hi', f4, bnd_some', bnd_some', wrap_succ hi' (by omega), ift_ite]) (fun kk => by simp [slices_IndexFunc_api_Value_api_Value_of_value_of_1_l1, ift_ite, slices_IndexFunc_api_Value_api_Value_of_value_of_1_j1]) BIG 0 (Nat.zero_le _) (by rw [big_val]; omega)
                rw [show ((0 : Nat) : Int) = (0 : Int) from rfl] at this
                rw [e6, ift_true, slices_ContainsFunc_api_Value_api_Value_of_value_of_1, slices_IndexFunc_api_Value_api_Value_of_value_of_1, this]
                cases first (fun i => !ofD d (ft t i) (iv v i)) 0 v.items.length <;> simp [bnd_some']
              · have e6 : (v.kind == (6 : Int)) = false := by simp [h6]
                by_cases h7 : v.kind = 7
                · have e7 : (v.kind == (7 : Int)) = true := by simp [h7]
                  have hlen' : t.fields.length = v.items.length := by
                    by_cases hh : t.fields.length = v.items.length
                    · exact hh
                    · exact absurd ⟨h7, hh⟩ hl
                  have n1 : ((t.fields.length : Int) != (v.items.length : Int)) = false := by simp; omega
                  have := search (f := fun kk i => slices_EqualFunc_api_Field_api_Value_api_Field_api_Value_of_value_of_2_l1 (value_of_2 (k + 2)) t.fields v.items kk (i : Int)) (n := v.items.length) (P := fun i => !ofD d (ft t i) (iv v i)) (A := fun _ => some false) (B := some true) (fun kk i hi' => by
                    obtain ⟨f, f2, f3, _, _⟩ := sub hf i hi'
                    obtain ⟨f', f1', f2', f3', _⟩ := ft_at (hf i hi')
                    have m1 := sizeL_mem (iv_mem hi')
                    have m2 := sizeF_mem f1'
                    have m3 := sizeFd_eq f'
                    rw [f3'] at m3
                    have f4 := (ih (k + 1) (d + 1) (ft t i) (iv v i) (hi _ (iv_mem hi')) (by rw [← f3']; exact ht.fs f' f1') (by omega) (by omega) (by omega) (by omega)).1
                    rw [if_neg (by omega)] at f2
                    have hi2 : i < t.fields.length := by omega
                    simp only [slices_EqualFunc_api_Field_api_Value_api_Field_api_Value_of_value_of_2_l1, dec_lt hi2, ift_true, at_some f2, bnd_some', value_of_2]
                    rw [at_nat hi', bnd_some', f3, iv_at hi', f4, bnd_some', bnd_some', wrap_succ hi' (by omega), ift_ite]) (fun kk => by simp [slices_EqualFunc_api_Field_api_Value_api_Field_api_Value_of_value_of_2_l1, ift_ite, slices_EqualFunc_api_Field_api_Value_api_Field_api_Value_of_value_of_2_j1, hlen']) BIG 0 (Nat.zero_le _) (by rw [big_val]; omega)
                  rw [show ((0 : Nat) : Int) = (0 : Int) from rfl] at this
                  rw [e6, e7, ift_false, ift_true, slices_EqualFunc_api_Field_api_Value_api_Field_api_Value_of_value_of_2, n1, ift_false, this]
                  cases first (fun i => !ofD d (ft t i) (iv v i)) 0 v.items.length <;> rfl
                · have e7 : (v.kind == (7 : Int)) = false := by simp [h7]
                  rw [e6, e7, ift_false, ift_false, plain_items hp h6 h7]
                  simp [first_end]
            · have n2 : v.kind = 7 → ((v.items.length : Int) != (t.fields.length : Int)) = false := by
                intro h7
                have : ¬ t.fields.length ≠ v.items.length := fun hh => hl ⟨h7, hh⟩
                simp; omega
              simp only [ref1_of_j2]
              by_cases h7 : v.kind = 7
              · have t7 : (t.kind == (7 : Int)) = true := by simp [← hkk, h7]
                rw [t7, ift_true, n2 h7, ift_false]; exact hr
              · have t7 : (t.kind == (7 : Int)) = false := by simp [← hkk, h7]
                rw [t7, ift_false, ift_false]; exact hr
      · have e0 : (v.kind == (0 : Int)) = false := by simp [h0]
        have e1 : (v.kind != t.kind) = true := by simp [hkk]
        simp [e0, e1, h0, hkk, ift_true, ift_false]

/-- a null where there must be none -/
def lackD : Nat → GType → GValue → Bool
  | 0, _, _ => false
  | d + 1, t, v => (first (fun i => ((iv v i).kind == 0 && nd t i) || lackD d (ft t i) (iv v i)) 0 v.items.length).isSome

theorem lack_eq : ∀ (d k k' : Nat) (t : GType) (v : GValue), Snd d v → V t → ofD d t v = true → sizeV v < 1000000000 → sizeT t < 1000000000 → d + 1 ≤ k → d + 1 ≤ k' →
    value_lacks k t v = some (lackD d t v) ∧ ref1_missing k' t v = some (lackD d t v) := by
  intro d
  induction d with
  | zero => intro k k' t v hs; exact hs.zero.elim
  | succ d ih =>
    intro k k' t v hs ht ho hv hT hk hk'
    obtain ⟨k, rfl⟩ : ∃ q, k = q + 1 := ⟨k - 1, by omega⟩
    obtain ⟨k', rfl⟩ : ∃ q, k' = q + 1 := ⟨k' - 1, by omega⟩
    obtain ⟨hp, hi⟩ := hs.succ
    obtain ⟨hf, hof⟩ := fit_of hs ht ho
    have hsz := sizeV_eq v
    have hlen := sizeL_len v.items
    have hsT := sizeT_eq t
    have sub : ∀ i, i < v.items.length → ∃ f : GField, t.fields[if t.kind = 6 then 0 else i]? = some f ∧ f.type = ft t i ∧ f.need = nd t i ∧ value_lacks k (ft t i) (iv v i) = some (lackD d (ft t i) (iv v i)) ∧ ref1_missing k' (ft t i) (iv v i) = some (lackD d (ft t i) (iv v i)) := by
      intro i hi'
      obtain ⟨f, f1, f2, f3, f4⟩ := ft_at (hf i hi')
      have m1 := sizeL_mem (iv_mem hi')
      have m2 := sizeF_mem f1
      have m3 := sizeFd_eq f
      rw [f3] at m3
      obtain ⟨a, b⟩ := ih k k' (ft t i) (iv v i) (hi _ (iv_mem hi')) (by rw [← f3]; exact ht.fs f f1) (hof i hi') (by omega) (by omega) (by omega) (by omega)
      exact ⟨f, f2, f3, f4, a, b⟩
    rw [value_lacks, ref1_missing]
    simp only [lackD]
    refine ⟨?_, ?_⟩
    · have := search (f := fun kk i => value_lacks_l1 (value_lacks k) t v kk (i : Int)) (n := v.items.length) (P := fun i => ((iv v i).kind == 0 && nd t i) || lackD d (ft t i) (iv v i)) (A := fun _ => some true) (B := some false) (fun kk i hi' => by
        obtain ⟨f, f2, f3, f4, f5, _⟩ := sub i hi'
        have e : value_field t (i : Int) = some f := by
          unfold value_field value_field_j1
          by_cases h6 : t.kind = 6
          · rw [if_pos h6] at f2
            rw [show (0 : Int) = ((0 : Nat) : Int) from rfl, at_some f2]
            simp [h6, ift_ite, bnd_some']
          · rw [if_neg h6] at f2
            rw [at_some f2]
            simp [h6, ift_ite, bnd_some']
        simp only [value_lacks_l1, dec_lt hi', ift_true, at_nat hi', bnd_some', e, value_lacks_j1, f3, f4, iv_at hi', f5, wrap_succ hi' (show v.items.length < 1000000000 by omega)]
        cases (iv v i).kind == 0 <;> cases nd t i <;> cases lackD d (ft t i) (iv v i) <;> rfl) (fun kk => by simp [value_lacks_l1, ift_ite, value_lacks_j2]) BIG 0 (Nat.zero_le _) (by rw [big_val]; omega)
      rw [show ((0 : Nat) : Int) = (0 : Int) from rfl] at this
      rw [this]
      cases first (fun i => ((iv v i).kind == 0 && nd t i) || lackD d (ft t i) (iv v i)) 0 v.items.length <;> rfl
    · have := search (f := fun kk i => ref1_missing_l1 (ref1_missing k') t v kk (i : Int)) (n := v.items.length) (P := fun i => ((iv v i).kind == 0 && nd t i) || lackD d (ft t i) (iv v i)) (A := fun _ => some true) (B := some false) (fun kk i hi' => by
        obtain ⟨f, f2, f3, f4, _, f5⟩ := sub i hi'
        have e : ∀ j : Int, at? t.fields j = some f → ref1_missing_j1 (ref1_missing_l1 (ref1_missing k') t v kk) (ref1_missing k') t v (i : Int) j = if (((iv v i).kind == 0 && nd t i) || lackD d (ft t i) (iv v i)) = true then some true else ref1_missing_l1 (ref1_missing k') t v kk ((i + 1 : Nat) : Int) := by
          intro j hj
          simp only [ref1_missing_j1, ref1_missing_j2, hj, bnd_some', at_nat hi', f3, f4, iv_at hi', f5, wrap_succ hi' (show v.items.length < 1000000000 by omega)]
          cases (iv v i).kind == 0 <;> cases nd t i <;> cases lackD d (ft t i) (iv v i) <;> rfl
        simp only [ref1_missing_l1, dec_lt hi', ift_true]
        by_cases h6 : t.kind = 6
        · rw [if_pos h6] at f2
          have e6 : (t.kind == (6 : Int)) = true := by simp [h6]
          rw [e6, ift_true]
          exact e 0 (at_some f2)
        · rw [if_neg h6] at f2
          have e6 : (t.kind == (6 : Int)) = false := by simp [h6]
          rw [e6, ift_false]
          exact e i (at_some f2)) (fun kk => by simp [ref1_missing_l1, ift_ite, ref1_missing_j3]) BIG 0 (Nat.zero_le _) (by rw [big_val]; omega)
      rw [show ((0 : Nat) : Int) = (0 : Int) from rfl] at this
      rw [this]
      cases first (fun i => ((iv v i).kind == 0 && nd t i) || lackD d (ft t i) (iv v i)) 0 v.items.length <;> rfl

theorem Check_eq (t : GType) (v : GValue) (hv : sizeV v < 1000000000) (hT : sizeT t < 1000000000) : ∃ e, value_Check t v = some e ∧ ref1_Check t v = some e := by
  obtain ⟨e, h1, h2, h3⟩ := checkType_eq t hT
  unfold value_Check ref1_Check
  rw [h1, h2, vSound v hv, rSound v hv]
  simp only [bnd_some']
  by_cases he : e = 0
  · subst he
    have ht := h3 rfl
    cases hs : soundB v with
    | false => exact ⟨1, rfl, rfl⟩
    | true =>
      have hS : Snd 4 v := ⟨0, hs⟩
      obtain ⟨a, b⟩ := of_eq 4 BIG BIG t v hS ht hv hT (by rw [big_val]; omega) (by rw [big_val]; omega)
      rw [a, b]
      cases ho : ofD 4 t v with
      | false => exact ⟨2, rfl, rfl⟩
      | true =>
        obtain ⟨c, d⟩ := lack_eq 4 BIG BIG t v hS ht ho hv hT (by rw [big_val]; omega) (by rw [big_val]; omega)
        rw [c, d]
        cases lackD 4 t v with
        | false => exact ⟨0, rfl, rfl⟩
        | true => exact ⟨9, rfl, rfl⟩
  · have : (e != (0 : Int)) = true := by simp [he]
    rw [this]
    exact ⟨e, rfl, rfl⟩

theorem empty_size : ByteArray.empty.size = 0 := rfl

end Go.Proofs.YtieiahlgllbklaaGreatDoor
namespace Go.Proofs.YtieiahlgllbklaaGreatDoor
open Go Go.SX Go.SX.Cal
set_option linter.unusedVariables false
set_option linter.unusedSimpArgs false

theorem sizeF_drop {l : List GField} {i : Nat} (h : i < l.length) : sizeF (l.drop i) = sizeFd l[i] + sizeF (l.drop (i + 1)) := by
  rw [List.drop_eq_getElem_cons h]; simp only [sizeF]

theorem big_succ : BIG = 1152921504606846975 + 1 := rfl

end Go.Proofs.YtieiahlgllbklaaGreatDoor
namespace Go.Proofs.YtieiahlgllbklaaGreatDoor
open Go Go.SX Go.SX.Cal
set_option linter.unusedVariables false
set_option linter.unusedSimpArgs false

end Go.Proofs.YtieiahlgllbklaaGreatDoor
namespace Go.Proofs.YtieiahlgllbklaaGreatDoor
open Go Go.SX Go.SX.Cal
set_option linter.unusedVariables false
set_option linter.unusedSimpArgs false

mutual
def idsT : GType → List Int
  | ⟨_, _, fs⟩ => idsFs fs
def idsFs : List (FieldP GType) → List Int
  | [] => []
  | f :: l => idsFd f ++ idsFs l
def idsFd : FieldP GType → List Int
  | ⟨i, _, _, t⟩ => i :: idsT t
end

theorem idsT_eq : ∀ t : GType, idsT t = idsFs t.fields
  | ⟨_, _, _⟩ => by simp only [idsT]
theorem idsFd_eq : ∀ f : GField, idsFd f = f.id :: idsFs f.type.fields
  | ⟨_, _, _, t⟩ => by simp only [idsFd, idsT_eq]

theorem idsFs_drop {l : List GField} {i : Nat} (h : i < l.length) : idsFs (l.drop i) = idsFd l[i] ++ idsFs (l.drop (i + 1)) := by
  rw [List.drop_eq_getElem_cons h]; simp only [idsFs]

mutual
theorem idsT_len : ∀ t : GType, (idsT t).length ≤ sizeT t
  | ⟨_, _, fs⟩ => by simp only [idsT, sizeT]; have := idsFs_len fs; omega
theorem idsFs_len : ∀ l : List (FieldP GType), (idsFs l).length ≤ sizeF l
  | [] => by simp [idsFs]
  | f :: l => by
    simp only [idsFs, sizeF, List.length_append]
    have := idsFd_len f
    have := idsFs_len l
    omega
theorem idsFd_len : ∀ f : FieldP GType, (idsFd f).length ≤ sizeFd f
  | ⟨i, n, q, t⟩ => by
    simp only [idsFd, sizeFd, List.length_cons]
    have := idsT_len t
    omega
end

theorem ids_eq : ∀ (N k : Nat) (fs : List GField), sizeF fs ≤ N → N < k → sizeF fs < 1000000000 → ref1_Ids k fs = some (idsFs fs) := by
  intro N
  induction N with
  | zero =>
    intro k fs h hk _
    obtain ⟨k, rfl⟩ : ∃ x, k = x + 1 := ⟨k - 1, by omega⟩
    have hl := sizeF_len fs
    have : fs = [] := List.eq_nil_of_length_eq_zero (by omega)
    subst this
    rw [ref1_Ids, big_succ, ref1_Ids_l1]
    rfl
  | succ N ih =>
    intro k fs hN hk hs
    obtain ⟨k, rfl⟩ : ∃ x, k = x + 1 := ⟨k - 1, by omega⟩
    have hl := sizeF_len fs
    rw [ref1_Ids]
    have loop : ∀ (kk i : Nat) (acc : List Int), i ≤ fs.length → fs.length - i < kk → acc.length + sizeF (fs.drop i) ≤ sizeF fs → ref1_Ids_l1 (ref1_Ids k) fs kk acc (i : Int) = some (acc ++ idsFs (fs.drop i)) := by
      intro kk
      induction kk with
      | zero => intro i acc _ h; omega
      | succ kk ihk =>
        intro i acc hi hk2 hacc
        rw [ref1_Ids_l1]
        by_cases h : i = fs.length
        · subst h
          simp only [Int.lt_irrefl, decide_false, ift_false, ref1_Ids_j1, List.drop_length, idsFs, List.append_nil]
        · have h1 : i < fs.length := by omega
          have m1 := sizeF_mem (List.getElem_mem h1)
          have m2 := sizeFd_eq fs[i]
          have m3 := sizeT_eq fs[i].type
          have m4 := sizeF_drop h1
          have m5 := idsFs_len fs[i].type.fields
          rw [dec_lt h1, ift_true, at_nat h1, bnd_eq, grd_pos (by omega), ih k _ (by omega) (by omega) (by omega), bnd_eq, grd_pos (by simp; omega), wrap_succ h1 (by omega)]
          rw [ihk (i + 1) _ (by omega) (by omega) (by simp; omega), idsFs_drop h1, idsFd_eq]
          simp
    have := loop BIG 0 [] (Nat.zero_le _) (by rw [big_val]; omega) (by simp)
    simpa using this

/-- one id -/
def stp (x : Int) (m : List (Int × Int)) : Int × List (Int × Int) :=
  if x < 1 then (3, m) else
    let y := IntKind.i64.wrap ((mget (kInt .i64) m x).getD 0 + 1)
    if 1 < (mget (kInt .i64) (mset (kInt .i64) m x y) x).getD 0 then (5, mset (kInt .i64) m x y) else (0, mset (kInt .i64) m x y)

def scan : List Int → List (Int × Int) → Int × List (Int × Int)
  | [], m => (0, m)
  | x :: l, m => if (stp x m).1 ≠ 0 then stp x m else scan l (stp x m).2

theorem scan_app : ∀ (a b : List Int) (m : List (Int × Int)), scan (a ++ b) m = if (scan a m).1 ≠ 0 then scan a m else scan b (scan a m).2
  | [], b, m => by simp [scan]
  | x :: a, b, m => by
    simp only [List.cons_append, scan]
    by_cases h : (stp x m).1 = 0
    · simp only [h, ne_eq, not_true, if_false]
      exact scan_app a b _
    · simp [h]

theorem schema1_eq (f : GField) (m : List (Int × Int)) : value_CheckSchema_1 f m = some (stp f.id m) := by
  unfold value_CheckSchema_1 stp
  simp only [bnd_eq, ift_ite, decide_eq_true_eq]
  split
  · rfl
  · split <;> rfl

theorem walk_eq : ∀ (N k : Nat) (fs : List GField) (m : List (Int × Int)), sizeF fs ≤ N → N < k → sizeF fs < 1000000000 → value_Walk_of_value_CheckSchema_1 k fs m = some (scan (idsFs fs) m) := by
  intro N
  induction N with
  | zero =>
    intro k fs m h hk _
    obtain ⟨k, rfl⟩ : ∃ x, k = x + 1 := ⟨k - 1, by omega⟩
    have hl := sizeF_len fs
    have : fs = [] := List.eq_nil_of_length_eq_zero (by omega)
    subst this
    rw [value_Walk_of_value_CheckSchema_1, big_succ, value_Walk_of_value_CheckSchema_1_l1]
    rfl
  | succ N ih =>
    intro k fs m hN hk hs
    obtain ⟨k, rfl⟩ : ∃ x, k = x + 1 := ⟨k - 1, by omega⟩
    have hl := sizeF_len fs
    rw [value_Walk_of_value_CheckSchema_1]
    have loop : ∀ (kk i : Nat) (m : List (Int × Int)), i ≤ fs.length → fs.length - i < kk → value_Walk_of_value_CheckSchema_1_l1 (value_Walk_of_value_CheckSchema_1 k) fs kk m (i : Int) = some (scan (idsFs (fs.drop i)) m) := by
      intro kk
      induction kk with
      | zero => intro i m _ h; omega
      | succ kk ihk =>
        intro i m hi hk2
        rw [value_Walk_of_value_CheckSchema_1_l1]
        by_cases h : i = fs.length
        · subst h
          simp only [Int.lt_irrefl, decide_false, ift_false, value_Walk_of_value_CheckSchema_1_j1, List.drop_length, idsFs, scan]
        · have h1 : i < fs.length := by omega
          have m1 := sizeF_mem (List.getElem_mem h1)
          have m2 := sizeFd_eq fs[i]
          have m3 := sizeT_eq fs[i].type
          rw [dec_lt h1, ift_true, at_nat h1, bnd_eq, schema1_eq, bnd_eq, wrap_succ h1 (by omega), idsFs_drop h1, idsFd_eq, List.cons_append, scan, ih k _ _ (by omega) (by omega) (by omega)]
          simp only [bnd_eq, ift_ite]
          by_cases h0 : (stp fs[i].id m).1 = 0
          · simp only [h0, bne_self_eq_false, Bool.false_eq_true, if_false, ne_eq, not_true, scan_app]
            by_cases h2 : (scan (idsFs fs[i].type.fields) (stp fs[i].id m).2).1 = 0
            · simp only [h2, bne_self_eq_false, Bool.false_eq_true, if_false, not_true]
              exact ihk (i + 1) _ (by omega) (by omega)
            · simp [h2]
          · simp [h0]
    have := loop BIG 0 m (Nat.zero_le _) (by rw [big_val]; omega)
    simpa using this

end Go.Proofs.YtieiahlgllbklaaGreatDoor
namespace Go.Proofs.YtieiahlgllbklaaGreatDoor
open Go Go.SX Go.SX.Cal
set_option linter.unusedVariables false
set_option linter.unusedSimpArgs false

abbrev KI : KEnc Int := kInt .i64

theorem mget_set_same : ∀ (m : List (Int × Int)) (k v : Int), mget KI (mset KI m k v) k = some v
  | [], k, v => by simp [mset, mget, kInt]
  | (k', v') :: l, k, v => by
    by_cases h : k = k'
    · simp [mset, mget, kInt, h]
    · have hb : (k == k') = false := by simpa using h
      have := mget_set_same l k v
      simp only [mset, mget, kInt, hb, Bool.false_eq_true, if_false] at this ⊢
      exact this

theorem mget_set_other : ∀ (m : List (Int × Int)) (k v x : Int), x ≠ k → mget KI (mset KI m k v) x = mget KI m x
  | [], k, v, x, hx => by simp [mset, mget, kInt, hx]
  | (k', v') :: l, k, v, x, hx => by
    by_cases h : k = k'
    · subst h
      simp [mset, mget, kInt, hx]
    · have hb : (k == k') = false := by simpa using h
      have := mget_set_other l k v x hx
      simp only [mset, mget, kInt, hb, Bool.false_eq_true, if_false] at this ⊢
      rw [this]

/-- what the map holds after the ids seen -/
def Inv (m : List (Int × Int)) (seen : List Int) : Prop := ∀ x, (mget KI m x).getD 0 = if x ∈ seen then 1 else 0

theorem stp_eq {m : List (Int × Int)} {seen : List Int} (h : Inv m seen) (x : Int) : (stp x m).1 = (if x < 1 then 3 else if x ∈ seen then 5 else 0) ∧ ((stp x m).1 = 0 → Inv (stp x m).2 (seen ++ [x])) := by
  unfold stp
  have hx := h x
  by_cases h1 : x < 1
  · simp [h1]
  · simp only [h1, if_false]
    have e : (mget (kInt .i64) m x).getD 0 = if x ∈ seen then 1 else 0 := hx
    rw [e]
    by_cases h2 : x ∈ seen
    · simp only [h2, if_true]
      rw [show IntKind.i64.wrap (1 + 1) = 2 from w64 (by omega) (by omega)]
      have := mget_set_same m x 2
      simp only [KI] at this
      simp [this]
    · simp only [h2, if_false]
      rw [show IntKind.i64.wrap (0 + 1) = 1 from w64 (by omega) (by omega)]
      have h3 := mget_set_same m x 1
      simp only [KI] at h3
      simp only [h3, Option.getD_some, Int.lt_irrefl, if_false, true_and]
      intro _ y
      by_cases hy : y = x
      · subst hy
        simp [KI, h3]
      · have h4 := mget_set_other m x 1 y hy
        simp only [KI] at h4
        have h5 := h y
        simp only [KI] at h5 ⊢
        rw [h4, h5]
        simp [hy]

theorem schema_l2 (ids : List Int) (hl : ids.length < 1000000000) (rec1 : Int → Option Int) {i : Nat} (hi : i < ids.length) : ref1_CheckSchema_l2 rec1 ids (i : Int) ids[i] BIG (0 : Int) = if ids[i] ∈ ids.take i then some 5 else rec1 ((i + 1 : Nat) : Int) := by
  have hs := search (f := fun k j => ref1_CheckSchema_l2 rec1 ids (i : Int) ids[i] k (j : Int)) (n := i) (P := fun j => ids[j]? == some ids[i]) (A := fun j => some 5) (B := rec1 ((i + 1 : Nat) : Int)) (fun k j hj => by
      have hjf : j < ids.length := by omega
      show ref1_CheckSchema_l2 rec1 ids (i : Int) ids[i] (k + 1) (j : Int) = _
      rw [ref1_CheckSchema_l2, dec_lt hj, ift_true, at_nat hjf, wrap_succ hj (by omega)]
      simp only [bnd_eq, ift_ite, List.getElem?_eq_getElem hjf, Option.some_beq_some])
    (fun k => by
      show ref1_CheckSchema_l2 rec1 ids (i : Int) ids[i] (k + 1) (i : Int) = _
      rw [ref1_CheckSchema_l2]; simp only [Int.lt_irrefl, decide_false, ift_false, ref1_CheckSchema_j1]; rw [wrap_succ hi hl]) BIG 0 (Nat.zero_le _) (by rw [big_val]; omega)
  have hs : ref1_CheckSchema_l2 rec1 ids (i : Int) ids[i] BIG (0 : Int) = _ := hs
  rw [hs]
  cases hf : first (fun j => ids[j]? == some ids[i]) 0 i with
  | none =>
    rw [first_none] at hf
    have : ids[i] ∉ ids.take i := by
      intro hm
      obtain ⟨j, hj, he⟩ := List.getElem_of_mem hm
      have hj' : j < i := by simp at hj; omega
      have := hf j (Nat.zero_le _) hj'
      rw [List.getElem_take] at he
      simp [List.getElem?_eq_getElem (show j < ids.length by omega), he] at this
    simp [this]
  | some j =>
    have : ids[i] ∈ ids.take i := by
      unfold first at hf
      have h1 := List.find?_some hf
      have h2 := List.mem_of_find?_eq_some hf
      rw [List.mem_range'_1] at h2
      have hjl : j < ids.length := by omega
      simp only [List.getElem?_eq_getElem hjl, Option.some_beq_some, beq_iff_eq] at h1
      rw [← h1]
      exact List.mem_iff_getElem.2 ⟨j, by simp; omega, by simp⟩
    simp [this]

theorem schema_loop (ids : List Int) (hl : ids.length < 1000000000) : ∀ (kk i : Nat) (m : List (Int × Int)), i ≤ ids.length → ids.length - i < kk → Inv m (ids.take i) → ref1_CheckSchema_l1 ids kk (i : Int) = some (scan (ids.drop i) m).1 := by
  intro kk
  induction kk with
  | zero => intro i m _ h; omega
  | succ kk ih =>
    intro i m hi hk hm
    rw [ref1_CheckSchema_l1]
    by_cases h : i = ids.length
    · subst h
      simp only [Int.lt_irrefl, decide_false, ift_false, List.drop_length, scan]
      rfl
    · have h1 : i < ids.length := by omega
      rw [dec_lt h1, ift_true, at_nat h1, bnd_eq, schema_l2 ids hl _ h1, List.drop_eq_getElem_cons h1, scan]
      obtain ⟨g1, g2⟩ := stp_eq hm ids[i]
      rw [g1] at g2 ⊢
      simp only [ift_ite, decide_eq_true_eq]
      by_cases h2 : ids[i] < 1
      · simp [h2, g1]
      · by_cases h3 : ids[i] ∈ ids.take i
        · simp [h2, h3, g1]
        · simp only [h2, h3, if_false, ne_eq, not_true]
          simp only [h2, h3, if_false] at g2
          refine ih (i + 1) _ (by omega) (by omega) ?_
          have := g2 trivial
          rwa [List.take_append_getElem h1] at this

theorem schema_eq (fs : List GField) (hs : sizeF fs < 1000000000 - 1) : ∃ e, value_CheckSchema fs = some e ∧ ref1_CheckSchema fs = some e := by
  obtain ⟨e, h1, h2, h3⟩ := checkType_eq ⟨7, 0, fs⟩ (by simp only [sizeT]; omega)
  unfold value_CheckSchema ref1_CheckSchema
  rw [h1, h2]
  simp only [bnd_eq, ift_ite]
  by_cases he : e = 0
  · have w := walk_eq 1000000000 BIG fs [] (by omega) (by rw [big_val]; omega) (by omega)
    have i := ids_eq 1000000000 BIG fs (by omega) (by rw [big_val]; omega) (by omega)
    have hl := idsFs_len fs
    have l := schema_loop (idsFs fs) (by omega) BIG 0 [] (Nat.zero_le _) (by rw [big_val]; omega) (fun x => by simp [mget])
    have l : ref1_CheckSchema_l1 (idsFs fs) BIG (0 : Int) = _ := l
    refine ⟨(scan (idsFs fs) []).1, ?_, ?_⟩
    · simp [he, w, bnd_eq]
    · simp [he, i, bnd_eq, l]
  · exact ⟨e, by simp [he], by simp [he]⟩

end Go.Proofs.YtieiahlgllbklaaGreatDoor
namespace Go.Proofs.YtieiahlgllbklaaGreatDoor
open Go Go.SX Go.SX.Cal
set_option linter.unusedVariables false
set_option linter.unusedSimpArgs false

theorem bnd_s {α β : Type} (a : α) (f : α → Option β) : bnd (some a) f = f a := rfl
theorem iftT {β : Type} (x y : Option β) : ift true x y = x := rfl
theorem iftF {β : Type} (x y : Option β) : ift false x y = y := rfl
theorem grd_p {β : Type} {p : Prop} [Decidable p] {x : Option β} (h : p) : grd p x = x := if_pos h
theorem fuel {m f : Nat} (h : m < f) : ∃ q, f = q + 1 := ⟨f - 1, by omega⟩
theorem dec_ge {i n : Nat} (h : ¬ i < n) : decide ((i : Int) < (n : Int)) = false := by simp; omega
theorem drop_at {α : Type} {l : List α} {i : Nat} (hi : i < l.length) : l.drop i = l[i] :: l.drop (i + 1) := List.drop_eq_getElem_cons hi

/-- what is wrong with a value of a type -/
noncomputable def ck (t : GType) (v : GValue) : Int := (value_Check t v).getD 0

theorem ck_c {t : GType} {v : GValue} (hv : sizeV v < 1000000000) (hT : sizeT t < 1000000000) : value_Check t v = some (ck t v) := by
  obtain ⟨e, h1, _⟩ := Check_eq t v hv hT
  unfold ck; rw [h1]; rfl

theorem ck_r {t : GType} {v : GValue} (hv : sizeV v < 1000000000) (hT : sizeT t < 1000000000) : ref1_Check t v = some (ck t v) := by
  obtain ⟨e, h1, h2⟩ := Check_eq t v hv hT
  unfold ck; rw [h1, h2]; rfl

noncomputable def rowF : List GField → List GValue → Int
  | f :: fs, v :: vs => if ck f.type v ≠ 0 then ck f.type v else if f.need = true ∧ v.kind = 0 then 9 else rowF fs vs
  | _, _ => 0

theorem rowF_bad {f : GField} {fs : List GField} {v : GValue} {vs : List GValue} (h : ck f.type v ≠ 0) : rowF (f :: fs) (v :: vs) = ck f.type v := by simp only [rowF]; rw [if_pos h]
theorem rowF_nine {f : GField} {fs : List GField} {v : GValue} {vs : List GValue} (h : ck f.type v = 0) (h2 : f.need = true ∧ v.kind = 0) : rowF (f :: fs) (v :: vs) = 9 := by simp only [rowF]; rw [if_neg (fun k => k h), if_pos h2]
theorem rowF_ok {f : GField} {fs : List GField} {v : GValue} {vs : List GValue} (h : ck f.type v = 0) (h2 : ¬ (f.need = true ∧ v.kind = 0)) : rowF (f :: fs) (v :: vs) = rowF fs vs := by simp only [rowF]; rw [if_neg (fun k => k h), if_neg h2]

theorem size_at {fs : List GField} (h : sizeF fs < 1000000000) {i : Nat} (hi : i < fs.length) : sizeT fs[i].type < 1000000000 := by
  have := sizeF_mem (List.getElem_mem hi)
  have := sizeFd_eq fs[i]
  omega

theorem sizev_at {r : List GValue} (h : sizeL r < 1000000000) {i : Nat} (hi : i < r.length) : sizeV r[i] < 1000000000 := by
  have := sizeL_mem (List.getElem_mem hi)
  omega

theorem c_row {fs : List GField} {r : List GValue} (hf : sizeF fs < 1000000000) (hr : sizeL r < 1000000000) (hl : r.length = fs.length) (rec1 : Int → Option Int) (x1 : Int) : ∀ (m f i : Nat), i + m = fs.length → m < f →
    column_CheckRows_l2 rec1 fs x1 r f (i : Int) = if rowF (fs.drop i) (r.drop i) ≠ 0 then some (rowF (fs.drop i) (r.drop i)) else column_CheckRows_j2 rec1 x1 := by
  have hfl := sizeF_len fs
  intro m
  induction m with
  | zero =>
    intro f i hi hf'
    obtain ⟨f, rfl⟩ := fuel hf'
    rw [column_CheckRows_l2, dec_ge (by omega), iftF, List.drop_of_length_le (l := fs) (by omega)]
    simp [rowF]
  | succ m ih =>
    intro f i hi hf'
    obtain ⟨f, rfl⟩ := fuel hf'
    have h1 : i < fs.length := by omega
    have h2 : i < r.length := by omega
    rw [column_CheckRows_l2, dec_lt h1, iftT, at_nat h1, bnd_s, at_nat h2, bnd_s, ck_c (sizev_at hr h2) (size_at hf h1), bnd_s, drop_at h1, drop_at h2]
    unfold column_CheckRows_j1
    by_cases he : ck fs[i].type r[i] = 0
    · by_cases hk : r[i].kind = 0
      · cases hn : fs[i].need with
        | true => rw [rowF_nine he ⟨hn, hk⟩, he, show ((0 : Int) != 0) = false from rfl, iftF, show (r[i].kind == 0) = true by simp [hk], iftT, iftT, if_pos (by decide)]
        | false => rw [rowF_ok he (by simp [hn]), he, show ((0 : Int) != 0) = false from rfl, iftF, show (r[i].kind == 0) = true by simp [hk], iftT, iftF, wrap_succ h1 (by omega), ih f (i + 1) (by omega) (by omega)]
      · rw [rowF_ok he (fun h => hk h.2), he, show ((0 : Int) != 0) = false from rfl, iftF, show (r[i].kind == 0) = false by simp [hk], iftF, iftF, wrap_succ h1 (by omega), ih f (i + 1) (by omega) (by omega)]
    · rw [rowF_bad he, show (ck fs[i].type r[i] != 0) = true by simp [he], iftT, if_pos he]

theorem r_row {fs : List GField} {r : List GValue} (hf : sizeF fs < 1000000000) (hr : sizeL r < 1000000000) (hl : r.length = fs.length) : ∀ (m f i : Nat), i + m = fs.length → m < f →
    ref2_CheckRow_l1 fs r f (i : Int) = some (rowF (fs.drop i) (r.drop i)) := by
  have hfl := sizeF_len fs
  intro m
  induction m with
  | zero =>
    intro f i hi hf'
    obtain ⟨f, rfl⟩ := fuel hf'
    rw [ref2_CheckRow_l1, dec_ge (by omega), iftF, List.drop_of_length_le (l := fs) (by omega)]
    simp [rowF, ref2_CheckRow_j2]
  | succ m ih =>
    intro f i hi hf'
    obtain ⟨f, rfl⟩ := fuel hf'
    have h1 : i < fs.length := by omega
    have h2 : i < r.length := by omega
    rw [ref2_CheckRow_l1, dec_lt h1, iftT, at_nat h1, bnd_s, at_nat h2, bnd_s, ck_r (sizev_at hr h2) (size_at hf h1), bnd_s, drop_at h1, drop_at h2]
    unfold ref2_CheckRow_j1
    by_cases he : ck fs[i].type r[i] = 0
    · cases hn : fs[i].need with
      | true =>
        by_cases hk : r[i].kind = 0
        · rw [rowF_nine he ⟨hn, hk⟩, he, show ((0 : Int) != 0) = false from rfl, iftF, iftT, show (r[i].kind == 0) = true by simp [hk], iftT]
        · rw [rowF_ok he (fun h => hk h.2), he, show ((0 : Int) != 0) = false from rfl, iftF, iftT, show (r[i].kind == 0) = false by simp [hk], iftF, wrap_succ h1 (by omega), ih f (i + 1) (by omega) (by omega)]
      | false => rw [rowF_ok he (by simp [hn]), he, show ((0 : Int) != 0) = false from rfl, iftF, iftF, iftF, wrap_succ h1 (by omega), ih f (i + 1) (by omega) (by omega)]
    · rw [rowF_bad he, show (ck fs[i].type r[i] != 0) = true by simp [he], iftT]

noncomputable def rowsF (fs : List GField) : List (List GValue) → Int
  | r :: rs => if r.length ≠ fs.length then 1 else if rowF fs r ≠ 0 then rowF fs r else rowsF fs rs
  | [] => 0

theorem c_rows {fs : List GField} {rows : List (List GValue)} (hf : sizeF fs < 1000000000) (hr : ∀ r ∈ rows, sizeL r < 1000000000) (hl : rows.length < 1000000000) : ∀ (m f i : Nat), i + m = rows.length → m < f →
    column_CheckRows_l1 fs rows f (i : Int) = some (rowsF fs (rows.drop i)) := by
  intro m
  induction m with
  | zero =>
    intro f i hi hf'
    obtain ⟨f, rfl⟩ := fuel hf'
    rw [column_CheckRows_l1, dec_ge (by omega), iftF, List.drop_of_length_le (by omega)]; rfl
  | succ m ih =>
    intro f i hi hf'
    obtain ⟨f, rfl⟩ := fuel hf'
    have h1 : i < rows.length := by omega
    rw [column_CheckRows_l1, dec_lt h1, iftT, at_nat h1, bnd_s, drop_at h1]
    simp only [rowsF]
    by_cases hle : rows[i].length = fs.length
    · have hc := c_row hf (hr _ (List.getElem_mem h1)) hle (column_CheckRows_l1 fs rows f) (i : Int) fs.length BIG 0 (by omega) (by have := sizeF_len fs; rw [big_val]; omega)
      rw [show ((0 : Nat) : Int) = 0 from rfl, List.drop_zero, List.drop_zero] at hc
      rw [show (((rows[i].length : Nat) : Int) != (fs.length : Int)) = false by simp [hle], iftF, hc, if_neg (show ¬ rows[i].length ≠ fs.length from fun h => h hle)]
      unfold column_CheckRows_j2
      by_cases h0 : rowF fs rows[i] = 0
      · rw [if_neg (fun h => h h0), if_neg (fun h => h h0), wrap_succ h1 hl, ih f (i + 1) (by omega) (by omega)]
      · rw [if_pos h0, if_pos h0]
    · rw [show (((rows[i].length : Nat) : Int) != (fs.length : Int)) = true by simp; omega, iftT, if_pos hle]

theorem r_rows {fs : List GField} {rows : List (List GValue)} (hf : sizeF fs < 1000000000) (hr : ∀ r ∈ rows, sizeL r < 1000000000) (hl : rows.length < 1000000000) : ∀ (m f i : Nat), i + m = rows.length → m < f →
    ref2_CheckRows_l1 fs rows f (i : Int) = some (rowsF fs (rows.drop i)) := by
  intro m
  induction m with
  | zero =>
    intro f i hi hf'
    obtain ⟨f, rfl⟩ := fuel hf'
    rw [ref2_CheckRows_l1, dec_ge (by omega), iftF, List.drop_of_length_le (by omega)]; rfl
  | succ m ih =>
    intro f i hi hf'
    obtain ⟨f, rfl⟩ := fuel hf'
    have h1 : i < rows.length := by omega
    rw [ref2_CheckRows_l1, dec_lt h1, iftT, at_nat h1, bnd_s, drop_at h1]
    simp only [rowsF]
    unfold ref2_CheckRow
    by_cases hle : rows[i].length = fs.length
    · have hc := r_row hf (hr _ (List.getElem_mem h1)) hle fs.length BIG 0 (by omega) (by have := sizeF_len fs; rw [big_val]; omega)
      rw [show ((0 : Nat) : Int) = 0 from rfl, List.drop_zero, List.drop_zero] at hc
      rw [show (((rows[i].length : Nat) : Int) != (fs.length : Int)) = false by simp [hle], iftF, hc, bnd_s, if_neg (fun h => h hle)]
      by_cases h0 : rowF fs rows[i] = 0
      · rw [h0, show ((0 : Int) != 0) = false from rfl, iftF, if_neg (fun h => h rfl), wrap_succ h1 hl, ih f (i + 1) (by omega) (by omega)]
      · rw [show (rowF fs rows[i] != 0) = true by simp [h0], iftT, if_pos h0]
    · rw [show (((rows[i].length : Nat) : Int) != (fs.length : Int)) = true by simp; omega, iftT, bnd_s, if_pos hle]; rfl

/-- what is wrong with a schema -/
def sc (fs : List GField) : Int := (value_CheckSchema fs).getD 0

theorem sc_c {fs : List GField} (h : sizeF fs < 1000000000 - 1) : value_CheckSchema fs = some (sc fs) := by
  obtain ⟨e, h1, _⟩ := schema_eq fs h
  unfold sc; rw [h1]; rfl
theorem sc_r {fs : List GField} (h : sizeF fs < 1000000000 - 1) : ref1_CheckSchema fs = some (sc fs) := by
  obtain ⟨e, h1, h2⟩ := schema_eq fs h
  unfold sc; rw [h1, h2]; rfl

noncomputable def crF (fs : List GField) (rows : List (List GValue)) : Int := if sc fs ≠ 0 then sc fs else if 2000 < rows.length then 7 else rowsF fs rows

theorem c_CheckRows {fs : List GField} {rows : List (List GValue)} (hf : sizeF fs < 1000000000 - 1) (hr : ∀ r ∈ rows, sizeL r < 1000000000) (hl : rows.length < 1000000000) : column_CheckRows fs rows = some (crF fs rows) := by
  unfold column_CheckRows crF
  rw [sc_c hf, bnd_s]
  by_cases h : sc fs = 0
  · rw [h, show ((0 : Int) != 0) = false from rfl, iftF, if_neg (fun h => h rfl)]
    by_cases h2 : 2000 < rows.length
    · rw [decide_eq_true (by omega), iftT, if_pos h2]
    · have hc := c_rows (fs := fs) (by omega) hr hl rows.length BIG 0 (by omega) (by rw [big_val]; omega)
      rw [show ((0 : Nat) : Int) = 0 from rfl, List.drop_zero] at hc
      rw [decide_eq_false (by omega), iftF, hc, if_neg h2]
  · rw [show (sc fs != 0) = true by simp [h], iftT, if_pos h]

theorem r_CheckRows {fs : List GField} {rows : List (List GValue)} (hf : sizeF fs < 1000000000 - 1) (hr : ∀ r ∈ rows, sizeL r < 1000000000) (hl : rows.length < 1000000000) : ref2_CheckRows fs rows = some (crF fs rows) := by
  unfold ref2_CheckRows crF
  rw [sc_r hf, bnd_s]
  by_cases h : sc fs = 0
  · rw [h, show ((0 : Int) != 0) = false from rfl, iftF, if_neg (fun h => h rfl)]
    by_cases h2 : 2000 < rows.length
    · rw [decide_eq_true (by omega), iftT, if_pos h2]
    · have hc := r_rows (fs := fs) (by omega) hr hl rows.length BIG 0 (by omega) (by rw [big_val]; omega)
      rw [show ((0 : Nat) : Int) = 0 from rfl, List.drop_zero] at hc
      rw [decide_eq_false (by omega), iftF, hc, if_neg h2]
  · rw [show (sc fs != 0) = true by simp [h], iftT, if_pos h]

theorem rowF_at : ∀ {fs : List GField} {r : List GValue}, rowF fs r = 0 → ∀ (i : Nat) f v, fs[i]? = some f → r[i]? = some v → ck f.type v = 0 ∧ ¬ (f.need = true ∧ v.kind = 0)
  | [], _, _, i, f, v, h1, _ => by simp at h1
  | _ :: _, [], _, i, f, v, _, h2 => by simp at h2
  | g :: fs, x :: r, h, i, f, v, h1, h2 => by
    simp only [rowF] at h
    by_cases ha : ck g.type x = 0
    · rw [if_neg (fun h => h ha)] at h
      by_cases hb : g.need = true ∧ x.kind = 0
      · rw [if_pos hb] at h; cases h
      · rw [if_neg hb] at h
        cases i with
        | zero => simp at h1 h2; subst h1; subst h2; exact ⟨ha, hb⟩
        | succ i => exact rowF_at h i f v (by simpa using h1) (by simpa using h2)
    · rw [if_pos ha] at h; exact absurd h ha

theorem rowsF_at {fs : List GField} : ∀ {rows : List (List GValue)}, rowsF fs rows = 0 → ∀ r ∈ rows, r.length = fs.length ∧ rowF fs r = 0
  | [], _, r, h => by cases h
  | x :: rows, h, r, hr => by
    simp only [rowsF] at h
    by_cases ha : x.length = fs.length
    · rw [if_neg (fun h => h ha)] at h
      by_cases hb : rowF fs x = 0
      · rw [if_neg (fun h => h hb)] at h
        rcases List.mem_cons.1 hr with rfl | hr
        · exact ⟨ha, hb⟩
        · exact rowsF_at h r hr
      · rw [if_pos hb] at h; exact absurd h hb
    · rw [if_pos ha] at h; cases h

end Go.Proofs.YtieiahlgllbklaaGreatDoor
namespace Go.Proofs.YtieiahlgllbklaaGreatDoor
open Go Go.SX Go.SX.Cal
set_option linter.unusedVariables false
set_option linter.unusedSimpArgs false

theorem order_self (a : Int) : ref1_order a a = some 0 := by
  unfold ref1_order
  rw [decide_eq_false (by omega), iftF, iftF]

theorem wide_some {p : Int} : ∀ (j k : Nat) (l : List Int) (x : Int), x.natAbs < 10 ^ j → j ≤ 18 → j < k → l.length + j ≤ 1000 → ∃ m, ref1_wideOf_l1 p k l x = some (RWide.mk (decide (p < (0 : Int))) m) ∧ m.length ≤ 1000
  | 0, k, l, x, hx, _, hk, hl => by
    obtain ⟨k, rfl⟩ := fuel hk
    have : x = 0 := by simp at hx; omega
    subst this
    rw [ref1_wideOf_l1, bne_self_eq_false, iftF]
    exact ⟨l, rfl, by omega⟩
  | j + 1, k, l, x, hx, hj, hk, hl => by
    obtain ⟨k, rfl⟩ := fuel hk
    by_cases h0 : x = 0
    · subst h0
      rw [ref1_wideOf_l1, bne_self_eq_false, iftF]
      exact ⟨l, rfl, by omega⟩
    · have hp : (10 : Nat) ^ (j + 1) ≤ 1000000000000000000 := by
        have := Nat.pow_le_pow_right (n := 10) (by omega) (show j + 1 ≤ 18 by omega)
        exact Nat.le_trans this (by decide)
      have hd : (x.tdiv 10).natAbs = x.natAbs / 10 := by rw [Int.natAbs_tdiv]; rfl
      have hd2 : x.natAbs / 10 < 10 ^ j := by
        rw [Nat.pow_succ] at hx
        exact Nat.div_lt_of_lt_mul (by rw [Nat.mul_comm]; exact hx)
      have hw : IntKind.i64.wrap (x.tdiv 10) = x.tdiv 10 := w64 (by omega) (by omega)
      rw [ref1_wideOf_l1, show (x != 0) = true by simp [h0], iftT]
      unfold ref1_wideOf_j1
      rw [grd_p (by omega), grd_p (by omega), hw, ]
      have h1 := fun y : Int => wide_some (p := p) j k (l ++ [y]) (x.tdiv 10) (by omega) (by omega) (by omega) (by simp; omega)
      by_cases hn : x.tmod 10 < 0
      · rw [decide_eq_true hn, iftT]; exact h1 _
      · rw [decide_eq_false hn, iftF]; exact h1 _

theorem most_self {l : List Int} (hl : l.length < 1000000000) : ref1_most l l = some 0 := by
  have : ∀ (i f : Nat), i ≤ l.length → i < f → ref1_most_l1 l l f ((i : Int) - 1) = some 0 := by
    intro i
    induction i with
    | zero => intro f hi hf; obtain ⟨f, rfl⟩ := fuel hf; rw [ref1_most_l1, decide_eq_false (by omega), iftF]; rfl
    | succ i ih =>
      intro f hi hf
      obtain ⟨f, rfl⟩ := fuel hf
      have h1 : i < l.length := by omega
      rw [show ((i + 1 : Nat) : Int) - 1 = (i : Int) by omega, ref1_most_l1, decide_eq_true (by omega), iftT, at_nat h1, bnd_s, bnd_s, bne_self_eq_false, iftF, w64 (x := (i : Int) - 1) (by omega) (by omega), ih f (by omega) (by omega)]
  unfold ref1_most
  rw [bne_self_eq_false, iftF, w64 (x := (l.length : Int) - 1) (by omega) (by omega)]
  exact this l.length BIG (by omega) (by rw [big_val]; omega)

theorem cwide_self {r : RWide} (hl : r.d.length < 1000000000) : ref1_compareWide r r = some 0 := by
  unfold ref1_compareWide
  rw [show (r.below == r.below) = true by simp, Bool.not_true, iftF, most_self hl, bnd_s]
  cases r.below <;> rfl

theorem twelve_some {v : GValue} (hn : -999999999999999999 ≤ v.n ∧ v.n ≤ 999999999999999999) (hs : 0 ≤ v.scale ∧ v.scale ≤ 12) : ∃ r, ref1_twelve v = some r ∧ r.d.length < 1000000000 := by
  obtain ⟨m, h1, h2⟩ := wide_some (p := v.n) 18 BIG [] v.n (by omega) (by omega) (by rw [big_val]; omega) (by simp)
  unfold ref1_twelve
  have h3 : ref1_wideOf v.n = some (RWide.mk (decide (v.n < (0 : Int))) m) := h1
  rw [h3, bnd_s, w64 (x := 12 - v.scale) (by omega) (by omega)]
  unfold ref1_tens
  by_cases h0 : m.length = 0
  · rw [show (((RWide.mk (decide (v.n < (0 : Int))) m).d.length : Int) == 0) = true by simp [h0], iftT, bnd_s]
    exact ⟨_, rfl, by show m.length < _; omega⟩
  · rw [show (((RWide.mk (decide (v.n < (0 : Int))) m).d.length : Int) == 0) = false by simp; intro h; rw [h] at h0; exact h0 rfl, iftF, grd_p (by omega), grd_p (by rw [List.length_replicate]; show _ + m.length ≤ _; omega), bnd_s]
    exact ⟨_, rfl, by show (List.replicate _ _ ++ m).length < _; rw [List.length_append, List.length_replicate]; omega⟩

theorem dec_self {v : GValue} (hn : -999999999999999999 ≤ v.n ∧ v.n ≤ 999999999999999999) (hs : 0 ≤ v.scale ∧ v.scale ≤ 12) : ref1_decimals v v = some 0 := by
  obtain ⟨r, h1, h2⟩ := twelve_some hn hs
  unfold ref1_decimals
  rw [rWithin, bnd_s, bnd_s, show ((decide (0 ≤ v.scale) && decide (v.scale ≤ 12)) == (decide (0 ≤ v.scale) && decide (v.scale ≤ 12))) = true by simp, Bool.not_true, iftF, decide_eq_true hs.1, decide_eq_true hs.2, Bool.and_self, iftT, h1, bnd_s, bnd_s, cwide_self h2, bnd_s, bne_self_eq_false, iftF, order_self]
  rfl

theorem texts_self {s : ByteArray} (hs : s.size < 1000000000) : ref1_texts s s = some 0 := by
  have : ∀ (m f i : Nat), i + m = s.size → m < f → ref1_texts_l1 s s f (i : Int) = some 0 := by
    intro m
    induction m with
    | zero =>
      intro f i hi hf
      obtain ⟨f, rfl⟩ := fuel hf
      rw [ref1_texts_l1, dec_ge (by omega), iftF]
      unfold ref1_texts_j1 ref1_texts_j2
      rw [iftF, order_self]; rfl
    | succ m ih =>
      intro f i hi hf
      obtain ⟨f, rfl⟩ := fuel hf
      have h1 : i < s.size := by omega
      rw [ref1_texts_l1, dec_lt h1, iftT]
      unfold ref1_texts_j1
      rw [iftT, grd_p (by omega), grd_p (by omega), bnd_s, bne_self_eq_false, iftF, wrap_succ h1 hs, ih f (i + 1) (by omega) (by omega)]
  exact this s.size BIG 0 (by omega) (by rw [big_val]; omega)

theorem dec_of_plain {v : GValue} (h : plainOk v = true) (hk : v.kind = 3) : (-999999999999999999 ≤ v.n ∧ v.n ≤ 999999999999999999) ∧ (0 ≤ v.scale ∧ v.scale ≤ 12) := by
  unfold plainOk at h
  simp [hk] at h
  omega

theorem compare_j1 (q : GValue → GValue → Option Int) {v : GValue} (hs : v.s.size < 1000000000) (hi : v.items.length ≤ 4000000000) (hq : ∀ x ∈ v.items, q x x = some 0) : ref1_Compare_j1 q v v = some 0 := by
  have : ∀ (m f i : Nat), i + m = v.items.length → m < f → ref1_Compare_l1 q v v f (i : Int) = some 0 := by
    intro m
    induction m with
    | zero =>
      intro f i hi hf
      obtain ⟨f, rfl⟩ := fuel hf
      rw [ref1_Compare_l1, dec_ge (by omega), iftF]
      unfold ref1_Compare_j3 ref1_Compare_j4
      rw [iftF, order_self]; rfl
    | succ m ih =>
      intro f i hi hf
      obtain ⟨f, rfl⟩ := fuel hf
      have h1 : i < v.items.length := by omega
      rw [ref1_Compare_l1, dec_lt h1, iftT]
      unfold ref1_Compare_j3
      rw [iftT, at_nat h1, bnd_s, bnd_s, hq _ (List.getElem_mem h1), bnd_s, bne_self_eq_false, iftF, w64 (x := (i : Int) + 1) (by omega) (by omega), show (i : Int) + 1 = ((i + 1 : Nat) : Int) by omega, ih f (i + 1) (by omega) (by omega)]
  unfold ref1_Compare_j1 ref1_Compare_j2
  rw [bne_self_eq_false, iftF, iftF, bne_self_eq_false, iftF, texts_self hs, bnd_s, bne_self_eq_false, iftF]
  exact this v.items.length BIG 0 (by omega) (by rw [big_val]; omega)

/-- a value that can be compared, of d levels -/
def RsD : Nat → GValue → Prop
  | 0, _ => False
  | d + 1, v => v.s.size < 1000000000 ∧ v.items.length ≤ 4000000000 ∧ (v.kind = 3 → (-999999999999999999 ≤ v.n ∧ v.n ≤ 999999999999999999) ∧ (0 ≤ v.scale ∧ v.scale ≤ 12)) ∧ ∀ x ∈ v.items, RsD d x

theorem compare_self : ∀ (d k : Nat) (v : GValue), RsD d v → d ≤ k → ref1_Compare k v v = some 0
  | 0, _, _, h, _ => h.elim
  | d + 1, k, v, h, hk => by
    obtain ⟨k, rfl⟩ := fuel (m := d) (f := k) hk
    obtain ⟨h1, h2, h3, h4⟩ := h
    have hj := compare_j1 (ref1_Compare k) h1 h2 (fun x hx => compare_self d k x (h4 x hx) (by omega))
    rw [ref1_Compare, show ((v.kind == 0) == (v.kind == 0)) = true by simp, Bool.not_true, iftF, bne_self_eq_false, iftF, hj]
    by_cases h0 : v.kind = 0
    · rw [show (v.kind == 0) = true by simp [h0], iftT]
    · rw [show (v.kind == 0) = false by simp [h0], iftF]
      by_cases h5 : v.kind = 3
      · obtain ⟨a, b⟩ := h3 h5
        rw [show (v.kind == 3) = true by simp [h5], iftT, dec_self a b, bnd_s, bne_self_eq_false, iftF]
      · rw [show (v.kind == 3) = false by simp [h5], iftF]

theorem crows_self {l : List GValue} (h : ∀ v ∈ l, RsD 4 v) (hl : l.length ≤ 4000000000) : ref1_CompareRows l l = some 0 := by
  unfold ref1_CompareRows
  have h0 : RsD 5 (GValue.mk (6 : Int) (0 : Int) (0 : Int) ByteArray.empty l) := ⟨by show ByteArray.empty.size < _; rw [empty_size]; omega, hl, fun hk => absurd hk (by show ¬ (6 : Int) = 3; omega), h⟩
  have := compare_self 5 BIG _ h0 (by rw [big_val]; omega)
  rw [this]; rfl

theorem rows_self {l : List (List GValue)} (h : ∀ r ∈ l, (∀ v ∈ r, RsD 4 v) ∧ r.length ≤ 4000000000) (hl : l.length < 1000000000) : law2_rows l l = some true := by
  have : ∀ (m f i : Nat), i + m = l.length → m < f → law2_rows_l1 l l f (i : Int) = some true := by
    intro m
    induction m with
    | zero => intro f i hi hf; obtain ⟨f, rfl⟩ := fuel hf; rw [law2_rows_l1, dec_ge (by omega), iftF]; rfl
    | succ m ih =>
      intro f i hi hf
      obtain ⟨f, rfl⟩ := fuel hf
      have h1 : i < l.length := by omega
      have h2 := h _ (List.getElem_mem h1)
      unfold law2_rows_l1 law2_rows_j1
      rw [dec_lt h1, iftT, at_nat h1, bnd_s, bnd_s, bne_self_eq_false, iftF, crows_self h2.1 h2.2, bnd_s, bne_self_eq_false, iftF, wrap_succ h1 hl]
      exact ih f (i + 1) (by omega) (by omega)
  unfold law2_rows
  rw [bne_self_eq_false, iftF]
  exact this l.length BIG 0 (by omega) (by rw [big_val]; omega)

theorem of_kind {d : Nat} {t : GType} {v : GValue} (h : ofD (d + 1) t v = true) : v.kind = 0 ∨ v.kind = t.kind := by
  simp only [ofD] at h
  by_cases h0 : v.kind = 0
  · exact .inl h0
  · rw [if_neg h0] at h
    by_cases h1 : v.kind = t.kind
    · exact .inr h1
    · rw [if_pos h1] at h; cases h

theorem of_rec {d : Nat} {t : GType} {v : GValue} (h : ofD (d + 1) t v = true) (hk : v.kind = t.kind) (h7 : t.kind = 7) : t.fields.length = v.items.length := by
  simp only [ofD] at h
  rw [if_neg (by omega), if_neg (fun hh => hh hk), if_neg (by omega)] at h
  by_cases h1 : t.fields.length = v.items.length
  · exact h1
  · rw [if_pos ⟨by omega, h1⟩] at h; cases h

/-- what is known of a value that was checked -/
theorem ck_ok {t : GType} {v : GValue} (hv : sizeV v < 1000000000) (hT : sizeT t < 1000000000) (h : ck t v = 0) : V t ∧ Snd 4 v ∧ ofD 4 t v = true := by
  obtain ⟨e, h1, h2, h3⟩ := checkType_eq t hT
  have hc := ck_c hv hT
  rw [h] at hc
  unfold value_Check at hc
  rw [h1, vSound v hv] at hc
  simp only [bnd_some'] at hc
  by_cases he : e = 0
  · subst he
    have ht := h3 rfl
    cases hs : soundB v with
    | false => rw [hs] at hc; cases hc
    | true =>
      have hS : Snd 4 v := ⟨0, hs⟩
      obtain ⟨a, b⟩ := of_eq 4 BIG BIG t v hS ht hv hT (by rw [big_val]; omega) (by rw [big_val]; omega)
      rw [hs, a] at hc
      cases ho : ofD 4 t v with
      | false => rw [ho] at hc; cases hc
      | true => exact ⟨ht, hS, rfl⟩
  · rw [show (e != (0 : Int)) = true by simp [he]] at hc
    cases hc; exact absurd rfl he

end Go.Proofs.YtieiahlgllbklaaGreatDoor
namespace Go.Proofs.YtieiahlgllbklaaGreatDoor
open Go Go.SX Go.SX.Cal Go.Lib
set_option linter.unusedVariables false
set_option linter.unusedSimpArgs false

theorem wu (x : Int) : IntKind.u64.wrap x = x % 18446744073709551616 := rfl

theorem sound_leaf {v : GValue} (h : v.items = []) : soundB v = plainOk v := by
  unfold soundB soundD
  have hc : ¬ 256 < cnt v 0 := by unfold cnt; split <;> omega
  cases hp : plainOk v
  · rw [if_pos (.inr rfl)]
  · rw [if_neg (by simp [hc]), h]; rfl

theorem eta_v : ∀ v : GValue, GValue.mk v.kind v.n v.scale v.s v.items = v
  | ⟨_, _, _, _, _⟩ => rfl

theorem num_shape {v : GValue} (h : plainOk v = true) (hk : v.kind = 1 ∨ v.kind = 2 ∨ v.kind = 3) : v.s = ByteArray.empty ∧ v.items = [] ∧ -999999999999999999 ≤ v.n ∧ v.n ≤ 999999999999999999 := by
  refine ⟨?_, plain_items h (by omega) (by omega), ?_⟩
  · unfold plainOk at h
    rcases hk with hk | hk | hk <;> simp [hk] at h
    · exact h.2.2.1
    · exact h.2.2.1
    · exact h.2.2.1
  · unfold plainOk at h
    rcases hk with hk | hk | hk <;> simp [hk] at h <;> omega

theorem size_small {k n s : Int} : sizeV ⟨k, n, s, ByteArray.empty, []⟩ < 1000000000 := by
  rw [sizeV_eq]; simp only [sizeL, empty_size]; omega

/-- the number that a word of a number stands for -/
theorem made_num {k n sc : Int} (h : -999999999999999999 ≤ n ∧ n ≤ 999999999999999999) (hp : plainOk ⟨k, n, sc, ByteArray.empty, []⟩ = true) :
    (bnd (value_whole n) fun r2 => bnd (value_rescaled (GWide.mk r2.neg (r2.size.1, r2.size.2.1, r2.size.2.2.1, r2.size.2.2.2)) sc sc) fun r3 =>
      bnd (value_made k (GWide.mk r3.neg (r3.size.1, r3.size.2.1, r3.size.2.2.1, r3.size.2.2.2)) sc) fun r4 => some r4) = some ⟨k, n, sc, ByteArray.empty, []⟩ := by
  have hs : ∀ (b : Bool) (a : Int), value_rescaled (GWide.mk b (a, 0, 0, 0)) sc sc = some (GWide.mk b (a, 0, 0, 0)) := by
    intro b a
    unfold value_rescaled value_wide_shifted
    rw [decide_eq_true (Int.le_refl _), iftT, Int.sub_self, show IntKind.i64.wrap 0 = 0 from rfl, big_succ, value_wide_shifted_l1, decide_eq_false (by omega), iftF]
    rfl
  have hm : ∀ (b : Bool) (a : Int), 0 ≤ a → a ≤ 999999999999999999 → (if b = true then -a else a) = n → value_made k (GWide.mk b (a, 0, 0, 0)) sc = some ⟨k, n, sc, ByteArray.empty, []⟩ := by
    intro b a h0 h1 he
    have hnum : value_wide_number (GWide.mk b (a, 0, 0, 0)) = some (n, true) := by
      unfold value_wide_number value_wide_number_j1
      simp only [bnd_s]
      rw [show (IntKind.u64.wrap ((BitVec.ofInt IntKind.u64.bits 0 ||| BitVec.ofInt IntKind.u64.bits 0).toNat : Int)) = 0 from by decide, show (IntKind.u64.wrap ((BitVec.ofInt IntKind.u64.bits 0 ||| BitVec.ofInt IntKind.u64.bits 0).toNat : Int) != 0) = false from by decide, iftF, decide_eq_false (by omega), iftF, w64 (x := a) (by omega) (by omega), w64 (by omega) (by omega)]
      cases b
      · rw [iftF, ← he]; rfl
      · rw [iftT, ← he, Int.zero_sub]; rfl
    unfold value_made value_made_j1
    rw [hnum, bnd_s]
    simp only [Bool.not_true, iftF]
    rw [vSound _ size_small, bnd_s, sound_leaf rfl, hp]
    rfl
  unfold value_whole
  by_cases h0 : n < 0
  · rw [decide_eq_true h0, iftT, bnd_s]
    simp only
    rw [hs, bnd_s]
    simp only
    rw [hm _ _ (by rw [wu, wu]; omega) (by rw [wu, wu]; omega) (by rw [if_pos rfl, wu, wu]; omega), bnd_s]
  · rw [decide_eq_false h0, iftF, bnd_s]
    simp only
    rw [hs, bnd_s]
    simp only
    rw [hm _ _ (by rw [wu]; omega) (by rw [wu]; omega) (by rw [if_neg (by decide), wu]; omega), bnd_s]

theorem cast_num {v : GValue} {u : GType} (h : plainOk v = true) (hk : v.kind = 1 ∨ v.kind = 2 ∨ v.kind = 3) (hu : u.kind = 2 ∨ u.kind = 3) (hne : v.kind ≠ u.kind ∨ u.kind = 3) (hsc : v.scale = u.scale)
    (hp : plainOk ⟨u.kind, v.n, v.scale, ByteArray.empty, []⟩ = true) : value_cast v u = some ⟨u.kind, v.n, v.scale, ByteArray.empty, []⟩ := by
  obtain ⟨_, _, hn⟩ := num_shape h hk
  have hj2 : value_cast_j2 v u false = some ⟨u.kind, v.n, v.scale, ByteArray.empty, []⟩ := by
    unfold value_cast_j2 value_cast_j3
    rw [iftF, show (u.kind == 4) = false by simp; omega, iftF, show (v.kind == 4) = false by simp; omega, iftF, show (u.kind == 1) = false by simp; omega, iftF, iftF, ← hsc]
    exact made_num hn hp
  unfold value_cast value_cast_j1
  rw [show (v.kind == 0) = false by simp; omega, iftF, show (v.kind == 6) = false by simp; omega, iftF, show (v.kind == 7) = false by simp; omega, iftF]
  by_cases he : v.kind = u.kind
  · rw [show (v.kind == u.kind) = true by simp [he], iftT, show (u.kind != 3) = false by simp; omega, hj2]
  · rw [show (v.kind == u.kind) = false by simp [he], iftF, hj2]

theorem Cast_of {v r : GValue} {u : GType} (hv : sizeV v < 1000000000) (hr : sizeV r < 1000000000) (h : value_cast v u = some r) (hi : v.items = []) (hk7 : v.kind ≠ 7) (hp : plainOk v = true) (ht : value_CheckType u = some 0) (hc : value_can v.kind u.kind = some true) (hri : r.items = []) (hrp : plainOk r = true) :
    value_Cast v u = some r := by
  have hcv : value_canValue BIG v u = some true := by
    rw [big_succ, value_canValue]
    by_cases h0 : v.kind = 0
    · rw [show (v.kind == 0) = true by simp [h0], iftT]
    · rw [show (v.kind == 0) = false by simp [h0], iftF, hc, bnd_s, Bool.not_true, iftF, show (v.kind == 7) = false by simp [hk7], iftF]
      unfold value_canValue_j1
      rw [iftF, big_succ, value_canValue_l1, hi]
      rfl
  unfold value_Cast value_Cast_j1
  rw [vSound v hv, bnd_s, sound_leaf hi, hp, Bool.not_true, iftF, ht, bnd_s, bne_self_eq_false, iftF, hcv, bnd_s, Bool.not_true, iftF, h, bnd_s, vSound r hr, bnd_s, sound_leaf hri, hrp, Bool.not_true, iftF]

/-- what widens -/
def Wd (t u : GType) : Prop := (t.kind = u.kind ∧ t.scale = u.scale) ∨ (t.kind = 1 ∧ u.kind = 2) ∨ ((t.kind = 1 ∨ t.kind = 2) ∧ u.kind = 3 ∧ u.scale = 0)

def widV (v : GValue) (u : GType) : GValue := ⟨u.kind, v.n, v.scale, v.s, v.items⟩

theorem check_int : value_CheckType ⟨2, 0, []⟩ = some 0 := by
  unfold value_CheckType
  rw [big_succ]
  rfl

theorem check_bool : value_CheckType ⟨1, 0, []⟩ = some 0 := by
  unfold value_CheckType
  rw [big_succ]
  rfl

theorem can_same {k : Int} (h : 1 ≤ k ∧ k ≤ 5) : value_can k k = some true := by
  have : k = 1 ∨ k = 2 ∨ k = 3 ∨ k = 4 ∨ k = 5 := by omega
  rcases this with rfl | rfl | rfl | rfl | rfl <;> rfl

theorem kind_le {v : GValue} (h : plainOk v = true) (h0 : v.kind ≠ 0) (h6 : v.kind ≠ 6) (h7 : v.kind ≠ 7) : 1 ≤ v.kind ∧ v.kind ≤ 5 := by
  unfold plainOk at h
  simp only at h
  by_cases h1 : v.kind = 1
  · omega
  by_cases h2 : v.kind = 2
  · omega
  by_cases h3 : v.kind = 3
  · omega
  by_cases h4 : v.kind = 4
  · omega
  by_cases h5 : v.kind = 5
  · omega
  rw [if_neg h0, if_neg h1, if_neg h2, if_neg h3, if_neg h4, if_neg h5, if_neg h6, if_neg h7] at h
  cases h

theorem wid_plain {v : GValue} {u : GType} (hp : plainOk v = true) (hs : v.kind = 1 ∨ v.kind = 2) (hu : u.kind = 2 ∨ u.kind = 3) : plainOk ⟨u.kind, v.n, v.scale, ByteArray.empty, []⟩ = true := by
  obtain ⟨_, _, h1, h2⟩ := num_shape hp (by omega)
  have h3 := plain_scale hp (by omega)
  unfold plainOk
  rcases hu with hu | hu <;> simp [hu, h3, h1, h2]

theorem wid_eq {v : GValue} {u : GType} (hs : v.s = ByteArray.empty) (hi : v.items = []) : widV v u = ⟨u.kind, v.n, v.scale, ByteArray.empty, []⟩ := by
  unfold widV; rw [hs, hi]

/-- a leaf is widened -/
theorem widened_eq {v : GValue} {t u : GType} (hv : sizeV v < 1000000000) (hp : plainOk v = true) (h0 : v.kind ≠ 0) (h6 : v.kind ≠ 6) (h7 : v.kind ≠ 7) (hk : v.kind = t.kind) (h3 : v.kind = 3 → v.scale = t.scale) (hw : Wd t u) (hV : V u) (hc : value_CheckType u = some 0) :
    column_widened v u = some (widV v u) ∧ plainOk (widV v u) = true := by
  have hkl := kind_le hp h0 h6 h7
  have hi := plain_items hp h6 h7
  have hcast : ∀ w, value_Cast v u = some w → (v.kind = 1 ∧ u.kind = 3 → False) → column_widened v u = some w := by
    intro w hw hn
    unfold column_widened column_widened_j1 column_widened_j2
    have hx : GValue.mk v.kind v.n v.scale v.s v.items = v := eta_v v
    by_cases h1 : v.kind = 1
    · rw [show (v.kind == 1) = true by simp [h1], iftT, show (u.kind == 3) = false by simp; intro h; exact hn ⟨h1, h⟩, iftF, hx, hw, bnd_s]
    · rw [show (v.kind == 1) = false by simp [h1], iftF, iftF, hx, hw, bnd_s]
  have hnum : (v.kind = 1 ∧ u.kind = 2) ∨ (v.kind = 2 ∧ u.kind = 3 ∧ u.scale = 0) → value_Cast v u = some (widV v u) ∧ plainOk (widV v u) = true := by
    intro h
    have hs : v.scale = u.scale := by
      rw [plain_scale hp (by omega)]
      rcases h with h | h
      · rw [hV.scale (by omega)]
      · exact h.2.2.symm
    obtain ⟨ha, hb, _⟩ := num_shape hp (by omega)
    have hpp := wid_plain (u := u) hp (by omega) (by omega)
    rw [wid_eq ha hb]
    refine ⟨Cast_of hv size_small (cast_num hp (by omega) (by omega) (by omega) hs hpp) hb h7 hp hc ?_ rfl hpp, hpp⟩
    rcases h with ⟨h, h'⟩ | ⟨h, h', _⟩ <;> rw [h, h'] <;> rfl
  rcases hw with ⟨hw, hw2⟩ | ⟨hw, hw2⟩ | ⟨hw, hw2, hw3⟩
  · have hke : v.kind = u.kind := by omega
    have he : widV v u = v := by unfold widV; rw [← hke]; exact eta_v v
    rw [he]
    refine ⟨hcast v ?_ (by omega), hp⟩
    refine Cast_of hv hv ?_ hi h7 hp hc (by rw [← hke]; exact can_same hkl) hi hp
    by_cases hk3 : u.kind = 3
    · obtain ⟨ha, hb, _⟩ := num_shape hp (by omega)
      have hx : (⟨u.kind, v.n, v.scale, ByteArray.empty, []⟩ : GValue) = v := by rw [← wid_eq ha hb, he]
      rw [cast_num (u := u) hp (by omega) (by omega) (by omega) (by rw [h3 (by omega)]; exact hw2) (by rw [hx]; exact hp), hx]
    · unfold value_cast value_cast_j1 value_cast_j2
      rw [show (v.kind == 0) = false by simp [h0], iftF, show (v.kind == 6) = false by simp [h6], iftF, show (v.kind == 7) = false by simp [h7], iftF, show (v.kind == u.kind) = true by simp [hke], iftT, show (u.kind != 3) = true by simp [hk3], iftT]
  · obtain ⟨a, b⟩ := hnum (.inl ⟨by omega, hw2⟩)
    exact ⟨hcast _ a (by omega), b⟩
  · by_cases h1 : v.kind = 1
    · obtain ⟨ha, hb, _⟩ := num_shape hp (by omega)
      have hsc := plain_scale hp (by omega)
      have hpp := wid_plain (v := v) (u := ⟨2, 0, []⟩) hp (by omega) (.inl rfl)
      have hc1 : value_Cast v ⟨2, 0, []⟩ = some ⟨2, v.n, v.scale, ByteArray.empty, []⟩ :=
        Cast_of hv size_small (cast_num (u := ⟨2, 0, []⟩) hp (by omega) (.inl rfl) (by left; rw [h1]; decide) hsc hpp) hb h7 hp check_int (by rw [h1]; rfl) rfl hpp
      have hp3 := wid_plain (u := u) hp (.inl h1) (.inr hw2)
      have hc2 : value_Cast ⟨2, v.n, v.scale, ByteArray.empty, []⟩ u = some ⟨u.kind, v.n, v.scale, ByteArray.empty, []⟩ :=
        Cast_of size_small size_small (cast_num (v := ⟨2, v.n, v.scale, ByteArray.empty, []⟩) (u := u) hpp (.inr (.inl rfl)) (.inr hw2) (.inr hw2) (by show v.scale = u.scale; omega) hp3) rfl (show (2 : Int) ≠ 7 by decide) hpp hc (by rw [hw2]; rfl) rfl hp3
      rw [wid_eq ha hb]
      refine ⟨?_, hp3⟩
      unfold column_widened column_widened_j1 column_widened_j2
      rw [show (v.kind == 1) = true by simp [h1], iftT, show (u.kind == 3) = true by simp [hw2], iftT, hc1, bnd_s]
      simp only
      rw [hc2, bnd_s]
    · obtain ⟨a, b⟩ := hnum (.inr ⟨by omega, hw2, hw3⟩)
      exact ⟨hcast _ a (by omega), b⟩

theorem ref_widen {v : GValue} {u : GType} (h0 : v.kind ≠ 0) : ref2_Widen v u = some (widV v u) := by
  unfold ref2_Widen ref2_Widen_j1
  rw [show (v.kind != 0) = true by simp [h0], iftT]
  rfl

end Go.Proofs.YtieiahlgllbklaaGreatDoor
namespace Go.Proofs.YtieiahlgllbklaaGreatDoor
open Go Go.SX Go.SX.Cal Go.Lib
set_option linter.unusedVariables false
set_option linter.unusedSimpArgs false

theorem find_eq {p : List GField} (hl : p.length < 1000000000) (x : Int) : ∃ r, column_earlier p x = some r ∧ ref2_find p x = some r ∧ (r < 0 ∨ ∃ i : Nat, i < p.length ∧ r = (i : Int)) := by
  have key : ∀ (m f f' i : Nat), i + m = p.length → m < f → m < f' → ∃ r, slices_IndexFunc_api_Field_api_Field_of_column_earlier_1_l1 p x f (i : Int) = some r ∧ ref2_find_l1 p x f' (i : Int) = some r ∧ (r < 0 ∨ ∃ i : Nat, i < p.length ∧ r = (i : Int)) := by
    intro m
    induction m with
    | zero =>
      intro f f' i hi hf hf'
      obtain ⟨f, rfl⟩ := fuel hf
      obtain ⟨f', rfl⟩ := fuel hf'
      rw [slices_IndexFunc_api_Field_api_Field_of_column_earlier_1_l1, ref2_find_l1, dec_ge (by omega), iftF, iftF]
      exact ⟨-1, rfl, rfl, .inl (by omega)⟩
    | succ m ih =>
      intro f f' i hi hf hf'
      obtain ⟨f, rfl⟩ := fuel hf
      obtain ⟨f', rfl⟩ := fuel hf'
      have h1 : i < p.length := by omega
      rw [slices_IndexFunc_api_Field_api_Field_of_column_earlier_1_l1, ref2_find_l1, dec_lt h1, iftT, iftT, at_nat h1, bnd_s, bnd_s, column_earlier_1_s, bnd_s]
      cases he : (p[i].id == x) with
      | true => rw [iftT, iftT]; exact ⟨i, rfl, rfl, .inr ⟨i, h1, rfl⟩⟩
      | false => rw [iftF, iftF, wrap_succ h1 hl]; exact ih f f' (i + 1) (by omega) (by omega) (by omega)
  obtain ⟨r, h1, h2, h3⟩ := key p.length BIG BIG 0 (by omega) (by rw [big_val]; omega) (by rw [big_val]; omega)
  refine ⟨r, ?_, h2, h3⟩
  unfold column_earlier slices_IndexFunc_api_Field_api_Field_of_column_earlier_1
  rw [show ((0 : Nat) : Int) = 0 from rfl] at h1
  rw [h1, bnd_s]

theorem leafT {t : GType} {e : Int} (h : value_CheckType t = some e) : column_leafType t = some (if e ≠ 0 then e else if t.kind = 6 ∨ t.kind = 7 then 2 else 0) := by
  unfold column_leafType column_leafType_j1
  rw [h, bnd_s]
  by_cases he : e = 0
  · subst he
    by_cases h6 : t.kind = 6
    · simp [h6, ift_ite]
    · by_cases h7 : t.kind = 7 <;> simp [h6, h7, ift_ite]
  · simp [he, ift_ite]

/-- what is known of two types of which one widens to the other -/
structure WdT (t u : GType) : Prop where
  a : V t
  b : V u
  c : value_CheckType u = some 0
  l : t.kind ≠ 6 ∧ t.kind ≠ 7
  m : u.kind ≠ 6 ∧ u.kind ≠ 7
  w : Wd t u

def wdB (t u : GType) : Bool := (t.kind == u.kind && t.scale == u.scale) || (t.kind == 1 && u.kind == 2) || ((t.kind == 1 || t.kind == 2) && u.kind == 3 && u.scale == 0)

theorem Widens_eq (t u : GType) (ht : sizeT t < 1000000000) (hu : sizeT u < 1000000000) : ∃ b, column_Widens t u = some b ∧ ref2_Widens t u = some b ∧ (b = true → WdT t u) := by
  obtain ⟨e, a1, a2, a3⟩ := checkType_eq t ht
  obtain ⟨e', b1, b2, b3⟩ := checkType_eq u hu
  have hc : column_Widens_j1 t u false = some (wdB t u) := by
    unfold column_Widens_j1 column_Widens_j2 column_Widens_j3 column_Widens_j4 wdB
    simp only [ift_ite, beq_iff_eq]
    repeat' split
    all_goals (first | rfl | (simp_all; done) | (simp_all; omega))
  have hr : ref2_Widens_j1 t u false = some (wdB t u) := by
    unfold ref2_Widens_j1 ref2_Widens_j2 ref2_Widens_j3 ref2_Widens_j4 wdB
    simp only [ift_ite, beq_iff_eq]
    repeat' split
    all_goals (first | rfl | (simp_all; done) | (simp_all; omega) | (refine congrArg some (Bool.eq_iff_iff.2 ?_); simp_all; try omega))
  have hc0 : column_Widens_j1 t u true = some false := rfl
  have hr0 : ref2_Widens_j1 t u true = some false := rfl
  have hC : column_Widens t u = some (decide (e = 0 ∧ e' = 0 ∧ (t.kind ≠ 6 ∧ t.kind ≠ 7) ∧ (u.kind ≠ 6 ∧ u.kind ≠ 7)) && wdB t u) := by
    unfold column_Widens
    rw [leafT a1, leafT b1, bnd_s, bnd_s]
    by_cases he : e = 0 <;> by_cases he' : e' = 0 <;> by_cases h1 : t.kind = 6 ∨ t.kind = 7 <;> by_cases h2 : u.kind = 6 ∨ u.kind = 7 <;> simp [he, he', show ¬ e' = 0 → (e' != 0) = true from fun h => by simp [h], ift_ite, hc, hc0, h1, h2, show (t.kind ≠ 6 ∧ t.kind ≠ 7) ↔ ¬ (t.kind = 6 ∨ t.kind = 7) from by omega, show (u.kind ≠ 6 ∧ u.kind ≠ 7) ↔ ¬ (u.kind = 6 ∨ u.kind = 7) from by omega]
  have hR : ref2_Widens t u = some (decide (e = 0 ∧ e' = 0 ∧ (t.kind ≠ 6 ∧ t.kind ≠ 7) ∧ (u.kind ≠ 6 ∧ u.kind ≠ 7)) && wdB t u) := by
    unfold ref2_Widens
    simp only [a2, b2, leafR, bnd_s]
    by_cases he : e = 0 <;> by_cases he' : e' = 0 <;> by_cases h1 : t.kind ≠ 6 ∧ t.kind ≠ 7 <;> by_cases h2 : u.kind ≠ 6 ∧ u.kind ≠ 7 <;> simp [he, he', h1, h2, ift_ite, hr, hr0]
  refine ⟨_, hC, hR, fun h => ?_⟩
  rw [Bool.and_eq_true, decide_eq_true_iff] at h
  obtain ⟨⟨he, he', h6, h7⟩, hw⟩ := h
  subst he; subst he'
  refine ⟨a3 rfl, b3 rfl, b1, h6, h7, ?_⟩
  unfold wdB at hw
  simp at hw
  unfold Wd
  omega

theorem grouped_eq (t : GType) : column_grouped t = some (decide (t.kind = 6 ∨ t.kind = 7)) := by
  unfold column_grouped column_grouped_j1
  by_cases h6 : t.kind = 6 <;> by_cases h7 : t.kind = 7 <;> simp [h6, h7, ift_ite]

/-- a field's types: one becomes the other -/
def AdT (q : List GField → List GField → Prop) (t u : GType) : Prop := (t.kind ≠ 6 ∧ t.kind ≠ 7 → WdT t u) ∧ (¬ (t.kind ≠ 6 ∧ t.kind ≠ 7) → t.kind = u.kind ∧ q t.fields u.fields)

def AdpD : Nat → List GField → List GField → Prop
  | 0, _, _ => True
  | d + 1, p, q => ∀ f ∈ q, ∀ (i : Nat) (g : GField), ref2_find p f.id = some (i : Int) → p[i]? = some g → AdT (AdpD d) g.type f.type

theorem adaptable_eq : ∀ (N k k' : Nat) (p q : List GField), sizeF q ≤ N → N < k → N < k' → sizeF p < 1000000000 → sizeF q < 1000000000 → ∃ e, column_adaptable k p q = some e ∧ ref2_adaptable k' p q = some e ∧ (e = 0 → ∀ d, AdpD d p q) := by
  intro N
  induction N with
  | zero =>
    intro k k' p q h hk hk' hp hq
    obtain ⟨k, rfl⟩ := fuel hk
    obtain ⟨k', rfl⟩ := fuel hk'
    have hl := sizeF_len q
    have : q = [] := List.length_eq_zero_iff.1 (by omega)
    subst this
    rw [column_adaptable, ref2_adaptable, big_succ, column_adaptable_l1, ref2_adaptable_l1]
    refine ⟨0, rfl, rfl, fun _ d => ?_⟩
    cases d with
    | zero => trivial
    | succ d => exact fun f hf => by cases hf
  | succ N ih =>
    intro k k' p q h hk hk' hp hq
    obtain ⟨k, rfl⟩ := fuel hk
    obtain ⟨k', rfl⟩ := fuel hk'
    have hpl := sizeF_len p
    have hql := sizeF_len q
    have key : ∀ (m f f' i : Nat), i + m = q.length → m < f → m < f' → ∃ e, column_adaptable_l1 (column_adaptable k) p q f (i : Int) = some e ∧ ref2_adaptable_l1 (ref2_adaptable k') p q f' (i : Int) = some e ∧
        (e = 0 → ∀ d, ∀ f ∈ q.drop i, ∀ (i : Nat) (g : GField), ref2_find p f.id = some (i : Int) → p[i]? = some g → AdT (AdpD d) g.type f.type) := by
      intro m
      induction m with
      | zero =>
        intro f f' i hi hf hf'
        obtain ⟨f, rfl⟩ := fuel hf
        obtain ⟨f', rfl⟩ := fuel hf'
        rw [column_adaptable_l1, ref2_adaptable_l1, dec_ge (by omega), iftF, iftF, List.drop_of_length_le (by omega)]
        exact ⟨0, rfl, rfl, fun _ d f hf => by cases hf⟩
      | succ m ih2 =>
        intro f f' i hi hf hf'
        obtain ⟨f, rfl⟩ := fuel hf
        obtain ⟨f', rfl⟩ := fuel hf'
        have h1 : i < q.length := by omega
        obtain ⟨e, c1, c2, c3⟩ := ih2 f f' (i + 1) (by omega) (by omega) (by omega)
        obtain ⟨r, r1, r2, r3⟩ := find_eq (p := p) (by omega) q[i].id
        rw [column_adaptable_l1, ref2_adaptable_l1, dec_lt h1, iftT, iftT, at_nat h1, bnd_s, bnd_s, r1, bnd_s, r2, bnd_s, drop_at h1]
        unfold column_adaptable_j4 ref2_adaptable_j3
        rw [wrap_succ h1 (by omega)]
        rcases r3 with r3 | ⟨j, hj, rfl⟩
        · rw [decide_eq_true r3, iftT, iftT]
          cases hn : q[i].need with
          | true => rw [iftT, iftT]; exact ⟨9, rfl, rfl, fun h => by cases h⟩
          | false =>
            rw [iftF, iftF]
            refine ⟨e, c1, c2, fun he d x hx j g hg hpj => ?_⟩
            rcases List.mem_cons.1 hx with rfl | hx
            · rw [r2] at hg; cases hg; omega
            · exact c3 he d x hx j g hg hpj
        · rw [decide_eq_false (by omega), iftF, iftF, at_nat hj, bnd_s, bnd_s]
          have hqi := sizeF_mem (List.getElem_mem h1)
          have hpj := sizeF_mem (List.getElem_mem hj)
          have hqi2 := sizeFd_eq q[i]
          have hpj2 := sizeFd_eq p[j]
          have hqi3 := sizeT_eq q[i].type
          have hpj3 := sizeT_eq p[j].type
          obtain ⟨y, y1, y2, y3⟩ := ih k k' p[j].type.fields q[i].type.fields (by omega) (by omega) (by omega) (by omega) (by omega)
          obtain ⟨b, b1, b2, b3⟩ := Widens_eq p[j].type q[i].type (by omega) (by omega)
          -- what follows when the types suit
          have hgo : ∀ (hat : (∀ d, AdpD d p[j].type.fields q[i].type.fields) → ∀ d, AdT (AdpD d) p[j].type q[i].type),
              ∃ e, column_adaptable_j3 (column_adaptable k) (column_adaptable_l1 (column_adaptable k) p q f) (i : Int) q[i] p[j] false = some e ∧ ref2_adaptable_j2 (ref2_adaptable_l1 (ref2_adaptable k') p q f') (ref2_adaptable k') (i : Int) q[i] p[j] false = some e ∧
                (e = 0 → ∀ d, ∀ f ∈ q[i] :: q.drop (i + 1), ∀ (i : Nat) (g : GField), ref2_find p f.id = some (i : Int) → p[i]? = some g → AdT (AdpD d) g.type f.type) := by
            intro hat
            unfold column_adaptable_j3 ref2_adaptable_j2 column_adaptable_j4 ref2_adaptable_j3
            rw [iftF, iftF, y1, bnd_s, y2, bnd_s, wrap_succ h1 (by omega)]
            by_cases hy : y = 0
            · subst hy
              rw [bne_self_eq_false, iftF, iftF]
              refine ⟨e, c1, c2, fun he d x hx j' g hg hpj' => ?_⟩
              rcases List.mem_cons.1 hx with rfl | hx
              · rw [r2] at hg
                have : j = j' := by have := Option.some.inj hg; omega
                subst this
                rw [List.getElem?_eq_getElem hj] at hpj'
                cases hpj'
                exact hat (y3 rfl) d
              · exact c3 he d x hx j' g hg hpj'
            · rw [show (y != 0) = true by simp [hy], iftT, iftT]
              exact ⟨y, rfl, rfl, fun h => absurd h hy⟩
          have h2c : column_adaptable_j3 (column_adaptable k) (column_adaptable_l1 (column_adaptable k) p q f) (i : Int) q[i] p[j] true = some 2 := rfl
          have h2r : ref2_adaptable_j2 (ref2_adaptable_l1 (ref2_adaptable k') p q f') (ref2_adaptable k') (i : Int) q[i] p[j] true = some 2 := rfl
          have hj1 : ∃ e, column_adaptable_j1 (column_adaptable k) (column_adaptable_l1 (column_adaptable k) p q f) (i : Int) q[i] p[j] false = some e ∧ ref2_adaptable_j1 (ref2_adaptable_l1 (ref2_adaptable k') p q f') (ref2_adaptable k') (i : Int) q[i] p[j] false = some e ∧
                (e = 0 → ∀ d, ∀ f ∈ q[i] :: q.drop (i + 1), ∀ (i : Nat) (g : GField), ref2_find p f.id = some (i : Int) → p[i]? = some g → AdT (AdpD d) g.type f.type) := by
            unfold column_adaptable_j1 ref2_adaptable_j1 column_adaptable_j2
            rw [iftF, iftF, grouped_eq, bnd_s, leafR, bnd_s]
            by_cases hlf : p[j].type.kind ≠ 6 ∧ p[j].type.kind ≠ 7
            · rw [decide_eq_true hlf, decide_eq_false (by omega)]
              simp only [Bool.not_true, Bool.not_false, iftT, iftF, bnd_s, b1, b2]
              cases b with
              | true => exact hgo fun _ d => ⟨fun _ => b3 rfl, fun h => absurd hlf h⟩
              | false => exact ⟨2, rfl, rfl, fun h => by cases h⟩
            · rw [decide_eq_false hlf, decide_eq_true (by omega)]
              simp only [Bool.not_true, Bool.not_false, iftT, iftF, bnd_s]
              by_cases hk : p[j].type.kind = q[i].type.kind
              · rw [show (q[i].type.kind != p[j].type.kind) = false by simp [hk], show (p[j].type.kind != q[i].type.kind) = false by simp [hk], iftF, iftF]
                exact hgo fun hh d => ⟨fun h => absurd h hlf, fun _ => ⟨hk, hh d⟩⟩
              · rw [show (q[i].type.kind != p[j].type.kind) = true by simp; omega, show (p[j].type.kind != q[i].type.kind) = true by simp; omega, iftT, iftT]
                exact ⟨2, rfl, rfl, fun h => by cases h⟩
          cases hn : q[i].need with
          | true =>
            rw [iftT, iftT]
            cases hm : p[j].need with
            | true => exact hj1
            | false => exact ⟨9, rfl, rfl, fun h => by cases h⟩
          | false => rw [iftF, iftF]; exact hj1
    obtain ⟨e, e1, e2, e3⟩ := key q.length BIG BIG 0 (by omega) (by rw [big_val]; omega) (by rw [big_val]; omega)
    refine ⟨e, e1, e2, fun he d => ?_⟩
    cases d with
    | zero => trivial
    | succ d => exact e3 he d

end Go.Proofs.YtieiahlgllbklaaGreatDoor
namespace Go.Proofs.YtieiahlgllbklaaGreatDoor
open Go Go.SX Go.SX.Cal Go.Lib
set_option linter.unusedVariables false
set_option linter.unusedSimpArgs false

def nullV : GValue := ⟨0, 0, 0, ByteArray.empty, []⟩

theorem clip_eq (l : List GValue) : slices_Clip_api_Value_api_Value l = some l := by
  unfold slices_Clip_api_Value_api_Value
  rw [grd_p ⟨by omega, by omega, by omega, by omega⟩]
  simp

theorem clip_rows (l : List (List GValue)) : slices_Clip_api_Value_api_Value_f13 l = some l := by
  unfold slices_Clip_api_Value_api_Value_f13
  rw [grd_p ⟨by omega, by omega, by omega, by omega⟩]
  simp

/-- a row, where the values are adapted alike -/
theorem row_eq {P : GValue → Prop} (hP : P nullV) (q1 q2 : GType → GType → GValue → Option GValue) {p q : List GField} {vs : List GValue} (hp : p.length < 1000000000) (hq : q.length < 1000000000) (hl : vs.length = p.length)
    (h : ∀ f ∈ q, ∀ (i : Nat) g v, ref2_find p f.id = some (i : Int) → p[i]? = some g → vs[i]? = some v → ∃ r, q1 g.type f.type v = some r ∧ q2 g.type f.type v = some r ∧ P r) :
    ∃ r, column_adapt_l1 q1 p q vs BIG [] 0 = some r ∧ ref2_adaptedRow_l1 q2 p q vs BIG [] 0 = some r ∧ r.length = q.length ∧ ∀ x ∈ r, P x := by
  have key : ∀ (m f f' i : Nat) (l : List GValue), i + m = q.length → m < f → m < f' → l.length = i → (∀ x ∈ l, P x) → ∃ r, column_adapt_l1 q1 p q vs f l (i : Int) = some r ∧ ref2_adaptedRow_l1 q2 p q vs f' l (i : Int) = some r ∧ r.length = q.length ∧ ∀ x ∈ r, P x := by
    intro m
    induction m with
    | zero =>
      intro f f' i l hi hf hf' hl hx
      obtain ⟨f, rfl⟩ := fuel hf
      obtain ⟨f', rfl⟩ := fuel hf'
      unfold column_adapt_l1 ref2_adaptedRow_l1 column_adapt_j2 ref2_adaptedRow_j2
      rw [dec_ge (by omega), iftF, iftF, clip_eq, bnd_s]
      exact ⟨l, rfl, rfl, by omega, hx⟩
    | succ m ih =>
      intro f f' i l hi hf hf' hll hx
      obtain ⟨f, rfl⟩ := fuel hf
      obtain ⟨f', rfl⟩ := fuel hf'
      have h1 : i < q.length := by omega
      obtain ⟨r, r1, r2, r3⟩ := find_eq (p := p) (by omega) q[i].id
      unfold column_adapt_l1 ref2_adaptedRow_l1 column_adapt_j1 ref2_adaptedRow_j1
      rw [dec_lt h1, iftT, iftT, at_nat h1, bnd_s, bnd_s, r1, bnd_s, r2, bnd_s, wrap_succ h1 hq]
      rcases r3 with r3 | ⟨j, hj, rfl⟩
      · rw [decide_eq_true r3, iftT, iftT, grd_p (by omega), grd_p (by omega)]
        exact ih f f' (i + 1) _ (by omega) (by omega) (by omega) (by simp; omega) (by
          intro x hx'
          rcases List.mem_append.1 hx' with h | h
          · exact hx x h
          · rw [List.mem_singleton.1 h]; exact hP)
      · have hj' : j < vs.length := by omega
        rw [decide_eq_false (by omega), iftF, iftF, at_nat hj, bnd_s, bnd_s, at_nat hj', bnd_s, bnd_s]
        obtain ⟨y, y1, y2, y3⟩ := h q[i] (List.getElem_mem h1) j p[j] vs[j] r2 (List.getElem?_eq_getElem hj) (List.getElem?_eq_getElem hj')
        rw [y1, bnd_s, y2, bnd_s, grd_p (by omega), grd_p (by omega)]
        exact ih f f' (i + 1) _ (by omega) (by omega) (by omega) (by simp; omega) (by
          intro x hx'
          rcases List.mem_append.1 hx' with h | h
          · exact hx x h
          · rw [List.mem_singleton.1 h]; exact y3)
  exact key q.length BIG BIG 0 [] (by omega) (by rw [big_val]; omega) (by rw [big_val]; omega) rfl (by intro x hx; cases hx)

/-- the items of a list -/
theorem list_eq {P : GValue → Prop} (q1 q2 : List GField → List GField → List GValue → Option (List GValue)) {t u : GType} {v : GValue} (hl : v.items.length < 1000000000)
    (h : ∀ x ∈ v.items, ∃ y, q1 t.fields u.fields [x] = some [y] ∧ q2 t.fields u.fields [x] = some [y] ∧ P y) :
    ∃ r, column_adaptValue_l1 q1 t u v BIG [] 0 = some ⟨6, 0, 0, ByteArray.empty, r⟩ ∧ ref2_adapted_l1 q2 t u v BIG [] 0 = some ⟨u.kind, 0, 0, ByteArray.empty, r⟩ ∧ r.length = v.items.length ∧ ∀ x ∈ r, P x := by
  have key : ∀ (m f f' i : Nat) (l : List GValue), i + m = v.items.length → m < f → m < f' → l.length = i → (∀ x ∈ l, P x) → ∃ r, column_adaptValue_l1 q1 t u v f l (i : Int) = some ⟨6, 0, 0, ByteArray.empty, r⟩ ∧ ref2_adapted_l1 q2 t u v f' l (i : Int) = some ⟨u.kind, 0, 0, ByteArray.empty, r⟩ ∧ r.length = v.items.length ∧ ∀ x ∈ r, P x := by
    intro m
    induction m with
    | zero =>
      intro f f' i l hi hf hf' hl hx
      obtain ⟨f, rfl⟩ := fuel hf
      obtain ⟨f', rfl⟩ := fuel hf'
      unfold column_adaptValue_l1 ref2_adapted_l1 column_adaptValue_j1 ref2_adapted_j1
      rw [dec_ge (by omega), iftF, iftF, clip_eq, bnd_s]
      exact ⟨l, rfl, rfl, by omega, hx⟩
    | succ m ih =>
      intro f f' i l hi hf hf' hll hx
      obtain ⟨f, rfl⟩ := fuel hf
      obtain ⟨f', rfl⟩ := fuel hf'
      have h1 : i < v.items.length := by omega
      obtain ⟨y, y1, y2, y3⟩ := h _ (List.getElem_mem h1)
      unfold column_adaptValue_l1 ref2_adapted_l1
      rw [dec_lt h1, iftT, iftT, at_nat h1, bnd_s, wrap_succ h1 hl, grd_p (by omega), Int.toNat_natCast, Int.toNat_natCast, show i + 1 - i = 1 by omega, drop_at h1, show ∀ l' : List GValue, (v.items[i] :: l').take 1 = [v.items[i]] from fun _ => rfl, y1, bnd_s, y2, bnd_s, grd_p (by simp; omega), grd_p (by simp; omega)]
      exact ih f f' (i + 1) _ (by omega) (by omega) (by omega) (by simp; omega) (by
          intro x hx'
          rcases List.mem_append.1 hx' with h | h
          · exact hx x h
          · rw [List.mem_singleton.1 h]; exact y3)
  exact key v.items.length BIG BIG 0 [] (by omega) (by rw [big_val]; omega) (by rw [big_val]; omega) rfl (by intro x hx; cases hx)

theorem null_rs (d : Nat) : RsD (d + 1) nullV := ⟨by show ByteArray.empty.size < _; rw [empty_size]; omega, by show 0 ≤ _; omega, fun h => absurd h (by show ¬ (0 : Int) = 3; omega), fun x hx => by cases hx⟩

theorem leaf_rs {d : Nat} {v : GValue} (h : plainOk v = true) (h6 : v.kind ≠ 6) (h7 : v.kind ≠ 7) (hs : v.s.size < 1000000000) : RsD (d + 1) v := by
  have hi := plain_items h h6 h7
  refine ⟨hs, by rw [hi]; simp, fun hk => dec_of_plain h hk, fun x hx => by rw [hi] at hx; cases hx⟩

theorem null_shape {v : GValue} (h : plainOk v = true) (h0 : v.kind = 0) : v = nullV := by
  have hi := plain_items h (by omega) (by omega)
  unfold plainOk at h
  simp [h0] at h
  obtain ⟨k, n, sc, s, it⟩ := v
  simp only at h h0 hi
  unfold nullV
  rw [h0, hi, h.1.1, h.1.2, h.2.1]

/-- a value of a type that is sound -/
structure Ok (d : Nat) (t : GType) (v : GValue) : Prop where
  s : Snd d v
  o : ofD d t v = true
  z : sizeV v < 1000000000

theorem value_adapt : ∀ (d k k' : Nat) (t u : GType) (v : GValue), Ok d t v → V t → V u → sizeT t < 1000000000 → sizeT u < 1000000000 → AdT (AdpD (d + 1)) t u → 3 * d + 1 ≤ k → 3 * d + 1 ≤ k' →
    ∃ r, column_adaptValue k t u v = some r ∧ ref2_adapted k' t u v = some r ∧ RsD d r
  | 0, _, _, _, _, _, h, _, _, _, _, _, _, _ => h.s.zero.elim
  | d + 1, k, k', t, u, v, h, ht, hu, hst, hsu, ha, hk, hk' => by
    obtain ⟨k, rfl⟩ := fuel (m := 3 * d + 3) (f := k) (by omega)
    obtain ⟨k', rfl⟩ := fuel (m := 3 * d + 3) (f := k') (by omega)
    obtain ⟨hp, hit⟩ := h.s.succ
    have hz := h.z
    have hzv := sizeV_eq v
    have hzl := sizeL_len v.items
    have hst' := sizeT_eq t
    have hsu' := sizeT_eq u
    have hft := sizeF_len t.fields
    have hfu := sizeF_len u.fields
    rw [column_adaptValue, ref2_adapted]
    by_cases h0 : v.kind = 0
    · rw [show (v.kind == 0) = true by simp [h0], iftT, iftT]
      exact ⟨nullV, rfl, by rw [null_shape hp h0], null_rs d⟩
    · rw [show (v.kind == 0) = false by simp [h0], iftF, iftF]
      have hkt : v.kind = t.kind := (of_kind h.o).resolve_left h0
      by_cases hlf : t.kind ≠ 6 ∧ t.kind ≠ 7
      · have hw := ha.1 hlf
        have h3 : v.kind = 3 → v.scale = t.scale := by
          intro h3
          have := h.o
          simp only [ofD] at this
          rw [if_neg h0, if_neg (fun hh => hh hkt), if_pos h3] at this
          simpa using this
        obtain ⟨a, b⟩ := widened_eq h.z hp h0 (by omega) (by omega) hkt h3 hw.w hw.b hw.c
        rw [show (t.kind == 7) = false by simp [hlf.2], iftF, show (t.kind != 6) = true by simp [hlf.1], iftT, a, bnd_s, leafR, bnd_s, decide_eq_true hw.m, iftT, ref_widen h0, bnd_s]
        exact ⟨_, rfl, rfl, leaf_rs b hw.m.1 hw.m.2 (by show v.s.size < _; omega)⟩
      · obtain ⟨hku, had⟩ := ha.2 hlf
        rw [leafR, bnd_s, decide_eq_false (by rw [← hku]; exact hlf), iftF]
        obtain ⟨hfit, hof⟩ := fit_of h.s ht h.o
        -- rows of fields
        have hrow : ∀ (k k' : Nat) (vs : List GValue), 0 < d → 3 * d + 2 ≤ k → 3 * d + 2 ≤ k' → vs.length = t.fields.length → (∀ (i : Nat) (g : GField) w, t.fields[i]? = some g → vs[i]? = some w → Ok d g.type w) →
            ∃ r, column_adapt k t.fields u.fields vs = some r ∧ ref2_adaptedRow k' t.fields u.fields vs = some r ∧ r.length = u.fields.length ∧ ∀ x ∈ r, RsD d x := by
          intro k k' vs hd hk hk' hl hvs
          obtain ⟨d, rfl⟩ := fuel hd
          obtain ⟨k, rfl⟩ := fuel (m := 3 * (d + 1) + 1) (f := k) (by omega)
          obtain ⟨k', rfl⟩ := fuel (m := 3 * (d + 1) + 1) (f := k') (by omega)
          rw [column_adapt, ref2_adaptedRow]
          refine row_eq (P := RsD (d + 1)) (null_rs d) _ _ (by omega) (by omega) hl fun f hf i g w hfi hg hw => ?_
          have hm := List.mem_of_getElem? hg
          have hs1 := sizeF_mem hm
          have hs2 := sizeFd_eq g
          have hs3 := sizeF_mem hf
          have hs4 := sizeFd_eq f
          exact value_adapt (d + 1) k k' g.type f.type w (hvs i g w hg hw) (ht.fs g hm) (hu.fs f hf) (by omega) (by omega) (had f hf i g hfi hg) (by omega) (by omega)
        by_cases h7 : t.kind = 7
        · have hlen := of_rec h.o hkt h7
          have hpos : 0 < v.items.length := by
            unfold plainOk at hp
            simp [show v.kind = 7 by omega] at hp
            exact hp.2.2
          have hd : 0 < d := by
            rcases Nat.eq_zero_or_pos d with rfl | hd
            · exact (hit _ (List.getElem_mem hpos)).zero.elim
            · exact hd
          obtain ⟨r, r1, r2, r3, r4⟩ := hrow k k' v.items hd (by omega) (by omega) (by omega) (by
            intro i g w hg hw
            have hi : i < v.items.length := by
              rcases Nat.lt_or_ge i v.items.length with h | h
              · exact h
              · rw [List.getElem?_eq_none h] at hw; cases hw
            have hwi : w = iv v i := by unfold iv; rw [hw]; rfl
            have hgt : ft t i = g.type := by unfold ft; rw [if_neg (by omega), hg]; rfl
            have hsz := sizeL_mem (iv_mem hi)
            rw [hwi]
            exact ⟨hit _ (iv_mem hi), by rw [← hgt]; exact hof i hi, by omega⟩)
          rw [show (t.kind == 7) = true by simp [h7], iftT, show (u.kind == 7) = true by simp; omega, iftT, r1, bnd_s, r2, bnd_s, show u.kind = 7 by omega]
          exact ⟨_, rfl, rfl, by show ByteArray.empty.size < _; rw [empty_size]; omega, by show r.length ≤ _; omega, fun h => absurd h (by show ¬ (7 : Int) = 3; omega), r4⟩
        · have h6 : t.kind = 6 := by omega
          have hlen := ht.list h6
          rw [show (t.kind == 7) = false by simp [h7], iftF, show (u.kind == 7) = false by simp; omega, iftF, show (t.kind != 6) = false by simp [h6], iftF]
          obtain ⟨r, r1, r2, r3, r4⟩ := list_eq (P := RsD d) (column_adapt k) (ref2_adaptedRow k') (t := t) (u := u) (v := v) (by omega) (by
            intro x hx
            have hd : 0 < d := by
              rcases Nat.eq_zero_or_pos d with rfl | hd
              · exact (hit _ hx).zero.elim
              · exact hd
            obtain ⟨i, hi, rfl⟩ := List.getElem_of_mem hx
            have hsz := sizeL_mem hx
            obtain ⟨r, r1, r2, r3, r4⟩ := hrow k k' [v.items[i]] hd (by omega) (by omega) (by simp; omega) (by
              intro j g w hg hw
              have hj : j = 0 := by
                cases j with
                | zero => rfl
                | succ j => simp at hw
              subst hj
              simp at hw
              have hgt : ft t i = g.type := by unfold ft; rw [if_pos h6, hg]; rfl
              have := hof i hi
              rw [hgt, ← iv_at hi, hw] at this
              subst hw
              exact ⟨hit _ hx, this, by omega⟩)
            have hu1 : u.fields.length = 1 := hu.list (by omega)
            obtain ⟨y, rfl⟩ := List.length_eq_one_iff.1 (r3.trans hu1)
            exact ⟨y, r1, r2, r4 y (by simp)⟩)
          rw [r1, r2, show u.kind = 6 by omega]
          exact ⟨_, rfl, rfl, by show ByteArray.empty.size < _; rw [empty_size]; omega, by show r.length ≤ _; omega, fun h => absurd h (by show ¬ (6 : Int) = 3; omega), r4⟩

end Go.Proofs.YtieiahlgllbklaaGreatDoor
namespace Go.Proofs.YtieiahlgllbklaaGreatDoor
open Go Go.SX Go.SX.Cal Go.Lib
set_option linter.unusedVariables false
set_option linter.unusedSimpArgs false

theorem sc_V {fs : List GField} (hs : sizeF fs < 1000000000 - 1) (h : sc fs = 0) : V ⟨7, 0, fs⟩ := by
  obtain ⟨e, h1, h2, h3⟩ := checkType_eq ⟨7, 0, fs⟩ (by simp only [sizeT]; omega)
  have hc := sc_c hs
  rw [h] at hc
  unfold value_CheckSchema at hc
  rw [h1, bnd_s] at hc
  by_cases he : e = 0
  · exact h3 he
  · rw [show (e != (0 : Int)) = true by simp [he], iftT] at hc
    cases hc; exact absurd rfl he

theorem crF_zero {fs : List GField} {rows : List (List GValue)} (h : crF fs rows = 0) : sc fs = 0 ∧ rowsF fs rows = 0 := by
  unfold crF at h
  by_cases h1 : sc fs = 0
  · rw [if_neg (fun k => k h1)] at h
    by_cases h2 : 2000 < rows.length
    · rw [if_pos h2] at h; cases h
    · rw [if_neg h2] at h; exact ⟨h1, h⟩
  · rw [if_pos h1] at h; exact absurd h h1

theorem Adapt_eq {p q : List GField} {rows : List (List GValue)} (hp : sizeF p < 1000000000 - 1) (hq : sizeF q < 1000000000 - 1) (hr : ∀ r ∈ rows, sizeL r < 1000000000) (hl : rows.length < 1000000000) :
    ∃ r, column_Adapt p q rows = some r ∧ ref2_Adapt p q rows = some r ∧ r.1.length < 1000000000 ∧ ∀ x ∈ r.1, (∀ v ∈ x, RsD 4 v) ∧ x.length ≤ 4000000000 := by
  unfold column_Adapt ref2_Adapt
  rw [c_CheckRows hp hr hl, r_CheckRows hp hr hl, bnd_s, bnd_s]
  by_cases h1 : crF p rows = 0
  · rw [h1, bne_self_eq_false, iftF, iftF, sc_c hq, sc_r hq, bnd_s, bnd_s]
    by_cases h2 : sc q = 0
    · rw [h2, bne_self_eq_false, iftF, iftF]
      obtain ⟨e, e1, e2, e3⟩ := adaptable_eq (sizeF q) BIG BIG p q (by omega) (by rw [big_val]; omega) (by rw [big_val]; omega) (by omega) (by omega)
      rw [e1, e2, bnd_s, bnd_s]
      by_cases h3 : e = 0
      · subst h3
        rw [bne_self_eq_false, iftF, iftF]
        have had := e3 rfl 6
        obtain ⟨hsp, hrows⟩ := crF_zero h1
        have hVp := sc_V hp hsp
        have hVq := sc_V hq h2
        have hpl := sizeF_len p
        have hql := sizeF_len q
        have hrow : ∀ row ∈ rows, ∃ r, column_adapt BIG p q row = some r ∧ ref2_adaptedRow BIG p q row = some r ∧ r.length = q.length ∧ ∀ x ∈ r, RsD 4 x := by
          intro row hrow
          obtain ⟨hlen, hok⟩ := rowsF_at hrows row hrow
          have hsz := hr row hrow
          rw [show BIG = 1152921504606846975 + 1 from rfl, column_adapt, ref2_adaptedRow]
          refine row_eq (P := RsD 4) (null_rs 3) _ _ (by omega) (by omega) hlen fun f hf i g w hfi hg hw => ?_
          have hm := List.mem_of_getElem? hg
          have hs1 := sizeF_mem hm
          have hs2 := sizeFd_eq g
          have hs3 := sizeF_mem hf
          have hs4 := sizeFd_eq f
          have hs5 := sizeL_mem (List.mem_of_getElem? hw)
          obtain ⟨hck, _⟩ := rowF_at hok i g w hg hw
          obtain ⟨hv, hsn, ho⟩ := ck_ok (by omega) (by omega) hck
          exact value_adapt 4 _ _ g.type f.type w ⟨hsn, ho, by omega⟩ hv (hVq.fs f hf) (by omega) (by omega) (had f hf i g hfi hg) (by decide) (by decide)
        have key : ∀ (m f f' i : Nat) (l : List (List GValue)), i + m = rows.length → m < f → m < f' → l.length = i → (∀ x ∈ l, (∀ v ∈ x, RsD 4 v) ∧ x.length ≤ 4000000000) →
            ∃ r, column_Adapt_l1 p q rows f l (i : Int) = some r ∧ ref2_Adapt_l1 p q rows f' l (i : Int) = some r ∧ r.1.length < 1000000000 ∧ ∀ x ∈ r.1, (∀ v ∈ x, RsD 4 v) ∧ x.length ≤ 4000000000 := by
          intro m
          induction m with
          | zero =>
            intro f f' i l hi hf hf' hll hx
            obtain ⟨f, rfl⟩ := fuel hf
            obtain ⟨f', rfl⟩ := fuel hf'
            unfold column_Adapt_l1 ref2_Adapt_l1 column_Adapt_j1 ref2_Adapt_j1
            rw [dec_ge (by omega), iftF, iftF, clip_rows, bnd_s]
            exact ⟨(l, 0), rfl, rfl, by show l.length < _; omega, hx⟩
          | succ m ih =>
            intro f f' i l hi hf hf' hll hx
            obtain ⟨f, rfl⟩ := fuel hf
            obtain ⟨f', rfl⟩ := fuel hf'
            have h1 : i < rows.length := by omega
            obtain ⟨y, y1, y2, y3, y4⟩ := hrow _ (List.getElem_mem h1)
            unfold column_Adapt_l1 ref2_Adapt_l1
            rw [dec_lt h1, iftT, iftT, at_nat h1, bnd_s, bnd_s, y1, bnd_s, y2, bnd_s, grd_p (by omega), grd_p (by omega), wrap_succ h1 hl]
            exact ih f f' (i + 1) _ (by omega) (by omega) (by omega) (by simp; omega) (by
              intro x hx'
              rcases List.mem_append.1 hx' with h | h
              · exact hx x h
              · rw [List.mem_singleton.1 h]; exact ⟨y4, by omega⟩)
        exact key rows.length BIG BIG 0 [] (by omega) (by rw [big_val]; omega) (by rw [big_val]; omega) rfl (by intro x hx; cases hx)
      · rw [show (e != (0 : Int)) = true by simp [h3], iftT, iftT]
        exact ⟨([], e), rfl, rfl, by show 0 < _; omega, fun x hx => by cases hx⟩
    · rw [show (sc q != (0 : Int)) = true by simp [h2], iftT, iftT]
      exact ⟨([], sc q), rfl, rfl, by show 0 < _; omega, fun x hx => by cases hx⟩
  · rw [show (crF p rows != (0 : Int)) = true by simp [h1], iftT, iftT]
    exact ⟨([], crF p rows), rfl, rfl, by show 0 < _; omega, fun x hx => by cases hx⟩

theorem law_adapts {p q : List GField} {rows : List (List GValue)} {t u : GType} (hp : sizeF p < 1000000000 - 1) (hq : sizeF q < 1000000000 - 1) (hr : ∀ r ∈ rows, sizeL r < 1000000000) (hl : rows.length < 1000000000) (ht : sizeT t < 1000000000) (hu : sizeT u < 1000000000) :
    law2_ColumnAdaptsMatchSpec p q rows t u = some true := by
  obtain ⟨r, r1, r2, r3, r4⟩ := Adapt_eq hp hq hr hl
  obtain ⟨b, b1, b2, _⟩ := Widens_eq t u ht hu
  have hw : column_Widens (GType.mk (1 : Int) (0 : Int) []) (GType.mk (2 : Int) (0 : Int) []) = some true := by
    unfold column_Widens
    rw [leafT check_bool, leafT check_int]
    rfl
  unfold law2_ColumnAdaptsMatchSpec law2_ColumnAdaptsMatchSpec_j1
  rw [r1, r2, bnd_s, bnd_s, hw, bnd_s, iftT, show (r.2 == r.2) = true by simp, iftT, rows_self r4 r3, bnd_s, iftT, b1, b2, bnd_s, bnd_s, show (b == b) = true by simp]

theorem sizeL_sum : ∀ l : List GValue, sizeL l = (l.map sizeV).sum
  | [] => by simp [sizeL]
  | x :: l => by simp [sizeL, sizeL_sum l]

theorem sz_mk (k n sc : Int) (s : ByteArray) (it : List GValue) : sizeV ⟨k, n, sc, s, it⟩ ≤ s.size + (it.map sizeV).sum + 6 := by
  simp only [sizeV, sizeL_sum]; omega

theorem sizeF_sum : ∀ l : List GField, sizeF l = (l.map sizeFd).sum
  | [] => by simp [sizeF]
  | x :: l => by simp [sizeF, sizeF_sum l]

theorem szT_mk (k s : Int) (fs : List GField) : sizeT ⟨k, s, fs⟩ ≤ (fs.map sizeFd).sum + 4 := by
  rw [sizeT_eq, sizeF_sum]; simp only; omega

theorem szF_mk (i : Int) (n : ByteArray) (q : Bool) (t : GType) : sizeFd ⟨i, n, q, t⟩ ≤ n.size + sizeT t + 4 := by
  rw [sizeFd_eq]; simp only; omega

def szRow (r : List GValue) : Nat := sizeL r + 1
def szRows (rows : List (List GValue)) : Nat := (rows.map szRow).sum

theorem szRows_mem : ∀ {rows : List (List GValue)} {r : List GValue}, r ∈ rows → sizeL r < szRows rows + 1
  | [], _, h => by cases h
  | x :: rows, r, h => by
    have hx : szRows (x :: rows) = (sizeL x + 1) + szRows rows := by unfold szRows; simp only [List.map_cons, List.sum_cons, szRow]
    rcases List.mem_cons.1 h with rfl | h
    · omega
    · have := szRows_mem h; omega

theorem szRows_len : ∀ rows : List (List GValue), rows.length ≤ szRows rows
  | [] => by simp [szRows]
  | x :: rows => by
    have hx : szRows (x :: rows) = (sizeL x + 1) + szRows rows := by unfold szRows; simp only [List.map_cons, List.sum_cons, szRow]
    have := szRows_len rows
    rw [List.length_cons]; omega

theorem law_top {p q : List GField} {rows : List (List GValue)} {t u : GType} (h1 : sizeF p ≤ 1048576) (h2 : sizeF q ≤ 1048576) (h3 : szRows rows ≤ 1048576) (h4 : sizeT t ≤ 1048576) (h5 : sizeT u ≤ 1048576) : law2_ColumnAdaptsMatchSpec p q rows t u = some true :=
  law_adapts (by omega) (by omega) (fun r hr => by have := szRows_mem hr; omega) (by have := szRows_len rows; omega) (by omega) (by omega)

end Go.Proofs.YtieiahlgllbklaaGreatDoor
