/- The calendar, in plain integers. Names, in plain terms. The fields of a type, in plain terms. The check of types and the common type, in plain terms. Texts and sound values, in plain terms. Values of a type, in plain terms; the law of Sound and Check. Rows: lists of fields. SameType: both answers are the same. CheckSchema: both answers are the same. CheckSchema, end; the law of types. Rows: CheckRows, of both sides. Adapt: fields that are found, types that widen, schemas that are adaptable. TransformType of both sides. Partitions: suits and the fields at the top, of both sides. Loops that look for the first error. Names of objects. Numbers of 256 bits: what 'times' and 'compare' compute. Comparing numbers of 256 bits. Compare, in plain terms. Compare is a total order. What the reference compares. The reference's Compare, in plain terms; the law 'ValueOrderMatchesSpec'. Values of leaves: what a check says of them; their order. Fields at the top, types of partition values, data files: both sides find the same error. Data files: both sides find the same error. Texts: their order. What is removed by keys: both sides find the same error. Snapshots: both sides find the same error. What is removed in a snapshot; all snapshots: both sides find the same error. All snapshots: both sides find the same error. Files with one name: both sides find whether they differ. Files with one name in different snapshots: both sides find the same error. References, properties, limits, schemas: both sides find the same error. Schemas, specs; Check of both sides; the law. New: numbered lists, their check; the table that is made. New: the table that is made is as it should be; the law. -/
import Derived.Laws.Runes
import Derived.ChangeKeysEq
import Derived.Lib.Bytealg
import Derived.Sort.Statements
import Derived.Test.YtikbfjpcmalmlaaGreatDoorGeC
set_option linter.unusedVariables false
set_option linter.unusedSimpArgs false
set_option linter.unnecessarySimpa false
namespace Go.SX.Cal
open Go
set_option linter.unusedVariables false

theorem w64 {x : Int} (h1 : -9223372036854775808 ≤ x) (h2 : x ≤ 9223372036854775807) : IntKind.i64.wrap x = x := by
 simp only [IntKind.wrap, IntKind.bits, IntKind.signed]
 simp only [Bool.true_and, decide_eq_true_eq, ge_iff_le]
 split <;> omega

/-! ### years of an era -/

def S (y : Int) : Int := 365 * y + y / 4 - y / 100
def F (r : Int) : Int := r - r / 1460 + r / 36524
def leap (y : Int) : Prop := y % 4 = 0 ∧ (y % 100 ≠ 0 ∨ y % 400 = 0)

instance (y : Int) : Decidable (leap y) := by unfold leap; infer_instance

/-! ### days -/

def E (y : Int) : Int := y / 400 * 146097 + S (y % 400) - 719468

end Go.SX.Cal
namespace Go.Proofs.YtikbfjpcmalmlaaGreatDoor
open Go Go.SX Go.SX.Cal
set_option linter.unusedVariables false
set_option linter.unusedSimpArgs false

theorem ift_true {β : Type} (x y : Option β) : ift true x y = x := rfl
theorem ift_false {β : Type} (x y : Option β) : ift false x y = y := rfl
theorem ift_ite {β : Type} (b : Bool) (x y : Option β) : ift b x y = if b = true then x else y := by cases b <;> rfl
theorem big_val : BIG = 1152921504606846976 := rfl

def first (P : Nat → Bool) (i n : Nat) : Option Nat := (List.range' i (n - i)).find? P

theorem first_step {P : Nat → Bool} {i n : Nat} (h : i < n) : first P i n = if P i = true then some i else first P (i + 1) n := by
 unfold first
 rw [show n - i = (n - (i + 1)) + 1 by omega, List.range'_succ, List.find?_cons]
 cases hp : P i <;> simp [hp]

theorem first_end {P : Nat → Bool} {n : Nat} : first P n n = none := by simp [first]

theorem first_none {P : Nat → Bool} {i n : Nat} : first P i n = none ↔ ∀ j, i ≤ j → j < n → P j = false := by
 unfold first
 rw [List.find?_eq_none]
 constructor
 ·intro h j h1 h2
  have := h j (by rw [List.mem_range'_1]; omega)
  simpa using this
 ·intro h j hj
  rw [List.mem_range'_1] at hj
  have := h j (by omega) (by omega)
  simp [this]

theorem search {β : Type} {f : Nat → Nat → Option β} {n : Nat} {P : Nat → Bool} {A : Nat → Option β} {B : Option β} (hstep : ∀ k i, i < n → f (k + 1) i = if P i = true then A i else f k (i + 1)) (hend : ∀ k, f (k + 1) n = B) :
  ∀ k i, i ≤ n → n - i < k → f k i = (first P i n).elim B A := by
 intro k
 induction k with
 | zero => intro i _ h; omega
 | succ k ih =>
  intro i hi hk
  by_cases h : i = n
  ·subst h
   rw [hend, first_end]; rfl
  ·rw [hstep k i (by omega), first_step (by omega)]
   by_cases hp : P i = true
   ·simp [hp]
   ·simp only [hp, if_false]
    exact ih (i + 1) (by omega) (by omega)

def byt (s : ByteArray) (i : Nat) : Nat := (s.data.toList.getD i 0).toNat

theorem get_byt (s : ByteArray) (i : Nat) (h : i < s.size) : (s.get! i).toNat = byt s i := by
 unfold byt
 have h' : i < s.data.size := h
 have : s.get! i = s.data.toList.getD i 0 := by
  simp only [ByteArray.get!, List.getD, Array.getElem?_toList]
  rw [getElem!_pos s.data i h', Array.getElem?_eq_getElem h']; rfl
 rw [this]

def small (b : Nat) : Bool := decide (97 ≤ b) && decide (b ≤ 122)
def other (b : Nat) : Bool := b == 95 || (decide (48 ≤ b) && decide (b ≤ 57))
def good (b : Nat) : Bool := small b || other b

theorem name1_eq (n : Nat) : value_Name_1 (Int.ofNat n) = some (!good n) := by
 unfold value_Name_1 value_Name_1_j1
 simp only [ift_ite, decide_eq_true_eq, Int.ofNat_eq_natCast]
 repeat' split
 all_goals (rw [Option.some.injEq, Bool.eq_iff_iff]; simp [good, small, other]; omega)

theorem decode_lo (s : ByteArray) (i : Nat) (h : i < s.size) (hb : byt s i < 128) : Utf8.decode s i = (byt s i, 1) := by
 have e := get_byt s i h
 unfold Utf8.decode
 simp [e, hb]

theorem decode_hi (s : ByteArray) (i : Nat) (h : i < s.size) (hb : ¬ byt s i < 128) : 128 ≤ (Utf8.decode s i).1 := by
 have e := get_byt s i h
 unfold Utf8.decode
 simp only [Nat.add_zero, e, if_neg hb, Utf8.runeError]
 repeat' split
 all_goals simp_all
 all_goals omega

def bad (s : ByteArray) (i : Nat) : Bool := !good (byt s i)

theorem indexFunc_eq (s : ByteArray) : ∀ k i, i ≤ s.size → s.size - i < k → ∃ r, strings_indexFunc_of_value_Name_1_l1 s true k i = some r ∧ (decide (0 ≤ r) = (first (bad s) i s.size).isSome) := by
 intro k
 induction k with
 | zero => intro i _ h; omega
 | succ k ih =>
  intro i hi hk
  rw [strings_indexFunc_of_value_Name_1_l1]
  by_cases h : i = s.size
  ·subst h
   rw [first_end]
   simp only [Nat.lt_irrefl, decide_false, ift_false]
   exact ⟨-1, rfl, rfl⟩
  ·have hlt : i < s.size := by omega
   simp only [hlt, decide_true, ift_true, name1_eq, bnd_eq]
   rw [first_step hlt]
   by_cases hb : byt s i < 128
   ·rw [decode_lo s i hlt hb]
    simp only [bad]
    by_cases hg : good (byt s i) = true
    ·simp only [hg, Bool.not_true, ift_ite]
     obtain ⟨r, h1, h2⟩ := ih (i + 1) (by omega) (by omega)
     exact ⟨r, by simpa using h1, by simpa [bad] using h2⟩
    ·simp only [hg, Bool.not_false, ift_ite]
     exact ⟨_, rfl, by simp⟩
   ·have h1 := decode_hi s i hlt hb
    have g1 : good (Utf8.decode s i).1 = false := by
     generalize (Utf8.decode s i).1 = x at h1
     simp [good, small, other]; omega
    have g2 : bad s i = true := by
     simp [bad, good, small, other]; omega
    simp only [g1, g2, Bool.not_false, ift_ite]
    exact ⟨_, rfl, by simp⟩

def isName (s : ByteArray) : Bool := decide (1 ≤ s.size) && decide (s.size ≤ 24) && small (byt s 0) && (first (bad s) 0 s.size).isNone

theorem size_zero (s : ByteArray) : (s.toList == (ByteArray.mk #[]).toList) = decide (s.size = 0) := by
 rw [ByteArray.toList_eq, ByteArray.toList_eq, Bool.eq_iff_iff]
 show (s.data.toList == []) = true ↔ decide (s.data.size = 0) = true
 rw [← Array.length_toList]
 cases s.data.toList <;> simp

theorem vName (s : ByteArray) (hs : s.size < 1000000000) : value_Name s = some (isName s) := by
 obtain ⟨r, h1, h2⟩ := indexFunc_eq s BIG 0 (Nat.zero_le _) (by rw [big_val]; omega)
 unfold value_Name value_Name_j1 strings_ContainsFunc_of_value_Name_1 strings_IndexFunc_of_value_Name_1 strings_indexFunc_of_value_Name_1
 rw [h1, size_zero]
 simp only [bnd_eq, h2, ift_ite]
 by_cases z0 : s.size = 0
 ·simp [z0, isName]
 ·by_cases z1 : 24 < s.size
  ·have : ¬ s.size ≤ 24 := by omega
   simp [z0, z1, isName, this, show (24 : Int) < (s.size : Int) by omega]
  ·have hz : ¬ (24 : Int) < (s.size : Int) := by omega
   have hb : ((s.data.toList.getD (0 : Int).toNat 0).toNat : Int) = (byt s 0 : Int) := rfl
   simp only [z0, decide_false, hz, Bool.false_eq_true, if_false, hb]
   rw [grd_pos (by omega), grd_pos (by omega)]
   simp only [decide_eq_true_eq]
   have : s.size ≤ 24 := by omega
   by_cases q1 : byt s 0 < 97
   ·have : ¬ 97 ≤ byt s 0 := by omega
    simp [show (byt s 0 : Int) < 97 by omega, isName, small, this]
   ·by_cases q2 : 122 < byt s 0
    ·have : ¬ byt s 0 ≤ 122 := by omega
     simp [show ¬ (byt s 0 : Int) < 97 by omega, show (122 : Int) < (byt s 0 : Int) by omega, isName, small, this]
    ·simp [show ¬ (byt s 0 : Int) < 97 by omega, show ¬ (122 : Int) < (byt s 0 : Int) by omega, isName, small, show 1 ≤ s.size by omega, this, show 97 ≤ byt s 0 by omega, show byt s 0 ≤ 122 by omega]

def rbad (s : ByteArray) (i : Nat) : Bool := !small (byt s i) && (i == 0 || !other (byt s i))

theorem rname_step (s : ByteArray) (hs : s.size < 1000000000) (k i : Nat) (hi : i < s.size) : ref1_Name_l1 s (k + 1) (i : Int) = if rbad s i = true then some false else ref1_Name_l1 s k ((i + 1 : Nat) : Int) := by
 rw [ref1_Name_l1, ← ift_ite]
 have hb : ((s.data.toList.getD (i : Int).toNat 0).toNat : Int) = (byt s i : Int) := rfl
 have hw : IntKind.i64.wrap ((i : Int) + 1) = ((i + 1 : Nat) : Int) := by rw [w64 (by omega) (by omega)]; omega
 have hg : 0 ≤ (i : Int) ∧ (i : Int) < (s.size : Int) := by omega
 rw [show decide ((i : Int) < (s.size : Int)) = true by simp [hg.2], ift_true]
 simp only [ref1_Name_j2, ref1_Name_j3, ref1_Name_j4, hb, hw, bnd_eq, grd_pos hg]
 have e1 : ((byt s i : Int) == 95) = (byt s i == 95) := by rw [Bool.eq_iff_iff]; simp; omega
 have e2 : (decide ((97 : Int) ≤ byt s i)) = decide (97 ≤ byt s i) := by rw [Bool.eq_iff_iff]; simp; omega
 have e3 : (decide ((byt s i : Int) ≤ 122)) = decide (byt s i ≤ 122) := by rw [Bool.eq_iff_iff]; simp; omega
 have e4 : (decide ((48 : Int) ≤ byt s i)) = decide (48 ≤ byt s i) := by rw [Bool.eq_iff_iff]; simp; omega
 have e5 : (decide ((byt s i : Int) ≤ 57)) = decide (byt s i ≤ 57) := by rw [Bool.eq_iff_iff]; simp; omega
 have e6 : ((i : Int) == 0) = (i == 0) := by rw [Bool.eq_iff_iff]; simp
 simp only [e1, e2, e3, e4, e5, e6, rbad, small, other]
 generalize hq : ref1_Name_l1 s k ((i + 1 : Nat) : Int) = q
 generalize (byt s i == 95) = b1
 generalize decide (97 ≤ byt s i) = b2
 generalize decide (byt s i ≤ 122) = b3
 generalize decide (48 ≤ byt s i) = b4
 generalize decide (byt s i ≤ 57) = b5
 generalize (i == 0) = b6
 cases b1 <;> cases b2 <;> cases b3 <;> cases b4 <;> cases b5 <;> cases b6 <;> rfl

theorem rName (s : ByteArray) (hs : s.size < 1000000000) : ref1_Name s = some (isName s) := by
 have hl := search (f := fun k i => ref1_Name_l1 s k (i : Int)) (n := s.size) (P := rbad s) (A := fun _ => some false) (B := some true) (fun k i hi => rname_step s hs k i hi)
  (fun k => by rw [ref1_Name_l1]; simp only [Int.lt_irrefl, decide_false, ift_false]; rfl) BIG 0 (Nat.zero_le _) (by rw [big_val]; omega)
 have hl : ref1_Name_l1 s BIG (0 : Int) = _ := hl
 unfold ref1_Name ref1_Name_j1
 rw [hl]
 simp only [ift_ite]
 by_cases z0 : s.size = 0
 ·simp [z0, isName]
 ·by_cases z1 : 24 < s.size
  ·have : ¬ s.size ≤ 24 := by omega
   simp [z0, z1, isName, this, show (24 : Int) < (s.size : Int) by omega]
  ·have hz : ¬ (24 : Int) < (s.size : Int) := by omega
   have hz2 : ¬ (s.size : Int) < 1 := by omega
   simp only [hz, hz2, decide_false, Bool.false_eq_true, if_false]
   have e : (first (rbad s) 0 s.size).isNone = (small (byt s 0) && (first (bad s) 0 s.size).isNone) := by
    rw [Bool.eq_iff_iff, Bool.and_eq_true, Option.isNone_iff_eq_none, Option.isNone_iff_eq_none, first_none, first_none]
    constructor
    ·intro h
     have h0 := h 0 (Nat.le_refl _) (by omega)
     simp only [rbad, beq_self_eq_true, Bool.true_or, Bool.and_true] at h0
     have h0' : small (byt s 0) = true := by simpa using h0
     refine ⟨h0', fun j _ hj => ?_⟩
     have h1 := h j (Nat.zero_le _) hj
     simp only [rbad, bad, good] at h1 ⊢
     cases hs : small (byt s j) <;> cases ho : other (byt s j) <;> simp_all
    ·rintro ⟨h0, h⟩ j _ hj
     have h1 := h j (Nat.zero_le _) hj
     simp only [rbad, bad, good] at h1 ⊢
     by_cases hj0 : j = 0
     ·subst hj0; simp [h0]
     ·cases hs : small (byt s j) <;> cases ho : other (byt s j) <;> simp_all
   have : (first (rbad s) 0 s.size).elim (some true) (fun _ => some false) = some ((first (rbad s) 0 s.size).isNone) := by cases first (rbad s) 0 s.size <;> rfl
   rw [this, e]
   simp [isName, show 1 ≤ s.size by omega, show s.size ≤ 24 by omega]

set_option linter.unusedVariables false
set_option linter.unusedSimpArgs false

mutual
def sizeT : GType → Nat
 | ⟨_, _, fs⟩ => sizeF fs + 1
def sizeF : List (FieldP GType) → Nat
 | [] => 0
 | f :: l => sizeFd f + sizeF l
def sizeFd : FieldP GType → Nat
 | ⟨_, n, _, t⟩ => n.size + sizeT t + 1
end

theorem sizeF_mem : ∀ {l : List GField} {x : GField}, x ∈ l → sizeFd x ≤ sizeF l
 | [], _, h => by cases h
 | y :: l, x, h => by
  simp only [sizeF]
  rcases List.mem_cons.1 h with rfl | h
  ·omega
  ·have := sizeF_mem h; omega

theorem sizeFd_eq : ∀ x : GField, sizeFd x = x.name.size + sizeT x.type + 1
 | ⟨_, _, _, _⟩ => by simp only [sizeFd]

theorem sizeT_eq : ∀ x : GType, sizeT x = sizeF x.fields + 1
 | ⟨_, _, _⟩ => by simp only [sizeT]

theorem sizeF_len : ∀ l : List GField, l.length ≤ sizeF l
 | [] => by simp [sizeF]
 | x :: l => by
  have := sizeF_len l
  have := sizeFd_eq x
  simp only [sizeF, List.length_cons]; omega

theorem wrap_succ {i n : Nat} (h : i < n) (hn : n < 1000000000) : IntKind.i64.wrap ((i : Int) + 1) = ((i + 1 : Nat) : Int) := by rw [w64 (by omega) (by omega)]; omega

theorem at_nat {α : Type} {xs : List α} {i : Nat} (h : i < xs.length) : at? xs (i : Int) = some xs[i] := by unfold at?; simp [h]

theorem dec_lt {i n : Nat} (h : i < n) : decide ((i : Int) < (n : Int)) = true := by simp [h]

def fnm (fs : List GField) (i : Nat) : ByteArray := (fs[i]?.map (·.name)).getD ByteArray.empty

theorem fnm_at {fs : List GField} {i : Nat} (h : i < fs.length) : fnm fs i = fs[i].name := by simp [fnm, h]

def noName (fs : List GField) (i : Nat) : Bool := !isName (fnm fs i)
def eqN (fs : List GField) (i j : Nat) : Bool := (fnm fs j).toList == (fnm fs i).toList
def twin (fs : List GField) (i : Nat) : Bool := (first (eqN fs i) 0 i).isSome
def badN (fs : List GField) : Bool := (first (noName fs) 0 fs.length).isSome
def dupN (fs : List GField) : Bool := (first (twin fs) 0 fs.length).isSome

structure FsOk (fs : List GField) : Prop where
 len : fs.length < 1000000000
 nam : ∀ f ∈ fs, f.name.size < 1000000000

theorem fsOk_of {fs : List GField} (h : sizeF fs < 1000000000) : FsOk fs :=
 ⟨by have := sizeF_len fs; omega, fun f hf => by have := sizeF_mem hf; have := sizeFd_eq f; omega⟩

theorem eta_f : ∀ f : GField, FieldP.mk f.id f.name f.need (GType.mk f.type.kind f.type.scale f.type.fields) = f
 | ⟨_, _, _, ⟨_, _, _⟩⟩ => rfl
theorem contains1 {fs : List GField} (ho : FsOk fs) : slices_ContainsFunc_api_Field_api_Field_of_value_fields_1 fs = some (badN fs) := by
 have hl := search (f := fun k i => slices_IndexFunc_api_Field_api_Field_of_value_fields_1_l1 fs k (i : Int)) (n := fs.length) (P := noName fs) (A := fun i => some (i : Int)) (B := some (-1)) (fun k i hi => by
   show slices_IndexFunc_api_Field_api_Field_of_value_fields_1_l1 fs (k + 1) (i : Int) = _
   rw [slices_IndexFunc_api_Field_api_Field_of_value_fields_1_l1, dec_lt hi, ift_true, at_nat hi, bnd_eq, value_fields_1, vName _ (ho.nam _ (List.getElem_mem hi)), wrap_succ hi ho.len]
   simp only [bnd_eq, ift_ite, noName, fnm_at hi])
  (fun k => by rw [slices_IndexFunc_api_Field_api_Field_of_value_fields_1_l1]; simp only [Int.lt_irrefl, decide_false, ift_false]; rfl) BIG 0 (Nat.zero_le _) (by rw [big_val]; have := ho.len; omega)
 have hl : slices_IndexFunc_api_Field_api_Field_of_value_fields_1_l1 fs BIG (0 : Int) = _ := hl
 unfold slices_ContainsFunc_api_Field_api_Field_of_value_fields_1 slices_IndexFunc_api_Field_api_Field_of_value_fields_1
 rw [hl]
 unfold badN
 cases first (noName fs) 0 fs.length with
 | none => rfl
 | some j => simp [bnd_eq]

theorem contains2 {fs : List GField} (ho : FsOk fs) {i : Nat} (hi : i < fs.length) : slices_ContainsFunc_api_Field_api_Field_of_value_fields_2 ((fs.drop (0 : Int).toNat).take ((i : Int).toNat - (0 : Int).toNat)) fs[i] = some (twin fs i, fs[i]) := by
 have ep : (fs.drop (0 : Int).toNat).take ((i : Int).toNat - (0 : Int).toNat) = fs.take i := by simp
 rw [ep]
 have hlen : (fs.take i).length = i := by simp; omega
 have hl := search (f := fun k j => slices_IndexFunc_api_Field_api_Field_of_value_fields_2_l1 (fs.take i) k fs[i].id fs[i].name fs[i].need fs[i].type.kind fs[i].type.scale fs[i].type.fields (j : Int)) (n := i) (P := eqN fs i) (A := fun j => some ((j : Int), fs[i])) (B := some (-1, fs[i])) (fun k j hj => by
   have hj' : j < (fs.take i).length := by rw [hlen]; exact hj
   have hjf : j < fs.length := by omega
   show slices_IndexFunc_api_Field_api_Field_of_value_fields_2_l1 (fs.take i) (k + 1) _ _ _ _ _ _ (j : Int) = _
   rw [slices_IndexFunc_api_Field_api_Field_of_value_fields_2_l1, dec_lt hj', ift_true, at_nat hj', bnd_eq, value_fields_2, wrap_succ hj (by have := ho.len; omega)]
   simp only [bnd_eq, ift_ite, eqN, fnm_at hi, fnm_at hjf, List.getElem_take, eta_f])
  (fun k => by
   show slices_IndexFunc_api_Field_api_Field_of_value_fields_2_l1 (fs.take i) (k + 1) _ _ _ _ _ _ (i : Int) = _
   rw [slices_IndexFunc_api_Field_api_Field_of_value_fields_2_l1]; simp only [hlen, Int.lt_irrefl, decide_false, ift_false, slices_IndexFunc_api_Field_api_Field_of_value_fields_2_j1, eta_f]) BIG 0 (Nat.zero_le _) (by rw [big_val]; have := ho.len; omega)
 have hl : slices_IndexFunc_api_Field_api_Field_of_value_fields_2_l1 (fs.take i) BIG _ _ _ _ _ _ (0 : Int) = _ := hl
 unfold slices_ContainsFunc_api_Field_api_Field_of_value_fields_2 slices_IndexFunc_api_Field_api_Field_of_value_fields_2
 rw [hl]
 unfold twin
 cases first (eqN fs i) 0 i with
 | none => rfl
 | some j => simp [bnd_eq]

theorem fields_loop {t : GType} (ho : FsOk t.fields) : value_fields_l1 t BIG (0 : Int) = some (if dupN t.fields = true then 5 else 0) := by
 have hl := search (f := fun k i => value_fields_l1 t k (i : Int)) (n := t.fields.length) (P := twin t.fields) (A := fun _ => some 5) (B := some 0) (fun k i hi => by
   show value_fields_l1 t (k + 1) (i : Int) = _
   rw [value_fields_l1, dec_lt hi, ift_true, at_nat hi, bnd_eq, grd_pos (by omega), contains2 ho hi, wrap_succ hi ho.len]
   simp only [bnd_eq, ift_ite])
  (fun k => by rw [value_fields_l1]; simp only [Int.lt_irrefl, decide_false, ift_false]; rfl) BIG 0 (Nat.zero_le _) (by rw [big_val]; have := ho.len; omega)
 have hl : value_fields_l1 t BIG (0 : Int) = _ := hl
 rw [hl]
 unfold dupN
 cases first (twin t.fields) 0 t.fields.length <;> rfl

theorem shape_l3 {t : GType} (ho : FsOk t.fields) (rec2 : Int → Option Int) {i : Nat} (hi : i < t.fields.length) : ref1_shape_l3 rec2 t (i : Int) BIG (0 : Int) = if twin t.fields i = true then some 5 else rec2 ((i + 1 : Nat) : Int) := by
 have hl := search (f := fun k j => ref1_shape_l3 rec2 t (i : Int) k (j : Int)) (n := i) (P := eqN t.fields i) (A := fun j => some 5) (B := rec2 ((i + 1 : Nat) : Int)) (fun k j hj => by
   have hjf : j < t.fields.length := by omega
   show ref1_shape_l3 rec2 t (i : Int) (k + 1) (j : Int) = _
   rw [ref1_shape_l3, dec_lt hj, ift_true, at_nat hjf, at_nat hi, wrap_succ hj (by have := ho.len; omega)]
   simp only [bnd_eq, ift_ite, eqN, fnm_at hi, fnm_at hjf])
  (fun k => by
   show ref1_shape_l3 rec2 t (i : Int) (k + 1) (i : Int) = _
   rw [ref1_shape_l3]; simp only [Int.lt_irrefl, decide_false, ift_false, ref1_shape_j5]; rw [wrap_succ hi ho.len]) BIG 0 (Nat.zero_le _) (by rw [big_val]; have := ho.len; omega)
 have hl : ref1_shape_l3 rec2 t (i : Int) BIG (0 : Int) = _ := hl
 rw [hl]
 unfold twin
 cases first (eqN t.fields i) 0 i <;> simp

theorem shape_l2 {t : GType} (ho : FsOk t.fields) : ref1_shape_l2 t BIG (0 : Int) = some (if dupN t.fields = true then 5 else 0) := by
 have hl := search (f := fun k i => ref1_shape_l2 t k (i : Int)) (n := t.fields.length) (P := twin t.fields) (A := fun _ => some 5) (B := some 0) (fun k i hi => by
   show ref1_shape_l2 t (k + 1) (i : Int) = _
   rw [ref1_shape_l2, dec_lt hi, ift_true, shape_l3 ho _ hi])
  (fun k => by rw [ref1_shape_l2]; simp only [Int.lt_irrefl, decide_false, ift_false]; rfl) BIG 0 (Nat.zero_le _) (by rw [big_val]; have := ho.len; omega)
 have hl : ref1_shape_l2 t BIG (0 : Int) = _ := hl
 rw [hl]
 unfold dupN
 cases first (twin t.fields) 0 t.fields.length <;> rfl

theorem shape_l1 {t : GType} (ho : FsOk t.fields) : ref1_shape_l1 t BIG (0 : Int) = some (if badN t.fields = true then 4 else if dupN t.fields = true then 5 else 0) := by
 have hl := search (f := fun k i => ref1_shape_l1 t k (i : Int)) (n := t.fields.length) (P := noName t.fields) (A := fun _ => some 4) (B := some (if dupN t.fields = true then 5 else 0)) (fun k i hi => by
   show ref1_shape_l1 t (k + 1) (i : Int) = _
   rw [ref1_shape_l1, dec_lt hi, ift_true, at_nat hi, bnd_eq, rName _ (ho.nam _ (List.getElem_mem hi)), wrap_succ hi ho.len]
   simp only [bnd_eq, ift_ite, noName, fnm_at hi])
  (fun k => by rw [ref1_shape_l1]; simp only [Int.lt_irrefl, decide_false, ift_false, ref1_shape_j4]; exact shape_l2 ho) BIG 0 (Nat.zero_le _) (by rw [big_val]; have := ho.len; omega)
 have hl : ref1_shape_l1 t BIG (0 : Int) = _ := hl
 rw [hl]
 unfold badN
 cases first (noName t.fields) 0 t.fields.length <;> rfl

def vf (t : GType) : Int :=
 if t.kind = 6 then (if t.fields.length ≠ 1 ∨ (fnm t.fields 0).size ≠ 0 then 1 else 0)
 else if t.kind ≠ 7 then (if 0 < t.fields.length then 1 else 0)
 else if t.fields.length = 0 then 1 else if badN t.fields = true then 4 else if dupN t.fields = true then 5 else 0

def scBad (t : GType) : Prop := t.scale ≠ 0 ∧ (t.kind ≠ 3 ∨ t.scale < 0 ∨ 12 < t.scale)
instance (t : GType) : Decidable (scBad t) := by unfold scBad; infer_instance

def shp (t : GType) : Int := if t.kind < 1 ∨ 7 < t.kind then 3 else if scBad t then 1 else vf t

theorem vFields {t : GType} (ho : FsOk t.fields) : value_fields t = some (vf t) := by
 unfold value_fields value_fields_j1 vf
 rw [contains1 ho, fields_loop ho]
 simp only [bnd_eq, ift_ite]
 by_cases h6 : t.kind = 6
 ·simp only [h6, beq_self_eq_true, if_true]
  by_cases hl : t.fields.length = 1
  ·have : (0 : Nat) < t.fields.length := by omega
   rw [show at? t.fields (0 : Int) = some t.fields[0] from at_nat (i := 0) this]
   simp only [hl, bnd_eq, size_zero, fnm_at this]
   by_cases hz : t.fields[0].name.size = 0 <;> simp [hz]
  ·simp [hl, show ((t.fields.length : Int) = 1) = False from eq_false (by omega)]
 ·by_cases h7 : t.kind = 7
  ·simp [h7]
   by_cases hl : t.fields = []
   ·simp [hl]
   ·simp [hl]
    by_cases hb : badN t.fields = true
    ·simp [hb]
    ·simp [hb]
  ·simp [h6, h7]
   by_cases hl : 0 < t.fields.length
   ·simp [hl]
   ·simp [hl]

theorem rShape {t : GType} (ho : FsOk t.fields) : ref1_shape t = some (shp t) := by
 have hj3 : ∀ x, ref1_shape_j3 t x = if x = true then some 1 else if t.kind ≠ 7 then some 0 else some (if badN t.fields = true then 4 else if dupN t.fields = true then 5 else 0) := by
  intro x
  unfold ref1_shape_j3
  rw [shape_l1 ho]
  cases x <;> simp [ift_ite]
 have hleaf : ref1_Leaf t.kind = some (decide (t.kind ≠ 6 ∧ t.kind ≠ 7)) := by
  unfold ref1_Leaf ref1_Leaf_j1
  by_cases h6 : t.kind = 6 <;> by_cases h7 : t.kind = 7 <;> simp [h6, h7, ift_ite]
 have hj1 : ∀ x, ref1_shape_j1 t x = if x = true then some 1 else some (vf t) := by
  intro x
  cases x with
  | true => rfl
  | false =>
   unfold ref1_shape_j1 ref1_shape_j2 vf
   rw [hleaf]
   simp only [ift_ite, bnd_eq, hj3]
   by_cases h6 : t.kind = 6
   ·simp only [h6, beq_self_eq_true, if_true]
    by_cases hl : t.fields.length = 1
    ·have : (0 : Nat) < t.fields.length := by omega
     rw [show at? t.fields (0 : Int) = some t.fields[0] from at_nat (i := 0) this]
     simp only [hl, bnd_eq, size_zero, fnm_at this]
     by_cases hz : t.fields[0].name.size = 0 <;> simp [hz]
    ·simp [hl, show ((t.fields.length : Int) = 1) = False from eq_false (by omega)]
   ·by_cases h7 : t.kind = 7
    ·simp [h7]
     by_cases hl : t.fields = []
     ·simp [hl]
     ·simp [hl]
    ·simp [h6, h7]
     by_cases hl : 0 < t.fields.length
     ·simp [hl]
     ·simp [hl]
 unfold ref1_shape shp ref1_within ref1_within_j1
 simp only [ift_ite, hj1, bnd_eq]
 by_cases a1 : t.kind < 1
 ·simp [a1, show ¬ (1 : Int) ≤ t.kind by omega, bnd_eq]
 ·by_cases a2 : 7 < t.kind
  ·simp [a2, show (1 : Int) ≤ t.kind by omega, show ¬ t.kind ≤ 7 by omega, bnd_eq]
  ·simp only [a1, a2, show (1 : Int) ≤ t.kind by omega, show t.kind ≤ 7 by omega, decide_true, or_self, if_false, if_true, Bool.not_true, bnd_eq]
   unfold scBad
   by_cases h3 : t.kind = 3
   ·by_cases b1 : t.scale < 0
    ·simp [h3, b1, show ¬ (0 : Int) ≤ t.scale by omega, show t.scale ≠ 0 by omega, bnd_eq]
    ·by_cases b2 : 12 < t.scale
     ·simp [h3, b1, b2, show (0 : Int) ≤ t.scale by omega, show ¬ t.scale ≤ 12 by omega, show t.scale ≠ 0 by omega, bnd_eq]
     ·simp [h3, b1, b2, show (0 : Int) ≤ t.scale by omega, show t.scale ≤ 12 by omega, bnd_eq]
   ·by_cases b0 : t.scale = 0 <;> simp [h3, b0]

set_option linter.unusedVariables false
set_option linter.unusedSimpArgs false

inductive V : GType → Prop where
 | mk (t : GType) (h1 : shp t = 0) (h2 : ∀ f, f ∈ t.fields → V f.type) : V t

theorem leafV (t : GType) : value_leaf t = some (decide (t.kind ≠ 6 ∧ t.kind ≠ 7)) := by
 unfold value_leaf value_leaf_j1
 by_cases h6 : t.kind = 6 <;> by_cases h7 : t.kind = 7 <;> simp [h6, h7, ift_ite]

theorem leafR (k : Int) : ref1_Leaf k = some (decide (k ≠ 6 ∧ k ≠ 7)) := by
 unfold ref1_Leaf ref1_Leaf_j1
 by_cases h6 : k = 6 <;> by_cases h7 : k = 7 <;> simp [h6, h7, ift_ite]

theorem checkJ2 {t : GType} (ho : FsOk t.fields) (q : GType → Int → GChecker → Option (Int × GChecker)) (l z : Int) :
  value_checker_check_j2 q t l z = if shp t ≠ 0 then some (shp t, ⟨z⟩) else value_checker_check_l1 q t l BIG z 0 := by
 have hj4 : ∀ x, value_checker_check_j4 q t l z x = if x = true then some (1, ⟨z⟩) else if vf t ≠ 0 then some (vf t, ⟨z⟩) else value_checker_check_l1 q t l BIG z 0 := by
  intro x
  unfold value_checker_check_j4
  rw [vFields ho]
  cases x <;> simp [ift_ite, bnd_eq]
 unfold value_checker_check_j2 value_checker_check_j3 shp
 simp only [ift_ite, hj4]
 by_cases a1 : t.kind < 1
 ·simp [a1]
 ·by_cases a2 : 7 < t.kind
  ·simp [a1, a2]
  ·simp only [a1, a2, decide_false, or_self, if_false, Bool.false_eq_true]
   unfold scBad
   by_cases b0 : t.scale = 0
   ·simp [b0]
   ·by_cases h3 : t.kind = 3
    ·by_cases b1 : t.scale < 0
     ·simp [b0, h3, b1]
     ·by_cases b2 : 12 < t.scale
      ·simp [b0, h3, b1, b2]
      ·simp [b0, h3, b1, b2]
    ·simp [b0, h3]

theorem checkR1 {t : GType} (ho : FsOk t.fields) (q : GType → Int → Int → Option (Int × Int)) (l z : Int) :
  ref1_checkType_j1 q t l z = if shp t ≠ 0 then some (shp t, z) else ref1_checkType_l1 q t l BIG z 0 := by
 unfold ref1_checkType_j1
 rw [rShape ho]
 simp [ift_ite, bnd_eq]

theorem V_of {t : GType} (h : shp t = 0) (hf : ∀ f ∈ t.fields, V f.type) : V t := .mk t h hf

theorem check_loop {t : GType} (ho : FsOk t.fields) (l : Int) (hl0 : -10 ≤ l) (hl1 : l ≤ 10) (q1 : GType → Int → GChecker → Option (Int × GChecker)) (q2 : GType → Int → Int → Option (Int × Int))
  (hq : ∀ f ∈ t.fields, ∀ n : Int, 0 ≤ n → n ≤ 40 → ∃ e m, q1 f.type (l + 1) ⟨n⟩ = some (e, ⟨m⟩) ∧ q2 f.type (l + 1) n = some (e, m) ∧ 0 ≤ m ∧ m ≤ 40 ∧ (e = 0 → V f.type)) :
  ∀ (kk i : Nat) (n : Int), i ≤ t.fields.length → t.fields.length - i < kk → 0 ≤ n → n ≤ 40 →
   ∃ e m, value_checker_check_l1 q1 t l kk n (i : Int) = some (e, ⟨m⟩) ∧ ref1_checkType_l1 q2 t l kk n (i : Int) = some (e, m) ∧ 0 ≤ m ∧ m ≤ 40 ∧ (e = 0 → ∀ j, i ≤ j → ∀ h : j < t.fields.length, V t.fields[j].type) := by
 intro kk
 induction kk with
 | zero => intro i n _ h; omega
 | succ kk ih =>
  intro i n hi hk n0 n1
  rw [value_checker_check_l1, ref1_checkType_l1]
  by_cases h : i = t.fields.length
  ·subst h
   simp only [Int.lt_irrefl, decide_false, ift_false]
   exact ⟨0, n, rfl, rfl, n0, n1, fun _ j h1 h2 => by omega⟩
  ·have hlt : i < t.fields.length := by omega
   rw [dec_lt hlt, ift_true, ift_true, at_nat hlt, bnd_eq, bnd_eq, w64 (x := l + 1) (by omega) (by omega), wrap_succ hlt ho.len]
   obtain ⟨e, m, h1, h2, h3, h4, h5⟩ := hq _ (List.getElem_mem hlt) n n0 n1
   rw [h1, h2]
   simp only [bnd_eq, ift_ite]
   by_cases he : e = 0
   ·obtain ⟨e', m', g1, g2, g3, g4, g5⟩ := ih (i + 1) m (by omega) (by omega) h3 h4
    refine ⟨e', m', by simpa [he] using g1, by simpa [he] using g2, g3, g4, fun h0 j hj hjl => ?_⟩
    by_cases hji : j = i
    ·subst hji; exact h5 he
    ·exact g5 h0 j (by omega) hjl
   ·exact ⟨e, m, by simp [he], by simp [he], h3, h4, fun h0 => absurd h0 he⟩

theorem check_eq : ∀ (d k : Nat) (t : GType) (l n : Int), l = 5 - d → d ≤ 5 → d < k → sizeT t < 1000000000 → 0 ≤ n → n ≤ 40 →
  ∃ e m, value_checker_check k t l ⟨n⟩ = some (e, ⟨m⟩) ∧ ref1_checkType k t l n = some (e, m) ∧ 0 ≤ m ∧ m ≤ 40 ∧ (e = 0 → V t) := by
 intro d
 induction d with
 | zero =>
  intro k t l n hl _ hk hs n0 n1
  obtain ⟨k, rfl⟩ : ∃ k', k = k' + 1 := ⟨k - 1, by omega⟩
  have hl4 : (4 : Int) < l := by omega
  rw [value_checker_check, ref1_checkType]
  simp only [hl4, decide_true, ift_true, value_checker_check_j1]
  exact ⟨7, n, rfl, rfl, n0, n1, fun h => by omega⟩
 | succ d ih =>
  intro k t l n hl hd hk hs n0 n1
  obtain ⟨k, rfl⟩ : ∃ k', k = k' + 1 := ⟨k - 1, by omega⟩
  have hl4 : ¬ (4 : Int) < l := by omega
  have hsz := sizeT_eq t
  have ho : FsOk t.fields := fsOk_of (by omega)
  have hq : ∀ f ∈ t.fields, ∀ n : Int, 0 ≤ n → n ≤ 40 → ∃ e m, value_checker_check k f.type (l + 1) ⟨n⟩ = some (e, ⟨m⟩) ∧ ref1_checkType k f.type (l + 1) n = some (e, m) ∧ 0 ≤ m ∧ m ≤ 40 ∧ (e = 0 → V f.type) := by
   intro f hf n n0 n1
   have h1 := sizeF_mem hf
   have h2 := sizeFd_eq f
   exact ih k f.type (l + 1) n (by omega) (by omega) (by omega) (by omega) n0 n1
  have main : ∀ z : Int, 0 ≤ z → z ≤ 40 → ∃ e m, value_checker_check_j2 (value_checker_check k) t l z = some (e, ⟨m⟩) ∧ ref1_checkType_j1 (ref1_checkType k) t l z = some (e, m) ∧ 0 ≤ m ∧ m ≤ 40 ∧ (e = 0 → V t) := by
   intro z z0 z1
   rw [checkJ2 ho, checkR1 ho]
   by_cases hsh : shp t = 0
   ·obtain ⟨e, m, h1, h2, h3, h4, h5⟩ := check_loop ho l (by omega) (by omega) _ _ hq BIG 0 z (Nat.zero_le _) (by rw [big_val]; have := ho.len; omega) z0 z1
    refine ⟨e, m, by simpa [hsh] using h1, by simpa [hsh] using h2, h3, h4, fun he => V_of hsh (fun f hf => ?_)⟩
    obtain ⟨j, hj, rfl⟩ := List.getElem_of_mem hf
    exact h5 he j (Nat.zero_le _) hj
   ·exact ⟨shp t, z, by simp [hsh], by simp [hsh], z0, z1, fun h => absurd h hsh⟩
  rw [value_checker_check, ref1_checkType]
  simp only [hl4, decide_false, ift_false, leafV, leafR, bnd_eq, value_checker_check_j1]
  by_cases hleaf : t.kind ≠ 6 ∧ t.kind ≠ 7
  ·simp only [hleaf, ne_eq, not_false_eq_true, and_self, decide_true, ift_true]
   by_cases h40 : n = 40
   ·simp only [h40, beq_self_eq_true, ift_true]
    exact ⟨7, 40, rfl, rfl, by omega, by omega, fun h => by omega⟩
   ·have : (n == 40) = false := by simpa using h40
    simp only [this, ift_false]
    rw [w64 (x := n + 1) (by omega) (by omega)]
    exact main (n + 1) (by omega) (by omega)
  ·simp only [hleaf, decide_false, ift_false]
   exact main n n0 n1

theorem checkType_eq (t : GType) (hs : sizeT t < 1000000000) : ∃ e, value_CheckType t = some e ∧ ref1_CheckType t = some e ∧ (e = 0 → V t) := by
 obtain ⟨e, m, h1, h2, h3, h4, h5⟩ := check_eq 4 BIG t 1 0 (by omega) (by omega) (by rw [big_val]; omega) hs (by omega) (by omega)
 refine ⟨e, ?_, ?_, h5⟩
 ·unfold value_CheckType; rw [h1]; rfl
 ·unfold ref1_CheckType; rw [h2]; rfl

end Go.Proofs.YtikbfjpcmalmlaaGreatDoor
namespace Go.Proofs.YtikbfjpcmalmlaaGreatDoor
open Go Go.SX Go.SX.Cal Go.Lib
set_option linter.unusedVariables false
set_option linter.unusedSimpArgs false

mutual
def sizeV : GValue → Nat
 | ⟨_, _, _, s, it⟩ => s.size + sizeL it + 1
def sizeL : List GValue → Nat
 | [] => 0
 | x :: l => sizeV x + sizeL l
end

theorem sizeV_eq : ∀ v : GValue, sizeV v = v.s.size + sizeL v.items + 1
 | ⟨_, _, _, _, _⟩ => by simp only [sizeV]

def ctl (s : ByteArray) (i : Nat) : Bool := decide (byt s i < 32) || byt s i == 127

def textOk (s : ByteArray) : Bool := decide (s.size ≤ 256) && (validD s.data.toList && (first (ctl s) 0 s.size).isNone)

def plainOk (v : GValue) : Bool :=
 let bare := v.n == 0 && v.scale == 0
 let noS := decide (v.s.size = 0)
 let noI := ((v.items.length : Int) == 0)
 if v.kind = 0 then bare && (noS && noI)
 else if v.kind = 1 then (decide (0 ≤ v.n) && decide (v.n ≤ 1)) && (v.scale == 0 && (noS && noI))
 else if v.kind = 2 then (decide (-999999999999999999 ≤ v.n) && decide (v.n ≤ 999999999999999999)) && (v.scale == 0 && (noS && noI))
 else if v.kind = 3 then (decide (-999999999999999999 ≤ v.n) && decide (v.n ≤ 999999999999999999)) && ((decide (0 ≤ v.scale) && decide (v.scale ≤ 12)) && (noS && noI))
 else if v.kind = 4 then bare && (textOk v.s && noI)
 else if v.kind = 5 then (decide (-62135596800 ≤ v.n) && decide (v.n ≤ 253402300799)) && (v.scale == 0 && (noS && noI))
 else if v.kind = 6 then bare && (noS && decide ((v.items.length : Int) ≤ 64))
 else if v.kind = 7 then bare && (noS && decide ((0 : Int) < (v.items.length : Int)))
 else false

def soundL (f : GValue → Int → Bool × Int) : List GValue → Int → Bool × Int
 | [], z => (true, z)
 | v :: l, z => if (f v z).1 = true then soundL f l (f v z).2 else (false, (f v z).2)

def cnt (v : GValue) (z : Int) : Int := if v.kind = 0 then z else z + 1

def soundD : Nat → GValue → Int → Bool × Int
 | 0, v, z => (false, cnt v z)
 | d + 1, v, z => if 256 < cnt v z ∨ plainOk v = false then (false, cnt v z) else soundL (soundD d) v.items (cnt v z)

set_option linter.unusedVariables false
set_option linter.unusedSimpArgs false

def Snd (d : Nat) (v : GValue) : Prop := ∃ z, (soundD d v z).1 = true

theorem soundL_mem {f : GValue → Int → Bool × Int} : ∀ {l : List GValue} {z : Int}, (soundL f l z).1 = true → ∀ x ∈ l, ∃ z', (f x z').1 = true
 | [], _, _, x, hx => by cases hx
 | v :: l, z, h, x, hx => by
  simp only [soundL] at h
  by_cases hv : (f v z).1 = true
  ·rw [if_pos hv] at h
   rcases List.mem_cons.1 hx with rfl | hx
   ·exact ⟨z, hv⟩
   ·exact soundL_mem h x hx
  ·rw [if_neg hv] at h; cases h

theorem Snd.zero {v : GValue} (h : Snd 0 v) : False := by obtain ⟨z, h⟩ := h; cases h

theorem Snd.succ {d : Nat} {v : GValue} (h : Snd (d + 1) v) : plainOk v = true ∧ ∀ x ∈ v.items, Snd d x := by
 obtain ⟨z, h⟩ := h
 simp only [soundD] at h
 by_cases hc : 256 < cnt v z ∨ plainOk v = false
 ·rw [if_pos hc] at h; cases h
 ·rw [if_neg hc] at h
  refine ⟨?_, fun x hx => soundL_mem h x hx⟩
  cases hp : plainOk v with
  | true => rfl
  | false => exact absurd (.inr hp) hc

theorem V.sh {t : GType} (h : V t) : shp t = 0 := by cases h; assumption
theorem V.fs {t : GType} (h : V t) : ∀ f, f ∈ t.fields → V f.type := by cases h; assumption

theorem V.scale {t : GType} (h : V t) (hk : t.kind ≠ 3) : t.scale = 0 := by
 have := h.sh
 unfold shp at this
 split at this
 ·cases this
 ·by_cases h2 : scBad t
  ·rw [if_pos h2] at this; cases this
  ·by_cases hs : t.scale = 0
   ·exact hs
   ·exact absurd ⟨hs, .inl hk⟩ h2

theorem V.list {t : GType} (h : V t) (hk : t.kind = 6) : t.fields.length = 1 := by
 have := h.sh
 unfold shp at this
 split at this
 ·cases this
 ·by_cases h2 : scBad t
  ·rw [if_pos h2] at this; cases this
  ·rw [if_neg h2] at this
   unfold vf at this
   rw [if_pos hk] at this
   split at this
   ·cases this
   ·rename_i h3
    by_cases hl : t.fields.length = 1
    ·exact hl
    ·exact absurd (.inl hl) h3

def nd (t : GType) (i : Nat) : Bool := (t.fields[if t.kind = 6 then 0 else i]?.map (·.need)).getD false
end Go.Proofs.YtikbfjpcmalmlaaGreatDoor
namespace Go.Proofs.YtikbfjpcmalmlaaGreatDoor
open Go Go.SX Go.SX.Cal
set_option linter.unusedVariables false
set_option linter.unusedSimpArgs false

theorem sizeF_drop {l : List GField} {i : Nat} (h : i < l.length) : sizeF (l.drop i) = sizeFd l[i] + sizeF (l.drop (i + 1)) := by
 rw [List.drop_eq_getElem_cons h]; simp only [sizeF]

theorem big_succ : BIG = 1152921504606846975 + 1 := rfl

set_option linter.unusedVariables false
set_option linter.unusedSimpArgs false

set_option linter.unusedVariables false
set_option linter.unusedSimpArgs false

mutual
def idsT : GType → List Int
 | ⟨_, _, fs⟩ => idsFs fs
def idsFs : List (FieldP GType) → List Int
 | [] => []
 | f :: l => idsFd f ++ idsFs l
def idsFd : FieldP GType → List Int
 | ⟨i, _, _, t⟩ => i :: idsT t
end

theorem idsT_eq : ∀ t : GType, idsT t = idsFs t.fields
 | ⟨_, _, _⟩ => by simp only [idsT]
theorem idsFd_eq : ∀ f : GField, idsFd f = f.id :: idsFs f.type.fields
 | ⟨_, _, _, t⟩ => by simp only [idsFd, idsT_eq]

theorem idsFs_drop {l : List GField} {i : Nat} (h : i < l.length) : idsFs (l.drop i) = idsFd l[i] ++ idsFs (l.drop (i + 1)) := by
 rw [List.drop_eq_getElem_cons h]; simp only [idsFs]

mutual
theorem idsT_len : ∀ t : GType, (idsT t).length ≤ sizeT t
 | ⟨_, _, fs⟩ => by simp only [idsT, sizeT]; have := idsFs_len fs; omega
theorem idsFs_len : ∀ l : List (FieldP GType), (idsFs l).length ≤ sizeF l
 | [] => by simp [idsFs]
 | f :: l => by
  simp only [idsFs, sizeF, List.length_append]
  have := idsFd_len f
  have := idsFs_len l
  omega
theorem idsFd_len : ∀ f : FieldP GType, (idsFd f).length ≤ sizeFd f
 | ⟨i, n, q, t⟩ => by
  simp only [idsFd, sizeFd, List.length_cons]
  have := idsT_len t
  omega
end

theorem ids_eq : ∀ (N k : Nat) (fs : List GField), sizeF fs ≤ N → N < k → sizeF fs < 1000000000 → ref1_Ids k fs = some (idsFs fs) := by
 intro N
 induction N with
 | zero =>
  intro k fs h hk _
  obtain ⟨k, rfl⟩ : ∃ x, k = x + 1 := ⟨k - 1, by omega⟩
  have hl := sizeF_len fs
  have : fs = [] := List.eq_nil_of_length_eq_zero (by omega)
  subst this
  rw [ref1_Ids, big_succ, ref1_Ids_l1]
  rfl
 | succ N ih =>
  intro k fs hN hk hs
  obtain ⟨k, rfl⟩ : ∃ x, k = x + 1 := ⟨k - 1, by omega⟩
  have hl := sizeF_len fs
  rw [ref1_Ids]
  have loop : ∀ (kk i : Nat) (acc : List Int), i ≤ fs.length → fs.length - i < kk → acc.length + sizeF (fs.drop i) ≤ sizeF fs → ref1_Ids_l1 (ref1_Ids k) fs kk acc (i : Int) = some (acc ++ idsFs (fs.drop i)) := by
   intro kk
   induction kk with
   | zero => intro i acc _ h; omega
   | succ kk ihk =>
    intro i acc hi hk2 hacc
    rw [ref1_Ids_l1]
    by_cases h : i = fs.length
    ·subst h
     simp only [Int.lt_irrefl, decide_false, ift_false, ref1_Ids_j1, List.drop_length, idsFs, List.append_nil]
    ·have h1 : i < fs.length := by omega
     have m1 := sizeF_mem (List.getElem_mem h1)
     have m2 := sizeFd_eq fs[i]
     have m3 := sizeT_eq fs[i].type
     have m4 := sizeF_drop h1
     have m5 := idsFs_len fs[i].type.fields
     rw [dec_lt h1, ift_true, at_nat h1, bnd_eq, grd_pos (by omega), ih k _ (by omega) (by omega) (by omega), bnd_eq, grd_pos (by simp; omega), wrap_succ h1 (by omega)]
     rw [ihk (i + 1) _ (by omega) (by omega) (by simp; omega), idsFs_drop h1, idsFd_eq]
     simp
  have := loop BIG 0 [] (Nat.zero_le _) (by rw [big_val]; omega) (by simp)
  simpa using this

def stp (x : Int) (m : List (Int × Int)) : Int × List (Int × Int) :=
 if x < 1 then (3, m) else
  let y := IntKind.i64.wrap ((mget (kInt .i64) m x).getD 0 + 1)
  if 1 < (mget (kInt .i64) (mset (kInt .i64) m x y) x).getD 0 then (5, mset (kInt .i64) m x y) else (0, mset (kInt .i64) m x y)

def scan : List Int → List (Int × Int) → Int × List (Int × Int)
 | [], m => (0, m)
 | x :: l, m => if (stp x m).1 ≠ 0 then stp x m else scan l (stp x m).2

theorem scan_app : ∀ (a b : List Int) (m : List (Int × Int)), scan (a ++ b) m = if (scan a m).1 ≠ 0 then scan a m else scan b (scan a m).2
 | [], b, m => by simp [scan]
 | x :: a, b, m => by
  simp only [List.cons_append, scan]
  by_cases h : (stp x m).1 = 0
  ·simp only [h, ne_eq, not_true, if_false]
   exact scan_app a b _
  ·simp [h]

theorem schema1_eq (f : GField) (m : List (Int × Int)) : value_CheckSchema_1 f m = some (stp f.id m) := by
 unfold value_CheckSchema_1 stp
 simp only [bnd_eq, ift_ite, decide_eq_true_eq]
 split
 ·rfl
 ·split <;> rfl

theorem walk_eq : ∀ (N k : Nat) (fs : List GField) (m : List (Int × Int)), sizeF fs ≤ N → N < k → sizeF fs < 1000000000 → value_Walk_of_value_CheckSchema_1 k fs m = some (scan (idsFs fs) m) := by
 intro N
 induction N with
 | zero =>
  intro k fs m h hk _
  obtain ⟨k, rfl⟩ : ∃ x, k = x + 1 := ⟨k - 1, by omega⟩
  have hl := sizeF_len fs
  have : fs = [] := List.eq_nil_of_length_eq_zero (by omega)
  subst this
  rw [value_Walk_of_value_CheckSchema_1, big_succ, value_Walk_of_value_CheckSchema_1_l1]
  rfl
 | succ N ih =>
  intro k fs m hN hk hs
  obtain ⟨k, rfl⟩ : ∃ x, k = x + 1 := ⟨k - 1, by omega⟩
  have hl := sizeF_len fs
  rw [value_Walk_of_value_CheckSchema_1]
  have loop : ∀ (kk i : Nat) (m : List (Int × Int)), i ≤ fs.length → fs.length - i < kk → value_Walk_of_value_CheckSchema_1_l1 (value_Walk_of_value_CheckSchema_1 k) fs kk m (i : Int) = some (scan (idsFs (fs.drop i)) m) := by
   intro kk
   induction kk with
   | zero => intro i m _ h; omega
   | succ kk ihk =>
    intro i m hi hk2
    rw [value_Walk_of_value_CheckSchema_1_l1]
    by_cases h : i = fs.length
    ·subst h
     simp only [Int.lt_irrefl, decide_false, ift_false, value_Walk_of_value_CheckSchema_1_j1, List.drop_length, idsFs, scan]
    ·have h1 : i < fs.length := by omega
     have m1 := sizeF_mem (List.getElem_mem h1)
     have m2 := sizeFd_eq fs[i]
     have m3 := sizeT_eq fs[i].type
     rw [dec_lt h1, ift_true, at_nat h1, bnd_eq, schema1_eq, bnd_eq, wrap_succ h1 (by omega), idsFs_drop h1, idsFd_eq, List.cons_append, scan, ih k _ _ (by omega) (by omega) (by omega)]
     simp only [bnd_eq, ift_ite]
     by_cases h0 : (stp fs[i].id m).1 = 0
     ·simp only [h0, bne_self_eq_false, Bool.false_eq_true, if_false, ne_eq, not_true, scan_app]
      by_cases h2 : (scan (idsFs fs[i].type.fields) (stp fs[i].id m).2).1 = 0
      ·simp only [h2, bne_self_eq_false, Bool.false_eq_true, if_false, not_true]
       exact ihk (i + 1) _ (by omega) (by omega)
      ·simp [h2]
     ·simp [h0]
  have := loop BIG 0 m (Nat.zero_le _) (by rw [big_val]; omega)
  simpa using this

set_option linter.unusedVariables false
set_option linter.unusedSimpArgs false

abbrev KI : KEnc Int := kInt .i64

theorem mget_set_same : ∀ (m : List (Int × Int)) (k v : Int), mget KI (mset KI m k v) k = some v
 | [], k, v => by simp [mset, mget, kInt]
 | (k', v') :: l, k, v => by
  by_cases h : k = k'
  ·simp [mset, mget, kInt, h]
  ·have hb : (k == k') = false := by simpa using h
   have := mget_set_same l k v
   simp only [mset, mget, kInt, hb, Bool.false_eq_true, if_false] at this ⊢
   exact this

theorem mget_set_other : ∀ (m : List (Int × Int)) (k v x : Int), x ≠ k → mget KI (mset KI m k v) x = mget KI m x
 | [], k, v, x, hx => by simp [mset, mget, kInt, hx]
 | (k', v') :: l, k, v, x, hx => by
  by_cases h : k = k'
  ·subst h
   simp [mset, mget, kInt, hx]
  ·have hb : (k == k') = false := by simpa using h
   have := mget_set_other l k v x hx
   simp only [mset, mget, kInt, hb, Bool.false_eq_true, if_false] at this ⊢
   rw [this]

def Inv (m : List (Int × Int)) (seen : List Int) : Prop := ∀ x, (mget KI m x).getD 0 = if x ∈ seen then 1 else 0

theorem stp_eq {m : List (Int × Int)} {seen : List Int} (h : Inv m seen) (x : Int) : (stp x m).1 = (if x < 1 then 3 else if x ∈ seen then 5 else 0) ∧ ((stp x m).1 = 0 → Inv (stp x m).2 (seen ++ [x])) := by
 unfold stp
 have hx := h x
 by_cases h1 : x < 1
 ·simp [h1]
 ·simp only [h1, if_false]
  have e : (mget (kInt .i64) m x).getD 0 = if x ∈ seen then 1 else 0 := hx
  rw [e]
  by_cases h2 : x ∈ seen
  ·simp only [h2, if_true]
   rw [show IntKind.i64.wrap (1 + 1) = 2 from w64 (by omega) (by omega)]
   have := mget_set_same m x 2
   simp only [KI] at this
   simp [this]
  ·simp only [h2, if_false]
   rw [show IntKind.i64.wrap (0 + 1) = 1 from w64 (by omega) (by omega)]
   have h3 := mget_set_same m x 1
   simp only [KI] at h3
   simp only [h3, Option.getD_some, Int.lt_irrefl, if_false, true_and]
   intro _ y
   by_cases hy : y = x
   ·subst hy
    simp [KI, h3]
   ·have h4 := mget_set_other m x 1 y hy
    simp only [KI] at h4
    have h5 := h y
    simp only [KI] at h5 ⊢
    rw [h4, h5]
    simp [hy]

theorem schema_l2 (ids : List Int) (hl : ids.length < 1000000000) (rec1 : Int → Option Int) {i : Nat} (hi : i < ids.length) : ref1_CheckSchema_l2 rec1 ids (i : Int) ids[i] BIG (0 : Int) = if ids[i] ∈ ids.take i then some 5 else rec1 ((i + 1 : Nat) : Int) := by
 have hs := search (f := fun k j => ref1_CheckSchema_l2 rec1 ids (i : Int) ids[i] k (j : Int)) (n := i) (P := fun j => ids[j]? == some ids[i]) (A := fun j => some 5) (B := rec1 ((i + 1 : Nat) : Int)) (fun k j hj => by
   have hjf : j < ids.length := by omega
   show ref1_CheckSchema_l2 rec1 ids (i : Int) ids[i] (k + 1) (j : Int) = _
   rw [ref1_CheckSchema_l2, dec_lt hj, ift_true, at_nat hjf, wrap_succ hj (by omega)]
   simp only [bnd_eq, ift_ite, List.getElem?_eq_getElem hjf, Option.some_beq_some])
  (fun k => by
   show ref1_CheckSchema_l2 rec1 ids (i : Int) ids[i] (k + 1) (i : Int) = _
   rw [ref1_CheckSchema_l2]; simp only [Int.lt_irrefl, decide_false, ift_false, ref1_CheckSchema_j1]; rw [wrap_succ hi hl]) BIG 0 (Nat.zero_le _) (by rw [big_val]; omega)
 have hs : ref1_CheckSchema_l2 rec1 ids (i : Int) ids[i] BIG (0 : Int) = _ := hs
 rw [hs]
 cases hf : first (fun j => ids[j]? == some ids[i]) 0 i with
 | none =>
  rw [first_none] at hf
  have : ids[i] ∉ ids.take i := by
   intro hm
   obtain ⟨j, hj, he⟩ := List.getElem_of_mem hm
   have hj' : j < i := by simp at hj; omega
   have := hf j (Nat.zero_le _) hj'
   rw [List.getElem_take] at he
   simp [List.getElem?_eq_getElem (show j < ids.length by omega), he] at this
  simp [this]
 | some j =>
  have : ids[i] ∈ ids.take i := by
   unfold first at hf
   have h1 := List.find?_some hf
   have h2 := List.mem_of_find?_eq_some hf
   rw [List.mem_range'_1] at h2
   have hjl : j < ids.length := by omega
   simp only [List.getElem?_eq_getElem hjl, Option.some_beq_some, beq_iff_eq] at h1
   rw [← h1]
   exact List.mem_iff_getElem.2 ⟨j, by simp; omega, by simp⟩
  simp [this]

theorem schema_loop (ids : List Int) (hl : ids.length < 1000000000) : ∀ (kk i : Nat) (m : List (Int × Int)), i ≤ ids.length → ids.length - i < kk → Inv m (ids.take i) → ref1_CheckSchema_l1 ids kk (i : Int) = some (scan (ids.drop i) m).1 := by
 intro kk
 induction kk with
 | zero => intro i m _ h; omega
 | succ kk ih =>
  intro i m hi hk hm
  rw [ref1_CheckSchema_l1]
  by_cases h : i = ids.length
  ·subst h
   simp only [Int.lt_irrefl, decide_false, ift_false, List.drop_length, scan]
   rfl
  ·have h1 : i < ids.length := by omega
   rw [dec_lt h1, ift_true, at_nat h1, bnd_eq, schema_l2 ids hl _ h1, List.drop_eq_getElem_cons h1, scan]
   obtain ⟨g1, g2⟩ := stp_eq hm ids[i]
   rw [g1] at g2 ⊢
   simp only [ift_ite, decide_eq_true_eq]
   by_cases h2 : ids[i] < 1
   ·simp [h2, g1]
   ·by_cases h3 : ids[i] ∈ ids.take i
    ·simp [h2, h3, g1]
    ·simp only [h2, h3, if_false, ne_eq, not_true]
     simp only [h2, h3, if_false] at g2
     refine ih (i + 1) _ (by omega) (by omega) ?_
     have := g2 trivial
     rwa [List.take_append_getElem h1] at this

theorem schema_eq (fs : List GField) (hs : sizeF fs < 1000000000 - 1) : ∃ e, value_CheckSchema fs = some e ∧ ref1_CheckSchema fs = some e := by
 obtain ⟨e, h1, h2, h3⟩ := checkType_eq ⟨7, 0, fs⟩ (by simp only [sizeT]; omega)
 unfold value_CheckSchema ref1_CheckSchema
 rw [h1, h2]
 simp only [bnd_eq, ift_ite]
 by_cases he : e = 0
 ·have w := walk_eq 1000000000 BIG fs [] (by omega) (by rw [big_val]; omega) (by omega)
  have i := ids_eq 1000000000 BIG fs (by omega) (by rw [big_val]; omega) (by omega)
  have hl := idsFs_len fs
  have l := schema_loop (idsFs fs) (by omega) BIG 0 [] (Nat.zero_le _) (by rw [big_val]; omega) (fun x => by simp [mget])
  have l : ref1_CheckSchema_l1 (idsFs fs) BIG (0 : Int) = _ := l
  refine ⟨(scan (idsFs fs) []).1, ?_, ?_⟩
  ·simp [he, w, bnd_eq]
  ·simp [he, i, bnd_eq, l]
 ·exact ⟨e, by simp [he], by simp [he]⟩

set_option linter.unusedVariables false
set_option linter.unusedSimpArgs false

theorem bnd_s {α β : Type} (a : α) (f : α → Option β) : bnd (some a) f = f a := rfl
theorem iftT {β : Type} (x y : Option β) : ift true x y = x := rfl
theorem iftF {β : Type} (x y : Option β) : ift false x y = y := rfl
theorem fuel {m f : Nat} (h : m < f) : ∃ q, f = q + 1 := ⟨f - 1, by omega⟩
theorem dec_ge {i n : Nat} (h : ¬ i < n) : decide ((i : Int) < (n : Int)) = false := by simp; omega
theorem drop_at {α : Type} {l : List α} {i : Nat} (hi : i < l.length) : l.drop i = l[i] :: l.drop (i + 1) := List.drop_eq_getElem_cons hi

noncomputable def ck (t : GType) (v : GValue) : Int := (value_Check t v).getD 0

def sc (fs : List GField) : Int := (value_CheckSchema fs).getD 0

theorem sc_c {fs : List GField} (h : sizeF fs < 1000000000 - 1) : value_CheckSchema fs = some (sc fs) := by
 obtain ⟨e, h1, _⟩ := schema_eq fs h
 unfold sc; rw [h1]; rfl
theorem sc_r {fs : List GField} (h : sizeF fs < 1000000000 - 1) : ref1_CheckSchema fs = some (sc fs) := by
 obtain ⟨e, h1, h2⟩ := schema_eq fs h
 unfold sc; rw [h1, h2]; rfl

end Go.Proofs.YtikbfjpcmalmlaaGreatDoor
namespace Go.Proofs.YtikbfjpcmalmlaaGreatDoor
open Go Go.SX Go.SX.Cal Go.Lib
set_option linter.unusedVariables false
set_option linter.unusedSimpArgs false

theorem find_eq {p : List GField} (hl : p.length < 1000000000) (x : Int) : ∃ r, column_earlier p x = some r ∧ ref2_find p x = some r ∧ (r < 0 ∨ ∃ i : Nat, i < p.length ∧ r = (i : Int)) := by
 have key : ∀ (m f f' i : Nat), i + m = p.length → m < f → m < f' → ∃ r, slices_IndexFunc_api_Field_api_Field_of_column_earlier_1_l1 p x f (i : Int) = some r ∧ ref2_find_l1 p x f' (i : Int) = some r ∧ (r < 0 ∨ ∃ i : Nat, i < p.length ∧ r = (i : Int)) := by
  intro m
  induction m with
  | zero =>
   intro f f' i hi hf hf'
   obtain ⟨f, rfl⟩ := fuel hf
   obtain ⟨f', rfl⟩ := fuel hf'
   rw [slices_IndexFunc_api_Field_api_Field_of_column_earlier_1_l1, ref2_find_l1, dec_ge (by omega), iftF, iftF]
   exact ⟨-1, rfl, rfl, .inl (by omega)⟩
  | succ m ih =>
   intro f f' i hi hf hf'
   obtain ⟨f, rfl⟩ := fuel hf
   obtain ⟨f', rfl⟩ := fuel hf'
   have h1 : i < p.length := by omega
   rw [slices_IndexFunc_api_Field_api_Field_of_column_earlier_1_l1, ref2_find_l1, dec_lt h1, iftT, iftT, at_nat h1, bnd_s, bnd_s, column_earlier_1_s, bnd_s]
   cases he : (p[i].id == x) with
   | true => rw [iftT, iftT]; exact ⟨i, rfl, rfl, .inr ⟨i, h1, rfl⟩⟩
   | false => rw [iftF, iftF, wrap_succ h1 hl]; exact ih f f' (i + 1) (by omega) (by omega) (by omega)
 obtain ⟨r, h1, h2, h3⟩ := key p.length BIG BIG 0 (by omega) (by rw [big_val]; omega) (by rw [big_val]; omega)
 refine ⟨r, ?_, h2, h3⟩
 unfold column_earlier slices_IndexFunc_api_Field_api_Field_of_column_earlier_1
 rw [show ((0 : Nat) : Int) = 0 from rfl] at h1
 rw [h1, bnd_s]

theorem leafT {t : GType} {e : Int} (h : value_CheckType t = some e) : column_leafType t = some (if e ≠ 0 then e else if t.kind = 6 ∨ t.kind = 7 then 2 else 0) := by
 unfold column_leafType column_leafType_j1
 rw [h, bnd_s]
 by_cases he : e = 0
 ·subst he
  by_cases h6 : t.kind = 6
  ·simp [h6, ift_ite]
  ·by_cases h7 : t.kind = 7 <;> simp [h6, h7, ift_ite]
 ·simp [he, ift_ite]

def Wd (t u : GType) : Prop := (t.kind = u.kind ∧ t.scale = u.scale) ∨ (t.kind = 1 ∧ u.kind = 2) ∨ ((t.kind = 1 ∨ t.kind = 2) ∧ u.kind = 3 ∧ u.scale = 0)

structure WdT (t u : GType) : Prop where
 a : V t
 b : V u
 c : value_CheckType u = some 0
 l : t.kind ≠ 6 ∧ t.kind ≠ 7
 m : u.kind ≠ 6 ∧ u.kind ≠ 7
 w : Wd t u

def wdB (t u : GType) : Bool := (t.kind == u.kind && t.scale == u.scale) || (t.kind == 1 && u.kind == 2) || ((t.kind == 1 || t.kind == 2) && u.kind == 3 && u.scale == 0)

theorem Widens_eq (t u : GType) (ht : sizeT t < 1000000000) (hu : sizeT u < 1000000000) : ∃ b, column_Widens t u = some b ∧ ref2_Widens t u = some b ∧ (b = true → WdT t u) := by
 obtain ⟨e, a1, a2, a3⟩ := checkType_eq t ht
 obtain ⟨e', b1, b2, b3⟩ := checkType_eq u hu
 have hc : column_Widens_j1 t u false = some (wdB t u) := by
  unfold column_Widens_j1 column_Widens_j2 column_Widens_j3 column_Widens_j4 wdB
  simp only [ift_ite, beq_iff_eq]
  repeat' split
  all_goals (first | rfl | (simp_all; done) | (simp_all; omega))
 have hr : ref2_Widens_j1 t u false = some (wdB t u) := by
  unfold ref2_Widens_j1 ref2_Widens_j2 ref2_Widens_j3 ref2_Widens_j4 wdB
  simp only [ift_ite, beq_iff_eq]
  repeat' split
  all_goals (first | rfl | (simp_all; done) | (simp_all; omega) | (refine congrArg some (Bool.eq_iff_iff.2 ?_); simp_all; try omega))
 have hc0 : column_Widens_j1 t u true = some false := rfl
 have hr0 : ref2_Widens_j1 t u true = some false := rfl
 have hC : column_Widens t u = some (decide (e = 0 ∧ e' = 0 ∧ (t.kind ≠ 6 ∧ t.kind ≠ 7) ∧ (u.kind ≠ 6 ∧ u.kind ≠ 7)) && wdB t u) := by
  unfold column_Widens
  rw [leafT a1, leafT b1, bnd_s, bnd_s]
  by_cases he : e = 0 <;> by_cases he' : e' = 0 <;> by_cases h1 : t.kind = 6 ∨ t.kind = 7 <;> by_cases h2 : u.kind = 6 ∨ u.kind = 7 <;> simp [he, he', show ¬ e' = 0 → (e' != 0) = true from fun h => by simp [h], ift_ite, hc, hc0, h1, h2, show (t.kind ≠ 6 ∧ t.kind ≠ 7) ↔ ¬ (t.kind = 6 ∨ t.kind = 7) from by omega, show (u.kind ≠ 6 ∧ u.kind ≠ 7) ↔ ¬ (u.kind = 6 ∨ u.kind = 7) from by omega]
 have hR : ref2_Widens t u = some (decide (e = 0 ∧ e' = 0 ∧ (t.kind ≠ 6 ∧ t.kind ≠ 7) ∧ (u.kind ≠ 6 ∧ u.kind ≠ 7)) && wdB t u) := by
  unfold ref2_Widens
  simp only [a2, b2, leafR, bnd_s]
  by_cases he : e = 0 <;> by_cases he' : e' = 0 <;> by_cases h1 : t.kind ≠ 6 ∧ t.kind ≠ 7 <;> by_cases h2 : u.kind ≠ 6 ∧ u.kind ≠ 7 <;> simp [he, he', h1, h2, ift_ite, hr, hr0]
 refine ⟨_, hC, hR, fun h => ?_⟩
 rw [Bool.and_eq_true, decide_eq_true_iff] at h
 obtain ⟨⟨he, he', h6, h7⟩, hw⟩ := h
 subst he; subst he'
 refine ⟨a3 rfl, b3 rfl, b1, h6, h7, ?_⟩
 unfold wdB at hw
 simp at hw
 unfold Wd
 omega

theorem grouped_eq (t : GType) : column_grouped t = some (decide (t.kind = 6 ∨ t.kind = 7)) := by
 unfold column_grouped column_grouped_j1
 by_cases h6 : t.kind = 6 <;> by_cases h7 : t.kind = 7 <;> simp [h6, h7, ift_ite]

def AdT (q : List GField → List GField → Prop) (t u : GType) : Prop := (t.kind ≠ 6 ∧ t.kind ≠ 7 → WdT t u) ∧ (¬ (t.kind ≠ 6 ∧ t.kind ≠ 7) → t.kind = u.kind ∧ q t.fields u.fields)

def AdpD : Nat → List GField → List GField → Prop
 | 0, _, _ => True
 | d + 1, p, q => ∀ f ∈ q, ∀ (i : Nat) (g : GField), ref2_find p f.id = some (i : Int) → p[i]? = some g → AdT (AdpD d) g.type f.type

theorem adaptable_eq : ∀ (N k k' : Nat) (p q : List GField), sizeF q ≤ N → N < k → N < k' → sizeF p < 1000000000 → sizeF q < 1000000000 → ∃ e, column_adaptable k p q = some e ∧ ref2_adaptable k' p q = some e ∧ (e = 0 → ∀ d, AdpD d p q) := by
 intro N
 induction N with
 | zero =>
  intro k k' p q h hk hk' hp hq
  obtain ⟨k, rfl⟩ := fuel hk
  obtain ⟨k', rfl⟩ := fuel hk'
  have hl := sizeF_len q
  have : q = [] := List.length_eq_zero_iff.1 (by omega)
  subst this
  rw [column_adaptable, ref2_adaptable, big_succ, column_adaptable_l1, ref2_adaptable_l1]
  refine ⟨0, rfl, rfl, fun _ d => ?_⟩
  cases d with
  | zero => trivial
  | succ d => exact fun f hf => by cases hf
 | succ N ih =>
  intro k k' p q h hk hk' hp hq
  obtain ⟨k, rfl⟩ := fuel hk
  obtain ⟨k', rfl⟩ := fuel hk'
  have hpl := sizeF_len p
  have hql := sizeF_len q
  have key : ∀ (m f f' i : Nat), i + m = q.length → m < f → m < f' → ∃ e, column_adaptable_l1 (column_adaptable k) p q f (i : Int) = some e ∧ ref2_adaptable_l1 (ref2_adaptable k') p q f' (i : Int) = some e ∧
    (e = 0 → ∀ d, ∀ f ∈ q.drop i, ∀ (i : Nat) (g : GField), ref2_find p f.id = some (i : Int) → p[i]? = some g → AdT (AdpD d) g.type f.type) := by
   intro m
   induction m with
   | zero =>
    intro f f' i hi hf hf'
    obtain ⟨f, rfl⟩ := fuel hf
    obtain ⟨f', rfl⟩ := fuel hf'
    rw [column_adaptable_l1, ref2_adaptable_l1, dec_ge (by omega), iftF, iftF, List.drop_of_length_le (by omega)]
    exact ⟨0, rfl, rfl, fun _ d f hf => by cases hf⟩
   | succ m ih2 =>
    intro f f' i hi hf hf'
    obtain ⟨f, rfl⟩ := fuel hf
    obtain ⟨f', rfl⟩ := fuel hf'
    have h1 : i < q.length := by omega
    obtain ⟨e, c1, c2, c3⟩ := ih2 f f' (i + 1) (by omega) (by omega) (by omega)
    obtain ⟨r, r1, r2, r3⟩ := find_eq (p := p) (by omega) q[i].id
    rw [column_adaptable_l1, ref2_adaptable_l1, dec_lt h1, iftT, iftT, at_nat h1, bnd_s, bnd_s, r1, bnd_s, r2, bnd_s, drop_at h1]
    unfold column_adaptable_j4 ref2_adaptable_j3
    rw [wrap_succ h1 (by omega)]
    rcases r3 with r3 | ⟨j, hj, rfl⟩
    ·rw [decide_eq_true r3, iftT, iftT]
     cases hn : q[i].need with
     | true => rw [iftT, iftT]; exact ⟨9, rfl, rfl, fun h => by cases h⟩
     | false =>
      rw [iftF, iftF]
      refine ⟨e, c1, c2, fun he d x hx j g hg hpj => ?_⟩
      rcases List.mem_cons.1 hx with rfl | hx
      ·rw [r2] at hg; cases hg; omega
      ·exact c3 he d x hx j g hg hpj
    ·rw [decide_eq_false (by omega), iftF, iftF, at_nat hj, bnd_s, bnd_s]
     have hqi := sizeF_mem (List.getElem_mem h1)
     have hpj := sizeF_mem (List.getElem_mem hj)
     have hqi2 := sizeFd_eq q[i]
     have hpj2 := sizeFd_eq p[j]
     have hqi3 := sizeT_eq q[i].type
     have hpj3 := sizeT_eq p[j].type
     obtain ⟨y, y1, y2, y3⟩ := ih k k' p[j].type.fields q[i].type.fields (by omega) (by omega) (by omega) (by omega) (by omega)
     obtain ⟨b, b1, b2, b3⟩ := Widens_eq p[j].type q[i].type (by omega) (by omega)

     have hgo : ∀ (hat : (∀ d, AdpD d p[j].type.fields q[i].type.fields) → ∀ d, AdT (AdpD d) p[j].type q[i].type),
       ∃ e, column_adaptable_j3 (column_adaptable k) (column_adaptable_l1 (column_adaptable k) p q f) (i : Int) q[i] p[j] false = some e ∧ ref2_adaptable_j2 (ref2_adaptable_l1 (ref2_adaptable k') p q f') (ref2_adaptable k') (i : Int) q[i] p[j] false = some e ∧
        (e = 0 → ∀ d, ∀ f ∈ q[i] :: q.drop (i + 1), ∀ (i : Nat) (g : GField), ref2_find p f.id = some (i : Int) → p[i]? = some g → AdT (AdpD d) g.type f.type) := by
      intro hat
      unfold column_adaptable_j3 ref2_adaptable_j2 column_adaptable_j4 ref2_adaptable_j3
      rw [iftF, iftF, y1, bnd_s, y2, bnd_s, wrap_succ h1 (by omega)]
      by_cases hy : y = 0
      ·subst hy
       rw [bne_self_eq_false, iftF, iftF]
       refine ⟨e, c1, c2, fun he d x hx j' g hg hpj' => ?_⟩
       rcases List.mem_cons.1 hx with rfl | hx
       ·rw [r2] at hg
        have : j = j' := by have := Option.some.inj hg; omega
        subst this
        rw [List.getElem?_eq_getElem hj] at hpj'
        cases hpj'
        exact hat (y3 rfl) d
       ·exact c3 he d x hx j' g hg hpj'
      ·rw [show (y != 0) = true by simp [hy], iftT, iftT]
       exact ⟨y, rfl, rfl, fun h => absurd h hy⟩
     have h2c : column_adaptable_j3 (column_adaptable k) (column_adaptable_l1 (column_adaptable k) p q f) (i : Int) q[i] p[j] true = some 2 := rfl
     have h2r : ref2_adaptable_j2 (ref2_adaptable_l1 (ref2_adaptable k') p q f') (ref2_adaptable k') (i : Int) q[i] p[j] true = some 2 := rfl
     have hj1 : ∃ e, column_adaptable_j1 (column_adaptable k) (column_adaptable_l1 (column_adaptable k) p q f) (i : Int) q[i] p[j] false = some e ∧ ref2_adaptable_j1 (ref2_adaptable_l1 (ref2_adaptable k') p q f') (ref2_adaptable k') (i : Int) q[i] p[j] false = some e ∧
        (e = 0 → ∀ d, ∀ f ∈ q[i] :: q.drop (i + 1), ∀ (i : Nat) (g : GField), ref2_find p f.id = some (i : Int) → p[i]? = some g → AdT (AdpD d) g.type f.type) := by
      unfold column_adaptable_j1 ref2_adaptable_j1 column_adaptable_j2
      rw [iftF, iftF, grouped_eq, bnd_s, leafR, bnd_s]
      by_cases hlf : p[j].type.kind ≠ 6 ∧ p[j].type.kind ≠ 7
      ·rw [decide_eq_true hlf, decide_eq_false (by omega)]
       simp only [Bool.not_true, Bool.not_false, iftT, iftF, bnd_s, b1, b2]
       cases b with
       | true => exact hgo fun _ d => ⟨fun _ => b3 rfl, fun h => absurd hlf h⟩
       | false => exact ⟨2, rfl, rfl, fun h => by cases h⟩
      ·rw [decide_eq_false hlf, decide_eq_true (by omega)]
       simp only [Bool.not_true, Bool.not_false, iftT, iftF, bnd_s]
       by_cases hk : p[j].type.kind = q[i].type.kind
       ·rw [show (q[i].type.kind != p[j].type.kind) = false by simp [hk], show (p[j].type.kind != q[i].type.kind) = false by simp [hk], iftF, iftF]
        exact hgo fun hh d => ⟨fun h => absurd h hlf, fun _ => ⟨hk, hh d⟩⟩
       ·rw [show (q[i].type.kind != p[j].type.kind) = true by simp; omega, show (p[j].type.kind != q[i].type.kind) = true by simp; omega, iftT, iftT]
        exact ⟨2, rfl, rfl, fun h => by cases h⟩
     cases hn : q[i].need with
     | true =>
      rw [iftT, iftT]
      cases hm : p[j].need with
      | true => exact hj1
      | false => exact ⟨9, rfl, rfl, fun h => by cases h⟩
     | false => rw [iftF, iftF]; exact hj1
  obtain ⟨e, e1, e2, e3⟩ := key q.length BIG BIG 0 (by omega) (by rw [big_val]; omega) (by rw [big_val]; omega)
  refine ⟨e, e1, e2, fun he d => ?_⟩
  cases d with
  | zero => trivial
  | succ d => exact e3 he d

set_option linter.unusedVariables false
set_option linter.unusedSimpArgs false

theorem leafTab (t : GType) : table_leaf t = some (decide (t.kind ≠ 6 ∧ t.kind ≠ 7)) := by
 unfold table_leaf table_leaf_j1
 by_cases h6 : t.kind = 6 <;> by_cases h7 : t.kind = 7 <;> simp [h6, h7, ift_ite]

def nulT : GType := ⟨0, 0, []⟩
def ttR (p : GTransform) (t : GType) : GType × Int :=
 if t.kind = 6 ∨ t.kind = 7 then (nulT, 2) else if p.kind = 3 ∧ t.kind ≠ 2 ∧ t.kind ≠ 3 ∧ t.kind ≠ 4 then (nulT, 2) else if 4 ≤ p.kind ∧ t.kind ≠ 5 then (nulT, 2)
 else if p.kind = 2 ∨ 4 ≤ p.kind then (⟨2, 0, []⟩, 0) else (t, 0)
def ttS (p : GTransform) (t : GType) (e : Int) : GType × Int :=
 if e ≠ 0 then (nulT, e) else if p.kind < 0 ∨ 7 < p.kind then (nulT, 3)
 else if p.kind = 2 ∨ p.kind = 3 then (if p.param < 1 ∨ 1000000 < p.param then (nulT, 3) else ttR p t) else if p.param ≠ 0 then (nulT, 3) else ttR p t

theorem tab4 (p : GTransform) (t : GType) : table_TransformType_j4 p t = some (ttR p t) := by
 unfold table_TransformType_j4 table_TransformType_j5 table_TransformType_j6 table_TransformType_j7 ttR nulT
 rw [leafTab]
 simp only [bnd_eq, ift_ite]
 by_cases h6 : t.kind = 6
 ·simp [h6]
 by_cases h7 : t.kind = 7
 ·simp [h7]
 by_cases h3 : p.kind = 3
 ·by_cases t2 : t.kind = 2
  ·simp [h6, h7, h3, t2]
  by_cases t3 : t.kind = 3
  ·simp [h6, h7, h3, t2, t3]
  by_cases t4 : t.kind = 4
  ·simp [h6, h7, h3, t2, t3, t4]
  simp [h6, h7, h3, t2, t3, t4]
 ·by_cases h4 : 4 ≤ p.kind
  ·by_cases t5 : t.kind = 5
   ·simp [h6, h7, h3, h4, t5]
   ·simp [h6, h7, h3, h4, t5]
  ·by_cases h2 : p.kind = 2
   ·simp [h6, h7, h3, h4, h2]
   ·simp [h6, h7, h3, h4, h2]

theorem ref2 (p : GTransform) (t : GType) : ref3_TransformType_j2 p t false = some (ttR p t) := by
 unfold ref3_TransformType_j2 ref3_TransformType_j3 ref3_TransformType_j4 ref3_TransformType_j5 ttR nulT
 rw [leafR]
 simp only [bnd_eq, ift_ite]
 by_cases h6 : t.kind = 6
 ·simp [h6]
 by_cases h7 : t.kind = 7
 ·simp [h7]
 by_cases h3 : p.kind = 3
 ·by_cases t2 : t.kind = 2
  ·simp [h6, h7, h3, t2]
  by_cases t3 : t.kind = 3
  ·simp [h6, h7, h3, t2, t3]
  by_cases t4 : t.kind = 4
  ·simp [h6, h7, h3, t2, t3, t4]
  simp [h6, h7, h3, t2, t3, t4]
 ·by_cases h4 : 4 ≤ p.kind
  ·by_cases t5 : t.kind = 5
   ·simp [h6, h7, h3, h4, t5]
   ·simp [h6, h7, h3, h4, t5]
  ·by_cases h2 : p.kind = 2
   ·simp [h6, h7, h3, h4, h2]
   ·simp [h6, h7, h3, h4, h2]

theorem within3 (a b c : Int) : ref3_within a b c = some (decide (b ≤ a ∧ a ≤ c)) := by
 unfold ref3_within ref3_within_j1
 by_cases h1 : b ≤ a <;> by_cases h2 : a ≤ c <;> simp [h1, h2, ift_ite]

theorem tt (p : GTransform) (t : GType) (hs : sizeT t < 1000000000) : ∃ e, (e = 0 → V t) ∧ table_TransformType p t = some (ttS p t e) ∧ ref3_TransformType p t = some (ttS p t e) := by
 obtain ⟨e, h1, h2, h3⟩ := checkType_eq t hs
 refine ⟨e, h3, ?_, ?_⟩
 ·unfold table_TransformType ttS
  rw [h1]
  by_cases he : e = 0
  ·subst he
   unfold table_TransformType_j1 table_TransformType_j2 table_TransformType_j3
   rw [tab4]
   simp only [bnd_eq, ift_ite, nulT]
   by_cases k0 : p.kind < 0
   ·simp [k0]
   by_cases k7 : 7 < p.kind
   ·simp [k0, k7]
   by_cases k2 : p.kind = 2
   ·by_cases m1 : p.param < 1
    ·simp [k0, k7, k2, m1]
    by_cases m2 : 1000000 < p.param
    ·simp [k0, k7, k2, m1, m2]
    simp [k0, k7, k2, m1, m2]
   by_cases k3 : p.kind = 3
   ·by_cases m1 : p.param < 1
    ·simp [k0, k7, k2, k3, m1]
    by_cases m2 : 1000000 < p.param
    ·simp [k0, k7, k2, k3, m1, m2]
    simp [k0, k7, k2, k3, m1, m2]
   by_cases m0 : p.param = 0
   ·simp [k0, k7, k2, k3, m0]
   ·simp [k0, k7, k2, k3, m0]
  ·simp [he, ift_ite, bnd_eq, nulT]
 ·unfold ref3_TransformType ttS
  rw [h2]
  by_cases he : e = 0
  ·subst he
   unfold ref3_TransformType_j1
   rw [within3, within3]
   have hb : ref3_TransformType_j2 p t true = some (nulT, 3) := rfl
   by_cases k0 : p.kind < 0
   ·simp [k0, ift_ite, bnd_eq, show ¬ (0 : Int) ≤ p.kind by omega, nulT]
   by_cases k7 : 7 < p.kind
   ·simp [k0, k7, ift_ite, bnd_eq, show ¬ p.kind ≤ 7 by omega, nulT]
   have k0' : (0 : Int) ≤ p.kind := by omega
   have k7' : p.kind ≤ 7 := by omega
   by_cases k2 : p.kind = 2
   ·by_cases m1 : p.param < 1
    ·simp [k2, m1, ift_ite, bnd_eq, hb, show ¬ (1 : Int) ≤ p.param by omega]
    by_cases m2 : 1000000 < p.param
    ·simp [k2, m1, m2, ift_ite, bnd_eq, hb, show ¬ p.param ≤ 1000000 by omega]
    simp [k2, m1, m2, ift_ite, bnd_eq, ref2, show (1 : Int) ≤ p.param by omega, show p.param ≤ 1000000 by omega]
   by_cases k3 : p.kind = 3
   ·by_cases m1 : p.param < 1
    ·simp [k3, m1, ift_ite, bnd_eq, hb, show ¬ (1 : Int) ≤ p.param by omega]
    by_cases m2 : 1000000 < p.param
    ·simp [k3, m1, m2, ift_ite, bnd_eq, hb, show ¬ p.param ≤ 1000000 by omega]
    simp [k3, m1, m2, ift_ite, bnd_eq, ref2, show (1 : Int) ≤ p.param by omega, show p.param ≤ 1000000 by omega]
   by_cases m0 : p.param = 0
   ·simp [k0, k7, k0', k7', k2, k3, m0, ift_ite, bnd_eq, ref2]
   ·have hm : (p.param != 0) = true := bne_iff_ne.2 m0
    simp [k0, k7, k0', k7', k2, k3, m0, hm, ift_ite, bnd_eq, hb]
  ·simp [he, ift_ite, bnd_eq, nulT]

end Go.Proofs.YtikbfjpcmalmlaaGreatDoor
namespace Go.Proofs.YtikbfjpcmalmlaaGreatDoor
open Go Go.SX Go.SX.Cal
set_option linter.unusedVariables false
set_option linter.unusedSimpArgs false

theorem bS {α β : Type} (a : α) (f : α → Option β) : bnd (some a) f = f a := rfl
theorem iT {β : Type} (x y : Option β) : ift true x y = x := rfl
theorem iF {β : Type} (x y : Option β) : ift false x y = y := rfl
theorem gP {β : Type} {p : Prop} [Decidable p] {x : Option β} (h : p) : grd p x = x := if_pos h
theorem dge {i n : Nat} (h : ¬ i < n) : decide ((i : Int) < (n : Int)) = false := by simp; omega
theorem fu {m f : Nat} (h : m < f) : ∃ q, f = q + 1 := ⟨f - 1, by omega⟩
theorem big0 : BIG = 1152921504606846975 + 1 := rfl

structure Fst (fs : List GField) (id : Int) (i : Nat) : Prop where
 lt : i < fs.length
 eq : ∀ h : i < fs.length, fs[i].id = id
 no : ∀ (j : Nat) (h : j < fs.length), j < i → fs[j].id ≠ id

theorem top_or {fs : List GField} (id : Int) : ∀ (m j : Nat), j + m = fs.length → (∃ i, j ≤ i ∧ i < fs.length ∧ (∀ h : i < fs.length, fs[i].id = id) ∧ ∀ (q : Nat) (h : q < fs.length), j ≤ q → q < i → fs[q].id ≠ id) ∨ ∀ (q : Nat) (h : q < fs.length), j ≤ q → fs[q].id ≠ id := by
 intro m
 induction m with
 | zero => intro j h; exact .inr fun q hq hj => by omega
 | succ m ih =>
  intro j h
  have hj : j < fs.length := by omega
  by_cases e : fs[j].id = id
  ·exact .inl ⟨j, Nat.le_refl _, hj, fun _ => e, fun q _ h1 h2 => by omega⟩
  ·rcases ih (j + 1) (by omega) with ⟨i, h1, h2, h3, h4⟩ | h1
   ·refine .inl ⟨i, by omega, h2, h3, fun q hq h5 h6 => ?_⟩
    by_cases e2 : q = j
    ·subst e2; exact e
    ·exact h4 q hq (by omega) h6
   ·refine .inr fun q hq h5 => ?_
    by_cases e2 : q = j
    ·subst e2; exact e
    ·exact h1 q hq (by omega)

theorem Fst.or (fs : List GField) (id : Int) : (∃ i, Fst fs id i) ∨ ∀ (q : Nat) (h : q < fs.length), fs[q].id ≠ id := by
 rcases top_or (fs := fs) id fs.length 0 (by omega) with ⟨i, _, h2, h3, h4⟩ | h
 ·exact .inl ⟨i, h2, h3, fun j hj hi => h4 j hj (Nat.zero_le _) hi⟩
 ·exact .inr fun q hq => h q hq (Nat.zero_le _)

theorem top1 {fs : List GField} (hn : fs.length < 1000000000) {id : Int} {i : Nat} (hF : Fst fs id i) : ∀ (m f j : Nat), j + m = i → m < f →
  slices_IndexFunc_api_Field_api_Field_of_table_top_1_l1 fs id f (j : Int) = some (i : Int) := by
 intro m
 induction m with
 | zero =>
  intro f j h hf
  obtain ⟨q, rfl⟩ := fu hf
  have e : j = i := by omega
  subst e
  rw [slices_IndexFunc_api_Field_api_Field_of_table_top_1_l1, dec_lt hF.lt, iT, at_nat hF.lt, bS]
  unfold table_top_1_s
  rw [bS, hF.eq hF.lt, beq_self_eq_true, iT]
 | succ m ih =>
  intro f j h hf
  obtain ⟨q, rfl⟩ := fu hf
  have hj : j < fs.length := by have := hF.lt; omega
  rw [slices_IndexFunc_api_Field_api_Field_of_table_top_1_l1, dec_lt hj, iT, at_nat hj, bS]
  unfold table_top_1_s
  rw [bS, beq_eq_false_iff_ne.2 (hF.no j hj (by omega)), iF, wrap_succ hj hn]
  exact ih q (j + 1) (by omega) (by omega)

theorem top0 {fs : List GField} (hn : fs.length < 1000000000) {id : Int} (hF : ∀ (q : Nat) (h : q < fs.length), fs[q].id ≠ id) : ∀ (m f j : Nat), j + m = fs.length → m < f →
  slices_IndexFunc_api_Field_api_Field_of_table_top_1_l1 fs id f (j : Int) = some (-1) := by
 intro m
 induction m with
 | zero =>
  intro f j h hf
  obtain ⟨q, rfl⟩ := fu hf
  rw [slices_IndexFunc_api_Field_api_Field_of_table_top_1_l1, dge (by omega), iF]
  rfl
 | succ m ih =>
  intro f j h hf
  obtain ⟨q, rfl⟩ := fu hf
  have hj : j < fs.length := by omega
  rw [slices_IndexFunc_api_Field_api_Field_of_table_top_1_l1, dec_lt hj, iT, at_nat hj, bS]
  unfold table_top_1_s
  rw [bS, beq_eq_false_iff_ne.2 (hF j hj), iF, wrap_succ hj hn]
  exact ih q (j + 1) (by omega) (by omega)

theorem table_top_some {fs : List GField} (hn : fs.length < 1000000000) {id : Int} {i : Nat} (hF : Fst fs id i) : table_top fs id = some (i : Int) := by
 unfold table_top slices_IndexFunc_api_Field_api_Field_of_table_top_1
 have h := top1 hn hF i BIG 0 (by omega) (by rw [big0]; have := hF.lt; omega)
 rw [show ((0 : Nat) : Int) = 0 from rfl] at h
 rw [h]; rfl
theorem table_top_none {fs : List GField} (hn : fs.length < 1000000000) {id : Int} (hF : ∀ (q : Nat) (h : q < fs.length), fs[q].id ≠ id) : table_top fs id = some (-1) := by
 unfold table_top slices_IndexFunc_api_Field_api_Field_of_table_top_1
 have h := top0 hn hF fs.length BIG 0 (by omega) (by rw [big0]; omega)
 rw [show ((0 : Nat) : Int) = 0 from rfl] at h
 rw [h]; rfl

theorem rtop1 {fs : List GField} (hn : fs.length < 1000000000) {id : Int} {i : Nat} (hF : Fst fs id i) : ∀ (m f j : Nat), j + m = i → m < f →
  ref3_Top_l1 fs id f (j : Int) = some (fs[i]'hF.lt, true) := by
 intro m
 induction m with
 | zero =>
  intro f j h hf
  obtain ⟨q, rfl⟩ := fu hf
  have e : j = i := by omega
  subst e
  rw [ref3_Top_l1, dec_lt hF.lt, iT, at_nat hF.lt, bS, hF.eq hF.lt, beq_self_eq_true, iT]
 | succ m ih =>
  intro f j h hf
  obtain ⟨q, rfl⟩ := fu hf
  have hj : j < fs.length := by have := hF.lt; omega
  rw [ref3_Top_l1, dec_lt hj, iT, at_nat hj, bS, beq_eq_false_iff_ne.2 (hF.no j hj (by omega)), iF, wrap_succ hj hn]
  exact ih q (j + 1) (by omega) (by omega)

theorem rtop0 {fs : List GField} (hn : fs.length < 1000000000) {id : Int} (hF : ∀ (q : Nat) (h : q < fs.length), fs[q].id ≠ id) : ∀ (m f j : Nat), j + m = fs.length → m < f →
  ∃ g, ref3_Top_l1 fs id f (j : Int) = some (g, false) := by
 intro m
 induction m with
 | zero =>
  intro f j h hf
  obtain ⟨q, rfl⟩ := fu hf
  rw [ref3_Top_l1, dge (by omega), iF]
  exact ⟨_, rfl⟩
 | succ m ih =>
  intro f j h hf
  obtain ⟨q, rfl⟩ := fu hf
  have hj : j < fs.length := by omega
  rw [ref3_Top_l1, dec_lt hj, iT, at_nat hj, bS, beq_eq_false_iff_ne.2 (hF j hj), iF, wrap_succ hj hn]
  exact ih q (j + 1) (by omega) (by omega)

theorem ref_top_some {fs : List GField} (hn : fs.length < 1000000000) {id : Int} {i : Nat} (hF : Fst fs id i) : ref3_Top fs id = some (fs[i]'hF.lt, true) := by
 have h := rtop1 hn hF i BIG 0 (by omega) (by rw [big0]; have := hF.lt; omega)
 exact h
theorem ref_top_none {fs : List GField} (hn : fs.length < 1000000000) {id : Int} (hF : ∀ (q : Nat) (h : q < fs.length), fs[q].id ≠ id) : ∃ g, ref3_Top fs id = some (g, false) := by
 obtain ⟨g, h⟩ := rtop0 hn hF fs.length BIG 0 (by omega) (by rw [big0]; omega)
 exact ⟨g, h⟩

/-! ### a spec's field twice -/
def sfEq (a b : GSpecField) : Bool := (a.source == b.source) && (((a.transform.kind == b.transform.kind) && ((a.transform.param == b.transform.param) && true)) && true)
theorem sfEq_iff (a b : GSpecField) : sfEq a b = true ↔ a = b := by
 obtain ⟨s, k, p⟩ := a
 obtain ⟨s2, k2, p2⟩ := b
 simp [sfEq, and_assoc]
theorem sfEq_comm (a b : GSpecField) : sfEq a b = sfEq b a := by
 rw [Bool.eq_iff_iff, sfEq_iff, sfEq_iff]; exact eq_comm

theorem has1 {l : List GSpecField} (hn : l.length < 1000000000) (e : GSpecField) : ∀ (m f j : Nat), j + m = l.length → m < f → ∃ r, slices_Index_api_SpecField_api_SpecField_l1 l e f (j : Int) = some r ∧ decide ((0 : Int) ≤ r) = (l.drop j).any (sfEq e) := by
 intro m
 induction m with
 | zero =>
  intro f j h hf
  obtain ⟨q, rfl⟩ := fu hf
  rw [slices_Index_api_SpecField_api_SpecField_l1, dge (by omega), iF]
  exact ⟨-1, rfl, by rw [List.drop_of_length_le (by omega)]; rfl⟩
 | succ m ih =>
  intro f j h hf
  obtain ⟨q, rfl⟩ := fu hf
  have hj : j < l.length := by omega
  rw [slices_Index_api_SpecField_api_SpecField_l1, dec_lt hj, iT, at_nat hj, bS, bS, List.drop_eq_getElem_cons hj, List.any_cons]
  show ∃ r, ift (sfEq e l[j]) _ _ = _ ∧ _
  cases hb : sfEq e l[j] with
  | true => exact ⟨_, rfl, by simp⟩
  | false =>
   rw [iF, wrap_succ hj hn]
   exact ih q (j + 1) (by omega) (by omega)
theorem has_eq {l : List GSpecField} (hn : l.length < 1000000000) (e : GSpecField) : slices_Contains_api_SpecField_api_SpecField l e = some (l.any (sfEq e)) := by
 unfold slices_Contains_api_SpecField_api_SpecField slices_Index_api_SpecField_api_SpecField
 obtain ⟨r, h1, h2⟩ := has1 hn e l.length BIG 0 (by omega) (by rw [big0]; omega)
 rw [show ((0 : Nat) : Int) = 0 from rfl] at h1
 rw [h1, bS, h2]; rfl

theorem rhas {p : GSpec} (hn : p.fields.length < 1000000000) (rec1 : Int → Option Int) (x1 : Nat) (hx : x1 ≤ p.fields.length) (e : GSpecField) : ∀ (m f j : Nat), j + m = x1 → m < f →
  ref3_suits_l2 rec1 p (x1 : Int) e f (j : Int) = if ((p.fields.take x1).drop j).any (sfEq e) = true then some 5 else ref3_suits_j1 rec1 (x1 : Int) := by
 intro m
 induction m with
 | zero =>
  intro f j h hf
  obtain ⟨q, rfl⟩ := fu hf
  rw [ref3_suits_l2, dge (by omega), iF, List.drop_of_length_le (by rw [List.length_take]; omega)]
  rfl
 | succ m ih =>
  intro f j h hf
  obtain ⟨q, rfl⟩ := fu hf
  have hj : j < p.fields.length := by omega
  have hj2 : j < (p.fields.take x1).length := by rw [List.length_take]; omega
  rw [ref3_suits_l2, dec_lt (show j < x1 by omega), iT, at_nat hj, bS, bS, List.drop_eq_getElem_cons hj2, List.any_cons]
  rw [show (p.fields.take x1)[j] = p.fields[j] by simp]
  show ift (sfEq p.fields[j] e) _ _ = _
  rw [sfEq_comm]
  cases hb : sfEq e p.fields[j] with
  | true => simp [iT]
  | false =>
   rw [iF, wrap_succ (show j < x1 by omega) (by omega), ih q (j + 1) (by omega) (by omega)]
   simp

/-! ### suits -/
theorem suits_loop {p : GSpec} {fs : List GField} (hp : p.fields.length < 1000000000) (hf : sizeF fs < 1000000000) : ∀ (m f j : Nat), j + m = p.fields.length → m < f →
  ∃ c, table_suits_l1 p fs f (j : Int) = some c ∧ ref3_suits_l1 p fs f (j : Int) = some c ∧ (c = 0 → ∀ (k : Nat) (h : k < p.fields.length), j ≤ k → ∃ i, Fst fs p.fields[k].source i) := by
 have hn : fs.length < 1000000000 := by have := sizeF_len fs; omega
 intro m
 induction m with
 | zero =>
  intro f j h hq
  obtain ⟨q, rfl⟩ := fu hq
  refine ⟨0, ?_, ?_, fun _ k hk hj => by omega⟩
  ·rw [table_suits_l1, dge (by omega), iF]; rfl
  ·rw [ref3_suits_l1, dge (by omega), iF]; rfl
 | succ m ih =>
  intro f j h hq
  obtain ⟨q, rfl⟩ := fu hq
  have hj : j < p.fields.length := by omega
  rw [table_suits_l1, ref3_suits_l1, dec_lt hj, iT, iT, at_nat hj, bS, bS]
  rcases Fst.or fs p.fields[j].source with ⟨i, hi⟩ | hi
  ·rw [table_top_some hn hi, ref_top_some hn hi, bS, bS]
   have hs : sizeT (fs[i]'hi.lt).type < 1000000000 := by
    have h1 := sizeF_mem (List.getElem_mem hi.lt)
    have h2 := sizeFd_eq (fs[i]'hi.lt)
    omega
   obtain ⟨e, he, t1, t2⟩ := tt p.fields[j].transform (fs[i]'hi.lt).type hs
   rw [show decide ((i : Int) < 0) = false from by simp, iF, at_nat hi.lt, bS, t1, bS]
   show ∃ c, _ ∧ ift (!true) _ _ = _ ∧ _
   rw [Bool.not_true, iF]
   show ∃ c, _ ∧ bnd (ref3_TransformType p.fields[j].transform (fs[i]'hi.lt).type) _ = _ ∧ _
   rw [t2, bS]
   by_cases hz : (ttS p.fields[j].transform (fs[i]'hi.lt).type e).2 = 0
   ·rw [hz, show ((0 : Int) != 0) = false from rfl, iF, iF, gP ⟨by omega, by omega, by omega⟩]
    have hd : (List.take ((j : Int).toNat - (0 : Int).toNat) (List.drop (0 : Int).toNat p.fields)) = p.fields.take j := by simp
    rw [hd, has_eq (by rw [List.length_take]; omega), bS]
    have hr := rhas hp (ref3_suits_l1 p fs q) j (by omega) p.fields[j] j BIG 0 (by omega) (by rw [big0]; omega)
    rw [show ((0 : Nat) : Int) = 0 from rfl, List.drop_zero] at hr
    rw [hr]
    cases hb : (p.fields.take j).any (sfEq p.fields[j]) with
    | true => exact ⟨5, rfl, rfl, fun h => absurd h (by decide)⟩
    | false =>
     obtain ⟨c, c1, c2, c3⟩ := ih q (j + 1) (by omega) (by omega)
     refine ⟨c, by rw [iF, wrap_succ hj hp]; exact c1, by
      rw [if_neg (by decide)]
      unfold ref3_suits_j1
      rw [wrap_succ hj hp]; exact c2, fun hc k hk hjk => ?_⟩
     by_cases e : k = j
     ·subst e; exact ⟨i, hi⟩
     ·exact c3 hc k hk (by omega)
   ·have hne : ((ttS p.fields[j].transform (fs[i]'hi.lt).type e).2 != 0) = true := bne_iff_ne.2 hz
    rw [hne, iT, iT]
    exact ⟨_, rfl, rfl, fun h => absurd h hz⟩
  ·obtain ⟨g, hg⟩ := ref_top_none hn hi
   rw [table_top_none hn hi, hg, bS, bS, show decide ((-1 : Int) < 0) = true from rfl, iT]
   exact ⟨9, rfl, rfl, fun h => absurd h (by decide)⟩

theorem suits_eq (p : GSpec) {fs : List GField} (hp : p.fields.length < 1000000000) (hf : sizeF fs < 1000000000) : ∃ c, table_suits p fs = some c ∧ ref3_suits p fs = some c ∧ (c = 0 → ∀ (k : Nat) (h : k < p.fields.length), ∃ i, Fst fs p.fields[k].source i) := by
 unfold table_suits ref3_suits
 cases hb : decide ((4 : Int) < (p.fields.length : Int)) with
 | true => exact ⟨7, rfl, rfl, fun h => absurd h (by decide)⟩
 | false =>
  rw [iF, iF]
  obtain ⟨c, h1, h2, h3⟩ := suits_loop (p := p) hp hf p.fields.length BIG 0 (by omega) (by rw [big0]; omega)
  exact ⟨c, h1, h2, fun hc k hk => h3 hc k hk (Nat.zero_le _)⟩

set_option linter.unusedVariables false
set_option linter.unusedSimpArgs false

def ee (e : Int) (f : Option Int) : Option Int := if e ≠ 0 then some e else f
def cat (a b : Int) : Int := if a ≠ 0 then a else b
def er (b : Bool) (e : Int) : Int := if b then e else 0

theorem ee_ift (e : Int) (f : Option Int) : ift (e != (0 : Int)) (some e) f = ee e f := by
 unfold ee; by_cases h : e = 0 <;> simp [h, ift_ite]
theorem ee_er {b : Bool} {e : Int} (he : e ≠ 0) (f : Option Int) : ift b (some e) f = ee (er b e) f := by
 unfold ee er; cases b <;> simp [he, ift_ite]
theorem ee_cat (a b : Int) (f : Option Int) : ee a (ee b f) = ee (cat a b) f := by
 unfold ee cat; by_cases h : a = 0 <;> simp [h]
theorem ee_last (a : Int) : ee a (some 0) = some a := by unfold ee; by_cases h : a = 0 <;> simp [h]
theorem er0 {b : Bool} {e : Int} (he : e ≠ 0) : er b e = 0 ↔ b = false := by unfold er; cases b <;> simp [he]
theorem cat_ne {a : Int} (h : a ≠ 0) (b : Int) : cat a b = a := by unfold cat; rw [if_pos h]
def fe (c : Nat → Int) : Nat → Nat → Int
 | 0, _ => 0
 | m + 1, i => cat (c i) (fe c m (i + 1))

theorem fe_loop {n : Nat} {L : Nat → Int → Option Int} {fin : Option Int} {c : Nat → Int} (h0 : ∀ k, L (k + 1) (n : Int) = fin) (h1 : ∀ k i, i < n → L (k + 1) (i : Int) = ee (c i) (L k ((i + 1 : Nat) : Int))) :
  ∀ m k i, i + m = n → m < k → L k (i : Int) = ee (fe c m i) fin
 | 0, k, i, hi, hk => by
  obtain ⟨k, rfl⟩ := fu hk
  have : i = n := by omega
  subst this
  rw [h0]; rfl
 | m + 1, k, i, hi, hk => by
  obtain ⟨k, rfl⟩ := fu hk
  rw [h1 k i (by omega), fe_loop h0 h1 m k (i + 1) (by omega) (by omega), ee_cat]; rfl

theorem fe_big {n : Nat} {L : Nat → Int → Option Int} {fin : Option Int} {c : Nat → Int} (hn : n < 1000000000) (h0 : ∀ k, L (k + 1) (n : Int) = fin) (h1 : ∀ k i, i < n → L (k + 1) (i : Int) = ee (c i) (L k ((i + 1 : Nat) : Int))) :
  L BIG (0 : Int) = ee (fe c n 0) fin :=
 fe_loop h0 h1 n BIG 0 (by omega) (by rw [big_val]; omega)

def anyI (p : Nat → Bool) (n : Nat) : Bool := (List.range n).any p
theorem anyI_iff {p : Nat → Bool} {n : Nat} : anyI p n = true ↔ ∃ j, j < n ∧ p j = true := by
 unfold anyI; rw [List.any_eq_true]; simp [List.mem_range]

theorem dgn (n : Nat) : decide ((n : Int) < (n : Int)) = false := by simp

theorem bool_ext {a b : Bool} (h : a = true ↔ b = true) : a = b := Bool.eq_iff_iff.2 h

theorem wrap_pred {n : Nat} (hn : n < 1000000000) : IntKind.i64.wrap ((n : Int) - 1) = (n : Int) - 1 := w64 (by omega) (by omega)

end Go.Proofs.YtikbfjpcmalmlaaGreatDoor
namespace Go.Proofs.YtikbfjpcmalmlaaGreatDoor
open Go Go.SX Go.SX.Cal Go.Lib
set_option linter.unusedVariables false
set_option linter.unusedSimpArgs false

end Go.Proofs.YtikbfjpcmalmlaaGreatDoor
namespace Go.Proofs.YtikbfjpcmalmlaaGreatDoor.Ord
open Go Go.SX Go.SX.Cal
set_option linter.unusedVariables false
set_option linter.unusedSimpArgs false

theorem ift_true {β : Type} (x y : Option β) : ift true x y = x := rfl
theorem ift_false {β : Type} (x y : Option β) : ift false x y = y := rfl
theorem ift_ite {β : Type} (b : Bool) (x y : Option β) : ift b x y = if b = true then x else y := by cases b <;> rfl
theorem big_val : BIG = 1152921504606846976 := rfl

def val (w : GWide) : Int := w.size.1 + w.size.2.1 * 18446744073709551616 + w.size.2.2.1 * 340282366920938463463374607431768211456 + w.size.2.2.2 * 6277101735386680763835789423207666416102355444464034512896

def p10 : Nat → Int
 | 0 => 1
 | k + 1 => p10 k * 10

set_option linter.unusedVariables false
set_option linter.unusedSimpArgs false

def c3 (a b : Int) : Int := if a < b then -1 else if b < a then 1 else 0

def zeroW (w : GWide) : Prop := w.size.1 = 0 ∧ w.size.2.1 = 0 ∧ w.size.2.2.1 = 0 ∧ w.size.2.2.2 = 0

instance (w : GWide) : Decidable (zeroW w) := by unfold zeroW; infer_instance

set_option linter.unusedVariables false
set_option linter.unusedSimpArgs false

def or' (x y : Int) : Int := if x ≠ 0 then x else y

def cS (s t : ByteArray) : Int := if Op.bytesLess s.toList t.toList = true then -1 else if s.toList = t.toList then 0 else 1

def inR (sc : Int) : Prop := 0 ≤ sc ∧ sc ≤ 12
instance (sc : Int) : Decidable (inR sc) := by unfold inR; infer_instance
def nulI (k : Int) : Int := if k = 0 then 1 else 0
def ooI (k sc : Int) : Int := if k = 3 ∧ ¬ inR sc then 1 else 0
def vvI (k sc n : Int) : Int := if k = 3 ∧ inR sc then n * p10 (12 - sc).toNat else n

mutual
def cmpV : GValue → GValue → Int
 | ⟨k, n, sc, s, it⟩, b => or' (c3 (nulI k) (nulI b.kind)) (or' (c3 k b.kind) (if k = 0 then 0 else or' (c3 (ooI k sc) (ooI b.kind b.scale)) (or' (c3 (vvI k sc n) (vvI b.kind b.scale b.n)) (or' (c3 sc b.scale) (or' (cS s b.s) (cmpL it b.items))))))
def cmpL : List GValue → List GValue → Int
 | [], m => match m with
  | [] => 0
  | _ :: _ => -1
 | x :: l, m => match m with
  | [] => 1
  | y :: ys => or' (cmpV x y) (cmpL l ys)
end

def i64 (x : Int) : Prop := -9223372036854775808 ≤ x ∧ x ≤ 9223372036854775807

mutual
def wfV : GValue → Prop
 | ⟨k, n, sc, _, it⟩ => i64 k ∧ i64 n ∧ i64 sc ∧ wfL it
def wfL : List GValue → Prop
 | [] => True
 | x :: l => wfV x ∧ wfL l
end

set_option linter.unusedVariables false
set_option linter.unusedSimpArgs false

/-! ### bytes -/

/-! ### values -/

set_option linter.unusedVariables false
set_option linter.unusedSimpArgs false

/-! ### digits -/

set_option linter.unusedVariables false
set_option linter.unusedSimpArgs false

/-! ### texts -/

/-! ### values -/

end Go.Proofs.YtikbfjpcmalmlaaGreatDoor.Ord
namespace Go.Proofs.YtikbfjpcmalmlaaGreatDoor
open Go Go.SX Go.SX.Cal
set_option linter.unusedVariables false
set_option linter.unusedSimpArgs false

structure Lv (v : GValue) : Prop where
 k : 0 ≤ v.kind ∧ v.kind ≤ 5
 n : -999999999999999999 ≤ v.n ∧ v.n ≤ 999999999999999999
 it : v.items = []
 s : v.s.size ≤ 256
 sc : 0 ≤ v.scale ∧ v.scale ≤ 12
 nul : v.kind = 0 → v.n = 0 ∧ v.scale = 0 ∧ v.s.size = 0

theorem Lv.wf {v : GValue} (h : Lv v) : Ord.wfV v := by
 obtain ⟨k, n, sc, s, it⟩ := v
 obtain ⟨h1, h2, h3, h4, h5, h6⟩ := h
 simp only at h1 h2 h3 h5
 subst h3
 simp only [Ord.wfV, Ord.wfL, Ord.i64]
 exact ⟨⟨by omega, by omega⟩, ⟨by omega, by omega⟩, ⟨by omega, by omega⟩, trivial⟩

theorem Lv.size {v : GValue} (h : Lv v) : sizeV v ≤ 257 := by
 rw [sizeV_eq, h.it]
 have := h.s
 simp only [sizeL]; omega

def vEq (a b : GValue) : Bool := Ord.cmpV a b == 0
set_option linter.unusedVariables false
set_option linter.unusedSimpArgs false

theorem ee_if {e : Int} {f g : Option Int} (h : e = 0 → f = g) : ee e f = ee e g := by
 unfold ee; by_cases he : e = 0
 ·simp [he, h he]
 ·simp [he]

/-! ### fields at the top -/
def tpI (fs : List GField) (id : Int) : Int := (table_top fs id).getD 0
def tpF (fs : List GField) (id : Int) : GField := ((ref3_Top fs id).getD (⟨0, ByteArray.empty, false, ⟨0, 0, []⟩⟩, false)).1
def tpB (fs : List GField) (id : Int) : Bool := ((ref3_Top fs id).getD (⟨0, ByteArray.empty, false, ⟨0, 0, []⟩⟩, false)).2

theorem tp_all {fs : List GField} (hn : fs.length < 1000000000) (id : Int) :
  table_top fs id = some (tpI fs id) ∧ ref3_Top fs id = some (tpF fs id, tpB fs id) ∧ decide (tpI fs id < 0) = !tpB fs id ∧ (tpB fs id = true → at? fs (tpI fs id) = some (tpF fs id) ∧ tpF fs id ∈ fs) := by
 unfold tpI tpF tpB
 rcases Fst.or fs id with ⟨i, hi⟩ | hi
 ·rw [table_top_some hn hi, ref_top_some hn hi]
  refine ⟨rfl, rfl, ?_, fun _ => ⟨at_nat hi.lt, List.getElem_mem hi.lt⟩⟩
  show decide ((i : Int) < 0) = false
  simp
 ·obtain ⟨g, hg⟩ := ref_top_none hn hi
  rw [table_top_none hn hi, hg]
  exact ⟨rfl, rfl, rfl, fun h => by cases h⟩

/-! ### types of partition values -/
theorem tabWithin (a b c : Int) : table_within a b c = some (decide (b ≤ a ∧ a ≤ c)) := by
 unfold table_within table_within_j1
 by_cases h1 : b ≤ a <;> by_cases h2 : a ≤ c <;> simp [h1, h2, ift_ite]

/-! ### sizes -/
structure FSz (f : GDataFile) : Prop where
 name : f.name.size < 1000000000
 part : f.part.length < 1000000000 ∧ ∀ v ∈ f.part, sizeV v < 1000000000
 stats : f.stats.length < 1000000000 ∧ ∀ s ∈ f.stats, sizeV s.min < 1000000000 ∧ sizeV s.max < 1000000000

set_option linter.unusedVariables false
set_option linter.unusedSimpArgs false

structure SSz (s : GSnapshot) : Prop where
 files : s.files.length < 1000000000 ∧ ∀ f ∈ s.files, FSz f
 dat : s.dat.length < 1000000000 ∧ ∀ d ∈ s.dat, d.rows.length < 1000000000
 dby : s.dby.length < 1000000000 ∧ ∀ d ∈ s.dby, d.ids.length < 1000000000 ∧ d.keys.length < 1000000000 ∧ ∀ k ∈ d.keys, k.length < 1000000000 ∧ ∀ v ∈ k, sizeV v < 1000000000

structure MSz (m : GMeta) : Prop where
 schemas : m.schemas.length < 1000000000 ∧ ∀ s ∈ m.schemas, sizeF s < 1000000000 - 1
 specs : m.specs.length < 1000000000 ∧ ∀ s ∈ m.specs, s.fields.length < 1000000000
 snaps : m.snapshots.length < 1000000000 ∧ ∀ s ∈ m.snapshots, SSz s
 refs : m.refs.length < 1000000000 ∧ ∀ r ∈ m.refs, r.name.size < 1000000000
 props : m.props.length < 1000000000 ∧ ∀ p ∈ m.props, p.name.size < 1000000000 ∧ p.value.size < 100000000

theorem anyz_loop {Z : Type} {z : Z} {n : Nat} {L : Nat → Int → Option (Int × Z)} {p : Nat → Bool} (h0 : ∀ k, L (k + 1) (n : Int) = some (-1, z)) (h1 : ∀ k i, i < n → L (k + 1) (i : Int) = ift (p i) (some ((i : Int), z)) (L k ((i + 1 : Nat) : Int))) :
  ∀ m k i, i + m = n → m < k → ∃ r, L k (i : Int) = some (r, z) ∧ (decide ((0 : Int) ≤ r) = true ↔ ∃ j, i ≤ j ∧ j < n ∧ p j = true)
 | 0, k, i, hi, hk => by
  obtain ⟨k, rfl⟩ := fu hk
  have : i = n := by omega
  subst this
  exact ⟨-1, h0 k, by simp; intro j h1 h2; omega⟩
 | m + 1, k, i, hi, hk => by
  obtain ⟨k, rfl⟩ := fu hk
  rw [h1 k i (by omega)]
  cases hp : p i with
  | true => exact ⟨i, rfl, by simp; exact ⟨i, Nat.le_refl _, by omega, hp⟩⟩
  | false =>
   obtain ⟨r, e1, e2⟩ := anyz_loop h0 h1 m k (i + 1) (by omega) (by omega)
   refine ⟨r, e1, e2.trans ⟨fun ⟨j, a, b, c⟩ => ⟨j, by omega, b, c⟩, fun ⟨j, a, b, c⟩ => ⟨j, ?_, b, c⟩⟩⟩
   by_cases e : j = i
   ·subst e; rw [hp] at c; cases c
   ·omega

theorem anyz_big {Z : Type} {z : Z} {n : Nat} {L : Nat → Int → Option (Int × Z)} {p : Nat → Bool} (hn : n < 1000000000) (h0 : ∀ k, L (k + 1) (n : Int) = some (-1, z)) (h1 : ∀ k i, i < n → L (k + 1) (i : Int) = ift (p i) (some ((i : Int), z)) (L k ((i + 1 : Nat) : Int))) :
  ∃ r, L BIG (0 : Int) = some (r, z) ∧ decide ((0 : Int) ≤ r) = anyI p n := by
 obtain ⟨r, e1, e2⟩ := anyz_loop h0 h1 n BIG 0 (by omega) (by rw [big_val]; omega)
 refine ⟨r, e1, bool_ext (e2.trans (Iff.trans ?_ anyI_iff.symm))⟩
 exact ⟨fun ⟨j, _, b, c⟩ => ⟨j, b, c⟩, fun ⟨j, b, c⟩ => ⟨j, Nat.zero_le _, b, c⟩⟩

theorem at_rng {α : Type} {l : List α} {x : Int} (h0 : 0 ≤ x) (h1 : x ≤ (l.length : Int) - 1) : ∃ (h : x.toNat < l.length), at? l x = some l[x.toNat] ∧ l[x.toNat]? = some l[x.toNat] := by
 have h : x.toNat < l.length := by omega
 refine ⟨h, ?_, List.getElem?_eq_getElem h⟩
 have := at_nat h
 rwa [show ((x.toNat : Nat) : Int) = x by omega] at this

def lackP (fs : List GField) (sp : GSpec) (j : Nat) : Bool := match sp.fields[j]? with | some x => !tpB fs x.source | none => false

end Go.Proofs.YtikbfjpcmalmlaaGreatDoor
namespace Go.SX.Cal
open Go Go.Lib

end Go.SX.Cal
namespace Go.Proofs.YtikbfjpcmalmlaaGreatDoor
open Go Go.SX Go.SX.Cal
set_option linter.unusedVariables false
set_option linter.unusedSimpArgs false

/-! ### rising lists -/
/-! ### leaves at the top -/
/-! ### keys -/
set_option linter.unusedVariables false
set_option linter.unusedSimpArgs false

/-! ### the files of a snapshot -/
set_option linter.unusedVariables false
set_option linter.unusedSimpArgs false

/-! ### what is removed by keys -/
set_option linter.unusedVariables false
set_option linter.unusedSimpArgs false

set_option linter.unusedVariables false
set_option linter.unusedSimpArgs false

def ne2 (l m : List GValue) (j : Nat) : Bool := match l[j]?, m[j]? with | some x, some y => !vEq x y | _, _ => false
def seq2 (s t : GStats) : Bool := s.id == t.id && (s.nulls == t.nulls && (vEq s.min t.min && vEq s.max t.max))
def sne2 (l m : List GStats) (j : Nat) : Bool := match l[j]?, m[j]? with | some x, some y => !seq2 x y | _, _ => false
def peB (l m : List GValue) : Bool := decide (l.length = m.length) && !anyI (ne2 l m) l.length
def seB (l m : List GStats) : Bool := decide (l.length = m.length) && !anyI (sne2 l m) l.length
def sfB (a b : GDataFile) : Bool := decide (a.name = b.name) && (a.schema == b.schema && (a.spec == b.spec && (a.rows == b.rows && (peB a.part b.part && seB a.stats b.stats))))

def Sf (a b : GDataFile) : Prop := a.name = b.name ∧ a.schema = b.schema ∧ a.spec = b.spec ∧ a.rows = b.rows ∧ a.part = b.part ∧ a.stats = b.stats
theorem Sf.symm {a b : GDataFile} (h : Sf a b) : Sf b a := ⟨h.1.symm, h.2.1.symm, h.2.2.1.symm, h.2.2.2.1.symm, h.2.2.2.2.1.symm, h.2.2.2.2.2.symm⟩
theorem Sf.trans {a b c : GDataFile} (h : Sf a b) (k : Sf b c) : Sf a c := ⟨h.1.trans k.1, h.2.1.trans k.2.1, h.2.2.1.trans k.2.2.1, h.2.2.2.1.trans k.2.2.2.1, h.2.2.2.2.1.trans k.2.2.2.2.1, h.2.2.2.2.2.trans k.2.2.2.2.2⟩

set_option linter.unusedVariables false
set_option linter.unusedSimpArgs false

/-! ### the reference -/
theorem take_at {α : Type} {l : List α} {i x : Nat} (hx : x < i) (hi : i ≤ l.length) : at? (List.take ((i : Int).toNat - (0 : Int).toNat) (List.drop (0 : Int).toNat l)) (x : Int) = some (l[x]'(by omega)) := by
 have h : x < (List.take ((i : Int).toNat - (0 : Int).toNat) (List.drop (0 : Int).toNat l)).length := by simp; omega
 rw [at_nat h]
 simp

theorem take_len {α : Type} {l : List α} {i : Nat} (hi : i ≤ l.length) : (List.take ((i : Int).toNat - (0 : Int).toNat) (List.drop (0 : Int).toNat l)).length = i := by simp; omega

set_option linter.unusedVariables false
set_option linter.unusedSimpArgs false

/-! ### references -/
/-! ### limits -/
set_option linter.unusedVariables false
set_option linter.unusedSimpArgs false

/-! ### schemas -/
def bigI (n : Int) (l : List Int) : Bool := l.any fun x => decide (n ≤ x)

theorem bigI_app (n : Int) (a b : List Int) : bigI n (a ++ b) = (bigI n a || bigI n b) := by unfold bigI; rw [List.any_append]

theorem walk_c (m : GMeta) : ∀ (N k : Nat) (fs : List GField), sizeF fs ≤ N → N < k → sizeF fs < 1000000000 → value_Walk_of_table_schemas_1 k fs m.schemas m.specs m.nextField m.nextSeq m.nextSnap m.purges m.snapshots m.refs m.props = some (er (bigI m.nextField (idsFs fs)) 3) := by
 intro N
 induction N with
 | zero =>
  intro k fs h hk _
  obtain ⟨k, rfl⟩ := fu hk
  have hl := sizeF_len fs
  have : fs = [] := List.eq_nil_of_length_eq_zero (by omega)
  subst this
  rw [value_Walk_of_table_schemas_1, big0, value_Walk_of_table_schemas_1_l1]
  rfl
 | succ N ih =>
  intro k fs hN hk hs
  obtain ⟨k, rfl⟩ := fu hk
  have hl := sizeF_len fs
  rw [value_Walk_of_table_schemas_1]
  have loop : ∀ (d kk i : Nat), i + d = fs.length → d < kk → value_Walk_of_table_schemas_1_l1 (value_Walk_of_table_schemas_1 k) fs m.schemas m.specs m.nextField m.nextSeq m.nextSnap m.purges m.snapshots m.refs m.props kk (i : Int) = some (er (bigI m.nextField (idsFs (fs.drop i))) 3) := by
   intro d
   induction d with
   | zero =>
    intro kk i hi hk2
    obtain ⟨kk, rfl⟩ := fu hk2
    rw [value_Walk_of_table_schemas_1_l1, dge (by omega), iF, List.drop_of_length_le (by omega)]; rfl
   | succ d ihd =>
    intro kk i hi hk2
    obtain ⟨kk, rfl⟩ := fu hk2
    have h1 : i < fs.length := by omega
    have m1 := sizeF_mem (List.getElem_mem h1)
    have m2 := sizeFd_eq fs[i]
    have m3 := sizeT_eq fs[i].type
    rw [value_Walk_of_table_schemas_1_l1, dec_lt h1, iT, at_nat h1, bS, ih k _ (by omega) (by omega) (by omega), bS, wrap_succ h1 (by omega), ihd kk (i + 1) (by omega) (by omega), idsFs_drop h1, idsFd_eq]
    unfold table_schemas_1_s
    have hb : bigI m.nextField (fs[i].id :: idsFs fs[i].type.fields ++ idsFs (fs.drop (i + 1))) = (decide (m.nextField ≤ fs[i].id) || (bigI m.nextField (idsFs fs[i].type.fields) || bigI m.nextField (idsFs (fs.drop (i + 1))))) := by
     rw [bigI_app]
     unfold bigI
     rw [List.any_cons, Bool.or_assoc]
    rw [hb]
    cases decide (m.nextField ≤ fs[i].id) with
    | true => rfl
    | false =>
     rw [iF, bS]
     show ift false _ _ = _
     rw [iF]
     cases bigI m.nextField (idsFs fs[i].type.fields) <;> rfl
  have := loop fs.length BIG 0 (by omega) (by rw [big_val]; omega)
  rw [show ((0 : Nat) : Int) = 0 from rfl, List.drop_zero] at this
  exact this

noncomputable def adE (p q : List GField) : Int := cat (sc p) (cat (sc q) ((column_adaptable BIG p q).getD 0))

theorem ad_eq {p q : List GField} (hp : sizeF p < 1000000000 - 1) (hq : sizeF q < 1000000000 - 1) : (∃ r, column_Adapt_of_k p q = some (r, adE p q)) ∧ ∃ r, ref2_Adapt_of_k p q = some (r, adE p q) := by
 obtain ⟨e, e1, e2, _⟩ := adaptable_eq (sizeF q) BIG BIG p q (Nat.le_refl _) (by rw [big_val]; omega) (by rw [big_val]; omega) (by omega) (by omega)
 unfold column_Adapt_of_k ref2_Adapt_of_k column_CheckRows_of_k ref2_CheckRows_of_k adE
 rw [sc_c hp, sc_r hp, sc_c hq, sc_r hq, e1, e2]
 simp only [bS]
 show (∃ r, bnd (ift (sc p != 0) _ _) _ = some (r, cat (sc p) (cat (sc q) e))) ∧ ∃ r, bnd (ift (sc p != 0) _ _) _ = some (r, cat (sc p) (cat (sc q) e))
 by_cases h1 : sc p = 0
 ·rw [h1]
  show (∃ r, ift (sc q != 0) _ _ = some (r, cat (sc q) e)) ∧ ∃ r, ift (sc q != 0) _ _ = some (r, cat (sc q) e)
  by_cases h2 : sc q = 0
  ·rw [h2]
   show (∃ r, ift (e != 0) _ _ = some (r, e)) ∧ ∃ r, ift (e != 0) _ _ = some (r, e)
   by_cases h3 : e = 0
   ·subst h3; exact ⟨⟨[], rfl⟩, ⟨[], rfl⟩⟩
   ·rw [show (e != 0) = true by simp [h3]]; exact ⟨⟨[], rfl⟩, ⟨[], rfl⟩⟩
  ·rw [show (sc q != 0) = true by simp [h2], cat_ne h2]; exact ⟨⟨[], rfl⟩, ⟨[], rfl⟩⟩
 ·rw [show (sc p != 0) = true by simp [h1], cat_ne h1, iT, bS, bS, show (sc p != 0) = true by simp [h1]]; exact ⟨⟨[], rfl⟩, ⟨[], rfl⟩⟩

noncomputable def adJ (m : GMeta) (l : List GField) (q : Nat) : Int := match m.schemas[q]? with | some o => adE o l | none => 0

noncomputable def schE (m : GMeta) (j : Nat) : Int := match m.schemas[j]? with
 | some l => cat (sc l) (cat (er (bigI m.nextField (idsFs l)) 3) (fe (adJ m l) j 0))
 | none => 0

theorem sch_c {m : GMeta} (hm : MSz m) : table_schemas m = some (fe (schE m) m.schemas.length 0) := by
 unfold table_schemas
 rw [fe_big (L := table_schemas_l1 m) (n := m.schemas.length) (fin := some 0) (c := schE m) hm.schemas.1
  (fun k => by rw [table_schemas_l1, dgn, iF]; rfl)
  (fun k i hi => by
   have hs := hm.schemas.2 _ (List.getElem_mem hi)
   have hil : i ≤ m.schemas.length := by omega
   rw [table_schemas_l1, dec_lt hi, iT, at_nat hi, bS, sc_c hs, bS, ee_ift, walk_c m _ BIG _ (Nat.le_refl _) (by rw [big_val]; omega) (by omega), bS, ee_ift, gP ⟨by omega, by omega, by omega⟩]
   rw [fe_big (L := table_schemas_l2 (table_schemas_l1 m k) m (i : Int) m.schemas[i]) (n := i) (fin := table_schemas_l1 m k ((i + 1 : Nat) : Int)) (c := adJ m m.schemas[i]) (by have := hm.schemas.1; omega)
    (fun q => by
     rw [table_schemas_l2, bS, take_len hil, dgn, iF]
     unfold table_schemas_j1
     rw [wrap_succ hi hm.schemas.1])
    (fun q x hx => by
     have hxl : x < m.schemas.length := by omega
     obtain ⟨⟨r, hr⟩, _⟩ := ad_eq (hm.schemas.2 _ (List.getElem_mem hxl)) hs
     rw [table_schemas_l2, bS, take_len hil, dec_lt hx, iT, take_at hx hil, bS, hr, bS]
     show ift (adE m.schemas[x] m.schemas[i] != 0) _ _ = _
     rw [ee_ift, wrap_succ hxl hm.schemas.1]
     unfold adJ
     rw [List.getElem?_eq_getElem hxl])]
   unfold schE
   rw [List.getElem?_eq_getElem hi]
   simp only
   rw [← ee_cat, ← ee_cat])]
 exact ee_last _

/-! ### specs -/
def hasB (m : GMeta) (sp : GSpec) (d : Nat) : Bool := match m.schemas[d]? with | some fs => !anyI (lackP fs sp) sp.fields.length | none => false
def lastK (m : GMeta) (sp : GSpec) : Nat → Int
 | 0 => -1
 | d + 1 => if hasB m sp d then (d : Int) else lastK m sp d

theorem lastK_rng (m : GMeta) (sp : GSpec) : ∀ d, -1 ≤ lastK m sp d ∧ lastK m sp d < d
 | 0 => by simp [lastK]
 | d + 1 => by
  unfold lastK
  have := lastK_rng m sp d
  split <;> constructor <;> omega

noncomputable def suE (sp : GSpec) (fs : List GField) : Int := (table_suits sp fs).getD 0

noncomputable def spE (m : GMeta) (j : Nat) : Int := match m.specs[j]? with
 | some sp => cat (er (decide (lastK m sp m.schemas.length < 0) || (decide (j + 1 = m.specs.length) && decide (lastK m sp m.schemas.length < (m.schemas.length : Int) - 1))) 9)
  (match m.schemas[(lastK m sp m.schemas.length).toNat]? with | some fs => suE sp fs | none => 0)
 | none => 0

theorem has_c {m : GMeta} (hm : MSz m) {sp : GSpec} (hsp : sp.fields.length < 1000000000) {d : Nat} (hd : d < m.schemas.length) :
  slices_ContainsFunc_api_SpecField_api_SpecField_of_table_specs_1 sp.fields m.schemas m.specs m.nextField m.nextSeq m.nextSnap m.purges m.snapshots m.refs m.props (d : Int) = some (!hasB m sp d, (d : Int)) := by
 have hfs := hm.schemas.2 _ (List.getElem_mem hd)
 have hn : m.schemas[d].length < 1000000000 := by have := sizeF_len m.schemas[d]; omega
 unfold slices_ContainsFunc_api_SpecField_api_SpecField_of_table_specs_1 slices_IndexFunc_api_SpecField_api_SpecField_of_table_specs_1
 obtain ⟨r, r1, r2⟩ := anyz_big (z := (d : Int)) (L := fun k i => slices_IndexFunc_api_SpecField_api_SpecField_of_table_specs_1_l1 sp.fields m.schemas m.specs m.nextField m.nextSeq m.nextSnap m.purges m.snapshots m.refs m.props k (d : Int) i) (n := sp.fields.length) (p := lackP m.schemas[d] sp) hsp
  (fun k => by rw [slices_IndexFunc_api_SpecField_api_SpecField_of_table_specs_1_l1, dgn, iF]; rfl)
  (fun k i hi => by
   obtain ⟨t1, _, t3, _⟩ := tp_all hn sp.fields[i].source
   rw [slices_IndexFunc_api_SpecField_api_SpecField_of_table_specs_1_l1, dec_lt hi, iT, at_nat hi, bS]
   unfold table_specs_1_s
   rw [at_nat hd, bS, t1, bS, bS, t3, wrap_succ hi hsp]
   unfold lackP
   rw [List.getElem?_eq_getElem hi])
 have r1 : slices_IndexFunc_api_SpecField_api_SpecField_of_table_specs_1_l1 sp.fields m.schemas m.specs m.nextField m.nextSeq m.nextSnap m.purges m.snapshots m.refs m.props BIG (d : Int) (0 : Int) = some (r, (d : Int)) := r1
 rw [r1, bS]
 show some (decide (0 ≤ r), (d : Int)) = _
 rw [r2]
 unfold hasB
 rw [List.getElem?_eq_getElem hd, Bool.not_not]

theorem down_c {m : GMeta} (hm : MSz m) {sp : GSpec} (hsp : sp.fields.length < 1000000000) (rec1 : Int → Option Int) (x1 : Int) : ∀ (d k : Nat), d ≤ m.schemas.length → d < k → table_specs_l2 rec1 m x1 sp k ((d : Int) - 1) = table_specs_j2 rec1 m x1 sp (lastK m sp d)
 | 0, k, hd, hk => by
  obtain ⟨k, rfl⟩ := fu hk
  rw [table_specs_l2]
  show ift (decide ((0 : Int) ≤ -1)) _ _ = _
  rw [decide_eq_false (by decide), iF]
  rfl
 | d + 1, k, hd, hk => by
  obtain ⟨k, rfl⟩ := fu hk
  have h1 : d < m.schemas.length := by omega
  rw [table_specs_l2, show (((d + 1 : Nat) : Int) - 1) = (d : Int) by omega, decide_eq_true (show (0 : Int) ≤ (d : Int) by omega), iT, has_c hm hsp h1, bS]
  unfold table_specs_j1 lastK
  show ift (!hasB m sp d) (table_specs_l2 rec1 m x1 sp k (IntKind.i64.wrap ((d : Int) - 1))) (table_specs_j2 rec1 m x1 sp (d : Int)) = _
  cases hasB m sp d with
  | true => rfl
  | false =>
   rw [Bool.not_false, iT, w64 (by have := hm.schemas.1; omega) (by have := hm.schemas.1; omega), down_c hm hsp rec1 x1 d k (by omega) (by omega)]; rfl

theorem su_eq {m : GMeta} (hm : MSz m) {sp : GSpec} (hsp : sp.fields.length < 1000000000) {fs : List GField} (hfs : fs ∈ m.schemas) : table_suits sp fs = some (suE sp fs) ∧ ref3_suits sp fs = some (suE sp fs) := by
 have := hm.schemas.2 _ hfs
 obtain ⟨c, h1, h2, _⟩ := suits_eq sp hsp (fs := fs) (by omega)
 unfold suE
 rw [h1, h2]; exact ⟨rfl, rfl⟩

theorem spec_c {m : GMeta} (hm : MSz m) : table_specs m = some (fe (spE m) m.specs.length 0) := by
 unfold table_specs
 rw [fe_big (L := table_specs_l1 m) (n := m.specs.length) (fin := some 0) (c := spE m) hm.specs.1
  (fun k => by rw [table_specs_l1, dgn, iF]; rfl)
  (fun k i hi => by
   have hsp := hm.specs.2 _ (List.getElem_mem hi)
   obtain ⟨l1, l2⟩ := lastK_rng m m.specs[i] m.schemas.length
   rw [table_specs_l1, dec_lt hi, iT, at_nat hi, bS, wrap_pred hm.schemas.1, down_c hm hsp _ _ m.schemas.length BIG (Nat.le_refl _) (by rw [big_val]; have := hm.schemas.1; omega)]
   unfold spE
   rw [List.getElem?_eq_getElem hi]
   simp only
   generalize hK : lastK m m.specs[i] m.schemas.length = K at l1 l2
   have hj : ∀ x, x = (decide (K < 0) || (decide (i + 1 = m.specs.length) && decide (K < (m.schemas.length : Int) - 1))) → table_specs_j3 (table_specs_l1 m k) m (i : Int) m.specs[i] K x =
     ee (cat (er (decide (K < 0) || (decide (i + 1 = m.specs.length) && decide (K < (m.schemas.length : Int) - 1))) 9) (match m.schemas[K.toNat]? with | some fs => suE m.specs[i] fs | none => 0)) (table_specs_l1 m k ((i + 1 : Nat) : Int)) := by
    rintro x rfl
    unfold table_specs_j3
    rw [ee_er (by decide), ← ee_cat]
    refine ee_if fun e => ?_
    have e := (er0 (by decide)).1 e
    rw [Bool.or_eq_false_iff, decide_eq_false_iff_not] at e
    obtain ⟨h1, h2, h3⟩ := at_rng (l := m.schemas) (x := K) (by omega) (by omega)
    rw [h2, h3, bS, (su_eq hm hsp (List.getElem_mem h1)).1, bS, ee_ift, wrap_succ hi hm.specs.1]
   generalize hB : (decide (K < 0) || (decide (i + 1 = m.specs.length) && decide (K < (m.schemas.length : Int) - 1))) = B at hj ⊢
   unfold table_specs_j2
   by_cases h0 : K < 0
   ·rw [decide_eq_true h0, iT]
    exact hj true (by rw [← hB, decide_eq_true h0]; rfl)
   ·rw [decide_eq_false h0, iF, wrap_pred hm.specs.1]
    by_cases hl : i + 1 = m.specs.length
    ·rw [show ((i : Int) == (m.specs.length : Int) - 1) = true from beq_iff_eq.2 (by omega), iT, wrap_pred hm.schemas.1, bS]
     exact hj _ (by rw [← hB, decide_eq_false h0, decide_eq_true hl]; rfl)
    ·rw [show ((i : Int) == (m.specs.length : Int) - 1) = false from beq_eq_false_iff_ne.2 (by omega), iF]
     exact hj false (by rw [← hB, decide_eq_false h0, decide_eq_false hl]; rfl))]
 exact ee_last _

/-! ### Check -/
theorem starts_true : law3_starts = some true := by decide +kernel

set_option linter.unusedVariables false
set_option linter.unusedSimpArgs false

/-! ### numbered lists -/
theorem numL_get : ∀ (fs : List GField) (n : Int) (i : Nat) (f : GField), fs[i]? = some f → ∃ k, (numL fs n).1[i]? = some (numO f k).1
 | [], n, i, f, h => by simp at h
 | g :: l, n, 0, f, h => by simp at h; subst h; exact ⟨n, by simp [numL]⟩
 | g :: l, n, i + 1, f, h => by
  obtain ⟨k, hk⟩ := numL_get l (numO g n).2 i f (by simpa using h)
  exact ⟨k, by simpa [numL] using hk⟩
theorem numO_1 (f : GField) (n : Int) : (numO f n).1 = ⟨n, f.name, f.need, ⟨f.type.kind, f.type.scale, (numL f.type.fields (IntKind.i64.wrap (n + 1))).1⟩⟩ := by rw [numO_eq]
theorem numO_2 (f : GField) (n : Int) : (numO f n).2 = (numL f.type.fields (IntKind.i64.wrap (n + 1))).2 := by rw [numO_eq]

theorem num_size : ∀ (m : Nat) (fs : List GField) (n : Int), sizeF fs ≤ m → sizeF (numL fs n).1 = sizeF fs
 | _, [], n, _ => by simp [numL]
 | 0, f :: l, n, h => by
  have := sizeFd_eq f
  simp only [sizeF] at h; omega
 | m + 1, f :: l, n, h => by
  have e1 := sizeFd_eq f
  have e2 := sizeT_eq f.type
  simp only [sizeF] at h
  have h1 := num_size m l (numO f n).2 (by omega)
  have h2 := num_size m f.type.fields (IntKind.i64.wrap (n + 1)) (by omega)
  simp only [numL, sizeF, h1, numO_1]
  rw [sizeFd_eq, sizeT_eq]
  simp only [h2]
  omega

theorem ok_size : ∀ (m : Nat) (fs : List GField), sizeF fs ≤ m → sizeF fs < 1000000000 → Num.okL fs = true
 | _, [], _, _ => rfl
 | 0, f :: l, h, _ => by
  have := sizeFd_eq f
  simp only [sizeF] at h; omega
 | m + 1, f :: l, h, hs => by
  have e1 := sizeFd_eq f
  have e2 := sizeT_eq f.type
  have e3 := sizeF_len f.type.fields
  simp only [sizeF] at h hs
  rw [Num.okL, Bool.and_eq_true, Num.okO_eq]
  refine ⟨?_, ok_size m l (by omega) (by omega)⟩
  unfold Num.okB
  rw [Bool.and_eq_true]
  exact ⟨Nat.ble_eq_true_of_le (by omega), ok_size m _ (by omega) (by omega)⟩
theorem okB_size {fs : List GField} (hs : sizeF fs < 1000000000) : Num.okB fs = true := by
 have := sizeF_len fs
 unfold Num.okB
 rw [Bool.and_eq_true]
 exact ⟨Nat.ble_eq_true_of_le (by omega), ok_size _ fs (Nat.le_refl _) hs⟩

theorem num_ids : ∀ (m : Nat) (fs : List GField) (n : Int), sizeF fs ≤ m → 0 ≤ n → n + (idsFs fs).length < 4611686018427387904 →
  (numL fs n).2 = n + (idsFs fs).length ∧ idsFs (numL fs n).1 = (List.range (idsFs fs).length).map (fun (i : Nat) => n + (i : Int))
 | _, [], n, _, _, _ => by simp [numL, idsFs]
 | 0, f :: l, n, h, _, _ => by
  have := sizeFd_eq f
  simp only [sizeF] at h; omega
 | m + 1, f :: l, n, h, h0, hb => by
  have e1 := sizeFd_eq f
  have e2 := sizeT_eq f.type
  simp only [sizeF] at h
  have hl : (idsFs (f :: l)).length = 1 + (idsFs f.type.fields).length + (idsFs l).length := by
   simp only [idsFs, idsFd_eq, List.length_append, List.length_cons]; omega
  rw [hl] at hb ⊢
  have hw : IntKind.i64.wrap (n + 1) = n + 1 := w64 (by omega) (by omega)
  obtain ⟨a1, a2⟩ := num_ids m f.type.fields (n + 1) (by omega) (by omega) (by omega)
  have hn : (numO f n).2 = n + 1 + (idsFs f.type.fields).length := by rw [numO_2, hw, a1]
  obtain ⟨b1, b2⟩ := num_ids m l (numO f n).2 (by omega) (by omega) (by omega)
  refine ⟨?_, ?_⟩
  ·simp only [numL]
   rw [b1, hn]; omega
  ·simp only [numL, idsFs, idsFd_eq, numO_1, hw, a2]
   rw [b2, hn]
   rw [show 1 + (idsFs f.type.fields).length + (idsFs l).length = ((idsFs f.type.fields).length + (idsFs l).length) + 1 by omega, List.range_succ_eq_map, List.range_add]
   simp only [List.map_cons, List.map_append, List.map_map, List.cons_append]
   congr 1
   ·simp
   congr 1
   ·refine List.map_congr_left fun i _ => ?_
    simp; omega
   ·refine List.map_congr_left fun i _ => ?_
    simp; omega

theorem num_fnm (fs : List GField) (n : Int) : fnm (numL fs n).1 = fnm fs := by
 funext i
 unfold fnm
 cases h : fs[i]? with
 | none =>
  have : (numL fs n).1[i]? = none := by
   rw [List.getElem?_eq_none_iff] at h ⊢
   rw [numL_len]; exact h
  rw [this]
 | some f =>
  obtain ⟨k, hk⟩ := numL_get fs n i f h
  rw [hk, numO_1]; rfl
theorem num_shp {t t' : GType} (n : Int) (h1 : t'.kind = t.kind) (h2 : t'.scale = t.scale) (h3 : t'.fields = (numL t.fields n).1) : shp t' = shp t := by
 have e1 := num_fnm t.fields n
 have e2 := numL_len t.fields n
 have e3 : badN t'.fields = badN t.fields := by unfold badN; rw [h3, e2, show noName (numL t.fields n).1 = noName t.fields by funext i; unfold noName; rw [e1]]
 have e4 : dupN t'.fields = dupN t.fields := by
  unfold dupN
  rw [h3, e2, show twin (numL t.fields n).1 = twin t.fields by funext i; unfold twin; rw [show eqN (numL t.fields n).1 i = eqN t.fields i by funext j; unfold eqN; rw [e1]]]
 have e5 : vf t' = vf t := by
  unfold vf
  rw [e3, e4, h1, h3, e2, e1]
 have e6 : scBad t' ↔ scBad t := by unfold scBad; rw [h1, h2]
 unfold shp
 rw [e5, h1]
 simp only [e6]

theorem num_loop {t t' : GType} (n : Int) (h3 : t'.fields = (numL t.fields n).1) (hl : t.fields.length < 1000000000) (l : Int) (q1 : GType → Int → GChecker → Option (Int × GChecker))
  (hq : ∀ f ∈ t.fields, ∀ k c, q1 (numO f k).1.type (IntKind.i64.wrap (l + 1)) c = q1 f.type (IntKind.i64.wrap (l + 1)) c) :
  ∀ (kk i : Nat) (z : Int), i ≤ t.fields.length → value_checker_check_l1 q1 t' l kk z (i : Int) = value_checker_check_l1 q1 t l kk z (i : Int) := by
 have hlen : t'.fields.length = t.fields.length := by rw [h3, numL_len]
 intro kk
 induction kk with
 | zero => intro i z _; rfl
 | succ kk ih =>
  intro i z hi
  rw [value_checker_check_l1, value_checker_check_l1, hlen]
  by_cases h : i = t.fields.length
  ·subst h
   simp only [Int.lt_irrefl, decide_false, ift_false]
  ·have hlt : i < t.fields.length := by omega
   rw [dec_lt hlt, ift_true, ift_true, at_nat hlt, at_nat (hlen ▸ hlt), bnd_eq, bnd_eq]
   obtain ⟨k, hk⟩ := numL_get t.fields n i t.fields[i] (List.getElem?_eq_getElem hlt)
   have he : t'.fields[i]'(hlen ▸ hlt) = (numO t.fields[i] k).1 := by
    have : t'.fields[i]? = some (numO t.fields[i] k).1 := by rw [h3]; exact hk
    rw [List.getElem?_eq_getElem (hlen ▸ hlt)] at this
    exact Option.some.inj this
   rw [he, hq _ (List.getElem_mem hlt), wrap_succ hlt hl]
   cases q1 t.fields[i].type (IntKind.i64.wrap (l + 1)) ⟨z⟩ with
   | none => rfl
   | some r =>
    rw [bnd_eq, bnd_eq, ih (i + 1) _ (by omega)]

theorem num_check : ∀ (m k : Nat) (t t' : GType) (n l : Int) (c : GChecker), sizeT t ≤ m → sizeT t < 1000000000 → t'.kind = t.kind → t'.scale = t.scale → t'.fields = (numL t.fields n).1 →
  value_checker_check k t' l c = value_checker_check k t l c
 | 0, k, t, t', n, l, c, hm, _, _, _, _ => by have := sizeT_eq t; omega
 | m + 1, 0, t, t', n, l, c, hm, hs, h1, h2, h3 => rfl
 | m + 1, k + 1, t, t', n, l, c, hm, hs, h1, h2, h3 => by
  have e0 := sizeT_eq t
  have ho : FsOk t.fields := fsOk_of (by omega)
  have ho' : FsOk t'.fields := fsOk_of (by rw [h3, num_size _ _ _ (Nat.le_refl _)]; omega)
  have hq : ∀ f ∈ t.fields, ∀ j c, value_checker_check k (numO f j).1.type (IntKind.i64.wrap (l + 1)) c = value_checker_check k f.type (IntKind.i64.wrap (l + 1)) c := fun f hf j c => by
   have a1 := sizeF_mem hf
   have a2 := sizeFd_eq f
   exact num_check m k f.type (numO f j).1.type (IntKind.i64.wrap (j + 1)) _ c (by omega) (by omega) (by rw [numO_1]) (by rw [numO_1]) (by rw [numO_1])
  have hj2 : ∀ z, value_checker_check_j2 (value_checker_check k) t' l z = value_checker_check_j2 (value_checker_check k) t l z := fun z => by
   rw [checkJ2 ho, checkJ2 ho', num_shp n h1 h2 h3]
   have := num_loop n h3 ho.len l (value_checker_check k) hq BIG 0 z (Nat.zero_le _)
   rw [show ((0 : Nat) : Int) = 0 from rfl] at this
   rw [this]
  have hj1 : ∀ x, value_checker_check_j1 (value_checker_check k) t' l c x = value_checker_check_j1 (value_checker_check k) t l c x := fun x => by
   unfold value_checker_check_j1
   rw [leafV, leafV, h1]
   simp only [hj2]
  rw [value_checker_check, value_checker_check]
  simp only [hj1, leafV, h1]

theorem num_type {fs : List GField} (n : Int) (hs : sizeF fs < 1000000000 - 1) : value_CheckType ⟨7, 0, (numL fs n).1⟩ = value_CheckType ⟨7, 0, fs⟩ := by
 unfold value_CheckType
 rw [num_check _ BIG ⟨7, 0, fs⟩ ⟨7, 0, (numL fs n).1⟩ n 1 ⟨0⟩ (Nat.le_refl _) (by rw [sizeT_eq]; show sizeF fs + 1 < _; omega) rfl rfl rfl]

/-! ### ids -/
theorem scan_fresh : ∀ (ids seen : List Int) (m : List (Int × Int)), Inv m seen → (∀ x ∈ ids, 1 ≤ x) → (ids.Nodup) → (∀ x ∈ ids, x ∉ seen) → (scan ids m).1 = 0
 | [], _, _, _, _, _, _ => rfl
 | x :: l, seen, m, hm, h1, h2, h3 => by
  obtain ⟨a, b⟩ := stp_eq hm x
  have hx := h1 x (by simp)
  have hns := h3 x (by simp)
  have e : (stp x m).1 = 0 := by rw [a, if_neg (by omega), if_neg hns]
  rw [scan, e]
  simp only [ne_eq, not_true, if_false]
  rw [List.nodup_cons] at h2
  refine scan_fresh l (seen ++ [x]) _ (b e) (fun y hy => h1 y (by simp [hy])) h2.2 fun y hy hin => ?_
  rcases List.mem_append.1 hin with h | h
  ·exact h3 y (by simp [hy]) h
  ·simp at h; subst h; exact h2.1 hy

theorem num_sc {fs : List GField} (hs : sizeF fs < 1000000000 - 1) (h : value_CheckType ⟨7, 0, fs⟩ = some 0) : sc (numL fs 1).1 = 0 ∧ bigI (numL fs 1).2 (idsFs (numL fs 1).1) = false := by
 have hlen := idsFs_len fs
 obtain ⟨a, b⟩ := num_ids _ fs 1 (Nat.le_refl _) (by omega) (by omega)
 have hsz := num_size _ fs 1 (Nat.le_refl _)
 constructor
 ·unfold sc value_CheckSchema
  rw [num_type 1 hs, h, bnd_eq]
  have w := walk_eq 1000000000 BIG (numL fs 1).1 [] (by omega) (by rw [big_val]; omega) (by omega)
  simp only [ift_ite]
  rw [w]
  have := scan_fresh (idsFs (numL fs 1).1) [] [] (fun x => by simp [mget]) (fun x hx => ?_) ?_ (fun x hx => by simp)
  ·simp [bnd_eq, this]
  ·rw [b] at hx
   obtain ⟨i, _, rfl⟩ := List.mem_map.1 hx
   omega
  ·rw [b]
   exact List.Pairwise.map _ (fun i j h e => h (by omega)) List.nodup_range
 ·rw [b, a]
  unfold bigI
  rw [List.any_eq_false]
  intro x hx
  obtain ⟨i, hi, rfl⟩ := List.mem_map.1 hx
  have := List.mem_range.1 hi
  simp; omega
set_option linter.unusedVariables false
set_option linter.unusedSimpArgs false

theorem sizeF_sum : ∀ l : List GField, sizeF l = (l.map sizeFd).sum
 | [] => by simp [sizeF]
 | x :: l => by simp [sizeF, sizeF_sum l]
theorem szT_mk (k s : Int) (fs : List GField) : sizeT ⟨k, s, fs⟩ ≤ (fs.map sizeFd).sum + 4 := by
 rw [sizeT_eq, sizeF_sum]; simp only; omega
theorem szF_mk (i : Int) (n : ByteArray) (q : Bool) (t : GType) : sizeFd ⟨i, n, q, t⟩ ≤ n.size + sizeT t + 4 := by
 rw [sizeFd_eq]; simp only; omega

theorem skip_loop {β : Type} {n : Nat} {L : Nat → Int → Option β} {fin : Option β} (h0 : ∀ k, L (k + 1) (n : Int) = fin) (h1 : ∀ k i, i < n → L (k + 1) (i : Int) = L k ((i + 1 : Nat) : Int)) :
  ∀ d k i, i + d = n → d < k → L k (i : Int) = fin
 | 0, k, i, hi, hk => by
  obtain ⟨k, rfl⟩ := fu hk
  have : i = n := by omega
  subst this; exact h0 k
 | d + 1, k, i, hi, hk => by
  obtain ⟨k, rfl⟩ := fu hk
  rw [h1 k i (by omega)]
  exact skip_loop h0 h1 d k (i + 1) (by omega) (by omega)
theorem skip_big {β : Type} {n : Nat} {L : Nat → Int → Option β} {fin : Option β} (hn : n < 1000000000) (h0 : ∀ k, L (k + 1) (n : Int) = fin) (h1 : ∀ k i, i < n → L (k + 1) (i : Int) = L k ((i + 1 : Nat) : Int)) : L BIG (0 : Int) = fin :=
 skip_loop h0 h1 n BIG 0 (by omega) (by rw [big_val]; omega)

theorem sf_refl : ∀ (m k : Nat) (fs : List GField), sizeF fs ≤ m → m < k → sizeF fs < 1000000000 → ref3_sameFields k fs fs = some true := by
 intro m
 induction m with
 | zero =>
  intro k fs h hk hs
  obtain ⟨k, rfl⟩ := fu hk
  have hl := sizeF_len fs
  have : fs = [] := List.eq_nil_of_length_eq_zero (by omega)
  subst this
  rw [ref3_sameFields]
  simp only [bne_self_eq_false, iF]
  rw [big0, ref3_sameFields_l1]
  rfl
 | succ m ih =>
  intro k fs h hk hs
  obtain ⟨k, rfl⟩ := fu hk
  have hl := sizeF_len fs
  rw [ref3_sameFields]
  simp only [bne_self_eq_false, iF]
  refine skip_big (L := ref3_sameFields_l1 (ref3_sameFields k) fs fs) (n := fs.length) (by omega) (fun k => by rw [ref3_sameFields_l1, dgn, iF]; rfl) (fun kk i hi => ?_)
  have m1 := sizeF_mem (List.getElem_mem hi)
  have m2 := sizeFd_eq fs[i]
  have m3 := sizeT_eq fs[i].type
  rw [ref3_sameFields_l1, dec_lt hi, iT, at_nat hi, bS, bS]
  simp only [bne_self_eq_false, beq_self_eq_true, Bool.not_true, iF]
  rw [ih k _ (by omega) (by omega) (by omega), bS]
  unfold ref3_sameFields_j1
  rw [Bool.not_true, iF, wrap_succ hi (by omega)]

abbrev newM (l : List GField) (sp : GSpec) (n : Int) : GMeta := ⟨[l], [sp], n, 1, 1, 0, [], [⟨ByteArray.mk #[109, 97, 105, 110], true, 0⟩], []⟩

theorem sm4 (l : List GField) (sp : GSpec) (n : Int) : ref3_SameMeta_j4 (newM l sp n) (newM l sp n) = some true := by kernel_rfl

theorem sm2 {m : GMeta} {sp : GSpec} (hm : m.specs = [sp]) (e4 : ref3_SameMeta_j4 m m = some true) (hsp : sp.fields.length < 1000000000) : ref3_SameMeta_j2 m m = some true := by
 unfold ref3_SameMeta_j2
 refine skip_big (L := ref3_SameMeta_l2 m m) (n := 1) (by omega) (fun k => ?_) (fun k i hi => ?_)
 ·rw [ref3_SameMeta_l2, hm]
  exact e4
 ·obtain rfl : i = 0 := by omega
  have ha : at? [sp] ((0 : Nat) : Int) = some sp := rfl
  have hlen : decide (((0 : Nat) : Int) < ([sp].length : Int)) = true := rfl
  rw [ref3_SameMeta_l2, hm, hlen, iT, ha, bS, bS]
  simp only [bne_self_eq_false, iF]
  refine skip_big (L := ref3_SameMeta_l3 (ref3_SameMeta_l2 m m k) ((0 : Nat) : Int) sp sp) (n := sp.fields.length) hsp (fun k => ?_) (fun k i hi => ?_)
  ·rw [ref3_SameMeta_l3, dgn, iF]
   unfold ref3_SameMeta_j3
   rw [wrap_succ (i := 0) (n := 1) (by omega) (by omega)]
  ·rw [ref3_SameMeta_l3, dec_lt hi, iT, at_nat hi, bS, bS, bS]
   simp only [beq_self_eq_true, Bool.and_self, Bool.not_true, iF]
   rw [wrap_succ hi hsp]

theorem sm1 {m : GMeta} {l : List GField} (hm : m.schemas = [l]) (e2 : ref3_SameMeta_j2 m m = some true) (hl : sizeF l < 1000000000) : ref3_SameMeta m m = some true := by
 have e1 : ref3_SameMeta_j1 m m false = some true := by
  unfold ref3_SameMeta_j1
  rw [iF]
  refine skip_big (L := ref3_SameMeta_l1 m m) (n := 1) (by omega) (fun k => ?_) (fun k i hi => ?_)
  ·rw [ref3_SameMeta_l1, hm]
   exact e2
  ·obtain rfl : i = 0 := by omega
   have ha : at? [l] ((0 : Nat) : Int) = some l := rfl
   have hlen : decide (((0 : Nat) : Int) < ([l].length : Int)) = true := rfl
   rw [ref3_SameMeta_l1, hm, hlen, iT, ha, bS, bS, sf_refl _ BIG l (Nat.le_refl _) (by rw [big_val]; omega) hl, bS, Bool.not_true, iF, wrap_succ (i := 0) (n := 1) (by omega) (by omega)]
 unfold ref3_SameMeta
 simp only [bne_self_eq_false, iF]
 exact e1

theorem same_one (l : List GField) (sp : GSpec) (n : Int) (hl : sizeF l < 1000000000) (hsp : sp.fields.length < 1000000000) : ref3_SameMeta (newM l sp n) (newM l sp n) = some true :=
 sm1 rfl (sm2 rfl (sm4 l sp n) hsp) hl

theorem same_zero : ref3_SameMeta ⟨[], [], 0, 0, 0, 0, [], [], []⟩ ⟨[], [], 0, 0, 0, 0, [], [], []⟩ = some true := by kernel_rfl

theorem check_new {fs : List GField} {sp : GSpec} (hs : sizeF fs < 1000000000 - 1) (hsp : sp.fields.length < 1000000000) (h : value_CheckType ⟨7, 0, fs⟩ = some 0) (hu : table_suits sp (numL fs 1).1 = some 0) (hsrc : ∀ (k : Nat) (h : k < sp.fields.length), ∃ i, Fst (numL fs 1).1 sp.fields[k].source i) :
  table_Check (newM (numL fs 1).1 sp (numL fs 1).2) = some 0 := by
 have hlen := idsFs_len fs
 obtain ⟨a, b⟩ := num_ids _ fs 1 (Nat.le_refl _) (by omega) (by omega)
 have hsz := num_size _ fs 1 (Nat.le_refl _)
 obtain ⟨s1, s2⟩ := num_sc hs h
 have hn1 : 1 ≤ (numL fs 1).2 := by omega
 have hn2 : (numL fs 1).2 ≤ 1099511627776 := by omega
 generalize (numL fs 1).2 = n at *
 generalize (numL fs 1).1 = l at *
 have hm : MSz (newM l sp n) := ⟨⟨by simp, fun s hs => by simp at hs; subst hs; omega⟩, ⟨by simp, fun s hs => by simp at hs; subst hs; exact hsp⟩, ⟨by simp, fun s hs => by simp at hs⟩, ⟨by simp, fun r hr => by simp at hr; subst hr; decide⟩, ⟨by simp, fun p hp => by simp at hp⟩⟩
 have hsch : table_schemas (newM l sp n) = some 0 := by
  rw [sch_c hm]
  show some (fe (schE (newM l sp n)) 1 0) = some 0
  have : schE (newM l sp n) 0 = 0 := by
   unfold schE
   show cat (sc l) (cat (er (bigI n (idsFs l)) 3) 0) = 0
   rw [s1, s2]; rfl
  show some (cat (schE (newM l sp n) 0) 0) = some 0
  rw [this]; rfl
 have hspc : table_specs (newM l sp n) = some 0 := by
  rw [spec_c hm]
  have hh : hasB (newM l sp n) sp 0 = true := by
   unfold hasB
   show (!anyI (lackP l sp) sp.fields.length) = true
   rw [Bool.not_eq_true', ← Bool.not_eq_true, anyI_iff]
   rintro ⟨j, hj, hjl⟩
   obtain ⟨i, hi⟩ := hsrc j hj
   unfold lackP tpB at hjl
   rw [List.getElem?_eq_getElem hj] at hjl
   simp only at hjl
   rw [ref_top_some (by have := sizeF_len l; omega) hi] at hjl
   simp at hjl
  have hk : lastK (newM l sp n) sp 1 = 0 := by
   unfold lastK; rw [hh]; rfl
  have : spE (newM l sp n) 0 = 0 := by
   unfold spE
   show cat (er (decide (lastK (newM l sp n) sp 1 < 0) || (decide (0 + 1 = 1) && decide (lastK (newM l sp n) sp 1 < (1 : Int) - 1))) 9) (match (newM l sp n).schemas[(lastK (newM l sp n) sp 1).toNat]? with | some fs => suE sp fs | none => 0) = 0
   rw [hk]
   show suE sp l = 0
   unfold suE
   rw [hu]; rfl
  show some (cat (spE (newM l sp n) 0) 0) = some 0
  rw [this]; rfl
 have hsn : table_snapshots (newM l sp n) = some 0 := by kernel_rfl
 have hal : table_alike (newM l sp n) = some 0 := by kernel_rfl
 have hrf : table_refs (newM l sp n) = some 0 := by kernel_rfl
 have hj2 : table_Check_j2 (newM l sp n) false = some 0 := by
  unfold table_Check_j2
  rw [hsch, hspc, hsn, hal, hrf]; rfl
 have hw : ∀ x lo hi : Int, lo ≤ x → x ≤ hi → table_within x lo hi = some true := fun x lo hi h1 h2 => by
  rw [tabWithin, decide_eq_true (⟨h1, h2⟩ : lo ≤ x ∧ x ≤ hi)]
 have hj1 : table_Check_j1 (newM l sp n) false = some 0 := by
  unfold table_Check_j1
  rw [iF, hw n 1 1099511627776 hn1 hn2, bS]
  show ift false _ (bnd (table_within 1 1 1099511627776) _) = _
  rw [iF, hw 1 1 1099511627776 (by decide) (by decide), bS]
  show ift false _ (bnd (table_within 1 1 1099511627776) _) = _
  rw [iF, hw 1 1 1099511627776 (by decide) (by decide), bS]
  show ift false _ (bnd (table_within 0 0 1099511627776) _) = _
  rw [iF, hw 0 0 1099511627776 (by decide) (by decide), bS]
  exact hj2
 have hlm : table_limits (newM l sp n) = some 0 := by kernel_rfl
 unfold table_Check
 rw [hlm]
 exact hj1

theorem law_new {fs : List GField} {sp : GSpec} (hs : sizeF fs < 1000000000 - 1) (hsp : sp.fields.length < 1000000000) : law3_TableNewMatchesSpec fs sp = some true := by
 obtain ⟨e, h1, h2, _⟩ := checkType_eq ⟨7, 0, fs⟩ (by simp only [sizeT]; omega)
 have hsz := num_size _ fs 1 (Nat.le_refl _)
 unfold law3_TableNewMatchesSpec table_New ref3_New
 rw [h1, h2, bS, bS, starts_true]
 by_cases he : e = 0
 ·subst he
  obtain ⟨c, s1, s2, s3⟩ := suits_eq sp (fs := (numL fs 1).1) hsp (by omega)
  have ht : table_New_t fs sp = some (if c = 0 then (newM (numL fs 1).1 sp (numL fs 1).2, 0) else (⟨[], [], 0, 0, 0, 0, [], [], []⟩, c)) := by
   unfold table_New_t table_newList table_newNext slices_CloneSF slices_Clip_api_SpecField_api_SpecField
   rw [okB_size (by omega), iT, bS, bS, s1, bS]
   by_cases hc : c = 0
   ·subst hc
    show bnd (grd _ (some sp.fields)) _ = _
    rw [gP (by omega), bS, gP (by omega), bS]
    simp
   ·rw [show (c != 0) = true by simp [hc], iT, if_neg hc]
  have hr : ref3_New_t fs sp = some (if c = 0 then (newM (numL fs 1).1 sp (numL fs 1).2, 0) else (⟨[], [], 0, 0, 0, 0, [], [], []⟩, c)) := by
   unfold ref3_New_t table_newList table_newNext
   rw [okB_size (by omega), iT, bS, bS, s2, bS]
   by_cases hc : c = 0
   ·subst hc; rfl
   ·rw [show (c != 0) = true by simp [hc], iT, if_neg hc]
  show bnd (table_New_t fs sp) _ = _
  rw [ht, bS]
  show bnd (ref3_New_t fs sp) _ = _
  rw [hr, bS, bS, iT]
  by_cases hc : c = 0
  ·subst hc
   rw [if_pos rfl]
   simp only [beq_self_eq_true, iT]
   rw [same_one _ _ _ (by omega) hsp, bS, iT]
   show bnd (table_Check _) _ = _
   rw [check_new hs hsp h1 s1 (s3 rfl)]
   rfl
  ·rw [if_neg hc]
   simp only [beq_self_eq_true, iT]
   rw [same_zero, bS, iT, show (c != 0) = true by simp [hc], iT]
   rfl
 ·rw [show (e != 0) = true by simp [he], iT, iT, bS, bS, bS, iT]
  simp only [beq_self_eq_true, iT]
  rw [same_zero, bS, iT, show (e != 0) = true by simp [he], iT]
  rfl
end Go.Proofs.YtikbfjpcmalmlaaGreatDoor
