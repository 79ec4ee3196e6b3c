/- The calendar, in plain integers. Names, in plain terms. The fields of a type, in plain terms. The check of types and the common type, in plain terms. Texts and sound values, in plain terms. Values of a type, in plain terms; the law of Sound and Check. Rows: lists of fields. SameType: both answers are the same. CheckSchema: both answers are the same. CheckSchema, end; the law of types. Rows: CheckRows, of both sides. Rows: the ways to the leaves, of both sides. Rows: what a value leaves at a way, of both sides. Rows: what a value leaves at a way, the reference. Rows: what is the same as itself. Rows: what checked schemas and rows are like. Rows: shreds of both sides; the law. Rows and schemas as they are read. -/
import Derived.Test.YtmaemlebpjnmoaaDoorGeC
namespace Go.SX.Cal
open Go
set_option linter.unusedVariables false

theorem w64 {x : Int} (h1 : -9223372036854775808 ≤ x) (h2 : x ≤ 9223372036854775807) : IntKind.i64.wrap x = x := by
 simp only [IntKind.wrap, IntKind.bits, IntKind.signed]
 simp only [Bool.true_and, decide_eq_true_eq, ge_iff_le]
 split <;> omega

/-! ### years of an era -/

def S (y : Int) : Int := 365 * y + y / 4 - y / 100
def F (r : Int) : Int := r - r / 1460 + r / 36524
def leap (y : Int) : Prop := y % 4 = 0 ∧ (y % 100 ≠ 0 ∨ y % 400 = 0)

instance (y : Int) : Decidable (leap y) := by unfold leap; infer_instance

/-! ### days -/

def E (y : Int) : Int := y / 400 * 146097 + S (y % 400) - 719468

end Go.SX.Cal
namespace Go.Proofs.YtmaemlebpjnmoaaDoor
open Go Go.SX Go.SX.Cal
set_option linter.unusedVariables false
set_option linter.unusedSimpArgs false

theorem ift_true {β : Type} (x y : Option β) : ift true x y = x := rfl
theorem ift_false {β : Type} (x y : Option β) : ift false x y = y := rfl
theorem ift_ite {β : Type} (b : Bool) (x y : Option β) : ift b x y = if b = true then x else y := by cases b <;> rfl
theorem big_val : BIG = 1152921504606846976 := rfl

def first (P : Nat → Bool) (i n : Nat) : Option Nat := (List.range' i (n - i)).find? P

theorem first_step {P : Nat → Bool} {i n : Nat} (h : i < n) : first P i n = if P i = true then some i else first P (i + 1) n := by
 unfold first
 rw [show n - i = (n - (i + 1)) + 1 by omega, List.range'_succ, List.find?_cons]
 cases hp : P i <;> simp [hp]

theorem first_end {P : Nat → Bool} {n : Nat} : first P n n = none := by simp [first]

theorem first_none {P : Nat → Bool} {i n : Nat} : first P i n = none ↔ ∀ j, i ≤ j → j < n → P j = false := by
 unfold first
 rw [List.find?_eq_none]
 constructor
 ·intro h j h1 h2
  have := h j (by rw [List.mem_range'_1]; omega)
  simpa using this
 ·intro h j hj
  rw [List.mem_range'_1] at hj
  have := h j (by omega) (by omega)
  simp [this]

theorem search {β : Type} {f : Nat → Nat → Option β} {n : Nat} {P : Nat → Bool} {A : Nat → Option β} {B : Option β} (hstep : ∀ k i, i < n → f (k + 1) i = if P i = true then A i else f k (i + 1)) (hend : ∀ k, f (k + 1) n = B) :
  ∀ k i, i ≤ n → n - i < k → f k i = (first P i n).elim B A := by
 intro k
 induction k with
 | zero => intro i _ h; omega
 | succ k ih =>
  intro i hi hk
  by_cases h : i = n
  ·subst h
   rw [hend, first_end]; rfl
  ·rw [hstep k i (by omega), first_step (by omega)]
   by_cases hp : P i = true
   ·simp [hp]
   ·simp only [hp, if_false]
    exact ih (i + 1) (by omega) (by omega)

def byt (s : ByteArray) (i : Nat) : Nat := (s.data.toList.getD i 0).toNat

theorem get_byt (s : ByteArray) (i : Nat) (h : i < s.size) : (s.get! i).toNat = byt s i := by
 unfold byt
 have h' : i < s.data.size := h
 have : s.get! i = s.data.toList.getD i 0 := by
  simp only [ByteArray.get!, List.getD, Array.getElem?_toList]
  rw [getElem!_pos s.data i h', Array.getElem?_eq_getElem h']; rfl
 rw [this]

def small (b : Nat) : Bool := decide (97 ≤ b) && decide (b ≤ 122)
def other (b : Nat) : Bool := b == 95 || (decide (48 ≤ b) && decide (b ≤ 57))
def good (b : Nat) : Bool := small b || other b

theorem name1_eq (n : Nat) : value_Name_1 (Int.ofNat n) = some (!good n) := by
 unfold value_Name_1 value_Name_1_j1
 simp only [ift_ite, decide_eq_true_eq, Int.ofNat_eq_natCast]
 repeat' split
 all_goals (rw [Option.some.injEq, Bool.eq_iff_iff]; simp [good, small, other]; omega)

theorem decode_lo (s : ByteArray) (i : Nat) (h : i < s.size) (hb : byt s i < 128) : Utf8.decode s i = (byt s i, 1) := by
 have e := get_byt s i h
 unfold Utf8.decode
 simp [e, hb]

theorem decode_hi (s : ByteArray) (i : Nat) (h : i < s.size) (hb : ¬ byt s i < 128) : 128 ≤ (Utf8.decode s i).1 := by
 have e := get_byt s i h
 unfold Utf8.decode
 simp only [Nat.add_zero, e, if_neg hb, Utf8.runeError]
 repeat' split
 all_goals simp_all
 all_goals omega

def bad (s : ByteArray) (i : Nat) : Bool := !good (byt s i)

theorem indexFunc_eq (s : ByteArray) : ∀ k i, i ≤ s.size → s.size - i < k → ∃ r, strings_indexFunc_of_value_Name_1_l1 s true k i = some r ∧ (decide (0 ≤ r) = (first (bad s) i s.size).isSome) := by
 intro k
 induction k with
 | zero => intro i _ h; omega
 | succ k ih =>
  intro i hi hk
  rw [strings_indexFunc_of_value_Name_1_l1]
  by_cases h : i = s.size
  ·subst h
   rw [first_end]
   simp only [Nat.lt_irrefl, decide_false, ift_false]
   exact ⟨-1, rfl, rfl⟩
  ·have hlt : i < s.size := by omega
   simp only [hlt, decide_true, ift_true, name1_eq, bnd_eq]
   rw [first_step hlt]
   by_cases hb : byt s i < 128
   ·rw [decode_lo s i hlt hb]
    simp only [bad]
    by_cases hg : good (byt s i) = true
    ·simp only [hg, Bool.not_true, ift_ite]
     obtain ⟨r, h1, h2⟩ := ih (i + 1) (by omega) (by omega)
     exact ⟨r, by simpa using h1, by simpa [bad] using h2⟩
    ·simp only [hg, Bool.not_false, ift_ite]
     exact ⟨_, rfl, by simp⟩
   ·have h1 := decode_hi s i hlt hb
    have g1 : good (Utf8.decode s i).1 = false := by
     generalize (Utf8.decode s i).1 = x at h1
     simp [good, small, other]; omega
    have g2 : bad s i = true := by
     simp [bad, good, small, other]; omega
    simp only [g1, g2, Bool.not_false, ift_ite]
    exact ⟨_, rfl, by simp⟩

def isName (s : ByteArray) : Bool := decide (1 ≤ s.size) && decide (s.size ≤ 24) && small (byt s 0) && (first (bad s) 0 s.size).isNone

theorem size_zero (s : ByteArray) : (s.toList == (ByteArray.mk #[]).toList) = decide (s.size = 0) := by
 rw [ByteArray.toList_eq, ByteArray.toList_eq, Bool.eq_iff_iff]
 show (s.data.toList == []) = true ↔ decide (s.data.size = 0) = true
 rw [← Array.length_toList]
 cases s.data.toList <;> simp

theorem vName (s : ByteArray) (hs : s.size < 1000000000) : value_Name s = some (isName s) := by
 obtain ⟨r, h1, h2⟩ := indexFunc_eq s BIG 0 (Nat.zero_le _) (by rw [big_val]; omega)
 unfold value_Name value_Name_j1 strings_ContainsFunc_of_value_Name_1 strings_IndexFunc_of_value_Name_1 strings_indexFunc_of_value_Name_1
 rw [h1, size_zero]
 simp only [bnd_eq, h2, ift_ite]
 by_cases z0 : s.size = 0
 ·simp [z0, isName]
 ·by_cases z1 : 24 < s.size
  ·have : ¬ s.size ≤ 24 := by omega
   simp [z0, z1, isName, this, show (24 : Int) < (s.size : Int) by omega]
  ·have hz : ¬ (24 : Int) < (s.size : Int) := by omega
   have hb : ((s.data.toList.getD (0 : Int).toNat 0).toNat : Int) = (byt s 0 : Int) := rfl
   simp only [z0, decide_false, hz, Bool.false_eq_true, if_false, hb]
   rw [grd_pos (by omega), grd_pos (by omega)]
   simp only [decide_eq_true_eq]
   have : s.size ≤ 24 := by omega
   by_cases q1 : byt s 0 < 97
   ·have : ¬ 97 ≤ byt s 0 := by omega
    simp [show (byt s 0 : Int) < 97 by omega, isName, small, this]
   ·by_cases q2 : 122 < byt s 0
    ·have : ¬ byt s 0 ≤ 122 := by omega
     simp [show ¬ (byt s 0 : Int) < 97 by omega, show (122 : Int) < (byt s 0 : Int) by omega, isName, small, this]
    ·simp [show ¬ (byt s 0 : Int) < 97 by omega, show ¬ (122 : Int) < (byt s 0 : Int) by omega, isName, small, show 1 ≤ s.size by omega, this, show 97 ≤ byt s 0 by omega, show byt s 0 ≤ 122 by omega]

def rbad (s : ByteArray) (i : Nat) : Bool := !small (byt s i) && (i == 0 || !other (byt s i))

theorem rname_step (s : ByteArray) (hs : s.size < 1000000000) (k i : Nat) (hi : i < s.size) : ref1_Name_l1 s (k + 1) (i : Int) = if rbad s i = true then some false else ref1_Name_l1 s k ((i + 1 : Nat) : Int) := by
 rw [ref1_Name_l1, ← ift_ite]
 have hb : ((s.data.toList.getD (i : Int).toNat 0).toNat : Int) = (byt s i : Int) := rfl
 have hw : IntKind.i64.wrap ((i : Int) + 1) = ((i + 1 : Nat) : Int) := by rw [w64 (by omega) (by omega)]; omega
 have hg : 0 ≤ (i : Int) ∧ (i : Int) < (s.size : Int) := by omega
 rw [show decide ((i : Int) < (s.size : Int)) = true by simp [hg.2], ift_true]
 simp only [ref1_Name_j2, ref1_Name_j3, ref1_Name_j4, hb, hw, bnd_eq, grd_pos hg]
 have e1 : ((byt s i : Int) == 95) = (byt s i == 95) := by rw [Bool.eq_iff_iff]; simp; omega
 have e2 : (decide ((97 : Int) ≤ byt s i)) = decide (97 ≤ byt s i) := by rw [Bool.eq_iff_iff]; simp; omega
 have e3 : (decide ((byt s i : Int) ≤ 122)) = decide (byt s i ≤ 122) := by rw [Bool.eq_iff_iff]; simp; omega
 have e4 : (decide ((48 : Int) ≤ byt s i)) = decide (48 ≤ byt s i) := by rw [Bool.eq_iff_iff]; simp; omega
 have e5 : (decide ((byt s i : Int) ≤ 57)) = decide (byt s i ≤ 57) := by rw [Bool.eq_iff_iff]; simp; omega
 have e6 : ((i : Int) == 0) = (i == 0) := by rw [Bool.eq_iff_iff]; simp
 simp only [e1, e2, e3, e4, e5, e6, rbad, small, other]
 generalize hq : ref1_Name_l1 s k ((i + 1 : Nat) : Int) = q
 generalize (byt s i == 95) = b1
 generalize decide (97 ≤ byt s i) = b2
 generalize decide (byt s i ≤ 122) = b3
 generalize decide (48 ≤ byt s i) = b4
 generalize decide (byt s i ≤ 57) = b5
 generalize (i == 0) = b6
 cases b1 <;> cases b2 <;> cases b3 <;> cases b4 <;> cases b5 <;> cases b6 <;> rfl

theorem rName (s : ByteArray) (hs : s.size < 1000000000) : ref1_Name s = some (isName s) := by
 have hl := search (f := fun k i => ref1_Name_l1 s k (i : Int)) (n := s.size) (P := rbad s) (A := fun _ => some false) (B := some true) (fun k i hi => rname_step s hs k i hi)
  (fun k => by rw [ref1_Name_l1]; simp only [Int.lt_irrefl, decide_false, ift_false]; rfl) BIG 0 (Nat.zero_le _) (by rw [big_val]; omega)
 have hl : ref1_Name_l1 s BIG (0 : Int) = _ := hl
 unfold ref1_Name ref1_Name_j1
 rw [hl]
 simp only [ift_ite]
 by_cases z0 : s.size = 0
 ·simp [z0, isName]
 ·by_cases z1 : 24 < s.size
  ·have : ¬ s.size ≤ 24 := by omega
   simp [z0, z1, isName, this, show (24 : Int) < (s.size : Int) by omega]
  ·have hz : ¬ (24 : Int) < (s.size : Int) := by omega
   have hz2 : ¬ (s.size : Int) < 1 := by omega
   simp only [hz, hz2, decide_false, Bool.false_eq_true, if_false]
   have e : (first (rbad s) 0 s.size).isNone = (small (byt s 0) && (first (bad s) 0 s.size).isNone) := by
    rw [Bool.eq_iff_iff, Bool.and_eq_true, Option.isNone_iff_eq_none, Option.isNone_iff_eq_none, first_none, first_none]
    constructor
    ·intro h
     have h0 := h 0 (Nat.le_refl _) (by omega)
     simp only [rbad, beq_self_eq_true, Bool.true_or, Bool.and_true] at h0
     have h0' : small (byt s 0) = true := by simpa using h0
     refine ⟨h0', fun j _ hj => ?_⟩
     have h1 := h j (Nat.zero_le _) hj
     simp only [rbad, bad, good] at h1 ⊢
     cases hs : small (byt s j) <;> cases ho : other (byt s j) <;> simp_all
    ·rintro ⟨h0, h⟩ j _ hj
     have h1 := h j (Nat.zero_le _) hj
     simp only [rbad, bad, good] at h1 ⊢
     by_cases hj0 : j = 0
     ·subst hj0; simp [h0]
     ·cases hs : small (byt s j) <;> cases ho : other (byt s j) <;> simp_all
   have : (first (rbad s) 0 s.size).elim (some true) (fun _ => some false) = some ((first (rbad s) 0 s.size).isNone) := by cases first (rbad s) 0 s.size <;> rfl
   rw [this, e]
   simp [isName, show 1 ≤ s.size by omega, show s.size ≤ 24 by omega]

end Go.Proofs.YtmaemlebpjnmoaaDoor
namespace Go.Proofs.YtmaemlebpjnmoaaDoor
open Go Go.SX Go.SX.Cal
set_option linter.unusedVariables false
set_option linter.unusedSimpArgs false

mutual
def sizeT : GType → Nat
 | ⟨_, _, fs⟩ => sizeF fs + 1
def sizeF : List (FieldP GType) → Nat
 | [] => 0
 | f :: l => sizeFd f + sizeF l
def sizeFd : FieldP GType → Nat
 | ⟨_, n, _, t⟩ => n.size + sizeT t + 1
end

theorem sizeF_mem : ∀ {l : List GField} {x : GField}, x ∈ l → sizeFd x ≤ sizeF l
 | [], _, h => by cases h
 | y :: l, x, h => by
  simp only [sizeF]
  rcases List.mem_cons.1 h with rfl | h
  ·omega
  ·have := sizeF_mem h; omega

theorem sizeFd_eq : ∀ x : GField, sizeFd x = x.name.size + sizeT x.type + 1
 | ⟨_, _, _, _⟩ => by simp only [sizeFd]

theorem sizeT_eq : ∀ x : GType, sizeT x = sizeF x.fields + 1
 | ⟨_, _, _⟩ => by simp only [sizeT]

theorem sizeF_len : ∀ l : List GField, l.length ≤ sizeF l
 | [] => by simp [sizeF]
 | x :: l => by
  have := sizeF_len l
  have := sizeFd_eq x
  simp only [sizeF, List.length_cons]; omega

theorem wrap_succ {i n : Nat} (h : i < n) (hn : n < 1000000000) : IntKind.i64.wrap ((i : Int) + 1) = ((i + 1 : Nat) : Int) := by rw [w64 (by omega) (by omega)]; omega

theorem at_nat {α : Type} {xs : List α} {i : Nat} (h : i < xs.length) : at? xs (i : Int) = some xs[i] := by unfold at?; simp [h]

theorem dec_lt {i n : Nat} (h : i < n) : decide ((i : Int) < (n : Int)) = true := by simp [h]

def fnm (fs : List GField) (i : Nat) : ByteArray := (fs[i]?.map (·.name)).getD ByteArray.empty

theorem fnm_at {fs : List GField} {i : Nat} (h : i < fs.length) : fnm fs i = fs[i].name := by simp [fnm, h]

def noName (fs : List GField) (i : Nat) : Bool := !isName (fnm fs i)
def eqN (fs : List GField) (i j : Nat) : Bool := (fnm fs j).toList == (fnm fs i).toList
def twin (fs : List GField) (i : Nat) : Bool := (first (eqN fs i) 0 i).isSome
def badN (fs : List GField) : Bool := (first (noName fs) 0 fs.length).isSome
def dupN (fs : List GField) : Bool := (first (twin fs) 0 fs.length).isSome

structure FsOk (fs : List GField) : Prop where
 len : fs.length < 1000000000
 nam : ∀ f ∈ fs, f.name.size < 1000000000

theorem fsOk_of {fs : List GField} (h : sizeF fs < 1000000000) : FsOk fs :=
 ⟨by have := sizeF_len fs; omega, fun f hf => by have := sizeF_mem hf; have := sizeFd_eq f; omega⟩

theorem eta_f : ∀ f : GField, FieldP.mk f.id f.name f.need (GType.mk f.type.kind f.type.scale f.type.fields) = f
 | ⟨_, _, _, ⟨_, _, _⟩⟩ => rfl
theorem eta_t : ∀ t : GType, GType.mk t.kind t.scale t.fields = t
 | ⟨_, _, _⟩ => rfl

theorem contains1 {fs : List GField} (ho : FsOk fs) : slices_ContainsFunc_api_Field_api_Field_of_value_fields_1 fs = some (badN fs) := by
 have hl := search (f := fun k i => slices_IndexFunc_api_Field_api_Field_of_value_fields_1_l1 fs k (i : Int)) (n := fs.length) (P := noName fs) (A := fun i => some (i : Int)) (B := some (-1)) (fun k i hi => by
   show slices_IndexFunc_api_Field_api_Field_of_value_fields_1_l1 fs (k + 1) (i : Int) = _
   rw [slices_IndexFunc_api_Field_api_Field_of_value_fields_1_l1, dec_lt hi, ift_true, at_nat hi, bnd_eq, value_fields_1, vName _ (ho.nam _ (List.getElem_mem hi)), wrap_succ hi ho.len]
   simp only [bnd_eq, ift_ite, noName, fnm_at hi])
  (fun k => by rw [slices_IndexFunc_api_Field_api_Field_of_value_fields_1_l1]; simp only [Int.lt_irrefl, decide_false, ift_false]; rfl) BIG 0 (Nat.zero_le _) (by rw [big_val]; have := ho.len; omega)
 have hl : slices_IndexFunc_api_Field_api_Field_of_value_fields_1_l1 fs BIG (0 : Int) = _ := hl
 unfold slices_ContainsFunc_api_Field_api_Field_of_value_fields_1 slices_IndexFunc_api_Field_api_Field_of_value_fields_1
 rw [hl]
 unfold badN
 cases first (noName fs) 0 fs.length with
 | none => rfl
 | some j => simp [bnd_eq]

theorem contains2 {fs : List GField} (ho : FsOk fs) {i : Nat} (hi : i < fs.length) : slices_ContainsFunc_api_Field_api_Field_of_value_fields_2 ((fs.drop (0 : Int).toNat).take ((i : Int).toNat - (0 : Int).toNat)) fs[i] = some (twin fs i, fs[i]) := by
 have ep : (fs.drop (0 : Int).toNat).take ((i : Int).toNat - (0 : Int).toNat) = fs.take i := by simp
 rw [ep]
 have hlen : (fs.take i).length = i := by simp; omega
 have hl := search (f := fun k j => slices_IndexFunc_api_Field_api_Field_of_value_fields_2_l1 (fs.take i) k fs[i].id fs[i].name fs[i].need fs[i].type.kind fs[i].type.scale fs[i].type.fields (j : Int)) (n := i) (P := eqN fs i) (A := fun j => some ((j : Int), fs[i])) (B := some (-1, fs[i])) (fun k j hj => by
   have hj' : j < (fs.take i).length := by rw [hlen]; exact hj
   have hjf : j < fs.length := by omega
   show slices_IndexFunc_api_Field_api_Field_of_value_fields_2_l1 (fs.take i) (k + 1) _ _ _ _ _ _ (j : Int) = _
   rw [slices_IndexFunc_api_Field_api_Field_of_value_fields_2_l1, dec_lt hj', ift_true, at_nat hj', bnd_eq, value_fields_2, wrap_succ hj (by have := ho.len; omega)]
   simp only [bnd_eq, ift_ite, eqN, fnm_at hi, fnm_at hjf, List.getElem_take, eta_f])
  (fun k => by
   show slices_IndexFunc_api_Field_api_Field_of_value_fields_2_l1 (fs.take i) (k + 1) _ _ _ _ _ _ (i : Int) = _
   rw [slices_IndexFunc_api_Field_api_Field_of_value_fields_2_l1]; simp only [hlen, Int.lt_irrefl, decide_false, ift_false, slices_IndexFunc_api_Field_api_Field_of_value_fields_2_j1, eta_f]) BIG 0 (Nat.zero_le _) (by rw [big_val]; have := ho.len; omega)
 have hl : slices_IndexFunc_api_Field_api_Field_of_value_fields_2_l1 (fs.take i) BIG _ _ _ _ _ _ (0 : Int) = _ := hl
 unfold slices_ContainsFunc_api_Field_api_Field_of_value_fields_2 slices_IndexFunc_api_Field_api_Field_of_value_fields_2
 rw [hl]
 unfold twin
 cases first (eqN fs i) 0 i with
 | none => rfl
 | some j => simp [bnd_eq]

theorem fields_loop {t : GType} (ho : FsOk t.fields) : value_fields_l1 t BIG (0 : Int) = some (if dupN t.fields = true then 5 else 0) := by
 have hl := search (f := fun k i => value_fields_l1 t k (i : Int)) (n := t.fields.length) (P := twin t.fields) (A := fun _ => some 5) (B := some 0) (fun k i hi => by
   show value_fields_l1 t (k + 1) (i : Int) = _
   rw [value_fields_l1, dec_lt hi, ift_true, at_nat hi, bnd_eq, grd_pos (by omega), contains2 ho hi, wrap_succ hi ho.len]
   simp only [bnd_eq, ift_ite])
  (fun k => by rw [value_fields_l1]; simp only [Int.lt_irrefl, decide_false, ift_false]; rfl) BIG 0 (Nat.zero_le _) (by rw [big_val]; have := ho.len; omega)
 have hl : value_fields_l1 t BIG (0 : Int) = _ := hl
 rw [hl]
 unfold dupN
 cases first (twin t.fields) 0 t.fields.length <;> rfl

theorem shape_l3 {t : GType} (ho : FsOk t.fields) (rec2 : Int → Option Int) {i : Nat} (hi : i < t.fields.length) : ref1_shape_l3 rec2 t (i : Int) BIG (0 : Int) = if twin t.fields i = true then some 5 else rec2 ((i + 1 : Nat) : Int) := by
 have hl := search (f := fun k j => ref1_shape_l3 rec2 t (i : Int) k (j : Int)) (n := i) (P := eqN t.fields i) (A := fun j => some 5) (B := rec2 ((i + 1 : Nat) : Int)) (fun k j hj => by
   have hjf : j < t.fields.length := by omega
   show ref1_shape_l3 rec2 t (i : Int) (k + 1) (j : Int) = _
   rw [ref1_shape_l3, dec_lt hj, ift_true, at_nat hjf, at_nat hi, wrap_succ hj (by have := ho.len; omega)]
   simp only [bnd_eq, ift_ite, eqN, fnm_at hi, fnm_at hjf])
  (fun k => by
   show ref1_shape_l3 rec2 t (i : Int) (k + 1) (i : Int) = _
   rw [ref1_shape_l3]; simp only [Int.lt_irrefl, decide_false, ift_false, ref1_shape_j5]; rw [wrap_succ hi ho.len]) BIG 0 (Nat.zero_le _) (by rw [big_val]; have := ho.len; omega)
 have hl : ref1_shape_l3 rec2 t (i : Int) BIG (0 : Int) = _ := hl
 rw [hl]
 unfold twin
 cases first (eqN t.fields i) 0 i <;> simp

theorem shape_l2 {t : GType} (ho : FsOk t.fields) : ref1_shape_l2 t BIG (0 : Int) = some (if dupN t.fields = true then 5 else 0) := by
 have hl := search (f := fun k i => ref1_shape_l2 t k (i : Int)) (n := t.fields.length) (P := twin t.fields) (A := fun _ => some 5) (B := some 0) (fun k i hi => by
   show ref1_shape_l2 t (k + 1) (i : Int) = _
   rw [ref1_shape_l2, dec_lt hi, ift_true, shape_l3 ho _ hi])
  (fun k => by rw [ref1_shape_l2]; simp only [Int.lt_irrefl, decide_false, ift_false]; rfl) BIG 0 (Nat.zero_le _) (by rw [big_val]; have := ho.len; omega)
 have hl : ref1_shape_l2 t BIG (0 : Int) = _ := hl
 rw [hl]
 unfold dupN
 cases first (twin t.fields) 0 t.fields.length <;> rfl

theorem shape_l1 {t : GType} (ho : FsOk t.fields) : ref1_shape_l1 t BIG (0 : Int) = some (if badN t.fields = true then 4 else if dupN t.fields = true then 5 else 0) := by
 have hl := search (f := fun k i => ref1_shape_l1 t k (i : Int)) (n := t.fields.length) (P := noName t.fields) (A := fun _ => some 4) (B := some (if dupN t.fields = true then 5 else 0)) (fun k i hi => by
   show ref1_shape_l1 t (k + 1) (i : Int) = _
   rw [ref1_shape_l1, dec_lt hi, ift_true, at_nat hi, bnd_eq, rName _ (ho.nam _ (List.getElem_mem hi)), wrap_succ hi ho.len]
   simp only [bnd_eq, ift_ite, noName, fnm_at hi])
  (fun k => by rw [ref1_shape_l1]; simp only [Int.lt_irrefl, decide_false, ift_false, ref1_shape_j4]; exact shape_l2 ho) BIG 0 (Nat.zero_le _) (by rw [big_val]; have := ho.len; omega)
 have hl : ref1_shape_l1 t BIG (0 : Int) = _ := hl
 rw [hl]
 unfold badN
 cases first (noName t.fields) 0 t.fields.length <;> rfl

def vf (t : GType) : Int :=
 if t.kind = 6 then (if t.fields.length ≠ 1 ∨ (fnm t.fields 0).size ≠ 0 then 1 else 0)
 else if t.kind ≠ 7 then (if 0 < t.fields.length then 1 else 0)
 else if t.fields.length = 0 then 1 else if badN t.fields = true then 4 else if dupN t.fields = true then 5 else 0

def scBad (t : GType) : Prop := t.scale ≠ 0 ∧ (t.kind ≠ 3 ∨ t.scale < 0 ∨ 12 < t.scale)
instance (t : GType) : Decidable (scBad t) := by unfold scBad; infer_instance

def shp (t : GType) : Int := if t.kind < 1 ∨ 7 < t.kind then 3 else if scBad t then 1 else vf t

theorem vFields {t : GType} (ho : FsOk t.fields) : value_fields t = some (vf t) := by
 unfold value_fields value_fields_j1 vf
 rw [contains1 ho, fields_loop ho]
 simp only [bnd_eq, ift_ite]
 by_cases h6 : t.kind = 6
 ·simp only [h6, beq_self_eq_true, if_true]
  by_cases hl : t.fields.length = 1
  ·have : (0 : Nat) < t.fields.length := by omega
   rw [show at? t.fields (0 : Int) = some t.fields[0] from at_nat (i := 0) this]
   simp only [hl, bnd_eq, size_zero, fnm_at this]
   by_cases hz : t.fields[0].name.size = 0 <;> simp [hz]
  ·simp [hl, show ((t.fields.length : Int) = 1) = False from eq_false (by omega)]
 ·by_cases h7 : t.kind = 7
  ·simp [h7]
   by_cases hl : t.fields = []
   ·simp [hl]
   ·simp [hl]
    by_cases hb : badN t.fields = true
    ·simp [hb]
    ·simp [hb]
  ·simp [h6, h7]
   by_cases hl : 0 < t.fields.length
   ·simp [hl]
   ·simp [hl]

theorem rShape {t : GType} (ho : FsOk t.fields) : ref1_shape t = some (shp t) := by
 have hj3 : ∀ x, ref1_shape_j3 t x = if x = true then some 1 else if t.kind ≠ 7 then some 0 else some (if badN t.fields = true then 4 else if dupN t.fields = true then 5 else 0) := by
  intro x
  unfold ref1_shape_j3
  rw [shape_l1 ho]
  cases x <;> simp [ift_ite]
 have hleaf : ref1_Leaf t.kind = some (decide (t.kind ≠ 6 ∧ t.kind ≠ 7)) := by
  unfold ref1_Leaf ref1_Leaf_j1
  by_cases h6 : t.kind = 6 <;> by_cases h7 : t.kind = 7 <;> simp [h6, h7, ift_ite]
 have hj1 : ∀ x, ref1_shape_j1 t x = if x = true then some 1 else some (vf t) := by
  intro x
  cases x with
  | true => rfl
  | false =>
   unfold ref1_shape_j1 ref1_shape_j2 vf
   rw [hleaf]
   simp only [ift_ite, bnd_eq, hj3]
   by_cases h6 : t.kind = 6
   ·simp only [h6, beq_self_eq_true, if_true]
    by_cases hl : t.fields.length = 1
    ·have : (0 : Nat) < t.fields.length := by omega
     rw [show at? t.fields (0 : Int) = some t.fields[0] from at_nat (i := 0) this]
     simp only [hl, bnd_eq, size_zero, fnm_at this]
     by_cases hz : t.fields[0].name.size = 0 <;> simp [hz]
    ·simp [hl, show ((t.fields.length : Int) = 1) = False from eq_false (by omega)]
   ·by_cases h7 : t.kind = 7
    ·simp [h7]
     by_cases hl : t.fields = []
     ·simp [hl]
     ·simp [hl]
    ·simp [h6, h7]
     by_cases hl : 0 < t.fields.length
     ·simp [hl]
     ·simp [hl]
 unfold ref1_shape shp ref1_within ref1_within_j1
 simp only [ift_ite, hj1, bnd_eq]
 by_cases a1 : t.kind < 1
 ·simp [a1, show ¬ (1 : Int) ≤ t.kind by omega, bnd_eq]
 ·by_cases a2 : 7 < t.kind
  ·simp [a2, show (1 : Int) ≤ t.kind by omega, show ¬ t.kind ≤ 7 by omega, bnd_eq]
  ·simp only [a1, a2, show (1 : Int) ≤ t.kind by omega, show t.kind ≤ 7 by omega, decide_true, or_self, if_false, if_true, Bool.not_true, bnd_eq]
   unfold scBad
   by_cases h3 : t.kind = 3
   ·by_cases b1 : t.scale < 0
    ·simp [h3, b1, show ¬ (0 : Int) ≤ t.scale by omega, show t.scale ≠ 0 by omega, bnd_eq]
    ·by_cases b2 : 12 < t.scale
     ·simp [h3, b1, b2, show (0 : Int) ≤ t.scale by omega, show ¬ t.scale ≤ 12 by omega, show t.scale ≠ 0 by omega, bnd_eq]
     ·simp [h3, b1, b2, show (0 : Int) ≤ t.scale by omega, show t.scale ≤ 12 by omega, bnd_eq]
   ·by_cases b0 : t.scale = 0 <;> simp [h3, b0]

end Go.Proofs.YtmaemlebpjnmoaaDoor
namespace Go.Proofs.YtmaemlebpjnmoaaDoor
open Go Go.SX Go.SX.Cal
set_option linter.unusedVariables false
set_option linter.unusedSimpArgs false

inductive V : GType → Prop where
 | mk (t : GType) (h1 : shp t = 0) (h2 : ∀ f, f ∈ t.fields → V f.type) : V t

theorem leafV (t : GType) : value_leaf t = some (decide (t.kind ≠ 6 ∧ t.kind ≠ 7)) := by
 unfold value_leaf value_leaf_j1
 by_cases h6 : t.kind = 6 <;> by_cases h7 : t.kind = 7 <;> simp [h6, h7, ift_ite]

theorem leafR (k : Int) : ref1_Leaf k = some (decide (k ≠ 6 ∧ k ≠ 7)) := by
 unfold ref1_Leaf ref1_Leaf_j1
 by_cases h6 : k = 6 <;> by_cases h7 : k = 7 <;> simp [h6, h7, ift_ite]

theorem checkJ2 {t : GType} (ho : FsOk t.fields) (q : GType → Int → GChecker → Option (Int × GChecker)) (l z : Int) :
  value_checker_check_j2 q t l z = if shp t ≠ 0 then some (shp t, ⟨z⟩) else value_checker_check_l1 q t l BIG z 0 := by
 have hj4 : ∀ x, value_checker_check_j4 q t l z x = if x = true then some (1, ⟨z⟩) else if vf t ≠ 0 then some (vf t, ⟨z⟩) else value_checker_check_l1 q t l BIG z 0 := by
  intro x
  unfold value_checker_check_j4
  rw [vFields ho]
  cases x <;> simp [ift_ite, bnd_eq]
 unfold value_checker_check_j2 value_checker_check_j3 shp
 simp only [ift_ite, hj4]
 by_cases a1 : t.kind < 1
 ·simp [a1]
 ·by_cases a2 : 7 < t.kind
  ·simp [a1, a2]
  ·simp only [a1, a2, decide_false, or_self, if_false, Bool.false_eq_true]
   unfold scBad
   by_cases b0 : t.scale = 0
   ·simp [b0]
   ·by_cases h3 : t.kind = 3
    ·by_cases b1 : t.scale < 0
     ·simp [b0, h3, b1]
     ·by_cases b2 : 12 < t.scale
      ·simp [b0, h3, b1, b2]
      ·simp [b0, h3, b1, b2]
    ·simp [b0, h3]

theorem checkR1 {t : GType} (ho : FsOk t.fields) (q : GType → Int → Int → Option (Int × Int)) (l z : Int) :
  ref1_checkType_j1 q t l z = if shp t ≠ 0 then some (shp t, z) else ref1_checkType_l1 q t l BIG z 0 := by
 unfold ref1_checkType_j1
 rw [rShape ho]
 simp [ift_ite, bnd_eq]

theorem V_of {t : GType} (h : shp t = 0) (hf : ∀ f ∈ t.fields, V f.type) : V t := .mk t h hf

theorem check_loop {t : GType} (ho : FsOk t.fields) (l : Int) (hl0 : -10 ≤ l) (hl1 : l ≤ 10) (q1 : GType → Int → GChecker → Option (Int × GChecker)) (q2 : GType → Int → Int → Option (Int × Int))
  (hq : ∀ f ∈ t.fields, ∀ n : Int, 0 ≤ n → n ≤ 40 → ∃ e m, q1 f.type (l + 1) ⟨n⟩ = some (e, ⟨m⟩) ∧ q2 f.type (l + 1) n = some (e, m) ∧ 0 ≤ m ∧ m ≤ 40 ∧ (e = 0 → V f.type)) :
  ∀ (kk i : Nat) (n : Int), i ≤ t.fields.length → t.fields.length - i < kk → 0 ≤ n → n ≤ 40 →
   ∃ e m, value_checker_check_l1 q1 t l kk n (i : Int) = some (e, ⟨m⟩) ∧ ref1_checkType_l1 q2 t l kk n (i : Int) = some (e, m) ∧ 0 ≤ m ∧ m ≤ 40 ∧ (e = 0 → ∀ j, i ≤ j → ∀ h : j < t.fields.length, V t.fields[j].type) := by
 intro kk
 induction kk with
 | zero => intro i n _ h; omega
 | succ kk ih =>
  intro i n hi hk n0 n1
  rw [value_checker_check_l1, ref1_checkType_l1]
  by_cases h : i = t.fields.length
  ·subst h
   simp only [Int.lt_irrefl, decide_false, ift_false]
   exact ⟨0, n, rfl, rfl, n0, n1, fun _ j h1 h2 => by omega⟩
  ·have hlt : i < t.fields.length := by omega
   rw [dec_lt hlt, ift_true, ift_true, at_nat hlt, bnd_eq, bnd_eq, w64 (x := l + 1) (by omega) (by omega), wrap_succ hlt ho.len]
   obtain ⟨e, m, h1, h2, h3, h4, h5⟩ := hq _ (List.getElem_mem hlt) n n0 n1
   rw [h1, h2]
   simp only [bnd_eq, ift_ite]
   by_cases he : e = 0
   ·obtain ⟨e', m', g1, g2, g3, g4, g5⟩ := ih (i + 1) m (by omega) (by omega) h3 h4
    refine ⟨e', m', by simpa [he] using g1, by simpa [he] using g2, g3, g4, fun h0 j hj hjl => ?_⟩
    by_cases hji : j = i
    ·subst hji; exact h5 he
    ·exact g5 h0 j (by omega) hjl
   ·exact ⟨e, m, by simp [he], by simp [he], h3, h4, fun h0 => absurd h0 he⟩

theorem check_eq : ∀ (d k : Nat) (t : GType) (l n : Int), l = 5 - d → d ≤ 5 → d < k → sizeT t < 1000000000 → 0 ≤ n → n ≤ 40 →
  ∃ e m, value_checker_check k t l ⟨n⟩ = some (e, ⟨m⟩) ∧ ref1_checkType k t l n = some (e, m) ∧ 0 ≤ m ∧ m ≤ 40 ∧ (e = 0 → V t) := by
 intro d
 induction d with
 | zero =>
  intro k t l n hl _ hk hs n0 n1
  obtain ⟨k, rfl⟩ : ∃ k', k = k' + 1 := ⟨k - 1, by omega⟩
  have hl4 : (4 : Int) < l := by omega
  rw [value_checker_check, ref1_checkType]
  simp only [hl4, decide_true, ift_true, value_checker_check_j1]
  exact ⟨7, n, rfl, rfl, n0, n1, fun h => by omega⟩
 | succ d ih =>
  intro k t l n hl hd hk hs n0 n1
  obtain ⟨k, rfl⟩ : ∃ k', k = k' + 1 := ⟨k - 1, by omega⟩
  have hl4 : ¬ (4 : Int) < l := by omega
  have hsz := sizeT_eq t
  have ho : FsOk t.fields := fsOk_of (by omega)
  have hq : ∀ f ∈ t.fields, ∀ n : Int, 0 ≤ n → n ≤ 40 → ∃ e m, value_checker_check k f.type (l + 1) ⟨n⟩ = some (e, ⟨m⟩) ∧ ref1_checkType k f.type (l + 1) n = some (e, m) ∧ 0 ≤ m ∧ m ≤ 40 ∧ (e = 0 → V f.type) := by
   intro f hf n n0 n1
   have h1 := sizeF_mem hf
   have h2 := sizeFd_eq f
   exact ih k f.type (l + 1) n (by omega) (by omega) (by omega) (by omega) n0 n1
  have main : ∀ z : Int, 0 ≤ z → z ≤ 40 → ∃ e m, value_checker_check_j2 (value_checker_check k) t l z = some (e, ⟨m⟩) ∧ ref1_checkType_j1 (ref1_checkType k) t l z = some (e, m) ∧ 0 ≤ m ∧ m ≤ 40 ∧ (e = 0 → V t) := by
   intro z z0 z1
   rw [checkJ2 ho, checkR1 ho]
   by_cases hsh : shp t = 0
   ·obtain ⟨e, m, h1, h2, h3, h4, h5⟩ := check_loop ho l (by omega) (by omega) _ _ hq BIG 0 z (Nat.zero_le _) (by rw [big_val]; have := ho.len; omega) z0 z1
    refine ⟨e, m, by simpa [hsh] using h1, by simpa [hsh] using h2, h3, h4, fun he => V_of hsh (fun f hf => ?_)⟩
    obtain ⟨j, hj, rfl⟩ := List.getElem_of_mem hf
    exact h5 he j (Nat.zero_le _) hj
   ·exact ⟨shp t, z, by simp [hsh], by simp [hsh], z0, z1, fun h => absurd h hsh⟩
  rw [value_checker_check, ref1_checkType]
  simp only [hl4, decide_false, ift_false, leafV, leafR, bnd_eq, value_checker_check_j1]
  by_cases hleaf : t.kind ≠ 6 ∧ t.kind ≠ 7
  ·simp only [hleaf, ne_eq, not_false_eq_true, and_self, decide_true, ift_true]
   by_cases h40 : n = 40
   ·simp only [h40, beq_self_eq_true, ift_true]
    exact ⟨7, 40, rfl, rfl, by omega, by omega, fun h => by omega⟩
   ·have : (n == 40) = false := by simpa using h40
    simp only [this, ift_false]
    rw [w64 (x := n + 1) (by omega) (by omega)]
    exact main (n + 1) (by omega) (by omega)
  ·simp only [hleaf, decide_false, ift_false]
   exact main n n0 n1

theorem checkType_eq (t : GType) (hs : sizeT t < 1000000000) : ∃ e, value_CheckType t = some e ∧ ref1_CheckType t = some e ∧ (e = 0 → V t) := by
 obtain ⟨e, m, h1, h2, h3, h4, h5⟩ := check_eq 4 BIG t 1 0 (by omega) (by omega) (by rw [big_val]; omega) hs (by omega) (by omega)
 refine ⟨e, ?_, ?_, h5⟩
 ·unfold value_CheckType; rw [h1]; rfl
 ·unfold ref1_CheckType; rw [h2]; rfl

end Go.Proofs.YtmaemlebpjnmoaaDoor
namespace Go.Proofs.YtmaemlebpjnmoaaDoor
open Go Go.SX Go.SX.Cal Go.Lib
set_option linter.unusedVariables false
set_option linter.unusedSimpArgs false

mutual
def sizeV : GValue → Nat
 | ⟨_, _, _, s, it⟩ => s.size + sizeL it + 1
def sizeL : List GValue → Nat
 | [] => 0
 | x :: l => sizeV x + sizeL l
end

theorem sizeV_eq : ∀ v : GValue, sizeV v = v.s.size + sizeL v.items + 1
 | ⟨_, _, _, _, _⟩ => by simp only [sizeV]

theorem sizeL_mem : ∀ {l : List GValue} {x : GValue}, x ∈ l → sizeV x ≤ sizeL l
 | [], _, h => by cases h
 | y :: l, x, h => by
  simp only [sizeL]
  rcases List.mem_cons.1 h with rfl | h
  ·omega
  ·have := sizeL_mem h; omega

theorem sizeV_pos : ∀ v : GValue, 1 ≤ sizeV v
 | ⟨_, _, _, _, _⟩ => by simp only [sizeV]; omega

theorem sizeL_len : ∀ l : List GValue, l.length ≤ sizeL l
 | [] => by simp [sizeL]
 | x :: l => by
  have := sizeL_len l
  have := sizeV_pos x
  simp only [sizeL, List.length_cons]; omega

theorem ift_and (b x : Bool) : ift b (some x) (some false) = some (b && x) := by cases b <;> rfl
theorem bnd_some' {α β : Type} (a : α) (f : α → Option β) : bnd (some a) f = f a := rfl

theorem first_skip {P : Nat → Bool} {n : Nat} : ∀ (d i : Nat), i + d ≤ n → (∀ j, i ≤ j → j < i + d → P j = false) → first P i n = first P (i + d) n
 | 0, i, _, _ => rfl
 | d + 1, i, h, hP => by
  rw [first_step (by omega), hP i (by omega) (by omega)]
  simp only [Bool.false_eq_true, if_false]
  rw [first_skip d (i + 1) (by omega) (fun j h1 h2 => hP j (by omega) (by omega))]
  congr 1; omega

theorem decode_skip (s : ByteArray) (i : Nat) (h : i < s.size) (hb : ¬ byt s i < 128) :
  1 ≤ (Utf8.decode s i).2 ∧ i + (Utf8.decode s i).2 ≤ s.size ∧ ∀ j, i ≤ j → j < i + (Utf8.decode s i).2 → 128 ≤ byt s j := by
 have e := get_byt s i h
 have one : ∀ j, i ≤ j → j < i + 1 → 128 ≤ byt s j := fun j h1 h2 => by
  have : j = i := by omega
  subst this; omega
 have ct : ∀ k, (decide (i + k < s.size) && (s.get! (i + k)).toNat / 64 == 2) = true → i + k < s.size ∧ 128 ≤ byt s (i + k) := by
  intro k hk
  simp only [Bool.and_eq_true, decide_eq_true_eq, beq_iff_eq] at hk
  rw [get_byt s _ hk.1] at hk
  exact ⟨hk.1, by omega⟩
 unfold Utf8.decode
 simp only [Nat.add_zero, e, if_neg hb]
 split
 ·rename_i h1
  simp only [Bool.and_eq_true] at h1
  obtain ⟨l1, b1⟩ := ct 1 (by simpa using h1.2)
  split
  ·refine ⟨by simp, by simp only; omega, fun j h2 h3 => ?_⟩
   simp only at h3
   by_cases hj : j = i
   ·subst hj; omega
   ·have : j = i + 1 := by omega
    subst this; exact b1
  ·exact ⟨by simp, by simp only; omega, one⟩
 ·split
  ·rename_i h1
   simp only [Bool.and_eq_true] at h1
   obtain ⟨l1, b1⟩ := ct 1 (by simpa using h1.1.2)
   obtain ⟨l2, b2⟩ := ct 2 (by simpa using h1.2)
   split
   ·refine ⟨by simp, by simp only; omega, fun j h2 h3 => ?_⟩
    simp only at h3
    by_cases hj : j = i
    ·subst hj; omega
    ·by_cases hj : j = i + 1
     ·subst hj; exact b1
     ·have : j = i + 2 := by omega
      subst this; exact b2
   ·exact ⟨by simp, by simp only; omega, one⟩
  ·split
   ·rename_i h1
    simp only [Bool.and_eq_true] at h1
    obtain ⟨l1, b1⟩ := ct 1 (by simpa using h1.1.1.2)
    obtain ⟨l2, b2⟩ := ct 2 (by simpa using h1.1.2)
    obtain ⟨l3, b3⟩ := ct 3 (by simpa using h1.2)
    split
    ·refine ⟨by simp, by simp only; omega, fun j h2 h3 => ?_⟩
     simp only at h3
     by_cases hj : j = i
     ·subst hj; omega
     ·by_cases hj : j = i + 1
      ·subst hj; exact b1
      ·by_cases hj : j = i + 2
       ·subst hj; exact b2
       ·have : j = i + 3 := by omega
        subst this; exact b3
    ·exact ⟨by simp, by simp only; omega, one⟩
   ·exact ⟨by simp, by simp only; omega, one⟩

def ctl (s : ByteArray) (i : Nat) : Bool := decide (byt s i < 32) || byt s i == 127

theorem vtext_loop (s : ByteArray) : ∀ k i, i ≤ s.size → s.size - i < k → value_text_l1 s k i = some (first (ctl s) i s.size).isNone := by
 intro k
 induction k with
 | zero => intro i _ h; omega
 | succ k ih =>
  intro i hi hk
  rw [value_text_l1]
  by_cases h : i = s.size
  ·subst h
   rw [first_end]
   simp only [Nat.lt_irrefl, decide_false, ift_false, value_text_j3]
   rfl
  ·have hlt : i < s.size := by omega
   simp only [hlt, decide_true, ift_true, value_text_j2, ift_ite]
   by_cases hb : byt s i < 128
   ·rw [decode_lo s i hlt hb, first_step hlt]
    by_cases h1 : byt s i < 32
    ·have : ctl s i = true := by simp [ctl, h1]
     simp [this, show ((byt s i : Nat) : Int) < 32 by omega]
    ·have e1 : ¬ ((byt s i : Nat) : Int) < 32 := by omega
     by_cases h2 : byt s i = 127
     ·have : ctl s i = true := by simp [ctl, h2]
      simp [this, h2]
     ·have : ctl s i = false := by simp [ctl, h1, h2]
      have e2 : ¬ ((byt s i : Nat) : Int) = 127 := by omega
      simp only [this, Int.ofNat_eq_natCast, e1, decide_false, Bool.false_eq_true, if_false, beq_iff_eq, e2]
      exact ih (i + 1) (by omega) (by omega)
   ·have h1 := decode_hi s i hlt hb
    obtain ⟨h2, h3, h4⟩ := decode_skip s i hlt hb
    have e1 : ¬ (((Utf8.decode s i).1 : Nat) : Int) < 32 := by omega
    have e2 : ¬ (((Utf8.decode s i).1 : Nat) : Int) = 127 := by omega
    simp only [Int.ofNat_eq_natCast, e1, decide_false, Bool.false_eq_true, if_false, beq_iff_eq, e2]
    rw [ih _ h3 (by omega), first_skip _ i h3 (fun j a b => by
     have := h4 j a b
     simp only [ctl, Bool.or_eq_false_iff, decide_eq_false_iff_not, beq_eq_false_iff_ne]
     omega)]
    simp

theorem rchar_loop (s : ByteArray) (hs : s.size < 1000000000) : ∀ k i, i ≤ s.size → s.size - i < k → ref1_characters_l1 s k (i : Int) = some (first (ctl s) i s.size).isNone := by
 intro k
 induction k with
 | zero => intro i _ h; omega
 | succ k ih =>
  intro i hi hk
  rw [ref1_characters_l1]
  by_cases h : i = s.size
  ·subst h
   rw [first_end]
   simp only [Int.lt_irrefl, decide_false, ift_false, ref1_characters_j3]
   rfl
  ·have hlt : i < s.size := by omega
   have g : (0 : Int) ≤ (i : Int) ∧ (i : Int) < (s.size : Int) := ⟨by omega, by omega⟩
   have e : ((s.data.toList.getD (i : Int).toNat 0).toNat : Int) = (byt s i : Int) := by simp [byt]
   simp only [dec_lt hlt, ift_true, grd, if_pos g, bnd_some', ref1_characters_j2, ift_ite, e]
   rw [first_step hlt, wrap_succ hlt hs]
   by_cases h1 : byt s i < 32
   ·have : ctl s i = true := by simp [ctl, h1]
    simp [this, show ((byt s i : Nat) : Int) < 32 by omega]
   ·have e1 : ¬ ((byt s i : Nat) : Int) < 32 := by omega
    by_cases h2 : byt s i = 127
    ·have : ctl s i = true := by simp [ctl, h2]
     simp [this, h2]
    ·have : ctl s i = false := by simp [ctl, h1, h2]
     have e2 : ¬ ((byt s i : Nat) : Int) = 127 := by omega
     simp only [this, e1, decide_false, Bool.false_eq_true, if_false, beq_iff_eq, e2]
     exact ih (i + 1) (by omega) (by omega)

def textOk (s : ByteArray) : Bool := decide (s.size ≤ 256) && (validD s.data.toList && (first (ctl s) 0 s.size).isNone)

theorem validS (s : ByteArray) (hs : s.size < 1000000000) : utf8_ValidString s = some (validD s.data.toList) := by
 unfold utf8_ValidString grd
 rw [if_pos (by omega)]

theorem vText (s : ByteArray) (hs : s.size < 1000000000) : value_text s = some (textOk s) := by
 unfold value_text value_text_j1 textOk
 rw [validS s hs, vtext_loop s BIG 0 (by omega) (by rw [big_val]; omega)]
 by_cases h : s.size ≤ 256
 ·have : ¬ (256 : Int) < (s.size : Int) := by omega
  simp only [this, h, decide_false, decide_true, ift_false, bnd_some']
  cases validD s.data.toList <;> rfl
 ·have : (256 : Int) < (s.size : Int) := by omega
  simp only [this, h, decide_false, decide_true, ift_true]
  rfl

theorem rChars (s : ByteArray) (hs : s.size < 1000000000) : ref1_characters s = some (textOk s) := by
 have := rchar_loop s hs BIG 0 (by omega) (by rw [big_val]; omega)
 unfold ref1_characters ref1_characters_j1 textOk
 rw [validS s hs, show (0 : Int) = ((0 : Nat) : Int) from rfl, this]
 by_cases h : s.size ≤ 256
 ·have e : ¬ (256 : Int) < (s.size : Int) := by omega
  simp only [e, h, decide_false, decide_true, bnd_some']
  cases validD s.data.toList <;> rfl
 ·have e : (256 : Int) < (s.size : Int) := by omega
  simp only [e, h, decide_false, decide_true, bnd_some']
  cases validD s.data.toList <;> rfl

theorem vWithin (a b c : Int) : value_within a b c = some (decide (b ≤ a) && decide (a ≤ c)) := by
 unfold value_within value_within_j1; exact ift_and _ _
theorem rWithin (a b c : Int) : ref1_within a b c = some (decide (b ≤ a) && decide (a ≤ c)) := by
 unfold ref1_within ref1_within_j1; exact ift_and _ _

def plainOk (v : GValue) : Bool :=
 let bare := v.n == 0 && v.scale == 0
 let noS := decide (v.s.size = 0)
 let noI := ((v.items.length : Int) == 0)
 if v.kind = 0 then bare && (noS && noI)
 else if v.kind = 1 then (decide (0 ≤ v.n) && decide (v.n ≤ 1)) && (v.scale == 0 && (noS && noI))
 else if v.kind = 2 then (decide (-999999999999999999 ≤ v.n) && decide (v.n ≤ 999999999999999999)) && (v.scale == 0 && (noS && noI))
 else if v.kind = 3 then (decide (-999999999999999999 ≤ v.n) && decide (v.n ≤ 999999999999999999)) && ((decide (0 ≤ v.scale) && decide (v.scale ≤ 12)) && (noS && noI))
 else if v.kind = 4 then bare && (textOk v.s && noI)
 else if v.kind = 5 then (decide (-62135596800 ≤ v.n) && decide (v.n ≤ 253402300799)) && (v.scale == 0 && (noS && noI))
 else if v.kind = 6 then bare && (noS && decide ((v.items.length : Int) ≤ 64))
 else if v.kind = 7 then bare && (noS && decide ((0 : Int) < (v.items.length : Int)))
 else false

theorem vPlain (v : GValue) (hs : v.s.size < 1000000000) : value_plain v = some (plainOk v) := by
 have j : ∀ x, value_plain_j1 v x = some (if v.kind = 0 then x && (decide (v.s.size = 0) && ((v.items.length : Int) == 0))
   else if v.kind = 1 then (decide (0 ≤ v.n) && decide (v.n ≤ 1)) && (v.scale == 0 && (decide (v.s.size = 0) && ((v.items.length : Int) == 0)))
   else if v.kind = 2 then (decide (-999999999999999999 ≤ v.n) && decide (v.n ≤ 999999999999999999)) && (v.scale == 0 && (decide (v.s.size = 0) && ((v.items.length : Int) == 0)))
   else if v.kind = 3 then (decide (-999999999999999999 ≤ v.n) && decide (v.n ≤ 999999999999999999)) && ((decide (0 ≤ v.scale) && decide (v.scale ≤ 12)) && (decide (v.s.size = 0) && ((v.items.length : Int) == 0)))
   else if v.kind = 4 then x && (textOk v.s && ((v.items.length : Int) == 0))
   else if v.kind = 5 then (decide (-62135596800 ≤ v.n) && decide (v.n ≤ 253402300799)) && (v.scale == 0 && (decide (v.s.size = 0) && ((v.items.length : Int) == 0)))
   else if v.kind = 6 then x && (decide (v.s.size = 0) && decide ((v.items.length : Int) ≤ 64))
   else if v.kind = 7 then x && (decide (v.s.size = 0) && decide ((0 : Int) < (v.items.length : Int)))
   else false) := by
  intro x
  unfold value_plain_j1 value_plain_j2 value_plain_j3 value_plain_j4 value_plain_j5 value_plain_j6 value_plain_j7 value_plain_j8 value_plain_j9
  simp only [vWithin, vText v.s hs, bnd_some', ift_and, size_zero]
  simp only [ift_ite, beq_iff_eq]
  repeat' split
  all_goals (first | rfl | simp_all)
 unfold value_plain
 rw [j, j]
 unfold plainOk
 cases v.n == 0
 ·simp only [ift_false, Bool.false_and]
 ·simp only [ift_true, Bool.true_and]

theorem rAlone (v : GValue) (hs : v.s.size < 1000000000) : ref1_alone v = some (plainOk v) := by
 have j : ∀ x, ref1_alone_j1 v x = some (if v.kind = 0 then x && (v.n == 0 && v.scale == 0)
   else if v.kind = 1 then x && ((decide (0 ≤ v.n) && decide (v.n ≤ 1)) && v.scale == 0)
   else if v.kind = 2 then x && ((decide (-999999999999999999 ≤ v.n) && decide (v.n ≤ 999999999999999999)) && v.scale == 0)
   else if v.kind = 3 then x && ((decide (-999999999999999999 ≤ v.n) && decide (v.n ≤ 999999999999999999)) && (decide (0 ≤ v.scale) && decide (v.scale ≤ 12)))
   else if v.kind = 4 then ((v.items.length : Int) == 0) && (v.n == 0 && (v.scale == 0 && textOk v.s))
   else if v.kind = 5 then x && ((decide (-62135596800 ≤ v.n) && decide (v.n ≤ 253402300799)) && v.scale == 0)
   else if v.kind = 6 then decide (v.s.size = 0) && (v.n == 0 && (v.scale == 0 && decide ((v.items.length : Int) ≤ 64)))
   else if v.kind = 7 then decide (v.s.size = 0) && (v.n == 0 && (v.scale == 0 && decide ((0 : Int) < (v.items.length : Int))))
   else false) := by
  intro x
  unfold ref1_alone_j1 ref1_alone_j2 ref1_alone_j3 ref1_alone_j4 ref1_alone_j5 ref1_alone_j6 ref1_alone_j7 ref1_alone_j8 ref1_alone_j9
  simp only [rWithin, rChars v.s hs, bnd_some', ift_and, size_zero]
  simp only [ift_ite, beq_iff_eq]
  repeat' split
  all_goals (first | rfl | simp_all)
 unfold ref1_alone
 rw [j, j, size_zero]
 unfold plainOk
 generalize decide (v.s.size = 0) = a
 generalize ((v.items.length : Int) == 0) = b
 generalize textOk v.s = t
 generalize (v.n == 0) = c
 generalize (v.scale == 0) = d
 generalize (decide (0 ≤ v.n) && decide (v.n ≤ 1)) = e1
 generalize (decide (-999999999999999999 ≤ v.n) && decide (v.n ≤ 999999999999999999)) = e2
 generalize (decide (0 ≤ v.scale) && decide (v.scale ≤ 12)) = e3
 generalize (decide (-62135596800 ≤ v.n) && decide (v.n ≤ 253402300799)) = e4
 generalize decide ((v.items.length : Int) ≤ 64) = e5
 generalize decide ((0 : Int) < (v.items.length : Int)) = e6
 cases a <;> simp only [ift_false, ift_true] <;> congr 1 <;> repeat' split
 all_goals (first | rfl | (cases b <;> cases c <;> cases d <;> simp <;> done) | (simp [Bool.and_comm, Bool.and_assoc, Bool.and_left_comm]))

def soundL (f : GValue → Int → Bool × Int) : List GValue → Int → Bool × Int
 | [], z => (true, z)
 | v :: l, z => if (f v z).1 = true then soundL f l (f v z).2 else (false, (f v z).2)

def cnt (v : GValue) (z : Int) : Int := if v.kind = 0 then z else z + 1

def soundD : Nat → GValue → Int → Bool × Int
 | 0, v, z => (false, cnt v z)
 | d + 1, v, z => if 256 < cnt v z ∨ plainOk v = false then (false, cnt v z) else soundL (soundD d) v.items (cnt v z)

def soundB (v : GValue) : Bool := (soundD 4 v 0).1

theorem soundL_le {f : GValue → Int → Bool × Int} : ∀ {l : List GValue} {z : Int}, (∀ v ∈ l, ∀ z, 0 ≤ z → z ≤ 256 → 0 ≤ (f v z).2 ∧ (f v z).2 ≤ 257 ∧ ((f v z).1 = true → (f v z).2 ≤ 256)) → 0 ≤ z → z ≤ 256 →
  0 ≤ (soundL f l z).2 ∧ (soundL f l z).2 ≤ 257 ∧ ((soundL f l z).1 = true → (soundL f l z).2 ≤ 256)
 | [], z, _, h0, h1 => by simp only [soundL]; omega
 | v :: l, z, hf, h0, h1 => by
  obtain ⟨a, b, c⟩ := hf v (by simp) z h0 h1
  simp only [soundL]
  split
  ·rename_i h
   exact soundL_le (fun x hx => hf x (by simp [hx])) a (c h)
  ·exact ⟨a, b, fun h => by cases h⟩

theorem soundD_le : ∀ (d : Nat) (v : GValue) (z : Int), 0 ≤ z → z ≤ 256 → 0 ≤ (soundD d v z).2 ∧ (soundD d v z).2 ≤ 257 ∧ ((soundD d v z).1 = true → (soundD d v z).2 ≤ 256)
 | 0, v, z, h0, h1 => by
  have hc : z ≤ cnt v z ∧ cnt v z ≤ z + 1 := by unfold cnt; split <;> omega
  simp only [soundD]
  exact ⟨by omega, by omega, fun h => by cases h⟩
 | d + 1, v, z, h0, h1 => by
  have hc : z ≤ cnt v z ∧ cnt v z ≤ z + 1 := by unfold cnt; split <;> omega
  simp only [soundD]
  split
  ·exact ⟨by omega, by omega, fun h => by cases h⟩
  ·rename_i h
   have : ¬ 256 < cnt v z := fun e => h (.inl e)
   exact soundL_le (fun x _ => soundD_le d x) (by omega) (by omega)

theorem cnt_wrap (v : GValue) (z : Int) (h0 : 0 ≤ z) (h1 : z ≤ 256) {β : Type} (f : Int → Option β) : ift (v.kind != (0 : Int)) (f (IntKind.i64.wrap (z + 1))) (f z) = f (cnt v z) := by
 rw [w64 (by omega) (by omega)]
 unfold cnt
 by_cases h : v.kind = 0
 ·simp [h, ift_ite]
 ·simp [h, ift_ite]

theorem vsound_loop {d : Nat} (l : Int) (q : GValue → Int → Int → Option (Bool × Int)) (xs : List GValue) (hl : xs.length < 1000000000)
  (hq : ∀ v ∈ xs, ∀ z, 0 ≤ z → z ≤ 256 → q v l z = some (!(soundD d v z).1, (soundD d v z).2)) : ∀ (k i : Nat) (z : Int), i ≤ xs.length → xs.length - i < k → 0 ≤ z → z ≤ 256 →
  ∃ r : Int, slices_IndexFunc_api_Value_api_Value_of_value_sound_1_l1 q xs l k z (i : Int) = some (r, (soundL (soundD d) (xs.drop i) z).2) ∧ decide (0 ≤ r) = !(soundL (soundD d) (xs.drop i) z).1 := by
 intro k
 induction k with
 | zero => intro i z _ h; omega
 | succ k ih =>
  intro i z hi hk h0 h1
  rw [slices_IndexFunc_api_Value_api_Value_of_value_sound_1_l1]
  by_cases h : i = xs.length
  ·subst h
   simp only [Int.lt_irrefl, decide_false, ift_false, List.drop_length, soundL, slices_IndexFunc_api_Value_api_Value_of_value_sound_1_j1]
   exact ⟨-1, rfl, rfl⟩
  ·have hlt : i < xs.length := by omega
   have hm : xs[i] ∈ xs := List.getElem_mem hlt
   simp only [dec_lt hlt, ift_true, at_nat hlt, bnd_some', hq _ hm z h0 h1]
   rw [List.drop_eq_getElem_cons hlt]
   simp only [soundL]
   obtain ⟨a, b, c⟩ := soundD_le d xs[i] z h0 h1
   cases hs : (soundD d xs[i] z).1 with
   | false =>
    simp only [Bool.not_false, ift_true, Bool.false_eq_true, if_false]
    exact ⟨_, rfl, by simp⟩
   | true =>
    simp only [Bool.not_true, ift_false, if_true]
    rw [wrap_succ hlt hl]
    exact ih (i + 1) _ (by omega) (by omega) a (c hs)

theorem vsound_eq : ∀ (d k : Nat) (v : GValue) (z : Int), d ≤ 4 → 4 * d + 4 ≤ k → sizeV v < 1000000000 → 0 ≤ z → z ≤ 256 → value_sound k v (5 - d : Int) z = some (soundD d v z) := by
 intro d
 induction d with
 | zero =>
  intro k v z _ hk hs h0 h1
  obtain ⟨k, rfl⟩ : ∃ q, k = q + 1 := ⟨k - 1, by omega⟩
  rw [value_sound, cnt_wrap v z h0 h1]
  unfold value_sound_j1 value_sound_j2
  simp [soundD, ift_true]
 | succ d ih =>
  intro k v z hd hk hs h0 h1
  obtain ⟨k, rfl⟩ : ∃ q, k = q + 4 := ⟨k - 4, by omega⟩
  have hsz := sizeV_eq v
  have hlen := sizeL_len v.items
  rw [value_sound, cnt_wrap v z h0 h1]
  unfold value_sound_j1 value_sound_j2
  rw [vPlain v (by omega)]
  have e4 : ¬ (4 : Int) < 5 - ((d + 1 : Nat) : Int) := by omega
  have hc : z ≤ cnt v z ∧ cnt v z ≤ z + 1 := by unfold cnt; split <;> omega
  simp only [e4, decide_false, ift_false, soundD, bnd_some']
  by_cases h2 : (256 : Int) < cnt v z
  ·simp [h2, ift_true]
  ·cases hp : plainOk v with
   | false => simp [h2, ift_true, ift_false]
   | true =>
    simp only [h2, decide_false, ift_false, Bool.not_true, false_or, Bool.true_eq_false, if_false]
    have := vsound_loop (d := d) (5 - ((d + 1 : Nat) : Int)) (value_sound_1_s (k + 1)) v.items (by omega) (by
     intro x hx z h0 h1
     have := sizeL_mem hx
     rw [value_sound_1_s, w64 (by omega) (by omega), show (5 - ((d + 1 : Nat) : Int) + 1) = 5 - (d : Int) by omega, ih k x z (by omega) (by omega) (by omega) h0 h1]
     rfl) BIG 0 (cnt v z) (by omega) (by rw [big_val]; omega) (by omega) (by omega)
    obtain ⟨r, e1, e2⟩ := this
    rw [show ((0 : Nat) : Int) = (0 : Int) from rfl] at e1
    rw [slices_ContainsFunc_api_Value_api_Value_of_value_sound_1, slices_IndexFunc_api_Value_api_Value_of_value_sound_1, e1]
    simp only [bnd_some', e2, List.drop_zero, Bool.not_not]

theorem vSound (v : GValue) (hs : sizeV v < 1000000000) : value_Sound v = some (soundB v) := by
 unfold value_Sound soundB
 have := vsound_eq 4 BIG v 0 (by omega) (by rw [big_val]; omega) hs (by omega) (by omega)
 rw [show (5 - ((4 : Nat) : Int)) = (1 : Int) from rfl] at this
 rw [this]; rfl

theorem rsound_loop {d : Nat} (l : Int) (hl0 : 0 ≤ l) (hl1 : l ≤ 100) (q : GValue → Int → Int → Option (Bool × Int)) (v : GValue) (hl : v.items.length < 1000000000)
  (hq : ∀ x ∈ v.items, ∀ z, 0 ≤ z → z ≤ 256 → q x (l + 1) z = some (soundD d x z)) : ∀ (k i : Nat) (z : Int), i ≤ v.items.length → v.items.length - i < k → 0 ≤ z → z ≤ 256 →
  ref1_sound_l1 q v l k z (i : Int) = some (soundL (soundD d) (v.items.drop i) z) := by
 intro k
 induction k with
 | zero => intro i z _ h; omega
 | succ k ih =>
  intro i z hi hk h0 h1
  rw [ref1_sound_l1]
  by_cases h : i = v.items.length
  ·subst h
   simp only [Int.lt_irrefl, decide_false, ift_false, List.drop_length, soundL, ref1_sound_j3]
  ·have hlt : i < v.items.length := by omega
   have hm : v.items[i] ∈ v.items := List.getElem_mem hlt
   rw [w64 (x := l + 1) (by omega) (by omega)]
   simp only [dec_lt hlt, ift_true, at_nat hlt, bnd_some', hq _ hm z h0 h1]
   rw [List.drop_eq_getElem_cons hlt]
   simp only [soundL]
   obtain ⟨a, b, c⟩ := soundD_le d v.items[i] z h0 h1
   cases hs : (soundD d v.items[i] z).1 with
   | false => simp only [Bool.not_false, ift_true, Bool.false_eq_true, if_false]
   | true =>
    simp only [Bool.not_true, ift_false, if_true]
    rw [wrap_succ hlt hl]
    exact ih (i + 1) _ (by omega) (by omega) a (c hs)

theorem rsound_eq : ∀ (d k : Nat) (v : GValue) (z : Int), d ≤ 4 → d + 1 ≤ k → sizeV v < 1000000000 → 0 ≤ z → z ≤ 256 → ref1_sound k v (5 - d : Int) z = some (soundD d v z) := by
 intro d
 induction d with
 | zero =>
  intro k v z _ hk hs h0 h1
  obtain ⟨k, rfl⟩ : ∃ q, k = q + 1 := ⟨k - 1, by omega⟩
  rw [ref1_sound, cnt_wrap v z h0 h1]
  unfold ref1_sound_j1 ref1_sound_j2
  simp [soundD, ift_true]
 | succ d ih =>
  intro k v z hd hk hs h0 h1
  obtain ⟨k, rfl⟩ : ∃ q, k = q + 1 := ⟨k - 1, by omega⟩
  have hsz := sizeV_eq v
  have hlen := sizeL_len v.items
  rw [ref1_sound, cnt_wrap v z h0 h1]
  unfold ref1_sound_j1 ref1_sound_j2
  rw [rAlone v (by omega)]
  have e4 : ¬ (4 : Int) < 5 - ((d + 1 : Nat) : Int) := by omega
  have hc : z ≤ cnt v z ∧ cnt v z ≤ z + 1 := by unfold cnt; split <;> omega
  simp only [e4, decide_false, ift_false, soundD, bnd_some']
  by_cases h2 : (256 : Int) < cnt v z
  ·simp [h2, ift_true]
  ·cases hp : plainOk v with
   | false => simp [h2, ift_true, ift_false]
   | true =>
    simp only [h2, decide_false, ift_false, Bool.not_true, false_or, Bool.true_eq_false, if_false]
    have := rsound_loop (d := d) (5 - ((d + 1 : Nat) : Int)) (by omega) (by omega) (ref1_sound k) v (by omega) (by
     intro x hx z h0 h1
     have := sizeL_mem hx
     rw [show (5 - ((d + 1 : Nat) : Int) + 1) = 5 - (d : Int) by omega]
     exact ih k x z (by omega) (by omega) (by omega) h0 h1) BIG 0 (cnt v z) (by omega) (by rw [big_val]; omega) (by omega) (by omega)
    rw [show ((0 : Nat) : Int) = (0 : Int) from rfl, List.drop_zero] at this
    exact this

theorem rSound (v : GValue) (hs : sizeV v < 1000000000) : ref1_Sound v = some (soundB v) := by
 unfold ref1_Sound soundB
 have := rsound_eq 4 BIG v 0 (by omega) (by rw [big_val]; omega) hs (by omega) (by omega)
 rw [show (5 - ((4 : Nat) : Int)) = (1 : Int) from rfl] at this
 rw [this]; rfl

end Go.Proofs.YtmaemlebpjnmoaaDoor
namespace Go.Proofs.YtmaemlebpjnmoaaDoor
open Go Go.SX Go.SX.Cal Go.Lib
set_option linter.unusedVariables false
set_option linter.unusedSimpArgs false

def Snd (d : Nat) (v : GValue) : Prop := ∃ z, (soundD d v z).1 = true

theorem soundL_mem {f : GValue → Int → Bool × Int} : ∀ {l : List GValue} {z : Int}, (soundL f l z).1 = true → ∀ x ∈ l, ∃ z', (f x z').1 = true
 | [], _, _, x, hx => by cases hx
 | v :: l, z, h, x, hx => by
  simp only [soundL] at h
  by_cases hv : (f v z).1 = true
  ·rw [if_pos hv] at h
   rcases List.mem_cons.1 hx with rfl | hx
   ·exact ⟨z, hv⟩
   ·exact soundL_mem h x hx
  ·rw [if_neg hv] at h; cases h

theorem Snd.zero {v : GValue} (h : Snd 0 v) : False := by obtain ⟨z, h⟩ := h; cases h

theorem Snd.succ {d : Nat} {v : GValue} (h : Snd (d + 1) v) : plainOk v = true ∧ ∀ x ∈ v.items, Snd d x := by
 obtain ⟨z, h⟩ := h
 simp only [soundD] at h
 by_cases hc : 256 < cnt v z ∨ plainOk v = false
 ·rw [if_pos hc] at h; cases h
 ·rw [if_neg hc] at h
  refine ⟨?_, fun x hx => soundL_mem h x hx⟩
  cases hp : plainOk v with
  | true => rfl
  | false => exact absurd (.inr hp) hc

theorem plain_scale {v : GValue} (h : plainOk v = true) (hk : v.kind ≠ 3) : v.scale = 0 := by
 unfold plainOk at h
 simp only at h
 split at h
 ·simp at h; exact h.1.2
 ·split at h
  ·simp at h; exact h.2.1
  ·split at h
   ·simp at h; exact h.2.1
   ·split at h
    ·simp at h; exact h.1.2
    ·split at h
     ·simp at h; exact h.2.1
     ·split at h
      ·simp at h; exact h.1.2
      ·split at h
       ·simp at h; exact h.1.2
       ·cases h

theorem plain_items {v : GValue} (h : plainOk v = true) (h6 : v.kind ≠ 6) (h7 : v.kind ≠ 7) : v.items = [] := by
 unfold plainOk at h
 simp only at h
 rw [← List.length_eq_zero_iff]
 split at h
 ·simp at h; simp [h.2.2]
 ·split at h
  ·simp at h; simp [h.2.2.2]
  ·split at h
   ·simp at h; simp [h.2.2.2]
   ·split at h
    ·simp at h; simp [h.2.2.2]
    ·split at h
     ·simp at h; simp [h.2.2]
     ·split at h
      ·simp at h; simp [h.2.2.2]
      ·cases h

theorem V.sh {t : GType} (h : V t) : shp t = 0 := by cases h; assumption
theorem V.fs {t : GType} (h : V t) : ∀ f, f ∈ t.fields → V f.type := by cases h; assumption

theorem V.scale {t : GType} (h : V t) (hk : t.kind ≠ 3) : t.scale = 0 := by
 have := h.sh
 unfold shp at this
 split at this
 ·cases this
 ·by_cases h2 : scBad t
  ·rw [if_pos h2] at this; cases this
  ·by_cases hs : t.scale = 0
   ·exact hs
   ·exact absurd ⟨hs, .inl hk⟩ h2

theorem V.list {t : GType} (h : V t) (hk : t.kind = 6) : t.fields.length = 1 := by
 have := h.sh
 unfold shp at this
 split at this
 ·cases this
 ·by_cases h2 : scBad t
  ·rw [if_pos h2] at this; cases this
  ·rw [if_neg h2] at this
   unfold vf at this
   rw [if_pos hk] at this
   split at this
   ·cases this
   ·rename_i h3
    by_cases hl : t.fields.length = 1
    ·exact hl
    ·exact absurd (.inl hl) h3

def ft (t : GType) (i : Nat) : GType := (t.fields[if t.kind = 6 then 0 else i]?.map (·.type)).getD ⟨0, 0, []⟩
def nd (t : GType) (i : Nat) : Bool := (t.fields[if t.kind = 6 then 0 else i]?.map (·.need)).getD false
def iv (v : GValue) (i : Nat) : GValue := v.items[i]?.getD ⟨0, 0, 0, ByteArray.empty, []⟩

theorem iv_at {v : GValue} {i : Nat} (h : i < v.items.length) : v.items[i] = iv v i := by simp [iv, h]

def ofD : Nat → GType → GValue → Bool
 | 0, _, _ => true
 | d + 1, t, v =>
  if v.kind = 0 then true
  else if v.kind ≠ t.kind then false
  else if v.kind = 3 then v.scale == t.scale
  else if v.kind = 7 ∧ t.fields.length ≠ v.items.length then false
  else (first (fun i => !ofD d (ft t i) (iv v i)) 0 v.items.length).isNone

def Fit (t : GType) (v : GValue) : Prop := ∀ i, i < v.items.length → (if t.kind = 6 then 0 else i) < t.fields.length

theorem fit_of {d : Nat} {t : GType} {v : GValue} (hs : Snd (d + 1) v) (ht : V t) (h : ofD (d + 1) t v = true) : Fit t v ∧ ∀ i, i < v.items.length → ofD d (ft t i) (iv v i) = true := by
 obtain ⟨hp, _⟩ := hs.succ
 by_cases h67 : v.kind = 6 ∨ v.kind = 7
 ·simp only [ofD] at h
  rw [if_neg (by omega)] at h
  by_cases hk : v.kind = t.kind
  ·rw [if_neg (fun hh => hh hk), if_neg (by omega)] at h
   by_cases hl : v.kind = 7 ∧ t.fields.length ≠ v.items.length
   ·rw [if_pos hl] at h; cases h
   ·rw [if_neg hl] at h
    have hn := Option.isNone_iff_eq_none.1 h
    rw [first_none] at hn
    refine ⟨fun i hi => ?_, fun i hi => by simpa using hn i (Nat.zero_le _) hi⟩
    by_cases h6 : t.kind = 6
    ·rw [if_pos h6, ht.list h6]; omega
    ·rw [if_neg h6]
     have : ¬ t.fields.length ≠ v.items.length := fun hh => hl ⟨by omega, hh⟩
     omega
  ·rw [if_pos hk] at h; cases h
 ·have : v.items = [] := plain_items hp (by omega) (by omega)
  refine ⟨fun i hi => ?_, fun i hi => ?_⟩
  ·rw [this] at hi; simp at hi
  ·rw [this] at hi; simp at hi

theorem ft_at {t : GType} {i : Nat} (h : (if t.kind = 6 then 0 else i) < t.fields.length) : ∃ f : GField, f ∈ t.fields ∧ t.fields[if t.kind = 6 then 0 else i]? = some f ∧ f.type = ft t i ∧ f.need = nd t i := by
 refine ⟨t.fields[if t.kind = 6 then 0 else i], List.getElem_mem h, List.getElem?_eq_getElem h, ?_, ?_⟩
 ·unfold ft; rw [List.getElem?_eq_getElem h]; rfl
 ·unfold nd; rw [List.getElem?_eq_getElem h]; rfl

theorem at_some {α : Type} {xs : List α} {i : Nat} {x : α} (h : xs[i]? = some x) : at? xs (i : Int) = some x := by unfold at?; simp [h]

theorem iv_mem {v : GValue} {i : Nat} (h : i < v.items.length) : iv v i ∈ v.items := by rw [← iv_at h]; exact List.getElem_mem h

theorem of_eq : ∀ (d k k' : Nat) (t : GType) (v : GValue), Snd d v → V t → sizeV v < 1000000000 → sizeT t < 1000000000 → 4 * d + 1 ≤ k → d + 1 ≤ k' →
  value_of k t v = some (ofD d t v) ∧ ref1_of k' t v = some (ofD d t v) := by
 intro d
 induction d with
 | zero => intro k k' t v hs; exact hs.zero.elim
 | succ d ih =>
  intro k k' t v hs ht hv hT hk hk'
  obtain ⟨k, rfl⟩ : ∃ q, k = q + 4 := ⟨k - 4, by omega⟩
  obtain ⟨k', rfl⟩ : ∃ q, k' = q + 1 := ⟨k' - 1, by omega⟩
  obtain ⟨hp, hi⟩ := hs.succ
  have hsz := sizeV_eq v
  have hlen := sizeL_len v.items
  have hsT := sizeT_eq t
  have hlF := sizeF_len t.fields
  rw [value_of, ref1_of]
  simp only [ofD, ref1_of_j1]
  by_cases h0 : v.kind = 0
  ·simp [h0, ift_ite]
  ·by_cases hkk : v.kind = t.kind
   ·have sc : v.kind ≠ 3 → v.scale = t.scale := fun h => by rw [plain_scale hp h, ht.scale (by omega)]
    -- the items
    have room : ¬ (v.kind = 7 ∧ t.fields.length ≠ v.items.length) → Fit t v := by
     intro hn i hi
     by_cases h6 : t.kind = 6
     ·rw [if_pos h6, ht.list h6]; omega
     ·rw [if_neg h6]
      by_cases h7 : v.kind = 7
      ·have : ¬ t.fields.length ≠ v.items.length := fun hh => hn ⟨h7, hh⟩
       omega
      ·rw [plain_items hp (by omega) h7] at hi; simp at hi
    have sub : Fit t v → ∀ i, i < v.items.length → ∃ f : GField, t.fields[if t.kind = 6 then 0 else i]? = some f ∧ f.type = ft t i ∧ value_of k (ft t i) (iv v i) = some (ofD d (ft t i) (iv v i)) ∧ ref1_of k' (ft t i) (iv v i) = some (ofD d (ft t i) (iv v i)) := by
     intro hf i hi'
     obtain ⟨f, f1, f2, f3, _⟩ := ft_at (hf i hi')
     have m1 := sizeL_mem (iv_mem hi')
     have m2 := sizeF_mem f1
     have m3 := sizeFd_eq f
     rw [f3] at m3
     obtain ⟨a, b⟩ := ih k k' (ft t i) (iv v i) (hi _ (iv_mem hi')) (by rw [← f3]; exact ht.fs f f1) (by omega) (by omega) (by omega) (by omega)
     exact ⟨f, f2, f3, a, b⟩
    have ref : Fit t v → ref1_of_l1 (ref1_of k') t v BIG (0 : Int) = some (first (fun i => !ofD d (ft t i) (iv v i)) 0 v.items.length).isNone := by
     intro hf
     have := search (f := fun k i => ref1_of_l1 (ref1_of k') t v k (i : Int)) (n := v.items.length) (P := fun i => !ofD d (ft t i) (iv v i)) (A := fun _ => some false) (B := some true) (fun kk i hi' => by
      obtain ⟨f, f2, f3, _, f5⟩ := sub hf i hi'
      simp only [ref1_of_l1, dec_lt hi', ift_true, ref1_of_j3]
      have e : ift (t.kind == (6 : Int)) (bnd (at? t.fields (0 : Int)) fun e1 => bnd (at? v.items (i : Int)) fun e2 => bnd (ref1_of k' e1.type e2) fun r1 => ift (!r1) (some false) (ref1_of_l1 (ref1_of k') t v kk (IntKind.i64.wrap ((i : Int) + 1))))
        (bnd (at? t.fields (i : Int)) fun e1 => bnd (at? v.items (i : Int)) fun e2 => bnd (ref1_of k' e1.type e2) fun r1 => ift (!r1) (some false) (ref1_of_l1 (ref1_of k') t v kk (IntKind.i64.wrap ((i : Int) + 1)))) =
        (bnd (at? t.fields ((if t.kind = 6 then 0 else i : Nat) : Int)) fun e1 => bnd (at? v.items (i : Int)) fun e2 => bnd (ref1_of k' e1.type e2) fun r1 => ift (!r1) (some false) (ref1_of_l1 (ref1_of k') t v kk (IntKind.i64.wrap ((i : Int) + 1)))) := by
       by_cases h6 : t.kind = 6 <;> simp [h6, ift_ite]
      rw [e, at_some f2, bnd_some', at_nat hi', bnd_some', f3, iv_at hi', f5, bnd_some', wrap_succ hi' (by omega), ift_ite]) (fun kk => by simp [ref1_of_l1, ift_ite, ref1_of_j4]) BIG 0 (Nat.zero_le _) (by rw [big_val]; omega)
     rw [show ((0 : Nat) : Int) = (0 : Int) from rfl] at this
     rw [this]
     cases first (fun i => !ofD d (ft t i) (iv v i)) 0 v.items.length <;> rfl
    have e0 : (v.kind == (0 : Int)) = false := by simp [h0]
    have e1 : (v.kind != t.kind) = false := by simp [hkk]
    have e2 : ¬ v.kind ≠ t.kind := fun h => h hkk
    simp only [e0, e1, e2, ift_false, h0, if_false]
    by_cases h3 : v.kind = 3
    ·have hni : v.items = [] := plain_items hp (by omega) (by omega)
     refine ⟨by simp [h3, ift_ite], ?_⟩
     have hr := ref (fun i hi => by rw [hni] at hi; simp at hi)
     rw [hni] at hr
     simp only [List.length_nil, first_end, Option.isNone_none] at hr
     simp only [h3, if_true, ref1_of_j2]
     by_cases hsc : v.scale = t.scale
     ·have : t.kind ≠ 7 := by omega
      simp [hsc, ift_ite, hr, this]
     ·simp [hsc, ift_ite]
    ·have hsc := sc h3
     have e3 : (v.kind == (3 : Int)) = false := by simp [h3]
     have e4 : (v.scale != t.scale) = false := by simp [hsc]
     simp only [e3, e4, ift_false, h3, if_false]
     by_cases hl : v.kind = 7 ∧ t.fields.length ≠ v.items.length
     ·have e6 : (v.kind == (6 : Int)) = false := by simp [hl.1]
      have e7 : (v.kind == (7 : Int)) = true := by simp [hl.1]
      have t7 : (t.kind == (7 : Int)) = true := by rw [← hkk]; exact e7
      have n1 : ((t.fields.length : Int) != (v.items.length : Int)) = true := by simp; omega
      have n2 : ((v.items.length : Int) != (t.fields.length : Int)) = true := by simp; omega
      rw [slices_EqualFunc_api_Field_api_Value_api_Field_api_Value_of_value_of_2]
      simp [e6, e7, t7, n1, n2, hl, ift_true, ift_false, ref1_of_j2, bnd_some']
     ·have hf := room hl
      have hr := ref hf
      simp only [hl, if_false]
      refine ⟨?_, ?_⟩
      ·by_cases h6 : v.kind = 6
       ·have e6 : (v.kind == (6 : Int)) = true := by simp [h6]
        have t6 : t.kind = 6 := by omega
        have := search (f := fun kk i => slices_IndexFunc_api_Value_api_Value_of_value_of_1_l1 (value_of_1_s (k + 1)) v.items t.kind t.scale t.fields kk (i : Int)) (n := v.items.length) (P := fun i => !ofD d (ft t i) (iv v i)) (A := fun i => some (i : Int)) (B := some (-1)) (fun kk i hi' => by
         obtain ⟨f, f2, f3, f4, _⟩ := sub hf i hi'
         rw [if_pos t6] at f2
         simp only [slices_IndexFunc_api_Value_api_Value_of_value_of_1_l1, dec_lt hi', ift_true, at_nat hi', bnd_some', value_of_1_s]
         rw [show (0 : Int) = ((0 : Nat) : Int) from rfl, at_some f2, bnd_some', f3, iv_at hi', f4, bnd_some', bnd_some', wrap_succ hi' (by omega), ift_ite]) (fun kk => by simp [slices_IndexFunc_api_Value_api_Value_of_value_of_1_l1, ift_ite, slices_IndexFunc_api_Value_api_Value_of_value_of_1_j1]) BIG 0 (Nat.zero_le _) (by rw [big_val]; omega)
        rw [show ((0 : Nat) : Int) = (0 : Int) from rfl] at this
        rw [e6, ift_true, slices_ContainsFunc_api_Value_api_Value_of_value_of_1, slices_IndexFunc_api_Value_api_Value_of_value_of_1, this]
        cases first (fun i => !ofD d (ft t i) (iv v i)) 0 v.items.length <;> simp [bnd_some']
       ·have e6 : (v.kind == (6 : Int)) = false := by simp [h6]
        by_cases h7 : v.kind = 7
        ·have e7 : (v.kind == (7 : Int)) = true := by simp [h7]
         have hlen' : t.fields.length = v.items.length := by
          by_cases hh : t.fields.length = v.items.length
          ·exact hh
          ·exact absurd ⟨h7, hh⟩ hl
         have n1 : ((t.fields.length : Int) != (v.items.length : Int)) = false := by simp; omega
         have := search (f := fun kk i => slices_EqualFunc_api_Field_api_Value_api_Field_api_Value_of_value_of_2_l1 (value_of_2 (k + 2)) t.fields v.items kk (i : Int)) (n := v.items.length) (P := fun i => !ofD d (ft t i) (iv v i)) (A := fun _ => some false) (B := some true) (fun kk i hi' => by
          obtain ⟨f, f2, f3, _, _⟩ := sub hf i hi'
          obtain ⟨f', f1', f2', f3', _⟩ := ft_at (hf i hi')
          have m1 := sizeL_mem (iv_mem hi')
          have m2 := sizeF_mem f1'
          have m3 := sizeFd_eq f'
          rw [f3'] at m3
          have f4 := (ih (k + 1) (d + 1) (ft t i) (iv v i) (hi _ (iv_mem hi')) (by rw [← f3']; exact ht.fs f' f1') (by omega) (by omega) (by omega) (by omega)).1
          rw [if_neg (by omega)] at f2
          have hi2 : i < t.fields.length := by omega
          simp only [slices_EqualFunc_api_Field_api_Value_api_Field_api_Value_of_value_of_2_l1, dec_lt hi2, ift_true, at_some f2, bnd_some', value_of_2]
          rw [at_nat hi', bnd_some', f3, iv_at hi', f4, bnd_some', bnd_some', wrap_succ hi' (by omega), ift_ite]) (fun kk => by simp [slices_EqualFunc_api_Field_api_Value_api_Field_api_Value_of_value_of_2_l1, ift_ite, slices_EqualFunc_api_Field_api_Value_api_Field_api_Value_of_value_of_2_j1, hlen']) BIG 0 (Nat.zero_le _) (by rw [big_val]; omega)
         rw [show ((0 : Nat) : Int) = (0 : Int) from rfl] at this
         rw [e6, e7, ift_false, ift_true, slices_EqualFunc_api_Field_api_Value_api_Field_api_Value_of_value_of_2, n1, ift_false, this]
         cases first (fun i => !ofD d (ft t i) (iv v i)) 0 v.items.length <;> rfl
        ·have e7 : (v.kind == (7 : Int)) = false := by simp [h7]
         rw [e6, e7, ift_false, ift_false, plain_items hp h6 h7]
         simp [first_end]
      ·have n2 : v.kind = 7 → ((v.items.length : Int) != (t.fields.length : Int)) = false := by
        intro h7
        have : ¬ t.fields.length ≠ v.items.length := fun hh => hl ⟨h7, hh⟩
        simp; omega
       simp only [ref1_of_j2]
       by_cases h7 : v.kind = 7
       ·have t7 : (t.kind == (7 : Int)) = true := by simp [← hkk, h7]
        rw [t7, ift_true, n2 h7, ift_false]; exact hr
       ·have t7 : (t.kind == (7 : Int)) = false := by simp [← hkk, h7]
        rw [t7, ift_false, ift_false]; exact hr
   ·have e0 : (v.kind == (0 : Int)) = false := by simp [h0]
    have e1 : (v.kind != t.kind) = true := by simp [hkk]
    simp [e0, e1, h0, hkk, ift_true, ift_false]

def lackD : Nat → GType → GValue → Bool
 | 0, _, _ => false
 | d + 1, t, v => (first (fun i => ((iv v i).kind == 0 && nd t i) || lackD d (ft t i) (iv v i)) 0 v.items.length).isSome

theorem lack_eq : ∀ (d k k' : Nat) (t : GType) (v : GValue), Snd d v → V t → ofD d t v = true → sizeV v < 1000000000 → sizeT t < 1000000000 → d + 1 ≤ k → d + 1 ≤ k' →
  value_lacks k t v = some (lackD d t v) ∧ ref1_missing k' t v = some (lackD d t v) := by
 intro d
 induction d with
 | zero => intro k k' t v hs; exact hs.zero.elim
 | succ d ih =>
  intro k k' t v hs ht ho hv hT hk hk'
  obtain ⟨k, rfl⟩ : ∃ q, k = q + 1 := ⟨k - 1, by omega⟩
  obtain ⟨k', rfl⟩ : ∃ q, k' = q + 1 := ⟨k' - 1, by omega⟩
  obtain ⟨hp, hi⟩ := hs.succ
  obtain ⟨hf, hof⟩ := fit_of hs ht ho
  have hsz := sizeV_eq v
  have hlen := sizeL_len v.items
  have hsT := sizeT_eq t
  have sub : ∀ i, i < v.items.length → ∃ f : GField, t.fields[if t.kind = 6 then 0 else i]? = some f ∧ f.type = ft t i ∧ f.need = nd t i ∧ value_lacks k (ft t i) (iv v i) = some (lackD d (ft t i) (iv v i)) ∧ ref1_missing k' (ft t i) (iv v i) = some (lackD d (ft t i) (iv v i)) := by
   intro i hi'
   obtain ⟨f, f1, f2, f3, f4⟩ := ft_at (hf i hi')
   have m1 := sizeL_mem (iv_mem hi')
   have m2 := sizeF_mem f1
   have m3 := sizeFd_eq f
   rw [f3] at m3
   obtain ⟨a, b⟩ := ih k k' (ft t i) (iv v i) (hi _ (iv_mem hi')) (by rw [← f3]; exact ht.fs f f1) (hof i hi') (by omega) (by omega) (by omega) (by omega)
   exact ⟨f, f2, f3, f4, a, b⟩
  rw [value_lacks, ref1_missing]
  simp only [lackD]
  refine ⟨?_, ?_⟩
  ·have := search (f := fun kk i => value_lacks_l1 (value_lacks k) t v kk (i : Int)) (n := v.items.length) (P := fun i => ((iv v i).kind == 0 && nd t i) || lackD d (ft t i) (iv v i)) (A := fun _ => some true) (B := some false) (fun kk i hi' => by
    obtain ⟨f, f2, f3, f4, f5, _⟩ := sub i hi'
    have e : value_field t (i : Int) = some f := by
     unfold value_field value_field_j1
     by_cases h6 : t.kind = 6
     ·rw [if_pos h6] at f2
      rw [show (0 : Int) = ((0 : Nat) : Int) from rfl, at_some f2]
      simp [h6, ift_ite, bnd_some']
     ·rw [if_neg h6] at f2
      rw [at_some f2]
      simp [h6, ift_ite, bnd_some']
    simp only [value_lacks_l1, dec_lt hi', ift_true, at_nat hi', bnd_some', e, value_lacks_j1, f3, f4, iv_at hi', f5, wrap_succ hi' (show v.items.length < 1000000000 by omega)]
    cases (iv v i).kind == 0 <;> cases nd t i <;> cases lackD d (ft t i) (iv v i) <;> rfl) (fun kk => by simp [value_lacks_l1, ift_ite, value_lacks_j2]) BIG 0 (Nat.zero_le _) (by rw [big_val]; omega)
   rw [show ((0 : Nat) : Int) = (0 : Int) from rfl] at this
   rw [this]
   cases first (fun i => ((iv v i).kind == 0 && nd t i) || lackD d (ft t i) (iv v i)) 0 v.items.length <;> rfl
  ·have := search (f := fun kk i => ref1_missing_l1 (ref1_missing k') t v kk (i : Int)) (n := v.items.length) (P := fun i => ((iv v i).kind == 0 && nd t i) || lackD d (ft t i) (iv v i)) (A := fun _ => some true) (B := some false) (fun kk i hi' => by
    obtain ⟨f, f2, f3, f4, _, f5⟩ := sub i hi'
    have e : ∀ j : Int, at? t.fields j = some f → ref1_missing_j1 (ref1_missing_l1 (ref1_missing k') t v kk) (ref1_missing k') t v (i : Int) j = if (((iv v i).kind == 0 && nd t i) || lackD d (ft t i) (iv v i)) = true then some true else ref1_missing_l1 (ref1_missing k') t v kk ((i + 1 : Nat) : Int) := by
     intro j hj
     simp only [ref1_missing_j1, ref1_missing_j2, hj, bnd_some', at_nat hi', f3, f4, iv_at hi', f5, wrap_succ hi' (show v.items.length < 1000000000 by omega)]
     cases (iv v i).kind == 0 <;> cases nd t i <;> cases lackD d (ft t i) (iv v i) <;> rfl
    simp only [ref1_missing_l1, dec_lt hi', ift_true]
    by_cases h6 : t.kind = 6
    ·rw [if_pos h6] at f2
     have e6 : (t.kind == (6 : Int)) = true := by simp [h6]
     rw [e6, ift_true]
     exact e 0 (at_some f2)
    ·rw [if_neg h6] at f2
     have e6 : (t.kind == (6 : Int)) = false := by simp [h6]
     rw [e6, ift_false]
     exact e i (at_some f2)) (fun kk => by simp [ref1_missing_l1, ift_ite, ref1_missing_j3]) BIG 0 (Nat.zero_le _) (by rw [big_val]; omega)
   rw [show ((0 : Nat) : Int) = (0 : Int) from rfl] at this
   rw [this]
   cases first (fun i => ((iv v i).kind == 0 && nd t i) || lackD d (ft t i) (iv v i)) 0 v.items.length <;> rfl

theorem Check_eq (t : GType) (v : GValue) (hv : sizeV v < 1000000000) (hT : sizeT t < 1000000000) : ∃ e, value_Check t v = some e ∧ ref1_Check t v = some e := by
 obtain ⟨e, h1, h2, h3⟩ := checkType_eq t hT
 unfold value_Check ref1_Check
 rw [h1, h2, vSound v hv, rSound v hv]
 simp only [bnd_some']
 by_cases he : e = 0
 ·subst he
  have ht := h3 rfl
  cases hs : soundB v with
  | false => exact ⟨1, rfl, rfl⟩
  | true =>
   have hS : Snd 4 v := ⟨0, hs⟩
   obtain ⟨a, b⟩ := of_eq 4 BIG BIG t v hS ht hv hT (by rw [big_val]; omega) (by rw [big_val]; omega)
   rw [a, b]
   cases ho : ofD 4 t v with
   | false => exact ⟨2, rfl, rfl⟩
   | true =>
    obtain ⟨c, d⟩ := lack_eq 4 BIG BIG t v hS ht ho hv hT (by rw [big_val]; omega) (by rw [big_val]; omega)
    rw [c, d]
    cases lackD 4 t v with
    | false => exact ⟨0, rfl, rfl⟩
    | true => exact ⟨9, rfl, rfl⟩
 ·have : (e != (0 : Int)) = true := by simp [he]
  rw [this]
  exact ⟨e, rfl, rfl⟩

theorem empty_size : ByteArray.empty.size = 0 := rfl

end Go.Proofs.YtmaemlebpjnmoaaDoor
namespace Go.Proofs.YtmaemlebpjnmoaaDoor
open Go Go.SX Go.SX.Cal
set_option linter.unusedVariables false
set_option linter.unusedSimpArgs false

theorem sizeF_drop {l : List GField} {i : Nat} (h : i < l.length) : sizeF (l.drop i) = sizeFd l[i] + sizeF (l.drop (i + 1)) := by
 rw [List.drop_eq_getElem_cons h]; simp only [sizeF]

theorem big_succ : BIG = 1152921504606846975 + 1 := rfl

end Go.Proofs.YtmaemlebpjnmoaaDoor
namespace Go.Proofs.YtmaemlebpjnmoaaDoor
open Go Go.SX Go.SX.Cal
set_option linter.unusedVariables false
set_option linter.unusedSimpArgs false

end Go.Proofs.YtmaemlebpjnmoaaDoor
namespace Go.Proofs.YtmaemlebpjnmoaaDoor
open Go Go.SX Go.SX.Cal
set_option linter.unusedVariables false
set_option linter.unusedSimpArgs false

mutual
def idsT : GType → List Int
 | ⟨_, _, fs⟩ => idsFs fs
def idsFs : List (FieldP GType) → List Int
 | [] => []
 | f :: l => idsFd f ++ idsFs l
def idsFd : FieldP GType → List Int
 | ⟨i, _, _, t⟩ => i :: idsT t
end

theorem idsT_eq : ∀ t : GType, idsT t = idsFs t.fields
 | ⟨_, _, _⟩ => by simp only [idsT]
theorem idsFd_eq : ∀ f : GField, idsFd f = f.id :: idsFs f.type.fields
 | ⟨_, _, _, t⟩ => by simp only [idsFd, idsT_eq]

theorem idsFs_drop {l : List GField} {i : Nat} (h : i < l.length) : idsFs (l.drop i) = idsFd l[i] ++ idsFs (l.drop (i + 1)) := by
 rw [List.drop_eq_getElem_cons h]; simp only [idsFs]

mutual
theorem idsT_len : ∀ t : GType, (idsT t).length ≤ sizeT t
 | ⟨_, _, fs⟩ => by simp only [idsT, sizeT]; have := idsFs_len fs; omega
theorem idsFs_len : ∀ l : List (FieldP GType), (idsFs l).length ≤ sizeF l
 | [] => by simp [idsFs]
 | f :: l => by
  simp only [idsFs, sizeF, List.length_append]
  have := idsFd_len f
  have := idsFs_len l
  omega
theorem idsFd_len : ∀ f : FieldP GType, (idsFd f).length ≤ sizeFd f
 | ⟨i, n, q, t⟩ => by
  simp only [idsFd, sizeFd, List.length_cons]
  have := idsT_len t
  omega
end

theorem ids_eq : ∀ (N k : Nat) (fs : List GField), sizeF fs ≤ N → N < k → sizeF fs < 1000000000 → ref1_Ids k fs = some (idsFs fs) := by
 intro N
 induction N with
 | zero =>
  intro k fs h hk _
  obtain ⟨k, rfl⟩ : ∃ x, k = x + 1 := ⟨k - 1, by omega⟩
  have hl := sizeF_len fs
  have : fs = [] := List.eq_nil_of_length_eq_zero (by omega)
  subst this
  rw [ref1_Ids, big_succ, ref1_Ids_l1]
  rfl
 | succ N ih =>
  intro k fs hN hk hs
  obtain ⟨k, rfl⟩ : ∃ x, k = x + 1 := ⟨k - 1, by omega⟩
  have hl := sizeF_len fs
  rw [ref1_Ids]
  have loop : ∀ (kk i : Nat) (acc : List Int), i ≤ fs.length → fs.length - i < kk → acc.length + sizeF (fs.drop i) ≤ sizeF fs → ref1_Ids_l1 (ref1_Ids k) fs kk acc (i : Int) = some (acc ++ idsFs (fs.drop i)) := by
   intro kk
   induction kk with
   | zero => intro i acc _ h; omega
   | succ kk ihk =>
    intro i acc hi hk2 hacc
    rw [ref1_Ids_l1]
    by_cases h : i = fs.length
    ·subst h
     simp only [Int.lt_irrefl, decide_false, ift_false, ref1_Ids_j1, List.drop_length, idsFs, List.append_nil]
    ·have h1 : i < fs.length := by omega
     have m1 := sizeF_mem (List.getElem_mem h1)
     have m2 := sizeFd_eq fs[i]
     have m3 := sizeT_eq fs[i].type
     have m4 := sizeF_drop h1
     have m5 := idsFs_len fs[i].type.fields
     rw [dec_lt h1, ift_true, at_nat h1, bnd_eq, grd_pos (by omega), ih k _ (by omega) (by omega) (by omega), bnd_eq, grd_pos (by simp; omega), wrap_succ h1 (by omega)]
     rw [ihk (i + 1) _ (by omega) (by omega) (by simp; omega), idsFs_drop h1, idsFd_eq]
     simp
  have := loop BIG 0 [] (Nat.zero_le _) (by rw [big_val]; omega) (by simp)
  simpa using this

def stp (x : Int) (m : List (Int × Int)) : Int × List (Int × Int) :=
 if x < 1 then (3, m) else
  let y := IntKind.i64.wrap ((mget (kInt .i64) m x).getD 0 + 1)
  if 1 < (mget (kInt .i64) (mset (kInt .i64) m x y) x).getD 0 then (5, mset (kInt .i64) m x y) else (0, mset (kInt .i64) m x y)

def scan : List Int → List (Int × Int) → Int × List (Int × Int)
 | [], m => (0, m)
 | x :: l, m => if (stp x m).1 ≠ 0 then stp x m else scan l (stp x m).2

theorem scan_app : ∀ (a b : List Int) (m : List (Int × Int)), scan (a ++ b) m = if (scan a m).1 ≠ 0 then scan a m else scan b (scan a m).2
 | [], b, m => by simp [scan]
 | x :: a, b, m => by
  simp only [List.cons_append, scan]
  by_cases h : (stp x m).1 = 0
  ·simp only [h, ne_eq, not_true, if_false]
   exact scan_app a b _
  ·simp [h]

theorem schema1_eq (f : GField) (m : List (Int × Int)) : value_CheckSchema_1 f m = some (stp f.id m) := by
 unfold value_CheckSchema_1 stp
 simp only [bnd_eq, ift_ite, decide_eq_true_eq]
 split
 ·rfl
 ·split <;> rfl

theorem walk_eq : ∀ (N k : Nat) (fs : List GField) (m : List (Int × Int)), sizeF fs ≤ N → N < k → sizeF fs < 1000000000 → value_Walk_of_value_CheckSchema_1 k fs m = some (scan (idsFs fs) m) := by
 intro N
 induction N with
 | zero =>
  intro k fs m h hk _
  obtain ⟨k, rfl⟩ : ∃ x, k = x + 1 := ⟨k - 1, by omega⟩
  have hl := sizeF_len fs
  have : fs = [] := List.eq_nil_of_length_eq_zero (by omega)
  subst this
  rw [value_Walk_of_value_CheckSchema_1, big_succ, value_Walk_of_value_CheckSchema_1_l1]
  rfl
 | succ N ih =>
  intro k fs m hN hk hs
  obtain ⟨k, rfl⟩ : ∃ x, k = x + 1 := ⟨k - 1, by omega⟩
  have hl := sizeF_len fs
  rw [value_Walk_of_value_CheckSchema_1]
  have loop : ∀ (kk i : Nat) (m : List (Int × Int)), i ≤ fs.length → fs.length - i < kk → value_Walk_of_value_CheckSchema_1_l1 (value_Walk_of_value_CheckSchema_1 k) fs kk m (i : Int) = some (scan (idsFs (fs.drop i)) m) := by
   intro kk
   induction kk with
   | zero => intro i m _ h; omega
   | succ kk ihk =>
    intro i m hi hk2
    rw [value_Walk_of_value_CheckSchema_1_l1]
    by_cases h : i = fs.length
    ·subst h
     simp only [Int.lt_irrefl, decide_false, ift_false, value_Walk_of_value_CheckSchema_1_j1, List.drop_length, idsFs, scan]
    ·have h1 : i < fs.length := by omega
     have m1 := sizeF_mem (List.getElem_mem h1)
     have m2 := sizeFd_eq fs[i]
     have m3 := sizeT_eq fs[i].type
     rw [dec_lt h1, ift_true, at_nat h1, bnd_eq, schema1_eq, bnd_eq, wrap_succ h1 (by omega), idsFs_drop h1, idsFd_eq, List.cons_append, scan, ih k _ _ (by omega) (by omega) (by omega)]
     simp only [bnd_eq, ift_ite]
     by_cases h0 : (stp fs[i].id m).1 = 0
     ·simp only [h0, bne_self_eq_false, Bool.false_eq_true, if_false, ne_eq, not_true, scan_app]
      by_cases h2 : (scan (idsFs fs[i].type.fields) (stp fs[i].id m).2).1 = 0
      ·simp only [h2, bne_self_eq_false, Bool.false_eq_true, if_false, not_true]
       exact ihk (i + 1) _ (by omega) (by omega)
      ·simp [h2]
     ·simp [h0]
  have := loop BIG 0 m (Nat.zero_le _) (by rw [big_val]; omega)
  simpa using this

end Go.Proofs.YtmaemlebpjnmoaaDoor
namespace Go.Proofs.YtmaemlebpjnmoaaDoor
open Go Go.SX Go.SX.Cal
set_option linter.unusedVariables false
set_option linter.unusedSimpArgs false

abbrev KI : KEnc Int := kInt .i64

theorem mget_set_same : ∀ (m : List (Int × Int)) (k v : Int), mget KI (mset KI m k v) k = some v
 | [], k, v => by simp [mset, mget, kInt]
 | (k', v') :: l, k, v => by
  by_cases h : k = k'
  ·simp [mset, mget, kInt, h]
  ·have hb : (k == k') = false := by simpa using h
   have := mget_set_same l k v
   simp only [mset, mget, kInt, hb, Bool.false_eq_true, if_false] at this ⊢
   exact this

theorem mget_set_other : ∀ (m : List (Int × Int)) (k v x : Int), x ≠ k → mget KI (mset KI m k v) x = mget KI m x
 | [], k, v, x, hx => by simp [mset, mget, kInt, hx]
 | (k', v') :: l, k, v, x, hx => by
  by_cases h : k = k'
  ·subst h
   simp [mset, mget, kInt, hx]
  ·have hb : (k == k') = false := by simpa using h
   have := mget_set_other l k v x hx
   simp only [mset, mget, kInt, hb, Bool.false_eq_true, if_false] at this ⊢
   rw [this]

def Inv (m : List (Int × Int)) (seen : List Int) : Prop := ∀ x, (mget KI m x).getD 0 = if x ∈ seen then 1 else 0

theorem stp_eq {m : List (Int × Int)} {seen : List Int} (h : Inv m seen) (x : Int) : (stp x m).1 = (if x < 1 then 3 else if x ∈ seen then 5 else 0) ∧ ((stp x m).1 = 0 → Inv (stp x m).2 (seen ++ [x])) := by
 unfold stp
 have hx := h x
 by_cases h1 : x < 1
 ·simp [h1]
 ·simp only [h1, if_false]
  have e : (mget (kInt .i64) m x).getD 0 = if x ∈ seen then 1 else 0 := hx
  rw [e]
  by_cases h2 : x ∈ seen
  ·simp only [h2, if_true]
   rw [show IntKind.i64.wrap (1 + 1) = 2 from w64 (by omega) (by omega)]
   have := mget_set_same m x 2
   simp only [KI] at this
   simp [this]
  ·simp only [h2, if_false]
   rw [show IntKind.i64.wrap (0 + 1) = 1 from w64 (by omega) (by omega)]
   have h3 := mget_set_same m x 1
   simp only [KI] at h3
   simp only [h3, Option.getD_some, Int.lt_irrefl, if_false, true_and]
   intro _ y
   by_cases hy : y = x
   ·subst hy
    simp [KI, h3]
   ·have h4 := mget_set_other m x 1 y hy
    simp only [KI] at h4
    have h5 := h y
    simp only [KI] at h5 ⊢
    rw [h4, h5]
    simp [hy]

theorem schema_l2 (ids : List Int) (hl : ids.length < 1000000000) (rec1 : Int → Option Int) {i : Nat} (hi : i < ids.length) : ref1_CheckSchema_l2 rec1 ids (i : Int) ids[i] BIG (0 : Int) = if ids[i] ∈ ids.take i then some 5 else rec1 ((i + 1 : Nat) : Int) := by
 have hs := search (f := fun k j => ref1_CheckSchema_l2 rec1 ids (i : Int) ids[i] k (j : Int)) (n := i) (P := fun j => ids[j]? == some ids[i]) (A := fun j => some 5) (B := rec1 ((i + 1 : Nat) : Int)) (fun k j hj => by
   have hjf : j < ids.length := by omega
   show ref1_CheckSchema_l2 rec1 ids (i : Int) ids[i] (k + 1) (j : Int) = _
   rw [ref1_CheckSchema_l2, dec_lt hj, ift_true, at_nat hjf, wrap_succ hj (by omega)]
   simp only [bnd_eq, ift_ite, List.getElem?_eq_getElem hjf, Option.some_beq_some])
  (fun k => by
   show ref1_CheckSchema_l2 rec1 ids (i : Int) ids[i] (k + 1) (i : Int) = _
   rw [ref1_CheckSchema_l2]; simp only [Int.lt_irrefl, decide_false, ift_false, ref1_CheckSchema_j1]; rw [wrap_succ hi hl]) BIG 0 (Nat.zero_le _) (by rw [big_val]; omega)
 have hs : ref1_CheckSchema_l2 rec1 ids (i : Int) ids[i] BIG (0 : Int) = _ := hs
 rw [hs]
 cases hf : first (fun j => ids[j]? == some ids[i]) 0 i with
 | none =>
  rw [first_none] at hf
  have : ids[i] ∉ ids.take i := by
   intro hm
   obtain ⟨j, hj, he⟩ := List.getElem_of_mem hm
   have hj' : j < i := by simp at hj; omega
   have := hf j (Nat.zero_le _) hj'
   rw [List.getElem_take] at he
   simp [List.getElem?_eq_getElem (show j < ids.length by omega), he] at this
  simp [this]
 | some j =>
  have : ids[i] ∈ ids.take i := by
   unfold first at hf
   have h1 := List.find?_some hf
   have h2 := List.mem_of_find?_eq_some hf
   rw [List.mem_range'_1] at h2
   have hjl : j < ids.length := by omega
   simp only [List.getElem?_eq_getElem hjl, Option.some_beq_some, beq_iff_eq] at h1
   rw [← h1]
   exact List.mem_iff_getElem.2 ⟨j, by simp; omega, by simp⟩
  simp [this]

theorem schema_loop (ids : List Int) (hl : ids.length < 1000000000) : ∀ (kk i : Nat) (m : List (Int × Int)), i ≤ ids.length → ids.length - i < kk → Inv m (ids.take i) → ref1_CheckSchema_l1 ids kk (i : Int) = some (scan (ids.drop i) m).1 := by
 intro kk
 induction kk with
 | zero => intro i m _ h; omega
 | succ kk ih =>
  intro i m hi hk hm
  rw [ref1_CheckSchema_l1]
  by_cases h : i = ids.length
  ·subst h
   simp only [Int.lt_irrefl, decide_false, ift_false, List.drop_length, scan]
   rfl
  ·have h1 : i < ids.length := by omega
   rw [dec_lt h1, ift_true, at_nat h1, bnd_eq, schema_l2 ids hl _ h1, List.drop_eq_getElem_cons h1, scan]
   obtain ⟨g1, g2⟩ := stp_eq hm ids[i]
   rw [g1] at g2 ⊢
   simp only [ift_ite, decide_eq_true_eq]
   by_cases h2 : ids[i] < 1
   ·simp [h2, g1]
   ·by_cases h3 : ids[i] ∈ ids.take i
    ·simp [h2, h3, g1]
    ·simp only [h2, h3, if_false, ne_eq, not_true]
     simp only [h2, h3, if_false] at g2
     refine ih (i + 1) _ (by omega) (by omega) ?_
     have := g2 trivial
     rwa [List.take_append_getElem h1] at this

theorem schema_eq (fs : List GField) (hs : sizeF fs < 1000000000 - 1) : ∃ e, value_CheckSchema fs = some e ∧ ref1_CheckSchema fs = some e := by
 obtain ⟨e, h1, h2, h3⟩ := checkType_eq ⟨7, 0, fs⟩ (by simp only [sizeT]; omega)
 unfold value_CheckSchema ref1_CheckSchema
 rw [h1, h2]
 simp only [bnd_eq, ift_ite]
 by_cases he : e = 0
 ·have w := walk_eq 1000000000 BIG fs [] (by omega) (by rw [big_val]; omega) (by omega)
  have i := ids_eq 1000000000 BIG fs (by omega) (by rw [big_val]; omega) (by omega)
  have hl := idsFs_len fs
  have l := schema_loop (idsFs fs) (by omega) BIG 0 [] (Nat.zero_le _) (by rw [big_val]; omega) (fun x => by simp [mget])
  have l : ref1_CheckSchema_l1 (idsFs fs) BIG (0 : Int) = _ := l
  refine ⟨(scan (idsFs fs) []).1, ?_, ?_⟩
  ·simp [he, w, bnd_eq]
  ·simp [he, i, bnd_eq, l]
 ·exact ⟨e, by simp [he], by simp [he]⟩

end Go.Proofs.YtmaemlebpjnmoaaDoor
namespace Go.Proofs.YtmaemlebpjnmoaaDoor
open Go Go.SX Go.SX.Cal
set_option linter.unusedVariables false
set_option linter.unusedSimpArgs false

theorem bnd_s {α β : Type} (a : α) (f : α → Option β) : bnd (some a) f = f a := rfl
theorem iftT {β : Type} (x y : Option β) : ift true x y = x := rfl
theorem iftF {β : Type} (x y : Option β) : ift false x y = y := rfl
theorem grd_p {β : Type} {p : Prop} [Decidable p] {x : Option β} (h : p) : grd p x = x := if_pos h
theorem fuel {m f : Nat} (h : m < f) : ∃ q, f = q + 1 := ⟨f - 1, by omega⟩
theorem dec_ge {i n : Nat} (h : ¬ i < n) : decide ((i : Int) < (n : Int)) = false := by simp; omega
theorem drop_at {α : Type} {l : List α} {i : Nat} (hi : i < l.length) : l.drop i = l[i] :: l.drop (i + 1) := List.drop_eq_getElem_cons hi

noncomputable def ck (t : GType) (v : GValue) : Int := (value_Check t v).getD 0

theorem ck_c {t : GType} {v : GValue} (hv : sizeV v < 1000000000) (hT : sizeT t < 1000000000) : value_Check t v = some (ck t v) := by
 obtain ⟨e, h1, _⟩ := Check_eq t v hv hT
 unfold ck; rw [h1]; rfl

theorem ck_r {t : GType} {v : GValue} (hv : sizeV v < 1000000000) (hT : sizeT t < 1000000000) : ref1_Check t v = some (ck t v) := by
 obtain ⟨e, h1, h2⟩ := Check_eq t v hv hT
 unfold ck; rw [h1, h2]; rfl

noncomputable def rowF : List GField → List GValue → Int
 | f :: fs, v :: vs => if ck f.type v ≠ 0 then ck f.type v else if f.need = true ∧ v.kind = 0 then 9 else rowF fs vs
 | _, _ => 0

theorem rowF_bad {f : GField} {fs : List GField} {v : GValue} {vs : List GValue} (h : ck f.type v ≠ 0) : rowF (f :: fs) (v :: vs) = ck f.type v := by simp only [rowF]; rw [if_pos h]
theorem rowF_nine {f : GField} {fs : List GField} {v : GValue} {vs : List GValue} (h : ck f.type v = 0) (h2 : f.need = true ∧ v.kind = 0) : rowF (f :: fs) (v :: vs) = 9 := by simp only [rowF]; rw [if_neg (fun k => k h), if_pos h2]
theorem rowF_ok {f : GField} {fs : List GField} {v : GValue} {vs : List GValue} (h : ck f.type v = 0) (h2 : ¬ (f.need = true ∧ v.kind = 0)) : rowF (f :: fs) (v :: vs) = rowF fs vs := by simp only [rowF]; rw [if_neg (fun k => k h), if_neg h2]

theorem size_at {fs : List GField} (h : sizeF fs < 1000000000) {i : Nat} (hi : i < fs.length) : sizeT fs[i].type < 1000000000 := by
 have := sizeF_mem (List.getElem_mem hi)
 have := sizeFd_eq fs[i]
 omega

theorem sizev_at {r : List GValue} (h : sizeL r < 1000000000) {i : Nat} (hi : i < r.length) : sizeV r[i] < 1000000000 := by
 have := sizeL_mem (List.getElem_mem hi)
 omega

theorem c_row {fs : List GField} {r : List GValue} (hf : sizeF fs < 1000000000) (hr : sizeL r < 1000000000) (hl : r.length = fs.length) (rec1 : Int → Option Int) (x1 : Int) : ∀ (m f i : Nat), i + m = fs.length → m < f →
  column_CheckRows_l2 rec1 fs x1 r f (i : Int) = if rowF (fs.drop i) (r.drop i) ≠ 0 then some (rowF (fs.drop i) (r.drop i)) else column_CheckRows_j2 rec1 x1 := by
 have hfl := sizeF_len fs
 intro m
 induction m with
 | zero =>
  intro f i hi hf'
  obtain ⟨f, rfl⟩ := fuel hf'
  rw [column_CheckRows_l2, dec_ge (by omega), iftF, List.drop_of_length_le (l := fs) (by omega)]
  simp [rowF]
 | succ m ih =>
  intro f i hi hf'
  obtain ⟨f, rfl⟩ := fuel hf'
  have h1 : i < fs.length := by omega
  have h2 : i < r.length := by omega
  rw [column_CheckRows_l2, dec_lt h1, iftT, at_nat h1, bnd_s, at_nat h2, bnd_s, ck_c (sizev_at hr h2) (size_at hf h1), bnd_s, drop_at h1, drop_at h2]
  unfold column_CheckRows_j1
  by_cases he : ck fs[i].type r[i] = 0
  ·by_cases hk : r[i].kind = 0
   ·cases hn : fs[i].need with
    | true => rw [rowF_nine he ⟨hn, hk⟩, he, show ((0 : Int) != 0) = false from rfl, iftF, show (r[i].kind == 0) = true by simp [hk], iftT, iftT, if_pos (by decide)]
    | false => rw [rowF_ok he (by simp [hn]), he, show ((0 : Int) != 0) = false from rfl, iftF, show (r[i].kind == 0) = true by simp [hk], iftT, iftF, wrap_succ h1 (by omega), ih f (i + 1) (by omega) (by omega)]
   ·rw [rowF_ok he (fun h => hk h.2), he, show ((0 : Int) != 0) = false from rfl, iftF, show (r[i].kind == 0) = false by simp [hk], iftF, iftF, wrap_succ h1 (by omega), ih f (i + 1) (by omega) (by omega)]
  ·rw [rowF_bad he, show (ck fs[i].type r[i] != 0) = true by simp [he], iftT, if_pos he]

theorem r_row {fs : List GField} {r : List GValue} (hf : sizeF fs < 1000000000) (hr : sizeL r < 1000000000) (hl : r.length = fs.length) : ∀ (m f i : Nat), i + m = fs.length → m < f →
  ref2_CheckRow_l1 fs r f (i : Int) = some (rowF (fs.drop i) (r.drop i)) := by
 have hfl := sizeF_len fs
 intro m
 induction m with
 | zero =>
  intro f i hi hf'
  obtain ⟨f, rfl⟩ := fuel hf'
  rw [ref2_CheckRow_l1, dec_ge (by omega), iftF, List.drop_of_length_le (l := fs) (by omega)]
  simp [rowF, ref2_CheckRow_j2]
 | succ m ih =>
  intro f i hi hf'
  obtain ⟨f, rfl⟩ := fuel hf'
  have h1 : i < fs.length := by omega
  have h2 : i < r.length := by omega
  rw [ref2_CheckRow_l1, dec_lt h1, iftT, at_nat h1, bnd_s, at_nat h2, bnd_s, ck_r (sizev_at hr h2) (size_at hf h1), bnd_s, drop_at h1, drop_at h2]
  unfold ref2_CheckRow_j1
  by_cases he : ck fs[i].type r[i] = 0
  ·cases hn : fs[i].need with
   | true =>
    by_cases hk : r[i].kind = 0
    ·rw [rowF_nine he ⟨hn, hk⟩, he, show ((0 : Int) != 0) = false from rfl, iftF, iftT, show (r[i].kind == 0) = true by simp [hk], iftT]
    ·rw [rowF_ok he (fun h => hk h.2), he, show ((0 : Int) != 0) = false from rfl, iftF, iftT, show (r[i].kind == 0) = false by simp [hk], iftF, wrap_succ h1 (by omega), ih f (i + 1) (by omega) (by omega)]
   | false => rw [rowF_ok he (by simp [hn]), he, show ((0 : Int) != 0) = false from rfl, iftF, iftF, iftF, wrap_succ h1 (by omega), ih f (i + 1) (by omega) (by omega)]
  ·rw [rowF_bad he, show (ck fs[i].type r[i] != 0) = true by simp [he], iftT]

noncomputable def rowsF (fs : List GField) : List (List GValue) → Int
 | r :: rs => if r.length ≠ fs.length then 1 else if rowF fs r ≠ 0 then rowF fs r else rowsF fs rs
 | [] => 0

theorem c_rows {fs : List GField} {rows : List (List GValue)} (hf : sizeF fs < 1000000000) (hr : ∀ r ∈ rows, sizeL r < 1000000000) (hl : rows.length < 1000000000) : ∀ (m f i : Nat), i + m = rows.length → m < f →
  column_CheckRows_l1 fs rows f (i : Int) = some (rowsF fs (rows.drop i)) := by
 intro m
 induction m with
 | zero =>
  intro f i hi hf'
  obtain ⟨f, rfl⟩ := fuel hf'
  rw [column_CheckRows_l1, dec_ge (by omega), iftF, List.drop_of_length_le (by omega)]; rfl
 | succ m ih =>
  intro f i hi hf'
  obtain ⟨f, rfl⟩ := fuel hf'
  have h1 : i < rows.length := by omega
  rw [column_CheckRows_l1, dec_lt h1, iftT, at_nat h1, bnd_s, drop_at h1]
  simp only [rowsF]
  by_cases hle : rows[i].length = fs.length
  ·have hc := c_row hf (hr _ (List.getElem_mem h1)) hle (column_CheckRows_l1 fs rows f) (i : Int) fs.length BIG 0 (by omega) (by have := sizeF_len fs; rw [big_val]; omega)
   rw [show ((0 : Nat) : Int) = 0 from rfl, List.drop_zero, List.drop_zero] at hc
   rw [show (((rows[i].length : Nat) : Int) != (fs.length : Int)) = false by simp [hle], iftF, hc, if_neg (show ¬ rows[i].length ≠ fs.length from fun h => h hle)]
   unfold column_CheckRows_j2
   by_cases h0 : rowF fs rows[i] = 0
   ·rw [if_neg (fun h => h h0), if_neg (fun h => h h0), wrap_succ h1 hl, ih f (i + 1) (by omega) (by omega)]
   ·rw [if_pos h0, if_pos h0]
  ·rw [show (((rows[i].length : Nat) : Int) != (fs.length : Int)) = true by simp; omega, iftT, if_pos hle]

theorem r_rows {fs : List GField} {rows : List (List GValue)} (hf : sizeF fs < 1000000000) (hr : ∀ r ∈ rows, sizeL r < 1000000000) (hl : rows.length < 1000000000) : ∀ (m f i : Nat), i + m = rows.length → m < f →
  ref2_CheckRows_l1 fs rows f (i : Int) = some (rowsF fs (rows.drop i)) := by
 intro m
 induction m with
 | zero =>
  intro f i hi hf'
  obtain ⟨f, rfl⟩ := fuel hf'
  rw [ref2_CheckRows_l1, dec_ge (by omega), iftF, List.drop_of_length_le (by omega)]; rfl
 | succ m ih =>
  intro f i hi hf'
  obtain ⟨f, rfl⟩ := fuel hf'
  have h1 : i < rows.length := by omega
  rw [ref2_CheckRows_l1, dec_lt h1, iftT, at_nat h1, bnd_s, drop_at h1]
  simp only [rowsF]
  unfold ref2_CheckRow
  by_cases hle : rows[i].length = fs.length
  ·have hc := r_row hf (hr _ (List.getElem_mem h1)) hle fs.length BIG 0 (by omega) (by have := sizeF_len fs; rw [big_val]; omega)
   rw [show ((0 : Nat) : Int) = 0 from rfl, List.drop_zero, List.drop_zero] at hc
   rw [show (((rows[i].length : Nat) : Int) != (fs.length : Int)) = false by simp [hle], iftF, hc, bnd_s, if_neg (fun h => h hle)]
   by_cases h0 : rowF fs rows[i] = 0
   ·rw [h0, show ((0 : Int) != 0) = false from rfl, iftF, if_neg (fun h => h rfl), wrap_succ h1 hl, ih f (i + 1) (by omega) (by omega)]
   ·rw [show (rowF fs rows[i] != 0) = true by simp [h0], iftT, if_pos h0]
  ·rw [show (((rows[i].length : Nat) : Int) != (fs.length : Int)) = true by simp; omega, iftT, bnd_s, if_pos hle]; rfl

def sc (fs : List GField) : Int := (value_CheckSchema fs).getD 0

theorem sc_c {fs : List GField} (h : sizeF fs < 1000000000 - 1) : value_CheckSchema fs = some (sc fs) := by
 obtain ⟨e, h1, _⟩ := schema_eq fs h
 unfold sc; rw [h1]; rfl
theorem sc_r {fs : List GField} (h : sizeF fs < 1000000000 - 1) : ref1_CheckSchema fs = some (sc fs) := by
 obtain ⟨e, h1, h2⟩ := schema_eq fs h
 unfold sc; rw [h1, h2]; rfl

noncomputable def crF (fs : List GField) (rows : List (List GValue)) : Int := if sc fs ≠ 0 then sc fs else if 2000 < rows.length then 7 else rowsF fs rows

theorem c_CheckRows {fs : List GField} {rows : List (List GValue)} (hf : sizeF fs < 1000000000 - 1) (hr : ∀ r ∈ rows, sizeL r < 1000000000) (hl : rows.length < 1000000000) : column_CheckRows fs rows = some (crF fs rows) := by
 unfold column_CheckRows crF
 rw [sc_c hf, bnd_s]
 by_cases h : sc fs = 0
 ·rw [h, show ((0 : Int) != 0) = false from rfl, iftF, if_neg (fun h => h rfl)]
  by_cases h2 : 2000 < rows.length
  ·rw [decide_eq_true (by omega), iftT, if_pos h2]
  ·have hc := c_rows (fs := fs) (by omega) hr hl rows.length BIG 0 (by omega) (by rw [big_val]; omega)
   rw [show ((0 : Nat) : Int) = 0 from rfl, List.drop_zero] at hc
   rw [decide_eq_false (by omega), iftF, hc, if_neg h2]
 ·rw [show (sc fs != 0) = true by simp [h], iftT, if_pos h]

theorem r_CheckRows {fs : List GField} {rows : List (List GValue)} (hf : sizeF fs < 1000000000 - 1) (hr : ∀ r ∈ rows, sizeL r < 1000000000) (hl : rows.length < 1000000000) : ref2_CheckRows fs rows = some (crF fs rows) := by
 unfold ref2_CheckRows crF
 rw [sc_r hf, bnd_s]
 by_cases h : sc fs = 0
 ·rw [h, show ((0 : Int) != 0) = false from rfl, iftF, if_neg (fun h => h rfl)]
  by_cases h2 : 2000 < rows.length
  ·rw [decide_eq_true (by omega), iftT, if_pos h2]
  ·have hc := r_rows (fs := fs) (by omega) hr hl rows.length BIG 0 (by omega) (by rw [big_val]; omega)
   rw [show ((0 : Nat) : Int) = 0 from rfl, List.drop_zero] at hc
   rw [decide_eq_false (by omega), iftF, hc, if_neg h2]
 ·rw [show (sc fs != 0) = true by simp [h], iftT, if_pos h]

theorem rowF_at : ∀ {fs : List GField} {r : List GValue}, rowF fs r = 0 → ∀ (i : Nat) f v, fs[i]? = some f → r[i]? = some v → ck f.type v = 0 ∧ ¬ (f.need = true ∧ v.kind = 0)
 | [], _, _, i, f, v, h1, _ => by simp at h1
 | _ :: _, [], _, i, f, v, _, h2 => by simp at h2
 | g :: fs, x :: r, h, i, f, v, h1, h2 => by
  simp only [rowF] at h
  by_cases ha : ck g.type x = 0
  ·rw [if_neg (fun h => h ha)] at h
   by_cases hb : g.need = true ∧ x.kind = 0
   ·rw [if_pos hb] at h; cases h
   ·rw [if_neg hb] at h
    cases i with
    | zero => simp at h1 h2; subst h1; subst h2; exact ⟨ha, hb⟩
    | succ i => exact rowF_at h i f v (by simpa using h1) (by simpa using h2)
  ·rw [if_pos ha] at h; exact absurd h ha

theorem rowsF_at {fs : List GField} : ∀ {rows : List (List GValue)}, rowsF fs rows = 0 → ∀ r ∈ rows, r.length = fs.length ∧ rowF fs r = 0
 | [], _, r, h => by cases h
 | x :: rows, h, r, hr => by
  simp only [rowsF] at h
  by_cases ha : x.length = fs.length
  ·rw [if_neg (fun h => h ha)] at h
   by_cases hb : rowF fs x = 0
   ·rw [if_neg (fun h => h hb)] at h
    rcases List.mem_cons.1 hr with rfl | hr
    ·exact ⟨ha, hb⟩
    ·exact rowsF_at h r hr
   ·rw [if_pos hb] at h; exact absurd h hb
  ·rw [if_pos ha] at h; cases h

end Go.Proofs.YtmaemlebpjnmoaaDoor
namespace Go.Proofs.YtmaemlebpjnmoaaDoor
open Go Go.SX Go.SX.Cal
set_option linter.unusedVariables false
set_option linter.unusedSimpArgs false

def lfK (f : GField) : Bool := decide (f.type.kind ≠ 6 ∧ f.type.kind ≠ 7)

abbrev Way := List (GField × Nat)

def wyF (rec1 : List GField → List Way) : List GField → Nat → List Way
 | [], _ => []
 | f :: fs, i => (if lfK f = true then [[(f, i)]] else (rec1 f.type.fields).map ((f, i) :: ·)) ++ wyF rec1 fs (i + 1)

def WY : Nat → List GField → List Way
 | 0, _ => []
 | N + 1, fs => wyF (WY N) fs 0

theorem sizeF_cons (f : GField) (fs : List GField) : sizeF (f :: fs) = sizeFd f + sizeF fs := by simp only [sizeF]
theorem sizeFd_fields (f : GField) : sizeF f.type.fields + 2 ≤ sizeFd f := by
 have := sizeFd_eq f
 have := sizeT_eq f.type
 omega

theorem wyF_len {rec1 : List GField → List Way} : ∀ {fs : List GField} {i : Nat}, (∀ f ∈ fs, (rec1 f.type.fields).length ≤ sizeF f.type.fields) → (wyF rec1 fs i).length ≤ sizeF fs
 | [], i, _ => by simp [wyF]
 | f :: fs, i, h => by
  have h1 := wyF_len (rec1 := rec1) (fs := fs) (i := i + 1) (fun g hg => h g (List.mem_cons_of_mem _ hg))
  have h2 := h f (List.mem_cons_self ..)
  have h3 := sizeFd_fields f
  rw [sizeF_cons]
  simp only [wyF, List.length_append]
  split
  ·simp; omega
  ·rw [List.length_map]; omega

theorem WY_len : ∀ (N : Nat) (fs : List GField), (WY N fs).length ≤ sizeF fs
 | 0, fs => by simp [WY]
 | N + 1, fs => wyF_len (fun f _ => WY_len N f.type.fields)

theorem wyF_mem {rec1 : List GField → List Way} : ∀ {fs : List GField} {i : Nat} {w : Way}, w ∈ wyF rec1 fs i → ∃ f j u, fs[j]? = some f ∧ w = (f, i + j) :: u ∧ ((lfK f = true ∧ u = []) ∨ (lfK f = false ∧ u ∈ rec1 f.type.fields))
 | [], i, w, h => by cases h
 | f :: fs, i, w, h => by
  simp only [wyF, List.mem_append] at h
  rcases h with h | h
  ·cases hl : lfK f with
   | true =>
    rw [hl, if_pos rfl] at h
    exact ⟨f, 0, [], rfl, by simpa using h, .inl ⟨hl, rfl⟩⟩
   | false =>
    rw [hl, if_neg (by simp)] at h
    obtain ⟨u, hu, rfl⟩ := List.mem_map.1 h
    exact ⟨f, 0, u, rfl, rfl, .inr ⟨hl, hu⟩⟩
  ·obtain ⟨g, j, u, h1, h2, h3⟩ := wyF_mem h
   refine ⟨g, j + 1, u, by simpa using h1, by rw [h2, show i + 1 + j = i + (j + 1) by omega], ?_⟩
   rcases h3 with ⟨a, b⟩ | ⟨a, b⟩
   ·exact .inl ⟨a, b⟩
   ·exact .inr ⟨a, b⟩

theorem WY_ind {P : List GField → Way → Prop} (hl : ∀ (fs : List GField) f (j : Nat), fs[j]? = some f → lfK f = true → P fs [(f, j)]) (hc : ∀ (fs : List GField) f (j : Nat) u, fs[j]? = some f → lfK f = false → P f.type.fields u → P fs ((f, j) :: u)) :
  ∀ (N : Nat) (fs : List GField) (w : Way), w ∈ WY N fs → P fs w
 | 0, fs, w, h => by cases h
 | N + 1, fs, w, h => by
  obtain ⟨f, j, u, h1, h2, h3⟩ := wyF_mem h
  rw [Nat.zero_add] at h2
  rcases h3 with ⟨a, rfl⟩ | ⟨a, b⟩
  ·rw [h2]; exact hl fs f j h1 a
  ·rw [h2]; exact hc fs f j u h1 a (WY_ind hl hc N _ u b)

theorem way_len {N : Nat} {fs : List GField} {w : Way} (h : w ∈ WY N fs) : 1 ≤ w.length ∧ w.length ≤ sizeF fs := by
 refine WY_ind (P := fun fs w => 1 ≤ w.length ∧ w.length ≤ sizeF fs) (fun fs f j hj hl => ?_) (fun fs f j u hj hl hu => ?_) N fs w h
 ·have h1 := sizeF_mem (List.mem_of_getElem? hj)
  have h2 := sizeFd_fields f
  simp; omega
 ·have h1 := sizeF_mem (List.mem_of_getElem? hj)
  have h2 := sizeFd_fields f
  simp only [List.length_cons]; omega

/-! ### the reference's ways -/

theorem leafR' (f : GField) : ref1_Leaf f.type.kind = some (lfK f) := leafR f.type.kind

theorem ways_l2 (rec1 : List (List GField) → Int → Option (List (List GField))) (x1 : Int) (e : GField) (r2 : List (List GField)) (hr : r2.length ≤ 1000000000) (hw : ∀ w ∈ r2, w.length ≤ 1000000000) : ∀ (m f i : Nat) (l : List (List GField)), i + m = r2.length → m < f → l.length + m ≤ 2000000000 →
  ref2_ways_l2 rec1 x1 e r2 f l (i : Int) = rec1 (l ++ (r2.drop i).map (e :: ·)) (IntKind.i64.wrap (x1 + 1)) := by
 intro m
 induction m with
 | zero =>
  intro f i l hi hf hl
  obtain ⟨f, rfl⟩ := fuel hf
  rw [ref2_ways_l2, dec_ge (by omega), iftF, List.drop_of_length_le (by omega)]
  simp [ref2_ways_j1]
 | succ m ih =>
  intro f i l hi hf hl
  obtain ⟨f, rfl⟩ := fuel hf
  have h1 : i < r2.length := by omega
  have h2 := hw _ (List.getElem_mem h1)
  rw [ref2_ways_l2, dec_lt h1, iftT, at_nat h1, bnd_s, grd_p (by simp only [List.length_singleton]; omega), grd_p (by omega), w64 (x := (i : Int) + 1) (by omega) (by omega), show (i : Int) + 1 = ((i + 1 : Nat) : Int) by omega, ih f (i + 1) _ (by omega) (by omega) (by simp; omega), drop_at h1]
  simp only [List.map_cons, List.append_assoc, List.singleton_append]

theorem ways_eq : ∀ (N k : Nat) (fs : List GField), sizeF fs < N → N ≤ k → sizeF fs ≤ 100000000 → ref2_ways k fs = some ((WY N fs).map (List.map Prod.fst))
 | 0, k, fs, h, _, _ => by omega
 | N + 1, k, fs, h, hk, hs => by
  obtain ⟨k, rfl⟩ := fuel (m := N) (f := k) (by omega)
  have hlen := sizeF_len fs
  have key : ∀ (m f i : Nat) (l : List (List GField)), i + m = fs.length → m < f → l.length + sizeF (fs.drop i) ≤ 1000000000 →
    ref2_ways_l1 (ref2_ways k) fs f l (i : Int) = some (l ++ (wyF (WY N) (fs.drop i) i).map (List.map Prod.fst)) := by
   intro m
   induction m with
   | zero =>
    intro f i l hi hf hl
    obtain ⟨f, rfl⟩ := fuel hf
    rw [ref2_ways_l1, dec_ge (by omega), iftF, List.drop_of_length_le (by omega)]
    simp [ref2_ways_j2, wyF]
   | succ m ih =>
    intro f i l hi hf hl
    obtain ⟨f, rfl⟩ := fuel hf
    have h1 : i < fs.length := by omega
    have hsz := sizeF_drop h1
    have hfd := sizeFd_fields fs[i]
    have hmem := sizeF_mem (List.getElem_mem h1)
    rw [ref2_ways_l1, dec_lt h1, iftT, at_nat h1, bnd_s, leafR', bnd_s, drop_at h1]
    simp only [wyF]
    cases hlf : lfK fs[i] with
    | true =>
     unfold ref2_ways_j1
     rw [iftT, grd_p (by omega), wrap_succ h1 (by omega), ih f (i + 1) _ (by omega) (by omega) (by simp; omega), if_pos rfl]
     simp
    | false =>
     have hw := ways_eq N k fs[i].type.fields (by omega) (by omega) (by omega)
     have hwl := WY_len N fs[i].type.fields
     rw [iftF, hw, bnd_s, if_neg (by simp)]
     have h2 := ways_l2 (ref2_ways_l1 (ref2_ways k) fs f) (i : Int) fs[i] ((WY N fs[i].type.fields).map (List.map Prod.fst)) (by rw [List.length_map]; omega) (fun w hw => by
      obtain ⟨u, hu, rfl⟩ := List.mem_map.1 hw
      have := way_len hu
      rw [List.length_map]; omega) ((WY N fs[i].type.fields).map (List.map Prod.fst)).length BIG 0 l (by omega) (by rw [List.length_map, big_val]; omega) (by rw [List.length_map]; omega)
     rw [show ((0 : Nat) : Int) = 0 from rfl, List.drop_zero] at h2
     rw [h2, wrap_succ h1 (by omega), ih f (i + 1) _ (by omega) (by omega) (by simp; omega)]
     simp [List.map_append, Function.comp_def]
  have := key fs.length BIG 0 [] (by omega) (by rw [big_val]; omega) (by simp; omega)
  rw [ref2_ways]
  rw [show ((0 : Nat) : Int) = 0 from rfl, List.drop_zero, List.nil_append] at this
  exact this

/-! ### the paths -/

def pstep (p : GPath) (f : GField) (i : Nat) : GPath :=
 ⟨⟨p.leaf.path ++ [f.id], if lfK f = true then f.type else p.leaf.type, p.leaf.df + (if f.need = true then 0 else 1) + (if f.type.kind = 6 then 1 else 0), p.leaf.rep + (if f.type.kind = 6 then 1 else 0)⟩, p.fields ++ [f], p.pos ++ [(i : Int)]⟩

def mkP : GPath → Way → GPath
 | p, [] => p
 | p, (f, i) :: w => mkP (pstep p f i) w

structure PRoom (p : GPath) (n : Nat) : Prop where
 a : p.fields.length + n ≤ 1000000000
 b : p.pos.length + n ≤ 1000000000
 c : p.leaf.path.length + n ≤ 1000000000
 d : 0 ≤ p.leaf.df ∧ p.leaf.df + 2 * n ≤ 1000000000
 e : 0 ≤ p.leaf.rep ∧ p.leaf.rep + n ≤ 1000000000

theorem PRoom.step {p : GPath} {n : Nat} (h : PRoom p (n + 1)) (f : GField) (i : Nat) : PRoom (pstep p f i) n := by
 have := h.d
 have := h.e
 refine ⟨by simp [pstep]; have := h.a; omega, by simp [pstep]; have := h.b; omega, by simp [pstep]; have := h.c; omega, ?_, ?_⟩
 ·simp only [pstep]; split <;> split <;> omega
 ·simp only [pstep]; split <;> omega

theorem PRoom.le {p : GPath} {n m : Nat} (h : PRoom p n) (hm : m ≤ n) : PRoom p m :=
 ⟨by have := h.a; omega, by have := h.b; omega, by have := h.c; omega, by have := h.d; omega, by have := h.e; omega⟩

theorem paths_eq : ∀ (N k : Nat) (fs : List GField) (p : GPath) (l : List GPath), sizeF fs < N → N ≤ k → PRoom p (sizeF fs + 1) → l.length + sizeF fs ≤ 2000000000 → column_paths_1 k fs p l = some ((), l ++ (WY N fs).map (mkP p))
 | 0, k, fs, p, l, h, _, _, _ => by omega
 | N + 1, k, fs, p, l, h, hk, hp, hl => by
  obtain ⟨k, rfl⟩ := fuel (m := N) (f := k) (by omega)
  have hlen := sizeF_len fs
  have hpa := hp.a; have hpb := hp.b; have hpc := hp.c; have hpd := hp.d; have hpe := hp.e
  have key : ∀ (m f i : Nat) (l : List GPath), i + m = fs.length → m < f → l.length + sizeF (fs.drop i) ≤ 2000000000 →
    column_paths_1_l1 (column_paths_1 k) fs p f l (i : Int) = some ((), l ++ (wyF (WY N) (fs.drop i) i).map (mkP p)) := by
   intro m
   induction m with
   | zero =>
    intro f i l hi hf hl
    obtain ⟨f, rfl⟩ := fuel hf
    rw [column_paths_1_l1, dec_ge (by omega), iftF, List.drop_of_length_le (by omega)]
    simp [wyF]
   | succ m ih =>
    intro f i l hi hf hl
    obtain ⟨f, rfl⟩ := fuel hf
    have h1 : i < fs.length := by omega
    have hsz := sizeF_drop h1
    have hfd := sizeFd_fields fs[i]
    have hmem := sizeF_mem (List.getElem_mem h1)
    have hw1 : IntKind.i64.wrap (p.leaf.df + 1) = p.leaf.df + 1 := w64 (by omega) (by omega)
    have hw2 : IntKind.i64.wrap (p.leaf.rep + 1) = p.leaf.rep + 1 := w64 (by omega) (by omega)
    rw [column_paths_1_l1, dec_lt h1, iftT, at_nat h1, bnd_s]
    unfold slices_Clip_api_Field_api_Field_c slices_Clip_int_int_c
    rw [bnd_s, grd_p (by omega), bnd_s, grd_p (by omega), bnd_s, grd_p (by omega), hw1, drop_at h1]
    simp only [wyF]
    have j1 : ∀ z : Int, z = p.leaf.df + (if fs[i].need = true then 0 else 1) →
      column_paths_1_j1 (column_paths_1 k) (column_paths_1_l1 (column_paths_1 k) fs p f) p l (i : Int) fs[i] p.fields p.pos p.leaf.path z =
       some ((), l ++ (((if lfK fs[i] = true then [[(fs[i], i)]] else (WY N fs[i].type.fields).map ((fs[i], i) :: ·)) ++ wyF (WY N) (fs.drop (i + 1)) (i + 1)).map (mkP p))) := by
     intro z hz
     have hz2 : IntKind.i64.wrap (z + 1) = z + 1 := by
      rw [hz]; split <;> rw [w64 (by omega) (by omega)]
     have hroom := (hp.le (m := sizeF fs[i].type.fields + 1 + 1) (by omega)).step fs[i] i
     have hwl := WY_len N fs[i].type.fields
     unfold column_paths_1_j1 column_paths_1_j2
     by_cases h6 : fs[i].type.kind = 6
     ·have hlf : lfK fs[i] = false := by unfold lfK; simp [h6]
      have hq := paths_eq N k fs[i].type.fields (pstep p fs[i] i) l (by omega) (by omega) hroom (by omega)
      have he : (GPath.mk (GLeaf.mk (p.leaf.path ++ [fs[i].id]) p.leaf.type (z + 1) (p.leaf.rep + 1)) (p.fields ++ [fs[i]]) (p.pos ++ [(i : Int)])) = pstep p fs[i] i := by
       unfold pstep; rw [hlf, hz]; simp [h6]
      rw [show (fs[i].type.kind == 6) = true by simp [h6], iftT, hz2, hw2, he, hq, bnd_s, wrap_succ h1 (by omega)]
      simp only
      rw [ih f (i + 1) _ (by omega) (by omega) (by simp; omega), hlf, if_neg (by simp)]
      simp [List.map_append, Function.comp_def, mkP]
     ·rw [show (fs[i].type.kind == 6) = false by simp [h6], iftF]
      by_cases h7 : fs[i].type.kind = 7
      ·have hlf : lfK fs[i] = false := by unfold lfK; simp [h7]
       have hq := paths_eq N k fs[i].type.fields (pstep p fs[i] i) l (by omega) (by omega) hroom (by omega)
       have he : (GPath.mk (GLeaf.mk (p.leaf.path ++ [fs[i].id]) p.leaf.type z p.leaf.rep) (p.fields ++ [fs[i]]) (p.pos ++ [(i : Int)])) = pstep p fs[i] i := by
        unfold pstep; rw [hlf, hz]; simp [h7]
       rw [show (fs[i].type.kind == 7) = true by simp [h7], iftT, he, hq, bnd_s, wrap_succ h1 (by omega)]
       simp only
       rw [ih f (i + 1) _ (by omega) (by omega) (by simp; omega), hlf, if_neg (by simp)]
       simp [List.map_append, Function.comp_def, mkP]
      ·have hlf : lfK fs[i] = true := by unfold lfK; simp [h6, h7]
       have he : (GPath.mk (GLeaf.mk (p.leaf.path ++ [fs[i].id]) fs[i].type z p.leaf.rep) (p.fields ++ [fs[i]]) (p.pos ++ [(i : Int)])) = pstep p fs[i] i := by
        unfold pstep; rw [hlf, hz]; simp [h6]
       rw [show (fs[i].type.kind == 7) = false by simp [h7], iftF, grd_p (by omega), he, wrap_succ h1 (by omega), ih f (i + 1) _ (by omega) (by omega) (by simp; omega), hlf, if_pos rfl]
       simp [List.map_append, mkP]
    cases hn : fs[i].need with
    | true => rw [Bool.not_true, iftF]; exact j1 _ (by rw [hn]; simp)
    | false => rw [Bool.not_false, iftT]; exact j1 _ (by rw [hn]; simp)
  have := key fs.length BIG 0 l (by omega) (by rw [big_val]; omega) (by simp; omega)
  rw [column_paths_1]
  rw [show ((0 : Nat) : Int) = 0 from rfl, List.drop_zero] at this
  exact this

def p0 : GPath := ⟨⟨[], ⟨0, 0, []⟩, 0, 0⟩, [], []⟩

theorem c_paths {fs : List GField} (hs : sizeF fs ≤ 100000000) : column_paths fs = some ((WY (sizeF fs + 1) fs).map (mkP p0)) := by
 have := paths_eq (sizeF fs + 1) BIG fs p0 [] (by omega) (by rw [big_val]; omega) ⟨by simp [p0]; omega, by simp [p0]; omega, by simp [p0]; omega, by simp [p0]; omega, by simp [p0]; omega⟩ (by simp; omega)
 unfold column_paths
 rw [List.nil_append] at this
 unfold p0 at this
 rw [this]; rfl

theorem r_ways {fs : List GField} (hs : sizeF fs ≤ 100000000) : ref2_ways BIG fs = some ((WY (sizeF fs + 1) fs).map (List.map Prod.fst)) :=
 ways_eq (sizeF fs + 1) BIG fs (by omega) (by rw [big_val]; omega) hs

/-! ### leaves -/

def lfo : GLeaf → List GField → GLeaf
 | l, [] => l
 | l, f :: w => lfo ⟨l.path ++ [f.id], f.type, l.df + (if f.need = true then 0 else 1) + (if f.type.kind = 6 then 1 else 0), l.rep + (if f.type.kind = 6 then 1 else 0)⟩ w

theorem leafOf_eq {w : List GField} (hw : w.length ≤ 100000000) : ∀ (m f i : Nat) (l : GLeaf), i + m = w.length → m < f → l.path.length ≤ i → 0 ≤ l.df → l.df ≤ 2 * i → 0 ≤ l.rep → l.rep ≤ i →
  ref2_leafOf_l1 w f l.path l.type.kind l.type.scale l.type.fields l.df l.rep (i : Int) = some (lfo l (w.drop i)) := by
 intro m
 induction m with
 | zero =>
  intro f i l hi hf _ _ _ _ _
  obtain ⟨f, rfl⟩ := fuel hf
  rw [ref2_leafOf_l1, dec_ge (by omega), iftF, List.drop_of_length_le (by omega)]; unfold ref2_leafOf_j3; simp only [eta_t, lfo]
 | succ m ih =>
  intro f i l hi hf h1 h2 h3 h4 h5
  obtain ⟨f, rfl⟩ := fuel hf
  have hil : i < w.length := by omega
  have hw1 : IntKind.i64.wrap (l.df + 1) = l.df + 1 := w64 (by omega) (by omega)
  have hw2 : IntKind.i64.wrap (l.rep + 1) = l.rep + 1 := w64 (by omega) (by omega)
  rw [ref2_leafOf_l1, dec_lt hil, iftT, at_nat hil, bnd_s, grd_p (by omega), hw1, drop_at hil]
  have j1 : ∀ z : Int, z = l.df + (if w[i].need = true then 0 else 1) → ref2_leafOf_j1 (ref2_leafOf_l1 w f) l.path l.rep (i : Int) w[i] z = some (lfo l (w[i] :: w.drop (i + 1))) := by
   intro z hz
   have hz1 : 0 ≤ z ∧ z ≤ 2 * i + 1 := by rw [hz]; split <;> omega
   have hz2 : IntKind.i64.wrap (z + 1) = z + 1 := w64 (by omega) (by omega)
   unfold ref2_leafOf_j1 ref2_leafOf_j2
   simp only [lfo]
   by_cases h6 : w[i].type.kind = 6
   ·have := ih f (i + 1) ⟨l.path ++ [w[i].id], w[i].type, z + 1, l.rep + 1⟩ (by omega) (by omega) (by simp; omega) (by simp only; omega) (by simp only; omega) (by simp only; omega) (by simp only; omega)
    rw [show (w[i].type.kind == 6) = true by simp [h6], iftT, hz2, hw2, wrap_succ hil (by omega), if_pos h6, ← hz]
    exact this
   ·have := ih f (i + 1) ⟨l.path ++ [w[i].id], w[i].type, z, l.rep⟩ (by omega) (by omega) (by simp; omega) (by simp only; omega) (by simp only; omega) (by simp only; omega) (by simp only; omega)
    rw [show (w[i].type.kind == 6) = false by simp [h6], iftF, wrap_succ hil (by omega), if_neg h6, ← hz, Int.add_zero, Int.add_zero]
    exact this
  cases hn : w[i].need with
  | true => rw [Bool.not_true, iftF]; exact j1 _ (by rw [hn]; simp)
  | false => rw [Bool.not_false, iftT]; exact j1 _ (by rw [hn]; simp)

def EL : Way → Prop
 | [] => False
 | [(f, i)] => lfK f = true
 | (f, i) :: x :: w => lfK f = false ∧ EL (x :: w)

theorem way_EL {N : Nat} {fs : List GField} {w : Way} (h : w ∈ WY N fs) : EL w := by
 refine WY_ind (P := fun fs w => EL w) (fun fs f j hj hl => hl) (fun fs f j u hj hl hu => ?_) N fs w h
 cases u with
 | nil => exact hu.elim
 | cons x u => exact ⟨hl, hu⟩

theorem mkP_leaf : ∀ (w : Way) (p : GPath) (l : GLeaf), EL w → l.path = p.leaf.path → l.df = p.leaf.df → l.rep = p.leaf.rep → (mkP p w).leaf = lfo l (w.map Prod.fst)
 | [], p, l, h, _, _, _ => h.elim
 | [(f, i)], p, l, h, h1, h2, h3 => by
  have hl : lfK f = true := h
  simp only [mkP, List.map_cons, List.map_nil, lfo, pstep]
  rw [if_pos hl, h1, h2, h3]
 | (f, i) :: x :: w, p, l, h, h1, h2, h3 => by
  obtain ⟨hl, he⟩ := h
  have := mkP_leaf (x :: w) (pstep p f i) ⟨l.path ++ [f.id], f.type, l.df + (if f.need = true then 0 else 1) + (if f.type.kind = 6 then 1 else 0), l.rep + (if f.type.kind = 6 then 1 else 0)⟩ he (by simp [pstep, h1]) (by simp [pstep, h2]) (by simp [pstep, h3])
  rw [List.map_cons, lfo, mkP]
  exact this

def l0 : GLeaf := ⟨[], ⟨0, 0, []⟩, 0, 0⟩

theorem leafOf_w {w : List GField} (hw : w.length ≤ 100000000) : ref2_leafOf w = some (lfo l0 w) := by
 have := leafOf_eq hw w.length BIG 0 l0 (by omega) (by rw [big_val]; omega) (by simp [l0]) (by simp [l0]) (by simp [l0]) (by simp [l0]) (by simp [l0])
 rw [show ((0 : Nat) : Int) = 0 from rfl, List.drop_zero] at this
 exact this

theorem lfo_path : ∀ (w : List GField) (l : GLeaf), (lfo l w).path = l.path ++ w.map (·.id)
 | [], l => by simp [lfo]
 | f :: w, l => by simp only [lfo]; rw [lfo_path w]; simp

def lvs (W : List Way) : List GLeaf := W.map fun w => lfo l0 (w.map Prod.fst)

theorem r_leaves_l {W : List Way} (hW : ∀ w ∈ W, w.length ≤ 100000000) (hn : W.length < 1000000000) : ∀ (m f i : Nat) (l : List GLeaf), i + m = W.length → m < f → l.length = i →
  ref2_leaves_l1 (W.map (List.map Prod.fst)) f l (i : Int) = some (l ++ lvs (W.drop i)) := by
 intro m
 induction m with
 | zero =>
  intro f i l hi hf hl
  obtain ⟨f, rfl⟩ := fuel hf
  rw [ref2_leaves_l1, dec_ge (by rw [List.length_map]; omega), iftF, List.drop_of_length_le (by omega)]
  simp [ref2_leaves_j1, lvs]
 | succ m ih =>
  intro f i l hi hf hl
  obtain ⟨f, rfl⟩ := fuel hf
  have h1 : i < W.length := by omega
  have h2 : i < (W.map (List.map Prod.fst)).length := by rw [List.length_map]; exact h1
  have h3 := hW _ (List.getElem_mem h1)
  rw [ref2_leaves_l1, dec_lt h2, iftT, at_nat h2, bnd_s, List.getElem_map, leafOf_w (by rw [List.length_map]; exact h3), bnd_s, grd_p (by omega), wrap_succ h1 hn, ih f (i + 1) _ (by omega) (by omega) (by simp; omega), drop_at h1]
  simp only [lvs, List.map_cons, List.append_assoc, List.singleton_append]

theorem clip_int (p : List Int) : slices_Clip_int_int p = some p := by
 unfold slices_Clip_int_int
 rw [grd_p (by omega)]
 simp

theorem clip_leaf (p : List GLeaf) : slices_Clip_api_Leaf_api_Leaf p = some p := by
 unfold slices_Clip_api_Leaf_api_Leaf
 rw [grd_p (by omega)]
 simp

theorem c_leaves_l {W : List Way} (hW : ∀ w ∈ W, EL w ∧ w.length ≤ 100000000) (hn : W.length < 1000000000) : ∀ (m f i : Nat) (l : List GLeaf), i + m = W.length → m < f → l.length = i →
  column_Leaves_l1 (W.map (mkP p0)) f l (i : Int) = some (l ++ lvs (W.drop i), 0) := by
 intro m
 induction m with
 | zero =>
  intro f i l hi hf hl
  obtain ⟨f, rfl⟩ := fuel hf
  rw [column_Leaves_l1, dec_ge (by rw [List.length_map]; omega), iftF, List.drop_of_length_le (by omega)]
  unfold column_Leaves_j1
  rw [clip_leaf, bnd_s]
  simp [lvs]
 | succ m ih =>
  intro f i l hi hf hl
  obtain ⟨f, rfl⟩ := fuel hf
  have h1 : i < W.length := by omega
  have h2 : i < (W.map (mkP p0)).length := by rw [List.length_map]; exact h1
  obtain ⟨h3, h4⟩ := hW _ (List.getElem_mem h1)
  have h5 := mkP_leaf W[i] p0 l0 h3 rfl rfl rfl
  have h6 : (lfo l0 (W[i].map Prod.fst)).path.length = W[i].length := by rw [lfo_path]; simp [l0]
  have h7 : (lfo l0 (W[i].map Prod.fst)).path ≠ [] := by
   intro h
   rw [h] at h6
   have : W[i] = [] := List.eq_nil_of_length_eq_zero h6.symm
   rw [this] at h3
   exact h3
  rw [column_Leaves_l1, dec_lt h2, iftT, at_nat h2, bnd_s, List.getElem_map, h5]
  unfold slices_Clone_int_int
  rw [grd_p h7, grd_p (by simp only [List.length_nil]; omega), bnd_s, List.nil_append, clip_int, bnd_s, grd_p (by omega), wrap_succ h1 hn, ih f (i + 1) _ (by omega) (by omega) (by simp; omega), drop_at h1]
  simp only [lvs, List.map_cons, List.append_assoc, List.singleton_append]

def WS (fs : List GField) : List Way := WY (sizeF fs + 1) fs

theorem WS_len (fs : List GField) : (WS fs).length ≤ sizeF fs := WY_len _ _

theorem c_Leaves {fs : List GField} (hs : sizeF fs ≤ 100000000) : column_Leaves fs = some (if sc fs ≠ 0 then ([], sc fs) else (lvs (WS fs), 0)) := by
 have hw := WS_len fs
 have := c_leaves_l (W := WS fs) (fun w h => ⟨way_EL h, by have := (way_len h).2; omega⟩) (by omega) (WS fs).length BIG 0 [] (by omega) (by rw [big_val]; omega) rfl
 rw [show ((0 : Nat) : Int) = 0 from rfl, List.drop_zero, List.nil_append] at this
 unfold column_Leaves
 rw [sc_c (by omega), bnd_s, c_paths hs, bnd_s]
 by_cases h : sc fs = 0
 ·rw [h, show ((0 : Int) != 0) = false from rfl, iftF, if_neg (fun h => h rfl)]; exact this
 ·rw [show (sc fs != 0) = true by simp [h], iftT, if_pos h]

theorem r_Leaves {fs : List GField} (hs : sizeF fs ≤ 100000000) : ref2_Leaves fs = some (if sc fs ≠ 0 then ([], sc fs) else (lvs (WS fs), 0)) := by
 have hw := WS_len fs
 have := r_leaves_l (W := WS fs) (fun w h => by have := (way_len h).2; omega) (by omega) (WS fs).length BIG 0 [] (by omega) (by rw [big_val]; omega) rfl
 rw [show ((0 : Nat) : Int) = 0 from rfl, List.drop_zero, List.nil_append] at this
 unfold ref2_Leaves ref2_leaves
 rw [sc_r (by omega), bnd_s, r_ways hs, bnd_s]
 by_cases h : sc fs = 0
 ·rw [h, show ((0 : Int) != 0) = false from rfl, iftF, if_neg (fun h => h rfl)]
  have := congrArg (fun x => bnd x fun r => some (r, (0 : Int))) this
  exact this
 ·rw [show (sc fs != 0) = true by simp [h], iftT, if_pos h]

end Go.Proofs.YtmaemlebpjnmoaaDoor
namespace Go.Proofs.YtmaemlebpjnmoaaDoor
open Go Go.SX Go.SX.Cal
set_option linter.unusedVariables false
set_option linter.unusedSimpArgs false

abbrev Ent := Int × Int × Option GValue

def itL (g : GValue → Int → List Ent) (q : Int) : List GValue → Int → List Ent
 | [], _ => []
 | e :: es, r => g e r ++ itL g q es q

def hdI : Way → Nat
 | [] => 0
 | (_, i) :: _ => i

def dn (f : GField) (d : Int) : Int := if f.need = true then d else d + 1

def ent : Way → GValue → Int → Int → Int → List Ent
 | [] => fun _ _ _ _ => []
 | (f, i) :: u => fun v r d q =>
  if f.need = false ∧ v.kind = 0 then [(r, d, none)]
  else if f.type.kind = 6 then (if v.items.length = 0 then [(r, dn f d, none)] else itL (fun e r => ent u e r (dn f d + 1) (q + 1)) (q + 1) v.items r)
  else if f.type.kind = 7 then ent u (iv v (hdI u)) r (dn f d) q
  else [(r, dn f d, some v)]

def apE (c : GColumn) (E : List Ent) : GColumn := ⟨c.reps ++ E.map (·.1), c.defs ++ E.map (·.2.1), c.values ++ E.filterMap (·.2.2)⟩

theorem apE_nil (c : GColumn) : apE c [] = c := by simp [apE]
theorem apE_app (c : GColumn) (E F : List Ent) : apE (apE c E) F = apE c (E ++ F) := by simp [apE]

def Shp : Way → GValue → Prop
 | [] => fun _ => True
 | (f, i) :: u => fun v => (f.need = false ∧ v.kind = 0) ∨ (f.type.kind = 6 ∧ ∀ e ∈ v.items, Shp u e) ∨ (f.type.kind = 7 ∧ hdI u < v.items.length ∧ Shp u (iv v (hdI u))) ∨ (f.type.kind ≠ 6 ∧ f.type.kind ≠ 7)

structure CR (c : GColumn) (n : Nat) : Prop where
 a : c.reps.length + n ≤ 4000000000
 b : c.defs.length + n ≤ 4000000000
 c : c.values.length + n ≤ 4000000000

theorem CR.le {c : GColumn} {n m : Nat} (h : CR c n) (hm : m ≤ n) : CR c m := ⟨by have := h.a; omega, by have := h.b; omega, by have := h.c; omega⟩

theorem CR.app {c : GColumn} {n : Nat} {E : List Ent} (h : CR c (E.length + n)) : CR (apE c E) n := by
 have h1 := h.a; have h2 := h.b; have h3 := h.c
 have h4 := List.length_filterMap_le (fun x : Ent => x.2.2) E
 refine ⟨?_, ?_, ?_⟩
 ·simp only [apE, List.length_append, List.length_map]; omega
 ·simp only [apE, List.length_append, List.length_map]; omega
 ·simp only [apE, List.length_append]; omega

theorem sizeL_cons (v : GValue) (l : List GValue) : sizeL (v :: l) = sizeV v + sizeL l := by simp only [sizeL]

theorem ent_len : ∀ (u : Way) (v : GValue) (r d q : Int), Shp u v → (ent u v r d q).length ≤ sizeV v
 | [], v, r, d, q, h => by simp [ent]
 | (f, i) :: u, v, r, d, q, h => by
  have hp := sizeV_pos v
  have he := sizeV_eq v
  simp only [ent]
  by_cases h0 : f.need = false ∧ v.kind = 0
  ·rw [if_pos h0]; simpa using hp
  ·rw [if_neg h0]
   by_cases h6 : f.type.kind = 6
   ·rw [if_pos h6]
    by_cases hl : v.items.length = 0
    ·rw [if_pos hl]; simpa using hp
    ·rw [if_neg hl]
     have hs : ∀ e ∈ v.items, Shp u e := by
      rcases h with h | h | h | h
      ·exact absurd h h0
      ·exact h.2
      ·have := h.1; omega
      ·exact absurd h6 h.1
     have key : ∀ (l : List GValue) (r : Int), (∀ e ∈ l, Shp u e) → (itL (fun e r => ent u e r (dn f d + 1) (q + 1)) (q + 1) l r).length ≤ sizeL l := by
      intro l
      induction l with
      | nil => intro r _; simp [itL]
      | cons e l ih =>
       intro r hl
       have h1 := ent_len u e r (dn f d + 1) (q + 1) (hl e (List.mem_cons_self ..))
       have h2 := ih (q + 1) (fun x hx => hl x (List.mem_cons_of_mem _ hx))
       rw [sizeL_cons]
       simp only [itL, List.length_append]
       omega
     have := key v.items r hs
     omega
   ·rw [if_neg h6]
    by_cases h7 : f.type.kind = 7
    ·rw [if_pos h7]
     rcases h with h | h | h | h
     ·exact absurd h h0
     ·exact absurd h.1 h6
     ·have h1 := ent_len u (iv v (hdI u)) r (dn f d) q h.2.2
      have h2 := sizeL_mem (iv_mem h.2.1)
      omega
     ·exact absurd h7 h.2
    ·rw [if_neg h7]; simpa using hp

/-! ### the program's side -/

theorem entry_eq {r d : Int} {P : GPath} {c : GColumn} (h : CR c 1) : column_shredder_entry r d ⟨P, c⟩ = some ((), ⟨P, apE c [(r, d, none)]⟩) := by
 have h1 := h.a; have h2 := h.b
 unfold column_shredder_entry
 rw [grd_p (by show c.reps.length + 1 ≤ _; omega), grd_p (by show c.defs.length + 1 ≤ _; omega)]
 simp [apE]

structure Along (P : GPath) (k : Nat) (u : Way) : Prop where
 a : P.fields.drop k = u.map Prod.fst
 b : P.pos.drop k = u.map fun x => (x.2 : Int)

theorem Along.fld {P : GPath} {k : Nat} {f : GField} {i : Nat} {u : Way} (h : Along P k ((f, i) :: u)) : at? P.fields (k : Int) = some f := by
 apply at_some
 have := congrArg (fun l : List GField => l[0]?) h.a
 simpa using this

theorem Along.ps {P : GPath} {k : Nat} {f : GField} {i : Nat} {u : Way} (h : Along P k ((f, i) :: u)) : at? P.pos (k : Int) = some (i : Int) := by
 apply at_some
 have := congrArg (fun l : List Int => l[0]?) h.b
 simpa using this

theorem Along.tl {P : GPath} {k : Nat} {x : GField × Nat} {u : Way} (h : Along P k (x :: u)) : Along P (k + 1) u := by
 constructor
 ·have := congrArg List.tail h.a
  simpa [List.tail_drop] using this
 ·have := congrArg List.tail h.b
  simpa [List.tail_drop] using this

theorem c_put : ∀ (u : Way) (k fu : Nat) (P : GPath) (v : GValue) (r d q : Int) (c : GColumn), Along P k u → u.length ≤ fu → EL u → Shp u v → k + u.length ≤ 100000000 →
  0 ≤ d → d + 2 * u.length ≤ 1000000000 → 0 ≤ q → q + u.length ≤ 1000000000 → CR c (sizeV v) → sizeV v < 1000000000 →
  column_shredder_put fu v (k : Int) r d q ⟨P, c⟩ = some ((), ⟨P, apE c (ent u v r d q)⟩)
 | [], k, fu, P, v, r, d, q, c, ha, hfu, hel, hs, hk, hd0, hd1, hq0, hq1, hc, hv => hel.elim
 | (f, i) :: u, k, fu, P, v, r, d, q, c, ha, hfu, hel, hs, hk, hd0, hd1, hq0, hq1, hc, hv => by
  rw [List.length_cons] at hfu hk hd1 hq1
  obtain ⟨fu, rfl⟩ := fuel (m := u.length) (f := fu) (by omega)
  have hp := sizeV_pos v
  have he := sizeV_eq v
  have hk1 : IntKind.i64.wrap ((k : Int) + 1) = ((k + 1 : Nat) : Int) := by rw [w64 (by omega) (by omega)]; omega
  have hq2 : IntKind.i64.wrap (q + 1) = q + 1 := w64 (by omega) (by omega)
  have j1 : ∀ x1 : Int, x1 = dn f d → ¬ (f.need = false ∧ v.kind = 0) →
    column_shredder_put_j1 (column_shredder_put fu) v (k : Int) r q ⟨P, c⟩ f x1 = some ((), ⟨P, apE c (ent ((f, i) :: u) v r d q)⟩) := by
   intro x1 hx1 h0
   have hx0 : 0 ≤ x1 ∧ x1 ≤ d + 1 := by rw [hx1]; unfold dn; split <;> omega
   have hx2 : IntKind.i64.wrap (x1 + 1) = x1 + 1 := w64 (by omega) (by omega)
   unfold column_shredder_put_j1
   simp only [ent]
   rw [if_neg h0]
   by_cases h6 : f.type.kind = 6
   ·rw [show (f.type.kind == 6) = true by simp [h6], iftT, if_pos h6]
    by_cases hl : v.items.length = 0
    ·rw [show ((v.items.length : Int) == 0) = true by simp [hl], iftT, if_pos hl, entry_eq (hc.le hp), bnd_s, ← hx1]
    ·rw [show ((v.items.length : Int) == 0) = false by simp; intro h; rw [h] at hl; exact hl rfl, iftF, if_neg hl, ← hx1]
     have hsi : ∀ e ∈ v.items, Shp u e := by
      rcases hs with h | h | h | h
      ·exact absurd h h0
      ·exact h.2
      ·have := h.1; omega
      ·exact absurd h6 h.1
     have hel' : EL u := by
      cases u with
      | nil => unfold EL lfK at hel; simp [h6] at hel
      | cons y u => exact hel.2
     have hlen := sizeL_len v.items
     have loop : ∀ (m f' i' : Nat) (c : GColumn) (r' : Int), i' + m = v.items.length → m < f' → CR c (sizeL (v.items.drop i')) →
       column_shredder_put_l1 (column_shredder_put fu) v (k : Int) q x1 f' c.reps c.defs c.values P.leaf.path P.leaf.type.kind P.leaf.type.scale P.leaf.type.fields P.leaf.df P.leaf.rep P.fields P.pos r' (i' : Int) =
        some ((), ⟨P, apE c (itL (fun e r => ent u e r (x1 + 1) (q + 1)) (q + 1) (v.items.drop i') (if i' = 0 then r' else q + 1))⟩) := by
      intro m
      induction m with
      | zero =>
       intro f' i' c r' hi hf hc
       obtain ⟨f', rfl⟩ := fuel hf
       rw [column_shredder_put_l1, dec_ge (by omega), iftF, List.drop_of_length_le (by omega), eta_t]
       simp only [itL, apE_nil]
      | succ m ih =>
       intro f' i' c r' hi hf hc
       obtain ⟨f', rfl⟩ := fuel hf
       have h1 : i' < v.items.length := by omega
       have hm := List.getElem_mem h1
       have hsz := sizeL_mem hm
       have hd := drop_at h1
       have hcc : sizeL (v.items.drop i') = sizeV v.items[i'] + sizeL (v.items.drop (i' + 1)) := by rw [hd, sizeL_cons]
       rw [hcc] at hc
       have j2 : ∀ x4 : Int, column_shredder_put_j2 (column_shredder_put fu) (column_shredder_put_l1 (column_shredder_put fu) v (k : Int) q x1 f') (k : Int) q x1 c.reps c.defs c.values P.leaf.path P.leaf.type.kind P.leaf.type.scale P.leaf.type.fields P.leaf.df P.leaf.rep P.fields P.pos (i' : Int) v.items[i'] x4 =
         some ((), ⟨P, apE c (itL (fun e r => ent u e r (x1 + 1) (q + 1)) (q + 1) (v.items.drop i') x4)⟩) := by
        intro x4
        have hrec := c_put u (k + 1) fu P v.items[i'] x4 (x1 + 1) (q + 1) c ha.tl (by omega) hel' (hsi _ hm) (by omega) (by omega) (by omega) (by omega) (by omega) (hc.le (by omega)) (by omega)
        have hlen2 := ent_len u v.items[i'] x4 (x1 + 1) (q + 1) (hsi _ hm)
        unfold column_shredder_put_j2
        rw [eta_t, hk1, hx2, hq2]
        have hrec' : column_shredder_put fu v.items[i'] ((k + 1 : Nat) : Int) x4 (x1 + 1) (q + 1) (GShredder.mk (GPath.mk (GLeaf.mk P.leaf.path P.leaf.type P.leaf.df P.leaf.rep) P.fields P.pos) (GColumn.mk c.reps c.defs c.values)) = _ := hrec
        rw [hrec', bnd_s, wrap_succ h1 (by omega)]
        have := ih f' (i' + 1) (apE c (ent u v.items[i'] x4 (x1 + 1) (q + 1))) x4 (by omega) (by omega) (CR.app (hc.le (by omega)))
        rw [if_neg (by omega)] at this
        rw [hd]
        simp only [itL]
        rw [← apE_app]
        exact this
       rw [column_shredder_put_l1, dec_lt h1, iftT, at_nat h1, bnd_s, hq2]
       by_cases hz : i' = 0
       ·rw [decide_eq_false (by omega), iftF, if_pos hz]; exact j2 r'
       ·rw [decide_eq_true (by omega), iftT, if_neg hz]; exact j2 (q + 1)
     have := loop v.items.length BIG 0 c r (by omega) (by rw [big_val]; omega) (by rw [List.drop_zero]; exact hc.le (by omega))
     rw [show ((0 : Nat) : Int) = 0 from rfl, List.drop_zero, if_pos rfl] at this
     exact this
   ·rw [show (f.type.kind == 6) = false by simp [h6], iftF, if_neg h6]
    by_cases h7 : f.type.kind = 7
    ·rw [show (f.type.kind == 7) = true by simp [h7], iftT, if_pos h7]
     have hsi : hdI u < v.items.length ∧ Shp u (iv v (hdI u)) := by
      rcases hs with h | h | h | h
      ·exact absurd h h0
      ·exact absurd h.1 h6
      ·exact h.2
      ·exact absurd h7 h.2
     cases u with
     | nil => unfold EL lfK at hel; simp [h7] at hel
     | cons y u =>
      obtain ⟨g, j⟩ := y
      have hj : j < v.items.length := hsi.1
      have h2 := sizeL_mem (iv_mem hj)
      have hrec := c_put ((g, j) :: u) (k + 1) fu P (iv v j) r x1 q c ha.tl (by omega) hel.2 hsi.2 (by omega) (by omega) (by omega) (by omega) (by omega) (hc.le (by omega)) (by omega)
      rw [hk1, ha.tl.ps, bnd_s, at_nat hj, bnd_s, iv_at hj, hrec, bnd_s, ← hx1]
      rfl
    ·rw [show (f.type.kind == 7) = false by simp [h7], iftF, if_neg h7, entry_eq (hc.le hp), bnd_s, ← hx1]
     have h3 := hc.c
     have hv' : (apE c [(r, x1, none)]).values = c.values := by simp [apE]
     simp only [hv']
     rw [grd_p (by omega), at_nat (by simp), bnd_s]
     simp [apE]
  rw [column_shredder_put, ha.fld, bnd_s]
  have hd2 : IntKind.i64.wrap (d + 1) = d + 1 := w64 (by omega) (by omega)
  cases hn : f.need with
  | true =>
   rw [Bool.not_true, iftF]
   exact j1 d (by unfold dn; rw [if_pos hn]) (by simp [hn])
  | false =>
   rw [Bool.not_false, iftT, hd2]
   by_cases hk0 : v.kind = 0
   ·rw [show (v.kind == 0) = true by simp [hk0], iftT, entry_eq (hc.le hp), bnd_s]
    simp only [ent]
    rw [if_pos ⟨hn, hk0⟩]
   ·rw [show (v.kind == 0) = false by simp [hk0], iftF]
    exact j1 (d + 1) (by unfold dn; simp [hn]) (fun h => hk0 h.2)

end Go.Proofs.YtmaemlebpjnmoaaDoor
namespace Go.Proofs.YtmaemlebpjnmoaaDoor
open Go Go.SX Go.SX.Cal
set_option linter.unusedVariables false
set_option linter.unusedSimpArgs false

def At1 (fs : List GField) (g : GField) (j : Nat) : Prop := fs[j]? = some g ∧ ∀ j' (h : j' < fs.length), fs[j'].id = g.id → j' = j

def Nd : Way → Prop
 | [] => True
 | (f, i) :: u => (match u with | [] => True | (g, j) :: _ => f.type.kind = 7 → At1 f.type.fields g j ∧ f.type.fields.length < 1000000000) ∧ Nd u

theorem r_ent : ∀ (u : Way) (fu : Nat) (v : GValue) (r d q : Int) (c : GColumn), u.length ≤ fu → EL u → Shp u v → Nd u → u.length ≤ 100000000 →
  0 ≤ d → d + 2 * u.length ≤ 1000000000 → 0 ≤ q → q + u.length ≤ 1000000000 → CR c (sizeV v) → sizeV v < 1000000000 →
  ref2_entries fu (u.map Prod.fst) v r d q c = some ((), apE c (ent u v r d q))
 | [], fu, v, r, d, q, c, hfu, hel, hs, hnd, hk, hd0, hd1, hq0, hq1, hc, hv => hel.elim
 | (f, i) :: u, fu, v, r, d, q, c, hfu, hel, hs, hnd, hk, hd0, hd1, hq0, hq1, hc, hv => by
  rw [List.length_cons] at hfu hk hd1 hq1
  obtain ⟨fu, rfl⟩ := fuel (m := u.length) (f := fu) (by omega)
  have hp := sizeV_pos v
  have he := sizeV_eq v
  have hca := hc.a; have hcb := hc.b; have hcc := hc.c
  have hq2 : IntKind.i64.wrap (q + 1) = q + 1 := w64 (by omega) (by omega)
  have hdr : ((((f, i) :: u).map Prod.fst).drop (1 : Int).toNat) = u.map Prod.fst := rfl
  have hln : (((f, i) :: u).map Prod.fst).length = u.length + 1 := by simp
  have j1 : ∀ x1 : Int, x1 = dn f d → ¬ (f.need = false ∧ v.kind = 0) →
    ref2_entries_j1 (ref2_entries fu) (((f, i) :: u).map Prod.fst) v r q c f x1 = some ((), apE c (ent ((f, i) :: u) v r d q)) := by
   intro x1 hx1 h0
   have hx0 : 0 ≤ x1 ∧ x1 ≤ d + 1 := by rw [hx1]; unfold dn; split <;> omega
   have hx2 : IntKind.i64.wrap (x1 + 1) = x1 + 1 := w64 (by omega) (by omega)
   unfold ref2_entries_j1
   simp only [ent]
   rw [if_neg h0]
   by_cases h6 : f.type.kind = 6
   ·rw [show (f.type.kind == 6) = true by simp [h6], iftT, if_pos h6]
    by_cases hl : v.items.length = 0
    ·rw [show ((v.items.length : Int) == 0) = true by simp [hl], iftT, if_pos hl, grd_p (by omega), grd_p (by omega), ← hx1]
     simp [apE]
    ·rw [show ((v.items.length : Int) == 0) = false by simp; intro h; rw [h] at hl; exact hl rfl, iftF, if_neg hl, ← hx1]
     have hsi : ∀ e ∈ v.items, Shp u e := by
      rcases hs with h | h | h | h
      ·exact absurd h h0
      ·exact h.2
      ·have := h.1; omega
      ·exact absurd h6 h.1
     have hel' : EL u := by
      cases u with
      | nil => unfold EL lfK at hel; simp [h6] at hel
      | cons y u => exact hel.2
     have hlen := sizeL_len v.items
     have loop : ∀ (m f' i' : Nat) (c : GColumn), i' + m = v.items.length → m < f' → CR c (sizeL (v.items.drop i')) →
       ref2_entries_l1 (ref2_entries fu) (((f, i) :: u).map Prod.fst) v r q x1 f' c.reps c.defs c.values (i' : Int) =
        some ((), apE c (itL (fun e r => ent u e r (x1 + 1) (q + 1)) (q + 1) (v.items.drop i') (if i' = 0 then r else q + 1))) := by
      intro m
      induction m with
      | zero =>
       intro f' i' c hi hf hc
       obtain ⟨f', rfl⟩ := fuel hf
       rw [ref2_entries_l1, dec_ge (by omega), iftF, List.drop_of_length_le (by omega)]
       simp only [itL, apE_nil]
      | succ m ih =>
       intro f' i' c hi hf hc
       obtain ⟨f', rfl⟩ := fuel hf
       have h1 : i' < v.items.length := by omega
       have hm := List.getElem_mem h1
       have hsz := sizeL_mem hm
       have hd := drop_at h1
       have hcc : sizeL (v.items.drop i') = sizeV v.items[i'] + sizeL (v.items.drop (i' + 1)) := by rw [hd, sizeL_cons]
       rw [hcc] at hc
       have j2 : ∀ x4 : Int, ref2_entries_j2 (ref2_entries_l1 (ref2_entries fu) (((f, i) :: u).map Prod.fst) v r q x1 f') (ref2_entries fu) (((f, i) :: u).map Prod.fst) v q x1 c.reps c.defs c.values (i' : Int) x4 =
         some ((), apE c (itL (fun e r => ent u e r (x1 + 1) (q + 1)) (q + 1) (v.items.drop i') x4)) := by
        intro x4
        have hrec := r_ent u fu v.items[i'] x4 (x1 + 1) (q + 1) c (by omega) hel' (hsi _ hm) hnd.2 (by omega) (by omega) (by omega) (by omega) (by omega) (hc.le (by omega)) (by omega)
        have hlen2 := ent_len u v.items[i'] x4 (x1 + 1) (q + 1) (hsi _ hm)
        unfold ref2_entries_j2
        rw [grd_p (by rw [hln]; omega), at_nat h1, bnd_s, hx2, hq2, hdr]
        have hrec' : ref2_entries fu (u.map Prod.fst) v.items[i'] x4 (x1 + 1) (q + 1) (GColumn.mk c.reps c.defs c.values) = _ := hrec
        rw [hrec', bnd_s, wrap_succ h1 (by omega)]
        have := ih f' (i' + 1) (apE c (ent u v.items[i'] x4 (x1 + 1) (q + 1))) (by omega) (by omega) (CR.app (hc.le (by omega)))
        rw [if_neg (by omega)] at this
        rw [hd]
        simp only [itL]
        rw [← apE_app]
        exact this
       rw [ref2_entries_l1, dec_lt h1, iftT, hq2]
       by_cases hz : i' = 0
       ·rw [decide_eq_false (by omega), iftF, if_pos hz]; exact j2 r
       ·rw [decide_eq_true (by omega), iftT, if_neg hz]; exact j2 (q + 1)
     have := loop v.items.length BIG 0 c (by omega) (by rw [big_val]; omega) (by rw [List.drop_zero]; exact hc.le (by omega))
     rw [show ((0 : Nat) : Int) = 0 from rfl, List.drop_zero, if_pos rfl] at this
     exact this
   ·rw [show (f.type.kind == 6) = false by simp [h6], iftF, if_neg h6]
    by_cases h7 : f.type.kind = 7
    ·rw [show (f.type.kind == 7) = true by simp [h7], iftT, if_pos h7]
     have hsi : hdI u < v.items.length ∧ Shp u (iv v (hdI u)) := by
      rcases hs with h | h | h | h
      ·exact absurd h h0
      ·exact absurd h.1 h6
      ·exact h.2
      ·exact absurd h7 h.2
     cases u with
     | nil => unfold EL lfK at hel; simp [h7] at hel
     | cons y u =>
      obtain ⟨g, j⟩ := y
      have hj : j < v.items.length := hsi.1
      have h2 := sizeL_mem (iv_mem hj)
      obtain ⟨⟨ha1, ha2⟩, hfl⟩ := hnd.1 h7
      have hjl : j < f.type.fields.length := by
       rcases Nat.lt_or_ge j f.type.fields.length with h | h
       ·exact h
       ·rw [List.getElem?_eq_none h] at ha1; cases ha1
      have hg : f.type.fields[j] = g := by rw [List.getElem?_eq_getElem hjl] at ha1; exact Option.some.inj ha1
      have hat : at? (((f, i) :: (g, j) :: u).map Prod.fst) (1 : Int) = some g := rfl
      have hrec := r_ent ((g, j) :: u) fu (iv v j) r x1 q c (by omega) hel.2 hsi.2 hnd.2 (by omega) (by omega) (by omega) (by omega) (by omega) (hc.le (by omega)) (by omega)
      have loop : ∀ (m f' i' : Nat) (c' : GColumn), i' + m = f.type.fields.length → m < f' → (i' ≤ j → c' = c) →
        ref2_entries_l2 (ref2_entries fu) (((f, i) :: (g, j) :: u).map Prod.fst) v r q f x1 f' c'.reps c'.defs c'.values (i' : Int) =
         some ((), if i' ≤ j then apE c (ent ((g, j) :: u) (iv v j) r x1 q) else c') := by
       intro m
       induction m with
       | zero =>
        intro f' i' c' hi hf hcc
        obtain ⟨f', rfl⟩ := fuel hf
        rw [ref2_entries_l2, dec_ge (by omega), iftF, if_neg (by omega)]
       | succ m ih =>
        intro f' i' c' hi hf hcc
        obtain ⟨f', rfl⟩ := fuel hf
        have h1 : i' < f.type.fields.length := by omega
        rw [ref2_entries_l2, dec_lt h1, iftT, at_nat h1, bnd_s, hat, bnd_s]
        unfold ref2_entries_j3
        by_cases hij : i' = j
        ·subst hij
         rw [show (f.type.fields[i'].id == g.id) = true by simp [hg], iftT, grd_p (by rw [hln]; omega), at_nat hj, bnd_s, iv_at hj, hdr, hcc (Nat.le_refl _)]
         have hrec' : ref2_entries fu (((g, i') :: u).map Prod.fst) (iv v i') r x1 q (GColumn.mk c.reps c.defs c.values) = _ := hrec
         rw [hrec', bnd_s, wrap_succ h1 hfl, if_pos (Nat.le_refl _)]
         have := ih f' (i' + 1) (apE c (ent ((g, i') :: u) (iv v i') r x1 q)) (by omega) (by omega) (fun h => by omega)
         rw [if_neg (by omega)] at this
         exact this
        ·have hne : (f.type.fields[i'].id == g.id) = false := by
          simp only [beq_eq_false_iff_ne]
          exact fun h => hij (ha2 i' h1 h)
         rw [hne, iftF, wrap_succ h1 hfl, ih f' (i' + 1) c' (by omega) (by omega) (fun h => hcc (by omega))]
         by_cases hle : i' ≤ j
         ·rw [if_pos hle, if_pos (by omega)]
         ·rw [if_neg hle, if_neg (by omega)]
      have := loop f.type.fields.length BIG 0 c (by omega) (by rw [big_val]; omega) (fun _ => rfl)
      rw [show ((0 : Nat) : Int) = 0 from rfl, if_pos (Nat.zero_le _)] at this
      rw [← hx1]
      exact this
    ·rw [show (f.type.kind == 7) = false by simp [h7], iftF, if_neg h7, grd_p (by omega), grd_p (by omega), grd_p (by omega), ← hx1]
     simp [apE]
  have hat0 : at? (((f, i) :: u).map Prod.fst) (0 : Int) = some f := rfl
  rw [ref2_entries, hat0, bnd_s]
  have hd2 : IntKind.i64.wrap (d + 1) = d + 1 := w64 (by omega) (by omega)
  cases hn : f.need with
  | true =>
   rw [Bool.not_true, iftF]
   exact j1 d (by unfold dn; rw [if_pos hn]) (by simp [hn])
  | false =>
   rw [Bool.not_false, iftT, hd2]
   by_cases hk0 : v.kind = 0
   ·rw [show (v.kind == 0) = true by simp [hk0], iftT, grd_p (by omega), grd_p (by omega)]
    simp only [ent]
    rw [if_pos ⟨hn, hk0⟩]
    simp [apE]
   ·rw [show (v.kind == 0) = false by simp [hk0], iftF]
    exact j1 (d + 1) (by unfold dn; simp [hn]) (fun h => hk0 h.2)

end Go.Proofs.YtmaemlebpjnmoaaDoor
namespace Go.Proofs.YtmaemlebpjnmoaaDoor
open Go Go.SX Go.SX.Cal
set_option linter.unusedVariables false
set_option linter.unusedSimpArgs false

theorem order_self (a : Int) : ref1_order a a = some 0 := by
 unfold ref1_order
 rw [decide_eq_false (by omega), iftF, iftF]

theorem ints_self {l : List Int} (hl : l.length < 1000000000) : law2_ints l l = some true := by
 have : ∀ (m f i : Nat), i + m = l.length → m < f → law2_ints_l1 l l f (i : Int) = some true := by
  intro m
  induction m with
  | zero => intro f i hi hf; obtain ⟨f, rfl⟩ := fuel hf; rw [law2_ints_l1, dec_ge (by omega), iftF]; rfl
  | succ m ih =>
   intro f i hi hf
   obtain ⟨f, rfl⟩ := fuel hf
   have h1 : i < l.length := by omega
   rw [law2_ints_l1, dec_lt h1, iftT, at_nat h1, bnd_s, bnd_s, bne_self_eq_false, iftF, wrap_succ h1 hl, ih f (i + 1) (by omega) (by omega)]
 unfold law2_ints
 rw [bne_self_eq_false, iftF]
 exact this l.length BIG 0 (by omega) (by rw [big_val]; omega)

theorem sints_self {l : List Int} (hl : l.length ≤ 4000000000) : ref2_sameInts l l = some true := by
 have : ∀ (m f i : Nat), i + m = l.length → m < f → ref2_sameInts_l1 l l f (i : Int) = some true := by
  intro m
  induction m with
  | zero => intro f i hi hf; obtain ⟨f, rfl⟩ := fuel hf; rw [ref2_sameInts_l1, dec_ge (by omega), iftF]; rfl
  | succ m ih =>
   intro f i hi hf
   obtain ⟨f, rfl⟩ := fuel hf
   have h1 : i < l.length := by omega
   rw [ref2_sameInts_l1, dec_lt h1, iftT, at_nat h1, bnd_s, bnd_s, bne_self_eq_false, iftF, w64 (x := (i : Int) + 1) (by omega) (by omega), show (i : Int) + 1 = ((i + 1 : Nat) : Int) by omega, ih f (i + 1) (by omega) (by omega)]
 unfold ref2_sameInts
 rw [bne_self_eq_false, iftF]
 exact this l.length BIG 0 (by omega) (by rw [big_val]; omega)

theorem type_self : ∀ (N k : Nat) (t : GType), sizeT t ≤ N → N < k → sizeT t < 1000000000 → ref1_SameType k t t = some true
 | 0, k, t, h, _, _ => by have := sizeT_eq t; omega
 | N + 1, k, t, h, hk, hs => by
  obtain ⟨k, rfl⟩ := fuel (m := N + 1) (f := k) hk
  have he := sizeT_eq t
  have hlen := sizeF_len t.fields
  have key : ∀ (m f i : Nat), i + m = t.fields.length → m < f → ref1_SameType_l1 (ref1_SameType k) t t f (i : Int) = some true := by
   intro m
   induction m with
   | zero => intro f i hi hf; obtain ⟨f, rfl⟩ := fuel hf; rw [ref1_SameType_l1, dec_ge (by omega), iftF]; rfl
   | succ m ih =>
    intro f i hi hf
    obtain ⟨f, rfl⟩ := fuel hf
    have h1 : i < t.fields.length := by omega
    have h2 := sizeF_mem (List.getElem_mem h1)
    have h3 := sizeFd_eq t.fields[i]
    unfold ref1_SameType_l1 ref1_SameType_j2
    rw [dec_lt h1, iftT, at_nat h1, bnd_s, bnd_s, show (t.fields[i].name.toList == t.fields[i].name.toList) = true by simp, Bool.not_true, iftF, show (t.fields[i].need == t.fields[i].need) = true by simp, Bool.not_true, iftF, type_self N k t.fields[i].type (by omega) (by omega) (by omega), bnd_s, Bool.not_true, iftF, wrap_succ h1 (by omega)]
    exact ih f (i + 1) (by omega) (by omega)
  rw [ref1_SameType, bne_self_eq_false, iftF, bne_self_eq_false, iftF, bne_self_eq_false]
  unfold ref1_SameType_j1
  rw [iftF]
  exact key t.fields.length BIG 0 (by omega) (by rw [big_val]; omega)

/-! ### values -/

theorem wide_some {p : Int} : ∀ (j k : Nat) (l : List Int) (x : Int), x.natAbs < 10 ^ j → j ≤ 18 → j < k → l.length + j ≤ 1000 → ∃ m, ref1_wideOf_l1 p k l x = some (RWide.mk (decide (p < (0 : Int))) m) ∧ m.length ≤ 1000
 | 0, k, l, x, hx, _, hk, hl => by
  obtain ⟨k, rfl⟩ := fuel hk
  have : x = 0 := by simp at hx; omega
  subst this
  rw [ref1_wideOf_l1, bne_self_eq_false, iftF]
  exact ⟨l, rfl, by omega⟩
 | j + 1, k, l, x, hx, hj, hk, hl => by
  obtain ⟨k, rfl⟩ := fuel hk
  by_cases h0 : x = 0
  ·subst h0
   rw [ref1_wideOf_l1, bne_self_eq_false, iftF]
   exact ⟨l, rfl, by omega⟩
  ·have hp : (10 : Nat) ^ (j + 1) ≤ 1000000000000000000 := by
    have := Nat.pow_le_pow_right (n := 10) (by omega) (show j + 1 ≤ 18 by omega)
    exact Nat.le_trans this (by decide)
   have hd : (x.tdiv 10).natAbs = x.natAbs / 10 := by rw [Int.natAbs_tdiv]; rfl
   have hd2 : x.natAbs / 10 < 10 ^ j := by
    rw [Nat.pow_succ] at hx
    exact Nat.div_lt_of_lt_mul (by rw [Nat.mul_comm]; exact hx)
   have hw : IntKind.i64.wrap (x.tdiv 10) = x.tdiv 10 := w64 (by omega) (by omega)
   rw [ref1_wideOf_l1, show (x != 0) = true by simp [h0], iftT]
   unfold ref1_wideOf_j1
   rw [grd_p (by omega), grd_p (by omega), hw, ]
   have h1 := fun y : Int => wide_some (p := p) j k (l ++ [y]) (x.tdiv 10) (by omega) (by omega) (by omega) (by simp; omega)
   by_cases hn : x.tmod 10 < 0
   ·rw [decide_eq_true hn, iftT]; exact h1 _
   ·rw [decide_eq_false hn, iftF]; exact h1 _

theorem most_self {l : List Int} (hl : l.length < 1000000000) : ref1_most l l = some 0 := by
 have : ∀ (i f : Nat), i ≤ l.length → i < f → ref1_most_l1 l l f ((i : Int) - 1) = some 0 := by
  intro i
  induction i with
  | zero => intro f hi hf; obtain ⟨f, rfl⟩ := fuel hf; rw [ref1_most_l1, decide_eq_false (by omega), iftF]; rfl
  | succ i ih =>
   intro f hi hf
   obtain ⟨f, rfl⟩ := fuel hf
   have h1 : i < l.length := by omega
   rw [show ((i + 1 : Nat) : Int) - 1 = (i : Int) by omega, ref1_most_l1, decide_eq_true (by omega), iftT, at_nat h1, bnd_s, bnd_s, bne_self_eq_false, iftF, w64 (x := (i : Int) - 1) (by omega) (by omega), ih f (by omega) (by omega)]
 unfold ref1_most
 rw [bne_self_eq_false, iftF, w64 (x := (l.length : Int) - 1) (by omega) (by omega)]
 exact this l.length BIG (by omega) (by rw [big_val]; omega)

theorem cwide_self {r : RWide} (hl : r.d.length < 1000000000) : ref1_compareWide r r = some 0 := by
 unfold ref1_compareWide
 rw [show (r.below == r.below) = true by simp, Bool.not_true, iftF, most_self hl, bnd_s]
 cases r.below <;> rfl

theorem twelve_some {v : GValue} (hn : -999999999999999999 ≤ v.n ∧ v.n ≤ 999999999999999999) (hs : 0 ≤ v.scale ∧ v.scale ≤ 12) : ∃ r, ref1_twelve v = some r ∧ r.d.length < 1000000000 := by
 obtain ⟨m, h1, h2⟩ := wide_some (p := v.n) 18 BIG [] v.n (by omega) (by omega) (by rw [big_val]; omega) (by simp)
 unfold ref1_twelve
 have h3 : ref1_wideOf v.n = some (RWide.mk (decide (v.n < (0 : Int))) m) := h1
 rw [h3, bnd_s, w64 (x := 12 - v.scale) (by omega) (by omega)]
 unfold ref1_tens
 by_cases h0 : m.length = 0
 ·rw [show (((RWide.mk (decide (v.n < (0 : Int))) m).d.length : Int) == 0) = true by simp [h0], iftT, bnd_s]
  exact ⟨_, rfl, by show m.length < _; omega⟩
 ·rw [show (((RWide.mk (decide (v.n < (0 : Int))) m).d.length : Int) == 0) = false by simp; intro h; rw [h] at h0; exact h0 rfl, iftF, grd_p (by omega), grd_p (by rw [List.length_replicate]; show _ + m.length ≤ _; omega), bnd_s]
  exact ⟨_, rfl, by show (List.replicate _ _ ++ m).length < _; rw [List.length_append, List.length_replicate]; omega⟩

theorem dec_self {v : GValue} (hn : -999999999999999999 ≤ v.n ∧ v.n ≤ 999999999999999999) (hs : 0 ≤ v.scale ∧ v.scale ≤ 12) : ref1_decimals v v = some 0 := by
 obtain ⟨r, h1, h2⟩ := twelve_some hn hs
 unfold ref1_decimals
 rw [rWithin, bnd_s, bnd_s, show ((decide (0 ≤ v.scale) && decide (v.scale ≤ 12)) == (decide (0 ≤ v.scale) && decide (v.scale ≤ 12))) = true by simp, Bool.not_true, iftF, decide_eq_true hs.1, decide_eq_true hs.2, Bool.and_self, iftT, h1, bnd_s, bnd_s, cwide_self h2, bnd_s, bne_self_eq_false, iftF, order_self]
 rfl

theorem texts_self {s : ByteArray} (hs : s.size < 1000000000) : ref1_texts s s = some 0 := by
 have : ∀ (m f i : Nat), i + m = s.size → m < f → ref1_texts_l1 s s f (i : Int) = some 0 := by
  intro m
  induction m with
  | zero =>
   intro f i hi hf
   obtain ⟨f, rfl⟩ := fuel hf
   rw [ref1_texts_l1, dec_ge (by omega), iftF]
   unfold ref1_texts_j1 ref1_texts_j2
   rw [iftF, order_self]; rfl
  | succ m ih =>
   intro f i hi hf
   obtain ⟨f, rfl⟩ := fuel hf
   have h1 : i < s.size := by omega
   rw [ref1_texts_l1, dec_lt h1, iftT]
   unfold ref1_texts_j1
   rw [iftT, grd_p (by omega), grd_p (by omega), bnd_s, bne_self_eq_false, iftF, wrap_succ h1 hs, ih f (i + 1) (by omega) (by omega)]
 exact this s.size BIG 0 (by omega) (by rw [big_val]; omega)

def Plain (v : GValue) : Prop := plainOk v = true ∧ v.kind ≠ 6 ∧ v.kind ≠ 7

theorem dec_of_plain {v : GValue} (h : plainOk v = true) (hk : v.kind = 3) : (-999999999999999999 ≤ v.n ∧ v.n ≤ 999999999999999999) ∧ (0 ≤ v.scale ∧ v.scale ≤ 12) := by
 unfold plainOk at h
 simp [hk] at h
 omega

theorem compare_j1 (q : GValue → GValue → Option Int) {v : GValue} (hs : v.s.size < 1000000000) (hi : v.items.length ≤ 4000000000) (hq : ∀ x ∈ v.items, q x x = some 0) : ref1_Compare_j1 q v v = some 0 := by
 have : ∀ (m f i : Nat), i + m = v.items.length → m < f → ref1_Compare_l1 q v v f (i : Int) = some 0 := by
  intro m
  induction m with
  | zero =>
   intro f i hi hf
   obtain ⟨f, rfl⟩ := fuel hf
   rw [ref1_Compare_l1, dec_ge (by omega), iftF]
   unfold ref1_Compare_j3 ref1_Compare_j4
   rw [iftF, order_self]; rfl
  | succ m ih =>
   intro f i hi hf
   obtain ⟨f, rfl⟩ := fuel hf
   have h1 : i < v.items.length := by omega
   rw [ref1_Compare_l1, dec_lt h1, iftT]
   unfold ref1_Compare_j3
   rw [iftT, at_nat h1, bnd_s, bnd_s, hq _ (List.getElem_mem h1), bnd_s, bne_self_eq_false, iftF, w64 (x := (i : Int) + 1) (by omega) (by omega), show (i : Int) + 1 = ((i + 1 : Nat) : Int) by omega, ih f (i + 1) (by omega) (by omega)]
 unfold ref1_Compare_j1 ref1_Compare_j2
 rw [bne_self_eq_false, iftF, iftF, bne_self_eq_false, iftF, texts_self hs, bnd_s, bne_self_eq_false, iftF]
 exact this v.items.length BIG 0 (by omega) (by rw [big_val]; omega)

theorem compare_leaf {v : GValue} (h : Plain v) (hs : v.s.size < 1000000000) (k : Nat) : ref1_Compare (k + 1) v v = some 0 := by
 have hi := plain_items h.1 h.2.1 h.2.2
 have hj := compare_j1 (ref1_Compare k) hs (by rw [hi]; simp) (by rw [hi]; intro x hx; cases hx)
 rw [ref1_Compare, show ((v.kind == 0) == (v.kind == 0)) = true by simp, Bool.not_true, iftF, bne_self_eq_false, iftF, hj]
 by_cases h0 : v.kind = 0
 ·rw [show (v.kind == 0) = true by simp [h0], iftT]
 ·rw [show (v.kind == 0) = false by simp [h0], iftF]
  by_cases h3 : v.kind = 3
  ·obtain ⟨a, b⟩ := dec_of_plain h.1 h3
   rw [show (v.kind == 3) = true by simp [h3], iftT, dec_self a b, bnd_s, bne_self_eq_false, iftF]
  ·rw [show (v.kind == 3) = false by simp [h3], iftF]

theorem crows_self {l : List GValue} (h : ∀ v ∈ l, Plain v ∧ v.s.size < 1000000000) (hl : l.length ≤ 4000000000) : ref1_CompareRows l l = some 0 := by
 unfold ref1_CompareRows
 have hb : BIG = 1152921504606846974 + 1 + 1 := rfl
 have hj := compare_j1 (ref1_Compare (1152921504606846974 + 1)) (v := GValue.mk (6 : Int) (0 : Int) (0 : Int) ByteArray.empty l) (by show ByteArray.empty.size < _; rw [empty_size]; omega) hl (fun x hx => compare_leaf (h x hx).1 (h x hx).2 _)
 rw [hb, ref1_Compare]
 simp only [show ((6 : Int) == 0) = false from rfl, show ((6 : Int) != 6) = false from rfl, show ((6 : Int) == 3) = false from rfl, BEq.rfl, Bool.not_true, iftF]
 rw [hj]; rfl

structure ColOk (c : GColumn) : Prop where
 a : c.reps.length ≤ 4000000000
 b : c.defs.length ≤ 4000000000
 e : c.values.length ≤ 4000000000
 d : ∀ v ∈ c.values, Plain v ∧ v.s.size < 1000000000

theorem cols_self {l : List GColumn} (h : ∀ c ∈ l, ColOk c) (hl : l.length < 1000000000) : ref2_SameColumns l l = some true := by
 have : ∀ (m f i : Nat), i + m = l.length → m < f → ref2_SameColumns_l1 l l f (i : Int) = some true := by
  intro m
  induction m with
  | zero => intro f i hi hf; obtain ⟨f, rfl⟩ := fuel hf; rw [ref2_SameColumns_l1, dec_ge (by omega), iftF]; rfl
  | succ m ih =>
   intro f i hi hf
   obtain ⟨f, rfl⟩ := fuel hf
   have h1 : i < l.length := by omega
   have hc := h _ (List.getElem_mem h1)
   unfold ref2_SameColumns_l1 ref2_SameColumns_j1
   rw [dec_lt h1, iftT, at_nat h1, bnd_s, bnd_s, sints_self hc.a, bnd_s, Bool.not_true, iftF, sints_self hc.b, bnd_s, Bool.not_true, iftF, bne_self_eq_false, iftF, crows_self hc.d hc.e, bnd_s, bne_self_eq_false, iftF, wrap_succ h1 hl]
   exact ih f (i + 1) (by omega) (by omega)
 unfold ref2_SameColumns
 rw [bne_self_eq_false, iftF]
 exact this l.length BIG 0 (by omega) (by rw [big_val]; omega)

end Go.Proofs.YtmaemlebpjnmoaaDoor
namespace Go.Proofs.YtmaemlebpjnmoaaDoor
open Go Go.SX Go.SX.Cal
set_option linter.unusedVariables false
set_option linter.unusedSimpArgs false

theorem scan_nodup : ∀ (l : List Int) (m : List (Int × Int)) (seen : List Int), Inv m seen → (scan l m).1 = 0 → l.Nodup ∧ ∀ x ∈ l, x ∉ seen
 | [], _, _, _, _ => ⟨List.nodup_nil, by simp⟩
 | x :: l, m, seen, h, h0 => by
  obtain ⟨h1, h2⟩ := stp_eq h x
  simp only [scan] at h0
  by_cases he : (stp x m).1 = 0
  ·rw [if_neg (fun k => k he)] at h0
   obtain ⟨h3, h4⟩ := scan_nodup l _ _ (h2 he) h0
   have hx : x ∉ seen := by
    intro hm
    rw [he, if_pos hm] at h1
    split at h1 <;> omega
   refine ⟨List.nodup_cons.2 ⟨fun hm => h4 x hm (by simp), h3⟩, fun y hy => ?_⟩
   rcases List.mem_cons.1 hy with rfl | hy
   ·exact hx
   ·exact fun hm => h4 y hy (by simp [hm])
  ·rw [if_pos he] at h0; exact absurd h0 he

def Uq (fs : List GField) : Prop := (idsFs fs).Nodup

theorem sc_zero {fs : List GField} (hs : sizeF fs < 1000000000 - 1) (h : sc fs = 0) : V ⟨7, 0, fs⟩ ∧ Uq fs := by
 obtain ⟨e, h1, h2, h3⟩ := checkType_eq ⟨7, 0, fs⟩ (by simp only [sizeT]; omega)
 have hc := sc_c hs
 rw [h] at hc
 unfold value_CheckSchema at hc
 rw [h1] at hc
 simp only [bnd_eq, ift_ite] at hc
 by_cases he : e = 0
 ·have w := walk_eq 1000000000 BIG fs [] (by omega) (by rw [big_val]; omega) (by omega)
  simp [he, w, bnd_eq] at hc
  exact ⟨h3 he, (scan_nodup (idsFs fs) [] [] (fun x => by simp [mget]) hc).1⟩
 ·simp [he] at hc

theorem idsFs_cons (f : GField) (fs : List GField) : idsFs (f :: fs) = idsFd f ++ idsFs fs := by simp only [idsFs]

theorem id_mem : ∀ {fs : List GField} {g : GField}, g ∈ fs → g.id ∈ idsFs fs
 | [], g, h => by cases h
 | f :: fs, g, h => by
  rw [idsFs_cons]
  rcases List.mem_cons.1 h with rfl | h
  ·exact List.mem_append_left _ (by rw [idsFd_eq]; exact List.mem_cons_self ..)
  ·exact List.mem_append_right _ (id_mem h)

theorem Uq.sub : ∀ {fs : List GField} {f : GField}, Uq fs → f ∈ fs → Uq f.type.fields
 | [], f, _, h => by cases h
 | g :: fs, f, hu, h => by
  unfold Uq at hu
  rw [idsFs_cons, List.nodup_append] at hu
  rcases List.mem_cons.1 h with rfl | h
  ·have := hu.1
   rw [idsFd_eq] at this
   exact (List.nodup_cons.1 this).2
  ·exact Uq.sub (fs := fs) hu.2.1 h

theorem Uq.inj : ∀ {fs : List GField} {j j' : Nat} {g g' : GField}, Uq fs → fs[j]? = some g → fs[j']? = some g' → g'.id = g.id → j' = j
 | [], j, j', g, g', _, h, _, _ => by simp at h
 | f :: fs, 0, 0, g, g', _, _, _, _ => rfl
 | f :: fs, 0, j' + 1, g, g', hu, h, h', he => by
  unfold Uq at hu
  rw [idsFs_cons, List.nodup_append] at hu
  simp at h h'
  subst h
  exact absurd he.symm (hu.2.2 _ (by rw [idsFd_eq]; exact List.mem_cons_self ..) _ (id_mem (List.mem_of_getElem? h')))
 | f :: fs, j + 1, 0, g, g', hu, h, h', he => by
  unfold Uq at hu
  rw [idsFs_cons, List.nodup_append] at hu
  simp at h h'
  subst h'
  exact absurd he (hu.2.2 _ (by rw [idsFd_eq]; exact List.mem_cons_self ..) _ (id_mem (List.mem_of_getElem? h)))
 | f :: fs, j + 1, j' + 1, g, g', hu, h, h', he => by
  unfold Uq at hu
  rw [idsFs_cons, List.nodup_append] at hu
  have := Uq.inj (fs := fs) (j := j) (j' := j') hu.2.1 (by simpa using h) (by simpa using h') he
  omega

theorem Uq.at1 {fs : List GField} {g : GField} {j : Nat} (hu : Uq fs) (h : fs[j]? = some g) : At1 fs g j :=
 ⟨h, fun j' h' he => hu.inj h (List.getElem?_eq_getElem h') he⟩

def Hd (fs : List GField) (w : Way) : Prop := ∃ f i u, w = (f, i) :: u ∧ fs[i]? = some f

theorem way_hd {N : Nat} {fs : List GField} {w : Way} (h : w ∈ WY N fs) : Hd fs w :=
 WY_ind (P := Hd) (fun fs f j hj hl => ⟨f, j, [], rfl, hj⟩) (fun fs f j u hj hl hu => ⟨f, j, u, rfl, hj⟩) N fs w h

theorem way_nd {N : Nat} {fs : List GField} {w : Way} (h : w ∈ WY N fs) (hu : Uq fs) (hs : sizeF fs < 1000000000) : Nd w := by
 have := WY_ind (P := fun fs w => Hd fs w ∧ (Uq fs → sizeF fs < 1000000000 → Nd w)) (fun fs f j hj hl => ⟨⟨f, j, [], rfl, hj⟩, fun _ _ => ⟨trivial, trivial⟩⟩) (fun fs f j u hj hl hu => ⟨⟨f, j, u, rfl, hj⟩, fun hq hs => by
  obtain ⟨⟨g, j', u', rfl, hg⟩, hn⟩ := hu
  have hf := List.mem_of_getElem? hj
  have h1 := sizeF_mem hf
  have h2 := sizeFd_fields f
  have h3 := sizeF_len f.type.fields
  exact ⟨fun _ => ⟨(hq.sub hf).at1 hg, by omega⟩, hn (hq.sub hf) (by omega)⟩⟩) N fs w h
 exact this.2 hu hs

theorem way_type {N : Nat} {fs : List GField} {w : Way} (h : w ∈ WY N fs) : ∀ l, sizeT (lfo l (w.map Prod.fst)).type ≤ sizeF fs := by
 refine WY_ind (P := fun fs w => ∀ l, sizeT (lfo l (w.map Prod.fst)).type ≤ sizeF fs) (fun fs f j hj hl l => ?_) (fun fs f j u hj hl hu l => ?_) N fs w h
 ·have h1 := sizeF_mem (List.mem_of_getElem? hj)
  have h2 := sizeFd_eq f
  simp only [List.map_cons, List.map_nil, lfo]
  omega
 ·have h1 := sizeF_mem (List.mem_of_getElem? hj)
  have h2 := sizeFd_fields f
  simp only [List.map_cons, lfo]
  exact Nat.le_trans (hu _) (by omega)

/-! ### values -/

theorem of_kind {d : Nat} {t : GType} {v : GValue} (h : ofD (d + 1) t v = true) : v.kind = 0 ∨ v.kind = t.kind := by
 simp only [ofD] at h
 by_cases h0 : v.kind = 0
 ·exact .inl h0
 ·rw [if_neg h0] at h
  by_cases h1 : v.kind = t.kind
  ·exact .inr h1
  ·rw [if_pos h1] at h; cases h

theorem of_rec {d : Nat} {t : GType} {v : GValue} (h : ofD (d + 1) t v = true) (hk : v.kind = t.kind) (h7 : t.kind = 7) : t.fields.length = v.items.length := by
 simp only [ofD] at h
 rw [if_neg (by omega), if_neg (fun hh => hh hk), if_neg (by omega)] at h
 by_cases h1 : t.fields.length = v.items.length
 ·exact h1
 ·rw [if_pos ⟨by omega, h1⟩] at h; cases h

theorem lack_at {d : Nat} {t : GType} {v : GValue} (h : lackD (d + 1) t v = false) {i : Nat} (hi : i < v.items.length) : ¬ (nd t i = true ∧ (iv v i).kind = 0) ∧ lackD d (ft t i) (iv v i) = false := by
 simp only [lackD] at h
 have hn : first (fun i => ((iv v i).kind == 0 && nd t i) || lackD d (ft t i) (iv v i)) 0 v.items.length = none := by
  cases hf : first (fun i => ((iv v i).kind == 0 && nd t i) || lackD d (ft t i) (iv v i)) 0 v.items.length with
  | none => rfl
  | some x => rw [hf] at h; cases h
 have := first_none.1 hn i (Nat.zero_le _) hi
 simp only [Bool.or_eq_false_iff] at this
 refine ⟨fun hh => ?_, this.2⟩
 have h1 := this.1
 rw [hh.1, hh.2] at h1
 cases h1

theorem itL_mem {g : GValue → Int → List Ent} {q : Int} : ∀ {l : List GValue} {r : Int} {x : Ent}, x ∈ itL g q l r → ∃ e ∈ l, ∃ r', x ∈ g e r'
 | [], r, x, h => by cases h
 | e :: l, r, x, h => by
  simp only [itL, List.mem_append] at h
  rcases h with h | h
  ·exact ⟨e, List.mem_cons_self .., r, h⟩
  ·obtain ⟨e', h1, h2⟩ := itL_mem h
   exact ⟨e', List.mem_cons_of_mem _ h1, h2⟩

def PlE (n : Nat) (E : List Ent) : Prop := ∀ x ∈ E, ∀ y, x.2.2 = some y → Plain y ∧ y.s.size < n

theorem PlE.le {n m : Nat} {E : List Ent} (h : PlE n E) (hm : n ≤ m) : PlE m E := fun x hx y hy => ⟨(h x hx y hy).1, Nat.lt_of_lt_of_le (h x hx y hy).2 hm⟩

structure Chk (f : GField) (d : Nat) (v : GValue) : Prop where
 s : Snd d v
 o : ofD d f.type v = true
 l : lackD d f.type v = false
 n : ¬ (f.need = true ∧ v.kind = 0)

theorem size_s (v : GValue) : v.s.size < sizeV v := by have := sizeV_eq v; omega

theorem way_shp {N : Nat} {fs : List GField} {w : Way} (h : w ∈ WY N fs) (hV : ∀ f ∈ fs, V f.type) {f : GField} {i : Nat} {u : Way} (hw : w = (f, i) :: u) {d : Nat} {v : GValue} (hc : Chk f d v) : Shp w v ∧ ∀ r p q, PlE (sizeV v) (ent w v r p q) := by
 have key := WY_ind (P := fun fs w => Hd fs w ∧ ((∀ f ∈ fs, V f.type) → ∀ f i u, w = (f, i) :: u → ∀ d v, Chk f d v → Shp w v ∧ ∀ r p q, PlE (sizeV v) (ent w v r p q)))
  (fun fs f j hj hl => ⟨⟨f, j, [], rfl, hj⟩, fun hV f' i' u' he d v hc => by
   cases he
   have hl' : f.type.kind ≠ 6 ∧ f.type.kind ≠ 7 := by unfold lfK at hl; exact of_decide_eq_true hl
   refine ⟨.inr (.inr (.inr hl')), fun r p q x hx y hy => ?_⟩
   simp only [ent] at hx
   by_cases h0 : f.need = false ∧ v.kind = 0
   ·rw [if_pos h0] at hx
    simp at hx; subst hx; cases hy
   ·rw [if_neg h0, if_neg hl'.1, if_neg hl'.2] at hx
    simp at hx; subst hx
    cases hy
    cases d with
    | zero => exact hc.s.zero.elim
    | succ d =>
     have hk := of_kind hc.o
     exact ⟨⟨hc.s.succ.1, by omega, by omega⟩, size_s v⟩⟩)
  (fun fs f j u hj hl hu => ⟨⟨f, j, u, rfl, hj⟩, fun hV f' i' u' he d v hc => by
   cases he
   obtain ⟨⟨g, j', u', rfl, hg⟩, ih⟩ := hu
   have hf := List.mem_of_getElem? hj
   have hVf := hV f hf
   have ih := ih hVf.fs g j' u' rfl
   cases d with
   | zero => exact hc.s.zero.elim
   | succ d =>
    have hk := of_kind hc.o
    obtain ⟨hfit, hof⟩ := fit_of hc.s hVf hc.o
    have hsz := sizeV_eq v
    have hit : ∀ i, i < v.items.length → f.type.fields[if f.type.kind = 6 then 0 else i]? = some g → Chk g d (iv v i) := by
     intro i hi hgi
     have e1 : ft f.type i = g.type := by unfold ft; rw [hgi]; rfl
     have e2 : nd f.type i = g.need := by unfold nd; rw [hgi]; rfl
     have hla := lack_at hc.l hi
     rw [e1, e2] at hla
     exact ⟨hc.s.succ.2 _ (iv_mem hi), by rw [← e1]; exact hof i hi, hla.2, hla.1⟩
    by_cases h0 : f.need = false ∧ v.kind = 0
    ·refine ⟨.inl h0, fun r p q x hx y hy => ?_⟩
     simp only [ent] at hx
     rw [if_pos h0] at hx
     simp at hx; subst hx; cases hy
    ·have hk0 : v.kind = f.type.kind := by
      rcases hk with h | h
      ·cases hn : f.need with
       | true => exact absurd ⟨hn, h⟩ hc.n
       | false => exact absurd ⟨hn, h⟩ h0
      ·exact h
     by_cases h6 : f.type.kind = 6
     ·have hlen := hVf.list h6
      have hj0 : j' = 0 := by
       rcases Nat.lt_or_ge j' f.type.fields.length with h | h
       ·omega
       ·rw [List.getElem?_eq_none h] at hg; cases hg
      subst hj0
      have hall : ∀ e ∈ v.items, Shp ((g, 0) :: u') e ∧ ∀ r p q, PlE (sizeV e) (ent ((g, 0) :: u') e r p q) := by
       intro e he
       obtain ⟨i, hi, rfl⟩ := List.getElem_of_mem he
       rw [iv_at hi]
       exact ih d _ (hit i hi (by rw [if_pos h6]; exact hg))
      refine ⟨.inr (.inl ⟨h6, fun e he => (hall e he).1⟩), fun r p q x hx y hy => ?_⟩
      unfold ent at hx
      rw [if_neg h0, if_pos h6] at hx
      by_cases hl0 : v.items.length = 0
      ·rw [if_pos hl0] at hx
       simp at hx; subst hx; cases hy
      ·rw [if_neg hl0] at hx
       obtain ⟨e, he, r', hx⟩ := itL_mem hx
       have h1 := sizeL_mem he
       exact ((hall e he).2 _ _ _).le (by omega) x hx y hy
     ·have h7 : f.type.kind = 7 := by
       unfold lfK at hl
       have := of_decide_eq_false hl
       omega
      have hlen := of_rec hc.o hk0 h7
      have hjl : j' < v.items.length := by
       rcases Nat.lt_or_ge j' f.type.fields.length with h | h
       ·omega
       ·rw [List.getElem?_eq_none h] at hg; cases hg
      obtain ⟨a, b⟩ := ih d _ (hit j' hjl (by rw [if_neg h6]; exact hg))
      refine ⟨.inr (.inr (.inl ⟨h7, hjl, a⟩)), fun r p q x hx y hy => ?_⟩
      unfold ent at hx
      rw [if_neg h0, if_neg h6, if_pos h7] at hx
      have h1 := sizeL_mem (iv_mem hjl)
      exact (b _ _ _).le (by omega) x hx y hy⟩) N fs w h
 exact key.2 hV f i u hw d v hc

theorem ck_ok {f : GField} {v : GValue} (hv : sizeV v < 1000000000) (hT : sizeT f.type < 1000000000) (h : ck f.type v = 0) (hn : ¬ (f.need = true ∧ v.kind = 0)) : Chk f 4 v := by
 obtain ⟨e, h1, h2, h3⟩ := checkType_eq f.type hT
 have hc := ck_c hv hT
 rw [h] at hc
 unfold value_Check at hc
 rw [h1, vSound v hv] at hc
 simp only [bnd_some'] at hc
 by_cases he : e = 0
 ·subst he
  have ht := h3 rfl
  cases hs : soundB v with
  | false => rw [hs] at hc; cases hc
  | true =>
   have hS : Snd 4 v := ⟨0, hs⟩
   obtain ⟨a, b⟩ := of_eq 4 BIG BIG f.type v hS ht hv hT (by rw [big_val]; omega) (by rw [big_val]; omega)
   rw [hs, a] at hc
   cases ho : ofD 4 f.type v with
   | false => rw [ho] at hc; cases hc
   | true =>
    obtain ⟨c, d⟩ := lack_eq 4 BIG BIG f.type v hS ht ho hv hT (by rw [big_val]; omega) (by rw [big_val]; omega)
    rw [ho, c] at hc
    cases hl : lackD 4 f.type v with
    | false => exact ⟨hS, ho, hl, hn⟩
    | true => rw [hl] at hc; cases hc
 ·rw [show (e != (0 : Int)) = true by simp [he]] at hc
  cases hc; exact absurd rfl he

end Go.Proofs.YtmaemlebpjnmoaaDoor
namespace Go.Proofs.YtmaemlebpjnmoaaDoor
open Go Go.SX Go.SX.Cal
set_option linter.unusedVariables false
set_option linter.unusedSimpArgs false

def rv (r : List GValue) (i : Nat) : GValue := r[i]?.getD ⟨0, 0, 0, ByteArray.empty, []⟩
theorem rv_at {r : List GValue} {i : Nat} (h : i < r.length) : r[i] = rv r i := by simp [rv, h]

structure RW1 (w : Way) (r : List GValue) : Prop where
 a : hdI w < r.length
 s : Shp w (rv r (hdI w))
 p : ∀ x p q, PlE (sizeV (rv r (hdI w))) (ent w (rv r (hdI w)) x p q)
 z : sizeV (rv r (hdI w)) ≤ sizeL r
 b : sizeL r < 1000000000

def tot (rows : List (List GValue)) : Nat := (rows.map sizeL).sum

def rowsE (w : Way) (rows : List (List GValue)) : List Ent := rows.flatMap fun r => ent w (rv r (hdI w)) 0 0 0

def c0 : GColumn := ⟨[], [], []⟩

theorem mkP_fields : ∀ (w : Way) (p : GPath), (mkP p w).fields = p.fields ++ w.map Prod.fst ∧ (mkP p w).pos = p.pos ++ w.map fun x => (x.2 : Int)
 | [], p => by simp [mkP]
 | (f, i) :: w, p => by
  obtain ⟨a, b⟩ := mkP_fields w (pstep p f i)
  simp only [mkP]
  rw [a, b]
  simp [pstep]

theorem along0 (w : Way) : Along (mkP p0 w) 0 w := by
 obtain ⟨a, b⟩ := mkP_fields w p0
 exact ⟨by rw [a]; simp [p0], by rw [b]; simp [p0]⟩

theorem clip_val (p : List GValue) : slices_Clip_api_Value_api_Value p = some p := by
 unfold slices_Clip_api_Value_api_Value
 rw [grd_p (by omega)]
 simp

theorem clip_col (p : List GColumn) : slices_Clip_api_Column_api_Column p = some p := by
 unfold slices_Clip_api_Column_api_Column
 rw [grd_p (by omega)]
 simp

theorem tot_cons (r : List GValue) (rows : List (List GValue)) : tot (r :: rows) = sizeL r + tot rows := by simp [tot]

theorem c_shred {w : Way} (hel : EL w) (hwl : w.length ≤ 2000000) {rows : List (List GValue)} (hr : ∀ r ∈ rows, RW1 w r) (hn : rows.length < 1000000000) (ht : tot rows ≤ 1000000000) : column_shred (mkP p0 w) rows = some (apE c0 (rowsE w rows)) := by
 have hal := along0 w
 cases w with
 | nil => exact hel.elim
 | cons x u =>
 obtain ⟨g, j⟩ := x
 have loop : ∀ (m f i : Nat) (c : GColumn), i + m = rows.length → m < f → CR c (tot (rows.drop i)) →
   column_shred_l1 (mkP p0 ((g, j) :: u)) rows f c.reps c.defs c.values (mkP p0 ((g, j) :: u)).leaf.path (mkP p0 ((g, j) :: u)).leaf.type.kind (mkP p0 ((g, j) :: u)).leaf.type.scale (mkP p0 ((g, j) :: u)).leaf.type.fields (mkP p0 ((g, j) :: u)).leaf.df (mkP p0 ((g, j) :: u)).leaf.rep (mkP p0 ((g, j) :: u)).fields (mkP p0 ((g, j) :: u)).pos (i : Int) =
    some (apE c (rowsE ((g, j) :: u) (rows.drop i))) := by
  generalize hP : mkP p0 ((g, j) :: u) = P
  rw [hP] at hal
  intro m
  induction m with
  | zero =>
   intro f i c hi hf hc
   obtain ⟨f, rfl⟩ := fuel hf
   rw [column_shred_l1, dec_ge (by omega), iftF, List.drop_of_length_le (by omega)]
   unfold column_shred_j1
   rw [clip_int, bnd_s, clip_int, bnd_s, clip_val, bnd_s]
   simp only [rowsE, List.flatMap_nil, apE_nil]
  | succ m ih =>
   intro f i c hi hf hc
   obtain ⟨f, rfl⟩ := fuel hf
   have h1 : i < rows.length := by omega
   have hrw := hr _ (List.getElem_mem h1)
   have hja : j < rows[i].length := hrw.a
   have hz : sizeV (rv rows[i] j) ≤ sizeL rows[i] := hrw.z
   have hb := hrw.b
   have hd := drop_at h1
   rw [hd, tot_cons] at hc
   have hput := c_put ((g, j) :: u) 0 BIG P (rv rows[i] j) 0 0 0 c hal (by rw [big_val]; omega) hel hrw.s (by omega) (by omega) (by omega) (by omega) (by omega) (hc.le (by omega)) (by omega)
   have hlen := ent_len ((g, j) :: u) (rv rows[i] j) 0 0 0 hrw.s
   rw [column_shred_l1, dec_lt h1, iftT, at_nat h1, bnd_s, show at? P.pos (0 : Int) = some (j : Int) from hal.ps, bnd_s, at_nat hja, bnd_s, rv_at hja, eta_t]
   have hput' : column_shredder_put BIG (rv rows[i] j) (0 : Int) (0 : Int) (0 : Int) (0 : Int) (GShredder.mk (GPath.mk (GLeaf.mk P.leaf.path P.leaf.type P.leaf.df P.leaf.rep) P.fields P.pos) (GColumn.mk c.reps c.defs c.values)) = _ := hput
   rw [hput', bnd_s, wrap_succ h1 hn, hd]
   have := ih f (i + 1) (apE c (ent ((g, j) :: u) (rv rows[i] j) 0 0 0)) (by omega) (by omega) (CR.app (hc.le (by have : sizeV (rv rows[i] (hdI ((g, j) :: u))) = sizeV (rv rows[i] j) := rfl; omega)))
   rw [apE_app] at this
   simp only [rowsE, List.flatMap_cons]
   exact this
 have := loop rows.length BIG 0 c0 (by omega) (by rw [big_val]; omega) ⟨by rw [List.drop_zero]; show 0 + _ ≤ _; omega, by rw [List.drop_zero]; show 0 + _ ≤ _; omega, by rw [List.drop_zero]; show 0 + _ ≤ _; omega⟩
 rw [show ((0 : Nat) : Int) = 0 from rfl, List.drop_zero] at this
 exact this

theorem c_shreds {W : List Way} (hW : ∀ w ∈ W, EL w ∧ w.length ≤ 2000000) (hWn : W.length < 1000000000) {rows : List (List GValue)} (hr : ∀ w ∈ W, ∀ r ∈ rows, RW1 w r) (hn : rows.length < 1000000000) (ht : tot rows ≤ 1000000000) : ∀ (m f i : Nat) (l : List GColumn), i + m = W.length → m < f → l.length = i →
  column_Shred_l1 rows (W.map (mkP p0)) f l (i : Int) = some (l ++ (W.drop i).map (fun w => apE c0 (rowsE w rows)), 0) := by
 intro m
 induction m with
 | zero =>
  intro f i l hi hf hl
  obtain ⟨f, rfl⟩ := fuel hf
  rw [column_Shred_l1, dec_ge (by rw [List.length_map]; omega), iftF, List.drop_of_length_le (by omega)]
  unfold column_Shred_j1
  rw [clip_col, bnd_s]
  simp
 | succ m ih =>
  intro f i l hi hf hl
  obtain ⟨f, rfl⟩ := fuel hf
  have h1 : i < W.length := by omega
  have h2 : i < (W.map (mkP p0)).length := by rw [List.length_map]; exact h1
  have hm := List.getElem_mem h1
  rw [column_Shred_l1, dec_lt h2, iftT, at_nat h2, bnd_s, List.getElem_map, c_shred (hW _ hm).1 (hW _ hm).2 (hr _ hm) hn ht, bnd_s, grd_p (by omega), wrap_succ h1 hWn, ih f (i + 1) _ (by omega) (by omega) (by simp; omega), drop_at h1]
  simp only [List.map_cons, List.append_assoc, List.singleton_append]

/-! ### the reference -/

theorem r_row_way {fs : List GField} {g : GField} {j : Nat} {u : Way} (hat1 : At1 fs g j) (hfn : fs.length < 1000000000) (hel : EL ((g, j) :: u)) (hnd : Nd ((g, j) :: u)) (hwl : ((g, j) :: u).length ≤ 2000000) {r : List GValue} (hr : RW1 ((g, j) :: u) r) (hrl : r.length = fs.length) (rec2 : List Int → List Int → List GValue → Int → Option (List GColumn)) (x2 : Int) {c : GColumn} (hc : CR c (sizeL r)) :
  ref2_shred_l3 rec2 fs (((g, j) :: u).map Prod.fst) x2 r BIG c.reps c.defs c.values (0 : Int) = ref2_shred_j2 rec2 x2 (apE c (ent ((g, j) :: u) (rv r j) 0 0 0)).reps (apE c (ent ((g, j) :: u) (rv r j) 0 0 0)).defs (apE c (ent ((g, j) :: u) (rv r j) 0 0 0)).values := by
 have hja : j < r.length := hr.a
 have hjf : j < fs.length := by omega
 have hz : sizeV (rv r j) ≤ sizeL r := hr.z
 have hb := hr.b
 have hg : fs[j] = g := by have := hat1.1; rw [List.getElem?_eq_getElem hjf] at this; exact Option.some.inj this
 have hrec := r_ent ((g, j) :: u) BIG (rv r j) 0 0 0 c (by rw [big_val]; omega) hel hr.s hnd (by omega) (by omega) (by omega) (by omega) (by omega) (hc.le hz) (by omega)
 have hat : at? (((g, j) :: u).map Prod.fst) (0 : Int) = some g := rfl
 have loop : ∀ (m f i : Nat) (c' : GColumn), i + m = fs.length → m < f → (i ≤ j → c' = c) →
   ref2_shred_l3 rec2 fs (((g, j) :: u).map Prod.fst) x2 r f c'.reps c'.defs c'.values (i : Int) =
    if i ≤ j then ref2_shred_j2 rec2 x2 (apE c (ent ((g, j) :: u) (rv r j) 0 0 0)).reps (apE c (ent ((g, j) :: u) (rv r j) 0 0 0)).defs (apE c (ent ((g, j) :: u) (rv r j) 0 0 0)).values else ref2_shred_j2 rec2 x2 c'.reps c'.defs c'.values := by
  intro m
  induction m with
  | zero =>
   intro f i c' hi hf hcc
   obtain ⟨f, rfl⟩ := fuel hf
   rw [ref2_shred_l3, dec_ge (by omega), iftF, if_neg (by omega)]
  | succ m ih =>
   intro f i c' hi hf hcc
   obtain ⟨f, rfl⟩ := fuel hf
   have h1 : i < fs.length := by omega
   rw [ref2_shred_l3, dec_lt h1, iftT, at_nat h1, bnd_s, hat, bnd_s]
   unfold ref2_shred_j1
   by_cases hij : i = j
   ·subst hij
    rw [show (fs[i].id == g.id) = true by simp [hg], iftT, at_nat hja, bnd_s, rv_at hja, hcc (Nat.le_refl _)]
    have hrec' : ref2_entries BIG (((g, i) :: u).map Prod.fst) (rv r i) 0 0 0 (GColumn.mk c.reps c.defs c.values) = _ := hrec
    rw [hrec', bnd_s, wrap_succ h1 hfn, if_pos (Nat.le_refl _)]
    have := ih f (i + 1) (apE c (ent ((g, i) :: u) (rv r i) 0 0 0)) (by omega) (by omega) (fun h => by omega)
    rw [if_neg (by omega)] at this
    exact this
   ·have hne : (fs[i].id == g.id) = false := by
     simp only [beq_eq_false_iff_ne]
     exact fun h => hij (hat1.2 i h1 h)
    rw [hne, iftF, wrap_succ h1 hfn, ih f (i + 1) c' (by omega) (by omega) (fun h => hcc (by omega))]
    by_cases hle : i ≤ j
    ·rw [if_pos hle, if_pos (by omega)]
    ·rw [if_neg hle, if_neg (by omega)]
 have := loop fs.length BIG 0 c (by omega) (by rw [big_val]; omega) (fun _ => rfl)
 rw [show ((0 : Nat) : Int) = 0 from rfl, if_pos (Nat.zero_le _)] at this
 exact this

theorem r_shred {fs : List GField} {w : Way} (hhd : Hd fs w) (hu : Uq fs) (hfn : fs.length < 1000000000) (hel : EL w) (hnd : Nd w) (hwl : w.length ≤ 2000000) {rows : List (List GValue)} (hr : ∀ r ∈ rows, RW1 w r ∧ r.length = fs.length) (hn : rows.length < 1000000000) (ht : tot rows ≤ 1000000000) (rec1 : List GColumn → Int → Option (List GColumn)) (l1 : List GColumn) (x1 : Int) :
  ref2_shred_l2 rec1 fs rows l1 x1 (w.map Prod.fst) BIG [] [] [] (0 : Int) = ref2_shred_j3 rec1 l1 x1 (apE c0 (rowsE w rows)).reps (apE c0 (rowsE w rows)).defs (apE c0 (rowsE w rows)).values := by
 obtain ⟨g, j, u, rfl, hg⟩ := hhd
 have hat1 := hu.at1 hg
 have loop : ∀ (m f i : Nat) (c : GColumn), i + m = rows.length → m < f → CR c (tot (rows.drop i)) →
   ref2_shred_l2 rec1 fs rows l1 x1 (((g, j) :: u).map Prod.fst) f c.reps c.defs c.values (i : Int) = ref2_shred_j3 rec1 l1 x1 (apE c (rowsE ((g, j) :: u) (rows.drop i))).reps (apE c (rowsE ((g, j) :: u) (rows.drop i))).defs (apE c (rowsE ((g, j) :: u) (rows.drop i))).values := by
  intro m
  induction m with
  | zero =>
   intro f i c hi hf hc
   obtain ⟨f, rfl⟩ := fuel hf
   rw [ref2_shred_l2, dec_ge (by omega), iftF, List.drop_of_length_le (by omega)]
   simp only [rowsE, List.flatMap_nil, apE_nil]
  | succ m ih =>
   intro f i c hi hf hc
   obtain ⟨f, rfl⟩ := fuel hf
   have h1 : i < rows.length := by omega
   obtain ⟨hrw, hrl⟩ := hr _ (List.getElem_mem h1)
   have hz : sizeV (rv rows[i] j) ≤ sizeL rows[i] := hrw.z
   have hd := drop_at h1
   rw [hd, tot_cons] at hc
   have hlen := ent_len ((g, j) :: u) (rv rows[i] j) 0 0 0 hrw.s
   rw [ref2_shred_l2, dec_lt h1, iftT, at_nat h1, bnd_s, r_row_way hat1 hfn hel hnd hwl hrw hrl _ _ (hc.le (by omega))]
   unfold ref2_shred_j2
   rw [wrap_succ h1 hn, hd]
   have := ih f (i + 1) (apE c (ent ((g, j) :: u) (rv rows[i] j) 0 0 0)) (by omega) (by omega) (CR.app (hc.le (by have : sizeV (rv rows[i] (hdI ((g, j) :: u))) = sizeV (rv rows[i] j) := rfl; omega)))
   rw [apE_app] at this
   simp only [rowsE, List.flatMap_cons]
   exact this
 have := loop rows.length BIG 0 c0 (by omega) (by rw [big_val]; omega) ⟨by rw [List.drop_zero]; show 0 + _ ≤ _; omega, by rw [List.drop_zero]; show 0 + _ ≤ _; omega, by rw [List.drop_zero]; show 0 + _ ≤ _; omega⟩
 rw [show ((0 : Nat) : Int) = 0 from rfl, List.drop_zero] at this
 exact this

theorem r_shreds {fs : List GField} (hu : Uq fs) (hfn : fs.length < 1000000000) {W : List Way} (hW : ∀ w ∈ W, Hd fs w ∧ EL w ∧ Nd w ∧ w.length ≤ 2000000) (hWn : W.length < 1000000000) {rows : List (List GValue)} (hr : ∀ w ∈ W, ∀ r ∈ rows, RW1 w r ∧ r.length = fs.length) (hn : rows.length < 1000000000) (ht : tot rows ≤ 1000000000) : ∀ (m f i : Nat) (l : List GColumn), i + m = W.length → m < f → l.length = i →
  ref2_shred_l1 fs rows (W.map (List.map Prod.fst)) f l (i : Int) = some (l ++ (W.drop i).map (fun w => apE c0 (rowsE w rows))) := by
 intro m
 induction m with
 | zero =>
  intro f i l hi hf hl
  obtain ⟨f, rfl⟩ := fuel hf
  rw [ref2_shred_l1, dec_ge (by rw [List.length_map]; omega), iftF, List.drop_of_length_le (by omega)]
  unfold ref2_shred_j4
  simp
 | succ m ih =>
  intro f i l hi hf hl
  obtain ⟨f, rfl⟩ := fuel hf
  have h1 : i < W.length := by omega
  have h2 : i < (W.map (List.map Prod.fst)).length := by rw [List.length_map]; exact h1
  have hm := List.getElem_mem h1
  obtain ⟨a, b, c, d⟩ := hW _ hm
  rw [ref2_shred_l1, dec_lt h2, iftT, at_nat h2, bnd_s, List.getElem_map, r_shred a hu hfn b c d (hr _ hm) hn ht]
  unfold ref2_shred_j3
  have := ih f (i + 1) (l ++ [apE c0 (rowsE W[i] rows)]) (by omega) (by omega) (by simp; omega)
  rw [grd_p (by omega), wrap_succ h1 hWn, drop_at h1]
  simp only [List.map_cons]
  rw [List.append_assoc, List.singleton_append] at this
  exact this

/-! ### the law -/

structure Room (fs : List GField) (rows : List (List GValue)) : Prop where
 f : sizeF fs ≤ 2000000
 t : tot rows ≤ 100000000
 n : rows.length < 100000000

theorem tot_mem : ∀ {rows : List (List GValue)} {r : List GValue}, r ∈ rows → sizeL r ≤ tot rows
 | [], r, h => by cases h
 | x :: rows, r, h => by
  rw [tot_cons]
  rcases List.mem_cons.1 h with rfl | h
  ·omega
  ·have := tot_mem h; omega

theorem rows_ok {fs : List GField} {rows : List (List GValue)} (h : Room fs rows) (h0 : sc fs = 0) (hr : rowsF fs rows = 0) : ∀ w ∈ WS fs, ∀ r ∈ rows, RW1 w r ∧ r.length = fs.length := by
 intro w hw r hm
 have hf := h.f
 have ht := h.t
 obtain ⟨hV, hu⟩ := sc_zero (by omega) h0
 obtain ⟨hl, hrow⟩ := rowsF_at hr r hm
 obtain ⟨f, i, u, rfl, hfi⟩ := way_hd hw
 have hsr := tot_mem hm
 have hi : i < fs.length := by
  rcases Nat.lt_or_ge i fs.length with h | h
  ·exact h
  ·rw [List.getElem?_eq_none h] at hfi; cases hfi
 have hir : i < r.length := by omega
 have hri : r[i]? = some (rv r i) := by rw [List.getElem?_eq_getElem hir, rv_at hir]
 obtain ⟨hc, hn⟩ := rowF_at hrow i f _ hfi hri
 have hz : sizeV (rv r i) ≤ sizeL r := sizeL_mem (List.mem_of_getElem? hri)
 have hfm := sizeF_mem (List.mem_of_getElem? hfi)
 have hfe := sizeFd_eq f
 obtain ⟨a, b⟩ := way_shp hw (fun f hf => hV.fs f hf) rfl (ck_ok (by omega) (by omega) hc hn)
 exact ⟨⟨hir, a, b, hz, by omega⟩, hl⟩

def colsE (fs : List GField) (rows : List (List GValue)) : List GColumn := (WS fs).map fun w => apE c0 (rowsE w rows)

noncomputable def shF (fs : List GField) (rows : List (List GValue)) : List GColumn × Int := if crF fs rows ≠ 0 then ([], crF fs rows) else (colsE fs rows, 0)

theorem crF_zero {fs : List GField} {rows : List (List GValue)} (h : crF fs rows = 0) : sc fs = 0 ∧ rowsF fs rows = 0 := by
 unfold crF at h
 by_cases h0 : sc fs = 0
 ·rw [if_neg (fun k => k h0)] at h
  by_cases h1 : 2000 < rows.length
  ·rw [if_pos h1] at h; cases h
  ·rw [if_neg h1] at h; exact ⟨h0, h⟩
 ·rw [if_pos h0] at h; exact absurd h h0

theorem size_rows {fs : List GField} {rows : List (List GValue)} (h : Room fs rows) : ∀ r ∈ rows, sizeL r < 1000000000 := fun r hr => by
 have := tot_mem hr
 have := h.t
 omega

theorem c_Shred {fs : List GField} {rows : List (List GValue)} (h : Room fs rows) : column_Shred fs rows = some (shF fs rows) := by
 have hf := h.f; have ht := h.t; have hn := h.n
 have hw := WS_len fs
 unfold column_Shred shF
 rw [c_CheckRows (by omega) (size_rows h) (by omega), bnd_s]
 by_cases h0 : crF fs rows = 0
 ·obtain ⟨h1, h2⟩ := crF_zero h0
  have hro := rows_ok h h1 h2
  have := c_shreds (W := WS fs) (fun w hw => ⟨way_EL hw, by have := (way_len hw).2; omega⟩) (by omega) (fun w hw r hr => (hro w hw r hr).1) (by omega) (by omega) (WS fs).length BIG 0 [] (by omega) (by rw [big_val]; omega) rfl
  rw [show ((0 : Nat) : Int) = 0 from rfl, List.drop_zero, List.nil_append] at this
  rw [h0, show ((0 : Int) != 0) = false from rfl, iftF, if_neg (fun h => h rfl), c_paths (by omega), bnd_s]
  exact this
 ·rw [show (crF fs rows != 0) = true by simp [h0], iftT, if_pos h0]

theorem r_Shred {fs : List GField} {rows : List (List GValue)} (h : Room fs rows) : ref2_Shred fs rows = some (shF fs rows) := by
 have hf := h.f; have ht := h.t; have hn := h.n
 have hw := WS_len fs
 have hfl := sizeF_len fs
 unfold ref2_Shred shF
 rw [r_CheckRows (by omega) (size_rows h) (by omega), bnd_s]
 by_cases h0 : crF fs rows = 0
 ·obtain ⟨h1, h2⟩ := crF_zero h0
  obtain ⟨hV, hu⟩ := sc_zero (by omega) h1
  have hro := rows_ok h h1 h2
  have := r_shreds hu (by omega) (W := WS fs) (fun w hw => ⟨way_hd hw, way_EL hw, way_nd hw hu (by omega), by have := (way_len hw).2; omega⟩) (by omega) hro (by omega) (by omega) (WS fs).length BIG 0 [] (by omega) (by rw [big_val]; omega) rfl
  rw [show ((0 : Nat) : Int) = 0 from rfl, List.drop_zero, List.nil_append] at this
  unfold ref2_shred
  have hrw : ref2_ways BIG fs = some ((WS fs).map (List.map Prod.fst)) := r_ways (by omega)
  rw [h0, show ((0 : Int) != 0) = false from rfl, iftF, if_neg (fun h => h rfl), hrw, bnd_s, this, bnd_s]
  rfl
 ·rw [show (crF fs rows != 0) = true by simp [h0], iftT, if_pos h0]

theorem rowsE_len {w : Way} : ∀ {rows : List (List GValue)}, (∀ r ∈ rows, RW1 w r) → (rowsE w rows).length ≤ tot rows
 | [], _ => by simp [rowsE, tot]
 | r :: rows, h => by
  have h1 := rowsE_len (w := w) (rows := rows) (fun x hx => h x (List.mem_cons_of_mem _ hx))
  have h2 := h r (List.mem_cons_self ..)
  have h3 := ent_len w (rv r (hdI w)) 0 0 0 h2.s
  have h4 := h2.z
  rw [tot_cons]
  simp only [rowsE, List.flatMap_cons, List.length_append] at h1 ⊢
  omega

theorem col_ok {w : Way} {rows : List (List GValue)} (h : ∀ r ∈ rows, RW1 w r) (ht : tot rows ≤ 1000000000) : ColOk (apE c0 (rowsE w rows)) := by
 have h1 := rowsE_len h
 have h2 := List.length_filterMap_le (fun x : Ent => x.2.2) (rowsE w rows)
 refine ⟨?_, ?_, ?_, fun v hv => ?_⟩
 ·simp only [apE, c0, List.length_append, List.length_map, List.length_nil]; omega
 ·simp only [apE, c0, List.length_append, List.length_map, List.length_nil]; omega
 ·simp only [apE, c0, List.length_append, List.length_nil]; omega
 ·simp only [apE, c0, List.nil_append] at hv
  obtain ⟨x, hx, hy⟩ := List.mem_filterMap.1 hv
  obtain ⟨r, hr, hx⟩ := List.mem_flatMap.1 hx
  have hp := (h r hr).p 0 0 0 x hx v hy
  have hz := (h r hr).z
  have hb := (h r hr).b
  exact ⟨hp.1, by have := hp.2; omega⟩

theorem shreds_true : law2_shreds = some true := by decide +kernel

theorem law_j3 {fs : List GField} {rows : List (List GValue)} (h : Room fs rows) : law2_ColumnRowsMatchSpec_j3 fs rows = some true := by
 have hw := WS_len fs
 have hf := h.f; have ht := h.t
 unfold law2_ColumnRowsMatchSpec_j3
 rw [c_Shred h, bnd_s, r_Shred h, bnd_s, show ((shF fs rows).2 == (shF fs rows).2) = true by simp, iftT]
 have : ref2_SameColumns (shF fs rows).1 (shF fs rows).1 = some true := by
  unfold shF
  by_cases h0 : crF fs rows = 0
  ·obtain ⟨h1, h2⟩ := crF_zero h0
   have hro := rows_ok h h1 h2
   rw [if_neg (fun k => k h0)]
   refine cols_self (fun c hc => ?_) (by simp only [colsE, List.length_map]; omega)
   obtain ⟨w, hw, rfl⟩ := List.mem_map.1 hc
   exact col_ok (fun r hr => (hro w hw r hr).1) (by omega)
  ·rw [if_pos h0]
   exact cols_self (fun c hc => by cases hc) (by simp)
 rw [this, bnd_s]; rfl

theorem law_rows {fs : List GField} {rows : List (List GValue)} (h : Room fs rows) : law2_ColumnRowsMatchSpec fs rows = some true := by
 have hf := h.f; have ht := h.t; have hn := h.n
 have hw := WS_len fs
 have loop : ∀ (L : List GLeaf) (e : Int), L.length < 1000000000 → (∀ l ∈ L, l.path.length < 1000000000 ∧ sizeT l.type < 1000000000) → ∀ (m f i : Nat), i + m = L.length → m < f → law2_ColumnRowsMatchSpec_l1 fs rows (L, e) (L, e) f (i : Int) = some true := by
  intro L e hL hok m
  induction m with
  | zero =>
   intro f i hi hf
   obtain ⟨f, rfl⟩ := fuel hf
   rw [law2_ColumnRowsMatchSpec_l1, dec_ge (by show ¬ i < L.length; omega), iftF]
   exact law_j3 h
  | succ m ih =>
   intro f i hi hf
   obtain ⟨f, rfl⟩ := fuel hf
   have h1 : i < L.length := by omega
   obtain ⟨a, b⟩ := hok _ (List.getElem_mem h1)
   unfold law2_ColumnRowsMatchSpec_l1 law2_ColumnRowsMatchSpec_j2
   simp only
   rw [dec_lt h1, iftT, at_nat h1, bnd_s, bnd_s, ints_self a, bnd_s, Bool.not_true, iftF, type_self 1000000000 BIG _ (by omega) (by rw [big_val]; omega) b, bnd_s, Bool.not_true, iftF, bne_self_eq_false, iftF, bne_self_eq_false, iftF, wrap_succ h1 hL]
   exact ih f (i + 1) (by omega) (by omega)
 have key : ∀ (L : List GLeaf) (e : Int), L.length < 1000000000 → (∀ l ∈ L, l.path.length < 1000000000 ∧ sizeT l.type < 1000000000) → column_Leaves fs = some (L, e) → ref2_Leaves fs = some (L, e) → law2_ColumnRowsMatchSpec fs rows = some true := by
  intro L e hL hok h1 h2
  unfold law2_ColumnRowsMatchSpec law2_ColumnRowsMatchSpec_j1
  rw [shreds_true, bnd_s, Bool.not_true, iftF, h1, bnd_s, h2, bnd_s]
  simp only [bne_self_eq_false]
  rw [iftF, iftF, c_CheckRows (by omega) (size_rows h) (by omega), bnd_s, r_CheckRows (by omega) (size_rows h) (by omega), bnd_s, bne_self_eq_false, iftF]
  exact loop L e hL hok L.length BIG 0 (by omega) (by rw [big_val]; omega)
 have hc := c_Leaves (fs := fs) (by omega)
 have hr := r_Leaves (fs := fs) (by omega)
 by_cases h0 : sc fs = 0
 ·rw [if_neg (fun k => k h0)] at hc hr
  refine key _ _ (by simp only [lvs, List.length_map]; omega) (fun l hl => ?_) hc hr
  obtain ⟨w, hw, rfl⟩ := List.mem_map.1 hl
  have h1 := (way_len hw).2
  have h2 := way_type hw l0
  refine ⟨?_, by omega⟩
  rw [lfo_path]
  simp only [l0, List.nil_append, List.length_map]
  omega
 ·rw [if_pos h0] at hc hr
  exact key _ _ (by simp) (fun l hl => by cases hl) hc hr

end Go.Proofs.YtmaemlebpjnmoaaDoor
namespace Go.Proofs.YtmaemlebpjnmoaaDoor
open Go Go.SX Go.SX.Cal
set_option linter.unusedVariables false

theorem sizeL_sum : ∀ l : List GValue, sizeL l = (l.map sizeV).sum
 | [] => by simp [sizeL]
 | x :: l => by simp [sizeL, sizeL_sum l]

theorem sz_mk (k n sc : Int) (s : ByteArray) (it : List GValue) : sizeV ⟨k, n, sc, s, it⟩ ≤ s.size + (it.map sizeV).sum + 6 := by
 simp only [sizeV, sizeL_sum]; omega

theorem sizeF_sum : ∀ l : List GField, sizeF l = (l.map sizeFd).sum
 | [] => by simp [sizeF]
 | x :: l => by simp [sizeF, sizeF_sum l]

theorem szT_mk (k s : Int) (fs : List GField) : sizeT ⟨k, s, fs⟩ ≤ (fs.map sizeFd).sum + 4 := by
 rw [sizeT_eq, sizeF_sum]; simp only; omega

theorem szF_mk (i : Int) (n : ByteArray) (q : Bool) (t : GType) : sizeFd ⟨i, n, q, t⟩ ≤ n.size + sizeT t + 4 := by
 rw [sizeFd_eq]; simp only; omega

def szRow (r : List GValue) : Nat := sizeL r + 1
def szRows (rows : List (List GValue)) : Nat := (rows.map szRow).sum

theorem szRows_eq : ∀ rows : List (List GValue), szRows rows = tot rows + rows.length
 | [] => by simp [szRows, tot]
 | r :: rows => by
  have := szRows_eq rows
  unfold szRows at this ⊢
  rw [tot_cons, List.map_cons, List.sum_cons, List.length_cons, this]
  unfold szRow; omega

theorem law_top {fs : List GField} {rows : List (List GValue)} (h1 : sizeF fs ≤ 1048576) (h2 : szRows rows ≤ 1048576) : law2_ColumnRowsMatchSpec fs rows = some true := by
 rw [szRows_eq] at h2
 exact law_rows ⟨by omega, by omega, by omega⟩

end Go.Proofs.YtmaemlebpjnmoaaDoor
