/- Names of objects, of both sides. Buckets: what the program's map keeps, the document's list keeps. Buckets: the operations, and the law. The operations of a bucket, read from a row. -/
import Derived.Laws.Runes
import Derived.Test.YtliijalplckcnaaProg
import Derived.Test.YtliijalplckcnaaGeA
set_option linter.unusedVariables false
set_option linter.unusedSimpArgs false
set_option linter.unnecessarySimpa false
namespace Go.Proofs.Ytliijalplckcnaa
open Go Go.SX Go.Lib
set_option linter.unusedVariables false
set_option linter.unusedSimpArgs false

theorem ift_true {β : Type} (x y : Option β) : ift true x y = x := rfl
theorem ift_false {β : Type} (x y : Option β) : ift false x y = y := rfl
theorem ift_ite {β : Type} (b : Bool) (x y : Option β) : ift b x y = if b = true then x else y := by cases b <;> rfl
theorem big_val : BIG = 1152921504606846976 := rfl

def first (P : Nat → Bool) (i n : Nat) : Option Nat := (List.range' i (n - i)).find? P

theorem first_step {P : Nat → Bool} {i n : Nat} (h : i < n) : first P i n = if P i = true then some i else first P (i + 1) n := by
 unfold first
 rw [show n - i = (n - (i + 1)) + 1 by omega, List.range'_succ, List.find?_cons]
 cases hp : P i <;> simp [hp]

theorem first_end {P : Nat → Bool} {n : Nat} : first P n n = none := by simp [first]

theorem first_none {P : Nat → Bool} {i n : Nat} : first P i n = none ↔ ∀ j, i ≤ j → j < n → P j = false := by
 unfold first
 rw [List.find?_eq_none]
 constructor
 ·intro h j h1 h2
  have := h j (by rw [List.mem_range'_1]; omega)
  simpa using this
 ·intro h j hj
  rw [List.mem_range'_1] at hj
  have := h j (by omega) (by omega)
  simp [this]

theorem search {β : Type} {f : Nat → Nat → Option β} {n : Nat} {P : Nat → Bool} {A : Nat → Option β} {B : Option β} (hstep : ∀ k i, i < n → f (k + 1) i = if P i = true then A i else f k (i + 1)) (hend : ∀ k, f (k + 1) n = B) :
  ∀ k i, i ≤ n → n - i < k → f k i = (first P i n).elim B A := by
 intro k
 induction k with
 | zero => intro i _ h; omega
 | succ k ih =>
  intro i hi hk
  by_cases h : i = n
  ·subst h
   rw [hend, first_end]; rfl
  ·rw [hstep k i (by omega), first_step (by omega)]
   by_cases hp : P i = true
   ·simp [hp]
   ·simp only [hp, if_false]
    exact ih (i + 1) (by omega) (by omega)

def byt (s : ByteArray) (i : Nat) : Nat := (s.data.toList.getD i 0).toNat

theorem get_byt (s : ByteArray) (i : Nat) (h : i < s.size) : (s.get! i).toNat = byt s i := by
 unfold byt
 have h' : i < s.data.size := h
 have : s.get! i = s.data.toList.getD i 0 := by
  simp only [ByteArray.get!, List.getD, Array.getElem?_toList]
  rw [getElem!_pos s.data i h', Array.getElem?_eq_getElem h']; rfl
 rw [this]

theorem byt_lt (s : ByteArray) (i : Nat) : byt s i < 256 := by
 unfold byt
 exact UInt8.toNat_lt _

def small (b : Nat) : Bool := decide (97 ≤ b) && decide (b ≤ 122)
def other (b : Nat) : Bool := b == 95 || (decide (48 ≤ b) && decide (b ≤ 57))
def good (b : Nat) : Bool := small b || other b

theorem decode_lo (s : ByteArray) (i : Nat) (h : i < s.size) (hb : byt s i < 128) : Utf8.decode s i = (byt s i, 1) := by
 have e := get_byt s i h
 unfold Utf8.decode
 simp [e, hb]

theorem decode_hi (s : ByteArray) (i : Nat) (h : i < s.size) (hb : ¬ byt s i < 128) : 128 ≤ (Utf8.decode s i).1 := by
 have e := get_byt s i h
 unfold Utf8.decode
 simp only [Nat.add_zero, e, if_neg hb, Utf8.runeError]
 repeat' split
 all_goals simp_all
 all_goals omega

theorem bS {α β : Type} (a : α) (f : α → Option β) : bnd (some a) f = f a := rfl
theorem iT {β : Type} (x y : Option β) : ift true x y = x := rfl
theorem iF {β : Type} (x y : Option β) : ift false x y = y := rfl
theorem gP {β : Type} {p : Prop} [Decidable p] {x : Option β} (h : p) : grd p x = x := if_pos h
theorem big0 : BIG = 1152921504606846975 + 1 := rfl
theorem fu {m f : Nat} (h : m < f) : ∃ q, f = q + 1 := ⟨f - 1, by omega⟩
theorem at_nat {α : Type} {xs : List α} {i : Nat} (h : i < xs.length) : at? xs (i : Int) = some xs[i] := by unfold at?; simp [h]
theorem w64 {x : Int} (h1 : -9223372036854775808 ≤ x) (h2 : x ≤ 9223372036854775807) : IntKind.i64.wrap x = x := by
 simp only [IntKind.wrap, IntKind.bits, IntKind.signed]
 simp only [Bool.true_and, decide_eq_true_eq, ge_iff_le]
 split <;> omega

def objSet : ByteArray := ByteArray.mk #[95, 45, 46, 47]
def sign (n : Nat) : Bool := n == 95 || n == 45 || n == 46 || n == 47
def objG (n : Nat) : Bool := small n || (decide (48 ≤ n) && decide (n ≤ 57)) || sign n

theorem idx_lo : ∀ n : Fin 128, decide (Lib.indexByte [95, 45, 46, 47] (n.val : Int).toNat.toUInt8 < 0) = !sign n.val := by decide

theorem idx_none : ∀ (l : List UInt8) (c : UInt8), (∀ b ∈ l, b ≠ c) → Lib.indexByte l c = -1
 | [], _, _ => rfl
 | b :: l, c, h => by
  have h1 : (b == c) = false := by simp [h b (by simp)]
  rw [Lib.indexByte, h1, if_neg (by decide), idx_none l c fun x hx => h x (by simp [hx])]
  rfl

theorem valid_eq (n : Nat) : unicode_utf8_ValidRune (n : Int) = some (Utf8.valid (n : Int)) := by
 unfold unicode_utf8_ValidRune unicode_utf8_ValidRune_j1 unicode_utf8_ValidRune_j2 Utf8.valid
 by_cases h1 : n < 55296
 ·have : (0 : Int) ≤ (n : Int) := by omega
  simp [ift_ite, this, h1, show (n : Int) < 55296 by omega]
 ·by_cases h2 : 57344 ≤ n
  ·by_cases h3 : n ≤ 1114111
   ·simp [ift_ite, show ¬ (n : Int) < 55296 by omega, show (57343 : Int) < n by omega, show (n : Int) ≤ 1114111 by omega, show (57344 : Int) ≤ n by omega]
   ·simp [ift_ite, show ¬ (n : Int) < 55296 by omega, show (57343 : Int) < n by omega, show ¬ (n : Int) ≤ 1114111 by omega]
  ·simp [ift_ite, show ¬ (n : Int) < 55296 by omega, show ¬ (57343 : Int) < n by omega, show ¬ (57344 : Int) ≤ n by omega]

theorem set_small : ∀ b ∈ objSet.data.toList, b.toNat < 128 := by decide

theorem ba_get (b : ByteArray) (i : Nat) (h : i < b.size) : b.data.toList.getD i 0 = b[i]'h := by
 have hd : i < b.data.toList.length := by rw [Array.length_toList]; exact h
 rw [List.getD_eq_getElem?_getD, List.getElem?_eq_getElem hd]
 rfl

theorem idx_l2' (E : ByteArray) (n k : Nat) (z : Nat) (hz : E.size = z) (f1 : 2 ≤ z) (f2 : z ≤ 4) (f4 : 128 ≤ (E.data.toList.getD (z - 1) 0).toNat) (he : Utf8.encode (n : Int) = E) : strings_IndexRune_l2 objSet (n : Int) (k + 1) = some (-1) := by
 rw [strings_IndexRune_l2.eq_2, he]
 clear he
 have hw : IntKind.i64.wrap ((z : Int) - 1) = ((z - 1 : Nat) : Int) := by rw [w64 (by omega) (by omega)]; omega
 have hin : ∀ j, j < 4 → (objSet.data.toList.getD j 0).toNat < 128 := by decide
 simp only [hz, hw]
 rw [bS, decide_eq_true (show ((z - 1 : Nat) : Int) < (objSet.size : Int) by show _ < (4 : Int); omega), iT, gP ⟨by omega, by show _ < (4 : Int); omega⟩, bS, gP ⟨by omega, by omega⟩, bS]
 have ht : ((z - 1 : Nat) : Int).toNat = z - 1 := by omega
 rw [ht]
 have hne : (((objSet.data.toList.getD (z - 1) 0).toNat : Int) != ((E.data.toList.getD (z - 1) 0).toNat : Int)) = true := by
  have a := hin (z - 1) (by omega)
  rw [bne_iff_ne]; omega
 rw [hne, iT]
 have hw2 : IntKind.i64.wrap (((z - 1 : Nat) : Int) + 1) = (z : Int) := by rw [w64 (by omega) (by omega)]; omega
 rw [bS, hw2, gP ⟨by omega, by show _ ≤ (4 : Int); omega, Int.le_refl _⟩, gP ⟨by omega, by omega⟩, bS]
 unfold strings_IndexByte
 rw [idx_none _ _ fun b hb e => ?_]
 ·rfl
 ·have hb' : b ∈ objSet.data.toList := by
   have : b ∈ (objSet.extract z 4).data.toList := hb
   rw [ByteArray.data_extract, Array.toList_extract] at this
   exact List.mem_of_mem_drop (List.mem_of_mem_take this)
  have h1 := set_small b hb'
  have h2 : ((E.data.toList.getD (z - 1) 0).toNat : Int).toNat.toUInt8 = E.data.toList.getD (z - 1) 0 := by
   rw [Int.toNat_natCast]; simp
  rw [h2] at e
  rw [e] at h1
  omega

theorem idx_l2 (n k : Nat) (h : 128 ≤ n) (hv : Utf8.valid (n : Int) = true) : strings_IndexRune_l2 objSet (n : Int) (k + 1) = some (-1) := by
 obtain ⟨f1, f2, f3⟩ := encode_facts (n : Int) hv (by omega)
 have f3 := f3 (by omega)
 obtain ⟨z, hz⟩ : ∃ z, (Utf8.encode (n : Int)).size = z := ⟨_, rfl⟩
 have f4 : 128 ≤ ((Utf8.encode (n : Int)).data.toList.getD (z - 1) 0).toNat := by
  subst hz
  rw [ba_get _ _ (by omega)]
  exact f3
 rw [hz] at f1 f2
 exact idx_l2' _ n k z hz f1 f2 f4 rfl

theorem idx_hi (n : Nat) (h : 128 ≤ n) : strings_IndexRune objSet (n : Int) = some (-1) := by
 unfold strings_IndexRune strings_IndexRune_j1
 rw [decide_eq_true (show (0 : Int) ≤ n by omega), iT, decide_eq_false (show ¬ (n : Int) < 128 by omega), iF]
 by_cases h1 : n = 65533
 ·subst h1
  rw [show (((65533 : Nat) : Int) == 65533) = true from rfl, iT]
  show strings_IndexRune_l1 objSet (1152921504606846971 + 5) 0 = _
  generalize 1152921504606846971 = k
  rfl
 ·rw [show ((n : Int) == 65533) = false by simp; omega, iF, valid_eq, bS]
  cases hv : Utf8.valid (n : Int) with
  | false => rfl
  | true =>
   rw [Bool.not_true, iF, big0]
   exact idx_l2 n _ h hv

theorem idx_eq (n : Nat) : ∃ r, strings_IndexRune objSet (n : Int) = some r ∧ decide (r < 0) = !sign n := by
 by_cases h : n < 128
 ·unfold strings_IndexRune strings_IndexRune_j1 strings_IndexByte
  rw [decide_eq_true (show (0 : Int) ≤ n by omega), iT, decide_eq_true (show (n : Int) < 128 by omega), iT, bS]
  refine ⟨_, rfl, ?_⟩
  have hw : IntKind.u8.wrap (n : Int) = (n : Int) := by
   unfold IntKind.wrap
   simp [IntKind.bits, IntKind.signed]
   omega
  rw [hw]
  exact idx_lo ⟨n, h⟩
 ·refine ⟨-1, idx_hi n (by omega), ?_⟩
  simp [sign]; omega

theorem obj1_eq (n : Nat) : table_objectName_1 (Int.ofNat n) = some (!objG n) := by
 obtain ⟨r, h1, h2⟩ := idx_eq n
 have h1 : strings_IndexRune (ByteArray.mk #[95, 45, 46, 47]) (Int.ofNat n) = some r := h1
 unfold table_objectName_1 table_objectName_1_j1
 rw [h1]
 simp only [bS, h2, ift_ite, decide_eq_true_eq, Int.ofNat_eq_natCast]
 generalize hs : sign n = s
 unfold objG small
 rw [hs]
 repeat' split
 all_goals (rw [Option.some.injEq, Bool.eq_iff_iff]; cases s <;> simp <;> omega)

def badO (s : ByteArray) (i : Nat) : Bool := !objG (byt s i)

theorem objIdx (s : ByteArray) : ∀ k i, i ≤ s.size → s.size - i < k → ∃ r, strings_indexFunc_of_table_objectName_1_l1 s true k i = some r ∧ (decide (0 ≤ r) = (first (badO s) i s.size).isSome) := by
 intro k
 induction k with
 | zero => intro i _ h; omega
 | succ k ih =>
  intro i hi hk
  rw [strings_indexFunc_of_table_objectName_1_l1]
  by_cases h : i = s.size
  ·subst h
   rw [first_end]
   simp only [Nat.lt_irrefl, decide_false, ift_false]
   exact ⟨-1, rfl, rfl⟩
  ·have hlt : i < s.size := by omega
   simp only [hlt, decide_true, ift_true, obj1_eq, bnd_eq]
   rw [first_step hlt]
   by_cases hb : byt s i < 128
   ·rw [decode_lo s i hlt hb]
    simp only [badO]
    by_cases hg : objG (byt s i) = true
    ·simp only [hg, Bool.not_true, ift_ite]
     obtain ⟨r, h1, h2⟩ := ih (i + 1) (by omega) (by omega)
     exact ⟨r, by simpa using h1, by simpa [badO] using h2⟩
    ·simp only [hg, Bool.not_false, ift_ite]
     exact ⟨_, rfl, by simp⟩
   ·have h1 := decode_hi s i hlt hb
    have g1 : objG (Utf8.decode s i).1 = false := by
     generalize (Utf8.decode s i).1 = x at h1
     simp [objG, small, sign]; omega
    have g2 : badO s i = true := by
     simp [badO, objG, small, sign]; omega
    simp only [g1, g2, Bool.not_false, ift_ite]
    exact ⟨_, rfl, by simp⟩

def isObj (s : ByteArray) : Bool := decide (1 ≤ s.size) && decide (s.size ≤ 64) && (first (badO s) 0 s.size).isNone

theorem cObj (s : ByteArray) (hs : s.size < 1000000000) : table_objectName s = some (isObj s) := by
 obtain ⟨r, h1, h2⟩ := objIdx s BIG 0 (Nat.zero_le _) (by rw [big_val]; omega)
 unfold table_objectName table_objectName_j1 strings_ContainsFunc_of_table_objectName_1 strings_IndexFunc_of_table_objectName_1 strings_indexFunc_of_table_objectName_1 isObj
 rw [h1, bS, bS, bS, h2]
 by_cases z0 : s.size < 1
 ·simp [ift_ite, z0, show (s.size : Int) < 1 by omega]
  omega
 ·by_cases z1 : 64 < s.size
  ·simp [ift_ite, z0, show ¬ (s.size : Int) < 1 by omega, show (64 : Int) < s.size by omega]
   omega
  ·simp only [ift_ite, show ¬ (s.size : Int) < 1 by omega, show ¬ (64 : Int) < s.size by omega, decide_false, Bool.false_eq_true, if_false, show 1 ≤ s.size by omega, show s.size ≤ 64 by omega, decide_true, Bool.true_and]
   cases first (badO s) 0 s.size <;> rfl

theorem obj_step (s : ByteArray) (hs : s.size < 1000000000) (k i : Nat) (hi : i < s.size) : ref3_object_l1 s (k + 1) (i : Int) = if badO s i = true then some false else ref3_object_l1 s k ((i + 1 : Nat) : Int) := by
 rw [ref3_object_l1, ← ift_ite]
 have hb : ((s.data.toList.getD (i : Int).toNat 0).toNat : Int) = (byt s i : Int) := rfl
 have hw : IntKind.i64.wrap ((i : Int) + 1) = ((i + 1 : Nat) : Int) := by rw [w64 (by omega) (by omega)]; omega
 have hg : 0 ≤ (i : Int) ∧ (i : Int) < (s.size : Int) := by omega
 rw [show decide ((i : Int) < (s.size : Int)) = true by simp [hg.2], ift_true]
 simp only [ref3_object_j2, ref3_object_j3, hb, hw, bnd_eq, grd_pos hg]
 have e1 : ((byt s i : Int) == 95) = (byt s i == 95) := by rw [Bool.eq_iff_iff]; simp; omega
 have e2 : (decide ((97 : Int) ≤ byt s i)) = decide (97 ≤ byt s i) := by rw [Bool.eq_iff_iff]; simp; omega
 have e3 : (decide ((byt s i : Int) ≤ 122)) = decide (byt s i ≤ 122) := by rw [Bool.eq_iff_iff]; simp; omega
 have e4 : (decide ((48 : Int) ≤ byt s i)) = decide (48 ≤ byt s i) := by rw [Bool.eq_iff_iff]; simp; omega
 have e5 : (decide ((byt s i : Int) ≤ 57)) = decide (byt s i ≤ 57) := by rw [Bool.eq_iff_iff]; simp; omega
 have e6 : ((byt s i : Int) == 46) = (byt s i == 46) := by rw [Bool.eq_iff_iff]; simp; omega
 have e7 : ((byt s i : Int) == 45) = (byt s i == 45) := by rw [Bool.eq_iff_iff]; simp; omega
 have e8 : ((byt s i : Int) == 47) = (byt s i == 47) := by rw [Bool.eq_iff_iff]; simp; omega
 simp only [e1, e2, e3, e4, e5, e6, e7, e8, badO, objG, small, sign]
 generalize hq : ref3_object_l1 s k ((i + 1 : Nat) : Int) = q
 generalize (byt s i == 95) = b1
 generalize decide (97 ≤ byt s i) = b2
 generalize decide (byt s i ≤ 122) = b3
 generalize decide (48 ≤ byt s i) = b4
 generalize decide (byt s i ≤ 57) = b5
 generalize (byt s i == 46) = b6
 generalize (byt s i == 45) = b7
 generalize (byt s i == 47) = b8
 cases b1 <;> cases b2 <;> cases b3 <;> cases b4 <;> cases b5 <;> cases b6 <;> cases b7 <;> cases b8 <;> rfl

theorem rObj (s : ByteArray) (hs : s.size < 1000000000) : ref3_object s = some (isObj s) := by
 have hl := search (f := fun k i => ref3_object_l1 s k (i : Int)) (n := s.size) (P := badO s) (A := fun _ => some false) (B := some true) (fun k i hi => obj_step s hs k i hi)
  (fun k => by rw [ref3_object_l1]; simp only [Int.lt_irrefl, decide_false, ift_false]; rfl) BIG 0 (Nat.zero_le _) (by rw [big_val]; omega)
 have hl : ref3_object_l1 s BIG (0 : Int) = _ := hl
 unfold ref3_object ref3_object_j1 isObj
 rw [hl]
 by_cases z0 : s.size < 1
 ·simp [ift_ite, z0, show (s.size : Int) < 1 by omega]
  omega
 ·by_cases z1 : 64 < s.size
  ·simp [ift_ite, z0, show ¬ (s.size : Int) < 1 by omega, show (64 : Int) < s.size by omega]
   omega
  ·simp only [ift_ite, show ¬ (s.size : Int) < 1 by omega, show ¬ (64 : Int) < s.size by omega, decide_false, Bool.false_eq_true, if_false, show 1 ≤ s.size by omega, show s.size ≤ 64 by omega, decide_true, Bool.true_and]
   cases first (badO s) 0 s.size <;> rfl

set_option linter.unusedVariables false
set_option linter.unusedSimpArgs false

theorem bytesLess_lt : ∀ (x y : List UInt8), Op.bytesLess x y = decide (x < y)
 | [], [] => by simp [Op.bytesLess]
 | _ :: _, [] => by simp [Op.bytesLess]
 | [], _ :: _ => by simp [Op.bytesLess]
 | a :: x, b :: y => by
  rw [Op.bytesLess, bytesLess_lt x y]
  simp only [List.cons_lt_cons_iff]
  by_cases h1 : a < b <;> by_cases h2 : a = b <;> by_cases h3 : x < y <;> simp [h1, h2, h3]

theorem eq_S (x n : ByteArray) : (x.toList == n.toList) = decide (x = n) := by
 rw [ByteArray.toList_eq, ByteArray.toList_eq, Bool.eq_iff_iff, beq_iff_eq, decide_eq_true_iff]
 exact ⟨fun h => ByteArray.ext (Array.toList_inj.1 h), fun h => by rw [h]⟩

instance : LawfulBEq ByteArray where
 eq_of_beq {a b} h := by
  have h' : (a.data == b.data) = true := h
  exact ByteArray.ext (eq_of_beq h')
 rfl {a} := by
  show (a.data == a.data) = true
  exact beq_self_eq_true _

/-! ### the map -/
abbrev KM := List (ByteArray × List Int)
abbrev ks (M : KM) : List ByteArray := M.map (·.1)

theorem gt_cons (k' k : ByteArray) (v : List Int) (m : KM) : mget kStr ((k', v) :: m) k = if k = k' then some v else mget kStr m k := by
 simp only [mget]
 by_cases h : k = k'
 ·rw [if_pos (kStr_eq.2 h), if_pos h]
 ·rw [if_neg (fun e => h (kStr_eq.1 e)), if_neg h]

theorem gt_none : ∀ (M : KM) (k : ByteArray), mget kStr M k = none ↔ k ∉ ks M
 | [], k => by simp [mget]
 | (k', v) :: m, k => by
  rw [gt_cons]
  by_cases h : k = k'
  ·simp [h]
  ·rw [if_neg h, gt_none m k]; simp [h]

theorem gt_isSome (M : KM) (k : ByteArray) : (mget kStr M k).isSome = decide (k ∈ ks M) := by
 cases h : mget kStr M k with
 | none => simp [(gt_none M k).1 h]
 | some v =>
  have : k ∈ ks M := by
   by_cases hm : k ∈ ks M
   ·exact hm
   ·rw [(gt_none M k).2 hm] at h; cases h
  simp only [Option.isSome_some, this, decide_true]

theorem gt_app {n : ByteArray} {v : List Int} : ∀ (M : KM) (k : ByteArray), mget kStr M n = none → mget kStr (M ++ [(n, v)]) k = if k = n then some v else mget kStr M k
 | [], k, _ => by
  rw [List.nil_append, gt_cons]
 | (k', v') :: m, k, h => by
  rw [gt_cons] at h
  split at h
  ·cases h
  ·rename_i hne
   rw [List.cons_append, gt_cons, gt_cons, gt_app m k h]
   by_cases e : k = k'
   ·rw [if_pos e, if_neg (fun e2 => hne (e2.symm.trans e)), if_pos e]
   ·rw [if_neg e, if_neg e]

def del : KM → ByteArray → KM
 | [], _ => []
 | (k', v) :: m, k => if k = k' then m else (k', v) :: del m k

theorem mdl_eq : ∀ (M : KM) (k : ByteArray), mdl M k = del M k
 | [], k => rfl
 | (k', v) :: m, k => by
  have ih := mdl_eq m k
  unfold mdl at ih ⊢
  simp only [mpos, del]
  by_cases h : k = k'
  ·rw [if_pos (kStr_eq.2 h), if_pos h]
   rfl
  ·rw [if_neg (fun e => h (kStr_eq.1 e)), if_neg h, ← ih]
   cases mpos kStr m k with
   | none => rfl
   | some j => rfl

theorem del_sub : ∀ {M : KM} {n : ByteArray} {x : ByteArray × List Int}, x ∈ del M n → x ∈ M
 | [], _, _, h => h
 | (k', v) :: m, n, x, h => by
  simp only [del] at h
  split at h
  ·exact List.mem_cons_of_mem _ h
  ·rcases List.mem_cons.1 h with e | h
   ·rw [e]; exact List.mem_cons_self ..
   ·exact List.mem_cons_of_mem _ (del_sub h)

theorem del_perm : ∀ {M : KM} {n : ByteArray}, n ∈ ks M → (ks M).Perm (n :: ks (del M n))
 | [], _, h => by simp at h
 | (k', v) :: m, n, h => by
  simp only [del]
  by_cases e : n = k'
  ·subst e
   rw [if_pos rfl]
   exact .refl _
  ·rw [if_neg e]
   have hm : n ∈ ks m := by simpa [e] using h
   exact ((del_perm hm).cons k').trans (.swap ..)

theorem gt_del : ∀ {M : KM} {n : ByteArray} (k : ByteArray), (ks M).Nodup → mget kStr (del M n) k = if k = n then none else mget kStr M k
 | [], n, k, _ => by simp [del, mget]
 | (k', v) :: m, n, k, h => by
  obtain ⟨h1, h2⟩ := List.nodup_cons.1 h
  simp only [del]
  by_cases e : n = k'
  ·subst e
   rw [if_pos rfl, gt_cons]
   by_cases e2 : k = n
   ·rw [if_pos e2, e2, gt_none]; exact h1
   ·rw [if_neg e2, if_neg e2]
  ·rw [if_neg e, gt_cons, gt_cons, gt_del k h2]
   by_cases e2 : k = k'
   ·rw [if_pos e2, if_pos e2, if_neg (fun e3 => e (e3.symm.trans e2))]
   ·rw [if_neg e2, if_neg e2]

/-! ### the list -/
abbrev nm (l : List GObject) : List ByteArray := l.map (·.name)
abbrev lto (a b : GObject) : Prop := a.name.data.toList < b.name.data.toList
abbrev srt (l : List GObject) : Prop := l.Pairwise lto

def FR (p : ByteArray) (l : List GObject) (r : Int) : Prop := (r = -1 ∧ p ∉ nm l) ∨ ∃ i : Nat, ∃ h : i < l.length, r = (i : Int) ∧ l[i].name = p

theorem find_loop (p : ByteArray) (l : List GObject) (hl : l.length < 1000000000) : ∀ k i : Nat, i ≤ l.length → l.length - i < k → (∀ j, (h : j < l.length) → j < i → l[j].name ≠ p) →
  ∃ r, ref4_Bucket_find_l1 p l k (i : Int) = some r ∧ FR p l r := by
 intro k
 induction k with
 | zero => intro i _ h; omega
 | succ k ih =>
  intro i hi hk hj
  rw [ref4_Bucket_find_l1.eq_2]
  by_cases h : i < l.length
  ·rw [decide_eq_true (show (i : Int) < ((l.length : Nat) : Int) by omega), iT, at_nat h, bS, eq_S]
   by_cases hn : l[i].name = p
   ·rw [decide_eq_true hn, iT]
    exact ⟨_, rfl, .inr ⟨i, h, rfl, hn⟩⟩
   ·rw [decide_eq_false hn, iF, show IntKind.i64.wrap ((i : Int) + 1) = ((i + 1 : Nat) : Int) by rw [w64 (by omega) (by omega)]; omega]
    refine ih (i + 1) (by omega) (by omega) fun j h1 h2 => ?_
    by_cases e : j = i
    ·subst e; exact hn
    ·exact hj j h1 (by omega)
  ·rw [decide_eq_false (show ¬ (i : Int) < ((l.length : Nat) : Int) by omega), iF]
   refine ⟨-1, rfl, .inl ⟨rfl, fun hm => ?_⟩⟩
   obtain ⟨x, hx, e⟩ := List.mem_map.1 hm
   obtain ⟨j, hj', rfl⟩ := List.getElem_of_mem hx
   exact hj j hj' (by omega) e

theorem find_ok (p z : ByteArray) (l : List GObject) (hl : l.length < 1000000000) : ∃ r, ref4_Bucket_find p z l = some r ∧ FR p l r :=
 find_loop p l hl BIG 0 (Nat.zero_le _) (by rw [big_val]; omega) fun j _ h => by omega

theorem FR.neg {p : ByteArray} {l : List GObject} {r : Int} (h : FR p l r) : decide (r < 0) = decide (p ∉ nm l) := by
 rcases h with ⟨rfl, h⟩ | ⟨i, hi, rfl, h⟩
 ·simp [h]
 ·have : p ∈ nm l := by rw [← h]; exact List.mem_map_of_mem (List.getElem_mem _)
  simp only [this, not_true, decide_false]
  simp

theorem FR.pos {p : ByteArray} {l : List GObject} {r : Int} (h : FR p l r) : decide (0 ≤ r) = decide (p ∈ nm l) := by
 rcases h with ⟨rfl, h⟩ | ⟨i, hi, rfl, h⟩
 ·simp [h]
 ·have : p ∈ nm l := by rw [← h]; exact List.mem_map_of_mem (List.getElem_mem _)
  simp [this]

def bub (o : GObject) : List GObject → List GObject → List GObject
 | [], B => o :: B
 | a :: R, B => if Op.bytesLess o.name.toList a.name.toList = true then bub o R (a :: B) else (a :: R).reverse ++ o :: B

theorem at_app {α : Type} (R : List α) (x : α) (B : List α) : at? (R ++ x :: B) ((R.length : Nat) : Int) = some x := by
 unfold at?; simp
theorem at_app1 {α : Type} (R : List α) (y x : α) (B : List α) : at? (R ++ y :: x :: B) ((R.length + 1 : Nat) : Int) = some x := by
 unfold at?
 rw [if_pos (by omega), Int.toNat_natCast, List.getElem?_append_right (by omega)]
 simp
theorem set_app {α : Type} (R : List α) (x y : α) (B : List α) : (R ++ x :: B).set R.length y = R ++ y :: B := by simp
theorem set_app1 {α : Type} (R : List α) (z x y : α) (B : List α) : (R ++ z :: x :: B).set (R.length + 1) y = R ++ z :: y :: B := by
 rw [List.set_append, if_neg (by omega)]; simp

theorem put_loop (o : GObject) (g : GRBucket) : ∀ (R B : List GObject) (k : Nat), R.length < k → R.length < 1000000000 →
  ref4_Bucket_put_l1 g k (R.reverse ++ o :: B) (R.length : Int) = some ((), ⟨bub o R B, g.root⟩)
 | [], B, k, hk, _ => by
  obtain ⟨q, rfl⟩ := fu hk
  rw [ref4_Bucket_put_l1.eq_2]
  rfl
 | a :: R, B, k, hk, hl => by
  obtain ⟨q, rfl⟩ := fu hk
  simp only [List.length_cons] at hk hl
  have e0 : (a :: R).reverse ++ o :: B = R.reverse ++ a :: o :: B := by simp
  have n1 : (R.length : Nat) = R.reverse.length := by simp
  have w1 : IntKind.i64.wrap (((R.length + 1 : Nat) : Int) - 1) = ((R.length : Nat) : Int) := by rw [w64 (by omega) (by omega)]; omega
  rw [ref4_Bucket_put_l1.eq_2, e0]
  have a1 : at? (R.reverse ++ a :: o :: B) ((R.length + 1 : Nat) : Int) = some o := by rw [n1]; exact at_app1 ..
  have a2 : at? (R.reverse ++ a :: o :: B) ((R.length : Nat) : Int) = some a := by rw [n1]; exact at_app ..
  simp only [List.length_cons]
  rw [decide_eq_true (show (0 : Int) < ((R.length + 1 : Nat) : Int) by omega), iT, a1, bS, w1, a2, bS]
  unfold ref4_Bucket_put_j1
  rw [w1, a1, a2]
  cases hb : Op.bytesLess o.name.toList a.name.toList with
  | false =>
   rw [iF]
   simp only [bub, hb, Bool.false_eq_true, if_false]
   rw [e0]
  | true =>
   have s1 : (R.reverse ++ a :: o :: B).set ((R.length + 1 : Nat) : Int).toNat a = R.reverse ++ a :: a :: B := by
    rw [Int.toNat_natCast, n1]; exact set_app1 ..
   have s2 : (R.reverse ++ a :: a :: B).set ((R.length : Nat) : Int).toNat o = R.reverse ++ o :: a :: B := by
    rw [Int.toNat_natCast]
    have := set_app R.reverse a o (a :: B)
    rwa [← n1] at this
   have a3 : at? (R.reverse ++ a :: a :: B) ((R.length : Nat) : Int) = some a := by rw [n1]; exact at_app ..
   rw [iT, bS, bS, s1, a3, bS, s2, put_loop o g R (a :: B) q (by omega) (by omega)]
   simp only [bub, hb, if_true]

theorem put_eq (o : GObject) (g : GRBucket) (hl : g.objects.length < 1000000000) : ref4_Bucket_put o g = some ((), ⟨bub o g.objects.reverse [], g.root⟩) := by
 unfold ref4_Bucket_put
 rw [gP (by omega), bS, show IntKind.i64.wrap ((((g.objects ++ [o]).length : Nat) : Int) - 1) = (g.objects.reverse.length : Int) by rw [w64 (by omega) (by simp only [List.length_append, List.length_cons, List.length_nil]; omega)]; simp]
 have := put_loop o g g.objects.reverse [] BIG (by rw [big_val]; simp; omega) (by simpa using hl)
 rw [List.reverse_reverse] at this
 exact this

theorem lt_of_not {x y : List UInt8} (h : ¬ x < y) (hn : x ≠ y) : y < x := by
 have h1 : y ≤ x := List.not_lt.1 h
 rcases List.le_iff_lt_or_eq.1 h1 with h2 | h2
 ·exact h2
 ·exact absurd h2.symm hn

theorem name_ne {a b : ByteArray} (h : a ≠ b) : a.data.toList ≠ b.data.toList := fun e => h (ByteArray.ext (Array.toList_inj.1 e))

theorem bub_ok (o : GObject) : ∀ (R B : List GObject), srt (R.reverse ++ B) → (∀ b ∈ B, lto o b) → (∀ r ∈ R, r.name ≠ o.name) → srt (bub o R B) ∧ (bub o R B).Perm (o :: (R.reverse ++ B))
 | [], B, hs, hB, _ => ⟨List.pairwise_cons.2 ⟨hB, by simpa using hs⟩, .refl _⟩
 | a :: R, B, hs, hB, hR => by
  have e0 : (a :: R).reverse ++ B = R.reverse ++ a :: B := by simp
  have hlt := bytesLess_lt o.name.toList a.name.toList
  rw [ByteArray.toList_eq, ByteArray.toList_eq] at hlt
  simp only [bub]
  rw [ByteArray.toList_eq, ByteArray.toList_eq, hlt]
  by_cases h : lto o a
  ·rw [if_pos (decide_eq_true h), e0]
   exact bub_ok o R (a :: B) (by rw [← e0]; exact hs) (fun b hb => by
    rcases List.mem_cons.1 hb with rfl | hb
    ·exact h
    ·exact hB b hb) (fun r hr => hR r (List.mem_cons_of_mem _ hr))
  ·rw [if_neg (by rw [decide_eq_true_iff]; exact h)]
   have hao : lto a o := lt_of_not h (name_ne (hR a (List.mem_cons_self ..)).symm)
   obtain ⟨p1, p2, p3⟩ := List.pairwise_append.1 hs
   refine ⟨List.pairwise_append.2 ⟨p1, List.pairwise_cons.2 ⟨hB, p2⟩, fun x hx y hy => ?_⟩, List.perm_middle⟩
   rcases List.mem_cons.1 hy with rfl | hy
   ·rw [List.reverse_cons] at p1 hx
    rcases List.mem_append.1 hx with hx | hx
    ·exact List.lt_trans ((List.pairwise_append.1 p1).2.2 x hx a (by simp)) hao
    ·simp at hx; subst hx; exact hao
   ·exact p3 x hx y hy

theorem keys_eq {l : List GObject} {M : KM} (hs : srt l) (hp : (nm l).Perm (ks M)) : (((M.map fun x => x.1.data.toList).mergeSort leB).map fun l => ByteArray.mk l.toArray) = nm l := by
 have h1 : (M.map fun x => x.1.data.toList).mergeSort leB = (l.map fun x => x.name.data.toList).mergeSort leB := by
  refine mergeSort_of_perm ?_
  have := (hp.map fun s : ByteArray => s.data.toList).symm
  simpa [nm, ks, List.map_map, Function.comp_def] using this
 have h2 : (l.map fun x => x.name.data.toList).mergeSort leB = l.map fun x => x.name.data.toList := by
  refine List.mergeSort_of_pairwise ?_
  rw [List.pairwise_map]
  refine hs.imp fun {a b} h => ?_
  simp only [leB, decide_eq_true_eq]
  exact List.le_of_lt h
 rw [h1, h2, List.map_map]
 refine List.map_congr_left fun x _ => ?_
 show ByteArray.mk x.name.data.toList.toArray = x.name
 simp

theorem list_loop (l : List GObject) (hl : l.length < 1000000000) : ∀ (k i : Nat) (acc : List ByteArray), acc.length = i → i ≤ l.length → l.length - i < k → ref4_Bucket_List_l1 l k acc (i : Int) = some (acc ++ nm (l.drop i)) := by
 intro k
 induction k with
 | zero => intro i _ _ _ h; omega
 | succ k ih =>
  intro i acc ha hi hk
  rw [ref4_Bucket_List_l1.eq_2]
  by_cases h : i < l.length
  ·rw [decide_eq_true (show (i : Int) < ((l.length : Nat) : Int) by omega), iT, at_nat h, bS, gP (by omega), show IntKind.i64.wrap ((i : Int) + 1) = ((i + 1 : Nat) : Int) by rw [w64 (by omega) (by omega)]; omega,
    ih (i + 1) (acc ++ [l[i].name]) (by simp [ha]) (by omega) (by omega), List.drop_eq_getElem_cons h]
   simp only [nm, List.map_cons, List.append_assoc, List.cons_append, List.nil_append]
  ·rw [decide_eq_false (show ¬ (i : Int) < ((l.length : Nat) : Int) by omega), iF]
   have : i = l.length := by omega
   subst this
   simp [ref4_Bucket_List_j1]

theorem list_eq (z : ByteArray) (l : List GObject) (hl : l.length < 1000000000) : ref4_Bucket_List z l = some (nm l) := by
 have := list_loop l hl BIG 0 [] rfl (Nat.zero_le _) (by rw [big_val]; omega)
 unfold ref4_Bucket_List
 simpa using this

theorem listed_loop (l : List ByteArray) (p : ByteArray) (hl : l.length < 1000000000) : ∀ (k i : Nat), i ≤ l.length → l.length - i < k → (∀ j, (h : j < l.length) → j < i → l[j] ≠ p) → law4_listed_l1 l p k (i : Int) = some (decide (p ∈ l)) := by
 intro k
 induction k with
 | zero => intro i _ h; omega
 | succ k ih =>
  intro i hi hk hj
  rw [law4_listed_l1.eq_2]
  by_cases h : i < l.length
  ·rw [decide_eq_true (show (i : Int) < (l.length : Int) by omega), iT, at_nat h, bS, eq_S]
   by_cases hn : l[i] = p
   ·rw [decide_eq_true hn, iT]
    have : p ∈ l := by rw [← hn]; exact List.getElem_mem _
    simp [this]
   ·rw [decide_eq_false hn, iF, show IntKind.i64.wrap ((i : Int) + 1) = ((i + 1 : Nat) : Int) by rw [w64 (by omega) (by omega)]; omega]
    refine ih (i + 1) (by omega) (by omega) fun j h1 h2 => ?_
    by_cases e : j = i
    ·subst e; exact hn
    ·exact hj j h1 (by omega)
  ·rw [decide_eq_false (show ¬ (i : Int) < (l.length : Int) by omega), iF]
   have : p ∉ l := fun hm => by
    obtain ⟨j, hj', e⟩ := List.getElem_of_mem hm
    exact hj j hj' (by omega) e
   simp [law4_listed_j1, this]

theorem listed_eq (l : List ByteArray) (p : ByteArray) (hl : l.length < 1000000000) : law4_listed l p = some (decide (p ∈ l)) :=
 listed_loop l p hl BIG 0 (Nat.zero_le _) (by rw [big_val]; omega) fun j _ h => by omega

theorem texts_loop (l : List ByteArray) (hl : l.length < 1000000000) : ∀ (k i : Nat), i ≤ l.length → l.length - i < k → law4_texts_l1 l l k (i : Int) = some true := by
 intro k
 induction k with
 | zero => intro i _ h; omega
 | succ k ih =>
  intro i hi hk
  rw [law4_texts_l1.eq_2]
  by_cases h : i < l.length
  ·rw [decide_eq_true (show (i : Int) < (l.length : Int) by omega), iT, at_nat h, bS, bS, eq_S, decide_eq_true rfl, Bool.not_true, iF, show IntKind.i64.wrap ((i : Int) + 1) = ((i + 1 : Nat) : Int) by rw [w64 (by omega) (by omega)]; omega]
   exact ih (i + 1) (by omega) (by omega)
  ·rw [decide_eq_false (show ¬ (i : Int) < (l.length : Int) by omega), iF]
   rfl

theorem texts_eq (l : List ByteArray) (hl : l.length < 1000000000) : law4_texts l l = some true := by
 unfold law4_texts
 rw [show ((l.length : Int) != (l.length : Int)) = false by simp, iF]
 exact texts_loop l hl BIG 0 (Nat.zero_le _) (by rw [big_val]; omega)

/-! ### what holds between two operations -/
def ixN (l : List ByteArray) (k : ByteArray) : Nat → Int
 | 0 => -1
 | n + 1 => if l[n]? = some k then (n : Int) else ixN l k n

theorem ixN_app {l : List ByteArray} (m k : ByteArray) : ∀ n, n ≤ l.length → ixN (l ++ [m]) k n = ixN l k n
 | 0, _ => rfl
 | n + 1, h => by
  simp only [ixN]
  rw [List.getElem?_append_left (by omega), ixN_app m k n (by omega)]

theorem ixN_lt {l : List ByteArray} (k : ByteArray) : ∀ n, ixN l k n < (n : Int)
 | 0 => by simp [ixN]
 | n + 1 => by
  simp only [ixN]
  split
  ·omega
  ·have := ixN_lt (l := l) k n; omega

structure Inv (b : Nat) (l1 l2 : List ByteArray) (l3 : List GObject) (M : KM) : Prop where
 len : l1.length = l2.length
 lb : l1.length ≤ b
 mb : M.length ≤ b
 nd : (ks M).Nodup
 sz : ∀ x ∈ M, x.1.size ≤ 64
 so : srt l3
 pm : (nm l3).Perm (ks M)
 tx : ∀ k d, mget kStr M k = some d → at? l2 (ixN l1 k l1.length) = some (strOfNums d)
 db : ∀ k d, mget kStr M k = some d → d.length ≤ 2000000

theorem Inv.l3 {b : Nat} {l1 l2 : List ByteArray} {l3 : List GObject} {M : KM} (h : Inv b l1 l2 l3 M) : l3.length = M.length := by
 have := h.pm.length_eq
 simpa using this

theorem Inv.mem {b : Nat} {l1 l2 : List ByteArray} {l3 : List GObject} {M : KM} (h : Inv b l1 l2 l3 M) (n : ByteArray) : (mget kStr M n).isSome = decide (n ∈ nm l3) := by
 rw [gt_isSome, Bool.eq_iff_iff, decide_eq_true_iff, decide_eq_true_iff]
 exact h.pm.mem_iff.symm

theorem Inv.up {b b' : Nat} {l1 l2 : List ByteArray} {l3 : List GObject} {M : KM} (h : Inv b l1 l2 l3 M) (hb : b ≤ b') : Inv b' l1 l2 l3 M :=
 ⟨h.len, Nat.le_trans h.lb hb, Nat.le_trans h.mb hb, h.nd, h.sz, h.so, h.pm, h.tx, h.db⟩

theorem Inv.put {b : Nat} {l1 l2 : List ByteArray} {l3 : List GObject} {M : KM} (h : Inv b l1 l2 l3 M) {o : GObject} {d : List Int} (hn : o.name ∉ nm l3) (hsz : o.name.size ≤ 64) (hd : d.length ≤ 2000000) :
  Inv (b + 1) (l1 ++ [o.name]) (l2 ++ [strOfNums d]) (bub o l3.reverse []) (M ++ [(o.name, d)]) := by
 have hk : o.name ∉ ks M := fun hm => hn (h.pm.mem_iff.2 hm)
 have hno := (gt_none M o.name).2 hk
 obtain ⟨s1, s2⟩ := bub_ok o l3.reverse [] (by simpa using h.so) (by simp) (fun r hr e => hn (by rw [← e]; exact List.mem_map_of_mem (List.mem_reverse.1 hr)))
 refine ⟨by simp [h.len], by have := h.lb; simp; omega, by have := h.mb; simp; omega, ?_, ?_, s1, ?_, ?_, ?_⟩
 ·show ((M ++ [(o.name, d)]).map (·.1)).Nodup
  rw [List.map_append, List.nodup_append]
  refine ⟨h.nd, by simp, fun a ha b hb => ?_⟩
  simp at hb
  subst hb
  rintro rfl
  exact hk ha
 ·intro x hx
  rcases List.mem_append.1 hx with hx | hx
  ·exact h.sz x hx
  ·simp at hx; subst hx; exact hsz
 ·have p1 := s2.map (·.name)
  refine p1.trans ?_
  show (o.name :: nm (l3.reverse.reverse ++ [])).Perm ((M ++ [(o.name, d)]).map (·.1))
  rw [List.reverse_reverse, List.append_nil, List.map_append]
  exact (h.pm.cons _).trans (List.perm_append_singleton o.name (ks M)).symm
 ·intro k d' hg
  rw [gt_app M k hno] at hg
  have e1 : (l1 ++ [o.name]).length = l1.length + 1 := by simp
  rw [e1]
  simp only [ixN]
  by_cases e : k = o.name
  ·rw [if_pos e] at hg
   cases hg
   rw [if_pos (by simp [e])]
   have := at_app l2 (strOfNums d) []
   rwa [← h.len] at this
  ·rw [if_neg e] at hg
   rw [if_neg (by simp; exact fun e2 => e e2.symm), ixN_app _ _ _ (Nat.le_refl _)]
   have h1 := h.tx k d' hg
   have h2 := at?_some h1
   unfold at? at h1 ⊢
   rw [if_pos h2.1] at h1 ⊢
   rw [List.getElem?_append_left (by omega)]
   exact h1
 ·intro k d' hg
  rw [gt_app M k hno] at hg
  split at hg
  ·cases hg; exact hd
  ·exact h.db k d' hg

theorem Inv.rm {b : Nat} {l1 l2 : List ByteArray} {A B : List GObject} {o : GObject} {M : KM} (h : Inv b l1 l2 (A ++ o :: B) M) : Inv b l1 l2 (A ++ B) (del M o.name) := by
 have hm : o.name ∈ ks M := h.pm.mem_iff.1 (by simp)
 have hp := del_perm hm
 have hp2 : (o.name :: nm (A ++ B)).Perm (o.name :: ks (del M o.name)) := by
  refine List.Perm.trans ?_ (h.pm.trans hp)
  show (o.name :: (A ++ B).map (·.name)).Perm ((A ++ o :: B).map (·.name))
  rw [List.map_append, List.map_append]
  exact List.perm_middle.symm
 have hlen := hp.length_eq
 simp at hlen
 have hnd : (o.name :: ks (del M o.name)).Nodup := hp.nodup_iff.1 h.nd
 refine ⟨h.len, h.lb, by have := h.mb; omega, (List.nodup_cons.1 hnd).2, fun x hx => h.sz x (del_sub hx), ?_, hp2.cons_inv, ?_, ?_⟩
 ·obtain ⟨p1, p2, p3⟩ := List.pairwise_append.1 h.so
  exact List.pairwise_append.2 ⟨p1, (List.pairwise_cons.1 p2).2, fun x hx y hy => p3 x hx y (List.mem_cons_of_mem _ hy)⟩
 ·intro k d hg
  rw [gt_del k h.nd] at hg
  split at hg
  ·cases hg
  ·exact h.tx k d hg
 ·intro k d hg
  rw [gt_del k h.nd] at hg
  split at hg
  ·cases hg
  ·exact h.db k d hg
set_option linter.unusedVariables false
set_option linter.unusedSimpArgs false

theorem pPut (n : ByteArray) (d : List Int) (z : ByteArray) (M : KM) (hn : n.size < 1000000000) (hd : d.length ≤ 2000000) :
  lake_Bucket_Put n d z M = some (if isObj n = true then (if (mget kStr M n).isSome = true then ((5 : Int), z, M) else ((0 : Int), z, M ++ [(n, d)])) else ((4 : Int), z, M)) := by
 unfold lake_Bucket_Put table_ValidObject
 rw [cObj n hn, bS, bS]
 cases isObj n with
 | false => rfl
 | true =>
  rw [Bool.not_true, iF, bS, if_pos rfl]
  by_cases h : (mget kStr M n).isSome = true
  ·rw [h, iT, if_pos rfl]
  ·have h1 : (mget kStr M n).isSome = false := by simpa using h
   have h2 : (mget kStr M n).isNone = true := by
    cases hg : mget kStr M n with
    | none => rfl
    | some v => rw [hg] at h1; cases h1
   rw [h1, iF, if_neg (by simp)]
   unfold bytes_Clone
   rw [gP (by omega), bS, gP h2]

abbrev ob (n : ByteArray) (d : List Int) : GObject := GObject.mk n (0 : Int) (([] : List Int) ++ d) [] [] [] (0 : Int)

theorem mPut (n : ByteArray) (d : List Int) (z : ByteArray) (l : List GObject) (hn : n.size < 1000000000) (hd : d.length ≤ 2000000) (hl : l.length < 1000000000) :
  ref4_Bucket_Put n d ⟨l, z⟩ = some (if isObj n = true then (if n ∈ nm l then ((5 : Int), ⟨l, z⟩) else ((0 : Int), ⟨bub (ob n d) l.reverse [], z⟩)) else ((4 : Int), ⟨l, z⟩)) := by
 unfold ref4_Bucket_Put ref3_Object
 rw [rObj n hn, bS, bS]
 cases isObj n with
 | false => rfl
 | true =>
  obtain ⟨r, h1, h2⟩ := find_ok n z l hl
  rw [Bool.not_true, iF, if_pos rfl]
  show bnd (ref4_Bucket_find n z l) _ = _
  rw [h1, bS, h2.pos]
  by_cases h : n ∈ nm l
  ·rw [decide_eq_true h, iT, if_pos h]
  ·rw [decide_eq_false h, iF, if_neg h, gP (by simp; omega), put_eq _ _ hl, bS]

theorem pRem (n z : ByteArray) (M : KM) : lake_Bucket_Remove n z M = some (if (mget kStr M n).isSome = true then ((0 : Int), z, del M n) else ((9 : Int), z, M)) := by
 unfold lake_Bucket_Remove
 rw [bS, mdl_eq]
 cases (mget kStr M n).isSome <;> rfl

theorem mRem_out {n z : ByteArray} {l : List GObject} (hl : l.length < 1000000000) (h : n ∉ nm l) : ref4_Bucket_Remove n ⟨l, z⟩ = some ((9 : Int), ⟨l, z⟩) := by
 obtain ⟨r, h1, h2⟩ := find_ok n z l hl
 unfold ref4_Bucket_Remove
 show bnd (ref4_Bucket_find n z l) _ = _
 rw [h1, bS, h2.neg, decide_eq_true h, iT]

theorem mRem_in {n z : ByteArray} {l : List GObject} (hl : l.length < 1000000000) (h : n ∈ nm l) : ∃ A o B, l = A ++ o :: B ∧ o.name = n ∧ ref4_Bucket_Remove n ⟨l, z⟩ = some ((0 : Int), ⟨A ++ B, z⟩) := by
 obtain ⟨r, h1, h2⟩ := find_ok n z l hl
 have h3 := h2.neg
 rcases h2 with ⟨_, h4⟩ | ⟨i, hi, rfl, h4⟩
 ·exact absurd h h4
 ·refine ⟨l.take i, l[i], l.drop (i + 1), by rw [← List.drop_eq_getElem_cons hi, List.take_append_drop], h4, ?_⟩
  unfold ref4_Bucket_Remove
  show bnd (ref4_Bucket_find n z l) _ = _
  have w1 : IntKind.i64.wrap ((i : Int) + 1) = ((i + 1 : Nat) : Int) := by rw [w64 (by omega) (by omega)]; omega
  rw [h1, bS, h3, decide_eq_false (fun e => e h), iF, w1]
  rw [gP (by show 0 ≤ (0 : Int) ∧ (0 : Int) ≤ (i : Int) ∧ (i : Int) ≤ (l.length : Int); omega), gP (by simp; omega), gP (by show 0 ≤ ((i + 1 : Nat) : Int) ∧ ((i + 1 : Nat) : Int) ≤ (l.length : Int); omega), gP (by simp; omega)]
  simp

theorem pSwap (f n z : ByteArray) (M : KM) : lake_Bucket_Swap f n z M = some (if (mget kStr M n).isSome = true then (if z = f then ((0 : Int), n, M) else ((10 : Int), z, M)) else ((9 : Int), z, M)) := by
 unfold lake_Bucket_Swap
 rw [bS, eq_S]
 cases (mget kStr M n).isSome with
 | false => rfl
 | true =>
  rw [Bool.not_true, iF, if_pos rfl]
  by_cases h : z = f
  ·rw [decide_eq_true h, Bool.not_true, iF, if_pos h]
  ·rw [decide_eq_false h, Bool.not_false, iT, if_neg h]

theorem mSwap (f n z : ByteArray) (l : List GObject) (hl : l.length < 1000000000) : ref4_Bucket_Swap f n ⟨l, z⟩ = some (if n ∈ nm l then (if z = f then ((0 : Int), ⟨l, n⟩) else ((10 : Int), ⟨l, z⟩)) else ((9 : Int), ⟨l, z⟩)) := by
 obtain ⟨r, h1, h2⟩ := find_ok n z l hl
 unfold ref4_Bucket_Swap
 show bnd (ref4_Bucket_find n z l) _ = _
 rw [h1, bS, h2.neg, eq_S]
 by_cases hm : n ∈ nm l
 ·rw [decide_eq_false (fun e => e hm), iF, if_pos hm]
  show ift (!(decide (z = f))) _ _ = _
  by_cases h : z = f
  ·rw [decide_eq_true h, Bool.not_true, iF, if_pos h]
  ·rw [decide_eq_false h, Bool.not_false, iT, if_neg h]
 ·rw [decide_eq_true hm, iT, if_neg hm]

theorem pGet (n z : ByteArray) (M : KM) (hd : ∀ d, mget kStr M n = some d → d.length ≤ 2000000) : lake_Bucket_Get n z M = some (match mget kStr M n with | some d => (d, (0 : Int)) | none => ([], (9 : Int))) := by
 unfold lake_Bucket_Get
 rw [bS]
 cases h : mget kStr M n with
 | none => rfl
 | some d =>
  have := hd d h
  simp only [Option.isSome_some, Bool.not_true, Option.getD_some]
  rw [iF]
  unfold bytes_Clone slices_Clip_byte_byte
  rw [gP (by omega), bS, gP (by omega), bS]
  simp

section
variable {b : Nat} {l1 l2 : List ByteArray} {l3 : List GObject} {M : KM} {z : ByteArray}

theorem pList (h : Inv b l1 l2 l3 M) (hb : b ≤ 2000000) : lake_Bucket_List z M = some (nm l3) := by
 unfold lake_Bucket_List sorted_keys slices_Clip_string_string
 have := h.mb
 rw [bS, gP (by omega), gP (fun x hx => by have := h.sz x hx; unfold maxLen; omega), bS, keys_eq h.so h.pm, gP (by omega), bS]
 rw [show ((0 : Int)).toNat = 0 from rfl, List.drop_zero, Nat.sub_zero, Int.toNat_natCast, List.take_length]

theorem j6_ok (rec1 : List ByteArray → List ByteArray → List GObject → (List (ByteArray × List Int)) → ByteArray → ByteArray → Int → Option Bool) (x : Int) (h : Inv b l1 l2 l3 M) (hb : b ≤ 2000000) :
  law4_LakeBucketsMatchSpec_j6 rec1 x l1 l2 l3 M z z = rec1 l1 l2 l3 M z z (IntKind.i64.wrap (x + (1 : Int))) := by
 have hl : l3.length < 1000000000 := by have := h.l3; have := h.mb; omega
 unfold law4_LakeBucketsMatchSpec_j6 law4_LakeBucketsMatchSpec_j7
 rw [pList h hb, bS, list_eq z l3 hl, bS, texts_eq _ (by simpa using hl), bS, Bool.not_true, iF]
 unfold lake_Bucket_Root ref4_Bucket_Root
 rw [bS, bS, eq_S, decide_eq_true rfl, Bool.not_true, iF]

theorem l2_loop (rec1 : List ByteArray → List ByteArray → List GObject → (List (ByteArray × List Int)) → ByteArray → ByteArray → Int → Option Bool) (z4 z5 : ByteArray) (x2 : Int) (e1 : GBucketOp) (r8 : List Int × Int) :
  ∀ n f : Nat, n ≤ l1.length → n < 1000000000 → n < f → law4_LakeBucketsMatchSpec_l2 rec1 l1 l2 l3 M z4 z5 x2 e1 r8 f ((n : Int) - 1) = law4_LakeBucketsMatchSpec_j3 rec1 l1 l2 l3 M z4 z5 x2 e1 r8 (ixN l1 e1.name n)
 | 0, f, _, _, hf => by
  obtain ⟨q, rfl⟩ := fu hf
  rw [law4_LakeBucketsMatchSpec_l2.eq_2]
  rfl
 | n + 1, f, hn, hb, hf => by
  obtain ⟨q, rfl⟩ := fu hf
  have hlt : n < l1.length := by omega
  rw [law4_LakeBucketsMatchSpec_l2.eq_2, show ((n + 1 : Nat) : Int) - 1 = (n : Int) by omega, decide_eq_true (show (0 : Int) ≤ (n : Int) by omega), iT, at_nat hlt, bS, eq_S]
  unfold law4_LakeBucketsMatchSpec_j2
  simp only [ixN, List.getElem?_eq_getElem hlt, Option.some.injEq]
  by_cases h : l1[n] = e1.name
  ·rw [decide_eq_true h, Bool.not_true, iF, if_pos h]
  ·rw [decide_eq_false h, Bool.not_false, iT, if_neg h, show IntKind.i64.wrap ((n : Int) - 1) = (n : Int) - 1 by rw [w64 (by omega) (by omega)], l2_loop rec1 z4 z5 x2 e1 r8 n q (by omega) (by omega) (by omega)]

theorem get_ok (rec1 : List ByteArray → List ByteArray → List GObject → (List (ByteArray × List Int)) → ByteArray → ByteArray → Int → Option Bool) (x : Int) (e : GBucketOp) (h : Inv b l1 l2 l3 M) (hb : b ≤ 2000000) :
  law4_LakeBucketsMatchSpec_j3 rec1 l1 l2 l3 M z z x e (match mget kStr M e.name with | some d => (d, (0 : Int)) | none => ([], (9 : Int))) (ixN l1 e.name l1.length) = rec1 l1 l2 l3 M z z (IntKind.i64.wrap (x + (1 : Int))) := by
 have hl : l3.length < 1000000000 := by have := h.l3; have := h.mb; omega
 have hm := h.mem e.name
 unfold law4_LakeBucketsMatchSpec_j3
 rw [list_eq z l3 hl, bS, listed_eq _ _ (by simpa using hl), bS, ← hm]
 cases hg : mget kStr M e.name with
 | none =>
  show ift (!(((9 : Int) == 0) == false)) _ (ift ((9 : Int) == 0) _ _) = _
  rw [show (!(((9 : Int) == 0) == false)) = false from rfl, iF, show ((9 : Int) == 0) = false from rfl, iF]
  unfold law4_LakeBucketsMatchSpec_j4
  rw [iF]
  show ift ((9 : Int) != 0) (law4_LakeBucketsMatchSpec_j5 rec1 l1 l2 l3 M z z x ((9 : Int) != 9)) _ = _
  rw [show ((9 : Int) != 0) = true from rfl, iT, show ((9 : Int) != 9) = false from rfl]
  unfold law4_LakeBucketsMatchSpec_j5
  rw [iF, j6_ok rec1 x h hb]
 | some d =>
  show ift (!(((0 : Int) == 0) == true)) _ (ift ((0 : Int) == 0) _ _) = _
  rw [show (!(((0 : Int) == 0) == true)) = false from rfl, iF, show ((0 : Int) == 0) = true from rfl, iT, h.tx _ d hg, bS, eq_S, decide_eq_true rfl, Bool.not_true]
  unfold law4_LakeBucketsMatchSpec_j4
  rw [iF]
  show ift ((0 : Int) != 0) _ (law4_LakeBucketsMatchSpec_j5 rec1 l1 l2 l3 M z z x false) = _
  rw [show ((0 : Int) != 0) = false from rfl, iF]
  unfold law4_LakeBucketsMatchSpec_j5
  rw [iF, j6_ok rec1 x h hb]
end

theorem obj64 {n : ByteArray} (h : isObj n = true) : n.size ≤ 64 := by
 unfold isObj at h
 simp only [Bool.and_eq_true, decide_eq_true_eq] at h
 exact h.1.2

theorem loop_ok (p : List GBucketOp) (hp : p.length ≤ 2000000) (ho : ∀ o ∈ p, o.name.size < 1000000000 ∧ o.data.length ≤ 2000000) : ∀ (k i : Nat) (l1 l2 : List ByteArray) (l3 : List GObject) (M : KM) (z : ByteArray),
  i ≤ p.length → p.length - i < k → Inv i l1 l2 l3 M → law4_LakeBucketsMatchSpec_l1 p k l1 l2 l3 M z z (i : Int) = some true := by
 intro k
 induction k with
 | zero => intro i _ _ _ _ _ _ h; omega
 | succ k ih =>
  intro i l1 l2 l3 M z hi hk h
  have hl : l3.length < 1000000000 := by have := h.l3; have := h.mb; omega
  rw [law4_LakeBucketsMatchSpec_l1.eq_2]
  by_cases hlt : i < p.length
  ·obtain ⟨o1, o2⟩ := ho p[i] (List.getElem_mem _)
   have w1 : IntKind.i64.wrap ((i : Int) + 1) = ((i + 1 : Nat) : Int) := by rw [w64 (by omega) (by omega)]; omega
   have same : ∀ z', law4_LakeBucketsMatchSpec_j6 (law4_LakeBucketsMatchSpec_l1 p k) (i : Int) l1 l2 l3 M z' z' = some true := fun z' => by
    rw [j6_ok _ _ h (by omega), w1]
    exact ih (i + 1) l1 l2 l3 M z' (by omega) (by omega) (h.up (by omega))
   rw [decide_eq_true (show (i : Int) < (p.length : Int) by omega), iT, at_nat hlt, bS]
   generalize p[i] = o at o1 o2
   cases k0 : (o.kind == (0 : Int)) with
   | true =>
    rw [iT, pPut _ _ _ _ o1 o2, bS, mPut _ _ _ _ o1 o2 hl, bS]
    cases hob : isObj o.name with
    | false =>
     simp only [Bool.false_eq_true, if_false]
     rw [show ((4 : Int) != 4) = false from rfl, iF, show ((4 : Int) == 0) = false from rfl, iF]
     exact same z
    | true =>
     rw [h.mem]
     by_cases hm : o.name ∈ nm l3
     ·simp only [hm, decide_true, if_true]
      rw [show ((5 : Int) != 5) = false from rfl, iF, show ((5 : Int) == 0) = false from rfl, iF]
      exact same z
     ·simp only [hm, decide_false, Bool.false_eq_true, if_false, if_true]
      have := h.lb
      have := h.len
      rw [show ((0 : Int) != 0) = false from rfl, iF, show ((0 : Int) == 0) = true from rfl, iT, gP (by omega), gP (by omega)]
      have h' := h.put (o := ob o.name o.data) (d := o.data) hm (obj64 hob) o2
      rw [j6_ok _ _ h' (by omega), w1]
      exact ih (i + 1) _ _ _ _ z (by omega) (by omega) h'
   | false =>
    rw [iF]
    cases k1 : (o.kind == (1 : Int)) with
    | true =>
     rw [iT, pGet _ _ _ (fun d hd => h.db _ d hd), bS]
     have := h.lb
     rw [show IntKind.i64.wrap (((l1.length : Nat) : Int) - 1) = (l1.length : Int) - 1 by rw [w64 (by omega) (by omega)], l2_loop _ _ _ _ _ _ l1.length BIG (Nat.le_refl _) (by omega) (by rw [big_val]; omega), get_ok _ _ _ h (by omega), w1]
     exact ih (i + 1) l1 l2 l3 M z (by omega) (by omega) (h.up (by omega))
    | false =>
     rw [iF]
     cases k2 : (o.kind == (2 : Int)) with
     | true =>
      rw [iT, pRem, bS, h.mem]
      by_cases hm : o.name ∈ nm l3
      ·obtain ⟨A, x, B, rfl, e2, e3⟩ := mRem_in (z := z) hl hm
       rw [e3, bS]
       simp only [hm, decide_true, if_true]
       rw [show ((0 : Int) != 0) = false from rfl, iF]
       rw [← e2]
       have h' := h.rm
       rw [j6_ok _ _ h' (by omega), w1]
       exact ih (i + 1) _ _ _ _ z (by omega) (by omega) (h'.up (by omega))
      ·rw [mRem_out hl hm, bS]
       simp only [hm, decide_false, Bool.false_eq_true, if_false]
       rw [show ((9 : Int) != 9) = false from rfl, iF]
       exact same z
     | false =>
      rw [iF, pSwap, bS, mSwap _ _ _ _ hl, bS, h.mem]
      by_cases hm : o.name ∈ nm l3
      ·simp only [hm, decide_true, if_true]
       by_cases hz : z = o.old
       ·simp only [hz, if_true]
        rw [show ((0 : Int) != 0) = false from rfl, iF]
        exact same _
       ·simp only [hz, if_false]
        rw [show ((10 : Int) != 10) = false from rfl, iF]
        exact same z
      ·simp only [hm, decide_false, Bool.false_eq_true, if_false]
       rw [show ((9 : Int) != 9) = false from rfl, iF]
       exact same z
  ·rw [decide_eq_false (show ¬ (i : Int) < (p.length : Int) by omega), iF]
   rfl

theorem inv0 : Inv 0 [] [] [] [] :=
 ⟨rfl, Nat.le_refl _, Nat.le_refl _, by simp, by simp, .nil, .refl _, fun k d h => by simp [mget] at h, fun k d h => by simp [mget] at h⟩

theorem objX : isObj (ByteArray.mk #[120]) = true := by decide +kernel

theorem law_buckets (p : List GBucketOp) (hp : p.length ≤ 2000000) (ho : ∀ o ∈ p, o.name.size < 1000000000 ∧ o.data.length ≤ 2000000) : law4_LakeBucketsMatchSpec p = some true := by
 have a1 : lake_Bucket_Put (ByteArray.mk #[120]) [(49 : Int)] ByteArray.empty [] = some ((0 : Int), ByteArray.empty, [(ByteArray.mk #[120], [(49 : Int)])]) := by
  rw [pPut _ _ _ _ (by decide) (by decide), if_pos objX]; rfl
 have hg : (mget kStr [(ByteArray.mk #[120], [(49 : Int)])] (ByteArray.mk #[120])).isSome = true := by rw [gt_isSome]; simp
 have a2 : lake_Bucket_Put (ByteArray.mk #[120]) [(49 : Int)] ByteArray.empty [(ByteArray.mk #[120], [(49 : Int)])] = some ((5 : Int), ByteArray.empty, [(ByteArray.mk #[120], [(49 : Int)])]) := by
  rw [pPut _ _ _ _ (by decide) (by decide), if_pos objX, if_pos hg]
 have a3 : lake_Bucket_Remove (ByteArray.mk #[120]) ByteArray.empty [(ByteArray.mk #[120], [(49 : Int)])] = some ((0 : Int), ByteArray.empty, []) := by
  rw [pRem, if_pos hg]
  simp [del]
 unfold law4_LakeBucketsMatchSpec
 rw [show lake_NewBucket = some () from rfl, bS, a1, bS]
 show ift ((0 : Int) != 0) _ _ = _
 rw [show ((0 : Int) != 0) = false from rfl, iF]
 show bnd (lake_Bucket_Put (ByteArray.mk #[120]) [(49 : Int)] ByteArray.empty [(ByteArray.mk #[120], [(49 : Int)])]) _ = _
 rw [a2, bS]
 show ift ((5 : Int) != 5) _ _ = _
 rw [show ((5 : Int) != 5) = false from rfl, iF]
 show bnd (lake_Bucket_Remove (ByteArray.mk #[120]) ByteArray.empty [(ByteArray.mk #[120], [(49 : Int)])]) _ = _
 rw [a3, bS]
 show law4_LakeBucketsMatchSpec_j1 p [] ByteArray.empty ((0 : Int) != 0) = _
 rw [show ((0 : Int) != 0) = false from rfl]
 unfold law4_LakeBucketsMatchSpec_j1
 rw [iF, show ref4_NewBucket = some () from rfl, bS]
 exact loop_ok p hp ho BIG 0 [] [] [] [] ByteArray.empty (Nat.zero_le _) (by rw [big_val]; omega) inv0
end Go.Proofs.Ytliijalplckcnaa
namespace Go.Proofs.Ytliijalplckcnaa
open Go Go.SX
set_option linter.unusedVariables false
set_option linter.unusedSimpArgs false

def Rd (B : Bulk) (t : TypeId) {α : Type} (c : α → List PV) (X : α → Prop) : Prop := ∀ N N' : Nat, N' ≤ N → RdB B Try.prog N' t c (fun x => N ≤ 1048576 → X x) (fun _ => 1)

theorem Rd.of {B : Bulk} {t : TypeId} {α : Type} {c c' : α → List PV} {wf : α → Prop} {s : α → Nat} {X : α → Prop} (h : ∀ N, RdB B Try.prog N t c wf s) (hc : ∀ x, c' x = c x) (hX : ∀ x, wf x → s x ≤ 1048576 → X x) : Rd B t c' X := by
 intro N N' hN H enc w base spare held fuel cs d ps hd hb
 obtain ⟨x, h1, h2, h3⟩ := h N' hd hb
 exact ⟨x, by rw [hc]; exact h1, fun hM => hX x h2 (by omega), B.one d⟩

theorem ones {α : Type} (xs : List α) : (xs.map fun _ => (1 : Nat)).sum = xs.length := by
 induction xs with
 | nil => rfl
 | cons x l ih => rw [List.map_cons, List.sum_cons, ih, List.length_cons]; omega

theorem Rd.list {B : Bulk} {t e : TypeId} {α : Type} {c : α → List PV} {X : α → Prop} (n : Nat) (h : Rd B e c X) (ht : Try.prog.underlying t = some (.slice e)) (he : Try.prog.cellsOf e = n + 1) (hc : ∀ x, (c x).length = n + 1) :
  Rd B t (fun xs : List α => [.ro (xs.map c)]) (fun xs => xs.length < 1000000000 ∧ ∀ x ∈ xs, X x) := by
 intro N N' hN H enc w base spare held fuel cs d ps hd hb
 obtain ⟨x, h1, h2, h3⟩ := RdB.slice (B := B) (P := Try.prog) (N := N') (t := t) (e := e) (cells := c) ht (fun x => by rw [hc, he]) (by rw [he]; omega) (fun N'' h'' => h N N'' (by omega)) hd hb
 have h3 : (x.map fun _ => (1 : Nat)).sum + 1 ≤ B.f d := h3
 rw [ones] at h3
 exact ⟨x, h1, fun hM => ⟨by omega, fun y hy => h2 y hy hM⟩, B.one d⟩

def RF (B : Bulk) (off : Nat) (fs : List Field) {α : Type} (c : α → List PV) (X : α → Prop) : Prop := ∀ N N' : Nat, N' ≤ N → RdF B Try.prog N' off fs c (fun x => N ≤ 1048576 → X x) (fun _ => 0)

theorem RF.nil {B : Bulk} {off : Nat} : RF B off [] (fun _ : Unit => []) (fun _ => True) := fun N N' hN H enc w base spare held n cs xs hl h hb hc => by
 obtain ⟨x, h1, _, h3⟩ := RdF.nil (B := B) (P := Try.prog) (N := N') hl h hb hc
 exact ⟨x, h1, fun _ => trivial, h3⟩

theorem RF.cons {B : Bulk} {off : Nat} {f : Field} {fs : List Field} {α β : Type} {c1 : α → List PV} {c2 : β → List PV} {X : α → Prop} {Y : β → Prop} (k n : Nat) (hk : f.type = k) (ho : f.offset = off) (hz : Try.prog.cellsOf k = n) (hc : ∀ x, (c1 x).length = n)
  (h : Rd B k c1 X) (r : RF B (off + n) fs c2 Y) : RF B off (f :: fs) (fun p : α × β => c1 p.1 ++ c2 p.2) (fun p => X p.1 ∧ Y p.2) := by
 subst hk; subst hz
 intro N N' hN H enc w base spare held m cs xs hl hx hb hc'
 obtain ⟨x, h1, h2, h3⟩ := RdF.cons ho hc (h N N' hN) (r N N' hN) hl hx hb hc'
 exact ⟨x, h1, fun hM => ⟨h2.1 hM, h2.2 hM⟩, Nat.zero_le _⟩

theorem Rd.struct {B : Bulk} {t : TypeId} {α β : Type} {L : List Field} {c : β → List PV} {X : β → Prop} {c' : α → List PV} {Y : α → Prop} (h : RF B 0 L c X) (hu : isStruct Try.prog t = true) (hL : fieldsOf Try.prog t = L) (hz : Try.prog.cellsOf t = 0 + (L.map fun f => Try.prog.cellsOf f.type).sum)
  (mk : β → α) (h1 : ∀ y, c' (mk y) = c y) (h2 : ∀ y, X y → Y (mk y)) : Rd B t c' Y := fun N N' hN =>
 RdB.structF (α := α) (cells := c') (wf' := fun x => N ≤ 1048576 → Y x) (size := fun _ => 1) hu hL hz (fun N'' h'' => h N N'' (by omega)) mk h1 (fun y hy hM => h2 y (hy hM)) (fun y => by omega)

variable {B : Bulk}

theorem rI : Rd B 3 (fun n : Int => [pi n]) (fun _ => True) := Rd.of (fun N => RdB.int (k := .i64) (by kernel_rfl)) (fun _ => rfl) (fun _ _ _ => trivial)
theorem rSt : Rd B 9 (fun s : ByteArray => [.s (.string s)]) (fun s => s.size < 10000000) := Rd.of (fun N => RdB.str (by kernel_rfl)) (fun _ => rfl) (fun s _ h => by omega)
theorem rBy : Rd B 27 (fun xs : List Int => [PV.ro ((eK .u8).els xs)]) (fun xs => xs.length ≤ 2000000) :=
 Rd.of (fun N => rdBytes (P := Try.prog) 27 5 (by kernel_rfl) (by kernel_rfl) (by kernel_rfl) N) (fun _ => rfl) (fun x _ h => by omega)

abbrev opC (x : GBucketOp) : List PV := [pi x.kind, .s (.string x.name), .s (.string x.old), .ro ((eK .u8).els x.data)]
theorem rOp : Rd B 33 opC (fun x : GBucketOp => x.name.size < 1000000000 ∧ x.data.length ≤ 2000000) :=
 Rd.struct (L := [fld Try.prog 33 0, fld Try.prog 33 1, fld Try.prog 33 2, fld Try.prog 33 3])
  (RF.cons 3 1 (by kernel_rfl) (by kernel_rfl) (by kernel_rfl) (fun x => rfl) rI (RF.cons 9 1 (by kernel_rfl) (by kernel_rfl) (by kernel_rfl) (fun x => rfl) rSt (RF.cons 9 1 (by kernel_rfl) (by kernel_rfl) (by kernel_rfl) (fun x => rfl) rSt (RF.cons 27 1 (by kernel_rfl) (by kernel_rfl) (by kernel_rfl) (fun x => rfl) rBy RF.nil))))
  (by kernel_rfl) (by kernel_rfl) (by kernel_rfl)
  (fun y => (⟨y.1, y.2.1, y.2.2.1, y.2.2.2.1⟩ : GBucketOp)) (fun y => rfl) (fun y h => ⟨Nat.lt_trans h.2.1 (by decide), h.2.2.2.1⟩)

abbrev OpsOk (xs : List GBucketOp) : Prop := xs.length < 1000000000 ∧ ∀ x ∈ xs, x.name.size < 1000000000 ∧ x.data.length ≤ 2000000

theorem ops_len {N : Nat} : RdB B Try.prog N 22 (fun xs : List GBucketOp => [PV.ro (xs.map opC)]) (fun xs => (N ≤ 1048576 → ∀ x ∈ xs, x.name.size < 1000000000 ∧ x.data.length ≤ 2000000)) (fun xs => xs.length) := by
 intro H enc w base spare held fuel cs d ps hd hb
 obtain ⟨x, h1, h2, h3⟩ := RdB.slice (B := B) (P := Try.prog) (N := N) (t := 22) (e := 33) (cells := opC) (by kernel_rfl) (fun x => by rw [show Try.prog.cellsOf 33 = 4 by kernel_rfl]; rfl) (by rw [show Try.prog.cellsOf 33 = 4 by kernel_rfl]; omega) (fun N'' h'' => rOp N N'' (by omega)) hd hb
 have h3 : (x.map fun _ => (1 : Nat)).sum + 1 ≤ B.f d := h3
 rw [ones] at h3
 exact ⟨x, h1, fun hM y hy => h2 y hy hM, by show x.length ≤ B.f d; omega⟩

noncomputable def szOps (xs : List GBucketOp) : Nat := @ite _ (∀ x ∈ xs, x.name.size < 1000000000 ∧ x.data.length ≤ 2000000) (Classical.propDecidable _) xs.length 1048577
theorem szOps_ok {xs : List GBucketOp} (h : szOps xs ≤ 1048576) : xs.length ≤ 2000000 ∧ ∀ x ∈ xs, x.name.size < 1000000000 ∧ x.data.length ≤ 2000000 := by
 unfold szOps at h
 split at h
 ·rename_i h1; exact ⟨by omega, h1⟩
 ·omega

theorem rdOps (N : Nat) : RdB B Try.prog N 22 (fun xs : List GBucketOp => [PV.ro (eBucketOp.els xs)]) (fun _ => True) szOps := by
 have e : (fun xs : List GBucketOp => [PV.ro (eBucketOp.els xs)]) = fun xs => [.ro (xs.map opC)] := by funext xs; rw [Enc.hels]; rfl
 rw [e]
 intro H enc w base spare held fuel cs d ps hd hb
 by_cases hs : B.f d ≤ 1048576
 ·obtain ⟨x, h1, h2, h3⟩ := ops_len (B := B) (N := B.f d) hd (Nat.le_refl _)
  refine ⟨x, h1, trivial, ?_⟩
  unfold szOps
  rw [if_pos (h2 hs)]
  exact h3
 ·obtain ⟨x, h1, _, h3⟩ := ops_len (B := B) (N := N) hd hb
  refine ⟨x, h1, trivial, ?_⟩
  unfold szOps
  split <;> omega

end Go.Proofs.Ytliijalplckcnaa
