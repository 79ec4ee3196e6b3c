/- The calendar, in plain integers. Names, in plain terms. The fields of a type, in plain terms. The check of types and the common type, in plain terms. Texts and sound values, in plain terms. Values of a type, in plain terms; the law of Sound and Check. Rows: lists of fields. SameType: both answers are the same. CheckSchema: both answers are the same. CheckSchema, end; the law of types. Rows: CheckRows, of both sides. Adapt: fields that are found, types that widen, schemas that are adaptable. TransformType of both sides. Partitions: suits and the fields at the top, of both sides. Loops that look for the first error. Names of objects. Numbers of 256 bits: what 'times' and 'compare' compute. Comparing numbers of 256 bits. Compare, in plain terms. Compare is a total order. What the reference compares. The reference's Compare, in plain terms; the law 'ValueOrderMatchesSpec'. Values of leaves: what a check says of them; their order. Fields at the top, types of partition values, data files: both sides find the same error. Data files: both sides find the same error. Texts: their order. What is removed by keys: both sides find the same error. Snapshots: both sides find the same error. What is removed in a snapshot; all snapshots: both sides find the same error. All snapshots: both sides find the same error. Files with one name: both sides find whether they differ. Files with one name in different snapshots: both sides find the same error. References, properties, limits, schemas: both sides find the same error. Schemas, specs; Check of both sides; the law. What a table has that the program's Check accepts. What is different between two snapshots of a checked table: the program's answer. -/
import Derived.Laws.Runes
import Derived.ChangeKeysEq
import Derived.Lib.Bytealg
import Derived.Sort.Statements
import Derived.Test.YtfnmbpecdjncfaaGreatDoorGeA
set_option linter.unusedVariables false
set_option linter.unusedSimpArgs false
set_option linter.unnecessarySimpa false
namespace Go.SX.Cal
open Go
theorem zQ {x : Int} (h1 : -9223372036854775808 ≤ x) (h2 : x ≤ 9223372036854775807) : IntKind.i64.wrap x = x := by
 simp only [IntKind.wrap, IntKind.bits, IntKind.signed]
 simp only [Bool.true_and, decide_eq_true_eq, ge_iff_le]
 split <;> omega
def S (y : Int) : Int := 365 * y + y / 4 - y / 100
def F (r : Int) : Int := r - r / 1460 + r / 36524
def PB (y : Int) : Prop := y % 4 = 0 ∧ (y % 100 ≠ 0 ∨ y % 400 = 0)
instance (y : Int) : Decidable (PB y) := by unfold PB; infer_instance
def E (y : Int) : Int := y / 400 * 146097 + S (y % 400) - 719468
end Go.SX.Cal
namespace Go.Proofs.YtfnmbpecdjncfaaGreatDoor
open Go Go.SX Go.SX.Cal
theorem bb {β : Type} (x y : Option β) : al true x y = x := rfl
theorem aN {β : Type} (x y : Option β) : al false x y = y := rfl
theorem aP {β : Type} (b : Bool) (x y : Option β) : al b x y = if b = true then x else y := by cases b <;> rfl
theorem bl : bq = 1152921504606846976 := rfl
def first (P : Nat → Bool) (i n : Nat) : Option Nat := (List.range' i (n - i)).find? P
theorem oP {P : Nat → Bool} {i n : Nat} (h : i < n) : first P i n = if P i = true then some i else first P (i + 1) n := by
 unfold first
 rw [show n - i = (n - (i + 1)) + 1 by omega, List.range'_succ, List.find?_cons]
 cases hp : P i <;> simp [hp]
theorem oV {P : Nat → Bool} {n : Nat} : first P n n = none := by simp [first]
theorem tN {P : Nat → Bool} {i n : Nat} : first P i n = none ↔ ∀ j, i ≤ j → j < n → P j = false := by
 unfold first
 rw [List.find?_eq_none]
 constructor
 ·intro h j h1 h2
  have := h j (by rw [List.mem_range'_1]; omega)
  simpa using this
 ·intro h j hj
  rw [List.mem_range'_1] at hj
  have := h j (by omega) (by omega)
  simp [this]
theorem oU {β : Type} {f : Nat → Nat → Option β} {n : Nat} {P : Nat → Bool} {A : Nat → Option β} {B : Option β} (hstep : ∀ k i, i < n → f (k + 1) i = if P i = true then A i else f k (i + 1)) (hend : ∀ k, f (k + 1) n = B) :
  ∀ k i, i ≤ n → n - i < k → f k i = (first P i n).elim B A := by
 intro k
 induction k with
 | zero => intro i _ h; omega
 | succ k ih =>
  intro i hi hk
  by_cases h : i = n
  ·subst h
   rw [hend, oV]; rfl
  ·rw [hstep k i (by omega), oP (by omega)]
   by_cases hp : P i = true
   ·simp [hp]
   ·simp only [hp, if_false]
    exact ih (i + 1) (by omega) (by omega)
def mJ (s : ByteArray) (i : Nat) : Nat := (s.data.toList.getD i 0).toNat
theorem zP (s : ByteArray) (i : Nat) (h : i < s.size) : (s.get! i).toNat = mJ s i := by
 unfold mJ
 have h' : i < s.data.size := h
 have : s.get! i = s.data.toList.getD i 0 := by
  simp only [ByteArray.get!, List.getD, Array.getElem?_toList]
  rw [getElem!_pos s.data i h', Array.getElem?_eq_getElem h']; rfl
 rw [this]
def oB (b : Nat) : Bool := decide (97 ≤ b) && decide (b ≤ 122)
def other (b : Nat) : Bool := b == 95 || (decide (48 ≤ b) && decide (b ≤ 57))
def Cz (b : Nat) : Bool := oB b || other b
theorem H0 (n : Nat) : qx (Int.ofNat n) = some (!Cz n) := by
 unfold qx fv
 simp only [aP, decide_eq_true_eq, Int.ofNat_eq_natCast]
 repeat' split
 all_goals (rw [Option.some.injEq, Bool.eq_iff_iff]; simp [Cz, oB, other]; omega)
theorem yO (s : ByteArray) (i : Nat) (h : i < s.size) (hb : mJ s i < 128) : Utf8.decode s i = (mJ s i, 1) := by
 have e := zP s i h
 unfold Utf8.decode
 simp [e, hb]
theorem ze (s : ByteArray) (i : Nat) (h : i < s.size) (hb : ¬ mJ s i < 128) : 128 ≤ (Utf8.decode s i).1 := by
 have e := zP s i h
 unfold Utf8.decode
 simp only [Nat.add_zero, e, if_neg hb, Utf8.runeError]
 repeat' split
 all_goals simp_all
 all_goals omega
def Lu (s : ByteArray) (i : Nat) : Bool := !Cz (mJ s i)
theorem CZ (s : ByteArray) : ∀ k i, i ≤ s.size → s.size - i < k → ∃ r, bV s true k i = some r ∧ (decide (0 ≤ r) = (first (Lu s) i s.size).isSome) := by
 intro k
 induction k with
 | zero => intro i _ h; omega
 | succ k ih =>
  intro i hi hk
  rw [bV]
  by_cases h : i = s.size
  ·subst h
   rw [oV]
   simp only [Nat.lt_irrefl, decide_false, aN]
   exact ⟨-1, rfl, rfl⟩
  ·have hlt : i < s.size := by omega
   simp only [hlt, decide_true, bb, H0, bm]
   rw [oP hlt]
   by_cases hb : mJ s i < 128
   ·rw [yO s i hlt hb]
    simp only [Lu]
    by_cases hg : Cz (mJ s i) = true
    ·simp only [hg, Bool.not_true, aP]
     obtain ⟨r, h1, h2⟩ := ih (i + 1) (by omega) (by omega)
     exact ⟨r, by simpa using h1, by simpa [Lu] using h2⟩
    ·simp only [hg, Bool.not_false, aP]
     exact ⟨_, rfl, by simp⟩
   ·have h1 := ze s i hlt hb
    have g1 : Cz (Utf8.decode s i).1 = false := by
     generalize (Utf8.decode s i).1 = x at h1
     simp [Cz, oB, other]; omega
    have g2 : Lu s i = true := by
     simp [Lu, Cz, oB, other]; omega
    simp only [g1, g2, Bool.not_false, aP]
    exact ⟨_, rfl, by simp⟩
def oH (s : ByteArray) : Bool := decide (1 ≤ s.size) && decide (s.size ≤ 24) && oB (mJ s 0) && (first (Lu s) 0 s.size).isNone
theorem qN (s : ByteArray) : (s.toList == (ByteArray.mk #[]).toList) = decide (s.size = 0) := by
 rw [ByteArray.toList_eq, ByteArray.toList_eq, Bool.eq_iff_iff]
 show (s.data.toList == []) = true ↔ decide (s.data.size = 0) = true
 rw [← Array.length_toList]
 cases s.data.toList <;> simp
theorem Iq (s : ByteArray) (hs : s.size < 1000000000) : oW s = some (oH s) := by
 obtain ⟨r, h1, h2⟩ := CZ s bq 0 (Nat.zero_le _) (by rw [bl]; omega)
 unfold oW lm fa fW f7
 rw [h1, qN]
 simp only [bm, h2, aP]
 by_cases z0 : s.size = 0
 ·simp [z0, oH]
 ·by_cases z1 : 24 < s.size
  ·have : ¬ s.size ≤ 24 := by omega
   simp [z0, z1, oH, this, show (24 : Int) < (s.size : Int) by omega]
  ·have hz : ¬ (24 : Int) < (s.size : Int) := by omega
   have hb : ((s.data.toList.getD (0 : Int).toNat 0).toNat : Int) = (mJ s 0 : Int) := rfl
   simp only [z0, decide_false, hz, Bool.false_eq_true, if_false, hb]
   rw [jn (by omega), jn (by omega)]
   simp only [decide_eq_true_eq]
   have : s.size ≤ 24 := by omega
   by_cases q1 : mJ s 0 < 97
   ·have : ¬ 97 ≤ mJ s 0 := by omega
    simp [show (mJ s 0 : Int) < 97 by omega, oH, oB, this]
   ·by_cases q2 : 122 < mJ s 0
    ·have : ¬ mJ s 0 ≤ 122 := by omega
     simp [show ¬ (mJ s 0 : Int) < 97 by omega, show (122 : Int) < (mJ s 0 : Int) by omega, oH, oB, this]
    ·simp [show ¬ (mJ s 0 : Int) < 97 by omega, show ¬ (122 : Int) < (mJ s 0 : Int) by omega, oH, oB, show 1 ≤ s.size by omega, this, show 97 ≤ mJ s 0 by omega, show mJ s 0 ≤ 122 by omega]
def Bi (s : ByteArray) (i : Nat) : Bool := !oB (mJ s i) && (i == 0 || !other (mJ s i))
theorem E2 (s : ByteArray) (hs : s.size < 1000000000) (k i : Nat) (hi : i < s.size) : hI s (k + 1) (i : Int) = if Bi s i = true then some false else hI s k ((i + 1 : Nat) : Int) := by
 rw [hI, ← aP]
 have hb : ((s.data.toList.getD (i : Int).toNat 0).toNat : Int) = (mJ s i : Int) := rfl
 have hw : IntKind.i64.wrap ((i : Int) + 1) = ((i + 1 : Nat) : Int) := by rw [zQ (by omega) (by omega)]; omega
 have hg : 0 ≤ (i : Int) ∧ (i : Int) < (s.size : Int) := by omega
 rw [show decide ((i : Int) < (s.size : Int)) = true by simp [hg.2], bb]
 simp only [tF, qI, qE, hb, hw, bm, jn hg]
 have e1 : ((mJ s i : Int) == 95) = (mJ s i == 95) := by rw [Bool.eq_iff_iff]; simp; omega
 have e2 : (decide ((97 : Int) ≤ mJ s i)) = decide (97 ≤ mJ s i) := by rw [Bool.eq_iff_iff]; simp; omega
 have e3 : (decide ((mJ s i : Int) ≤ 122)) = decide (mJ s i ≤ 122) := by rw [Bool.eq_iff_iff]; simp; omega
 have e4 : (decide ((48 : Int) ≤ mJ s i)) = decide (48 ≤ mJ s i) := by rw [Bool.eq_iff_iff]; simp; omega
 have e5 : (decide ((mJ s i : Int) ≤ 57)) = decide (mJ s i ≤ 57) := by rw [Bool.eq_iff_iff]; simp; omega
 have e6 : ((i : Int) == 0) = (i == 0) := by rw [Bool.eq_iff_iff]; simp
 simp only [e1, e2, e3, e4, e5, e6, Bi, oB, other]
 generalize hq : hI s k ((i + 1 : Nat) : Int) = q
 generalize (mJ s i == 95) = b1
 generalize decide (97 ≤ mJ s i) = b2
 generalize decide (mJ s i ≤ 122) = b3
 generalize decide (48 ≤ mJ s i) = b4
 generalize decide (mJ s i ≤ 57) = b5
 generalize (i == 0) = b6
 cases b1 <;> cases b2 <;> cases b3 <;> cases b4 <;> cases b5 <;> cases b6 <;> rfl
theorem Oq (s : ByteArray) (hs : s.size < 1000000000) : yY s = some (oH s) := by
 have hl := oU (f := fun k i => hI s k (i : Int)) (n := s.size) (P := Bi s) (A := fun _ => some false) (B := some true) (fun k i hi => E2 s hs k i hi)
  (fun k => by rw [hI]; simp only [Int.lt_irrefl, decide_false, aN]; rfl) bq 0 (Nat.zero_le _) (by rw [bl]; omega)
 have hl : hI s bq (0 : Int) = _ := hl
 unfold yY tI
 rw [hl]
 simp only [aP]
 by_cases z0 : s.size = 0
 ·simp [z0, oH]
 ·by_cases z1 : 24 < s.size
  ·have : ¬ s.size ≤ 24 := by omega
   simp [z0, z1, oH, this, show (24 : Int) < (s.size : Int) by omega]
  ·have hz : ¬ (24 : Int) < (s.size : Int) := by omega
   have hz2 : ¬ (s.size : Int) < 1 := by omega
   simp only [hz, hz2, decide_false, Bool.false_eq_true, if_false]
   have e : (first (Bi s) 0 s.size).isNone = (oB (mJ s 0) && (first (Lu s) 0 s.size).isNone) := by
    rw [Bool.eq_iff_iff, Bool.and_eq_true, Option.isNone_iff_eq_none, Option.isNone_iff_eq_none, tN, tN]
    constructor
    ·intro h
     have h0 := h 0 (Nat.le_refl _) (by omega)
     simp only [Bi, beq_self_eq_true, Bool.true_or, Bool.and_true] at h0
     have h0' : oB (mJ s 0) = true := by simpa using h0
     refine ⟨h0', fun j _ hj => ?_⟩
     have h1 := h j (Nat.zero_le _) hj
     simp only [Bi, Lu, Cz] at h1 ⊢
     cases hs : oB (mJ s j) <;> cases ho : other (mJ s j) <;> simp_all
    ·rintro ⟨h0, h⟩ j _ hj
     have h1 := h j (Nat.zero_le _) hj
     simp only [Bi, Lu, Cz] at h1 ⊢
     by_cases hj0 : j = 0
     ·subst hj0; simp [h0]
     ·cases hs : oB (mJ s j) <;> cases ho : other (mJ s j) <;> simp_all
   have : (first (Bi s) 0 s.size).elim (some true) (fun _ => some false) = some ((first (Bi s) 0 s.size).isNone) := by cases first (Bi s) 0 s.size <;> rfl
   rw [this, e]
   simp [oH, show 1 ≤ s.size by omega, show s.size ≤ 24 by omega]
end Go.Proofs.YtfnmbpecdjncfaaGreatDoor
namespace Go.Proofs.YtfnmbpecdjncfaaGreatDoor
open Go Go.SX Go.SX.Cal
mutual
def jm : af → Nat
 | ⟨_, _, fs⟩ => d8 fs + 1
def d8 : List (ix af) → Nat
 | [] => 0
 | f :: l => rD f + d8 l
def rD : ix af → Nat
 | ⟨_, n, _, t⟩ => n.size + jm t + 1
end
theorem gL : ∀ {l : List ab} {x : ab}, x ∈ l → rD x ≤ d8 l
 | [], _, h => by cases h
 | y :: l, x, h => by
  simp only [d8]
  rcases List.mem_cons.1 h with rfl | h
  ·omega
  ·have := gL h; omega
theorem gq : ∀ x : ab, rD x = x.name.size + jm x.type + 1
 | ⟨_, _, _, _⟩ => by simp only [rD]
theorem m9 : ∀ x : af, jm x = d8 x.fields + 1
 | ⟨_, _, _⟩ => by simp only [jm]
theorem dQ : ∀ l : List ab, l.length ≤ d8 l
 | [] => by simp [d8]
 | x :: l => by
  have := dQ l
  have := gq x
  simp only [d8, List.length_cons]; omega
theorem aK {i n : Nat} (h : i < n) (hn : n < 1000000000) : IntKind.i64.wrap ((i : Int) + 1) = ((i + 1 : Nat) : Int) := by rw [zQ (by omega) (by omega)]; omega
theorem aZ {α : Type} {xs : List α} {i : Nat} (h : i < xs.length) : at? xs (i : Int) = some xs[i] := by unfold at?; simp [h]
theorem bw {i n : Nat} (h : i < n) : decide ((i : Int) < (n : Int)) = true := by simp [h]
def N7 (fs : List ab) (i : Nat) : ByteArray := (fs[i]?.map (·.name)).getD ByteArray.empty
theorem uD {fs : List ab} {i : Nat} (h : i < fs.length) : N7 fs i = fs[i].name := by simp [N7, h]
def wV (fs : List ab) (i : Nat) : Bool := !oH (N7 fs i)
def Ns (fs : List ab) (i j : Nat) : Bool := (N7 fs j).toList == (N7 fs i).toList
def CG (fs : List ab) (i : Nat) : Bool := (first (Ns fs i) 0 i).isSome
def E3 (fs : List ab) : Bool := (first (wV fs) 0 fs.length).isSome
def Dl (fs : List ab) : Bool := (first (CG fs) 0 fs.length).isSome
structure yW (fs : List ab) : Prop where
 len : fs.length < 1000000000
 nam : ∀ f ∈ fs, f.name.size < 1000000000
theorem KX {fs : List ab} (h : d8 fs < 1000000000) : yW fs :=
 ⟨by have := dQ fs; omega, fun f hf => by have := gL hf; have := gq f; omega⟩
theorem Mc : ∀ f : ab, ix.mk f.id f.name f.need (af.mk f.type.kind f.type.scale f.type.fields) = f
 | ⟨_, _, _, ⟨_, _, _⟩⟩ => rfl
theorem Hn {fs : List ab} (ho : yW fs) : bR fs = some (E3 fs) := by
 have hl := oU (f := fun k i => aD fs k (i : Int)) (n := fs.length) (P := wV fs) (A := fun i => some (i : Int)) (B := some (-1)) (fun k i hi => by
   show aD fs (k + 1) (i : Int) = _
   rw [aD, bw hi, bb, aZ hi, bm, rA, Iq _ (ho.nam _ (List.getElem_mem hi)), aK hi ho.len]
   simp only [bm, aP, wV, uD hi])
  (fun k => by rw [aD]; simp only [Int.lt_irrefl, decide_false, aN]; rfl) bq 0 (Nat.zero_le _) (by rw [bl]; have := ho.len; omega)
 have hl : aD fs bq (0 : Int) = _ := hl
 unfold bR cJ
 rw [hl]
 unfold E3
 cases first (wV fs) 0 fs.length with
 | none => rfl
 | some j => simp [bm]
theorem GN {fs : List ab} (ho : yW fs) {i : Nat} (hi : i < fs.length) : bT ((fs.drop (0 : Int).toNat).take ((i : Int).toNat - (0 : Int).toNat)) fs[i] = some (CG fs i, fs[i]) := by
 have ep : (fs.drop (0 : Int).toNat).take ((i : Int).toNat - (0 : Int).toNat) = fs.take i := by simp
 rw [ep]
 have hlen : (fs.take i).length = i := by simp; omega
 have hl := oU (f := fun k j => au (fs.take i) k fs[i].id fs[i].name fs[i].need fs[i].type.kind fs[i].type.scale fs[i].type.fields (j : Int)) (n := i) (P := Ns fs i) (A := fun j => some ((j : Int), fs[i])) (B := some (-1, fs[i])) (fun k j hj => by
   have hj' : j < (fs.take i).length := by rw [hlen]; exact hj
   have hjf : j < fs.length := by omega
   show au (fs.take i) (k + 1) _ _ _ _ _ _ (j : Int) = _
   rw [au, bw hj', bb, aZ hj', bm, qY, aK hj (by have := ho.len; omega)]
   simp only [bm, aP, Ns, uD hi, uD hjf, List.getElem_take, Mc])
  (fun k => by
   show au (fs.take i) (k + 1) _ _ _ _ _ _ (i : Int) = _
   rw [au]; simp only [hlen, Int.lt_irrefl, decide_false, aN, cC, Mc]) bq 0 (Nat.zero_le _) (by rw [bl]; have := ho.len; omega)
 have hl : au (fs.take i) bq _ _ _ _ _ _ (0 : Int) = _ := hl
 unfold bT cI
 rw [hl]
 unfold CG
 cases first (Ns fs i) 0 i with
 | none => rfl
 | some j => simp [bm]
theorem Ej {t : af} (ho : yW t.fields) : ed t bq (0 : Int) = some (if Dl t.fields = true then 5 else 0) := by
 have hl := oU (f := fun k i => ed t k (i : Int)) (n := t.fields.length) (P := CG t.fields) (A := fun _ => some 5) (B := some 0) (fun k i hi => by
   show ed t (k + 1) (i : Int) = _
   rw [ed, bw hi, bb, aZ hi, bm, jn (by omega), GN ho hi, aK hi ho.len]
   simp only [bm, aP])
  (fun k => by rw [ed]; simp only [Int.lt_irrefl, decide_false, aN]; rfl) bq 0 (Nat.zero_le _) (by rw [bl]; have := ho.len; omega)
 have hl : ed t bq (0 : Int) = _ := hl
 rw [hl]
 unfold Dl
 cases first (CG t.fields) 0 t.fields.length <;> rfl
theorem IH {t : af} (ho : yW t.fields) (rec2 : Int → Option Int) {i : Nat} (hi : i < t.fields.length) : gU rec2 t (i : Int) bq (0 : Int) = if CG t.fields i = true then some 5 else rec2 ((i + 1 : Nat) : Int) := by
 have hl := oU (f := fun k j => gU rec2 t (i : Int) k (j : Int)) (n := i) (P := Ns t.fields i) (A := fun j => some 5) (B := rec2 ((i + 1 : Nat) : Int)) (fun k j hj => by
   have hjf : j < t.fields.length := by omega
   show gU rec2 t (i : Int) (k + 1) (j : Int) = _
   rw [gU, bw hj, bb, aZ hjf, aZ hi, aK hj (by have := ho.len; omega)]
   simp only [bm, aP, Ns, uD hi, uD hjf])
  (fun k => by
   show gU rec2 t (i : Int) (k + 1) (i : Int) = _
   rw [gU]; simp only [Int.lt_irrefl, decide_false, aN, wl]; rw [aK hi ho.len]) bq 0 (Nat.zero_le _) (by rw [bl]; have := ho.len; omega)
 have hl : gU rec2 t (i : Int) bq (0 : Int) = _ := hl
 rw [hl]
 unfold CG
 cases first (Ns t.fields i) 0 i <;> simp
theorem IU {t : af} (ho : yW t.fields) : i4 t bq (0 : Int) = some (if Dl t.fields = true then 5 else 0) := by
 have hl := oU (f := fun k i => i4 t k (i : Int)) (n := t.fields.length) (P := CG t.fields) (A := fun _ => some 5) (B := some 0) (fun k i hi => by
   show i4 t (k + 1) (i : Int) = _
   rw [i4, bw hi, bb, IH ho _ hi])
  (fun k => by rw [i4]; simp only [Int.lt_irrefl, decide_false, aN]; rfl) bq 0 (Nat.zero_le _) (by rw [bl]; have := ho.len; omega)
 have hl : i4 t bq (0 : Int) = _ := hl
 rw [hl]
 unfold Dl
 cases first (CG t.fields) 0 t.fields.length <;> rfl
theorem IA {t : af} (ho : yW t.fields) : i5 t bq (0 : Int) = some (if E3 t.fields = true then 4 else if Dl t.fields = true then 5 else 0) := by
 have hl := oU (f := fun k i => i5 t k (i : Int)) (n := t.fields.length) (P := wV t.fields) (A := fun _ => some 4) (B := some (if Dl t.fields = true then 5 else 0)) (fun k i hi => by
   show i5 t (k + 1) (i : Int) = _
   rw [i5, bw hi, bb, aZ hi, bm, Oq _ (ho.nam _ (List.getElem_mem hi)), aK hi ho.len]
   simp only [bm, aP, wV, uD hi])
  (fun k => by rw [i5]; simp only [Int.lt_irrefl, decide_false, aN, wq]; exact IU ho) bq 0 (Nat.zero_le _) (by rw [bl]; have := ho.len; omega)
 have hl : i5 t bq (0 : Int) = _ := hl
 rw [hl]
 unfold E3
 cases first (wV t.fields) 0 t.fields.length <;> rfl
def vf (t : af) : Int :=
 if t.kind = 6 then (if t.fields.length ≠ 1 ∨ (N7 t.fields 0).size ≠ 0 then 1 else 0)
 else if t.kind ≠ 7 then (if 0 < t.fields.length then 1 else 0)
 else if t.fields.length = 0 then 1 else if E3 t.fields = true then 4 else if Dl t.fields = true then 5 else 0
def AX (t : af) : Prop := t.scale ≠ 0 ∧ (t.kind ≠ 3 ∨ t.scale < 0 ∨ 12 < t.scale)
instance (t : af) : Decidable (AX t) := by unfold AX; infer_instance
def shp (t : af) : Int := if t.kind < 1 ∨ 7 < t.kind then 3 else if AX t then 1 else vf t
theorem Lh {t : af} (ho : yW t.fields) : qH t = some (vf t) := by
 unfold qH nu vf
 rw [Hn ho, Ej ho]
 simp only [bm, aP]
 by_cases h6 : t.kind = 6
 ·simp only [h6, beq_self_eq_true, if_true]
  by_cases hl : t.fields.length = 1
  ·have : (0 : Nat) < t.fields.length := by omega
   rw [show at? t.fields (0 : Int) = some t.fields[0] from aZ (i := 0) this]
   simp only [hl, bm, qN, uD this]
   by_cases hz : t.fields[0].name.size = 0 <;> simp [hz]
  ·simp [hl, show ((t.fields.length : Int) = 1) = False from eq_false (by omega)]
 ·by_cases h7 : t.kind = 7
  ·simp [h7]
   by_cases hl : t.fields = []
   ·simp [hl]
   ·simp [hl]
    by_cases hb : E3 t.fields = true
    ·simp [hb]
    ·simp [hb]
  ·simp [h6, h7]
   by_cases hl : 0 < t.fields.length
   ·simp [hl]
   ·simp [hl]
theorem MZ {t : af} (ho : yW t.fields) : xd t = some (shp t) := by
 have hj3 : ∀ x, jW t x = if x = true then some 1 else if t.kind ≠ 7 then some 0 else some (if E3 t.fields = true then 4 else if Dl t.fields = true then 5 else 0) := by
  intro x
  unfold jW
  rw [IA ho]
  cases x <;> simp [aP]
 have hleaf : i9 t.kind = some (decide (t.kind ≠ 6 ∧ t.kind ≠ 7)) := by
  unfold i9 qD
  by_cases h6 : t.kind = 6 <;> by_cases h7 : t.kind = 7 <;> simp [h6, h7, aP]
 have hj1 : ∀ x, jR t x = if x = true then some 1 else some (vf t) := by
  intro x
  cases x with
  | true => rfl
  | false =>
   unfold jR pd vf
   rw [hleaf]
   simp only [aP, bm, hj3]
   by_cases h6 : t.kind = 6
   ·simp only [h6, beq_self_eq_true, if_true]
    by_cases hl : t.fields.length = 1
    ·have : (0 : Nat) < t.fields.length := by omega
     rw [show at? t.fields (0 : Int) = some t.fields[0] from aZ (i := 0) this]
     simp only [hl, bm, qN, uD this]
     by_cases hz : t.fields[0].name.size = 0 <;> simp [hz]
    ·simp [hl, show ((t.fields.length : Int) = 1) = False from eq_false (by omega)]
   ·by_cases h7 : t.kind = 7
    ·simp [h7]
     by_cases hl : t.fields = []
     ·simp [hl]
     ·simp [hl]
    ·simp [h6, h7]
     by_cases hl : 0 < t.fields.length
     ·simp [hl]
     ·simp [hl]
 unfold xd shp i0 ou
 simp only [aP, hj1, bm]
 by_cases a1 : t.kind < 1
 ·simp [a1, show ¬ (1 : Int) ≤ t.kind by omega, bm]
 ·by_cases a2 : 7 < t.kind
  ·simp [a2, show (1 : Int) ≤ t.kind by omega, show ¬ t.kind ≤ 7 by omega, bm]
  ·simp only [a1, a2, show (1 : Int) ≤ t.kind by omega, show t.kind ≤ 7 by omega, decide_true, or_self, if_false, if_true, Bool.not_true, bm]
   unfold AX
   by_cases h3 : t.kind = 3
   ·by_cases b1 : t.scale < 0
    ·simp [h3, b1, show ¬ (0 : Int) ≤ t.scale by omega, show t.scale ≠ 0 by omega, bm]
    ·by_cases b2 : 12 < t.scale
     ·simp [h3, b1, b2, show (0 : Int) ≤ t.scale by omega, show ¬ t.scale ≤ 12 by omega, show t.scale ≠ 0 by omega, bm]
     ·simp [h3, b1, b2, show (0 : Int) ≤ t.scale by omega, show t.scale ≤ 12 by omega, bm]
   ·by_cases b0 : t.scale = 0 <;> simp [h3, b0]
end Go.Proofs.YtfnmbpecdjncfaaGreatDoor
namespace Go.Proofs.YtfnmbpecdjncfaaGreatDoor
open Go Go.SX Go.SX.Cal
inductive V : af → Prop where
 | mk (t : af) (h1 : shp t = 0) (h2 : ∀ f, f ∈ t.fields → V f.type) : V t
theorem O3 (t : af) : q9 t = some (decide (t.kind ≠ 6 ∧ t.kind ≠ 7)) := by
 unfold q9 oZ
 by_cases h6 : t.kind = 6 <;> by_cases h7 : t.kind = 7 <;> simp [h6, h7, aP]
theorem GC (k : Int) : i9 k = some (decide (k ≠ 6 ∧ k ≠ 7)) := by
 unfold i9 qD
 by_cases h6 : k = 6 <;> by_cases h7 : k = 7 <;> simp [h6, h7, aP]
theorem Lq {t : af} (ho : yW t.fields) (q : af → Int → dh → Option (Int × dh)) (l z : Int) :
  eV q t l z = if shp t ≠ 0 then some (shp t, ⟨z⟩) else cP q t l bq z 0 := by
 have hj4 : ∀ x, dX q t l z x = if x = true then some (1, ⟨z⟩) else if vf t ≠ 0 then some (vf t, ⟨z⟩) else cP q t l bq z 0 := by
  intro x
  unfold dX
  rw [Lh ho]
  cases x <;> simp [aP, bm]
 unfold eV iV shp
 simp only [aP, hj4]
 by_cases a1 : t.kind < 1
 ·simp [a1]
 ·by_cases a2 : 7 < t.kind
  ·simp [a1, a2]
  ·simp only [a1, a2, decide_false, or_self, if_false, Bool.false_eq_true]
   unfold AX
   by_cases b0 : t.scale = 0
   ·simp [b0]
   ·by_cases h3 : t.kind = 3
    ·by_cases b1 : t.scale < 0
     ·simp [b0, h3, b1]
     ·by_cases b2 : 12 < t.scale
      ·simp [b0, h3, b1, b2]
      ·simp [b0, h3, b1, b2]
    ·simp [b0, h3]
theorem LM {t : af} (ho : yW t.fields) (q : af → Int → Int → Option (Int × Int)) (l z : Int) :
  jH q t l z = if shp t ≠ 0 then some (shp t, z) else jL q t l bq z 0 := by
 unfold jH
 rw [MZ ho]
 simp [aP, bm]
theorem QH {t : af} (h : shp t = 0) (hf : ∀ f ∈ t.fields, V f.type) : V t := .mk t h hf
theorem E1 {t : af} (ho : yW t.fields) (l : Int) (hl0 : -10 ≤ l) (hl1 : l ≤ 10) (q1 : af → Int → dh → Option (Int × dh)) (q2 : af → Int → Int → Option (Int × Int))
  (hq : ∀ f ∈ t.fields, ∀ n : Int, 0 ≤ n → n ≤ 40 → ∃ e m, q1 f.type (l + 1) ⟨n⟩ = some (e, ⟨m⟩) ∧ q2 f.type (l + 1) n = some (e, m) ∧ 0 ≤ m ∧ m ≤ 40 ∧ (e = 0 → V f.type)) :
  ∀ (kk i : Nat) (n : Int), i ≤ t.fields.length → t.fields.length - i < kk → 0 ≤ n → n ≤ 40 →
   ∃ e m, cP q1 t l kk n (i : Int) = some (e, ⟨m⟩) ∧ jL q2 t l kk n (i : Int) = some (e, m) ∧ 0 ≤ m ∧ m ≤ 40 ∧ (e = 0 → ∀ j, i ≤ j → ∀ h : j < t.fields.length, V t.fields[j].type) := by
 intro kk
 induction kk with
 | zero => intro i n _ h; omega
 | succ kk ih =>
  intro i n hi hk n0 n1
  rw [cP, jL]
  by_cases h : i = t.fields.length
  ·subst h
   simp only [Int.lt_irrefl, decide_false, aN]
   exact ⟨0, n, rfl, rfl, n0, n1, fun _ j h1 h2 => by omega⟩
  ·have hlt : i < t.fields.length := by omega
   rw [bw hlt, bb, bb, aZ hlt, bm, bm, zQ (x := l + 1) (by omega) (by omega), aK hlt ho.len]
   obtain ⟨e, m, h1, h2, h3, h4, h5⟩ := hq _ (List.getElem_mem hlt) n n0 n1
   rw [h1, h2]
   simp only [bm, aP]
   by_cases he : e = 0
   ·obtain ⟨e', m', g1, g2, g3, g4, g5⟩ := ih (i + 1) m (by omega) (by omega) h3 h4
    refine ⟨e', m', by simpa [he] using g1, by simpa [he] using g2, g3, g4, fun h0 j hj hjl => ?_⟩
    by_cases hji : j = i
    ·subst hji; exact h5 he
    ·exact g5 h0 j (by omega) hjl
   ·exact ⟨e, m, by simp [he], by simp [he], h3, h4, fun h0 => absurd h0 he⟩
theorem H4 : ∀ (d k : Nat) (t : af) (l n : Int), l = 5 - d → d ≤ 5 → d < k → jm t < 1000000000 → 0 ≤ n → n ≤ 40 →
  ∃ e m, bD k t l ⟨n⟩ = some (e, ⟨m⟩) ∧ hY k t l n = some (e, m) ∧ 0 ≤ m ∧ m ≤ 40 ∧ (e = 0 → V t) := by
 intro d
 induction d with
 | zero =>
  intro k t l n hl _ hk hs n0 n1
  obtain ⟨k, rfl⟩ : ∃ k', k = k' + 1 := ⟨k - 1, by omega⟩
  have hl4 : (4 : Int) < l := by omega
  rw [bD, hY]
  simp only [hl4, decide_true, bb, eY]
  exact ⟨7, n, rfl, rfl, n0, n1, fun h => by omega⟩
 | succ d ih =>
  intro k t l n hl hd hk hs n0 n1
  obtain ⟨k, rfl⟩ : ∃ k', k = k' + 1 := ⟨k - 1, by omega⟩
  have hl4 : ¬ (4 : Int) < l := by omega
  have hsz := m9 t
  have ho : yW t.fields := KX (by omega)
  have hq : ∀ f ∈ t.fields, ∀ n : Int, 0 ≤ n → n ≤ 40 → ∃ e m, bD k f.type (l + 1) ⟨n⟩ = some (e, ⟨m⟩) ∧ hY k f.type (l + 1) n = some (e, m) ∧ 0 ≤ m ∧ m ≤ 40 ∧ (e = 0 → V f.type) := by
   intro f hf n n0 n1
   have h1 := gL hf
   have h2 := gq f
   exact ih k f.type (l + 1) n (by omega) (by omega) (by omega) (by omega) n0 n1
  have main : ∀ z : Int, 0 ≤ z → z ≤ 40 → ∃ e m, eV (bD k) t l z = some (e, ⟨m⟩) ∧ jH (hY k) t l z = some (e, m) ∧ 0 ≤ m ∧ m ≤ 40 ∧ (e = 0 → V t) := by
   intro z z0 z1
   rw [Lq ho, LM ho]
   by_cases hsh : shp t = 0
   ·obtain ⟨e, m, h1, h2, h3, h4, h5⟩ := E1 ho l (by omega) (by omega) _ _ hq bq 0 z (Nat.zero_le _) (by rw [bl]; have := ho.len; omega) z0 z1
    refine ⟨e, m, by simpa [hsh] using h1, by simpa [hsh] using h2, h3, h4, fun he => QH hsh (fun f hf => ?_)⟩
    obtain ⟨j, hj, rfl⟩ := List.getElem_of_mem hf
    exact h5 he j (Nat.zero_le _) hj
   ·exact ⟨shp t, z, by simp [hsh], by simp [hsh], z0, z1, fun h => absurd h hsh⟩
  rw [bD, hY]
  simp only [hl4, decide_false, aN, O3, GC, bm, eY]
  by_cases hleaf : t.kind ≠ 6 ∧ t.kind ≠ 7
  ·simp only [hleaf, ne_eq, not_false_eq_true, and_self, decide_true, bb]
   by_cases h40 : n = 40
   ·simp only [h40, beq_self_eq_true, bb]
    exact ⟨7, 40, rfl, rfl, by omega, by omega, fun h => by omega⟩
   ·have : (n == 40) = false := by simpa using h40
    simp only [this, aN]
    rw [zQ (x := n + 1) (by omega) (by omega)]
    exact main (n + 1) (by omega) (by omega)
  ·simp only [hleaf, decide_false, aN]
   exact main n n0 n1
theorem my (t : af) (hs : jm t < 1000000000) : ∃ e, cA t = some e ∧ jh t = some e ∧ (e = 0 → V t) := by
 obtain ⟨e, m, h1, h2, h3, h4, h5⟩ := H4 4 bq t 1 0 (by omega) (by omega) (by rw [bl]; omega) hs (by omega) (by omega)
 refine ⟨e, ?_, ?_, h5⟩
 ·unfold cA; rw [h1]; rfl
 ·unfold jh; rw [h2]; rfl
end Go.Proofs.YtfnmbpecdjncfaaGreatDoor
namespace Go.Proofs.YtfnmbpecdjncfaaGreatDoor
open Go Go.SX Go.SX.Cal Go.Lib
mutual
def d9 : aa → Nat
 | ⟨_, _, _, s, it⟩ => s.size + jr it + 1
def jr : List aa → Nat
 | [] => 0
 | x :: l => d9 x + jr l
end
theorem sT : ∀ v : aa, d9 v = v.s.size + jr v.items + 1
 | ⟨_, _, _, _, _⟩ => by simp only [d9]
theorem ku : ∀ {l : List aa} {x : aa}, x ∈ l → d9 x ≤ jr l
 | [], _, h => by cases h
 | y :: l, x, h => by
  simp only [jr]
  rcases List.mem_cons.1 h with rfl | h
  ·omega
  ·have := ku h; omega
theorem vy : ∀ v : aa, 1 ≤ d9 v
 | ⟨_, _, _, _, _⟩ => by simp only [d9]; omega
theorem nO : ∀ l : List aa, l.length ≤ jr l
 | [] => by simp [jr]
 | x :: l => by
  have := nO l
  have := vy x
  simp only [jr, List.length_cons]; omega
theorem zV (b x : Bool) : al b (some x) (some false) = some (b && x) := by cases b <;> rfl
theorem cE {α β : Type} (a : α) (f : α → Option β) : aE (some a) f = f a := rfl
theorem AR {P : Nat → Bool} {n : Nat} : ∀ (d i : Nat), i + d ≤ n → (∀ j, i ≤ j → j < i + d → P j = false) → first P i n = first P (i + d) n
 | 0, i, _, _ => rfl
 | d + 1, i, h, hP => by
  rw [oP (by omega), hP i (by omega) (by omega)]
  simp only [Bool.false_eq_true, if_false]
  rw [AR d (i + 1) (by omega) (fun j h1 h2 => hP j (by omega) (by omega))]
  congr 1; omega
theorem DN (s : ByteArray) (i : Nat) (h : i < s.size) (hb : ¬ mJ s i < 128) :
  1 ≤ (Utf8.decode s i).2 ∧ i + (Utf8.decode s i).2 ≤ s.size ∧ ∀ j, i ≤ j → j < i + (Utf8.decode s i).2 → 128 ≤ mJ s j := by
 have e := zP s i h
 have one : ∀ j, i ≤ j → j < i + 1 → 128 ≤ mJ s j := fun j h1 h2 => by
  have : j = i := by omega
  subst this; omega
 have ct : ∀ k, (decide (i + k < s.size) && (s.get! (i + k)).toNat / 64 == 2) = true → i + k < s.size ∧ 128 ≤ mJ s (i + k) := by
  intro k hk
  simp only [Bool.and_eq_true, decide_eq_true_eq, beq_iff_eq] at hk
  rw [zP s _ hk.1] at hk
  exact ⟨hk.1, by omega⟩
 unfold Utf8.decode
 simp only [Nat.add_zero, e, if_neg hb]
 split
 ·rename_i h1
  simp only [Bool.and_eq_true] at h1
  obtain ⟨l1, b1⟩ := ct 1 (by simpa using h1.2)
  split
  ·refine ⟨by simp, by simp only; omega, fun j h2 h3 => ?_⟩
   simp only at h3
   by_cases hj : j = i
   ·subst hj; omega
   ·have : j = i + 1 := by omega
    subst this; exact b1
  ·exact ⟨by simp, by simp only; omega, one⟩
 ·split
  ·rename_i h1
   simp only [Bool.and_eq_true] at h1
   obtain ⟨l1, b1⟩ := ct 1 (by simpa using h1.1.2)
   obtain ⟨l2, b2⟩ := ct 2 (by simpa using h1.2)
   split
   ·refine ⟨by simp, by simp only; omega, fun j h2 h3 => ?_⟩
    simp only at h3
    by_cases hj : j = i
    ·subst hj; omega
    ·by_cases hj : j = i + 1
     ·subst hj; exact b1
     ·have : j = i + 2 := by omega
      subst this; exact b2
   ·exact ⟨by simp, by simp only; omega, one⟩
  ·split
   ·rename_i h1
    simp only [Bool.and_eq_true] at h1
    obtain ⟨l1, b1⟩ := ct 1 (by simpa using h1.1.1.2)
    obtain ⟨l2, b2⟩ := ct 2 (by simpa using h1.1.2)
    obtain ⟨l3, b3⟩ := ct 3 (by simpa using h1.2)
    split
    ·refine ⟨by simp, by simp only; omega, fun j h2 h3 => ?_⟩
     simp only at h3
     by_cases hj : j = i
     ·subst hj; omega
     ·by_cases hj : j = i + 1
      ·subst hj; exact b1
      ·by_cases hj : j = i + 2
       ·subst hj; exact b2
       ·have : j = i + 3 := by omega
        subst this; exact b3
    ·exact ⟨by simp, by simp only; omega, one⟩
   ·exact ⟨by simp, by simp only; omega, one⟩
def Er (s : ByteArray) (i : Nat) : Bool := decide (mJ s i < 32) || mJ s i == 127
theorem Ew (s : ByteArray) : ∀ k i, i ≤ s.size → s.size - i < k → gY s k i = some (first (Er s) i s.size).isNone := by
 intro k
 induction k with
 | zero => intro i _ h; omega
 | succ k ih =>
  intro i hi hk
  rw [gY]
  by_cases h : i = s.size
  ·subst h
   rw [oV]
   simp only [Nat.lt_irrefl, decide_false, aN, su]
   rfl
  ·have hlt : i < s.size := by omega
   simp only [hlt, decide_true, bb, pm, aP]
   by_cases hb : mJ s i < 128
   ·rw [yO s i hlt hb, oP hlt]
    by_cases h1 : mJ s i < 32
    ·have : Er s i = true := by simp [Er, h1]
     simp [this, show ((mJ s i : Nat) : Int) < 32 by omega]
    ·have e1 : ¬ ((mJ s i : Nat) : Int) < 32 := by omega
     by_cases h2 : mJ s i = 127
     ·have : Er s i = true := by simp [Er, h2]
      simp [this, h2]
     ·have : Er s i = false := by simp [Er, h1, h2]
      have e2 : ¬ ((mJ s i : Nat) : Int) = 127 := by omega
      simp only [this, Int.ofNat_eq_natCast, e1, decide_false, Bool.false_eq_true, if_false, beq_iff_eq, e2]
      exact ih (i + 1) (by omega) (by omega)
   ·have h1 := ze s i hlt hb
    obtain ⟨h2, h3, h4⟩ := DN s i hlt hb
    have e1 : ¬ (((Utf8.decode s i).1 : Nat) : Int) < 32 := by omega
    have e2 : ¬ (((Utf8.decode s i).1 : Nat) : Int) = 127 := by omega
    simp only [Int.ofNat_eq_natCast, e1, decide_false, Bool.false_eq_true, if_false, beq_iff_eq, e2]
    rw [ih _ h3 (by omega), AR _ i h3 (fun j a b => by
     have := h4 j a b
     simp only [Er, Bool.or_eq_false_iff, decide_eq_false_iff_not, beq_eq_false_iff_ne]
     omega)]
    simp
theorem FB (s : ByteArray) (hs : s.size < 1000000000) : ∀ k i, i ≤ s.size → s.size - i < k → jg s k (i : Int) = some (first (Er s) i s.size).isNone := by
 intro k
 induction k with
 | zero => intro i _ h; omega
 | succ k ih =>
  intro i hi hk
  rw [jg]
  by_cases h : i = s.size
  ·subst h
   rw [oV]
   simp only [Int.lt_irrefl, decide_false, aN, qV]
   rfl
  ·have hlt : i < s.size := by omega
   have g : (0 : Int) ≤ (i : Int) ∧ (i : Int) < (s.size : Int) := ⟨by omega, by omega⟩
   have e : ((s.data.toList.getD (i : Int).toNat 0).toNat : Int) = (mJ s i : Int) := by simp [mJ]
   simp only [bw hlt, bb, nT, if_pos g, cE, nC, aP, e]
   rw [oP hlt, aK hlt hs]
   by_cases h1 : mJ s i < 32
   ·have : Er s i = true := by simp [Er, h1]
    simp [this, show ((mJ s i : Nat) : Int) < 32 by omega]
   ·have e1 : ¬ ((mJ s i : Nat) : Int) < 32 := by omega
    by_cases h2 : mJ s i = 127
    ·have : Er s i = true := by simp [Er, h2]
     simp [this, h2]
    ·have : Er s i = false := by simp [Er, h1, h2]
     have e2 : ¬ ((mJ s i : Nat) : Int) = 127 := by omega
     simp only [this, e1, decide_false, Bool.false_eq_true, if_false, beq_iff_eq, e2]
     exact ih (i + 1) (by omega) (by omega)
def tR (s : ByteArray) : Bool := decide (s.size ≤ 256) && (validD s.data.toList && (first (Er s) 0 s.size).isNone)
theorem Iv (s : ByteArray) (hs : s.size < 1000000000) : utf8_ValidString s = some (validD s.data.toList) := by
 unfold utf8_ValidString nT
 rw [if_pos (by omega)]
theorem Pn (s : ByteArray) (hs : s.size < 1000000000) : tz s = some (tR s) := by
 unfold tz pc tR
 rw [Iv s hs, Ew s bq 0 (by omega) (by rw [bl]; omega)]
 by_cases h : s.size ≤ 256
 ·have : ¬ (256 : Int) < (s.size : Int) := by omega
  simp only [this, h, decide_false, decide_true, aN, cE]
  cases validD s.data.toList <;> rfl
 ·have : (256 : Int) < (s.size : Int) := by omega
  simp only [this, h, decide_false, decide_true, bb]
  rfl
theorem M9 (s : ByteArray) (hs : s.size < 1000000000) : qb s = some (tR s) := by
 have := FB s hs bq 0 (by omega) (by rw [bl]; omega)
 unfold qb nE tR
 rw [Iv s hs, show (0 : Int) = ((0 : Nat) : Int) from rfl, this]
 by_cases h : s.size ≤ 256
 ·have e : ¬ (256 : Int) < (s.size : Int) := by omega
  simp only [e, h, decide_false, decide_true, cE]
  cases validD s.data.toList <;> rfl
 ·have e : (256 : Int) < (s.size : Int) := by omega
  simp only [e, h, decide_false, decide_true, cE]
  cases validD s.data.toList <;> rfl
theorem KF (a b c : Int) : dY a b c = some (decide (b ≤ a) && decide (a ≤ c)) := by
 unfold dY kV; exact zV _ _
theorem KD (a b c : Int) : i0 a b c = some (decide (b ≤ a) && decide (a ≤ c)) := by
 unfold i0 ou; exact zV _ _
def dF (v : aa) : Bool :=
 let bare := v.n == 0 && v.scale == 0
 let noS := decide (v.s.size = 0)
 let noI := ((v.items.length : Int) == 0)
 if v.kind = 0 then bare && (noS && noI)
 else if v.kind = 1 then (decide (0 ≤ v.n) && decide (v.n ≤ 1)) && (v.scale == 0 && (noS && noI))
 else if v.kind = 2 then (decide (-999999999999999999 ≤ v.n) && decide (v.n ≤ 999999999999999999)) && (v.scale == 0 && (noS && noI))
 else if v.kind = 3 then (decide (-999999999999999999 ≤ v.n) && decide (v.n ≤ 999999999999999999)) && ((decide (0 ≤ v.scale) && decide (v.scale ≤ 12)) && (noS && noI))
 else if v.kind = 4 then bare && (tR v.s && noI)
 else if v.kind = 5 then (decide (-62135596800 ≤ v.n) && decide (v.n ≤ 253402300799)) && (v.scale == 0 && (noS && noI))
 else if v.kind = 6 then bare && (noS && decide ((v.items.length : Int) ≤ 64))
 else if v.kind = 7 then bare && (noS && decide ((0 : Int) < (v.items.length : Int)))
 else false
theorem M1 (v : aa) (hs : v.s.size < 1000000000) : rY v = some (dF v) := by
 have j : ∀ x, lZ v x = some (if v.kind = 0 then x && (decide (v.s.size = 0) && ((v.items.length : Int) == 0))
   else if v.kind = 1 then (decide (0 ≤ v.n) && decide (v.n ≤ 1)) && (v.scale == 0 && (decide (v.s.size = 0) && ((v.items.length : Int) == 0)))
   else if v.kind = 2 then (decide (-999999999999999999 ≤ v.n) && decide (v.n ≤ 999999999999999999)) && (v.scale == 0 && (decide (v.s.size = 0) && ((v.items.length : Int) == 0)))
   else if v.kind = 3 then (decide (-999999999999999999 ≤ v.n) && decide (v.n ≤ 999999999999999999)) && ((decide (0 ≤ v.scale) && decide (v.scale ≤ 12)) && (decide (v.s.size = 0) && ((v.items.length : Int) == 0)))
   else if v.kind = 4 then x && (tR v.s && ((v.items.length : Int) == 0))
   else if v.kind = 5 then (decide (-62135596800 ≤ v.n) && decide (v.n ≤ 253402300799)) && (v.scale == 0 && (decide (v.s.size = 0) && ((v.items.length : Int) == 0)))
   else if v.kind = 6 then x && (decide (v.s.size = 0) && decide ((v.items.length : Int) ≤ 64))
   else if v.kind = 7 then x && (decide (v.s.size = 0) && decide ((0 : Int) < (v.items.length : Int)))
   else false) := by
  intro x
  unfold lZ lX kC kh kA lV kw mc lM
  simp only [KF, Pn v.s hs, cE, zV, qN]
  simp only [aP, beq_iff_eq]
  repeat' split
  all_goals (first | rfl | simp_all)
 unfold rY
 rw [j, j]
 unfold dF
 cases v.n == 0
 ·simp only [aN, Bool.false_and]
 ·simp only [bb, Bool.true_and]
theorem Ni (v : aa) (hs : v.s.size < 1000000000) : wL v = some (dF v) := by
 have j : ∀ x, o6 v x = some (if v.kind = 0 then x && (v.n == 0 && v.scale == 0)
   else if v.kind = 1 then x && ((decide (0 ≤ v.n) && decide (v.n ≤ 1)) && v.scale == 0)
   else if v.kind = 2 then x && ((decide (-999999999999999999 ≤ v.n) && decide (v.n ≤ 999999999999999999)) && v.scale == 0)
   else if v.kind = 3 then x && ((decide (-999999999999999999 ≤ v.n) && decide (v.n ≤ 999999999999999999)) && (decide (0 ≤ v.scale) && decide (v.scale ≤ 12)))
   else if v.kind = 4 then ((v.items.length : Int) == 0) && (v.n == 0 && (v.scale == 0 && tR v.s))
   else if v.kind = 5 then x && ((decide (-62135596800 ≤ v.n) && decide (v.n ≤ 253402300799)) && v.scale == 0)
   else if v.kind = 6 then decide (v.s.size = 0) && (v.n == 0 && (v.scale == 0 && decide ((v.items.length : Int) ≤ 64)))
   else if v.kind = 7 then decide (v.s.size = 0) && (v.n == 0 && (v.scale == 0 && decide ((0 : Int) < (v.items.length : Int))))
   else false) := by
  intro x
  unfold o6 o5 pf pn ph mZ pj mX ni
  simp only [KD, M9 v.s hs, cE, zV, qN]
  simp only [aP, beq_iff_eq]
  repeat' split
  all_goals (first | rfl | simp_all)
 unfold wL
 rw [j, j, qN]
 unfold dF
 generalize decide (v.s.size = 0) = a
 generalize ((v.items.length : Int) == 0) = b
 generalize tR v.s = t
 generalize (v.n == 0) = c
 generalize (v.scale == 0) = d
 generalize (decide (0 ≤ v.n) && decide (v.n ≤ 1)) = e1
 generalize (decide (-999999999999999999 ≤ v.n) && decide (v.n ≤ 999999999999999999)) = e2
 generalize (decide (0 ≤ v.scale) && decide (v.scale ≤ 12)) = e3
 generalize (decide (-62135596800 ≤ v.n) && decide (v.n ≤ 253402300799)) = e4
 generalize decide ((v.items.length : Int) ≤ 64) = e5
 generalize decide ((0 : Int) < (v.items.length : Int)) = e6
 cases a <;> simp only [aN, bb] <;> congr 1 <;> repeat' split
 all_goals (first | rfl | (cases b <;> cases c <;> cases d <;> simp <;> done) | (simp [Bool.and_comm, Bool.and_assoc, Bool.and_left_comm]))
def mj (f : aa → Int → Bool × Int) : List aa → Int → Bool × Int
 | [], z => (true, z)
 | v :: l, z => if (f v z).1 = true then mj f l (f v z).2 else (false, (f v z).2)
def zw (v : aa) (z : Int) : Int := if v.kind = 0 then z else z + 1
def iy : Nat → aa → Int → Bool × Int
 | 0, v, z => (false, zw v z)
 | d + 1, v, z => if 256 < zw v z ∨ dF v = false then (false, zw v z) else mj (iy d) v.items (zw v z)
def tL (v : aa) : Bool := (iy 4 v 0).1
theorem BW {f : aa → Int → Bool × Int} : ∀ {l : List aa} {z : Int}, (∀ v ∈ l, ∀ z, 0 ≤ z → z ≤ 256 → 0 ≤ (f v z).2 ∧ (f v z).2 ≤ 257 ∧ ((f v z).1 = true → (f v z).2 ≤ 256)) → 0 ≤ z → z ≤ 256 →
  0 ≤ (mj f l z).2 ∧ (mj f l z).2 ≤ 257 ∧ ((mj f l z).1 = true → (mj f l z).2 ≤ 256)
 | [], z, _, h0, h1 => by simp only [mj]; omega
 | v :: l, z, hf, h0, h1 => by
  obtain ⟨a, b, c⟩ := hf v (by simp) z h0 h1
  simp only [mj]
  split
  ·rename_i h
   exact BW (fun x hx => hf x (by simp [hx])) a (c h)
  ·exact ⟨a, b, fun h => by cases h⟩
theorem yH : ∀ (d : Nat) (v : aa) (z : Int), 0 ≤ z → z ≤ 256 → 0 ≤ (iy d v z).2 ∧ (iy d v z).2 ≤ 257 ∧ ((iy d v z).1 = true → (iy d v z).2 ≤ 256)
 | 0, v, z, h0, h1 => by
  have hc : z ≤ zw v z ∧ zw v z ≤ z + 1 := by unfold zw; split <;> omega
  simp only [iy]
  exact ⟨by omega, by omega, fun h => by cases h⟩
 | d + 1, v, z, h0, h1 => by
  have hc : z ≤ zw v z ∧ zw v z ≤ z + 1 := by unfold zw; split <;> omega
  simp only [iy]
  split
  ·exact ⟨by omega, by omega, fun h => by cases h⟩
  ·rename_i h
   have : ¬ 256 < zw v z := fun e => h (.inl e)
   exact BW (fun x _ => yH d x) (by omega) (by omega)
theorem ye (v : aa) (z : Int) (h0 : 0 ≤ z) (h1 : z ≤ 256) {β : Type} (f : Int → Option β) : al (v.kind != (0 : Int)) (f (IntKind.i64.wrap (z + 1))) (f z) = f (zw v z) := by
 rw [zQ (by omega) (by omega)]
 unfold zw
 by_cases h : v.kind = 0
 ·simp [h, aP]
 ·simp [h, aP]
theorem Ea {d : Nat} (l : Int) (q : aa → Int → Int → Option (Bool × Int)) (xs : List aa) (hl : xs.length < 1000000000)
  (hq : ∀ v ∈ xs, ∀ z, 0 ≤ z → z ≤ 256 → q v l z = some (!(iy d v z).1, (iy d v z).2)) : ∀ (k i : Nat) (z : Int), i ≤ xs.length → xs.length - i < k → 0 ≤ z → z ≤ 256 →
  ∃ r : Int, aW q xs l k z (i : Int) = some (r, (mj (iy d) (xs.drop i) z).2) ∧ decide (0 ≤ r) = !(mj (iy d) (xs.drop i) z).1 := by
 intro k
 induction k with
 | zero => intro i z _ h; omega
 | succ k ih =>
  intro i z hi hk h0 h1
  rw [aW]
  by_cases h : i = xs.length
  ·subst h
   simp only [Int.lt_irrefl, decide_false, aN, List.drop_length, mj, cG]
   exact ⟨-1, rfl, rfl⟩
  ·have hlt : i < xs.length := by omega
   have hm : xs[i] ∈ xs := List.getElem_mem hlt
   simp only [bw hlt, bb, aZ hlt, cE, hq _ hm z h0 h1]
   rw [List.drop_eq_getElem_cons hlt]
   simp only [mj]
   obtain ⟨a, b, c⟩ := yH d xs[i] z h0 h1
   cases hs : (iy d xs[i] z).1 with
   | false =>
    simp only [Bool.not_false, bb, Bool.false_eq_true, if_false]
    exact ⟨_, rfl, by simp⟩
   | true =>
    simp only [Bool.not_true, aN, if_true]
    rw [aK hlt hl]
    exact ih (i + 1) _ (by omega) (by omega) a (c hs)
theorem Hy : ∀ (d k : Nat) (v : aa) (z : Int), d ≤ 4 → 4 * d + 4 ≤ k → d9 v < 1000000000 → 0 ≤ z → z ≤ 256 → kF k v (5 - d : Int) z = some (iy d v z) := by
 intro d
 induction d with
 | zero =>
  intro k v z _ hk hs h0 h1
  obtain ⟨k, rfl⟩ : ∃ q, k = q + 1 := ⟨k - 1, by omega⟩
  rw [kF, ye v z h0 h1]
  unfold mf kj
  simp [iy, bb]
 | succ d ih =>
  intro k v z hd hk hs h0 h1
  obtain ⟨k, rfl⟩ : ∃ q, k = q + 4 := ⟨k - 4, by omega⟩
  have hsz := sT v
  have hlen := nO v.items
  rw [kF, ye v z h0 h1]
  unfold mf kj
  rw [M1 v (by omega)]
  have e4 : ¬ (4 : Int) < 5 - ((d + 1 : Nat) : Int) := by omega
  have hc : z ≤ zw v z ∧ zw v z ≤ z + 1 := by unfold zw; split <;> omega
  simp only [e4, decide_false, aN, iy, cE]
  by_cases h2 : (256 : Int) < zw v z
  ·simp [h2, bb]
  ·cases hp : dF v with
   | false => simp [h2, bb, aN]
   | true =>
    simp only [h2, decide_false, aN, Bool.not_true, false_or, Bool.true_eq_false, if_false]
    have := Ea (d := d) (5 - ((d + 1 : Nat) : Int)) (iC (k + 1)) v.items (by omega) (by
     intro x hx z h0 h1
     have := ku hx
     rw [iC, zQ (by omega) (by omega), show (5 - ((d + 1 : Nat) : Int) + 1) = 5 - (d : Int) by omega, ih k x z (by omega) (by omega) (by omega) h0 h1]
     rfl) bq 0 (zw v z) (by omega) (by rw [bl]; omega) (by omega) (by omega)
    obtain ⟨r, e1, e2⟩ := this
    rw [show ((0 : Nat) : Int) = (0 : Int) from rfl] at e1
    rw [aR, bB, e1]
    simp only [cE, e2, List.drop_zero, Bool.not_not]
theorem xe (v : aa) (hs : d9 v < 1000000000) : jM v = some (tL v) := by
 unfold jM tL
 have := Hy 4 bq v 0 (by omega) (by rw [bl]; omega) hs (by omega) (by omega)
 rw [show (5 - ((4 : Nat) : Int)) = (1 : Int) from rfl] at this
 rw [this]; rfl
theorem Dx {d : Nat} (l : Int) (hl0 : 0 ≤ l) (hl1 : l ≤ 100) (q : aa → Int → Int → Option (Bool × Int)) (v : aa) (hl : v.items.length < 1000000000)
  (hq : ∀ x ∈ v.items, ∀ z, 0 ≤ z → z ≤ 256 → q x (l + 1) z = some (iy d x z)) : ∀ (k i : Nat) (z : Int), i ≤ v.items.length → v.items.length - i < k → 0 ≤ z → z ≤ 256 →
  pq q v l k z (i : Int) = some (mj (iy d) (v.items.drop i) z) := by
 intro k
 induction k with
 | zero => intro i z _ h; omega
 | succ k ih =>
  intro i z hi hk h0 h1
  rw [pq]
  by_cases h : i = v.items.length
  ·subst h
   simp only [Int.lt_irrefl, decide_false, aN, List.drop_length, mj, wC]
  ·have hlt : i < v.items.length := by omega
   have hm : v.items[i] ∈ v.items := List.getElem_mem hlt
   rw [zQ (x := l + 1) (by omega) (by omega)]
   simp only [bw hlt, bb, aZ hlt, cE, hq _ hm z h0 h1]
   rw [List.drop_eq_getElem_cons hlt]
   simp only [mj]
   obtain ⟨a, b, c⟩ := yH d v.items[i] z h0 h1
   cases hs : (iy d v.items[i] z).1 with
   | false => simp only [Bool.not_false, bb, Bool.false_eq_true, if_false]
   | true =>
    simp only [Bool.not_true, aN, if_true]
    rw [aK hlt hl]
    exact ih (i + 1) _ (by omega) (by omega) a (c hs)
theorem HH : ∀ (d k : Nat) (v : aa) (z : Int), d ≤ 4 → d + 1 ≤ k → d9 v < 1000000000 → 0 ≤ z → z ≤ 256 → nz k v (5 - d : Int) z = some (iy d v z) := by
 intro d
 induction d with
 | zero =>
  intro k v z _ hk hs h0 h1
  obtain ⟨k, rfl⟩ : ∃ q, k = q + 1 := ⟨k - 1, by omega⟩
  rw [nz, ye v z h0 h1]
  unfold pk mY
  simp [iy, bb]
 | succ d ih =>
  intro k v z hd hk hs h0 h1
  obtain ⟨k, rfl⟩ : ∃ q, k = q + 1 := ⟨k - 1, by omega⟩
  have hsz := sT v
  have hlen := nO v.items
  rw [nz, ye v z h0 h1]
  unfold pk mY
  rw [Ni v (by omega)]
  have e4 : ¬ (4 : Int) < 5 - ((d + 1 : Nat) : Int) := by omega
  have hc : z ≤ zw v z ∧ zw v z ≤ z + 1 := by unfold zw; split <;> omega
  simp only [e4, decide_false, aN, iy, cE]
  by_cases h2 : (256 : Int) < zw v z
  ·simp [h2, bb]
  ·cases hp : dF v with
   | false => simp [h2, bb, aN]
   | true =>
    simp only [h2, decide_false, aN, Bool.not_true, false_or, Bool.true_eq_false, if_false]
    have := Dx (d := d) (5 - ((d + 1 : Nat) : Int)) (by omega) (by omega) (nz k) v (by omega) (by
     intro x hx z h0 h1
     have := ku hx
     rw [show (5 - ((d + 1 : Nat) : Int) + 1) = 5 - (d : Int) by omega]
     exact ih k x z (by omega) (by omega) (by omega) h0 h1) bq 0 (zw v z) (by omega) (by rw [bl]; omega) (by omega) (by omega)
    rw [show ((0 : Nat) : Int) = (0 : Int) from rfl, List.drop_zero] at this
    exact this
theorem M0 (v : aa) (hs : d9 v < 1000000000) : xn v = some (tL v) := by
 unfold xn tL
 have := HH 4 bq v 0 (by omega) (by rw [bl]; omega) hs (by omega) (by omega)
 rw [show (5 - ((4 : Nat) : Int)) = (1 : Int) from rfl] at this
 rw [this]; rfl
end Go.Proofs.YtfnmbpecdjncfaaGreatDoor
namespace Go.Proofs.YtfnmbpecdjncfaaGreatDoor
open Go Go.SX Go.SX.Cal Go.Lib
def JN (d : Nat) (v : aa) : Prop := ∃ z, (iy d v z).1 = true
theorem A1 {f : aa → Int → Bool × Int} : ∀ {l : List aa} {z : Int}, (mj f l z).1 = true → ∀ x ∈ l, ∃ z', (f x z').1 = true
 | [], _, _, x, hx => by cases hx
 | v :: l, z, h, x, hx => by
  simp only [mj] at h
  by_cases hv : (f v z).1 = true
  ·rw [if_pos hv] at h
   rcases List.mem_cons.1 hx with rfl | hx
   ·exact ⟨z, hv⟩
   ·exact A1 h x hx
  ·rw [if_neg hv] at h; cases h
theorem JN.zero {v : aa} (h : JN 0 v) : False := by obtain ⟨z, h⟩ := h; cases h
theorem JN.succ {d : Nat} {v : aa} (h : JN (d + 1) v) : dF v = true ∧ ∀ x ∈ v.items, JN d x := by
 obtain ⟨z, h⟩ := h
 simp only [iy] at h
 by_cases hc : 256 < zw v z ∨ dF v = false
 ·rw [if_pos hc] at h; cases h
 ·rw [if_neg hc] at h
  refine ⟨?_, fun x hx => A1 h x hx⟩
  cases hp : dF v with
  | true => rfl
  | false => exact absurd (.inr hp) hc
theorem rO {v : aa} (h : dF v = true) (hk : v.kind ≠ 3) : v.scale = 0 := by
 unfold dF at h
 simp only at h
 split at h
 ·simp at h; exact h.1.2
 ·split at h
  ·simp at h; exact h.2.1
  ·split at h
   ·simp at h; exact h.2.1
   ·split at h
    ·simp at h; exact h.1.2
    ·split at h
     ·simp at h; exact h.2.1
     ·split at h
      ·simp at h; exact h.1.2
      ·split at h
       ·simp at h; exact h.1.2
       ·cases h
theorem lR {v : aa} (h : dF v = true) (h6 : v.kind ≠ 6) (h7 : v.kind ≠ 7) : v.items = [] := by
 unfold dF at h
 simp only at h
 rw [← List.length_eq_zero_iff]
 split at h
 ·simp at h; simp [h.2.2]
 ·split at h
  ·simp at h; simp [h.2.2.2]
  ·split at h
   ·simp at h; simp [h.2.2.2]
   ·split at h
    ·simp at h; simp [h.2.2.2]
    ·split at h
     ·simp at h; simp [h.2.2]
     ·split at h
      ·simp at h; simp [h.2.2.2]
      ·cases h
theorem V.sh {t : af} (h : V t) : shp t = 0 := by cases h; assumption
theorem V.fs {t : af} (h : V t) : ∀ f, f ∈ t.fields → V f.type := by cases h; assumption
theorem V.scale {t : af} (h : V t) (hk : t.kind ≠ 3) : t.scale = 0 := by
 have := h.sh
 unfold shp at this
 split at this
 ·cases this
 ·by_cases h2 : AX t
  ·rw [if_pos h2] at this; cases this
  ·by_cases hs : t.scale = 0
   ·exact hs
   ·exact absurd ⟨hs, .inl hk⟩ h2
theorem V.list {t : af} (h : V t) (hk : t.kind = 6) : t.fields.length = 1 := by
 have := h.sh
 unfold shp at this
 split at this
 ·cases this
 ·by_cases h2 : AX t
  ·rw [if_pos h2] at this; cases this
  ·rw [if_neg h2] at this
   unfold vf at this
   rw [if_pos hk] at this
   split at this
   ·cases this
   ·rename_i h3
    by_cases hl : t.fields.length = 1
    ·exact hl
    ·exact absurd (.inl hl) h3
def ft (t : af) (i : Nat) : af := (t.fields[if t.kind = 6 then 0 else i]?.map (·.type)).getD ⟨0, 0, []⟩
def nd (t : af) (i : Nat) : Bool := (t.fields[if t.kind = 6 then 0 else i]?.map (·.need)).getD false
def iv (v : aa) (i : Nat) : aa := v.items[i]?.getD ⟨0, 0, 0, ByteArray.empty, []⟩
theorem Bv {v : aa} {i : Nat} (h : i < v.items.length) : v.items[i] = iv v i := by simp [iv, h]
def A8 : Nat → af → aa → Bool
 | 0, _, _ => true
 | d + 1, t, v =>
  if v.kind = 0 then true
  else if v.kind ≠ t.kind then false
  else if v.kind = 3 then v.scale == t.scale
  else if v.kind = 7 ∧ t.fields.length ≠ v.items.length then false
  else (first (fun i => !A8 d (ft t i) (iv v i)) 0 v.items.length).isNone
def P6 (t : af) (v : aa) : Prop := ∀ i, i < v.items.length → (if t.kind = 6 then 0 else i) < t.fields.length
theorem MP {d : Nat} {t : af} {v : aa} (hs : JN (d + 1) v) (ht : V t) (h : A8 (d + 1) t v = true) : P6 t v ∧ ∀ i, i < v.items.length → A8 d (ft t i) (iv v i) = true := by
 obtain ⟨hp, _⟩ := hs.succ
 by_cases h67 : v.kind = 6 ∨ v.kind = 7
 ·simp only [A8] at h
  rw [if_neg (by omega)] at h
  by_cases hk : v.kind = t.kind
  ·rw [if_neg (fun hh => hh hk), if_neg (by omega)] at h
   by_cases hl : v.kind = 7 ∧ t.fields.length ≠ v.items.length
   ·rw [if_pos hl] at h; cases h
   ·rw [if_neg hl] at h
    have hn := Option.isNone_iff_eq_none.1 h
    rw [tN] at hn
    refine ⟨fun i hi => ?_, fun i hi => by simpa using hn i (Nat.zero_le _) hi⟩
    by_cases h6 : t.kind = 6
    ·rw [if_pos h6, ht.list h6]; omega
    ·rw [if_neg h6]
     have : ¬ t.fields.length ≠ v.items.length := fun hh => hl ⟨by omega, hh⟩
     omega
  ·rw [if_pos hk] at h; cases h
 ·have : v.items = [] := lR hp (by omega) (by omega)
  refine ⟨fun i hi => ?_, fun i hi => ?_⟩
  ·rw [this] at hi; simp at hi
  ·rw [this] at hi; simp at hi
theorem JU {t : af} {i : Nat} (h : (if t.kind = 6 then 0 else i) < t.fields.length) : ∃ f : ab, f ∈ t.fields ∧ t.fields[if t.kind = 6 then 0 else i]? = some f ∧ f.type = ft t i ∧ f.need = nd t i := by
 refine ⟨t.fields[if t.kind = 6 then 0 else i], List.getElem_mem h, List.getElem?_eq_getElem h, ?_, ?_⟩
 ·unfold ft; rw [List.getElem?_eq_getElem h]; rfl
 ·unfold nd; rw [List.getElem?_eq_getElem h]; rfl
theorem td {α : Type} {xs : List α} {i : Nat} {x : α} (h : xs[i]? = some x) : at? xs (i : Int) = some x := by unfold at?; simp [h]
theorem yN {v : aa} {i : Nat} (h : i < v.items.length) : iv v i ∈ v.items := by rw [← Bv h]; exact List.getElem_mem h
theorem of_eq : ∀ (d k k' : Nat) (t : af) (v : aa), JN d v → V t → d9 v < 1000000000 → jm t < 1000000000 → 4 * d + 1 ≤ k → d + 1 ≤ k' →
  oh k t v = some (A8 d t v) ∧ lD k' t v = some (A8 d t v) := by
 intro d
 induction d with
 | zero => intro k k' t v hs; exact hs.zero.elim
 | succ d ih =>
  intro k k' t v hs ht hv hT hk hk'
  obtain ⟨k, rfl⟩ : ∃ q, k = q + 4 := ⟨k - 4, by omega⟩
  obtain ⟨k', rfl⟩ : ∃ q, k' = q + 1 := ⟨k' - 1, by omega⟩
  obtain ⟨hp, hi⟩ := hs.succ
  have hsz := sT v
  have hlen := nO v.items
  have hsT := m9 t
  have hlF := dQ t.fields
  rw [oh, lD]
  simp only [A8, xg]
  by_cases h0 : v.kind = 0
  ·simp [h0, aP]
  ·by_cases hkk : v.kind = t.kind
   ·have sc : v.kind ≠ 3 → v.scale = t.scale := fun h => by rw [rO hp h, ht.scale (by omega)]
    -- the items
    have room : ¬ (v.kind = 7 ∧ t.fields.length ≠ v.items.length) → P6 t v := by
     intro hn i hi
     by_cases h6 : t.kind = 6
     ·rw [if_pos h6, ht.list h6]; omega
     ·rw [if_neg h6]
      by_cases h7 : v.kind = 7
      ·have : ¬ t.fields.length ≠ v.items.length := fun hh => hn ⟨h7, hh⟩
       omega
      ·rw [lR hp (by omega) h7] at hi; simp at hi
    have sub : P6 t v → ∀ i, i < v.items.length → ∃ f : ab, t.fields[if t.kind = 6 then 0 else i]? = some f ∧ f.type = ft t i ∧ oh k (ft t i) (iv v i) = some (A8 d (ft t i) (iv v i)) ∧ lD k' (ft t i) (iv v i) = some (A8 d (ft t i) (iv v i)) := by
     intro hf i hi'
     obtain ⟨f, f1, f2, f3, _⟩ := JU (hf i hi')
     have m1 := ku (yN hi')
     have m2 := gL f1
     have m3 := gq f
     rw [f3] at m3
     obtain ⟨a, b⟩ := ih k k' (ft t i) (iv v i) (hi _ (yN hi')) (by rw [← f3]; exact ht.fs f f1) (by omega) (by omega) (by omega) (by omega)
     exact ⟨f, f2, f3, a, b⟩
    have ref : P6 t v → jS (lD k') t v bq (0 : Int) = some (first (fun i => !A8 d (ft t i) (iv v i)) 0 v.items.length).isNone := by
     intro hf
     have := oU (f := fun k i => jS (lD k') t v k (i : Int)) (n := v.items.length) (P := fun i => !A8 d (ft t i) (iv v i)) (A := fun _ => some false) (B := some true) (fun kk i hi' => by
      obtain ⟨f, f2, f3, _, f5⟩ := sub hf i hi'
      simp only [jS, bw hi', bb, wO]
      have e : al (t.kind == (6 : Int)) (aE (at? t.fields (0 : Int)) fun e1 => aE (at? v.items (i : Int)) fun e2 => aE (lD k' e1.type e2) fun r1 => al (!r1) (some false) (jS (lD k') t v kk (IntKind.i64.wrap ((i : Int) + 1))))
        (aE (at? t.fields (i : Int)) fun e1 => aE (at? v.items (i : Int)) fun e2 => aE (lD k' e1.type e2) fun r1 => al (!r1) (some false) (jS (lD k') t v kk (IntKind.i64.wrap ((i : Int) + 1)))) =
        (aE (at? t.fields ((if t.kind = 6 then 0 else i : Nat) : Int)) fun e1 => aE (at? v.items (i : Int)) fun e2 => aE (lD k' e1.type e2) fun r1 => al (!r1) (some false) (jS (lD k') t v kk (IntKind.i64.wrap ((i : Int) + 1)))) := by
       by_cases h6 : t.kind = 6 <;> simp [h6, aP]
      rw [e, td f2, cE, aZ hi', cE, f3, Bv hi', f5, cE, aK hi' (by omega), aP]) (fun kk => by simp [jS, aP, AW]) bq 0 (Nat.zero_le _) (by rw [bl]; omega)
     rw [show ((0 : Nat) : Int) = (0 : Int) from rfl] at this
     rw [this]
     cases first (fun i => !A8 d (ft t i) (iv v i)) 0 v.items.length <;> rfl
    have e0 : (v.kind == (0 : Int)) = false := by simp [h0]
    have e1 : (v.kind != t.kind) = false := by simp [hkk]
    have e2 : ¬ v.kind ≠ t.kind := fun h => h hkk
    simp only [e0, e1, e2, aN, h0, if_false]
    by_cases h3 : v.kind = 3
    ·have hni : v.items = [] := lR hp (by omega) (by omega)
     refine ⟨by simp [h3, aP], ?_⟩
     have hr := ref (fun i hi => by rw [hni] at hi; simp at hi)
     rw [hni] at hr
     simp only [List.length_nil, oV, Option.isNone_none] at hr
     simp only [h3, if_true, rg]
     by_cases hsc : v.scale = t.scale
     ·have : t.kind ≠ 7 := by omega
      simp [hsc, aP, hr, this]
     ·simp [hsc, aP]
    ·have hsc := sc h3
     have e3 : (v.kind == (3 : Int)) = false := by simp [h3]
     have e4 : (v.scale != t.scale) = false := by simp [hsc]
     simp only [e3, e4, aN, h3, if_false]
     by_cases hl : v.kind = 7 ∧ t.fields.length ≠ v.items.length
     ·have e6 : (v.kind == (6 : Int)) = false := by simp [hl.1]
      have e7 : (v.kind == (7 : Int)) = true := by simp [hl.1]
      have t7 : (t.kind == (7 : Int)) = true := by rw [← hkk]; exact e7
      have n1 : ((t.fields.length : Int) != (v.items.length : Int)) = true := by simp; omega
      have n2 : ((v.items.length : Int) != (t.fields.length : Int)) = true := by simp; omega
      rw [aS]
      simp [e6, e7, t7, n1, n2, hl, bb, aN, rg, cE]
     ·have hf := room hl
      have hr := ref hf
      simp only [hl, if_false]
      refine ⟨?_, ?_⟩
      ·by_cases h6 : v.kind = 6
       ·have e6 : (v.kind == (6 : Int)) = true := by simp [h6]
        have t6 : t.kind = 6 := by omega
        have := oU (f := fun kk i => aV (kR (k + 1)) v.items t.kind t.scale t.fields kk (i : Int)) (n := v.items.length) (P := fun i => !A8 d (ft t i) (iv v i)) (A := fun i => some (i : Int)) (B := some (-1)) (fun kk i hi' => by
         obtain ⟨f, f2, f3, f4, _⟩ := sub hf i hi'
         rw [if_pos t6] at f2
         simp only [aV, bw hi', bb, aZ hi', cE, kR]
         rw [show (0 : Int) = ((0 : Nat) : Int) from rfl, td f2, cE, f3, Bv hi', f4, cE, cE, aK hi' (by omega), aP]) (fun kk => by simp [aV, aP, cL]) bq 0 (Nat.zero_le _) (by rw [bl]; omega)
        rw [show ((0 : Nat) : Int) = (0 : Int) from rfl] at this
        rw [e6, bb, bC, bM, this]
        cases first (fun i => !A8 d (ft t i) (iv v i)) 0 v.items.length <;> simp [cE]
       ·have e6 : (v.kind == (6 : Int)) = false := by simp [h6]
        by_cases h7 : v.kind = 7
        ·have e7 : (v.kind == (7 : Int)) = true := by simp [h7]
         have hlen' : t.fields.length = v.items.length := by
          by_cases hh : t.fields.length = v.items.length
          ·exact hh
          ·exact absurd ⟨h7, hh⟩ hl
         have n1 : ((t.fields.length : Int) != (v.items.length : Int)) = false := by simp; omega
         have := oU (f := fun kk i => ax (nB (k + 2)) t.fields v.items kk (i : Int)) (n := v.items.length) (P := fun i => !A8 d (ft t i) (iv v i)) (A := fun _ => some false) (B := some true) (fun kk i hi' => by
          obtain ⟨f, f2, f3, _, _⟩ := sub hf i hi'
          obtain ⟨f', f1', f2', f3', _⟩ := JU (hf i hi')
          have m1 := ku (yN hi')
          have m2 := gL f1'
          have m3 := gq f'
          rw [f3'] at m3
          have f4 := (ih (k + 1) (d + 1) (ft t i) (iv v i) (hi _ (yN hi')) (by rw [← f3']; exact ht.fs f' f1') (by omega) (by omega) (by omega) (by omega)).1
          rw [if_neg (by omega)] at f2
          have hi2 : i < t.fields.length := by omega
          simp only [ax, bw hi2, bb, td f2, cE, nB]
          rw [aZ hi', cE, f3, Bv hi', f4, cE, cE, aK hi' (by omega), aP]) (fun kk => by simp [ax, aP, bO, hlen']) bq 0 (Nat.zero_le _) (by rw [bl]; omega)
         rw [show ((0 : Nat) : Int) = (0 : Int) from rfl] at this
         rw [e6, e7, aN, bb, aS, n1, aN, this]
         cases first (fun i => !A8 d (ft t i) (iv v i)) 0 v.items.length <;> rfl
        ·have e7 : (v.kind == (7 : Int)) = false := by simp [h7]
         rw [e6, e7, aN, aN, lR hp h6 h7]
         simp [oV]
      ·have n2 : v.kind = 7 → ((v.items.length : Int) != (t.fields.length : Int)) = false := by
        intro h7
        have : ¬ t.fields.length ≠ v.items.length := fun hh => hl ⟨h7, hh⟩
        simp; omega
       simp only [rg]
       by_cases h7 : v.kind = 7
       ·have t7 : (t.kind == (7 : Int)) = true := by simp [← hkk, h7]
        rw [t7, bb, n2 h7, aN]; exact hr
       ·have t7 : (t.kind == (7 : Int)) = false := by simp [← hkk, h7]
        rw [t7, aN, aN]; exact hr
   ·have e0 : (v.kind == (0 : Int)) = false := by simp [h0]
    have e1 : (v.kind != t.kind) = true := by simp [hkk]
    simp [e0, e1, h0, hkk, bb, aN]
def rM : Nat → af → aa → Bool
 | 0, _, _ => false
 | d + 1, t, v => (first (fun i => ((iv v i).kind == 0 && nd t i) || rM d (ft t i) (iv v i)) 0 v.items.length).isSome
theorem KE : ∀ (d k k' : Nat) (t : af) (v : aa), JN d v → V t → A8 d t v = true → d9 v < 1000000000 → jm t < 1000000000 → d + 1 ≤ k → d + 1 ≤ k' →
  hU k t v = some (rM d t v) ∧ iU k' t v = some (rM d t v) := by
 intro d
 induction d with
 | zero => intro k k' t v hs; exact hs.zero.elim
 | succ d ih =>
  intro k k' t v hs ht ho hv hT hk hk'
  obtain ⟨k, rfl⟩ : ∃ q, k = q + 1 := ⟨k - 1, by omega⟩
  obtain ⟨k', rfl⟩ : ∃ q, k' = q + 1 := ⟨k' - 1, by omega⟩
  obtain ⟨hp, hi⟩ := hs.succ
  obtain ⟨hf, hof⟩ := MP hs ht ho
  have hsz := sT v
  have hlen := nO v.items
  have hsT := m9 t
  have sub : ∀ i, i < v.items.length → ∃ f : ab, t.fields[if t.kind = 6 then 0 else i]? = some f ∧ f.type = ft t i ∧ f.need = nd t i ∧ hU k (ft t i) (iv v i) = some (rM d (ft t i) (iv v i)) ∧ iU k' (ft t i) (iv v i) = some (rM d (ft t i) (iv v i)) := by
   intro i hi'
   obtain ⟨f, f1, f2, f3, f4⟩ := JU (hf i hi')
   have m1 := ku (yN hi')
   have m2 := gL f1
   have m3 := gq f
   rw [f3] at m3
   obtain ⟨a, b⟩ := ih k k' (ft t i) (iv v i) (hi _ (yN hi')) (by rw [← f3]; exact ht.fs f f1) (hof i hi') (by omega) (by omega) (by omega) (by omega)
   exact ⟨f, f2, f3, f4, a, b⟩
  rw [hU, iU]
  simp only [rM]
  refine ⟨?_, ?_⟩
  ·have := oU (f := fun kk i => eK (hU k) t v kk (i : Int)) (n := v.items.length) (P := fun i => ((iv v i).kind == 0 && nd t i) || rM d (ft t i) (iv v i)) (A := fun _ => some true) (B := some false) (fun kk i hi' => by
    obtain ⟨f, f2, f3, f4, f5, _⟩ := sub i hi'
    have e : pB t (i : Int) = some f := by
     unfold pB n9
     by_cases h6 : t.kind = 6
     ·rw [if_pos h6] at f2
      rw [show (0 : Int) = ((0 : Nat) : Int) from rfl, td f2]
      simp [h6, aP, cE]
     ·rw [if_neg h6] at f2
      rw [td f2]
      simp [h6, aP, cE]
    simp only [eK, bw hi', bb, aZ hi', cE, e, me, f3, f4, Bv hi', f5, aK hi' (show v.items.length < 1000000000 by omega)]
    cases (iv v i).kind == 0 <;> cases nd t i <;> cases rM d (ft t i) (iv v i) <;> rfl) (fun kk => by simp [eK, aP, rf]) bq 0 (Nat.zero_le _) (by rw [bl]; omega)
   rw [show ((0 : Nat) : Int) = (0 : Int) from rfl] at this
   rw [this]
   cases first (fun i => ((iv v i).kind == 0 && nd t i) || rM d (ft t i) (iv v i)) 0 v.items.length <;> rfl
  ·have := oU (f := fun kk i => gy (iU k') t v kk (i : Int)) (n := v.items.length) (P := fun i => ((iv v i).kind == 0 && nd t i) || rM d (ft t i) (iv v i)) (A := fun _ => some true) (B := some false) (fun kk i hi' => by
    obtain ⟨f, f2, f3, f4, _, f5⟩ := sub i hi'
    have e : ∀ j : Int, at? t.fields j = some f → nw (gy (iU k') t v kk) (iU k') t v (i : Int) j = if (((iv v i).kind == 0 && nd t i) || rM d (ft t i) (iv v i)) = true then some true else gy (iU k') t v kk ((i + 1 : Nat) : Int) := by
     intro j hj
     simp only [nw, nn, hj, cE, aZ hi', f3, f4, Bv hi', f5, aK hi' (show v.items.length < 1000000000 by omega)]
     cases (iv v i).kind == 0 <;> cases nd t i <;> cases rM d (ft t i) (iv v i) <;> rfl
    simp only [gy, bw hi', bb]
    by_cases h6 : t.kind = 6
    ·rw [if_pos h6] at f2
     have e6 : (t.kind == (6 : Int)) = true := by simp [h6]
     rw [e6, bb]
     exact e 0 (td f2)
    ·rw [if_neg h6] at f2
     have e6 : (t.kind == (6 : Int)) = false := by simp [h6]
     rw [e6, aN]
     exact e i (td f2)) (fun kk => by simp [gy, aP, t8]) bq 0 (Nat.zero_le _) (by rw [bl]; omega)
   rw [show ((0 : Nat) : Int) = (0 : Int) from rfl] at this
   rw [this]
   cases first (fun i => ((iv v i).kind == 0 && nd t i) || rM d (ft t i) (iv v i)) 0 v.items.length <;> rfl
theorem IG (t : af) (v : aa) (hv : d9 v < 1000000000) (hT : jm t < 1000000000) : ∃ e, gx t v = some e ∧ AJ t v = some e := by
 obtain ⟨e, h1, h2, h3⟩ := my t hT
 unfold gx AJ
 rw [h1, h2, xe v hv, M0 v hv]
 simp only [cE]
 by_cases he : e = 0
 ·subst he
  have ht := h3 rfl
  cases hs : tL v with
  | false => exact ⟨1, rfl, rfl⟩
  | true =>
   have hS : JN 4 v := ⟨0, hs⟩
   obtain ⟨a, b⟩ := of_eq 4 bq bq t v hS ht hv hT (by rw [bl]; omega) (by rw [bl]; omega)
   rw [a, b]
   cases ho : A8 4 t v with
   | false => exact ⟨2, rfl, rfl⟩
   | true =>
    obtain ⟨c, d⟩ := KE 4 bq bq t v hS ht ho hv hT (by rw [bl]; omega) (by rw [bl]; omega)
    rw [c, d]
    cases rM 4 t v with
    | false => exact ⟨0, rfl, rfl⟩
    | true => exact ⟨9, rfl, rfl⟩
 ·have : (e != (0 : Int)) = true := by simp [he]
  rw [this]
  exact ⟨e, rfl, rfl⟩
theorem ED : ByteArray.empty.size = 0 := rfl
end Go.Proofs.YtfnmbpecdjncfaaGreatDoor
namespace Go.Proofs.YtfnmbpecdjncfaaGreatDoor
open Go Go.SX Go.SX.Cal
theorem EK {l : List ab} {i : Nat} (h : i < l.length) : d8 (l.drop i) = rD l[i] + d8 (l.drop (i + 1)) := by
 rw [List.drop_eq_getElem_cons h]; simp only [d8]
theorem pK : bq = 1152921504606846975 + 1 := rfl
end Go.Proofs.YtfnmbpecdjncfaaGreatDoor
namespace Go.Proofs.YtfnmbpecdjncfaaGreatDoor
open Go Go.SX Go.SX.Cal
end Go.Proofs.YtfnmbpecdjncfaaGreatDoor
namespace Go.Proofs.YtfnmbpecdjncfaaGreatDoor
open Go Go.SX Go.SX.Cal
mutual
def IW : af → List Int
 | ⟨_, _, fs⟩ => jY fs
def jY : List (ix af) → List Int
 | [] => []
 | f :: l => BA f ++ jY l
def BA : ix af → List Int
 | ⟨i, _, _, t⟩ => i :: IW t
end
theorem Lw : ∀ t : af, IW t = jY t.fields
 | ⟨_, _, _⟩ => by simp only [IW]
theorem A0 : ∀ f : ab, BA f = f.id :: jY f.type.fields
 | ⟨_, _, _, t⟩ => by simp only [BA, Lw]
theorem wW {l : List ab} {i : Nat} (h : i < l.length) : jY (l.drop i) = BA l[i] ++ jY (l.drop (i + 1)) := by
 rw [List.drop_eq_getElem_cons h]; simp only [jY]
mutual
theorem Io : ∀ t : af, (IW t).length ≤ jm t
 | ⟨_, _, fs⟩ => by simp only [IW, jm]; have := vB fs; omega
theorem vB : ∀ l : List (ix af), (jY l).length ≤ d8 l
 | [] => by simp [jY]
 | f :: l => by
  simp only [jY, d8, List.length_append]
  have := GV f
  have := vB l
  omega
theorem GV : ∀ f : ix af, (BA f).length ≤ rD f
 | ⟨i, n, q, t⟩ => by
  simp only [BA, rD, List.length_cons]
  have := Io t
  omega
end
theorem M2 : ∀ (N k : Nat) (fs : List ab), d8 fs ≤ N → N < k → d8 fs < 1000000000 → sY k fs = some (jY fs) := by
 intro N
 induction N with
 | zero =>
  intro k fs h hk _
  obtain ⟨k, rfl⟩ : ∃ x, k = x + 1 := ⟨k - 1, by omega⟩
  have hl := dQ fs
  have : fs = [] := List.eq_nil_of_length_eq_zero (by omega)
  subst this
  rw [sY, pK, pR]
  rfl
 | succ N ih =>
  intro k fs hN hk hs
  obtain ⟨k, rfl⟩ : ∃ x, k = x + 1 := ⟨k - 1, by omega⟩
  have hl := dQ fs
  rw [sY]
  have loop : ∀ (kk i : Nat) (acc : List Int), i ≤ fs.length → fs.length - i < kk → acc.length + d8 (fs.drop i) ≤ d8 fs → pR (sY k) fs kk acc (i : Int) = some (acc ++ jY (fs.drop i)) := by
   intro kk
   induction kk with
   | zero => intro i acc _ h; omega
   | succ kk ihk =>
    intro i acc hi hk2 hacc
    rw [pR]
    by_cases h : i = fs.length
    ·subst h
     simp only [Int.lt_irrefl, decide_false, aN, zB, List.drop_length, jY, List.append_nil]
    ·have h1 : i < fs.length := by omega
     have m1 := gL (List.getElem_mem h1)
     have m2 := gq fs[i]
     have m3 := m9 fs[i].type
     have m4 := EK h1
     have m5 := vB fs[i].type.fields
     rw [bw h1, bb, aZ h1, bm, jn (by omega), ih k _ (by omega) (by omega) (by omega), bm, jn (by simp; omega), aK h1 (by omega)]
     rw [ihk (i + 1) _ (by omega) (by omega) (by simp; omega), wW h1, A0]
     simp
  have := loop bq 0 [] (Nat.zero_le _) (by rw [bl]; omega) (by simp)
  simpa using this
def Dy (x : Int) (m : List (Int × Int)) : Int × List (Int × Int) :=
 if x < 1 then (3, m) else
  let y := IntKind.i64.wrap ((gu (ow .i64) m x).getD 0 + 1)
  if 1 < (gu (ow .i64) (gR (ow .i64) m x y) x).getD 0 then (5, gR (ow .i64) m x y) else (0, gR (ow .i64) m x y)
def scan : List Int → List (Int × Int) → Int × List (Int × Int)
 | [], m => (0, m)
 | x :: l, m => if (Dy x m).1 ≠ 0 then Dy x m else scan l (Dy x m).2
theorem C8 : ∀ (a b : List Int) (m : List (Int × Int)), scan (a ++ b) m = if (scan a m).1 ≠ 0 then scan a m else scan b (scan a m).2
 | [], b, m => by simp [scan]
 | x :: a, b, m => by
  simp only [List.cons_append, scan]
  by_cases h : (Dy x m).1 = 0
  ·simp only [h, ne_eq, not_true, if_false]
   exact C8 a b _
  ·simp [h]
theorem Ey (f : ab) (m : List (Int × Int)) : kd f m = some (Dy f.id m) := by
 unfold kd Dy
 simp only [bm, aP, decide_eq_true_eq]
 split
 ·rfl
 ·split <;> rfl
theorem Ko : ∀ (N k : Nat) (fs : List ab) (m : List (Int × Int)), d8 fs ≤ N → N < k → d8 fs < 1000000000 → bn k fs m = some (scan (jY fs) m) := by
 intro N
 induction N with
 | zero =>
  intro k fs m h hk _
  obtain ⟨k, rfl⟩ : ∃ x, k = x + 1 := ⟨k - 1, by omega⟩
  have hl := dQ fs
  have : fs = [] := List.eq_nil_of_length_eq_zero (by omega)
  subst this
  rw [bn, pK, bA]
  rfl
 | succ N ih =>
  intro k fs m hN hk hs
  obtain ⟨k, rfl⟩ : ∃ x, k = x + 1 := ⟨k - 1, by omega⟩
  have hl := dQ fs
  rw [bn]
  have loop : ∀ (kk i : Nat) (m : List (Int × Int)), i ≤ fs.length → fs.length - i < kk → bA (bn k) fs kk m (i : Int) = some (scan (jY (fs.drop i)) m) := by
   intro kk
   induction kk with
   | zero => intro i m _ h; omega
   | succ kk ihk =>
    intro i m hi hk2
    rw [bA]
    by_cases h : i = fs.length
    ·subst h
     simp only [Int.lt_irrefl, decide_false, aN, fc, List.drop_length, jY, scan]
    ·have h1 : i < fs.length := by omega
     have m1 := gL (List.getElem_mem h1)
     have m2 := gq fs[i]
     have m3 := m9 fs[i].type
     rw [bw h1, bb, aZ h1, bm, Ey, bm, aK h1 (by omega), wW h1, A0, List.cons_append, scan, ih k _ _ (by omega) (by omega) (by omega)]
     simp only [bm, aP]
     by_cases h0 : (Dy fs[i].id m).1 = 0
     ·simp only [h0, bne_self_eq_false, Bool.false_eq_true, if_false, ne_eq, not_true, C8]
      by_cases h2 : (scan (jY fs[i].type.fields) (Dy fs[i].id m).2).1 = 0
      ·simp only [h2, bne_self_eq_false, Bool.false_eq_true, if_false, not_true]
       exact ihk (i + 1) _ (by omega) (by omega)
      ·simp [h2]
     ·simp [h0]
  have := loop bq 0 m (Nat.zero_le _) (by rw [bl]; omega)
  simpa using this
end Go.Proofs.YtfnmbpecdjncfaaGreatDoor
namespace Go.Proofs.YtfnmbpecdjncfaaGreatDoor
open Go Go.SX Go.SX.Cal
abbrev KI : Hw Int := ow .i64
theorem sk : ∀ (m : List (Int × Int)) (k v : Int), gu KI (gR KI m k v) k = some v
 | [], k, v => by simp [gR, gu, ow]
 | (k', v') :: l, k, v => by
  by_cases h : k = k'
  ·simp [gR, gu, ow, h]
  ·have hb : (k == k') = false := by simpa using h
   have := sk l k v
   simp only [gR, gu, ow, hb, Bool.false_eq_true, if_false] at this ⊢
   exact this
theorem u6 : ∀ (m : List (Int × Int)) (k v x : Int), x ≠ k → gu KI (gR KI m k v) x = gu KI m x
 | [], k, v, x, hx => by simp [gR, gu, ow, hx]
 | (k', v') :: l, k, v, x, hx => by
  by_cases h : k = k'
  ·subst h
   simp [gR, gu, ow, hx]
  ·have hb : (k == k') = false := by simpa using h
   have := u6 l k v x hx
   simp only [gR, gu, ow, hb, Bool.false_eq_true, if_false] at this ⊢
   rw [this]
def QE (m : List (Int × Int)) (seen : List Int) : Prop := ∀ x, (gu KI m x).getD 0 = if x ∈ seen then 1 else 0
theorem Nd {m : List (Int × Int)} {seen : List Int} (h : QE m seen) (x : Int) : (Dy x m).1 = (if x < 1 then 3 else if x ∈ seen then 5 else 0) ∧ ((Dy x m).1 = 0 → QE (Dy x m).2 (seen ++ [x])) := by
 unfold Dy
 have hx := h x
 by_cases h1 : x < 1
 ·simp [h1]
 ·simp only [h1, if_false]
  have e : (gu (ow .i64) m x).getD 0 = if x ∈ seen then 1 else 0 := hx
  rw [e]
  by_cases h2 : x ∈ seen
  ·simp only [h2, if_true]
   rw [show IntKind.i64.wrap (1 + 1) = 2 from zQ (by omega) (by omega)]
   have := sk m x 2
   simp only [KI] at this
   simp [this]
  ·simp only [h2, if_false]
   rw [show IntKind.i64.wrap (0 + 1) = 1 from zQ (by omega) (by omega)]
   have h3 := sk m x 1
   simp only [KI] at h3
   simp only [h3, Option.getD_some, Int.lt_irrefl, if_false, true_and]
   intro _ y
   by_cases hy : y = x
   ·subst hy
    simp [KI, h3]
   ·have h4 := u6 m x 1 y hy
    simp only [KI] at h4
    have h5 := h y
    simp only [KI] at h5 ⊢
    rw [h4, h5]
    simp [hy]
theorem Hz (ids : List Int) (hl : ids.length < 1000000000) (rec1 : Int → Option Int) {i : Nat} (hi : i < ids.length) : dJ rec1 ids (i : Int) ids[i] bq (0 : Int) = if ids[i] ∈ ids.take i then some 5 else rec1 ((i + 1 : Nat) : Int) := by
 have hs := oU (f := fun k j => dJ rec1 ids (i : Int) ids[i] k (j : Int)) (n := i) (P := fun j => ids[j]? == some ids[i]) (A := fun j => some 5) (B := rec1 ((i + 1 : Nat) : Int)) (fun k j hj => by
   have hjf : j < ids.length := by omega
   show dJ rec1 ids (i : Int) ids[i] (k + 1) (j : Int) = _
   rw [dJ, bw hj, bb, aZ hjf, aK hj (by omega)]
   simp only [bm, aP, List.getElem?_eq_getElem hjf, Option.some_beq_some])
  (fun k => by
   show dJ rec1 ids (i : Int) ids[i] (k + 1) (i : Int) = _
   rw [dJ]; simp only [Int.lt_irrefl, decide_false, aN, ql]; rw [aK hi hl]) bq 0 (Nat.zero_le _) (by rw [bl]; omega)
 have hs : dJ rec1 ids (i : Int) ids[i] bq (0 : Int) = _ := hs
 rw [hs]
 cases hf : first (fun j => ids[j]? == some ids[i]) 0 i with
 | none =>
  rw [tN] at hf
  have : ids[i] ∉ ids.take i := by
   intro hm
   obtain ⟨j, hj, he⟩ := List.getElem_of_mem hm
   have hj' : j < i := by simp at hj; omega
   have := hf j (Nat.zero_le _) hj'
   rw [List.getElem_take] at he
   simp [List.getElem?_eq_getElem (show j < ids.length by omega), he] at this
  simp [this]
 | some j =>
  have : ids[i] ∈ ids.take i := by
   unfold first at hf
   have h1 := List.find?_some hf
   have h2 := List.mem_of_find?_eq_some hf
   rw [List.mem_range'_1] at h2
   have hjl : j < ids.length := by omega
   simp only [List.getElem?_eq_getElem hjl, Option.some_beq_some, beq_iff_eq] at h1
   rw [← h1]
   exact List.mem_iff_getElem.2 ⟨j, by simp; omega, by simp⟩
  simp [this]
theorem DE (ids : List Int) (hl : ids.length < 1000000000) : ∀ (kk i : Nat) (m : List (Int × Int)), i ≤ ids.length → ids.length - i < kk → QE m (ids.take i) → iI ids kk (i : Int) = some (scan (ids.drop i) m).1 := by
 intro kk
 induction kk with
 | zero => intro i m _ h; omega
 | succ kk ih =>
  intro i m hi hk hm
  rw [iI]
  by_cases h : i = ids.length
  ·subst h
   simp only [Int.lt_irrefl, decide_false, aN, List.drop_length, scan]
   rfl
  ·have h1 : i < ids.length := by omega
   rw [bw h1, bb, aZ h1, bm, Hz ids hl _ h1, List.drop_eq_getElem_cons h1, scan]
   obtain ⟨g1, g2⟩ := Nd hm ids[i]
   rw [g1] at g2 ⊢
   simp only [aP, decide_eq_true_eq]
   by_cases h2 : ids[i] < 1
   ·simp [h2, g1]
   ·by_cases h3 : ids[i] ∈ ids.take i
    ·simp [h2, h3, g1]
    ·simp only [h2, h3, if_false, ne_eq, not_true]
     simp only [h2, h3, if_false] at g2
     refine ih (i + 1) _ (by omega) (by omega) ?_
     have := g2 trivial
     rwa [List.take_append_getElem h1] at this
theorem BM (fs : List ab) (hs : d8 fs < 1000000000 - 1) : ∃ e, em fs = some e ∧ kg fs = some e := by
 obtain ⟨e, h1, h2, h3⟩ := my ⟨7, 0, fs⟩ (by simp only [jm]; omega)
 unfold em kg
 rw [h1, h2]
 simp only [bm, aP]
 by_cases he : e = 0
 ·have w := Ko 1000000000 bq fs [] (by omega) (by rw [bl]; omega) (by omega)
  have i := M2 1000000000 bq fs (by omega) (by rw [bl]; omega) (by omega)
  have hl := vB fs
  have l := DE (jY fs) (by omega) bq 0 [] (Nat.zero_le _) (by rw [bl]; omega) (fun x => by simp [gu])
  have l : iI (jY fs) bq (0 : Int) = _ := l
  refine ⟨(scan (jY fs) []).1, ?_, ?_⟩
  ·simp [he, w, bm]
  ·simp [he, i, bm, l]
 ·exact ⟨e, by simp [he], by simp [he]⟩
end Go.Proofs.YtfnmbpecdjncfaaGreatDoor
namespace Go.Proofs.YtfnmbpecdjncfaaGreatDoor
open Go Go.SX Go.SX.Cal
theorem en {α β : Type} (a : α) (f : α → Option β) : aE (some a) f = f a := rfl
theorem kZ {β : Type} (x y : Option β) : al true x y = x := rfl
theorem e8 {β : Type} (x y : Option β) : al false x y = y := rfl
theorem gd {m f : Nat} (h : m < f) : ∃ q, f = q + 1 := ⟨f - 1, by omega⟩
theorem Cl {i n : Nat} (h : ¬ i < n) : decide ((i : Int) < (n : Int)) = false := by simp; omega
theorem qz {α : Type} {l : List α} {i : Nat} (hi : i < l.length) : l.drop i = l[i] :: l.drop (i + 1) := List.drop_eq_getElem_cons hi
noncomputable def ck (t : af) (v : aa) : Int := (gx t v).getD 0
theorem G6 {t : af} {v : aa} (hv : d9 v < 1000000000) (hT : jm t < 1000000000) : gx t v = some (ck t v) := by
 obtain ⟨e, h1, _⟩ := IG t v hv hT
 unfold ck; rw [h1]; rfl
noncomputable def uc : List ab → List aa → Int
 | f :: fs, v :: vs => if ck f.type v ≠ 0 then ck f.type v else if f.need = true ∧ v.kind = 0 then 9 else uc fs vs
 | _, _ => 0
theorem JI {f : ab} {fs : List ab} {v : aa} {vs : List aa} (h : ck f.type v ≠ 0) : uc (f :: fs) (v :: vs) = ck f.type v := by simp only [uc]; rw [if_pos h]
theorem Ht {f : ab} {fs : List ab} {v : aa} {vs : List aa} (h : ck f.type v = 0) (h2 : f.need = true ∧ v.kind = 0) : uc (f :: fs) (v :: vs) = 9 := by simp only [uc]; rw [if_neg (fun k => k h), if_pos h2]
theorem zFS {f : ab} {fs : List ab} {v : aa} {vs : List aa} (h : ck f.type v = 0) (h2 : ¬ (f.need = true ∧ v.kind = 0)) : uc (f :: fs) (v :: vs) = uc fs vs := by simp only [uc]; rw [if_neg (fun k => k h), if_neg h2]
theorem LT {fs : List ab} (h : d8 fs < 1000000000) {i : Nat} (hi : i < fs.length) : jm fs[i].type < 1000000000 := by
 have := gL (List.getElem_mem hi)
 have := gq fs[i]
 omega
theorem Iw {r : List aa} (h : jr r < 1000000000) {i : Nat} (hi : i < r.length) : d9 r[i] < 1000000000 := by
 have := ku (List.getElem_mem hi)
 omega
theorem Pf {fs : List ab} {r : List aa} (hf : d8 fs < 1000000000) (hr : jr r < 1000000000) (hl : r.length = fs.length) (rec1 : Int → Option Int) (x1 : Int) : ∀ (m f i : Nat), i + m = fs.length → m < f →
  df rec1 fs x1 r f (i : Int) = if uc (fs.drop i) (r.drop i) ≠ 0 then some (uc (fs.drop i) (r.drop i)) else j4 rec1 x1 := by
 have hfl := dQ fs
 intro m
 induction m with
 | zero =>
  intro f i hi hf'
  obtain ⟨f, rfl⟩ := gd hf'
  rw [df, Cl (by omega), e8, List.drop_of_length_le (l := fs) (by omega)]
  simp [uc]
 | succ m ih =>
  intro f i hi hf'
  obtain ⟨f, rfl⟩ := gd hf'
  have h1 : i < fs.length := by omega
  have h2 : i < r.length := by omega
  rw [df, bw h1, kZ, aZ h1, en, aZ h2, en, G6 (Iw hr h2) (LT hf h1), en, qz h1, qz h2]
  unfold j7
  by_cases he : ck fs[i].type r[i] = 0
  ·by_cases hk : r[i].kind = 0
   ·cases hn : fs[i].need with
    | true => rw [Ht he ⟨hn, hk⟩, he, show ((0 : Int) != 0) = false from rfl, e8, show (r[i].kind == 0) = true by simp [hk], kZ, kZ, if_pos (by decide)]
    | false => rw [zFS he (by simp [hn]), he, show ((0 : Int) != 0) = false from rfl, e8, show (r[i].kind == 0) = true by simp [hk], kZ, e8, aK h1 (by omega), ih f (i + 1) (by omega) (by omega)]
   ·rw [zFS he (fun h => hk h.2), he, show ((0 : Int) != 0) = false from rfl, e8, show (r[i].kind == 0) = false by simp [hk], e8, e8, aK h1 (by omega), ih f (i + 1) (by omega) (by omega)]
  ·rw [JI he, show (ck fs[i].type r[i] != 0) = true by simp [he], kZ, if_pos he]
noncomputable def Af (fs : List ab) : List (List aa) → Int
 | r :: rs => if r.length ≠ fs.length then 1 else if uc fs r ≠ 0 then uc fs r else Af fs rs
 | [] => 0
theorem Nc {fs : List ab} {rows : List (List aa)} (hf : d8 fs < 1000000000) (hr : ∀ r ∈ rows, jr r < 1000000000) (hl : rows.length < 1000000000) : ∀ (m f i : Nat), i + m = rows.length → m < f →
  cy fs rows f (i : Int) = some (Af fs (rows.drop i)) := by
 intro m
 induction m with
 | zero =>
  intro f i hi hf'
  obtain ⟨f, rfl⟩ := gd hf'
  rw [cy, Cl (by omega), e8, List.drop_of_length_le (by omega)]; rfl
 | succ m ih =>
  intro f i hi hf'
  obtain ⟨f, rfl⟩ := gd hf'
  have h1 : i < rows.length := by omega
  rw [cy, bw h1, kZ, aZ h1, en, qz h1]
  simp only [Af]
  by_cases hle : rows[i].length = fs.length
  ·have hc := Pf hf (hr _ (List.getElem_mem h1)) hle (cy fs rows f) (i : Int) fs.length bq 0 (by omega) (by have := dQ fs; rw [bl]; omega)
   rw [show ((0 : Nat) : Int) = 0 from rfl, List.drop_zero, List.drop_zero] at hc
   rw [show (((rows[i].length : Nat) : Int) != (fs.length : Int)) = false by simp [hle], e8, hc, if_neg (show ¬ rows[i].length ≠ fs.length from fun h => h hle)]
   unfold j4
   by_cases h0 : uc fs rows[i] = 0
   ·rw [if_neg (fun h => h h0), if_neg (fun h => h h0), aK h1 hl, ih f (i + 1) (by omega) (by omega)]
   ·rw [if_pos h0, if_pos h0]
  ·rw [show (((rows[i].length : Nat) : Int) != (fs.length : Int)) = true by simp; omega, kZ, if_pos hle]
def sc (fs : List ab) : Int := (em fs).getD 0
theorem Lz {fs : List ab} (h : d8 fs < 1000000000 - 1) : em fs = some (sc fs) := by
 obtain ⟨e, h1, _⟩ := BM fs h
 unfold sc; rw [h1]; rfl
theorem Pt {fs : List ab} (h : d8 fs < 1000000000 - 1) : kg fs = some (sc fs) := by
 obtain ⟨e, h1, h2⟩ := BM fs h
 unfold sc; rw [h1, h2]; rfl
noncomputable def Mm (fs : List ab) (rows : List (List aa)) : Int := if sc fs ≠ 0 then sc fs else if 2000 < rows.length then 7 else Af fs rows
theorem DP {fs : List ab} {rows : List (List aa)} (hf : d8 fs < 1000000000 - 1) (hr : ∀ r ∈ rows, jr r < 1000000000) (hl : rows.length < 1000000000) : km fs rows = some (Mm fs rows) := by
 unfold km Mm
 rw [Lz hf, en]
 by_cases h : sc fs = 0
 ·rw [h, show ((0 : Int) != 0) = false from rfl, e8, if_neg (fun h => h rfl)]
  by_cases h2 : 2000 < rows.length
  ·rw [decide_eq_true (by omega), kZ, if_pos h2]
  ·have hc := Nc (fs := fs) (by omega) hr hl rows.length bq 0 (by omega) (by rw [bl]; omega)
   rw [show ((0 : Nat) : Int) = 0 from rfl, List.drop_zero] at hc
   rw [decide_eq_false (by omega), e8, hc, if_neg h2]
 ·rw [show (sc fs != 0) = true by simp [h], kZ, if_pos h]
theorem F9 : ∀ {fs : List ab} {r : List aa}, uc fs r = 0 → ∀ (i : Nat) f v, fs[i]? = some f → r[i]? = some v → ck f.type v = 0 ∧ ¬ (f.need = true ∧ v.kind = 0)
 | [], _, _, i, f, v, h1, _ => by simp at h1
 | _ :: _, [], _, i, f, v, _, h2 => by simp at h2
 | g :: fs, x :: r, h, i, f, v, h1, h2 => by
  simp only [uc] at h
  by_cases ha : ck g.type x = 0
  ·rw [if_neg (fun h => h ha)] at h
   by_cases hb : g.need = true ∧ x.kind = 0
   ·rw [if_pos hb] at h; cases h
   ·rw [if_neg hb] at h
    cases i with
    | zero => simp at h1 h2; subst h1; subst h2; exact ⟨ha, hb⟩
    | succ i => exact F9 h i f v (by simpa using h1) (by simpa using h2)
  ·rw [if_pos ha] at h; exact absurd h ha
theorem Di {fs : List ab} : ∀ {rows : List (List aa)}, Af fs rows = 0 → ∀ r ∈ rows, r.length = fs.length ∧ uc fs r = 0
 | [], _, r, h => by cases h
 | x :: rows, h, r, hr => by
  simp only [Af] at h
  by_cases ha : x.length = fs.length
  ·rw [if_neg (fun h => h ha)] at h
   by_cases hb : uc fs x = 0
   ·rw [if_neg (fun h => h hb)] at h
    rcases List.mem_cons.1 hr with rfl | hr
    ·exact ⟨ha, hb⟩
    ·exact Di h r hr
   ·rw [if_pos hb] at h; exact absurd h hb
  ·rw [if_pos ha] at h; cases h
end Go.Proofs.YtfnmbpecdjncfaaGreatDoor
namespace Go.Proofs.YtfnmbpecdjncfaaGreatDoor
open Go Go.SX Go.SX.Cal Go.Lib
theorem zX {p : List ab} (hl : p.length < 1000000000) (x : Int) : ∃ r, og p x = some r ∧ qM p x = some r ∧ (r < 0 ∨ ∃ i : Nat, i < p.length ∧ r = (i : Int)) := by
 have key : ∀ (m f f' i : Nat), i + m = p.length → m < f → m < f' → ∃ r, aM p x f (i : Int) = some r ∧ nW p x f' (i : Int) = some r ∧ (r < 0 ∨ ∃ i : Nat, i < p.length ∧ r = (i : Int)) := by
  intro m
  induction m with
  | zero =>
   intro f f' i hi hf hf'
   obtain ⟨f, rfl⟩ := gd hf
   obtain ⟨f', rfl⟩ := gd hf'
   rw [aM, nW, Cl (by omega), e8, e8]
   exact ⟨-1, rfl, rfl, .inl (by omega)⟩
  | succ m ih =>
   intro f f' i hi hf hf'
   obtain ⟨f, rfl⟩ := gd hf
   obtain ⟨f', rfl⟩ := gd hf'
   have h1 : i < p.length := by omega
   rw [aM, nW, bw h1, kZ, kZ, aZ h1, en, en, nF, en]
   cases he : (p[i].id == x) with
   | true => rw [kZ, kZ]; exact ⟨i, rfl, rfl, .inr ⟨i, h1, rfl⟩⟩
   | false => rw [e8, e8, aK h1 hl]; exact ih f f' (i + 1) (by omega) (by omega) (by omega)
 obtain ⟨r, h1, h2, h3⟩ := key p.length bq bq 0 (by omega) (by rw [bl]; omega) (by rw [bl]; omega)
 refine ⟨r, ?_, h2, h3⟩
 unfold og cH
 rw [show ((0 : Nat) : Int) = 0 from rfl] at h1
 rw [h1, en]
theorem L9 {t : af} {e : Int} (h : cA t = some e) : kY t = some (if e ≠ 0 then e else if t.kind = 6 ∨ t.kind = 7 then 2 else 0) := by
 unfold kY kK
 rw [h, en]
 by_cases he : e = 0
 ·subst he
  by_cases h6 : t.kind = 6
  ·simp [h6, aP]
  ·by_cases h7 : t.kind = 7 <;> simp [h6, h7, aP]
 ·simp [he, aP]
def Wd (t u : af) : Prop := (t.kind = u.kind ∧ t.scale = u.scale) ∨ (t.kind = 1 ∧ u.kind = 2) ∨ ((t.kind = 1 ∨ t.kind = 2) ∧ u.kind = 3 ∧ u.scale = 0)
structure Qg (t u : af) : Prop where
 a : V t
 b : V u
 c : cA u = some 0
 l : t.kind ≠ 6 ∧ t.kind ≠ 7
 m : u.kind ≠ 6 ∧ u.kind ≠ 7
 w : Wd t u
def NO (t u : af) : Bool := (t.kind == u.kind && t.scale == u.scale) || (t.kind == 1 && u.kind == 2) || ((t.kind == 1 || t.kind == 2) && u.kind == 3 && u.scale == 0)
theorem yX (t u : af) (ht : jm t < 1000000000) (hu : jm u < 1000000000) : ∃ b, jT t u = some b ∧ pw t u = some b ∧ (b = true → Qg t u) := by
 obtain ⟨e, a1, a2, a3⟩ := my t ht
 obtain ⟨e', b1, b2, b3⟩ := my u hu
 have hc : i7 t u false = some (NO t u) := by
  unfold i7 mE mq gH NO
  simp only [aP, beq_iff_eq]
  repeat' split
  all_goals (first | rfl | (simp_all; done) | (simp_all; omega))
 have hr : jk t u false = some (NO t u) := by
  unfold jk rE qX kr NO
  simp only [aP, beq_iff_eq]
  repeat' split
  all_goals (first | rfl | (simp_all; done) | (simp_all; omega) | (refine congrArg some (Bool.eq_iff_iff.2 ?_); simp_all; try omega))
 have hc0 : i7 t u true = some false := rfl
 have hr0 : jk t u true = some false := rfl
 have hC : jT t u = some (decide (e = 0 ∧ e' = 0 ∧ (t.kind ≠ 6 ∧ t.kind ≠ 7) ∧ (u.kind ≠ 6 ∧ u.kind ≠ 7)) && NO t u) := by
  unfold jT
  rw [L9 a1, L9 b1, en, en]
  by_cases he : e = 0 <;> by_cases he' : e' = 0 <;> by_cases h1 : t.kind = 6 ∨ t.kind = 7 <;> by_cases h2 : u.kind = 6 ∨ u.kind = 7 <;> simp [he, he', show ¬ e' = 0 → (e' != 0) = true from fun h => by simp [h], aP, hc, hc0, h1, h2, show (t.kind ≠ 6 ∧ t.kind ≠ 7) ↔ ¬ (t.kind = 6 ∨ t.kind = 7) from by omega, show (u.kind ≠ 6 ∧ u.kind ≠ 7) ↔ ¬ (u.kind = 6 ∨ u.kind = 7) from by omega]
 have hR : pw t u = some (decide (e = 0 ∧ e' = 0 ∧ (t.kind ≠ 6 ∧ t.kind ≠ 7) ∧ (u.kind ≠ 6 ∧ u.kind ≠ 7)) && NO t u) := by
  unfold pw
  simp only [a2, b2, GC, en]
  by_cases he : e = 0 <;> by_cases he' : e' = 0 <;> by_cases h1 : t.kind ≠ 6 ∧ t.kind ≠ 7 <;> by_cases h2 : u.kind ≠ 6 ∧ u.kind ≠ 7 <;> simp [he, he', h1, h2, aP, hr, hr0]
 refine ⟨_, hC, hR, fun h => ?_⟩
 rw [Bool.and_eq_true, decide_eq_true_iff] at h
 obtain ⟨⟨he, he', h6, h7⟩, hw⟩ := h
 subst he; subst he'
 refine ⟨a3 rfl, b3 rfl, b1, h6, h7, ?_⟩
 unfold NO at hw
 simp at hw
 unfold Wd
 omega
theorem Fw (t : af) : md t = some (decide (t.kind = 6 ∨ t.kind = 7)) := by
 unfold md lE
 by_cases h6 : t.kind = 6 <;> by_cases h7 : t.kind = 7 <;> simp [h6, h7, aP]
def O0 (q : List ab → List ab → Prop) (t u : af) : Prop := (t.kind ≠ 6 ∧ t.kind ≠ 7 → Qg t u) ∧ (¬ (t.kind ≠ 6 ∧ t.kind ≠ 7) → t.kind = u.kind ∧ q t.fields u.fields)
def EI : Nat → List ab → List ab → Prop
 | 0, _, _ => True
 | d + 1, p, q => ∀ f ∈ q, ∀ (i : Nat) (g : ab), qM p f.id = some (i : Int) → p[i]? = some g → O0 (EI d) g.type f.type
theorem B0 : ∀ (N k k' : Nat) (p q : List ab), d8 q ≤ N → N < k → N < k' → d8 p < 1000000000 → d8 q < 1000000000 → ∃ e, bo k p q = some e ∧ eH k' p q = some e ∧ (e = 0 → ∀ d, EI d p q) := by
 intro N
 induction N with
 | zero =>
  intro k k' p q h hk hk' hp hq
  obtain ⟨k, rfl⟩ := gd hk
  obtain ⟨k', rfl⟩ := gd hk'
  have hl := dQ q
  have : q = [] := List.length_eq_zero_iff.1 (by omega)
  subst this
  rw [bo, eH, pK, bp, dp]
  refine ⟨0, rfl, rfl, fun _ d => ?_⟩
  cases d with
  | zero => trivial
  | succ d => exact fun f hf => by cases hf
 | succ N ih =>
  intro k k' p q h hk hk' hp hq
  obtain ⟨k, rfl⟩ := gd hk
  obtain ⟨k', rfl⟩ := gd hk'
  have hpl := dQ p
  have hql := dQ q
  have key : ∀ (m f f' i : Nat), i + m = q.length → m < f → m < f' → ∃ e, bp (bo k) p q f (i : Int) = some e ∧ dp (eH k') p q f' (i : Int) = some e ∧
    (e = 0 → ∀ d, ∀ f ∈ q.drop i, ∀ (i : Nat) (g : ab), qM p f.id = some (i : Int) → p[i]? = some g → O0 (EI d) g.type f.type) := by
   intro m
   induction m with
   | zero =>
    intro f f' i hi hf hf'
    obtain ⟨f, rfl⟩ := gd hf
    obtain ⟨f', rfl⟩ := gd hf'
    rw [bp, dp, Cl (by omega), e8, e8, List.drop_of_length_le (by omega)]
    exact ⟨0, rfl, rfl, fun _ d f hf => by cases hf⟩
   | succ m ih2 =>
    intro f f' i hi hf hf'
    obtain ⟨f, rfl⟩ := gd hf
    obtain ⟨f', rfl⟩ := gd hf'
    have h1 : i < q.length := by omega
    obtain ⟨e, c1, c2, c3⟩ := ih2 f f' (i + 1) (by omega) (by omega) (by omega)
    obtain ⟨r, r1, r2, r3⟩ := zX (p := p) (by omega) q[i].id
    rw [bp, dp, bw h1, kZ, kZ, aZ h1, en, en, r1, en, r2, en, qz h1]
    unfold iM lC
    rw [aK h1 (by omega)]
    rcases r3 with r3 | ⟨j, hj, rfl⟩
    ·rw [decide_eq_true r3, kZ, kZ]
     cases hn : q[i].need with
     | true => rw [kZ, kZ]; exact ⟨9, rfl, rfl, fun h => by cases h⟩
     | false =>
      rw [e8, e8]
      refine ⟨e, c1, c2, fun he d x hx j g hg hpj => ?_⟩
      rcases List.mem_cons.1 hx with rfl | hx
      ·rw [r2] at hg; cases hg; omega
      ·exact c3 he d x hx j g hg hpj
    ·rw [decide_eq_false (by omega), e8, e8, aZ hj, en, en]
     have hqi := gL (List.getElem_mem h1)
     have hpj := gL (List.getElem_mem hj)
     have hqi2 := gq q[i]
     have hpj2 := gq p[j]
     have hqi3 := m9 q[i].type
     have hpj3 := m9 p[j].type
     obtain ⟨y, y1, y2, y3⟩ := ih k k' p[j].type.fields q[i].type.fields (by omega) (by omega) (by omega) (by omega) (by omega)
     obtain ⟨b, b1, b2, b3⟩ := yX p[j].type q[i].type (by omega) (by omega)
     -- what follows when the types suit
     have hgo : ∀ (hat : (∀ d, EI d p[j].type.fields q[i].type.fields) → ∀ d, O0 (EI d) p[j].type q[i].type),
       ∃ e, ff (bo k) (bp (bo k) p q f) (i : Int) q[i] p[j] false = some e ∧ fg (dp (eH k') p q f') (eH k') (i : Int) q[i] p[j] false = some e ∧
        (e = 0 → ∀ d, ∀ f ∈ q[i] :: q.drop (i + 1), ∀ (i : Nat) (g : ab), qM p f.id = some (i : Int) → p[i]? = some g → O0 (EI d) g.type f.type) := by
      intro hat
      unfold ff fg iM lC
      rw [e8, e8, y1, en, y2, en, aK h1 (by omega)]
      by_cases hy : y = 0
      ·subst hy
       rw [bne_self_eq_false, e8, e8]
       refine ⟨e, c1, c2, fun he d x hx j' g hg hpj' => ?_⟩
       rcases List.mem_cons.1 hx with rfl | hx
       ·rw [r2] at hg
        have : j = j' := by have := Option.some.inj hg; omega
        subst this
        rw [List.getElem?_eq_getElem hj] at hpj'
        cases hpj'
        exact hat (y3 rfl) d
       ·exact c3 he d x hx j' g hg hpj'
      ·rw [show (y != 0) = true by simp [hy], kZ, kZ]
       exact ⟨y, rfl, rfl, fun h => absurd h hy⟩
     have h2c : ff (bo k) (bp (bo k) p q f) (i : Int) q[i] p[j] true = some 2 := rfl
     have h2r : fg (dp (eH k') p q f') (eH k') (i : Int) q[i] p[j] true = some 2 := rfl
     have hj1 : ∃ e, iH (bo k) (bp (bo k) p q f) (i : Int) q[i] p[j] false = some e ∧ lF (dp (eH k') p q f') (eH k') (i : Int) q[i] p[j] false = some e ∧
        (e = 0 → ∀ d, ∀ f ∈ q[i] :: q.drop (i + 1), ∀ (i : Nat) (g : ab), qM p f.id = some (i : Int) → p[i]? = some g → O0 (EI d) g.type f.type) := by
      unfold iH lF ke
      rw [e8, e8, Fw, en, GC, en]
      by_cases hlf : p[j].type.kind ≠ 6 ∧ p[j].type.kind ≠ 7
      ·rw [decide_eq_true hlf, decide_eq_false (by omega)]
       simp only [Bool.not_true, Bool.not_false, kZ, e8, en, b1, b2]
       cases b with
       | true => exact hgo fun _ d => ⟨fun _ => b3 rfl, fun h => absurd hlf h⟩
       | false => exact ⟨2, rfl, rfl, fun h => by cases h⟩
      ·rw [decide_eq_false hlf, decide_eq_true (by omega)]
       simp only [Bool.not_true, Bool.not_false, kZ, e8, en]
       by_cases hk : p[j].type.kind = q[i].type.kind
       ·rw [show (q[i].type.kind != p[j].type.kind) = false by simp [hk], show (p[j].type.kind != q[i].type.kind) = false by simp [hk], e8, e8]
        exact hgo fun hh d => ⟨fun h => absurd h hlf, fun _ => ⟨hk, hh d⟩⟩
       ·rw [show (q[i].type.kind != p[j].type.kind) = true by simp; omega, show (p[j].type.kind != q[i].type.kind) = true by simp; omega, kZ, kZ]
        exact ⟨2, rfl, rfl, fun h => by cases h⟩
     cases hn : q[i].need with
     | true =>
      rw [kZ, kZ]
      cases hm : p[j].need with
      | true => exact hj1
      | false => exact ⟨9, rfl, rfl, fun h => by cases h⟩
     | false => rw [e8, e8]; exact hj1
  obtain ⟨e, e1, e2, e3⟩ := key q.length bq bq 0 (by omega) (by rw [bl]; omega) (by rw [bl]; omega)
  refine ⟨e, e1, e2, fun he d => ?_⟩
  cases d with
  | zero => trivial
  | succ d => exact e3 he d
end Go.Proofs.YtfnmbpecdjncfaaGreatDoor
namespace Go.Proofs.YtfnmbpecdjncfaaGreatDoor
open Go Go.SX Go.SX.Cal Go.Lib
theorem CL (t : af) : oT t = some (decide (t.kind ≠ 6 ∧ t.kind ≠ 7)) := by
 unfold oT pr
 by_cases h6 : t.kind = 6 <;> by_cases h7 : t.kind = 7 <;> simp [h6, h7, aP]
def sr : af := ⟨0, 0, []⟩
def Kt (p : ca) (t : af) : af × Int :=
 if t.kind = 6 ∨ t.kind = 7 then (sr, 2) else if p.kind = 3 ∧ t.kind ≠ 2 ∧ t.kind ≠ 3 ∧ t.kind ≠ 4 then (sr, 2) else if 4 ≤ p.kind ∧ t.kind ≠ 5 then (sr, 2)
 else if p.kind = 2 ∨ 4 ≤ p.kind then (⟨2, 0, []⟩, 0) else (t, 0)
def Dj (p : ca) (t : af) (e : Int) : af × Int :=
 if e ≠ 0 then (sr, e) else if p.kind < 0 ∨ 7 < p.kind then (sr, 3)
 else if p.kind = 2 ∨ p.kind = 3 then (if p.param < 1 ∨ 1000000 < p.param then (sr, 3) else Kt p t) else if p.param ≠ 0 then (sr, 3) else Kt p t
theorem Ql (p : ca) (t : af) : gj p t = some (Kt p t) := by
 unfold gj eZ eX iR Kt sr
 rw [CL]
 simp only [bm, aP]
 by_cases h6 : t.kind = 6
 ·simp [h6]
 by_cases h7 : t.kind = 7
 ·simp [h7]
 by_cases h3 : p.kind = 3
 ·by_cases t2 : t.kind = 2
  ·simp [h6, h7, h3, t2]
  by_cases t3 : t.kind = 3
  ·simp [h6, h7, h3, t2, t3]
  by_cases t4 : t.kind = 4
  ·simp [h6, h7, h3, t2, t3, t4]
  simp [h6, h7, h3, t2, t3, t4]
 ·by_cases h4 : 4 ≤ p.kind
  ·by_cases t5 : t.kind = 5
   ·simp [h6, h7, h3, h4, t5]
   ·simp [h6, h7, h3, h4, t5]
  ·by_cases h2 : p.kind = 2
   ·simp [h6, h7, h3, h4, h2]
   ·simp [h6, h7, h3, h4, h2]
theorem NG (p : ca) (t : af) : dG p t false = some (Kt p t) := by
 unfold dG gE ls lq Kt sr
 rw [GC]
 simp only [bm, aP]
 by_cases h6 : t.kind = 6
 ·simp [h6]
 by_cases h7 : t.kind = 7
 ·simp [h7]
 by_cases h3 : p.kind = 3
 ·by_cases t2 : t.kind = 2
  ·simp [h6, h7, h3, t2]
  by_cases t3 : t.kind = 3
  ·simp [h6, h7, h3, t2, t3]
  by_cases t4 : t.kind = 4
  ·simp [h6, h7, h3, t2, t3, t4]
  simp [h6, h7, h3, t2, t3, t4]
 ·by_cases h4 : 4 ≤ p.kind
  ·by_cases t5 : t.kind = 5
   ·simp [h6, h7, h3, h4, t5]
   ·simp [h6, h7, h3, h4, t5]
  ·by_cases h2 : p.kind = 2
   ·simp [h6, h7, h3, h4, h2]
   ·simp [h6, h7, h3, h4, h2]
theorem F6 (a b c : Int) : rW a b c = some (decide (b ≤ a ∧ a ≤ c)) := by
 unfold rW rF
 by_cases h1 : b ≤ a <;> by_cases h2 : a ≤ c <;> simp [h1, h2, aP]
theorem tt (p : ca) (t : af) (hs : jm t < 1000000000) : ∃ e, (e = 0 → V t) ∧ fd p t = some (Dj p t e) ∧ ji p t = some (Dj p t e) := by
 obtain ⟨e, h1, h2, h3⟩ := my t hs
 refine ⟨e, h3, ?_, ?_⟩
 ·unfold fd Dj
  rw [h1]
  by_cases he : e = 0
  ·subst he
   unfold iS iX iW
   rw [Ql]
   simp only [bm, aP, sr]
   by_cases k0 : p.kind < 0
   ·simp [k0]
   by_cases k7 : 7 < p.kind
   ·simp [k0, k7]
   by_cases k2 : p.kind = 2
   ·by_cases m1 : p.param < 1
    ·simp [k0, k7, k2, m1]
    by_cases m2 : 1000000 < p.param
    ·simp [k0, k7, k2, m1, m2]
    simp [k0, k7, k2, m1, m2]
   by_cases k3 : p.kind = 3
   ·by_cases m1 : p.param < 1
    ·simp [k0, k7, k2, k3, m1]
    by_cases m2 : 1000000 < p.param
    ·simp [k0, k7, k2, k3, m1, m2]
    simp [k0, k7, k2, k3, m1, m2]
   by_cases m0 : p.param = 0
   ·simp [k0, k7, k2, k3, m0]
   ·simp [k0, k7, k2, k3, m0]
  ·simp [he, aP, bm, sr]
 ·unfold ji Dj
  rw [h2]
  by_cases he : e = 0
  ·subst he
   unfold lw
   rw [F6, F6]
   have hb : dG p t true = some (sr, 3) := rfl
   by_cases k0 : p.kind < 0
   ·simp [k0, aP, bm, show ¬ (0 : Int) ≤ p.kind by omega, sr]
   by_cases k7 : 7 < p.kind
   ·simp [k0, k7, aP, bm, show ¬ p.kind ≤ 7 by omega, sr]
   have k0' : (0 : Int) ≤ p.kind := by omega
   have k7' : p.kind ≤ 7 := by omega
   by_cases k2 : p.kind = 2
   ·by_cases m1 : p.param < 1
    ·simp [k2, m1, aP, bm, hb, show ¬ (1 : Int) ≤ p.param by omega]
    by_cases m2 : 1000000 < p.param
    ·simp [k2, m1, m2, aP, bm, hb, show ¬ p.param ≤ 1000000 by omega]
    simp [k2, m1, m2, aP, bm, NG, show (1 : Int) ≤ p.param by omega, show p.param ≤ 1000000 by omega]
   by_cases k3 : p.kind = 3
   ·by_cases m1 : p.param < 1
    ·simp [k3, m1, aP, bm, hb, show ¬ (1 : Int) ≤ p.param by omega]
    by_cases m2 : 1000000 < p.param
    ·simp [k3, m1, m2, aP, bm, hb, show ¬ p.param ≤ 1000000 by omega]
    simp [k3, m1, m2, aP, bm, NG, show (1 : Int) ≤ p.param by omega, show p.param ≤ 1000000 by omega]
   by_cases m0 : p.param = 0
   ·simp [k0, k7, k0', k7', k2, k3, m0, aP, bm, NG]
   ·have hm : (p.param != 0) = true := bne_iff_ne.2 m0
    simp [k0, k7, k0', k7', k2, k3, m0, hm, aP, bm, hb]
  ·simp [he, aP, bm, sr]
structure RO (p : ca) (t : af) : Prop where
 v : V t
 k6 : t.kind ≠ 6
 k7 : t.kind ≠ 7
 lo : 0 ≤ p.kind
 hi : p.kind ≤ 7
 par : p.kind = 2 ∨ p.kind = 3 → 1 ≤ p.param ∧ p.param ≤ 1000000
 cut : p.kind = 3 → t.kind = 2 ∨ t.kind = 3 ∨ t.kind = 4
 tim : 4 ≤ p.kind → t.kind = 5
theorem Nz {p : ca} {t : af} {e : Int} (hv : e = 0 → V t) (h : (Dj p t e).2 = 0) : RO p t := by
 unfold Dj Kt at h
 by_cases he : e = 0
 ·subst he
  rw [if_neg (by decide)] at h
  by_cases hk : p.kind < 0 ∨ 7 < p.kind
  ·rw [if_pos hk] at h; exact absurd h (by decide)
  rw [if_neg hk] at h
  have fin : (if t.kind = 6 ∨ t.kind = 7 then (sr, (2 : Int)) else if p.kind = 3 ∧ t.kind ≠ 2 ∧ t.kind ≠ 3 ∧ t.kind ≠ 4 then (sr, 2) else if 4 ≤ p.kind ∧ t.kind ≠ 5 then (sr, 2) else if p.kind = 2 ∨ 4 ≤ p.kind then (⟨2, 0, []⟩, 0) else (t, 0)).2 = 0 →
    t.kind ≠ 6 ∧ t.kind ≠ 7 ∧ (p.kind = 3 → t.kind = 2 ∨ t.kind = 3 ∨ t.kind = 4) ∧ (4 ≤ p.kind → t.kind = 5) := fun h => by
   by_cases a : t.kind = 6 ∨ t.kind = 7
   ·rw [if_pos a] at h; exact absurd h (by decide)
   rw [if_neg a] at h
   by_cases b : p.kind = 3 ∧ t.kind ≠ 2 ∧ t.kind ≠ 3 ∧ t.kind ≠ 4
   ·rw [if_pos b] at h; exact absurd h (by decide)
   rw [if_neg b] at h
   by_cases c : 4 ≤ p.kind ∧ t.kind ≠ 5
   ·rw [if_pos c] at h; exact absurd h (by decide)
   exact ⟨by omega, by omega, by omega, by omega⟩
  by_cases h23 : p.kind = 2 ∨ p.kind = 3
  ·rw [if_pos h23] at h
   by_cases hm : p.param < 1 ∨ 1000000 < p.param
   ·rw [if_pos hm] at h; exact absurd h (by decide)
   rw [if_neg hm] at h
   obtain ⟨a, b, c, d⟩ := fin h
   exact ⟨hv rfl, a, b, by omega, by omega, fun _ => by omega, c, d⟩
  ·rw [if_neg h23] at h
   by_cases hm : p.param ≠ 0
   ·rw [if_pos hm] at h; exact absurd h (by decide)
   rw [if_neg hm] at h
   obtain ⟨a, b, c, d⟩ := fin h
   exact ⟨hv rfl, a, b, by omega, by omega, fun h => absurd h h23, c, d⟩
 ·rw [if_pos he] at h; exact absurd h he
end Go.Proofs.YtfnmbpecdjncfaaGreatDoor
namespace Go.Proofs.YtfnmbpecdjncfaaGreatDoor
open Go Go.SX Go.SX.Cal
theorem bS {α β : Type} (a : α) (f : α → Option β) : aE (some a) f = f a := rfl
theorem iT {β : Type} (x y : Option β) : al true x y = x := rfl
theorem iF {β : Type} (x y : Option β) : al false x y = y := rfl
theorem gP {β : Type} {p : Prop} [Decidable p] {x : Option β} (h : p) : nT p x = x := if_pos h
theorem C3 {i n : Nat} (h : ¬ i < n) : decide ((i : Int) < (n : Int)) = false := by simp; omega
theorem fu {m f : Nat} (h : m < f) : ∃ q, f = q + 1 := ⟨f - 1, by omega⟩
theorem Ap : bq = 1152921504606846975 + 1 := rfl
structure Ki (fs : List ab) (id : Int) (i : Nat) : Prop where
 lt : i < fs.length
 eq : ∀ h : i < fs.length, fs[i].id = id
 no : ∀ (j : Nat) (h : j < fs.length), j < i → fs[j].id ≠ id
theorem Mz {fs : List ab} (id : Int) : ∀ (m j : Nat), j + m = fs.length → (∃ i, j ≤ i ∧ i < fs.length ∧ (∀ h : i < fs.length, fs[i].id = id) ∧ ∀ (q : Nat) (h : q < fs.length), j ≤ q → q < i → fs[q].id ≠ id) ∨ ∀ (q : Nat) (h : q < fs.length), j ≤ q → fs[q].id ≠ id := by
 intro m
 induction m with
 | zero => intro j h; exact .inr fun q hq hj => by omega
 | succ m ih =>
  intro j h
  have hj : j < fs.length := by omega
  by_cases e : fs[j].id = id
  ·exact .inl ⟨j, Nat.le_refl _, hj, fun _ => e, fun q _ h1 h2 => by omega⟩
  ·rcases ih (j + 1) (by omega) with ⟨i, h1, h2, h3, h4⟩ | h1
   ·refine .inl ⟨i, by omega, h2, h3, fun q hq h5 h6 => ?_⟩
    by_cases e2 : q = j
    ·subst e2; exact e
    ·exact h4 q hq (by omega) h6
   ·refine .inr fun q hq h5 => ?_
    by_cases e2 : q = j
    ·subst e2; exact e
    ·exact h1 q hq (by omega)
theorem Ki.or (fs : List ab) (id : Int) : (∃ i, Ki fs id i) ∨ ∀ (q : Nat) (h : q < fs.length), fs[q].id ≠ id := by
 rcases Mz (fs := fs) id fs.length 0 (by omega) with ⟨i, _, h2, h3, h4⟩ | h
 ·exact .inl ⟨i, h2, h3, fun j hj hi => h4 j hj (Nat.zero_le _) hi⟩
 ·exact .inr fun q hq => h q hq (Nat.zero_le _)
theorem Qk {fs : List ab} (hn : fs.length < 1000000000) {id : Int} {i : Nat} (hF : Ki fs id i) : ∀ (m f j : Nat), j + m = i → m < f →
  az fs id f (j : Int) = some (i : Int) := by
 intro m
 induction m with
 | zero =>
  intro f j h hf
  obtain ⟨q, rfl⟩ := fu hf
  have e : j = i := by omega
  subst e
  rw [az, bw hF.lt, iT, aZ hF.lt, bS]
  unfold mV
  rw [bS, hF.eq hF.lt, beq_self_eq_true, iT]
 | succ m ih =>
  intro f j h hf
  obtain ⟨q, rfl⟩ := fu hf
  have hj : j < fs.length := by have := hF.lt; omega
  rw [az, bw hj, iT, aZ hj, bS]
  unfold mV
  rw [bS, beq_eq_false_iff_ne.2 (hF.no j hj (by omega)), iF, aK hj hn]
  exact ih q (j + 1) (by omega) (by omega)
theorem Qt {fs : List ab} (hn : fs.length < 1000000000) {id : Int} (hF : ∀ (q : Nat) (h : q < fs.length), fs[q].id ≠ id) : ∀ (m f j : Nat), j + m = fs.length → m < f →
  az fs id f (j : Int) = some (-1) := by
 intro m
 induction m with
 | zero =>
  intro f j h hf
  obtain ⟨q, rfl⟩ := fu hf
  rw [az, C3 (by omega), iF]
  rfl
 | succ m ih =>
  intro f j h hf
  obtain ⟨q, rfl⟩ := fu hf
  have hj : j < fs.length := by omega
  rw [az, bw hj, iT, aZ hj, bS]
  unfold mV
  rw [bS, beq_eq_false_iff_ne.2 (hF j hj), iF, aK hj hn]
  exact ih q (j + 1) (by omega) (by omega)
theorem um {fs : List ab} (hn : fs.length < 1000000000) {id : Int} {i : Nat} (hF : Ki fs id i) : ir fs id = some (i : Int) := by
 unfold ir b7
 have h := Qk hn hF i bq 0 (by omega) (by rw [Ap]; have := hF.lt; omega)
 rw [show ((0 : Nat) : Int) = 0 from rfl] at h
 rw [h]; rfl
theorem uK {fs : List ab} (hn : fs.length < 1000000000) {id : Int} (hF : ∀ (q : Nat) (h : q < fs.length), fs[q].id ≠ id) : ir fs id = some (-1) := by
 unfold ir b7
 have h := Qt hn hF fs.length bq 0 (by omega) (by rw [Ap]; omega)
 rw [show ((0 : Nat) : Int) = 0 from rfl] at h
 rw [h]; rfl
theorem O9 {fs : List ab} (hn : fs.length < 1000000000) {id : Int} {i : Nat} (hF : Ki fs id i) : ∀ (m f j : Nat), j + m = i → m < f →
  kG fs id f (j : Int) = some (fs[i]'hF.lt, true) := by
 intro m
 induction m with
 | zero =>
  intro f j h hf
  obtain ⟨q, rfl⟩ := fu hf
  have e : j = i := by omega
  subst e
  rw [kG, bw hF.lt, iT, aZ hF.lt, bS, hF.eq hF.lt, beq_self_eq_true, iT]
 | succ m ih =>
  intro f j h hf
  obtain ⟨q, rfl⟩ := fu hf
  have hj : j < fs.length := by have := hF.lt; omega
  rw [kG, bw hj, iT, aZ hj, bS, beq_eq_false_iff_ne.2 (hF.no j hj (by omega)), iF, aK hj hn]
  exact ih q (j + 1) (by omega) (by omega)
theorem OA {fs : List ab} (hn : fs.length < 1000000000) {id : Int} (hF : ∀ (q : Nat) (h : q < fs.length), fs[q].id ≠ id) : ∀ (m f j : Nat), j + m = fs.length → m < f →
  ∃ g, kG fs id f (j : Int) = some (g, false) := by
 intro m
 induction m with
 | zero =>
  intro f j h hf
  obtain ⟨q, rfl⟩ := fu hf
  rw [kG, C3 (by omega), iF]
  exact ⟨_, rfl⟩
 | succ m ih =>
  intro f j h hf
  obtain ⟨q, rfl⟩ := fu hf
  have hj : j < fs.length := by omega
  rw [kG, bw hj, iT, aZ hj, bS, beq_eq_false_iff_ne.2 (hF j hj), iF, aK hj hn]
  exact ih q (j + 1) (by omega) (by omega)
theorem xG {fs : List ab} (hn : fs.length < 1000000000) {id : Int} {i : Nat} (hF : Ki fs id i) : sG fs id = some (fs[i]'hF.lt, true) := by
 have h := O9 hn hF i bq 0 (by omega) (by rw [Ap]; have := hF.lt; omega)
 exact h
theorem yj {fs : List ab} (hn : fs.length < 1000000000) {id : Int} (hF : ∀ (q : Nat) (h : q < fs.length), fs[q].id ≠ id) : ∃ g, sG fs id = some (g, false) := by
 obtain ⟨g, h⟩ := OA hn hF fs.length bq 0 (by omega) (by rw [Ap]; omega)
 exact ⟨g, h⟩
def zM (a b : bf) : Bool := (a.source == b.source) && (((a.transform.kind == b.transform.kind) && ((a.transform.param == b.transform.param) && true)) && true)
theorem Dt (a b : bf) : zM a b = true ↔ a = b := by
 obtain ⟨s, k, p⟩ := a
 obtain ⟨s2, k2, p2⟩ := b
 simp [zM, and_assoc]
theorem HI (a b : bf) : zM a b = zM b a := by
 rw [Bool.eq_iff_iff, Dt, Dt]; exact eq_comm
theorem QR {l : List bf} (hn : l.length < 1000000000) (e : bf) : ∀ (m f j : Nat), j + m = l.length → m < f → ∃ r, be l e f (j : Int) = some r ∧ decide ((0 : Int) ≤ r) = (l.drop j).any (zM e) := by
 intro m
 induction m with
 | zero =>
  intro f j h hf
  obtain ⟨q, rfl⟩ := fu hf
  rw [be, C3 (by omega), iF]
  exact ⟨-1, rfl, by rw [List.drop_of_length_le (by omega)]; rfl⟩
 | succ m ih =>
  intro f j h hf
  obtain ⟨q, rfl⟩ := fu hf
  have hj : j < l.length := by omega
  rw [be, bw hj, iT, aZ hj, bS, bS, List.drop_eq_getElem_cons hj, List.any_cons]
  show ∃ r, al (zM e l[j]) _ _ = _ ∧ _
  cases hb : zM e l[j] with
  | true => exact ⟨_, rfl, by simp⟩
  | false =>
   rw [iF, aK hj hn]
   exact ih q (j + 1) (by omega) (by omega)
theorem NV {l : List bf} (hn : l.length < 1000000000) (e : bf) : cK l e = some (l.any (zM e)) := by
 unfold cK ej
 obtain ⟨r, h1, h2⟩ := QR hn e l.length bq 0 (by omega) (by rw [Ap]; omega)
 rw [show ((0 : Nat) : Int) = 0 from rfl] at h1
 rw [h1, bS, h2]; rfl
theorem QU {p : cN} (hn : p.fields.length < 1000000000) (rec1 : Int → Option Int) (x1 : Nat) (hx : x1 ≤ p.fields.length) (e : bf) : ∀ (m f j : Nat), j + m = x1 → m < f →
  ng rec1 p (x1 : Int) e f (j : Int) = if ((p.fields.take x1).drop j).any (zM e) = true then some 5 else sq rec1 (x1 : Int) := by
 intro m
 induction m with
 | zero =>
  intro f j h hf
  obtain ⟨q, rfl⟩ := fu hf
  rw [ng, C3 (by omega), iF, List.drop_of_length_le (by rw [List.length_take]; omega)]
  rfl
 | succ m ih =>
  intro f j h hf
  obtain ⟨q, rfl⟩ := fu hf
  have hj : j < p.fields.length := by omega
  have hj2 : j < (p.fields.take x1).length := by rw [List.length_take]; omega
  rw [ng, bw (show j < x1 by omega), iT, aZ hj, bS, bS, List.drop_eq_getElem_cons hj2, List.any_cons]
  rw [show (p.fields.take x1)[j] = p.fields[j] by simp]
  show al (zM p.fields[j] e) _ _ = _
  rw [HI]
  cases hb : zM e p.fields[j] with
  | true => simp [iT]
  | false =>
   rw [iF, aK (show j < x1 by omega) (by omega), ih q (j + 1) (by omega) (by omega)]
   simp
theorem EQ {p : cN} {fs : List ab} (hp : p.fields.length < 1000000000) (hf : d8 fs < 1000000000) : ∀ (m f j : Nat), j + m = p.fields.length → m < f →
  ∃ c, hJ p fs f (j : Int) = some c ∧ lg p fs f (j : Int) = some c ∧ (c = 0 → ∀ (k : Nat) (h : k < p.fields.length), j ≤ k → ∃ i, Ki fs p.fields[k].source i) := by
 have hn : fs.length < 1000000000 := by have := dQ fs; omega
 intro m
 induction m with
 | zero =>
  intro f j h hq
  obtain ⟨q, rfl⟩ := fu hq
  refine ⟨0, ?_, ?_, fun _ k hk hj => by omega⟩
  ·rw [hJ, C3 (by omega), iF]; rfl
  ·rw [lg, C3 (by omega), iF]; rfl
 | succ m ih =>
  intro f j h hq
  obtain ⟨q, rfl⟩ := fu hq
  have hj : j < p.fields.length := by omega
  rw [hJ, lg, bw hj, iT, iT, aZ hj, bS, bS]
  rcases Ki.or fs p.fields[j].source with ⟨i, hi⟩ | hi
  ·rw [um hn hi, xG hn hi, bS, bS]
   have hs : jm (fs[i]'hi.lt).type < 1000000000 := by
    have h1 := gL (List.getElem_mem hi.lt)
    have h2 := gq (fs[i]'hi.lt)
    omega
   obtain ⟨e, he, t1, t2⟩ := tt p.fields[j].transform (fs[i]'hi.lt).type hs
   rw [show decide ((i : Int) < 0) = false from by simp, iF, aZ hi.lt, bS, t1, bS]
   show ∃ c, _ ∧ al (!true) _ _ = _ ∧ _
   rw [Bool.not_true, iF]
   show ∃ c, _ ∧ aE (ji p.fields[j].transform (fs[i]'hi.lt).type) _ = _ ∧ _
   rw [t2, bS]
   by_cases hz : (Dj p.fields[j].transform (fs[i]'hi.lt).type e).2 = 0
   ·rw [hz, show ((0 : Int) != 0) = false from rfl, iF, iF, gP ⟨by omega, by omega, by omega⟩]
    have hd : (List.take ((j : Int).toNat - (0 : Int).toNat) (List.drop (0 : Int).toNat p.fields)) = p.fields.take j := by simp
    rw [hd, NV (by rw [List.length_take]; omega), bS]
    have hr := QU hp (lg p fs q) j (by omega) p.fields[j] j bq 0 (by omega) (by rw [Ap]; omega)
    rw [show ((0 : Nat) : Int) = 0 from rfl, List.drop_zero] at hr
    rw [hr]
    cases hb : (p.fields.take j).any (zM p.fields[j]) with
    | true => exact ⟨5, rfl, rfl, fun h => absurd h (by decide)⟩
    | false =>
     obtain ⟨c, c1, c2, c3⟩ := ih q (j + 1) (by omega) (by omega)
     refine ⟨c, by rw [iF, aK hj hp]; exact c1, by
      rw [if_neg (by decide)]
      unfold sq
      rw [aK hj hp]; exact c2, fun hc k hk hjk => ?_⟩
     by_cases e : k = j
     ·subst e; exact ⟨i, hi⟩
     ·exact c3 hc k hk (by omega)
   ·have hne : ((Dj p.fields[j].transform (fs[i]'hi.lt).type e).2 != 0) = true := bne_iff_ne.2 hz
    rw [hne, iT, iT]
    exact ⟨_, rfl, rfl, fun h => absurd h hz⟩
  ·obtain ⟨g, hg⟩ := yj hn hi
   rw [uK hn hi, hg, bS, bS, show decide ((-1 : Int) < 0) = true from rfl, iT]
   exact ⟨9, rfl, rfl, fun h => absurd h (by decide)⟩
theorem J2 (p : cN) {fs : List ab} (hp : p.fields.length < 1000000000) (hf : d8 fs < 1000000000) : ∃ c, nR p fs = some c ∧ wQ p fs = some c ∧ (c = 0 → ∀ (k : Nat) (h : k < p.fields.length), ∃ i, Ki fs p.fields[k].source i) := by
 unfold nR wQ
 cases hb : decide ((4 : Int) < (p.fields.length : Int)) with
 | true => exact ⟨7, rfl, rfl, fun h => absurd h (by decide)⟩
 | false =>
  rw [iF, iF]
  obtain ⟨c, h1, h2, h3⟩ := EQ (p := p) hp hf p.fields.length bq 0 (by omega) (by rw [Ap]; omega)
  exact ⟨c, h1, h2, fun hc k hk => h3 hc k hk (Nat.zero_le _)⟩
end Go.Proofs.YtfnmbpecdjncfaaGreatDoor
namespace Go.Proofs.YtfnmbpecdjncfaaGreatDoor
open Go Go.SX Go.SX.Cal
def ee (e : Int) (f : Option Int) : Option Int := if e ≠ 0 then some e else f
def mO (a b : Int) : Int := if a ≠ 0 then a else b
def er (b : Bool) (e : Int) : Int := if b then e else 0
theorem lK (e : Int) (f : Option Int) : al (e != (0 : Int)) (some e) f = ee e f := by
 unfold ee; by_cases h : e = 0 <;> simp [h, aP]
theorem jp {b : Bool} {e : Int} (he : e ≠ 0) (f : Option Int) : al b (some e) f = ee (er b e) f := by
 unfold ee er; cases b <;> simp [he, aP]
theorem ei (a b : Int) (f : Option Int) : ee a (ee b f) = ee (mO a b) f := by
 unfold ee mO; by_cases h : a = 0 <;> simp [h]
theorem jP (a : Int) : ee a (some 0) = some a := by unfold ee; by_cases h : a = 0 <;> simp [h]
theorem CB (a b : Int) : ee a (some b) = some (mO a b) := by unfold ee mO; by_cases h : a = 0 <;> simp [h]
theorem nc {a b : Int} : mO a b = 0 ↔ a = 0 ∧ b = 0 := by unfold mO; by_cases h : a = 0 <;> simp [h]
theorem By {b : Bool} {e : Int} (he : e ≠ 0) : er b e = 0 ↔ b = false := by unfold er; cases b <;> simp [he]
theorem JL (e : Int) : er false e = 0 := rfl
theorem H8 (b : Int) : mO 0 b = b := rfl
theorem JB {a : Int} (h : a ≠ 0) (b : Int) : mO a b = a := by unfold mO; rw [if_pos h]
def fe (c : Nat → Int) : Nat → Nat → Int
 | 0, _ => 0
 | m + 1, i => mO (c i) (fe c m (i + 1))
theorem Jt {c : Nat → Int} : ∀ {m i : Nat}, fe c m i = 0 ↔ ∀ j, i ≤ j → j < i + m → c j = 0
 | 0, i => by simp [fe]; intro j h1 h2; omega
 | m + 1, i => by
  rw [fe, nc, Jt (m := m)]
  constructor
  ·rintro ⟨h1, h2⟩ j h3 h4
   by_cases e : j = i
   ·subst e; exact h1
   ·exact h2 j (by omega) (by omega)
  ·exact fun h => ⟨h i (Nat.le_refl _) (by omega), fun j h1 h2 => h j (by omega) (by omega)⟩
theorem FH {n : Nat} {L : Nat → Int → Option Int} {fin : Option Int} {c : Nat → Int} (h0 : ∀ k, L (k + 1) (n : Int) = fin) (h1 : ∀ k i, i < n → L (k + 1) (i : Int) = ee (c i) (L k ((i + 1 : Nat) : Int))) :
  ∀ m k i, i + m = n → m < k → L k (i : Int) = ee (fe c m i) fin
 | 0, k, i, hi, hk => by
  obtain ⟨k, rfl⟩ := fu hk
  have : i = n := by omega
  subst this
  rw [h0]; rfl
 | m + 1, k, i, hi, hk => by
  obtain ⟨k, rfl⟩ := fu hk
  rw [h1 k i (by omega), FH h0 h1 m k (i + 1) (by omega) (by omega), ei]; rfl
theorem pT {n : Nat} {L : Nat → Int → Option Int} {fin : Option Int} {c : Nat → Int} (hn : n < 1000000000) (h0 : ∀ k, L (k + 1) (n : Int) = fin) (h1 : ∀ k i, i < n → L (k + 1) (i : Int) = ee (c i) (L k ((i + 1 : Nat) : Int))) :
  L bq (0 : Int) = ee (fe c n 0) fin :=
 FH h0 h1 n bq 0 (by omega) (by rw [bl]; omega)
def kP (p : Nat → Bool) (n : Nat) : Bool := (List.range n).any p
theorem eO {p : Nat → Bool} {n : Nat} : kP p n = true ↔ ∃ j, j < n ∧ p j = true := by
 unfold kP; rw [List.any_eq_true]; simp [List.mem_range]
theorem w8 (n : Nat) : decide ((n : Int) < (n : Int)) = false := by simp
theorem mL {a b : Bool} (h : a = true ↔ b = true) : a = b := Bool.eq_iff_iff.2 h
theorem DR {n : Nat} {L : Nat → Int → Option Int} {p : Nat → Bool} (h0 : ∀ k, L (k + 1) (n : Int) = some (-1)) (h1 : ∀ k i, i < n → L (k + 1) (i : Int) = al (p i) (some (i : Int)) (L k ((i + 1 : Nat) : Int))) :
  ∀ m k i, i + m = n → m < k → ∃ r, L k (i : Int) = some r ∧ (decide ((0 : Int) ≤ r) = true ↔ ∃ j, i ≤ j ∧ j < n ∧ p j = true)
 | 0, k, i, hi, hk => by
  obtain ⟨k, rfl⟩ := fu hk
  have : i = n := by omega
  subst this
  exact ⟨-1, h0 k, by simp; intro j h1 h2; omega⟩
 | m + 1, k, i, hi, hk => by
  obtain ⟨k, rfl⟩ := fu hk
  rw [h1 k i (by omega)]
  cases hp : p i with
  | true => exact ⟨i, rfl, by simp; exact ⟨i, Nat.le_refl _, by omega, hp⟩⟩
  | false =>
   obtain ⟨r, e1, e2⟩ := DR h0 h1 m k (i + 1) (by omega) (by omega)
   refine ⟨r, e1, e2.trans ⟨fun ⟨j, a, b, c⟩ => ⟨j, by omega, b, c⟩, fun ⟨j, a, b, c⟩ => ⟨j, ?_, b, c⟩⟩⟩
   by_cases e : j = i
   ·subst e; rw [hp] at c; cases c
   ·omega
theorem zU {n : Nat} {L : Nat → Int → Option Int} {p : Nat → Bool} (hn : n < 1000000000) (h0 : ∀ k, L (k + 1) (n : Int) = some (-1)) (h1 : ∀ k i, i < n → L (k + 1) (i : Int) = al (p i) (some (i : Int)) (L k ((i + 1 : Nat) : Int))) :
  ∃ r, L bq (0 : Int) = some r ∧ decide ((0 : Int) ≤ r) = kP p n := by
 obtain ⟨r, e1, e2⟩ := DR h0 h1 n bq 0 (by omega) (by rw [bl]; omega)
 refine ⟨r, e1, mL (e2.trans (Iff.trans ?_ eO.symm))⟩
 exact ⟨fun ⟨j, _, b, c⟩ => ⟨j, b, c⟩, fun ⟨j, b, c⟩ => ⟨j, Nat.zero_le _, b, c⟩⟩
theorem D4 {n : Nat} {L : Nat → Int → Option Bool} {p : Nat → Bool} (h0 : ∀ k, L (k + 1) (n : Int) = some true) (h1 : ∀ k i, i < n → L (k + 1) (i : Int) = al (p i) (some false) (L k ((i + 1 : Nat) : Int))) :
  ∀ m k i, i + m = n → m < k → ∃ b, L k (i : Int) = some b ∧ (b = true ↔ ∀ j, i ≤ j → j < n → p j = false)
 | 0, k, i, hi, hk => by
  obtain ⟨k, rfl⟩ := fu hk
  have : i = n := by omega
  subst this
  exact ⟨true, h0 k, by simp; intro j h1 h2; omega⟩
 | m + 1, k, i, hi, hk => by
  obtain ⟨k, rfl⟩ := fu hk
  rw [h1 k i (by omega)]
  cases hp : p i with
  | true =>
   refine ⟨false, rfl, by simp; exact ⟨i, Nat.le_refl _, by omega, hp⟩⟩
  | false =>
   obtain ⟨b, e1, e2⟩ := D4 h0 h1 m k (i + 1) (by omega) (by omega)
   refine ⟨b, e1, e2.trans ⟨fun h j a b => ?_, fun h j a b => h j (by omega) b⟩⟩
   by_cases e : j = i
   ·subst e; exact hp
   ·exact h j (by omega) b
def Ex (p : Nat → Bool) (n : Nat) : Bool := !kP p n
theorem DZ {p : Nat → Bool} {n : Nat} : Ex p n = true ↔ ∀ j, j < n → p j = false := by
 unfold Ex
 rw [Bool.not_eq_true', ← Bool.not_eq_true, eO]
 constructor
 ·intro h j b
  cases hp : p j with
  | false => rfl
  | true => exact absurd ⟨j, b, hp⟩ h
 ·rintro h ⟨j, b, c⟩
  rw [h j b] at c; cases c
theorem yr {n : Nat} {L : Nat → Int → Option Bool} {p : Nat → Bool} (hn : n < 1000000000) (h0 : ∀ k, L (k + 1) (n : Int) = some true) (h1 : ∀ k i, i < n → L (k + 1) (i : Int) = al (p i) (some false) (L k ((i + 1 : Nat) : Int))) :
  L bq (0 : Int) = some (Ex p n) := by
 obtain ⟨b, e1, e2⟩ := D4 h0 h1 n bq 0 (by omega) (by rw [bl]; omega)
 rw [show ((0 : Nat) : Int) = 0 from rfl] at e1
 rw [e1]
 congr 1
 refine mL (e2.trans (Iff.trans ?_ DZ.symm))
 exact ⟨fun h j b => h j (Nat.zero_le _) b, fun h j _ b => h j b⟩
theorem tg {α : Type} {xs : List α} {i : Nat} (h : i < xs.length) (h0 : 0 < i) (hn : xs.length < 1000000000) : at? xs (IntKind.i64.wrap ((i : Int) - 1)) = some (xs[i - 1]'(by omega)) := by
 rw [zQ (by omega) (by omega), show ((i : Int) - 1) = ((i - 1 : Nat) : Int) by omega]
 exact aZ (by omega)
theorem oK {n : Nat} (hn : n < 1000000000) : IntKind.i64.wrap ((n : Int) - 1) = (n : Int) - 1 := zQ (by omega) (by omega)
end Go.Proofs.YtfnmbpecdjncfaaGreatDoor
namespace Go.Proofs.YtfnmbpecdjncfaaGreatDoor
open Go Go.SX Go.SX.Cal Go.Lib
def rz : ByteArray := ByteArray.mk #[95, 45, 46, 47]
def EW (n : Nat) : Bool := n == 95 || n == 45 || n == 46 || n == 47
def EE (n : Nat) : Bool := oB n || (decide (48 ≤ n) && decide (n ≤ 57)) || EW n
theorem MM : ∀ n : Fin 128, decide (Lib.indexByte [95, 45, 46, 47] (n.val : Int).toNat.toUInt8 < 0) = !EW n.val := by decide
theorem En : ∀ (l : List UInt8) (c : UInt8), (∀ b ∈ l, b ≠ c) → Lib.indexByte l c = -1
 | [], _, _ => rfl
 | b :: l, c, h => by
  have h1 : (b == c) = false := by simp [h b (by simp)]
  rw [Lib.indexByte, h1, if_neg (by decide), En l c fun x hx => h x (by simp [hx])]
  rfl
theorem Jk (n : Nat) : iQ (n : Int) = some (Utf8.valid (n : Int)) := by
 unfold iQ gA gz Utf8.valid
 by_cases h1 : n < 55296
 ·have : (0 : Int) ≤ (n : Int) := by omega
  simp [aP, this, h1, show (n : Int) < 55296 by omega]
 ·by_cases h2 : 57344 ≤ n
  ·by_cases h3 : n ≤ 1114111
   ·simp [aP, show ¬ (n : Int) < 55296 by omega, show (57343 : Int) < n by omega, show (n : Int) ≤ 1114111 by omega, show (57344 : Int) ≤ n by omega]
   ·simp [aP, show ¬ (n : Int) < 55296 by omega, show (57343 : Int) < n by omega, show ¬ (n : Int) ≤ 1114111 by omega]
  ·simp [aP, show ¬ (n : Int) < 55296 by omega, show ¬ (57343 : Int) < n by omega, show ¬ (57344 : Int) ≤ n by omega]
theorem G7 : ∀ b ∈ rz.data.toList, b.toNat < 128 := by decide
theorem Nm (b : ByteArray) (i : Nat) (h : i < b.size) : b.data.toList.getD i 0 = b[i]'h := by
 have hd : i < b.data.toList.length := by rw [Array.length_toList]; exact h
 rw [List.getD_eq_getElem?_getD, List.getElem?_eq_getElem hd]
 rfl
theorem Ku (E : ByteArray) (n k : Nat) (z : Nat) (hz : E.size = z) (f1 : 2 ≤ z) (f2 : z ≤ 4) (f4 : 128 ≤ (E.data.toList.getD (z - 1) 0).toNat) (he : Utf8.encode (n : Int) = E) : eJ rz (n : Int) (k + 1) = some (-1) := by
 rw [eJ.eq_2, he]
 clear he
 have hw : IntKind.i64.wrap ((z : Int) - 1) = ((z - 1 : Nat) : Int) := by rw [zQ (by omega) (by omega)]; omega
 have hin : ∀ j, j < 4 → (rz.data.toList.getD j 0).toNat < 128 := by decide
 simp only [hz, hw]
 rw [bS, decide_eq_true (show ((z - 1 : Nat) : Int) < (rz.size : Int) by show _ < (4 : Int); omega), iT, gP ⟨by omega, by show _ < (4 : Int); omega⟩, bS, gP ⟨by omega, by omega⟩, bS]
 have ht : ((z - 1 : Nat) : Int).toNat = z - 1 := by omega
 rw [ht]
 have hne : (((rz.data.toList.getD (z - 1) 0).toNat : Int) != ((E.data.toList.getD (z - 1) 0).toNat : Int)) = true := by
  have a := hin (z - 1) (by omega)
  rw [bne_iff_ne]; omega
 rw [hne, iT]
 have hw2 : IntKind.i64.wrap (((z - 1 : Nat) : Int) + 1) = (z : Int) := by rw [zQ (by omega) (by omega)]; omega
 rw [bS, hw2, gP ⟨by omega, by show _ ≤ (4 : Int); omega, Int.le_refl _⟩, gP ⟨by omega, by omega⟩, bS]
 unfold strings_IndexByte
 rw [En _ _ fun b hb e => ?_]
 ·rfl
 ·have hb' : b ∈ rz.data.toList := by
   have : b ∈ (rz.extract z 4).data.toList := hb
   rw [ByteArray.data_extract, Array.toList_extract] at this
   exact List.mem_of_mem_drop (List.mem_of_mem_take this)
  have h1 := G7 b hb'
  have h2 : ((E.data.toList.getD (z - 1) 0).toNat : Int).toNat.toUInt8 = E.data.toList.getD (z - 1) 0 := by
   rw [Int.toNat_natCast]; simp
  rw [h2] at e
  rw [e] at h1
  omega
theorem M4 (n k : Nat) (h : 128 ≤ n) (hv : Utf8.valid (n : Int) = true) : eJ rz (n : Int) (k + 1) = some (-1) := by
 obtain ⟨f1, f2, f3⟩ := encode_facts (n : Int) hv (by omega)
 have f3 := f3 (by omega)
 obtain ⟨z, hz⟩ : ∃ z, (Utf8.encode (n : Int)).size = z := ⟨_, rfl⟩
 have f4 : 128 ≤ ((Utf8.encode (n : Int)).data.toList.getD (z - 1) 0).toNat := by
  subst hz
  rw [Nm _ _ (by omega)]
  exact f3
 rw [hz] at f1 f2
 exact Ku _ n k z hz f1 f2 f4 rfl
theorem M5 (n : Nat) (h : 128 ≤ n) : dT rz (n : Int) = some (-1) := by
 unfold dT ik
 rw [decide_eq_true (show (0 : Int) ≤ n by omega), iT, decide_eq_false (show ¬ (n : Int) < 128 by omega), iF]
 by_cases h1 : n = 65533
 ·subst h1
  rw [show (((65533 : Nat) : Int) == 65533) = true from rfl, iT]
  show fM rz (1152921504606846971 + 5) 0 = _
  generalize 1152921504606846971 = k
  rfl
 ·rw [show ((n : Int) == 65533) = false by simp; omega, iF, Jk, bS]
  cases hv : Utf8.valid (n : Int) with
  | false => rfl
  | true =>
   rw [Bool.not_true, iF, Ap]
   exact M4 n _ h hv
theorem MI (n : Nat) : ∃ r, dT rz (n : Int) = some r ∧ decide (r < 0) = !EW n := by
 by_cases h : n < 128
 ·unfold dT ik strings_IndexByte
  rw [decide_eq_true (show (0 : Int) ≤ n by omega), iT, decide_eq_true (show (n : Int) < 128 by omega), iT, bS]
  refine ⟨_, rfl, ?_⟩
  have hw : IntKind.u8.wrap (n : Int) = (n : Int) := by
   unfold IntKind.wrap
   simp [IntKind.bits, IntKind.signed]
   omega
  rw [hw]
  exact MM ⟨n, h⟩
 ·refine ⟨-1, M5 n (by omega), ?_⟩
  simp [EW]; omega
theorem Lj (n : Nat) : kN (Int.ofNat n) = some (!EE n) := by
 obtain ⟨r, h1, h2⟩ := MI n
 have h1 : dT (ByteArray.mk #[95, 45, 46, 47]) (Int.ofNat n) = some r := h1
 unfold kN cZ
 rw [h1]
 simp only [bS, h2, aP, decide_eq_true_eq, Int.ofNat_eq_natCast]
 generalize hs : EW n = s
 unfold EE oB
 rw [hs]
 repeat' split
 all_goals (rw [Option.some.injEq, Bool.eq_iff_iff]; cases s <;> simp <;> omega)
def EC (s : ByteArray) (i : Nat) : Bool := !EE (mJ s i)
theorem NZ (s : ByteArray) : ∀ k i, i ≤ s.size → s.size - i < k → ∃ r, bu s true k i = some r ∧ (decide (0 ≤ r) = (first (EC s) i s.size).isSome) := by
 intro k
 induction k with
 | zero => intro i _ h; omega
 | succ k ih =>
  intro i hi hk
  rw [bu]
  by_cases h : i = s.size
  ·subst h
   rw [oV]
   simp only [Nat.lt_irrefl, decide_false, aN]
   exact ⟨-1, rfl, rfl⟩
  ·have hlt : i < s.size := by omega
   simp only [hlt, decide_true, bb, Lj, bm]
   rw [oP hlt]
   by_cases hb : mJ s i < 128
   ·rw [yO s i hlt hb]
    simp only [EC]
    by_cases hg : EE (mJ s i) = true
    ·simp only [hg, Bool.not_true, aP]
     obtain ⟨r, h1, h2⟩ := ih (i + 1) (by omega) (by omega)
     exact ⟨r, by simpa using h1, by simpa [EC] using h2⟩
    ·simp only [hg, Bool.not_false, aP]
     exact ⟨_, rfl, by simp⟩
   ·have h1 := ze s i hlt hb
    have g1 : EE (Utf8.decode s i).1 = false := by
     generalize (Utf8.decode s i).1 = x at h1
     simp [EE, oB, EW]; omega
    have g2 : EC s i = true := by
     simp [EC, EE, oB, EW]; omega
    simp only [g1, g2, Bool.not_false, aP]
    exact ⟨_, rfl, by simp⟩
def JG (s : ByteArray) : Bool := decide (1 ≤ s.size) && decide (s.size ≤ 64) && (first (EC s) 0 s.size).isNone
theorem Qp (s : ByteArray) (hs : s.size < 1000000000) : mz s = some (JG s) := by
 obtain ⟨r, h1, h2⟩ := NZ s bq 0 (Nat.zero_le _) (by rw [bl]; omega)
 unfold mz kf dZ ez ew JG
 rw [h1, bS, bS, bS, h2]
 by_cases z0 : s.size < 1
 ·simp [aP, z0, show (s.size : Int) < 1 by omega]
  omega
 ·by_cases z1 : 64 < s.size
  ·simp [aP, z0, show ¬ (s.size : Int) < 1 by omega, show (64 : Int) < s.size by omega]
   omega
  ·simp only [aP, show ¬ (s.size : Int) < 1 by omega, show ¬ (64 : Int) < s.size by omega, decide_false, Bool.false_eq_true, if_false, show 1 ≤ s.size by omega, show s.size ≤ 64 by omega, decide_true, Bool.true_and]
   cases first (EC s) 0 s.size <;> rfl
end Go.Proofs.YtfnmbpecdjncfaaGreatDoor
namespace Go.Proofs.YtfnmbpecdjncfaaGreatDoor.Ord
open Go Go.SX Go.SX.Cal
theorem bb {β : Type} (x y : Option β) : al true x y = x := rfl
theorem aN {β : Type} (x y : Option β) : al false x y = y := rfl
theorem aP {β : Type} (b : Bool) (x y : Option β) : al b x y = if b = true then x else y := by cases b <;> rfl
theorem bl : bq = 1152921504606846976 := rfl
theorem wu {x : Int} : IntKind.u64.wrap x = x % 18446744073709551616 := by
 simp only [IntKind.wrap, IntKind.bits, IntKind.signed]
 simp
structure W4 (w : bW) : Prop where
 a0 : 0 ≤ w.size.1
 a1 : w.size.1 < 18446744073709551616
 b0 : 0 ≤ w.size.2.1
 b1 : w.size.2.1 < 18446744073709551616
 c0 : 0 ≤ w.size.2.2.1
 c1 : w.size.2.2.1 < 18446744073709551616
 d0 : 0 ≤ w.size.2.2.2
 d1 : w.size.2.2.2 < 18446744073709551616
def val (w : bW) : Int := w.size.1 + w.size.2.1 * 18446744073709551616 + w.size.2.2.1 * 340282366920938463463374607431768211456 + w.size.2.2.2 * 6277101735386680763835789423207666416102355444464034512896
theorem EO {x : Int} (h0 : 0 ≤ x) (h1 : x < 18446744073709551616) : ((BitVec.ofInt (IntKind.u64).bits x &&& BitVec.ofInt (IntKind.u64).bits (4294967295 : Int)).toNat : Int) = x % 4294967296 := by
 have e : (BitVec.ofInt 64 x).toNat = x.toNat := by
  rw [BitVec.toNat_ofInt]
  have : x % ((2 ^ 64 : Nat) : Int) = x := by omega
  rw [this]
 have hand : (BitVec.ofInt 64 x &&& BitVec.ofInt 64 (4294967295 : Int)).toNat = x.toNat % 4294967296 := by
  rw [BitVec.toNat_and, e]
  have : (BitVec.ofInt 64 (4294967295 : Int)).toNat = 2 ^ 32 - 1 := by decide
  rw [this, Nat.and_two_pow_sub_one_eq_mod]
 show ((BitVec.ofInt 64 x &&& BitVec.ofInt 64 (4294967295 : Int)).toNat : Int) = _
 rw [hand]
 omega
theorem QM (x : Int) : x.fdiv (2 ^ (min (32 : Int).toNat (IntKind.u64).bits)) = x / 4294967296 := by
 have : (2 : Int) ^ (min (32 : Int).toNat (IntKind.u64).bits) = 4294967296 := by decide
 rw [this, Int.fdiv_eq_ediv_of_nonneg _ (by decide)]
theorem HK {x : Int} (h0 : 0 ≤ x) (h1 : x < 18446744073709551616) : x % 18446744073709551616 = x := Int.emod_eq_of_lt h0 h1
theorem tH {a b : Int} (a0 : 0 ≤ a) (a1 : a < 4294967296) (b0 : 0 ≤ b) (b1 : b < 4294967296) : 0 ≤ a * b ∧ a * b ≤ 18446744065119617025 := by
 refine ⟨Int.mul_nonneg a0 b0, ?_⟩
 have h1 : a * b ≤ 4294967295 * b := Int.mul_le_mul_of_nonneg_right (by omega) b0
 omega
theorem Lb (p11 e9 p01 p00 : Int) (h11 : 0 ≤ p11 ∧ p11 ≤ 18446744065119617025) (h10 : 0 ≤ e9 ∧ e9 ≤ 18446744065119617025) (h01 : 0 ≤ p01 ∧ p01 ≤ 18446744065119617025) (h00 : 0 ≤ p00 ∧ p00 ≤ 18446744065119617025) :
  p11 + (e9 + p00 / 4294967296) / 4294967296 + ((e9 + p00 / 4294967296) % 4294967296 + p01) / 4294967296 = (p11 * 18446744073709551616 + (e9 + p01) * 4294967296 + p00) / 18446744073709551616 := by
 omega
theorem C1 {x y : Int} (h0 : 0 ≤ x) (h1 : x < 18446744073709551616) (k0 : 0 ≤ y) (k1 : y < 18446744073709551616) : iz x y = some (x * y / 18446744073709551616, x * y % 18446744073709551616) := by
 unfold iz
 simp only [bm, QM]
 rw [EO h0 h1, EO k0 k1]
 simp only [wu]
 have hx0 : 0 ≤ x % 4294967296 ∧ x % 4294967296 < 4294967296 := by omega
 have hx1 : 0 ≤ x / 4294967296 ∧ x / 4294967296 < 4294967296 := by omega
 have hy0 : 0 ≤ y % 4294967296 ∧ y % 4294967296 < 4294967296 := by omega
 have hy1 : 0 ≤ y / 4294967296 ∧ y / 4294967296 < 4294967296 := by omega
 have ex : x = x / 4294967296 * 4294967296 + x % 4294967296 := by omega
 have ey : y = y / 4294967296 * 4294967296 + y % 4294967296 := by omega
 have exy : x * y = (x / 4294967296 * (y / 4294967296)) * 18446744073709551616 + (x / 4294967296 * (y % 4294967296) + x % 4294967296 * (y / 4294967296)) * 4294967296 + x % 4294967296 * (y % 4294967296) := by
  generalize x / 4294967296 = x1 at *
  generalize x % 4294967296 = x0 at *
  generalize y / 4294967296 = y1 at *
  generalize y % 4294967296 = y0 at *
  rw [ex, ey]
  simp only [Int.add_mul, Int.mul_add]
  have e1 : x1 * 4294967296 * (y1 * 4294967296) = x1 * y1 * 18446744073709551616 := by
   rw [Int.mul_assoc, Int.mul_left_comm 4294967296 y1, ← Int.mul_assoc]; rfl
  have e2 : x1 * 4294967296 * y0 = x1 * y0 * 4294967296 := by rw [Int.mul_assoc, Int.mul_comm 4294967296, ← Int.mul_assoc]
  have e3 : x0 * (y1 * 4294967296) = x0 * y1 * 4294967296 := by rw [Int.mul_assoc]
  rw [e1, e2, e3]; omega
 have b11 := tH hx1.1 hx1.2 hy1.1 hy1.2
 have b10 := tH hx1.1 hx1.2 hy0.1 hy0.2
 have b01 := tH hx0.1 hx0.2 hy1.1 hy1.2
 have b00 := tH hx0.1 hx0.2 hy0.1 hy0.2
 rw [HK (x := x % 4294967296) (by omega) (by omega), HK (x := y % 4294967296) (by omega) (by omega)]
 have L := Lb _ _ _ _ b11 b10 b01 b00
 rw [exy]
 generalize x / 4294967296 * (y / 4294967296) = p11 at *
 generalize x / 4294967296 * (y % 4294967296) = e9 at *
 generalize x % 4294967296 * (y / 4294967296) = p01 at *
 generalize x % 4294967296 * (y % 4294967296) = p00 at *
 rw [HK (x := e9) (by omega) (by omega), HK (x := p00) (by omega) (by omega), HK (x := p01) (by omega) (by omega), HK (x := p11) (by omega) (by omega), HK (x := e9 + p00 / 4294967296) (by omega) (by omega)]
 rw [EO (x := e9 + p00 / 4294967296) (by omega) (by omega)]
 rw [HK (x := (e9 + p00 / 4294967296) % 4294967296) (by omega) (by omega), HK (x := (e9 + p00 / 4294967296) % 4294967296 + p01) (by omega) (by omega)]
 rw [HK (x := p11 + (e9 + p00 / 4294967296) / 4294967296) (by omega) (by omega), HK (x := p11 + (e9 + p00 / 4294967296) / 4294967296 + ((e9 + p00 / 4294967296) % 4294967296 + p01) / 4294967296) (by omega) (by omega), L]
theorem vU {x n c : Int} (h0 : 0 ≤ x) (h1 : x < 18446744073709551616) (n0 : 0 ≤ n) (n1 : n < 18446744073709551616) (c0 : 0 ≤ c) (c1 : c < 18446744073709551616) :
  (x * n / 18446744073709551616 + (x * n % 18446744073709551616 + c) / 18446744073709551616) % 18446744073709551616 = (x * n + c) / 18446744073709551616 ∧ (x * n % 18446744073709551616 + c) % 18446744073709551616 = (x * n + c) % 18446744073709551616 ∧ 0 ≤ (x * n + c) / 18446744073709551616 ∧ (x * n + c) / 18446744073709551616 < 18446744073709551616 := by
 have hp : 0 ≤ x * n := Int.mul_nonneg h0 n0
 have hq : x * n ≤ 18446744073709551615 * n := Int.mul_le_mul_of_nonneg_right (by omega) n0
 have hq2 : (18446744073709551615 : Int) * n ≤ 18446744073709551615 * 18446744073709551615 := Int.mul_le_mul_of_nonneg_left (by omega) (by decide)
 have hb : x * n ≤ 340282366920938463426481119284349108225 := by
  refine Int.le_trans hq (Int.le_trans hq2 (by decide))
 generalize x * n = p at *
 omega
theorem J5 {w : bW} {n : Int} (h : W4 w) (n0 : 0 ≤ n) (n1 : n < 18446744073709551616) (hv : val w * n < 115792089237316195423570985008687907853269984665640564039457584007913129639936) :
  ∃ w', mA w n = some w' ∧ W4 w' ∧ val w' = val w * n ∧ w'.neg = w.neg := by
 obtain ⟨neg, x0, x1, x2, x3⟩ := w
 obtain ⟨a0, a1, b0, b1, c0, c1, d0, d1⟩ := h
 simp only at a0 a1 b0 b1 c0 c1 d0 d1
 unfold mA
 simp only
 rw [C1 a0 a1 n0 n1, C1 b0 b1 n0 n1, C1 c0 c1 n0 n1, C1 d0 d1 n0 n1]
 simp only [bm, wu]
 have hval : val ⟨neg, x0, x1, x2, x3⟩ * n = x0 * n + x1 * n * 18446744073709551616 + x2 * n * 340282366920938463463374607431768211456 + x3 * n * 6277101735386680763835789423207666416102355444464034512896 := by
  unfold val
  simp only [Int.add_mul]
  rw [Int.mul_right_comm x1, Int.mul_right_comm x2, Int.mul_right_comm x3]
 rw [hval] at hv ⊢
 obtain ⟨p1, p2, p3, p4⟩ := vU (c := 0) a0 a1 n0 n1 (by decide) (by decide)
 simp only [Int.add_zero] at p1 p2 p3 p4 ⊢
 rw [p1, p2]
 generalize hc1 : x0 * n / 18446744073709551616 = k1 at *
 obtain ⟨q1, q2, q3, q4⟩ := vU (c := k1) b0 b1 n0 n1 p3 p4
 rw [q1, q2]
 generalize hc2 : (x1 * n + k1) / 18446744073709551616 = k2 at *
 obtain ⟨r1, r2, r3, r4⟩ := vU (c := k2) c0 c1 n0 n1 q3 q4
 rw [r1, r2]
 generalize hc3 : (x2 * n + k2) / 18446744073709551616 = k3 at *
 obtain ⟨s1, s2, s3, s4⟩ := vU (c := k3) d0 d1 n0 n1 r3 r4
 rw [s2]
 have e0 := Int.mul_nonneg a0 n0
 have e1 := Int.mul_nonneg b0 n0
 have e2 := Int.mul_nonneg c0 n0
 have e3 := Int.mul_nonneg d0 n0
 clear p1 p2 q1 q2 r1 r2 s1 s2
 generalize x0 * n = P0 at *
 generalize x1 * n = P1 at *
 generalize x2 * n = P2 at *
 generalize x3 * n = P3 at *
 rw [jn (by omega), jn (by omega), jn (by omega), jn (by omega)]
 refine ⟨_, rfl, ⟨by simp only; omega, by simp only; omega, by simp only; omega, by simp only; omega, by simp only; omega, by simp only; omega, by simp only; omega, by simp only; omega⟩, ?_, rfl⟩
 simp only [val]
 have f0 : P0 = k1 * 18446744073709551616 + P0 % 18446744073709551616 := by omega
 have f1 : P1 + k1 = k2 * 18446744073709551616 + (P1 + k1) % 18446744073709551616 := by omega
 have f2 : P2 + k2 = k3 * 18446744073709551616 + (P2 + k2) % 18446744073709551616 := by omega
 have f3 : P3 + k3 = (P3 + k3) / 18446744073709551616 * 18446744073709551616 + (P3 + k3) % 18446744073709551616 := by omega
 have z : (P3 + k3) / 18446744073709551616 = 0 := by
  generalize P0 % 18446744073709551616 = m0 at *
  generalize (P1 + k1) % 18446744073709551616 = m1 at *
  generalize (P2 + k2) % 18446744073709551616 = m2 at *
  omega
 rw [z] at f3
 generalize P0 % 18446744073709551616 = m0 at *
 generalize (P1 + k1) % 18446744073709551616 = m1 at *
 generalize (P2 + k2) % 18446744073709551616 = m2 at *
 generalize (P3 + k3) % 18446744073709551616 = m3 at *
 omega
def e9 : Nat → Int
 | 0 => 1
 | k + 1 => e9 k * 10
theorem vE : ∀ k, 1 ≤ e9 k
 | 0 => by decide
 | k + 1 => by have := vE k; simp only [e9]; omega
theorem CA {d : Int} (hd : d ≤ 100) : ∀ (j k : Nat) (neg : Bool) (x0 x1 x2 x3 : Int) (i : Int), W4 ⟨neg, x0, x1, x2, x3⟩ → val ⟨neg, x0, x1, x2, x3⟩ * e9 j < 115792089237316195423570985008687907853269984665640564039457584007913129639936 → 0 ≤ val ⟨neg, x0, x1, x2, x3⟩ → 0 ≤ i → i + j = d → j < k →
  ∃ w', cX d k neg x0 x1 x2 x3 i = some w' ∧ W4 w' ∧ val w' = val ⟨neg, x0, x1, x2, x3⟩ * e9 j ∧ w'.neg = neg := by
 intro j
 induction j with
 | zero =>
  intro k neg x0 x1 x2 x3 i hw hv hv0 hi hij hk
  match k, hk with
  | k + 1, hk =>
   rw [cX, show decide (i < d) = false by simp; omega, aN]
   exact ⟨_, rfl, hw, by simp [e9], rfl⟩
 | succ j ih =>
  intro k neg x0 x1 x2 x3 i hw hv hv0 hi hij hk
  match k, hk with
  | k + 1, hk =>
   rw [cX, show decide (i < d) = true by simp; omega, bb]
   have hp := vE j
   have hstep : val ⟨neg, x0, x1, x2, x3⟩ * e9 (j + 1) = val ⟨neg, x0, x1, x2, x3⟩ * 10 * e9 j := by
    simp only [e9]; rw [Int.mul_comm (e9 j) 10, Int.mul_assoc]
   have hle : val ⟨neg, x0, x1, x2, x3⟩ * 10 * 1 ≤ val ⟨neg, x0, x1, x2, x3⟩ * 10 * e9 j := Int.mul_le_mul_of_nonneg_left hp (by omega)
   obtain ⟨w1, h1, h2, h3, h4⟩ := J5 hw (show (0 : Int) ≤ 10 by decide) (by decide) (by rw [hstep] at hv; omega)
   rw [h1]
   simp only [bm]
   obtain ⟨n1, y0, y1, y2, y3⟩ := w1
   simp only at h4 ⊢
   subst h4
   rw [zQ (by omega) (by omega)]
   obtain ⟨w2, g1, g2, g3, g4⟩ := ih k n1 y0 y1 y2 y3 (i + 1) h2 (by rw [h3, ← hstep]; exact hv) (by rw [h3]; omega) (by omega) (by omega) (by omega)
   exact ⟨w2, g1, g2, by rw [g3, h3, hstep], g4⟩
theorem Bw {n d : Int} (h1 : -9223372036854775808 ≤ n) (h2 : n ≤ 9223372036854775807) (d0 : 0 ≤ d) (d1 : d ≤ 12) :
  ∃ w, mn n d = some w ∧ W4 w ∧ val w = (if n < 0 then -n else n) * e9 d.toNat ∧ w.neg = decide (n < 0) ∧ val w < 57896044618658097711785492504343953926634992332820282019728792003956564819968 := by
 have hp : e9 d.toNat ≤ 1000000000000 := by
  have hc : d = 0 ∨ d = 1 ∨ d = 2 ∨ d = 3 ∨ d = 4 ∨ d = 5 ∨ d = 6 ∨ d = 7 ∨ d = 8 ∨ d = 9 ∨ d = 10 ∨ d = 11 ∨ d = 12 := by omega
  rcases hc with rfl | rfl | rfl | rfl | rfl | rfl | rfl | rfl | rfl | rfl | rfl | rfl | rfl <;> decide
 have hp1 := vE d.toNat
 have key : ∀ (neg : Bool) (a : Int), 0 ≤ a → a ≤ 9223372036854775808 → ∃ w, gM ⟨neg, a, 0, 0, 0⟩ d = some w ∧ W4 w ∧ val w = a * e9 d.toNat ∧ w.neg = neg ∧ val w < 57896044618658097711785492504343953926634992332820282019728792003956564819968 := by
  intro neg a a0 a1
  have hv : val ⟨neg, a, 0, 0, 0⟩ = a := by simp [val]
  have hb : a * e9 d.toNat ≤ 9223372036854775808 * 1000000000000 := by
   refine Int.le_trans (Int.mul_le_mul_of_nonneg_right a1 (by omega)) (Int.mul_le_mul_of_nonneg_left hp (by decide))
  have hb2 : a * e9 d.toNat ≤ 9223372036854775808000000000000 := Int.le_trans hb (by decide)
  unfold gM
  obtain ⟨w, g1, g2, g3, g4⟩ := CA (d := d) (by omega) d.toNat bq neg a 0 0 0 0 ⟨a0, by simp only; omega, by simp, by simp, by simp, by simp, by simp, by simp⟩ (by rw [hv]; omega) (by rw [hv]; exact a0) (by decide) (by omega) (by rw [bl]; omega)
  exact ⟨w, g1, g2, by rw [g3, hv], g4, by rw [g3, hv]; omega⟩
 unfold mn nP
 by_cases hn : n < 0
 ·rw [show decide (n < 0) = true by simpa using hn, bb]
  simp only [bm, wu]
  have e : (0 - n % 18446744073709551616) % 18446744073709551616 = -n := by omega
  rw [e]
  obtain ⟨w, g1, g2, g3, g4, g5⟩ := key true (-n) (by omega) (by omega)
  rw [g1]
  simp only [bm]
  exact ⟨_, rfl, g2, by rw [if_pos hn]; exact g3, g4, g5⟩
 ·rw [show decide (n < 0) = false by simpa using hn, aN]
  simp only [bm, wu]
  rw [HK (by omega) (by omega)]
  obtain ⟨w, g1, g2, g3, g4, g5⟩ := key false n (by omega) (by omega)
  rw [g1]
  simp only [bm]
  exact ⟨_, rfl, g2, by rw [if_neg hn]; exact g3, g4, g5⟩
end Go.Proofs.YtfnmbpecdjncfaaGreatDoor.Ord
namespace Go.Proofs.YtfnmbpecdjncfaaGreatDoor.Ord
open Go Go.SX Go.SX.Cal
def c3 (a b : Int) : Int := if a < b then -1 else if b < a then 1 else 0
def sv (w : bW) : Int := if w.neg = true then -val w else val w
theorem Jp {a b : bW} (ha : W4 a) (hb : W4 b) : lB a b = some (c3 (val a) (val b)) := by
 obtain ⟨n, x0, x1, x2, x3⟩ := a
 obtain ⟨m, y0, y1, y2, y3⟩ := b
 obtain ⟨a0, a1, b0, b1, c0, c1, d0, d1⟩ := ha
 obtain ⟨e0, e1, f0, f1, g0, g1, h0, h1⟩ := hb
 simp only at *
 unfold lB
 simp only [aP, decide_eq_true_eq]
 unfold c3 val
 simp only
 by_cases q3 : x3 < y3
 ·rw [if_pos q3, if_pos (by omega)]
 rw [if_neg q3]
 by_cases q3' : y3 < x3
 ·rw [if_pos q3', if_neg (by omega), if_pos (by omega)]
 rw [if_neg q3']
 by_cases q2 : x2 < y2
 ·rw [if_pos q2, if_pos (by omega)]
 rw [if_neg q2]
 by_cases q2' : y2 < x2
 ·rw [if_pos q2', if_neg (by omega), if_pos (by omega)]
 rw [if_neg q2']
 by_cases q1 : x1 < y1
 ·rw [if_pos q1, if_pos (by omega)]
 rw [if_neg q1]
 by_cases q1' : y1 < x1
 ·rw [if_pos q1', if_neg (by omega), if_pos (by omega)]
 rw [if_neg q1']
 by_cases q0 : x0 < y0
 ·rw [if_pos q0, if_pos (by omega)]
 rw [if_neg q0]
 by_cases q0' : y0 < x0
 ·rw [if_pos q0', if_neg (by omega), if_pos (by omega)]
 rw [if_neg q0', if_neg (by omega), if_neg (by omega)]
def qn (w : bW) : Prop := w.size.1 = 0 ∧ w.size.2.1 = 0 ∧ w.size.2.2.1 = 0 ∧ w.size.2.2.2 = 0
instance (w : bW) : Decidable (qn w) := by unfold qn; infer_instance
theorem GM (n m : Bool) (h : ¬ n = m) : (!(n == m)) = true ∧ (!m) = n := by revert h; cases n <;> cases m <;> simp
theorem KG (w : bW) : nr w = some (decide (qn w)) := by
 unfold nr qn
 simp only [bm]
 congr 1
 by_cases h1 : w.size.1 = 0 <;> by_cases h2 : w.size.2.1 = 0 <;> by_cases h3 : w.size.2.2.1 = 0 <;> by_cases h4 : w.size.2.2.2 = 0 <;> simp [h1, h2, h3, h4]
theorem FO {b1 b6 : Bool} {x0 x1 x2 x3 y0 y1 y2 y3 : Int} (ha : W4 ⟨b1, x0, x1, x2, x3⟩) (hb : W4 ⟨b6, y0, y1, y2, y3⟩) :
  ∃ w, iN b1 x0 x1 x2 x3 b6 y0 y1 y2 y3 = some w ∧ w.neg = b1 ∧ (qn w ↔ val ⟨b1, x0, x1, x2, x3⟩ = val ⟨b6, y0, y1, y2, y3⟩) := by
 obtain ⟨a0, a1, b0, b1', c0, c1, d0, d1⟩ := ha
 obtain ⟨e0, e1, f0, f1, g0, g1, h0, h1⟩ := hb
 simp only at *
 unfold iN
 simp only [bm, Int.add_zero, Int.sub_zero]
 have hk : ∀ (p : Prop) [Decidable p], 0 ≤ (if p then (1 : Int) else 0) ∧ (if p then (1 : Int) else 0) ≤ 1 := by
  intro p _; split <;> omega
 have k1 := hk (x0 < y0)
 have e0' : (if x0 < y0 then (1 : Int) else 0) = 0 ↔ ¬ x0 < y0 := by split <;> simp_all
 generalize (if x0 < y0 then (1 : Int) else 0) = u1 at *
 have k2 := hk (x1 < y1 + u1)
 have e1' : (if x1 < y1 + u1 then (1 : Int) else 0) = 0 ↔ ¬ x1 < y1 + u1 := by split <;> simp_all
 generalize (if x1 < y1 + u1 then (1 : Int) else 0) = u2 at *
 have k3 := hk (x2 < y2 + u2)
 have e2' : (if x2 < y2 + u2 then (1 : Int) else 0) = 0 ↔ ¬ x2 < y2 + u2 := by split <;> simp_all
 generalize (if x2 < y2 + u2 then (1 : Int) else 0) = u3 at *
 rw [jn (by omega), jn (by omega), jn (by omega), jn (by omega)]
 refine ⟨_, rfl, rfl, ?_⟩
 simp only [qn, val]
 constructor
 ·rintro ⟨z0, z1, z2, z3⟩
  have q0 : x0 = y0 := by omega
  have q1 : u1 = 0 := by rw [e0']; omega
  have q2 : x1 = y1 := by omega
  have q3 : u2 = 0 := by rw [e1']; omega
  have q4 : x2 = y2 := by omega
  have q5 : u3 = 0 := by rw [e2']; omega
  have q6 : x3 = y3 := by omega
  omega
 ·intro hv
  have q3 : x3 = y3 := by omega
  have q2 : x2 = y2 := by omega
  have q1 : x1 = y1 := by omega
  have q0 : x0 = y0 := by omega
  have r1 : u1 = 0 := by rw [e0']; omega
  have r2 : u2 = 0 := by rw [e1']; omega
  have r3 : u3 = 0 := by rw [e2']; omega
  subst q0 q1 q2 q3 r1 r2 r3
  simp
theorem GZ {k : Nat} {b : Bool} {x0 x1 x2 x3 y0 y1 y2 y3 : Int} (ha : W4 ⟨b, x0, x1, x2, x3⟩) (hb : W4 ⟨b, y0, y1, y2, y3⟩) (hv : val ⟨b, x0, x1, x2, x3⟩ + val ⟨b, y0, y1, y2, y3⟩ < 115792089237316195423570985008687907853269984665640564039457584007913129639936) :
  ∃ w, jv (k + 1) ⟨b, x0, x1, x2, x3⟩ ⟨b, y0, y1, y2, y3⟩ = some w ∧ w.neg = b ∧ (qn w ↔ val ⟨b, x0, x1, x2, x3⟩ + val ⟨b, y0, y1, y2, y3⟩ = 0) := by
 obtain ⟨a0, a1, b0, b1', c0, c1, d0, d1⟩ := ha
 obtain ⟨e0, e1, f0, f1, g0, g1, h0, h1⟩ := hb
 simp only at *
 rw [jv]
 simp only [beq_self_eq_true, Bool.not_true, aN, bm, Int.add_zero]
 simp only [val] at hv ⊢
 have m0 : x0 + y0 = (x0 + y0) / 18446744073709551616 * 18446744073709551616 + (x0 + y0) % 18446744073709551616 := by omega
 have u0 : 0 ≤ (x0 + y0) / 18446744073709551616 ∧ (x0 + y0) / 18446744073709551616 ≤ 1 := by omega
 have v0 : 0 ≤ (x0 + y0) % 18446744073709551616 := by omega
 generalize (x0 + y0) / 18446744073709551616 = t0 at *
 generalize (x0 + y0) % 18446744073709551616 = r0 at *
 have m1 : x1 + y1 + t0 = (x1 + y1 + t0) / 18446744073709551616 * 18446744073709551616 + (x1 + y1 + t0) % 18446744073709551616 := by omega
 have u1 : 0 ≤ (x1 + y1 + t0) / 18446744073709551616 ∧ (x1 + y1 + t0) / 18446744073709551616 ≤ 1 := by omega
 have v1 : 0 ≤ (x1 + y1 + t0) % 18446744073709551616 := by omega
 generalize (x1 + y1 + t0) / 18446744073709551616 = t1 at *
 generalize (x1 + y1 + t0) % 18446744073709551616 = r1 at *
 have m2 : x2 + y2 + t1 = (x2 + y2 + t1) / 18446744073709551616 * 18446744073709551616 + (x2 + y2 + t1) % 18446744073709551616 := by omega
 have u2 : 0 ≤ (x2 + y2 + t1) / 18446744073709551616 ∧ (x2 + y2 + t1) / 18446744073709551616 ≤ 1 := by omega
 have v2 : 0 ≤ (x2 + y2 + t1) % 18446744073709551616 := by omega
 generalize (x2 + y2 + t1) / 18446744073709551616 = t2 at *
 generalize (x2 + y2 + t1) % 18446744073709551616 = r2 at *
 have m3 : x3 + y3 + t2 = (x3 + y3 + t2) / 18446744073709551616 * 18446744073709551616 + (x3 + y3 + t2) % 18446744073709551616 := by omega
 have u3 : 0 ≤ (x3 + y3 + t2) / 18446744073709551616 ∧ (x3 + y3 + t2) / 18446744073709551616 ≤ 1 := by omega
 have v3 : 0 ≤ (x3 + y3 + t2) % 18446744073709551616 := by omega
 generalize (x3 + y3 + t2) / 18446744073709551616 = t3 at *
 generalize (x3 + y3 + t2) % 18446744073709551616 = r3 at *
 rw [jn (by omega), jn (by omega), jn (by omega), jn (by omega)]
 refine ⟨_, rfl, rfl, ?_⟩
 simp only [qn]
 constructor
 ·rintro ⟨z0, z1, z2, z3⟩
  have : t3 = 0 := by omega
  omega
 ·intro hz
  refine ⟨by omega, by omega, by omega, by omega⟩
theorem C7 {a b : bW} (ha : W4 a) (hb : W4 b) (va : val a < 57896044618658097711785492504343953926634992332820282019728792003956564819968) (vb : val b < 57896044618658097711785492504343953926634992332820282019728792003956564819968)
  (na : a.neg = true → 0 < val a) (nb : b.neg = true → 0 < val b) : jf a b = some (c3 (sv a) (sv b)) := by
 have pa : 0 ≤ val a := by obtain ⟨a0, a1, b0, b1, c0, c1, d0, d1⟩ := ha; unfold val; omega
 have pb : 0 ≤ val b := by obtain ⟨a0, a1, b0, b1, c0, c1, d0, d1⟩ := hb; unfold val; omega
 obtain ⟨n, x0, x1, x2, x3⟩ := a
 obtain ⟨m, y0, y1, y2, y3⟩ := b
 have hany : ∀ (q : Bool), W4 ⟨q, y0, y1, y2, y3⟩ := fun q => ⟨hb.1, hb.2, hb.3, hb.4, hb.5, hb.6, hb.7, hb.8⟩
 have hval : ∀ (q q' : Bool) (z0 z1 z2 z3 : Int), val ⟨q, z0, z1, z2, z3⟩ = val ⟨q', z0, z1, z2, z3⟩ := fun _ _ _ _ _ _ => rfl
 unfold jf
 simp only [KG]
 have hB : bq = 1152921504606846974 + 1 + 1 := rfl
 rw [hB, ja]
 simp only
 by_cases hs : n = m
 ·subst hs
  simp only [beq_self_eq_true, Bool.not_true, aN]
  rw [Jp ha hb]
  simp only [bm]
  by_cases hlt : val ⟨n, x0, x1, x2, x3⟩ < val ⟨n, y0, y1, y2, y3⟩
  ·have e1 : c3 (val ⟨n, x0, x1, x2, x3⟩) (val ⟨n, y0, y1, y2, y3⟩) = -1 := by unfold c3; rw [if_pos hlt]
   rw [e1, show decide ((-1 : Int) < 0) = true from rfl, bb]
   unfold gN
   simp only [bm]
   obtain ⟨w, g1, g2, g3⟩ := FO (b6 := n) (hany (!n)) ha
   rw [g1]
   simp only [bm]
   have hz : ¬ qn w := fun h => by
    have := g3.1 h
    have e2 := hval (!n) n y0 y1 y2 y3
    omega
   have hz' : ¬ qn ⟨w.neg, w.size.1, w.size.2.1, w.size.2.2.1, w.size.2.2.2⟩ := hz
   rw [show decide (qn ⟨w.neg, w.size.1, w.size.2.1, w.size.2.2.1, w.size.2.2.2⟩) = false by simpa using hz', aN, g2]
   unfold sv
   cases n with
   | true => simp only [Bool.not_true, aN, if_true]; unfold c3; rw [if_neg (by omega), if_pos (by omega)]
   | false => simp only [Bool.not_false, bb, Bool.false_eq_true, if_false]; unfold c3; rw [if_pos (by omega)]
  ·have e1 : decide (c3 (val ⟨n, x0, x1, x2, x3⟩) (val ⟨n, y0, y1, y2, y3⟩) < 0) = false := by
    unfold c3; rw [if_neg hlt]; split <;> rfl
   rw [e1, aN]
   obtain ⟨w, g1, g2, g3⟩ := FO ha hb
   rw [g1]
   simp only [bm]
   have hz : qn ⟨w.neg, w.size.1, w.size.2.1, w.size.2.2.1, w.size.2.2.2⟩ ↔ val ⟨n, x0, x1, x2, x3⟩ = val ⟨n, y0, y1, y2, y3⟩ := g3
   by_cases heq : val ⟨n, x0, x1, x2, x3⟩ = val ⟨n, y0, y1, y2, y3⟩
   ·rw [show decide (qn ⟨w.neg, w.size.1, w.size.2.1, w.size.2.2.1, w.size.2.2.2⟩) = true by simpa using hz.2 heq, bb]
    unfold sv
    simp only
    rw [heq]
    unfold c3; rw [if_neg (by omega), if_neg (by omega)]
   ·rw [show decide (qn ⟨w.neg, w.size.1, w.size.2.1, w.size.2.2.1, w.size.2.2.2⟩) = false by simpa using fun h => heq (hz.1 h), aN, g2]
    unfold sv
    cases n with
    | true => simp only [bb, if_true]; unfold c3; rw [if_pos (by omega)]
    | false => simp only [aN, Bool.false_eq_true, if_false]; unfold c3; rw [if_neg (by omega), if_pos (by omega)]
 ·have hsb : (!(n == m)) = true := (GM n m hs).1
  rw [hsb, bb]
  unfold gN
  simp only [bm]
  have hnm : (!m) = n := (GM n m hs).2
  rw [hnm]
  obtain ⟨w, g1, g2, g3⟩ := GZ (k := 1152921504606846974) ha (hany n) (by have := hval n m y0 y1 y2 y3; omega)
  rw [g1]
  simp only [bm]
  have hz : qn ⟨w.neg, w.size.1, w.size.2.1, w.size.2.2.1, w.size.2.2.2⟩ ↔ val ⟨n, x0, x1, x2, x3⟩ + val ⟨n, y0, y1, y2, y3⟩ = 0 := g3
  have hpos : ¬ val ⟨n, x0, x1, x2, x3⟩ + val ⟨n, y0, y1, y2, y3⟩ = 0 := by
   have e := hval n m y0 y1 y2 y3
   cases n with
   | true => have := na rfl; omega
   | false =>
    have : m = true := by simpa using hnm
    have := nb this
    omega
  rw [show decide (qn ⟨w.neg, w.size.1, w.size.2.1, w.size.2.2.1, w.size.2.2.2⟩) = false by simpa using fun h => hpos (hz.1 h), aN, g2]
  unfold sv
  cases n with
  | true =>
   have : m = false := by simpa using hnm
   subst this
   have := na rfl
   simp only [bb, if_true, Bool.false_eq_true, if_false]; unfold c3; rw [if_pos (by omega)]
  | false =>
   have : m = true := by simpa using hnm
   subst this
   have := nb rfl
   simp only [aN, if_true, Bool.false_eq_true, if_false]; unfold c3; rw [if_neg (by omega), if_pos (by omega)]
end Go.Proofs.YtfnmbpecdjncfaaGreatDoor.Ord
namespace Go.Proofs.YtfnmbpecdjncfaaGreatDoor.Ord
open Go Go.SX Go.SX.Cal
def or' (x y : Int) : Int := if x ≠ 0 then x else y
def cS (s t : ByteArray) : Int := if Op.bytesLess s.toList t.toList = true then -1 else if s.toList = t.toList then 0 else 1
def inR (sc : Int) : Prop := 0 ≤ sc ∧ sc ≤ 12
instance (sc : Int) : Decidable (inR sc) := by unfold inR; infer_instance
def DV (k : Int) : Int := if k = 0 then 1 else 0
def C4 (k sc : Int) : Int := if k = 3 ∧ ¬ inR sc then 1 else 0
def vvI (k sc n : Int) : Int := if k = 3 ∧ inR sc then n * e9 (12 - sc).toNat else n
mutual
def cmpV : aa → aa → Int
 | ⟨k, n, sc, s, it⟩, b => or' (c3 (DV k) (DV b.kind)) (or' (c3 k b.kind) (if k = 0 then 0 else or' (c3 (C4 k sc) (C4 b.kind b.scale)) (or' (c3 (vvI k sc n) (vvI b.kind b.scale b.n)) (or' (c3 sc b.scale) (or' (cS s b.s) (cmpL it b.items))))))
def cmpL : List aa → List aa → Int
 | [], m => match m with
  | [] => 0
  | _ :: _ => -1
 | x :: l, m => match m with
  | [] => 1
  | y :: ys => or' (cmpV x y) (cmpL l ys)
end
def i64 (x : Int) : Prop := -9223372036854775808 ≤ x ∧ x ≤ 9223372036854775807
mutual
def wfV : aa → Prop
 | ⟨k, n, sc, _, it⟩ => i64 k ∧ i64 n ∧ i64 sc ∧ wfL it
def wfL : List aa → Prop
 | [] => True
 | x :: l => wfV x ∧ wfL l
end
theorem CJ : ∀ {l : List aa} {x : aa}, wfL l → x ∈ l → wfV x
 | [], _, _, h => by cases h
 | y :: l, x, hw, h => by
  simp only [wfL] at hw
  rcases List.mem_cons.1 h with rfl | h
  ·exact hw.1
  ·exact CJ hw.2 h
theorem ku : ∀ {l : List aa} {x : aa}, x ∈ l → d9 x ≤ jr l
 | [], _, h => by cases h
 | y :: l, x, h => by
  simp only [jr]
  rcases List.mem_cons.1 h with rfl | h
  ·omega
  ·have := ku h; omega
theorem vy : ∀ v : aa, 1 ≤ d9 v
 | ⟨_, _, _, _, _⟩ => by simp only [d9]; omega
theorem nO : ∀ l : List aa, l.length ≤ jr l
 | [] => by simp [jr]
 | x :: l => by
  have := nO l
  have := vy x
  simp only [jr, List.length_cons]; omega
theorem Ib (a b : Int) : jt a b = some (c3 a b) := by
 unfold jt pl c3
 simp only [bm, bne_self_eq_false, aN]
 by_cases h : a < b
 ·simp [h, aP]
 ·by_cases k : b < a <;> simp [h, k, aP]
theorem Pm (a b : ByteArray) : kQ a b = some (cS a b) := by
 unfold kQ mw cS
 simp only [bm, beq_self_eq_true, Bool.not_true, aN]
 by_cases h : Op.bytesLess a.toList b.toList = true
 ·simp [h, aP]
 ·have h' : Op.bytesLess a.toList b.toList = false := by simpa using h
  by_cases k : a.toList = b.toList
  ·rw [k] at h' ⊢
   simp [h', aP]
  ·simp [h', k, aP]
theorem xY {p : List Int} {k i : Nat} {x : Int} (h : p[i]? = some x) (hi : i < 1000) : gg p (k + 1) (i : Int) = if x ≠ 0 then some x else gg p k ((i + 1 : Nat) : Int) := by
 have hlt := (List.getElem?_eq_some_iff.1 h).1
 rw [gg, show decide ((i : Int) < (p.length : Int)) = true by simp [hlt], bb]
 have : at? p (i : Int) = some x := by unfold at?; simp [h]
 rw [this]
 simp only [bm]
 rw [zQ (by omega) (by omega), show (i : Int) + 1 = ((i + 1 : Nat) : Int) by omega]
 by_cases hx : x = 0
 ·simp [hx, aP]
 ·simp [hx, aP]
theorem JP {p : List Int} {k : Nat} : gg p (k + 1) (p.length : Int) = some 0 := by
 rw [gg, show decide ((p.length : Int) < (p.length : Int)) = false by simp, aN]
 rfl
theorem RC (x y : Int) : lY [x, y] = some (or' x y) := by
 unfold lY or'
 have hB : bq = 1152921504606846973 + 1 + 1 + 1 := rfl
 have h0 := xY (p := [x, y]) (k := 1152921504606846973 + 1 + 1) (i := 0) (x := x) rfl (by decide)
 have h1 := xY (p := [x, y]) (k := 1152921504606846973 + 1) (i := 1) (x := y) rfl (by decide)
 have h2 := JP (p := [x, y]) (k := 1152921504606846973)
 rw [hB]
 refine Eq.trans h0 ?_
 rw [h1]
 refine Eq.trans (b := if x ≠ 0 then some x else if y ≠ 0 then some y else some 0) (by rw [← h2]; rfl) ?_
 by_cases hx : x = 0 <;> by_cases hy : y = 0 <;> simp [hx, hy]
theorem RH (x y z : Int) : lY [x, y, z] = some (or' x (or' y z)) := by
 unfold lY or'
 have hB : bq = 1152921504606846972 + 1 + 1 + 1 + 1 := rfl
 have h0 := xY (p := [x, y, z]) (k := 1152921504606846972 + 1 + 1 + 1) (i := 0) (x := x) rfl (by decide)
 have h1 := xY (p := [x, y, z]) (k := 1152921504606846972 + 1 + 1) (i := 1) (x := y) rfl (by decide)
 have h2 := xY (p := [x, y, z]) (k := 1152921504606846972 + 1) (i := 2) (x := z) rfl (by decide)
 have h3 := JP (p := [x, y, z]) (k := 1152921504606846972)
 rw [hB]
 refine Eq.trans h0 ?_
 rw [h1, h2]
 refine Eq.trans (b := if x ≠ 0 then some x else if y ≠ 0 then some y else if z ≠ 0 then some z else some 0) (by rw [← h3]; rfl) ?_
 by_cases hx : x = 0 <;> by_cases hy : y = 0 <;> by_cases hz : z = 0 <;> simp [hx, hy, hz]
theorem cmpf_loop (f : aa → aa → Option Int) (p1 p2 : List aa) (hl : p1.length < 1000000000000000) (hf : ∀ x ∈ p1, ∀ y ∈ p2, f x y = some (cmpV x y)) : ∀ (k i : Nat), i ≤ p1.length → i ≤ p2.length → p1.length < i + k →
  aC f p1 p2 k (i : Int) = some (cmpL (p1.drop i) (p2.drop i)) := by
 intro k
 induction k with
 | zero => intro i h1 h2 h3; omega
 | succ k ih =>
  intro i h1 h2 h3
  rw [aC]
  by_cases hi : i < p1.length
  ·have e1 : p1.drop i = p1[i] :: p1.drop (i + 1) := List.drop_eq_getElem_cons hi
   have a1 : at? p1 (i : Int) = some p1[i] := by unfold at?; simp [hi]
   rw [show decide ((i : Int) < (p1.length : Int)) = true by simp [hi], bb, a1, e1]
   simp only [bm]
   by_cases hj : i < p2.length
   ·have e2 : p2.drop i = p2[i] :: p2.drop (i + 1) := List.drop_eq_getElem_cons hj
    have a2 : at? p2 (i : Int) = some p2[i] := by unfold at?; simp [hj]
    rw [show decide ((p2.length : Int) ≤ (i : Int)) = false by simp; omega, aN, a2, e2]
    simp only [bm]
    rw [hf _ (List.getElem_mem hi) _ (List.getElem_mem hj)]
    simp only [bm, cmpL]
    unfold or'
    by_cases hc : cmpV p1[i] p2[i] = 0
    ·have e : (cmpV p1[i] p2[i] != 0) = false := by simp [hc]
     rw [e, aN, zQ (by omega) (by omega), show (i : Int) + 1 = ((i + 1 : Nat) : Int) by omega, ih (i + 1) (by omega) (by omega) (by omega), if_neg (by simp [hc])]
    ·have e : (cmpV p1[i] p2[i] != 0) = true := by simp [hc]
     rw [e, bb, if_pos hc]
   ·have e2 : p2.drop i = [] := List.drop_of_length_le (by omega)
    rw [show decide ((p2.length : Int) ≤ (i : Int)) = true by simp; omega, bb, e2]
    rfl
  ·have : i = p1.length := by omega
   subst this
   rw [show decide ((p1.length : Int) < (p1.length : Int)) = false by simp, aN, List.drop_length]
   unfold bG
   by_cases hj : p1.length < p2.length
   ·have e2 : p2.drop p1.length = p2[p1.length] :: p2.drop (p1.length + 1) := List.drop_eq_getElem_cons hj
    rw [show decide ((p1.length : Int) < (p2.length : Int)) = true by simp [hj], bb, e2]
    rfl
   ·have e2 : p2.drop p1.length = [] := List.drop_of_length_le (by omega)
    rw [show decide ((p1.length : Int) < (p2.length : Int)) = false by simp; omega, aN, e2]
    rfl
theorem KR (a b c : Int) : dY a b c = some (decide (b ≤ a ∧ a ≤ c)) := by
 unfold dY kV
 by_cases h : b ≤ a <;> by_cases k : a ≤ c <;> simp [h, k, aP]
theorem vQ (y : Int) : or' 0 y = y := by simp [or']
theorem vM (a : Int) : c3 a a = 0 := by simp [c3]
theorem compare_eq : ∀ (N : Nat) (a b : aa) (k : Nat), d9 a ≤ N → d9 a < 1000000000000000 → wfV a → wfV b → 3 * N + 3 ≤ k → dD k a b = some (cmpV a b) := by
 intro N
 induction N with
 | zero => intro a b k h; have := vy a; omega
 | succ N ih =>
  intro a b k hN hbig ha hb hk
  obtain ⟨k', rfl⟩ : ∃ k', k = k' + 1 + 1 + 1 := ⟨k - 3, by omega⟩
  obtain ⟨ka, na, sa, ta, ia⟩ := a
  obtain ⟨kb, nb, sb, tb, ib⟩ := b
  simp only [wfV] at ha hb
  obtain ⟨wk, wn, ws, wi⟩ := ha
  obtain ⟨vk, vn, vs, vi⟩ := hb
  simp only [d9] at hN hbig
  have hlen := nO ia
  -- the rest
  have hitems : aw (k' + 1) ia ib = some (cmpL ia ib) := by
   rw [aw]
   have := cmpf_loop (dD k') ia ib (by omega) (fun x hx y hy => by
    have h1 := ku hx
    exact ih x y k' (by omega) (by omega) (CJ wi hx) (CJ vi hy) (by omega)) bq 0 (Nat.zero_le _) (Nat.zero_le _) (by rw [bl]; omega)
   simpa using this
  have hrest : jj (k' + 1 + 1) ⟨ka, na, sa, ta, ia⟩ ⟨kb, nb, sb, tb, ib⟩ = some (or' (c3 sa sb) (or' (cS ta tb) (cmpL ia ib))) := by
   rw [jj]
   simp only [Ib, Pm, bm, hitems, RH]
  rw [dD]
  simp only [Ib, bm, KR, cmpV]
  by_cases hkk : ka = kb
  ·subst hkk
   rw [show (ka != ka) = false by simp, aN, vM, vM, vQ, vQ]
   by_cases h0 : ka = 0
   ·subst h0; rw [if_pos rfl]; rfl
   ·rw [beq_eq_false_iff_ne.2 h0, aN, if_neg h0]
    have plain : kv (jj (k' + 1 + 1)) ⟨ka, na, sa, ta, ia⟩ ⟨ka, nb, sb, tb, ib⟩ = some (or' (c3 na nb) (or' (c3 sa sb) (or' (cS ta tb) (cmpL ia ib)))) := by
     unfold kv
     simp only [Ib, bm, hrest, RC]
    by_cases h3 : ka = 3
    ·subst h3
     rw [show ((3 : Int) == 3) = true from rfl, bb]
     unfold mG
     by_cases hA : 0 ≤ sa ∧ sa ≤ 12
     ·have hiA : inR sa := hA
      by_cases hB : 0 ≤ sb ∧ sb ≤ 12
      ·have hiB : inR sb := hB
       simp only [hA, hB, and_self, decide_true, bb]
       rw [zQ (x := 12 - sa) (by omega) (by omega), zQ (x := 12 - sb) (by omega) (by omega)]
       obtain ⟨w1, g1, g2, g3, g4, g5⟩ := Bw (n := na) (d := 12 - sa) wn.1 wn.2 (by omega) (by omega)
       obtain ⟨w2, f1, f2, f3, f4, f5⟩ := Bw (n := nb) (d := 12 - sb) vn.1 vn.2 (by omega) (by omega)
       rw [g1, f1]
       simp only [bm]
       have pp1 := vE (12 - sa).toNat
       have pp2 := vE (12 - sb).toNat
       have sgn : ∀ (n P : Int), 1 ≤ P → n < 0 → 0 < (if n < 0 then -n else n) * P := by
        intro n P hP hn
        rw [if_pos hn]
        exact Int.mul_pos (by omega) (by omega)
       have sv1 : sv w1 = na * e9 (12 - sa).toNat := by
        unfold sv; rw [g3, g4]
        by_cases hn : na < 0
        ·simp only [hn, decide_true, if_true]; rw [Int.neg_mul, Int.neg_neg]
        ·simp only [hn, decide_false, Bool.false_eq_true, if_false]
       have sv2 : sv w2 = nb * e9 (12 - sb).toNat := by
        unfold sv; rw [f3, f4]
        by_cases hn : nb < 0
        ·simp only [hn, decide_true, if_true]; rw [Int.neg_mul, Int.neg_neg]
        ·simp only [hn, decide_false, Bool.false_eq_true, if_false]
       have hcmp : jf ⟨w1.neg, w1.size.1, w1.size.2.1, w1.size.2.2.1, w1.size.2.2.2⟩ ⟨w2.neg, w2.size.1, w2.size.2.1, w2.size.2.2.1, w2.size.2.2.2⟩ = some (c3 (na * e9 (12 - sa).toNat) (nb * e9 (12 - sb).toNat)) := by
        have := C7 g2 f2 g5 f5 (fun h => by rw [g3]; exact sgn na _ pp1 (by rw [g4] at h; simpa using h)) (fun h => by rw [f3]; exact sgn nb _ pp2 (by rw [f4] at h; simpa using h))
        rw [sv1, sv2] at this
        exact this
       rw [hcmp]
       simp only [bm, hrest, RC]
       have o1 : C4 3 sa = 0 := by unfold C4; rw [if_neg (by simp [hiA])]
       have o2 : C4 3 sb = 0 := by unfold C4; rw [if_neg (by simp [hiB])]
       have u1 : vvI 3 sa na = na * e9 (12 - sa).toNat := by unfold vvI; rw [if_pos ⟨rfl, hiA⟩]
       have u2 : vvI 3 sb nb = nb * e9 (12 - sb).toNat := by unfold vvI; rw [if_pos ⟨rfl, hiB⟩]
       rw [o1, o2, vM, vQ, u1, u2]
      ·have hiB : ¬ inR sb := hB
       have eB : decide (0 ≤ sb ∧ sb ≤ 12) = false := by simpa using hB
       have eA : decide (0 ≤ sa ∧ sa ≤ 12) = true := by simpa using hA
       rw [eA, eB]
       simp only [bb, aN]
       have o1 : C4 3 sa = 0 := by unfold C4; rw [if_neg (by simp [hiA])]
       have o2 : C4 3 sb = 1 := by unfold C4; rw [if_pos ⟨rfl, hiB⟩]
       rw [o1, o2]; rfl
     ·have hiA : ¬ inR sa := hA
      have eA : decide (0 ≤ sa ∧ sa ≤ 12) = false := by simpa using hA
      have o1 : C4 3 sa = 1 := by unfold C4; rw [if_pos ⟨rfl, hiA⟩]
      have u1 : vvI 3 sa na = na := by unfold vvI; rw [if_neg (by simp [hiA])]
      rw [eA]
      simp only [aN]
      by_cases hB : 0 ≤ sb ∧ sb ≤ 12
      ·have hiB : inR sb := hB
       have eB : decide (0 ≤ sb ∧ sb ≤ 12) = true := by simpa using hB
       have o2 : C4 3 sb = 0 := by unfold C4; rw [if_neg (by simp [hiB])]
       rw [eB, o1, o2]; rfl
      ·have hiB : ¬ inR sb := hB
       have eB : decide (0 ≤ sb ∧ sb ≤ 12) = false := by simpa using hB
       have o2 : C4 3 sb = 1 := by unfold C4; rw [if_pos ⟨rfl, hiB⟩]
       have u2 : vvI 3 sb nb = nb := by unfold vvI; rw [if_neg (by simp [hiB])]
       rw [eB, aN, plain, o1, o2, vM, vQ, u1, u2]
    ·rw [beq_eq_false_iff_ne.2 h3, aN, plain]
     have o1 : ∀ q, C4 ka q = 0 := fun q => by unfold C4; rw [if_neg (by simp [h3])]
     have u1 : ∀ q r, vvI ka q r = r := fun q r => by unfold vvI; rw [if_neg (by simp [h3])]
     rw [o1, o1, vM, vQ, u1, u1]
  ·rw [show (ka != kb) = true by simp [hkk], bb]
   by_cases h0 : ka = 0
   ·subst h0
    have : DV kb = 0 := by unfold DV; rw [if_neg (fun e => hkk e.symm)]
    rw [this]; rfl
   ·rw [beq_eq_false_iff_ne.2 h0, aN]
    have n1 : DV ka = 0 := by unfold DV; rw [if_neg h0]
    by_cases h1 : kb = 0
    ·subst h1; rw [n1]; rfl
    ·have n2 : DV kb = 0 := by unfold DV; rw [if_neg h1]
     rw [beq_eq_false_iff_ne.2 h1, aN, n1, n2, vM, vQ]
     have hc : c3 ka kb ≠ 0 := by unfold c3; split <;> (try split) <;> omega
     unfold or'
     rw [if_pos hc]
end Go.Proofs.YtfnmbpecdjncfaaGreatDoor.Ord
namespace Go.Proofs.YtfnmbpecdjncfaaGreatDoor.Ord
open Go Go.SX Go.SX.Cal
theorem qA {x y x' y' : Int} (h : x = -x') (k : y = -y') : or' x y = -or' x' y' := by
 unfold or'
 by_cases hx : x' = 0
 ·have : x = 0 := by omega
  rw [if_neg (by simp [this]), if_neg (by simp [hx])]; exact k
 ·have : x ≠ 0 := by omega
  rw [if_pos this, if_pos hx]; exact h
theorem sd (a b : Int) : c3 a b = -c3 b a := by
 unfold c3
 by_cases h1 : a < b <;> by_cases h2 : b < a <;> simp [h1, h2] <;> omega
def cB (l m : List UInt8) : Int := if Op.bytesLess l m = true then -1 else if l = m then 0 else 1
theorem Gd (a b : UInt8) (l m : List UInt8) : cB (a :: l) (b :: m) = or' (c3 a.toNat b.toNat) (cB l m) := by
 unfold cB or' c3
 simp only [Op.bytesLess, Bool.or_eq_true, Bool.and_eq_true, decide_eq_true_eq, beq_iff_eq, List.cons.injEq]
 by_cases h1 : a < b
 ·have h1' : (a.toNat : Int) < b.toNat := by have := UInt8.lt_iff_toNat_lt.1 h1; omega
  simp [h1, h1']
 ·have h1' : ¬ (a.toNat : Int) < b.toNat := fun h => h1 (UInt8.lt_iff_toNat_lt.2 (by omega))
  by_cases h2 : a = b
  ·subst h2
   simp
  ·have h3 : (b.toNat : Int) < a.toNat := by
    have : a.toNat ≠ b.toNat := fun h => h2 (UInt8.toNat_inj.1 h)
    omega
   simp [h1, h1', h2, h3]
theorem Gz : ∀ l m : List UInt8, cB l m = -cB m l
 | [], [] => by decide
 | [], _ :: _ => by simp [cB, Op.bytesLess]
 | _ :: _, [] => by simp [cB, Op.bytesLess]
 | a :: l, b :: m => by
  rw [Gd, Gd]
  exact qA (sd _ _) (Gz l m)
theorem Mo (s t : ByteArray) : cS s t = cB s.toList t.toList := rfl
mutual
theorem Bz : ∀ a b : aa, cmpV a b = -cmpV b a
 | ⟨k, n, sc, s, it⟩, ⟨k', n', sc', s', it'⟩ => by
  have hL := BY it it'
  simp only [cmpV]
  by_cases hk : k = k'
  ·subst hk
   refine qA (sd _ _) (qA (sd _ _) ?_)
   split
   ·rfl
   ·exact qA (sd _ _) (qA (sd _ _) (qA (sd _ _) (qA (by rw [Mo, Mo]; exact Gz _ _) hL)))
  ·have e1 : ∀ y, or' (c3 k k') y = c3 k k' := fun y => by
    unfold or'; rw [if_pos (by unfold c3; split <;> (try split) <;> omega)]
   have e2 : ∀ y, or' (c3 k' k) y = c3 k' k := fun y => by
    unfold or'; rw [if_pos (by unfold c3; split <;> (try split) <;> omega)]
   rw [e1, e2]
   exact qA (sd _ _) (sd _ _)
theorem BY : ∀ l m : List aa, cmpL l m = -cmpL m l
 | [], [] => by simp [cmpL]
 | [], _ :: _ => by simp [cmpL]
 | _ :: _, [] => by simp [cmpL]
 | x :: l, y :: m => by
  have h1 := Bz x y
  have h2 := BY l m
  simp only [cmpL]
  exact qA h1 h2
end
theorem cmpV_refl (a : aa) : cmpV a a = 0 := by
 have := Bz a a
 omega
end Go.Proofs.YtfnmbpecdjncfaaGreatDoor.Ord
namespace Go.Proofs.YtfnmbpecdjncfaaGreatDoor.Ord
open Go Go.SX Go.SX.Cal
theorem p10n : ∀ n, 0 < e9 n := fun n => by have := vE n; omega
end Go.Proofs.YtfnmbpecdjncfaaGreatDoor.Ord
namespace Go.Proofs.YtfnmbpecdjncfaaGreatDoor.Ord
open Go Go.SX Go.SX.Cal
end Go.Proofs.YtfnmbpecdjncfaaGreatDoor.Ord
namespace Go.Proofs.YtfnmbpecdjncfaaGreatDoor
open Go Go.SX Go.SX.Cal
theorem Mt {t : af} {v : aa} (hv : d9 v < 1000000000) (hT : jm t < 1000000000) (h : ck t v = 0) : V t ∧ JN 4 v ∧ A8 4 t v = true := by
 obtain ⟨e, h1, h2, h3⟩ := my t hT
 have hc := G6 hv hT
 rw [h] at hc
 unfold gx at hc
 rw [h1, xe v hv] at hc
 simp only [cE] at hc
 by_cases he : e = 0
 ·subst he
  have ht := h3 rfl
  cases hs : tL v with
  | false => rw [hs] at hc; cases hc
  | true =>
   have hS : JN 4 v := ⟨0, hs⟩
   obtain ⟨a, b⟩ := of_eq 4 bq bq t v hS ht hv hT (by rw [bl]; omega) (by rw [bl]; omega)
   rw [hs, a] at hc
   cases ho : A8 4 t v with
   | false => rw [ho] at hc; cases hc
   | true => exact ⟨ht, hS, rfl⟩
 ·rw [show (e != (0 : Int)) = true by simp [he]] at hc
  cases hc; exact absurd rfl he
structure Lv (v : aa) : Prop where
 k : 0 ≤ v.kind ∧ v.kind ≤ 5
 n : -999999999999999999 ≤ v.n ∧ v.n ≤ 999999999999999999
 it : v.items = []
 s : v.s.size ≤ 256
 sc : 0 ≤ v.scale ∧ v.scale ≤ 12
 nul : v.kind = 0 → v.n = 0 ∧ v.scale = 0 ∧ v.s.size = 0
theorem D7 {v : aa} (h : dF v = true) (h6 : v.kind ≠ 6) (h7 : v.kind ≠ 7) : Lv v := by
 have hi := lR h h6 h7
 unfold dF tR at h
 simp only at h
 split at h
 ·simp only [Bool.and_eq_true, decide_eq_true_eq, beq_iff_eq] at h; exact ⟨by omega, by omega, hi, by omega, by omega, fun _ => by omega⟩
 ·split at h
  ·simp only [Bool.and_eq_true, decide_eq_true_eq, beq_iff_eq] at h; exact ⟨by omega, by omega, hi, by omega, by omega, fun _ => by omega⟩
  ·split at h
   ·simp only [Bool.and_eq_true, decide_eq_true_eq, beq_iff_eq] at h; exact ⟨by omega, by omega, hi, by omega, by omega, fun _ => by omega⟩
   ·split at h
    ·simp only [Bool.and_eq_true, decide_eq_true_eq, beq_iff_eq] at h; exact ⟨by omega, by omega, hi, by omega, by omega, fun _ => by omega⟩
    ·split at h
     ·simp only [Bool.and_eq_true, decide_eq_true_eq, beq_iff_eq] at h; exact ⟨by omega, by omega, hi, by omega, by omega, fun _ => by omega⟩
     ·split at h
      ·simp only [Bool.and_eq_true, decide_eq_true_eq, beq_iff_eq] at h; exact ⟨by omega, by omega, hi, by omega, by omega, fun _ => by omega⟩
      ·cases h
theorem yh {t : af} {v : aa} (hv : d9 v < 1000000000) (hT : jm t < 1000000000) (h6 : t.kind ≠ 6) (h7 : t.kind ≠ 7) (h : ck t v = 0) : Lv v := by
 obtain ⟨ht, hS, ho⟩ := Mt hv hT h
 obtain ⟨hp, _⟩ := hS.succ
 have hk : v.kind = 0 ∨ v.kind = t.kind := by
  simp only [A8] at ho
  by_cases h0 : v.kind = 0
  ·exact .inl h0
  ·rw [if_neg h0] at ho
   by_cases h1 : v.kind = t.kind
   ·exact .inr h1
   ·rw [if_pos h1] at ho; cases ho
 exact D7 hp (by rcases hk with h | h <;> omega) (by rcases hk with h | h <;> omega)
theorem Lv.wf {v : aa} (h : Lv v) : Ord.wfV v := by
 obtain ⟨k, n, sc, s, it⟩ := v
 obtain ⟨h1, h2, h3, h4, h5, h6⟩ := h
 simp only at h1 h2 h3 h5
 subst h3
 simp only [Ord.wfV, Ord.wfL, Ord.i64]
 exact ⟨⟨by omega, by omega⟩, ⟨by omega, by omega⟩, ⟨by omega, by omega⟩, trivial⟩
theorem Lv.size {v : aa} (h : Lv v) : d9 v ≤ 257 := by
 rw [sT, h.it]
 have := h.s
 simp only [jr]; omega
theorem Ca {a b : aa} (ha : Lv a) (hb : Lv b) : dD bq a b = some (Ord.cmpV a b) := by
 have h := ha.size
 exact Ord.compare_eq 257 a b bq h (by omega) ha.wf hb.wf (by rw [bl]; omega)
theorem LR {a b : Int} : Ord.c3 a b = 0 ↔ a = b := by
 unfold Ord.c3; split <;> (try split) <;> constructor <;> omega
theorem zL {x y : Int} : Ord.or' x y = 0 ↔ x = 0 ∧ y = 0 := by
 unfold Ord.or'; by_cases h : x = 0 <;> simp [h]
theorem QG {s t : ByteArray} : Ord.cS s t = 0 ↔ s.toList = t.toList := by
 unfold Ord.cS
 split
 ·rename_i h
  constructor
  ·intro k; omega
  ·intro k; rw [k] at h
   have := Ord.cmpV_refl ⟨1, 0, 0, t, []⟩
   simp only [Ord.cmpV] at this
   rw [zL, zL] at this
   have := this.2.2
   rw [if_neg (by decide), zL, zL, zL, zL] at this
   have := this.2.2.2.1
   unfold Ord.cS at this
   rw [if_pos h] at this
   omega
 ·split <;> simp_all
theorem Ps {s t : ByteArray} (h : s.toList = t.toList) : s = t := by
 rw [ByteArray.toList_eq, ByteArray.toList_eq] at h
 exact ByteArray.ext (by rw [← Array.toArray_toList (xs := s.data), ← Array.toArray_toList (xs := t.data), h])
theorem Pg {s t : ByteArray} (h1 : s.size = 0) (h2 : t.size = 0) : s = t :=
 ByteArray.ext (by rw [Array.eq_empty_of_size_eq_zero h1, Array.eq_empty_of_size_eq_zero h2])
theorem Ol {a b : aa} (ha : Lv a) (hb : Lv b) : Ord.cmpV a b = 0 ↔ a = b := by
 constructor
 ·intro h
  obtain ⟨k, n, sc, s, it⟩ := a
  obtain ⟨k', n', sc', s', it'⟩ := b
  have hi := ha.it; have hi' := hb.it
  simp only at hi hi'
  subst hi; subst hi'
  simp only [Ord.cmpV, zL, LR] at h
  obtain ⟨_, hk, h⟩ := h
  subst hk
  by_cases h0 : k = 0
  ·obtain ⟨a1, a2, a3⟩ := ha.nul h0
   obtain ⟨b1, b2, b3⟩ := hb.nul h0
   simp only at a1 a2 a3 b1 b2 b3
   rw [a1, a2, b1, b2, Pg a3 b3]
  ·rw [if_neg h0, zL, zL, zL, zL, LR, LR, LR, QG] at h
   obtain ⟨_, hv, hs, ht, _⟩ := h
   subst hs
   have hn : n = n' := by
    unfold Ord.vvI at hv
    by_cases h3 : k = 3 ∧ Ord.inR sc
    ·rw [if_pos h3, if_pos h3] at hv
     have := Ord.p10n (12 - sc).toNat
     exact Int.eq_of_mul_eq_mul_right (by omega) hv
    ·rw [if_neg h3, if_neg h3] at hv; exact hv
   rw [hn, Ps ht]
 ·rintro rfl; exact Ord.cmpV_refl a
def ML (a b : aa) : Bool := Ord.cmpV a b == 0
theorem Aa {a b : aa} (ha : Lv a) (hb : Lv b) : ML a b = true ↔ a = b := by
 unfold ML; rw [beq_iff_eq]; exact Ol ha hb
end Go.Proofs.YtfnmbpecdjncfaaGreatDoor
namespace Go.Proofs.YtfnmbpecdjncfaaGreatDoor
open Go Go.SX Go.SX.Cal
theorem jZ {e : Int} {f g : Option Int} (h : e = 0 → f = g) : ee e f = ee e g := by
 unfold ee; by_cases he : e = 0
 ·simp [he, h he]
 ·simp [he]
def Kj (fs : List ab) (id : Int) : Int := (ir fs id).getD 0
def B8 (fs : List ab) (id : Int) : ab := ((sG fs id).getD (⟨0, ByteArray.empty, false, ⟨0, 0, []⟩⟩, false)).1
def Gw (fs : List ab) (id : Int) : Bool := ((sG fs id).getD (⟨0, ByteArray.empty, false, ⟨0, 0, []⟩⟩, false)).2
theorem xc {fs : List ab} (hn : fs.length < 1000000000) (id : Int) :
  ir fs id = some (Kj fs id) ∧ sG fs id = some (B8 fs id, Gw fs id) ∧ decide (Kj fs id < 0) = !Gw fs id ∧ (Gw fs id = true → at? fs (Kj fs id) = some (B8 fs id) ∧ B8 fs id ∈ fs) := by
 unfold Kj B8 Gw
 rcases Ki.or fs id with ⟨i, hi⟩ | hi
 ·rw [um hn hi, xG hn hi]
  refine ⟨rfl, rfl, ?_, fun _ => ⟨aZ hi.lt, List.getElem_mem hi.lt⟩⟩
  show decide ((i : Int) < 0) = false
  simp
 ·obtain ⟨g, hg⟩ := yj hn hi
  rw [uK hn hi, hg]
  exact ⟨rfl, rfl, rfl, fun h => by cases h⟩
def tE (p : ca) (t : af) : af × Int := (fd p t).getD (sr, 0)
theorem Jo (p : ca) {t : af} (h : jm t < 1000000000) : fd p t = some (tE p t) ∧ ji p t = some (tE p t) ∧ jm (tE p t).1 < 1000000000 ∧ ((tE p t).2 = 0 → (tE p t).1.kind ≠ 6 ∧ (tE p t).1.kind ≠ 7) := by
 obtain ⟨e, h1, h2, h3⟩ := tt p t h
 unfold tE
 rw [h2, h3]
 refine ⟨rfl, rfl, ?_, ?_⟩
 ·show jm (Dj p t e).1 < _
  unfold Dj Kt sr
  repeat' split
  all_goals first | (rw [m9]; simp only [d8]; omega) | exact h
 ·show (Dj p t e).2 = 0 → _
  intro h0
  have k := Nz h1 h0
  have a := k.k6; have b := k.k7
  show (Dj p t e).1.kind ≠ 6 ∧ (Dj p t e).1.kind ≠ 7
  have hc : (Dj p t e).1 = ⟨2, 0, []⟩ ∨ (Dj p t e).1 = t ∨ (Dj p t e).2 ≠ 0 := by
   unfold Dj Kt sr
   repeat' split
   all_goals simp_all
  rcases hc with hc | hc | hc
  ·rw [hc]; exact ⟨by decide, by decide⟩
  ·rw [hc]; exact ⟨a, b⟩
  ·exact absurd h0 hc
theorem jx (a b c : Int) : cY a b c = some (decide (b ≤ a ∧ a ≤ c)) := by
 unfold cY nv
 by_cases h1 : b ≤ a <;> by_cases h2 : a ≤ c <;> simp [h1, h2, aP]
structure Lo (f : ah) : Prop where
 name : f.name.size < 1000000000
 part : f.part.length < 1000000000 ∧ ∀ v ∈ f.part, d9 v < 1000000000
 stats : f.stats.length < 1000000000 ∧ ∀ s ∈ f.stats, d9 s.min < 1000000000 ∧ d9 s.max < 1000000000
structure KT (f : ah) : Prop where
 part : ∀ v ∈ f.part, Lv v
 stats : ∀ s ∈ f.stats, Lv s.min ∧ Lv s.max
def CD (f : ab) : Bool := decide (f.type.kind ≠ 6 ∧ f.type.kind ≠ 7)
def HM (fs : List ab) : List ab := fs.filter CD
theorem O4 (p1 : List ab) (f : ah) (hn : p1.length < 1000000000) : pA p1 f = kx f (HM p1) := by
 have key : ∀ (m k i : Nat) (l : List ab), i + m = p1.length → m < k → l.length ≤ i → fm p1 f k l (i : Int) = kx f (l ++ HM (p1.drop i)) := by
  intro m
  induction m with
  | zero =>
   intro k i l hi hk hl
   obtain ⟨k, rfl⟩ := fu hk
   rw [fm, C3 (by omega), iF, List.drop_of_length_le (by omega)]
   simp [HM]
  | succ m ih =>
   intro k i l hi hk hl
   obtain ⟨k, rfl⟩ := fu hk
   have h1 : i < p1.length := by omega
   rw [fm, bw h1, iT, aZ h1, bS, CL, bS]
   unfold om
   rw [aK h1 hn, qz h1]
   have hf : HM (p1[i] :: p1.drop (i + 1)) = if CD p1[i] then p1[i] :: HM (p1.drop (i + 1)) else HM (p1.drop (i + 1)) := by unfold HM; rw [List.filter_cons]
   rw [hf]
   show al (CD p1[i]) _ _ = _
   cases hb : CD p1[i] with
   | true => rw [iT, gP (by omega), ih k (i + 1) _ (by omega) (by omega) (by simp; omega)]; simp
   | false => rw [iF, ih k (i + 1) _ (by omega) (by omega) (by omega)]; simp
 have := key p1.length bq 0 [] (by omega) (by rw [bl]; omega) (Nat.zero_le _)
 unfold pA
 rw [show ((0 : Nat) : Int) = 0 from rfl] at this
 rw [this, List.nil_append, List.drop_zero]
theorem KO {fs : List ab} {g : ab} (h : g ∈ HM fs) : g ∈ fs ∧ g.type.kind ≠ 6 ∧ g.type.kind ≠ 7 := by
 unfold HM at h
 obtain ⟨h1, h2⟩ := List.mem_filter.1 h
 unfold CD at h2
 exact ⟨h1, by simpa using h2⟩
noncomputable def PQ (t : af) (s : de) (rows : Int) : Int :=
 mO (er (!decide (0 ≤ s.nulls ∧ s.nulls ≤ rows)) 3) (mO (ck t s.min) (mO (ck t s.max) (er (!((s.min.kind == 0) == (s.nulls == rows)) || (!((s.max.kind == 0) == (s.nulls == rows)) || decide (0 < Ord.cmpV s.min s.max))) 1)))
noncomputable def G0 (f : ah) (l : List ab) : Int :=
 if hl : f.stats.length = l.length then
  mO (er (kP (fun j => match f.stats[j]?, l[j]? with | some s, some x => !(s.id == x.id) | _, _ => false) f.stats.length) 1)
   (fe (fun j => match f.stats[j]?, l[j]? with | some s, some x => PQ x.type s f.rows | _, _ => 0) f.stats.length 0)
 else 1
theorem OZ {f : ah} {l : List ab} (hf : Lo f) (hl : ∀ x ∈ l, jm x.type < 1000000000 ∧ x.type.kind ≠ 6 ∧ x.type.kind ≠ 7) : kx f l = some (G0 f l) := by
 unfold kx bP G0
 by_cases h : f.stats.length = l.length
 ·rw [dif_pos h, show ((f.stats.length : Int) != (l.length : Int)) = false by simp [h], iF]
  rw [yr (L := ar f.stats l) (n := f.stats.length) (p := fun j => match f.stats[j]?, l[j]? with | some s, some x => !(s.id == x.id) | _, _ => false) hf.stats.1
   (fun k => by rw [ar, w8, iF]; rfl)
   (fun k i hi => by
    rw [ar, bw hi, iT, aZ hi, aZ (show i < l.length by omega), bS, bS, sx, bS, aK hi hf.stats.1, List.getElem?_eq_getElem hi, List.getElem?_eq_getElem (show i < l.length by omega)]), bS]
  unfold Ex
  rw [Bool.not_not, jp (by decide)]
  rw [pT (L := eF f l) (n := f.stats.length) (fin := some 0) (c := fun j => match f.stats[j]?, l[j]? with | some s, some x => PQ x.type s f.rows | _, _ => 0) hf.stats.1
   (fun k => by rw [eF, w8, iF]; rfl)
   (fun k i hi => by
    have hi' : i < l.length := by omega
    obtain ⟨g1, g2⟩ := hf.stats.2 _ (List.getElem_mem hi)
    obtain ⟨g3, g4, g5⟩ := hl _ (List.getElem_mem hi')
    rw [eF, bw hi, iT, aZ hi, bS, jx, bS, jp (by decide)]
    show ee _ (aE (some f.stats[i].min) _) = _
    rw [bS, aZ hi', bS, G6 g1 g3, bS, lK]
    show ee _ (ee _ (aE (some f.stats[i].max) _)) = _
    rw [bS, G6 g2 g3, bS, lK, List.getElem?_eq_getElem hi, List.getElem?_eq_getElem hi']
    simp only
    unfold PQ
    rw [← ei, ← ei, ← ei]
    refine jZ fun _ => jZ fun e1 => jZ fun e2 => ?_
    rw [Ca (yh g1 g3 g4 g5 e1) (yh g2 g3 g4 g5 e2), bS]
    unfold lQ
    rw [aK hi hf.stats.1]
    generalize (!((f.stats[i].min.kind == 0) == (f.stats[i].nulls == f.rows))) = b1
    generalize (!((f.stats[i].max.kind == 0) == (f.stats[i].nulls == f.rows))) = b2
    generalize decide (0 < Ord.cmpV f.stats[i].min f.stats[i].max) = b3
    cases b1 <;> cases b2 <;> cases b3 <;> rfl), jP, CB]
 ·rw [dif_neg h, show ((f.stats.length : Int) != (l.length : Int)) = true by simp; omega, iT, bS]
  rfl
theorem NI {f : ah} {l : List ab} (hf : Lo f) (hl : ∀ x ∈ l, jm x.type < 1000000000 ∧ x.type.kind ≠ 6 ∧ x.type.kind ≠ 7) (h : G0 f l = 0) : ∀ s ∈ f.stats, Lv s.min ∧ Lv s.max := by
 unfold G0 at h
 by_cases hh : f.stats.length = l.length
 ·rw [dif_pos hh, nc, Jt] at h
  intro s hs
  obtain ⟨i, hi, rfl⟩ := List.mem_iff_getElem.1 hs
  have hi' : i < l.length := by omega
  have := h.2 i (Nat.zero_le _) (by omega)
  rw [List.getElem?_eq_getElem hi, List.getElem?_eq_getElem hi'] at this
  simp only [PQ, nc] at this
  obtain ⟨g1, g2⟩ := hf.stats.2 _ (List.getElem_mem hi)
  obtain ⟨g3, g4, g5⟩ := hl _ (List.getElem_mem hi')
  exact ⟨yh g1 g3 g4 g5 this.2.1, yh g2 g3 g4 g5 this.2.2.1⟩
 ·rw [dif_neg hh] at h; cases h
end Go.Proofs.YtfnmbpecdjncfaaGreatDoor
namespace Go.Proofs.YtfnmbpecdjncfaaGreatDoor
open Go Go.SX Go.SX.Cal
structure Hk (s : ak) : Prop where
 files : s.files.length < 1000000000 ∧ ∀ f ∈ s.files, Lo f
 dat : s.dat.length < 1000000000 ∧ ∀ d ∈ s.dat, d.rows.length < 1000000000
 dby : s.dby.length < 1000000000 ∧ ∀ d ∈ s.dby, d.ids.length < 1000000000 ∧ d.keys.length < 1000000000 ∧ ∀ k ∈ d.keys, k.length < 1000000000 ∧ ∀ v ∈ k, d9 v < 1000000000
structure s7 (m : aO) : Prop where
 schemas : m.schemas.length < 1000000000 ∧ ∀ s ∈ m.schemas, d8 s < 1000000000 - 1
 specs : m.specs.length < 1000000000 ∧ ∀ s ∈ m.specs, s.fields.length < 1000000000
 snaps : m.snapshots.length < 1000000000 ∧ ∀ s ∈ m.snapshots, Hk s
 refs : m.refs.length < 1000000000 ∧ ∀ r ∈ m.refs, r.name.size < 1000000000
 props : m.props.length < 1000000000 ∧ ∀ p ∈ m.props, p.name.size < 1000000000 ∧ p.value.size < 100000000
theorem BR {Z : Type} {z : Z} {n : Nat} {L : Nat → Int → Option (Int × Z)} {p : Nat → Bool} (h0 : ∀ k, L (k + 1) (n : Int) = some (-1, z)) (h1 : ∀ k i, i < n → L (k + 1) (i : Int) = al (p i) (some ((i : Int), z)) (L k ((i + 1 : Nat) : Int))) :
  ∀ m k i, i + m = n → m < k → ∃ r, L k (i : Int) = some (r, z) ∧ (decide ((0 : Int) ≤ r) = true ↔ ∃ j, i ≤ j ∧ j < n ∧ p j = true)
 | 0, k, i, hi, hk => by
  obtain ⟨k, rfl⟩ := fu hk
  have : i = n := by omega
  subst this
  exact ⟨-1, h0 k, by simp; intro j h1 h2; omega⟩
 | m + 1, k, i, hi, hk => by
  obtain ⟨k, rfl⟩ := fu hk
  rw [h1 k i (by omega)]
  cases hp : p i with
  | true => exact ⟨i, rfl, by simp; exact ⟨i, Nat.le_refl _, by omega, hp⟩⟩
  | false =>
   obtain ⟨r, e1, e2⟩ := BR h0 h1 m k (i + 1) (by omega) (by omega)
   refine ⟨r, e1, e2.trans ⟨fun ⟨j, a, b, c⟩ => ⟨j, by omega, b, c⟩, fun ⟨j, a, b, c⟩ => ⟨j, ?_, b, c⟩⟩⟩
   by_cases e : j = i
   ·subst e; rw [hp] at c; cases c
   ·omega
theorem sK {Z : Type} {z : Z} {n : Nat} {L : Nat → Int → Option (Int × Z)} {p : Nat → Bool} (hn : n < 1000000000) (h0 : ∀ k, L (k + 1) (n : Int) = some (-1, z)) (h1 : ∀ k i, i < n → L (k + 1) (i : Int) = al (p i) (some ((i : Int), z)) (L k ((i + 1 : Nat) : Int))) :
  ∃ r, L bq (0 : Int) = some (r, z) ∧ decide ((0 : Int) ≤ r) = kP p n := by
 obtain ⟨r, e1, e2⟩ := BR h0 h1 n bq 0 (by omega) (by rw [bl]; omega)
 refine ⟨r, e1, mL (e2.trans (Iff.trans ?_ eO.symm))⟩
 exact ⟨fun ⟨j, _, b, c⟩ => ⟨j, b, c⟩, fun ⟨j, b, c⟩ => ⟨j, Nat.zero_le _, b, c⟩⟩
theorem BZ {α : Type} {l : List α} {x : Int} (h0 : 0 ≤ x) (h1 : x ≤ (l.length : Int) - 1) : ∃ (h : x.toNat < l.length), at? l x = some l[x.toNat] ∧ l[x.toNat]? = some l[x.toNat] := by
 have h : x.toNat < l.length := by omega
 refine ⟨h, ?_, List.getElem?_eq_getElem h⟩
 have := aZ h
 rwa [show ((x.toNat : Nat) : Int) = x by omega] at this
def vo (fs : List ab) (sp : cN) (j : Nat) : Bool := match sp.fields[j]? with | some x => !Gw fs x.source | none => false
noncomputable def FK (fs : List ab) (sp : cN) (f : ah) (j : Nat) : Int := match sp.fields[j]?, f.part[j]? with
 | some x, some v => mO (er ((tE x.transform (B8 fs x.source).type).2 != 0) 2) (ck (tE x.transform (B8 fs x.source).type).1 v)
 | _, _ => 0
noncomputable def D9 (fs : List ab) (sp : cN) (f : ah) : Int :=
 mO (er (kP (vo fs sp) sp.fields.length) 9) (mO (er ((f.part.length : Int) != (sp.fields.length : Int)) 1) (mO (fe (FK fs sp f) sp.fields.length 0) (G0 f (HM fs))))
def Ll (m : aO) (f : ah) : Bool :=
 !decide (0 ≤ f.schema ∧ f.schema ≤ (m.schemas.length : Int) - 1) || (!decide (0 ≤ f.spec ∧ f.spec ≤ (m.specs.length : Int) - 1) || (!decide (1 ≤ f.rows ∧ f.rows ≤ 2000) || decide (f.seq < 1)))
noncomputable def zq (m : aO) (f : ah) : Int :=
 mO (er (!JG f.name) 4) (mO (er (Ll m f) 3) (match m.schemas[f.schema.toNat]?, m.specs[f.spec.toNat]? with | some fs, some sp => D9 fs sp f | _, _ => 0))
theorem HZ {m : aO} {f : ah} (h : Ll m f = false) : ∃ fs sp, at? m.schemas f.schema = some fs ∧ at? m.specs f.spec = some sp ∧ m.schemas[f.schema.toNat]? = some fs ∧ m.specs[f.spec.toNat]? = some sp ∧ fs ∈ m.schemas ∧ sp ∈ m.specs := by
 unfold Ll at h
 simp only [Bool.or_eq_false_iff, Bool.not_eq_false', decide_eq_true_eq] at h
 obtain ⟨⟨a1, a2⟩, ⟨b1, b2⟩, _⟩ := h
 obtain ⟨h1, h2, h3⟩ := BZ a1 a2
 obtain ⟨g1, g2, g3⟩ := BZ b1 b2
 exact ⟨_, _, h2, g2, h3, g3, List.getElem_mem h1, List.getElem_mem g1⟩
theorem LU {fs : List ab} (h : d8 fs < 1000000000 - 1) : ∀ x ∈ HM fs, jm x.type < 1000000000 ∧ x.type.kind ≠ 6 ∧ x.type.kind ≠ 7 := by
 intro x hx
 obtain ⟨h1, h2, h3⟩ := KO hx
 have a := gL h1
 have b := gq x
 exact ⟨by omega, h2, h3⟩
theorem BH {fs : List ab} (h : d8 fs < 1000000000 - 1) {g : ab} (hg : g ∈ fs) : jm g.type < 1000000000 := by
 have a := gL hg
 have b := gq g
 omega
theorem NT {fs : List ab} {sp : cN} (hn : fs.length < 1000000000) (hs : sp.fields.length < 1000000000) : bg sp.fields fs = some (kP (vo fs sp) sp.fields.length, fs) := by
 unfold bg cj
 obtain ⟨r, r1, r2⟩ := sK (z := fs) (L := fun k i => aB sp.fields k fs i) (n := sp.fields.length) (p := vo fs sp) hs
  (fun k => by rw [aB, w8, iF]; rfl)
  (fun k i hi => by
   obtain ⟨t1, _, t3, _⟩ := xc hn sp.fields[i].source
   rw [aB, bw hi, iT, aZ hi, bS, tD, t1, bS, bS, t3, aK hi hs]
   unfold vo
   rw [List.getElem?_eq_getElem hi])
 have r1 : aB sp.fields bq fs (0 : Int) = some (r, fs) := r1
 rw [r1, bS]
 show some (decide (0 ≤ r), fs) = _
 rw [r2]
theorem MQ {fs : List ab} {sp : cN} {f : ah} (hf : Lo f) (hfs : d8 fs < 1000000000 - 1) (hs : sp.fields.length < 1000000000) :
  (aE (bg sp.fields fs) fun r5 => al r5.1 (some (9 : Int)) (al ((f.part.length : Int) != (sp.fields.length : Int)) (some (1 : Int)) (gX f sp r5 bq (0 : Int)))) = some (D9 fs sp f) := by
 have hn : fs.length < 1000000000 := by have := dQ fs; omega
 rw [NT hn hs, bS]
 unfold D9
 show al (kP (vo fs sp) sp.fields.length) _ _ = _
 rw [jp (by decide), jp (by decide), ← jP, ← ei, ← ei, ← ei]
 refine jZ fun e1 => jZ fun e2 => ?_
 have hl : ∀ (i : Nat) (h : i < sp.fields.length), Gw fs sp.fields[i].source = true := fun i h => by
  rw [By (by decide), ← Bool.not_eq_true, eO] at e1
  cases hb : Gw fs sp.fields[i].source with
  | true => rfl
  | false => exact absurd ⟨i, h, by unfold vo; rw [List.getElem?_eq_getElem h]; simp [hb]⟩ e1
 have hp : f.part.length = sp.fields.length := by
  rw [By (by decide), bne_eq_false_iff_eq] at e2; omega
 rw [pT (L := gX f sp (kP (vo fs sp) sp.fields.length, fs)) (n := sp.fields.length) (fin := some (G0 f (HM fs))) (c := FK fs sp f) hs
  (fun k => by
   rw [gX, w8, iF]
   unfold sA
   show aE (pA fs f) _ = _
   rw [O4 fs f hn, OZ hf (LU hfs), bS])
  (fun k i hi => by
   obtain ⟨t1, _, t3, t4⟩ := xc hn sp.fields[i].source
   obtain ⟨t5, t6⟩ := t4 (hl i hi)
   obtain ⟨u1, _, u3, u4⟩ := Jo sp.fields[i].transform (BH hfs t6)
   have hi' : i < f.part.length := by omega
   rw [gX, bw hi, iT, aZ hi, bS]
   show aE (ir fs _) _ = _
   rw [t1, bS]
   show aE (at? fs _) _ = _
   rw [t5, bS, u1, bS, jp (by decide), aZ hi', bS, G6 (hf.part.2 _ (List.getElem_mem hi')) u3, bS, lK, aK hi hs, ei]
   unfold FK
   rw [List.getElem?_eq_getElem hi, List.getElem?_eq_getElem hi'])]
 rw [jP]
theorem Nj {m : aO} {f : ah} (hm : s7 m) (hf : Lo f) : tM m f = some (zq m f) := by
 unfold tM zq
 rw [Qp _ hf.name, bS, jp (by decide), ← jP, ← ei, ← ei]
 refine jZ fun _ => ?_
 have hj : ∀ x, x = Ll m f → jQ m f x = ee (er (Ll m f) 3) (ee (match m.schemas[f.schema.toNat]?, m.specs[f.spec.toNat]? with | some fs, some sp => D9 fs sp f | _, _ => 0) (some 0)) := by
  rintro x rfl
  unfold jQ
  rw [jp (by decide)]
  refine jZ fun e => ?_
  obtain ⟨fs, sp, h1, h2, h3, h4, h5, h6⟩ := HZ ((By (by decide)).1 e)
  rw [h1, h2, h3, h4, bS, bS, MQ hf (hm.schemas.2 _ h5) (hm.specs.2 _ h6), jP]
 rw [jx, bS, oK hm.schemas.1]
 have hr : Ll m f = Ll m f := rfl
 conv at hr => rhs; unfold Ll
 cases a : decide (0 ≤ f.schema ∧ f.schema ≤ (m.schemas.length : Int) - 1) with
 | false => rw [a] at hr; rw [Bool.not_false, iT]; exact hj true (by rw [hr]; rfl)
 | true =>
  rw [a] at hr
  rw [Bool.not_true, iF, jx, bS, oK hm.specs.1]
  cases b : decide (0 ≤ f.spec ∧ f.spec ≤ (m.specs.length : Int) - 1) with
  | false => rw [b] at hr; rw [Bool.not_false, iT]; exact hj true (by rw [hr]; rfl)
  | true =>
   rw [b] at hr
   rw [Bool.not_true, iF, jx, bS]
   cases c : decide (1 ≤ f.rows ∧ f.rows ≤ 2000) with
   | false => rw [c] at hr; rw [Bool.not_false, iT]; exact hj true (by rw [hr]; rfl)
   | true => rw [c] at hr; rw [Bool.not_true, iF]; exact hj _ (by rw [hr]; rfl)
theorem LP {m : aO} {f : ah} (hm : s7 m) (hf : Lo f) (h : zq m f = 0) : KT f := by
 unfold zq at h
 rw [nc, nc] at h
 obtain ⟨_, h2, h3⟩ := h
 obtain ⟨fs, sp, _, _, g3, g4, g5, g6⟩ := HZ ((By (by decide)).1 h2)
 rw [g3, g4] at h3
 simp only at h3
 unfold D9 at h3
 rw [nc, nc, nc] at h3
 obtain ⟨e1, e2, e3, e4⟩ := h3
 have hfs := hm.schemas.2 _ g5
 have hn : fs.length < 1000000000 := by have := dQ fs; omega
 refine ⟨fun v hv => ?_, NI hf (LU hfs) e4⟩
 have hp : f.part.length = sp.fields.length := by
  rw [By (by decide), bne_eq_false_iff_eq] at e2; omega
 obtain ⟨i, hi', rfl⟩ := List.mem_iff_getElem.1 hv
 have hi : i < sp.fields.length := by omega
 have hb : Gw fs sp.fields[i].source = true := by
  rw [By (by decide), ← Bool.not_eq_true, eO] at e1
  cases hb : Gw fs sp.fields[i].source with
  | true => rfl
  | false => exact absurd ⟨i, hi, by unfold vo; rw [List.getElem?_eq_getElem hi]; simp [hb]⟩ e1
 obtain ⟨_, _, _, t4⟩ := xc hn sp.fields[i].source
 obtain ⟨t5, t6⟩ := t4 hb
 obtain ⟨_, _, u3, u4⟩ := Jo sp.fields[i].transform (BH hfs t6)
 have := Jt.1 e3 i (Nat.zero_le _) (by omega)
 unfold FK at this
 rw [List.getElem?_eq_getElem hi, List.getElem?_eq_getElem hi'] at this
 simp only [nc] at this
 obtain ⟨k1, k2⟩ := u4 (by have := (By (by decide)).1 this.1; rwa [bne_eq_false_iff_eq] at this)
 exact yh (hf.part.2 _ hv) u3 k1 k2 this.2
end Go.Proofs.YtfnmbpecdjncfaaGreatDoor
namespace Go.SX.Cal
open Go Go.Lib
theorem FW : ∀ a : List UInt8, compareBytes a a = 0
 | [] => rfl
 | x :: a => by
  rw [compareBytes, if_neg (by simp [UInt8.lt_irrefl]), if_neg (by simp [UInt8.lt_irrefl])]
  exact FW a
theorem Gk : ∀ a b : List UInt8, compareBytes a b = 0 → a = b
 | [], [], _ => rfl
 | [], _ :: _, h => by simp [compareBytes] at h
 | _ :: _, [], h => by simp [compareBytes] at h
 | x :: a, y :: b, h => by
  rw [compareBytes] at h
  split at h
  ·simp at h
  ·split at h
   ·simp at h
   ·rename_i h1 h2
    rw [Gk a b h, UInt8.le_antisymm (UInt8.not_lt.1 h2) (UInt8.not_lt.1 h1)]
theorem F5 : ∀ a b : List UInt8, compareBytes a b = - compareBytes b a
 | [], [] => rfl
 | [], _ :: _ => rfl
 | _ :: _, [] => rfl
 | x :: a, y :: b => by
  rw [compareBytes, compareBytes]
  by_cases h1 : x < y
  ·rw [if_pos h1, if_neg (UInt8.lt_asymm h1), if_pos h1]
  ·rw [if_neg h1]
   by_cases h2 : y < x
   ·rw [if_pos h2, if_pos h2]; rfl
   ·rw [if_neg h2, if_neg h2, if_neg h1]; exact F5 a b
theorem Au : ∀ a b c : List UInt8, compareBytes a b < 0 → compareBytes b c < 0 → compareBytes a c < 0
 | [], [], _, h, _ => by simp [compareBytes] at h
 | [], _ :: _, [], _, h => by simp [compareBytes] at h
 | [], _ :: _, _ :: _, _, _ => by simp [compareBytes]
 | _ :: _, [], _, h, _ => by simp [compareBytes] at h
 | _ :: _, _ :: _, [], _, h => by simp [compareBytes] at h
 | x :: a, y :: b, z :: c, h, k => by
  rw [compareBytes] at h k ⊢
  by_cases h1 : x < y
  ·by_cases h2 : y < z
   ·rw [if_pos (UInt8.lt_trans h1 h2)]; decide
   ·rw [if_neg h2] at k
    by_cases h3 : z < y
    ·rw [if_pos h3] at k; simp at k
    ·have : y = z := UInt8.le_antisymm (UInt8.not_lt.1 h3) (UInt8.not_lt.1 h2)
     subst this
     rw [if_pos h1]; decide
  ·rw [if_neg h1] at h
   by_cases h4 : y < x
   ·rw [if_pos h4] at h; simp at h
   ·rw [if_neg h4] at h
    have : x = y := UInt8.le_antisymm (UInt8.not_lt.1 h4) (UInt8.not_lt.1 h1)
    subst this
    by_cases h2 : x < z
    ·rw [if_pos h2]; decide
    ·rw [if_neg h2] at k ⊢
     by_cases h3 : z < x
     ·rw [if_pos h3] at k; simp at k
     ·rw [if_neg h3] at k ⊢
      exact Au a b c h k
def rt (a b : ByteArray) : Int := compareBytes a.data.toList b.data.toList
theorem oL (a : ByteArray) : rt a a = 0 := FW _
theorem yK {a b : ByteArray} (h : rt a b = 0) : a = b := by
 have := Gk _ _ h
 exact ByteArray.ext (Array.toList_inj.1 this)
theorem tP {a b c : ByteArray} (h : rt a b < 0) (k : rt b c < 0) : rt a c < 0 := Au _ _ _ h k
end Go.SX.Cal
namespace Go.Proofs.YtfnmbpecdjncfaaGreatDoor
open Go Go.SX Go.SX.Cal
theorem C9 {n : Nat} {L : Nat → Int → Option Int} {fin : Option Int} {c : Nat → Int} (h0 : (∀ j, j < n → c j = 0) → ∀ k, L (k + 1) (n : Int) = fin)
  (h1 : ∀ k i, i < n → (∀ j, j < i → c j = 0) → L (k + 1) (i : Int) = ee (c i) (L k ((i + 1 : Nat) : Int))) :
  ∀ m k i, i + m = n → m < k → (∀ j, j < i → c j = 0) → L k (i : Int) = ee (fe c m i) fin
 | 0, k, i, hi, hk, hp => by
  obtain ⟨k, rfl⟩ := fu hk
  have : i = n := by omega
  subst this
  rw [h0 hp]; rfl
 | m + 1, k, i, hi, hk, hp => by
  obtain ⟨k, rfl⟩ := fu hk
  rw [h1 k i (by omega) hp, fe, ← ei]
  refine jZ fun e => ?_
  exact C9 h0 h1 m k (i + 1) (by omega) (by omega) fun j hj => by
   by_cases h : j = i
   ·subst h; exact e
   ·exact hp j (by omega)
theorem KZ {n : Nat} {L : Nat → Int → Option Int} {fin : Option Int} {c : Nat → Int} (hn : n < 1000000000) (h0 : (∀ j, j < n → c j = 0) → ∀ k, L (k + 1) (n : Int) = fin)
  (h1 : ∀ k i, i < n → (∀ j, j < i → c j = 0) → L (k + 1) (i : Int) = ee (c i) (L k ((i + 1 : Nat) : Int))) : L bq (0 : Int) = ee (fe c n 0) fin :=
 C9 h0 h1 n bq 0 (by omega) (by rw [bl]; omega) fun j hj => by omega
def DA (l : List Int) (j : Nat) : Bool := match l[j]?, l[j - 1]? with | some a, some b => decide (a ≤ b) | _, _ => false
def LI (l : List Int) : Bool := decide (∃ j, j < l.length - 1 ∧ DA l (1 + j) = true)
def zH (l : List Int) : Bool := decide (0 < l.length) && !LI l
theorem IE {l : List Int} (hn : l.length < 1000000000) {L : Nat → Int → Option Bool} (hz : l.length = 0 → ∀ k, L (k + 1) 1 = some false) (h0 : 0 < l.length → ∀ k, L (k + 1) (l.length : Int) = some true)
  (h1 : ∀ k i, 0 < i → i < l.length → L (k + 1) (i : Int) = al (DA l i) (some false) (L k ((i + 1 : Nat) : Int))) : L bq (1 : Int) = some (zH l) := by
 unfold zH
 by_cases hl : l.length = 0
 ·rw [Ap, hz hl]; simp [hl]
 ·have key : ∀ m k i, i + m = l.length → 0 < i → m < k → L k (i : Int) = some (!decide (∃ j, j < m ∧ DA l (i + j) = true)) := by
   intro m
   induction m with
   | zero =>
    intro k i hi hp hk
    obtain ⟨k, rfl⟩ := fu hk
    have : i = l.length := by omega
    rw [this, h0 (by omega)]; simp
   | succ m ih =>
    intro k i hi hp hk
    obtain ⟨k, rfl⟩ := fu hk
    rw [h1 k i hp (by omega)]
    cases hd : DA l i with
    | true => rw [iT, decide_eq_true ⟨0, by omega, by simpa using hd⟩]; rfl
    | false =>
     rw [iF, ih k (i + 1) (by omega) (by omega) (by omega)]
     congr 2
     refine decide_eq_decide.2 ⟨fun ⟨j, a, b⟩ => ⟨j + 1, by omega, by rw [← b]; congr 1; omega⟩, fun ⟨j, a, b⟩ => ?_⟩
     cases j with
     | zero => rw [Nat.add_zero, hd] at b; cases b
     | succ j => exact ⟨j, by omega, by rw [← b]; congr 1; omega⟩
  have := key (l.length - 1) bq 1 (by omega) (by omega) (by rw [bl]; omega)
  have h2 : L bq (1 : Int) = _ := this
  rw [h2, decide_eq_true (show 0 < l.length by omega), Bool.true_and]
  rfl
theorem Gc {l : List Int} {i : Nat} (hi : i < l.length) (h0 : 0 < i) : DA l i = decide (l[i] ≤ l[i - 1]) := by
 unfold DA
 rw [List.getElem?_eq_getElem hi, List.getElem?_eq_getElem (show i - 1 < l.length by omega)]
theorem J3 {l : List Int} (hn : l.length < 1000000000) : mo l = some (zH l) := by
 unfold mo
 exact IE hn (L := fD l)
  (fun h k => by
   rw [fD, h]
   show some (decide ((0 : Int) < (l.length : Int))) = _
   rw [h]; rfl)
  (fun h k => by
   rw [fD, w8, iF]
   show some (decide ((0 : Int) < (l.length : Int))) = _
   rw [decide_eq_true (by omega)])
  (fun k i h0 hi => by rw [fD, bw hi, iT, aZ hi, bS, tg hi h0 hn, bS, Gc hi h0, aK hi hn])
def HL (fs : List ab) (id : Int) : Bool := Gw fs id && CD (B8 fs id)
theorem Iu {fs : List ab} (hn : fs.length < 1000000000) (id : Int) : ∃ t, lf fs id = some (t, HL fs id) ∧ (HL fs id = true → t = (B8 fs id).type ∧ B8 fs id ∈ fs) := by
 obtain ⟨t1, _, t3, t4⟩ := xc hn id
 unfold lf
 rw [t1, bS, t3]
 unfold HL
 cases hb : Gw fs id with
 | false => exact ⟨⟨0, 0, []⟩, rfl, fun h => by cases h⟩
 | true =>
  obtain ⟨t5, t6⟩ := t4 hb
  rw [Bool.not_true, iF, t5, bS, CL, bS]
  unfold mC
  show ∃ t, al (!CD (B8 fs id)) _ _ = _ ∧ _
  cases hf : CD (B8 fs id) with
  | false => exact ⟨⟨0, 0, []⟩, rfl, fun h => by cases h⟩
  | true => rw [Bool.not_true, iF, t5, bS]; exact ⟨_, rfl, fun _ => ⟨rfl, t6⟩⟩
theorem IQ {a b : List aa} (ha : ∀ v ∈ a, Lv v) (hb : ∀ v ∈ b, Lv v) (hn : a.length < 1000000000) : jK a b = some (Ord.cmpL a b) := by
 unfold jK
 rw [Ap, aw]
 have hc : ∀ x ∈ a, ∀ y ∈ b, dD 1152921504606846975 x y = some (Ord.cmpV x y) := fun x hx y hy => by
  have h := (ha x hx).size
  exact Ord.compare_eq 257 x y _ h (by omega) (ha x hx).wf (hb y hy).wf (by omega)
 have := Ord.cmpf_loop (dD 1152921504606846975) a b (by omega) hc bq 0 (Nat.zero_le _) (Nat.zero_le _) (by rw [bl]; omega)
 rw [show ((0 : Nat) : Int) = 0 from rfl, List.drop_zero, List.drop_zero] at this
 rw [this, bS]
structure LY (ids : List Int) (keys : List (List aa)) : Prop where
 nid : ids.length < 1000000000
 nkey : keys.length < 1000000000
 key : ∀ k ∈ keys, k.length < 1000000000 ∧ ∀ v ∈ k, d9 v < 1000000000
noncomputable def Dd (fs : List ab) (ids : List Int) (k : List aa) (j : Nat) : Int := match ids[j]?, k[j]? with
 | some id, some v => ck (B8 fs id).type v
 | _, _ => 0
noncomputable def Jy (fs : List ab) (ids : List Int) (keys : List (List aa)) (j : Nat) : Int := match keys[j]? with
 | some k => mO (er ((k.length : Int) != (ids.length : Int)) 1) (mO (fe (Dd fs ids k) ids.length 0) (er (decide (0 < j) && (match keys[j - 1]? with | some p => decide (0 ≤ Ord.cmpL p k) | none => false)) 1))
 | none => 0
def A3 (fs : List ab) (ids : List Int) (j : Nat) : Bool := match ids[j]? with | some id => !HL fs id | none => false
noncomputable def D5 (fs : List ab) (ids : List Int) (keys : List (List aa)) : Int :=
 mO (er ((ids.length : Int) == 0) 9) (mO (er (kP (A3 fs ids) ids.length) 9) (mO (er (LI ids) 1) (mO (er (decide ((200 : Int) < (keys.length : Int))) 7) (mO (er ((keys.length : Int) == 0) 9) (fe (Jy fs ids keys) keys.length 0)))))
theorem Mh {fs : List ab} {ids : List Int} (h : er (kP (A3 fs ids) ids.length) 9 = 0) {i : Nat} (hi : i < ids.length) : HL fs ids[i] = true := by
 rw [By (by decide), ← Bool.not_eq_true, eO] at h
 cases hb : HL fs ids[i] with
 | true => rfl
 | false => exact absurd ⟨i, hi, by unfold A3; rw [List.getElem?_eq_getElem hi]; simp [hb]⟩ h
theorem Fl {fs : List ab} {ids : List Int} {keys : List (List aa)} (hz : LY ids keys) (hfs : d8 fs < 1000000000 - 1) (hl : ∀ (i : Nat) (h : i < ids.length), HL fs ids[i] = true) {j : Nat} (hj : j < keys.length)
  (h1 : er ((keys[j].length : Int) != (ids.length : Int)) 1 = 0) (h2 : fe (Dd fs ids keys[j]) ids.length 0 = 0) : ∀ v ∈ keys[j], Lv v := by
 have hn : fs.length < 1000000000 := by have := dQ fs; omega
 have hp : keys[j].length = ids.length := by rw [By (by decide), bne_eq_false_iff_eq] at h1; omega
 intro v hv
 obtain ⟨i, hi, rfl⟩ := List.mem_iff_getElem.1 hv
 have hi' : i < ids.length := by omega
 have := Jt.1 h2 i (Nat.zero_le _) (by omega)
 unfold Dd at this
 rw [List.getElem?_eq_getElem hi', List.getElem?_eq_getElem hi] at this
 simp only at this
 obtain ⟨t, _, t2⟩ := Iu hn ids[i]
 obtain ⟨_, t3⟩ := t2 (hl i hi')
 have hlf := hl i hi'
 unfold HL CD at hlf
 simp only [Bool.and_eq_true, decide_eq_true_eq] at hlf
 exact yh ((hz.key _ (List.getElem_mem hj)).2 _ hv) (BH hfs t3) hlf.2.1 hlf.2.2 this
theorem wK {fs : List ab} {ids : List Int} {keys : List (List aa)} {j : Nat} (hj : j < keys.length) : Jy fs ids keys j = mO (er ((keys[j].length : Int) != (ids.length : Int)) 1) (mO (fe (Dd fs ids keys[j]) ids.length 0) (er (decide (0 < j) && (match keys[j - 1]? with | some p => decide (0 ≤ Ord.cmpL p keys[j]) | none => false)) 1)) := by
 unfold Jy
 rw [List.getElem?_eq_getElem hj]
theorem Li {d : aF} {fs : List ab} (hz : LY d.ids d.keys) (hfs : d8 fs < 1000000000 - 1) (hl : ∀ (i : Nat) (h : i < d.ids.length), HL fs d.ids[i] = true) : fj d true fs bq (0 : Int) = some (fe (Jy fs d.ids d.keys) d.keys.length 0) := by
 have hn : fs.length < 1000000000 := by have := dQ fs; omega
 rw [KZ (L := fj d true fs) (n := d.keys.length) (fin := some 0) (c := Jy fs d.ids d.keys) hz.nkey
  (fun _ k => by rw [fj, w8, iF]; rfl)
  (fun k i hi hp => by
   obtain ⟨z1, z2⟩ := hz.key _ (List.getElem_mem hi)
   rw [fj, bw hi, iT, aZ hi, bS, jp (by decide), wK hi, ← ei, ← ei]
   refine jZ fun e1 => ?_
   have hp' : d.keys[i].length = d.ids.length := by rw [By (by decide), bne_eq_false_iff_eq] at e1; omega
   rw [pT (L := kE (fj d true fs k) d true fs (i : Int) d.keys[i]) (n := d.ids.length) (fin := rZ (fj d true fs k) d true (i : Int) d.keys[i]) (c := Dd fs d.ids d.keys[i]) hz.nid
    (fun q => by rw [kE, hp', w8, iF])
    (fun q j hj => by
     have hj' : j < d.keys[i].length := by omega
     obtain ⟨t, u1, u2⟩ := Iu hn d.ids[j]
     obtain ⟨rfl, u3⟩ := u2 (hl j hj)
     rw [kE, bw hj', iT, aZ hj', bS, aZ hj, bS, u1, bS]
     show aE (gx (B8 fs d.ids[j]).type _) _ = _
     rw [G6 (z2 _ (List.getElem_mem hj')) (BH hfs u3), bS, lK, aK hj hz.nid]
     unfold Dd
     rw [List.getElem?_eq_getElem hj, List.getElem?_eq_getElem hj'])]
   refine jZ fun e2 => ?_
   have hk := Fl hz hfs hl hi e1 e2
   unfold rZ pL
   rw [iT, aK hi hz.nkey]
   by_cases h0 : 0 < i
   ·have hi1 : i - 1 < d.keys.length := by omega
    have hprev := hp (i - 1) (by omega)
    rw [wK hi1, nc, nc] at hprev
    have hk' := Fl hz hfs hl hi1 hprev.1 hprev.2.1
    rw [decide_eq_true (show (0 : Int) < (i : Int) by omega), iT, tg hi h0 hz.nkey, bS, IQ hk' hk (hz.key _ (List.getElem_mem hi1)).1, bS, jp (by decide), decide_eq_true h0, List.getElem?_eq_getElem hi1, Bool.true_and]
   ·rw [decide_eq_false (show ¬ (0 : Int) < (i : Int) by omega), decide_eq_false h0]; rfl)]
 exact jP _
theorem Kv {fs : List ab} {ids : List Int} (hn : fs.length < 1000000000) (hs : ids.length < 1000000000) : cf ids fs = some (kP (A3 fs ids) ids.length, fs) := by
 unfold cf eM
 obtain ⟨r, r1, r2⟩ := sK (z := fs) (L := fun k i => ba ids k fs i) (n := ids.length) (p := A3 fs ids) hs
  (fun k => by rw [ba, w8, iF]; rfl)
  (fun k i hi => by
   obtain ⟨t, t1, _⟩ := Iu hn ids[i]
   rw [ba, bw hi, iT, aZ hi, bS, wX, t1, bS, bS, aK hi hs]
   unfold A3
   rw [List.getElem?_eq_getElem hi])
 have r1 : ba ids bq fs (0 : Int) = some (r, fs) := r1
 rw [r1, bS]
 show some (decide (0 ≤ r), fs) = _
 rw [r2]
theorem KL {ids : List Int} (h : ids.length ≠ 0) : er (!zH ids) 1 = er (LI ids) 1 := by
 unfold zH; rw [decide_eq_true (show 0 < ids.length by omega), Bool.true_and, Bool.not_not]
theorem OB {d : aF} {fs : List ab} (hz : LY d.ids d.keys) (hfs : d8 fs < 1000000000 - 1) :
  (al ((d.ids.length : Int) == (0 : Int)) (mh d true fs true) (aE (cf d.ids fs) fun r2 => mh d true r2.2 r2.1)) = some (D5 fs d.ids d.keys) := by
 have hn : fs.length < 1000000000 := by have := dQ fs; omega
 unfold D5
 by_cases h0 : d.ids.length = 0
 ·rw [show ((d.ids.length : Int) == 0) = true by simp [h0], iT]; rfl
 ·rw [show ((d.ids.length : Int) == 0) = false from beq_eq_false_iff_ne.2 (by omega), iF, JL, H8, Kv hn hz.nid, bS]
  show mh d true fs (kP (A3 fs d.ids) d.ids.length) = _
  unfold mh
  rw [jp (by decide), J3 hz.nid, bS, jp (by decide), KL h0, jp (by decide), jp (by decide), ← jP, ← ei, ← ei, ← ei, ← ei]
  refine jZ fun e => jZ fun _ => jZ fun _ => jZ fun _ => ?_
  rw [Li hz hfs fun i h => Mh e h, jP]
end Go.Proofs.YtfnmbpecdjncfaaGreatDoor
namespace Go.Proofs.YtfnmbpecdjncfaaGreatDoor
open Go Go.SX Go.SX.Cal
theorem Mr : ∀ a b : List UInt8, Op.bytesLess a b = decide (Lib.compareBytes a b < 0)
 | [], [] => rfl
 | [], _ :: _ => rfl
 | _ :: _, [] => rfl
 | x :: a, y :: b => by
  rw [Op.bytesLess, Lib.compareBytes, Mr a b]
  by_cases h1 : x < y
  ·rw [if_pos h1]; simp [h1]
  ·rw [if_neg h1]
   by_cases h2 : y < x
   ·have : (x == y) = false := by
     rw [beq_eq_false_iff_ne]; intro e; subst e; exact UInt8.lt_irrefl _ h2
    rw [if_pos h2]; simp [h1, this]
   ·have : x = y := UInt8.le_antisymm (UInt8.not_lt.1 h2) (UInt8.not_lt.1 h1)
    subst this
    rw [if_neg h2]; simp [h1]
theorem JC (x n : ByteArray) : (x.toList == n.toList) = decide (x = n) := by
 rw [ByteArray.toList_eq, ByteArray.toList_eq, Bool.eq_iff_iff, beq_iff_eq, decide_eq_true_iff]
 exact ⟨fun h => ByteArray.ext (Array.toList_inj.1 h), fun h => by rw [h]⟩
def Gv (a b : ByteArray) : Bool := Op.bytesLess a.toList b.toList || a.toList == b.toList
theorem Hp {a b : ByteArray} (h : Gv a b = false) : rt b a < 0 := by
 unfold Gv at h
 rw [Bool.or_eq_false_iff, JC, ByteArray.toList_eq, ByteArray.toList_eq, Mr] at h
 obtain ⟨h1, h2⟩ := h
 have h1 : ¬ rt a b < 0 := by simpa [rt] using h1
 have h2 : a ≠ b := by simpa using h2
 have h3 : rt a b = -rt b a := F5 _ _
 have h4 : rt b a ≠ 0 := fun h => h2 (yK h).symm
 omega
def jE (fs : List ah) (n : ByteArray) : Option ah := fs.find? fun f => decide (f.name = n)
def Ky : ah := ⟨ByteArray.empty, 0, 0, [], 0, 0, []⟩
def wA (fs : List ah) : Prop := ∀ (i j : Nat) (hj : j < fs.length) (hij : i < j), rt (fs[i]'(by omega)).name fs[j].name < 0
theorem tP {a b c : ByteArray} (h : rt a b < 0) (k : rt b c < 0) : rt a c < 0 := Au _ _ _ h k
theorem If {fs : List ah} (h : ∀ (j : Nat) (hj : j < fs.length), 0 < j → rt (fs[j - 1]'(by omega)).name fs[j].name < 0) : wA fs := by
 intro i j
 induction j with
 | zero => intro hj hij; omega
 | succ j ih =>
  intro hj hij
  have h1 := h (j + 1) hj (by omega)
  simp only [Nat.add_sub_cancel] at h1
  by_cases e : i = j
  ·subst e; exact h1
  ·exact tP (ih (by omega) (by omega)) h1
theorem ve {fs : List ah} (hs : wA fs) {i : Nat} (hi : i < fs.length) : jE fs fs[i].name = some fs[i] := by
 unfold jE
 rw [List.find?_eq_some_iff_getElem]
 refine ⟨by simp, i, hi, rfl, fun j hj => ?_⟩
 have := hs j i hi hj
 simp only [Bool.not_eq_true', decide_eq_false_iff_not]
 intro e
 rw [e, oL] at this
 omega
theorem AZ {fs : List ah} {n : ByteArray} (h : ∀ (j : Nat) (hj : j < fs.length), fs[j].name ≠ n) : jE fs n = none := by
 unfold jE
 rw [List.find?_eq_none]
 intro f hf
 obtain ⟨i, hi, rfl⟩ := List.mem_iff_getElem.1 hf
 simpa using h i hi
theorem Qw (x : Int) : IntKind.u64.wrap x = x % 18446744073709551616 := by
 unfold IntKind.wrap; simp [IntKind.bits, IntKind.signed]
theorem Pc {fs : List ah} (hs : wA fs) (hn : fs.length < 1000000000) (n : ByteArray) : ∀ (m k i j : Nat), j - i = m → m < k → i ≤ j → j ≤ fs.length → (∀ (q : Nat) (hq : q < fs.length), q < i → rt fs[q].name n < 0) → (∀ (q : Nat) (hq : q < fs.length), j ≤ q → ¬ rt fs[q].name n < 0) →
  ∃ r b, am fs n k (i : Int) (j : Int) = some (r, b) ∧ b = (jE fs n).isSome ∧ (b = true → at? fs r = jE fs n) := by
 intro m
 induction m using Nat.strongRecOn with
 | ind m ih =>
  intro k i j hm hk hij hj hlo hhi
  obtain ⟨k, rfl⟩ := fu hk
  rw [am]
  by_cases h : i < j
  ·have hh : (i + j) / 2 < fs.length := by omega
   have e1 : ((IntKind.u64.wrap (IntKind.i64.wrap ((i : Int) + (j : Int)))).fdiv (2 ^ (min (1 : Int).toNat (IntKind.u64).bits))) = (((i + j) / 2 : Nat) : Int) := by
    rw [zQ (by omega) (by omega), Qw, show ((i : Int) + (j : Int)) % 18446744073709551616 = ((i + j : Nat) : Int) by omega]
    show ((i + j : Nat) : Int).fdiv (2 ^ 1) = _
    rw [Int.fdiv_eq_ediv_of_nonneg _ (by decide)]
    omega
   rw [bw h, iT, e1, bS, zQ (x := (((i + j) / 2 : Nat) : Int)) (by omega) (by omega), aZ hh, bS]
   unfold n7 strings_Compare
   rw [bS, bS]
   show ∃ r b, al (decide (rt fs[(i + j) / 2].name n < 0)) _ _ = _ ∧ _
   by_cases hc : rt fs[(i + j) / 2].name n < 0
   ·rw [decide_eq_true hc, iT, zQ (x := (((i + j) / 2 : Nat) : Int) + 1) (by omega) (by omega), show (((i + j) / 2 : Nat) : Int) + 1 = (((i + j) / 2 + 1 : Nat) : Int) by omega]
    refine ih (j - ((i + j) / 2 + 1)) (by omega) k _ j rfl (by omega) (by omega) hj (fun q hq hqi => ?_) hhi
    by_cases e : q = (i + j) / 2
    ·subst e; exact hc
    ·exact tP (hs q _ hh (by omega)) hc
   ·rw [decide_eq_false hc, iF]
    refine ih ((i + j) / 2 - i) (by omega) k i _ (by omega) (by omega) (by omega) (by omega) hlo (fun q hq hqj hlt => ?_)
    by_cases e : q = (i + j) / 2
    ·subst e; exact hc hlt
    ·exact hc (tP (hs _ q hq (by omega)) hlt)
  ·have hi : i = j := by omega
   clear ih
   subst hi
   rw [C3 (by omega), iF]
   unfold bK bh n7 strings_Compare
   by_cases hil : i < fs.length
   ·rw [bw hil, iT, aZ hil, bS, bS, bS]
    show ∃ r b, some ((i : Int), (rt fs[i].name n == 0)) = some (r, b) ∧ _
    refine ⟨_, _, rfl, ?_, fun hb => ?_⟩
    ·by_cases hz : rt fs[i].name n = 0
     ·have := yK hz
      rw [← this, ve hs hil, oL]; rfl
     ·rw [beq_eq_false_iff_ne.2 hz, AZ]
      ·rfl
      ·intro q hq e
       rcases Nat.lt_trichotomy q i with h1 | h1 | h1
       ·have := hlo q hq h1; rw [e, oL] at this; omega
       ·subst h1; exact hz (by rw [e, oL])
       ·have := hs i q hq h1
        rw [e] at this
        exact hhi i hil (Nat.le_refl _) this
    ·have hz : rt fs[i].name n = 0 := by simpa using hb
     have := yK hz
     rw [← this, ve hs hil, aZ hil]
   ·rw [C3 hil, iF]
    refine ⟨_, _, rfl, ?_, fun h => by cases h⟩
    rw [AZ]
    ·rfl
    ·intro q hq e
     have := hlo q hq (by omega)
     rw [e, oL] at this; omega
theorem Cn {s : ak} (hs : wA s.files) (hn : s.files.length < 1000000000) (n : ByteArray) : nG s n = some ((jE s.files n).getD Ky, (jE s.files n).isSome) := by
 unfold nG bQ
 obtain ⟨r, b, h1, h2, h3⟩ := Pc hs hn n s.files.length bq 0 s.files.length (by omega) (by rw [bl]; omega) (Nat.zero_le _) (Nat.le_refl _) (fun q hq h => by omega) (fun q hq h => by omega)
 have h1 : am s.files n bq (0 : Int) (s.files.length : Int) = _ := h1
 rw [h1, bS]
 show al (!b) _ (aE (at? s.files r) _) = _
 cases hb : jE s.files n with
 | none =>
  rw [hb] at h2
  rw [h2]; rfl
 | some f =>
  rw [hb] at h2 h3
  subst h2
  rw [h3 rfl]; rfl
noncomputable def NR (m : aO) (s : ak) (j : Nat) : Int := match s.files[j]? with
 | some f => mO (zq m f) (mO (er (decide (s.seq < f.seq) || decide (s.schema < f.schema)) 3) (er (decide (0 < j) && (match s.files[j - 1]? with | some p => Gv f.name p.name | none => false)) 1))
 | none => 0
theorem Kr {m : aO} {s : ak} (hm : s7 m) (hs : Hk s) : pE m s = some (fe (NR m s) s.files.length 0) := by
 unfold pE
 rw [pT (L := dt m s) (n := s.files.length) (fin := some 0) (c := NR m s) hs.files.1
  (fun k => by rw [dt, w8, iF]; rfl)
  (fun k i hi => by
   rw [dt, bw hi, iT, aZ hi, bS, Nj hm (hs.files.2 _ (List.getElem_mem hi)), bS, lK]
   unfold NR
   rw [List.getElem?_eq_getElem hi]
   simp only
   rw [← ei, ← ei]
   refine jZ fun _ => ?_
   unfold n5 oc
   rw [aK hi hs.files.1]
   have hj : ∀ x, al x (some (3 : Int)) (al (decide ((0 : Int) < (i : Int))) (aE (at? s.files (IntKind.i64.wrap ((i : Int) - 1))) fun e2 => aE (some (Op.bytesLess s.files[i].name.toList e2.name.toList || s.files[i].name.toList == e2.name.toList)) fun y1 => al y1 (some 1) (dt m s k ((i + 1 : Nat) : Int))) (al false (some 1) (dt m s k ((i + 1 : Nat) : Int)))) =
     ee (er x 3) (ee (er (decide (0 < i) && (match s.files[i - 1]? with | some p => Gv s.files[i].name p.name | none => false)) 1) (dt m s k ((i + 1 : Nat) : Int))) := by
    intro x
    rw [jp (by decide)]
    refine jZ fun _ => ?_
    by_cases h0 : 0 < i
    ·have hi1 : i - 1 < s.files.length := by omega
     rw [decide_eq_true (show (0 : Int) < (i : Int) by omega), iT, tg hi h0 hs.files.1, bS, bS, jp (by decide), decide_eq_true h0, List.getElem?_eq_getElem hi1, Bool.true_and]; rfl
    ·rw [decide_eq_false (show ¬ (0 : Int) < (i : Int) by omega), decide_eq_false h0]; rfl
   cases decide (s.seq < s.files[i].seq) with
   | true => exact hj true
   | false => exact hj _)]
 exact jP _
theorem Da {m : aO} {s : ak} (hm : s7 m) (hs : Hk s) (h : fe (NR m s) s.files.length 0 = 0) : wA s.files ∧ ∀ f ∈ s.files, KT f := by
 have key : ∀ (j : Nat) (hj : j < s.files.length), zq m s.files[j] = 0 ∧ (0 < j → Gv s.files[j].name (s.files[j - 1]'(by omega)).name = false) := by
  intro j hj
  have := Jt.1 h j (Nat.zero_le _) (by omega)
  unfold NR at this
  rw [List.getElem?_eq_getElem hj] at this
  simp only [nc] at this
  refine ⟨this.1, fun h0 => ?_⟩
  have h3 := (By (by decide)).1 this.2.2
  rw [decide_eq_true h0, List.getElem?_eq_getElem (show j - 1 < s.files.length by omega), Bool.true_and] at h3
  exact h3
 refine ⟨If fun j hj h0 => Hp ((key j hj).2 h0), fun f hf => ?_⟩
 obtain ⟨i, hi, rfl⟩ := List.mem_iff_getElem.1 hf
 exact LP hm (hs.files.2 _ hf) (key i hi).1
end Go.Proofs.YtfnmbpecdjncfaaGreatDoor
namespace Go.Proofs.YtfnmbpecdjncfaaGreatDoor
open Go Go.SX Go.SX.Cal
theorem Cj {l : List Int} (h : zH l = true) : 0 < l.length ∧ ∀ (i j : Nat) (hj : j < l.length) (hij : i < j), l[i]'(by omega) < l[j] := by
 unfold zH LI at h
 rw [Bool.and_eq_true, decide_eq_true_iff, Bool.not_eq_true', decide_eq_false_iff_not] at h
 obtain ⟨h0, h1⟩ := h
 refine ⟨h0, fun i j => ?_⟩
 induction j with
 | zero => intro hj hij; omega
 | succ j ih =>
  intro hj hij
  have hd : DA l (1 + j) = false := by
   cases hd : DA l (1 + j) with
   | false => rfl
   | true => exact absurd ⟨j, by omega, hd⟩ h1
  rw [Gc (by omega) (by omega), decide_eq_false_iff_not] at hd
  have e : l[1 + j]'(by omega) = l[j + 1] := by congr 1; omega
  have e2 : l[1 + j - 1]'(by omega) = l[j]'(by omega) := by congr 1; omega
  rw [e, e2] at hd
  by_cases hh : i = j
  ·subst hh; omega
  ·have := ih (by omega) (by omega); omega
def LN (l : List Int) (n : Int) : Bool := kP (fun j => match l[j]? with | some a => decide (a < 0) || decide (n ≤ a) | none => false) l.length
theorem JW {l : List Int} (h : zH l = true) (n : Int) : LN l n = (decide (l[0]'(Cj h).1 < 0) || decide (n ≤ l[l.length - 1]'(by have := (Cj h).1; omega))) := by
 obtain ⟨h0, h1⟩ := Cj h
 refine mL ?_
 unfold LN
 rw [eO, Bool.or_eq_true, decide_eq_true_iff, decide_eq_true_iff]
 constructor
 ·rintro ⟨j, hj, hp⟩
  rw [List.getElem?_eq_getElem hj] at hp
  simp only [Bool.or_eq_true, decide_eq_true_eq] at hp
  rcases hp with hp | hp
  ·left
   by_cases e : j = 0
   ·subst e; exact hp
   ·have := h1 0 j hj (by omega); omega
  ·right
   by_cases e : j = l.length - 1
   ·subst e; exact hp
   ·have := h1 j (l.length - 1) (by omega) (by omega); omega
 ·rintro (hp | hp)
  ·exact ⟨0, h0, by rw [List.getElem?_eq_getElem h0]; simp [hp]⟩
  ·exact ⟨l.length - 1, by omega, by rw [List.getElem?_eq_getElem (show l.length - 1 < l.length by omega)]; simp [hp]⟩
def O7 (l : List eg) (d : eg) (j : Nat) : Bool := decide (0 < j) && (match l[j - 1]? with | some p => Gv d.file p.file | none => false)
def Lt (s : ak) (j : Nat) : Int := match s.dat[j]? with
 | some d => (match jE s.files d.file with
  | none => 9
  | some f => mO (er (O7 s.dat d j || !zH d.rows) 1) (er (LN d.rows f.rows) 3))
 | none => 0
theorem Oj {m : aO} {s : ak} (hs : Hk s) (ho : wA s.files) : mU m s = ee (fe (Lt s) s.dat.length 0) (ko m s) := by
 unfold mU
 exact pT (L := cw m s) (n := s.dat.length) (c := Lt s) hs.dat.1
  (fun k => by rw [cw, w8, iF])
  (fun k i hi => by
   have hd := hs.dat.2 _ (List.getElem_mem hi)
   rw [cw, bw hi, iT, aZ hi, bS, Cn ho hs.files.1, bS]
   unfold Lt
   rw [List.getElem?_eq_getElem hi]
   simp only
   cases hf : jE s.files s.dat[i].file with
   | none => rfl
   | some f =>
    show al (!true) _ _ = _
    rw [Bool.not_true, iF, J3 hd, bS]
    rw [← ei]
    unfold kB mB
    rw [aK hi hs.dat.1]
    have hj : ∀ x, (zH s.dat[i].rows = false → x = true) → al x (some (1 : Int)) (aE (at? s.dat[i].rows (0 : Int)) fun e3 => al (decide (e3 < (0 : Int))) (al true (some (3 : Int)) (cw m s k ((i + 1 : Nat) : Int))) (aE (at? s.dat[i].rows (IntKind.i64.wrap ((s.dat[i].rows.length : Int) - (1 : Int)))) fun e4 => al (decide (f.rows ≤ e4)) (some (3 : Int)) (cw m s k ((i + 1 : Nat) : Int)))) =
      ee (er x 1) (ee (er (LN s.dat[i].rows f.rows) 3) (cw m s k ((i + 1 : Nat) : Int))) := by
     intro x hx
     rw [jp (by decide)]
     refine jZ fun e => ?_
     have e := (By (by decide)).1 e
     cases hr : zH s.dat[i].rows with
     | false => rw [hx hr] at e; cases e
     | true =>
      obtain ⟨h0, _⟩ := Cj hr
      have a0 := aZ h0
      rw [show ((0 : Nat) : Int) = 0 from rfl] at a0
      rw [a0, bS, oK hd, show ((s.dat[i].rows.length : Int) - 1) = ((s.dat[i].rows.length - 1 : Nat) : Int) by omega, aZ (show s.dat[i].rows.length - 1 < s.dat[i].rows.length by omega), bS, JW hr]
      cases decide (s.dat[i].rows[0] < 0) with
      | true => rfl
      | false => rw [iF, jp (by decide), Bool.false_or]
    unfold O7
    by_cases h0 : 0 < i
    ·have hi1 : i - 1 < s.dat.length := by omega
     rw [decide_eq_true (show (0 : Int) < (i : Int) by omega), iT, tg hi h0 hs.dat.1, bS, bS, decide_eq_true h0, List.getElem?_eq_getElem hi1, Bool.true_and]
     show al (Gv s.dat[i].file s.dat[i - 1].file) _ _ = ee (er (Gv s.dat[i].file s.dat[i - 1].file || !zH s.dat[i].rows) 1) _
     cases Gv s.dat[i].file s.dat[i - 1].file with
     | true => rw [iT, Bool.true_or]; exact hj true fun _ => rfl
     | false => rw [iF, Bool.false_or]; exact hj _ fun h => by rw [h]; rfl
    ·rw [decide_eq_false (show ¬ (0 : Int) < (i : Int) by omega), iF, decide_eq_false h0, Bool.false_and, Bool.false_or]
     exact hj _ fun h => by rw [h]; rfl)
def Mq (m : aO) (d : aF) : Bool := !decide (0 ≤ d.schema ∧ d.schema ≤ (m.schemas.length : Int) - 1) || decide (d.seq < 1)
noncomputable def OK (m : aO) (d : aF) : Int := mO (er (Mq m d) 3) (match m.schemas[d.schema.toNat]? with | some fs => D5 fs d.ids d.keys | none => 0)
theorem Md {m : aO} {d : aF} (h : Mq m d = false) : ∃ fs, at? m.schemas d.schema = some fs ∧ m.schemas[d.schema.toNat]? = some fs ∧ fs ∈ m.schemas := by
 unfold Mq at h
 simp only [Bool.or_eq_false_iff, Bool.not_eq_false', decide_eq_true_eq] at h
 obtain ⟨⟨a1, a2⟩, _⟩ := h
 obtain ⟨h1, h2, h3⟩ := BZ a1 a2
 exact ⟨_, h2, h3, List.getElem_mem h1⟩
theorem QB {m : aO} {d : aF} (hm : s7 m) (hz : LY d.ids d.keys) : xq m d true = some (OK m d) := by
 unfold xq OK
 rw [jx, bS, oK hm.schemas.1, ← jP, ← ei]
 have hj : ∀ x, x = Mq m d → pM m d true x = ee (er (Mq m d) 3) (ee (match m.schemas[d.schema.toNat]? with | some fs => D5 fs d.ids d.keys | none => 0) (some 0)) := by
  rintro x rfl
  unfold pM
  rw [jp (by decide)]
  refine jZ fun e => ?_
  obtain ⟨fs, h1, h2, h3⟩ := Md ((By (by decide)).1 e)
  rw [h1, h2, bS, OB hz (hm.schemas.2 _ h3), jP]
 have hr : Mq m d = Mq m d := rfl
 conv at hr => rhs; unfold Mq
 cases a : decide (0 ≤ d.schema ∧ d.schema ≤ (m.schemas.length : Int) - 1) with
 | false => rw [a] at hr; rw [Bool.not_false, iT]; exact hj true (by rw [hr]; rfl)
 | true => rw [a] at hr; rw [Bool.not_true, iF]; exact hj _ (by rw [hr]; rfl)
def H3 (fs : List ah) (q : Int) : Bool := kP (fun j => match fs[j]? with | some f => decide (f.seq < q) | none => false) fs.length
theorem Pz {fs : List ah} (hn : fs.length < 1000000000) (d : aF) : pz fs d = some (H3 fs d.seq) := by
 unfold pz b9 cp
 obtain ⟨r, r1, r2⟩ := zU (L := aJ fs d.schema d.ids d.keys d.seq) (n := fs.length) (p := fun j => match fs[j]? with | some f => decide (f.seq < d.seq) | none => false) hn
  (fun k => by rw [aJ, w8, iF]; rfl)
  (fun k i hi => by rw [aJ, bw hi, iT, aZ hi, bS, qf, bS, aK hi hn, List.getElem?_eq_getElem hi])
 rw [r1, bS, bS, r2]; rfl
noncomputable def Ji (m : aO) (s : ak) (j : Nat) : Int := match s.dby[j]? with
 | some d => mO (OK m d) (mO (er (decide (s.seq < d.seq)) 3) (er ((decide (0 < j) && (match s.dby[j - 1]? with | some p => decide (d.seq < p.seq) | none => false)) || !H3 s.files d.seq) 1))
 | none => 0
theorem Ld {m : aO} {s : ak} (hs : Hk s) {i : Nat} (hi : i < s.dby.length) (X : Option Int) (O : Option Bool) (ho : O = some (H3 s.files s.dby[i].seq)) :
  al (decide ((0 : Int) < (i : Int))) (aE (at? s.dby (IntKind.i64.wrap ((i : Int) - (1 : Int)))) fun e6 => al (decide (s.dby[i].seq < e6.seq)) (al true (some (1 : Int)) X) (aE O fun r5 => al (!r5) (some (1 : Int)) X)) (aE O fun r6 => al (!r6) (some (1 : Int)) X) =
   ee (er ((decide (0 < i) && (match s.dby[i - 1]? with | some p => decide (s.dby[i].seq < p.seq) | none => false)) || !H3 s.files s.dby[i].seq) 1) X := by
 subst ho
 by_cases h0 : 0 < i
 ·have hi1 : i - 1 < s.dby.length := by omega
  rw [decide_eq_true (show (0 : Int) < (i : Int) by omega), iT, tg hi h0 hs.dby.1, bS, decide_eq_true h0, List.getElem?_eq_getElem hi1, Bool.true_and, bS]
  show _ = ee (er (decide (s.dby[i].seq < s.dby[i - 1].seq) || !H3 s.files s.dby[i].seq) 1) X
  cases decide (s.dby[i].seq < s.dby[i - 1].seq) with
  | true => rfl
  | false => rw [iF, jp (by decide), Bool.false_or]
 ·rw [decide_eq_false (show ¬ (0 : Int) < (i : Int) by omega), iF, decide_eq_false h0, Bool.false_and, Bool.false_or, bS, jp (by decide)]
theorem Qo {s : ak} (hs : Hk s) {d : aF} (hd : d ∈ s.dby) : LY d.ids d.keys := by
 obtain ⟨a, b, c⟩ := hs.dby.2 _ hd
 exact ⟨a, b, c⟩
theorem OH {m : aO} {s : ak} (hm : s7 m) (hs : Hk s) : ko m s = some (fe (Ji m s) s.dby.length 0) := by
 unfold ko
 rw [pT (L := dM m s) (n := s.dby.length) (fin := some 0) (c := Ji m s) hs.dby.1
  (fun k => by rw [dM, w8, iF]; rfl)
  (fun k i hi => by
   rw [dM, bw hi, iT, aZ hi, bS, QB hm (Qo hs (List.getElem_mem hi)), bS, lK, jp (by decide)]
   unfold Ji
   rw [List.getElem?_eq_getElem hi]
   simp only
   rw [← ei, ← ei]
   refine jZ fun _ => jZ fun _ => ?_
   unfold kz
   rw [aK hi hs.dby.1]
   exact Ld (m := m) hs hi _ _ (Pz hs.files.1 _))]
 exact jP _
end Go.Proofs.YtfnmbpecdjncfaaGreatDoor
namespace Go.Proofs.YtfnmbpecdjncfaaGreatDoor
open Go Go.SX Go.SX.Cal
def wi (a b c : Int) : Bool := decide (b ≤ a ∧ a ≤ c)
def Cb (m : aO) (s : ak) : Bool :=
 !wi s.id 1 (IntKind.i64.wrap (m.nextSnap - 1)) || (!wi s.parent 0 (IntKind.i64.wrap (s.id - 1)) || (!wi s.seq 1 (IntKind.i64.wrap (m.nextSeq - 1)) || (!wi s.schema 0 (IntKind.i64.wrap ((m.schemas.length : Int) - 1)) || (!wi s.time (-62135596800) 253402300799 || !wi s.kind 1 3))))
noncomputable def NA (m : aO) (s : ak) : Int := mO (fe (NR m s) s.files.length 0) (mO (fe (Lt s) s.dat.length 0) (fe (Ji m s) s.dby.length 0))
noncomputable def Oc (m : aO) (j : Nat) : Int := match m.snapshots[j]? with
 | some s => mO (er (Cb m s) 3) (mO (er (decide (0 < j) && (match m.snapshots[j - 1]? with | some p => decide (s.id ≤ p.id) || decide (s.seq ≤ p.seq) | none => false)) 5) (NA m s))
 | none => 0
theorem EL {m : aO} {j : Nat} (hj : j < m.snapshots.length) : Oc m j = mO (er (Cb m m.snapshots[j]) 3) (mO (er (decide (0 < j) && (match m.snapshots[j - 1]? with | some p => decide (m.snapshots[j].id ≤ p.id) || decide (m.snapshots[j].seq ≤ p.seq) | none => false)) 5) (NA m m.snapshots[j])) := by
 unfold Oc; rw [List.getElem?_eq_getElem hj]
theorem Q5 {m : aO} {s : ak} (hm : s7 m) (hs : Hk s) (X : Option Int) :
  (aE (pE m s) fun r7 => al (r7 != (0 : Int)) (some r7) (aE (mU m s) fun r8 => al (r8 != (0 : Int)) (some r8) X)) = ee (NA m s) X := by
 rw [Kr hm hs, bS, lK]
 unfold NA
 rw [← ei]
 refine jZ fun e => ?_
 obtain ⟨ho, _⟩ := Da hm hs e
 rw [Oj hs ho, OH hm hs, CB, bS, lK]
theorem MJ {m : aO} (hm : s7 m) : nm m = some (fe (Oc m) m.snapshots.length 0) := by
 unfold nm
 rw [pT (L := bF m) (n := m.snapshots.length) (fin := some 0) (c := Oc m) hm.snaps.1
  (fun k => by rw [bF, w8, iF]; rfl)
  (fun k i hi => by
   have hs := hm.snaps.2 _ (List.getElem_mem hi)
   rw [bF, bw hi, iT, aZ hi, bS, EL hi]
   generalize hsn : m.snapshots[i] = s at hs
   have hj : ∀ x, x = Cb m s → fI (bF m k) m (i : Int) s x =
     ee (mO (er (Cb m s) 3) (mO (er (decide (0 < i) && (match m.snapshots[i - 1]? with | some p => decide (s.id ≤ p.id) || decide (s.seq ≤ p.seq) | none => false)) 5) (NA m s))) (bF m k ((i + 1 : Nat) : Int)) := by
    rintro x rfl
    unfold fI jl
    rw [jp (by decide), ← ei, ← ei]
    refine jZ fun _ => ?_
    rw [Q5 hm hs, aK hi hm.snaps.1]
    by_cases h0 : 0 < i
    ·have hi1 : i - 1 < m.snapshots.length := by omega
     rw [decide_eq_true (show (0 : Int) < (i : Int) by omega), iT, tg hi h0 hm.snaps.1, bS, decide_eq_true h0, List.getElem?_eq_getElem hi1, Bool.true_and]
     simp only
     cases decide (s.id ≤ m.snapshots[i - 1].id) with
     | true => rfl
     | false => rw [iF, jp (by decide), Bool.false_or]
    ·rw [decide_eq_false (show ¬ (0 : Int) < (i : Int) by omega), iF, decide_eq_false h0]; rfl
   have hj1 : ∀ x, gK (bF m k) m (i : Int) s x = fI (bF m k) m (i : Int) s (x || (!wi s.schema 0 (IntKind.i64.wrap ((m.schemas.length : Int) - 1)) || (!wi s.time (-62135596800) 253402300799 || !wi s.kind 1 3))) := by
    intro x
    unfold gK kM
    cases x with
    | true => rfl
    | false =>
     rw [iF, jx, bS, Bool.false_or]
     show al (!wi s.schema _ _) _ _ = _
     cases wi s.schema 0 (IntKind.i64.wrap ((m.schemas.length : Int) - 1)) with
     | false => rfl
     | true =>
      rw [Bool.not_true, iF, jx, bS, Bool.false_or]
      rw [show decide (-62135596800 ≤ s.time ∧ s.time ≤ 253402300799) = wi s.time (-62135596800) 253402300799 from rfl]
      cases wi s.time (-62135596800) 253402300799 with
      | false => rfl
      | true => rw [Bool.not_true, iF, jx, bS]; rfl
   rw [jx, bS]
   show al (!wi s.id _ _) _ _ = _
   have hr : Cb m s = Cb m s := rfl
   conv at hr => rhs; unfold Cb
   cases a : wi s.id 1 (IntKind.i64.wrap (m.nextSnap - 1)) with
   | false => rw [a] at hr; rw [Bool.not_false, iT, hj1]; exact hj _ (by rw [hr]; rfl)
   | true =>
    rw [a] at hr
    rw [Bool.not_true, iF, jx, bS]
    show al (!wi s.parent _ _) _ _ = _
    cases b : wi s.parent 0 (IntKind.i64.wrap (s.id - 1)) with
    | false => rw [b] at hr; rw [Bool.not_false, iT, hj1]; exact hj _ (by rw [hr]; rfl)
    | true => rw [b] at hr; rw [Bool.not_true, iF, jx, bS, hj1]; exact hj _ (by rw [hr]; rfl))]
 exact jP _
theorem My {m : aO} {s : ak} (h : Cb m s = false) : 1 ≤ s.id ∧ 1 ≤ s.seq := by
 unfold Cb wi at h
 simp only [Bool.or_eq_false_iff, Bool.not_eq_false', decide_eq_true_eq] at h
 exact ⟨h.1.1, h.2.2.1.1⟩
theorem CO {m : aO} (hm : s7 m) (h : fe (Oc m) m.snapshots.length 0 = 0) : ∀ s ∈ m.snapshots, 1 ≤ s.id ∧ wA s.files ∧ ∀ f ∈ s.files, KT f := by
 intro s hs
 obtain ⟨i, hi, rfl⟩ := List.mem_iff_getElem.1 hs
 have := Jt.1 h i (Nat.zero_le _) (by omega)
 rw [EL hi, nc, nc] at this
 have hh := this.2.2
 unfold NA at hh
 rw [nc] at hh
 obtain ⟨a, b⟩ := Da hm (hm.snaps.2 _ hs) hh.1
 exact ⟨(My ((By (by decide)).1 this.1)).1, a, b⟩
end Go.Proofs.YtfnmbpecdjncfaaGreatDoor
namespace Go.Proofs.YtfnmbpecdjncfaaGreatDoor
open Go Go.SX Go.SX.Cal
theorem BO {R : Type} {e fin : Option R} {n : Nat} {L : Nat → Int → Option R} {p : Nat → Bool} (h0 : ∀ k, L (k + 1) (n : Int) = fin) (h1 : ∀ k i, i < n → L (k + 1) (i : Int) = al (p i) e (L k ((i + 1 : Nat) : Int))) :
  ∀ m k i, i + m = n → m < k → ∃ b, L k (i : Int) = al b e fin ∧ (b = true ↔ ∃ j, i ≤ j ∧ j < n ∧ p j = true)
 | 0, k, i, hi, hk => by
  obtain ⟨k, rfl⟩ := fu hk
  have : i = n := by omega
  subst this
  exact ⟨false, h0 k, by simp; intro j h1 h2; omega⟩
 | m + 1, k, i, hi, hk => by
  obtain ⟨k, rfl⟩ := fu hk
  rw [h1 k i (by omega)]
  cases hp : p i with
  | true => exact ⟨true, rfl, by simp; exact ⟨i, Nat.le_refl _, by omega, hp⟩⟩
  | false =>
   obtain ⟨b, e1, e2⟩ := BO h0 h1 m k (i + 1) (by omega) (by omega)
   refine ⟨b, e1, e2.trans ⟨fun ⟨j, a, b, c⟩ => ⟨j, by omega, b, c⟩, fun ⟨j, a, b, c⟩ => ⟨j, ?_, b, c⟩⟩⟩
   by_cases e : j = i
   ·subst e; rw [hp] at c; cases c
   ·omega
theorem Eo {R : Type} {e fin : Option R} {n : Nat} {L : Nat → Int → Option R} {p : Nat → Bool} (hn : n < 1000000000) (h0 : ∀ k, L (k + 1) (n : Int) = fin) (h1 : ∀ k i, i < n → L (k + 1) (i : Int) = al (p i) e (L k ((i + 1 : Nat) : Int))) :
  L bq (0 : Int) = al (kP p n) e fin := by
 obtain ⟨b, e1, e2⟩ := BO h0 h1 n bq 0 (by omega) (by rw [bl]; omega)
 have : b = kP p n := mL (e2.trans (Iff.trans ⟨fun ⟨j, _, b, c⟩ => ⟨j, b, c⟩, fun ⟨j, b, c⟩ => ⟨j, Nat.zero_le _, b, c⟩⟩ eO.symm))
 rw [← this]; exact e1
def L8 (l m : List aa) (j : Nat) : Bool := match l[j]?, m[j]? with | some x, some y => !ML x y | _, _ => false
def JD (s t : de) : Bool := s.id == t.id && (s.nulls == t.nulls && (ML s.min t.min && ML s.max t.max))
def Eh (l m : List de) (j : Nat) : Bool := match l[j]?, m[j]? with | some x, some y => !JD x y | _, _ => false
def Oh (l m : List aa) : Bool := decide (l.length = m.length) && !kP (L8 l m) l.length
def Px (l m : List de) : Bool := decide (l.length = m.length) && !kP (Eh l m) l.length
def Gn (a b : ah) : Bool := decide (a.name = b.name) && (a.schema == b.schema && (a.spec == b.spec && (a.rows == b.rows && (Oh a.part b.part && Px a.stats b.stats))))
theorem LC {l m : List aa} (hl : ∀ v ∈ l, Lv v) (hm : ∀ v ∈ m, Lv v) : Oh l m = true ↔ l = m := by
 unfold Oh
 rw [Bool.and_eq_true, decide_eq_true_iff, Bool.not_eq_true', ← Bool.not_eq_true, eO]
 constructor
 ·rintro ⟨h1, h2⟩
  refine List.ext_getElem h1 fun i hi hi' => ?_
  have : L8 l m i = false := by
   cases h : L8 l m i with
   | false => rfl
   | true => exact absurd ⟨i, hi, h⟩ h2
  unfold L8 at this
  rw [List.getElem?_eq_getElem hi, List.getElem?_eq_getElem hi'] at this
  exact (Aa (hl _ (List.getElem_mem hi)) (hm _ (List.getElem_mem hi'))).1 (by simpa using this)
 ·rintro rfl
  refine ⟨rfl, ?_⟩
  rintro ⟨j, hj, h⟩
  unfold L8 at h
  rw [List.getElem?_eq_getElem hj] at h
  simp only [Bool.not_eq_true'] at h
  rw [(Aa (hl _ (List.getElem_mem hj)) (hl _ (List.getElem_mem hj))).2 rfl] at h
  cases h
theorem Dr {s t : de} (hs : Lv s.min ∧ Lv s.max) (ht : Lv t.min ∧ Lv t.max) : JD s t = true ↔ s = t := by
 unfold JD
 rw [Bool.and_eq_true, Bool.and_eq_true, Bool.and_eq_true, Aa hs.1 ht.1, Aa hs.2 ht.2, beq_iff_eq, beq_iff_eq]
 obtain ⟨a, b, c, d⟩ := s
 obtain ⟨a', b', c', d'⟩ := t
 simp
theorem LA {l m : List de} (hl : ∀ v ∈ l, Lv v.min ∧ Lv v.max) (hm : ∀ v ∈ m, Lv v.min ∧ Lv v.max) : Px l m = true ↔ l = m := by
 unfold Px
 rw [Bool.and_eq_true, decide_eq_true_iff, Bool.not_eq_true', ← Bool.not_eq_true, eO]
 constructor
 ·rintro ⟨h1, h2⟩
  refine List.ext_getElem h1 fun i hi hi' => ?_
  have : Eh l m i = false := by
   cases h : Eh l m i with
   | false => rfl
   | true => exact absurd ⟨i, hi, h⟩ h2
  unfold Eh at this
  rw [List.getElem?_eq_getElem hi, List.getElem?_eq_getElem hi'] at this
  exact (Dr (hl _ (List.getElem_mem hi)) (hm _ (List.getElem_mem hi'))).1 (by simpa using this)
 ·rintro rfl
  refine ⟨rfl, ?_⟩
  rintro ⟨j, hj, h⟩
  unfold Eh at h
  rw [List.getElem?_eq_getElem hj] at h
  simp only [Bool.not_eq_true'] at h
  rw [(Dr (hl _ (List.getElem_mem hj)) (hl _ (List.getElem_mem hj))).2 rfl] at h
  cases h
def Sf (a b : ah) : Prop := a.name = b.name ∧ a.schema = b.schema ∧ a.spec = b.spec ∧ a.rows = b.rows ∧ a.part = b.part ∧ a.stats = b.stats
theorem zR {a b : ah} (ha : KT a) (hb : KT b) : Gn a b = true ↔ Sf a b := by
 unfold Gn Sf
 rw [Bool.and_eq_true, Bool.and_eq_true, Bool.and_eq_true, Bool.and_eq_true, Bool.and_eq_true, decide_eq_true_iff, beq_iff_eq, beq_iff_eq, beq_iff_eq, LC ha.part hb.part, LA ha.stats hb.stats]
theorem Sf.symm {a b : ah} (h : Sf a b) : Sf b a := ⟨h.1.symm, h.2.1.symm, h.2.2.1.symm, h.2.2.2.1.symm, h.2.2.2.2.1.symm, h.2.2.2.2.2.symm⟩
theorem Sf.trans {a b c : ah} (h : Sf a b) (k : Sf b c) : Sf a c := ⟨h.1.trans k.1, h.2.1.trans k.2.1, h.2.2.1.trans k.2.2.1, h.2.2.2.1.trans k.2.2.2.1, h.2.2.2.2.1.trans k.2.2.2.2.1, h.2.2.2.2.2.trans k.2.2.2.2.2⟩
theorem NX {a b : aa} (ha : Lv a) (hb : Lv b) : i6 a b = some (ML a b) := by
 unfold i6
 rw [Ca ha hb, bS]; rfl
theorem QZ {l m : List aa} (hn : l.length < 1000000000) (hl : ∀ v ∈ l, Lv v) (hm : ∀ v ∈ m, Lv v) : bc l m = some (Oh l m) := by
 unfold bc Oh
 by_cases h : l.length = m.length
 ·rw [show ((l.length : Int) != (m.length : Int)) = false by simp [h], iF, decide_eq_true h, Bool.true_and]
  rw [Eo (L := ap l m) (n := l.length) (e := some false) (fin := some true) (p := L8 l m) hn
   (fun k => by rw [ap, w8, iF]; rfl)
   (fun k i hi => by
    have hi' : i < m.length := by omega
    rw [ap, bw hi, iT, aZ hi, bS, aZ hi', bS, NX (hl _ (List.getElem_mem hi)) (hm _ (List.getElem_mem hi')), bS, aK hi hn]
    unfold L8
    rw [List.getElem?_eq_getElem hi, List.getElem?_eq_getElem hi'])]
  cases kP (L8 l m) l.length <;> rfl
 ·rw [show ((l.length : Int) != (m.length : Int)) = true by simp; omega, iT, decide_eq_false h]; rfl
theorem Pb {s t : de} (hs : Lv s.min ∧ Lv s.max) (ht : Lv t.min ∧ Lv t.max) : mD s t = some (JD s t, ()) := by
 unfold mD gp JD
 rw [NX hs.1 ht.1, NX hs.2 ht.2, bS, bS]
 cases (s.id == t.id) <;> cases (s.nulls == t.nulls) <;> cases ML s.min t.min <;> rfl
theorem Qi {l m : List de} (hn : l.length < 1000000000) (hl : ∀ v ∈ l, Lv v.min ∧ Lv v.max) (hm : ∀ v ∈ m, Lv v.min ∧ Lv v.max) : aT l m = some (Px l m, ()) := by
 unfold aT Px
 by_cases h : l.length = m.length
 ·rw [show ((l.length : Int) != (m.length : Int)) = false by simp [h], iF, decide_eq_true h, Bool.true_and]
  rw [Eo (L := aj l m) (n := l.length) (e := some (false, ())) (fin := some (true, ())) (p := Eh l m) hn
   (fun k => by rw [aj, w8, iF]; rfl)
   (fun k i hi => by
    have hi' : i < m.length := by omega
    rw [aj, bw hi, iT, aZ hi, bS, aZ hi', bS, Pb (hl _ (List.getElem_mem hi)) (hm _ (List.getElem_mem hi')), bS, aK hi hn]
    unfold Eh
    rw [List.getElem?_eq_getElem hi, List.getElem?_eq_getElem hi'])]
  cases kP (Eh l m) l.length <;> rfl
 ·rw [show ((l.length : Int) != (m.length : Int)) = true by simp; omega, iT, decide_eq_false h]; rfl
theorem QW {a b : ah} (ha : KT a) (hb : KT b) (za : Lo a) : lP a b = some (Gn a b) := by
 unfold lP fh Gn
 rw [JC, QZ za.part.1 ha.part hb.part, Qi za.stats.1 ha.stats hb.stats, bS, bS]
 cases decide (a.name = b.name) <;> cases (a.schema == b.schema) <;> cases (a.spec == b.spec) <;> cases (a.rows == b.rows) <;> cases Oh a.part b.part <;> rfl
end Go.Proofs.YtfnmbpecdjncfaaGreatDoor
namespace Go.Proofs.YtfnmbpecdjncfaaGreatDoor
open Go Go.SX Go.SX.Cal
theorem BJ (a b : ByteArray) : qu.eq a b = decide (a = b) := by
 refine mL ?_
 rw [decide_eq_true_iff]
 constructor
 ·intro h
  have h' : (a.data == b.data) = true := h
  exact ByteArray.ext (by simpa using h')
 ·rintro rfl
  show (a.data == a.data) = true
  simp
theorem zZ {α : Type} : ∀ (m : List (ByteArray × α)) (k : ByteArray) (v : α), gu qu (gR qu m k v) k = some v
 | [], k, v => by simp only [gR, gu, BJ, decide_true, if_true]
 | (k', v') :: l, k, v => by
  by_cases h : k = k'
  ·simp only [gR, gu, BJ, decide_eq_true h, if_true, decide_true]
  ·simp only [gR, gu, BJ, decide_eq_false h, Bool.false_eq_true, if_false]
   exact zZ l k v
theorem xt {α : Type} : ∀ (m : List (ByteArray × α)) (k : ByteArray) (v : α) (x : ByteArray), x ≠ k → gu qu (gR qu m k v) x = gu qu m x
 | [], k, v, x, hx => by simp only [gR, gu, BJ, decide_eq_false hx, Bool.false_eq_true, if_false]
 | (k', v') :: l, k, v, x, hx => by
  by_cases h : k = k'
  ·subst h
   simp only [gR, gu, BJ, decide_true, if_true, decide_eq_false hx, Bool.false_eq_true, if_false]
  ·simp only [gR, gu, BJ, decide_eq_false h, Bool.false_eq_true, if_false]
   rw [xt l k v x hx]
def Pi (m : aO) : Prop := ∀ s ∈ m.snapshots, 1 ≤ s.id ∧ wA s.files ∧ ∀ f ∈ s.files, KT f
def Ms (m : aO) (i : Nat) : Prop := ∃ (hi : i < m.snapshots.length) (x : Nat) (hx : x < i) (f g : ah), f ∈ m.snapshots[i].files ∧ g ∈ (m.snapshots[x]'(by omega)).files ∧ g.name = f.name ∧ ¬ Sf g f
structure MO (m : aO) (i : Nat) (z : List (ByteArray × ah)) : Prop where
 a : ∀ n g, gu qu z n = some g → g.name = n ∧ ∃ (x : Nat) (hx : x < i) (hl : x < m.snapshots.length), g ∈ m.snapshots[x].files
 b : ∀ (x : Nat) (hl : x < m.snapshots.length), x < i → ∀ f ∈ m.snapshots[x].files, ∃ g, gu qu z f.name = some g ∧ Sf g f
structure OM (m : aO) (i : Nat) (fs : List ah) (j : Nat) (z : List (ByteArray × ah)) : Prop where
 a : ∀ n g, gu qu z n = some g → g.name = n ∧ ((∃ (x : Nat) (hx : x < i) (hl : x < m.snapshots.length), g ∈ m.snapshots[x].files) ∨ ∃ (q : Nat) (hq : q < j) (hl : q < fs.length), g = fs[q])
 b : ∀ (x : Nat) (hl : x < m.snapshots.length), x < i → ∀ f ∈ m.snapshots[x].files, ∃ g, gu qu z f.name = some g ∧ Sf g f
 c : ∀ (q : Nat) (hl : q < fs.length), q < j → gu qu z fs[q].name = some fs[q]
def Lk (m : aO) (i : Nat) (rec1 : List (ByteArray × ah) → Int → Option Int) (e : Option Int) : Prop :=
 (e = some 5 ∧ Ms m i) ∨ (∃ z', MO m (i + 1) z' ∧ e = rec1 z' ((i + 1 : Nat) : Int) ∧ ¬ Ms m i)
theorem JO {m : aO} (hm : s7 m) (ho : Pi m) (rec1 : List (ByteArray × ah) → Int → Option Int) {i : Nat} (hi : i < m.snapshots.length) : ∀ (d k j : Nat) (z : List (ByteArray × ah)), j + d = m.snapshots[i].files.length → d < k → OM m i m.snapshots[i].files j z →
  (∀ (q : Nat) (hq : q < m.snapshots[i].files.length), q < j → ∀ (x : Nat) (hx : x < i), ∀ g ∈ (m.snapshots[x]'(by omega)).files, g.name = m.snapshots[i].files[q].name → Sf g m.snapshots[i].files[q]) →
  Lk m i rec1 (ec rec1 (i : Int) m.snapshots[i] k z (j : Int)) := by
 have hsi := ho _ (List.getElem_mem hi)
 have hzi := hm.snaps.2 _ (List.getElem_mem hi)
 intro d
 induction d with
 | zero =>
  intro k j z hj hk hz hg
  obtain ⟨k, rfl⟩ := fu hk
  right
  refine ⟨z, ⟨fun n g h => ?_, fun x hl hx f hf => ?_⟩, ?_, ?_⟩
  ·obtain ⟨h1, h2⟩ := hz.a n g h
   refine ⟨h1, ?_⟩
   rcases h2 with ⟨x, hx, hl, h2⟩ | ⟨q, hq, hl, rfl⟩
   ·exact ⟨x, by omega, hl, h2⟩
   ·exact ⟨i, by omega, hi, List.getElem_mem hl⟩
  ·by_cases e : x = i
   ·subst e
    obtain ⟨q, hq, rfl⟩ := List.mem_iff_getElem.1 hf
    exact ⟨_, hz.c q hq (by omega), ⟨rfl, rfl, rfl, rfl, rfl, rfl⟩⟩
   ·exact hz.b x hl (by omega) f hf
  ·rw [ec, C3 (by omega), iF]
   unfold rm
   rw [aK hi hm.snaps.1]
  ·rintro ⟨_, x, hx, f, g, hf, hg', hn, hs⟩
   obtain ⟨q, hq, rfl⟩ := List.mem_iff_getElem.1 hf
   exact hs (hg q hq (by omega) x hx g hg' hn)
 | succ d ih =>
  intro k j z hj hk hz hg
  obtain ⟨k, rfl⟩ := fu hk
  have h1 : j < m.snapshots[i].files.length := by omega
  have hfj := hsi.2.2 _ (List.getElem_mem h1)
  rw [ec, bw h1, iT, aZ h1, bS, bS]
  unfold nZ
  rw [aK h1 hzi.files.1]
  -- what follows when the file agrees with those before
  have hgo : (∀ (x : Nat) (hx : x < i), ∀ g ∈ (m.snapshots[x]'(by omega)).files, g.name = m.snapshots[i].files[j].name → Sf g m.snapshots[i].files[j]) →
    Lk m i rec1 (ec rec1 (i : Int) m.snapshots[i] k (gR qu z m.snapshots[i].files[j].name m.snapshots[i].files[j]) ((j + 1 : Nat) : Int)) := by
   intro hag
   refine ih k (j + 1) _ (by omega) (by omega) ⟨fun n g h => ?_, fun x hl hx f hf => ?_, fun q hl hq => ?_⟩ (fun q hq hqj x hx g hg' hn => ?_)
   ·by_cases e : n = m.snapshots[i].files[j].name
    ·subst e
     rw [zZ] at h; cases h
     exact ⟨rfl, .inr ⟨j, by omega, h1, rfl⟩⟩
    ·rw [xt _ _ _ _ e] at h
     obtain ⟨a, b⟩ := hz.a n g h
     refine ⟨a, ?_⟩
     rcases b with b | ⟨q, hq, hl, rfl⟩
     ·exact .inl b
     ·exact .inr ⟨q, by omega, hl, rfl⟩
   ·by_cases e : f.name = m.snapshots[i].files[j].name
    ·rw [e, zZ]
     exact ⟨_, rfl, (hag x hx f hf e).symm⟩
    ·rw [xt _ _ _ _ e]; exact hz.b x hl hx f hf
   ·by_cases e : q = j
    ·subst e; exact zZ _ _ _
    ·have hlt := hsi.2.1 q j h1 (by omega)
     rw [xt _ _ _ _ (fun e => by rw [e, oL] at hlt; omega)]
     exact hz.c q hl (by omega)
   ·by_cases e : q = j
    ·subst e; exact hag x hx g hg' hn
    ·exact hg q hq (by omega) x hx g hg' hn
  cases hm' : gu qu z m.snapshots[i].files[j].name with
  | none =>
   show Lk m i rec1 (al false _ (al false _ _))
   rw [iF, iF]
   refine hgo fun x hx g hg' hn => ?_
   obtain ⟨g', h2, _⟩ := hz.b x (by omega) hx g hg'
   rw [hn, hm'] at h2; cases h2
  | some g =>
   obtain ⟨hgn, hgp⟩ := hz.a _ g hm'
   have hgx : ∃ (x : Nat) (hx : x < i) (hl : x < m.snapshots.length), g ∈ m.snapshots[x].files := by
    rcases hgp with h | ⟨q, hq, hl, rfl⟩
    ·exact h
    ·have hlt := hsi.2.1 q j h1 hq
     rw [hgn, oL] at hlt; omega
   obtain ⟨x0, hx0, hl0, hg0⟩ := hgx
   have hgo' := (ho _ (List.getElem_mem hl0)).2.2 _ hg0
   show Lk m i rec1 (al true (aE (lP g m.snapshots[i].files[j]) _) _)
   rw [iT, QW hgo' hfj ((hm.snaps.2 _ (List.getElem_mem hl0)).files.2 _ hg0), bS]
   cases hsf : Gn g m.snapshots[i].files[j] with
   | false =>
    left
    refine ⟨rfl, hi, x0, hx0, _, g, List.getElem_mem h1, hg0, hgn, fun h => ?_⟩
    rw [(zR hgo' hfj).2 h] at hsf; cases hsf
   | true =>
    rw [Bool.not_true, iF]
    have hs := (zR hgo' hfj).1 hsf
    refine hgo fun x hx g' hg' hn => ?_
    obtain ⟨g2, h2, h3⟩ := hz.b x (by omega) hx g' hg'
    rw [hn, hm'] at h2; cases h2
    exact h3.symm.trans hs
theorem Hu {m : aO} (hm : s7 m) (ho : Pi m) : ∀ (d k i : Nat) (z : List (ByteArray × ah)), i + d = m.snapshots.length → d < k → MO m i z →
  (dw m k z (i : Int) = some 5 ∧ ∃ q, i ≤ q ∧ Ms m q) ∨ (dw m k z (i : Int) = some 0 ∧ ∀ q, i ≤ q → ¬ Ms m q) := by
 intro d
 induction d with
 | zero =>
  intro k i z hi hk hz
  obtain ⟨k, rfl⟩ := fu hk
  right
  rw [dw, C3 (by omega), iF]
  exact ⟨rfl, fun q hq ⟨h, _⟩ => by omega⟩
 | succ d ih =>
  intro k i z hi hk hz
  obtain ⟨k, rfl⟩ := fu hk
  have h1 : i < m.snapshots.length := by omega
  rw [dw, bw h1, iT, aZ h1, bS]
  have h3 : OM m i m.snapshots[i].files 0 z := ⟨fun n g h => ⟨(hz.a n g h).1, .inl (hz.a n g h).2⟩, hz.b, fun q _ hq => by omega⟩
  rcases JO hm ho (dw m k) h1 m.snapshots[i].files.length bq 0 z (by omega) (by rw [bl]; have := (hm.snaps.2 _ (List.getElem_mem h1)).files.1; omega) h3 (fun q hq h => by omega) with ⟨a, b⟩ | ⟨z', a, b, c⟩
  ·exact .inl ⟨a, i, Nat.le_refl _, b⟩
  ·have b : ec (dw m k) (i : Int) m.snapshots[i] bq z (0 : Int) = _ := b
   rw [b]
   rcases ih k (i + 1) z' (by omega) (by omega) a with ⟨e1, q, e2, e3⟩ | ⟨e1, e2⟩
   ·exact .inl ⟨e1, q, by omega, e3⟩
   ·refine .inr ⟨e1, fun q hq => ?_⟩
    by_cases e : q = i
    ·subst e; exact c
    ·exact e2 q (by omega)
theorem LS {m : aO} (hm : s7 m) (ho : Pi m) : (pP m = some 5 ∧ ∃ q, Ms m q) ∨ (pP m = some 0 ∧ ∀ q, ¬ Ms m q) := by
 have h0 : MO m 0 [] := ⟨(fun n g h => by cases h), fun x _ hx => by omega⟩
 rcases Hu hm ho m.snapshots.length bq 0 [] (by omega) (by rw [bl]; have := hm.snaps.1; omega) h0 with ⟨a, q, _, b⟩ | ⟨a, b⟩
 ·exact .inl ⟨a, q, b⟩
 ·exact .inr ⟨a, fun q => b q (Nat.zero_le _)⟩
def Jw (s x : ak) (j : Nat) : Bool := match s.files[j]? with
 | some f => (match jE x.files f.name with | some g => !Gn f g | none => false)
 | none => false
def M6 (m : aO) (i x : Nat) : Bool := match m.snapshots[i]?, m.snapshots[x]? with
 | some s, some y => kP (Jw s y) s.files.length
 | _, _ => false
def Ij (m : aO) (i : Nat) : Bool := kP (M6 m i) i
theorem FX {α : Type} {l : List α} {i x : Nat} (hx : x < i) (hi : i ≤ l.length) : at? (List.take ((i : Int).toNat - (0 : Int).toNat) (List.drop (0 : Int).toNat l)) (x : Int) = some (l[x]'(by omega)) := by
 have h : x < (List.take ((i : Int).toNat - (0 : Int).toNat) (List.drop (0 : Int).toNat l)).length := by simp; omega
 rw [aZ h]
 simp
theorem yo {α : Type} {l : List α} {i : Nat} (hi : i ≤ l.length) : (List.take ((i : Int).toNat - (0 : Int).toNat) (List.drop (0 : Int).toNat l)).length = i := by simp; omega
theorem Ar {m : aO} (ho : Pi m) {i : Nat} (hi : i < m.snapshots.length) : Ij m i = true ↔ Ms m i := by
 unfold Ij
 rw [eO]
 constructor
 ·rintro ⟨x, hx, h⟩
  have hxl : x < m.snapshots.length := by omega
  unfold M6 at h
  rw [List.getElem?_eq_getElem hi, List.getElem?_eq_getElem hxl] at h
  simp only at h
  obtain ⟨j, hj, h⟩ := eO.1 h
  unfold Jw at h
  rw [List.getElem?_eq_getElem hj] at h
  simp only at h
  cases hf : jE m.snapshots[x].files m.snapshots[i].files[j].name with
  | none => rw [hf] at h; cases h
  | some g =>
   rw [hf] at h
   simp only at h
   have hgm : g ∈ m.snapshots[x].files := List.mem_of_find?_eq_some hf
   have hgn : g.name = m.snapshots[i].files[j].name := by simpa using List.find?_some hf
   refine ⟨hi, x, hx, _, g, List.getElem_mem hj, hgm, hgn, fun hs => ?_⟩
   rw [(zR ((ho _ (List.getElem_mem hi)).2.2 _ (List.getElem_mem hj)) ((ho _ (List.getElem_mem hxl)).2.2 _ hgm)).2 hs.symm] at h
   cases h
 ·rintro ⟨_, x, hx, f, g, hf, hg, hn, hs⟩
  have hxl : x < m.snapshots.length := by omega
  refine ⟨x, hx, ?_⟩
  unfold M6
  rw [List.getElem?_eq_getElem hi, List.getElem?_eq_getElem hxl]
  obtain ⟨j, hj, rfl⟩ := List.mem_iff_getElem.1 hf
  refine eO.2 ⟨j, hj, ?_⟩
  unfold Jw
  rw [List.getElem?_eq_getElem hj]
  obtain ⟨q, hq, rfl⟩ := List.mem_iff_getElem.1 hg
  have := ve (ho _ (List.getElem_mem hxl)).2.1 hq
  rw [hn] at this
  simp only [this]
  cases hb : Gn m.snapshots[i].files[j] m.snapshots[x].files[q] with
  | false => rfl
  | true => exact absurd ((zR ((ho _ (List.getElem_mem hi)).2.2 _ hf) ((ho _ (List.getElem_mem hxl)).2.2 _ hg)).1 hb).symm hs
def PP (m : aO) : Int := er (kP (Ij m) m.snapshots.length) 5
theorem Ju {m : aO} (hm : s7 m) (ho : Pi m) : pP m = some (PP m) := by
 unfold PP
 rcases LS hm ho with ⟨a, q, b⟩ | ⟨a, b⟩
 ·have hb : kP (Ij m) m.snapshots.length = true := by
   have hq : q < m.snapshots.length := b.1
   exact eO.2 ⟨q, hq, (Ar ho hq).2 b⟩
  rw [a, hb]; rfl
 ·have hb : kP (Ij m) m.snapshots.length = false := by
   rw [← Bool.not_eq_true, eO]
   rintro ⟨q, hq, h⟩
   exact b q ((Ar ho hq).1 h)
  rw [a, hb]; rfl
end Go.Proofs.YtfnmbpecdjncfaaGreatDoor
namespace Go.Proofs.YtfnmbpecdjncfaaGreatDoor
open Go Go.SX Go.SX.Cal
def De (m : aO) (id : Int) : Bool := kP (fun q => match m.snapshots[q]? with | some s => s.id == id | none => false) m.snapshots.length
theorem Pw {m : aO} (hm : s7 m) (id : Int) : ∃ s, dL m id = some (s, De m id) := by
 unfold dL bH
 have key : ∀ d k i, i + d = m.snapshots.length → d < k → ∃ r, ay m.snapshots id k (i : Int) = some r ∧ ((r = -1 ∧ ∀ j, i ≤ j → ∀ (h : j < m.snapshots.length), m.snapshots[j].id ≠ id) ∨ ∃ (j : Nat) (h : j < m.snapshots.length), r = (j : Int) ∧ m.snapshots[j].id = id) := by
  intro d
  induction d with
  | zero =>
   intro k i hi hk
   obtain ⟨k, rfl⟩ := fu hk
   rw [ay, C3 (by omega), iF]
   exact ⟨-1, rfl, .inl ⟨rfl, fun j h1 h2 => by omega⟩⟩
  | succ d ih =>
   intro k i hi hk
   obtain ⟨k, rfl⟩ := fu hk
   have h1 : i < m.snapshots.length := by omega
   rw [ay, bw h1, iT, aZ h1, bS, nI, bS, aK h1 hm.snaps.1]
   cases he : (m.snapshots[i].id == id) with
   | true => exact ⟨i, rfl, .inr ⟨i, h1, rfl, by simpa using he⟩⟩
   | false =>
    obtain ⟨r, e1, e2⟩ := ih k (i + 1) (by omega) (by omega)
    refine ⟨r, e1, e2.imp (fun ⟨a, b⟩ => ⟨a, fun j hj h => ?_⟩) fun h => h⟩
    by_cases e : j = i
    ·subst e; simpa using he
    ·exact b j (by omega) h
 obtain ⟨r, r1, r2⟩ := key m.snapshots.length bq 0 (by omega) (by rw [bl]; have := hm.snaps.1; omega)
 have r1 : ay m.snapshots id bq (0 : Int) = _ := r1
 rw [r1, bS]
 rcases r2 with ⟨rfl, h⟩ | ⟨j, hj, rfl, h⟩
 ·refine ⟨⟨0, 0, 0, 0, 0, 0, [], [], []⟩, ?_⟩
  have hb : De m id = false := by
   unfold De
   rw [← Bool.not_eq_true, eO]
   rintro ⟨q, hq, e⟩
   rw [List.getElem?_eq_getElem hq] at e
   exact h q (Nat.zero_le _) hq (by simpa using e)
  rw [hb]; rfl
 ·refine ⟨m.snapshots[j], ?_⟩
  have hb : De m id = true := eO.2 ⟨j, hj, by rw [List.getElem?_eq_getElem hj]; simpa using h⟩
  rw [decide_eq_false (show ¬ (j : Int) < 0 by omega), iF, aZ hj, bS, hb]
def NN (m : aO) (r : gf) (j : Nat) : Bool := kP (fun q => match m.refs[q]? with | some p => decide (p.name = r.name) | none => false) j
def KN (m : aO) (j : Nat) : Int := match m.refs[j]? with
 | some r => mO (er (!oH r.name) 4) (mO (er (NN m r j) 5) (er (!De m r.snapshot && !(r.branch && r.snapshot == 0)) 9))
 | none => 0
def FL (s : ByteArray) : Bool := tL ⟨4, 0, 0, s, []⟩
theorem OF {s : ByteArray} (h : s.size < 100000000) : d9 ⟨4, 0, 0, s, []⟩ < 1000000000 := by simp only [d9, jr]; omega
def BL (m : aO) (j : Nat) : Int := match m.props[j]? with
 | some p => mO (er (!oH p.name) 4) (er ((decide (0 < j) && (match m.props[j - 1]? with | some q => Gv p.name q.name | none => false)) || !FL p.value) 1)
 | none => 0
theorem Iy {m : aO} (hm : s7 m) {i : Nat} (hi : i < m.props.length) (X : Option Int) (O : Option Bool) (ho : O = some (FL m.props[i].value)) :
  al (decide ((0 : Int) < (i : Int))) (aE (at? m.props (IntKind.i64.wrap ((i : Int) - (1 : Int)))) fun e3 => aE (some (Op.bytesLess m.props[i].name.toList e3.name.toList || m.props[i].name.toList == e3.name.toList)) fun y1 => al y1 (al true (some (1 : Int)) X) (aE O fun r5 => al (!r5) (some (1 : Int)) X)) (aE O fun r6 => al (!r6) (some (1 : Int)) X) =
   ee (er ((decide (0 < i) && (match m.props[i - 1]? with | some q => Gv m.props[i].name q.name | none => false)) || !FL m.props[i].value) 1) X := by
 subst ho
 by_cases h0 : 0 < i
 ·have hi1 : i - 1 < m.props.length := by omega
  rw [decide_eq_true (show (0 : Int) < (i : Int) by omega), iT, tg hi h0 hm.props.1, bS, bS, decide_eq_true h0, List.getElem?_eq_getElem hi1, Bool.true_and, bS]
  show al (Gv m.props[i].name m.props[i - 1].name) _ _ = ee (er (Gv m.props[i].name m.props[i - 1].name || !FL m.props[i].value) 1) X
  cases Gv m.props[i].name m.props[i - 1].name with
  | true => rfl
  | false => rw [iF, jp (by decide), Bool.false_or]
 ·rw [decide_eq_false (show ¬ (0 : Int) < (i : Int) by omega), iF, decide_eq_false h0, Bool.false_and, Bool.false_or, bS, jp (by decide)]
theorem Nl {m : aO} (hm : s7 m) : po m = some (fe (BL m) m.props.length 0) := by
 unfold po
 rw [pT (L := fq m) (n := m.props.length) (fin := some 0) (c := BL m) hm.props.1
  (fun k => by rw [fq, w8, iF]; rfl)
  (fun k i hi => by
   obtain ⟨z1, z2⟩ := hm.props.2 _ (List.getElem_mem hi)
   rw [fq, bw hi, iT, aZ hi, bS, Iq _ z1, bS, jp (by decide)]
   unfold BL
   rw [List.getElem?_eq_getElem hi]
   simp only
   rw [← ei]
   refine jZ fun _ => ?_
   unfold mM
   rw [aK hi hm.props.1]
   refine Iy hm hi _ _ ?_
   unfold nt
   rw [xe _ (OF z2), bS]; rfl)]
 exact jP _
theorem On {m : aO} (hm : s7 m) {i : Nat} (hi : i < m.refs.length) (r : gf) :
  bZ (List.take ((i : Int).toNat - (0 : Int).toNat) (List.drop (0 : Int).toNat m.refs)) r = some (NN m r i, r) := by
 unfold bZ dk
 have hil : i ≤ m.refs.length := by omega
 obtain ⟨q, q1, q2⟩ := sK (z := r) (L := fun k j => aQ (List.take ((i : Int).toNat - (0 : Int).toNat) (List.drop (0 : Int).toNat m.refs)) k r.name r.branch r.snapshot j) (n := i) (p := fun q => match m.refs[q]? with | some p => decide (p.name = r.name) | none => false) (by have := hm.refs.1; omega)
  (fun k => by rw [aQ, yo hil, w8, iF]; rfl)
  (fun k j hj => by
   have hjl : j < m.refs.length := by omega
   rw [aQ, yo hil, bw hj, iT, FX hj hil, bS, tu, bS, JC, aK hjl hm.refs.1, List.getElem?_eq_getElem hjl])
 have q1 : aQ (List.take ((i : Int).toNat - (0 : Int).toNat) (List.drop (0 : Int).toNat m.refs)) bq r.name r.branch r.snapshot (0 : Int) = some (q, r) := q1
 rw [q1, bS]
 show some (decide (0 ≤ q), r) = _
 rw [q2]; rfl
theorem LG {b : Bool} (br : Bool) (s : Int) (X : Option Int) : al (!b) (al br (al (!(s == 0)) (some (9 : Int)) X) (al true (some 9) X)) (al false (some 9) X) = ee (er (!b && !(br && s == 0)) 9) X := by
 cases b <;> cases br <;> cases (s == 0) <;> rfl
theorem NE {m : aO} (hm : s7 m) : te m = some (mO (fe (KN m) m.refs.length 0) (fe (BL m) m.props.length 0)) := by
 unfold te
 rw [pT (L := fk m) (n := m.refs.length) (fin := some (fe (BL m) m.props.length 0)) (c := KN m) hm.refs.1
  (fun k => by rw [fk, w8, iF, Nl hm])
  (fun k i hi => by
   obtain ⟨s, hs⟩ := Pw hm m.refs[i].snapshot
   rw [fk, bw hi, iT, aZ hi, bS, Iq _ (hm.refs.2 _ (List.getElem_mem hi)), bS, jp (by decide), gP ⟨by omega, by omega, by omega⟩, On hm hi, bS]
   show ee _ (al (NN m m.refs[i] i) _ (aE (dL m m.refs[i].snapshot) _)) = _
   rw [hs, bS, jp (by decide)]
   unfold KN m6
   rw [List.getElem?_eq_getElem hi, aK hi hm.refs.1]
   simp only
   rw [← ei, ← ei, LG])]
 exact CB _ _
def Rj (m : aO) (i : Nat) : Bool := match m.snapshots[i]? with | some s => decide ((400 : Int) < (s.files.length : Int)) || decide ((400 : Int) < (s.dby.length : Int)) | none => false
def Rg (m : aO) (i : Nat) : Int := match m.snapshots[i]? with | some s => IntKind.i64.wrap ((s.files.length : Int) + (s.dby.length : Int)) | none => 0
def OE (m : aO) : Nat → Nat → Bool
 | 0, _ => false
 | d + 1, i => Rj m i || OE m d (i + 1)
def PA (m : aO) : Nat → Nat → Int → Int
 | 0, _, x => x
 | d + 1, i, x => PA m d (i + 1) (IntKind.i64.wrap (x + Rg m i))
theorem Gq {m : aO} (hm : s7 m) : ∀ (d k i : Nat) (x : Int) (b : Bool), i + d = m.snapshots.length → d < k → ea m k x b (i : Int) = some (er (b || (OE m d i || decide (4000 < PA m d i x))) 7)
 | 0, k, i, x, b, hi, hk => by
  obtain ⟨k, rfl⟩ := fu hk
  rw [ea, C3 (by omega), iF]
  unfold pX ny OE PA
  cases b with
  | true => rfl
  | false => rw [iF]; cases decide (4000 < x) <;> rfl
 | d + 1, k, i, x, b, hi, hk => by
  obtain ⟨k, rfl⟩ := fu hk
  have h1 : i < m.snapshots.length := by omega
  rw [ea, bw h1, iT, aZ h1, bS]
  unfold la OE PA Rj Rg
  rw [bS, aK h1 hm.snaps.1, List.getElem?_eq_getElem h1]
  simp only
  cases b with
  | true => rw [iT, Gq hm d k (i + 1) _ true (by omega) (by omega)]; rfl
  | false =>
   rw [iF]
   cases decide ((400 : Int) < (m.snapshots[i].files.length : Int)) with
   | true => rw [iT, Gq hm d k (i + 1) _ true (by omega) (by omega)]; rfl
   | false =>
    rw [iF, bS, Gq hm d k (i + 1) _ _ (by omega) (by omega)]
    cases decide ((400 : Int) < (m.snapshots[i].dby.length : Int)) <;> rfl
end Go.Proofs.YtfnmbpecdjncfaaGreatDoor
namespace Go.Proofs.YtfnmbpecdjncfaaGreatDoor
open Go Go.SX Go.SX.Cal
def zG (n : Int) (l : List Int) : Bool := l.any fun x => decide (n ≤ x)
theorem I2 (n : Int) (a b : List Int) : zG n (a ++ b) = (zG n a || zG n b) := by unfold zG; rw [List.any_append]
theorem N3 (m : aO) : ∀ (N k : Nat) (fs : List ab), d8 fs ≤ N → N < k → d8 fs < 1000000000 → bJ k fs m.schemas m.specs m.nextField m.nextSeq m.nextSnap m.purges m.snapshots m.refs m.props = some (er (zG m.nextField (jY fs)) 3) := by
 intro N
 induction N with
 | zero =>
  intro k fs h hk _
  obtain ⟨k, rfl⟩ := fu hk
  have hl := dQ fs
  have : fs = [] := List.eq_nil_of_length_eq_zero (by omega)
  subst this
  rw [bJ, Ap, bI]
  rfl
 | succ N ih =>
  intro k fs hN hk hs
  obtain ⟨k, rfl⟩ := fu hk
  have hl := dQ fs
  rw [bJ]
  have loop : ∀ (d kk i : Nat), i + d = fs.length → d < kk → bI (bJ k) fs m.schemas m.specs m.nextField m.nextSeq m.nextSnap m.purges m.snapshots m.refs m.props kk (i : Int) = some (er (zG m.nextField (jY (fs.drop i))) 3) := by
   intro d
   induction d with
   | zero =>
    intro kk i hi hk2
    obtain ⟨kk, rfl⟩ := fu hk2
    rw [bI, C3 (by omega), iF, List.drop_of_length_le (by omega)]; rfl
   | succ d ihd =>
    intro kk i hi hk2
    obtain ⟨kk, rfl⟩ := fu hk2
    have h1 : i < fs.length := by omega
    have m1 := gL (List.getElem_mem h1)
    have m2 := gq fs[i]
    have m3 := m9 fs[i].type
    rw [bI, bw h1, iT, aZ h1, bS, ih k _ (by omega) (by omega) (by omega), bS, aK h1 (by omega), ihd kk (i + 1) (by omega) (by omega), wW h1, A0]
    unfold oi
    have hb : zG m.nextField (fs[i].id :: jY fs[i].type.fields ++ jY (fs.drop (i + 1))) = (decide (m.nextField ≤ fs[i].id) || (zG m.nextField (jY fs[i].type.fields) || zG m.nextField (jY (fs.drop (i + 1))))) := by
     rw [I2]
     unfold zG
     rw [List.any_cons, Bool.or_assoc]
    rw [hb]
    cases decide (m.nextField ≤ fs[i].id) with
    | true => rfl
    | false =>
     rw [iF, bS]
     show al false _ _ = _
     rw [iF]
     cases zG m.nextField (jY fs[i].type.fields) <;> rfl
  have := loop fs.length bq 0 (by omega) (by rw [bl]; omega)
  rw [show ((0 : Nat) : Int) = 0 from rfl, List.drop_zero] at this
  exact this
noncomputable def OT (p q : List ab) : Int := mO (sc p) (mO (sc q) ((bo bq p q).getD 0))
theorem OY {p q : List ab} (hp : d8 p < 1000000000 - 1) (hq : d8 q < 1000000000 - 1) : (∃ r, lA p q = some (r, OT p q)) ∧ ∃ r, tV p q = some (r, OT p q) := by
 obtain ⟨e, e1, e2, _⟩ := B0 (d8 q) bq bq p q (Nat.le_refl _) (by rw [bl]; omega) (by rw [bl]; omega) (by omega) (by omega)
 unfold lA tV lr qp OT
 rw [Lz hp, Pt hp, Lz hq, Pt hq, e1, e2]
 simp only [bS]
 show (∃ r, aE (al (sc p != 0) _ _) _ = some (r, mO (sc p) (mO (sc q) e))) ∧ ∃ r, aE (al (sc p != 0) _ _) _ = some (r, mO (sc p) (mO (sc q) e))
 by_cases h1 : sc p = 0
 ·rw [h1]
  show (∃ r, al (sc q != 0) _ _ = some (r, mO (sc q) e)) ∧ ∃ r, al (sc q != 0) _ _ = some (r, mO (sc q) e)
  by_cases h2 : sc q = 0
  ·rw [h2]
   show (∃ r, al (e != 0) _ _ = some (r, e)) ∧ ∃ r, al (e != 0) _ _ = some (r, e)
   by_cases h3 : e = 0
   ·subst h3; exact ⟨⟨[], rfl⟩, ⟨[], rfl⟩⟩
   ·rw [show (e != 0) = true by simp [h3]]; exact ⟨⟨[], rfl⟩, ⟨[], rfl⟩⟩
  ·rw [show (sc q != 0) = true by simp [h2], JB h2]; exact ⟨⟨[], rfl⟩, ⟨[], rfl⟩⟩
 ·rw [show (sc p != 0) = true by simp [h1], JB h1, iT, bS, bS, show (sc p != 0) = true by simp [h1]]; exact ⟨⟨[], rfl⟩, ⟨[], rfl⟩⟩
noncomputable def Qh (m : aO) (l : List ab) (q : Nat) : Int := match m.schemas[q]? with | some o => OT o l | none => 0
noncomputable def KC (m : aO) (j : Nat) : Int := match m.schemas[j]? with
 | some l => mO (sc l) (mO (er (zG m.nextField (jY l)) 3) (fe (Qh m l) j 0))
 | none => 0
theorem OC {m : aO} (hm : s7 m) : oX m = some (fe (KC m) m.schemas.length 0) := by
 unfold oX
 rw [pT (L := dn m) (n := m.schemas.length) (fin := some 0) (c := KC m) hm.schemas.1
  (fun k => by rw [dn, w8, iF]; rfl)
  (fun k i hi => by
   have hs := hm.schemas.2 _ (List.getElem_mem hi)
   have hil : i ≤ m.schemas.length := by omega
   rw [dn, bw hi, iT, aZ hi, bS, Lz hs, bS, lK, N3 m _ bq _ (Nat.le_refl _) (by rw [bl]; omega) (by omega), bS, lK, gP ⟨by omega, by omega, by omega⟩]
   rw [pT (L := fL (dn m k) m (i : Int) m.schemas[i]) (n := i) (fin := dn m k ((i + 1 : Nat) : Int)) (c := Qh m m.schemas[i]) (by have := hm.schemas.1; omega)
    (fun q => by
     rw [fL, bS, yo hil, w8, iF]
     unfold oM
     rw [aK hi hm.schemas.1])
    (fun q x hx => by
     have hxl : x < m.schemas.length := by omega
     obtain ⟨⟨r, hr⟩, _⟩ := OY (hm.schemas.2 _ (List.getElem_mem hxl)) hs
     rw [fL, bS, yo hil, bw hx, iT, FX hx hil, bS, hr, bS]
     show al (OT m.schemas[x] m.schemas[i] != 0) _ _ = _
     rw [lK, aK hxl hm.schemas.1]
     unfold Qh
     rw [List.getElem?_eq_getElem hxl])]
   unfold KC
   rw [List.getElem?_eq_getElem hi]
   simp only
   rw [← ei, ← ei])]
 exact jP _
def Il (m : aO) (sp : cN) (d : Nat) : Bool := match m.schemas[d]? with | some fs => !kP (vo fs sp) sp.fields.length | none => false
def un (m : aO) (sp : cN) : Nat → Int
 | 0 => -1
 | d + 1 => if Il m sp d then (d : Int) else un m sp d
theorem BS (m : aO) (sp : cN) : ∀ d, -1 ≤ un m sp d ∧ un m sp d < d
 | 0 => by simp [un]
 | d + 1 => by
  unfold un
  have := BS m sp d
  split <;> constructor <;> omega
noncomputable def Oo (sp : cN) (fs : List ab) : Int := (nR sp fs).getD 0
noncomputable def PH (m : aO) (j : Nat) : Int := match m.specs[j]? with
 | some sp => mO (er (decide (un m sp m.schemas.length < 0) || (decide (j + 1 = m.specs.length) && decide (un m sp m.schemas.length < (m.schemas.length : Int) - 1))) 9)
  (match m.schemas[(un m sp m.schemas.length).toNat]? with | some fs => Oo sp fs | none => 0)
 | none => 0
theorem O1 {m : aO} (hm : s7 m) {sp : cN} (hsp : sp.fields.length < 1000000000) {d : Nat} (hd : d < m.schemas.length) :
  bv sp.fields m.schemas m.specs m.nextField m.nextSeq m.nextSnap m.purges m.snapshots m.refs m.props (d : Int) = some (!Il m sp d, (d : Int)) := by
 have hfs := hm.schemas.2 _ (List.getElem_mem hd)
 have hn : m.schemas[d].length < 1000000000 := by have := dQ m.schemas[d]; omega
 unfold bv cc
 obtain ⟨r, r1, r2⟩ := sK (z := (d : Int)) (L := fun k i => aA sp.fields m.schemas m.specs m.nextField m.nextSeq m.nextSnap m.purges m.snapshots m.refs m.props k (d : Int) i) (n := sp.fields.length) (p := vo m.schemas[d] sp) hsp
  (fun k => by rw [aA, w8, iF]; rfl)
  (fun k i hi => by
   obtain ⟨t1, _, t3, _⟩ := xc hn sp.fields[i].source
   rw [aA, bw hi, iT, aZ hi, bS]
   unfold qc
   rw [aZ hd, bS, t1, bS, bS, t3, aK hi hsp]
   unfold vo
   rw [List.getElem?_eq_getElem hi])
 have r1 : aA sp.fields m.schemas m.specs m.nextField m.nextSeq m.nextSnap m.purges m.snapshots m.refs m.props bq (d : Int) (0 : Int) = some (r, (d : Int)) := r1
 rw [r1, bS]
 show some (decide (0 ≤ r), (d : Int)) = _
 rw [r2]
 unfold Il
 rw [List.getElem?_eq_getElem hd, Bool.not_not]
theorem Kf {m : aO} (hm : s7 m) {sp : cN} (hsp : sp.fields.length < 1000000000) (rec1 : Int → Option Int) (x1 : Int) : ∀ (d k : Nat), d ≤ m.schemas.length → d < k → eN rec1 m x1 sp k ((d : Int) - 1) = mi rec1 m x1 sp (un m sp d)
 | 0, k, hd, hk => by
  obtain ⟨k, rfl⟩ := fu hk
  rw [eN]
  show al (decide ((0 : Int) ≤ -1)) _ _ = _
  rw [decide_eq_false (by decide), iF]
  rfl
 | d + 1, k, hd, hk => by
  obtain ⟨k, rfl⟩ := fu hk
  have h1 : d < m.schemas.length := by omega
  rw [eN, show (((d + 1 : Nat) : Int) - 1) = (d : Int) by omega, decide_eq_true (show (0 : Int) ≤ (d : Int) by omega), iT, O1 hm hsp h1, bS]
  unfold oa un
  show al (!Il m sp d) (eN rec1 m x1 sp k (IntKind.i64.wrap ((d : Int) - 1))) (mi rec1 m x1 sp (d : Int)) = _
  cases Il m sp d with
  | true => rfl
  | false =>
   rw [Bool.not_false, iT, zQ (by have := hm.schemas.1; omega) (by have := hm.schemas.1; omega), Kf hm hsp rec1 x1 d k (by omega) (by omega)]; rfl
theorem Oy {m : aO} (hm : s7 m) {sp : cN} (hsp : sp.fields.length < 1000000000) {fs : List ab} (hfs : fs ∈ m.schemas) : nR sp fs = some (Oo sp fs) ∧ wQ sp fs = some (Oo sp fs) := by
 have := hm.schemas.2 _ hfs
 obtain ⟨c, h1, h2, _⟩ := J2 sp hsp (fs := fs) (by omega)
 unfold Oo
 rw [h1, h2]; exact ⟨rfl, rfl⟩
theorem Nn {m : aO} (hm : s7 m) : rQ m = some (fe (PH m) m.specs.length 0) := by
 unfold rQ
 rw [pT (L := cU m) (n := m.specs.length) (fin := some 0) (c := PH m) hm.specs.1
  (fun k => by rw [cU, w8, iF]; rfl)
  (fun k i hi => by
   have hsp := hm.specs.2 _ (List.getElem_mem hi)
   obtain ⟨l1, l2⟩ := BS m m.specs[i] m.schemas.length
   rw [cU, bw hi, iT, aZ hi, bS, oK hm.schemas.1, Kf hm hsp _ _ m.schemas.length bq (Nat.le_refl _) (by rw [bl]; have := hm.schemas.1; omega)]
   unfold PH
   rw [List.getElem?_eq_getElem hi]
   simp only
   generalize hK : un m m.specs[i] m.schemas.length = K at l1 l2
   have hj : ∀ x, x = (decide (K < 0) || (decide (i + 1 = m.specs.length) && decide (K < (m.schemas.length : Int) - 1))) → kq (cU m k) m (i : Int) m.specs[i] K x =
     ee (mO (er (decide (K < 0) || (decide (i + 1 = m.specs.length) && decide (K < (m.schemas.length : Int) - 1))) 9) (match m.schemas[K.toNat]? with | some fs => Oo m.specs[i] fs | none => 0)) (cU m k ((i + 1 : Nat) : Int)) := by
    rintro x rfl
    unfold kq
    rw [jp (by decide), ← ei]
    refine jZ fun e => ?_
    have e := (By (by decide)).1 e
    rw [Bool.or_eq_false_iff, decide_eq_false_iff_not] at e
    obtain ⟨h1, h2, h3⟩ := BZ (l := m.schemas) (x := K) (by omega) (by omega)
    rw [h2, h3, bS, (Oy hm hsp (List.getElem_mem h1)).1, bS, lK, aK hi hm.specs.1]
   generalize hB : (decide (K < 0) || (decide (i + 1 = m.specs.length) && decide (K < (m.schemas.length : Int) - 1))) = B at hj ⊢
   unfold mi
   by_cases h0 : K < 0
   ·rw [decide_eq_true h0, iT]
    exact hj true (by rw [← hB, decide_eq_true h0]; rfl)
   ·rw [decide_eq_false h0, iF, oK hm.specs.1]
    by_cases hl : i + 1 = m.specs.length
    ·rw [show ((i : Int) == (m.specs.length : Int) - 1) = true from beq_iff_eq.2 (by omega), iT, oK hm.schemas.1, bS]
     exact hj _ (by rw [← hB, decide_eq_false h0, decide_eq_true hl]; rfl)
    ·rw [show ((i : Int) == (m.specs.length : Int) - 1) = false from beq_eq_false_iff_ne.2 (by omega), iF]
     exact hj false (by rw [← hB, decide_eq_false h0, decide_eq_false hl]; rfl))]
 exact jP _
noncomputable def D8 (m : aO) : Int := mO (fe (KC m) m.schemas.length 0) (mO (fe (PH m) m.specs.length 0) (mO (fe (Oc m) m.snapshots.length 0) (mO (PP m) (mO (fe (KN m) m.refs.length 0) (fe (BL m) m.props.length 0)))))
theorem QP {m : aO} (hm : s7 m) (x : Bool) : jd m x = some (mO (er x 3) (D8 m)) := by
 unfold jd D8
 rw [jp (by decide), OC hm, bS, lK, Nn hm, bS, lK, MJ hm, bS, lK]
 refine Eq.trans ?_ (jP _)
 rw [← ei, ← ei, ← ei, ← ei]
 refine jZ fun _ => jZ fun _ => jZ fun _ => jZ fun e => ?_
 rw [Ju hm (CO hm e), bS, lK, NE hm, bS, lK, ei]
theorem D3 : uk = some true := by decide +kernel
end Go.Proofs.YtfnmbpecdjncfaaGreatDoor
namespace Go.Proofs.YtfnmbpecdjncfaaGreatDoor
open Go Go.SX Go.SX.Cal
theorem Pe {m : aO} (hm : s7 m) (x : Bool) : ∃ e, mb m x = some e ∧ (e = 0 → D8 m = 0) := by
 unfold mb
 simp only [jx, QP hm, bS]
 cases x with
 | true => exact ⟨9, rfl, fun h => absurd h (by decide)⟩
 | false =>
  cases decide (1 ≤ m.nextField ∧ m.nextField ≤ 1099511627776) with
  | false => exact ⟨_, rfl, fun h => (nc.1 h).2⟩
  | true =>
   cases decide (1 ≤ m.nextSeq ∧ m.nextSeq ≤ 1099511627776) with
   | false => exact ⟨_, rfl, fun h => (nc.1 h).2⟩
   | true =>
    cases decide (1 ≤ m.nextSnap ∧ m.nextSnap ≤ 1099511627776) with
    | false => exact ⟨_, rfl, fun h => (nc.1 h).2⟩
    | true => exact ⟨_, rfl, fun h => (nc.1 h).2⟩
theorem I3 {m : aO} (hm : s7 m) : ∃ b, qy m = some (er b 7) := by
 have hc : ∀ x, iA m x = some (er (x || (OE m m.snapshots.length 0 || decide (4000 < PA m m.snapshots.length 0 0))) 7) := fun x => Gq hm m.snapshots.length bq 0 0 x (by omega) (by rw [bl]; have := hm.snaps.1; omega)
 unfold qy
 simp only [hc]
 cases decide ((40 : Int) < (m.schemas.length : Int)) with
 | true => exact ⟨_, rfl⟩
 | false =>
  cases decide ((40 : Int) < (m.specs.length : Int)) with
  | true => exact ⟨_, rfl⟩
  | false =>
   cases decide ((200 : Int) < (m.snapshots.length : Int)) with
   | true => exact ⟨_, rfl⟩
   | false =>
    cases decide ((40 : Int) < (m.refs.length : Int)) with
    | true => exact ⟨_, rfl⟩
    | false => exact ⟨_, rfl⟩
theorem Lx {m : aO} (hm : s7 m) : ∃ e, mg m = some e ∧ (e = 0 → D8 m = 0) := by
 obtain ⟨b, h1⟩ := I3 hm
 unfold mg
 rw [h1, bS]
 cases b with
 | true => exact ⟨7, rfl, fun h => absurd h (by decide)⟩
 | false =>
  show ∃ e, al false _ _ = _ ∧ _
  rw [iF]
  cases ((m.schemas.length : Int) == 0) with
  | true => exact Pe hm true
  | false => exact Pe hm _
structure FC (m : aO) (d : aF) : Prop where
 fs : ∃ fs, at? m.schemas d.schema = some fs ∧ fs ∈ m.schemas ∧ (∀ (i : Nat) (h : i < d.ids.length), HL fs d.ids[i] = true) ∧
  ∀ k ∈ d.keys, k.length = d.ids.length ∧ ∀ (i : Nat) (h : i < d.ids.length) (h' : i < k.length), ck (B8 fs d.ids[i]).type k[i] = 0
 keys : ∀ k ∈ d.keys, ∀ v ∈ k, Lv v
structure M3 (m : aO) (s : ak) : Prop where
 sort : wA s.files
 file : ∀ f ∈ s.files, KT f ∧ ∃ fs, at? m.schemas f.schema = some fs ∧ fs ∈ m.schemas
 dby : ∀ d ∈ s.dby, FC m d
theorem RL {m : aO} {d : aF} (hm : s7 m) (hz : LY d.ids d.keys) (h : OK m d = 0) : FC m d := by
 unfold OK at h
 rw [nc] at h
 obtain ⟨fs, a1, a2, a3⟩ := Md ((By (by decide)).1 h.1)
 have h2 := h.2
 rw [a2] at h2
 unfold D5 at h2
 simp only [nc] at h2
 obtain ⟨_, h3, _, _, _, h4⟩ := h2
 have hl : ∀ (i : Nat) (h : i < d.ids.length), HL fs d.ids[i] = true := fun i hi => Mh h3 hi
 have hk : ∀ (j : Nat) (hj : j < d.keys.length), er ((d.keys[j].length : Int) != (d.ids.length : Int)) 1 = 0 ∧ fe (Dd fs d.ids d.keys[j]) d.ids.length 0 = 0 := by
  intro j hj
  have := Jt.1 h4 j (Nat.zero_le _) (by omega)
  rw [wK hj, nc, nc] at this
  exact ⟨this.1, this.2.1⟩
 refine ⟨⟨fs, a1, a3, hl, fun k hk' => ?_⟩, fun k hk' => ?_⟩
 ·obtain ⟨j, hj, rfl⟩ := List.mem_iff_getElem.1 hk'
  obtain ⟨b1, b2⟩ := hk j hj
  refine ⟨by rw [By (by decide), bne_eq_false_iff_eq] at b1; omega, fun i hi hi' => ?_⟩
  have := Jt.1 b2 i (Nat.zero_le _) (by omega)
  unfold Dd at this
  rw [List.getElem?_eq_getElem hi, List.getElem?_eq_getElem hi'] at this
  exact this
 ·obtain ⟨j, hj, rfl⟩ := List.mem_iff_getElem.1 hk'
  obtain ⟨b1, b2⟩ := hk j hj
  exact Fl hz (hm.schemas.2 _ a3) hl hj b1 b2
theorem Kw {m : aO} {f : ah} (h : zq m f = 0) : ∃ fs, at? m.schemas f.schema = some fs ∧ fs ∈ m.schemas := by
 unfold zq at h
 simp only [nc] at h
 have : Ll m f = false := by
  first
  | exact (By (by decide)).1 h.2.1
  | exact (By (by decide)).1 h.1
 obtain ⟨fs, sp, a1, _, _, _, a2, _⟩ := HZ this
 exact ⟨fs, a1, a2⟩
theorem Oz {m : aO} (hm : s7 m) (h : D8 m = 0) : ∀ s ∈ m.snapshots, 1 ≤ s.id ∧ M3 m s := by
 unfold D8 at h
 simp only [nc] at h
 intro s hs
 have ho := CO hm h.2.2.1 s hs
 refine ⟨ho.1, ho.2.1, fun f hf => ⟨ho.2.2 f hf, ?_⟩, fun d hd => ?_⟩
 all_goals
  obtain ⟨i, hi, rfl⟩ := List.mem_iff_getElem.1 hs
  have h1 := Jt.1 h.2.2.1 i (Nat.zero_le _) (by omega)
  rw [EL hi, nc, nc] at h1
  have hh := h1.2.2
  unfold NA at hh
  rw [nc, nc] at hh
 ·obtain ⟨j, hj, rfl⟩ := List.mem_iff_getElem.1 hf
  have h2 := Jt.1 hh.1 j (Nat.zero_le _) (by omega)
  unfold NR at h2
  rw [List.getElem?_eq_getElem hj] at h2
  simp only [nc] at h2
  exact Kw h2.1
 ·have hz := Qo (hm.snaps.2 _ hs) hd
  obtain ⟨j, hj, rfl⟩ := List.mem_iff_getElem.1 hd
  have h2 := Jt.1 hh.2.2 j (Nat.zero_le _) (by omega)
  unfold Ji at h2
  rw [List.getElem?_eq_getElem hj] at h2
  simp only [nc] at h2
  exact RL hm hz h2.1
theorem Fb {m : aO} (hm : s7 m) (h : D8 m = 0) {s t : ak} (hs : s ∈ m.snapshots) (ht : t ∈ m.snapshots) {f g : ah} (hf : f ∈ s.files) (hg : g ∈ t.files) (hn : f.name = g.name) : Sf f g := by
 unfold D8 at h
 simp only [nc] at h
 have ho := CO hm h.2.2.1
 have hb : ∀ i, ¬ Ms m i := by
  intro i hi
  have h4 := h.2.2.2.1
  unfold PP at h4
  rw [By (by decide), ← Bool.not_eq_true, eO] at h4
  exact h4 ⟨i, hi.1, (Ar ho hi.1).2 hi⟩
 obtain ⟨i, hi, rfl⟩ := List.mem_iff_getElem.1 hs
 obtain ⟨x, hx, rfl⟩ := List.mem_iff_getElem.1 ht
 rcases Nat.lt_trichotomy i x with c | c | c
 ·refine Classical.byContradiction fun hc => ?_
  exact hb x ⟨hx, i, c, g, f, hg, hf, hn, hc⟩
 ·subst c
  have hso := (ho _ hs).2.1
  obtain ⟨p, hp, rfl⟩ := List.mem_iff_getElem.1 hf
  obtain ⟨q, hq, rfl⟩ := List.mem_iff_getElem.1 hg
  have a := ve hso hp
  rw [hn, ve hso hq] at a
  rw [Option.some.inj a]
  exact ⟨rfl, rfl, rfl, rfl, rfl, rfl⟩
 ·refine Classical.byContradiction fun hc => ?_
  exact hb i ⟨hi, x, c, f, g, hf, hg, hn.symm, fun h => hc h.symm⟩
end Go.Proofs.YtfnmbpecdjncfaaGreatDoor
namespace Go.Proofs.YtfnmbpecdjncfaaGreatDoor
open Go Go.SX Go.SX.Cal
def nq {α : Type} (r : α → α → Bool) (l m : List α) (j : Nat) : Bool := match l[j]?, m[j]? with | some x, some y => !r x y | _, _ => false
theorem E8 {α : Type} {r : α → α → Bool} {l m : List α} (hl : l.length = m.length) (hr : ∀ x ∈ l, ∀ y ∈ m, (r x y = true ↔ x = y)) : Ex (nq r l m) l.length = true ↔ l = m := by
 rw [DZ]
 constructor
 ·intro h
  refine List.ext_getElem hl fun i h1 h2 => ?_
  have := h i h1
  unfold nq at this
  rw [List.getElem?_eq_getElem h1, List.getElem?_eq_getElem h2] at this
  exact (hr _ (List.getElem_mem h1) _ (List.getElem_mem h2)).1 (by simpa using this)
 ·rintro rfl j hj
  unfold nq
  rw [List.getElem?_eq_getElem hj]
  have := (hr _ (List.getElem_mem hj) _ (List.getElem_mem hj)).2 rfl
  simp [this]
theorem LW {l m : List Int} (hn : l.length < 1000000000) : ∃ b, ig l m = some b ∧ (b = true ↔ l = m) := by
 unfold ig
 by_cases hl : l.length = m.length
 ·rw [show ((l.length : Int) != (m.length : Int)) = false by simp [hl], iF]
  rw [yr (L := db l m) (n := l.length) (p := nq (fun a b => a == b) l m) hn
   (fun k => by rw [db, w8, iF]; rfl)
   (fun k i hi => by
    have h2 : i < m.length := by omega
    rw [db, bw hi, iT, aZ hi, bS, aZ h2, bS, aK hi hn]
    unfold nq
    rw [List.getElem?_eq_getElem hi, List.getElem?_eq_getElem h2]
    rfl)]
  exact ⟨_, rfl, E8 hl fun x _ y _ => by simp⟩
 ·rw [show ((l.length : Int) != (m.length : Int)) = true by simp; omega, iT]
  exact ⟨false, rfl, by simp; rintro rfl; exact hl rfl⟩
theorem Hq (l : List Int) (hn : l.length < 1000000000) : sN l l = some true := by
 unfold sN
 rw [bne_self_eq_false, iF]
 rw [yr (L := jO l l) (n := l.length) (p := nq (fun a b => a == b) l l) hn
  (fun k => by rw [jO, w8, iF]; rfl)
  (fun k i hi => by
   rw [jO, bw hi, iT, aZ hi, bS, bS, aK hi hn]
   unfold nq
   rw [List.getElem?_eq_getElem hi]
   rfl)]
 exact congrArg some ((E8 rfl fun x _ y _ => by simp).2 rfl)
theorem Fm (l : List ByteArray) (hn : l.length < 1000000000) (x : ByteArray) : ∃ b, pQ l x = some b ∧ (b = true ↔ x ∈ l) := by
 have key : ∀ (d k i : Nat), i + d = l.length → d < k → ∃ b, kI l x k (i : Int) = some b ∧ (b = true ↔ x ∈ l.drop i) := by
  intro d
  induction d with
  | zero =>
   intro k i hi hk
   obtain ⟨k, rfl⟩ := fu hk
   rw [kI, C3 (by omega), iF, List.drop_of_length_le (by omega)]
   exact ⟨false, rfl, by simp⟩
  | succ d ih =>
   intro k i hi hk
   obtain ⟨k, rfl⟩ := fu hk
   have h1 : i < l.length := by omega
   rw [kI, bw h1, iT, aZ h1, bS, JC, qz h1, aK h1 hn]
   obtain ⟨b, b1, b2⟩ := ih k (i + 1) (by omega) (by omega)
   by_cases e : l[i] = x
   ·rw [decide_eq_true e, iT]; exact ⟨true, rfl, by simp [e]⟩
   ·rw [decide_eq_false e, iF]; exact ⟨b, b1, by rw [b2, List.mem_cons]; exact ⟨.inr, fun h => h.resolve_left fun h => e h.symm⟩⟩
 have := key l.length bq 0 (by omega) (by rw [bl]; omega)
 rw [List.drop_zero] at this
 exact this
def qw (l : List eg) (n : ByteArray) : List Int := ((l.find? fun d => decide (d.file = n)).map (·.rows)).getD []
theorem HU {s : ak} (hn : s.dat.length < 1000000000) (n : ByteArray) : mT s n = some (qw s.dat n) := by
 have key : ∀ (d k i : Nat), i + d = s.dat.length → d < k → fR s n k (i : Int) = some (qw (s.dat.drop i) n) := by
  intro d
  induction d with
  | zero =>
   intro k i hi hk
   obtain ⟨k, rfl⟩ := fu hk
   rw [fR, C3 (by omega), iF, List.drop_of_length_le (by omega)]; rfl
  | succ d ih =>
   intro k i hi hk
   obtain ⟨k, rfl⟩ := fu hk
   have h1 : i < s.dat.length := by omega
   rw [fR, bw h1, iT, aZ h1, bS, JC, qz h1, aK h1 hn]
   unfold qw
   rw [List.find?_cons]
   cases hb : decide (s.dat[i].file = n) with
   | true => rfl
   | false => rw [iF]; exact ih k (i + 1) (by omega) (by omega)
 have := key s.dat.length bq 0 (by omega) (by rw [bl]; omega)
 rw [List.drop_zero] at this
 exact this
theorem Gf {s : ak} (hs : Hk s) (n : ByteArray) : (qw s.dat n).length < 1000000000 := by
 unfold qw
 cases h : s.dat.find? (fun d => decide (d.file = n)) with
 | none => show ([] : List Int).length < _; simp
 | some d => exact hs.dat.2 d (List.mem_of_find?_eq_some h)
theorem L0 : ∀ {a b : List aa}, (∀ v ∈ a, Lv v) → (∀ v ∈ b, Lv v) → (Ord.cmpL a b = 0 ↔ a = b)
 | [], [], _, _ => by simp [Ord.cmpL]
 | [], _ :: _, _, _ => by simp [Ord.cmpL]
 | _ :: _, [], _, _ => by simp [Ord.cmpL]
 | x :: a, y :: b, ha, hb => by
  simp only [Ord.cmpL]
  rw [zL, Ol (ha x (by simp)) (hb y (by simp)), L0 (fun v hv => ha v (by simp [hv])) (fun v hv => hb v (by simp [hv])), List.cons.injEq]
structure NQ (d : aF) : Prop where
 sz : LY d.ids d.keys
 lv : ∀ k ∈ d.keys, ∀ v ∈ k, Lv v
theorem NF {a b : List (List aa)} (hn : a.length < 1000000000) (ha : ∀ k ∈ a, k.length < 1000000000 ∧ ∀ v ∈ k, Lv v) (hb : ∀ k ∈ b, ∀ v ∈ k, Lv v) :
  ∃ x, bi a b = some x ∧ (x = true ↔ a = b) := by
 unfold bi
 by_cases hl : a.length = b.length
 ·rw [show ((a.length : Int) != (b.length : Int)) = false by simp [hl], iF]
  rw [yr (L := aq a b) (n := a.length) (p := nq (fun x y => Ord.cmpL x y == 0) a b) hn
   (fun k => by rw [aq, w8, iF]; rfl)
   (fun k i hi => by
    have h2 : i < b.length := by omega
    have h3 := ha _ (List.getElem_mem hi)
    rw [aq, bw hi, iT, aZ hi, bS, aZ h2, bS, aK hi hn]
    unfold q7 nq
    rw [IQ h3.2 (hb _ (List.getElem_mem h2)) h3.1, bS, bS, List.getElem?_eq_getElem hi, List.getElem?_eq_getElem h2])]
  exact ⟨_, rfl, E8 hl fun x hx y hy => by rw [beq_iff_eq]; exact L0 (ha x hx).2 (hb y hy)⟩
 ·rw [show ((a.length : Int) != (b.length : Int)) = true by simp; omega, iT]
  exact ⟨false, rfl, by simp; rintro rfl; exact hl rfl⟩
theorem Is {a d : aF} (ha : NQ a) (hd : NQ d) : ∃ b, mt a d = some b ∧ (b = true ↔ a = d) := by
 obtain ⟨s1, i1, k1, q1⟩ := a
 obtain ⟨s2, i2, k2, q2⟩ := d
 unfold mt
 obtain ⟨x, x1, x2⟩ := LW (l := i1) (m := i2) ha.sz.nid
 obtain ⟨y, y1, y2⟩ := NF (a := k1) (b := k2) ha.sz.nkey (fun k hk => ⟨(ha.sz.key k hk).1, ha.lv k hk⟩) hd.lv
 rw [aF.mk.injEq]
 simp only [x1, y1, bS]
 by_cases h1 : s1 = s2
 ·rw [show (s1 == s2) = true by simp [h1], iT]
  by_cases h2 : q1 = q2
  ·rw [show (q1 == q2) = true by simp [h2], iT]
   cases x with
   | true => rw [iT]; exact ⟨y, rfl, by rw [y2]; simp [h1, h2, x2.1 rfl]⟩
   | false => rw [iF]; exact ⟨false, rfl, by simp; intro _ h; exact absurd (x2.2 h) (by simp)⟩
  ·rw [show (q1 == q2) = false by simp [h2], iF]; exact ⟨false, rfl, by simp [h2]⟩
 ·rw [show (s1 == s2) = false by simp [h1], iF]; exact ⟨false, rfl, by simp [h1]⟩
noncomputable def Hs (l : List aF) (q : Int) (l' : List aF) : Bool := @decide (∃ d ∈ l, q < d.seq ∧ d ∉ l') (Classical.propDecidable _)
theorem Ae {l : List aF} {q : Int} {l' : List aF} : Hs l q l' = true ↔ ∃ d ∈ l, q < d.seq ∧ d ∉ l' := by
 unfold Hs; exact @decide_eq_true_iff _ (Classical.propDecidable _)
theorem H9 {l' : List aF} (hn : l'.length < 1000000000) (hl : ∀ d ∈ l', NQ d) {d : aF} (hd : NQ d) :
  ∃ b, bt l' d.schema d.ids d.keys d.seq = some b ∧ (b = true ↔ d ∈ l') := by
 have hs : ∀ e ∈ l', ∃ b, mt d e = some b ∧ (b = true ↔ d = e) := fun e he => Is hd (hl e he)
 unfold bt b8
 obtain ⟨r, r1, r2⟩ := zU (L := aG l' d.schema d.ids d.keys d.seq) (n := l'.length) (p := fun j => match l'[j]? with | some e => (mt d e).getD false | none => false) hn
  (fun k => by rw [aG, w8, iF]; rfl)
  (fun k i hi => by
   rw [aG, bw hi, iT, aZ hi, bS, aK hi hn]
   unfold mI
   obtain ⟨b, b1, b2⟩ := hs _ (List.getElem_mem hi)
   have he : (aF.mk d.schema d.ids d.keys d.seq) = d := rfl
   rw [he, b1, bS, bS, List.getElem?_eq_getElem hi]
   simp only [b1, Option.getD_some])
 rw [r1, bS, r2]
 refine ⟨_, rfl, ?_⟩
 rw [eO]
 constructor
 ·rintro ⟨j, hj, h⟩
  obtain ⟨b, b1, b2⟩ := hs _ (List.getElem_mem hj)
  rw [List.getElem?_eq_getElem hj] at h
  simp only [b1, Option.getD_some] at h
  rw [b2.1 h]; exact List.getElem_mem hj
 ·intro h
  obtain ⟨j, hj, e⟩ := List.mem_iff_getElem.1 h
  obtain ⟨b, b1, b2⟩ := hs _ (List.getElem_mem hj)
  refine ⟨j, hj, ?_⟩
  rw [List.getElem?_eq_getElem hj]
  simp only [b1, Option.getD_some]
  exact b2.2 e.symm
theorem FD {x y : ak} {f : ah} (hx : x.dby.length < 1000000000) (hy : y.dby.length < 1000000000) (lx : ∀ d ∈ x.dby, NQ d) (ly : ∀ d ∈ y.dby, NQ d) : mR x f y = some (Hs x.dby f.seq y.dby) := by
 unfold mR bY ce
 have hp : ∀ d ∈ x.dby, ∃ b, jB d f.name f.schema f.spec f.part f.rows f.seq f.stats y.id y.parent y.seq y.schema y.time y.kind y.files y.dat y.dby = some b ∧ (b = true ↔ f.seq < d.seq ∧ d ∉ y.dby) := by
  intro d hd
  unfold jB
  obtain ⟨b, b1, b2⟩ := H9 hy ly (lx d hd)
  rw [b1, bS]
  by_cases h : f.seq < d.seq
  ·rw [decide_eq_true h, iT]; exact ⟨!b, rfl, by cases b <;> simp_all⟩
  ·rw [decide_eq_false h, iF]; exact ⟨false, rfl, by simp [h]⟩
 obtain ⟨r, r1, r2⟩ := zU (L := aH x.dby f.name f.schema f.spec f.part f.rows f.seq f.stats y.id y.parent y.seq y.schema y.time y.kind y.files y.dat y.dby) (n := x.dby.length)
  (p := fun j => match x.dby[j]? with | some d => (jB d f.name f.schema f.spec f.part f.rows f.seq f.stats y.id y.parent y.seq y.schema y.time y.kind y.files y.dat y.dby).getD false | none => false) hx
  (fun k => by rw [aH, w8, iF]; rfl)
  (fun k i hi => by
   rw [aH, bw hi, iT, aZ hi, bS, aK hi hx]
   obtain ⟨b, b1, b2⟩ := hp _ (List.getElem_mem hi)
   rw [b1, bS, List.getElem?_eq_getElem hi]
   simp only [b1, Option.getD_some])
 rw [r1, bS, r2, bS]
 congr 1
 refine mL ?_
 rw [eO, Ae]
 constructor
 ·rintro ⟨j, hj, h⟩
  obtain ⟨b, b1, b2⟩ := hp _ (List.getElem_mem hj)
  rw [List.getElem?_eq_getElem hj] at h
  simp only [b1, Option.getD_some] at h
  exact ⟨_, List.getElem_mem hj, b2.1 h⟩
 ·rintro ⟨d, hd, h⟩
  obtain ⟨j, hj, rfl⟩ := List.mem_iff_getElem.1 hd
  obtain ⟨b, b1, b2⟩ := hp _ hd
  refine ⟨j, hj, ?_⟩
  rw [List.getElem?_eq_getElem hj]
  simp only [b1, Option.getD_some]
  exact b2.2 h
end Go.Proofs.YtfnmbpecdjncfaaGreatDoor
