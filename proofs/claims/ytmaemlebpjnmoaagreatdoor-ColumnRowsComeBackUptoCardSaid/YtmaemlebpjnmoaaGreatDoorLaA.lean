/- The calendar, in plain integers. Names, in plain terms. The fields of a type, in plain terms. The check of types and the common type, in plain terms. Texts and sound values, in plain terms. Values of a type, in plain terms; the law of Sound and Check. Rows: lists of fields. SameType: both answers are the same. CheckSchema: both answers are the same. CheckSchema, end; the law of types. Rows: CheckRows, of both sides. Rows: the ways to the leaves, of both sides. Rows: what a value leaves at a way, of both sides. Rows: what is the same as itself. Rows: what checked schemas and rows are like. Rows: shreds of both sides; the law. Rows: how many leaves a field has. Rows: the assembler's place in its columns. Rows: steps of the assembler. Rows: the assembler puts a value together. Rows: the assembler puts a value together: its parts. Rows: the assembler puts a value together. Rows: the assembler puts a value together: records, and all values. Rows: what is the same as itself, of the program's side, and of rows. Rows: the assembler puts rows together; the law. Rows and schemas as they are read. -/
import Derived.Test.YtmaemlebpjnmoaaGreatDoorGeC
set_option linter.unusedVariables false
set_option linter.unusedSimpArgs false
set_option linter.unnecessarySimpa false
namespace Go.SX.Cal
open Go
theorem mW {x : Int} (h1 : -9223372036854775808 ≤ x) (h2 : x ≤ 9223372036854775807) : IntKind.i64.wrap x = x := by
 simp only [IntKind.wrap, IntKind.bits, IntKind.signed]
 simp only [Bool.true_and, decide_eq_true_eq, ge_iff_le]
 split <;> omega
def S (y : Int) : Int := 365 * y + y / 4 - y / 100
def F (r : Int) : Int := r - r / 1460 + r / 36524
def Du (y : Int) : Prop := y % 4 = 0 ∧ (y % 100 ≠ 0 ∨ y % 400 = 0)
instance (y : Int) : Decidable (Du y) := by unfold Du; infer_instance
def E (y : Int) : Int := y / 400 * 146097 + S (y % 400) - 719468
end Go.SX.Cal
namespace Go.Proofs.YtmaemlebpjnmoaaGreatDoor
open Go Go.SX Go.SX.Cal
theorem bn {β : Type} (x y : Option β) : aI true x y = x := rfl
theorem aW {β : Type} (x y : Option β) : aI false x y = y := rfl
theorem bv {β : Type} (b : Bool) (x y : Option β) : aI b x y = if b = true then x else y := by cases b <;> rfl
theorem aQ : bf = 1152921504606846976 := rfl
def first (P : Nat → Bool) (i n : Nat) : Option Nat := (List.range' i (n - i)).find? P
theorem lA {P : Nat → Bool} {i n : Nat} (h : i < n) : first P i n = if P i = true then some i else first P (i + 1) n := by
 unfold first
 rw [show n - i = (n - (i + 1)) + 1 by omega, List.range'_succ, List.find?_cons]
 cases hp : P i <;> simp [hp]
theorem la {P : Nat → Bool} {n : Nat} : first P n n = none := by simp [first]
theorem lB {P : Nat → Bool} {i n : Nat} : first P i n = none ↔ ∀ j, i ≤ j → j < n → P j = false := by
 unfold first
 rw [List.find?_eq_none]
 constructor
 ·intro h j h1 h2
  have := h j (by rw [List.mem_range'_1]; omega)
  simpa using this
 ·intro h j hj
  rw [List.mem_range'_1] at hj
  have := h j (by omega) (by omega)
  simp [this]
theorem kn {β : Type} {f : Nat → Nat → Option β} {n : Nat} {P : Nat → Bool} {A : Nat → Option β} {B : Option β} (hstep : ∀ k i, i < n → f (k + 1) i = if P i = true then A i else f k (i + 1)) (hend : ∀ k, f (k + 1) n = B) :
  ∀ k i, i ≤ n → n - i < k → f k i = (first P i n).elim B A := by
 intro k
 induction k with
 | zero => intro i _ h; omega
 | succ k ih =>
  intro i hi hk
  by_cases h : i = n
  ·subst h
   rw [hend, la]; rfl
  ·rw [hstep k i (by omega), lA (by omega)]
   by_cases hp : P i = true
   ·simp [hp]
   ·simp only [hp, if_false]
    exact ih (i + 1) (by omega) (by omega)
def jp (s : ByteArray) (i : Nat) : Nat := (s.data.toList.getD i 0).toNat
theorem qK (s : ByteArray) (i : Nat) (h : i < s.size) : (s.get! i).toNat = jp s i := by
 unfold jp
 have h' : i < s.data.size := h
 have : s.get! i = s.data.toList.getD i 0 := by
  simp only [ByteArray.get!, List.getD, Array.getElem?_toList]
  rw [getElem!_pos s.data i h', Array.getElem?_eq_getElem h']; rfl
 rw [this]
def lV (b : Nat) : Bool := decide (97 ≤ b) && decide (b ≤ 122)
def other (b : Nat) : Bool := b == 95 || (decide (48 ≤ b) && decide (b ≤ 57))
def tF (b : Nat) : Bool := lV b || other b
theorem zQ (n : Nat) : ka (Int.ofNat n) = some (!tF n) := by
 unfold ka dh
 simp only [bv, decide_eq_true_eq, Int.ofNat_eq_natCast]
 repeat' split
 all_goals (rw [Option.some.injEq, Bool.eq_iff_iff]; simp [tF, lV, other]; omega)
theorem sF (s : ByteArray) (i : Nat) (h : i < s.size) (hb : jp s i < 128) : Utf8.decode s i = (jp s i, 1) := by
 have e := qK s i h
 unfold Utf8.decode
 simp [e, hb]
theorem sS (s : ByteArray) (i : Nat) (h : i < s.size) (hb : ¬ jp s i < 128) : 128 ≤ (Utf8.decode s i).1 := by
 have e := qK s i h
 unfold Utf8.decode
 simp only [Nat.add_zero, e, if_neg hb, Utf8.runeError]
 repeat' split
 all_goals simp_all
 all_goals omega
def BT (s : ByteArray) (i : Nat) : Bool := !tF (jp s i)
theorem tV (s : ByteArray) : ∀ k i, i ≤ s.size → s.size - i < k → ∃ r, bi s true k i = some r ∧ (decide (0 ≤ r) = (first (BT s) i s.size).isSome) := by
 intro k
 induction k with
 | zero => intro i _ h; omega
 | succ k ih =>
  intro i hi hk
  rw [bi]
  by_cases h : i = s.size
  ·subst h
   rw [la]
   simp only [Nat.lt_irrefl, decide_false, aW]
   exact ⟨-1, rfl, rfl⟩
  ·have hlt : i < s.size := by omega
   simp only [hlt, decide_true, bn, zQ, cf]
   rw [lA hlt]
   by_cases hb : jp s i < 128
   ·rw [sF s i hlt hb]
    simp only [BT]
    by_cases hg : tF (jp s i) = true
    ·simp only [hg, Bool.not_true, bv]
     obtain ⟨r, h1, h2⟩ := ih (i + 1) (by omega) (by omega)
     exact ⟨r, by simpa using h1, by simpa [BT] using h2⟩
    ·simp only [hg, Bool.not_false, bv]
     exact ⟨_, rfl, by simp⟩
   ·have h1 := sS s i hlt hb
    have g1 : tF (Utf8.decode s i).1 = false := by
     generalize (Utf8.decode s i).1 = x at h1
     simp [tF, lV, other]; omega
    have g2 : BT s i = true := by
     simp [BT, tF, lV, other]; omega
    simp only [g1, g2, Bool.not_false, bv]
    exact ⟨_, rfl, by simp⟩
def lF (s : ByteArray) : Bool := decide (1 ≤ s.size) && decide (s.size ≤ 24) && lV (jp s 0) && (first (BT s) 0 s.size).isNone
theorem lc (s : ByteArray) : (s.toList == (ByteArray.mk #[]).toList) = decide (s.size = 0) := by
 rw [ByteArray.toList_eq, ByteArray.toList_eq, Bool.eq_iff_iff]
 show (s.data.toList == []) = true ↔ decide (s.data.size = 0) = true
 rw [← Array.length_toList]
 cases s.data.toList <;> simp
theorem Dl (s : ByteArray) (hs : s.size < 1000000000) : lG s = some (lF s) := by
 obtain ⟨r, h1, h2⟩ := tV s bf 0 (Nat.zero_le _) (by rw [aQ]; omega)
 unfold lG fX cx cO cQ
 rw [h1, lc]
 simp only [cf, h2, bv]
 by_cases z0 : s.size = 0
 ·simp [z0, lF]
 ·by_cases z1 : 24 < s.size
  ·have : ¬ s.size ≤ 24 := by omega
   simp [z0, z1, lF, this, show (24 : Int) < (s.size : Int) by omega]
  ·have hz : ¬ (24 : Int) < (s.size : Int) := by omega
   have hb : ((s.data.toList.getD (0 : Int).toNat 0).toNat : Int) = (jp s 0 : Int) := rfl
   simp only [z0, decide_false, hz, Bool.false_eq_true, if_false, hb]
   rw [nX (by omega), nX (by omega)]
   simp only [decide_eq_true_eq]
   have : s.size ≤ 24 := by omega
   by_cases q1 : jp s 0 < 97
   ·have : ¬ 97 ≤ jp s 0 := by omega
    simp [show (jp s 0 : Int) < 97 by omega, lF, lV, this]
   ·by_cases q2 : 122 < jp s 0
    ·have : ¬ jp s 0 ≤ 122 := by omega
     simp [show ¬ (jp s 0 : Int) < 97 by omega, show (122 : Int) < (jp s 0 : Int) by omega, lF, lV, this]
    ·simp [show ¬ (jp s 0 : Int) < 97 by omega, show ¬ (122 : Int) < (jp s 0 : Int) by omega, lF, lV, show 1 ≤ s.size by omega, this, show 97 ≤ jp s 0 by omega, show jp s 0 ≤ 122 by omega]
def si (s : ByteArray) (i : Nat) : Bool := !lV (jp s i) && (i == 0 || !other (jp s i))
theorem wP (s : ByteArray) (hs : s.size < 1000000000) (k i : Nat) (hi : i < s.size) : cp s (k + 1) (i : Int) = if si s i = true then some false else cp s k ((i + 1 : Nat) : Int) := by
 rw [cp, ← bv]
 have hb : ((s.data.toList.getD (i : Int).toNat 0).toNat : Int) = (jp s i : Int) := rfl
 have hw : IntKind.i64.wrap ((i : Int) + 1) = ((i + 1 : Nat) : Int) := by rw [mW (by omega) (by omega)]; omega
 have hg : 0 ≤ (i : Int) ∧ (i : Int) < (s.size : Int) := by omega
 rw [show decide ((i : Int) < (s.size : Int)) = true by simp [hg.2], bn]
 simp only [jR, iN, iO, hb, hw, cf, nX hg]
 have e1 : ((jp s i : Int) == 95) = (jp s i == 95) := by rw [Bool.eq_iff_iff]; simp; omega
 have e2 : (decide ((97 : Int) ≤ jp s i)) = decide (97 ≤ jp s i) := by rw [Bool.eq_iff_iff]; simp; omega
 have e3 : (decide ((jp s i : Int) ≤ 122)) = decide (jp s i ≤ 122) := by rw [Bool.eq_iff_iff]; simp; omega
 have e4 : (decide ((48 : Int) ≤ jp s i)) = decide (48 ≤ jp s i) := by rw [Bool.eq_iff_iff]; simp; omega
 have e5 : (decide ((jp s i : Int) ≤ 57)) = decide (jp s i ≤ 57) := by rw [Bool.eq_iff_iff]; simp; omega
 have e6 : ((i : Int) == 0) = (i == 0) := by rw [Bool.eq_iff_iff]; simp
 simp only [e1, e2, e3, e4, e5, e6, si, lV, other]
 generalize hq : cp s k ((i + 1 : Nat) : Int) = q
 generalize (jp s i == 95) = b1
 generalize decide (97 ≤ jp s i) = b2
 generalize decide (jp s i ≤ 122) = b3
 generalize decide (48 ≤ jp s i) = b4
 generalize decide (jp s i ≤ 57) = b5
 generalize (i == 0) = b6
 cases b1 <;> cases b2 <;> cases b3 <;> cases b4 <;> cases b5 <;> cases b6 <;> rfl
theorem De (s : ByteArray) (hs : s.size < 1000000000) : mt s = some (lF s) := by
 have hl := kn (f := fun k i => cp s k (i : Int)) (n := s.size) (P := si s) (A := fun _ => some false) (B := some true) (fun k i hi => wP s hs k i hi)
  (fun k => by rw [cp]; simp only [Int.lt_irrefl, decide_false, aW]; rfl) bf 0 (Nat.zero_le _) (by rw [aQ]; omega)
 have hl : cp s bf (0 : Int) = _ := hl
 unfold mt jU
 rw [hl]
 simp only [bv]
 by_cases z0 : s.size = 0
 ·simp [z0, lF]
 ·by_cases z1 : 24 < s.size
  ·have : ¬ s.size ≤ 24 := by omega
   simp [z0, z1, lF, this, show (24 : Int) < (s.size : Int) by omega]
  ·have hz : ¬ (24 : Int) < (s.size : Int) := by omega
   have hz2 : ¬ (s.size : Int) < 1 := by omega
   simp only [hz, hz2, decide_false, Bool.false_eq_true, if_false]
   have e : (first (si s) 0 s.size).isNone = (lV (jp s 0) && (first (BT s) 0 s.size).isNone) := by
    rw [Bool.eq_iff_iff, Bool.and_eq_true, Option.isNone_iff_eq_none, Option.isNone_iff_eq_none, lB, lB]
    constructor
    ·intro h
     have h0 := h 0 (Nat.le_refl _) (by omega)
     simp only [si, beq_self_eq_true, Bool.true_or, Bool.and_true] at h0
     have h0' : lV (jp s 0) = true := by simpa using h0
     refine ⟨h0', fun j _ hj => ?_⟩
     have h1 := h j (Nat.zero_le _) hj
     simp only [si, BT, tF] at h1 ⊢
     cases hs : lV (jp s j) <;> cases ho : other (jp s j) <;> simp_all
    ·rintro ⟨h0, h⟩ j _ hj
     have h1 := h j (Nat.zero_le _) hj
     simp only [si, BT, tF] at h1 ⊢
     by_cases hj0 : j = 0
     ·subst hj0; simp [h0]
     ·cases hs : lV (jp s j) <;> cases ho : other (jp s j) <;> simp_all
   have : (first (si s) 0 s.size).elim (some true) (fun _ => some false) = some ((first (si s) 0 s.size).isNone) := by cases first (si s) 0 s.size <;> rfl
   rw [this, e]
   simp [lF, show 1 ≤ s.size by omega, show s.size ≤ 24 by omega]
end Go.Proofs.YtmaemlebpjnmoaaGreatDoor
namespace Go.Proofs.YtmaemlebpjnmoaaGreatDoor
open Go Go.SX Go.SX.Cal
mutual
def gX : aw → Nat
 | ⟨_, _, fs⟩ => bQ fs + 1
def bQ : List (iU aw) → Nat
 | [] => 0
 | f :: l => jN f + bQ l
def jN : iU aw → Nat
 | ⟨_, n, _, t⟩ => n.size + gX t + 1
end
theorem cZ : ∀ {l : List ah} {x : ah}, x ∈ l → jN x ≤ bQ l
 | [], _, h => by cases h
 | y :: l, x, h => by
  simp only [bQ]
  rcases List.mem_cons.1 h with rfl | h
  ·omega
  ·have := cZ h; omega
theorem dv : ∀ x : ah, jN x = x.name.size + gX x.type + 1
 | ⟨_, _, _, _⟩ => by simp only [jN]
theorem ga : ∀ x : aw, gX x = bQ x.fields + 1
 | ⟨_, _, _⟩ => by simp only [gX]
theorem dP : ∀ l : List ah, l.length ≤ bQ l
 | [] => by simp [bQ]
 | x :: l => by
  have := dP l
  have := dv x
  simp only [bQ, List.length_cons]; omega
theorem bt {i n : Nat} (h : i < n) (hn : n < 1000000000) : IntKind.i64.wrap ((i : Int) + 1) = ((i + 1 : Nat) : Int) := by rw [mW (by omega) (by omega)]; omega
theorem cg {α : Type} {xs : List α} {i : Nat} (h : i < xs.length) : at? xs (i : Int) = some xs[i] := by unfold at?; simp [h]
theorem cU {i n : Nat} (h : i < n) : decide ((i : Int) < (n : Int)) = true := by simp [h]
def Da (fs : List ah) (i : Nat) : ByteArray := (fs[i]?.map (·.name)).getD ByteArray.empty
theorem nz {fs : List ah} {i : Nat} (h : i < fs.length) : Da fs i = fs[i].name := by simp [Da, h]
def oQ (fs : List ah) (i : Nat) : Bool := !lF (Da fs i)
def C4 (fs : List ah) (i j : Nat) : Bool := (Da fs j).toList == (Da fs i).toList
def tG (fs : List ah) (i : Nat) : Bool := (first (C4 fs i) 0 i).isSome
def wU (fs : List ah) : Bool := (first (oQ fs) 0 fs.length).isSome
def uD (fs : List ah) : Bool := (first (tG fs) 0 fs.length).isSome
structure qf (fs : List ah) : Prop where
 len : fs.length < 1000000000
 nam : ∀ f ∈ fs, f.name.size < 1000000000
theorem BY {fs : List ah} (h : bQ fs < 1000000000) : qf fs :=
 ⟨by have := dP fs; omega, fun f hf => by have := cZ hf; have := dv f; omega⟩
theorem Ch : ∀ f : ah, iU.mk f.id f.name f.need (aw.mk f.type.kind f.type.scale f.type.fields) = f
 | ⟨_, _, _, ⟨_, _, _⟩⟩ => rfl
theorem Aq : ∀ t : aw, aw.mk t.kind t.scale t.fields = t
 | ⟨_, _, _⟩ => rfl
theorem yI {fs : List ah} (ho : qf fs) : aR fs = some (wU fs) := by
 have hl := kn (f := fun k i => au fs k (i : Int)) (n := fs.length) (P := oQ fs) (A := fun i => some (i : Int)) (B := some (-1)) (fun k i hi => by
   show au fs (k + 1) (i : Int) = _
   rw [au, cU hi, bn, cg hi, cf, jY, Dl _ (ho.nam _ (List.getElem_mem hi)), bt hi ho.len]
   simp only [cf, bv, oQ, nz hi])
  (fun k => by rw [au]; simp only [Int.lt_irrefl, decide_false, aW]; rfl) bf 0 (Nat.zero_le _) (by rw [aQ]; have := ho.len; omega)
 have hl : au fs bf (0 : Int) = _ := hl
 unfold aR bq
 rw [hl]
 unfold wU
 cases first (oQ fs) 0 fs.length with
 | none => rfl
 | some j => simp [cf]
theorem yP {fs : List ah} (ho : qf fs) {i : Nat} (hi : i < fs.length) : aP ((fs.drop (0 : Int).toNat).take ((i : Int).toNat - (0 : Int).toNat)) fs[i] = some (tG fs i, fs[i]) := by
 have ep : (fs.drop (0 : Int).toNat).take ((i : Int).toNat - (0 : Int).toNat) = fs.take i := by simp
 rw [ep]
 have hlen : (fs.take i).length = i := by simp; omega
 have hl := kn (f := fun k j => ap (fs.take i) k fs[i].id fs[i].name fs[i].need fs[i].type.kind fs[i].type.scale fs[i].type.fields (j : Int)) (n := i) (P := C4 fs i) (A := fun j => some ((j : Int), fs[i])) (B := some (-1, fs[i])) (fun k j hj => by
   have hj' : j < (fs.take i).length := by rw [hlen]; exact hj
   have hjf : j < fs.length := by omega
   show ap (fs.take i) (k + 1) _ _ _ _ _ _ (j : Int) = _
   rw [ap, cU hj', bn, cg hj', cf, jV, bt hj (by have := ho.len; omega)]
   simp only [cf, bv, C4, nz hi, nz hjf, List.getElem_take, Ch])
  (fun k => by
   show ap (fs.take i) (k + 1) _ _ _ _ _ _ (i : Int) = _
   rw [ap]; simp only [hlen, Int.lt_irrefl, decide_false, aW, bh, Ch]) bf 0 (Nat.zero_le _) (by rw [aQ]; have := ho.len; omega)
 have hl : ap (fs.take i) bf _ _ _ _ _ _ (0 : Int) = _ := hl
 unfold aP br
 rw [hl]
 unfold tG
 cases first (C4 fs i) 0 i with
 | none => rfl
 | some j => simp [cf]
theorem vp {t : aw} (ho : qf t.fields) : cM t bf (0 : Int) = some (if uD t.fields = true then 5 else 0) := by
 have hl := kn (f := fun k i => cM t k (i : Int)) (n := t.fields.length) (P := tG t.fields) (A := fun _ => some 5) (B := some 0) (fun k i hi => by
   show cM t (k + 1) (i : Int) = _
   rw [cM, cU hi, bn, cg hi, cf, nX (by omega), yP ho hi, bt hi ho.len]
   simp only [cf, bv])
  (fun k => by rw [cM]; simp only [Int.lt_irrefl, decide_false, aW]; rfl) bf 0 (Nat.zero_le _) (by rw [aQ]; have := ho.len; omega)
 have hl : cM t bf (0 : Int) = _ := hl
 rw [hl]
 unfold uD
 cases first (tG t.fields) 0 t.fields.length <;> rfl
theorem Bc {t : aw} (ho : qf t.fields) (rec2 : Int → Option Int) {i : Nat} (hi : i < t.fields.length) : di rec2 t (i : Int) bf (0 : Int) = if tG t.fields i = true then some 5 else rec2 ((i + 1 : Nat) : Int) := by
 have hl := kn (f := fun k j => di rec2 t (i : Int) k (j : Int)) (n := i) (P := C4 t.fields i) (A := fun j => some 5) (B := rec2 ((i + 1 : Nat) : Int)) (fun k j hj => by
   have hjf : j < t.fields.length := by omega
   show di rec2 t (i : Int) (k + 1) (j : Int) = _
   rw [di, cU hj, bn, cg hjf, cg hi, bt hj (by have := ho.len; omega)]
   simp only [cf, bv, C4, nz hi, nz hjf])
  (fun k => by
   show di rec2 t (i : Int) (k + 1) (i : Int) = _
   rw [di]; simp only [Int.lt_irrefl, decide_false, aW, ks]; rw [bt hi ho.len]) bf 0 (Nat.zero_le _) (by rw [aQ]; have := ho.len; omega)
 have hl : di rec2 t (i : Int) bf (0 : Int) = _ := hl
 rw [hl]
 unfold tG
 cases first (C4 t.fields i) 0 i <;> simp
theorem AA {t : aw} (ho : qf t.fields) : cS t bf (0 : Int) = some (if uD t.fields = true then 5 else 0) := by
 have hl := kn (f := fun k i => cS t k (i : Int)) (n := t.fields.length) (P := tG t.fields) (A := fun _ => some 5) (B := some 0) (fun k i hi => by
   show cS t (k + 1) (i : Int) = _
   rw [cS, cU hi, bn, Bc ho _ hi])
  (fun k => by rw [cS]; simp only [Int.lt_irrefl, decide_false, aW]; rfl) bf 0 (Nat.zero_le _) (by rw [aQ]; have := ho.len; omega)
 have hl : cS t bf (0 : Int) = _ := hl
 rw [hl]
 unfold uD
 cases first (tG t.fields) 0 t.fields.length <;> rfl
theorem zh {t : aw} (ho : qf t.fields) : dG t bf (0 : Int) = some (if wU t.fields = true then 4 else if uD t.fields = true then 5 else 0) := by
 have hl := kn (f := fun k i => dG t k (i : Int)) (n := t.fields.length) (P := oQ t.fields) (A := fun _ => some 4) (B := some (if uD t.fields = true then 5 else 0)) (fun k i hi => by
   show dG t (k + 1) (i : Int) = _
   rw [dG, cU hi, bn, cg hi, cf, De _ (ho.nam _ (List.getElem_mem hi)), bt hi ho.len]
   simp only [cf, bv, oQ, nz hi])
  (fun k => by rw [dG]; simp only [Int.lt_irrefl, decide_false, aW, kx]; exact AA ho) bf 0 (Nat.zero_le _) (by rw [aQ]; have := ho.len; omega)
 have hl : dG t bf (0 : Int) = _ := hl
 rw [hl]
 unfold wU
 cases first (oQ t.fields) 0 t.fields.length <;> rfl
def vf (t : aw) : Int :=
 if t.kind = 6 then (if t.fields.length ≠ 1 ∨ (Da t.fields 0).size ≠ 0 then 1 else 0)
 else if t.kind ≠ 7 then (if 0 < t.fields.length then 1 else 0)
 else if t.fields.length = 0 then 1 else if wU t.fields = true then 4 else if uD t.fields = true then 5 else 0
def rn (t : aw) : Prop := t.scale ≠ 0 ∧ (t.kind ≠ 3 ∨ t.scale < 0 ∨ 12 < t.scale)
instance (t : aw) : Decidable (rn t) := by unfold rn; infer_instance
def shp (t : aw) : Int := if t.kind < 1 ∨ 7 < t.kind then 3 else if rn t then 1 else vf t
theorem BJ {t : aw} (ho : qf t.fields) : jS t = some (vf t) := by
 unfold jS gV vf
 rw [yI ho, vp ho]
 simp only [cf, bv]
 by_cases h6 : t.kind = 6
 ·simp only [h6, beq_self_eq_true, if_true]
  by_cases hl : t.fields.length = 1
  ·have : (0 : Nat) < t.fields.length := by omega
   rw [show at? t.fields (0 : Int) = some t.fields[0] from cg (i := 0) this]
   simp only [hl, cf, lc, nz this]
   by_cases hz : t.fields[0].name.size = 0 <;> simp [hz]
  ·simp [hl, show ((t.fields.length : Int) = 1) = False from eq_false (by omega)]
 ·by_cases h7 : t.kind = 7
  ·simp [h7]
   by_cases hl : t.fields = []
   ·simp [hl]
   ·simp [hl]
    by_cases hb : wU t.fields = true
    ·simp [hb]
    ·simp [hb]
  ·simp [h6, h7]
   by_cases hl : 0 < t.fields.length
   ·simp [hl]
   ·simp [hl]
theorem C6 {t : aw} (ho : qf t.fields) : ld t = some (shp t) := by
 have hj3 : ∀ x, eA t x = if x = true then some 1 else if t.kind ≠ 7 then some 0 else some (if wU t.fields = true then 4 else if uD t.fields = true then 5 else 0) := by
  intro x
  unfold eA
  rw [zh ho]
  cases x <;> simp [bv]
 have hleaf : iP t.kind = some (decide (t.kind ≠ 6 ∧ t.kind ≠ 7)) := by
  unfold iP iJ
  by_cases h6 : t.kind = 6 <;> by_cases h7 : t.kind = 7 <;> simp [h6, h7, bv]
 have hj1 : ∀ x, ew t x = if x = true then some 1 else some (vf t) := by
  intro x
  cases x with
  | true => rfl
  | false =>
   unfold ew hI vf
   rw [hleaf]
   simp only [bv, cf, hj3]
   by_cases h6 : t.kind = 6
   ·simp only [h6, beq_self_eq_true, if_true]
    by_cases hl : t.fields.length = 1
    ·have : (0 : Nat) < t.fields.length := by omega
     rw [show at? t.fields (0 : Int) = some t.fields[0] from cg (i := 0) this]
     simp only [hl, cf, lc, nz this]
     by_cases hz : t.fields[0].name.size = 0 <;> simp [hz]
    ·simp [hl, show ((t.fields.length : Int) = 1) = False from eq_false (by omega)]
   ·by_cases h7 : t.kind = 7
    ·simp [h7]
     by_cases hl : t.fields = []
     ·simp [hl]
     ·simp [hl]
    ·simp [h6, h7]
     by_cases hl : 0 < t.fields.length
     ·simp [hl]
     ·simp [hl]
 unfold ld shp dB gk
 simp only [bv, hj1, cf]
 by_cases a1 : t.kind < 1
 ·simp [a1, show ¬ (1 : Int) ≤ t.kind by omega, cf]
 ·by_cases a2 : 7 < t.kind
  ·simp [a2, show (1 : Int) ≤ t.kind by omega, show ¬ t.kind ≤ 7 by omega, cf]
  ·simp only [a1, a2, show (1 : Int) ≤ t.kind by omega, show t.kind ≤ 7 by omega, decide_true, or_self, if_false, if_true, Bool.not_true, cf]
   unfold rn
   by_cases h3 : t.kind = 3
   ·by_cases b1 : t.scale < 0
    ·simp [h3, b1, show ¬ (0 : Int) ≤ t.scale by omega, show t.scale ≠ 0 by omega, cf]
    ·by_cases b2 : 12 < t.scale
     ·simp [h3, b1, b2, show (0 : Int) ≤ t.scale by omega, show ¬ t.scale ≤ 12 by omega, show t.scale ≠ 0 by omega, cf]
     ·simp [h3, b1, b2, show (0 : Int) ≤ t.scale by omega, show t.scale ≤ 12 by omega, cf]
   ·by_cases b0 : t.scale = 0 <;> simp [h3, b0]
end Go.Proofs.YtmaemlebpjnmoaaGreatDoor
namespace Go.Proofs.YtmaemlebpjnmoaaGreatDoor
open Go Go.SX Go.SX.Cal
inductive V : aw → Prop where
 | mk (t : aw) (h1 : shp t = 0) (h2 : ∀ f, f ∈ t.fields → V f.type) : V t
theorem Ds (t : aw) : kj t = some (decide (t.kind ≠ 6 ∧ t.kind ≠ 7)) := by
 unfold kj je
 by_cases h6 : t.kind = 6 <;> by_cases h7 : t.kind = 7 <;> simp [h6, h7, bv]
theorem Dm (k : Int) : iP k = some (decide (k ≠ 6 ∧ k ≠ 7)) := by
 unfold iP iJ
 by_cases h6 : k = 6 <;> by_cases h7 : k = 7 <;> simp [h6, h7, bv]
theorem BO {t : aw} (ho : qf t.fields) (q : aw → Int → bR → Option (Int × bR)) (l z : Int) :
  cF q t l z = if shp t ≠ 0 then some (shp t, ⟨z⟩) else bN q t l bf z 0 := by
 have hj4 : ∀ x, cc q t l z x = if x = true then some (1, ⟨z⟩) else if vf t ≠ 0 then some (vf t, ⟨z⟩) else bN q t l bf z 0 := by
  intro x
  unfold cc
  rw [BJ ho]
  cases x <;> simp [bv, cf]
 unfold cF dX shp
 simp only [bv, hj4]
 by_cases a1 : t.kind < 1
 ·simp [a1]
 ·by_cases a2 : 7 < t.kind
  ·simp [a1, a2]
  ·simp only [a1, a2, decide_false, or_self, if_false, Bool.false_eq_true]
   unfold rn
   by_cases b0 : t.scale = 0
   ·simp [b0]
   ·by_cases h3 : t.kind = 3
    ·by_cases b1 : t.scale < 0
     ·simp [b0, h3, b1]
     ·by_cases b2 : 12 < t.scale
      ·simp [b0, h3, b1, b2]
      ·simp [b0, h3, b1, b2]
    ·simp [b0, h3]
theorem BH {t : aw} (ho : qf t.fields) (q : aw → Int → Int → Option (Int × Int)) (l z : Int) :
  dY q t l z = if shp t ≠ 0 then some (shp t, z) else dz q t l bf z 0 := by
 unfold dY
 rw [C6 ho]
 simp [bv, cf]
theorem DJ {t : aw} (h : shp t = 0) (hf : ∀ f ∈ t.fields, V f.type) : V t := .mk t h hf
theorem xq {t : aw} (ho : qf t.fields) (l : Int) (hl0 : -10 ≤ l) (hl1 : l ≤ 10) (q1 : aw → Int → bR → Option (Int × bR)) (q2 : aw → Int → Int → Option (Int × Int))
  (hq : ∀ f ∈ t.fields, ∀ n : Int, 0 ≤ n → n ≤ 40 → ∃ e m, q1 f.type (l + 1) ⟨n⟩ = some (e, ⟨m⟩) ∧ q2 f.type (l + 1) n = some (e, m) ∧ 0 ≤ m ∧ m ≤ 40 ∧ (e = 0 → V f.type)) :
  ∀ (kk i : Nat) (n : Int), i ≤ t.fields.length → t.fields.length - i < kk → 0 ≤ n → n ≤ 40 →
   ∃ e m, bN q1 t l kk n (i : Int) = some (e, ⟨m⟩) ∧ dz q2 t l kk n (i : Int) = some (e, m) ∧ 0 ≤ m ∧ m ≤ 40 ∧ (e = 0 → ∀ j, i ≤ j → ∀ h : j < t.fields.length, V t.fields[j].type) := by
 intro kk
 induction kk with
 | zero => intro i n _ h; omega
 | succ kk ih =>
  intro i n hi hk n0 n1
  rw [bN, dz]
  by_cases h : i = t.fields.length
  ·subst h
   simp only [Int.lt_irrefl, decide_false, aW]
   exact ⟨0, n, rfl, rfl, n0, n1, fun _ j h1 h2 => by omega⟩
  ·have hlt : i < t.fields.length := by omega
   rw [cU hlt, bn, bn, cg hlt, cf, cf, mW (x := l + 1) (by omega) (by omega), bt hlt ho.len]
   obtain ⟨e, m, h1, h2, h3, h4, h5⟩ := hq _ (List.getElem_mem hlt) n n0 n1
   rw [h1, h2]
   simp only [cf, bv]
   by_cases he : e = 0
   ·obtain ⟨e', m', g1, g2, g3, g4, g5⟩ := ih (i + 1) m (by omega) (by omega) h3 h4
    refine ⟨e', m', by simpa [he] using g1, by simpa [he] using g2, g3, g4, fun h0 j hj hjl => ?_⟩
    by_cases hji : j = i
    ·subst hji; exact h5 he
    ·exact g5 h0 j (by omega) hjl
   ·exact ⟨e, m, by simp [he], by simp [he], h3, h4, fun h0 => absurd h0 he⟩
theorem AU : ∀ (d k : Nat) (t : aw) (l n : Int), l = 5 - d → d ≤ 5 → d < k → gX t < 1000000000 → 0 ≤ n → n ≤ 40 →
  ∃ e m, aY k t l ⟨n⟩ = some (e, ⟨m⟩) ∧ cB k t l n = some (e, m) ∧ 0 ≤ m ∧ m ≤ 40 ∧ (e = 0 → V t) := by
 intro d
 induction d with
 | zero =>
  intro k t l n hl _ hk hs n0 n1
  obtain ⟨k, rfl⟩ : ∃ k', k = k' + 1 := ⟨k - 1, by omega⟩
  have hl4 : (4 : Int) < l := by omega
  rw [aY, cB]
  simp only [hl4, decide_true, bn, cH]
  exact ⟨7, n, rfl, rfl, n0, n1, fun h => by omega⟩
 | succ d ih =>
  intro k t l n hl hd hk hs n0 n1
  obtain ⟨k, rfl⟩ : ∃ k', k = k' + 1 := ⟨k - 1, by omega⟩
  have hl4 : ¬ (4 : Int) < l := by omega
  have hsz := ga t
  have ho : qf t.fields := BY (by omega)
  have hq : ∀ f ∈ t.fields, ∀ n : Int, 0 ≤ n → n ≤ 40 → ∃ e m, aY k f.type (l + 1) ⟨n⟩ = some (e, ⟨m⟩) ∧ cB k f.type (l + 1) n = some (e, m) ∧ 0 ≤ m ∧ m ≤ 40 ∧ (e = 0 → V f.type) := by
   intro f hf n n0 n1
   have h1 := cZ hf
   have h2 := dv f
   exact ih k f.type (l + 1) n (by omega) (by omega) (by omega) (by omega) n0 n1
  have main : ∀ z : Int, 0 ≤ z → z ≤ 40 → ∃ e m, cF (aY k) t l z = some (e, ⟨m⟩) ∧ dY (cB k) t l z = some (e, m) ∧ 0 ≤ m ∧ m ≤ 40 ∧ (e = 0 → V t) := by
   intro z z0 z1
   rw [BO ho, BH ho]
   by_cases hsh : shp t = 0
   ·obtain ⟨e, m, h1, h2, h3, h4, h5⟩ := xq ho l (by omega) (by omega) _ _ hq bf 0 z (Nat.zero_le _) (by rw [aQ]; have := ho.len; omega) z0 z1
    refine ⟨e, m, by simpa [hsh] using h1, by simpa [hsh] using h2, h3, h4, fun he => DJ hsh (fun f hf => ?_)⟩
    obtain ⟨j, hj, rfl⟩ := List.getElem_of_mem hf
    exact h5 he j (Nat.zero_le _) hj
   ·exact ⟨shp t, z, by simp [hsh], by simp [hsh], z0, z1, fun h => absurd h hsh⟩
  rw [aY, cB]
  simp only [hl4, decide_false, aW, Ds, Dm, cf, cH]
  by_cases hleaf : t.kind ≠ 6 ∧ t.kind ≠ 7
  ·simp only [hleaf, ne_eq, not_false_eq_true, and_self, decide_true, bn]
   by_cases h40 : n = 40
   ·simp only [h40, beq_self_eq_true, bn]
    exact ⟨7, 40, rfl, rfl, by omega, by omega, fun h => by omega⟩
   ·have : (n == 40) = false := by simpa using h40
    simp only [this, aW]
    rw [mW (x := n + 1) (by omega) (by omega)]
    exact main (n + 1) (by omega) (by omega)
  ·simp only [hleaf, decide_false, aW]
   exact main n n0 n1
theorem kZ (t : aw) (hs : gX t < 1000000000) : ∃ e, fJ t = some e ∧ f9 t = some e ∧ (e = 0 → V t) := by
 obtain ⟨e, m, h1, h2, h3, h4, h5⟩ := AU 4 bf t 1 0 (by omega) (by omega) (by rw [aQ]; omega) hs (by omega) (by omega)
 refine ⟨e, ?_, ?_, h5⟩
 ·unfold fJ; rw [h1]; rfl
 ·unfold f9; rw [h2]; rfl
end Go.Proofs.YtmaemlebpjnmoaaGreatDoor
namespace Go.Proofs.YtmaemlebpjnmoaaGreatDoor
open Go Go.SX Go.SX.Cal Go.Lib
mutual
def dm : ac → Nat
 | ⟨_, _, _, s, it⟩ => s.size + d8 it + 1
def d8 : List ac → Nat
 | [] => 0
 | x :: l => dm x + d8 l
end
theorem gx : ∀ v : ac, dm v = v.s.size + d8 v.items + 1
 | ⟨_, _, _, _, _⟩ => by simp only [dm]
theorem dq : ∀ {l : List ac} {x : ac}, x ∈ l → dm x ≤ d8 l
 | [], _, h => by cases h
 | y :: l, x, h => by
  simp only [d8]
  rcases List.mem_cons.1 h with rfl | h
  ·omega
  ·have := dq h; omega
theorem pV : ∀ v : ac, 1 ≤ dm v
 | ⟨_, _, _, _, _⟩ => by simp only [dm]; omega
theorem fI : ∀ l : List ac, l.length ≤ d8 l
 | [] => by simp [d8]
 | x :: l => by
  have := fI l
  have := pV x
  simp only [d8, List.length_cons]; omega
theorem qM (b x : Bool) : aI b (some x) (some false) = some (b && x) := by cases b <;> rfl
theorem bJ {α β : Type} (a : α) (f : α → Option β) : aT (some a) f = f a := rfl
theorem rQ {P : Nat → Bool} {n : Nat} : ∀ (d i : Nat), i + d ≤ n → (∀ j, i ≤ j → j < i + d → P j = false) → first P i n = first P (i + d) n
 | 0, i, _, _ => rfl
 | d + 1, i, h, hP => by
  rw [lA (by omega), hP i (by omega) (by omega)]
  simp only [Bool.false_eq_true, if_false]
  rw [rQ d (i + 1) (by omega) (fun j h1 h2 => hP j (by omega) (by omega))]
  congr 1; omega
theorem vh (s : ByteArray) (i : Nat) (h : i < s.size) (hb : ¬ jp s i < 128) :
  1 ≤ (Utf8.decode s i).2 ∧ i + (Utf8.decode s i).2 ≤ s.size ∧ ∀ j, i ≤ j → j < i + (Utf8.decode s i).2 → 128 ≤ jp s j := by
 have e := qK s i h
 have one : ∀ j, i ≤ j → j < i + 1 → 128 ≤ jp s j := fun j h1 h2 => by
  have : j = i := by omega
  subst this; omega
 have ct : ∀ k, (decide (i + k < s.size) && (s.get! (i + k)).toNat / 64 == 2) = true → i + k < s.size ∧ 128 ≤ jp s (i + k) := by
  intro k hk
  simp only [Bool.and_eq_true, decide_eq_true_eq, beq_iff_eq] at hk
  rw [qK s _ hk.1] at hk
  exact ⟨hk.1, by omega⟩
 unfold Utf8.decode
 simp only [Nat.add_zero, e, if_neg hb]
 split
 ·rename_i h1
  simp only [Bool.and_eq_true] at h1
  obtain ⟨l1, b1⟩ := ct 1 (by simpa using h1.2)
  split
  ·refine ⟨by simp, by simp only; omega, fun j h2 h3 => ?_⟩
   simp only at h3
   by_cases hj : j = i
   ·subst hj; omega
   ·have : j = i + 1 := by omega
    subst this; exact b1
  ·exact ⟨by simp, by simp only; omega, one⟩
 ·split
  ·rename_i h1
   simp only [Bool.and_eq_true] at h1
   obtain ⟨l1, b1⟩ := ct 1 (by simpa using h1.1.2)
   obtain ⟨l2, b2⟩ := ct 2 (by simpa using h1.2)
   split
   ·refine ⟨by simp, by simp only; omega, fun j h2 h3 => ?_⟩
    simp only at h3
    by_cases hj : j = i
    ·subst hj; omega
    ·by_cases hj : j = i + 1
     ·subst hj; exact b1
     ·have : j = i + 2 := by omega
      subst this; exact b2
   ·exact ⟨by simp, by simp only; omega, one⟩
  ·split
   ·rename_i h1
    simp only [Bool.and_eq_true] at h1
    obtain ⟨l1, b1⟩ := ct 1 (by simpa using h1.1.1.2)
    obtain ⟨l2, b2⟩ := ct 2 (by simpa using h1.1.2)
    obtain ⟨l3, b3⟩ := ct 3 (by simpa using h1.2)
    split
    ·refine ⟨by simp, by simp only; omega, fun j h2 h3 => ?_⟩
     simp only at h3
     by_cases hj : j = i
     ·subst hj; omega
     ·by_cases hj : j = i + 1
      ·subst hj; exact b1
      ·by_cases hj : j = i + 2
       ·subst hj; exact b2
       ·have : j = i + 3 := by omega
        subst this; exact b3
    ·exact ⟨by simp, by simp only; omega, one⟩
   ·exact ⟨by simp, by simp only; omega, one⟩
def vH (s : ByteArray) (i : Nat) : Bool := decide (jp s i < 32) || jp s i == 127
theorem wn (s : ByteArray) : ∀ k i, i ≤ s.size → s.size - i < k → eC s k i = some (first (vH s) i s.size).isNone := by
 intro k
 induction k with
 | zero => intro i _ h; omega
 | succ k ih =>
  intro i hi hk
  rw [eC]
  by_cases h : i = s.size
  ·subst h
   rw [la]
   simp only [Nat.lt_irrefl, decide_false, aW, kz]
   rfl
  ·have hlt : i < s.size := by omega
   simp only [hlt, decide_true, bn, i6, bv]
   by_cases hb : jp s i < 128
   ·rw [sF s i hlt hb, lA hlt]
    by_cases h1 : jp s i < 32
    ·have : vH s i = true := by simp [vH, h1]
     simp [this, show ((jp s i : Nat) : Int) < 32 by omega]
    ·have e1 : ¬ ((jp s i : Nat) : Int) < 32 := by omega
     by_cases h2 : jp s i = 127
     ·have : vH s i = true := by simp [vH, h2]
      simp [this, h2]
     ·have : vH s i = false := by simp [vH, h1, h2]
      have e2 : ¬ ((jp s i : Nat) : Int) = 127 := by omega
      simp only [this, Int.ofNat_eq_natCast, e1, decide_false, Bool.false_eq_true, if_false, beq_iff_eq, e2]
      exact ih (i + 1) (by omega) (by omega)
   ·have h1 := sS s i hlt hb
    obtain ⟨h2, h3, h4⟩ := vh s i hlt hb
    have e1 : ¬ (((Utf8.decode s i).1 : Nat) : Int) < 32 := by omega
    have e2 : ¬ (((Utf8.decode s i).1 : Nat) : Int) = 127 := by omega
    simp only [Int.ofNat_eq_natCast, e1, decide_false, Bool.false_eq_true, if_false, beq_iff_eq, e2]
    rw [ih _ h3 (by omega), rQ _ i h3 (fun j a b => by
     have := h4 j a b
     simp only [vH, Bool.or_eq_false_iff, decide_eq_false_iff_not, beq_eq_false_iff_ne]
     omega)]
    simp
theorem wl (s : ByteArray) (hs : s.size < 1000000000) : ∀ k i, i ≤ s.size → s.size - i < k → cG s k (i : Int) = some (first (vH s) i s.size).isNone := by
 intro k
 induction k with
 | zero => intro i _ h; omega
 | succ k ih =>
  intro i hi hk
  rw [cG]
  by_cases h : i = s.size
  ·subst h
   rw [la]
   simp only [Int.lt_irrefl, decide_false, aW, gO]
   rfl
  ·have hlt : i < s.size := by omega
   have g : (0 : Int) ≤ (i : Int) ∧ (i : Int) < (s.size : Int) := ⟨by omega, by omega⟩
   have e : ((s.data.toList.getD (i : Int).toNat 0).toNat : Int) = (jp s i : Int) := by simp [jp]
   simp only [cU hlt, bn, fL, if_pos g, bJ, fi, bv, e]
   rw [lA hlt, bt hlt hs]
   by_cases h1 : jp s i < 32
   ·have : vH s i = true := by simp [vH, h1]
    simp [this, show ((jp s i : Nat) : Int) < 32 by omega]
   ·have e1 : ¬ ((jp s i : Nat) : Int) < 32 := by omega
    by_cases h2 : jp s i = 127
    ·have : vH s i = true := by simp [vH, h2]
     simp [this, h2]
    ·have : vH s i = false := by simp [vH, h1, h2]
     have e2 : ¬ ((jp s i : Nat) : Int) = 127 := by omega
     simp only [this, e1, decide_false, Bool.false_eq_true, if_false, beq_iff_eq, e2]
     exact ih (i + 1) (by omega) (by omega)
def nF (s : ByteArray) : Bool := decide (s.size ≤ 256) && (validD s.data.toList && (first (vH s) 0 s.size).isNone)
theorem zy (s : ByteArray) (hs : s.size < 1000000000) : utf8_ValidString s = some (validD s.data.toList) := by
 unfold utf8_ValidString fL
 rw [if_pos (by omega)]
theorem Dj (s : ByteArray) (hs : s.size < 1000000000) : ls s = some (nF s) := by
 unfold ls jg nF
 rw [zy s hs, wn s bf 0 (by omega) (by rw [aQ]; omega)]
 by_cases h : s.size ≤ 256
 ·have : ¬ (256 : Int) < (s.size : Int) := by omega
  simp only [this, h, decide_false, decide_true, aW, bJ]
  cases validD s.data.toList <;> rfl
 ·have : (256 : Int) < (s.size : Int) := by omega
  simp only [this, h, decide_false, decide_true, bn]
  rfl
theorem C7 (s : ByteArray) (hs : s.size < 1000000000) : gS s = some (nF s) := by
 have := wl s hs bf 0 (by omega) (by rw [aQ]; omega)
 unfold gS fp nF
 rw [zy s hs, show (0 : Int) = ((0 : Nat) : Int) from rfl, this]
 by_cases h : s.size ≤ 256
 ·have e : ¬ (256 : Int) < (s.size : Int) := by omega
  simp only [e, h, decide_false, decide_true, bJ]
  cases validD s.data.toList <;> rfl
 ·have e : (256 : Int) < (s.size : Int) := by omega
  simp only [e, h, decide_false, decide_true, bJ]
  cases validD s.data.toList <;> rfl
theorem B1 (a b c : Int) : dw a b c = some (decide (b ≤ a) && decide (a ≤ c)) := by
 unfold dw fH; exact qM _ _
theorem xP (a b c : Int) : dB a b c = some (decide (b ≤ a) && decide (a ≤ c)) := by
 unfold dB gk; exact qM _ _
def eZ (v : ac) : Bool :=
 let bare := v.n == 0 && v.scale == 0
 let noS := decide (v.s.size = 0)
 let noI := ((v.items.length : Int) == 0)
 if v.kind = 0 then bare && (noS && noI)
 else if v.kind = 1 then (decide (0 ≤ v.n) && decide (v.n ≤ 1)) && (v.scale == 0 && (noS && noI))
 else if v.kind = 2 then (decide (-999999999999999999 ≤ v.n) && decide (v.n ≤ 999999999999999999)) && (v.scale == 0 && (noS && noI))
 else if v.kind = 3 then (decide (-999999999999999999 ≤ v.n) && decide (v.n ≤ 999999999999999999)) && ((decide (0 ≤ v.scale) && decide (v.scale ≤ 12)) && (noS && noI))
 else if v.kind = 4 then bare && (nF v.s && noI)
 else if v.kind = 5 then (decide (-62135596800 ≤ v.n) && decide (v.n ≤ 253402300799)) && (v.scale == 0 && (noS && noI))
 else if v.kind = 6 then bare && (noS && decide ((v.items.length : Int) ≤ 64))
 else if v.kind = 7 then bare && (noS && decide ((0 : Int) < (v.items.length : Int)))
 else false
theorem CB (v : ac) (hs : v.s.size < 1000000000) : kI v = some (eZ v) := by
 have j : ∀ x, gn v x = some (if v.kind = 0 then x && (decide (v.s.size = 0) && ((v.items.length : Int) == 0))
   else if v.kind = 1 then (decide (0 ≤ v.n) && decide (v.n ≤ 1)) && (v.scale == 0 && (decide (v.s.size = 0) && ((v.items.length : Int) == 0)))
   else if v.kind = 2 then (decide (-999999999999999999 ≤ v.n) && decide (v.n ≤ 999999999999999999)) && (v.scale == 0 && (decide (v.s.size = 0) && ((v.items.length : Int) == 0)))
   else if v.kind = 3 then (decide (-999999999999999999 ≤ v.n) && decide (v.n ≤ 999999999999999999)) && ((decide (0 ≤ v.scale) && decide (v.scale ≤ 12)) && (decide (v.s.size = 0) && ((v.items.length : Int) == 0)))
   else if v.kind = 4 then x && (nF v.s && ((v.items.length : Int) == 0))
   else if v.kind = 5 then (decide (-62135596800 ≤ v.n) && decide (v.n ≤ 253402300799)) && (v.scale == 0 && (decide (v.s.size = 0) && ((v.items.length : Int) == 0)))
   else if v.kind = 6 then x && (decide (v.s.size = 0) && decide ((v.items.length : Int) ≤ 64))
   else if v.kind = 7 then x && (decide (v.s.size = 0) && decide ((0 : Int) < (v.items.length : Int)))
   else false) := by
  intro x
  unfold gn gi fw fh fo gw fv gc gh
  simp only [B1, Dj v.s hs, bJ, qM, lc]
  simp only [bv, beq_iff_eq]
  repeat' split
  all_goals (first | rfl | simp_all)
 unfold kI
 rw [j, j]
 unfold eZ
 cases v.n == 0
 ·simp only [aW, Bool.false_and]
 ·simp only [bn, Bool.true_and]
theorem Cn (v : ac) (hs : v.s.size < 1000000000) : lm v = some (eZ v) := by
 have j : ∀ x, ib v x = some (if v.kind = 0 then x && (v.n == 0 && v.scale == 0)
   else if v.kind = 1 then x && ((decide (0 ≤ v.n) && decide (v.n ≤ 1)) && v.scale == 0)
   else if v.kind = 2 then x && ((decide (-999999999999999999 ≤ v.n) && decide (v.n ≤ 999999999999999999)) && v.scale == 0)
   else if v.kind = 3 then x && ((decide (-999999999999999999 ≤ v.n) && decide (v.n ≤ 999999999999999999)) && (decide (0 ≤ v.scale) && decide (v.scale ≤ 12)))
   else if v.kind = 4 then ((v.items.length : Int) == 0) && (v.n == 0 && (v.scale == 0 && nF v.s))
   else if v.kind = 5 then x && ((decide (-62135596800 ≤ v.n) && decide (v.n ≤ 253402300799)) && v.scale == 0)
   else if v.kind = 6 then decide (v.s.size = 0) && (v.n == 0 && (v.scale == 0 && decide ((v.items.length : Int) ≤ 64)))
   else if v.kind = 7 then decide (v.s.size = 0) && (v.n == 0 && (v.scale == 0 && decide ((0 : Int) < (v.items.length : Int))))
   else false) := by
  intro x
  unfold ib gY hY hM hE fW ia fS fR
  simp only [xP, C7 v.s hs, bJ, qM, lc]
  simp only [bv, beq_iff_eq]
  repeat' split
  all_goals (first | rfl | simp_all)
 unfold lm
 rw [j, j, lc]
 unfold eZ
 generalize decide (v.s.size = 0) = a
 generalize ((v.items.length : Int) == 0) = b
 generalize nF v.s = t
 generalize (v.n == 0) = c
 generalize (v.scale == 0) = d
 generalize (decide (0 ≤ v.n) && decide (v.n ≤ 1)) = e1
 generalize (decide (-999999999999999999 ≤ v.n) && decide (v.n ≤ 999999999999999999)) = e2
 generalize (decide (0 ≤ v.scale) && decide (v.scale ≤ 12)) = e3
 generalize (decide (-62135596800 ≤ v.n) && decide (v.n ≤ 253402300799)) = e4
 generalize decide ((v.items.length : Int) ≤ 64) = e5
 generalize decide ((0 : Int) < (v.items.length : Int)) = e6
 cases a <;> simp only [aW, bn] <;> congr 1 <;> repeat' split
 all_goals (first | rfl | (cases b <;> cases c <;> cases d <;> simp <;> done) | (simp [Bool.and_comm, Bool.and_assoc, Bool.and_left_comm]))
def iB (f : ac → Int → Bool × Int) : List ac → Int → Bool × Int
 | [], z => (true, z)
 | v :: l, z => if (f v z).1 = true then iB f l (f v z).2 else (false, (f v z).2)
def qt (v : ac) (z : Int) : Int := if v.kind = 0 then z else z + 1
def eO : Nat → ac → Int → Bool × Int
 | 0, v, z => (false, qt v z)
 | d + 1, v, z => if 256 < qt v z ∨ eZ v = false then (false, qt v z) else iB (eO d) v.items (qt v z)
def nn (v : ac) : Bool := (eO 4 v 0).1
theorem sP {f : ac → Int → Bool × Int} : ∀ {l : List ac} {z : Int}, (∀ v ∈ l, ∀ z, 0 ≤ z → z ≤ 256 → 0 ≤ (f v z).2 ∧ (f v z).2 ≤ 257 ∧ ((f v z).1 = true → (f v z).2 ≤ 256)) → 0 ≤ z → z ≤ 256 →
  0 ≤ (iB f l z).2 ∧ (iB f l z).2 ≤ 257 ∧ ((iB f l z).1 = true → (iB f l z).2 ≤ 256)
 | [], z, _, h0, h1 => by simp only [iB]; omega
 | v :: l, z, hf, h0, h1 => by
  obtain ⟨a, b, c⟩ := hf v (by simp) z h0 h1
  simp only [iB]
  split
  ·rename_i h
   exact sP (fun x hx => hf x (by simp [hx])) a (c h)
  ·exact ⟨a, b, fun h => by cases h⟩
theorem ql : ∀ (d : Nat) (v : ac) (z : Int), 0 ≤ z → z ≤ 256 → 0 ≤ (eO d v z).2 ∧ (eO d v z).2 ≤ 257 ∧ ((eO d v z).1 = true → (eO d v z).2 ≤ 256)
 | 0, v, z, h0, h1 => by
  have hc : z ≤ qt v z ∧ qt v z ≤ z + 1 := by unfold qt; split <;> omega
  simp only [eO]
  exact ⟨by omega, by omega, fun h => by cases h⟩
 | d + 1, v, z, h0, h1 => by
  have hc : z ≤ qt v z ∧ qt v z ≤ z + 1 := by unfold qt; split <;> omega
  simp only [eO]
  split
  ·exact ⟨by omega, by omega, fun h => by cases h⟩
  ·rename_i h
   have : ¬ 256 < qt v z := fun e => h (.inl e)
   exact sP (fun x _ => ql d x) (by omega) (by omega)
theorem pj (v : ac) (z : Int) (h0 : 0 ≤ z) (h1 : z ≤ 256) {β : Type} (f : Int → Option β) : aI (v.kind != (0 : Int)) (f (IntKind.i64.wrap (z + 1))) (f z) = f (qt v z) := by
 rw [mW (by omega) (by omega)]
 unfold qt
 by_cases h : v.kind = 0
 ·simp [h, bv]
 ·simp [h, bv]
theorem uW {d : Nat} (l : Int) (q : ac → Int → Int → Option (Bool × Int)) (xs : List ac) (hl : xs.length < 1000000000)
  (hq : ∀ v ∈ xs, ∀ z, 0 ≤ z → z ≤ 256 → q v l z = some (!(eO d v z).1, (eO d v z).2)) : ∀ (k i : Nat) (z : Int), i ≤ xs.length → xs.length - i < k → 0 ≤ z → z ≤ 256 →
  ∃ r : Int, aF q xs l k z (i : Int) = some (r, (iB (eO d) (xs.drop i) z).2) ∧ decide (0 ≤ r) = !(iB (eO d) (xs.drop i) z).1 := by
 intro k
 induction k with
 | zero => intro i z _ h; omega
 | succ k ih =>
  intro i z hi hk h0 h1
  rw [aF]
  by_cases h : i = xs.length
  ·subst h
   simp only [Int.lt_irrefl, decide_false, aW, List.drop_length, iB, bj]
   exact ⟨-1, rfl, rfl⟩
  ·have hlt : i < xs.length := by omega
   have hm : xs[i] ∈ xs := List.getElem_mem hlt
   simp only [cU hlt, bn, cg hlt, bJ, hq _ hm z h0 h1]
   rw [List.drop_eq_getElem_cons hlt]
   simp only [iB]
   obtain ⟨a, b, c⟩ := ql d xs[i] z h0 h1
   cases hs : (eO d xs[i] z).1 with
   | false =>
    simp only [Bool.not_false, bn, Bool.false_eq_true, if_false]
    exact ⟨_, rfl, by simp⟩
   | true =>
    simp only [Bool.not_true, aW, if_true]
    rw [bt hlt hl]
    exact ih (i + 1) _ (by omega) (by omega) a (c hs)
theorem yB : ∀ (d k : Nat) (v : ac) (z : Int), d ≤ 4 → 4 * d + 4 ≤ k → dm v < 1000000000 → 0 ≤ z → z ≤ 256 → gE k v (5 - d : Int) z = some (eO d v z) := by
 intro d
 induction d with
 | zero =>
  intro k v z _ hk hs h0 h1
  obtain ⟨k, rfl⟩ : ∃ q, k = q + 1 := ⟨k - 1, by omega⟩
  rw [gE, pj v z h0 h1]
  unfold gb fk
  simp [eO, bn]
 | succ d ih =>
  intro k v z hd hk hs h0 h1
  obtain ⟨k, rfl⟩ : ∃ q, k = q + 4 := ⟨k - 4, by omega⟩
  have hsz := gx v
  have hlen := fI v.items
  rw [gE, pj v z h0 h1]
  unfold gb fk
  rw [CB v (by omega)]
  have e4 : ¬ (4 : Int) < 5 - ((d + 1 : Nat) : Int) := by omega
  have hc : z ≤ qt v z ∧ qt v z ≤ z + 1 := by unfold qt; split <;> omega
  simp only [e4, decide_false, aW, eO, bJ]
  by_cases h2 : (256 : Int) < qt v z
  ·simp [h2, bn]
  ·cases hp : eZ v with
   | false => simp [h2, bn, aW]
   | true =>
    simp only [h2, decide_false, aW, Bool.not_true, false_or, Bool.true_eq_false, if_false]
    have := uW (d := d) (5 - ((d + 1 : Nat) : Int)) (eN (k + 1)) v.items (by omega) (by
     intro x hx z h0 h1
     have := dq hx
     rw [eN, mW (by omega) (by omega), show (5 - ((d + 1 : Nat) : Int) + 1) = 5 - (d : Int) by omega, ih k x z (by omega) (by omega) (by omega) h0 h1]
     rfl) bf 0 (qt v z) (by omega) (by rw [aQ]; omega) (by omega) (by omega)
    obtain ⟨r, e1, e2⟩ := this
    rw [show ((0 : Nat) : Int) = (0 : Int) from rfl] at e1
    rw [ay, aX, e1]
    simp only [bJ, e2, List.drop_zero, Bool.not_not]
theorem xd (v : ac) (hs : dm v < 1000000000) : jE v = some (nn v) := by
 unfold jE nn
 have := yB 4 bf v 0 (by omega) (by rw [aQ]; omega) hs (by omega) (by omega)
 rw [show (5 - ((4 : Nat) : Int)) = (1 : Int) from rfl] at this
 rw [this]; rfl
theorem uI {d : Nat} (l : Int) (hl0 : 0 ≤ l) (hl1 : l ≤ 100) (q : ac → Int → Int → Option (Bool × Int)) (v : ac) (hl : v.items.length < 1000000000)
  (hq : ∀ x ∈ v.items, ∀ z, 0 ≤ z → z ≤ 256 → q x (l + 1) z = some (eO d x z)) : ∀ (k i : Nat) (z : Int), i ≤ v.items.length → v.items.length - i < k → 0 ≤ z → z ≤ 256 →
  fP q v l k z (i : Int) = some (iB (eO d) (v.items.drop i) z) := by
 intro k
 induction k with
 | zero => intro i z _ h; omega
 | succ k ih =>
  intro i z hi hk h0 h1
  rw [fP]
  by_cases h : i = v.items.length
  ·subst h
   simp only [Int.lt_irrefl, decide_false, aW, List.drop_length, iB, ku]
  ·have hlt : i < v.items.length := by omega
   have hm : v.items[i] ∈ v.items := List.getElem_mem hlt
   rw [mW (x := l + 1) (by omega) (by omega)]
   simp only [cU hlt, bn, cg hlt, bJ, hq _ hm z h0 h1]
   rw [List.drop_eq_getElem_cons hlt]
   simp only [iB]
   obtain ⟨a, b, c⟩ := ql d v.items[i] z h0 h1
   cases hs : (eO d v.items[i] z).1 with
   | false => simp only [Bool.not_false, bn, Bool.false_eq_true, if_false]
   | true =>
    simp only [Bool.not_true, aW, if_true]
    rw [bt hlt hl]
    exact ih (i + 1) _ (by omega) (by omega) a (c hs)
theorem yG : ∀ (d k : Nat) (v : ac) (z : Int), d ≤ 4 → d + 1 ≤ k → dm v < 1000000000 → 0 ≤ z → z ≤ 256 → er k v (5 - d : Int) z = some (eO d v z) := by
 intro d
 induction d with
 | zero =>
  intro k v z _ hk hs h0 h1
  obtain ⟨k, rfl⟩ : ∃ q, k = q + 1 := ⟨k - 1, by omega⟩
  rw [er, pj v z h0 h1]
  unfold gZ fZ
  simp [eO, bn]
 | succ d ih =>
  intro k v z hd hk hs h0 h1
  obtain ⟨k, rfl⟩ : ∃ q, k = q + 1 := ⟨k - 1, by omega⟩
  have hsz := gx v
  have hlen := fI v.items
  rw [er, pj v z h0 h1]
  unfold gZ fZ
  rw [Cn v (by omega)]
  have e4 : ¬ (4 : Int) < 5 - ((d + 1 : Nat) : Int) := by omega
  have hc : z ≤ qt v z ∧ qt v z ≤ z + 1 := by unfold qt; split <;> omega
  simp only [e4, decide_false, aW, eO, bJ]
  by_cases h2 : (256 : Int) < qt v z
  ·simp [h2, bn]
  ·cases hp : eZ v with
   | false => simp [h2, bn, aW]
   | true =>
    simp only [h2, decide_false, aW, Bool.not_true, false_or, Bool.true_eq_false, if_false]
    have := uI (d := d) (5 - ((d + 1 : Nat) : Int)) (by omega) (by omega) (er k) v (by omega) (by
     intro x hx z h0 h1
     have := dq hx
     rw [show (5 - ((d + 1 : Nat) : Int) + 1) = 5 - (d : Int) by omega]
     exact ih k x z (by omega) (by omega) (by omega) h0 h1) bf 0 (qt v z) (by omega) (by rw [aQ]; omega) (by omega) (by omega)
    rw [show ((0 : Nat) : Int) = (0 : Int) from rfl, List.drop_zero] at this
    exact this
theorem CT (v : ac) (hs : dm v < 1000000000) : lL v = some (nn v) := by
 unfold lL nn
 have := yG 4 bf v 0 (by omega) (by rw [aQ]; omega) hs (by omega) (by omega)
 rw [show (5 - ((4 : Nat) : Int)) = (1 : Int) from rfl] at this
 rw [this]; rfl
end Go.Proofs.YtmaemlebpjnmoaaGreatDoor
namespace Go.Proofs.YtmaemlebpjnmoaaGreatDoor
open Go Go.SX Go.SX.Cal Go.Lib
def xU (d : Nat) (v : ac) : Prop := ∃ z, (eO d v z).1 = true
theorem rE {f : ac → Int → Bool × Int} : ∀ {l : List ac} {z : Int}, (iB f l z).1 = true → ∀ x ∈ l, ∃ z', (f x z').1 = true
 | [], _, _, x, hx => by cases hx
 | v :: l, z, h, x, hx => by
  simp only [iB] at h
  by_cases hv : (f v z).1 = true
  ·rw [if_pos hv] at h
   rcases List.mem_cons.1 hx with rfl | hx
   ·exact ⟨z, hv⟩
   ·exact rE h x hx
  ·rw [if_neg hv] at h; cases h
theorem xU.zero {v : ac} (h : xU 0 v) : False := by obtain ⟨z, h⟩ := h; cases h
theorem xU.succ {d : Nat} {v : ac} (h : xU (d + 1) v) : eZ v = true ∧ ∀ x ∈ v.items, xU d x := by
 obtain ⟨z, h⟩ := h
 simp only [eO] at h
 by_cases hc : 256 < qt v z ∨ eZ v = false
 ·rw [if_pos hc] at h; cases h
 ·rw [if_neg hc] at h
  refine ⟨?_, fun x hx => rE h x hx⟩
  cases hp : eZ v with
  | true => rfl
  | false => exact absurd (.inr hp) hc
theorem uu {v : ac} (h : eZ v = true) (hk : v.kind ≠ 3) : v.scale = 0 := by
 unfold eZ at h
 simp only at h
 split at h
 ·simp at h; exact h.1.2
 ·split at h
  ·simp at h; exact h.2.1
  ·split at h
   ·simp at h; exact h.2.1
   ·split at h
    ·simp at h; exact h.1.2
    ·split at h
     ·simp at h; exact h.2.1
     ·split at h
      ·simp at h; exact h.1.2
      ·split at h
       ·simp at h; exact h.1.2
       ·cases h
theorem fM {v : ac} (h : eZ v = true) (h6 : v.kind ≠ 6) (h7 : v.kind ≠ 7) : v.items = [] := by
 unfold eZ at h
 simp only at h
 rw [← List.length_eq_zero_iff]
 split at h
 ·simp at h; simp [h.2.2]
 ·split at h
  ·simp at h; simp [h.2.2.2]
  ·split at h
   ·simp at h; simp [h.2.2.2]
   ·split at h
    ·simp at h; simp [h.2.2.2]
    ·split at h
     ·simp at h; simp [h.2.2]
     ·split at h
      ·simp at h; simp [h.2.2.2]
      ·cases h
theorem V.sh {t : aw} (h : V t) : shp t = 0 := by cases h; assumption
theorem V.fs {t : aw} (h : V t) : ∀ f, f ∈ t.fields → V f.type := by cases h; assumption
theorem V.scale {t : aw} (h : V t) (hk : t.kind ≠ 3) : t.scale = 0 := by
 have := h.sh
 unfold shp at this
 split at this
 ·cases this
 ·by_cases h2 : rn t
  ·rw [if_pos h2] at this; cases this
  ·by_cases hs : t.scale = 0
   ·exact hs
   ·exact absurd ⟨hs, .inl hk⟩ h2
theorem V.list {t : aw} (h : V t) (hk : t.kind = 6) : t.fields.length = 1 := by
 have := h.sh
 unfold shp at this
 split at this
 ·cases this
 ·by_cases h2 : rn t
  ·rw [if_pos h2] at this; cases this
  ·rw [if_neg h2] at this
   unfold vf at this
   rw [if_pos hk] at this
   split at this
   ·cases this
   ·rename_i h3
    by_cases hl : t.fields.length = 1
    ·exact hl
    ·exact absurd (.inl hl) h3
def ft (t : aw) (i : Nat) : aw := (t.fields[if t.kind = 6 then 0 else i]?.map (·.type)).getD ⟨0, 0, []⟩
def nd (t : aw) (i : Nat) : Bool := (t.fields[if t.kind = 6 then 0 else i]?.map (·.need)).getD false
def iv (v : ac) (i : Nat) : ac := v.items[i]?.getD ⟨0, 0, 0, ByteArray.empty, []⟩
theorem ma {v : ac} {i : Nat} (h : i < v.items.length) : v.items[i] = iv v i := by simp [iv, h]
def qS : Nat → aw → ac → Bool
 | 0, _, _ => true
 | d + 1, t, v =>
  if v.kind = 0 then true
  else if v.kind ≠ t.kind then false
  else if v.kind = 3 then v.scale == t.scale
  else if v.kind = 7 ∧ t.fields.length ≠ v.items.length then false
  else (first (fun i => !qS d (ft t i) (iv v i)) 0 v.items.length).isNone
def Dw (t : aw) (v : ac) : Prop := ∀ i, i < v.items.length → (if t.kind = 6 then 0 else i) < t.fields.length
theorem vW {d : Nat} {t : aw} {v : ac} (hs : xU (d + 1) v) (ht : V t) (h : qS (d + 1) t v = true) : Dw t v ∧ ∀ i, i < v.items.length → qS d (ft t i) (iv v i) = true := by
 obtain ⟨hp, _⟩ := hs.succ
 by_cases h67 : v.kind = 6 ∨ v.kind = 7
 ·simp only [qS] at h
  rw [if_neg (by omega)] at h
  by_cases hk : v.kind = t.kind
  ·rw [if_neg (fun hh => hh hk), if_neg (by omega)] at h
   by_cases hl : v.kind = 7 ∧ t.fields.length ≠ v.items.length
   ·rw [if_pos hl] at h; cases h
   ·rw [if_neg hl] at h
    have hn := Option.isNone_iff_eq_none.1 h
    rw [lB] at hn
    refine ⟨fun i hi => ?_, fun i hi => by simpa using hn i (Nat.zero_le _) hi⟩
    by_cases h6 : t.kind = 6
    ·rw [if_pos h6, ht.list h6]; omega
    ·rw [if_neg h6]
     have : ¬ t.fields.length ≠ v.items.length := fun hh => hl ⟨by omega, hh⟩
     omega
  ·rw [if_pos hk] at h; cases h
 ·have : v.items = [] := fM hp (by omega) (by omega)
  refine ⟨fun i hi => ?_, fun i hi => ?_⟩
  ·rw [this] at hi; simp at hi
  ·rw [this] at hi; simp at hi
theorem Bj {t : aw} {i : Nat} (h : (if t.kind = 6 then 0 else i) < t.fields.length) : ∃ f : ah, f ∈ t.fields ∧ t.fields[if t.kind = 6 then 0 else i]? = some f ∧ f.type = ft t i ∧ f.need = nd t i := by
 refine ⟨t.fields[if t.kind = 6 then 0 else i], List.getElem_mem h, List.getElem?_eq_getElem h, ?_, ?_⟩
 ·unfold ft; rw [List.getElem?_eq_getElem h]; rfl
 ·unfold nd; rw [List.getElem?_eq_getElem h]; rfl
theorem eX {α : Type} {xs : List α} {i : Nat} {x : α} (h : xs[i]? = some x) : at? xs (i : Int) = some x := by unfold at?; simp [h]
theorem kN {v : ac} {i : Nat} (h : i < v.items.length) : iv v i ∈ v.items := by rw [← ma h]; exact List.getElem_mem h
theorem of_eq : ∀ (d k k' : Nat) (t : aw) (v : ac), xU d v → V t → dm v < 1000000000 → gX t < 1000000000 → 4 * d + 1 ≤ k → d + 1 ≤ k' →
  jQ k t v = some (qS d t v) ∧ eh k' t v = some (qS d t v) := by
 intro d
 induction d with
 | zero => intro k k' t v hs; exact hs.zero.elim
 | succ d ih =>
  intro k k' t v hs ht hv hT hk hk'
  obtain ⟨k, rfl⟩ : ∃ q, k = q + 4 := ⟨k - 4, by omega⟩
  obtain ⟨k', rfl⟩ : ∃ q, k' = q + 1 := ⟨k' - 1, by omega⟩
  obtain ⟨hp, hi⟩ := hs.succ
  have hsz := gx v
  have hlen := fI v.items
  have hsT := ga t
  have hlF := dP t.fields
  rw [jQ, eh]
  simp only [qS, lJ]
  by_cases h0 : v.kind = 0
  ·simp [h0, bv]
  ·by_cases hkk : v.kind = t.kind
   ·have sc : v.kind ≠ 3 → v.scale = t.scale := fun h => by rw [uu hp h, ht.scale (by omega)]
    -- the items
    have room : ¬ (v.kind = 7 ∧ t.fields.length ≠ v.items.length) → Dw t v := by
     intro hn i hi
     by_cases h6 : t.kind = 6
     ·rw [if_pos h6, ht.list h6]; omega
     ·rw [if_neg h6]
      by_cases h7 : v.kind = 7
      ·have : ¬ t.fields.length ≠ v.items.length := fun hh => hn ⟨h7, hh⟩
       omega
      ·rw [fM hp (by omega) h7] at hi; simp at hi
    have sub : Dw t v → ∀ i, i < v.items.length → ∃ f : ah, t.fields[if t.kind = 6 then 0 else i]? = some f ∧ f.type = ft t i ∧ jQ k (ft t i) (iv v i) = some (qS d (ft t i) (iv v i)) ∧ eh k' (ft t i) (iv v i) = some (qS d (ft t i) (iv v i)) := by
     intro hf i hi'
     obtain ⟨f, f1, f2, f3, _⟩ := Bj (hf i hi')
     have m1 := dq (kN hi')
     have m2 := cZ f1
     have m3 := dv f
     rw [f3] at m3
     obtain ⟨a, b⟩ := ih k k' (ft t i) (iv v i) (hi _ (kN hi')) (by rw [← f3]; exact ht.fs f f1) (by omega) (by omega) (by omega) (by omega)
     exact ⟨f, f2, f3, a, b⟩
    have ref : Dw t v → dV (eh k') t v bf (0 : Int) = some (first (fun i => !qS d (ft t i) (iv v i)) 0 v.items.length).isNone := by
     intro hf
     have := kn (f := fun k i => dV (eh k') t v k (i : Int)) (n := v.items.length) (P := fun i => !qS d (ft t i) (iv v i)) (A := fun _ => some false) (B := some true) (fun kk i hi' => by
      obtain ⟨f, f2, f3, _, f5⟩ := sub hf i hi'
      simp only [dV, cU hi', bn, lf]
      have e : aI (t.kind == (6 : Int)) (aT (at? t.fields (0 : Int)) fun e1 => aT (at? v.items (i : Int)) fun e2 => aT (eh k' e1.type e2) fun r1 => aI (!r1) (some false) (dV (eh k') t v kk (IntKind.i64.wrap ((i : Int) + 1))))
        (aT (at? t.fields (i : Int)) fun e1 => aT (at? v.items (i : Int)) fun e2 => aT (eh k' e1.type e2) fun r1 => aI (!r1) (some false) (dV (eh k') t v kk (IntKind.i64.wrap ((i : Int) + 1)))) =
        (aT (at? t.fields ((if t.kind = 6 then 0 else i : Nat) : Int)) fun e1 => aT (at? v.items (i : Int)) fun e2 => aT (eh k' e1.type e2) fun r1 => aI (!r1) (some false) (dV (eh k') t v kk (IntKind.i64.wrap ((i : Int) + 1)))) := by
       by_cases h6 : t.kind = 6 <;> simp [h6, bv]
      rw [e, eX f2, bJ, cg hi', bJ, f3, ma hi', f5, bJ, bt hi' (by omega), bv]) (fun kk => by simp [dV, bv, mN]) bf 0 (Nat.zero_le _) (by rw [aQ]; omega)
     rw [show ((0 : Nat) : Int) = (0 : Int) from rfl] at this
     rw [this]
     cases first (fun i => !qS d (ft t i) (iv v i)) 0 v.items.length <;> rfl
    have e0 : (v.kind == (0 : Int)) = false := by simp [h0]
    have e1 : (v.kind != t.kind) = false := by simp [hkk]
    have e2 : ¬ v.kind ≠ t.kind := fun h => h hkk
    simp only [e0, e1, e2, aW, h0, if_false]
    by_cases h3 : v.kind = 3
    ·have hni : v.items = [] := fM hp (by omega) (by omega)
     refine ⟨by simp [h3, bv], ?_⟩
     have hr := ref (fun i hi => by rw [hni] at hi; simp at hi)
     rw [hni] at hr
     simp only [List.length_nil, la, Option.isNone_none] at hr
     simp only [h3, if_true, ju]
     by_cases hsc : v.scale = t.scale
     ·have : t.kind ≠ 7 := by omega
      simp [hsc, bv, hr, this]
     ·simp [hsc, bv]
    ·have hsc := sc h3
     have e3 : (v.kind == (3 : Int)) = false := by simp [h3]
     have e4 : (v.scale != t.scale) = false := by simp [hsc]
     simp only [e3, e4, aW, h3, if_false]
     by_cases hl : v.kind = 7 ∧ t.fields.length ≠ v.items.length
     ·have e6 : (v.kind == (6 : Int)) = false := by simp [hl.1]
      have e7 : (v.kind == (7 : Int)) = true := by simp [hl.1]
      have t7 : (t.kind == (7 : Int)) = true := by rw [← hkk]; exact e7
      have n1 : ((t.fields.length : Int) != (v.items.length : Int)) = true := by simp; omega
      have n2 : ((v.items.length : Int) != (t.fields.length : Int)) = true := by simp; omega
      rw [az]
      simp [e6, e7, t7, n1, n2, hl, bn, aW, ju, bJ]
     ·have hf := room hl
      have hr := ref hf
      simp only [hl, if_false]
      refine ⟨?_, ?_⟩
      ·by_cases h6 : v.kind = 6
       ·have e6 : (v.kind == (6 : Int)) = true := by simp [h6]
        have t6 : t.kind = 6 := by omega
        have := kn (f := fun kk i => aB (gF (k + 1)) v.items t.kind t.scale t.fields kk (i : Int)) (n := v.items.length) (P := fun i => !qS d (ft t i) (iv v i)) (A := fun i => some (i : Int)) (B := some (-1)) (fun kk i hi' => by
         obtain ⟨f, f2, f3, f4, _⟩ := sub hf i hi'
         rw [if_pos t6] at f2
         simp only [aB, cU hi', bn, cg hi', bJ, gF]
         rw [show (0 : Int) = ((0 : Nat) : Int) from rfl, eX f2, bJ, f3, ma hi', f4, bJ, bJ, bt hi' (by omega), bv]) (fun kk => by simp [aB, bv, bu]) bf 0 (Nat.zero_le _) (by rw [aQ]; omega)
        rw [show ((0 : Nat) : Int) = (0 : Int) from rfl] at this
        rw [e6, bn, a7, be, this]
        cases first (fun i => !qS d (ft t i) (iv v i)) 0 v.items.length <;> simp [bJ]
       ·have e6 : (v.kind == (6 : Int)) = false := by simp [h6]
        by_cases h7 : v.kind = 7
        ·have e7 : (v.kind == (7 : Int)) = true := by simp [h7]
         have hlen' : t.fields.length = v.items.length := by
          by_cases hh : t.fields.length = v.items.length
          ·exact hh
          ·exact absurd ⟨h7, hh⟩ hl
         have n1 : ((t.fields.length : Int) != (v.items.length : Int)) = false := by simp; omega
         have := kn (f := fun kk i => ar (jx (k + 2)) t.fields v.items kk (i : Int)) (n := v.items.length) (P := fun i => !qS d (ft t i) (iv v i)) (A := fun _ => some false) (B := some true) (fun kk i hi' => by
          obtain ⟨f, f2, f3, _, _⟩ := sub hf i hi'
          obtain ⟨f', f1', f2', f3', _⟩ := Bj (hf i hi')
          have m1 := dq (kN hi')
          have m2 := cZ f1'
          have m3 := dv f'
          rw [f3'] at m3
          have f4 := (ih (k + 1) (d + 1) (ft t i) (iv v i) (hi _ (kN hi')) (by rw [← f3']; exact ht.fs f' f1') (by omega) (by omega) (by omega) (by omega)).1
          rw [if_neg (by omega)] at f2
          have hi2 : i < t.fields.length := by omega
          simp only [ar, cU hi2, bn, eX f2, bJ, jx]
          rw [cg hi', bJ, f3, ma hi', f4, bJ, bJ, bt hi' (by omega), bv]) (fun kk => by simp [ar, bv, aK, hlen']) bf 0 (Nat.zero_le _) (by rw [aQ]; omega)
         rw [show ((0 : Nat) : Int) = (0 : Int) from rfl] at this
         rw [e6, e7, aW, bn, az, n1, aW, this]
         cases first (fun i => !qS d (ft t i) (iv v i)) 0 v.items.length <;> rfl
        ·have e7 : (v.kind == (7 : Int)) = false := by simp [h7]
         rw [e6, e7, aW, aW, fM hp h6 h7]
         simp [la]
      ·have n2 : v.kind = 7 → ((v.items.length : Int) != (t.fields.length : Int)) = false := by
        intro h7
        have : ¬ t.fields.length ≠ v.items.length := fun hh => hl ⟨h7, hh⟩
        simp; omega
       simp only [ju]
       by_cases h7 : v.kind = 7
       ·have t7 : (t.kind == (7 : Int)) = true := by simp [← hkk, h7]
        rw [t7, bn, n2 h7, aW]; exact hr
       ·have t7 : (t.kind == (7 : Int)) = false := by simp [← hkk, h7]
        rw [t7, aW, aW]; exact hr
   ·have e0 : (v.kind == (0 : Int)) = false := by simp [h0]
    have e1 : (v.kind != t.kind) = true := by simp [hkk]
    simp [e0, e1, h0, hkk, bn, aW]
def jd : Nat → aw → ac → Bool
 | 0, _, _ => false
 | d + 1, t, v => (first (fun i => ((iv v i).kind == 0 && nd t i) || jd d (ft t i) (iv v i)) 0 v.items.length).isSome
theorem yd : ∀ (d k k' : Nat) (t : aw) (v : ac), xU d v → V t → qS d t v = true → dm v < 1000000000 → gX t < 1000000000 → d + 1 ≤ k → d + 1 ≤ k' →
  eD k t v = some (jd d t v) ∧ cy k' t v = some (jd d t v) := by
 intro d
 induction d with
 | zero => intro k k' t v hs; exact hs.zero.elim
 | succ d ih =>
  intro k k' t v hs ht ho hv hT hk hk'
  obtain ⟨k, rfl⟩ : ∃ q, k = q + 1 := ⟨k - 1, by omega⟩
  obtain ⟨k', rfl⟩ : ∃ q, k' = q + 1 := ⟨k' - 1, by omega⟩
  obtain ⟨hp, hi⟩ := hs.succ
  obtain ⟨hf, hof⟩ := vW hs ht ho
  have hsz := gx v
  have hlen := fI v.items
  have hsT := ga t
  have sub : ∀ i, i < v.items.length → ∃ f : ah, t.fields[if t.kind = 6 then 0 else i]? = some f ∧ f.type = ft t i ∧ f.need = nd t i ∧ eD k (ft t i) (iv v i) = some (jd d (ft t i) (iv v i)) ∧ cy k' (ft t i) (iv v i) = some (jd d (ft t i) (iv v i)) := by
   intro i hi'
   obtain ⟨f, f1, f2, f3, f4⟩ := Bj (hf i hi')
   have m1 := dq (kN hi')
   have m2 := cZ f1
   have m3 := dv f
   rw [f3] at m3
   obtain ⟨a, b⟩ := ih k k' (ft t i) (iv v i) (hi _ (kN hi')) (by rw [← f3]; exact ht.fs f f1) (hof i hi') (by omega) (by omega) (by omega) (by omega)
   exact ⟨f, f2, f3, f4, a, b⟩
  rw [eD, cy]
  simp only [jd]
  refine ⟨?_, ?_⟩
  ·have := kn (f := fun kk i => db (eD k) t v kk (i : Int)) (n := v.items.length) (P := fun i => ((iv v i).kind == 0 && nd t i) || jd d (ft t i) (iv v i)) (A := fun _ => some true) (B := some false) (fun kk i hi' => by
    obtain ⟨f, f2, f3, f4, f5, _⟩ := sub i hi'
    have e : kK t (i : Int) = some f := by
     unfold kK iA
     by_cases h6 : t.kind = 6
     ·rw [if_pos h6] at f2
      rw [show (0 : Int) = ((0 : Nat) : Int) from rfl, eX f2]
      simp [h6, bv, bJ]
     ·rw [if_neg h6] at f2
      rw [eX f2]
      simp [h6, bv, bJ]
    simp only [db, cU hi', bn, cg hi', bJ, e, gq, f3, f4, ma hi', f5, bt hi' (show v.items.length < 1000000000 by omega)]
    cases (iv v i).kind == 0 <;> cases nd t i <;> cases jd d (ft t i) (iv v i) <;> rfl) (fun kk => by simp [db, bv, jJ]) bf 0 (Nat.zero_le _) (by rw [aQ]; omega)
   rw [show ((0 : Nat) : Int) = (0 : Int) from rfl] at this
   rw [this]
   cases first (fun i => ((iv v i).kind == 0 && nd t i) || jd d (ft t i) (iv v i)) 0 v.items.length <;> rfl
  ·have := kn (f := fun kk i => ca (cy k') t v kk (i : Int)) (n := v.items.length) (P := fun i => ((iv v i).kind == 0 && nd t i) || jd d (ft t i) (iv v i)) (A := fun _ => some true) (B := some false) (fun kk i hi' => by
    obtain ⟨f, f2, f3, f4, _, f5⟩ := sub i hi'
    have e : ∀ j : Int, at? t.fields j = some f → fC (ca (cy k') t v kk) (cy k') t v (i : Int) j = if (((iv v i).kind == 0 && nd t i) || jd d (ft t i) (iv v i)) = true then some true else ca (cy k') t v kk ((i + 1 : Nat) : Int) := by
     intro j hj
     simp only [fC, fD, hj, bJ, cg hi', f3, f4, ma hi', f5, bt hi' (show v.items.length < 1000000000 by omega)]
     cases (iv v i).kind == 0 <;> cases nd t i <;> cases jd d (ft t i) (iv v i) <;> rfl
    simp only [ca, cU hi', bn]
    by_cases h6 : t.kind = 6
    ·rw [if_pos h6] at f2
     have e6 : (t.kind == (6 : Int)) = true := by simp [h6]
     rw [e6, bn]
     exact e 0 (eX f2)
    ·rw [if_neg h6] at f2
     have e6 : (t.kind == (6 : Int)) = false := by simp [h6]
     rw [e6, aW]
     exact e i (eX f2)) (fun kk => by simp [ca, bv, jr]) bf 0 (Nat.zero_le _) (by rw [aQ]; omega)
   rw [show ((0 : Nat) : Int) = (0 : Int) from rfl] at this
   rw [this]
   cases first (fun i => ((iv v i).kind == 0 && nd t i) || jd d (ft t i) (iv v i)) 0 v.items.length <;> rfl
theorem uY (t : aw) (v : ac) (hv : dm v < 1000000000) (hT : gX t < 1000000000) : ∃ e, gA t v = some e ∧ kl t v = some e := by
 obtain ⟨e, h1, h2, h3⟩ := kZ t hT
 unfold gA kl
 rw [h1, h2, xd v hv, CT v hv]
 simp only [bJ]
 by_cases he : e = 0
 ·subst he
  have ht := h3 rfl
  cases hs : nn v with
  | false => exact ⟨1, rfl, rfl⟩
  | true =>
   have hS : xU 4 v := ⟨0, hs⟩
   obtain ⟨a, b⟩ := of_eq 4 bf bf t v hS ht hv hT (by rw [aQ]; omega) (by rw [aQ]; omega)
   rw [a, b]
   cases ho : qS 4 t v with
   | false => exact ⟨2, rfl, rfl⟩
   | true =>
    obtain ⟨c, d⟩ := yd 4 bf bf t v hS ht ho hv hT (by rw [aQ]; omega) (by rw [aQ]; omega)
    rw [c, d]
    cases jd 4 t v with
    | false => exact ⟨0, rfl, rfl⟩
    | true => exact ⟨9, rfl, rfl⟩
 ·have : (e != (0 : Int)) = true := by simp [he]
  rw [this]
  exact ⟨e, rfl, rfl⟩
theorem wZ : ByteArray.empty.size = 0 := rfl
end Go.Proofs.YtmaemlebpjnmoaaGreatDoor
namespace Go.Proofs.YtmaemlebpjnmoaaGreatDoor
open Go Go.SX Go.SX.Cal
theorem oC {l : List ah} {i : Nat} (h : i < l.length) : bQ (l.drop i) = jN l[i] + bQ (l.drop (i + 1)) := by
 rw [List.drop_eq_getElem_cons h]; simp only [bQ]
theorem ux : bf = 1152921504606846975 + 1 := rfl
end Go.Proofs.YtmaemlebpjnmoaaGreatDoor
namespace Go.Proofs.YtmaemlebpjnmoaaGreatDoor
open Go Go.SX Go.SX.Cal
end Go.Proofs.YtmaemlebpjnmoaaGreatDoor
namespace Go.Proofs.YtmaemlebpjnmoaaGreatDoor
open Go Go.SX Go.SX.Cal
mutual
def A8 : aw → List Int
 | ⟨_, _, fs⟩ => gC fs
def gC : List (iU aw) → List Int
 | [] => []
 | f :: l => rH f ++ gC l
def rH : iU aw → List Int
 | ⟨i, _, _, t⟩ => i :: A8 t
end
theorem BD : ∀ t : aw, A8 t = gC t.fields
 | ⟨_, _, _⟩ => by simp only [A8]
theorem mq : ∀ f : ah, rH f = f.id :: gC f.type.fields
 | ⟨_, _, _, t⟩ => by simp only [rH, BD]
theorem rW {l : List ah} {i : Nat} (h : i < l.length) : gC (l.drop i) = rH l[i] ++ gC (l.drop (i + 1)) := by
 rw [List.drop_eq_getElem_cons h]; simp only [gC]
mutual
theorem yV : ∀ t : aw, (A8 t).length ≤ gX t
 | ⟨_, _, fs⟩ => by simp only [A8, gX]; have := nP fs; omega
theorem nP : ∀ l : List (iU aw), (gC l).length ≤ bQ l
 | [] => by simp [gC]
 | f :: l => by
  simp only [gC, bQ, List.length_append]
  have := yy f
  have := nP l
  omega
theorem yy : ∀ f : iU aw, (rH f).length ≤ jN f
 | ⟨i, n, q, t⟩ => by
  simp only [rH, jN, List.length_cons]
  have := yV t
  omega
end
theorem CI : ∀ (N k : Nat) (fs : List ah), bQ fs ≤ N → N < k → bQ fs < 1000000000 → ja k fs = some (gC fs) := by
 intro N
 induction N with
 | zero =>
  intro k fs h hk _
  obtain ⟨k, rfl⟩ : ∃ x, k = x + 1 := ⟨k - 1, by omega⟩
  have hl := dP fs
  have : fs = [] := List.eq_nil_of_length_eq_zero (by omega)
  subst this
  rw [ja, ux, gB]
  rfl
 | succ N ih =>
  intro k fs hN hk hs
  obtain ⟨k, rfl⟩ : ∃ x, k = x + 1 := ⟨k - 1, by omega⟩
  have hl := dP fs
  rw [ja]
  have loop : ∀ (kk i : Nat) (acc : List Int), i ≤ fs.length → fs.length - i < kk → acc.length + bQ (fs.drop i) ≤ bQ fs → gB (ja k) fs kk acc (i : Int) = some (acc ++ gC (fs.drop i)) := by
   intro kk
   induction kk with
   | zero => intro i acc _ h; omega
   | succ kk ihk =>
    intro i acc hi hk2 hacc
    rw [gB]
    by_cases h : i = fs.length
    ·subst h
     simp only [Int.lt_irrefl, decide_false, aW, lT, List.drop_length, gC, List.append_nil]
    ·have h1 : i < fs.length := by omega
     have m1 := cZ (List.getElem_mem h1)
     have m2 := dv fs[i]
     have m3 := ga fs[i].type
     have m4 := oC h1
     have m5 := nP fs[i].type.fields
     rw [cU h1, bn, cg h1, cf, nX (by omega), ih k _ (by omega) (by omega) (by omega), cf, nX (by simp; omega), bt h1 (by omega)]
     rw [ihk (i + 1) _ (by omega) (by omega) (by simp; omega), rW h1, mq]
     simp
  have := loop bf 0 [] (Nat.zero_le _) (by rw [aQ]; omega) (by simp)
  simpa using this
def yo (x : Int) (m : List (Int × Int)) : Int × List (Int × Int) :=
 if x < 1 then (3, m) else
  let y := IntKind.i64.wrap ((il (ea .i64) m x).getD 0 + 1)
  if 1 < (il (ea .i64) (ic (ea .i64) m x y) x).getD 0 then (5, ic (ea .i64) m x y) else (0, ic (ea .i64) m x y)
def scan : List Int → List (Int × Int) → Int × List (Int × Int)
 | [], m => (0, m)
 | x :: l, m => if (yo x m).1 ≠ 0 then yo x m else scan l (yo x m).2
theorem vG : ∀ (a b : List Int) (m : List (Int × Int)), scan (a ++ b) m = if (scan a m).1 ≠ 0 then scan a m else scan b (scan a m).2
 | [], b, m => by simp [scan]
 | x :: a, b, m => by
  simp only [List.cons_append, scan]
  by_cases h : (yo x m).1 = 0
  ·simp only [h, ne_eq, not_true, if_false]
   exact vG a b _
  ·simp [h]
theorem wh (f : ah) (m : List (Int × Int)) : eR f m = some (yo f.id m) := by
 unfold eR yo
 simp only [cf, bv, decide_eq_true_eq]
 split
 ·rfl
 ·split <;> rfl
theorem xx : ∀ (N k : Nat) (fs : List ah) (m : List (Int × Int)), bQ fs ≤ N → N < k → bQ fs < 1000000000 → aM k fs m = some (scan (gC fs) m) := by
 intro N
 induction N with
 | zero =>
  intro k fs m h hk _
  obtain ⟨k, rfl⟩ : ∃ x, k = x + 1 := ⟨k - 1, by omega⟩
  have hl := dP fs
  have : fs = [] := List.eq_nil_of_length_eq_zero (by omega)
  subst this
  rw [aM, ux, aZ]
  rfl
 | succ N ih =>
  intro k fs m hN hk hs
  obtain ⟨k, rfl⟩ : ∃ x, k = x + 1 := ⟨k - 1, by omega⟩
  have hl := dP fs
  rw [aM]
  have loop : ∀ (kk i : Nat) (m : List (Int × Int)), i ≤ fs.length → fs.length - i < kk → aZ (aM k) fs kk m (i : Int) = some (scan (gC (fs.drop i)) m) := by
   intro kk
   induction kk with
   | zero => intro i m _ h; omega
   | succ kk ihk =>
    intro i m hi hk2
    rw [aZ]
    by_cases h : i = fs.length
    ·subst h
     simp only [Int.lt_irrefl, decide_false, aW, cw, List.drop_length, gC, scan]
    ·have h1 : i < fs.length := by omega
     have m1 := cZ (List.getElem_mem h1)
     have m2 := dv fs[i]
     have m3 := ga fs[i].type
     rw [cU h1, bn, cg h1, cf, wh, cf, bt h1 (by omega), rW h1, mq, List.cons_append, scan, ih k _ _ (by omega) (by omega) (by omega)]
     simp only [cf, bv]
     by_cases h0 : (yo fs[i].id m).1 = 0
     ·simp only [h0, bne_self_eq_false, Bool.false_eq_true, if_false, ne_eq, not_true, vG]
      by_cases h2 : (scan (gC fs[i].type.fields) (yo fs[i].id m).2).1 = 0
      ·simp only [h2, bne_self_eq_false, Bool.false_eq_true, if_false, not_true]
       exact ihk (i + 1) _ (by omega) (by omega)
      ·simp [h2]
     ·simp [h0]
  have := loop bf 0 m (Nat.zero_le _) (by rw [aQ]; omega)
  simpa using this
end Go.Proofs.YtmaemlebpjnmoaaGreatDoor
namespace Go.Proofs.YtmaemlebpjnmoaaGreatDoor
open Go Go.SX Go.SX.Cal
abbrev KI : Co Int := ea .i64
theorem mh : ∀ (m : List (Int × Int)) (k v : Int), il KI (ic KI m k v) k = some v
 | [], k, v => by simp [ic, il, ea]
 | (k', v') :: l, k, v => by
  by_cases h : k = k'
  ·simp [ic, il, ea, h]
  ·have hb : (k == k') = false := by simpa using h
   have := mh l k v
   simp only [ic, il, ea, hb, Bool.false_eq_true, if_false] at this ⊢
   exact this
theorem ns : ∀ (m : List (Int × Int)) (k v x : Int), x ≠ k → il KI (ic KI m k v) x = il KI m x
 | [], k, v, x, hx => by simp [ic, il, ea, hx]
 | (k', v') :: l, k, v, x, hx => by
  by_cases h : k = k'
  ·subst h
   simp [ic, il, ea, hx]
  ·have hb : (k == k') = false := by simpa using h
   have := ns l k v x hx
   simp only [ic, il, ea, hb, Bool.false_eq_true, if_false] at this ⊢
   rw [this]
def Dx (m : List (Int × Int)) (seen : List Int) : Prop := ∀ x, (il KI m x).getD 0 = if x ∈ seen then 1 else 0
theorem Bq {m : List (Int × Int)} {seen : List Int} (h : Dx m seen) (x : Int) : (yo x m).1 = (if x < 1 then 3 else if x ∈ seen then 5 else 0) ∧ ((yo x m).1 = 0 → Dx (yo x m).2 (seen ++ [x])) := by
 unfold yo
 have hx := h x
 by_cases h1 : x < 1
 ·simp [h1]
 ·simp only [h1, if_false]
  have e : (il (ea .i64) m x).getD 0 = if x ∈ seen then 1 else 0 := hx
  rw [e]
  by_cases h2 : x ∈ seen
  ·simp only [h2, if_true]
   rw [show IntKind.i64.wrap (1 + 1) = 2 from mW (by omega) (by omega)]
   have := mh m x 2
   simp only [KI] at this
   simp [this]
  ·simp only [h2, if_false]
   rw [show IntKind.i64.wrap (0 + 1) = 1 from mW (by omega) (by omega)]
   have h3 := mh m x 1
   simp only [KI] at h3
   simp only [h3, Option.getD_some, Int.lt_irrefl, if_false, true_and]
   intro _ y
   by_cases hy : y = x
   ·subst hy
    simp [KI, h3]
   ·have h4 := ns m x 1 y hy
    simp only [KI] at h4
    have h5 := h y
    simp only [KI] at h5 ⊢
    rw [h4, h5]
    simp [hy]
theorem yp (ids : List Int) (hl : ids.length < 1000000000) (rec1 : Int → Option Int) {i : Nat} (hi : i < ids.length) : bF rec1 ids (i : Int) ids[i] bf (0 : Int) = if ids[i] ∈ ids.take i then some 5 else rec1 ((i + 1 : Nat) : Int) := by
 have hs := kn (f := fun k j => bF rec1 ids (i : Int) ids[i] k (j : Int)) (n := i) (P := fun j => ids[j]? == some ids[i]) (A := fun j => some 5) (B := rec1 ((i + 1 : Nat) : Int)) (fun k j hj => by
   have hjf : j < ids.length := by omega
   show bF rec1 ids (i : Int) ids[i] (k + 1) (j : Int) = _
   rw [bF, cU hj, bn, cg hjf, bt hj (by omega)]
   simp only [cf, bv, List.getElem?_eq_getElem hjf, Option.some_beq_some])
  (fun k => by
   show bF rec1 ids (i : Int) ids[i] (k + 1) (i : Int) = _
   rw [bF]; simp only [Int.lt_irrefl, decide_false, aW, f0]; rw [bt hi hl]) bf 0 (Nat.zero_le _) (by rw [aQ]; omega)
 have hs : bF rec1 ids (i : Int) ids[i] bf (0 : Int) = _ := hs
 rw [hs]
 cases hf : first (fun j => ids[j]? == some ids[i]) 0 i with
 | none =>
  rw [lB] at hf
  have : ids[i] ∉ ids.take i := by
   intro hm
   obtain ⟨j, hj, he⟩ := List.getElem_of_mem hm
   have hj' : j < i := by simp at hj; omega
   have := hf j (Nat.zero_le _) hj'
   rw [List.getElem_take] at he
   simp [List.getElem?_eq_getElem (show j < ids.length by omega), he] at this
  simp [this]
 | some j =>
  have : ids[i] ∈ ids.take i := by
   unfold first at hf
   have h1 := List.find?_some hf
   have h2 := List.mem_of_find?_eq_some hf
   rw [List.mem_range'_1] at h2
   have hjl : j < ids.length := by omega
   simp only [List.getElem?_eq_getElem hjl, Option.some_beq_some, beq_iff_eq] at h1
   rw [← h1]
   exact List.mem_iff_getElem.2 ⟨j, by simp; omega, by simp⟩
  simp [this]
theorem uL (ids : List Int) (hl : ids.length < 1000000000) : ∀ (kk i : Nat) (m : List (Int × Int)), i ≤ ids.length → ids.length - i < kk → Dx m (ids.take i) → bU ids kk (i : Int) = some (scan (ids.drop i) m).1 := by
 intro kk
 induction kk with
 | zero => intro i m _ h; omega
 | succ kk ih =>
  intro i m hi hk hm
  rw [bU]
  by_cases h : i = ids.length
  ·subst h
   simp only [Int.lt_irrefl, decide_false, aW, List.drop_length, scan]
   rfl
  ·have h1 : i < ids.length := by omega
   rw [cU h1, bn, cg h1, cf, yp ids hl _ h1, List.drop_eq_getElem_cons h1, scan]
   obtain ⟨g1, g2⟩ := Bq hm ids[i]
   rw [g1] at g2 ⊢
   simp only [bv, decide_eq_true_eq]
   by_cases h2 : ids[i] < 1
   ·simp [h2, g1]
   ·by_cases h3 : ids[i] ∈ ids.take i
    ·simp [h2, h3, g1]
    ·simp only [h2, h3, if_false, ne_eq, not_true]
     simp only [h2, h3, if_false] at g2
     refine ih (i + 1) _ (by omega) (by omega) ?_
     have := g2 trivial
     rwa [List.take_append_getElem h1] at this
theorem sY (fs : List ah) (hs : bQ fs < 1000000000 - 1) : ∃ e, cX fs = some e ∧ fe fs = some e := by
 obtain ⟨e, h1, h2, h3⟩ := kZ ⟨7, 0, fs⟩ (by simp only [gX]; omega)
 unfold cX fe
 rw [h1, h2]
 simp only [cf, bv]
 by_cases he : e = 0
 ·have w := xx 1000000000 bf fs [] (by omega) (by rw [aQ]; omega) (by omega)
  have i := CI 1000000000 bf fs (by omega) (by rw [aQ]; omega) (by omega)
  have hl := nP fs
  have l := uL (gC fs) (by omega) bf 0 [] (Nat.zero_le _) (by rw [aQ]; omega) (fun x => by simp [il])
  have l : bU (gC fs) bf (0 : Int) = _ := l
  refine ⟨(scan (gC fs) []).1, ?_, ?_⟩
  ·simp [he, w, cf]
  ·simp [he, i, cf, l]
 ·exact ⟨e, by simp [he], by simp [he]⟩
end Go.Proofs.YtmaemlebpjnmoaaGreatDoor
namespace Go.Proofs.YtmaemlebpjnmoaaGreatDoor
open Go Go.SX Go.SX.Cal
theorem aA {α β : Type} (a : α) (f : α → Option β) : aT (some a) f = f a := rfl
theorem cL {β : Type} (x y : Option β) : aI true x y = x := rfl
theorem bD {β : Type} (x y : Option β) : aI false x y = y := rfl
theorem bL {β : Type} {p : Prop} [Decidable p] {x : Option β} (h : p) : fL p x = x := if_pos h
theorem bX {m f : Nat} (h : m < f) : ∃ q, f = q + 1 := ⟨f - 1, by omega⟩
theorem ig {i n : Nat} (h : ¬ i < n) : decide ((i : Int) < (n : Int)) = false := by simp; omega
theorem fy {α : Type} {l : List α} {i : Nat} (hi : i < l.length) : l.drop i = l[i] :: l.drop (i + 1) := List.drop_eq_getElem_cons hi
noncomputable def ck (t : aw) (v : ac) : Int := (gA t v).getD 0
theorem Dh {t : aw} {v : ac} (hv : dm v < 1000000000) (hT : gX t < 1000000000) : gA t v = some (ck t v) := by
 obtain ⟨e, h1, _⟩ := uY t v hv hT
 unfold ck; rw [h1]; rfl
theorem DF {t : aw} {v : ac} (hv : dm v < 1000000000) (hT : gX t < 1000000000) : kl t v = some (ck t v) := by
 obtain ⟨e, h1, h2⟩ := uY t v hv hT
 unfold ck; rw [h1, h2]; rfl
noncomputable def lP : List ah → List ac → Int
 | f :: fs, v :: vs => if ck f.type v ≠ 0 then ck f.type v else if f.need = true ∧ v.kind = 0 then 9 else lP fs vs
 | _, _ => 0
theorem uO {f : ah} {fs : List ah} {v : ac} {vs : List ac} (h : ck f.type v ≠ 0) : lP (f :: fs) (v :: vs) = ck f.type v := by simp only [lP]; rw [if_pos h]
theorem sL {f : ah} {fs : List ah} {v : ac} {vs : List ac} (h : ck f.type v = 0) (h2 : f.need = true ∧ v.kind = 0) : lP (f :: fs) (v :: vs) = 9 := by simp only [lP]; rw [if_neg (fun k => k h), if_pos h2]
theorem qQ {f : ah} {fs : List ah} {v : ac} {vs : List ac} (h : ck f.type v = 0) (h2 : ¬ (f.need = true ∧ v.kind = 0)) : lP (f :: fs) (v :: vs) = lP fs vs := by simp only [lP]; rw [if_neg (fun k => k h), if_neg h2]
theorem yi {fs : List ah} (h : bQ fs < 1000000000) {i : Nat} (hi : i < fs.length) : gX fs[i].type < 1000000000 := by
 have := cZ (List.getElem_mem hi)
 have := dv fs[i]
 omega
theorem vo {r : List ac} (h : d8 r < 1000000000) {i : Nat} (hi : i < r.length) : dm r[i] < 1000000000 := by
 have := dq (List.getElem_mem hi)
 omega
theorem Dp {fs : List ah} {r : List ac} (hf : bQ fs < 1000000000) (hr : d8 r < 1000000000) (hl : r.length = fs.length) (rec1 : Int → Option Int) (x1 : Int) : ∀ (m f i : Nat), i + m = fs.length → m < f →
  bV rec1 fs x1 r f (i : Int) = if lP (fs.drop i) (r.drop i) ≠ 0 then some (lP (fs.drop i) (r.drop i)) else eQ rec1 x1 := by
 have hfl := dP fs
 intro m
 induction m with
 | zero =>
  intro f i hi hf'
  obtain ⟨f, rfl⟩ := bX hf'
  rw [bV, ig (by omega), bD, List.drop_of_length_le (l := fs) (by omega)]
  simp [lP]
 | succ m ih =>
  intro f i hi hf'
  obtain ⟨f, rfl⟩ := bX hf'
  have h1 : i < fs.length := by omega
  have h2 : i < r.length := by omega
  rw [bV, cU h1, cL, cg h1, aA, cg h2, aA, Dh (vo hr h2) (yi hf h1), aA, fy h1, fy h2]
  unfold eU
  by_cases he : ck fs[i].type r[i] = 0
  ·by_cases hk : r[i].kind = 0
   ·cases hn : fs[i].need with
    | true => rw [sL he ⟨hn, hk⟩, he, show ((0 : Int) != 0) = false from rfl, bD, show (r[i].kind == 0) = true by simp [hk], cL, cL, if_pos (by decide)]
    | false => rw [qQ he (by simp [hn]), he, show ((0 : Int) != 0) = false from rfl, bD, show (r[i].kind == 0) = true by simp [hk], cL, bD, bt h1 (by omega), ih f (i + 1) (by omega) (by omega)]
   ·rw [qQ he (fun h => hk h.2), he, show ((0 : Int) != 0) = false from rfl, bD, show (r[i].kind == 0) = false by simp [hk], bD, bD, bt h1 (by omega), ih f (i + 1) (by omega) (by omega)]
  ·rw [uO he, show (ck fs[i].type r[i] != 0) = true by simp [he], cL, if_pos he]
theorem Do {fs : List ah} {r : List ac} (hf : bQ fs < 1000000000) (hr : d8 r < 1000000000) (hl : r.length = fs.length) : ∀ (m f i : Nat), i + m = fs.length → m < f →
  cT fs r f (i : Int) = some (lP (fs.drop i) (r.drop i)) := by
 have hfl := dP fs
 intro m
 induction m with
 | zero =>
  intro f i hi hf'
  obtain ⟨f, rfl⟩ := bX hf'
  rw [cT, ig (by omega), bD, List.drop_of_length_le (l := fs) (by omega)]
  simp [lP, iM]
 | succ m ih =>
  intro f i hi hf'
  obtain ⟨f, rfl⟩ := bX hf'
  have h1 : i < fs.length := by omega
  have h2 : i < r.length := by omega
  rw [cT, cU h1, cL, cg h1, aA, cg h2, aA, DF (vo hr h2) (yi hf h1), aA, fy h1, fy h2]
  unfold gz
  by_cases he : ck fs[i].type r[i] = 0
  ·cases hn : fs[i].need with
   | true =>
    by_cases hk : r[i].kind = 0
    ·rw [sL he ⟨hn, hk⟩, he, show ((0 : Int) != 0) = false from rfl, bD, cL, show (r[i].kind == 0) = true by simp [hk], cL]
    ·rw [qQ he (fun h => hk h.2), he, show ((0 : Int) != 0) = false from rfl, bD, cL, show (r[i].kind == 0) = false by simp [hk], bD, bt h1 (by omega), ih f (i + 1) (by omega) (by omega)]
   | false => rw [qQ he (by simp [hn]), he, show ((0 : Int) != 0) = false from rfl, bD, bD, bD, bt h1 (by omega), ih f (i + 1) (by omega) (by omega)]
  ·rw [uO he, show (ck fs[i].type r[i] != 0) = true by simp [he], cL]
noncomputable def nK (fs : List ah) : List (List ac) → Int
 | r :: rs => if r.length ≠ fs.length then 1 else if lP fs r ≠ 0 then lP fs r else nK fs rs
 | [] => 0
theorem Ck {fs : List ah} {rows : List (List ac)} (hf : bQ fs < 1000000000) (hr : ∀ r ∈ rows, d8 r < 1000000000) (hl : rows.length < 1000000000) : ∀ (m f i : Nat), i + m = rows.length → m < f →
  bG fs rows f (i : Int) = some (nK fs (rows.drop i)) := by
 intro m
 induction m with
 | zero =>
  intro f i hi hf'
  obtain ⟨f, rfl⟩ := bX hf'
  rw [bG, ig (by omega), bD, List.drop_of_length_le (by omega)]; rfl
 | succ m ih =>
  intro f i hi hf'
  obtain ⟨f, rfl⟩ := bX hf'
  have h1 : i < rows.length := by omega
  rw [bG, cU h1, cL, cg h1, aA, fy h1]
  simp only [nK]
  by_cases hle : rows[i].length = fs.length
  ·have hc := Dp hf (hr _ (List.getElem_mem h1)) hle (bG fs rows f) (i : Int) fs.length bf 0 (by omega) (by have := dP fs; rw [aQ]; omega)
   rw [show ((0 : Nat) : Int) = 0 from rfl, List.drop_zero, List.drop_zero] at hc
   rw [show (((rows[i].length : Nat) : Int) != (fs.length : Int)) = false by simp [hle], bD, hc, if_neg (show ¬ rows[i].length ≠ fs.length from fun h => h hle)]
   unfold eQ
   by_cases h0 : lP fs rows[i] = 0
   ·rw [if_neg (fun h => h h0), if_neg (fun h => h h0), bt h1 hl, ih f (i + 1) (by omega) (by omega)]
   ·rw [if_pos h0, if_pos h0]
  ·rw [show (((rows[i].length : Nat) : Int) != (fs.length : Int)) = true by simp; omega, cL, if_pos hle]
theorem C0 {fs : List ah} {rows : List (List ac)} (hf : bQ fs < 1000000000) (hr : ∀ r ∈ rows, d8 r < 1000000000) (hl : rows.length < 1000000000) : ∀ (m f i : Nat), i + m = rows.length → m < f →
  dD fs rows f (i : Int) = some (nK fs (rows.drop i)) := by
 intro m
 induction m with
 | zero =>
  intro f i hi hf'
  obtain ⟨f, rfl⟩ := bX hf'
  rw [dD, ig (by omega), bD, List.drop_of_length_le (by omega)]; rfl
 | succ m ih =>
  intro f i hi hf'
  obtain ⟨f, rfl⟩ := bX hf'
  have h1 : i < rows.length := by omega
  rw [dD, cU h1, cL, cg h1, aA, fy h1]
  simp only [nK]
  unfold kw
  by_cases hle : rows[i].length = fs.length
  ·have hc := Do hf (hr _ (List.getElem_mem h1)) hle fs.length bf 0 (by omega) (by have := dP fs; rw [aQ]; omega)
   rw [show ((0 : Nat) : Int) = 0 from rfl, List.drop_zero, List.drop_zero] at hc
   rw [show (((rows[i].length : Nat) : Int) != (fs.length : Int)) = false by simp [hle], bD, hc, aA, if_neg (fun h => h hle)]
   by_cases h0 : lP fs rows[i] = 0
   ·rw [h0, show ((0 : Int) != 0) = false from rfl, bD, if_neg (fun h => h rfl), bt h1 hl, ih f (i + 1) (by omega) (by omega)]
   ·rw [show (lP fs rows[i] != 0) = true by simp [h0], cL, if_pos h0]
  ·rw [show (((rows[i].length : Nat) : Int) != (fs.length : Int)) = true by simp; omega, cL, aA, if_pos hle]; rfl
def sc (fs : List ah) : Int := (cX fs).getD 0
theorem Cs {fs : List ah} (h : bQ fs < 1000000000 - 1) : cX fs = some (sc fs) := by
 obtain ⟨e, h1, _⟩ := sY fs h
 unfold sc; rw [h1]; rfl
theorem Dy {fs : List ah} (h : bQ fs < 1000000000 - 1) : fe fs = some (sc fs) := by
 obtain ⟨e, h1, h2⟩ := sY fs h
 unfold sc; rw [h1, h2]; rfl
noncomputable def yA (fs : List ah) (rows : List (List ac)) : Int := if sc fs ≠ 0 then sc fs else if 2000 < rows.length then 7 else nK fs rows
theorem qC {fs : List ah} {rows : List (List ac)} (hf : bQ fs < 1000000000 - 1) (hr : ∀ r ∈ rows, d8 r < 1000000000) (hl : rows.length < 1000000000) : fb fs rows = some (yA fs rows) := by
 unfold fb yA
 rw [Cs hf, aA]
 by_cases h : sc fs = 0
 ·rw [h, show ((0 : Int) != 0) = false from rfl, bD, if_neg (fun h => h rfl)]
  by_cases h2 : 2000 < rows.length
  ·rw [decide_eq_true (by omega), cL, if_pos h2]
  ·have hc := Ck (fs := fs) (by omega) hr hl rows.length bf 0 (by omega) (by rw [aQ]; omega)
   rw [show ((0 : Nat) : Int) = 0 from rfl, List.drop_zero] at hc
   rw [decide_eq_false (by omega), bD, hc, if_neg h2]
 ·rw [show (sc fs != 0) = true by simp [h], cL, if_pos h]
theorem ve {fs : List ah} {rows : List (List ac)} (hf : bQ fs < 1000000000 - 1) (hr : ∀ r ∈ rows, d8 r < 1000000000) (hl : rows.length < 1000000000) : iD fs rows = some (yA fs rows) := by
 unfold iD yA
 rw [Dy hf, aA]
 by_cases h : sc fs = 0
 ·rw [h, show ((0 : Int) != 0) = false from rfl, bD, if_neg (fun h => h rfl)]
  by_cases h2 : 2000 < rows.length
  ·rw [decide_eq_true (by omega), cL, if_pos h2]
  ·have hc := C0 (fs := fs) (by omega) hr hl rows.length bf 0 (by omega) (by rw [aQ]; omega)
   rw [show ((0 : Nat) : Int) = 0 from rfl, List.drop_zero] at hc
   rw [decide_eq_false (by omega), bD, hc, if_neg h2]
 ·rw [show (sc fs != 0) = true by simp [h], cL, if_pos h]
theorem tR : ∀ {fs : List ah} {r : List ac}, lP fs r = 0 → ∀ (i : Nat) f v, fs[i]? = some f → r[i]? = some v → ck f.type v = 0 ∧ ¬ (f.need = true ∧ v.kind = 0)
 | [], _, _, i, f, v, h1, _ => by simp at h1
 | _ :: _, [], _, i, f, v, _, h2 => by simp at h2
 | g :: fs, x :: r, h, i, f, v, h1, h2 => by
  simp only [lP] at h
  by_cases ha : ck g.type x = 0
  ·rw [if_neg (fun h => h ha)] at h
   by_cases hb : g.need = true ∧ x.kind = 0
   ·rw [if_pos hb] at h; cases h
   ·rw [if_neg hb] at h
    cases i with
    | zero => simp at h1 h2; subst h1; subst h2; exact ⟨ha, hb⟩
    | succ i => exact tR h i f v (by simpa using h1) (by simpa using h2)
  ·rw [if_pos ha] at h; exact absurd h ha
theorem rz {fs : List ah} : ∀ {rows : List (List ac)}, nK fs rows = 0 → ∀ r ∈ rows, r.length = fs.length ∧ lP fs r = 0
 | [], _, r, h => by cases h
 | x :: rows, h, r, hr => by
  simp only [nK] at h
  by_cases ha : x.length = fs.length
  ·rw [if_neg (fun h => h ha)] at h
   by_cases hb : lP fs x = 0
   ·rw [if_neg (fun h => h hb)] at h
    rcases List.mem_cons.1 hr with rfl | hr
    ·exact ⟨ha, hb⟩
    ·exact rz h r hr
   ·rw [if_pos hb] at h; exact absurd h hb
  ·rw [if_pos ha] at h; cases h
end Go.Proofs.YtmaemlebpjnmoaaGreatDoor
namespace Go.Proofs.YtmaemlebpjnmoaaGreatDoor
open Go Go.SX Go.SX.Cal
def mT (f : ah) : Bool := decide (f.type.kind ≠ 6 ∧ f.type.kind ≠ 7)
abbrev lD := List (ah × Nat)
def qx (rec1 : List ah → List lD) : List ah → Nat → List lD
 | [], _ => []
 | f :: fs, i => (if mT f = true then [[(f, i)]] else (rec1 f.type.fields).map ((f, i) :: ·)) ++ qx rec1 fs (i + 1)
def WY : Nat → List ah → List lD
 | 0, _ => []
 | N + 1, fs => qx (WY N) fs 0
theorem wa (f : ah) (fs : List ah) : bQ (f :: fs) = jN f + bQ fs := by simp only [bQ]
theorem jb (f : ah) : bQ f.type.fields + 2 ≤ jN f := by
 have := dv f
 have := ga f.type
 omega
theorem ya {rec1 : List ah → List lD} : ∀ {fs : List ah} {i : Nat}, (∀ f ∈ fs, (rec1 f.type.fields).length ≤ bQ f.type.fields) → (qx rec1 fs i).length ≤ bQ fs
 | [], i, _ => by simp [qx]
 | f :: fs, i, h => by
  have h1 := ya (rec1 := rec1) (fs := fs) (i := i + 1) (fun g hg => h g (List.mem_cons_of_mem _ hg))
  have h2 := h f (List.mem_cons_self ..)
  have h3 := jb f
  rw [wa]
  simp only [qx, List.length_append]
  split
  ·simp; omega
  ·rw [List.length_map]; omega
theorem ul : ∀ (N : Nat) (fs : List ah), (WY N fs).length ≤ bQ fs
 | 0, fs => by simp [WY]
 | N + 1, fs => ya (fun f _ => ul N f.type.fields)
theorem yk {rec1 : List ah → List lD} : ∀ {fs : List ah} {i : Nat} {w : lD}, w ∈ qx rec1 fs i → ∃ f j u, fs[j]? = some f ∧ w = (f, i + j) :: u ∧ ((mT f = true ∧ u = []) ∨ (mT f = false ∧ u ∈ rec1 f.type.fields))
 | [], i, w, h => by cases h
 | f :: fs, i, w, h => by
  simp only [qx, List.mem_append] at h
  rcases h with h | h
  ·cases hl : mT f with
   | true =>
    rw [hl, if_pos rfl] at h
    exact ⟨f, 0, [], rfl, by simpa using h, .inl ⟨hl, rfl⟩⟩
   | false =>
    rw [hl, if_neg (by simp)] at h
    obtain ⟨u, hu, rfl⟩ := List.mem_map.1 h
    exact ⟨f, 0, u, rfl, rfl, .inr ⟨hl, hu⟩⟩
  ·obtain ⟨g, j, u, h1, h2, h3⟩ := yk h
   refine ⟨g, j + 1, u, by simpa using h1, by rw [h2, show i + 1 + j = i + (j + 1) by omega], ?_⟩
   rcases h3 with ⟨a, b⟩ | ⟨a, b⟩
   ·exact .inl ⟨a, b⟩
   ·exact .inr ⟨a, b⟩
theorem rV {P : List ah → lD → Prop} (hl : ∀ (fs : List ah) f (j : Nat), fs[j]? = some f → mT f = true → P fs [(f, j)]) (hc : ∀ (fs : List ah) f (j : Nat) u, fs[j]? = some f → mT f = false → P f.type.fields u → P fs ((f, j) :: u)) :
  ∀ (N : Nat) (fs : List ah) (w : lD), w ∈ WY N fs → P fs w
 | 0, fs, w, h => by cases h
 | N + 1, fs, w, h => by
  obtain ⟨f, j, u, h1, h2, h3⟩ := yk h
  rw [Nat.zero_add] at h2
  rcases h3 with ⟨a, rfl⟩ | ⟨a, b⟩
  ·rw [h2]; exact hl fs f j h1 a
  ·rw [h2]; exact hc fs f j u h1 a (rV hl hc N _ u b)
theorem xB {N : Nat} {fs : List ah} {w : lD} (h : w ∈ WY N fs) : 1 ≤ w.length ∧ w.length ≤ bQ fs := by
 refine rV (P := fun fs w => 1 ≤ w.length ∧ w.length ≤ bQ fs) (fun fs f j hj hl => ?_) (fun fs f j u hj hl hu => ?_) N fs w h
 ·have h1 := cZ (List.mem_of_getElem? hj)
  have h2 := jb f
  simp; omega
 ·have h1 := cZ (List.mem_of_getElem? hj)
  have h2 := jb f
  simp only [List.length_cons]; omega
def kJ (p : bc) (f : ah) (i : Nat) : bc :=
 ⟨⟨p.leaf.path ++ [f.id], if mT f = true then f.type else p.leaf.type, p.leaf.df + (if f.need = true then 0 else 1) + (if f.type.kind = 6 then 1 else 0), p.leaf.rep + (if f.type.kind = 6 then 1 else 0)⟩, p.fields ++ [f], p.pos ++ [(i : Int)]⟩
def pa : bc → lD → bc
 | p, [] => p
 | p, (f, i) :: w => pa (kJ p f i) w
structure rA (p : bc) (n : Nat) : Prop where
 a : p.fields.length + n ≤ 1000000000
 b : p.pos.length + n ≤ 1000000000
 c : p.leaf.path.length + n ≤ 1000000000
 d : 0 ≤ p.leaf.df ∧ p.leaf.df + 2 * n ≤ 1000000000
 e : 0 ≤ p.leaf.rep ∧ p.leaf.rep + n ≤ 1000000000
theorem rA.step {p : bc} {n : Nat} (h : rA p (n + 1)) (f : ah) (i : Nat) : rA (kJ p f i) n := by
 have := h.d
 have := h.e
 refine ⟨by simp [kJ]; have := h.a; omega, by simp [kJ]; have := h.b; omega, by simp [kJ]; have := h.c; omega, ?_, ?_⟩
 ·simp only [kJ]; split <;> split <;> omega
 ·simp only [kJ]; split <;> omega
theorem rA.le {p : bc} {n m : Nat} (h : rA p n) (hm : m ≤ n) : rA p m :=
 ⟨by have := h.a; omega, by have := h.b; omega, by have := h.c; omega, by have := h.d; omega, by have := h.e; omega⟩
theorem rZ : ∀ (N k : Nat) (fs : List ah) (p : bc) (l : List bc), bQ fs < N → N ≤ k → rA p (bQ fs + 1) → l.length + bQ fs ≤ 2000000000 → ce k fs p l = some ((), l ++ (WY N fs).map (pa p))
 | 0, k, fs, p, l, h, _, _, _ => by omega
 | N + 1, k, fs, p, l, h, hk, hp, hl => by
  obtain ⟨k, rfl⟩ := bX (m := N) (f := k) (by omega)
  have hlen := dP fs
  have hpa := hp.a; have hpb := hp.b; have hpc := hp.c; have hpd := hp.d; have hpe := hp.e
  have key : ∀ (m f i : Nat) (l : List bc), i + m = fs.length → m < f → l.length + bQ (fs.drop i) ≤ 2000000000 →
    bP (ce k) fs p f l (i : Int) = some ((), l ++ (qx (WY N) (fs.drop i) i).map (pa p)) := by
   intro m
   induction m with
   | zero =>
    intro f i l hi hf hl
    obtain ⟨f, rfl⟩ := bX hf
    rw [bP, ig (by omega), bD, List.drop_of_length_le (by omega)]
    simp [qx]
   | succ m ih =>
    intro f i l hi hf hl
    obtain ⟨f, rfl⟩ := bX hf
    have h1 : i < fs.length := by omega
    have hsz := oC h1
    have hfd := jb fs[i]
    have hmem := cZ (List.getElem_mem h1)
    have hw1 : IntKind.i64.wrap (p.leaf.df + 1) = p.leaf.df + 1 := mW (by omega) (by omega)
    have hw2 : IntKind.i64.wrap (p.leaf.rep + 1) = p.leaf.rep + 1 := mW (by omega) (by omega)
    rw [bP, cU h1, cL, cg h1, aA]
    unfold cP ei
    rw [aA, bL (by omega), aA, bL (by omega), aA, bL (by omega), hw1, fy h1]
    simp only [qx]
    have j1 : ∀ z : Int, z = p.leaf.df + (if fs[i].need = true then 0 else 1) →
      eK (ce k) (bP (ce k) fs p f) p l (i : Int) fs[i] p.fields p.pos p.leaf.path z =
       some ((), l ++ (((if mT fs[i] = true then [[(fs[i], i)]] else (WY N fs[i].type.fields).map ((fs[i], i) :: ·)) ++ qx (WY N) (fs.drop (i + 1)) (i + 1)).map (pa p))) := by
     intro z hz
     have hz2 : IntKind.i64.wrap (z + 1) = z + 1 := by
      rw [hz]; split <;> rw [mW (by omega) (by omega)]
     have hroom := (hp.le (m := bQ fs[i].type.fields + 1 + 1) (by omega)).step fs[i] i
     have hwl := ul N fs[i].type.fields
     unfold eK eM
     by_cases h6 : fs[i].type.kind = 6
     ·have hlf : mT fs[i] = false := by unfold mT; simp [h6]
      have hq := rZ N k fs[i].type.fields (kJ p fs[i] i) l (by omega) (by omega) hroom (by omega)
      have he : (bc.mk (iu.mk (p.leaf.path ++ [fs[i].id]) p.leaf.type (z + 1) (p.leaf.rep + 1)) (p.fields ++ [fs[i]]) (p.pos ++ [(i : Int)])) = kJ p fs[i] i := by
       unfold kJ; rw [hlf, hz]; simp [h6]
      rw [show (fs[i].type.kind == 6) = true by simp [h6], cL, hz2, hw2, he, hq, aA, bt h1 (by omega)]
      simp only
      rw [ih f (i + 1) _ (by omega) (by omega) (by simp; omega), hlf, if_neg (by simp)]
      simp [List.map_append, Function.comp_def, pa]
     ·rw [show (fs[i].type.kind == 6) = false by simp [h6], bD]
      by_cases h7 : fs[i].type.kind = 7
      ·have hlf : mT fs[i] = false := by unfold mT; simp [h7]
       have hq := rZ N k fs[i].type.fields (kJ p fs[i] i) l (by omega) (by omega) hroom (by omega)
       have he : (bc.mk (iu.mk (p.leaf.path ++ [fs[i].id]) p.leaf.type z p.leaf.rep) (p.fields ++ [fs[i]]) (p.pos ++ [(i : Int)])) = kJ p fs[i] i := by
        unfold kJ; rw [hlf, hz]; simp [h7]
       rw [show (fs[i].type.kind == 7) = true by simp [h7], cL, he, hq, aA, bt h1 (by omega)]
       simp only
       rw [ih f (i + 1) _ (by omega) (by omega) (by simp; omega), hlf, if_neg (by simp)]
       simp [List.map_append, Function.comp_def, pa]
      ·have hlf : mT fs[i] = true := by unfold mT; simp [h6, h7]
       have he : (bc.mk (iu.mk (p.leaf.path ++ [fs[i].id]) fs[i].type z p.leaf.rep) (p.fields ++ [fs[i]]) (p.pos ++ [(i : Int)])) = kJ p fs[i] i := by
        unfold kJ; rw [hlf, hz]; simp [h6]
       rw [show (fs[i].type.kind == 7) = false by simp [h7], bD, bL (by omega), he, bt h1 (by omega), ih f (i + 1) _ (by omega) (by omega) (by simp; omega), hlf, if_pos rfl]
       simp [List.map_append, pa]
    cases hn : fs[i].need with
    | true => rw [Bool.not_true, bD]; exact j1 _ (by rw [hn]; simp)
    | false => rw [Bool.not_false, cL]; exact j1 _ (by rw [hn]; simp)
  have := key fs.length bf 0 l (by omega) (by rw [aQ]; omega) (by simp; omega)
  rw [ce]
  rw [show ((0 : Nat) : Int) = 0 from rfl, List.drop_zero] at this
  exact this
def p0 : bc := ⟨⟨[], ⟨0, 0, []⟩, 0, 0⟩, [], []⟩
theorem ue {fs : List ah} (hs : bQ fs ≤ 100000000) : gG fs = some ((WY (bQ fs + 1) fs).map (pa p0)) := by
 have := rZ (bQ fs + 1) bf fs p0 [] (by omega) (by rw [aQ]; omega) ⟨by simp [p0]; omega, by simp [p0]; omega, by simp [p0]; omega, by simp [p0]; omega, by simp [p0]; omega⟩ (by simp; omega)
 unfold gG
 rw [List.nil_append] at this
 unfold p0 at this
 rw [this]; rfl
def EL : lD → Prop
 | [] => False
 | [(f, i)] => mT f = true
 | (f, i) :: x :: w => mT f = false ∧ EL (x :: w)
theorem vQ {N : Nat} {fs : List ah} {w : lD} (h : w ∈ WY N fs) : EL w := by
 refine rV (P := fun fs w => EL w) (fun fs f j hj hl => hl) (fun fs f j u hj hl hu => ?_) N fs w h
 cases u with
 | nil => exact hu.elim
 | cons x u => exact ⟨hl, hu⟩
theorem vD (p : List Int) : d9 p = some p := by
 unfold d9
 rw [bL (by omega)]
 simp
def WS (fs : List ah) : List lD := WY (bQ fs + 1) fs
theorem Bb (fs : List ah) : (WS fs).length ≤ bQ fs := ul _ _
end Go.Proofs.YtmaemlebpjnmoaaGreatDoor
namespace Go.Proofs.YtmaemlebpjnmoaaGreatDoor
open Go Go.SX Go.SX.Cal
abbrev im := Int × Int × Option ac
def s8 (g : ac → Int → List im) (q : Int) : List ac → Int → List im
 | [], _ => []
 | e :: es, r => g e r ++ s8 g q es q
def ui : lD → Nat
 | [] => 0
 | (_, i) :: _ => i
def dn (f : ah) (d : Int) : Int := if f.need = true then d else d + 1
def ml : lD → ac → Int → Int → Int → List im
 | [] => fun _ _ _ _ => []
 | (f, i) :: u => fun v r d q =>
  if f.need = false ∧ v.kind = 0 then [(r, d, none)]
  else if f.type.kind = 6 then (if v.items.length = 0 then [(r, dn f d, none)] else s8 (fun e r => ml u e r (dn f d + 1) (q + 1)) (q + 1) v.items r)
  else if f.type.kind = 7 then ml u (iv v (ui u)) r (dn f d) q
  else [(r, dn f d, some v)]
def kT (c : ak) (E : List im) : ak := ⟨c.reps ++ E.map (·.1), c.defs ++ E.map (·.2.1), c.values ++ E.filterMap (·.2.2)⟩
theorem yg (c : ak) : kT c [] = c := by simp [kT]
theorem yf (c : ak) (E F : List im) : kT (kT c E) F = kT c (E ++ F) := by simp [kT]
def sw : lD → ac → Prop
 | [] => fun _ => True
 | (f, i) :: u => fun v => (f.need = false ∧ v.kind = 0) ∨ (f.type.kind = 6 ∧ ∀ e ∈ v.items, sw u e) ∨ (f.type.kind = 7 ∧ ui u < v.items.length ∧ sw u (iv v (ui u))) ∨ (f.type.kind ≠ 6 ∧ f.type.kind ≠ 7)
structure CR (c : ak) (n : Nat) : Prop where
 a : c.reps.length + n ≤ 4000000000
 b : c.defs.length + n ≤ 4000000000
 c : c.values.length + n ≤ 4000000000
theorem CR.le {c : ak} {n m : Nat} (h : CR c n) (hm : m ≤ n) : CR c m := ⟨by have := h.a; omega, by have := h.b; omega, by have := h.c; omega⟩
theorem CR.app {c : ak} {n : Nat} {E : List im} (h : CR c (E.length + n)) : CR (kT c E) n := by
 have h1 := h.a; have h2 := h.b; have h3 := h.c
 have h4 := List.length_filterMap_le (fun x : im => x.2.2) E
 refine ⟨?_, ?_, ?_⟩
 ·simp only [kT, List.length_append, List.length_map]; omega
 ·simp only [kT, List.length_append, List.length_map]; omega
 ·simp only [kT, List.length_append]; omega
theorem rd (v : ac) (l : List ac) : d8 (v :: l) = dm v + d8 l := by simp only [d8]
theorem o6 : ∀ (u : lD) (v : ac) (r d q : Int), sw u v → (ml u v r d q).length ≤ dm v
 | [], v, r, d, q, h => by simp [ml]
 | (f, i) :: u, v, r, d, q, h => by
  have hp := pV v
  have he := gx v
  simp only [ml]
  by_cases h0 : f.need = false ∧ v.kind = 0
  ·rw [if_pos h0]; simpa using hp
  ·rw [if_neg h0]
   by_cases h6 : f.type.kind = 6
   ·rw [if_pos h6]
    by_cases hl : v.items.length = 0
    ·rw [if_pos hl]; simpa using hp
    ·rw [if_neg hl]
     have hs : ∀ e ∈ v.items, sw u e := by
      rcases h with h | h | h | h
      ·exact absurd h h0
      ·exact h.2
      ·have := h.1; omega
      ·exact absurd h6 h.1
     have key : ∀ (l : List ac) (r : Int), (∀ e ∈ l, sw u e) → (s8 (fun e r => ml u e r (dn f d + 1) (q + 1)) (q + 1) l r).length ≤ d8 l := by
      intro l
      induction l with
      | nil => intro r _; simp [s8]
      | cons e l ih =>
       intro r hl
       have h1 := o6 u e r (dn f d + 1) (q + 1) (hl e (List.mem_cons_self ..))
       have h2 := ih (q + 1) (fun x hx => hl x (List.mem_cons_of_mem _ hx))
       rw [rd]
       simp only [s8, List.length_append]
       omega
     have := key v.items r hs
     omega
   ·rw [if_neg h6]
    by_cases h7 : f.type.kind = 7
    ·rw [if_pos h7]
     rcases h with h | h | h | h
     ·exact absurd h h0
     ·exact absurd h.1 h6
     ·have h1 := o6 u (iv v (ui u)) r (dn f d) q h.2.2
      have h2 := dq (kN h.2.1)
      omega
     ·exact absurd h7 h.2
    ·rw [if_neg h7]; simpa using hp
theorem qW {r d : Int} {P : bc} {c : ak} (h : CR c 1) : cV r d ⟨P, c⟩ = some ((), ⟨P, kT c [(r, d, none)]⟩) := by
 have h1 := h.a; have h2 := h.b
 unfold cV
 rw [bL (by show c.reps.length + 1 ≤ _; omega), bL (by show c.defs.length + 1 ≤ _; omega)]
 simp [kT]
structure o5 (P : bc) (k : Nat) (u : lD) : Prop where
 a : P.fields.drop k = u.map Prod.fst
 b : P.pos.drop k = u.map fun x => (x.2 : Int)
theorem o5.fld {P : bc} {k : Nat} {f : ah} {i : Nat} {u : lD} (h : o5 P k ((f, i) :: u)) : at? P.fields (k : Int) = some f := by
 apply eX
 have := congrArg (fun l : List ah => l[0]?) h.a
 simpa using this
theorem o5.ps {P : bc} {k : Nat} {f : ah} {i : Nat} {u : lD} (h : o5 P k ((f, i) :: u)) : at? P.pos (k : Int) = some (i : Int) := by
 apply eX
 have := congrArg (fun l : List Int => l[0]?) h.b
 simpa using this
theorem o5.tl {P : bc} {k : Nat} {x : ah × Nat} {u : lD} (h : o5 P k (x :: u)) : o5 P (k + 1) u := by
 constructor
 ·have := congrArg List.tail h.a
  simpa [List.tail_drop] using this
 ·have := congrArg List.tail h.b
  simpa [List.tail_drop] using this
theorem A5 : ∀ (u : lD) (k fu : Nat) (P : bc) (v : ac) (r d q : Int) (c : ak), o5 P k u → u.length ≤ fu → EL u → sw u v → k + u.length ≤ 100000000 →
  0 ≤ d → d + 2 * u.length ≤ 1000000000 → 0 ≤ q → q + u.length ≤ 1000000000 → CR c (dm v) → dm v < 1000000000 →
  aU fu v (k : Int) r d q ⟨P, c⟩ = some ((), ⟨P, kT c (ml u v r d q)⟩)
 | [], k, fu, P, v, r, d, q, c, ha, hfu, hel, hs, hk, hd0, hd1, hq0, hq1, hc, hv => hel.elim
 | (f, i) :: u, k, fu, P, v, r, d, q, c, ha, hfu, hel, hs, hk, hd0, hd1, hq0, hq1, hc, hv => by
  rw [List.length_cons] at hfu hk hd1 hq1
  obtain ⟨fu, rfl⟩ := bX (m := u.length) (f := fu) (by omega)
  have hp := pV v
  have he := gx v
  have hk1 : IntKind.i64.wrap ((k : Int) + 1) = ((k + 1 : Nat) : Int) := by rw [mW (by omega) (by omega)]; omega
  have hq2 : IntKind.i64.wrap (q + 1) = q + 1 := mW (by omega) (by omega)
  have j1 : ∀ x1 : Int, x1 = dn f d → ¬ (f.need = false ∧ v.kind = 0) →
    dr (aU fu) v (k : Int) r q ⟨P, c⟩ f x1 = some ((), ⟨P, kT c (ml ((f, i) :: u) v r d q)⟩) := by
   intro x1 hx1 h0
   have hx0 : 0 ≤ x1 ∧ x1 ≤ d + 1 := by rw [hx1]; unfold dn; split <;> omega
   have hx2 : IntKind.i64.wrap (x1 + 1) = x1 + 1 := mW (by omega) (by omega)
   unfold dr
   simp only [ml]
   rw [if_neg h0]
   by_cases h6 : f.type.kind = 6
   ·rw [show (f.type.kind == 6) = true by simp [h6], cL, if_pos h6]
    by_cases hl : v.items.length = 0
    ·rw [show ((v.items.length : Int) == 0) = true by simp [hl], cL, if_pos hl, qW (hc.le hp), aA, ← hx1]
    ·rw [show ((v.items.length : Int) == 0) = false by simp; intro h; rw [h] at hl; exact hl rfl, bD, if_neg hl, ← hx1]
     have hsi : ∀ e ∈ v.items, sw u e := by
      rcases hs with h | h | h | h
      ·exact absurd h h0
      ·exact h.2
      ·have := h.1; omega
      ·exact absurd h6 h.1
     have hel' : EL u := by
      cases u with
      | nil => unfold EL mT at hel; simp [h6] at hel
      | cons y u => exact hel.2
     have hlen := fI v.items
     have loop : ∀ (m f' i' : Nat) (c : ak) (r' : Int), i' + m = v.items.length → m < f' → CR c (d8 (v.items.drop i')) →
       bB (aU fu) v (k : Int) q x1 f' c.reps c.defs c.values P.leaf.path P.leaf.type.kind P.leaf.type.scale P.leaf.type.fields P.leaf.df P.leaf.rep P.fields P.pos r' (i' : Int) =
        some ((), ⟨P, kT c (s8 (fun e r => ml u e r (x1 + 1) (q + 1)) (q + 1) (v.items.drop i') (if i' = 0 then r' else q + 1))⟩) := by
      intro m
      induction m with
      | zero =>
       intro f' i' c r' hi hf hc
       obtain ⟨f', rfl⟩ := bX hf
       rw [bB, ig (by omega), bD, List.drop_of_length_le (by omega), Aq]
       simp only [s8, yg]
      | succ m ih =>
       intro f' i' c r' hi hf hc
       obtain ⟨f', rfl⟩ := bX hf
       have h1 : i' < v.items.length := by omega
       have hm := List.getElem_mem h1
       have hsz := dq hm
       have hd := fy h1
       have hcc : d8 (v.items.drop i') = dm v.items[i'] + d8 (v.items.drop (i' + 1)) := by rw [hd, rd]
       rw [hcc] at hc
       have j2 : ∀ x4 : Int, dx (aU fu) (bB (aU fu) v (k : Int) q x1 f') (k : Int) q x1 c.reps c.defs c.values P.leaf.path P.leaf.type.kind P.leaf.type.scale P.leaf.type.fields P.leaf.df P.leaf.rep P.fields P.pos (i' : Int) v.items[i'] x4 =
         some ((), ⟨P, kT c (s8 (fun e r => ml u e r (x1 + 1) (q + 1)) (q + 1) (v.items.drop i') x4)⟩) := by
        intro x4
        have hrec := A5 u (k + 1) fu P v.items[i'] x4 (x1 + 1) (q + 1) c ha.tl (by omega) hel' (hsi _ hm) (by omega) (by omega) (by omega) (by omega) (by omega) (hc.le (by omega)) (by omega)
        have hlen2 := o6 u v.items[i'] x4 (x1 + 1) (q + 1) (hsi _ hm)
        unfold dx
        rw [Aq, hk1, hx2, hq2]
        have hrec' : aU fu v.items[i'] ((k + 1 : Nat) : Int) x4 (x1 + 1) (q + 1) (bl.mk (bc.mk (iu.mk P.leaf.path P.leaf.type P.leaf.df P.leaf.rep) P.fields P.pos) (ak.mk c.reps c.defs c.values)) = _ := hrec
        rw [hrec', aA, bt h1 (by omega)]
        have := ih f' (i' + 1) (kT c (ml u v.items[i'] x4 (x1 + 1) (q + 1))) x4 (by omega) (by omega) (CR.app (hc.le (by omega)))
        rw [if_neg (by omega)] at this
        rw [hd]
        simp only [s8]
        rw [← yf]
        exact this
       rw [bB, cU h1, cL, cg h1, aA, hq2]
       by_cases hz : i' = 0
       ·rw [decide_eq_false (by omega), bD, if_pos hz]; exact j2 r'
       ·rw [decide_eq_true (by omega), cL, if_neg hz]; exact j2 (q + 1)
     have := loop v.items.length bf 0 c r (by omega) (by rw [aQ]; omega) (by rw [List.drop_zero]; exact hc.le (by omega))
     rw [show ((0 : Nat) : Int) = 0 from rfl, List.drop_zero, if_pos rfl] at this
     exact this
   ·rw [show (f.type.kind == 6) = false by simp [h6], bD, if_neg h6]
    by_cases h7 : f.type.kind = 7
    ·rw [show (f.type.kind == 7) = true by simp [h7], cL, if_pos h7]
     have hsi : ui u < v.items.length ∧ sw u (iv v (ui u)) := by
      rcases hs with h | h | h | h
      ·exact absurd h h0
      ·exact absurd h.1 h6
      ·exact h.2
      ·exact absurd h7 h.2
     cases u with
     | nil => unfold EL mT at hel; simp [h7] at hel
     | cons y u =>
      obtain ⟨g, j⟩ := y
      have hj : j < v.items.length := hsi.1
      have h2 := dq (kN hj)
      have hrec := A5 ((g, j) :: u) (k + 1) fu P (iv v j) r x1 q c ha.tl (by omega) hel.2 hsi.2 (by omega) (by omega) (by omega) (by omega) (by omega) (hc.le (by omega)) (by omega)
      rw [hk1, ha.tl.ps, aA, cg hj, aA, ma hj, hrec, aA, ← hx1]
      rfl
    ·rw [show (f.type.kind == 7) = false by simp [h7], bD, if_neg h7, qW (hc.le hp), aA, ← hx1]
     have h3 := hc.c
     have hv' : (kT c [(r, x1, none)]).values = c.values := by simp [kT]
     simp only [hv']
     rw [bL (by omega), cg (by simp), aA]
     simp [kT]
  rw [aU, ha.fld, aA]
  have hd2 : IntKind.i64.wrap (d + 1) = d + 1 := mW (by omega) (by omega)
  cases hn : f.need with
  | true =>
   rw [Bool.not_true, bD]
   exact j1 d (by unfold dn; rw [if_pos hn]) (by simp [hn])
  | false =>
   rw [Bool.not_false, cL, hd2]
   by_cases hk0 : v.kind = 0
   ·rw [show (v.kind == 0) = true by simp [hk0], cL, qW (hc.le hp), aA]
    simp only [ml]
    rw [if_pos ⟨hn, hk0⟩]
   ·rw [show (v.kind == 0) = false by simp [hk0], bD]
    exact j1 (d + 1) (by unfold dn; simp [hn]) (fun h => hk0 h.2)
end Go.Proofs.YtmaemlebpjnmoaaGreatDoor
namespace Go.Proofs.YtmaemlebpjnmoaaGreatDoor
open Go Go.SX Go.SX.Cal
theorem oS (a : Int) : el a a = some 0 := by
 unfold el
 rw [decide_eq_false (by omega), bD, bD]
theorem sW {p : Int} : ∀ (j k : Nat) (l : List Int) (x : Int), x.natAbs < 10 ^ j → j ≤ 18 → j < k → l.length + j ≤ 1000 → ∃ m, dg p k l x = some (gR.mk (decide (p < (0 : Int))) m) ∧ m.length ≤ 1000
 | 0, k, l, x, hx, _, hk, hl => by
  obtain ⟨k, rfl⟩ := bX hk
  have : x = 0 := by simp at hx; omega
  subst this
  rw [dg, bne_self_eq_false, bD]
  exact ⟨l, rfl, by omega⟩
 | j + 1, k, l, x, hx, hj, hk, hl => by
  obtain ⟨k, rfl⟩ := bX hk
  by_cases h0 : x = 0
  ·subst h0
   rw [dg, bne_self_eq_false, bD]
   exact ⟨l, rfl, by omega⟩
  ·have hp : (10 : Nat) ^ (j + 1) ≤ 1000000000000000000 := by
    have := Nat.pow_le_pow_right (n := 10) (by omega) (show j + 1 ≤ 18 by omega)
    exact Nat.le_trans this (by decide)
   have hd : (x.tdiv 10).natAbs = x.natAbs / 10 := by rw [Int.natAbs_tdiv]; rfl
   have hd2 : x.natAbs / 10 < 10 ^ j := by
    rw [Nat.pow_succ] at hx
    exact Nat.div_lt_of_lt_mul (by rw [Nat.mul_comm]; exact hx)
   have hw : IntKind.i64.wrap (x.tdiv 10) = x.tdiv 10 := mW (by omega) (by omega)
   rw [dg, show (x != 0) = true by simp [h0], cL]
   unfold iF
   rw [bL (by omega), bL (by omega), hw, ]
   have h1 := fun y : Int => sW (p := p) j k (l ++ [y]) (x.tdiv 10) (by omega) (by omega) (by omega) (by simp; omega)
   by_cases hn : x.tmod 10 < 0
   ·rw [decide_eq_true hn, cL]; exact h1 _
   ·rw [decide_eq_false hn, bD]; exact h1 _
theorem yx {l : List Int} (hl : l.length < 1000000000) : mn l l = some 0 := by
 have : ∀ (i f : Nat), i ≤ l.length → i < f → fO l l f ((i : Int) - 1) = some 0 := by
  intro i
  induction i with
  | zero => intro f hi hf; obtain ⟨f, rfl⟩ := bX hf; rw [fO, decide_eq_false (by omega), bD]; rfl
  | succ i ih =>
   intro f hi hf
   obtain ⟨f, rfl⟩ := bX hf
   have h1 : i < l.length := by omega
   rw [show ((i + 1 : Nat) : Int) - 1 = (i : Int) by omega, fO, decide_eq_true (by omega), cL, cg h1, aA, aA, bne_self_eq_false, bD, mW (x := (i : Int) - 1) (by omega) (by omega), ih f (by omega) (by omega)]
 unfold mn
 rw [bne_self_eq_false, bD, mW (x := (l.length : Int) - 1) (by omega) (by omega)]
 exact this l.length bf (by omega) (by rw [aQ]; omega)
theorem wM {r : gR} (hl : r.d.length < 1000000000) : gg r r = some 0 := by
 unfold gg
 rw [show (r.below == r.below) = true by simp, Bool.not_true, bD, yx hl, aA]
 cases r.below <;> rfl
theorem uE {v : ac} (hn : -999999999999999999 ≤ v.n ∧ v.n ≤ 999999999999999999) (hs : 0 ≤ v.scale ∧ v.scale ≤ 12) : ∃ r, jD v = some r ∧ r.d.length < 1000000000 := by
 obtain ⟨m, h1, h2⟩ := sW (p := v.n) 18 bf [] v.n (by omega) (by omega) (by rw [aQ]; omega) (by simp)
 unfold jD
 have h3 : l0 v.n = some (gR.mk (decide (v.n < (0 : Int))) m) := h1
 rw [h3, aA, mW (x := 12 - v.scale) (by omega) (by omega)]
 unfold n9
 by_cases h0 : m.length = 0
 ·rw [show (((gR.mk (decide (v.n < (0 : Int))) m).d.length : Int) == 0) = true by simp [h0], cL, aA]
  exact ⟨_, rfl, by show m.length < _; omega⟩
 ·rw [show (((gR.mk (decide (v.n < (0 : Int))) m).d.length : Int) == 0) = false by simp; intro h; rw [h] at h0; exact h0 rfl, bD, bL (by omega), bL (by rw [List.length_replicate]; show _ + m.length ≤ _; omega), aA]
  exact ⟨_, rfl, by show (List.replicate _ _ ++ m).length < _; rw [List.length_append, List.length_replicate]; omega⟩
theorem Al {v : ac} (hn : -999999999999999999 ≤ v.n ∧ v.n ≤ 999999999999999999) (hs : 0 ≤ v.scale ∧ v.scale ≤ 12) : i4 v v = some 0 := by
 obtain ⟨r, h1, h2⟩ := uE hn hs
 unfold i4
 rw [xP, aA, aA, show ((decide (0 ≤ v.scale) && decide (v.scale ≤ 12)) == (decide (0 ≤ v.scale) && decide (v.scale ≤ 12))) = true by simp, Bool.not_true, bD, decide_eq_true hs.1, decide_eq_true hs.2, Bool.and_self, cL, h1, aA, aA, wM h2, aA, bne_self_eq_false, bD, oS]
 rfl
theorem wv {s : ByteArray} (hs : s.size < 1000000000) : mL s s = some 0 := by
 have : ∀ (m f i : Nat), i + m = s.size → m < f → dU s s f (i : Int) = some 0 := by
  intro m
  induction m with
  | zero =>
   intro f i hi hf
   obtain ⟨f, rfl⟩ := bX hf
   rw [dU, ig (by omega), bD]
   unfold hO kv
   rw [bD, oS]; rfl
  | succ m ih =>
   intro f i hi hf
   obtain ⟨f, rfl⟩ := bX hf
   have h1 : i < s.size := by omega
   rw [dU, cU h1, cL]
   unfold hO
   rw [cL, bL (by omega), bL (by omega), aA, bne_self_eq_false, bD, bt h1 hs, ih f (i + 1) (by omega) (by omega)]
 exact this s.size bf 0 (by omega) (by rw [aQ]; omega)
def sH (v : ac) : Prop := eZ v = true ∧ v.kind ≠ 6 ∧ v.kind ≠ 7
theorem pL {v : ac} (h : eZ v = true) (hk : v.kind = 3) : (-999999999999999999 ≤ v.n ∧ v.n ≤ 999999999999999999) ∧ (0 ≤ v.scale ∧ v.scale ≤ 12) := by
 unfold eZ at h
 simp [hk] at h
 omega
theorem rb (q : ac → ac → Option Int) {v : ac} (hs : v.s.size < 1000000000) (hi : v.items.length ≤ 4000000000) (hq : ∀ x ∈ v.items, q x x = some 0) : fB q v v = some 0 := by
 have : ∀ (m f i : Nat), i + m = v.items.length → m < f → dj q v v f (i : Int) = some 0 := by
  intro m
  induction m with
  | zero =>
   intro f i hi hf
   obtain ⟨f, rfl⟩ := bX hf
   rw [dj, ig (by omega), bD]
   unfold fE jk
   rw [bD, oS]; rfl
  | succ m ih =>
   intro f i hi hf
   obtain ⟨f, rfl⟩ := bX hf
   have h1 : i < v.items.length := by omega
   rw [dj, cU h1, cL]
   unfold fE
   rw [cL, cg h1, aA, aA, hq _ (List.getElem_mem h1), aA, bne_self_eq_false, bD, mW (x := (i : Int) + 1) (by omega) (by omega), show (i : Int) + 1 = ((i + 1 : Nat) : Int) by omega, ih f (i + 1) (by omega) (by omega)]
 unfold fB gW
 rw [bne_self_eq_false, bD, bD, bne_self_eq_false, bD, wv hs, aA, bne_self_eq_false, bD]
 exact this v.items.length bf 0 (by omega) (by rw [aQ]; omega)
structure Cg (c : ak) : Prop where
 a : c.reps.length ≤ 4000000000
 b : c.defs.length ≤ 4000000000
 e : c.values.length ≤ 4000000000
 d : ∀ v ∈ c.values, sH v ∧ v.s.size < 1000000000
end Go.Proofs.YtmaemlebpjnmoaaGreatDoor
namespace Go.Proofs.YtmaemlebpjnmoaaGreatDoor
open Go Go.SX Go.SX.Cal
theorem rP : ∀ (l : List Int) (m : List (Int × Int)) (seen : List Int), Dx m seen → (scan l m).1 = 0 → l.Nodup ∧ ∀ x ∈ l, x ∉ seen
 | [], _, _, _, _ => ⟨List.nodup_nil, by simp⟩
 | x :: l, m, seen, h, h0 => by
  obtain ⟨h1, h2⟩ := Bq h x
  simp only [scan] at h0
  by_cases he : (yo x m).1 = 0
  ·rw [if_neg (fun k => k he)] at h0
   obtain ⟨h3, h4⟩ := rP l _ _ (h2 he) h0
   have hx : x ∉ seen := by
    intro hm
    rw [he, if_pos hm] at h1
    split at h1 <;> omega
   refine ⟨List.nodup_cons.2 ⟨fun hm => h4 x hm (by simp), h3⟩, fun y hy => ?_⟩
   rcases List.mem_cons.1 hy with rfl | hy
   ·exact hx
   ·exact fun hm => h4 y hy (by simp [hm])
  ·rw [if_pos he] at h0; exact absurd h0 he
def Uq (fs : List ah) : Prop := (gC fs).Nodup
theorem ur {fs : List ah} (hs : bQ fs < 1000000000 - 1) (h : sc fs = 0) : V ⟨7, 0, fs⟩ ∧ Uq fs := by
 obtain ⟨e, h1, h2, h3⟩ := kZ ⟨7, 0, fs⟩ (by simp only [gX]; omega)
 have hc := Cs hs
 rw [h] at hc
 unfold cX at hc
 rw [h1] at hc
 simp only [cf, bv] at hc
 by_cases he : e = 0
 ·have w := xx 1000000000 bf fs [] (by omega) (by rw [aQ]; omega) (by omega)
  simp [he, w, cf] at hc
  exact ⟨h3 he, (rP (gC fs) [] [] (fun x => by simp [il]) hc).1⟩
 ·simp [he] at hc
theorem ly (f : ah) (fs : List ah) : gC (f :: fs) = rH f ++ gC fs := by simp only [gC]
theorem wF : ∀ {fs : List ah} {g : ah}, g ∈ fs → g.id ∈ gC fs
 | [], g, h => by cases h
 | f :: fs, g, h => by
  rw [ly]
  rcases List.mem_cons.1 h with rfl | h
  ·exact List.mem_append_left _ (by rw [mq]; exact List.mem_cons_self ..)
  ·exact List.mem_append_right _ (wF h)
theorem Uq.sub : ∀ {fs : List ah} {f : ah}, Uq fs → f ∈ fs → Uq f.type.fields
 | [], f, _, h => by cases h
 | g :: fs, f, hu, h => by
  unfold Uq at hu
  rw [ly, List.nodup_append] at hu
  rcases List.mem_cons.1 h with rfl | h
  ·have := hu.1
   rw [mq] at this
   exact (List.nodup_cons.1 this).2
  ·exact Uq.sub (fs := fs) hu.2.1 h
theorem Uq.inj : ∀ {fs : List ah} {j j' : Nat} {g g' : ah}, Uq fs → fs[j]? = some g → fs[j']? = some g' → g'.id = g.id → j' = j
 | [], j, j', g, g', _, h, _, _ => by simp at h
 | f :: fs, 0, 0, g, g', _, _, _, _ => rfl
 | f :: fs, 0, j' + 1, g, g', hu, h, h', he => by
  unfold Uq at hu
  rw [ly, List.nodup_append] at hu
  simp at h h'
  subst h
  exact absurd he.symm (hu.2.2 _ (by rw [mq]; exact List.mem_cons_self ..) _ (wF (List.mem_of_getElem? h')))
 | f :: fs, j + 1, 0, g, g', hu, h, h', he => by
  unfold Uq at hu
  rw [ly, List.nodup_append] at hu
  simp at h h'
  subst h'
  exact absurd he (hu.2.2 _ (by rw [mq]; exact List.mem_cons_self ..) _ (wF (List.mem_of_getElem? h)))
 | f :: fs, j + 1, j' + 1, g, g', hu, h, h', he => by
  unfold Uq at hu
  rw [ly, List.nodup_append] at hu
  have := Uq.inj (fs := fs) (j := j) (j' := j') hu.2.1 (by simpa using h) (by simpa using h') he
  omega
def Hd (fs : List ah) (w : lD) : Prop := ∃ f i u, w = (f, i) :: u ∧ fs[i]? = some f
theorem Cv {N : Nat} {fs : List ah} {w : lD} (h : w ∈ WY N fs) : Hd fs w :=
 rV (P := Hd) (fun fs f j hj hl => ⟨f, j, [], rfl, hj⟩) (fun fs f j u hj hl hu => ⟨f, j, u, rfl, hj⟩) N fs w h
theorem tu {d : Nat} {t : aw} {v : ac} (h : qS (d + 1) t v = true) : v.kind = 0 ∨ v.kind = t.kind := by
 simp only [qS] at h
 by_cases h0 : v.kind = 0
 ·exact .inl h0
 ·rw [if_neg h0] at h
  by_cases h1 : v.kind = t.kind
  ·exact .inr h1
  ·rw [if_pos h1] at h; cases h
theorem AS {d : Nat} {t : aw} {v : ac} (h : qS (d + 1) t v = true) (hk : v.kind = t.kind) (h7 : t.kind = 7) : t.fields.length = v.items.length := by
 simp only [qS] at h
 rw [if_neg (by omega), if_neg (fun hh => hh hk), if_neg (by omega)] at h
 by_cases h1 : t.fields.length = v.items.length
 ·exact h1
 ·rw [if_pos ⟨by omega, h1⟩] at h; cases h
theorem xN {d : Nat} {t : aw} {v : ac} (h : jd (d + 1) t v = false) {i : Nat} (hi : i < v.items.length) : ¬ (nd t i = true ∧ (iv v i).kind = 0) ∧ jd d (ft t i) (iv v i) = false := by
 simp only [jd] at h
 have hn : first (fun i => ((iv v i).kind == 0 && nd t i) || jd d (ft t i) (iv v i)) 0 v.items.length = none := by
  cases hf : first (fun i => ((iv v i).kind == 0 && nd t i) || jd d (ft t i) (iv v i)) 0 v.items.length with
  | none => rfl
  | some x => rw [hf] at h; cases h
 have := lB.1 hn i (Nat.zero_le _) hi
 simp only [Bool.or_eq_false_iff] at this
 refine ⟨fun hh => ?_, this.2⟩
 have h1 := this.1
 rw [hh.1, hh.2] at h1
 cases h1
theorem xX {g : ac → Int → List im} {q : Int} : ∀ {l : List ac} {r : Int} {x : im}, x ∈ s8 g q l r → ∃ e ∈ l, ∃ r', x ∈ g e r'
 | [], r, x, h => by cases h
 | e :: l, r, x, h => by
  simp only [s8, List.mem_append] at h
  rcases h with h | h
  ·exact ⟨e, List.mem_cons_self .., r, h⟩
  ·obtain ⟨e', h1, h2⟩ := xX h
   exact ⟨e', List.mem_cons_of_mem _ h1, h2⟩
def Cy (n : Nat) (E : List im) : Prop := ∀ x ∈ E, ∀ y, x.2.2 = some y → sH y ∧ y.s.size < n
theorem Cy.le {n m : Nat} {E : List im} (h : Cy n E) (hm : n ≤ m) : Cy m E := fun x hx y hy => ⟨(h x hx y hy).1, Nat.lt_of_lt_of_le (h x hx y hy).2 hm⟩
structure yS (f : ah) (d : Nat) (v : ac) : Prop where
 s : xU d v
 o : qS d f.type v = true
 l : jd d f.type v = false
 n : ¬ (f.need = true ∧ v.kind = 0)
theorem CA (v : ac) : v.s.size < dm v := by have := gx v; omega
theorem xJ {N : Nat} {fs : List ah} {w : lD} (h : w ∈ WY N fs) (hV : ∀ f ∈ fs, V f.type) {f : ah} {i : Nat} {u : lD} (hw : w = (f, i) :: u) {d : Nat} {v : ac} (hc : yS f d v) : sw w v ∧ ∀ r p q, Cy (dm v) (ml w v r p q) := by
 have key := rV (P := fun fs w => Hd fs w ∧ ((∀ f ∈ fs, V f.type) → ∀ f i u, w = (f, i) :: u → ∀ d v, yS f d v → sw w v ∧ ∀ r p q, Cy (dm v) (ml w v r p q)))
  (fun fs f j hj hl => ⟨⟨f, j, [], rfl, hj⟩, fun hV f' i' u' he d v hc => by
   cases he
   have hl' : f.type.kind ≠ 6 ∧ f.type.kind ≠ 7 := by unfold mT at hl; exact of_decide_eq_true hl
   refine ⟨.inr (.inr (.inr hl')), fun r p q x hx y hy => ?_⟩
   simp only [ml] at hx
   by_cases h0 : f.need = false ∧ v.kind = 0
   ·rw [if_pos h0] at hx
    simp at hx; subst hx; cases hy
   ·rw [if_neg h0, if_neg hl'.1, if_neg hl'.2] at hx
    simp at hx; subst hx
    cases hy
    cases d with
    | zero => exact hc.s.zero.elim
    | succ d =>
     have hk := tu hc.o
     exact ⟨⟨hc.s.succ.1, by omega, by omega⟩, CA v⟩⟩)
  (fun fs f j u hj hl hu => ⟨⟨f, j, u, rfl, hj⟩, fun hV f' i' u' he d v hc => by
   cases he
   obtain ⟨⟨g, j', u', rfl, hg⟩, ih⟩ := hu
   have hf := List.mem_of_getElem? hj
   have hVf := hV f hf
   have ih := ih hVf.fs g j' u' rfl
   cases d with
   | zero => exact hc.s.zero.elim
   | succ d =>
    have hk := tu hc.o
    obtain ⟨hfit, hof⟩ := vW hc.s hVf hc.o
    have hsz := gx v
    have hit : ∀ i, i < v.items.length → f.type.fields[if f.type.kind = 6 then 0 else i]? = some g → yS g d (iv v i) := by
     intro i hi hgi
     have e1 : ft f.type i = g.type := by unfold ft; rw [hgi]; rfl
     have e2 : nd f.type i = g.need := by unfold nd; rw [hgi]; rfl
     have hla := xN hc.l hi
     rw [e1, e2] at hla
     exact ⟨hc.s.succ.2 _ (kN hi), by rw [← e1]; exact hof i hi, hla.2, hla.1⟩
    by_cases h0 : f.need = false ∧ v.kind = 0
    ·refine ⟨.inl h0, fun r p q x hx y hy => ?_⟩
     simp only [ml] at hx
     rw [if_pos h0] at hx
     simp at hx; subst hx; cases hy
    ·have hk0 : v.kind = f.type.kind := by
      rcases hk with h | h
      ·cases hn : f.need with
       | true => exact absurd ⟨hn, h⟩ hc.n
       | false => exact absurd ⟨hn, h⟩ h0
      ·exact h
     by_cases h6 : f.type.kind = 6
     ·have hlen := hVf.list h6
      have hj0 : j' = 0 := by
       rcases Nat.lt_or_ge j' f.type.fields.length with h | h
       ·omega
       ·rw [List.getElem?_eq_none h] at hg; cases hg
      subst hj0
      have hall : ∀ e ∈ v.items, sw ((g, 0) :: u') e ∧ ∀ r p q, Cy (dm e) (ml ((g, 0) :: u') e r p q) := by
       intro e he
       obtain ⟨i, hi, rfl⟩ := List.getElem_of_mem he
       rw [ma hi]
       exact ih d _ (hit i hi (by rw [if_pos h6]; exact hg))
      refine ⟨.inr (.inl ⟨h6, fun e he => (hall e he).1⟩), fun r p q x hx y hy => ?_⟩
      unfold ml at hx
      rw [if_neg h0, if_pos h6] at hx
      by_cases hl0 : v.items.length = 0
      ·rw [if_pos hl0] at hx
       simp at hx; subst hx; cases hy
      ·rw [if_neg hl0] at hx
       obtain ⟨e, he, r', hx⟩ := xX hx
       have h1 := dq he
       exact ((hall e he).2 _ _ _).le (by omega) x hx y hy
     ·have h7 : f.type.kind = 7 := by
       unfold mT at hl
       have := of_decide_eq_false hl
       omega
      have hlen := AS hc.o hk0 h7
      have hjl : j' < v.items.length := by
       rcases Nat.lt_or_ge j' f.type.fields.length with h | h
       ·omega
       ·rw [List.getElem?_eq_none h] at hg; cases hg
      obtain ⟨a, b⟩ := ih d _ (hit j' hjl (by rw [if_neg h6]; exact hg))
      refine ⟨.inr (.inr (.inl ⟨h7, hjl, a⟩)), fun r p q x hx y hy => ?_⟩
      unfold ml at hx
      rw [if_neg h0, if_neg h6, if_pos h7] at hx
      have h1 := dq (kN hjl)
      exact (b _ _ _).le (by omega) x hx y hy⟩) N fs w h
 exact key.2 hV f i u hw d v hc
theorem Cd {f : ah} {v : ac} (hv : dm v < 1000000000) (hT : gX f.type < 1000000000) (h : ck f.type v = 0) (hn : ¬ (f.need = true ∧ v.kind = 0)) : yS f 4 v := by
 obtain ⟨e, h1, h2, h3⟩ := kZ f.type hT
 have hc := Dh hv hT
 rw [h] at hc
 unfold gA at hc
 rw [h1, xd v hv] at hc
 simp only [bJ] at hc
 by_cases he : e = 0
 ·subst he
  have ht := h3 rfl
  cases hs : nn v with
  | false => rw [hs] at hc; cases hc
  | true =>
   have hS : xU 4 v := ⟨0, hs⟩
   obtain ⟨a, b⟩ := of_eq 4 bf bf f.type v hS ht hv hT (by rw [aQ]; omega) (by rw [aQ]; omega)
   rw [hs, a] at hc
   cases ho : qS 4 f.type v with
   | false => rw [ho] at hc; cases hc
   | true =>
    obtain ⟨c, d⟩ := yd 4 bf bf f.type v hS ht ho hv hT (by rw [aQ]; omega) (by rw [aQ]; omega)
    rw [ho, c] at hc
    cases hl : jd 4 f.type v with
    | false => exact ⟨hS, ho, hl, hn⟩
    | true => rw [hl] at hc; cases hc
 ·rw [show (e != (0 : Int)) = true by simp [he]] at hc
  cases hc; exact absurd rfl he
end Go.Proofs.YtmaemlebpjnmoaaGreatDoor
namespace Go.Proofs.YtmaemlebpjnmoaaGreatDoor
open Go Go.SX Go.SX.Cal
def rv (r : List ac) (i : Nat) : ac := r[i]?.getD ⟨0, 0, 0, ByteArray.empty, []⟩
theorem sU {r : List ac} {i : Nat} (h : i < r.length) : r[i] = rv r i := by simp [rv, h]
structure Dc (w : lD) (r : List ac) : Prop where
 a : ui w < r.length
 s : sw w (rv r (ui w))
 p : ∀ x p q, Cy (dm (rv r (ui w))) (ml w (rv r (ui w)) x p q)
 z : dm (rv r (ui w)) ≤ d8 r
 b : d8 r < 1000000000
def yw (rows : List (List ac)) : Nat := (rows.map d8).sum
def jP (w : lD) (rows : List (List ac)) : List im := rows.flatMap fun r => ml w (rv r (ui w)) 0 0 0
def c0 : ak := ⟨[], [], []⟩
theorem qY : ∀ (w : lD) (p : bc), (pa p w).fields = p.fields ++ w.map Prod.fst ∧ (pa p w).pos = p.pos ++ w.map fun x => (x.2 : Int)
 | [], p => by simp [pa]
 | (f, i) :: w, p => by
  obtain ⟨a, b⟩ := qY w (kJ p f i)
  simp only [pa]
  rw [a, b]
  simp [kJ]
theorem Cl (w : lD) : o5 (pa p0 w) 0 w := by
 obtain ⟨a, b⟩ := qY w p0
 exact ⟨by rw [a]; simp [p0], by rw [b]; simp [p0]⟩
theorem nD (p : List ac) : bp p = some p := by
 unfold bp
 rw [bL (by omega)]
 simp
theorem Bo (p : List ak) : bW p = some p := by
 unfold bW
 rw [bL (by omega)]
 simp
theorem oZ (r : List ac) (rows : List (List ac)) : yw (r :: rows) = d8 r + yw rows := by simp [yw]
theorem xv {w : lD} (hel : EL w) (hwl : w.length ≤ 2000000) {rows : List (List ac)} (hr : ∀ r ∈ rows, Dc w r) (hn : rows.length < 1000000000) (ht : yw rows ≤ 1000000000) : jW (pa p0 w) rows = some (kT c0 (jP w rows)) := by
 have hal := Cl w
 cases w with
 | nil => exact hel.elim
 | cons x u =>
 obtain ⟨g, j⟩ := x
 have loop : ∀ (m f i : Nat) (c : ak), i + m = rows.length → m < f → CR c (yw (rows.drop i)) →
   ec (pa p0 ((g, j) :: u)) rows f c.reps c.defs c.values (pa p0 ((g, j) :: u)).leaf.path (pa p0 ((g, j) :: u)).leaf.type.kind (pa p0 ((g, j) :: u)).leaf.type.scale (pa p0 ((g, j) :: u)).leaf.type.fields (pa p0 ((g, j) :: u)).leaf.df (pa p0 ((g, j) :: u)).leaf.rep (pa p0 ((g, j) :: u)).fields (pa p0 ((g, j) :: u)).pos (i : Int) =
    some (kT c (jP ((g, j) :: u) (rows.drop i))) := by
  generalize hP : pa p0 ((g, j) :: u) = P
  rw [hP] at hal
  intro m
  induction m with
  | zero =>
   intro f i c hi hf hc
   obtain ⟨f, rfl⟩ := bX hf
   rw [ec, ig (by omega), bD, List.drop_of_length_le (by omega)]
   unfold js
   rw [vD, aA, vD, aA, nD, aA]
   simp only [jP, List.flatMap_nil, yg]
  | succ m ih =>
   intro f i c hi hf hc
   obtain ⟨f, rfl⟩ := bX hf
   have h1 : i < rows.length := by omega
   have hrw := hr _ (List.getElem_mem h1)
   have hja : j < rows[i].length := hrw.a
   have hz : dm (rv rows[i] j) ≤ d8 rows[i] := hrw.z
   have hb := hrw.b
   have hd := fy h1
   rw [hd, oZ] at hc
   have hput := A5 ((g, j) :: u) 0 bf P (rv rows[i] j) 0 0 0 c hal (by rw [aQ]; omega) hel hrw.s (by omega) (by omega) (by omega) (by omega) (by omega) (hc.le (by omega)) (by omega)
   have hlen := o6 ((g, j) :: u) (rv rows[i] j) 0 0 0 hrw.s
   rw [ec, cU h1, cL, cg h1, aA, show at? P.pos (0 : Int) = some (j : Int) from hal.ps, aA, cg hja, aA, sU hja, Aq]
   have hput' : aU bf (rv rows[i] j) (0 : Int) (0 : Int) (0 : Int) (0 : Int) (bl.mk (bc.mk (iu.mk P.leaf.path P.leaf.type P.leaf.df P.leaf.rep) P.fields P.pos) (ak.mk c.reps c.defs c.values)) = _ := hput
   rw [hput', aA, bt h1 hn, hd]
   have := ih f (i + 1) (kT c (ml ((g, j) :: u) (rv rows[i] j) 0 0 0)) (by omega) (by omega) (CR.app (hc.le (by have : dm (rv rows[i] (ui ((g, j) :: u))) = dm (rv rows[i] j) := rfl; omega)))
   rw [yf] at this
   simp only [jP, List.flatMap_cons]
   exact this
 have := loop rows.length bf 0 c0 (by omega) (by rw [aQ]; omega) ⟨by rw [List.drop_zero]; show 0 + _ ≤ _; omega, by rw [List.drop_zero]; show 0 + _ ≤ _; omega, by rw [List.drop_zero]; show 0 + _ ≤ _; omega⟩
 rw [show ((0 : Nat) : Int) = 0 from rfl, List.drop_zero] at this
 exact this
theorem zK {W : List lD} (hW : ∀ w ∈ W, EL w ∧ w.length ≤ 2000000) (hWn : W.length < 1000000000) {rows : List (List ac)} (hr : ∀ w ∈ W, ∀ r ∈ rows, Dc w r) (hn : rows.length < 1000000000) (ht : yw rows ≤ 1000000000) : ∀ (m f i : Nat) (l : List ak), i + m = W.length → m < f → l.length = i →
  ef rows (W.map (pa p0)) f l (i : Int) = some (l ++ (W.drop i).map (fun w => kT c0 (jP w rows)), 0) := by
 intro m
 induction m with
 | zero =>
  intro f i l hi hf hl
  obtain ⟨f, rfl⟩ := bX hf
  rw [ef, ig (by rw [List.length_map]; omega), bD, List.drop_of_length_le (by omega)]
  unfold jm
  rw [Bo, aA]
  simp
 | succ m ih =>
  intro f i l hi hf hl
  obtain ⟨f, rfl⟩ := bX hf
  have h1 : i < W.length := by omega
  have h2 : i < (W.map (pa p0)).length := by rw [List.length_map]; exact h1
  have hm := List.getElem_mem h1
  rw [ef, cU h2, cL, cg h2, aA, List.getElem_map, xv (hW _ hm).1 (hW _ hm).2 (hr _ hm) hn ht, aA, bL (by omega), bt h1 hWn, ih f (i + 1) _ (by omega) (by omega) (by simp; omega), fy h1]
  simp only [List.map_cons, List.append_assoc, List.singleton_append]
structure Ax (fs : List ah) (rows : List (List ac)) : Prop where
 f : bQ fs ≤ 2000000
 t : yw rows ≤ 100000000
 n : rows.length < 100000000
theorem mI : ∀ {rows : List (List ac)} {r : List ac}, r ∈ rows → d8 r ≤ yw rows
 | [], r, h => by cases h
 | x :: rows, r, h => by
  rw [oZ]
  rcases List.mem_cons.1 h with rfl | h
  ·omega
  ·have := mI h; omega
theorem yj {fs : List ah} {rows : List (List ac)} (h : Ax fs rows) (h0 : sc fs = 0) (hr : nK fs rows = 0) : ∀ w ∈ WS fs, ∀ r ∈ rows, Dc w r ∧ r.length = fs.length := by
 intro w hw r hm
 have hf := h.f
 have ht := h.t
 obtain ⟨hV, hu⟩ := ur (by omega) h0
 obtain ⟨hl, hrow⟩ := rz hr r hm
 obtain ⟨f, i, u, rfl, hfi⟩ := Cv hw
 have hsr := mI hm
 have hi : i < fs.length := by
  rcases Nat.lt_or_ge i fs.length with h | h
  ·exact h
  ·rw [List.getElem?_eq_none h] at hfi; cases hfi
 have hir : i < r.length := by omega
 have hri : r[i]? = some (rv r i) := by rw [List.getElem?_eq_getElem hir, sU hir]
 obtain ⟨hc, hn⟩ := tR hrow i f _ hfi hri
 have hz : dm (rv r i) ≤ d8 r := dq (List.mem_of_getElem? hri)
 have hfm := cZ (List.mem_of_getElem? hfi)
 have hfe := dv f
 obtain ⟨a, b⟩ := xJ hw (fun f hf => hV.fs f hf) rfl (Cd (by omega) (by omega) hc hn)
 exact ⟨⟨hir, a, b, hz, by omega⟩, hl⟩
def iq (fs : List ah) (rows : List (List ac)) : List ak := (WS fs).map fun w => kT c0 (jP w rows)
noncomputable def DG (fs : List ah) (rows : List (List ac)) : List ak × Int := if yA fs rows ≠ 0 then ([], yA fs rows) else (iq fs rows, 0)
theorem u5 {fs : List ah} {rows : List (List ac)} (h : yA fs rows = 0) : sc fs = 0 ∧ nK fs rows = 0 := by
 unfold yA at h
 by_cases h0 : sc fs = 0
 ·rw [if_neg (fun k => k h0)] at h
  by_cases h1 : 2000 < rows.length
  ·rw [if_pos h1] at h; cases h
  ·rw [if_neg h1] at h; exact ⟨h0, h⟩
 ·rw [if_pos h0] at h; exact absurd h h0
theorem pX {fs : List ah} {rows : List (List ac)} (h : Ax fs rows) : ∀ r ∈ rows, d8 r < 1000000000 := fun r hr => by
 have := mI hr
 have := h.t
 omega
theorem BL {fs : List ah} {rows : List (List ac)} (h : Ax fs rows) : iK fs rows = some (DG fs rows) := by
 have hf := h.f; have ht := h.t; have hn := h.n
 have hw := Bb fs
 unfold iK DG
 rw [qC (by omega) (pX h) (by omega), aA]
 by_cases h0 : yA fs rows = 0
 ·obtain ⟨h1, h2⟩ := u5 h0
  have hro := yj h h1 h2
  have := zK (W := WS fs) (fun w hw => ⟨vQ hw, by have := (xB hw).2; omega⟩) (by omega) (fun w hw r hr => (hro w hw r hr).1) (by omega) (by omega) (WS fs).length bf 0 [] (by omega) (by rw [aQ]; omega) rfl
  rw [show ((0 : Nat) : Int) = 0 from rfl, List.drop_zero, List.nil_append] at this
  rw [h0, show ((0 : Int) != 0) = false from rfl, bD, if_neg (fun h => h rfl), ue (by omega), aA]
  exact this
 ·rw [show (yA fs rows != 0) = true by simp [h0], cL, if_pos h0]
theorem pU {w : lD} : ∀ {rows : List (List ac)}, (∀ r ∈ rows, Dc w r) → (jP w rows).length ≤ yw rows
 | [], _ => by simp [jP, yw]
 | r :: rows, h => by
  have h1 := pU (w := w) (rows := rows) (fun x hx => h x (List.mem_cons_of_mem _ hx))
  have h2 := h r (List.mem_cons_self ..)
  have h3 := o6 w (rv r (ui w)) 0 0 0 h2.s
  have h4 := h2.z
  rw [oZ]
  simp only [jP, List.flatMap_cons, List.length_append] at h1 ⊢
  omega
theorem CZ {w : lD} {rows : List (List ac)} (h : ∀ r ∈ rows, Dc w r) (ht : yw rows ≤ 1000000000) : Cg (kT c0 (jP w rows)) := by
 have h1 := pU h
 have h2 := List.length_filterMap_le (fun x : im => x.2.2) (jP w rows)
 refine ⟨?_, ?_, ?_, fun v hv => ?_⟩
 ·simp only [kT, c0, List.length_append, List.length_map, List.length_nil]; omega
 ·simp only [kT, c0, List.length_append, List.length_map, List.length_nil]; omega
 ·simp only [kT, c0, List.length_append, List.length_nil]; omega
 ·simp only [kT, c0, List.nil_append] at hv
  obtain ⟨x, hx, hy⟩ := List.mem_filterMap.1 hv
  obtain ⟨r, hr, hx⟩ := List.mem_flatMap.1 hx
  have hp := (h r hr).p 0 0 0 x hx v hy
  have hz := (h r hr).z
  have hb := (h r hr).b
  exact ⟨hp.1, by have := hp.2; omega⟩
theorem uM : mb = some true := by decide +kernel
end Go.Proofs.YtmaemlebpjnmoaaGreatDoor
namespace Go.Proofs.YtmaemlebpjnmoaaGreatDoor
open Go Go.SX Go.SX.Cal
def bM (N : Nat) (f : ah) (i : Nat) : List lD := if mT f = true then [[(f, i)]] else (WY N f.type.fields).map ((f, i) :: ·)
theorem mw (N : Nat) (f : ah) (fs : List ah) (i : Nat) : qx (WY N) (f :: fs) i = bM N f i ++ qx (WY N) fs (i + 1) := rfl
theorem V.vf0 {t : aw} (h : V t) : vf t = 0 := by
 have := h.sh
 unfold shp at this
 split at this
 ·cases this
 ·split at this
  ·cases this
  ·exact this
theorem V.nofields {f : ah} (h : V f.type) (hl : mT f = true) : f.type.fields.length = 0 := by
 have hv := h.vf0
 unfold mT at hl
 have hl := of_decide_eq_true hl
 unfold vf at hv
 rw [if_neg hl.1, if_pos hl.2] at hv
 split at hv
 ·cases hv
 ·omega
theorem V.fields {f : ah} (h : V f.type) (hl : mT f = false) : f.type.fields.length ≠ 0 := by
 have hv := h.vf0
 unfold mT at hl
 have hl := of_decide_eq_false hl
 by_cases h6 : f.type.kind = 6
 ·have := h.list h6; omega
 ·have h7 : f.type.kind = 7 := by omega
  unfold vf at hv
  rw [if_neg h6, if_neg (by omega)] at hv
  intro h0
  rw [if_pos h0] at hv; cases hv
theorem nL : ∀ (N k : Nat) (f : ah) (i : Nat), V f.type → gX f.type ≤ N → N < k → gX f.type ≤ 100000000 → dk k f.type = some ((bM N f i).length : Int)
 | 0, k, f, i, hV, h, hk, hs => by have := ga f.type; omega
 | N + 1, k, f, i, hV, h, hk, hs => by
  obtain ⟨k, rfl⟩ := bX (m := N + 1) (f := k) hk
  have he := ga f.type
  have hlen := dP f.type.fields
  unfold bM
  cases hl : mT f with
  | true =>
   have h0 := hV.nofields hl
   rw [dk, show ((f.type.fields.length : Int) == 0) = true by simp [h0], cL, if_pos rfl]; rfl
  | false =>
   have h0 := hV.fields hl
   have loop : ∀ (m g j : Nat) (x : Nat), j + m = f.type.fields.length → m < g → x + bQ (f.type.fields.drop j) ≤ 1000000000 → dN (dk k) f.type g (x : Int) (j : Int) = some ((x + (qx (WY N) (f.type.fields.drop j) j).length : Nat) : Int) := by
    intro m
    induction m with
    | zero =>
     intro g j x hi hg hx
     obtain ⟨g, rfl⟩ := bX hg
     rw [dN, ig (by omega), bD, List.drop_of_length_le (by omega)]
     simp [qx, iH]
    | succ m ih =>
     intro g j x hi hg hx
     obtain ⟨g, rfl⟩ := bX hg
     have h1 : j < f.type.fields.length := by omega
     have hm := List.getElem_mem h1
     have hsz := oC h1
     have hfd := dv f.type.fields[j]
     have hmm := cZ hm
     have hrec := nL N k f.type.fields[j] j (hV.fs _ hm) (by omega) (by omega) (by omega)
     have hwl : (bM N f.type.fields[j] j).length ≤ jN f.type.fields[j] := by
      unfold bM
      have := ul N f.type.fields[j].type.fields
      have := jb f.type.fields[j]
      split
      ·simp; omega
      ·rw [List.length_map]; omega
     rw [dN, cU h1, cL, cg h1, aA, hrec, aA, mW (x := (x : Int) + ((bM N f.type.fields[j] j).length : Int)) (by omega) (by omega), bt h1 (by omega), show (x : Int) + ((bM N f.type.fields[j] j).length : Int) = ((x + (bM N f.type.fields[j] j).length : Nat) : Int) by omega, ih g (j + 1) _ (by omega) (by omega) (by omega), fy h1, mw, List.length_append]
     first | done | (congr 1; omega)
   have := loop f.type.fields.length bf 0 0 (by omega) (by rw [aQ]; omega) (by rw [List.drop_zero]; omega)
   rw [List.drop_zero, Nat.zero_add] at this
   rw [dk, show ((f.type.fields.length : Int) == 0) = false by simp; intro h; rw [h] at h0; exact h0 rfl, bD, if_neg (by simp), List.length_map]
   exact this
end Go.Proofs.YtmaemlebpjnmoaaGreatDoor
namespace Go.Proofs.YtmaemlebpjnmoaaGreatDoor
open Go Go.SX Go.SX.Cal
abbrev oG (E : List im) : List ac := E.filterMap (·.2.2)
structure At (Ls : List (List im)) (R : Nat → List im) (P U : List Int) : Prop where
 p : P.length = Ls.length
 u : U.length = Ls.length
 h : ∀ k L, Ls[k]? = some L → ∃ D, L = D ++ R k ∧ P[k]? = some (D.length : Int) ∧ U[k]? = some ((oG D).length : Int)
def jA (Ls : List (List im)) : List ak := Ls.map (kT c0)
def Db (Ls : List (List im)) : Prop := ∀ L ∈ Ls, L.length < 1000000000
theorem qP {Ls : List (List im)} {k : Nat} {L : List im} (h : Ls[k]? = some L) : at? (jA Ls) (k : Int) = some (kT c0 L) := by
 apply eX
 unfold jA
 rw [List.getElem?_map, h]; rfl
theorem pG (L : List im) : (kT c0 L).reps.length = L.length := by simp [kT, c0]
theorem AD (L : List im) : (kT c0 L).defs.length = L.length := by simp [kT, c0]
theorem xC (L : List im) : (kT c0 L).values = oG L := by simp [kT, c0]
theorem Cp {D T : List im} {x : im} : at? (kT c0 (D ++ x :: T)).reps (D.length : Int) = some x.1 := by
 apply eX; simp [kT, c0]
theorem CL {D T : List im} {x : im} : at? (kT c0 (D ++ x :: T)).defs (D.length : Int) = some x.2.1 := by
 apply eX; simp [kT, c0]
theorem rh {Ls : List (List im)} {R : Nat → List im} {P U : List Int} (h : At Ls R P U) {k : Nat} {L : List im} (hk : Ls[k]? = some L) {x : im} {T : List im} (hx : R k = x :: T) :
  da (k : Int) (jA Ls) false P U = some (x.2.1, jA Ls, false, P, U) := by
 obtain ⟨D, hD, hP, hU⟩ := h.h k L hk
 rw [hx] at hD
 subst hD
 unfold da dK
 rw [qP hk, aA, eX hP, aA, aA, pG, AD, decide_eq_true (by rw [List.length_append, List.length_cons]; omega), cL, cL, CL, aA]
def tk (R : Nat → List im) (a n : Nat) : Nat → List im := fun k => if a ≤ k ∧ k < a + n then (R k).tail else R k
theorem BE {Ls : List (List im)} (hf : Db Ls) {R : Nat → List im} {a n : Nat} (hn : a + n ≤ Ls.length) (hL : Ls.length < 1000000000) (hR : ∀ k, a ≤ k → k < a + n → ∃ x T, R k = x :: T ∧ x.2.2 = none) :
  ∀ (p5 p6 : List Int), p5.length = Ls.length → p6.length = Ls.length → ∀ (m f i : Nat) (P : List Int) (U : List Int), a ≤ i → i + m = a + n → m < f → At Ls (tk R a (i - a)) P U →
   ∃ P', bA (a : Int) (n : Int) p5 p6 f P U (jA Ls) false (i : Int) = some ((), jA Ls, false, P', U) ∧ At Ls (tk R a n) P' U := by
 have hw : IntKind.i64.wrap ((a : Int) + (n : Int)) = ((a + n : Nat) : Int) := by rw [mW (by omega) (by omega)]; omega
 intro p5 p6 h5 h6 m
 induction m with
 | zero =>
  intro f i P U hai hi hf h
  obtain ⟨f, rfl⟩ := bX hf
  rw [bA, hw, ig (by omega), bD, bL (by rw [h.p, h5]), bL (by rw [h.u, h6])]
  exact ⟨P, rfl, by rw [show i - a = n by omega] at h; exact h⟩
 | succ m ih =>
  intro f i P U hai hi hf' h
  obtain ⟨f, rfl⟩ := bX hf'
  have h1 : i < Ls.length := by omega
  have hk : Ls[i]? = some Ls[i] := List.getElem?_eq_getElem h1
  obtain ⟨x, T, hx, hn0⟩ := hR i hai (by omega)
  have hRi : tk R a (i - a) i = x :: T := by unfold tk; rw [if_neg (by omega), hx]
  obtain ⟨D, hD, hP, hU⟩ := h.h i _ hk
  rw [hRi] at hD
  have hlen : D.length < 1000000000 := by
   have := hf _ (List.getElem_mem h1)
   rw [hD] at this; simp at this; omega
  rw [bA, hw, cU (by omega), cL, rh h hk hRi, aA]
  simp only
  rw [bL trivial, bL trivial, eX hP, aA, mW (x := (D.length : Int) + 1) (by omega) (by omega), mW (x := (i : Int) + 1) (by omega) (by omega), show (i : Int) + 1 = ((i + 1 : Nat) : Int) by omega, show ((i : Int)).toNat = i by omega]
  refine ih f (i + 1) _ U (by omega) (by omega) (by omega) ⟨by rw [List.length_set]; exact h.p, h.u, fun k L hkL => ?_⟩
  by_cases hki : k = i
  ·subst hki
   rw [hk] at hkL
   obtain rfl := Option.some.inj hkL
   refine ⟨D ++ [x], ?_, ?_, ?_⟩
   ·rw [hD]; unfold tk; rw [if_pos (by omega), hx]; simp
   ·rw [List.getElem?_set_self (by rw [h.p]; exact h1)]; simp
   ·rw [hU]; simp [hn0]
  ·obtain ⟨D', h2, h3, h4⟩ := h.h k L hkL
   refine ⟨D', ?_, ?_, h4⟩
   ·rw [h2]; congr 1
    unfold tk
    by_cases hc : a ≤ k ∧ k < a + (i - a)
    ·rw [if_pos hc, if_pos (by omega)]
    ·rw [if_neg hc, if_neg (by omega)]
   ·rw [List.getElem?_set_ne (by omega)]; exact h3
end Go.Proofs.YtmaemlebpjnmoaaGreatDoor
namespace Go.Proofs.YtmaemlebpjnmoaaGreatDoor
open Go Go.SX Go.SX.Cal
theorem BV (R : Nat → List im) (a : Nat) : tk R a 0 = R := by
 funext k; unfold tk; rw [if_neg (by omega)]
theorem BZ {Ls : List (List im)} (hf : Db Ls) {R : Nat → List im} {a n : Nat} (hn : a + n ≤ Ls.length) (hL : Ls.length < 1000000000) (hR : ∀ k, a ≤ k → k < a + n → ∃ x T, R k = x :: T ∧ x.2.2 = none) {P U : List Int} (h : At Ls R P U) :
  ∃ P', bK (a : Int) (n : Int) (jA Ls) false P U = some ((), jA Ls, false, P', U) ∧ At Ls (tk R a n) P' U := by
 unfold bK
 exact BE hf hn hL hR P U h.p h.u n bf a P U (Nat.le_refl _) rfl (by rw [aQ]; omega) (by rw [Nat.sub_self, BV]; exact h)
theorem yv {v : ac} (h : v.items = []) : iE bf v = some v := by
 obtain ⟨k, n, s, t, l⟩ := v
 simp only at h
 subst h
 have hb : bf = 1152921504606846975 + 1 := rfl
 rw [hb, iE, hb, hJ]
 show aI (decide ((0 : Int) < 0)) _ _ = _
 rw [show decide ((0 : Int) < 0) = false from rfl, bD]
 unfold ky
 rw [nD, aA]
theorem yJ {Ls : List (List im)} (hf : Db Ls) (hL : Ls.length < 1000000000) {R T : Nat → List im} {a : Nat} (ha : a < Ls.length) {r d : Int} {v : ac} (hR : R a = (r, d, some v) :: T a) (hT : ∀ k, k ≠ a → R k = T k) {P U : List Int} (h : At Ls R P U) :
  ∃ (D : List im) (L : List im), Ls[a]? = some L ∧ L = D ++ (r, d, some v) :: T a ∧ bK (a : Int) 1 (jA Ls) false P U = some ((), jA Ls, false, P.set a ((D.length : Int) + 1), U) ∧ at? U (a : Int) = some ((oG D).length : Int) ∧
   at? (kT c0 L).values ((oG D).length : Int) = some v ∧ (oG D).length < (kT c0 L).values.length ∧ (oG D).length < 1000000000 ∧ At Ls T (P.set a ((D.length : Int) + 1)) (U.set a (((oG D).length : Int) + 1)) := by
 have hk : Ls[a]? = some Ls[a] := List.getElem?_eq_getElem ha
 obtain ⟨D, hD, hP, hU⟩ := h.h a _ hk
 rw [hR] at hD
 have hlen : D.length < 1000000000 := by
  have := hf _ (List.getElem_mem ha)
  rw [hD] at this; simp at this; omega
 have hvl : (oG D).length ≤ D.length := List.length_filterMap_le (fun x : im => x.2.2) D
 have hvals : oG Ls[a] = oG D ++ v :: oG (T a) := by rw [hD]; simp [oG]
 refine ⟨D, _, hk, hD, ?_, eX hU, ?_, ?_, by omega, ?_⟩
 ·have hw : IntKind.i64.wrap ((a : Int) + 1) = ((a + 1 : Nat) : Int) := by rw [mW (by omega) (by omega)]; omega
  have hb : bf = 1152921504606846974 + 1 + 1 := rfl
  unfold bK
  rw [hb, bA, hw, decide_eq_true (by omega), cL, rh h hk hR, aA]
  simp only
  rw [bL trivial, bL trivial, eX hP, aA, mW (x := (D.length : Int) + 1) (by omega) (by omega), bA, hw, decide_eq_false (by omega), bD, show ((a : Int)).toNat = a by omega, bL (by simp), bL rfl]
 ·rw [xC, hvals]; apply eX; simp
 ·rw [xC, hvals]; simp
 ·refine ⟨by rw [List.length_set]; exact h.p, by rw [List.length_set]; exact h.u, fun k L hkL => ?_⟩
  by_cases hka : k = a
  ·subst hka
   rw [hk] at hkL
   obtain rfl := Option.some.inj hkL
   refine ⟨D ++ [(r, d, some v)], by rw [hD]; simp, ?_, ?_⟩
   ·rw [List.getElem?_set_self (by rw [h.p]; exact ha)]; simp
   ·rw [List.getElem?_set_self (by rw [h.u]; exact ha)]; simp [oG]
  ·obtain ⟨D', h2, h3, h4⟩ := h.h k L hkL
   refine ⟨D', by rw [h2, hT k hka], ?_, ?_⟩
   ·rw [List.getElem?_set_ne (fun h => hka h.symm)]; exact h3
   ·rw [List.getElem?_set_ne (fun h => hka h.symm)]; exact h4
theorem kC : ∀ (u : lD) (v : ac) (r d q : Int), EL u → sw u v → ∃ d1 x t, ml u v r d q = (r, d1, x) :: t ∧ d ≤ d1
 | [], v, r, d, q, he, _ => he.elim
 | (f, i) :: u, v, r, d, q, he, hs => by
  have hdn : d ≤ dn f d := by unfold dn; split <;> omega
  simp only [ml]
  by_cases h0 : f.need = false ∧ v.kind = 0
  ·rw [if_pos h0]; exact ⟨d, none, [], rfl, Int.le_refl _⟩
  ·rw [if_neg h0]
   by_cases h6 : f.type.kind = 6
   ·rw [if_pos h6]
    by_cases hl : v.items.length = 0
    ·rw [if_pos hl]; exact ⟨_, none, [], rfl, hdn⟩
    ·rw [if_neg hl]
     have hsi : ∀ e ∈ v.items, sw u e := by
      rcases hs with h | h | h | h
      ·exact absurd h h0
      ·exact h.2
      ·have := h.1; omega
      ·exact absurd h6 h.1
     have hel : EL u := by
      cases u with
      | nil => unfold EL mT at he; simp [h6] at he
      | cons y u => exact he.2
     cases hv : v.items with
     | nil => rw [hv] at hl; exact absurd rfl hl
     | cons e es =>
      obtain ⟨d1, x, t, h1, h2⟩ := kC u e r (dn f d + 1) (q + 1) hel (hsi e (by rw [hv]; exact List.mem_cons_self ..))
      simp only [s8, h1, List.cons_append]
      exact ⟨d1, x, _, rfl, by omega⟩
   ·rw [if_neg h6]
    by_cases h7 : f.type.kind = 7
    ·rw [if_pos h7]
     have hsi : sw u (iv v (ui u)) := by
      rcases hs with h | h | h | h
      ·exact absurd h h0
      ·exact absurd h.1 h6
      ·exact h.2.2
      ·exact absurd h7 h.2
     have hel : EL u := by
      cases u with
      | nil => unfold EL mT at he; simp [h7] at he
      | cons y u => exact he.2
     obtain ⟨d1, x, t, h1, h2⟩ := kC u _ r (dn f d) q hel hsi
     exact ⟨d1, x, t, h1, by omega⟩
    ·rw [if_neg h7]; exact ⟨_, _, [], rfl, hdn⟩
end Go.Proofs.YtmaemlebpjnmoaaGreatDoor
namespace Go.Proofs.YtmaemlebpjnmoaaGreatDoor
open Go Go.SX Go.SX.Cal
def Cx (q : Int) : List im → Prop
 | [] => True
 | x :: _ => x.1 ≤ q
theorem Cx.le {q p : Int} {T : List im} (h : Cx q T) (hp : q ≤ p) : Cx p T := by
 cases T with
 | nil => trivial
 | cons x t => exact Int.le_trans h hp
theorem vU {s : ByteArray} (h : s.size = 0) : s = ByteArray.empty := by
 apply ByteArray.ext
 apply Array.ext
 ·rw [show s.data.size = s.size from rfl, h]; rfl
 ·intro i h1 h2
  have : s.data.size = 0 := h
  omega
theorem ry {v : ac} (h : eZ v = true) (hk : v.kind = 0 ∨ v.kind = 6 ∨ v.kind = 7) : v = ⟨v.kind, 0, 0, ByteArray.empty, v.items⟩ ∧ (v.kind = 0 → v.items = []) := by
 have h0 : v.n = 0 ∧ v.scale = 0 ∧ v.s.size = 0 := by
  unfold eZ at h
  rcases hk with hk | hk | hk <;> simp [hk] at h
  ·exact ⟨h.1.1, h.1.2, by rw [h.2.1]; rfl⟩
  ·exact ⟨h.1.1, h.1.2, by rw [h.2.1]; rfl⟩
  ·exact ⟨h.1.1, h.1.2, by rw [h.2.1]; rfl⟩
 refine ⟨?_, fun hz => fM h (by omega) (by omega)⟩
 obtain ⟨k, n, s, t, l⟩ := v
 obtain ⟨a, b, c⟩ := h0
 simp only at a b c
 rw [a, b, vU c]
theorem s9 {f : ah} {i : Nat} {u : lD} {v : ac} (r d q : Int) (he : EL ((f, i) :: u)) (hs : sw ((f, i) :: u) v) (h0 : ¬ (f.need = false ∧ v.kind = 0)) :
  ∃ d1 x t, ml ((f, i) :: u) v r d q = (r, d1, x) :: t ∧ dn f d ≤ d1 ∧ (f.type.kind = 6 → v.items.length ≠ 0 → dn f d + 1 ≤ d1) := by
 simp only [ml]
 rw [if_neg h0]
 by_cases h6 : f.type.kind = 6
 ·rw [if_pos h6]
  by_cases hl : v.items.length = 0
  ·rw [if_pos hl]; exact ⟨_, none, [], rfl, Int.le_refl _, fun _ h => absurd hl h⟩
  ·rw [if_neg hl]
   have hsi : ∀ e ∈ v.items, sw u e := by
    rcases hs with h | h | h | h
    ·exact absurd h h0
    ·exact h.2
    ·have := h.1; omega
    ·exact absurd h6 h.1
   have hel : EL u := by
    cases u with
    | nil => unfold EL mT at he; simp [h6] at he
    | cons y u => exact he.2
   cases hv : v.items with
   | nil => rw [hv] at hl; exact absurd rfl hl
   | cons e es =>
    obtain ⟨d1, x, t, h1, h2⟩ := kC u e r (dn f d + 1) (q + 1) hel (hsi e (by rw [hv]; exact List.mem_cons_self ..))
    simp only [s8, h1, List.cons_append]
    exact ⟨d1, x, _, rfl, by omega, fun _ _ => h2⟩
 ·rw [if_neg h6]
  by_cases h7 : f.type.kind = 7
  ·rw [if_pos h7]
   have hsi : sw u (iv v (ui u)) := by
    rcases hs with h | h | h | h
    ·exact absurd h h0
    ·exact absurd h.1 h6
    ·exact h.2.2
    ·exact absurd h7 h.2
   have hel : EL u := by
    cases u with
    | nil => unfold EL mT at he; simp [h7] at he
    | cons y u => exact he.2
   obtain ⟨d1, x, t, h1, h2⟩ := kC u _ r (dn f d) q hel hsi
   exact ⟨d1, x, t, h1, h2, fun h => absurd h h6⟩
  ·rw [if_neg h7]; exact ⟨_, _, [], rfl, Int.le_refl _, fun h => absurd h h6⟩
theorem n6 {N : Nat} {f : ah} {i : Nat} {w : lD} (h : w ∈ bM N f i) : ∃ u, w = (f, i) :: u ∧ (f, 0) :: u ∈ WY (N + 1) [f] := by
 unfold bM at h
 have hw : WY (N + 1) [f] = bM N f 0 ++ [] := rfl
 rw [hw, List.append_nil]
 unfold bM
 cases hl : mT f with
 | true =>
  rw [hl, if_pos rfl] at h
  exact ⟨[], by simpa using h, by simp⟩
 | false =>
  rw [hl, if_neg (by simp)] at h
  obtain ⟨u, hu, rfl⟩ := List.mem_map.1 h
  exact ⟨u, rfl, by rw [if_neg (by simp)]; exact List.mem_map.2 ⟨u, hu, rfl⟩⟩
theorem uJ {N : Nat} {f : ah} {i : Nat} {w : lD} (h : w ∈ bM N f i) : EL w := by
 obtain ⟨u, rfl, h2⟩ := n6 h
 have := vQ h2
 cases u with
 | nil => exact this
 | cons y u => exact this
theorem ta {N : Nat} {f : ah} {i : Nat} {w : lD} (h : w ∈ bM N f i) (hV : V f.type) {d : Nat} {v : ac} (hc : yS f d v) : sw w v := by
 obtain ⟨u, rfl, h2⟩ := n6 h
 exact (xJ h2 (fun g hg => by rw [List.mem_singleton] at hg; rw [hg]; exact hV) rfl hc).1
theorem nN : ∀ (N : Nat) (f : ah) (i : Nat), V f.type → gX f.type ≤ N → 0 < (bM N f i).length
 | 0, f, i, hV, h => by have := ga f.type; omega
 | N + 1, f, i, hV, h => by
  unfold bM
  cases hl : mT f with
  | true => rw [if_pos rfl]; simp
  | false =>
   rw [if_neg (by simp), List.length_map]
   have h0 := hV.fields hl
   have he := ga f.type
   cases hf : f.type.fields with
   | nil => rw [hf] at h0; exact absurd rfl h0
   | cons g gs =>
    have hg : g ∈ f.type.fields := by rw [hf]; exact List.mem_cons_self ..
    have h1 := cZ hg
    have h2 := dv g
    have := nN N g 0 (hV.fs g hg) (by omega)
    show 0 < (qx (WY N) (g :: gs) 0).length
    rw [mw, List.length_append]; omega
end Go.Proofs.YtmaemlebpjnmoaaGreatDoor
namespace Go.Proofs.YtmaemlebpjnmoaaGreatDoor
open Go Go.SX Go.SX.Cal
theorem xM {f : ah} {d : Nat} {v : ac} (hc : yS f (d + 1) v) (hV : V f.type) {i : Nat} (hi : i < v.items.length) {g : ah} (hg : f.type.fields[if f.type.kind = 6 then 0 else i]? = some g) : yS g d (iv v i) := by
 obtain ⟨hfit, hof⟩ := vW hc.s hV hc.o
 have e1 : ft f.type i = g.type := by unfold ft; rw [hg]; rfl
 have e2 : nd f.type i = g.need := by unfold nd; rw [hg]; rfl
 have hla := xN hc.l hi
 rw [e1, e2] at hla
 exact ⟨hc.s.succ.2 _ (kN hi), by rw [← e1]; exact hof i hi, hla.2, hla.1⟩
theorem Df {R T : Nat → List im} {a n : Nat} (h : ∀ j, j < n → ∃ x, R (a + j) = x :: T (a + j)) (ho : ∀ k, (k < a ∨ a + n ≤ k) → R k = T k) : tk R a n = T := by
 funext k
 unfold tk
 by_cases hk : a ≤ k ∧ k < a + n
 ·rw [if_pos hk]
  obtain ⟨x, hx⟩ := h (k - a) (by omega)
  rw [show a + (k - a) = k by omega] at hx
  rw [hx]; rfl
 ·rw [if_neg hk]; exact ho k (by omega)
structure AR (W : List lD) (a : Nat) (v : ac) (r d q : Int) (R T : Nat → List im) : Prop where
 h : ∀ (j : Nat) w, W[j]? = some w → R (a + j) = ml w v r d q ++ T (a + j)
 o : ∀ k, (k < a ∨ a + W.length ≤ k) → R k = T k
 l : ∀ j, j < W.length → Cx q (T (a + j))
theorem qw {Ls : List (List im)} (hf : Db Ls) (hL : Ls.length < 1000000000) {W : List lD} {a : Nat} (hn : a + W.length ≤ Ls.length) {v : ac} {r d q e : Int} {R T : Nat → List im} (hH : AR W a v r d q R T)
  (he : ∀ w ∈ W, ml w v r d q = [(r, e, none)]) {P U : List Int} (h : At Ls R P U) :
  ∃ P', bK (a : Int) (W.length : Int) (jA Ls) false P U = some ((), jA Ls, false, P', U) ∧ At Ls T P' U := by
 have hx : ∀ j, j < W.length → R (a + j) = (r, e, none) :: T (a + j) := by
  intro j hj
  rw [hH.h j _ (List.getElem?_eq_getElem hj), he _ (List.getElem_mem hj)]; rfl
 obtain ⟨P', h1, h2⟩ := BZ hf hn hL (fun k h1 h2 => by
  have := hx (k - a) (by omega)
  rw [show a + (k - a) = k by omega] at this
  exact ⟨_, _, this, rfl⟩) h
 rw [Df (fun j hj => ⟨_, hx j hj⟩) hH.o] at h2
 exact ⟨P', h1, h2⟩
theorem wL {Ls : List (List im)} {R : Nat → List im} {P U : List Int} (h : At Ls R P U) {k : Nat} (hk : k < Ls.length) : ∃ D, Ls[k] = D ++ R k ∧ at? P (k : Int) = some (D.length : Int) ∧ at? (jA Ls) (k : Int) = some (kT c0 Ls[k]) := by
 have hkL : Ls[k]? = some Ls[k] := List.getElem?_eq_getElem hk
 obtain ⟨D, h1, h2, h3⟩ := h.h k _ hkL
 exact ⟨D, h1, eX h2, qP hkL⟩
theorem BR {Ls : List (List im)} {R : Nat → List im} {P U : List Int} (h : At Ls R P U) {k : Nat} (hk : k < Ls.length) (q : Int) {α : Type} (z : Int → Option α) (y : Option α) :
  (aT (at? P (k : Int)) fun e2 => aT (at? (jA Ls) (k : Int)) fun e3 => aI (decide (e2 < (e3.reps.length : Int))) (aT (at? e3.reps e2) fun e4 => z e4) y) =
   match R k with
   | [] => y
   | x :: _ => z x.1 := by
 obtain ⟨D, h1, h2, h3⟩ := wL h hk
 rw [h2, h3, aA, aA, pG, h1]
 cases hR : R k with
 | nil => simp [bD]
 | cons x t =>
  rw [decide_eq_true (by rw [List.length_append, List.length_cons]; omega), cL, Cp, aA]
end Go.Proofs.YtmaemlebpjnmoaaGreatDoor
namespace Go.Proofs.YtmaemlebpjnmoaaGreatDoor
open Go Go.SX Go.SX.Cal
abbrev FO : Type := Option (ac × List ak × Bool × List Int × List Int)
def qO (Ls : List (List im)) (N : Nat) (fld : ah → Int → Int → Int → List ak → Bool → List Int → List Int → FO) : Prop :=
 ∀ (f : ah) (i a : Nat) (r d q : Int) (dd : Nat) (v : ac) (R T : Nat → List im) (P U : List Int), V f.type → gX f.type ≤ N → yS f dd v → dm v < 1000000000 →
  a + (bM N f i).length ≤ Ls.length → 0 ≤ d → d + 2 * (N : Int) ≤ 1000000000 → 0 ≤ q → q + (N : Int) ≤ 1000000000 → AR (bM N f i) a v r d q R T → At Ls R P U →
  ∃ P' U', fld f (a : Int) d q (jA Ls) false P U = some (v, jA Ls, false, P', U') ∧ At Ls T P' U'
theorem At.lens {Ls : List (List im)} {R T : Nat → List im} {P U P' U' : List Int} (h : At Ls R P U) (k : At Ls T P' U') : P'.length = P.length ∧ U'.length = U.length :=
 ⟨by rw [h.p, k.p], by rw [h.u, k.u]⟩
theorem Ca {Ls : List (List im)} (hL : Ls.length < 1000000000) {N : Nat} {fld : ah → Int → Int → Int → List ak → Bool → List Int → List Int → FO} (ih : qO Ls N fld)
  {f g : ah} (hk : f.type.kind = 6) (hg : f.type.fields[0]? = some g) (hVg : V g.type) (hsg : gX g.type ≤ N) {dd : Nat} {v : ac} (hv : dm v < 1000000000) (hchk : ∀ i, i < v.items.length → yS g dd (iv v i))
  {a : Nat} (hn : a + (bM N g 0).length ≤ Ls.length) {x1 q : Int} (hd0 : 0 ≤ x1) (hd1 : x1 + 1 + 2 * (N : Int) ≤ 1000000000) (hq0 : 0 ≤ q) (hq1 : q + 1 + (N : Int) ≤ 1000000000) (p7 p8 : List Int) (h7 : p7.length = Ls.length) (h8 : p8.length = Ls.length)
  {T : Nat → List im} (hlow : ∀ j, j < (bM N g 0).length → Cx q (T (a + j))) :
  ∀ (m fu i : Nat) (R : Nat → List im) (P U : List Int) (rr : Int), i + m = v.items.length → m ≠ 0 → m < fu →
   (∀ (j : Nat) u, (bM N g 0)[j]? = some u → R (a + j) = s8 (fun e r => ml u e r (x1 + 1) (q + 1)) (q + 1) (v.items.drop i) rr ++ T (a + j)) → (∀ k, (k < a ∨ a + (bM N g 0).length ≤ k) → R k = T k) → At Ls R P U →
   ∃ P' U', aV fld f (a : Int) q p7 p8 x1 fu P U (v.items.take i) (jA Ls) false true = some (⟨6, 0, 0, ByteArray.empty, v.items⟩, jA Ls, false, P', U') ∧ At Ls T P' U' := by
 have hw := nN N g 0 hVg hsg
 have hvi := fI v.items
 have hve := gx v
 have hfin : ∀ (fu : Nat) (P U : List Int), 0 < fu → At Ls T P U → aV fld f (a : Int) q p7 p8 x1 fu P U v.items (jA Ls) false false = some (⟨6, 0, 0, ByteArray.empty, v.items⟩, jA Ls, false, P, U) := by
  intro fu P U hfu h
  obtain ⟨fu, rfl⟩ := bX hfu
  rw [aV, bD]
  unfold cC cD
  rw [bD, nD, aA, bL (by rw [h.p, h7]), bL (by rw [h.u, h8]), hk]
 intro m
 induction m with
 | zero => intro fu i R P U rr _ h0; exact absurd rfl h0
 | succ m ihm =>
  intro fu i R P U rr hi _ hfu hR hT h
  obtain ⟨fu, rfl⟩ := bX hfu
  have h1 : i < v.items.length := by omega
  have hsz := dq (List.getElem_mem h1)
  have hdr := fy h1
  have hw1 : IntKind.i64.wrap (x1 + 1) = x1 + 1 := mW (by omega) (by omega)
  have hw2 : IntKind.i64.wrap (q + 1) = q + 1 := mW (by omega) (by omega)
  -- the state behind this element
  let T1 : Nat → List im := fun k => if h : a ≤ k ∧ k < a + (bM N g 0).length then s8 (fun e r => ml ((bM N g 0)[k - a]'(by omega)) e r (x1 + 1) (q + 1)) (q + 1) (v.items.drop (i + 1)) (q + 1) ++ T k else T k
  have hT1 : ∀ (j : Nat) u, (bM N g 0)[j]? = some u → T1 (a + j) = s8 (fun e r => ml u e r (x1 + 1) (q + 1)) (q + 1) (v.items.drop (i + 1)) (q + 1) ++ T (a + j) := by
   intro j u hj
   obtain ⟨hjl, hju⟩ := List.getElem?_eq_some_iff.1 hj
   have e : a + j - a = j := by omega
   simp only [T1]
   rw [dif_pos ⟨by omega, by omega⟩]
   simp only [e]
   rw [hju]
  have hT1o : ∀ k, (k < a ∨ a + (bM N g 0).length ≤ k) → T1 k = T k := by
   intro k hk
   simp only [T1]
   rw [dif_neg (by omega)]
  have hshp : ∀ u, u ∈ bM N g 0 → ∀ i, i < v.items.length → EL u ∧ sw u (iv v i) := fun u hu i hi => ⟨uJ hu, ta hu hVg (hchk i hi)⟩
  have hlow1 : ∀ j, j < (bM N g 0).length → Cx (q + 1) (T1 (a + j)) := by
   intro j hj
   rw [hT1 j _ (List.getElem?_eq_getElem hj)]
   by_cases hm : i + 1 < v.items.length
   ·rw [fy hm]
    simp only [s8]
    obtain ⟨e1, e2⟩ := hshp _ (List.getElem_mem hj) (i + 1) hm
    rw [ma hm]
    obtain ⟨d1, x, t, he, _⟩ := kC _ _ (q + 1) (x1 + 1) (q + 1) e1 e2
    rw [he]
    exact Int.le_refl _
   ·rw [List.drop_of_length_le (by omega)]
    exact (hlow j hj).le (by omega)
  obtain ⟨P', U', hf, hA⟩ := ih g 0 a rr (x1 + 1) (q + 1) dd (iv v i) R T1 P U hVg hsg (hchk i h1) (by rw [← ma h1]; omega) hn (by omega) (by omega) (by omega) (by omega)
   ⟨fun j w hj => by rw [hR j w hj, hT1 j w hj, hdr, ← ma h1]; simp only [s8, List.append_assoc], fun k hk => by rw [hT k hk, hT1o k hk], hlow1⟩ h
  obtain ⟨l1, l2⟩ := h.lens hA
  have hgat : at? f.type.fields (0 : Int) = some g := eX (i := 0) hg
  have hm := BR hA (k := a) (by omega) q (α := ac × List ak × Bool × List Int × List Int)
   (fun e4 => aV fld f (a : Int) q p7 p8 x1 fu P' U' (v.items.take i ++ [iv v i]) (jA Ls) false (decide (q < e4)))
   (aV fld f (a : Int) q p7 p8 x1 fu P' U' (v.items.take i ++ [iv v i]) (jA Ls) false false)
  have htk : v.items.take i ++ [iv v i] = v.items.take (i + 1) := by rw [← ma h1, List.take_succ_eq_append_getElem h1]
  rw [aV, cL]
  unfold cC
  rw [Bool.not_false, cL, hgat, aA, hw1, hw2, hf, aA]
  simp only
  rw [bL l1, bL l2, bL (by rw [List.length_take]; omega), hm]
  have h0 : (bM N g 0)[0]? = some (bM N g 0)[0] := List.getElem?_eq_getElem hw
  have hTa := hT1 0 _ h0
  rw [Nat.add_zero] at hTa
  by_cases hlast : i + 1 < v.items.length
  ·obtain ⟨e1, e2⟩ := hshp _ (List.getElem_mem hw) (i + 1) hlast
   obtain ⟨d1, x, t, he, _⟩ := kC _ _ (q + 1) (x1 + 1) (q + 1) e1 e2
   have hTc : T1 a = (q + 1, d1, x) :: (t ++ s8 (fun e r => ml (bM N g 0)[0] e r (x1 + 1) (q + 1)) (q + 1) (v.items.drop (i + 1 + 1)) (q + 1) ++ T a) := by
    rw [hTa, fy hlast, ma hlast]
    simp only [s8, he, List.cons_append, List.append_assoc]
   rw [hTc]
   simp only
   rw [decide_eq_true (by omega), htk]
   exact ihm fu (i + 1) T1 P' U' (q + 1) (by omega) (by omega) (by omega) hT1 hT1o hA
  ·have hTc : T1 a = T a := by rw [hTa, List.drop_of_length_le (by omega)]; rfl
   have hTT : T1 = T := by
    funext k
    simp only [T1]
    split
    ·rw [List.drop_of_length_le (by omega)]; rfl
    ·rfl
   have hlo := hlow 0 hw
   rw [Nat.add_zero] at hlo
   rw [hTT] at hA
   have hall : v.items.take (i + 1) = v.items := List.take_of_length_le (by omega)
   have hend := hfin fu P' U' (by omega) hA
   rw [hTc, htk, hall]
   refine ⟨P', U', ?_, hA⟩
   cases hTa2 : T a with
   | nil => exact hend
   | cons x t =>
    rw [hTa2] at hlo
    simp only
    have hlx : x.1 ≤ q := hlo
    rw [decide_eq_false (by omega)]
    exact hend
end Go.Proofs.YtmaemlebpjnmoaaGreatDoor
namespace Go.Proofs.YtmaemlebpjnmoaaGreatDoor
open Go Go.SX Go.SX.Cal
structure ox (W : List lD) (b : Nat) (x : Nat → ac) (r d q : Int) (R T : Nat → List im) : Prop where
 h : ∀ (s : Nat) u, W[s]? = some u → R (b + s) = ml u (x (ui u)) r d q ++ T (b + s)
 o : ∀ k, (k < b ∨ b + W.length ≤ k) → R k = T k
 l : ∀ s, s < W.length → Cx q (T (b + s))
theorem Az {N : Nat} {f : ah} {i : Nat} {w : lD} (h : w ∈ bM N f i) : ui w = i := by
 obtain ⟨u, rfl, _⟩ := n6 h; rfl
theorem ox.step {N : Nat} {f : ah} {j : Nat} {W : List lD} {o : Nat} {x : Nat → ac} {r d q : Int} {R T : Nat → List im} (h : ox (bM N f j ++ W) o x r d q R T) :
  ∃ T1, AR (bM N f j) o (x j) r d q R T1 ∧ ox W (o + (bM N f j).length) x r d q T1 T := by
 have hlen : (bM N f j ++ W).length = (bM N f j).length + W.length := List.length_append
 refine ⟨fun k => if o ≤ k ∧ k < o + (bM N f j).length then T k else R k, ⟨fun s w hs => ?_, fun k hk => ?_, fun s hs => ?_⟩, ⟨fun s u hs => ?_, fun k hk => ?_, fun s hs => ?_⟩⟩
 ·obtain ⟨hsl, hsu⟩ := List.getElem?_eq_some_iff.1 hs
  have := h.h s w (by rw [List.getElem?_append_left hsl]; exact hs)
  rw [Az (List.mem_of_getElem? hs)] at this
  rw [this, if_pos ⟨by omega, by omega⟩]
 ·rw [if_neg (by omega)]
 ·rw [if_pos ⟨by omega, by omega⟩]
  exact h.l s (by omega)
 ·rw [if_neg (by omega)]
  have := h.h ((bM N f j).length + s) u (by rw [List.getElem?_append_right (by omega), show (bM N f j).length + s - (bM N f j).length = s by omega]; exact hs)
  rw [Nat.add_assoc]
  exact this
 ·by_cases hb : o ≤ k ∧ k < o + (bM N f j).length
  ·rw [if_pos hb]
  ·rw [if_neg hb]
   exact h.o k (by omega)
 ·have := h.l ((bM N f j).length + s) (by omega)
  rw [Nat.add_assoc]; exact this
theorem ox.nil {o : Nat} {x : Nat → ac} {r d q : Int} {R T : Nat → List im} (h : ox [] o x r d q R T) : R = T := by
 funext k; exact h.o k (by simp; omega)
theorem CW {Ls : List (List im)} (hL : Ls.length < 1000000000) {N : Nat} {fld : ah → Int → Int → Int → List ak → Bool → List Int → List Int → FO} (ih : qO Ls N fld)
  {f : ah} (hk : f.type.kind = 7) (hVf : V f.type) (hsf : bQ f.type.fields ≤ N) (hN : N ≤ 100000000) {dd : Nat} {v : ac} (hv : dm v < 1000000000) (hvl : f.type.fields.length = v.items.length) (hchk : ∀ j g, f.type.fields[j]? = some g → yS g dd (iv v j))
  {x1 q r : Int} (hd0 : 0 ≤ x1) (hd1 : x1 + 2 * (N : Int) ≤ 1000000000) (hq0 : 0 ≤ q) (hq1 : q + (N : Int) ≤ 1000000000) (p7 p8 : List Int) (h7 : p7.length = Ls.length) (h8 : p8.length = Ls.length) {T : Nat → List im} :
  ∀ (m fu j o : Nat) (R : Nat → List im) (P U : List Int), j + m = f.type.fields.length → m < fu → o + (qx (WY N) (f.type.fields.drop j) j).length ≤ Ls.length →
   ox (qx (WY N) (f.type.fields.drop j) j) o (iv v) r x1 q R T → At Ls R P U →
   ∃ P' U', bE fld f q p7 p8 x1 fu P U (v.items.take j) (jA Ls) false (o : Int) (j : Int) = some (⟨7, 0, 0, ByteArray.empty, v.items⟩, jA Ls, false, P', U') ∧ At Ls T P' U' := by
 have hvi := fI v.items
 have hve := gx v
 have hfl := dP f.type.fields
 intro m
 induction m with
 | zero =>
  intro fu j o R P U hj hfu ho hP h
  obtain ⟨fu, rfl⟩ := bX hfu
  rw [List.drop_of_length_le (by omega)] at hP
  have hRT : R = T := ox.nil hP
  subst hRT
  rw [bE, ig (by omega), bD]
  unfold cD
  rw [nD, aA, bL (by rw [h.p, h7]), bL (by rw [h.u, h8]), hk, List.take_of_length_le (by omega)]
  exact ⟨P, U, rfl, h⟩
 | succ m ihm =>
  intro fu j o R P U hj hfu ho hP h
  obtain ⟨fu, rfl⟩ := bX hfu
  have h1 : j < f.type.fields.length := by omega
  have h1v : j < v.items.length := by omega
  have hmem := List.getElem_mem h1
  have hVg := hVf.fs _ hmem
  have hsz := cZ hmem
  have hfd := dv f.type.fields[j]
  have hzv := dq (kN h1v)
  rw [fy h1, mw] at hP ho
  rw [List.length_append] at ho
  obtain ⟨T1, hH, hP2⟩ := hP.step
  obtain ⟨P', U', hf, hA⟩ := ih f.type.fields[j] j o r x1 q dd (iv v j) R T1 P U hVg (by omega) (hchk j _ (List.getElem?_eq_getElem h1)) (by omega) (by omega) hd0 hd1 hq0 hq1 hH h
  obtain ⟨l1, l2⟩ := h.lens hA
  have hlv := nL N bf f.type.fields[j] j hVg (by omega) (by rw [aQ]; omega) (by omega)
  rw [bE, cU h1, cL, cg h1, aA, hf, aA]
  simp only
  rw [bL l1, bL l2, bL (by rw [List.length_take]; omega), hlv, aA, mW (x := (o : Int) + ((bM N f.type.fields[j] j).length : Int)) (by omega) (by omega), bt h1 (by omega), show (o : Int) + ((bM N f.type.fields[j] j).length : Int) = ((o + (bM N f.type.fields[j] j).length : Nat) : Int) by omega,
   ← ma h1v, ← List.take_succ_eq_append_getElem h1v]
  exact ihm fu (j + 1) _ T1 P' U' (by omega) (by omega) (by omega) hP2 hA
theorem u7 {Ls : List (List im)} (hf : Db Ls) (hL : Ls.length < 1000000000) : ∀ (N k : Nat), N < k → N ≤ 100000000 → qO Ls N (aN k)
 | 0, k, hk, hN => by
  intro f i a r d q dd v R T P U hV hs
  have := ga f.type; omega
 | N + 1, k, hk, hN => by
  intro f i a r d q dd v R T P U hV hs hc hv hn hd0 hd1 hq0 hq1 hH h
  obtain ⟨k, rfl⟩ := bX (m := N + 1) (f := k) hk
  have ih := u7 hf hL N k (by omega) (by omega)
  have he := ga f.type
  have hpos := nN (N + 1) f i hV hs
  have hlv := nL (N + 1) bf f i hV hs (by rw [aQ]; omega) (by omega)
  have hw0 : (bM (N + 1) f i)[0]? = some (bM (N + 1) f i)[0] := List.getElem?_eq_getElem hpos
  have hshp : ∀ w ∈ bM (N + 1) f i, ∃ u, w = (f, i) :: u ∧ EL w ∧ sw w v := fun w hw => by
   obtain ⟨u, h1, h2⟩ := n6 hw
   exact ⟨u, h1, uJ hw, ta hw hV hc⟩
  obtain ⟨u0, hu0, hel0, hsh0⟩ := hshp _ (List.getElem_mem hpos)
  have hR0 := hH.h 0 _ hw0
  rw [Nat.add_zero] at hR0
  have ha : a < Ls.length := by omega
  have haL : Ls[a]? = some Ls[a] := List.getElem?_eq_getElem ha
  cases dd with
  | zero => exact hc.s.zero.elim
  | succ dd =>
  have hpl := hc.s.succ.1
  have hkind := tu hc.o
  -- what is there
  have j1 : ¬ (f.need = false ∧ v.kind = 0) → ∃ P' U', cE (aN k) f (a : Int) q P U ((bM (N + 1) f i).length : Int) P U (jA Ls) false (dn f d) = some (v, jA Ls, false, P', U') ∧ At Ls T P' U' := by
   intro h0
   have hdn0 : d ≤ dn f d ∧ dn f d ≤ d + 1 := by unfold dn; split <;> omega
   have hk0 : v.kind = f.type.kind := by
    rcases hkind with h | h
    ·cases hn : f.need with
     | true => exact absurd ⟨hn, h⟩ hc.n
     | false => exact absurd ⟨hn, h⟩ h0
    ·exact h
   unfold cE
   by_cases h6 : f.type.kind = 6
   ·obtain ⟨hbv, _⟩ := ry hpl (by omega)
    rw [show (f.type.kind == 6) = true by simp [h6], cL]
    obtain ⟨d1, x, t, e1, e2, e3⟩ := s9 r d q (hu0 ▸ hel0) (hu0 ▸ hsh0) h0
    rw [← hu0] at e1
    rw [e1, List.cons_append] at hR0
    rw [rh h haL hR0, aA]
    simp only
    rw [bL trivial, bL trivial]
    by_cases hl : v.items.length = 0
    ·have hall : ∀ w ∈ bM (N + 1) f i, ml w v r d q = [(r, dn f d, none)] := by
      intro w hw
      obtain ⟨u, rfl, _, _⟩ := hshp w hw
      simp only [ml]
      rw [if_neg h0, if_pos h6, if_pos hl]
     have := hall _ (List.getElem_mem hpos)
     rw [e1] at this
     have hd1' : d1 = dn f d := by simp at this; exact this.1.1
     obtain ⟨P', hT, hA⟩ := qw hf hL hn hH hall h
     obtain ⟨l1, l2⟩ := h.lens hA
     rw [decide_eq_true (by omega), cL, hT, aA]
     simp only
     rw [bL l1, bL trivial, bL l1, bL trivial, h6]
     refine ⟨P', U, ?_, hA⟩
     rw [hbv, hk0, h6, List.eq_nil_of_length_eq_zero hl]
    ·rw [decide_eq_false (by have := e3 h6 hl; omega), bD]
     have hlist := hV.list h6
     obtain ⟨g, hg1⟩ : ∃ g, f.type.fields = [g] := by
      cases hff : f.type.fields with
      | nil => rw [hff] at hlist; simp at hlist
      | cons g gs => rw [hff] at hlist; simp at hlist; subst hlist; exact ⟨g, rfl⟩
     have hg : f.type.fields[0]? = some g := by rw [hg1]; rfl
     have hgm : g ∈ f.type.fields := by rw [hg1]; exact List.mem_cons_self ..
     have hlf : mT f = false := by unfold mT; simp [h6]
     have hways : bM (N + 1) f i = (bM N g 0).map ((f, i) :: ·) := by
      rw [bM, hlf, if_neg (by simp), hg1]
      show (qx (WY N) [g] 0).map _ = _
      rw [mw]; simp [qx]
     have hwl : (bM (N + 1) f i).length = (bM N g 0).length := by rw [hways, List.length_map]
     have h1 := cZ hgm
     have h2 := dv g
     have hres := Ca hL ih h6 hg (hV.fs g hgm) (by omega) hv (fun i hi => xM hc hV hi (by rw [if_pos h6]; exact hg)) (a := a) (by omega) (x1 := dn f d) (q := q) (by omega) (by omega) (by omega) (by omega) P U h.p h.u
      (T := T) (fun j hj => hH.l j (by omega)) v.items.length bf 0 R P U r (by omega) hl (by rw [aQ]; have := fI v.items; have := gx v; omega)
      (fun j u hj => by
       have := hH.h j ((f, i) :: u) (by rw [hways, List.getElem?_map, hj]; rfl)
       rw [this, List.drop_zero]
       simp only [ml]
       rw [if_neg h0, if_pos h6, if_neg hl]) (fun k hk => hH.o k (by omega)) h
     obtain ⟨P', U', r1, r2⟩ := hres
     rw [List.take_zero] at r1
     refine ⟨P', U', ?_, r2⟩
     rw [r1, hbv, hk0, h6]
   ·rw [show (f.type.kind == 6) = false by simp [h6], bD]
    by_cases h7 : f.type.kind = 7
    ·obtain ⟨hbv, _⟩ := ry hpl (by omega)
     rw [show (f.type.kind == 7) = true by simp [h7], cL]
     have hlf : mT f = false := by unfold mT; simp [h7]
     have hways : bM (N + 1) f i = (qx (WY N) f.type.fields 0).map ((f, i) :: ·) := by
      rw [bM, hlf, if_neg (by simp)]; rfl
     have hwl : (bM (N + 1) f i).length = (qx (WY N) f.type.fields 0).length := by rw [hways, List.length_map]
     have hlen := AS hc.o hk0 h7
     have hres := CW hL ih h7 hV (by omega) (by omega) hv hlen (fun j g hg => by
       have hjl : j < f.type.fields.length := (List.getElem?_eq_some_iff.1 hg).1
       exact xM hc hV (by omega) (by rw [if_neg h6]; exact hg)) (x1 := dn f d) (q := q) (r := r) (by omega) (by omega) (by omega) (by omega) P U h.p h.u (T := T)
      f.type.fields.length bf 0 a R P U (by omega) (by rw [aQ]; have := dP f.type.fields; omega) (by rw [List.drop_zero]; omega)
      ⟨fun s u hs => by
       rw [List.drop_zero] at hs
       have := hH.h s ((f, i) :: u) (by rw [hways, List.getElem?_map, hs]; rfl)
       rw [this]
       simp only [ml]
       rw [if_neg h0, if_neg h6, if_pos h7], fun k hk => hH.o k (by rw [List.drop_zero] at hk; omega), fun s hs => hH.l s (by rw [List.drop_zero] at hs; omega)⟩ h
     obtain ⟨P', U', r1, r2⟩ := hres
     rw [List.take_zero] at r1
     refine ⟨P', U', ?_, r2⟩
     have r1' : bE (aN k) f q P U (dn f d) bf P U [] (jA Ls) false (a : Int) (0 : Int) = _ := r1
     rw [r1', hbv, hk0, h7]
    ·rw [show (f.type.kind == 7) = false by simp [h7], bD]
     have hlf : mT f = true := by unfold mT; simp [h6, h7]
     have hways : bM (N + 1) f i = [[(f, i)]] := by rw [bM, hlf, if_pos rfl]
     have hwl : (bM (N + 1) f i).length = 1 := by rw [hways]; rfl
     have hR : R a = (r, dn f d, some v) :: T a := by
      have := hH.h 0 [(f, i)] (by rw [hways]; rfl)
      rw [Nat.add_zero] at this
      rw [this]
      simp only [ml]
      rw [if_neg h0, if_neg h6, if_neg h7]; rfl
     obtain ⟨D, L, g1, g2, g3, g4, g5, g6, g7, g8⟩ := yJ hf hL ha hR (fun k hk => hH.o k (by omega)) h
     rw [g3, aA]
     simp only
     have hitems : v.items = [] := fM hpl (by omega) (by omega)
     rw [bL (by simp), bL trivial, g4, aA, qP g1, aA, show ((((oG D).length : Nat) : Int) == ((kT c0 L).values.length : Int)) = false by simp; omega, bD, g5, aA, yv hitems, aA, mW (x := ((oG D).length : Int) + 1) (by omega) (by omega),
      bL (by simp), bL (by simp), show ((a : Int)).toNat = a by omega]
     exact ⟨_, _, rfl, g8⟩
  rw [aN, bD, hlv, aA]
  cases hnd : f.need with
  | true =>
   rw [Bool.not_true, bD]
   have := j1 (by simp [hnd])
   rw [show dn f d = d by unfold dn; rw [if_pos hnd]] at this
   exact this
  | false =>
   rw [Bool.not_false, cL]
   by_cases hv0 : v.kind = 0
   ·have hall : ∀ w ∈ bM (N + 1) f i, ml w v r d q = [(r, d, none)] := by
     intro w hw
     obtain ⟨u, rfl, _, _⟩ := hshp w hw
     simp only [ml]
     rw [if_pos ⟨hnd, hv0⟩]
    rw [hall _ (List.getElem_mem hpos), List.cons_append] at hR0
    obtain ⟨P', hT, hA⟩ := qw hf hL hn hH hall h
    obtain ⟨l1, l2⟩ := h.lens hA
    obtain ⟨hbv, hit⟩ := ry hpl (by omega)
    rw [rh h haL hR0, aA]
    simp only
    rw [bL trivial, bL trivial, decide_eq_true (Int.le_refl _), cL, hT, aA]
    simp only
    rw [bL l1, bL trivial, bL l1, bL trivial]
    refine ⟨P', U, ?_, hA⟩
    rw [hbv, hv0, hit hv0]
   ·have h0 : ¬ (f.need = false ∧ v.kind = 0) := fun h => hv0 h.2
    obtain ⟨d1, x, t, e1, e2, e3⟩ := s9 r d q (hu0 ▸ hel0) (hu0 ▸ hsh0) h0
    rw [← hu0] at e1
    have hdn : dn f d = d + 1 := by unfold dn; simp [hnd]
    have hR1 := hR0
    rw [e1, List.cons_append] at hR1
    rw [rh h haL hR1, aA]
    simp only
    rw [bL trivial, bL trivial, decide_eq_false (by omega), bD, mW (x := d + 1) (by omega) (by omega)]
    have := j1 h0
    rw [hdn] at this
    exact this
end Go.Proofs.YtmaemlebpjnmoaaGreatDoor
namespace Go.Proofs.YtmaemlebpjnmoaaGreatDoor
open Go Go.SX Go.SX.Cal
theorem wu {x : Int} : IntKind.u64.wrap x = x % 18446744073709551616 := by
 rfl
structure W4 (w : ba) : Prop where
 a : 0 ≤ w.size.1 ∧ w.size.1 < 18446744073709551616
 b : 0 ≤ w.size.2.1 ∧ w.size.2.1 < 18446744073709551616
 c : 0 ≤ w.size.2.2.1 ∧ w.size.2.2.1 < 18446744073709551616
 d : 0 ≤ w.size.2.2.2 ∧ w.size.2.2.2 < 18446744073709551616
theorem ou (x : Int) : 0 ≤ x % 18446744073709551616 ∧ x % 18446744073709551616 < 18446744073709551616 := ⟨Int.emod_nonneg _ (by decide), Int.emod_lt_of_pos _ (by decide)⟩
theorem mG (p q : Int) : ∃ a b, ed p q = some (a, b) ∧ 0 ≤ b := by
 unfold ed
 simp only [aA]
 exact ⟨_, _, rfl, by rw [wu]; exact (ou _).1⟩
theorem w3 (p : ba) (q : Int) : ∃ r, gp p q = some r ∧ W4 r := by
 obtain ⟨a1, b1, h1, g1⟩ := mG p.size.1 q
 obtain ⟨a2, b2, h2, g2⟩ := mG p.size.2.1 q
 obtain ⟨a3, b3, h3, g3⟩ := mG p.size.2.2.1 q
 obtain ⟨a4, b4, h4, g4⟩ := mG p.size.2.2.2 q
 unfold gp
 rw [h1, aA, bL ⟨g1, by decide, by decide, by decide⟩, aA, h2, aA, bL ⟨g2, by rw [wu]; exact (ou _).1, by decide, by decide⟩, aA, h3, aA, bL ⟨g3, by rw [wu]; exact (ou _).1, by decide, by decide⟩, aA, h4, aA, bL ⟨g4, by rw [wu]; exact (ou _).1, by decide, by decide⟩, aA]
 exact ⟨_, rfl, ⟨ou _, ou _, ou _, ou _⟩⟩
theorem tA {p2 : Int} (h2 : p2 ≤ 1000) : ∀ (m k : Nat) (z1 : Bool) (z2 z3 z4 z5 : Int) (i : Nat), (i : Int) + m = p2 ∨ (m = 0 ∧ p2 ≤ (i : Int)) → m < k → W4 ⟨z1, z2, z3, z4, z5⟩ → ∃ r, bS p2 k z1 z2 z3 z4 z5 (i : Int) = some r ∧ W4 r := by
 intro m
 induction m with
 | zero =>
  intro k z1 z2 z3 z4 z5 i hi hk h
  obtain ⟨k, rfl⟩ := bX hk
  rw [bS, decide_eq_false (by omega), bD]
  exact ⟨_, rfl, h⟩
 | succ m ih =>
  intro k z1 z2 z3 z4 z5 i hi hk h
  obtain ⟨k, rfl⟩ := bX hk
  obtain ⟨r, h3, h4⟩ := w3 ⟨z1, z2, z3, z4, z5⟩ 10
  rw [bS, decide_eq_true (by omega), cL, h3, aA, mW (x := (i : Int) + 1) (by omega) (by omega), show (i : Int) + 1 = ((i + 1 : Nat) : Int) by omega]
  exact ih k _ _ _ _ _ (i + 1) (by omega) (by omega) ⟨h4.a, h4.b, h4.c, h4.d⟩
theorem vC (n : Int) {s : Int} (h0 : 0 ≤ s) (h1 : s ≤ 1000) : ∃ r, iR n s = some r ∧ W4 r := by
 have hw : ∃ r, kE n = some r ∧ W4 r := by
  unfold kE
  by_cases h : n < 0
  ·rw [decide_eq_true h, cL]
   exact ⟨_, rfl, ⟨by show 0 ≤ IntKind.u64.wrap _ ∧ _; rw [wu]; exact ou _, ⟨Int.le_refl 0, by show (0 : Int) < 18446744073709551616; decide⟩, ⟨Int.le_refl 0, by show (0 : Int) < 18446744073709551616; decide⟩, ⟨Int.le_refl 0, by show (0 : Int) < 18446744073709551616; decide⟩⟩⟩
  ·rw [decide_eq_false h, bD]
   exact ⟨_, rfl, ⟨by show 0 ≤ IntKind.u64.wrap _ ∧ _; rw [wu]; exact ou _, ⟨Int.le_refl 0, by show (0 : Int) < 18446744073709551616; decide⟩, ⟨Int.le_refl 0, by show (0 : Int) < 18446744073709551616; decide⟩, ⟨Int.le_refl 0, by show (0 : Int) < 18446744073709551616; decide⟩⟩⟩
 obtain ⟨w, h2, h3⟩ := hw
 obtain ⟨r, h4, h5⟩ := tA h1 s.toNat bf w.neg w.size.1 w.size.2.1 w.size.2.2.1 w.size.2.2.2 0 (by omega) (by rw [aQ]; omega) ⟨h3.a, h3.b, h3.c, h3.d⟩
 unfold iR gK
 rw [h2, aA]
 have h4' : bS s bf w.neg w.size.1 w.size.2.1 w.size.2.2.1 w.size.2.2.2 (0 : Int) = some r := h4
 simp only
 rw [h4', aA]
 exact ⟨_, rfl, ⟨h5.a, h5.b, h5.c, h5.d⟩⟩
theorem wS (w : ba) : fN w w = some 0 := by
 unfold fN
 simp only [Int.lt_irrefl, decide_false, bD]
theorem vN {w : ba} (h : W4 w) : fl w w = some 0 := by
 obtain ⟨s, a, b, c, d⟩ := w
 have ha := h.a; have hb := h.b; have hc := h.c; have hd := h.d
 simp only at ha hb hc hd
 have hB : bf = 1152921504606846975 + 1 := rfl
 unfold fl
 rw [hB, ff]
 simp only
 rw [show (s == s) = true by simp, Bool.not_true, bD, wS, aA, show decide ((0 : Int) < 0) = false from rfl, bD]
 unfold eS
 rw [if_neg (by omega), bL (by omega), bL (by omega), aA, if_neg (by omega), aA, bL (by omega), if_neg (by omega), bL (by omega), aA, aA, aA]
 unfold jq
 simp only
 rw [show a - a - 0 = 0 by omega, show b - b - 0 = 0 by omega, show c - c - 0 = 0 by omega, show d - d - 0 = 0 by omega]
 rfl
theorem rg (a : Int) : eP a a = some 0 := by
 unfold eP i7
 rw [bne_self_eq_false, aA, aA, bD, bD, decide_eq_false (by omega), bD, bD]
theorem ye : ∀ l : List UInt8, Op.bytesLess l l = false
 | [] => rfl
 | x :: l => by
  simp [Op.bytesLess, ye l]
theorem w5 (s : ByteArray) : fx s s = some 0 := by
 unfold fx gf
 simp [aA, bD, ye]
theorem DO : jy [0, 0, 0] = some 0 := by decide +kernel
theorem DM : jy [0, 0] = some 0 := by decide +kernel
theorem sR {v : ac} (hi : v.items = []) (k : Nat) : fm (k + 2) v v = some 0 := by
 have hB : bf = 1152921504606846975 + 1 := rfl
 rw [fm, rg, aA, w5, aA, aC, hi, hB, ax]
 show aT (aI (decide ((0 : Int) < 0)) _ _) _ = _
 rw [show decide ((0 : Int) < 0) = false from rfl, bD]
 unfold aG
 show aT (aI (decide ((0 : Int) < 0)) _ _) _ = _
 rw [show decide ((0 : Int) < 0) = false from rfl, bD, aA, DO]; rfl
theorem wT {v : ac} (h : sH v) : e9 bf v v = some 0 := by
 have hi := fM h.1 h.2.1 h.2.2
 have hB : bf = 1152921504606846973 + 2 + 1 := rfl
 rw [hB, e9, bne_self_eq_false, bD]
 have hj2 : fd (fm (1152921504606846973 + 2)) v v = some 0 := by
  unfold fd
  rw [rg, aA, sR hi, aA, DM]; rfl
 by_cases h0 : v.kind = 0
 ·rw [show (v.kind == 0) = true by simp [h0], cL]
 ·rw [show (v.kind == 0) = false by simp [h0], bD]
  by_cases h3 : v.kind = 3
  ·obtain ⟨a, b⟩ := pL h.1 h3
   obtain ⟨r, g1, g2⟩ := vC v.n (s := 12 - v.scale) (by omega) (by omega)
   have hwi : dw v.scale 0 12 = some true := by
    unfold dw
    simp [fH, aI, b.1, b.2]
   rw [show (v.kind == 3) = true by simp [h3], cL, hwi, aA, aA, cL]
   unfold gj
   rw [cL, mW (x := 12 - v.scale) (by omega) (by omega), g1, aA, aA]
   rw [vN ⟨g2.a, g2.b, g2.c, g2.d⟩, aA, sR hi, aA, DM]; rfl
  ·rw [show (v.kind == 3) = false by simp [h3], bD, hj2]
theorem vJ {v : ac} (h : sH v) : nn v = true := by
 have hi := fM h.1 h.2.1 h.2.2
 have hc : qt v 0 ≤ 1 := by unfold qt; split <;> omega
 unfold nn
 simp only [eO]
 rw [if_neg (by rw [h.1]; simp; omega), hi]
 rfl
theorem tU {v : ac} (h : sH v) (hv : dm v < 1000000000) : ir v v = some true := by
 unfold ir fK
 rw [wT h, aA, show ((0 : Int) == 0) = true from rfl, cL, xd v hv, vJ h, aA]
theorem vz {l : List Int} (hl : l.length ≤ 4000000000) : dQ l l = some true := by
 have : ∀ (m f i : Nat), i + m = l.length → m < f → bT l l f (i : Int) = some true := by
  intro m
  induction m with
  | zero =>
   intro f i hi hf
   obtain ⟨f, rfl⟩ := bX hf
   rw [bT, ig (by omega), bD]; rfl
  | succ m ih =>
   intro f i hi hf
   obtain ⟨f, rfl⟩ := bX hf
   have h1 : i < l.length := by omega
   rw [bT, cU h1, cL, cg h1, aA, aA, bne_self_eq_false, bD, mW (x := (i : Int) + 1) (by omega) (by omega), show (i : Int) + 1 = ((i + 1 : Nat) : Int) by omega, ih f (i + 1) (by omega) (by omega)]
 unfold dQ
 rw [bne_self_eq_false, bD]
 exact this l.length bf 0 (by omega) (by rw [aQ]; omega)
theorem AJ {l : List ac} (hl : l.length ≤ 4000000000) (h : ∀ v ∈ l, sH v ∧ dm v < 1000000000) : aE l l = some true := by
 have : ∀ (m f i : Nat), i + m = l.length → m < f → am l l f (i : Int) = some true := by
  intro m
  induction m with
  | zero =>
   intro f i hi hf
   obtain ⟨f, rfl⟩ := bX hf
   rw [am, ig (by omega), bD]; rfl
  | succ m ih =>
   intro f i hi hf
   obtain ⟨f, rfl⟩ := bX hf
   have h1 : i < l.length := by omega
   obtain ⟨g1, g2⟩ := h _ (List.getElem_mem h1)
   rw [am, cU h1, cL, cg h1, aA, aA, tU g1 g2, aA, Bool.not_true, bD, mW (x := (i : Int) + 1) (by omega) (by omega), show (i : Int) + 1 = ((i + 1 : Nat) : Int) by omega, ih f (i + 1) (by omega) (by omega)]
 unfold aE
 rw [bne_self_eq_false, bD]
 exact this l.length bf 0 (by omega) (by rw [aQ]; omega)
theorem uG {c : ak} (h : Cg c) (hs : ∀ v ∈ c.values, dm v < 1000000000) : jM c c = some true := by
 unfold jM fG
 rw [vz h.a, aA, cL, vz h.b, aA, cL, AJ h.e (fun v hv => ⟨(h.d v hv).1, hs v hv⟩), aA]
theorem qz : ∀ (d k : Nat) (v : ac), xU d v → dm v < 1000000000 → d ≤ k → cu k v v = some 0
 | 0, k, v, h, _, _ => h.zero.elim
 | d + 1, k, v, h, hv, hk => by
  obtain ⟨k, rfl⟩ := bX (m := d) (f := k) (by omega)
  have he := gx v
  have hl := fI v.items
  have hj := rb (cu k) (v := v) (by omega) (by omega) (fun x hx => by
   have := dq hx
   exact qz d k x (h.succ.2 x hx) (by omega) (by omega))
  rw [cu, show ((v.kind == 0) == (v.kind == 0)) = true by simp, Bool.not_true, bD, bne_self_eq_false, bD, hj]
  by_cases h0 : v.kind = 0
  ·rw [show (v.kind == 0) = true by simp [h0], cL]
  ·rw [show (v.kind == 0) = false by simp [h0], bD]
   by_cases h3 : v.kind = 3
   ·obtain ⟨a, b⟩ := pL h.succ.1 h3
    rw [show (v.kind == 3) = true by simp [h3], cL, Al a b, aA, bne_self_eq_false, bD]
   ·rw [show (v.kind == 3) = false by simp [h3], bD]
theorem yM {l : List ac} (h : ∀ v ∈ l, xU 4 v) (hl : d8 l < 1000000000) : gv l l = some 0 := by
 unfold gv
 have hb : bf = 1152921504606846974 + 1 + 1 := rfl
 have hlen := fI l
 have hj := rb (cu (1152921504606846974 + 1)) (v := ac.mk (6 : Int) (0 : Int) (0 : Int) ByteArray.empty l) (by show ByteArray.empty.size < _; rw [wZ]; omega) (by show l.length ≤ _; omega) (fun x hx => by
  have hx' : x ∈ l := hx
  have := dq hx'
  exact qz 4 _ x (h x hx) (by omega) (by omega))
 rw [hb, cu]
 simp only [show ((6 : Int) == 0) = false from rfl, show ((6 : Int) != 6) = false from rfl, show ((6 : Int) == 3) = false from rfl, BEq.rfl, Bool.not_true, bD]
 rw [hj]; rfl
theorem yt {l : List (List ac)} (h : ∀ r ∈ l, (∀ v ∈ r, xU 4 v) ∧ d8 r < 1000000000) (hl : l.length < 1000000000) : mr l l = some true := by
 have : ∀ (m f i : Nat), i + m = l.length → m < f → eB l l f (i : Int) = some true := by
  intro m
  induction m with
  | zero =>
   intro f i hi hf
   obtain ⟨f, rfl⟩ := bX hf
   rw [eB, ig (by omega), bD]; rfl
  | succ m ih =>
   intro f i hi hf
   obtain ⟨f, rfl⟩ := bX hf
   have h1 : i < l.length := by omega
   obtain ⟨g1, g2⟩ := h _ (List.getElem_mem h1)
   rw [eB, cU h1, cL, cg h1, aA, aA, bne_self_eq_false, bD, yM g1 g2, aA]
   unfold jI
   rw [show ((0 : Int) != 0) = false from rfl, bD, bt h1 hl, ih f (i + 1) (by omega) (by omega)]
 unfold mr
 rw [bne_self_eq_false, bD]
 exact this l.length bf 0 (by omega) (by rw [aQ]; omega)
end Go.Proofs.YtmaemlebpjnmoaaGreatDoor
namespace Go.Proofs.YtmaemlebpjnmoaaGreatDoor
open Go Go.SX Go.SX.Cal
def zJ (fs : List ah) (rows : List (List ac)) : List (List im) := (WS fs).map fun w => jP w rows
def RE (fs : List ah) (rows : List (List ac)) (k : Nat) : List im := match (WS fs)[k]? with
 | some w => jP w rows
 | none => []
theorem vr {fs : List ah} {rows : List (List ac)} {k : Nat} {w : lD} (h : (WS fs)[k]? = some w) : RE fs rows k = jP w rows := by unfold RE; rw [h]
theorem tI {fs : List ah} {r : List ac} {rows : List (List ac)} {k : Nat} {w : lD} (h : (WS fs)[k]? = some w) : RE fs (r :: rows) k = ml w (rv r (ui w)) 0 0 0 ++ RE fs rows k := by
 rw [vr h, vr h]; simp [jP]
theorem lZ (fs : List ah) (rows : List (List ac)) : (zJ fs rows).length = (WS fs).length := by simp [zJ]
theorem pg (fs : List ah) (rows : List (List ac)) : jA (zJ fs rows) = iq fs rows := by
 unfold jA zJ iq
 rw [List.map_map]; rfl
theorem zA (fs : List ah) : WS fs = qx (WY (bQ fs)) fs 0 := rfl
theorem CX {Ls : List (List im)} (hL : Ls.length < 1000000000) {N : Nat} (ih : qO Ls N (aN bf))
  {fs : List ah} (hV : ∀ f ∈ fs, V f.type) (hsf : bQ fs ≤ N) (hN : N ≤ 100000000) {dd : Nat} {r : List ac} (hr : d8 r < 1000000000) (hrl : fs.length = r.length) (hchk : ∀ j g, fs[j]? = some g → yS g dd (rv r j))
  (rec1 : List Int → List Int → List (List ac) → List ak → Bool → Option (List (List ac) × Bool)) (l3 : List (List ac)) (h3 : l3.length + 1 ≤ 4294967296) {T : Nat → List im} :
  ∀ (m fu j o : Nat) (R : Nat → List im) (P U : List Int), j + m = fs.length → m < fu → o + (qx (WY N) (fs.drop j) j).length ≤ Ls.length →
   ox (qx (WY N) (fs.drop j) j) o (rv r) 0 0 0 R T → At Ls R P U →
   ∃ P' U', cK rec1 fs l3 fu P U (r.take j) (jA Ls) false (o : Int) (j : Int) = rec1 P' U' (l3 ++ [r]) (jA Ls) false ∧ At Ls T P' U' := by
 have hvi := fI r
 have hfl := dP fs
 intro m
 induction m with
 | zero =>
  intro fu j o R P U hj hfu ho hP h
  obtain ⟨fu, rfl⟩ := bX hfu
  rw [List.drop_of_length_le (by omega)] at hP
  have hRT : R = T := ox.nil hP
  subst hRT
  rw [cK, ig (by omega), bD]
  unfold gH
  rw [nD, aA, bL h3, List.take_of_length_le (by omega)]
  exact ⟨P, U, rfl, h⟩
 | succ m ihm =>
  intro fu j o R P U hj hfu ho hP h
  obtain ⟨fu, rfl⟩ := bX hfu
  have h1 : j < fs.length := by omega
  have h1v : j < r.length := by omega
  have hmem := List.getElem_mem h1
  have hVg := hV _ hmem
  have hsz := cZ hmem
  have hfd := dv fs[j]
  have hzv := dq (List.getElem_mem h1v)
  rw [sU h1v] at hzv
  rw [fy h1, mw] at hP ho
  rw [List.length_append] at ho
  obtain ⟨T1, hH, hP2⟩ := hP.step
  obtain ⟨P', U', hf, hA⟩ := ih fs[j] j o 0 0 0 dd (rv r j) R T1 P U hVg (by omega) (hchk j _ (List.getElem?_eq_getElem h1)) (by omega) (by omega) (by omega) (by omega) (by omega) (by omega) hH h
  obtain ⟨l1, l2⟩ := h.lens hA
  have hlv := nL N bf fs[j] j hVg (by omega) (by rw [aQ]; omega) (by omega)
  rw [cK, cU h1, cL, cg h1, aA, hf, aA]
  simp only
  rw [bL l1, bL l2, bL (by rw [List.length_take]; omega), hlv, aA, mW (x := (o : Int) + ((bM N fs[j] j).length : Int)) (by omega) (by omega), bt h1 (by omega), show (o : Int) + ((bM N fs[j] j).length : Int) = ((o + (bM N fs[j] j).length : Nat) : Int) by omega,
   ← sU h1v, ← List.take_succ_eq_append_getElem h1v]
  exact ihm fu (j + 1) _ T1 P' U' (by omega) (by omega) (by omega) hP2 hA
structure kQ (fs : List ah) (rows : List (List ac)) : Prop where
 room : Ax fs rows
 sc : sc fs = 0
 rf : nK fs rows = 0
 cr : yA fs rows = 0
theorem kQ.chk {fs : List ah} {rows : List (List ac)} (h : kQ fs rows) {r : List ac} (hr : r ∈ rows) : r.length = fs.length ∧ ∀ j g, fs[j]? = some g → yS g 4 (rv r j) := by
 obtain ⟨hl, hrow⟩ := rz h.rf r hr
 have hf := h.room.f
 have ht := h.room.t
 have hsr := mI hr
 refine ⟨hl, fun j g hg => ?_⟩
 have hj : j < fs.length := (List.getElem?_eq_some_iff.1 hg).1
 have hir : j < r.length := by omega
 have hri : r[j]? = some (rv r j) := by rw [List.getElem?_eq_getElem hir, sU hir]
 obtain ⟨hc, hn⟩ := tR hrow j g _ hg hri
 have hz : dm (rv r j) ≤ d8 r := dq (List.mem_of_getElem? hri)
 have hfm := cZ (List.mem_of_getElem? hg)
 have hfe := dv g
 exact Cd (by omega) (by omega) hc hn
theorem kQ.ways {fs : List ah} {rows : List (List ac)} (h : kQ fs rows) : ∀ w ∈ WS fs, EL w ∧ w.length ≤ 2000000 ∧ ∀ r ∈ rows, Dc w r := fun w hw =>
 ⟨vQ hw, by have := (xB hw).2; have := h.room.f; omega, fun r hr => (yj h.room h.sc h.rf w hw r hr).1⟩
theorem kQ.few {fs : List ah} {rows : List (List ac)} (h : kQ fs rows) : Db (zJ fs rows) := by
 intro L hL
 obtain ⟨w, hw, rfl⟩ := List.mem_map.1 hL
 have := pU (h.ways w hw).2.2
 have := h.room.t
 omega
theorem kQ.wide {fs : List ah} {rows : List (List ac)} (h : kQ fs rows) : (WS fs).length ≤ 2000000 ∧ 0 < (WS fs).length := by
 have hf := h.room.f
 have hw := Bb fs
 refine ⟨by omega, ?_⟩
 obtain ⟨hV, _⟩ := ur (by omega) h.sc
 have hne : fs.length ≠ 0 := V.fields (f := ⟨1, ByteArray.empty, true, ⟨7, 0, fs⟩⟩) hV rfl
 cases hfs : fs with
 | nil => rw [hfs] at hne; exact absurd rfl hne
 | cons g gs =>
  have hg : g ∈ fs := by rw [hfs]; exact List.mem_cons_self ..
  have h1 := cZ hg
  have h2 := dv g
  rw [← hfs, zA, hfs, mw, List.length_append]
  have := nN (bQ (g :: gs)) g 0 (hV.fs g hg) (by rw [← hfs]; omega)
  omega
theorem Cj {fs : List ah} {rows : List (List ac)} (h : kQ fs rows) : ∀ (m fu i : Nat), i + m = (WS fs).length → m < fu →
  dc (iq fs rows) rows ((WS fs).map (pa p0)) fu (i : Int) = some (rows, true) := by
 have hwd := h.wide
 have hn := h.room.n
 have ht := h.room.t
 intro m
 induction m with
 | zero =>
  intro fu i hi hfu
  obtain ⟨fu, rfl⟩ := bX hfu
  rw [dc, ig (by rw [List.length_map]; omega), bD]
  unfold gM cq
  rw [bL (by omega), aA]
  simp
 | succ m ihm =>
  intro fu i hi hfu
  obtain ⟨fu, rfl⟩ := bX hfu
  have h1 : i < (WS fs).length := by omega
  have h2 : i < ((WS fs).map (pa p0)).length := by rw [List.length_map]; exact h1
  have h3 : i < (iq fs rows).length := by unfold iq; rw [List.length_map]; exact h1
  have hm := List.getElem_mem h1
  obtain ⟨g1, g2, g3⟩ := h.ways _ hm
  have hcol : (iq fs rows)[i] = kT c0 (jP (WS fs)[i] rows) := by simp [iq]
  have hco := CZ g3 (by omega)
  have hsz : ∀ v ∈ (kT c0 (jP (WS fs)[i] rows)).values, dm v < 1000000000 := by
   intro v hv
   simp only [kT, c0, List.nil_append] at hv
   obtain ⟨x, hx, hy⟩ := List.mem_filterMap.1 hv
   obtain ⟨r, hr, hx⟩ := List.mem_flatMap.1 hx
   have hp := (g3 r hr).p 0 0 0 x hx v hy
   have hz := (g3 r hr).z
   have htm := mI hr
   have hit := fM hp.1.1 hp.1.2.1 hp.1.2.2
   have he := gx v
   rw [hit] at he
   simp only [d8] at he
   have := hp.2
   omega
  rw [dc, cU h2, cL, cg h2, aA, List.getElem_map, xv g1 g2 g3 (by omega) (by omega), aA, cg h3, aA, hcol, uG hco hsz, aA, Bool.not_true, bD, mW (x := (i : Int) + 1) (by omega) (by omega), show (i : Int) + 1 = ((i + 1 : Nat) : Int) by omega]
  exact ihm fu (i + 1) (by omega) (by omega)
theorem CG {fs : List ah} {rows : List (List ac)} (h : kQ fs rows) : ∀ (m fu i : Nat) (P U : List Int), i + m = rows.length → m < fu → At (zJ fs rows) (RE fs (rows.drop i)) P U →
  bC fs (iq fs rows) fu P U (rows.take i) (iq fs rows) false = some (rows, true) := by
 have hwd := h.wide
 have hn := h.room.n
 have ht := h.room.t
 have hf := h.room.f
 have hLl : (zJ fs rows).length < 1000000000 := by rw [lZ]; omega
 obtain ⟨hV, hu⟩ := ur (by omega) h.sc
 have hfield := u7 h.few hLl (bQ fs) bf (by rw [aQ]; omega) (by omega)
 have h0 : (WS fs)[0]? = some (WS fs)[0] := List.getElem?_eq_getElem hwd.2
 have hw0 := List.getElem_mem hwd.2
 have hcl : ∀ k (hk : k < (zJ fs rows).length), at? (iq fs rows) (k : Int) = some (kT c0 (zJ fs rows)[k]) := fun k hk => by
  rw [← pg]; exact qP (List.getElem?_eq_getElem hk)
 intro m
 induction m with
 | zero =>
  intro fu i P U hi hfu hA
  obtain ⟨fu, rfl⟩ := bX hfu
  obtain ⟨D, e1, e2, e3⟩ := wL hA (k := 0) (by rw [lZ]; omega)
  rw [List.drop_of_length_le (by omega), vr h0] at e1
  simp only [jP, List.flatMap_nil, List.append_nil] at e1
  rw [pg] at e3
  have e2' : at? P (0 : Int) = some (D.length : Int) := e2
  have e3' : at? (iq fs rows) (0 : Int) = _ := e3
  have hpaths := ue (fs := fs) (by omega)
  have hend := Cj h (WS fs).length bf 0 (by omega) (by rw [aQ]; omega)
  rw [bC, Bool.not_false, cL, e2', aA, e3', aA, pG, e1, decide_eq_false (by omega)]
  unfold em
  rw [bD]
  unfold gN
  rw [bD, List.take_of_length_le (by omega), qC (by omega) (pX h.room) (by omega), aA, h.cr, show ((0 : Int) != 0) = false from rfl]
  unfold fq
  rw [bD, hpaths, aA]
  exact hend
 | succ m ihm =>
  intro fu i P U hi hfu hA
  obtain ⟨fu, rfl⟩ := bX hfu
  have h1 : i < rows.length := by omega
  have hm := List.getElem_mem h1
  have hdr := fy h1
  obtain ⟨hrl, hchk⟩ := h.chk hm
  obtain ⟨D, e1, e2, e3⟩ := wL hA (k := 0) (by rw [lZ]; omega)
  obtain ⟨g1, g2, g3⟩ := h.ways _ hw0
  obtain ⟨d1, x, t, he, _⟩ := kC _ _ 0 0 0 g1 (g3 _ hm).s
  rw [hdr, tI h0, he, List.cons_append] at e1
  rw [pg] at e3
  have e2' : at? P (0 : Int) = some (D.length : Int) := e2
  have e3' : at? (iq fs rows) (0 : Int) = _ := e3
  rw [bC, Bool.not_false, cL, e2', aA, e3', aA, pG, e1, decide_eq_true (by rw [List.length_append, List.length_cons]; omega)]
  unfold em
  rw [cL]
  have hparts : ox (qx (WY (bQ fs)) (fs.drop 0) 0) 0 (rv rows[i]) 0 0 0 (RE fs (rows.drop i)) (RE fs (rows.drop (i + 1))) := by
   rw [List.drop_zero, ← zA]
   refine ⟨fun s u hs => ?_, fun k hk => ?_, fun s hs => ?_⟩
   ·rw [Nat.zero_add, hdr, tI hs]
   ·have hk' : (WS fs)[k]? = none := List.getElem?_eq_none (by omega)
    unfold RE; rw [hk']
   ·rw [Nat.zero_add]
    have hs' : (WS fs)[s]? = some (WS fs)[s] := List.getElem?_eq_getElem hs
    by_cases h2 : i + 1 < rows.length
    ·obtain ⟨q1, q2, q3⟩ := h.ways _ (List.getElem_mem hs)
     obtain ⟨d2, x2, t2, he2, _⟩ := kC _ _ 0 0 0 q1 (q3 _ (List.getElem_mem h2)).s
     rw [fy h2, tI hs', he2]
     exact Int.le_refl _
    ·rw [List.drop_of_length_le (by omega), vr hs']
     simp only [jP, List.flatMap_nil]
     trivial
  have hsr := mI hm
  obtain ⟨P', U', hr, hA'⟩ := CX hLl hfield (fun f hf => hV.fs f hf) (Nat.le_refl _) (by omega) (by omega) hrl.symm hchk (bC fs (iq fs rows) fu) (rows.take i) (by rw [List.length_take]; omega) fs.length bf 0 0 _ P U (Nat.zero_add _) (by rw [aQ]; have := dP fs; omega)
   (by rw [List.drop_zero, ← zA, lZ]; omega) hparts hA
  rw [List.take_zero, pg] at hr
  have hr' : cK (bC fs (iq fs rows) fu) fs (rows.take i) bf P U [] (iq fs rows) false (0 : Int) (0 : Int) = _ := hr
  rw [hr', ← List.take_succ_eq_append_getElem h1]
  exact ihm fu (i + 1) P' U' (by omega) (by omega) hA'
theorem vT {fs : List ah} {rows : List (List ac)} (h : kQ fs rows) : gU fs (iq fs rows) = some (rows, 0) := by
 have hwd := h.wide
 have hf := h.room.f
 have hn := h.room.n
 have hlen : (iq fs rows).length = (WS fs).length := by unfold iq; rw [List.length_map]
 have hat : At (zJ fs rows) (RE fs (rows.drop 0)) (List.replicate (iq fs rows).length (0 : Int)) (List.replicate (iq fs rows).length (0 : Int)) := by
  refine ⟨by rw [List.length_replicate, hlen, lZ], by rw [List.length_replicate, hlen, lZ], fun k L hk => ⟨[], ?_, ?_, ?_⟩⟩
  ·unfold zJ at hk
   rw [List.getElem?_map] at hk
   obtain ⟨w, hw, rfl⟩ := Option.map_eq_some_iff.1 hk
   rw [List.nil_append, List.drop_zero, vr hw]
  ·have hkl := (List.getElem?_eq_some_iff.1 hk).1
   rw [lZ] at hkl
   rw [List.getElem?_replicate, if_pos (by omega)]; rfl
  ·have hkl := (List.getElem?_eq_some_iff.1 hk).1
   rw [lZ] at hkl
   rw [List.getElem?_replicate, if_pos (by omega)]; rfl
 have hasm := CG h rows.length bf 0 _ _ (by omega) (by rw [aQ]; omega) hat
 rw [List.take_zero] at hasm
 unfold gU
 rw [Cs (by omega), aA, h.sc, show ((0 : Int) != 0) = false from rfl, bD, ue (by omega), aA]
 rw [show (((iq fs rows).length : Int) != (((WY (bQ fs + 1) fs).map (pa p0)).length : Int)) = false by rw [hlen, List.length_map]; exact bne_self_eq_false _, bD]
 unfold jn
 rw [bL (by omega), bL (by omega), show (((iq fs rows).length : Int)).toNat = (iq fs rows).length by omega, hasm, aA]
 rfl
theorem Ag {fs : List ah} {rows : List (List ac)} (h : Ax fs rows) : dL fs rows = some true := by
 have hf := h.f
 have ht := h.t
 have hn := h.n
 unfold dL de
 rw [uM, aA, Bool.not_true, bD, ve (by omega) (pX h) (by omega), aA]
 by_cases h0 : yA fs rows = 0
 ·obtain ⟨h1, h2⟩ := u5 h0
  have hok : kQ fs rows := ⟨h, h1, h2, h0⟩
  rw [h0, show ((0 : Int) != 0) = false from rfl, bD, BL h, aA]
  unfold DG
  rw [if_neg (fun k => k h0)]
  simp only
  rw [show ((0 : Int) != 0) = false from rfl, bD, vT hok, aA]
  simp only
  rw [show ((0 : Int) == 0) = true from rfl, cL, yt (fun r hr => ?_) (by omega), aA]
  have hsr := mI hr
  refine ⟨fun v hv => ?_, by omega⟩
  obtain ⟨j, hj, rfl⟩ := List.getElem_of_mem hv
  obtain ⟨hl, hc⟩ := hok.chk hr
  have := (hc j _ (List.getElem?_eq_getElem (show j < fs.length by omega))).s
  rw [sU hj]
  exact this
 ·rw [show (yA fs rows != 0) = true by simp [h0], cL]
end Go.Proofs.YtmaemlebpjnmoaaGreatDoor
namespace Go.Proofs.YtmaemlebpjnmoaaGreatDoor
open Go Go.SX Go.SX.Cal
theorem qo : ∀ l : List ac, d8 l = (l.map dm).sum
 | [] => by simp [d8]
 | x :: l => by simp [d8, qo l]
theorem Dq (k n sc : Int) (s : ByteArray) (it : List ac) : dm ⟨k, n, sc, s, it⟩ ≤ s.size + (it.map dm).sum + 6 := by
 simp only [dm, qo]; omega
theorem qh : ∀ l : List ah, bQ l = (l.map jN).sum
 | [] => by simp [bQ]
 | x :: l => by simp [bQ, qh l]
theorem C8 (k s : Int) (fs : List ah) : gX ⟨k, s, fs⟩ ≤ (fs.map jN).sum + 4 := by
 rw [ga, qh]; simp only; omega
theorem C1 (i : Int) (n : ByteArray) (q : Bool) (t : aw) : jN ⟨i, n, q, t⟩ ≤ n.size + gX t + 4 := by
 rw [dv]; simp only; omega
def xE (r : List ac) : Nat := d8 r + 1
def qd (rows : List (List ac)) : Nat := (rows.map xE).sum
theorem sO : ∀ rows : List (List ac), qd rows = yw rows + rows.length
 | [] => by simp [qd, yw]
 | r :: rows => by
  have := sO rows
  unfold qd at this ⊢
  rw [oZ, List.map_cons, List.sum_cons, List.length_cons, this]
  unfold xE; omega
theorem B3 {fs : List ah} {rows : List (List ac)} (h1 : bQ fs ≤ 1048576) (h2 : qd rows ≤ 1048576) : dL fs rows = some true := by
 rw [sO] at h2
 exact Ag ⟨by omega, by omega, by omega⟩
end Go.Proofs.YtmaemlebpjnmoaaGreatDoor
