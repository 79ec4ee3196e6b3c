/- The calendar, in plain integers. Names, in plain terms. The fields of a type, in plain terms. The check of types and the common type, in plain terms. Texts and sound values, in plain terms. Values of a type, in plain terms; the law of Sound and Check. Rows: lists of fields. SameType: both answers are the same. CheckSchema: both answers are the same. CheckSchema, end; the law of types. Rows: CheckRows, of both sides. Adapt: fields that are found, types that widen, schemas that are adaptable. TransformType of both sides. Partitions: suits and the fields at the top, of both sides. Loops that look for the first error. Names of objects. Numbers of 256 bits: what 'times' and 'compare' compute. Comparing numbers of 256 bits. Compare, in plain terms. Compare is a total order. What the reference compares. The reference's Compare, in plain terms; the law 'ValueOrderMatchesSpec'. Values of leaves: what a check says of them; their order. Fields at the top, types of partition values, data files: both sides find the same error. Data files: both sides find the same error. Texts: their order. What is removed by keys: both sides find the same error. Snapshots: both sides find the same error. What is removed in a snapshot; all snapshots: both sides find the same error. All snapshots: both sides find the same error. -/
import Derived.Laws.Runes
import Derived.ChangeKeysEq
import Derived.Lib.Bytealg
import Derived.Sort.Statements
import Derived.Test.YtikbfjpcmalmlaaGreatDoorGeB
set_option linter.unusedVariables false
set_option linter.unusedSimpArgs false
set_option linter.unnecessarySimpa false
namespace Go.SX.Cal
open Go
theorem we {x : Int} (h1 : -9223372036854775808 ≤ x) (h2 : x ≤ 9223372036854775807) : IntKind.i64.wrap x = x := by
 simp only [IntKind.wrap, IntKind.bits, IntKind.signed]
 simp only [Bool.true_and, decide_eq_true_eq, ge_iff_le]
 split <;> omega
def S (y : Int) : Int := 365 * y + y / 4 - y / 100
def F (r : Int) : Int := r - r / 1460 + r / 36524
def OL (y : Int) : Prop := y % 4 = 0 ∧ (y % 100 ≠ 0 ∨ y % 400 = 0)
instance (y : Int) : Decidable (OL y) := by unfold OL; infer_instance
def E (y : Int) : Int := y / 400 * 146097 + S (y % 400) - 719468
end Go.SX.Cal
namespace Go.Proofs.YtikbfjpcmalmlaaGreatDoor
open Go Go.SX Go.SX.Cal
theorem aK {β : Type} (x y : Option β) : al true x y = x := rfl
theorem ap {β : Type} (x y : Option β) : al false x y = y := rfl
theorem aM {β : Type} (b : Bool) (x y : Option β) : al b x y = if b = true then x else y := by cases b <;> rfl
theorem bc : aY = 1152921504606846976 := rfl
def first (P : Nat → Bool) (i n : Nat) : Option Nat := (List.range' i (n - i)).find? P
theorem pS {P : Nat → Bool} {i n : Nat} (h : i < n) : first P i n = if P i = true then some i else first P (i + 1) n := by
 unfold first
 rw [show n - i = (n - (i + 1)) + 1 by omega, List.range'_succ, List.find?_cons]
 cases hp : P i <;> simp [hp]
theorem pJ {P : Nat → Bool} {n : Nat} : first P n n = none := by simp [first]
theorem ud {P : Nat → Bool} {i n : Nat} : first P i n = none ↔ ∀ j, i ≤ j → j < n → P j = false := by
 unfold first
 rw [List.find?_eq_none]
 constructor
 ·intro h j h1 h2
  have := h j (by rw [List.mem_range'_1]; omega)
  simpa using this
 ·intro h j hj
  rw [List.mem_range'_1] at hj
  have := h j (by omega) (by omega)
  simp [this]
theorem ph {β : Type} {f : Nat → Nat → Option β} {n : Nat} {P : Nat → Bool} {A : Nat → Option β} {B : Option β} (hstep : ∀ k i, i < n → f (k + 1) i = if P i = true then A i else f k (i + 1)) (hend : ∀ k, f (k + 1) n = B) :
  ∀ k i, i ≤ n → n - i < k → f k i = (first P i n).elim B A := by
 intro k
 induction k with
 | zero => intro i _ h; omega
 | succ k ih =>
  intro i hi hk
  by_cases h : i = n
  ·subst h
   rw [hend, pJ]; rfl
  ·rw [hstep k i (by omega), pS (by omega)]
   by_cases hp : P i = true
   ·simp [hp]
   ·simp only [hp, if_false]
    exact ih (i + 1) (by omega) (by omega)
def ke (s : ByteArray) (i : Nat) : Nat := (s.data.toList.getD i 0).toNat
theorem A0 (s : ByteArray) (i : Nat) (h : i < s.size) : (s.get! i).toNat = ke s i := by
 unfold ke
 have h' : i < s.data.size := h
 have : s.get! i = s.data.toList.getD i 0 := by
  simp only [ByteArray.get!, List.getD, Array.getElem?_toList]
  rw [getElem!_pos s.data i h', Array.getElem?_eq_getElem h']; rfl
 rw [this]
def oF (b : Nat) : Bool := decide (97 ≤ b) && decide (b ≤ 122)
def other (b : Nat) : Bool := b == 95 || (decide (48 ≤ b) && decide (b ≤ 57))
def C1 (b : Nat) : Bool := oF b || other b
theorem Jx (n : Nat) : rj (Int.ofNat n) = some (!C1 n) := by
 unfold rj gc
 simp only [aM, decide_eq_true_eq, Int.ofNat_eq_natCast]
 repeat' split
 all_goals (rw [Option.some.injEq, Bool.eq_iff_iff]; simp [C1, oF, other]; omega)
theorem zD (s : ByteArray) (i : Nat) (h : i < s.size) (hb : ke s i < 128) : Utf8.decode s i = (ke s i, 1) := by
 have e := A0 s i h
 unfold Utf8.decode
 simp [e, hb]
theorem zL (s : ByteArray) (i : Nat) (h : i < s.size) (hb : ¬ ke s i < 128) : 128 ≤ (Utf8.decode s i).1 := by
 have e := A0 s i h
 unfold Utf8.decode
 simp only [Nat.add_zero, e, if_neg hb, Utf8.runeError]
 repeat' split
 all_goals simp_all
 all_goals omega
def Lz (s : ByteArray) (i : Nat) : Bool := !C1 (ke s i)
theorem DH (s : ByteArray) : ∀ k i, i ≤ s.size → s.size - i < k → ∃ r, bR s true k i = some r ∧ (decide (0 ≤ r) = (first (Lz s) i s.size).isSome) := by
 intro k
 induction k with
 | zero => intro i _ h; omega
 | succ k ih =>
  intro i hi hk
  rw [bR]
  by_cases h : i = s.size
  ·subst h
   rw [pJ]
   simp only [Nat.lt_irrefl, decide_false, ap]
   exact ⟨-1, rfl, rfl⟩
  ·have hlt : i < s.size := by omega
   simp only [hlt, decide_true, aK, Jx, aX]
   rw [pS hlt]
   by_cases hb : ke s i < 128
   ·rw [zD s i hlt hb]
    simp only [Lz]
    by_cases hg : C1 (ke s i) = true
    ·simp only [hg, Bool.not_true, aM]
     obtain ⟨r, h1, h2⟩ := ih (i + 1) (by omega) (by omega)
     exact ⟨r, by simpa using h1, by simpa [Lz] using h2⟩
    ·simp only [hg, Bool.not_false, aM]
     exact ⟨_, rfl, by simp⟩
   ·have h1 := zL s i hlt hb
    have g1 : C1 (Utf8.decode s i).1 = false := by
     generalize (Utf8.decode s i).1 = x at h1
     simp [C1, oF, other]; omega
    have g2 : Lz s i = true := by
     simp [Lz, C1, oF, other]; omega
    simp only [g1, g2, Bool.not_false, aM]
    exact ⟨_, rfl, by simp⟩
def pL (s : ByteArray) : Bool := decide (1 ≤ s.size) && decide (s.size ≤ 24) && oF (ke s 0) && (first (Lz s) 0 s.size).isNone
theorem rA (s : ByteArray) : (s.toList == (ByteArray.mk #[]).toList) = decide (s.size = 0) := by
 rw [ByteArray.toList_eq, ByteArray.toList_eq, Bool.eq_iff_iff]
 show (s.data.toList == []) = true ↔ decide (s.data.size = 0) = true
 rw [← Array.length_toList]
 cases s.data.toList <;> simp
theorem JT (s : ByteArray) (hs : s.size < 1000000000) : pI s = some (pL s) := by
 obtain ⟨r, h1, h2⟩ := DH s aY 0 (Nat.zero_le _) (by rw [bc]; omega)
 unfold pI l4 fp gx gA
 rw [h1, rA]
 simp only [aX, h2, aM]
 by_cases z0 : s.size = 0
 ·simp [z0, pL]
 ·by_cases z1 : 24 < s.size
  ·have : ¬ s.size ≤ 24 := by omega
   simp [z0, z1, pL, this, show (24 : Int) < (s.size : Int) by omega]
  ·have hz : ¬ (24 : Int) < (s.size : Int) := by omega
   have hb : ((s.data.toList.getD (0 : Int).toNat 0).toNat : Int) = (ke s 0 : Int) := rfl
   simp only [z0, decide_false, hz, Bool.false_eq_true, if_false, hb]
   rw [fH (by omega), fH (by omega)]
   simp only [decide_eq_true_eq]
   have : s.size ≤ 24 := by omega
   by_cases q1 : ke s 0 < 97
   ·have : ¬ 97 ≤ ke s 0 := by omega
    simp [show (ke s 0 : Int) < 97 by omega, pL, oF, this]
   ·by_cases q2 : 122 < ke s 0
    ·have : ¬ ke s 0 ≤ 122 := by omega
     simp [show ¬ (ke s 0 : Int) < 97 by omega, show (122 : Int) < (ke s 0 : Int) by omega, pL, oF, this]
    ·simp [show ¬ (ke s 0 : Int) < 97 by omega, show ¬ (122 : Int) < (ke s 0 : Int) by omega, pL, oF, show 1 ≤ s.size by omega, this, show 97 ≤ ke s 0 by omega, show ke s 0 ≤ 122 by omega]
def BZ (s : ByteArray) (i : Nat) : Bool := !oF (ke s i) && (i == 0 || !other (ke s i))
theorem Ge (s : ByteArray) (hs : s.size < 1000000000) (k i : Nat) (hi : i < s.size) : dQ s (k + 1) (i : Int) = if BZ s i = true then some false else dQ s k ((i + 1 : Nat) : Int) := by
 rw [dQ, ← aM]
 have hb : ((s.data.toList.getD (i : Int).toNat 0).toNat : Int) = (ke s i : Int) := rfl
 have hw : IntKind.i64.wrap ((i : Int) + 1) = ((i + 1 : Nat) : Int) := by rw [we (by omega) (by omega)]; omega
 have hg : 0 ≤ (i : Int) ∧ (i : Int) < (s.size : Int) := by omega
 rw [show decide ((i : Int) < (s.size : Int)) = true by simp [hg.2], aK]
 simp only [rf, pd, oK, hb, hw, aX, fH hg]
 have e1 : ((ke s i : Int) == 95) = (ke s i == 95) := by rw [Bool.eq_iff_iff]; simp; omega
 have e2 : (decide ((97 : Int) ≤ ke s i)) = decide (97 ≤ ke s i) := by rw [Bool.eq_iff_iff]; simp; omega
 have e3 : (decide ((ke s i : Int) ≤ 122)) = decide (ke s i ≤ 122) := by rw [Bool.eq_iff_iff]; simp; omega
 have e4 : (decide ((48 : Int) ≤ ke s i)) = decide (48 ≤ ke s i) := by rw [Bool.eq_iff_iff]; simp; omega
 have e5 : (decide ((ke s i : Int) ≤ 57)) = decide (ke s i ≤ 57) := by rw [Bool.eq_iff_iff]; simp; omega
 have e6 : ((i : Int) == 0) = (i == 0) := by rw [Bool.eq_iff_iff]; simp
 simp only [e1, e2, e3, e4, e5, e6, BZ, oF, other]
 generalize hq : dQ s k ((i + 1 : Nat) : Int) = q
 generalize (ke s i == 95) = b1
 generalize decide (97 ≤ ke s i) = b2
 generalize decide (ke s i ≤ 122) = b3
 generalize decide (48 ≤ ke s i) = b4
 generalize decide (ke s i ≤ 57) = b5
 generalize (i == 0) = b6
 cases b1 <;> cases b2 <;> cases b3 <;> cases b4 <;> cases b5 <;> cases b6 <;> rfl
theorem Kl (s : ByteArray) (hs : s.size < 1000000000) : rt s = some (pL s) := by
 have hl := ph (f := fun k i => dQ s k (i : Int)) (n := s.size) (P := BZ s) (A := fun _ => some false) (B := some true) (fun k i hi => Ge s hs k i hi)
  (fun k => by rw [dQ]; simp only [Int.lt_irrefl, decide_false, ap]; rfl) aY 0 (Nat.zero_le _) (by rw [bc]; omega)
 have hl : dQ s aY (0 : Int) = _ := hl
 unfold rt rh
 rw [hl]
 simp only [aM]
 by_cases z0 : s.size = 0
 ·simp [z0, pL]
 ·by_cases z1 : 24 < s.size
  ·have : ¬ s.size ≤ 24 := by omega
   simp [z0, z1, pL, this, show (24 : Int) < (s.size : Int) by omega]
  ·have hz : ¬ (24 : Int) < (s.size : Int) := by omega
   have hz2 : ¬ (s.size : Int) < 1 := by omega
   simp only [hz, hz2, decide_false, Bool.false_eq_true, if_false]
   have e : (first (BZ s) 0 s.size).isNone = (oF (ke s 0) && (first (Lz s) 0 s.size).isNone) := by
    rw [Bool.eq_iff_iff, Bool.and_eq_true, Option.isNone_iff_eq_none, Option.isNone_iff_eq_none, ud, ud]
    constructor
    ·intro h
     have h0 := h 0 (Nat.le_refl _) (by omega)
     simp only [BZ, beq_self_eq_true, Bool.true_or, Bool.and_true] at h0
     have h0' : oF (ke s 0) = true := by simpa using h0
     refine ⟨h0', fun j _ hj => ?_⟩
     have h1 := h j (Nat.zero_le _) hj
     simp only [BZ, Lz, C1] at h1 ⊢
     cases hs : oF (ke s j) <;> cases ho : other (ke s j) <;> simp_all
    ·rintro ⟨h0, h⟩ j _ hj
     have h1 := h j (Nat.zero_le _) hj
     simp only [BZ, Lz, C1] at h1 ⊢
     by_cases hj0 : j = 0
     ·subst hj0; simp [h0]
     ·cases hs : oF (ke s j) <;> cases ho : other (ke s j) <;> simp_all
   have : (first (BZ s) 0 s.size).elim (some true) (fun _ => some false) = some ((first (BZ s) 0 s.size).isNone) := by cases first (BZ s) 0 s.size <;> rfl
   rw [this, e]
   simp [pL, show 1 ≤ s.size by omega, show s.size ≤ 24 by omega]
end Go.Proofs.YtikbfjpcmalmlaaGreatDoor
namespace Go.Proofs.YtikbfjpcmalmlaaGreatDoor
open Go Go.SX Go.SX.Cal
mutual
def jX : am → Nat
 | ⟨_, _, fs⟩ => eG fs + 1
def eG : List (jc am) → Nat
 | [] => 0
 | f :: l => rW f + eG l
def rW : jc am → Nat
 | ⟨_, n, _, t⟩ => n.size + jX t + 1
end
theorem i7 : ∀ {l : List ac} {x : ac}, x ∈ l → rW x ≤ eG l
 | [], _, h => by cases h
 | y :: l, x, h => by
  simp only [eG]
  rcases List.mem_cons.1 h with rfl | h
  ·omega
  ·have := i7 h; omega
theorem iz : ∀ x : ac, rW x = x.name.size + jX x.type + 1
 | ⟨_, _, _, _⟩ => by simp only [rW]
theorem nQ : ∀ x : am, jX x = eG x.fields + 1
 | ⟨_, _, _⟩ => by simp only [jX]
theorem dV : ∀ l : List ac, l.length ≤ eG l
 | [] => by simp [eG]
 | x :: l => by
  have := dV l
  have := iz x
  simp only [eG, List.length_cons]; omega
theorem az {i n : Nat} (h : i < n) (hn : n < 1000000000) : IntKind.i64.wrap ((i : Int) + 1) = ((i + 1 : Nat) : Int) := by rw [we (by omega) (by omega)]; omega
theorem aU {α : Type} {xs : List α} {i : Nat} (h : i < xs.length) : at? xs (i : Int) = some xs[i] := by unfold at?; simp [h]
theorem bg {i n : Nat} (h : i < n) : decide ((i : Int) < (n : Int)) = true := by simp [h]
def Ow (fs : List ac) (i : Nat) : ByteArray := (fs[i]?.map (·.name)).getD ByteArray.empty
theorem wj {fs : List ac} {i : Nat} (h : i < fs.length) : Ow fs i = fs[i].name := by simp [Ow, h]
def xH (fs : List ac) (i : Nat) : Bool := !pL (Ow fs i)
def NP (fs : List ac) (i j : Nat) : Bool := (Ow fs j).toList == (Ow fs i).toList
def DO (fs : List ac) (i : Nat) : Bool := (first (NP fs i) 0 i).isSome
def Gz (fs : List ac) : Bool := (first (xH fs) 0 fs.length).isSome
def EW (fs : List ac) : Bool := (first (DO fs) 0 fs.length).isSome
structure zU (fs : List ac) : Prop where
 len : fs.length < 1000000000
 nam : ∀ f ∈ fs, f.name.size < 1000000000
theorem Lo {fs : List ac} (h : eG fs < 1000000000) : zU fs :=
 ⟨by have := dV fs; omega, fun f hf => by have := i7 hf; have := iz f; omega⟩
theorem Me : ∀ f : ac, jc.mk f.id f.name f.need (am.mk f.type.kind f.type.scale f.type.fields) = f
 | ⟨_, _, _, ⟨_, _, _⟩⟩ => rfl
theorem Im {fs : List ac} (ho : zU fs) : bO fs = some (Gz fs) := by
 have hl := ph (f := fun k i => aJ fs k (i : Int)) (n := fs.length) (P := xH fs) (A := fun i => some (i : Int)) (B := some (-1)) (fun k i hi => by
   show aJ fs (k + 1) (i : Int) = _
   rw [aJ, bg hi, aK, aU hi, aX, sr, JT _ (ho.nam _ (List.getElem_mem hi)), az hi ho.len]
   simp only [aX, aM, xH, wj hi])
  (fun k => by rw [aJ]; simp only [Int.lt_irrefl, decide_false, ap]; rfl) aY 0 (Nat.zero_le _) (by rw [bc]; have := ho.len; omega)
 have hl : aJ fs aY (0 : Int) = _ := hl
 unfold bO cK
 rw [hl]
 unfold Gz
 cases first (xH fs) 0 fs.length with
 | none => rfl
 | some j => simp [aX]
theorem Ia {fs : List ac} (ho : zU fs) {i : Nat} (hi : i < fs.length) : bP ((fs.drop (0 : Int).toNat).take ((i : Int).toNat - (0 : Int).toNat)) fs[i] = some (DO fs i, fs[i]) := by
 have ep : (fs.drop (0 : Int).toNat).take ((i : Int).toNat - (0 : Int).toNat) = fs.take i := by simp
 rw [ep]
 have hlen : (fs.take i).length = i := by simp; omega
 have hl := ph (f := fun k j => ax (fs.take i) k fs[i].id fs[i].name fs[i].need fs[i].type.kind fs[i].type.scale fs[i].type.fields (j : Int)) (n := i) (P := NP fs i) (A := fun j => some ((j : Int), fs[i])) (B := some (-1, fs[i])) (fun k j hj => by
   have hj' : j < (fs.take i).length := by rw [hlen]; exact hj
   have hjf : j < fs.length := by omega
   show ax (fs.take i) (k + 1) _ _ _ _ _ _ (j : Int) = _
   rw [ax, bg hj', aK, aU hj', aX, rJ, az hj (by have := ho.len; omega)]
   simp only [aX, aM, NP, wj hi, wj hjf, List.getElem_take, Me])
  (fun k => by
   show ax (fs.take i) (k + 1) _ _ _ _ _ _ (i : Int) = _
   rw [ax]; simp only [hlen, Int.lt_irrefl, decide_false, ap, cD, Me]) aY 0 (Nat.zero_le _) (by rw [bc]; have := ho.len; omega)
 have hl : ax (fs.take i) aY _ _ _ _ _ _ (0 : Int) = _ := hl
 unfold bP cL
 rw [hl]
 unfold DO
 cases first (NP fs i) 0 i with
 | none => rfl
 | some j => simp [aX]
theorem Eh {t : am} (ho : zU t.fields) : em t aY (0 : Int) = some (if EW t.fields = true then 5 else 0) := by
 have hl := ph (f := fun k i => em t k (i : Int)) (n := t.fields.length) (P := DO t.fields) (A := fun _ => some 5) (B := some 0) (fun k i hi => by
   show em t (k + 1) (i : Int) = _
   rw [em, bg hi, aK, aU hi, aX, fH (by omega), Ia ho hi, az hi ho.len]
   simp only [aX, aM])
  (fun k => by rw [em]; simp only [Int.lt_irrefl, decide_false, ap]; rfl) aY 0 (Nat.zero_le _) (by rw [bc]; have := ho.len; omega)
 have hl : em t aY (0 : Int) = _ := hl
 rw [hl]
 unfold EW
 cases first (DO t.fields) 0 t.fields.length <;> rfl
theorem I0 {t : am} (ho : zU t.fields) (rec2 : Int → Option Int) {i : Nat} (hi : i < t.fields.length) : fd rec2 t (i : Int) aY (0 : Int) = if DO t.fields i = true then some 5 else rec2 ((i + 1 : Nat) : Int) := by
 have hl := ph (f := fun k j => fd rec2 t (i : Int) k (j : Int)) (n := i) (P := NP t.fields i) (A := fun j => some 5) (B := rec2 ((i + 1 : Nat) : Int)) (fun k j hj => by
   have hjf : j < t.fields.length := by omega
   show fd rec2 t (i : Int) (k + 1) (j : Int) = _
   rw [fd, bg hj, aK, aU hjf, aU hi, az hj (by have := ho.len; omega)]
   simp only [aX, aM, NP, wj hi, wj hjf])
  (fun k => by
   show fd rec2 t (i : Int) (k + 1) (i : Int) = _
   rw [fd]; simp only [Int.lt_irrefl, decide_false, ap, tG]; rw [az hi ho.len]) aY 0 (Nat.zero_le _) (by rw [bc]; have := ho.len; omega)
 have hl : fd rec2 t (i : Int) aY (0 : Int) = _ := hl
 rw [hl]
 unfold DO
 cases first (NP t.fields i) 0 i <;> simp
theorem J2 {t : am} (ho : zU t.fields) : eE t aY (0 : Int) = some (if EW t.fields = true then 5 else 0) := by
 have hl := ph (f := fun k i => eE t k (i : Int)) (n := t.fields.length) (P := DO t.fields) (A := fun _ => some 5) (B := some 0) (fun k i hi => by
   show eE t (k + 1) (i : Int) = _
   rw [eE, bg hi, aK, I0 ho _ hi])
  (fun k => by rw [eE]; simp only [Int.lt_irrefl, decide_false, ap]; rfl) aY 0 (Nat.zero_le _) (by rw [bc]; have := ho.len; omega)
 have hl : eE t aY (0 : Int) = _ := hl
 rw [hl]
 unfold EW
 cases first (DO t.fields) 0 t.fields.length <;> rfl
theorem JN {t : am} (ho : zU t.fields) : fU t aY (0 : Int) = some (if Gz t.fields = true then 4 else if EW t.fields = true then 5 else 0) := by
 have hl := ph (f := fun k i => fU t k (i : Int)) (n := t.fields.length) (P := xH t.fields) (A := fun _ => some 4) (B := some (if EW t.fields = true then 5 else 0)) (fun k i hi => by
   show fU t (k + 1) (i : Int) = _
   rw [fU, bg hi, aK, aU hi, aX, Kl _ (ho.nam _ (List.getElem_mem hi)), az hi ho.len]
   simp only [aX, aM, xH, wj hi])
  (fun k => by rw [fU]; simp only [Int.lt_irrefl, decide_false, ap, tr]; exact J2 ho) aY 0 (Nat.zero_le _) (by rw [bc]; have := ho.len; omega)
 have hl : fU t aY (0 : Int) = _ := hl
 rw [hl]
 unfold Gz
 cases first (xH t.fields) 0 t.fields.length <;> rfl
def vf (t : am) : Int :=
 if t.kind = 6 then (if t.fields.length ≠ 1 ∨ (Ow t.fields 0).size ≠ 0 then 1 else 0)
 else if t.kind ≠ 7 then (if 0 < t.fields.length then 1 else 0)
 else if t.fields.length = 0 then 1 else if Gz t.fields = true then 4 else if EW t.fields = true then 5 else 0
def Bq (t : am) : Prop := t.scale ≠ 0 ∧ (t.kind ≠ 3 ∨ t.scale < 0 ∨ 12 < t.scale)
instance (t : am) : Decidable (Bq t) := by unfold Bq; infer_instance
def shp (t : am) : Int := if t.kind < 1 ∨ 7 < t.kind then 3 else if Bq t then 1 else vf t
theorem KZ {t : am} (ho : zU t.fields) : rl t = some (vf t) := by
 unfold rl od vf
 rw [Im ho, Eh ho]
 simp only [aX, aM]
 by_cases h6 : t.kind = 6
 ·simp only [h6, beq_self_eq_true, if_true]
  by_cases hl : t.fields.length = 1
  ·have : (0 : Nat) < t.fields.length := by omega
   rw [show at? t.fields (0 : Int) = some t.fields[0] from aU (i := 0) this]
   simp only [hl, aX, rA, wj this]
   by_cases hz : t.fields[0].name.size = 0 <;> simp [hz]
  ·simp [hl, show ((t.fields.length : Int) = 1) = False from eq_false (by omega)]
 ·by_cases h7 : t.kind = 7
  ·simp [h7]
   by_cases hl : t.fields = []
   ·simp [hl]
   ·simp [hl]
    by_cases hb : Gz t.fields = true
    ·simp [hb]
    ·simp [hb]
  ·simp [h6, h7]
   by_cases hl : 0 < t.fields.length
   ·simp [hl]
   ·simp [hl]
theorem Nh {t : am} (ho : zU t.fields) : uj t = some (shp t) := by
 have hj3 : ∀ x, jB t x = if x = true then some 1 else if t.kind ≠ 7 then some 0 else some (if Gz t.fields = true then 4 else if EW t.fields = true then 5 else 0) := by
  intro x
  unfold jB
  rw [JN ho]
  cases x <;> simp [aM]
 have hleaf : gn t.kind = some (decide (t.kind ≠ 6 ∧ t.kind ≠ 7)) := by
  unfold gn oG
  by_cases h6 : t.kind = 6 <;> by_cases h7 : t.kind = 7 <;> simp [h6, h7, aM]
 have hj1 : ∀ x, jC t x = if x = true then some 1 else some (vf t) := by
  intro x
  cases x with
  | true => rfl
  | false =>
   unfold jC nU vf
   rw [hleaf]
   simp only [aM, aX, hj3]
   by_cases h6 : t.kind = 6
   ·simp only [h6, beq_self_eq_true, if_true]
    by_cases hl : t.fields.length = 1
    ·have : (0 : Nat) < t.fields.length := by omega
     rw [show at? t.fields (0 : Int) = some t.fields[0] from aU (i := 0) this]
     simp only [hl, aX, rA, wj this]
     by_cases hz : t.fields[0].name.size = 0 <;> simp [hz]
    ·simp [hl, show ((t.fields.length : Int) = 1) = False from eq_false (by omega)]
   ·by_cases h7 : t.kind = 7
    ·simp [h7]
     by_cases hl : t.fields = []
     ·simp [hl]
     ·simp [hl]
    ·simp [h6, h7]
     by_cases hl : 0 < t.fields.length
     ·simp [hl]
     ·simp [hl]
 unfold uj shp fE mN
 simp only [aM, hj1, aX]
 by_cases a1 : t.kind < 1
 ·simp [a1, show ¬ (1 : Int) ≤ t.kind by omega, aX]
 ·by_cases a2 : 7 < t.kind
  ·simp [a2, show (1 : Int) ≤ t.kind by omega, show ¬ t.kind ≤ 7 by omega, aX]
  ·simp only [a1, a2, show (1 : Int) ≤ t.kind by omega, show t.kind ≤ 7 by omega, decide_true, or_self, if_false, if_true, Bool.not_true, aX]
   unfold Bq
   by_cases h3 : t.kind = 3
   ·by_cases b1 : t.scale < 0
    ·simp [h3, b1, show ¬ (0 : Int) ≤ t.scale by omega, show t.scale ≠ 0 by omega, aX]
    ·by_cases b2 : 12 < t.scale
     ·simp [h3, b1, b2, show (0 : Int) ≤ t.scale by omega, show ¬ t.scale ≤ 12 by omega, show t.scale ≠ 0 by omega, aX]
     ·simp [h3, b1, b2, show (0 : Int) ≤ t.scale by omega, show t.scale ≤ 12 by omega, aX]
   ·by_cases b0 : t.scale = 0 <;> simp [h3, b0]
end Go.Proofs.YtikbfjpcmalmlaaGreatDoor
namespace Go.Proofs.YtikbfjpcmalmlaaGreatDoor
open Go Go.SX Go.SX.Cal
inductive V : am → Prop where
 | mk (t : am) (h1 : shp t = 0) (h2 : ∀ f, f ∈ t.fields → V f.type) : V t
theorem OV (t : am) : rE t = some (decide (t.kind ≠ 6 ∧ t.kind ≠ 7)) := by
 unfold rE qh
 by_cases h6 : t.kind = 6 <;> by_cases h7 : t.kind = 7 <;> simp [h6, h7, aM]
theorem Cg (k : Int) : gn k = some (decide (k ≠ 6 ∧ k ≠ 7)) := by
 unfold gn oG
 by_cases h6 : k = 6 <;> by_cases h7 : k = 7 <;> simp [h6, h7, aM]
theorem Lb {t : am} (ho : zU t.fields) (q : am → Int → dt → Option (Int × dt)) (l z : Int) :
  fm q t l z = if shp t ≠ 0 then some (shp t, ⟨z⟩) else cT q t l aY z 0 := by
 have hj4 : ∀ x, ei q t l z x = if x = true then some (1, ⟨z⟩) else if vf t ≠ 0 then some (vf t, ⟨z⟩) else cT q t l aY z 0 := by
  intro x
  unfold ei
  rw [KZ ho]
  cases x <;> simp [aM, aX]
 unfold fm js shp
 simp only [aM, hj4]
 by_cases a1 : t.kind < 1
 ·simp [a1]
 ·by_cases a2 : 7 < t.kind
  ·simp [a1, a2]
  ·simp only [a1, a2, decide_false, or_self, if_false, Bool.false_eq_true]
   unfold Bq
   by_cases b0 : t.scale = 0
   ·simp [b0]
   ·by_cases h3 : t.kind = 3
    ·by_cases b1 : t.scale < 0
     ·simp [b0, h3, b1]
     ·by_cases b2 : 12 < t.scale
      ·simp [b0, h3, b1, b2]
      ·simp [b0, h3, b1, b2]
    ·simp [b0, h3]
theorem L0 {t : am} (ho : zU t.fields) (q : am → Int → Int → Option (Int × Int)) (l z : Int) :
  i6 q t l z = if shp t ≠ 0 then some (shp t, z) else fM q t l aY z 0 := by
 unfold i6
 rw [Nh ho]
 simp [aM, aX]
theorem Re {t : am} (h : shp t = 0) (hf : ∀ f ∈ t.fields, V f.type) : V t := .mk t h hf
theorem FG {t : am} (ho : zU t.fields) (l : Int) (hl0 : -10 ≤ l) (hl1 : l ≤ 10) (q1 : am → Int → dt → Option (Int × dt)) (q2 : am → Int → Int → Option (Int × Int))
  (hq : ∀ f ∈ t.fields, ∀ n : Int, 0 ≤ n → n ≤ 40 → ∃ e m, q1 f.type (l + 1) ⟨n⟩ = some (e, ⟨m⟩) ∧ q2 f.type (l + 1) n = some (e, m) ∧ 0 ≤ m ∧ m ≤ 40 ∧ (e = 0 → V f.type)) :
  ∀ (kk i : Nat) (n : Int), i ≤ t.fields.length → t.fields.length - i < kk → 0 ≤ n → n ≤ 40 →
   ∃ e m, cT q1 t l kk n (i : Int) = some (e, ⟨m⟩) ∧ fM q2 t l kk n (i : Int) = some (e, m) ∧ 0 ≤ m ∧ m ≤ 40 ∧ (e = 0 → ∀ j, i ≤ j → ∀ h : j < t.fields.length, V t.fields[j].type) := by
 intro kk
 induction kk with
 | zero => intro i n _ h; omega
 | succ kk ih =>
  intro i n hi hk n0 n1
  rw [cT, fM]
  by_cases h : i = t.fields.length
  ·subst h
   simp only [Int.lt_irrefl, decide_false, ap]
   exact ⟨0, n, rfl, rfl, n0, n1, fun _ j h1 h2 => by omega⟩
  ·have hlt : i < t.fields.length := by omega
   rw [bg hlt, aK, aK, aU hlt, aX, aX, we (x := l + 1) (by omega) (by omega), az hlt ho.len]
   obtain ⟨e, m, h1, h2, h3, h4, h5⟩ := hq _ (List.getElem_mem hlt) n n0 n1
   rw [h1, h2]
   simp only [aX, aM]
   by_cases he : e = 0
   ·obtain ⟨e', m', g1, g2, g3, g4, g5⟩ := ih (i + 1) m (by omega) (by omega) h3 h4
    refine ⟨e', m', by simpa [he] using g1, by simpa [he] using g2, g3, g4, fun h0 j hj hjl => ?_⟩
    by_cases hji : j = i
    ·subst hji; exact h5 he
    ·exact g5 h0 j (by omega) hjl
   ·exact ⟨e, m, by simp [he], by simp [he], h3, h4, fun h0 => absurd h0 he⟩
theorem Kv : ∀ (d k : Nat) (t : am) (l n : Int), l = 5 - d → d ≤ 5 → d < k → jX t < 1000000000 → 0 ≤ n → n ≤ 40 →
  ∃ e m, bC k t l ⟨n⟩ = some (e, ⟨m⟩) ∧ dX k t l n = some (e, m) ∧ 0 ≤ m ∧ m ≤ 40 ∧ (e = 0 → V t) := by
 intro d
 induction d with
 | zero =>
  intro k t l n hl _ hk hs n0 n1
  obtain ⟨k, rfl⟩ : ∃ k', k = k' + 1 := ⟨k - 1, by omega⟩
  have hl4 : (4 : Int) < l := by omega
  rw [bC, dX]
  simp only [hl4, decide_true, aK, fi]
  exact ⟨7, n, rfl, rfl, n0, n1, fun h => by omega⟩
 | succ d ih =>
  intro k t l n hl hd hk hs n0 n1
  obtain ⟨k, rfl⟩ : ∃ k', k = k' + 1 := ⟨k - 1, by omega⟩
  have hl4 : ¬ (4 : Int) < l := by omega
  have hsz := nQ t
  have ho : zU t.fields := Lo (by omega)
  have hq : ∀ f ∈ t.fields, ∀ n : Int, 0 ≤ n → n ≤ 40 → ∃ e m, bC k f.type (l + 1) ⟨n⟩ = some (e, ⟨m⟩) ∧ dX k f.type (l + 1) n = some (e, m) ∧ 0 ≤ m ∧ m ≤ 40 ∧ (e = 0 → V f.type) := by
   intro f hf n n0 n1
   have h1 := i7 hf
   have h2 := iz f
   exact ih k f.type (l + 1) n (by omega) (by omega) (by omega) (by omega) n0 n1
  have main : ∀ z : Int, 0 ≤ z → z ≤ 40 → ∃ e m, fm (bC k) t l z = some (e, ⟨m⟩) ∧ i6 (dX k) t l z = some (e, m) ∧ 0 ≤ m ∧ m ≤ 40 ∧ (e = 0 → V t) := by
   intro z z0 z1
   rw [Lb ho, L0 ho]
   by_cases hsh : shp t = 0
   ·obtain ⟨e, m, h1, h2, h3, h4, h5⟩ := FG ho l (by omega) (by omega) _ _ hq aY 0 z (Nat.zero_le _) (by rw [bc]; have := ho.len; omega) z0 z1
    refine ⟨e, m, by simpa [hsh] using h1, by simpa [hsh] using h2, h3, h4, fun he => Re hsh (fun f hf => ?_)⟩
    obtain ⟨j, hj, rfl⟩ := List.getElem_of_mem hf
    exact h5 he j (Nat.zero_le _) hj
   ·exact ⟨shp t, z, by simp [hsh], by simp [hsh], z0, z1, fun h => absurd h hsh⟩
  rw [bC, dX]
  simp only [hl4, decide_false, ap, OV, Cg, aX, fi]
  by_cases hleaf : t.kind ≠ 6 ∧ t.kind ≠ 7
  ·simp only [hleaf, ne_eq, not_false_eq_true, and_self, decide_true, aK]
   by_cases h40 : n = 40
   ·simp only [h40, beq_self_eq_true, aK]
    exact ⟨7, 40, rfl, rfl, by omega, by omega, fun h => by omega⟩
   ·have : (n == 40) = false := by simpa using h40
    simp only [this, ap]
    rw [we (x := n + 1) (by omega) (by omega)]
    exact main (n + 1) (by omega) (by omega)
  ·simp only [hleaf, decide_false, ap]
   exact main n n0 n1
theorem nj (t : am) (hs : jX t < 1000000000) : ∃ e, fc t = some e ∧ iR t = some e ∧ (e = 0 → V t) := by
 obtain ⟨e, m, h1, h2, h3, h4, h5⟩ := Kv 4 aY t 1 0 (by omega) (by omega) (by rw [bc]; omega) hs (by omega) (by omega)
 refine ⟨e, ?_, ?_, h5⟩
 ·unfold fc; rw [h1]; rfl
 ·unfold iR; rw [h2]; rfl
end Go.Proofs.YtikbfjpcmalmlaaGreatDoor
namespace Go.Proofs.YtikbfjpcmalmlaaGreatDoor
open Go Go.SX Go.SX.Cal Go.Lib
mutual
def eu : af → Nat
 | ⟨_, _, _, s, it⟩ => s.size + mt it + 1
def mt : List af → Nat
 | [] => 0
 | x :: l => eu x + mt l
end
theorem wh : ∀ v : af, eu v = v.s.size + mt v.items + 1
 | ⟨_, _, _, _, _⟩ => by simp only [eu]
theorem l9 : ∀ {l : List af} {x : af}, x ∈ l → eu x ≤ mt l
 | [], _, h => by cases h
 | y :: l, x, h => by
  simp only [mt]
  rcases List.mem_cons.1 h with rfl | h
  ·omega
  ·have := l9 h; omega
theorem tY : ∀ v : af, 1 ≤ eu v
 | ⟨_, _, _, _, _⟩ => by simp only [eu]; omega
theorem nc : ∀ l : List af, l.length ≤ mt l
 | [] => by simp [mt]
 | x :: l => by
  have := nc l
  have := tY x
  simp only [mt, List.length_cons]; omega
theorem AQ (b x : Bool) : al b (some x) (some false) = some (b && x) := by cases b <;> rfl
theorem cE {α β : Type} (a : α) (f : α → Option β) : aB (some a) f = f a := rfl
theorem BN {P : Nat → Bool} {n : Nat} : ∀ (d i : Nat), i + d ≤ n → (∀ j, i ≤ j → j < i + d → P j = false) → first P i n = first P (i + d) n
 | 0, i, _, _ => rfl
 | d + 1, i, h, hP => by
  rw [pS (by omega), hP i (by omega) (by omega)]
  simp only [Bool.false_eq_true, if_false]
  rw [BN d (i + 1) (by omega) (fun j h1 h2 => hP j (by omega) (by omega))]
  congr 1; omega
theorem D9 (s : ByteArray) (i : Nat) (h : i < s.size) (hb : ¬ ke s i < 128) :
  1 ≤ (Utf8.decode s i).2 ∧ i + (Utf8.decode s i).2 ≤ s.size ∧ ∀ j, i ≤ j → j < i + (Utf8.decode s i).2 → 128 ≤ ke s j := by
 have e := A0 s i h
 have one : ∀ j, i ≤ j → j < i + 1 → 128 ≤ ke s j := fun j h1 h2 => by
  have : j = i := by omega
  subst this; omega
 have ct : ∀ k, (decide (i + k < s.size) && (s.get! (i + k)).toNat / 64 == 2) = true → i + k < s.size ∧ 128 ≤ ke s (i + k) := by
  intro k hk
  simp only [Bool.and_eq_true, decide_eq_true_eq, beq_iff_eq] at hk
  rw [A0 s _ hk.1] at hk
  exact ⟨hk.1, by omega⟩
 unfold Utf8.decode
 simp only [Nat.add_zero, e, if_neg hb]
 split
 ·rename_i h1
  simp only [Bool.and_eq_true] at h1
  obtain ⟨l1, b1⟩ := ct 1 (by simpa using h1.2)
  split
  ·refine ⟨by simp, by simp only; omega, fun j h2 h3 => ?_⟩
   simp only at h3
   by_cases hj : j = i
   ·subst hj; omega
   ·have : j = i + 1 := by omega
    subst this; exact b1
  ·exact ⟨by simp, by simp only; omega, one⟩
 ·split
  ·rename_i h1
   simp only [Bool.and_eq_true] at h1
   obtain ⟨l1, b1⟩ := ct 1 (by simpa using h1.1.2)
   obtain ⟨l2, b2⟩ := ct 2 (by simpa using h1.2)
   split
   ·refine ⟨by simp, by simp only; omega, fun j h2 h3 => ?_⟩
    simp only at h3
    by_cases hj : j = i
    ·subst hj; omega
    ·by_cases hj : j = i + 1
     ·subst hj; exact b1
     ·have : j = i + 2 := by omega
      subst this; exact b2
   ·exact ⟨by simp, by simp only; omega, one⟩
  ·split
   ·rename_i h1
    simp only [Bool.and_eq_true] at h1
    obtain ⟨l1, b1⟩ := ct 1 (by simpa using h1.1.1.2)
    obtain ⟨l2, b2⟩ := ct 2 (by simpa using h1.1.2)
    obtain ⟨l3, b3⟩ := ct 3 (by simpa using h1.2)
    split
    ·refine ⟨by simp, by simp only; omega, fun j h2 h3 => ?_⟩
     simp only at h3
     by_cases hj : j = i
     ·subst hj; omega
     ·by_cases hj : j = i + 1
      ·subst hj; exact b1
      ·by_cases hj : j = i + 2
       ·subst hj; exact b2
       ·have : j = i + 3 := by omega
        subst this; exact b3
    ·exact ⟨by simp, by simp only; omega, one⟩
   ·exact ⟨by simp, by simp only; omega, one⟩
def Fj (s : ByteArray) (i : Nat) : Bool := decide (ke s i < 32) || ke s i == 127
theorem zFS (s : ByteArray) : ∀ k i, i ≤ s.size → s.size - i < k → iG s k i = some (first (Fj s) i s.size).isNone := by
 intro k
 induction k with
 | zero => intro i _ h; omega
 | succ k ih =>
  intro i hi hk
  rw [iG]
  by_cases h : i = s.size
  ·subst h
   rw [pJ]
   simp only [Nat.lt_irrefl, decide_false, ap, th]
   rfl
  ·have hlt : i < s.size := by omega
   simp only [hlt, decide_true, aK, pY, aM]
   by_cases hb : ke s i < 128
   ·rw [zD s i hlt hb, pS hlt]
    by_cases h1 : ke s i < 32
    ·have : Fj s i = true := by simp [Fj, h1]
     simp [this, show ((ke s i : Nat) : Int) < 32 by omega]
    ·have e1 : ¬ ((ke s i : Nat) : Int) < 32 := by omega
     by_cases h2 : ke s i = 127
     ·have : Fj s i = true := by simp [Fj, h2]
      simp [this, h2]
     ·have : Fj s i = false := by simp [Fj, h1, h2]
      have e2 : ¬ ((ke s i : Nat) : Int) = 127 := by omega
      simp only [this, Int.ofNat_eq_natCast, e1, decide_false, Bool.false_eq_true, if_false, beq_iff_eq, e2]
      exact ih (i + 1) (by omega) (by omega)
   ·have h1 := zL s i hlt hb
    obtain ⟨h2, h3, h4⟩ := D9 s i hlt hb
    have e1 : ¬ (((Utf8.decode s i).1 : Nat) : Int) < 32 := by omega
    have e2 : ¬ (((Utf8.decode s i).1 : Nat) : Int) = 127 := by omega
    simp only [Int.ofNat_eq_natCast, e1, decide_false, Bool.false_eq_true, if_false, beq_iff_eq, e2]
    rw [ih _ h3 (by omega), BN _ i h3 (fun j a b => by
     have := h4 j a b
     simp only [Fj, Bool.or_eq_false_iff, decide_eq_false_iff_not, beq_eq_false_iff_ne]
     omega)]
    simp
theorem Fq (s : ByteArray) (hs : s.size < 1000000000) : ∀ k i, i ≤ s.size → s.size - i < k → ef s k (i : Int) = some (first (Fj s) i s.size).isNone := by
 intro k
 induction k with
 | zero => intro i _ h; omega
 | succ k ih =>
  intro i hi hk
  rw [ef]
  by_cases h : i = s.size
  ·subst h
   rw [pJ]
   simp only [Int.lt_irrefl, decide_false, ap, ov]
   rfl
  ·have hlt : i < s.size := by omega
   have g : (0 : Int) ≤ (i : Int) ∧ (i : Int) < (s.size : Int) := ⟨by omega, by omega⟩
   have e : ((s.data.toList.getD (i : Int).toNat 0).toNat : Int) = (ke s i : Int) := by simp [ke]
   simp only [bg hlt, aK, nC, if_pos g, cE, lC, aM, e]
   rw [pS hlt, az hlt hs]
   by_cases h1 : ke s i < 32
   ·have : Fj s i = true := by simp [Fj, h1]
    simp [this, show ((ke s i : Nat) : Int) < 32 by omega]
   ·have e1 : ¬ ((ke s i : Nat) : Int) < 32 := by omega
    by_cases h2 : ke s i = 127
    ·have : Fj s i = true := by simp [Fj, h2]
     simp [this, h2]
    ·have : Fj s i = false := by simp [Fj, h1, h2]
     have e2 : ¬ ((ke s i : Nat) : Int) = 127 := by omega
     simp only [this, e1, decide_false, Bool.false_eq_true, if_false, beq_iff_eq, e2]
     exact ih (i + 1) (by omega) (by omega)
def vj (s : ByteArray) : Bool := decide (s.size ≤ 256) && (validD s.data.toList && (first (Fj s) 0 s.size).isNone)
theorem I8 (s : ByteArray) (hs : s.size < 1000000000) : utf8_ValidString s = some (validD s.data.toList) := by
 unfold utf8_ValidString nC
 rw [if_pos (by omega)]
theorem PB (s : ByteArray) (hs : s.size < 1000000000) : uD s = some (vj s) := by
 unfold uD qm vj
 rw [I8 s hs, zFS s aY 0 (by omega) (by rw [bc]; omega)]
 by_cases h : s.size ≤ 256
 ·have : ¬ (256 : Int) < (s.size : Int) := by omega
  simp only [this, h, decide_false, decide_true, ap, cE]
  cases validD s.data.toList <;> rfl
 ·have : (256 : Int) < (s.size : Int) := by omega
  simp only [this, h, decide_false, decide_true, aK]
  rfl
theorem NW (s : ByteArray) (hs : s.size < 1000000000) : n5 s = some (vj s) := by
 have := Fq s hs aY 0 (by omega) (by rw [bc]; omega)
 unfold n5 lN vj
 rw [I8 s hs, show (0 : Int) = ((0 : Nat) : Int) from rfl, this]
 by_cases h : s.size ≤ 256
 ·have e : ¬ (256 : Int) < (s.size : Int) := by omega
  simp only [e, h, decide_false, decide_true, cE]
  cases validD s.data.toList <;> rfl
 ·have e : (256 : Int) < (s.size : Int) := by omega
  simp only [e, h, decide_false, decide_true, cE]
  cases validD s.data.toList <;> rfl
theorem LR (a b c : Int) : ga a b c = some (decide (b ≤ a) && decide (a ≤ c)) := by
 unfold ga lY; exact AQ _ _
theorem L5 (a b c : Int) : fE a b c = some (decide (b ≤ a) && decide (a ≤ c)) := by
 unfold fE mN; exact AQ _ _
def kT (v : af) : Bool :=
 let bare := v.n == 0 && v.scale == 0
 let noS := decide (v.s.size = 0)
 let noI := ((v.items.length : Int) == 0)
 if v.kind = 0 then bare && (noS && noI)
 else if v.kind = 1 then (decide (0 ≤ v.n) && decide (v.n ≤ 1)) && (v.scale == 0 && (noS && noI))
 else if v.kind = 2 then (decide (-999999999999999999 ≤ v.n) && decide (v.n ≤ 999999999999999999)) && (v.scale == 0 && (noS && noI))
 else if v.kind = 3 then (decide (-999999999999999999 ≤ v.n) && decide (v.n ≤ 999999999999999999)) && ((decide (0 ≤ v.scale) && decide (v.scale ≤ 12)) && (noS && noI))
 else if v.kind = 4 then bare && (vj v.s && noI)
 else if v.kind = 5 then (decide (-62135596800 ≤ v.n) && decide (v.n ≤ 253402300799)) && (v.scale == 0 && (noS && noI))
 else if v.kind = 6 then bare && (noS && decide ((v.items.length : Int) ≤ 64))
 else if v.kind = 7 then bare && (noS && decide ((0 : Int) < (v.items.length : Int)))
 else false
theorem M5 (v : af) (hs : v.s.size < 1000000000) : sQ v = some (kT v) := by
 have j : ∀ x, m7 v x = some (if v.kind = 0 then x && (decide (v.s.size = 0) && ((v.items.length : Int) == 0))
   else if v.kind = 1 then (decide (0 ≤ v.n) && decide (v.n ≤ 1)) && (v.scale == 0 && (decide (v.s.size = 0) && ((v.items.length : Int) == 0)))
   else if v.kind = 2 then (decide (-999999999999999999 ≤ v.n) && decide (v.n ≤ 999999999999999999)) && (v.scale == 0 && (decide (v.s.size = 0) && ((v.items.length : Int) == 0)))
   else if v.kind = 3 then (decide (-999999999999999999 ≤ v.n) && decide (v.n ≤ 999999999999999999)) && ((decide (0 ≤ v.scale) && decide (v.scale ≤ 12)) && (decide (v.s.size = 0) && ((v.items.length : Int) == 0)))
   else if v.kind = 4 then x && (vj v.s && ((v.items.length : Int) == 0))
   else if v.kind = 5 then (decide (-62135596800 ≤ v.n) && decide (v.n ≤ 253402300799)) && (v.scale == 0 && (decide (v.s.size = 0) && ((v.items.length : Int) == 0)))
   else if v.kind = 6 then x && (decide (v.s.size = 0) && decide ((v.items.length : Int) ≤ 64))
   else if v.kind = 7 then x && (decide (v.s.size = 0) && decide ((0 : Int) < (v.items.length : Int)))
   else false) := by
  intro x
  unfold m7 mW lm ld lj mQ lq mZ mS
  simp only [LR, PB v.s hs, cE, AQ, rA]
  simp only [aM, beq_iff_eq]
  repeat' split
  all_goals (first | rfl | simp_all)
 unfold sQ
 rw [j, j]
 unfold kT
 cases v.n == 0
 ·simp only [ap, Bool.false_and]
 ·simp only [aK, Bool.true_and]
theorem M3 (v : af) (hs : v.s.size < 1000000000) : u6 v = some (kT v) := by
 have j : ∀ x, nV v x = some (if v.kind = 0 then x && (v.n == 0 && v.scale == 0)
   else if v.kind = 1 then x && ((decide (0 ≤ v.n) && decide (v.n ≤ 1)) && v.scale == 0)
   else if v.kind = 2 then x && ((decide (-999999999999999999 ≤ v.n) && decide (v.n ≤ 999999999999999999)) && v.scale == 0)
   else if v.kind = 3 then x && ((decide (-999999999999999999 ≤ v.n) && decide (v.n ≤ 999999999999999999)) && (decide (0 ≤ v.scale) && decide (v.scale ≤ 12)))
   else if v.kind = 4 then ((v.items.length : Int) == 0) && (v.n == 0 && (v.scale == 0 && vj v.s))
   else if v.kind = 5 then x && ((decide (-62135596800 ≤ v.n) && decide (v.n ≤ 253402300799)) && v.scale == 0)
   else if v.kind = 6 then decide (v.s.size = 0) && (v.n == 0 && (v.scale == 0 && decide ((v.items.length : Int) ≤ 64)))
   else if v.kind = 7 then decide (v.s.size = 0) && (v.n == 0 && (v.scale == 0 && decide ((0 : Int) < (v.items.length : Int))))
   else false) := by
  intro x
  unfold nV nI nH nE nD l8 nZ l6 ma
  simp only [L5, NW v.s hs, cE, AQ, rA]
  simp only [aM, beq_iff_eq]
  repeat' split
  all_goals (first | rfl | simp_all)
 unfold u6
 rw [j, j, rA]
 unfold kT
 generalize decide (v.s.size = 0) = a
 generalize ((v.items.length : Int) == 0) = b
 generalize vj v.s = t
 generalize (v.n == 0) = c
 generalize (v.scale == 0) = d
 generalize (decide (0 ≤ v.n) && decide (v.n ≤ 1)) = e1
 generalize (decide (-999999999999999999 ≤ v.n) && decide (v.n ≤ 999999999999999999)) = e2
 generalize (decide (0 ≤ v.scale) && decide (v.scale ≤ 12)) = e3
 generalize (decide (-62135596800 ≤ v.n) && decide (v.n ≤ 253402300799)) = e4
 generalize decide ((v.items.length : Int) ≤ 64) = e5
 generalize decide ((0 : Int) < (v.items.length : Int)) = e6
 cases a <;> simp only [ap, aK] <;> congr 1 <;> repeat' split
 all_goals (first | rfl | (cases b <;> cases c <;> cases d <;> simp <;> done) | (simp [Bool.and_comm, Bool.and_assoc, Bool.and_left_comm]))
def mY (f : af → Int → Bool × Int) : List af → Int → Bool × Int
 | [], z => (true, z)
 | v :: l, z => if (f v z).1 = true then mY f l (f v z).2 else (false, (f v z).2)
def AP (v : af) (z : Int) : Int := if v.kind = 0 then z else z + 1
def jt : Nat → af → Int → Bool × Int
 | 0, v, z => (false, AP v z)
 | d + 1, v, z => if 256 < AP v z ∨ kT v = false then (false, AP v z) else mY (jt d) v.items (AP v z)
def xI (v : af) : Bool := (jt 4 v 0).1
theorem Cn {f : af → Int → Bool × Int} : ∀ {l : List af} {z : Int}, (∀ v ∈ l, ∀ z, 0 ≤ z → z ≤ 256 → 0 ≤ (f v z).2 ∧ (f v z).2 ≤ 257 ∧ ((f v z).1 = true → (f v z).2 ≤ 256)) → 0 ≤ z → z ≤ 256 →
  0 ≤ (mY f l z).2 ∧ (mY f l z).2 ≤ 257 ∧ ((mY f l z).1 = true → (mY f l z).2 ≤ 256)
 | [], z, _, h0, h1 => by simp only [mY]; omega
 | v :: l, z, hf, h0, h1 => by
  obtain ⟨a, b, c⟩ := hf v (by simp) z h0 h1
  simp only [mY]
  split
  ·rename_i h
   exact Cn (fun x hx => hf x (by simp [hx])) a (c h)
  ·exact ⟨a, b, fun h => by cases h⟩
theorem zE : ∀ (d : Nat) (v : af) (z : Int), 0 ≤ z → z ≤ 256 → 0 ≤ (jt d v z).2 ∧ (jt d v z).2 ≤ 257 ∧ ((jt d v z).1 = true → (jt d v z).2 ≤ 256)
 | 0, v, z, h0, h1 => by
  have hc : z ≤ AP v z ∧ AP v z ≤ z + 1 := by unfold AP; split <;> omega
  simp only [jt]
  exact ⟨by omega, by omega, fun h => by cases h⟩
 | d + 1, v, z, h0, h1 => by
  have hc : z ≤ AP v z ∧ AP v z ≤ z + 1 := by unfold AP; split <;> omega
  simp only [jt]
  split
  ·exact ⟨by omega, by omega, fun h => by cases h⟩
  ·rename_i h
   have : ¬ 256 < AP v z := fun e => h (.inl e)
   exact Cn (fun x _ => zE d x) (by omega) (by omega)
theorem yK (v : af) (z : Int) (h0 : 0 ≤ z) (h1 : z ≤ 256) {β : Type} (f : Int → Option β) : al (v.kind != (0 : Int)) (f (IntKind.i64.wrap (z + 1))) (f z) = f (AP v z) := by
 rw [we (by omega) (by omega)]
 unfold AP
 by_cases h : v.kind = 0
 ·simp [h, aM]
 ·simp [h, aM]
theorem DU {d : Nat} (l : Int) (q : af → Int → Int → Option (Bool × Int)) (xs : List af) (hl : xs.length < 1000000000)
  (hq : ∀ v ∈ xs, ∀ z, 0 ≤ z → z ≤ 256 → q v l z = some (!(jt d v z).1, (jt d v z).2)) : ∀ (k i : Nat) (z : Int), i ≤ xs.length → xs.length - i < k → 0 ≤ z → z ≤ 256 →
  ∃ r : Int, aW q xs l k z (i : Int) = some (r, (mY (jt d) (xs.drop i) z).2) ∧ decide (0 ≤ r) = !(mY (jt d) (xs.drop i) z).1 := by
 intro k
 induction k with
 | zero => intro i z _ h; omega
 | succ k ih =>
  intro i z hi hk h0 h1
  rw [aW]
  by_cases h : i = xs.length
  ·subst h
   simp only [Int.lt_irrefl, decide_false, ap, List.drop_length, mY, cH]
   exact ⟨-1, rfl, rfl⟩
  ·have hlt : i < xs.length := by omega
   have hm : xs[i] ∈ xs := List.getElem_mem hlt
   simp only [bg hlt, aK, aU hlt, cE, hq _ hm z h0 h1]
   rw [List.drop_eq_getElem_cons hlt]
   simp only [mY]
   obtain ⟨a, b, c⟩ := zE d xs[i] z h0 h1
   cases hs : (jt d xs[i] z).1 with
   | false =>
    simp only [Bool.not_false, aK, Bool.false_eq_true, if_false]
    exact ⟨_, rfl, by simp⟩
   | true =>
    simp only [Bool.not_true, ap, if_true]
    rw [az hlt hl]
    exact ih (i + 1) _ (by omega) (by omega) a (c hs)
theorem H5 : ∀ (d k : Nat) (v : af) (z : Int), d ≤ 4 → 4 * d + 4 ≤ k → eu v < 1000000000 → 0 ≤ z → z ≤ 256 → lx k v (5 - d : Int) z = some (jt d v z) := by
 intro d
 induction d with
 | zero =>
  intro k v z _ hk hs h0 h1
  obtain ⟨k, rfl⟩ : ∃ q, k = q + 1 := ⟨k - 1, by omega⟩
  rw [lx, yK v z h0 h1]
  unfold mG lc
  simp [jt, aK]
 | succ d ih =>
  intro k v z hd hk hs h0 h1
  obtain ⟨k, rfl⟩ : ∃ q, k = q + 4 := ⟨k - 4, by omega⟩
  have hsz := wh v
  have hlen := nc v.items
  rw [lx, yK v z h0 h1]
  unfold mG lc
  rw [M5 v (by omega)]
  have e4 : ¬ (4 : Int) < 5 - ((d + 1 : Nat) : Int) := by omega
  have hc : z ≤ AP v z ∧ AP v z ≤ z + 1 := by unfold AP; split <;> omega
  simp only [e4, decide_false, ap, jt, cE]
  by_cases h2 : (256 : Int) < AP v z
  ·simp [h2, aK]
  ·cases hp : kT v with
   | false => simp [h2, aK, ap]
   | true =>
    simp only [h2, decide_false, ap, Bool.not_true, false_or, Bool.true_eq_false, if_false]
    have := DU (d := d) (5 - ((d + 1 : Nat) : Int)) (jf (k + 1)) v.items (by omega) (by
     intro x hx z h0 h1
     have := l9 hx
     rw [jf, we (by omega) (by omega), show (5 - ((d + 1 : Nat) : Int) + 1) = 5 - (d : Int) by omega, ih k x z (by omega) (by omega) (by omega) h0 h1]
     rfl) aY 0 (AP v z) (by omega) (by rw [bc]; omega) (by omega) (by omega)
    obtain ⟨r, e1, e2⟩ := this
    rw [show ((0 : Nat) : Int) = (0 : Int) from rfl] at e1
    rw [aR, bD, e1]
    simp only [cE, e2, List.drop_zero, Bool.not_not]
theorem Gf (v : af) (hs : eu v < 1000000000) : qB v = some (xI v) := by
 unfold qB xI
 have := H5 4 aY v 0 (by omega) (by rw [bc]; omega) hs (by omega) (by omega)
 rw [show (5 - ((4 : Nat) : Int)) = (1 : Int) from rfl] at this
 rw [this]; rfl
theorem Ev {d : Nat} (l : Int) (hl0 : 0 ≤ l) (hl1 : l ≤ 100) (q : af → Int → Int → Option (Bool × Int)) (v : af) (hl : v.items.length < 1000000000)
  (hq : ∀ x ∈ v.items, ∀ z, 0 ≤ z → z ≤ 256 → q x (l + 1) z = some (jt d x z)) : ∀ (k i : Nat) (z : Int), i ≤ v.items.length → v.items.length - i < k → 0 ≤ z → z ≤ 256 →
  kG q v l k z (i : Int) = some (mY (jt d) (v.items.drop i) z) := by
 intro k
 induction k with
 | zero => intro i z _ h; omega
 | succ k ih =>
  intro i z hi hk h0 h1
  rw [kG]
  by_cases h : i = v.items.length
  ·subst h
   simp only [Int.lt_irrefl, decide_false, ap, List.drop_length, mY, tk]
  ·have hlt : i < v.items.length := by omega
   have hm : v.items[i] ∈ v.items := List.getElem_mem hlt
   rw [we (x := l + 1) (by omega) (by omega)]
   simp only [bg hlt, aK, aU hlt, cE, hq _ hm z h0 h1]
   rw [List.drop_eq_getElem_cons hlt]
   simp only [mY]
   obtain ⟨a, b, c⟩ := zE d v.items[i] z h0 h1
   cases hs : (jt d v.items[i] z).1 with
   | false => simp only [Bool.not_false, aK, Bool.false_eq_true, if_false]
   | true =>
    simp only [Bool.not_true, ap, if_true]
    rw [az hlt hl]
    exact ih (i + 1) _ (by omega) (by omega) a (c hs)
theorem HM : ∀ (d k : Nat) (v : af) (z : Int), d ≤ 4 → d + 1 ≤ k → eu v < 1000000000 → 0 ≤ z → z ≤ 256 → ip k v (5 - d : Int) z = some (jt d v z) := by
 intro d
 induction d with
 | zero =>
  intro k v z _ hk hs h0 h1
  obtain ⟨k, rfl⟩ : ∃ q, k = q + 1 := ⟨k - 1, by omega⟩
  rw [ip, yK v z h0 h1]
  unfold nY l5
  simp [jt, aK]
 | succ d ih =>
  intro k v z hd hk hs h0 h1
  obtain ⟨k, rfl⟩ : ∃ q, k = q + 1 := ⟨k - 1, by omega⟩
  have hsz := wh v
  have hlen := nc v.items
  rw [ip, yK v z h0 h1]
  unfold nY l5
  rw [M3 v (by omega)]
  have e4 : ¬ (4 : Int) < 5 - ((d + 1 : Nat) : Int) := by omega
  have hc : z ≤ AP v z ∧ AP v z ≤ z + 1 := by unfold AP; split <;> omega
  simp only [e4, decide_false, ap, jt, cE]
  by_cases h2 : (256 : Int) < AP v z
  ·simp [h2, aK]
  ·cases hp : kT v with
   | false => simp [h2, aK, ap]
   | true =>
    simp only [h2, decide_false, ap, Bool.not_true, false_or, Bool.true_eq_false, if_false]
    have := Ev (d := d) (5 - ((d + 1 : Nat) : Int)) (by omega) (by omega) (ip k) v (by omega) (by
     intro x hx z h0 h1
     have := l9 hx
     rw [show (5 - ((d + 1 : Nat) : Int) + 1) = 5 - (d : Int) by omega]
     exact ih k x z (by omega) (by omega) (by omega) h0 h1) aY 0 (AP v z) (by omega) (by rw [bc]; omega) (by omega) (by omega)
    rw [show ((0 : Nat) : Int) = (0 : Int) from rfl, List.drop_zero] at this
    exact this
theorem IZ (v : af) (hs : eu v < 1000000000) : rY v = some (xI v) := by
 unfold rY xI
 have := HM 4 aY v 0 (by omega) (by rw [bc]; omega) hs (by omega) (by omega)
 rw [show (5 - ((4 : Nat) : Int)) = (1 : Int) from rfl] at this
 rw [this]; rfl
end Go.Proofs.YtikbfjpcmalmlaaGreatDoor
namespace Go.Proofs.YtikbfjpcmalmlaaGreatDoor
open Go Go.SX Go.SX.Cal Go.Lib
def Jy (d : Nat) (v : af) : Prop := ∃ z, (jt d v z).1 = true
theorem Bx {f : af → Int → Bool × Int} : ∀ {l : List af} {z : Int}, (mY f l z).1 = true → ∀ x ∈ l, ∃ z', (f x z').1 = true
 | [], _, _, x, hx => by cases hx
 | v :: l, z, h, x, hx => by
  simp only [mY] at h
  by_cases hv : (f v z).1 = true
  ·rw [if_pos hv] at h
   rcases List.mem_cons.1 hx with rfl | hx
   ·exact ⟨z, hv⟩
   ·exact Bx h x hx
  ·rw [if_neg hv] at h; cases h
theorem Jy.zero {v : af} (h : Jy 0 v) : False := by obtain ⟨z, h⟩ := h; cases h
theorem Jy.succ {d : Nat} {v : af} (h : Jy (d + 1) v) : kT v = true ∧ ∀ x ∈ v.items, Jy d x := by
 obtain ⟨z, h⟩ := h
 simp only [jt] at h
 by_cases hc : 256 < AP v z ∨ kT v = false
 ·rw [if_pos hc] at h; cases h
 ·rw [if_neg hc] at h
  refine ⟨?_, fun x hx => Bx h x hx⟩
  cases hp : kT v with
  | true => rfl
  | false => exact absurd (.inr hp) hc
theorem Ec {v : af} (h : kT v = true) (hk : v.kind ≠ 3) : v.scale = 0 := by
 unfold kT at h
 simp only at h
 split at h
 ·simp at h; exact h.1.2
 ·split at h
  ·simp at h; exact h.2.1
  ·split at h
   ·simp at h; exact h.2.1
   ·split at h
    ·simp at h; exact h.1.2
    ·split at h
     ·simp at h; exact h.2.1
     ·split at h
      ·simp at h; exact h.1.2
      ·split at h
       ·simp at h; exact h.1.2
       ·cases h
theorem qA {v : af} (h : kT v = true) (h6 : v.kind ≠ 6) (h7 : v.kind ≠ 7) : v.items = [] := by
 unfold kT at h
 simp only at h
 rw [← List.length_eq_zero_iff]
 split at h
 ·simp at h; simp [h.2.2]
 ·split at h
  ·simp at h; simp [h.2.2.2]
  ·split at h
   ·simp at h; simp [h.2.2.2]
   ·split at h
    ·simp at h; simp [h.2.2.2]
    ·split at h
     ·simp at h; simp [h.2.2]
     ·split at h
      ·simp at h; simp [h.2.2.2]
      ·cases h
theorem V.sh {t : am} (h : V t) : shp t = 0 := by cases h; assumption
theorem V.fs {t : am} (h : V t) : ∀ f, f ∈ t.fields → V f.type := by cases h; assumption
theorem V.scale {t : am} (h : V t) (hk : t.kind ≠ 3) : t.scale = 0 := by
 have := h.sh
 unfold shp at this
 split at this
 ·cases this
 ·by_cases h2 : Bq t
  ·rw [if_pos h2] at this; cases this
  ·by_cases hs : t.scale = 0
   ·exact hs
   ·exact absurd ⟨hs, .inl hk⟩ h2
theorem V.list {t : am} (h : V t) (hk : t.kind = 6) : t.fields.length = 1 := by
 have := h.sh
 unfold shp at this
 split at this
 ·cases this
 ·by_cases h2 : Bq t
  ·rw [if_pos h2] at this; cases this
  ·rw [if_neg h2] at this
   unfold vf at this
   rw [if_pos hk] at this
   split at this
   ·cases this
   ·rename_i h3
    by_cases hl : t.fields.length = 1
    ·exact hl
    ·exact absurd (.inl hl) h3
def ft (t : am) (i : Nat) : am := (t.fields[if t.kind = 6 then 0 else i]?.map (·.type)).getD ⟨0, 0, []⟩
def nd (t : am) (i : Nat) : Bool := (t.fields[if t.kind = 6 then 0 else i]?.map (·.need)).getD false
def iv (v : af) (i : Nat) : af := v.items[i]?.getD ⟨0, 0, 0, ByteArray.empty, []⟩
theorem Cf {v : af} {i : Nat} (h : i < v.items.length) : v.items[i] = iv v i := by simp [iv, h]
def BV : Nat → am → af → Bool
 | 0, _, _ => true
 | d + 1, t, v =>
  if v.kind = 0 then true
  else if v.kind ≠ t.kind then false
  else if v.kind = 3 then v.scale == t.scale
  else if v.kind = 7 ∧ t.fields.length ≠ v.items.length then false
  else (first (fun i => !BV d (ft t i) (iv v i)) 0 v.items.length).isNone
def P9 (t : am) (v : af) : Prop := ∀ i, i < v.items.length → (if t.kind = 6 then 0 else i) < t.fields.length
theorem M0 {d : Nat} {t : am} {v : af} (hs : Jy (d + 1) v) (ht : V t) (h : BV (d + 1) t v = true) : P9 t v ∧ ∀ i, i < v.items.length → BV d (ft t i) (iv v i) = true := by
 obtain ⟨hp, _⟩ := hs.succ
 by_cases h67 : v.kind = 6 ∨ v.kind = 7
 ·simp only [BV] at h
  rw [if_neg (by omega)] at h
  by_cases hk : v.kind = t.kind
  ·rw [if_neg (fun hh => hh hk), if_neg (by omega)] at h
   by_cases hl : v.kind = 7 ∧ t.fields.length ≠ v.items.length
   ·rw [if_pos hl] at h; cases h
   ·rw [if_neg hl] at h
    have hn := Option.isNone_iff_eq_none.1 h
    rw [ud] at hn
    refine ⟨fun i hi => ?_, fun i hi => by simpa using hn i (Nat.zero_le _) hi⟩
    by_cases h6 : t.kind = 6
    ·rw [if_pos h6, ht.list h6]; omega
    ·rw [if_neg h6]
     have : ¬ t.fields.length ≠ v.items.length := fun hh => hl ⟨by omega, hh⟩
     omega
  ·rw [if_pos hk] at h; cases h
 ·have : v.items = [] := qA hp (by omega) (by omega)
  refine ⟨fun i hi => ?_, fun i hi => ?_⟩
  ·rw [this] at hi; simp at hi
  ·rw [this] at hi; simp at hi
theorem J1 {t : am} {i : Nat} (h : (if t.kind = 6 then 0 else i) < t.fields.length) : ∃ f : ac, f ∈ t.fields ∧ t.fields[if t.kind = 6 then 0 else i]? = some f ∧ f.type = ft t i ∧ f.need = nd t i := by
 refine ⟨t.fields[if t.kind = 6 then 0 else i], List.getElem_mem h, List.getElem?_eq_getElem h, ?_, ?_⟩
 ·unfold ft; rw [List.getElem?_eq_getElem h]; rfl
 ·unfold nd; rw [List.getElem?_eq_getElem h]; rfl
theorem ue {α : Type} {xs : List α} {i : Nat} {x : α} (h : xs[i]? = some x) : at? xs (i : Int) = some x := by unfold at?; simp [h]
theorem Ab {v : af} {i : Nat} (h : i < v.items.length) : iv v i ∈ v.items := by rw [← Cf h]; exact List.getElem_mem h
theorem of_eq : ∀ (d k k' : Nat) (t : am) (v : af), Jy d v → V t → eu v < 1000000000 → jX t < 1000000000 → 4 * d + 1 ≤ k → d + 1 ≤ k' →
  pl k t v = some (BV d t v) ∧ hY k' t v = some (BV d t v) := by
 intro d
 induction d with
 | zero => intro k k' t v hs; exact hs.zero.elim
 | succ d ih =>
  intro k k' t v hs ht hv hT hk hk'
  obtain ⟨k, rfl⟩ : ∃ q, k = q + 4 := ⟨k - 4, by omega⟩
  obtain ⟨k', rfl⟩ : ∃ q, k' = q + 1 := ⟨k' - 1, by omega⟩
  obtain ⟨hp, hi⟩ := hs.succ
  have hsz := wh v
  have hlen := nc v.items
  have hsT := nQ t
  have hlF := dV t.fields
  rw [pl, hY]
  simp only [BV, uI]
  by_cases h0 : v.kind = 0
  ·simp [h0, aM]
  ·by_cases hkk : v.kind = t.kind
   ·have sc : v.kind ≠ 3 → v.scale = t.scale := fun h => by rw [Ec hp h, ht.scale (by omega)]
    -- the items
    have room : ¬ (v.kind = 7 ∧ t.fields.length ≠ v.items.length) → P9 t v := by
     intro hn i hi
     by_cases h6 : t.kind = 6
     ·rw [if_pos h6, ht.list h6]; omega
     ·rw [if_neg h6]
      by_cases h7 : v.kind = 7
      ·have : ¬ t.fields.length ≠ v.items.length := fun hh => hn ⟨h7, hh⟩
       omega
      ·rw [qA hp (by omega) h7] at hi; simp at hi
    have sub : P9 t v → ∀ i, i < v.items.length → ∃ f : ac, t.fields[if t.kind = 6 then 0 else i]? = some f ∧ f.type = ft t i ∧ pl k (ft t i) (iv v i) = some (BV d (ft t i) (iv v i)) ∧ hY k' (ft t i) (iv v i) = some (BV d (ft t i) (iv v i)) := by
     intro hf i hi'
     obtain ⟨f, f1, f2, f3, _⟩ := J1 (hf i hi')
     have m1 := l9 (Ab hi')
     have m2 := i7 f1
     have m3 := iz f
     rw [f3] at m3
     obtain ⟨a, b⟩ := ih k k' (ft t i) (iv v i) (hi _ (Ab hi')) (by rw [← f3]; exact ht.fs f f1) (by omega) (by omega) (by omega) (by omega)
     exact ⟨f, f2, f3, a, b⟩
    have ref : P9 t v → gL (hY k') t v aY (0 : Int) = some (first (fun i => !BV d (ft t i) (iv v i)) 0 v.items.length).isNone := by
     intro hf
     have := ph (f := fun k i => gL (hY k') t v k (i : Int)) (n := v.items.length) (P := fun i => !BV d (ft t i) (iv v i)) (A := fun _ => some false) (B := some true) (fun kk i hi' => by
      obtain ⟨f, f2, f3, _, f5⟩ := sub hf i hi'
      simp only [gL, bg hi', aK, uw]
      have e : al (t.kind == (6 : Int)) (aB (at? t.fields (0 : Int)) fun e1 => aB (at? v.items (i : Int)) fun e2 => aB (hY k' e1.type e2) fun r1 => al (!r1) (some false) (gL (hY k') t v kk (IntKind.i64.wrap ((i : Int) + 1))))
        (aB (at? t.fields (i : Int)) fun e1 => aB (at? v.items (i : Int)) fun e2 => aB (hY k' e1.type e2) fun r1 => al (!r1) (some false) (gL (hY k') t v kk (IntKind.i64.wrap ((i : Int) + 1)))) =
        (aB (at? t.fields ((if t.kind = 6 then 0 else i : Nat) : Int)) fun e1 => aB (at? v.items (i : Int)) fun e2 => aB (hY k' e1.type e2) fun r1 => al (!r1) (some false) (gL (hY k') t v kk (IntKind.i64.wrap ((i : Int) + 1)))) := by
       by_cases h6 : t.kind = 6 <;> simp [h6, aM]
      rw [e, ue f2, cE, aU hi', cE, f3, Cf hi', f5, cE, az hi' (by omega), aM]) (fun kk => by simp [gL, aM, yg]) aY 0 (Nat.zero_le _) (by rw [bc]; omega)
     rw [show ((0 : Nat) : Int) = (0 : Int) from rfl] at this
     rw [this]
     cases first (fun i => !BV d (ft t i) (iv v i)) 0 v.items.length <;> rfl
    have e0 : (v.kind == (0 : Int)) = false := by simp [h0]
    have e1 : (v.kind != t.kind) = false := by simp [hkk]
    have e2 : ¬ v.kind ≠ t.kind := fun h => h hkk
    simp only [e0, e1, e2, ap, h0, if_false]
    by_cases h3 : v.kind = 3
    ·have hni : v.items = [] := qA hp (by omega) (by omega)
     refine ⟨by simp [h3, aM], ?_⟩
     have hr := ref (fun i hi => by rw [hni] at hi; simp at hi)
     rw [hni] at hr
     simp only [List.length_nil, pJ, Option.isNone_none] at hr
     simp only [h3, if_true, pU]
     by_cases hsc : v.scale = t.scale
     ·have : t.kind ≠ 7 := by omega
      simp [hsc, aM, hr, this]
     ·simp [hsc, aM]
    ·have hsc := sc h3
     have e3 : (v.kind == (3 : Int)) = false := by simp [h3]
     have e4 : (v.scale != t.scale) = false := by simp [hsc]
     simp only [e3, e4, ap, h3, if_false]
     by_cases hl : v.kind = 7 ∧ t.fields.length ≠ v.items.length
     ·have e6 : (v.kind == (6 : Int)) = false := by simp [hl.1]
      have e7 : (v.kind == (7 : Int)) = true := by simp [hl.1]
      have t7 : (t.kind == (7 : Int)) = true := by rw [← hkk]; exact e7
      have n1 : ((t.fields.length : Int) != (v.items.length : Int)) = true := by simp; omega
      have n2 : ((v.items.length : Int) != (t.fields.length : Int)) = true := by simp; omega
      rw [aS]
      simp [e6, e7, t7, n1, n2, hl, aK, ap, pU, cE]
     ·have hf := room hl
      have hr := ref hf
      simp only [hl, if_false]
      refine ⟨?_, ?_⟩
      ·by_cases h6 : v.kind = 6
       ·have e6 : (v.kind == (6 : Int)) = true := by simp [h6]
        have t6 : t.kind = 6 := by omega
        have := ph (f := fun kk i => aV (lO (k + 1)) v.items t.kind t.scale t.fields kk (i : Int)) (n := v.items.length) (P := fun i => !BV d (ft t i) (iv v i)) (A := fun i => some (i : Int)) (B := some (-1)) (fun kk i hi' => by
         obtain ⟨f, f2, f3, f4, _⟩ := sub hf i hi'
         rw [if_pos t6] at f2
         simp only [aV, bg hi', aK, aU hi', cE, lO]
         rw [show (0 : Int) = ((0 : Nat) : Int) from rfl, ue f2, cE, f3, Cf hi', f4, cE, cE, az hi' (by omega), aM]) (fun kk => by simp [aV, aM, cP]) aY 0 (Nat.zero_le _) (by rw [bc]; omega)
        rw [show ((0 : Nat) : Int) = (0 : Int) from rfl] at this
        rw [e6, aK, bA, bK, this]
        cases first (fun i => !BV d (ft t i) (iv v i)) 0 v.items.length <;> simp [cE]
       ·have e6 : (v.kind == (6 : Int)) = false := by simp [h6]
        by_cases h7 : v.kind = 7
        ·have e7 : (v.kind == (7 : Int)) = true := by simp [h7]
         have hlen' : t.fields.length = v.items.length := by
          by_cases hh : t.fields.length = v.items.length
          ·exact hh
          ·exact absurd ⟨h7, hh⟩ hl
         have n1 : ((t.fields.length : Int) != (v.items.length : Int)) = false := by simp; omega
         have := ph (f := fun kk i => aA (ou (k + 2)) t.fields v.items kk (i : Int)) (n := v.items.length) (P := fun i => !BV d (ft t i) (iv v i)) (A := fun _ => some false) (B := some true) (fun kk i hi' => by
          obtain ⟨f, f2, f3, _, _⟩ := sub hf i hi'
          obtain ⟨f', f1', f2', f3', _⟩ := J1 (hf i hi')
          have m1 := l9 (Ab hi')
          have m2 := i7 f1'
          have m3 := iz f'
          rw [f3'] at m3
          have f4 := (ih (k + 1) (d + 1) (ft t i) (iv v i) (hi _ (Ab hi')) (by rw [← f3']; exact ht.fs f' f1') (by omega) (by omega) (by omega) (by omega)).1
          rw [if_neg (by omega)] at f2
          have hi2 : i < t.fields.length := by omega
          simp only [aA, bg hi2, aK, ue f2, cE, ou]
          rw [aU hi', cE, f3, Cf hi', f4, cE, cE, az hi' (by omega), aM]) (fun kk => by simp [aA, aM, bM, hlen']) aY 0 (Nat.zero_le _) (by rw [bc]; omega)
         rw [show ((0 : Nat) : Int) = (0 : Int) from rfl] at this
         rw [e6, e7, ap, aK, aS, n1, ap, this]
         cases first (fun i => !BV d (ft t i) (iv v i)) 0 v.items.length <;> rfl
        ·have e7 : (v.kind == (7 : Int)) = false := by simp [h7]
         rw [e6, e7, ap, ap, qA hp h6 h7]
         simp [pJ]
      ·have n2 : v.kind = 7 → ((v.items.length : Int) != (t.fields.length : Int)) = false := by
        intro h7
        have : ¬ t.fields.length ≠ v.items.length := fun hh => hl ⟨h7, hh⟩
        simp; omega
       simp only [pU]
       by_cases h7 : v.kind = 7
       ·have t7 : (t.kind == (7 : Int)) = true := by simp [← hkk, h7]
        rw [t7, aK, n2 h7, ap]; exact hr
       ·have t7 : (t.kind == (7 : Int)) = false := by simp [← hkk, h7]
        rw [t7, ap, ap]; exact hr
   ·have e0 : (v.kind == (0 : Int)) = false := by simp [h0]
    have e1 : (v.kind != t.kind) = true := by simp [hkk]
    simp [e0, e1, h0, hkk, aK, ap]
def s5 : Nat → am → af → Bool
 | 0, _, _ => false
 | d + 1, t, v => (first (fun i => ((iv v i).kind == 0 && nd t i) || s5 d (ft t i) (iv v i)) 0 v.items.length).isSome
theorem Lr : ∀ (d k k' : Nat) (t : am) (v : af), Jy d v → V t → BV d t v = true → eu v < 1000000000 → jX t < 1000000000 → d + 1 ≤ k → d + 1 ≤ k' →
  iO k t v = some (s5 d t v) ∧ dS k' t v = some (s5 d t v) := by
 intro d
 induction d with
 | zero => intro k k' t v hs; exact hs.zero.elim
 | succ d ih =>
  intro k k' t v hs ht ho hv hT hk hk'
  obtain ⟨k, rfl⟩ : ∃ q, k = q + 1 := ⟨k - 1, by omega⟩
  obtain ⟨k', rfl⟩ : ∃ q, k' = q + 1 := ⟨k' - 1, by omega⟩
  obtain ⟨hp, hi⟩ := hs.succ
  obtain ⟨hf, hof⟩ := M0 hs ht ho
  have hsz := wh v
  have hlen := nc v.items
  have hsT := nQ t
  have sub : ∀ i, i < v.items.length → ∃ f : ac, t.fields[if t.kind = 6 then 0 else i]? = some f ∧ f.type = ft t i ∧ f.need = nd t i ∧ iO k (ft t i) (iv v i) = some (s5 d (ft t i) (iv v i)) ∧ dS k' (ft t i) (iv v i) = some (s5 d (ft t i) (iv v i)) := by
   intro i hi'
   obtain ⟨f, f1, f2, f3, f4⟩ := J1 (hf i hi')
   have m1 := l9 (Ab hi')
   have m2 := i7 f1
   have m3 := iz f
   rw [f3] at m3
   obtain ⟨a, b⟩ := ih k k' (ft t i) (iv v i) (hi _ (Ab hi')) (by rw [← f3]; exact ht.fs f f1) (hof i hi') (by omega) (by omega) (by omega) (by omega)
   exact ⟨f, f2, f3, f4, a, b⟩
  rw [iO, dS]
  simp only [s5]
  refine ⟨?_, ?_⟩
  ·have := ph (f := fun kk i => eY (iO k) t v kk (i : Int)) (n := v.items.length) (P := fun i => ((iv v i).kind == 0 && nd t i) || s5 d (ft t i) (iv v i)) (A := fun _ => some true) (B := some false) (fun kk i hi' => by
    obtain ⟨f, f2, f3, f4, f5, _⟩ := sub i hi'
    have e : sL t (i : Int) = some f := by
     unfold sL pj
     by_cases h6 : t.kind = 6
     ·rw [if_pos h6] at f2
      rw [show (0 : Int) = ((0 : Nat) : Int) from rfl, ue f2]
      simp [h6, aM, cE]
     ·rw [if_neg h6] at f2
      rw [ue f2]
      simp [h6, aM, cE]
    simp only [eY, bg hi', aK, aU hi', cE, e, mR, f3, f4, Cf hi', f5, az hi' (show v.items.length < 1000000000 by omega)]
    cases (iv v i).kind == 0 <;> cases nd t i <;> cases s5 d (ft t i) (iv v i) <;> rfl) (fun kk => by simp [eY, aM, rQ]) aY 0 (Nat.zero_le _) (by rw [bc]; omega)
   rw [show ((0 : Nat) : Int) = (0 : Int) from rfl] at this
   rw [this]
   cases first (fun i => ((iv v i).kind == 0 && nd t i) || s5 d (ft t i) (iv v i)) 0 v.items.length <;> rfl
  ·have := ph (f := fun kk i => dy (dS k') t v kk (i : Int)) (n := v.items.length) (P := fun i => ((iv v i).kind == 0 && nd t i) || s5 d (ft t i) (iv v i)) (A := fun _ => some true) (B := some false) (fun kk i hi' => by
    obtain ⟨f, f2, f3, f4, _, f5⟩ := sub i hi'
    have e : ∀ j : Int, at? t.fields j = some f → lX (dy (dS k') t v kk) (dS k') t v (i : Int) j = if (((iv v i).kind == 0 && nd t i) || s5 d (ft t i) (iv v i)) = true then some true else dy (dS k') t v kk ((i + 1 : Nat) : Int) := by
     intro j hj
     simp only [lX, lQ, hj, cE, aU hi', f3, f4, Cf hi', f5, az hi' (show v.items.length < 1000000000 by omega)]
     cases (iv v i).kind == 0 <;> cases nd t i <;> cases s5 d (ft t i) (iv v i) <;> rfl
    simp only [dy, bg hi', aK]
    by_cases h6 : t.kind = 6
    ·rw [if_pos h6] at f2
     have e6 : (t.kind == (6 : Int)) = true := by simp [h6]
     rw [e6, aK]
     exact e 0 (ue f2)
    ·rw [if_neg h6] at f2
     have e6 : (t.kind == (6 : Int)) = false := by simp [h6]
     rw [e6, ap]
     exact e i (ue f2)) (fun kk => by simp [dy, aM, qQ]) aY 0 (Nat.zero_le _) (by rw [bc]; omega)
   rw [show ((0 : Nat) : Int) = (0 : Int) from rfl] at this
   rw [this]
   cases first (fun i => ((iv v i).kind == 0 && nd t i) || s5 d (ft t i) (iv v i)) 0 v.items.length <;> rfl
theorem EJ (t : am) (v : af) (hv : eu v < 1000000000) (hT : jX t < 1000000000) : ∃ e, iU t v = some e ∧ lz t v = some e := by
 obtain ⟨e, h1, h2, h3⟩ := nj t hT
 unfold iU lz
 rw [h1, h2, Gf v hv, IZ v hv]
 simp only [cE]
 by_cases he : e = 0
 ·subst he
  have ht := h3 rfl
  cases hs : xI v with
  | false => exact ⟨1, rfl, rfl⟩
  | true =>
   have hS : Jy 4 v := ⟨0, hs⟩
   obtain ⟨a, b⟩ := of_eq 4 aY aY t v hS ht hv hT (by rw [bc]; omega) (by rw [bc]; omega)
   rw [a, b]
   cases ho : BV 4 t v with
   | false => exact ⟨2, rfl, rfl⟩
   | true =>
    obtain ⟨c, d⟩ := Lr 4 aY aY t v hS ht ho hv hT (by rw [bc]; omega) (by rw [bc]; omega)
    rw [c, d]
    cases s5 4 t v with
    | false => exact ⟨0, rfl, rfl⟩
    | true => exact ⟨9, rfl, rfl⟩
 ·have : (e != (0 : Int)) = true := by simp [he]
  rw [this]
  exact ⟨e, rfl, rfl⟩
theorem FV : ByteArray.empty.size = 0 := rfl
end Go.Proofs.YtikbfjpcmalmlaaGreatDoor
namespace Go.Proofs.YtikbfjpcmalmlaaGreatDoor
open Go Go.SX Go.SX.Cal
theorem Gn {l : List ac} {i : Nat} (h : i < l.length) : eG (l.drop i) = rW l[i] + eG (l.drop (i + 1)) := by
 rw [List.drop_eq_getElem_cons h]; simp only [eG]
theorem Bl : aY = 1152921504606846975 + 1 := rfl
end Go.Proofs.YtikbfjpcmalmlaaGreatDoor
namespace Go.Proofs.YtikbfjpcmalmlaaGreatDoor
open Go Go.SX Go.SX.Cal
end Go.Proofs.YtikbfjpcmalmlaaGreatDoor
namespace Go.Proofs.YtikbfjpcmalmlaaGreatDoor
open Go Go.SX Go.SX.Cal
mutual
def JC : am → List Int
 | ⟨_, _, fs⟩ => i5 fs
def i5 : List (jc am) → List Int
 | [] => []
 | f :: l => Cu f ++ i5 l
def Cu : jc am → List Int
 | ⟨i, _, _, t⟩ => i :: JC t
end
theorem LE : ∀ t : am, JC t = i5 t.fields
 | ⟨_, _, _⟩ => by simp only [JC]
theorem BA : ∀ f : ac, Cu f = f.id :: i5 f.type.fields
 | ⟨_, _, _, t⟩ => by simp only [Cu, LE]
theorem xT {l : List ac} {i : Nat} (h : i < l.length) : i5 (l.drop i) = Cu l[i] ++ i5 (l.drop (i + 1)) := by
 rw [List.drop_eq_getElem_cons h]; simp only [i5]
mutual
theorem IK : ∀ t : am, (JC t).length ≤ jX t
 | ⟨_, _, fs⟩ => by simp only [JC, jX]; have := tL fs; omega
theorem tL : ∀ l : List (jc am), (i5 l).length ≤ eG l
 | [] => by simp [i5]
 | f :: l => by
  simp only [i5, eG, List.length_append]
  have := HK f
  have := tL l
  omega
theorem HK : ∀ f : jc am, (Cu f).length ≤ rW f
 | ⟨i, n, q, t⟩ => by
  simp only [Cu, rW, List.length_cons]
  have := IK t
  omega
end
theorem Kd : ∀ (N k : Nat) (fs : List ac), eG fs ≤ N → N < k → eG fs < 1000000000 → mP k fs = some (i5 fs) := by
 intro N
 induction N with
 | zero =>
  intro k fs h hk _
  obtain ⟨k, rfl⟩ : ∃ x, k = x + 1 := ⟨k - 1, by omega⟩
  have hl := dV fs
  have : fs = [] := List.eq_nil_of_length_eq_zero (by omega)
  subst this
  rw [mP, Bl, lv]
  rfl
 | succ N ih =>
  intro k fs hN hk hs
  obtain ⟨k, rfl⟩ : ∃ x, k = x + 1 := ⟨k - 1, by omega⟩
  have hl := dV fs
  rw [mP]
  have loop : ∀ (kk i : Nat) (acc : List Int), i ≤ fs.length → fs.length - i < kk → acc.length + eG (fs.drop i) ≤ eG fs → lv (mP k) fs kk acc (i : Int) = some (acc ++ i5 (fs.drop i)) := by
   intro kk
   induction kk with
   | zero => intro i acc _ h; omega
   | succ kk ihk =>
    intro i acc hi hk2 hacc
    rw [lv]
    by_cases h : i = fs.length
    ·subst h
     simp only [Int.lt_irrefl, decide_false, ap, vE, List.drop_length, i5, List.append_nil]
    ·have h1 : i < fs.length := by omega
     have m1 := i7 (List.getElem_mem h1)
     have m2 := iz fs[i]
     have m3 := nQ fs[i].type
     have m4 := Gn h1
     have m5 := tL fs[i].type.fields
     rw [bg h1, aK, aU h1, aX, fH (by omega), ih k _ (by omega) (by omega) (by omega), aX, fH (by simp; omega), az h1 (by omega)]
     rw [ihk (i + 1) _ (by omega) (by omega) (by simp; omega), xT h1, BA]
     simp
  have := loop aY 0 [] (Nat.zero_le _) (by rw [bc]; omega) (by simp)
  simpa using this
def E3 (x : Int) (m : List (Int × Int)) : Int × List (Int × Int) :=
 if x < 1 then (3, m) else
  let y := IntKind.i64.wrap ((gU (pw .i64) m x).getD 0 + 1)
  if 1 < (gU (pw .i64) (iD (pw .i64) m x y) x).getD 0 then (5, iD (pw .i64) m x y) else (0, iD (pw .i64) m x y)
def scan : List Int → List (Int × Int) → Int × List (Int × Int)
 | [], m => (0, m)
 | x :: l, m => if (E3 x m).1 ≠ 0 then E3 x m else scan l (E3 x m).2
theorem E4 : ∀ (a b : List Int) (m : List (Int × Int)), scan (a ++ b) m = if (scan a m).1 ≠ 0 then scan a m else scan b (scan a m).2
 | [], b, m => by simp [scan]
 | x :: a, b, m => by
  simp only [List.cons_append, scan]
  by_cases h : (E3 x m).1 = 0
  ·simp only [h, ne_eq, not_true, if_false]
   exact E4 a b _
  ·simp [h]
theorem FX (f : ac) (m : List (Int × Int)) : kP f m = some (E3 f.id m) := by
 unfold kP E3
 simp only [aX, aM, decide_eq_true_eq]
 split
 ·rfl
 ·split <;> rfl
theorem L1 : ∀ (N k : Nat) (fs : List ac) (m : List (Int × Int)), eG fs ≤ N → N < k → eG fs < 1000000000 → bo k fs m = some (scan (i5 fs) m) := by
 intro N
 induction N with
 | zero =>
  intro k fs m h hk _
  obtain ⟨k, rfl⟩ : ∃ x, k = x + 1 := ⟨k - 1, by omega⟩
  have hl := dV fs
  have : fs = [] := List.eq_nil_of_length_eq_zero (by omega)
  subst this
  rw [bo, Bl, bB]
  rfl
 | succ N ih =>
  intro k fs m hN hk hs
  obtain ⟨k, rfl⟩ : ∃ x, k = x + 1 := ⟨k - 1, by omega⟩
  have hl := dV fs
  rw [bo]
  have loop : ∀ (kk i : Nat) (m : List (Int × Int)), i ≤ fs.length → fs.length - i < kk → bB (bo k) fs kk m (i : Int) = some (scan (i5 (fs.drop i)) m) := by
   intro kk
   induction kk with
   | zero => intro i m _ h; omega
   | succ kk ihk =>
    intro i m hi hk2
    rw [bB]
    by_cases h : i = fs.length
    ·subst h
     simp only [Int.lt_irrefl, decide_false, ap, fq, List.drop_length, i5, scan]
    ·have h1 : i < fs.length := by omega
     have m1 := i7 (List.getElem_mem h1)
     have m2 := iz fs[i]
     have m3 := nQ fs[i].type
     rw [bg h1, aK, aU h1, aX, FX, aX, az h1 (by omega), xT h1, BA, List.cons_append, scan, ih k _ _ (by omega) (by omega) (by omega)]
     simp only [aX, aM]
     by_cases h0 : (E3 fs[i].id m).1 = 0
     ·simp only [h0, bne_self_eq_false, Bool.false_eq_true, if_false, ne_eq, not_true, E4]
      by_cases h2 : (scan (i5 fs[i].type.fields) (E3 fs[i].id m).2).1 = 0
      ·simp only [h2, bne_self_eq_false, Bool.false_eq_true, if_false, not_true]
       exact ihk (i + 1) _ (by omega) (by omega)
      ·simp [h2]
     ·simp [h0]
  have := loop aY 0 m (Nat.zero_le _) (by rw [bc]; omega)
  simpa using this
end Go.Proofs.YtikbfjpcmalmlaaGreatDoor
namespace Go.Proofs.YtikbfjpcmalmlaaGreatDoor
open Go Go.SX Go.SX.Cal
abbrev KI : Io Int := pw .i64
theorem tj : ∀ (m : List (Int × Int)) (k v : Int), gU KI (iD KI m k v) k = some v
 | [], k, v => by simp [iD, gU, pw]
 | (k', v') :: l, k, v => by
  by_cases h : k = k'
  ·simp [iD, gU, pw, h]
  ·have hb : (k == k') = false := by simpa using h
   have := tj l k v
   simp only [iD, gU, pw, hb, Bool.false_eq_true, if_false] at this ⊢
   exact this
theorem vX : ∀ (m : List (Int × Int)) (k v x : Int), x ≠ k → gU KI (iD KI m k v) x = gU KI m x
 | [], k, v, x, hx => by simp [iD, gU, pw, hx]
 | (k', v') :: l, k, v, x, hx => by
  by_cases h : k = k'
  ·subst h
   simp [iD, gU, pw, hx]
  ·have hb : (k == k') = false := by simpa using h
   have := vX l k v x hx
   simp only [iD, gU, pw, hb, Bool.false_eq_true, if_false] at this ⊢
   rw [this]
def Qv (m : List (Int × Int)) (seen : List Int) : Prop := ∀ x, (gU KI m x).getD 0 = if x ∈ seen then 1 else 0
theorem NA {m : List (Int × Int)} {seen : List Int} (h : Qv m seen) (x : Int) : (E3 x m).1 = (if x < 1 then 3 else if x ∈ seen then 5 else 0) ∧ ((E3 x m).1 = 0 → Qv (E3 x m).2 (seen ++ [x])) := by
 unfold E3
 have hx := h x
 by_cases h1 : x < 1
 ·simp [h1]
 ·simp only [h1, if_false]
  have e : (gU (pw .i64) m x).getD 0 = if x ∈ seen then 1 else 0 := hx
  rw [e]
  by_cases h2 : x ∈ seen
  ·simp only [h2, if_true]
   rw [show IntKind.i64.wrap (1 + 1) = 2 from we (by omega) (by omega)]
   have := tj m x 2
   simp only [KI] at this
   simp [this]
  ·simp only [h2, if_false]
   rw [show IntKind.i64.wrap (0 + 1) = 1 from we (by omega) (by omega)]
   have h3 := tj m x 1
   simp only [KI] at h3
   simp only [h3, Option.getD_some, Int.lt_irrefl, if_false, true_and]
   intro _ y
   by_cases hy : y = x
   ·subst hy
    simp [KI, h3]
   ·have h4 := vX m x 1 y hy
    simp only [KI] at h4
    have h5 := h y
    simp only [KI] at h5 ⊢
    rw [h4, h5]
    simp [hy]
theorem Ib (ids : List Int) (hl : ids.length < 1000000000) (rec1 : Int → Option Int) {i : Nat} (hi : i < ids.length) : cC rec1 ids (i : Int) ids[i] aY (0 : Int) = if ids[i] ∈ ids.take i then some 5 else rec1 ((i + 1 : Nat) : Int) := by
 have hs := ph (f := fun k j => cC rec1 ids (i : Int) ids[i] k (j : Int)) (n := i) (P := fun j => ids[j]? == some ids[i]) (A := fun j => some 5) (B := rec1 ((i + 1 : Nat) : Int)) (fun k j hj => by
   have hjf : j < ids.length := by omega
   show cC rec1 ids (i : Int) ids[i] (k + 1) (j : Int) = _
   rw [cC, bg hj, aK, aU hjf, az hj (by omega)]
   simp only [aX, aM, List.getElem?_eq_getElem hjf, Option.some_beq_some])
  (fun k => by
   show cC rec1 ids (i : Int) ids[i] (k + 1) (i : Int) = _
   rw [cC]; simp only [Int.lt_irrefl, decide_false, ap, nA]; rw [az hi hl]) aY 0 (Nat.zero_le _) (by rw [bc]; omega)
 have hs : cC rec1 ids (i : Int) ids[i] aY (0 : Int) = _ := hs
 rw [hs]
 cases hf : first (fun j => ids[j]? == some ids[i]) 0 i with
 | none =>
  rw [ud] at hf
  have : ids[i] ∉ ids.take i := by
   intro hm
   obtain ⟨j, hj, he⟩ := List.getElem_of_mem hm
   have hj' : j < i := by simp at hj; omega
   have := hf j (Nat.zero_le _) hj'
   rw [List.getElem_take] at he
   simp [List.getElem?_eq_getElem (show j < ids.length by omega), he] at this
  simp [this]
 | some j =>
  have : ids[i] ∈ ids.take i := by
   unfold first at hf
   have h1 := List.find?_some hf
   have h2 := List.mem_of_find?_eq_some hf
   rw [List.mem_range'_1] at h2
   have hjl : j < ids.length := by omega
   simp only [List.getElem?_eq_getElem hjl, Option.some_beq_some, beq_iff_eq] at h1
   rw [← h1]
   exact List.mem_iff_getElem.2 ⟨j, by simp; omega, by simp⟩
  simp [this]
theorem EB (ids : List Int) (hl : ids.length < 1000000000) : ∀ (kk i : Nat) (m : List (Int × Int)), i ≤ ids.length → ids.length - i < kk → Qv m (ids.take i) → dq ids kk (i : Int) = some (scan (ids.drop i) m).1 := by
 intro kk
 induction kk with
 | zero => intro i m _ h; omega
 | succ kk ih =>
  intro i m hi hk hm
  rw [dq]
  by_cases h : i = ids.length
  ·subst h
   simp only [Int.lt_irrefl, decide_false, ap, List.drop_length, scan]
   rfl
  ·have h1 : i < ids.length := by omega
   rw [bg h1, aK, aU h1, aX, Ib ids hl _ h1, List.drop_eq_getElem_cons h1, scan]
   obtain ⟨g1, g2⟩ := NA hm ids[i]
   rw [g1] at g2 ⊢
   simp only [aM, decide_eq_true_eq]
   by_cases h2 : ids[i] < 1
   ·simp [h2, g1]
   ·by_cases h3 : ids[i] ∈ ids.take i
    ·simp [h2, h3, g1]
    ·simp only [h2, h3, if_false, ne_eq, not_true]
     simp only [h2, h3, if_false] at g2
     refine ih (i + 1) _ (by omega) (by omega) ?_
     have := g2 trivial
     rwa [List.take_append_getElem h1] at this
theorem CK (fs : List ac) (hs : eG fs < 1000000000 - 1) : ∃ e, fy fs = some e ∧ ir fs = some e := by
 obtain ⟨e, h1, h2, h3⟩ := nj ⟨7, 0, fs⟩ (by simp only [jX]; omega)
 unfold fy ir
 rw [h1, h2]
 simp only [aX, aM]
 by_cases he : e = 0
 ·have w := L1 1000000000 aY fs [] (by omega) (by rw [bc]; omega) (by omega)
  have i := Kd 1000000000 aY fs (by omega) (by rw [bc]; omega) (by omega)
  have hl := tL fs
  have l := EB (i5 fs) (by omega) aY 0 [] (Nat.zero_le _) (by rw [bc]; omega) (fun x => by simp [gU])
  have l : dq (i5 fs) aY (0 : Int) = _ := l
  refine ⟨(scan (i5 fs) []).1, ?_, ?_⟩
  ·simp [he, w, aX]
  ·simp [he, i, aX, l]
 ·exact ⟨e, by simp [he], by simp [he]⟩
end Go.Proofs.YtikbfjpcmalmlaaGreatDoor
namespace Go.Proofs.YtikbfjpcmalmlaaGreatDoor
open Go Go.SX Go.SX.Cal
theorem oy {α β : Type} (a : α) (f : α → Option β) : aB (some a) f = f a := rfl
theorem vC {β : Type} (x y : Option β) : al true x y = x := rfl
theorem sG {β : Type} (x y : Option β) : al false x y = y := rfl
theorem im {m f : Nat} (h : m < f) : ∃ q, f = q + 1 := ⟨f - 1, by omega⟩
theorem I9 {i n : Nat} (h : ¬ i < n) : decide ((i : Int) < (n : Int)) = false := by simp; omega
theorem AW {α : Type} {l : List α} {i : Nat} (hi : i < l.length) : l.drop i = l[i] :: l.drop (i + 1) := List.drop_eq_getElem_cons hi
noncomputable def ck (t : am) (v : af) : Int := (iU t v).getD 0
theorem Ke {t : am} {v : af} (hv : eu v < 1000000000) (hT : jX t < 1000000000) : iU t v = some (ck t v) := by
 obtain ⟨e, h1, _⟩ := EJ t v hv hT
 unfold ck; rw [h1]; rfl
theorem Ld {t : am} {v : af} (hv : eu v < 1000000000) (hT : jX t < 1000000000) : lz t v = some (ck t v) := by
 obtain ⟨e, h1, h2⟩ := EJ t v hv hT
 unfold ck; rw [h1, h2]; rfl
def sc (fs : List ac) : Int := (fy fs).getD 0
theorem MT {fs : List ac} (h : eG fs < 1000000000 - 1) : fy fs = some (sc fs) := by
 obtain ⟨e, h1, _⟩ := CK fs h
 unfold sc; rw [h1]; rfl
theorem Nv {fs : List ac} (h : eG fs < 1000000000 - 1) : ir fs = some (sc fs) := by
 obtain ⟨e, h1, h2⟩ := CK fs h
 unfold sc; rw [h1, h2]; rfl
end Go.Proofs.YtikbfjpcmalmlaaGreatDoor
namespace Go.Proofs.YtikbfjpcmalmlaaGreatDoor
open Go Go.SX Go.SX.Cal Go.Lib
theorem AS {p : List ac} (hl : p.length < 1000000000) (x : Int) : ∃ r, pc p x = some r ∧ pN p x = some r ∧ (r < 0 ∨ ∃ i : Nat, i < p.length ∧ r = (i : Int)) := by
 have key : ∀ (m f f' i : Nat), i + m = p.length → m < f → m < f' → ∃ r, aO p x f (i : Int) = some r ∧ kw p x f' (i : Int) = some r ∧ (r < 0 ∨ ∃ i : Nat, i < p.length ∧ r = (i : Int)) := by
  intro m
  induction m with
  | zero =>
   intro f f' i hi hf hf'
   obtain ⟨f, rfl⟩ := im hf
   obtain ⟨f', rfl⟩ := im hf'
   rw [aO, kw, I9 (by omega), sG, sG]
   exact ⟨-1, rfl, rfl, .inl (by omega)⟩
  | succ m ih =>
   intro f f' i hi hf hf'
   obtain ⟨f, rfl⟩ := im hf
   obtain ⟨f', rfl⟩ := im hf'
   have h1 : i < p.length := by omega
   rw [aO, kw, bg h1, vC, vC, aU h1, oy, oy, oj, oy]
   cases he : (p[i].id == x) with
   | true => rw [vC, vC]; exact ⟨i, rfl, rfl, .inr ⟨i, h1, rfl⟩⟩
   | false => rw [sG, sG, az h1 hl]; exact ih f f' (i + 1) (by omega) (by omega) (by omega)
 obtain ⟨r, h1, h2, h3⟩ := key p.length aY aY 0 (by omega) (by rw [bc]; omega) (by rw [bc]; omega)
 refine ⟨r, ?_, h2, h3⟩
 unfold pc cI
 rw [show ((0 : Nat) : Int) = 0 from rfl] at h1
 rw [h1, oy]
theorem Mm {t : am} {e : Int} (h : fc t = some e) : lR t = some (if e ≠ 0 then e else if t.kind = 6 ∨ t.kind = 7 then 2 else 0) := by
 unfold lR lJ
 rw [h, oy]
 by_cases he : e = 0
 ·subst he
  by_cases h6 : t.kind = 6
  ·simp [h6, aM]
  ·by_cases h7 : t.kind = 7 <;> simp [h6, h7, aM]
 ·simp [he, aM]
def Wd (t u : am) : Prop := (t.kind = u.kind ∧ t.scale = u.scale) ∨ (t.kind = 1 ∧ u.kind = 2) ∨ ((t.kind = 1 ∨ t.kind = 2) ∧ u.kind = 3 ∧ u.scale = 0)
structure Rx (t u : am) : Prop where
 a : V t
 b : V u
 c : fc u = some 0
 l : t.kind ≠ 6 ∧ t.kind ≠ 7
 m : u.kind ≠ 6 ∧ u.kind ≠ 7
 w : Wd t u
def N3 (t u : am) : Bool := (t.kind == u.kind && t.scale == u.scale) || (t.kind == 1 && u.kind == 2) || ((t.kind == 1 || t.kind == 2) && u.kind == 3 && u.scale == 0)
theorem HI (t u : am) (ht : jX t < 1000000000) (hu : jX u < 1000000000) : ∃ b, n4 t u = some b ∧ oA t u = some b ∧ (b = true → Rx t u) := by
 obtain ⟨e, a1, a2, a3⟩ := nj t ht
 obtain ⟨e', b1, b2, b3⟩ := nj u hu
 have hc : jL t u false = some (N3 t u) := by
  unfold jL nu nm iw N3
  simp only [aM, beq_iff_eq]
  repeat' split
  all_goals (first | rfl | (simp_all; done) | (simp_all; omega))
 have hr : iM t u false = some (N3 t u) := by
  unfold iM pg oX jV N3
  simp only [aM, beq_iff_eq]
  repeat' split
  all_goals (first | rfl | (simp_all; done) | (simp_all; omega) | (refine congrArg some (Bool.eq_iff_iff.2 ?_); simp_all; try omega))
 have hc0 : jL t u true = some false := rfl
 have hr0 : iM t u true = some false := rfl
 have hC : n4 t u = some (decide (e = 0 ∧ e' = 0 ∧ (t.kind ≠ 6 ∧ t.kind ≠ 7) ∧ (u.kind ≠ 6 ∧ u.kind ≠ 7)) && N3 t u) := by
  unfold n4
  rw [Mm a1, Mm b1, oy, oy]
  by_cases he : e = 0 <;> by_cases he' : e' = 0 <;> by_cases h1 : t.kind = 6 ∨ t.kind = 7 <;> by_cases h2 : u.kind = 6 ∨ u.kind = 7 <;> simp [he, he', show ¬ e' = 0 → (e' != 0) = true from fun h => by simp [h], aM, hc, hc0, h1, h2, show (t.kind ≠ 6 ∧ t.kind ≠ 7) ↔ ¬ (t.kind = 6 ∨ t.kind = 7) from by omega, show (u.kind ≠ 6 ∧ u.kind ≠ 7) ↔ ¬ (u.kind = 6 ∨ u.kind = 7) from by omega]
 have hR : oA t u = some (decide (e = 0 ∧ e' = 0 ∧ (t.kind ≠ 6 ∧ t.kind ≠ 7) ∧ (u.kind ≠ 6 ∧ u.kind ≠ 7)) && N3 t u) := by
  unfold oA
  simp only [a2, b2, Cg, oy]
  by_cases he : e = 0 <;> by_cases he' : e' = 0 <;> by_cases h1 : t.kind ≠ 6 ∧ t.kind ≠ 7 <;> by_cases h2 : u.kind ≠ 6 ∧ u.kind ≠ 7 <;> simp [he, he', h1, h2, aM, hr, hr0]
 refine ⟨_, hC, hR, fun h => ?_⟩
 rw [Bool.and_eq_true, decide_eq_true_iff] at h
 obtain ⟨⟨he, he', h6, h7⟩, hw⟩ := h
 subst he; subst he'
 refine ⟨a3 rfl, b3 rfl, b1, h6, h7, ?_⟩
 unfold N3 at hw
 simp at hw
 unfold Wd
 omega
theorem Ft (t : am) : mX t = some (decide (t.kind = 6 ∨ t.kind = 7)) := by
 unfold mX ml
 by_cases h6 : t.kind = 6 <;> by_cases h7 : t.kind = 7 <;> simp [h6, h7, aM]
def PJ (q : List ac → List ac → Prop) (t u : am) : Prop := (t.kind ≠ 6 ∧ t.kind ≠ 7 → Rx t u) ∧ (¬ (t.kind ≠ 6 ∧ t.kind ≠ 7) → t.kind = u.kind ∧ q t.fields u.fields)
def FY : Nat → List ac → List ac → Prop
 | 0, _, _ => True
 | d + 1, p, q => ∀ f ∈ q, ∀ (i : Nat) (g : ac), pN p f.id = some (i : Int) → p[i]? = some g → PJ (FY d) g.type f.type
theorem Du : ∀ (N k k' : Nat) (p q : List ac), eG q ≤ N → N < k → N < k' → eG p < 1000000000 → eG q < 1000000000 → ∃ e, bp k p q = some e ∧ bX k' p q = some e ∧ (e = 0 → ∀ d, FY d p q) := by
 intro N
 induction N with
 | zero =>
  intro k k' p q h hk hk' hp hq
  obtain ⟨k, rfl⟩ := im hk
  obtain ⟨k', rfl⟩ := im hk'
  have hl := dV q
  have : q = [] := List.length_eq_zero_iff.1 (by omega)
  subst this
  rw [bp, bX, Bl, bq, bT]
  refine ⟨0, rfl, rfl, fun _ d => ?_⟩
  cases d with
  | zero => trivial
  | succ d => exact fun f hf => by cases hf
 | succ N ih =>
  intro k k' p q h hk hk' hp hq
  obtain ⟨k, rfl⟩ := im hk
  obtain ⟨k', rfl⟩ := im hk'
  have hpl := dV p
  have hql := dV q
  have key : ∀ (m f f' i : Nat), i + m = q.length → m < f → m < f' → ∃ e, bq (bp k) p q f (i : Int) = some e ∧ bT (bX k') p q f' (i : Int) = some e ∧
    (e = 0 → ∀ d, ∀ f ∈ q.drop i, ∀ (i : Nat) (g : ac), pN p f.id = some (i : Int) → p[i]? = some g → PJ (FY d) g.type f.type) := by
   intro m
   induction m with
   | zero =>
    intro f f' i hi hf hf'
    obtain ⟨f, rfl⟩ := im hf
    obtain ⟨f', rfl⟩ := im hf'
    rw [bq, bT, I9 (by omega), sG, sG, List.drop_of_length_le (by omega)]
    exact ⟨0, rfl, rfl, fun _ d f hf => by cases hf⟩
   | succ m ih2 =>
    intro f f' i hi hf hf'
    obtain ⟨f, rfl⟩ := im hf
    obtain ⟨f', rfl⟩ := im hf'
    have h1 : i < q.length := by omega
    obtain ⟨e, c1, c2, c3⟩ := ih2 f f' (i + 1) (by omega) (by omega) (by omega)
    obtain ⟨r, r1, r2, r3⟩ := AS (p := p) (by omega) q[i].id
    rw [bq, bT, bg h1, vC, vC, aU h1, oy, oy, r1, oy, r2, oy, AW h1]
    unfold jn kC
    rw [az h1 (by omega)]
    rcases r3 with r3 | ⟨j, hj, rfl⟩
    ·rw [decide_eq_true r3, vC, vC]
     cases hn : q[i].need with
     | true => rw [vC, vC]; exact ⟨9, rfl, rfl, fun h => by cases h⟩
     | false =>
      rw [sG, sG]
      refine ⟨e, c1, c2, fun he d x hx j g hg hpj => ?_⟩
      rcases List.mem_cons.1 hx with rfl | hx
      ·rw [r2] at hg; cases hg; omega
      ·exact c3 he d x hx j g hg hpj
    ·rw [decide_eq_false (by omega), sG, sG, aU hj, oy, oy]
     have hqi := i7 (List.getElem_mem h1)
     have hpj := i7 (List.getElem_mem hj)
     have hqi2 := iz q[i]
     have hpj2 := iz p[j]
     have hqi3 := nQ q[i].type
     have hpj3 := nQ p[j].type
     obtain ⟨y, y1, y2, y3⟩ := ih k k' p[j].type.fields q[i].type.fields (by omega) (by omega) (by omega) (by omega) (by omega)
     obtain ⟨b, b1, b2, b3⟩ := HI p[j].type q[i].type (by omega) (by omega)
     -- what follows when the types suit
     have hgo : ∀ (hat : (∀ d, FY d p[j].type.fields q[i].type.fields) → ∀ d, PJ (FY d) p[j].type q[i].type),
       ∃ e, fv (bp k) (bq (bp k) p q f) (i : Int) q[i] p[j] false = some e ∧ eN (bT (bX k') p q f') (bX k') (i : Int) q[i] p[j] false = some e ∧
        (e = 0 → ∀ d, ∀ f ∈ q[i] :: q.drop (i + 1), ∀ (i : Nat) (g : ac), pN p f.id = some (i : Int) → p[i]? = some g → PJ (FY d) g.type f.type) := by
      intro hat
      unfold fv eN jn kC
      rw [sG, sG, y1, oy, y2, oy, az h1 (by omega)]
      by_cases hy : y = 0
      ·subst hy
       rw [bne_self_eq_false, sG, sG]
       refine ⟨e, c1, c2, fun he d x hx j' g hg hpj' => ?_⟩
       rcases List.mem_cons.1 hx with rfl | hx
       ·rw [r2] at hg
        have : j = j' := by have := Option.some.inj hg; omega
        subst this
        rw [List.getElem?_eq_getElem hj] at hpj'
        cases hpj'
        exact hat (y3 rfl) d
       ·exact c3 he d x hx j' g hg hpj'
      ·rw [show (y != 0) = true by simp [hy], vC, vC]
       exact ⟨y, rfl, rfl, fun h => absurd h hy⟩
     have h2c : fv (bp k) (bq (bp k) p q f) (i : Int) q[i] p[j] true = some 2 := rfl
     have h2r : eN (bT (bX k') p q f') (bX k') (i : Int) q[i] p[j] true = some 2 := rfl
     have hj1 : ∃ e, jh (bp k) (bq (bp k) p q f) (i : Int) q[i] p[j] false = some e ∧ kx (bT (bX k') p q f') (bX k') (i : Int) q[i] p[j] false = some e ∧
        (e = 0 → ∀ d, ∀ f ∈ q[i] :: q.drop (i + 1), ∀ (i : Nat) (g : ac), pN p f.id = some (i : Int) → p[i]? = some g → PJ (FY d) g.type f.type) := by
      unfold jh kx kN
      rw [sG, sG, Ft, oy, Cg, oy]
      by_cases hlf : p[j].type.kind ≠ 6 ∧ p[j].type.kind ≠ 7
      ·rw [decide_eq_true hlf, decide_eq_false (by omega)]
       simp only [Bool.not_true, Bool.not_false, vC, sG, oy, b1, b2]
       cases b with
       | true => exact hgo fun _ d => ⟨fun _ => b3 rfl, fun h => absurd hlf h⟩
       | false => exact ⟨2, rfl, rfl, fun h => by cases h⟩
      ·rw [decide_eq_false hlf, decide_eq_true (by omega)]
       simp only [Bool.not_true, Bool.not_false, vC, sG, oy]
       by_cases hk : p[j].type.kind = q[i].type.kind
       ·rw [show (q[i].type.kind != p[j].type.kind) = false by simp [hk], show (p[j].type.kind != q[i].type.kind) = false by simp [hk], sG, sG]
        exact hgo fun hh d => ⟨fun h => absurd h hlf, fun _ => ⟨hk, hh d⟩⟩
       ·rw [show (q[i].type.kind != p[j].type.kind) = true by simp; omega, show (p[j].type.kind != q[i].type.kind) = true by simp; omega, vC, vC]
        exact ⟨2, rfl, rfl, fun h => by cases h⟩
     cases hn : q[i].need with
     | true =>
      rw [vC, vC]
      cases hm : p[j].need with
      | true => exact hj1
      | false => exact ⟨9, rfl, rfl, fun h => by cases h⟩
     | false => rw [sG, sG]; exact hj1
  obtain ⟨e, e1, e2, e3⟩ := key q.length aY aY 0 (by omega) (by rw [bc]; omega) (by rw [bc]; omega)
  refine ⟨e, e1, e2, fun he d => ?_⟩
  cases d with
  | zero => trivial
  | succ d => exact e3 he d
end Go.Proofs.YtikbfjpcmalmlaaGreatDoor
namespace Go.Proofs.YtikbfjpcmalmlaaGreatDoor
open Go Go.SX Go.SX.Cal Go.Lib
theorem DP (t : am) : pP t = some (decide (t.kind ≠ 6 ∧ t.kind ≠ 7)) := by
 unfold pP pX
 by_cases h6 : t.kind = 6 <;> by_cases h7 : t.kind = 7 <;> simp [h6, h7, aM]
def tc : am := ⟨0, 0, []⟩
def KV (p : bY) (t : am) : am × Int :=
 if t.kind = 6 ∨ t.kind = 7 then (tc, 2) else if p.kind = 3 ∧ t.kind ≠ 2 ∧ t.kind ≠ 3 ∧ t.kind ≠ 4 then (tc, 2) else if 4 ≤ p.kind ∧ t.kind ≠ 5 then (tc, 2)
 else if p.kind = 2 ∨ 4 ≤ p.kind then (⟨2, 0, []⟩, 0) else (t, 0)
def EU (p : bY) (t : am) (e : Int) : am × Int :=
 if e ≠ 0 then (tc, e) else if p.kind < 0 ∨ 7 < p.kind then (tc, 3)
 else if p.kind = 2 ∨ p.kind = 3 then (if p.param < 1 ∨ 1000000 < p.param then (tc, 3) else KV p t) else if p.param ≠ 0 then (tc, 3) else KV p t
theorem Rb (p : bY) (t : am) : gO p t = some (KV p t) := by
 unfold gO fj fh jy KV tc
 rw [DP]
 simp only [aX, aM]
 by_cases h6 : t.kind = 6
 ·simp [h6]
 by_cases h7 : t.kind = 7
 ·simp [h7]
 by_cases h3 : p.kind = 3
 ·by_cases t2 : t.kind = 2
  ·simp [h6, h7, h3, t2]
  by_cases t3 : t.kind = 3
  ·simp [h6, h7, h3, t2, t3]
  by_cases t4 : t.kind = 4
  ·simp [h6, h7, h3, t2, t3, t4]
  simp [h6, h7, h3, t2, t3, t4]
 ·by_cases h4 : 4 ≤ p.kind
  ·by_cases t5 : t.kind = 5
   ·simp [h6, h7, h3, h4, t5]
   ·simp [h6, h7, h3, h4, t5]
  ·by_cases h2 : p.kind = 2
   ·simp [h6, h7, h3, h4, h2]
   ·simp [h6, h7, h3, h4, h2]
theorem NX (p : bY) (t : am) : dj p t false = some (KV p t) := by
 unfold dj fO j3 j5 KV tc
 rw [Cg]
 simp only [aX, aM]
 by_cases h6 : t.kind = 6
 ·simp [h6]
 by_cases h7 : t.kind = 7
 ·simp [h7]
 by_cases h3 : p.kind = 3
 ·by_cases t2 : t.kind = 2
  ·simp [h6, h7, h3, t2]
  by_cases t3 : t.kind = 3
  ·simp [h6, h7, h3, t2, t3]
  by_cases t4 : t.kind = 4
  ·simp [h6, h7, h3, t2, t3, t4]
  simp [h6, h7, h3, t2, t3, t4]
 ·by_cases h4 : 4 ≤ p.kind
  ·by_cases t5 : t.kind = 5
   ·simp [h6, h7, h3, h4, t5]
   ·simp [h6, h7, h3, h4, t5]
  ·by_cases h2 : p.kind = 2
   ·simp [h6, h7, h3, h4, h2]
   ·simp [h6, h7, h3, h4, h2]
theorem mg (a b c : Int) : dp a b c = some (decide (b ≤ a ∧ a ≤ c)) := by
 unfold dp oP
 by_cases h1 : b ≤ a <;> by_cases h2 : a ≤ c <;> simp [h1, h2, aM]
theorem tt (p : bY) (t : am) (hs : jX t < 1000000000) : ∃ e, (e = 0 → V t) ∧ fo p t = some (EU p t e) ∧ gi p t = some (EU p t e) := by
 obtain ⟨e, h1, h2, h3⟩ := nj t hs
 refine ⟨e, h3, ?_, ?_⟩
 ·unfold fo EU
  rw [h1]
  by_cases he : e = 0
  ·subst he
   unfold jz ju jv
   rw [Rb]
   simp only [aX, aM, tc]
   by_cases k0 : p.kind < 0
   ·simp [k0]
   by_cases k7 : 7 < p.kind
   ·simp [k0, k7]
   by_cases k2 : p.kind = 2
   ·by_cases m1 : p.param < 1
    ·simp [k0, k7, k2, m1]
    by_cases m2 : 1000000 < p.param
    ·simp [k0, k7, k2, m1, m2]
    simp [k0, k7, k2, m1, m2]
   by_cases k3 : p.kind = 3
   ·by_cases m1 : p.param < 1
    ·simp [k0, k7, k2, k3, m1]
    by_cases m2 : 1000000 < p.param
    ·simp [k0, k7, k2, k3, m1, m2]
    simp [k0, k7, k2, k3, m1, m2]
   by_cases m0 : p.param = 0
   ·simp [k0, k7, k2, k3, m0]
   ·simp [k0, k7, k2, k3, m0]
  ·simp [he, aM, aX, tc]
 ·unfold gi EU
  rw [h2]
  by_cases he : e = 0
  ·subst he
   unfold j4
   rw [mg, mg]
   have hb : dj p t true = some (tc, 3) := rfl
   by_cases k0 : p.kind < 0
   ·simp [k0, aM, aX, show ¬ (0 : Int) ≤ p.kind by omega, tc]
   by_cases k7 : 7 < p.kind
   ·simp [k0, k7, aM, aX, show ¬ p.kind ≤ 7 by omega, tc]
   have k0' : (0 : Int) ≤ p.kind := by omega
   have k7' : p.kind ≤ 7 := by omega
   by_cases k2 : p.kind = 2
   ·by_cases m1 : p.param < 1
    ·simp [k2, m1, aM, aX, hb, show ¬ (1 : Int) ≤ p.param by omega]
    by_cases m2 : 1000000 < p.param
    ·simp [k2, m1, m2, aM, aX, hb, show ¬ p.param ≤ 1000000 by omega]
    simp [k2, m1, m2, aM, aX, NX, show (1 : Int) ≤ p.param by omega, show p.param ≤ 1000000 by omega]
   by_cases k3 : p.kind = 3
   ·by_cases m1 : p.param < 1
    ·simp [k3, m1, aM, aX, hb, show ¬ (1 : Int) ≤ p.param by omega]
    by_cases m2 : 1000000 < p.param
    ·simp [k3, m1, m2, aM, aX, hb, show ¬ p.param ≤ 1000000 by omega]
    simp [k3, m1, m2, aM, aX, NX, show (1 : Int) ≤ p.param by omega, show p.param ≤ 1000000 by omega]
   by_cases m0 : p.param = 0
   ·simp [k0, k7, k0', k7', k2, k3, m0, aM, aX, NX]
   ·have hm : (p.param != 0) = true := bne_iff_ne.2 m0
    simp [k0, k7, k0', k7', k2, k3, m0, hm, aM, aX, hb]
  ·simp [he, aM, aX, tc]
structure R0 (p : bY) (t : am) : Prop where
 v : V t
 k6 : t.kind ≠ 6
 k7 : t.kind ≠ 7
 lo : 0 ≤ p.kind
 hi : p.kind ≤ 7
 par : p.kind = 2 ∨ p.kind = 3 → 1 ≤ p.param ∧ p.param ≤ 1000000
 cut : p.kind = 3 → t.kind = 2 ∨ t.kind = 3 ∨ t.kind = 4
 tim : 4 ≤ p.kind → t.kind = 5
theorem MP {p : bY} {t : am} {e : Int} (hv : e = 0 → V t) (h : (EU p t e).2 = 0) : R0 p t := by
 unfold EU KV at h
 by_cases he : e = 0
 ·subst he
  rw [if_neg (by decide)] at h
  by_cases hk : p.kind < 0 ∨ 7 < p.kind
  ·rw [if_pos hk] at h; exact absurd h (by decide)
  rw [if_neg hk] at h
  have fin : (if t.kind = 6 ∨ t.kind = 7 then (tc, (2 : Int)) else if p.kind = 3 ∧ t.kind ≠ 2 ∧ t.kind ≠ 3 ∧ t.kind ≠ 4 then (tc, 2) else if 4 ≤ p.kind ∧ t.kind ≠ 5 then (tc, 2) else if p.kind = 2 ∨ 4 ≤ p.kind then (⟨2, 0, []⟩, 0) else (t, 0)).2 = 0 →
    t.kind ≠ 6 ∧ t.kind ≠ 7 ∧ (p.kind = 3 → t.kind = 2 ∨ t.kind = 3 ∨ t.kind = 4) ∧ (4 ≤ p.kind → t.kind = 5) := fun h => by
   by_cases a : t.kind = 6 ∨ t.kind = 7
   ·rw [if_pos a] at h; exact absurd h (by decide)
   rw [if_neg a] at h
   by_cases b : p.kind = 3 ∧ t.kind ≠ 2 ∧ t.kind ≠ 3 ∧ t.kind ≠ 4
   ·rw [if_pos b] at h; exact absurd h (by decide)
   rw [if_neg b] at h
   by_cases c : 4 ≤ p.kind ∧ t.kind ≠ 5
   ·rw [if_pos c] at h; exact absurd h (by decide)
   exact ⟨by omega, by omega, by omega, by omega⟩
  by_cases h23 : p.kind = 2 ∨ p.kind = 3
  ·rw [if_pos h23] at h
   by_cases hm : p.param < 1 ∨ 1000000 < p.param
   ·rw [if_pos hm] at h; exact absurd h (by decide)
   rw [if_neg hm] at h
   obtain ⟨a, b, c, d⟩ := fin h
   exact ⟨hv rfl, a, b, by omega, by omega, fun _ => by omega, c, d⟩
  ·rw [if_neg h23] at h
   by_cases hm : p.param ≠ 0
   ·rw [if_pos hm] at h; exact absurd h (by decide)
   rw [if_neg hm] at h
   obtain ⟨a, b, c, d⟩ := fin h
   exact ⟨hv rfl, a, b, by omega, by omega, fun h => absurd h h23, c, d⟩
 ·rw [if_pos he] at h; exact absurd h he
end Go.Proofs.YtikbfjpcmalmlaaGreatDoor
namespace Go.Proofs.YtikbfjpcmalmlaaGreatDoor
open Go Go.SX Go.SX.Cal
theorem bS {α β : Type} (a : α) (f : α → Option β) : aB (some a) f = f a := rfl
theorem iT {β : Type} (x y : Option β) : al true x y = x := rfl
theorem iF {β : Type} (x y : Option β) : al false x y = y := rfl
theorem gP {β : Type} {p : Prop} [Decidable p] {x : Option β} (h : p) : nC p x = x := if_pos h
theorem B8 {i n : Nat} (h : ¬ i < n) : decide ((i : Int) < (n : Int)) = false := by simp; omega
theorem fu {m f : Nat} (h : m < f) : ∃ q, f = q + 1 := ⟨f - 1, by omega⟩
theorem Ad : aY = 1152921504606846975 + 1 := rfl
structure KT (fs : List ac) (id : Int) (i : Nat) : Prop where
 lt : i < fs.length
 eq : ∀ h : i < fs.length, fs[i].id = id
 no : ∀ (j : Nat) (h : j < fs.length), j < i → fs[j].id ≠ id
theorem Nj {fs : List ac} (id : Int) : ∀ (m j : Nat), j + m = fs.length → (∃ i, j ≤ i ∧ i < fs.length ∧ (∀ h : i < fs.length, fs[i].id = id) ∧ ∀ (q : Nat) (h : q < fs.length), j ≤ q → q < i → fs[q].id ≠ id) ∨ ∀ (q : Nat) (h : q < fs.length), j ≤ q → fs[q].id ≠ id := by
 intro m
 induction m with
 | zero => intro j h; exact .inr fun q hq hj => by omega
 | succ m ih =>
  intro j h
  have hj : j < fs.length := by omega
  by_cases e : fs[j].id = id
  ·exact .inl ⟨j, Nat.le_refl _, hj, fun _ => e, fun q _ h1 h2 => by omega⟩
  ·rcases ih (j + 1) (by omega) with ⟨i, h1, h2, h3, h4⟩ | h1
   ·refine .inl ⟨i, by omega, h2, h3, fun q hq h5 h6 => ?_⟩
    by_cases e2 : q = j
    ·subst e2; exact e
    ·exact h4 q hq (by omega) h6
   ·refine .inr fun q hq h5 => ?_
    by_cases e2 : q = j
    ·subst e2; exact e
    ·exact h1 q hq (by omega)
theorem KT.or (fs : List ac) (id : Int) : (∃ i, KT fs id i) ∨ ∀ (q : Nat) (h : q < fs.length), fs[q].id ≠ id := by
 rcases Nj (fs := fs) id fs.length 0 (by omega) with ⟨i, _, h2, h3, h4⟩ | h
 ·exact .inl ⟨i, h2, h3, fun j hj hi => h4 j hj (Nat.zero_le _) hi⟩
 ·exact .inr fun q hq => h q hq (Nat.zero_le _)
theorem Q6 {fs : List ac} (hn : fs.length < 1000000000) {id : Int} {i : Nat} (hF : KT fs id i) : ∀ (m f j : Nat), j + m = i → m < f →
  aD fs id f (j : Int) = some (i : Int) := by
 intro m
 induction m with
 | zero =>
  intro f j h hf
  obtain ⟨q, rfl⟩ := fu hf
  have e : j = i := by omega
  subst e
  rw [aD, bg hF.lt, iT, aU hF.lt, bS]
  unfold nN
  rw [bS, hF.eq hF.lt, beq_self_eq_true, iT]
 | succ m ih =>
  intro f j h hf
  obtain ⟨q, rfl⟩ := fu hf
  have hj : j < fs.length := by have := hF.lt; omega
  rw [aD, bg hj, iT, aU hj, bS]
  unfold nN
  rw [bS, beq_eq_false_iff_ne.2 (hF.no j hj (by omega)), iF, az hj hn]
  exact ih q (j + 1) (by omega) (by omega)
theorem Q8 {fs : List ac} (hn : fs.length < 1000000000) {id : Int} (hF : ∀ (q : Nat) (h : q < fs.length), fs[q].id ≠ id) : ∀ (m f j : Nat), j + m = fs.length → m < f →
  aD fs id f (j : Int) = some (-1) := by
 intro m
 induction m with
 | zero =>
  intro f j h hf
  obtain ⟨q, rfl⟩ := fu hf
  rw [aD, B8 (by omega), iF]
  rfl
 | succ m ih =>
  intro f j h hf
  obtain ⟨q, rfl⟩ := fu hf
  have hj : j < fs.length := by omega
  rw [aD, bg hj, iT, aU hj, bS]
  unfold nN
  rw [bS, beq_eq_false_iff_ne.2 (hF j hj), iF, az hj hn]
  exact ih q (j + 1) (by omega) (by omega)
theorem wc {fs : List ac} (hn : fs.length < 1000000000) {id : Int} {i : Nat} (hF : KT fs id i) : jP fs id = some (i : Int) := by
 unfold jP bZ
 have h := Q6 hn hF i aY 0 (by omega) (by rw [Ad]; have := hF.lt; omega)
 rw [show ((0 : Nat) : Int) = 0 from rfl] at h
 rw [h]; rfl
theorem wD {fs : List ac} (hn : fs.length < 1000000000) {id : Int} (hF : ∀ (q : Nat) (h : q < fs.length), fs[q].id ≠ id) : jP fs id = some (-1) := by
 unfold jP bZ
 have h := Q8 hn hF fs.length aY 0 (by omega) (by rw [Ad]; omega)
 rw [show ((0 : Nat) : Int) = 0 from rfl] at h
 rw [h]; rfl
theorem Pg {fs : List ac} (hn : fs.length < 1000000000) {id : Int} {i : Nat} (hF : KT fs id i) : ∀ (m f j : Nat), j + m = i → m < f →
  iL fs id f (j : Int) = some (fs[i]'hF.lt, true) := by
 intro m
 induction m with
 | zero =>
  intro f j h hf
  obtain ⟨q, rfl⟩ := fu hf
  have e : j = i := by omega
  subst e
  rw [iL, bg hF.lt, iT, aU hF.lt, bS, hF.eq hF.lt, beq_self_eq_true, iT]
 | succ m ih =>
  intro f j h hf
  obtain ⟨q, rfl⟩ := fu hf
  have hj : j < fs.length := by have := hF.lt; omega
  rw [iL, bg hj, iT, aU hj, bS, beq_eq_false_iff_ne.2 (hF.no j hj (by omega)), iF, az hj hn]
  exact ih q (j + 1) (by omega) (by omega)
theorem OI {fs : List ac} (hn : fs.length < 1000000000) {id : Int} (hF : ∀ (q : Nat) (h : q < fs.length), fs[q].id ≠ id) : ∀ (m f j : Nat), j + m = fs.length → m < f →
  ∃ g, iL fs id f (j : Int) = some (g, false) := by
 intro m
 induction m with
 | zero =>
  intro f j h hf
  obtain ⟨q, rfl⟩ := fu hf
  rw [iL, B8 (by omega), iF]
  exact ⟨_, rfl⟩
 | succ m ih =>
  intro f j h hf
  obtain ⟨q, rfl⟩ := fu hf
  have hj : j < fs.length := by omega
  rw [iL, bg hj, iT, aU hj, bS, beq_eq_false_iff_ne.2 (hF j hj), iF, az hj hn]
  exact ih q (j + 1) (by omega) (by omega)
theorem ym {fs : List ac} (hn : fs.length < 1000000000) {id : Int} {i : Nat} (hF : KT fs id i) : mK fs id = some (fs[i]'hF.lt, true) := by
 have h := Pg hn hF i aY 0 (by omega) (by rw [Ad]; have := hF.lt; omega)
 exact h
theorem yP {fs : List ac} (hn : fs.length < 1000000000) {id : Int} (hF : ∀ (q : Nat) (h : q < fs.length), fs[q].id ≠ id) : ∃ g, mK fs id = some (g, false) := by
 obtain ⟨g, h⟩ := OI hn hF fs.length aY 0 (by omega) (by rw [Ad]; omega)
 exact ⟨g, h⟩
def AK (a b : bj) : Bool := (a.source == b.source) && (((a.transform.kind == b.transform.kind) && ((a.transform.param == b.transform.param) && true)) && true)
theorem D7 (a b : bj) : AK a b = true ↔ a = b := by
 obtain ⟨s, k, p⟩ := a
 obtain ⟨s2, k2, p2⟩ := b
 simp [AK, and_assoc]
theorem Iv (a b : bj) : AK a b = AK b a := by
 rw [Bool.eq_iff_iff, D7, D7]; exact eq_comm
theorem QF {l : List bj} (hn : l.length < 1000000000) (e : bj) : ∀ (m f j : Nat), j + m = l.length → m < f → ∃ r, bi l e f (j : Int) = some r ∧ decide ((0 : Int) ≤ r) = (l.drop j).any (AK e) := by
 intro m
 induction m with
 | zero =>
  intro f j h hf
  obtain ⟨q, rfl⟩ := fu hf
  rw [bi, B8 (by omega), iF]
  exact ⟨-1, rfl, by rw [List.drop_of_length_le (by omega)]; rfl⟩
 | succ m ih =>
  intro f j h hf
  obtain ⟨q, rfl⟩ := fu hf
  have hj : j < l.length := by omega
  rw [bi, bg hj, iT, aU hj, bS, bS, List.drop_eq_getElem_cons hj, List.any_cons]
  show ∃ r, al (AK e l[j]) _ _ = _ ∧ _
  cases hb : AK e l[j] with
  | true => exact ⟨_, rfl, by simp⟩
  | false =>
   rw [iF, az hj hn]
   exact ih q (j + 1) (by omega) (by omega)
theorem MU {l : List bj} (hn : l.length < 1000000000) (e : bj) : cN l e = some (l.any (AK e)) := by
 unfold cN eH
 obtain ⟨r, h1, h2⟩ := QF hn e l.length aY 0 (by omega) (by rw [Ad]; omega)
 rw [show ((0 : Nat) : Int) = 0 from rfl] at h1
 rw [h1, bS, h2]; rfl
theorem Qz {p : di} (hn : p.fields.length < 1000000000) (rec1 : Int → Option Int) (x1 : Nat) (hx : x1 ≤ p.fields.length) (e : bj) : ∀ (m f j : Nat), j + m = x1 → m < f →
  jE rec1 p (x1 : Int) e f (j : Int) = if ((p.fields.take x1).drop j).any (AK e) = true then some 5 else qk rec1 (x1 : Int) := by
 intro m
 induction m with
 | zero =>
  intro f j h hf
  obtain ⟨q, rfl⟩ := fu hf
  rw [jE, B8 (by omega), iF, List.drop_of_length_le (by rw [List.length_take]; omega)]
  rfl
 | succ m ih =>
  intro f j h hf
  obtain ⟨q, rfl⟩ := fu hf
  have hj : j < p.fields.length := by omega
  have hj2 : j < (p.fields.take x1).length := by rw [List.length_take]; omega
  rw [jE, bg (show j < x1 by omega), iT, aU hj, bS, bS, List.drop_eq_getElem_cons hj2, List.any_cons]
  rw [show (p.fields.take x1)[j] = p.fields[j] by simp]
  show al (AK p.fields[j] e) _ _ = _
  rw [Iv]
  cases hb : AK e p.fields[j] with
  | true => simp [iT]
  | false =>
   rw [iF, az (show j < x1 by omega) (by omega), ih q (j + 1) (by omega) (by omega)]
   simp
theorem FW {p : di} {fs : List ac} (hp : p.fields.length < 1000000000) (hf : eG fs < 1000000000) : ∀ (m f j : Nat), j + m = p.fields.length → m < f →
  ∃ c, iN p fs f (j : Int) = some c ∧ fT p fs f (j : Int) = some c ∧ (c = 0 → ∀ (k : Nat) (h : k < p.fields.length), j ≤ k → ∃ i, KT fs p.fields[k].source i) := by
 have hn : fs.length < 1000000000 := by have := dV fs; omega
 intro m
 induction m with
 | zero =>
  intro f j h hq
  obtain ⟨q, rfl⟩ := fu hq
  refine ⟨0, ?_, ?_, fun _ k hk hj => by omega⟩
  ·rw [iN, B8 (by omega), iF]; rfl
  ·rw [fT, B8 (by omega), iF]; rfl
 | succ m ih =>
  intro f j h hq
  obtain ⟨q, rfl⟩ := fu hq
  have hj : j < p.fields.length := by omega
  rw [iN, fT, bg hj, iT, iT, aU hj, bS, bS]
  rcases KT.or fs p.fields[j].source with ⟨i, hi⟩ | hi
  ·rw [wc hn hi, ym hn hi, bS, bS]
   have hs : jX (fs[i]'hi.lt).type < 1000000000 := by
    have h1 := i7 (List.getElem_mem hi.lt)
    have h2 := iz (fs[i]'hi.lt)
    omega
   obtain ⟨e, he, t1, t2⟩ := tt p.fields[j].transform (fs[i]'hi.lt).type hs
   rw [show decide ((i : Int) < 0) = false from by simp, iF, aU hi.lt, bS, t1, bS]
   show ∃ c, _ ∧ al (!true) _ _ = _ ∧ _
   rw [Bool.not_true, iF]
   show ∃ c, _ ∧ aB (gi p.fields[j].transform (fs[i]'hi.lt).type) _ = _ ∧ _
   rw [t2, bS]
   by_cases hz : (EU p.fields[j].transform (fs[i]'hi.lt).type e).2 = 0
   ·rw [hz, show ((0 : Int) != 0) = false from rfl, iF, iF, gP ⟨by omega, by omega, by omega⟩]
    have hd : (List.take ((j : Int).toNat - (0 : Int).toNat) (List.drop (0 : Int).toNat p.fields)) = p.fields.take j := by simp
    rw [hd, MU (by rw [List.length_take]; omega), bS]
    have hr := Qz hp (fT p fs q) j (by omega) p.fields[j] j aY 0 (by omega) (by rw [Ad]; omega)
    rw [show ((0 : Nat) : Int) = 0 from rfl, List.drop_zero] at hr
    rw [hr]
    cases hb : (p.fields.take j).any (AK p.fields[j]) with
    | true => exact ⟨5, rfl, rfl, fun h => absurd h (by decide)⟩
    | false =>
     obtain ⟨c, c1, c2, c3⟩ := ih q (j + 1) (by omega) (by omega)
     refine ⟨c, by rw [iF, az hj hp]; exact c1, by
      rw [if_neg (by decide)]
      unfold qk
      rw [az hj hp]; exact c2, fun hc k hk hjk => ?_⟩
     by_cases e : k = j
     ·subst e; exact ⟨i, hi⟩
     ·exact c3 hc k hk (by omega)
   ·have hne : ((EU p.fields[j].transform (fs[i]'hi.lt).type e).2 != 0) = true := bne_iff_ne.2 hz
    rw [hne, iT, iT]
    exact ⟨_, rfl, rfl, fun h => absurd h hz⟩
  ·obtain ⟨g, hg⟩ := yP hn hi
   rw [wD hn hi, hg, bS, bS, show decide ((-1 : Int) < 0) = true from rfl, iT]
   exact ⟨9, rfl, rfl, fun h => absurd h (by decide)⟩
theorem J7 (p : di) {fs : List ac} (hp : p.fields.length < 1000000000) (hf : eG fs < 1000000000) : ∃ c, ox p fs = some c ∧ rF p fs = some c ∧ (c = 0 → ∀ (k : Nat) (h : k < p.fields.length), ∃ i, KT fs p.fields[k].source i) := by
 unfold ox rF
 cases hb : decide ((4 : Int) < (p.fields.length : Int)) with
 | true => exact ⟨7, rfl, rfl, fun h => absurd h (by decide)⟩
 | false =>
  rw [iF, iF]
  obtain ⟨c, h1, h2, h3⟩ := FW (p := p) hp hf p.fields.length aY 0 (by omega) (by rw [Ad]; omega)
  exact ⟨c, h1, h2, fun hc k hk => h3 hc k hk (Nat.zero_le _)⟩
end Go.Proofs.YtikbfjpcmalmlaaGreatDoor
namespace Go.Proofs.YtikbfjpcmalmlaaGreatDoor
open Go Go.SX Go.SX.Cal
def ee (e : Int) (f : Option Int) : Option Int := if e ≠ 0 then some e else f
def mA (a b : Int) : Int := if a ≠ 0 then a else b
def er (b : Bool) (e : Int) : Int := if b then e else 0
theorem gZ (e : Int) (f : Option Int) : al (e != (0 : Int)) (some e) f = ee e f := by
 unfold ee; by_cases h : e = 0 <;> simp [h, aM]
theorem dB {b : Bool} {e : Int} (he : e ≠ 0) (f : Option Int) : al b (some e) f = ee (er b e) f := by
 unfold ee er; cases b <;> simp [he, aM]
theorem bz (a b : Int) (f : Option Int) : ee a (ee b f) = ee (mA a b) f := by
 unfold ee mA; by_cases h : a = 0 <;> simp [h]
theorem dM (a : Int) : ee a (some 0) = some a := by unfold ee; by_cases h : a = 0 <;> simp [h]
theorem sT (a b : Int) : ee a (some b) = some (mA a b) := by unfold ee mA; by_cases h : a = 0 <;> simp [h]
theorem wB {a b : Int} : mA a b = 0 ↔ a = 0 ∧ b = 0 := by unfold mA; by_cases h : a = 0 <;> simp [h]
theorem Bf {b : Bool} {e : Int} (he : e ≠ 0) : er b e = 0 ↔ b = false := by unfold er; cases b <;> simp [he]
theorem Hf (e : Int) : er true e = e := rfl
theorem Eg (e : Int) : er false e = 0 := rfl
theorem DR (b : Int) : mA 0 b = b := rfl
theorem Gt {a : Int} (h : a ≠ 0) (b : Int) : mA a b = a := by unfold mA; rw [if_pos h]
def fe (c : Nat → Int) : Nat → Nat → Int
 | 0, _ => 0
 | m + 1, i => mA (c i) (fe c m (i + 1))
theorem Oq {c : Nat → Int} : ∀ {m i : Nat}, fe c m i = 0 ↔ ∀ j, i ≤ j → j < i + m → c j = 0
 | 0, i => by simp [fe]; intro j h1 h2; omega
 | m + 1, i => by
  rw [fe, wB, Oq (m := m)]
  constructor
  ·rintro ⟨h1, h2⟩ j h3 h4
   by_cases e : j = i
   ·subst e; exact h1
   ·exact h2 j (by omega) (by omega)
  ·exact fun h => ⟨h i (Nat.le_refl _) (by omega), fun j h1 h2 => h j (by omega) (by omega)⟩
theorem Hk {n : Nat} {L : Nat → Int → Option Int} {fin : Option Int} {c : Nat → Int} (h0 : ∀ k, L (k + 1) (n : Int) = fin) (h1 : ∀ k i, i < n → L (k + 1) (i : Int) = ee (c i) (L k ((i + 1 : Nat) : Int))) :
  ∀ m k i, i + m = n → m < k → L k (i : Int) = ee (fe c m i) fin
 | 0, k, i, hi, hk => by
  obtain ⟨k, rfl⟩ := fu hk
  have : i = n := by omega
  subst this
  rw [h0]; rfl
 | m + 1, k, i, hi, hk => by
  obtain ⟨k, rfl⟩ := fu hk
  rw [h1 k i (by omega), Hk h0 h1 m k (i + 1) (by omega) (by omega), bz]; rfl
theorem gu {n : Nat} {L : Nat → Int → Option Int} {fin : Option Int} {c : Nat → Int} (hn : n < 1000000000) (h0 : ∀ k, L (k + 1) (n : Int) = fin) (h1 : ∀ k i, i < n → L (k + 1) (i : Int) = ee (c i) (L k ((i + 1 : Nat) : Int))) :
  L aY (0 : Int) = ee (fe c n 0) fin :=
 Hk h0 h1 n aY 0 (by omega) (by rw [bc]; omega)
def mT (p : Nat → Bool) (n : Nat) : Bool := (List.range n).any p
theorem eZ {p : Nat → Bool} {n : Nat} : mT p n = true ↔ ∃ j, j < n ∧ p j = true := by
 unfold mT; rw [List.any_eq_true]; simp [List.mem_range]
theorem rB (n : Nat) : decide ((n : Int) < (n : Int)) = false := by simp
theorem jl {a b : Bool} (h : a = true ↔ b = true) : a = b := Bool.eq_iff_iff.2 h
theorem Ei {n : Nat} {L : Nat → Int → Option Int} {p : Nat → Bool} (h0 : ∀ k, L (k + 1) (n : Int) = some (-1)) (h1 : ∀ k i, i < n → L (k + 1) (i : Int) = al (p i) (some (i : Int)) (L k ((i + 1 : Nat) : Int))) :
  ∀ m k i, i + m = n → m < k → ∃ r, L k (i : Int) = some r ∧ (decide ((0 : Int) ≤ r) = true ↔ ∃ j, i ≤ j ∧ j < n ∧ p j = true)
 | 0, k, i, hi, hk => by
  obtain ⟨k, rfl⟩ := fu hk
  have : i = n := by omega
  subst this
  exact ⟨-1, h0 k, by simp; intro j h1 h2; omega⟩
 | m + 1, k, i, hi, hk => by
  obtain ⟨k, rfl⟩ := fu hk
  rw [h1 k i (by omega)]
  cases hp : p i with
  | true => exact ⟨i, rfl, by simp; exact ⟨i, Nat.le_refl _, by omega, hp⟩⟩
  | false =>
   obtain ⟨r, e1, e2⟩ := Ei h0 h1 m k (i + 1) (by omega) (by omega)
   refine ⟨r, e1, e2.trans ⟨fun ⟨j, a, b, c⟩ => ⟨j, by omega, b, c⟩, fun ⟨j, a, b, c⟩ => ⟨j, ?_, b, c⟩⟩⟩
   by_cases e : j = i
   ·subst e; rw [hp] at c; cases c
   ·omega
theorem Ma {n : Nat} {L : Nat → Int → Option Int} {p : Nat → Bool} (hn : n < 1000000000) (h0 : ∀ k, L (k + 1) (n : Int) = some (-1)) (h1 : ∀ k i, i < n → L (k + 1) (i : Int) = al (p i) (some (i : Int)) (L k ((i + 1 : Nat) : Int))) :
  ∃ r, L aY (0 : Int) = some r ∧ decide ((0 : Int) ≤ r) = mT p n := by
 obtain ⟨r, e1, e2⟩ := Ei h0 h1 n aY 0 (by omega) (by rw [bc]; omega)
 refine ⟨r, e1, jl (e2.trans (Iff.trans ?_ eZ.symm))⟩
 exact ⟨fun ⟨j, _, b, c⟩ => ⟨j, b, c⟩, fun ⟨j, b, c⟩ => ⟨j, Nat.zero_le _, b, c⟩⟩
theorem E9 {n : Nat} {L : Nat → Int → Option Bool} {p : Nat → Bool} (h0 : ∀ k, L (k + 1) (n : Int) = some true) (h1 : ∀ k i, i < n → L (k + 1) (i : Int) = al (p i) (some false) (L k ((i + 1 : Nat) : Int))) :
  ∀ m k i, i + m = n → m < k → ∃ b, L k (i : Int) = some b ∧ (b = true ↔ ∀ j, i ≤ j → j < n → p j = false)
 | 0, k, i, hi, hk => by
  obtain ⟨k, rfl⟩ := fu hk
  have : i = n := by omega
  subst this
  exact ⟨true, h0 k, by simp; intro j h1 h2; omega⟩
 | m + 1, k, i, hi, hk => by
  obtain ⟨k, rfl⟩ := fu hk
  rw [h1 k i (by omega)]
  cases hp : p i with
  | true =>
   refine ⟨false, rfl, by simp; exact ⟨i, Nat.le_refl _, by omega, hp⟩⟩
  | false =>
   obtain ⟨b, e1, e2⟩ := E9 h0 h1 m k (i + 1) (by omega) (by omega)
   refine ⟨b, e1, e2.trans ⟨fun h j a b => ?_, fun h j a b => h j (by omega) b⟩⟩
   by_cases e : j = i
   ·subst e; exact hp
   ·exact h j (by omega) b
def LX (p : Nat → Bool) (n : Nat) : Bool := !mT p n
theorem Kr {p : Nat → Bool} {n : Nat} : LX p n = true ↔ ∀ j, j < n → p j = false := by
 unfold LX
 rw [Bool.not_eq_true', ← Bool.not_eq_true, eZ]
 constructor
 ·intro h j b
  cases hp : p j with
  | false => rfl
  | true => exact absurd ⟨j, b, hp⟩ h
 ·rintro h ⟨j, b, c⟩
  rw [h j b] at c; cases c
theorem G1 {n : Nat} {L : Nat → Int → Option Bool} {p : Nat → Bool} (hn : n < 1000000000) (h0 : ∀ k, L (k + 1) (n : Int) = some true) (h1 : ∀ k i, i < n → L (k + 1) (i : Int) = al (p i) (some false) (L k ((i + 1 : Nat) : Int))) :
  L aY (0 : Int) = some (LX p n) := by
 obtain ⟨b, e1, e2⟩ := E9 h0 h1 n aY 0 (by omega) (by rw [bc]; omega)
 rw [show ((0 : Nat) : Int) = 0 from rfl] at e1
 rw [e1]
 congr 1
 refine jl (e2.trans (Iff.trans ?_ Kr.symm))
 exact ⟨fun h j b => h j (Nat.zero_le _) b, fun h j _ b => h j b⟩
theorem og {α : Type} {xs : List α} {i : Nat} (h : i < xs.length) (h0 : 0 < i) (hn : xs.length < 1000000000) : at? xs (IntKind.i64.wrap ((i : Int) - 1)) = some (xs[i - 1]'(by omega)) := by
 rw [we (by omega) (by omega), show ((i : Int) - 1) = ((i - 1 : Nat) : Int) by omega]
 exact aU (by omega)
theorem kg {n : Nat} (hn : n < 1000000000) : IntKind.i64.wrap ((n : Int) - 1) = (n : Int) - 1 := we (by omega) (by omega)
end Go.Proofs.YtikbfjpcmalmlaaGreatDoor
namespace Go.Proofs.YtikbfjpcmalmlaaGreatDoor
open Go Go.SX Go.SX.Cal Go.Lib
def sj : ByteArray := ByteArray.mk #[95, 45, 46, 47]
def EI (n : Nat) : Bool := n == 95 || n == 45 || n == 46 || n == 47
def Eu (n : Nat) : Bool := oF n || (decide (48 ≤ n) && decide (n ≤ 57)) || EI n
theorem M1 : ∀ n : Fin 128, decide (Lib.indexByte [95, 45, 46, 47] (n.val : Int).toNat.toUInt8 < 0) = !EI n.val := by decide
theorem EA : ∀ (l : List UInt8) (c : UInt8), (∀ b ∈ l, b ≠ c) → Lib.indexByte l c = -1
 | [], _, _ => rfl
 | b :: l, c, h => by
  have h1 : (b == c) = false := by simp [h b (by simp)]
  rw [Lib.indexByte, h1, if_neg (by decide), EA l c fun x hx => h x (by simp [hx])]
  rfl
theorem JI (n : Nat) : jA (n : Int) = some (Utf8.valid (n : Int)) := by
 unfold jA hJ hU Utf8.valid
 by_cases h1 : n < 55296
 ·have : (0 : Int) ≤ (n : Int) := by omega
  simp [aM, this, h1, show (n : Int) < 55296 by omega]
 ·by_cases h2 : 57344 ≤ n
  ·by_cases h3 : n ≤ 1114111
   ·simp [aM, show ¬ (n : Int) < 55296 by omega, show (57343 : Int) < n by omega, show (n : Int) ≤ 1114111 by omega, show (57344 : Int) ≤ n by omega]
   ·simp [aM, show ¬ (n : Int) < 55296 by omega, show (57343 : Int) < n by omega, show ¬ (n : Int) ≤ 1114111 by omega]
  ·simp [aM, show ¬ (n : Int) < 55296 by omega, show ¬ (57343 : Int) < n by omega, show ¬ (57344 : Int) ≤ n by omega]
theorem HD : ∀ b ∈ sj.data.toList, b.toNat < 128 := by decide
theorem NF (b : ByteArray) (i : Nat) (h : i < b.size) : b.data.toList.getD i 0 = b[i]'h := by
 have hd : i < b.data.toList.length := by rw [Array.length_toList]; exact h
 rw [List.getD_eq_getElem?_getD, List.getElem?_eq_getElem hd]
 rfl
theorem LW (E : ByteArray) (n k : Nat) (z : Nat) (hz : E.size = z) (f1 : 2 ≤ z) (f2 : z ≤ 4) (f4 : 128 ≤ (E.data.toList.getD (z - 1) 0).toNat) (he : Utf8.encode (n : Int) = E) : fa sj (n : Int) (k + 1) = some (-1) := by
 rw [fa.eq_2, he]
 clear he
 have hw : IntKind.i64.wrap ((z : Int) - 1) = ((z - 1 : Nat) : Int) := by rw [we (by omega) (by omega)]; omega
 have hin : ∀ j, j < 4 → (sj.data.toList.getD j 0).toNat < 128 := by decide
 simp only [hz, hw]
 rw [bS, decide_eq_true (show ((z - 1 : Nat) : Int) < (sj.size : Int) by show _ < (4 : Int); omega), iT, gP ⟨by omega, by show _ < (4 : Int); omega⟩, bS, gP ⟨by omega, by omega⟩, bS]
 have ht : ((z - 1 : Nat) : Int).toNat = z - 1 := by omega
 rw [ht]
 have hne : (((sj.data.toList.getD (z - 1) 0).toNat : Int) != ((E.data.toList.getD (z - 1) 0).toNat : Int)) = true := by
  have a := hin (z - 1) (by omega)
  rw [bne_iff_ne]; omega
 rw [hne, iT]
 have hw2 : IntKind.i64.wrap (((z - 1 : Nat) : Int) + 1) = (z : Int) := by rw [we (by omega) (by omega)]; omega
 rw [bS, hw2, gP ⟨by omega, by show _ ≤ (4 : Int); omega, Int.le_refl _⟩, gP ⟨by omega, by omega⟩, bS]
 unfold strings_IndexByte
 rw [EA _ _ fun b hb e => ?_]
 ·rfl
 ·have hb' : b ∈ sj.data.toList := by
   have : b ∈ (sj.extract z 4).data.toList := hb
   rw [ByteArray.data_extract, Array.toList_extract] at this
   exact List.mem_of_mem_drop (List.mem_of_mem_take this)
  have h1 := HD b hb'
  have h2 : ((E.data.toList.getD (z - 1) 0).toNat : Int).toNat.toUInt8 = E.data.toList.getD (z - 1) 0 := by
   rw [Int.toNat_natCast]; simp
  rw [h2] at e
  rw [e] at h1
  omega
theorem MN (n k : Nat) (h : 128 ≤ n) (hv : Utf8.valid (n : Int) = true) : fa sj (n : Int) (k + 1) = some (-1) := by
 obtain ⟨f1, f2, f3⟩ := encode_facts (n : Int) hv (by omega)
 have f3 := f3 (by omega)
 obtain ⟨z, hz⟩ : ∃ z, (Utf8.encode (n : Int)).size = z := ⟨_, rfl⟩
 have f4 : 128 ≤ ((Utf8.encode (n : Int)).data.toList.getD (z - 1) 0).toNat := by
  subst hz
  rw [NF _ _ (by omega)]
  exact f3
 rw [hz] at f1 f2
 exact LW _ n k z hz f1 f2 f4 rfl
theorem NR (n : Nat) (h : 128 ≤ n) : d9 sj (n : Int) = some (-1) := by
 unfold d9 iW
 rw [decide_eq_true (show (0 : Int) ≤ n by omega), iT, decide_eq_false (show ¬ (n : Int) < 128 by omega), iF]
 by_cases h1 : n = 65533
 ·subst h1
  rw [show (((65533 : Nat) : Int) == 65533) = true from rfl, iT]
  show gq sj (1152921504606846971 + 5) 0 = _
  generalize 1152921504606846971 = k
  rfl
 ·rw [show ((n : Int) == 65533) = false by simp; omega, iF, JI, bS]
  cases hv : Utf8.valid (n : Int) with
  | false => rfl
  | true =>
   rw [Bool.not_true, iF, Ad]
   exact MN n _ h hv
theorem MQ (n : Nat) : ∃ r, d9 sj (n : Int) = some r ∧ decide (r < 0) = !EI n := by
 by_cases h : n < 128
 ·unfold d9 iW strings_IndexByte
  rw [decide_eq_true (show (0 : Int) ≤ n by omega), iT, decide_eq_true (show (n : Int) < 128 by omega), iT, bS]
  refine ⟨_, rfl, ?_⟩
  have hw : IntKind.u8.wrap (n : Int) = (n : Int) := by
   unfold IntKind.wrap
   simp [IntKind.bits, IntKind.signed]
   omega
  rw [hw]
  exact M1 ⟨n, h⟩
 ·refine ⟨-1, NR n (by omega), ?_⟩
  simp [EI]; omega
theorem L6 (n : Nat) : lE (Int.ofNat n) = some (!Eu n) := by
 obtain ⟨r, h1, h2⟩ := MQ n
 have h1 : d9 (ByteArray.mk #[95, 45, 46, 47]) (Int.ofNat n) = some r := h1
 unfold lE dl
 rw [h1]
 simp only [bS, h2, aM, decide_eq_true_eq, Int.ofNat_eq_natCast]
 generalize hs : EI n = s
 unfold Eu oF
 rw [hs]
 repeat' split
 all_goals (rw [Option.some.injEq, Bool.eq_iff_iff]; cases s <;> simp <;> omega)
def Be (s : ByteArray) (i : Nat) : Bool := !Eu (ke s i)
theorem ND (s : ByteArray) : ∀ k i, i ≤ s.size → s.size - i < k → ∃ r, bu s true k i = some r ∧ (decide (0 ≤ r) = (first (Be s) i s.size).isSome) := by
 intro k
 induction k with
 | zero => intro i _ h; omega
 | succ k ih =>
  intro i hi hk
  rw [bu]
  by_cases h : i = s.size
  ·subst h
   rw [pJ]
   simp only [Nat.lt_irrefl, decide_false, ap]
   exact ⟨-1, rfl, rfl⟩
  ·have hlt : i < s.size := by omega
   simp only [hlt, decide_true, aK, L6, aX]
   rw [pS hlt]
   by_cases hb : ke s i < 128
   ·rw [zD s i hlt hb]
    simp only [Be]
    by_cases hg : Eu (ke s i) = true
    ·simp only [hg, Bool.not_true, aM]
     obtain ⟨r, h1, h2⟩ := ih (i + 1) (by omega) (by omega)
     exact ⟨r, by simpa using h1, by simpa [Be] using h2⟩
    ·simp only [hg, Bool.not_false, aM]
     exact ⟨_, rfl, by simp⟩
   ·have h1 := zL s i hlt hb
    have g1 : Eu (Utf8.decode s i).1 = false := by
     generalize (Utf8.decode s i).1 = x at h1
     simp [Eu, oF, EI]; omega
    have g2 : Be s i = true := by
     simp [Be, Eu, oF, EI]; omega
    simp only [g1, g2, Bool.not_false, aM]
    exact ⟨_, rfl, by simp⟩
def El (s : ByteArray) : Bool := decide (1 ≤ s.size) && decide (s.size ≤ 64) && (first (Be s) 0 s.size).isNone
theorem Rj (s : ByteArray) (hs : s.size < 1000000000) : nn s = some (El s) := by
 obtain ⟨r, h1, h2⟩ := ND s aY 0 (Nat.zero_le _) (by rw [bc]; omega)
 unfold nn kR eh eP eO El
 rw [h1, bS, bS, bS, h2]
 by_cases z0 : s.size < 1
 ·simp [aM, z0, show (s.size : Int) < 1 by omega]
  omega
 ·by_cases z1 : 64 < s.size
  ·simp [aM, z0, show ¬ (s.size : Int) < 1 by omega, show (64 : Int) < s.size by omega]
   omega
  ·simp only [aM, show ¬ (s.size : Int) < 1 by omega, show ¬ (64 : Int) < s.size by omega, decide_false, Bool.false_eq_true, if_false, show 1 ≤ s.size by omega, show s.size ≤ 64 by omega, decide_true, Bool.true_and]
   cases first (Be s) 0 s.size <;> rfl
theorem Iz (s : ByteArray) (hs : s.size < 1000000000) (k i : Nat) (hi : i < s.size) : bf s (k + 1) (i : Int) = if Be s i = true then some false else bf s k ((i + 1 : Nat) : Int) := by
 rw [bf, ← aM]
 have hb : ((s.data.toList.getD (i : Int).toNat 0).toNat : Int) = (ke s i : Int) := rfl
 have hw : IntKind.i64.wrap ((i : Int) + 1) = ((i + 1 : Nat) : Int) := by rw [we (by omega) (by omega)]; omega
 have hg : 0 ≤ (i : Int) ∧ (i : Int) < (s.size : Int) := by omega
 rw [show decide ((i : Int) < (s.size : Int)) = true by simp [hg.2], aK]
 simp only [bW, rK, hb, hw, aX, fH hg]
 have e1 : ((ke s i : Int) == 95) = (ke s i == 95) := by rw [Bool.eq_iff_iff]; simp; omega
 have e2 : (decide ((97 : Int) ≤ ke s i)) = decide (97 ≤ ke s i) := by rw [Bool.eq_iff_iff]; simp; omega
 have e3 : (decide ((ke s i : Int) ≤ 122)) = decide (ke s i ≤ 122) := by rw [Bool.eq_iff_iff]; simp; omega
 have e4 : (decide ((48 : Int) ≤ ke s i)) = decide (48 ≤ ke s i) := by rw [Bool.eq_iff_iff]; simp; omega
 have e5 : (decide ((ke s i : Int) ≤ 57)) = decide (ke s i ≤ 57) := by rw [Bool.eq_iff_iff]; simp; omega
 have e6 : ((ke s i : Int) == 46) = (ke s i == 46) := by rw [Bool.eq_iff_iff]; simp; omega
 have e7 : ((ke s i : Int) == 45) = (ke s i == 45) := by rw [Bool.eq_iff_iff]; simp; omega
 have e8 : ((ke s i : Int) == 47) = (ke s i == 47) := by rw [Bool.eq_iff_iff]; simp; omega
 simp only [e1, e2, e3, e4, e5, e6, e7, e8, Be, Eu, oF, EI]
 generalize hq : bf s k ((i + 1 : Nat) : Int) = q
 generalize (ke s i == 95) = b1
 generalize decide (97 ≤ ke s i) = b2
 generalize decide (ke s i ≤ 122) = b3
 generalize decide (48 ≤ ke s i) = b4
 generalize decide (ke s i ≤ 57) = b5
 generalize (ke s i == 46) = b6
 generalize (ke s i == 45) = b7
 generalize (ke s i == 47) = b8
 cases b1 <;> cases b2 <;> cases b3 <;> cases b4 <;> cases b5 <;> cases b6 <;> cases b7 <;> cases b8 <;> rfl
theorem Q5 (s : ByteArray) (hs : s.size < 1000000000) : sZ s = some (El s) := by
 have hl := ph (f := fun k i => bf s k (i : Int)) (n := s.size) (P := Be s) (A := fun _ => some false) (B := some true) (fun k i hi => Iz s hs k i hi)
  (fun k => by rw [bf]; simp only [Int.lt_irrefl, decide_false, ap]; rfl) aY 0 (Nat.zero_le _) (by rw [bc]; omega)
 have hl : bf s aY (0 : Int) = _ := hl
 unfold sZ oZ El
 rw [hl]
 by_cases z0 : s.size < 1
 ·simp [aM, z0, show (s.size : Int) < 1 by omega]
  omega
 ·by_cases z1 : 64 < s.size
  ·simp [aM, z0, show ¬ (s.size : Int) < 1 by omega, show (64 : Int) < s.size by omega]
   omega
  ·simp only [aM, show ¬ (s.size : Int) < 1 by omega, show ¬ (64 : Int) < s.size by omega, decide_false, Bool.false_eq_true, if_false, show 1 ≤ s.size by omega, show s.size ≤ 64 by omega, decide_true, Bool.true_and]
   cases first (Be s) 0 s.size <;> rfl
end Go.Proofs.YtikbfjpcmalmlaaGreatDoor
namespace Go.Proofs.YtikbfjpcmalmlaaGreatDoor.Ord
open Go Go.SX Go.SX.Cal
theorem aK {β : Type} (x y : Option β) : al true x y = x := rfl
theorem ap {β : Type} (x y : Option β) : al false x y = y := rfl
theorem aM {β : Type} (b : Bool) (x y : Option β) : al b x y = if b = true then x else y := by cases b <;> rfl
theorem bc : aY = 1152921504606846976 := rfl
theorem wu {x : Int} : IntKind.u64.wrap x = x % 18446744073709551616 := by
 simp only [IntKind.wrap, IntKind.bits, IntKind.signed]
 simp
structure W4 (w : cJ) : Prop where
 a0 : 0 ≤ w.size.1
 a1 : w.size.1 < 18446744073709551616
 b0 : 0 ≤ w.size.2.1
 b1 : w.size.2.1 < 18446744073709551616
 c0 : 0 ≤ w.size.2.2.1
 c1 : w.size.2.2.1 < 18446744073709551616
 d0 : 0 ≤ w.size.2.2.2
 d1 : w.size.2.2.2 < 18446744073709551616
def val (w : cJ) : Int := w.size.1 + w.size.2.1 * 18446744073709551616 + w.size.2.2.1 * 340282366920938463463374607431768211456 + w.size.2.2.2 * 6277101735386680763835789423207666416102355444464034512896
theorem FR {x : Int} (h0 : 0 ≤ x) (h1 : x < 18446744073709551616) : ((BitVec.ofInt (IntKind.u64).bits x &&& BitVec.ofInt (IntKind.u64).bits (4294967295 : Int)).toNat : Int) = x % 4294967296 := by
 have e : (BitVec.ofInt 64 x).toNat = x.toNat := by
  rw [BitVec.toNat_ofInt]
  have : x % ((2 ^ 64 : Nat) : Int) = x := by omega
  rw [this]
 have hand : (BitVec.ofInt 64 x &&& BitVec.ofInt 64 (4294967295 : Int)).toNat = x.toNat % 4294967296 := by
  rw [BitVec.toNat_and, e]
  have : (BitVec.ofInt 64 (4294967295 : Int)).toNat = 2 ^ 32 - 1 := by decide
  rw [this, Nat.and_two_pow_sub_one_eq_mod]
 show ((BitVec.ofInt 64 x &&& BitVec.ofInt 64 (4294967295 : Int)).toNat : Int) = _
 rw [hand]
 omega
theorem QN (x : Int) : x.fdiv (2 ^ (min (32 : Int).toNat (IntKind.u64).bits)) = x / 4294967296 := by
 have : (2 : Int) ^ (min (32 : Int).toNat (IntKind.u64).bits) = 4294967296 := by decide
 rw [this, Int.fdiv_eq_ediv_of_nonneg _ (by decide)]
theorem Iy {x : Int} (h0 : 0 ≤ x) (h1 : x < 18446744073709551616) : x % 18446744073709551616 = x := Int.emod_eq_of_lt h0 h1
theorem vh {a b : Int} (a0 : 0 ≤ a) (a1 : a < 4294967296) (b0 : 0 ≤ b) (b1 : b < 4294967296) : 0 ≤ a * b ∧ a * b ≤ 18446744065119617025 := by
 refine ⟨Int.mul_nonneg a0 b0, ?_⟩
 have h1 : a * b ≤ 4294967295 * b := Int.mul_le_mul_of_nonneg_right (by omega) b0
 omega
theorem LT (p11 hI p01 p00 : Int) (h11 : 0 ≤ p11 ∧ p11 ≤ 18446744065119617025) (h10 : 0 ≤ hI ∧ hI ≤ 18446744065119617025) (h01 : 0 ≤ p01 ∧ p01 ≤ 18446744065119617025) (h00 : 0 ≤ p00 ∧ p00 ≤ 18446744065119617025) :
  p11 + (hI + p00 / 4294967296) / 4294967296 + ((hI + p00 / 4294967296) % 4294967296 + p01) / 4294967296 = (p11 * 18446744073709551616 + (hI + p01) * 4294967296 + p00) / 18446744073709551616 := by
 omega
theorem Dn {x y : Int} (h0 : 0 ≤ x) (h1 : x < 18446744073709551616) (k0 : 0 ≤ y) (k1 : y < 18446744073709551616) : jg x y = some (x * y / 18446744073709551616, x * y % 18446744073709551616) := by
 unfold jg
 simp only [aX, QN]
 rw [FR h0 h1, FR k0 k1]
 simp only [wu]
 have hx0 : 0 ≤ x % 4294967296 ∧ x % 4294967296 < 4294967296 := by omega
 have hx1 : 0 ≤ x / 4294967296 ∧ x / 4294967296 < 4294967296 := by omega
 have hy0 : 0 ≤ y % 4294967296 ∧ y % 4294967296 < 4294967296 := by omega
 have hy1 : 0 ≤ y / 4294967296 ∧ y / 4294967296 < 4294967296 := by omega
 have ex : x = x / 4294967296 * 4294967296 + x % 4294967296 := by omega
 have ey : y = y / 4294967296 * 4294967296 + y % 4294967296 := by omega
 have exy : x * y = (x / 4294967296 * (y / 4294967296)) * 18446744073709551616 + (x / 4294967296 * (y % 4294967296) + x % 4294967296 * (y / 4294967296)) * 4294967296 + x % 4294967296 * (y % 4294967296) := by
  generalize x / 4294967296 = x1 at *
  generalize x % 4294967296 = x0 at *
  generalize y / 4294967296 = y1 at *
  generalize y % 4294967296 = y0 at *
  rw [ex, ey]
  simp only [Int.add_mul, Int.mul_add]
  have e1 : x1 * 4294967296 * (y1 * 4294967296) = x1 * y1 * 18446744073709551616 := by
   rw [Int.mul_assoc, Int.mul_left_comm 4294967296 y1, ← Int.mul_assoc]; rfl
  have e2 : x1 * 4294967296 * y0 = x1 * y0 * 4294967296 := by rw [Int.mul_assoc, Int.mul_comm 4294967296, ← Int.mul_assoc]
  have e3 : x0 * (y1 * 4294967296) = x0 * y1 * 4294967296 := by rw [Int.mul_assoc]
  rw [e1, e2, e3]; omega
 have b11 := vh hx1.1 hx1.2 hy1.1 hy1.2
 have b10 := vh hx1.1 hx1.2 hy0.1 hy0.2
 have b01 := vh hx0.1 hx0.2 hy1.1 hy1.2
 have b00 := vh hx0.1 hx0.2 hy0.1 hy0.2
 rw [Iy (x := x % 4294967296) (by omega) (by omega), Iy (x := y % 4294967296) (by omega) (by omega)]
 have L := LT _ _ _ _ b11 b10 b01 b00
 rw [exy]
 generalize x / 4294967296 * (y / 4294967296) = p11 at *
 generalize x / 4294967296 * (y % 4294967296) = hI at *
 generalize x % 4294967296 * (y / 4294967296) = p01 at *
 generalize x % 4294967296 * (y % 4294967296) = p00 at *
 rw [Iy (x := hI) (by omega) (by omega), Iy (x := p00) (by omega) (by omega), Iy (x := p01) (by omega) (by omega), Iy (x := p11) (by omega) (by omega), Iy (x := hI + p00 / 4294967296) (by omega) (by omega)]
 rw [FR (x := hI + p00 / 4294967296) (by omega) (by omega)]
 rw [Iy (x := (hI + p00 / 4294967296) % 4294967296) (by omega) (by omega), Iy (x := (hI + p00 / 4294967296) % 4294967296 + p01) (by omega) (by omega)]
 rw [Iy (x := p11 + (hI + p00 / 4294967296) / 4294967296) (by omega) (by omega), Iy (x := p11 + (hI + p00 / 4294967296) / 4294967296 + ((hI + p00 / 4294967296) % 4294967296 + p01) / 4294967296) (by omega) (by omega), L]
theorem wL {x n c : Int} (h0 : 0 ≤ x) (h1 : x < 18446744073709551616) (n0 : 0 ≤ n) (n1 : n < 18446744073709551616) (c0 : 0 ≤ c) (c1 : c < 18446744073709551616) :
  (x * n / 18446744073709551616 + (x * n % 18446744073709551616 + c) / 18446744073709551616) % 18446744073709551616 = (x * n + c) / 18446744073709551616 ∧ (x * n % 18446744073709551616 + c) % 18446744073709551616 = (x * n + c) % 18446744073709551616 ∧ 0 ≤ (x * n + c) / 18446744073709551616 ∧ (x * n + c) / 18446744073709551616 < 18446744073709551616 := by
 have hp : 0 ≤ x * n := Int.mul_nonneg h0 n0
 have hq : x * n ≤ 18446744073709551615 * n := Int.mul_le_mul_of_nonneg_right (by omega) n0
 have hq2 : (18446744073709551615 : Int) * n ≤ 18446744073709551615 * 18446744073709551615 := Int.mul_le_mul_of_nonneg_left (by omega) (by decide)
 have hb : x * n ≤ 340282366920938463426481119284349108225 := by
  refine Int.le_trans hq (Int.le_trans hq2 (by decide))
 generalize x * n = p at *
 omega
theorem KF {w : cJ} {n : Int} (h : W4 w) (n0 : 0 ≤ n) (n1 : n < 18446744073709551616) (hv : val w * n < 115792089237316195423570985008687907853269984665640564039457584007913129639936) :
  ∃ w', nf w n = some w' ∧ W4 w' ∧ val w' = val w * n ∧ w'.neg = w.neg := by
 obtain ⟨neg, x0, x1, x2, x3⟩ := w
 obtain ⟨a0, a1, b0, b1, c0, c1, d0, d1⟩ := h
 simp only at a0 a1 b0 b1 c0 c1 d0 d1
 unfold nf
 simp only
 rw [Dn a0 a1 n0 n1, Dn b0 b1 n0 n1, Dn c0 c1 n0 n1, Dn d0 d1 n0 n1]
 simp only [aX, wu]
 have hval : val ⟨neg, x0, x1, x2, x3⟩ * n = x0 * n + x1 * n * 18446744073709551616 + x2 * n * 340282366920938463463374607431768211456 + x3 * n * 6277101735386680763835789423207666416102355444464034512896 := by
  unfold val
  simp only [Int.add_mul]
  rw [Int.mul_right_comm x1, Int.mul_right_comm x2, Int.mul_right_comm x3]
 rw [hval] at hv ⊢
 obtain ⟨p1, p2, p3, p4⟩ := wL (c := 0) a0 a1 n0 n1 (by decide) (by decide)
 simp only [Int.add_zero] at p1 p2 p3 p4 ⊢
 rw [p1, p2]
 generalize hc1 : x0 * n / 18446744073709551616 = k1 at *
 obtain ⟨q1, q2, q3, q4⟩ := wL (c := k1) b0 b1 n0 n1 p3 p4
 rw [q1, q2]
 generalize hc2 : (x1 * n + k1) / 18446744073709551616 = k2 at *
 obtain ⟨r1, r2, r3, r4⟩ := wL (c := k2) c0 c1 n0 n1 q3 q4
 rw [r1, r2]
 generalize hc3 : (x2 * n + k2) / 18446744073709551616 = k3 at *
 obtain ⟨s1, s2, s3, s4⟩ := wL (c := k3) d0 d1 n0 n1 r3 r4
 rw [s2]
 have e0 := Int.mul_nonneg a0 n0
 have e1 := Int.mul_nonneg b0 n0
 have e2 := Int.mul_nonneg c0 n0
 have e3 := Int.mul_nonneg d0 n0
 clear p1 p2 q1 q2 r1 r2 s1 s2
 generalize x0 * n = P0 at *
 generalize x1 * n = P1 at *
 generalize x2 * n = P2 at *
 generalize x3 * n = P3 at *
 rw [fH (by omega), fH (by omega), fH (by omega), fH (by omega)]
 refine ⟨_, rfl, ⟨by simp only; omega, by simp only; omega, by simp only; omega, by simp only; omega, by simp only; omega, by simp only; omega, by simp only; omega, by simp only; omega⟩, ?_, rfl⟩
 simp only [val]
 have f0 : P0 = k1 * 18446744073709551616 + P0 % 18446744073709551616 := by omega
 have f1 : P1 + k1 = k2 * 18446744073709551616 + (P1 + k1) % 18446744073709551616 := by omega
 have f2 : P2 + k2 = k3 * 18446744073709551616 + (P2 + k2) % 18446744073709551616 := by omega
 have f3 : P3 + k3 = (P3 + k3) / 18446744073709551616 * 18446744073709551616 + (P3 + k3) % 18446744073709551616 := by omega
 have z : (P3 + k3) / 18446744073709551616 = 0 := by
  generalize P0 % 18446744073709551616 = m0 at *
  generalize (P1 + k1) % 18446744073709551616 = m1 at *
  generalize (P2 + k2) % 18446744073709551616 = m2 at *
  omega
 rw [z] at f3
 generalize P0 % 18446744073709551616 = m0 at *
 generalize (P1 + k1) % 18446744073709551616 = m1 at *
 generalize (P2 + k2) % 18446744073709551616 = m2 at *
 generalize (P3 + k3) % 18446744073709551616 = m3 at *
 omega
def hI : Nat → Int
 | 0 => 1
 | k + 1 => hI k * 10
theorem uv : ∀ k, 1 ≤ hI k
 | 0 => by decide
 | k + 1 => by have := uv k; simp only [hI]; omega
theorem CY {d : Int} (hd : d ≤ 100) : ∀ (j k : Nat) (neg : Bool) (x0 x1 x2 x3 : Int) (i : Int), W4 ⟨neg, x0, x1, x2, x3⟩ → val ⟨neg, x0, x1, x2, x3⟩ * hI j < 115792089237316195423570985008687907853269984665640564039457584007913129639936 → 0 ≤ val ⟨neg, x0, x1, x2, x3⟩ → 0 ≤ i → i + j = d → j < k →
  ∃ w', dO d k neg x0 x1 x2 x3 i = some w' ∧ W4 w' ∧ val w' = val ⟨neg, x0, x1, x2, x3⟩ * hI j ∧ w'.neg = neg := by
 intro j
 induction j with
 | zero =>
  intro k neg x0 x1 x2 x3 i hw hv hv0 hi hij hk
  match k, hk with
  | k + 1, hk =>
   rw [dO, show decide (i < d) = false by simp; omega, ap]
   exact ⟨_, rfl, hw, by simp [hI], rfl⟩
 | succ j ih =>
  intro k neg x0 x1 x2 x3 i hw hv hv0 hi hij hk
  match k, hk with
  | k + 1, hk =>
   rw [dO, show decide (i < d) = true by simp; omega, aK]
   have hp := uv j
   have hstep : val ⟨neg, x0, x1, x2, x3⟩ * hI (j + 1) = val ⟨neg, x0, x1, x2, x3⟩ * 10 * hI j := by
    simp only [hI]; rw [Int.mul_comm (hI j) 10, Int.mul_assoc]
   have hle : val ⟨neg, x0, x1, x2, x3⟩ * 10 * 1 ≤ val ⟨neg, x0, x1, x2, x3⟩ * 10 * hI j := Int.mul_le_mul_of_nonneg_left hp (by omega)
   obtain ⟨w1, h1, h2, h3, h4⟩ := KF hw (show (0 : Int) ≤ 10 by decide) (by decide) (by rw [hstep] at hv; omega)
   rw [h1]
   simp only [aX]
   obtain ⟨n1, y0, y1, y2, y3⟩ := w1
   simp only at h4 ⊢
   subst h4
   rw [we (by omega) (by omega)]
   obtain ⟨w2, g1, g2, g3, g4⟩ := ih k n1 y0 y1 y2 y3 (i + 1) h2 (by rw [h3, ← hstep]; exact hv) (by rw [h3]; omega) (by omega) (by omega) (by omega)
   exact ⟨w2, g1, g2, by rw [g3, h3, hstep], g4⟩
theorem Co {n d : Int} (h1 : -9223372036854775808 ≤ n) (h2 : n ≤ 9223372036854775807) (d0 : 0 ≤ d) (d1 : d ≤ 12) :
  ∃ w, o9 n d = some w ∧ W4 w ∧ val w = (if n < 0 then -n else n) * hI d.toNat ∧ w.neg = decide (n < 0) ∧ val w < 57896044618658097711785492504343953926634992332820282019728792003956564819968 := by
 have hp : hI d.toNat ≤ 1000000000000 := by
  have hc : d = 0 ∨ d = 1 ∨ d = 2 ∨ d = 3 ∨ d = 4 ∨ d = 5 ∨ d = 6 ∨ d = 7 ∨ d = 8 ∨ d = 9 ∨ d = 10 ∨ d = 11 ∨ d = 12 := by omega
  rcases hc with rfl | rfl | rfl | rfl | rfl | rfl | rfl | rfl | rfl | rfl | rfl | rfl | rfl <;> decide
 have hp1 := uv d.toNat
 have key : ∀ (neg : Bool) (a : Int), 0 ≤ a → a ≤ 9223372036854775808 → ∃ w, lA ⟨neg, a, 0, 0, 0⟩ d = some w ∧ W4 w ∧ val w = a * hI d.toNat ∧ w.neg = neg ∧ val w < 57896044618658097711785492504343953926634992332820282019728792003956564819968 := by
  intro neg a a0 a1
  have hv : val ⟨neg, a, 0, 0, 0⟩ = a := by simp [val]
  have hb : a * hI d.toNat ≤ 9223372036854775808 * 1000000000000 := by
   refine Int.le_trans (Int.mul_le_mul_of_nonneg_right a1 (by omega)) (Int.mul_le_mul_of_nonneg_left hp (by decide))
  have hb2 : a * hI d.toNat ≤ 9223372036854775808000000000000 := Int.le_trans hb (by decide)
  unfold lA
  obtain ⟨w, g1, g2, g3, g4⟩ := CY (d := d) (by omega) d.toNat aY neg a 0 0 0 0 ⟨a0, by simp only; omega, by simp, by simp, by simp, by simp, by simp, by simp⟩ (by rw [hv]; omega) (by rw [hv]; exact a0) (by decide) (by omega) (by rw [bc]; omega)
  exact ⟨w, g1, g2, by rw [g3, hv], g4, by rw [g3, hv]; omega⟩
 unfold o9 vO
 by_cases hn : n < 0
 ·rw [show decide (n < 0) = true by simpa using hn, aK]
  simp only [aX, wu]
  have e : (0 - n % 18446744073709551616) % 18446744073709551616 = -n := by omega
  rw [e]
  obtain ⟨w, g1, g2, g3, g4, g5⟩ := key true (-n) (by omega) (by omega)
  rw [g1]
  simp only [aX]
  exact ⟨_, rfl, g2, by rw [if_pos hn]; exact g3, g4, g5⟩
 ·rw [show decide (n < 0) = false by simpa using hn, ap]
  simp only [aX, wu]
  rw [Iy (by omega) (by omega)]
  obtain ⟨w, g1, g2, g3, g4, g5⟩ := key false n (by omega) (by omega)
  rw [g1]
  simp only [aX]
  exact ⟨_, rfl, g2, by rw [if_neg hn]; exact g3, g4, g5⟩
end Go.Proofs.YtikbfjpcmalmlaaGreatDoor.Ord
namespace Go.Proofs.YtikbfjpcmalmlaaGreatDoor.Ord
open Go Go.SX Go.SX.Cal
def c3 (a b : Int) : Int := if a < b then -1 else if b < a then 1 else 0
def sv (w : cJ) : Int := if w.neg = true then -val w else val w
theorem Kw {a b : cJ} (ha : W4 a) (hb : W4 b) : my a b = some (c3 (val a) (val b)) := by
 obtain ⟨n, x0, x1, x2, x3⟩ := a
 obtain ⟨m, y0, y1, y2, y3⟩ := b
 obtain ⟨a0, a1, b0, b1, c0, c1, d0, d1⟩ := ha
 obtain ⟨e0, e1, f0, f1, g0, g1, h0, h1⟩ := hb
 simp only at *
 unfold my
 simp only [aM, decide_eq_true_eq]
 unfold c3 val
 simp only
 by_cases q3 : x3 < y3
 ·rw [if_pos q3, if_pos (by omega)]
 rw [if_neg q3]
 by_cases q3' : y3 < x3
 ·rw [if_pos q3', if_neg (by omega), if_pos (by omega)]
 rw [if_neg q3']
 by_cases q2 : x2 < y2
 ·rw [if_pos q2, if_pos (by omega)]
 rw [if_neg q2]
 by_cases q2' : y2 < x2
 ·rw [if_pos q2', if_neg (by omega), if_pos (by omega)]
 rw [if_neg q2']
 by_cases q1 : x1 < y1
 ·rw [if_pos q1, if_pos (by omega)]
 rw [if_neg q1]
 by_cases q1' : y1 < x1
 ·rw [if_pos q1', if_neg (by omega), if_pos (by omega)]
 rw [if_neg q1']
 by_cases q0 : x0 < y0
 ·rw [if_pos q0, if_pos (by omega)]
 rw [if_neg q0]
 by_cases q0' : y0 < x0
 ·rw [if_pos q0', if_neg (by omega), if_pos (by omega)]
 rw [if_neg q0', if_neg (by omega), if_neg (by omega)]
def q7 (w : cJ) : Prop := w.size.1 = 0 ∧ w.size.2.1 = 0 ∧ w.size.2.2.1 = 0 ∧ w.size.2.2.2 = 0
instance (w : cJ) : Decidable (q7 w) := by unfold q7; infer_instance
theorem Dh (n m : Bool) (h : ¬ n = m) : (!(n == m)) = true ∧ (!m) = n := by revert h; cases n <;> cases m <;> simp
theorem Ll (w : cJ) : n6 w = some (decide (q7 w)) := by
 unfold n6 q7
 simp only [aX]
 congr 1
 by_cases h1 : w.size.1 = 0 <;> by_cases h2 : w.size.2.1 = 0 <;> by_cases h3 : w.size.2.2.1 = 0 <;> by_cases h4 : w.size.2.2.2 = 0 <;> simp [h1, h2, h3, h4]
theorem Hg {b1 b6 : Bool} {x0 x1 x2 x3 y0 y1 y2 y3 : Int} (ha : W4 ⟨b1, x0, x1, x2, x3⟩) (hb : W4 ⟨b6, y0, y1, y2, y3⟩) :
  ∃ w, jk b1 x0 x1 x2 x3 b6 y0 y1 y2 y3 = some w ∧ w.neg = b1 ∧ (q7 w ↔ val ⟨b1, x0, x1, x2, x3⟩ = val ⟨b6, y0, y1, y2, y3⟩) := by
 obtain ⟨a0, a1, b0, b1', c0, c1, d0, d1⟩ := ha
 obtain ⟨e0, e1, f0, f1, g0, g1, h0, h1⟩ := hb
 simp only at *
 unfold jk
 simp only [aX, Int.add_zero, Int.sub_zero]
 have hk : ∀ (p : Prop) [Decidable p], 0 ≤ (if p then (1 : Int) else 0) ∧ (if p then (1 : Int) else 0) ≤ 1 := by
  intro p _; split <;> omega
 have k1 := hk (x0 < y0)
 have e0' : (if x0 < y0 then (1 : Int) else 0) = 0 ↔ ¬ x0 < y0 := by split <;> simp_all
 generalize (if x0 < y0 then (1 : Int) else 0) = u1 at *
 have k2 := hk (x1 < y1 + u1)
 have e1' : (if x1 < y1 + u1 then (1 : Int) else 0) = 0 ↔ ¬ x1 < y1 + u1 := by split <;> simp_all
 generalize (if x1 < y1 + u1 then (1 : Int) else 0) = u2 at *
 have k3 := hk (x2 < y2 + u2)
 have e2' : (if x2 < y2 + u2 then (1 : Int) else 0) = 0 ↔ ¬ x2 < y2 + u2 := by split <;> simp_all
 generalize (if x2 < y2 + u2 then (1 : Int) else 0) = u3 at *
 rw [fH (by omega), fH (by omega), fH (by omega), fH (by omega)]
 refine ⟨_, rfl, rfl, ?_⟩
 simp only [q7, val]
 constructor
 ·rintro ⟨z0, z1, z2, z3⟩
  have q0 : x0 = y0 := by omega
  have q1 : u1 = 0 := by rw [e0']; omega
  have q2 : x1 = y1 := by omega
  have q3 : u2 = 0 := by rw [e1']; omega
  have q4 : x2 = y2 := by omega
  have q5 : u3 = 0 := by rw [e2']; omega
  have q6 : x3 = y3 := by omega
  omega
 ·intro hv
  have q3 : x3 = y3 := by omega
  have q2 : x2 = y2 := by omega
  have q1 : x1 = y1 := by omega
  have q0 : x0 = y0 := by omega
  have r1 : u1 = 0 := by rw [e0']; omega
  have r2 : u2 = 0 := by rw [e1']; omega
  have r3 : u3 = 0 := by rw [e2']; omega
  subst q0 q1 q2 q3 r1 r2 r3
  simp
theorem H1 {k : Nat} {b : Bool} {x0 x1 x2 x3 y0 y1 y2 y3 : Int} (ha : W4 ⟨b, x0, x1, x2, x3⟩) (hb : W4 ⟨b, y0, y1, y2, y3⟩) (hv : val ⟨b, x0, x1, x2, x3⟩ + val ⟨b, y0, y1, y2, y3⟩ < 115792089237316195423570985008687907853269984665640564039457584007913129639936) :
  ∃ w, ki (k + 1) ⟨b, x0, x1, x2, x3⟩ ⟨b, y0, y1, y2, y3⟩ = some w ∧ w.neg = b ∧ (q7 w ↔ val ⟨b, x0, x1, x2, x3⟩ + val ⟨b, y0, y1, y2, y3⟩ = 0) := by
 obtain ⟨a0, a1, b0, b1', c0, c1, d0, d1⟩ := ha
 obtain ⟨e0, e1, f0, f1, g0, g1, h0, h1⟩ := hb
 simp only at *
 rw [ki]
 simp only [beq_self_eq_true, Bool.not_true, ap, aX, Int.add_zero]
 simp only [val] at hv ⊢
 have m0 : x0 + y0 = (x0 + y0) / 18446744073709551616 * 18446744073709551616 + (x0 + y0) % 18446744073709551616 := by omega
 have u0 : 0 ≤ (x0 + y0) / 18446744073709551616 ∧ (x0 + y0) / 18446744073709551616 ≤ 1 := by omega
 have v0 : 0 ≤ (x0 + y0) % 18446744073709551616 := by omega
 generalize (x0 + y0) / 18446744073709551616 = t0 at *
 generalize (x0 + y0) % 18446744073709551616 = r0 at *
 have m1 : x1 + y1 + t0 = (x1 + y1 + t0) / 18446744073709551616 * 18446744073709551616 + (x1 + y1 + t0) % 18446744073709551616 := by omega
 have u1 : 0 ≤ (x1 + y1 + t0) / 18446744073709551616 ∧ (x1 + y1 + t0) / 18446744073709551616 ≤ 1 := by omega
 have v1 : 0 ≤ (x1 + y1 + t0) % 18446744073709551616 := by omega
 generalize (x1 + y1 + t0) / 18446744073709551616 = t1 at *
 generalize (x1 + y1 + t0) % 18446744073709551616 = r1 at *
 have m2 : x2 + y2 + t1 = (x2 + y2 + t1) / 18446744073709551616 * 18446744073709551616 + (x2 + y2 + t1) % 18446744073709551616 := by omega
 have u2 : 0 ≤ (x2 + y2 + t1) / 18446744073709551616 ∧ (x2 + y2 + t1) / 18446744073709551616 ≤ 1 := by omega
 have v2 : 0 ≤ (x2 + y2 + t1) % 18446744073709551616 := by omega
 generalize (x2 + y2 + t1) / 18446744073709551616 = t2 at *
 generalize (x2 + y2 + t1) % 18446744073709551616 = r2 at *
 have m3 : x3 + y3 + t2 = (x3 + y3 + t2) / 18446744073709551616 * 18446744073709551616 + (x3 + y3 + t2) % 18446744073709551616 := by omega
 have u3 : 0 ≤ (x3 + y3 + t2) / 18446744073709551616 ∧ (x3 + y3 + t2) / 18446744073709551616 ≤ 1 := by omega
 have v3 : 0 ≤ (x3 + y3 + t2) % 18446744073709551616 := by omega
 generalize (x3 + y3 + t2) / 18446744073709551616 = t3 at *
 generalize (x3 + y3 + t2) % 18446744073709551616 = r3 at *
 rw [fH (by omega), fH (by omega), fH (by omega), fH (by omega)]
 refine ⟨_, rfl, rfl, ?_⟩
 simp only [q7]
 constructor
 ·rintro ⟨z0, z1, z2, z3⟩
  have : t3 = 0 := by omega
  omega
 ·intro hz
  refine ⟨by omega, by omega, by omega, by omega⟩
theorem EN {a b : cJ} (ha : W4 a) (hb : W4 b) (va : val a < 57896044618658097711785492504343953926634992332820282019728792003956564819968) (vb : val b < 57896044618658097711785492504343953926634992332820282019728792003956564819968)
  (na : a.neg = true → 0 < val a) (nb : b.neg = true → 0 < val b) : jS a b = some (c3 (sv a) (sv b)) := by
 have pa : 0 ≤ val a := by obtain ⟨a0, a1, b0, b1, c0, c1, d0, d1⟩ := ha; unfold val; omega
 have pb : 0 ≤ val b := by obtain ⟨a0, a1, b0, b1, c0, c1, d0, d1⟩ := hb; unfold val; omega
 obtain ⟨n, x0, x1, x2, x3⟩ := a
 obtain ⟨m, y0, y1, y2, y3⟩ := b
 have hany : ∀ (q : Bool), W4 ⟨q, y0, y1, y2, y3⟩ := fun q => ⟨hb.1, hb.2, hb.3, hb.4, hb.5, hb.6, hb.7, hb.8⟩
 have hval : ∀ (q q' : Bool) (z0 z1 z2 z3 : Int), val ⟨q, z0, z1, z2, z3⟩ = val ⟨q', z0, z1, z2, z3⟩ := fun _ _ _ _ _ _ => rfl
 unfold jS
 simp only [Ll]
 have hB : aY = 1152921504606846974 + 1 + 1 := rfl
 rw [hB, jN]
 simp only
 by_cases hs : n = m
 ·subst hs
  simp only [beq_self_eq_true, Bool.not_true, ap]
  rw [Kw ha hb]
  simp only [aX]
  by_cases hlt : val ⟨n, x0, x1, x2, x3⟩ < val ⟨n, y0, y1, y2, y3⟩
  ·have e1 : c3 (val ⟨n, x0, x1, x2, x3⟩) (val ⟨n, y0, y1, y2, y3⟩) = -1 := by unfold c3; rw [if_pos hlt]
   rw [e1, show decide ((-1 : Int) < 0) = true from rfl, aK]
   unfold io
   simp only [aX]
   obtain ⟨w, g1, g2, g3⟩ := Hg (b6 := n) (hany (!n)) ha
   rw [g1]
   simp only [aX]
   have hz : ¬ q7 w := fun h => by
    have := g3.1 h
    have e2 := hval (!n) n y0 y1 y2 y3
    omega
   have hz' : ¬ q7 ⟨w.neg, w.size.1, w.size.2.1, w.size.2.2.1, w.size.2.2.2⟩ := hz
   rw [show decide (q7 ⟨w.neg, w.size.1, w.size.2.1, w.size.2.2.1, w.size.2.2.2⟩) = false by simpa using hz', ap, g2]
   unfold sv
   cases n with
   | true => simp only [Bool.not_true, ap, if_true]; unfold c3; rw [if_neg (by omega), if_pos (by omega)]
   | false => simp only [Bool.not_false, aK, Bool.false_eq_true, if_false]; unfold c3; rw [if_pos (by omega)]
  ·have e1 : decide (c3 (val ⟨n, x0, x1, x2, x3⟩) (val ⟨n, y0, y1, y2, y3⟩) < 0) = false := by
    unfold c3; rw [if_neg hlt]; split <;> rfl
   rw [e1, ap]
   obtain ⟨w, g1, g2, g3⟩ := Hg ha hb
   rw [g1]
   simp only [aX]
   have hz : q7 ⟨w.neg, w.size.1, w.size.2.1, w.size.2.2.1, w.size.2.2.2⟩ ↔ val ⟨n, x0, x1, x2, x3⟩ = val ⟨n, y0, y1, y2, y3⟩ := g3
   by_cases heq : val ⟨n, x0, x1, x2, x3⟩ = val ⟨n, y0, y1, y2, y3⟩
   ·rw [show decide (q7 ⟨w.neg, w.size.1, w.size.2.1, w.size.2.2.1, w.size.2.2.2⟩) = true by simpa using hz.2 heq, aK]
    unfold sv
    simp only
    rw [heq]
    unfold c3; rw [if_neg (by omega), if_neg (by omega)]
   ·rw [show decide (q7 ⟨w.neg, w.size.1, w.size.2.1, w.size.2.2.1, w.size.2.2.2⟩) = false by simpa using fun h => heq (hz.1 h), ap, g2]
    unfold sv
    cases n with
    | true => simp only [aK, if_true]; unfold c3; rw [if_pos (by omega)]
    | false => simp only [ap, Bool.false_eq_true, if_false]; unfold c3; rw [if_neg (by omega), if_pos (by omega)]
 ·have hsb : (!(n == m)) = true := (Dh n m hs).1
  rw [hsb, aK]
  unfold io
  simp only [aX]
  have hnm : (!m) = n := (Dh n m hs).2
  rw [hnm]
  obtain ⟨w, g1, g2, g3⟩ := H1 (k := 1152921504606846974) ha (hany n) (by have := hval n m y0 y1 y2 y3; omega)
  rw [g1]
  simp only [aX]
  have hz : q7 ⟨w.neg, w.size.1, w.size.2.1, w.size.2.2.1, w.size.2.2.2⟩ ↔ val ⟨n, x0, x1, x2, x3⟩ + val ⟨n, y0, y1, y2, y3⟩ = 0 := g3
  have hpos : ¬ val ⟨n, x0, x1, x2, x3⟩ + val ⟨n, y0, y1, y2, y3⟩ = 0 := by
   have e := hval n m y0 y1 y2 y3
   cases n with
   | true => have := na rfl; omega
   | false =>
    have : m = true := by simpa using hnm
    have := nb this
    omega
  rw [show decide (q7 ⟨w.neg, w.size.1, w.size.2.1, w.size.2.2.1, w.size.2.2.2⟩) = false by simpa using fun h => hpos (hz.1 h), ap, g2]
  unfold sv
  cases n with
  | true =>
   have : m = false := by simpa using hnm
   subst this
   have := na rfl
   simp only [aK, if_true, Bool.false_eq_true, if_false]; unfold c3; rw [if_pos (by omega)]
  | false =>
   have : m = true := by simpa using hnm
   subst this
   have := nb rfl
   simp only [ap, if_true, Bool.false_eq_true, if_false]; unfold c3; rw [if_neg (by omega), if_pos (by omega)]
end Go.Proofs.YtikbfjpcmalmlaaGreatDoor.Ord
namespace Go.Proofs.YtikbfjpcmalmlaaGreatDoor.Ord
open Go Go.SX Go.SX.Cal
def or' (x y : Int) : Int := if x ≠ 0 then x else y
def cS (s t : ByteArray) : Int := if Op.bytesLess s.toList t.toList = true then -1 else if s.toList = t.toList then 0 else 1
def inR (sc : Int) : Prop := 0 ≤ sc ∧ sc ≤ 12
instance (sc : Int) : Decidable (inR sc) := by unfold inR; infer_instance
def zo (k : Int) : Int := if k = 0 then 1 else 0
def xn (k sc : Int) : Int := if k = 3 ∧ ¬ inR sc then 1 else 0
def vvI (k sc n : Int) : Int := if k = 3 ∧ inR sc then n * hI (12 - sc).toNat else n
mutual
def cmpV : af → af → Int
 | ⟨k, n, sc, s, it⟩, b => or' (c3 (zo k) (zo b.kind)) (or' (c3 k b.kind) (if k = 0 then 0 else or' (c3 (xn k sc) (xn b.kind b.scale)) (or' (c3 (vvI k sc n) (vvI b.kind b.scale b.n)) (or' (c3 sc b.scale) (or' (cS s b.s) (cmpL it b.items))))))
def cmpL : List af → List af → Int
 | [], m => match m with
  | [] => 0
  | _ :: _ => -1
 | x :: l, m => match m with
  | [] => 1
  | y :: ys => or' (cmpV x y) (cmpL l ys)
end
def i64 (x : Int) : Prop := -9223372036854775808 ≤ x ∧ x ≤ 9223372036854775807
mutual
def wfV : af → Prop
 | ⟨k, n, sc, _, it⟩ => i64 k ∧ i64 n ∧ i64 sc ∧ wfL it
def wfL : List af → Prop
 | [] => True
 | x :: l => wfV x ∧ wfL l
end
theorem yp : ∀ {l : List af} {x : af}, wfL l → x ∈ l → wfV x
 | [], _, _, h => by cases h
 | y :: l, x, hw, h => by
  simp only [wfL] at hw
  rcases List.mem_cons.1 h with rfl | h
  ·exact hw.1
  ·exact yp hw.2 h
theorem l9 : ∀ {l : List af} {x : af}, x ∈ l → eu x ≤ mt l
 | [], _, h => by cases h
 | y :: l, x, h => by
  simp only [mt]
  rcases List.mem_cons.1 h with rfl | h
  ·omega
  ·have := l9 h; omega
theorem tY : ∀ v : af, 1 ≤ eu v
 | ⟨_, _, _, _, _⟩ => by simp only [eu]; omega
theorem nc : ∀ l : List af, l.length ≤ mt l
 | [] => by simp [mt]
 | x :: l => by
  have := nc l
  have := tY x
  simp only [mt, List.length_cons]; omega
theorem JJ (a b : Int) : kf a b = some (c3 a b) := by
 unfold kf qg c3
 simp only [aX, bne_self_eq_false, ap]
 by_cases h : a < b
 ·simp [h, aM]
 ·by_cases k : b < a <;> simp [h, k, aM]
theorem Pb (a b : ByteArray) : lK a b = some (cS a b) := by
 unfold lK nk cS
 simp only [aX, beq_self_eq_true, Bool.not_true, ap]
 by_cases h : Op.bytesLess a.toList b.toList = true
 ·simp [h, aM]
 ·have h' : Op.bytesLess a.toList b.toList = false := by simpa using h
  by_cases k : a.toList = b.toList
  ·rw [k] at h' ⊢
   simp [h', aM]
  ·simp [h', k, aM]
theorem zb {p : List Int} {k i : Nat} {x : Int} (h : p[i]? = some x) (hi : i < 1000) : gG p (k + 1) (i : Int) = if x ≠ 0 then some x else gG p k ((i + 1 : Nat) : Int) := by
 have hlt := (List.getElem?_eq_some_iff.1 h).1
 rw [gG, show decide ((i : Int) < (p.length : Int)) = true by simp [hlt], aK]
 have : at? p (i : Int) = some x := by unfold at?; simp [h]
 rw [this]
 simp only [aX]
 rw [we (by omega) (by omega), show (i : Int) + 1 = ((i + 1 : Nat) : Int) by omega]
 by_cases hx : x = 0
 ·simp [hx, aM]
 ·simp [hx, aM]
theorem IP {p : List Int} {k : Nat} : gG p (k + 1) (p.length : Int) = some 0 := by
 rw [gG, show decide ((p.length : Int) < (p.length : Int)) = false by simp, ap]
 rfl
theorem RV (x y : Int) : mO [x, y] = some (or' x y) := by
 unfold mO or'
 have hB : aY = 1152921504606846973 + 1 + 1 + 1 := rfl
 have h0 := zb (p := [x, y]) (k := 1152921504606846973 + 1 + 1) (i := 0) (x := x) rfl (by decide)
 have h1 := zb (p := [x, y]) (k := 1152921504606846973 + 1) (i := 1) (x := y) rfl (by decide)
 have h2 := IP (p := [x, y]) (k := 1152921504606846973)
 rw [hB]
 refine Eq.trans h0 ?_
 rw [h1]
 refine Eq.trans (b := if x ≠ 0 then some x else if y ≠ 0 then some y else some 0) (by rw [← h2]; rfl) ?_
 by_cases hx : x = 0 <;> by_cases hy : y = 0 <;> simp [hx, hy]
theorem RY (x y z : Int) : mO [x, y, z] = some (or' x (or' y z)) := by
 unfold mO or'
 have hB : aY = 1152921504606846972 + 1 + 1 + 1 + 1 := rfl
 have h0 := zb (p := [x, y, z]) (k := 1152921504606846972 + 1 + 1 + 1) (i := 0) (x := x) rfl (by decide)
 have h1 := zb (p := [x, y, z]) (k := 1152921504606846972 + 1 + 1) (i := 1) (x := y) rfl (by decide)
 have h2 := zb (p := [x, y, z]) (k := 1152921504606846972 + 1) (i := 2) (x := z) rfl (by decide)
 have h3 := IP (p := [x, y, z]) (k := 1152921504606846972)
 rw [hB]
 refine Eq.trans h0 ?_
 rw [h1, h2]
 refine Eq.trans (b := if x ≠ 0 then some x else if y ≠ 0 then some y else if z ≠ 0 then some z else some 0) (by rw [← h3]; rfl) ?_
 by_cases hx : x = 0 <;> by_cases hy : y = 0 <;> by_cases hz : z = 0 <;> simp [hx, hy, hz]
theorem cmpf_loop (f : af → af → Option Int) (p1 p2 : List af) (hl : p1.length < 1000000000000000) (hf : ∀ x ∈ p1, ∀ y ∈ p2, f x y = some (cmpV x y)) : ∀ (k i : Nat), i ≤ p1.length → i ≤ p2.length → p1.length < i + k →
  aI f p1 p2 k (i : Int) = some (cmpL (p1.drop i) (p2.drop i)) := by
 intro k
 induction k with
 | zero => intro i h1 h2 h3; omega
 | succ k ih =>
  intro i h1 h2 h3
  rw [aI]
  by_cases hi : i < p1.length
  ·have e1 : p1.drop i = p1[i] :: p1.drop (i + 1) := List.drop_eq_getElem_cons hi
   have a1 : at? p1 (i : Int) = some p1[i] := by unfold at?; simp [hi]
   rw [show decide ((i : Int) < (p1.length : Int)) = true by simp [hi], aK, a1, e1]
   simp only [aX]
   by_cases hj : i < p2.length
   ·have e2 : p2.drop i = p2[i] :: p2.drop (i + 1) := List.drop_eq_getElem_cons hj
    have a2 : at? p2 (i : Int) = some p2[i] := by unfold at?; simp [hj]
    rw [show decide ((p2.length : Int) ≤ (i : Int)) = false by simp; omega, ap, a2, e2]
    simp only [aX]
    rw [hf _ (List.getElem_mem hi) _ (List.getElem_mem hj)]
    simp only [aX, cmpL]
    unfold or'
    by_cases hc : cmpV p1[i] p2[i] = 0
    ·have e : (cmpV p1[i] p2[i] != 0) = false := by simp [hc]
     rw [e, ap, we (by omega) (by omega), show (i : Int) + 1 = ((i + 1 : Nat) : Int) by omega, ih (i + 1) (by omega) (by omega) (by omega), if_neg (by simp [hc])]
    ·have e : (cmpV p1[i] p2[i] != 0) = true := by simp [hc]
     rw [e, aK, if_pos hc]
   ·have e2 : p2.drop i = [] := List.drop_of_length_le (by omega)
    rw [show decide ((p2.length : Int) ≤ (i : Int)) = true by simp; omega, aK, e2]
    rfl
  ·have : i = p1.length := by omega
   subst this
   rw [show decide ((p1.length : Int) < (p1.length : Int)) = false by simp, ap, List.drop_length]
   unfold bF
   by_cases hj : p1.length < p2.length
   ·have e2 : p2.drop p1.length = p2[p1.length] :: p2.drop (p1.length + 1) := List.drop_eq_getElem_cons hj
    rw [show decide ((p1.length : Int) < (p2.length : Int)) = true by simp [hj], aK, e2]
    rfl
   ·have e2 : p2.drop p1.length = [] := List.drop_of_length_le (by omega)
    rw [show decide ((p1.length : Int) < (p2.length : Int)) = false by simp; omega, ap, e2]
    rfl
theorem Ht (a b c : Int) : ga a b c = some (decide (b ≤ a ∧ a ≤ c)) := by
 unfold ga lY
 by_cases h : b ≤ a <;> by_cases k : a ≤ c <;> simp [h, k, aM]
theorem or_zero (y : Int) : or' 0 y = y := by simp [or']
theorem c3_self (a : Int) : c3 a a = 0 := by simp [c3]
theorem compare_eq : ∀ (N : Nat) (a b : af) (k : Nat), eu a ≤ N → eu a < 1000000000000000 → wfV a → wfV b → 3 * N + 3 ≤ k → eC k a b = some (cmpV a b) := by
 intro N
 induction N with
 | zero => intro a b k h; have := tY a; omega
 | succ N ih =>
  intro a b k hN hbig ha hb hk
  obtain ⟨k', rfl⟩ : ∃ k', k = k' + 1 + 1 + 1 := ⟨k - 3, by omega⟩
  obtain ⟨ka, na, sa, ta, ia⟩ := a
  obtain ⟨kb, nb, sb, tb, ib⟩ := b
  simp only [wfV] at ha hb
  obtain ⟨wk, wn, ws, wi⟩ := ha
  obtain ⟨vk, vn, vs, vi⟩ := hb
  simp only [eu] at hN hbig
  have hlen := nc ia
  -- the rest
  have hitems : ay (k' + 1) ia ib = some (cmpL ia ib) := by
   rw [ay]
   have := cmpf_loop (eC k') ia ib (by omega) (fun x hx y hy => by
    have h1 := l9 hx
    exact ih x y k' (by omega) (by omega) (yp wi hx) (yp vi hy) (by omega)) aY 0 (Nat.zero_le _) (Nat.zero_le _) (by rw [bc]; omega)
   simpa using this
  have hrest : jT (k' + 1 + 1) ⟨ka, na, sa, ta, ia⟩ ⟨kb, nb, sb, tb, ib⟩ = some (or' (c3 sa sb) (or' (cS ta tb) (cmpL ia ib))) := by
   rw [jT]
   simp only [JJ, Pb, aX, hitems, RY]
  rw [eC]
  simp only [JJ, aX, Ht, cmpV]
  by_cases hkk : ka = kb
  ·subst hkk
   rw [show (ka != ka) = false by simp, ap, c3_self, c3_self, or_zero, or_zero]
   by_cases h0 : ka = 0
   ·subst h0; rw [if_pos rfl]; rfl
   ·rw [beq_eq_false_iff_ne.2 h0, ap, if_neg h0]
    have plain : kW (jT (k' + 1 + 1)) ⟨ka, na, sa, ta, ia⟩ ⟨ka, nb, sb, tb, ib⟩ = some (or' (c3 na nb) (or' (c3 sa sb) (or' (cS ta tb) (cmpL ia ib)))) := by
     unfold kW
     simp only [JJ, aX, hrest, RV]
    by_cases h3 : ka = 3
    ·subst h3
     rw [show ((3 : Int) == 3) = true from rfl, aK]
     unfold nv
     by_cases hA : 0 ≤ sa ∧ sa ≤ 12
     ·have hiA : inR sa := hA
      by_cases hB : 0 ≤ sb ∧ sb ≤ 12
      ·have hiB : inR sb := hB
       simp only [hA, hB, and_self, decide_true, aK]
       rw [we (x := 12 - sa) (by omega) (by omega), we (x := 12 - sb) (by omega) (by omega)]
       obtain ⟨w1, g1, g2, g3, g4, g5⟩ := Co (n := na) (d := 12 - sa) wn.1 wn.2 (by omega) (by omega)
       obtain ⟨w2, f1, f2, f3, f4, f5⟩ := Co (n := nb) (d := 12 - sb) vn.1 vn.2 (by omega) (by omega)
       rw [g1, f1]
       simp only [aX]
       have pp1 := uv (12 - sa).toNat
       have pp2 := uv (12 - sb).toNat
       have sgn : ∀ (n P : Int), 1 ≤ P → n < 0 → 0 < (if n < 0 then -n else n) * P := by
        intro n P hP hn
        rw [if_pos hn]
        exact Int.mul_pos (by omega) (by omega)
       have sv1 : sv w1 = na * hI (12 - sa).toNat := by
        unfold sv; rw [g3, g4]
        by_cases hn : na < 0
        ·simp only [hn, decide_true, if_true]; rw [Int.neg_mul, Int.neg_neg]
        ·simp only [hn, decide_false, Bool.false_eq_true, if_false]
       have sv2 : sv w2 = nb * hI (12 - sb).toNat := by
        unfold sv; rw [f3, f4]
        by_cases hn : nb < 0
        ·simp only [hn, decide_true, if_true]; rw [Int.neg_mul, Int.neg_neg]
        ·simp only [hn, decide_false, Bool.false_eq_true, if_false]
       have hcmp : jS ⟨w1.neg, w1.size.1, w1.size.2.1, w1.size.2.2.1, w1.size.2.2.2⟩ ⟨w2.neg, w2.size.1, w2.size.2.1, w2.size.2.2.1, w2.size.2.2.2⟩ = some (c3 (na * hI (12 - sa).toNat) (nb * hI (12 - sb).toNat)) := by
        have := EN g2 f2 g5 f5 (fun h => by rw [g3]; exact sgn na _ pp1 (by rw [g4] at h; simpa using h)) (fun h => by rw [f3]; exact sgn nb _ pp2 (by rw [f4] at h; simpa using h))
        rw [sv1, sv2] at this
        exact this
       rw [hcmp]
       simp only [aX, hrest, RV]
       have o1 : xn 3 sa = 0 := by unfold xn; rw [if_neg (by simp [hiA])]
       have o2 : xn 3 sb = 0 := by unfold xn; rw [if_neg (by simp [hiB])]
       have u1 : vvI 3 sa na = na * hI (12 - sa).toNat := by unfold vvI; rw [if_pos ⟨rfl, hiA⟩]
       have u2 : vvI 3 sb nb = nb * hI (12 - sb).toNat := by unfold vvI; rw [if_pos ⟨rfl, hiB⟩]
       rw [o1, o2, c3_self, or_zero, u1, u2]
      ·have hiB : ¬ inR sb := hB
       have eB : decide (0 ≤ sb ∧ sb ≤ 12) = false := by simpa using hB
       have eA : decide (0 ≤ sa ∧ sa ≤ 12) = true := by simpa using hA
       rw [eA, eB]
       simp only [aK, ap]
       have o1 : xn 3 sa = 0 := by unfold xn; rw [if_neg (by simp [hiA])]
       have o2 : xn 3 sb = 1 := by unfold xn; rw [if_pos ⟨rfl, hiB⟩]
       rw [o1, o2]; rfl
     ·have hiA : ¬ inR sa := hA
      have eA : decide (0 ≤ sa ∧ sa ≤ 12) = false := by simpa using hA
      have o1 : xn 3 sa = 1 := by unfold xn; rw [if_pos ⟨rfl, hiA⟩]
      have u1 : vvI 3 sa na = na := by unfold vvI; rw [if_neg (by simp [hiA])]
      rw [eA]
      simp only [ap]
      by_cases hB : 0 ≤ sb ∧ sb ≤ 12
      ·have hiB : inR sb := hB
       have eB : decide (0 ≤ sb ∧ sb ≤ 12) = true := by simpa using hB
       have o2 : xn 3 sb = 0 := by unfold xn; rw [if_neg (by simp [hiB])]
       rw [eB, o1, o2]; rfl
      ·have hiB : ¬ inR sb := hB
       have eB : decide (0 ≤ sb ∧ sb ≤ 12) = false := by simpa using hB
       have o2 : xn 3 sb = 1 := by unfold xn; rw [if_pos ⟨rfl, hiB⟩]
       have u2 : vvI 3 sb nb = nb := by unfold vvI; rw [if_neg (by simp [hiB])]
       rw [eB, ap, plain, o1, o2, c3_self, or_zero, u1, u2]
    ·rw [beq_eq_false_iff_ne.2 h3, ap, plain]
     have o1 : ∀ q, xn ka q = 0 := fun q => by unfold xn; rw [if_neg (by simp [h3])]
     have u1 : ∀ q r, vvI ka q r = r := fun q r => by unfold vvI; rw [if_neg (by simp [h3])]
     rw [o1, o1, c3_self, or_zero, u1, u1]
  ·rw [show (ka != kb) = true by simp [hkk], aK]
   by_cases h0 : ka = 0
   ·subst h0
    have : zo kb = 0 := by unfold zo; rw [if_neg (fun e => hkk e.symm)]
    rw [this]; rfl
   ·rw [beq_eq_false_iff_ne.2 h0, ap]
    have n1 : zo ka = 0 := by unfold zo; rw [if_neg h0]
    by_cases h1 : kb = 0
    ·subst h1; rw [n1]; rfl
    ·have n2 : zo kb = 0 := by unfold zo; rw [if_neg h1]
     rw [beq_eq_false_iff_ne.2 h1, ap, n1, n2, c3_self, or_zero]
     have hc : c3 ka kb ≠ 0 := by unfold c3; split <;> (try split) <;> omega
     unfold or'
     rw [if_pos hc]
end Go.Proofs.YtikbfjpcmalmlaaGreatDoor.Ord
namespace Go.Proofs.YtikbfjpcmalmlaaGreatDoor.Ord
open Go Go.SX Go.SX.Cal
theorem rk {x y x' y' : Int} (h : x = -x') (k : y = -y') : or' x y = -or' x' y' := by
 unfold or'
 by_cases hx : x' = 0
 ·have : x = 0 := by omega
  rw [if_neg (by simp [this]), if_neg (by simp [hx])]; exact k
 ·have : x ≠ 0 := by omega
  rw [if_pos this, if_pos hx]; exact h
theorem sH (a b : Int) : c3 a b = -c3 b a := by
 unfold c3
 by_cases h1 : a < b <;> by_cases h2 : b < a <;> simp [h1, h2] <;> omega
def cB (l m : List UInt8) : Int := if Op.bytesLess l m = true then -1 else if l = m then 0 else 1
theorem Df (a b : UInt8) (l m : List UInt8) : cB (a :: l) (b :: m) = or' (c3 a.toNat b.toNat) (cB l m) := by
 unfold cB or' c3
 simp only [Op.bytesLess, Bool.or_eq_true, Bool.and_eq_true, decide_eq_true_eq, beq_iff_eq, List.cons.injEq]
 by_cases h1 : a < b
 ·have h1' : (a.toNat : Int) < b.toNat := by have := UInt8.lt_iff_toNat_lt.1 h1; omega
  simp [h1, h1']
 ·have h1' : ¬ (a.toNat : Int) < b.toNat := fun h => h1 (UInt8.lt_iff_toNat_lt.2 (by omega))
  by_cases h2 : a = b
  ·subst h2
   simp
  ·have h3 : (b.toNat : Int) < a.toNat := by
    have : a.toNat ≠ b.toNat := fun h => h2 (UInt8.toNat_inj.1 h)
    omega
   simp [h1, h1', h2, h3]
theorem GT : ∀ l m : List UInt8, cB l m = -cB m l
 | [], [] => by decide
 | [], _ :: _ => by simp [cB, Op.bytesLess]
 | _ :: _, [] => by simp [cB, Op.bytesLess]
 | a :: l, b :: m => by
  rw [Df, Df]
  exact rk (sH _ _) (GT l m)
theorem Ju (s t : ByteArray) : cS s t = cB s.toList t.toList := rfl
mutual
theorem CO : ∀ a b : af, cmpV a b = -cmpV b a
 | ⟨k, n, sc, s, it⟩, ⟨k', n', sc', s', it'⟩ => by
  have hL := CJ it it'
  simp only [cmpV]
  by_cases hk : k = k'
  ·subst hk
   refine rk (sH _ _) (rk (sH _ _) ?_)
   split
   ·rfl
   ·exact rk (sH _ _) (rk (sH _ _) (rk (sH _ _) (rk (by rw [Ju, Ju]; exact GT _ _) hL)))
  ·have e1 : ∀ y, or' (c3 k k') y = c3 k k' := fun y => by
    unfold or'; rw [if_pos (by unfold c3; split <;> (try split) <;> omega)]
   have e2 : ∀ y, or' (c3 k' k) y = c3 k' k := fun y => by
    unfold or'; rw [if_pos (by unfold c3; split <;> (try split) <;> omega)]
   rw [e1, e2]
   exact rk (sH _ _) (sH _ _)
theorem CJ : ∀ l m : List af, cmpL l m = -cmpL m l
 | [], [] => by simp [cmpL]
 | [], _ :: _ => by simp [cmpL]
 | _ :: _, [] => by simp [cmpL]
 | x :: l, y :: m => by
  have h1 := CO x y
  have h2 := CJ l m
  simp only [cmpL]
  exact rk h1 h2
end
theorem cmpV_refl (a : af) : cmpV a a = 0 := by
 have := CO a a
 omega
end Go.Proofs.YtikbfjpcmalmlaaGreatDoor.Ord
namespace Go.Proofs.YtikbfjpcmalmlaaGreatDoor.Ord
open Go Go.SX Go.SX.Cal
theorem tI (a b : Int) : je a b = some (c3 a b) := by
 unfold je c3
 by_cases h : a < b
 ·simp [h, aM]
 ·by_cases k : b < a <;> simp [h, k, aM]
theorem zIO (a b c : Int) : fE a b c = some (decide (b ≤ a ∧ a ≤ c)) := Ht a b c
def jb : List Int → Int
 | [] => 0
 | d :: l => d + 10 * jb l
def AE (l : List Int) : Prop := ∀ d ∈ l, 0 ≤ d ∧ d ≤ 9
def Ox (l : List Int) : Prop := ∀ d, l.getLast? = some d → d ≠ 0
theorem qH : ∀ {l : List Int}, AE l → 0 ≤ jb l
 | [], _ => by simp [jb]
 | d :: l, h => by
  have h1 := h d (by simp)
  have h2 := qH (l := l) (fun x hx => h x (by simp [hx]))
  simp only [jb]; omega
theorem p10n : ∀ n, 0 < hI n := fun n => by have := uv n; omega
theorem yq : ∀ {l : List Int}, AE l → jb l < hI l.length
 | [], _ => by simp [jb, hI]
 | d :: l, h => by
  have h1 := h d (by simp)
  have h2 := yq (l := l) (fun x hx => h x (by simp [hx]))
  simp only [jb, List.length_cons, hI]; omega
theorem AN : ∀ {l : List Int}, AE l → Ox l → l ≠ [] → hI (l.length - 1) ≤ jb l
 | [], _, _, h => absurd rfl h
 | [d], h, ht, _ => by
  have h1 := h d (by simp)
  have h2 := ht d (by simp)
  simp [jb, hI]; omega
 | d :: e :: l, h, ht, _ => by
  have h1 := h d (by simp)
  have h2 := AN (l := e :: l) (fun x hx => h x (by simp [hx])) (fun x hx => ht x (by simpa using hx)) (by simp)
  simp only [List.length_cons] at h2 ⊢
  rw [show l.length + 1 + 1 - 1 = (l.length + 1 - 1) + 1 by omega]
  simp only [hI]
  rw [jb]
  omega
theorem ED {m n : Nat} (h : m ≤ n) : hI m ≤ hI n := by
 induction n with
 | zero =>
  have : m = 0 := by omega
  subst this; exact Int.le_refl _
 | succ n ih =>
  by_cases e : m = n + 1
  ·subst e; exact Int.le_refl _
  ·have h1 := ih (by omega)
   have h2 := p10n n
   simp only [hI]; omega
theorem qt : ∀ (l m : List Int), jb (l ++ m) = jb l + hI l.length * jb m
 | [], m => by simp [jb, hI]
 | d :: l, m => by
  simp only [List.cons_append, jb, qt l m, List.length_cons, hI]
  rw [Int.mul_add, ← Int.mul_assoc, Int.mul_comm 10 (hI l.length)]; omega
theorem FJ (k : Nat) : jb (List.replicate k 0) = 0 := by
 induction k with
 | zero => rfl
 | succ k ih => simp [List.replicate_succ, jb, ih]
theorem HC {a b : List Int} (ha : AE a) (hb : AE b) (hl : a.length = b.length) (hbig : a.length < 1000000) : ∀ (k i : Nat), i ≤ a.length → i < k → jb (a.drop i) = jb (b.drop i) →
  ∃ r, lG a b k ((i : Int) - 1) = some r ∧ -9 ≤ r ∧ r ≤ 9 ∧ c3 r 0 = c3 (jb a) (jb b) := by
 intro k
 induction k with
 | zero => intro i h1 h2; omega
 | succ k ih =>
  intro i h1 h2 he
  rw [lG]
  cases i with
  | zero =>
   rw [show decide ((0 : Int) ≤ ((0 : Nat) : Int) - 1) = false from rfl, ap]
   simp only [List.drop_zero] at he
   exact ⟨0, rfl, by omega, by omega, by rw [he, c3_self, c3_self]⟩
  | succ i =>
   have hia : i < a.length := by omega
   have hib : i < b.length := by omega
   have e1 : ((i + 1 : Nat) : Int) - 1 = (i : Int) := by omega
   have aa : at? a (i : Int) = some a[i] := by unfold at?; simp [hia]
   have bb : at? b (i : Int) = some b[i] := by unfold at?; simp [hib]
   rw [e1, show decide ((0 : Int) ≤ (i : Int)) = true by simp, aK, aa, bb]
   simp only [aX]
   have da : a.drop i = a[i] :: a.drop (i + 1) := List.drop_eq_getElem_cons hia
   have db : b.drop i = b[i] :: b.drop (i + 1) := List.drop_eq_getElem_cons hib
   have ra := ha a[i] (List.getElem_mem hia)
   have rb := hb b[i] (List.getElem_mem hib)
   by_cases hne : a[i] = b[i]
   ·rw [show (a[i] != b[i]) = false by simp [hne], ap, we (by omega) (by omega)]
    refine ih i (by omega) (by omega) ?_
    rw [da, db]; simp only [jb]; omega
   ·rw [show (a[i] != b[i]) = true by simp [hne], aK, we (by omega) (by omega)]
    refine ⟨_, rfl, by omega, by omega, ?_⟩
    have va : jb a = jb (a.take i) + hI i * jb (a.drop i) := by
     have := qt (a.take i) (a.drop i)
     rw [List.take_append_drop, List.length_take, Nat.min_eq_left (by omega)] at this
     exact this
    have vb : jb b = jb (b.take i) + hI i * jb (b.drop i) := by
     have := qt (b.take i) (b.drop i)
     rw [List.take_append_drop, List.length_take, Nat.min_eq_left (by omega)] at this
     exact this
    have la := yq (l := a.take i) (fun x hx => ha x (List.mem_of_mem_take hx))
    have lb := yq (l := b.take i) (fun x hx => hb x (List.mem_of_mem_take hx))
    have na := qH (l := a.take i) (fun x hx => ha x (List.mem_of_mem_take hx))
    have nb := qH (l := b.take i) (fun x hx => hb x (List.mem_of_mem_take hx))
    rw [List.length_take, Nat.min_eq_left (by omega)] at la lb
    rw [da] at va; rw [db] at vb
    simp only [jb] at va vb
    have hp := p10n i
    have key : hI i * (a[i] + 10 * jb (a.drop (i + 1))) - hI i * (b[i] + 10 * jb (b.drop (i + 1))) = hI i * (a[i] - b[i]) := by
     rw [← Int.mul_sub, he]; congr 1; omega
    unfold c3
    rcases Int.lt_or_gt_of_ne hne with hlt | hgt
    ·have : hI i * (a[i] - b[i]) ≤ hI i * (-1) := Int.mul_le_mul_of_nonneg_left (by omega) (by omega)
     rw [if_pos (by omega), if_pos (by omega)]
    ·have : hI i * 1 ≤ hI i * (a[i] - b[i]) := Int.mul_le_mul_of_nonneg_left (by omega) (by omega)
     rw [if_neg (by omega), if_pos (by omega), if_neg (by omega), if_pos (by omega)]
theorem LP {a b : List Int} (ha : AE a) (hb : AE b) (ta : Ox a) (tb : Ox b) (la : a.length < 1000) (lb : b.length < 1000) : ∃ r, wY a b = some r ∧ -1000 ≤ r ∧ r ≤ 1000 ∧ c3 r 0 = c3 (jb a) (jb b) := by
 unfold wY
 by_cases hl : a.length = b.length
 ·rw [show ((a.length : Int) != (b.length : Int)) = false by simp [hl], ap, we (by omega) (by omega)]
  obtain ⟨r, h1, h2, h3, h4⟩ := HC ha hb hl (by omega) aY a.length (Nat.le_refl _) (by rw [bc]; omega) (by rw [List.drop_length, hl, List.drop_length])
  exact ⟨r, h1, by omega, by omega, h4⟩
 ·have hne : ((a.length : Int) != (b.length : Int)) = true := by simp; omega
  rw [hne, aK, we (by omega) (by omega)]
  refine ⟨_, rfl, by omega, by omega, ?_⟩
  have l1 := yq ha
  have l2 := yq hb
  rcases Nat.lt_or_gt_of_ne hl with h | h
  ·have g := AN hb tb (by rintro rfl; simp at h)
   have := ED (show a.length ≤ b.length - 1 by omega)
   unfold c3; rw [if_pos (by omega), if_pos (by omega)]
  ·have g := AN ha ta (by rintro rfl; simp at h)
   have := ED (show b.length ≤ a.length - 1 by omega)
   unfold c3; rw [if_neg (by omega), if_pos (by omega), if_neg (by omega), if_pos (by omega)]
structure RW (r : pB) (n : Int) : Prop where
 dg : AE r.d
 tp : Ox r.d
 ln : r.d.length < 100
 vl : (if r.below = true then -jb r.d else jb r.d) = n
 bl : r.below = true → 0 < jb r.d
theorem E5 {a b : pB} {m n : Int} (ha : RW a m) (hb : RW b n) : nr a b = some (c3 m n) := by
 obtain ⟨da, ta, la, va, ba⟩ := ha
 obtain ⟨db, tb, lb, vb, bb⟩ := hb
 have pa := qH da
 have pb := qH db
 obtain ⟨r, h1, h2, h3, h4⟩ := LP da db ta tb (by omega) (by omega)
 unfold nr
 rw [h1]
 simp only [aX]
 have fin : ∀ x : Int, jm x = some (c3 x 0) := by
  intro x
  unfold jm c3
  by_cases h : x < 0
  ·simp [h, aM]
  ·by_cases k : 0 < x <;> simp [h, k, aM]
 by_cases hs : a.below = b.below
 ·rw [show (!(a.below == b.below)) = false by simp [hs], ap, we (by omega) (by omega), fin, fin]
  rw [← hs] at vb
  cases hbel : a.below with
  | true =>
   rw [aK]
   rw [hbel] at va vb
   simp only [if_true] at va vb
   congr 1
   subst va; subst vb
   have e : c3 (0 - r) 0 = -c3 r 0 := by unfold c3; by_cases x1 : r < 0 <;> by_cases x2 : 0 < r <;> simp [x1, x2] <;> omega
   have e2 : c3 (-jb a.d) (-jb b.d) = -c3 (jb a.d) (jb b.d) := by unfold c3; by_cases x1 : jb a.d < jb b.d <;> by_cases x2 : jb b.d < jb a.d <;> simp [x1, x2] <;> omega
   rw [e, e2, h4]
  | false =>
   rw [ap]
   rw [hbel] at va vb
   simp only [Bool.false_eq_true, if_false] at va vb
   subst va; subst vb
   rw [h4]
 ·have hb2 := (Dh a.below b.below hs)
  rw [hb2.1, aK]
  cases hbel : a.below with
  | true =>
   have hb0 : b.below = false := by have := hb2.2; rw [hbel] at this; simpa using this
   rw [aK]
   rw [hbel] at va; rw [hb0] at vb
   simp only [if_true, Bool.false_eq_true, if_false] at va vb
   have := ba hbel
   unfold c3; rw [if_pos (by omega)]
  | false =>
   have hb0 : b.below = true := by have := hb2.2; rw [hbel] at this; simpa using this
   rw [ap]
   rw [hbel] at va; rw [hb0] at vb
   simp only [if_true, Bool.false_eq_true, if_false] at va vb
   have := bb hb0
   unfold c3; rw [if_neg (by omega), if_pos (by omega)]
end Go.Proofs.YtikbfjpcmalmlaaGreatDoor.Ord
namespace Go.Proofs.YtikbfjpcmalmlaaGreatDoor.Ord
open Go Go.SX Go.SX.Cal
def ab (n : Int) : Int := if n < 0 then -n else n
theorem JS {l : List Int} {x : Int} (h : AE l) (hx : 0 ≤ x ∧ x ≤ 9) : AE (l ++ [x]) := by
 intro d hd
 rcases List.mem_append.1 hd with h1 | h1
 ·exact h d h1
 ·simp at h1; subst h1; exact hx
theorem EM {n : Int} (hn0 : -9223372036854775808 ≤ n) (hn1 : n ≤ 9223372036854775807) : ∀ (k : Nat) (l : List Int) (m : Int), l.length ≤ 19 → 19 - l.length < k → AE l → (m = 0 → Ox l) → ab m < hI (19 - l.length) → -9223372036854775808 ≤ m → m ≤ 9223372036854775807 → ab n = jb l + hI l.length * ab m →
  ∃ d, dZ n k l m = some ⟨decide (n < 0), d⟩ ∧ AE d ∧ Ox d ∧ d.length ≤ 19 ∧ jb d = ab n := by
 intro k
 induction k with
 | zero => intro l m h1 h2; omega
 | succ k ih =>
  intro l m hl hk hd ht hm m0 m1 hv
  rw [dZ]
  by_cases h0 : m = 0
  ·subst h0
   rw [show ((0 : Int) != 0) = false from rfl, ap]
   exact ⟨l, rfl, hd, ht rfl, hl, by simp [ab] at hv ⊢; omega⟩
  ·have hlen : l.length < 19 := by
    apply Classical.byContradiction
    intro hn
    have : l.length = 19 := by omega
    rw [this] at hm
    simp only [Nat.sub_self, hI] at hm
    unfold ab at hm; split at hm <;> omega
   rw [show (m != 0) = true by simp [h0], aK]
   have hq : m.tdiv 10 = if m < 0 then -((-m) / 10) else m / 10 := by
    by_cases hneg : m < 0
    ·rw [if_pos hneg]
     have : m = -(-m) := by omega
     rw [this, Int.neg_tdiv, Int.neg_neg, Int.tdiv_eq_ediv_of_nonneg (by omega)]
    ·rw [if_neg hneg, Int.tdiv_eq_ediv_of_nonneg (by omega)]
   have hr : m.tmod 10 = if m < 0 then -((-m) % 10) else m % 10 := by
    by_cases hneg : m < 0
    ·rw [if_pos hneg]
     have : m = -(-m) := by omega
     rw [this, Int.neg_tmod, Int.neg_neg, Int.tmod_eq_emod_of_nonneg (by omega)]
    ·rw [if_neg hneg, Int.tmod_eq_emod_of_nonneg (by omega)]
   have step : ∀ x, x = ab m % 10 → mI (dZ n k) l m x = dZ n k (l ++ [ab m % 10]) (m.tdiv 10) := by
    intro x hx
    unfold mI
    rw [fH (by omega), hx, we (by rw [hq]; split <;> omega) (by rw [hq]; split <;> omega)]
   have hgo : dZ n k (l ++ [ab m % 10]) (m.tdiv 10) = dZ n k (l ++ [ab m % 10]) (m.tdiv 10) := rfl
   have habq : ab (m.tdiv 10) = ab m / 10 := by
    rw [hq]; unfold ab
    by_cases hneg : m < 0
    ·simp only [hneg, if_true]; split <;> omega
    ·simp only [hneg, if_false]; split <;> omega
   have hab0 : 0 ≤ ab m := by unfold ab; split <;> omega
   have hp : hI (19 - l.length) = hI (19 - (l ++ [ab m % 10]).length) * 10 := by
    rw [show 19 - l.length = (19 - (l ++ [ab m % 10]).length) + 1 by simp; omega]; rfl
   have nxt := ih (l ++ [ab m % 10]) (m.tdiv 10) (by simp; omega) (by simp; omega) (JS hd (by omega)) (fun hz => by
     intro d hdl
     simp at hdl
     subst hdl
     have h1 : ab m / 10 = 0 := by rw [← habq, hz]; rfl
     have h2 : ab m ≠ 0 := by unfold ab; split <;> omega
     omega) (by rw [habq]; rw [hp] at hm; omega) (by rw [hq]; split <;> omega) (by rw [hq]; split <;> omega) (by
     rw [qt, List.length_append, List.length_singleton, habq, hv]
     simp only [jb, hI]
     have e : ab m = ab m % 10 + 10 * (ab m / 10) := by omega
     have e2 : hI l.length * ab m = hI l.length * (ab m % 10) + hI l.length * 10 * (ab m / 10) := by
      rw [Int.mul_assoc, ← Int.mul_add, ← e]
     rw [e2]; simp only [Int.mul_zero, Int.add_zero]; omega)
   by_cases hneg : m.tmod 10 < 0
   ·rw [show decide (m.tmod 10 < 0) = true by simpa using hneg, aK]
    have hx : IntKind.i64.wrap (0 - m.tmod 10) = ab m % 10 := by
     rw [we (by rw [hr]; split <;> omega) (by rw [hr]; split <;> omega)]
     rw [hr] at hneg ⊢
     unfold ab
     by_cases h : m < 0
     ·simp only [h, if_true]; omega
     ·simp only [h, if_false] at hneg; omega
    rw [step _ hx]; exact nxt
   ·rw [show decide (m.tmod 10 < 0) = false by simpa using hneg, ap]
    have hx : m.tmod 10 = ab m % 10 := by
     rw [hr] at hneg ⊢
     unfold ab
     by_cases h : m < 0
     ·simp only [h, if_true] at hneg ⊢; omega
     ·simp only [h, if_false]
    rw [step _ hx]; exact nxt
theorem CP {v : af} (hn : i64 v.n) (hs : inR v.scale) : ∃ r, qq v = some r ∧ RW r (v.n * hI (12 - v.scale).toNat) := by
 obtain ⟨n0, n1⟩ := hn
 obtain ⟨s0, s1⟩ := hs
 have hab : ab v.n ≤ 9223372036854775808 := by unfold ab; split <;> omega
 obtain ⟨d, h1, h2, h3, h4, h5⟩ := EM n0 n1 aY [] v.n (by simp) (by rw [bc]; decide) (fun x hx => by cases hx) (fun _ x hx => by simp at hx) (by
  have : hI (19 - ([] : List Int).length) = 10000000000000000000 := by decide
  rw [this]; omega) n0 n1 (by simp [jb, hI])
 unfold qq vY
 rw [h1]
 simp only [aX]
 rw [we (by omega) (by omega)]
 unfold zy
 have hpp := uv (12 - v.scale).toNat
 by_cases he : d = []
 ·subst he
  have hz : v.n = 0 := by simp only [jb] at h5; unfold ab at h5; split at h5 <;> omega
  rw [show (((⟨decide (v.n < 0), []⟩ : pB).d.length : Int) == 0) = true from rfl, aK]
  refine ⟨_, rfl, ⟨h2, h3, by simp, ?_, ?_⟩⟩
  ·simp [hz, jb]
  ·simp [hz]
 ·have hlen : ((d.length : Int) == 0) = false := by
   rw [beq_eq_false_iff_ne]
   have : d.length ≠ 0 := fun h => he (List.length_eq_zero_iff.1 h)
   omega
  simp only
  rw [hlen, ap, fH (by omega), fH (by simp; omega)]
  have hval : jb (List.replicate (12 - v.scale).toNat 0 ++ d) = ab v.n * hI (12 - v.scale).toNat := by
   rw [qt, FJ, List.length_replicate, h5, Int.mul_comm]; omega
  have hpos : 0 < ab v.n := by
   have h6 := AN h2 h3 he
   have := p10n (d.length - 1)
   omega
  refine ⟨_, rfl, ⟨fun x hx => ?_, fun x hx => ?_, by simp; omega, ?_, fun _ => ?_⟩⟩
  ·rcases List.mem_append.1 hx with h | h
   ·have := List.eq_of_mem_replicate h; omega
   ·exact h2 x h
  ·rw [List.getLast?_append] at hx
   cases hg : d.getLast? with
   | none => exact absurd (List.getLast?_eq_none_iff.1 hg) he
   | some y => rw [hg] at hx; simp at hx; subst hx; exact h3 _ hg
  ·simp only
   rw [hval]
   by_cases hneg : v.n < 0
   ·simp only [hneg, decide_true, if_true, ab]; rw [Int.neg_mul, Int.neg_neg]
   ·simp only [hneg, decide_false, Bool.false_eq_true, if_false, ab]
  ·simp only
   rw [hval]
   exact Int.mul_pos hpos (by omega)
theorem F7 {s t : ByteArray} (hs : s.size < 1000000000000000) : ∀ (k i : Nat), i ≤ s.size → i ≤ t.size → s.size < i + k →
  iK s t k (i : Int) = some (cB (s.data.toList.drop i) (t.data.toList.drop i)) := by
 have ls : s.data.toList.length = s.size := by simp
 have lt : t.data.toList.length = t.size := by simp
 intro k
 induction k with
 | zero => intro i h1 h2 h3; omega
 | succ k ih =>
  intro i h1 h2 h3
  rw [iK]
  unfold pZ tA
  simp only [tI, aX]
  by_cases hi : i < s.size
  ·have e1 : s.data.toList.drop i = s.data.toList[i]'(by omega) :: s.data.toList.drop (i + 1) := List.drop_eq_getElem_cons (by omega)
   rw [show decide ((i : Int) < (s.size : Int)) = true by simpa using hi, aK]
   by_cases hj : i < t.size
   ·have e2 : t.data.toList.drop i = t.data.toList[i]'(by omega) :: t.data.toList.drop (i + 1) := List.drop_eq_getElem_cons (by omega)
    have g1 : s.data.toList.getD (i : Int).toNat 0 = s.data.toList[i]'(by omega) := by simp [List.getD, hi]
    have g2 : t.data.toList.getD (i : Int).toNat 0 = t.data.toList[i]'(by omega) := by simp [List.getD, hj]
    rw [show decide ((i : Int) < (t.size : Int)) = true by simpa using hj, aK, fH (by omega), fH (by omega), fH (by omega), fH (by omega), g1, g2, e1, e2, Df]
    generalize s.data.toList[i]'(by omega) = x
    generalize t.data.toList[i]'(by omega) = y
    have hx := x.toNat_lt
    have hy := y.toNat_lt
    rw [we (x := (x.toNat : Int)) (by omega) (by omega), we (x := (y.toNat : Int)) (by omega) (by omega)]
    by_cases hxy : (x.toNat : Int) = y.toNat
    ·rw [show ((x.toNat : Int) != (y.toNat : Int)) = false by rw [bne_eq_false_iff_eq]; exact hxy, ap, we (by omega) (by omega), show (i : Int) + 1 = ((i + 1 : Nat) : Int) by omega, ih (i + 1) (by omega) (by omega) (by omega), hxy, c3_self, or_zero]
    ·rw [show ((x.toNat : Int) != (y.toNat : Int)) = true by rw [bne_iff_ne]; exact hxy, aK]
     unfold or'
     rw [if_pos (by unfold c3; split <;> (try split) <;> omega)]
   ·have e2 : t.data.toList.drop i = [] := List.drop_of_length_le (by omega)
    rw [show decide ((i : Int) < (t.size : Int)) = false by simpa using hj, ap, e1, e2]
    have : cB (s.data.toList[i]'(by omega) :: s.data.toList.drop (i + 1)) [] = 1 := by simp [cB, Op.bytesLess]
    rw [this]
    unfold c3; rw [if_neg (by omega), if_pos (by omega)]
  ·have e1 : s.data.toList.drop i = [] := List.drop_of_length_le (by omega)
   rw [show decide ((i : Int) < (s.size : Int)) = false by simpa using hi, ap, ap, e1]
   by_cases hj : i < t.size
   ·have e2 : t.data.toList.drop i = t.data.toList[i]'(by omega) :: t.data.toList.drop (i + 1) := List.drop_eq_getElem_cons (by omega)
    rw [e2]
    have : cB [] (t.data.toList[i]'(by omega) :: t.data.toList.drop (i + 1)) = -1 := by simp [cB, Op.bytesLess]
    rw [this]
    unfold c3; rw [if_pos (by omega)]
   ·have e2 : t.data.toList.drop i = [] := List.drop_of_length_le (by omega)
    rw [e2]
    have : cB [] [] = 0 := by simp [cB, Op.bytesLess]
    rw [this]
    unfold c3; rw [if_neg (by omega), if_neg (by omega)]
theorem JK {s t : ByteArray} (hs : s.size < 1000000000000000) : rT s t = some (cS s t) := by
 unfold rT
 have := F7 (t := t) hs aY 0 (Nat.zero_le _) (Nat.zero_le _) (by rw [bc]; omega)
 rw [show ((0 : Nat) : Int) = 0 from rfl] at this
 rw [this, List.drop_zero, List.drop_zero, Ju]
 have e1 : s.toList = s.data.toList := by simp [ByteArray.toList_eq]
 have e2 : t.toList = t.data.toList := by simp [ByteArray.toList_eq]
 rw [e1, e2]
theorem DV (f : af → af → Option Int) (a b : af) (hl : a.items.length < 1000000000000000) (hf : ∀ x ∈ a.items, ∀ y ∈ b.items, f x y = some (cmpV x y)) : ∀ (k i : Nat), i ≤ a.items.length → i ≤ b.items.length → a.items.length < i + k →
  ff f a b k (i : Int) = some (cmpL (a.items.drop i) (b.items.drop i)) := by
 intro k
 induction k with
 | zero => intro i h1 h2 h3; omega
 | succ k ih =>
  intro i h1 h2 h3
  rw [ff]
  unfold n7 qP
  rw [tI]
  simp only [aX]
  by_cases hi : i < a.items.length
  ·have e1 : a.items.drop i = a.items[i] :: a.items.drop (i + 1) := List.drop_eq_getElem_cons hi
   have a1 : at? a.items (i : Int) = some a.items[i] := by unfold at?; simp [hi]
   rw [show decide ((i : Int) < (a.items.length : Int)) = true by simp [hi], aK, a1, e1]
   simp only [aX]
   by_cases hj : i < b.items.length
   ·have e2 : b.items.drop i = b.items[i] :: b.items.drop (i + 1) := List.drop_eq_getElem_cons hj
    have a2 : at? b.items (i : Int) = some b.items[i] := by unfold at?; simp [hj]
    rw [show decide ((i : Int) < (b.items.length : Int)) = true by simp [hj], aK, a2, e2]
    simp only [aX]
    rw [hf _ (List.getElem_mem hi) _ (List.getElem_mem hj)]
    simp only [aX, cmpL]
    unfold or'
    by_cases hc : cmpV a.items[i] b.items[i] = 0
    ·have e : (cmpV a.items[i] b.items[i] != 0) = false := by simp [hc]
     rw [e, ap, we (by omega) (by omega), show (i : Int) + 1 = ((i + 1 : Nat) : Int) by omega, ih (i + 1) (by omega) (by omega) (by omega), if_neg (by simp [hc])]
    ·have e : (cmpV a.items[i] b.items[i] != 0) = true := by simp [hc]
     rw [e, aK, if_pos hc]
   ·have e2 : b.items.drop i = [] := List.drop_of_length_le (by omega)
    rw [show decide ((i : Int) < (b.items.length : Int)) = false by simp; omega, ap, e2]
    simp only [cmpL]
    unfold c3; rw [if_neg (by omega), if_pos (by omega)]
  ·have e1 : a.items.drop i = [] := List.drop_of_length_le (by omega)
   rw [show decide ((i : Int) < (a.items.length : Int)) = false by simp; omega, ap, ap, e1]
   by_cases hj : i < b.items.length
   ·have e2 : b.items.drop i = b.items[i] :: b.items.drop (i + 1) := List.drop_eq_getElem_cons hj
    rw [e2]
    simp only [cmpL]
    unfold c3; rw [if_pos (by omega)]
   ·have e2 : b.items.drop i = [] := List.drop_of_length_le (by omega)
    rw [e2]
    simp only [cmpL]
    unfold c3; rw [if_neg (by omega), if_neg (by omega)]
theorem zh {a b : Int} (h : a ≠ b) : c3 a b ≠ 0 := by unfold c3; split <;> (try split) <;> omega
theorem wg {x : Int} (h : x ≠ 0) (y : Int) : or' x y = x := by unfold or'; rw [if_pos h]
theorem rcompareV_eq : ∀ (N : Nat) (a b : af) (k : Nat), eu a ≤ N → eu a < 1000000000000000 → wfV a → wfV b → N + 1 ≤ k → cU k a b = some (cmpV a b) := by
 intro N
 induction N with
 | zero => intro a b k h; have := tY a; omega
 | succ N ih =>
  intro a b k hN hbig ha hb hk
  obtain ⟨k', rfl⟩ : ∃ k', k = k' + 1 := ⟨k - 1, by omega⟩
  obtain ⟨ka, na, sa, ta, ia⟩ := a
  obtain ⟨kb, nb, sb, tb, ib⟩ := b
  simp only [wfV] at ha hb
  obtain ⟨wk, wn, ws, wi⟩ := ha
  obtain ⟨vk, vn, vs, vi⟩ := hb
  simp only [eu] at hN hbig
  have hlen := nc ia
  have hitems : ff (cU k') ⟨ka, na, sa, ta, ia⟩ ⟨kb, nb, sb, tb, ib⟩ aY 0 = some (cmpL ia ib) := by
   have := DV (cU k') ⟨ka, na, sa, ta, ia⟩ ⟨kb, nb, sb, tb, ib⟩ (by simp only; omega) (fun x hx y hy => by
    have h1 : eu x ≤ mt ia := l9 hx
    exact ih x y k' (by omega) (by omega) (yp wi hx) (yp vi hy) (by omega)) aY 0 (Nat.zero_le _) (Nat.zero_le _) (by rw [bc]; simp only; omega)
   simpa using this
  have htx : rT ta tb = some (cS ta tb) := JK (by omega)
  have j2f : kj (cU k') ⟨ka, na, sa, ta, ia⟩ ⟨kb, nb, sb, tb, ib⟩ false = some (or' (c3 sa sb) (or' (cS ta tb) (cmpL ia ib))) := by
   unfold kj
   rw [ap, htx, hitems]
   simp only [tI, aX]
   by_cases hs : sa = sb
   ·subst hs
    rw [show (sa != sa) = false by simp, ap, c3_self, or_zero]
    by_cases hc : cS ta tb = 0
    ·rw [show (cS ta tb != 0) = false by simp [hc], ap, hc, or_zero]
    ·rw [show (cS ta tb != 0) = true by simp [hc], aK, wg hc]
   ·rw [show (sa != sb) = true by simp [hs], aK, wg (zh hs)]
  rw [cU]
  simp only [tI, aX, cmpV]
  by_cases h0 : ka = 0
  ·subst h0
   by_cases h1 : kb = 0
   ·subst h1; rfl
   ·have e : ((kb == 0) : Bool) = false := beq_eq_false_iff_ne.2 h1
    have n2 : zo kb = 0 := by unfold zo; rw [if_neg h1]
    rw [e, n2]; rfl
  ·have e0 : ((ka == 0) : Bool) = false := beq_eq_false_iff_ne.2 h0
   have n1 : zo ka = 0 := by unfold zo; rw [if_neg h0]
   rw [e0, n1]
   by_cases h1 : kb = 0
   ·subst h1; rfl
   ·have e1 : ((kb == 0) : Bool) = false := beq_eq_false_iff_ne.2 h1
    have n2 : zo kb = 0 := by unfold zo; rw [if_neg h1]
    rw [e1, n2, c3_self, or_zero]
    rw [show (!((false : Bool) == false)) = false from rfl, ap, ap]
    by_cases hkk : ka = kb
    ·subst hkk
     rw [show (ka != ka) = false by simp, ap, c3_self, or_zero, if_neg h0]
     by_cases h3 : ka = 3
     ·subst h3
      rw [show ((3 : Int) == 3) = true from rfl, aK]
      have j1 : km (cU k') ⟨3, na, sa, ta, ia⟩ ⟨3, nb, sb, tb, ib⟩ = some (or' (c3 sa sb) (or' (cS ta tb) (cmpL ia ib))) := by
       unfold km
       rw [show (((3 : Int) != 3) : Bool) = false from rfl, j2f]
       rcases Bool.eq_false_or_eq_true (na != nb) with h | h <;> rw [h] <;> rfl
      rw [j1]
      unfold s9
      simp only [zIO, aX, tI]
      by_cases hA : 0 ≤ sa ∧ sa ≤ 12
      ·have hiA : inR sa := hA
       have eA : decide (0 ≤ sa ∧ sa ≤ 12) = true := by simpa using hA
       have o1 : xn 3 sa = 0 := by unfold xn; rw [if_neg (by simp [hiA])]
       by_cases hB : 0 ≤ sb ∧ sb ≤ 12
       ·have hiB : inR sb := hB
        have eB : decide (0 ≤ sb ∧ sb ≤ 12) = true := by simpa using hB
        have o2 : xn 3 sb = 0 := by unfold xn; rw [if_neg (by simp [hiB])]
        obtain ⟨r1, g1, g2⟩ := CP (v := ⟨3, na, sa, ta, ia⟩) wn hiA
        obtain ⟨r2, f1, f2⟩ := CP (v := ⟨3, nb, sb, tb, ib⟩) vn hiB
        rw [eA, eB, g1, f1]
        simp only [aX]
        rw [E5 g2 f2]
        simp only [aX]
        rw [show (!((true : Bool) == true)) = false from rfl, ap, aK]
        have u1 : vvI 3 sa na = na * hI (12 - sa).toNat := by unfold vvI; rw [if_pos ⟨rfl, hiA⟩]
        have u2 : vvI 3 sb nb = nb * hI (12 - sb).toNat := by unfold vvI; rw [if_pos ⟨rfl, hiB⟩]
        rw [o1, o2, c3_self, or_zero, u1, u2]
        by_cases hc : c3 (na * hI (12 - sa).toNat) (nb * hI (12 - sb).toNat) = 0
        ·rw [hc]
         rw [show ((0 : Int) != 0) = false from rfl, ap, aX, or_zero]
         by_cases hs : sa = sb
         ·subst hs; rw [c3_self, show ((0 : Int) != 0) = false from rfl, ap]
         ·rw [show (c3 sa sb != 0) = true by simp [zh hs], aK, wg (zh hs)]
        ·have hcb : (c3 (na * hI (12 - sa).toNat) (nb * hI (12 - sb).toNat) != 0) = true := by simp [hc]
         rw [hcb, aK, aX, hcb, aK, wg hc]
       ·have hiB : ¬ inR sb := hB
        have eB : decide (0 ≤ sb ∧ sb ≤ 12) = false := by simpa using hB
        have o2 : xn 3 sb = 1 := by unfold xn; rw [if_pos ⟨rfl, hiB⟩]
        rw [eA, eB, o1, o2]; rfl
      ·have hiA : ¬ inR sa := hA
       have eA : decide (0 ≤ sa ∧ sa ≤ 12) = false := by simpa using hA
       have o1 : xn 3 sa = 1 := by unfold xn; rw [if_pos ⟨rfl, hiA⟩]
       have u1 : vvI 3 sa na = na := by unfold vvI; rw [if_neg (by simp [hiA])]
       by_cases hB : 0 ≤ sb ∧ sb ≤ 12
       ·have hiB : inR sb := hB
        have eB : decide (0 ≤ sb ∧ sb ≤ 12) = true := by simpa using hB
        have o2 : xn 3 sb = 0 := by unfold xn; rw [if_neg (by simp [hiB])]
        rw [eA, eB, o1, o2]; rfl
       ·have hiB : ¬ inR sb := hB
        have eB : decide (0 ≤ sb ∧ sb ≤ 12) = false := by simpa using hB
        have o2 : xn 3 sb = 1 := by unfold xn; rw [if_pos ⟨rfl, hiB⟩]
        have u2 : vvI 3 sb nb = nb := by unfold vvI; rw [if_neg (by simp [hiB])]
        rw [eA, eB, o1, o2, c3_self, or_zero, u1, u2]
        rw [show (!((false : Bool) == false)) = false from rfl, ap, ap]
        by_cases hn : na = nb
        ·subst hn
         rw [show (na != na) = false by simp, ap, aX, c3_self, or_zero]
         by_cases hs : sa = sb
         ·subst hs; rw [c3_self, show ((0 : Int) != 0) = false from rfl, ap]
         ·rw [show (c3 sa sb != 0) = true by simp [zh hs], aK, wg (zh hs)]
        ·rw [show (na != nb) = true by simp [hn], aK, aX, show (c3 na nb != 0) = true by simp [zh hn], aK, wg (zh hn)]
     ·rw [beq_eq_false_iff_ne.2 h3, ap]
      have o1 : ∀ q, xn ka q = 0 := fun q => by unfold xn; rw [if_neg (by simp [h3])]
      have u1 : ∀ q r, vvI ka q r = r := fun q r => by unfold vvI; rw [if_neg (by simp [h3])]
      rw [o1, o1, c3_self, or_zero, u1, u1]
      unfold km
      simp only
      rw [show (ka != 3) = true by simp [h3]]
      by_cases hn : na = nb
      ·subst hn
       rw [show (na != na) = false by simp, ap, j2f, c3_self, or_zero]
      ·rw [show (na != nb) = true by simp [hn], aK, wg (zh hn)]
       unfold kj
       simp only [aK, tI, aX]
    ·rw [show (ka != kb) = true by simp [hkk], aK, wg (zh hkk)]
end Go.Proofs.YtikbfjpcmalmlaaGreatDoor.Ord
namespace Go.Proofs.YtikbfjpcmalmlaaGreatDoor
open Go Go.SX Go.SX.Cal
theorem OT {t : am} {v : af} (hv : eu v < 1000000000) (hT : jX t < 1000000000) (h : ck t v = 0) : V t ∧ Jy 4 v ∧ BV 4 t v = true := by
 obtain ⟨e, h1, h2, h3⟩ := nj t hT
 have hc := Ke hv hT
 rw [h] at hc
 unfold iU at hc
 rw [h1, Gf v hv] at hc
 simp only [cE] at hc
 by_cases he : e = 0
 ·subst he
  have ht := h3 rfl
  cases hs : xI v with
  | false => rw [hs] at hc; cases hc
  | true =>
   have hS : Jy 4 v := ⟨0, hs⟩
   obtain ⟨a, b⟩ := of_eq 4 aY aY t v hS ht hv hT (by rw [bc]; omega) (by rw [bc]; omega)
   rw [hs, a] at hc
   cases ho : BV 4 t v with
   | false => rw [ho] at hc; cases hc
   | true => exact ⟨ht, hS, rfl⟩
 ·rw [show (e != (0 : Int)) = true by simp [he]] at hc
  cases hc; exact absurd rfl he
structure Lv (v : af) : Prop where
 k : 0 ≤ v.kind ∧ v.kind ≤ 5
 n : -999999999999999999 ≤ v.n ∧ v.n ≤ 999999999999999999
 it : v.items = []
 s : v.s.size ≤ 256
 sc : 0 ≤ v.scale ∧ v.scale ≤ 12
 nul : v.kind = 0 → v.n = 0 ∧ v.scale = 0 ∧ v.s.size = 0
theorem KJ {v : af} (h : kT v = true) (h6 : v.kind ≠ 6) (h7 : v.kind ≠ 7) : Lv v := by
 have hi := qA h h6 h7
 unfold kT vj at h
 simp only at h
 split at h
 ·simp only [Bool.and_eq_true, decide_eq_true_eq, beq_iff_eq] at h; exact ⟨by omega, by omega, hi, by omega, by omega, fun _ => by omega⟩
 ·split at h
  ·simp only [Bool.and_eq_true, decide_eq_true_eq, beq_iff_eq] at h; exact ⟨by omega, by omega, hi, by omega, by omega, fun _ => by omega⟩
  ·split at h
   ·simp only [Bool.and_eq_true, decide_eq_true_eq, beq_iff_eq] at h; exact ⟨by omega, by omega, hi, by omega, by omega, fun _ => by omega⟩
   ·split at h
    ·simp only [Bool.and_eq_true, decide_eq_true_eq, beq_iff_eq] at h; exact ⟨by omega, by omega, hi, by omega, by omega, fun _ => by omega⟩
    ·split at h
     ·simp only [Bool.and_eq_true, decide_eq_true_eq, beq_iff_eq] at h; exact ⟨by omega, by omega, hi, by omega, by omega, fun _ => by omega⟩
     ·split at h
      ·simp only [Bool.and_eq_true, decide_eq_true_eq, beq_iff_eq] at h; exact ⟨by omega, by omega, hi, by omega, by omega, fun _ => by omega⟩
      ·cases h
theorem At {t : am} {v : af} (hv : eu v < 1000000000) (hT : jX t < 1000000000) (h6 : t.kind ≠ 6) (h7 : t.kind ≠ 7) (h : ck t v = 0) : Lv v := by
 obtain ⟨ht, hS, ho⟩ := OT hv hT h
 obtain ⟨hp, _⟩ := hS.succ
 have hk : v.kind = 0 ∨ v.kind = t.kind := by
  simp only [BV] at ho
  by_cases h0 : v.kind = 0
  ·exact .inl h0
  ·rw [if_neg h0] at ho
   by_cases h1 : v.kind = t.kind
   ·exact .inr h1
   ·rw [if_pos h1] at ho; cases ho
 exact KJ hp (by rcases hk with h | h <;> omega) (by rcases hk with h | h <;> omega)
theorem Lv.wf {v : af} (h : Lv v) : Ord.wfV v := by
 obtain ⟨k, n, sc, s, it⟩ := v
 obtain ⟨h1, h2, h3, h4, h5, h6⟩ := h
 simp only at h1 h2 h3 h5
 subst h3
 simp only [Ord.wfV, Ord.wfL, Ord.i64]
 exact ⟨⟨by omega, by omega⟩, ⟨by omega, by omega⟩, ⟨by omega, by omega⟩, trivial⟩
theorem Lv.size {v : af} (h : Lv v) : eu v ≤ 257 := by
 rw [wh, h.it]
 have := h.s
 simp only [mt]; omega
theorem JV {a b : af} (ha : Lv a) (hb : Lv b) : eC aY a b = some (Ord.cmpV a b) := by
 have h := ha.size
 exact Ord.compare_eq 257 a b aY h (by omega) ha.wf hb.wf (by rw [bc]; omega)
theorem M2 {a b : af} (ha : Lv a) (hb : Lv b) : cU aY a b = some (Ord.cmpV a b) := by
 have h := ha.size
 exact Ord.rcompareV_eq 257 a b aY h (by omega) ha.wf hb.wf (by rw [bc]; omega)
theorem L7 {a b : Int} : Ord.c3 a b = 0 ↔ a = b := by
 unfold Ord.c3; split <;> (try split) <;> constructor <;> omega
theorem A9 {x y : Int} : Ord.or' x y = 0 ↔ x = 0 ∧ y = 0 := by
 unfold Ord.or'; by_cases h : x = 0 <;> simp [h]
theorem Pn {s t : ByteArray} : Ord.cS s t = 0 ↔ s.toList = t.toList := by
 unfold Ord.cS
 split
 ·rename_i h
  constructor
  ·intro k; omega
  ·intro k; rw [k] at h
   have := Ord.cmpV_refl ⟨1, 0, 0, t, []⟩
   simp only [Ord.cmpV] at this
   rw [A9, A9] at this
   have := this.2.2
   rw [if_neg (by decide), A9, A9, A9, A9] at this
   have := this.2.2.2.1
   unfold Ord.cS at this
   rw [if_pos h] at this
   omega
 ·split <;> simp_all
theorem Mp {s t : ByteArray} (h : s.toList = t.toList) : s = t := by
 rw [ByteArray.toList_eq, ByteArray.toList_eq] at h
 exact ByteArray.ext (by rw [← Array.toArray_toList (xs := s.data), ← Array.toArray_toList (xs := t.data), h])
theorem Pf {s t : ByteArray} (h1 : s.size = 0) (h2 : t.size = 0) : s = t :=
 ByteArray.ext (by rw [Array.eq_empty_of_size_eq_zero h1, Array.eq_empty_of_size_eq_zero h2])
theorem Rl {a b : af} (ha : Lv a) (hb : Lv b) : Ord.cmpV a b = 0 ↔ a = b := by
 constructor
 ·intro h
  obtain ⟨k, n, sc, s, it⟩ := a
  obtain ⟨k', n', sc', s', it'⟩ := b
  have hi := ha.it; have hi' := hb.it
  simp only at hi hi'
  subst hi; subst hi'
  simp only [Ord.cmpV, A9, L7] at h
  obtain ⟨_, hk, h⟩ := h
  subst hk
  by_cases h0 : k = 0
  ·obtain ⟨a1, a2, a3⟩ := ha.nul h0
   obtain ⟨b1, b2, b3⟩ := hb.nul h0
   simp only at a1 a2 a3 b1 b2 b3
   rw [a1, a2, b1, b2, Pf a3 b3]
  ·rw [if_neg h0, A9, A9, A9, A9, L7, L7, L7, Pn] at h
   obtain ⟨_, hv, hs, ht, _⟩ := h
   subst hs
   have hn : n = n' := by
    unfold Ord.vvI at hv
    by_cases h3 : k = 3 ∧ Ord.inR sc
    ·rw [if_pos h3, if_pos h3] at hv
     have := Ord.p10n (12 - sc).toNat
     exact Int.eq_of_mul_eq_mul_right (by omega) hv
    ·rw [if_neg h3, if_neg h3] at hv; exact hv
   rw [hn, Mp ht]
 ·rintro rfl; exact Ord.cmpV_refl a
def KO (a b : af) : Bool := Ord.cmpV a b == 0
theorem yu {a b : af} (ha : Lv a) (hb : Lv b) : KO a b = true ↔ a = b := by
 unfold KO; rw [beq_iff_eq]; exact Rl ha hb
theorem BB {a b : af} (ha : Lv a) (hb : Lv b) : dR aY a b = some (KO a b) := by
 have key : (if a.kind = b.kind ∧ a.n = b.n ∧ a.scale = b.scale ∧ a.s.toList = b.s.toList then true else false) = KO a b := by
  refine jl ?_
  rw [yu ha hb]
  by_cases h : a.kind = b.kind ∧ a.n = b.n ∧ a.scale = b.scale ∧ a.s.toList = b.s.toList
  ·rw [if_pos h]
   refine ⟨fun _ => ?_, fun _ => rfl⟩
   obtain ⟨k, n, sc, s, it⟩ := a
   obtain ⟨k', n', sc', s', it'⟩ := b
   have hi := ha.it; have hi' := hb.it
   simp only at hi hi' h
   obtain ⟨rfl, rfl, rfl, h⟩ := h
   rw [hi, hi', Mp h]
  ·rw [if_neg h]
   refine ⟨(fun h => by cases h), ?_⟩
   rintro rfl
   exact absurd ⟨rfl, rfl, rfl, rfl⟩ h
 have hi := ha.it; have hi' := hb.it
 rw [Ad, dR.eq_2, ← key]
 have ht : ∀ q, gV q a b true = some false := fun q => rfl
 have hf : gV (dR 1152921504606846975) a b ((a.items.length : Int) != (b.items.length : Int)) = some true := by
  rw [hi, hi']
  show jd _ a b aY 0 = _
  rw [Ad, jd, hi]
  rfl
 rw [hf]
 simp only [ht, aM]
 by_cases h1 : a.kind = b.kind <;> by_cases h2 : a.n = b.n <;> by_cases h3 : a.scale = b.scale <;> by_cases h4 : a.s.toList = b.s.toList <;> simp [h1, h2, h3, h4]
end Go.Proofs.YtikbfjpcmalmlaaGreatDoor
namespace Go.Proofs.YtikbfjpcmalmlaaGreatDoor
open Go Go.SX Go.SX.Cal
theorem ed {e : Int} {f g : Option Int} (h : e = 0 → f = g) : ee e f = ee e g := by
 unfold ee; by_cases he : e = 0
 ·simp [he, h he]
 ·simp [he]
theorem Kh {p : Nat → Bool} {e : Int} (he : e ≠ 0) : ∀ (m i : Nat), fe (fun j => er (p j) e) m i = er (decide (∃ j, j < m ∧ p (i + j) = true)) e
 | 0, i => by simp [fe, er]
 | m + 1, i => by
  rw [fe, Kh he m (i + 1)]
  cases hp : p i with
  | true =>
   rw [Hf, Gt he, decide_eq_true ⟨0, by omega, by simpa using hp⟩, Hf]
  | false =>
   rw [Eg, DR]
   congr 1
   refine decide_eq_decide.2 ⟨fun ⟨j, a, b⟩ => ⟨j + 1, by omega, by rw [← b]; congr 1; omega⟩, fun ⟨j, a, b⟩ => ?_⟩
   cases j with
   | zero => rw [Nat.add_zero, hp] at b; cases b
   | succ j => exact ⟨j, by omega, by rw [← b]; congr 1; omega⟩
theorem Ah {p : Nat → Bool} {e : Int} (he : e ≠ 0) (n : Nat) : fe (fun j => er (p j) e) n 0 = er (mT p n) e := by
 rw [Kh he]
 congr 1
 refine jl ?_
 rw [decide_eq_true_iff, eZ]
 simp
def Qc (fs : List ac) (id : Int) : Int := (jP fs id).getD 0
def Fg (fs : List ac) (id : Int) : ac := ((mK fs id).getD (⟨0, ByteArray.empty, false, ⟨0, 0, []⟩⟩, false)).1
def Dx (fs : List ac) (id : Int) : Bool := ((mK fs id).getD (⟨0, ByteArray.empty, false, ⟨0, 0, []⟩⟩, false)).2
theorem ux {fs : List ac} (hn : fs.length < 1000000000) (id : Int) :
  jP fs id = some (Qc fs id) ∧ mK fs id = some (Fg fs id, Dx fs id) ∧ decide (Qc fs id < 0) = !Dx fs id ∧ (Dx fs id = true → at? fs (Qc fs id) = some (Fg fs id) ∧ Fg fs id ∈ fs) := by
 unfold Qc Fg Dx
 rcases KT.or fs id with ⟨i, hi⟩ | hi
 ·rw [wc hn hi, ym hn hi]
  refine ⟨rfl, rfl, ?_, fun _ => ⟨aU hi.lt, List.getElem_mem hi.lt⟩⟩
  show decide ((i : Int) < 0) = false
  simp
 ·obtain ⟨g, hg⟩ := yP hn hi
  rw [wD hn hi, hg]
  exact ⟨rfl, rfl, rfl, fun h => by cases h⟩
def tE (p : bY) (t : am) : am × Int := (fo p t).getD (tc, 0)
theorem FA (p : bY) {t : am} (h : jX t < 1000000000) : fo p t = some (tE p t) ∧ gi p t = some (tE p t) ∧ jX (tE p t).1 < 1000000000 ∧ ((tE p t).2 = 0 → (tE p t).1.kind ≠ 6 ∧ (tE p t).1.kind ≠ 7) := by
 obtain ⟨e, h1, h2, h3⟩ := tt p t h
 unfold tE
 rw [h2, h3]
 refine ⟨rfl, rfl, ?_, ?_⟩
 ·show jX (EU p t e).1 < _
  unfold EU KV tc
  repeat' split
  all_goals first | (rw [nQ]; simp only [eG]; omega) | exact h
 ·show (EU p t e).2 = 0 → _
  intro h0
  have k := MP h1 h0
  have a := k.k6; have b := k.k7
  show (EU p t e).1.kind ≠ 6 ∧ (EU p t e).1.kind ≠ 7
  have hc : (EU p t e).1 = ⟨2, 0, []⟩ ∨ (EU p t e).1 = t ∨ (EU p t e).2 ≠ 0 := by
   unfold EU KV tc
   repeat' split
   all_goals simp_all
  rcases hc with hc | hc | hc
  ·rw [hc]; exact ⟨by decide, by decide⟩
  ·rw [hc]; exact ⟨a, b⟩
  ·exact absurd h0 hc
theorem kh (a b c : Int) : dk a b c = some (decide (b ≤ a ∧ a ≤ c)) := by
 unfold dk oc
 by_cases h1 : b ≤ a <;> by_cases h2 : a ≤ c <;> simp [h1, h2, aM]
structure H7 (f : ah) : Prop where
 name : f.name.size < 1000000000
 part : f.part.length < 1000000000 ∧ ∀ v ∈ f.part, eu v < 1000000000
 stats : f.stats.length < 1000000000 ∧ ∀ s ∈ f.stats, eu s.min < 1000000000 ∧ eu s.max < 1000000000
structure KR (f : ah) : Prop where
 part : ∀ v ∈ f.part, Lv v
 stats : ∀ s ∈ f.stats, Lv s.min ∧ Lv s.max
def AG (f : ac) : Bool := decide (f.type.kind ≠ 6 ∧ f.type.kind ≠ 7)
def Cl (fs : List ac) : List ac := fs.filter AG
theorem Pk (p1 : List ac) (f : ah) (hn : p1.length < 1000000000) : qw p1 f = lg f (Cl p1) := by
 have key : ∀ (m k i : Nat) (l : List ac), i + m = p1.length → m < k → l.length ≤ i → fW p1 f k l (i : Int) = lg f (l ++ Cl (p1.drop i)) := by
  intro m
  induction m with
  | zero =>
   intro k i l hi hk hl
   obtain ⟨k, rfl⟩ := fu hk
   rw [fW, B8 (by omega), iF, List.drop_of_length_le (by omega)]
   simp [Cl]
  | succ m ih =>
   intro k i l hi hk hl
   obtain ⟨k, rfl⟩ := fu hk
   have h1 : i < p1.length := by omega
   rw [fW, bg h1, iT, aU h1, bS, DP, bS]
   unfold o8
   rw [az h1 hn, AW h1]
   have hf : Cl (p1[i] :: p1.drop (i + 1)) = if AG p1[i] then p1[i] :: Cl (p1.drop (i + 1)) else Cl (p1.drop (i + 1)) := by unfold Cl; rw [List.filter_cons]
   rw [hf]
   show al (AG p1[i]) _ _ = _
   cases hb : AG p1[i] with
   | true => rw [iT, gP (by omega), ih k (i + 1) _ (by omega) (by omega) (by simp; omega)]; simp
   | false => rw [iF, ih k (i + 1) _ (by omega) (by omega) (by omega)]; simp
 have := key p1.length aY 0 [] (by omega) (by rw [bc]; omega) (Nat.zero_le _)
 unfold qw
 rw [show ((0 : Nat) : Int) = 0 from rfl] at this
 rw [this, List.nil_append, List.drop_zero]
theorem OY (p1 : List ac) (f : ah) (hn : p1.length < 1000000000) : mf f p1 = i4 f (Cl p1) := by
 have key : ∀ (m k i : Nat) (l : List ac), i + m = p1.length → m < k → l.length ≤ i → ea f p1 k l (i : Int) = i4 f (l ++ Cl (p1.drop i)) := by
  intro m
  induction m with
  | zero =>
   intro k i l hi hk hl
   obtain ⟨k, rfl⟩ := fu hk
   rw [ea, B8 (by omega), iF, List.drop_of_length_le (by omega)]
   simp [Cl]
  | succ m ih =>
   intro k i l hi hk hl
   obtain ⟨k, rfl⟩ := fu hk
   have h1 : i < p1.length := by omega
   rw [ea, bg h1, iT, aU h1, bS, Cg, bS]
   unfold mr
   rw [az h1 hn, AW h1]
   have hf : Cl (p1[i] :: p1.drop (i + 1)) = if AG p1[i] then p1[i] :: Cl (p1.drop (i + 1)) else Cl (p1.drop (i + 1)) := by unfold Cl; rw [List.filter_cons]
   rw [hf]
   show al (AG p1[i]) _ _ = _
   cases hb : AG p1[i] with
   | true => rw [iT, gP (by omega), ih k (i + 1) _ (by omega) (by omega) (by simp; omega)]; simp
   | false => rw [iF, ih k (i + 1) _ (by omega) (by omega) (by omega)]; simp
 have := key p1.length aY 0 [] (by omega) (by rw [bc]; omega) (Nat.zero_le _)
 unfold mf
 rw [show ((0 : Nat) : Int) = 0 from rfl] at this
 rw [this, List.nil_append, List.drop_zero]
theorem Lp {fs : List ac} {g : ac} (h : g ∈ Cl fs) : g ∈ fs ∧ g.type.kind ≠ 6 ∧ g.type.kind ≠ 7 := by
 unfold Cl at h
 obtain ⟨h1, h2⟩ := List.mem_filter.1 h
 unfold AG at h2
 exact ⟨h1, by simpa using h2⟩
noncomputable def OD (t : am) (s : gv) (rows : Int) : Int :=
 mA (er (!decide (0 ≤ s.nulls ∧ s.nulls ≤ rows)) 3) (mA (ck t s.min) (mA (ck t s.max) (er (!((s.min.kind == 0) == (s.nulls == rows)) || (!((s.max.kind == 0) == (s.nulls == rows)) || decide (0 < Ord.cmpV s.min s.max))) 1)))
noncomputable def CZ (f : ah) (l : List ac) : Int :=
 if hl : f.stats.length = l.length then
  mA (er (mT (fun j => match f.stats[j]?, l[j]? with | some s, some x => !(s.id == x.id) | _, _ => false) f.stats.length) 1)
   (fe (fun j => match f.stats[j]?, l[j]? with | some s, some x => OD x.type s f.rows | _, _ => 0) f.stats.length 0)
 else 1
theorem O2 {f : ah} {l : List ac} (hf : H7 f) (hl : ∀ x ∈ l, jX x.type < 1000000000 ∧ x.type.kind ≠ 6 ∧ x.type.kind ≠ 7) : lg f l = some (CZ f l) := by
 unfold lg bL CZ
 by_cases h : f.stats.length = l.length
 ·rw [dif_pos h, show ((f.stats.length : Int) != (l.length : Int)) = false by simp [h], iF]
  rw [G1 (L := aw f.stats l) (n := f.stats.length) (p := fun j => match f.stats[j]?, l[j]? with | some s, some x => !(s.id == x.id) | _, _ => false) hf.stats.1
   (fun k => by rw [aw, rB, iF]; rfl)
   (fun k i hi => by
    rw [aw, bg hi, iT, aU hi, aU (show i < l.length by omega), bS, bS, tF, bS, az hi hf.stats.1, List.getElem?_eq_getElem hi, List.getElem?_eq_getElem (show i < l.length by omega)]), bS]
  unfold LX
  rw [Bool.not_not, dB (by decide)]
  rw [gu (L := fb f l) (n := f.stats.length) (fin := some 0) (c := fun j => match f.stats[j]?, l[j]? with | some s, some x => OD x.type s f.rows | _, _ => 0) hf.stats.1
   (fun k => by rw [fb, rB, iF]; rfl)
   (fun k i hi => by
    have hi' : i < l.length := by omega
    obtain ⟨g1, g2⟩ := hf.stats.2 _ (List.getElem_mem hi)
    obtain ⟨g3, g4, g5⟩ := hl _ (List.getElem_mem hi')
    rw [fb, bg hi, iT, aU hi, bS, kh, bS, dB (by decide)]
    show ee _ (aB (some f.stats[i].min) _) = _
    rw [bS, aU hi', bS, Ke g1 g3, bS, gZ]
    show ee _ (ee _ (aB (some f.stats[i].max) _)) = _
    rw [bS, Ke g2 g3, bS, gZ, List.getElem?_eq_getElem hi, List.getElem?_eq_getElem hi']
    simp only
    unfold OD
    rw [← bz, ← bz, ← bz]
    refine ed fun _ => ed fun e1 => ed fun e2 => ?_
    rw [JV (At g1 g3 g4 g5 e1) (At g2 g3 g4 g5 e2), bS]
    unfold mH
    rw [az hi hf.stats.1]
    generalize (!((f.stats[i].min.kind == 0) == (f.stats[i].nulls == f.rows))) = b1
    generalize (!((f.stats[i].max.kind == 0) == (f.stats[i].nulls == f.rows))) = b2
    generalize decide (0 < Ord.cmpV f.stats[i].min f.stats[i].max) = b3
    cases b1 <;> cases b2 <;> cases b3 <;> rfl), dM, sT]
 ·rw [dif_neg h, show ((f.stats.length : Int) != (l.length : Int)) = true by simp; omega, iT, bS]
  rfl
theorem Pu {f : ah} {l : List ac} (hf : H7 f) (hl : ∀ x ∈ l, jX x.type < 1000000000 ∧ x.type.kind ≠ 6 ∧ x.type.kind ≠ 7) : i4 f l = some (CZ f l) := by
 unfold i4 CZ
 by_cases h : f.stats.length = l.length
 ·rw [dif_pos h, show ((l.length : Int) != (f.stats.length : Int)) = false by simp [h], iF]
  have hn : l.length < 1000000000 := by have := hf.stats.1; omega
  rw [gu (L := fL f l) (n := l.length) (fin := mn f l) (c := fun j => er (match f.stats[j]?, l[j]? with | some s, some x => !(s.id == x.id) | _, _ => false) 1) hn
   (fun k => by rw [fL, rB, iF])
   (fun k i hi => by
    have hi' : i < f.stats.length := by omega
    rw [fL, bg hi, iT, aU hi, aU hi', bS, bS, az hi hn, dB (by decide), List.getElem?_eq_getElem hi, List.getElem?_eq_getElem hi']
    simp only
    rw [show (l[i].id != f.stats[i].id) = !(f.stats[i].id == l[i].id) by rw [bne, Bool.beq_comm]])]
  rw [Ah (by decide), ← h]
  unfold mn
  rw [gu (L := dF f l) (n := f.stats.length) (fin := some 0) (c := fun j => match f.stats[j]?, l[j]? with | some s, some x => OD x.type s f.rows | _, _ => 0) hf.stats.1
   (fun k => by rw [dF, rB, iF]; rfl)
   (fun k i hi => by
    have hi' : i < l.length := by omega
    obtain ⟨g1, g2⟩ := hf.stats.2 _ (List.getElem_mem hi)
    obtain ⟨g3, g4, g5⟩ := hl _ (List.getElem_mem hi')
    rw [dF, bg hi, iT, aU hi, bS, mg, bS, dB (by decide), aU hi', bS, Ld g1 g3, bS, gZ, Ld g2 g3, bS, gZ, List.getElem?_eq_getElem hi, List.getElem?_eq_getElem hi']
    simp only
    unfold OD
    rw [← bz, ← bz, ← bz]
    refine ed fun _ => ed fun e1 => ed fun e2 => ?_
    rw [M2 (At g1 g3 g4 g5 e1) (At g2 g3 g4 g5 e2), bS]
    unfold kA
    rw [az hi hf.stats.1]
    generalize (!((f.stats[i].min.kind == 0) == (f.stats[i].nulls == f.rows))) = b1
    generalize (!((f.stats[i].max.kind == 0) == (f.stats[i].nulls == f.rows))) = b2
    generalize decide (0 < Ord.cmpV f.stats[i].min f.stats[i].max) = b3
    cases b1 <;> cases b2 <;> cases b3 <;> rfl), dM, sT]
 ·rw [dif_neg h, show ((l.length : Int) != (f.stats.length : Int)) = true by simp; omega, iT]
theorem Nk {f : ah} {l : List ac} (hf : H7 f) (hl : ∀ x ∈ l, jX x.type < 1000000000 ∧ x.type.kind ≠ 6 ∧ x.type.kind ≠ 7) (h : CZ f l = 0) : ∀ s ∈ f.stats, Lv s.min ∧ Lv s.max := by
 unfold CZ at h
 by_cases hh : f.stats.length = l.length
 ·rw [dif_pos hh, wB, Oq] at h
  intro s hs
  obtain ⟨i, hi, rfl⟩ := List.mem_iff_getElem.1 hs
  have hi' : i < l.length := by omega
  have := h.2 i (Nat.zero_le _) (by omega)
  rw [List.getElem?_eq_getElem hi, List.getElem?_eq_getElem hi'] at this
  simp only [OD, wB] at this
  obtain ⟨g1, g2⟩ := hf.stats.2 _ (List.getElem_mem hi)
  obtain ⟨g3, g4, g5⟩ := hl _ (List.getElem_mem hi')
  exact ⟨At g1 g3 g4 g5 this.2.1, At g2 g3 g4 g5 this.2.2.1⟩
 ·rw [dif_neg hh] at h; cases h
end Go.Proofs.YtikbfjpcmalmlaaGreatDoor
namespace Go.Proofs.YtikbfjpcmalmlaaGreatDoor
open Go Go.SX Go.SX.Cal
structure G9 (s : au) : Prop where
 files : s.files.length < 1000000000 ∧ ∀ f ∈ s.files, H7 f
 dat : s.dat.length < 1000000000 ∧ ∀ d ∈ s.dat, d.rows.length < 1000000000
 dby : s.dby.length < 1000000000 ∧ ∀ d ∈ s.dby, d.ids.length < 1000000000 ∧ d.keys.length < 1000000000 ∧ ∀ k ∈ d.keys, k.length < 1000000000 ∧ ∀ v ∈ k, eu v < 1000000000
structure rx (m : aF) : Prop where
 schemas : m.schemas.length < 1000000000 ∧ ∀ s ∈ m.schemas, eG s < 1000000000 - 1
 specs : m.specs.length < 1000000000 ∧ ∀ s ∈ m.specs, s.fields.length < 1000000000
 snaps : m.snapshots.length < 1000000000 ∧ ∀ s ∈ m.snapshots, G9 s
 refs : m.refs.length < 1000000000 ∧ ∀ r ∈ m.refs, r.name.size < 1000000000
 props : m.props.length < 1000000000 ∧ ∀ p ∈ m.props, p.name.size < 1000000000 ∧ p.value.size < 100000000
theorem Ct {Z : Type} {z : Z} {n : Nat} {L : Nat → Int → Option (Int × Z)} {p : Nat → Bool} (h0 : ∀ k, L (k + 1) (n : Int) = some (-1, z)) (h1 : ∀ k i, i < n → L (k + 1) (i : Int) = al (p i) (some ((i : Int), z)) (L k ((i + 1 : Nat) : Int))) :
  ∀ m k i, i + m = n → m < k → ∃ r, L k (i : Int) = some (r, z) ∧ (decide ((0 : Int) ≤ r) = true ↔ ∃ j, i ≤ j ∧ j < n ∧ p j = true)
 | 0, k, i, hi, hk => by
  obtain ⟨k, rfl⟩ := fu hk
  have : i = n := by omega
  subst this
  exact ⟨-1, h0 k, by simp; intro j h1 h2; omega⟩
 | m + 1, k, i, hi, hk => by
  obtain ⟨k, rfl⟩ := fu hk
  rw [h1 k i (by omega)]
  cases hp : p i with
  | true => exact ⟨i, rfl, by simp; exact ⟨i, Nat.le_refl _, by omega, hp⟩⟩
  | false =>
   obtain ⟨r, e1, e2⟩ := Ct h0 h1 m k (i + 1) (by omega) (by omega)
   refine ⟨r, e1, e2.trans ⟨fun ⟨j, a, b, c⟩ => ⟨j, by omega, b, c⟩, fun ⟨j, a, b, c⟩ => ⟨j, ?_, b, c⟩⟩⟩
   by_cases e : j = i
   ·subst e; rw [hp] at c; cases c
   ·omega
theorem yF {Z : Type} {z : Z} {n : Nat} {L : Nat → Int → Option (Int × Z)} {p : Nat → Bool} (hn : n < 1000000000) (h0 : ∀ k, L (k + 1) (n : Int) = some (-1, z)) (h1 : ∀ k i, i < n → L (k + 1) (i : Int) = al (p i) (some ((i : Int), z)) (L k ((i + 1 : Nat) : Int))) :
  ∃ r, L aY (0 : Int) = some (r, z) ∧ decide ((0 : Int) ≤ r) = mT p n := by
 obtain ⟨r, e1, e2⟩ := Ct h0 h1 n aY 0 (by omega) (by rw [bc]; omega)
 refine ⟨r, e1, jl (e2.trans (Iff.trans ?_ eZ.symm))⟩
 exact ⟨fun ⟨j, _, b, c⟩ => ⟨j, b, c⟩, fun ⟨j, b, c⟩ => ⟨j, Nat.zero_le _, b, c⟩⟩
theorem Bw {α : Type} {l : List α} {x : Int} (h0 : 0 ≤ x) (h1 : x ≤ (l.length : Int) - 1) : ∃ (h : x.toNat < l.length), at? l x = some l[x.toNat] ∧ l[x.toNat]? = some l[x.toNat] := by
 have h : x.toNat < l.length := by omega
 refine ⟨h, ?_, List.getElem?_eq_getElem h⟩
 have := aU h
 rwa [show ((x.toNat : Nat) : Int) = x by omega] at this
def oE (fs : List ac) (sp : di) (j : Nat) : Bool := match sp.fields[j]? with | some x => !Dx fs x.source | none => false
noncomputable def CQ (fs : List ac) (sp : di) (f : ah) (j : Nat) : Int := match sp.fields[j]?, f.part[j]? with
 | some x, some v => mA (er ((tE x.transform (Fg fs x.source).type).2 != 0) 2) (ck (tE x.transform (Fg fs x.source).type).1 v)
 | _, _ => 0
noncomputable def Az (fs : List ac) (sp : di) (f : ah) : Int :=
 mA (er (mT (oE fs sp) sp.fields.length) 9) (mA (er ((f.part.length : Int) != (sp.fields.length : Int)) 1) (mA (fe (CQ fs sp f) sp.fields.length 0) (CZ f (Cl fs))))
def Is (m : aF) (f : ah) : Bool :=
 !decide (0 ≤ f.schema ∧ f.schema ≤ (m.schemas.length : Int) - 1) || (!decide (0 ≤ f.spec ∧ f.spec ≤ (m.specs.length : Int) - 1) || (!decide (1 ≤ f.rows ∧ f.rows ≤ 2000) || decide (f.seq < 1)))
noncomputable def Av (m : aF) (f : ah) : Int :=
 mA (er (!El f.name) 4) (mA (er (Is m f) 3) (match m.schemas[f.schema.toNat]?, m.specs[f.spec.toNat]? with | some fs, some sp => Az fs sp f | _, _ => 0))
theorem JE {m : aF} {f : ah} (h : Is m f = false) : ∃ fs sp, at? m.schemas f.schema = some fs ∧ at? m.specs f.spec = some sp ∧ m.schemas[f.schema.toNat]? = some fs ∧ m.specs[f.spec.toNat]? = some sp ∧ fs ∈ m.schemas ∧ sp ∈ m.specs := by
 unfold Is at h
 simp only [Bool.or_eq_false_iff, Bool.not_eq_false', decide_eq_true_eq] at h
 obtain ⟨⟨a1, a2⟩, ⟨b1, b2⟩, _⟩ := h
 obtain ⟨h1, h2, h3⟩ := Bw a1 a2
 obtain ⟨g1, g2, g3⟩ := Bw b1 b2
 exact ⟨_, _, h2, g2, h3, g3, List.getElem_mem h1, List.getElem_mem g1⟩
theorem J5 {fs : List ac} (h : eG fs < 1000000000 - 1) : ∀ x ∈ Cl fs, jX x.type < 1000000000 ∧ x.type.kind ≠ 6 ∧ x.type.kind ≠ 7 := by
 intro x hx
 obtain ⟨h1, h2, h3⟩ := Lp hx
 have a := i7 h1
 have b := iz x
 exact ⟨by omega, h2, h3⟩
theorem Cq {fs : List ac} (h : eG fs < 1000000000 - 1) {g : ac} (hg : g ∈ fs) : jX g.type < 1000000000 := by
 have a := i7 hg
 have b := iz g
 omega
theorem Na {fs : List ac} {sp : di} (hn : fs.length < 1000000000) (hs : sp.fields.length < 1000000000) : bk sp.fields fs = some (mT (oE fs sp) sp.fields.length, fs) := by
 unfold bk cn
 obtain ⟨r, r1, r2⟩ := yF (z := fs) (L := fun k i => aG sp.fields k fs i) (n := sp.fields.length) (p := oE fs sp) hs
  (fun k => by rw [aG, rB, iF]; rfl)
  (fun k i hi => by
   obtain ⟨t1, _, t3, _⟩ := ux hn sp.fields[i].source
   rw [aG, bg hi, iT, aU hi, bS, uB, t1, bS, bS, t3, az hi hs]
   unfold oE
   rw [List.getElem?_eq_getElem hi])
 have r1 : aG sp.fields aY fs (0 : Int) = some (r, fs) := r1
 rw [r1, bS]
 show some (decide (0 ≤ r), fs) = _
 rw [r2]
theorem M6 {fs : List ac} {sp : di} {f : ah} (hf : H7 f) (hfs : eG fs < 1000000000 - 1) (hs : sp.fields.length < 1000000000) :
  (aB (bk sp.fields fs) fun r5 => al r5.1 (some (9 : Int)) (al ((f.part.length : Int) != (sp.fields.length : Int)) (some (1 : Int)) (iH f sp r5 aY (0 : Int)))) = some (Az fs sp f) := by
 have hn : fs.length < 1000000000 := by have := dV fs; omega
 rw [Na hn hs, bS]
 unfold Az
 show al (mT (oE fs sp) sp.fields.length) _ _ = _
 rw [dB (by decide), dB (by decide), ← dM, ← bz, ← bz, ← bz]
 refine ed fun e1 => ed fun e2 => ?_
 have hl : ∀ (i : Nat) (h : i < sp.fields.length), Dx fs sp.fields[i].source = true := fun i h => by
  rw [Bf (by decide), ← Bool.not_eq_true, eZ] at e1
  cases hb : Dx fs sp.fields[i].source with
  | true => rfl
  | false => exact absurd ⟨i, h, by unfold oE; rw [List.getElem?_eq_getElem h]; simp [hb]⟩ e1
 have hp : f.part.length = sp.fields.length := by
  rw [Bf (by decide), bne_eq_false_iff_eq] at e2; omega
 rw [gu (L := iH f sp (mT (oE fs sp) sp.fields.length, fs)) (n := sp.fields.length) (fin := some (CZ f (Cl fs))) (c := CQ fs sp f) hs
  (fun k => by
   rw [iH, rB, iF]
   unfold tn
   show aB (qw fs f) _ = _
   rw [Pk fs f hn, O2 hf (J5 hfs), bS])
  (fun k i hi => by
   obtain ⟨t1, _, t3, t4⟩ := ux hn sp.fields[i].source
   obtain ⟨t5, t6⟩ := t4 (hl i hi)
   obtain ⟨u1, _, u3, u4⟩ := FA sp.fields[i].transform (Cq hfs t6)
   have hi' : i < f.part.length := by omega
   rw [iH, bg hi, iT, aU hi, bS]
   show aB (jP fs _) _ = _
   rw [t1, bS]
   show aB (at? fs _) _ = _
   rw [t5, bS, u1, bS, dB (by decide), aU hi', bS, Ke (hf.part.2 _ (List.getElem_mem hi')) u3, bS, gZ, az hi hs, bz]
   unfold CQ
   rw [List.getElem?_eq_getElem hi, List.getElem?_eq_getElem hi'])]
 rw [dM]
theorem NO {fs : List ac} {sp : di} {f : ah} (hf : H7 f) (hfs : eG fs < 1000000000 - 1) (hs : sp.fields.length < 1000000000) :
  eM f fs sp aY (0 : Int) = some (Az fs sp f) := by
 have hn : fs.length < 1000000000 := by have := dV fs; omega
 unfold Az
 rw [← dM, ← bz, ← bz, ← bz]
 rw [gu (L := eM f fs sp) (n := sp.fields.length) (fin := me f fs sp) (c := fun j => er (oE fs sp j) 9) hs
  (fun k => by rw [eM, rB, iF])
  (fun k i hi => by
   obtain ⟨_, t2, _, _⟩ := ux hn sp.fields[i].source
   rw [eM, bg hi, iT, aU hi, bS, t2, bS, dB (by decide), az hi hs]
   unfold oE
   rw [List.getElem?_eq_getElem hi])]
 rw [Ah (by decide)]
 refine ed fun e1 => ?_
 have hl : ∀ (i : Nat) (h : i < sp.fields.length), Dx fs sp.fields[i].source = true := fun i h => by
  rw [Bf (by decide), ← Bool.not_eq_true, eZ] at e1
  cases hb : Dx fs sp.fields[i].source with
  | true => rfl
  | false => exact absurd ⟨i, h, by unfold oE; rw [List.getElem?_eq_getElem h]; simp [hb]⟩ e1
 unfold me
 rw [dB (by decide)]
 refine ed fun e2 => ?_
 have hp : f.part.length = sp.fields.length := by
  rw [Bf (by decide), bne_eq_false_iff_eq] at e2; omega
 rw [gu (L := fK f fs sp) (n := sp.fields.length) (fin := some (CZ f (Cl fs))) (c := CQ fs sp f) hs
  (fun k => by rw [fK, rB, iF, OY fs f hn, Pu hf (J5 hfs)])
  (fun k i hi => by
   obtain ⟨_, t2, _, t4⟩ := ux hn sp.fields[i].source
   obtain ⟨t5, t6⟩ := t4 (hl i hi)
   obtain ⟨_, u2, u3, u4⟩ := FA sp.fields[i].transform (Cq hfs t6)
   have hi' : i < f.part.length := by omega
   rw [fK, bg hi, iT, aU hi, bS, t2, bS, u2, bS, dB (by decide), aU hi', bS, Ld (hf.part.2 _ (List.getElem_mem hi')) u3, bS, gZ, az hi hs, bz]
   unfold CQ
   rw [List.getElem?_eq_getElem hi, List.getElem?_eq_getElem hi'])]
 rw [dM]
theorem NQ {m : aF} {f : ah} (hm : rx m) (hf : H7 f) : un m f = some (Av m f) := by
 unfold un Av
 rw [Rj _ hf.name, bS, dB (by decide), ← dM, ← bz, ← bz]
 refine ed fun _ => ?_
 have hj : ∀ x, x = Is m f → kI m f x = ee (er (Is m f) 3) (ee (match m.schemas[f.schema.toNat]?, m.specs[f.spec.toNat]? with | some fs, some sp => Az fs sp f | _, _ => 0) (some 0)) := by
  rintro x rfl
  unfold kI
  rw [dB (by decide)]
  refine ed fun e => ?_
  obtain ⟨fs, sp, h1, h2, h3, h4, h5, h6⟩ := JE ((Bf (by decide)).1 e)
  rw [h1, h2, h3, h4, bS, bS, M6 hf (hm.schemas.2 _ h5) (hm.specs.2 _ h6), dM]
 rw [kh, bS, kg hm.schemas.1]
 have hr : Is m f = Is m f := rfl
 conv at hr => rhs; unfold Is
 cases a : decide (0 ≤ f.schema ∧ f.schema ≤ (m.schemas.length : Int) - 1) with
 | false => rw [a] at hr; rw [Bool.not_false, iT]; exact hj true (by rw [hr]; rfl)
 | true =>
  rw [a] at hr
  rw [Bool.not_true, iF, kh, bS, kg hm.specs.1]
  cases b : decide (0 ≤ f.spec ∧ f.spec ≤ (m.specs.length : Int) - 1) with
  | false => rw [b] at hr; rw [Bool.not_false, iT]; exact hj true (by rw [hr]; rfl)
  | true =>
   rw [b] at hr
   rw [Bool.not_true, iF, kh, bS]
   cases c : decide (1 ≤ f.rows ∧ f.rows ≤ 2000) with
   | false => rw [c] at hr; rw [Bool.not_false, iT]; exact hj true (by rw [hr]; rfl)
   | true => rw [c] at hr; rw [Bool.not_true, iF]; exact hj _ (by rw [hr]; rfl)
theorem MS {m : aF} {f : ah} (hm : rx m) (hf : H7 f) : o5 m f = some (Av m f) := by
 unfold o5 Av
 rw [Q5 _ hf.name, bS, dB (by decide), ← dM, ← bz, ← bz]
 refine ed fun _ => ?_
 have hj : ∀ x, x = Is m f → gM m f x = ee (er (Is m f) 3) (ee (match m.schemas[f.schema.toNat]?, m.specs[f.spec.toNat]? with | some fs, some sp => Az fs sp f | _, _ => 0) (some 0)) := by
  rintro x rfl
  unfold gM
  rw [dB (by decide)]
  refine ed fun e => ?_
  obtain ⟨fs, sp, h1, h2, h3, h4, h5, h6⟩ := JE ((Bf (by decide)).1 e)
  rw [h1, h2, h3, h4, bS, bS, NO hf (hm.schemas.2 _ h5) (hm.specs.2 _ h6), dM]
 rw [mg, bS, kg hm.schemas.1]
 have hr : Is m f = Is m f := rfl
 conv at hr => rhs; unfold Is
 cases a : decide (0 ≤ f.schema ∧ f.schema ≤ (m.schemas.length : Int) - 1) with
 | false => rw [a] at hr; rw [Bool.not_false, iT]; exact hj true (by rw [hr]; rfl)
 | true =>
  rw [a] at hr
  rw [Bool.not_true, iF, mg, bS, kg hm.specs.1]
  cases b : decide (0 ≤ f.spec ∧ f.spec ≤ (m.specs.length : Int) - 1) with
  | false => rw [b] at hr; rw [Bool.not_false, iT]; exact hj true (by rw [hr]; rfl)
  | true =>
   rw [b] at hr
   rw [Bool.not_true, iF, mg, bS]
   cases c : decide (1 ≤ f.rows ∧ f.rows ≤ 2000) with
   | false => rw [c] at hr; rw [Bool.not_false, iT]; exact hj true (by rw [hr]; rfl)
   | true => rw [c] at hr; rw [Bool.not_true, iF]; exact hj _ (by rw [hr]; rfl)
theorem LU {m : aF} {f : ah} (hm : rx m) (hf : H7 f) (h : Av m f = 0) : KR f := by
 unfold Av at h
 rw [wB, wB] at h
 obtain ⟨_, h2, h3⟩ := h
 obtain ⟨fs, sp, _, _, g3, g4, g5, g6⟩ := JE ((Bf (by decide)).1 h2)
 rw [g3, g4] at h3
 simp only at h3
 unfold Az at h3
 rw [wB, wB, wB] at h3
 obtain ⟨e1, e2, e3, e4⟩ := h3
 have hfs := hm.schemas.2 _ g5
 have hn : fs.length < 1000000000 := by have := dV fs; omega
 refine ⟨fun v hv => ?_, Nk hf (J5 hfs) e4⟩
 have hp : f.part.length = sp.fields.length := by
  rw [Bf (by decide), bne_eq_false_iff_eq] at e2; omega
 obtain ⟨i, hi', rfl⟩ := List.mem_iff_getElem.1 hv
 have hi : i < sp.fields.length := by omega
 have hb : Dx fs sp.fields[i].source = true := by
  rw [Bf (by decide), ← Bool.not_eq_true, eZ] at e1
  cases hb : Dx fs sp.fields[i].source with
  | true => rfl
  | false => exact absurd ⟨i, hi, by unfold oE; rw [List.getElem?_eq_getElem hi]; simp [hb]⟩ e1
 obtain ⟨_, _, _, t4⟩ := ux hn sp.fields[i].source
 obtain ⟨t5, t6⟩ := t4 hb
 obtain ⟨_, _, u3, u4⟩ := FA sp.fields[i].transform (Cq hfs t6)
 have := Oq.1 e3 i (Nat.zero_le _) (by omega)
 unfold CQ at this
 rw [List.getElem?_eq_getElem hi, List.getElem?_eq_getElem hi'] at this
 simp only [wB] at this
 obtain ⟨k1, k2⟩ := u4 (by have := (Bf (by decide)).1 this.1; rwa [bne_eq_false_iff_eq] at this)
 exact At (hf.part.2 _ hv) u3 k1 k2 this.2
end Go.Proofs.YtikbfjpcmalmlaaGreatDoor
namespace Go.SX.Cal
open Go Go.Lib
theorem G8 : ∀ a : List UInt8, compareBytes a a = 0
 | [] => rfl
 | x :: a => by
  rw [compareBytes, if_neg (by simp [UInt8.lt_irrefl]), if_neg (by simp [UInt8.lt_irrefl])]
  exact G8 a
theorem Hl : ∀ a b : List UInt8, compareBytes a b = 0 → a = b
 | [], [], _ => rfl
 | [], _ :: _, h => by simp [compareBytes] at h
 | _ :: _, [], h => by simp [compareBytes] at h
 | x :: a, y :: b, h => by
  rw [compareBytes] at h
  split at h
  ·simp at h
  ·split at h
   ·simp at h
   ·rename_i h1 h2
    rw [Hl a b h, UInt8.le_antisymm (UInt8.not_lt.1 h2) (UInt8.not_lt.1 h1)]
theorem GR : ∀ a b : List UInt8, compareBytes a b = - compareBytes b a
 | [], [] => rfl
 | [], _ :: _ => rfl
 | _ :: _, [] => rfl
 | x :: a, y :: b => by
  rw [compareBytes, compareBytes]
  by_cases h1 : x < y
  ·rw [if_pos h1, if_neg (UInt8.lt_asymm h1), if_pos h1]
  ·rw [if_neg h1]
   by_cases h2 : y < x
   ·rw [if_pos h2, if_pos h2]; rfl
   ·rw [if_neg h2, if_neg h2, if_neg h1]; exact GR a b
theorem BE : ∀ a b c : List UInt8, compareBytes a b < 0 → compareBytes b c < 0 → compareBytes a c < 0
 | [], [], _, h, _ => by simp [compareBytes] at h
 | [], _ :: _, [], _, h => by simp [compareBytes] at h
 | [], _ :: _, _ :: _, _, _ => by simp [compareBytes]
 | _ :: _, [], _, h, _ => by simp [compareBytes] at h
 | _ :: _, _ :: _, [], _, h => by simp [compareBytes] at h
 | x :: a, y :: b, z :: c, h, k => by
  rw [compareBytes] at h k ⊢
  by_cases h1 : x < y
  ·by_cases h2 : y < z
   ·rw [if_pos (UInt8.lt_trans h1 h2)]; decide
   ·rw [if_neg h2] at k
    by_cases h3 : z < y
    ·rw [if_pos h3] at k; simp at k
    ·have : y = z := UInt8.le_antisymm (UInt8.not_lt.1 h3) (UInt8.not_lt.1 h2)
     subst this
     rw [if_pos h1]; decide
  ·rw [if_neg h1] at h
   by_cases h4 : y < x
   ·rw [if_pos h4] at h; simp at h
   ·rw [if_neg h4] at h
    have : x = y := UInt8.le_antisymm (UInt8.not_lt.1 h4) (UInt8.not_lt.1 h1)
    subst this
    by_cases h2 : x < z
    ·rw [if_pos h2]; decide
    ·rw [if_neg h2] at k ⊢
     by_cases h3 : z < x
     ·rw [if_pos h3] at k; simp at k
     ·rw [if_neg h3] at k ⊢
      exact BE a b c h k
def rU (a b : ByteArray) : Int := compareBytes a.data.toList b.data.toList
theorem pO (a : ByteArray) : rU a a = 0 := G8 _
theorem zA {a b : ByteArray} (h : rU a b = 0) : a = b := by
 have := Hl _ _ h
 exact ByteArray.ext (Array.toList_inj.1 this)
theorem u7 {a b c : ByteArray} (h : rU a b < 0) (k : rU b c < 0) : rU a c < 0 := BE _ _ _ h k
end Go.SX.Cal
namespace Go.Proofs.YtikbfjpcmalmlaaGreatDoor
open Go Go.SX Go.SX.Cal
theorem E1 {n : Nat} {L : Nat → Int → Option Int} {fin : Option Int} {c : Nat → Int} (h0 : (∀ j, j < n → c j = 0) → ∀ k, L (k + 1) (n : Int) = fin)
  (h1 : ∀ k i, i < n → (∀ j, j < i → c j = 0) → L (k + 1) (i : Int) = ee (c i) (L k ((i + 1 : Nat) : Int))) :
  ∀ m k i, i + m = n → m < k → (∀ j, j < i → c j = 0) → L k (i : Int) = ee (fe c m i) fin
 | 0, k, i, hi, hk, hp => by
  obtain ⟨k, rfl⟩ := fu hk
  have : i = n := by omega
  subst this
  rw [h0 hp]; rfl
 | m + 1, k, i, hi, hk, hp => by
  obtain ⟨k, rfl⟩ := fu hk
  rw [h1 k i (by omega) hp, fe, ← bz]
  refine ed fun e => ?_
  exact E1 h0 h1 m k (i + 1) (by omega) (by omega) fun j hj => by
   by_cases h : j = i
   ·subst h; exact e
   ·exact hp j (by omega)
theorem GH {n : Nat} {L : Nat → Int → Option Int} {fin : Option Int} {c : Nat → Int} (hn : n < 1000000000) (h0 : (∀ j, j < n → c j = 0) → ∀ k, L (k + 1) (n : Int) = fin)
  (h1 : ∀ k i, i < n → (∀ j, j < i → c j = 0) → L (k + 1) (i : Int) = ee (c i) (L k ((i + 1 : Nat) : Int))) : L aY (0 : Int) = ee (fe c n 0) fin :=
 E1 h0 h1 n aY 0 (by omega) (by rw [bc]; omega) fun j hj => by omega
theorem D5 {n lo : Nat} {L : Nat → Int → Option Int} {fin : Option Int} {c : Nat → Int} (h0 : ∀ k, L (k + 1) (n : Int) = fin) (h1 : ∀ k i, lo ≤ i → i < n → L (k + 1) (i : Int) = ee (c i) (L k ((i + 1 : Nat) : Int))) :
  ∀ m k i, i + m = n → m < k → lo ≤ i → L k (i : Int) = ee (fe c m i) fin
 | 0, k, i, hi, hk, _ => by
  obtain ⟨k, rfl⟩ := fu hk
  have : i = n := by omega
  subst this
  rw [h0]; rfl
 | m + 1, k, i, hi, hk, hl => by
  obtain ⟨k, rfl⟩ := fu hk
  rw [h1 k i hl (by omega), D5 h0 h1 m k (i + 1) (by omega) (by omega) (by omega), bz]; rfl
def B6 (l : List Int) (j : Nat) : Bool := match l[j]?, l[j - 1]? with | some a, some b => decide (a ≤ b) | _, _ => false
def I7 (l : List Int) : Bool := decide (∃ j, j < l.length - 1 ∧ B6 l (1 + j) = true)
def yB (l : List Int) : Bool := decide (0 < l.length) && !I7 l
theorem Fa {l : List Int} (hn : l.length < 1000000000) {L : Nat → Int → Option Bool} (hz : l.length = 0 → ∀ k, L (k + 1) 1 = some false) (h0 : 0 < l.length → ∀ k, L (k + 1) (l.length : Int) = some true)
  (h1 : ∀ k i, 0 < i → i < l.length → L (k + 1) (i : Int) = al (B6 l i) (some false) (L k ((i + 1 : Nat) : Int))) : L aY (1 : Int) = some (yB l) := by
 unfold yB
 by_cases hl : l.length = 0
 ·rw [Ad, hz hl]; simp [hl]
 ·have key : ∀ m k i, i + m = l.length → 0 < i → m < k → L k (i : Int) = some (!decide (∃ j, j < m ∧ B6 l (i + j) = true)) := by
   intro m
   induction m with
   | zero =>
    intro k i hi hp hk
    obtain ⟨k, rfl⟩ := fu hk
    have : i = l.length := by omega
    rw [this, h0 (by omega)]; simp
   | succ m ih =>
    intro k i hi hp hk
    obtain ⟨k, rfl⟩ := fu hk
    rw [h1 k i hp (by omega)]
    cases hd : B6 l i with
    | true => rw [iT, decide_eq_true ⟨0, by omega, by simpa using hd⟩]; rfl
    | false =>
     rw [iF, ih k (i + 1) (by omega) (by omega) (by omega)]
     congr 2
     refine decide_eq_decide.2 ⟨fun ⟨j, a, b⟩ => ⟨j + 1, by omega, by rw [← b]; congr 1; omega⟩, fun ⟨j, a, b⟩ => ?_⟩
     cases j with
     | zero => rw [Nat.add_zero, hd] at b; cases b
     | succ j => exact ⟨j, by omega, by rw [← b]; congr 1; omega⟩
  have := key (l.length - 1) aY 1 (by omega) (by omega) (by rw [bc]; omega)
  have h2 : L aY (1 : Int) = _ := this
  rw [h2, decide_eq_true (show 0 < l.length by omega), Bool.true_and]
  rfl
theorem AT {l : List Int} {i : Nat} (hi : i < l.length) (h0 : 0 < i) : B6 l i = decide (l[i] ≤ l[i - 1]) := by
 unfold B6
 rw [List.getElem?_eq_getElem hi, List.getElem?_eq_getElem (show i - 1 < l.length by omega)]
theorem Kc {l : List Int} (hn : l.length < 1000000000) : ng l = some (yB l) := by
 unfold ng
 exact Fa hn (L := gd l)
  (fun h k => by
   rw [gd, h]
   show some (decide ((0 : Int) < (l.length : Int))) = _
   rw [h]; rfl)
  (fun h k => by
   rw [gd, rB, iF]
   show some (decide ((0 : Int) < (l.length : Int))) = _
   rw [decide_eq_true (by omega)])
  (fun k i h0 hi => by rw [gd, bg hi, iT, aU hi, bS, og hi h0 hn, bS, AT hi h0, az hi hn])
theorem N7 {l : List Int} (hn : l.length < 1000000000) : lP l = some (yB l) := by
 unfold lP
 exact Fa hn (L := eg l)
  (fun h k => by
   rw [eg, h]
   show some (decide ((0 : Int) < (l.length : Int))) = _
   rw [h]; rfl)
  (fun h k => by
   rw [eg, rB, iF]
   show some (decide ((0 : Int) < (l.length : Int))) = _
   rw [decide_eq_true (by omega)])
  (fun k i h0 hi => by rw [eg, bg hi, iT, aU hi, bS, og hi h0 hn, bS, AT hi h0, az hi hn])
def Iw (fs : List ac) (id : Int) : Bool := Dx fs id && AG (Fg fs id)
theorem L3 {fs : List ac} (hn : fs.length < 1000000000) (id : Int) : ∃ t, nS fs id = some (t, Iw fs id) ∧ (Iw fs id = true → t = (Fg fs id).type ∧ Fg fs id ∈ fs) := by
 obtain ⟨t1, _, t3, t4⟩ := ux hn id
 unfold nS
 rw [t1, bS, t3]
 unfold Iw
 cases hb : Dx fs id with
 | false => exact ⟨⟨0, 0, []⟩, rfl, fun h => by cases h⟩
 | true =>
  obtain ⟨t5, t6⟩ := t4 hb
  rw [Bool.not_true, iF, t5, bS, DP, bS]
  unfold ns
  show ∃ t, al (!AG (Fg fs id)) _ _ = _ ∧ _
  cases hf : AG (Fg fs id) with
  | false => exact ⟨⟨0, 0, []⟩, rfl, fun h => by cases h⟩
  | true => rw [Bool.not_true, iF, t5, bS]; exact ⟨_, rfl, fun _ => ⟨rfl, t6⟩⟩
theorem ON {fs : List ac} (hn : fs.length < 1000000000) (id : Int) : pk fs id = some (Fg fs id, Iw fs id) := by
 obtain ⟨_, t2, _, _⟩ := ux hn id
 unfold pk Iw
 rw [t2, bS]
 show al (Dx fs id) _ _ = _
 cases hb : Dx fs id with
 | false => rfl
 | true => rw [iT]; show aB (gn (Fg fs id).type.kind) _ = _; rw [Cg, bS]; rfl
theorem Gy : ∀ {l : List af}, (∀ v ∈ l, Lv v) → Ord.wfL l ∧ mt l ≤ 257 * l.length
 | [], _ => by simp [Ord.wfL, mt]
 | x :: l, h => by
  obtain ⟨a, b⟩ := Gy (l := l) fun v hv => h v (by simp [hv])
  have hx := h x (by simp)
  have hs := hx.size
  simp only [Ord.wfL, mt, List.length_cons]
  exact ⟨⟨hx.wf, a⟩, by omega⟩
theorem NI {a b : List af} (ha : ∀ v ∈ a, Lv v) (hb : ∀ v ∈ b, Lv v) (hn : a.length < 1000000000) : mh a b = some (Ord.cmpL a b) := by
 unfold mh
 rw [Ad, ay]
 have hc : ∀ x ∈ a, ∀ y ∈ b, eC 1152921504606846975 x y = some (Ord.cmpV x y) := fun x hx y hy => by
  have h := (ha x hx).size
  exact Ord.compare_eq 257 x y _ h (by omega) (ha x hx).wf (hb y hy).wf (by omega)
 have := Ord.cmpf_loop (eC 1152921504606846975) a b (by omega) hc aY 0 (Nat.zero_le _) (Nat.zero_le _) (by rw [bc]; omega)
 rw [show ((0 : Nat) : Int) = 0 from rfl, List.drop_zero, List.drop_zero] at this
 rw [this, bS]
theorem N2 {a b : List af} (ha : ∀ v ∈ a, Lv v) (hb : ∀ v ∈ b, Lv v) (hn : a.length < 1000000000) : nh a b = some (Ord.cmpL a b) := by
 unfold nh
 obtain ⟨a1, a2⟩ := Gy ha
 obtain ⟨b1, b2⟩ := Gy hb
 have hw : ∀ {l : List af}, Ord.wfL l → Ord.wfV ⟨6, 0, 0, ByteArray.empty, l⟩ := fun h => by
  simp only [Ord.wfV, Ord.i64]
  exact ⟨⟨by omega, by omega⟩, ⟨by omega, by omega⟩, ⟨by omega, by omega⟩, h⟩
 have hz : eu ⟨6, 0, 0, ByteArray.empty, a⟩ = mt a + 1 := by simp only [eu]; rw [FV]; omega
 rw [Ord.rcompareV_eq (mt a + 1) _ _ aY (by rw [hz]; exact Nat.le_refl _) (by rw [hz]; omega) (hw a1) (hw b1) (by rw [bc]; omega), bS]
 congr 1
 simp only [Ord.cmpV, Ord.c3_self, Ord.or_zero]
 rw [if_neg (by decide), show Ord.cS ByteArray.empty ByteArray.empty = 0 from Pn.2 rfl, Ord.or_zero]
structure MA (ids : List Int) (keys : List (List af)) : Prop where
 nid : ids.length < 1000000000
 nkey : keys.length < 1000000000
 key : ∀ k ∈ keys, k.length < 1000000000 ∧ ∀ v ∈ k, eu v < 1000000000
noncomputable def EQ (fs : List ac) (ids : List Int) (k : List af) (j : Nat) : Int := match ids[j]?, k[j]? with
 | some id, some v => ck (Fg fs id).type v
 | _, _ => 0
noncomputable def Gw (fs : List ac) (ids : List Int) (keys : List (List af)) (j : Nat) : Int := match keys[j]? with
 | some k => mA (er ((k.length : Int) != (ids.length : Int)) 1) (mA (fe (EQ fs ids k) ids.length 0) (er (decide (0 < j) && (match keys[j - 1]? with | some p => decide (0 ≤ Ord.cmpL p k) | none => false)) 1))
 | none => 0
def yx (fs : List ac) (ids : List Int) (j : Nat) : Bool := match ids[j]? with | some id => !Iw fs id | none => false
noncomputable def Bi (fs : List ac) (ids : List Int) (keys : List (List af)) : Int :=
 mA (er ((ids.length : Int) == 0) 9) (mA (er (mT (yx fs ids) ids.length) 9) (mA (er (I7 ids) 1) (mA (er (decide ((200 : Int) < (keys.length : Int))) 7) (mA (er ((keys.length : Int) == 0) 9) (fe (Gw fs ids keys) keys.length 0)))))
theorem MF {fs : List ac} {ids : List Int} (h : er (mT (yx fs ids) ids.length) 9 = 0) {i : Nat} (hi : i < ids.length) : Iw fs ids[i] = true := by
 rw [Bf (by decide), ← Bool.not_eq_true, eZ] at h
 cases hb : Iw fs ids[i] with
 | true => rfl
 | false => exact absurd ⟨i, hi, by unfold yx; rw [List.getElem?_eq_getElem hi]; simp [hb]⟩ h
theorem CS {fs : List ac} {ids : List Int} {keys : List (List af)} (hz : MA ids keys) (hfs : eG fs < 1000000000 - 1) (hl : ∀ (i : Nat) (h : i < ids.length), Iw fs ids[i] = true) {j : Nat} (hj : j < keys.length)
  (h1 : er ((keys[j].length : Int) != (ids.length : Int)) 1 = 0) (h2 : fe (EQ fs ids keys[j]) ids.length 0 = 0) : ∀ v ∈ keys[j], Lv v := by
 have hn : fs.length < 1000000000 := by have := dV fs; omega
 have hp : keys[j].length = ids.length := by rw [Bf (by decide), bne_eq_false_iff_eq] at h1; omega
 intro v hv
 obtain ⟨i, hi, rfl⟩ := List.mem_iff_getElem.1 hv
 have hi' : i < ids.length := by omega
 have := Oq.1 h2 i (Nat.zero_le _) (by omega)
 unfold EQ at this
 rw [List.getElem?_eq_getElem hi', List.getElem?_eq_getElem hi] at this
 simp only at this
 obtain ⟨t, _, t2⟩ := L3 hn ids[i]
 obtain ⟨_, t3⟩ := t2 (hl i hi')
 have hlf := hl i hi'
 unfold Iw AG at hlf
 simp only [Bool.and_eq_true, decide_eq_true_eq] at hlf
 exact At ((hz.key _ (List.getElem_mem hj)).2 _ hv) (Cq hfs t3) hlf.2.1 hlf.2.2 this
theorem uh {fs : List ac} {ids : List Int} {keys : List (List af)} {j : Nat} (hj : j < keys.length) : Gw fs ids keys j = mA (er ((keys[j].length : Int) != (ids.length : Int)) 1) (mA (fe (EQ fs ids keys[j]) ids.length 0) (er (decide (0 < j) && (match keys[j - 1]? with | some p => decide (0 ≤ Ord.cmpL p keys[j]) | none => false)) 1)) := by
 unfold Gw
 rw [List.getElem?_eq_getElem hj]
theorem KY {d : cp} {fs : List ac} (hz : MA d.ids d.keys) (hfs : eG fs < 1000000000 - 1) (hl : ∀ (i : Nat) (h : i < d.ids.length), Iw fs d.ids[i] = true) : fx d true fs aY (0 : Int) = some (fe (Gw fs d.ids d.keys) d.keys.length 0) := by
 have hn : fs.length < 1000000000 := by have := dV fs; omega
 rw [GH (L := fx d true fs) (n := d.keys.length) (fin := some 0) (c := Gw fs d.ids d.keys) hz.nkey
  (fun _ k => by rw [fx, rB, iF]; rfl)
  (fun k i hi hp => by
   obtain ⟨z1, z2⟩ := hz.key _ (List.getElem_mem hi)
   rw [fx, bg hi, iT, aU hi, bS, dB (by decide), uh hi, ← bz, ← bz]
   refine ed fun e1 => ?_
   have hp' : d.keys[i].length = d.ids.length := by rw [Bf (by decide), bne_eq_false_iff_eq] at e1; omega
   rw [gu (L := lw (fx d true fs k) d true fs (i : Int) d.keys[i]) (n := d.ids.length) (fin := sU (fx d true fs k) d true (i : Int) d.keys[i]) (c := EQ fs d.ids d.keys[i]) hz.nid
    (fun q => by rw [lw, hp', rB, iF])
    (fun q j hj => by
     have hj' : j < d.keys[i].length := by omega
     obtain ⟨t, u1, u2⟩ := L3 hn d.ids[j]
     obtain ⟨rfl, u3⟩ := u2 (hl j hj)
     rw [lw, bg hj', iT, aU hj', bS, aU hj, bS, u1, bS]
     show aB (iU (Fg fs d.ids[j]).type _) _ = _
     rw [Ke (z2 _ (List.getElem_mem hj')) (Cq hfs u3), bS, gZ, az hj hz.nid]
     unfold EQ
     rw [List.getElem?_eq_getElem hj, List.getElem?_eq_getElem hj'])]
   refine ed fun e2 => ?_
   have hk := CS hz hfs hl hi e1 e2
   unfold sU qx
   rw [iT, az hi hz.nkey]
   by_cases h0 : 0 < i
   ·have hi1 : i - 1 < d.keys.length := by omega
    have hprev := hp (i - 1) (by omega)
    rw [uh hi1, wB, wB] at hprev
    have hk' := CS hz hfs hl hi1 hprev.1 hprev.2.1
    rw [decide_eq_true (show (0 : Int) < (i : Int) by omega), iT, og hi h0 hz.nkey, bS, NI hk' hk (hz.key _ (List.getElem_mem hi1)).1, bS, dB (by decide), decide_eq_true h0, List.getElem?_eq_getElem hi1, Bool.true_and]
   ·rw [decide_eq_false (show ¬ (0 : Int) < (i : Int) by omega), decide_eq_false h0]; rfl)]
 exact dM _
theorem IR {ids : List Int} {keys : List (List af)} {fs : List ac} (hz : MA ids keys) (hfs : eG fs < 1000000000 - 1) (hl : ∀ (i : Nat) (h : i < ids.length), Iw fs ids[i] = true) : cx fs ids keys true aY (0 : Int) = some (fe (Gw fs ids keys) keys.length 0) := by
 have hn : fs.length < 1000000000 := by have := dV fs; omega
 rw [GH (L := cx fs ids keys true) (n := keys.length) (fin := some 0) (c := Gw fs ids keys) hz.nkey
  (fun _ k => by rw [cx, rB, iF]; rfl)
  (fun k i hi hp => by
   obtain ⟨z1, z2⟩ := hz.key _ (List.getElem_mem hi)
   rw [cx, bg hi, iT, aU hi, bS, dB (by decide), uh hi, ← bz, ← bz]
   refine ed fun e1 => ?_
   have hp' : keys[i].length = ids.length := by rw [Bf (by decide), bne_eq_false_iff_eq] at e1; omega
   rw [gu (L := fI (cx fs ids keys true k) fs ids keys true (i : Int) keys[i]) (n := ids.length) (fin := md (cx fs ids keys true k) keys true (i : Int) keys[i]) (c := EQ fs ids keys[i]) hz.nid
    (fun q => by rw [fI, rB, iF])
    (fun q j hj => by
     have hj' : j < keys[i].length := by omega
     obtain ⟨t, u1, u2⟩ := L3 hn ids[j]
     obtain ⟨rfl, u3⟩ := u2 (hl j hj)
     rw [fI, bg hj, iT, aU hj, bS, ON hn, bS, aU hj', bS]
     show aB (lz (Fg fs ids[j]).type _) _ = _
     rw [Ld (z2 _ (List.getElem_mem hj')) (Cq hfs u3), bS, gZ, az hj hz.nid]
     unfold EQ
     rw [List.getElem?_eq_getElem hj, List.getElem?_eq_getElem hj'])]
   refine ed fun e2 => ?_
   have hk := CS hz hfs hl hi e1 e2
   unfold md kq
   rw [iT, az hi hz.nkey]
   by_cases h0 : 0 < i
   ·have hi1 : i - 1 < keys.length := by omega
    have hprev := hp (i - 1) (by omega)
    rw [uh hi1, wB, wB] at hprev
    have hk' := CS hz hfs hl hi1 hprev.1 hprev.2.1
    rw [decide_eq_true (show (0 : Int) < (i : Int) by omega), iT, og hi h0 hz.nkey, bS, N2 hk' hk (hz.key _ (List.getElem_mem hi1)).1, bS, dB (by decide), decide_eq_true h0, List.getElem?_eq_getElem hi1, Bool.true_and]
   ·rw [decide_eq_false (show ¬ (0 : Int) < (i : Int) by omega), decide_eq_false h0]; rfl)]
 exact dM _
theorem Lw {fs : List ac} {ids : List Int} (hn : fs.length < 1000000000) (hs : ids.length < 1000000000) : cj ids fs = some (mT (yx fs ids) ids.length, fs) := by
 unfold cj eU
 obtain ⟨r, r1, r2⟩ := yF (z := fs) (L := fun k i => be ids k fs i) (n := ids.length) (p := yx fs ids) hs
  (fun k => by rw [be, rB, iF]; rfl)
  (fun k i hi => by
   obtain ⟨t, t1, _⟩ := L3 hn ids[i]
   rw [be, bg hi, iT, aU hi, bS, xR, t1, bS, bS, az hi hs]
   unfold yx
   rw [List.getElem?_eq_getElem hi])
 have r1 : be ids aY fs (0 : Int) = some (r, fs) := r1
 rw [r1, bS]
 show some (decide (0 ≤ r), fs) = _
 rw [r2]
theorem LC {ids : List Int} (h : ids.length ≠ 0) : er (!yB ids) 1 = er (I7 ids) 1 := by
 unfold yB; rw [decide_eq_true (show 0 < ids.length by omega), Bool.true_and, Bool.not_not]
theorem Pi {d : cp} {fs : List ac} (hz : MA d.ids d.keys) (hfs : eG fs < 1000000000 - 1) :
  (al ((d.ids.length : Int) == (0 : Int)) (mM d true fs true) (aB (cj d.ids fs) fun r2 => mM d true r2.2 r2.1)) = some (Bi fs d.ids d.keys) := by
 have hn : fs.length < 1000000000 := by have := dV fs; omega
 unfold Bi
 by_cases h0 : d.ids.length = 0
 ·rw [show ((d.ids.length : Int) == 0) = true by simp [h0], iT]; rfl
 ·rw [show ((d.ids.length : Int) == 0) = false from beq_eq_false_iff_ne.2 (by omega), iF, Eg, DR, Lw hn hz.nid, bS]
  show mM d true fs (mT (yx fs d.ids) d.ids.length) = _
  unfold mM
  rw [dB (by decide), Kc hz.nid, bS, dB (by decide), LC h0, dB (by decide), dB (by decide), ← dM, ← bz, ← bz, ← bz, ← bz]
  refine ed fun e => ed fun _ => ed fun _ => ed fun _ => ?_
  rw [KY hz hfs fun i h => MF e h, dM]
theorem PM {ids : List Int} {keys : List (List af)} {fs : List ac} (hz : MA ids keys) (hfs : eG fs < 1000000000 - 1) : oT fs ids keys true = some (Bi fs ids keys) := by
 have hn : fs.length < 1000000000 := by have := dV fs; omega
 unfold oT Bi
 rw [dB (by decide), ← dM, ← bz, ← bz]
 refine ed fun h0 => ?_
 have h0 : ids.length ≠ 0 := by rw [Bf (by decide)] at h0; simpa using h0
 rw [gu (L := fJ fs ids keys true) (n := ids.length) (fin := mq fs ids keys true) (c := fun j => er (yx fs ids j) 9) hz.nid
  (fun k => by rw [fJ, rB, iF])
  (fun k i hi => by
   rw [fJ, bg hi, iT, aU hi, bS, ON hn, bS, dB (by decide), az hi hz.nid]
   unfold yx
   rw [List.getElem?_eq_getElem hi])]
 rw [Ah (by decide)]
 refine ed fun e => ?_
 unfold mq
 have h2 := D5 (lo := 1) (L := fw fs ids keys true) (n := ids.length) (fin := mi fs ids keys true) (c := fun j => er (B6 ids j) 1)
  (fun k => by rw [fw, rB, iF])
  (fun k i hl hi => by rw [fw, bg hi, iT, aU hi, bS, og hi (by omega) hz.nid, bS, ← AT hi (by omega), dB (by decide), az hi hz.nid])
  (ids.length - 1) aY 1 (by omega) (by rw [bc]; have := hz.nid; omega) (Nat.le_refl _)
 rw [show ((1 : Nat) : Int) = 1 from rfl, Kh (by decide)] at h2
 rw [h2, show decide (∃ j, j < ids.length - 1 ∧ B6 ids (1 + j) = true) = I7 ids from rfl, ← bz]
 refine ed fun _ => ?_
 unfold mi
 rw [dB (by decide), dB (by decide), IR hz hfs fun i h => MF e h, ← bz, ← bz, dM]
end Go.Proofs.YtikbfjpcmalmlaaGreatDoor
namespace Go.Proofs.YtikbfjpcmalmlaaGreatDoor
open Go Go.SX Go.SX.Cal
theorem Mn : ∀ a b : List UInt8, Op.bytesLess a b = decide (Lib.compareBytes a b < 0)
 | [], [] => rfl
 | [], _ :: _ => rfl
 | _ :: _, [] => rfl
 | x :: a, y :: b => by
  rw [Op.bytesLess, Lib.compareBytes, Mn a b]
  by_cases h1 : x < y
  ·rw [if_pos h1]; simp [h1]
  ·rw [if_neg h1]
   by_cases h2 : y < x
   ·have : (x == y) = false := by
     rw [beq_eq_false_iff_ne]; intro e; subst e; exact UInt8.lt_irrefl _ h2
    rw [if_pos h2]; simp [h1, this]
   ·have : x = y := UInt8.le_antisymm (UInt8.not_lt.1 h2) (UInt8.not_lt.1 h1)
    subst this
    rw [if_neg h2]; simp [h1]
theorem Ip (x n : ByteArray) : (x.toList == n.toList) = decide (x = n) := by
 rw [ByteArray.toList_eq, ByteArray.toList_eq, Bool.eq_iff_iff, beq_iff_eq, decide_eq_true_iff]
 exact ⟨fun h => ByteArray.ext (Array.toList_inj.1 h), fun h => by rw [h]⟩
def DQ (a b : ByteArray) : Bool := Op.bytesLess a.toList b.toList || a.toList == b.toList
theorem HA {a b : ByteArray} (h : DQ a b = false) : rU b a < 0 := by
 unfold DQ at h
 rw [Bool.or_eq_false_iff, Ip, ByteArray.toList_eq, ByteArray.toList_eq, Mn] at h
 obtain ⟨h1, h2⟩ := h
 have h1 : ¬ rU a b < 0 := by simpa [rU] using h1
 have h2 : a ≠ b := by simpa using h2
 have h3 : rU a b = -rU b a := GR _ _
 have h4 : rU b a ≠ 0 := fun h => h2 (zA h).symm
 omega
def oB (fs : List ah) (n : ByteArray) : Option ah := fs.find? fun f => decide (f.name = n)
def Oj : ah := ⟨ByteArray.empty, 0, 0, [], 0, 0, []⟩
theorem Cs {s : au} (hn : s.files.length < 1000000000) (n : ByteArray) : tH s n = some ((oB s.files n).getD Oj, (oB s.files n).isSome) := by
 have key : ∀ (m k i : Nat), i + m = s.files.length → m < k → ku s n k (i : Int) = some ((oB (s.files.drop i) n).getD Oj, (oB (s.files.drop i) n).isSome) := by
  intro m
  induction m with
  | zero =>
   intro k i hi hk
   obtain ⟨k, rfl⟩ := fu hk
   rw [ku, B8 (by omega), iF, List.drop_of_length_le (by omega)]; rfl
  | succ m ih =>
   intro k i hi hk
   obtain ⟨k, rfl⟩ := fu hk
   have h1 : i < s.files.length := by omega
   rw [ku, bg h1, iT, aU h1, bS, Ip, AW h1]
   unfold oB
   rw [List.find?_cons]
   cases hb : decide (s.files[i].name = n) with
   | true => rfl
   | false => rw [iF, az h1 hn]; exact ih k (i + 1) (by omega) (by omega)
 have := key s.files.length aY 0 (by omega) (by rw [bc]; omega)
 unfold tH
 rw [show ((0 : Nat) : Int) = 0 from rfl] at this
 rw [this, List.drop_zero]
def Ak (fs : List ah) : Prop := ∀ (i j : Nat) (hj : j < fs.length) (hij : i < j), rU (fs[i]'(by omega)).name fs[j].name < 0
theorem u7 {a b c : ByteArray} (h : rU a b < 0) (k : rU b c < 0) : rU a c < 0 := BE _ _ _ h k
theorem Je {fs : List ah} (h : ∀ (j : Nat) (hj : j < fs.length), 0 < j → rU (fs[j - 1]'(by omega)).name fs[j].name < 0) : Ak fs := by
 intro i j
 induction j with
 | zero => intro hj hij; omega
 | succ j ih =>
  intro hj hij
  have h1 := h (j + 1) hj (by omega)
  simp only [Nat.add_sub_cancel] at h1
  by_cases e : i = j
  ·subst e; exact h1
  ·exact u7 (ih (by omega) (by omega)) h1
theorem A2 {fs : List ah} (hs : Ak fs) {i : Nat} (hi : i < fs.length) : oB fs fs[i].name = some fs[i] := by
 unfold oB
 rw [List.find?_eq_some_iff_getElem]
 refine ⟨by simp, i, hi, rfl, fun j hj => ?_⟩
 have := hs j i hi hj
 simp only [Bool.not_eq_true', decide_eq_false_iff_not]
 intro e
 rw [e, pO] at this
 omega
theorem Ba {fs : List ah} {n : ByteArray} (h : ∀ (j : Nat) (hj : j < fs.length), fs[j].name ≠ n) : oB fs n = none := by
 unfold oB
 rw [List.find?_eq_none]
 intro f hf
 obtain ⟨i, hi, rfl⟩ := List.mem_iff_getElem.1 hf
 simpa using h i hi
theorem QP (x : Int) : IntKind.u64.wrap x = x % 18446744073709551616 := by
 unfold IntKind.wrap; simp [IntKind.bits, IntKind.signed]
theorem Px {fs : List ah} (hs : Ak fs) (hn : fs.length < 1000000000) (n : ByteArray) : ∀ (m k i j : Nat), j - i = m → m < k → i ≤ j → j ≤ fs.length → (∀ (q : Nat) (hq : q < fs.length), q < i → rU fs[q].name n < 0) → (∀ (q : Nat) (hq : q < fs.length), j ≤ q → ¬ rU fs[q].name n < 0) →
  ∃ r b, aq fs n k (i : Int) (j : Int) = some (r, b) ∧ b = (oB fs n).isSome ∧ (b = true → at? fs r = oB fs n) := by
 intro m
 induction m using Nat.strongRecOn with
 | ind m ih =>
  intro k i j hm hk hij hj hlo hhi
  obtain ⟨k, rfl⟩ := fu hk
  rw [aq]
  by_cases h : i < j
  ·have hh : (i + j) / 2 < fs.length := by omega
   have e1 : ((IntKind.u64.wrap (IntKind.i64.wrap ((i : Int) + (j : Int)))).fdiv (2 ^ (min (1 : Int).toNat (IntKind.u64).bits))) = (((i + j) / 2 : Nat) : Int) := by
    rw [we (by omega) (by omega), QP, show ((i : Int) + (j : Int)) % 18446744073709551616 = ((i + j : Nat) : Int) by omega]
    show ((i + j : Nat) : Int).fdiv (2 ^ 1) = _
    rw [Int.fdiv_eq_ediv_of_nonneg _ (by decide)]
    omega
   rw [bg h, iT, e1, bS, we (x := (((i + j) / 2 : Nat) : Int)) (by omega) (by omega), aU hh, bS]
   unfold o6 strings_Compare
   rw [bS, bS]
   show ∃ r b, al (decide (rU fs[(i + j) / 2].name n < 0)) _ _ = _ ∧ _
   by_cases hc : rU fs[(i + j) / 2].name n < 0
   ·rw [decide_eq_true hc, iT, we (x := (((i + j) / 2 : Nat) : Int) + 1) (by omega) (by omega), show (((i + j) / 2 : Nat) : Int) + 1 = (((i + j) / 2 + 1 : Nat) : Int) by omega]
    refine ih (j - ((i + j) / 2 + 1)) (by omega) k _ j rfl (by omega) (by omega) hj (fun q hq hqi => ?_) hhi
    by_cases e : q = (i + j) / 2
    ·subst e; exact hc
    ·exact u7 (hs q _ hh (by omega)) hc
   ·rw [decide_eq_false hc, iF]
    refine ih ((i + j) / 2 - i) (by omega) k i _ (by omega) (by omega) (by omega) (by omega) hlo (fun q hq hqj hlt => ?_)
    by_cases e : q = (i + j) / 2
    ·subst e; exact hc hlt
    ·exact hc (u7 (hs _ q hq (by omega)) hlt)
  ·have hi : i = j := by omega
   clear ih
   subst hi
   rw [B8 (by omega), iF]
   unfold bI bm o6 strings_Compare
   by_cases hil : i < fs.length
   ·rw [bg hil, iT, aU hil, bS, bS, bS]
    show ∃ r b, some ((i : Int), (rU fs[i].name n == 0)) = some (r, b) ∧ _
    refine ⟨_, _, rfl, ?_, fun hb => ?_⟩
    ·by_cases hz : rU fs[i].name n = 0
     ·have := zA hz
      rw [← this, A2 hs hil, pO]; rfl
     ·rw [beq_eq_false_iff_ne.2 hz, Ba]
      ·rfl
      ·intro q hq e
       rcases Nat.lt_trichotomy q i with h1 | h1 | h1
       ·have := hlo q hq h1; rw [e, pO] at this; omega
       ·subst h1; exact hz (by rw [e, pO])
       ·have := hs i q hq h1
        rw [e] at this
        exact hhi i hil (Nat.le_refl _) this
    ·have hz : rU fs[i].name n = 0 := by simpa using hb
     have := zA hz
     rw [← this, A2 hs hil, aU hil]
   ·rw [B8 hil, iF]
    refine ⟨_, _, rfl, ?_, fun h => by cases h⟩
    rw [Ba]
    ·rfl
    ·intro q hq e
     have := hlo q hq (by omega)
     rw [e, pO] at this; omega
theorem Nm {s : au} (hs : Ak s.files) (hn : s.files.length < 1000000000) (n : ByteArray) : uk s n = some ((oB s.files n).getD Oj, (oB s.files n).isSome) := by
 unfold uk bN
 obtain ⟨r, b, h1, h2, h3⟩ := Px hs hn n s.files.length aY 0 s.files.length (by omega) (by rw [bc]; omega) (Nat.zero_le _) (Nat.le_refl _) (fun q hq h => by omega) (fun q hq h => by omega)
 have h1 : aq s.files n aY (0 : Int) (s.files.length : Int) = _ := h1
 rw [h1, bS]
 show al (!b) _ (aB (at? s.files r) _) = _
 cases hb : oB s.files n with
 | none =>
  rw [hb] at h2
  rw [h2]; rfl
 | some f =>
  rw [hb] at h2 h3
  subst h2
  rw [h3 rfl]; rfl
noncomputable def La (m : aF) (s : au) (j : Nat) : Int := match s.files[j]? with
 | some f => mA (Av m f) (mA (er (decide (s.seq < f.seq) || decide (s.schema < f.schema)) 3) (er (decide (0 < j) && (match s.files[j - 1]? with | some p => DQ f.name p.name | none => false)) 1))
 | none => 0
theorem LY {m : aF} {s : au} (hm : rx m) (hs : G9 s) : qI m s = some (fe (La m s) s.files.length 0) := by
 unfold qI
 rw [gu (L := dH m s) (n := s.files.length) (fin := some 0) (c := La m s) hs.files.1
  (fun k => by rw [dH, rB, iF]; rfl)
  (fun k i hi => by
   rw [dH, bg hi, iT, aU hi, bS, NQ hm (hs.files.2 _ (List.getElem_mem hi)), bS, gZ]
   unfold La
   rw [List.getElem?_eq_getElem hi]
   simp only
   rw [← bz, ← bz]
   refine ed fun _ => ?_
   unfold oM oO
   rw [az hi hs.files.1]
   have hj : ∀ x, al x (some (3 : Int)) (al (decide ((0 : Int) < (i : Int))) (aB (at? s.files (IntKind.i64.wrap ((i : Int) - 1))) fun e2 => aB (some (Op.bytesLess s.files[i].name.toList e2.name.toList || s.files[i].name.toList == e2.name.toList)) fun y1 => al y1 (some 1) (dH m s k ((i + 1 : Nat) : Int))) (al false (some 1) (dH m s k ((i + 1 : Nat) : Int)))) =
     ee (er x 3) (ee (er (decide (0 < i) && (match s.files[i - 1]? with | some p => DQ s.files[i].name p.name | none => false)) 1) (dH m s k ((i + 1 : Nat) : Int))) := by
    intro x
    rw [dB (by decide)]
    refine ed fun _ => ?_
    by_cases h0 : 0 < i
    ·have hi1 : i - 1 < s.files.length := by omega
     rw [decide_eq_true (show (0 : Int) < (i : Int) by omega), iT, og hi h0 hs.files.1, bS, bS, dB (by decide), decide_eq_true h0, List.getElem?_eq_getElem hi1, Bool.true_and]; rfl
    ·rw [decide_eq_false (show ¬ (0 : Int) < (i : Int) by omega), decide_eq_false h0]; rfl
   cases decide (s.seq < s.files[i].seq) with
   | true => exact hj true
   | false => exact hj _)]
 exact dM _
theorem Ly {m : aF} {s : au} (hm : rx m) (hs : G9 s) : bt m s aY (0 : Int) = ee (fe (La m s) s.files.length 0) (ii m s) := by
 exact gu (L := bt m s) (n := s.files.length) (c := La m s) hs.files.1
  (fun k => by rw [bt, rB, iF])
  (fun k i hi => by
   rw [bt, bg hi, iT, aU hi, bS, MS hm (hs.files.2 _ (List.getElem_mem hi)), bS, gZ]
   unfold La
   rw [List.getElem?_eq_getElem hi]
   simp only
   rw [← bz, ← bz]
   refine ed fun _ => ?_
   unfold j2 j6
   rw [az hi hs.files.1]
   have hj : ∀ x, al x (some (3 : Int)) (al (decide ((0 : Int) < (i : Int))) (aB (at? s.files (IntKind.i64.wrap ((i : Int) - 1))) fun e2 => aB (some (Op.bytesLess s.files[i].name.toList e2.name.toList || s.files[i].name.toList == e2.name.toList)) fun y1 => al y1 (some 1) (bt m s k ((i + 1 : Nat) : Int))) (al false (some 1) (bt m s k ((i + 1 : Nat) : Int)))) =
     ee (er x 3) (ee (er (decide (0 < i) && (match s.files[i - 1]? with | some p => DQ s.files[i].name p.name | none => false)) 1) (bt m s k ((i + 1 : Nat) : Int))) := by
    intro x
    rw [dB (by decide)]
    refine ed fun _ => ?_
    by_cases h0 : 0 < i
    ·have hi1 : i - 1 < s.files.length := by omega
     rw [decide_eq_true (show (0 : Int) < (i : Int) by omega), iT, og hi h0 hs.files.1, bS, bS, dB (by decide), decide_eq_true h0, List.getElem?_eq_getElem hi1, Bool.true_and]; rfl
    ·rw [decide_eq_false (show ¬ (0 : Int) < (i : Int) by omega), decide_eq_false h0]; rfl
   cases decide (s.seq < s.files[i].seq) with
   | true => exact hj true
   | false => exact hj _)
theorem En {m : aF} {s : au} (hm : rx m) (hs : G9 s) (h : fe (La m s) s.files.length 0 = 0) : Ak s.files ∧ ∀ f ∈ s.files, KR f := by
 have key : ∀ (j : Nat) (hj : j < s.files.length), Av m s.files[j] = 0 ∧ (0 < j → DQ s.files[j].name (s.files[j - 1]'(by omega)).name = false) := by
  intro j hj
  have := Oq.1 h j (Nat.zero_le _) (by omega)
  unfold La at this
  rw [List.getElem?_eq_getElem hj] at this
  simp only [wB] at this
  refine ⟨this.1, fun h0 => ?_⟩
  have h3 := (Bf (by decide)).1 this.2.2
  rw [decide_eq_true h0, List.getElem?_eq_getElem (show j - 1 < s.files.length by omega), Bool.true_and] at h3
  exact h3
 refine ⟨Je fun j hj h0 => HA ((key j hj).2 h0), fun f hf => ?_⟩
 obtain ⟨i, hi, rfl⟩ := List.mem_iff_getElem.1 hf
 exact LU hm (hs.files.2 _ hf) (key i hi).1
end Go.Proofs.YtikbfjpcmalmlaaGreatDoor
namespace Go.Proofs.YtikbfjpcmalmlaaGreatDoor
open Go Go.SX Go.SX.Cal
theorem Do {l : List Int} (h : yB l = true) : 0 < l.length ∧ ∀ (i j : Nat) (hj : j < l.length) (hij : i < j), l[i]'(by omega) < l[j] := by
 unfold yB I7 at h
 rw [Bool.and_eq_true, decide_eq_true_iff, Bool.not_eq_true', decide_eq_false_iff_not] at h
 obtain ⟨h0, h1⟩ := h
 refine ⟨h0, fun i j => ?_⟩
 induction j with
 | zero => intro hj hij; omega
 | succ j ih =>
  intro hj hij
  have hd : B6 l (1 + j) = false := by
   cases hd : B6 l (1 + j) with
   | false => rfl
   | true => exact absurd ⟨j, by omega, hd⟩ h1
  rw [AT (by omega) (by omega), decide_eq_false_iff_not] at hd
  have e : l[1 + j]'(by omega) = l[j + 1] := by congr 1; omega
  have e2 : l[1 + j - 1]'(by omega) = l[j]'(by omega) := by congr 1; omega
  rw [e, e2] at hd
  by_cases hh : i = j
  ·subst hh; omega
  ·have := ih (by omega) (by omega); omega
def HR (l : List Int) (n : Int) : Bool := mT (fun j => match l[j]? with | some a => decide (a < 0) || decide (n ≤ a) | none => false) l.length
theorem Ns {l : List Int} (hn : l.length < 1000000000) (n : Int) : lZ l n = some (!HR l n) := by
 unfold lZ
 rw [G1 (L := dK l n) (n := l.length) (p := fun j => match l[j]? with | some a => decide (a < 0) || decide (n ≤ a) | none => false) hn
  (fun k => by rw [dK, rB, iF]; rfl)
  (fun k i hi => by
   rw [dK, bg hi, iT, aU hi, bS, List.getElem?_eq_getElem hi]
   unfold lD
   rw [az hi hn]
   simp only
   cases h : decide (l[i] < 0) with
   | true => rfl
   | false => rfl)]
 rfl
theorem KD {l : List Int} (h : yB l = true) (n : Int) : HR l n = (decide (l[0]'(Do h).1 < 0) || decide (n ≤ l[l.length - 1]'(by have := (Do h).1; omega))) := by
 obtain ⟨h0, h1⟩ := Do h
 refine jl ?_
 unfold HR
 rw [eZ, Bool.or_eq_true, decide_eq_true_iff, decide_eq_true_iff]
 constructor
 ·rintro ⟨j, hj, hp⟩
  rw [List.getElem?_eq_getElem hj] at hp
  simp only [Bool.or_eq_true, decide_eq_true_eq] at hp
  rcases hp with hp | hp
  ·left
   by_cases e : j = 0
   ·subst e; exact hp
   ·have := h1 0 j hj (by omega); omega
  ·right
   by_cases e : j = l.length - 1
   ·subst e; exact hp
   ·have := h1 j (l.length - 1) (by omega) (by omega); omega
 ·rintro (hp | hp)
  ·exact ⟨0, h0, by rw [List.getElem?_eq_getElem h0]; simp [hp]⟩
  ·exact ⟨l.length - 1, by omega, by rw [List.getElem?_eq_getElem (show l.length - 1 < l.length by omega)]; simp [hp]⟩
def Nx (l : List i8) (d : i8) (j : Nat) : Bool := decide (0 < j) && (match l[j - 1]? with | some p => DQ d.file p.file | none => false)
def Fl (s : au) (j : Nat) : Int := match s.dat[j]? with
 | some d => (match oB s.files d.file with
  | none => 9
  | some f => mA (er (Nx s.dat d j || !yB d.rows) 1) (er (HR d.rows f.rows) 3))
 | none => 0
theorem PR {m : aF} {s : au} (hs : G9 s) (ho : Ak s.files) : nW m s = ee (fe (Fl s) s.dat.length 0) (ll m s) := by
 unfold nW
 exact gu (L := cy m s) (n := s.dat.length) (c := Fl s) hs.dat.1
  (fun k => by rw [cy, rB, iF])
  (fun k i hi => by
   have hd := hs.dat.2 _ (List.getElem_mem hi)
   rw [cy, bg hi, iT, aU hi, bS, Nm ho hs.files.1, bS]
   unfold Fl
   rw [List.getElem?_eq_getElem hi]
   simp only
   cases hf : oB s.files s.dat[i].file with
   | none => rfl
   | some f =>
    show al (!true) _ _ = _
    rw [Bool.not_true, iF, Kc hd, bS]
    rw [← bz]
    unfold kV nq
    rw [az hi hs.dat.1]
    have hj : ∀ x, (yB s.dat[i].rows = false → x = true) → al x (some (1 : Int)) (aB (at? s.dat[i].rows (0 : Int)) fun e3 => al (decide (e3 < (0 : Int))) (al true (some (3 : Int)) (cy m s k ((i + 1 : Nat) : Int))) (aB (at? s.dat[i].rows (IntKind.i64.wrap ((s.dat[i].rows.length : Int) - (1 : Int)))) fun e4 => al (decide (f.rows ≤ e4)) (some (3 : Int)) (cy m s k ((i + 1 : Nat) : Int)))) =
      ee (er x 1) (ee (er (HR s.dat[i].rows f.rows) 3) (cy m s k ((i + 1 : Nat) : Int))) := by
     intro x hx
     rw [dB (by decide)]
     refine ed fun e => ?_
     have e := (Bf (by decide)).1 e
     cases hr : yB s.dat[i].rows with
     | false => rw [hx hr] at e; cases e
     | true =>
      obtain ⟨h0, _⟩ := Do hr
      have a0 := aU h0
      rw [show ((0 : Nat) : Int) = 0 from rfl] at a0
      rw [a0, bS, kg hd, show ((s.dat[i].rows.length : Int) - 1) = ((s.dat[i].rows.length - 1 : Nat) : Int) by omega, aU (show s.dat[i].rows.length - 1 < s.dat[i].rows.length by omega), bS, KD hr]
      cases decide (s.dat[i].rows[0] < 0) with
      | true => rfl
      | false => rw [iF, dB (by decide), Bool.false_or]
    unfold Nx
    by_cases h0 : 0 < i
    ·have hi1 : i - 1 < s.dat.length := by omega
     rw [decide_eq_true (show (0 : Int) < (i : Int) by omega), iT, og hi h0 hs.dat.1, bS, bS, decide_eq_true h0, List.getElem?_eq_getElem hi1, Bool.true_and]
     show al (DQ s.dat[i].file s.dat[i - 1].file) _ _ = ee (er (DQ s.dat[i].file s.dat[i - 1].file || !yB s.dat[i].rows) 1) _
     cases DQ s.dat[i].file s.dat[i - 1].file with
     | true => rw [iT, Bool.true_or]; exact hj true fun _ => rfl
     | false => rw [iF, Bool.false_or]; exact hj _ fun h => by rw [h]; rfl
    ·rw [decide_eq_false (show ¬ (0 : Int) < (i : Int) by omega), iF, decide_eq_false h0, Bool.false_and, Bool.false_or]
     exact hj _ fun h => by rw [h]; rfl)
theorem OQ {m : aF} {s : au} (hs : G9 s) : ii m s = ee (fe (Fl s) s.dat.length 0) (ik m s) := by
 unfold ii
 exact gu (L := bV m s) (n := s.dat.length) (c := Fl s) hs.dat.1
  (fun k => by rw [bV, rB, iF])
  (fun k i hi => by
   have hd := hs.dat.2 _ (List.getElem_mem hi)
   rw [bV, bg hi, iT, aU hi, bS, Cs hs.files.1, bS]
   unfold Fl
   rw [List.getElem?_eq_getElem hi]
   simp only
   cases hf : oB s.files s.dat[i].file with
   | none => rfl
   | some f =>
    show al (!true) _ _ = _
    rw [Bool.not_true, iF, N7 hd, bS]
    rw [← bz]
    unfold il
    rw [az hi hs.dat.1]
    have hj : ∀ x, al x (some (1 : Int)) (aB (lZ s.dat[i].rows f.rows) fun r11 => al (!r11) (some (3 : Int)) (bV m s k ((i + 1 : Nat) : Int))) =
      ee (er x 1) (ee (er (HR s.dat[i].rows f.rows) 3) (bV m s k ((i + 1 : Nat) : Int))) := by
     intro x
     rw [dB (by decide), Ns hd, bS, Bool.not_not, dB (by decide)]
    unfold Nx
    by_cases h0 : 0 < i
    ·have hi1 : i - 1 < s.dat.length := by omega
     rw [decide_eq_true (show (0 : Int) < (i : Int) by omega), iT, og hi h0 hs.dat.1, bS, bS, decide_eq_true h0, List.getElem?_eq_getElem hi1, Bool.true_and]
     show al (DQ s.dat[i].file s.dat[i - 1].file) _ _ = ee (er (DQ s.dat[i].file s.dat[i - 1].file || !yB s.dat[i].rows) 1) _
     cases DQ s.dat[i].file s.dat[i - 1].file with
     | true => rw [iT, Bool.true_or]; exact hj true
     | false => rw [iF, Bool.false_or]; exact hj _
    ·rw [decide_eq_false (show ¬ (0 : Int) < (i : Int) by omega), iF, decide_eq_false h0, Bool.false_and, Bool.false_or]
     exact hj _)
def HT (m : aF) (d : cp) : Bool := !decide (0 ≤ d.schema ∧ d.schema ≤ (m.schemas.length : Int) - 1) || decide (d.seq < 1)
noncomputable def Pd (m : aF) (d : cp) : Int := mA (er (HT m d) 3) (match m.schemas[d.schema.toNat]? with | some fs => Bi fs d.ids d.keys | none => 0)
theorem MH {m : aF} {d : cp} (h : HT m d = false) : ∃ fs, at? m.schemas d.schema = some fs ∧ m.schemas[d.schema.toNat]? = some fs ∧ fs ∈ m.schemas := by
 unfold HT at h
 simp only [Bool.or_eq_false_iff, Bool.not_eq_false', decide_eq_true_eq] at h
 obtain ⟨⟨a1, a2⟩, _⟩ := h
 obtain ⟨h1, h2, h3⟩ := Bw a1 a2
 exact ⟨_, h2, h3, List.getElem_mem h1⟩
theorem QV {m : aF} {d : cp} (hm : rx m) (hz : MA d.ids d.keys) : zn m d true = some (Pd m d) := by
 unfold zn Pd
 rw [kh, bS, kg hm.schemas.1, ← dM, ← bz]
 have hj : ∀ x, x = HT m d → qu m d true x = ee (er (HT m d) 3) (ee (match m.schemas[d.schema.toNat]? with | some fs => Bi fs d.ids d.keys | none => 0) (some 0)) := by
  rintro x rfl
  unfold qu
  rw [dB (by decide)]
  refine ed fun e => ?_
  obtain ⟨fs, h1, h2, h3⟩ := MH ((Bf (by decide)).1 e)
  rw [h1, h2, bS, Pi hz (hm.schemas.2 _ h3), dM]
 have hr : HT m d = HT m d := rfl
 conv at hr => rhs; unfold HT
 cases a : decide (0 ≤ d.schema ∧ d.schema ≤ (m.schemas.length : Int) - 1) with
 | false => rw [a] at hr; rw [Bool.not_false, iT]; exact hj true (by rw [hr]; rfl)
 | true => rw [a] at hr; rw [Bool.not_true, iF]; exact hj _ (by rw [hr]; rfl)
theorem Q4 {m : aF} {d : cp} (hm : rx m) (hz : MA d.ids d.keys) : rg m d = some (Pd m d) := by
 unfold rg Pd
 rw [mg, bS, kg hm.schemas.1, ← dM, ← bz]
 have hj : ∀ x, x = HT m d → lW m d x = ee (er (HT m d) 3) (ee (match m.schemas[d.schema.toNat]? with | some fs => Bi fs d.ids d.keys | none => 0) (some 0)) := by
  rintro x rfl
  unfold lW
  rw [dB (by decide)]
  refine ed fun e => ?_
  obtain ⟨fs, h1, h2, h3⟩ := MH ((Bf (by decide)).1 e)
  rw [h1, h2, bS, PM hz (hm.schemas.2 _ h3), bS, dM]
 have hr : HT m d = HT m d := rfl
 conv at hr => rhs; unfold HT
 cases a : decide (0 ≤ d.schema ∧ d.schema ≤ (m.schemas.length : Int) - 1) with
 | false => rw [a] at hr; rw [Bool.not_false, iT]; exact hj true (by rw [hr]; rfl)
 | true => rw [a] at hr; rw [Bool.not_true, iF]; exact hj _ (by rw [hr]; rfl)
def Gv (fs : List ah) (q : Int) : Bool := mT (fun j => match fs[j]? with | some f => decide (f.seq < q) | none => false) fs.length
theorem Po {fs : List ah} (hn : fs.length < 1000000000) (d : cp) : qE fs d = some (Gv fs d.seq) := by
 unfold qE cc cr
 obtain ⟨r, r1, r2⟩ := Ma (L := aN fs d.schema d.ids d.keys d.seq) (n := fs.length) (p := fun j => match fs[j]? with | some f => decide (f.seq < d.seq) | none => false) hn
  (fun k => by rw [aN, rB, iF]; rfl)
  (fun k i hi => by rw [aN, bg hi, iT, aU hi, bS, qJ, bS, az hi hn, List.getElem?_eq_getElem hi])
 rw [r1, bS, bS, r2]; rfl
theorem O8 {fs : List ah} (hn : fs.length < 1000000000) (q : Int) : rH fs q = some (Gv fs q) := by
 have key : ∀ (m k i : Nat), i + m = fs.length → m < k → jD fs q k (i : Int) = some (decide (∃ j, j < m ∧ (match fs[i + j]? with | some f => decide (f.seq < q) | none => false) = true)) := by
  intro m
  induction m with
  | zero =>
   intro k i hi hk
   obtain ⟨k, rfl⟩ := fu hk
   rw [jD, B8 (by omega), iF]; simp [te]
  | succ m ih =>
   intro k i hi hk
   obtain ⟨k, rfl⟩ := fu hk
   have h1 : i < fs.length := by omega
   rw [jD, bg h1, iT, aU h1, bS, az h1 hn]
   cases hd : decide (fs[i].seq < q) with
   | true => rw [iT, decide_eq_true ⟨0, by omega, by rw [Nat.add_zero, List.getElem?_eq_getElem h1]; exact hd⟩]
   | false =>
    rw [iF, ih k (i + 1) (by omega) (by omega)]
    congr 1
    refine decide_eq_decide.2 ⟨fun ⟨j, a, b⟩ => ⟨j + 1, by omega, by rw [← b, show i + (j + 1) = i + 1 + j by omega]⟩, fun ⟨j, a, b⟩ => ?_⟩
    cases j with
    | zero => rw [Nat.add_zero, List.getElem?_eq_getElem h1] at b; simp only at b; rw [hd] at b; cases b
    | succ j => exact ⟨j, by omega, by rw [← b, show i + (j + 1) = i + 1 + j by omega]⟩
 have := key fs.length aY 0 (by omega) (by rw [bc]; omega)
 unfold rH
 rw [show ((0 : Nat) : Int) = 0 from rfl] at this
 rw [this]
 congr 1
 refine jl ?_
 unfold Gv
 rw [decide_eq_true_iff, eZ]
 simp
noncomputable def F5 (m : aF) (s : au) (j : Nat) : Int := match s.dby[j]? with
 | some d => mA (Pd m d) (mA (er (decide (s.seq < d.seq)) 3) (er ((decide (0 < j) && (match s.dby[j - 1]? with | some p => decide (d.seq < p.seq) | none => false)) || !Gv s.files d.seq) 1))
 | none => 0
theorem Hq {m : aF} {s : au} (hs : G9 s) {i : Nat} (hi : i < s.dby.length) (X : Option Int) (O : Option Bool) (ho : O = some (Gv s.files s.dby[i].seq)) :
  al (decide ((0 : Int) < (i : Int))) (aB (at? s.dby (IntKind.i64.wrap ((i : Int) - (1 : Int)))) fun e6 => al (decide (s.dby[i].seq < e6.seq)) (al true (some (1 : Int)) X) (aB O fun r5 => al (!r5) (some (1 : Int)) X)) (aB O fun r6 => al (!r6) (some (1 : Int)) X) =
   ee (er ((decide (0 < i) && (match s.dby[i - 1]? with | some p => decide (s.dby[i].seq < p.seq) | none => false)) || !Gv s.files s.dby[i].seq) 1) X := by
 subst ho
 by_cases h0 : 0 < i
 ·have hi1 : i - 1 < s.dby.length := by omega
  rw [decide_eq_true (show (0 : Int) < (i : Int) by omega), iT, og hi h0 hs.dby.1, bS, decide_eq_true h0, List.getElem?_eq_getElem hi1, Bool.true_and, bS]
  show _ = ee (er (decide (s.dby[i].seq < s.dby[i - 1].seq) || !Gv s.files s.dby[i].seq) 1) X
  cases decide (s.dby[i].seq < s.dby[i - 1].seq) with
  | true => rfl
  | false => rw [iF, dB (by decide), Bool.false_or]
 ·rw [decide_eq_false (show ¬ (0 : Int) < (i : Int) by omega), iF, decide_eq_false h0, Bool.false_and, Bool.false_or, bS, dB (by decide)]
theorem Rw {s : au} (hs : G9 s) {d : cp} (hd : d ∈ s.dby) : MA d.ids d.keys := by
 obtain ⟨a, b, c⟩ := hs.dby.2 _ hd
 exact ⟨a, b, c⟩
theorem OU {m : aF} {s : au} (hm : rx m) (hs : G9 s) : ll m s = some (fe (F5 m s) s.dby.length 0) := by
 unfold ll
 rw [gu (L := dT m s) (n := s.dby.length) (fin := some 0) (c := F5 m s) hs.dby.1
  (fun k => by rw [dT, rB, iF]; rfl)
  (fun k i hi => by
   rw [dT, bg hi, iT, aU hi, bS, QV hm (Rw hs (List.getElem_mem hi)), bS, gZ, dB (by decide)]
   unfold F5
   rw [List.getElem?_eq_getElem hi]
   simp only
   rw [← bz, ← bz]
   refine ed fun _ => ed fun _ => ?_
   unfold kY
   rw [az hi hs.dby.1]
   exact Hq (m := m) hs hi _ _ (Po hs.files.1 _))]
 exact dM _
theorem PP {m : aF} {s : au} (hm : rx m) (hs : G9 s) : ik m s = some (fe (F5 m s) s.dby.length 0) := by
 unfold ik
 rw [gu (L := cq m s) (n := s.dby.length) (fin := some 0) (c := F5 m s) hs.dby.1
  (fun k => by rw [cq, rB, iF]; rfl)
  (fun k i hi => by
   rw [cq, bg hi, iT, aU hi, bS, Q4 hm (Rw hs (List.getElem_mem hi)), bS, gZ, dB (by decide)]
   unfold F5
   rw [List.getElem?_eq_getElem hi]
   simp only
   rw [← bz, ← bz]
   refine ed fun _ => ed fun _ => ?_
   unfold ig
   rw [az hi hs.dby.1]
   exact Hq (m := m) hs hi _ _ (O8 hs.files.1 _))]
 exact dM _
end Go.Proofs.YtikbfjpcmalmlaaGreatDoor
namespace Go.Proofs.YtikbfjpcmalmlaaGreatDoor
open Go Go.SX Go.SX.Cal
def wi (a b c : Int) : Bool := decide (b ≤ a ∧ a ≤ c)
def xE (m : aF) (s : au) : Bool :=
 !wi s.id 1 (IntKind.i64.wrap (m.nextSnap - 1)) || (!wi s.parent 0 (IntKind.i64.wrap (s.id - 1)) || (!wi s.seq 1 (IntKind.i64.wrap (m.nextSeq - 1)) || (!wi s.schema 0 (IntKind.i64.wrap ((m.schemas.length : Int) - 1)) || (!wi s.time (-62135596800) 253402300799 || !wi s.kind 1 3))))
noncomputable def LH (m : aF) (s : au) : Int := mA (fe (La m s) s.files.length 0) (mA (fe (Fl s) s.dat.length 0) (fe (F5 m s) s.dby.length 0))
noncomputable def MI (m : aF) (j : Nat) : Int := match m.snapshots[j]? with
 | some s => mA (er (xE m s) 3) (mA (er (decide (0 < j) && (match m.snapshots[j - 1]? with | some p => decide (s.id ≤ p.id) || decide (s.seq ≤ p.seq) | none => false)) 5) (LH m s))
 | none => 0
theorem F6 {m : aF} {j : Nat} (hj : j < m.snapshots.length) : MI m j = mA (er (xE m m.snapshots[j]) 3) (mA (er (decide (0 < j) && (match m.snapshots[j - 1]? with | some p => decide (m.snapshots[j].id ≤ p.id) || decide (m.snapshots[j].seq ≤ p.seq) | none => false)) 5) (LH m m.snapshots[j])) := by
 unfold MI; rw [List.getElem?_eq_getElem hj]
theorem Ra {m : aF} {s : au} (hm : rx m) (hs : G9 s) (X : Option Int) :
  (aB (qI m s) fun r7 => al (r7 != (0 : Int)) (some r7) (aB (nW m s) fun r8 => al (r8 != (0 : Int)) (some r8) X)) = ee (LH m s) X := by
 rw [LY hm hs, bS, gZ]
 unfold LH
 rw [← bz]
 refine ed fun e => ?_
 obtain ⟨ho, _⟩ := En hm hs e
 rw [PR hs ho, OU hm hs, sT, bS, gZ]
theorem Od {m : aF} (hm : rx m) : oe m = some (fe (MI m) m.snapshots.length 0) := by
 unfold oe
 rw [gu (L := bE m) (n := m.snapshots.length) (fin := some 0) (c := MI m) hm.snaps.1
  (fun k => by rw [bE, rB, iF]; rfl)
  (fun k i hi => by
   have hs := hm.snaps.2 _ (List.getElem_mem hi)
   rw [bE, bg hi, iT, aU hi, bS, F6 hi]
   generalize hsn : m.snapshots[i] = s at hs
   have hj : ∀ x, x = xE m s → gh (bE m k) m (i : Int) s x =
     ee (mA (er (xE m s) 3) (mA (er (decide (0 < i) && (match m.snapshots[i - 1]? with | some p => decide (s.id ≤ p.id) || decide (s.seq ≤ p.seq) | none => false)) 5) (LH m s))) (bE m k ((i + 1 : Nat) : Int)) := by
    rintro x rfl
    unfold gh jQ
    rw [dB (by decide), ← bz, ← bz]
    refine ed fun _ => ?_
    rw [Ra hm hs, az hi hm.snaps.1]
    by_cases h0 : 0 < i
    ·have hi1 : i - 1 < m.snapshots.length := by omega
     rw [decide_eq_true (show (0 : Int) < (i : Int) by omega), iT, og hi h0 hm.snaps.1, bS, decide_eq_true h0, List.getElem?_eq_getElem hi1, Bool.true_and]
     simp only
     cases decide (s.id ≤ m.snapshots[i - 1].id) with
     | true => rfl
     | false => rw [iF, dB (by decide), Bool.false_or]
    ·rw [decide_eq_false (show ¬ (0 : Int) < (i : Int) by omega), iF, decide_eq_false h0]; rfl
   have hj1 : ∀ x, iy (bE m k) m (i : Int) s x = gh (bE m k) m (i : Int) s (x || (!wi s.schema 0 (IntKind.i64.wrap ((m.schemas.length : Int) - 1)) || (!wi s.time (-62135596800) 253402300799 || !wi s.kind 1 3))) := by
    intro x
    unfold iy lF
    cases x with
    | true => rfl
    | false =>
     rw [iF, kh, bS, Bool.false_or]
     show al (!wi s.schema _ _) _ _ = _
     cases wi s.schema 0 (IntKind.i64.wrap ((m.schemas.length : Int) - 1)) with
     | false => rfl
     | true =>
      rw [Bool.not_true, iF, kh, bS, Bool.false_or]
      rw [show decide (-62135596800 ≤ s.time ∧ s.time ≤ 253402300799) = wi s.time (-62135596800) 253402300799 from rfl]
      cases wi s.time (-62135596800) 253402300799 with
      | false => rfl
      | true => rw [Bool.not_true, iF, kh, bS]; rfl
   rw [kh, bS]
   show al (!wi s.id _ _) _ _ = _
   have hr : xE m s = xE m s := rfl
   conv at hr => rhs; unfold xE
   cases a : wi s.id 1 (IntKind.i64.wrap (m.nextSnap - 1)) with
   | false => rw [a] at hr; rw [Bool.not_false, iT, hj1]; exact hj _ (by rw [hr]; rfl)
   | true =>
    rw [a] at hr
    rw [Bool.not_true, iF, kh, bS]
    show al (!wi s.parent _ _) _ _ = _
    cases b : wi s.parent 0 (IntKind.i64.wrap (s.id - 1)) with
    | false => rw [b] at hr; rw [Bool.not_false, iT, hj1]; exact hj _ (by rw [hr]; rfl)
    | true => rw [b] at hr; rw [Bool.not_true, iF, kh, bS, hj1]; exact hj _ (by rw [hr]; rfl))]
 exact dM _
theorem Jg {m : aF} {s : au} (h : xE m s = false) : 1 ≤ s.id ∧ 1 ≤ s.seq := by
 unfold xE wi at h
 simp only [Bool.or_eq_false_iff, Bool.not_eq_false', decide_eq_true_eq] at h
 exact ⟨h.1.1, h.2.2.1.1⟩
theorem LO {m : aF} {s p : au} (hm : rx m) (hs : G9 s) : j0 m s p = some (mA (er (xE m s) 3) (mA (er (decide (s.id ≤ p.id) || decide (s.seq ≤ p.seq)) 5) (LH m s))) := by
 have hj : ∀ x, x = xE m s → dm m s p x = some (mA (er (xE m s) 3) (mA (er (decide (s.id ≤ p.id) || decide (s.seq ≤ p.seq)) 5) (LH m s))) := by
  rintro x rfl
  unfold dm j7
  refine Eq.trans ?_ (dM _)
  rw [dB (by decide), ← bz, ← bz]
  refine ed fun _ => ?_
  have hin : bt m s aY (0 : Int) = ee (LH m s) (some 0) := by
   rw [Ly hm hs, OQ hs, PP hm hs, sT, sT, dM]; rfl
  rw [hin]
  cases decide (s.id ≤ p.id) with
  | true => rfl
  | false => rw [iF, dB (by decide), Bool.false_or]
 unfold j0
 have hr : xE m s = xE m s := rfl
 conv at hr => rhs; unfold xE
 rw [mg, bS]
 show al (!wi s.id _ _) _ _ = _
 cases a : wi s.id 1 (IntKind.i64.wrap (m.nextSnap - 1)) with
 | false => rw [a] at hr; rw [Bool.not_false, iT]; exact hj _ (by rw [hr]; rfl)
 | true =>
  rw [a] at hr
  rw [Bool.not_true, iF, mg, bS]
  show al (!wi s.parent _ _) _ _ = _
  cases b : wi s.parent 0 (IntKind.i64.wrap (s.id - 1)) with
  | false => rw [b] at hr; rw [Bool.not_false, iT]; exact hj _ (by rw [hr]; rfl)
  | true =>
   rw [b] at hr
   rw [Bool.not_true, iF, mg, bS]
   show al (!wi s.seq _ _) _ _ = _
   cases c : wi s.seq 1 (IntKind.i64.wrap (m.nextSeq - 1)) with
   | false => rw [c] at hr; rw [Bool.not_false, iT]; exact hj _ (by rw [hr]; rfl)
   | true =>
    rw [c] at hr
    rw [Bool.not_true, iF, mg, bS]
    show al (!wi s.schema _ _) _ _ = _
    cases d : wi s.schema 0 (IntKind.i64.wrap ((m.schemas.length : Int) - 1)) with
    | false => rw [d] at hr; rw [Bool.not_false, iT]; exact hj _ (by rw [hr]; rfl)
    | true =>
     rw [d] at hr
     rw [Bool.not_true, iF, mg, bS]
     show al (!wi s.time _ _) _ _ = _
     cases e : wi s.time (-62135596800) 253402300799 with
     | false => rw [e] at hr; rw [Bool.not_false, iT]; exact hj _ (by rw [hr]; rfl)
     | true => rw [e] at hr; rw [Bool.not_true, iF, mg, bS]; exact hj _ (by rw [hr]; rfl)
def zS : au := ⟨0, 0, 0, 0, 0, 0, [], [], []⟩
def F0 (m : aF) (i : Int) : au := if i ≤ 0 then zS else (m.snapshots[(i - 1).toNat]?).getD zS
theorem NT {m : aF} (hm : rx m) : iE m aY (0 : Int) (0 : Int) (0 : Int) (0 : Int) (0 : Int) (0 : Int) [] [] [] (0 : Int) = ee (fe (MI m) m.snapshots.length 0) (nM m) := by
 exact gu (L := fun k i => iE m k (F0 m i).id (F0 m i).parent (F0 m i).seq (F0 m i).schema (F0 m i).time (F0 m i).kind (F0 m i).files (F0 m i).dat (F0 m i).dby i) (n := m.snapshots.length) (c := MI m) hm.snaps.1
  (fun k => by rw [iE, rB, iF])
  (fun k i hi => by
   have hs := hm.snaps.2 _ (List.getElem_mem hi)
   rw [iE, bg hi, iT, aU hi, bS]
   show aB (j0 m m.snapshots[i] (F0 m i)) _ = _
   rw [LO hm hs, bS, gZ, az hi hm.snaps.1]
   have hp : F0 m ((i + 1 : Nat) : Int) = m.snapshots[i] := by
    unfold F0
    rw [if_neg (by omega), show (((i + 1 : Nat) : Int) - 1).toNat = i by omega, List.getElem?_eq_getElem hi]; rfl
   rw [hp, F6 hi, ← bz, ← bz, ← bz, ← bz]
   refine ed fun e => ?_
   obtain ⟨r1, r2⟩ := Jg ((Bf (by decide)).1 e)
   congr 2
   by_cases h0 : 0 < i
   ·have hi1 : i - 1 < m.snapshots.length := by omega
    rw [decide_eq_true h0, List.getElem?_eq_getElem hi1, Bool.true_and]
    have : F0 m (i : Int) = m.snapshots[i - 1] := by
     unfold F0
     rw [if_neg (by omega), show ((i : Int) - 1).toNat = i - 1 by omega, List.getElem?_eq_getElem hi1]; rfl
    rw [this]
   ·have : i = 0 := by omega
    subst this
    have hz : F0 m ((0 : Nat) : Int) = zS := rfl
    rw [hz, decide_eq_false h0, Bool.false_and]
    show (decide (m.snapshots[0].id ≤ 0) || decide (m.snapshots[0].seq ≤ 0)) = false
    rw [decide_eq_false (by omega), decide_eq_false (by omega)]; rfl)
theorem DI {m : aF} (hm : rx m) (h : fe (MI m) m.snapshots.length 0 = 0) : ∀ s ∈ m.snapshots, 1 ≤ s.id ∧ Ak s.files ∧ ∀ f ∈ s.files, KR f := by
 intro s hs
 obtain ⟨i, hi, rfl⟩ := List.mem_iff_getElem.1 hs
 have := Oq.1 h i (Nat.zero_le _) (by omega)
 rw [F6 hi, wB, wB] at this
 have hh := this.2.2
 unfold LH at hh
 rw [wB] at hh
 obtain ⟨a, b⟩ := En hm (hm.snaps.2 _ hs) hh.1
 exact ⟨(Jg ((Bf (by decide)).1 this.1)).1, a, b⟩
end Go.Proofs.YtikbfjpcmalmlaaGreatDoor
