/- The calendar, in plain integers. Names, in plain terms. The fields of a type, in plain terms. The check of types and the common type, in plain terms. Texts and sound values, in plain terms. Values of a type, in plain terms; the law of Sound and Check. Rows: lists of fields. SameType: both answers are the same. CheckSchema: both answers are the same. CheckSchema, end; the law of types. Rows: CheckRows, of both sides. Adapt: fields that are found, types that widen, schemas that are adaptable. TransformType of both sides. Partitions: suits and the fields at the top, of both sides. Loops that look for the first error. Names of objects. Numbers of 256 bits: what 'times' and 'compare' compute. Comparing numbers of 256 bits. Compare, in plain terms. Compare is a total order. What the reference compares. The reference's Compare, in plain terms; the law 'ValueOrderMatchesSpec'. Values of leaves: what a check says of them; their order. Fields at the top, types of partition values, data files: both sides find the same error. Data files: both sides find the same error. Texts: their order. What is removed by keys: both sides find the same error. Snapshots: both sides find the same error. What is removed in a snapshot; all snapshots: both sides find the same error. All snapshots: both sides find the same error. -/
import Derived.Laws.Runes
import Derived.ChangeKeysEq
import Derived.Lib.Bytealg
import Derived.Sort.Statements
import Derived.Test.YtfnmbpecdjncfaaGreatDoorGeB
set_option linter.unusedVariables false
set_option linter.unusedSimpArgs false
set_option linter.unnecessarySimpa false
namespace Go.SX.Cal
open Go
open Go.IntKind (i64)
theorem zd {x : Int} (h1 : -9223372036854775808 ≤ x) (h2 : x ≤ 9223372036854775807) : i64.wrap x = x := by
 simp only [IntKind.wrap, IntKind.bits, IntKind.signed]
 simp only [Bool.true_and, decide_eq_true_eq, ge_iff_le]
 split <;> omega
def S (y : Int) : Int := 365 * y + y / 4 - y / 100
def F (r : Int) : Int := r - r / 1460 + r / 36524
def UD (y : Int) : Prop := y % 4 = 0 ∧ (y % 100 ≠ 0 ∨ y % 400 = 0)
instance (y : Int) : Decidable (UD y) := by unfold UD; infer_instance
def E (y : Int) : Int := y / 400 * 146097 + S (y % 400) - 719468
end Go.SX.Cal
namespace Go.Proofs.YtfnmbpecdjncfaaGreatDoor
open Go Go.SX Go.SX.Cal
open Go.IntKind (i64)
theorem aH {β : Type} (x y : Option β) : ak true x y = x := rfl
theorem ax {β : Type} (x y : Option β) : ak false x y = y := rfl
theorem aJ {β : Type} (b : Bool) (x y : Option β) : ak b x y = if b = true then x else y := by cases b <;> rfl
theorem aU : aQ = 1152921504606846976 := rfl
def first (P : Nat → Bool) (i n : Nat) : Option Nat := (List.range' i (n - i)).find? P
theorem sB {P : Nat → Bool} {i n : Nat} (h : i < n) : first P i n = if P i = true then some i else first P (i + 1) n := by
 unfold first
 rw [show n - i = (n - (i + 1)) + 1 by omega, List.range'_succ, List.find?_cons]
 cases hp : P i <;> simp [hp]
theorem sy {P : Nat → Bool} {n : Nat} : first P n n = none := by simp [first]
theorem ye {P : Nat → Bool} {i n : Nat} : first P i n = none ↔ ∀ j, i ≤ j → j < n → P j = false := by
 unfold first
 rw [List.find?_eq_none]
 constructor
 ·intro h j h1 h2
  have := h j (by rw [List.mem_range'_1]; omega)
  simpa using this
 ·intro h j hj
  rw [List.mem_range'_1] at hj
  have := h j (by omega) (by omega)
  simp [this]
theorem rj {β : Type} {f : Nat → Nat → Option β} {n : Nat} {P : Nat → Bool} {A : Nat → Option β} {B : Option β} (hstep : ∀ k i, i < n → f (k + 1) i = if P i = true then A i else f k (i + 1)) (hend : ∀ k, f (k + 1) n = B) :
  ∀ k i, i ≤ n → n - i < k → f k i = (first P i n).elim B A := by
 intro k
 induction k with
 | zero => intro i _ h; omega
 | succ k ih =>
  intro i hi hk
  by_cases h : i = n
  ·subst h
   rw [hend, sy]; rfl
  ·rw [hstep k i (by omega), sB (by omega)]
   by_cases hp : P i = true
   ·simp [hp]
   ·simp only [hp, if_false]
    exact ih (i + 1) (by omega) (by omega)
def lx (s : ByteArray) (i : Nat) : Nat := (s.data.toList.getD i 0).toNat
theorem Eb (s : ByteArray) (i : Nat) (h : i < s.size) : (s.get! i).toNat = lx s i := by
 unfold lx
 have h' : i < s.data.size := h
 have : s.get! i = s.data.toList.getD i 0 := by
  simp only [ByteArray.get!, List.getD, Array.getElem?_toList]
  rw [getElem!_pos s.data i h', Array.getElem?_eq_getElem h']; rfl
 rw [this]
def rc (b : Nat) : Bool := decide (97 ≤ b) && decide (b ≤ 122)
def other (b : Nat) : Bool := b == 95 || (decide (48 ≤ b) && decide (b ≤ 57))
def G6 (b : Nat) : Bool := rc b || other b
theorem OM (n : Nat) : uu (Int.ofNat n) = some (!G6 n) := by
 unfold uu gE
 simp only [aJ, decide_eq_true_eq, Int.ofNat_eq_natCast]
 repeat' split
 all_goals (rw [de, Bool.eq_iff_iff]; simp [G6, rc, other]; omega)
theorem Dh (s : ByteArray) (i : Nat) (h : i < s.size) (hb : lx s i < 128) : Utf8.decode s i = (lx s i, 1) := by
 have e := Eb s i h
 unfold Utf8.decode
 simp [e, hb]
theorem Da (s : ByteArray) (i : Nat) (h : i < s.size) (hb : ¬ lx s i < 128) : 128 ≤ (Utf8.decode s i).1 := by
 have e := Eb s i h
 unfold Utf8.decode
 simp only [Nat.add_zero, e, if_neg hb, Utf8.runeError]
 repeat' split
 all_goals simp_all
 all_goals omega
def Qp (s : ByteArray) (i : Nat) : Bool := !G6 (lx s i)
theorem Hf (s : ByteArray) : ∀ k i, i ≤ s.size → s.size - i < k → ∃ r, co s true k i = some r ∧ (decide (0 ≤ r) = (first (Qp s) i s.size).isSome) := by
 intro k
 induction k with
 | zero => intro i _ h; omega
 | succ k ih =>
  intro i hi hk
  rw [co]
  by_cases h : i = s.size
  ·subst h
   rw [sy]
   simp only [Nat.lt_irrefl, decide_false, ax]
   exact ⟨-1, rfl, rfl⟩
  ·have hlt : i < s.size := by omega
   simp only [hlt, decide_true, aH, OM, a6]
   rw [sB hlt]
   by_cases hb : lx s i < 128
   ·rw [Dh s i hlt hb]
    simp only [Qp]
    by_cases hg : G6 (lx s i) = true
    ·simp only [hg, Bool.not_true, aJ]
     obtain ⟨r, h1, h2⟩ := ih (i + 1) (by omega) (by omega)
     exact ⟨r, by simpa using h1, by simpa [Qp] using h2⟩
    ·simp only [hg, Bool.not_false, aJ]
     exact ⟨_, rfl, by simp⟩
   ·have h1 := Da s i hlt hb
    have g1 : G6 (Utf8.decode s i).1 = false := by
     generalize (Utf8.decode s i).1 = x at h1
     simp [G6, rc, other]; omega
    have g2 : Qp s i = true := by
     simp [Qp, G6, rc, other]; omega
    simp only [g1, g2, Bool.not_false, aJ]
    exact ⟨_, rfl, by simp⟩
def sK (s : ByteArray) : Bool := decide (1 ≤ s.size) && decide (s.size ≤ 24) && rc (lx s 0) && (first (Qp s) 0 s.size).isNone
theorem ve (s : ByteArray) : (s.toList == (ByteArray.mk #[]).toList) = decide (s.size = 0) := by
 rw [ByteArray.toList_eq, ByteArray.toList_eq, Bool.eq_iff_iff]
 show (s.data.toList == []) = true ↔ decide (s.data.size = 0) = true
 rw [← Array.length_toList]
 cases s.data.toList <;> simp
theorem OL (s : ByteArray) (hs : s.size < 1000000000) : si s = some (sK s) := by
 obtain ⟨r, h1, h2⟩ := Hf s aQ 0 (Nat.zero_le _) (by rw [aU]; omega)
 unfold si nS fY hH gY
 rw [h1, ve]
 simp only [a6, h2, aJ]
 by_cases z0 : s.size = 0
 ·simp [z0, sK]
 ·by_cases z1 : 24 < s.size
  ·have : ¬ s.size ≤ 24 := by omega
   simp [z0, z1, sK, this, show (24 : Int) < (s.size : Int) by omega]
  ·have hz : ¬ (24 : Int) < (s.size : Int) := by omega
   have hb : ((s.data.toList.getD (0 : Int).toNat 0).toNat : Int) = (lx s 0 : Int) := rfl
   simp only [z0, decide_false, hz, Bool.false_eq_true, if_false, hb]
   rw [gd (by omega), gd (by omega)]
   simp only [decide_eq_true_eq]
   have : s.size ≤ 24 := by omega
   by_cases q1 : lx s 0 < 97
   ·have : ¬ 97 ≤ lx s 0 := by omega
    simp [show (lx s 0 : Int) < 97 by omega, sK, rc, this]
   ·by_cases q2 : 122 < lx s 0
    ·have : ¬ lx s 0 ≤ 122 := by omega
     simp [show ¬ (lx s 0 : Int) < 97 by omega, show (122 : Int) < (lx s 0 : Int) by omega, sK, rc, this]
    ·simp [show ¬ (lx s 0 : Int) < 97 by omega, show ¬ (122 : Int) < (lx s 0 : Int) by omega, sK, rc, show 1 ≤ s.size by omega, this, show 97 ≤ lx s 0 by omega, show lx s 0 ≤ 122 by omega]
def FC (s : ByteArray) (i : Nat) : Bool := !rc (lx s i) && (i == 0 || !other (lx s i))
theorem JK (s : ByteArray) (hs : s.size < 1000000000) (k i : Nat) (hi : i < s.size) : eU s (k + 1) (i : Int) = if FC s i = true then some false else eU s k ((i + 1 : Nat) : Int) := by
 rw [eU, ← aJ]
 have hb : ((s.data.toList.getD (i : Int).toNat 0).toNat : Int) = (lx s i : Int) := rfl
 have hw : i64.wrap ((i : Int) + 1) = ((i + 1 : Nat) : Int) := by rw [zd (by omega) (by omega)]; omega
 have hg : 0 ≤ (i : Int) ∧ (i : Int) < (s.size : Int) := by omega
 rw [show decide ((i : Int) < (s.size : Int)) = true by simp [hg.2], aH]
 simp only [u6, rm, rf, hb, hw, a6, gd hg]
 have e1 : ((lx s i : Int) == 95) = (lx s i == 95) := by rw [Bool.eq_iff_iff]; simp; omega
 have e2 : (decide ((97 : Int) ≤ lx s i)) = decide (97 ≤ lx s i) := by rw [Bool.eq_iff_iff]; simp; omega
 have e3 : (decide ((lx s i : Int) ≤ 122)) = decide (lx s i ≤ 122) := by rw [Bool.eq_iff_iff]; simp; omega
 have e4 : (decide ((48 : Int) ≤ lx s i)) = decide (48 ≤ lx s i) := by rw [Bool.eq_iff_iff]; simp; omega
 have e5 : (decide ((lx s i : Int) ≤ 57)) = decide (lx s i ≤ 57) := by rw [Bool.eq_iff_iff]; simp; omega
 have e6 : ((i : Int) == 0) = (i == 0) := by rw [Bool.eq_iff_iff]; simp
 simp only [e1, e2, e3, e4, e5, e6, FC, rc, other]
 generalize hq : eU s k ((i + 1 : Nat) : Int) = q
 generalize (lx s i == 95) = b1
 generalize decide (97 ≤ lx s i) = b2
 generalize decide (lx s i ≤ 122) = b3
 generalize decide (48 ≤ lx s i) = b4
 generalize decide (lx s i ≤ 57) = b5
 generalize (i == 0) = b6
 cases b1 <;> cases b2 <;> cases b3 <;> cases b4 <;> cases b5 <;> cases b6 <;> rfl
theorem Nq (s : ByteArray) (hs : s.size < 1000000000) : vh s = some (sK s) := by
 have hl := rj (f := fun k i => eU s k (i : Int)) (n := s.size) (P := FC s) (A := fun _ => some false) (B := some true) (fun k i hi => JK s hs k i hi)
  (fun k => by rw [eU]; simp only [Int.lt_irrefl, decide_false, ax]; rfl) aQ 0 (Nat.zero_le _) (by rw [aU]; omega)
 have hl : eU s aQ (0 : Int) = _ := hl
 unfold vh uS
 rw [hl]
 simp only [aJ]
 by_cases z0 : s.size = 0
 ·simp [z0, sK]
 ·by_cases z1 : 24 < s.size
  ·have : ¬ s.size ≤ 24 := by omega
   simp [z0, z1, sK, this, show (24 : Int) < (s.size : Int) by omega]
  ·have hz : ¬ (24 : Int) < (s.size : Int) := by omega
   have hz2 : ¬ (s.size : Int) < 1 := by omega
   simp only [hz, hz2, decide_false, Bool.false_eq_true, if_false]
   have e : (first (FC s) 0 s.size).isNone = (rc (lx s 0) && (first (Qp s) 0 s.size).isNone) := by
    rw [Bool.eq_iff_iff, gZ, Option.isNone_iff_eq_none, Option.isNone_iff_eq_none, ye, ye]
    constructor
    ·intro h
     have h0 := h 0 (gO _) (by omega)
     simp only [FC, beq_self_eq_true, Bool.true_or, Bool.and_true] at h0
     have h0' : rc (lx s 0) = true := by simpa using h0
     refine ⟨h0', fun j _ hj => ?_⟩
     have h1 := h j (Nat.zero_le _) hj
     simp only [FC, Qp, G6] at h1 ⊢
     cases hs : rc (lx s j) <;> cases ho : other (lx s j) <;> simp_all
    ·rintro ⟨h0, h⟩ j _ hj
     have h1 := h j (Nat.zero_le _) hj
     simp only [FC, Qp, G6] at h1 ⊢
     by_cases hj0 : j = 0
     ·subst hj0; simp [h0]
     ·cases hs : rc (lx s j) <;> cases ho : other (lx s j) <;> simp_all
   have : (first (FC s) 0 s.size).elim (some true) (fun _ => some false) = some ((first (FC s) 0 s.size).isNone) := by cases first (FC s) 0 s.size <;> rfl
   rw [this, e]
   simp [sK, show 1 ≤ s.size by omega, show s.size ≤ 24 by omega]
mutual
def j3 : am → Nat
 | ⟨_, _, fs⟩ => dK fs + 1
def dK : List (kV am) → Nat
 | [] => 0
 | f :: l => wq f + dK l
def wq : kV am → Nat
 | ⟨_, n, _, t⟩ => n.size + j3 t + 1
end
theorem jt : ∀ {l : List ae} {x : ae}, x ∈ l → wq x ≤ dK l
 | [], _, h => by cases h
 | y :: l, x, h => by
  simp only [dK]
  rcases List.mem_cons.1 h with rfl | h
  ·omega
  ·have := jt h; omega
theorem iN : ∀ x : ae, wq x = x.name.size + j3 x.type + 1
 | ⟨_, _, _, _⟩ => by simp only [wq]
theorem pT : ∀ x : am, j3 x = dK x.fields + 1
 | ⟨_, _, _⟩ => by simp only [j3]
theorem cO : ∀ l : List ae, l.length ≤ dK l
 | [] => by simp [dK]
 | x :: l => by
  have := cO l
  have := iN x
  simp only [dK, List.length_cons]; omega
theorem aq {i n : Nat} (h : i < n) (hn : n < 1000000000) : i64.wrap ((i : Int) + 1) = ((i + 1 : Nat) : Int) := by rw [zd (by omega) (by omega)]; omega
theorem aE {α : Type} {xs : List α} {i : Nat} (h : i < xs.length) : at? xs (i : Int) = some xs[i] := by unfold at?; simp [h]
theorem aW {i n : Nat} (h : i < n) : decide ((i : Int) < (n : Int)) = true := by simp [h]
def TL (fs : List ae) (i : Nat) : ByteArray := (fs[i]?.map (·.name)).getD ByteArray.empty
theorem zw {fs : List ae} {i : Nat} (h : i < fs.length) : TL fs i = fs[i].name := by simp [TL, h]
def Be (fs : List ae) (i : Nat) : Bool := !sK (TL fs i)
def Tk (fs : List ae) (i j : Nat) : Bool := (TL fs j).toList == (TL fs i).toList
def GE (fs : List ae) (i : Nat) : Bool := (first (Tk fs i) 0 i).isSome
def Jt (fs : List ae) : Bool := (first (Be fs) 0 fs.length).isSome
def HN (fs : List ae) : Bool := (first (GE fs) 0 fs.length).isSome
structure Dn (fs : List ae) : Prop where
 len : fs.length < 1000000000
 nam : ∀ f ∈ fs, f.name.size < 1000000000
theorem QU {fs : List ae} (h : dK fs < 1000000000) : Dn fs :=
 ⟨by have := cO fs; omega, fun f hf => by have := jt hf; have := iN f; omega⟩
theorem RL : ∀ f : ae, kV.mk f.id f.name f.need (am.mk f.type.kind f.type.scale f.type.fields) = f
 | ⟨_, _, _, ⟨_, _, _⟩⟩ => rfl
theorem RD : ∀ t : am, am.mk t.kind t.scale t.fields = t
 | ⟨_, _, _⟩ => rfl
theorem Nb {fs : List ae} (ho : Dn fs) : bT fs = some (Jt fs) := by
 have hl := rj (f := fun k i => aI fs k (i : Int)) (n := fs.length) (P := Be fs) (A := fun i => some (i : Int)) (B := some (-1)) (fun k i hi => by
   show aI fs (k + 1) (i : Int) = _
   rw [aI, aW hi, aH, aE hi, a6, vH, OL _ (ho.nam _ (iA hi)), aq hi ho.len]
   simp only [a6, aJ, Be, zw hi])
  (fun k => by rw [aI]; simp only [Int.lt_irrefl, decide_false, ax]; rfl) aQ 0 (Nat.zero_le _) (by rw [aU]; have := ho.len; omega)
 have hl : aI fs aQ (0 : Int) = _ := hl
 unfold bT cU
 rw [hl]
 unfold Jt
 cases first (Be fs) 0 fs.length with
 | none => rfl
 | some j => simp [a6]
theorem MN {fs : List ae} (ho : Dn fs) {i : Nat} (hi : i < fs.length) : bR ((fs.drop (0 : Int).toNat).take ((i : Int).toNat - (0 : Int).toNat)) fs[i] = some (GE fs i, fs[i]) := by
 have ep : (fs.drop (0 : Int).toNat).take ((i : Int).toNat - (0 : Int).toNat) = fs.take i := by simp
 rw [ep]
 have hlen : (fs.take i).length = i := by simp; omega
 have hl := rj (f := fun k j => aB (fs.take i) k fs[i].id fs[i].name fs[i].need fs[i].type.kind fs[i].type.scale fs[i].type.fields (j : Int)) (n := i) (P := Tk fs i) (A := fun j => some ((j : Int), fs[i])) (B := some (-1, fs[i])) (fun k j hj => by
   have hj' : j < (fs.take i).length := by rw [hlen]; exact hj
   have hjf : j < fs.length := by omega
   show aB (fs.take i) (k + 1) _ _ _ _ _ _ (j : Int) = _
   rw [aB, aW hj', aH, aE hj', a6, vr, aq hj (by have := ho.len; omega)]
   simp only [a6, aJ, Tk, zw hi, zw hjf, List.getElem_take, RL])
  (fun k => by
   show aB (fs.take i) (k + 1) _ _ _ _ _ _ (i : Int) = _
   rw [aB]; simp only [hlen, Int.lt_irrefl, decide_false, ax, cG, RL]) aQ 0 (Nat.zero_le _) (by rw [aU]; have := ho.len; omega)
 have hl : aB (fs.take i) aQ _ _ _ _ _ _ (0 : Int) = _ := hl
 unfold bR cV
 rw [hl]
 unfold GE
 cases first (Tk fs i) 0 i with
 | none => rfl
 | some j => simp [a6]
theorem HD {t : am} (ho : Dn t.fields) : fG t aQ (0 : Int) = some (if HN t.fields = true then 5 else 0) := by
 have hl := rj (f := fun k i => fG t k (i : Int)) (n := t.fields.length) (P := GE t.fields) (A := fun _ => some 5) (B := some 0) (fun k i hi => by
   show fG t (k + 1) (i : Int) = _
   rw [fG, aW hi, aH, aE hi, a6, gd (by omega), MN ho hi, aq hi ho.len]
   simp only [a6, aJ])
  (fun k => by rw [fG]; simp only [Int.lt_irrefl, decide_false, ax]; rfl) aQ 0 (Nat.zero_le _) (by rw [aU]; have := ho.len; omega)
 have hl : fG t aQ (0 : Int) = _ := hl
 rw [hl]
 unfold HN
 cases first (GE t.fields) 0 t.fields.length <;> rfl
theorem Pm {t : am} (ho : Dn t.fields) (rec2 : Int → Option Int) {i : Nat} (hi : i < t.fields.length) : gr rec2 t (i : Int) aQ (0 : Int) = if GE t.fields i = true then some 5 else rec2 ((i + 1 : Nat) : Int) := by
 have hl := rj (f := fun k j => gr rec2 t (i : Int) k (j : Int)) (n := i) (P := Tk t.fields i) (A := fun j => some 5) (B := rec2 ((i + 1 : Nat) : Int)) (fun k j hj => by
   have hjf : j < t.fields.length := by omega
   show gr rec2 t (i : Int) (k + 1) (j : Int) = _
   rw [gr, aW hj, aH, aE hjf, aE hi, aq hj (by have := ho.len; omega)]
   simp only [a6, aJ, Tk, zw hi, zw hjf])
  (fun k => by
   show gr rec2 t (i : Int) (k + 1) (i : Int) = _
   rw [gr]; simp only [Int.lt_irrefl, decide_false, ax, xi]; rw [aq hi ho.len]) aQ 0 (Nat.zero_le _) (by rw [aU]; have := ho.len; omega)
 have hl : gr rec2 t (i : Int) aQ (0 : Int) = _ := hl
 rw [hl]
 unfold GE
 cases first (Tk t.fields i) 0 i <;> simp
theorem Ny {t : am} (ho : Dn t.fields) : fK t aQ (0 : Int) = some (if HN t.fields = true then 5 else 0) := by
 have hl := rj (f := fun k i => fK t k (i : Int)) (n := t.fields.length) (P := GE t.fields) (A := fun _ => some 5) (B := some 0) (fun k i hi => by
   show fK t (k + 1) (i : Int) = _
   rw [fK, aW hi, aH, Pm ho _ hi])
  (fun k => by rw [fK]; simp only [Int.lt_irrefl, decide_false, ax]; rfl) aQ 0 (Nat.zero_le _) (by rw [aU]; have := ho.len; omega)
 have hl : fK t aQ (0 : Int) = _ := hl
 rw [hl]
 unfold HN
 cases first (GE t.fields) 0 t.fields.length <;> rfl
theorem Pw {t : am} (ho : Dn t.fields) : io t aQ (0 : Int) = some (if Jt t.fields = true then 4 else if HN t.fields = true then 5 else 0) := by
 have hl := rj (f := fun k i => io t k (i : Int)) (n := t.fields.length) (P := Be t.fields) (A := fun _ => some 4) (B := some (if HN t.fields = true then 5 else 0)) (fun k i hi => by
   show io t (k + 1) (i : Int) = _
   rw [io, aW hi, aH, aE hi, a6, Nq _ (ho.nam _ (iA hi)), aq hi ho.len]
   simp only [a6, aJ, Be, zw hi])
  (fun k => by rw [io]; simp only [Int.lt_irrefl, decide_false, ax, w5]; exact Ny ho) aQ 0 (Nat.zero_le _) (by rw [aU]; have := ho.len; omega)
 have hl : io t aQ (0 : Int) = _ := hl
 rw [hl]
 unfold Jt
 cases first (Be t.fields) 0 t.fields.length <;> rfl
def vf (t : am) : Int :=
 if t.kind = 6 then (if t.fields.length ≠ 1 ∨ (TL t.fields 0).size ≠ 0 then 1 else 0)
 else if t.kind ≠ 7 then (if 0 < t.fields.length then 1 else 0)
 else if t.fields.length = 0 then 1 else if Jt t.fields = true then 4 else if HN t.fields = true then 5 else 0
def ED (t : am) : Prop := t.scale ≠ 0 ∧ (t.kind ≠ 3 ∨ t.scale < 0 ∨ 12 < t.scale)
instance (t : am) : Decidable (ED t) := by unfold ED; infer_instance
def shp (t : am) : Int := if t.kind < 1 ∨ 7 < t.kind then 3 else if ED t then 1 else vf t
theorem Qq {t : am} (ho : Dn t.fields) : uK t = some (vf t) := by
 unfold uK qo vf
 rw [Nb ho, HD ho]
 simp only [a6, aJ]
 by_cases h6 : t.kind = 6
 ·simp only [h6, beq_self_eq_true, if_true]
  by_cases hl : t.fields.length = 1
  ·have : (0 : Nat) < t.fields.length := by omega
   rw [show at? t.fields (0 : Int) = some t.fields[0] from aE (i := 0) this]
   simp only [hl, a6, ve, zw this]
   by_cases hz : t.fields[0].name.size = 0 <;> simp [hz]
  ·simp [hl, show ((t.fields.length : Int) = 1) = False from eq_false (by omega)]
 ·by_cases h7 : t.kind = 7
  ·simp [h7]
   by_cases hl : t.fields = []
   ·simp [hl]
   ·simp [hl]
    by_cases hb : Jt t.fields = true
    ·simp [hb]
    ·simp [hb]
  ·simp [h6, h7]
   by_cases hl : 0 < t.fields.length
   ·simp [hl]
   ·simp [hl]
theorem SF {t : am} (ho : Dn t.fields) : yt t = some (shp t) := by
 have hj3 : ∀ x, kB t x = if x = true then some 1 else if t.kind ≠ 7 then some 0 else some (if Jt t.fields = true then 4 else if HN t.fields = true then 5 else 0) := by
  intro x
  unfold kB
  rw [Pw ho]
  cases x <;> simp [aJ]
 have hleaf : fm t.kind = some (decide (t.kind ≠ 6 ∧ t.kind ≠ 7)) := by
  unfold fm pd
  by_cases h6 : t.kind = 6 <;> by_cases h7 : t.kind = 7 <;> simp [h6, h7, aJ]
 have hj1 : ∀ x, kE t x = if x = true then some 1 else some (vf t) := by
  intro x
  cases x with
  | true => rfl
  | false =>
   unfold kE pQ vf
   rw [hleaf]
   simp only [aJ, a6, hj3]
   by_cases h6 : t.kind = 6
   ·simp only [h6, beq_self_eq_true, if_true]
    by_cases hl : t.fields.length = 1
    ·have : (0 : Nat) < t.fields.length := by omega
     rw [show at? t.fields (0 : Int) = some t.fields[0] from aE (i := 0) this]
     simp only [hl, a6, ve, zw this]
     by_cases hz : t.fields[0].name.size = 0 <;> simp [hz]
    ·simp [hl, show ((t.fields.length : Int) = 1) = False from eq_false (by omega)]
   ·by_cases h7 : t.kind = 7
    ·simp [h7]
     by_cases hl : t.fields = []
     ·simp [hl]
     ·simp [hl]
    ·simp [h6, h7]
     by_cases hl : 0 < t.fields.length
     ·simp [hl]
     ·simp [hl]
 unfold yt shp gg oB
 simp only [aJ, hj1, a6]
 by_cases a1 : t.kind < 1
 ·simp [a1, show ¬ (1 : Int) ≤ t.kind by omega, a6]
 ·by_cases a2 : 7 < t.kind
  ·simp [a2, show (1 : Int) ≤ t.kind by omega, show ¬ t.kind ≤ 7 by omega, a6]
  ·simp only [a1, a2, show (1 : Int) ≤ t.kind by omega, show t.kind ≤ 7 by omega, decide_true, or_self, if_false, if_true, Bool.not_true, a6]
   unfold ED
   by_cases h3 : t.kind = 3
   ·by_cases b1 : t.scale < 0
    ·simp [h3, b1, show ¬ (0 : Int) ≤ t.scale by omega, show t.scale ≠ 0 by omega, a6]
    ·by_cases b2 : 12 < t.scale
     ·simp [h3, b1, b2, show (0 : Int) ≤ t.scale by omega, show ¬ t.scale ≤ 12 by omega, show t.scale ≠ 0 by omega, a6]
     ·simp [h3, b1, b2, show (0 : Int) ≤ t.scale by omega, show t.scale ≤ 12 by omega, a6]
   ·by_cases b0 : t.scale = 0 <;> simp [h3, b0]
inductive V : am → Prop where
 | mk (t : am) (h1 : shp t = 0) (h2 : ∀ f, f ∈ t.fields → V f.type) : V t
theorem UL (t : am) : vw t = some (decide (t.kind ≠ 6 ∧ t.kind ≠ 7)) := by
 unfold vw sP
 by_cases h6 : t.kind = 6 <;> by_cases h7 : t.kind = 7 <;> simp [h6, h7, aJ]
theorem zFS (k : Int) : fm k = some (decide (k ≠ 6 ∧ k ≠ 7)) := by
 unfold fm pd
 by_cases h6 : k = 6 <;> by_cases h7 : k = 7 <;> simp [h6, h7, aJ]
theorem Q3 {t : am} (ho : Dn t.fields) (q : am → Int → dB → Option (Int × dB)) (l z : Int) :
  fQ q t l z = if shp t ≠ 0 then some (shp t, ⟨z⟩) else dM q t l aQ z 0 := by
 have hj4 : ∀ x, eV q t l z x = if x = true then some (1, ⟨z⟩) else if vf t ≠ 0 then some (vf t, ⟨z⟩) else dM q t l aQ z 0 := by
  intro x
  unfold eV
  rw [Qq ho]
  cases x <;> simp [aJ, a6]
 unfold fQ ko shp
 simp only [aJ, hj4]
 by_cases a1 : t.kind < 1
 ·simp [a1]
 ·by_cases a2 : 7 < t.kind
  ·simp [a1, a2]
  ·simp only [a1, a2, decide_false, or_self, if_false, Bool.false_eq_true]
   unfold ED
   by_cases b0 : t.scale = 0
   ·simp [b0]
   ·by_cases h3 : t.kind = 3
    ·by_cases b1 : t.scale < 0
     ·simp [b0, h3, b1]
     ·by_cases b2 : 12 < t.scale
      ·simp [b0, h3, b1, b2]
      ·simp [b0, h3, b1, b2]
    ·simp [b0, h3]
theorem Qz {t : am} (ho : Dn t.fields) (q : am → Int → Int → Option (Int × Int)) (l z : Int) :
  jW q t l z = if shp t ≠ 0 then some (shp t, z) else iy q t l aQ z 0 := by
 unfold jW
 rw [SF ho]
 simp [aJ, a6]
theorem Wa {t : am} (h : shp t = 0) (hf : ∀ f ∈ t.fields, V f.type) : V t := .mk t h hf
theorem Kh {t : am} (ho : Dn t.fields) (l : Int) (hl0 : -10 ≤ l) (hl1 : l ≤ 10) (q1 : am → Int → dB → Option (Int × dB)) (q2 : am → Int → Int → Option (Int × Int))
  (hq : ∀ f ∈ t.fields, ∀ n : Int, 0 ≤ n → n ≤ 40 → ∃ e m, q1 f.type (l + 1) ⟨n⟩ = some (e, ⟨m⟩) ∧ q2 f.type (l + 1) n = some (e, m) ∧ 0 ≤ m ∧ m ≤ 40 ∧ (e = 0 → V f.type)) :
  ∀ (kk i : Nat) (n : Int), i ≤ t.fields.length → t.fields.length - i < kk → 0 ≤ n → n ≤ 40 →
   ∃ e m, dM q1 t l kk n (i : Int) = some (e, ⟨m⟩) ∧ iy q2 t l kk n (i : Int) = some (e, m) ∧ 0 ≤ m ∧ m ≤ 40 ∧ (e = 0 → ∀ j, i ≤ j → ∀ h : j < t.fields.length, V t.fields[j].type) := by
 intro kk
 induction kk with
 | zero => intro i n _ h; omega
 | succ kk ih =>
  intro i n hi hk n0 n1
  rw [dM, iy]
  by_cases h : i = t.fields.length
  ·subst h
   simp only [Int.lt_irrefl, decide_false, ax]
   exact ⟨0, n, rfl, rfl, n0, n1, fun _ j h1 h2 => by omega⟩
  ·have hlt : i < t.fields.length := by omega
   rw [aW hlt, aH, aH, aE hlt, a6, a6, zd (x := l + 1) (by omega) (by omega), aq hlt ho.len]
   obtain ⟨e, m, h1, h2, h3, h4, h5⟩ := hq _ (iA hlt) n n0 n1
   rw [h1, h2]
   simp only [a6, aJ]
   by_cases he : e = 0
   ·obtain ⟨e', m', g1, g2, g3, g4, g5⟩ := ih (i + 1) m (by omega) (by omega) h3 h4
    refine ⟨e', m', by simpa [he] using g1, by simpa [he] using g2, g3, g4, fun h0 j hj hjl => ?_⟩
    by_cases hji : j = i
    ·subst hji; exact h5 he
    ·exact g5 h0 j (by omega) hjl
   ·exact ⟨e, m, by simp [he], by simp [he], h3, h4, fun h0 => absurd h0 he⟩
theorem OH : ∀ (d k : Nat) (t : am) (l n : Int), l = 5 - d → d ≤ 5 → d < k → j3 t < 1000000000 → 0 ≤ n → n ≤ 40 →
  ∃ e m, bz k t l ⟨n⟩ = some (e, ⟨m⟩) ∧ en k t l n = some (e, m) ∧ 0 ≤ m ∧ m ≤ 40 ∧ (e = 0 → V t) := by
 intro d
 induction d with
 | zero =>
  intro k t l n hl _ hk hs n0 n1
  obtain ⟨k, rfl⟩ : ∃ k', k = k' + 1 := ⟨k - 1, by omega⟩
  have hl4 : (4 : Int) < l := by omega
  rw [bz, en]
  simp only [hl4, decide_true, aH, fO]
  exact ⟨7, n, rfl, rfl, n0, n1, fun h => by omega⟩
 | succ d ih =>
  intro k t l n hl hd hk hs n0 n1
  obtain ⟨k, rfl⟩ : ∃ k', k = k' + 1 := ⟨k - 1, by omega⟩
  have hl4 : ¬ (4 : Int) < l := by omega
  have hsz := pT t
  have ho : Dn t.fields := QU (by omega)
  have hq : ∀ f ∈ t.fields, ∀ n : Int, 0 ≤ n → n ≤ 40 → ∃ e m, bz k f.type (l + 1) ⟨n⟩ = some (e, ⟨m⟩) ∧ en k f.type (l + 1) n = some (e, m) ∧ 0 ≤ m ∧ m ≤ 40 ∧ (e = 0 → V f.type) := by
   intro f hf n n0 n1
   have h1 := jt hf
   have h2 := iN f
   exact ih k f.type (l + 1) n (by omega) (by omega) (by omega) (by omega) n0 n1
  have main : ∀ z : Int, 0 ≤ z → z ≤ 40 → ∃ e m, fQ (bz k) t l z = some (e, ⟨m⟩) ∧ jW (en k) t l z = some (e, m) ∧ 0 ≤ m ∧ m ≤ 40 ∧ (e = 0 → V t) := by
   intro z z0 z1
   rw [Q3 ho, Qz ho]
   by_cases hsh : shp t = 0
   ·obtain ⟨e, m, h1, h2, h3, h4, h5⟩ := Kh ho l (by omega) (by omega) _ _ hq aQ 0 z (Nat.zero_le _) (by rw [aU]; have := ho.len; omega) z0 z1
    refine ⟨e, m, by simpa [hsh] using h1, by simpa [hsh] using h2, h3, h4, fun he => Wa hsh (fun f hf => ?_)⟩
    obtain ⟨j, hj, rfl⟩ := List.getElem_of_mem hf
    exact h5 he j (Nat.zero_le _) hj
   ·exact ⟨shp t, z, by simp [hsh], by simp [hsh], z0, z1, fun h => absurd h hsh⟩
  rw [bz, en]
  simp only [hl4, decide_false, ax, UL, zFS, a6, fO]
  by_cases hleaf : t.kind ≠ 6 ∧ t.kind ≠ 7
  ·simp only [hleaf, ne_eq, not_false_eq_true, and_self, decide_true, aH]
   by_cases h40 : n = 40
   ·simp only [h40, beq_self_eq_true, aH]
    exact ⟨7, 40, rfl, rfl, by omega, by omega, fun h => by omega⟩
   ·have : (n == 40) = false := by simpa using h40
    simp only [this, ax]
    rw [zd (x := n + 1) (by omega) (by omega)]
    exact main (n + 1) (by omega) (by omega)
  ·simp only [hleaf, decide_false, ax]
   exact main n n0 n1
theorem lW (t : am) (hs : j3 t < 1000000000) : ∃ e, cr t = some e ∧ jM t = some e ∧ (e = 0 → V t) := by
 obtain ⟨e, m, h1, h2, h3, h4, h5⟩ := OH 4 aQ t 1 0 (by omega) (by omega) (by rw [aU]; omega) hs (by omega) (by omega)
 refine ⟨e, ?_, ?_, h5⟩
 ·unfold cr; rw [h1]; rfl
 ·unfold jM; rw [h2]; rfl
end Go.Proofs.YtfnmbpecdjncfaaGreatDoor
namespace Go.Proofs.YtfnmbpecdjncfaaGreatDoor
open Go Go.SX Go.SX.Cal Go.Lib
open Go.IntKind (i64)
mutual
def dQ : ac → Nat
 | ⟨_, _, _, s, it⟩ => s.size + ig it + 1
def ig : List ac → Nat
 | [] => 0
 | x :: l => dQ x + ig l
end
theorem xx : ∀ v : ac, dQ v = v.s.size + ig v.items + 1
 | ⟨_, _, _, _, _⟩ => by simp only [dQ]
theorem lH : ∀ {l : List ac} {x : ac}, x ∈ l → dQ x ≤ ig l
 | [], _, h => by cases h
 | y :: l, x, h => by
  simp only [ig]
  rcases List.mem_cons.1 h with rfl | h
  ·omega
  ·have := lH h; omega
theorem xT : ∀ v : ac, 1 ≤ dQ v
 | ⟨_, _, _, _, _⟩ => by simp only [dQ]; omega
theorem pH : ∀ l : List ac, l.length ≤ ig l
 | [] => by simp [ig]
 | x :: l => by
  have := pH l
  have := xT x
  simp only [ig, List.length_cons]; omega
theorem D9 (b x : Bool) : ak b (some x) (some false) = some (b && x) := by cases b <;> rfl
theorem cz {α β : Type} (a : α) (f : α → Option β) : au (some a) f = f a := rfl
theorem Fg {P : Nat → Bool} {n : Nat} : ∀ (d i : Nat), i + d ≤ n → (∀ j, i ≤ j → j < i + d → P j = false) → first P i n = first P (i + d) n
 | 0, i, _, _ => rfl
 | d + 1, i, h, hP => by
  rw [sB (by omega), hP i (by omega) (by omega)]
  simp only [Bool.false_eq_true, if_false]
  rw [Fg d (i + 1) (by omega) (fun j h1 h2 => hP j (by omega) (by omega))]
  congr 1; omega
theorem Iu (s : ByteArray) (i : Nat) (h : i < s.size) (hb : ¬ lx s i < 128) :
  1 ≤ (Utf8.decode s i).2 ∧ i + (Utf8.decode s i).2 ≤ s.size ∧ ∀ j, i ≤ j → j < i + (Utf8.decode s i).2 → 128 ≤ lx s j := by
 have e := Eb s i h
 have one : ∀ j, i ≤ j → j < i + 1 → 128 ≤ lx s j := fun j h1 h2 => by
  have : j = i := by omega
  subst this; omega
 have ct : ∀ k, (decide (i + k < s.size) && (s.get! (i + k)).toNat / 64 == 2) = true → i + k < s.size ∧ 128 ≤ lx s (i + k) := by
  intro k hk
  simp only [gZ, decide_eq_true_eq, beq_iff_eq] at hk
  rw [Eb s _ hk.1] at hk
  exact ⟨hk.1, by omega⟩
 unfold Utf8.decode
 simp only [Nat.add_zero, e, if_neg hb]
 split
 ·rename_i h1
  simp only [gZ] at h1
  obtain ⟨l1, b1⟩ := ct 1 (by simpa using h1.2)
  split
  ·refine ⟨by simp, by simp only; omega, fun j h2 h3 => ?_⟩
   simp only at h3
   by_cases hj : j = i
   ·subst hj; omega
   ·have : j = i + 1 := by omega
    subst this; exact b1
  ·exact ⟨by simp, by simp only; omega, one⟩
 ·split
  ·rename_i h1
   simp only [gZ] at h1
   obtain ⟨l1, b1⟩ := ct 1 (by simpa using h1.1.2)
   obtain ⟨l2, b2⟩ := ct 2 (by simpa using h1.2)
   split
   ·refine ⟨by simp, by simp only; omega, fun j h2 h3 => ?_⟩
    simp only at h3
    by_cases hj : j = i
    ·subst hj; omega
    ·by_cases hj : j = i + 1
     ·subst hj; exact b1
     ·have : j = i + 2 := by omega
      subst this; exact b2
   ·exact ⟨by simp, by simp only; omega, one⟩
  ·split
   ·rename_i h1
    simp only [gZ] at h1
    obtain ⟨l1, b1⟩ := ct 1 (by simpa using h1.1.1.2)
    obtain ⟨l2, b2⟩ := ct 2 (by simpa using h1.1.2)
    obtain ⟨l3, b3⟩ := ct 3 (by simpa using h1.2)
    split
    ·refine ⟨by simp, by simp only; omega, fun j h2 h3 => ?_⟩
     simp only at h3
     by_cases hj : j = i
     ·subst hj; omega
     ·by_cases hj : j = i + 1
      ·subst hj; exact b1
      ·by_cases hj : j = i + 2
       ·subst hj; exact b2
       ·have : j = i + 3 := by omega
        subst this; exact b3
    ·exact ⟨by simp, by simp only; omega, one⟩
   ·exact ⟨by simp, by simp only; omega, one⟩
def Ja (s : ByteArray) (i : Nat) : Bool := decide (lx s i < 32) || lx s i == 127
theorem Kx (s : ByteArray) : ∀ k i, i ≤ s.size → s.size - i < k → kD s k i = some (first (Ja s) i s.size).isNone := by
 intro k
 induction k with
 | zero => intro i _ h; omega
 | succ k ih =>
  intro i hi hk
  rw [kD]
  by_cases h : i = s.size
  ·subst h
   rw [sy]
   simp only [Nat.lt_irrefl, decide_false, ax, w8]
   rfl
  ·have hlt : i < s.size := by omega
   simp only [hlt, decide_true, aH, tg, aJ]
   by_cases hb : lx s i < 128
   ·rw [Dh s i hlt hb, sB hlt]
    by_cases h1 : lx s i < 32
    ·have : Ja s i = true := by simp [Ja, h1]
     simp [this, show ((lx s i : Nat) : Int) < 32 by omega]
    ·have e1 : ¬ ((lx s i : Nat) : Int) < 32 := by omega
     by_cases h2 : lx s i = 127
     ·have : Ja s i = true := by simp [Ja, h2]
      simp [this, h2]
     ·have : Ja s i = false := by simp [Ja, h1, h2]
      have e2 : ¬ ((lx s i : Nat) : Int) = 127 := by omega
      simp only [this, Int.ofNat_eq_natCast, e1, decide_false, Bool.false_eq_true, if_false, beq_iff_eq, e2]
      exact ih (i + 1) (by omega) (by omega)
   ·have h1 := Da s i hlt hb
    obtain ⟨h2, h3, h4⟩ := Iu s i hlt hb
    have e1 : ¬ (((Utf8.decode s i).1 : Nat) : Int) < 32 := by omega
    have e2 : ¬ (((Utf8.decode s i).1 : Nat) : Int) = 127 := by omega
    simp only [Int.ofNat_eq_natCast, e1, decide_false, Bool.false_eq_true, if_false, beq_iff_eq, e2]
    rw [ih _ h3 (by omega), Fg _ i h3 (fun j a b => by
     have := h4 j a b
     simp only [Ja, Bool.or_eq_false_iff, decide_eq_false_iff_not, beq_eq_false_iff_ne]
     omega)]
    simp
theorem Kp (s : ByteArray) (hs : s.size < 1000000000) : ∀ k i, i ≤ s.size → s.size - i < k → fw s k (i : Int) = some (first (Ja s) i s.size).isNone := by
 intro k
 induction k with
 | zero => intro i _ h; omega
 | succ k ih =>
  intro i hi hk
  rw [fw]
  by_cases h : i = s.size
  ·subst h
   rw [sy]
   simp only [Int.lt_irrefl, decide_false, ax, qB]
   rfl
  ·have hlt : i < s.size := by omega
   have g : (0 : Int) ≤ (i : Int) ∧ (i : Int) < (s.size : Int) := ⟨by omega, by omega⟩
   have e : ((s.data.toList.getD (i : Int).toNat 0).toNat : Int) = (lx s i : Int) := by simp [lx]
   simp only [aW hlt, aH, pn, if_pos g, cz, nA, aJ, e]
   rw [sB hlt, aq hlt hs]
   by_cases h1 : lx s i < 32
   ·have : Ja s i = true := by simp [Ja, h1]
    simp [this, show ((lx s i : Nat) : Int) < 32 by omega]
   ·have e1 : ¬ ((lx s i : Nat) : Int) < 32 := by omega
    by_cases h2 : lx s i = 127
    ·have : Ja s i = true := by simp [Ja, h2]
     simp [this, h2]
    ·have : Ja s i = false := by simp [Ja, h1, h2]
     have e2 : ¬ ((lx s i : Nat) : Int) = 127 := by omega
     simp only [this, e1, decide_false, Bool.false_eq_true, if_false, beq_iff_eq, e2]
     exact ih (i + 1) (by omega) (by omega)
def yq (s : ByteArray) : Bool := decide (s.size ≤ 256) && (validD s.data.toList && (first (Ja s) 0 s.size).isNone)
theorem Pf (s : ByteArray) (hs : s.size < 1000000000) : utf8_ValidString s = some (validD s.data.toList) := by
 unfold utf8_ValidString pn
 rw [if_pos (by omega)]
theorem Ua (s : ByteArray) (hs : s.size < 1000000000) : yv s = some (yq s) := by
 unfold yv sY yq
 rw [Pf s hs, Kx s aQ 0 (by omega) (by rw [aU]; omega)]
 by_cases h : s.size ≤ 256
 ·have : ¬ (256 : Int) < (s.size : Int) := by omega
  simp only [this, h, decide_false, decide_true, ax, cz]
  cases validD s.data.toList <;> rfl
 ·have : (256 : Int) < (s.size : Int) := by omega
  simp only [this, h, decide_false, decide_true, aH]
  rfl
theorem Sz (s : ByteArray) (hs : s.size < 1000000000) : qw s = some (yq s) := by
 have := Kp s hs aQ 0 (by omega) (by rw [aU]; omega)
 unfold qw nh yq
 rw [Pf s hs, show (0 : Int) = ((0 : Nat) : Int) from rfl, this]
 by_cases h : s.size ≤ 256
 ·have e : ¬ (256 : Int) < (s.size : Int) := by omega
  simp only [e, h, decide_false, decide_true, cz]
  cases validD s.data.toList <;> rfl
 ·have e : (256 : Int) < (s.size : Int) := by omega
  simp only [e, h, decide_false, decide_true, cz]
  cases validD s.data.toList <;> rfl
theorem Q8 (a b c : Int) : eQ a b c = some (decide (b ≤ a) && decide (a ≤ c)) := by
 unfold eQ nH; exact D9 _ _
theorem Qc (a b c : Int) : gg a b c = some (decide (b ≤ a) && decide (a ≤ c)) := by
 unfold gg oB; exact D9 _ _
def dX (v : ac) : Bool :=
 let bare := v.n == 0 && v.scale == 0
 let noS := decide (v.s.size = 0)
 let noI := ((v.items.length : Int) == 0)
 if v.kind = 0 then bare && (noS && noI)
 else if v.kind = 1 then (decide (0 ≤ v.n) && decide (v.n ≤ 1)) && (v.scale == 0 && (noS && noI))
 else if v.kind = 2 then (decide (-999999999999999999 ≤ v.n) && decide (v.n ≤ 999999999999999999)) && (v.scale == 0 && (noS && noI))
 else if v.kind = 3 then (decide (-999999999999999999 ≤ v.n) && decide (v.n ≤ 999999999999999999)) && ((decide (0 ≤ v.scale) && decide (v.scale ≤ 12)) && (noS && noI))
 else if v.kind = 4 then bare && (yq v.s && noI)
 else if v.kind = 5 then (decide (-62135596800 ≤ v.n) && decide (v.n ≤ 253402300799)) && (v.scale == 0 && (noS && noI))
 else if v.kind = 6 then bare && (noS && decide ((v.items.length : Int) ≤ 64))
 else if v.kind = 7 then bare && (noS && decide ((0 : Int) < (v.items.length : Int)))
 else false
theorem R6 (v : ac) (hs : v.s.size < 1000000000) : wN v = some (dX v) := by
 have j : ∀ x, oC v x = some (if v.kind = 0 then x && (decide (v.s.size = 0) && ((v.items.length : Int) == 0))
   else if v.kind = 1 then (decide (0 ≤ v.n) && decide (v.n ≤ 1)) && (v.scale == 0 && (decide (v.s.size = 0) && ((v.items.length : Int) == 0)))
   else if v.kind = 2 then (decide (-999999999999999999 ≤ v.n) && decide (v.n ≤ 999999999999999999)) && (v.scale == 0 && (decide (v.s.size = 0) && ((v.items.length : Int) == 0)))
   else if v.kind = 3 then (decide (-999999999999999999 ≤ v.n) && decide (v.n ≤ 999999999999999999)) && ((decide (0 ≤ v.scale) && decide (v.scale ≤ 12)) && (decide (v.s.size = 0) && ((v.items.length : Int) == 0)))
   else if v.kind = 4 then x && (yq v.s && ((v.items.length : Int) == 0))
   else if v.kind = 5 then (decide (-62135596800 ≤ v.n) && decide (v.n ≤ 253402300799)) && (v.scale == 0 && (decide (v.s.size = 0) && ((v.items.length : Int) == 0)))
   else if v.kind = 6 then x && (decide (v.s.size = 0) && decide ((v.items.length : Int) ≤ 64))
   else if v.kind = 7 then x && (decide (v.s.size = 0) && decide ((0 : Int) < (v.items.length : Int)))
   else false) := by
  intro x
  unfold oC oA mU mE mH oW my oH oK
  simp only [Q8, Ua v.s hs, cz, D9, ve]
  simp only [aJ, beq_iff_eq]
  repeat' split
  all_goals (first | rfl | simp_all)
 unfold wN
 rw [j, j]
 unfold dX
 cases v.n == 0
 ·simp only [ax, Bool.false_and]
 ·simp only [aH, Bool.true_and]
theorem To (v : ac) (hs : v.s.size < 1000000000) : yb v = some (dX v) := by
 have j : ∀ x, qg v x = some (if v.kind = 0 then x && (v.n == 0 && v.scale == 0)
   else if v.kind = 1 then x && ((decide (0 ≤ v.n) && decide (v.n ≤ 1)) && v.scale == 0)
   else if v.kind = 2 then x && ((decide (-999999999999999999 ≤ v.n) && decide (v.n ≤ 999999999999999999)) && v.scale == 0)
   else if v.kind = 3 then x && ((decide (-999999999999999999 ≤ v.n) && decide (v.n ≤ 999999999999999999)) && (decide (0 ≤ v.scale) && decide (v.scale ≤ 12)))
   else if v.kind = 4 then ((v.items.length : Int) == 0) && (v.n == 0 && (v.scale == 0 && yq v.s))
   else if v.kind = 5 then x && ((decide (-62135596800 ≤ v.n) && decide (v.n ≤ 253402300799)) && v.scale == 0)
   else if v.kind = 6 then decide (v.s.size = 0) && (v.n == 0 && (v.scale == 0 && decide ((v.items.length : Int) ≤ 64)))
   else if v.kind = 7 then decide (v.s.size = 0) && (v.n == 0 && (v.scale == 0 && decide ((0 : Int) < (v.items.length : Int))))
   else false) := by
  intro x
  unfold qg qe qj qf qh nZ ql nY nX
  simp only [Qc, Sz v.s hs, cz, D9, ve]
  simp only [aJ, beq_iff_eq]
  repeat' split
  all_goals (first | rfl | simp_all)
 unfold yb
 rw [j, j, ve]
 unfold dX
 generalize decide (v.s.size = 0) = a
 generalize ((v.items.length : Int) == 0) = b
 generalize yq v.s = t
 generalize (v.n == 0) = c
 generalize (v.scale == 0) = d
 generalize (decide (0 ≤ v.n) && decide (v.n ≤ 1)) = e1
 generalize (decide (-999999999999999999 ≤ v.n) && decide (v.n ≤ 999999999999999999)) = e2
 generalize (decide (0 ≤ v.scale) && decide (v.scale ≤ 12)) = e3
 generalize (decide (-62135596800 ≤ v.n) && decide (v.n ≤ 253402300799)) = e4
 generalize decide ((v.items.length : Int) ≤ 64) = e5
 generalize decide ((0 : Int) < (v.items.length : Int)) = e6
 cases a <;> simp only [ax, aH] <;> congr 1 <;> repeat' split
 all_goals (first | rfl | (cases b <;> cases c <;> cases d <;> simp <;> done) | (simp [Bool.and_comm, Bool.and_assoc, Bool.and_left_comm]))
def oG (f : ac → Int → Bool × Int) : List ac → Int → Bool × Int
 | [], z => (true, z)
 | v :: l, z => if (f v z).1 = true then oG f l (f v z).2 else (false, (f v z).2)
def DR (v : ac) (z : Int) : Int := if v.kind = 0 then z else z + 1
def j9 : Nat → ac → Int → Bool × Int
 | 0, v, z => (false, DR v z)
 | d + 1, v, z => if 256 < DR v z ∨ dX v = false then (false, DR v z) else oG (j9 d) v.items (DR v z)
def yo (v : ac) : Bool := (j9 4 v 0).1
theorem Gd {f : ac → Int → Bool × Int} : ∀ {l : List ac} {z : Int}, (∀ v ∈ l, ∀ z, 0 ≤ z → z ≤ 256 → 0 ≤ (f v z).2 ∧ (f v z).2 ≤ 257 ∧ ((f v z).1 = true → (f v z).2 ≤ 256)) → 0 ≤ z → z ≤ 256 →
  0 ≤ (oG f l z).2 ∧ (oG f l z).2 ≤ 257 ∧ ((oG f l z).1 = true → (oG f l z).2 ≤ 256)
 | [], z, _, h0, h1 => by simp only [oG]; omega
 | v :: l, z, hf, h0, h1 => by
  obtain ⟨a, b, c⟩ := hf v (by simp) z h0 h1
  simp only [oG]
  split
  ·rename_i h
   exact Gd (fun x hx => hf x (by simp [hx])) a (c h)
  ·exact ⟨a, b, fun h => by cases h⟩
theorem Dc : ∀ (d : Nat) (v : ac) (z : Int), 0 ≤ z → z ≤ 256 → 0 ≤ (j9 d v z).2 ∧ (j9 d v z).2 ≤ 257 ∧ ((j9 d v z).1 = true → (j9 d v z).2 ≤ 256)
 | 0, v, z, h0, h1 => by
  have hc : z ≤ DR v z ∧ DR v z ≤ z + 1 := by unfold DR; split <;> omega
  simp only [j9]
  exact ⟨by omega, by omega, fun h => by cases h⟩
 | d + 1, v, z, h0, h1 => by
  have hc : z ≤ DR v z ∧ DR v z ≤ z + 1 := by unfold DR; split <;> omega
  simp only [j9]
  split
  ·exact ⟨by omega, by omega, fun h => by cases h⟩
  ·rename_i h
   have : ¬ 256 < DR v z := fun e => h (.inl e)
   exact Gd (fun x _ => Dc d x) (by omega) (by omega)
theorem B2 (v : ac) (z : Int) (h0 : 0 ≤ z) (h1 : z ≤ 256) {β : Type} (f : Int → Option β) : ak (v.kind != (0 : Int)) (f (i64.wrap (z + 1))) (f z) = f (DR v z) := by
 rw [zd (by omega) (by omega)]
 unfold DR
 by_cases h : v.kind = 0
 ·simp [h, aJ]
 ·simp [h, aJ]
theorem I2 {d : Nat} (l : Int) (q : ac → Int → Int → Option (Bool × Int)) (xs : List ac) (hl : xs.length < 1000000000)
  (hq : ∀ v ∈ xs, ∀ z, 0 ≤ z → z ≤ 256 → q v l z = some (!(j9 d v z).1, (j9 d v z).2)) : ∀ (k i : Nat) (z : Int), i ≤ xs.length → xs.length - i < k → 0 ≤ z → z ≤ 256 →
  ∃ r : Int, be q xs l k z (i : Int) = some (r, (oG (j9 d) (xs.drop i) z).2) ∧ decide (0 ≤ r) = !(oG (j9 d) (xs.drop i) z).1 := by
 intro k
 induction k with
 | zero => intro i z _ h; omega
 | succ k ih =>
  intro i z hi hk h0 h1
  rw [be]
  by_cases h : i = xs.length
  ·subst h
   simp only [Int.lt_irrefl, decide_false, ax, List.drop_length, oG, cJ]
   exact ⟨-1, rfl, rfl⟩
  ·have hlt : i < xs.length := by omega
   have hm : xs[i] ∈ xs := iA hlt
   simp only [aW hlt, aH, aE hlt, cz, hq _ hm z h0 h1]
   rw [List.drop_eq_getElem_cons hlt]
   simp only [oG]
   obtain ⟨a, b, c⟩ := Dc d xs[i] z h0 h1
   cases hs : (j9 d xs[i] z).1 with
   | false =>
    simp only [Bool.not_false, aH, Bool.false_eq_true, if_false]
    exact ⟨_, rfl, by simp⟩
   | true =>
    simp only [Bool.not_true, ax, if_true]
    rw [aq hlt hl]
    exact ih (i + 1) _ (by omega) (by omega) a (c hs)
theorem M4 : ∀ (d k : Nat) (v : ac) (z : Int), d ≤ 4 → 4 * d + 4 ≤ k → dQ v < 1000000000 → 0 ≤ z → z ≤ 256 → m9 k v (5 - d : Int) z = some (j9 d v z) := by
 intro d
 induction d with
 | zero =>
  intro k v z _ hk hs h0 h1
  obtain ⟨k, rfl⟩ : ∃ q, k = q + 1 := ⟨k - 1, by omega⟩
  rw [m9, B2 v z h0 h1]
  unfold o8 mJ
  simp [j9, aH]
 | succ d ih =>
  intro k v z hd hk hs h0 h1
  obtain ⟨k, rfl⟩ : ∃ q, k = q + 4 := ⟨k - 4, by omega⟩
  have hsz := xx v
  have hlen := pH v.items
  rw [m9, B2 v z h0 h1]
  unfold o8 mJ
  rw [R6 v (by omega)]
  have e4 : ¬ (4 : Int) < 5 - ((d + 1 : Nat) : Int) := by omega
  have hc : z ≤ DR v z ∧ DR v z ≤ z + 1 := by unfold DR; split <;> omega
  simp only [e4, decide_false, ax, j9, cz]
  by_cases h2 : (256 : Int) < DR v z
  ·simp [h2, aH]
  ·cases hp : dX v with
   | false => simp [h2, aH, ax]
   | true =>
    simp only [h2, decide_false, ax, Bool.not_true, false_or, Bool.true_eq_false, if_false]
    have := I2 (d := d) (5 - ((d + 1 : Nat) : Int)) (j7 (k + 1)) v.items (by omega) (by
     intro x hx z h0 h1
     have := lH hx
     rw [j7, zd (by omega) (by omega), show (5 - ((d + 1 : Nat) : Int) + 1) = 5 - (d : Int) by omega, ih k x z (by omega) (by omega) (by omega) h0 h1]
     rfl) aQ 0 (DR v z) (by omega) (by rw [aU]; omega) (by omega) (by omega)
    obtain ⟨r, e1, e2⟩ := this
    rw [show ((0 : Nat) : Int) = (0 : Int) from rfl] at e1
    rw [aP, bB, e1]
    simp only [cz, e2, List.drop_zero, Bool.not_not]
theorem Bs (v : ac) (hs : dQ v < 1000000000) : lU v = some (yo v) := by
 unfold lU yo
 have := M4 4 aQ v 0 (by omega) (by rw [aU]; omega) hs (by omega) (by omega)
 rw [show (5 - ((4 : Nat) : Int)) = (1 : Int) from rfl] at this
 rw [this]; rfl
theorem IA {d : Nat} (l : Int) (hl0 : 0 ≤ l) (hl1 : l ≤ 100) (q : ac → Int → Int → Option (Bool × Int)) (v : ac) (hl : v.items.length < 1000000000)
  (hq : ∀ x ∈ v.items, ∀ z, 0 ≤ z → z ≤ 256 → q x (l + 1) z = some (j9 d x z)) : ∀ (k i : Nat) (z : Int), i ≤ v.items.length → v.items.length - i < k → 0 ≤ z → z ≤ 256 →
  nV q v l k z (i : Int) = some (oG (j9 d) (v.items.drop i) z) := by
 intro k
 induction k with
 | zero => intro i z _ h; omega
 | succ k ih =>
  intro i z hi hk h0 h1
  rw [nV]
  by_cases h : i = v.items.length
  ·subst h
   simp only [Int.lt_irrefl, decide_false, ax, List.drop_length, oG, w4]
  ·have hlt : i < v.items.length := by omega
   have hm : v.items[i] ∈ v.items := iA hlt
   rw [zd (x := l + 1) (by omega) (by omega)]
   simp only [aW hlt, aH, aE hlt, cz, hq _ hm z h0 h1]
   rw [List.drop_eq_getElem_cons hlt]
   simp only [oG]
   obtain ⟨a, b, c⟩ := Dc d v.items[i] z h0 h1
   cases hs : (j9 d v.items[i] z).1 with
   | false => simp only [Bool.not_false, aH, Bool.false_eq_true, if_false]
   | true =>
    simp only [Bool.not_true, ax, if_true]
    rw [aq hlt hl]
    exact ih (i + 1) _ (by omega) (by omega) a (c hs)
theorem MA : ∀ (d k : Nat) (v : ac) (z : Int), d ≤ 4 → d + 1 ≤ k → dQ v < 1000000000 → 0 ≤ z → z ≤ 256 → jr k v (5 - d : Int) z = some (j9 d v z) := by
 intro d
 induction d with
 | zero =>
  intro k v z _ hk hs h0 h1
  obtain ⟨k, rfl⟩ : ∃ q, k = q + 1 := ⟨k - 1, by omega⟩
  rw [jr, B2 v z h0 h1]
  unfold qk nU
  simp [j9, aH]
 | succ d ih =>
  intro k v z hd hk hs h0 h1
  obtain ⟨k, rfl⟩ : ∃ q, k = q + 1 := ⟨k - 1, by omega⟩
  have hsz := xx v
  have hlen := pH v.items
  rw [jr, B2 v z h0 h1]
  unfold qk nU
  rw [To v (by omega)]
  have e4 : ¬ (4 : Int) < 5 - ((d + 1 : Nat) : Int) := by omega
  have hc : z ≤ DR v z ∧ DR v z ≤ z + 1 := by unfold DR; split <;> omega
  simp only [e4, decide_false, ax, j9, cz]
  by_cases h2 : (256 : Int) < DR v z
  ·simp [h2, aH]
  ·cases hp : dX v with
   | false => simp [h2, aH, ax]
   | true =>
    simp only [h2, decide_false, ax, Bool.not_true, false_or, Bool.true_eq_false, if_false]
    have := IA (d := d) (5 - ((d + 1 : Nat) : Int)) (by omega) (by omega) (jr k) v (by omega) (by
     intro x hx z h0 h1
     have := lH hx
     rw [show (5 - ((d + 1 : Nat) : Int) + 1) = 5 - (d : Int) by omega]
     exact ih k x z (by omega) (by omega) (by omega) h0 h1) aQ 0 (DR v z) (by omega) (by rw [aU]; omega) (by omega) (by omega)
    rw [show ((0 : Nat) : Int) = (0 : Int) from rfl, List.drop_zero] at this
    exact this
theorem NH (v : ac) (hs : dQ v < 1000000000) : vz v = some (yo v) := by
 unfold vz yo
 have := MA 4 aQ v 0 (by omega) (by rw [aU]; omega) hs (by omega) (by omega)
 rw [show (5 - ((4 : Nat) : Int)) = (1 : Int) from rfl] at this
 rw [this]; rfl
def Pi (d : Nat) (v : ac) : Prop := ∃ z, (j9 d v z).1 = true
theorem EY {f : ac → Int → Bool × Int} : ∀ {l : List ac} {z : Int}, (oG f l z).1 = true → ∀ x ∈ l, ∃ z', (f x z').1 = true
 | [], _, _, x, hx => by cases hx
 | v :: l, z, h, x, hx => by
  simp only [oG] at h
  by_cases hv : (f v z).1 = true
  ·rw [if_pos hv] at h
   rcases List.mem_cons.1 hx with rfl | hx
   ·exact ⟨z, hv⟩
   ·exact EY h x hx
  ·rw [if_neg hv] at h; cases h
theorem Pi.zero {v : ac} (h : Pi 0 v) : False := by obtain ⟨z, h⟩ := h; cases h
theorem Pi.succ {d : Nat} {v : ac} (h : Pi (d + 1) v) : dX v = true ∧ ∀ x ∈ v.items, Pi d x := by
 obtain ⟨z, h⟩ := h
 simp only [j9] at h
 by_cases hc : 256 < DR v z ∨ dX v = false
 ·rw [if_pos hc] at h; cases h
 ·rw [if_neg hc] at h
  refine ⟨?_, fun x hx => EY h x hx⟩
  cases hp : dX v with
  | true => rfl
  | false => exact absurd (.inr hp) hc
theorem wD {v : ac} (h : dX v = true) (hk : v.kind ≠ 3) : v.scale = 0 := by
 unfold dX at h
 simp only at h
 split at h
 ·simp at h; exact h.1.2
 ·split at h
  ·simp at h; exact h.2.1
  ·split at h
   ·simp at h; exact h.2.1
   ·split at h
    ·simp at h; exact h.1.2
    ·split at h
     ·simp at h; exact h.2.1
     ·split at h
      ·simp at h; exact h.1.2
      ·split at h
       ·simp at h; exact h.1.2
       ·cases h
theorem ox {v : ac} (h : dX v = true) (h6 : v.kind ≠ 6) (h7 : v.kind ≠ 7) : v.items = [] := by
 unfold dX at h
 simp only at h
 rw [← List.length_eq_zero_iff]
 split at h
 ·simp at h; simp [h.2.2]
 ·split at h
  ·simp at h; simp [h.2.2.2]
  ·split at h
   ·simp at h; simp [h.2.2.2]
   ·split at h
    ·simp at h; simp [h.2.2.2]
    ·split at h
     ·simp at h; simp [h.2.2]
     ·split at h
      ·simp at h; simp [h.2.2.2]
      ·cases h
theorem V.sh {t : am} (h : V t) : shp t = 0 := by cases h; assumption
theorem V.fs {t : am} (h : V t) : ∀ f, f ∈ t.fields → V f.type := by cases h; assumption
theorem V.scale {t : am} (h : V t) (hk : t.kind ≠ 3) : t.scale = 0 := by
 have := h.sh
 unfold shp at this
 split at this
 ·cases this
 ·by_cases h2 : ED t
  ·rw [if_pos h2] at this; cases this
  ·by_cases hs : t.scale = 0
   ·exact hs
   ·exact absurd ⟨hs, .inl hk⟩ h2
theorem V.list {t : am} (h : V t) (hk : t.kind = 6) : t.fields.length = 1 := by
 have := h.sh
 unfold shp at this
 split at this
 ·cases this
 ·by_cases h2 : ED t
  ·rw [if_pos h2] at this; cases this
  ·rw [if_neg h2] at this
   unfold vf at this
   rw [if_pos hk] at this
   split at this
   ·cases this
   ·rename_i h3
    by_cases hl : t.fields.length = 1
    ·exact hl
    ·exact absurd (.inl hl) h3
def ft (t : am) (i : Nat) : am := (t.fields[if t.kind = 6 then 0 else i]?.map (·.type)).getD ⟨0, 0, []⟩
def nd (t : am) (i : Nat) : Bool := (t.fields[if t.kind = 6 then 0 else i]?.map (·.need)).getD false
def iv (v : ac) (i : Nat) : ac := v.items[i]?.getD ⟨0, 0, 0, ByteArray.empty, []⟩
theorem F5 {v : ac} {i : Nat} (h : i < v.items.length) : v.items[i] = iv v i := by simp [iv, h]
def Fk : Nat → am → ac → Bool
 | 0, _, _ => true
 | d + 1, t, v =>
  if v.kind = 0 then true
  else if v.kind ≠ t.kind then false
  else if v.kind = 3 then v.scale == t.scale
  else if v.kind = 7 ∧ t.fields.length ≠ v.items.length then false
  else (first (fun i => !Fk d (ft t i) (iv v i)) 0 v.items.length).isNone
def Vj (t : am) (v : ac) : Prop := ∀ i, i < v.items.length → (if t.kind = 6 then 0 else i) < t.fields.length
theorem SK {d : Nat} {t : am} {v : ac} (hs : Pi (d + 1) v) (ht : V t) (h : Fk (d + 1) t v = true) : Vj t v ∧ ∀ i, i < v.items.length → Fk d (ft t i) (iv v i) = true := by
 obtain ⟨hp, _⟩ := hs.succ
 by_cases h67 : v.kind = 6 ∨ v.kind = 7
 ·simp only [Fk] at h
  rw [if_neg (by omega)] at h
  by_cases hk : v.kind = t.kind
  ·rw [if_neg (fun hh => hh hk), if_neg (by omega)] at h
   by_cases hl : v.kind = 7 ∧ t.fields.length ≠ v.items.length
   ·rw [if_pos hl] at h; cases h
   ·rw [if_neg hl] at h
    have hn := Option.isNone_iff_eq_none.1 h
    rw [ye] at hn
    refine ⟨fun i hi => ?_, fun i hi => by simpa using hn i (Nat.zero_le _) hi⟩
    by_cases h6 : t.kind = 6
    ·rw [if_pos h6, ht.list h6]; omega
    ·rw [if_neg h6]
     have : ¬ t.fields.length ≠ v.items.length := fun hh => hl ⟨by omega, hh⟩
     omega
  ·rw [if_pos hk] at h; cases h
 ·have : v.items = [] := ox hp (by omega) (by omega)
  refine ⟨fun i hi => ?_, fun i hi => ?_⟩
  ·rw [this] at hi; simp at hi
  ·rw [this] at hi; simp at hi
theorem O0 {t : am} {i : Nat} (h : (if t.kind = 6 then 0 else i) < t.fields.length) : ∃ f : ae, f ∈ t.fields ∧ t.fields[if t.kind = 6 then 0 else i]? = some f ∧ f.type = ft t i ∧ f.need = nd t i := by
 refine ⟨t.fields[if t.kind = 6 then 0 else i], iA h, dh h, ?_, ?_⟩
 ·unfold ft; rw [dh h]; rfl
 ·unfold nd; rw [dh h]; rfl
theorem yl {α : Type} {xs : List α} {i : Nat} {x : α} (h : xs[i]? = some x) : at? xs (i : Int) = some x := by unfold at?; simp [h]
theorem C6 {v : ac} {i : Nat} (h : i < v.items.length) : iv v i ∈ v.items := by rw [← F5 h]; exact iA h
theorem of_eq : ∀ (d k k' : Nat) (t : am) (v : ac), Pi d v → V t → dQ v < 1000000000 → j3 t < 1000000000 → 4 * d + 1 ≤ k → d + 1 ≤ k' →
  rQ k t v = some (Fk d t v) ∧ jc k' t v = some (Fk d t v) := by
 intro d
 induction d with
 | zero => intro k k' t v hs; exact hs.zero.elim
 | succ d ih =>
  intro k k' t v hs ht hv hT hk hk'
  obtain ⟨k, rfl⟩ : ∃ q, k = q + 4 := ⟨k - 4, by omega⟩
  obtain ⟨k', rfl⟩ : ∃ q, k' = q + 1 := ⟨k' - 1, by omega⟩
  obtain ⟨hp, hi⟩ := hs.succ
  have hsz := xx v
  have hlen := pH v.items
  have hsT := pT t
  have hlF := cO t.fields
  rw [rQ, jc]
  simp only [Fk, yx]
  by_cases h0 : v.kind = 0
  ·simp [h0, aJ]
  ·by_cases hkk : v.kind = t.kind
   ·have sc : v.kind ≠ 3 → v.scale = t.scale := fun h => by rw [wD hp h, ht.scale (by omega)]
    -- the items
    have room : ¬ (v.kind = 7 ∧ t.fields.length ≠ v.items.length) → Vj t v := by
     intro hn i hi
     by_cases h6 : t.kind = 6
     ·rw [if_pos h6, ht.list h6]; omega
     ·rw [if_neg h6]
      by_cases h7 : v.kind = 7
      ·have : ¬ t.fields.length ≠ v.items.length := fun hh => hn ⟨h7, hh⟩
       omega
      ·rw [ox hp (by omega) h7] at hi; simp at hi
    have sub : Vj t v → ∀ i, i < v.items.length → ∃ f : ae, t.fields[if t.kind = 6 then 0 else i]? = some f ∧ f.type = ft t i ∧ rQ k (ft t i) (iv v i) = some (Fk d (ft t i) (iv v i)) ∧ jc k' (ft t i) (iv v i) = some (Fk d (ft t i) (iv v i)) := by
     intro hf i hi'
     obtain ⟨f, f1, f2, f3, _⟩ := O0 (hf i hi')
     have m1 := lH (C6 hi')
     have m2 := jt f1
     have m3 := iN f
     rw [f3] at m3
     obtain ⟨a, b⟩ := ih k k' (ft t i) (iv v i) (hi _ (C6 hi')) (by rw [← f3]; exact ht.fs f f1) (by omega) (by omega) (by omega) (by omega)
     exact ⟨f, f2, f3, a, b⟩
    have ref : Vj t v → jx (jc k') t v aQ (0 : Int) = some (first (fun i => !Fk d (ft t i) (iv v i)) 0 v.items.length).isNone := by
     intro hf
     have := rj (f := fun k i => jx (jc k') t v k (i : Int)) (n := v.items.length) (P := fun i => !Fk d (ft t i) (iv v i)) (A := fun _ => some false) (B := some true) (fun kk i hi' => by
      obtain ⟨f, f2, f3, _, f5⟩ := sub hf i hi'
      simp only [jx, aW hi', aH, yi]
      have e : ak (t.kind == (6 : Int)) (au (at? t.fields (0 : Int)) fun e1 => au (at? v.items (i : Int)) fun e2 => au (jc k' e1.type e2) fun r1 => ak (!r1) (some false) (jx (jc k') t v kk (i64.wrap ((i : Int) + 1))))
        (au (at? t.fields (i : Int)) fun e1 => au (at? v.items (i : Int)) fun e2 => au (jc k' e1.type e2) fun r1 => ak (!r1) (some false) (jx (jc k') t v kk (i64.wrap ((i : Int) + 1)))) =
        (au (at? t.fields ((if t.kind = 6 then 0 else i : Nat) : Int)) fun e1 => au (at? v.items (i : Int)) fun e2 => au (jc k' e1.type e2) fun r1 => ak (!r1) (some false) (jx (jc k') t v kk (i64.wrap ((i : Int) + 1)))) := by
       by_cases h6 : t.kind = 6 <;> simp [h6, aJ]
      rw [e, yl f2, cz, aE hi', cz, f3, F5 hi', f5, cz, aq hi' (by omega), aJ]) (fun kk => by simp [jx, aJ, Bu]) aQ 0 (Nat.zero_le _) (by rw [aU]; omega)
     rw [show ((0 : Nat) : Int) = (0 : Int) from rfl] at this
     rw [this]
     cases first (fun i => !Fk d (ft t i) (iv v i)) 0 v.items.length <;> rfl
    have e0 : (v.kind == (0 : Int)) = false := by simp [h0]
    have e1 : (v.kind != t.kind) = false := by simp [hkk]
    have e2 : ¬ v.kind ≠ t.kind := fun h => h hkk
    simp only [e0, e1, e2, ax, h0, if_false]
    by_cases h3 : v.kind = 3
    ·have hni : v.items = [] := ox hp (by omega) (by omega)
     refine ⟨by simp [h3, aJ], ?_⟩
     have hr := ref (fun i hi => by rw [hni] at hi; simp at hi)
     rw [hni] at hr
     simp only [List.length_nil, sy, Option.isNone_none] at hr
     simp only [h3, if_true, sx]
     by_cases hsc : v.scale = t.scale
     ·have : t.kind ≠ 7 := by omega
      simp [hsc, aJ, hr, this]
     ·simp [hsc, aJ]
    ·have hsc := sc h3
     have e3 : (v.kind == (3 : Int)) = false := by simp [h3]
     have e4 : (v.scale != t.scale) = false := by simp [hsc]
     simp only [e3, e4, ax, h3, if_false]
     by_cases hl : v.kind = 7 ∧ t.fields.length ≠ v.items.length
     ·have e6 : (v.kind == (6 : Int)) = false := by simp [hl.1]
      have e7 : (v.kind == (7 : Int)) = true := by simp [hl.1]
      have t7 : (t.kind == (7 : Int)) = true := by rw [← hkk]; exact e7
      have n1 : ((t.fields.length : Int) != (v.items.length : Int)) = true := by simp; omega
      have n2 : ((v.items.length : Int) != (t.fields.length : Int)) = true := by simp; omega
      rw [aS]
      simp [e6, e7, t7, n1, n2, hl, aH, ax, sx, cz]
     ·have hf := room hl
      have hr := ref hf
      simp only [hl, if_false]
      refine ⟨?_, ?_⟩
      ·by_cases h6 : v.kind = 6
       ·have e6 : (v.kind == (6 : Int)) = true := by simp [h6]
        have t6 : t.kind = 6 := by omega
        have := rj (f := fun kk i => a7 (ng (k + 1)) v.items t.kind t.scale t.fields kk (i : Int)) (n := v.items.length) (P := fun i => !Fk d (ft t i) (iv v i)) (A := fun i => some (i : Int)) (B := some (-1)) (fun kk i hi' => by
         obtain ⟨f, f2, f3, f4, _⟩ := sub hf i hi'
         rw [if_pos t6] at f2
         simp only [a7, aW hi', aH, aE hi', cz, ng]
         rw [show (0 : Int) = ((0 : Nat) : Int) from rfl, yl f2, cz, f3, F5 hi', f4, cz, cz, aq hi' (by omega), aJ]) (fun kk => by simp [a7, aJ, cY]) aQ 0 (Nat.zero_le _) (by rw [aU]; omega)
        rw [show ((0 : Nat) : Int) = (0 : Int) from rfl] at this
        rw [e6, aH, bw, bK, this]
        cases first (fun i => !Fk d (ft t i) (iv v i)) 0 v.items.length <;> simp [cz]
       ·have e6 : (v.kind == (6 : Int)) = false := by simp [h6]
        by_cases h7 : v.kind = 7
        ·have e7 : (v.kind == (7 : Int)) = true := by simp [h7]
         have hlen' : t.fields.length = v.items.length := by
          by_cases hh : t.fields.length = v.items.length
          ·exact hh
          ·exact absurd ⟨h7, hh⟩ hl
         have n1 : ((t.fields.length : Int) != (v.items.length : Int)) = false := by simp; omega
         have := rj (f := fun kk i => aF (qH (k + 2)) t.fields v.items kk (i : Int)) (n := v.items.length) (P := fun i => !Fk d (ft t i) (iv v i)) (A := fun _ => some false) (B := some true) (fun kk i hi' => by
          obtain ⟨f, f2, f3, _, _⟩ := sub hf i hi'
          obtain ⟨f', f1', f2', f3', _⟩ := O0 (hf i hi')
          have m1 := lH (C6 hi')
          have m2 := jt f1'
          have m3 := iN f'
          rw [f3'] at m3
          have f4 := (ih (k + 1) (d + 1) (ft t i) (iv v i) (hi _ (C6 hi')) (by rw [← f3']; exact ht.fs f' f1') (by omega) (by omega) (by omega) (by omega)).1
          rw [if_neg (by omega)] at f2
          have hi2 : i < t.fields.length := by omega
          simp only [aF, aW hi2, aH, yl f2, cz, qH]
          rw [aE hi', cz, f3, F5 hi', f4, cz, cz, aq hi' (by omega), aJ]) (fun kk => by simp [aF, aJ, bO, hlen']) aQ 0 (Nat.zero_le _) (by rw [aU]; omega)
         rw [show ((0 : Nat) : Int) = (0 : Int) from rfl] at this
         rw [e6, e7, ax, aH, aS, n1, ax, this]
         cases first (fun i => !Fk d (ft t i) (iv v i)) 0 v.items.length <;> rfl
        ·have e7 : (v.kind == (7 : Int)) = false := by simp [h7]
         rw [e6, e7, ax, ax, ox hp h6 h7]
         simp [sy]
      ·have n2 : v.kind = 7 → ((v.items.length : Int) != (t.fields.length : Int)) = false := by
        intro h7
        have : ¬ t.fields.length ≠ v.items.length := fun hh => hl ⟨h7, hh⟩
        simp; omega
       simp only [sx]
       by_cases h7 : v.kind = 7
       ·have t7 : (t.kind == (7 : Int)) = true := by simp [← hkk, h7]
        rw [t7, aH, n2 h7, ax]; exact hr
       ·have t7 : (t.kind == (7 : Int)) = false := by simp [← hkk, h7]
        rw [t7, ax, ax]; exact hr
   ·have e0 : (v.kind == (0 : Int)) = false := by simp [h0]
    have e1 : (v.kind != t.kind) = true := by simp [hkk]
    simp [e0, e1, h0, hkk, aH, ax]
def wQ : Nat → am → ac → Bool
 | 0, _, _ => false
 | d + 1, t, v => (first (fun i => ((iv v i).kind == 0 && nd t i) || wQ d (ft t i) (iv v i)) 0 v.items.length).isSome
theorem P5 : ∀ (d k k' : Nat) (t : am) (v : ac), Pi d v → V t → Fk d t v = true → dQ v < 1000000000 → j3 t < 1000000000 → d + 1 ≤ k → d + 1 ≤ k' →
  jT k t v = some (wQ d t v) ∧ eb k' t v = some (wQ d t v) := by
 intro d
 induction d with
 | zero => intro k k' t v hs; exact hs.zero.elim
 | succ d ih =>
  intro k k' t v hs ht ho hv hT hk hk'
  obtain ⟨k, rfl⟩ : ∃ q, k = q + 1 := ⟨k - 1, by omega⟩
  obtain ⟨k', rfl⟩ : ∃ q, k' = q + 1 := ⟨k' - 1, by omega⟩
  obtain ⟨hp, hi⟩ := hs.succ
  obtain ⟨hf, hof⟩ := SK hs ht ho
  have hsz := xx v
  have hlen := pH v.items
  have hsT := pT t
  have sub : ∀ i, i < v.items.length → ∃ f : ae, t.fields[if t.kind = 6 then 0 else i]? = some f ∧ f.type = ft t i ∧ f.need = nd t i ∧ jT k (ft t i) (iv v i) = some (wQ d (ft t i) (iv v i)) ∧ eb k' (ft t i) (iv v i) = some (wQ d (ft t i) (iv v i)) := by
   intro i hi'
   obtain ⟨f, f1, f2, f3, f4⟩ := O0 (hf i hi')
   have m1 := lH (C6 hi')
   have m2 := jt f1
   have m3 := iN f
   rw [f3] at m3
   obtain ⟨a, b⟩ := ih k k' (ft t i) (iv v i) (hi _ (C6 hi')) (by rw [← f3]; exact ht.fs f f1) (hof i hi') (by omega) (by omega) (by omega) (by omega)
   exact ⟨f, f2, f3, f4, a, b⟩
  rw [jT, eb]
  simp only [wQ]
  refine ⟨?_, ?_⟩
  ·have := rj (f := fun kk i => gn (jT k) t v kk (i : Int)) (n := v.items.length) (P := fun i => ((iv v i).kind == 0 && nd t i) || wQ d (ft t i) (iv v i)) (A := fun _ => some true) (B := some false) (fun kk i hi' => by
    obtain ⟨f, f2, f3, f4, f5, _⟩ := sub i hi'
    have e : tO t (i : Int) = some f := by
     unfold tO rJ
     by_cases h6 : t.kind = 6
     ·rw [if_pos h6] at f2
      rw [show (0 : Int) = ((0 : Nat) : Int) from rfl, yl f2]
      simp [h6, aJ, cz]
     ·rw [if_neg h6] at f2
      rw [yl f2]
      simp [h6, aJ, cz]
    simp only [gn, aW hi', aH, aE hi', cz, e, oV, f3, f4, F5 hi', f5, aq hi' (show v.items.length < 1000000000 by omega)]
    cases (iv v i).kind == 0 <;> cases nd t i <;> cases wQ d (ft t i) (iv v i) <;> rfl) (fun kk => by simp [gn, aJ, wb]) aQ 0 (Nat.zero_le _) (by rw [aU]; omega)
   rw [show ((0 : Nat) : Int) = (0 : Int) from rfl] at this
   rw [this]
   cases first (fun i => ((iv v i).kind == 0 && nd t i) || wQ d (ft t i) (iv v i)) 0 v.items.length <;> rfl
  ·have := rj (f := fun kk i => ef (eb k') t v kk (i : Int)) (n := v.items.length) (P := fun i => ((iv v i).kind == 0 && nd t i) || wQ d (ft t i) (iv v i)) (A := fun _ => some true) (B := some false) (fun kk i hi' => by
    obtain ⟨f, f2, f3, f4, _, f5⟩ := sub i hi'
    have e : ∀ j : Int, at? t.fields j = some f → nK (ef (eb k') t v kk) (eb k') t v (i : Int) j = if (((iv v i).kind == 0 && nd t i) || wQ d (ft t i) (iv v i)) = true then some true else ef (eb k') t v kk ((i + 1 : Nat) : Int) := by
     intro j hj
     simp only [nK, nF, hj, cz, aE hi', f3, f4, F5 hi', f5, aq hi' (show v.items.length < 1000000000 by omega)]
     cases (iv v i).kind == 0 <;> cases nd t i <;> cases wQ d (ft t i) (iv v i) <;> rfl
    simp only [ef, aW hi', aH]
    by_cases h6 : t.kind = 6
    ·rw [if_pos h6] at f2
     have e6 : (t.kind == (6 : Int)) = true := by simp [h6]
     rw [e6, aH]
     exact e 0 (yl f2)
    ·rw [if_neg h6] at f2
     have e6 : (t.kind == (6 : Int)) = false := by simp [h6]
     rw [e6, ax]
     exact e i (yl f2)) (fun kk => by simp [ef, aJ, tU]) aQ 0 (Nat.zero_le _) (by rw [aU]; omega)
   rw [show ((0 : Nat) : Int) = (0 : Int) from rfl] at this
   rw [this]
   cases first (fun i => ((iv v i).kind == 0 && nd t i) || wQ d (ft t i) (iv v i)) 0 v.items.length <;> rfl
theorem Hz (t : am) (v : ac) (hv : dQ v < 1000000000) (hT : j3 t < 1000000000) : ∃ e, gQ t v = some e ∧ l4 t v = some e := by
 obtain ⟨e, h1, h2, h3⟩ := lW t hT
 unfold gQ l4
 rw [h1, h2, Bs v hv, NH v hv]
 simp only [cz]
 by_cases he : e = 0
 ·subst he
  have ht := h3 rfl
  cases hs : yo v with
  | false => exact ⟨1, rfl, rfl⟩
  | true =>
   have hS : Pi 4 v := ⟨0, hs⟩
   obtain ⟨a, b⟩ := of_eq 4 aQ aQ t v hS ht hv hT (by rw [aU]; omega) (by rw [aU]; omega)
   rw [a, b]
   cases ho : Fk 4 t v with
   | false => exact ⟨2, rfl, rfl⟩
   | true =>
    obtain ⟨c, d⟩ := P5 4 aQ aQ t v hS ht ho hv hT (by rw [aU]; omega) (by rw [aU]; omega)
    rw [c, d]
    cases wQ 4 t v with
    | false => exact ⟨0, rfl, rfl⟩
    | true => exact ⟨9, rfl, rfl⟩
 ·have : (e != (0 : Int)) = true := by simp [he]
  rw [this]
  exact ⟨e, rfl, rfl⟩
theorem EO : ByteArray.empty.size = 0 := rfl
end Go.Proofs.YtfnmbpecdjncfaaGreatDoor
namespace Go.Proofs.YtfnmbpecdjncfaaGreatDoor
open Go Go.SX Go.SX.Cal
open Go.IntKind (i64)
theorem Je {l : List ae} {i : Nat} (h : i < l.length) : dK (l.drop i) = wq l[i] + dK (l.drop (i + 1)) := by
 rw [List.drop_eq_getElem_cons h]; simp only [dK]
theorem tj : aQ = 1152921504606846975 + 1 := rfl
mutual
def N5 : am → List Int
 | ⟨_, _, fs⟩ => fb fs
def fb : List (kV am) → List Int
 | [] => []
 | f :: l => BG f ++ fb l
def BG : kV am → List Int
 | ⟨i, _, _, t⟩ => i :: N5 t
end
theorem QZ : ∀ t : am, N5 t = fb t.fields
 | ⟨_, _, _⟩ => by simp only [N5]
theorem zG : ∀ f : ae, BG f = f.id :: fb f.type.fields
 | ⟨_, _, _, t⟩ => by simp only [BG, QZ]
theorem Bt {l : List ae} {i : Nat} (h : i < l.length) : fb (l.drop i) = BG l[i] ++ fb (l.drop (i + 1)) := by
 rw [List.drop_eq_getElem_cons h]; simp only [fb]
mutual
theorem Pg : ∀ t : am, (N5 t).length ≤ j3 t
 | ⟨_, _, fs⟩ => by simp only [N5, j3]; have := xP fs; omega
theorem xP : ∀ l : List (kV am), (fb l).length ≤ dK l
 | [] => by simp [fb]
 | f :: l => by
  simp only [fb, dK, List.length_append]
  have := Mi f
  have := xP l
  omega
theorem Mi : ∀ f : kV am, (BG f).length ≤ wq f
 | ⟨i, n, q, t⟩ => by
  simp only [BG, wq, List.length_cons]
  have := Pg t
  omega
end
theorem Oy : ∀ (N k : Nat) (fs : List ae), dK fs ≤ N → N < k → dK fs < 1000000000 → oS k fs = some (fb fs) := by
 intro N
 induction N with
 | zero =>
  intro k fs h hk _
  obtain ⟨k, rfl⟩ : ∃ x, k = x + 1 := ⟨k - 1, by omega⟩
  have hl := cO fs
  have : fs = [] := List.eq_nil_of_length_eq_zero (by omega)
  subst this
  rw [oS, tj, oF]
  rfl
 | succ N ih =>
  intro k fs hN hk hs
  obtain ⟨k, rfl⟩ : ∃ x, k = x + 1 := ⟨k - 1, by omega⟩
  have hl := cO fs
  rw [oS]
  have loop : ∀ (kk i : Nat) (acc : List Int), i ≤ fs.length → fs.length - i < kk → acc.length + dK (fs.drop i) ≤ dK fs → oF (oS k) fs kk acc (i : Int) = some (acc ++ fb (fs.drop i)) := by
   intro kk
   induction kk with
   | zero => intro i acc _ h; omega
   | succ kk ihk =>
    intro i acc hi hk2 hacc
    rw [oF]
    by_cases h : i = fs.length
    ·subst h
     simp only [Int.lt_irrefl, decide_false, ax, zE, List.drop_length, fb, List.append_nil]
    ·have h1 : i < fs.length := by omega
     have m1 := jt (iA h1)
     have m2 := iN fs[i]
     have m3 := pT fs[i].type
     have m4 := Je h1
     have m5 := xP fs[i].type.fields
     rw [aW h1, aH, aE h1, a6, gd (by omega), ih k _ (by omega) (by omega) (by omega), a6, gd (by simp; omega), aq h1 (by omega)]
     rw [ihk (i + 1) _ (by omega) (by omega) (by simp; omega), Bt h1, zG]
     simp
  have := loop aQ 0 [] (Nat.zero_le _) (by rw [aU]; omega) (by simp)
  simpa using this
def Hv (x : Int) (m : List (Int × Int)) : Int × List (Int × Int) :=
 if x < 1 then (3, m) else
  let y := i64.wrap ((iJ (rT .i64) m x).getD 0 + 1)
  if 1 < (iJ (rT .i64) (jQ (rT .i64) m x y) x).getD 0 then (5, jQ (rT .i64) m x y) else (0, jQ (rT .i64) m x y)
def scan : List Int → List (Int × Int) → Int × List (Int × Int)
 | [], m => (0, m)
 | x :: l, m => if (Hv x m).1 ≠ 0 then Hv x m else scan l (Hv x m).2
theorem HZ : ∀ (a b : List Int) (m : List (Int × Int)), scan (a ++ b) m = if (scan a m).1 ≠ 0 then scan a m else scan b (scan a m).2
 | [], b, m => by simp [scan]
 | x :: a, b, m => by
  simp only [List.cons_append, scan]
  by_cases h : (Hv x m).1 = 0
  ·simp only [h, ne_eq, not_true, if_false]
   exact HZ a b _
  ·simp [h]
theorem JC (f : ae) (m : List (Int × Int)) : mt f m = some (Hv f.id m) := by
 unfold mt Hv
 simp only [a6, aJ, decide_eq_true_eq]
 split
 ·rfl
 ·split <;> rfl
theorem Lj : ∀ (N k : Nat) (fs : List ae) (m : List (Int × Int)), dK fs ≤ N → N < k → dK fs < 1000000000 → bo k fs m = some (scan (fb fs) m) := by
 intro N
 induction N with
 | zero =>
  intro k fs m h hk _
  obtain ⟨k, rfl⟩ : ∃ x, k = x + 1 := ⟨k - 1, by omega⟩
  have hl := cO fs
  have : fs = [] := List.eq_nil_of_length_eq_zero (by omega)
  subst this
  rw [bo, tj, bV]
  rfl
 | succ N ih =>
  intro k fs m hN hk hs
  obtain ⟨k, rfl⟩ : ∃ x, k = x + 1 := ⟨k - 1, by omega⟩
  have hl := cO fs
  rw [bo]
  have loop : ∀ (kk i : Nat) (m : List (Int × Int)), i ≤ fs.length → fs.length - i < kk → bV (bo k) fs kk m (i : Int) = some (scan (fb (fs.drop i)) m) := by
   intro kk
   induction kk with
   | zero => intro i m _ h; omega
   | succ kk ihk =>
    intro i m hi hk2
    rw [bV]
    by_cases h : i = fs.length
    ·subst h
     simp only [Int.lt_irrefl, decide_false, ax, fZ, List.drop_length, fb, scan]
    ·have h1 : i < fs.length := by omega
     have m1 := jt (iA h1)
     have m2 := iN fs[i]
     have m3 := pT fs[i].type
     rw [aW h1, aH, aE h1, a6, JC, a6, aq h1 (by omega), Bt h1, zG, List.cons_append, scan, ih k _ _ (by omega) (by omega) (by omega)]
     simp only [a6, aJ]
     by_cases h0 : (Hv fs[i].id m).1 = 0
     ·simp only [h0, bne_self_eq_false, Bool.false_eq_true, if_false, ne_eq, not_true, HZ]
      by_cases h2 : (scan (fb fs[i].type.fields) (Hv fs[i].id m).2).1 = 0
      ·simp only [h2, bne_self_eq_false, Bool.false_eq_true, if_false, not_true]
       exact ihk (i + 1) _ (by omega) (by omega)
      ·simp [h2]
     ·simp [h0]
  have := loop aQ 0 m (Nat.zero_le _) (by rw [aU]; omega)
  simpa using this
abbrev KI : M3 Int := rT .i64
theorem xq : ∀ (m : List (Int × Int)) (k v : Int), iJ KI (jQ KI m k v) k = some v
 | [], k, v => by simp [jQ, iJ, rT]
 | (k', v') :: l, k, v => by
  by_cases h : k = k'
  ·simp [jQ, iJ, rT, h]
  ·have hb : (k == k') = false := by simpa using h
   have := xq l k v
   simp only [jQ, iJ, rT, hb, Bool.false_eq_true, if_false] at this ⊢
   exact this
theorem zA : ∀ (m : List (Int × Int)) (k v x : Int), x ≠ k → iJ KI (jQ KI m k v) x = iJ KI m x
 | [], k, v, x, hx => by simp [jQ, iJ, rT, hx]
 | (k', v') :: l, k, v, x, hx => by
  by_cases h : k = k'
  ·subst h
   simp [jQ, iJ, rT, hx]
  ·have hb : (k == k') = false := by simpa using h
   have := zA l k v x hx
   simp only [jQ, iJ, rT, hb, Bool.false_eq_true, if_false] at this ⊢
   rw [this]
def Vm (m : List (Int × Int)) (seen : List Int) : Prop := ∀ x, (iJ KI m x).getD 0 = if x ∈ seen then 1 else 0
theorem PG {m : List (Int × Int)} {seen : List Int} (h : Vm m seen) (x : Int) : (Hv x m).1 = (if x < 1 then 3 else if x ∈ seen then 5 else 0) ∧ ((Hv x m).1 = 0 → Vm (Hv x m).2 (seen ++ [x])) := by
 unfold Hv
 have hx := h x
 by_cases h1 : x < 1
 ·simp [h1]
 ·simp only [h1, if_false]
  have e : (iJ (rT .i64) m x).getD 0 = if x ∈ seen then 1 else 0 := hx
  rw [e]
  by_cases h2 : x ∈ seen
  ·simp only [h2, if_true]
   rw [show i64.wrap (1 + 1) = 2 from zd (by omega) (by omega)]
   have := xq m x 2
   simp only [KI] at this
   simp [this]
  ·simp only [h2, if_false]
   rw [show i64.wrap (0 + 1) = 1 from zd (by omega) (by omega)]
   have h3 := xq m x 1
   simp only [KI] at h3
   simp only [h3, Option.getD_some, Int.lt_irrefl, if_false, true_and]
   intro _ y
   by_cases hy : y = x
   ·subst hy
    simp [KI, h3]
   ·have h4 := zA m x 1 y hy
    simp only [KI] at h4
    have h5 := h y
    simp only [KI] at h5 ⊢
    rw [h4, h5]
    simp [hy]
theorem M6 (ids : List Int) (hl : ids.length < 1000000000) (rec1 : Int → Option Int) {i : Nat} (hi : i < ids.length) : cZ rec1 ids (i : Int) ids[i] aQ (0 : Int) = if ids[i] ∈ ids.take i then some 5 else rec1 ((i + 1 : Nat) : Int) := by
 have hs := rj (f := fun k j => cZ rec1 ids (i : Int) ids[i] k (j : Int)) (n := i) (P := fun j => ids[j]? == some ids[i]) (A := fun j => some 5) (B := rec1 ((i + 1 : Nat) : Int)) (fun k j hj => by
   have hjf : j < ids.length := by omega
   show cZ rec1 ids (i : Int) ids[i] (k + 1) (j : Int) = _
   rw [cZ, aW hj, aH, aE hjf, aq hj (by omega)]
   simp only [a6, aJ, dh hjf, Option.some_beq_some])
  (fun k => by
   show cZ rec1 ids (i : Int) ids[i] (k + 1) (i : Int) = _
   rw [cZ]; simp only [Int.lt_irrefl, decide_false, ax, pL]; rw [aq hi hl]) aQ 0 (Nat.zero_le _) (by rw [aU]; omega)
 have hs : cZ rec1 ids (i : Int) ids[i] aQ (0 : Int) = _ := hs
 rw [hs]
 cases hf : first (fun j => ids[j]? == some ids[i]) 0 i with
 | none =>
  rw [ye] at hf
  have : ids[i] ∉ ids.take i := by
   intro hm
   obtain ⟨j, hj, he⟩ := List.getElem_of_mem hm
   have hj' : j < i := by simp at hj; omega
   have := hf j (Nat.zero_le _) hj'
   rw [List.getElem_take] at he
   simp [dh (show j < ids.length by omega), he] at this
  simp [this]
 | some j =>
  have : ids[i] ∈ ids.take i := by
   unfold first at hf
   have h1 := List.find?_some hf
   have h2 := List.mem_of_find?_eq_some hf
   rw [List.mem_range'_1] at h2
   have hjl : j < ids.length := by omega
   simp only [dh hjl, Option.some_beq_some, beq_iff_eq] at h1
   rw [← h1]
   exact FY.2 ⟨j, by simp; omega, by simp⟩
  simp [this]
theorem Ib (ids : List Int) (hl : ids.length < 1000000000) : ∀ (kk i : Nat) (m : List (Int × Int)), i ≤ ids.length → ids.length - i < kk → Vm m (ids.take i) → ea ids kk (i : Int) = some (scan (ids.drop i) m).1 := by
 intro kk
 induction kk with
 | zero => intro i m _ h; omega
 | succ kk ih =>
  intro i m hi hk hm
  rw [ea]
  by_cases h : i = ids.length
  ·subst h
   simp only [Int.lt_irrefl, decide_false, ax, List.drop_length, scan]
   rfl
  ·have h1 : i < ids.length := by omega
   rw [aW h1, aH, aE h1, a6, M6 ids hl _ h1, List.drop_eq_getElem_cons h1, scan]
   obtain ⟨g1, g2⟩ := PG hm ids[i]
   rw [g1] at g2 ⊢
   simp only [aJ, decide_eq_true_eq]
   by_cases h2 : ids[i] < 1
   ·simp [h2, g1]
   ·by_cases h3 : ids[i] ∈ ids.take i
    ·simp [h2, h3, g1]
    ·simp only [h2, h3, if_false, ne_eq, not_true]
     simp only [h2, h3, if_false] at g2
     refine ih (i + 1) _ (by omega) (by omega) ?_
     have := g2 trivial
     rwa [List.take_append_getElem h1] at this
theorem FN (fs : List ae) (hs : dK fs < 1000000000 - 1) : ∃ e, eG fs = some e ∧ gU fs = some e := by
 obtain ⟨e, h1, h2, h3⟩ := lW ⟨7, 0, fs⟩ (by simp only [j3]; omega)
 unfold eG gU
 rw [h1, h2]
 simp only [a6, aJ]
 by_cases he : e = 0
 ·have w := Lj 1000000000 aQ fs [] (by omega) (by rw [aU]; omega) (by omega)
  have i := Oy 1000000000 aQ fs (by omega) (by rw [aU]; omega) (by omega)
  have hl := xP fs
  have l := Ib (fb fs) (by omega) aQ 0 [] (Nat.zero_le _) (by rw [aU]; omega) (fun x => by simp [iJ])
  have l : ea (fb fs) aQ (0 : Int) = _ := l
  refine ⟨(scan (fb fs) []).1, ?_, ?_⟩
  ·simp [he, w, a6]
  ·simp [he, i, a6, l]
 ·exact ⟨e, by simp [he], by simp [he]⟩
theorem dZ {α β : Type} (a : α) (f : α → Option β) : au (some a) f = f a := rfl
theorem kM {β : Type} (x y : Option β) : ak true x y = x := rfl
theorem eO {β : Type} (x y : Option β) : ak false x y = y := rfl
theorem gC {m f : Nat} (h : m < f) : ∃ q, f = q + 1 := ⟨f - 1, by omega⟩
theorem Ds {i n : Nat} (h : ¬ i < n) : decide ((i : Int) < (n : Int)) = false := by simp; omega
theorem qz {α : Type} {l : List α} {i : Nat} (hi : i < l.length) : l.drop i = l[i] :: l.drop (i + 1) := List.drop_eq_getElem_cons hi
noncomputable def ck (t : am) (v : ac) : Int := (gQ t v).getD 0
theorem Jz {t : am} {v : ac} (hv : dQ v < 1000000000) (hT : j3 t < 1000000000) : gQ t v = some (ck t v) := by
 obtain ⟨e, h1, _⟩ := Hz t v hv hT
 unfold ck; rw [h1]; rfl
theorem Om {t : am} {v : ac} (hv : dQ v < 1000000000) (hT : j3 t < 1000000000) : l4 t v = some (ck t v) := by
 obtain ⟨e, h1, h2⟩ := Hz t v hv hT
 unfold ck; rw [h1, h2]; rfl
noncomputable def ww : List ae → List ac → Int
 | f :: fs, v :: vs => if ck f.type v ≠ 0 then ck f.type v else if f.need = true ∧ v.kind = 0 then 9 else ww fs vs
 | _, _ => 0
theorem Ig {f : ae} {fs : List ae} {v : ac} {vs : List ac} (h : ck f.type v ≠ 0) : ww (f :: fs) (v :: vs) = ck f.type v := by simp only [ww]; rw [if_pos h]
theorem FK {f : ae} {fs : List ae} {v : ac} {vs : List ac} (h : ck f.type v = 0) (h2 : f.need = true ∧ v.kind = 0) : ww (f :: fs) (v :: vs) = 9 := by simp only [ww]; rw [if_neg (fun k => k h), if_pos h2]
theorem Ea {f : ae} {fs : List ae} {v : ac} {vs : List ac} (h : ck f.type v = 0) (h2 : ¬ (f.need = true ∧ v.kind = 0)) : ww (f :: fs) (v :: vs) = ww fs vs := by simp only [ww]; rw [if_neg (fun k => k h), if_neg h2]
theorem LW {fs : List ae} (h : dK fs < 1000000000) {i : Nat} (hi : i < fs.length) : j3 fs[i].type < 1000000000 := by
 have := jt (iA hi)
 have := iN fs[i]
 omega
theorem Iv {r : List ac} (h : ig r < 1000000000) {i : Nat} (hi : i < r.length) : dQ r[i] < 1000000000 := by
 have := lH (iA hi)
 omega
theorem Vb {fs : List ae} {r : List ac} (hf : dK fs < 1000000000) (hr : ig r < 1000000000) (hl : r.length = fs.length) (rec1 : Int → Option Int) (x1 : Int) : ∀ (m f i : Nat), i + m = fs.length → m < f →
  ec rec1 fs x1 r f (i : Int) = if ww (fs.drop i) (r.drop i) ≠ 0 then some (ww (fs.drop i) (r.drop i)) else mn rec1 x1 := by
 have hfl := cO fs
 intro m
 induction m with
 | zero =>
  intro f i hi hf'
  obtain ⟨f, rfl⟩ := gC hf'
  rw [ec, Ds (by omega), eO, List.drop_of_length_le (l := fs) (by omega)]
  simp [ww]
 | succ m ih =>
  intro f i hi hf'
  obtain ⟨f, rfl⟩ := gC hf'
  have h1 : i < fs.length := by omega
  have h2 : i < r.length := by omega
  rw [ec, aW h1, kM, aE h1, dZ, aE h2, dZ, Jz (Iv hr h2) (LW hf h1), dZ, qz h1, qz h2]
  unfold mq
  by_cases he : ck fs[i].type r[i] = 0
  ·by_cases hk : r[i].kind = 0
   ·cases hn : fs[i].need with
    | true => rw [FK he ⟨hn, hk⟩, he, show ((0 : Int) != 0) = false from rfl, eO, show (r[i].kind == 0) = true by simp [hk], kM, kM, if_pos (by decide)]
    | false => rw [Ea he (by simp [hn]), he, show ((0 : Int) != 0) = false from rfl, eO, show (r[i].kind == 0) = true by simp [hk], kM, eO, aq h1 (by omega), ih f (i + 1) (by omega) (by omega)]
   ·rw [Ea he (fun h => hk h.2), he, show ((0 : Int) != 0) = false from rfl, eO, show (r[i].kind == 0) = false by simp [hk], eO, eO, aq h1 (by omega), ih f (i + 1) (by omega) (by omega)]
  ·rw [Ig he, show (ck fs[i].type r[i] != 0) = true by simp [he], kM, if_pos he]
theorem UR {fs : List ae} {r : List ac} (hf : dK fs < 1000000000) (hr : ig r < 1000000000) (hl : r.length = fs.length) : ∀ (m f i : Nat), i + m = fs.length → m < f →
  fR fs r f (i : Int) = some (ww (fs.drop i) (r.drop i)) := by
 have hfl := cO fs
 intro m
 induction m with
 | zero =>
  intro f i hi hf'
  obtain ⟨f, rfl⟩ := gC hf'
  rw [fR, Ds (by omega), eO, List.drop_of_length_le (l := fs) (by omega)]
  simp [ww, sA]
 | succ m ih =>
  intro f i hi hf'
  obtain ⟨f, rfl⟩ := gC hf'
  have h1 : i < fs.length := by omega
  have h2 : i < r.length := by omega
  rw [fR, aW h1, kM, aE h1, dZ, aE h2, dZ, Om (Iv hr h2) (LW hf h1), dZ, qz h1, qz h2]
  unfold pp
  by_cases he : ck fs[i].type r[i] = 0
  ·cases hn : fs[i].need with
   | true =>
    by_cases hk : r[i].kind = 0
    ·rw [FK he ⟨hn, hk⟩, he, show ((0 : Int) != 0) = false from rfl, eO, kM, show (r[i].kind == 0) = true by simp [hk], kM]
    ·rw [Ea he (fun h => hk h.2), he, show ((0 : Int) != 0) = false from rfl, eO, kM, show (r[i].kind == 0) = false by simp [hk], eO, aq h1 (by omega), ih f (i + 1) (by omega) (by omega)]
   | false => rw [Ea he (by simp [hn]), he, show ((0 : Int) != 0) = false from rfl, eO, eO, eO, aq h1 (by omega), ih f (i + 1) (by omega) (by omega)]
  ·rw [Ig he, show (ck fs[i].type r[i] != 0) = true by simp [he], kM]
noncomputable def Cu (fs : List ae) : List (List ac) → Int
 | r :: rs => if r.length ≠ fs.length then 1 else if ww fs r ≠ 0 then ww fs r else Cu fs rs
 | [] => 0
theorem Tt {fs : List ae} {rows : List (List ac)} (hf : dK fs < 1000000000) (hr : ∀ r ∈ rows, ig r < 1000000000) (hl : rows.length < 1000000000) : ∀ (m f i : Nat), i + m = rows.length → m < f →
  dc fs rows f (i : Int) = some (Cu fs (rows.drop i)) := by
 intro m
 induction m with
 | zero =>
  intro f i hi hf'
  obtain ⟨f, rfl⟩ := gC hf'
  rw [dc, Ds (by omega), eO, List.drop_of_length_le (by omega)]; rfl
 | succ m ih =>
  intro f i hi hf'
  obtain ⟨f, rfl⟩ := gC hf'
  have h1 : i < rows.length := by omega
  rw [dc, aW h1, kM, aE h1, dZ, qz h1]
  simp only [Cu]
  by_cases hle : rows[i].length = fs.length
  ·have hc := Vb hf (hr _ (iA h1)) hle (dc fs rows f) (i : Int) fs.length aQ 0 (by omega) (by have := cO fs; rw [aU]; omega)
   rw [show ((0 : Nat) : Int) = 0 from rfl, List.drop_zero, List.drop_zero] at hc
   rw [show (((rows[i].length : Nat) : Int) != (fs.length : Int)) = false by simp [hle], eO, hc, if_neg (show ¬ rows[i].length ≠ fs.length from fun h => h hle)]
   unfold mn
   by_cases h0 : ww fs rows[i] = 0
   ·rw [if_neg (fun h => h h0), if_neg (fun h => h h0), aq h1 hl, ih f (i + 1) (by omega) (by omega)]
   ·rw [if_pos h0, if_pos h0]
  ·rw [show (((rows[i].length : Nat) : Int) != (fs.length : Int)) = true by simp; omega, kM, if_pos hle]
theorem SQ {fs : List ae} {rows : List (List ac)} (hf : dK fs < 1000000000) (hr : ∀ r ∈ rows, ig r < 1000000000) (hl : rows.length < 1000000000) : ∀ (m f i : Nat), i + m = rows.length → m < f →
  ir fs rows f (i : Int) = some (Cu fs (rows.drop i)) := by
 intro m
 induction m with
 | zero =>
  intro f i hi hf'
  obtain ⟨f, rfl⟩ := gC hf'
  rw [ir, Ds (by omega), eO, List.drop_of_length_le (by omega)]; rfl
 | succ m ih =>
  intro f i hi hf'
  obtain ⟨f, rfl⟩ := gC hf'
  have h1 : i < rows.length := by omega
  rw [ir, aW h1, kM, aE h1, dZ, qz h1]
  simp only [Cu]
  unfold xb
  by_cases hle : rows[i].length = fs.length
  ·have hc := UR hf (hr _ (iA h1)) hle fs.length aQ 0 (by omega) (by have := cO fs; rw [aU]; omega)
   rw [show ((0 : Nat) : Int) = 0 from rfl, List.drop_zero, List.drop_zero] at hc
   rw [show (((rows[i].length : Nat) : Int) != (fs.length : Int)) = false by simp [hle], eO, hc, dZ, if_neg (fun h => h hle)]
   by_cases h0 : ww fs rows[i] = 0
   ·rw [h0, show ((0 : Int) != 0) = false from rfl, eO, if_neg (fun h => h rfl), aq h1 hl, ih f (i + 1) (by omega) (by omega)]
   ·rw [show (ww fs rows[i] != 0) = true by simp [h0], kM, if_pos h0]
  ·rw [show (((rows[i].length : Nat) : Int) != (fs.length : Int)) = true by simp; omega, kM, dZ, if_pos hle]; rfl
def sc (fs : List ae) : Int := (eG fs).getD 0
theorem Pu {fs : List ae} (h : dK fs < 1000000000 - 1) : eG fs = some (sc fs) := by
 obtain ⟨e, h1, _⟩ := FN fs h
 unfold sc; rw [h1]; rfl
theorem P8 {fs : List ae} (h : dK fs < 1000000000 - 1) : gU fs = some (sc fs) := by
 obtain ⟨e, h1, h2⟩ := FN fs h
 unfold sc; rw [h1, h2]; rfl
noncomputable def Nd (fs : List ae) (rows : List (List ac)) : Int := if sc fs ≠ 0 then sc fs else if 2000 < rows.length then 7 else Cu fs rows
theorem zIO {fs : List ae} {rows : List (List ac)} (hf : dK fs < 1000000000 - 1) (hr : ∀ r ∈ rows, ig r < 1000000000) (hl : rows.length < 1000000000) : mL fs rows = some (Nd fs rows) := by
 unfold mL Nd
 rw [Pu hf, dZ]
 by_cases h : sc fs = 0
 ·rw [h, show ((0 : Int) != 0) = false from rfl, eO, if_neg (fun h => h rfl)]
  by_cases h2 : 2000 < rows.length
  ·rw [decide_eq_true (by omega), kM, if_pos h2]
  ·have hc := Tt (fs := fs) (by omega) hr hl rows.length aQ 0 (by omega) (by rw [aU]; omega)
   rw [show ((0 : Nat) : Int) = 0 from rfl, List.drop_zero] at hc
   rw [decide_eq_false (by omega), eO, hc, if_neg h2]
 ·rw [show (sc fs != 0) = true by simp [h], kM, if_pos h]
theorem Iq {fs : List ae} {rows : List (List ac)} (hf : dK fs < 1000000000 - 1) (hr : ∀ r ∈ rows, ig r < 1000000000) (hl : rows.length < 1000000000) : o6 fs rows = some (Nd fs rows) := by
 unfold o6 Nd
 rw [P8 hf, dZ]
 by_cases h : sc fs = 0
 ·rw [h, show ((0 : Int) != 0) = false from rfl, eO, if_neg (fun h => h rfl)]
  by_cases h2 : 2000 < rows.length
  ·rw [decide_eq_true (by omega), kM, if_pos h2]
  ·have hc := SQ (fs := fs) (by omega) hr hl rows.length aQ 0 (by omega) (by rw [aU]; omega)
   rw [show ((0 : Nat) : Int) = 0 from rfl, List.drop_zero] at hc
   rw [decide_eq_false (by omega), eO, hc, if_neg h2]
 ·rw [show (sc fs != 0) = true by simp [h], kM, if_pos h]
theorem LL : ∀ {fs : List ae} {r : List ac}, ww fs r = 0 → ∀ (i : Nat) f v, fs[i]? = some f → r[i]? = some v → ck f.type v = 0 ∧ ¬ (f.need = true ∧ v.kind = 0)
 | [], _, _, i, f, v, h1, _ => by simp at h1
 | _ :: _, [], _, i, f, v, _, h2 => by simp at h2
 | g :: fs, x :: r, h, i, f, v, h1, h2 => by
  simp only [ww] at h
  by_cases ha : ck g.type x = 0
  ·rw [if_neg (fun h => h ha)] at h
   by_cases hb : g.need = true ∧ x.kind = 0
   ·rw [if_pos hb] at h; cases h
   ·rw [if_neg hb] at h
    cases i with
    | zero => simp at h1 h2; subst h1; subst h2; exact ⟨ha, hb⟩
    | succ i => exact LL h i f v (by simpa using h1) (by simpa using h2)
  ·rw [if_pos ha] at h; exact absurd h ha
theorem HO {fs : List ae} : ∀ {rows : List (List ac)}, Cu fs rows = 0 → ∀ r ∈ rows, r.length = fs.length ∧ ww fs r = 0
 | [], _, r, h => by cases h
 | x :: rows, h, r, hr => by
  simp only [Cu] at h
  by_cases ha : x.length = fs.length
  ·rw [if_neg (fun h => h ha)] at h
   by_cases hb : ww fs x = 0
   ·rw [if_neg (fun h => h hb)] at h
    rcases List.mem_cons.1 hr with rfl | hr
    ·exact ⟨ha, hb⟩
    ·exact HO h r hr
   ·rw [if_pos hb] at h; exact absurd h hb
  ·rw [if_pos ha] at h; cases h
end Go.Proofs.YtfnmbpecdjncfaaGreatDoor
namespace Go.Proofs.YtfnmbpecdjncfaaGreatDoor
open Go Go.SX Go.SX.Cal Go.Lib
open Go.IntKind (i64)
theorem Ed {p : List ae} (hl : p.length < 1000000000) (x : Int) : ∃ r, rn p x = some r ∧ sG p x = some r ∧ (r < 0 ∨ ∃ i : Nat, i < p.length ∧ r = (i : Int)) := by
 have key : ∀ (m f f' i : Nat), i + m = p.length → m < f → m < f' → ∃ r, aX p x f (i : Int) = some r ∧ np p x f' (i : Int) = some r ∧ (r < 0 ∨ ∃ i : Nat, i < p.length ∧ r = (i : Int)) := by
  intro m
  induction m with
  | zero =>
   intro f f' i hi hf hf'
   obtain ⟨f, rfl⟩ := gC hf
   obtain ⟨f', rfl⟩ := gC hf'
   rw [aX, np, Ds (by omega), eO, eO]
   exact ⟨-1, rfl, rfl, .inl (by omega)⟩
  | succ m ih =>
   intro f f' i hi hf hf'
   obtain ⟨f, rfl⟩ := gC hf
   obtain ⟨f', rfl⟩ := gC hf'
   have h1 : i < p.length := by omega
   rw [aX, np, aW h1, kM, kM, aE h1, dZ, dZ, qF, dZ]
   cases he : (p[i].id == x) with
   | true => rw [kM, kM]; exact ⟨i, rfl, rfl, .inr ⟨i, h1, rfl⟩⟩
   | false => rw [eO, eO, aq h1 hl]; exact ih f f' (i + 1) (by omega) (by omega) (by omega)
 obtain ⟨r, h1, h2, h3⟩ := key p.length aQ aQ 0 (by omega) (by rw [aU]; omega) (by rw [aU]; omega)
 refine ⟨r, ?_, h2, h3⟩
 unfold rn cK
 rw [show ((0 : Nat) : Int) = 0 from rfl] at h1
 rw [h1, dZ]
theorem O7 {t : am} {e : Int} (h : cr t = some e) : nJ t = some (if e ≠ 0 then e else if t.kind = 6 ∨ t.kind = 7 then 2 else 0) := by
 unfold nJ nk
 rw [h, dZ]
 by_cases he : e = 0
 ·subst he
  by_cases h6 : t.kind = 6
  ·simp [h6, aJ]
  ·by_cases h7 : t.kind = 7 <;> simp [h6, h7, aJ]
 ·simp [he, aJ]
def Wd (t u : am) : Prop := (t.kind = u.kind ∧ t.scale = u.scale) ∨ (t.kind = 1 ∧ u.kind = 2) ∨ ((t.kind = 1 ∨ t.kind = 2) ∧ u.kind = 3 ∧ u.scale = 0)
structure Ws (t u : am) : Prop where
 a : V t
 b : V u
 c : cr u = some 0
 l : t.kind ≠ 6 ∧ t.kind ≠ 7
 m : u.kind ≠ 6 ∧ u.kind ≠ 7
 w : Wd t u
def SL (t u : am) : Bool := (t.kind == u.kind && t.scale == u.scale) || (t.kind == 1 && u.kind == 2) || ((t.kind == 1 || t.kind == 2) && u.kind == 3 && u.scale == 0)
theorem qN (t u : am) (ht : j3 t < 1000000000) (hu : j3 u < 1000000000) : ∃ b, kG t u = some b ∧ mZ t u = some b ∧ (b = true → Ws t u) := by
 obtain ⟨e, a1, a2, a3⟩ := lW t ht
 obtain ⟨e', b1, b2, b3⟩ := lW u hu
 have hc : jz t u false = some (SL t u) := by
  unfold jz mC pB jA SL
  simp only [aJ, beq_iff_eq]
  repeat' split
  all_goals (first | rfl | (simp_all; done) | (simp_all; omega))
 have hr : jP t u false = some (SL t u) := by
  unfold jP qZ rL kR SL
  simp only [aJ, beq_iff_eq]
  repeat' split
  all_goals (first | rfl | (simp_all; done) | (simp_all; omega) | (refine congrArg some (Bool.eq_iff_iff.2 ?_); simp_all; try omega))
 have hc0 : jz t u true = some false := rfl
 have hr0 : jP t u true = some false := rfl
 have hC : kG t u = some (decide (e = 0 ∧ e' = 0 ∧ (t.kind ≠ 6 ∧ t.kind ≠ 7) ∧ (u.kind ≠ 6 ∧ u.kind ≠ 7)) && SL t u) := by
  unfold kG
  rw [O7 a1, O7 b1, dZ, dZ]
  by_cases he : e = 0 <;> by_cases he' : e' = 0 <;> by_cases h1 : t.kind = 6 ∨ t.kind = 7 <;> by_cases h2 : u.kind = 6 ∨ u.kind = 7 <;> simp [he, he', show ¬ e' = 0 → (e' != 0) = true from fun h => by simp [h], aJ, hc, hc0, h1, h2, show (t.kind ≠ 6 ∧ t.kind ≠ 7) ↔ ¬ (t.kind = 6 ∨ t.kind = 7) from by omega, show (u.kind ≠ 6 ∧ u.kind ≠ 7) ↔ ¬ (u.kind = 6 ∨ u.kind = 7) from by omega]
 have hR : mZ t u = some (decide (e = 0 ∧ e' = 0 ∧ (t.kind ≠ 6 ∧ t.kind ≠ 7) ∧ (u.kind ≠ 6 ∧ u.kind ≠ 7)) && SL t u) := by
  unfold mZ
  simp only [a2, b2, zFS, dZ]
  by_cases he : e = 0 <;> by_cases he' : e' = 0 <;> by_cases h1 : t.kind ≠ 6 ∧ t.kind ≠ 7 <;> by_cases h2 : u.kind ≠ 6 ∧ u.kind ≠ 7 <;> simp [he, he', h1, h2, aJ, hr, hr0]
 refine ⟨_, hC, hR, fun h => ?_⟩
 rw [gZ, decide_eq_true_iff] at h
 obtain ⟨⟨he, he', h6, h7⟩, hw⟩ := h
 subst he; subst he'
 refine ⟨a3 rfl, b3 rfl, b1, h6, h7, ?_⟩
 unfold SL at hw
 simp at hw
 unfold Wd
 omega
theorem Jg (t : am) : oD t = some (decide (t.kind = 6 ∨ t.kind = 7)) := by
 unfold oD oc
 by_cases h6 : t.kind = 6 <;> by_cases h7 : t.kind = 7 <;> simp [h6, h7, aJ]
def Uf (q : List ae → List ae → Prop) (t u : am) : Prop := (t.kind ≠ 6 ∧ t.kind ≠ 7 → Ws t u) ∧ (¬ (t.kind ≠ 6 ∧ t.kind ≠ 7) → t.kind = u.kind ∧ q t.fields u.fields)
def Kz : Nat → List ae → List ae → Prop
 | 0, _, _ => True
 | d + 1, p, q => ∀ f ∈ q, ∀ (i : Nat) (g : ae), sG p f.id = some (i : Int) → p[i]? = some g → Uf (Kz d) g.type f.type
theorem G7 : ∀ (N k k' : Nat) (p q : List ae), dK q ≤ N → N < k → N < k' → dK p < 1000000000 → dK q < 1000000000 → ∃ e, bp k p q = some e ∧ cc k' p q = some e ∧ (e = 0 → ∀ d, Kz d p q) := by
 intro N
 induction N with
 | zero =>
  intro k k' p q h hk hk' hp hq
  obtain ⟨k, rfl⟩ := gC hk
  obtain ⟨k', rfl⟩ := gC hk'
  have hl := cO q
  have : q = [] := List.length_eq_zero_iff.1 (by omega)
  subst this
  rw [bp, cc, tj, bA, ca]
  refine ⟨0, rfl, rfl, fun _ d => ?_⟩
  cases d with
  | zero => trivial
  | succ d => exact fun f hf => by cases hf
 | succ N ih =>
  intro k k' p q h hk hk' hp hq
  obtain ⟨k, rfl⟩ := gC hk
  obtain ⟨k', rfl⟩ := gC hk'
  have hpl := cO p
  have hql := cO q
  have key : ∀ (m f f' i : Nat), i + m = q.length → m < f → m < f' → ∃ e, bA (bp k) p q f (i : Int) = some e ∧ ca (cc k') p q f' (i : Int) = some e ∧
    (e = 0 → ∀ d, ∀ f ∈ q.drop i, ∀ (i : Nat) (g : ae), sG p f.id = some (i : Int) → p[i]? = some g → Uf (Kz d) g.type f.type) := by
   intro m
   induction m with
   | zero =>
    intro f f' i hi hf hf'
    obtain ⟨f, rfl⟩ := gC hf
    obtain ⟨f', rfl⟩ := gC hf'
    rw [bA, ca, Ds (by omega), eO, eO, List.drop_of_length_le (by omega)]
    exact ⟨0, rfl, rfl, fun _ d f hf => by cases hf⟩
   | succ m ih2 =>
    intro f f' i hi hf hf'
    obtain ⟨f, rfl⟩ := gC hf
    obtain ⟨f', rfl⟩ := gC hf'
    have h1 : i < q.length := by omega
    obtain ⟨e, c1, c2, c3⟩ := ih2 f f' (i + 1) (by omega) (by omega) (by omega)
    obtain ⟨r, r1, r2, r3⟩ := Ed (p := p) (by omega) q[i].id
    rw [bA, ca, aW h1, kM, kM, aE h1, dZ, dZ, r1, dZ, r2, dZ, qz h1]
    unfold ke lT
    rw [aq h1 (by omega)]
    rcases r3 with r3 | ⟨j, hj, rfl⟩
    ·rw [decide_eq_true r3, kM, kM]
     cases hn : q[i].need with
     | true => rw [kM, kM]; exact ⟨9, rfl, rfl, fun h => by cases h⟩
     | false =>
      rw [eO, eO]
      refine ⟨e, c1, c2, fun he d x hx j g hg hpj => ?_⟩
      rcases List.mem_cons.1 hx with rfl | hx
      ·rw [r2] at hg; cases hg; omega
      ·exact c3 he d x hx j g hg hpj
    ·rw [decide_eq_false (by omega), eO, eO, aE hj, dZ, dZ]
     have hqi := jt (iA h1)
     have hpj := jt (iA hj)
     have hqi2 := iN q[i]
     have hpj2 := iN p[j]
     have hqi3 := pT q[i].type
     have hpj3 := pT p[j].type
     obtain ⟨y, y1, y2, y3⟩ := ih k k' p[j].type.fields q[i].type.fields (by omega) (by omega) (by omega) (by omega) (by omega)
     obtain ⟨b, b1, b2, b3⟩ := qN p[j].type q[i].type (by omega) (by omega)
     -- what follows when the types suit
     have hgo : ∀ (hat : (∀ d, Kz d p[j].type.fields q[i].type.fields) → ∀ d, Uf (Kz d) p[j].type q[i].type),
       ∃ e, ga (bp k) (bA (bp k) p q f) (i : Int) q[i] p[j] false = some e ∧ fg (ca (cc k') p q f') (cc k') (i : Int) q[i] p[j] false = some e ∧
        (e = 0 → ∀ d, ∀ f ∈ q[i] :: q.drop (i + 1), ∀ (i : Nat) (g : ae), sG p f.id = some (i : Int) → p[i]? = some g → Uf (Kz d) g.type f.type) := by
      intro hat
      unfold ga fg ke lT
      rw [eO, eO, y1, dZ, y2, dZ, aq h1 (by omega)]
      by_cases hy : y = 0
      ·subst hy
       rw [bne_self_eq_false, eO, eO]
       refine ⟨e, c1, c2, fun he d x hx j' g hg hpj' => ?_⟩
       rcases List.mem_cons.1 hx with rfl | hx
       ·rw [r2] at hg
        have : j = j' := by have := Option.some.inj hg; omega
        subst this
        rw [dh hj] at hpj'
        cases hpj'
        exact hat (y3 rfl) d
       ·exact c3 he d x hx j' g hg hpj'
      ·rw [show (y != 0) = true by simp [hy], kM, kM]
       exact ⟨y, rfl, rfl, fun h => absurd h hy⟩
     have h2c : ga (bp k) (bA (bp k) p q f) (i : Int) q[i] p[j] true = some 2 := rfl
     have h2r : fg (ca (cc k') p q f') (cc k') (i : Int) q[i] p[j] true = some 2 := rfl
     have hj1 : ∃ e, kj (bp k) (bA (bp k) p q f) (i : Int) q[i] p[j] false = some e ∧ lN (ca (cc k') p q f') (cc k') (i : Int) q[i] p[j] false = some e ∧
        (e = 0 → ∀ d, ∀ f ∈ q[i] :: q.drop (i + 1), ∀ (i : Nat) (g : ae), sG p f.id = some (i : Int) → p[i]? = some g → Uf (Kz d) g.type f.type) := by
      unfold kj lN mg
      rw [eO, eO, Jg, dZ, zFS, dZ]
      by_cases hlf : p[j].type.kind ≠ 6 ∧ p[j].type.kind ≠ 7
      ·rw [decide_eq_true hlf, decide_eq_false (by omega)]
       simp only [Bool.not_true, Bool.not_false, kM, eO, dZ, b1, b2]
       cases b with
       | true => exact hgo fun _ d => ⟨fun _ => b3 rfl, fun h => absurd hlf h⟩
       | false => exact ⟨2, rfl, rfl, fun h => by cases h⟩
      ·rw [decide_eq_false hlf, decide_eq_true (by omega)]
       simp only [Bool.not_true, Bool.not_false, kM, eO, dZ]
       by_cases hk : p[j].type.kind = q[i].type.kind
       ·rw [show (q[i].type.kind != p[j].type.kind) = false by simp [hk], show (p[j].type.kind != q[i].type.kind) = false by simp [hk], eO, eO]
        exact hgo fun hh d => ⟨fun h => absurd h hlf, fun _ => ⟨hk, hh d⟩⟩
       ·rw [show (q[i].type.kind != p[j].type.kind) = true by simp; omega, show (p[j].type.kind != q[i].type.kind) = true by simp; omega, kM, kM]
        exact ⟨2, rfl, rfl, fun h => by cases h⟩
     cases hn : q[i].need with
     | true =>
      rw [kM, kM]
      cases hm : p[j].need with
      | true => exact hj1
      | false => exact ⟨9, rfl, rfl, fun h => by cases h⟩
     | false => rw [eO, eO]; exact hj1
  obtain ⟨e, e1, e2, e3⟩ := key q.length aQ aQ 0 (by omega) (by rw [aU]; omega) (by rw [aU]; omega)
  refine ⟨e, e1, e2, fun he d => ?_⟩
  cases d with
  | zero => trivial
  | succ d => exact e3 he d
theorem G2 (t : am) : sF t = some (decide (t.kind ≠ 6 ∧ t.kind ≠ 7)) := by
 unfold sF s7
 by_cases h6 : t.kind = 6 <;> by_cases h7 : t.kind = 7 <;> simp [h6, h7, aJ]
def xc : am := ⟨0, 0, []⟩
def Q4 (p : ce) (t : am) : am × Int :=
 if t.kind = 6 ∨ t.kind = 7 then (xc, 2) else if p.kind = 3 ∧ t.kind ≠ 2 ∧ t.kind ≠ 3 ∧ t.kind ≠ 4 then (xc, 2) else if 4 ≤ p.kind ∧ t.kind ≠ 5 then (xc, 2)
 else if p.kind = 2 ∨ 4 ≤ p.kind then (⟨2, 0, []⟩, 0) else (t, 0)
def IT (p : ce) (t : am) (e : Int) : am × Int :=
 if e ≠ 0 then (xc, e) else if p.kind < 0 ∨ 7 < p.kind then (xc, 3)
 else if p.kind = 2 ∨ p.kind = 3 then (if p.param < 1 ∨ 1000000 < p.param then (xc, 3) else Q4 p t) else if p.param ≠ 0 then (xc, 3) else Q4 p t
theorem Wz (p : ce) (t : am) : iL p t = some (Q4 p t) := by
 unfold iL fU fT km Q4 xc
 rw [G2]
 simp only [a6, aJ]
 by_cases h6 : t.kind = 6
 ·simp [h6]
 by_cases h7 : t.kind = 7
 ·simp [h7]
 by_cases h3 : p.kind = 3
 ·by_cases t2 : t.kind = 2
  ·simp [h6, h7, h3, t2]
  by_cases t3 : t.kind = 3
  ·simp [h6, h7, h3, t2, t3]
  by_cases t4 : t.kind = 4
  ·simp [h6, h7, h3, t2, t3, t4]
  simp [h6, h7, h3, t2, t3, t4]
 ·by_cases h4 : 4 ≤ p.kind
  ·by_cases t5 : t.kind = 5
   ·simp [h6, h7, h3, h4, t5]
   ·simp [h6, h7, h3, h4, t5]
  ·by_cases h2 : p.kind = 2
   ·simp [h6, h7, h3, h4, h2]
   ·simp [h6, h7, h3, h4, h2]
theorem SB (p : ce) (t : am) : dp p t false = some (Q4 p t) := by
 unfold dp gj ll lm Q4 xc
 rw [zFS]
 simp only [a6, aJ]
 by_cases h6 : t.kind = 6
 ·simp [h6]
 by_cases h7 : t.kind = 7
 ·simp [h7]
 by_cases h3 : p.kind = 3
 ·by_cases t2 : t.kind = 2
  ·simp [h6, h7, h3, t2]
  by_cases t3 : t.kind = 3
  ·simp [h6, h7, h3, t2, t3]
  by_cases t4 : t.kind = 4
  ·simp [h6, h7, h3, t2, t3, t4]
  simp [h6, h7, h3, t2, t3, t4]
 ·by_cases h4 : 4 ≤ p.kind
  ·by_cases t5 : t.kind = 5
   ·simp [h6, h7, h3, h4, t5]
   ·simp [h6, h7, h3, h4, t5]
  ·by_cases h2 : p.kind = 2
   ·simp [h6, h7, h3, h4, h2]
   ·simp [h6, h7, h3, h4, h2]
theorem om (a b c : Int) : du a b c = some (decide (b ≤ a ∧ a ≤ c)) := by
 unfold du qY
 by_cases h1 : b ≤ a <;> by_cases h2 : a ≤ c <;> simp [h1, h2, aJ]
theorem tt (p : ce) (t : am) (hs : j3 t < 1000000000) : ∃ e, (e = 0 → V t) ∧ gb p t = some (IT p t e) ∧ gH p t = some (IT p t e) := by
 obtain ⟨e, h1, h2, h3⟩ := lW t hs
 refine ⟨e, h3, ?_, ?_⟩
 ·unfold gb IT
  rw [h1]
  by_cases he : e = 0
  ·subst he
   unfold kr ku kx
   rw [Wz]
   simp only [a6, aJ, xc]
   by_cases k0 : p.kind < 0
   ·simp [k0]
   by_cases k7 : 7 < p.kind
   ·simp [k0, k7]
   by_cases k2 : p.kind = 2
   ·by_cases m1 : p.param < 1
    ·simp [k0, k7, k2, m1]
    by_cases m2 : 1000000 < p.param
    ·simp [k0, k7, k2, m1, m2]
    simp [k0, k7, k2, m1, m2]
   by_cases k3 : p.kind = 3
   ·by_cases m1 : p.param < 1
    ·simp [k0, k7, k2, k3, m1]
    by_cases m2 : 1000000 < p.param
    ·simp [k0, k7, k2, k3, m1, m2]
    simp [k0, k7, k2, k3, m1, m2]
   by_cases m0 : p.param = 0
   ·simp [k0, k7, k2, k3, m0]
   ·simp [k0, k7, k2, k3, m0]
  ·simp [he, aJ, a6, xc]
 ·unfold gH IT
  rw [h2]
  by_cases he : e = 0
  ·subst he
   unfold lr
   rw [om, om]
   have hb : dp p t true = some (xc, 3) := rfl
   by_cases k0 : p.kind < 0
   ·simp [k0, aJ, a6, show ¬ (0 : Int) ≤ p.kind by omega, xc]
   by_cases k7 : 7 < p.kind
   ·simp [k0, k7, aJ, a6, show ¬ p.kind ≤ 7 by omega, xc]
   have k0' : (0 : Int) ≤ p.kind := by omega
   have k7' : p.kind ≤ 7 := by omega
   by_cases k2 : p.kind = 2
   ·by_cases m1 : p.param < 1
    ·simp [k2, m1, aJ, a6, hb, show ¬ (1 : Int) ≤ p.param by omega]
    by_cases m2 : 1000000 < p.param
    ·simp [k2, m1, m2, aJ, a6, hb, show ¬ p.param ≤ 1000000 by omega]
    simp [k2, m1, m2, aJ, a6, SB, show (1 : Int) ≤ p.param by omega, show p.param ≤ 1000000 by omega]
   by_cases k3 : p.kind = 3
   ·by_cases m1 : p.param < 1
    ·simp [k3, m1, aJ, a6, hb, show ¬ (1 : Int) ≤ p.param by omega]
    by_cases m2 : 1000000 < p.param
    ·simp [k3, m1, m2, aJ, a6, hb, show ¬ p.param ≤ 1000000 by omega]
    simp [k3, m1, m2, aJ, a6, SB, show (1 : Int) ≤ p.param by omega, show p.param ≤ 1000000 by omega]
   by_cases m0 : p.param = 0
   ·simp [k0, k7, k0', k7', k2, k3, m0, aJ, a6, SB]
   ·have hm : (p.param != 0) = true := bne_iff_ne.2 m0
    simp [k0, k7, k0', k7', k2, k3, m0, hm, aJ, a6, hb]
  ·simp [he, aJ, a6, xc]
structure W9 (p : ce) (t : am) : Prop where
 v : V t
 k6 : t.kind ≠ 6
 k7 : t.kind ≠ 7
 lo : 0 ≤ p.kind
 hi : p.kind ≤ 7
 par : p.kind = 2 ∨ p.kind = 3 → 1 ≤ p.param ∧ p.param ≤ 1000000
 cut : p.kind = 3 → t.kind = 2 ∨ t.kind = 3 ∨ t.kind = 4
 tim : 4 ≤ p.kind → t.kind = 5
theorem Sd {p : ce} {t : am} {e : Int} (hv : e = 0 → V t) (h : (IT p t e).2 = 0) : W9 p t := by
 unfold IT Q4 at h
 by_cases he : e = 0
 ·subst he
  rw [if_neg (by decide)] at h
  by_cases hk : p.kind < 0 ∨ 7 < p.kind
  ·rw [if_pos hk] at h; exact absurd h (by decide)
  rw [if_neg hk] at h
  have fin : (if t.kind = 6 ∨ t.kind = 7 then (xc, (2 : Int)) else if p.kind = 3 ∧ t.kind ≠ 2 ∧ t.kind ≠ 3 ∧ t.kind ≠ 4 then (xc, 2) else if 4 ≤ p.kind ∧ t.kind ≠ 5 then (xc, 2) else if p.kind = 2 ∨ 4 ≤ p.kind then (⟨2, 0, []⟩, 0) else (t, 0)).2 = 0 →
    t.kind ≠ 6 ∧ t.kind ≠ 7 ∧ (p.kind = 3 → t.kind = 2 ∨ t.kind = 3 ∨ t.kind = 4) ∧ (4 ≤ p.kind → t.kind = 5) := fun h => by
   by_cases a : t.kind = 6 ∨ t.kind = 7
   ·rw [if_pos a] at h; exact absurd h (by decide)
   rw [if_neg a] at h
   by_cases b : p.kind = 3 ∧ t.kind ≠ 2 ∧ t.kind ≠ 3 ∧ t.kind ≠ 4
   ·rw [if_pos b] at h; exact absurd h (by decide)
   rw [if_neg b] at h
   by_cases c : 4 ≤ p.kind ∧ t.kind ≠ 5
   ·rw [if_pos c] at h; exact absurd h (by decide)
   exact ⟨by omega, by omega, by omega, by omega⟩
  by_cases h23 : p.kind = 2 ∨ p.kind = 3
  ·rw [if_pos h23] at h
   by_cases hm : p.param < 1 ∨ 1000000 < p.param
   ·rw [if_pos hm] at h; exact absurd h (by decide)
   rw [if_neg hm] at h
   obtain ⟨a, b, c, d⟩ := fin h
   exact ⟨hv rfl, a, b, by omega, by omega, fun _ => by omega, c, d⟩
  ·rw [if_neg h23] at h
   by_cases hm : p.param ≠ 0
   ·rw [if_pos hm] at h; exact absurd h (by decide)
   rw [if_neg hm] at h
   obtain ⟨a, b, c, d⟩ := fin h
   exact ⟨hv rfl, a, b, by omega, by omega, fun h => absurd h h23, c, d⟩
 ·rw [if_pos he] at h; exact absurd h he
end Go.Proofs.YtfnmbpecdjncfaaGreatDoor
namespace Go.Proofs.YtfnmbpecdjncfaaGreatDoor
open Go Go.SX Go.SX.Cal
open Go.IntKind (i64)
theorem bS {α β : Type} (a : α) (f : α → Option β) : au (some a) f = f a := rfl
theorem iT {β : Type} (x y : Option β) : ak true x y = x := rfl
theorem iF {β : Type} (x y : Option β) : ak false x y = y := rfl
theorem gP {β : Type} {p : Prop} [Decidable p] {x : Option β} (h : p) : pn p x = x := if_pos h
theorem CN {i n : Nat} (h : ¬ i < n) : decide ((i : Int) < (n : Int)) = false := by simp; omega
theorem fu {m f : Nat} (h : m < f) : ∃ q, f = q + 1 := ⟨f - 1, by omega⟩
theorem C2 : aQ = 1152921504606846975 + 1 := rfl
structure Nh (fs : List ae) (id : Int) (i : Nat) : Prop where
 lt : i < fs.length
 eq : ∀ h : i < fs.length, fs[i].id = id
 no : ∀ (j : Nat) (h : j < fs.length), j < i → fs[j].id ≠ id
theorem TC {fs : List ae} (id : Int) : ∀ (m j : Nat), j + m = fs.length → (∃ i, j ≤ i ∧ i < fs.length ∧ (∀ h : i < fs.length, fs[i].id = id) ∧ ∀ (q : Nat) (h : q < fs.length), j ≤ q → q < i → fs[q].id ≠ id) ∨ ∀ (q : Nat) (h : q < fs.length), j ≤ q → fs[q].id ≠ id := by
 intro m
 induction m with
 | zero => intro j h; exact .inr fun q hq hj => by omega
 | succ m ih =>
  intro j h
  have hj : j < fs.length := by omega
  by_cases e : fs[j].id = id
  ·exact .inl ⟨j, gO _, hj, fun _ => e, fun q _ h1 h2 => by omega⟩
  ·rcases ih (j + 1) (by omega) with ⟨i, h1, h2, h3, h4⟩ | h1
   ·refine .inl ⟨i, by omega, h2, h3, fun q hq h5 h6 => ?_⟩
    by_cases e2 : q = j
    ·subst e2; exact e
    ·exact h4 q hq (by omega) h6
   ·refine .inr fun q hq h5 => ?_
    by_cases e2 : q = j
    ·subst e2; exact e
    ·exact h1 q hq (by omega)
theorem Nh.or (fs : List ae) (id : Int) : (∃ i, Nh fs id i) ∨ ∀ (q : Nat) (h : q < fs.length), fs[q].id ≠ id := by
 rcases TC (fs := fs) id fs.length 0 (by omega) with ⟨i, _, h2, h3, h4⟩ | h
 ·exact .inl ⟨i, h2, h3, fun j hj hi => h4 j hj (Nat.zero_le _) hi⟩
 ·exact .inr fun q hq => h q hq (Nat.zero_le _)
theorem Wo {fs : List ae} (hn : fs.length < 1000000000) {id : Int} {i : Nat} (hF : Nh fs id i) : ∀ (m f j : Nat), j + m = i → m < f →
  aD fs id f (j : Int) = some (i : Int) := by
 intro m
 induction m with
 | zero =>
  intro f j h hf
  obtain ⟨q, rfl⟩ := fu hf
  have e : j = i := by omega
  subst e
  rw [aD, aW hF.lt, iT, aE hF.lt, bS]
  unfold pO
  rw [bS, hF.eq hF.lt, beq_self_eq_true, iT]
 | succ m ih =>
  intro f j h hf
  obtain ⟨q, rfl⟩ := fu hf
  have hj : j < fs.length := by have := hF.lt; omega
  rw [aD, aW hj, iT, aE hj, bS]
  unfold pO
  rw [bS, beq_eq_false_iff_ne.2 (hF.no j hj (by omega)), iF, aq hj hn]
  exact ih q (j + 1) (by omega) (by omega)
theorem VY {fs : List ae} (hn : fs.length < 1000000000) {id : Int} (hF : ∀ (q : Nat) (h : q < fs.length), fs[q].id ≠ id) : ∀ (m f j : Nat), j + m = fs.length → m < f →
  aD fs id f (j : Int) = some (-1) := by
 intro m
 induction m with
 | zero =>
  intro f j h hf
  obtain ⟨q, rfl⟩ := fu hf
  rw [aD, CN (by omega), iF]
  rfl
 | succ m ih =>
  intro f j h hf
  obtain ⟨q, rfl⟩ := fu hf
  have hj : j < fs.length := by omega
  rw [aD, aW hj, iT, aE hj, bS]
  unfold pO
  rw [bS, beq_eq_false_iff_ne.2 (hF j hj), iF, aq hj hn]
  exact ih q (j + 1) (by omega) (by omega)
theorem rh {fs : List ae} (hn : fs.length < 1000000000) {id : Int} {i : Nat} (hF : Nh fs id i) : j0 fs id = some (i : Int) := by
 unfold j0 cg
 have h := Wo hn hF i aQ 0 (by omega) (by rw [C2]; have := hF.lt; omega)
 rw [show ((0 : Nat) : Int) = 0 from rfl] at h
 rw [h]; rfl
theorem vX {fs : List ae} (hn : fs.length < 1000000000) {id : Int} (hF : ∀ (q : Nat) (h : q < fs.length), fs[q].id ≠ id) : j0 fs id = some (-1) := by
 unfold j0 cg
 have h := VY hn hF fs.length aQ 0 (by omega) (by rw [C2]; omega)
 rw [show ((0 : Nat) : Int) = 0 from rfl] at h
 rw [h]; rfl
theorem UI {fs : List ae} (hn : fs.length < 1000000000) {id : Int} {i : Nat} (hF : Nh fs id i) : ∀ (m f j : Nat), j + m = i → m < f →
  kF fs id f (j : Int) = some (fs[i]'hF.lt, true) := by
 intro m
 induction m with
 | zero =>
  intro f j h hf
  obtain ⟨q, rfl⟩ := fu hf
  have e : j = i := by omega
  subst e
  rw [kF, aW hF.lt, iT, aE hF.lt, bS, hF.eq hF.lt, beq_self_eq_true, iT]
 | succ m ih =>
  intro f j h hf
  obtain ⟨q, rfl⟩ := fu hf
  have hj : j < fs.length := by have := hF.lt; omega
  rw [kF, aW hj, iT, aE hj, bS, beq_eq_false_iff_ne.2 (hF.no j hj (by omega)), iF, aq hj hn]
  exact ih q (j + 1) (by omega) (by omega)
theorem Us {fs : List ae} (hn : fs.length < 1000000000) {id : Int} (hF : ∀ (q : Nat) (h : q < fs.length), fs[q].id ≠ id) : ∀ (m f j : Nat), j + m = fs.length → m < f →
  ∃ g, kF fs id f (j : Int) = some (g, false) := by
 intro m
 induction m with
 | zero =>
  intro f j h hf
  obtain ⟨q, rfl⟩ := fu hf
  rw [kF, CN (by omega), iF]
  exact ⟨_, rfl⟩
 | succ m ih =>
  intro f j h hf
  obtain ⟨q, rfl⟩ := fu hf
  have hj : j < fs.length := by omega
  rw [kF, aW hj, iT, aE hj, bS, beq_eq_false_iff_ne.2 (hF j hj), iF, aq hj hn]
  exact ih q (j + 1) (by omega) (by omega)
theorem Cy {fs : List ae} (hn : fs.length < 1000000000) {id : Int} {i : Nat} (hF : Nh fs id i) : o5 fs id = some (fs[i]'hF.lt, true) := by
 have h := UI hn hF i aQ 0 (by omega) (by rw [C2]; have := hF.lt; omega)
 exact h
theorem BX {fs : List ae} (hn : fs.length < 1000000000) {id : Int} (hF : ∀ (q : Nat) (h : q < fs.length), fs[q].id ≠ id) : ∃ g, o5 fs id = some (g, false) := by
 obtain ⟨g, h⟩ := Us hn hF fs.length aQ 0 (by omega) (by rw [C2]; omega)
 exact ⟨g, h⟩
def DU (a b : bi) : Bool := (a.source == b.source) && (((a.transform.kind == b.transform.kind) && ((a.transform.param == b.transform.param) && true)) && true)
theorem ID (a b : bi) : DU a b = true ↔ a = b := by
 obtain ⟨s, k, p⟩ := a
 obtain ⟨s2, k2, p2⟩ := b
 simp [DU, and_assoc]
theorem M8 (a b : bi) : DU a b = DU b a := by
 rw [Bool.eq_iff_iff, ID, ID]; exact eq_comm
theorem Wj {l : List bi} (hn : l.length < 1000000000) (e : bi) : ∀ (m f j : Nat), j + m = l.length → m < f → ∃ r, bq l e f (j : Int) = some r ∧ decide ((0 : Int) ≤ r) = (l.drop j).any (DU e) := by
 intro m
 induction m with
 | zero =>
  intro f j h hf
  obtain ⟨q, rfl⟩ := fu hf
  rw [bq, CN (by omega), iF]
  exact ⟨-1, rfl, by rw [List.drop_of_length_le (by omega)]; rfl⟩
 | succ m ih =>
  intro f j h hf
  obtain ⟨q, rfl⟩ := fu hf
  have hj : j < l.length := by omega
  rw [bq, aW hj, iT, aE hj, bS, bS, List.drop_eq_getElem_cons hj, List.any_cons]
  show ∃ r, ak (DU e l[j]) _ _ = _ ∧ _
  cases hb : DU e l[j] with
  | true => exact ⟨_, rfl, by simp⟩
  | false =>
   rw [iF, aq hj hn]
   exact ih q (j + 1) (by omega) (by omega)
theorem So {l : List bi} (hn : l.length < 1000000000) (e : bi) : cX l e = some (l.any (DU e)) := by
 unfold cX fc
 obtain ⟨r, h1, h2⟩ := Wj hn e l.length aQ 0 (by omega) (by rw [C2]; omega)
 rw [show ((0 : Nat) : Int) = 0 from rfl] at h1
 rw [h1, bS, h2]; rfl
theorem VU {p : cm} (hn : p.fields.length < 1000000000) (rec1 : Int → Option Int) (x1 : Nat) (hx : x1 ≤ p.fields.length) (e : bi) : ∀ (m f j : Nat), j + m = x1 → m < f →
  lX rec1 p (x1 : Int) e f (j : Int) = if ((p.fields.take x1).drop j).any (DU e) = true then some 5 else sZ rec1 (x1 : Int) := by
 intro m
 induction m with
 | zero =>
  intro f j h hf
  obtain ⟨q, rfl⟩ := fu hf
  rw [lX, CN (by omega), iF, List.drop_of_length_le (by rw [List.length_take]; omega)]
  rfl
 | succ m ih =>
  intro f j h hf
  obtain ⟨q, rfl⟩ := fu hf
  have hj : j < p.fields.length := by omega
  have hj2 : j < (p.fields.take x1).length := by rw [List.length_take]; omega
  rw [lX, aW (show j < x1 by omega), iT, aE hj, bS, bS, List.drop_eq_getElem_cons hj2, List.any_cons]
  rw [show (p.fields.take x1)[j] = p.fields[j] by simp]
  show ak (DU p.fields[j] e) _ _ = _
  rw [M8]
  cases hb : DU e p.fields[j] with
  | true => simp [iT]
  | false =>
   rw [iF, aq (show j < x1 by omega) (by omega), ih q (j + 1) (by omega) (by omega)]
   simp
theorem Jw {p : cm} {fs : List ae} (hp : p.fields.length < 1000000000) (hf : dK fs < 1000000000) : ∀ (m f j : Nat), j + m = p.fields.length → m < f →
  ∃ c, lc p fs f (j : Int) = some c ∧ il p fs f (j : Int) = some c ∧ (c = 0 → ∀ (k : Nat) (h : k < p.fields.length), j ≤ k → ∃ i, Nh fs p.fields[k].source i) := by
 have hn : fs.length < 1000000000 := by have := cO fs; omega
 intro m
 induction m with
 | zero =>
  intro f j h hq
  obtain ⟨q, rfl⟩ := fu hq
  refine ⟨0, ?_, ?_, fun _ k hk hj => by omega⟩
  ·rw [lc, CN (by omega), iF]; rfl
  ·rw [il, CN (by omega), iF]; rfl
 | succ m ih =>
  intro f j h hq
  obtain ⟨q, rfl⟩ := fu hq
  have hj : j < p.fields.length := by omega
  rw [lc, il, aW hj, iT, iT, aE hj, bS, bS]
  rcases Nh.or fs p.fields[j].source with ⟨i, hi⟩ | hi
  ·rw [rh hn hi, Cy hn hi, bS, bS]
   have hs : j3 (fs[i]'hi.lt).type < 1000000000 := by
    have h1 := jt (iA hi.lt)
    have h2 := iN (fs[i]'hi.lt)
    omega
   obtain ⟨e, he, t1, t2⟩ := tt p.fields[j].transform (fs[i]'hi.lt).type hs
   rw [show decide ((i : Int) < 0) = false from by simp, iF, aE hi.lt, bS, t1, bS]
   show ∃ c, _ ∧ ak (!true) _ _ = _ ∧ _
   rw [Bool.not_true, iF]
   show ∃ c, _ ∧ au (gH p.fields[j].transform (fs[i]'hi.lt).type) _ = _ ∧ _
   rw [t2, bS]
   by_cases hz : (IT p.fields[j].transform (fs[i]'hi.lt).type e).2 = 0
   ·rw [hz, show ((0 : Int) != 0) = false from rfl, iF, iF, gP ⟨by omega, by omega, by omega⟩]
    have hd : (List.take ((j : Int).toNat - (0 : Int).toNat) (List.drop (0 : Int).toNat p.fields)) = p.fields.take j := by simp
    rw [hd, So (by rw [List.length_take]; omega), bS]
    have hr := VU hp (il p fs q) j (by omega) p.fields[j] j aQ 0 (by omega) (by rw [C2]; omega)
    rw [show ((0 : Nat) : Int) = 0 from rfl, List.drop_zero] at hr
    rw [hr]
    cases hb : (p.fields.take j).any (DU p.fields[j]) with
    | true => exact ⟨5, rfl, rfl, fun h => absurd h (by decide)⟩
    | false =>
     obtain ⟨c, c1, c2, c3⟩ := ih q (j + 1) (by omega) (by omega)
     refine ⟨c, by rw [iF, aq hj hp]; exact c1, by
      rw [if_neg (by decide)]
      unfold sZ
      rw [aq hj hp]; exact c2, fun hc k hk hjk => ?_⟩
     by_cases e : k = j
     ·subst e; exact ⟨i, hi⟩
     ·exact c3 hc k hk (by omega)
   ·have hne : ((IT p.fields[j].transform (fs[i]'hi.lt).type e).2 != 0) = true := bne_iff_ne.2 hz
    rw [hne, iT, iT]
    exact ⟨_, rfl, rfl, fun h => absurd h hz⟩
  ·obtain ⟨g, hg⟩ := BX hn hi
   rw [vX hn hi, hg, bS, bS, show decide ((-1 : Int) < 0) = true from rfl, iT]
   exact ⟨9, rfl, rfl, fun h => absurd h (by decide)⟩
theorem NV (p : cm) {fs : List ae} (hp : p.fields.length < 1000000000) (hf : dK fs < 1000000000) : ∃ c, qK p fs = some c ∧ vT p fs = some c ∧ (c = 0 → ∀ (k : Nat) (h : k < p.fields.length), ∃ i, Nh fs p.fields[k].source i) := by
 unfold qK vT
 cases hb : decide ((4 : Int) < (p.fields.length : Int)) with
 | true => exact ⟨7, rfl, rfl, fun h => absurd h (by decide)⟩
 | false =>
  rw [iF, iF]
  obtain ⟨c, h1, h2, h3⟩ := Jw (p := p) hp hf p.fields.length aQ 0 (by omega) (by rw [C2]; omega)
  exact ⟨c, h1, h2, fun hc k hk => h3 hc k hk (Nat.zero_le _)⟩
def ee (e : Int) (f : Option Int) : Option Int := if e ≠ 0 then some e else f
def ov (a b : Int) : Int := if a ≠ 0 then a else b
def er (b : Bool) (e : Int) : Int := if b then e else 0
theorem iZ (e : Int) (f : Option Int) : ak (e != (0 : Int)) (some e) f = ee e f := by
 unfold ee; by_cases h : e = 0 <;> simp [h, aJ]
theorem dH {b : Bool} {e : Int} (he : e ≠ 0) (f : Option Int) : ak b (some e) f = ee (er b e) f := by
 unfold ee er; cases b <;> simp [he, aJ]
theorem bu (a b : Int) (f : Option Int) : ee a (ee b f) = ee (ov a b) f := by
 unfold ee ov; by_cases h : a = 0 <;> simp [h]
theorem dV (a : Int) : ee a (some 0) = some a := by unfold ee; by_cases h : a = 0 <;> simp [h]
theorem wO (a b : Int) : ee a (some b) = some (ov a b) := by unfold ee ov; by_cases h : a = 0 <;> simp [h]
theorem oT {a b : Int} : ov a b = 0 ↔ a = 0 ∧ b = 0 := by unfold ov; by_cases h : a = 0 <;> simp [h]
theorem CU {b : Bool} {e : Int} (he : e ≠ 0) : er b e = 0 ↔ b = false := by unfold er; cases b <;> simp [he]
theorem LX (e : Int) : er true e = e := rfl
theorem HM (e : Int) : er false e = 0 := rfl
theorem IH (b : Int) : ov 0 b = b := rfl
theorem Kb {a : Int} (h : a ≠ 0) (b : Int) : ov a b = a := by unfold ov; rw [if_pos h]
def fe (c : Nat → Int) : Nat → Nat → Int
 | 0, _ => 0
 | m + 1, i => ov (c i) (fe c m (i + 1))
theorem Nc {c : Nat → Int} : ∀ {m i : Nat}, fe c m i = 0 ↔ ∀ j, i ≤ j → j < i + m → c j = 0
 | 0, i => by simp [fe]; intro j h1 h2; omega
 | m + 1, i => by
  rw [fe, oT, Nc (m := m)]
  constructor
  ·rintro ⟨h1, h2⟩ j h3 h4
   by_cases e : j = i
   ·subst e; exact h1
   ·exact h2 j (by omega) (by omega)
  ·exact fun h => ⟨h i (gO _) (by omega), fun j h1 h2 => h j (by omega) (by omega)⟩
theorem LE {n : Nat} {L : Nat → Int → Option Int} {fin : Option Int} {c : Nat → Int} (h0 : ∀ k, L (k + 1) (n : Int) = fin) (h1 : ∀ k i, i < n → L (k + 1) (i : Int) = ee (c i) (L k ((i + 1 : Nat) : Int))) :
  ∀ m k i, i + m = n → m < k → L k (i : Int) = ee (fe c m i) fin
 | 0, k, i, hi, hk => by
  obtain ⟨k, rfl⟩ := fu hk
  have : i = n := by omega
  subst this
  rw [h0]; rfl
 | m + 1, k, i, hi, hk => by
  obtain ⟨k, rfl⟩ := fu hk
  rw [h1 k i (by omega), LE h0 h1 m k (i + 1) (by omega) (by omega), bu]; rfl
theorem hU {n : Nat} {L : Nat → Int → Option Int} {fin : Option Int} {c : Nat → Int} (hn : n < 1000000000) (h0 : ∀ k, L (k + 1) (n : Int) = fin) (h1 : ∀ k i, i < n → L (k + 1) (i : Int) = ee (c i) (L k ((i + 1 : Nat) : Int))) :
  L aQ (0 : Int) = ee (fe c n 0) fin :=
 LE h0 h1 n aQ 0 (by omega) (by rw [aU]; omega)
def ly (p : Nat → Bool) (n : Nat) : Bool := (List.range n).any p
theorem eN {p : Nat → Bool} {n : Nat} : ly p n = true ↔ ∃ j, j < n ∧ p j = true := by
 unfold ly; rw [List.any_eq_true]; simp [List.mem_range]
theorem rW (n : Nat) : decide ((n : Int) < (n : Int)) = false := by simp
theorem gu {a b : Bool} (h : a = true ↔ b = true) : a = b := Bool.eq_iff_iff.2 h
theorem Ie {n : Nat} {L : Nat → Int → Option Int} {p : Nat → Bool} (h0 : ∀ k, L (k + 1) (n : Int) = some (-1)) (h1 : ∀ k i, i < n → L (k + 1) (i : Int) = ak (p i) (some (i : Int)) (L k ((i + 1 : Nat) : Int))) :
  ∀ m k i, i + m = n → m < k → ∃ r, L k (i : Int) = some r ∧ (decide ((0 : Int) ≤ r) = true ↔ ∃ j, i ≤ j ∧ j < n ∧ p j = true)
 | 0, k, i, hi, hk => by
  obtain ⟨k, rfl⟩ := fu hk
  have : i = n := by omega
  subst this
  exact ⟨-1, h0 k, by simp; intro j h1 h2; omega⟩
 | m + 1, k, i, hi, hk => by
  obtain ⟨k, rfl⟩ := fu hk
  rw [h1 k i (by omega)]
  cases hp : p i with
  | true => exact ⟨i, rfl, by simp; exact ⟨i, gO _, by omega, hp⟩⟩
  | false =>
   obtain ⟨r, e1, e2⟩ := Ie h0 h1 m k (i + 1) (by omega) (by omega)
   refine ⟨r, e1, e2.trans ⟨fun ⟨j, a, b, c⟩ => ⟨j, by omega, b, c⟩, fun ⟨j, a, b, c⟩ => ⟨j, ?_, b, c⟩⟩⟩
   by_cases e : j = i
   ·subst e; rw [hp] at c; cases c
   ·omega
theorem LU {n : Nat} {L : Nat → Int → Option Int} {p : Nat → Bool} (hn : n < 1000000000) (h0 : ∀ k, L (k + 1) (n : Int) = some (-1)) (h1 : ∀ k i, i < n → L (k + 1) (i : Int) = ak (p i) (some (i : Int)) (L k ((i + 1 : Nat) : Int))) :
  ∃ r, L aQ (0 : Int) = some r ∧ decide ((0 : Int) ≤ r) = ly p n := by
 obtain ⟨r, e1, e2⟩ := Ie h0 h1 n aQ 0 (by omega) (by rw [aU]; omega)
 refine ⟨r, e1, gu (e2.trans (Iff.trans ?_ eN.symm))⟩
 exact ⟨fun ⟨j, _, b, c⟩ => ⟨j, b, c⟩, fun ⟨j, b, c⟩ => ⟨j, Nat.zero_le _, b, c⟩⟩
theorem Iy {n : Nat} {L : Nat → Int → Option Bool} {p : Nat → Bool} (h0 : ∀ k, L (k + 1) (n : Int) = some true) (h1 : ∀ k i, i < n → L (k + 1) (i : Int) = ak (p i) (some false) (L k ((i + 1 : Nat) : Int))) :
  ∀ m k i, i + m = n → m < k → ∃ b, L k (i : Int) = some b ∧ (b = true ↔ ∀ j, i ≤ j → j < n → p j = false)
 | 0, k, i, hi, hk => by
  obtain ⟨k, rfl⟩ := fu hk
  have : i = n := by omega
  subst this
  exact ⟨true, h0 k, by simp; intro j h1 h2; omega⟩
 | m + 1, k, i, hi, hk => by
  obtain ⟨k, rfl⟩ := fu hk
  rw [h1 k i (by omega)]
  cases hp : p i with
  | true =>
   refine ⟨false, rfl, by simp; exact ⟨i, gO _, by omega, hp⟩⟩
  | false =>
   obtain ⟨b, e1, e2⟩ := Iy h0 h1 m k (i + 1) (by omega) (by omega)
   refine ⟨b, e1, e2.trans ⟨fun h j a b => ?_, fun h j a b => h j (by omega) b⟩⟩
   by_cases e : j = i
   ·subst e; exact hp
   ·exact h j (by omega) b
def Il (p : Nat → Bool) (n : Nat) : Bool := !ly p n
theorem I1 {p : Nat → Bool} {n : Nat} : Il p n = true ↔ ∀ j, j < n → p j = false := by
 unfold Il
 rw [Bool.not_eq_true', ← Bool.not_eq_true, eN]
 constructor
 ·intro h j b
  cases hp : p j with
  | false => rfl
  | true => exact absurd ⟨j, b, hp⟩ h
 ·rintro h ⟨j, b, c⟩
  rw [h j b] at c; cases c
theorem Ci {n : Nat} {L : Nat → Int → Option Bool} {p : Nat → Bool} (hn : n < 1000000000) (h0 : ∀ k, L (k + 1) (n : Int) = some true) (h1 : ∀ k i, i < n → L (k + 1) (i : Int) = ak (p i) (some false) (L k ((i + 1 : Nat) : Int))) :
  L aQ (0 : Int) = some (Il p n) := by
 obtain ⟨b, e1, e2⟩ := Iy h0 h1 n aQ 0 (by omega) (by rw [aU]; omega)
 rw [show ((0 : Nat) : Int) = 0 from rfl] at e1
 rw [e1]
 congr 1
 refine gu (e2.trans (Iff.trans ?_ I1.symm))
 exact ⟨fun h j b => h j (Nat.zero_le _) b, fun h j _ b => h j b⟩
theorem qm {α : Type} {xs : List α} {i : Nat} (h : i < xs.length) (h0 : 0 < i) (hn : xs.length < 1000000000) : at? xs (i64.wrap ((i : Int) - 1)) = some (xs[i - 1]'(by omega)) := by
 rw [zd (by omega) (by omega), show ((i : Int) - 1) = ((i - 1 : Nat) : Int) by omega]
 exact aE (by omega)
theorem lG {n : Nat} (hn : n < 1000000000) : i64.wrap ((n : Int) - 1) = (n : Int) - 1 := zd (by omega) (by omega)
end Go.Proofs.YtfnmbpecdjncfaaGreatDoor
namespace Go.Proofs.YtfnmbpecdjncfaaGreatDoor
open Go Go.SX Go.SX.Cal Go.Lib
open Go.IntKind (i64)
def wc : ByteArray := ByteArray.mk #[95, 45, 46, 47]
def IL (n : Nat) : Bool := n == 95 || n == 45 || n == 46 || n == 47
def HB (n : Nat) : Bool := rc n || (decide (48 ≤ n) && decide (n ≤ 57)) || IL n
theorem R2 : ∀ n : Fin 128, decide (Lib.indexByte [95, 45, 46, 47] (n.val : Int).toNat.toUInt8 < 0) = !IL n.val := by decide
theorem IQ : ∀ (l : List UInt8) (c : UInt8), (∀ b ∈ l, b ≠ c) → Lib.indexByte l c = -1
 | [], _, _ => rfl
 | b :: l, c, h => by
  have h1 : (b == c) = false := by simp [h b (by simp)]
  rw [Lib.indexByte, h1, if_neg (by decide), IQ l c fun x hx => h x (by simp [hx])]
  rfl
theorem Ns (n : Nat) : kq (n : Int) = some (Utf8.valid (n : Int)) := by
 unfold kq jb jd Utf8.valid
 by_cases h1 : n < 55296
 ·have : (0 : Int) ≤ (n : Int) := by omega
  simp [aJ, this, h1, show (n : Int) < 55296 by omega]
 ·by_cases h2 : 57344 ≤ n
  ·by_cases h3 : n ≤ 1114111
   ·simp [aJ, show ¬ (n : Int) < 55296 by omega, show (57343 : Int) < n by omega, show (n : Int) ≤ 1114111 by omega, show (57344 : Int) ≤ n by omega]
   ·simp [aJ, show ¬ (n : Int) < 55296 by omega, show (57343 : Int) < n by omega, show ¬ (n : Int) ≤ 1114111 by omega]
  ·simp [aJ, show ¬ (n : Int) < 55296 by omega, show ¬ (57343 : Int) < n by omega, show ¬ (57344 : Int) ≤ n by omega]
theorem Mb : ∀ b ∈ wc.data.toList, b.toNat < 128 := by decide
theorem S2 (b : ByteArray) (i : Nat) (h : i < b.size) : b.data.toList.getD i 0 = b[i]'h := by
 have hd : i < b.data.toList.length := by rw [Array.length_toList]; exact h
 rw [List.getD_eq_getElem?_getD, dh hd]
 rfl
theorem Qj (E : ByteArray) (n k : Nat) (z : Nat) (hz : E.size = z) (f1 : 2 ≤ z) (f2 : z ≤ 4) (f4 : 128 ≤ (E.data.toList.getD (z - 1) 0).toNat) (he : Utf8.encode (n : Int) = E) : gM wc (n : Int) (k + 1) = some (-1) := by
 rw [gM.eq_2, he]
 clear he
 have hw : i64.wrap ((z : Int) - 1) = ((z - 1 : Nat) : Int) := by rw [zd (by omega) (by omega)]; omega
 have hin : ∀ j, j < 4 → (wc.data.toList.getD j 0).toNat < 128 := by decide
 simp only [hz, hw]
 rw [bS, decide_eq_true (show ((z - 1 : Nat) : Int) < (wc.size : Int) by show _ < (4 : Int); omega), iT, gP ⟨by omega, by show _ < (4 : Int); omega⟩, bS, gP ⟨by omega, by omega⟩, bS]
 have ht : ((z - 1 : Nat) : Int).toNat = z - 1 := by omega
 rw [ht]
 have hne : (((wc.data.toList.getD (z - 1) 0).toNat : Int) != ((E.data.toList.getD (z - 1) 0).toNat : Int)) = true := by
  have a := hin (z - 1) (by omega)
  rw [bne_iff_ne]; omega
 rw [hne, iT]
 have hw2 : i64.wrap (((z - 1 : Nat) : Int) + 1) = (z : Int) := by rw [zd (by omega) (by omega)]; omega
 rw [bS, hw2, gP ⟨by omega, by show _ ≤ (4 : Int); omega, Int.le_refl _⟩, gP ⟨by omega, by omega⟩, bS]
 unfold strings_IndexByte
 rw [IQ _ _ fun b hb e => ?_]
 ·rfl
 ·have hb' : b ∈ wc.data.toList := by
   have : b ∈ (wc.extract z 4).data.toList := hb
   rw [ByteArray.data_extract, Array.toList_extract] at this
   exact List.mem_of_mem_drop (List.mem_of_mem_take this)
  have h1 := Mb b hb'
  have h2 : ((E.data.toList.getD (z - 1) 0).toNat : Int).toNat.toUInt8 = E.data.toList.getD (z - 1) 0 := by
   rw [Int.toNat_natCast]; simp
  rw [h2] at e
  rw [e] at h1
  omega
theorem Sy (n k : Nat) (h : 128 ≤ n) (hv : Utf8.valid (n : Int) = true) : gM wc (n : Int) (k + 1) = some (-1) := by
 obtain ⟨f1, f2, f3⟩ := encode_facts (n : Int) hv (by omega)
 have f3 := f3 (by omega)
 obtain ⟨z, hz⟩ : ∃ z, (Utf8.encode (n : Int)).size = z := ⟨_, rfl⟩
 have f4 : 128 ≤ ((Utf8.encode (n : Int)).data.toList.getD (z - 1) 0).toNat := by
  subst hz
  rw [S2 _ _ (by omega)]
  exact f3
 rw [hz] at f1 f2
 exact Qj _ n k z hz f1 f2 f4 rfl
theorem Tp (n : Nat) (h : 128 ≤ n) : eE wc (n : Int) = some (-1) := by
 unfold eE jO
 rw [decide_eq_true (show (0 : Int) ≤ n by omega), iT, decide_eq_false (show ¬ (n : Int) < 128 by omega), iF]
 by_cases h1 : n = 65533
 ·subst h1
  rw [show (((65533 : Nat) : Int) == 65533) = true from rfl, iT]
  show jN wc (1152921504606846971 + 5) 0 = _
  generalize 1152921504606846971 = k
  rfl
 ·rw [show ((n : Int) == 65533) = false by simp; omega, iF, Ns, bS]
  cases hv : Utf8.valid (n : Int) with
  | false => rfl
  | true =>
   rw [Bool.not_true, iF, C2]
   exact Sy n _ h hv
theorem Sx (n : Nat) : ∃ r, eE wc (n : Int) = some r ∧ decide (r < 0) = !IL n := by
 by_cases h : n < 128
 ·unfold eE jO strings_IndexByte
  rw [decide_eq_true (show (0 : Int) ≤ n by omega), iT, decide_eq_true (show (n : Int) < 128 by omega), iT, bS]
  refine ⟨_, rfl, ?_⟩
  have hw : IntKind.u8.wrap (n : Int) = (n : Int) := by
   unfold IntKind.wrap
   simp [IntKind.bits, IntKind.signed]
   omega
  rw [hw]
  exact R2 ⟨n, h⟩
 ·refine ⟨-1, Tp n (by omega), ?_⟩
  simp [IL]; omega
theorem QH (n : Nat) : nc (Int.ofNat n) = some (!HB n) := by
 obtain ⟨r, h1, h2⟩ := Sx n
 have h1 : eE (ByteArray.mk #[95, 45, 46, 47]) (Int.ofNat n) = some r := h1
 unfold nc dr
 rw [h1]
 simp only [bS, h2, aJ, decide_eq_true_eq, Int.ofNat_eq_natCast]
 generalize hs : IL n = s
 unfold HB rc
 rw [hs]
 repeat' split
 all_goals (rw [de, Bool.eq_iff_iff]; cases s <;> simp <;> omega)
def Ff (s : ByteArray) (i : Nat) : Bool := !HB (lx s i)
theorem S7 (s : ByteArray) : ∀ k i, i ≤ s.size → s.size - i < k → ∃ r, bP s true k i = some r ∧ (decide (0 ≤ r) = (first (Ff s) i s.size).isSome) := by
 intro k
 induction k with
 | zero => intro i _ h; omega
 | succ k ih =>
  intro i hi hk
  rw [bP]
  by_cases h : i = s.size
  ·subst h
   rw [sy]
   simp only [Nat.lt_irrefl, decide_false, ax]
   exact ⟨-1, rfl, rfl⟩
  ·have hlt : i < s.size := by omega
   simp only [hlt, decide_true, aH, QH, a6]
   rw [sB hlt]
   by_cases hb : lx s i < 128
   ·rw [Dh s i hlt hb]
    simp only [Ff]
    by_cases hg : HB (lx s i) = true
    ·simp only [hg, Bool.not_true, aJ]
     obtain ⟨r, h1, h2⟩ := ih (i + 1) (by omega) (by omega)
     exact ⟨r, by simpa using h1, by simpa [Ff] using h2⟩
    ·simp only [hg, Bool.not_false, aJ]
     exact ⟨_, rfl, by simp⟩
   ·have h1 := Da s i hlt hb
    have g1 : HB (Utf8.decode s i).1 = false := by
     generalize (Utf8.decode s i).1 = x at h1
     simp [HB, rc, IL]; omega
    have g2 : Ff s i = true := by
     simp [Ff, HB, rc, IL]; omega
    simp only [g1, g2, Bool.not_false, aJ]
    exact ⟨_, rfl, by simp⟩
def IC (s : ByteArray) : Bool := decide (1 ≤ s.size) && decide (s.size ≤ 64) && (first (Ff s) 0 s.size).isNone
theorem V4 (s : ByteArray) (hs : s.size < 1000000000) : pk s = some (IC s) := by
 obtain ⟨r, h1, h2⟩ := S7 s aQ 0 (Nat.zero_le _) (by rw [aU]; omega)
 unfold pk ml eT fj fk IC
 rw [h1, bS, bS, bS, h2]
 by_cases z0 : s.size < 1
 ·simp [aJ, z0, show (s.size : Int) < 1 by omega]
  omega
 ·by_cases z1 : 64 < s.size
  ·simp [aJ, z0, show ¬ (s.size : Int) < 1 by omega, show (64 : Int) < s.size by omega]
   omega
  ·simp only [aJ, show ¬ (s.size : Int) < 1 by omega, show ¬ (64 : Int) < s.size by omega, decide_false, Bool.false_eq_true, if_false, show 1 ≤ s.size by omega, show s.size ≤ 64 by omega, decide_true, Bool.true_and]
   cases first (Ff s) 0 s.size <;> rfl
theorem Oo (s : ByteArray) (hs : s.size < 1000000000) (k i : Nat) (hi : i < s.size) : bg s (k + 1) (i : Int) = if Ff s i = true then some false else bg s k ((i + 1 : Nat) : Int) := by
 rw [bg, ← aJ]
 have hb : ((s.data.toList.getD (i : Int).toNat 0).toNat : Int) = (lx s i : Int) := rfl
 have hw : i64.wrap ((i : Int) + 1) = ((i + 1 : Nat) : Int) := by rw [zd (by omega) (by omega)]; omega
 have hg : 0 ≤ (i : Int) ∧ (i : Int) < (s.size : Int) := by omega
 rw [show decide ((i : Int) < (s.size : Int)) = true by simp [hg.2], aH]
 simp only [bZ, vt, hb, hw, a6, gd hg]
 have e1 : ((lx s i : Int) == 95) = (lx s i == 95) := by rw [Bool.eq_iff_iff]; simp; omega
 have e2 : (decide ((97 : Int) ≤ lx s i)) = decide (97 ≤ lx s i) := by rw [Bool.eq_iff_iff]; simp; omega
 have e3 : (decide ((lx s i : Int) ≤ 122)) = decide (lx s i ≤ 122) := by rw [Bool.eq_iff_iff]; simp; omega
 have e4 : (decide ((48 : Int) ≤ lx s i)) = decide (48 ≤ lx s i) := by rw [Bool.eq_iff_iff]; simp; omega
 have e5 : (decide ((lx s i : Int) ≤ 57)) = decide (lx s i ≤ 57) := by rw [Bool.eq_iff_iff]; simp; omega
 have e6 : ((lx s i : Int) == 46) = (lx s i == 46) := by rw [Bool.eq_iff_iff]; simp; omega
 have e7 : ((lx s i : Int) == 45) = (lx s i == 45) := by rw [Bool.eq_iff_iff]; simp; omega
 have e8 : ((lx s i : Int) == 47) = (lx s i == 47) := by rw [Bool.eq_iff_iff]; simp; omega
 simp only [e1, e2, e3, e4, e5, e6, e7, e8, Ff, HB, rc, IL]
 generalize hq : bg s k ((i + 1 : Nat) : Int) = q
 generalize (lx s i == 95) = b1
 generalize decide (97 ≤ lx s i) = b2
 generalize decide (lx s i ≤ 122) = b3
 generalize decide (48 ≤ lx s i) = b4
 generalize decide (lx s i ≤ 57) = b5
 generalize (lx s i == 46) = b6
 generalize (lx s i == 45) = b7
 generalize (lx s i == 47) = b8
 cases b1 <;> cases b2 <;> cases b3 <;> cases b4 <;> cases b5 <;> cases b6 <;> cases b7 <;> cases b8 <;> rfl
theorem VJ (s : ByteArray) (hs : s.size < 1000000000) : wJ s = some (IC s) := by
 have hl := rj (f := fun k i => bg s k (i : Int)) (n := s.size) (P := Ff s) (A := fun _ => some false) (B := some true) (fun k i hi => Oo s hs k i hi)
  (fun k => by rw [bg]; simp only [Int.lt_irrefl, decide_false, ax]; rfl) aQ 0 (Nat.zero_le _) (by rw [aU]; omega)
 have hl : bg s aQ (0 : Int) = _ := hl
 unfold wJ rD IC
 rw [hl]
 by_cases z0 : s.size < 1
 ·simp [aJ, z0, show (s.size : Int) < 1 by omega]
  omega
 ·by_cases z1 : 64 < s.size
  ·simp [aJ, z0, show ¬ (s.size : Int) < 1 by omega, show (64 : Int) < s.size by omega]
   omega
  ·simp only [aJ, show ¬ (s.size : Int) < 1 by omega, show ¬ (64 : Int) < s.size by omega, decide_false, Bool.false_eq_true, if_false, show 1 ≤ s.size by omega, show s.size ≤ 64 by omega, decide_true, Bool.true_and]
   cases first (Ff s) 0 s.size <;> rfl
end Go.Proofs.YtfnmbpecdjncfaaGreatDoor
namespace Go.Proofs.YtfnmbpecdjncfaaGreatDoor.Ord
open Go Go.SX Go.SX.Cal
open Go.IntKind (i64)
theorem aH {β : Type} (x y : Option β) : ak true x y = x := rfl
theorem ax {β : Type} (x y : Option β) : ak false x y = y := rfl
theorem aJ {β : Type} (b : Bool) (x y : Option β) : ak b x y = if b = true then x else y := by cases b <;> rfl
theorem aU : aQ = 1152921504606846976 := rfl
theorem wu {x : Int} : IntKind.u64.wrap x = x % 18446744073709551616 := by
 simp only [IntKind.wrap, IntKind.bits, IntKind.signed]
 simp
structure W4 (w : bW) : Prop where
 a0 : 0 ≤ w.size.1
 a1 : w.size.1 < 18446744073709551616
 b0 : 0 ≤ w.size.2.1
 b1 : w.size.2.1 < 18446744073709551616
 c0 : 0 ≤ w.size.2.2.1
 c1 : w.size.2.2.1 < 18446744073709551616
 d0 : 0 ≤ w.size.2.2.2
 d1 : w.size.2.2.2 < 18446744073709551616
def val (w : bW) : Int := w.size.1 + w.size.2.1 * 18446744073709551616 + w.size.2.2.1 * 340282366920938463463374607431768211456 + w.size.2.2.2 * 6277101735386680763835789423207666416102355444464034512896
theorem Kq {x : Int} (h0 : 0 ≤ x) (h1 : x < 18446744073709551616) : ((BitVec.ofInt (IntKind.u64).bits x &&& BitVec.ofInt (IntKind.u64).bits (4294967295 : Int)).toNat : Int) = x % 4294967296 := by
 have e : (BitVec.ofInt 64 x).toNat = x.toNat := by
  rw [BitVec.toNat_ofInt]
  have : x % ((2 ^ 64 : Nat) : Int) = x := by omega
  rw [this]
 have hand : (BitVec.ofInt 64 x &&& BitVec.ofInt 64 (4294967295 : Int)).toNat = x.toNat % 4294967296 := by
  rw [BitVec.toNat_and, e]
  have : (BitVec.ofInt 64 (4294967295 : Int)).toNat = 2 ^ 32 - 1 := by decide
  rw [this, Nat.and_two_pow_sub_one_eq_mod]
 show ((BitVec.ofInt 64 x &&& BitVec.ofInt 64 (4294967295 : Int)).toNat : Int) = _
 rw [hand]
 omega
theorem VN (x : Int) : x.fdiv (2 ^ (min (32 : Int).toNat (IntKind.u64).bits)) = x / 4294967296 := by
 have : (2 : Int) ^ (min (32 : Int).toNat (IntKind.u64).bits) = 4294967296 := by decide
 rw [this, Int.fdiv_eq_ediv_of_nonneg _ (by decide)]
theorem Nf {x : Int} (h0 : 0 ≤ x) (h1 : x < 18446744073709551616) : x % 18446744073709551616 = x := Int.emod_eq_of_lt h0 h1
theorem yE {a b : Int} (a0 : 0 ≤ a) (a1 : a < 4294967296) (b0 : 0 ≤ b) (b1 : b < 4294967296) : 0 ≤ a * b ∧ a * b ≤ 18446744065119617025 := by
 refine ⟨Int.mul_nonneg a0 b0, ?_⟩
 have h1 : a * b ≤ 4294967295 * b := Int.mul_le_mul_of_nonneg_right (by omega) b0
 omega
theorem Qa (p11 eS p01 p00 : Int) (h11 : 0 ≤ p11 ∧ p11 ≤ 18446744065119617025) (h10 : 0 ≤ eS ∧ eS ≤ 18446744065119617025) (h01 : 0 ≤ p01 ∧ p01 ≤ 18446744065119617025) (h00 : 0 ≤ p00 ∧ p00 ≤ 18446744065119617025) :
  p11 + (eS + p00 / 4294967296) / 4294967296 + ((eS + p00 / 4294967296) % 4294967296 + p01) / 4294967296 = (p11 * 18446744073709551616 + (eS + p01) * 4294967296 + p00) / 18446744073709551616 := by
 omega
theorem GV {x y : Int} (h0 : 0 ≤ x) (h1 : x < 18446744073709551616) (k0 : 0 ≤ y) (k1 : y < 18446744073709551616) : j4 x y = some (x * y / 18446744073709551616, x * y % 18446744073709551616) := by
 unfold j4
 simp only [a6, VN]
 rw [Kq h0 h1, Kq k0 k1]
 simp only [wu]
 have hx0 : 0 ≤ x % 4294967296 ∧ x % 4294967296 < 4294967296 := by omega
 have hx1 : 0 ≤ x / 4294967296 ∧ x / 4294967296 < 4294967296 := by omega
 have hy0 : 0 ≤ y % 4294967296 ∧ y % 4294967296 < 4294967296 := by omega
 have hy1 : 0 ≤ y / 4294967296 ∧ y / 4294967296 < 4294967296 := by omega
 have ex : x = x / 4294967296 * 4294967296 + x % 4294967296 := by omega
 have ey : y = y / 4294967296 * 4294967296 + y % 4294967296 := by omega
 have exy : x * y = (x / 4294967296 * (y / 4294967296)) * 18446744073709551616 + (x / 4294967296 * (y % 4294967296) + x % 4294967296 * (y / 4294967296)) * 4294967296 + x % 4294967296 * (y % 4294967296) := by
  generalize x / 4294967296 = x1 at *
  generalize x % 4294967296 = x0 at *
  generalize y / 4294967296 = y1 at *
  generalize y % 4294967296 = y0 at *
  rw [ex, ey]
  simp only [Int.add_mul, Int.mul_add]
  have e1 : x1 * 4294967296 * (y1 * 4294967296) = x1 * y1 * 18446744073709551616 := by
   rw [Int.mul_assoc, Int.mul_left_comm 4294967296 y1, ← Int.mul_assoc]; rfl
  have e2 : x1 * 4294967296 * y0 = x1 * y0 * 4294967296 := by rw [Int.mul_assoc, Int.mul_comm 4294967296, ← Int.mul_assoc]
  have e3 : x0 * (y1 * 4294967296) = x0 * y1 * 4294967296 := by rw [Int.mul_assoc]
  rw [e1, e2, e3]; omega
 have b11 := yE hx1.1 hx1.2 hy1.1 hy1.2
 have b10 := yE hx1.1 hx1.2 hy0.1 hy0.2
 have b01 := yE hx0.1 hx0.2 hy1.1 hy1.2
 have b00 := yE hx0.1 hx0.2 hy0.1 hy0.2
 rw [Nf (x := x % 4294967296) (by omega) (by omega), Nf (x := y % 4294967296) (by omega) (by omega)]
 have L := Qa _ _ _ _ b11 b10 b01 b00
 rw [exy]
 generalize x / 4294967296 * (y / 4294967296) = p11 at *
 generalize x / 4294967296 * (y % 4294967296) = eS at *
 generalize x % 4294967296 * (y / 4294967296) = p01 at *
 generalize x % 4294967296 * (y % 4294967296) = p00 at *
 rw [Nf (x := eS) (by omega) (by omega), Nf (x := p00) (by omega) (by omega), Nf (x := p01) (by omega) (by omega), Nf (x := p11) (by omega) (by omega), Nf (x := eS + p00 / 4294967296) (by omega) (by omega)]
 rw [Kq (x := eS + p00 / 4294967296) (by omega) (by omega)]
 rw [Nf (x := (eS + p00 / 4294967296) % 4294967296) (by omega) (by omega), Nf (x := (eS + p00 / 4294967296) % 4294967296 + p01) (by omega) (by omega)]
 rw [Nf (x := p11 + (eS + p00 / 4294967296) / 4294967296) (by omega) (by omega), Nf (x := p11 + (eS + p00 / 4294967296) / 4294967296 + ((eS + p00 / 4294967296) % 4294967296 + p01) / 4294967296) (by omega) (by omega), L]
theorem Ag {x n c : Int} (h0 : 0 ≤ x) (h1 : x < 18446744073709551616) (n0 : 0 ≤ n) (n1 : n < 18446744073709551616) (c0 : 0 ≤ c) (c1 : c < 18446744073709551616) :
  (x * n / 18446744073709551616 + (x * n % 18446744073709551616 + c) / 18446744073709551616) % 18446744073709551616 = (x * n + c) / 18446744073709551616 ∧ (x * n % 18446744073709551616 + c) % 18446744073709551616 = (x * n + c) % 18446744073709551616 ∧ 0 ≤ (x * n + c) / 18446744073709551616 ∧ (x * n + c) / 18446744073709551616 < 18446744073709551616 := by
 have hp : 0 ≤ x * n := Int.mul_nonneg h0 n0
 have hq : x * n ≤ 18446744073709551615 * n := Int.mul_le_mul_of_nonneg_right (by omega) n0
 have hq2 : (18446744073709551615 : Int) * n ≤ 18446744073709551615 * 18446744073709551615 := Int.mul_le_mul_of_nonneg_left (by omega) (by decide)
 have hb : x * n ≤ 340282366920938463426481119284349108225 := by
  refine Int.le_trans hq (Int.le_trans hq2 (by decide))
 generalize x * n = p at *
 omega
theorem PE {w : bW} {n : Int} (h : W4 w) (n0 : 0 ≤ n) (n1 : n < 18446744073709551616) (hv : val w * n < 115792089237316195423570985008687907853269984665640564039457584007913129639936) :
  ∃ w', pC w n = some w' ∧ W4 w' ∧ val w' = val w * n ∧ w'.neg = w.neg := by
 obtain ⟨neg, x0, x1, x2, x3⟩ := w
 obtain ⟨a0, a1, b0, b1, c0, c1, d0, d1⟩ := h
 simp only at a0 a1 b0 b1 c0 c1 d0 d1
 unfold pC
 simp only
 rw [GV a0 a1 n0 n1, GV b0 b1 n0 n1, GV c0 c1 n0 n1, GV d0 d1 n0 n1]
 simp only [a6, wu]
 have hval : val ⟨neg, x0, x1, x2, x3⟩ * n = x0 * n + x1 * n * 18446744073709551616 + x2 * n * 340282366920938463463374607431768211456 + x3 * n * 6277101735386680763835789423207666416102355444464034512896 := by
  unfold val
  simp only [Int.add_mul]
  rw [Int.mul_right_comm x1, Int.mul_right_comm x2, Int.mul_right_comm x3]
 rw [hval] at hv ⊢
 obtain ⟨p1, p2, p3, p4⟩ := Ag (c := 0) a0 a1 n0 n1 (by decide) (by decide)
 simp only [Int.add_zero] at p1 p2 p3 p4 ⊢
 rw [p1, p2]
 generalize hc1 : x0 * n / 18446744073709551616 = k1 at *
 obtain ⟨q1, q2, q3, q4⟩ := Ag (c := k1) b0 b1 n0 n1 p3 p4
 rw [q1, q2]
 generalize hc2 : (x1 * n + k1) / 18446744073709551616 = k2 at *
 obtain ⟨r1, r2, r3, r4⟩ := Ag (c := k2) c0 c1 n0 n1 q3 q4
 rw [r1, r2]
 generalize hc3 : (x2 * n + k2) / 18446744073709551616 = k3 at *
 obtain ⟨s1, s2, s3, s4⟩ := Ag (c := k3) d0 d1 n0 n1 r3 r4
 rw [s2]
 have e0 := Int.mul_nonneg a0 n0
 have e1 := Int.mul_nonneg b0 n0
 have e2 := Int.mul_nonneg c0 n0
 have e3 := Int.mul_nonneg d0 n0
 clear p1 p2 q1 q2 r1 r2 s1 s2
 generalize x0 * n = P0 at *
 generalize x1 * n = P1 at *
 generalize x2 * n = P2 at *
 generalize x3 * n = P3 at *
 rw [gd (by omega), gd (by omega), gd (by omega), gd (by omega)]
 refine ⟨_, rfl, ⟨by simp only; omega, by simp only; omega, by simp only; omega, by simp only; omega, by simp only; omega, by simp only; omega, by simp only; omega, by simp only; omega⟩, ?_, rfl⟩
 simp only [val]
 have f0 : P0 = k1 * 18446744073709551616 + P0 % 18446744073709551616 := by omega
 have f1 : P1 + k1 = k2 * 18446744073709551616 + (P1 + k1) % 18446744073709551616 := by omega
 have f2 : P2 + k2 = k3 * 18446744073709551616 + (P2 + k2) % 18446744073709551616 := by omega
 have f3 : P3 + k3 = (P3 + k3) / 18446744073709551616 * 18446744073709551616 + (P3 + k3) % 18446744073709551616 := by omega
 have z : (P3 + k3) / 18446744073709551616 = 0 := by
  generalize P0 % 18446744073709551616 = m0 at *
  generalize (P1 + k1) % 18446744073709551616 = m1 at *
  generalize (P2 + k2) % 18446744073709551616 = m2 at *
  omega
 rw [z] at f3
 generalize P0 % 18446744073709551616 = m0 at *
 generalize (P1 + k1) % 18446744073709551616 = m1 at *
 generalize (P2 + k2) % 18446744073709551616 = m2 at *
 generalize (P3 + k3) % 18446744073709551616 = m3 at *
 omega
def eS : Nat → Int
 | 0 => 1
 | k + 1 => eS k * 10
theorem yu : ∀ k, 1 ≤ eS k
 | 0 => by decide
 | k + 1 => by have := yu k; simp only [eS]; omega
theorem G9 {d : Int} (hd : d ≤ 100) : ∀ (j k : Nat) (neg : Bool) (x0 x1 x2 x3 : Int) (i : Int), W4 ⟨neg, x0, x1, x2, x3⟩ → val ⟨neg, x0, x1, x2, x3⟩ * eS j < 115792089237316195423570985008687907853269984665640564039457584007913129639936 → 0 ≤ val ⟨neg, x0, x1, x2, x3⟩ → 0 ≤ i → i + j = d → j < k →
  ∃ w', dY d k neg x0 x1 x2 x3 i = some w' ∧ W4 w' ∧ val w' = val ⟨neg, x0, x1, x2, x3⟩ * eS j ∧ w'.neg = neg := by
 intro j
 induction j with
 | zero =>
  intro k neg x0 x1 x2 x3 i hw hv hv0 hi hij hk
  match k, hk with
  | k + 1, hk =>
   rw [dY, show decide (i < d) = false by simp; omega, ax]
   exact ⟨_, rfl, hw, by simp [eS], rfl⟩
 | succ j ih =>
  intro k neg x0 x1 x2 x3 i hw hv hv0 hi hij hk
  match k, hk with
  | k + 1, hk =>
   rw [dY, show decide (i < d) = true by simp; omega, aH]
   have hp := yu j
   have hstep : val ⟨neg, x0, x1, x2, x3⟩ * eS (j + 1) = val ⟨neg, x0, x1, x2, x3⟩ * 10 * eS j := by
    simp only [eS]; rw [Int.mul_comm (eS j) 10, Int.mul_assoc]
   have hle : val ⟨neg, x0, x1, x2, x3⟩ * 10 * 1 ≤ val ⟨neg, x0, x1, x2, x3⟩ * 10 * eS j := Int.mul_le_mul_of_nonneg_left hp (by omega)
   obtain ⟨w1, h1, h2, h3, h4⟩ := PE hw (show (0 : Int) ≤ 10 by decide) (by decide) (by rw [hstep] at hv; omega)
   rw [h1]
   simp only [a6]
   obtain ⟨n1, y0, y1, y2, y3⟩ := w1
   simp only at h4 ⊢
   subst h4
   rw [zd (by omega) (by omega)]
   obtain ⟨w2, g1, g2, g3, g4⟩ := ih k n1 y0 y1 y2 y3 (i + 1) h2 (by rw [h3, ← hstep]; exact hv) (by rw [h3]; omega) (by omega) (by omega) (by omega)
   exact ⟨w2, g1, g2, by rw [g3, h3, hstep], g4⟩
theorem FW {n d : Int} (h1 : -9223372036854775808 ≤ n) (h2 : n ≤ 9223372036854775807) (d0 : 0 ≤ d) (d1 : d ≤ 12) :
  ∃ w, pE n d = some w ∧ W4 w ∧ val w = (if n < 0 then -n else n) * eS d.toNat ∧ w.neg = decide (n < 0) ∧ val w < 57896044618658097711785492504343953926634992332820282019728792003956564819968 := by
 have hp : eS d.toNat ≤ 1000000000000 := by
  have hc : d = 0 ∨ d = 1 ∨ d = 2 ∨ d = 3 ∨ d = 4 ∨ d = 5 ∨ d = 6 ∨ d = 7 ∨ d = 8 ∨ d = 9 ∨ d = 10 ∨ d = 11 ∨ d = 12 := by omega
  rcases hc with rfl | rfl | rfl | rfl | rfl | rfl | rfl | rfl | rfl | rfl | rfl | rfl | rfl <;> decide
 have hp1 := yu d.toNat
 have key : ∀ (neg : Bool) (a : Int), 0 ≤ a → a ≤ 9223372036854775808 → ∃ w, js ⟨neg, a, 0, 0, 0⟩ d = some w ∧ W4 w ∧ val w = a * eS d.toNat ∧ w.neg = neg ∧ val w < 57896044618658097711785492504343953926634992332820282019728792003956564819968 := by
  intro neg a a0 a1
  have hv : val ⟨neg, a, 0, 0, 0⟩ = a := by simp [val]
  have hb : a * eS d.toNat ≤ 9223372036854775808 * 1000000000000 := by
   refine Int.le_trans (Int.mul_le_mul_of_nonneg_right a1 (by omega)) (Int.mul_le_mul_of_nonneg_left hp (by decide))
  have hb2 : a * eS d.toNat ≤ 9223372036854775808000000000000 := Int.le_trans hb (by decide)
  unfold js
  obtain ⟨w, g1, g2, g3, g4⟩ := G9 (d := d) (by omega) d.toNat aQ neg a 0 0 0 0 ⟨a0, by simp only; omega, by simp, by simp, by simp, by simp, by simp, by simp⟩ (by rw [hv]; omega) (by rw [hv]; exact a0) (by decide) (by omega) (by rw [aU]; omega)
  exact ⟨w, g1, g2, by rw [g3, hv], g4, by rw [g3, hv]; omega⟩
 unfold pE qM
 by_cases hn : n < 0
 ·rw [show decide (n < 0) = true by simpa using hn, aH]
  simp only [a6, wu]
  have e : (0 - n % 18446744073709551616) % 18446744073709551616 = -n := by omega
  rw [e]
  obtain ⟨w, g1, g2, g3, g4, g5⟩ := key true (-n) (by omega) (by omega)
  rw [g1]
  simp only [a6]
  exact ⟨_, rfl, g2, by rw [if_pos hn]; exact g3, g4, g5⟩
 ·rw [show decide (n < 0) = false by simpa using hn, ax]
  simp only [a6, wu]
  rw [Nf (by omega) (by omega)]
  obtain ⟨w, g1, g2, g3, g4, g5⟩ := key false n (by omega) (by omega)
  rw [g1]
  simp only [a6]
  exact ⟨_, rfl, g2, by rw [if_neg hn]; exact g3, g4, g5⟩
def c3 (a b : Int) : Int := if a < b then -1 else if b < a then 1 else 0
def sv (w : bW) : Int := if w.neg = true then -val w else val w
theorem Od {a b : bW} (ha : W4 a) (hb : W4 b) : n8 a b = some (c3 (val a) (val b)) := by
 obtain ⟨n, x0, x1, x2, x3⟩ := a
 obtain ⟨m, y0, y1, y2, y3⟩ := b
 obtain ⟨a0, a1, b0, b1, c0, c1, d0, d1⟩ := ha
 obtain ⟨e0, e1, f0, f1, g0, g1, h0, h1⟩ := hb
 simp only at *
 unfold n8
 simp only [aJ, decide_eq_true_eq]
 unfold c3 val
 simp only
 by_cases q3 : x3 < y3
 ·rw [if_pos q3, if_pos (by omega)]
 rw [if_neg q3]
 by_cases q3' : y3 < x3
 ·rw [if_pos q3', if_neg (by omega), if_pos (by omega)]
 rw [if_neg q3']
 by_cases q2 : x2 < y2
 ·rw [if_pos q2, if_pos (by omega)]
 rw [if_neg q2]
 by_cases q2' : y2 < x2
 ·rw [if_pos q2', if_neg (by omega), if_pos (by omega)]
 rw [if_neg q2']
 by_cases q1 : x1 < y1
 ·rw [if_pos q1, if_pos (by omega)]
 rw [if_neg q1]
 by_cases q1' : y1 < x1
 ·rw [if_pos q1', if_neg (by omega), if_pos (by omega)]
 rw [if_neg q1']
 by_cases q0 : x0 < y0
 ·rw [if_pos q0, if_pos (by omega)]
 rw [if_neg q0]
 by_cases q0' : y0 < x0
 ·rw [if_pos q0', if_neg (by omega), if_pos (by omega)]
 rw [if_neg q0', if_neg (by omega), if_neg (by omega)]
def uj (w : bW) : Prop := w.size.1 = 0 ∧ w.size.2.1 = 0 ∧ w.size.2.2.1 = 0 ∧ w.size.2.2.2 = 0
instance (w : bW) : Decidable (uj w) := by unfold uj; infer_instance
theorem Hr (n m : Bool) (h : ¬ n = m) : (!(n == m)) = true ∧ (!m) = n := by revert h; cases n <;> cases m <;> simp
theorem P6 (w : bW) : qu w = some (decide (uj w)) := by
 unfold qu uj
 simp only [a6]
 congr 1
 by_cases h1 : w.size.1 = 0 <;> by_cases h2 : w.size.2.1 = 0 <;> by_cases h3 : w.size.2.2.1 = 0 <;> by_cases h4 : w.size.2.2.2 = 0 <;> simp [h1, h2, h3, h4]
theorem KQ {b1 b6 : Bool} {x0 x1 x2 x3 y0 y1 y2 y3 : Int} (ha : W4 ⟨b1, x0, x1, x2, x3⟩) (hb : W4 ⟨b6, y0, y1, y2, y3⟩) :
  ∃ w, kh b1 x0 x1 x2 x3 b6 y0 y1 y2 y3 = some w ∧ w.neg = b1 ∧ (uj w ↔ val ⟨b1, x0, x1, x2, x3⟩ = val ⟨b6, y0, y1, y2, y3⟩) := by
 obtain ⟨a0, a1, b0, b1', c0, c1, d0, d1⟩ := ha
 obtain ⟨e0, e1, f0, f1, g0, g1, h0, h1⟩ := hb
 simp only at *
 unfold kh
 simp only [a6, Int.add_zero, Int.sub_zero]
 have hk : ∀ (p : Prop) [Decidable p], 0 ≤ (if p then (1 : Int) else 0) ∧ (if p then (1 : Int) else 0) ≤ 1 := by
  intro p _; split <;> omega
 have k1 := hk (x0 < y0)
 have e0' : (if x0 < y0 then (1 : Int) else 0) = 0 ↔ ¬ x0 < y0 := by split <;> simp_all
 generalize (if x0 < y0 then (1 : Int) else 0) = u1 at *
 have k2 := hk (x1 < y1 + u1)
 have e1' : (if x1 < y1 + u1 then (1 : Int) else 0) = 0 ↔ ¬ x1 < y1 + u1 := by split <;> simp_all
 generalize (if x1 < y1 + u1 then (1 : Int) else 0) = u2 at *
 have k3 := hk (x2 < y2 + u2)
 have e2' : (if x2 < y2 + u2 then (1 : Int) else 0) = 0 ↔ ¬ x2 < y2 + u2 := by split <;> simp_all
 generalize (if x2 < y2 + u2 then (1 : Int) else 0) = u3 at *
 rw [gd (by omega), gd (by omega), gd (by omega), gd (by omega)]
 refine ⟨_, rfl, rfl, ?_⟩
 simp only [uj, val]
 constructor
 ·rintro ⟨z0, z1, z2, z3⟩
  have q0 : x0 = y0 := by omega
  have q1 : u1 = 0 := by rw [e0']; omega
  have q2 : x1 = y1 := by omega
  have q3 : u2 = 0 := by rw [e1']; omega
  have q4 : x2 = y2 := by omega
  have q5 : u3 = 0 := by rw [e2']; omega
  have q6 : x3 = y3 := by omega
  omega
 ·intro hv
  have q3 : x3 = y3 := by omega
  have q2 : x2 = y2 := by omega
  have q1 : x1 = y1 := by omega
  have q0 : x0 = y0 := by omega
  have r1 : u1 = 0 := by rw [e0']; omega
  have r2 : u2 = 0 := by rw [e1']; omega
  have r3 : u3 = 0 := by rw [e2']; omega
  subst q0 q1 q2 q3 r1 r2 r3
  simp
theorem Mz {k : Nat} {b : Bool} {x0 x1 x2 x3 y0 y1 y2 y3 : Int} (ha : W4 ⟨b, x0, x1, x2, x3⟩) (hb : W4 ⟨b, y0, y1, y2, y3⟩) (hv : val ⟨b, x0, x1, x2, x3⟩ + val ⟨b, y0, y1, y2, y3⟩ < 115792089237316195423570985008687907853269984665640564039457584007913129639936) :
  ∃ w, lE (k + 1) ⟨b, x0, x1, x2, x3⟩ ⟨b, y0, y1, y2, y3⟩ = some w ∧ w.neg = b ∧ (uj w ↔ val ⟨b, x0, x1, x2, x3⟩ + val ⟨b, y0, y1, y2, y3⟩ = 0) := by
 obtain ⟨a0, a1, b0, b1', c0, c1, d0, d1⟩ := ha
 obtain ⟨e0, e1, f0, f1, g0, g1, h0, h1⟩ := hb
 simp only at *
 rw [lE]
 simp only [beq_self_eq_true, Bool.not_true, ax, a6, Int.add_zero]
 simp only [val] at hv ⊢
 have m0 : x0 + y0 = (x0 + y0) / 18446744073709551616 * 18446744073709551616 + (x0 + y0) % 18446744073709551616 := by omega
 have u0 : 0 ≤ (x0 + y0) / 18446744073709551616 ∧ (x0 + y0) / 18446744073709551616 ≤ 1 := by omega
 have v0 : 0 ≤ (x0 + y0) % 18446744073709551616 := by omega
 generalize (x0 + y0) / 18446744073709551616 = t0 at *
 generalize (x0 + y0) % 18446744073709551616 = r0 at *
 have m1 : x1 + y1 + t0 = (x1 + y1 + t0) / 18446744073709551616 * 18446744073709551616 + (x1 + y1 + t0) % 18446744073709551616 := by omega
 have u1 : 0 ≤ (x1 + y1 + t0) / 18446744073709551616 ∧ (x1 + y1 + t0) / 18446744073709551616 ≤ 1 := by omega
 have v1 : 0 ≤ (x1 + y1 + t0) % 18446744073709551616 := by omega
 generalize (x1 + y1 + t0) / 18446744073709551616 = t1 at *
 generalize (x1 + y1 + t0) % 18446744073709551616 = r1 at *
 have m2 : x2 + y2 + t1 = (x2 + y2 + t1) / 18446744073709551616 * 18446744073709551616 + (x2 + y2 + t1) % 18446744073709551616 := by omega
 have u2 : 0 ≤ (x2 + y2 + t1) / 18446744073709551616 ∧ (x2 + y2 + t1) / 18446744073709551616 ≤ 1 := by omega
 have v2 : 0 ≤ (x2 + y2 + t1) % 18446744073709551616 := by omega
 generalize (x2 + y2 + t1) / 18446744073709551616 = t2 at *
 generalize (x2 + y2 + t1) % 18446744073709551616 = r2 at *
 have m3 : x3 + y3 + t2 = (x3 + y3 + t2) / 18446744073709551616 * 18446744073709551616 + (x3 + y3 + t2) % 18446744073709551616 := by omega
 have u3 : 0 ≤ (x3 + y3 + t2) / 18446744073709551616 ∧ (x3 + y3 + t2) / 18446744073709551616 ≤ 1 := by omega
 have v3 : 0 ≤ (x3 + y3 + t2) % 18446744073709551616 := by omega
 generalize (x3 + y3 + t2) / 18446744073709551616 = t3 at *
 generalize (x3 + y3 + t2) % 18446744073709551616 = r3 at *
 rw [gd (by omega), gd (by omega), gd (by omega), gd (by omega)]
 refine ⟨_, rfl, rfl, ?_⟩
 simp only [uj]
 constructor
 ·rintro ⟨z0, z1, z2, z3⟩
  have : t3 = 0 := by omega
  omega
 ·intro hz
  refine ⟨by omega, by omega, by omega, by omega⟩
theorem Id {a b : bW} (ha : W4 a) (hb : W4 b) (va : val a < 57896044618658097711785492504343953926634992332820282019728792003956564819968) (vb : val b < 57896044618658097711785492504343953926634992332820282019728792003956564819968)
  (na : a.neg = true → 0 < val a) (nb : b.neg = true → 0 < val b) : lf a b = some (c3 (sv a) (sv b)) := by
 have pa : 0 ≤ val a := by obtain ⟨a0, a1, b0, b1, c0, c1, d0, d1⟩ := ha; unfold val; omega
 have pb : 0 ≤ val b := by obtain ⟨a0, a1, b0, b1, c0, c1, d0, d1⟩ := hb; unfold val; omega
 obtain ⟨n, x0, x1, x2, x3⟩ := a
 obtain ⟨m, y0, y1, y2, y3⟩ := b
 have hany : ∀ (q : Bool), W4 ⟨q, y0, y1, y2, y3⟩ := fun q => ⟨hb.1, hb.2, hb.3, hb.4, hb.5, hb.6, hb.7, hb.8⟩
 have hval : ∀ (q q' : Bool) (z0 z1 z2 z3 : Int), val ⟨q, z0, z1, z2, z3⟩ = val ⟨q', z0, z1, z2, z3⟩ := fun _ _ _ _ _ _ => rfl
 unfold lf
 simp only [P6]
 have hB : aQ = 1152921504606846974 + 1 + 1 := rfl
 rw [hB, kQ]
 simp only
 by_cases hs : n = m
 ·subst hs
  simp only [beq_self_eq_true, Bool.not_true, ax]
  rw [Od ha hb]
  simp only [a6]
  by_cases hlt : val ⟨n, x0, x1, x2, x3⟩ < val ⟨n, y0, y1, y2, y3⟩
  ·have e1 : c3 (val ⟨n, x0, x1, x2, x3⟩) (val ⟨n, y0, y1, y2, y3⟩) = -1 := by unfold c3; rw [if_pos hlt]
   rw [e1, show decide ((-1 : Int) < 0) = true from rfl, aH]
   unfold jn
   simp only [a6]
   obtain ⟨w, g1, g2, g3⟩ := KQ (b6 := n) (hany (!n)) ha
   rw [g1]
   simp only [a6]
   have hz : ¬ uj w := fun h => by
    have := g3.1 h
    have e2 := hval (!n) n y0 y1 y2 y3
    omega
   have hz' : ¬ uj ⟨w.neg, w.size.1, w.size.2.1, w.size.2.2.1, w.size.2.2.2⟩ := hz
   rw [show decide (uj ⟨w.neg, w.size.1, w.size.2.1, w.size.2.2.1, w.size.2.2.2⟩) = false by simpa using hz', ax, g2]
   unfold sv
   cases n with
   | true => simp only [Bool.not_true, ax, if_true]; unfold c3; rw [if_neg (by omega), if_pos (by omega)]
   | false => simp only [Bool.not_false, aH, Bool.false_eq_true, if_false]; unfold c3; rw [if_pos (by omega)]
  ·have e1 : decide (c3 (val ⟨n, x0, x1, x2, x3⟩) (val ⟨n, y0, y1, y2, y3⟩) < 0) = false := by
    unfold c3; rw [if_neg hlt]; split <;> rfl
   rw [e1, ax]
   obtain ⟨w, g1, g2, g3⟩ := KQ ha hb
   rw [g1]
   simp only [a6]
   have hz : uj ⟨w.neg, w.size.1, w.size.2.1, w.size.2.2.1, w.size.2.2.2⟩ ↔ val ⟨n, x0, x1, x2, x3⟩ = val ⟨n, y0, y1, y2, y3⟩ := g3
   by_cases heq : val ⟨n, x0, x1, x2, x3⟩ = val ⟨n, y0, y1, y2, y3⟩
   ·rw [show decide (uj ⟨w.neg, w.size.1, w.size.2.1, w.size.2.2.1, w.size.2.2.2⟩) = true by simpa using hz.2 heq, aH]
    unfold sv
    simp only
    rw [heq]
    unfold c3; rw [if_neg (by omega), if_neg (by omega)]
   ·rw [show decide (uj ⟨w.neg, w.size.1, w.size.2.1, w.size.2.2.1, w.size.2.2.2⟩) = false by simpa using fun h => heq (hz.1 h), ax, g2]
    unfold sv
    cases n with
    | true => simp only [aH, if_true]; unfold c3; rw [if_pos (by omega)]
    | false => simp only [ax, Bool.false_eq_true, if_false]; unfold c3; rw [if_neg (by omega), if_pos (by omega)]
 ·have hsb : (!(n == m)) = true := (Hr n m hs).1
  rw [hsb, aH]
  unfold jn
  simp only [a6]
  have hnm : (!m) = n := (Hr n m hs).2
  rw [hnm]
  obtain ⟨w, g1, g2, g3⟩ := Mz (k := 1152921504606846974) ha (hany n) (by have := hval n m y0 y1 y2 y3; omega)
  rw [g1]
  simp only [a6]
  have hz : uj ⟨w.neg, w.size.1, w.size.2.1, w.size.2.2.1, w.size.2.2.2⟩ ↔ val ⟨n, x0, x1, x2, x3⟩ + val ⟨n, y0, y1, y2, y3⟩ = 0 := g3
  have hpos : ¬ val ⟨n, x0, x1, x2, x3⟩ + val ⟨n, y0, y1, y2, y3⟩ = 0 := by
   have e := hval n m y0 y1 y2 y3
   cases n with
   | true => have := na rfl; omega
   | false =>
    have : m = true := by simpa using hnm
    have := nb this
    omega
  rw [show decide (uj ⟨w.neg, w.size.1, w.size.2.1, w.size.2.2.1, w.size.2.2.2⟩) = false by simpa using fun h => hpos (hz.1 h), ax, g2]
  unfold sv
  cases n with
  | true =>
   have : m = false := by simpa using hnm
   subst this
   have := na rfl
   simp only [aH, if_true, Bool.false_eq_true, if_false]; unfold c3; rw [if_pos (by omega)]
  | false =>
   have : m = true := by simpa using hnm
   subst this
   have := nb rfl
   simp only [ax, if_true, Bool.false_eq_true, if_false]; unfold c3; rw [if_neg (by omega), if_pos (by omega)]
def or' (x y : Int) : Int := if x ≠ 0 then x else y
def cS (s t : ByteArray) : Int := if Op.bytesLess s.toList t.toList = true then -1 else if s.toList = t.toList then 0 else 1
def inR (sc : Int) : Prop := 0 ≤ sc ∧ sc ≤ 12
instance (sc : Int) : Decidable (inR sc) := by unfold inR; infer_instance
def BZ (k : Int) : Int := if k = 0 then 1 else 0
def AO (k sc : Int) : Int := if k = 3 ∧ ¬ inR sc then 1 else 0
def vvI (k sc n : Int) : Int := if k = 3 ∧ inR sc then n * eS (12 - sc).toNat else n
mutual
def cmpV : ac → ac → Int
 | ⟨k, n, sc, s, it⟩, b => or' (c3 (BZ k) (BZ b.kind)) (or' (c3 k b.kind) (if k = 0 then 0 else or' (c3 (AO k sc) (AO b.kind b.scale)) (or' (c3 (vvI k sc n) (vvI b.kind b.scale b.n)) (or' (c3 sc b.scale) (or' (cS s b.s) (cmpL it b.items))))))
def cmpL : List ac → List ac → Int
 | [], m => match m with
  | [] => 0
  | _ :: _ => -1
 | x :: l, m => match m with
  | [] => 1
  | y :: ys => or' (cmpV x y) (cmpL l ys)
end
def i64 (x : Int) : Prop := -9223372036854775808 ≤ x ∧ x ≤ 9223372036854775807
mutual
def wfV : ac → Prop
 | ⟨k, n, sc, _, it⟩ => i64 k ∧ i64 n ∧ i64 sc ∧ wfL it
def wfL : List ac → Prop
 | [] => True
 | x :: l => wfV x ∧ wfL l
end
theorem BK : ∀ {l : List ac} {x : ac}, wfL l → x ∈ l → wfV x
 | [], _, _, h => by cases h
 | y :: l, x, hw, h => by
  simp only [wfL] at hw
  rcases List.mem_cons.1 h with rfl | h
  ·exact hw.1
  ·exact BK hw.2 h
theorem lH : ∀ {l : List ac} {x : ac}, x ∈ l → dQ x ≤ ig l
 | [], _, h => by cases h
 | y :: l, x, h => by
  simp only [ig]
  rcases List.mem_cons.1 h with rfl | h
  ·omega
  ·have := lH h; omega
theorem xT : ∀ v : ac, 1 ≤ dQ v
 | ⟨_, _, _, _, _⟩ => by simp only [dQ]; omega
theorem pH : ∀ l : List ac, l.length ≤ ig l
 | [] => by simp [ig]
 | x :: l => by
  have := pH l
  have := xT x
  simp only [ig, List.length_cons]; omega
theorem N8 (a b : Int) : lD a b = some (c3 a b) := by
 unfold lD sO c3
 simp only [a6, bne_self_eq_false, ax]
 by_cases h : a < b
 ·simp [h, aJ]
 ·by_cases k : b < a <;> simp [h, k, aJ]
theorem U4 (a b : ByteArray) : nj a b = some (cS a b) := by
 unfold nj pm cS
 simp only [a6, beq_self_eq_true, Bool.not_true, ax]
 by_cases h : Op.bytesLess a.toList b.toList = true
 ·simp [h, aJ]
 ·have h' : Op.bytesLess a.toList b.toList = false := by simpa using h
  by_cases k : a.toList = b.toList
  ·rw [k] at h' ⊢
   simp [h', aJ]
  ·simp [h', k, aJ]
theorem Cm {p : List Int} {k i : Nat} {x : Int} (h : p[i]? = some x) (hi : i < 1000) : jK p (k + 1) (i : Int) = if x ≠ 0 then some x else jK p k ((i + 1 : Nat) : Int) := by
 have hlt := (nC.1 h).1
 rw [jK, show decide ((i : Int) < (p.length : Int)) = true by simp [hlt], aH]
 have : at? p (i : Int) = some x := by unfold at?; simp [h]
 rw [this]
 simp only [a6]
 rw [zd (by omega) (by omega), show (i : Int) + 1 = ((i + 1 : Nat) : Int) by omega]
 by_cases hx : x = 0
 ·simp [hx, aJ]
 ·simp [hx, aJ]
theorem OG {p : List Int} {k : Nat} : jK p (k + 1) (p.length : Int) = some 0 := by
 rw [jK, show decide ((p.length : Int) < (p.length : Int)) = false by simp, ax]
 rfl
theorem WI (x y : Int) : oQ [x, y] = some (or' x y) := by
 unfold oQ or'
 have hB : aQ = 1152921504606846973 + 1 + 1 + 1 := rfl
 have h0 := Cm (p := [x, y]) (k := 1152921504606846973 + 1 + 1) (i := 0) (x := x) rfl (by decide)
 have h1 := Cm (p := [x, y]) (k := 1152921504606846973 + 1) (i := 1) (x := y) rfl (by decide)
 have h2 := OG (p := [x, y]) (k := 1152921504606846973)
 rw [hB]
 refine Eq.trans h0 ?_
 rw [h1]
 refine Eq.trans (b := if x ≠ 0 then some x else if y ≠ 0 then some y else some 0) (by rw [← h2]; rfl) ?_
 by_cases hx : x = 0 <;> by_cases hy : y = 0 <;> simp [hx, hy]
theorem Xg (x y z : Int) : oQ [x, y, z] = some (or' x (or' y z)) := by
 unfold oQ or'
 have hB : aQ = 1152921504606846972 + 1 + 1 + 1 + 1 := rfl
 have h0 := Cm (p := [x, y, z]) (k := 1152921504606846972 + 1 + 1 + 1) (i := 0) (x := x) rfl (by decide)
 have h1 := Cm (p := [x, y, z]) (k := 1152921504606846972 + 1 + 1) (i := 1) (x := y) rfl (by decide)
 have h2 := Cm (p := [x, y, z]) (k := 1152921504606846972 + 1) (i := 2) (x := z) rfl (by decide)
 have h3 := OG (p := [x, y, z]) (k := 1152921504606846972)
 rw [hB]
 refine Eq.trans h0 ?_
 rw [h1, h2]
 refine Eq.trans (b := if x ≠ 0 then some x else if y ≠ 0 then some y else if z ≠ 0 then some z else some 0) (by rw [← h3]; rfl) ?_
 by_cases hx : x = 0 <;> by_cases hy : y = 0 <;> by_cases hz : z = 0 <;> simp [hx, hy, hz]
theorem cmpf_loop (f : ac → ac → Option Int) (p1 p2 : List ac) (hl : p1.length < 1000000000000000) (hf : ∀ x ∈ p1, ∀ y ∈ p2, f x y = some (cmpV x y)) : ∀ (k i : Nat), i ≤ p1.length → i ≤ p2.length → p1.length < i + k →
  aN f p1 p2 k (i : Int) = some (cmpL (p1.drop i) (p2.drop i)) := by
 intro k
 induction k with
 | zero => intro i h1 h2 h3; omega
 | succ k ih =>
  intro i h1 h2 h3
  rw [aN]
  by_cases hi : i < p1.length
  ·have e1 : p1.drop i = p1[i] :: p1.drop (i + 1) := List.drop_eq_getElem_cons hi
   have a1 : at? p1 (i : Int) = some p1[i] := by unfold at?; simp [hi]
   rw [show decide ((i : Int) < (p1.length : Int)) = true by simp [hi], aH, a1, e1]
   simp only [a6]
   by_cases hj : i < p2.length
   ·have e2 : p2.drop i = p2[i] :: p2.drop (i + 1) := List.drop_eq_getElem_cons hj
    have a2 : at? p2 (i : Int) = some p2[i] := by unfold at?; simp [hj]
    rw [show decide ((p2.length : Int) ≤ (i : Int)) = false by simp; omega, ax, a2, e2]
    simp only [a6]
    rw [hf _ (iA hi) _ (iA hj)]
    simp only [a6, cmpL]
    unfold or'
    by_cases hc : cmpV p1[i] p2[i] = 0
    ·have e : (cmpV p1[i] p2[i] != 0) = false := by simp [hc]
     rw [e, ax, zd (by omega) (by omega), show (i : Int) + 1 = ((i + 1 : Nat) : Int) by omega, ih (i + 1) (by omega) (by omega) (by omega), if_neg (by simp [hc])]
    ·have e : (cmpV p1[i] p2[i] != 0) = true := by simp [hc]
     rw [e, aH, if_pos hc]
   ·have e2 : p2.drop i = [] := List.drop_of_length_le (by omega)
    rw [show decide ((p2.length : Int) ≤ (i : Int)) = true by simp; omega, aH, e2]
    rfl
  ·have : i = p1.length := by omega
   subst this
   rw [show decide ((p1.length : Int) < (p1.length : Int)) = false by simp, ax, List.drop_length]
   unfold bF
   by_cases hj : p1.length < p2.length
   ·have e2 : p2.drop p1.length = p2[p1.length] :: p2.drop (p1.length + 1) := List.drop_eq_getElem_cons hj
    rw [show decide ((p1.length : Int) < (p2.length : Int)) = true by simp [hj], aH, e2]
    rfl
   ·have e2 : p2.drop p1.length = [] := List.drop_of_length_le (by omega)
    rw [show decide ((p1.length : Int) < (p2.length : Int)) = false by simp; omega, ax, e2]
    rfl
theorem Lf (a b c : Int) : eQ a b c = some (decide (b ≤ a ∧ a ≤ c)) := by
 unfold eQ nH
 by_cases h : b ≤ a <;> by_cases k : a ≤ c <;> simp [h, k, aJ]
theorem or_zero (y : Int) : or' 0 y = y := by simp [or']
theorem c3_self (a : Int) : c3 a a = 0 := by simp [c3]
theorem compare_eq : ∀ (N : Nat) (a b : ac) (k : Nat), dQ a ≤ N → dQ a < 1000000000000000 → wfV a → wfV b → 3 * N + 3 ≤ k → dS k a b = some (cmpV a b) := by
 intro N
 induction N with
 | zero => intro a b k h; have := xT a; omega
 | succ N ih =>
  intro a b k hN hbig ha hb hk
  obtain ⟨k', rfl⟩ : ∃ k', k = k' + 1 + 1 + 1 := ⟨k - 3, by omega⟩
  obtain ⟨ka, na, sa, ta, ia⟩ := a
  obtain ⟨kb, nb, sb, tb, ib⟩ := b
  simp only [wfV] at ha hb
  obtain ⟨wk, wn, ws, wi⟩ := ha
  obtain ⟨vk, vn, vs, vi⟩ := hb
  simp only [dQ] at hN hbig
  have hlen := pH ia
  -- the rest
  have hitems : az (k' + 1) ia ib = some (cmpL ia ib) := by
   rw [az]
   have := cmpf_loop (dS k') ia ib (by omega) (fun x hx y hy => by
    have h1 := lH hx
    exact ih x y k' (by omega) (by omega) (BK wi hx) (BK vi hy) (by omega)) aQ 0 (Nat.zero_le _) (Nat.zero_le _) (by rw [aU]; omega)
   simpa using this
  have hrest : kU (k' + 1 + 1) ⟨ka, na, sa, ta, ia⟩ ⟨kb, nb, sb, tb, ib⟩ = some (or' (c3 sa sb) (or' (cS ta tb) (cmpL ia ib))) := by
   rw [kU]
   simp only [N8, U4, a6, hitems, Xg]
  rw [dS]
  simp only [N8, a6, Lf, cmpV]
  by_cases hkk : ka = kb
  ·subst hkk
   rw [show (ka != ka) = false by simp, ax, c3_self, c3_self, or_zero, or_zero]
   by_cases h0 : ka = 0
   ·subst h0; rw [if_pos rfl]; rfl
   ·rw [beq_eq_false_iff_ne.2 h0, ax, if_neg h0]
    have plain : mB (kU (k' + 1 + 1)) ⟨ka, na, sa, ta, ia⟩ ⟨ka, nb, sb, tb, ib⟩ = some (or' (c3 na nb) (or' (c3 sa sb) (or' (cS ta tb) (cmpL ia ib)))) := by
     unfold mB
     simp only [N8, a6, hrest, WI]
    by_cases h3 : ka = 3
    ·subst h3
     rw [show ((3 : Int) == 3) = true from rfl, aH]
     unfold pr
     by_cases hA : 0 ≤ sa ∧ sa ≤ 12
     ·have hiA : inR sa := hA
      by_cases hB : 0 ≤ sb ∧ sb ≤ 12
      ·have hiB : inR sb := hB
       simp only [hA, hB, and_self, decide_true, aH]
       rw [zd (x := 12 - sa) (by omega) (by omega), zd (x := 12 - sb) (by omega) (by omega)]
       obtain ⟨w1, g1, g2, g3, g4, g5⟩ := FW (n := na) (d := 12 - sa) wn.1 wn.2 (by omega) (by omega)
       obtain ⟨w2, f1, f2, f3, f4, f5⟩ := FW (n := nb) (d := 12 - sb) vn.1 vn.2 (by omega) (by omega)
       rw [g1, f1]
       simp only [a6]
       have pp1 := yu (12 - sa).toNat
       have pp2 := yu (12 - sb).toNat
       have sgn : ∀ (n P : Int), 1 ≤ P → n < 0 → 0 < (if n < 0 then -n else n) * P := by
        intro n P hP hn
        rw [if_pos hn]
        exact Int.mul_pos (by omega) (by omega)
       have sv1 : sv w1 = na * eS (12 - sa).toNat := by
        unfold sv; rw [g3, g4]
        by_cases hn : na < 0
        ·simp only [hn, decide_true, if_true]; rw [Int.neg_mul, Int.neg_neg]
        ·simp only [hn, decide_false, Bool.false_eq_true, if_false]
       have sv2 : sv w2 = nb * eS (12 - sb).toNat := by
        unfold sv; rw [f3, f4]
        by_cases hn : nb < 0
        ·simp only [hn, decide_true, if_true]; rw [Int.neg_mul, Int.neg_neg]
        ·simp only [hn, decide_false, Bool.false_eq_true, if_false]
       have hcmp : lf ⟨w1.neg, w1.size.1, w1.size.2.1, w1.size.2.2.1, w1.size.2.2.2⟩ ⟨w2.neg, w2.size.1, w2.size.2.1, w2.size.2.2.1, w2.size.2.2.2⟩ = some (c3 (na * eS (12 - sa).toNat) (nb * eS (12 - sb).toNat)) := by
        have := Id g2 f2 g5 f5 (fun h => by rw [g3]; exact sgn na _ pp1 (by rw [g4] at h; simpa using h)) (fun h => by rw [f3]; exact sgn nb _ pp2 (by rw [f4] at h; simpa using h))
        rw [sv1, sv2] at this
        exact this
       rw [hcmp]
       simp only [a6, hrest, WI]
       have o1 : AO 3 sa = 0 := by unfold AO; rw [if_neg (by simp [hiA])]
       have o2 : AO 3 sb = 0 := by unfold AO; rw [if_neg (by simp [hiB])]
       have u1 : vvI 3 sa na = na * eS (12 - sa).toNat := by unfold vvI; rw [if_pos ⟨rfl, hiA⟩]
       have u2 : vvI 3 sb nb = nb * eS (12 - sb).toNat := by unfold vvI; rw [if_pos ⟨rfl, hiB⟩]
       rw [o1, o2, c3_self, or_zero, u1, u2]
      ·have hiB : ¬ inR sb := hB
       have eB : decide (0 ≤ sb ∧ sb ≤ 12) = false := by simpa using hB
       have eA : decide (0 ≤ sa ∧ sa ≤ 12) = true := by simpa using hA
       rw [eA, eB]
       simp only [aH, ax]
       have o1 : AO 3 sa = 0 := by unfold AO; rw [if_neg (by simp [hiA])]
       have o2 : AO 3 sb = 1 := by unfold AO; rw [if_pos ⟨rfl, hiB⟩]
       rw [o1, o2]; rfl
     ·have hiA : ¬ inR sa := hA
      have eA : decide (0 ≤ sa ∧ sa ≤ 12) = false := by simpa using hA
      have o1 : AO 3 sa = 1 := by unfold AO; rw [if_pos ⟨rfl, hiA⟩]
      have u1 : vvI 3 sa na = na := by unfold vvI; rw [if_neg (by simp [hiA])]
      rw [eA]
      simp only [ax]
      by_cases hB : 0 ≤ sb ∧ sb ≤ 12
      ·have hiB : inR sb := hB
       have eB : decide (0 ≤ sb ∧ sb ≤ 12) = true := by simpa using hB
       have o2 : AO 3 sb = 0 := by unfold AO; rw [if_neg (by simp [hiB])]
       rw [eB, o1, o2]; rfl
      ·have hiB : ¬ inR sb := hB
       have eB : decide (0 ≤ sb ∧ sb ≤ 12) = false := by simpa using hB
       have o2 : AO 3 sb = 1 := by unfold AO; rw [if_pos ⟨rfl, hiB⟩]
       have u2 : vvI 3 sb nb = nb := by unfold vvI; rw [if_neg (by simp [hiB])]
       rw [eB, ax, plain, o1, o2, c3_self, or_zero, u1, u2]
    ·rw [beq_eq_false_iff_ne.2 h3, ax, plain]
     have o1 : ∀ q, AO ka q = 0 := fun q => by unfold AO; rw [if_neg (by simp [h3])]
     have u1 : ∀ q r, vvI ka q r = r := fun q r => by unfold vvI; rw [if_neg (by simp [h3])]
     rw [o1, o1, c3_self, or_zero, u1, u1]
  ·rw [show (ka != kb) = true by simp [hkk], aH]
   by_cases h0 : ka = 0
   ·subst h0
    have : BZ kb = 0 := by unfold BZ; rw [if_neg (fun e => hkk e.symm)]
    rw [this]; rfl
   ·rw [beq_eq_false_iff_ne.2 h0, ax]
    have n1 : BZ ka = 0 := by unfold BZ; rw [if_neg h0]
    by_cases h1 : kb = 0
    ·subst h1; rw [n1]; rfl
    ·have n2 : BZ kb = 0 := by unfold BZ; rw [if_neg h1]
     rw [beq_eq_false_iff_ne.2 h1, ax, n1, n2, c3_self, or_zero]
     have hc : c3 ka kb ≠ 0 := by unfold c3; split <;> (try split) <;> omega
     unfold or'
     rw [if_pos hc]
theorem uD {x y x' y' : Int} (h : x = -x') (k : y = -y') : or' x y = -or' x' y' := by
 unfold or'
 by_cases hx : x' = 0
 ·have : x = 0 := by omega
  rw [if_neg (by simp [this]), if_neg (by simp [hx])]; exact k
 ·have : x ≠ 0 := by omega
  rw [if_pos this, if_pos hx]; exact h
theorem wL (a b : Int) : c3 a b = -c3 b a := by
 unfold c3
 by_cases h1 : a < b <;> by_cases h2 : b < a <;> simp [h1, h2] <;> omega
def cB (l m : List UInt8) : Int := if Op.bytesLess l m = true then -1 else if l = m then 0 else 1
theorem Hs (a b : UInt8) (l m : List UInt8) : cB (a :: l) (b :: m) = or' (c3 a.toNat b.toNat) (cB l m) := by
 unfold cB or' c3
 simp only [Op.bytesLess, Bool.or_eq_true, gZ, decide_eq_true_eq, beq_iff_eq, List.cons.injEq]
 by_cases h1 : a < b
 ·have h1' : (a.toNat : Int) < b.toNat := by have := UInt8.lt_iff_toNat_lt.1 h1; omega
  simp [h1, h1']
 ·have h1' : ¬ (a.toNat : Int) < b.toNat := fun h => h1 (UInt8.lt_iff_toNat_lt.2 (by omega))
  by_cases h2 : a = b
  ·subst h2
   simp
  ·have h3 : (b.toNat : Int) < a.toNat := by
    have : a.toNat ≠ b.toNat := fun h => h2 (UInt8.toNat_inj.1 h)
    omega
   simp [h1, h1', h2, h3]
theorem KM : ∀ l m : List UInt8, cB l m = -cB m l
 | [], [] => by decide
 | [], _ :: _ => by simp [cB, Op.bytesLess]
 | _ :: _, [] => by simp [cB, Op.bytesLess]
 | a :: l, b :: m => by
  rw [Hs, Hs]
  exact uD (wL _ _) (KM l m)
theorem PO (s t : ByteArray) : cS s t = cB s.toList t.toList := rfl
mutual
theorem FQ : ∀ a b : ac, cmpV a b = -cmpV b a
 | ⟨k, n, sc, s, it⟩, ⟨k', n', sc', s', it'⟩ => by
  have hL := F1 it it'
  simp only [cmpV]
  by_cases hk : k = k'
  ·subst hk
   refine uD (wL _ _) (uD (wL _ _) ?_)
   split
   ·rfl
   ·exact uD (wL _ _) (uD (wL _ _) (uD (wL _ _) (uD (by rw [PO, PO]; exact KM _ _) hL)))
  ·have e1 : ∀ y, or' (c3 k k') y = c3 k k' := fun y => by
    unfold or'; rw [if_pos (by unfold c3; split <;> (try split) <;> omega)]
   have e2 : ∀ y, or' (c3 k' k) y = c3 k' k := fun y => by
    unfold or'; rw [if_pos (by unfold c3; split <;> (try split) <;> omega)]
   rw [e1, e2]
   exact uD (wL _ _) (wL _ _)
theorem F1 : ∀ l m : List ac, cmpL l m = -cmpL m l
 | [], [] => by simp [cmpL]
 | [], _ :: _ => by simp [cmpL]
 | _ :: _, [] => by simp [cmpL]
 | x :: l, y :: m => by
  have h1 := FQ x y
  have h2 := F1 l m
  simp only [cmpL]
  exact uD h1 h2
end
theorem cmpV_refl (a : ac) : cmpV a a = 0 := by
 have := FQ a a
 omega
theorem xy (a b : Int) : kd a b = some (c3 a b) := by
 unfold kd c3
 by_cases h : a < b
 ·simp [h, aJ]
 ·by_cases k : b < a <;> simp [h, k, aJ]
theorem Of (a b c : Int) : gg a b c = some (decide (b ≤ a ∧ a ≤ c)) := Lf a b c
def j6 : List Int → Int
 | [] => 0
 | d :: l => d + 10 * j6 l
def DZ (l : List Int) : Prop := ∀ d ∈ l, 0 ≤ d ∧ d ≤ 9
def TE (l : List Int) : Prop := ∀ d, l.getLast? = some d → d ≠ 0
theorem tn : ∀ {l : List Int}, DZ l → 0 ≤ j6 l
 | [], _ => by simp [j6]
 | d :: l, h => by
  have h1 := h d (by simp)
  have h2 := tn (l := l) (fun x hx => h x (by simp [hx]))
  simp only [j6]; omega
theorem p10n : ∀ n, 0 < eS n := fun n => by have := yu n; omega
theorem BV : ∀ {l : List Int}, DZ l → j6 l < eS l.length
 | [], _ => by simp [j6, eS]
 | d :: l, h => by
  have h1 := h d (by simp)
  have h2 := BV (l := l) (fun x hx => h x (by simp [hx]))
  simp only [j6, List.length_cons, eS]; omega
theorem Eg : ∀ {l : List Int}, DZ l → TE l → l ≠ [] → eS (l.length - 1) ≤ j6 l
 | [], _, _, h => absurd rfl h
 | [d], h, ht, _ => by
  have h1 := h d (by simp)
  have h2 := ht d (by simp)
  simp [j6, eS]; omega
 | d :: e :: l, h, ht, _ => by
  have h1 := h d (by simp)
  have h2 := Eg (l := e :: l) (fun x hx => h x (by simp [hx])) (fun x hx => ht x (by simpa using hx)) (by simp)
  simp only [List.length_cons] at h2 ⊢
  rw [show l.length + 1 + 1 - 1 = (l.length + 1 - 1) + 1 by omega]
  simp only [eS]
  rw [j6]
  omega
theorem IU {m n : Nat} (h : m ≤ n) : eS m ≤ eS n := by
 induction n with
 | zero =>
  have : m = 0 := by omega
  subst this; exact Int.le_refl _
 | succ n ih =>
  by_cases e : m = n + 1
  ·subst e; exact Int.le_refl _
  ·have h1 := ih (by omega)
   have h2 := p10n n
   simp only [eS]; omega
theorem tk : ∀ (l m : List Int), j6 (l ++ m) = j6 l + eS l.length * j6 m
 | [], m => by simp [j6, eS]
 | d :: l, m => by
  simp only [List.cons_append, j6, tk l m, List.length_cons, eS]
  rw [Int.mul_add, ← Int.mul_assoc, Int.mul_comm 10 (eS l.length)]; omega
theorem Kk (k : Nat) : j6 (List.replicate k 0) = 0 := by
 induction k with
 | zero => rfl
 | succ k ih => simp [List.replicate_succ, j6, ih]
theorem MH {a b : List Int} (ha : DZ a) (hb : DZ b) (hl : a.length = b.length) (hbig : a.length < 1000000) : ∀ (k i : Nat), i ≤ a.length → i < k → j6 (a.drop i) = j6 (b.drop i) →
  ∃ r, pA a b k ((i : Int) - 1) = some r ∧ -9 ≤ r ∧ r ≤ 9 ∧ c3 r 0 = c3 (j6 a) (j6 b) := by
 intro k
 induction k with
 | zero => intro i h1 h2; omega
 | succ k ih =>
  intro i h1 h2 he
  rw [pA]
  cases i with
  | zero =>
   rw [show decide ((0 : Int) ≤ ((0 : Nat) : Int) - 1) = false from rfl, ax]
   simp only [List.drop_zero] at he
   exact ⟨0, rfl, by omega, by omega, by rw [he, c3_self, c3_self]⟩
  | succ i =>
   have hia : i < a.length := by omega
   have hib : i < b.length := by omega
   have e1 : ((i + 1 : Nat) : Int) - 1 = (i : Int) := by omega
   have aa : at? a (i : Int) = some a[i] := by unfold at?; simp [hia]
   have bb : at? b (i : Int) = some b[i] := by unfold at?; simp [hib]
   rw [e1, show decide ((0 : Int) ≤ (i : Int)) = true by simp, aH, aa, bb]
   simp only [a6]
   have da : a.drop i = a[i] :: a.drop (i + 1) := List.drop_eq_getElem_cons hia
   have db : b.drop i = b[i] :: b.drop (i + 1) := List.drop_eq_getElem_cons hib
   have ra := ha a[i] (iA hia)
   have rb := hb b[i] (iA hib)
   by_cases hne : a[i] = b[i]
   ·rw [show (a[i] != b[i]) = false by simp [hne], ax, zd (by omega) (by omega)]
    refine ih i (by omega) (by omega) ?_
    rw [da, db]; simp only [j6]; omega
   ·rw [show (a[i] != b[i]) = true by simp [hne], aH, zd (by omega) (by omega)]
    refine ⟨_, rfl, by omega, by omega, ?_⟩
    have va : j6 a = j6 (a.take i) + eS i * j6 (a.drop i) := by
     have := tk (a.take i) (a.drop i)
     rw [List.take_append_drop, List.length_take, Nat.min_eq_left (by omega)] at this
     exact this
    have vb : j6 b = j6 (b.take i) + eS i * j6 (b.drop i) := by
     have := tk (b.take i) (b.drop i)
     rw [List.take_append_drop, List.length_take, Nat.min_eq_left (by omega)] at this
     exact this
    have la := BV (l := a.take i) (fun x hx => ha x (List.mem_of_mem_take hx))
    have lb := BV (l := b.take i) (fun x hx => hb x (List.mem_of_mem_take hx))
    have na := tn (l := a.take i) (fun x hx => ha x (List.mem_of_mem_take hx))
    have nb := tn (l := b.take i) (fun x hx => hb x (List.mem_of_mem_take hx))
    rw [List.length_take, Nat.min_eq_left (by omega)] at la lb
    rw [da] at va; rw [db] at vb
    simp only [j6] at va vb
    have hp := p10n i
    have key : eS i * (a[i] + 10 * j6 (a.drop (i + 1))) - eS i * (b[i] + 10 * j6 (b.drop (i + 1))) = eS i * (a[i] - b[i]) := by
     rw [← Int.mul_sub, he]; congr 1; omega
    unfold c3
    rcases Int.lt_or_gt_of_ne hne with hlt | hgt
    ·have : eS i * (a[i] - b[i]) ≤ eS i * (-1) := Int.mul_le_mul_of_nonneg_left (by omega) (by omega)
     rw [if_pos (by omega), if_pos (by omega)]
    ·have : eS i * 1 ≤ eS i * (a[i] - b[i]) := Int.mul_le_mul_of_nonneg_left (by omega) (by omega)
     rw [if_neg (by omega), if_pos (by omega), if_neg (by omega), if_pos (by omega)]
theorem QB {a b : List Int} (ha : DZ a) (hb : DZ b) (ta : TE a) (tb : TE b) (la : a.length < 1000) (lb : b.length < 1000) : ∃ r, Ap a b = some r ∧ -1000 ≤ r ∧ r ≤ 1000 ∧ c3 r 0 = c3 (j6 a) (j6 b) := by
 unfold Ap
 by_cases hl : a.length = b.length
 ·rw [show ((a.length : Int) != (b.length : Int)) = false by simp [hl], ax, zd (by omega) (by omega)]
  obtain ⟨r, h1, h2, h3, h4⟩ := MH ha hb hl (by omega) aQ a.length (gO _) (by rw [aU]; omega) (by rw [List.drop_length, hl, List.drop_length])
  exact ⟨r, h1, by omega, by omega, h4⟩
 ·have hne : ((a.length : Int) != (b.length : Int)) = true := by simp; omega
  rw [hne, aH, zd (by omega) (by omega)]
  refine ⟨_, rfl, by omega, by omega, ?_⟩
  have l1 := BV ha
  have l2 := BV hb
  rcases Nat.lt_or_gt_of_ne hl with h | h
  ·have g := Eg hb tb (by rintro rfl; simp at h)
   have := IU (show a.length ≤ b.length - 1 by omega)
   unfold c3; rw [if_pos (by omega), if_pos (by omega)]
  ·have g := Eg ha ta (by rintro rfl; simp at h)
   have := IU (show b.length ≤ a.length - 1 by omega)
   unfold c3; rw [if_neg (by omega), if_pos (by omega), if_neg (by omega), if_pos (by omega)]
structure RW (r : rZ) (n : Int) : Prop where
 dg : DZ r.d
 tp : TE r.d
 ln : r.d.length < 100
 vl : (if r.below = true then -j6 r.d else j6 r.d) = n
 bl : r.below = true → 0 < j6 r.d
theorem HR {a b : rZ} {m n : Int} (ha : RW a m) (hb : RW b n) : pf a b = some (c3 m n) := by
 obtain ⟨da, ta, la, va, ba⟩ := ha
 obtain ⟨db, tb, lb, vb, bb⟩ := hb
 have pa := tn da
 have pb := tn db
 obtain ⟨r, h1, h2, h3, h4⟩ := QB da db ta tb (by omega) (by omega)
 unfold pf
 rw [h1]
 simp only [a6]
 have fin : ∀ x : Int, kf x = some (c3 x 0) := by
  intro x
  unfold kf c3
  by_cases h : x < 0
  ·simp [h, aJ]
  ·by_cases k : 0 < x <;> simp [h, k, aJ]
 by_cases hs : a.below = b.below
 ·rw [show (!(a.below == b.below)) = false by simp [hs], ax, zd (by omega) (by omega), fin, fin]
  rw [← hs] at vb
  cases hbel : a.below with
  | true =>
   rw [aH]
   rw [hbel] at va vb
   simp only [if_true] at va vb
   congr 1
   subst va; subst vb
   have e : c3 (0 - r) 0 = -c3 r 0 := by unfold c3; by_cases x1 : r < 0 <;> by_cases x2 : 0 < r <;> simp [x1, x2] <;> omega
   have e2 : c3 (-j6 a.d) (-j6 b.d) = -c3 (j6 a.d) (j6 b.d) := by unfold c3; by_cases x1 : j6 a.d < j6 b.d <;> by_cases x2 : j6 b.d < j6 a.d <;> simp [x1, x2] <;> omega
   rw [e, e2, h4]
  | false =>
   rw [ax]
   rw [hbel] at va vb
   simp only [Bool.false_eq_true, if_false] at va vb
   subst va; subst vb
   rw [h4]
 ·have hb2 := (Hr a.below b.below hs)
  rw [hb2.1, aH]
  cases hbel : a.below with
  | true =>
   have hb0 : b.below = false := by have := hb2.2; rw [hbel] at this; simpa using this
   rw [aH]
   rw [hbel] at va; rw [hb0] at vb
   simp only [if_true, Bool.false_eq_true, if_false] at va vb
   have := ba hbel
   unfold c3; rw [if_pos (by omega)]
  | false =>
   have hb0 : b.below = true := by have := hb2.2; rw [hbel] at this; simpa using this
   rw [ax]
   rw [hbel] at va; rw [hb0] at vb
   simp only [if_true, Bool.false_eq_true, if_false] at va vb
   have := bb hb0
   unfold c3; rw [if_neg (by omega), if_pos (by omega)]
end Go.Proofs.YtfnmbpecdjncfaaGreatDoor.Ord
namespace Go.Proofs.YtfnmbpecdjncfaaGreatDoor.Ord
open Go Go.SX Go.SX.Cal
def ab (n : Int) : Int := if n < 0 then -n else n
theorem Oc {l : List Int} {x : Int} (h : DZ l) (hx : 0 ≤ x ∧ x ≤ 9) : DZ (l ++ [x]) := by
 intro d hd
 rcases List.mem_append.1 hd with h1 | h1
 ·exact h d h1
 ·simp at h1; subst h1; exact hx
theorem I6 {n : Int} (hn0 : -9223372036854775808 ≤ n) (hn1 : n ≤ 9223372036854775807) : ∀ (k : Nat) (l : List Int) (m : Int), l.length ≤ 19 → 19 - l.length < k → DZ l → (m = 0 → TE l) → ab m < eS (19 - l.length) → -9223372036854775808 ≤ m → m ≤ 9223372036854775807 → ab n = j6 l + eS l.length * ab m →
  ∃ d, eZ n k l m = some ⟨decide (n < 0), d⟩ ∧ DZ d ∧ TE d ∧ d.length ≤ 19 ∧ j6 d = ab n := by
 intro k
 induction k with
 | zero => intro l m h1 h2; omega
 | succ k ih =>
  intro l m hl hk hd ht hm m0 m1 hv
  rw [eZ]
  by_cases h0 : m = 0
  ·subst h0
   rw [show ((0 : Int) != 0) = false from rfl, ax]
   exact ⟨l, rfl, hd, ht rfl, hl, by simp [ab] at hv ⊢; omega⟩
  ·have hlen : l.length < 19 := by
    apply Classical.byContradiction
    intro hn
    have : l.length = 19 := by omega
    rw [this] at hm
    simp only [Nat.sub_self, eS] at hm
    unfold ab at hm; split at hm <;> omega
   rw [show (m != 0) = true by simp [h0], aH]
   have hq : m.tdiv 10 = if m < 0 then -((-m) / 10) else m / 10 := by
    by_cases hneg : m < 0
    ·rw [if_pos hneg]
     have : m = -(-m) := by omega
     rw [this, Int.neg_tdiv, Int.neg_neg, Int.tdiv_eq_ediv_of_nonneg (by omega)]
    ·rw [if_neg hneg, Int.tdiv_eq_ediv_of_nonneg (by omega)]
   have hr : m.tmod 10 = if m < 0 then -((-m) % 10) else m % 10 := by
    by_cases hneg : m < 0
    ·rw [if_pos hneg]
     have : m = -(-m) := by omega
     rw [this, Int.neg_tmod, Int.neg_neg, Int.tmod_eq_emod_of_nonneg (by omega)]
    ·rw [if_neg hneg, Int.tmod_eq_emod_of_nonneg (by omega)]
   have step : ∀ x, x = ab m % 10 → oy (eZ n k) l m x = eZ n k (l ++ [ab m % 10]) (m.tdiv 10) := by
    intro x hx
    unfold oy
    rw [gd (by omega), hx, zd (by rw [hq]; split <;> omega) (by rw [hq]; split <;> omega)]
   have hgo : eZ n k (l ++ [ab m % 10]) (m.tdiv 10) = eZ n k (l ++ [ab m % 10]) (m.tdiv 10) := rfl
   have habq : ab (m.tdiv 10) = ab m / 10 := by
    rw [hq]; unfold ab
    by_cases hneg : m < 0
    ·simp only [hneg, if_true]; split <;> omega
    ·simp only [hneg, if_false]; split <;> omega
   have hab0 : 0 ≤ ab m := by unfold ab; split <;> omega
   have hp : eS (19 - l.length) = eS (19 - (l ++ [ab m % 10]).length) * 10 := by
    rw [show 19 - l.length = (19 - (l ++ [ab m % 10]).length) + 1 by simp; omega]; rfl
   have nxt := ih (l ++ [ab m % 10]) (m.tdiv 10) (by simp; omega) (by simp; omega) (Oc hd (by omega)) (fun hz => by
     intro d hdl
     simp at hdl
     subst hdl
     have h1 : ab m / 10 = 0 := by rw [← habq, hz]; rfl
     have h2 : ab m ≠ 0 := by unfold ab; split <;> omega
     omega) (by rw [habq]; rw [hp] at hm; omega) (by rw [hq]; split <;> omega) (by rw [hq]; split <;> omega) (by
     rw [tk, List.length_append, List.length_singleton, habq, hv]
     simp only [j6, eS]
     have e : ab m = ab m % 10 + 10 * (ab m / 10) := by omega
     have e2 : eS l.length * ab m = eS l.length * (ab m % 10) + eS l.length * 10 * (ab m / 10) := by
      rw [Int.mul_assoc, ← Int.mul_add, ← e]
     rw [e2]; simp only [Int.mul_zero, Int.add_zero]; omega)
   by_cases hneg : m.tmod 10 < 0
   ·rw [show decide (m.tmod 10 < 0) = true by simpa using hneg, aH]
    have hx : IntKind.i64.wrap (0 - m.tmod 10) = ab m % 10 := by
     rw [zd (by rw [hr]; split <;> omega) (by rw [hr]; split <;> omega)]
     rw [hr] at hneg ⊢
     unfold ab
     by_cases h : m < 0
     ·simp only [h, if_true]; omega
     ·simp only [h, if_false] at hneg; omega
    rw [step _ hx]; exact nxt
   ·rw [show decide (m.tmod 10 < 0) = false by simpa using hneg, ax]
    have hx : m.tmod 10 = ab m % 10 := by
     rw [hr] at hneg ⊢
     unfold ab
     by_cases h : m < 0
     ·simp only [h, if_true] at hneg ⊢; omega
     ·simp only [h, if_false]
    rw [step _ hx]; exact nxt
theorem FV {v : ac} (hn : i64 v.n) (hs : inR v.scale) : ∃ r, tG v = some r ∧ RW r (v.n * eS (12 - v.scale).toNat) := by
 obtain ⟨n0, n1⟩ := hn
 obtain ⟨s0, s1⟩ := hs
 have hab : ab v.n ≤ 9223372036854775808 := by unfold ab; split <;> omega
 obtain ⟨d, h1, h2, h3, h4, h5⟩ := I6 n0 n1 aQ [] v.n (by simp) (by rw [aU]; decide) (fun x hx => by cases hx) (fun _ x hx => by simp at hx) (by
  have : eS (19 - ([] : List Int).length) = 10000000000000000000 := by decide
  rw [this]; omega) n0 n1 (by simp [j6, eS])
 unfold tG zC
 rw [h1]
 simp only [a6]
 rw [zd (by omega) (by omega)]
 unfold C5
 have hpp := yu (12 - v.scale).toNat
 by_cases he : d = []
 ·subst he
  have hz : v.n = 0 := by simp only [j6] at h5; unfold ab at h5; split at h5 <;> omega
  rw [show (((⟨decide (v.n < 0), []⟩ : rZ).d.length : Int) == 0) = true from rfl, aH]
  refine ⟨_, rfl, ⟨h2, h3, by simp, ?_, ?_⟩⟩
  ·simp [hz, j6]
  ·simp [hz]
 ·have hlen : ((d.length : Int) == 0) = false := by
   rw [beq_eq_false_iff_ne]
   have : d.length ≠ 0 := fun h => he (List.length_eq_zero_iff.1 h)
   omega
  simp only
  rw [hlen, ax, gd (by omega), gd (by simp; omega)]
  have hval : j6 (List.replicate (12 - v.scale).toNat 0 ++ d) = ab v.n * eS (12 - v.scale).toNat := by
   rw [tk, Kk, List.length_replicate, h5, Int.mul_comm]; omega
  have hpos : 0 < ab v.n := by
   have h6 := Eg h2 h3 he
   have := p10n (d.length - 1)
   omega
  refine ⟨_, rfl, ⟨fun x hx => ?_, fun x hx => ?_, by simp; omega, ?_, fun _ => ?_⟩⟩
  ·rcases List.mem_append.1 hx with h | h
   ·have := List.eq_of_mem_replicate h; omega
   ·exact h2 x h
  ·rw [List.getLast?_append] at hx
   cases hg : d.getLast? with
   | none => exact absurd (List.getLast?_eq_none_iff.1 hg) he
   | some y => rw [hg] at hx; simp at hx; subst hx; exact h3 _ hg
  ·simp only
   rw [hval]
   by_cases hneg : v.n < 0
   ·simp only [hneg, decide_true, if_true, ab]; rw [Int.neg_mul, Int.neg_neg]
   ·simp only [hneg, decide_false, Bool.false_eq_true, if_false, ab]
  ·simp only
   rw [hval]
   exact Int.mul_pos hpos (by omega)
theorem JT {s t : ByteArray} (hs : s.size < 1000000000000000) : ∀ (k i : Nat), i ≤ s.size → i ≤ t.size → s.size < i + k →
  ky s t k (i : Int) = some (cB (s.data.toList.drop i) (t.data.toList.drop i)) := by
 have ls : s.data.toList.length = s.size := by simp
 have lt : t.data.toList.length = t.size := by simp
 intro k
 induction k with
 | zero => intro i h1 h2 h3; omega
 | succ k ih =>
  intro i h1 h2 h3
  rw [ky]
  unfold td xp
  simp only [xy, a6]
  by_cases hi : i < s.size
  ·have e1 : s.data.toList.drop i = s.data.toList[i]'(by omega) :: s.data.toList.drop (i + 1) := List.drop_eq_getElem_cons (by omega)
   rw [show decide ((i : Int) < (s.size : Int)) = true by simpa using hi, aH]
   by_cases hj : i < t.size
   ·have e2 : t.data.toList.drop i = t.data.toList[i]'(by omega) :: t.data.toList.drop (i + 1) := List.drop_eq_getElem_cons (by omega)
    have g1 : s.data.toList.getD (i : Int).toNat 0 = s.data.toList[i]'(by omega) := by simp [List.getD, hi]
    have g2 : t.data.toList.getD (i : Int).toNat 0 = t.data.toList[i]'(by omega) := by simp [List.getD, hj]
    rw [show decide ((i : Int) < (t.size : Int)) = true by simpa using hj, aH, gd (by omega), gd (by omega), gd (by omega), gd (by omega), g1, g2, e1, e2, Hs]
    generalize s.data.toList[i]'(by omega) = x
    generalize t.data.toList[i]'(by omega) = y
    have hx := x.toNat_lt
    have hy := y.toNat_lt
    rw [zd (x := (x.toNat : Int)) (by omega) (by omega), zd (x := (y.toNat : Int)) (by omega) (by omega)]
    by_cases hxy : (x.toNat : Int) = y.toNat
    ·rw [show ((x.toNat : Int) != (y.toNat : Int)) = false by rw [bne_eq_false_iff_eq]; exact hxy, ax, zd (by omega) (by omega), show (i : Int) + 1 = ((i + 1 : Nat) : Int) by omega, ih (i + 1) (by omega) (by omega) (by omega), hxy, c3_self, or_zero]
    ·rw [show ((x.toNat : Int) != (y.toNat : Int)) = true by rw [bne_iff_ne]; exact hxy, aH]
     unfold or'
     rw [if_pos (by unfold c3; split <;> (try split) <;> omega)]
   ·have e2 : t.data.toList.drop i = [] := List.drop_of_length_le (by omega)
    rw [show decide ((i : Int) < (t.size : Int)) = false by simpa using hj, ax, e1, e2]
    have : cB (s.data.toList[i]'(by omega) :: s.data.toList.drop (i + 1)) [] = 1 := by simp [cB, Op.bytesLess]
    rw [this]
    unfold c3; rw [if_neg (by omega), if_pos (by omega)]
  ·have e1 : s.data.toList.drop i = [] := List.drop_of_length_le (by omega)
   rw [show decide ((i : Int) < (s.size : Int)) = false by simpa using hi, ax, ax, e1]
   by_cases hj : i < t.size
   ·have e2 : t.data.toList.drop i = t.data.toList[i]'(by omega) :: t.data.toList.drop (i + 1) := List.drop_eq_getElem_cons (by omega)
    rw [e2]
    have : cB [] (t.data.toList[i]'(by omega) :: t.data.toList.drop (i + 1)) = -1 := by simp [cB, Op.bytesLess]
    rw [this]
    unfold c3; rw [if_pos (by omega)]
   ·have e2 : t.data.toList.drop i = [] := List.drop_of_length_le (by omega)
    rw [e2]
    have : cB [] [] = 0 := by simp [cB, Op.bytesLess]
    rw [this]
    unfold c3; rw [if_neg (by omega), if_neg (by omega)]
theorem O2 {s t : ByteArray} (hs : s.size < 1000000000000000) : vV s t = some (cS s t) := by
 unfold vV
 have := JT (t := t) hs aQ 0 (Nat.zero_le _) (Nat.zero_le _) (by rw [aU]; omega)
 rw [show ((0 : Nat) : Int) = 0 from rfl] at this
 rw [this, List.drop_zero, List.drop_zero, PO]
 have e1 : s.toList = s.data.toList := by simp [ByteArray.toList_eq]
 have e2 : t.toList = t.data.toList := by simp [ByteArray.toList_eq]
 rw [e1, e2]
theorem IK (f : ac → ac → Option Int) (a b : ac) (hl : a.items.length < 1000000000000000) (hf : ∀ x ∈ a.items, ∀ y ∈ b.items, f x y = some (cmpV x y)) : ∀ (k i : Nat), i ≤ a.items.length → i ≤ b.items.length → a.items.length < i + k →
  gx f a b k (i : Int) = some (cmpL (a.items.drop i) (b.items.drop i)) := by
 intro k
 induction k with
 | zero => intro i h1 h2 h3; omega
 | succ k ih =>
  intro i h1 h2 h3
  rw [gx]
  unfold qn uc
  rw [xy]
  simp only [a6]
  by_cases hi : i < a.items.length
  ·have e1 : a.items.drop i = a.items[i] :: a.items.drop (i + 1) := List.drop_eq_getElem_cons hi
   have a1 : at? a.items (i : Int) = some a.items[i] := by unfold at?; simp [hi]
   rw [show decide ((i : Int) < (a.items.length : Int)) = true by simp [hi], aH, a1, e1]
   simp only [a6]
   by_cases hj : i < b.items.length
   ·have e2 : b.items.drop i = b.items[i] :: b.items.drop (i + 1) := List.drop_eq_getElem_cons hj
    have a2 : at? b.items (i : Int) = some b.items[i] := by unfold at?; simp [hj]
    rw [show decide ((i : Int) < (b.items.length : Int)) = true by simp [hj], aH, a2, e2]
    simp only [a6]
    rw [hf _ (iA hi) _ (iA hj)]
    simp only [a6, cmpL]
    unfold or'
    by_cases hc : cmpV a.items[i] b.items[i] = 0
    ·have e : (cmpV a.items[i] b.items[i] != 0) = false := by simp [hc]
     rw [e, ax, zd (by omega) (by omega), show (i : Int) + 1 = ((i + 1 : Nat) : Int) by omega, ih (i + 1) (by omega) (by omega) (by omega), if_neg (by simp [hc])]
    ·have e : (cmpV a.items[i] b.items[i] != 0) = true := by simp [hc]
     rw [e, aH, if_pos hc]
   ·have e2 : b.items.drop i = [] := List.drop_of_length_le (by omega)
    rw [show decide ((i : Int) < (b.items.length : Int)) = false by simp; omega, ax, e2]
    simp only [cmpL]
    unfold c3; rw [if_neg (by omega), if_pos (by omega)]
  ·have e1 : a.items.drop i = [] := List.drop_of_length_le (by omega)
   rw [show decide ((i : Int) < (a.items.length : Int)) = false by simp; omega, ax, ax, e1]
   by_cases hj : i < b.items.length
   ·have e2 : b.items.drop i = b.items[i] :: b.items.drop (i + 1) := List.drop_eq_getElem_cons hj
    rw [e2]
    simp only [cmpL]
    unfold c3; rw [if_pos (by omega)]
   ·have e2 : b.items.drop i = [] := List.drop_of_length_le (by omega)
    rw [e2]
    simp only [cmpL]
    unfold c3; rw [if_neg (by omega), if_neg (by omega)]
theorem Ce {a b : Int} (h : a ≠ b) : c3 a b ≠ 0 := by unfold c3; split <;> (try split) <;> omega
theorem zr {x : Int} (h : x ≠ 0) (y : Int) : or' x y = x := by unfold or'; rw [if_pos h]
theorem rcompareV_eq : ∀ (N : Nat) (a b : ac) (k : Nat), dQ a ≤ N → dQ a < 1000000000000000 → wfV a → wfV b → N + 1 ≤ k → cF k a b = some (cmpV a b) := by
 intro N
 induction N with
 | zero => intro a b k h; have := xT a; omega
 | succ N ih =>
  intro a b k hN hbig ha hb hk
  obtain ⟨k', rfl⟩ : ∃ k', k = k' + 1 := ⟨k - 1, by omega⟩
  obtain ⟨ka, na, sa, ta, ia⟩ := a
  obtain ⟨kb, nb, sb, tb, ib⟩ := b
  simp only [wfV] at ha hb
  obtain ⟨wk, wn, ws, wi⟩ := ha
  obtain ⟨vk, vn, vs, vi⟩ := hb
  simp only [dQ] at hN hbig
  have hlen := pH ia
  have hitems : gx (cF k') ⟨ka, na, sa, ta, ia⟩ ⟨kb, nb, sb, tb, ib⟩ aQ 0 = some (cmpL ia ib) := by
   have := IK (cF k') ⟨ka, na, sa, ta, ia⟩ ⟨kb, nb, sb, tb, ib⟩ (by simp only; omega) (fun x hx y hy => by
    have h1 : dQ x ≤ ig ia := lH hx
    exact ih x y k' (by omega) (by omega) (BK wi hx) (BK vi hy) (by omega)) aQ 0 (Nat.zero_le _) (Nat.zero_le _) (by rw [aU]; simp only; omega)
   simpa using this
  have htx : vV ta tb = some (cS ta tb) := O2 (by omega)
  have j2f : lA (cF k') ⟨ka, na, sa, ta, ia⟩ ⟨kb, nb, sb, tb, ib⟩ false = some (or' (c3 sa sb) (or' (cS ta tb) (cmpL ia ib))) := by
   unfold lA
   rw [ax, htx, hitems]
   simp only [xy, a6]
   by_cases hs : sa = sb
   ·subst hs
    rw [show (sa != sa) = false by simp, ax, c3_self, or_zero]
    by_cases hc : cS ta tb = 0
    ·rw [show (cS ta tb != 0) = false by simp [hc], ax, hc, or_zero]
    ·rw [show (cS ta tb != 0) = true by simp [hc], aH, zr hc]
   ·rw [show (sa != sb) = true by simp [hs], aH, zr (Ce hs)]
  rw [cF]
  simp only [xy, a6, cmpV]
  by_cases h0 : ka = 0
  ·subst h0
   by_cases h1 : kb = 0
   ·subst h1; rfl
   ·have e : ((kb == 0) : Bool) = false := beq_eq_false_iff_ne.2 h1
    have n2 : BZ kb = 0 := by unfold BZ; rw [if_neg h1]
    rw [e, n2]; rfl
  ·have e0 : ((ka == 0) : Bool) = false := beq_eq_false_iff_ne.2 h0
   have n1 : BZ ka = 0 := by unfold BZ; rw [if_neg h0]
   rw [e0, n1]
   by_cases h1 : kb = 0
   ·subst h1; rfl
   ·have e1 : ((kb == 0) : Bool) = false := beq_eq_false_iff_ne.2 h1
    have n2 : BZ kb = 0 := by unfold BZ; rw [if_neg h1]
    rw [e1, n2, c3_self, or_zero]
    rw [show (!((false : Bool) == false)) = false from rfl, ax, ax]
    by_cases hkk : ka = kb
    ·subst hkk
     rw [show (ka != ka) = false by simp, ax, c3_self, or_zero, if_neg h0]
     by_cases h3 : ka = 3
     ·subst h3
      rw [show ((3 : Int) == 3) = true from rfl, aH]
      have j1 : lF (cF k') ⟨3, na, sa, ta, ia⟩ ⟨3, nb, sb, tb, ib⟩ = some (or' (c3 sa sb) (or' (cS ta tb) (cmpL ia ib))) := by
       unfold lF
       rw [show (((3 : Int) != 3) : Bool) = false from rfl, j2f]
       rcases Bool.eq_false_or_eq_true (na != nb) with h | h <;> rw [h] <;> rfl
      rw [j1]
      unfold w7
      simp only [Of, a6, xy]
      by_cases hA : 0 ≤ sa ∧ sa ≤ 12
      ·have hiA : inR sa := hA
       have eA : decide (0 ≤ sa ∧ sa ≤ 12) = true := by simpa using hA
       have o1 : AO 3 sa = 0 := by unfold AO; rw [if_neg (by simp [hiA])]
       by_cases hB : 0 ≤ sb ∧ sb ≤ 12
       ·have hiB : inR sb := hB
        have eB : decide (0 ≤ sb ∧ sb ≤ 12) = true := by simpa using hB
        have o2 : AO 3 sb = 0 := by unfold AO; rw [if_neg (by simp [hiB])]
        obtain ⟨r1, g1, g2⟩ := FV (v := ⟨3, na, sa, ta, ia⟩) wn hiA
        obtain ⟨r2, f1, f2⟩ := FV (v := ⟨3, nb, sb, tb, ib⟩) vn hiB
        rw [eA, eB, g1, f1]
        simp only [a6]
        rw [HR g2 f2]
        simp only [a6]
        rw [show (!((true : Bool) == true)) = false from rfl, ax, aH]
        have u1 : vvI 3 sa na = na * eS (12 - sa).toNat := by unfold vvI; rw [if_pos ⟨rfl, hiA⟩]
        have u2 : vvI 3 sb nb = nb * eS (12 - sb).toNat := by unfold vvI; rw [if_pos ⟨rfl, hiB⟩]
        rw [o1, o2, c3_self, or_zero, u1, u2]
        by_cases hc : c3 (na * eS (12 - sa).toNat) (nb * eS (12 - sb).toNat) = 0
        ·rw [hc]
         rw [show ((0 : Int) != 0) = false from rfl, ax, a6, or_zero]
         by_cases hs : sa = sb
         ·subst hs; rw [c3_self, show ((0 : Int) != 0) = false from rfl, ax]
         ·rw [show (c3 sa sb != 0) = true by simp [Ce hs], aH, zr (Ce hs)]
        ·have hcb : (c3 (na * eS (12 - sa).toNat) (nb * eS (12 - sb).toNat) != 0) = true := by simp [hc]
         rw [hcb, aH, a6, hcb, aH, zr hc]
       ·have hiB : ¬ inR sb := hB
        have eB : decide (0 ≤ sb ∧ sb ≤ 12) = false := by simpa using hB
        have o2 : AO 3 sb = 1 := by unfold AO; rw [if_pos ⟨rfl, hiB⟩]
        rw [eA, eB, o1, o2]; rfl
      ·have hiA : ¬ inR sa := hA
       have eA : decide (0 ≤ sa ∧ sa ≤ 12) = false := by simpa using hA
       have o1 : AO 3 sa = 1 := by unfold AO; rw [if_pos ⟨rfl, hiA⟩]
       have u1 : vvI 3 sa na = na := by unfold vvI; rw [if_neg (by simp [hiA])]
       by_cases hB : 0 ≤ sb ∧ sb ≤ 12
       ·have hiB : inR sb := hB
        have eB : decide (0 ≤ sb ∧ sb ≤ 12) = true := by simpa using hB
        have o2 : AO 3 sb = 0 := by unfold AO; rw [if_neg (by simp [hiB])]
        rw [eA, eB, o1, o2]; rfl
       ·have hiB : ¬ inR sb := hB
        have eB : decide (0 ≤ sb ∧ sb ≤ 12) = false := by simpa using hB
        have o2 : AO 3 sb = 1 := by unfold AO; rw [if_pos ⟨rfl, hiB⟩]
        have u2 : vvI 3 sb nb = nb := by unfold vvI; rw [if_neg (by simp [hiB])]
        rw [eA, eB, o1, o2, c3_self, or_zero, u1, u2]
        rw [show (!((false : Bool) == false)) = false from rfl, ax, ax]
        by_cases hn : na = nb
        ·subst hn
         rw [show (na != na) = false by simp, ax, a6, c3_self, or_zero]
         by_cases hs : sa = sb
         ·subst hs; rw [c3_self, show ((0 : Int) != 0) = false from rfl, ax]
         ·rw [show (c3 sa sb != 0) = true by simp [Ce hs], aH, zr (Ce hs)]
        ·rw [show (na != nb) = true by simp [hn], aH, a6, show (c3 na nb != 0) = true by simp [Ce hn], aH, zr (Ce hn)]
     ·rw [beq_eq_false_iff_ne.2 h3, ax]
      have o1 : ∀ q, AO ka q = 0 := fun q => by unfold AO; rw [if_neg (by simp [h3])]
      have u1 : ∀ q r, vvI ka q r = r := fun q r => by unfold vvI; rw [if_neg (by simp [h3])]
      rw [o1, o1, c3_self, or_zero, u1, u1]
      unfold lF
      simp only
      rw [show (ka != 3) = true by simp [h3]]
      by_cases hn : na = nb
      ·subst hn
       rw [show (na != na) = false by simp, ax, j2f, c3_self, or_zero]
      ·rw [show (na != nb) = true by simp [hn], aH, zr (Ce hn)]
       unfold lA
       simp only [aH, xy, a6]
    ·rw [show (ka != kb) = true by simp [hkk], aH, zr (Ce hkk)]
end Go.Proofs.YtfnmbpecdjncfaaGreatDoor.Ord
namespace Go.Proofs.YtfnmbpecdjncfaaGreatDoor
open Go Go.SX Go.SX.Cal
open Go.IntKind (i64)
theorem Rx {t : am} {v : ac} (hv : dQ v < 1000000000) (hT : j3 t < 1000000000) (h : ck t v = 0) : V t ∧ Pi 4 v ∧ Fk 4 t v = true := by
 obtain ⟨e, h1, h2, h3⟩ := lW t hT
 have hc := Jz hv hT
 rw [h] at hc
 unfold gQ at hc
 rw [h1, Bs v hv] at hc
 simp only [cz] at hc
 by_cases he : e = 0
 ·subst he
  have ht := h3 rfl
  cases hs : yo v with
  | false => rw [hs] at hc; cases hc
  | true =>
   have hS : Pi 4 v := ⟨0, hs⟩
   obtain ⟨a, b⟩ := of_eq 4 aQ aQ t v hS ht hv hT (by rw [aU]; omega) (by rw [aU]; omega)
   rw [hs, a] at hc
   cases ho : Fk 4 t v with
   | false => rw [ho] at hc; cases hc
   | true => exact ⟨ht, hS, rfl⟩
 ·rw [show (e != (0 : Int)) = true by simp [he]] at hc
  cases hc; exact absurd rfl he
structure Lv (v : ac) : Prop where
 k : 0 ≤ v.kind ∧ v.kind ≤ 5
 n : -999999999999999999 ≤ v.n ∧ v.n ≤ 999999999999999999
 it : v.items = []
 s : v.s.size ≤ 256
 sc : 0 ≤ v.scale ∧ v.scale ≤ 12
 nul : v.kind = 0 → v.n = 0 ∧ v.scale = 0 ∧ v.s.size = 0
theorem HC {v : ac} (h : dX v = true) (h6 : v.kind ≠ 6) (h7 : v.kind ≠ 7) : Lv v := by
 have hi := ox h h6 h7
 unfold dX yq at h
 simp only at h
 split at h
 ·simp only [gZ, decide_eq_true_eq, beq_iff_eq] at h; exact ⟨by omega, by omega, hi, by omega, by omega, fun _ => by omega⟩
 ·split at h
  ·simp only [gZ, decide_eq_true_eq, beq_iff_eq] at h; exact ⟨by omega, by omega, hi, by omega, by omega, fun _ => by omega⟩
  ·split at h
   ·simp only [gZ, decide_eq_true_eq, beq_iff_eq] at h; exact ⟨by omega, by omega, hi, by omega, by omega, fun _ => by omega⟩
   ·split at h
    ·simp only [gZ, decide_eq_true_eq, beq_iff_eq] at h; exact ⟨by omega, by omega, hi, by omega, by omega, fun _ => by omega⟩
    ·split at h
     ·simp only [gZ, decide_eq_true_eq, beq_iff_eq] at h; exact ⟨by omega, by omega, hi, by omega, by omega, fun _ => by omega⟩
     ·split at h
      ·simp only [gZ, decide_eq_true_eq, beq_iff_eq] at h; exact ⟨by omega, by omega, hi, by omega, by omega, fun _ => by omega⟩
      ·cases h
theorem wV {t : am} {v : ac} (hv : dQ v < 1000000000) (hT : j3 t < 1000000000) (h6 : t.kind ≠ 6) (h7 : t.kind ≠ 7) (h : ck t v = 0) : Lv v := by
 obtain ⟨ht, hS, ho⟩ := Rx hv hT h
 obtain ⟨hp, _⟩ := hS.succ
 have hk : v.kind = 0 ∨ v.kind = t.kind := by
  simp only [Fk] at ho
  by_cases h0 : v.kind = 0
  ·exact .inl h0
  ·rw [if_neg h0] at ho
   by_cases h1 : v.kind = t.kind
   ·exact .inr h1
   ·rw [if_pos h1] at ho; cases ho
 exact HC hp (by rcases hk with h | h <;> omega) (by rcases hk with h | h <;> omega)
theorem Lv.wf {v : ac} (h : Lv v) : Ord.wfV v := by
 obtain ⟨k, n, sc, s, it⟩ := v
 obtain ⟨h1, h2, h3, h4, h5, h6⟩ := h
 simp only at h1 h2 h3 h5
 subst h3
 simp only [Ord.wfV, Ord.wfL, Ord.i64]
 exact ⟨⟨by omega, by omega⟩, ⟨by omega, by omega⟩, ⟨by omega, by omega⟩, trivial⟩
theorem Lv.size {v : ac} (h : Lv v) : dQ v ≤ 257 := by
 rw [xx, h.it]
 have := h.s
 simp only [ig]; omega
theorem C9 {a b : ac} (ha : Lv a) (hb : Lv b) : dS aQ a b = some (Ord.cmpV a b) := by
 have h := ha.size
 exact Ord.compare_eq 257 a b aQ h (by omega) ha.wf hb.wf (by rw [aU]; omega)
theorem Hl {a b : ac} (ha : Lv a) (hb : Lv b) : cF aQ a b = some (Ord.cmpV a b) := by
 have h := ha.size
 exact Ord.rcompareV_eq 257 a b aQ h (by omega) ha.wf hb.wf (by rw [aU]; omega)
theorem Q5 {a b : Int} : Ord.c3 a b = 0 ↔ a = b := by
 unfold Ord.c3; split <;> (try split) <;> constructor <;> omega
theorem EK {x y : Int} : Ord.or' x y = 0 ↔ x = 0 ∧ y = 0 := by
 unfold Ord.or'; by_cases h : x = 0 <;> simp [h]
theorem Ux {s t : ByteArray} : Ord.cS s t = 0 ↔ s.toList = t.toList := by
 unfold Ord.cS
 split
 ·rename_i h
  constructor
  ·intro k; omega
  ·intro k; rw [k] at h
   have := Ord.cmpV_refl ⟨1, 0, 0, t, []⟩
   simp only [Ord.cmpV] at this
   rw [EK, EK] at this
   have := this.2.2
   rw [if_neg (by decide), EK, EK, EK, EK] at this
   have := this.2.2.2.1
   unfold Ord.cS at this
   rw [if_pos h] at this
   omega
 ·split <;> simp_all
theorem Rj {s t : ByteArray} (h : s.toList = t.toList) : s = t := by
 rw [ByteArray.toList_eq, ByteArray.toList_eq] at h
 exact ByteArray.ext (by rw [← Array.toArray_toList (xs := s.data), ← Array.toArray_toList (xs := t.data), h])
theorem Ud {s t : ByteArray} (h1 : s.size = 0) (h2 : t.size = 0) : s = t :=
 ByteArray.ext (by rw [Array.eq_empty_of_size_eq_zero h1, Array.eq_empty_of_size_eq_zero h2])
theorem TU {a b : ac} (ha : Lv a) (hb : Lv b) : Ord.cmpV a b = 0 ↔ a = b := by
 constructor
 ·intro h
  obtain ⟨k, n, sc, s, it⟩ := a
  obtain ⟨k', n', sc', s', it'⟩ := b
  have hi := ha.it; have hi' := hb.it
  simp only at hi hi'
  subst hi; subst hi'
  simp only [Ord.cmpV, EK, Q5] at h
  obtain ⟨_, hk, h⟩ := h
  subst hk
  by_cases h0 : k = 0
  ·obtain ⟨a1, a2, a3⟩ := ha.nul h0
   obtain ⟨b1, b2, b3⟩ := hb.nul h0
   simp only at a1 a2 a3 b1 b2 b3
   rw [a1, a2, b1, b2, Ud a3 b3]
  ·rw [if_neg h0, EK, EK, EK, EK, Q5, Q5, Q5, Ux] at h
   obtain ⟨_, hv, hs, ht, _⟩ := h
   subst hs
   have hn : n = n' := by
    unfold Ord.vvI at hv
    by_cases h3 : k = 3 ∧ Ord.inR sc
    ·rw [if_pos h3, if_pos h3] at hv
     have := Ord.p10n (12 - sc).toNat
     exact Int.eq_of_mul_eq_mul_right (by omega) hv
    ·rw [if_neg h3, if_neg h3] at hv; exact hv
   rw [hn, Rj ht]
 ·rintro rfl; exact Ord.cmpV_refl a
def PT (a b : ac) : Bool := Ord.cmpV a b == 0
theorem BM {a b : ac} (ha : Lv a) (hb : Lv b) : PT a b = true ↔ a = b := by
 unfold PT; rw [beq_iff_eq]; exact TU ha hb
theorem ET {a b : ac} (ha : Lv a) (hb : Lv b) : ed aQ a b = some (PT a b) := by
 have key : (if a.kind = b.kind ∧ a.n = b.n ∧ a.scale = b.scale ∧ a.s.toList = b.s.toList then true else false) = PT a b := by
  refine gu ?_
  rw [BM ha hb]
  by_cases h : a.kind = b.kind ∧ a.n = b.n ∧ a.scale = b.scale ∧ a.s.toList = b.s.toList
  ·rw [if_pos h]
   refine ⟨fun _ => ?_, fun _ => rfl⟩
   obtain ⟨k, n, sc, s, it⟩ := a
   obtain ⟨k', n', sc', s', it'⟩ := b
   have hi := ha.it; have hi' := hb.it
   simp only at hi hi' h
   obtain ⟨rfl, rfl, rfl, h⟩ := h
   rw [hi, hi', Rj h]
  ·rw [if_neg h]
   refine ⟨(fun h => by cases h), ?_⟩
   rintro rfl
   exact absurd ⟨rfl, rfl, rfl, rfl⟩ h
 have hi := ha.it; have hi' := hb.it
 rw [C2, ed.eq_2, ← key]
 have ht : ∀ q, iW q a b true = some false := fun q => rfl
 have hf : iW (ed 1152921504606846975) a b ((a.items.length : Int) != (b.items.length : Int)) = some true := by
  rw [hi, hi']
  show lB _ a b aQ 0 = _
  rw [C2, lB, hi]
  rfl
 rw [hf]
 simp only [ht, aJ]
 by_cases h1 : a.kind = b.kind <;> by_cases h2 : a.n = b.n <;> by_cases h3 : a.scale = b.scale <;> by_cases h4 : a.s.toList = b.s.toList <;> simp [h1, h2, h3, h4]
theorem eP {e : Int} {f g : Option Int} (h : e = 0 → f = g) : ee e f = ee e g := by
 unfold ee; by_cases he : e = 0
 ·simp [he, h he]
 ·simp [he]
theorem NO {p : Nat → Bool} {e : Int} (he : e ≠ 0) : ∀ (m i : Nat), fe (fun j => er (p j) e) m i = er (decide (∃ j, j < m ∧ p (i + j) = true)) e
 | 0, i => by simp [fe, er]
 | m + 1, i => by
  rw [fe, NO he m (i + 1)]
  cases hp : p i with
  | true =>
   rw [LX, Kb he, decide_eq_true ⟨0, by omega, by simpa using hp⟩, LX]
  | false =>
   rw [HM, IH]
   congr 1
   refine decide_eq_decide.2 ⟨fun ⟨j, a, b⟩ => ⟨j + 1, by omega, by rw [← b]; congr 1; omega⟩, fun ⟨j, a, b⟩ => ?_⟩
   cases j with
   | zero => rw [Nat.add_zero, hp] at b; cases b
   | succ j => exact ⟨j, by omega, by rw [← b]; congr 1; omega⟩
theorem DB {p : Nat → Bool} {e : Int} (he : e ≠ 0) (n : Nat) : fe (fun j => er (p j) e) n 0 = er (ly p n) e := by
 rw [NO he]
 congr 1
 refine gu ?_
 rw [decide_eq_true_iff, eN]
 simp
def IS (fs : List ae) (id : Int) : Int := (j0 fs id).getD 0
def zR (fs : List ae) (id : Int) : ae := ((o5 fs id).getD (⟨0, ByteArray.empty, false, ⟨0, 0, []⟩⟩, false)).1
def Fb (fs : List ae) (id : Int) : Bool := ((o5 fs id).getD (⟨0, ByteArray.empty, false, ⟨0, 0, []⟩⟩, false)).2
theorem tY {fs : List ae} (hn : fs.length < 1000000000) (id : Int) :
  j0 fs id = some (IS fs id) ∧ o5 fs id = some (zR fs id, Fb fs id) ∧ decide (IS fs id < 0) = !Fb fs id ∧ (Fb fs id = true → at? fs (IS fs id) = some (zR fs id) ∧ zR fs id ∈ fs) := by
 unfold IS zR Fb
 rcases Nh.or fs id with ⟨i, hi⟩ | hi
 ·rw [rh hn hi, Cy hn hi]
  refine ⟨rfl, rfl, ?_, fun _ => ⟨aE hi.lt, iA hi.lt⟩⟩
  show decide ((i : Int) < 0) = false
  simp
 ·obtain ⟨g, hg⟩ := BX hn hi
  rw [vX hn hi, hg]
  exact ⟨rfl, rfl, rfl, fun h => by cases h⟩
def tE (p : ce) (t : am) : am × Int := (gb p t).getD (xc, 0)
theorem Ky (p : ce) {t : am} (h : j3 t < 1000000000) : gb p t = some (tE p t) ∧ gH p t = some (tE p t) ∧ j3 (tE p t).1 < 1000000000 ∧ ((tE p t).2 = 0 → (tE p t).1.kind ≠ 6 ∧ (tE p t).1.kind ≠ 7) := by
 obtain ⟨e, h1, h2, h3⟩ := tt p t h
 unfold tE
 rw [h2, h3]
 refine ⟨rfl, rfl, ?_, ?_⟩
 ·show j3 (IT p t e).1 < _
  unfold IT Q4 xc
  repeat' split
  all_goals first | (rw [pT]; simp only [dK]; omega) | exact h
 ·show (IT p t e).2 = 0 → _
  intro h0
  have k := Sd h1 h0
  have a := k.k6; have b := k.k7
  show (IT p t e).1.kind ≠ 6 ∧ (IT p t e).1.kind ≠ 7
  have hc : (IT p t e).1 = ⟨2, 0, []⟩ ∨ (IT p t e).1 = t ∨ (IT p t e).2 ≠ 0 := by
   unfold IT Q4 xc
   repeat' split
   all_goals simp_all
  rcases hc with hc | hc | hc
  ·rw [hc]; exact ⟨by decide, by decide⟩
  ·rw [hc]; exact ⟨a, b⟩
  ·exact absurd h0 hc
theorem kJ (a b c : Int) : dq a b c = some (decide (b ≤ a ∧ a ≤ c)) := by
 unfold dq qt
 by_cases h1 : b ≤ a <;> by_cases h2 : a ≤ c <;> simp [h1, h2, aJ]
structure Mc (f : aj) : Prop where
 name : f.name.size < 1000000000
 part : f.part.length < 1000000000 ∧ ∀ v ∈ f.part, dQ v < 1000000000
 stats : f.stats.length < 1000000000 ∧ ∀ s ∈ f.stats, dQ s.min < 1000000000 ∧ dQ s.max < 1000000000
structure Ok (f : aj) : Prop where
 part : ∀ v ∈ f.part, Lv v
 stats : ∀ s ∈ f.stats, Lv s.min ∧ Lv s.max
def CZ (f : ae) : Bool := decide (f.type.kind ≠ 6 ∧ f.type.kind ≠ 7)
def F9 (fs : List ae) : List ae := fs.filter CZ
theorem Um (p1 : List ae) (f : aj) (hn : p1.length < 1000000000) : tN p1 f = mN f (F9 p1) := by
 have key : ∀ (m k i : Nat) (l : List ae), i + m = p1.length → m < k → l.length ≤ i → iD p1 f k l (i : Int) = mN f (l ++ F9 (p1.drop i)) := by
  intro m
  induction m with
  | zero =>
   intro k i l hi hk hl
   obtain ⟨k, rfl⟩ := fu hk
   rw [iD, CN (by omega), iF, List.drop_of_length_le (by omega)]
   simp [F9]
  | succ m ih =>
   intro k i l hi hk hl
   obtain ⟨k, rfl⟩ := fu hk
   have h1 : i < p1.length := by omega
   rw [iD, aW h1, iT, aE h1, bS, G2, bS]
   unfold rP
   rw [aq h1 hn, qz h1]
   have hf : F9 (p1[i] :: p1.drop (i + 1)) = if CZ p1[i] then p1[i] :: F9 (p1.drop (i + 1)) else F9 (p1.drop (i + 1)) := by unfold F9; rw [List.filter_cons]
   rw [hf]
   show ak (CZ p1[i]) _ _ = _
   cases hb : CZ p1[i] with
   | true => rw [iT, gP (by omega), ih k (i + 1) _ (by omega) (by omega) (by simp; omega)]; simp
   | false => rw [iF, ih k (i + 1) _ (by omega) (by omega) (by omega)]; simp
 have := key p1.length aQ 0 [] (by omega) (by rw [aU]; omega) (Nat.zero_le _)
 unfold tN
 rw [show ((0 : Nat) : Int) = 0 from rfl] at this
 rw [this, List.nil_append, List.drop_zero]
theorem TW (p1 : List ae) (f : aj) (hn : p1.length < 1000000000) : oj f p1 = j2 f (F9 p1) := by
 have key : ∀ (m k i : Nat) (l : List ae), i + m = p1.length → m < k → l.length ≤ i → fi f p1 k l (i : Int) = j2 f (l ++ F9 (p1.drop i)) := by
  intro m
  induction m with
  | zero =>
   intro k i l hi hk hl
   obtain ⟨k, rfl⟩ := fu hk
   rw [fi, CN (by omega), iF, List.drop_of_length_le (by omega)]
   simp [F9]
  | succ m ih =>
   intro k i l hi hk hl
   obtain ⟨k, rfl⟩ := fu hk
   have h1 : i < p1.length := by omega
   rw [fi, aW h1, iT, aE h1, bS, zFS, bS]
   unfold oe
   rw [aq h1 hn, qz h1]
   have hf : F9 (p1[i] :: p1.drop (i + 1)) = if CZ p1[i] then p1[i] :: F9 (p1.drop (i + 1)) else F9 (p1.drop (i + 1)) := by unfold F9; rw [List.filter_cons]
   rw [hf]
   show ak (CZ p1[i]) _ _ = _
   cases hb : CZ p1[i] with
   | true => rw [iT, gP (by omega), ih k (i + 1) _ (by omega) (by omega) (by simp; omega)]; simp
   | false => rw [iF, ih k (i + 1) _ (by omega) (by omega) (by omega)]; simp
 have := key p1.length aQ 0 [] (by omega) (by rw [aU]; omega) (Nat.zero_le _)
 unfold oj
 rw [show ((0 : Nat) : Int) = 0 from rfl] at this
 rw [this, List.nil_append, List.drop_zero]
theorem QN {fs : List ae} {g : ae} (h : g ∈ F9 fs) : g ∈ fs ∧ g.type.kind ≠ 6 ∧ g.type.kind ≠ 7 := by
 unfold F9 at h
 obtain ⟨h1, h2⟩ := List.mem_filter.1 h
 unfold CZ at h2
 exact ⟨h1, by simpa using h2⟩
noncomputable def TQ (t : am) (s : eM) (rows : Int) : Int :=
 ov (er (!decide (0 ≤ s.nulls ∧ s.nulls ≤ rows)) 3) (ov (ck t s.min) (ov (ck t s.max) (er (!((s.min.kind == 0) == (s.nulls == rows)) || (!((s.max.kind == 0) == (s.nulls == rows)) || decide (0 < Ord.cmpV s.min s.max))) 1)))
noncomputable def GH (f : aj) (l : List ae) : Int :=
 if hl : f.stats.length = l.length then
  ov (er (ly (fun j => match f.stats[j]?, l[j]? with | some s, some x => !(s.id == x.id) | _, _ => false) f.stats.length) 1)
   (fe (fun j => match f.stats[j]?, l[j]? with | some s, some x => TQ x.type s f.rows | _, _ => 0) f.stats.length 0)
 else 1
theorem UX {f : aj} {l : List ae} (hf : Mc f) (hl : ∀ x ∈ l, j3 x.type < 1000000000 ∧ x.type.kind ≠ 6 ∧ x.type.kind ≠ 7) : mN f l = some (GH f l) := by
 unfold mN bN GH
 by_cases h : f.stats.length = l.length
 ·rw [dif_pos h, show ((f.stats.length : Int) != (l.length : Int)) = false by simp [h], iF]
  rw [Ci (L := aC f.stats l) (n := f.stats.length) (p := fun j => match f.stats[j]?, l[j]? with | some s, some x => !(s.id == x.id) | _, _ => false) hf.stats.1
   (fun k => by rw [aC, rW, iF]; rfl)
   (fun k i hi => by
    rw [aC, aW hi, iT, aE hi, aE (show i < l.length by omega), bS, bS, xm, bS, aq hi hf.stats.1, dh hi, dh (show i < l.length by omega)]), bS]
  unfold Il
  rw [Bool.not_not, dH (by decide)]
  rw [hU (L := gp f l) (n := f.stats.length) (fin := some 0) (c := fun j => match f.stats[j]?, l[j]? with | some s, some x => TQ x.type s f.rows | _, _ => 0) hf.stats.1
   (fun k => by rw [gp, rW, iF]; rfl)
   (fun k i hi => by
    have hi' : i < l.length := by omega
    obtain ⟨g1, g2⟩ := hf.stats.2 _ (iA hi)
    obtain ⟨g3, g4, g5⟩ := hl _ (iA hi')
    rw [gp, aW hi, iT, aE hi, bS, kJ, bS, dH (by decide)]
    show ee _ (au (some f.stats[i].min) _) = _
    rw [bS, aE hi', bS, Jz g1 g3, bS, iZ]
    show ee _ (ee _ (au (some f.stats[i].max) _)) = _
    rw [bS, Jz g2 g3, bS, iZ, dh hi, dh hi']
    simp only
    unfold TQ
    rw [← bu, ← bu, ← bu]
    refine eP fun _ => eP fun e1 => eP fun e2 => ?_
    rw [C9 (wV g1 g3 g4 g5 e1) (wV g2 g3 g4 g5 e2), bS]
    unfold o9
    rw [aq hi hf.stats.1]
    generalize (!((f.stats[i].min.kind == 0) == (f.stats[i].nulls == f.rows))) = b1
    generalize (!((f.stats[i].max.kind == 0) == (f.stats[i].nulls == f.rows))) = b2
    generalize decide (0 < Ord.cmpV f.stats[i].min f.stats[i].max) = b3
    cases b1 <;> cases b2 <;> cases b3 <;> rfl), dV, wO]
 ·rw [dif_neg h, show ((f.stats.length : Int) != (l.length : Int)) = true by simp; omega, iT, bS]
  rfl
theorem Uz {f : aj} {l : List ae} (hf : Mc f) (hl : ∀ x ∈ l, j3 x.type < 1000000000 ∧ x.type.kind ≠ 6 ∧ x.type.kind ≠ 7) : j2 f l = some (GH f l) := by
 unfold j2 GH
 by_cases h : f.stats.length = l.length
 ·rw [dif_pos h, show ((l.length : Int) != (f.stats.length : Int)) = false by simp [h], iF]
  have hn : l.length < 1000000000 := by have := hf.stats.1; omega
  rw [hU (L := ip f l) (n := l.length) (fin := oi f l) (c := fun j => er (match f.stats[j]?, l[j]? with | some s, some x => !(s.id == x.id) | _, _ => false) 1) hn
   (fun k => by rw [ip, rW, iF])
   (fun k i hi => by
    have hi' : i < f.stats.length := by omega
    rw [ip, aW hi, iT, aE hi, aE hi', bS, bS, aq hi hn, dH (by decide), dh hi, dh hi']
    simp only
    rw [show (l[i].id != f.stats[i].id) = !(f.stats[i].id == l[i].id) by rw [bne, Bool.beq_comm]])]
  rw [DB (by decide), ← h]
  unfold oi
  rw [hU (L := eK f l) (n := f.stats.length) (fin := some 0) (c := fun j => match f.stats[j]?, l[j]? with | some s, some x => TQ x.type s f.rows | _, _ => 0) hf.stats.1
   (fun k => by rw [eK, rW, iF]; rfl)
   (fun k i hi => by
    have hi' : i < l.length := by omega
    obtain ⟨g1, g2⟩ := hf.stats.2 _ (iA hi)
    obtain ⟨g3, g4, g5⟩ := hl _ (iA hi')
    rw [eK, aW hi, iT, aE hi, bS, om, bS, dH (by decide), aE hi', bS, Om g1 g3, bS, iZ, Om g2 g3, bS, iZ, dh hi, dh hi']
    simp only
    unfold TQ
    rw [← bu, ← bu, ← bu]
    refine eP fun _ => eP fun e1 => eP fun e2 => ?_
    rw [Hl (wV g1 g3 g4 g5 e1) (wV g2 g3 g4 g5 e2), bS]
    unfold lM
    rw [aq hi hf.stats.1]
    generalize (!((f.stats[i].min.kind == 0) == (f.stats[i].nulls == f.rows))) = b1
    generalize (!((f.stats[i].max.kind == 0) == (f.stats[i].nulls == f.rows))) = b2
    generalize decide (0 < Ord.cmpV f.stats[i].min f.stats[i].max) = b3
    cases b1 <;> cases b2 <;> cases b3 <;> rfl), dV, wO]
 ·rw [dif_neg h, show ((l.length : Int) != (f.stats.length : Int)) = true by simp; omega, iT]
theorem RO {f : aj} {l : List ae} (hf : Mc f) (hl : ∀ x ∈ l, j3 x.type < 1000000000 ∧ x.type.kind ≠ 6 ∧ x.type.kind ≠ 7) (h : GH f l = 0) : ∀ s ∈ f.stats, Lv s.min ∧ Lv s.max := by
 unfold GH at h
 by_cases hh : f.stats.length = l.length
 ·rw [dif_pos hh, oT, Nc] at h
  intro s hs
  obtain ⟨i, hi, rfl⟩ := FY.1 hs
  have hi' : i < l.length := by omega
  have := h.2 i (Nat.zero_le _) (by omega)
  rw [dh hi, dh hi'] at this
  simp only [TQ, oT] at this
  obtain ⟨g1, g2⟩ := hf.stats.2 _ (iA hi)
  obtain ⟨g3, g4, g5⟩ := hl _ (iA hi')
  exact ⟨wV g1 g3 g4 g5 this.2.1, wV g2 g3 g4 g5 this.2.2.1⟩
 ·rw [dif_neg hh] at h; cases h
structure Hw (s : al) : Prop where
 files : s.files.length < 1000000000 ∧ ∀ f ∈ s.files, Mc f
 dat : s.dat.length < 1000000000 ∧ ∀ d ∈ s.dat, d.rows.length < 1000000000
 dby : s.dby.length < 1000000000 ∧ ∀ d ∈ s.dby, d.ids.length < 1000000000 ∧ d.keys.length < 1000000000 ∧ ∀ k ∈ d.keys, k.length < 1000000000 ∧ ∀ v ∈ k, dQ v < 1000000000
structure qS (m : aw) : Prop where
 schemas : m.schemas.length < 1000000000 ∧ ∀ s ∈ m.schemas, dK s < 1000000000 - 1
 specs : m.specs.length < 1000000000 ∧ ∀ s ∈ m.specs, s.fields.length < 1000000000
 snaps : m.snapshots.length < 1000000000 ∧ ∀ s ∈ m.snapshots, Hw s
 refs : m.refs.length < 1000000000 ∧ ∀ r ∈ m.refs, r.name.size < 1000000000
 props : m.props.length < 1000000000 ∧ ∀ p ∈ m.props, p.name.size < 1000000000 ∧ p.value.size < 100000000
theorem Ga {Z : Type} {z : Z} {n : Nat} {L : Nat → Int → Option (Int × Z)} {p : Nat → Bool} (h0 : ∀ k, L (k + 1) (n : Int) = some (-1, z)) (h1 : ∀ k i, i < n → L (k + 1) (i : Int) = ak (p i) (some ((i : Int), z)) (L k ((i + 1 : Nat) : Int))) :
  ∀ m k i, i + m = n → m < k → ∃ r, L k (i : Int) = some (r, z) ∧ (decide ((0 : Int) ≤ r) = true ↔ ∃ j, i ≤ j ∧ j < n ∧ p j = true)
 | 0, k, i, hi, hk => by
  obtain ⟨k, rfl⟩ := fu hk
  have : i = n := by omega
  subst this
  exact ⟨-1, h0 k, by simp; intro j h1 h2; omega⟩
 | m + 1, k, i, hi, hk => by
  obtain ⟨k, rfl⟩ := fu hk
  rw [h1 k i (by omega)]
  cases hp : p i with
  | true => exact ⟨i, rfl, by simp; exact ⟨i, gO _, by omega, hp⟩⟩
  | false =>
   obtain ⟨r, e1, e2⟩ := Ga h0 h1 m k (i + 1) (by omega) (by omega)
   refine ⟨r, e1, e2.trans ⟨fun ⟨j, a, b, c⟩ => ⟨j, by omega, b, c⟩, fun ⟨j, a, b, c⟩ => ⟨j, ?_, b, c⟩⟩⟩
   by_cases e : j = i
   ·subst e; rw [hp] at c; cases c
   ·omega
theorem xt {Z : Type} {z : Z} {n : Nat} {L : Nat → Int → Option (Int × Z)} {p : Nat → Bool} (hn : n < 1000000000) (h0 : ∀ k, L (k + 1) (n : Int) = some (-1, z)) (h1 : ∀ k i, i < n → L (k + 1) (i : Int) = ak (p i) (some ((i : Int), z)) (L k ((i + 1 : Nat) : Int))) :
  ∃ r, L aQ (0 : Int) = some (r, z) ∧ decide ((0 : Int) ≤ r) = ly p n := by
 obtain ⟨r, e1, e2⟩ := Ga h0 h1 n aQ 0 (by omega) (by rw [aU]; omega)
 refine ⟨r, e1, gu (e2.trans (Iff.trans ?_ eN.symm))⟩
 exact ⟨fun ⟨j, _, b, c⟩ => ⟨j, b, c⟩, fun ⟨j, b, c⟩ => ⟨j, Nat.zero_le _, b, c⟩⟩
theorem EN {α : Type} {l : List α} {x : Int} (h0 : 0 ≤ x) (h1 : x ≤ (l.length : Int) - 1) : ∃ (h : x.toNat < l.length), at? l x = some l[x.toNat] ∧ l[x.toNat]? = some l[x.toNat] := by
 have h : x.toNat < l.length := by omega
 refine ⟨h, ?_, dh h⟩
 have := aE h
 rwa [show ((x.toNat : Nat) : Int) = x by omega] at this
def rk (fs : List ae) (sp : cm) (j : Nat) : Bool := match sp.fields[j]? with | some x => !Fb fs x.source | none => false
noncomputable def F6 (fs : List ae) (sp : cm) (f : aj) (j : Nat) : Int := match sp.fields[j]?, f.part[j]? with
 | some x, some v => ov (er ((tE x.transform (zR fs x.source).type).2 != 0) 2) (ck (tE x.transform (zR fs x.source).type).1 v)
 | _, _ => 0
noncomputable def DC (fs : List ae) (sp : cm) (f : aj) : Int :=
 ov (er (ly (rk fs sp) sp.fields.length) 9) (ov (er ((f.part.length : Int) != (sp.fields.length : Int)) 1) (ov (fe (F6 fs sp f) sp.fields.length 0) (GH f (F9 fs))))
def LO (m : aw) (f : aj) : Bool :=
 !decide (0 ≤ f.schema ∧ f.schema ≤ (m.schemas.length : Int) - 1) || (!decide (0 ≤ f.spec ∧ f.spec ≤ (m.specs.length : Int) - 1) || (!decide (1 ≤ f.rows ∧ f.rows ≤ 2000) || decide (f.seq < 1)))
noncomputable def A1 (m : aw) (f : aj) : Int :=
 ov (er (!IC f.name) 4) (ov (er (LO m f) 3) (match m.schemas[f.schema.toNat]?, m.specs[f.spec.toNat]? with | some fs, some sp => DC fs sp f | _, _ => 0))
theorem Ln {m : aw} {f : aj} (h : LO m f = false) : ∃ fs sp, at? m.schemas f.schema = some fs ∧ at? m.specs f.spec = some sp ∧ m.schemas[f.schema.toNat]? = some fs ∧ m.specs[f.spec.toNat]? = some sp ∧ fs ∈ m.schemas ∧ sp ∈ m.specs := by
 unfold LO at h
 simp only [Bool.or_eq_false_iff, Bool.not_eq_false', decide_eq_true_eq] at h
 obtain ⟨⟨a1, a2⟩, ⟨b1, b2⟩, _⟩ := h
 obtain ⟨h1, h2, h3⟩ := EN a1 a2
 obtain ⟨g1, g2, g3⟩ := EN b1 b2
 exact ⟨_, _, h2, g2, h3, g3, iA h1, iA g1⟩
theorem Ov {fs : List ae} (h : dK fs < 1000000000 - 1) : ∀ x ∈ F9 fs, j3 x.type < 1000000000 ∧ x.type.kind ≠ 6 ∧ x.type.kind ≠ 7 := by
 intro x hx
 obtain ⟨h1, h2, h3⟩ := QN hx
 have a := jt h1
 have b := iN x
 exact ⟨by omega, h2, h3⟩
theorem DN {fs : List ae} (h : dK fs < 1000000000 - 1) {g : ae} (hg : g ∈ fs) : j3 g.type < 1000000000 := by
 have a := jt hg
 have b := iN g
 omega
theorem Sb {fs : List ae} {sp : cm} (hn : fs.length < 1000000000) (hs : sp.fields.length < 1000000000) : bj sp.fields fs = some (ly (rk fs sp) sp.fields.length, fs) := by
 unfold bj cw
 obtain ⟨r, r1, r2⟩ := xt (z := fs) (L := fun k i => aK sp.fields k fs i) (n := sp.fields.length) (p := rk fs sp) hs
  (fun k => by rw [aK, rW, iF]; rfl)
  (fun k i hi => by
   obtain ⟨t1, _, t3, _⟩ := tY hn sp.fields[i].source
   rw [aK, aW hi, iT, aE hi, bS, yJ, t1, bS, bS, t3, aq hi hs]
   unfold rk
   rw [dh hi])
 have r1 : aK sp.fields aQ fs (0 : Int) = some (r, fs) := r1
 rw [r1, bS]
 show some (decide (0 ≤ r), fs) = _
 rw [r2]
theorem Tj {fs : List ae} {sp : cm} {f : aj} (hf : Mc f) (hfs : dK fs < 1000000000 - 1) (hs : sp.fields.length < 1000000000) :
  (au (bj sp.fields fs) fun r5 => ak r5.1 (some (9 : Int)) (ak ((f.part.length : Int) != (sp.fields.length : Int)) (some (1 : Int)) (kC f sp r5 aQ (0 : Int)))) = some (DC fs sp f) := by
 have hn : fs.length < 1000000000 := by have := cO fs; omega
 rw [Sb hn hs, bS]
 unfold DC
 show ak (ly (rk fs sp) sp.fields.length) _ _ = _
 rw [dH (by decide), dH (by decide), ← dV, ← bu, ← bu, ← bu]
 refine eP fun e1 => eP fun e2 => ?_
 have hl : ∀ (i : Nat) (h : i < sp.fields.length), Fb fs sp.fields[i].source = true := fun i h => by
  rw [CU (by decide), ← Bool.not_eq_true, eN] at e1
  cases hb : Fb fs sp.fields[i].source with
  | true => rfl
  | false => exact absurd ⟨i, h, by unfold rk; rw [dh h]; simp [hb]⟩ e1
 have hp : f.part.length = sp.fields.length := by
  rw [CU (by decide), bne_eq_false_iff_eq] at e2; omega
 rw [hU (L := kC f sp (ly (rk fs sp) sp.fields.length, fs)) (n := sp.fields.length) (fin := some (GH f (F9 fs))) (c := F6 fs sp f) hs
  (fun k => by
   rw [kC, rW, iF]
   unfold xk
   show au (tN fs f) _ = _
   rw [Um fs f hn, UX hf (Ov hfs), bS])
  (fun k i hi => by
   obtain ⟨t1, _, t3, t4⟩ := tY hn sp.fields[i].source
   obtain ⟨t5, t6⟩ := t4 (hl i hi)
   obtain ⟨u1, _, u3, u4⟩ := Ky sp.fields[i].transform (DN hfs t6)
   have hi' : i < f.part.length := by omega
   rw [kC, aW hi, iT, aE hi, bS]
   show au (j0 fs _) _ = _
   rw [t1, bS]
   show au (at? fs _) _ = _
   rw [t5, bS, u1, bS, dH (by decide), aE hi', bS, Jz (hf.part.2 _ (iA hi')) u3, bS, iZ, aq hi hs, bu]
   unfold F6
   rw [dh hi, dh hi'])]
 rw [dV]
theorem R3 {fs : List ae} {sp : cm} {f : aj} (hf : Mc f) (hfs : dK fs < 1000000000 - 1) (hs : sp.fields.length < 1000000000) :
  gf f fs sp aQ (0 : Int) = some (DC fs sp f) := by
 have hn : fs.length < 1000000000 := by have := cO fs; omega
 unfold DC
 rw [← dV, ← bu, ← bu, ← bu]
 rw [hU (L := gf f fs sp) (n := sp.fields.length) (fin := oq f fs sp) (c := fun j => er (rk fs sp j) 9) hs
  (fun k => by rw [gf, rW, iF])
  (fun k i hi => by
   obtain ⟨_, t2, _, _⟩ := tY hn sp.fields[i].source
   rw [gf, aW hi, iT, aE hi, bS, t2, bS, dH (by decide), aq hi hs]
   unfold rk
   rw [dh hi])]
 rw [DB (by decide)]
 refine eP fun e1 => ?_
 have hl : ∀ (i : Nat) (h : i < sp.fields.length), Fb fs sp.fields[i].source = true := fun i h => by
  rw [CU (by decide), ← Bool.not_eq_true, eN] at e1
  cases hb : Fb fs sp.fields[i].source with
  | true => rfl
  | false => exact absurd ⟨i, h, by unfold rk; rw [dh h]; simp [hb]⟩ e1
 unfold oq
 rw [dH (by decide)]
 refine eP fun e2 => ?_
 have hp : f.part.length = sp.fields.length := by
  rw [CU (by decide), bne_eq_false_iff_eq] at e2; omega
 rw [hU (L := iB f fs sp) (n := sp.fields.length) (fin := some (GH f (F9 fs))) (c := F6 fs sp f) hs
  (fun k => by rw [iB, rW, iF, TW fs f hn, Uz hf (Ov hfs)])
  (fun k i hi => by
   obtain ⟨_, t2, _, t4⟩ := tY hn sp.fields[i].source
   obtain ⟨t5, t6⟩ := t4 (hl i hi)
   obtain ⟨_, u2, u3, u4⟩ := Ky sp.fields[i].transform (DN hfs t6)
   have hi' : i < f.part.length := by omega
   rw [iB, aW hi, iT, aE hi, bS, t2, bS, u2, bS, dH (by decide), aE hi', bS, Om (hf.part.2 _ (iA hi')) u3, bS, iZ, aq hi hs, bu]
   unfold F6
   rw [dh hi, dh hi'])]
 rw [dV]
theorem SZ {m : aw} {f : aj} (hm : qS m) (hf : Mc f) : yG m f = some (A1 m f) := by
 unfold yG A1
 rw [V4 _ hf.name, bS, dH (by decide), ← dV, ← bu, ← bu]
 refine eP fun _ => ?_
 have hj : ∀ x, x = LO m f → l7 m f x = ee (er (LO m f) 3) (ee (match m.schemas[f.schema.toNat]?, m.specs[f.spec.toNat]? with | some fs, some sp => DC fs sp f | _, _ => 0) (some 0)) := by
  rintro x rfl
  unfold l7
  rw [dH (by decide)]
  refine eP fun e => ?_
  obtain ⟨fs, sp, h1, h2, h3, h4, h5, h6⟩ := Ln ((CU (by decide)).1 e)
  rw [h1, h2, h3, h4, bS, bS, Tj hf (hm.schemas.2 _ h5) (hm.specs.2 _ h6), dV]
 rw [kJ, bS, lG hm.schemas.1]
 have hr : LO m f = LO m f := rfl
 conv at hr => rhs; unfold LO
 cases a : decide (0 ≤ f.schema ∧ f.schema ≤ (m.schemas.length : Int) - 1) with
 | false => rw [a] at hr; rw [Bool.not_false, iT]; exact hj true (by rw [hr]; rfl)
 | true =>
  rw [a] at hr
  rw [Bool.not_true, iF, kJ, bS, lG hm.specs.1]
  cases b : decide (0 ≤ f.spec ∧ f.spec ≤ (m.specs.length : Int) - 1) with
  | false => rw [b] at hr; rw [Bool.not_false, iT]; exact hj true (by rw [hr]; rfl)
  | true =>
   rw [b] at hr
   rw [Bool.not_true, iF, kJ, bS]
   cases c : decide (1 ≤ f.rows ∧ f.rows ≤ 2000) with
   | false => rw [c] at hr; rw [Bool.not_false, iT]; exact hj true (by rw [hr]; rfl)
   | true => rw [c] at hr; rw [Bool.not_true, iF]; exact hj _ (by rw [hr]; rfl)
theorem Tl {m : aw} {f : aj} (hm : qS m) (hf : Mc f) : rB m f = some (A1 m f) := by
 unfold rB A1
 rw [VJ _ hf.name, bS, dH (by decide), ← dV, ← bu, ← bu]
 refine eP fun _ => ?_
 have hj : ∀ x, x = LO m f → iI m f x = ee (er (LO m f) 3) (ee (match m.schemas[f.schema.toNat]?, m.specs[f.spec.toNat]? with | some fs, some sp => DC fs sp f | _, _ => 0) (some 0)) := by
  rintro x rfl
  unfold iI
  rw [dH (by decide)]
  refine eP fun e => ?_
  obtain ⟨fs, sp, h1, h2, h3, h4, h5, h6⟩ := Ln ((CU (by decide)).1 e)
  rw [h1, h2, h3, h4, bS, bS, R3 hf (hm.schemas.2 _ h5) (hm.specs.2 _ h6), dV]
 rw [om, bS, lG hm.schemas.1]
 have hr : LO m f = LO m f := rfl
 conv at hr => rhs; unfold LO
 cases a : decide (0 ≤ f.schema ∧ f.schema ≤ (m.schemas.length : Int) - 1) with
 | false => rw [a] at hr; rw [Bool.not_false, iT]; exact hj true (by rw [hr]; rfl)
 | true =>
  rw [a] at hr
  rw [Bool.not_true, iF, om, bS, lG hm.specs.1]
  cases b : decide (0 ≤ f.spec ∧ f.spec ≤ (m.specs.length : Int) - 1) with
  | false => rw [b] at hr; rw [Bool.not_false, iT]; exact hj true (by rw [hr]; rfl)
  | true =>
   rw [b] at hr
   rw [Bool.not_true, iF, om, bS]
   cases c : decide (1 ≤ f.rows ∧ f.rows ≤ 2000) with
   | false => rw [c] at hr; rw [Bool.not_false, iT]; exact hj true (by rw [hr]; rfl)
   | true => rw [c] at hr; rw [Bool.not_true, iF]; exact hj _ (by rw [hr]; rfl)
theorem QF {m : aw} {f : aj} (hm : qS m) (hf : Mc f) (h : A1 m f = 0) : Ok f := by
 unfold A1 at h
 rw [oT, oT] at h
 obtain ⟨_, h2, h3⟩ := h
 obtain ⟨fs, sp, _, _, g3, g4, g5, g6⟩ := Ln ((CU (by decide)).1 h2)
 rw [g3, g4] at h3
 simp only at h3
 unfold DC at h3
 rw [oT, oT, oT] at h3
 obtain ⟨e1, e2, e3, e4⟩ := h3
 have hfs := hm.schemas.2 _ g5
 have hn : fs.length < 1000000000 := by have := cO fs; omega
 refine ⟨fun v hv => ?_, RO hf (Ov hfs) e4⟩
 have hp : f.part.length = sp.fields.length := by
  rw [CU (by decide), bne_eq_false_iff_eq] at e2; omega
 obtain ⟨i, hi', rfl⟩ := FY.1 hv
 have hi : i < sp.fields.length := by omega
 have hb : Fb fs sp.fields[i].source = true := by
  rw [CU (by decide), ← Bool.not_eq_true, eN] at e1
  cases hb : Fb fs sp.fields[i].source with
  | true => rfl
  | false => exact absurd ⟨i, hi, by unfold rk; rw [dh hi]; simp [hb]⟩ e1
 obtain ⟨_, _, _, t4⟩ := tY hn sp.fields[i].source
 obtain ⟨t5, t6⟩ := t4 hb
 obtain ⟨_, _, u3, u4⟩ := Ky sp.fields[i].transform (DN hfs t6)
 have := Nc.1 e3 i (Nat.zero_le _) (by omega)
 unfold F6 at this
 rw [dh hi, dh hi'] at this
 simp only [oT] at this
 obtain ⟨k1, k2⟩ := u4 (by have := (CU (by decide)).1 this.1; rwa [bne_eq_false_iff_eq] at this)
 exact wV (hf.part.2 _ hv) u3 k1 k2 this.2
end Go.Proofs.YtfnmbpecdjncfaaGreatDoor
namespace Go.SX.Cal
open Go Go.Lib
theorem Lk : ∀ a : List UInt8, compareBytes a a = 0
 | [] => rfl
 | x :: a => by
  rw [compareBytes, if_neg (by simp [UInt8.lt_irrefl]), if_neg (by simp [UInt8.lt_irrefl])]
  exact Lk a
theorem Lp : ∀ a b : List UInt8, compareBytes a b = 0 → a = b
 | [], [], _ => rfl
 | [], _ :: _, h => by simp [compareBytes] at h
 | _ :: _, [], h => by simp [compareBytes] at h
 | x :: a, y :: b, h => by
  rw [compareBytes] at h
  split at h
  ·simp at h
  ·split at h
   ·simp at h
   ·rename_i h1 h2
    rw [Lp a b h, UInt8.le_antisymm (UInt8.not_lt.1 h2) (UInt8.not_lt.1 h1)]
theorem LC : ∀ a b : List UInt8, compareBytes a b = - compareBytes b a
 | [], [] => rfl
 | [], _ :: _ => rfl
 | _ :: _, [] => rfl
 | x :: a, y :: b => by
  rw [compareBytes, compareBytes]
  by_cases h1 : x < y
  ·rw [if_pos h1, if_neg (UInt8.lt_asymm h1), if_pos h1]
  ·rw [if_neg h1]
   by_cases h2 : y < x
   ·rw [if_pos h2, if_pos h2]; rfl
   ·rw [if_neg h2, if_neg h2, if_neg h1]; exact LC a b
theorem EL : ∀ a b c : List UInt8, compareBytes a b < 0 → compareBytes b c < 0 → compareBytes a c < 0
 | [], [], _, h, _ => by simp [compareBytes] at h
 | [], _ :: _, [], _, h => by simp [compareBytes] at h
 | [], _ :: _, _ :: _, _, _ => by simp [compareBytes]
 | _ :: _, [], _, h, _ => by simp [compareBytes] at h
 | _ :: _, _ :: _, [], _, h => by simp [compareBytes] at h
 | x :: a, y :: b, z :: c, h, k => by
  rw [compareBytes] at h k ⊢
  by_cases h1 : x < y
  ·by_cases h2 : y < z
   ·rw [if_pos (UInt8.lt_trans h1 h2)]; decide
   ·rw [if_neg h2] at k
    by_cases h3 : z < y
    ·rw [if_pos h3] at k; simp at k
    ·have : y = z := UInt8.le_antisymm (UInt8.not_lt.1 h3) (UInt8.not_lt.1 h2)
     subst this
     rw [if_pos h1]; decide
  ·rw [if_neg h1] at h
   by_cases h4 : y < x
   ·rw [if_pos h4] at h; simp at h
   ·rw [if_neg h4] at h
    have : x = y := UInt8.le_antisymm (UInt8.not_lt.1 h4) (UInt8.not_lt.1 h1)
    subst this
    by_cases h2 : x < z
    ·rw [if_pos h2]; decide
    ·rw [if_neg h2] at k ⊢
     by_cases h3 : z < x
     ·rw [if_pos h3] at k; simp at k
     ·rw [if_neg h3] at k ⊢
      exact EL a b c h k
def vA (a b : ByteArray) : Int := compareBytes a.data.toList b.data.toList
theorem sg (a : ByteArray) : vA a a = 0 := Lk _
theorem CP {a b : ByteArray} (h : vA a b = 0) : a = b := by
 have := Lp _ _ h
 exact ByteArray.ext (Array.toList_inj.1 this)
theorem yr {a b c : ByteArray} (h : vA a b < 0) (k : vA b c < 0) : vA a c < 0 := EL _ _ _ h k
end Go.SX.Cal
namespace Go.Proofs.YtfnmbpecdjncfaaGreatDoor
open Go Go.SX Go.SX.Cal
open Go.IntKind (i64)
theorem IF {n : Nat} {L : Nat → Int → Option Int} {fin : Option Int} {c : Nat → Int} (h0 : (∀ j, j < n → c j = 0) → ∀ k, L (k + 1) (n : Int) = fin)
  (h1 : ∀ k i, i < n → (∀ j, j < i → c j = 0) → L (k + 1) (i : Int) = ee (c i) (L k ((i + 1 : Nat) : Int))) :
  ∀ m k i, i + m = n → m < k → (∀ j, j < i → c j = 0) → L k (i : Int) = ee (fe c m i) fin
 | 0, k, i, hi, hk, hp => by
  obtain ⟨k, rfl⟩ := fu hk
  have : i = n := by omega
  subst this
  rw [h0 hp]; rfl
 | m + 1, k, i, hi, hk, hp => by
  obtain ⟨k, rfl⟩ := fu hk
  rw [h1 k i (by omega) hp, fe, ← bu]
  refine eP fun e => ?_
  exact IF h0 h1 m k (i + 1) (by omega) (by omega) fun j hj => by
   by_cases h : j = i
   ·subst h; exact e
   ·exact hp j (by omega)
theorem KE {n : Nat} {L : Nat → Int → Option Int} {fin : Option Int} {c : Nat → Int} (hn : n < 1000000000) (h0 : (∀ j, j < n → c j = 0) → ∀ k, L (k + 1) (n : Int) = fin)
  (h1 : ∀ k i, i < n → (∀ j, j < i → c j = 0) → L (k + 1) (i : Int) = ee (c i) (L k ((i + 1 : Nat) : Int))) : L aQ (0 : Int) = ee (fe c n 0) fin :=
 IF h0 h1 n aQ 0 (by omega) (by rw [aU]; omega) fun j hj => by omega
theorem HA {n lo : Nat} {L : Nat → Int → Option Int} {fin : Option Int} {c : Nat → Int} (h0 : ∀ k, L (k + 1) (n : Int) = fin) (h1 : ∀ k i, lo ≤ i → i < n → L (k + 1) (i : Int) = ee (c i) (L k ((i + 1 : Nat) : Int))) :
  ∀ m k i, i + m = n → m < k → lo ≤ i → L k (i : Int) = ee (fe c m i) fin
 | 0, k, i, hi, hk, _ => by
  obtain ⟨k, rfl⟩ := fu hk
  have : i = n := by omega
  subst this
  rw [h0]; rfl
 | m + 1, k, i, hi, hk, hl => by
  obtain ⟨k, rfl⟩ := fu hk
  rw [h1 k i hl (by omega), HA h0 h1 m k (i + 1) (by omega) (by omega) (by omega), bu]; rfl
def FI (l : List Int) (j : Nat) : Bool := match l[j]?, l[j - 1]? with | some a, some b => decide (a ≤ b) | _, _ => false
def On (l : List Int) : Bool := decide (∃ j, j < l.length - 1 ∧ FI l (1 + j) = true)
def BR (l : List Int) : Bool := decide (0 < l.length) && !On l
theorem H6 {l : List Int} (hn : l.length < 1000000000) {L : Nat → Int → Option Bool} (hz : l.length = 0 → ∀ k, L (k + 1) 1 = some false) (h0 : 0 < l.length → ∀ k, L (k + 1) (l.length : Int) = some true)
  (h1 : ∀ k i, 0 < i → i < l.length → L (k + 1) (i : Int) = ak (FI l i) (some false) (L k ((i + 1 : Nat) : Int))) : L aQ (1 : Int) = some (BR l) := by
 unfold BR
 by_cases hl : l.length = 0
 ·rw [C2, hz hl]; simp [hl]
 ·have key : ∀ m k i, i + m = l.length → 0 < i → m < k → L k (i : Int) = some (!decide (∃ j, j < m ∧ FI l (i + j) = true)) := by
   intro m
   induction m with
   | zero =>
    intro k i hi hp hk
    obtain ⟨k, rfl⟩ := fu hk
    have : i = l.length := by omega
    rw [this, h0 (by omega)]; simp
   | succ m ih =>
    intro k i hi hp hk
    obtain ⟨k, rfl⟩ := fu hk
    rw [h1 k i hp (by omega)]
    cases hd : FI l i with
    | true => rw [iT, decide_eq_true ⟨0, by omega, by simpa using hd⟩]; rfl
    | false =>
     rw [iF, ih k (i + 1) (by omega) (by omega) (by omega)]
     congr 2
     refine decide_eq_decide.2 ⟨fun ⟨j, a, b⟩ => ⟨j + 1, by omega, by rw [← b]; congr 1; omega⟩, fun ⟨j, a, b⟩ => ?_⟩
     cases j with
     | zero => rw [Nat.add_zero, hd] at b; cases b
     | succ j => exact ⟨j, by omega, by rw [← b]; congr 1; omega⟩
  have := key (l.length - 1) aQ 1 (by omega) (by omega) (by rw [aU]; omega)
  have h2 : L aQ (1 : Int) = _ := this
  rw [h2, decide_eq_true (show 0 < l.length by omega), Bool.true_and]
  rfl
theorem El {l : List Int} {i : Nat} (hi : i < l.length) (h0 : 0 < i) : FI l i = decide (l[i] ≤ l[i - 1]) := by
 unfold FI
 rw [dh hi, dh (show i - 1 < l.length by omega)]
theorem Pb {l : List Int} (hn : l.length < 1000000000) : pD l = some (BR l) := by
 unfold pD
 exact H6 hn (L := iU l)
  (fun h k => by
   rw [iU, h]
   show some (decide ((0 : Int) < (l.length : Int))) = _
   rw [h]; rfl)
  (fun h k => by
   rw [iU, rW, iF]
   show some (decide ((0 : Int) < (l.length : Int))) = _
   rw [decide_eq_true (by omega)])
  (fun k i h0 hi => by rw [iU, aW hi, iT, aE hi, bS, qm hi h0 hn, bS, El hi h0, aq hi hn])
theorem S0 {l : List Int} (hn : l.length < 1000000000) : nN l = some (BR l) := by
 unfold nN
 exact H6 hn (L := fE l)
  (fun h k => by
   rw [fE, h]
   show some (decide ((0 : Int) < (l.length : Int))) = _
   rw [h]; rfl)
  (fun h k => by
   rw [fE, rW, iF]
   show some (decide ((0 : Int) < (l.length : Int))) = _
   rw [decide_eq_true (by omega)])
  (fun k i h0 hi => by rw [fE, aW hi, iT, aE hi, bS, qm hi h0 hn, bS, El hi h0, aq hi hn])
def Ht (fs : List ae) (id : Int) : Bool := Fb fs id && CZ (zR fs id)
theorem Mm {fs : List ae} (hn : fs.length < 1000000000) (id : Int) : ∃ t, nW fs id = some (t, Ht fs id) ∧ (Ht fs id = true → t = (zR fs id).type ∧ zR fs id ∈ fs) := by
 obtain ⟨t1, _, t3, t4⟩ := tY hn id
 unfold nW
 rw [t1, bS, t3]
 unfold Ht
 cases hb : Fb fs id with
 | false => exact ⟨⟨0, 0, []⟩, rfl, fun h => by cases h⟩
 | true =>
  obtain ⟨t5, t6⟩ := t4 hb
  rw [Bool.not_true, iF, t5, bS, G2, bS]
  unfold po
  show ∃ t, ak (!CZ (zR fs id)) _ _ = _ ∧ _
  cases hf : CZ (zR fs id) with
  | false => exact ⟨⟨0, 0, []⟩, rfl, fun h => by cases h⟩
  | true => rw [Bool.not_true, iF, t5, bS]; exact ⟨_, rfl, fun _ => ⟨rfl, t6⟩⟩
theorem S9 {fs : List ae} (hn : fs.length < 1000000000) (id : Int) : pg fs id = some (zR fs id, Ht fs id) := by
 obtain ⟨_, t2, _, _⟩ := tY hn id
 unfold pg Ht
 rw [t2, bS]
 show ak (Fb fs id) _ _ = _
 cases hb : Fb fs id with
 | false => rfl
 | true => rw [iT]; show au (fm (zR fs id).type.kind) _ = _; rw [zFS, bS]; rfl
theorem Kw : ∀ {l : List ac}, (∀ v ∈ l, Lv v) → Ord.wfL l ∧ ig l ≤ 257 * l.length
 | [], _ => by simp [Ord.wfL, ig]
 | x :: l, h => by
  obtain ⟨a, b⟩ := Kw (l := l) fun v hv => h v (by simp [hv])
  have hx := h x (by simp)
  have hs := hx.size
  simp only [Ord.wfL, ig, List.length_cons]
  exact ⟨⟨hx.wf, a⟩, by omega⟩
theorem SV {a b : List ac} (ha : ∀ v ∈ a, Lv v) (hb : ∀ v ∈ b, Lv v) (hn : a.length < 1000000000) : n9 a b = some (Ord.cmpL a b) := by
 unfold n9
 rw [C2, az]
 have hc : ∀ x ∈ a, ∀ y ∈ b, dS 1152921504606846975 x y = some (Ord.cmpV x y) := fun x hx y hy => by
  have h := (ha x hx).size
  exact Ord.compare_eq 257 x y _ h (by omega) (ha x hx).wf (hb y hy).wf (by omega)
 have := Ord.cmpf_loop (dS 1152921504606846975) a b (by omega) hc aQ 0 (Nat.zero_le _) (Nat.zero_le _) (by rw [aU]; omega)
 rw [show ((0 : Nat) : Int) = 0 from rfl, List.drop_zero, List.drop_zero] at this
 rw [this, bS]
theorem Sj {a b : List ac} (ha : ∀ v ∈ a, Lv v) (hb : ∀ v ∈ b, Lv v) (hn : a.length < 1000000000) : pe a b = some (Ord.cmpL a b) := by
 unfold pe
 obtain ⟨a1, a2⟩ := Kw ha
 obtain ⟨b1, b2⟩ := Kw hb
 have hw : ∀ {l : List ac}, Ord.wfL l → Ord.wfV ⟨6, 0, 0, ByteArray.empty, l⟩ := fun h => by
  simp only [Ord.wfV, Ord.i64]
  exact ⟨⟨by omega, by omega⟩, ⟨by omega, by omega⟩, ⟨by omega, by omega⟩, h⟩
 have hz : dQ ⟨6, 0, 0, ByteArray.empty, a⟩ = ig a + 1 := by simp only [dQ]; rw [EO]; omega
 rw [Ord.rcompareV_eq (ig a + 1) _ _ aQ (by rw [hz]; exact gO _) (by rw [hz]; omega) (hw a1) (hw b1) (by rw [aU]; omega), bS]
 congr 1
 simp only [Ord.cmpV, Ord.c3_self, Ord.or_zero]
 rw [if_neg (by decide), show Ord.cS ByteArray.empty ByteArray.empty = 0 from Ux.2 rfl, Ord.or_zero]
structure N1 (ids : List Int) (keys : List (List ac)) : Prop where
 nid : ids.length < 1000000000
 nkey : keys.length < 1000000000
 key : ∀ k ∈ keys, k.length < 1000000000 ∧ ∀ v ∈ k, dQ v < 1000000000
noncomputable def FF (fs : List ae) (ids : List Int) (k : List ac) (j : Nat) : Int := match ids[j]?, k[j]? with
 | some id, some v => ck (zR fs id).type v
 | _, _ => 0
noncomputable def Ks (fs : List ae) (ids : List Int) (keys : List (List ac)) (j : Nat) : Int := match keys[j]? with
 | some k => ov (er ((k.length : Int) != (ids.length : Int)) 1) (ov (fe (FF fs ids k) ids.length 0) (er (decide (0 < j) && (match keys[j - 1]? with | some p => decide (0 ≤ Ord.cmpL p k) | none => false)) 1))
 | none => 0
def B6 (fs : List ae) (ids : List Int) (j : Nat) : Bool := match ids[j]? with | some id => !Ht fs id | none => false
noncomputable def DT (fs : List ae) (ids : List Int) (keys : List (List ac)) : Int :=
 ov (er ((ids.length : Int) == 0) 9) (ov (er (ly (B6 fs ids) ids.length) 9) (ov (er (On ids) 1) (ov (er (decide ((200 : Int) < (keys.length : Int))) 7) (ov (er ((keys.length : Int) == 0) 9) (fe (Ks fs ids keys) keys.length 0)))))
theorem N7 {fs : List ae} {ids : List Int} (h : er (ly (B6 fs ids) ids.length) 9 = 0) {i : Nat} (hi : i < ids.length) : Ht fs ids[i] = true := by
 rw [CU (by decide), ← Bool.not_eq_true, eN] at h
 cases hb : Ht fs ids[i] with
 | true => rfl
 | false => exact absurd ⟨i, hi, by unfold B6; rw [dh hi]; simp [hb]⟩ h
theorem Er {fs : List ae} {ids : List Int} {keys : List (List ac)} (hz : N1 ids keys) (hfs : dK fs < 1000000000 - 1) (hl : ∀ (i : Nat) (h : i < ids.length), Ht fs ids[i] = true) {j : Nat} (hj : j < keys.length)
  (h1 : er ((keys[j].length : Int) != (ids.length : Int)) 1 = 0) (h2 : fe (FF fs ids keys[j]) ids.length 0 = 0) : ∀ v ∈ keys[j], Lv v := by
 have hn : fs.length < 1000000000 := by have := cO fs; omega
 have hp : keys[j].length = ids.length := by rw [CU (by decide), bne_eq_false_iff_eq] at h1; omega
 intro v hv
 obtain ⟨i, hi, rfl⟩ := FY.1 hv
 have hi' : i < ids.length := by omega
 have := Nc.1 h2 i (Nat.zero_le _) (by omega)
 unfold FF at this
 rw [dh hi', dh hi] at this
 simp only at this
 obtain ⟨t, _, t2⟩ := Mm hn ids[i]
 obtain ⟨_, t3⟩ := t2 (hl i hi')
 have hlf := hl i hi'
 unfold Ht CZ at hlf
 simp only [gZ, decide_eq_true_eq] at hlf
 exact wV ((hz.key _ (iA hj)).2 _ hv) (DN hfs t3) hlf.2.1 hlf.2.2 this
theorem wg {fs : List ae} {ids : List Int} {keys : List (List ac)} {j : Nat} (hj : j < keys.length) : Ks fs ids keys j = ov (er ((keys[j].length : Int) != (ids.length : Int)) 1) (ov (fe (FF fs ids keys[j]) ids.length 0) (er (decide (0 < j) && (match keys[j - 1]? with | some p => decide (0 ≤ Ord.cmpL p keys[j]) | none => false)) 1)) := by
 unfold Ks
 rw [dh hj]
theorem Qb {d : bc} {fs : List ae} (hz : N1 d.ids d.keys) (hfs : dK fs < 1000000000 - 1) (hl : ∀ (i : Nat) (h : i < d.ids.length), Ht fs d.ids[i] = true) : gL d true fs aQ (0 : Int) = some (fe (Ks fs d.ids d.keys) d.keys.length 0) := by
 have hn : fs.length < 1000000000 := by have := cO fs; omega
 rw [KE (L := gL d true fs) (n := d.keys.length) (fin := some 0) (c := Ks fs d.ids d.keys) hz.nkey
  (fun _ k => by rw [gL, rW, iF]; rfl)
  (fun k i hi hp => by
   obtain ⟨z1, z2⟩ := hz.key _ (iA hi)
   rw [gL, aW hi, iT, aE hi, bS, dH (by decide), wg hi, ← bu, ← bu]
   refine eP fun e1 => ?_
   have hp' : d.keys[i].length = d.ids.length := by rw [CU (by decide), bne_eq_false_iff_eq] at e1; omega
   rw [hU (L := oL (gL d true fs k) d true fs (i : Int) d.keys[i]) (n := d.ids.length) (fin := wU (gL d true fs k) d true (i : Int) d.keys[i]) (c := FF fs d.ids d.keys[i]) hz.nid
    (fun q => by rw [oL, hp', rW, iF])
    (fun q j hj => by
     have hj' : j < d.keys[i].length := by omega
     obtain ⟨t, u1, u2⟩ := Mm hn d.ids[j]
     obtain ⟨rfl, u3⟩ := u2 (hl j hj)
     rw [oL, aW hj', iT, aE hj', bS, aE hj, bS, u1, bS]
     show au (gQ (zR fs d.ids[j]).type _) _ = _
     rw [Jz (z2 _ (iA hj')) (DN hfs u3), bS, iZ, aq hj hz.nid]
     unfold FF
     rw [dh hj, dh hj'])]
   refine eP fun e2 => ?_
   have hk := Er hz hfs hl hi e1 e2
   unfold wU tH
   rw [iT, aq hi hz.nkey]
   by_cases h0 : 0 < i
   ·have hi1 : i - 1 < d.keys.length := by omega
    have hprev := hp (i - 1) (by omega)
    rw [wg hi1, oT, oT] at hprev
    have hk' := Er hz hfs hl hi1 hprev.1 hprev.2.1
    rw [decide_eq_true (show (0 : Int) < (i : Int) by omega), iT, qm hi h0 hz.nkey, bS, SV hk' hk (hz.key _ (iA hi1)).1, bS, dH (by decide), decide_eq_true h0, dh hi1, Bool.true_and]
   ·rw [decide_eq_false (show ¬ (0 : Int) < (i : Int) by omega), decide_eq_false h0]; rfl)]
 exact dV _
theorem NM {ids : List Int} {keys : List (List ac)} {fs : List ae} (hz : N1 ids keys) (hfs : dK fs < 1000000000 - 1) (hl : ∀ (i : Nat) (h : i < ids.length), Ht fs ids[i] = true) : cN fs ids keys true aQ (0 : Int) = some (fe (Ks fs ids keys) keys.length 0) := by
 have hn : fs.length < 1000000000 := by have := cO fs; omega
 rw [KE (L := cN fs ids keys true) (n := keys.length) (fin := some 0) (c := Ks fs ids keys) hz.nkey
  (fun _ k => by rw [cN, rW, iF]; rfl)
  (fun k i hi hp => by
   obtain ⟨z1, z2⟩ := hz.key _ (iA hi)
   rw [cN, aW hi, iT, aE hi, bS, dH (by decide), wg hi, ← bu, ← bu]
   refine eP fun e1 => ?_
   have hp' : keys[i].length = ids.length := by rw [CU (by decide), bne_eq_false_iff_eq] at e1; omega
   rw [hU (L := iw (cN fs ids keys true k) fs ids keys true (i : Int) keys[i]) (n := ids.length) (fin := od (cN fs ids keys true k) keys true (i : Int) keys[i]) (c := FF fs ids keys[i]) hz.nid
    (fun q => by rw [iw, rW, iF])
    (fun q j hj => by
     have hj' : j < keys[i].length := by omega
     obtain ⟨t, u1, u2⟩ := Mm hn ids[j]
     obtain ⟨rfl, u3⟩ := u2 (hl j hj)
     rw [iw, aW hj, iT, aE hj, bS, S9 hn, bS, aE hj', bS]
     show au (l4 (zR fs ids[j]).type _) _ = _
     rw [Om (z2 _ (iA hj')) (DN hfs u3), bS, iZ, aq hj hz.nid]
     unfold FF
     rw [dh hj, dh hj'])]
   refine eP fun e2 => ?_
   have hk := Er hz hfs hl hi e1 e2
   unfold od lV
   rw [iT, aq hi hz.nkey]
   by_cases h0 : 0 < i
   ·have hi1 : i - 1 < keys.length := by omega
    have hprev := hp (i - 1) (by omega)
    rw [wg hi1, oT, oT] at hprev
    have hk' := Er hz hfs hl hi1 hprev.1 hprev.2.1
    rw [decide_eq_true (show (0 : Int) < (i : Int) by omega), iT, qm hi h0 hz.nkey, bS, Sj hk' hk (hz.key _ (iA hi1)).1, bS, dH (by decide), decide_eq_true h0, dh hi1, Bool.true_and]
   ·rw [decide_eq_false (show ¬ (0 : Int) < (i : Int) by omega), decide_eq_false h0]; rfl)]
 exact dV _
theorem QA {fs : List ae} {ids : List Int} (hn : fs.length < 1000000000) (hs : ids.length < 1000000000) : cq ids fs = some (ly (B6 fs ids) ids.length, fs) := by
 unfold cq fv
 obtain ⟨r, r1, r2⟩ := xt (z := fs) (L := fun k i => bn ids k fs i) (n := ids.length) (p := B6 fs ids) hs
  (fun k => by rw [bn, rW, iF]; rfl)
  (fun k i hi => by
   obtain ⟨t, t1, _⟩ := Mm hn ids[i]
   rw [bn, aW hi, iT, aE hi, bS, A3, t1, bS, bS, aq hi hs]
   unfold B6
   rw [dh hi])
 have r1 : bn ids aQ fs (0 : Int) = some (r, fs) := r1
 rw [r1, bS]
 show some (decide (0 ≤ r), fs) = _
 rw [r2]
theorem Qv {ids : List Int} (h : ids.length ≠ 0) : er (!BR ids) 1 = er (On ids) 1 := by
 unfold BR; rw [decide_eq_true (show 0 < ids.length by omega), Bool.true_and, Bool.not_not]
theorem UN {d : bc} {fs : List ae} (hz : N1 d.ids d.keys) (hfs : dK fs < 1000000000 - 1) :
  (ak ((d.ids.length : Int) == (0 : Int)) (oX d true fs true) (au (cq d.ids fs) fun r2 => oX d true r2.2 r2.1)) = some (DT fs d.ids d.keys) := by
 have hn : fs.length < 1000000000 := by have := cO fs; omega
 unfold DT
 by_cases h0 : d.ids.length = 0
 ·rw [show ((d.ids.length : Int) == 0) = true by simp [h0], iT]; rfl
 ·rw [show ((d.ids.length : Int) == 0) = false from beq_eq_false_iff_ne.2 (by omega), iF, HM, IH, QA hn hz.nid, bS]
  show oX d true fs (ly (B6 fs d.ids) d.ids.length) = _
  unfold oX
  rw [dH (by decide), Pb hz.nid, bS, dH (by decide), Qv h0, dH (by decide), dH (by decide), ← dV, ← bu, ← bu, ← bu, ← bu]
  refine eP fun e => eP fun _ => eP fun _ => eP fun _ => ?_
  rw [Qb hz hfs fun i h => N7 e h, dV]
theorem U8 {ids : List Int} {keys : List (List ac)} {fs : List ae} (hz : N1 ids keys) (hfs : dK fs < 1000000000 - 1) : rM fs ids keys true = some (DT fs ids keys) := by
 have hn : fs.length < 1000000000 := by have := cO fs; omega
 unfold rM DT
 rw [dH (by decide), ← dV, ← bu, ← bu]
 refine eP fun h0 => ?_
 have h0 : ids.length ≠ 0 := by rw [CU (by decide)] at h0; simpa using h0
 rw [hU (L := iu fs ids keys true) (n := ids.length) (fin := oa fs ids keys true) (c := fun j => er (B6 fs ids j) 9) hz.nid
  (fun k => by rw [iu, rW, iF])
  (fun k i hi => by
   rw [iu, aW hi, iT, aE hi, bS, S9 hn, bS, dH (by decide), aq hi hz.nid]
   unfold B6
   rw [dh hi])]
 rw [DB (by decide)]
 refine eP fun e => ?_
 unfold oa
 have h2 := HA (lo := 1) (L := iH fs ids keys true) (n := ids.length) (fin := ol fs ids keys true) (c := fun j => er (FI ids j) 1)
  (fun k => by rw [iH, rW, iF])
  (fun k i hl hi => by rw [iH, aW hi, iT, aE hi, bS, qm hi (by omega) hz.nid, bS, ← El hi (by omega), dH (by decide), aq hi hz.nid])
  (ids.length - 1) aQ 1 (by omega) (by rw [aU]; have := hz.nid; omega) (gO _)
 rw [show ((1 : Nat) : Int) = 1 from rfl, NO (by decide)] at h2
 rw [h2, show decide (∃ j, j < ids.length - 1 ∧ FI ids (1 + j) = true) = On ids from rfl, ← bu]
 refine eP fun _ => ?_
 unfold ol
 rw [dH (by decide), dH (by decide), NM hz hfs fun i h => N7 e h, ← bu, ← bu, dV]
theorem RB : ∀ a b : List UInt8, Op.bytesLess a b = decide (Lib.compareBytes a b < 0)
 | [], [] => rfl
 | [], _ :: _ => rfl
 | _ :: _, [] => rfl
 | x :: a, y :: b => by
  rw [Op.bytesLess, Lib.compareBytes, RB a b]
  by_cases h1 : x < y
  ·rw [if_pos h1]; simp [h1]
  ·rw [if_neg h1]
   by_cases h2 : y < x
   ·have : (x == y) = false := by
     rw [beq_eq_false_iff_ne]; intro e; subst e; exact UInt8.lt_irrefl _ h2
    rw [if_pos h2]; simp [h1, this]
   ·have : x = y := UInt8.le_antisymm (UInt8.not_lt.1 h2) (UInt8.not_lt.1 h1)
    subst this
    rw [if_neg h2]; simp [h1]
theorem HT (x n : ByteArray) : (x.toList == n.toList) = decide (x = n) := by
 rw [ByteArray.toList_eq, ByteArray.toList_eq, Bool.eq_iff_iff, beq_iff_eq, decide_eq_true_iff]
 exact ⟨fun h => ByteArray.ext (Array.toList_inj.1 h), fun h => by rw [h]⟩
def Hu (a b : ByteArray) : Bool := Op.bytesLess a.toList b.toList || a.toList == b.toList
theorem Mq {a b : ByteArray} (h : Hu a b = false) : vA b a < 0 := by
 unfold Hu at h
 rw [Bool.or_eq_false_iff, HT, ByteArray.toList_eq, ByteArray.toList_eq, RB] at h
 obtain ⟨h1, h2⟩ := h
 have h1 : ¬ vA a b < 0 := by simpa [vA] using h1
 have h2 : a ≠ b := by simpa using h2
 have h3 : vA a b = -vA b a := LC _ _
 have h4 : vA b a ≠ 0 := fun h => h2 (CP h).symm
 omega
def m8 (fs : List aj) (n : ByteArray) : Option aj := fs.find? fun f => decide (f.name = n)
def GU : aj := ⟨ByteArray.empty, 0, 0, [], 0, 0, []⟩
theorem Dq {s : al} (hn : s.files.length < 1000000000) (n : ByteArray) : vg s n = some ((m8 s.files n).getD GU, (m8 s.files n).isSome) := by
 have key : ∀ (m k i : Nat), i + m = s.files.length → m < k → nm s n k (i : Int) = some ((m8 (s.files.drop i) n).getD GU, (m8 (s.files.drop i) n).isSome) := by
  intro m
  induction m with
  | zero =>
   intro k i hi hk
   obtain ⟨k, rfl⟩ := fu hk
   rw [nm, CN (by omega), iF, List.drop_of_length_le (by omega)]; rfl
  | succ m ih =>
   intro k i hi hk
   obtain ⟨k, rfl⟩ := fu hk
   have h1 : i < s.files.length := by omega
   rw [nm, aW h1, iT, aE h1, bS, HT, qz h1]
   unfold m8
   rw [List.find?_cons]
   cases hb : decide (s.files[i].name = n) with
   | true => rfl
   | false => rw [iF, aq h1 hn]; exact ih k (i + 1) (by omega) (by omega)
 have := key s.files.length aQ 0 (by omega) (by rw [aU]; omega)
 unfold vg
 rw [show ((0 : Nat) : Int) = 0 from rfl] at this
 rw [this, List.drop_zero]
def AJ (fs : List aj) : Prop := ∀ (i j : Nat) (hj : j < fs.length) (hij : i < j), vA (fs[i]'(by omega)).name fs[j].name < 0
theorem yr {a b c : ByteArray} (h : vA a b < 0) (k : vA b c < 0) : vA a c < 0 := EL _ _ _ h k
theorem PK {fs : List aj} (h : ∀ (j : Nat) (hj : j < fs.length), 0 < j → vA (fs[j - 1]'(by omega)).name fs[j].name < 0) : AJ fs := by
 intro i j
 induction j with
 | zero => intro hj hij; omega
 | succ j ih =>
  intro hj hij
  have h1 := h (j + 1) hj (by omega)
  simp only [Nat.add_sub_cancel] at h1
  by_cases e : i = j
  ·subst e; exact h1
  ·exact yr (ih (by omega) (by omega)) h1
theorem EU {fs : List aj} (hs : AJ fs) {i : Nat} (hi : i < fs.length) : m8 fs fs[i].name = some fs[i] := by
 unfold m8
 rw [List.find?_eq_some_iff_getElem]
 refine ⟨by simp, i, hi, rfl, fun j hj => ?_⟩
 have := hs j i hi hj
 simp only [Bool.not_eq_true', decide_eq_false_iff_not]
 intro e
 rw [e, sg] at this
 omega
theorem Ey {fs : List aj} {n : ByteArray} (h : ∀ (j : Nat) (hj : j < fs.length), fs[j].name ≠ n) : m8 fs n = none := by
 unfold m8
 rw [List.find?_eq_none]
 intro f hf
 obtain ⟨i, hi, rfl⟩ := FY.1 hf
 simpa using h i hi
theorem Wu (x : Int) : IntKind.u64.wrap x = x % 18446744073709551616 := by
 unfold IntKind.wrap; simp [IntKind.bits, IntKind.signed]
theorem T5 {fs : List aj} (hs : AJ fs) (hn : fs.length < 1000000000) (n : ByteArray) : ∀ (m k i j : Nat), j - i = m → m < k → i ≤ j → j ≤ fs.length → (∀ (q : Nat) (hq : q < fs.length), q < i → vA fs[q].name n < 0) → (∀ (q : Nat) (hq : q < fs.length), j ≤ q → ¬ vA fs[q].name n < 0) →
  ∃ r b, ay fs n k (i : Int) (j : Int) = some (r, b) ∧ b = (m8 fs n).isSome ∧ (b = true → at? fs r = m8 fs n) := by
 intro m
 induction m using Nat.strongRecOn with
 | ind m ih =>
  intro k i j hm hk hij hj hlo hhi
  obtain ⟨k, rfl⟩ := fu hk
  rw [ay]
  by_cases h : i < j
  ·have hh : (i + j) / 2 < fs.length := by omega
   have e1 : ((IntKind.u64.wrap (i64.wrap ((i : Int) + (j : Int)))).fdiv (2 ^ (min (1 : Int).toNat (IntKind.u64).bits))) = (((i + j) / 2 : Nat) : Int) := by
    rw [zd (by omega) (by omega), Wu, show ((i : Int) + (j : Int)) % 18446744073709551616 = ((i + j : Nat) : Int) by omega]
    show ((i + j : Nat) : Int).fdiv (2 ^ 1) = _
    rw [Int.fdiv_eq_ediv_of_nonneg _ (by decide)]
    omega
   rw [aW h, iT, e1, bS, zd (x := (((i + j) / 2 : Nat) : Int)) (by omega) (by omega), aE hh, bS]
   unfold q8 strings_Compare
   rw [bS, bS]
   show ∃ r b, ak (decide (vA fs[(i + j) / 2].name n < 0)) _ _ = _ ∧ _
   by_cases hc : vA fs[(i + j) / 2].name n < 0
   ·rw [decide_eq_true hc, iT, zd (x := (((i + j) / 2 : Nat) : Int) + 1) (by omega) (by omega), show (((i + j) / 2 : Nat) : Int) + 1 = (((i + j) / 2 + 1 : Nat) : Int) by omega]
    refine ih (j - ((i + j) / 2 + 1)) (by omega) k _ j rfl (by omega) (by omega) hj (fun q hq hqi => ?_) hhi
    by_cases e : q = (i + j) / 2
    ·subst e; exact hc
    ·exact yr (hs q _ hh (by omega)) hc
   ·rw [decide_eq_false hc, iF]
    refine ih ((i + j) / 2 - i) (by omega) k i _ (by omega) (by omega) (by omega) (by omega) hlo (fun q hq hqj hlt => ?_)
    by_cases e : q = (i + j) / 2
    ·subst e; exact hc hlt
    ·exact hc (yr (hs _ q hq (by omega)) hlt)
  ·have hi : i = j := by omega
   clear ih
   subst hi
   rw [CN (by omega), iF]
   unfold bI bk q8 strings_Compare
   by_cases hil : i < fs.length
   ·rw [aW hil, iT, aE hil, bS, bS, bS]
    show ∃ r b, some ((i : Int), (vA fs[i].name n == 0)) = some (r, b) ∧ _
    refine ⟨_, _, rfl, ?_, fun hb => ?_⟩
    ·by_cases hz : vA fs[i].name n = 0
     ·have := CP hz
      rw [← this, EU hs hil, sg]; rfl
     ·rw [beq_eq_false_iff_ne.2 hz, Ey]
      ·rfl
      ·intro q hq e
       rcases Nat.lt_trichotomy q i with h1 | h1 | h1
       ·have := hlo q hq h1; rw [e, sg] at this; omega
       ·subst h1; exact hz (by rw [e, sg])
       ·have := hs i q hq h1
        rw [e] at this
        exact hhi i hil (gO _) this
    ·have hz : vA fs[i].name n = 0 := by simpa using hb
     have := CP hz
     rw [← this, EU hs hil, aE hil]
   ·rw [CN hil, iF]
    refine ⟨_, _, rfl, ?_, fun h => by cases h⟩
    rw [Ey]
    ·rfl
    ·intro q hq e
     have := hlo q hq (by omega)
     rw [e, sg] at this; omega
theorem O5 {s : al} (hs : AJ s.files) (hn : s.files.length < 1000000000) (n : ByteArray) : vP s n = some ((m8 s.files n).getD GU, (m8 s.files n).isSome) := by
 unfold vP bQ
 obtain ⟨r, b, h1, h2, h3⟩ := T5 hs hn n s.files.length aQ 0 s.files.length (by omega) (by rw [aU]; omega) (Nat.zero_le _) (gO _) (fun q hq h => by omega) (fun q hq h => by omega)
 have h1 : ay s.files n aQ (0 : Int) (s.files.length : Int) = _ := h1
 rw [h1, bS]
 show ak (!b) _ (au (at? s.files r) _) = _
 cases hb : m8 s.files n with
 | none =>
  rw [hb] at h2
  rw [h2]; rfl
 | some f =>
  rw [hb] at h2 h3
  subst h2
  rw [h3 rfl]; rfl
noncomputable def PX (m : aw) (s : al) (j : Nat) : Int := match s.files[j]? with
 | some f => ov (A1 m f) (ov (er (decide (s.seq < f.seq) || decide (s.schema < f.schema)) 3) (er (decide (0 < j) && (match s.files[j - 1]? with | some p => Hu f.name p.name | none => false)) 1))
 | none => 0
theorem Qs {m : aw} {s : al} (hm : qS m) (hs : Hw s) : tC m s = some (fe (PX m s) s.files.length 0) := by
 unfold tC
 rw [hU (L := eu m s) (n := s.files.length) (fin := some 0) (c := PX m s) hs.files.1
  (fun k => by rw [eu, rW, iF]; rfl)
  (fun k i hi => by
   rw [eu, aW hi, iT, aE hi, bS, SZ hm (hs.files.2 _ (iA hi)), bS, iZ]
   unfold PX
   rw [dh hi]
   simp only
   rw [← bu, ← bu]
   refine eP fun _ => ?_
   unfold rC rE
   rw [aq hi hs.files.1]
   have hj : ∀ x, ak x (some (3 : Int)) (ak (decide ((0 : Int) < (i : Int))) (au (at? s.files (i64.wrap ((i : Int) - 1))) fun e2 => au (some (Op.bytesLess s.files[i].name.toList e2.name.toList || s.files[i].name.toList == e2.name.toList)) fun y1 => ak y1 (some 1) (eu m s k ((i + 1 : Nat) : Int))) (ak false (some 1) (eu m s k ((i + 1 : Nat) : Int)))) =
     ee (er x 3) (ee (er (decide (0 < i) && (match s.files[i - 1]? with | some p => Hu s.files[i].name p.name | none => false)) 1) (eu m s k ((i + 1 : Nat) : Int))) := by
    intro x
    rw [dH (by decide)]
    refine eP fun _ => ?_
    by_cases h0 : 0 < i
    ·have hi1 : i - 1 < s.files.length := by omega
     rw [decide_eq_true (show (0 : Int) < (i : Int) by omega), iT, qm hi h0 hs.files.1, bS, bS, dH (by decide), decide_eq_true h0, dh hi1, Bool.true_and]; rfl
    ·rw [decide_eq_false (show ¬ (0 : Int) < (i : Int) by omega), decide_eq_false h0]; rfl
   cases decide (s.seq < s.files[i].seq) with
   | true => exact hj true
   | false => exact hj _)]
 exact dV _
theorem P7 {m : aw} {s : al} (hm : qS m) (hs : Hw s) : bE m s aQ (0 : Int) = ee (fe (PX m s) s.files.length 0) (jg m s) := by
 exact hU (L := bE m s) (n := s.files.length) (c := PX m s) hs.files.1
  (fun k => by rw [bE, rW, iF])
  (fun k i hi => by
   rw [bE, aW hi, iT, aE hi, bS, Tl hm (hs.files.2 _ (iA hi)), bS, iZ]
   unfold PX
   rw [dh hi]
   simp only
   rw [← bu, ← bu]
   refine eP fun _ => ?_
   unfold lq lj
   rw [aq hi hs.files.1]
   have hj : ∀ x, ak x (some (3 : Int)) (ak (decide ((0 : Int) < (i : Int))) (au (at? s.files (i64.wrap ((i : Int) - 1))) fun e2 => au (some (Op.bytesLess s.files[i].name.toList e2.name.toList || s.files[i].name.toList == e2.name.toList)) fun y1 => ak y1 (some 1) (bE m s k ((i + 1 : Nat) : Int))) (ak false (some 1) (bE m s k ((i + 1 : Nat) : Int)))) =
     ee (er x 3) (ee (er (decide (0 < i) && (match s.files[i - 1]? with | some p => Hu s.files[i].name p.name | none => false)) 1) (bE m s k ((i + 1 : Nat) : Int))) := by
    intro x
    rw [dH (by decide)]
    refine eP fun _ => ?_
    by_cases h0 : 0 < i
    ·have hi1 : i - 1 < s.files.length := by omega
     rw [decide_eq_true (show (0 : Int) < (i : Int) by omega), iT, qm hi h0 hs.files.1, bS, bS, dH (by decide), decide_eq_true h0, dh hi1, Bool.true_and]; rfl
    ·rw [decide_eq_false (show ¬ (0 : Int) < (i : Int) by omega), decide_eq_false h0]; rfl
   cases decide (s.seq < s.files[i].seq) with
   | true => exact hj true
   | false => exact hj _)
theorem HG {m : aw} {s : al} (hm : qS m) (hs : Hw s) (h : fe (PX m s) s.files.length 0 = 0) : AJ s.files ∧ ∀ f ∈ s.files, Ok f := by
 have key : ∀ (j : Nat) (hj : j < s.files.length), A1 m s.files[j] = 0 ∧ (0 < j → Hu s.files[j].name (s.files[j - 1]'(by omega)).name = false) := by
  intro j hj
  have := Nc.1 h j (Nat.zero_le _) (by omega)
  unfold PX at this
  rw [dh hj] at this
  simp only [oT] at this
  refine ⟨this.1, fun h0 => ?_⟩
  have h3 := (CU (by decide)).1 this.2.2
  rw [decide_eq_true h0, dh (show j - 1 < s.files.length by omega), Bool.true_and] at h3
  exact h3
 refine ⟨PK fun j hj h0 => Mq ((key j hj).2 h0), fun f hf => ?_⟩
 obtain ⟨i, hi, rfl⟩ := FY.1 hf
 exact QF hm (hs.files.2 _ hf) (key i hi).1
theorem GD {l : List Int} (h : BR l = true) : 0 < l.length ∧ ∀ (i j : Nat) (hj : j < l.length) (hij : i < j), l[i]'(by omega) < l[j] := by
 unfold BR On at h
 rw [gZ, decide_eq_true_iff, Bool.not_eq_true', decide_eq_false_iff_not] at h
 obtain ⟨h0, h1⟩ := h
 refine ⟨h0, fun i j => ?_⟩
 induction j with
 | zero => intro hj hij; omega
 | succ j ih =>
  intro hj hij
  have hd : FI l (1 + j) = false := by
   cases hd : FI l (1 + j) with
   | false => rfl
   | true => exact absurd ⟨j, by omega, hd⟩ h1
  rw [El (by omega) (by omega), decide_eq_false_iff_not] at hd
  have e : l[1 + j]'(by omega) = l[j + 1] := by congr 1; omega
  have e2 : l[1 + j - 1]'(by omega) = l[j]'(by omega) := by congr 1; omega
  rw [e, e2] at hd
  by_cases hh : i = j
  ·subst hh; omega
  ·have := ih (by omega) (by omega); omega
def Mu (l : List Int) (n : Int) : Bool := ly (fun j => match l[j]? with | some a => decide (a < 0) || decide (n ≤ a) | none => false) l.length
theorem SJ {l : List Int} (hn : l.length < 1000000000) (n : Int) : nQ l n = some (!Mu l n) := by
 unfold nQ
 rw [Ci (L := eX l n) (n := l.length) (p := fun j => match l[j]? with | some a => decide (a < 0) || decide (n ≤ a) | none => false) hn
  (fun k => by rw [eX, rW, iF]; rfl)
  (fun k i hi => by
   rw [eX, aW hi, iT, aE hi, bS, dh hi]
   unfold nu
   rw [aq hi hn]
   simp only
   cases h : decide (l[i] < 0) with
   | true => rfl
   | false => rfl)]
 rfl
theorem O3 {l : List Int} (h : BR l = true) (n : Int) : Mu l n = (decide (l[0]'(GD h).1 < 0) || decide (n ≤ l[l.length - 1]'(by have := (GD h).1; omega))) := by
 obtain ⟨h0, h1⟩ := GD h
 refine gu ?_
 unfold Mu
 rw [eN, Bool.or_eq_true, decide_eq_true_iff, decide_eq_true_iff]
 constructor
 ·rintro ⟨j, hj, hp⟩
  rw [dh hj] at hp
  simp only [Bool.or_eq_true, decide_eq_true_eq] at hp
  rcases hp with hp | hp
  ·left
   by_cases e : j = 0
   ·subst e; exact hp
   ·have := h1 0 j hj (by omega); omega
  ·right
   by_cases e : j = l.length - 1
   ·subst e; exact hp
   ·have := h1 j (l.length - 1) (by omega) (by omega); omega
 ·rintro (hp | hp)
  ·exact ⟨0, h0, by rw [dh h0]; simp [hp]⟩
  ·exact ⟨l.length - 1, by omega, by rw [dh (show l.length - 1 < l.length by omega)]; simp [hp]⟩
def RP (l : List iP) (d : iP) (j : Nat) : Bool := decide (0 < j) && (match l[j - 1]? with | some p => Hu d.file p.file | none => false)
def JS (s : al) (j : Nat) : Int := match s.dat[j]? with
 | some d => (match m8 s.files d.file with
  | none => 9
  | some f => ov (er (RP s.dat d j || !BR d.rows) 1) (er (Mu d.rows f.rows) 3))
 | none => 0
theorem Uk {m : aw} {s : al} (hs : Hw s) (ho : AJ s.files) : pN m s = ee (fe (JS s) s.dat.length 0) (mK m s) := by
 unfold pN
 exact hU (L := cL m s) (n := s.dat.length) (c := JS s) hs.dat.1
  (fun k => by rw [cL, rW, iF])
  (fun k i hi => by
   have hd := hs.dat.2 _ (iA hi)
   rw [cL, aW hi, iT, aE hi, bS, O5 ho hs.files.1, bS]
   unfold JS
   rw [dh hi]
   simp only
   cases hf : m8 s.files s.dat[i].file with
   | none => rfl
   | some f =>
    show ak (!true) _ _ = _
    rw [Bool.not_true, iF, Pb hd, bS]
    rw [← bu]
    unfold mP pq
    rw [aq hi hs.dat.1]
    have hj : ∀ x, (BR s.dat[i].rows = false → x = true) → ak x (some (1 : Int)) (au (at? s.dat[i].rows (0 : Int)) fun e3 => ak (decide (e3 < (0 : Int))) (ak true (some (3 : Int)) (cL m s k ((i + 1 : Nat) : Int))) (au (at? s.dat[i].rows (i64.wrap ((s.dat[i].rows.length : Int) - (1 : Int)))) fun e4 => ak (decide (f.rows ≤ e4)) (some (3 : Int)) (cL m s k ((i + 1 : Nat) : Int)))) =
      ee (er x 1) (ee (er (Mu s.dat[i].rows f.rows) 3) (cL m s k ((i + 1 : Nat) : Int))) := by
     intro x hx
     rw [dH (by decide)]
     refine eP fun e => ?_
     have e := (CU (by decide)).1 e
     cases hr : BR s.dat[i].rows with
     | false => rw [hx hr] at e; cases e
     | true =>
      obtain ⟨h0, _⟩ := GD hr
      have a0 := aE h0
      rw [show ((0 : Nat) : Int) = 0 from rfl] at a0
      rw [a0, bS, lG hd, show ((s.dat[i].rows.length : Int) - 1) = ((s.dat[i].rows.length - 1 : Nat) : Int) by omega, aE (show s.dat[i].rows.length - 1 < s.dat[i].rows.length by omega), bS, O3 hr]
      cases decide (s.dat[i].rows[0] < 0) with
      | true => rfl
      | false => rw [iF, dH (by decide), Bool.false_or]
    unfold RP
    by_cases h0 : 0 < i
    ·have hi1 : i - 1 < s.dat.length := by omega
     rw [decide_eq_true (show (0 : Int) < (i : Int) by omega), iT, qm hi h0 hs.dat.1, bS, bS, decide_eq_true h0, dh hi1, Bool.true_and]
     show ak (Hu s.dat[i].file s.dat[i - 1].file) _ _ = ee (er (Hu s.dat[i].file s.dat[i - 1].file || !BR s.dat[i].rows) 1) _
     cases Hu s.dat[i].file s.dat[i - 1].file with
     | true => rw [iT, Bool.true_or]; exact hj true fun _ => rfl
     | false => rw [iF, Bool.false_or]; exact hj _ fun h => by rw [h]; rfl
    ·rw [decide_eq_false (show ¬ (0 : Int) < (i : Int) by omega), iF, decide_eq_false h0, Bool.false_and, Bool.false_or]
     exact hj _ fun h => by rw [h]; rfl)
theorem UB {m : aw} {s : al} (hs : Hw s) : jg m s = ee (fe (JS s) s.dat.length 0) (jh m s) := by
 unfold jg
 exact hU (L := cf m s) (n := s.dat.length) (c := JS s) hs.dat.1
  (fun k => by rw [cf, rW, iF])
  (fun k i hi => by
   have hd := hs.dat.2 _ (iA hi)
   rw [cf, aW hi, iT, aE hi, bS, Dq hs.files.1, bS]
   unfold JS
   rw [dh hi]
   simp only
   cases hf : m8 s.files s.dat[i].file with
   | none => rfl
   | some f =>
    show ak (!true) _ _ = _
    rw [Bool.not_true, iF, S0 hd, bS]
    rw [← bu]
    unfold jl
    rw [aq hi hs.dat.1]
    have hj : ∀ x, ak x (some (1 : Int)) (au (nQ s.dat[i].rows f.rows) fun r11 => ak (!r11) (some (3 : Int)) (cf m s k ((i + 1 : Nat) : Int))) =
      ee (er x 1) (ee (er (Mu s.dat[i].rows f.rows) 3) (cf m s k ((i + 1 : Nat) : Int))) := by
     intro x
     rw [dH (by decide), SJ hd, bS, Bool.not_not, dH (by decide)]
    unfold RP
    by_cases h0 : 0 < i
    ·have hi1 : i - 1 < s.dat.length := by omega
     rw [decide_eq_true (show (0 : Int) < (i : Int) by omega), iT, qm hi h0 hs.dat.1, bS, bS, decide_eq_true h0, dh hi1, Bool.true_and]
     show ak (Hu s.dat[i].file s.dat[i - 1].file) _ _ = ee (er (Hu s.dat[i].file s.dat[i - 1].file || !BR s.dat[i].rows) 1) _
     cases Hu s.dat[i].file s.dat[i - 1].file with
     | true => rw [iT, Bool.true_or]; exact hj true
     | false => rw [iF, Bool.false_or]; exact hj _
    ·rw [decide_eq_false (show ¬ (0 : Int) < (i : Int) by omega), iF, decide_eq_false h0, Bool.false_and, Bool.false_or]
     exact hj _)
def MZ (m : aw) (d : bc) : Bool := !decide (0 ≤ d.schema ∧ d.schema ≤ (m.schemas.length : Int) - 1) || decide (d.seq < 1)
noncomputable def Sq (m : aw) (d : bc) : Int := ov (er (MZ m d) 3) (match m.schemas[d.schema.toNat]? with | some fs => DT fs d.ids d.keys | none => 0)
theorem OY {m : aw} {d : bc} (h : MZ m d = false) : ∃ fs, at? m.schemas d.schema = some fs ∧ m.schemas[d.schema.toNat]? = some fs ∧ fs ∈ m.schemas := by
 unfold MZ at h
 simp only [Bool.or_eq_false_iff, Bool.not_eq_false', decide_eq_true_eq] at h
 obtain ⟨⟨a1, a2⟩, _⟩ := h
 obtain ⟨h1, h2, h3⟩ := EN a1 a2
 exact ⟨_, h2, h3, iA h1⟩
theorem Wi {m : aw} {d : bc} (hm : qS m) (hz : N1 d.ids d.keys) : BC m d true = some (Sq m d) := by
 unfold BC Sq
 rw [kJ, bS, lG hm.schemas.1, ← dV, ← bu]
 have hj : ∀ x, x = MZ m d → tF m d true x = ee (er (MZ m d) 3) (ee (match m.schemas[d.schema.toNat]? with | some fs => DT fs d.ids d.keys | none => 0) (some 0)) := by
  rintro x rfl
  unfold tF
  rw [dH (by decide)]
  refine eP fun e => ?_
  obtain ⟨fs, h1, h2, h3⟩ := OY ((CU (by decide)).1 e)
  rw [h1, h2, bS, UN hz (hm.schemas.2 _ h3), dV]
 have hr : MZ m d = MZ m d := rfl
 conv at hr => rhs; unfold MZ
 cases a : decide (0 ≤ d.schema ∧ d.schema ≤ (m.schemas.length : Int) - 1) with
 | false => rw [a] at hr; rw [Bool.not_false, iT]; exact hj true (by rw [hr]; rfl)
 | true => rw [a] at hr; rw [Bool.not_true, iF]; exact hj _ (by rw [hr]; rfl)
theorem V8 {m : aw} {d : bc} (hm : qS m) (hz : N1 d.ids d.keys) : uZ m d = some (Sq m d) := by
 unfold uZ Sq
 rw [om, bS, lG hm.schemas.1, ← dV, ← bu]
 have hj : ∀ x, x = MZ m d → nP m d x = ee (er (MZ m d) 3) (ee (match m.schemas[d.schema.toNat]? with | some fs => DT fs d.ids d.keys | none => 0) (some 0)) := by
  rintro x rfl
  unfold nP
  rw [dH (by decide)]
  refine eP fun e => ?_
  obtain ⟨fs, h1, h2, h3⟩ := OY ((CU (by decide)).1 e)
  rw [h1, h2, bS, U8 hz (hm.schemas.2 _ h3), bS, dV]
 have hr : MZ m d = MZ m d := rfl
 conv at hr => rhs; unfold MZ
 cases a : decide (0 ≤ d.schema ∧ d.schema ≤ (m.schemas.length : Int) - 1) with
 | false => rw [a] at hr; rw [Bool.not_false, iT]; exact hj true (by rw [hr]; rfl)
 | true => rw [a] at hr; rw [Bool.not_true, iF]; exact hj _ (by rw [hr]; rfl)
def Jm (fs : List aj) (q : Int) : Bool := ly (fun j => match fs[j]? with | some f => decide (f.seq < q) | none => false) fs.length
theorem UT {fs : List aj} (hn : fs.length < 1000000000) (d : bc) : tu fs d = some (Jm fs d.seq) := by
 unfold tu cn cC
 obtain ⟨r, r1, r2⟩ := LU (L := aR fs d.schema d.ids d.keys d.seq) (n := fs.length) (p := fun j => match fs[j]? with | some f => decide (f.seq < d.seq) | none => false) hn
  (fun k => by rw [aR, rW, iF]; rfl)
  (fun k i hi => by rw [aR, aW hi, iT, aE hi, bS, tX, bS, aq hi hn, dh hi])
 rw [r1, bS, bS, r2]; rfl
theorem UW {fs : List aj} (hn : fs.length < 1000000000) (q : Int) : wj fs q = some (Jm fs q) := by
 have key : ∀ (m k i : Nat), i + m = fs.length → m < k → l9 fs q k (i : Int) = some (decide (∃ j, j < m ∧ (match fs[i + j]? with | some f => decide (f.seq < q) | none => false) = true)) := by
  intro m
  induction m with
  | zero =>
   intro k i hi hk
   obtain ⟨k, rfl⟩ := fu hk
   rw [l9, CN (by omega), iF]; simp [wZ]
  | succ m ih =>
   intro k i hi hk
   obtain ⟨k, rfl⟩ := fu hk
   have h1 : i < fs.length := by omega
   rw [l9, aW h1, iT, aE h1, bS, aq h1 hn]
   cases hd : decide (fs[i].seq < q) with
   | true => rw [iT, decide_eq_true ⟨0, by omega, by rw [Nat.add_zero, dh h1]; exact hd⟩]
   | false =>
    rw [iF, ih k (i + 1) (by omega) (by omega)]
    congr 1
    refine decide_eq_decide.2 ⟨fun ⟨j, a, b⟩ => ⟨j + 1, by omega, by rw [← b, show i + (j + 1) = i + 1 + j by omega]⟩, fun ⟨j, a, b⟩ => ?_⟩
    cases j with
    | zero => rw [Nat.add_zero, dh h1] at b; simp only at b; rw [hd] at b; cases b
    | succ j => exact ⟨j, by omega, by rw [← b, show i + (j + 1) = i + 1 + j by omega]⟩
 have := key fs.length aQ 0 (by omega) (by rw [aU]; omega)
 unfold wj
 rw [show ((0 : Nat) : Int) = 0 from rfl] at this
 rw [this]
 congr 1
 refine gu ?_
 unfold Jm
 rw [decide_eq_true_iff, eN]
 simp
noncomputable def Is (m : aw) (s : al) (j : Nat) : Int := match s.dby[j]? with
 | some d => ov (Sq m d) (ov (er (decide (s.seq < d.seq)) 3) (er ((decide (0 < j) && (match s.dby[j - 1]? with | some p => decide (d.seq < p.seq) | none => false)) || !Jm s.files d.seq) 1))
 | none => 0
theorem LR {m : aw} {s : al} (hs : Hw s) {i : Nat} (hi : i < s.dby.length) (X : Option Int) (O : Option Bool) (ho : O = some (Jm s.files s.dby[i].seq)) :
  ak (decide ((0 : Int) < (i : Int))) (au (at? s.dby (i64.wrap ((i : Int) - (1 : Int)))) fun e6 => ak (decide (s.dby[i].seq < e6.seq)) (ak true (some (1 : Int)) X) (au O fun r5 => ak (!r5) (some (1 : Int)) X)) (au O fun r6 => ak (!r6) (some (1 : Int)) X) =
   ee (er ((decide (0 < i) && (match s.dby[i - 1]? with | some p => decide (s.dby[i].seq < p.seq) | none => false)) || !Jm s.files s.dby[i].seq) 1) X := by
 subst ho
 by_cases h0 : 0 < i
 ·have hi1 : i - 1 < s.dby.length := by omega
  rw [decide_eq_true (show (0 : Int) < (i : Int) by omega), iT, qm hi h0 hs.dby.1, bS, decide_eq_true h0, dh hi1, Bool.true_and, bS]
  show _ = ee (er (decide (s.dby[i].seq < s.dby[i - 1].seq) || !Jm s.files s.dby[i].seq) 1) X
  cases decide (s.dby[i].seq < s.dby[i - 1].seq) with
  | true => rfl
  | false => rw [iF, dH (by decide), Bool.false_or]
 ·rw [decide_eq_false (show ¬ (0 : Int) < (i : Int) by omega), iF, decide_eq_false h0, Bool.false_and, Bool.false_or, bS, dH (by decide)]
theorem VB {s : al} (hs : Hw s) {d : bc} (hd : d ∈ s.dby) : N1 d.ids d.keys := by
 obtain ⟨a, b, c⟩ := hs.dby.2 _ hd
 exact ⟨a, b, c⟩
theorem T0 {m : aw} {s : al} (hm : qS m) (hs : Hw s) : mK m s = some (fe (Is m s) s.dby.length 0) := by
 unfold mK
 rw [hU (L := fa m s) (n := s.dby.length) (fin := some 0) (c := Is m s) hs.dby.1
  (fun k => by rw [fa, rW, iF]; rfl)
  (fun k i hi => by
   rw [fa, aW hi, iT, aE hi, bS, Wi hm (VB hs (iA hi)), bS, iZ, dH (by decide)]
   unfold Is
   rw [dh hi]
   simp only
   rw [← bu, ← bu]
   refine eP fun _ => eP fun _ => ?_
   unfold mQ
   rw [aq hi hs.dby.1]
   exact LR (m := m) hs hi _ _ (UT hs.files.1 _))]
 exact dV _
theorem Va {m : aw} {s : al} (hm : qS m) (hs : Hw s) : jh m s = some (fe (Is m s) s.dby.length 0) := by
 unfold jh
 rw [hU (L := cR m s) (n := s.dby.length) (fin := some 0) (c := Is m s) hs.dby.1
  (fun k => by rw [cR, rW, iF]; rfl)
  (fun k i hi => by
   rw [cR, aW hi, iT, aE hi, bS, V8 hm (VB hs (iA hi)), bS, iZ, dH (by decide)]
   unfold Is
   rw [dh hi]
   simp only
   rw [← bu, ← bu]
   refine eP fun _ => eP fun _ => ?_
   unfold jj
   rw [aq hi hs.dby.1]
   exact LR (m := m) hs hi _ _ (UW hs.files.1 _))]
 exact dV _
def wi (a b c : Int) : Bool := decide (b ≤ a ∧ a ≤ c)
def Bd (m : aw) (s : al) : Bool :=
 !wi s.id 1 (i64.wrap (m.nextSnap - 1)) || (!wi s.parent 0 (i64.wrap (s.id - 1)) || (!wi s.seq 1 (i64.wrap (m.nextSeq - 1)) || (!wi s.schema 0 (i64.wrap ((m.schemas.length : Int) - 1)) || (!wi s.time (-62135596800) 253402300799 || !wi s.kind 1 3))))
noncomputable def PW (m : aw) (s : al) : Int := ov (fe (PX m s) s.files.length 0) (ov (fe (JS s) s.dat.length 0) (fe (Is m s) s.dby.length 0))
noncomputable def RK (m : aw) (j : Nat) : Int := match m.snapshots[j]? with
 | some s => ov (er (Bd m s) 3) (ov (er (decide (0 < j) && (match m.snapshots[j - 1]? with | some p => decide (s.id ≤ p.id) || decide (s.seq ≤ p.seq) | none => false)) 5) (PW m s))
 | none => 0
theorem GP {m : aw} {j : Nat} (hj : j < m.snapshots.length) : RK m j = ov (er (Bd m m.snapshots[j]) 3) (ov (er (decide (0 < j) && (match m.snapshots[j - 1]? with | some p => decide (m.snapshots[j].id ≤ p.id) || decide (m.snapshots[j].seq ≤ p.seq) | none => false)) 5) (PW m m.snapshots[j])) := by
 unfold RK; rw [dh hj]
theorem V3 {m : aw} {s : al} (hm : qS m) (hs : Hw s) (X : Option Int) :
  (au (tC m s) fun r7 => ak (r7 != (0 : Int)) (some r7) (au (pN m s) fun r8 => ak (r8 != (0 : Int)) (some r8) X)) = ee (PW m s) X := by
 rw [Qs hm hs, bS, iZ]
 unfold PW
 rw [← bu]
 refine eP fun e => ?_
 obtain ⟨ho, _⟩ := HG hm hs e
 rw [Uk hs ho, T0 hm hs, wO, bS, iZ]
theorem RX {m : aw} (hm : qS m) : qA m = some (fe (RK m) m.snapshots.length 0) := by
 unfold qA
 rw [hU (L := bL m) (n := m.snapshots.length) (fin := some 0) (c := RK m) hm.snaps.1
  (fun k => by rw [bL, rW, iF]; rfl)
  (fun k i hi => by
   have hs := hm.snaps.2 _ (iA hi)
   rw [bL, aW hi, iT, aE hi, bS, GP hi]
   generalize hsn : m.snapshots[i] = s at hs
   have hj : ∀ x, x = Bd m s → gI (bL m k) m (i : Int) s x =
     ee (ov (er (Bd m s) 3) (ov (er (decide (0 < i) && (match m.snapshots[i - 1]? with | some p => decide (s.id ≤ p.id) || decide (s.seq ≤ p.seq) | none => false)) 5) (PW m s))) (bL m k ((i + 1 : Nat) : Int)) := by
    rintro x rfl
    unfold gI kZ
    rw [dH (by decide), ← bu, ← bu]
    refine eP fun _ => ?_
    rw [V3 hm hs, aq hi hm.snaps.1]
    by_cases h0 : 0 < i
    ·have hi1 : i - 1 < m.snapshots.length := by omega
     rw [decide_eq_true (show (0 : Int) < (i : Int) by omega), iT, qm hi h0 hm.snaps.1, bS, decide_eq_true h0, dh hi1, Bool.true_and]
     simp only
     cases decide (s.id ≤ m.snapshots[i - 1].id) with
     | true => rfl
     | false => rw [iF, dH (by decide), Bool.false_or]
    ·rw [decide_eq_false (show ¬ (0 : Int) < (i : Int) by omega), iF, decide_eq_false h0]; rfl
   have hj1 : ∀ x, jv (bL m k) m (i : Int) s x = gI (bL m k) m (i : Int) s (x || (!wi s.schema 0 (i64.wrap ((m.schemas.length : Int) - 1)) || (!wi s.time (-62135596800) 253402300799 || !wi s.kind 1 3))) := by
    intro x
    unfold jv ni
    cases x with
    | true => rfl
    | false =>
     rw [iF, kJ, bS, Bool.false_or]
     show ak (!wi s.schema _ _) _ _ = _
     cases wi s.schema 0 (i64.wrap ((m.schemas.length : Int) - 1)) with
     | false => rfl
     | true =>
      rw [Bool.not_true, iF, kJ, bS, Bool.false_or]
      rw [show decide (-62135596800 ≤ s.time ∧ s.time ≤ 253402300799) = wi s.time (-62135596800) 253402300799 from rfl]
      cases wi s.time (-62135596800) 253402300799 with
      | false => rfl
      | true => rw [Bool.not_true, iF, kJ, bS]; rfl
   rw [kJ, bS]
   show ak (!wi s.id _ _) _ _ = _
   have hr : Bd m s = Bd m s := rfl
   conv at hr => rhs; unfold Bd
   cases a : wi s.id 1 (i64.wrap (m.nextSnap - 1)) with
   | false => rw [a] at hr; rw [Bool.not_false, iT, hj1]; exact hj _ (by rw [hr]; rfl)
   | true =>
    rw [a] at hr
    rw [Bool.not_true, iF, kJ, bS]
    show ak (!wi s.parent _ _) _ _ = _
    cases b : wi s.parent 0 (i64.wrap (s.id - 1)) with
    | false => rw [b] at hr; rw [Bool.not_false, iT, hj1]; exact hj _ (by rw [hr]; rfl)
    | true => rw [b] at hr; rw [Bool.not_true, iF, kJ, bS, hj1]; exact hj _ (by rw [hr]; rfl))]
 exact dV _
theorem Nu {m : aw} {s : al} (h : Bd m s = false) : 1 ≤ s.id ∧ 1 ≤ s.seq := by
 unfold Bd wi at h
 simp only [Bool.or_eq_false_iff, Bool.not_eq_false', decide_eq_true_eq] at h
 exact ⟨h.1.1, h.2.2.1.1⟩
theorem Q0 {m : aw} {s p : al} (hm : qS m) (hs : Hw s) : kW m s p = some (ov (er (Bd m s) 3) (ov (er (decide (s.id ≤ p.id) || decide (s.seq ≤ p.seq)) 5) (PW m s))) := by
 have hj : ∀ x, x = Bd m s → dn m s p x = some (ov (er (Bd m s) 3) (ov (er (decide (s.id ≤ p.id) || decide (s.seq ≤ p.seq)) 5) (PW m s))) := by
  rintro x rfl
  unfold dn lp
  refine Eq.trans ?_ (dV _)
  rw [dH (by decide), ← bu, ← bu]
  refine eP fun _ => ?_
  have hin : bE m s aQ (0 : Int) = ee (PW m s) (some 0) := by
   rw [P7 hm hs, UB hs, Va hm hs, wO, wO, dV]; rfl
  rw [hin]
  cases decide (s.id ≤ p.id) with
  | true => rfl
  | false => rw [iF, dH (by decide), Bool.false_or]
 unfold kW
 have hr : Bd m s = Bd m s := rfl
 conv at hr => rhs; unfold Bd
 rw [om, bS]
 show ak (!wi s.id _ _) _ _ = _
 cases a : wi s.id 1 (i64.wrap (m.nextSnap - 1)) with
 | false => rw [a] at hr; rw [Bool.not_false, iT]; exact hj _ (by rw [hr]; rfl)
 | true =>
  rw [a] at hr
  rw [Bool.not_true, iF, om, bS]
  show ak (!wi s.parent _ _) _ _ = _
  cases b : wi s.parent 0 (i64.wrap (s.id - 1)) with
  | false => rw [b] at hr; rw [Bool.not_false, iT]; exact hj _ (by rw [hr]; rfl)
  | true =>
   rw [b] at hr
   rw [Bool.not_true, iF, om, bS]
   show ak (!wi s.seq _ _) _ _ = _
   cases c : wi s.seq 1 (i64.wrap (m.nextSeq - 1)) with
   | false => rw [c] at hr; rw [Bool.not_false, iT]; exact hj _ (by rw [hr]; rfl)
   | true =>
    rw [c] at hr
    rw [Bool.not_true, iF, om, bS]
    show ak (!wi s.schema _ _) _ _ = _
    cases d : wi s.schema 0 (i64.wrap ((m.schemas.length : Int) - 1)) with
    | false => rw [d] at hr; rw [Bool.not_false, iT]; exact hj _ (by rw [hr]; rfl)
    | true =>
     rw [d] at hr
     rw [Bool.not_true, iF, om, bS]
     show ak (!wi s.time _ _) _ _ = _
     cases e : wi s.time (-62135596800) 253402300799 with
     | false => rw [e] at hr; rw [Bool.not_false, iT]; exact hj _ (by rw [hr]; rfl)
     | true => rw [e] at hr; rw [Bool.not_true, iF, om, bS]; exact hj _ (by rw [hr]; rfl)
def zS : al := ⟨0, 0, 0, 0, 0, 0, [], [], []⟩
def JF (m : aw) (i : Int) : al := if i ≤ 0 then zS else (m.snapshots[(i - 1).toNat]?).getD zS
theorem RV {m : aw} (hm : qS m) : kA m aQ (0 : Int) (0 : Int) (0 : Int) (0 : Int) (0 : Int) (0 : Int) [] [] [] (0 : Int) = ee (fe (RK m) m.snapshots.length 0) (pX m) := by
 exact hU (L := fun k i => kA m k (JF m i).id (JF m i).parent (JF m i).seq (JF m i).schema (JF m i).time (JF m i).kind (JF m i).files (JF m i).dat (JF m i).dby i) (n := m.snapshots.length) (c := RK m) hm.snaps.1
  (fun k => by rw [kA, rW, iF])
  (fun k i hi => by
   have hs := hm.snaps.2 _ (iA hi)
   rw [kA, aW hi, iT, aE hi, bS]
   show au (kW m m.snapshots[i] (JF m i)) _ = _
   rw [Q0 hm hs, bS, iZ, aq hi hm.snaps.1]
   have hp : JF m ((i + 1 : Nat) : Int) = m.snapshots[i] := by
    unfold JF
    rw [if_neg (by omega), show (((i + 1 : Nat) : Int) - 1).toNat = i by omega, dh hi]; rfl
   rw [hp, GP hi, ← bu, ← bu, ← bu, ← bu]
   refine eP fun e => ?_
   obtain ⟨r1, r2⟩ := Nu ((CU (by decide)).1 e)
   congr 2
   by_cases h0 : 0 < i
   ·have hi1 : i - 1 < m.snapshots.length := by omega
    rw [decide_eq_true h0, dh hi1, Bool.true_and]
    have : JF m (i : Int) = m.snapshots[i - 1] := by
     unfold JF
     rw [if_neg (by omega), show ((i : Int) - 1).toNat = i - 1 by omega, dh hi1]; rfl
    rw [this]
   ·have : i = 0 := by omega
    subst this
    have hz : JF m ((0 : Nat) : Int) = zS := rfl
    rw [hz, decide_eq_false h0, Bool.false_and]
    show (decide (m.snapshots[0].id ≤ 0) || decide (m.snapshots[0].seq ≤ 0)) = false
    rw [decide_eq_false (by omega), decide_eq_false (by omega)]; rfl)
theorem Ee {m : aw} (hm : qS m) (h : fe (RK m) m.snapshots.length 0 = 0) : ∀ s ∈ m.snapshots, 1 ≤ s.id ∧ AJ s.files ∧ ∀ f ∈ s.files, Ok f := by
 intro s hs
 obtain ⟨i, hi, rfl⟩ := FY.1 hs
 have := Nc.1 h i (Nat.zero_le _) (by omega)
 rw [GP hi, oT, oT] at this
 have hh := this.2.2
 unfold PW at hh
 rw [oT] at hh
 obtain ⟨a, b⟩ := HG hm (hm.snaps.2 _ hs) hh.1
 exact ⟨(Nu ((CU (by decide)).1 this.1)).1, a, b⟩
end Go.Proofs.YtfnmbpecdjncfaaGreatDoor
