/- The calendar, in plain integers. Names, in plain terms. The fields of a type, in plain terms. The check of types and the common type, in plain terms. Texts and sound values, in plain terms. Values of a type, in plain terms; the law of Sound and Check. Rows: lists of fields. SameType: both answers are the same. CheckSchema: both answers are the same. CheckSchema, end; the law of types. Rows: CheckRows, of both sides. Adapt: fields that are found, types that widen, schemas that are adaptable. TransformType of both sides. Partitions: suits and the fields at the top, of both sides. Loops that look for the first error. Names of objects. Numbers of 256 bits: what 'times' and 'compare' compute. Comparing numbers of 256 bits. Compare, in plain terms. Compare is a total order. What the reference compares. The reference's Compare, in plain terms; the law 'ValueOrderMatchesSpec'. Values of leaves: what a check says of them; their order. Fields at the top, types of partition values, data files: both sides find the same error. Data files: both sides find the same error. Texts: their order. What is removed by keys: both sides find the same error. Snapshots: both sides find the same error. What is removed in a snapshot; all snapshots: both sides find the same error. All snapshots: both sides find the same error. -/
import Derived.Laws.Runes
import Derived.ChangeKeysEq
import Derived.Lib.Bytealg
import Derived.Sort.Statements
import Derived.Test.YtfnmbpecdjncfaaGreatDoorGeB
set_option linter.unusedVariables false
set_option linter.unusedSimpArgs false
set_option linter.unnecessarySimpa false
namespace Go.SX.Cal
open Go
theorem yB {x : Int} (h1 : -9223372036854775808 ≤ x) (h2 : x ≤ 9223372036854775807) : IntKind.i64.wrap x = x := by
 simp only [IntKind.wrap, IntKind.bits, IntKind.signed]
 simp only [Bool.true_and, decide_eq_true_eq, ge_iff_le]
 split <;> omega
def S (y : Int) : Int := 365 * y + y / 4 - y / 100
def F (r : Int) : Int := r - r / 1460 + r / 36524
def SM (y : Int) : Prop := y % 4 = 0 ∧ (y % 100 ≠ 0 ∨ y % 400 = 0)
instance (y : Int) : Decidable (SM y) := by unfold SM; infer_instance
def E (y : Int) : Int := y / 400 * 146097 + S (y % 400) - 719468
end Go.SX.Cal
namespace Go.Proofs.YtfnmbpecdjncfaaGreatDoor
open Go Go.SX Go.SX.Cal
theorem aJ {β : Type} (x y : Option β) : al true x y = x := rfl
theorem au {β : Type} (x y : Option β) : al false x y = y := rfl
theorem aO {β : Type} (b : Bool) (x y : Option β) : al b x y = if b = true then x else y := by cases b <;> rfl
theorem be : aX = 1152921504606846976 := rfl
def first (P : Nat → Bool) (i n : Nat) : Option Nat := (List.range' i (n - i)).find? P
theorem rL {P : Nat → Bool} {i n : Nat} (h : i < n) : first P i n = if P i = true then some i else first P (i + 1) n := by
 unfold first
 rw [show n - i = (n - (i + 1)) + 1 by omega, List.range'_succ, List.find?_cons]
 cases hp : P i <;> simp [hp]
theorem rS {P : Nat → Bool} {n : Nat} : first P n n = none := by simp [first]
theorem xd {P : Nat → Bool} {i n : Nat} : first P i n = none ↔ ∀ j, i ≤ j → j < n → P j = false := by
 unfold first
 rw [List.find?_eq_none]
 constructor
 ·intro h j h1 h2
  have := h j (by rw [List.mem_range'_1]; omega)
  simpa using this
 ·intro h j hj
  rw [List.mem_range'_1] at hj
  have := h j (by omega) (by omega)
  simp [this]
theorem q9 {β : Type} {f : Nat → Nat → Option β} {n : Nat} {P : Nat → Bool} {A : Nat → Option β} {B : Option β} (hstep : ∀ k i, i < n → f (k + 1) i = if P i = true then A i else f k (i + 1)) (hend : ∀ k, f (k + 1) n = B) :
  ∀ k i, i ≤ n → n - i < k → f k i = (first P i n).elim B A := by
 intro k
 induction k with
 | zero => intro i _ h; omega
 | succ k ih =>
  intro i hi hk
  by_cases h : i = n
  ·subst h
   rw [hend, rS]; rfl
  ·rw [hstep k i (by omega), rL (by omega)]
   by_cases hp : P i = true
   ·simp [hp]
   ·simp only [hp, if_false]
    exact ih (i + 1) (by omega) (by omega)
def kQ (s : ByteArray) (i : Nat) : Nat := (s.data.toList.getD i 0).toNat
theorem C5 (s : ByteArray) (i : Nat) (h : i < s.size) : (s.get! i).toNat = kQ s i := by
 unfold kQ
 have h' : i < s.data.size := h
 have : s.get! i = s.data.toList.getD i 0 := by
  simp only [ByteArray.get!, List.getD, Array.getElem?_toList]
  rw [getElem!_pos s.data i h', Array.getElem?_eq_getElem h']; rfl
 rw [this]
def rh (b : Nat) : Bool := decide (97 ≤ b) && decide (b ≤ 122)
def other (b : Nat) : Bool := b == 95 || (decide (48 ≤ b) && decide (b ≤ 57))
def F5 (b : Nat) : Bool := rh b || other b
theorem L2 (n : Nat) : tK (Int.ofNat n) = some (!F5 n) := by
 unfold tK gx
 simp only [aO, decide_eq_true_eq, Int.ofNat_eq_natCast]
 repeat' split
 all_goals (rw [Option.some.injEq, Bool.eq_iff_iff]; simp [F5, rh, other]; omega)
theorem B7 (s : ByteArray) (i : Nat) (h : i < s.size) (hb : kQ s i < 128) : Utf8.decode s i = (kQ s i, 1) := by
 have e := C5 s i h
 unfold Utf8.decode
 simp [e, hb]
theorem BS (s : ByteArray) (i : Nat) (h : i < s.size) (hb : ¬ kQ s i < 128) : 128 ≤ (Utf8.decode s i).1 := by
 have e := C5 s i h
 unfold Utf8.decode
 simp only [Nat.add_zero, e, if_neg hb, Utf8.runeError]
 repeat' split
 all_goals simp_all
 all_goals omega
def Oi (s : ByteArray) (i : Nat) : Bool := !F5 (kQ s i)
theorem F2 (s : ByteArray) : ∀ k i, i ≤ s.size → s.size - i < k → ∃ r, cu s true k i = some r ∧ (decide (0 ≤ r) = (first (Oi s) i s.size).isSome) := by
 intro k
 induction k with
 | zero => intro i _ h; omega
 | succ k ih =>
  intro i hi hk
  rw [cu]
  by_cases h : i = s.size
  ·subst h
   rw [rS]
   simp only [Nat.lt_irrefl, decide_false, au]
   exact ⟨-1, rfl, rfl⟩
  ·have hlt : i < s.size := by omega
   simp only [hlt, decide_true, aJ, L2, bf]
   rw [rL hlt]
   by_cases hb : kQ s i < 128
   ·rw [B7 s i hlt hb]
    simp only [Oi]
    by_cases hg : F5 (kQ s i) = true
    ·simp only [hg, Bool.not_true, aO]
     obtain ⟨r, h1, h2⟩ := ih (i + 1) (by omega) (by omega)
     exact ⟨r, by simpa using h1, by simpa [Oi] using h2⟩
    ·simp only [hg, Bool.not_false, aO]
     exact ⟨_, rfl, by simp⟩
   ·have h1 := BS s i hlt hb
    have g1 : F5 (Utf8.decode s i).1 = false := by
     generalize (Utf8.decode s i).1 = x at h1
     simp [F5, rh, other]; omega
    have g2 : Oi s i = true := by
     simp [Oi, F5, rh, other]; omega
    simp only [g1, g2, Bool.not_false, aO]
    exact ⟨_, rfl, by simp⟩
def rR (s : ByteArray) : Bool := decide (1 ≤ s.size) && decide (s.size ≤ 24) && rh (kQ s 0) && (first (Oi s) 0 s.size).isNone
theorem tV (s : ByteArray) : (s.toList == (ByteArray.mk #[]).toList) = decide (s.size = 0) := by
 rw [ByteArray.toList_eq, ByteArray.toList_eq, Bool.eq_iff_iff]
 show (s.data.toList == []) = true ↔ decide (s.data.size = 0) = true
 rw [← Array.length_toList]
 cases s.data.toList <;> simp
theorem LR (s : ByteArray) (hs : s.size < 1000000000) : rP s = some (rR s) := by
 obtain ⟨r, h1, h2⟩ := F2 s aX 0 (Nat.zero_le _) (by rw [be]; omega)
 unfold rP nA fY gY gV
 rw [h1, tV]
 simp only [bf, h2, aO]
 by_cases z0 : s.size = 0
 ·simp [z0, rR]
 ·by_cases z1 : 24 < s.size
  ·have : ¬ s.size ≤ 24 := by omega
   simp [z0, z1, rR, this, show (24 : Int) < (s.size : Int) by omega]
  ·have hz : ¬ (24 : Int) < (s.size : Int) := by omega
   have hb : ((s.data.toList.getD (0 : Int).toNat 0).toNat : Int) = (kQ s 0 : Int) := rfl
   simp only [z0, decide_false, hz, Bool.false_eq_true, if_false, hb]
   rw [ga (by omega), ga (by omega)]
   simp only [decide_eq_true_eq]
   have : s.size ≤ 24 := by omega
   by_cases q1 : kQ s 0 < 97
   ·have : ¬ 97 ≤ kQ s 0 := by omega
    simp [show (kQ s 0 : Int) < 97 by omega, rR, rh, this]
   ·by_cases q2 : 122 < kQ s 0
    ·have : ¬ kQ s 0 ≤ 122 := by omega
     simp [show ¬ (kQ s 0 : Int) < 97 by omega, show (122 : Int) < (kQ s 0 : Int) by omega, rR, rh, this]
    ·simp [show ¬ (kQ s 0 : Int) < 97 by omega, show ¬ (122 : Int) < (kQ s 0 : Int) by omega, rR, rh, show 1 ≤ s.size by omega, this, show 97 ≤ kQ s 0 by omega, show kQ s 0 ≤ 122 by omega]
def Ej (s : ByteArray) (i : Nat) : Bool := !rh (kQ s i) && (i == 0 || !other (kQ s i))
theorem IF (s : ByteArray) (hs : s.size < 1000000000) (k i : Nat) (hi : i < s.size) : eK s (k + 1) (i : Int) = if Ej s i = true then some false else eK s k ((i + 1 : Nat) : Int) := by
 rw [eK, ← aO]
 have hb : ((s.data.toList.getD (i : Int).toNat 0).toNat : Int) = (kQ s i : Int) := rfl
 have hw : IntKind.i64.wrap ((i : Int) + 1) = ((i + 1 : Nat) : Int) := by rw [yB (by omega) (by omega)]; omega
 have hg : 0 ≤ (i : Int) ∧ (i : Int) < (s.size : Int) := by omega
 rw [show decide ((i : Int) < (s.size : Int)) = true by simp [hg.2], aJ]
 simp only [tI, qU, qu, hb, hw, bf, ga hg]
 have e1 : ((kQ s i : Int) == 95) = (kQ s i == 95) := by rw [Bool.eq_iff_iff]; simp; omega
 have e2 : (decide ((97 : Int) ≤ kQ s i)) = decide (97 ≤ kQ s i) := by rw [Bool.eq_iff_iff]; simp; omega
 have e3 : (decide ((kQ s i : Int) ≤ 122)) = decide (kQ s i ≤ 122) := by rw [Bool.eq_iff_iff]; simp; omega
 have e4 : (decide ((48 : Int) ≤ kQ s i)) = decide (48 ≤ kQ s i) := by rw [Bool.eq_iff_iff]; simp; omega
 have e5 : (decide ((kQ s i : Int) ≤ 57)) = decide (kQ s i ≤ 57) := by rw [Bool.eq_iff_iff]; simp; omega
 have e6 : ((i : Int) == 0) = (i == 0) := by rw [Bool.eq_iff_iff]; simp
 simp only [e1, e2, e3, e4, e5, e6, Ej, rh, other]
 generalize hq : eK s k ((i + 1 : Nat) : Int) = q
 generalize (kQ s i == 95) = b1
 generalize decide (97 ≤ kQ s i) = b2
 generalize decide (kQ s i ≤ 122) = b3
 generalize decide (48 ≤ kQ s i) = b4
 generalize decide (kQ s i ≤ 57) = b5
 generalize (i == 0) = b6
 cases b1 <;> cases b2 <;> cases b3 <;> cases b4 <;> cases b5 <;> cases b6 <;> rfl
theorem LX (s : ByteArray) (hs : s.size < 1000000000) : tS s = some (rR s) := by
 have hl := q9 (f := fun k i => eK s k (i : Int)) (n := s.size) (P := Ej s) (A := fun _ => some false) (B := some true) (fun k i hi => IF s hs k i hi)
  (fun k => by rw [eK]; simp only [Int.lt_irrefl, decide_false, au]; rfl) aX 0 (Nat.zero_le _) (by rw [be]; omega)
 have hl : eK s aX (0 : Int) = _ := hl
 unfold tS tN
 rw [hl]
 simp only [aO]
 by_cases z0 : s.size = 0
 ·simp [z0, rR]
 ·by_cases z1 : 24 < s.size
  ·have : ¬ s.size ≤ 24 := by omega
   simp [z0, z1, rR, this, show (24 : Int) < (s.size : Int) by omega]
  ·have hz : ¬ (24 : Int) < (s.size : Int) := by omega
   have hz2 : ¬ (s.size : Int) < 1 := by omega
   simp only [hz, hz2, decide_false, Bool.false_eq_true, if_false]
   have e : (first (Ej s) 0 s.size).isNone = (rh (kQ s 0) && (first (Oi s) 0 s.size).isNone) := by
    rw [Bool.eq_iff_iff, Bool.and_eq_true, Option.isNone_iff_eq_none, Option.isNone_iff_eq_none, xd, xd]
    constructor
    ·intro h
     have h0 := h 0 (Nat.le_refl _) (by omega)
     simp only [Ej, beq_self_eq_true, Bool.true_or, Bool.and_true] at h0
     have h0' : rh (kQ s 0) = true := by simpa using h0
     refine ⟨h0', fun j _ hj => ?_⟩
     have h1 := h j (Nat.zero_le _) hj
     simp only [Ej, Oi, F5] at h1 ⊢
     cases hs : rh (kQ s j) <;> cases ho : other (kQ s j) <;> simp_all
    ·rintro ⟨h0, h⟩ j _ hj
     have h1 := h j (Nat.zero_le _) hj
     simp only [Ej, Oi, F5] at h1 ⊢
     by_cases hj0 : j = 0
     ·subst hj0; simp [h0]
     ·cases hs : rh (kQ s j) <;> cases ho : other (kQ s j) <;> simp_all
   have : (first (Ej s) 0 s.size).elim (some true) (fun _ => some false) = some ((first (Ej s) 0 s.size).isNone) := by cases first (Ej s) 0 s.size <;> rfl
   rw [this, e]
   simp [rR, show 1 ≤ s.size by omega, show s.size ≤ 24 by omega]
end Go.Proofs.YtfnmbpecdjncfaaGreatDoor
namespace Go.Proofs.YtfnmbpecdjncfaaGreatDoor
open Go Go.SX Go.SX.Cal
mutual
def kr : ap → Nat
 | ⟨_, _, fs⟩ => eV fs + 1
def eV : List (ko ap) → Nat
 | [] => 0
 | f :: l => tY f + eV l
def tY : ko ap → Nat
 | ⟨_, n, _, t⟩ => n.size + kr t + 1
end
theorem jA : ∀ {l : List ac} {x : ac}, x ∈ l → tY x ≤ eV l
 | [], _, h => by cases h
 | y :: l, x, h => by
  simp only [eV]
  rcases List.mem_cons.1 h with rfl | h
  ·omega
  ·have := jA h; omega
theorem i0 : ∀ x : ac, tY x = x.name.size + kr x.type + 1
 | ⟨_, _, _, _⟩ => by simp only [tY]
theorem ph : ∀ x : ap, kr x = eV x.fields + 1
 | ⟨_, _, _⟩ => by simp only [kr]
theorem eg : ∀ l : List ac, l.length ≤ eV l
 | [] => by simp [eV]
 | x :: l => by
  have := eg l
  have := i0 x
  simp only [eV, List.length_cons]; omega
theorem ar {i n : Nat} (h : i < n) (hn : n < 1000000000) : IntKind.i64.wrap ((i : Int) + 1) = ((i + 1 : Nat) : Int) := by rw [yB (by omega) (by omega)]; omega
theorem aN {α : Type} {xs : List α} {i : Nat} (h : i < xs.length) : at? xs (i : Int) = some xs[i] := by unfold at?; simp [h]
theorem bc {i n : Nat} (h : i < n) : decide ((i : Int) < (n : Int)) = true := by simp [h]
def RB (fs : List ac) (i : Nat) : ByteArray := (fs[i]?.map (·.name)).getD ByteArray.empty
theorem yt {fs : List ac} {i : Nat} (h : i < fs.length) : RB fs i = fs[i].name := by simp [RB, h]
def Aq (fs : List ac) (i : Nat) : Bool := !rR (RB fs i)
def Rc (fs : List ac) (i j : Nat) : Bool := (RB fs j).toList == (RB fs i).toList
def FC (fs : List ac) (i : Nat) : Bool := (first (Rc fs i) 0 i).isSome
def Ie (fs : List ac) : Bool := (first (Aq fs) 0 fs.length).isSome
def GO (fs : List ac) : Bool := (first (FC fs) 0 fs.length).isSome
structure BN (fs : List ac) : Prop where
 len : fs.length < 1000000000
 nam : ∀ f ∈ fs, f.name.size < 1000000000
theorem Of {fs : List ac} (h : eV fs < 1000000000) : BN fs :=
 ⟨by have := eg fs; omega, fun f hf => by have := jA hf; have := i0 f; omega⟩
theorem Pd : ∀ f : ac, ko.mk f.id f.name f.need (ap.mk f.type.kind f.type.scale f.type.fields) = f
 | ⟨_, _, _, ⟨_, _, _⟩⟩ => rfl
theorem Kl {fs : List ac} (ho : BN fs) : bW fs = some (Ie fs) := by
 have hl := q9 (f := fun k i => aK fs k (i : Int)) (n := fs.length) (P := Aq fs) (A := fun i => some (i : Int)) (B := some (-1)) (fun k i hi => by
   show aK fs (k + 1) (i : Int) = _
   rw [aK, bc hi, aJ, aN hi, bf, uh, LR _ (ho.nam _ (List.getElem_mem hi)), ar hi ho.len]
   simp only [bf, aO, Aq, yt hi])
  (fun k => by rw [aK]; simp only [Int.lt_irrefl, decide_false, au]; rfl) aX 0 (Nat.zero_le _) (by rw [be]; have := ho.len; omega)
 have hl : aK fs aX (0 : Int) = _ := hl
 unfold bW cX
 rw [hl]
 unfold Ie
 cases first (Aq fs) 0 fs.length with
 | none => rfl
 | some j => simp [bf]
theorem KG {fs : List ac} (ho : BN fs) {i : Nat} (hi : i < fs.length) : bX ((fs.drop (0 : Int).toNat).take ((i : Int).toNat - (0 : Int).toNat)) fs[i] = some (FC fs i, fs[i]) := by
 have ep : (fs.drop (0 : Int).toNat).take ((i : Int).toNat - (0 : Int).toNat) = fs.take i := by simp
 rw [ep]
 have hlen : (fs.take i).length = i := by simp; omega
 have hl := q9 (f := fun k j => aB (fs.take i) k fs[i].id fs[i].name fs[i].need fs[i].type.kind fs[i].type.scale fs[i].type.fields (j : Int)) (n := i) (P := Rc fs i) (A := fun j => some ((j : Int), fs[i])) (B := some (-1, fs[i])) (fun k j hj => by
   have hj' : j < (fs.take i).length := by rw [hlen]; exact hj
   have hjf : j < fs.length := by omega
   show aB (fs.take i) (k + 1) _ _ _ _ _ _ (j : Int) = _
   rw [aB, bc hj', aJ, aN hj', bf, ve, ar hj (by have := ho.len; omega)]
   simp only [bf, aO, Rc, yt hi, yt hjf, List.getElem_take, Pd])
  (fun k => by
   show aB (fs.take i) (k + 1) _ _ _ _ _ _ (i : Int) = _
   rw [aB]; simp only [hlen, Int.lt_irrefl, decide_false, au, cJ, Pd]) aX 0 (Nat.zero_le _) (by rw [be]; have := ho.len; omega)
 have hl : aB (fs.take i) aX _ _ _ _ _ _ (0 : Int) = _ := hl
 unfold bX cV
 rw [hl]
 unfold FC
 cases first (Rc fs i) 0 i with
 | none => rfl
 | some j => simp [bf]
theorem G4 {t : ap} (ho : BN t.fields) : fE t aX (0 : Int) = some (if GO t.fields = true then 5 else 0) := by
 have hl := q9 (f := fun k i => fE t k (i : Int)) (n := t.fields.length) (P := FC t.fields) (A := fun _ => some 5) (B := some 0) (fun k i hi => by
   show fE t (k + 1) (i : Int) = _
   rw [fE, bc hi, aJ, aN hi, bf, ga (by omega), KG ho hi, ar hi ho.len]
   simp only [bf, aO])
  (fun k => by rw [fE]; simp only [Int.lt_irrefl, decide_false, au]; rfl) aX 0 (Nat.zero_le _) (by rw [be]; have := ho.len; omega)
 have hl : fE t aX (0 : Int) = _ := hl
 rw [hl]
 unfold GO
 cases first (FC t.fields) 0 t.fields.length <;> rfl
theorem Nd {t : ap} (ho : BN t.fields) (rec2 : Int → Option Int) {i : Nat} (hi : i < t.fields.length) : gm rec2 t (i : Int) aX (0 : Int) = if FC t.fields i = true then some 5 else rec2 ((i + 1 : Nat) : Int) := by
 have hl := q9 (f := fun k j => gm rec2 t (i : Int) k (j : Int)) (n := i) (P := Rc t.fields i) (A := fun j => some 5) (B := rec2 ((i + 1 : Nat) : Int)) (fun k j hj => by
   have hjf : j < t.fields.length := by omega
   show gm rec2 t (i : Int) (k + 1) (j : Int) = _
   rw [gm, bc hj, aJ, aN hjf, aN hi, ar hj (by have := ho.len; omega)]
   simp only [bf, aO, Rc, yt hi, yt hjf])
  (fun k => by
   show gm rec2 t (i : Int) (k + 1) (i : Int) = _
   rw [gm]; simp only [Int.lt_irrefl, decide_false, au, wl]; rw [ar hi ho.len]) aX 0 (Nat.zero_le _) (by rw [be]; have := ho.len; omega)
 have hl : gm rec2 t (i : Int) aX (0 : Int) = _ := hl
 rw [hl]
 unfold FC
 cases first (Rc t.fields i) 0 i <;> simp
theorem Ni {t : ap} (ho : BN t.fields) : fx t aX (0 : Int) = some (if GO t.fields = true then 5 else 0) := by
 have hl := q9 (f := fun k i => fx t k (i : Int)) (n := t.fields.length) (P := FC t.fields) (A := fun _ => some 5) (B := some 0) (fun k i hi => by
   show fx t (k + 1) (i : Int) = _
   rw [fx, bc hi, aJ, Nd ho _ hi])
  (fun k => by rw [fx]; simp only [Int.lt_irrefl, decide_false, au]; rfl) aX 0 (Nat.zero_le _) (by rw [be]; have := ho.len; omega)
 have hl : fx t aX (0 : Int) = _ := hl
 rw [hl]
 unfold GO
 cases first (FC t.fields) 0 t.fields.length <;> rfl
theorem NP {t : ap} (ho : BN t.fields) : hU t aX (0 : Int) = some (if Ie t.fields = true then 4 else if GO t.fields = true then 5 else 0) := by
 have hl := q9 (f := fun k i => hU t k (i : Int)) (n := t.fields.length) (P := Aq t.fields) (A := fun _ => some 4) (B := some (if GO t.fields = true then 5 else 0)) (fun k i hi => by
   show hU t (k + 1) (i : Int) = _
   rw [hU, bc hi, aJ, aN hi, bf, LX _ (ho.nam _ (List.getElem_mem hi)), ar hi ho.len]
   simp only [bf, aO, Aq, yt hi])
  (fun k => by rw [hU]; simp only [Int.lt_irrefl, decide_false, au, vY]; exact Ni ho) aX 0 (Nat.zero_le _) (by rw [be]; have := ho.len; omega)
 have hl : hU t aX (0 : Int) = _ := hl
 rw [hl]
 unfold Ie
 cases first (Aq t.fields) 0 t.fields.length <;> rfl
def vf (t : ap) : Int :=
 if t.kind = 6 then (if t.fields.length ≠ 1 ∨ (RB t.fields 0).size ≠ 0 then 1 else 0)
 else if t.kind ≠ 7 then (if 0 < t.fields.length then 1 else 0)
 else if t.fields.length = 0 then 1 else if Ie t.fields = true then 4 else if GO t.fields = true then 5 else 0
def Du (t : ap) : Prop := t.scale ≠ 0 ∧ (t.kind ≠ 3 ∨ t.scale < 0 ∨ 12 < t.scale)
instance (t : ap) : Decidable (Du t) := by unfold Du; infer_instance
def shp (t : ap) : Int := if t.kind < 1 ∨ 7 < t.kind then 3 else if Du t then 1 else vf t
theorem O5 {t : ap} (ho : BN t.fields) : tH t = some (vf t) := by
 unfold tH pT vf
 rw [Kl ho, G4 ho]
 simp only [bf, aO]
 by_cases h6 : t.kind = 6
 ·simp only [h6, beq_self_eq_true, if_true]
  by_cases hl : t.fields.length = 1
  ·have : (0 : Nat) < t.fields.length := by omega
   rw [show at? t.fields (0 : Int) = some t.fields[0] from aN (i := 0) this]
   simp only [hl, bf, tV, yt this]
   by_cases hz : t.fields[0].name.size = 0 <;> simp [hz]
  ·simp [hl, show ((t.fields.length : Int) = 1) = False from eq_false (by omega)]
 ·by_cases h7 : t.kind = 7
  ·simp [h7]
   by_cases hl : t.fields = []
   ·simp [hl]
   ·simp [hl]
    by_cases hb : Ie t.fields = true
    ·simp [hb]
    ·simp [hb]
  ·simp [h6, h7]
   by_cases hl : 0 < t.fields.length
   ·simp [hl]
   ·simp [hl]
theorem Qa {t : ap} (ho : BN t.fields) : xg t = some (shp t) := by
 have hj3 : ∀ x, j7 t x = if x = true then some 1 else if t.kind ≠ 7 then some 0 else some (if Ie t.fields = true then 4 else if GO t.fields = true then 5 else 0) := by
  intro x
  unfold j7
  rw [NP ho]
  cases x <;> simp [aO]
 have hleaf : gO t.kind = some (decide (t.kind ≠ 6 ∧ t.kind ≠ 7)) := by
  unfold gO qt
  by_cases h6 : t.kind = 6 <;> by_cases h7 : t.kind = 7 <;> simp [h6, h7, aO]
 have hj1 : ∀ x, j8 t x = if x = true then some 1 else some (vf t) := by
  intro x
  cases x with
  | true => rfl
  | false =>
   unfold j8 pl vf
   rw [hleaf]
   simp only [aO, bf, hj3]
   by_cases h6 : t.kind = 6
   ·simp only [h6, beq_self_eq_true, if_true]
    by_cases hl : t.fields.length = 1
    ·have : (0 : Nat) < t.fields.length := by omega
     rw [show at? t.fields (0 : Int) = some t.fields[0] from aN (i := 0) this]
     simp only [hl, bf, tV, yt this]
     by_cases hz : t.fields[0].name.size = 0 <;> simp [hz]
    ·simp [hl, show ((t.fields.length : Int) = 1) = False from eq_false (by omega)]
   ·by_cases h7 : t.kind = 7
    ·simp [h7]
     by_cases hl : t.fields = []
     ·simp [hl]
     ·simp [hl]
    ·simp [h6, h7]
     by_cases hl : 0 < t.fields.length
     ·simp [hl]
     ·simp [hl]
 unfold xg shp fZ ow
 simp only [aO, hj1, bf]
 by_cases a1 : t.kind < 1
 ·simp [a1, show ¬ (1 : Int) ≤ t.kind by omega, bf]
 ·by_cases a2 : 7 < t.kind
  ·simp [a2, show (1 : Int) ≤ t.kind by omega, show ¬ t.kind ≤ 7 by omega, bf]
  ·simp only [a1, a2, show (1 : Int) ≤ t.kind by omega, show t.kind ≤ 7 by omega, decide_true, or_self, if_false, if_true, Bool.not_true, bf]
   unfold Du
   by_cases h3 : t.kind = 3
   ·by_cases b1 : t.scale < 0
    ·simp [h3, b1, show ¬ (0 : Int) ≤ t.scale by omega, show t.scale ≠ 0 by omega, bf]
    ·by_cases b2 : 12 < t.scale
     ·simp [h3, b1, b2, show (0 : Int) ≤ t.scale by omega, show ¬ t.scale ≤ 12 by omega, show t.scale ≠ 0 by omega, bf]
     ·simp [h3, b1, b2, show (0 : Int) ≤ t.scale by omega, show t.scale ≤ 12 by omega, bf]
   ·by_cases b0 : t.scale = 0 <;> simp [h3, b0]
end Go.Proofs.YtfnmbpecdjncfaaGreatDoor
namespace Go.Proofs.YtfnmbpecdjncfaaGreatDoor
open Go Go.SX Go.SX.Cal
inductive V : ap → Prop where
 | mk (t : ap) (h1 : shp t = 0) (h2 : ∀ f, f ∈ t.fields → V f.type) : V t
theorem Sp (t : ap) : vo t = some (decide (t.kind ≠ 6 ∧ t.kind ≠ 7)) := by
 unfold vo sr
 by_cases h6 : t.kind = 6 <;> by_cases h7 : t.kind = 7 <;> simp [h6, h7, aO]
theorem EO (k : Int) : gO k = some (decide (k ≠ 6 ∧ k ≠ 7)) := by
 unfold gO qt
 by_cases h6 : k = 6 <;> by_cases h7 : k = 7 <;> simp [h6, h7, aO]
theorem Og {t : ap} (ho : BN t.fields) (q : ap → Int → dF → Option (Int × dF)) (l z : Int) :
  fM q t l z = if shp t ≠ 0 then some (shp t, ⟨z⟩) else dO q t l aX z 0 := by
 have hj4 : ∀ x, eG q t l z x = if x = true then some (1, ⟨z⟩) else if vf t ≠ 0 then some (vf t, ⟨z⟩) else dO q t l aX z 0 := by
  intro x
  unfold eG
  rw [O5 ho]
  cases x <;> simp [aO, bf]
 unfold fM jY shp
 simp only [aO, hj4]
 by_cases a1 : t.kind < 1
 ·simp [a1]
 ·by_cases a2 : 7 < t.kind
  ·simp [a1, a2]
  ·simp only [a1, a2, decide_false, or_self, if_false, Bool.false_eq_true]
   unfold Du
   by_cases b0 : t.scale = 0
   ·simp [b0]
   ·by_cases h3 : t.kind = 3
    ·by_cases b1 : t.scale < 0
     ·simp [b0, h3, b1]
     ·by_cases b2 : 12 < t.scale
      ·simp [b0, h3, b1, b2]
      ·simp [b0, h3, b1, b2]
    ·simp [b0, h3]
theorem OI {t : ap} (ho : BN t.fields) (q : ap → Int → Int → Option (Int × Int)) (l z : Int) :
  jC q t l z = if shp t ≠ 0 then some (shp t, z) else iu q t l aX z 0 := by
 unfold jC
 rw [Qa ho]
 simp [aO, bf]
theorem Tw {t : ap} (h : shp t = 0) (hf : ∀ f ∈ t.fields, V f.type) : V t := .mk t h hf
theorem Ij {t : ap} (ho : BN t.fields) (l : Int) (hl0 : -10 ≤ l) (hl1 : l ≤ 10) (q1 : ap → Int → dF → Option (Int × dF)) (q2 : ap → Int → Int → Option (Int × Int))
  (hq : ∀ f ∈ t.fields, ∀ n : Int, 0 ≤ n → n ≤ 40 → ∃ e m, q1 f.type (l + 1) ⟨n⟩ = some (e, ⟨m⟩) ∧ q2 f.type (l + 1) n = some (e, m) ∧ 0 ≤ m ∧ m ≤ 40 ∧ (e = 0 → V f.type)) :
  ∀ (kk i : Nat) (n : Int), i ≤ t.fields.length → t.fields.length - i < kk → 0 ≤ n → n ≤ 40 →
   ∃ e m, dO q1 t l kk n (i : Int) = some (e, ⟨m⟩) ∧ iu q2 t l kk n (i : Int) = some (e, m) ∧ 0 ≤ m ∧ m ≤ 40 ∧ (e = 0 → ∀ j, i ≤ j → ∀ h : j < t.fields.length, V t.fields[j].type) := by
 intro kk
 induction kk with
 | zero => intro i n _ h; omega
 | succ kk ih =>
  intro i n hi hk n0 n1
  rw [dO, iu]
  by_cases h : i = t.fields.length
  ·subst h
   simp only [Int.lt_irrefl, decide_false, au]
   exact ⟨0, n, rfl, rfl, n0, n1, fun _ j h1 h2 => by omega⟩
  ·have hlt : i < t.fields.length := by omega
   rw [bc hlt, aJ, aJ, aN hlt, bf, bf, yB (x := l + 1) (by omega) (by omega), ar hlt ho.len]
   obtain ⟨e, m, h1, h2, h3, h4, h5⟩ := hq _ (List.getElem_mem hlt) n n0 n1
   rw [h1, h2]
   simp only [bf, aO]
   by_cases he : e = 0
   ·obtain ⟨e', m', g1, g2, g3, g4, g5⟩ := ih (i + 1) m (by omega) (by omega) h3 h4
    refine ⟨e', m', by simpa [he] using g1, by simpa [he] using g2, g3, g4, fun h0 j hj hjl => ?_⟩
    by_cases hji : j = i
    ·subst hji; exact h5 he
    ·exact g5 h0 j (by omega) hjl
   ·exact ⟨e, m, by simp [he], by simp [he], h3, h4, fun h0 => absurd h0 he⟩
theorem Nr : ∀ (d k : Nat) (t : ap) (l n : Int), l = 5 - d → d ≤ 5 → d < k → kr t < 1000000000 → 0 ≤ n → n ≤ 40 →
  ∃ e m, bG k t l ⟨n⟩ = some (e, ⟨m⟩) ∧ eh k t l n = some (e, m) ∧ 0 ≤ m ∧ m ≤ 40 ∧ (e = 0 → V t) := by
 intro d
 induction d with
 | zero =>
  intro k t l n hl _ hk hs n0 n1
  obtain ⟨k, rfl⟩ : ∃ k', k = k' + 1 := ⟨k - 1, by omega⟩
  have hl4 : (4 : Int) < l := by omega
  rw [bG, eh]
  simp only [hl4, decide_true, aJ, fL]
  exact ⟨7, n, rfl, rfl, n0, n1, fun h => by omega⟩
 | succ d ih =>
  intro k t l n hl hd hk hs n0 n1
  obtain ⟨k, rfl⟩ : ∃ k', k = k' + 1 := ⟨k - 1, by omega⟩
  have hl4 : ¬ (4 : Int) < l := by omega
  have hsz := ph t
  have ho : BN t.fields := Of (by omega)
  have hq : ∀ f ∈ t.fields, ∀ n : Int, 0 ≤ n → n ≤ 40 → ∃ e m, bG k f.type (l + 1) ⟨n⟩ = some (e, ⟨m⟩) ∧ eh k f.type (l + 1) n = some (e, m) ∧ 0 ≤ m ∧ m ≤ 40 ∧ (e = 0 → V f.type) := by
   intro f hf n n0 n1
   have h1 := jA hf
   have h2 := i0 f
   exact ih k f.type (l + 1) n (by omega) (by omega) (by omega) (by omega) n0 n1
  have main : ∀ z : Int, 0 ≤ z → z ≤ 40 → ∃ e m, fM (bG k) t l z = some (e, ⟨m⟩) ∧ jC (eh k) t l z = some (e, m) ∧ 0 ≤ m ∧ m ≤ 40 ∧ (e = 0 → V t) := by
   intro z z0 z1
   rw [Og ho, OI ho]
   by_cases hsh : shp t = 0
   ·obtain ⟨e, m, h1, h2, h3, h4, h5⟩ := Ij ho l (by omega) (by omega) _ _ hq aX 0 z (Nat.zero_le _) (by rw [be]; have := ho.len; omega) z0 z1
    refine ⟨e, m, by simpa [hsh] using h1, by simpa [hsh] using h2, h3, h4, fun he => Tw hsh (fun f hf => ?_)⟩
    obtain ⟨j, hj, rfl⟩ := List.getElem_of_mem hf
    exact h5 he j (Nat.zero_le _) hj
   ·exact ⟨shp t, z, by simp [hsh], by simp [hsh], z0, z1, fun h => absurd h hsh⟩
  rw [bG, eh]
  simp only [hl4, decide_false, au, Sp, EO, bf, fL]
  by_cases hleaf : t.kind ≠ 6 ∧ t.kind ≠ 7
  ·simp only [hleaf, ne_eq, not_false_eq_true, and_self, decide_true, aJ]
   by_cases h40 : n = 40
   ·simp only [h40, beq_self_eq_true, aJ]
    exact ⟨7, 40, rfl, rfl, by omega, by omega, fun h => by omega⟩
   ·have : (n == 40) = false := by simpa using h40
    simp only [this, au]
    rw [yB (x := n + 1) (by omega) (by omega)]
    exact main (n + 1) (by omega) (by omega)
  ·simp only [hleaf, decide_false, au]
   exact main n n0 n1
theorem oV (t : ap) (hs : kr t < 1000000000) : ∃ e, fI t = some e ∧ jk t = some e ∧ (e = 0 → V t) := by
 obtain ⟨e, m, h1, h2, h3, h4, h5⟩ := Nr 4 aX t 1 0 (by omega) (by omega) (by rw [be]; omega) hs (by omega) (by omega)
 refine ⟨e, ?_, ?_, h5⟩
 ·unfold fI; rw [h1]; rfl
 ·unfold jk; rw [h2]; rfl
end Go.Proofs.YtfnmbpecdjncfaaGreatDoor
namespace Go.Proofs.YtfnmbpecdjncfaaGreatDoor
open Go Go.SX Go.SX.Cal Go.Lib
mutual
def eP : ae → Nat
 | ⟨_, _, _, s, it⟩ => s.size + nW it + 1
def nW : List ae → Nat
 | [] => 0
 | x :: l => eP x + nW l
end
theorem yI : ∀ v : ae, eP v = v.s.size + nW v.items + 1
 | ⟨_, _, _, _, _⟩ => by simp only [eP]
theorem nD : ∀ {l : List ae} {x : ae}, x ∈ l → eP x ≤ nW l
 | [], _, h => by cases h
 | y :: l, x, h => by
  simp only [nW]
  rcases List.mem_cons.1 h with rfl | h
  ·omega
  ·have := nD h; omega
theorem ww : ∀ v : ae, 1 ≤ eP v
 | ⟨_, _, _, _, _⟩ => by simp only [eP]; omega
theorem oQ : ∀ l : List ae, l.length ≤ nW l
 | [] => by simp [nW]
 | x :: l => by
  have := oQ l
  have := ww x
  simp only [nW, List.length_cons]; omega
theorem C7 (b x : Bool) : al b (some x) (some false) = some (b && x) := by cases b <;> rfl
theorem cL {α β : Type} (a : α) (f : α → Option β) : aw (some a) f = f a := rfl
theorem DA {P : Nat → Bool} {n : Nat} : ∀ (d i : Nat), i + d ≤ n → (∀ j, i ≤ j → j < i + d → P j = false) → first P i n = first P (i + d) n
 | 0, i, _, _ => rfl
 | d + 1, i, h, hP => by
  rw [rL (by omega), hP i (by omega) (by omega)]
  simp only [Bool.false_eq_true, if_false]
  rw [DA d (i + 1) (by omega) (fun j h1 h2 => hP j (by omega) (by omega))]
  congr 1; omega
theorem Gb (s : ByteArray) (i : Nat) (h : i < s.size) (hb : ¬ kQ s i < 128) :
  1 ≤ (Utf8.decode s i).2 ∧ i + (Utf8.decode s i).2 ≤ s.size ∧ ∀ j, i ≤ j → j < i + (Utf8.decode s i).2 → 128 ≤ kQ s j := by
 have e := C5 s i h
 have one : ∀ j, i ≤ j → j < i + 1 → 128 ≤ kQ s j := fun j h1 h2 => by
  have : j = i := by omega
  subst this; omega
 have ct : ∀ k, (decide (i + k < s.size) && (s.get! (i + k)).toNat / 64 == 2) = true → i + k < s.size ∧ 128 ≤ kQ s (i + k) := by
  intro k hk
  simp only [Bool.and_eq_true, decide_eq_true_eq, beq_iff_eq] at hk
  rw [C5 s _ hk.1] at hk
  exact ⟨hk.1, by omega⟩
 unfold Utf8.decode
 simp only [Nat.add_zero, e, if_neg hb]
 split
 ·rename_i h1
  simp only [Bool.and_eq_true] at h1
  obtain ⟨l1, b1⟩ := ct 1 (by simpa using h1.2)
  split
  ·refine ⟨by simp, by simp only; omega, fun j h2 h3 => ?_⟩
   simp only at h3
   by_cases hj : j = i
   ·subst hj; omega
   ·have : j = i + 1 := by omega
    subst this; exact b1
  ·exact ⟨by simp, by simp only; omega, one⟩
 ·split
  ·rename_i h1
   simp only [Bool.and_eq_true] at h1
   obtain ⟨l1, b1⟩ := ct 1 (by simpa using h1.1.2)
   obtain ⟨l2, b2⟩ := ct 2 (by simpa using h1.2)
   split
   ·refine ⟨by simp, by simp only; omega, fun j h2 h3 => ?_⟩
    simp only at h3
    by_cases hj : j = i
    ·subst hj; omega
    ·by_cases hj : j = i + 1
     ·subst hj; exact b1
     ·have : j = i + 2 := by omega
      subst this; exact b2
   ·exact ⟨by simp, by simp only; omega, one⟩
  ·split
   ·rename_i h1
    simp only [Bool.and_eq_true] at h1
    obtain ⟨l1, b1⟩ := ct 1 (by simpa using h1.1.1.2)
    obtain ⟨l2, b2⟩ := ct 2 (by simpa using h1.1.2)
    obtain ⟨l3, b3⟩ := ct 3 (by simpa using h1.2)
    split
    ·refine ⟨by simp, by simp only; omega, fun j h2 h3 => ?_⟩
     simp only at h3
     by_cases hj : j = i
     ·subst hj; omega
     ·by_cases hj : j = i + 1
      ·subst hj; exact b1
      ·by_cases hj : j = i + 2
       ·subst hj; exact b2
       ·have : j = i + 3 := by omega
        subst this; exact b3
    ·exact ⟨by simp, by simp only; omega, one⟩
   ·exact ⟨by simp, by simp only; omega, one⟩
def HF (s : ByteArray) (i : Nat) : Bool := decide (kQ s i < 32) || kQ s i == 127
theorem HK (s : ByteArray) : ∀ k i, i ≤ s.size → s.size - i < k → j5 s k i = some (first (HF s) i s.size).isNone := by
 intro k
 induction k with
 | zero => intro i _ h; omega
 | succ k ih =>
  intro i hi hk
  rw [j5]
  by_cases h : i = s.size
  ·subst h
   rw [rS]
   simp only [Nat.lt_irrefl, decide_false, au, vW]
   rfl
  ·have hlt : i < s.size := by omega
   simp only [hlt, decide_true, aJ, so, aO]
   by_cases hb : kQ s i < 128
   ·rw [B7 s i hlt hb, rL hlt]
    by_cases h1 : kQ s i < 32
    ·have : HF s i = true := by simp [HF, h1]
     simp [this, show ((kQ s i : Nat) : Int) < 32 by omega]
    ·have e1 : ¬ ((kQ s i : Nat) : Int) < 32 := by omega
     by_cases h2 : kQ s i = 127
     ·have : HF s i = true := by simp [HF, h2]
      simp [this, h2]
     ·have : HF s i = false := by simp [HF, h1, h2]
      have e2 : ¬ ((kQ s i : Nat) : Int) = 127 := by omega
      simp only [this, Int.ofNat_eq_natCast, e1, decide_false, Bool.false_eq_true, if_false, beq_iff_eq, e2]
      exact ih (i + 1) (by omega) (by omega)
   ·have h1 := BS s i hlt hb
    obtain ⟨h2, h3, h4⟩ := Gb s i hlt hb
    have e1 : ¬ (((Utf8.decode s i).1 : Nat) : Int) < 32 := by omega
    have e2 : ¬ (((Utf8.decode s i).1 : Nat) : Int) = 127 := by omega
    simp only [Int.ofNat_eq_natCast, e1, decide_false, Bool.false_eq_true, if_false, beq_iff_eq, e2]
    rw [ih _ h3 (by omega), DA _ i h3 (fun j a b => by
     have := h4 j a b
     simp only [HF, Bool.or_eq_false_iff, decide_eq_false_iff_not, beq_eq_false_iff_ne]
     omega)]
    simp
theorem I2 (s : ByteArray) (hs : s.size < 1000000000) : ∀ k i, i ≤ s.size → s.size - i < k → fm s k (i : Int) = some (first (HF s) i s.size).isNone := by
 intro k
 induction k with
 | zero => intro i _ h; omega
 | succ k ih =>
  intro i hi hk
  rw [fm]
  by_cases h : i = s.size
  ·subst h
   rw [rS]
   simp only [Int.lt_irrefl, decide_false, au, pZ]
   rfl
  ·have hlt : i < s.size := by omega
   have g : (0 : Int) ≤ (i : Int) ∧ (i : Int) < (s.size : Int) := ⟨by omega, by omega⟩
   have e : ((s.data.toList.getD (i : Int).toNat 0).toNat : Int) = (kQ s i : Int) := by simp [kQ]
   simp only [bc hlt, aJ, nX, if_pos g, cL, mR, aO, e]
   rw [rL hlt, ar hlt hs]
   by_cases h1 : kQ s i < 32
   ·have : HF s i = true := by simp [HF, h1]
    simp [this, show ((kQ s i : Nat) : Int) < 32 by omega]
   ·have e1 : ¬ ((kQ s i : Nat) : Int) < 32 := by omega
    by_cases h2 : kQ s i = 127
    ·have : HF s i = true := by simp [HF, h2]
     simp [this, h2]
    ·have : HF s i = false := by simp [HF, h1, h2]
     have e2 : ¬ ((kQ s i : Nat) : Int) = 127 := by omega
     simp only [this, e1, decide_false, Bool.false_eq_true, if_false, beq_iff_eq, e2]
     exact ih (i + 1) (by omega) (by omega)
def xc (s : ByteArray) : Bool := decide (s.size ≤ 256) && (validD s.data.toList && (first (HF s) 0 s.size).isNone)
theorem Nv (s : ByteArray) (hs : s.size < 1000000000) : utf8_ValidString s = some (validD s.data.toList) := by
 unfold utf8_ValidString nX
 rw [if_pos (by omega)]
theorem Sh (s : ByteArray) (hs : s.size < 1000000000) : xj s = some (xc s) := by
 unfold xj si xc
 rw [Nv s hs, HK s aX 0 (by omega) (by rw [be]; omega)]
 by_cases h : s.size ≤ 256
 ·have : ¬ (256 : Int) < (s.size : Int) := by omega
  simp only [this, h, decide_false, decide_true, au, cL]
  cases validD s.data.toList <;> rfl
 ·have : (256 : Int) < (s.size : Int) := by omega
  simp only [this, h, decide_false, decide_true, aJ]
  rfl
theorem Qw (s : ByteArray) (hs : s.size < 1000000000) : pS s = some (xc s) := by
 have := I2 s hs aX 0 (by omega) (by rw [be]; omega)
 unfold pS nc xc
 rw [Nv s hs, show (0 : Int) = ((0 : Nat) : Int) from rfl, this]
 by_cases h : s.size ≤ 256
 ·have e : ¬ (256 : Int) < (s.size : Int) := by omega
  simp only [e, h, decide_false, decide_true, cL]
  cases validD s.data.toList <;> rfl
 ·have e : (256 : Int) < (s.size : Int) := by omega
  simp only [e, h, decide_false, decide_true, cL]
  cases validD s.data.toList <;> rfl
theorem Oq (a b c : Int) : gw a b c = some (decide (b ≤ a) && decide (a ≤ c)) := by
 unfold gw np; exact C7 _ _
theorem OJ (a b c : Int) : fZ a b c = some (decide (b ≤ a) && decide (a ≤ c)) := by
 unfold fZ ow; exact C7 _ _
def lX (v : ae) : Bool :=
 let bare := v.n == 0 && v.scale == 0
 let noS := decide (v.s.size = 0)
 let noI := ((v.items.length : Int) == 0)
 if v.kind = 0 then bare && (noS && noI)
 else if v.kind = 1 then (decide (0 ≤ v.n) && decide (v.n ≤ 1)) && (v.scale == 0 && (noS && noI))
 else if v.kind = 2 then (decide (-999999999999999999 ≤ v.n) && decide (v.n ≤ 999999999999999999)) && (v.scale == 0 && (noS && noI))
 else if v.kind = 3 then (decide (-999999999999999999 ≤ v.n) && decide (v.n ≤ 999999999999999999)) && ((decide (0 ≤ v.scale) && decide (v.scale ≤ 12)) && (noS && noI))
 else if v.kind = 4 then bare && (xc v.s && noI)
 else if v.kind = 5 then (decide (-62135596800 ≤ v.n) && decide (v.n ≤ 253402300799)) && (v.scale == 0 && (noS && noI))
 else if v.kind = 6 then bare && (noS && decide ((v.items.length : Int) ≤ 64))
 else if v.kind = 7 then bare && (noS && decide ((0 : Int) < (v.items.length : Int)))
 else false
theorem QP (v : ae) (hs : v.s.size < 1000000000) : vw v = some (lX v) := by
 have j : ∀ x, oA v x = some (if v.kind = 0 then x && (decide (v.s.size = 0) && ((v.items.length : Int) == 0))
   else if v.kind = 1 then (decide (0 ≤ v.n) && decide (v.n ≤ 1)) && (v.scale == 0 && (decide (v.s.size = 0) && ((v.items.length : Int) == 0)))
   else if v.kind = 2 then (decide (-999999999999999999 ≤ v.n) && decide (v.n ≤ 999999999999999999)) && (v.scale == 0 && (decide (v.s.size = 0) && ((v.items.length : Int) == 0)))
   else if v.kind = 3 then (decide (-999999999999999999 ≤ v.n) && decide (v.n ≤ 999999999999999999)) && ((decide (0 ≤ v.scale) && decide (v.scale ≤ 12)) && (decide (v.s.size = 0) && ((v.items.length : Int) == 0)))
   else if v.kind = 4 then x && (xc v.s && ((v.items.length : Int) == 0))
   else if v.kind = 5 then (decide (-62135596800 ≤ v.n) && decide (v.n ≤ 253402300799)) && (v.scale == 0 && (decide (v.s.size = 0) && ((v.items.length : Int) == 0)))
   else if v.kind = 6 then x && (decide (v.s.size = 0) && decide ((v.items.length : Int) ≤ 64))
   else if v.kind = 7 then x && (decide (v.s.size = 0) && decide ((0 : Int) < (v.items.length : Int)))
   else false) := by
  intro x
  unfold oA oh mr mn ml oq mm n8 oa
  simp only [Oq, Sh v.s hs, cL, C7, tV]
  simp only [aO, beq_iff_eq]
  repeat' split
  all_goals (first | rfl | simp_all)
 unfold vw
 rw [j, j]
 unfold lX
 cases v.n == 0
 ·simp only [au, Bool.false_and]
 ·simp only [aJ, Bool.true_and]
theorem Qr (v : ae) (hs : v.s.size < 1000000000) : wZ v = some (lX v) := by
 have j : ∀ x, pq v x = some (if v.kind = 0 then x && (v.n == 0 && v.scale == 0)
   else if v.kind = 1 then x && ((decide (0 ≤ v.n) && decide (v.n ≤ 1)) && v.scale == 0)
   else if v.kind = 2 then x && ((decide (-999999999999999999 ≤ v.n) && decide (v.n ≤ 999999999999999999)) && v.scale == 0)
   else if v.kind = 3 then x && ((decide (-999999999999999999 ≤ v.n) && decide (v.n ≤ 999999999999999999)) && (decide (0 ≤ v.scale) && decide (v.scale ≤ 12)))
   else if v.kind = 4 then ((v.items.length : Int) == 0) && (v.n == 0 && (v.scale == 0 && xc v.s))
   else if v.kind = 5 then x && ((decide (-62135596800 ≤ v.n) && decide (v.n ≤ 253402300799)) && v.scale == 0)
   else if v.kind = 6 then decide (v.s.size = 0) && (v.n == 0 && (v.scale == 0 && decide ((v.items.length : Int) ≤ 64)))
   else if v.kind = 7 then decide (v.s.size = 0) && (v.n == 0 && (v.scale == 0 && decide ((0 : Int) < (v.items.length : Int))))
   else false) := by
  intro x
  unfold pq pA pC pE po nB pd ny nC
  simp only [OJ, Qw v.s hs, cL, C7, tV]
  simp only [aO, beq_iff_eq]
  repeat' split
  all_goals (first | rfl | simp_all)
 unfold wZ
 rw [j, j, tV]
 unfold lX
 generalize decide (v.s.size = 0) = a
 generalize ((v.items.length : Int) == 0) = b
 generalize xc v.s = t
 generalize (v.n == 0) = c
 generalize (v.scale == 0) = d
 generalize (decide (0 ≤ v.n) && decide (v.n ≤ 1)) = e1
 generalize (decide (-999999999999999999 ≤ v.n) && decide (v.n ≤ 999999999999999999)) = e2
 generalize (decide (0 ≤ v.scale) && decide (v.scale ≤ 12)) = e3
 generalize (decide (-62135596800 ≤ v.n) && decide (v.n ≤ 253402300799)) = e4
 generalize decide ((v.items.length : Int) ≤ 64) = e5
 generalize decide ((0 : Int) < (v.items.length : Int)) = e6
 cases a <;> simp only [au, aJ] <;> congr 1 <;> repeat' split
 all_goals (first | rfl | (cases b <;> cases c <;> cases d <;> simp <;> done) | (simp [Bool.and_comm, Bool.and_assoc, Bool.and_left_comm]))
def oz (f : ae → Int → Bool × Int) : List ae → Int → Bool × Int
 | [], z => (true, z)
 | v :: l, z => if (f v z).1 = true then oz f l (f v z).2 else (false, (f v z).2)
def C0 (v : ae) (z : Int) : Int := if v.kind = 0 then z else z + 1
def j0 : Nat → ae → Int → Bool × Int
 | 0, v, z => (false, C0 v z)
 | d + 1, v, z => if 256 < C0 v z ∨ lX v = false then (false, C0 v z) else oz (j0 d) v.items (C0 v z)
def Ax (v : ae) : Bool := (j0 4 v 0).1
theorem EZ {f : ae → Int → Bool × Int} : ∀ {l : List ae} {z : Int}, (∀ v ∈ l, ∀ z, 0 ≤ z → z ≤ 256 → 0 ≤ (f v z).2 ∧ (f v z).2 ≤ 257 ∧ ((f v z).1 = true → (f v z).2 ≤ 256)) → 0 ≤ z → z ≤ 256 →
  0 ≤ (oz f l z).2 ∧ (oz f l z).2 ≤ 257 ∧ ((oz f l z).1 = true → (oz f l z).2 ≤ 256)
 | [], z, _, h0, h1 => by simp only [oz]; omega
 | v :: l, z, hf, h0, h1 => by
  obtain ⟨a, b, c⟩ := hf v (by simp) z h0 h1
  simp only [oz]
  split
  ·rename_i h
   exact EZ (fun x hx => hf x (by simp [hx])) a (c h)
  ·exact ⟨a, b, fun h => by cases h⟩
theorem Ca : ∀ (d : Nat) (v : ae) (z : Int), 0 ≤ z → z ≤ 256 → 0 ≤ (j0 d v z).2 ∧ (j0 d v z).2 ≤ 257 ∧ ((j0 d v z).1 = true → (j0 d v z).2 ≤ 256)
 | 0, v, z, h0, h1 => by
  have hc : z ≤ C0 v z ∧ C0 v z ≤ z + 1 := by unfold C0; split <;> omega
  simp only [j0]
  exact ⟨by omega, by omega, fun h => by cases h⟩
 | d + 1, v, z, h0, h1 => by
  have hc : z ≤ C0 v z ∧ C0 v z ≤ z + 1 := by unfold C0; split <;> omega
  simp only [j0]
  split
  ·exact ⟨by omega, by omega, fun h => by cases h⟩
  ·rename_i h
   have : ¬ 256 < C0 v z := fun e => h (.inl e)
   exact EZ (fun x _ => Ca d x) (by omega) (by omega)
theorem Br (v : ae) (z : Int) (h0 : 0 ≤ z) (h1 : z ≤ 256) {β : Type} (f : Int → Option β) : al (v.kind != (0 : Int)) (f (IntKind.i64.wrap (z + 1))) (f z) = f (C0 v z) := by
 rw [yB (by omega) (by omega)]
 unfold C0
 by_cases h : v.kind = 0
 ·simp [h, aO]
 ·simp [h, aO]
theorem Hz {d : Nat} (l : Int) (q : ae → Int → Int → Option (Bool × Int)) (xs : List ae) (hl : xs.length < 1000000000)
  (hq : ∀ v ∈ xs, ∀ z, 0 ≤ z → z ≤ 256 → q v l z = some (!(j0 d v z).1, (j0 d v z).2)) : ∀ (k i : Nat) (z : Int), i ≤ xs.length → xs.length - i < k → 0 ≤ z → z ≤ 256 →
  ∃ r : Int, bi q xs l k z (i : Int) = some (r, (oz (j0 d) (xs.drop i) z).2) ∧ decide (0 ≤ r) = !(oz (j0 d) (xs.drop i) z).1 := by
 intro k
 induction k with
 | zero => intro i z _ h; omega
 | succ k ih =>
  intro i z hi hk h0 h1
  rw [bi]
  by_cases h : i = xs.length
  ·subst h
   simp only [Int.lt_irrefl, decide_false, au, List.drop_length, oz, cN]
   exact ⟨-1, rfl, rfl⟩
  ·have hlt : i < xs.length := by omega
   have hm : xs[i] ∈ xs := List.getElem_mem hlt
   simp only [bc hlt, aJ, aN hlt, cL, hq _ hm z h0 h1]
   rw [List.drop_eq_getElem_cons hlt]
   simp only [oz]
   obtain ⟨a, b, c⟩ := Ca d xs[i] z h0 h1
   cases hs : (j0 d xs[i] z).1 with
   | false =>
    simp only [Bool.not_false, aJ, Bool.false_eq_true, if_false]
    exact ⟨_, rfl, by simp⟩
   | true =>
    simp only [Bool.not_true, au, if_true]
    rw [ar hlt hl]
    exact ih (i + 1) _ (by omega) (by omega) a (c hs)
theorem KE : ∀ (d k : Nat) (v : ae) (z : Int), d ≤ 4 → 4 * d + 4 ≤ k → eP v < 1000000000 → 0 ≤ z → z ≤ 256 → mH k v (5 - d : Int) z = some (j0 d v z) := by
 intro d
 induction d with
 | zero =>
  intro k v z _ hk hs h0 h1
  obtain ⟨k, rfl⟩ : ∃ q, k = q + 1 := ⟨k - 1, by omega⟩
  rw [mH, Br v z h0 h1]
  unfold oe mj
  simp [j0, aJ]
 | succ d ih =>
  intro k v z hd hk hs h0 h1
  obtain ⟨k, rfl⟩ : ∃ q, k = q + 4 := ⟨k - 4, by omega⟩
  have hsz := yI v
  have hlen := oQ v.items
  rw [mH, Br v z h0 h1]
  unfold oe mj
  rw [QP v (by omega)]
  have e4 : ¬ (4 : Int) < 5 - ((d + 1 : Nat) : Int) := by omega
  have hc : z ≤ C0 v z ∧ C0 v z ≤ z + 1 := by unfold C0; split <;> omega
  simp only [e4, decide_false, au, j0, cL]
  by_cases h2 : (256 : Int) < C0 v z
  ·simp [h2, aJ]
  ·cases hp : lX v with
   | false => simp [h2, aJ, au]
   | true =>
    simp only [h2, decide_false, au, Bool.not_true, false_or, Bool.true_eq_false, if_false]
    have := Hz (d := d) (5 - ((d + 1 : Nat) : Int)) (jH (k + 1)) v.items (by omega) (by
     intro x hx z h0 h1
     have := nD hx
     rw [jH, yB (by omega) (by omega), show (5 - ((d + 1 : Nat) : Int) + 1) = 5 - (d : Int) by omega, ih k x z (by omega) (by omega) (by omega) h0 h1]
     rfl) aX 0 (C0 v z) (by omega) (by rw [be]; omega) (by omega) (by omega)
    obtain ⟨r, e1, e2⟩ := this
    rw [show ((0 : Nat) : Int) = (0 : Int) from rfl] at e1
    rw [aS, bF, e1]
    simp only [cL, e2, List.drop_zero, Bool.not_not]
theorem Iu (v : ae) (hs : eP v < 1000000000) : sQ v = some (Ax v) := by
 unfold sQ Ax
 have := KE 4 aX v 0 (by omega) (by rw [be]; omega) hs (by omega) (by omega)
 rw [show (5 - ((4 : Nat) : Int)) = (1 : Int) from rfl] at this
 rw [this]; rfl
theorem G9 {d : Nat} (l : Int) (hl0 : 0 ≤ l) (hl1 : l ≤ 100) (q : ae → Int → Int → Option (Bool × Int)) (v : ae) (hl : v.items.length < 1000000000)
  (hq : ∀ x ∈ v.items, ∀ z, 0 ≤ z → z ≤ 256 → q x (l + 1) z = some (j0 d x z)) : ∀ (k i : Nat) (z : Int), i ≤ v.items.length → v.items.length - i < k → 0 ≤ z → z ≤ 256 →
  nz q v l k z (i : Int) = some (oz (j0 d) (v.items.drop i) z) := by
 intro k
 induction k with
 | zero => intro i z _ h; omega
 | succ k ih =>
  intro i z hi hk h0 h1
  rw [nz]
  by_cases h : i = v.items.length
  ·subst h
   simp only [Int.lt_irrefl, decide_false, au, List.drop_length, oz, vZ]
  ·have hlt : i < v.items.length := by omega
   have hm : v.items[i] ∈ v.items := List.getElem_mem hlt
   rw [yB (x := l + 1) (by omega) (by omega)]
   simp only [bc hlt, aJ, aN hlt, cL, hq _ hm z h0 h1]
   rw [List.drop_eq_getElem_cons hlt]
   simp only [oz]
   obtain ⟨a, b, c⟩ := Ca d v.items[i] z h0 h1
   cases hs : (j0 d v.items[i] z).1 with
   | false => simp only [Bool.not_false, aJ, Bool.false_eq_true, if_false]
   | true =>
    simp only [Bool.not_true, au, if_true]
    rw [ar hlt hl]
    exact ih (i + 1) _ (by omega) (by omega) a (c hs)
theorem Ke : ∀ (d k : Nat) (v : ae) (z : Int), d ≤ 4 → d + 1 ≤ k → eP v < 1000000000 → 0 ≤ z → z ≤ 256 → ja k v (5 - d : Int) z = some (j0 d v z) := by
 intro d
 induction d with
 | zero =>
  intro k v z _ hk hs h0 h1
  obtain ⟨k, rfl⟩ : ∃ q, k = q + 1 := ⟨k - 1, by omega⟩
  rw [ja, Br v z h0 h1]
  unfold pf nE
  simp [j0, aJ]
 | succ d ih =>
  intro k v z hd hk hs h0 h1
  obtain ⟨k, rfl⟩ : ∃ q, k = q + 1 := ⟨k - 1, by omega⟩
  have hsz := yI v
  have hlen := oQ v.items
  rw [ja, Br v z h0 h1]
  unfold pf nE
  rw [Qr v (by omega)]
  have e4 : ¬ (4 : Int) < 5 - ((d + 1 : Nat) : Int) := by omega
  have hc : z ≤ C0 v z ∧ C0 v z ≤ z + 1 := by unfold C0; split <;> omega
  simp only [e4, decide_false, au, j0, cL]
  by_cases h2 : (256 : Int) < C0 v z
  ·simp [h2, aJ]
  ·cases hp : lX v with
   | false => simp [h2, aJ, au]
   | true =>
    simp only [h2, decide_false, au, Bool.not_true, false_or, Bool.true_eq_false, if_false]
    have := G9 (d := d) (5 - ((d + 1 : Nat) : Int)) (by omega) (by omega) (ja k) v (by omega) (by
     intro x hx z h0 h1
     have := nD hx
     rw [show (5 - ((d + 1 : Nat) : Int) + 1) = 5 - (d : Int) by omega]
     exact ih k x z (by omega) (by omega) (by omega) h0 h1) aX 0 (C0 v z) (by omega) (by rw [be]; omega) (by omega) (by omega)
    rw [show ((0 : Nat) : Int) = (0 : Int) from rfl, List.drop_zero] at this
    exact this
theorem Na (v : ae) (hs : eP v < 1000000000) : uk v = some (Ax v) := by
 unfold uk Ax
 have := Ke 4 aX v 0 (by omega) (by rw [be]; omega) hs (by omega) (by omega)
 rw [show (5 - ((4 : Nat) : Int)) = (1 : Int) from rfl] at this
 rw [this]; rfl
end Go.Proofs.YtfnmbpecdjncfaaGreatDoor
namespace Go.Proofs.YtfnmbpecdjncfaaGreatDoor
open Go Go.SX Go.SX.Cal Go.Lib
def NB (d : Nat) (v : ae) : Prop := ∃ z, (j0 d v z).1 = true
theorem Dg {f : ae → Int → Bool × Int} : ∀ {l : List ae} {z : Int}, (oz f l z).1 = true → ∀ x ∈ l, ∃ z', (f x z').1 = true
 | [], _, _, x, hx => by cases hx
 | v :: l, z, h, x, hx => by
  simp only [oz] at h
  by_cases hv : (f v z).1 = true
  ·rw [if_pos hv] at h
   rcases List.mem_cons.1 hx with rfl | hx
   ·exact ⟨z, hv⟩
   ·exact Dg h x hx
  ·rw [if_neg hv] at h; cases h
theorem NB.zero {v : ae} (h : NB 0 v) : False := by obtain ⟨z, h⟩ := h; cases h
theorem NB.succ {d : Nat} {v : ae} (h : NB (d + 1) v) : lX v = true ∧ ∀ x ∈ v.items, NB d x := by
 obtain ⟨z, h⟩ := h
 simp only [j0] at h
 by_cases hc : 256 < C0 v z ∨ lX v = false
 ·rw [if_pos hc] at h; cases h
 ·rw [if_neg hc] at h
  refine ⟨?_, fun x hx => Dg h x hx⟩
  cases hp : lX v with
  | true => rfl
  | false => exact absurd (.inr hp) hc
theorem Gr {v : ae} (h : lX v = true) (hk : v.kind ≠ 3) : v.scale = 0 := by
 unfold lX at h
 simp only at h
 split at h
 ·simp at h; exact h.1.2
 ·split at h
  ·simp at h; exact h.2.1
  ·split at h
   ·simp at h; exact h.2.1
   ·split at h
    ·simp at h; exact h.1.2
    ·split at h
     ·simp at h; exact h.2.1
     ·split at h
      ·simp at h; exact h.1.2
      ·split at h
       ·simp at h; exact h.1.2
       ·cases h
theorem sT {v : ae} (h : lX v = true) (h6 : v.kind ≠ 6) (h7 : v.kind ≠ 7) : v.items = [] := by
 unfold lX at h
 simp only at h
 rw [← List.length_eq_zero_iff]
 split at h
 ·simp at h; simp [h.2.2]
 ·split at h
  ·simp at h; simp [h.2.2.2]
  ·split at h
   ·simp at h; simp [h.2.2.2]
   ·split at h
    ·simp at h; simp [h.2.2.2]
    ·split at h
     ·simp at h; simp [h.2.2]
     ·split at h
      ·simp at h; simp [h.2.2.2]
      ·cases h
theorem V.sh {t : ap} (h : V t) : shp t = 0 := by cases h; assumption
theorem V.fs {t : ap} (h : V t) : ∀ f, f ∈ t.fields → V f.type := by cases h; assumption
theorem V.scale {t : ap} (h : V t) (hk : t.kind ≠ 3) : t.scale = 0 := by
 have := h.sh
 unfold shp at this
 split at this
 ·cases this
 ·by_cases h2 : Du t
  ·rw [if_pos h2] at this; cases this
  ·by_cases hs : t.scale = 0
   ·exact hs
   ·exact absurd ⟨hs, .inl hk⟩ h2
theorem V.list {t : ap} (h : V t) (hk : t.kind = 6) : t.fields.length = 1 := by
 have := h.sh
 unfold shp at this
 split at this
 ·cases this
 ·by_cases h2 : Du t
  ·rw [if_pos h2] at this; cases this
  ·rw [if_neg h2] at this
   unfold vf at this
   rw [if_pos hk] at this
   split at this
   ·cases this
   ·rename_i h3
    by_cases hl : t.fields.length = 1
    ·exact hl
    ·exact absurd (.inl hl) h3
def ft (t : ap) (i : Nat) : ap := (t.fields[if t.kind = 6 then 0 else i]?.map (·.type)).getD ⟨0, 0, []⟩
def nd (t : ap) (i : Nat) : Bool := (t.fields[if t.kind = 6 then 0 else i]?.map (·.need)).getD false
def iv (v : ae) (i : Nat) : ae := v.items[i]?.getD ⟨0, 0, 0, ByteArray.empty, []⟩
theorem EL {v : ae} {i : Nat} (h : i < v.items.length) : v.items[i] = iv v i := by simp [iv, h]
def D6 : Nat → ap → ae → Bool
 | 0, _, _ => true
 | d + 1, t, v =>
  if v.kind = 0 then true
  else if v.kind ≠ t.kind then false
  else if v.kind = 3 then v.scale == t.scale
  else if v.kind = 7 ∧ t.fields.length ≠ v.items.length then false
  else (first (fun i => !D6 d (ft t i) (iv v i)) 0 v.items.length).isNone
def Th (t : ap) (v : ae) : Prop := ∀ i, i < v.items.length → (if t.kind = 6 then 0 else i) < t.fields.length
theorem Rg {d : Nat} {t : ap} {v : ae} (hs : NB (d + 1) v) (ht : V t) (h : D6 (d + 1) t v = true) : Th t v ∧ ∀ i, i < v.items.length → D6 d (ft t i) (iv v i) = true := by
 obtain ⟨hp, _⟩ := hs.succ
 by_cases h67 : v.kind = 6 ∨ v.kind = 7
 ·simp only [D6] at h
  rw [if_neg (by omega)] at h
  by_cases hk : v.kind = t.kind
  ·rw [if_neg (fun hh => hh hk), if_neg (by omega)] at h
   by_cases hl : v.kind = 7 ∧ t.fields.length ≠ v.items.length
   ·rw [if_pos hl] at h; cases h
   ·rw [if_neg hl] at h
    have hn := Option.isNone_iff_eq_none.1 h
    rw [xd] at hn
    refine ⟨fun i hi => ?_, fun i hi => by simpa using hn i (Nat.zero_le _) hi⟩
    by_cases h6 : t.kind = 6
    ·rw [if_pos h6, ht.list h6]; omega
    ·rw [if_neg h6]
     have : ¬ t.fields.length ≠ v.items.length := fun hh => hl ⟨by omega, hh⟩
     omega
  ·rw [if_pos hk] at h; cases h
 ·have : v.items = [] := sT hp (by omega) (by omega)
  refine ⟨fun i hi => ?_, fun i hi => ?_⟩
  ·rw [this] at hi; simp at hi
  ·rw [this] at hi; simp at hi
theorem LB {t : ap} {i : Nat} (h : (if t.kind = 6 then 0 else i) < t.fields.length) : ∃ f : ac, f ∈ t.fields ∧ t.fields[if t.kind = 6 then 0 else i]? = some f ∧ f.type = ft t i ∧ f.need = nd t i := by
 refine ⟨t.fields[if t.kind = 6 then 0 else i], List.getElem_mem h, List.getElem?_eq_getElem h, ?_, ?_⟩
 ·unfold ft; rw [List.getElem?_eq_getElem h]; rfl
 ·unfold nd; rw [List.getElem?_eq_getElem h]; rfl
theorem w4 {α : Type} {xs : List α} {i : Nat} {x : α} (h : xs[i]? = some x) : at? xs (i : Int) = some x := by unfold at?; simp [h]
theorem Ch {v : ae} {i : Nat} (h : i < v.items.length) : iv v i ∈ v.items := by rw [← EL h]; exact List.getElem_mem h
theorem of_eq : ∀ (d k k' : Nat) (t : ap) (v : ae), NB d v → V t → eP v < 1000000000 → kr t < 1000000000 → 4 * d + 1 ≤ k → d + 1 ≤ k' →
  qY k t v = some (D6 d t v) ∧ iL k' t v = some (D6 d t v) := by
 intro d
 induction d with
 | zero => intro k k' t v hs; exact hs.zero.elim
 | succ d ih =>
  intro k k' t v hs ht hv hT hk hk'
  obtain ⟨k, rfl⟩ : ∃ q, k = q + 4 := ⟨k - 4, by omega⟩
  obtain ⟨k', rfl⟩ : ∃ q, k' = q + 1 := ⟨k' - 1, by omega⟩
  obtain ⟨hp, hi⟩ := hs.succ
  have hsz := yI v
  have hlen := oQ v.items
  have hsT := ph t
  have hlF := eg t.fields
  rw [qY, iL]
  simp only [D6, xq]
  by_cases h0 : v.kind = 0
  ·simp [h0, aO]
  ·by_cases hkk : v.kind = t.kind
   ·have sc : v.kind ≠ 3 → v.scale = t.scale := fun h => by rw [Gr hp h, ht.scale (by omega)]
    -- the items
    have room : ¬ (v.kind = 7 ∧ t.fields.length ≠ v.items.length) → Th t v := by
     intro hn i hi
     by_cases h6 : t.kind = 6
     ·rw [if_pos h6, ht.list h6]; omega
     ·rw [if_neg h6]
      by_cases h7 : v.kind = 7
      ·have : ¬ t.fields.length ≠ v.items.length := fun hh => hn ⟨h7, hh⟩
       omega
      ·rw [sT hp (by omega) h7] at hi; simp at hi
    have sub : Th t v → ∀ i, i < v.items.length → ∃ f : ac, t.fields[if t.kind = 6 then 0 else i]? = some f ∧ f.type = ft t i ∧ qY k (ft t i) (iv v i) = some (D6 d (ft t i) (iv v i)) ∧ iL k' (ft t i) (iv v i) = some (D6 d (ft t i) (iv v i)) := by
     intro hf i hi'
     obtain ⟨f, f1, f2, f3, _⟩ := LB (hf i hi')
     have m1 := nD (Ch hi')
     have m2 := jA f1
     have m3 := i0 f
     rw [f3] at m3
     obtain ⟨a, b⟩ := ih k k' (ft t i) (iv v i) (hi _ (Ch hi')) (by rw [← f3]; exact ht.fs f f1) (by omega) (by omega) (by omega) (by omega)
     exact ⟨f, f2, f3, a, b⟩
    have ref : Th t v → i6 (iL k') t v aX (0 : Int) = some (first (fun i => !D6 d (ft t i) (iv v i)) 0 v.items.length).isNone := by
     intro hf
     have := q9 (f := fun k i => i6 (iL k') t v k (i : Int)) (n := v.items.length) (P := fun i => !D6 d (ft t i) (iv v i)) (A := fun _ => some false) (B := some true) (fun kk i hi' => by
      obtain ⟨f, f2, f3, _, f5⟩ := sub hf i hi'
      simp only [i6, bc hi', aJ, xh]
      have e : al (t.kind == (6 : Int)) (aw (at? t.fields (0 : Int)) fun e1 => aw (at? v.items (i : Int)) fun e2 => aw (iL k' e1.type e2) fun r1 => al (!r1) (some false) (i6 (iL k') t v kk (IntKind.i64.wrap ((i : Int) + 1))))
        (aw (at? t.fields (i : Int)) fun e1 => aw (at? v.items (i : Int)) fun e2 => aw (iL k' e1.type e2) fun r1 => al (!r1) (some false) (i6 (iL k') t v kk (IntKind.i64.wrap ((i : Int) + 1)))) =
        (aw (at? t.fields ((if t.kind = 6 then 0 else i : Nat) : Int)) fun e1 => aw (at? v.items (i : Int)) fun e2 => aw (iL k' e1.type e2) fun r1 => al (!r1) (some false) (i6 (iL k') t v kk (IntKind.i64.wrap ((i : Int) + 1)))) := by
       by_cases h6 : t.kind = 6 <;> simp [h6, aO]
      rw [e, w4 f2, cL, aN hi', cL, f3, EL hi', f5, cL, ar hi' (by omega), aO]) (fun kk => by simp [i6, aO, AA]) aX 0 (Nat.zero_le _) (by rw [be]; omega)
     rw [show ((0 : Nat) : Int) = (0 : Int) from rfl] at this
     rw [this]
     cases first (fun i => !D6 d (ft t i) (iv v i)) 0 v.items.length <;> rfl
    have e0 : (v.kind == (0 : Int)) = false := by simp [h0]
    have e1 : (v.kind != t.kind) = false := by simp [hkk]
    have e2 : ¬ v.kind ≠ t.kind := fun h => h hkk
    simp only [e0, e1, e2, au, h0, if_false]
    by_cases h3 : v.kind = 3
    ·have hni : v.items = [] := sT hp (by omega) (by omega)
     refine ⟨by simp [h3, aO], ?_⟩
     have hr := ref (fun i hi => by rw [hni] at hi; simp at hi)
     rw [hni] at hr
     simp only [List.length_nil, rS, Option.isNone_none] at hr
     simp only [h3, if_true, rO]
     by_cases hsc : v.scale = t.scale
     ·have : t.kind ≠ 7 := by omega
      simp [hsc, aO, hr, this]
     ·simp [hsc, aO]
    ·have hsc := sc h3
     have e3 : (v.kind == (3 : Int)) = false := by simp [h3]
     have e4 : (v.scale != t.scale) = false := by simp [hsc]
     simp only [e3, e4, au, h3, if_false]
     by_cases hl : v.kind = 7 ∧ t.fields.length ≠ v.items.length
     ·have e6 : (v.kind == (6 : Int)) = false := by simp [hl.1]
      have e7 : (v.kind == (7 : Int)) = true := by simp [hl.1]
      have t7 : (t.kind == (7 : Int)) = true := by rw [← hkk]; exact e7
      have n1 : ((t.fields.length : Int) != (v.items.length : Int)) = true := by simp; omega
      have n2 : ((v.items.length : Int) != (t.fields.length : Int)) = true := by simp; omega
      rw [aU]
      simp [e6, e7, t7, n1, n2, hl, aJ, au, rO, cL]
     ·have hf := room hl
      have hr := ref hf
      simp only [hl, if_false]
      refine ⟨?_, ?_⟩
      ·by_cases h6 : v.kind = 6
       ·have e6 : (v.kind == (6 : Int)) = true := by simp [h6]
        have t6 : t.kind = 6 := by omega
        have := q9 (f := fun kk i => bg (mY (k + 1)) v.items t.kind t.scale t.fields kk (i : Int)) (n := v.items.length) (P := fun i => !D6 d (ft t i) (iv v i)) (A := fun i => some (i : Int)) (B := some (-1)) (fun kk i hi' => by
         obtain ⟨f, f2, f3, f4, _⟩ := sub hf i hi'
         rw [if_pos t6] at f2
         simp only [bg, bc hi', aJ, aN hi', cL, mY]
         rw [show (0 : Int) = ((0 : Nat) : Int) from rfl, w4 f2, cL, f3, EL hi', f4, cL, cL, ar hi' (by omega), aO]) (fun kk => by simp [bg, aO, de]) aX 0 (Nat.zero_le _) (by rw [be]; omega)
        rw [show ((0 : Nat) : Int) = (0 : Int) from rfl] at this
        rw [e6, aJ, bE, bQ, this]
        cases first (fun i => !D6 d (ft t i) (iv v i)) 0 v.items.length <;> simp [cL]
       ·have e6 : (v.kind == (6 : Int)) = false := by simp [h6]
        by_cases h7 : v.kind = 7
        ·have e7 : (v.kind == (7 : Int)) = true := by simp [h7]
         have hlen' : t.fields.length = v.items.length := by
          by_cases hh : t.fields.length = v.items.length
          ·exact hh
          ·exact absurd ⟨h7, hh⟩ hl
         have n1 : ((t.fields.length : Int) != (v.items.length : Int)) = false := by simp; omega
         have := q9 (f := fun kk i => aH (qa (k + 2)) t.fields v.items kk (i : Int)) (n := v.items.length) (P := fun i => !D6 d (ft t i) (iv v i)) (A := fun _ => some false) (B := some true) (fun kk i hi' => by
          obtain ⟨f, f2, f3, _, _⟩ := sub hf i hi'
          obtain ⟨f', f1', f2', f3', _⟩ := LB (hf i hi')
          have m1 := nD (Ch hi')
          have m2 := jA f1'
          have m3 := i0 f'
          rw [f3'] at m3
          have f4 := (ih (k + 1) (d + 1) (ft t i) (iv v i) (hi _ (Ch hi')) (by rw [← f3']; exact ht.fs f' f1') (by omega) (by omega) (by omega) (by omega)).1
          rw [if_neg (by omega)] at f2
          have hi2 : i < t.fields.length := by omega
          simp only [aH, bc hi2, aJ, w4 f2, cL, qa]
          rw [aN hi', cL, f3, EL hi', f4, cL, cL, ar hi' (by omega), aO]) (fun kk => by simp [aH, aO, bR, hlen']) aX 0 (Nat.zero_le _) (by rw [be]; omega)
         rw [show ((0 : Nat) : Int) = (0 : Int) from rfl] at this
         rw [e6, e7, au, aJ, aU, n1, au, this]
         cases first (fun i => !D6 d (ft t i) (iv v i)) 0 v.items.length <;> rfl
        ·have e7 : (v.kind == (7 : Int)) = false := by simp [h7]
         rw [e6, e7, au, au, sT hp h6 h7]
         simp [rS]
      ·have n2 : v.kind = 7 → ((v.items.length : Int) != (t.fields.length : Int)) = false := by
        intro h7
        have : ¬ t.fields.length ≠ v.items.length := fun hh => hl ⟨h7, hh⟩
        simp; omega
       simp only [rO]
       by_cases h7 : v.kind = 7
       ·have t7 : (t.kind == (7 : Int)) = true := by simp [← hkk, h7]
        rw [t7, aJ, n2 h7, au]; exact hr
       ·have t7 : (t.kind == (7 : Int)) = false := by simp [← hkk, h7]
        rw [t7, au, au]; exact hr
   ·have e0 : (v.kind == (0 : Int)) = false := by simp [h0]
    have e1 : (v.kind != t.kind) = true := by simp [hkk]
    simp [e0, e1, h0, hkk, aJ, au]
def vP : Nat → ap → ae → Bool
 | 0, _, _ => false
 | d + 1, t, v => (first (fun i => ((iv v i).kind == 0 && nd t i) || vP d (ft t i) (iv v i)) 0 v.items.length).isSome
theorem OY : ∀ (d k k' : Nat) (t : ap) (v : ae), NB d v → V t → D6 d t v = true → eP v < 1000000000 → kr t < 1000000000 → d + 1 ≤ k → d + 1 ≤ k' →
  jo k t v = some (vP d t v) ∧ d8 k' t v = some (vP d t v) := by
 intro d
 induction d with
 | zero => intro k k' t v hs; exact hs.zero.elim
 | succ d ih =>
  intro k k' t v hs ht ho hv hT hk hk'
  obtain ⟨k, rfl⟩ : ∃ q, k = q + 1 := ⟨k - 1, by omega⟩
  obtain ⟨k', rfl⟩ : ∃ q, k' = q + 1 := ⟨k' - 1, by omega⟩
  obtain ⟨hp, hi⟩ := hs.succ
  obtain ⟨hf, hof⟩ := Rg hs ht ho
  have hsz := yI v
  have hlen := oQ v.items
  have hsT := ph t
  have sub : ∀ i, i < v.items.length → ∃ f : ac, t.fields[if t.kind = 6 then 0 else i]? = some f ∧ f.type = ft t i ∧ f.need = nd t i ∧ jo k (ft t i) (iv v i) = some (vP d (ft t i) (iv v i)) ∧ d8 k' (ft t i) (iv v i) = some (vP d (ft t i) (iv v i)) := by
   intro i hi'
   obtain ⟨f, f1, f2, f3, f4⟩ := LB (hf i hi')
   have m1 := nD (Ch hi')
   have m2 := jA f1
   have m3 := i0 f
   rw [f3] at m3
   obtain ⟨a, b⟩ := ih k k' (ft t i) (iv v i) (hi _ (Ch hi')) (by rw [← f3]; exact ht.fs f f1) (hof i hi') (by omega) (by omega) (by omega) (by omega)
   exact ⟨f, f2, f3, f4, a, b⟩
  rw [jo, d8]
  simp only [vP]
  refine ⟨?_, ?_⟩
  ·have := q9 (f := fun kk i => gq (jo k) t v kk (i : Int)) (n := v.items.length) (P := fun i => ((iv v i).kind == 0 && nd t i) || vP d (ft t i) (iv v i)) (A := fun _ => some true) (B := some false) (fun kk i hi' => by
    obtain ⟨f, f2, f3, f4, f5, _⟩ := sub i hi'
    have e : vD t (i : Int) = some f := by
     unfold vD qA
     by_cases h6 : t.kind = 6
     ·rw [if_pos h6] at f2
      rw [show (0 : Int) = ((0 : Nat) : Int) from rfl, w4 f2]
      simp [h6, aO, cL]
     ·rw [if_neg h6] at f2
      rw [w4 f2]
      simp [h6, aO, cL]
    simp only [gq, bc hi', aJ, aN hi', cL, e, oj, f3, f4, EL hi', f5, ar hi' (show v.items.length < 1000000000 by omega)]
    cases (iv v i).kind == 0 <;> cases nd t i <;> cases vP d (ft t i) (iv v i) <;> rfl) (fun kk => by simp [gq, aO, tW]) aX 0 (Nat.zero_le _) (by rw [be]; omega)
   rw [show ((0 : Nat) : Int) = (0 : Int) from rfl] at this
   rw [this]
   cases first (fun i => ((iv v i).kind == 0 && nd t i) || vP d (ft t i) (iv v i)) 0 v.items.length <;> rfl
  ·have := q9 (f := fun kk i => ea (d8 k') t v kk (i : Int)) (n := v.items.length) (P := fun i => ((iv v i).kind == 0 && nd t i) || vP d (ft t i) (iv v i)) (A := fun _ => some true) (B := some false) (fun kk i hi' => by
    obtain ⟨f, f2, f3, f4, _, f5⟩ := sub i hi'
    have e : ∀ j : Int, at? t.fields j = some f → ni (ea (d8 k') t v kk) (d8 k') t v (i : Int) j = if (((iv v i).kind == 0 && nd t i) || vP d (ft t i) (iv v i)) = true then some true else ea (d8 k') t v kk ((i + 1 : Nat) : Int) := by
     intro j hj
     simp only [ni, nv, hj, cL, aN hi', f3, f4, EL hi', f5, ar hi' (show v.items.length < 1000000000 by omega)]
     cases (iv v i).kind == 0 <;> cases nd t i <;> cases vP d (ft t i) (iv v i) <;> rfl
    simp only [ea, bc hi', aJ]
    by_cases h6 : t.kind = 6
    ·rw [if_pos h6] at f2
     have e6 : (t.kind == (6 : Int)) = true := by simp [h6]
     rw [e6, aJ]
     exact e 0 (w4 f2)
    ·rw [if_neg h6] at f2
     have e6 : (t.kind == (6 : Int)) = false := by simp [h6]
     rw [e6, au]
     exact e i (w4 f2)) (fun kk => by simp [ea, aO, th]) aX 0 (Nat.zero_le _) (by rw [be]; omega)
   rw [show ((0 : Nat) : Int) = (0 : Int) from rfl] at this
   rw [this]
   cases first (fun i => ((iv v i).kind == 0 && nd t i) || vP d (ft t i) (iv v i)) 0 v.items.length <;> rfl
theorem Hg (t : ap) (v : ae) (hv : eP v < 1000000000) (hT : kr t < 1000000000) : ∃ e, jj t v = some e ∧ mQ t v = some e := by
 obtain ⟨e, h1, h2, h3⟩ := oV t hT
 unfold jj mQ
 rw [h1, h2, Iu v hv, Na v hv]
 simp only [cL]
 by_cases he : e = 0
 ·subst he
  have ht := h3 rfl
  cases hs : Ax v with
  | false => exact ⟨1, rfl, rfl⟩
  | true =>
   have hS : NB 4 v := ⟨0, hs⟩
   obtain ⟨a, b⟩ := of_eq 4 aX aX t v hS ht hv hT (by rw [be]; omega) (by rw [be]; omega)
   rw [a, b]
   cases ho : D6 4 t v with
   | false => exact ⟨2, rfl, rfl⟩
   | true =>
    obtain ⟨c, d⟩ := OY 4 aX aX t v hS ht ho hv hT (by rw [be]; omega) (by rw [be]; omega)
    rw [c, d]
    cases vP 4 t v with
    | false => exact ⟨0, rfl, rfl⟩
    | true => exact ⟨9, rfl, rfl⟩
 ·have : (e != (0 : Int)) = true := by simp [he]
  rw [this]
  exact ⟨e, rfl, rfl⟩
theorem Il : ByteArray.empty.size = 0 := rfl
end Go.Proofs.YtfnmbpecdjncfaaGreatDoor
namespace Go.Proofs.YtfnmbpecdjncfaaGreatDoor
open Go Go.SX Go.SX.Cal
theorem IN {l : List ac} {i : Nat} (h : i < l.length) : eV (l.drop i) = tY l[i] + eV (l.drop (i + 1)) := by
 rw [List.drop_eq_getElem_cons h]; simp only [eV]
theorem Dy : aX = 1152921504606846975 + 1 := rfl
end Go.Proofs.YtfnmbpecdjncfaaGreatDoor
namespace Go.Proofs.YtfnmbpecdjncfaaGreatDoor
open Go Go.SX Go.SX.Cal
end Go.Proofs.YtfnmbpecdjncfaaGreatDoor
namespace Go.Proofs.YtfnmbpecdjncfaaGreatDoor
open Go Go.SX Go.SX.Cal
mutual
def Lr : ap → List Int
 | ⟨_, _, fs⟩ => jy fs
def jy : List (ko ap) → List Int
 | [] => []
 | f :: l => EM f ++ jy l
def EM : ko ap → List Int
 | ⟨i, _, _, t⟩ => i :: Lr t
end
theorem Ol : ∀ t : ap, Lr t = jy t.fields
 | ⟨_, _, _⟩ => by simp only [Lr]
theorem D2 : ∀ f : ac, EM f = f.id :: jy f.type.fields
 | ⟨_, _, _, t⟩ => by simp only [EM, Ol]
theorem Ah {l : List ac} {i : Nat} (h : i < l.length) : jy (l.drop i) = EM l[i] ++ jy (l.drop (i + 1)) := by
 rw [List.drop_eq_getElem_cons h]; simp only [jy]
mutual
theorem Lx : ∀ t : ap, (Lr t).length ≤ kr t
 | ⟨_, _, fs⟩ => by simp only [Lr, kr]; have := wF fs; omega
theorem wF : ∀ l : List (ko ap), (jy l).length ≤ eV l
 | [] => by simp [jy]
 | f :: l => by
  simp only [jy, eV, List.length_append]
  have := Km f
  have := wF l
  omega
theorem Km : ∀ f : ko ap, (EM f).length ≤ tY f
 | ⟨i, n, q, t⟩ => by
  simp only [EM, tY, List.length_cons]
  have := Lx t
  omega
end
theorem M4 : ∀ (N k : Nat) (fs : List ac), eV fs ≤ N → N < k → eV fs < 1000000000 → oo k fs = some (jy fs) := by
 intro N
 induction N with
 | zero =>
  intro k fs h hk _
  obtain ⟨k, rfl⟩ : ∃ x, k = x + 1 := ⟨k - 1, by omega⟩
  have hl := eg fs
  have : fs = [] := List.eq_nil_of_length_eq_zero (by omega)
  subst this
  rw [oo, Dy, oB]
  rfl
 | succ N ih =>
  intro k fs hN hk hs
  obtain ⟨k, rfl⟩ : ∃ x, k = x + 1 := ⟨k - 1, by omega⟩
  have hl := eg fs
  rw [oo]
  have loop : ∀ (kk i : Nat) (acc : List Int), i ≤ fs.length → fs.length - i < kk → acc.length + eV (fs.drop i) ≤ eV fs → oB (oo k) fs kk acc (i : Int) = some (acc ++ jy (fs.drop i)) := by
   intro kk
   induction kk with
   | zero => intro i acc _ h; omega
   | succ kk ihk =>
    intro i acc hi hk2 hacc
    rw [oB]
    by_cases h : i = fs.length
    ·subst h
     simp only [Int.lt_irrefl, decide_false, au, yR, List.drop_length, jy, List.append_nil]
    ·have h1 : i < fs.length := by omega
     have m1 := jA (List.getElem_mem h1)
     have m2 := i0 fs[i]
     have m3 := ph fs[i].type
     have m4 := IN h1
     have m5 := wF fs[i].type.fields
     rw [bc h1, aJ, aN h1, bf, ga (by omega), ih k _ (by omega) (by omega) (by omega), bf, ga (by simp; omega), ar h1 (by omega)]
     rw [ihk (i + 1) _ (by omega) (by omega) (by simp; omega), Ah h1, D2]
     simp
  have := loop aX 0 [] (Nat.zero_le _) (by rw [be]; omega) (by simp)
  simpa using this
def Ht (x : Int) (m : List (Int × Int)) : Int × List (Int × Int) :=
 if x < 1 then (3, m) else
  let y := IntKind.i64.wrap ((iB (rq .i64) m x).getD 0 + 1)
  if 1 < (iB (rq .i64) (jq (rq .i64) m x y) x).getD 0 then (5, jq (rq .i64) m x y) else (0, jq (rq .i64) m x y)
def scan : List Int → List (Int × Int) → Int × List (Int × Int)
 | [], m => (0, m)
 | x :: l, m => if (Ht x m).1 ≠ 0 then Ht x m else scan l (Ht x m).2
theorem Gy : ∀ (a b : List Int) (m : List (Int × Int)), scan (a ++ b) m = if (scan a m).1 ≠ 0 then scan a m else scan b (scan a m).2
 | [], b, m => by simp [scan]
 | x :: a, b, m => by
  simp only [List.cons_append, scan]
  by_cases h : (Ht x m).1 = 0
  ·simp only [h, ne_eq, not_true, if_false]
   exact Gy a b _
  ·simp [h]
theorem H4 (f : ac) (m : List (Int × Int)) : lY f m = some (Ht f.id m) := by
 unfold lY Ht
 simp only [bf, aO, decide_eq_true_eq]
 split
 ·rfl
 ·split <;> rfl
theorem N2 : ∀ (N k : Nat) (fs : List ac) (m : List (Int × Int)), eV fs ≤ N → N < k → eV fs < 1000000000 → bv k fs m = some (scan (jy fs) m) := by
 intro N
 induction N with
 | zero =>
  intro k fs m h hk _
  obtain ⟨k, rfl⟩ : ∃ x, k = x + 1 := ⟨k - 1, by omega⟩
  have hl := eg fs
  have : fs = [] := List.eq_nil_of_length_eq_zero (by omega)
  subst this
  rw [bv, Dy, bZ]
  rfl
 | succ N ih =>
  intro k fs m hN hk hs
  obtain ⟨k, rfl⟩ : ∃ x, k = x + 1 := ⟨k - 1, by omega⟩
  have hl := eg fs
  rw [bv]
  have loop : ∀ (kk i : Nat) (m : List (Int × Int)), i ≤ fs.length → fs.length - i < kk → bZ (bv k) fs kk m (i : Int) = some (scan (jy (fs.drop i)) m) := by
   intro kk
   induction kk with
   | zero => intro i m _ h; omega
   | succ kk ihk =>
    intro i m hi hk2
    rw [bZ]
    by_cases h : i = fs.length
    ·subst h
     simp only [Int.lt_irrefl, decide_false, au, fT, List.drop_length, jy, scan]
    ·have h1 : i < fs.length := by omega
     have m1 := jA (List.getElem_mem h1)
     have m2 := i0 fs[i]
     have m3 := ph fs[i].type
     rw [bc h1, aJ, aN h1, bf, H4, bf, ar h1 (by omega), Ah h1, D2, List.cons_append, scan, ih k _ _ (by omega) (by omega) (by omega)]
     simp only [bf, aO]
     by_cases h0 : (Ht fs[i].id m).1 = 0
     ·simp only [h0, bne_self_eq_false, Bool.false_eq_true, if_false, ne_eq, not_true, Gy]
      by_cases h2 : (scan (jy fs[i].type.fields) (Ht fs[i].id m).2).1 = 0
      ·simp only [h2, bne_self_eq_false, Bool.false_eq_true, if_false, not_true]
       exact ihk (i + 1) _ (by omega) (by omega)
      ·simp [h2]
     ·simp [h0]
  have := loop aX 0 m (Nat.zero_le _) (by rw [be]; omega)
  simpa using this
end Go.Proofs.YtfnmbpecdjncfaaGreatDoor
namespace Go.Proofs.YtfnmbpecdjncfaaGreatDoor
open Go Go.SX Go.SX.Cal
abbrev KI : KM Int := rq .i64
theorem wd : ∀ (m : List (Int × Int)) (k v : Int), iB KI (jq KI m k v) k = some v
 | [], k, v => by simp [jq, iB, rq]
 | (k', v') :: l, k, v => by
  by_cases h : k = k'
  ·simp [jq, iB, rq, h]
  ·have hb : (k == k') = false := by simpa using h
   have := wd l k v
   simp only [jq, iB, rq, hb, Bool.false_eq_true, if_false] at this ⊢
   exact this
theorem yo : ∀ (m : List (Int × Int)) (k v x : Int), x ≠ k → iB KI (jq KI m k v) x = iB KI m x
 | [], k, v, x, hx => by simp [jq, iB, rq, hx]
 | (k', v') :: l, k, v, x, hx => by
  by_cases h : k = k'
  ·subst h
   simp [jq, iB, rq, hx]
  ·have hb : (k == k') = false := by simpa using h
   have := yo l k v x hx
   simp only [jq, iB, rq, hb, Bool.false_eq_true, if_false] at this ⊢
   rw [this]
def TI (m : List (Int × Int)) (seen : List Int) : Prop := ∀ x, (iB KI m x).getD 0 = if x ∈ seen then 1 else 0
theorem Ra {m : List (Int × Int)} {seen : List Int} (h : TI m seen) (x : Int) : (Ht x m).1 = (if x < 1 then 3 else if x ∈ seen then 5 else 0) ∧ ((Ht x m).1 = 0 → TI (Ht x m).2 (seen ++ [x])) := by
 unfold Ht
 have hx := h x
 by_cases h1 : x < 1
 ·simp [h1]
 ·simp only [h1, if_false]
  have e : (iB (rq .i64) m x).getD 0 = if x ∈ seen then 1 else 0 := hx
  rw [e]
  by_cases h2 : x ∈ seen
  ·simp only [h2, if_true]
   rw [show IntKind.i64.wrap (1 + 1) = 2 from yB (by omega) (by omega)]
   have := wd m x 2
   simp only [KI] at this
   simp [this]
  ·simp only [h2, if_false]
   rw [show IntKind.i64.wrap (0 + 1) = 1 from yB (by omega) (by omega)]
   have h3 := wd m x 1
   simp only [KI] at h3
   simp only [h3, Option.getD_some, Int.lt_irrefl, if_false, true_and]
   intro _ y
   by_cases hy : y = x
   ·subst hy
    simp [KI, h3]
   ·have h4 := yo m x 1 y hy
    simp only [KI] at h4
    have h5 := h y
    simp only [KI] at h5 ⊢
    rw [h4, h5]
    simp [hy]
theorem KO (ids : List Int) (hl : ids.length < 1000000000) (rec1 : Int → Option Int) {i : Nat} (hi : i < ids.length) : df rec1 ids (i : Int) ids[i] aX (0 : Int) = if ids[i] ∈ ids.take i then some 5 else rec1 ((i + 1 : Nat) : Int) := by
 have hs := q9 (f := fun k j => df rec1 ids (i : Int) ids[i] k (j : Int)) (n := i) (P := fun j => ids[j]? == some ids[i]) (A := fun j => some 5) (B := rec1 ((i + 1 : Nat) : Int)) (fun k j hj => by
   have hjf : j < ids.length := by omega
   show df rec1 ids (i : Int) ids[i] (k + 1) (j : Int) = _
   rw [df, bc hj, aJ, aN hjf, ar hj (by omega)]
   simp only [bf, aO, List.getElem?_eq_getElem hjf, Option.some_beq_some])
  (fun k => by
   show df rec1 ids (i : Int) ids[i] (k + 1) (i : Int) = _
   rw [df]; simp only [Int.lt_irrefl, decide_false, au, o6]; rw [ar hi hl]) aX 0 (Nat.zero_le _) (by rw [be]; omega)
 have hs : df rec1 ids (i : Int) ids[i] aX (0 : Int) = _ := hs
 rw [hs]
 cases hf : first (fun j => ids[j]? == some ids[i]) 0 i with
 | none =>
  rw [xd] at hf
  have : ids[i] ∉ ids.take i := by
   intro hm
   obtain ⟨j, hj, he⟩ := List.getElem_of_mem hm
   have hj' : j < i := by simp at hj; omega
   have := hf j (Nat.zero_le _) hj'
   rw [List.getElem_take] at he
   simp [List.getElem?_eq_getElem (show j < ids.length by omega), he] at this
  simp [this]
 | some j =>
  have : ids[i] ∈ ids.take i := by
   unfold first at hf
   have h1 := List.find?_some hf
   have h2 := List.mem_of_find?_eq_some hf
   rw [List.mem_range'_1] at h2
   have hjl : j < ids.length := by omega
   simp only [List.getElem?_eq_getElem hjl, Option.some_beq_some, beq_iff_eq] at h1
   rw [← h1]
   exact List.mem_iff_getElem.2 ⟨j, by simp; omega, by simp⟩
  simp [this]
theorem Ga (ids : List Int) (hl : ids.length < 1000000000) : ∀ (kk i : Nat) (m : List (Int × Int)), i ≤ ids.length → ids.length - i < kk → TI m (ids.take i) → dZ ids kk (i : Int) = some (scan (ids.drop i) m).1 := by
 intro kk
 induction kk with
 | zero => intro i m _ h; omega
 | succ kk ih =>
  intro i m hi hk hm
  rw [dZ]
  by_cases h : i = ids.length
  ·subst h
   simp only [Int.lt_irrefl, decide_false, au, List.drop_length, scan]
   rfl
  ·have h1 : i < ids.length := by omega
   rw [bc h1, aJ, aN h1, bf, KO ids hl _ h1, List.drop_eq_getElem_cons h1, scan]
   obtain ⟨g1, g2⟩ := Ra hm ids[i]
   rw [g1] at g2 ⊢
   simp only [aO, decide_eq_true_eq]
   by_cases h2 : ids[i] < 1
   ·simp [h2, g1]
   ·by_cases h3 : ids[i] ∈ ids.take i
    ·simp [h2, h3, g1]
    ·simp only [h2, h3, if_false, ne_eq, not_true]
     simp only [h2, h3, if_false] at g2
     refine ih (i + 1) _ (by omega) (by omega) ?_
     have := g2 trivial
     rwa [List.take_append_getElem h1] at this
theorem EC (fs : List ac) (hs : eV fs < 1000000000 - 1) : ∃ e, gb fs = some e ∧ i7 fs = some e := by
 obtain ⟨e, h1, h2, h3⟩ := oV ⟨7, 0, fs⟩ (by simp only [kr]; omega)
 unfold gb i7
 rw [h1, h2]
 simp only [bf, aO]
 by_cases he : e = 0
 ·have w := N2 1000000000 aX fs [] (by omega) (by rw [be]; omega) (by omega)
  have i := M4 1000000000 aX fs (by omega) (by rw [be]; omega) (by omega)
  have hl := wF fs
  have l := Ga (jy fs) (by omega) aX 0 [] (Nat.zero_le _) (by rw [be]; omega) (fun x => by simp [iB])
  have l : dZ (jy fs) aX (0 : Int) = _ := l
  refine ⟨(scan (jy fs) []).1, ?_, ?_⟩
  ·simp [he, w, bf]
  ·simp [he, i, bf, l]
 ·exact ⟨e, by simp [he], by simp [he]⟩
end Go.Proofs.YtfnmbpecdjncfaaGreatDoor
namespace Go.Proofs.YtfnmbpecdjncfaaGreatDoor
open Go Go.SX Go.SX.Cal
theorem qh {α β : Type} (a : α) (f : α → Option β) : aw (some a) f = f a := rfl
theorem xP {β : Type} (x y : Option β) : al true x y = x := rfl
theorem vt {β : Type} (x y : Option β) : al false x y = y := rfl
theorem iO {m f : Nat} (h : m < f) : ∃ q, f = q + 1 := ⟨f - 1, by omega⟩
theorem Nz {i n : Nat} (h : ¬ i < n) : decide ((i : Int) < (n : Int)) = false := by simp; omega
theorem re {α : Type} {l : List α} {i : Nat} (hi : i < l.length) : l.drop i = l[i] :: l.drop (i + 1) := List.drop_eq_getElem_cons hi
noncomputable def ck (t : ap) (v : ae) : Int := (jj t v).getD 0
theorem ME {t : ap} {v : ae} (hv : eP v < 1000000000) (hT : kr t < 1000000000) : jj t v = some (ck t v) := by
 obtain ⟨e, h1, _⟩ := Hg t v hv hT
 unfold ck; rw [h1]; rfl
theorem Pa {t : ap} {v : ae} (hv : eP v < 1000000000) (hT : kr t < 1000000000) : mQ t v = some (ck t v) := by
 obtain ⟨e, h1, h2⟩ := Hg t v hv hT
 unfold ck; rw [h1, h2]; rfl
def sc (fs : List ac) : Int := (gb fs).getD 0
theorem PY {fs : List ac} (h : eV fs < 1000000000 - 1) : gb fs = some (sc fs) := by
 obtain ⟨e, h1, _⟩ := EC fs h
 unfold sc; rw [h1]; rfl
theorem Qv {fs : List ac} (h : eV fs < 1000000000 - 1) : i7 fs = some (sc fs) := by
 obtain ⟨e, h1, h2⟩ := EC fs h
 unfold sc; rw [h1, h2]; rfl
end Go.Proofs.YtfnmbpecdjncfaaGreatDoor
namespace Go.Proofs.YtfnmbpecdjncfaaGreatDoor
open Go Go.SX Go.SX.Cal Go.Lib
theorem CZ {p : List ac} (hl : p.length < 1000000000) (x : Int) : ∃ r, qq p x = some r ∧ rU p x = some r ∧ (r < 0 ∨ ∃ i : Nat, i < p.length ∧ r = (i : Int)) := by
 have key : ∀ (m f f' i : Nat), i + m = p.length → m < f → m < f' → ∃ r, aY p x f (i : Int) = some r ∧ mO p x f' (i : Int) = some r ∧ (r < 0 ∨ ∃ i : Nat, i < p.length ∧ r = (i : Int)) := by
  intro m
  induction m with
  | zero =>
   intro f f' i hi hf hf'
   obtain ⟨f, rfl⟩ := iO hf
   obtain ⟨f', rfl⟩ := iO hf'
   rw [aY, mO, Nz (by omega), vt, vt]
   exact ⟨-1, rfl, rfl, .inl (by omega)⟩
  | succ m ih =>
   intro f f' i hi hf hf'
   obtain ⟨f, rfl⟩ := iO hf
   obtain ⟨f', rfl⟩ := iO hf'
   have h1 : i < p.length := by omega
   rw [aY, mO, bc h1, xP, xP, aN h1, qh, qh, qf, qh]
   cases he : (p[i].id == x) with
   | true => rw [xP, xP]; exact ⟨i, rfl, rfl, .inr ⟨i, h1, rfl⟩⟩
   | false => rw [vt, vt, ar h1 hl]; exact ih f f' (i + 1) (by omega) (by omega) (by omega)
 obtain ⟨r, h1, h2, h3⟩ := key p.length aX aX 0 (by omega) (by rw [be]; omega) (by rw [be]; omega)
 refine ⟨r, ?_, h2, h3⟩
 unfold qq cM
 rw [show ((0 : Nat) : Int) = 0 from rfl] at h1
 rw [h1, qh]
theorem Pq {t : ap} {e : Int} (h : fI t = some e) : ns t = some (if e ≠ 0 then e else if t.kind = 6 ∨ t.kind = 7 then 2 else 0) := by
 unfold ns m9
 rw [h, qh]
 by_cases he : e = 0
 ·subst he
  by_cases h6 : t.kind = 6
  ·simp [h6, aO]
  ·by_cases h7 : t.kind = 7 <;> simp [h6, h7, aO]
 ·simp [he, aO]
def Wd (t u : ap) : Prop := (t.kind = u.kind ∧ t.scale = u.scale) ∨ (t.kind = 1 ∧ u.kind = 2) ∨ ((t.kind = 1 ∨ t.kind = 2) ∧ u.kind = 3 ∧ u.scale = 0)
structure UE (t u : ap) : Prop where
 a : V t
 b : V u
 c : fI u = some 0
 l : t.kind ≠ 6 ∧ t.kind ≠ 7
 m : u.kind ≠ 6 ∧ u.kind ≠ 7
 w : Wd t u
def Qk (t u : ap) : Bool := (t.kind == u.kind && t.scale == u.scale) || (t.kind == 1 && u.kind == 2) || ((t.kind == 1 || t.kind == 2) && u.kind == 3 && u.scale == 0)
theorem Kx (t u : ap) (ht : kr t < 1000000000) (hu : kr u < 1000000000) : ∃ b, pD t u = some b ∧ qg t u = some b ∧ (b = true → UE t u) := by
 obtain ⟨e, a1, a2, a3⟩ := oV t ht
 obtain ⟨e', b1, b2, b3⟩ := oV u hu
 have hc : kj t u false = some (Qk t u) := by
  unfold kj oU oE iV Qk
  simp only [aO, beq_iff_eq]
  repeat' split
  all_goals (first | rfl | (simp_all; done) | (simp_all; omega))
 have hr : jt t u false = some (Qk t u) := by
  unfold jt qM qx kE Qk
  simp only [aO, beq_iff_eq]
  repeat' split
  all_goals (first | rfl | (simp_all; done) | (simp_all; omega) | (refine congrArg some (Bool.eq_iff_iff.2 ?_); simp_all; try omega))
 have hc0 : kj t u true = some false := rfl
 have hr0 : jt t u true = some false := rfl
 have hC : pD t u = some (decide (e = 0 ∧ e' = 0 ∧ (t.kind ≠ 6 ∧ t.kind ≠ 7) ∧ (u.kind ≠ 6 ∧ u.kind ≠ 7)) && Qk t u) := by
  unfold pD
  rw [Pq a1, Pq b1, qh, qh]
  by_cases he : e = 0 <;> by_cases he' : e' = 0 <;> by_cases h1 : t.kind = 6 ∨ t.kind = 7 <;> by_cases h2 : u.kind = 6 ∨ u.kind = 7 <;> simp [he, he', show ¬ e' = 0 → (e' != 0) = true from fun h => by simp [h], aO, hc, hc0, h1, h2, show (t.kind ≠ 6 ∧ t.kind ≠ 7) ↔ ¬ (t.kind = 6 ∨ t.kind = 7) from by omega, show (u.kind ≠ 6 ∧ u.kind ≠ 7) ↔ ¬ (u.kind = 6 ∨ u.kind = 7) from by omega]
 have hR : qg t u = some (decide (e = 0 ∧ e' = 0 ∧ (t.kind ≠ 6 ∧ t.kind ≠ 7) ∧ (u.kind ≠ 6 ∧ u.kind ≠ 7)) && Qk t u) := by
  unfold qg
  simp only [a2, b2, EO, qh]
  by_cases he : e = 0 <;> by_cases he' : e' = 0 <;> by_cases h1 : t.kind ≠ 6 ∧ t.kind ≠ 7 <;> by_cases h2 : u.kind ≠ 6 ∧ u.kind ≠ 7 <;> simp [he, he', h1, h2, aO, hr, hr0]
 refine ⟨_, hC, hR, fun h => ?_⟩
 rw [Bool.and_eq_true, decide_eq_true_iff] at h
 obtain ⟨⟨he, he', h6, h7⟩, hw⟩ := h
 subst he; subst he'
 refine ⟨a3 rfl, b3 rfl, b1, h6, h7, ?_⟩
 unfold Qk at hw
 simp at hw
 unfold Wd
 omega
theorem HR (t : ap) : ou t = some (decide (t.kind = 6 ∨ t.kind = 7)) := by
 unfold ou nM
 by_cases h6 : t.kind = 6 <;> by_cases h7 : t.kind = 7 <;> simp [h6, h7, aO]
def S1 (q : List ac → List ac → Prop) (t u : ap) : Prop := (t.kind ≠ 6 ∧ t.kind ≠ 7 → UE t u) ∧ (¬ (t.kind ≠ 6 ∧ t.kind ≠ 7) → t.kind = u.kind ∧ q t.fields u.fields)
def IU : Nat → List ac → List ac → Prop
 | 0, _, _ => True
 | d + 1, p, q => ∀ f ∈ q, ∀ (i : Nat) (g : ac), rU p f.id = some (i : Int) → p[i]? = some g → S1 (IU d) g.type f.type
theorem FQ : ∀ (N k k' : Nat) (p q : List ac), eV q ≤ N → N < k → N < k' → eV p < 1000000000 → eV q < 1000000000 → ∃ e, bw k p q = some e ∧ cg k' p q = some e ∧ (e = 0 → ∀ d, IU d p q) := by
 intro N
 induction N with
 | zero =>
  intro k k' p q h hk hk' hp hq
  obtain ⟨k, rfl⟩ := iO hk
  obtain ⟨k', rfl⟩ := iO hk'
  have hl := eg q
  have : q = [] := List.length_eq_zero_iff.1 (by omega)
  subst this
  rw [bw, cg, Dy, bD, cf]
  refine ⟨0, rfl, rfl, fun _ d => ?_⟩
  cases d with
  | zero => trivial
  | succ d => exact fun f hf => by cases hf
 | succ N ih =>
  intro k k' p q h hk hk' hp hq
  obtain ⟨k, rfl⟩ := iO hk
  obtain ⟨k', rfl⟩ := iO hk'
  have hpl := eg p
  have hql := eg q
  have key : ∀ (m f f' i : Nat), i + m = q.length → m < f → m < f' → ∃ e, bD (bw k) p q f (i : Int) = some e ∧ cf (cg k') p q f' (i : Int) = some e ∧
    (e = 0 → ∀ d, ∀ f ∈ q.drop i, ∀ (i : Nat) (g : ac), rU p f.id = some (i : Int) → p[i]? = some g → S1 (IU d) g.type f.type) := by
   intro m
   induction m with
   | zero =>
    intro f f' i hi hf hf'
    obtain ⟨f, rfl⟩ := iO hf
    obtain ⟨f', rfl⟩ := iO hf'
    rw [bD, cf, Nz (by omega), vt, vt, List.drop_of_length_le (by omega)]
    exact ⟨0, rfl, rfl, fun _ d f hf => by cases hf⟩
   | succ m ih2 =>
    intro f f' i hi hf hf'
    obtain ⟨f, rfl⟩ := iO hf
    obtain ⟨f', rfl⟩ := iO hf'
    have h1 : i < q.length := by omega
    obtain ⟨e, c1, c2, c3⟩ := ih2 f f' (i + 1) (by omega) (by omega) (by omega)
    obtain ⟨r, r1, r2, r3⟩ := CZ (p := p) (by omega) q[i].id
    rw [bD, cf, bc h1, xP, xP, aN h1, qh, qh, r1, qh, r2, qh, re h1]
    unfold jJ lC
    rw [ar h1 (by omega)]
    rcases r3 with r3 | ⟨j, hj, rfl⟩
    ·rw [decide_eq_true r3, xP, xP]
     cases hn : q[i].need with
     | true => rw [xP, xP]; exact ⟨9, rfl, rfl, fun h => by cases h⟩
     | false =>
      rw [vt, vt]
      refine ⟨e, c1, c2, fun he d x hx j g hg hpj => ?_⟩
      rcases List.mem_cons.1 hx with rfl | hx
      ·rw [r2] at hg; cases hg; omega
      ·exact c3 he d x hx j g hg hpj
    ·rw [decide_eq_false (by omega), vt, vt, aN hj, qh, qh]
     have hqi := jA (List.getElem_mem h1)
     have hpj := jA (List.getElem_mem hj)
     have hqi2 := i0 q[i]
     have hpj2 := i0 p[j]
     have hqi3 := ph q[i].type
     have hpj3 := ph p[j].type
     obtain ⟨y, y1, y2, y3⟩ := ih k k' p[j].type.fields q[i].type.fields (by omega) (by omega) (by omega) (by omega) (by omega)
     obtain ⟨b, b1, b2, b3⟩ := Kx p[j].type q[i].type (by omega) (by omega)
     -- what follows when the types suit
     have hgo : ∀ (hat : (∀ d, IU d p[j].type.fields q[i].type.fields) → ∀ d, S1 (IU d) p[j].type q[i].type),
       ∃ e, fU (bw k) (bD (bw k) p q f) (i : Int) q[i] p[j] false = some e ∧ eZ (cf (cg k') p q f') (cg k') (i : Int) q[i] p[j] false = some e ∧
        (e = 0 → ∀ d, ∀ f ∈ q[i] :: q.drop (i + 1), ∀ (i : Nat) (g : ac), rU p f.id = some (i : Int) → p[i]? = some g → S1 (IU d) g.type f.type) := by
      intro hat
      unfold fU eZ jJ lC
      rw [vt, vt, y1, qh, y2, qh, ar h1 (by omega)]
      by_cases hy : y = 0
      ·subst hy
       rw [bne_self_eq_false, vt, vt]
       refine ⟨e, c1, c2, fun he d x hx j' g hg hpj' => ?_⟩
       rcases List.mem_cons.1 hx with rfl | hx
       ·rw [r2] at hg
        have : j = j' := by have := Option.some.inj hg; omega
        subst this
        rw [List.getElem?_eq_getElem hj] at hpj'
        cases hpj'
        exact hat (y3 rfl) d
       ·exact c3 he d x hx j' g hg hpj'
      ·rw [show (y != 0) = true by simp [hy], xP, xP]
       exact ⟨y, rfl, rfl, fun h => absurd h hy⟩
     have h2c : fU (bw k) (bD (bw k) p q f) (i : Int) q[i] p[j] true = some 2 := rfl
     have h2r : eZ (cf (cg k') p q f') (cg k') (i : Int) q[i] p[j] true = some 2 := rfl
     have hj1 : ∃ e, jK (bw k) (bD (bw k) p q f) (i : Int) q[i] p[j] false = some e ∧ lm (cf (cg k') p q f') (cg k') (i : Int) q[i] p[j] false = some e ∧
        (e = 0 → ∀ d, ∀ f ∈ q[i] :: q.drop (i + 1), ∀ (i : Nat) (g : ac), rU p f.id = some (i : Int) → p[i]? = some g → S1 (IU d) g.type f.type) := by
      unfold jK lm lZ
      rw [vt, vt, HR, qh, EO, qh]
      by_cases hlf : p[j].type.kind ≠ 6 ∧ p[j].type.kind ≠ 7
      ·rw [decide_eq_true hlf, decide_eq_false (by omega)]
       simp only [Bool.not_true, Bool.not_false, xP, vt, qh, b1, b2]
       cases b with
       | true => exact hgo fun _ d => ⟨fun _ => b3 rfl, fun h => absurd hlf h⟩
       | false => exact ⟨2, rfl, rfl, fun h => by cases h⟩
      ·rw [decide_eq_false hlf, decide_eq_true (by omega)]
       simp only [Bool.not_true, Bool.not_false, xP, vt, qh]
       by_cases hk : p[j].type.kind = q[i].type.kind
       ·rw [show (q[i].type.kind != p[j].type.kind) = false by simp [hk], show (p[j].type.kind != q[i].type.kind) = false by simp [hk], vt, vt]
        exact hgo fun hh d => ⟨fun h => absurd h hlf, fun _ => ⟨hk, hh d⟩⟩
       ·rw [show (q[i].type.kind != p[j].type.kind) = true by simp; omega, show (p[j].type.kind != q[i].type.kind) = true by simp; omega, xP, xP]
        exact ⟨2, rfl, rfl, fun h => by cases h⟩
     cases hn : q[i].need with
     | true =>
      rw [xP, xP]
      cases hm : p[j].need with
      | true => exact hj1
      | false => exact ⟨9, rfl, rfl, fun h => by cases h⟩
     | false => rw [vt, vt]; exact hj1
  obtain ⟨e, e1, e2, e3⟩ := key q.length aX aX 0 (by omega) (by rw [be]; omega) (by rw [be]; omega)
  refine ⟨e, e1, e2, fun he d => ?_⟩
  cases d with
  | zero => trivial
  | succ d => exact e3 he d
end Go.Proofs.YtfnmbpecdjncfaaGreatDoor
namespace Go.Proofs.YtfnmbpecdjncfaaGreatDoor
open Go Go.SX Go.SX.Cal Go.Lib
theorem FK (t : ap) : rM t = some (decide (t.kind ≠ 6 ∧ t.kind ≠ 7)) := by
 unfold rM sF
 by_cases h6 : t.kind = 6 <;> by_cases h7 : t.kind = 7 <;> simp [h6, h7, aO]
def wj : ap := ⟨0, 0, []⟩
def N3 (p : cj) (t : ap) : ap × Int :=
 if t.kind = 6 ∨ t.kind = 7 then (wj, 2) else if p.kind = 3 ∧ t.kind ≠ 2 ∧ t.kind ≠ 3 ∧ t.kind ≠ 4 then (wj, 2) else if 4 ≤ p.kind ∧ t.kind ≠ 5 then (wj, 2)
 else if p.kind = 2 ∨ 4 ≤ p.kind then (⟨2, 0, []⟩, 0) else (t, 0)
def Gh (p : cj) (t : ap) (e : Int) : ap × Int :=
 if e ≠ 0 then (wj, e) else if p.kind < 0 ∨ 7 < p.kind then (wj, 3)
 else if p.kind = 2 ∨ p.kind = 3 then (if p.param < 1 ∨ 1000000 < p.param then (wj, 3) else N3 p t) else if p.param ≠ 0 then (wj, 3) else N3 p t
theorem TJ (p : cj) (t : ap) : ij p t = some (N3 p t) := by
 unfold ij fK fO jV N3 wj
 rw [FK]
 simp only [bf, aO]
 by_cases h6 : t.kind = 6
 ·simp [h6]
 by_cases h7 : t.kind = 7
 ·simp [h7]
 by_cases h3 : p.kind = 3
 ·by_cases t2 : t.kind = 2
  ·simp [h6, h7, h3, t2]
  by_cases t3 : t.kind = 3
  ·simp [h6, h7, h3, t2, t3]
  by_cases t4 : t.kind = 4
  ·simp [h6, h7, h3, t2, t3, t4]
  simp [h6, h7, h3, t2, t3, t4]
 ·by_cases h4 : 4 ≤ p.kind
  ·by_cases t5 : t.kind = 5
   ·simp [h6, h7, h3, h4, t5]
   ·simp [h6, h7, h3, h4, t5]
  ·by_cases h2 : p.kind = 2
   ·simp [h6, h7, h3, h4, h2]
   ·simp [h6, h7, h3, h4, h2]
theorem QL (p : cj) (t : ap) : dw p t false = some (N3 p t) := by
 unfold dw gh kM kI N3 wj
 rw [EO]
 simp only [bf, aO]
 by_cases h6 : t.kind = 6
 ·simp [h6]
 by_cases h7 : t.kind = 7
 ·simp [h7]
 by_cases h3 : p.kind = 3
 ·by_cases t2 : t.kind = 2
  ·simp [h6, h7, h3, t2]
  by_cases t3 : t.kind = 3
  ·simp [h6, h7, h3, t2, t3]
  by_cases t4 : t.kind = 4
  ·simp [h6, h7, h3, t2, t3, t4]
  simp [h6, h7, h3, t2, t3, t4]
 ·by_cases h4 : 4 ≤ p.kind
  ·by_cases t5 : t.kind = 5
   ·simp [h6, h7, h3, h4, t5]
   ·simp [h6, h7, h3, h4, t5]
  ·by_cases h2 : p.kind = 2
   ·simp [h6, h7, h3, h4, h2]
   ·simp [h6, h7, h3, h4, h2]
theorem nJ (a b c : Int) : dB a b c = some (decide (b ≤ a ∧ a ≤ c)) := by
 unfold dB qy
 by_cases h1 : b ≤ a <;> by_cases h2 : a ≤ c <;> simp [h1, h2, aO]
theorem tt (p : cj) (t : ap) (hs : kr t < 1000000000) : ∃ e, (e = 0 → V t) ∧ fW p t = some (Gh p t e) ∧ gH p t = some (Gh p t e) := by
 obtain ⟨e, h1, h2, h3⟩ := oV t hs
 refine ⟨e, h3, ?_, ?_⟩
 ·unfold fW Gh
  rw [h1]
  by_cases he : e = 0
  ·subst he
   unfold jT jQ jU
   rw [TJ]
   simp only [bf, aO, wj]
   by_cases k0 : p.kind < 0
   ·simp [k0]
   by_cases k7 : 7 < p.kind
   ·simp [k0, k7]
   by_cases k2 : p.kind = 2
   ·by_cases m1 : p.param < 1
    ·simp [k0, k7, k2, m1]
    by_cases m2 : 1000000 < p.param
    ·simp [k0, k7, k2, m1, m2]
    simp [k0, k7, k2, m1, m2]
   by_cases k3 : p.kind = 3
   ·by_cases m1 : p.param < 1
    ·simp [k0, k7, k2, k3, m1]
    by_cases m2 : 1000000 < p.param
    ·simp [k0, k7, k2, k3, m1, m2]
    simp [k0, k7, k2, k3, m1, m2]
   by_cases m0 : p.param = 0
   ·simp [k0, k7, k2, k3, m0]
   ·simp [k0, k7, k2, k3, m0]
  ·simp [he, aO, bf, wj]
 ·unfold gH Gh
  rw [h2]
  by_cases he : e = 0
  ·subst he
   unfold kK
   rw [nJ, nJ]
   have hb : dw p t true = some (wj, 3) := rfl
   by_cases k0 : p.kind < 0
   ·simp [k0, aO, bf, show ¬ (0 : Int) ≤ p.kind by omega, wj]
   by_cases k7 : 7 < p.kind
   ·simp [k0, k7, aO, bf, show ¬ p.kind ≤ 7 by omega, wj]
   have k0' : (0 : Int) ≤ p.kind := by omega
   have k7' : p.kind ≤ 7 := by omega
   by_cases k2 : p.kind = 2
   ·by_cases m1 : p.param < 1
    ·simp [k2, m1, aO, bf, hb, show ¬ (1 : Int) ≤ p.param by omega]
    by_cases m2 : 1000000 < p.param
    ·simp [k2, m1, m2, aO, bf, hb, show ¬ p.param ≤ 1000000 by omega]
    simp [k2, m1, m2, aO, bf, QL, show (1 : Int) ≤ p.param by omega, show p.param ≤ 1000000 by omega]
   by_cases k3 : p.kind = 3
   ·by_cases m1 : p.param < 1
    ·simp [k3, m1, aO, bf, hb, show ¬ (1 : Int) ≤ p.param by omega]
    by_cases m2 : 1000000 < p.param
    ·simp [k3, m1, m2, aO, bf, hb, show ¬ p.param ≤ 1000000 by omega]
    simp [k3, m1, m2, aO, bf, QL, show (1 : Int) ≤ p.param by omega, show p.param ≤ 1000000 by omega]
   by_cases m0 : p.param = 0
   ·simp [k0, k7, k0', k7', k2, k3, m0, aO, bf, QL]
   ·have hm : (p.param != 0) = true := bne_iff_ne.2 m0
    simp [k0, k7, k0', k7', k2, k3, m0, hm, aO, bf, hb]
  ·simp [he, aO, bf, wj]
structure U1 (p : cj) (t : ap) : Prop where
 v : V t
 k6 : t.kind ≠ 6
 k7 : t.kind ≠ 7
 lo : 0 ≤ p.kind
 hi : p.kind ≤ 7
 par : p.kind = 2 ∨ p.kind = 3 → 1 ≤ p.param ∧ p.param ≤ 1000000
 cut : p.kind = 3 → t.kind = 2 ∨ t.kind = 3 ∨ t.kind = 4
 tim : 4 ≤ p.kind → t.kind = 5
theorem PN {p : cj} {t : ap} {e : Int} (hv : e = 0 → V t) (h : (Gh p t e).2 = 0) : U1 p t := by
 unfold Gh N3 at h
 by_cases he : e = 0
 ·subst he
  rw [if_neg (by decide)] at h
  by_cases hk : p.kind < 0 ∨ 7 < p.kind
  ·rw [if_pos hk] at h; exact absurd h (by decide)
  rw [if_neg hk] at h
  have fin : (if t.kind = 6 ∨ t.kind = 7 then (wj, (2 : Int)) else if p.kind = 3 ∧ t.kind ≠ 2 ∧ t.kind ≠ 3 ∧ t.kind ≠ 4 then (wj, 2) else if 4 ≤ p.kind ∧ t.kind ≠ 5 then (wj, 2) else if p.kind = 2 ∨ 4 ≤ p.kind then (⟨2, 0, []⟩, 0) else (t, 0)).2 = 0 →
    t.kind ≠ 6 ∧ t.kind ≠ 7 ∧ (p.kind = 3 → t.kind = 2 ∨ t.kind = 3 ∨ t.kind = 4) ∧ (4 ≤ p.kind → t.kind = 5) := fun h => by
   by_cases a : t.kind = 6 ∨ t.kind = 7
   ·rw [if_pos a] at h; exact absurd h (by decide)
   rw [if_neg a] at h
   by_cases b : p.kind = 3 ∧ t.kind ≠ 2 ∧ t.kind ≠ 3 ∧ t.kind ≠ 4
   ·rw [if_pos b] at h; exact absurd h (by decide)
   rw [if_neg b] at h
   by_cases c : 4 ≤ p.kind ∧ t.kind ≠ 5
   ·rw [if_pos c] at h; exact absurd h (by decide)
   exact ⟨by omega, by omega, by omega, by omega⟩
  by_cases h23 : p.kind = 2 ∨ p.kind = 3
  ·rw [if_pos h23] at h
   by_cases hm : p.param < 1 ∨ 1000000 < p.param
   ·rw [if_pos hm] at h; exact absurd h (by decide)
   rw [if_neg hm] at h
   obtain ⟨a, b, c, d⟩ := fin h
   exact ⟨hv rfl, a, b, by omega, by omega, fun _ => by omega, c, d⟩
  ·rw [if_neg h23] at h
   by_cases hm : p.param ≠ 0
   ·rw [if_pos hm] at h; exact absurd h (by decide)
   rw [if_neg hm] at h
   obtain ⟨a, b, c, d⟩ := fin h
   exact ⟨hv rfl, a, b, by omega, by omega, fun h => absurd h h23, c, d⟩
 ·rw [if_pos he] at h; exact absurd h he
end Go.Proofs.YtfnmbpecdjncfaaGreatDoor
namespace Go.Proofs.YtfnmbpecdjncfaaGreatDoor
open Go Go.SX Go.SX.Cal
theorem bS {α β : Type} (a : α) (f : α → Option β) : aw (some a) f = f a := rfl
theorem iT {β : Type} (x y : Option β) : al true x y = x := rfl
theorem iF {β : Type} (x y : Option β) : al false x y = y := rfl
theorem gP {β : Type} {p : Prop} [Decidable p] {x : Option β} (h : p) : nX p x = x := if_pos h
theorem Bt {i n : Nat} (h : ¬ i < n) : decide ((i : Int) < (n : Int)) = false := by simp; omega
theorem fu {m f : Nat} (h : m < f) : ∃ q, f = q + 1 := ⟨f - 1, by omega⟩
theorem B1 : aX = 1152921504606846975 + 1 := rfl
structure NZ (fs : List ac) (id : Int) (i : Nat) : Prop where
 lt : i < fs.length
 eq : ∀ h : i < fs.length, fs[i].id = id
 no : ∀ (j : Nat) (h : j < fs.length), j < i → fs[j].id ≠ id
theorem PR {fs : List ac} (id : Int) : ∀ (m j : Nat), j + m = fs.length → (∃ i, j ≤ i ∧ i < fs.length ∧ (∀ h : i < fs.length, fs[i].id = id) ∧ ∀ (q : Nat) (h : q < fs.length), j ≤ q → q < i → fs[q].id ≠ id) ∨ ∀ (q : Nat) (h : q < fs.length), j ≤ q → fs[q].id ≠ id := by
 intro m
 induction m with
 | zero => intro j h; exact .inr fun q hq hj => by omega
 | succ m ih =>
  intro j h
  have hj : j < fs.length := by omega
  by_cases e : fs[j].id = id
  ·exact .inl ⟨j, Nat.le_refl _, hj, fun _ => e, fun q _ h1 h2 => by omega⟩
  ·rcases ih (j + 1) (by omega) with ⟨i, h1, h2, h3, h4⟩ | h1
   ·refine .inl ⟨i, by omega, h2, h3, fun q hq h5 h6 => ?_⟩
    by_cases e2 : q = j
    ·subst e2; exact e
    ·exact h4 q hq (by omega) h6
   ·refine .inr fun q hq h5 => ?_
    by_cases e2 : q = j
    ·subst e2; exact e
    ·exact h1 q hq (by omega)
theorem NZ.or (fs : List ac) (id : Int) : (∃ i, NZ fs id i) ∨ ∀ (q : Nat) (h : q < fs.length), fs[q].id ≠ id := by
 rcases PR (fs := fs) id fs.length 0 (by omega) with ⟨i, _, h2, h3, h4⟩ | h
 ·exact .inl ⟨i, h2, h3, fun j hj hi => h4 j hj (Nat.zero_le _) hi⟩
 ·exact .inr fun q hq => h q hq (Nat.zero_le _)
theorem Ug {fs : List ac} (hn : fs.length < 1000000000) {id : Int} {i : Nat} (hF : NZ fs id i) : ∀ (m f j : Nat), j + m = i → m < f →
  aG fs id f (j : Int) = some (i : Int) := by
 intro m
 induction m with
 | zero =>
  intro f j h hf
  obtain ⟨q, rfl⟩ := fu hf
  have e : j = i := by omega
  subst e
  rw [aG, bc hF.lt, iT, aN hF.lt, bS]
  unfold pj
  rw [bS, hF.eq hF.lt, beq_self_eq_true, iT]
 | succ m ih =>
  intro f j h hf
  obtain ⟨q, rfl⟩ := fu hf
  have hj : j < fs.length := by have := hF.lt; omega
  rw [aG, bc hj, iT, aN hj, bS]
  unfold pj
  rw [bS, beq_eq_false_iff_ne.2 (hF.no j hj (by omega)), iF, ar hj hn]
  exact ih q (j + 1) (by omega) (by omega)
theorem TU {fs : List ac} (hn : fs.length < 1000000000) {id : Int} (hF : ∀ (q : Nat) (h : q < fs.length), fs[q].id ≠ id) : ∀ (m f j : Nat), j + m = fs.length → m < f →
  aG fs id f (j : Int) = some (-1) := by
 intro m
 induction m with
 | zero =>
  intro f j h hf
  obtain ⟨q, rfl⟩ := fu hf
  rw [aG, Bt (by omega), iF]
  rfl
 | succ m ih =>
  intro f j h hf
  obtain ⟨q, rfl⟩ := fu hf
  have hj : j < fs.length := by omega
  rw [aG, bc hj, iT, aN hj, bS]
  unfold pj
  rw [bS, beq_eq_false_iff_ne.2 (hF j hj), iF, ar hj hn]
  exact ih q (j + 1) (by omega) (by omega)
theorem yj {fs : List ac} (hn : fs.length < 1000000000) {id : Int} {i : Nat} (hF : NZ fs id i) : kh fs id = some (i : Int) := by
 unfold kh cp
 have h := Ug hn hF i aX 0 (by omega) (by rw [B1]; have := hF.lt; omega)
 rw [show ((0 : Nat) : Int) = 0 from rfl] at h
 rw [h]; rfl
theorem yL {fs : List ac} (hn : fs.length < 1000000000) {id : Int} (hF : ∀ (q : Nat) (h : q < fs.length), fs[q].id ≠ id) : kh fs id = some (-1) := by
 unfold kh cp
 have h := TU hn hF fs.length aX 0 (by omega) (by rw [B1]; omega)
 rw [show ((0 : Nat) : Int) = 0 from rfl] at h
 rw [h]; rfl
theorem Sy {fs : List ac} (hn : fs.length < 1000000000) {id : Int} {i : Nat} (hF : NZ fs id i) : ∀ (m f j : Nat), j + m = i → m < f →
  j2 fs id f (j : Int) = some (fs[i]'hF.lt, true) := by
 intro m
 induction m with
 | zero =>
  intro f j h hf
  obtain ⟨q, rfl⟩ := fu hf
  have e : j = i := by omega
  subst e
  rw [j2, bc hF.lt, iT, aN hF.lt, bS, hF.eq hF.lt, beq_self_eq_true, iT]
 | succ m ih =>
  intro f j h hf
  obtain ⟨q, rfl⟩ := fu hf
  have hj : j < fs.length := by have := hF.lt; omega
  rw [j2, bc hj, iT, aN hj, bS, beq_eq_false_iff_ne.2 (hF.no j hj (by omega)), iF, ar hj hn]
  exact ih q (j + 1) (by omega) (by omega)
theorem Sg {fs : List ac} (hn : fs.length < 1000000000) {id : Int} (hF : ∀ (q : Nat) (h : q < fs.length), fs[q].id ≠ id) : ∀ (m f j : Nat), j + m = fs.length → m < f →
  ∃ g, j2 fs id f (j : Int) = some (g, false) := by
 intro m
 induction m with
 | zero =>
  intro f j h hf
  obtain ⟨q, rfl⟩ := fu hf
  rw [j2, Bt (by omega), iF]
  exact ⟨_, rfl⟩
 | succ m ih =>
  intro f j h hf
  obtain ⟨q, rfl⟩ := fu hf
  have hj : j < fs.length := by omega
  rw [j2, bc hj, iT, aN hj, bS, beq_eq_false_iff_ne.2 (hF j hj), iF, ar hj hn]
  exact ih q (j + 1) (by omega) (by omega)
theorem A3 {fs : List ac} (hn : fs.length < 1000000000) {id : Int} {i : Nat} (hF : NZ fs id i) : n6 fs id = some (fs[i]'hF.lt, true) := by
 have h := Sy hn hF i aX 0 (by omega) (by rw [B1]; have := hF.lt; omega)
 exact h
theorem AN {fs : List ac} (hn : fs.length < 1000000000) {id : Int} (hF : ∀ (q : Nat) (h : q < fs.length), fs[q].id ≠ id) : ∃ g, n6 fs id = some (g, false) := by
 obtain ⟨g, h⟩ := Sg hn hF fs.length aX 0 (by omega) (by rw [B1]; omega)
 exact ⟨g, h⟩
def CE (a b : bm) : Bool := (a.source == b.source) && (((a.transform.kind == b.transform.kind) && ((a.transform.param == b.transform.param) && true)) && true)
theorem GQ (a b : bm) : CE a b = true ↔ a = b := by
 obtain ⟨s, k, p⟩ := a
 obtain ⟨s2, k2, p2⟩ := b
 simp [CE, and_assoc]
theorem KJ (a b : bm) : CE a b = CE b a := by
 rw [Bool.eq_iff_iff, GQ, GQ]; exact eq_comm
theorem TT {l : List bm} (hn : l.length < 1000000000) (e : bm) : ∀ (m f j : Nat), j + m = l.length → m < f → ∃ r, bz l e f (j : Int) = some r ∧ decide ((0 : Int) ≤ r) = (l.drop j).any (CE e) := by
 intro m
 induction m with
 | zero =>
  intro f j h hf
  obtain ⟨q, rfl⟩ := fu hf
  rw [bz, Bt (by omega), iF]
  exact ⟨-1, rfl, by rw [List.drop_of_length_le (by omega)]; rfl⟩
 | succ m ih =>
  intro f j h hf
  obtain ⟨q, rfl⟩ := fu hf
  have hj : j < l.length := by omega
  rw [bz, bc hj, iT, aN hj, bS, bS, List.drop_eq_getElem_cons hj, List.any_cons]
  show ∃ r, al (CE e l[j]) _ _ = _ ∧ _
  cases hb : CE e l[j] with
  | true => exact ⟨_, rfl, by simp⟩
  | false =>
   rw [iF, ar hj hn]
   exact ih q (j + 1) (by omega) (by omega)
theorem QN {l : List bm} (hn : l.length < 1000000000) (e : bm) : cZ l e = some (l.any (CE e)) := by
 unfold cZ eW
 obtain ⟨r, h1, h2⟩ := TT hn e l.length aX 0 (by omega) (by rw [B1]; omega)
 rw [show ((0 : Nat) : Int) = 0 from rfl] at h1
 rw [h1, bS, h2]; rfl
theorem Ul {p : dq} (hn : p.fields.length < 1000000000) (rec1 : Int → Option Int) (x1 : Nat) (hx : x1 ≤ p.fields.length) (e : bm) : ∀ (m f j : Nat), j + m = x1 → m < f →
  lJ rec1 p (x1 : Int) e f (j : Int) = if ((p.fields.take x1).drop j).any (CE e) = true then some 5 else sG rec1 (x1 : Int) := by
 intro m
 induction m with
 | zero =>
  intro f j h hf
  obtain ⟨q, rfl⟩ := fu hf
  rw [lJ, Bt (by omega), iF, List.drop_of_length_le (by rw [List.length_take]; omega)]
  rfl
 | succ m ih =>
  intro f j h hf
  obtain ⟨q, rfl⟩ := fu hf
  have hj : j < p.fields.length := by omega
  have hj2 : j < (p.fields.take x1).length := by rw [List.length_take]; omega
  rw [lJ, bc (show j < x1 by omega), iT, aN hj, bS, bS, List.drop_eq_getElem_cons hj2, List.any_cons]
  rw [show (p.fields.take x1)[j] = p.fields[j] by simp]
  show al (CE p.fields[j] e) _ _ = _
  rw [KJ]
  cases hb : CE e p.fields[j] with
  | true => simp [iT]
  | false =>
   rw [iF, ar (show j < x1 by omega) (by omega), ih q (j + 1) (by omega) (by omega)]
   simp
theorem HM {p : dq} {fs : List ac} (hp : p.fields.length < 1000000000) (hf : eV fs < 1000000000) : ∀ (m f j : Nat), j + m = p.fields.length → m < f →
  ∃ c, kA p fs f (j : Int) = some c ∧ hY p fs f (j : Int) = some c ∧ (c = 0 → ∀ (k : Nat) (h : k < p.fields.length), j ≤ k → ∃ i, NZ fs p.fields[k].source i) := by
 have hn : fs.length < 1000000000 := by have := eg fs; omega
 intro m
 induction m with
 | zero =>
  intro f j h hq
  obtain ⟨q, rfl⟩ := fu hq
  refine ⟨0, ?_, ?_, fun _ k hk hj => by omega⟩
  ·rw [kA, Bt (by omega), iF]; rfl
  ·rw [hY, Bt (by omega), iF]; rfl
 | succ m ih =>
  intro f j h hq
  obtain ⟨q, rfl⟩ := fu hq
  have hj : j < p.fields.length := by omega
  rw [kA, hY, bc hj, iT, iT, aN hj, bS, bS]
  rcases NZ.or fs p.fields[j].source with ⟨i, hi⟩ | hi
  ·rw [yj hn hi, A3 hn hi, bS, bS]
   have hs : kr (fs[i]'hi.lt).type < 1000000000 := by
    have h1 := jA (List.getElem_mem hi.lt)
    have h2 := i0 (fs[i]'hi.lt)
    omega
   obtain ⟨e, he, t1, t2⟩ := tt p.fields[j].transform (fs[i]'hi.lt).type hs
   rw [show decide ((i : Int) < 0) = false from by simp, iF, aN hi.lt, bS, t1, bS]
   show ∃ c, _ ∧ al (!true) _ _ = _ ∧ _
   rw [Bool.not_true, iF]
   show ∃ c, _ ∧ aw (gH p.fields[j].transform (fs[i]'hi.lt).type) _ = _ ∧ _
   rw [t2, bS]
   by_cases hz : (Gh p.fields[j].transform (fs[i]'hi.lt).type e).2 = 0
   ·rw [hz, show ((0 : Int) != 0) = false from rfl, iF, iF, gP ⟨by omega, by omega, by omega⟩]
    have hd : (List.take ((j : Int).toNat - (0 : Int).toNat) (List.drop (0 : Int).toNat p.fields)) = p.fields.take j := by simp
    rw [hd, QN (by rw [List.length_take]; omega), bS]
    have hr := Ul hp (hY p fs q) j (by omega) p.fields[j] j aX 0 (by omega) (by rw [B1]; omega)
    rw [show ((0 : Nat) : Int) = 0 from rfl, List.drop_zero] at hr
    rw [hr]
    cases hb : (p.fields.take j).any (CE p.fields[j]) with
    | true => exact ⟨5, rfl, rfl, fun h => absurd h (by decide)⟩
    | false =>
     obtain ⟨c, c1, c2, c3⟩ := ih q (j + 1) (by omega) (by omega)
     refine ⟨c, by rw [iF, ar hj hp]; exact c1, by
      rw [if_neg (by decide)]
      unfold sG
      rw [ar hj hp]; exact c2, fun hc k hk hjk => ?_⟩
     by_cases e : k = j
     ·subst e; exact ⟨i, hi⟩
     ·exact c3 hc k hk (by omega)
   ·have hne : ((Gh p.fields[j].transform (fs[i]'hi.lt).type e).2 != 0) = true := bne_iff_ne.2 hz
    rw [hne, iT, iT]
    exact ⟨_, rfl, rfl, fun h => absurd h hz⟩
  ·obtain ⟨g, hg⟩ := AN hn hi
   rw [yL hn hi, hg, bS, bS, show decide ((-1 : Int) < 0) = true from rfl, iT]
   exact ⟨9, rfl, rfl, fun h => absurd h (by decide)⟩
theorem Lz (p : dq) {fs : List ac} (hp : p.fields.length < 1000000000) (hf : eV fs < 1000000000) : ∃ c, ql p fs = some c ∧ tX p fs = some c ∧ (c = 0 → ∀ (k : Nat) (h : k < p.fields.length), ∃ i, NZ fs p.fields[k].source i) := by
 unfold ql tX
 cases hb : decide ((4 : Int) < (p.fields.length : Int)) with
 | true => exact ⟨7, rfl, rfl, fun h => absurd h (by decide)⟩
 | false =>
  rw [iF, iF]
  obtain ⟨c, h1, h2, h3⟩ := HM (p := p) hp hf p.fields.length aX 0 (by omega) (by rw [B1]; omega)
  exact ⟨c, h1, h2, fun hc k hk => h3 hc k hk (Nat.zero_le _)⟩
end Go.Proofs.YtfnmbpecdjncfaaGreatDoor
namespace Go.Proofs.YtfnmbpecdjncfaaGreatDoor
open Go Go.SX Go.SX.Cal
def ee (e : Int) (f : Option Int) : Option Int := if e ≠ 0 then some e else f
def n4 (a b : Int) : Int := if a ≠ 0 then a else b
def er (b : Bool) (e : Int) : Int := if b then e else 0
theorem iI (e : Int) (f : Option Int) : al (e != (0 : Int)) (some e) f = ee e f := by
 unfold ee; by_cases h : e = 0 <;> simp [h, aO]
theorem dS {b : Bool} {e : Int} (he : e ≠ 0) (f : Option Int) : al b (some e) f = ee (er b e) f := by
 unfold ee er; cases b <;> simp [he, aO]
theorem bC (a b : Int) (f : Option Int) : ee a (ee b f) = ee (n4 a b) f := by
 unfold ee n4; by_cases h : a = 0 <;> simp [h]
theorem dX (a : Int) : ee a (some 0) = some a := by unfold ee; by_cases h : a = 0 <;> simp [h]
theorem vH (a b : Int) : ee a (some b) = some (n4 a b) := by unfold ee n4; by_cases h : a = 0 <;> simp [h]
theorem o5 {a b : Int} : n4 a b = 0 ↔ a = 0 ∧ b = 0 := by unfold n4; by_cases h : a = 0 <;> simp [h]
theorem Cb {b : Bool} {e : Int} (he : e ≠ 0) : er b e = 0 ↔ b = false := by unfold er; cases b <;> simp [he]
theorem Jz (e : Int) : er true e = e := rfl
theorem HD (e : Int) : er false e = 0 := rfl
theorem GZ (b : Int) : n4 0 b = b := rfl
theorem HP {a : Int} (h : a ≠ 0) (b : Int) : n4 a b = a := by unfold n4; rw [if_pos h]
def fe (c : Nat → Int) : Nat → Nat → Int
 | 0, _ => 0
 | m + 1, i => n4 (c i) (fe c m (i + 1))
theorem Nn {c : Nat → Int} : ∀ {m i : Nat}, fe c m i = 0 ↔ ∀ j, i ≤ j → j < i + m → c j = 0
 | 0, i => by simp [fe]; intro j h1 h2; omega
 | m + 1, i => by
  rw [fe, o5, Nn (m := m)]
  constructor
  ·rintro ⟨h1, h2⟩ j h3 h4
   by_cases e : j = i
   ·subst e; exact h1
   ·exact h2 j (by omega) (by omega)
  ·exact fun h => ⟨h i (Nat.le_refl _) (by omega), fun j h1 h2 => h j (by omega) (by omega)⟩
theorem JD {n : Nat} {L : Nat → Int → Option Int} {fin : Option Int} {c : Nat → Int} (h0 : ∀ k, L (k + 1) (n : Int) = fin) (h1 : ∀ k i, i < n → L (k + 1) (i : Int) = ee (c i) (L k ((i + 1 : Nat) : Int))) :
  ∀ m k i, i + m = n → m < k → L k (i : Int) = ee (fe c m i) fin
 | 0, k, i, hi, hk => by
  obtain ⟨k, rfl⟩ := fu hk
  have : i = n := by omega
  subst this
  rw [h0]; rfl
 | m + 1, k, i, hi, hk => by
  obtain ⟨k, rfl⟩ := fu hk
  rw [h1 k i (by omega), JD h0 h1 m k (i + 1) (by omega) (by omega), bC]; rfl
theorem gS {n : Nat} {L : Nat → Int → Option Int} {fin : Option Int} {c : Nat → Int} (hn : n < 1000000000) (h0 : ∀ k, L (k + 1) (n : Int) = fin) (h1 : ∀ k i, i < n → L (k + 1) (i : Int) = ee (c i) (L k ((i + 1 : Nat) : Int))) :
  L aX (0 : Int) = ee (fe c n 0) fin :=
 JD h0 h1 n aX 0 (by omega) (by rw [be]; omega)
def nY (p : Nat → Bool) (n : Nat) : Bool := (List.range n).any p
theorem eE {p : Nat → Bool} {n : Nat} : nY p n = true ↔ ∃ j, j < n ∧ p j = true := by
 unfold nY; rw [List.any_eq_true]; simp [List.mem_range]
theorem rC (n : Nat) : decide ((n : Int) < (n : Int)) = false := by simp
theorem gn {a b : Bool} (h : a = true ↔ b = true) : a = b := Bool.eq_iff_iff.2 h
theorem Gf {n : Nat} {L : Nat → Int → Option Int} {p : Nat → Bool} (h0 : ∀ k, L (k + 1) (n : Int) = some (-1)) (h1 : ∀ k i, i < n → L (k + 1) (i : Int) = al (p i) (some (i : Int)) (L k ((i + 1 : Nat) : Int))) :
  ∀ m k i, i + m = n → m < k → ∃ r, L k (i : Int) = some r ∧ (decide ((0 : Int) ≤ r) = true ↔ ∃ j, i ≤ j ∧ j < n ∧ p j = true)
 | 0, k, i, hi, hk => by
  obtain ⟨k, rfl⟩ := fu hk
  have : i = n := by omega
  subst this
  exact ⟨-1, h0 k, by simp; intro j h1 h2; omega⟩
 | m + 1, k, i, hi, hk => by
  obtain ⟨k, rfl⟩ := fu hk
  rw [h1 k i (by omega)]
  cases hp : p i with
  | true => exact ⟨i, rfl, by simp; exact ⟨i, Nat.le_refl _, by omega, hp⟩⟩
  | false =>
   obtain ⟨r, e1, e2⟩ := Gf h0 h1 m k (i + 1) (by omega) (by omega)
   refine ⟨r, e1, e2.trans ⟨fun ⟨j, a, b, c⟩ => ⟨j, by omega, b, c⟩, fun ⟨j, a, b, c⟩ => ⟨j, ?_, b, c⟩⟩⟩
   by_cases e : j = i
   ·subst e; rw [hp] at c; cases c
   ·omega
theorem FH {n : Nat} {L : Nat → Int → Option Int} {p : Nat → Bool} (hn : n < 1000000000) (h0 : ∀ k, L (k + 1) (n : Int) = some (-1)) (h1 : ∀ k i, i < n → L (k + 1) (i : Int) = al (p i) (some (i : Int)) (L k ((i + 1 : Nat) : Int))) :
  ∃ r, L aX (0 : Int) = some r ∧ decide ((0 : Int) ≤ r) = nY p n := by
 obtain ⟨r, e1, e2⟩ := Gf h0 h1 n aX 0 (by omega) (by rw [be]; omega)
 refine ⟨r, e1, gn (e2.trans (Iff.trans ?_ eE.symm))⟩
 exact ⟨fun ⟨j, _, b, c⟩ => ⟨j, b, c⟩, fun ⟨j, b, c⟩ => ⟨j, Nat.zero_le _, b, c⟩⟩
theorem HC {n : Nat} {L : Nat → Int → Option Bool} {p : Nat → Bool} (h0 : ∀ k, L (k + 1) (n : Int) = some true) (h1 : ∀ k i, i < n → L (k + 1) (i : Int) = al (p i) (some false) (L k ((i + 1 : Nat) : Int))) :
  ∀ m k i, i + m = n → m < k → ∃ b, L k (i : Int) = some b ∧ (b = true ↔ ∀ j, i ≤ j → j < n → p j = false)
 | 0, k, i, hi, hk => by
  obtain ⟨k, rfl⟩ := fu hk
  have : i = n := by omega
  subst this
  exact ⟨true, h0 k, by simp; intro j h1 h2; omega⟩
 | m + 1, k, i, hi, hk => by
  obtain ⟨k, rfl⟩ := fu hk
  rw [h1 k i (by omega)]
  cases hp : p i with
  | true =>
   refine ⟨false, rfl, by simp; exact ⟨i, Nat.le_refl _, by omega, hp⟩⟩
  | false =>
   obtain ⟨b, e1, e2⟩ := HC h0 h1 m k (i + 1) (by omega) (by omega)
   refine ⟨b, e1, e2.trans ⟨fun h j a b => ?_, fun h j a b => h j (by omega) b⟩⟩
   by_cases e : j = i
   ·subst e; exact hp
   ·exact h j (by omega) b
def Ng (p : Nat → Bool) (n : Nat) : Bool := !nY p n
theorem Gi {p : Nat → Bool} {n : Nat} : Ng p n = true ↔ ∀ j, j < n → p j = false := by
 unfold Ng
 rw [Bool.not_eq_true', ← Bool.not_eq_true, eE]
 constructor
 ·intro h j b
  cases hp : p j with
  | false => rfl
  | true => exact absurd ⟨j, b, hp⟩ h
 ·rintro h ⟨j, b, c⟩
  rw [h j b] at c; cases c
theorem wV {n : Nat} {L : Nat → Int → Option Bool} {p : Nat → Bool} (hn : n < 1000000000) (h0 : ∀ k, L (k + 1) (n : Int) = some true) (h1 : ∀ k i, i < n → L (k + 1) (i : Int) = al (p i) (some false) (L k ((i + 1 : Nat) : Int))) :
  L aX (0 : Int) = some (Ng p n) := by
 obtain ⟨b, e1, e2⟩ := HC h0 h1 n aX 0 (by omega) (by rw [be]; omega)
 rw [show ((0 : Nat) : Int) = 0 from rfl] at e1
 rw [e1]
 congr 1
 refine gn (e2.trans (Iff.trans ?_ Gi.symm))
 exact ⟨fun h j b => h j (Nat.zero_le _) b, fun h j _ b => h j b⟩
theorem pU {α : Type} {xs : List α} {i : Nat} (h : i < xs.length) (h0 : 0 < i) (hn : xs.length < 1000000000) : at? xs (IntKind.i64.wrap ((i : Int) - 1)) = some (xs[i - 1]'(by omega)) := by
 rw [yB (by omega) (by omega), show ((i : Int) - 1) = ((i - 1 : Nat) : Int) by omega]
 exact aN (by omega)
theorem kX {n : Nat} (hn : n < 1000000000) : IntKind.i64.wrap ((n : Int) - 1) = (n : Int) - 1 := yB (by omega) (by omega)
end Go.Proofs.YtfnmbpecdjncfaaGreatDoor
namespace Go.Proofs.YtfnmbpecdjncfaaGreatDoor
open Go Go.SX Go.SX.Cal Go.Lib
def vj : ByteArray := ByteArray.mk #[95, 45, 46, 47]
def Gt (n : Nat) : Bool := n == 95 || n == 45 || n == 46 || n == 47
def Gq (n : Nat) : Bool := rh n || (decide (48 ≤ n) && decide (n ≤ 57)) || Gt n
theorem PT : ∀ n : Fin 128, decide (Lib.indexByte [95, 45, 46, 47] (n.val : Int).toNat.toUInt8 < 0) = !Gt n.val := by decide
theorem Gv : ∀ (l : List UInt8) (c : UInt8), (∀ b ∈ l, b ≠ c) → Lib.indexByte l c = -1
 | [], _, _ => rfl
 | b :: l, c, h => by
  have h1 : (b == c) = false := by simp [h b (by simp)]
  rw [Lib.indexByte, h1, if_neg (by decide), Gv l c fun x hx => h x (by simp [hx])]
  rfl
theorem Nu (n : Nat) : jZ (n : Int) = some (Utf8.valid (n : Int)) := by
 unfold jZ iJ iK Utf8.valid
 by_cases h1 : n < 55296
 ·have : (0 : Int) ≤ (n : Int) := by omega
  simp [aO, this, h1, show (n : Int) < 55296 by omega]
 ·by_cases h2 : 57344 ≤ n
  ·by_cases h3 : n ≤ 1114111
   ·simp [aO, show ¬ (n : Int) < 55296 by omega, show (57343 : Int) < n by omega, show (n : Int) ≤ 1114111 by omega, show (57344 : Int) ≤ n by omega]
   ·simp [aO, show ¬ (n : Int) < 55296 by omega, show (57343 : Int) < n by omega, show ¬ (n : Int) ≤ 1114111 by omega]
  ·simp [aO, show ¬ (n : Int) < 55296 by omega, show ¬ (57343 : Int) < n by omega, show ¬ (57344 : Int) ≤ n by omega]
theorem KT : ∀ b ∈ vj.data.toList, b.toNat < 128 := by decide
theorem QB (b : ByteArray) (i : Nat) (h : i < b.size) : b.data.toList.getD i 0 = b[i]'h := by
 have hd : i < b.data.toList.length := by rw [Array.length_toList]; exact h
 rw [List.getD_eq_getElem?_getD, List.getElem?_eq_getElem hd]
 rfl
theorem OK (E : ByteArray) (n k : Nat) (z : Nat) (hz : E.size = z) (f1 : 2 ≤ z) (f2 : z ≤ 4) (f4 : 128 ≤ (E.data.toList.getD (z - 1) 0).toNat) (he : Utf8.encode (n : Int) = E) : gQ vj (n : Int) (k + 1) = some (-1) := by
 rw [gQ.eq_2, he]
 clear he
 have hw : IntKind.i64.wrap ((z : Int) - 1) = ((z - 1 : Nat) : Int) := by rw [yB (by omega) (by omega)]; omega
 have hin : ∀ j, j < 4 → (vj.data.toList.getD j 0).toNat < 128 := by decide
 simp only [hz, hw]
 rw [bS, decide_eq_true (show ((z - 1 : Nat) : Int) < (vj.size : Int) by show _ < (4 : Int); omega), iT, gP ⟨by omega, by show _ < (4 : Int); omega⟩, bS, gP ⟨by omega, by omega⟩, bS]
 have ht : ((z - 1 : Nat) : Int).toNat = z - 1 := by omega
 rw [ht]
 have hne : (((vj.data.toList.getD (z - 1) 0).toNat : Int) != ((E.data.toList.getD (z - 1) 0).toNat : Int)) = true := by
  have a := hin (z - 1) (by omega)
  rw [bne_iff_ne]; omega
 rw [hne, iT]
 have hw2 : IntKind.i64.wrap (((z - 1 : Nat) : Int) + 1) = (z : Int) := by rw [yB (by omega) (by omega)]; omega
 rw [bS, hw2, gP ⟨by omega, by show _ ≤ (4 : Int); omega, Int.le_refl _⟩, gP ⟨by omega, by omega⟩, bS]
 unfold strings_IndexByte
 rw [Gv _ _ fun b hb e => ?_]
 ·rfl
 ·have hb' : b ∈ vj.data.toList := by
   have : b ∈ (vj.extract z 4).data.toList := hb
   rw [ByteArray.data_extract, Array.toList_extract] at this
   exact List.mem_of_mem_drop (List.mem_of_mem_take this)
  have h1 := KT b hb'
  have h2 : ((E.data.toList.getD (z - 1) 0).toNat : Int).toNat.toUInt8 = E.data.toList.getD (z - 1) 0 := by
   rw [Int.toNat_natCast]; simp
  rw [h2] at e
  rw [e] at h1
  omega
theorem Qs (n k : Nat) (h : 128 ≤ n) (hv : Utf8.valid (n : Int) = true) : gQ vj (n : Int) (k + 1) = some (-1) := by
 obtain ⟨f1, f2, f3⟩ := encode_facts (n : Int) hv (by omega)
 have f3 := f3 (by omega)
 obtain ⟨z, hz⟩ : ∃ z, (Utf8.encode (n : Int)).size = z := ⟨_, rfl⟩
 have f4 : 128 ≤ ((Utf8.encode (n : Int)).data.toList.getD (z - 1) 0).toNat := by
  subst hz
  rw [QB _ _ (by omega)]
  exact f3
 rw [hz] at f1 f2
 exact OK _ n k z hz f1 f2 f4 rfl
theorem Re (n : Nat) (h : 128 ≤ n) : ez vj (n : Int) = some (-1) := by
 unfold ez jn
 rw [decide_eq_true (show (0 : Int) ≤ n by omega), iT, decide_eq_false (show ¬ (n : Int) < 128 by omega), iF]
 by_cases h1 : n = 65533
 ·subst h1
  rw [show (((65533 : Nat) : Int) == 65533) = true from rfl, iT]
  show ju vj (1152921504606846971 + 5) 0 = _
  generalize 1152921504606846971 = k
  rfl
 ·rw [show ((n : Int) == 65533) = false by simp; omega, iF, Nu, bS]
  cases hv : Utf8.valid (n : Int) with
  | false => rfl
  | true =>
   rw [Bool.not_true, iF, B1]
   exact Qs n _ h hv
theorem Rp (n : Nat) : ∃ r, ez vj (n : Int) = some r ∧ decide (r < 0) = !Gt n := by
 by_cases h : n < 128
 ·unfold ez jn strings_IndexByte
  rw [decide_eq_true (show (0 : Int) ≤ n by omega), iT, decide_eq_true (show (n : Int) < 128 by omega), iT, bS]
  refine ⟨_, rfl, ?_⟩
  have hw : IntKind.u8.wrap (n : Int) = (n : Int) := by
   unfold IntKind.wrap
   simp [IntKind.bits, IntKind.signed]
   omega
  rw [hw]
  exact PT ⟨n, h⟩
 ·refine ⟨-1, Re n (by omega), ?_⟩
  simp [Gt]; omega
theorem OT (n : Nat) : mL (Int.ofNat n) = some (!Gq n) := by
 obtain ⟨r, h1, h2⟩ := Rp n
 have h1 : ez (ByteArray.mk #[95, 45, 46, 47]) (Int.ofNat n) = some r := h1
 unfold mL dv
 rw [h1]
 simp only [bS, h2, aO, decide_eq_true_eq, Int.ofNat_eq_natCast]
 generalize hs : Gt n = s
 unfold Gq rh
 rw [hs]
 repeat' split
 all_goals (rw [Option.some.injEq, Bool.eq_iff_iff]; cases s <;> simp <;> omega)
def DK (s : ByteArray) (i : Nat) : Bool := !Gq (kQ s i)
theorem Qx (s : ByteArray) : ∀ k i, i ≤ s.size → s.size - i < k → ∃ r, bU s true k i = some r ∧ (decide (0 ≤ r) = (first (DK s) i s.size).isSome) := by
 intro k
 induction k with
 | zero => intro i _ h; omega
 | succ k ih =>
  intro i hi hk
  rw [bU]
  by_cases h : i = s.size
  ·subst h
   rw [rS]
   simp only [Nat.lt_irrefl, decide_false, au]
   exact ⟨-1, rfl, rfl⟩
  ·have hlt : i < s.size := by omega
   simp only [hlt, decide_true, aJ, OT, bf]
   rw [rL hlt]
   by_cases hb : kQ s i < 128
   ·rw [B7 s i hlt hb]
    simp only [DK]
    by_cases hg : Gq (kQ s i) = true
    ·simp only [hg, Bool.not_true, aO]
     obtain ⟨r, h1, h2⟩ := ih (i + 1) (by omega) (by omega)
     exact ⟨r, by simpa using h1, by simpa [DK] using h2⟩
    ·simp only [hg, Bool.not_false, aO]
     exact ⟨_, rfl, by simp⟩
   ·have h1 := BS s i hlt hb
    have g1 : Gq (Utf8.decode s i).1 = false := by
     generalize (Utf8.decode s i).1 = x at h1
     simp [Gq, rh, Gt]; omega
    have g2 : DK s i = true := by
     simp [DK, Gq, rh, Gt]; omega
    simp only [g1, g2, Bool.not_false, aO]
    exact ⟨_, rfl, by simp⟩
def G5 (s : ByteArray) : Bool := decide (1 ≤ s.size) && decide (s.size ≤ 64) && (first (DK s) 0 s.size).isNone
theorem TR (s : ByteArray) (hs : s.size < 1000000000) : oM s = some (G5 s) := by
 obtain ⟨r, h1, h2⟩ := Qx s aX 0 (Nat.zero_le _) (by rw [be]; omega)
 unfold oM lU eH fc fd G5
 rw [h1, bS, bS, bS, h2]
 by_cases z0 : s.size < 1
 ·simp [aO, z0, show (s.size : Int) < 1 by omega]
  omega
 ·by_cases z1 : 64 < s.size
  ·simp [aO, z0, show ¬ (s.size : Int) < 1 by omega, show (64 : Int) < s.size by omega]
   omega
  ·simp only [aO, show ¬ (s.size : Int) < 1 by omega, show ¬ (64 : Int) < s.size by omega, decide_false, Bool.false_eq_true, if_false, show 1 ≤ s.size by omega, show s.size ≤ 64 by omega, decide_true, Bool.true_and]
   cases first (DK s) 0 s.size <;> rfl
theorem MQ (s : ByteArray) (hs : s.size < 1000000000) (k i : Nat) (hi : i < s.size) : bj s (k + 1) (i : Int) = if DK s i = true then some false else bj s k ((i + 1 : Nat) : Int) := by
 rw [bj, ← aO]
 have hb : ((s.data.toList.getD (i : Int).toNat 0).toNat : Int) = (kQ s i : Int) := rfl
 have hw : IntKind.i64.wrap ((i : Int) + 1) = ((i + 1 : Nat) : Int) := by rw [yB (by omega) (by omega)]; omega
 have hg : 0 ≤ (i : Int) ∧ (i : Int) < (s.size : Int) := by omega
 rw [show decide ((i : Int) < (s.size : Int)) = true by simp [hg.2], aJ]
 simp only [ce, ui, hb, hw, bf, ga hg]
 have e1 : ((kQ s i : Int) == 95) = (kQ s i == 95) := by rw [Bool.eq_iff_iff]; simp; omega
 have e2 : (decide ((97 : Int) ≤ kQ s i)) = decide (97 ≤ kQ s i) := by rw [Bool.eq_iff_iff]; simp; omega
 have e3 : (decide ((kQ s i : Int) ≤ 122)) = decide (kQ s i ≤ 122) := by rw [Bool.eq_iff_iff]; simp; omega
 have e4 : (decide ((48 : Int) ≤ kQ s i)) = decide (48 ≤ kQ s i) := by rw [Bool.eq_iff_iff]; simp; omega
 have e5 : (decide ((kQ s i : Int) ≤ 57)) = decide (kQ s i ≤ 57) := by rw [Bool.eq_iff_iff]; simp; omega
 have e6 : ((kQ s i : Int) == 46) = (kQ s i == 46) := by rw [Bool.eq_iff_iff]; simp; omega
 have e7 : ((kQ s i : Int) == 45) = (kQ s i == 45) := by rw [Bool.eq_iff_iff]; simp; omega
 have e8 : ((kQ s i : Int) == 47) = (kQ s i == 47) := by rw [Bool.eq_iff_iff]; simp; omega
 simp only [e1, e2, e3, e4, e5, e6, e7, e8, DK, Gq, rh, Gt]
 generalize hq : bj s k ((i + 1 : Nat) : Int) = q
 generalize (kQ s i == 95) = b1
 generalize decide (97 ≤ kQ s i) = b2
 generalize decide (kQ s i ≤ 122) = b3
 generalize decide (48 ≤ kQ s i) = b4
 generalize decide (kQ s i ≤ 57) = b5
 generalize (kQ s i == 46) = b6
 generalize (kQ s i == 45) = b7
 generalize (kQ s i == 47) = b8
 cases b1 <;> cases b2 <;> cases b3 <;> cases b4 <;> cases b5 <;> cases b6 <;> cases b7 <;> cases b8 <;> rfl
theorem TF (s : ByteArray) (hs : s.size < 1000000000) : vF s = some (G5 s) := by
 have hl := q9 (f := fun k i => bj s k (i : Int)) (n := s.size) (P := DK s) (A := fun _ => some false) (B := some true) (fun k i hi => MQ s hs k i hi)
  (fun k => by rw [bj]; simp only [Int.lt_irrefl, decide_false, au]; rfl) aX 0 (Nat.zero_le _) (by rw [be]; omega)
 have hl : bj s aX (0 : Int) = _ := hl
 unfold vF qW G5
 rw [hl]
 by_cases z0 : s.size < 1
 ·simp [aO, z0, show (s.size : Int) < 1 by omega]
  omega
 ·by_cases z1 : 64 < s.size
  ·simp [aO, z0, show ¬ (s.size : Int) < 1 by omega, show (64 : Int) < s.size by omega]
   omega
  ·simp only [aO, show ¬ (s.size : Int) < 1 by omega, show ¬ (64 : Int) < s.size by omega, decide_false, Bool.false_eq_true, if_false, show 1 ≤ s.size by omega, show s.size ≤ 64 by omega, decide_true, Bool.true_and]
   cases first (DK s) 0 s.size <;> rfl
end Go.Proofs.YtfnmbpecdjncfaaGreatDoor
namespace Go.Proofs.YtfnmbpecdjncfaaGreatDoor.Ord
open Go Go.SX Go.SX.Cal
theorem aJ {β : Type} (x y : Option β) : al true x y = x := rfl
theorem au {β : Type} (x y : Option β) : al false x y = y := rfl
theorem aO {β : Type} (b : Bool) (x y : Option β) : al b x y = if b = true then x else y := by cases b <;> rfl
theorem be : aX = 1152921504606846976 := rfl
theorem wu {x : Int} : IntKind.u64.wrap x = x % 18446744073709551616 := by
 simp only [IntKind.wrap, IntKind.bits, IntKind.signed]
 simp
structure W4 (w : cO) : Prop where
 a0 : 0 ≤ w.size.1
 a1 : w.size.1 < 18446744073709551616
 b0 : 0 ≤ w.size.2.1
 b1 : w.size.2.1 < 18446744073709551616
 c0 : 0 ≤ w.size.2.2.1
 c1 : w.size.2.2.1 < 18446744073709551616
 d0 : 0 ≤ w.size.2.2.2
 d1 : w.size.2.2.2 < 18446744073709551616
def val (w : cO) : Int := w.size.1 + w.size.2.1 * 18446744073709551616 + w.size.2.2.1 * 340282366920938463463374607431768211456 + w.size.2.2.2 * 6277101735386680763835789423207666416102355444464034512896
theorem H3 {x : Int} (h0 : 0 ≤ x) (h1 : x < 18446744073709551616) : ((BitVec.ofInt (IntKind.u64).bits x &&& BitVec.ofInt (IntKind.u64).bits (4294967295 : Int)).toNat : Int) = x % 4294967296 := by
 have e : (BitVec.ofInt 64 x).toNat = x.toNat := by
  rw [BitVec.toNat_ofInt]
  have : x % ((2 ^ 64 : Nat) : Int) = x := by omega
  rw [this]
 have hand : (BitVec.ofInt 64 x &&& BitVec.ofInt 64 (4294967295 : Int)).toNat = x.toNat % 4294967296 := by
  rw [BitVec.toNat_and, e]
  have : (BitVec.ofInt 64 (4294967295 : Int)).toNat = 2 ^ 32 - 1 := by decide
  rw [this, Nat.and_two_pow_sub_one_eq_mod]
 show ((BitVec.ofInt 64 x &&& BitVec.ofInt 64 (4294967295 : Int)).toNat : Int) = _
 rw [hand]
 omega
theorem TB (x : Int) : x.fdiv (2 ^ (min (32 : Int).toNat (IntKind.u64).bits)) = x / 4294967296 := by
 have : (2 : Int) ^ (min (32 : Int).toNat (IntKind.u64).bits) = 4294967296 := by decide
 rw [this, Int.fdiv_eq_ediv_of_nonneg _ (by decide)]
theorem Ll {x : Int} (h0 : 0 ≤ x) (h1 : x < 18446744073709551616) : x % 18446744073709551616 = x := Int.emod_eq_of_lt h0 h1
theorem xa {a b : Int} (a0 : 0 ≤ a) (a1 : a < 4294967296) (b0 : 0 ≤ b) (b1 : b < 4294967296) : 0 ≤ a * b ∧ a * b ≤ 18446744065119617025 := by
 refine ⟨Int.mul_nonneg a0 b0, ?_⟩
 have h1 : a * b ≤ 4294967295 * b := Int.mul_le_mul_of_nonneg_right (by omega) b0
 omega
theorem OA (p11 gc p01 p00 : Int) (h11 : 0 ≤ p11 ∧ p11 ≤ 18446744065119617025) (h10 : 0 ≤ gc ∧ gc ≤ 18446744065119617025) (h01 : 0 ≤ p01 ∧ p01 ≤ 18446744065119617025) (h00 : 0 ≤ p00 ∧ p00 ≤ 18446744065119617025) :
  p11 + (gc + p00 / 4294967296) / 4294967296 + ((gc + p00 / 4294967296) % 4294967296 + p01) / 4294967296 = (p11 * 18446744073709551616 + (gc + p01) * 4294967296 + p00) / 18446744073709551616 := by
 omega
theorem FP {x y : Int} (h0 : 0 ≤ x) (h1 : x < 18446744073709551616) (k0 : 0 ≤ y) (k1 : y < 18446744073709551616) : jG x y = some (x * y / 18446744073709551616, x * y % 18446744073709551616) := by
 unfold jG
 simp only [bf, TB]
 rw [H3 h0 h1, H3 k0 k1]
 simp only [wu]
 have hx0 : 0 ≤ x % 4294967296 ∧ x % 4294967296 < 4294967296 := by omega
 have hx1 : 0 ≤ x / 4294967296 ∧ x / 4294967296 < 4294967296 := by omega
 have hy0 : 0 ≤ y % 4294967296 ∧ y % 4294967296 < 4294967296 := by omega
 have hy1 : 0 ≤ y / 4294967296 ∧ y / 4294967296 < 4294967296 := by omega
 have ex : x = x / 4294967296 * 4294967296 + x % 4294967296 := by omega
 have ey : y = y / 4294967296 * 4294967296 + y % 4294967296 := by omega
 have exy : x * y = (x / 4294967296 * (y / 4294967296)) * 18446744073709551616 + (x / 4294967296 * (y % 4294967296) + x % 4294967296 * (y / 4294967296)) * 4294967296 + x % 4294967296 * (y % 4294967296) := by
  generalize x / 4294967296 = x1 at *
  generalize x % 4294967296 = x0 at *
  generalize y / 4294967296 = y1 at *
  generalize y % 4294967296 = y0 at *
  rw [ex, ey]
  simp only [Int.add_mul, Int.mul_add]
  have e1 : x1 * 4294967296 * (y1 * 4294967296) = x1 * y1 * 18446744073709551616 := by
   rw [Int.mul_assoc, Int.mul_left_comm 4294967296 y1, ← Int.mul_assoc]; rfl
  have e2 : x1 * 4294967296 * y0 = x1 * y0 * 4294967296 := by rw [Int.mul_assoc, Int.mul_comm 4294967296, ← Int.mul_assoc]
  have e3 : x0 * (y1 * 4294967296) = x0 * y1 * 4294967296 := by rw [Int.mul_assoc]
  rw [e1, e2, e3]; omega
 have b11 := xa hx1.1 hx1.2 hy1.1 hy1.2
 have b10 := xa hx1.1 hx1.2 hy0.1 hy0.2
 have b01 := xa hx0.1 hx0.2 hy1.1 hy1.2
 have b00 := xa hx0.1 hx0.2 hy0.1 hy0.2
 rw [Ll (x := x % 4294967296) (by omega) (by omega), Ll (x := y % 4294967296) (by omega) (by omega)]
 have L := OA _ _ _ _ b11 b10 b01 b00
 rw [exy]
 generalize x / 4294967296 * (y / 4294967296) = p11 at *
 generalize x / 4294967296 * (y % 4294967296) = gc at *
 generalize x % 4294967296 * (y / 4294967296) = p01 at *
 generalize x % 4294967296 * (y % 4294967296) = p00 at *
 rw [Ll (x := gc) (by omega) (by omega), Ll (x := p00) (by omega) (by omega), Ll (x := p01) (by omega) (by omega), Ll (x := p11) (by omega) (by omega), Ll (x := gc + p00 / 4294967296) (by omega) (by omega)]
 rw [H3 (x := gc + p00 / 4294967296) (by omega) (by omega)]
 rw [Ll (x := (gc + p00 / 4294967296) % 4294967296) (by omega) (by omega), Ll (x := (gc + p00 / 4294967296) % 4294967296 + p01) (by omega) (by omega)]
 rw [Ll (x := p11 + (gc + p00 / 4294967296) / 4294967296) (by omega) (by omega), Ll (x := p11 + (gc + p00 / 4294967296) / 4294967296 + ((gc + p00 / 4294967296) % 4294967296 + p01) / 4294967296) (by omega) (by omega), L]
theorem zp {x n c : Int} (h0 : 0 ≤ x) (h1 : x < 18446744073709551616) (n0 : 0 ≤ n) (n1 : n < 18446744073709551616) (c0 : 0 ≤ c) (c1 : c < 18446744073709551616) :
  (x * n / 18446744073709551616 + (x * n % 18446744073709551616 + c) / 18446744073709551616) % 18446744073709551616 = (x * n + c) / 18446744073709551616 ∧ (x * n % 18446744073709551616 + c) % 18446744073709551616 = (x * n + c) % 18446744073709551616 ∧ 0 ≤ (x * n + c) / 18446744073709551616 ∧ (x * n + c) / 18446744073709551616 < 18446744073709551616 := by
 have hp : 0 ≤ x * n := Int.mul_nonneg h0 n0
 have hq : x * n ≤ 18446744073709551615 * n := Int.mul_le_mul_of_nonneg_right (by omega) n0
 have hq2 : (18446744073709551615 : Int) * n ≤ 18446744073709551615 * 18446744073709551615 := Int.mul_le_mul_of_nonneg_left (by omega) (by decide)
 have hb : x * n ≤ 340282366920938463426481119284349108225 := by
  refine Int.le_trans hq (Int.le_trans hq2 (by decide))
 generalize x * n = p at *
 omega
theorem MD {w : cO} {n : Int} (h : W4 w) (n0 : 0 ≤ n) (n1 : n < 18446744073709551616) (hv : val w * n < 115792089237316195423570985008687907853269984665640564039457584007913129639936) :
  ∃ w', oH w n = some w' ∧ W4 w' ∧ val w' = val w * n ∧ w'.neg = w.neg := by
 obtain ⟨neg, x0, x1, x2, x3⟩ := w
 obtain ⟨a0, a1, b0, b1, c0, c1, d0, d1⟩ := h
 simp only at a0 a1 b0 b1 c0 c1 d0 d1
 unfold oH
 simp only
 rw [FP a0 a1 n0 n1, FP b0 b1 n0 n1, FP c0 c1 n0 n1, FP d0 d1 n0 n1]
 simp only [bf, wu]
 have hval : val ⟨neg, x0, x1, x2, x3⟩ * n = x0 * n + x1 * n * 18446744073709551616 + x2 * n * 340282366920938463463374607431768211456 + x3 * n * 6277101735386680763835789423207666416102355444464034512896 := by
  unfold val
  simp only [Int.add_mul]
  rw [Int.mul_right_comm x1, Int.mul_right_comm x2, Int.mul_right_comm x3]
 rw [hval] at hv ⊢
 obtain ⟨p1, p2, p3, p4⟩ := zp (c := 0) a0 a1 n0 n1 (by decide) (by decide)
 simp only [Int.add_zero] at p1 p2 p3 p4 ⊢
 rw [p1, p2]
 generalize hc1 : x0 * n / 18446744073709551616 = k1 at *
 obtain ⟨q1, q2, q3, q4⟩ := zp (c := k1) b0 b1 n0 n1 p3 p4
 rw [q1, q2]
 generalize hc2 : (x1 * n + k1) / 18446744073709551616 = k2 at *
 obtain ⟨r1, r2, r3, r4⟩ := zp (c := k2) c0 c1 n0 n1 q3 q4
 rw [r1, r2]
 generalize hc3 : (x2 * n + k2) / 18446744073709551616 = k3 at *
 obtain ⟨s1, s2, s3, s4⟩ := zp (c := k3) d0 d1 n0 n1 r3 r4
 rw [s2]
 have e0 := Int.mul_nonneg a0 n0
 have e1 := Int.mul_nonneg b0 n0
 have e2 := Int.mul_nonneg c0 n0
 have e3 := Int.mul_nonneg d0 n0
 clear p1 p2 q1 q2 r1 r2 s1 s2
 generalize x0 * n = P0 at *
 generalize x1 * n = P1 at *
 generalize x2 * n = P2 at *
 generalize x3 * n = P3 at *
 rw [ga (by omega), ga (by omega), ga (by omega), ga (by omega)]
 refine ⟨_, rfl, ⟨by simp only; omega, by simp only; omega, by simp only; omega, by simp only; omega, by simp only; omega, by simp only; omega, by simp only; omega, by simp only; omega⟩, ?_, rfl⟩
 simp only [val]
 have f0 : P0 = k1 * 18446744073709551616 + P0 % 18446744073709551616 := by omega
 have f1 : P1 + k1 = k2 * 18446744073709551616 + (P1 + k1) % 18446744073709551616 := by omega
 have f2 : P2 + k2 = k3 * 18446744073709551616 + (P2 + k2) % 18446744073709551616 := by omega
 have f3 : P3 + k3 = (P3 + k3) / 18446744073709551616 * 18446744073709551616 + (P3 + k3) % 18446744073709551616 := by omega
 have z : (P3 + k3) / 18446744073709551616 = 0 := by
  generalize P0 % 18446744073709551616 = m0 at *
  generalize (P1 + k1) % 18446744073709551616 = m1 at *
  generalize (P2 + k2) % 18446744073709551616 = m2 at *
  omega
 rw [z] at f3
 generalize P0 % 18446744073709551616 = m0 at *
 generalize (P1 + k1) % 18446744073709551616 = m1 at *
 generalize (P2 + k2) % 18446744073709551616 = m2 at *
 generalize (P3 + k3) % 18446744073709551616 = m3 at *
 omega
def gc : Nat → Int
 | 0 => 1
 | k + 1 => gc k * 10
theorem xe : ∀ k, 1 ≤ gc k
 | 0 => by decide
 | k + 1 => by have := xe k; simp only [gc]; omega
theorem Ft {d : Int} (hd : d ≤ 100) : ∀ (j k : Nat) (neg : Bool) (x0 x1 x2 x3 : Int) (i : Int), W4 ⟨neg, x0, x1, x2, x3⟩ → val ⟨neg, x0, x1, x2, x3⟩ * gc j < 115792089237316195423570985008687907853269984665640564039457584007913129639936 → 0 ≤ val ⟨neg, x0, x1, x2, x3⟩ → 0 ≤ i → i + j = d → j < k →
  ∃ w', eX d k neg x0 x1 x2 x3 i = some w' ∧ W4 w' ∧ val w' = val ⟨neg, x0, x1, x2, x3⟩ * gc j ∧ w'.neg = neg := by
 intro j
 induction j with
 | zero =>
  intro k neg x0 x1 x2 x3 i hw hv hv0 hi hij hk
  match k, hk with
  | k + 1, hk =>
   rw [eX, show decide (i < d) = false by simp; omega, au]
   exact ⟨_, rfl, hw, by simp [gc], rfl⟩
 | succ j ih =>
  intro k neg x0 x1 x2 x3 i hw hv hv0 hi hij hk
  match k, hk with
  | k + 1, hk =>
   rw [eX, show decide (i < d) = true by simp; omega, aJ]
   have hp := xe j
   have hstep : val ⟨neg, x0, x1, x2, x3⟩ * gc (j + 1) = val ⟨neg, x0, x1, x2, x3⟩ * 10 * gc j := by
    simp only [gc]; rw [Int.mul_comm (gc j) 10, Int.mul_assoc]
   have hle : val ⟨neg, x0, x1, x2, x3⟩ * 10 * 1 ≤ val ⟨neg, x0, x1, x2, x3⟩ * 10 * gc j := Int.mul_le_mul_of_nonneg_left hp (by omega)
   obtain ⟨w1, h1, h2, h3, h4⟩ := MD hw (show (0 : Int) ≤ 10 by decide) (by decide) (by rw [hstep] at hv; omega)
   rw [h1]
   simp only [bf]
   obtain ⟨n1, y0, y1, y2, y3⟩ := w1
   simp only at h4 ⊢
   subst h4
   rw [yB (by omega) (by omega)]
   obtain ⟨w2, g1, g2, g3, g4⟩ := ih k n1 y0 y1 y2 y3 (i + 1) h2 (by rw [h3, ← hstep]; exact hv) (by rw [h3]; omega) (by omega) (by omega) (by omega)
   exact ⟨w2, g1, g2, by rw [g3, h3, hstep], g4⟩
theorem Ew {n d : Int} (h1 : -9223372036854775808 ≤ n) (h2 : n ≤ 9223372036854775807) (d0 : 0 ≤ d) (d1 : d ≤ 12) :
  ∃ w, qX n d = some w ∧ W4 w ∧ val w = (if n < 0 then -n else n) * gc d.toNat ∧ w.neg = decide (n < 0) ∧ val w < 57896044618658097711785492504343953926634992332820282019728792003956564819968 := by
 have hp : gc d.toNat ≤ 1000000000000 := by
  have hc : d = 0 ∨ d = 1 ∨ d = 2 ∨ d = 3 ∨ d = 4 ∨ d = 5 ∨ d = 6 ∨ d = 7 ∨ d = 8 ∨ d = 9 ∨ d = 10 ∨ d = 11 ∨ d = 12 := by omega
  rcases hc with rfl | rfl | rfl | rfl | rfl | rfl | rfl | rfl | rfl | rfl | rfl | rfl | rfl <;> decide
 have hp1 := xe d.toNat
 have key : ∀ (neg : Bool) (a : Int), 0 ≤ a → a ≤ 9223372036854775808 → ∃ w, mN ⟨neg, a, 0, 0, 0⟩ d = some w ∧ W4 w ∧ val w = a * gc d.toNat ∧ w.neg = neg ∧ val w < 57896044618658097711785492504343953926634992332820282019728792003956564819968 := by
  intro neg a a0 a1
  have hv : val ⟨neg, a, 0, 0, 0⟩ = a := by simp [val]
  have hb : a * gc d.toNat ≤ 9223372036854775808 * 1000000000000 := by
   refine Int.le_trans (Int.mul_le_mul_of_nonneg_right a1 (by omega)) (Int.mul_le_mul_of_nonneg_left hp (by decide))
  have hb2 : a * gc d.toNat ≤ 9223372036854775808000000000000 := Int.le_trans hb (by decide)
  unfold mN
  obtain ⟨w, g1, g2, g3, g4⟩ := Ft (d := d) (by omega) d.toNat aX neg a 0 0 0 0 ⟨a0, by simp only; omega, by simp, by simp, by simp, by simp, by simp, by simp⟩ (by rw [hv]; omega) (by rw [hv]; exact a0) (by decide) (by omega) (by rw [be]; omega)
  exact ⟨w, g1, g2, by rw [g3, hv], g4, by rw [g3, hv]; omega⟩
 unfold qX yF
 by_cases hn : n < 0
 ·rw [show decide (n < 0) = true by simpa using hn, aJ]
  simp only [bf, wu]
  have e : (0 - n % 18446744073709551616) % 18446744073709551616 = -n := by omega
  rw [e]
  obtain ⟨w, g1, g2, g3, g4, g5⟩ := key true (-n) (by omega) (by omega)
  rw [g1]
  simp only [bf]
  exact ⟨_, rfl, g2, by rw [if_pos hn]; exact g3, g4, g5⟩
 ·rw [show decide (n < 0) = false by simpa using hn, au]
  simp only [bf, wu]
  rw [Ll (by omega) (by omega)]
  obtain ⟨w, g1, g2, g3, g4, g5⟩ := key false n (by omega) (by omega)
  rw [g1]
  simp only [bf]
  exact ⟨_, rfl, g2, by rw [if_neg hn]; exact g3, g4, g5⟩
end Go.Proofs.YtfnmbpecdjncfaaGreatDoor.Ord
namespace Go.Proofs.YtfnmbpecdjncfaaGreatDoor.Ord
open Go Go.SX Go.SX.Cal
def c3 (a b : Int) : Int := if a < b then -1 else if b < a then 1 else 0
def sv (w : cO) : Int := if w.neg = true then -val w else val w
theorem M6 {a b : cO} (ha : W4 a) (hb : W4 b) : nV a b = some (c3 (val a) (val b)) := by
 obtain ⟨n, x0, x1, x2, x3⟩ := a
 obtain ⟨m, y0, y1, y2, y3⟩ := b
 obtain ⟨a0, a1, b0, b1, c0, c1, d0, d1⟩ := ha
 obtain ⟨e0, e1, f0, f1, g0, g1, h0, h1⟩ := hb
 simp only at *
 unfold nV
 simp only [aO, decide_eq_true_eq]
 unfold c3 val
 simp only
 by_cases q3 : x3 < y3
 ·rw [if_pos q3, if_pos (by omega)]
 rw [if_neg q3]
 by_cases q3' : y3 < x3
 ·rw [if_pos q3', if_neg (by omega), if_pos (by omega)]
 rw [if_neg q3']
 by_cases q2 : x2 < y2
 ·rw [if_pos q2, if_pos (by omega)]
 rw [if_neg q2]
 by_cases q2' : y2 < x2
 ·rw [if_pos q2', if_neg (by omega), if_pos (by omega)]
 rw [if_neg q2']
 by_cases q1 : x1 < y1
 ·rw [if_pos q1, if_pos (by omega)]
 rw [if_neg q1]
 by_cases q1' : y1 < x1
 ·rw [if_pos q1', if_neg (by omega), if_pos (by omega)]
 rw [if_neg q1']
 by_cases q0 : x0 < y0
 ·rw [if_pos q0, if_pos (by omega)]
 rw [if_neg q0]
 by_cases q0' : y0 < x0
 ·rw [if_pos q0', if_neg (by omega), if_pos (by omega)]
 rw [if_neg q0', if_neg (by omega), if_neg (by omega)]
def tG (w : cO) : Prop := w.size.1 = 0 ∧ w.size.2.1 = 0 ∧ w.size.2.2.1 = 0 ∧ w.size.2.2.2 = 0
instance (w : cO) : Decidable (tG w) := by unfold tG; infer_instance
theorem Fb (n m : Bool) (h : ¬ n = m) : (!(n == m)) = true ∧ (!m) = n := by revert h; cases n <;> cases m <;> simp
theorem OL (w : cO) : pP w = some (decide (tG w)) := by
 unfold pP tG
 simp only [bf]
 congr 1
 by_cases h1 : w.size.1 = 0 <;> by_cases h2 : w.size.2.1 = 0 <;> by_cases h3 : w.size.2.2.1 = 0 <;> by_cases h4 : w.size.2.2.2 = 0 <;> simp [h1, h2, h3, h4]
theorem JV {b1 b6 : Bool} {x0 x1 x2 x3 y0 y1 y2 y3 : Int} (ha : W4 ⟨b1, x0, x1, x2, x3⟩) (hb : W4 ⟨b6, y0, y1, y2, y3⟩) :
  ∃ w, jO b1 x0 x1 x2 x3 b6 y0 y1 y2 y3 = some w ∧ w.neg = b1 ∧ (tG w ↔ val ⟨b1, x0, x1, x2, x3⟩ = val ⟨b6, y0, y1, y2, y3⟩) := by
 obtain ⟨a0, a1, b0, b1', c0, c1, d0, d1⟩ := ha
 obtain ⟨e0, e1, f0, f1, g0, g1, h0, h1⟩ := hb
 simp only at *
 unfold jO
 simp only [bf, Int.add_zero, Int.sub_zero]
 have hk : ∀ (p : Prop) [Decidable p], 0 ≤ (if p then (1 : Int) else 0) ∧ (if p then (1 : Int) else 0) ≤ 1 := by
  intro p _; split <;> omega
 have k1 := hk (x0 < y0)
 have e0' : (if x0 < y0 then (1 : Int) else 0) = 0 ↔ ¬ x0 < y0 := by split <;> simp_all
 generalize (if x0 < y0 then (1 : Int) else 0) = u1 at *
 have k2 := hk (x1 < y1 + u1)
 have e1' : (if x1 < y1 + u1 then (1 : Int) else 0) = 0 ↔ ¬ x1 < y1 + u1 := by split <;> simp_all
 generalize (if x1 < y1 + u1 then (1 : Int) else 0) = u2 at *
 have k3 := hk (x2 < y2 + u2)
 have e2' : (if x2 < y2 + u2 then (1 : Int) else 0) = 0 ↔ ¬ x2 < y2 + u2 := by split <;> simp_all
 generalize (if x2 < y2 + u2 then (1 : Int) else 0) = u3 at *
 rw [ga (by omega), ga (by omega), ga (by omega), ga (by omega)]
 refine ⟨_, rfl, rfl, ?_⟩
 simp only [tG, val]
 constructor
 ·rintro ⟨z0, z1, z2, z3⟩
  have q0 : x0 = y0 := by omega
  have q1 : u1 = 0 := by rw [e0']; omega
  have q2 : x1 = y1 := by omega
  have q3 : u2 = 0 := by rw [e1']; omega
  have q4 : x2 = y2 := by omega
  have q5 : u3 = 0 := by rw [e2']; omega
  have q6 : x3 = y3 := by omega
  omega
 ·intro hv
  have q3 : x3 = y3 := by omega
  have q2 : x2 = y2 := by omega
  have q1 : x1 = y1 := by omega
  have q0 : x0 = y0 := by omega
  have r1 : u1 = 0 := by rw [e0']; omega
  have r2 : u2 = 0 := by rw [e1']; omega
  have r3 : u3 = 0 := by rw [e2']; omega
  subst q0 q1 q2 q3 r1 r2 r3
  simp
theorem Kq {k : Nat} {b : Bool} {x0 x1 x2 x3 y0 y1 y2 y3 : Int} (ha : W4 ⟨b, x0, x1, x2, x3⟩) (hb : W4 ⟨b, y0, y1, y2, y3⟩) (hv : val ⟨b, x0, x1, x2, x3⟩ + val ⟨b, y0, y1, y2, y3⟩ < 115792089237316195423570985008687907853269984665640564039457584007913129639936) :
  ∃ w, lf (k + 1) ⟨b, x0, x1, x2, x3⟩ ⟨b, y0, y1, y2, y3⟩ = some w ∧ w.neg = b ∧ (tG w ↔ val ⟨b, x0, x1, x2, x3⟩ + val ⟨b, y0, y1, y2, y3⟩ = 0) := by
 obtain ⟨a0, a1, b0, b1', c0, c1, d0, d1⟩ := ha
 obtain ⟨e0, e1, f0, f1, g0, g1, h0, h1⟩ := hb
 simp only at *
 rw [lf]
 simp only [beq_self_eq_true, Bool.not_true, au, bf, Int.add_zero]
 simp only [val] at hv ⊢
 have m0 : x0 + y0 = (x0 + y0) / 18446744073709551616 * 18446744073709551616 + (x0 + y0) % 18446744073709551616 := by omega
 have u0 : 0 ≤ (x0 + y0) / 18446744073709551616 ∧ (x0 + y0) / 18446744073709551616 ≤ 1 := by omega
 have v0 : 0 ≤ (x0 + y0) % 18446744073709551616 := by omega
 generalize (x0 + y0) / 18446744073709551616 = t0 at *
 generalize (x0 + y0) % 18446744073709551616 = r0 at *
 have m1 : x1 + y1 + t0 = (x1 + y1 + t0) / 18446744073709551616 * 18446744073709551616 + (x1 + y1 + t0) % 18446744073709551616 := by omega
 have u1 : 0 ≤ (x1 + y1 + t0) / 18446744073709551616 ∧ (x1 + y1 + t0) / 18446744073709551616 ≤ 1 := by omega
 have v1 : 0 ≤ (x1 + y1 + t0) % 18446744073709551616 := by omega
 generalize (x1 + y1 + t0) / 18446744073709551616 = t1 at *
 generalize (x1 + y1 + t0) % 18446744073709551616 = r1 at *
 have m2 : x2 + y2 + t1 = (x2 + y2 + t1) / 18446744073709551616 * 18446744073709551616 + (x2 + y2 + t1) % 18446744073709551616 := by omega
 have u2 : 0 ≤ (x2 + y2 + t1) / 18446744073709551616 ∧ (x2 + y2 + t1) / 18446744073709551616 ≤ 1 := by omega
 have v2 : 0 ≤ (x2 + y2 + t1) % 18446744073709551616 := by omega
 generalize (x2 + y2 + t1) / 18446744073709551616 = t2 at *
 generalize (x2 + y2 + t1) % 18446744073709551616 = r2 at *
 have m3 : x3 + y3 + t2 = (x3 + y3 + t2) / 18446744073709551616 * 18446744073709551616 + (x3 + y3 + t2) % 18446744073709551616 := by omega
 have u3 : 0 ≤ (x3 + y3 + t2) / 18446744073709551616 ∧ (x3 + y3 + t2) / 18446744073709551616 ≤ 1 := by omega
 have v3 : 0 ≤ (x3 + y3 + t2) % 18446744073709551616 := by omega
 generalize (x3 + y3 + t2) / 18446744073709551616 = t3 at *
 generalize (x3 + y3 + t2) % 18446744073709551616 = r3 at *
 rw [ga (by omega), ga (by omega), ga (by omega), ga (by omega)]
 refine ⟨_, rfl, rfl, ?_⟩
 simp only [tG]
 constructor
 ·rintro ⟨z0, z1, z2, z3⟩
  have : t3 = 0 := by omega
  omega
 ·intro hz
  refine ⟨by omega, by omega, by omega, by omega⟩
theorem GE {a b : cO} (ha : W4 a) (hb : W4 b) (va : val a < 57896044618658097711785492504343953926634992332820282019728792003956564819968) (vb : val b < 57896044618658097711785492504343953926634992332820282019728792003956564819968)
  (na : a.neg = true → 0 < val a) (nb : b.neg = true → 0 < val b) : kC a b = some (c3 (sv a) (sv b)) := by
 have pa : 0 ≤ val a := by obtain ⟨a0, a1, b0, b1, c0, c1, d0, d1⟩ := ha; unfold val; omega
 have pb : 0 ≤ val b := by obtain ⟨a0, a1, b0, b1, c0, c1, d0, d1⟩ := hb; unfold val; omega
 obtain ⟨n, x0, x1, x2, x3⟩ := a
 obtain ⟨m, y0, y1, y2, y3⟩ := b
 have hany : ∀ (q : Bool), W4 ⟨q, y0, y1, y2, y3⟩ := fun q => ⟨hb.1, hb.2, hb.3, hb.4, hb.5, hb.6, hb.7, hb.8⟩
 have hval : ∀ (q q' : Bool) (z0 z1 z2 z3 : Int), val ⟨q, z0, z1, z2, z3⟩ = val ⟨q', z0, z1, z2, z3⟩ := fun _ _ _ _ _ _ => rfl
 unfold kC
 simp only [OL]
 have hB : aX = 1152921504606846974 + 1 + 1 := rfl
 rw [hB, kf]
 simp only
 by_cases hs : n = m
 ·subst hs
  simp only [beq_self_eq_true, Bool.not_true, au]
  rw [M6 ha hb]
  simp only [bf]
  by_cases hlt : val ⟨n, x0, x1, x2, x3⟩ < val ⟨n, y0, y1, y2, y3⟩
  ·have e1 : c3 (val ⟨n, x0, x1, x2, x3⟩) (val ⟨n, y0, y1, y2, y3⟩) = -1 := by unfold c3; rw [if_pos hlt]
   rw [e1, show decide ((-1 : Int) < 0) = true from rfl, aJ]
   unfold iW
   simp only [bf]
   obtain ⟨w, g1, g2, g3⟩ := JV (b6 := n) (hany (!n)) ha
   rw [g1]
   simp only [bf]
   have hz : ¬ tG w := fun h => by
    have := g3.1 h
    have e2 := hval (!n) n y0 y1 y2 y3
    omega
   have hz' : ¬ tG ⟨w.neg, w.size.1, w.size.2.1, w.size.2.2.1, w.size.2.2.2⟩ := hz
   rw [show decide (tG ⟨w.neg, w.size.1, w.size.2.1, w.size.2.2.1, w.size.2.2.2⟩) = false by simpa using hz', au, g2]
   unfold sv
   cases n with
   | true => simp only [Bool.not_true, au, if_true]; unfold c3; rw [if_neg (by omega), if_pos (by omega)]
   | false => simp only [Bool.not_false, aJ, Bool.false_eq_true, if_false]; unfold c3; rw [if_pos (by omega)]
  ·have e1 : decide (c3 (val ⟨n, x0, x1, x2, x3⟩) (val ⟨n, y0, y1, y2, y3⟩) < 0) = false := by
    unfold c3; rw [if_neg hlt]; split <;> rfl
   rw [e1, au]
   obtain ⟨w, g1, g2, g3⟩ := JV ha hb
   rw [g1]
   simp only [bf]
   have hz : tG ⟨w.neg, w.size.1, w.size.2.1, w.size.2.2.1, w.size.2.2.2⟩ ↔ val ⟨n, x0, x1, x2, x3⟩ = val ⟨n, y0, y1, y2, y3⟩ := g3
   by_cases heq : val ⟨n, x0, x1, x2, x3⟩ = val ⟨n, y0, y1, y2, y3⟩
   ·rw [show decide (tG ⟨w.neg, w.size.1, w.size.2.1, w.size.2.2.1, w.size.2.2.2⟩) = true by simpa using hz.2 heq, aJ]
    unfold sv
    simp only
    rw [heq]
    unfold c3; rw [if_neg (by omega), if_neg (by omega)]
   ·rw [show decide (tG ⟨w.neg, w.size.1, w.size.2.1, w.size.2.2.1, w.size.2.2.2⟩) = false by simpa using fun h => heq (hz.1 h), au, g2]
    unfold sv
    cases n with
    | true => simp only [aJ, if_true]; unfold c3; rw [if_pos (by omega)]
    | false => simp only [au, Bool.false_eq_true, if_false]; unfold c3; rw [if_neg (by omega), if_pos (by omega)]
 ·have hsb : (!(n == m)) = true := (Fb n m hs).1
  rw [hsb, aJ]
  unfold iW
  simp only [bf]
  have hnm : (!m) = n := (Fb n m hs).2
  rw [hnm]
  obtain ⟨w, g1, g2, g3⟩ := Kq (k := 1152921504606846974) ha (hany n) (by have := hval n m y0 y1 y2 y3; omega)
  rw [g1]
  simp only [bf]
  have hz : tG ⟨w.neg, w.size.1, w.size.2.1, w.size.2.2.1, w.size.2.2.2⟩ ↔ val ⟨n, x0, x1, x2, x3⟩ + val ⟨n, y0, y1, y2, y3⟩ = 0 := g3
  have hpos : ¬ val ⟨n, x0, x1, x2, x3⟩ + val ⟨n, y0, y1, y2, y3⟩ = 0 := by
   have e := hval n m y0 y1 y2 y3
   cases n with
   | true => have := na rfl; omega
   | false =>
    have : m = true := by simpa using hnm
    have := nb this
    omega
  rw [show decide (tG ⟨w.neg, w.size.1, w.size.2.1, w.size.2.2.1, w.size.2.2.2⟩) = false by simpa using fun h => hpos (hz.1 h), au, g2]
  unfold sv
  cases n with
  | true =>
   have : m = false := by simpa using hnm
   subst this
   have := na rfl
   simp only [aJ, if_true, Bool.false_eq_true, if_false]; unfold c3; rw [if_pos (by omega)]
  | false =>
   have : m = true := by simpa using hnm
   subst this
   have := nb rfl
   simp only [au, if_true, Bool.false_eq_true, if_false]; unfold c3; rw [if_neg (by omega), if_pos (by omega)]
end Go.Proofs.YtfnmbpecdjncfaaGreatDoor.Ord
namespace Go.Proofs.YtfnmbpecdjncfaaGreatDoor.Ord
open Go Go.SX Go.SX.Cal
def or' (x y : Int) : Int := if x ≠ 0 then x else y
def cS (s t : ByteArray) : Int := if Op.bytesLess s.toList t.toList = true then -1 else if s.toList = t.toList then 0 else 1
def inR (sc : Int) : Prop := 0 ≤ sc ∧ sc ≤ 12
instance (sc : Int) : Decidable (inR sc) := by unfold inR; infer_instance
def AK (k : Int) : Int := if k = 0 then 1 else 0
def zU (k sc : Int) : Int := if k = 3 ∧ ¬ inR sc then 1 else 0
def vvI (k sc n : Int) : Int := if k = 3 ∧ inR sc then n * gc (12 - sc).toNat else n
mutual
def cmpV : ae → ae → Int
 | ⟨k, n, sc, s, it⟩, b => or' (c3 (AK k) (AK b.kind)) (or' (c3 k b.kind) (if k = 0 then 0 else or' (c3 (zU k sc) (zU b.kind b.scale)) (or' (c3 (vvI k sc n) (vvI b.kind b.scale b.n)) (or' (c3 sc b.scale) (or' (cS s b.s) (cmpL it b.items))))))
def cmpL : List ae → List ae → Int
 | [], m => match m with
  | [] => 0
  | _ :: _ => -1
 | x :: l, m => match m with
  | [] => 1
  | y :: ys => or' (cmpV x y) (cmpL l ys)
end
def i64 (x : Int) : Prop := -9223372036854775808 ≤ x ∧ x ≤ 9223372036854775807
mutual
def wfV : ae → Prop
 | ⟨k, n, sc, _, it⟩ => i64 k ∧ i64 n ∧ i64 sc ∧ wfL it
def wfL : List ae → Prop
 | [] => True
 | x :: l => wfV x ∧ wfL l
end
theorem AO : ∀ {l : List ae} {x : ae}, wfL l → x ∈ l → wfV x
 | [], _, _, h => by cases h
 | y :: l, x, hw, h => by
  simp only [wfL] at hw
  rcases List.mem_cons.1 h with rfl | h
  ·exact hw.1
  ·exact AO hw.2 h
theorem nD : ∀ {l : List ae} {x : ae}, x ∈ l → eP x ≤ nW l
 | [], _, h => by cases h
 | y :: l, x, h => by
  simp only [nW]
  rcases List.mem_cons.1 h with rfl | h
  ·omega
  ·have := nD h; omega
theorem ww : ∀ v : ae, 1 ≤ eP v
 | ⟨_, _, _, _, _⟩ => by simp only [eP]; omega
theorem oQ : ∀ l : List ae, l.length ≤ nW l
 | [] => by simp [nW]
 | x :: l => by
  have := oQ l
  have := ww x
  simp only [nW, List.length_cons]; omega
theorem Lq (a b : Int) : lh a b = some (c3 a b) := by
 unfold lh sy c3
 simp only [bf, bne_self_eq_false, au]
 by_cases h : a < b
 ·simp [h, aO]
 ·by_cases k : b < a <;> simp [h, k, aO]
theorem SJ (a b : ByteArray) : mX a b = some (cS a b) := by
 unfold mX oG cS
 simp only [bf, beq_self_eq_true, Bool.not_true, au]
 by_cases h : Op.bytesLess a.toList b.toList = true
 ·simp [h, aO]
 ·have h' : Op.bytesLess a.toList b.toList = false := by simpa using h
  by_cases k : a.toList = b.toList
  ·rw [k] at h' ⊢
   simp [h', aO]
  ·simp [h', k, aO]
theorem BD {p : List Int} {k i : Nat} {x : Int} (h : p[i]? = some x) (hi : i < 1000) : je p (k + 1) (i : Int) = if x ≠ 0 then some x else je p k ((i + 1 : Nat) : Int) := by
 have hlt := (List.getElem?_eq_some_iff.1 h).1
 rw [je, show decide ((i : Int) < (p.length : Int)) = true by simp [hlt], aJ]
 have : at? p (i : Int) = some x := by unfold at?; simp [h]
 rw [this]
 simp only [bf]
 rw [yB (by omega) (by omega), show (i : Int) + 1 = ((i + 1 : Nat) : Int) by omega]
 by_cases hx : x = 0
 ·simp [hx, aO]
 ·simp [hx, aO]
theorem M5 {p : List Int} {k : Nat} : je p (k + 1) (p.length : Int) = some 0 := by
 rw [je, show decide ((p.length : Int) < (p.length : Int)) = false by simp, au]
 rfl
theorem UB (x y : Int) : oy [x, y] = some (or' x y) := by
 unfold oy or'
 have hB : aX = 1152921504606846973 + 1 + 1 + 1 := rfl
 have h0 := BD (p := [x, y]) (k := 1152921504606846973 + 1 + 1) (i := 0) (x := x) rfl (by decide)
 have h1 := BD (p := [x, y]) (k := 1152921504606846973 + 1) (i := 1) (x := y) rfl (by decide)
 have h2 := M5 (p := [x, y]) (k := 1152921504606846973)
 rw [hB]
 refine Eq.trans h0 ?_
 rw [h1]
 refine Eq.trans (b := if x ≠ 0 then some x else if y ≠ 0 then some y else some 0) (by rw [← h2]; rfl) ?_
 by_cases hx : x = 0 <;> by_cases hy : y = 0 <;> simp [hx, hy]
theorem U4 (x y z : Int) : oy [x, y, z] = some (or' x (or' y z)) := by
 unfold oy or'
 have hB : aX = 1152921504606846972 + 1 + 1 + 1 + 1 := rfl
 have h0 := BD (p := [x, y, z]) (k := 1152921504606846972 + 1 + 1 + 1) (i := 0) (x := x) rfl (by decide)
 have h1 := BD (p := [x, y, z]) (k := 1152921504606846972 + 1 + 1) (i := 1) (x := y) rfl (by decide)
 have h2 := BD (p := [x, y, z]) (k := 1152921504606846972 + 1) (i := 2) (x := z) rfl (by decide)
 have h3 := M5 (p := [x, y, z]) (k := 1152921504606846972)
 rw [hB]
 refine Eq.trans h0 ?_
 rw [h1, h2]
 refine Eq.trans (b := if x ≠ 0 then some x else if y ≠ 0 then some y else if z ≠ 0 then some z else some 0) (by rw [← h3]; rfl) ?_
 by_cases hx : x = 0 <;> by_cases hy : y = 0 <;> by_cases hz : z = 0 <;> simp [hx, hy, hz]
theorem cmpf_loop (f : ae → ae → Option Int) (p1 p2 : List ae) (hl : p1.length < 1000000000000000) (hf : ∀ x ∈ p1, ∀ y ∈ p2, f x y = some (cmpV x y)) : ∀ (k i : Nat), i ≤ p1.length → i ≤ p2.length → p1.length < i + k →
  aP f p1 p2 k (i : Int) = some (cmpL (p1.drop i) (p2.drop i)) := by
 intro k
 induction k with
 | zero => intro i h1 h2 h3; omega
 | succ k ih =>
  intro i h1 h2 h3
  rw [aP]
  by_cases hi : i < p1.length
  ·have e1 : p1.drop i = p1[i] :: p1.drop (i + 1) := List.drop_eq_getElem_cons hi
   have a1 : at? p1 (i : Int) = some p1[i] := by unfold at?; simp [hi]
   rw [show decide ((i : Int) < (p1.length : Int)) = true by simp [hi], aJ, a1, e1]
   simp only [bf]
   by_cases hj : i < p2.length
   ·have e2 : p2.drop i = p2[i] :: p2.drop (i + 1) := List.drop_eq_getElem_cons hj
    have a2 : at? p2 (i : Int) = some p2[i] := by unfold at?; simp [hj]
    rw [show decide ((p2.length : Int) ≤ (i : Int)) = false by simp; omega, au, a2, e2]
    simp only [bf]
    rw [hf _ (List.getElem_mem hi) _ (List.getElem_mem hj)]
    simp only [bf, cmpL]
    unfold or'
    by_cases hc : cmpV p1[i] p2[i] = 0
    ·have e : (cmpV p1[i] p2[i] != 0) = false := by simp [hc]
     rw [e, au, yB (by omega) (by omega), show (i : Int) + 1 = ((i + 1 : Nat) : Int) by omega, ih (i + 1) (by omega) (by omega) (by omega), if_neg (by simp [hc])]
    ·have e : (cmpV p1[i] p2[i] != 0) = true := by simp [hc]
     rw [e, aJ, if_pos hc]
   ·have e2 : p2.drop i = [] := List.drop_of_length_le (by omega)
    rw [show decide ((p2.length : Int) ≤ (i : Int)) = true by simp; omega, aJ, e2]
    rfl
  ·have : i = p1.length := by omega
   subst this
   rw [show decide ((p1.length : Int) < (p1.length : Int)) = false by simp, au, List.drop_length]
   unfold bI
   by_cases hj : p1.length < p2.length
   ·have e2 : p2.drop p1.length = p2[p1.length] :: p2.drop (p1.length + 1) := List.drop_eq_getElem_cons hj
    rw [show decide ((p1.length : Int) < (p2.length : Int)) = true by simp [hj], aJ, e2]
    rfl
   ·have e2 : p2.drop p1.length = [] := List.drop_of_length_le (by omega)
    rw [show decide ((p1.length : Int) < (p2.length : Int)) = false by simp; omega, au, e2]
    rfl
theorem I5 (a b c : Int) : gw a b c = some (decide (b ≤ a ∧ a ≤ c)) := by
 unfold gw np
 by_cases h : b ≤ a <;> by_cases k : a ≤ c <;> simp [h, k, aO]
theorem or_zero (y : Int) : or' 0 y = y := by simp [or']
theorem c3_self (a : Int) : c3 a a = 0 := by simp [c3]
theorem compare_eq : ∀ (N : Nat) (a b : ae) (k : Nat), eP a ≤ N → eP a < 1000000000000000 → wfV a → wfV b → 3 * N + 3 ≤ k → eR k a b = some (cmpV a b) := by
 intro N
 induction N with
 | zero => intro a b k h; have := ww a; omega
 | succ N ih =>
  intro a b k hN hbig ha hb hk
  obtain ⟨k', rfl⟩ : ∃ k', k = k' + 1 + 1 + 1 := ⟨k - 3, by omega⟩
  obtain ⟨ka, na, sa, ta, ia⟩ := a
  obtain ⟨kb, nb, sb, tb, ib⟩ := b
  simp only [wfV] at ha hb
  obtain ⟨wk, wn, ws, wi⟩ := ha
  obtain ⟨vk, vn, vs, vi⟩ := hb
  simp only [eP] at hN hbig
  have hlen := oQ ia
  -- the rest
  have hitems : az (k' + 1) ia ib = some (cmpL ia ib) := by
   rw [az]
   have := cmpf_loop (eR k') ia ib (by omega) (fun x hx y hy => by
    have h1 := nD hx
    exact ih x y k' (by omega) (by omega) (AO wi hx) (AO vi hy) (by omega)) aX 0 (Nat.zero_le _) (Nat.zero_le _) (by rw [be]; omega)
   simpa using this
  have hrest : kw (k' + 1 + 1) ⟨ka, na, sa, ta, ia⟩ ⟨kb, nb, sb, tb, ib⟩ = some (or' (c3 sa sb) (or' (cS ta tb) (cmpL ia ib))) := by
   rw [kw]
   simp only [Lq, SJ, bf, hitems, U4]
  rw [eR]
  simp only [Lq, bf, I5, cmpV]
  by_cases hkk : ka = kb
  ·subst hkk
   rw [show (ka != ka) = false by simp, au, c3_self, c3_self, or_zero, or_zero]
   by_cases h0 : ka = 0
   ·subst h0; rw [if_pos rfl]; rfl
   ·rw [beq_eq_false_iff_ne.2 h0, au, if_neg h0]
    have plain : mh (kw (k' + 1 + 1)) ⟨ka, na, sa, ta, ia⟩ ⟨ka, nb, sb, tb, ib⟩ = some (or' (c3 na nb) (or' (c3 sa sb) (or' (cS ta tb) (cmpL ia ib)))) := by
     unfold mh
     simp only [Lq, bf, hrest, UB]
    by_cases h3 : ka = 3
    ·subst h3
     rw [show ((3 : Int) == 3) = true from rfl, aJ]
     unfold oR
     by_cases hA : 0 ≤ sa ∧ sa ≤ 12
     ·have hiA : inR sa := hA
      by_cases hB : 0 ≤ sb ∧ sb ≤ 12
      ·have hiB : inR sb := hB
       simp only [hA, hB, and_self, decide_true, aJ]
       rw [yB (x := 12 - sa) (by omega) (by omega), yB (x := 12 - sb) (by omega) (by omega)]
       obtain ⟨w1, g1, g2, g3, g4, g5⟩ := Ew (n := na) (d := 12 - sa) wn.1 wn.2 (by omega) (by omega)
       obtain ⟨w2, f1, f2, f3, f4, f5⟩ := Ew (n := nb) (d := 12 - sb) vn.1 vn.2 (by omega) (by omega)
       rw [g1, f1]
       simp only [bf]
       have pp1 := xe (12 - sa).toNat
       have pp2 := xe (12 - sb).toNat
       have sgn : ∀ (n P : Int), 1 ≤ P → n < 0 → 0 < (if n < 0 then -n else n) * P := by
        intro n P hP hn
        rw [if_pos hn]
        exact Int.mul_pos (by omega) (by omega)
       have sv1 : sv w1 = na * gc (12 - sa).toNat := by
        unfold sv; rw [g3, g4]
        by_cases hn : na < 0
        ·simp only [hn, decide_true, if_true]; rw [Int.neg_mul, Int.neg_neg]
        ·simp only [hn, decide_false, Bool.false_eq_true, if_false]
       have sv2 : sv w2 = nb * gc (12 - sb).toNat := by
        unfold sv; rw [f3, f4]
        by_cases hn : nb < 0
        ·simp only [hn, decide_true, if_true]; rw [Int.neg_mul, Int.neg_neg]
        ·simp only [hn, decide_false, Bool.false_eq_true, if_false]
       have hcmp : kC ⟨w1.neg, w1.size.1, w1.size.2.1, w1.size.2.2.1, w1.size.2.2.2⟩ ⟨w2.neg, w2.size.1, w2.size.2.1, w2.size.2.2.1, w2.size.2.2.2⟩ = some (c3 (na * gc (12 - sa).toNat) (nb * gc (12 - sb).toNat)) := by
        have := GE g2 f2 g5 f5 (fun h => by rw [g3]; exact sgn na _ pp1 (by rw [g4] at h; simpa using h)) (fun h => by rw [f3]; exact sgn nb _ pp2 (by rw [f4] at h; simpa using h))
        rw [sv1, sv2] at this
        exact this
       rw [hcmp]
       simp only [bf, hrest, UB]
       have o1 : zU 3 sa = 0 := by unfold zU; rw [if_neg (by simp [hiA])]
       have o2 : zU 3 sb = 0 := by unfold zU; rw [if_neg (by simp [hiB])]
       have u1 : vvI 3 sa na = na * gc (12 - sa).toNat := by unfold vvI; rw [if_pos ⟨rfl, hiA⟩]
       have u2 : vvI 3 sb nb = nb * gc (12 - sb).toNat := by unfold vvI; rw [if_pos ⟨rfl, hiB⟩]
       rw [o1, o2, c3_self, or_zero, u1, u2]
      ·have hiB : ¬ inR sb := hB
       have eB : decide (0 ≤ sb ∧ sb ≤ 12) = false := by simpa using hB
       have eA : decide (0 ≤ sa ∧ sa ≤ 12) = true := by simpa using hA
       rw [eA, eB]
       simp only [aJ, au]
       have o1 : zU 3 sa = 0 := by unfold zU; rw [if_neg (by simp [hiA])]
       have o2 : zU 3 sb = 1 := by unfold zU; rw [if_pos ⟨rfl, hiB⟩]
       rw [o1, o2]; rfl
     ·have hiA : ¬ inR sa := hA
      have eA : decide (0 ≤ sa ∧ sa ≤ 12) = false := by simpa using hA
      have o1 : zU 3 sa = 1 := by unfold zU; rw [if_pos ⟨rfl, hiA⟩]
      have u1 : vvI 3 sa na = na := by unfold vvI; rw [if_neg (by simp [hiA])]
      rw [eA]
      simp only [au]
      by_cases hB : 0 ≤ sb ∧ sb ≤ 12
      ·have hiB : inR sb := hB
       have eB : decide (0 ≤ sb ∧ sb ≤ 12) = true := by simpa using hB
       have o2 : zU 3 sb = 0 := by unfold zU; rw [if_neg (by simp [hiB])]
       rw [eB, o1, o2]; rfl
      ·have hiB : ¬ inR sb := hB
       have eB : decide (0 ≤ sb ∧ sb ≤ 12) = false := by simpa using hB
       have o2 : zU 3 sb = 1 := by unfold zU; rw [if_pos ⟨rfl, hiB⟩]
       have u2 : vvI 3 sb nb = nb := by unfold vvI; rw [if_neg (by simp [hiB])]
       rw [eB, au, plain, o1, o2, c3_self, or_zero, u1, u2]
    ·rw [beq_eq_false_iff_ne.2 h3, au, plain]
     have o1 : ∀ q, zU ka q = 0 := fun q => by unfold zU; rw [if_neg (by simp [h3])]
     have u1 : ∀ q r, vvI ka q r = r := fun q r => by unfold vvI; rw [if_neg (by simp [h3])]
     rw [o1, o1, c3_self, or_zero, u1, u1]
  ·rw [show (ka != kb) = true by simp [hkk], aJ]
   by_cases h0 : ka = 0
   ·subst h0
    have : AK kb = 0 := by unfold AK; rw [if_neg (fun e => hkk e.symm)]
    rw [this]; rfl
   ·rw [beq_eq_false_iff_ne.2 h0, au]
    have n1 : AK ka = 0 := by unfold AK; rw [if_neg h0]
    by_cases h1 : kb = 0
    ·subst h1; rw [n1]; rfl
    ·have n2 : AK kb = 0 := by unfold AK; rw [if_neg h1]
     rw [beq_eq_false_iff_ne.2 h1, au, n1, n2, c3_self, or_zero]
     have hc : c3 ka kb ≠ 0 := by unfold c3; split <;> (try split) <;> omega
     unfold or'
     rw [if_pos hc]
end Go.Proofs.YtfnmbpecdjncfaaGreatDoor.Ord
namespace Go.Proofs.YtfnmbpecdjncfaaGreatDoor.Ord
open Go Go.SX Go.SX.Cal
theorem tL {x y x' y' : Int} (h : x = -x') (k : y = -y') : or' x y = -or' x' y' := by
 unfold or'
 by_cases hx : x' = 0
 ·have : x = 0 := by omega
  rw [if_neg (by simp [this]), if_neg (by simp [hx])]; exact k
 ·have : x ≠ 0 := by omega
  rw [if_pos this, if_pos hx]; exact h
theorem vA (a b : Int) : c3 a b = -c3 b a := by
 unfold c3
 by_cases h1 : a < b <;> by_cases h2 : b < a <;> simp [h1, h2] <;> omega
def cB (l m : List UInt8) : Int := if Op.bytesLess l m = true then -1 else if l = m then 0 else 1
theorem Fx (a b : UInt8) (l m : List UInt8) : cB (a :: l) (b :: m) = or' (c3 a.toNat b.toNat) (cB l m) := by
 unfold cB or' c3
 simp only [Op.bytesLess, Bool.or_eq_true, Bool.and_eq_true, decide_eq_true_eq, beq_iff_eq, List.cons.injEq]
 by_cases h1 : a < b
 ·have h1' : (a.toNat : Int) < b.toNat := by have := UInt8.lt_iff_toNat_lt.1 h1; omega
  simp [h1, h1']
 ·have h1' : ¬ (a.toNat : Int) < b.toNat := fun h => h1 (UInt8.lt_iff_toNat_lt.2 (by omega))
  by_cases h2 : a = b
  ·subst h2
   simp
  ·have h3 : (b.toNat : Int) < a.toNat := by
    have : a.toNat ≠ b.toNat := fun h => h2 (UInt8.toNat_inj.1 h)
    omega
   simp [h1, h1', h2, h3]
theorem Jp : ∀ l m : List UInt8, cB l m = -cB m l
 | [], [] => by decide
 | [], _ :: _ => by simp [cB, Op.bytesLess]
 | _ :: _, [] => by simp [cB, Op.bytesLess]
 | a :: l, b :: m => by
  rw [Fx, Fx]
  exact tL (vA _ _) (Jp l m)
theorem Mu (s t : ByteArray) : cS s t = cB s.toList t.toList := rfl
mutual
theorem EA : ∀ a b : ae, cmpV a b = -cmpV b a
 | ⟨k, n, sc, s, it⟩, ⟨k', n', sc', s', it'⟩ => by
  have hL := EU it it'
  simp only [cmpV]
  by_cases hk : k = k'
  ·subst hk
   refine tL (vA _ _) (tL (vA _ _) ?_)
   split
   ·rfl
   ·exact tL (vA _ _) (tL (vA _ _) (tL (vA _ _) (tL (by rw [Mu, Mu]; exact Jp _ _) hL)))
  ·have e1 : ∀ y, or' (c3 k k') y = c3 k k' := fun y => by
    unfold or'; rw [if_pos (by unfold c3; split <;> (try split) <;> omega)]
   have e2 : ∀ y, or' (c3 k' k) y = c3 k' k := fun y => by
    unfold or'; rw [if_pos (by unfold c3; split <;> (try split) <;> omega)]
   rw [e1, e2]
   exact tL (vA _ _) (vA _ _)
theorem EU : ∀ l m : List ae, cmpL l m = -cmpL m l
 | [], [] => by simp [cmpL]
 | [], _ :: _ => by simp [cmpL]
 | _ :: _, [] => by simp [cmpL]
 | x :: l, y :: m => by
  have h1 := EA x y
  have h2 := EU l m
  simp only [cmpL]
  exact tL h1 h2
end
theorem cmpV_refl (a : ae) : cmpV a a = 0 := by
 have := EA a a
 omega
end Go.Proofs.YtfnmbpecdjncfaaGreatDoor.Ord
namespace Go.Proofs.YtfnmbpecdjncfaaGreatDoor.Ord
open Go Go.SX Go.SX.Cal
theorem wK (a b : Int) : jE a b = some (c3 a b) := by
 unfold jE c3
 by_cases h : a < b
 ·simp [h, aO]
 ·by_cases k : b < a <;> simp [h, k, aO]
theorem MU (a b c : Int) : fZ a b c = some (decide (b ≤ a ∧ a ≤ c)) := I5 a b c
def jI : List Int → Int
 | [] => 0
 | d :: l => d + 10 * jI l
def CO (l : List Int) : Prop := ∀ d ∈ l, 0 ≤ d ∧ d ≤ 9
def RC (l : List Int) : Prop := ∀ d, l.getLast? = some d → d ≠ 0
theorem s7 : ∀ {l : List Int}, CO l → 0 ≤ jI l
 | [], _ => by simp [jI]
 | d :: l, h => by
  have h1 := h d (by simp)
  have h2 := s7 (l := l) (fun x hx => h x (by simp [hx]))
  simp only [jI]; omega
theorem p10n : ∀ n, 0 < gc n := fun n => by have := xe n; omega
theorem AL : ∀ {l : List Int}, CO l → jI l < gc l.length
 | [], _ => by simp [jI, gc]
 | d :: l, h => by
  have h1 := h d (by simp)
  have h2 := AL (l := l) (fun x hx => h x (by simp [hx]))
  simp only [jI, List.length_cons, gc]; omega
theorem C4 : ∀ {l : List Int}, CO l → RC l → l ≠ [] → gc (l.length - 1) ≤ jI l
 | [], _, _, h => absurd rfl h
 | [d], h, ht, _ => by
  have h1 := h d (by simp)
  have h2 := ht d (by simp)
  simp [jI, gc]; omega
 | d :: e :: l, h, ht, _ => by
  have h1 := h d (by simp)
  have h2 := C4 (l := e :: l) (fun x hx => h x (by simp [hx])) (fun x hx => ht x (by simpa using hx)) (by simp)
  simp only [List.length_cons] at h2 ⊢
  rw [show l.length + 1 + 1 - 1 = (l.length + 1 - 1) + 1 by omega]
  simp only [gc]
  rw [jI]
  omega
theorem He {m n : Nat} (h : m ≤ n) : gc m ≤ gc n := by
 induction n with
 | zero =>
  have : m = 0 := by omega
  subst this; exact Int.le_refl _
 | succ n ih =>
  by_cases e : m = n + 1
  ·subst e; exact Int.le_refl _
  ·have h1 := ih (by omega)
   have h2 := p10n n
   simp only [gc]; omega
theorem sZ : ∀ (l m : List Int), jI (l ++ m) = jI l + gc l.length * jI m
 | [], m => by simp [jI, gc]
 | d :: l, m => by
  simp only [List.cons_append, jI, sZ l m, List.length_cons, gc]
  rw [Int.mul_add, ← Int.mul_assoc, Int.mul_comm 10 (gc l.length)]; omega
theorem HY (k : Nat) : jI (List.replicate k 0) = 0 := by
 induction k with
 | zero => rfl
 | succ k ih => simp [List.replicate_succ, jI, ih]
theorem KS {a b : List Int} (ha : CO a) (hb : CO b) (hl : a.length = b.length) (hbig : a.length < 1000000) : ∀ (k i : Nat), i ≤ a.length → i < k → jI (a.drop i) = jI (b.drop i) →
  ∃ r, oT a b k ((i : Int) - 1) = some r ∧ -9 ≤ r ∧ r ≤ 9 ∧ c3 r 0 = c3 (jI a) (jI b) := by
 intro k
 induction k with
 | zero => intro i h1 h2; omega
 | succ k ih =>
  intro i h1 h2 he
  rw [oT]
  cases i with
  | zero =>
   rw [show decide ((0 : Int) ≤ ((0 : Nat) : Int) - 1) = false from rfl, au]
   simp only [List.drop_zero] at he
   exact ⟨0, rfl, by omega, by omega, by rw [he, c3_self, c3_self]⟩
  | succ i =>
   have hia : i < a.length := by omega
   have hib : i < b.length := by omega
   have e1 : ((i + 1 : Nat) : Int) - 1 = (i : Int) := by omega
   have aa : at? a (i : Int) = some a[i] := by unfold at?; simp [hia]
   have bb : at? b (i : Int) = some b[i] := by unfold at?; simp [hib]
   rw [e1, show decide ((0 : Int) ≤ (i : Int)) = true by simp, aJ, aa, bb]
   simp only [bf]
   have da : a.drop i = a[i] :: a.drop (i + 1) := List.drop_eq_getElem_cons hia
   have db : b.drop i = b[i] :: b.drop (i + 1) := List.drop_eq_getElem_cons hib
   have ra := ha a[i] (List.getElem_mem hia)
   have rb := hb b[i] (List.getElem_mem hib)
   by_cases hne : a[i] = b[i]
   ·rw [show (a[i] != b[i]) = false by simp [hne], au, yB (by omega) (by omega)]
    refine ih i (by omega) (by omega) ?_
    rw [da, db]; simp only [jI]; omega
   ·rw [show (a[i] != b[i]) = true by simp [hne], aJ, yB (by omega) (by omega)]
    refine ⟨_, rfl, by omega, by omega, ?_⟩
    have va : jI a = jI (a.take i) + gc i * jI (a.drop i) := by
     have := sZ (a.take i) (a.drop i)
     rw [List.take_append_drop, List.length_take, Nat.min_eq_left (by omega)] at this
     exact this
    have vb : jI b = jI (b.take i) + gc i * jI (b.drop i) := by
     have := sZ (b.take i) (b.drop i)
     rw [List.take_append_drop, List.length_take, Nat.min_eq_left (by omega)] at this
     exact this
    have la := AL (l := a.take i) (fun x hx => ha x (List.mem_of_mem_take hx))
    have lb := AL (l := b.take i) (fun x hx => hb x (List.mem_of_mem_take hx))
    have na := s7 (l := a.take i) (fun x hx => ha x (List.mem_of_mem_take hx))
    have nb := s7 (l := b.take i) (fun x hx => hb x (List.mem_of_mem_take hx))
    rw [List.length_take, Nat.min_eq_left (by omega)] at la lb
    rw [da] at va; rw [db] at vb
    simp only [jI] at va vb
    have hp := p10n i
    have key : gc i * (a[i] + 10 * jI (a.drop (i + 1))) - gc i * (b[i] + 10 * jI (b.drop (i + 1))) = gc i * (a[i] - b[i]) := by
     rw [← Int.mul_sub, he]; congr 1; omega
    unfold c3
    rcases Int.lt_or_gt_of_ne hne with hlt | hgt
    ·have : gc i * (a[i] - b[i]) ≤ gc i * (-1) := Int.mul_le_mul_of_nonneg_left (by omega) (by omega)
     rw [if_pos (by omega), if_pos (by omega)]
    ·have : gc i * 1 ≤ gc i * (a[i] - b[i]) := Int.mul_le_mul_of_nonneg_left (by omega) (by omega)
     rw [if_neg (by omega), if_pos (by omega), if_neg (by omega), if_pos (by omega)]
theorem OZ {a b : List Int} (ha : CO a) (hb : CO b) (ta : RC a) (tb : RC b) (la : a.length < 1000) (lb : b.length < 1000) : ∃ r, zo a b = some r ∧ -1000 ≤ r ∧ r ≤ 1000 ∧ c3 r 0 = c3 (jI a) (jI b) := by
 unfold zo
 by_cases hl : a.length = b.length
 ·rw [show ((a.length : Int) != (b.length : Int)) = false by simp [hl], au, yB (by omega) (by omega)]
  obtain ⟨r, h1, h2, h3, h4⟩ := KS ha hb hl (by omega) aX a.length (Nat.le_refl _) (by rw [be]; omega) (by rw [List.drop_length, hl, List.drop_length])
  exact ⟨r, h1, by omega, by omega, h4⟩
 ·have hne : ((a.length : Int) != (b.length : Int)) = true := by simp; omega
  rw [hne, aJ, yB (by omega) (by omega)]
  refine ⟨_, rfl, by omega, by omega, ?_⟩
  have l1 := AL ha
  have l2 := AL hb
  rcases Nat.lt_or_gt_of_ne hl with h | h
  ·have g := C4 hb tb (by rintro rfl; simp at h)
   have := He (show a.length ≤ b.length - 1 by omega)
   unfold c3; rw [if_pos (by omega), if_pos (by omega)]
  ·have g := C4 ha ta (by rintro rfl; simp at h)
   have := He (show b.length ≤ a.length - 1 by omega)
   unfold c3; rw [if_neg (by omega), if_pos (by omega), if_neg (by omega), if_pos (by omega)]
structure RW (r : ry) (n : Int) : Prop where
 dg : CO r.d
 tp : RC r.d
 ln : r.d.length < 100
 vl : (if r.below = true then -jI r.d else jI r.d) = n
 bl : r.below = true → 0 < jI r.d
theorem Hm {a b : ry} {m n : Int} (ha : RW a m) (hb : RW b n) : oW a b = some (c3 m n) := by
 obtain ⟨da, ta, la, va, ba⟩ := ha
 obtain ⟨db, tb, lb, vb, bb⟩ := hb
 have pa := s7 da
 have pb := s7 db
 obtain ⟨r, h1, h2, h3, h4⟩ := OZ da db ta tb (by omega) (by omega)
 unfold oW
 rw [h1]
 simp only [bf]
 have fin : ∀ x : Int, jL x = some (c3 x 0) := by
  intro x
  unfold jL c3
  by_cases h : x < 0
  ·simp [h, aO]
  ·by_cases k : 0 < x <;> simp [h, k, aO]
 by_cases hs : a.below = b.below
 ·rw [show (!(a.below == b.below)) = false by simp [hs], au, yB (by omega) (by omega), fin, fin]
  rw [← hs] at vb
  cases hbel : a.below with
  | true =>
   rw [aJ]
   rw [hbel] at va vb
   simp only [if_true] at va vb
   congr 1
   subst va; subst vb
   have e : c3 (0 - r) 0 = -c3 r 0 := by unfold c3; by_cases x1 : r < 0 <;> by_cases x2 : 0 < r <;> simp [x1, x2] <;> omega
   have e2 : c3 (-jI a.d) (-jI b.d) = -c3 (jI a.d) (jI b.d) := by unfold c3; by_cases x1 : jI a.d < jI b.d <;> by_cases x2 : jI b.d < jI a.d <;> simp [x1, x2] <;> omega
   rw [e, e2, h4]
  | false =>
   rw [au]
   rw [hbel] at va vb
   simp only [Bool.false_eq_true, if_false] at va vb
   subst va; subst vb
   rw [h4]
 ·have hb2 := (Fb a.below b.below hs)
  rw [hb2.1, aJ]
  cases hbel : a.below with
  | true =>
   have hb0 : b.below = false := by have := hb2.2; rw [hbel] at this; simpa using this
   rw [aJ]
   rw [hbel] at va; rw [hb0] at vb
   simp only [if_true, Bool.false_eq_true, if_false] at va vb
   have := ba hbel
   unfold c3; rw [if_pos (by omega)]
  | false =>
   have hb0 : b.below = true := by have := hb2.2; rw [hbel] at this; simpa using this
   rw [au]
   rw [hbel] at va; rw [hb0] at vb
   simp only [if_true, Bool.false_eq_true, if_false] at va vb
   have := bb hb0
   unfold c3; rw [if_neg (by omega), if_pos (by omega)]
end Go.Proofs.YtfnmbpecdjncfaaGreatDoor.Ord
namespace Go.Proofs.YtfnmbpecdjncfaaGreatDoor.Ord
open Go Go.SX Go.SX.Cal
def ab (n : Int) : Int := if n < 0 then -n else n
theorem NQ {l : List Int} {x : Int} (h : CO l) (hx : 0 ≤ x ∧ x ≤ 9) : CO (l ++ [x]) := by
 intro d hd
 rcases List.mem_append.1 hd with h1 | h1
 ·exact h d h1
 ·simp at h1; subst h1; exact hx
theorem GM {n : Int} (hn0 : -9223372036854775808 ≤ n) (hn1 : n ≤ 9223372036854775807) : ∀ (k : Nat) (l : List Int) (m : Int), l.length ≤ 19 → 19 - l.length < k → CO l → (m = 0 → RC l) → ab m < gc (19 - l.length) → -9223372036854775808 ≤ m → m ≤ 9223372036854775807 → ab n = jI l + gc l.length * ab m →
  ∃ d, eO n k l m = some ⟨decide (n < 0), d⟩ ∧ CO d ∧ RC d ∧ d.length ≤ 19 ∧ jI d = ab n := by
 intro k
 induction k with
 | zero => intro l m h1 h2; omega
 | succ k ih =>
  intro l m hl hk hd ht hm m0 m1 hv
  rw [eO]
  by_cases h0 : m = 0
  ·subst h0
   rw [show ((0 : Int) != 0) = false from rfl, au]
   exact ⟨l, rfl, hd, ht rfl, hl, by simp [ab] at hv ⊢; omega⟩
  ·have hlen : l.length < 19 := by
    apply Classical.byContradiction
    intro hn
    have : l.length = 19 := by omega
    rw [this] at hm
    simp only [Nat.sub_self, gc] at hm
    unfold ab at hm; split at hm <;> omega
   rw [show (m != 0) = true by simp [h0], aJ]
   have hq : m.tdiv 10 = if m < 0 then -((-m) / 10) else m / 10 := by
    by_cases hneg : m < 0
    ·rw [if_pos hneg]
     have : m = -(-m) := by omega
     rw [this, Int.neg_tdiv, Int.neg_neg, Int.tdiv_eq_ediv_of_nonneg (by omega)]
    ·rw [if_neg hneg, Int.tdiv_eq_ediv_of_nonneg (by omega)]
   have hr : m.tmod 10 = if m < 0 then -((-m) % 10) else m % 10 := by
    by_cases hneg : m < 0
    ·rw [if_pos hneg]
     have : m = -(-m) := by omega
     rw [this, Int.neg_tmod, Int.neg_neg, Int.tmod_eq_emod_of_nonneg (by omega)]
    ·rw [if_neg hneg, Int.tmod_eq_emod_of_nonneg (by omega)]
   have step : ∀ x, x = ab m % 10 → ot (eO n k) l m x = eO n k (l ++ [ab m % 10]) (m.tdiv 10) := by
    intro x hx
    unfold ot
    rw [ga (by omega), hx, yB (by rw [hq]; split <;> omega) (by rw [hq]; split <;> omega)]
   have hgo : eO n k (l ++ [ab m % 10]) (m.tdiv 10) = eO n k (l ++ [ab m % 10]) (m.tdiv 10) := rfl
   have habq : ab (m.tdiv 10) = ab m / 10 := by
    rw [hq]; unfold ab
    by_cases hneg : m < 0
    ·simp only [hneg, if_true]; split <;> omega
    ·simp only [hneg, if_false]; split <;> omega
   have hab0 : 0 ≤ ab m := by unfold ab; split <;> omega
   have hp : gc (19 - l.length) = gc (19 - (l ++ [ab m % 10]).length) * 10 := by
    rw [show 19 - l.length = (19 - (l ++ [ab m % 10]).length) + 1 by simp; omega]; rfl
   have nxt := ih (l ++ [ab m % 10]) (m.tdiv 10) (by simp; omega) (by simp; omega) (NQ hd (by omega)) (fun hz => by
     intro d hdl
     simp at hdl
     subst hdl
     have h1 : ab m / 10 = 0 := by rw [← habq, hz]; rfl
     have h2 : ab m ≠ 0 := by unfold ab; split <;> omega
     omega) (by rw [habq]; rw [hp] at hm; omega) (by rw [hq]; split <;> omega) (by rw [hq]; split <;> omega) (by
     rw [sZ, List.length_append, List.length_singleton, habq, hv]
     simp only [jI, gc]
     have e : ab m = ab m % 10 + 10 * (ab m / 10) := by omega
     have e2 : gc l.length * ab m = gc l.length * (ab m % 10) + gc l.length * 10 * (ab m / 10) := by
      rw [Int.mul_assoc, ← Int.mul_add, ← e]
     rw [e2]; simp only [Int.mul_zero, Int.add_zero]; omega)
   by_cases hneg : m.tmod 10 < 0
   ·rw [show decide (m.tmod 10 < 0) = true by simpa using hneg, aJ]
    have hx : IntKind.i64.wrap (0 - m.tmod 10) = ab m % 10 := by
     rw [yB (by rw [hr]; split <;> omega) (by rw [hr]; split <;> omega)]
     rw [hr] at hneg ⊢
     unfold ab
     by_cases h : m < 0
     ·simp only [h, if_true]; omega
     ·simp only [h, if_false] at hneg; omega
    rw [step _ hx]; exact nxt
   ·rw [show decide (m.tmod 10 < 0) = false by simpa using hneg, au]
    have hx : m.tmod 10 = ab m % 10 := by
     rw [hr] at hneg ⊢
     unfold ab
     by_cases h : m < 0
     ·simp only [h, if_true] at hneg ⊢; omega
     ·simp only [h, if_false]
    rw [step _ hx]; exact nxt
theorem EK {v : ae} (hn : i64 v.n) (hs : inR v.scale) : ∃ r, sR v = some r ∧ RW r (v.n * gc (12 - v.scale).toNat) := by
 obtain ⟨n0, n1⟩ := hn
 obtain ⟨s0, s1⟩ := hs
 have hab : ab v.n ≤ 9223372036854775808 := by unfold ab; split <;> omega
 obtain ⟨d, h1, h2, h3, h4, h5⟩ := GM n0 n1 aX [] v.n (by simp) (by rw [be]; decide) (fun x hx => by cases hx) (fun _ x hx => by simp at hx) (by
  have : gc (19 - ([] : List Int).length) = 10000000000000000000 := by decide
  rw [this]; omega) n0 n1 (by simp [jI, gc])
 unfold sR yD
 rw [h1]
 simp only [bf]
 rw [yB (by omega) (by omega)]
 unfold B9
 have hpp := xe (12 - v.scale).toNat
 by_cases he : d = []
 ·subst he
  have hz : v.n = 0 := by simp only [jI] at h5; unfold ab at h5; split at h5 <;> omega
  rw [show (((⟨decide (v.n < 0), []⟩ : ry).d.length : Int) == 0) = true from rfl, aJ]
  refine ⟨_, rfl, ⟨h2, h3, by simp, ?_, ?_⟩⟩
  ·simp [hz, jI]
  ·simp [hz]
 ·have hlen : ((d.length : Int) == 0) = false := by
   rw [beq_eq_false_iff_ne]
   have : d.length ≠ 0 := fun h => he (List.length_eq_zero_iff.1 h)
   omega
  simp only
  rw [hlen, au, ga (by omega), ga (by simp; omega)]
  have hval : jI (List.replicate (12 - v.scale).toNat 0 ++ d) = ab v.n * gc (12 - v.scale).toNat := by
   rw [sZ, HY, List.length_replicate, h5, Int.mul_comm]; omega
  have hpos : 0 < ab v.n := by
   have h6 := C4 h2 h3 he
   have := p10n (d.length - 1)
   omega
  refine ⟨_, rfl, ⟨fun x hx => ?_, fun x hx => ?_, by simp; omega, ?_, fun _ => ?_⟩⟩
  ·rcases List.mem_append.1 hx with h | h
   ·have := List.eq_of_mem_replicate h; omega
   ·exact h2 x h
  ·rw [List.getLast?_append] at hx
   cases hg : d.getLast? with
   | none => exact absurd (List.getLast?_eq_none_iff.1 hg) he
   | some y => rw [hg] at hx; simp at hx; subst hx; exact h3 _ hg
  ·simp only
   rw [hval]
   by_cases hneg : v.n < 0
   ·simp only [hneg, decide_true, if_true, ab]; rw [Int.neg_mul, Int.neg_neg]
   ·simp only [hneg, decide_false, Bool.false_eq_true, if_false, ab]
  ·simp only
   rw [hval]
   exact Int.mul_pos hpos (by omega)
theorem IB {s t : ByteArray} (hs : s.size < 1000000000000000) : ∀ (k i : Nat), i ≤ s.size → i ≤ t.size → s.size < i + k →
  j3 s t k (i : Int) = some (cB (s.data.toList.drop i) (t.data.toList.drop i)) := by
 have ls : s.data.toList.length = s.size := by simp
 have lt : t.data.toList.length = t.size := by simp
 intro k
 induction k with
 | zero => intro i h1 h2 h3; omega
 | succ k ih =>
  intro i h1 h2 h3
  rw [j3]
  unfold sC wv
  simp only [wK, bf]
  by_cases hi : i < s.size
  ·have e1 : s.data.toList.drop i = s.data.toList[i]'(by omega) :: s.data.toList.drop (i + 1) := List.drop_eq_getElem_cons (by omega)
   rw [show decide ((i : Int) < (s.size : Int)) = true by simpa using hi, aJ]
   by_cases hj : i < t.size
   ·have e2 : t.data.toList.drop i = t.data.toList[i]'(by omega) :: t.data.toList.drop (i + 1) := List.drop_eq_getElem_cons (by omega)
    have g1 : s.data.toList.getD (i : Int).toNat 0 = s.data.toList[i]'(by omega) := by simp [List.getD, hi]
    have g2 : t.data.toList.getD (i : Int).toNat 0 = t.data.toList[i]'(by omega) := by simp [List.getD, hj]
    rw [show decide ((i : Int) < (t.size : Int)) = true by simpa using hj, aJ, ga (by omega), ga (by omega), ga (by omega), ga (by omega), g1, g2, e1, e2, Fx]
    generalize s.data.toList[i]'(by omega) = x
    generalize t.data.toList[i]'(by omega) = y
    have hx := x.toNat_lt
    have hy := y.toNat_lt
    rw [yB (x := (x.toNat : Int)) (by omega) (by omega), yB (x := (y.toNat : Int)) (by omega) (by omega)]
    by_cases hxy : (x.toNat : Int) = y.toNat
    ·rw [show ((x.toNat : Int) != (y.toNat : Int)) = false by rw [bne_eq_false_iff_eq]; exact hxy, au, yB (by omega) (by omega), show (i : Int) + 1 = ((i + 1 : Nat) : Int) by omega, ih (i + 1) (by omega) (by omega) (by omega), hxy, c3_self, or_zero]
    ·rw [show ((x.toNat : Int) != (y.toNat : Int)) = true by rw [bne_iff_ne]; exact hxy, aJ]
     unfold or'
     rw [if_pos (by unfold c3; split <;> (try split) <;> omega)]
   ·have e2 : t.data.toList.drop i = [] := List.drop_of_length_le (by omega)
    rw [show decide ((i : Int) < (t.size : Int)) = false by simpa using hj, au, e1, e2]
    have : cB (s.data.toList[i]'(by omega) :: s.data.toList.drop (i + 1)) [] = 1 := by simp [cB, Op.bytesLess]
    rw [this]
    unfold c3; rw [if_neg (by omega), if_pos (by omega)]
  ·have e1 : s.data.toList.drop i = [] := List.drop_of_length_le (by omega)
   rw [show decide ((i : Int) < (s.size : Int)) = false by simpa using hi, au, au, e1]
   by_cases hj : i < t.size
   ·have e2 : t.data.toList.drop i = t.data.toList[i]'(by omega) :: t.data.toList.drop (i + 1) := List.drop_eq_getElem_cons (by omega)
    rw [e2]
    have : cB [] (t.data.toList[i]'(by omega) :: t.data.toList.drop (i + 1)) = -1 := by simp [cB, Op.bytesLess]
    rw [this]
    unfold c3; rw [if_pos (by omega)]
   ·have e2 : t.data.toList.drop i = [] := List.drop_of_length_le (by omega)
    rw [e2]
    have : cB [] [] = 0 := by simp [cB, Op.bytesLess]
    rw [this]
    unfold c3; rw [if_neg (by omega), if_neg (by omega)]
theorem NJ {s t : ByteArray} (hs : s.size < 1000000000000000) : ud s t = some (cS s t) := by
 unfold ud
 have := IB (t := t) hs aX 0 (Nat.zero_le _) (Nat.zero_le _) (by rw [be]; omega)
 rw [show ((0 : Nat) : Int) = 0 from rfl] at this
 rw [this, List.drop_zero, List.drop_zero, Mu]
 have e1 : s.toList = s.data.toList := by simp [ByteArray.toList_eq]
 have e2 : t.toList = t.data.toList := by simp [ByteArray.toList_eq]
 rw [e1, e2]
theorem Gj (f : ae → ae → Option Int) (a b : ae) (hl : a.items.length < 1000000000000000) (hf : ∀ x ∈ a.items, ∀ y ∈ b.items, f x y = some (cmpV x y)) : ∀ (k i : Nat), i ≤ a.items.length → i ≤ b.items.length → a.items.length < i + k →
  gz f a b k (i : Int) = some (cmpL (a.items.drop i) (b.items.drop i)) := by
 intro k
 induction k with
 | zero => intro i h1 h2 h3; omega
 | succ k ih =>
  intro i h1 h2 h3
  rw [gz]
  unfold pO tm
  rw [wK]
  simp only [bf]
  by_cases hi : i < a.items.length
  ·have e1 : a.items.drop i = a.items[i] :: a.items.drop (i + 1) := List.drop_eq_getElem_cons hi
   have a1 : at? a.items (i : Int) = some a.items[i] := by unfold at?; simp [hi]
   rw [show decide ((i : Int) < (a.items.length : Int)) = true by simp [hi], aJ, a1, e1]
   simp only [bf]
   by_cases hj : i < b.items.length
   ·have e2 : b.items.drop i = b.items[i] :: b.items.drop (i + 1) := List.drop_eq_getElem_cons hj
    have a2 : at? b.items (i : Int) = some b.items[i] := by unfold at?; simp [hj]
    rw [show decide ((i : Int) < (b.items.length : Int)) = true by simp [hj], aJ, a2, e2]
    simp only [bf]
    rw [hf _ (List.getElem_mem hi) _ (List.getElem_mem hj)]
    simp only [bf, cmpL]
    unfold or'
    by_cases hc : cmpV a.items[i] b.items[i] = 0
    ·have e : (cmpV a.items[i] b.items[i] != 0) = false := by simp [hc]
     rw [e, au, yB (by omega) (by omega), show (i : Int) + 1 = ((i + 1 : Nat) : Int) by omega, ih (i + 1) (by omega) (by omega) (by omega), if_neg (by simp [hc])]
    ·have e : (cmpV a.items[i] b.items[i] != 0) = true := by simp [hc]
     rw [e, aJ, if_pos hc]
   ·have e2 : b.items.drop i = [] := List.drop_of_length_le (by omega)
    rw [show decide ((i : Int) < (b.items.length : Int)) = false by simp; omega, au, e2]
    simp only [cmpL]
    unfold c3; rw [if_neg (by omega), if_pos (by omega)]
  ·have e1 : a.items.drop i = [] := List.drop_of_length_le (by omega)
   rw [show decide ((i : Int) < (a.items.length : Int)) = false by simp; omega, au, au, e1]
   by_cases hj : i < b.items.length
   ·have e2 : b.items.drop i = b.items[i] :: b.items.drop (i + 1) := List.drop_eq_getElem_cons hj
    rw [e2]
    simp only [cmpL]
    unfold c3; rw [if_pos (by omega)]
   ·have e2 : b.items.drop i = [] := List.drop_of_length_le (by omega)
    rw [e2]
    simp only [cmpL]
    unfold c3; rw [if_neg (by omega), if_neg (by omega)]
theorem Bq {a b : Int} (h : a ≠ b) : c3 a b ≠ 0 := by unfold c3; split <;> (try split) <;> omega
theorem yC {x : Int} (h : x ≠ 0) (y : Int) : or' x y = x := by unfold or'; rw [if_pos h]
theorem rcompareV_eq : ∀ (N : Nat) (a b : ae) (k : Nat), eP a ≤ N → eP a < 1000000000000000 → wfV a → wfV b → N + 1 ≤ k → di k a b = some (cmpV a b) := by
 intro N
 induction N with
 | zero => intro a b k h; have := ww a; omega
 | succ N ih =>
  intro a b k hN hbig ha hb hk
  obtain ⟨k', rfl⟩ : ∃ k', k = k' + 1 := ⟨k - 1, by omega⟩
  obtain ⟨ka, na, sa, ta, ia⟩ := a
  obtain ⟨kb, nb, sb, tb, ib⟩ := b
  simp only [wfV] at ha hb
  obtain ⟨wk, wn, ws, wi⟩ := ha
  obtain ⟨vk, vn, vs, vi⟩ := hb
  simp only [eP] at hN hbig
  have hlen := oQ ia
  have hitems : gz (di k') ⟨ka, na, sa, ta, ia⟩ ⟨kb, nb, sb, tb, ib⟩ aX 0 = some (cmpL ia ib) := by
   have := Gj (di k') ⟨ka, na, sa, ta, ia⟩ ⟨kb, nb, sb, tb, ib⟩ (by simp only; omega) (fun x hx y hy => by
    have h1 : eP x ≤ nW ia := nD hx
    exact ih x y k' (by omega) (by omega) (AO wi hx) (AO vi hy) (by omega)) aX 0 (Nat.zero_le _) (Nat.zero_le _) (by rw [be]; simp only; omega)
   simpa using this
  have htx : ud ta tb = some (cS ta tb) := NJ (by omega)
  have j2f : kY (di k') ⟨ka, na, sa, ta, ia⟩ ⟨kb, nb, sb, tb, ib⟩ false = some (or' (c3 sa sb) (or' (cS ta tb) (cmpL ia ib))) := by
   unfold kY
   rw [au, htx, hitems]
   simp only [wK, bf]
   by_cases hs : sa = sb
   ·subst hs
    rw [show (sa != sa) = false by simp, au, c3_self, or_zero]
    by_cases hc : cS ta tb = 0
    ·rw [show (cS ta tb != 0) = false by simp [hc], au, hc, or_zero]
    ·rw [show (cS ta tb != 0) = true by simp [hc], aJ, yC hc]
   ·rw [show (sa != sb) = true by simp [hs], aJ, yC (Bq hs)]
  rw [di]
  simp only [wK, bf, cmpV]
  by_cases h0 : ka = 0
  ·subst h0
   by_cases h1 : kb = 0
   ·subst h1; rfl
   ·have e : ((kb == 0) : Bool) = false := beq_eq_false_iff_ne.2 h1
    have n2 : AK kb = 0 := by unfold AK; rw [if_neg h1]
    rw [e, n2]; rfl
  ·have e0 : ((ka == 0) : Bool) = false := beq_eq_false_iff_ne.2 h0
   have n1 : AK ka = 0 := by unfold AK; rw [if_neg h0]
   rw [e0, n1]
   by_cases h1 : kb = 0
   ·subst h1; rfl
   ·have e1 : ((kb == 0) : Bool) = false := beq_eq_false_iff_ne.2 h1
    have n2 : AK kb = 0 := by unfold AK; rw [if_neg h1]
    rw [e1, n2, c3_self, or_zero]
    rw [show (!((false : Bool) == false)) = false from rfl, au, au]
    by_cases hkk : ka = kb
    ·subst hkk
     rw [show (ka != ka) = false by simp, au, c3_self, or_zero, if_neg h0]
     by_cases h3 : ka = 3
     ·subst h3
      rw [show ((3 : Int) == 3) = true from rfl, aJ]
      have j1 : ld (di k') ⟨3, na, sa, ta, ia⟩ ⟨3, nb, sb, tb, ib⟩ = some (or' (c3 sa sb) (or' (cS ta tb) (cmpL ia ib))) := by
       unfold ld
       rw [show (((3 : Int) != 3) : Bool) = false from rfl, j2f]
       rcases Bool.eq_false_or_eq_true (na != nb) with h | h <;> rw [h] <;> rfl
      rw [j1]
      unfold wm
      simp only [MU, bf, wK]
      by_cases hA : 0 ≤ sa ∧ sa ≤ 12
      ·have hiA : inR sa := hA
       have eA : decide (0 ≤ sa ∧ sa ≤ 12) = true := by simpa using hA
       have o1 : zU 3 sa = 0 := by unfold zU; rw [if_neg (by simp [hiA])]
       by_cases hB : 0 ≤ sb ∧ sb ≤ 12
       ·have hiB : inR sb := hB
        have eB : decide (0 ≤ sb ∧ sb ≤ 12) = true := by simpa using hB
        have o2 : zU 3 sb = 0 := by unfold zU; rw [if_neg (by simp [hiB])]
        obtain ⟨r1, g1, g2⟩ := EK (v := ⟨3, na, sa, ta, ia⟩) wn hiA
        obtain ⟨r2, f1, f2⟩ := EK (v := ⟨3, nb, sb, tb, ib⟩) vn hiB
        rw [eA, eB, g1, f1]
        simp only [bf]
        rw [Hm g2 f2]
        simp only [bf]
        rw [show (!((true : Bool) == true)) = false from rfl, au, aJ]
        have u1 : vvI 3 sa na = na * gc (12 - sa).toNat := by unfold vvI; rw [if_pos ⟨rfl, hiA⟩]
        have u2 : vvI 3 sb nb = nb * gc (12 - sb).toNat := by unfold vvI; rw [if_pos ⟨rfl, hiB⟩]
        rw [o1, o2, c3_self, or_zero, u1, u2]
        by_cases hc : c3 (na * gc (12 - sa).toNat) (nb * gc (12 - sb).toNat) = 0
        ·rw [hc]
         rw [show ((0 : Int) != 0) = false from rfl, au, bf, or_zero]
         by_cases hs : sa = sb
         ·subst hs; rw [c3_self, show ((0 : Int) != 0) = false from rfl, au]
         ·rw [show (c3 sa sb != 0) = true by simp [Bq hs], aJ, yC (Bq hs)]
        ·have hcb : (c3 (na * gc (12 - sa).toNat) (nb * gc (12 - sb).toNat) != 0) = true := by simp [hc]
         rw [hcb, aJ, bf, hcb, aJ, yC hc]
       ·have hiB : ¬ inR sb := hB
        have eB : decide (0 ≤ sb ∧ sb ≤ 12) = false := by simpa using hB
        have o2 : zU 3 sb = 1 := by unfold zU; rw [if_pos ⟨rfl, hiB⟩]
        rw [eA, eB, o1, o2]; rfl
      ·have hiA : ¬ inR sa := hA
       have eA : decide (0 ≤ sa ∧ sa ≤ 12) = false := by simpa using hA
       have o1 : zU 3 sa = 1 := by unfold zU; rw [if_pos ⟨rfl, hiA⟩]
       have u1 : vvI 3 sa na = na := by unfold vvI; rw [if_neg (by simp [hiA])]
       by_cases hB : 0 ≤ sb ∧ sb ≤ 12
       ·have hiB : inR sb := hB
        have eB : decide (0 ≤ sb ∧ sb ≤ 12) = true := by simpa using hB
        have o2 : zU 3 sb = 0 := by unfold zU; rw [if_neg (by simp [hiB])]
        rw [eA, eB, o1, o2]; rfl
       ·have hiB : ¬ inR sb := hB
        have eB : decide (0 ≤ sb ∧ sb ≤ 12) = false := by simpa using hB
        have o2 : zU 3 sb = 1 := by unfold zU; rw [if_pos ⟨rfl, hiB⟩]
        have u2 : vvI 3 sb nb = nb := by unfold vvI; rw [if_neg (by simp [hiB])]
        rw [eA, eB, o1, o2, c3_self, or_zero, u1, u2]
        rw [show (!((false : Bool) == false)) = false from rfl, au, au]
        by_cases hn : na = nb
        ·subst hn
         rw [show (na != na) = false by simp, au, bf, c3_self, or_zero]
         by_cases hs : sa = sb
         ·subst hs; rw [c3_self, show ((0 : Int) != 0) = false from rfl, au]
         ·rw [show (c3 sa sb != 0) = true by simp [Bq hs], aJ, yC (Bq hs)]
        ·rw [show (na != nb) = true by simp [hn], aJ, bf, show (c3 na nb != 0) = true by simp [Bq hn], aJ, yC (Bq hn)]
     ·rw [beq_eq_false_iff_ne.2 h3, au]
      have o1 : ∀ q, zU ka q = 0 := fun q => by unfold zU; rw [if_neg (by simp [h3])]
      have u1 : ∀ q r, vvI ka q r = r := fun q r => by unfold vvI; rw [if_neg (by simp [h3])]
      rw [o1, o1, c3_self, or_zero, u1, u1]
      unfold ld
      simp only
      rw [show (ka != 3) = true by simp [h3]]
      by_cases hn : na = nb
      ·subst hn
       rw [show (na != na) = false by simp, au, j2f, c3_self, or_zero]
      ·rw [show (na != nb) = true by simp [hn], aJ, yC (Bq hn)]
       unfold kY
       simp only [aJ, wK, bf]
    ·rw [show (ka != kb) = true by simp [hkk], aJ, yC (Bq hkk)]
end Go.Proofs.YtfnmbpecdjncfaaGreatDoor.Ord
namespace Go.Proofs.YtfnmbpecdjncfaaGreatDoor
open Go Go.SX Go.SX.Cal
theorem RX {t : ap} {v : ae} (hv : eP v < 1000000000) (hT : kr t < 1000000000) (h : ck t v = 0) : V t ∧ NB 4 v ∧ D6 4 t v = true := by
 obtain ⟨e, h1, h2, h3⟩ := oV t hT
 have hc := ME hv hT
 rw [h] at hc
 unfold jj at hc
 rw [h1, Iu v hv] at hc
 simp only [cL] at hc
 by_cases he : e = 0
 ·subst he
  have ht := h3 rfl
  cases hs : Ax v with
  | false => rw [hs] at hc; cases hc
  | true =>
   have hS : NB 4 v := ⟨0, hs⟩
   obtain ⟨a, b⟩ := of_eq 4 aX aX t v hS ht hv hT (by rw [be]; omega) (by rw [be]; omega)
   rw [hs, a] at hc
   cases ho : D6 4 t v with
   | false => rw [ho] at hc; cases hc
   | true => exact ⟨ht, hS, rfl⟩
 ·rw [show (e != (0 : Int)) = true by simp [he]] at hc
  cases hc; exact absurd rfl he
structure Lv (v : ae) : Prop where
 k : 0 ≤ v.kind ∧ v.kind ≤ 5
 n : -999999999999999999 ≤ v.n ∧ v.n ≤ 999999999999999999
 it : v.items = []
 s : v.s.size ≤ 256
 sc : 0 ≤ v.scale ∧ v.scale ≤ 12
 nul : v.kind = 0 → v.n = 0 ∧ v.scale = 0 ∧ v.s.size = 0
theorem MO {v : ae} (h : lX v = true) (h6 : v.kind ≠ 6) (h7 : v.kind ≠ 7) : Lv v := by
 have hi := sT h h6 h7
 unfold lX xc at h
 simp only at h
 split at h
 ·simp only [Bool.and_eq_true, decide_eq_true_eq, beq_iff_eq] at h; exact ⟨by omega, by omega, hi, by omega, by omega, fun _ => by omega⟩
 ·split at h
  ·simp only [Bool.and_eq_true, decide_eq_true_eq, beq_iff_eq] at h; exact ⟨by omega, by omega, hi, by omega, by omega, fun _ => by omega⟩
  ·split at h
   ·simp only [Bool.and_eq_true, decide_eq_true_eq, beq_iff_eq] at h; exact ⟨by omega, by omega, hi, by omega, by omega, fun _ => by omega⟩
   ·split at h
    ·simp only [Bool.and_eq_true, decide_eq_true_eq, beq_iff_eq] at h; exact ⟨by omega, by omega, hi, by omega, by omega, fun _ => by omega⟩
    ·split at h
     ·simp only [Bool.and_eq_true, decide_eq_true_eq, beq_iff_eq] at h; exact ⟨by omega, by omega, hi, by omega, by omega, fun _ => by omega⟩
     ·split at h
      ·simp only [Bool.and_eq_true, decide_eq_true_eq, beq_iff_eq] at h; exact ⟨by omega, by omega, hi, by omega, by omega, fun _ => by omega⟩
      ·cases h
theorem Cq {t : ap} {v : ae} (hv : eP v < 1000000000) (hT : kr t < 1000000000) (h6 : t.kind ≠ 6) (h7 : t.kind ≠ 7) (h : ck t v = 0) : Lv v := by
 obtain ⟨ht, hS, ho⟩ := RX hv hT h
 obtain ⟨hp, _⟩ := hS.succ
 have hk : v.kind = 0 ∨ v.kind = t.kind := by
  simp only [D6] at ho
  by_cases h0 : v.kind = 0
  ·exact .inl h0
  ·rw [if_neg h0] at ho
   by_cases h1 : v.kind = t.kind
   ·exact .inr h1
   ·rw [if_pos h1] at ho; cases ho
 exact MO hp (by rcases hk with h | h <;> omega) (by rcases hk with h | h <;> omega)
theorem Lv.wf {v : ae} (h : Lv v) : Ord.wfV v := by
 obtain ⟨k, n, sc, s, it⟩ := v
 obtain ⟨h1, h2, h3, h4, h5, h6⟩ := h
 simp only at h1 h2 h3 h5
 subst h3
 simp only [Ord.wfV, Ord.wfL, Ord.i64]
 exact ⟨⟨by omega, by omega⟩, ⟨by omega, by omega⟩, ⟨by omega, by omega⟩, trivial⟩
theorem Lv.size {v : ae} (h : Lv v) : eP v ≤ 257 := by
 rw [yI, h.it]
 have := h.s
 simp only [nW]; omega
theorem M2 {a b : ae} (ha : Lv a) (hb : Lv b) : eR aX a b = some (Ord.cmpV a b) := by
 have h := ha.size
 exact Ord.compare_eq 257 a b aX h (by omega) ha.wf hb.wf (by rw [be]; omega)
theorem Qq {a b : ae} (ha : Lv a) (hb : Lv b) : di aX a b = some (Ord.cmpV a b) := by
 have h := ha.size
 exact Ord.rcompareV_eq 257 a b aX h (by omega) ha.wf hb.wf (by rw [be]; omega)
theorem OF {a b : Int} : Ord.c3 a b = 0 ↔ a = b := by
 unfold Ord.c3; split <;> (try split) <;> constructor <;> omega
theorem CS {x y : Int} : Ord.or' x y = 0 ↔ x = 0 ∧ y = 0 := by
 unfold Ord.or'; by_cases h : x = 0 <;> simp [h]
theorem Sx {s t : ByteArray} : Ord.cS s t = 0 ↔ s.toList = t.toList := by
 unfold Ord.cS
 split
 ·rename_i h
  constructor
  ·intro k; omega
  ·intro k; rw [k] at h
   have := Ord.cmpV_refl ⟨1, 0, 0, t, []⟩
   simp only [Ord.cmpV] at this
   rw [CS, CS] at this
   have := this.2.2
   rw [if_neg (by decide), CS, CS, CS, CS] at this
   have := this.2.2.2.1
   unfold Ord.cS at this
   rw [if_pos h] at this
   omega
 ·split <;> simp_all
theorem Py {s t : ByteArray} (h : s.toList = t.toList) : s = t := by
 rw [ByteArray.toList_eq, ByteArray.toList_eq] at h
 exact ByteArray.ext (by rw [← Array.toArray_toList (xs := s.data), ← Array.toArray_toList (xs := t.data), h])
theorem RO {s t : ByteArray} (h1 : s.size = 0) (h2 : t.size = 0) : s = t :=
 ByteArray.ext (by rw [Array.eq_empty_of_size_eq_zero h1, Array.eq_empty_of_size_eq_zero h2])
theorem ST {a b : ae} (ha : Lv a) (hb : Lv b) : Ord.cmpV a b = 0 ↔ a = b := by
 constructor
 ·intro h
  obtain ⟨k, n, sc, s, it⟩ := a
  obtain ⟨k', n', sc', s', it'⟩ := b
  have hi := ha.it; have hi' := hb.it
  simp only at hi hi'
  subst hi; subst hi'
  simp only [Ord.cmpV, CS, OF] at h
  obtain ⟨_, hk, h⟩ := h
  subst hk
  by_cases h0 : k = 0
  ·obtain ⟨a1, a2, a3⟩ := ha.nul h0
   obtain ⟨b1, b2, b3⟩ := hb.nul h0
   simp only at a1 a2 a3 b1 b2 b3
   rw [a1, a2, b1, b2, RO a3 b3]
  ·rw [if_neg h0, CS, CS, CS, CS, OF, OF, OF, Sx] at h
   obtain ⟨_, hv, hs, ht, _⟩ := h
   subst hs
   have hn : n = n' := by
    unfold Ord.vvI at hv
    by_cases h3 : k = 3 ∧ Ord.inR sc
    ·rw [if_pos h3, if_pos h3] at hv
     have := Ord.p10n (12 - sc).toNat
     exact Int.eq_of_mul_eq_mul_right (by omega) hv
    ·rw [if_neg h3, if_neg h3] at hv; exact hv
   rw [hn, Py ht]
 ·rintro rfl; exact Ord.cmpV_refl a
def N0 (a b : ae) : Bool := Ord.cmpV a b == 0
theorem BI {a b : ae} (ha : Lv a) (hb : Lv b) : N0 a b = true ↔ a = b := by
 unfold N0; rw [beq_iff_eq]; exact ST ha hb
theorem D4 {a b : ae} (ha : Lv a) (hb : Lv b) : d9 aX a b = some (N0 a b) := by
 have key : (if a.kind = b.kind ∧ a.n = b.n ∧ a.scale = b.scale ∧ a.s.toList = b.s.toList then true else false) = N0 a b := by
  refine gn ?_
  rw [BI ha hb]
  by_cases h : a.kind = b.kind ∧ a.n = b.n ∧ a.scale = b.scale ∧ a.s.toList = b.s.toList
  ·rw [if_pos h]
   refine ⟨fun _ => ?_, fun _ => rfl⟩
   obtain ⟨k, n, sc, s, it⟩ := a
   obtain ⟨k', n', sc', s', it'⟩ := b
   have hi := ha.it; have hi' := hb.it
   simp only at hi hi' h
   obtain ⟨rfl, rfl, rfl, h⟩ := h
   rw [hi, hi', Py h]
  ·rw [if_neg h]
   refine ⟨(fun h => by cases h), ?_⟩
   rintro rfl
   exact absurd ⟨rfl, rfl, rfl, rfl⟩ h
 have hi := ha.it; have hi' := hb.it
 rw [B1, d9.eq_2, ← key]
 have ht : ∀ q, iD q a b true = some false := fun q => rfl
 have hf : iD (d9 1152921504606846975) a b ((a.items.length : Int) != (b.items.length : Int)) = some true := by
  rw [hi, hi']
  show kW _ a b aX 0 = _
  rw [B1, kW, hi]
  rfl
 rw [hf]
 simp only [ht, aO]
 by_cases h1 : a.kind = b.kind <;> by_cases h2 : a.n = b.n <;> by_cases h3 : a.scale = b.scale <;> by_cases h4 : a.s.toList = b.s.toList <;> simp [h1, h2, h3, h4]
end Go.Proofs.YtfnmbpecdjncfaaGreatDoor
namespace Go.Proofs.YtfnmbpecdjncfaaGreatDoor
open Go Go.SX Go.SX.Cal
theorem eD {e : Int} {f g : Option Int} (h : e = 0 → f = g) : ee e f = ee e g := by
 unfold ee; by_cases he : e = 0
 ·simp [he, h he]
 ·simp [he]
theorem LE {p : Nat → Bool} {e : Int} (he : e ≠ 0) : ∀ (m i : Nat), fe (fun j => er (p j) e) m i = er (decide (∃ j, j < m ∧ p (i + j) = true)) e
 | 0, i => by simp [fe, er]
 | m + 1, i => by
  rw [fe, LE he m (i + 1)]
  cases hp : p i with
  | true =>
   rw [Jz, HP he, decide_eq_true ⟨0, by omega, by simpa using hp⟩, Jz]
  | false =>
   rw [HD, GZ]
   congr 1
   refine decide_eq_decide.2 ⟨fun ⟨j, a, b⟩ => ⟨j + 1, by omega, by rw [← b]; congr 1; omega⟩, fun ⟨j, a, b⟩ => ?_⟩
   cases j with
   | zero => rw [Nat.add_zero, hp] at b; cases b
   | succ j => exact ⟨j, by omega, by rw [← b]; congr 1; omega⟩
theorem Cj {p : Nat → Bool} {e : Int} (he : e ≠ 0) (n : Nat) : fe (fun j => er (p j) e) n 0 = er (nY p n) e := by
 rw [LE he]
 congr 1
 refine gn ?_
 rw [decide_eq_true_iff, eE]
 simp
def Tg (fs : List ac) (id : Int) : Int := (kh fs id).getD 0
def GB (fs : List ac) (id : Int) : ac := ((n6 fs id).getD (⟨0, ByteArray.empty, false, ⟨0, 0, []⟩⟩, false)).1
def F4 (fs : List ac) (id : Int) : Bool := ((n6 fs id).getD (⟨0, ByteArray.empty, false, ⟨0, 0, []⟩⟩, false)).2
theorem xu {fs : List ac} (hn : fs.length < 1000000000) (id : Int) :
  kh fs id = some (Tg fs id) ∧ n6 fs id = some (GB fs id, F4 fs id) ∧ decide (Tg fs id < 0) = !F4 fs id ∧ (F4 fs id = true → at? fs (Tg fs id) = some (GB fs id) ∧ GB fs id ∈ fs) := by
 unfold Tg GB F4
 rcases NZ.or fs id with ⟨i, hi⟩ | hi
 ·rw [yj hn hi, A3 hn hi]
  refine ⟨rfl, rfl, ?_, fun _ => ⟨aN hi.lt, List.getElem_mem hi.lt⟩⟩
  show decide ((i : Int) < 0) = false
  simp
 ·obtain ⟨g, hg⟩ := AN hn hi
  rw [yL hn hi, hg]
  exact ⟨rfl, rfl, rfl, fun h => by cases h⟩
def tE (p : cj) (t : ap) : ap × Int := (fW p t).getD (wj, 0)
theorem HX (p : cj) {t : ap} (h : kr t < 1000000000) : fW p t = some (tE p t) ∧ gH p t = some (tE p t) ∧ kr (tE p t).1 < 1000000000 ∧ ((tE p t).2 = 0 → (tE p t).1.kind ≠ 6 ∧ (tE p t).1.kind ≠ 7) := by
 obtain ⟨e, h1, h2, h3⟩ := tt p t h
 unfold tE
 rw [h2, h3]
 refine ⟨rfl, rfl, ?_, ?_⟩
 ·show kr (Gh p t e).1 < _
  unfold Gh N3 wj
  repeat' split
  all_goals first | (rw [ph]; simp only [eV]; omega) | exact h
 ·show (Gh p t e).2 = 0 → _
  intro h0
  have k := PN h1 h0
  have a := k.k6; have b := k.k7
  show (Gh p t e).1.kind ≠ 6 ∧ (Gh p t e).1.kind ≠ 7
  have hc : (Gh p t e).1 = ⟨2, 0, []⟩ ∨ (Gh p t e).1 = t ∨ (Gh p t e).2 ≠ 0 := by
   unfold Gh N3 wj
   repeat' split
   all_goals simp_all
  rcases hc with hc | hc | hc
  ·rw [hc]; exact ⟨by decide, by decide⟩
  ·rw [hc]; exact ⟨a, b⟩
  ·exact absurd h0 hc
theorem ki (a b c : Int) : dt a b c = some (decide (b ≤ a ∧ a ≤ c)) := by
 unfold dt pL
 by_cases h1 : b ≤ a <;> by_cases h2 : a ≤ c <;> simp [h1, h2, aO]
structure Lk (f : ah) : Prop where
 name : f.name.size < 1000000000
 part : f.part.length < 1000000000 ∧ ∀ v ∈ f.part, eP v < 1000000000
 stats : f.stats.length < 1000000000 ∧ ∀ s ∈ f.stats, eP s.min < 1000000000 ∧ eP s.max < 1000000000
structure Ml (f : ah) : Prop where
 part : ∀ v ∈ f.part, Lv v
 stats : ∀ s ∈ f.stats, Lv s.min ∧ Lv s.max
def CJ (f : ac) : Bool := decide (f.type.kind ≠ 6 ∧ f.type.kind ≠ 7)
def EY (fs : List ac) : List ac := fs.filter CJ
theorem Sk (p1 : List ac) (f : ah) (hn : p1.length < 1000000000) : s6 p1 f = ma f (EY p1) := by
 have key : ∀ (m k i : Nat) (l : List ac), i + m = p1.length → m < k → l.length ≤ i → ix p1 f k l (i : Int) = ma f (l ++ EY (p1.drop i)) := by
  intro m
  induction m with
  | zero =>
   intro k i l hi hk hl
   obtain ⟨k, rfl⟩ := fu hk
   rw [ix, Bt (by omega), iF, List.drop_of_length_le (by omega)]
   simp [EY]
  | succ m ih =>
   intro k i l hi hk hl
   obtain ⟨k, rfl⟩ := fu hk
   have h1 : i < p1.length := by omega
   rw [ix, bc h1, iT, aN h1, bS, FK, bS]
   unfold qI
   rw [ar h1 hn, re h1]
   have hf : EY (p1[i] :: p1.drop (i + 1)) = if CJ p1[i] then p1[i] :: EY (p1.drop (i + 1)) else EY (p1.drop (i + 1)) := by unfold EY; rw [List.filter_cons]
   rw [hf]
   show al (CJ p1[i]) _ _ = _
   cases hb : CJ p1[i] with
   | true => rw [iT, gP (by omega), ih k (i + 1) _ (by omega) (by omega) (by simp; omega)]; simp
   | false => rw [iF, ih k (i + 1) _ (by omega) (by omega) (by omega)]; simp
 have := key p1.length aX 0 [] (by omega) (by rw [be]; omega) (Nat.zero_le _)
 unfold s6
 rw [show ((0 : Nat) : Int) = 0 from rfl] at this
 rw [this, List.nil_append, List.drop_zero]
theorem Sw (p1 : List ac) (f : ah) (hn : p1.length < 1000000000) : nN f p1 = jz f (EY p1) := by
 have key : ∀ (m k i : Nat) (l : List ac), i + m = p1.length → m < k → l.length ≤ i → fb f p1 k l (i : Int) = jz f (l ++ EY (p1.drop i)) := by
  intro m
  induction m with
  | zero =>
   intro k i l hi hk hl
   obtain ⟨k, rfl⟩ := fu hk
   rw [fb, Bt (by omega), iF, List.drop_of_length_le (by omega)]
   simp [EY]
  | succ m ih =>
   intro k i l hi hk hl
   obtain ⟨k, rfl⟩ := fu hk
   have h1 : i < p1.length := by omega
   rw [fb, bc h1, iT, aN h1, bS, EO, bS]
   unfold nR
   rw [ar h1 hn, re h1]
   have hf : EY (p1[i] :: p1.drop (i + 1)) = if CJ p1[i] then p1[i] :: EY (p1.drop (i + 1)) else EY (p1.drop (i + 1)) := by unfold EY; rw [List.filter_cons]
   rw [hf]
   show al (CJ p1[i]) _ _ = _
   cases hb : CJ p1[i] with
   | true => rw [iT, gP (by omega), ih k (i + 1) _ (by omega) (by omega) (by simp; omega)]; simp
   | false => rw [iF, ih k (i + 1) _ (by omega) (by omega) (by omega)]; simp
 have := key p1.length aX 0 [] (by omega) (by rw [be]; omega) (Nat.zero_le _)
 unfold nN
 rw [show ((0 : Nat) : Int) = 0 from rfl] at this
 rw [this, List.nil_append, List.drop_zero]
theorem O3 {fs : List ac} {g : ac} (h : g ∈ EY fs) : g ∈ fs ∧ g.type.kind ≠ 6 ∧ g.type.kind ≠ 7 := by
 unfold EY at h
 obtain ⟨h1, h2⟩ := List.mem_filter.1 h
 unfold CJ at h2
 exact ⟨h1, by simpa using h2⟩
noncomputable def Rt (t : ap) (s : eN) (rows : Int) : Int :=
 n4 (er (!decide (0 ≤ s.nulls ∧ s.nulls ≤ rows)) 3) (n4 (ck t s.min) (n4 (ck t s.max) (er (!((s.min.kind == 0) == (s.nulls == rows)) || (!((s.max.kind == 0) == (s.nulls == rows)) || decide (0 < Ord.cmpV s.min s.max))) 1)))
noncomputable def Fq (f : ah) (l : List ac) : Int :=
 if hl : f.stats.length = l.length then
  n4 (er (nY (fun j => match f.stats[j]?, l[j]? with | some s, some x => !(s.id == x.id) | _, _ => false) f.stats.length) 1)
   (fe (fun j => match f.stats[j]?, l[j]? with | some s, some x => Rt x.type s f.rows | _, _ => 0) f.stats.length 0)
 else 1
theorem R8 {f : ah} {l : List ac} (hf : Lk f) (hl : ∀ x ∈ l, kr x.type < 1000000000 ∧ x.type.kind ≠ 6 ∧ x.type.kind ≠ 7) : ma f l = some (Fq f l) := by
 unfold ma bT Fq
 by_cases h : f.stats.length = l.length
 ·rw [dif_pos h, show ((f.stats.length : Int) != (l.length : Int)) = false by simp [h], iF]
  rw [wV (L := aE f.stats l) (n := f.stats.length) (p := fun j => match f.stats[j]?, l[j]? with | some s, some x => !(s.id == x.id) | _, _ => false) hf.stats.1
   (fun k => by rw [aE, rC, iF]; rfl)
   (fun k i hi => by
    rw [aE, bc hi, iT, aN hi, aN (show i < l.length by omega), bS, bS, wq, bS, ar hi hf.stats.1, List.getElem?_eq_getElem hi, List.getElem?_eq_getElem (show i < l.length by omega)]), bS]
  unfold Ng
  rw [Bool.not_not, dS (by decide)]
  rw [gS (L := gj f l) (n := f.stats.length) (fin := some 0) (c := fun j => match f.stats[j]?, l[j]? with | some s, some x => Rt x.type s f.rows | _, _ => 0) hf.stats.1
   (fun k => by rw [gj, rC, iF]; rfl)
   (fun k i hi => by
    have hi' : i < l.length := by omega
    obtain ⟨g1, g2⟩ := hf.stats.2 _ (List.getElem_mem hi)
    obtain ⟨g3, g4, g5⟩ := hl _ (List.getElem_mem hi')
    rw [gj, bc hi, iT, aN hi, bS, ki, bS, dS (by decide)]
    show ee _ (aw (some f.stats[i].min) _) = _
    rw [bS, aN hi', bS, ME g1 g3, bS, iI]
    show ee _ (ee _ (aw (some f.stats[i].max) _)) = _
    rw [bS, ME g2 g3, bS, iI, List.getElem?_eq_getElem hi, List.getElem?_eq_getElem hi']
    simp only
    unfold Rt
    rw [← bC, ← bC, ← bC]
    refine eD fun _ => eD fun e1 => eD fun e2 => ?_
    rw [M2 (Cq g1 g3 g4 g5 e1) (Cq g2 g3 g4 g5 e2), bS]
    unfold n9
    rw [ar hi hf.stats.1]
    generalize (!((f.stats[i].min.kind == 0) == (f.stats[i].nulls == f.rows))) = b1
    generalize (!((f.stats[i].max.kind == 0) == (f.stats[i].nulls == f.rows))) = b2
    generalize decide (0 < Ord.cmpV f.stats[i].min f.stats[i].max) = b3
    cases b1 <;> cases b2 <;> cases b3 <;> rfl), dX, vH]
 ·rw [dif_neg h, show ((f.stats.length : Int) != (l.length : Int)) = true by simp; omega, iT, bS]
  rfl
theorem R9 {f : ah} {l : List ac} (hf : Lk f) (hl : ∀ x ∈ l, kr x.type < 1000000000 ∧ x.type.kind ≠ 6 ∧ x.type.kind ≠ 7) : jz f l = some (Fq f l) := by
 unfold jz Fq
 by_cases h : f.stats.length = l.length
 ·rw [dif_pos h, show ((l.length : Int) != (f.stats.length : Int)) = false by simp [h], iF]
  have hn : l.length < 1000000000 := by have := hf.stats.1; omega
  rw [gS (L := ir f l) (n := l.length) (fin := nL f l) (c := fun j => er (match f.stats[j]?, l[j]? with | some s, some x => !(s.id == x.id) | _, _ => false) 1) hn
   (fun k => by rw [ir, rC, iF])
   (fun k i hi => by
    have hi' : i < f.stats.length := by omega
    rw [ir, bc hi, iT, aN hi, aN hi', bS, bS, ar hi hn, dS (by decide), List.getElem?_eq_getElem hi, List.getElem?_eq_getElem hi']
    simp only
    rw [show (l[i].id != f.stats[i].id) = !(f.stats[i].id == l[i].id) by rw [bne, Bool.beq_comm]])]
  rw [Cj (by decide), ← h]
  unfold nL
  rw [gS (L := eC f l) (n := f.stats.length) (fin := some 0) (c := fun j => match f.stats[j]?, l[j]? with | some s, some x => Rt x.type s f.rows | _, _ => 0) hf.stats.1
   (fun k => by rw [eC, rC, iF]; rfl)
   (fun k i hi => by
    have hi' : i < l.length := by omega
    obtain ⟨g1, g2⟩ := hf.stats.2 _ (List.getElem_mem hi)
    obtain ⟨g3, g4, g5⟩ := hl _ (List.getElem_mem hi')
    rw [eC, bc hi, iT, aN hi, bS, nJ, bS, dS (by decide), aN hi', bS, Pa g1 g3, bS, iI, Pa g2 g3, bS, iI, List.getElem?_eq_getElem hi, List.getElem?_eq_getElem hi']
    simp only
    unfold Rt
    rw [← bC, ← bC, ← bC]
    refine eD fun _ => eD fun e1 => eD fun e2 => ?_
    rw [Qq (Cq g1 g3 g4 g5 e1) (Cq g2 g3 g4 g5 e2), bS]
    unfold lw
    rw [ar hi hf.stats.1]
    generalize (!((f.stats[i].min.kind == 0) == (f.stats[i].nulls == f.rows))) = b1
    generalize (!((f.stats[i].max.kind == 0) == (f.stats[i].nulls == f.rows))) = b2
    generalize decide (0 < Ord.cmpV f.stats[i].min f.stats[i].max) = b3
    cases b1 <;> cases b2 <;> cases b3 <;> rfl), dX, vH]
 ·rw [dif_neg h, show ((l.length : Int) != (f.stats.length : Int)) = true by simp; omega, iT]
theorem Rb {f : ah} {l : List ac} (hf : Lk f) (hl : ∀ x ∈ l, kr x.type < 1000000000 ∧ x.type.kind ≠ 6 ∧ x.type.kind ≠ 7) (h : Fq f l = 0) : ∀ s ∈ f.stats, Lv s.min ∧ Lv s.max := by
 unfold Fq at h
 by_cases hh : f.stats.length = l.length
 ·rw [dif_pos hh, o5, Nn] at h
  intro s hs
  obtain ⟨i, hi, rfl⟩ := List.mem_iff_getElem.1 hs
  have hi' : i < l.length := by omega
  have := h.2 i (Nat.zero_le _) (by omega)
  rw [List.getElem?_eq_getElem hi, List.getElem?_eq_getElem hi'] at this
  simp only [Rt, o5] at this
  obtain ⟨g1, g2⟩ := hf.stats.2 _ (List.getElem_mem hi)
  obtain ⟨g3, g4, g5⟩ := hl _ (List.getElem_mem hi')
  exact ⟨Cq g1 g3 g4 g5 this.2.1, Cq g2 g3 g4 g5 this.2.2.1⟩
 ·rw [dif_neg hh] at h; cases h
end Go.Proofs.YtfnmbpecdjncfaaGreatDoor
namespace Go.Proofs.YtfnmbpecdjncfaaGreatDoor
open Go Go.SX Go.SX.Cal
structure HH (s : aj) : Prop where
 files : s.files.length < 1000000000 ∧ ∀ f ∈ s.files, Lk f
 dat : s.dat.length < 1000000000 ∧ ∀ d ∈ s.dat, d.rows.length < 1000000000
 dby : s.dby.length < 1000000000 ∧ ∀ d ∈ s.dby, d.ids.length < 1000000000 ∧ d.keys.length < 1000000000 ∧ ∀ k ∈ d.keys, k.length < 1000000000 ∧ ∀ v ∈ k, eP v < 1000000000
structure rl (m : ax) : Prop where
 schemas : m.schemas.length < 1000000000 ∧ ∀ s ∈ m.schemas, eV s < 1000000000 - 1
 specs : m.specs.length < 1000000000 ∧ ∀ s ∈ m.specs, s.fields.length < 1000000000
 snaps : m.snapshots.length < 1000000000 ∧ ∀ s ∈ m.snapshots, HH s
 refs : m.refs.length < 1000000000 ∧ ∀ r ∈ m.refs, r.name.size < 1000000000
 props : m.props.length < 1000000000 ∧ ∀ p ∈ m.props, p.name.size < 1000000000 ∧ p.value.size < 100000000
theorem E0 {Z : Type} {z : Z} {n : Nat} {L : Nat → Int → Option (Int × Z)} {p : Nat → Bool} (h0 : ∀ k, L (k + 1) (n : Int) = some (-1, z)) (h1 : ∀ k i, i < n → L (k + 1) (i : Int) = al (p i) (some ((i : Int), z)) (L k ((i + 1 : Nat) : Int))) :
  ∀ m k i, i + m = n → m < k → ∃ r, L k (i : Int) = some (r, z) ∧ (decide ((0 : Int) ≤ r) = true ↔ ∃ j, i ≤ j ∧ j < n ∧ p j = true)
 | 0, k, i, hi, hk => by
  obtain ⟨k, rfl⟩ := fu hk
  have : i = n := by omega
  subst this
  exact ⟨-1, h0 k, by simp; intro j h1 h2; omega⟩
 | m + 1, k, i, hi, hk => by
  obtain ⟨k, rfl⟩ := fu hk
  rw [h1 k i (by omega)]
  cases hp : p i with
  | true => exact ⟨i, rfl, by simp; exact ⟨i, Nat.le_refl _, by omega, hp⟩⟩
  | false =>
   obtain ⟨r, e1, e2⟩ := E0 h0 h1 m k (i + 1) (by omega) (by omega)
   refine ⟨r, e1, e2.trans ⟨fun ⟨j, a, b, c⟩ => ⟨j, by omega, b, c⟩, fun ⟨j, a, b, c⟩ => ⟨j, ?_, b, c⟩⟩⟩
   by_cases e : j = i
   ·subst e; rw [hp] at c; cases c
   ·omega
theorem AM {Z : Type} {z : Z} {n : Nat} {L : Nat → Int → Option (Int × Z)} {p : Nat → Bool} (hn : n < 1000000000) (h0 : ∀ k, L (k + 1) (n : Int) = some (-1, z)) (h1 : ∀ k i, i < n → L (k + 1) (i : Int) = al (p i) (some ((i : Int), z)) (L k ((i + 1 : Nat) : Int))) :
  ∃ r, L aX (0 : Int) = some (r, z) ∧ decide ((0 : Int) ≤ r) = nY p n := by
 obtain ⟨r, e1, e2⟩ := E0 h0 h1 n aX 0 (by omega) (by rw [be]; omega)
 refine ⟨r, e1, gn (e2.trans (Iff.trans ?_ eE.symm))⟩
 exact ⟨fun ⟨j, _, b, c⟩ => ⟨j, b, c⟩, fun ⟨j, b, c⟩ => ⟨j, Nat.zero_le _, b, c⟩⟩
theorem DJ {α : Type} {l : List α} {x : Int} (h0 : 0 ≤ x) (h1 : x ≤ (l.length : Int) - 1) : ∃ (h : x.toNat < l.length), at? l x = some l[x.toNat] ∧ l[x.toNat]? = some l[x.toNat] := by
 have h : x.toNat < l.length := by omega
 refine ⟨h, ?_, List.getElem?_eq_getElem h⟩
 have := aN h
 rwa [show ((x.toNat : Nat) : Int) = x by omega] at this
def qE (fs : List ac) (sp : dq) (j : Nat) : Bool := match sp.fields[j]? with | some x => !F4 fs x.source | none => false
noncomputable def E3 (fs : List ac) (sp : dq) (f : ah) (j : Nat) : Int := match sp.fields[j]?, f.part[j]? with
 | some x, some v => n4 (er ((tE x.transform (GB fs x.source).type).2 != 0) 2) (ck (tE x.transform (GB fs x.source).type).1 v)
 | _, _ => 0
noncomputable def Cs (fs : List ac) (sp : dq) (f : ah) : Int :=
 n4 (er (nY (qE fs sp) sp.fields.length) 9) (n4 (er ((f.part.length : Int) != (sp.fields.length : Int)) 1) (n4 (fe (E3 fs sp f) sp.fields.length 0) (Fq f (EY fs))))
def JB (m : ax) (f : ah) : Bool :=
 !decide (0 ≤ f.schema ∧ f.schema ≤ (m.schemas.length : Int) - 1) || (!decide (0 ≤ f.spec ∧ f.spec ≤ (m.specs.length : Int) - 1) || (!decide (1 ≤ f.rows ∧ f.rows ≤ 2000) || decide (f.seq < 1)))
noncomputable def zH (m : ax) (f : ah) : Int :=
 n4 (er (!G5 f.name) 4) (n4 (er (JB m f) 3) (match m.schemas[f.schema.toNat]?, m.specs[f.spec.toNat]? with | some fs, some sp => Cs fs sp f | _, _ => 0))
theorem Ji {m : ax} {f : ah} (h : JB m f = false) : ∃ fs sp, at? m.schemas f.schema = some fs ∧ at? m.specs f.spec = some sp ∧ m.schemas[f.schema.toNat]? = some fs ∧ m.specs[f.spec.toNat]? = some sp ∧ fs ∈ m.schemas ∧ sp ∈ m.specs := by
 unfold JB at h
 simp only [Bool.or_eq_false_iff, Bool.not_eq_false', decide_eq_true_eq] at h
 obtain ⟨⟨a1, a2⟩, ⟨b1, b2⟩, _⟩ := h
 obtain ⟨h1, h2, h3⟩ := DJ a1 a2
 obtain ⟨g1, g2, g3⟩ := DJ b1 b2
 exact ⟨_, _, h2, g2, h3, g3, List.getElem_mem h1, List.getElem_mem g1⟩
theorem Mi {fs : List ac} (h : eV fs < 1000000000 - 1) : ∀ x ∈ EY fs, kr x.type < 1000000000 ∧ x.type.kind ≠ 6 ∧ x.type.kind ≠ 7 := by
 intro x hx
 obtain ⟨h1, h2, h3⟩ := O3 hx
 have a := jA h1
 have b := i0 x
 exact ⟨by omega, h2, h3⟩
theorem Ev {fs : List ac} (h : eV fs < 1000000000 - 1) {g : ac} (hg : g ∈ fs) : kr g.type < 1000000000 := by
 have a := jA hg
 have b := i0 g
 omega
theorem Qi {fs : List ac} {sp : dq} (hn : fs.length < 1000000000) (hs : sp.fields.length < 1000000000) : bn sp.fields fs = some (nY (qE fs sp) sp.fields.length, fs) := by
 unfold bn cA
 obtain ⟨r, r1, r2⟩ := AM (z := fs) (L := fun k i => aL sp.fields k fs i) (n := sp.fields.length) (p := qE fs sp) hs
  (fun k => by rw [aL, rC, iF]; rfl)
  (fun k i hi => by
   obtain ⟨t1, _, t3, _⟩ := xu hn sp.fields[i].source
   rw [aL, bc hi, iT, aN hi, bS, xf, t1, bS, bS, t3, ar hi hs]
   unfold qE
   rw [List.getElem?_eq_getElem hi])
 have r1 : aL sp.fields aX fs (0 : Int) = some (r, fs) := r1
 rw [r1, bS]
 show some (decide (0 ≤ r), fs) = _
 rw [r2]
theorem QE {fs : List ac} {sp : dq} {f : ah} (hf : Lk f) (hfs : eV fs < 1000000000 - 1) (hs : sp.fields.length < 1000000000) :
  (aw (bn sp.fields fs) fun r5 => al r5.1 (some (9 : Int)) (al ((f.part.length : Int) != (sp.fields.length : Int)) (some (1 : Int)) (j4 f sp r5 aX (0 : Int)))) = some (Cs fs sp f) := by
 have hn : fs.length < 1000000000 := by have := eg fs; omega
 rw [Qi hn hs, bS]
 unfold Cs
 show al (nY (qE fs sp) sp.fields.length) _ _ = _
 rw [dS (by decide), dS (by decide), ← dX, ← bC, ← bC, ← bC]
 refine eD fun e1 => eD fun e2 => ?_
 have hl : ∀ (i : Nat) (h : i < sp.fields.length), F4 fs sp.fields[i].source = true := fun i h => by
  rw [Cb (by decide), ← Bool.not_eq_true, eE] at e1
  cases hb : F4 fs sp.fields[i].source with
  | true => rfl
  | false => exact absurd ⟨i, h, by unfold qE; rw [List.getElem?_eq_getElem h]; simp [hb]⟩ e1
 have hp : f.part.length = sp.fields.length := by
  rw [Cb (by decide), bne_eq_false_iff_eq] at e2; omega
 rw [gS (L := j4 f sp (nY (qE fs sp) sp.fields.length, fs)) (n := sp.fields.length) (fin := some (Fq f (EY fs))) (c := E3 fs sp f) hs
  (fun k => by
   rw [j4, rC, iF]
   unfold vV
   show aw (s6 fs f) _ = _
   rw [Sk fs f hn, R8 hf (Mi hfs), bS])
  (fun k i hi => by
   obtain ⟨t1, _, t3, t4⟩ := xu hn sp.fields[i].source
   obtain ⟨t5, t6⟩ := t4 (hl i hi)
   obtain ⟨u1, _, u3, u4⟩ := HX sp.fields[i].transform (Ev hfs t6)
   have hi' : i < f.part.length := by omega
   rw [j4, bc hi, iT, aN hi, bS]
   show aw (kh fs _) _ = _
   rw [t1, bS]
   show aw (at? fs _) _ = _
   rw [t5, bS, u1, bS, dS (by decide), aN hi', bS, ME (hf.part.2 _ (List.getElem_mem hi')) u3, bS, iI, ar hi hs, bC]
   unfold E3
   rw [List.getElem?_eq_getElem hi, List.getElem?_eq_getElem hi'])]
 rw [dX]
theorem QC {fs : List ac} {sp : dq} {f : ah} (hf : Lk f) (hfs : eV fs < 1000000000 - 1) (hs : sp.fields.length < 1000000000) :
  gg f fs sp aX (0 : Int) = some (Cs fs sp f) := by
 have hn : fs.length < 1000000000 := by have := eg fs; omega
 unfold Cs
 rw [← dX, ← bC, ← bC, ← bC]
 rw [gS (L := gg f fs sp) (n := sp.fields.length) (fin := nO f fs sp) (c := fun j => er (qE fs sp j) 9) hs
  (fun k => by rw [gg, rC, iF])
  (fun k i hi => by
   obtain ⟨_, t2, _, _⟩ := xu hn sp.fields[i].source
   rw [gg, bc hi, iT, aN hi, bS, t2, bS, dS (by decide), ar hi hs]
   unfold qE
   rw [List.getElem?_eq_getElem hi])]
 rw [Cj (by decide)]
 refine eD fun e1 => ?_
 have hl : ∀ (i : Nat) (h : i < sp.fields.length), F4 fs sp.fields[i].source = true := fun i h => by
  rw [Cb (by decide), ← Bool.not_eq_true, eE] at e1
  cases hb : F4 fs sp.fields[i].source with
  | true => rfl
  | false => exact absurd ⟨i, h, by unfold qE; rw [List.getElem?_eq_getElem h]; simp [hb]⟩ e1
 unfold nO
 rw [dS (by decide)]
 refine eD fun e2 => ?_
 have hp : f.part.length = sp.fields.length := by
  rw [Cb (by decide), bne_eq_false_iff_eq] at e2; omega
 rw [gS (L := io f fs sp) (n := sp.fields.length) (fin := some (Fq f (EY fs))) (c := E3 fs sp f) hs
  (fun k => by rw [io, rC, iF, Sw fs f hn, R9 hf (Mi hfs)])
  (fun k i hi => by
   obtain ⟨_, t2, _, t4⟩ := xu hn sp.fields[i].source
   obtain ⟨t5, t6⟩ := t4 (hl i hi)
   obtain ⟨_, u2, u3, u4⟩ := HX sp.fields[i].transform (Ev hfs t6)
   have hi' : i < f.part.length := by omega
   rw [io, bc hi, iT, aN hi, bS, t2, bS, u2, bS, dS (by decide), aN hi', bS, Pa (hf.part.2 _ (List.getElem_mem hi')) u3, bS, iI, ar hi hs, bC]
   unfold E3
   rw [List.getElem?_eq_getElem hi, List.getElem?_eq_getElem hi'])]
 rw [dX]
theorem QW {m : ax} {f : ah} (hm : rl m) (hf : Lk f) : w3 m f = some (zH m f) := by
 unfold w3 zH
 rw [TR _ hf.name, bS, dS (by decide), ← dX, ← bC, ← bC]
 refine eD fun _ => ?_
 have hj : ∀ x, x = JB m f → lN m f x = ee (er (JB m f) 3) (ee (match m.schemas[f.schema.toNat]?, m.specs[f.spec.toNat]? with | some fs, some sp => Cs fs sp f | _, _ => 0) (some 0)) := by
  rintro x rfl
  unfold lN
  rw [dS (by decide)]
  refine eD fun e => ?_
  obtain ⟨fs, sp, h1, h2, h3, h4, h5, h6⟩ := Ji ((Cb (by decide)).1 e)
  rw [h1, h2, h3, h4, bS, bS, QE hf (hm.schemas.2 _ h5) (hm.specs.2 _ h6), dX]
 rw [ki, bS, kX hm.schemas.1]
 have hr : JB m f = JB m f := rfl
 conv at hr => rhs; unfold JB
 cases a : decide (0 ≤ f.schema ∧ f.schema ≤ (m.schemas.length : Int) - 1) with
 | false => rw [a] at hr; rw [Bool.not_false, iT]; exact hj true (by rw [hr]; rfl)
 | true =>
  rw [a] at hr
  rw [Bool.not_true, iF, ki, bS, kX hm.specs.1]
  cases b : decide (0 ≤ f.spec ∧ f.spec ≤ (m.specs.length : Int) - 1) with
  | false => rw [b] at hr; rw [Bool.not_false, iT]; exact hj true (by rw [hr]; rfl)
  | true =>
   rw [b] at hr
   rw [Bool.not_true, iF, ki, bS]
   cases c : decide (1 ≤ f.rows ∧ f.rows ≤ 2000) with
   | false => rw [c] at hr; rw [Bool.not_false, iT]; exact hj true (by rw [hr]; rfl)
   | true => rw [c] at hr; rw [Bool.not_true, iF]; exact hj _ (by rw [hr]; rfl)
theorem Rl {m : ax} {f : ah} (hm : rl m) (hf : Lk f) : qL m f = some (zH m f) := by
 unfold qL zH
 rw [TF _ hf.name, bS, dS (by decide), ← dX, ← bC, ← bC]
 refine eD fun _ => ?_
 have hj : ∀ x, x = JB m f → iy m f x = ee (er (JB m f) 3) (ee (match m.schemas[f.schema.toNat]?, m.specs[f.spec.toNat]? with | some fs, some sp => Cs fs sp f | _, _ => 0) (some 0)) := by
  rintro x rfl
  unfold iy
  rw [dS (by decide)]
  refine eD fun e => ?_
  obtain ⟨fs, sp, h1, h2, h3, h4, h5, h6⟩ := Ji ((Cb (by decide)).1 e)
  rw [h1, h2, h3, h4, bS, bS, QC hf (hm.schemas.2 _ h5) (hm.specs.2 _ h6), dX]
 rw [nJ, bS, kX hm.schemas.1]
 have hr : JB m f = JB m f := rfl
 conv at hr => rhs; unfold JB
 cases a : decide (0 ≤ f.schema ∧ f.schema ≤ (m.schemas.length : Int) - 1) with
 | false => rw [a] at hr; rw [Bool.not_false, iT]; exact hj true (by rw [hr]; rfl)
 | true =>
  rw [a] at hr
  rw [Bool.not_true, iF, nJ, bS, kX hm.specs.1]
  cases b : decide (0 ≤ f.spec ∧ f.spec ≤ (m.specs.length : Int) - 1) with
  | false => rw [b] at hr; rw [Bool.not_false, iT]; exact hj true (by rw [hr]; rfl)
  | true =>
   rw [b] at hr
   rw [Bool.not_true, iF, nJ, bS]
   cases c : decide (1 ≤ f.rows ∧ f.rows ≤ 2000) with
   | false => rw [c] at hr; rw [Bool.not_false, iT]; exact hj true (by rw [hr]; rfl)
   | true => rw [c] at hr; rw [Bool.not_true, iF]; exact hj _ (by rw [hr]; rfl)
theorem N9 {m : ax} {f : ah} (hm : rl m) (hf : Lk f) (h : zH m f = 0) : Ml f := by
 unfold zH at h
 rw [o5, o5] at h
 obtain ⟨_, h2, h3⟩ := h
 obtain ⟨fs, sp, _, _, g3, g4, g5, g6⟩ := Ji ((Cb (by decide)).1 h2)
 rw [g3, g4] at h3
 simp only at h3
 unfold Cs at h3
 rw [o5, o5, o5] at h3
 obtain ⟨e1, e2, e3, e4⟩ := h3
 have hfs := hm.schemas.2 _ g5
 have hn : fs.length < 1000000000 := by have := eg fs; omega
 refine ⟨fun v hv => ?_, Rb hf (Mi hfs) e4⟩
 have hp : f.part.length = sp.fields.length := by
  rw [Cb (by decide), bne_eq_false_iff_eq] at e2; omega
 obtain ⟨i, hi', rfl⟩ := List.mem_iff_getElem.1 hv
 have hi : i < sp.fields.length := by omega
 have hb : F4 fs sp.fields[i].source = true := by
  rw [Cb (by decide), ← Bool.not_eq_true, eE] at e1
  cases hb : F4 fs sp.fields[i].source with
  | true => rfl
  | false => exact absurd ⟨i, hi, by unfold qE; rw [List.getElem?_eq_getElem hi]; simp [hb]⟩ e1
 obtain ⟨_, _, _, t4⟩ := xu hn sp.fields[i].source
 obtain ⟨t5, t6⟩ := t4 hb
 obtain ⟨_, _, u3, u4⟩ := HX sp.fields[i].transform (Ev hfs t6)
 have := Nn.1 e3 i (Nat.zero_le _) (by omega)
 unfold E3 at this
 rw [List.getElem?_eq_getElem hi, List.getElem?_eq_getElem hi'] at this
 simp only [o5] at this
 obtain ⟨k1, k2⟩ := u4 (by have := (Cb (by decide)).1 this.1; rwa [bne_eq_false_iff_eq] at this)
 exact Cq (hf.part.2 _ hv) u3 k1 k2 this.2
end Go.Proofs.YtfnmbpecdjncfaaGreatDoor
namespace Go.SX.Cal
open Go Go.Lib
theorem JM : ∀ a : List UInt8, compareBytes a a = 0
 | [] => rfl
 | x :: a => by
  rw [compareBytes, if_neg (by simp [UInt8.lt_irrefl]), if_neg (by simp [UInt8.lt_irrefl])]
  exact JM a
theorem Jf : ∀ a b : List UInt8, compareBytes a b = 0 → a = b
 | [], [], _ => rfl
 | [], _ :: _, h => by simp [compareBytes] at h
 | _ :: _, [], h => by simp [compareBytes] at h
 | x :: a, y :: b, h => by
  rw [compareBytes] at h
  split at h
  ·simp at h
  ·split at h
   ·simp at h
   ·rename_i h1 h2
    rw [Jf a b h, UInt8.le_antisymm (UInt8.not_lt.1 h2) (UInt8.not_lt.1 h1)]
theorem Jt : ∀ a b : List UInt8, compareBytes a b = - compareBytes b a
 | [], [] => rfl
 | [], _ :: _ => rfl
 | _ :: _, [] => rfl
 | x :: a, y :: b => by
  rw [compareBytes, compareBytes]
  by_cases h1 : x < y
  ·rw [if_pos h1, if_neg (UInt8.lt_asymm h1), if_pos h1]
  ·rw [if_neg h1]
   by_cases h2 : y < x
   ·rw [if_pos h2, if_pos h2]; rfl
   ·rw [if_neg h2, if_neg h2, if_neg h1]; exact Jt a b
theorem Ds : ∀ a b c : List UInt8, compareBytes a b < 0 → compareBytes b c < 0 → compareBytes a c < 0
 | [], [], _, h, _ => by simp [compareBytes] at h
 | [], _ :: _, [], _, h => by simp [compareBytes] at h
 | [], _ :: _, _ :: _, _, _ => by simp [compareBytes]
 | _ :: _, [], _, h, _ => by simp [compareBytes] at h
 | _ :: _, _ :: _, [], _, h => by simp [compareBytes] at h
 | x :: a, y :: b, z :: c, h, k => by
  rw [compareBytes] at h k ⊢
  by_cases h1 : x < y
  ·by_cases h2 : y < z
   ·rw [if_pos (UInt8.lt_trans h1 h2)]; decide
   ·rw [if_neg h2] at k
    by_cases h3 : z < y
    ·rw [if_pos h3] at k; simp at k
    ·have : y = z := UInt8.le_antisymm (UInt8.not_lt.1 h3) (UInt8.not_lt.1 h2)
     subst this
     rw [if_pos h1]; decide
  ·rw [if_neg h1] at h
   by_cases h4 : y < x
   ·rw [if_pos h4] at h; simp at h
   ·rw [if_neg h4] at h
    have : x = y := UInt8.le_antisymm (UInt8.not_lt.1 h4) (UInt8.not_lt.1 h1)
    subst this
    by_cases h2 : x < z
    ·rw [if_pos h2]; decide
    ·rw [if_neg h2] at k ⊢
     by_cases h3 : z < x
     ·rw [if_pos h3] at k; simp at k
     ·rw [if_neg h3] at k ⊢
      exact Ds a b c h k
def uB (a b : ByteArray) : Int := compareBytes a.data.toList b.data.toList
theorem rK (a : ByteArray) : uB a a = 0 := JM _
theorem BY {a b : ByteArray} (h : uB a b = 0) : a = b := by
 have := Jf _ _ h
 exact ByteArray.ext (Array.toList_inj.1 this)
theorem wX {a b c : ByteArray} (h : uB a b < 0) (k : uB b c < 0) : uB a c < 0 := Ds _ _ _ h k
end Go.SX.Cal
namespace Go.Proofs.YtfnmbpecdjncfaaGreatDoor
open Go Go.SX Go.SX.Cal
theorem HA {n : Nat} {L : Nat → Int → Option Int} {fin : Option Int} {c : Nat → Int} (h0 : (∀ j, j < n → c j = 0) → ∀ k, L (k + 1) (n : Int) = fin)
  (h1 : ∀ k i, i < n → (∀ j, j < i → c j = 0) → L (k + 1) (i : Int) = ee (c i) (L k ((i + 1 : Nat) : Int))) :
  ∀ m k i, i + m = n → m < k → (∀ j, j < i → c j = 0) → L k (i : Int) = ee (fe c m i) fin
 | 0, k, i, hi, hk, hp => by
  obtain ⟨k, rfl⟩ := fu hk
  have : i = n := by omega
  subst this
  rw [h0 hp]; rfl
 | m + 1, k, i, hi, hk, hp => by
  obtain ⟨k, rfl⟩ := fu hk
  rw [h1 k i (by omega) hp, fe, ← bC]
  refine eD fun e => ?_
  exact HA h0 h1 m k (i + 1) (by omega) (by omega) fun j hj => by
   by_cases h : j = i
   ·subst h; exact e
   ·exact hp j (by omega)
theorem Jh {n : Nat} {L : Nat → Int → Option Int} {fin : Option Int} {c : Nat → Int} (hn : n < 1000000000) (h0 : (∀ j, j < n → c j = 0) → ∀ k, L (k + 1) (n : Int) = fin)
  (h1 : ∀ k i, i < n → (∀ j, j < i → c j = 0) → L (k + 1) (i : Int) = ee (c i) (L k ((i + 1 : Nat) : Int))) : L aX (0 : Int) = ee (fe c n 0) fin :=
 HA h0 h1 n aX 0 (by omega) (by rw [be]; omega) fun j hj => by omega
theorem Hi {n lo : Nat} {L : Nat → Int → Option Int} {fin : Option Int} {c : Nat → Int} (h0 : ∀ k, L (k + 1) (n : Int) = fin) (h1 : ∀ k i, lo ≤ i → i < n → L (k + 1) (i : Int) = ee (c i) (L k ((i + 1 : Nat) : Int))) :
  ∀ m k i, i + m = n → m < k → lo ≤ i → L k (i : Int) = ee (fe c m i) fin
 | 0, k, i, hi, hk, _ => by
  obtain ⟨k, rfl⟩ := fu hk
  have : i = n := by omega
  subst this
  rw [h0]; rfl
 | m + 1, k, i, hi, hk, hl => by
  obtain ⟨k, rfl⟩ := fu hk
  rw [h1 k i hl (by omega), Hi h0 h1 m k (i + 1) (by omega) (by omega) (by omega), bC]; rfl
def Ee (l : List Int) (j : Nat) : Bool := match l[j]?, l[j - 1]? with | some a, some b => decide (a ≤ b) | _, _ => false
def LV (l : List Int) : Bool := decide (∃ j, j < l.length - 1 ∧ Ee l (1 + j) = true)
def Bi (l : List Int) : Bool := decide (0 < l.length) && !LV l
theorem Hx {l : List Int} (hn : l.length < 1000000000) {L : Nat → Int → Option Bool} (hz : l.length = 0 → ∀ k, L (k + 1) 1 = some false) (h0 : 0 < l.length → ∀ k, L (k + 1) (l.length : Int) = some true)
  (h1 : ∀ k i, 0 < i → i < l.length → L (k + 1) (i : Int) = al (Ee l i) (some false) (L k ((i + 1 : Nat) : Int))) : L aX (1 : Int) = some (Bi l) := by
 unfold Bi
 by_cases hl : l.length = 0
 ·rw [B1, hz hl]; simp [hl]
 ·have key : ∀ m k i, i + m = l.length → 0 < i → m < k → L k (i : Int) = some (!decide (∃ j, j < m ∧ Ee l (i + j) = true)) := by
   intro m
   induction m with
   | zero =>
    intro k i hi hp hk
    obtain ⟨k, rfl⟩ := fu hk
    have : i = l.length := by omega
    rw [this, h0 (by omega)]; simp
   | succ m ih =>
    intro k i hi hp hk
    obtain ⟨k, rfl⟩ := fu hk
    rw [h1 k i hp (by omega)]
    cases hd : Ee l i with
    | true => rw [iT, decide_eq_true ⟨0, by omega, by simpa using hd⟩]; rfl
    | false =>
     rw [iF, ih k (i + 1) (by omega) (by omega) (by omega)]
     congr 2
     refine decide_eq_decide.2 ⟨fun ⟨j, a, b⟩ => ⟨j + 1, by omega, by rw [← b]; congr 1; omega⟩, fun ⟨j, a, b⟩ => ?_⟩
     cases j with
     | zero => rw [Nat.add_zero, hd] at b; cases b
     | succ j => exact ⟨j, by omega, by rw [← b]; congr 1; omega⟩
  have := key (l.length - 1) aX 1 (by omega) (by omega) (by rw [be]; omega)
  have h2 : L aX (1 : Int) = _ := this
  rw [h2, decide_eq_true (show 0 < l.length by omega), Bool.true_and]
  rfl
theorem C8 {l : List Int} {i : Nat} (hi : i < l.length) (h0 : 0 < i) : Ee l i = decide (l[i] ≤ l[i - 1]) := by
 unfold Ee
 rw [List.getElem?_eq_getElem hi, List.getElem?_eq_getElem (show i - 1 < l.length by omega)]
theorem MN {l : List Int} (hn : l.length < 1000000000) : oP l = some (Bi l) := by
 unfold oP
 exact Hx hn (L := iG l)
  (fun h k => by
   rw [iG, h]
   show some (decide ((0 : Int) < (l.length : Int))) = _
   rw [h]; rfl)
  (fun h k => by
   rw [iG, rC, iF]
   show some (decide ((0 : Int) < (l.length : Int))) = _
   rw [decide_eq_true (by omega)])
  (fun k i h0 hi => by rw [iG, bc hi, iT, aN hi, bS, pU hi h0 hn, bS, C8 hi h0, ar hi hn])
theorem Q0 {l : List Int} (hn : l.length < 1000000000) : nj l = some (Bi l) := by
 unfold nj
 exact Hx hn (L := fk l)
  (fun h k => by
   rw [fk, h]
   show some (decide ((0 : Int) < (l.length : Int))) = _
   rw [h]; rfl)
  (fun h k => by
   rw [fk, rC, iF]
   show some (decide ((0 : Int) < (l.length : Int))) = _
   rw [decide_eq_true (by omega)])
  (fun k i h0 hi => by rw [fk, bc hi, iT, aN hi, bS, pU hi h0 hn, bS, C8 hi h0, ar hi hn])
def JL (fs : List ac) (id : Int) : Bool := F4 fs id && CJ (GB fs id)
theorem Od {fs : List ac} (hn : fs.length < 1000000000) (id : Int) : ∃ t, pk fs id = some (t, JL fs id) ∧ (JL fs id = true → t = (GB fs id).type ∧ GB fs id ∈ fs) := by
 obtain ⟨t1, _, t3, t4⟩ := xu hn id
 unfold pk
 rw [t1, bS, t3]
 unfold JL
 cases hb : F4 fs id with
 | false => exact ⟨⟨0, 0, []⟩, rfl, fun h => by cases h⟩
 | true =>
  obtain ⟨t5, t6⟩ := t4 hb
  rw [Bool.not_true, iF, t5, bS, FK, bS]
  unfold oF
  show ∃ t, al (!CJ (GB fs id)) _ _ = _ ∧ _
  cases hf : CJ (GB fs id) with
  | false => exact ⟨⟨0, 0, []⟩, rfl, fun h => by cases h⟩
  | true => rw [Bool.not_true, iF, t5, bS]; exact ⟨_, rfl, fun _ => ⟨rfl, t6⟩⟩
theorem SN {fs : List ac} (hn : fs.length < 1000000000) (id : Int) : qN fs id = some (GB fs id, JL fs id) := by
 obtain ⟨_, t2, _, _⟩ := xu hn id
 unfold qN JL
 rw [t2, bS]
 show al (F4 fs id) _ _ = _
 cases hb : F4 fs id with
 | false => rfl
 | true => rw [iT]; show aw (gO (GB fs id).type.kind) _ = _; rw [EO, bS]; rfl
theorem HZ : ∀ {l : List ae}, (∀ v ∈ l, Lv v) → Ord.wfL l ∧ nW l ≤ 257 * l.length
 | [], _ => by simp [Ord.wfL, nW]
 | x :: l, h => by
  obtain ⟨a, b⟩ := HZ (l := l) fun v hv => h v (by simp [hv])
  have hx := h x (by simp)
  have hs := hx.size
  simp only [Ord.wfL, nW, List.length_cons]
  exact ⟨⟨hx.wf, a⟩, by omega⟩
theorem L6 {a b : List ae} (ha : ∀ v ∈ a, Lv v) (hb : ∀ v ∈ b, Lv v) (hn : a.length < 1000000000) : lz a b = some (Ord.cmpL a b) := by
 unfold lz
 rw [B1, az]
 have hc : ∀ x ∈ a, ∀ y ∈ b, eR 1152921504606846975 x y = some (Ord.cmpV x y) := fun x hx y hy => by
  have h := (ha x hx).size
  exact Ord.compare_eq 257 x y _ h (by omega) (ha x hx).wf (hb y hy).wf (by omega)
 have := Ord.cmpf_loop (eR 1152921504606846975) a b (by omega) hc aX 0 (Nat.zero_le _) (Nat.zero_le _) (by rw [be]; omega)
 rw [show ((0 : Nat) : Int) = 0 from rfl, List.drop_zero, List.drop_zero] at this
 rw [this, bS]
theorem Nh {a b : List ae} (ha : ∀ v ∈ a, Lv v) (hb : ∀ v ∈ b, Lv v) (hn : a.length < 1000000000) : mg a b = some (Ord.cmpL a b) := by
 unfold mg
 obtain ⟨a1, a2⟩ := HZ ha
 obtain ⟨b1, b2⟩ := HZ hb
 have hw : ∀ {l : List ae}, Ord.wfL l → Ord.wfV ⟨6, 0, 0, ByteArray.empty, l⟩ := fun h => by
  simp only [Ord.wfV, Ord.i64]
  exact ⟨⟨by omega, by omega⟩, ⟨by omega, by omega⟩, ⟨by omega, by omega⟩, h⟩
 have hz : eP ⟨6, 0, 0, ByteArray.empty, a⟩ = nW a + 1 := by simp only [eP]; rw [Il]; omega
 rw [Ord.rcompareV_eq (nW a + 1) _ _ aX (by rw [hz]; exact Nat.le_refl _) (by rw [hz]; omega) (hw a1) (hw b1) (by rw [be]; omega), bS]
 congr 1
 simp only [Ord.cmpV, Ord.c3_self, Ord.or_zero]
 rw [if_neg (by decide), show Ord.cS ByteArray.empty ByteArray.empty = 0 from Sx.2 rfl, Ord.or_zero]
structure N1 (ids : List Int) (keys : List (List ae)) : Prop where
 nid : ids.length < 1000000000
 nkey : keys.length < 1000000000
 key : ∀ k ∈ keys, k.length < 1000000000 ∧ ∀ v ∈ k, eP v < 1000000000
noncomputable def Ea (fs : List ac) (ids : List Int) (k : List ae) (j : Nat) : Int := match ids[j]?, k[j]? with
 | some id, some v => ck (GB fs id).type v
 | _, _ => 0
noncomputable def HJ (fs : List ac) (ids : List Int) (keys : List (List ae)) (j : Nat) : Int := match keys[j]? with
 | some k => n4 (er ((k.length : Int) != (ids.length : Int)) 1) (n4 (fe (Ea fs ids k) ids.length 0) (er (decide (0 < j) && (match keys[j - 1]? with | some p => decide (0 ≤ Ord.cmpL p k) | none => false)) 1))
 | none => 0
def BG (fs : List ac) (ids : List Int) (j : Nat) : Bool := match ids[j]? with | some id => !JL fs id | none => false
noncomputable def CB (fs : List ac) (ids : List Int) (keys : List (List ae)) : Int :=
 n4 (er ((ids.length : Int) == 0) 9) (n4 (er (nY (BG fs ids) ids.length) 9) (n4 (er (LV ids) 1) (n4 (er (decide ((200 : Int) < (keys.length : Int))) 7) (n4 (er ((keys.length : Int) == 0) 9) (fe (HJ fs ids keys) keys.length 0)))))
theorem ND {fs : List ac} {ids : List Int} (h : er (nY (BG fs ids) ids.length) 9 = 0) {i : Nat} (hi : i < ids.length) : JL fs ids[i] = true := by
 rw [Cb (by decide), ← Bool.not_eq_true, eE] at h
 cases hb : JL fs ids[i] with
 | true => rfl
 | false => exact absurd ⟨i, hi, by unfold BG; rw [List.getElem?_eq_getElem hi]; simp [hb]⟩ h
theorem Dm {fs : List ac} {ids : List Int} {keys : List (List ae)} (hz : N1 ids keys) (hfs : eV fs < 1000000000 - 1) (hl : ∀ (i : Nat) (h : i < ids.length), JL fs ids[i] = true) {j : Nat} (hj : j < keys.length)
  (h1 : er ((keys[j].length : Int) != (ids.length : Int)) 1 = 0) (h2 : fe (Ea fs ids keys[j]) ids.length 0 = 0) : ∀ v ∈ keys[j], Lv v := by
 have hn : fs.length < 1000000000 := by have := eg fs; omega
 have hp : keys[j].length = ids.length := by rw [Cb (by decide), bne_eq_false_iff_eq] at h1; omega
 intro v hv
 obtain ⟨i, hi, rfl⟩ := List.mem_iff_getElem.1 hv
 have hi' : i < ids.length := by omega
 have := Nn.1 h2 i (Nat.zero_le _) (by omega)
 unfold Ea at this
 rw [List.getElem?_eq_getElem hi', List.getElem?_eq_getElem hi] at this
 simp only at this
 obtain ⟨t, _, t2⟩ := Od hn ids[i]
 obtain ⟨_, t3⟩ := t2 (hl i hi')
 have hlf := hl i hi'
 unfold JL CJ at hlf
 simp only [Bool.and_eq_true, decide_eq_true_eq] at hlf
 exact Cq ((hz.key _ (List.getElem_mem hj)).2 _ hv) (Ev hfs t3) hlf.2.1 hlf.2.2 this
theorem uc {fs : List ac} {ids : List Int} {keys : List (List ae)} {j : Nat} (hj : j < keys.length) : HJ fs ids keys j = n4 (er ((keys[j].length : Int) != (ids.length : Int)) 1) (n4 (fe (Ea fs ids keys[j]) ids.length 0) (er (decide (0 < j) && (match keys[j - 1]? with | some p => decide (0 ≤ Ord.cmpL p keys[j]) | none => false)) 1)) := by
 unfold HJ
 rw [List.getElem?_eq_getElem hj]
theorem O6 {d : aD} {fs : List ac} (hz : N1 d.ids d.keys) (hfs : eV fs < 1000000000 - 1) (hl : ∀ (i : Nat) (h : i < d.ids.length), JL fs d.ids[i] = true) : gL d true fs aX (0 : Int) = some (fe (HJ fs d.ids d.keys) d.keys.length 0) := by
 have hn : fs.length < 1000000000 := by have := eg fs; omega
 rw [Jh (L := gL d true fs) (n := d.keys.length) (fin := some 0) (c := HJ fs d.ids d.keys) hz.nkey
  (fun _ k => by rw [gL, rC, iF]; rfl)
  (fun k i hi hp => by
   obtain ⟨z1, z2⟩ := hz.key _ (List.getElem_mem hi)
   rw [gL, bc hi, iT, aN hi, bS, dS (by decide), uc hi, ← bC, ← bC]
   refine eD fun e1 => ?_
   have hp' : d.keys[i].length = d.ids.length := by rw [Cb (by decide), bne_eq_false_iff_eq] at e1; omega
   rw [gS (L := oi (gL d true fs k) d true fs (i : Int) d.keys[i]) (n := d.ids.length) (fin := vI (gL d true fs k) d true (i : Int) d.keys[i]) (c := Ea fs d.ids d.keys[i]) hz.nid
    (fun q => by rw [oi, hp', rC, iF])
    (fun q j hj => by
     have hj' : j < d.keys[i].length := by omega
     obtain ⟨t, u1, u2⟩ := Od hn d.ids[j]
     obtain ⟨rfl, u3⟩ := u2 (hl j hj)
     rw [oi, bc hj', iT, aN hj', bS, aN hj, bS, u1, bS]
     show aw (jj (GB fs d.ids[j]).type _) _ = _
     rw [ME (z2 _ (List.getElem_mem hj')) (Ev hfs u3), bS, iI, ar hj hz.nid]
     unfold Ea
     rw [List.getElem?_eq_getElem hj, List.getElem?_eq_getElem hj'])]
   refine eD fun e2 => ?_
   have hk := Dm hz hfs hl hi e1 e2
   unfold vI sY
   rw [iT, ar hi hz.nkey]
   by_cases h0 : 0 < i
   ·have hi1 : i - 1 < d.keys.length := by omega
    have hprev := hp (i - 1) (by omega)
    rw [uc hi1, o5, o5] at hprev
    have hk' := Dm hz hfs hl hi1 hprev.1 hprev.2.1
    rw [decide_eq_true (show (0 : Int) < (i : Int) by omega), iT, pU hi h0 hz.nkey, bS, L6 hk' hk (hz.key _ (List.getElem_mem hi1)).1, bS, dS (by decide), decide_eq_true h0, List.getElem?_eq_getElem hi1, Bool.true_and]
   ·rw [decide_eq_false (show ¬ (0 : Int) < (i : Int) by omega), decide_eq_false h0]; rfl)]
 exact dX _
theorem NG {ids : List Int} {keys : List (List ae)} {fs : List ac} (hz : N1 ids keys) (hfs : eV fs < 1000000000 - 1) (hl : ∀ (i : Nat) (h : i < ids.length), JL fs ids[i] = true) : cT fs ids keys true aX (0 : Int) = some (fe (HJ fs ids keys) keys.length 0) := by
 have hn : fs.length < 1000000000 := by have := eg fs; omega
 rw [Jh (L := cT fs ids keys true) (n := keys.length) (fin := some 0) (c := HJ fs ids keys) hz.nkey
  (fun _ k => by rw [cT, rC, iF]; rfl)
  (fun k i hi hp => by
   obtain ⟨z1, z2⟩ := hz.key _ (List.getElem_mem hi)
   rw [cT, bc hi, iT, aN hi, bS, dS (by decide), uc hi, ← bC, ← bC]
   refine eD fun e1 => ?_
   have hp' : keys[i].length = ids.length := by rw [Cb (by decide), bne_eq_false_iff_eq] at e1; omega
   rw [gS (L := iq (cT fs ids keys true k) fs ids keys true (i : Int) keys[i]) (n := ids.length) (fin := nS (cT fs ids keys true k) keys true (i : Int) keys[i]) (c := Ea fs ids keys[i]) hz.nid
    (fun q => by rw [iq, rC, iF])
    (fun q j hj => by
     have hj' : j < keys[i].length := by omega
     obtain ⟨t, u1, u2⟩ := Od hn ids[j]
     obtain ⟨rfl, u3⟩ := u2 (hl j hj)
     rw [iq, bc hj, iT, aN hj, bS, SN hn, bS, aN hj', bS]
     show aw (mQ (GB fs ids[j]).type _) _ = _
     rw [Pa (z2 _ (List.getElem_mem hj')) (Ev hfs u3), bS, iI, ar hj hz.nid]
     unfold Ea
     rw [List.getElem?_eq_getElem hj, List.getElem?_eq_getElem hj'])]
   refine eD fun e2 => ?_
   have hk := Dm hz hfs hl hi e1 e2
   unfold nS lB
   rw [iT, ar hi hz.nkey]
   by_cases h0 : 0 < i
   ·have hi1 : i - 1 < keys.length := by omega
    have hprev := hp (i - 1) (by omega)
    rw [uc hi1, o5, o5] at hprev
    have hk' := Dm hz hfs hl hi1 hprev.1 hprev.2.1
    rw [decide_eq_true (show (0 : Int) < (i : Int) by omega), iT, pU hi h0 hz.nkey, bS, Nh hk' hk (hz.key _ (List.getElem_mem hi1)).1, bS, dS (by decide), decide_eq_true h0, List.getElem?_eq_getElem hi1, Bool.true_and]
   ·rw [decide_eq_false (show ¬ (0 : Int) < (i : Int) by omega), decide_eq_false h0]; rfl)]
 exact dX _
theorem O7 {fs : List ac} {ids : List Int} (hn : fs.length < 1000000000) (hs : ids.length < 1000000000) : cz ids fs = some (nY (BG fs ids) ids.length, fs) := by
 unfold cz fw
 obtain ⟨r, r1, r2⟩ := AM (z := fs) (L := fun k i => bu ids k fs i) (n := ids.length) (p := BG fs ids) hs
  (fun k => by rw [bu, rC, iF]; rfl)
  (fun k i hi => by
   obtain ⟨t, t1, _⟩ := Od hn ids[i]
   rw [bu, bc hi, iT, aN hi, bS, Ar, t1, bS, bS, ar hi hs]
   unfold BG
   rw [List.getElem?_eq_getElem hi])
 have r1 : bu ids aX fs (0 : Int) = some (r, fs) := r1
 rw [r1, bS]
 show some (decide (0 ≤ r), fs) = _
 rw [r2]
theorem OV {ids : List Int} (h : ids.length ≠ 0) : er (!Bi ids) 1 = er (LV ids) 1 := by
 unfold Bi; rw [decide_eq_true (show 0 < ids.length by omega), Bool.true_and, Bool.not_not]
theorem RT {d : aD} {fs : List ac} (hz : N1 d.ids d.keys) (hfs : eV fs < 1000000000 - 1) :
  (al ((d.ids.length : Int) == (0 : Int)) (ol d true fs true) (aw (cz d.ids fs) fun r2 => ol d true r2.2 r2.1)) = some (CB fs d.ids d.keys) := by
 have hn : fs.length < 1000000000 := by have := eg fs; omega
 unfold CB
 by_cases h0 : d.ids.length = 0
 ·rw [show ((d.ids.length : Int) == 0) = true by simp [h0], iT]; rfl
 ·rw [show ((d.ids.length : Int) == 0) = false from beq_eq_false_iff_ne.2 (by omega), iF, HD, GZ, O7 hn hz.nid, bS]
  show ol d true fs (nY (BG fs d.ids) d.ids.length) = _
  unfold ol
  rw [dS (by decide), MN hz.nid, bS, dS (by decide), OV h0, dS (by decide), dS (by decide), ← dX, ← bC, ← bC, ← bC, ← bC]
  refine eD fun e => eD fun _ => eD fun _ => eD fun _ => ?_
  rw [O6 hz hfs fun i h => ND e h, dX]
theorem SI {ids : List Int} {keys : List (List ae)} {fs : List ac} (hz : N1 ids keys) (hfs : eV fs < 1000000000 - 1) : ri fs ids keys true = some (CB fs ids keys) := by
 have hn : fs.length < 1000000000 := by have := eg fs; omega
 unfold ri CB
 rw [dS (by decide), ← dX, ← bC, ← bC]
 refine eD fun h0 => ?_
 have h0 : ids.length ≠ 0 := by rw [Cb (by decide)] at h0; simpa using h0
 rw [gS (L := im fs ids keys true) (n := ids.length) (fin := nT fs ids keys true) (c := fun j => er (BG fs ids j) 9) hz.nid
  (fun k => by rw [im, rC, iF])
  (fun k i hi => by
   rw [im, bc hi, iT, aN hi, bS, SN hn, bS, dS (by decide), ar hi hz.nid]
   unfold BG
   rw [List.getElem?_eq_getElem hi])]
 rw [Cj (by decide)]
 refine eD fun e => ?_
 unfold nT
 have h2 := Hi (lo := 1) (L := ip fs ids keys true) (n := ids.length) (fin := nU fs ids keys true) (c := fun j => er (Ee ids j) 1)
  (fun k => by rw [ip, rC, iF])
  (fun k i hl hi => by rw [ip, bc hi, iT, aN hi, bS, pU hi (by omega) hz.nid, bS, ← C8 hi (by omega), dS (by decide), ar hi hz.nid])
  (ids.length - 1) aX 1 (by omega) (by rw [be]; have := hz.nid; omega) (Nat.le_refl _)
 rw [show ((1 : Nat) : Int) = 1 from rfl, LE (by decide)] at h2
 rw [h2, show decide (∃ j, j < ids.length - 1 ∧ Ee ids (1 + j) = true) = LV ids from rfl, ← bC]
 refine eD fun _ => ?_
 unfold nU
 rw [dS (by decide), dS (by decide), NG hz hfs fun i h => ND e h, ← bC, ← bC, dX]
end Go.Proofs.YtfnmbpecdjncfaaGreatDoor
namespace Go.Proofs.YtfnmbpecdjncfaaGreatDoor
open Go Go.SX Go.SX.Cal
theorem PJ : ∀ a b : List UInt8, Op.bytesLess a b = decide (Lib.compareBytes a b < 0)
 | [], [] => rfl
 | [], _ :: _ => rfl
 | _ :: _, [] => rfl
 | x :: a, y :: b => by
  rw [Op.bytesLess, Lib.compareBytes, PJ a b]
  by_cases h1 : x < y
  ·rw [if_pos h1]; simp [h1]
  ·rw [if_neg h1]
   by_cases h2 : y < x
   ·have : (x == y) = false := by
     rw [beq_eq_false_iff_ne]; intro e; subst e; exact UInt8.lt_irrefl _ h2
    rw [if_pos h2]; simp [h1, this]
   ·have : x = y := UInt8.le_antisymm (UInt8.not_lt.1 h2) (UInt8.not_lt.1 h1)
    subst this
    rw [if_neg h2]; simp [h1]
theorem F3 (x n : ByteArray) : (x.toList == n.toList) = decide (x = n) := by
 rw [ByteArray.toList_eq, ByteArray.toList_eq, Bool.eq_iff_iff, beq_iff_eq, decide_eq_true_iff]
 exact ⟨fun h => ByteArray.ext (Array.toList_inj.1 h), fun h => by rw [h]⟩
def F6 (a b : ByteArray) : Bool := Op.bytesLess a.toList b.toList || a.toList == b.toList
theorem Kv {a b : ByteArray} (h : F6 a b = false) : uB b a < 0 := by
 unfold F6 at h
 rw [Bool.or_eq_false_iff, F3, ByteArray.toList_eq, ByteArray.toList_eq, PJ] at h
 obtain ⟨h1, h2⟩ := h
 have h1 : ¬ uB a b < 0 := by simpa [uB] using h1
 have h2 : a ≠ b := by simpa using h2
 have h3 : uB a b = -uB b a := Jt _ _
 have h4 : uB b a ≠ 0 := fun h => h2 (BY h).symm
 omega
def mw (fs : List ah) (n : ByteArray) : Option ah := fs.find? fun f => decide (f.name = n)
def P5 : ah := ⟨ByteArray.empty, 0, 0, [], 0, 0, []⟩
theorem zn {s : aj} (hn : s.files.length < 1000000000) (n : ByteArray) : rQ s n = some ((mw s.files n).getD P5, (mw s.files n).isSome) := by
 have key : ∀ (m k i : Nat), i + m = s.files.length → m < k → mJ s n k (i : Int) = some ((mw (s.files.drop i) n).getD P5, (mw (s.files.drop i) n).isSome) := by
  intro m
  induction m with
  | zero =>
   intro k i hi hk
   obtain ⟨k, rfl⟩ := fu hk
   rw [mJ, Bt (by omega), iF, List.drop_of_length_le (by omega)]; rfl
  | succ m ih =>
   intro k i hi hk
   obtain ⟨k, rfl⟩ := fu hk
   have h1 : i < s.files.length := by omega
   rw [mJ, bc h1, iT, aN h1, bS, F3, re h1]
   unfold mw
   rw [List.find?_cons]
   cases hb : decide (s.files[i].name = n) with
   | true => rfl
   | false => rw [iF, ar h1 hn]; exact ih k (i + 1) (by omega) (by omega)
 have := key s.files.length aX 0 (by omega) (by rw [be]; omega)
 unfold rQ
 rw [show ((0 : Nat) : Int) = 0 from rfl] at this
 rw [this, List.drop_zero]
def Ab (fs : List ah) : Prop := ∀ (i j : Nat) (hj : j < fs.length) (hij : i < j), uB (fs[i]'(by omega)).name fs[j].name < 0
theorem wX {a b c : ByteArray} (h : uB a b < 0) (k : uB b c < 0) : uB a c < 0 := Ds _ _ _ h k
theorem MM {fs : List ah} (h : ∀ (j : Nat) (hj : j < fs.length), 0 < j → uB (fs[j - 1]'(by omega)).name fs[j].name < 0) : Ab fs := by
 intro i j
 induction j with
 | zero => intro hj hij; omega
 | succ j ih =>
  intro hj hij
  have h1 := h (j + 1) hj (by omega)
  simp only [Nat.add_sub_cancel] at h1
  by_cases e : i = j
  ·subst e; exact h1
  ·exact wX (ih (by omega) (by omega)) h1
theorem Dh {fs : List ah} (hs : Ab fs) {i : Nat} (hi : i < fs.length) : mw fs fs[i].name = some fs[i] := by
 unfold mw
 rw [List.find?_eq_some_iff_getElem]
 refine ⟨by simp, i, hi, rfl, fun j hj => ?_⟩
 have := hs j i hi hj
 simp only [Bool.not_eq_true', decide_eq_false_iff_not]
 intro e
 rw [e, rK] at this
 omega
theorem DW {fs : List ah} {n : ByteArray} (h : ∀ (j : Nat) (hj : j < fs.length), fs[j].name ≠ n) : mw fs n = none := by
 unfold mw
 rw [List.find?_eq_none]
 intro f hf
 obtain ⟨i, hi, rfl⟩ := List.mem_iff_getElem.1 hf
 simpa using h i hi
theorem Uj (x : Int) : IntKind.u64.wrap x = x % 18446744073709551616 := by
 unfold IntKind.wrap; simp [IntKind.bits, IntKind.signed]
theorem Sa {fs : List ah} (hs : Ab fs) (hn : fs.length < 1000000000) (n : ByteArray) : ∀ (m k i j : Nat), j - i = m → m < k → i ≤ j → j ≤ fs.length → (∀ (q : Nat) (hq : q < fs.length), q < i → uB fs[q].name n < 0) → (∀ (q : Nat) (hq : q < fs.length), j ≤ q → ¬ uB fs[q].name n < 0) →
  ∃ r b, ay fs n k (i : Int) (j : Int) = some (r, b) ∧ b = (mw fs n).isSome ∧ (b = true → at? fs r = mw fs n) := by
 intro m
 induction m using Nat.strongRecOn with
 | ind m ih =>
  intro k i j hm hk hij hj hlo hhi
  obtain ⟨k, rfl⟩ := fu hk
  rw [ay]
  by_cases h : i < j
  ·have hh : (i + j) / 2 < fs.length := by omega
   have e1 : ((IntKind.u64.wrap (IntKind.i64.wrap ((i : Int) + (j : Int)))).fdiv (2 ^ (min (1 : Int).toNat (IntKind.u64).bits))) = (((i + j) / 2 : Nat) : Int) := by
    rw [yB (by omega) (by omega), Uj, show ((i : Int) + (j : Int)) % 18446744073709551616 = ((i + j : Nat) : Int) by omega]
    show ((i + j : Nat) : Int).fdiv (2 ^ 1) = _
    rw [Int.fdiv_eq_ediv_of_nonneg _ (by decide)]
    omega
   rw [bc h, iT, e1, bS, yB (x := (((i + j) / 2 : Nat) : Int)) (by omega) (by omega), aN hh, bS]
   unfold qC strings_Compare
   rw [bS, bS]
   show ∃ r b, al (decide (uB fs[(i + j) / 2].name n < 0)) _ _ = _ ∧ _
   by_cases hc : uB fs[(i + j) / 2].name n < 0
   ·rw [decide_eq_true hc, iT, yB (x := (((i + j) / 2 : Nat) : Int) + 1) (by omega) (by omega), show (((i + j) / 2 : Nat) : Int) + 1 = (((i + j) / 2 + 1 : Nat) : Int) by omega]
    refine ih (j - ((i + j) / 2 + 1)) (by omega) k _ j rfl (by omega) (by omega) hj (fun q hq hqi => ?_) hhi
    by_cases e : q = (i + j) / 2
    ·subst e; exact hc
    ·exact wX (hs q _ hh (by omega)) hc
   ·rw [decide_eq_false hc, iF]
    refine ih ((i + j) / 2 - i) (by omega) k i _ (by omega) (by omega) (by omega) (by omega) hlo (fun q hq hqj hlt => ?_)
    by_cases e : q = (i + j) / 2
    ·subst e; exact hc hlt
    ·exact hc (wX (hs _ q hq (by omega)) hlt)
  ·have hi : i = j := by omega
   clear ih
   subst hi
   rw [Bt (by omega), iF]
   unfold bN bo qC strings_Compare
   by_cases hil : i < fs.length
   ·rw [bc hil, iT, aN hil, bS, bS, bS]
    show ∃ r b, some ((i : Int), (uB fs[i].name n == 0)) = some (r, b) ∧ _
    refine ⟨_, _, rfl, ?_, fun hb => ?_⟩
    ·by_cases hz : uB fs[i].name n = 0
     ·have := BY hz
      rw [← this, Dh hs hil, rK]; rfl
     ·rw [beq_eq_false_iff_ne.2 hz, DW]
      ·rfl
      ·intro q hq e
       rcases Nat.lt_trichotomy q i with h1 | h1 | h1
       ·have := hlo q hq h1; rw [e, rK] at this; omega
       ·subst h1; exact hz (by rw [e, rK])
       ·have := hs i q hq h1
        rw [e] at this
        exact hhi i hil (Nat.le_refl _) this
    ·have hz : uB fs[i].name n = 0 := by simpa using hb
     have := BY hz
     rw [← this, Dh hs hil, aN hil]
   ·rw [Bt hil, iF]
    refine ⟨_, _, rfl, ?_, fun h => by cases h⟩
    rw [DW]
    ·rfl
    ·intro q hq e
     have := hlo q hq (by omega)
     rw [e, rK] at this; omega
theorem In {s : aj} (hs : Ab s.files) (hn : s.files.length < 1000000000) (n : ByteArray) : rE s n = some ((mw s.files n).getD P5, (mw s.files n).isSome) := by
 unfold rE bV
 obtain ⟨r, b, h1, h2, h3⟩ := Sa hs hn n s.files.length aX 0 s.files.length (by omega) (by rw [be]; omega) (Nat.zero_le _) (Nat.le_refl _) (fun q hq h => by omega) (fun q hq h => by omega)
 have h1 : ay s.files n aX (0 : Int) (s.files.length : Int) = _ := h1
 rw [h1, bS]
 show al (!b) _ (aw (at? s.files r) _) = _
 cases hb : mw s.files n with
 | none =>
  rw [hb] at h2
  rw [h2]; rfl
 | some f =>
  rw [hb] at h2 h3
  subst h2
  rw [h3 rfl]; rfl
noncomputable def NV (m : ax) (s : aj) (j : Nat) : Int := match s.files[j]? with
 | some f => n4 (zH m f) (n4 (er (decide (s.seq < f.seq) || decide (s.schema < f.schema)) 3) (er (decide (0 < j) && (match s.files[j - 1]? with | some p => F6 f.name p.name | none => false)) 1))
 | none => 0
theorem Oz {m : ax} {s : aj} (hm : rl m) (hs : HH s) : sK m s = some (fe (NV m s) s.files.length 0) := by
 unfold sK
 rw [gS (L := en m s) (n := s.files.length) (fin := some 0) (c := NV m s) hs.files.1
  (fun k => by rw [en, rC, iF]; rfl)
  (fun k i hi => by
   rw [en, bc hi, iT, aN hi, bS, QW hm (hs.files.2 _ (List.getElem_mem hi)), bS, iI]
   unfold NV
   rw [List.getElem?_eq_getElem hi]
   simp only
   rw [← bC, ← bC]
   refine eD fun _ => ?_
   unfold qw rf
   rw [ar hi hs.files.1]
   have hj : ∀ x, al x (some (3 : Int)) (al (decide ((0 : Int) < (i : Int))) (aw (at? s.files (IntKind.i64.wrap ((i : Int) - 1))) fun e2 => aw (some (Op.bytesLess s.files[i].name.toList e2.name.toList || s.files[i].name.toList == e2.name.toList)) fun y1 => al y1 (some 1) (en m s k ((i + 1 : Nat) : Int))) (al false (some 1) (en m s k ((i + 1 : Nat) : Int)))) =
     ee (er x 3) (ee (er (decide (0 < i) && (match s.files[i - 1]? with | some p => F6 s.files[i].name p.name | none => false)) 1) (en m s k ((i + 1 : Nat) : Int))) := by
    intro x
    rw [dS (by decide)]
    refine eD fun _ => ?_
    by_cases h0 : 0 < i
    ·have hi1 : i - 1 < s.files.length := by omega
     rw [decide_eq_true (show (0 : Int) < (i : Int) by omega), iT, pU hi h0 hs.files.1, bS, bS, dS (by decide), decide_eq_true h0, List.getElem?_eq_getElem hi1, Bool.true_and]; rfl
    ·rw [decide_eq_false (show ¬ (0 : Int) < (i : Int) by omega), decide_eq_false h0]; rfl
   cases decide (s.seq < s.files[i].seq) with
   | true => exact hj true
   | false => exact hj _)]
 exact dX _
theorem OB {m : ax} {s : aj} (hm : rl m) (hs : HH s) : bJ m s aX (0 : Int) = ee (fe (NV m s) s.files.length 0) (iS m s) := by
 exact gS (L := bJ m s) (n := s.files.length) (c := NV m s) hs.files.1
  (fun k => by rw [bJ, rC, iF])
  (fun k i hi => by
   rw [bJ, bc hi, iT, aN hi, bS, Rl hm (hs.files.2 _ (List.getElem_mem hi)), bS, iI]
   unfold NV
   rw [List.getElem?_eq_getElem hi]
   simp only
   rw [← bC, ← bC]
   refine eD fun _ => ?_
   unfold kH kJ
   rw [ar hi hs.files.1]
   have hj : ∀ x, al x (some (3 : Int)) (al (decide ((0 : Int) < (i : Int))) (aw (at? s.files (IntKind.i64.wrap ((i : Int) - 1))) fun e2 => aw (some (Op.bytesLess s.files[i].name.toList e2.name.toList || s.files[i].name.toList == e2.name.toList)) fun y1 => al y1 (some 1) (bJ m s k ((i + 1 : Nat) : Int))) (al false (some 1) (bJ m s k ((i + 1 : Nat) : Int)))) =
     ee (er x 3) (ee (er (decide (0 < i) && (match s.files[i - 1]? with | some p => F6 s.files[i].name p.name | none => false)) 1) (bJ m s k ((i + 1 : Nat) : Int))) := by
    intro x
    rw [dS (by decide)]
    refine eD fun _ => ?_
    by_cases h0 : 0 < i
    ·have hi1 : i - 1 < s.files.length := by omega
     rw [decide_eq_true (show (0 : Int) < (i : Int) by omega), iT, pU hi h0 hs.files.1, bS, bS, dS (by decide), decide_eq_true h0, List.getElem?_eq_getElem hi1, Bool.true_and]; rfl
    ·rw [decide_eq_false (show ¬ (0 : Int) < (i : Int) by omega), decide_eq_false h0]; rfl
   cases decide (s.seq < s.files[i].seq) with
   | true => exact hj true
   | false => exact hj _)
theorem F8 {m : ax} {s : aj} (hm : rl m) (hs : HH s) (h : fe (NV m s) s.files.length 0 = 0) : Ab s.files ∧ ∀ f ∈ s.files, Ml f := by
 have key : ∀ (j : Nat) (hj : j < s.files.length), zH m s.files[j] = 0 ∧ (0 < j → F6 s.files[j].name (s.files[j - 1]'(by omega)).name = false) := by
  intro j hj
  have := Nn.1 h j (Nat.zero_le _) (by omega)
  unfold NV at this
  rw [List.getElem?_eq_getElem hj] at this
  simp only [o5] at this
  refine ⟨this.1, fun h0 => ?_⟩
  have h3 := (Cb (by decide)).1 this.2.2
  rw [decide_eq_true h0, List.getElem?_eq_getElem (show j - 1 < s.files.length by omega), Bool.true_and] at h3
  exact h3
 refine ⟨MM fun j hj h0 => Kv ((key j hj).2 h0), fun f hf => ?_⟩
 obtain ⟨i, hi, rfl⟩ := List.mem_iff_getElem.1 hf
 exact N9 hm (hs.files.2 _ hf) (key i hi).1
end Go.Proofs.YtfnmbpecdjncfaaGreatDoor
namespace Go.Proofs.YtfnmbpecdjncfaaGreatDoor
open Go Go.SX Go.SX.Cal
theorem FA {l : List Int} (h : Bi l = true) : 0 < l.length ∧ ∀ (i j : Nat) (hj : j < l.length) (hij : i < j), l[i]'(by omega) < l[j] := by
 unfold Bi LV at h
 rw [Bool.and_eq_true, decide_eq_true_iff, Bool.not_eq_true', decide_eq_false_iff_not] at h
 obtain ⟨h0, h1⟩ := h
 refine ⟨h0, fun i j => ?_⟩
 induction j with
 | zero => intro hj hij; omega
 | succ j ih =>
  intro hj hij
  have hd : Ee l (1 + j) = false := by
   cases hd : Ee l (1 + j) with
   | false => rfl
   | true => exact absurd ⟨j, by omega, hd⟩ h1
  rw [C8 (by omega) (by omega), decide_eq_false_iff_not] at hd
  have e : l[1 + j]'(by omega) = l[j + 1] := by congr 1; omega
  have e2 : l[1 + j - 1]'(by omega) = l[j]'(by omega) := by congr 1; omega
  rw [e, e2] at hd
  by_cases hh : i = j
  ·subst hh; omega
  ·have := ih (by omega) (by omega); omega
def Ld (l : List Int) (n : Int) : Bool := nY (fun j => match l[j]? with | some a => decide (a < 0) || decide (n ≤ a) | none => false) l.length
theorem Qo {l : List Int} (hn : l.length < 1000000000) (n : Int) : nh l n = some (!Ld l n) := by
 unfold nh
 rw [wV (L := eM l n) (n := l.length) (p := fun j => match l[j]? with | some a => decide (a < 0) || decide (n ≤ a) | none => false) hn
  (fun k => by rw [eM, rC, iF]; rfl)
  (fun k i hi => by
   rw [eM, bc hi, iT, aN hi, bS, List.getElem?_eq_getElem hi]
   unfold mP
   rw [ar hi hn]
   simp only
   cases h : decide (l[i] < 0) with
   | true => rfl
   | false => rfl)]
 rfl
theorem M0 {l : List Int} (h : Bi l = true) (n : Int) : Ld l n = (decide (l[0]'(FA h).1 < 0) || decide (n ≤ l[l.length - 1]'(by have := (FA h).1; omega))) := by
 obtain ⟨h0, h1⟩ := FA h
 refine gn ?_
 unfold Ld
 rw [eE, Bool.or_eq_true, decide_eq_true_iff, decide_eq_true_iff]
 constructor
 ·rintro ⟨j, hj, hp⟩
  rw [List.getElem?_eq_getElem hj] at hp
  simp only [Bool.or_eq_true, decide_eq_true_eq] at hp
  rcases hp with hp | hp
  ·left
   by_cases e : j = 0
   ·subst e; exact hp
   ·have := h1 0 j hj (by omega); omega
  ·right
   by_cases e : j = l.length - 1
   ·subst e; exact hp
   ·have := h1 j (l.length - 1) (by omega) (by omega); omega
 ·rintro (hp | hp)
  ·exact ⟨0, h0, by rw [List.getElem?_eq_getElem h0]; simp [hp]⟩
  ·exact ⟨l.length - 1, by omega, by rw [List.getElem?_eq_getElem (show l.length - 1 < l.length by omega)]; simp [hp]⟩
def Qc (l : List eT) (d : eT) (j : Nat) : Bool := decide (0 < j) && (match l[j - 1]? with | some p => F6 d.file p.file | none => false)
def Iv (s : aj) (j : Nat) : Int := match s.dat[j]? with
 | some d => (match mw s.files d.file with
  | none => 9
  | some f => n4 (er (Qc s.dat d j || !Bi d.rows) 1) (er (Ld d.rows f.rows) 3))
 | none => 0
theorem SW {m : ax} {s : aj} (hs : HH s) (ho : Ab s.files) : pI m s = ee (fe (Iv s) s.dat.length 0) (mi m s) := by
 unfold pI
 exact gS (L := cR m s) (n := s.dat.length) (c := Iv s) hs.dat.1
  (fun k => by rw [cR, rC, iF])
  (fun k i hi => by
   have hd := hs.dat.2 _ (List.getElem_mem hi)
   rw [cR, bc hi, iT, aN hi, bS, In ho hs.files.1, bS]
   unfold Iv
   rw [List.getElem?_eq_getElem hi]
   simp only
   cases hf : mw s.files s.dat[i].file with
   | none => rfl
   | some f =>
    show al (!true) _ _ = _
    rw [Bool.not_true, iF, MN hd, bS]
    rw [← bC]
    unfold mq oL
    rw [ar hi hs.dat.1]
    have hj : ∀ x, (Bi s.dat[i].rows = false → x = true) → al x (some (1 : Int)) (aw (at? s.dat[i].rows (0 : Int)) fun e3 => al (decide (e3 < (0 : Int))) (al true (some (3 : Int)) (cR m s k ((i + 1 : Nat) : Int))) (aw (at? s.dat[i].rows (IntKind.i64.wrap ((s.dat[i].rows.length : Int) - (1 : Int)))) fun e4 => al (decide (f.rows ≤ e4)) (some (3 : Int)) (cR m s k ((i + 1 : Nat) : Int)))) =
      ee (er x 1) (ee (er (Ld s.dat[i].rows f.rows) 3) (cR m s k ((i + 1 : Nat) : Int))) := by
     intro x hx
     rw [dS (by decide)]
     refine eD fun e => ?_
     have e := (Cb (by decide)).1 e
     cases hr : Bi s.dat[i].rows with
     | false => rw [hx hr] at e; cases e
     | true =>
      obtain ⟨h0, _⟩ := FA hr
      have a0 := aN h0
      rw [show ((0 : Nat) : Int) = 0 from rfl] at a0
      rw [a0, bS, kX hd, show ((s.dat[i].rows.length : Int) - 1) = ((s.dat[i].rows.length - 1 : Nat) : Int) by omega, aN (show s.dat[i].rows.length - 1 < s.dat[i].rows.length by omega), bS, M0 hr]
      cases decide (s.dat[i].rows[0] < 0) with
      | true => rfl
      | false => rw [iF, dS (by decide), Bool.false_or]
    unfold Qc
    by_cases h0 : 0 < i
    ·have hi1 : i - 1 < s.dat.length := by omega
     rw [decide_eq_true (show (0 : Int) < (i : Int) by omega), iT, pU hi h0 hs.dat.1, bS, bS, decide_eq_true h0, List.getElem?_eq_getElem hi1, Bool.true_and]
     show al (F6 s.dat[i].file s.dat[i - 1].file) _ _ = ee (er (F6 s.dat[i].file s.dat[i - 1].file || !Bi s.dat[i].rows) 1) _
     cases F6 s.dat[i].file s.dat[i - 1].file with
     | true => rw [iT, Bool.true_or]; exact hj true fun _ => rfl
     | false => rw [iF, Bool.false_or]; exact hj _ fun h => by rw [h]; rfl
    ·rw [decide_eq_false (show ¬ (0 : Int) < (i : Int) by omega), iF, decide_eq_false h0, Bool.false_and, Bool.false_or]
     exact hj _ fun h => by rw [h]; rfl)
theorem SK {m : ax} {s : aj} (hs : HH s) : iS m s = ee (fe (Iv s) s.dat.length 0) (iP m s) := by
 unfold iS
 exact gS (L := cn m s) (n := s.dat.length) (c := Iv s) hs.dat.1
  (fun k => by rw [cn, rC, iF])
  (fun k i hi => by
   have hd := hs.dat.2 _ (List.getElem_mem hi)
   rw [cn, bc hi, iT, aN hi, bS, zn hs.files.1, bS]
   unfold Iv
   rw [List.getElem?_eq_getElem hi]
   simp only
   cases hf : mw s.files s.dat[i].file with
   | none => rfl
   | some f =>
    show al (!true) _ _ = _
    rw [Bool.not_true, iF, Q0 hd, bS]
    rw [← bC]
    unfold iQ
    rw [ar hi hs.dat.1]
    have hj : ∀ x, al x (some (1 : Int)) (aw (nh s.dat[i].rows f.rows) fun r11 => al (!r11) (some (3 : Int)) (cn m s k ((i + 1 : Nat) : Int))) =
      ee (er x 1) (ee (er (Ld s.dat[i].rows f.rows) 3) (cn m s k ((i + 1 : Nat) : Int))) := by
     intro x
     rw [dS (by decide), Qo hd, bS, Bool.not_not, dS (by decide)]
    unfold Qc
    by_cases h0 : 0 < i
    ·have hi1 : i - 1 < s.dat.length := by omega
     rw [decide_eq_true (show (0 : Int) < (i : Int) by omega), iT, pU hi h0 hs.dat.1, bS, bS, decide_eq_true h0, List.getElem?_eq_getElem hi1, Bool.true_and]
     show al (F6 s.dat[i].file s.dat[i - 1].file) _ _ = ee (er (F6 s.dat[i].file s.dat[i - 1].file || !Bi s.dat[i].rows) 1) _
     cases F6 s.dat[i].file s.dat[i - 1].file with
     | true => rw [iT, Bool.true_or]; exact hj true
     | false => rw [iF, Bool.false_or]; exact hj _
    ·rw [decide_eq_false (show ¬ (0 : Int) < (i : Int) by omega), iF, decide_eq_false h0, Bool.false_and, Bool.false_or]
     exact hj _)
def Ky (m : ax) (d : aD) : Bool := !decide (0 ≤ d.schema ∧ d.schema ≤ (m.schemas.length : Int) - 1) || decide (d.seq < 1)
noncomputable def Rj (m : ax) (d : aD) : Int := n4 (er (Ky m d) 3) (match m.schemas[d.schema.toNat]? with | some fs => CB fs d.ids d.keys | none => 0)
theorem NT {m : ax} {d : aD} (h : Ky m d = false) : ∃ fs, at? m.schemas d.schema = some fs ∧ m.schemas[d.schema.toNat]? = some fs ∧ fs ∈ m.schemas := by
 unfold Ky at h
 simp only [Bool.or_eq_false_iff, Bool.not_eq_false', decide_eq_true_eq] at h
 obtain ⟨⟨a1, a2⟩, _⟩ := h
 obtain ⟨h1, h2, h3⟩ := DJ a1 a2
 exact ⟨_, h2, h3, List.getElem_mem h1⟩
theorem TD {m : ax} {d : aD} (hm : rl m) (hz : N1 d.ids d.keys) : Bd m d true = some (Rj m d) := by
 unfold Bd Rj
 rw [ki, bS, kX hm.schemas.1, ← dX, ← bC]
 have hj : ∀ x, x = Ky m d → sP m d true x = ee (er (Ky m d) 3) (ee (match m.schemas[d.schema.toNat]? with | some fs => CB fs d.ids d.keys | none => 0) (some 0)) := by
  rintro x rfl
  unfold sP
  rw [dS (by decide)]
  refine eD fun e => ?_
  obtain ⟨fs, h1, h2, h3⟩ := NT ((Cb (by decide)).1 e)
  rw [h1, h2, bS, RT hz (hm.schemas.2 _ h3), dX]
 have hr : Ky m d = Ky m d := rfl
 conv at hr => rhs; unfold Ky
 cases a : decide (0 ≤ d.schema ∧ d.schema ≤ (m.schemas.length : Int) - 1) with
 | false => rw [a] at hr; rw [Bool.not_false, iT]; exact hj true (by rw [hr]; rfl)
 | true => rw [a] at hr; rw [Bool.not_true, iF]; exact hj _ (by rw [hr]; rfl)
theorem TG {m : ax} {d : aD} (hm : rl m) (hz : N1 d.ids d.keys) : tQ m d = some (Rj m d) := by
 unfold tQ Rj
 rw [nJ, bS, kX hm.schemas.1, ← dX, ← bC]
 have hj : ∀ x, x = Ky m d → nk m d x = ee (er (Ky m d) 3) (ee (match m.schemas[d.schema.toNat]? with | some fs => CB fs d.ids d.keys | none => 0) (some 0)) := by
  rintro x rfl
  unfold nk
  rw [dS (by decide)]
  refine eD fun e => ?_
  obtain ⟨fs, h1, h2, h3⟩ := NT ((Cb (by decide)).1 e)
  rw [h1, h2, bS, SI hz (hm.schemas.2 _ h3), bS, dX]
 have hr : Ky m d = Ky m d := rfl
 conv at hr => rhs; unfold Ky
 cases a : decide (0 ≤ d.schema ∧ d.schema ≤ (m.schemas.length : Int) - 1) with
 | false => rw [a] at hr; rw [Bool.not_false, iT]; exact hj true (by rw [hr]; rfl)
 | true => rw [a] at hr; rw [Bool.not_true, iF]; exact hj _ (by rw [hr]; rfl)
def Ip (fs : List ah) (q : Int) : Bool := nY (fun j => match fs[j]? with | some f => decide (f.seq < q) | none => false) fs.length
theorem R5 {fs : List ah} (hn : fs.length < 1000000000) (d : aD) : sW fs d = some (Ip fs d.seq) := by
 unfold sW cr cF
 obtain ⟨r, r1, r2⟩ := FH (L := aT fs d.schema d.ids d.keys d.seq) (n := fs.length) (p := fun j => match fs[j]? with | some f => decide (f.seq < d.seq) | none => false) hn
  (fun k => by rw [aT, rC, iF]; rfl)
  (fun k i hi => by rw [aT, bc hi, iT, aN hi, bS, tj, bS, ar hi hn, List.getElem?_eq_getElem hi])
 rw [r1, bS, bS, r2]; rfl
theorem RL {fs : List ah} (hn : fs.length < 1000000000) (q : Int) : uf fs q = some (Ip fs q) := by
 have key : ∀ (m k i : Nat), i + m = fs.length → m < k → lE fs q k (i : Int) = some (decide (∃ j, j < m ∧ (match fs[i + j]? with | some f => decide (f.seq < q) | none => false) = true)) := by
  intro m
  induction m with
  | zero =>
   intro k i hi hk
   obtain ⟨k, rfl⟩ := fu hk
   rw [lE, Bt (by omega), iF]; simp [we]
  | succ m ih =>
   intro k i hi hk
   obtain ⟨k, rfl⟩ := fu hk
   have h1 : i < fs.length := by omega
   rw [lE, bc h1, iT, aN h1, bS, ar h1 hn]
   cases hd : decide (fs[i].seq < q) with
   | true => rw [iT, decide_eq_true ⟨0, by omega, by rw [Nat.add_zero, List.getElem?_eq_getElem h1]; exact hd⟩]
   | false =>
    rw [iF, ih k (i + 1) (by omega) (by omega)]
    congr 1
    refine decide_eq_decide.2 ⟨fun ⟨j, a, b⟩ => ⟨j + 1, by omega, by rw [← b, show i + (j + 1) = i + 1 + j by omega]⟩, fun ⟨j, a, b⟩ => ?_⟩
    cases j with
    | zero => rw [Nat.add_zero, List.getElem?_eq_getElem h1] at b; simp only at b; rw [hd] at b; cases b
    | succ j => exact ⟨j, by omega, by rw [← b, show i + (j + 1) = i + 1 + j by omega]⟩
 have := key fs.length aX 0 (by omega) (by rw [be]; omega)
 unfold uf
 rw [show ((0 : Nat) : Int) = 0 from rfl] at this
 rw [this]
 congr 1
 refine gn ?_
 unfold Ip
 rw [decide_eq_true_iff, eE]
 simp
noncomputable def Hu (m : ax) (s : aj) (j : Nat) : Int := match s.dby[j]? with
 | some d => n4 (Rj m d) (n4 (er (decide (s.seq < d.seq)) 3) (er ((decide (0 < j) && (match s.dby[j - 1]? with | some p => decide (d.seq < p.seq) | none => false)) || !Ip s.files d.seq) 1))
 | none => 0
theorem JR {m : ax} {s : aj} (hs : HH s) {i : Nat} (hi : i < s.dby.length) (X : Option Int) (O : Option Bool) (ho : O = some (Ip s.files s.dby[i].seq)) :
  al (decide ((0 : Int) < (i : Int))) (aw (at? s.dby (IntKind.i64.wrap ((i : Int) - (1 : Int)))) fun e6 => al (decide (s.dby[i].seq < e6.seq)) (al true (some (1 : Int)) X) (aw O fun r5 => al (!r5) (some (1 : Int)) X)) (aw O fun r6 => al (!r6) (some (1 : Int)) X) =
   ee (er ((decide (0 < i) && (match s.dby[i - 1]? with | some p => decide (s.dby[i].seq < p.seq) | none => false)) || !Ip s.files s.dby[i].seq) 1) X := by
 subst ho
 by_cases h0 : 0 < i
 ·have hi1 : i - 1 < s.dby.length := by omega
  rw [decide_eq_true (show (0 : Int) < (i : Int) by omega), iT, pU hi h0 hs.dby.1, bS, decide_eq_true h0, List.getElem?_eq_getElem hi1, Bool.true_and, bS]
  show _ = ee (er (decide (s.dby[i].seq < s.dby[i - 1].seq) || !Ip s.files s.dby[i].seq) 1) X
  cases decide (s.dby[i].seq < s.dby[i - 1].seq) with
  | true => rfl
  | false => rw [iF, dS (by decide), Bool.false_or]
 ·rw [decide_eq_false (show ¬ (0 : Int) < (i : Int) by omega), iF, decide_eq_false h0, Bool.false_and, Bool.false_or, bS, dS (by decide)]
theorem Ti {s : aj} (hs : HH s) {d : aD} (hd : d ∈ s.dby) : N1 d.ids d.keys := by
 obtain ⟨a, b, c⟩ := hs.dby.2 _ hd
 exact ⟨a, b, c⟩
theorem Sv {m : ax} {s : aj} (hm : rl m) (hs : HH s) : mi m s = some (fe (Hu m s) s.dby.length 0) := by
 unfold mi
 rw [gS (L := eU m s) (n := s.dby.length) (fin := some 0) (c := Hu m s) hs.dby.1
  (fun k => by rw [eU, rC, iF]; rfl)
  (fun k i hi => by
   rw [eU, bc hi, iT, aN hi, bS, TD hm (Ti hs (List.getElem_mem hi)), bS, iI, dS (by decide)]
   unfold Hu
   rw [List.getElem?_eq_getElem hi]
   simp only
   rw [← bC, ← bC]
   refine eD fun _ => eD fun _ => ?_
   unfold mt
   rw [ar hi hs.dby.1]
   exact JR (m := m) hs hi _ _ (R5 hs.files.1 _))]
 exact dX _
theorem RI {m : ax} {s : aj} (hm : rl m) (hs : HH s) : iP m s = some (fe (Hu m s) s.dby.length 0) := by
 unfold iP
 rw [gS (L := cU m s) (n := s.dby.length) (fin := some 0) (c := Hu m s) hs.dby.1
  (fun k => by rw [cU, rC, iF]; rfl)
  (fun k i hi => by
   rw [cU, bc hi, iT, aN hi, bS, TG hm (Ti hs (List.getElem_mem hi)), bS, iI, dS (by decide)]
   unfold Hu
   rw [List.getElem?_eq_getElem hi]
   simp only
   rw [← bC, ← bC]
   refine eD fun _ => eD fun _ => ?_
   unfold iR
   rw [ar hi hs.dby.1]
   exact JR (m := m) hs hi _ _ (RL hs.files.1 _))]
 exact dX _
end Go.Proofs.YtfnmbpecdjncfaaGreatDoor
namespace Go.Proofs.YtfnmbpecdjncfaaGreatDoor
open Go Go.SX Go.SX.Cal
def wi (a b c : Int) : Bool := decide (b ≤ a ∧ a ≤ c)
def At (m : ax) (s : aj) : Bool :=
 !wi s.id 1 (IntKind.i64.wrap (m.nextSnap - 1)) || (!wi s.parent 0 (IntKind.i64.wrap (s.id - 1)) || (!wi s.seq 1 (IntKind.i64.wrap (m.nextSeq - 1)) || (!wi s.schema 0 (IntKind.i64.wrap ((m.schemas.length : Int) - 1)) || (!wi s.time (-62135596800) 253402300799 || !wi s.kind 1 3))))
noncomputable def NW (m : ax) (s : aj) : Int := n4 (fe (NV m s) s.files.length 0) (n4 (fe (Iv s) s.dat.length 0) (fe (Hu m s) s.dby.length 0))
noncomputable def PD (m : ax) (j : Nat) : Int := match m.snapshots[j]? with
 | some s => n4 (er (At m s) 3) (n4 (er (decide (0 < j) && (match m.snapshots[j - 1]? with | some p => decide (s.id ≤ p.id) || decide (s.seq ≤ p.seq) | none => false)) 5) (NW m s))
 | none => 0
theorem FW {m : ax} {j : Nat} (hj : j < m.snapshots.length) : PD m j = n4 (er (At m m.snapshots[j]) 3) (n4 (er (decide (0 < j) && (match m.snapshots[j - 1]? with | some p => decide (m.snapshots[j].id ≤ p.id) || decide (m.snapshots[j].seq ≤ p.seq) | none => false)) 5) (NW m m.snapshots[j])) := by
 unfold PD; rw [List.getElem?_eq_getElem hj]
theorem TV {m : ax} {s : aj} (hm : rl m) (hs : HH s) (X : Option Int) :
  (aw (sK m s) fun r7 => al (r7 != (0 : Int)) (some r7) (aw (pI m s) fun r8 => al (r8 != (0 : Int)) (some r8) X)) = ee (NW m s) X := by
 rw [Oz hm hs, bS, iI]
 unfold NW
 rw [← bC]
 refine eD fun e => ?_
 obtain ⟨ho, _⟩ := F8 hm hs e
 rw [SW hs ho, Sv hm hs, vH, bS, iI]
theorem Qm {m : ax} (hm : rl m) : pK m = some (fe (PD m) m.snapshots.length 0) := by
 unfold pK
 rw [gS (L := bP m) (n := m.snapshots.length) (fin := some 0) (c := PD m) hm.snaps.1
  (fun k => by rw [bP, rC, iF]; rfl)
  (fun k i hi => by
   have hs := hm.snaps.2 _ (List.getElem_mem hi)
   rw [bP, bc hi, iT, aN hi, bS, FW hi]
   generalize hsn : m.snapshots[i] = s at hs
   have hj : ∀ x, x = At m s → gF (bP m k) m (i : Int) s x =
     ee (n4 (er (At m s) 3) (n4 (er (decide (0 < i) && (match m.snapshots[i - 1]? with | some p => decide (s.id ≤ p.id) || decide (s.seq ≤ p.seq) | none => false)) 5) (NW m s))) (bP m k ((i + 1 : Nat) : Int)) := by
    rintro x rfl
    unfold gF kx
    rw [dS (by decide), ← bC, ← bC]
    refine eD fun _ => ?_
    rw [TV hm hs, ar hi hm.snaps.1]
    by_cases h0 : 0 < i
    ·have hi1 : i - 1 < m.snapshots.length := by omega
     rw [decide_eq_true (show (0 : Int) < (i : Int) by omega), iT, pU hi h0 hm.snaps.1, bS, decide_eq_true h0, List.getElem?_eq_getElem hi1, Bool.true_and]
     simp only
     cases decide (s.id ≤ m.snapshots[i - 1].id) with
     | true => rfl
     | false => rw [iF, dS (by decide), Bool.false_or]
    ·rw [decide_eq_false (show ¬ (0 : Int) < (i : Int) by omega), iF, decide_eq_false h0]; rfl
   have hj1 : ∀ x, iZ (bP m k) m (i : Int) s x = gF (bP m k) m (i : Int) s (x || (!wi s.schema 0 (IntKind.i64.wrap ((m.schemas.length : Int) - 1)) || (!wi s.time (-62135596800) 253402300799 || !wi s.kind 1 3))) := by
    intro x
    unfold iZ mI
    cases x with
    | true => rfl
    | false =>
     rw [iF, ki, bS, Bool.false_or]
     show al (!wi s.schema _ _) _ _ = _
     cases wi s.schema 0 (IntKind.i64.wrap ((m.schemas.length : Int) - 1)) with
     | false => rfl
     | true =>
      rw [Bool.not_true, iF, ki, bS, Bool.false_or]
      rw [show decide (-62135596800 ≤ s.time ∧ s.time ≤ 253402300799) = wi s.time (-62135596800) 253402300799 from rfl]
      cases wi s.time (-62135596800) 253402300799 with
      | false => rfl
      | true => rw [Bool.not_true, iF, ki, bS]; rfl
   rw [ki, bS]
   show al (!wi s.id _ _) _ _ = _
   have hr : At m s = At m s := rfl
   conv at hr => rhs; unfold At
   cases a : wi s.id 1 (IntKind.i64.wrap (m.nextSnap - 1)) with
   | false => rw [a] at hr; rw [Bool.not_false, iT, hj1]; exact hj _ (by rw [hr]; rfl)
   | true =>
    rw [a] at hr
    rw [Bool.not_true, iF, ki, bS]
    show al (!wi s.parent _ _) _ _ = _
    cases b : wi s.parent 0 (IntKind.i64.wrap (s.id - 1)) with
    | false => rw [b] at hr; rw [Bool.not_false, iT, hj1]; exact hj _ (by rw [hr]; rfl)
    | true => rw [b] at hr; rw [Bool.not_true, iF, ki, bS, hj1]; exact hj _ (by rw [hr]; rfl))]
 exact dX _
theorem LQ {m : ax} {s : aj} (h : At m s = false) : 1 ≤ s.id ∧ 1 ≤ s.seq := by
 unfold At wi at h
 simp only [Bool.or_eq_false_iff, Bool.not_eq_false', decide_eq_true_eq] at h
 exact ⟨h.1.1, h.2.2.1.1⟩
theorem Oc {m : ax} {s p : aj} (hm : rl m) (hs : HH s) : kq m s p = some (n4 (er (At m s) 3) (n4 (er (decide (s.id ≤ p.id) || decide (s.seq ≤ p.seq)) 5) (NW m s))) := by
 have hj : ∀ x, x = At m s → du m s p x = some (n4 (er (At m s) 3) (n4 (er (decide (s.id ≤ p.id) || decide (s.seq ≤ p.seq)) 5) (NW m s))) := by
  rintro x rfl
  unfold du kL
  refine Eq.trans ?_ (dX _)
  rw [dS (by decide), ← bC, ← bC]
  refine eD fun _ => ?_
  have hin : bJ m s aX (0 : Int) = ee (NW m s) (some 0) := by
   rw [OB hm hs, SK hs, RI hm hs, vH, vH, dX]; rfl
  rw [hin]
  cases decide (s.id ≤ p.id) with
  | true => rfl
  | false => rw [iF, dS (by decide), Bool.false_or]
 unfold kq
 have hr : At m s = At m s := rfl
 conv at hr => rhs; unfold At
 rw [nJ, bS]
 show al (!wi s.id _ _) _ _ = _
 cases a : wi s.id 1 (IntKind.i64.wrap (m.nextSnap - 1)) with
 | false => rw [a] at hr; rw [Bool.not_false, iT]; exact hj _ (by rw [hr]; rfl)
 | true =>
  rw [a] at hr
  rw [Bool.not_true, iF, nJ, bS]
  show al (!wi s.parent _ _) _ _ = _
  cases b : wi s.parent 0 (IntKind.i64.wrap (s.id - 1)) with
  | false => rw [b] at hr; rw [Bool.not_false, iT]; exact hj _ (by rw [hr]; rfl)
  | true =>
   rw [b] at hr
   rw [Bool.not_true, iF, nJ, bS]
   show al (!wi s.seq _ _) _ _ = _
   cases c : wi s.seq 1 (IntKind.i64.wrap (m.nextSeq - 1)) with
   | false => rw [c] at hr; rw [Bool.not_false, iT]; exact hj _ (by rw [hr]; rfl)
   | true =>
    rw [c] at hr
    rw [Bool.not_true, iF, nJ, bS]
    show al (!wi s.schema _ _) _ _ = _
    cases d : wi s.schema 0 (IntKind.i64.wrap ((m.schemas.length : Int) - 1)) with
    | false => rw [d] at hr; rw [Bool.not_false, iT]; exact hj _ (by rw [hr]; rfl)
    | true =>
     rw [d] at hr
     rw [Bool.not_true, iF, nJ, bS]
     show al (!wi s.time _ _) _ _ = _
     cases e : wi s.time (-62135596800) 253402300799 with
     | false => rw [e] at hr; rw [Bool.not_false, iT]; exact hj _ (by rw [hr]; rfl)
     | true => rw [e] at hr; rw [Bool.not_true, iF, nJ, bS]; exact hj _ (by rw [hr]; rfl)
def zS : aj := ⟨0, 0, 0, 0, 0, 0, [], [], []⟩
def IJ (m : ax) (i : Int) : aj := if i ≤ 0 then zS else (m.snapshots[(i - 1).toNat]?).getD zS
theorem Qd {m : ax} (hm : rl m) : j6 m aX (0 : Int) (0 : Int) (0 : Int) (0 : Int) (0 : Int) (0 : Int) [] [] [] (0 : Int) = ee (fe (PD m) m.snapshots.length 0) (pe m) := by
 exact gS (L := fun k i => j6 m k (IJ m i).id (IJ m i).parent (IJ m i).seq (IJ m i).schema (IJ m i).time (IJ m i).kind (IJ m i).files (IJ m i).dat (IJ m i).dby i) (n := m.snapshots.length) (c := PD m) hm.snaps.1
  (fun k => by rw [j6, rC, iF])
  (fun k i hi => by
   have hs := hm.snaps.2 _ (List.getElem_mem hi)
   rw [j6, bc hi, iT, aN hi, bS]
   show aw (kq m m.snapshots[i] (IJ m i)) _ = _
   rw [Oc hm hs, bS, iI, ar hi hm.snaps.1]
   have hp : IJ m ((i + 1 : Nat) : Int) = m.snapshots[i] := by
    unfold IJ
    rw [if_neg (by omega), show (((i + 1 : Nat) : Int) - 1).toNat = i by omega, List.getElem?_eq_getElem hi]; rfl
   rw [hp, FW hi, ← bC, ← bC, ← bC, ← bC]
   refine eD fun e => ?_
   obtain ⟨r1, r2⟩ := LQ ((Cb (by decide)).1 e)
   congr 2
   by_cases h0 : 0 < i
   ·have hi1 : i - 1 < m.snapshots.length := by omega
    rw [decide_eq_true h0, List.getElem?_eq_getElem hi1, Bool.true_and]
    have : IJ m (i : Int) = m.snapshots[i - 1] := by
     unfold IJ
     rw [if_neg (by omega), show ((i : Int) - 1).toNat = i - 1 by omega, List.getElem?_eq_getElem hi1]; rfl
    rw [this]
   ·have : i = 0 := by omega
    subst this
    have hz : IJ m ((0 : Nat) : Int) = zS := rfl
    rw [hz, decide_eq_false h0, Bool.false_and]
    show (decide (m.snapshots[0].id ≤ 0) || decide (m.snapshots[0].seq ≤ 0)) = false
    rw [decide_eq_false (by omega), decide_eq_false (by omega)]; rfl)
theorem CU {m : ax} (hm : rl m) (h : fe (PD m) m.snapshots.length 0 = 0) : ∀ s ∈ m.snapshots, 1 ≤ s.id ∧ Ab s.files ∧ ∀ f ∈ s.files, Ml f := by
 intro s hs
 obtain ⟨i, hi, rfl⟩ := List.mem_iff_getElem.1 hs
 have := Nn.1 h i (Nat.zero_le _) (by omega)
 rw [FW hi, o5, o5] at this
 have hh := this.2.2
 unfold NW at hh
 rw [o5] at hh
 obtain ⟨a, b⟩ := F8 hm (hm.snaps.2 _ hs) hh.1
 exact ⟨(LQ ((Cb (by decide)).1 this.1)).1, a, b⟩
end Go.Proofs.YtfnmbpecdjncfaaGreatDoor
