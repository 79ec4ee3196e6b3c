/- Texts and sound values, in plain terms. Values of a type, in plain terms; the law of Sound and Check. Texts and values of leaves: a list of them is the same as itself. Encode and Decode: the law. Decode; the law. Values and types as they are read. The law of Encode and Decode, at arguments as they are read. -/
import Derived.Test.YtnecojeemmnnaaaGreatDoorLaA
set_option linter.unusedVariables false
set_option linter.unusedSimpArgs false
set_option linter.unnecessarySimpa false
namespace Go.Proofs.YtnecojeemmnnaaaGreatDoor.Ck
open Go Go.SX Go.SX.Cal Go.Lib
mutual
def fI : aa → Nat
 | ⟨_, _, _, s, it⟩ => s.size + pJ it + 1
def pJ : List aa → Nat
 | [] => 0
 | x :: l => fI x + pJ l
end
theorem sizeV_eq : ∀ v : aa, fI v = v.s.size + pJ v.items + 1
 | ⟨_, _, _, _, _⟩ => by simp only [fI]
theorem sizeL_mem : ∀ {l : List aa} {x : aa}, x ∈ l → fI x ≤ pJ l
 | [], _, h => by cases h
 | y :: l, x, h => by
  simp only [pJ]
  rcases List.mem_cons.1 h with rfl | h
  ·omega
  ·have := sizeL_mem h; omega
theorem GC : ∀ v : aa, 1 ≤ fI v
 | ⟨_, _, _, _, _⟩ => by simp only [fI]; omega
theorem sizeL_len : ∀ l : List aa, l.length ≤ pJ l
 | [] => by simp [pJ]
 | x :: l => by
  have := sizeL_len l
  have := GC x
  simp only [pJ, List.length_cons]; omega
theorem yM (b x : Bool) : aq b (some x) (some false) = some (b && x) := by cases b <;> rfl
theorem au {α β : Type} (a : α) (f : α → Option β) : aw (some a) f = f a := rfl
theorem yP {P : Nat → Bool} {n : Nat} : ∀ (d i : Nat), i + d ≤ n → (∀ j, i ≤ j → j < i + d → P j = false) → first P i n = first P (i + d) n
 | 0, i, _, _ => rfl
 | d + 1, i, h, hP => by
  rw [m7 (by omega), hP i (by omega) (by omega)]
  simp only [Bool.false_eq_true, if_false]
  rw [yP d (i + 1) (by omega) (fun j h1 h2 => hP j (by omega) (by omega))]
  congr 1; omega
theorem CQ (s : ByteArray) (i : Nat) (h : i < s.size) (hb : ¬ mS s i < 128) :
  1 ≤ (Utf8.decode s i).2 ∧ i + (Utf8.decode s i).2 ≤ s.size ∧ ∀ j, i ≤ j → j < i + (Utf8.decode s i).2 → 128 ≤ mS s j := by
 have e := yN s i h
 have one : ∀ j, i ≤ j → j < i + 1 → 128 ≤ mS s j := fun j h1 h2 => by
  have : j = i := by omega
  subst this; omega
 have ct : ∀ k, (decide (i + k < s.size) && (s.get! (i + k)).toNat / 64 == 2) = true → i + k < s.size ∧ 128 ≤ mS s (i + k) := by
  intro k hk
  simp only [Bool.and_eq_true, decide_eq_true_eq, beq_iff_eq] at hk
  rw [yN s _ hk.1] at hk
  exact ⟨hk.1, by omega⟩
 unfold Utf8.decode
 simp only [Nat.add_zero, e, if_neg hb]
 split
 ·rename_i h1
  simp only [Bool.and_eq_true] at h1
  obtain ⟨l1, b1⟩ := ct 1 (by simpa using h1.2)
  split
  ·refine ⟨by simp, by simp only; omega, fun j h2 h3 => ?_⟩
   simp only at h3
   by_cases hj : j = i
   ·subst hj; omega
   ·have : j = i + 1 := by omega
    subst this; exact b1
  ·exact ⟨by simp, by simp only; omega, one⟩
 ·split
  ·rename_i h1
   simp only [Bool.and_eq_true] at h1
   obtain ⟨l1, b1⟩ := ct 1 (by simpa using h1.1.2)
   obtain ⟨l2, b2⟩ := ct 2 (by simpa using h1.2)
   split
   ·refine ⟨by simp, by simp only; omega, fun j h2 h3 => ?_⟩
    simp only at h3
    by_cases hj : j = i
    ·subst hj; omega
    ·by_cases hj : j = i + 1
     ·subst hj; exact b1
     ·have : j = i + 2 := by omega
      subst this; exact b2
   ·exact ⟨by simp, by simp only; omega, one⟩
  ·split
   ·rename_i h1
    simp only [Bool.and_eq_true] at h1
    obtain ⟨l1, b1⟩ := ct 1 (by simpa using h1.1.1.2)
    obtain ⟨l2, b2⟩ := ct 2 (by simpa using h1.1.2)
    obtain ⟨l3, b3⟩ := ct 3 (by simpa using h1.2)
    split
    ·refine ⟨by simp, by simp only; omega, fun j h2 h3 => ?_⟩
     simp only at h3
     by_cases hj : j = i
     ·subst hj; omega
     ·by_cases hj : j = i + 1
      ·subst hj; exact b1
      ·by_cases hj : j = i + 2
       ·subst hj; exact b2
       ·have : j = i + 3 := by omega
        subst this; exact b3
    ·exact ⟨by simp, by simp only; omega, one⟩
   ·exact ⟨by simp, by simp only; omega, one⟩
def DT (s : ByteArray) (i : Nat) : Bool := decide (mS s i < 32) || mS s i == 127
theorem D5 (s : ByteArray) : ∀ k i, i ≤ s.size → s.size - i < k → ib s k i = some (first (DT s) i s.size).isNone := by
 intro k
 induction k with
 | zero => intro i _ h; omega
 | succ k ih =>
  intro i hi hk
  rw [ib]
  by_cases h : i = s.size
  ·subst h
   rw [ny]
   simp only [Nat.lt_irrefl, decide_false, aF, rB]
   rfl
  ·have hlt : i < s.size := by omega
   simp only [hlt, decide_true, aS, oQ, bI]
   by_cases hb : mS s i < 128
   ·rw [A3 s i hlt hb, m7 hlt]
    by_cases h1 : mS s i < 32
    ·have : DT s i = true := by simp [DT, h1]
     simp [this, show ((mS s i : Nat) : Int) < 32 by omega]
    ·have e1 : ¬ ((mS s i : Nat) : Int) < 32 := by omega
     by_cases h2 : mS s i = 127
     ·have : DT s i = true := by simp [DT, h2]
      simp [this, h2]
     ·have : DT s i = false := by simp [DT, h1, h2]
      have e2 : ¬ ((mS s i : Nat) : Int) = 127 := by omega
      simp only [this, Int.ofNat_eq_natCast, e1, decide_false, Bool.false_eq_true, if_false, beq_iff_eq, e2]
      exact ih (i + 1) (by omega) (by omega)
   ·have h1 := A2 s i hlt hb
    obtain ⟨h2, h3, h4⟩ := CQ s i hlt hb
    have e1 : ¬ (((Utf8.decode s i).1 : Nat) : Int) < 32 := by omega
    have e2 : ¬ (((Utf8.decode s i).1 : Nat) : Int) = 127 := by omega
    simp only [Int.ofNat_eq_natCast, e1, decide_false, Bool.false_eq_true, if_false, beq_iff_eq, e2]
    rw [ih _ h3 (by omega), yP _ i h3 (fun j a b => by
     have := h4 j a b
     simp only [DT, Bool.or_eq_false_iff, decide_eq_false_iff_not, beq_eq_false_iff_ne]
     omega)]
    simp
theorem EK (s : ByteArray) (hs : s.size < 1000000000) : ∀ k i, i ≤ s.size → s.size - i < k → dF s k (i : Int) = some (first (DT s) i s.size).isNone := by
 intro k
 induction k with
 | zero => intro i _ h; omega
 | succ k ih =>
  intro i hi hk
  rw [dF]
  by_cases h : i = s.size
  ·subst h
   rw [ny]
   simp only [Int.lt_irrefl, decide_false, aF, m6]
   rfl
  ·have hlt : i < s.size := by omega
   have g : (0 : Int) ≤ (i : Int) ∧ (i : Int) < (s.size : Int) := ⟨by omega, by omega⟩
   have e : ((s.data.toList.getD (i : Int).toNat 0).toNat : Int) = (mS s i : Int) := by simp [mS]
   simp only [aU hlt, aS, cr, if_pos g, au, ky, bI, e]
   rw [m7 hlt, al hlt hs]
   by_cases h1 : mS s i < 32
   ·have : DT s i = true := by simp [DT, h1]
    simp [this, show ((mS s i : Nat) : Int) < 32 by omega]
   ·have e1 : ¬ ((mS s i : Nat) : Int) < 32 := by omega
    by_cases h2 : mS s i = 127
    ·have : DT s i = true := by simp [DT, h2]
     simp [this, h2]
    ·have : DT s i = false := by simp [DT, h1, h2]
     have e2 : ¬ ((mS s i : Nat) : Int) = 127 := by omega
     simp only [this, e1, decide_false, Bool.false_eq_true, if_false, beq_iff_eq, e2]
     exact ih (i + 1) (by omega) (by omega)
def qe (s : ByteArray) : Bool := decide (s.size ≤ 256) && (validD s.data.toList && (first (DT s) 0 s.size).isNone)
theorem Jr (s : ByteArray) (hs : s.size < 1000000000) : utf8_ValidString s = some (validD s.data.toList) := by
 unfold utf8_ValidString cr
 rw [if_pos (by omega)]
theorem Oa (s : ByteArray) (hs : s.size < 1000000000) : sG s = some (qe s) := by
 unfold sG o6 qe
 rw [Jr s hs, D5 s aK 0 (by omega) (by rw [bP]; omega)]
 by_cases h : s.size ≤ 256
 ·have : ¬ (256 : Int) < (s.size : Int) := by omega
  simp only [this, h, decide_false, decide_true, aF, au]
  cases validD s.data.toList <;> rfl
 ·have : (256 : Int) < (s.size : Int) := by omega
  simp only [this, h, decide_false, decide_true, aS]
  rfl
theorem M1 (s : ByteArray) (hs : s.size < 1000000000) : m0 s = some (qe s) := by
 have := EK s hs aK 0 (by omega) (by rw [bP]; omega)
 unfold m0 kJ qe
 rw [Jr s hs, show (0 : Int) = ((0 : Nat) : Int) from rfl, this]
 by_cases h : s.size ≤ 256
 ·have e : ¬ (256 : Int) < (s.size : Int) := by omega
  simp only [e, h, decide_false, decide_true, au]
  cases validD s.data.toList <;> rfl
 ·have e : (256 : Int) < (s.size : Int) := by omega
  simp only [e, h, decide_false, decide_true, au]
  cases validD s.data.toList <;> rfl
theorem KY (a b c : Int) : jI a b c = some (decide (b ≤ a) && decide (a ≤ c)) := by
 unfold jI mZ; exact yM _ _
theorem F1 (a b c : Int) : fM a b c = some (decide (b ≤ a) && decide (a ≤ c)) := by
 unfold fM lB; exact yM _ _
def eX (v : aa) : Bool :=
 let bare := v.n == 0 && v.scale == 0
 let rE := decide (v.s.size = 0)
 let noI := ((v.items.length : Int) == 0)
 if v.kind = 0 then bare && (rE && noI)
 else if v.kind = 1 then (decide (0 ≤ v.n) && decide (v.n ≤ 1)) && (v.scale == 0 && (rE && noI))
 else if v.kind = 2 then (decide (-999999999999999999 ≤ v.n) && decide (v.n ≤ 999999999999999999)) && (v.scale == 0 && (rE && noI))
 else if v.kind = 3 then (decide (-999999999999999999 ≤ v.n) && decide (v.n ≤ 999999999999999999)) && ((decide (0 ≤ v.scale) && decide (v.scale ≤ 12)) && (rE && noI))
 else if v.kind = 4 then bare && (qe v.s && noI)
 else if v.kind = 5 then (decide (-62135596800 ≤ v.n) && decide (v.n ≤ 253402300799)) && (v.scale == 0 && (rE && noI))
 else if v.kind = 6 then bare && (rE && decide ((v.items.length : Int) ≤ 64))
 else if v.kind = 7 then bare && (rE && decide ((0 : Int) < (v.items.length : Int)))
 else false
theorem Mm (v : aa) (hs : v.s.size < 1000000000) : qZ v = some (eX v) := by
 have j : ∀ x, lw v x = some (if v.kind = 0 then x && (decide (v.s.size = 0) && ((v.items.length : Int) == 0))
   else if v.kind = 1 then (decide (0 ≤ v.n) && decide (v.n ≤ 1)) && (v.scale == 0 && (decide (v.s.size = 0) && ((v.items.length : Int) == 0)))
   else if v.kind = 2 then (decide (-999999999999999999 ≤ v.n) && decide (v.n ≤ 999999999999999999)) && (v.scale == 0 && (decide (v.s.size = 0) && ((v.items.length : Int) == 0)))
   else if v.kind = 3 then (decide (-999999999999999999 ≤ v.n) && decide (v.n ≤ 999999999999999999)) && ((decide (0 ≤ v.scale) && decide (v.scale ≤ 12)) && (decide (v.s.size = 0) && ((v.items.length : Int) == 0)))
   else if v.kind = 4 then x && (qe v.s && ((v.items.length : Int) == 0))
   else if v.kind = 5 then (decide (-62135596800 ≤ v.n) && decide (v.n ≤ 253402300799)) && (v.scale == 0 && (decide (v.s.size = 0) && ((v.items.length : Int) == 0)))
   else if v.kind = 6 then x && (decide (v.s.size = 0) && decide ((v.items.length : Int) ≤ 64))
   else if v.kind = 7 then x && (decide (v.s.size = 0) && decide ((0 : Int) < (v.items.length : Int)))
   else false) := by
  intro x
  unfold lw lr kb ka j9 lQ j8 lx lM
  simp only [KY, Oa v.s hs, au, yM, p7]
  simp only [bI, beq_iff_eq]
  repeat' split
  all_goals (first | rfl | simp_all)
 unfold qZ
 rw [j, j]
 unfold eX
 cases v.n == 0
 ·simp only [aF, Bool.false_and]
 ·simp only [aS, Bool.true_and]
theorem M6 (v : aa) (hs : v.s.size < 1000000000) : s4 v = some (eX v) := by
 have j : ∀ x, mJ v x = some (if v.kind = 0 then x && (v.n == 0 && v.scale == 0)
   else if v.kind = 1 then x && ((decide (0 ≤ v.n) && decide (v.n ≤ 1)) && v.scale == 0)
   else if v.kind = 2 then x && ((decide (-999999999999999999 ≤ v.n) && decide (v.n ≤ 999999999999999999)) && v.scale == 0)
   else if v.kind = 3 then x && ((decide (-999999999999999999 ≤ v.n) && decide (v.n ≤ 999999999999999999)) && (decide (0 ≤ v.scale) && decide (v.scale ≤ 12)))
   else if v.kind = 4 then ((v.items.length : Int) == 0) && (v.n == 0 && (v.scale == 0 && qe v.s))
   else if v.kind = 5 then x && ((decide (-62135596800 ≤ v.n) && decide (v.n ≤ 253402300799)) && v.scale == 0)
   else if v.kind = 6 then decide (v.s.size = 0) && (v.n == 0 && (v.scale == 0 && decide ((v.items.length : Int) ≤ 64)))
   else if v.kind = 7 then decide (v.s.size = 0) && (v.n == 0 && (v.scale == 0 && decide ((0 : Int) < (v.items.length : Int))))
   else false) := by
  intro x
  unfold mJ mA mm my mB lf ml lj ld
  simp only [F1, M1 v.s hs, au, yM, p7]
  simp only [bI, beq_iff_eq]
  repeat' split
  all_goals (first | rfl | simp_all)
 unfold s4
 rw [j, j, p7]
 unfold eX
 generalize decide (v.s.size = 0) = a
 generalize ((v.items.length : Int) == 0) = b
 generalize qe v.s = t
 generalize (v.n == 0) = c
 generalize (v.scale == 0) = d
 generalize (decide (0 ≤ v.n) && decide (v.n ≤ 1)) = e1
 generalize (decide (-999999999999999999 ≤ v.n) && decide (v.n ≤ 999999999999999999)) = e2
 generalize (decide (0 ≤ v.scale) && decide (v.scale ≤ 12)) = e3
 generalize (decide (-62135596800 ≤ v.n) && decide (v.n ≤ 253402300799)) = e4
 generalize decide ((v.items.length : Int) ≤ 64) = e5
 generalize decide ((0 : Int) < (v.items.length : Int)) = e6
 cases a <;> simp only [aF, aS] <;> congr 1 <;> repeat' split
 all_goals (first | rfl | (cases b <;> cases c <;> cases d <;> simp <;> done) | (simp [Bool.and_comm, Bool.and_assoc, Bool.and_left_comm]))
def lP (f : aa → Int → Bool × Int) : List aa → Int → Bool × Int
 | [], z => (true, z)
 | v :: l, z => if (f v z).1 = true then lP f l (f v z).2 else (false, (f v z).2)
def yF (v : aa) (z : Int) : Int := if v.kind = 0 then z else z + 1
def jc : Nat → aa → Int → Bool × Int
 | 0, v, z => (false, yF v z)
 | d + 1, v, z => if 256 < yF v z ∨ eX v = false then (false, yF v z) else lP (jc d) v.items (yF v z)
def tG (v : aa) : Bool := (jc 4 v 0).1
theorem AX {f : aa → Int → Bool × Int} : ∀ {l : List aa} {z : Int}, (∀ v ∈ l, ∀ z, 0 ≤ z → z ≤ 256 → 0 ≤ (f v z).2 ∧ (f v z).2 ≤ 257 ∧ ((f v z).1 = true → (f v z).2 ≤ 256)) → 0 ≤ z → z ≤ 256 →
  0 ≤ (lP f l z).2 ∧ (lP f l z).2 ≤ 257 ∧ ((lP f l z).1 = true → (lP f l z).2 ≤ 256)
 | [], z, _, h0, h1 => by simp only [lP]; omega
 | v :: l, z, hf, h0, h1 => by
  obtain ⟨a, b, c⟩ := hf v (by simp) z h0 h1
  simp only [lP]
  split
  ·rename_i h
   exact AX (fun x hx => hf x (by simp [hx])) a (c h)
  ·exact ⟨a, b, fun h => by cases h⟩
theorem xD : ∀ (d : Nat) (v : aa) (z : Int), 0 ≤ z → z ≤ 256 → 0 ≤ (jc d v z).2 ∧ (jc d v z).2 ≤ 257 ∧ ((jc d v z).1 = true → (jc d v z).2 ≤ 256)
 | 0, v, z, h0, h1 => by
  have hc : z ≤ yF v z ∧ yF v z ≤ z + 1 := by unfold yF; split <;> omega
  simp only [jc]
  exact ⟨by omega, by omega, fun h => by cases h⟩
 | d + 1, v, z, h0, h1 => by
  have hc : z ≤ yF v z ∧ yF v z ≤ z + 1 := by unfold yF; split <;> omega
  simp only [jc]
  split
  ·exact ⟨by omega, by omega, fun h => by cases h⟩
  ·rename_i h
   have : ¬ 256 < yF v z := fun e => h (.inl e)
   exact AX (fun x _ => xD d x) (by omega) (by omega)
theorem wV (v : aa) (z : Int) (h0 : 0 ≤ z) (h1 : z ≤ 256) {β : Type} (f : Int → Option β) : aq (v.kind != (0 : Int)) (f (IntKind.i64.wrap (z + 1))) (f z) = f (yF v z) := by
 rw [hJ (by omega) (by omega)]
 unfold yF
 by_cases h : v.kind = 0
 ·simp [h, bI]
 ·simp [h, bI]
theorem CZ {d : Nat} (l : Int) (q : aa → Int → Int → Option (Bool × Int)) (xs : List aa) (hl : xs.length < 1000000000)
  (hq : ∀ v ∈ xs, ∀ z, 0 ≤ z → z ≤ 256 → q v l z = some (!(jc d v z).1, (jc d v z).2)) : ∀ (k i : Nat) (z : Int), i ≤ xs.length → xs.length - i < k → 0 ≤ z → z ≤ 256 →
  ∃ r : Int, aG q xs l k z (i : Int) = some (r, (lP (jc d) (xs.drop i) z).2) ∧ decide (0 ≤ r) = !(lP (jc d) (xs.drop i) z).1 := by
 intro k
 induction k with
 | zero => intro i z _ h; omega
 | succ k ih =>
  intro i z hi hk h0 h1
  rw [aG]
  by_cases h : i = xs.length
  ·subst h
   simp only [Int.lt_irrefl, decide_false, aF, List.drop_length, lP, bQ]
   exact ⟨-1, rfl, rfl⟩
  ·have hlt : i < xs.length := by omega
   have hm : xs[i] ∈ xs := List.getElem_mem hlt
   simp only [aU hlt, aS, aH hlt, au, hq _ hm z h0 h1]
   rw [List.drop_eq_getElem_cons hlt]
   simp only [lP]
   obtain ⟨a, b, c⟩ := xD d xs[i] z h0 h1
   cases hs : (jc d xs[i] z).1 with
   | false =>
    simp only [Bool.not_false, aS, Bool.false_eq_true, if_false]
    exact ⟨_, rfl, by simp⟩
   | true =>
    simp only [Bool.not_true, aF, if_true]
    rw [al hlt hl]
    exact ih (i + 1) _ (by omega) (by omega) a (c hs)
theorem GH : ∀ (d k : Nat) (v : aa) (z : Int), d ≤ 4 → 4 * d + 4 ≤ k → fI v < 1000000000 → 0 ≤ z → z ≤ 256 → kv k v (5 - d : Int) z = some (jc d v z) := by
 intro d
 induction d with
 | zero =>
  intro k v z _ hk hs h0 h1
  obtain ⟨k, rfl⟩ : ∃ q, k = q + 1 := ⟨k - 1, by omega⟩
  rw [kv, wV v z h0 h1]
  unfold lA kh
  simp [jc, aS]
 | succ d ih =>
  intro k v z hd hk hs h0 h1
  obtain ⟨k, rfl⟩ : ∃ q, k = q + 4 := ⟨k - 4, by omega⟩
  have hsz := sizeV_eq v
  have hlen := sizeL_len v.items
  rw [kv, wV v z h0 h1]
  unfold lA kh
  rw [Mm v (by omega)]
  have e4 : ¬ (4 : Int) < 5 - ((d + 1 : Nat) : Int) := by omega
  have hc : z ≤ yF v z ∧ yF v z ≤ z + 1 := by unfold yF; split <;> omega
  simp only [e4, decide_false, aF, jc, au]
  by_cases h2 : (256 : Int) < yF v z
  ·simp [h2, aS]
  ·cases hp : eX v with
   | false => simp [h2, aS, aF]
   | true =>
    simp only [h2, decide_false, aF, Bool.not_true, false_or, Bool.true_eq_false, if_false]
    have := CZ (d := d) (5 - ((d + 1 : Nat) : Int)) (iR (k + 1)) v.items (by omega) (by
     intro x hx z h0 h1
     have := sizeL_mem hx
     rw [iR, hJ (by omega) (by omega), show (5 - ((d + 1 : Nat) : Int) + 1) = 5 - (d : Int) by omega, ih k x z (by omega) (by omega) (by omega) h0 h1]
     rfl) aK 0 (yF v z) (by omega) (by rw [bP]; omega) (by omega) (by omega)
    obtain ⟨r, e1, e2⟩ := this
    rw [show ((0 : Nat) : Int) = (0 : Int) from rfl] at e1
    rw [aA, ba, e1]
    simp only [au, e2, List.drop_zero, Bool.not_not]
theorem B5 (v : aa) (hs : fI v < 1000000000) : qX v = some (tG v) := by
 unfold qX tG
 have := GH 4 aK v 0 (by omega) (by rw [bP]; omega) hs (by omega) (by omega)
 rw [show (5 - ((4 : Nat) : Int)) = (1 : Int) from rfl] at this
 rw [this]; rfl
theorem Ch {d : Nat} (l : Int) (hl0 : 0 ≤ l) (hl1 : l ≤ 100) (q : aa → Int → Int → Option (Bool × Int)) (v : aa) (hl : v.items.length < 1000000000)
  (hq : ∀ x ∈ v.items, ∀ z, 0 ≤ z → z ≤ 256 → q x (l + 1) z = some (jc d x z)) : ∀ (k i : Nat) (z : Int), i ≤ v.items.length → v.items.length - i < k → 0 ≤ z → z ≤ 256 →
  jY q v l k z (i : Int) = some (lP (jc d) (v.items.drop i) z) := by
 intro k
 induction k with
 | zero => intro i z _ h; omega
 | succ k ih =>
  intro i z hi hk h0 h1
  rw [jY]
  by_cases h : i = v.items.length
  ·subst h
   simp only [Int.lt_irrefl, decide_false, aF, List.drop_length, lP, rt]
  ·have hlt : i < v.items.length := by omega
   have hm : v.items[i] ∈ v.items := List.getElem_mem hlt
   rw [hJ (x := l + 1) (by omega) (by omega)]
   simp only [aU hlt, aS, aH hlt, au, hq _ hm z h0 h1]
   rw [List.drop_eq_getElem_cons hlt]
   simp only [lP]
   obtain ⟨a, b, c⟩ := xD d v.items[i] z h0 h1
   cases hs : (jc d v.items[i] z).1 with
   | false => simp only [Bool.not_false, aS, Bool.false_eq_true, if_false]
   | true =>
    simp only [Bool.not_true, aF, if_true]
    rw [al hlt hl]
    exact ih (i + 1) _ (by omega) (by omega) a (c hs)
theorem Gq : ∀ (d k : Nat) (v : aa) (z : Int), d ≤ 4 → d + 1 ≤ k → fI v < 1000000000 → 0 ≤ z → z ≤ 256 → gZ k v (5 - d : Int) z = some (jc d v z) := by
 intro d
 induction d with
 | zero =>
  intro k v z _ hk hs h0 h1
  obtain ⟨k, rfl⟩ : ∃ q, k = q + 1 := ⟨k - 1, by omega⟩
  rw [gZ, wV v z h0 h1]
  unfold mC lh
  simp [jc, aS]
 | succ d ih =>
  intro k v z hd hk hs h0 h1
  obtain ⟨k, rfl⟩ : ∃ q, k = q + 1 := ⟨k - 1, by omega⟩
  have hsz := sizeV_eq v
  have hlen := sizeL_len v.items
  rw [gZ, wV v z h0 h1]
  unfold mC lh
  rw [M6 v (by omega)]
  have e4 : ¬ (4 : Int) < 5 - ((d + 1 : Nat) : Int) := by omega
  have hc : z ≤ yF v z ∧ yF v z ≤ z + 1 := by unfold yF; split <;> omega
  simp only [e4, decide_false, aF, jc, au]
  by_cases h2 : (256 : Int) < yF v z
  ·simp [h2, aS]
  ·cases hp : eX v with
   | false => simp [h2, aS, aF]
   | true =>
    simp only [h2, decide_false, aF, Bool.not_true, false_or, Bool.true_eq_false, if_false]
    have := Ch (d := d) (5 - ((d + 1 : Nat) : Int)) (by omega) (by omega) (gZ k) v (by omega) (by
     intro x hx z h0 h1
     have := sizeL_mem hx
     rw [show (5 - ((d + 1 : Nat) : Int) + 1) = 5 - (d : Int) by omega]
     exact ih k x z (by omega) (by omega) (by omega) h0 h1) aK 0 (yF v z) (by omega) (by rw [bP]; omega) (by omega) (by omega)
    rw [show ((0 : Nat) : Int) = (0 : Int) from rfl, List.drop_zero] at this
    exact this
theorem M8 (v : aa) (hs : fI v < 1000000000) : sH v = some (tG v) := by
 unfold sH tG
 have := Gq 4 aK v 0 (by omega) (by rw [bP]; omega) hs (by omega) (by omega)
 rw [show (5 - ((4 : Nat) : Int)) = (1 : Int) from rfl] at this
 rw [this]; rfl
end Go.Proofs.YtnecojeemmnnaaaGreatDoor.Ck
namespace Go.Proofs.YtnecojeemmnnaaaGreatDoor.Ck
open Go Go.SX Go.SX.Cal Go.Lib
def El (d : Nat) (v : aa) : Prop := ∃ z, (jc d v z).1 = true
theorem yW {f : aa → Int → Bool × Int} : ∀ {l : List aa} {z : Int}, (lP f l z).1 = true → ∀ x ∈ l, ∃ z', (f x z').1 = true
 | [], _, _, x, hx => by cases hx
 | v :: l, z, h, x, hx => by
  simp only [lP] at h
  by_cases hv : (f v z).1 = true
  ·rw [if_pos hv] at h
   rcases List.mem_cons.1 hx with rfl | hx
   ·exact ⟨z, hv⟩
   ·exact yW h x hx
  ·rw [if_neg hv] at h; cases h
theorem El.zero {v : aa} (h : El 0 v) : False := by obtain ⟨z, h⟩ := h; cases h
theorem El.succ {d : Nat} {v : aa} (h : El (d + 1) v) : eX v = true ∧ ∀ x ∈ v.items, El d x := by
 obtain ⟨z, h⟩ := h
 simp only [jc] at h
 by_cases hc : 256 < yF v z ∨ eX v = false
 ·rw [if_pos hc] at h; cases h
 ·rw [if_neg hc] at h
  refine ⟨?_, fun x hx => yW h x hx⟩
  cases hp : eX v with
  | true => rfl
  | false => exact absurd (.inr hp) hc
theorem DG {v : aa} (h : eX v = true) (hk : v.kind ≠ 3) : v.scale = 0 := by
 unfold eX at h
 simp only at h
 split at h
 ·simp at h; exact h.1.2
 ·split at h
  ·simp at h; exact h.2.1
  ·split at h
   ·simp at h; exact h.2.1
   ·split at h
    ·simp at h; exact h.1.2
    ·split at h
     ·simp at h; exact h.2.1
     ·split at h
      ·simp at h; exact h.1.2
      ·split at h
       ·simp at h; exact h.1.2
       ·cases h
theorem pd {v : aa} (h : eX v = true) (h6 : v.kind ≠ 6) (h7 : v.kind ≠ 7) : v.items = [] := by
 unfold eX at h
 simp only at h
 rw [← List.length_eq_zero_iff]
 split at h
 ·simp at h; simp [h.2.2]
 ·split at h
  ·simp at h; simp [h.2.2.2]
  ·split at h
   ·simp at h; simp [h.2.2.2]
   ·split at h
    ·simp at h; simp [h.2.2.2]
    ·split at h
     ·simp at h; simp [h.2.2]
     ·split at h
      ·simp at h; simp [h.2.2.2]
      ·cases h
theorem V.sh {t : ae} (h : V t) : shp t = 0 := by cases h; assumption
theorem V.fs {t : ae} (h : V t) : ∀ f, f ∈ t.fields → V f.type := by cases h; assumption
theorem V.scale {t : ae} (h : V t) (hk : t.kind ≠ 3) : t.scale = 0 := by
 have := h.sh
 unfold shp at this
 split at this
 ·cases this
 ·by_cases h2 : zj t
  ·rw [if_pos h2] at this; cases this
  ·by_cases hs : t.scale = 0
   ·exact hs
   ·exact absurd ⟨hs, .inl hk⟩ h2
theorem V.list {t : ae} (h : V t) (hk : t.kind = 6) : t.fields.length = 1 := by
 have := h.sh
 unfold shp at this
 split at this
 ·cases this
 ·by_cases h2 : zj t
  ·rw [if_pos h2] at this; cases this
  ·rw [if_neg h2] at this
   unfold vf at this
   rw [if_pos hk] at this
   split at this
   ·cases this
   ·rename_i h3
    by_cases hl : t.fields.length = 1
    ·exact hl
    ·exact absurd (.inl hl) h3
def ft (t : ae) (i : Nat) : ae := (t.fields[if t.kind = 6 then 0 else i]?.map (·.type)).getD ⟨0, 0, []⟩
def nd (t : ae) (i : Nat) : Bool := (t.fields[if t.kind = 6 then 0 else i]?.map (·.need)).getD false
def iv (v : aa) (i : Nat) : aa := v.items[i]?.getD ⟨0, 0, 0, ByteArray.empty, []⟩
theorem AZ {v : aa} {i : Nat} (h : i < v.items.length) : v.items[i] = iv v i := by simp [iv, h]
def Ce : Nat → ae → aa → Bool
 | 0, _, _ => true
 | d + 1, t, v =>
  if v.kind = 0 then true
  else if v.kind ≠ t.kind then false
  else if v.kind = 3 then v.scale == t.scale
  else if v.kind = 7 ∧ t.fields.length ≠ v.items.length then false
  else (first (fun i => !Ce d (ft t i) (iv v i)) 0 v.items.length).isNone
def O1 (t : ae) (v : aa) : Prop := ∀ i, i < v.items.length → (if t.kind = 6 then 0 else i) < t.fields.length
theorem Mk {d : Nat} {t : ae} {v : aa} (hs : El (d + 1) v) (ht : V t) (h : Ce (d + 1) t v = true) : O1 t v ∧ ∀ i, i < v.items.length → Ce d (ft t i) (iv v i) = true := by
 obtain ⟨hp, _⟩ := hs.succ
 by_cases h67 : v.kind = 6 ∨ v.kind = 7
 ·simp only [Ce] at h
  rw [if_neg (by omega)] at h
  by_cases hk : v.kind = t.kind
  ·rw [if_neg (fun hh => hh hk), if_neg (by omega)] at h
   by_cases hl : v.kind = 7 ∧ t.fields.length ≠ v.items.length
   ·rw [if_pos hl] at h; cases h
   ·rw [if_neg hl] at h
    have hn := Option.isNone_iff_eq_none.1 h
    rw [oC] at hn
    refine ⟨fun i hi => ?_, fun i hi => by simpa using hn i (Nat.zero_le _) hi⟩
    by_cases h6 : t.kind = 6
    ·rw [if_pos h6, ht.list h6]; omega
    ·rw [if_neg h6]
     have : ¬ t.fields.length ≠ v.items.length := fun hh => hl ⟨by omega, hh⟩
     omega
  ·rw [if_pos hk] at h; cases h
 ·have : v.items = [] := pd hp (by omega) (by omega)
  refine ⟨fun i hi => ?_, fun i hi => ?_⟩
  ·rw [this] at hi; simp at hi
  ·rw [this] at hi; simp at hi
theorem Ic {t : ae} {i : Nat} (h : (if t.kind = 6 then 0 else i) < t.fields.length) : ∃ f : aV, f ∈ t.fields ∧ t.fields[if t.kind = 6 then 0 else i]? = some f ∧ f.type = ft t i ∧ f.need = nd t i := by
 refine ⟨t.fields[if t.kind = 6 then 0 else i], List.getElem_mem h, List.getElem?_eq_getElem h, ?_, ?_⟩
 ·unfold ft; rw [List.getElem?_eq_getElem h]; rfl
 ·unfold nd; rw [List.getElem?_eq_getElem h]; rfl
theorem sy {α : Type} {xs : List α} {i : Nat} {x : α} (h : xs[i]? = some x) : at? xs (i : Int) = some x := by unfold at?; simp [h]
theorem xR {v : aa} {i : Nat} (h : i < v.items.length) : iv v i ∈ v.items := by rw [← AZ h]; exact List.getElem_mem h
theorem of_eq : ∀ (d k k' : Nat) (t : ae) (v : aa), El d v → V t → fI v < 1000000000 → gR t < 1000000000 → 4 * d + 1 ≤ k → d + 1 ≤ k' →
  oc k t v = some (Ce d t v) ∧ gO k' t v = some (Ce d t v) := by
 intro d
 induction d with
 | zero => intro k k' t v hs; exact hs.zero.elim
 | succ d ih =>
  intro k k' t v hs ht hv hT hk hk'
  obtain ⟨k, rfl⟩ : ∃ q, k = q + 4 := ⟨k - 4, by omega⟩
  obtain ⟨k', rfl⟩ : ∃ q, k' = q + 1 := ⟨k' - 1, by omega⟩
  obtain ⟨hp, hi⟩ := hs.succ
  have hsz := sizeV_eq v
  have hlen := sizeL_len v.items
  have hsT := wO t
  have hlF := xq t.fields
  rw [oc, gO]
  simp only [Ce, sB]
  by_cases h0 : v.kind = 0
  ·simp [h0, bI]
  ·by_cases hkk : v.kind = t.kind
   ·have sc : v.kind ≠ 3 → v.scale = t.scale := fun h => by rw [DG hp h, ht.scale (by omega)]
    -- the items
    have room : ¬ (v.kind = 7 ∧ t.fields.length ≠ v.items.length) → O1 t v := by
     intro hn i hi
     by_cases h6 : t.kind = 6
     ·rw [if_pos h6, ht.list h6]; omega
     ·rw [if_neg h6]
      by_cases h7 : v.kind = 7
      ·have : ¬ t.fields.length ≠ v.items.length := fun hh => hn ⟨h7, hh⟩
       omega
      ·rw [pd hp (by omega) h7] at hi; simp at hi
    have sub : O1 t v → ∀ i, i < v.items.length → ∃ f : aV, t.fields[if t.kind = 6 then 0 else i]? = some f ∧ f.type = ft t i ∧ oc k (ft t i) (iv v i) = some (Ce d (ft t i) (iv v i)) ∧ gO k' (ft t i) (iv v i) = some (Ce d (ft t i) (iv v i)) := by
     intro hf i hi'
     obtain ⟨f, f1, f2, f3, _⟩ := Ic (hf i hi')
     have m1 := sizeL_mem (xR hi')
     have m2 := p6 f1
     have m3 := ov f
     rw [f3] at m3
     obtain ⟨a, b⟩ := ih k k' (ft t i) (iv v i) (hi _ (xR hi')) (by rw [← f3]; exact ht.fs f f1) (by omega) (by omega) (by omega) (by omega)
     exact ⟨f, f2, f3, a, b⟩
    have ref : O1 t v → gg (gO k') t v aK (0 : Int) = some (first (fun i => !Ce d (ft t i) (iv v i)) 0 v.items.length).isNone := by
     intro hf
     have := nf (f := fun k i => gg (gO k') t v k (i : Int)) (n := v.items.length) (P := fun i => !Ce d (ft t i) (iv v i)) (A := fun _ => some false) (B := some true) (fun kk i hi' => by
      obtain ⟨f, f2, f3, _, f5⟩ := sub hf i hi'
      simp only [gg, aU hi', aS, sR]
      have e : aq (t.kind == (6 : Int)) (aw (at? t.fields (0 : Int)) fun e1 => aw (at? v.items (i : Int)) fun e2 => aw (gO k' e1.type e2) fun r1 => aq (!r1) (some false) (gg (gO k') t v kk (IntKind.i64.wrap ((i : Int) + 1))))
        (aw (at? t.fields (i : Int)) fun e1 => aw (at? v.items (i : Int)) fun e2 => aw (gO k' e1.type e2) fun r1 => aq (!r1) (some false) (gg (gO k') t v kk (IntKind.i64.wrap ((i : Int) + 1)))) =
        (aw (at? t.fields ((if t.kind = 6 then 0 else i : Nat) : Int)) fun e1 => aw (at? v.items (i : Int)) fun e2 => aw (gO k' e1.type e2) fun r1 => aq (!r1) (some false) (gg (gO k') t v kk (IntKind.i64.wrap ((i : Int) + 1)))) := by
       by_cases h6 : t.kind = 6 <;> simp [h6, bI]
      rw [e, sy f2, au, aH hi', au, f3, AZ hi', f5, au, al hi' (by omega), bI]) (fun kk => by simp [gg, bI, wc]) aK 0 (Nat.zero_le _) (by rw [bP]; omega)
     rw [show ((0 : Nat) : Int) = (0 : Int) from rfl] at this
     rw [this]
     cases first (fun i => !Ce d (ft t i) (iv v i)) 0 v.items.length <;> rfl
    have e0 : (v.kind == (0 : Int)) = false := by simp [h0]
    have e1 : (v.kind != t.kind) = false := by simp [hkk]
    have e2 : ¬ v.kind ≠ t.kind := fun h => h hkk
    simp only [e0, e1, e2, aF, h0, if_false]
    by_cases h3 : v.kind = 3
    ·have hni : v.items = [] := pd hp (by omega) (by omega)
     refine ⟨by simp [h3, bI], ?_⟩
     have hr := ref (fun i hi => by rw [hni] at hi; simp at hi)
     rw [hni] at hr
     simp only [List.length_nil, ny, Option.isNone_none] at hr
     simp only [h3, if_true, oH]
     by_cases hsc : v.scale = t.scale
     ·have : t.kind ≠ 7 := by omega
      simp [hsc, bI, hr, this]
     ·simp [hsc, bI]
    ·have hsc := sc h3
     have e3 : (v.kind == (3 : Int)) = false := by simp [h3]
     have e4 : (v.scale != t.scale) = false := by simp [hsc]
     simp only [e3, e4, aF, h3, if_false]
     by_cases hl : v.kind = 7 ∧ t.fields.length ≠ v.items.length
     ·have e6 : (v.kind == (6 : Int)) = false := by simp [hl.1]
      have e7 : (v.kind == (7 : Int)) = true := by simp [hl.1]
      have t7 : (t.kind == (7 : Int)) = true := by rw [← hkk]; exact e7
      have n1 : ((t.fields.length : Int) != (v.items.length : Int)) = true := by simp; omega
      have n2 : ((v.items.length : Int) != (t.fields.length : Int)) = true := by simp; omega
      rw [aB]
      simp [e6, e7, t7, n1, n2, hl, aS, aF, oH, au]
     ·have hf := room hl
      have hr := ref hf
      simp only [hl, if_false]
      refine ⟨?_, ?_⟩
      ·by_cases h6 : v.kind = 6
       ·have e6 : (v.kind == (6 : Int)) = true := by simp [h6]
        have t6 : t.kind = 6 := by omega
        have := nf (f := fun kk i => aC (kF (k + 1)) v.items t.kind t.scale t.fields kk (i : Int)) (n := v.items.length) (P := fun i => !Ce d (ft t i) (iv v i)) (A := fun i => some (i : Int)) (B := some (-1)) (fun kk i hi' => by
         obtain ⟨f, f2, f3, f4, _⟩ := sub hf i hi'
         rw [if_pos t6] at f2
         simp only [aC, aU hi', aS, aH hi', au, kF]
         rw [show (0 : Int) = ((0 : Nat) : Int) from rfl, sy f2, au, f3, AZ hi', f4, au, au, al hi' (by omega), bI]) (fun kk => by simp [aC, bI, cc]) aK 0 (Nat.zero_le _) (by rw [bP]; omega)
        rw [show ((0 : Nat) : Int) = (0 : Int) from rfl] at this
        rw [e6, aS, bb, bk, this]
        cases first (fun i => !Ce d (ft t i) (iv v i)) 0 v.items.length <;> simp [au]
       ·have e6 : (v.kind == (6 : Int)) = false := by simp [h6]
        by_cases h7 : v.kind = 7
        ·have e7 : (v.kind == (7 : Int)) = true := by simp [h7]
         have hlen' : t.fields.length = v.items.length := by
          by_cases hh : t.fields.length = v.items.length
          ·exact hh
          ·exact absurd ⟨h7, hh⟩ hl
         have n1 : ((t.fields.length : Int) != (v.items.length : Int)) = false := by simp; omega
         have := nf (f := fun kk i => ah (ni (k + 2)) t.fields v.items kk (i : Int)) (n := v.items.length) (P := fun i => !Ce d (ft t i) (iv v i)) (A := fun _ => some false) (B := some true) (fun kk i hi' => by
          obtain ⟨f, f2, f3, _, _⟩ := sub hf i hi'
          obtain ⟨f', f1', f2', f3', _⟩ := Ic (hf i hi')
          have m1 := sizeL_mem (xR hi')
          have m2 := p6 f1'
          have m3 := ov f'
          rw [f3'] at m3
          have f4 := (ih (k + 1) (d + 1) (ft t i) (iv v i) (hi _ (xR hi')) (by rw [← f3']; exact ht.fs f' f1') (by omega) (by omega) (by omega) (by omega)).1
          rw [if_neg (by omega)] at f2
          have hi2 : i < t.fields.length := by omega
          simp only [ah, aU hi2, aS, sy f2, au, ni]
          rw [aH hi', au, f3, AZ hi', f4, au, au, al hi' (by omega), bI]) (fun kk => by simp [ah, bI, bm, hlen']) aK 0 (Nat.zero_le _) (by rw [bP]; omega)
         rw [show ((0 : Nat) : Int) = (0 : Int) from rfl] at this
         rw [e6, e7, aF, aS, aB, n1, aF, this]
         cases first (fun i => !Ce d (ft t i) (iv v i)) 0 v.items.length <;> rfl
        ·have e7 : (v.kind == (7 : Int)) = false := by simp [h7]
         rw [e6, e7, aF, aF, pd hp h6 h7]
         simp [ny]
      ·have n2 : v.kind = 7 → ((v.items.length : Int) != (t.fields.length : Int)) = false := by
        intro h7
        have : ¬ t.fields.length ≠ v.items.length := fun hh => hl ⟨h7, hh⟩
        simp; omega
       simp only [oH]
       by_cases h7 : v.kind = 7
       ·have t7 : (t.kind == (7 : Int)) = true := by simp [← hkk, h7]
        rw [t7, aS, n2 h7, aF]; exact hr
       ·have t7 : (t.kind == (7 : Int)) = false := by simp [← hkk, h7]
        rw [t7, aF, aF]; exact hr
   ·have e0 : (v.kind == (0 : Int)) = false := by simp [h0]
    have e1 : (v.kind != t.kind) = true := by simp [hkk]
    simp [e0, e1, h0, hkk, aS, aF]
def rf : Nat → ae → aa → Bool
 | 0, _, _ => false
 | d + 1, t, v => (first (fun i => ((iv v i).kind == 0 && nd t i) || rf d (ft t i) (iv v i)) 0 v.items.length).isSome
theorem J3 : ∀ (d k k' : Nat) (t : ae) (v : aa), El d v → V t → Ce d t v = true → fI v < 1000000000 → gR t < 1000000000 → d + 1 ≤ k → d + 1 ≤ k' →
  iz k t v = some (rf d t v) ∧ df k' t v = some (rf d t v) := by
 intro d
 induction d with
 | zero => intro k k' t v hs; exact hs.zero.elim
 | succ d ih =>
  intro k k' t v hs ht ho hv hT hk hk'
  obtain ⟨k, rfl⟩ : ∃ q, k = q + 1 := ⟨k - 1, by omega⟩
  obtain ⟨k', rfl⟩ : ∃ q, k' = q + 1 := ⟨k' - 1, by omega⟩
  obtain ⟨hp, hi⟩ := hs.succ
  obtain ⟨hf, hof⟩ := Mk hs ht ho
  have hsz := sizeV_eq v
  have hlen := sizeL_len v.items
  have hsT := wO t
  have sub : ∀ i, i < v.items.length → ∃ f : aV, t.fields[if t.kind = 6 then 0 else i]? = some f ∧ f.type = ft t i ∧ f.need = nd t i ∧ iz k (ft t i) (iv v i) = some (rf d (ft t i) (iv v i)) ∧ df k' (ft t i) (iv v i) = some (rf d (ft t i) (iv v i)) := by
   intro i hi'
   obtain ⟨f, f1, f2, f3, f4⟩ := Ic (hf i hi')
   have m1 := sizeL_mem (xR hi')
   have m2 := p6 f1
   have m3 := ov f
   rw [f3] at m3
   obtain ⟨a, b⟩ := ih k k' (ft t i) (iv v i) (hi _ (xR hi')) (by rw [← f3]; exact ht.fs f f1) (hof i hi') (by omega) (by omega) (by omega) (by omega)
   exact ⟨f, f2, f3, f4, a, b⟩
  rw [iz, df]
  simp only [rf]
  refine ⟨?_, ?_⟩
  ·have := nf (f := fun kk i => el (iz k) t v kk (i : Int)) (n := v.items.length) (P := fun i => ((iv v i).kind == 0 && nd t i) || rf d (ft t i) (iv v i)) (A := fun _ => some true) (B := some false) (fun kk i hi' => by
    obtain ⟨f, f2, f3, f4, f5, _⟩ := sub i hi'
    have e : qY t (i : Int) = some f := by
     unfold qY oa
     by_cases h6 : t.kind = 6
     ·rw [if_pos h6] at f2
      rw [show (0 : Int) = ((0 : Nat) : Int) from rfl, sy f2]
      simp [h6, bI, au]
     ·rw [if_neg h6] at f2
      rw [sy f2]
      simp [h6, bI, au]
    simp only [el, aU hi', aS, aH hi', au, e, lF, f3, f4, AZ hi', f5, al hi' (show v.items.length < 1000000000 by omega)]
    cases (iv v i).kind == 0 <;> cases nd t i <;> cases rf d (ft t i) (iv v i) <;> rfl) (fun kk => by simp [el, bI, qh]) aK 0 (Nat.zero_le _) (by rw [bP]; omega)
   rw [show ((0 : Nat) : Int) = (0 : Int) from rfl] at this
   rw [this]
   cases first (fun i => ((iv v i).kind == 0 && nd t i) || rf d (ft t i) (iv v i)) 0 v.items.length <;> rfl
  ·have := nf (f := fun kk i => cO (df k') t v kk (i : Int)) (n := v.items.length) (P := fun i => ((iv v i).kind == 0 && nd t i) || rf d (ft t i) (iv v i)) (A := fun _ => some true) (B := some false) (fun kk i hi' => by
    obtain ⟨f, f2, f3, f4, _, f5⟩ := sub i hi'
    have e : ∀ j : Int, at? t.fields j = some f → kP (cO (df k') t v kk) (df k') t v (i : Int) j = if (((iv v i).kind == 0 && nd t i) || rf d (ft t i) (iv v i)) = true then some true else cO (df k') t v kk ((i + 1 : Nat) : Int) := by
     intro j hj
     simp only [kP, kW, hj, au, aH hi', f3, f4, AZ hi', f5, al hi' (show v.items.length < 1000000000 by omega)]
     cases (iv v i).kind == 0 <;> cases nd t i <;> cases rf d (ft t i) (iv v i) <;> rfl
    simp only [cO, aU hi', aS]
    by_cases h6 : t.kind = 6
    ·rw [if_pos h6] at f2
     have e6 : (t.kind == (6 : Int)) = true := by simp [h6]
     rw [e6, aS]
     exact e 0 (sy f2)
    ·rw [if_neg h6] at f2
     have e6 : (t.kind == (6 : Int)) = false := by simp [h6]
     rw [e6, aF]
     exact e i (sy f2)) (fun kk => by simp [cO, bI, pw]) aK 0 (Nat.zero_le _) (by rw [bP]; omega)
   rw [show ((0 : Nat) : Int) = (0 : Int) from rfl] at this
   rw [this]
   cases first (fun i => ((iv v i).kind == 0 && nd t i) || rf d (ft t i) (iv v i)) 0 v.items.length <;> rfl
theorem wT (t : ae) (v : aa) (hv : fI v < 1000000000) (hT : gR t < 1000000000) : ∃ e, kt t v = some e ∧ oI t v = some e := by
 obtain ⟨e, h1, h2, h3⟩ := nU t hT
 unfold kt oI
 rw [h1, h2, B5 v hv, M8 v hv]
 simp only [au]
 by_cases he : e = 0
 ·subst he
  have ht := h3 rfl
  cases hs : tG v with
  | false => exact ⟨1, rfl, rfl⟩
  | true =>
   have hS : El 4 v := ⟨0, hs⟩
   obtain ⟨a, b⟩ := of_eq 4 aK aK t v hS ht hv hT (by rw [bP]; omega) (by rw [bP]; omega)
   rw [a, b]
   cases ho : Ce 4 t v with
   | false => exact ⟨2, rfl, rfl⟩
   | true =>
    obtain ⟨c, d⟩ := J3 4 aK aK t v hS ht ho hv hT (by rw [bP]; omega) (by rw [bP]; omega)
    rw [c, d]
    cases rf 4 t v with
    | false => exact ⟨0, rfl, rfl⟩
    | true => exact ⟨9, rfl, rfl⟩
 ·have : (e != (0 : Int)) = true := by simp [he]
  rw [this]
  exact ⟨e, rfl, rfl⟩
theorem EM : ByteArray.empty.size = 0 := rfl
end Go.Proofs.YtnecojeemmnnaaaGreatDoor.Ck
namespace Go.Proofs.YtnecojeemmnnaaaGreatDoor.Ck
open Go Go.SX Go.SX.Cal
theorem vI (a : Int) : iV a a = some 0 := by
 unfold iV
 rw [decide_eq_false (by omega), aj, aj]
theorem AL {p : Int} : ∀ (j k : Nat) (l : List Int) (x : Int), x.natAbs < 10 ^ j → j ≤ 18 → j < k → l.length + j ≤ 1000 → ∃ m, eh p k l x = some (nz.mk (decide (p < (0 : Int))) m) ∧ m.length ≤ 1000
 | 0, k, l, x, hx, _, hk, hl => by
  obtain ⟨k, rfl⟩ := aL hk
  have : x = 0 := by simp at hx; omega
  subst this
  rw [eh, bne_self_eq_false, aj]
  exact ⟨l, rfl, by omega⟩
 | j + 1, k, l, x, hx, hj, hk, hl => by
  obtain ⟨k, rfl⟩ := aL hk
  by_cases h0 : x = 0
  ·subst h0
   rw [eh, bne_self_eq_false, aj]
   exact ⟨l, rfl, by omega⟩
  ·have hp : (10 : Nat) ^ (j + 1) ≤ 1000000000000000000 := by
    have := Nat.pow_le_pow_right (n := 10) (by omega) (show j + 1 ≤ 18 by omega)
    exact Nat.le_trans this (by decide)
   have hd : (x.tdiv 10).natAbs = x.natAbs / 10 := by rw [Int.natAbs_tdiv]; rfl
   have hd2 : x.natAbs / 10 < 10 ^ j := by
    rw [Nat.pow_succ] at hx
    exact Nat.div_lt_of_lt_mul (by rw [Nat.mul_comm]; exact hx)
   have hw : IntKind.i64.wrap (x.tdiv 10) = x.tdiv 10 := hJ (by omega) (by omega)
   rw [eh, show (x != 0) = true by simp [h0], aE]
   unfold od
   rw [aJ (by omega), aJ (by omega), hw, ]
   have h1 := fun y : Int => AL (p := p) j k (l ++ [y]) (x.tdiv 10) (by omega) (by omega) (by omega) (by simp; omega)
   by_cases hn : x.tmod 10 < 0
   ·rw [decide_eq_true hn, aE]; exact h1 _
   ·rw [decide_eq_false hn, aj]; exact h1 _
theorem GB {l : List Int} (hl : l.length < 1000000000) : un l l = some 0 := by
 have : ∀ (i f : Nat), i ≤ l.length → i < f → jN l l f ((i : Int) - 1) = some 0 := by
  intro i
  induction i with
  | zero => intro f hi hf; obtain ⟨f, rfl⟩ := aL hf; rw [jN, decide_eq_false (by omega), aj]; rfl
  | succ i ih =>
   intro f hi hf
   obtain ⟨f, rfl⟩ := aL hf
   have h1 : i < l.length := by omega
   rw [show ((i + 1 : Nat) : Int) - 1 = (i : Int) by omega, jN, decide_eq_true (by omega), aE, aH h1, ab, ab, bne_self_eq_false, aj, hJ (x := (i : Int) - 1) (by omega) (by omega), ih f (by omega) (by omega)]
 unfold un
 rw [bne_self_eq_false, aj, hJ (x := (l.length : Int) - 1) (by omega) (by omega)]
 exact this l.length aK (by omega) (by rw [bP]; omega)
theorem Ek {r : nz} (hl : r.d.length < 1000000000) : mc r r = some 0 := by
 unfold mc
 rw [show (r.below == r.below) = true by simp, Bool.not_true, aj, GB hl, ab]
 cases r.below <;> rfl
theorem Df {v : aa} (hn : -999999999999999999 ≤ v.n ∧ v.n ≤ 999999999999999999) (hs : 0 ≤ v.scale ∧ v.scale ≤ 12) : ∃ r, pe v = some r ∧ r.d.length < 1000000000 := by
 obtain ⟨m, h1, h2⟩ := AL (p := v.n) 18 aK [] v.n (by omega) (by omega) (by rw [bP]; omega) (by simp)
 unfold pe
 have h3 : tU v.n = some (nz.mk (decide (v.n < (0 : Int))) m) := h1
 rw [h3, ab, hJ (x := 12 - v.scale) (by omega) (by omega)]
 unfold xA
 by_cases h0 : m.length = 0
 ·rw [show (((nz.mk (decide (v.n < (0 : Int))) m).d.length : Int) == 0) = true by simp [h0], aE, ab]
  exact ⟨_, rfl, by show m.length < _; omega⟩
 ·rw [show (((nz.mk (decide (v.n < (0 : Int))) m).d.length : Int) == 0) = false by simp; intro h; rw [h] at h0; exact h0 rfl, aj, aJ (by omega), aJ (by rw [List.length_replicate]; show _ + m.length ≤ _; omega), ab]
  exact ⟨_, rfl, by show (List.replicate _ _ ++ m).length < _; rw [List.length_append, List.length_replicate]; omega⟩
theorem I3 {v : aa} (hn : -999999999999999999 ≤ v.n ∧ v.n ≤ 999999999999999999) (hs : 0 ≤ v.scale ∧ v.scale ≤ 12) : o7 v v = some 0 := by
 obtain ⟨r, h1, h2⟩ := Df hn hs
 unfold o7
 rw [F1, ab, ab, show ((decide (0 ≤ v.scale) && decide (v.scale ≤ 12)) == (decide (0 ≤ v.scale) && decide (v.scale ≤ 12))) = true by simp, Bool.not_true, aj, decide_eq_true hs.1, decide_eq_true hs.2, Bool.and_self, aE, h1, ab, ab, Ek h2, ab, bne_self_eq_false, aj, vI]
 rfl
theorem Er {s : ByteArray} (hs : s.size < 1000000000) : vP s s = some 0 := by
 have : ∀ (m f i : Nat), i + m = s.size → m < f → gf s s f (i : Int) = some 0 := by
  intro m
  induction m with
  | zero =>
   intro f i hi hf
   obtain ⟨f, rfl⟩ := aL hf
   rw [gf, bL (by omega), aj]
   unfold mH rx
   rw [aj, vI]; rfl
  | succ m ih =>
   intro f i hi hf
   obtain ⟨f, rfl⟩ := aL hf
   have h1 : i < s.size := by omega
   rw [gf, aU h1, aE]
   unfold mH
   rw [aE, aJ (by omega), aJ (by omega), ab, bne_self_eq_false, aj, al h1 hs, ih f (i + 1) (by omega) (by omega)]
 exact this s.size aK 0 (by omega) (by rw [bP]; omega)
def EY (v : aa) : Prop := eX v = true ∧ v.kind ≠ 6 ∧ v.kind ≠ 7
theorem BW {v : aa} (h : eX v = true) (hk : v.kind = 3) : (-999999999999999999 ≤ v.n ∧ v.n ≤ 999999999999999999) ∧ (0 ≤ v.scale ∧ v.scale ≤ 12) := by
 unfold eX at h
 simp [hk] at h
 omega
theorem zp (q : aa → aa → Option Int) {v : aa} (hs : v.s.size < 1000000000) (hi : v.items.length ≤ 4000000000) (hq : ∀ x ∈ v.items, q x x = some 0) : kX q v v = some 0 := by
 have : ∀ (m f i : Nat), i + m = v.items.length → m < f → eu q v v f (i : Int) = some 0 := by
  intro m
  induction m with
  | zero =>
   intro f i hi hf
   obtain ⟨f, rfl⟩ := aL hf
   rw [eu, bL (by omega), aj]
   unfold kT pB
   rw [aj, vI]; rfl
  | succ m ih =>
   intro f i hi hf
   obtain ⟨f, rfl⟩ := aL hf
   have h1 : i < v.items.length := by omega
   rw [eu, aU h1, aE]
   unfold kT
   rw [aE, aH h1, ab, ab, hq _ (List.getElem_mem h1), ab, bne_self_eq_false, aj, hJ (x := (i : Int) + 1) (by omega) (by omega), show (i : Int) + 1 = ((i + 1 : Nat) : Int) by omega, ih f (i + 1) (by omega) (by omega)]
 unfold kX mU
 rw [bne_self_eq_false, aj, aj, bne_self_eq_false, aj, Er hs, ab, bne_self_eq_false, aj]
 exact this v.items.length aK 0 (by omega) (by rw [bP]; omega)
theorem A9 {v : aa} (h : EY v) (hs : v.s.size < 1000000000) (k : Nat) : dc (k + 1) v v = some 0 := by
 have hi := pd h.1 h.2.1 h.2.2
 have hj := zp (dc k) hs (by rw [hi]; simp) (by rw [hi]; intro x hx; cases hx)
 rw [dc, show ((v.kind == 0) == (v.kind == 0)) = true by simp, Bool.not_true, aj, bne_self_eq_false, aj, hj]
 by_cases h0 : v.kind = 0
 ·rw [show (v.kind == 0) = true by simp [h0], aE]
 ·rw [show (v.kind == 0) = false by simp [h0], aj]
  by_cases h3 : v.kind = 3
  ·obtain ⟨a, b⟩ := BW h.1 h3
   rw [show (v.kind == 3) = true by simp [h3], aE, I3 a b, ab, bne_self_eq_false, aj]
  ·rw [show (v.kind == 3) = false by simp [h3], aj]
theorem sK {l : List aa} (h : ∀ v ∈ l, EY v ∧ v.s.size < 1000000000) (hl : l.length ≤ 4000000000) : hO l l = some 0 := by
 unfold hO
 have hb : aK = 1152921504606846974 + 1 + 1 := rfl
 have hj := zp (dc (1152921504606846974 + 1)) (v := aa.mk (6 : Int) (0 : Int) (0 : Int) ByteArray.empty l) (by show ByteArray.empty.size < _; rw [EM]; omega) hl (fun x hx => A9 (h x hx).1 (h x hx).2 _)
 rw [hb, dc]
 simp only [show ((6 : Int) == 0) = false from rfl, show ((6 : Int) != 6) = false from rfl, show ((6 : Int) == 3) = false from rfl, BEq.rfl, Bool.not_true, aj]
 rw [hj]; rfl
end Go.Proofs.YtnecojeemmnnaaaGreatDoor.Ck
namespace Go.Proofs.YtnecojeemmnnaaaGreatDoor
open Go Go.SX Go.SX.Cal
open Ck (fI gR pJ wT nU eX tG B5 El El.succ qe Fk EY sK)
def Cf (t : ae) (v : aa) : Int := (kt t v).getD 1
theorem Hz {t : ae} {v : aa} (hv : fI v < 1000000000) (hT : gR t < 1000000000) : kt t v = some (Cf t v) := by
 obtain ⟨e, h1, h2⟩ := wT t v hv hT
 unfold Cf; rw [h1]; rfl
theorem Lu {t : ae} {v : aa} (hv : fI v < 1000000000) (hT : gR t < 1000000000) : oI t v = some (Cf t v) := by
 obtain ⟨e, h1, h2⟩ := wT t v hv hT
 unfold Cf; rw [h1, h2]; rfl
theorem xu {t : ae} {v : aa} (hv : fI v < 1000000000) (hT : gR t < 1000000000) (h : Cf t v = 0) : eX v = true := by
 have hc := Hz hv hT
 rw [h] at hc
 obtain ⟨e, h1, h2, h3⟩ := nU t hT
 unfold kt at hc
 rw [h1, B5 v hv] at hc
 simp only [ab] at hc
 by_cases he : e = 0
 ·subst he
  rw [show ((0 : Int) != 0) = false from rfl, aj] at hc
  cases hs : tG v with
  | false => rw [hs] at hc; exact absurd hc (by simp [aq])
  | true =>
   have hS : El 4 v := ⟨0, hs⟩
   exact (El.succ (d := 3) hS).1
 ·rw [show (e != (0 : Int)) = true by simp [he], aE] at hc
  exact absurd (Option.some.inj hc) he
theorem J5 {v : aa} (h : eX v = true) : -2000000000000000000 ≤ v.n ∧ v.n ≤ 2000000000000000000 := by
 unfold eX at h
 simp only at h
 repeat' split at h
 all_goals first | (simp at h; omega) | cases h
theorem Kf {v : aa} (h : eX v = true) : v.s.size ≤ 256 := by
 unfold eX qe at h
 simp only at h
 repeat' split at h
 all_goals first | (simp only [Bool.and_eq_true, decide_eq_true_eq] at h; omega) | cases h
theorem Lx {l : List aa} (hl : l.length ≤ 10000000) (h : ∀ v ∈ l, eX v = true) : Np l := by
 refine ⟨hl, fun x hx => ?_, fun x hx => ?_⟩
 ·obtain ⟨v, hv, rfl⟩ := List.mem_map.1 hx; exact J5 (h v hv)
 ·obtain ⟨v, hv, rfl⟩ := List.mem_map.1 hx; exact Kf (h v hv)
theorem Gp (t : ae) (hT : gR t < 1000000000) : ∃ e, kR t = some e ∧ mI t = some e ∧ (e = 0 → t.kind ≠ 6 ∧ t.kind ≠ 7) := by
 obtain ⟨e, h1, h2, h3⟩ := nU t hT
 unfold kR mI kz
 rw [h1, h2, ab, ab]
 by_cases he : e = 0
 ·subst he
  rw [show ((0 : Int) != 0) = false from rfl, aj, aj, Fk, ab]
  by_cases h6 : t.kind = 6
  ·rw [show (t.kind == 6) = true by simp [h6], aE, aE, decide_eq_false (by omega)]
   exact ⟨2, rfl, rfl, fun h => by omega⟩
  ·rw [show (t.kind == 6) = false by simp [h6], aj]
   by_cases h7 : t.kind = 7
   ·rw [show (t.kind == 7) = true by simp [h7], aE, decide_eq_false (by omega)]
    exact ⟨2, rfl, rfl, fun h => by omega⟩
   ·rw [show (t.kind == 7) = false by simp [h7], aj, decide_eq_true ⟨h6, h7⟩]
    exact ⟨0, rfl, rfl, fun _ => ⟨h6, h7⟩⟩
 ·rw [show (e != (0 : Int)) = true by simp [he], aE, aE]
  exact ⟨e, rfl, rfl, fun h => absurd h he⟩
theorem FC (s : ByteArray) : gU (cK s) := by
 intro e he
 obtain ⟨u, _, rfl⟩ := List.mem_map.1 he
 have := u.toNat_lt
 omega
theorem Gc : ∀ l : List ByteArray, gU (tP l)
 | [] => by intro e he; simp [tP] at he
 | s :: t => by rw [uo]; exact js (js (oS _) (FC _)) (Gc t)
theorem BG : ∀ (l : List ByteArray) (p : ByteArray), gU (tX p l)
 | [], _ => by intro e he; simp [tX] at he
 | s :: t, p => by rw [tX]; exact js (js (js (oS _) (oS _)) (FC _)) (BG t s)
theorem Hc {l : List ByteArray} (hl : l.length ≤ 10000000) (kind : Int) : gU (kB kind l) := by
 unfold kB
 split
 ·obtain ⟨w1, w2, w3⟩ := wL l
  have hpl : (rJ (wt l) l).length = l.length := by simp [rJ]
  exact js (js (oS _) (BG _ _)) (Bu (by omega) (uy (by omega)))
 split
 ·exact BG _ _
 ·exact Gc _
theorem AO {k : Int} {b : List Int} (hk : 0 ≤ k ∧ k ≤ 255) (hb : gU b) : gU (k :: b) := by
 intro e he
 rcases List.mem_cons.1 he with rfl | he
 ·exact hk
 ·exact hb e he
theorem zM (s : List ByteArray) : ∃ k, (k = 0 ∨ k = 4 ∨ k = 5) ∧ Fv s = k :: kB k s := by
 unfold Fv
 rcases AQ (mn (0 :: kB 0 s) (4 :: kB 4 s)) (5 :: kB 5 s) with h | h
 ·rw [h]
  rcases AQ (0 :: kB 0 s) (4 :: kB 4 s) with h | h
  ·exact ⟨0, by omega, h⟩
  ·exact ⟨4, by omega, h⟩
 ·exact ⟨5, by omega, h⟩
theorem za (n : List Int) : ∃ k : Int, (0 ≤ k ∧ k ≤ 4) ∧ Gl n = k :: enc k n := by
 unfold Gl
 rcases AQ (mn (mn (mn (0 :: enc 0 n) (1 :: enc 1 n)) (2 :: enc 2 n)) (3 :: enc 3 n)) (4 :: enc 4 n) with h | h
 ·rw [h]
  rcases AQ (mn (mn (0 :: enc 0 n) (1 :: enc 1 n)) (2 :: enc 2 n)) (3 :: enc 3 n) with h | h
  ·rw [h]
   rcases AQ (mn (0 :: enc 0 n) (1 :: enc 1 n)) (2 :: enc 2 n) with h | h
   ·rw [h]
    rcases AQ (0 :: enc 0 n) (1 :: enc 1 n) with h | h
    ·exact ⟨0, by omega, h⟩
    ·exact ⟨1, by omega, h⟩
   ·exact ⟨2, by omega, h⟩
  ·exact ⟨3, by omega, h⟩
 ·exact ⟨4, by omega, h⟩
theorem xB {l : List aa} (h : Np l) (t : ae) : gU (yz t l) := by
 have hl := h.len
 unfold yz
 split
 ·obtain ⟨k, hk, e⟩ := zM (l.map (·.s))
  rw [e]; exact AO (by omega) (Hc (by simpa using hl) k)
 ·obtain ⟨k, hk, e⟩ := za (l.map (·.n))
  rw [e]; exact AO (by omega) (IC (by simpa using hl) h.n k)
theorem M5 (l : List Int) : jz l = some l := by
 unfold jz
 rw [aJ (by omega)]
 simp
theorem Jy {t : ae} (hT : gR t < 1000000000) {l : List aa} (hl : l.length ≤ 10000000) (hv : ∀ v ∈ l, fI v < 1000000000) : ∀ (m f i : Nat), i + m = l.length → m < f → (∀ v ∈ l.take i, eX v = true) →
  ∃ r, fK t l f (i : Int) = some r ∧ im t l f (i : Int) = some r ∧ gU r.1 := by
 intro m
 induction m with
 | zero =>
  intro f i hi hf hp
  obtain ⟨f, rfl⟩ := aL hf
  have hw : Np l := Lx hl (by rw [List.take_of_length_le (by omega)] at hp; exact hp)
  rw [fK, im, bL (by omega), aj, aj]
  unfold oF qd
  rw [DL hw, Cu hw, ab, ab, M5, ab]
  exact ⟨_, rfl, rfl, xB hw t⟩
 | succ m ih =>
  intro f i hi hf hp
  obtain ⟨f, rfl⟩ := aL hf
  have hil : i < l.length := by omega
  have hvi := hv _ (List.getElem_mem hil)
  have nil : gU [] := fun e he => by cases he
  rw [fK, im, aU hil, aE, aE, aH hil, ab, ab, Hz hvi hT, Lu hvi hT, ab, ab]
  by_cases h0 : Cf t l[i] = 0
  ·rw [h0, show ((0 : Int) != 0) = false from rfl, aj, aj]
   by_cases hk : l[i].kind = 0
   ·rw [show (l[i].kind == 0) = true by simp [hk], aE, aE]
    exact ⟨_, rfl, rfl, nil⟩
   ·rw [show (l[i].kind == 0) = false by simp [hk], aj, aj, al hil (by omega)]
    refine ih f (i + 1) (by omega) (by omega) fun v hv => ?_
    rw [List.take_succ_eq_append_getElem hil] at hv
    rcases List.mem_append.1 hv with hv | hv
    ·exact hp v hv
    ·rw [List.mem_singleton.1 hv]; exact xu hvi hT h0
  ·rw [show (Cf t l[i] != 0) = true by simp [h0], aE, aE]
   exact ⟨_, rfl, rfl, nil⟩
theorem GQ {t : ae} (hT : gR t < 1000000000) {l : List aa} (hl : l.length ≤ 10000000) (hv : ∀ v ∈ l, fI v < 1000000000) : ∃ r, pa t l = some r ∧ re t l = some r ∧ gU r.1 := by
 obtain ⟨e, h1, h2, h3⟩ := Gp t hT
 unfold pa re
 rw [h1, h2, ab, ab]
 by_cases he : e = 0
 ·subst he
  rw [show ((0 : Int) != 0) = false from rfl, aj, aj]
  have := Jy hT hl hv l.length aK 0 (by omega) (by rw [cI]; omega) (by simp)
  rw [show ((0 : Nat) : Int) = 0 from rfl] at this
  exact this
 ·rw [show (e != (0 : Int)) = true by simp [he], aE, aE]
  exact ⟨_, rfl, rfl, fun e he => by cases he⟩
end Go.Proofs.YtnecojeemmnnaaaGreatDoor
namespace Go.Proofs.YtnecojeemmnnaaaGreatDoor
open Go Go.SX Go.SX.Cal
open Ck (fI gR pJ wT nU eX tG B5 El El.succ qe Fk EY sK)
def JL (s : ByteArray) : aa := aa.mk 4 0 0 s []
def JO (t : ae) (n : Int) : aa := aa.mk t.kind n t.scale ByteArray.empty []
theorem FR (ss : List ByteArray) : (ss.map JL).map (·.s) = ss := by
 rw [List.map_map]; exact List.map_id ss
theorem Gg (t : ae) (ns : List Int) : (ns.map (JO t)).map (·.n) = ns := by
 rw [List.map_map]; exact List.map_id ns
theorem L2 (s : ByteArray) : fI (JL s) = s.size + 1 := by rw [Ck.sizeV_eq]; rfl
theorem LK (t : ae) (n : Int) : fI (JO t n) = 1 := by rw [Ck.sizeV_eq]; rfl
structure Gd (t : ae) (n : Int) (b : List Int) (l : List aa) : Prop where
 len : (l.length : Int) = n
 form : (t.kind = 4 ∧ ∃ ss : List ByteArray, l = ss.map JL) ∨ (t.kind ≠ 4 ∧ ∃ ns : List Int, l = ns.map (JO t))
 sz : ∀ v ∈ l, fI v < 1000000000
 ok : ∀ v ∈ l, Cf t v = 0
 enc : yz t l = b
theorem IW {a b : List Int} (ha : gU a) (hb : gU b) : ku a b = some (decide (a = b)) := by
 unfold ku; rw [FV ha hb]
theorem JR {a b : List Int} (ha : gU a) (hb : gU b) : oe a b = some (decide (a = b)) := by
 unfold oe; rw [FV ha hb]
def tO (t : ae) (l : List aa) : Bool := l.all fun v => Cf t v == 0
theorem DW {t : ae} {l : List aa} (h : tO t l = true) : ∀ v ∈ l, Cf t v = 0 := by
 intro v hv
 have := List.all_eq_true.1 h v hv
 simpa using this
theorem Pm {t : ae} (hT : gR t < 1000000000) {v : aa} (hv : fI v < 1000000000) : lq v t.kind t.scale t.fields = some (Cf t v != 0) := by
 unfold lq
 rw [Ck.eta_t, Hz hv hT, ab]
theorem Jm {t : ae} (hT : gR t < 1000000000) {l : List aa} (hl : l.length ≤ 10000000) (hv : ∀ v ∈ l, fI v < 1000000000) : ∀ (m f i : Nat), i + m = l.length → m < f →
  ∃ r, az l t.kind t.scale t.fields f (i : Int) = some r ∧ decide (0 ≤ r) = !tO t (l.drop i) := by
 intro m
 induction m with
 | zero =>
  intro f i hi hf
  obtain ⟨f, rfl⟩ := aL hf
  rw [az, bL (by omega), aj, List.drop_of_length_le (by omega)]
  exact ⟨-1, rfl, rfl⟩
 | succ m ih =>
  intro f i hi hf
  obtain ⟨f, rfl⟩ := aL hf
  have hil : i < l.length := by omega
  rw [az, aU hil, aE, aH hil, ab, Pm hT (hv _ (List.getElem_mem hil)), ab, List.drop_eq_getElem_cons hil]
  by_cases h : Cf t l[i] = 0
  ·obtain ⟨r, r1, r2⟩ := ih f (i + 1) (by omega) (by omega)
   rw [h, show ((0 : Int) != 0) = false from rfl, aj, al hil (by omega)]
   refine ⟨r, r1, ?_⟩
   rw [r2]
   unfold tO
   rw [List.all_cons, h]; simp
  ·rw [show (Cf t l[i] != 0) = true by simp [h], aE]
   refine ⟨_, rfl, ?_⟩
   unfold tO
   rw [List.all_cons, show (Cf t l[i] == 0) = false by simp [h]]
   simp
theorem Gx {t : ae} (hT : gR t < 1000000000) {l : List aa} (hl : l.length ≤ 10000000) (hv : ∀ v ∈ l, fI v < 1000000000) : bo l t.kind t.scale t.fields = some (!tO t l) := by
 obtain ⟨r, r1, r2⟩ := Jm hT hl hv l.length aK 0 (by omega) (by rw [cI]; omega)
 rw [show ((0 : Nat) : Int) = 0 from rfl] at r1
 rw [List.drop_zero] at r2
 unfold bo bR
 rw [r1, ab, r2]
theorem Mv (l : List aa) : eg l = some l := by
 unfold eg
 rw [aJ (by omega)]
 simp
theorem I9 {t : ae} (hT : gR t < 1000000000) {l : List aa} (hl : l.length ≤ 10000000) (hv : ∀ v ∈ l, fI v < 1000000000) (h : ∀ v ∈ l, Cf t v = 0) : Np l :=
 Lx hl fun v hm => xu (hv v hm) hT (h v hm)
def qk (t : ae) (n : Int) (b : List Int) (l : List aa) (bad : Bool) : Bool := !bad && (decide ((l.length : Int) = n) && (tO t l && decide (yz t l = b)))
theorem Fq {t : ae} (hT : gR t < 1000000000) {n : Int} {b : List Int} (hb : gU b) {l : List aa} (hl : l.length ≤ 10000000) (hv : ∀ v ∈ l, fI v < 1000000000) (z : List Int) (bad : Bool) :
  hM t n b l z bad = some (if qk t n b l bad = true then (l, true) else ([], false)) := by
 unfold hM jk qk
 cases bad with
 | true => rw [aE, aE]; rfl
 | false =>
  rw [aj]
  by_cases hn : (l.length : Int) = n
  ·rw [show (((l.length : Nat) : Int) != n) = false by simp [hn], aj, Gx hT hl hv, ab, decide_eq_true hn]
   cases ha : tO t l with
   | false => rfl
   | true =>
    have hw := I9 hT hl hv (DW ha)
    rw [Bool.not_true, aj, DL hw, ab, IW (xB hw t) hb, ab]
    by_cases he : yz t l = b
    ·rw [decide_eq_true he, Bool.not_true, aj, Mv, ab]; rfl
    ·rw [decide_eq_false he, Bool.not_false, aE]; rfl
  ·rw [show (((l.length : Nat) : Int) != n) = true by simp [hn], aE, aE, decide_eq_false hn]; rfl
theorem Mf {t : ae} (hT : gR t < 1000000000) {b : List Int} {l : List aa} (hl : l.length ≤ 10000000) (hv : ∀ v ∈ l, fI v < 1000000000) : ∀ (m f i : Nat), i + m = l.length → m < f →
  iA t b l f (i : Int) = if tO t (l.drop i) = true then og t b l else some ([], 1) := by
 intro m
 induction m with
 | zero =>
  intro f i hi hf
  obtain ⟨f, rfl⟩ := aL hf
  rw [iA, bL (by omega), aj, List.drop_of_length_le (by omega)]; rfl
 | succ m ih =>
  intro f i hi hf
  obtain ⟨f, rfl⟩ := aL hf
  have hil : i < l.length := by omega
  rw [iA, aU hil, aE, aH hil, ab, Lu (hv _ (List.getElem_mem hil)) hT, ab, List.drop_eq_getElem_cons hil]
  unfold tO
  rw [List.all_cons]
  by_cases h : Cf t l[i] = 0
  ·rw [h, show ((0 : Int) != 0) = false from rfl, aj, al hil (by omega), ih f (i + 1) (by omega) (by omega)]
   rfl
  ·rw [show (Cf t l[i] != 0) = true by simp [h], aE, show (Cf t l[i] == 0) = false by simp [h], Bool.false_and, if_neg (by simp)]
theorem CP {t : ae} (hT : gR t < 1000000000) {n : Int} {b : List Int} (hb : gU b) {l : List aa} (hl : l.length ≤ 10000000) (hv : ∀ v ∈ l, fI v < 1000000000) (z : List Int) (bad : Bool) :
  ix t n b l z bad = some (if qk t n b l bad = true then (l, 0) else ([], 1)) := by
 unfold ix nR qk
 cases bad with
 | true => rw [aE, aE]; rfl
 | false =>
  rw [aj]
  by_cases hn : (l.length : Int) = n
  ·have := Mf (b := b) hT hl hv l.length aK 0 (by omega) (by rw [cI]; omega)
   rw [show ((0 : Nat) : Int) = 0 from rfl, List.drop_zero] at this
   rw [show (((l.length : Nat) : Int) != n) = false by simp [hn], aj, this, decide_eq_true hn]
   cases ha : tO t l with
   | false => rfl
   | true =>
    have hw := I9 hT hl hv (DW ha)
    rw [if_pos rfl]
    unfold og
    rw [Cu hw, ab, JR (xB hw t) hb, ab]
    by_cases he : yz t l = b
    ·rw [decide_eq_true he, Bool.not_true, aj]; rfl
    ·rw [decide_eq_false he, Bool.not_false, aE]; rfl
  ·rw [show (((l.length : Nat) : Int) != n) = true by simp [hn], aE, decide_eq_false hn]; rfl
theorem NJ (t : ae) (n : Int) (b : List Int) (r2 : List ByteArray × ac) (hl : r2.1.length ≤ 1048576) : ∀ (m f i : Nat) (l : List aa), i + m = r2.1.length → m < f → l.length ≤ i →
  fH t n b r2 f l (i : Int) = hM t n b (l ++ (r2.1.drop i).map JL) r2.2.b r2.2.bad := by
 intro m
 induction m with
 | zero =>
  intro f i l hi hf hb
  obtain ⟨f, rfl⟩ := aL hf
  rw [fH, bL (by omega), aj, List.drop_of_length_le (by omega), List.map_nil, List.append_nil]
 | succ m ih =>
  intro f i l hi hf hb
  obtain ⟨f, rfl⟩ := aL hf
  have hil : i < r2.1.length := by omega
  rw [fH, aU hil, aE, aH hil, ab, aJ (by omega), al hil (by omega), ih f (i + 1) _ (by omega) (by omega) (by simp; omega), List.drop_eq_getElem_cons hil, List.map_cons, List.append_assoc]; rfl
theorem Nx (t : ae) (n : Int) (b : List Int) (r2 : List Int × ac) (hl : r2.1.length ≤ 1048576) : ∀ (m f i : Nat) (l : List aa), i + m = r2.1.length → m < f → l.length ≤ i →
  fO t n b r2 f l (i : Int) = hM t n b (l ++ (r2.1.drop i).map (JO t)) r2.2.b r2.2.bad := by
 intro m
 induction m with
 | zero =>
  intro f i l hi hf hb
  obtain ⟨f, rfl⟩ := aL hf
  rw [fO, bL (by omega), aj, List.drop_of_length_le (by omega), List.map_nil, List.append_nil]
 | succ m ih =>
  intro f i l hi hf hb
  obtain ⟨f, rfl⟩ := aL hf
  have hil : i < r2.1.length := by omega
  rw [fO, aU hil, aE, aH hil, ab, aJ (by omega), al hil (by omega), ih f (i + 1) _ (by omega) (by omega) (by simp; omega), List.drop_eq_getElem_cons hil, List.map_cons, List.append_assoc]; rfl
theorem ND (t : ae) (n : Int) (b : List Int) (r2 : List ByteArray × ar) (hl : r2.1.length ≤ 1048576) : ∀ (m f i : Nat) (l : List aa), i + m = r2.1.length → m < f → l.length ≤ i →
  ip t n b r2 f l (i : Int) = ix t n b (l ++ (r2.1.drop i).map JL) r2.2.b r2.2.bad := by
 intro m
 induction m with
 | zero =>
  intro f i l hi hf hb
  obtain ⟨f, rfl⟩ := aL hf
  rw [ip, bL (by omega), aj, List.drop_of_length_le (by omega), List.map_nil, List.append_nil]
 | succ m ih =>
  intro f i l hi hf hb
  obtain ⟨f, rfl⟩ := aL hf
  have hil : i < r2.1.length := by omega
  rw [ip, aU hil, aE, aH hil, ab, aJ (by omega), al hil (by omega), ih f (i + 1) _ (by omega) (by omega) (by simp; omega), List.drop_eq_getElem_cons hil, List.map_cons, List.append_assoc]; rfl
theorem NU (t : ae) (n : Int) (b : List Int) (r2 : List Int × ar) (hl : r2.1.length ≤ 1048576) : ∀ (m f i : Nat) (l : List aa), i + m = r2.1.length → m < f → l.length ≤ i →
  iy t n b r2 f l (i : Int) = ix t n b (l ++ (r2.1.drop i).map (JO t)) r2.2.b r2.2.bad := by
 intro m
 induction m with
 | zero =>
  intro f i l hi hf hb
  obtain ⟨f, rfl⟩ := aL hf
  rw [iy, bL (by omega), aj, List.drop_of_length_le (by omega), List.map_nil, List.append_nil]
 | succ m ih =>
  intro f i l hi hf hb
  obtain ⟨f, rfl⟩ := aL hf
  have hil : i < r2.1.length := by omega
  rw [iy, aU hil, aE, aH hil, ab, aJ (by omega), al hil (by omega), ih f (i + 1) _ (by omega) (by omega) (by simp; omega), List.drop_eq_getElem_cons hil, List.map_cons, List.append_assoc]; rfl
theorem Dx {t : ae} {n : Int} {b : List Int} {l : List aa} {bad : Bool} (hf : (t.kind = 4 ∧ ∃ ss : List ByteArray, l = ss.map JL) ∨ (t.kind ≠ 4 ∧ ∃ ns : List Int, l = ns.map (JO t))) (hv : ∀ v ∈ l, fI v < 1000000000) (h : qk t n b l bad = true) : Gd t n b l := by
 unfold qk at h
 simp only [Bool.and_eq_true, decide_eq_true_eq] at h
 exact ⟨h.2.1, hf, hv, DW h.2.2.1, h.2.2.2⟩
theorem Fc {t : ae} {n : Int} {b : List Int} {l : List aa} (h : Gd t n b l) : qk t n b l false = true := by
 unfold qk
 simp only [Bool.and_eq_true, decide_eq_true_eq]
 refine ⟨rfl, h.len, ?_, h.enc⟩
 unfold tO
 rw [List.all_eq_true]
 intro v hv
 simp [h.ok v hv]
theorem Od {N : Nat} (hN : N ≤ 10000000) {ss : List ByteArray} (h : ∀ s ∈ ss, s.size ≤ N) : ∀ v ∈ ss.map JL, fI v < 1000000000 := by
 intro v hv
 obtain ⟨s, hs, rfl⟩ := List.mem_map.1 hv
 rw [L2]; have := h s hs; omega
theorem OD (t : ae) (ns : List Int) : ∀ v ∈ ns.map (JO t), fI v < 1000000000 := by
 intro v hv
 obtain ⟨s, hs, rfl⟩ := List.mem_map.1 hv
 rw [LK]; omega
theorem NW {t : ae} (hT : gR t < 1000000000) {n : Int} (hn : 0 ≤ n ∧ n ≤ 1048576) {b : List Int} (hb : gU b) (hbl : b.length ≤ 10000000) : ∃ r, ll t n b = some r ∧ ((r.2 = true ∧ Gd t n b r.1) ∨ r = ([], false)) := by
 unfold ll
 obtain ⟨r1, h1, _, h2⟩ := zR (N := 10000000) (c := ac.mk b false) ⟨hb, hbl⟩
 rw [h1, ab]
 by_cases h4 : t.kind = 4
 ·obtain ⟨r2, h3, h5, h6, h7⟩ := JZ (by omega) h2 hn r1.1
  have hl := NJ t n b r2 h6 r2.1.length aK 0 [] (by omega) (by rw [cI]; omega) (by simp)
  rw [show ((0 : Nat) : Int) = 0 from rfl, List.nil_append, List.drop_zero] at hl
  have hv := Od (Nat.le_refl _) h7
  rw [show (t.kind == 4) = true by simp [h4], aE, h3, ab, hl, Fq hT hb (by simp; omega) hv]
  refine ⟨_, rfl, ?_⟩
  by_cases hg : qk t n b (r2.1.map JL) r2.2.bad = true
  ·rw [if_pos hg]; exact .inl ⟨rfl, Dx (.inl ⟨h4, _, rfl⟩) hv hg⟩
  ·rw [if_neg hg]; exact .inr rfl
 ·obtain ⟨r2, h3, h5, h6⟩ := Ma h2 hn r1.1
  have hl := Nx t n b r2 h6 r2.1.length aK 0 [] (by omega) (by rw [cI]; omega) (by simp)
  rw [show ((0 : Nat) : Int) = 0 from rfl, List.nil_append, List.drop_zero] at hl
  have hv := OD t r2.1
  rw [show (t.kind == 4) = false by simp [h4], aj, h3, ab, hl, Fq hT hb (by simp; omega) hv]
  refine ⟨_, rfl, ?_⟩
  by_cases hg : qk t n b (r2.1.map (JO t)) r2.2.bad = true
  ·rw [if_pos hg]; exact .inl ⟨rfl, Dx (.inr ⟨h4, _, rfl⟩) hv hg⟩
  ·rw [if_neg hg]; exact .inr rfl
theorem NP {t : ae} (hT : gR t < 1000000000) {n : Int} (hn : 0 ≤ n ∧ n ≤ 1048576) {b : List Int} (hb : gU b) (hbl : b.length ≤ 10000000) : ∃ r, nr t n b = some r ∧ ((r.2 = 0 ∧ Gd t n b r.1) ∨ r = ([], 1)) := by
 have hB : aK = 1152921504606846974 + 2 := rfl
 unfold nr
 obtain ⟨r1, h1, _, h2⟩ := ki (N := 10000000) (c := ar.mk b false) ⟨hb, hbl⟩
 rw [h1, ab]
 by_cases h4 : t.kind = 4
 ·obtain ⟨r2, h3, h5, h6, h7⟩ := KQ (by omega) h2 hn (IntKind.i64.wrap r1.1) 1152921504606846974
  have hl := ND t n b r2 h6 r2.1.length aK 0 [] (by omega) (by rw [cI]; omega) (by simp)
  rw [show ((0 : Nat) : Int) = 0 from rfl, List.nil_append, List.drop_zero] at hl
  have hv := Od (Nat.le_refl _) h7
  rw [← hB] at h3
  rw [show (t.kind == 4) = true by simp [h4], aE, h3, ab, hl, CP hT hb (by simp; omega) hv]
  refine ⟨_, rfl, ?_⟩
  by_cases hg : qk t n b (r2.1.map JL) r2.2.bad = true
  ·rw [if_pos hg]; exact .inl ⟨rfl, Dx (.inl ⟨h4, _, rfl⟩) hv hg⟩
  ·rw [if_neg hg]; exact .inr rfl
 ·rw [show (t.kind == 4) = false by simp [h4], aj]
  cases hk : decide (IntKind.i64.wrap r1.1 ≤ (4 : Int)) with
  | true =>
   obtain ⟨r2, h3, h5, h6⟩ := Mp h2 hn (IntKind.i64.wrap r1.1) 1152921504606846974
   have hl := NU t n b r2 h6 r2.1.length aK 0 [] (by omega) (by rw [cI]; omega) (by simp)
   rw [show ((0 : Nat) : Int) = 0 from rfl, List.nil_append, List.drop_zero] at hl
   have hv := OD t r2.1
   rw [← hB] at h3
   rw [aE, h3, ab, hl, CP hT hb (by simp; omega) hv]
   refine ⟨_, rfl, ?_⟩
   by_cases hg : qk t n b (r2.1.map (JO t)) r2.2.bad = true
   ·rw [if_pos hg]; exact .inl ⟨rfl, Dx (.inr ⟨h4, _, rfl⟩) hv hg⟩
   ·rw [if_neg hg]; exact .inr rfl
  | false =>
   have hv : ∀ v ∈ ([] : List aa), fI v < 1000000000 := fun v hv => by cases hv
   rw [aj, CP hT hb (by simp) hv]
   refine ⟨_, rfl, ?_⟩
   by_cases hg : qk t n b [] r1.2.bad = true
   ·rw [if_pos hg]; exact .inl ⟨rfl, Dx (.inr ⟨h4, [], rfl⟩) hv hg⟩
   ·rw [if_neg hg]; exact .inr rfl
theorem C7 {t : ae} {n : Int} {b : List Int} {l : List aa} (hn : 0 ≤ n ∧ n ≤ 1048576) (hT : gR t < 1000000000) (h : Gd t n b l) :
  (t.kind = 4 ∧ ∃ (ss : List ByteArray) (k : Int), l = ss.map JL ∧ xk ss ∧ ss.length ≤ 1048576 ∧ (ss.length : Int) = n ∧ (k = 0 ∨ k = 4 ∨ k = 5) ∧ b = k :: kB k ss) ∨
  (t.kind ≠ 4 ∧ ∃ (ns : List Int) (k : Int), l = ns.map (JO t) ∧ np ns ∧ ns.length ≤ 1048576 ∧ (ns.length : Int) = n ∧ (0 ≤ k ∧ k ≤ 4) ∧ b = k :: enc k ns) := by
 have hlen := h.len
 have hw := I9 hT (by omega) h.sz h.ok
 have he := h.enc
 rcases h.form with ⟨h4, ss, rfl⟩ | ⟨h4, ns, rfl⟩
 ·have hs := hw.s
  rw [FR] at hs
  unfold yz at he
  rw [if_pos h4, FR] at he
  obtain ⟨k, hk, hb⟩ := zM ss
  rw [List.length_map] at hlen
  exact .inl ⟨h4, ss, k, rfl, hs, by omega, hlen, hk, by rw [← he, hb]⟩
 ·have hs := hw.n
  rw [Gg] at hs
  unfold yz at he
  rw [if_neg h4, Gg] at he
  obtain ⟨k, hk, hb⟩ := za ns
  rw [List.length_map] at hlen
  exact .inr ⟨h4, ns, k, rfl, hs, by omega, hlen, hk, by rw [← he, hb]⟩
theorem Kh {t : ae} {n : Int} {b : List Int} {l : List aa} (hn : 0 ≤ n ∧ n ≤ 1048576) (hT : gR t < 1000000000) (hb : gU b) (h : Gd t n b l) : ll t n b = some (l, true) := by
 have hg := Fc h
 have hlen := h.len
 have hsz := h.sz
 unfold ll
 rcases C7 hn hT h with ⟨h4, ss, k, rfl, hs, hl, hln, hk, rfl⟩ | ⟨h4, ns, k, rfl, hs, hl, hln, hk, rfl⟩
 ·rw [uw (by omega), ab, show (t.kind == 4) = true by simp [h4], aE]
  simp only
  have hr := JU hl hs hk
  rw [hln] at hr
  have hv := NJ t n (k :: kB k ss) (ss, ⟨[], false⟩) hl ss.length aK 0 [] (by simp) (by rw [cI]; omega) (by simp)
  rw [show ((0 : Nat) : Int) = 0 from rfl, List.nil_append, List.drop_zero] at hv
  rw [hr, ab, hv, Fq hT hb (by simp; omega) hsz, if_pos hg]
 ·rw [uw (by omega), ab, show (t.kind == 4) = false by simp [h4], aj]
  simp only
  have hr := Ew hl hs hk
  rw [hln] at hr
  have hv := Nx t n (k :: enc k ns) (ns, ⟨[], false⟩) hl ns.length aK 0 [] (by simp) (by rw [cI]; omega) (by simp)
  rw [show ((0 : Nat) : Int) = 0 from rfl, List.nil_append, List.drop_zero] at hv
  rw [hr, ab, hv, Fq hT hb (by simp; omega) hsz, if_pos hg]
theorem KZ {t : ae} {n : Int} {b : List Int} {l : List aa} (hn : 0 ≤ n ∧ n ≤ 1048576) (hT : gR t < 1000000000) (hb : gU b) (h : Gd t n b l) : nr t n b = some (l, 0) := by
 have hB : aK = 1152921504606846974 + 2 := rfl
 have hg := Fc h
 have hlen := h.len
 have hsz := h.sz
 unfold nr
 rcases C7 hn hT h with ⟨h4, ss, k, rfl, hs, hl, hln, hk, rfl⟩ | ⟨h4, ns, k, rfl, hs, hl, hln, hk, rfl⟩
 ·rw [nv, ab, show (t.kind == 4) = true by simp [h4], aE]
  simp only
  have hr := J1 hl hs hk 1152921504606846974
  rw [hln, ← hB] at hr
  have hv := ND t n (k :: kB k ss) (ss, ⟨[], false⟩) hl ss.length aK 0 [] (by simp) (by rw [cI]; omega) (by simp)
  rw [show ((0 : Nat) : Int) = 0 from rfl, List.nil_append, List.drop_zero] at hv
  rw [hJ (x := k) (by omega) (by omega), hr, ab, hv, CP hT hb (by simp; omega) hsz, if_pos hg]
 ·rw [nv, ab, show (t.kind == 4) = false by simp [h4], aj]
  simp only
  have hr := MZ hl hs hk 1152921504606846974
  rw [hln, ← hB] at hr
  have hv := NU t n (k :: enc k ns) (ns, ⟨[], false⟩) hl ns.length aK 0 [] (by simp) (by rw [cI]; omega) (by simp)
  rw [show ((0 : Nat) : Int) = 0 from rfl, List.nil_append, List.drop_zero] at hv
  rw [hJ (x := k) (by omega) (by omega), decide_eq_true (by omega), aE, hr, ab, hv, CP hT hb (by simp; omega) hsz, if_pos hg]
theorem JC {t : ae} {n : Int} {b : List Int} {l : List aa} (hn : 0 ≤ n ∧ n ≤ 1048576) (hT : gR t < 1000000000) (hk : t.kind ≠ 6 ∧ t.kind ≠ 7) (h : Gd t n b l) : hO l l = some 0 := by
 have hlen := h.len
 refine sK (fun v hv => ⟨⟨xu (h.sz v hv) hT (h.ok v hv), ?_⟩, ?_⟩) (by omega)
 ·rcases h.form with ⟨h4, ss, rfl⟩ | ⟨h4, ns, rfl⟩
  ·obtain ⟨s, _, rfl⟩ := List.mem_map.1 hv
   exact ⟨by show (4 : Int) ≠ 6; omega, by show (4 : Int) ≠ 7; omega⟩
  ·obtain ⟨s, _, rfl⟩ := List.mem_map.1 hv
   exact hk
 ·have := h.sz v hv
  rw [Ck.sizeV_eq] at this; omega
theorem Hq {t : ae} (hT : gR t < 1000000000) (n : Int) {b : List Int} (hb : gU b) (hbl : b.length ≤ 10000000) :
  ∃ r, oX t n b = some r ∧ qQ t n b = some r ∧ hO r.1 r.1 = some 0 := by
 have nil : hO ([] : List aa) [] = some 0 := sK (fun v hv => by cases hv) (by simp)
 obtain ⟨e, h1, h2, h3⟩ := Gp t hT
 unfold oX qQ
 rw [h1, h2, ab, ab]
 by_cases he : e = 0
 ·subst he
  rw [show ((0 : Int) != 0) = false from rfl, aj, aj]
  unfold mb nX
  by_cases hn0 : n < 0
  ·rw [decide_eq_true hn0, aE, aE, aE, aE]; exact ⟨_, rfl, rfl, nil⟩
  ·rw [decide_eq_false hn0, aj, aj]
   by_cases hn1 : 1048576 < n
   ·rw [decide_eq_true hn1, aE, aE]; exact ⟨_, rfl, rfl, nil⟩
   ·have hn : 0 ≤ n ∧ n ≤ 1048576 := by omega
    rw [decide_eq_false hn1, aj, aj]
    obtain ⟨r, r1, r2⟩ := NW hT hn hb hbl
    obtain ⟨s, s1, s2⟩ := NP hT hn hb hbl
    rw [r1, s1, ab, ab]
    rcases r2 with ⟨a1, a2⟩ | rfl
    ·have := KZ hn hT hb a2
     rw [s1] at this
     obtain rfl := Option.some.inj this
     rw [a1, Bool.not_true, aj]
     exact ⟨_, rfl, rfl, JC hn hT (h3 rfl) a2⟩
    ·rcases s2 with ⟨a1, a2⟩ | rfl
     ·have := Kh hn hT hb a2
      rw [r1] at this
      have := congrArg Prod.snd (Option.some.inj this)
      cases this
     ·exact ⟨_, rfl, rfl, nil⟩
 ·rw [show (e != (0 : Int)) = true by simp [he], aE, aE]
  exact ⟨_, rfl, rfl, nil⟩
theorem DA (t : ae) (n : Int) (l : List aa) (b : List Int) (hT : gR t < 1000000000) (hl : l.length ≤ 10000000) (hv : ∀ v ∈ l, fI v < 1000000000) (hb : gU b) (hbl : b.length ≤ 10000000) :
  fW t n l b = some true := by
 obtain ⟨r, a1, a2, a3⟩ := GQ hT hl hv
 obtain ⟨s, b1, b2, b3⟩ := Hq hT n hb hbl
 unfold fW bD
 rw [a1, a2, b1, b2, Ee]
 simp only [ab, aE, beq_self_eq_true]
 rw [IW a3 a3, ab, decide_eq_true rfl, aE, b3]
 rfl
end Go.Proofs.YtnecojeemmnnaaaGreatDoor
namespace Go.Proofs.YtnecojeemmnnaaaGreatDoor.Ck
open Go Go.SX Go.SX.Cal
theorem xj : ∀ l : List aa, pJ l = (l.map fI).sum
 | [] => by simp [pJ]
 | x :: l => by simp [pJ, xj l]
theorem Ou (k n sc : Int) (s : ByteArray) (it : List aa) : fI ⟨k, n, sc, s, it⟩ ≤ s.size + (it.map fI).sum + 6 := by
 simp only [fI, xj]; omega
theorem AW : ∀ l : List aV, te l = (l.map ue).sum
 | [] => by simp [te]
 | x :: l => by simp [te, AW l]
theorem Mn (k s : Int) (fs : List aV) : gR ⟨k, s, fs⟩ ≤ (fs.map ue).sum + 4 := by
 rw [wO, AW]; simp only; omega
theorem MJ (i : Int) (n : ByteArray) (q : Bool) (t : ae) : ue ⟨i, n, q, t⟩ ≤ n.size + gR t + 4 := by
 rw [ov]; simp only; omega
end Go.Proofs.YtnecojeemmnnaaaGreatDoor.Ck
namespace Go.Proofs.YtnecojeemmnnaaaGreatDoor
open Go Go.SX Go.SX.Cal
open Ck (fI gR pJ)
theorem Ka (t : ae) (n : Int) (l : List aa) (b : List Int) (hT : gR t < 1000000000) (hl : pJ l ≤ 10000000) (hb : gU b) (hbl : b.length ≤ 10000000) : fW t n l b = some true :=
 DA t n l b hT (Nat.le_trans (Ck.sizeL_len l) hl) (fun v hv => by have := Ck.sizeL_mem hv; omega) hb hbl
end Go.Proofs.YtnecojeemmnnaaaGreatDoor
