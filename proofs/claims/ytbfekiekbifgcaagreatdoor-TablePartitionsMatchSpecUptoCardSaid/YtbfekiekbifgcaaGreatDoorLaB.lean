/- A part of the proof. Numbers of 256 bits: what 'times' and 'compare' compute. Comparing numbers of 256 bits. Compare, in plain terms. Compare is a total order. What the reference compares. The reference's Compare, in plain terms; the law 'ValueOrderMatchesSpec'. Partitions: suits and the fields at the top, of both sides. -/
import Derived.Lib.ValidLaws
import Derived.ChangeKeysEq
import Derived.Test.YtbfekiekbifgcaaGreatDoorLaA
set_option linter.unusedVariables false
set_option linter.unusedSimpArgs false
set_option linter.unnecessarySimpa false
namespace Go.Proofs.YtbfekiekbifgcaaGreatDoor
open Go Go.SX Go.SX.Cal Go.Lib
theorem vv (s : ByteArray) : ∀ k i, i ≤ s.size → s.size - i < k → eo s k i = some (first (tU s) i s.size).isNone := by
 intro k
 induction k with
 | zero => intro i _ h; omega
 | succ k ih =>
  intro i hi hk
  rw [eo]
  by_cases h : i = s.size
  ·subst h
   rw [iz]
   simp only [Nat.lt_irrefl, decide_false, ae, nH]
   rfl
  ·have hlt : i < s.size := by omega
   simp only [hlt, decide_true, af, lr, au]
   by_cases hb : eE s i < 128
   ·rw [qo s i hlt hb, gb hlt]
    by_cases h1 : eE s i < 32
    ·have : tU s i = true := by simp [tU, h1]
     simp [this, show ((eE s i : Nat) : Int) < 32 by omega]
    ·have e1 : ¬ ((eE s i : Nat) : Int) < 32 := by omega
     by_cases h2 : eE s i = 127
     ·have : tU s i = true := by simp [tU, h2]
      simp [this, h2]
     ·have : tU s i = false := by simp [tU, h1, h2]
      have e2 : ¬ ((eE s i : Nat) : Int) = 127 := by omega
      simp only [this, Int.ofNat_eq_natCast, e1, decide_false, Bool.false_eq_true, if_false, beq_iff_eq, e2]
      exact ih (i + 1) (by omega) (by omega)
   ·have h1 := qG s i hlt hb
    obtain ⟨h2, h3, h4⟩ := sK s i hlt hb
    have e1 : ¬ (((Utf8.decode s i).1 : Nat) : Int) < 32 := by omega
    have e2 : ¬ (((Utf8.decode s i).1 : Nat) : Int) = 127 := by omega
    simp only [Int.ofNat_eq_natCast, e1, decide_false, Bool.false_eq_true, if_false, beq_iff_eq, e2]
    rw [ih _ h3 (by omega), oU _ i h3 (fun j a b => by
     have := h4 j a b
     simp only [tU, Bool.or_eq_false_iff, decide_eq_false_iff_not, beq_eq_false_iff_ne]
     omega)]
    simp
theorem uS (s : ByteArray) (hs : s.size < 1000000000) : ∀ k i, i ≤ s.size → s.size - i < k → cm s k (i : Int) = some (first (tU s) i s.size).isNone := by
 intro k
 induction k with
 | zero => intro i _ h; omega
 | succ k ih =>
  intro i hi hk
  rw [cm]
  by_cases h : i = s.size
  ·subst h
   rw [iz]
   simp only [Int.lt_irrefl, decide_false, ae, jN]
   rfl
  ·have hlt : i < s.size := by omega
   have g : (0 : Int) ≤ (i : Int) ∧ (i : Int) < (s.size : Int) := ⟨by omega, by omega⟩
   have e : ((s.data.toList.getD (i : Int).toNat 0).toNat : Int) = (eE s i : Int) := by simp [eE]
   simp only [bn hlt, af, eZ, if_pos g, am, hJ, au, e]
   rw [gb hlt, aG hlt hs]
   by_cases h1 : eE s i < 32
   ·have : tU s i = true := by simp [tU, h1]
    simp [this, show ((eE s i : Nat) : Int) < 32 by omega]
   ·have e1 : ¬ ((eE s i : Nat) : Int) < 32 := by omega
    by_cases h2 : eE s i = 127
    ·have : tU s i = true := by simp [tU, h2]
     simp [this, h2]
    ·have : tU s i = false := by simp [tU, h1, h2]
     have e2 : ¬ ((eE s i : Nat) : Int) = 127 := by omega
     simp only [this, e1, decide_false, Bool.false_eq_true, if_false, beq_iff_eq, e2]
     exact ih (i + 1) (by omega) (by omega)
def kd (s : ByteArray) : Bool := decide (s.size ≤ 256) && (validD s.data.toList && (first (tU s) 0 s.size).isNone)
theorem zJ (s : ByteArray) (hs : s.size < 1000000000) : utf8_ValidString s = some (validD s.data.toList) := by
 unfold utf8_ValidString eZ
 rw [if_pos (by omega)]
theorem HY (s : ByteArray) (hs : s.size < 1000000000) : mR s = some (kd s) := by
 unfold mR lD kd
 rw [zJ s hs, vv s aV 0 (by omega) (by rw [aI]; omega)]
 by_cases h : s.size ≤ 256
 ·have : ¬ (256 : Int) < (s.size : Int) := by omega
  simp only [this, h, decide_false, decide_true, ae, am]
  cases validD s.data.toList <;> rfl
 ·have : (256 : Int) < (s.size : Int) := by omega
  simp only [this, h, decide_false, decide_true, af]
  rfl
theorem EB (s : ByteArray) (hs : s.size < 1000000000) : iB s = some (kd s) := by
 have := uS s hs aV 0 (by omega) (by rw [aI]; omega)
 unfold iB gY kd
 rw [zJ s hs, show (0 : Int) = ((0 : Nat) : Int) from rfl, this]
 by_cases h : s.size ≤ 256
 ·have e : ¬ (256 : Int) < (s.size : Int) := by omega
  simp only [e, h, decide_false, decide_true, am]
  cases validD s.data.toList <;> rfl
 ·have e : (256 : Int) < (s.size : Int) := by omega
  simp only [e, h, decide_false, decide_true, am]
  cases validD s.data.toList <;> rfl
theorem Ba (a b c : Int) : cz a b c = some (decide (b ≤ a) && decide (a ≤ c)) := by
 unfold cz ga; exact ow _ _
theorem B2 (a b c : Int) : cF a b c = some (decide (b ≤ a) && decide (a ≤ c)) := by
 unfold cF gZ; exact ow _ _
def du (v : ac) : Bool :=
 let bare := v.n == 0 && v.scale == 0
 let noS := decide (v.s.size = 0)
 let noI := ((v.items.length : Int) == 0)
 if v.kind = 0 then bare && (noS && noI)
 else if v.kind = 1 then (decide (0 ≤ v.n) && decide (v.n ≤ 1)) && (v.scale == 0 && (noS && noI))
 else if v.kind = 2 then (decide (-999999999999999999 ≤ v.n) && decide (v.n ≤ 999999999999999999)) && (v.scale == 0 && (noS && noI))
 else if v.kind = 3 then (decide (-999999999999999999 ≤ v.n) && decide (v.n ≤ 999999999999999999)) && ((decide (0 ≤ v.scale) && decide (v.scale ≤ 12)) && (noS && noI))
 else if v.kind = 4 then bare && (kd v.s && noI)
 else if v.kind = 5 then (decide (-62135596800 ≤ v.n) && decide (v.n ≤ 253402300799)) && (v.scale == 0 && (noS && noI))
 else if v.kind = 6 then bare && (noS && decide ((v.items.length : Int) ≤ 64))
 else if v.kind = 7 then bare && (noS && decide ((0 : Int) < (v.items.length : Int)))
 else false
theorem DP (v : ac) (hs : v.s.size < 1000000000) : lW v = some (du v) := by
 have j : ∀ x, ik v x = some (if v.kind = 0 then x && (decide (v.s.size = 0) && ((v.items.length : Int) == 0))
   else if v.kind = 1 then (decide (0 ≤ v.n) && decide (v.n ≤ 1)) && (v.scale == 0 && (decide (v.s.size = 0) && ((v.items.length : Int) == 0)))
   else if v.kind = 2 then (decide (-999999999999999999 ≤ v.n) && decide (v.n ≤ 999999999999999999)) && (v.scale == 0 && (decide (v.s.size = 0) && ((v.items.length : Int) == 0)))
   else if v.kind = 3 then (decide (-999999999999999999 ≤ v.n) && decide (v.n ≤ 999999999999999999)) && ((decide (0 ≤ v.scale) && decide (v.scale ≤ 12)) && (decide (v.s.size = 0) && ((v.items.length : Int) == 0)))
   else if v.kind = 4 then x && (kd v.s && ((v.items.length : Int) == 0))
   else if v.kind = 5 then (decide (-62135596800 ≤ v.n) && decide (v.n ≤ 253402300799)) && (v.scale == 0 && (decide (v.s.size = 0) && ((v.items.length : Int) == 0)))
   else if v.kind = 6 then x && (decide (v.s.size = 0) && decide ((v.items.length : Int) ≤ 64))
   else if v.kind = 7 then x && (decide (v.s.size = 0) && decide ((0 : Int) < (v.items.length : Int)))
   else false) := by
  intro x
  unfold ik jp gX gR hH jo gV jg jl
  simp only [Ba, HY v.s hs, am, ow, gM]
  simp only [au, beq_iff_eq]
  repeat' split
  all_goals (first | rfl | simp_all)
 unfold lW
 rw [j, j]
 unfold du
 cases v.n == 0
 ·simp only [ae, Bool.false_and]
 ·simp only [af, Bool.true_and]
theorem ED (v : ac) (hs : v.s.size < 1000000000) : nh v = some (du v) := by
 have j : ∀ x, i5 v x = some (if v.kind = 0 then x && (v.n == 0 && v.scale == 0)
   else if v.kind = 1 then x && ((decide (0 ≤ v.n) && decide (v.n ≤ 1)) && v.scale == 0)
   else if v.kind = 2 then x && ((decide (-999999999999999999 ≤ v.n) && decide (v.n ≤ 999999999999999999)) && v.scale == 0)
   else if v.kind = 3 then x && ((decide (-999999999999999999 ≤ v.n) && decide (v.n ≤ 999999999999999999)) && (decide (0 ≤ v.scale) && decide (v.scale ≤ 12)))
   else if v.kind = 4 then ((v.items.length : Int) == 0) && (v.n == 0 && (v.scale == 0 && kd v.s))
   else if v.kind = 5 then x && ((decide (-62135596800 ≤ v.n) && decide (v.n ≤ 253402300799)) && v.scale == 0)
   else if v.kind = 6 then decide (v.s.size = 0) && (v.n == 0 && (v.scale == 0 && decide ((v.items.length : Int) ≤ 64)))
   else if v.kind = 7 then decide (v.s.size = 0) && (v.n == 0 && (v.scale == 0 && decide ((0 : Int) < (v.items.length : Int))))
   else false) := by
  intro x
  unfold i5 j4 j5 j6 j9 i6 j0 iW iZ
  simp only [B2, EB v.s hs, am, ow, gM]
  simp only [au, beq_iff_eq]
  repeat' split
  all_goals (first | rfl | simp_all)
 unfold nh
 rw [j, j, gM]
 unfold du
 generalize decide (v.s.size = 0) = a
 generalize ((v.items.length : Int) == 0) = b
 generalize kd v.s = t
 generalize (v.n == 0) = c
 generalize (v.scale == 0) = d
 generalize (decide (0 ≤ v.n) && decide (v.n ≤ 1)) = e1
 generalize (decide (-999999999999999999 ≤ v.n) && decide (v.n ≤ 999999999999999999)) = e2
 generalize (decide (0 ≤ v.scale) && decide (v.scale ≤ 12)) = e3
 generalize (decide (-62135596800 ≤ v.n) && decide (v.n ≤ 253402300799)) = e4
 generalize decide ((v.items.length : Int) ≤ 64) = e5
 generalize decide ((0 : Int) < (v.items.length : Int)) = e6
 cases a <;> simp only [ae, af] <;> congr 1 <;> repeat' split
 all_goals (first | rfl | (cases b <;> cases c <;> cases d <;> simp <;> done) | (simp [Bool.and_comm, Bool.and_assoc, Bool.and_left_comm]))
def dF (f : ac → Int → Bool × Int) : List ac → Int → Bool × Int
 | [], z => (true, z)
 | v :: l, z => if (f v z).1 = true then dF f l (f v z).2 else (false, (f v z).2)
def oF (v : ac) (z : Int) : Int := if v.kind = 0 then z else z + 1
def bW : Nat → ac → Int → Bool × Int
 | 0, v, z => (false, oF v z)
 | d + 1, v, z => if 256 < oF v z ∨ du v = false then (false, oF v z) else dF (bW d) v.items (oF v z)
def jM (v : ac) : Bool := (bW 4 v 0).1
theorem qF {f : ac → Int → Bool × Int} : ∀ {l : List ac} {z : Int}, (∀ v ∈ l, ∀ z, 0 ≤ z → z ≤ 256 → 0 ≤ (f v z).2 ∧ (f v z).2 ≤ 257 ∧ ((f v z).1 = true → (f v z).2 ≤ 256)) → 0 ≤ z → z ≤ 256 →
  0 ≤ (dF f l z).2 ∧ (dF f l z).2 ≤ 257 ∧ ((dF f l z).1 = true → (dF f l z).2 ≤ 256)
 | [], z, _, h0, h1 => by simp only [dF]; omega
 | v :: l, z, hf, h0, h1 => by
  obtain ⟨a, b, c⟩ := hf v (by simp) z h0 h1
  simp only [dF]
  split
  ·rename_i h
   exact qF (fun x hx => hf x (by simp [hx])) a (c h)
  ·exact ⟨a, b, fun h => by cases h⟩
theorem mX : ∀ (d : Nat) (v : ac) (z : Int), 0 ≤ z → z ≤ 256 → 0 ≤ (bW d v z).2 ∧ (bW d v z).2 ≤ 257 ∧ ((bW d v z).1 = true → (bW d v z).2 ≤ 256)
 | 0, v, z, h0, h1 => by
  have hc : z ≤ oF v z ∧ oF v z ≤ z + 1 := by unfold oF; split <;> omega
  simp only [bW]
  exact ⟨by omega, by omega, fun h => by cases h⟩
 | d + 1, v, z, h0, h1 => by
  have hc : z ≤ oF v z ∧ oF v z ≤ z + 1 := by unfold oF; split <;> omega
  simp only [bW]
  split
  ·exact ⟨by omega, by omega, fun h => by cases h⟩
  ·rename_i h
   have : ¬ 256 < oF v z := fun e => h (.inl e)
   exact qF (fun x _ => mX d x) (by omega) (by omega)
theorem mE (v : ac) (z : Int) (h0 : 0 ≤ z) (h1 : z ≤ 256) {β : Type} (f : Int → Option β) : aA (v.kind != (0 : Int)) (f (IntKind.i64.wrap (z + 1))) (f z) = f (oF v z) := by
 rw [fi (by omega) (by omega)]
 unfold oF
 by_cases h : v.kind = 0
 ·simp [h, au]
 ·simp [h, au]
theorem rN {d : Nat} (l : Int) (q : ac → Int → Int → Option (Bool × Int)) (xs : List ac) (hl : xs.length < 1000000000)
  (hq : ∀ v ∈ xs, ∀ z, 0 ≤ z → z ≤ 256 → q v l z = some (!(bW d v z).1, (bW d v z).2)) : ∀ (k i : Nat) (z : Int), i ≤ xs.length → xs.length - i < k → 0 ≤ z → z ≤ 256 →
  ∃ r : Int, aC q xs l k z (i : Int) = some (r, (dF (bW d) (xs.drop i) z).2) ∧ decide (0 ≤ r) = !(dF (bW d) (xs.drop i) z).1 := by
 intro k
 induction k with
 | zero => intro i z _ h; omega
 | succ k ih =>
  intro i z hi hk h0 h1
  rw [aC]
  by_cases h : i = xs.length
  ·subst h
   simp only [Int.lt_irrefl, decide_false, ae, List.drop_length, dF, bo]
   exact ⟨-1, rfl, rfl⟩
  ·have hlt : i < xs.length := by omega
   have hm : xs[i] ∈ xs := List.getElem_mem hlt
   simp only [bn hlt, af, aZ hlt, am, hq _ hm z h0 h1]
   rw [List.drop_eq_getElem_cons hlt]
   simp only [dF]
   obtain ⟨a, b, c⟩ := mX d xs[i] z h0 h1
   cases hs : (bW d xs[i] z).1 with
   | false =>
    simp only [Bool.not_false, af, Bool.false_eq_true, if_false]
    exact ⟨_, rfl, by simp⟩
   | true =>
    simp only [Bool.not_true, ae, if_true]
    rw [aG hlt hl]
    exact ih (i + 1) _ (by omega) (by omega) a (c hs)
theorem xa : ∀ (d k : Nat) (v : ac) (z : Int), d ≤ 4 → 4 * d + 4 ≤ k → bO v < 1000000000 → 0 ≤ z → z ≤ 256 → fK k v (5 - d : Int) z = some (bW d v z) := by
 intro d
 induction d with
 | zero =>
  intro k v z _ hk hs h0 h1
  obtain ⟨k, rfl⟩ : ∃ q, k = q + 1 := ⟨k - 1, by omega⟩
  rw [fK, mE v z h0 h1]
  unfold ij fE
  simp [bW, af]
 | succ d ih =>
  intro k v z hd hk hs h0 h1
  obtain ⟨k, rfl⟩ : ∃ q, k = q + 4 := ⟨k - 4, by omega⟩
  have hsz := kM v
  have hlen := cP v.items
  rw [fK, mE v z h0 h1]
  unfold ij fE
  rw [DP v (by omega)]
  have e4 : ¬ (4 : Int) < 5 - ((d + 1 : Nat) : Int) := by omega
  have hc : z ≤ oF v z ∧ oF v z ≤ z + 1 := by unfold oF; split <;> omega
  simp only [e4, decide_false, ae, bW, am]
  by_cases h2 : (256 : Int) < oF v z
  ·simp [h2, af]
  ·cases hp : du v with
   | false => simp [h2, af, ae]
   | true =>
    simp only [h2, decide_false, ae, Bool.not_true, false_or, Bool.true_eq_false, if_false]
    have := rN (d := d) (5 - ((d + 1 : Nat) : Int)) (eD (k + 1)) v.items (by omega) (by
     intro x hx z h0 h1
     have := cY hx
     rw [eD, fi (by omega) (by omega), show (5 - ((d + 1 : Nat) : Int) + 1) = 5 - (d : Int) by omega, ih k x z (by omega) (by omega) (by omega) h0 h1]
     rfl) aV 0 (oF v z) (by omega) (by rw [aI]; omega) (by omega) (by omega)
    obtain ⟨r, e1, e2⟩ := this
    rw [show ((0 : Nat) : Int) = (0 : Int) from rfl] at e1
    rw [aB, aU, e1]
    simp only [am, e2, List.drop_zero, Bool.not_not]
theorem xp (v : ac) (hs : bO v < 1000000000) : jz v = some (jM v) := by
 unfold jz jM
 have := xa 4 aV v 0 (by omega) (by rw [aI]; omega) hs (by omega) (by omega)
 rw [show (5 - ((4 : Nat) : Int)) = (1 : Int) from rfl] at this
 rw [this]; rfl
theorem sN {d : Nat} (l : Int) (hl0 : 0 ≤ l) (hl1 : l ≤ 100) (q : ac → Int → Int → Option (Bool × Int)) (v : ac) (hl : v.items.length < 1000000000)
  (hq : ∀ x ∈ v.items, ∀ z, 0 ≤ z → z ≤ 256 → q x (l + 1) z = some (bW d x z)) : ∀ (k i : Nat) (z : Int), i ≤ v.items.length → v.items.length - i < k → 0 ≤ z → z ≤ 256 →
  fv q v l k z (i : Int) = some (dF (bW d) (v.items.drop i) z) := by
 intro k
 induction k with
 | zero => intro i z _ h; omega
 | succ k ih =>
  intro i z hi hk h0 h1
  rw [fv]
  by_cases h : i = v.items.length
  ·subst h
   simp only [Int.lt_irrefl, decide_false, ae, List.drop_length, dF, ny]
  ·have hlt : i < v.items.length := by omega
   have hm : v.items[i] ∈ v.items := List.getElem_mem hlt
   rw [fi (x := l + 1) (by omega) (by omega)]
   simp only [bn hlt, af, aZ hlt, am, hq _ hm z h0 h1]
   rw [List.drop_eq_getElem_cons hlt]
   simp only [dF]
   obtain ⟨a, b, c⟩ := mX d v.items[i] z h0 h1
   cases hs : (bW d v.items[i] z).1 with
   | false => simp only [Bool.not_false, af, Bool.false_eq_true, if_false]
   | true =>
    simp only [Bool.not_true, ae, if_true]
    rw [aG hlt hl]
    exact ih (i + 1) _ (by omega) (by omega) a (c hs)
theorem xD : ∀ (d k : Nat) (v : ac) (z : Int), d ≤ 4 → d + 1 ≤ k → bO v < 1000000000 → 0 ≤ z → z ≤ 256 → dI k v (5 - d : Int) z = some (bW d v z) := by
 intro d
 induction d with
 | zero =>
  intro k v z _ hk hs h0 h1
  obtain ⟨k, rfl⟩ : ∃ q, k = q + 1 := ⟨k - 1, by omega⟩
  rw [dI, mE v z h0 h1]
  unfold iU gE
  simp [bW, af]
 | succ d ih =>
  intro k v z hd hk hs h0 h1
  obtain ⟨k, rfl⟩ : ∃ q, k = q + 1 := ⟨k - 1, by omega⟩
  have hsz := kM v
  have hlen := cP v.items
  rw [dI, mE v z h0 h1]
  unfold iU gE
  rw [ED v (by omega)]
  have e4 : ¬ (4 : Int) < 5 - ((d + 1 : Nat) : Int) := by omega
  have hc : z ≤ oF v z ∧ oF v z ≤ z + 1 := by unfold oF; split <;> omega
  simp only [e4, decide_false, ae, bW, am]
  by_cases h2 : (256 : Int) < oF v z
  ·simp [h2, af]
  ·cases hp : du v with
   | false => simp [h2, af, ae]
   | true =>
    simp only [h2, decide_false, ae, Bool.not_true, false_or, Bool.true_eq_false, if_false]
    have := sN (d := d) (5 - ((d + 1 : Nat) : Int)) (by omega) (by omega) (dI k) v (by omega) (by
     intro x hx z h0 h1
     have := cY hx
     rw [show (5 - ((d + 1 : Nat) : Int) + 1) = 5 - (d : Int) by omega]
     exact ih k x z (by omega) (by omega) (by omega) h0 h1) aV 0 (oF v z) (by omega) (by rw [aI]; omega) (by omega) (by omega)
    rw [show ((0 : Nat) : Int) = (0 : Int) from rfl, List.drop_zero] at this
    exact this
theorem BO (v : ac) (hs : bO v < 1000000000) : kH v = some (jM v) := by
 unfold kH jM
 have := xD 4 aV v 0 (by omega) (by rw [aI]; omega) hs (by omega) (by omega)
 rw [show (5 - ((4 : Nat) : Int)) = (1 : Int) from rfl] at this
 rw [this]; rfl
end Go.Proofs.YtbfekiekbifgcaaGreatDoor
namespace Go.Proofs.YtbfekiekbifgcaaGreatDoor
open Go Go.SX Go.SX.Cal
theorem oL : ∀ l : List ac, sizeL l = (l.map bO).sum
 | [] => by simp [sizeL]
 | x :: l => by simp [sizeL, oL l]
theorem Kf (k n sc : Int) (s : ByteArray) (it : List ac) : bO ⟨k, n, sc, s, it⟩ ≤ s.size + (it.map bO).sum + 6 := by
 simp only [bO, oL]; omega
theorem oN : ∀ l : List ah, sizeF l = (l.map kL).sum
 | [] => by simp [sizeF]
 | x :: l => by simp [sizeF, oN l]
theorem H0 (k s : Int) (fs : List ah) : gi ⟨k, s, fs⟩ ≤ (fs.map kL).sum + 4 := by
 rw [mD, oN]; simp only; omega
theorem H4 (i : Int) (n : ByteArray) (q : Bool) (t : aq) : kL ⟨i, n, q, t⟩ ≤ n.size + gi t + 4 := by
 rw [eM]; simp only; omega
end Go.Proofs.YtbfekiekbifgcaaGreatDoor
namespace Go.Proofs.YtbfekiekbifgcaaGreatDoor
open Go Go.SX Go.SX.Cal Go.Lib
theorem fb (a : Int) : c3 a a = 0 := by unfold c3; rw [if_neg (by omega), if_neg (by omega)]
theorem xg {a b : List Int} (ha : dy a) (hb : dy b) (hl : a.length = b.length) (hbig : a.length < 1000000) : ∀ (k i : Nat), i ≤ a.length → i < k → aQ (a.drop i) = aQ (b.drop i) →
  ∃ r, gu a b k ((i : Int) - 1) = some r ∧ -9 ≤ r ∧ r ≤ 9 ∧ c3 r 0 = c3 (aQ a) (aQ b) := by
 intro k
 induction k with
 | zero => intro i h1 h2; omega
 | succ k ih =>
  intro i h1 h2 he
  rw [gu]
  cases i with
  | zero =>
   rw [show decide ((0 : Int) ≤ ((0 : Nat) : Int) - 1) = false from rfl, ae]
   simp only [List.drop_zero] at he
   exact ⟨0, rfl, by omega, by omega, by rw [he, fb, fb]⟩
  | succ i =>
   have hia : i < a.length := by omega
   have hib : i < b.length := by omega
   have e1 : ((i + 1 : Nat) : Int) - 1 = (i : Int) := by omega
   have aa : at? a (i : Int) = some a[i] := by unfold at?; simp [hia]
   have bb : at? b (i : Int) = some b[i] := by unfold at?; simp [hib]
   rw [e1, show decide ((0 : Int) ≤ (i : Int)) = true by simp, af, aa, bb]
   simp only [ar]
   have da : a.drop i = a[i] :: a.drop (i + 1) := List.drop_eq_getElem_cons hia
   have db : b.drop i = b[i] :: b.drop (i + 1) := List.drop_eq_getElem_cons hib
   have ra := ha a[i] (List.getElem_mem hia)
   have rb := hb b[i] (List.getElem_mem hib)
   by_cases hne : a[i] = b[i]
   ·rw [show (a[i] != b[i]) = false by simp [hne], ae, fi (by omega) (by omega)]
    refine ih i (by omega) (by omega) ?_
    rw [da, db]; simp only [aQ]; omega
   ·rw [show (a[i] != b[i]) = true by simp [hne], af, fi (by omega) (by omega)]
    refine ⟨_, rfl, by omega, by omega, ?_⟩
    have va : aQ a = aQ (a.take i) + cj i * aQ (a.drop i) := by
     have := cX (a.take i) (a.drop i)
     rw [List.take_append_drop, List.length_take, Nat.min_eq_left (by omega)] at this
     exact this
    have vb : aQ b = aQ (b.take i) + cj i * aQ (b.drop i) := by
     have := cX (b.take i) (b.drop i)
     rw [List.take_append_drop, List.length_take, Nat.min_eq_left (by omega)] at this
     exact this
    have la := ja (l := a.take i) (fun x hx => ha x (List.mem_of_mem_take hx))
    have lb := ja (l := b.take i) (fun x hx => hb x (List.mem_of_mem_take hx))
    have na := d8 (l := a.take i) (fun x hx => ha x (List.mem_of_mem_take hx))
    have nb := d8 (l := b.take i) (fun x hx => hb x (List.mem_of_mem_take hx))
    rw [List.length_take, Nat.min_eq_left (by omega)] at la lb
    rw [da] at va; rw [db] at vb
    simp only [aQ] at va vb
    have hp := BL i
    have key : cj i * (a[i] + 10 * aQ (a.drop (i + 1))) - cj i * (b[i] + 10 * aQ (b.drop (i + 1))) = cj i * (a[i] - b[i]) := by
     rw [← Int.mul_sub, he]; congr 1; omega
    unfold c3
    rcases Int.lt_or_gt_of_ne hne with hlt | hgt
    ·have : cj i * (a[i] - b[i]) ≤ cj i * (-1) := Int.mul_le_mul_of_nonneg_left (by omega) (by omega)
     rw [if_pos (by omega), if_pos (by omega)]
    ·have : cj i * 1 ≤ cj i * (a[i] - b[i]) := Int.mul_le_mul_of_nonneg_left (by omega) (by omega)
     rw [if_neg (by omega), if_pos (by omega), if_neg (by omega), if_pos (by omega)]
theorem Bi {a b : List Int} (ha : dy a) (hb : dy b) (ta : vw a) (tb : vw b) (la : a.length < 1000) (lb : b.length < 1000) : ∃ r, nk a b = some r ∧ -1000 ≤ r ∧ r ≤ 1000 ∧ c3 r 0 = c3 (aQ a) (aQ b) := by
 unfold nk
 by_cases hl : a.length = b.length
 ·rw [show ((a.length : Int) != (b.length : Int)) = false by simp [hl], ae, fi (by omega) (by omega)]
  obtain ⟨r, h1, h2, h3, h4⟩ := xg ha hb hl (by omega) aV a.length (Nat.le_refl _) (by rw [aI]; omega) (by rw [List.drop_length, hl, List.drop_length])
  exact ⟨r, h1, by omega, by omega, h4⟩
 ·have hne : ((a.length : Int) != (b.length : Int)) = true := by simp; omega
  rw [hne, af, fi (by omega) (by omega)]
  refine ⟨_, rfl, by omega, by omega, ?_⟩
  have l1 := ja ha
  have l2 := ja hb
  rcases Nat.lt_or_gt_of_ne hl with h | h
  ·have g := mA hb tb (by rintro rfl; simp at h)
   have := mw (show a.length ≤ b.length - 1 by omega)
   unfold c3; rw [if_pos (by omega), if_pos (by omega)]
  ·have g := mA ha ta (by rintro rfl; simp at h)
   have := mw (show b.length ≤ a.length - 1 by omega)
   unfold c3; rw [if_neg (by omega), if_pos (by omega), if_neg (by omega), if_pos (by omega)]
theorem vR : dy [] := fun _ h => by cases h
theorem B7 : vw [] := fun _ h => by cases h
theorem th {l : List Int} {x : Int} (h : dy l) (h0 : 0 ≤ x) (h1 : x ≤ 9) : dy (l ++ [x]) := by
 intro d hd
 rcases List.mem_append.1 hd with hd | hd
 ·exact h d hd
 ·simp at hd; subst hd; exact ⟨h0, h1⟩
theorem BP {l : List Int} {x : Int} (h : dy (l ++ [x])) : dy l ∧ 0 ≤ x ∧ x ≤ 9 :=
 ⟨fun d hd => h d (List.mem_append.2 (.inl hd)), h x (by simp)⟩
theorem CO {l : List Int} {x : Int} (h : x ≠ 0) : vw (l ++ [x]) := by
 intro d hd
 simp at hd
 subst hd; exact h
theorem Gm {l : List Int} {x : Int} (h : dy l) (h0 : 0 ≤ x) (h1 : x ≤ 9) : dy (x :: l) := by
 intro d hd
 rcases List.mem_cons.1 hd with rfl | hd
 ·exact ⟨h0, h1⟩
 ·exact h d hd
theorem zIO (b : Bool) : ∀ (k : Nat) (d : List Int), d.length < k → d.length < 1000000 → dy d →
  ∃ d', gF b k d = some ⟨b && decide (0 < d'.length), d'⟩ ∧ dy d' ∧ vw d' ∧ aQ d' = aQ d ∧ d'.length ≤ d.length := by
 intro k
 induction k with
 | zero => intro d h; omega
 | succ k ih =>
  intro d hk hl hd
  rw [gF]
  have fin : ∀ x : List Int, lX (gF b k) b x false = some ⟨b && decide (0 < x.length), x⟩ := by
   intro x
   unfold lX sL pO
   cases b <;> simp [au]
  rcases List.eq_nil_or_concat d with rfl | ⟨l, x, rfl⟩
  ·rw [show decide ((0 : Int) < (([] : List Int).length : Int)) = false from rfl, ae, fin]
   exact ⟨[], rfl, vR, B7, rfl, Nat.le_refl _⟩
  ·rw [List.concat_eq_append] at *
   have hlen : (l ++ [x]).length = l.length + 1 := by simp
   have e1 : IntKind.i64.wrap (((l ++ [x]).length : Int) - 1) = (l.length : Int) := by rw [hlen, fi (by omega) (by omega)]; omega
   have e2 : at? (l ++ [x]) (l.length : Int) = some x := by unfold at?; simp
   obtain ⟨dl, x0, x9⟩ := BP hd
   rw [show decide ((0 : Int) < ((l ++ [x]).length : Int)) = true by simp, af, e1, e2, am]
   by_cases hx : x = 0
   ·subst hx
    rw [show ((0 : Int) == 0) = true from rfl]
    unfold lX
    rw [af, e1]
    unfold eZ
    rw [if_pos (by omega)]
    have e3 : ((l ++ [(0 : Int)]).drop (0 : Int).toNat).take ((l.length : Int).toNat - (0 : Int).toNat) = l := by simp
    rw [e3]
    obtain ⟨d', h1, h2, h3, h4, h5⟩ := ih l (by omega) (by omega) dl
    refine ⟨d', h1, h2, h3, ?_, by omega⟩
    rw [h4, cX]; simp [aQ]
   ·rw [show (x == 0) = false by simp [hx], fin]
    exact ⟨_, rfl, hd, CO hx, rfl, Nat.le_refl _⟩
theorem DL (b : Bool) (d : List Int) (hl : d.length < 1000000) (hd : dy d) :
  ∃ d', lE b d = some ⟨b && decide (0 < d'.length), d'⟩ ∧ dy d' ∧ vw d' ∧ aQ d' = aQ d ∧ d'.length ≤ d.length := by
 unfold lE
 exact zIO b aV d (by rw [aI]; omega) hl hd
def kw (a : List Int) (i : Nat) : Int := a.getD i 0
theorem u4 {a : List Int} {i : Nat} (h : i < a.length) : a[i] = kw a i := by simp [kw, h]
theorem qK {a : List Int} {i : Nat} (h : a.length ≤ i) : kw a i = 0 := by simp [kw, h]
theorem l7 {a : List Int} (ha : dy a) (i : Nat) : 0 ≤ kw a i ∧ kw a i ≤ 9 := by
 by_cases h : i < a.length
 ·rw [← u4 h]; exact ha _ (List.getElem_mem h)
 ·rw [qK (by omega)]; omega
theorem EZ {a : List Int} (ta : vw a) {i : Nat} (h : i + 1 = a.length) : kw a i ≠ 0 := by
 have hi : i < a.length := by omega
 rw [← u4 hi]
 refine ta _ ?_
 rw [List.getLast?_eq_getElem?, show a.length - 1 = i by omega, List.getElem?_eq_getElem hi]
theorem qJ (a : List Int) (i : Nat) : aQ (a.take (i + 1)) = aQ (a.take i) + cj i * kw a i := by
 by_cases h : i < a.length
 ·rw [List.take_succ_eq_append_getElem h, cX, List.length_take, Nat.min_eq_left (by omega), u4 h]
  simp [aQ]
 ·rw [qK (by omega), List.take_of_length_le (by omega), List.take_of_length_le (by omega)]; simp
theorem Iu {n : Int} (h0 : 0 ≤ n) : n.tdiv 10 = n / 10 := Int.tdiv_eq_ediv_of_nonneg h0
theorem HC {n : Int} (h0 : 0 ≤ n) : n.tmod 10 = n % 10 := Int.tmod_eq_emod_of_nonneg h0
theorem GI {a b : List Int} (ha : dy a) (hb : dy b) (la : a.length < 1000000) (lb : b.length < 1000000) (k i : Nat) (l : List Int) (c : Int) (hl : l.length = i) (hi : i < 1000002) (c0 : 0 ≤ c) (c1 : c ≤ 1)
  (hc : i < a.length ∨ i < b.length ∨ 0 < c) :
  bL a b (k + 1) l c (i : Int) = bL a b k (l ++ [(c + kw a i + kw b i) % 10]) ((c + kw a i + kw b i) / 10) ((i + 1 : Nat) : Int) := by
 obtain ⟨a0, a9⟩ := l7 ha i
 obtain ⟨b0, b9⟩ := l7 hb i
 have j3 : ∀ n : Int, n = c + kw a i + kw b i → md (bL a b k) l (i : Int) n = bL a b k (l ++ [(c + kw a i + kw b i) % 10]) ((c + kw a i + kw b i) / 10) ((i + 1 : Nat) : Int) := by
  rintro n rfl
  unfold md eZ
  rw [if_pos (by omega), Iu (by omega), HC (by omega), fi (x := (c + kw a i + kw b i) / 10) (by omega) (by omega), fi (by omega) (by omega), show (i : Int) + 1 = ((i + 1 : Nat) : Int) by omega]
 have j2 : my (bL a b k) b l (i : Int) (c + kw a i) = bL a b k (l ++ [(c + kw a i + kw b i) % 10]) ((c + kw a i + kw b i) / 10) ((i + 1 : Nat) : Int) := by
  unfold my
  by_cases h : i < b.length
  ·rw [bn h, af, aZ h, am, u4 h, fi (by omega) (by omega)]
   exact j3 _ rfl
  ·rw [show decide ((i : Int) < (b.length : Int)) = false by simp; omega, ae]
   exact j3 _ (by rw [qK (a := b) (by omega)]; omega)
 have j1 : kZ (bL a b k) a b l c (i : Int) true = bL a b k (l ++ [(c + kw a i + kw b i) % 10]) ((c + kw a i + kw b i) / 10) ((i + 1 : Nat) : Int) := by
  unfold kZ
  rw [af]
  by_cases h : i < a.length
  ·rw [bn h, af, aZ h, am, u4 h, fi (by omega) (by omega)]
   exact j2
  ·rw [show decide ((i : Int) < (a.length : Int)) = false by simp; omega, ae]
   have e : c + kw a i = c := by rw [qK (by omega)]; omega
   rw [e] at j2 ⊢
   exact j2
 rw [bL]
 by_cases h : i < a.length
 ·rw [bn h, af]; exact j1
 ·rw [show decide ((i : Int) < (a.length : Int)) = false by simp; omega, ae]
  by_cases h' : i < b.length
  ·rw [bn h', af]; exact j1
  ·rw [show decide ((i : Int) < (b.length : Int)) = false by simp; omega, ae, show decide ((0 : Int) < c) = true by simp; omega]; exact j1
theorem GE {a b : List Int} (ha : dy a) (hb : dy b) (ta : vw a) (tb : vw b) (la : a.length < 1000) (lb : b.length < 1000) : ∀ (k i : Nat) (l : List Int) (c : Int),
  l.length = i → dy l → 0 ≤ c → c ≤ 1 → i ≤ max a.length b.length + 1 → (i = max a.length b.length + 1 → c = 0) → max a.length b.length + 1 - i < k →
  aQ l + cj i * c = aQ (a.take i) + aQ (b.take i) → (i < a.length ∨ i < b.length ∨ 0 < c ∨ vw l) →
  ∃ r, bL a b k l c (i : Int) = some r ∧ dy r ∧ vw r ∧ aQ r = aQ a + aQ b ∧ r.length ≤ max a.length b.length + 1 := by
 intro k
 induction k with
 | zero => intro i l c _ _ _ _ _ _ h; omega
 | succ k ih =>
  intro i l c hl dl c0 c1 hi hlast hk hv ht
  by_cases hc : i < a.length ∨ i < b.length ∨ 0 < c
  ·rw [GI ha hb (by omega) (by omega) k i l c hl (by omega) c0 c1 hc]
   obtain ⟨a0, a9⟩ := l7 ha i
   obtain ⟨b0, b9⟩ := l7 hb i
   have hi' : i ≤ max a.length b.length := by
    by_cases e : i = max a.length b.length + 1
    ·have := hlast e; omega
    ·omega
   refine ih (i + 1) _ _ (by simp [hl]) (th dl (by omega) (by omega)) (by omega) (by omega) (by omega) (fun e => ?_) (by omega) ?_ ?_
   ·have e1 : kw a i = 0 := qK (by omega)
    have e2 : kw b i = 0 := qK (by omega)
    omega
   ·rw [qJ, qJ, cX, hl]
    simp only [aQ, cj]
    have e : cj i * ((c + kw a i + kw b i) % 10 + 10 * 0) + cj i * 10 * ((c + kw a i + kw b i) / 10) = cj i * (c + kw a i + kw b i) := by
     rw [Int.mul_assoc, ← Int.mul_add]; congr 1; omega
    have e2 : cj i * (c + kw a i + kw b i) = cj i * c + cj i * kw a i + cj i * kw b i := by rw [Int.mul_add, Int.mul_add]
    omega
   ·by_cases h1 : i + 1 < a.length ∨ i + 1 < b.length ∨ 0 < (c + kw a i + kw b i) / 10
    ·rcases h1 with h1 | h1 | h1
     ·exact .inl h1
     ·exact .inr (.inl h1)
     ·exact .inr (.inr (.inl h1))
    ·refine .inr (.inr (.inr (CO ?_)))
     rcases hc with hc | hc | hc
     ·have := EZ ta (i := i) (by omega); omega
     ·have := EZ tb (i := i) (by omega); omega
     ·omega
  ·have hc0 : c = 0 := by omega
   subst hc0
   rw [bL, show decide ((i : Int) < (a.length : Int)) = false by simp; omega, show decide ((i : Int) < (b.length : Int)) = false by simp; omega, ae, ae]
   refine ⟨l, rfl, dl, ?_, ?_, by omega⟩
   ·rcases ht with h | h | h | h
    ·omega
    ·omega
    ·omega
    ·exact h
   ·rw [List.take_of_length_le (by omega), List.take_of_length_le (by omega)] at hv
    simpa using hv
theorem JH {a b : List Int} (ha : dy a) (hb : dy b) (ta : vw a) (tb : vw b) (la : a.length < 1000) (lb : b.length < 1000) :
  ∃ r, tJ a b = some r ∧ dy r ∧ vw r ∧ aQ r = aQ a + aQ b ∧ r.length ≤ max a.length b.length + 1 := by
 unfold tJ
 exact GE ha hb ta tb la lb aV 0 [] 0 rfl vR (by omega) (by omega) (by omega) (fun _ => rfl) (by rw [aI]; omega) (by simp [aQ]) (.inr (.inr (.inr B7)))
end Go.Proofs.YtbfekiekbifgcaaGreatDoor
namespace Go.Proofs.YtbfekiekbifgcaaGreatDoor
open Go Go.SX Go.SX.Cal Go.Lib
theorem aJ {β : Type} {p : Prop} [Decidable p] {x : Option β} (h : p) : eZ p x = x := if_pos h
def ab (n : Int) : Int := if n < 0 then -n else n
theorem zK {l : List Int} {x : Int} (h : dy l) (hx : 0 ≤ x ∧ x ≤ 9) : dy (l ++ [x]) := by
 intro d hd
 rcases List.mem_append.1 hd with h1 | h1
 ·exact h d h1
 ·simp at h1; subst h1; exact hx
theorem sk {n : Int} (hn0 : -9223372036854775808 ≤ n) (hn1 : n ≤ 9223372036854775807) : ∀ (k : Nat) (l : List Int) (m : Int), l.length ≤ 19 → 19 - l.length < k → dy l → (m = 0 → vw l) → ab m < cj (19 - l.length) → -9223372036854775808 ≤ m → m ≤ 9223372036854775807 → ab n = aQ l + cj l.length * ab m →
  ∃ d, bz n k l m = some ⟨decide (n < 0), d⟩ ∧ dy d ∧ vw d ∧ d.length ≤ 19 ∧ aQ d = ab n := by
 intro k
 induction k with
 | zero => intro l m h1 h2; omega
 | succ k ih =>
  intro l m hl hk hd ht hm m0 m1 hv
  rw [bz]
  by_cases h0 : m = 0
  ·subst h0
   rw [show ((0 : Int) != 0) = false from rfl, ae]
   exact ⟨l, rfl, hd, ht rfl, hl, by simp [ab] at hv ⊢; omega⟩
  ·have hlen : l.length < 19 := by
    apply Classical.byContradiction
    intro hn
    have : l.length = 19 := by omega
    rw [this] at hm
    simp only [Nat.sub_self, cj] at hm
    unfold ab at hm; split at hm <;> omega
   rw [show (m != 0) = true by simp [h0], af]
   have hq : m.tdiv 10 = if m < 0 then -((-m) / 10) else m / 10 := by
    by_cases hneg : m < 0
    ·rw [if_pos hneg]
     have : m = -(-m) := by omega
     rw [this, Int.neg_tdiv, Int.neg_neg, Int.tdiv_eq_ediv_of_nonneg (by omega)]
    ·rw [if_neg hneg, Int.tdiv_eq_ediv_of_nonneg (by omega)]
   have hr : m.tmod 10 = if m < 0 then -((-m) % 10) else m % 10 := by
    by_cases hneg : m < 0
    ·rw [if_pos hneg]
     have : m = -(-m) := by omega
     rw [this, Int.neg_tmod, Int.neg_neg, Int.tmod_eq_emod_of_nonneg (by omega)]
    ·rw [if_neg hneg, Int.tmod_eq_emod_of_nonneg (by omega)]
   have step : ∀ x, x = ab m % 10 → hI (bz n k) l m x = bz n k (l ++ [ab m % 10]) (m.tdiv 10) := by
    intro x hx
    unfold hI
    rw [aJ (by omega), hx, fi (by rw [hq]; split <;> omega) (by rw [hq]; split <;> omega)]
   have hgo : bz n k (l ++ [ab m % 10]) (m.tdiv 10) = bz n k (l ++ [ab m % 10]) (m.tdiv 10) := rfl
   have habq : ab (m.tdiv 10) = ab m / 10 := by
    rw [hq]; unfold ab
    by_cases hneg : m < 0
    ·simp only [hneg, if_true]; split <;> omega
    ·simp only [hneg, if_false]; split <;> omega
   have hab0 : 0 ≤ ab m := by unfold ab; split <;> omega
   have hp : cj (19 - l.length) = cj (19 - (l ++ [ab m % 10]).length) * 10 := by
    rw [show 19 - l.length = (19 - (l ++ [ab m % 10]).length) + 1 by simp; omega]; rfl
   have nxt := ih (l ++ [ab m % 10]) (m.tdiv 10) (by simp; omega) (by simp; omega) (zK hd (by omega)) (fun hz => by
     intro d hdl
     simp at hdl
     subst hdl
     have h1 : ab m / 10 = 0 := by rw [← habq, hz]; rfl
     have h2 : ab m ≠ 0 := by unfold ab; split <;> omega
     omega) (by rw [habq]; rw [hp] at hm; omega) (by rw [hq]; split <;> omega) (by rw [hq]; split <;> omega) (by
     rw [cX, List.length_append, List.length_singleton, habq, hv]
     simp only [aQ, cj]
     have e : ab m = ab m % 10 + 10 * (ab m / 10) := by omega
     have e2 : cj l.length * ab m = cj l.length * (ab m % 10) + cj l.length * 10 * (ab m / 10) := by
      rw [Int.mul_assoc, ← Int.mul_add, ← e]
     rw [e2]; simp only [Int.mul_zero, Int.add_zero]; omega)
   by_cases hneg : m.tmod 10 < 0
   ·rw [show decide (m.tmod 10 < 0) = true by simpa using hneg, af]
    have hx : IntKind.i64.wrap (0 - m.tmod 10) = ab m % 10 := by
     rw [fi (by rw [hr]; split <;> omega) (by rw [hr]; split <;> omega)]
     rw [hr] at hneg ⊢
     unfold ab
     by_cases h : m < 0
     ·simp only [h, if_true]; omega
     ·simp only [h, if_false] at hneg; omega
    rw [step _ hx]; exact nxt
   ·rw [show decide (m.tmod 10 < 0) = false by simpa using hneg, ae]
    have hx : m.tmod 10 = ab m % 10 := by
     rw [hr] at hneg ⊢
     unfold ab
     by_cases h : m < 0
     ·simp only [h, if_true] at hneg ⊢; omega
     ·simp only [h, if_false]
    rw [step _ hx]; exact nxt
theorem Et {a b : List Int} (ha : dy a) (hb : dy b) (la : a.length < 1000000) (k i : Nat) (l : List Int) (c : Int) (hl : l.length = i) (c0 : 0 ≤ c) (c1 : c ≤ 1) (hi : i < a.length) :
  ca a b (k + 1) l c (i : Int) = if kw a i - c - kw b i < 0 then ca a b k (l ++ [kw a i - c - kw b i + 10]) 1 ((i + 1 : Nat) : Int) else ca a b k (l ++ [kw a i - c - kw b i]) 0 ((i + 1 : Nat) : Int) := by
 obtain ⟨a0, a9⟩ := l7 ha i
 obtain ⟨b0, b9⟩ := l7 hb i
 have j1 : ∀ n : Int, n = kw a i - c - kw b i → lx (ca a b k) l (i : Int) n = if kw a i - c - kw b i < 0 then ca a b k (l ++ [kw a i - c - kw b i + 10]) 1 ((i + 1 : Nat) : Int) else ca a b k (l ++ [kw a i - c - kw b i]) 0 ((i + 1 : Nat) : Int) := by
  rintro n rfl
  unfold lx nw
  rw [aJ (by omega), aJ (by omega), fi (x := (i : Int) + 1) (by omega) (by omega), show (i : Int) + 1 = ((i + 1 : Nat) : Int) by omega]
  by_cases h : kw a i - c - kw b i < 0
  ·rw [show decide (kw a i - c - kw b i < 0) = true by simpa using h, af, if_pos h, fi (by omega) (by omega)]
  ·rw [show decide (kw a i - c - kw b i < 0) = false by simpa using h, ae, if_neg h]
 rw [ca, bn hi, af, aZ hi, am, u4 hi, fi (x := kw a i - c) (by omega) (by omega)]
 by_cases h : i < b.length
 ·rw [bn h, af, aZ h, am, u4 h, fi (by omega) (by omega)]
  exact j1 _ rfl
 ·rw [show decide ((i : Int) < (b.length : Int)) = false by simp; omega, ae]
  exact j1 _ (by rw [qK (a := b) (by omega)]; omega)
theorem DU {a b : List Int} (ha : dy a) (hb : dy b) (la : a.length < 1000) (lb : b.length ≤ a.length) (hab : aQ b ≤ aQ a) : ∀ (k i : Nat) (l : List Int) (c : Int),
  l.length = i → dy l → 0 ≤ c → c ≤ 1 → i ≤ a.length → a.length - i < k → aQ l = aQ (a.take i) - aQ (b.take i) + cj i * c →
  ∃ r, ca a b k l c (i : Int) = some r ∧ dy r ∧ vw r ∧ aQ r = aQ a - aQ b ∧ r.length ≤ a.length := by
 intro k
 induction k with
 | zero => intro i l c _ _ _ _ _ h; omega
 | succ k ih =>
  intro i l c hl dl c0 c1 hi hk hv
  by_cases he : i = a.length
  ·subst he
   rw [ca, show decide ((a.length : Int) < (a.length : Int)) = false by simp, ae]
   unfold qc
   rw [List.take_of_length_le (Nat.le_refl _), List.take_of_length_le lb] at hv
   have hlt := ja dl
   rw [hl] at hlt
   have hc : c = 0 := by
    by_cases h : c = 0
    ·exact h
    ·have : c = 1 := by omega
     subst this
     omega
   subst hc
   obtain ⟨d', h1, h2, h3, h4, h5⟩ := DL false l (by omega) dl
   rw [h1, am]
   exact ⟨d', rfl, h2, h3, by rw [h4, hv]; omega, by omega⟩
  ·obtain ⟨a0, a9⟩ := l7 ha i
   obtain ⟨b0, b9⟩ := l7 hb i
   rw [Et ha hb (by omega) k i l c hl c0 c1 (by omega)]
   have hp : cj i * (kw a i - c - kw b i) = cj i * kw a i - cj i * c - cj i * kw b i := by rw [Int.mul_sub, Int.mul_sub]
   by_cases h : kw a i - c - kw b i < 0
   ·rw [if_pos h]
    refine ih (i + 1) _ 1 (by simp [hl]) (th dl (by omega) (by omega)) (by omega) (by omega) (by omega) (by omega) ?_
    rw [qJ, qJ, cX, hl]
    simp only [aQ, cj]
    rw [Int.mul_add, Int.mul_add, hp]; omega
   ·rw [if_neg h]
    refine ih (i + 1) _ 0 (by simp [hl]) (th dl (by omega) (by omega)) (by omega) (by omega) (by omega) (by omega) ?_
    rw [qJ, qJ, cX, hl]
    simp only [aQ, cj]
    rw [Int.mul_add, hp]; omega
theorem Ll {a b : List Int} (ha : dy a) (hb : dy b) (tb : vw b) (hab : aQ b ≤ aQ a) : b.length ≤ a.length := by
 by_cases h : b.length ≤ a.length
 ·exact h
 ·have h1 := ja ha
  have h2 := mA hb tb (by rintro rfl; simp at h)
  have := mw (show a.length ≤ b.length - 1 by omega)
  omega
theorem CI {a b : List Int} (ha : dy a) (hb : dy b) (tb : vw b) (la : a.length < 1000) (hab : aQ b ≤ aQ a) :
  ∃ r, pn a b = some r ∧ dy r ∧ vw r ∧ aQ r = aQ a - aQ b ∧ r.length ≤ a.length := by
 unfold pn
 exact DU ha hb la (Ll ha hb tb hab) hab aV 0 [] 0 rfl vR (by omega) (by omega) (by omega) (by rw [aI]; omega) (by simp [aQ])
end Go.Proofs.YtbfekiekbifgcaaGreatDoor
namespace Go.Proofs.YtbfekiekbifgcaaGreatDoor
open Go Go.SX Go.SX.Cal
theorem B0 (p11 cj p01 p00 : Int) (h11 : 0 ≤ p11 ∧ p11 ≤ 18446744065119617025) (h10 : 0 ≤ cj ∧ cj ≤ 18446744065119617025) (h01 : 0 ≤ p01 ∧ p01 ≤ 18446744065119617025) (h00 : 0 ≤ p00 ∧ p00 ≤ 18446744065119617025) :
  p11 + (cj + p00 / 4294967296) / 4294967296 + ((cj + p00 / 4294967296) % 4294967296 + p01) / 4294967296 = (p11 * 18446744073709551616 + (cj + p01) * 4294967296 + p00) / 18446744073709551616 := by
 omega
theorem qU {x y : Int} (h0 : 0 ≤ x) (h1 : x < 18446744073709551616) (k0 : 0 ≤ y) (k1 : y < 18446744073709551616) : ez x y = some (x * y / 18446744073709551616, x * y % 18446744073709551616) := by
 unfold ez
 simp only [ar, Ly]
 rw [uB h0 h1, uB k0 k1]
 simp only [wu]
 have hx0 : 0 ≤ x % 4294967296 ∧ x % 4294967296 < 4294967296 := by omega
 have hx1 : 0 ≤ x / 4294967296 ∧ x / 4294967296 < 4294967296 := by omega
 have hy0 : 0 ≤ y % 4294967296 ∧ y % 4294967296 < 4294967296 := by omega
 have hy1 : 0 ≤ y / 4294967296 ∧ y / 4294967296 < 4294967296 := by omega
 have ex : x = x / 4294967296 * 4294967296 + x % 4294967296 := by omega
 have ey : y = y / 4294967296 * 4294967296 + y % 4294967296 := by omega
 have exy : x * y = (x / 4294967296 * (y / 4294967296)) * 18446744073709551616 + (x / 4294967296 * (y % 4294967296) + x % 4294967296 * (y / 4294967296)) * 4294967296 + x % 4294967296 * (y % 4294967296) := by
  generalize x / 4294967296 = x1 at *
  generalize x % 4294967296 = x0 at *
  generalize y / 4294967296 = y1 at *
  generalize y % 4294967296 = y0 at *
  rw [ex, ey]
  simp only [Int.add_mul, Int.mul_add]
  have e1 : x1 * 4294967296 * (y1 * 4294967296) = x1 * y1 * 18446744073709551616 := by
   rw [Int.mul_assoc, Int.mul_left_comm 4294967296 y1, ← Int.mul_assoc]; rfl
  have e2 : x1 * 4294967296 * y0 = x1 * y0 * 4294967296 := by rw [Int.mul_assoc, Int.mul_comm 4294967296, ← Int.mul_assoc]
  have e3 : x0 * (y1 * 4294967296) = x0 * y1 * 4294967296 := by rw [Int.mul_assoc]
  rw [e1, e2, e3]; omega
 have b11 := Go.SX.Cal.prod_bound hx1.1 hx1.2 hy1.1 hy1.2
 have b10 := Go.SX.Cal.prod_bound hx1.1 hx1.2 hy0.1 hy0.2
 have b01 := Go.SX.Cal.prod_bound hx0.1 hx0.2 hy1.1 hy1.2
 have b00 := Go.SX.Cal.prod_bound hx0.1 hx0.2 hy0.1 hy0.2
 rw [yu (x := x % 4294967296) (by omega) (by omega), yu (x := y % 4294967296) (by omega) (by omega)]
 have L := B0 _ _ _ _ b11 b10 b01 b00
 rw [exy]
 generalize x / 4294967296 * (y / 4294967296) = p11 at *
 generalize x / 4294967296 * (y % 4294967296) = cj at *
 generalize x % 4294967296 * (y / 4294967296) = p01 at *
 generalize x % 4294967296 * (y % 4294967296) = p00 at *
 rw [yu (x := cj) (by omega) (by omega), yu (x := p00) (by omega) (by omega), yu (x := p01) (by omega) (by omega), yu (x := p11) (by omega) (by omega), yu (x := cj + p00 / 4294967296) (by omega) (by omega)]
 rw [uB (x := cj + p00 / 4294967296) (by omega) (by omega)]
 rw [yu (x := (cj + p00 / 4294967296) % 4294967296) (by omega) (by omega), yu (x := (cj + p00 / 4294967296) % 4294967296 + p01) (by omega) (by omega)]
 rw [yu (x := p11 + (cj + p00 / 4294967296) / 4294967296) (by omega) (by omega), yu (x := p11 + (cj + p00 / 4294967296) / 4294967296 + ((cj + p00 / 4294967296) % 4294967296 + p01) / 4294967296) (by omega) (by omega), L]
theorem zk {w : bg} {n : Int} (h : W4 w) (n0 : 0 ≤ n) (n1 : n < 18446744073709551616) (hv : val w * n < 115792089237316195423570985008687907853269984665640564039457584007913129639936) :
  ∃ w', bP w n = some w' ∧ W4 w' ∧ val w' = val w * n ∧ w'.neg = w.neg := by
 obtain ⟨neg, x0, x1, x2, x3⟩ := w
 obtain ⟨a0, a1, b0, b1, c0, c1, d0, d1⟩ := h
 simp only at a0 a1 b0 b1 c0 c1 d0 d1
 unfold bP
 simp only
 rw [qU a0 a1 n0 n1, qU b0 b1 n0 n1, qU c0 c1 n0 n1, qU d0 d1 n0 n1]
 simp only [ar, wu]
 have hval : val ⟨neg, x0, x1, x2, x3⟩ * n = x0 * n + x1 * n * 18446744073709551616 + x2 * n * 340282366920938463463374607431768211456 + x3 * n * 6277101735386680763835789423207666416102355444464034512896 := by
  unfold val
  simp only [Int.add_mul]
  rw [Int.mul_right_comm x1, Int.mul_right_comm x2, Int.mul_right_comm x3]
 rw [hval] at hv ⊢
 obtain ⟨p1, p2, p3, p4⟩ := kT (c := 0) a0 a1 n0 n1 (by decide) (by decide)
 simp only [Int.add_zero] at p1 p2 p3 p4 ⊢
 rw [p1, p2]
 generalize hc1 : x0 * n / 18446744073709551616 = k1 at *
 obtain ⟨q1, q2, q3, q4⟩ := kT (c := k1) b0 b1 n0 n1 p3 p4
 rw [q1, q2]
 generalize hc2 : (x1 * n + k1) / 18446744073709551616 = k2 at *
 obtain ⟨r1, r2, r3, r4⟩ := kT (c := k2) c0 c1 n0 n1 q3 q4
 rw [r1, r2]
 generalize hc3 : (x2 * n + k2) / 18446744073709551616 = k3 at *
 obtain ⟨s1, s2, s3, s4⟩ := kT (c := k3) d0 d1 n0 n1 r3 r4
 rw [s2]
 have e0 := Int.mul_nonneg a0 n0
 have e1 := Int.mul_nonneg b0 n0
 have e2 := Int.mul_nonneg c0 n0
 have e3 := Int.mul_nonneg d0 n0
 clear p1 p2 q1 q2 r1 r2 s1 s2
 generalize x0 * n = P0 at *
 generalize x1 * n = P1 at *
 generalize x2 * n = P2 at *
 generalize x3 * n = P3 at *
 rw [aJ (by omega), aJ (by omega), aJ (by omega), aJ (by omega)]
 refine ⟨_, rfl, ⟨by simp only; omega, by simp only; omega, by simp only; omega, by simp only; omega, by simp only; omega, by simp only; omega, by simp only; omega, by simp only; omega⟩, ?_, rfl⟩
 simp only [val]
 have f0 : P0 = k1 * 18446744073709551616 + P0 % 18446744073709551616 := by omega
 have f1 : P1 + k1 = k2 * 18446744073709551616 + (P1 + k1) % 18446744073709551616 := by omega
 have f2 : P2 + k2 = k3 * 18446744073709551616 + (P2 + k2) % 18446744073709551616 := by omega
 have f3 : P3 + k3 = (P3 + k3) / 18446744073709551616 * 18446744073709551616 + (P3 + k3) % 18446744073709551616 := by omega
 have z : (P3 + k3) / 18446744073709551616 = 0 := by
  generalize P0 % 18446744073709551616 = m0 at *
  generalize (P1 + k1) % 18446744073709551616 = m1 at *
  generalize (P2 + k2) % 18446744073709551616 = m2 at *
  omega
 rw [z] at f3
 generalize P0 % 18446744073709551616 = m0 at *
 generalize (P1 + k1) % 18446744073709551616 = m1 at *
 generalize (P2 + k2) % 18446744073709551616 = m2 at *
 generalize (P3 + k3) % 18446744073709551616 = m3 at *
 omega
theorem zT {a b : bg} (ha : W4 a) (hb : W4 b) : dY a b = some (c3 (val a) (val b)) := by
 obtain ⟨n, x0, x1, x2, x3⟩ := a
 obtain ⟨m, y0, y1, y2, y3⟩ := b
 obtain ⟨a0, a1, b0, b1, c0, c1, d0, d1⟩ := ha
 obtain ⟨e0, e1, f0, f1, g0, g1, h0, h1⟩ := hb
 simp only at *
 unfold dY
 simp only [au, decide_eq_true_eq]
 unfold c3 val
 simp only
 by_cases q3 : x3 < y3
 ·rw [if_pos q3, if_pos (by omega)]
 rw [if_neg q3]
 by_cases q3' : y3 < x3
 ·rw [if_pos q3', if_neg (by omega), if_pos (by omega)]
 rw [if_neg q3']
 by_cases q2 : x2 < y2
 ·rw [if_pos q2, if_pos (by omega)]
 rw [if_neg q2]
 by_cases q2' : y2 < x2
 ·rw [if_pos q2', if_neg (by omega), if_pos (by omega)]
 rw [if_neg q2']
 by_cases q1 : x1 < y1
 ·rw [if_pos q1, if_pos (by omega)]
 rw [if_neg q1]
 by_cases q1' : y1 < x1
 ·rw [if_pos q1', if_neg (by omega), if_pos (by omega)]
 rw [if_neg q1']
 by_cases q0 : x0 < y0
 ·rw [if_pos q0, if_pos (by omega)]
 rw [if_neg q0]
 by_cases q0' : y0 < x0
 ·rw [if_pos q0', if_neg (by omega), if_pos (by omega)]
 rw [if_neg q0', if_neg (by omega), if_neg (by omega)]
def wd (A j : Nat) : Nat := A / 2 ^ (64 * j) % 2 ^ 64
def mc (s : Bool) (A : Nat) : bg := ⟨s, (wd A 0 : Int), (wd A 1 : Int), (wd A 2 : Int), (wd A 3 : Int)⟩
theorem xZ (w : bg) : bg.mk w.neg (w.size.1, w.size.2.1, w.size.2.2.1, w.size.2.2.2) = w := rfl
theorem Mt (A : Nat) : wd A 0 = A % 18446744073709551616 := by unfold wd; simp
theorem Mv (A : Nat) : wd A 1 = A / 18446744073709551616 % 18446744073709551616 := by unfold wd; simp
theorem Nc (A : Nat) : wd A 2 = A / 340282366920938463463374607431768211456 % 18446744073709551616 := by unfold wd; simp
theorem MS (A : Nat) : wd A 3 = A / 6277101735386680763835789423207666416102355444464034512896 % 18446744073709551616 := by unfold wd; simp
theorem rc (s : Bool) (A : Nat) : W4 (mc s A) := by
 have h : ∀ j, (0 : Int) ≤ (wd A j : Int) ∧ (wd A j : Int) < 18446744073709551616 := fun j => by
  have : wd A j < 2 ^ 64 := Nat.mod_lt _ (by decide)
  omega
 exact ⟨(h 0).1, (h 0).2, (h 1).1, (h 1).2, (h 2).1, (h 2).2, (h 3).1, (h 3).2⟩
theorem oC (s : Bool) (A : Nat) (h : A < 115792089237316195423570985008687907853269984665640564039457584007913129639936) : val (mc s A) = A := by
 unfold val mc
 simp only [Mt, Mv, Nc, MS]
 omega
theorem J5 {w : bg} (h : W4 w) : w = mc w.neg (val w).toNat := by
 obtain ⟨neg, x0, x1, x2, x3⟩ := w
 obtain ⟨a0, a1, b0, b1, c0, c1, d0, d1⟩ := h
 simp only at a0 a1 b0 b1 c0 c1 d0 d1
 unfold mc val
 simp only [Mt, Mv, Nc, MS, bg.mk.injEq, Prod.mk.injEq, true_and]
 refine ⟨?_, ?_, ?_, ?_⟩ <;> omega
theorem JX {w : bg} {s : Bool} {A : Nat} (h : W4 w) (hs : w.neg = s) (hv : val w = A) : w = mc s A := by
 rw [J5 h, hs, hv]; rfl
theorem wH (s : Bool) (A m : Nat) (hm : m < 18446744073709551616) (h : A * m < 115792089237316195423570985008687907853269984665640564039457584007913129639936) (hA : A < 115792089237316195423570985008687907853269984665640564039457584007913129639936) : bP (mc s A) (m : Int) = some (mc s (A * m)) := by
 have hv := oC s A hA
 obtain ⟨w, h1, h2, h3, h4⟩ := zk (n := (m : Int)) (rc s A) (by omega) (by omega) (by rw [hv]; omega)
 rw [h1, JX h2 (s := s) (A := A * m) h4 (by rw [h3, hv]; push_cast; rfl)]
theorem ID (s t : Bool) (A B : Nat) (hA : A < 115792089237316195423570985008687907853269984665640564039457584007913129639936) (hB : B < 115792089237316195423570985008687907853269984665640564039457584007913129639936) : dY (mc s A) (mc t B) = some (c3 (A : Int) (B : Int)) := by
 rw [zT (rc s A) (rc t B), oC s A hA, oC t B hB]
theorem Cq (n : Int) (h0 : -9223372036854775808 ≤ n) (h1 : n ≤ 9223372036854775807) : l0 n = some (mc (decide (n < 0)) n.natAbs) := by
 unfold l0
 by_cases h : n < 0
 ·rw [show decide (n < 0) = true by simpa using h, af]
  congr 1
  unfold mc
  simp only [Mt, Mv, Nc, MS, bg.mk.injEq, Prod.mk.injEq, true_and, wu]
  refine ⟨?_, ?_, ?_, ?_⟩ <;> omega
 ·rw [show decide (n < 0) = false by simpa using h, ae]
  congr 1
  unfold mc
  simp only [Mt, Mv, Nc, MS, bg.mk.injEq, Prod.mk.injEq, true_and, wu]
  refine ⟨?_, ?_, ?_, ?_⟩ <;> omega
theorem Gj (s : Bool) (d : Nat) (hd : d ≤ 1000) : ∀ (j k A i : Nat), i + j = d → j < k → A * 10 ^ j < 115792089237316195423570985008687907853269984665640564039457584007913129639936 →
  bG (d : Int) k s (wd A 0) (wd A 1) (wd A 2) (wd A 3) (i : Int) = some (mc s (A * 10 ^ j)) := by
 intro j
 induction j with
 | zero =>
  intro k A i hi hk hA
  obtain ⟨k, rfl⟩ : ∃ q, k = q + 1 := ⟨k - 1, by omega⟩
  rw [bG, show decide ((i : Int) < (d : Int)) = false by simp; omega, ae, Nat.pow_zero, Nat.mul_one]
  rfl
 | succ j ih =>
  intro k A i hi hk hA
  obtain ⟨k, rfl⟩ : ∃ q, k = q + 1 := ⟨k - 1, by omega⟩
  have e : A * 10 ^ (j + 1) = A * 10 * 10 ^ j := by rw [Nat.pow_succ, Nat.mul_comm (10 ^ j) 10, Nat.mul_assoc]
  have hp : 0 < 10 ^ j := Nat.pow_pos (by decide)
  have hle : A * 10 * 1 ≤ A * 10 * 10 ^ j := Nat.mul_le_mul_left _ hp
  rw [e] at hA ⊢
  have ht := wH s A 10 (by decide) (by omega) (by omega)
  rw [bG, show decide ((i : Int) < (d : Int)) = true by simp; omega, af]
  have ht' : bP (bg.mk s ((wd A 0 : Int), (wd A 1 : Int), (wd A 2 : Int), (wd A 3 : Int))) (10 : Int) = some (mc s (A * 10)) := ht
  rw [ht', am, fi (by omega) (by omega), show (i : Int) + 1 = ((i + 1 : Nat) : Int) by omega]
  exact ih k (A * 10) (i + 1) (by omega) (by omega) hA
theorem D0 (s : Bool) (A d : Nat) (hd : d ≤ 1000) (h : A * 10 ^ d < 115792089237316195423570985008687907853269984665640564039457584007913129639936) : hO (mc s A) (d : Int) = some (mc s (A * 10 ^ d)) :=
 Gj s d hd d aV A 0 (by omega) (by rw [aI]; omega) h
theorem FN (n : Int) (d : Nat) (h0 : -9223372036854775808 ≤ n) (h1 : n ≤ 9223372036854775807) (hd : d ≤ 1000) (h : n.natAbs * 10 ^ d < 115792089237316195423570985008687907853269984665640564039457584007913129639936) :
  iQ n (d : Int) = some (mc (decide (n < 0)) (n.natAbs * 10 ^ d)) := by
 unfold iQ
 rw [Cq n h0 h1, am, xZ, D0 _ _ d hd h, am]
theorem FV {s t : Bool} {x0 x1 x2 x3 y0 y1 y2 y3 : Int} (ha : W4 ⟨s, x0, x1, x2, x3⟩) (hb : W4 ⟨t, y0, y1, y2, y3⟩) (hle : val ⟨t, y0, y1, y2, y3⟩ ≤ val ⟨s, x0, x1, x2, x3⟩) :
  ∃ w, dp s x0 x1 x2 x3 t y0 y1 y2 y3 = some w ∧ W4 w ∧ w.neg = s ∧ val w = val ⟨s, x0, x1, x2, x3⟩ - val ⟨t, y0, y1, y2, y3⟩ := by
 obtain ⟨a0, a1, b0, b1, c0, c1, d0, d1⟩ := ha
 obtain ⟨e0, e1, f0, f1, g0, g1, h0, h1⟩ := hb
 simp only at a0 a1 b0 b1 c0 c1 d0 d1 e0 e1 f0 f1 g0 g1 h0 h1
 simp only [val] at hle ⊢
 unfold dp
 simp only [ar, Int.add_zero, Int.sub_zero]
 have k1 : ∃ u, (if x0 < y0 then (1 : Int) else 0) = u ∧ 0 ≤ u ∧ u ≤ 1 ∧ (x0 - y0) % 18446744073709551616 = x0 - y0 + u * 18446744073709551616 := by
  split
  ·exact ⟨1, rfl, by omega, by omega, by omega⟩
  ·exact ⟨0, rfl, by omega, by omega, by omega⟩
 obtain ⟨u1, p1, p2, p3, p4⟩ := k1
 rw [p1, p4]
 have k2 : ∃ u, (if x1 < y1 + u1 then (1 : Int) else 0) = u ∧ 0 ≤ u ∧ u ≤ 1 ∧ (x1 - y1 - u1) % 18446744073709551616 = x1 - y1 - u1 + u * 18446744073709551616 := by
  split
  ·exact ⟨1, rfl, by omega, by omega, by omega⟩
  ·exact ⟨0, rfl, by omega, by omega, by omega⟩
 obtain ⟨u2, q1, q2, q3, q4⟩ := k2
 rw [q1, q4]
 have k3 : ∃ u, (if x2 < y2 + u2 then (1 : Int) else 0) = u ∧ 0 ≤ u ∧ u ≤ 1 ∧ (x2 - y2 - u2) % 18446744073709551616 = x2 - y2 - u2 + u * 18446744073709551616 := by
  split
  ·exact ⟨1, rfl, by omega, by omega, by omega⟩
  ·exact ⟨0, rfl, by omega, by omega, by omega⟩
 obtain ⟨u3, r1, r2, r3, r4⟩ := k3
 rw [r1, r4]
 rw [aJ (by omega), aJ (by omega), aJ (by omega), aJ (by omega)]
 have p5 : 0 ≤ x0 - y0 + u1 * 18446744073709551616 ∧ x0 - y0 + u1 * 18446744073709551616 < 18446744073709551616 := by omega
 have q5 : 0 ≤ x1 - y1 - u1 + u2 * 18446744073709551616 ∧ x1 - y1 - u1 + u2 * 18446744073709551616 < 18446744073709551616 := by omega
 have r5 : 0 ≤ x2 - y2 - u2 + u3 * 18446744073709551616 ∧ x2 - y2 - u2 + u3 * 18446744073709551616 < 18446744073709551616 := by omega
 clear p1 p4 q1 q4 r1 r4
 have s5 : (x3 - y3 - u3) % 18446744073709551616 = x3 - y3 - u3 := by omega
 rw [s5]
 refine ⟨_, rfl, ⟨p5.1, p5.2, q5.1, q5.2, r5.1, r5.2, by simp only; omega, by simp only; omega⟩, rfl, ?_⟩
 simp only
 omega
theorem DA {k : Nat} {b : Bool} {x0 x1 x2 x3 y0 y1 y2 y3 : Int} (ha : W4 ⟨b, x0, x1, x2, x3⟩) (hb : W4 ⟨b, y0, y1, y2, y3⟩) (hv : val ⟨b, x0, x1, x2, x3⟩ + val ⟨b, y0, y1, y2, y3⟩ < 115792089237316195423570985008687907853269984665640564039457584007913129639936) :
  ∃ w, cO (k + 1) ⟨b, x0, x1, x2, x3⟩ ⟨b, y0, y1, y2, y3⟩ = some w ∧ W4 w ∧ w.neg = b ∧ val w = val ⟨b, x0, x1, x2, x3⟩ + val ⟨b, y0, y1, y2, y3⟩ := by
 obtain ⟨a0, a1, b0, b1', c0, c1, d0, d1⟩ := ha
 obtain ⟨e0, e1, f0, f1, g0, g1, h0, h1⟩ := hb
 simp only at a0 a1 b0 b1' c0 c1 d0 d1 e0 e1 f0 f1 g0 g1 h0 h1
 rw [cO]
 simp only [beq_self_eq_true, Bool.not_true, ae, ar, Int.add_zero]
 simp only [val] at hv ⊢
 have m0 : x0 + y0 = (x0 + y0) / 18446744073709551616 * 18446744073709551616 + (x0 + y0) % 18446744073709551616 := by omega
 have u0 : 0 ≤ (x0 + y0) / 18446744073709551616 ∧ (x0 + y0) / 18446744073709551616 ≤ 1 := by omega
 have v0 : 0 ≤ (x0 + y0) % 18446744073709551616 ∧ (x0 + y0) % 18446744073709551616 < 18446744073709551616 := by omega
 generalize (x0 + y0) / 18446744073709551616 = t0 at *
 generalize (x0 + y0) % 18446744073709551616 = r0 at *
 have m1 : x1 + y1 + t0 = (x1 + y1 + t0) / 18446744073709551616 * 18446744073709551616 + (x1 + y1 + t0) % 18446744073709551616 := by omega
 have u1 : 0 ≤ (x1 + y1 + t0) / 18446744073709551616 ∧ (x1 + y1 + t0) / 18446744073709551616 ≤ 1 := by omega
 have v1 : 0 ≤ (x1 + y1 + t0) % 18446744073709551616 ∧ (x1 + y1 + t0) % 18446744073709551616 < 18446744073709551616 := by omega
 generalize (x1 + y1 + t0) / 18446744073709551616 = t1 at *
 generalize (x1 + y1 + t0) % 18446744073709551616 = r1 at *
 have m2 : x2 + y2 + t1 = (x2 + y2 + t1) / 18446744073709551616 * 18446744073709551616 + (x2 + y2 + t1) % 18446744073709551616 := by omega
 have u2 : 0 ≤ (x2 + y2 + t1) / 18446744073709551616 ∧ (x2 + y2 + t1) / 18446744073709551616 ≤ 1 := by omega
 have v2 : 0 ≤ (x2 + y2 + t1) % 18446744073709551616 ∧ (x2 + y2 + t1) % 18446744073709551616 < 18446744073709551616 := by omega
 generalize (x2 + y2 + t1) / 18446744073709551616 = t2 at *
 generalize (x2 + y2 + t1) % 18446744073709551616 = r2 at *
 have m3 : x3 + y3 + t2 = (x3 + y3 + t2) / 18446744073709551616 * 18446744073709551616 + (x3 + y3 + t2) % 18446744073709551616 := by omega
 have u3 : 0 ≤ (x3 + y3 + t2) / 18446744073709551616 ∧ (x3 + y3 + t2) / 18446744073709551616 ≤ 1 := by omega
 have v3 : 0 ≤ (x3 + y3 + t2) % 18446744073709551616 ∧ (x3 + y3 + t2) % 18446744073709551616 < 18446744073709551616 := by omega
 generalize (x3 + y3 + t2) / 18446744073709551616 = t3 at *
 generalize (x3 + y3 + t2) % 18446744073709551616 = r3 at *
 rw [aJ (by omega), aJ (by omega), aJ (by omega), aJ (by omega)]
 have z : t3 = 0 := by omega
 subst z
 refine ⟨_, rfl, ⟨v0.1, v0.2, v1.1, v1.2, v2.1, v2.2, v3.1, v3.2⟩, rfl, ?_⟩
 simp only
 omega
theorem zQ (a b : bg) (ha : W4 a) (hb : W4 b) (hle : val b ≤ val a) :
  dp a.neg a.size.1 a.size.2.1 a.size.2.2.1 a.size.2.2.2 b.neg b.size.1 b.size.2.1 b.size.2.2.1 b.size.2.2.2 = some (mc a.neg (val a - val b).toNat) := by
 obtain ⟨w, h1, h2, h3, h4⟩ := FV ha hb hle
 rw [h1, J5 h2, h3, h4]
theorem Bf (k : Nat) (s : Bool) (A B : Nat) (hv : A + B < 115792089237316195423570985008687907853269984665640564039457584007913129639936) :
  cO (k + 1) (mc s A) (mc s B) = some (mc s (A + B)) := by
 have va := oC s A (by omega)
 have vb := oC s B (by omega)
 have hv' : val (mc s A) + val (mc s B) < 115792089237316195423570985008687907853269984665640564039457584007913129639936 := by rw [va, vb]; omega
 obtain ⟨w, h1, h2, h3, h4⟩ := DA (k := k) (rc s A) (rc s B) hv'
 have h5 : val w = ((A + B : Nat) : Int) := by
  have : val w = val (mc s A) + val (mc s B) := h4
  rw [this, va, vb]; omega
 have h6 := JX h2 h3 h5
 rw [h6] at h1
 exact h1
def DE (s : Bool) (A : Nat) : Int := if s = true then -(A : Int) else (A : Int)
theorem LA {a b : Int} : decide (c3 a b < 0) = decide (a < b) := by
 unfold c3
 by_cases h : a < b
 ·simp [h]
 ·rw [if_neg h]; split <;> simp [h]
theorem Ad (k : Nat) (s : Bool) (A B : Nat) (hA : A < 115792089237316195423570985008687907853269984665640564039457584007913129639936) (hB : B < 115792089237316195423570985008687907853269984665640564039457584007913129639936) :
  dV (k + 1) (mc s A) (mc s B) = some (if A < B then mc (!s) (B - A) else mc s (A - B)) := by
 rw [dV, show (mc s A).neg = s from rfl, show (mc s B).neg = s from rfl]
 simp only [beq_self_eq_true, Bool.not_true, ae]
 have e := ID s s A B hA hB
 have e' : dY (bg.mk s ((mc s A).size.1, (mc s A).size.2.1, (mc s A).size.2.2.1, (mc s A).size.2.2.2)) (bg.mk s ((mc s B).size.1, (mc s B).size.2.1, (mc s B).size.2.2.1, (mc s B).size.2.2.2)) = some (c3 (A : Int) (B : Int)) := e
 rw [e', am, LA]
 by_cases h : A < B
 ·rw [show decide ((A : Int) < (B : Int)) = true by simpa using h, af, if_pos h]
  unfold dH
  rw [am]
  have va := oC s A hA
  have vb := oC (!s) B hB
  have q := zQ (mc (!s) B) (mc s A) (rc _ _) (rc _ _) (by rw [va, vb]; omega)
  rw [va, vb, show ((B : Int) - (A : Int)).toNat = B - A by omega] at q
  exact q
 ·rw [show decide ((A : Int) < (B : Int)) = false by simpa using h, ae, if_neg h]
  have va := oC s A hA
  have vb := oC s B hB
  have q := zQ (mc s A) (mc s B) (rc _ _) (rc _ _) (by rw [va, vb]; omega)
  rw [va, vb, show ((A : Int) - (B : Int)).toNat = A - B by omega] at q
  exact q
theorem JK (s t : Bool) (A B : Nat) (hv : A + B < 115792089237316195423570985008687907853269984665640564039457584007913129639936) :
  ∃ u C, cO aV (mc s A) (mc t B) = some (mc u C) ∧ DE u C = DE s A + DE t B ∧ C ≤ A + B := by
 have hB : aV = 1152921504606846974 + 1 + 1 := rfl
 by_cases h : s = t
 ·subst h
  rw [hB, Bf _ s A B hv]
  refine ⟨s, A + B, rfl, ?_, Nat.le_refl _⟩
  unfold DE; cases s <;> simp <;> omega
 ·rw [hB, cO, show (mc s A).neg = s from rfl, show (mc t B).neg = t from rfl]
  have hb := vP s t h
  rw [hb.1, af]
  unfold dH
  rw [am]
  show ∃ u C, aD (dV (1152921504606846974 + 1) (mc s A) (mc (!t) B)) _ = _ ∧ _
  rw [hb.2, Ad _ s A B (by omega) (by omega), am, xZ]
  by_cases hlt : A < B
  ·rw [if_pos hlt]
   refine ⟨!s, B - A, rfl, ?_, by omega⟩
   unfold DE; revert h; cases s <;> cases t <;> simp <;> omega
  ·rw [if_neg hlt]
   refine ⟨s, A - B, rfl, ?_, by omega⟩
   unfold DE; revert h; cases s <;> cases t <;> simp <;> omega
end Go.Proofs.YtbfekiekbifgcaaGreatDoor
namespace Go.Proofs.YtbfekiekbifgcaaGreatDoor
open Go Go.SX Go.SX.Cal
theorem fd (x s : Nat) : (x : Int).fdiv (2 ^ s) = ((x / 2 ^ s : Nat) : Int) := by
 rw [Int.fdiv_eq_ediv_of_nonneg _ (Int.le_of_lt (Int.pow_pos (by decide)))]
 push_cast; rfl
abbrev QT := Int → Int → Int → Int → Bool → Int → Int → Int → Int → Int → Option (bg × bg)
end Go.Proofs.YtbfekiekbifgcaaGreatDoor
namespace Go.Proofs.YtbfekiekbifgcaaGreatDoor
open Go Go.SX Go.SX.Cal Go.Lib
def sg (b : Bool) (z : Int) : Int := if b = true then -z else z
structure wW (w : bI) (z : Int) (N : Nat) : Prop where
 d : dy w.d
 t : vw w.d
 l : w.d.length ≤ N
 b : w.below = true → w.d ≠ []
 v : z = sg w.below (aQ w.d)
theorem AN {l : List Int} (h : dy l) (t : vw l) : aQ l = 0 ↔ l = [] := by
 constructor
 ·intro e
  cases hl : l with
  | nil => rfl
  | cons x m =>
   have h1 := mA h t (by simp [hl])
   have h2 := mm (l.length - 1)
   omega
 ·rintro rfl; rfl
theorem Jl (b : Bool) (d : List Int) (N : Nat) (hl : d.length ≤ N) (hN : N < 1000000) (hd : dy d) : ∃ w, lE b d = some w ∧ wW w (sg b (aQ d)) N := by
 obtain ⟨d', h1, h2, h3, h4, h5⟩ := DL b d (by omega) hd
 refine ⟨_, h1, h2, h3, by show d'.length ≤ N; omega, ?_, ?_⟩
 ·intro hb e
  have hb : (b && decide (0 < d'.length)) = true := hb
  have e : d' = [] := e
  simp [e] at hb
 ·show sg b (aQ d) = sg (b && decide (0 < d'.length)) (aQ d')
  cases hz : d' with
  | nil => rw [hz] at h4; simp [aQ] at h4; simp [← h4, sg, aQ]
  | cons x m => rw [← hz, h4]; simp [hz]
theorem yt (n : Int) (h0 : -9223372036854775808 ≤ n) (h1 : n ≤ 9223372036854775807) : ∃ w, jy n = some w ∧ wW w n 19 := by
 unfold jy
 obtain ⟨d, e1, e2, e3, e4, e5⟩ := sk h0 h1 aV [] n (by simp) (by rw [aI]; simp) vR (fun _ => B7) (by
  simp only [List.length_nil]
  have : cj (19 - 0) = 10000000000000000000 := by decide
  rw [this]; unfold ab; split <;> omega) h0 h1 (by simp [aQ, cj])
 refine ⟨_, e1, e2, e3, e4, ?_, ?_⟩
 ·intro hb e
  simp at hb e
  rw [e] at e5
  simp [aQ, ab, hb] at e5
  omega
 ·show n = sg (decide (n < 0)) (aQ d)
  rw [e5]
  unfold sg ab
  by_cases h : n < 0
  ·simp [h]
  ·simp [h]
end Go.Proofs.YtbfekiekbifgcaaGreatDoor
namespace Go.Proofs.YtbfekiekbifgcaaGreatDoor
open Go Go.SX Go.SX.Cal Go.Lib
theorem vU : ∀ {l : List Int} {j : Nat} {e c : Int}, l[j]? = some e → aQ (l.set j (e + c)) = aQ l + cj j * c
 | [], j, e, c, h => by simp at h
 | x :: l, 0, e, c, h => by
  simp at h; subst h
  simp only [List.set_cons_zero, aQ, cj]; omega
 | x :: l, j + 1, e, c, h => by
  have ih := vU (l := l) (j := j) (e := e) (c := c) (by simpa using h)
  simp only [List.set_cons_succ, aQ, cj, ih]
  rw [Int.mul_add, Int.mul_assoc (cj j), Int.mul_left_comm 10 (cj j) c]; omega
theorem E1 (a : Nat) : ∀ b, cj (a + b) = cj a * cj b
 | 0 => by simp [cj]
 | b + 1 => by rw [← Nat.add_assoc]; simp only [cj]; rw [E1 a b, Int.mul_assoc]
theorem FJ : ∀ n, cj n = ((10 ^ n : Nat) : Int)
 | 0 => rfl
 | n + 1 => by simp only [cj, FJ n, Nat.pow_succ]; push_cast; rfl
theorem wW.mono {w : bI} {z : Int} {N M : Nat} (h : wW w z N) (hm : N ≤ M) : wW w z M := ⟨h.d, h.t, Nat.le_trans h.l hm, h.b, h.v⟩
theorem wW.neg {w : bI} {z : Int} {N : Nat} (h : wW w z N) : decide (z < 0) = w.below := by
 have h0 := d8 h.d
 have hv := h.v
 unfold sg at hv
 by_cases hb : w.below = true
 ·rw [if_pos hb] at hv
  have : aQ w.d ≠ 0 := fun e => h.b hb ((AN h.d h.t).1 e)
  rw [hb]; simp; omega
 ·rw [if_neg hb] at hv
  have hb' : w.below = false := by simpa using hb
  rw [hb']; simp; omega
theorem wW.abs {w : bI} {z : Int} {N : Nat} (h : wW w z N) : aQ w.d = (z.natAbs : Int) := by
 have h0 := d8 h.d
 have hv := h.v
 unfold sg at hv
 split at hv <;> omega
theorem wW.nil {w : bI} {z : Int} {N : Nat} (h : wW w z N) : (w.d.length = 0) ↔ z = 0 := by
 have := h.abs
 have h2 := AN h.d h.t
 rw [List.length_eq_zero_iff, ← h2]; omega
theorem wW.lt {w : bI} {z : Int} {N : Nat} (h : wW w z N) : (z.natAbs : Int) < cj N := by
 rw [← h.abs]
 exact Int.lt_of_lt_of_le (ja h.d) (mw h.l)
theorem wW.tight {w : bI} {z : Int} {N M : Nat} (h : wW w z N) (hz : (z.natAbs : Int) < cj M) : wW w z M := by
 refine ⟨h.d, h.t, ?_, h.b, h.v⟩
 by_cases hn : w.d = []
 ·simp [hn]
 ·have h1 := mA h.d h.t hn
  rw [h.abs] at h1
  apply Classical.byContradiction
  intro hc
  have := mw (show M ≤ w.d.length - 1 by omega)
  omega
theorem L7 {a b : bI} {x y : Int} {N M : Nat} (ha : wW a x N) (hb : wW b y M) (hN : N < 900) (hM : M < 900) : ∃ w, mH a b = some w ∧ wW w (x + y) (max N M + 1) := by
 have hla := ha.l
 have hlb := hb.l
 have hva := ha.v
 have hvb := hb.v
 unfold mH
 by_cases he : a.below = b.below
 ·rw [show (a.below == b.below) = true by simp [he], af]
  obtain ⟨r, h1, h2, h3, h4, h5⟩ := JH ha.d hb.d ha.t hb.t (by omega) (by omega)
  rw [h1, am]
  obtain ⟨w, g1, g2⟩ := Jl a.below r (max N M + 1) (by omega) (by omega) h2
  rw [g1, am]
  refine ⟨w, rfl, ?_⟩
  have e : sg a.below (aQ r) = x + y := by
   rw [h4, hva, hvb, ← he]; unfold sg; split <;> omega
  rw [← e]; exact g2
 ·rw [show (a.below == b.below) = false by simp [he], ae]
  obtain ⟨r, h1, h2, h3, h4⟩ := Bi ha.d hb.d ha.t hb.t (by omega) (by omega)
  rw [h1, am]
  have hs : ∀ z : Int, sg b.below z = - sg a.below z := fun z => by
   revert he; unfold sg; cases a.below <;> cases b.below <;> simp
  by_cases hr : 0 ≤ r
  ·have hle : aQ b.d ≤ aQ a.d := by
    unfold c3 at h4
    rw [if_neg (by omega)] at h4
    by_cases h : aQ a.d < aQ b.d
    ·rw [if_pos h] at h4; split at h4 <;> omega
    ·omega
   rw [show decide ((0 : Int) ≤ r) = true by simpa using hr, af]
   obtain ⟨q, g1, g2, g3, g4, g5⟩ := CI ha.d hb.d hb.t (by omega) hle
   rw [g1, am]
   obtain ⟨w, k1, k2⟩ := Jl a.below q (max N M + 1) (by omega) (by omega) g2
   rw [k1, am]
   refine ⟨w, rfl, ?_⟩
   have e : sg a.below (aQ q) = x + y := by
    rw [g4, hva, hvb, hs]; unfold sg; split <;> omega
   rw [← e]; exact k2
  ·have hle : aQ a.d ≤ aQ b.d := by
    unfold c3 at h4
    rw [if_pos (by omega)] at h4
    by_cases h : aQ a.d < aQ b.d
    ·omega
    ·rw [if_neg h] at h4; split at h4 <;> omega
   rw [show decide ((0 : Int) ≤ r) = false by simp; omega, ae]
   obtain ⟨q, g1, g2, g3, g4, g5⟩ := CI hb.d ha.d ha.t (by omega) hle
   rw [g1, am]
   obtain ⟨w, k1, k2⟩ := Jl b.below q (max N M + 1) (by omega) (by omega) g2
   rw [k1, am]
   refine ⟨w, rfl, ?_⟩
   have e : sg b.below (aQ q) = x + y := by
    rw [g4, hva, hvb, hs, hs]; unfold sg; split <;> omega
   rw [← e]; exact k2
theorem np : ∀ k, aQ (List.replicate k 0) = 0
 | 0 => rfl
 | k + 1 => by rw [List.replicate_succ]; simp [aQ, np k]
theorem Me {a : bI} {x : Int} {N k : Nat} (ha : wW a x N) (hN : N < 900) (hk : k < 900) : ∃ w, qy a (k : Int) = some w ∧ wW w (x * cj k) (N + k) := by
 unfold qy
 by_cases h : a.d.length = 0
 ·rw [show ((a.d.length : Int) == 0) = true by simp [h], af]
  have hx := ha.nil.1 h
  subst hx
  exact ⟨a, rfl, by rw [Int.zero_mul]; exact ha.mono (by omega)⟩
 ·have hl := ha.l
  rw [show ((a.d.length : Int) == 0) = false by simpa using h, ae, aJ (by omega), aJ (by simp; omega)]
  refine ⟨_, rfl, ⟨?_, ?_, ?_, ?_, ?_⟩⟩
  ·intro d hd
   rcases List.mem_append.1 hd with h1 | h1
   ·have := List.eq_of_mem_replicate h1; omega
   ·exact ha.d d h1
  ·intro d hd
   have hne : a.d ≠ [] := by rintro e; simp [e] at h
   simp only at hd
   cases hq : a.d.getLast? with
   | none => exact absurd (List.getLast?_eq_none_iff.1 hq) hne
   | some z =>
    rw [List.getLast?_append, hq] at hd
    simp at hd
    exact ha.t d (by rw [hq, hd])
  ·simp; omega
  ·intro hb e
   simp at e
   exact ha.b hb e.2
  ·simp only
   rw [cX, np, List.length_replicate, ha.v, show ((k : Int)).toNat = k by omega]
   unfold sg; split
   ·rw [Int.neg_mul, Int.mul_comm, Int.zero_add]
   ·rw [Int.mul_comm, Int.zero_add]
theorem HG {l : List Int} {j : Nat} {v B : Int} (h : ∀ e ∈ l, 0 ≤ e ∧ e ≤ B) (hv : 0 ≤ v ∧ v ≤ B) : ∀ e ∈ l.set j v, 0 ≤ e ∧ e ≤ B := by
 intro e he
 rcases List.mem_or_eq_of_mem_set he with h1 | h1
 ·exact h e h1
 ·subst h1; exact hv
theorem Ge {b : bI} (hb : dy b.d) (lb : b.d.length < 400) (rec1 : List Int → Int → Option bI) (i : Nat) (hi : i < 400) (e1 : Int) (h0 : 0 ≤ e1) (h9 : e1 ≤ 9) : ∀ (m f k : Nat) (l : List Int) (B : Int),
  k + m = b.d.length → m < f → i + b.d.length < l.length → 0 ≤ B → (∀ e ∈ l, 0 ≤ e ∧ e ≤ B) → B + 81 * m ≤ 100000000 →
  ∃ l', fa rec1 b (i : Int) e1 f l (k : Int) = rec1 l' ((i + 1 : Nat) : Int) ∧ l'.length = l.length ∧ (∀ e ∈ l', 0 ≤ e ∧ e ≤ B + 81 * m) ∧ aQ l' = aQ l + cj (i + k) * (e1 * aQ (b.d.drop k)) := by
 intro m
 induction m with
 | zero =>
  intro f k l B hk hf hl hB hb' hbd
  obtain ⟨f, rfl⟩ : ∃ q, f = q + 1 := ⟨f - 1, by omega⟩
  rw [fa, show decide ((k : Int) < (b.d.length : Int)) = false by simp; omega, ae]
  unfold od
  rw [fi (by omega) (by omega)]
  refine ⟨l, rfl, rfl, by simpa using hb', ?_⟩
  rw [List.drop_of_length_le (by omega)]; simp [aQ]
 | succ m ih =>
  intro f k l B hk hf hl hB hb' hbd
  obtain ⟨f, rfl⟩ : ∃ q, f = q + 1 := ⟨f - 1, by omega⟩
  have hkb : k < b.d.length := by omega
  have rb := hb b.d[k] (List.getElem_mem hkb)
  have hik : i + k < l.length := by omega
  have re := hb' l[i + k] (List.getElem_mem hik)
  have hpr : 0 ≤ e1 * b.d[k] ∧ e1 * b.d[k] ≤ 81 := by
   refine ⟨Int.mul_nonneg h0 rb.1, ?_⟩
   have h1 : e1 * b.d[k] ≤ 9 * b.d[k] := Int.mul_le_mul_of_nonneg_right h9 rb.1
   omega
  rw [fa, bn hkb, af, aZ hkb, am, fi (x := (i : Int) + (k : Int)) (by omega) (by omega), show (i : Int) + (k : Int) = ((i + k : Nat) : Int) by omega, aZ hik, am, fi (x := e1 * b.d[k]) (by omega) (by omega), fi (by omega) (by omega), fi (x := (k : Int) + 1) (by omega) (by omega), show ((i + k : Nat) : Int).toNat = i + k by omega, show (k : Int) + 1 = ((k + 1 : Nat) : Int) by omega]
  obtain ⟨l', q1, q2, q3, q4⟩ := ih f (k + 1) (l.set (i + k) (l[i + k] + e1 * b.d[k])) (B + 81) (by omega) (by omega) (by simpa using hl) (by omega) (HG (fun e he => by have := hb' e he; omega) (by omega)) (by omega)
  refine ⟨l', q1, by simpa using q2, fun e he => by have := q3 e he; omega, ?_⟩
  rw [q4, vU (e := l[i + k]) (by simp [hik]), List.drop_eq_getElem_cons hkb]
  simp only [aQ]
  rw [show i + (k + 1) = (i + k) + 1 by omega]
  simp only [cj]
  rw [Int.mul_add e1, Int.mul_add, Int.mul_assoc (cj (i + k)), Int.mul_left_comm e1 10]; omega
theorem Gd {a b : bI} (ha : dy a.d) (hb : dy b.d) (la : a.d.length < 400) (lb : b.d.length < 400) : ∀ (m f i : Nat) (l : List Int) (B : Int),
  i + m = a.d.length → m < f → l.length = a.d.length + b.d.length + 1 → 0 ≤ B → (∀ e ∈ l, 0 ≤ e ∧ e ≤ B) → B + 32400 * m ≤ 100000000 →
  ∃ l', de a b f l (i : Int) = lK a b l' ∧ l'.length = l.length ∧ (∀ e ∈ l', 0 ≤ e ∧ e ≤ B + 32400 * m) ∧ aQ l' = aQ l + cj i * (aQ (a.d.drop i) * aQ b.d) := by
 intro m
 induction m with
 | zero =>
  intro f i l B hi hf hl hB hb' hbd
  obtain ⟨f, rfl⟩ : ∃ q, f = q + 1 := ⟨f - 1, by omega⟩
  rw [de, show decide ((i : Int) < (a.d.length : Int)) = false by simp; omega, ae]
  refine ⟨l, rfl, rfl, by simpa using hb', ?_⟩
  rw [List.drop_of_length_le (by omega)]; simp [aQ]
 | succ m ih =>
  intro f i l B hi hf hl hB hb' hbd
  obtain ⟨f, rfl⟩ : ∃ q, f = q + 1 := ⟨f - 1, by omega⟩
  have hia : i < a.d.length := by omega
  have ra := ha a.d[i] (List.getElem_mem hia)
  rw [de, bn hia, af, aZ hia, am]
  obtain ⟨l1, q1, q2, q3, q4⟩ := Ge hb lb (de a b f) i (by omega) a.d[i] ra.1 ra.2 b.d.length aV 0 l B (by omega) (by rw [aI]; omega) (by omega) hB hb' (by omega)
  rw [show ((0 : Nat) : Int) = 0 from rfl] at q1
  rw [q1]
  obtain ⟨l', k1, k2, k3, k4⟩ := ih f (i + 1) l1 (B + 32400) (by omega) (by omega) (by omega) (by omega) (fun e he => by have := q3 e he; omega) (by omega)
  refine ⟨l', k1, by omega, fun e he => by have := k3 e he; omega, ?_⟩
  rw [k4, q4, List.drop_eq_getElem_cons hia]
  simp only [aQ, List.drop_zero, Nat.add_zero, cj]
  rw [Int.add_mul, Int.mul_add, Int.mul_assoc (cj i), Int.mul_assoc 10]; omega
theorem F4 {a b : bI} : ∀ (m f i : Nat) (l : List Int),
  i + m + 1 = l.length → m < f → l.length < 1000 → (∀ e ∈ l, 0 ≤ e) → dy (l.take i) → (∀ e, l[i]? = some e → e ≤ 100000000) → (∀ e ∈ l.drop (i + 1), e ≤ 50000000) →
  ∃ l', e9 a b f l (i : Int) = lI a b l' ∧ l'.length = l.length ∧ (∀ e ∈ l', 0 ≤ e) ∧ dy (l'.take (l.length - 1)) ∧ aQ l' = aQ l := by
 intro m
 induction m with
 | zero =>
  intro f i l hi hf hl h0 hd hA hB
  obtain ⟨f, rfl⟩ : ∃ q, f = q + 1 := ⟨f - 1, by omega⟩
  rw [e9, am, fi (by omega) (by omega), show decide ((i : Int) + 1 < ((l.length : Nat) : Int)) = false by simp; omega, ae]
  exact ⟨l, rfl, rfl, h0, by rw [show l.length - 1 = i by omega]; exact hd, rfl⟩
 | succ m ih =>
  intro f i l hi hf hl h0 hd hA hB
  obtain ⟨f, rfl⟩ : ∃ q, f = q + 1 := ⟨f - 1, by omega⟩
  have hi0 : i < l.length := by omega
  have hi1 : i + 1 < l.length := by omega
  have ei : l[i]? = some l[i] := List.getElem?_eq_getElem hi0
  have ei1 : l[i + 1]? = some l[i + 1] := List.getElem?_eq_getElem hi1
  have b0 := h0 l[i] (List.getElem_mem hi0)
  have b1 := h0 l[i + 1] (List.getElem_mem hi1)
  have c0 := hA _ ei
  have c1 := hB l[i + 1] (by rw [List.drop_eq_getElem_cons hi1]; exact List.mem_cons_self)
  have hdv : IntKind.i64.wrap (l[i].tdiv 10) = l[i] / 10 := by rw [Iu b0, fi (by omega) (by omega)]
  have s1 : (l.set (i + 1) (l[i + 1] + l[i] / 10))[i]? = some l[i] := by rw [List.getElem?_set_ne (by omega), ei]
  have at6 : at? (l.set (i + 1) (l[i + 1] + l[i] / 10)) (i : Int) = some l[i] := by unfold at?; simp only [Int.toNat_natCast, s1]; simp
  rw [e9, am, fi (x := (i : Int) + 1) (by omega) (by omega), show (i : Int) + 1 = ((i + 1 : Nat) : Int) by omega, bn hi1, af, aZ hi1, am, aZ hi0, am, hdv, fi (by omega) (by omega), show ((i + 1 : Nat) : Int).toNat = i + 1 by omega, at6, am, show ((i : Nat) : Int).toNat = i by omega, HC b0]
  have hv : aQ ((l.set (i + 1) (l[i + 1] + l[i] / 10)).set i (l[i] % 10)) = aQ l := by
   have h1 := vU (c := l[i] % 10 - l[i]) s1
   rw [show l[i] + (l[i] % 10 - l[i]) = l[i] % 10 by omega, vU ei1] at h1
   rw [h1]
   simp only [cj]
   have : cj i * (l[i] % 10 - l[i]) = -(cj i * 10 * (l[i] / 10)) := by
    rw [Int.mul_assoc, ← Int.mul_neg]; congr 1; omega
   omega
  have p1 : ∀ e ∈ (l.set (i + 1) (l[i + 1] + l[i] / 10)).set i (l[i] % 10), 0 ≤ e := by
   intro e he
   rcases List.mem_or_eq_of_mem_set he with h1 | h1
   ·rcases List.mem_or_eq_of_mem_set h1 with h2 | h2
    ·exact h0 e h2
    ·omega
   ·omega
  have p2 : dy (((l.set (i + 1) (l[i + 1] + l[i] / 10)).set i (l[i] % 10)).take (i + 1)) := by
   intro d hdm
   rw [List.take_succ_eq_append_getElem (by simpa using hi0)] at hdm
   rcases List.mem_append.1 hdm with h1 | h1
   ·rw [List.take_set_of_le (by omega), List.take_set_of_le (by omega)] at h1
    exact hd d h1
   ·simp at h1; subst h1; omega
  have p3 : ∀ e, ((l.set (i + 1) (l[i + 1] + l[i] / 10)).set i (l[i] % 10))[i + 1]? = some e → e ≤ 100000000 := by
   intro e he
   rw [List.getElem?_set_ne (by omega), List.getElem?_set_self hi1] at he
   have := Option.some.inj he; omega
  have p4 : ∀ e ∈ ((l.set (i + 1) (l[i + 1] + l[i] / 10)).set i (l[i] % 10)).drop (i + 1 + 1), e ≤ 50000000 := by
   intro e he
   rw [List.drop_set_of_lt (by omega), List.drop_set_of_lt (by omega)] at he
   refine hB e ?_
   rw [List.drop_eq_getElem_cons hi1]
   exact List.mem_cons_of_mem _ he
  obtain ⟨l', k1, k2, k3, k4, k5⟩ := ih f (i + 1) ((l.set (i + 1) (l[i + 1] + l[i] / 10)).set i (l[i] % 10)) (by simp; omega) (by omega) (by simpa using hl) p1 p2 p3 p4
  exact ⟨l', k1, by simpa using k2, k3, by simpa using k4, by rw [k5, hv]⟩
theorem KO (s t : Bool) (a b : Int) : sg (!(s == t)) (a * b) = sg s a * sg t b := by
 unfold sg; cases s <;> cases t <;> simp [Int.neg_mul, Int.mul_neg]
theorem Np {a b : bI} {x y : Int} {N M : Nat} (ha : wW a x N) (hb : wW b y M) (hN : N < 400) (hM : M < 400) : ∃ w, oB a b = some w ∧ wW w (x * y) (N + M + 1) := by
 have hla := ha.l
 have hlb := hb.l
 unfold oB
 rw [fi (x := (a.d.length : Int) + (b.d.length : Int)) (by omega) (by omega), fi (by omega) (by omega), am, aJ (by omega), show ((a.d.length : Int) + (b.d.length : Int) + 1).toNat = a.d.length + b.d.length + 1 by omega]
 obtain ⟨l, h1, h2, h3, h4⟩ := Gd ha.d hb.d (by omega) (by omega) a.d.length aV 0 (List.replicate (a.d.length + b.d.length + 1) 0) 0 (by omega) (by rw [aI]; omega) (by simp) (by omega) (fun e he => by have := List.eq_of_mem_replicate he; omega) (by omega)
 rw [show ((0 : Nat) : Int) = 0 from rfl] at h1
 rw [h1]
 unfold lK
 have hl : l.length = a.d.length + b.d.length + 1 := by simpa using h2
 have hB : ∀ e ∈ l, 0 ≤ e ∧ e ≤ 50000000 := fun e he => by have := h3 e he; omega
 obtain ⟨l', g1, g2, g3, g4, g5⟩ := F4 (a := a) (b := b) (a.d.length + b.d.length) aV 0 l (by omega) (by rw [aI]; omega) (by omega) (fun e he => (hB e he).1) (by simp [dy]) (fun e he => by have := hB e (List.mem_of_getElem? he); omega) (fun e he => (hB e (List.mem_of_mem_drop he)).2)
 rw [show ((0 : Nat) : Int) = 0 from rfl] at g1
 rw [g1]
 unfold lI
 have hv : aQ l' = aQ a.d * aQ b.d := by
  rw [g5, h4, np]; simp [cj]
 have hd : dy l' := by
  have hne : a.d.length + b.d.length < l'.length := by omega
  have e : l' = l'.take (a.d.length + b.d.length) ++ [l'[a.d.length + b.d.length]] := by
   rw [← List.take_succ_eq_append_getElem hne, List.take_of_length_le (by omega)]
  rw [hl, show a.d.length + b.d.length + 1 - 1 = a.d.length + b.d.length by omega] at g4
  have p1 := ja ha.d
  have p2 := ja hb.d
  have n1 := d8 ha.d
  have n2 := d8 hb.d
  have hlt : aQ a.d * aQ b.d < cj (a.d.length + b.d.length) := by
   rw [E1]
   have q1 : aQ a.d * aQ b.d ≤ cj a.d.length * aQ b.d := Int.mul_le_mul_of_nonneg_right (by omega) n2
   have q2 : cj a.d.length * aQ b.d < cj a.d.length * cj b.d.length := Int.mul_lt_mul_of_pos_left p2 (BL _)
   omega
  have hlast := g3 l'[a.d.length + b.d.length] (List.getElem_mem hne)
  have hval := cX (l'.take (a.d.length + b.d.length)) [l'[a.d.length + b.d.length]]
  rw [← e, List.length_take, Nat.min_eq_left (by omega), hv] at hval
  simp only [aQ, Int.mul_zero, Int.add_zero] at hval
  have n3 := d8 g4
  have hz : l'[a.d.length + b.d.length] = 0 := by
   apply Classical.byContradiction
   intro hc
   have : cj (a.d.length + b.d.length) * 1 ≤ cj (a.d.length + b.d.length) * l'[a.d.length + b.d.length] := Int.mul_le_mul_of_nonneg_left (by omega) (Int.le_of_lt (BL _))
   omega
  rw [e, hz]
  exact th g4 (by omega) (by omega)
 obtain ⟨w, k1, k2⟩ := Jl (!(a.below == b.below)) l' (N + M + 1) (by omega) (by omega) hd
 rw [k1, am]
 refine ⟨w, rfl, ?_⟩
 have e : sg (!(a.below == b.below)) (aQ l') = x * y := by rw [hv, KO, ← ha.v, ← hb.v]
 rw [← e]; exact k2
def Mo : ac := ⟨0, 0, 0, ByteArray.empty, []⟩
end Go.Proofs.YtbfekiekbifgcaaGreatDoor
namespace Go.Proofs.YtbfekiekbifgcaaGreatDoor
open Go Go.SX Go.SX.Cal Go.Lib
end Go.Proofs.YtbfekiekbifgcaaGreatDoor
namespace Go.Proofs.YtbfekiekbifgcaaGreatDoor
open Go Go.SX Go.SX.Cal Go.Lib
def yc : Nat → Nat → List Int
 | 0, _ => []
 | k + 1, N => yc k (N / 256) ++ [((N % 256 : Nat) : Int)]
theorem pT : ∀ k N, (yc k N).length = k
 | 0, N => rfl
 | k + 1, N => by simp [yc, pT k]
theorem Fe (a : Nat) : ∀ b N, yc (a + b) N = yc a (N / 256 ^ b) ++ yc b N
 | 0, N => by simp [yc]
 | b + 1, N => by
  rw [← Nat.add_assoc]
  simp only [yc]
  rw [Fe a b (N / 256), List.append_assoc, Nat.div_div_eq_div_mul, Nat.pow_succ, Nat.mul_comm 256]
theorem Lv (N : Nat) : yc 8 N = [((N / 72057594037927936 % 256 : Nat) : Int), ((N / 281474976710656 % 256 : Nat) : Int), ((N / 1099511627776 % 256 : Nat) : Int), ((N / 4294967296 % 256 : Nat) : Int), ((N / 16777216 % 256 : Nat) : Int), ((N / 65536 % 256 : Nat) : Int), ((N / 256 % 256 : Nat) : Int), ((N % 256 : Nat) : Int)] := by
 simp only [yc, Nat.div_div_eq_div_mul, List.nil_append, List.cons_append]
theorem Ce (N : Nat) : yc 8 (N % 18446744073709551616) = yc 8 N := by
 rw [Lv, Lv]
 congr 1
 ·congr 1; omega
 congr 1
 ·congr 1; omega
 congr 1
 ·congr 1; omega
 congr 1
 ·congr 1; omega
 congr 1
 ·congr 1; omega
 congr 1
 ·congr 1; omega
 congr 1
 ·congr 1; omega
 congr 1
 congr 1; omega
theorem Ka (N s : Nat) (hs : s ≤ 64) : IntKind.u8.wrap (((N : Nat) : Int).fdiv (2 ^ s)) = ((N / 2 ^ s % 256 : Nat) : Int) := by
 rw [fd]
 have : ∀ x : Int, IntKind.u8.wrap x = x % 256 := by
  intro x; simp only [IntKind.wrap, IntKind.bits, IntKind.signed]; simp
 rw [this]
 generalize N / 2 ^ s = q
 omega
theorem Ib (N : Nat) (b : List Int) (hb : b.length ≤ 4294967000) : kO (N : Int) b = some ((), b ++ yc 8 N) := by
 unfold kO
 have e56 : min (56 : Int).toNat (IntKind.u64).bits = 56 := rfl
 have e48 : min (48 : Int).toNat (IntKind.u64).bits = 48 := rfl
 have e40 : min (40 : Int).toNat (IntKind.u64).bits = 40 := rfl
 have e32 : min (32 : Int).toNat (IntKind.u64).bits = 32 := rfl
 have e24 : min (24 : Int).toNat (IntKind.u64).bits = 24 := rfl
 have e16 : min (16 : Int).toNat (IntKind.u64).bits = 16 := rfl
 have e8 : min (8 : Int).toNat (IntKind.u64).bits = 8 := rfl
 have e0 : min (0 : Int).toNat (IntKind.u64).bits = 0 := rfl
 simp only [e56, e48, e40, e32, e24, e16, e8, e0, am]
 rw [Ka N 56 (by omega), Ka N 48 (by omega), Ka N 40 (by omega), Ka N 32 (by omega), Ka N 24 (by omega), Ka N 16 (by omega), Ka N 8 (by omega), Ka N 0 (by omega)]
 rw [aJ (by omega), aJ (by simp; omega), aJ (by simp; omega), aJ (by simp; omega), aJ (by simp; omega), aJ (by simp; omega), aJ (by simp; omega), aJ (by simp; omega)]
 rw [Lv]
 simp
theorem C9 (rec1 : List Int → Bool → List Int → Int → Option (List Int)) (l1 : List Int) (i : Nat) {d : List Int} (hd : dy d) (hl : d.length < 1000) : ∀ (m f : Nat) (q : List Int) (r : Int), m ≤ d.length → m < f → q.length = d.length → dy (q.drop m) → 0 ≤ r → r < 256 → aQ (d.drop m) = 256 * aQ (q.drop m) + r →
  ∃ q' r', gH rec1 l1 d (i : Int) f q r ((m : Int) - 1) = nK rec1 l1 (i : Int) q' r' ∧ q'.length = d.length ∧ dy q' ∧ 0 ≤ r' ∧ r' < 256 ∧ aQ d = 256 * aQ q' + r' := by
 intro m
 induction m with
 | zero =>
  intro f q r hm hf hq hdq r0 r1 hv
  obtain ⟨f, rfl⟩ : ∃ q, f = q + 1 := ⟨f - 1, by omega⟩
  rw [gH, show decide ((0 : Int) ≤ ((0 : Nat) : Int) - 1) = false from rfl, ae]
  simp only [List.drop_zero] at hdq hv
  exact ⟨q, r, rfl, hq, hdq, r0, r1, hv⟩
 | succ m ih =>
  intro f q r hm hf hq hdq r0 r1 hv
  obtain ⟨f, rfl⟩ : ∃ q, f = q + 1 := ⟨f - 1, by omega⟩
  have hmd : m < d.length := by omega
  have hmq : m < q.length := by omega
  have rd := hd d[m] (List.getElem_mem hmd)
  have e10 : IntKind.i64.wrap (10 * r) = 10 * r := fi (by omega) (by omega)
  have en : IntKind.i64.wrap (10 * r + d[m]) = 10 * r + d[m] := fi (by omega) (by omega)
  have ed : IntKind.i64.wrap ((10 * r + d[m]).tdiv 256) = (10 * r + d[m]) / 256 := by
   rw [Int.tdiv_eq_ediv_of_nonneg (by omega), fi (by omega) (by omega)]
  have em : (10 * r + d[m]).tmod 256 = (10 * r + d[m]) % 256 := Int.tmod_eq_emod_of_nonneg (by omega)
  rw [gH, show ((m + 1 : Nat) : Int) - 1 = (m : Int) by omega, show decide ((0 : Int) ≤ (m : Int)) = true by simp, af, aZ hmd, am, e10, en, ed, em, am, am, aZ hmq, am, fi (x := (m : Int) - 1) (by omega) (by omega), Int.toNat_natCast]
  have hdrop : (q.set m ((10 * r + d[m]) / 256)).drop m = ((10 * r + d[m]) / 256) :: q.drop (m + 1) := by
   rw [List.drop_eq_getElem_cons (by simpa using hmq)]
   congr 1
   ·simp
   ·rw [List.drop_set_of_lt (by omega)]
  refine ih f _ _ (by omega) (by omega) (by simpa using hq) ?_ (by omega) (by omega) ?_
  ·rw [hdrop]; exact Gm hdq (by omega) (by omega)
  ·rw [hdrop, List.drop_eq_getElem_cons hmd]
   simp only [aQ]
   rw [hv]
   omega
theorem LW {x : Int} (h0 : 0 ≤ x) (h1 : x < 256) : IntKind.u8.wrap x = x := by
 simp only [IntKind.wrap, IntKind.bits, IntKind.signed]; simp; omega
theorem Dq : ∀ (j f : Nat) (b : Bool) (d S : List Int) (N : Nat), j < 1000 → j < f → dy d → d.length < 900 → aQ d = (N : Int) →
  er f (List.replicate j 0 ++ S) b d ((j : Int) - 1) = some (yc j N ++ S) := by
 intro j
 induction j with
 | zero =>
  intro f b d S N hj hf hd hl hv
  obtain ⟨f, rfl⟩ : ∃ q, f = q + 1 := ⟨f - 1, by omega⟩
  rw [er, show decide ((0 : Int) ≤ ((0 : Nat) : Int) - 1) = false from rfl, ae]
  rfl
 | succ j ih =>
  intro f b d S N hj hf hd hl hv
  obtain ⟨f, rfl⟩ : ∃ q, f = q + 1 := ⟨f - 1, by omega⟩
  rw [er, show ((j + 1 : Nat) : Int) - 1 = (j : Int) by omega, show decide ((0 : Int) ≤ (j : Int)) = true by simp, af, aJ (by omega), fi (by omega) (by omega), Int.toNat_natCast]
  obtain ⟨q', r', h1, h2, h3, h4, h5, h6⟩ := C9 (er f) (List.replicate (j + 1) 0 ++ S) j hd (by omega) d.length aV (List.replicate d.length 0) 0 (Nat.le_refl _) (by rw [aI]; omega) (by simp) (by simp [dy]) (by omega) (by omega) (by simp [aQ])
  rw [h1]
  unfold nK
  have hlt : j < (List.replicate (j + 1) (0 : Int) ++ S).length := by simp; omega
  obtain ⟨d', g1, g2, g3, g4, g5⟩ := DL false q' (by omega) h3
  rw [aZ hlt, am, g1, am, LW h4 h5, fi (by omega) (by omega), Int.toNat_natCast]
  have hset : (List.replicate (j + 1) (0 : Int) ++ S).set j r' = List.replicate j 0 ++ (r' :: S) := by
   rw [List.replicate_succ', List.append_assoc, List.set_append_right _ _ (by simp)]
   simp
  have hr : r' = ((N % 256 : Nat) : Int) := by rw [hv] at h6; omega
  have hd' : aQ d' = ((N / 256 : Nat) : Int) := by rw [g4]; rw [hv] at h6; omega
  rw [hset, ih f _ d' (r' :: S) (N / 256) (by omega) (by omega) g2 (by omega) hd']
  simp only [yc]
  rw [hr, List.append_assoc]; rfl
theorem Hk {w : bI} {z : Int} {N : Nat} (h : wW w z N) (hN : N < 900) (hz : 0 ≤ z) (k : Nat) (hk : k < 1000) : oR w (k : Int) = some (yc k z.toNat) := by
 have hl := h.l
 have ha := h.abs
 unfold oR
 rw [aJ (by omega), fi (by omega) (by omega), Int.toNat_natCast]
 have := Dq k aV w.below w.d [] z.toNat hk (by rw [aI]; omega) h.d (by omega) (by omega)
 rw [List.append_nil, List.append_nil] at this
 exact this
theorem Ov : cj 40 = 10000000000000000000000000000000000000000 := by decide
theorem Ev (n : Nat) (hn : n ≤ 16) : ∀ (m f i : Nat) (b : Bool) (d : List Int), i + m = n → m < f → 1 ≤ i → wW ⟨b, d⟩ ((128 * 256 ^ (i - 1) : Nat) : Int) 40 → ∃ w, iK (n : Int) f b d (i : Int) = some w ∧ wW w ((128 * 256 ^ (n - 1) : Nat) : Int) 40 := by
 intro m
 induction m with
 | zero =>
  intro f i b d hi hf h1 hA
  obtain ⟨f, rfl⟩ : ∃ q, f = q + 1 := ⟨f - 1, by omega⟩
  rw [iK, show decide ((i : Int) < (n : Int)) = false by simp; omega, ae]
  exact ⟨⟨b, d⟩, rfl, by rw [show n = i by omega]; exact hA⟩
 | succ m ih =>
  intro f i b d hi hf h1 hA
  obtain ⟨f, rfl⟩ : ∃ q, f = q + 1 := ⟨f - 1, by omega⟩
  obtain ⟨u, u1, u2⟩ := yt 256 (by decide) (by decide)
  obtain ⟨v, v1, v2⟩ := Np hA u2 (by omega) (by omega)
  rw [iK, show decide ((i : Int) < (n : Int)) = true by simp; omega, af, u1, am, v1, am, fi (by omega) (by omega), show (i : Int) + 1 = ((i + 1 : Nat) : Int) by omega]
  have e : ((128 * 256 ^ (i - 1) : Nat) : Int) * 256 = ((128 * 256 ^ (i + 1 - 1) : Nat) : Int) := by
   rw [show i + 1 - 1 = (i - 1) + 1 by omega, Nat.pow_succ, ← Nat.mul_assoc, Int.natCast_mul (128 * 256 ^ (i - 1)) 256]; rfl
  rw [e] at v2
  have hp : (256 : Nat) ^ (i + 1 - 1) ≤ 256 ^ 15 := Nat.pow_le_pow_right (by decide) (by omega)
  have hp2 : (256 : Nat) ^ 15 = 1329227995784915872903807060280344576 := by decide
  exact ih f (i + 1) v.below v.d (by omega) (by omega) (by omega) (v2.tight (by rw [Ov]; omega))
theorem J3 (n : Nat) (h1 : 1 ≤ n) (hn : n ≤ 16) : ∃ w, qt (n : Int) = some w ∧ wW w ((128 * 256 ^ (n - 1) : Nat) : Int) 40 := by
 unfold qt
 obtain ⟨u, u1, u2⟩ := yt 128 (by decide) (by decide)
 rw [u1, am]
 exact Ev n hn (n - 1) aV 1 u.below u.d (by omega) (by rw [aI]; omega) (Nat.le_refl _) (u2.mono (by omega))
mutual
def vC : ac → List Int
 | ⟨k, n, sc, s, it⟩ =>
  if k = 0 then [8]
  else if k = 1 then [IntKind.u8.wrap k, IntKind.u8.wrap n]
  else if k = 2 ∨ k = 5 then IntKind.u8.wrap k :: yc 8 (n + 9223372036854775808).toNat
  else if k = 3 then IntKind.u8.wrap k :: (yc 16 (n * cj (12 - sc).toNat + 170141183460469231731687303715884105728).toNat ++ [IntKind.u8.wrap sc])
  else if k = 4 then IntKind.u8.wrap k :: (iu s ++ [0])
  else IntKind.u8.wrap k :: (xb it ++ [0])
def xb : List ac → List Int
 | [] => []
 | x :: l => (1 :: vC x) ++ xb l
end
inductive Sn : ac → Prop where
 | mk (v : ac) (h : du v = true) (hi : ∀ x ∈ v.items, Sn x) : Sn v
theorem Sn.pl {v : ac} (h : Sn v) : du v = true := by cases h; assumption
theorem Sn.it {v : ac} (h : Sn v) : ∀ x ∈ v.items, Sn x := by cases h; assumption
theorem zI {f : ac → Int → Bool × Int} : ∀ {l : List ac} {z : Int}, (dF f l z).1 = true → ∀ x ∈ l, ∃ z', (f x z').1 = true
 | [], z, _, x, hx => by cases hx
 | v :: l, z, h, x, hx => by
  simp only [dF] at h
  by_cases hv : (f v z).1 = true
  ·rw [if_pos hv] at h
   rcases List.mem_cons.1 hx with rfl | hx
   ·exact ⟨z, hv⟩
   ·exact zI h x hx
  ·rw [if_neg hv] at h; cases h
theorem AT : ∀ (d : Nat) (v : ac) (z : Int), (bW d v z).1 = true → Sn v
 | 0, v, z, h => by simp [bW] at h
 | d + 1, v, z, h => by
  simp only [bW] at h
  by_cases hc : 256 < oF v z ∨ du v = false
  ·rw [if_pos hc] at h; cases h
  ·rw [if_neg hc] at h
   rw [not_or] at hc
   exact .mk v (by simpa using hc.2) (fun x hx => by
    obtain ⟨z', hz⟩ := zI h x hx
    exact AT d x z' hz)
theorem HA {v : ac} (h : jM v = true) : Sn v := AT 4 v 0 h
theorem yZ {v : ac} (h : du v = true) : (v.kind = 2 ∨ v.kind = 3 ∨ v.kind = 5 → v.n.natAbs < 1000000000000000000) ∧ (v.kind = 3 → 0 ≤ v.scale ∧ v.scale ≤ 12) ∧ 0 ≤ v.kind ∧ v.kind ≤ 7 := by
 unfold du at h
 simp only at h
 by_cases h0 : v.kind = 0
 ·exact ⟨by omega, by omega, by omega, by omega⟩
 by_cases h1 : v.kind = 1
 ·exact ⟨by omega, by omega, by omega, by omega⟩
 by_cases h2 : v.kind = 2
 ·simp [h2] at h; exact ⟨by omega, by omega, by omega, by omega⟩
 by_cases h3 : v.kind = 3
 ·simp [h3] at h; exact ⟨by omega, by omega, by omega, by omega⟩
 by_cases h4 : v.kind = 4
 ·exact ⟨by omega, by omega, by omega, by omega⟩
 by_cases h5 : v.kind = 5
 ·simp [h5] at h; exact ⟨by omega, by omega, by omega, by omega⟩
 by_cases h6 : v.kind = 6
 ·exact ⟨by omega, by omega, by omega, by omega⟩
 by_cases h7 : v.kind = 7
 ·exact ⟨by omega, by omega, by omega, by omega⟩
 ·simp [h0, h1, h2, h3, h4, h5, h6, h7] at h
theorem vr (s : ByteArray) : (iu s).length = s.size := by
 unfold iu
 rw [List.length_map, Array.length_toList]; rfl
mutual
theorem qE : ∀ v, (vC v).length + 5 ≤ 30 * bO v
 | ⟨k, n, sc, s, it⟩ => by
  have h1 := Cn it
  have h3 := cP it
  have h2 := vr s
  simp only [vC, bO]
  split
  ·simp; omega
  split
  ·simp; omega
  split
  ·simp [pT]; omega
  split
  ·simp [pT]; omega
  split
  ·simp; omega
  ·simp; omega
theorem Cn : ∀ l, (xb l).length ≤ 30 * sizeL l
 | [] => by simp [xb]
 | x :: l => by
  have h1 := qE x
  have h2 := Cn l
  simp only [xb, sizeL, List.length_append, List.length_cons]; omega
end
theorem Nz {x : Int} (h0 : 0 ≤ x) (h1 : x < 18446744073709551616) : IntKind.u64.wrap x = x := by rw [wu]; omega
theorem Lr (n : Int) (h0 : -9223372036854775808 ≤ n) (h1 : n ≤ 9223372036854775807) : IntKind.u64.wrap ((IntKind.u64.wrap n) + (9223372036854775808 : Int)) = (((n + 9223372036854775808).toNat : Nat) : Int) := by
 rw [wu, wu]; omega
theorem Kj {s : Bool} {A : Nat} (hA : A < 1000000000000000000000000000000) (b : List Int) (hb : b.length ≤ 4294966000) : jJ (mc s A) b = some ((), b ++ yc 16 (DE s A + 170141183460469231731687303715884105728).toNat) := by
 unfold jJ
 have e1 : bP (mc (decide ((1 : Int) < 0)) (Int.natAbs 1)) (9223372036854775808 : Int) = some (mc false 9223372036854775808) := wH false 1 9223372036854775808 (by decide) (by decide) (by decide)
 have e2 : bP (mc false 9223372036854775808) (9223372036854775808 : Int) = some (mc false 85070591730234615865843651857942052864) := wH false 9223372036854775808 9223372036854775808 (by decide) (by decide) (by decide)
 have e3 : bP (mc false 85070591730234615865843651857942052864) (2 : Int) = some (mc false 170141183460469231731687303715884105728) := wH false 85070591730234615865843651857942052864 2 (by decide) (by decide) (by decide)
 obtain ⟨u, C, p1, p2, p3⟩ := JK false s 170141183460469231731687303715884105728 A (by omega)
 rw [Cq 1 (by decide) (by decide), am, xZ, e1, am, xZ, e2, am, xZ, e3, am, xZ, xZ, p1, am]
 have hs : DE false 170141183460469231731687303715884105728 = 170141183460469231731687303715884105728 := rfl
 rw [hs] at p2
 have hsA : -1000000000000000000000000000000 < DE s A ∧ DE s A < 1000000000000000000000000000000 := by unfold DE; split <;> omega
 have hu : u = false ∧ (C : Int) = DE s A + 170141183460469231731687303715884105728 := by
  unfold DE at p2 hsA ⊢
  cases u
  ·simp at p2; exact ⟨rfl, by omega⟩
  ·simp at p2; exfalso; omega
 obtain ⟨rfl, hC⟩ := hu
 have hCn : (DE s A + 170141183460469231731687303715884105728).toNat = C := by omega
 rw [hCn, show (mc false C).size.2.1 = ((wd C 1 : Nat) : Int) from rfl, show (mc false C).size.1 = ((wd C 0 : Nat) : Int) from rfl, Ib _ _ (by omega), am]
 simp only
 rw [Ib _ _ (by rw [List.length_append, pT]; omega), am]
 simp only
 rw [List.append_assoc, show (16 : Nat) = 8 + 8 from rfl, Fe 8 8, Mt, Mv, Ce, Ce, show (256 : Nat) ^ 8 = 18446744073709551616 from by decide]
theorem CP (v : ac) : vC v = if v.kind = 0 then [8] else if v.kind = 1 then [IntKind.u8.wrap v.kind, IntKind.u8.wrap v.n] else if v.kind = 2 ∨ v.kind = 5 then IntKind.u8.wrap v.kind :: yc 8 (v.n + 9223372036854775808).toNat
  else if v.kind = 3 then IntKind.u8.wrap v.kind :: (yc 16 (v.n * cj (12 - v.scale).toNat + 170141183460469231731687303715884105728).toNat ++ [IntKind.u8.wrap v.scale])
  else if v.kind = 4 then IntKind.u8.wrap v.kind :: (iu v.s ++ [0]) else IntKind.u8.wrap v.kind :: (xb v.items ++ [0]) := by
 cases v; simp only [vC]
theorem AS {l : List ac} {i : Nat} (h : i < l.length) : xb (l.drop i) = (1 :: vC l[i]) ++ xb (l.drop (i + 1)) := by
 rw [List.drop_eq_getElem_cons h]; simp only [xb]
theorem Gr (q : ac → List Int → Option (Unit × List Int)) (v : ac) (hl : sizeL v.items < 100000000) (hq : ∀ x ∈ v.items, ∀ b : List Int, b.length + 30 * bO x ≤ 4294960000 → q x b = some ((), b ++ vC x)) : ∀ (m f i : Nat) (b : List Int), i + m = v.items.length → m < f → b.length + 30 * sizeL (v.items.drop i) + 10 ≤ 4294960000 →
  fH q v f b (i : Int) = some ((), b ++ (xb (v.items.drop i) ++ [0])) := by
 have hlen := cP v.items
 intro m
 induction m with
 | zero =>
  intro f i b hi hf hb
  obtain ⟨f, rfl⟩ : ∃ q, f = q + 1 := ⟨f - 1, by omega⟩
  rw [fH, show decide ((i : Int) < (v.items.length : Int)) = false by simp; omega, ae, List.drop_of_length_le (by omega)]
  unfold oT
  rw [aJ (by omega)]; rfl
 | succ m ih =>
  intro f i b hi hf hb
  obtain ⟨f, rfl⟩ : ∃ q, f = q + 1 := ⟨f - 1, by omega⟩
  have hil : i < v.items.length := by omega
  have hsz : sizeL (v.items.drop i) = bO v.items[i] + sizeL (v.items.drop (i + 1)) := by rw [List.drop_eq_getElem_cons hil]; simp only [sizeL]
  have hkl := qE v.items[i]
  have hpos := js v.items[i]
  rw [fH, bn hil, af, aZ hil, am, aJ (by omega), hq _ (List.getElem_mem hil) _ (by simp; omega), am, aG hil (by omega)]
  simp only
  rw [ih f (i + 1) _ (by omega) (by omega) (by simp; omega), AS hil]
  simp
theorem NF : ∀ (k : Nat) (v : ac) (b : List Int), Sn v → bO v < k → bO v < 100000000 → b.length + 30 * bO v ≤ 4294960000 → d9 k v b = some ((), b ++ vC v) := by
 intro k
 induction k with
 | zero => intro v b _ h; omega
 | succ k ih =>
  intro v b hs hk hv hb
  obtain ⟨p1, p2, p3⟩ := yZ hs.pl
  have hpos := js v
  have hsz := kM v
  have hbl := vr v.s
  rw [d9, CP]
  by_cases h0 : v.kind = 0
  ·rw [show (v.kind == 0) = true by simpa using h0, af, aJ (by omega), if_pos h0]
  rw [show (v.kind == 0) = false by simpa using h0, ae, if_neg h0, aJ (by omega)]
  by_cases h1 : v.kind = 1
  ·rw [show (v.kind == 1) = true by simpa using h1, af, aJ (by simp; omega), if_pos h1]
   simp
  rw [show (v.kind == 1) = false by simpa using h1, ae, if_neg h1]
  have j25 : v.kind = 2 ∨ v.kind = 5 → gS (d9 k) v b true = some ((), b ++ (IntKind.u8.wrap v.kind :: yc 8 (v.n + 9223372036854775808).toNat)) := by
   intro h25
   have hn := p1 (by omega)
   unfold gS
   rw [af, Lr v.n (by omega) (by omega), am, Ib _ _ (by simp; omega), am]
   simp
  have jno : v.kind ≠ 2 → v.kind ≠ 5 → gS (d9 k) v b false = some ((), b ++ (if v.kind = 3 then IntKind.u8.wrap v.kind :: (yc 16 (v.n * cj (12 - v.scale).toNat + 170141183460469231731687303715884105728).toNat ++ [IntKind.u8.wrap v.scale])
    else if v.kind = 4 then IntKind.u8.wrap v.kind :: (iu v.s ++ [0]) else IntKind.u8.wrap v.kind :: (xb v.items ++ [0]))) := by
   intro h2 h5
   unfold gS
   rw [ae]
   by_cases h3 : v.kind = 3
   ·have hn := p1 (by omega)
    obtain ⟨s0, s12⟩ := p2 h3
    obtain ⟨d, hd⟩ : ∃ d : Nat, 12 - v.scale = (d : Int) := ⟨(12 - v.scale).toNat, by omega⟩
    have hpd : (10 : Nat) ^ d ≤ 10 ^ 12 := Nat.pow_le_pow_right (by decide) (by omega)
    have hA : v.n.natAbs * 10 ^ d ≤ 999999999999999999 * 10 ^ 12 := Nat.mul_le_mul (by omega) hpd
    have hA' : v.n.natAbs * 10 ^ d < 1000000000000000000000000000000 := Nat.lt_of_le_of_lt hA (by decide)
    rw [show (v.kind == 3) = true by simpa using h3, af, if_pos h3, fi (by omega) (by omega), hd, FN v.n d (by omega) (by omega) (by omega) (Nat.lt_trans hA' (by decide)), am, xZ, Kj hA' _ (by simp; omega), am]
    simp only
    have hsg : DE (decide (v.n < 0)) (v.n.natAbs * 10 ^ d) = v.n * cj d := by
     unfold DE
     rw [FJ, Int.natCast_mul]
     by_cases h : v.n < 0
     ·rw [if_pos (by simpa using h), show ((v.n.natAbs : Nat) : Int) = -v.n by omega, Int.neg_mul, Int.neg_neg]
     ·rw [if_neg (by simpa using h), show ((v.n.natAbs : Nat) : Int) = v.n by omega]
    rw [aJ (by simp [pT]; omega), hsg, Int.toNat_natCast]
    simp
   rw [show (v.kind == 3) = false by simpa using h3, ae, if_neg h3]
   by_cases h4 : v.kind = 4
   ·rw [show (v.kind == 4) = true by simpa using h4, af, if_pos h4, aJ (by simp; omega), aJ (by simp; omega)]
    simp
   rw [show (v.kind == 4) = false by simpa using h4, ae, if_neg h4]
   have hq : ∀ x ∈ v.items, ∀ b : List Int, b.length + 30 * bO x ≤ 4294960000 → d9 k x b = some ((), b ++ vC x) := fun x hx b hb => by
    have := cY hx
    exact ih x b (hs.it x hx) (by omega) (by omega) hb
   have := Gr (d9 k) v (by omega) hq v.items.length aV 0 (b ++ [IntKind.u8.wrap v.kind]) (by omega) (by have := cP v.items; rw [aI]; omega) (by simp; omega)
   rw [show ((0 : Nat) : Int) = 0 from rfl, List.drop_zero] at this
   rw [this]; simp
  by_cases h2 : v.kind = 2
  ·rw [show (v.kind == 2) = true by simpa using h2, af, j25 (.inl h2), if_pos (.inl h2)]
  rw [show (v.kind == 2) = false by simpa using h2, ae]
  by_cases h5 : v.kind = 5
  ·rw [show (v.kind == 5) = true by simpa using h5, j25 (.inr h5), if_pos (.inr h5)]
  rw [show (v.kind == 5) = false by simpa using h5, jno h2 h5, if_neg (show ¬ (v.kind = 2 ∨ v.kind = 5) by omega)]
theorem GJ (q : ac → Option (List Int)) (v : ac) (hl : sizeL v.items < 100000000) (hq : ∀ x ∈ v.items, q x = some (vC x)) : ∀ (m f i : Nat) (b : List Int), i + m = v.items.length → m < f → b.length + 30 * sizeL (v.items.drop i) + 10 ≤ 4294960000 →
  jv q v f b (i : Int) = some (b ++ (xb (v.items.drop i) ++ [0])) := by
 have hlen := cP v.items
 intro m
 induction m with
 | zero =>
  intro f i b hi hf hb
  obtain ⟨f, rfl⟩ : ∃ q, f = q + 1 := ⟨f - 1, by omega⟩
  rw [jv, show decide ((i : Int) < (v.items.length : Int)) = false by simp; omega, ae, List.drop_of_length_le (by omega)]
  unfold s8 iL
  rw [aJ (by omega)]; rfl
 | succ m ih =>
  intro f i b hi hf hb
  obtain ⟨f, rfl⟩ : ∃ q, f = q + 1 := ⟨f - 1, by omega⟩
  have hil : i < v.items.length := by omega
  have hsz : sizeL (v.items.drop i) = bO v.items[i] + sizeL (v.items.drop (i + 1)) := by rw [List.drop_eq_getElem_cons hil]; simp only [sizeL]
  have hkl := qE v.items[i]
  have hpos := js v.items[i]
  rw [jv, bn hil, af, aJ (by omega), aZ hil, am, hq _ (List.getElem_mem hil), am, aJ (by simp; omega), aG hil (by omega)]
  rw [ih f (i + 1) _ (by omega) (by omega) (by simp; omega), AS hil]
  simp
theorem Nn : ∀ (k : Nat) (v : ac), Sn v → bO v < k → bO v < 100000000 → iO k v = some (vC v) := by
 intro k
 induction k with
 | zero => intro v _ h; omega
 | succ k ih =>
  intro v hs hk hv
  obtain ⟨p1, p2, p3⟩ := yZ hs.pl
  have hpos := js v
  have hsz := kM v
  have hbl := vr v.s
  rw [iO, CP]
  by_cases h0 : v.kind = 0
  ·rw [show (v.kind == 0) = true by simpa using h0, af, if_pos h0]
  rw [show (v.kind == 0) = false by simpa using h0, ae, if_neg h0]
  by_cases h1 : v.kind = 1
  ·rw [show (v.kind == 1) = true by simpa using h1, af, aJ (by simp), if_pos h1]; rfl
  rw [show (v.kind == 1) = false by simpa using h1, ae, if_neg h1]
  have j25 : v.kind = 2 ∨ v.kind = 5 → kF (iO k) v true = some (IntKind.u8.wrap v.kind :: yc 8 (v.n + 9223372036854775808).toNat) := by
   intro h25
   have hn := p1 (by omega)
   unfold kF iL
   obtain ⟨a, a1, a2⟩ := yt v.n (by omega) (by omega)
   obtain ⟨h, hh1, hh2⟩ := J3 8 (by decide) (by decide)
   obtain ⟨c, c1, c2⟩ := L7 a2 hh2 (by omega) (by omega)
   have e : ((128 * 256 ^ (8 - 1) : Nat) : Int) = 9223372036854775808 := by decide
   rw [e] at c2
   have hf := Hk c2 (by omega) (by omega) 8 (by omega)
   rw [af, a1, am, show ((8 : Int)) = ((8 : Nat) : Int) from rfl, hh1, am, c1, am, hf, am, aJ (by simp [pT])]; rfl
  have jno : v.kind ≠ 2 → v.kind ≠ 5 → kF (iO k) v false = some (if v.kind = 3 then IntKind.u8.wrap v.kind :: (yc 16 (v.n * cj (12 - v.scale).toNat + 170141183460469231731687303715884105728).toNat ++ [IntKind.u8.wrap v.scale])
    else if v.kind = 4 then IntKind.u8.wrap v.kind :: (iu v.s ++ [0]) else IntKind.u8.wrap v.kind :: (xb v.items ++ [0])) := by
   intro h2 h5
   unfold kF iL
   rw [ae]
   by_cases h3 : v.kind = 3
   ·have hn := p1 (by omega)
    obtain ⟨s0, s12⟩ := p2 h3
    obtain ⟨d, hd⟩ : ∃ d : Nat, 12 - v.scale = (d : Int) := ⟨(12 - v.scale).toNat, by omega⟩
    obtain ⟨a, a1, a2⟩ := yt v.n (by omega) (by omega)
    obtain ⟨t, t1, t2⟩ := Me a2 (k := d) (by omega) (by omega)
    obtain ⟨h, hh1, hh2⟩ := J3 16 (by decide) (by decide)
    obtain ⟨c, c1, c2⟩ := L7 t2 hh2 (by omega) (by omega)
    have e : ((128 * 256 ^ (16 - 1) : Nat) : Int) = 170141183460469231731687303715884105728 := by decide
    rw [e] at c2
    have hp12 := mw (show d ≤ 12 by omega)
    have hp0 := BL d
    have e12 : cj 12 = 1000000000000 := by decide
    have hz : 0 ≤ v.n * cj d + 170141183460469231731687303715884105728 := by
     have hb1 : -(1000000000000000000 * cj d) ≤ v.n * cj d := by
      rw [← Int.neg_mul]
      exact Int.mul_le_mul_of_nonneg_right (by omega) (by omega)
     omega
    have hf := Hk c2 (by omega) hz 16 (by omega)
    unfold kK
    rw [show (v.kind == 3) = true by simpa using h3, af, if_pos h3, a1, am, fi (by omega) (by omega), hd, t1, am, am, show ((16 : Int)) = ((16 : Nat) : Int) from rfl, hh1, am, c1, am, hf, am, aJ (by simp [pT]), aJ (by simp [pT]), Int.toNat_natCast]
    simp
   rw [show (v.kind == 3) = false by simpa using h3, ae, if_neg h3]
   by_cases h4 : v.kind = 4
   ·rw [show (v.kind == 4) = true by simpa using h4, af, if_pos h4, aJ (by simp; omega), aJ (by simp; omega)]
    simp
   rw [show (v.kind == 4) = false by simpa using h4, ae, if_neg h4]
   have hq : ∀ x ∈ v.items, iO k x = some (vC x) := fun x hx => by
    have := cY hx
    exact ih x (hs.it x hx) (by omega) (by omega)
   have := GJ (iO k) v (by omega) hq v.items.length aV 0 [IntKind.u8.wrap v.kind] (by omega) (by have := cP v.items; rw [aI]; omega) (by simp; omega)
   rw [show ((0 : Nat) : Int) = 0 from rfl, List.drop_zero] at this
   rw [this]; simp
  by_cases h2 : v.kind = 2
  ·rw [show (v.kind == 2) = true by simpa using h2, af, j25 (.inl h2), if_pos (.inl h2)]
  rw [show (v.kind == 2) = false by simpa using h2, ae]
  by_cases h5 : v.kind = 5
  ·rw [show (v.kind == 5) = true by simpa using h5, j25 (.inr h5), if_pos (.inr h5)]
  rw [show (v.kind == 5) = false by simpa using h5, jno h2 h5, if_neg (show ¬ (v.kind = 2 ∨ v.kind = 5) by omega)]
def JF (l : List ac) (i : Nat) : Bool := !jM (l.getD i Mo)
theorem DV {l : List ac} {i : Nat} (h : i < l.length) : JF l i = !jM l[i] := by unfold JF; simp [List.getD, List.getElem?_eq_getElem h]
def n4 : List ac → List Int
 | [] => []
 | x :: l => vC x ++ n4 l
def Di (l : List ac) : List Int := if (first (JF l) 0 l.length).isSome = true then [] else n4 l
theorem xI {l : List ac} {i : Nat} (h : i < l.length) : n4 (l.drop i) = vC l[i] ++ n4 (l.drop (i + 1)) := by
 rw [List.drop_eq_getElem_cons h]; simp only [n4]
theorem AQ {l : List ac} {i : Nat} (h : i < l.length) : sizeL (l.drop i) = bO l[i] + sizeL (l.drop (i + 1)) := by rw [List.drop_eq_getElem_cons h]; simp only [sizeL]
theorem LR (l : List ac) (hl : sizeL l < 100000000) : br l = some (first (JF l) 0 l.length).isSome := by
 have hlen := cP l
 unfold br cc
 have h := ir (f := fun k i => ax l k (i : Int)) (n := l.length) (P := JF l) (A := fun i => some (i : Int)) (B := some (-1))
  (fun k i hi => by
   have := cY (List.getElem_mem hi)
   show ax l (k + 1) (i : Int) = _
   rw [ax]
   unfold rV
   rw [bn hi, af, aZ hi, am, xp _ (by omega), am, am, DV hi, aG hi (by omega), au])
  (fun k => by
   show ax l (k + 1) (l.length : Int) = _
   rw [ax, show decide ((l.length : Int) < (l.length : Int)) = false by simp, ae]; rfl)
  aV 0 (by omega) (by rw [aI]; omega)
 have h' : ax l aV 0 = (first (JF l) 0 l.length).elim (some (-1)) (fun i => some (i : Int)) := h
 rw [h']
 cases first (JF l) 0 l.length with
 | none => rfl
 | some i => simp [Option.elim, am]
theorem Gt {l : List ac} (hl : sizeL l < 100000000) (hs : ∀ x ∈ l, Sn x) : ∀ (m f i : Nat) (b : List Int), i + m = l.length → m < f → b.length + 30 * sizeL (l.drop i) ≤ 4294960000 → iM l f b (i : Int) = some (b ++ n4 (l.drop i)) := by
 have hlen := cP l
 intro m
 induction m with
 | zero =>
  intro f i b hi hf hb
  obtain ⟨f, rfl⟩ : ∃ q, f = q + 1 := ⟨f - 1, by omega⟩
  rw [iM, show decide ((i : Int) < (l.length : Int)) = false by simp; omega, ae, List.drop_of_length_le (by omega)]
  unfold qM kf
  rw [aJ (by omega)]
  simp [am, n4]
 | succ m ih =>
  intro f i b hi hf hb
  obtain ⟨f, rfl⟩ : ∃ q, f = q + 1 := ⟨f - 1, by omega⟩
  have hil : i < l.length := by omega
  have hsz := AQ hil
  have hkl := qE l[i]
  have := cY (List.getElem_mem hil)
  rw [iM, bn hil, af, aZ hil, am, NF aV _ _ (hs _ (List.getElem_mem hil)) (by rw [aI]; omega) (by omega) (by omega), am, aG hil (by omega)]
  simp only
  rw [ih f (i + 1) _ (by omega) (by omega) (by simp; omega), xI hil, List.append_assoc]
theorem Gl {l : List ac} (hl : sizeL l < 100000000) : ∀ (m f i : Nat) (b : List Int), i + m = l.length → m < f → b.length + 30 * sizeL (l.drop i) ≤ 4294960000 → jE l f b (i : Int) = some (if (first (JF l) i l.length).isSome = true then [] else b ++ n4 (l.drop i)) := by
 have hlen := cP l
 intro m
 induction m with
 | zero =>
  intro f i b hi hf hb
  obtain ⟨f, rfl⟩ : ∃ q, f = q + 1 := ⟨f - 1, by omega⟩
  have : i = l.length := by omega
  subst this
  rw [jE, show decide ((l.length : Int) < (l.length : Int)) = false by simp, ae, iz, List.drop_length]
  simp [n4, rR]
 | succ m ih =>
  intro f i b hi hf hb
  obtain ⟨f, rfl⟩ : ∃ q, f = q + 1 := ⟨f - 1, by omega⟩
  have hil : i < l.length := by omega
  have hsz := AQ hil
  have hkl := qE l[i]
  have := cY (List.getElem_mem hil)
  rw [jE, bn hil, af, aZ hil, am, BO _ (by omega), am, gb hil, DV hil]
  cases hs : jM l[i]
  ·rw [Bool.not_false, af]; simp
  ·rw [Bool.not_true, ae, Nn aV _ (HA hs) (by rw [aI]; omega) (by omega), am, aJ (by omega), aG hil (by omega)]
   rw [ih f (i + 1) _ (by omega) (by omega) (by simp; omega), xI hil, List.append_assoc]
   simp
theorem ND (l : List ac) (hl : sizeL l < 100000000) : tI l = some (Di l) := by
 have hlen := cP l
 unfold tI Di
 rw [LR l hl, am]
 cases hf : first (JF l) 0 l.length with
 | some i => rfl
 | none =>
  have hg := kx.1 hf
  have hs : ∀ x ∈ l, Sn x := fun x hx => by
   obtain ⟨i, hi, rfl⟩ := List.getElem_of_mem hx
   have := hg i (Nat.zero_le _) hi
   rw [DV hi] at this
   exact HA (by simpa using this)
  have := Gt hl hs l.length aV 0 [] (by omega) (by rw [aI]; omega) (by simp; omega)
  rw [List.drop_zero, List.nil_append] at this
  simp only [Option.isSome_none, ae, Bool.false_eq_true, if_false]
  exact this
theorem NH (l : List ac) (hl : sizeL l < 100000000) : wL l = some (Di l) := by
 have hlen := cP l
 unfold wL Di
 have := Gl hl l.length aV 0 [] (by omega) (by rw [aI]; omega) (by simp; omega)
 rw [List.drop_zero, List.nil_append] at this
 exact this
theorem zL : ∀ l, (n4 l).length ≤ 30 * sizeL l
 | [] => by simp [n4]
 | x :: l => by
  have := qE x
  have := zL l
  simp only [n4, sizeL, List.length_append]; omega
theorem H8 (l : List ac) : (Di l).length ≤ 30 * sizeL l := by
 unfold Di
 split
 ·simp
 ·exact zL l
theorem KT (b : List Int) (hb : b.length < 1000000000) : ∀ (m f i : Nat) (x : Int), i + m = b.length → m < f → ∃ h, dK b f x (i : Int) = some h ∧ jH b f x (i : Int) = some h := by
 intro m
 induction m with
 | zero =>
  intro f i x hi hf
  obtain ⟨f, rfl⟩ : ∃ q, f = q + 1 := ⟨f - 1, by omega⟩
  rw [dK, jH, show decide ((i : Int) < (b.length : Int)) = false by simp; omega, ae, ae]
  exact ⟨x, rfl, rfl⟩
 | succ m ih =>
  intro f i x hi hf
  obtain ⟨f, rfl⟩ : ∃ q, f = q + 1 := ⟨f - 1, by omega⟩
  have hil : i < b.length := by omega
  rw [dK, jH, bn hil, af, af, aZ hil]
  simp only [am]
  rw [aG hil hb]
  exact ih f (i + 1) _ (by omega) (by omega)
theorem I3 (v : ac) (hv : bO v < 10000000) : ∃ h, pc v = some h ∧ qz v = some h := by
 have hl : sizeL [v] < 100000000 := by simp only [sizeL]; omega
 have hk := H8 [v]
 simp only [sizeL] at hk
 obtain ⟨h, h1, h2⟩ := KT (Di [v]) (by omega) (Di [v]).length aV 0 14695981039346656037 (by omega) (by rw [aI]; omega)
 refine ⟨h, ?_, ?_⟩
 ·unfold pc oe
  rw [ND _ hl, am, show ((0 : Int)) = ((0 : Nat) : Int) from rfl, h1]; rfl
 ·unfold qz yA
  rw [NH _ hl, am, show ((0 : Int)) = ((0 : Nat) : Int) from rfl, h2]; rfl
end Go.Proofs.YtbfekiekbifgcaaGreatDoor
namespace Go.Proofs.YtbfekiekbifgcaaGreatDoor
open Go Go.SX Go.SX.Cal Go.Lib
def iH (b : Nat) : Bool := decide (97 ≤ b) && decide (b ≤ 122)
def other (b : Nat) : Bool := b == 95 || (decide (48 ≤ b) && decide (b ≤ 57))
def rk (b : Nat) : Bool := iH b || other b
theorem zb (n : Nat) : lh (Int.ofNat n) = some (!rk n) := by
 unfold lh dM
 simp only [au, decide_eq_true_eq, Int.ofNat_eq_natCast]
 repeat' split
 all_goals (rw [Option.some.injEq, Bool.eq_iff_iff]; simp [rk, iH, other]; omega)
def Bj (s : ByteArray) (i : Nat) : Bool := !rk (eE s i)
theorem qZ (s : ByteArray) : ∀ k i, i ≤ s.size → s.size - i < k → ∃ r, aX s true k i = some r ∧ (decide (0 ≤ r) = (first (Bj s) i s.size).isSome) := by
 intro k
 induction k with
 | zero => intro i _ h; omega
 | succ k ih =>
  intro i hi hk
  rw [aX]
  by_cases h : i = s.size
  ·subst h
   rw [iz]
   simp only [Nat.lt_irrefl, decide_false, ae]
   exact ⟨-1, rfl, rfl⟩
  ·have hlt : i < s.size := by omega
   simp only [hlt, decide_true, af, zb, ar]
   rw [gb hlt]
   by_cases hb : eE s i < 128
   ·rw [qo s i hlt hb]
    simp only [Bj]
    by_cases hg : rk (eE s i) = true
    ·simp only [hg, Bool.not_true, au]
     obtain ⟨r, h1, h2⟩ := ih (i + 1) (by omega) (by omega)
     exact ⟨r, by simpa using h1, by simpa [Bj] using h2⟩
    ·simp only [hg, Bool.not_false, au]
     exact ⟨_, rfl, by simp⟩
   ·have h1 := qG s i hlt hb
    have g1 : rk (Utf8.decode s i).1 = false := by
     generalize (Utf8.decode s i).1 = x at h1
     simp [rk, iH, other]; omega
    have g2 : Bj s i = true := by
     simp [Bj, rk, iH, other]; omega
    simp only [g1, g2, Bool.not_false, au]
    exact ⟨_, rfl, by simp⟩
def hU (s : ByteArray) : Bool := decide (1 ≤ s.size) && decide (s.size ≤ 24) && iH (eE s 0) && (first (Bj s) 0 s.size).isNone
theorem Ia (s : ByteArray) (hs : s.size < 1000000000) : mY s = some (hU s) := by
 obtain ⟨r, h1, h2⟩ := qZ s aV 0 (Nat.zero_le _) (by rw [aI]; omega)
 unfold mY iX cM dk dj
 rw [h1, gM]
 simp only [ar, h2, au]
 by_cases z0 : s.size = 0
 ·simp [z0, hU]
 ·by_cases z1 : 24 < s.size
  ·have : ¬ s.size ≤ 24 := by omega
   simp [z0, z1, hU, this, show (24 : Int) < (s.size : Int) by omega]
  ·have hz : ¬ (24 : Int) < (s.size : Int) := by omega
   have hb : ((s.data.toList.getD (0 : Int).toNat 0).toNat : Int) = (eE s 0 : Int) := rfl
   simp only [z0, decide_false, hz, Bool.false_eq_true, if_false, hb]
   rw [aJ (by omega), aJ (by omega)]
   simp only [decide_eq_true_eq]
   have : s.size ≤ 24 := by omega
   by_cases q1 : eE s 0 < 97
   ·have : ¬ 97 ≤ eE s 0 := by omega
    simp [show (eE s 0 : Int) < 97 by omega, hU, iH, this]
   ·by_cases q2 : 122 < eE s 0
    ·have : ¬ eE s 0 ≤ 122 := by omega
     simp [show ¬ (eE s 0 : Int) < 97 by omega, show (122 : Int) < (eE s 0 : Int) by omega, hU, iH, this]
    ·simp [show ¬ (eE s 0 : Int) < 97 by omega, show ¬ (122 : Int) < (eE s 0 : Int) by omega, hU, iH, show 1 ≤ s.size by omega, this, show 97 ≤ eE s 0 by omega, show eE s 0 ≤ 122 by omega]
def qd (s : ByteArray) (i : Nat) : Bool := !iH (eE s i) && (i == 0 || !other (eE s i))
theorem vp (s : ByteArray) (hs : s.size < 1000000000) (k i : Nat) (hi : i < s.size) : bB s (k + 1) (i : Int) = if qd s i = true then some false else bB s k ((i + 1 : Nat) : Int) := by
 rw [bB, ← au]
 have hb : ((s.data.toList.getD (i : Int).toNat 0).toNat : Int) = (eE s i : Int) := rfl
 have hw : IntKind.i64.wrap ((i : Int) + 1) = ((i + 1 : Nat) : Int) := by rw [fi (by omega) (by omega)]; omega
 have hg : 0 ≤ (i : Int) ∧ (i : Int) < (s.size : Int) := by omega
 rw [show decide ((i : Int) < (s.size : Int)) = true by simp [hg.2], af]
 simp only [mC, kU, kW, hb, hw, ar, aJ hg]
 have e1 : ((eE s i : Int) == 95) = (eE s i == 95) := by rw [Bool.eq_iff_iff]; simp; omega
 have e2 : (decide ((97 : Int) ≤ eE s i)) = decide (97 ≤ eE s i) := by rw [Bool.eq_iff_iff]; simp; omega
 have e3 : (decide ((eE s i : Int) ≤ 122)) = decide (eE s i ≤ 122) := by rw [Bool.eq_iff_iff]; simp; omega
 have e4 : (decide ((48 : Int) ≤ eE s i)) = decide (48 ≤ eE s i) := by rw [Bool.eq_iff_iff]; simp; omega
 have e5 : (decide ((eE s i : Int) ≤ 57)) = decide (eE s i ≤ 57) := by rw [Bool.eq_iff_iff]; simp; omega
 have e6 : ((i : Int) == 0) = (i == 0) := by rw [Bool.eq_iff_iff]; simp
 simp only [e1, e2, e3, e4, e5, e6, qd, iH, other]
 generalize hq : bB s k ((i + 1 : Nat) : Int) = q
 generalize (eE s i == 95) = b1
 generalize decide (97 ≤ eE s i) = b2
 generalize decide (eE s i ≤ 122) = b3
 generalize decide (48 ≤ eE s i) = b4
 generalize decide (eE s i ≤ 57) = b5
 generalize (i == 0) = b6
 cases b1 <;> cases b2 <;> cases b3 <;> cases b4 <;> cases b5 <;> cases b6 <;> rfl
theorem H3 (s : ByteArray) (hs : s.size < 1000000000) : oJ s = some (hU s) := by
 have hl := ir (f := fun k i => bB s k (i : Int)) (n := s.size) (P := qd s) (A := fun _ => some false) (B := some true) (fun k i hi => vp s hs k i hi)
  (fun k => by rw [bB]; simp only [Int.lt_irrefl, decide_false, ae]; rfl) aV 0 (Nat.zero_le _) (by rw [aI]; omega)
 have hl : bB s aV (0 : Int) = _ := hl
 unfold oJ ml
 rw [hl]
 simp only [au]
 by_cases z0 : s.size = 0
 ·simp [z0, hU]
 ·by_cases z1 : 24 < s.size
  ·have : ¬ s.size ≤ 24 := by omega
   simp [z0, z1, hU, this, show (24 : Int) < (s.size : Int) by omega]
  ·have hz : ¬ (24 : Int) < (s.size : Int) := by omega
   have hz2 : ¬ (s.size : Int) < 1 := by omega
   simp only [hz, hz2, decide_false, Bool.false_eq_true, if_false]
   have e : (first (qd s) 0 s.size).isNone = (iH (eE s 0) && (first (Bj s) 0 s.size).isNone) := by
    rw [Bool.eq_iff_iff, Bool.and_eq_true, Option.isNone_iff_eq_none, Option.isNone_iff_eq_none, kx, kx]
    constructor
    ·intro h
     have h0 := h 0 (Nat.le_refl _) (by omega)
     simp only [qd, beq_self_eq_true, Bool.true_or, Bool.and_true] at h0
     have h0' : iH (eE s 0) = true := by simpa using h0
     refine ⟨h0', fun j _ hj => ?_⟩
     have h1 := h j (Nat.zero_le _) hj
     simp only [qd, Bj, rk] at h1 ⊢
     cases hs : iH (eE s j) <;> cases ho : other (eE s j) <;> simp_all
    ·rintro ⟨h0, h⟩ j _ hj
     have h1 := h j (Nat.zero_le _) hj
     simp only [qd, Bj, rk] at h1 ⊢
     by_cases hj0 : j = 0
     ·subst hj0; simp [h0]
     ·cases hs : iH (eE s j) <;> cases ho : other (eE s j) <;> simp_all
   have : (first (qd s) 0 s.size).elim (some true) (fun _ => some false) = some ((first (qd s) 0 s.size).isNone) := by cases first (qd s) 0 s.size <;> rfl
   rw [this, e]
   simp [hU, show 1 ≤ s.size by omega, show s.size ≤ 24 by omega]
end Go.Proofs.YtbfekiekbifgcaaGreatDoor
namespace Go.Proofs.YtbfekiekbifgcaaGreatDoor
open Go Go.SX Go.SX.Cal Go.Lib
def GA (fs : List ah) (i : Nat) : ByteArray := (fs[i]?.map (·.name)).getD ByteArray.empty
theorem kI {fs : List ah} {i : Nat} (h : i < fs.length) : GA fs i = fs[i].name := by simp [GA, h]
def lT (fs : List ah) (i : Nat) : Bool := !hU (GA fs i)
def Ed (fs : List ah) (i j : Nat) : Bool := (GA fs j).toList == (GA fs i).toList
def rt (fs : List ah) (i : Nat) : Bool := (first (Ed fs i) 0 i).isSome
def uq (fs : List ah) : Bool := (first (lT fs) 0 fs.length).isSome
def tc (fs : List ah) : Bool := (first (rt fs) 0 fs.length).isSome
structure m6 (fs : List ah) : Prop where
 len : fs.length < 1000000000
 nam : ∀ f ∈ fs, f.name.size < 1000000000
theorem BB {fs : List ah} (h : sizeF fs < 1000000000) : m6 fs :=
 ⟨by have := eg fs; omega, fun f hf => by have := fm hf; have := eM f; omega⟩
theorem DB : ∀ f : ah, fQ.mk f.id f.name f.need (aq.mk f.type.kind f.type.scale f.type.fields) = f
 | ⟨_, _, _, ⟨_, _, _⟩⟩ => rfl
theorem w6 {fs : List ah} (ho : m6 fs) : aO fs = some (uq fs) := by
 have hl := ir (f := fun k i => al fs k (i : Int)) (n := fs.length) (P := lT fs) (A := fun i => some (i : Int)) (B := some (-1)) (fun k i hi => by
   show al fs (k + 1) (i : Int) = _
   rw [al, bn hi, af, aZ hi, ar, mJ, Ia _ (ho.nam _ (List.getElem_mem hi)), aG hi ho.len]
   simp only [ar, au, lT, kI hi])
  (fun k => by rw [al]; simp only [Int.lt_irrefl, decide_false, ae]; rfl) aV 0 (Nat.zero_le _) (by rw [aI]; have := ho.len; omega)
 have hl : al fs aV (0 : Int) = _ := hl
 unfold aO bu
 rw [hl]
 unfold uq
 cases first (lT fs) 0 fs.length with
 | none => rfl
 | some j => simp [ar]
theorem xo {fs : List ah} (ho : m6 fs) {i : Nat} (hi : i < fs.length) : aN ((fs.drop (0 : Int).toNat).take ((i : Int).toNat - (0 : Int).toNat)) fs[i] = some (rt fs i, fs[i]) := by
 have ep : (fs.drop (0 : Int).toNat).take ((i : Int).toNat - (0 : Int).toNat) = fs.take i := by simp
 rw [ep]
 have hlen : (fs.take i).length = i := by simp; omega
 have hl := ir (f := fun k j => aj (fs.take i) k fs[i].id fs[i].name fs[i].need fs[i].type.kind fs[i].type.scale fs[i].type.fields (j : Int)) (n := i) (P := Ed fs i) (A := fun j => some ((j : Int), fs[i])) (B := some (-1, fs[i])) (fun k j hj => by
   have hj' : j < (fs.take i).length := by rw [hlen]; exact hj
   have hjf : j < fs.length := by omega
   show aj (fs.take i) (k + 1) _ _ _ _ _ _ (j : Int) = _
   rw [aj, bn hj', af, aZ hj', ar, me, aG hj (by have := ho.len; omega)]
   simp only [ar, au, Ed, kI hi, kI hjf, List.getElem_take, DB])
  (fun k => by
   show aj (fs.take i) (k + 1) _ _ _ _ _ _ (i : Int) = _
   rw [aj]; simp only [hlen, Int.lt_irrefl, decide_false, ae, bm, DB]) aV 0 (Nat.zero_le _) (by rw [aI]; have := ho.len; omega)
 have hl : aj (fs.take i) aV _ _ _ _ _ _ (0 : Int) = _ := hl
 unfold aN bt
 rw [hl]
 unfold rt
 cases first (Ed fs i) 0 i with
 | none => rfl
 | some j => simp [ar]
theorem sU {t : aq} (ho : m6 t.fields) : bD t aV (0 : Int) = some (if tc t.fields = true then 5 else 0) := by
 have hl := ir (f := fun k i => bD t k (i : Int)) (n := t.fields.length) (P := rt t.fields) (A := fun _ => some 5) (B := some 0) (fun k i hi => by
   show bD t (k + 1) (i : Int) = _
   rw [bD, bn hi, af, aZ hi, ar, aJ (by omega), xo ho hi, aG hi ho.len]
   simp only [ar, au])
  (fun k => by rw [bD]; simp only [Int.lt_irrefl, decide_false, ae]; rfl) aV 0 (Nat.zero_le _) (by rw [aI]; have := ho.len; omega)
 have hl : bD t aV (0 : Int) = _ := hl
 rw [hl]
 unfold tc
 cases first (rt t.fields) 0 t.fields.length <;> rfl
theorem yJ {t : aq} (ho : m6 t.fields) (rec2 : Int → Option Int) {i : Nat} (hi : i < t.fields.length) : bM rec2 t (i : Int) aV (0 : Int) = if rt t.fields i = true then some 5 else rec2 ((i + 1 : Nat) : Int) := by
 have hl := ir (f := fun k j => bM rec2 t (i : Int) k (j : Int)) (n := i) (P := Ed t.fields i) (A := fun j => some 5) (B := rec2 ((i + 1 : Nat) : Int)) (fun k j hj => by
   have hjf : j < t.fields.length := by omega
   show bM rec2 t (i : Int) (k + 1) (j : Int) = _
   rw [bM, bn hj, af, aZ hjf, aZ hi, aG hj (by have := ho.len; omega)]
   simp only [ar, au, Ed, kI hi, kI hjf])
  (fun k => by
   show bM rec2 t (i : Int) (k + 1) (i : Int) = _
   rw [bM]; simp only [Int.lt_irrefl, decide_false, ae, nA]; rw [aG hi ho.len]) aV 0 (Nat.zero_le _) (by rw [aI]; have := ho.len; omega)
 have hl : bM rec2 t (i : Int) aV (0 : Int) = _ := hl
 rw [hl]
 unfold rt
 cases first (Ed t.fields i) 0 i <;> simp
theorem zD {t : aq} (ho : m6 t.fields) : bN t aV (0 : Int) = some (if tc t.fields = true then 5 else 0) := by
 have hl := ir (f := fun k i => bN t k (i : Int)) (n := t.fields.length) (P := rt t.fields) (A := fun _ => some 5) (B := some 0) (fun k i hi => by
   show bN t (k + 1) (i : Int) = _
   rw [bN, bn hi, af, yJ ho _ hi])
  (fun k => by rw [bN]; simp only [Int.lt_irrefl, decide_false, ae]; rfl) aV 0 (Nat.zero_le _) (by rw [aI]; have := ho.len; omega)
 have hl : bN t aV (0 : Int) = _ := hl
 rw [hl]
 unfold tc
 cases first (rt t.fields) 0 t.fields.length <;> rfl
theorem yX {t : aq} (ho : m6 t.fields) : b8 t aV (0 : Int) = some (if uq t.fields = true then 4 else if tc t.fields = true then 5 else 0) := by
 have hl := ir (f := fun k i => b8 t k (i : Int)) (n := t.fields.length) (P := lT t.fields) (A := fun _ => some 4) (B := some (if tc t.fields = true then 5 else 0)) (fun k i hi => by
   show b8 t (k + 1) (i : Int) = _
   rw [b8, bn hi, af, aZ hi, ar, H3 _ (ho.nam _ (List.getElem_mem hi)), aG hi ho.len]
   simp only [ar, au, lT, kI hi])
  (fun k => by rw [b8]; simp only [Int.lt_irrefl, decide_false, ae, nu]; exact zD ho) aV 0 (Nat.zero_le _) (by rw [aI]; have := ho.len; omega)
 have hl : b8 t aV (0 : Int) = _ := hl
 rw [hl]
 unfold uq
 cases first (lT t.fields) 0 t.fields.length <;> rfl
def vf (t : aq) : Int :=
 if t.kind = 6 then (if t.fields.length ≠ 1 ∨ (GA t.fields 0).size ≠ 0 then 1 else 0)
 else if t.kind ≠ 7 then (if 0 < t.fields.length then 1 else 0)
 else if t.fields.length = 0 then 1 else if uq t.fields = true then 4 else if tc t.fields = true then 5 else 0
def qD (t : aq) : Prop := t.scale ≠ 0 ∧ (t.kind ≠ 3 ∨ t.scale < 0 ∨ 12 < t.scale)
instance (t : aq) : Decidable (qD t) := by unfold qD; infer_instance
def shp (t : aq) : Int := if t.kind < 1 ∨ 7 < t.kind then 3 else if qD t then 1 else vf t
theorem BK {t : aq} (ho : m6 t.fields) : kR t = some (vf t) := by
 unfold kR jY vf
 rw [w6 ho, sU ho]
 simp only [ar, au]
 by_cases h6 : t.kind = 6
 ·simp only [h6, beq_self_eq_true, if_true]
  by_cases hl : t.fields.length = 1
  ·have : (0 : Nat) < t.fields.length := by omega
   rw [show at? t.fields (0 : Int) = some t.fields[0] from aZ (i := 0) this]
   simp only [hl, ar, gM, kI this]
   by_cases hz : t.fields[0].name.size = 0 <;> simp [hz]
  ·simp [hl, show ((t.fields.length : Int) = 1) = False from eq_false (by omega)]
 ·by_cases h7 : t.kind = 7
  ·simp [h7]
   by_cases hl : t.fields = []
   ·simp [hl]
   ·simp [hl]
    by_cases hb : uq t.fields = true
    ·simp [hb]
    ·simp [hb]
  ·simp [h6, h7]
   by_cases hl : 0 < t.fields.length
   ·simp [hl]
   ·simp [hl]
theorem D8 {t : aq} (ho : m6 t.fields) : ni t = some (shp t) := by
 have hj3 : ∀ x, eU t x = if x = true then some 1 else if t.kind ≠ 7 then some 0 else some (if uq t.fields = true then 4 else if tc t.fields = true then 5 else 0) := by
  intro x
  unfold eU
  rw [yX ho]
  cases x <;> simp [au]
 have hleaf : eY t.kind = some (decide (t.kind ≠ 6 ∧ t.kind ≠ 7)) := by
  unfold eY jT
  by_cases h6 : t.kind = 6 <;> by_cases h7 : t.kind = 7 <;> simp [h6, h7, au]
 have hj1 : ∀ x, eS t x = if x = true then some 1 else some (vf t) := by
  intro x
  cases x with
  | true => rfl
  | false =>
   unfold eS j7 vf
   rw [hleaf]
   simp only [au, ar, hj3]
   by_cases h6 : t.kind = 6
   ·simp only [h6, beq_self_eq_true, if_true]
    by_cases hl : t.fields.length = 1
    ·have : (0 : Nat) < t.fields.length := by omega
     rw [show at? t.fields (0 : Int) = some t.fields[0] from aZ (i := 0) this]
     simp only [hl, ar, gM, kI this]
     by_cases hz : t.fields[0].name.size = 0 <;> simp [hz]
    ·simp [hl, show ((t.fields.length : Int) = 1) = False from eq_false (by omega)]
   ·by_cases h7 : t.kind = 7
    ·simp [h7]
     by_cases hl : t.fields = []
     ·simp [hl]
     ·simp [hl]
    ·simp [h6, h7]
     by_cases hl : 0 < t.fields.length
     ·simp [hl]
     ·simp [hl]
 unfold ni shp cF gZ
 simp only [au, hj1, ar]
 by_cases a1 : t.kind < 1
 ·simp [a1, show ¬ (1 : Int) ≤ t.kind by omega, ar]
 ·by_cases a2 : 7 < t.kind
  ·simp [a2, show (1 : Int) ≤ t.kind by omega, show ¬ t.kind ≤ 7 by omega, ar]
  ·simp only [a1, a2, show (1 : Int) ≤ t.kind by omega, show t.kind ≤ 7 by omega, decide_true, or_self, if_false, if_true, Bool.not_true, ar]
   unfold qD
   by_cases h3 : t.kind = 3
   ·by_cases b1 : t.scale < 0
    ·simp [h3, b1, show ¬ (0 : Int) ≤ t.scale by omega, show t.scale ≠ 0 by omega, ar]
    ·by_cases b2 : 12 < t.scale
     ·simp [h3, b1, b2, show (0 : Int) ≤ t.scale by omega, show ¬ t.scale ≤ 12 by omega, show t.scale ≠ 0 by omega, ar]
     ·simp [h3, b1, b2, show (0 : Int) ≤ t.scale by omega, show t.scale ≤ 12 by omega, ar]
   ·by_cases b0 : t.scale = 0 <;> simp [h3, b0]
end Go.Proofs.YtbfekiekbifgcaaGreatDoor
namespace Go.Proofs.YtbfekiekbifgcaaGreatDoor
open Go Go.SX Go.SX.Cal Go.Lib
inductive V : aq → Prop where
 | mk (t : aq) (h1 : shp t = 0) (h2 : ∀ f, f ∈ t.fields → V f.type) : V t
theorem Ht (t : aq) : lU t = some (decide (t.kind ≠ 6 ∧ t.kind ≠ 7)) := by
 unfold lU lB
 by_cases h6 : t.kind = 6 <;> by_cases h7 : t.kind = 7 <;> simp [h6, h7, au]
theorem leafR (k : Int) : eY k = some (decide (k ≠ 6 ∧ k ≠ 7)) := by
 unfold eY jT
 by_cases h6 : k = 6 <;> by_cases h7 : k = 7 <;> simp [h6, h7, au]
theorem BE {t : aq} (ho : m6 t.fields) (q : aq → Int → bQ → Option (Int × bQ)) (l z : Int) :
  b7 q t l z = if shp t ≠ 0 then some (shp t, ⟨z⟩) else bj q t l aV z 0 := by
 have hj4 : ∀ x, bZ q t l z x = if x = true then some (1, ⟨z⟩) else if vf t ≠ 0 then some (vf t, ⟨z⟩) else bj q t l aV z 0 := by
  intro x
  unfold bZ
  rw [BK ho]
  cases x <;> simp [au, ar]
 unfold b7 eW shp
 simp only [au, hj4]
 by_cases a1 : t.kind < 1
 ·simp [a1]
 ·by_cases a2 : 7 < t.kind
  ·simp [a1, a2]
  ·simp only [a1, a2, decide_false, or_self, if_false, Bool.false_eq_true]
   unfold qD
   by_cases b0 : t.scale = 0
   ·simp [b0]
   ·by_cases h3 : t.kind = 3
    ·by_cases b1 : t.scale < 0
     ·simp [b0, h3, b1]
     ·by_cases b2 : 12 < t.scale
      ·simp [b0, h3, b1, b2]
      ·simp [b0, h3, b1, b2]
    ·simp [b0, h3]
theorem BC {t : aq} (ho : m6 t.fields) (q : aq → Int → Int → Option (Int × Int)) (l z : Int) :
  dv q t l z = if shp t ≠ 0 then some (shp t, z) else cD q t l aV z 0 := by
 unfold dv
 rw [D8 ho]
 simp [au, ar]
theorem Lj {t : aq} (h : shp t = 0) (hf : ∀ f ∈ t.fields, V f.type) : V t := .mk t h hf
theorem u5 {t : aq} (ho : m6 t.fields) (l : Int) (hl0 : -10 ≤ l) (hl1 : l ≤ 10) (q1 : aq → Int → bQ → Option (Int × bQ)) (q2 : aq → Int → Int → Option (Int × Int))
  (hq : ∀ f ∈ t.fields, ∀ n : Int, 0 ≤ n → n ≤ 40 → ∃ e m, q1 f.type (l + 1) ⟨n⟩ = some (e, ⟨m⟩) ∧ q2 f.type (l + 1) n = some (e, m) ∧ 0 ≤ m ∧ m ≤ 40 ∧ (e = 0 → V f.type)) :
  ∀ (kk i : Nat) (n : Int), i ≤ t.fields.length → t.fields.length - i < kk → 0 ≤ n → n ≤ 40 →
   ∃ e m, bj q1 t l kk n (i : Int) = some (e, ⟨m⟩) ∧ cD q2 t l kk n (i : Int) = some (e, m) ∧ 0 ≤ m ∧ m ≤ 40 ∧ (e = 0 → ∀ j, i ≤ j → ∀ h : j < t.fields.length, V t.fields[j].type) := by
 intro kk
 induction kk with
 | zero => intro i n _ h; omega
 | succ kk ih =>
  intro i n hi hk n0 n1
  rw [bj, cD]
  by_cases h : i = t.fields.length
  ·subst h
   simp only [Int.lt_irrefl, decide_false, ae]
   exact ⟨0, n, rfl, rfl, n0, n1, fun _ j h1 h2 => by omega⟩
  ·have hlt : i < t.fields.length := by omega
   rw [bn hlt, af, af, aZ hlt, ar, ar, fi (x := l + 1) (by omega) (by omega), aG hlt ho.len]
   obtain ⟨e, m, h1, h2, h3, h4, h5⟩ := hq _ (List.getElem_mem hlt) n n0 n1
   rw [h1, h2]
   simp only [ar, au]
   by_cases he : e = 0
   ·obtain ⟨e', m', g1, g2, g3, g4, g5⟩ := ih (i + 1) m (by omega) (by omega) h3 h4
    refine ⟨e', m', by simpa [he] using g1, by simpa [he] using g2, g3, g4, fun h0 j hj hjl => ?_⟩
    by_cases hji : j = i
    ·subst hji; exact h5 he
    ·exact g5 h0 j (by omega) hjl
   ·exact ⟨e, m, by simp [he], by simp [he], h3, h4, fun h0 => absurd h0 he⟩
theorem yY : ∀ (d k : Nat) (t : aq) (l n : Int), l = 5 - d → d ≤ 5 → d < k → gi t < 1000000000 → 0 ≤ n → n ≤ 40 →
  ∃ e m, aM k t l ⟨n⟩ = some (e, ⟨m⟩) ∧ bH k t l n = some (e, m) ∧ 0 ≤ m ∧ m ≤ 40 ∧ (e = 0 → V t) := by
 intro d
 induction d with
 | zero =>
  intro k t l n hl _ hk hs n0 n1
  obtain ⟨k, rfl⟩ : ∃ k', k = k' + 1 := ⟨k - 1, by omega⟩
  have hl4 : (4 : Int) < l := by omega
  rw [aM, bH]
  simp only [hl4, decide_true, af, cA]
  exact ⟨7, n, rfl, rfl, n0, n1, fun h => by omega⟩
 | succ d ih =>
  intro k t l n hl hd hk hs n0 n1
  obtain ⟨k, rfl⟩ : ∃ k', k = k' + 1 := ⟨k - 1, by omega⟩
  have hl4 : ¬ (4 : Int) < l := by omega
  have hsz := mD t
  have ho : m6 t.fields := BB (by omega)
  have hq : ∀ f ∈ t.fields, ∀ n : Int, 0 ≤ n → n ≤ 40 → ∃ e m, aM k f.type (l + 1) ⟨n⟩ = some (e, ⟨m⟩) ∧ bH k f.type (l + 1) n = some (e, m) ∧ 0 ≤ m ∧ m ≤ 40 ∧ (e = 0 → V f.type) := by
   intro f hf n n0 n1
   have h1 := fm hf
   have h2 := eM f
   exact ih k f.type (l + 1) n (by omega) (by omega) (by omega) (by omega) n0 n1
  have main : ∀ z : Int, 0 ≤ z → z ≤ 40 → ∃ e m, b7 (aM k) t l z = some (e, ⟨m⟩) ∧ dv (bH k) t l z = some (e, m) ∧ 0 ≤ m ∧ m ≤ 40 ∧ (e = 0 → V t) := by
   intro z z0 z1
   rw [BE ho, BC ho]
   by_cases Ac : shp t = 0
   ·obtain ⟨e, m, h1, h2, h3, h4, h5⟩ := u5 ho l (by omega) (by omega) _ _ hq aV 0 z (Nat.zero_le _) (by rw [aI]; have := ho.len; omega) z0 z1
    refine ⟨e, m, by simpa [Ac] using h1, by simpa [Ac] using h2, h3, h4, fun he => Lj Ac (fun f hf => ?_)⟩
    obtain ⟨j, hj, rfl⟩ := List.getElem_of_mem hf
    exact h5 he j (Nat.zero_le _) hj
   ·exact ⟨shp t, z, by simp [Ac], by simp [Ac], z0, z1, fun h => absurd h Ac⟩
  rw [aM, bH]
  simp only [hl4, decide_false, ae, Ht, leafR, ar, cA]
  by_cases hleaf : t.kind ≠ 6 ∧ t.kind ≠ 7
  ·simp only [hleaf, ne_eq, not_false_eq_true, and_self, decide_true, af]
   by_cases h40 : n = 40
   ·simp only [h40, beq_self_eq_true, af]
    exact ⟨7, 40, rfl, rfl, by omega, by omega, fun h => by omega⟩
   ·have : (n == 40) = false := by simpa using h40
    simp only [this, ae]
    rw [fi (x := n + 1) (by omega) (by omega)]
    exact main (n + 1) (by omega) (by omega)
  ·simp only [hleaf, decide_false, ae]
   exact main n n0 n1
theorem checkType_eq (t : aq) (hs : gi t < 1000000000) : ∃ e, eC t = some e ∧ fM t = some e ∧ (e = 0 → V t) := by
 obtain ⟨e, m, h1, h2, h3, h4, h5⟩ := yY 4 aV t 1 0 (by omega) (by omega) (by rw [aI]; omega) hs (by omega) (by omega)
 refine ⟨e, ?_, ?_, h5⟩
 ·unfold eC; rw [h1]; rfl
 ·unfold fM; rw [h2]; rfl
end Go.Proofs.YtbfekiekbifgcaaGreatDoor
namespace Go.Proofs.YtbfekiekbifgcaaGreatDoor.Tm
open Go Go.SX Go.SX.Cal
theorem af {β : Type} (x y : Option β) : aA true x y = x := rfl
theorem ae {β : Type} (x y : Option β) : aA false x y = y := rfl
theorem au {β : Type} (b : Bool) (x y : Option β) : aA b x y = if b = true then x else y := by cases b <;> rfl
theorem nY {a b : Int} (hb : 0 < b) (hb2 : b ≤ 1000000) (h1 : -1000000000000000 ≤ a) (h2 : a ≤ 1000000000000000) : jB a b = some (a / b, a % b) := by
 unfold jB kC
 rw [aJ (by omega), aJ (by omega)]
 have hq : -1000000000000000 ≤ a / b ∧ a / b ≤ 1000000000000000 := by
  have e : a = b * (a / b) + a % b := (Int.mul_ediv_add_emod a b).symm
  have r0 := Int.emod_nonneg a (show b ≠ 0 by omega)
  have r1 := Int.emod_lt_of_pos a hb
  constructor
  ·apply Int.le_ediv_of_mul_le hb
   have : -1000000000000000 * b ≤ -1000000000000000 * 1 := by apply Int.mul_le_mul_of_nonpos_left <;> omega
   omega
  ·apply Int.ediv_le_of_le_mul hb
   have : 1000000000000000 * 1 ≤ 1000000000000000 * b := by apply Int.mul_le_mul_of_nonneg_left <;> omega
   omega
 have r0 := Int.emod_nonneg a (show b ≠ 0 by omega)
 have r1 := Int.emod_lt_of_pos a hb
 rw [Int.tdiv_eq_ediv, Int.tmod_eq_emod]
 have hs : b.sign = 1 := Int.sign_eq_one_of_pos hb
 have hn : (b.natAbs : Int) = b := by omega
 by_cases hc : 0 ≤ a ∨ b ∣ a
 ·simp only [hc, if_true, Int.natCast_zero, Int.ofNat_zero, Int.cast_ofNat_Int, Int.sub_zero, Int.add_zero]
  rw [show decide (a % b < 0) = false by simp; omega, ae, fi (by omega) (by omega)]
 ·simp only [hc, if_false, hs, hn]
  have hne : a % b ≠ 0 := fun h => hc (.inr (Int.dvd_of_emod_eq_zero h))
  rw [show decide (a % b - b < 0) = true by simp; omega, af]
  simp (disch := omega) only [fi]
  rw [show a / b + 1 - 1 = a / b by omega, show a % b - b + b = a % b by omega]
theorem days_eq {y m d : Int} (h1 : -1000000 ≤ y) (h2 : y ≤ 1000000) (h3 : 1 ≤ m) (h4 : m ≤ 12) (h5 : -100 ≤ d) (h6 : d ≤ 100) : lR y m d = some (Cal.days y m d) := by
 have key : ∀ y' m', -1000001 ≤ y' → y' ≤ 1000001 → 3 ≤ m' → m' ≤ 14 → lH d y' m' = some (y' / 400 * 146097 + S (y' % 400) + lv (m' - 3) + d - 1 - 719468) := by
  intro y' m' a1 a2 a3 a4
  unfold lH
  rw [nY (by decide) (by decide) (by omega) (by omega)]
  simp only [ar]
  have hr : 0 ≤ y' % 400 ∧ y' % 400 ≤ 399 := by omega
  simp (disch := omega) only [fi, Int.tdiv_eq_ediv_of_nonneg]
  unfold S lv
  congr 1
  omega
 unfold lR Cal.days
 by_cases hm : m ≤ 2
 ·simp only [hm, decide_true, af, if_true]
  simp (disch := omega) only [fi]
  rw [key _ _ (by omega) (by omega) (by omega) (by omega), show m + 12 - 3 = m + 9 by omega]
 ·simp only [hm, decide_false, ae, if_false]
  rw [key _ _ (by omega) (by omega) (by omega) (by omega)]
theorem Jd {y : Int} (h0 : 0 ≤ y) (h1 : y ≤ 399) : 0 ≤ S y ∧ S y ≤ 146096 := by unfold S; omega
theorem Jp {n : Int} (h1 : -1000000000 ≤ n) (h2 : n ≤ 1000000000) : qS n = some (Cal.date n) := by
 unfold qS nv
 rw [fi (by omega) (by omega), nY (by decide) (by decide) (by omega) (by omega)]
 simp only [ar]
 have hr0 : 0 ≤ (n + 719468) % 146097 := by omega
 have hr1 : (n + 719468) % 146097 ≤ 146096 := by omega
 have he : -10000 ≤ (n + 719468) / 146097 ∧ (n + 719468) / 146097 ≤ 10000 := by omega
 obtain ⟨b0, b1⟩ := wa hr0 hr1
 obtain ⟨s0, s1, _⟩ := JR hr0 hr1
 unfold Cal.date
 simp only
 generalize (n + 719468) % 146097 = r at *
 generalize (n + 719468) / 146097 = era at *
 have e1 : IntKind.i64.wrap (IntKind.i64.wrap (IntKind.i64.wrap (r - IntKind.i64.wrap (r.tdiv 1460)) + IntKind.i64.wrap (r.tdiv 36524)) - IntKind.i64.wrap (r.tdiv 146096)) = r - r / 1460 + r / 36524 - r / 146096 := by
  simp (disch := omega) only [fi, Int.tdiv_eq_ediv_of_nonneg]
 rw [e1]
 have e2 : IntKind.i64.wrap ((r - r / 1460 + r / 36524 - r / 146096).tdiv 365) = yr r := by
  rw [Int.tdiv_eq_ediv_of_nonneg (by omega)]
  exact fi (by unfold yr at *; omega) (by unfold yr at *; omega)
 rw [e2]
 generalize yr r = y at *
 have hS := Jd b0 b1
 have e3 : IntKind.i64.wrap (IntKind.i64.wrap (IntKind.i64.wrap (y * 365) + IntKind.i64.wrap (y.tdiv 4)) - IntKind.i64.wrap (y.tdiv 100)) = S y := by
  simp (disch := omega) only [fi, Int.tdiv_eq_ediv_of_nonneg]
  unfold S; omega
 rw [e3]
 have hk : 0 ≤ r - S y ∧ r - S y ≤ 365 := by omega
 rw [fi (x := r - S y) (by omega) (by omega)]
 generalize r - S y = k at *
 have e4 : IntKind.i64.wrap ((IntKind.i64.wrap (IntKind.i64.wrap (5 * k) + 2)).tdiv 153) = (5 * k + 2) / 153 := by
  simp (disch := omega) only [fi, Int.tdiv_eq_ediv_of_nonneg]
 rw [e4]
 have hm : 0 ≤ (5 * k + 2) / 153 ∧ (5 * k + 2) / 153 ≤ 11 := by omega
 generalize (5 * k + 2) / 153 = m at *
 unfold lv
 simp (disch := omega) only [fi, Int.tdiv_eq_ediv_of_nonneg]
 by_cases hc : (12 : Int) < m + 3
 ·simp only [hc, decide_true, af, if_true, gt_iff_lt]
 ·simp only [hc, decide_false, ae, if_false, gt_iff_lt]
def civ (s : Int) : jI := ⟨(Cal.date (s / 86400)).1, (Cal.date (s / 86400)).2.1, (Cal.date (s / 86400)).2.2, s % 86400 / 3600, s % 86400 % 3600 / 60, s % 86400 % 60⟩
theorem civil_eq {s : Int} (h1 : -1000000000000 ≤ s) (h2 : s ≤ 1000000000000) : nP s = some (civ s) := by
 unfold nP
 rw [nY (by decide) (by decide) (by omega) (by omega)]
 simp only [ar]
 rw [Jp (by omega) (by omega)]
 simp only [ar]
 have : 0 ≤ s % 86400 ∧ s % 86400 < 86400 := by omega
 unfold civ
 generalize s % 86400 = t at *
 simp (disch := omega) only [fi, Int.tdiv_eq_ediv_of_nonneg, Int.tmod_eq_emod_of_nonneg]
theorem yH {y m d : Int} (h1 : -20000 ≤ y) (h2 : y ≤ 20000) (h3 : 1 ≤ m) (h4 : m ≤ 12) (h5 : -100 ≤ d) (h6 : d ≤ 100) : -10000000 ≤ Cal.days y m d ∧ Cal.days y m d ≤ 10000000 := by
 unfold Cal.days S lv; split <;> omega
def Ou (c : jI) : Int := Cal.days c.year c.month c.day * 86400 + c.hour * 3600 + c.minute * 60 + c.second
structure NE (c : jI) : Prop where
 y0 : -20000 ≤ c.year
 y1 : c.year ≤ 20000
 m0 : 1 ≤ c.month
 m1 : c.month ≤ 12
 d0 : -100 ≤ c.day
 d1 : c.day ≤ 100
 h0 : 0 ≤ c.hour
 h1 : c.hour ≤ 23
 i0 : 0 ≤ c.minute
 i1 : c.minute ≤ 59
 s0 : 0 ≤ c.second
 s1 : c.second ≤ 59
theorem xz (a b : Int) : (a.tmod b == 0) = (a % b == 0) := by
 have : a.tmod b = 0 ↔ a % b = 0 := by
  rw [← Int.dvd_iff_tmod_eq_zero, ← Int.dvd_iff_emod_eq_zero]
 by_cases h : a % b = 0
 ·rw [h, this.2 h]
 ·have h2 : a.tmod b ≠ 0 := fun e => h (this.1 e)
  rw [beq_eq_false_iff_ne.2 h2, beq_eq_false_iff_ne.2 h]
theorem Jj (y : Int) : rn y = some (decide (qY y)) := by
 unfold rn lA
 have e2 : ((y.tmod 100) != 0) = !(y % 100 == 0) := by rw [bne, xz]
 rw [xz, xz, e2]
 unfold qY
 by_cases a : y % 4 = 0
 ·by_cases b : y % 100 = 0
  ·by_cases c : y % 400 = 0
   ·simp [a, b, c, au]
   ·simp [a, b, c, au]
  ·simp [a, b, au]
 ·simp [a, au]
theorem Gp {y m : Int} : oA y m = some (Ai y m) := by
 unfold oA iy Ai
 rw [Jj]
 simp only [ar]
 by_cases h2 : m = 2
 ·subst h2
  by_cases hl : qY y <;> simp [hl, au]
 by_cases h4 : m = 4
 ·subst h4; simp [au]
 by_cases h6 : m = 6
 ·subst h6; simp [au]
 by_cases h9 : m = 9
 ·subst h9; simp [au]
 by_cases h11 : m = 11
 ·subst h11; simp [au]
 simp [h2, h4, h6, h9, h11, au]
theorem qw (y m : Int) : 28 ≤ Ai y m ∧ Ai y m ≤ 31 := by
 unfold Ai; split <;> (try split) <;> (try split) <;> omega
theorem within_eq (a b c : Int) : cz a b c = some (decide (b ≤ a ∧ a ≤ c)) := by
 unfold cz ga
 by_cases h : b ≤ a <;> by_cases k : a ≤ c <;> simp [h, k, au]
end Go.Proofs.YtbfekiekbifgcaaGreatDoor.Tm
namespace Go.Proofs.YtbfekiekbifgcaaGreatDoor.Tm
open Go Go.SX Go.SX.Cal
theorem aI : aV = 1152921504606846976 := rfl
structure JY (t : fI) : Prop where
 m0 : 1 ≤ t.month
 m1 : t.month ≤ 12
 w0 : 1 ≤ t.week
 w1 : t.week ≤ 5
 d0 : 1 ≤ t.weekday
 d1 : t.weekday ≤ 7
 i0 : 0 ≤ t.minute
 i1 : t.minute ≤ 1440
def LJ (t : fI) (y : Int) : Int := Cal.days y t.month 1 + (t.weekday - ((Cal.days y t.month 1 + 3) % 7 + 1) + 7) % 7
def Cg (t : fI) (y : Int) : Int :=
 if t.week < 5 then LJ t y + (t.week - 1) * 7 else LJ t y + 7 * ((Cal.days y t.month 1 + Ai y t.month - 1 - LJ t y) / 7)
theorem FW {t : fI} (y : Int) : Cal.days y t.month 1 ≤ LJ t y ∧ LJ t y ≤ Cal.days y t.month 1 + 6 := by unfold LJ; omega
theorem pG {t : fI} (ht : JY t) (y : Int) : Cal.days y t.month 1 ≤ Cg t y ∧ Cg t y ≤ Cal.days y t.month 1 + 30 := by
 have := FW (t := t) y
 have hd := qw y t.month
 have := ht.w0
 unfold Cg; split <;> omega
structure Oa (z : dZ) : Prop where
 o0 : -720 ≤ z.offset
 o1 : z.offset ≤ 720
 s : z.summer = 0 ∨ (JY z.start ∧ JY z.stop ∧ (z.summer = 30 ∨ z.summer = 60) ∧ z.start.minute = 120 ∧ ((z.start.month = 3 ∧ 10 ≤ z.stop.month ∧ z.stop.month ≤ 11) ∨ (z.start.month = 10 ∧ z.stop.month = 4)))
def IV (z : dZ) (m : Int) : Int := (Cal.date ((m + z.offset * 60) / 86400)).1
def Mw (z : dZ) (y : Int) : Int := Cg z.start y * 86400 + z.start.minute * 60 - z.offset * 60
def fin (z : dZ) (y : Int) : Int := Cg z.stop y * 86400 + z.stop.minute * 60 - z.offset * 60 - z.summer * 60
def FR (z : dZ) (m : Int) : Prop := if fin z (IV z m) ≤ Mw z (IV z m) then m < fin z (IV z m) ∨ Mw z (IV z m) ≤ m else Mw z (IV z m) ≤ m ∧ m < fin z (IV z m)
instance (z : dZ) (m : Int) : Decidable (FR z m) := by unfold FR; infer_instance
def MV (z : dZ) (m : Int) : Int := if z.summer = 0 then z.offset * 60 else if FR z m then z.offset * 60 + z.summer * 60 else z.offset * 60
theorem DJ {n : Int} (h1 : -5000000 ≤ n) (h2 : n ≤ 5000000) : -20000 ≤ (Cal.date n).1 ∧ (Cal.date n).1 ≤ 20000 := by
 obtain ⟨b0, b1⟩ := wa (r := (n + 719468) % 146097) (by omega) (by omega)
 simp only [Cal.date]
 split <;> omega
def Zs : List dZ := (tF).getD []
end Go.Proofs.YtbfekiekbifgcaaGreatDoor.Tm
namespace Go.Proofs.YtbfekiekbifgcaaGreatDoor.Tm
open Go Go.SX Go.SX.Cal
theorem civ_ok {s : Int} (h1 : -400000000000 ≤ s) (h2 : s ≤ 400000000000) : NE (civ s) ∧ Ou (civ s) = s ∧ 1 ≤ (civ s).day ∧ (civ s).day ≤ Ai (civ s).year (civ s).month := by
 obtain ⟨e, m0, m1, d0, d1⟩ := Bm (s / 86400)
 have hy := DJ (n := s / 86400) (by omega) (by omega)
 have hd := qw (Cal.date (s / 86400)).1 (Cal.date (s / 86400)).2.1
 refine ⟨⟨hy.1, hy.2, m0, m1, ?_, ?_, ?_, ?_, ?_, ?_, ?_, ?_⟩, ?_, d0, d1⟩
 ·show -100 ≤ (Cal.date (s / 86400)).2.2; omega
 ·show (Cal.date (s / 86400)).2.2 ≤ 100; omega
 ·show 0 ≤ s % 86400 / 3600; omega
 ·show s % 86400 / 3600 ≤ 23; omega
 ·show 0 ≤ s % 86400 % 3600 / 60; omega
 ·show s % 86400 % 3600 / 60 ≤ 59; omega
 ·show 0 ≤ s % 86400 % 60; omega
 ·show s % 86400 % 60 ≤ 59; omega
 ·show Cal.days (Cal.date (s / 86400)).1 (Cal.date (s / 86400)).2.1 (Cal.date (s / 86400)).2.2 * 86400 + s % 86400 / 3600 * 3600 + s % 86400 % 3600 / 60 * 60 + s % 86400 % 60 = s
  rw [e]; omega
def zf (nm : ByteArray) : Option dZ := Zs.find? (fun z => z.name.toList == nm.toList)
def NX (c : jI) : Prop := 1 ≤ c.year ∧ c.year ≤ 9999 ∧ 1 ≤ c.month ∧ c.month ≤ 12 ∧ 1 ≤ c.day ∧ c.day ≤ Ai c.year c.month ∧ 0 ≤ c.hour ∧ c.hour ≤ 23 ∧ 0 ≤ c.minute ∧ c.minute ≤ 59 ∧ 0 ≤ c.second ∧ c.second ≤ 59
instance (c : jI) : Decidable (NX c) := by unfold NX; infer_instance
def J (z : dZ) (y : Int) : Int := Cal.days y 1 1 * 86400 - z.offset * 60
theorem E7 {z : dZ} {m y : Int} : IV z m = y ↔ J z y ≤ m ∧ m < J z (y + 1) := by
 unfold IV J
 rw [yK]
 omega
theorem Ff (y : Int) : Cal.days y 3 1 = E y ∧ Cal.days y 4 1 = E y + 31 ∧ Cal.days y 10 1 = E y + 214 ∧ Cal.days y 11 1 = E y + 245 ∧ Cal.days (y + 1) 1 1 = E y + 306 ∧ E y - 60 ≤ Cal.days y 1 1 ∧ Cal.days y 1 1 ≤ E y - 59 := by
 rw [o7, o7, show y + 1 - 1 = y by omega]
 have hE := B1 (y - 1)
 rw [show y - 1 + 1 = y by omega] at hE
 simp only [sA]
 simp [lv]
 omega
theorem L3 {z : dZ} (hz : Oa z) (hs : z.summer ≠ 0) {m : Int} (y : Int) (h1 : J z y - 1728000 ≤ m) (h2 : m < J z y + 1728000) : MV z m = if z.start.month = 3 then z.offset * 60 else z.offset * 60 + z.summer * 60 := by
 obtain ⟨o0, o1, hss⟩ := hz
 rcases hss with h | ⟨t1, t2, hsu, hmin, hmo⟩
 ·exact absurd h hs
 have key : (z.start.month = 3 ∧ ¬ FR z m) ∨ (z.start.month ≠ 3 ∧ FR z m) := by
  unfold FR
  by_cases hy : J z y ≤ m
  ·have h366 := wY y
   have hyo : IV z m = y := E7.2 ⟨hy, by unfold J at *; omega⟩
   rw [hyo]
   obtain ⟨e3, e4, e10, e11, en, ej0, ej1⟩ := Ff y
   have b1 := pG t1 y
   have b2 := pG t2 y
   have i3 := t2.i0; have i4 := t2.i1
   unfold Mw fin
   unfold J at *
   rcases hmo with ⟨m1, m2, m3⟩ | ⟨m1, m2⟩
   ·rw [m1, e3] at b1
    refine .inl ⟨m1, ?_⟩
    have hst : z.stop.month = 10 ∨ z.stop.month = 11 := by omega
    rcases hst with hst | hst
    ·rw [hst, e10] at b2
     rw [if_neg (by omega)]; omega
    ·rw [hst, e11] at b2
     rw [if_neg (by omega)]; omega
   ·rw [m1, e10] at b1
    rw [m2, e4] at b2
    refine .inr ⟨by omega, ?_⟩
    rw [if_pos (by omega)]; omega
  ·have h366 := wY (y - 1)
   rw [show y - 1 + 1 = y by omega] at h366
   have hyo : IV z m = y - 1 := E7.2 ⟨by unfold J at *; omega, by rw [show y - 1 + 1 = y by omega]; omega⟩
   rw [hyo]
   obtain ⟨e3, e4, e10, e11, en, ej0, ej1⟩ := Ff (y - 1)
   rw [show y - 1 + 1 = y by omega] at en
   have b1 := pG t1 (y - 1)
   have b2 := pG t2 (y - 1)
   have i3 := t2.i0; have i4 := t2.i1
   unfold Mw fin
   unfold J at *
   rcases hmo with ⟨m1, m2, m3⟩ | ⟨m1, m2⟩
   ·rw [m1, e3] at b1
    refine .inl ⟨m1, ?_⟩
    have hst : z.stop.month = 10 ∨ z.stop.month = 11 := by omega
    rcases hst with hst | hst
    ·rw [hst, e10] at b2
     rw [if_neg (by omega)]; omega
    ·rw [hst, e11] at b2
     rw [if_neg (by omega)]; omega
   ·rw [m1, e10] at b1
    rw [m2, e4] at b2
    refine .inr ⟨by omega, ?_⟩
    rw [if_pos (by omega)]; omega
 unfold MV
 rw [if_neg hs]
 rcases key with ⟨k1, k2⟩ | ⟨k1, k2⟩
 ·rw [if_neg k2, if_pos k1]
 ·rw [if_pos k2, if_neg k1]
theorem vI : Cal.days 1 1 1 = -719162 := by decide +kernel
theorem first {z : dZ} (hz : Oa z) {m : Int} (hs : z.summer ≠ 0) (h : MV z m = z.offset * 60) (hx : MV z (m - z.summer * 60) = z.offset * 60 + z.summer * 60) (hm : (-62135596800) ≤ m) : (-62135596800) ≤ m - z.summer * 60 := by
 apply Classical.byContradiction
 intro hn
 have hsu : z.summer = 30 ∨ z.summer = 60 := by rcases hz.s with h | ⟨_, _, h, _⟩ <;> omega
 have o0 := hz.o0; have o1 := hz.o1
 have n1 := L3 hz hs (m := m) 1 (by unfold J; rw [vI]; omega) (by unfold J; rw [vI]; omega)
 have n2 := L3 hz hs (m := m - z.summer * 60) 1 (by unfold J; rw [vI]; omega) (by unfold J; rw [vI]; omega)
 rw [n1] at h; rw [n2] at hx
 split at h <;> omega
end Go.Proofs.YtbfekiekbifgcaaGreatDoor.Tm
namespace Go.Proofs.YtbfekiekbifgcaaGreatDoor.Tm
open Go Go.SX Go.SX.Cal
theorem F2 {a b : Int} (hb : 0 < b) (hb2 : b ≤ 1000000) (h1 : -1000000000000000 ≤ a) (h2 : a ≤ 1000000000000000) : pA a b = some (a / b) := by
 have hf := nY hb hb2 h1 h2
 unfold jB kC at hf
 unfold pA nG nJ
 rw [aJ (by omega), aJ (by omega)] at hf ⊢
 have hsgn : decide (b < 0) = false := by simp; omega
 rw [hsgn]
 by_cases h0 : a.tmod b = 0
 ·rw [h0] at hf ⊢
  rw [show decide ((0 : Int) < 0) = false from rfl, ae] at hf
  rw [show ((0 : Int) != 0) = false from rfl, ae, ae]
  have := congrArg (Option.map Prod.fst) hf
  simpa using this
 ·have hne : (a.tmod b != 0) = true := by simp [h0]
  rw [hne, af]
  by_cases ha : a < 0
  ·have hneg : a.tmod b < 0 := by
    have r1 := Int.emod_lt_of_pos a hb
    have r0 := Int.emod_nonneg a (show b ≠ 0 by omega)
    have e := Int.tmod_eq_emod (a := a) (b := b)
    by_cases hd : b ∣ a
    ·exfalso
     exact h0 (Int.tmod_eq_zero_of_dvd hd)
    ·rw [if_neg (by omega)] at e
     have : (b.natAbs : Int) = b := by omega
     omega
   rw [show decide (a.tmod b < 0) = true by simpa using hneg, af] at hf
   rw [show decide (a < 0) = true by simpa using ha]
   have := congrArg (Option.map Prod.fst) hf
   simpa [au] using this
  ·have hpos : ¬ a.tmod b < 0 := by
    have := Int.tmod_nonneg (a := a) b (by omega)
    omega
   rw [show decide (a.tmod b < 0) = false by simpa using hpos, ae] at hf
   rw [show decide (a < 0) = false by simpa using ha]
   have := congrArg (Option.map Prod.fst) hf
   simpa [au] using this
theorem JA {y m : Int} : ji y m = some (Ai y m) := Gp
theorem rwithin_eq (a b c : Int) : cF a b c = some (decide (b ≤ a ∧ a ≤ c)) := within_eq a b c
theorem CY : Cal.days 0 1 1 = -719528 := by decide +kernel
theorem vz {y : Int} (h1 : 0 ≤ y) (h2 : y ≤ 20000) : jj y = some (Cal.days y 1 1) := by
 unfold jj ki
 by_cases hy : 0 < y
 ·rw [show decide (0 < y) = true by simpa using hy, af]
  simp only [ar]
  simp (disch := omega) only [fi, Int.tdiv_eq_ediv_of_nonneg]
  congr 1
  rw [o7]
  unfold E S
  omega
 ·have : y = 0 := by omega
  subst this
  rw [CY]; rfl
theorem uK (y k : Int) (h1 : 1 ≤ k) (h2 : k ≤ 11) : Cal.days y (k + 1) 1 = Cal.days y k 1 + Ai y k := by
 have hE := B1 (y - 1)
 rw [show y - 1 + 1 = y by omega] at hE
 rw [sA, sA]
 unfold Ai
 have hc : k = 1 ∨ k = 2 ∨ k = 3 ∨ k = 4 ∨ k = 5 ∨ k = 6 ∨ k = 7 ∨ k = 8 ∨ k = 9 ∨ k = 10 ∨ k = 11 := by omega
 rcases hE with ⟨hl, hE⟩ | ⟨hl, hE⟩ <;> simp only [hl, if_true, if_false] <;> rcases hc with rfl | rfl | rfl | rfl | rfl | rfl | rfl | rfl | rfl | rfl | rfl <;> simp [lv] <;> omega
theorem Hl (y m d : Int) : Cal.days y m d = Cal.days y m 1 + d - 1 := by
 rw [sA, sA]; split <;> omega
theorem By {s Y M D : Int} (hs1 : -1000000000000 ≤ s) (hs2 : s ≤ 1000000000000) (hY : 0 ≤ Y) (hY2 : Y ≤ 20000) (hM1 : 1 ≤ M) (hM2 : M ≤ 12) (hD1 : 1 ≤ D) (hD2 : D ≤ Ai Y M) (hn : Cal.days Y M D = s / 86400) :
  ∀ (k : Nat) (b : Int), 1 ≤ b → b ≤ M → M - b < k → iY s (s / 86400) Y k b (s / 86400 - Cal.days Y b 1) = some ⟨Y, M, D, s % 86400 / 3600, s % 86400 % 3600 / 60, s % 86400 % 60⟩ := by
 intro k
 induction k with
 | zero => intro b h1 h2 h3; omega
 | succ k ih =>
  intro b h1 h2 h3
  rw [iY]
  have hd := qw Y b
  have hdM := qw Y M
  have hbd := yH (y := Y) (m := b) (d := 1) (by omega) (by omega) h1 (by omega) (by decide) (by decide)
  rw [JA]
  simp only [ar]
  by_cases hb : b < M
  ·have hle : Ai Y b ≤ s / 86400 - Cal.days Y b 1 := by
    have e1 := uK Y b h1 (by omega)
    -- months from b + 1 on come later
    have mono : ∀ (j : Nat), b + 1 + j ≤ M → Cal.days Y (b + 1) 1 ≤ Cal.days Y (b + 1 + j) 1 := by
     intro j
     induction j with
     | zero => intro _; simp
     | succ j ihj =>
      intro hj
      have := ihj (by omega)
      have e2 := uK Y (b + 1 + j) (by omega) (by omega)
      have e3 := qw Y (b + 1 + j)
      rw [show b + 1 + ((j + 1 : Nat) : Int) = b + 1 + j + 1 by omega, e2]
      omega
    have := mono (M - (b + 1)).toNat (by omega)
    rw [show b + 1 + ((M - (b + 1)).toNat : Int) = M by omega] at this
    have e4 := Hl Y M D
    omega
   rw [show decide (Ai Y b ≤ s / 86400 - Cal.days Y b 1) = true by simpa using hle, af]
   rw [fi (by omega) (by omega), fi (by omega) (by omega), show s / 86400 - Cal.days Y b 1 - Ai Y b = s / 86400 - Cal.days Y (b + 1) 1 by rw [uK Y b h1 (by omega)]; omega]
   exact ih (b + 1) (by omega) (by omega) (by omega)
  ·have : b = M := by omega
   subst this
   have e4 := Hl Y b D
   rw [show decide (Ai Y b ≤ s / 86400 - Cal.days Y b 1) = false by simp; omega, ae]
   unfold qe
   have ht : 0 ≤ s - 86400 * (s / 86400) ∧ s - 86400 * (s / 86400) < 86400 := by omega
   simp (disch := omega) only [fi, Int.tdiv_eq_ediv_of_nonneg, Int.tmod_eq_emod_of_nonneg]
   simp only [ar]
   have e5 : s - 86400 * (s / 86400) = s % 86400 := by omega
   rw [e5, show s / 86400 - Cal.days Y b 1 + 1 = D by omega]
   have e6 : s % 86400 / 60 % 60 = s % 86400 % 3600 / 60 := by omega
   simp (disch := omega) only [fi, Int.tmod_eq_emod_of_nonneg]
   rw [e6]
theorem DD {s Y : Int} (hs1 : -1000000000000 ≤ s) (hs2 : s ≤ 1000000000000) (hYd : (Cal.date (s / 86400)).1 = Y) : ∀ (k : Nat) (lo hi : Int), 0 ≤ lo → lo ≤ Y → Y < hi → hi ≤ 10001 → hi - lo ≤ k →
  gB s (s / 86400) k lo hi = some (civ s) := by
 intro k
 induction k with
 | zero => intro lo hi a b c d e; omega
 | succ k ih =>
  intro lo hi a b c d e
  rw [gB]
  rw [fi (x := hi - lo) (by omega) (by omega), fi (x := lo + hi) (by omega) (by omega)]
  by_cases h1 : 1 < hi - lo
  ·rw [show decide (1 < hi - lo) = true by simpa using h1, af]
   simp (disch := omega) only [fi, Int.tdiv_eq_ediv_of_nonneg]
   rw [vz (by omega) (by omega)]
   simp only [ar]
   obtain ⟨y1, y2⟩ := yK.1 hYd
   by_cases hm : (lo + hi) / 2 ≤ Y
   ·have := oO hm
    rw [show decide (Cal.days ((lo + hi) / 2) 1 1 ≤ s / 86400) = true by simp; omega, af]
    exact ih _ _ (by omega) hm c d (by omega)
   ·have := oO (y := Y + 1) (z := (lo + hi) / 2) (by omega)
    rw [show decide (Cal.days ((lo + hi) / 2) 1 1 ≤ s / 86400) = false by simp; omega, ae]
    exact ih _ _ a b (by omega) (by omega) (by omega)
  ·rw [show decide (1 < hi - lo) = false by simpa using h1, ae]
   have : lo = Y := by omega
   subst this
   unfold pY
   rw [vz (by omega) (by omega)]
   simp only [ar]
   have hb := yH (y := lo) (m := 1) (d := 1) (by omega) (by omega) (by decide) (by decide) (by decide) (by decide)
   rw [fi (by omega) (by omega)]
   obtain ⟨e1, m0, m1, d0, d1⟩ := Bm (s / 86400)
   rw [hYd] at e1 d1
   have := By hs1 hs2 (by omega) (by omega) m0 m1 d0 d1 e1 aV 1 (by decide) m0 (by rw [aI]; omega)
   rw [this]
   unfold civ
   rw [hYd]
theorem rcivil_eq {s : Int} (hs1 : -1000000000000 ≤ s) (hs2 : s ≤ 1000000000000) (h0 : 0 ≤ (Cal.date (s / 86400)).1) (h1 : (Cal.date (s / 86400)).1 ≤ 10000) : oV s = some (civ s) := by
 unfold oV
 rw [F2 (by decide) (by decide) (by omega) (by omega)]
 simp only [ar]
 exact DD hs1 hs2 rfl aV 0 10001 (by decide) h0 (by omega) (by decide) (by rw [aI]; decide)
theorem years_of {s : Int} (h1 : -62160000000 ≤ s) (h2 : s ≤ 253402400799) : 0 ≤ (Cal.date (s / 86400)).1 ∧ (Cal.date (s / 86400)).1 ≤ 10000 := by
 obtain ⟨a1, a2⟩ := (yK (n := s / 86400) (y := (Cal.date (s / 86400)).1)).1 rfl
 have e0 := CY
 have e1 : Cal.days 10001 1 1 = 2933263 := by decide +kernel
 constructor
 ·apply Classical.byContradiction
  intro hn
  have := oO (y := (Cal.date (s / 86400)).1 + 1) (z := 0) (by omega)
  omega
 ·apply Classical.byContradiction
  intro hn
  have := oO (y := 10001) (z := (Cal.date (s / 86400)).1) (by omega)
  omega
end Go.Proofs.YtbfekiekbifgcaaGreatDoor.Tm
namespace Go.Proofs.YtbfekiekbifgcaaGreatDoor.Tm
open Go Go.SX Go.SX.Cal
end Go.Proofs.YtbfekiekbifgcaaGreatDoor.Tm
namespace Go.Proofs.YtbfekiekbifgcaaGreatDoor
open Go Go.SX Go.SX.Cal Go.Lib
theorem KB (r : Int) : (Utf8.encode r).data.toList = encodeRune r := by
 unfold Utf8.encode
 rw [validRune_eq]
 unfold validRune
 by_cases hv : (0 ≤ r ∧ r < 55296) ∨ (57343 < r ∧ r ≤ 1114111)
 ·rw [decide_eq_true hv]
  simp only [if_true]
  obtain ⟨n, rfl⟩ : ∃ n : Nat, r = (n : Int) := ⟨r.toNat, by omega⟩
  rw [Int.toNat_natCast]
  by_cases h1 : n < 128
  ·rw [if_pos h1]
   unfold encodeRune
   rw [encodeRuneZ_one (by omega) (by omega)]
   simp
  ·rw [if_neg h1]
   by_cases h2 : n < 2048
   ·rw [if_pos h2]
    unfold encodeRune
    rw [encodeRuneZ_two (by omega) (by omega)]
    simp only [List.map_cons, List.map_nil, show (192 + (n : Int) / 64).toNat = 192 + n / 64 by omega, show (128 + (n : Int) % 64).toNat = 128 + n % 64 by omega]
   ·rw [if_neg h2]
    by_cases h3 : n < 65536
    ·rw [if_pos h3]
     unfold encodeRune
     rw [encodeRuneZ_three (by omega)]
     simp only [List.map_cons, List.map_nil, show (224 + (n : Int) / 4096).toNat = 224 + n / 4096 by omega, show (128 + (n : Int) / 64 % 64).toNat = 128 + n / 64 % 64 by omega, show (128 + (n : Int) % 64).toNat = 128 + n % 64 by omega]
    ·rw [if_neg h3]
     unfold encodeRune
     rw [encodeRuneZ_four (by omega) (by omega)]
     simp only [List.map_cons, List.map_nil, show (240 + (n : Int) / 262144).toNat = 240 + n / 262144 by omega, show (128 + (n : Int) / 4096 % 64).toNat = 128 + n / 4096 % 64 by omega, show (128 + (n : Int) / 64 % 64).toNat = 128 + n / 64 % 64 by omega, show (128 + (n : Int) % 64).toNat = 128 + n % 64 by omega]
 ·rw [decide_eq_false hv]
  unfold encodeRune
  rw [encodeRuneZ_bad (by omega)]
  simp only [Bool.false_eq_true, if_false]
  decide
theorem ym (ns : List Int) : (runesBytes ns).data.toList = (ns.map encodeRune).flatten := by
 have h : ∀ (ns : List Int) (acc : ByteArray), (ns.foldl (fun r n => r ++ Utf8.encode n) acc).data.toList = acc.data.toList ++ (ns.map encodeRune).flatten := by
  intro ns
  induction ns with
  | nil => intro acc; simp
  | cons n ns ih => intro acc; rw [List.foldl_cons, ih, ByteArray.data_append, Array.toList_append, KB]; simp
 unfold runesBytes
 rw [h]
 rfl
theorem Li {a b : ByteArray} (h : a.data.toList = b.data.toList) : a = b := by
 cases a; cases b
 congr
 exact Array.ext' h
theorem FL (p : aR) (v : ac) (hs : v.s.size < 1000000) (hp : 0 ≤ p.param) : ∀ (m f b i x : Nat), v.s.size ≤ i + m → m ≤ b → m < f → i ≤ v.s.size → validD (v.s.data.toList.drop i) = true → (x : Int) ≤ p.param → x ≤ i →
  ∃ t, cI p v f i (x : Int) = iJ v t ∧ t.data.toList = v.s.data.toList.take i ++ (((lJ v.s b i).take (p.param.toNat - x)).map encodeRune).flatten := by
 intro m
 induction m with
 | zero =>
  intro f b i x hi hb hf hle hv hx hxi
  obtain ⟨f, rfl⟩ : ∃ q, f = q + 1 := ⟨f - 1, by omega⟩
  have : i = v.s.size := by omega
  subst this
  refine ⟨v.s, ?_, ?_⟩
  ·rw [cI, decide_eq_false (by omega), ae]
  ·have : lJ v.s b v.s.size = [] := by cases b <;> simp [lJ]
   rw [this, List.take_nil, List.map_nil, List.flatten_nil, List.append_nil, List.take_of_length_le (by simp)]
 | succ m ih =>
  intro f b i x hi hb hf hle hv hx hxi
  obtain ⟨f, rfl⟩ : ∃ q, f = q + 1 := ⟨f - 1, by omega⟩
  obtain ⟨b, rfl⟩ : ∃ q, b = q + 1 := ⟨b - 1, by omega⟩
  by_cases hlt : i < v.s.size
  ·have hl : v.s.data.toList.length = v.s.size := by simp
   by_cases hxp : (x : Int) = p.param
   ·refine ⟨v.s.extract 0 i, ?_, ?_⟩
    ·rw [cI, decide_eq_true hlt, af, show (((x : Int)) == p.param) = true from beq_iff_eq.2 hxp, af]
     unfold eZ
     rw [if_pos ⟨by omega, by simp, by simp; omega⟩]
     rfl
    ·rw [show p.param.toNat - x = 0 by omega, List.take_zero, List.map_nil, List.flatten_nil, List.append_nil]
     simp
   ·have hne : v.s.data.toList.drop i ≠ [] := fun e => by have := congrArg List.length e; rw [List.length_drop, hl] at this; simp at this; omega
    have hw := decodeL_width (v.s.data.toList.drop i)
    have hwl := decodeL_le (v.s.data.toList.drop i) hne
    rw [validD_step _ hne] at hv
    have hbad : ¬ ((decodeL (v.s.data.toList.drop i)).1 = 65533 ∧ (decodeL (v.s.data.toList.drop i)).2 = 1) := fun h => by rw [if_pos h] at hv; cases hv
    rw [if_neg hbad, List.drop_drop] at hv
    have henc := encode_decode _ hne hbad
    rw [decodeL_drop] at hw hwl hbad hv henc
    rw [List.length_drop, hl] at hwl
    obtain ⟨t, t1, t2⟩ := ih f b (i + (Utf8.decode v.s i).2) (x + 1) (by omega) (by omega) (by omega) (by omega) hv (by omega) (by omega)
    refine ⟨t, ?_, ?_⟩
    ·rw [cI, decide_eq_true hlt, af, show (((x : Int)) == p.param) = false from beq_eq_false_iff_ne.2 hxp, ae, fi (by omega) (by omega)]
     exact t1
    ·rw [t2, lJ, if_pos hlt, show p.param.toNat - x = (p.param.toNat - (x + 1)) + 1 by omega, List.take_succ_cons, List.map_cons, List.flatten_cons, List.take_add, ← List.append_assoc]
     congr 2
     exact henc.symm
  ·refine ⟨v.s, ?_, ?_⟩
   ·rw [cI, decide_eq_false hlt, ae]
   ·rw [lJ, if_neg hlt, List.take_nil, List.map_nil, List.flatten_nil, List.append_nil, List.take_of_length_le (by simp; omega)]
theorem HK (p : aR) (v : ac) (hk : v.kind = 4) (hs : v.s.size < 1000000) (hp : 0 ≤ p.param) (hv : validD v.s.data.toList = true) :
  dL v p.param = some ⟨v.kind, v.n, v.scale, runesBytes ((dW v.s).take p.param.toNat), v.items⟩ ∧ cI p v aV 0 0 = some ⟨v.kind, v.n, v.scale, runesBytes ((dW v.s).take p.param.toNat), v.items⟩ := by
 have hlen : (dW v.s).length ≤ v.s.size := pP v.s v.s.size 0
 refine ⟨?_, ?_⟩
 ·unfold dL
  have hy : ∃ y : Int, (if ((dW v.s).length : Int) < p.param then ((dW v.s).length : Int) else p.param) = y ∧ 0 ≤ y ∧ y ≤ ((dW v.s).length : Int) ∧ (dW v.s).take y.toNat = (dW v.s).take p.param.toNat := by
   by_cases h : ((dW v.s).length : Int) < p.param
   ·rw [if_pos h]; exact ⟨_, rfl, by omega, by omega, by rw [List.take_of_length_le (by omega), List.take_of_length_le (by omega)]⟩
   ·rw [if_neg h]; exact ⟨_, rfl, hp, by omega, rfl⟩
  obtain ⟨y, y1, y2, y3, y4⟩ := hy
  rw [hk, show ((4 : Int) == 4) = true from rfl, af, y1]
  unfold eZ
  rw [if_pos (by omega), ar, if_pos ⟨by omega, y2, y3⟩]
  rw [show ((0 : Int).toNat) = 0 from rfl, Nat.sub_zero, List.drop_zero, y4]
 ·obtain ⟨t, t1, t2⟩ := FL p v hs hp v.s.size aV v.s.size 0 0 (by omega) (by omega) (by rw [aI]; omega) (by omega) hv (by omega) (by omega)
  rw [show (0 : Int) = ((0 : Nat) : Int) from rfl, t1]
  unfold iJ
  congr 2
  refine Li ?_
  rw [t2, ym, List.take_zero, List.nil_append, Nat.sub_zero]
  rfl
end Go.Proofs.YtbfekiekbifgcaaGreatDoor
namespace Go.Proofs.YtbfekiekbifgcaaGreatDoor
open Go Go.SX Go.SX.Cal Go.Lib
theorem E6 (t : aq) : oS t = some (decide (t.kind ≠ 6 ∧ t.kind ≠ 7)) := by
 unfold oS nE
 by_cases h6 : t.kind = 6 <;> by_cases h7 : t.kind = 7 <;> simp [h6, h7, au]
def rI : aq := ⟨0, 0, []⟩
def Ki (p : aR) (t : aq) : aq × Int :=
 if t.kind = 6 ∨ t.kind = 7 then (rI, 2) else if p.kind = 3 ∧ t.kind ≠ 2 ∧ t.kind ≠ 3 ∧ t.kind ≠ 4 then (rI, 2) else if 4 ≤ p.kind ∧ t.kind ≠ 5 then (rI, 2)
 else if p.kind = 2 ∨ 4 ≤ p.kind then (⟨2, 0, []⟩, 0) else (t, 0)
def Gs (p : aR) (t : aq) (e : Int) : aq × Int :=
 if e ≠ 0 then (rI, e) else if p.kind < 0 ∨ 7 < p.kind then (rI, 3)
 else if p.kind = 2 ∨ p.kind = 3 then (if p.param < 1 ∨ 1000000 < p.param then (rI, 3) else Ki p t) else if p.param ≠ 0 then (rI, 3) else Ki p t
theorem NG (p : aR) (t : aq) : eX p t = some (Ki p t) := by
 unfold eX dS dT gq Ki rI
 rw [E6]
 simp only [ar, au]
 by_cases h6 : t.kind = 6
 ·simp [h6]
 by_cases h7 : t.kind = 7
 ·simp [h7]
 by_cases h3 : p.kind = 3
 ·by_cases t2 : t.kind = 2
  ·simp [h6, h7, h3, t2]
  by_cases t3 : t.kind = 3
  ·simp [h6, h7, h3, t2, t3]
  by_cases t4 : t.kind = 4
  ·simp [h6, h7, h3, t2, t3, t4]
  simp [h6, h7, h3, t2, t3, t4]
 ·by_cases h4 : 4 ≤ p.kind
  ·by_cases t5 : t.kind = 5
   ·simp [h6, h7, h3, h4, t5]
   ·simp [h6, h7, h3, h4, t5]
  ·by_cases h2 : p.kind = 2
   ·simp [h6, h7, h3, h4, h2]
   ·simp [h6, h7, h3, h4, h2]
theorem Kh (p : aR) (t : aq) : co p t false = some (Ki p t) := by
 unfold co eh io im Ki rI
 rw [leafR]
 simp only [ar, au]
 by_cases h6 : t.kind = 6
 ·simp [h6]
 by_cases h7 : t.kind = 7
 ·simp [h7]
 by_cases h3 : p.kind = 3
 ·by_cases t2 : t.kind = 2
  ·simp [h6, h7, h3, t2]
  by_cases t3 : t.kind = 3
  ·simp [h6, h7, h3, t2, t3]
  by_cases t4 : t.kind = 4
  ·simp [h6, h7, h3, t2, t3, t4]
  simp [h6, h7, h3, t2, t3, t4]
 ·by_cases h4 : 4 ≤ p.kind
  ·by_cases t5 : t.kind = 5
   ·simp [h6, h7, h3, h4, t5]
   ·simp [h6, h7, h3, h4, t5]
  ·by_cases h2 : p.kind = 2
   ·simp [h6, h7, h3, h4, h2]
   ·simp [h6, h7, h3, h4, h2]
theorem E8 (a b c : Int) : nT a b c = some (decide (b ≤ a ∧ a ≤ c)) := by
 unfold nT mg
 by_cases h1 : b ≤ a <;> by_cases h2 : a ≤ c <;> simp [h1, h2, au]
theorem tt (p : aR) (t : aq) (hs : gi t < 1000000000) : ∃ e, (e = 0 → V t) ∧ gf p t = some (Gs p t e) ∧ eG p t = some (Gs p t e) := by
 obtain ⟨e, h1, h2, h3⟩ := checkType_eq t hs
 refine ⟨e, h3, ?_, ?_⟩
 ·unfold gf Gs
  rw [h1]
  by_cases he : e = 0
  ·subst he
   unfold gA gz gv
   rw [NG]
   simp only [ar, au, rI]
   by_cases k0 : p.kind < 0
   ·simp [k0]
   by_cases k7 : 7 < p.kind
   ·simp [k0, k7]
   by_cases k2 : p.kind = 2
   ·by_cases m1 : p.param < 1
    ·simp [k0, k7, k2, m1]
    by_cases m2 : 1000000 < p.param
    ·simp [k0, k7, k2, m1, m2]
    simp [k0, k7, k2, m1, m2]
   by_cases k3 : p.kind = 3
   ·by_cases m1 : p.param < 1
    ·simp [k0, k7, k2, k3, m1]
    by_cases m2 : 1000000 < p.param
    ·simp [k0, k7, k2, k3, m1, m2]
    simp [k0, k7, k2, k3, m1, m2]
   by_cases m0 : p.param = 0
   ·simp [k0, k7, k2, k3, m0]
   ·simp [k0, k7, k2, k3, m0]
  ·simp [he, au, ar, rI]
 ·unfold eG Gs
  rw [h2]
  by_cases he : e = 0
  ·subst he
   unfold il
   rw [E8, E8]
   have hb : co p t true = some (rI, 3) := rfl
   by_cases k0 : p.kind < 0
   ·simp [k0, au, ar, show ¬ (0 : Int) ≤ p.kind by omega, rI]
   by_cases k7 : 7 < p.kind
   ·simp [k0, k7, au, ar, show ¬ p.kind ≤ 7 by omega, rI]
   have k0' : (0 : Int) ≤ p.kind := by omega
   have k7' : p.kind ≤ 7 := by omega
   by_cases k2 : p.kind = 2
   ·by_cases m1 : p.param < 1
    ·simp [k2, m1, au, ar, hb, show ¬ (1 : Int) ≤ p.param by omega]
    by_cases m2 : 1000000 < p.param
    ·simp [k2, m1, m2, au, ar, hb, show ¬ p.param ≤ 1000000 by omega]
    simp [k2, m1, m2, au, ar, Kh, show (1 : Int) ≤ p.param by omega, show p.param ≤ 1000000 by omega]
   by_cases k3 : p.kind = 3
   ·by_cases m1 : p.param < 1
    ·simp [k3, m1, au, ar, hb, show ¬ (1 : Int) ≤ p.param by omega]
    by_cases m2 : 1000000 < p.param
    ·simp [k3, m1, m2, au, ar, hb, show ¬ p.param ≤ 1000000 by omega]
    simp [k3, m1, m2, au, ar, Kh, show (1 : Int) ≤ p.param by omega, show p.param ≤ 1000000 by omega]
   by_cases m0 : p.param = 0
   ·simp [k0, k7, k0', k7', k2, k3, m0, au, ar, Kh]
   ·have hm : (p.param != 0) = true := bne_iff_ne.2 m0
    simp [k0, k7, k0', k7', k2, k3, m0, hm, au, ar, hb]
  ·simp [he, au, ar, rI]
theorem Lz {t : aq} (h : V t) (h6 : t.kind ≠ 6) (h7 : t.kind ≠ 7) : t.fields = [] ∧ 1 ≤ t.kind ∧ t.kind ≤ 7 := by
 obtain ⟨_, h1, _⟩ := h
 unfold shp at h1
 split at h1
 ·omega
 ·rename_i hk
  split at h1
  ·omega
  ·unfold vf at h1
   rw [if_neg h6, if_pos h7] at h1
   split at h1
   ·omega
   ·rename_i hl
    exact ⟨List.eq_nil_of_length_eq_zero (by omega), by omega, by omega⟩
structure JY (p : aR) (t : aq) : Prop where
 v : V t
 k6 : t.kind ≠ 6
 k7 : t.kind ≠ 7
 lo : 0 ≤ p.kind
 hi : p.kind ≤ 7
 par : p.kind = 2 ∨ p.kind = 3 → 1 ≤ p.param ∧ p.param ≤ 1000000
 cut : p.kind = 3 → t.kind = 2 ∨ t.kind = 3 ∨ t.kind = 4
 tim : 4 ≤ p.kind → t.kind = 5
theorem Lw {p : aR} {t : aq} {e : Int} (hv : e = 0 → V t) (h : (Gs p t e).2 = 0) : JY p t := by
 unfold Gs Ki at h
 by_cases he : e = 0
 ·subst he
  rw [if_neg (by decide)] at h
  by_cases hk : p.kind < 0 ∨ 7 < p.kind
  ·rw [if_pos hk] at h; exact absurd h (by decide)
  rw [if_neg hk] at h
  have fin : (if t.kind = 6 ∨ t.kind = 7 then (rI, (2 : Int)) else if p.kind = 3 ∧ t.kind ≠ 2 ∧ t.kind ≠ 3 ∧ t.kind ≠ 4 then (rI, 2) else if 4 ≤ p.kind ∧ t.kind ≠ 5 then (rI, 2) else if p.kind = 2 ∨ 4 ≤ p.kind then (⟨2, 0, []⟩, 0) else (t, 0)).2 = 0 →
    t.kind ≠ 6 ∧ t.kind ≠ 7 ∧ (p.kind = 3 → t.kind = 2 ∨ t.kind = 3 ∨ t.kind = 4) ∧ (4 ≤ p.kind → t.kind = 5) := fun h => by
   by_cases a : t.kind = 6 ∨ t.kind = 7
   ·rw [if_pos a] at h; exact absurd h (by decide)
   rw [if_neg a] at h
   by_cases b : p.kind = 3 ∧ t.kind ≠ 2 ∧ t.kind ≠ 3 ∧ t.kind ≠ 4
   ·rw [if_pos b] at h; exact absurd h (by decide)
   rw [if_neg b] at h
   by_cases c : 4 ≤ p.kind ∧ t.kind ≠ 5
   ·rw [if_pos c] at h; exact absurd h (by decide)
   exact ⟨by omega, by omega, by omega, by omega⟩
  by_cases h23 : p.kind = 2 ∨ p.kind = 3
  ·rw [if_pos h23] at h
   by_cases hm : p.param < 1 ∨ 1000000 < p.param
   ·rw [if_pos hm] at h; exact absurd h (by decide)
   rw [if_neg hm] at h
   obtain ⟨a, b, c, d⟩ := fin h
   exact ⟨hv rfl, a, b, by omega, by omega, fun _ => by omega, c, d⟩
  ·rw [if_neg h23] at h
   by_cases hm : p.param ≠ 0
   ·rw [if_pos hm] at h; exact absurd h (by decide)
   rw [if_neg hm] at h
   obtain ⟨a, b, c, d⟩ := fin h
   exact ⟨hv rfl, a, b, by omega, by omega, fun h => absurd h h23, c, d⟩
 ·rw [if_pos he] at h; exact absurd h he
end Go.Proofs.YtbfekiekbifgcaaGreatDoor
namespace Go.Proofs.YtbfekiekbifgcaaGreatDoor
open Go Go.SX Go.SX.Cal Go.Lib
def rY : ac := ⟨0, 0, 0, ByteArray.empty, []⟩
theorem yR {β : Type} {p : Prop} [Decidable p] {x : Option β} (h : p) : eZ p x = x := if_pos h
theorem nY {a b : Int} (hb : 0 < b ∧ b ≤ 1000000) (ha : -999999999999999999 ≤ a ∧ a ≤ 999999999999999999) : jC a b = some (a / b) ∧ lc a b = some (a / b) := by
 obtain ⟨b0, b1⟩ := hb
 have hq : a.tdiv b = if 0 ≤ a then a / b else -((-a) / b) := by
  by_cases h : 0 ≤ a
  ·rw [if_pos h, Int.tdiv_eq_ediv_of_nonneg h]
  ·rw [if_neg h]
   have := Int.neg_tdiv (-a) b
   rw [Int.neg_neg] at this
   rw [this, Int.tdiv_eq_ediv_of_nonneg (by omega)]
 have hm : b * a.tdiv b + a.tmod b = a := Int.mul_tdiv_add_tmod a b
 have hd := Int.mul_ediv_add_emod a b
 have he0 := Int.emod_nonneg a (show b ≠ 0 by omega)
 have he1 := Int.emod_lt_of_pos a b0
 have hle : -999999999999999999 ≤ a.tdiv b ∧ a.tdiv b ≤ 999999999999999999 := by
  rw [hq]
  by_cases h : 0 ≤ a
  ·rw [if_pos h]
   have h1 := Int.ediv_nonneg h (show 0 ≤ b by omega)
   have h2 := Int.ediv_le_self b h
   omega
  ·rw [if_neg h]
   have h1 := Int.ediv_nonneg (show 0 ≤ -a by omega) (show 0 ≤ b by omega)
   have h2 := Int.ediv_le_self b (show 0 ≤ -a by omega)
   omega
 have htm : (a.tmod b < 0 → a / b = a.tdiv b - 1) ∧ (¬ a.tmod b < 0 → a / b = a.tdiv b) ∧ -b < a.tmod b ∧ a.tmod b < b := by
  have h3 : -b < a.tmod b ∧ a.tmod b < b := by
   have h4 := Int.tmod_lt_of_pos a b0
   have h5 : -b < a.tmod b := by
    by_cases h : 0 ≤ a
    ·have := Int.tmod_nonneg b h; omega
    ·have h6 := Int.tmod_lt_of_pos (-a) b0
     rw [Int.neg_tmod] at h6
     omega
   exact ⟨h5, h4⟩
  have key : ∀ q r : Int, b * q + r = a → 0 ≤ r → r < b → a / b = q := fun q r h1 h2 h3 => by
   rw [← h1, Int.add_comm, Int.add_mul_ediv_left _ _ (by omega), Int.ediv_eq_zero_of_lt h2 h3]; omega
  refine ⟨fun h => key _ (a.tmod b + b) (by rw [Int.mul_sub, Int.mul_one]; omega) (by omega) (by omega), fun h => key _ _ hm (by omega) (by omega), h3.1, h3.2⟩
 obtain ⟨t1, t2, t3, t4⟩ := htm
 refine ⟨?_, ?_⟩
 ·unfold jC mB
  rw [yR (by omega), yR (by omega), fi (x := a.tdiv b) (by omega) (by omega), fi (x := a.tdiv b - 1) (by omega) (by omega)]
  by_cases h : a.tmod b < 0
  ·rw [decide_eq_true h, af, t1 h]
  ·rw [decide_eq_false h, ae, t2 h]
 ·unfold lc oy
  have hmul : (a.tdiv b) * b = a - a.tmod b := by rw [Int.mul_comm]; omega
  rw [yR (by omega), ar, fi (x := a.tdiv b) (by omega) (by omega), hmul, fi (x := a - a.tmod b) (by omega) (by omega), fi (x := a.tdiv b - 1) (by omega) (by omega)]
  by_cases h : a.tmod b < 0
  ·rw [decide_eq_true (by omega), af, t1 h]
  ·rw [decide_eq_false (by omega), ae, t2 h]
def IQ (p : aR) (v : ac) (h y mo : Int) : ac :=
 if p.kind = 0 then rY else if p.kind = 1 then v else if p.kind = 2 then ⟨2, h, 0, ByteArray.empty, []⟩
 else if p.kind = 3 then (if v.kind = 4 then ⟨v.kind, v.n, v.scale, runesBytes ((dW v.s).take p.param.toNat), v.items⟩ else ⟨v.kind, max (-999999999999999999) (v.n / p.param * p.param), v.scale, v.s, v.items⟩)
 else if p.kind = 4 then ⟨2, y - 1970, 0, ByteArray.empty, []⟩ else if p.kind = 5 then ⟨2, 12 * (y - 1970) + mo - 1, 0, ByteArray.empty, []⟩
 else if p.kind = 6 then ⟨2, v.n / 86400, 0, ByteArray.empty, []⟩ else ⟨2, v.n / 3600, 0, ByteArray.empty, []⟩
structure Lf (v : ac) : Prop where
 k : 1 ≤ v.kind ∧ v.kind ≤ 5
 n : -999999999999999999 ≤ v.n ∧ v.n ≤ 999999999999999999
 it : v.items = []
 txt : v.kind = 4 → v.s.size ≤ 256 ∧ validD v.s.data.toList = true
 nos : v.kind ≠ 4 → v.s.size = 0
 sc : 0 ≤ v.scale ∧ v.scale ≤ 12
 mom : v.kind = 5 → -62135596800 ≤ v.n ∧ v.n ≤ 253402300799
theorem H6 {v : ac} (h : jM v = true) (h6 : v.kind ≠ 6) (h7 : v.kind ≠ 7) (h0 : v.kind ≠ 0) : Lf v := by
 have hp := (HA h).pl
 unfold du at hp
 have e0 : ∀ (l : List ac), ((l.length : Int) == 0) = true → l = [] := fun l h => List.eq_nil_of_length_eq_zero (by have := eq_of_beq h; omega)
 by_cases k1 : v.kind = 1
 ·simp only [k1] at hp; simp at hp
  exact ⟨by omega, by omega, by have := hp.2.2.2; exact List.eq_nil_of_length_eq_zero (by simpa using this), by omega, fun _ => by rw [hp.2.2.1]; rfl, by omega, by omega⟩
 by_cases k2 : v.kind = 2
 ·simp only [k2] at hp; simp at hp
  exact ⟨by omega, by omega, by have := hp.2.2.2; exact List.eq_nil_of_length_eq_zero (by simpa using this), by omega, fun _ => by rw [hp.2.2.1]; rfl, by omega, by omega⟩
 by_cases k3 : v.kind = 3
 ·simp only [k3] at hp; simp at hp
  exact ⟨by omega, by omega, by have := hp.2.2.2; exact List.eq_nil_of_length_eq_zero (by simpa using this), by omega, fun _ => by rw [hp.2.2.1]; rfl, by omega, by omega⟩
 by_cases k4 : v.kind = 4
 ·simp only [k4] at hp; simp [kd] at hp
  exact ⟨by omega, by omega, by have := hp.2.2; exact List.eq_nil_of_length_eq_zero (by simpa using this), fun _ => ⟨hp.2.1.1, hp.2.1.2.1⟩, fun h => absurd k4 h, by omega, by omega⟩
 by_cases k5 : v.kind = 5
 ·simp only [k5] at hp; simp at hp
  exact ⟨by omega, by omega, by have := hp.2.2.2; exact List.eq_nil_of_length_eq_zero (by simpa using this), by omega, fun _ => by rw [hp.2.2.1]; rfl, by omega, by omega⟩
 simp [k1, k2, k3, k4, k5, h6, h7, h0] at hp
end Go.Proofs.YtbfekiekbifgcaaGreatDoor
namespace Go.Proofs.YtbfekiekbifgcaaGreatDoor
open Go Go.SX Go.SX.Cal Go.Lib
def IR : ByteArray := ByteArray.mk #[117, 116, 99]
def I5 : dZ := dZ.mk IR 0 0 (fI.mk 0 0 0 0) (fI.mk 0 0 0 0)
theorem Mq : u6 IR = some (I5, true) := by kernel_rfl
theorem KM : s7 IR = some (I5, true) := by kernel_rfl
theorem Kt (m : Int) : sW I5 m = some 0 := rfl
theorem JG (m : Int) : uv I5 m = some 0 := rfl
theorem Es {n : Int} (h0 : -62135596800 ≤ n) (h1 : n ≤ 253402300799) : pU n IR = some (Tm.civ n, 0) ∧ nc n IR = some (Tm.civ n, 0) := by
 obtain ⟨y0, y1⟩ := Tm.years_of (s := n) (by omega) (by omega)
 refine ⟨?_, ?_⟩
 ·unfold pU
  rw [Mq, ar, Bool.not_true, ae, Tm.within_eq, ar, decide_eq_true ⟨h0, h1⟩, Bool.not_true, ae, Kt, ar, Int.add_zero, fi (by omega) (by omega), Tm.civil_eq (by omega) (by omega), ar]
 ·unfold nc
  rw [KM, ar, Bool.not_true, ae, Tm.rwithin_eq, ar, decide_eq_true ⟨h0, h1⟩, Bool.not_true, ae, JG, ar, Int.add_zero, fi (by omega) (by omega), Tm.rcivil_eq (by omega) (by omega) y0 y1, ar]
theorem LT {n : Int} (h0 : -62135596800 ≤ n) (h1 : n ≤ 253402300799) : mS n 1 IR = some ((Tm.civ n).year, 0) ∧ mS n 2 IR = some ((Tm.civ n).month, 0) := by
 obtain ⟨f, _, _, _⟩ := Tm.civ_ok (s := n) (by omega) (by omega)
 have hd : lR (Tm.civ n).year (Tm.civ n).month (Tm.civ n).day = some (Cal.days (Tm.civ n).year (Tm.civ n).month (Tm.civ n).day) := Tm.days_eq (by have := f.y0; omega) (by have := f.y1; omega) (by have := f.m0; omega) (by have := f.m1; omega) (by have := f.d0; omega) (by have := f.d1; omega)
 unfold mS
 rw [(Es h0 h1).1, ar, ar, show ((0 : Int) != 0) = false from rfl, ae, ae, hd, ar, ar]
 exact ⟨rfl, rfl⟩
end Go.Proofs.YtbfekiekbifgcaaGreatDoor
namespace Go.Proofs.YtbfekiekbifgcaaGreatDoor
open Go Go.SX Go.SX.Cal Go.Lib
theorem Jh (x : Int) : -9223372036854775808 ≤ IntKind.i64.wrap x ∧ IntKind.i64.wrap x ≤ 9223372036854775807 := by
 rw [show IntKind.i64.wrap x = if 9223372036854775808 ≤ x % 18446744073709551616 then x % 18446744073709551616 - 18446744073709551616 else x % 18446744073709551616 by unfold IntKind.wrap; simp [IntKind.bits, IntKind.signed]]
 split <;> omega
theorem qH (q : Int) : ew q = some ⟨2, q, 0, ByteArray.empty, []⟩ := rfl
theorem Jq (k s : Int) : gi ⟨k, s, []⟩ < 1000000000 := by simp [gi, sizeF]
def Ac (p : aR) (h : Int) : Int := IntKind.i64.wrap (h.tmod (IntKind.u64.wrap p.param))
theorem Nr {p : aR} {v : ac} (h4 : v.kind ≠ 4) (hm : 1 ≤ p.param ∧ p.param ≤ 1000000) (hn : -999999999999999999 ≤ v.n ∧ v.n ≤ 999999999999999999) :
  dL v p.param = some ⟨v.kind, max (-999999999999999999) (v.n / p.param * p.param), v.scale, v.s, v.items⟩ ∧
  (aD (lc v.n p.param) fun r5 => aD (some (decide ((IntKind.i64.wrap (p.param * r5)) < (-999999999999999999 : Int)))) fun y1 => aA y1 (fZ v (-999999999999999999 : Int)) (fZ v (IntKind.i64.wrap (p.param * r5)))) =
   some ⟨v.kind, max (-999999999999999999) (v.n / p.param * p.param), v.scale, v.s, v.items⟩ := by
 obtain ⟨f1, f2⟩ := nY (a := v.n) (b := p.param) (by omega) hn
 have hd := Int.mul_ediv_add_emod v.n p.param
 have he0 := Int.emod_nonneg v.n (show p.param ≠ 0 by omega)
 have he1 := Int.emod_lt_of_pos v.n (show 0 < p.param by omega)
 have hc : v.n / p.param * p.param = v.n - v.n % p.param := by rw [Int.mul_comm]; omega
 have hc2 : p.param * (v.n / p.param) = v.n - v.n % p.param := by omega
 refine ⟨?_, ?_⟩
 ·unfold dL
  rw [show (v.kind == 4) = false from beq_eq_false_iff_ne.2 h4, ae, f1, ar, hc, fi (by omega) (by omega), ar]
  congr 2
  rw [Int.max_def]
  by_cases h : -999999999999999999 > v.n - v.n % p.param
  ·rw [if_pos h, if_neg (by omega)]
  ·rw [if_neg h, if_pos (by omega)]
 ·rw [f2, ar, hc, hc2, fi (by omega) (by omega), ar]
  unfold fZ
  rw [Int.max_def]
  by_cases h : v.n - v.n % p.param < -999999999999999999
  ·rw [decide_eq_true h, af, if_neg (by omega)]
  ·rw [decide_eq_false h, ae, if_pos (by omega)]
theorem Jz {p : aR} {v : ac} (hl : Lf v) (hk : JY p ⟨v.kind, v.scale, []⟩) (hv : bO v < 10000000) (e : Int) (he : eG p ⟨v.kind, v.scale, []⟩ = some (Gs p ⟨v.kind, v.scale, []⟩ e)) (h0 : (Gs p ⟨v.kind, v.scale, []⟩ e).2 = 0) :
  ∃ h, eH p v false = some (IQ p v (Ac p h) (Tm.civ v.n).year (Tm.civ v.n).month) ∧ dt p v false = some (IQ p v (Ac p h) (Tm.civ v.n).year (Tm.civ v.n).month) := by
 obtain ⟨h, g1, g2⟩ := I3 v hv
 refine ⟨h, ?_⟩
 obtain ⟨k, m⟩ := p
 have hlo : 0 ≤ k := hk.lo
 have hhi : k ≤ 7 := hk.hi
 have hpar : k = 2 ∨ k = 3 → 1 ≤ m ∧ m ≤ 1000000 := hk.par
 have htim : 4 ≤ k → v.kind = 5 := hk.tim
 have hu : k = 2 ∨ k = 3 → IntKind.u64.wrap m ≠ 0 := fun hh => by
  have := hpar hh
  rw [Nz (by omega) (by omega)]; omega
 -- year and month
 have hj : ∃ y mo, eH ⟨k, m⟩ v false = ig ⟨k, m⟩ v y mo ∧ (4 ≤ k → y = (Tm.civ v.n).year ∧ mo = (Tm.civ v.n).month) := by
  unfold eH
  rw [ae]
  by_cases h5 : v.kind = 5
  ·obtain ⟨m0, m1⟩ := hl.mom h5
   obtain ⟨p1, p2⟩ := LT m0 m1
   refine ⟨_, _, ?_, fun _ => ⟨rfl, rfl⟩⟩
   rw [h5, show ((5 : Int) == 5) = true from rfl, af]
   rw [show (ByteArray.mk #[117, 116, 99]) = IR from rfl, p1, p2, ar, ar]
  ·rw [show (v.kind == 5) = false from beq_eq_false_iff_ne.2 h5, ae]
   exact ⟨0, 0, rfl, fun h => absurd (htim h) h5⟩
 obtain ⟨y, mo, j1, j2⟩ := hj
 rw [j1]
 unfold dt
 rw [ae, he, ar, h0, show ((0 : Int) != 0) = false from rfl, ae]
 unfold ig
 have hk8 : k = 0 ∨ k = 1 ∨ k = 2 ∨ k = 3 ∨ k = 4 ∨ k = 5 ∨ k = 6 ∨ k = 7 := by omega
 have hyb : v.kind = 5 → 0 ≤ (Tm.civ v.n).year ∧ (Tm.civ v.n).year ≤ 10000 ∧ 1 ≤ (Tm.civ v.n).month ∧ (Tm.civ v.n).month ≤ 12 := fun h5 => by
  obtain ⟨m0, m1⟩ := hl.mom h5
  have := Tm.years_of (s := v.n) (by omega) (by omega)
  obtain ⟨f, _⟩ := Tm.civ_ok (s := v.n) (by omega) (by omega)
  exact ⟨this.1, this.2, f.m0, f.m1⟩
 rcases hk8 with rfl | rfl | rfl | rfl | rfl | rfl | rfl | rfl
 ·exact ⟨rfl, rfl⟩
 ·exact ⟨rfl, rfl⟩
 ·refine ⟨?_, ?_⟩
  ·show (aD (pc v) fun r5 => eZ ((IntKind.u64.wrap m) ≠ 0) <| aD (ew (IntKind.i64.wrap (r5.tmod (IntKind.u64.wrap m)))) fun r6 => some r6) = _
   rw [g1, ar, yR (hu (.inl rfl)), qH, ar]; rfl
  ·show (aD (qz v) fun r4 => eZ ((IntKind.u64.wrap m) ≠ 0) <| cg (IntKind.i64.wrap (r4.tmod (IntKind.u64.wrap m)))) = _
   rw [g2, ar, yR (hu (.inl rfl))]; rfl
 ·have hm := hpar (.inr rfl)
  by_cases h4 : v.kind = 4
  ·obtain ⟨t1, t2⟩ := hl.txt h4
   obtain ⟨c1, c2⟩ := HK ⟨3, m⟩ v h4 (by omega) (by show 0 ≤ m; omega) t2
   have hx : IQ ⟨3, m⟩ v (Ac ⟨3, m⟩ h) (Tm.civ v.n).year (Tm.civ v.n).month = ⟨v.kind, v.n, v.scale, runesBytes ((dW v.s).take m.toNat), v.items⟩ := if_pos h4
   refine ⟨?_, ?_⟩
   ·show (aD (dL v m) fun r7 => some r7) = _
    rw [show dL v m = _ from c1, ar, hx]
   ·show (aA (v.kind == (4 : Int)) _ _) = _
    rw [h4, show ((4 : Int) == 4) = true from rfl, af, c2, hx, h4]
  ·obtain ⟨c1, c2⟩ := Nr (p := ⟨3, m⟩) h4 hm hl.n
   have hx : IQ ⟨3, m⟩ v (Ac ⟨3, m⟩ h) (Tm.civ v.n).year (Tm.civ v.n).month = ⟨v.kind, max (-999999999999999999) (v.n / m * m), v.scale, v.s, v.items⟩ := if_neg h4
   refine ⟨?_, ?_⟩
   ·show (aD (dL v m) fun r7 => some r7) = _
    rw [show dL v m = _ from c1, ar, hx]
   ·show (aA (v.kind == (4 : Int)) _ _) = _
    rw [show (v.kind == (4 : Int)) = false from beq_eq_false_iff_ne.2 h4, ae, hx]
    exact c2
 ·obtain ⟨rfl, rfl⟩ := j2 (by decide)
  obtain ⟨b1, b2, b3, b4⟩ := hyb (htim (by decide))
  obtain ⟨m0, m1⟩ := hl.mom (htim (by decide))
  refine ⟨?_, ?_⟩
  ·show (aD (ew (IntKind.i64.wrap ((Tm.civ v.n).year - (1970 : Int)))) fun r8 => some r8) = _
   rw [qH, ar, fi (by omega) (by omega)]; rfl
  ·show (aD (nc v.n IR) fun r8 => cg (IntKind.i64.wrap (r8.1.year - (1970 : Int)))) = _
   rw [(Es m0 m1).2, ar, fi (by show _ ≤ (Tm.civ v.n).year - 1970; omega) (by show (Tm.civ v.n).year - 1970 ≤ _; omega)]; rfl
 ·obtain ⟨rfl, rfl⟩ := j2 (by decide)
  obtain ⟨b1, b2, b3, b4⟩ := hyb (htim (by decide))
  obtain ⟨m0, m1⟩ := hl.mom (htim (by decide))
  refine ⟨?_, ?_⟩
  ·show (aD (some (IntKind.i64.wrap ((12 : Int) * (IntKind.i64.wrap ((Tm.civ v.n).year - (1970 : Int)))))) fun y1 => aD (ew (IntKind.i64.wrap ((IntKind.i64.wrap (y1 + (Tm.civ v.n).month)) - (1 : Int)))) fun r9 => some r9) = _
   rw [ar, fi (x := (Tm.civ v.n).year - 1970) (by omega) (by omega), fi (x := 12 * ((Tm.civ v.n).year - 1970)) (by omega) (by omega), fi (x := 12 * ((Tm.civ v.n).year - 1970) + (Tm.civ v.n).month) (by omega) (by omega), qH, ar, fi (by omega) (by omega)]; rfl
  ·show (aD (nc v.n IR) fun r8 => (aD (some (IntKind.i64.wrap ((12 : Int) * (IntKind.i64.wrap (r8.1.year - (1970 : Int)))))) fun y2 => cg (IntKind.i64.wrap ((IntKind.i64.wrap (y2 + r8.1.month)) - (1 : Int))))) = _
   rw [(Es m0 m1).2, ar, ar]
   show cg (IntKind.i64.wrap ((IntKind.i64.wrap ((IntKind.i64.wrap ((12 : Int) * (IntKind.i64.wrap ((Tm.civ v.n).year - (1970 : Int))))) + (Tm.civ v.n).month)) - (1 : Int))) = _
   rw [fi (x := (Tm.civ v.n).year - 1970) (by omega) (by omega), fi (x := 12 * ((Tm.civ v.n).year - 1970)) (by omega) (by omega), fi (x := 12 * ((Tm.civ v.n).year - 1970) + (Tm.civ v.n).month) (by omega) (by omega), fi (by omega) (by omega)]; rfl
 ·obtain ⟨f1, f2⟩ := nY (a := v.n) (b := 86400) (by omega) hl.n
  refine ⟨?_, ?_⟩
  ·show (aD (jC v.n (86400 : Int)) fun r10 => aD (ew r10) fun r11 => some r11) = _
   rw [f1, ar, qH, ar]; rfl
  ·show (aD (lc v.n (86400 : Int)) fun r6 => cg r6) = _
   rw [f2, ar]; rfl
 ·obtain ⟨f1, f2⟩ := nY (a := v.n) (b := 3600) (by omega) hl.n
  refine ⟨?_, ?_⟩
  ·show (aD (jC v.n (3600 : Int)) fun r10 => aD (ew r10) fun r11 => some r11) = _
   rw [f1, ar, qH, ar]; rfl
  ·show (aD (lc v.n (3600 : Int)) fun r6 => cg r6) = _
   rw [f2, ar]; rfl
theorem JW (p : aR) (v : ac) (hv : bO v < 10000000) : ∃ x, iC p v = some x ∧ gQ p v = some x ∧
  (x = rY ∨ ∃ h, Lf v ∧ JY p ⟨v.kind, v.scale, []⟩ ∧ x = IQ p v (Ac p h) (Tm.civ v.n).year (Tm.civ v.n).month) := by
 obtain ⟨e, hV, t1, t2⟩ := tt p ⟨v.kind, v.scale, []⟩ (Jq _ _)
 have jt : eH p v true = some rY := rfl
 have jr : dt p v true = some rY := rfl
 have hs := xp v (by omega)
 have rs := BO v (by omega)
 unfold iC gQ
 rw [t1, ar]
 by_cases h0 : (Gs p ⟨v.kind, v.scale, []⟩ e).2 = 0
 ·have hk := Lw hV h0
  have hl := Lz hk.v hk.k6 hk.k7
  have hk0 : v.kind ≠ 0 := by have h := hl.2.1; have : 1 ≤ v.kind := h; omega
  rw [h0, show ((0 : Int) != 0) = false from rfl, ae, hs, ar, show (v.kind == 0) = false from beq_eq_false_iff_ne.2 hk0, ae, rs, ar, leafR, ar]
  cases hb : jM v with
  | false => rw [Bool.not_false, af]; exact ⟨_, jt, jr, .inl rfl⟩
  | true =>
   have h6 : v.kind ≠ 6 := hk.k6
   have h7 : v.kind ≠ 7 := hk.k7
   rw [Bool.not_true, ae, decide_eq_true (show v.kind ≠ 6 ∧ v.kind ≠ 7 from ⟨h6, h7⟩), Bool.not_true]
   obtain ⟨h, c1, c2⟩ := Jz (H6 hb h6 h7 hk0) hk hv e t2 h0
   exact ⟨_, c1, c2, .inr ⟨h, H6 hb h6 h7 hk0, hk, rfl⟩⟩
 ·rw [show ((Gs p ⟨v.kind, v.scale, []⟩ e).2 != 0) = true from bne_iff_ne.2 h0, af]
  refine ⟨rY, jt, ?_, .inl rfl⟩
  by_cases hk0 : v.kind = 0
  ·rw [hk0, show ((0 : Int) == 0) = true from rfl, af]; rfl
  ·rw [show (v.kind == 0) = false from beq_eq_false_iff_ne.2 hk0, ae, rs, ar, leafR, ar]
   have jf : ∀ b, dt p v b = some rY := fun b => by
    cases b with
    | true => exact jr
    | false =>
     unfold dt
     rw [ae, t2, ar, show ((Gs p ⟨v.kind, v.scale, []⟩ e).2 != 0) = true from bne_iff_ne.2 h0, af]; rfl
   cases jM v with
   | false => exact jr
   | true => exact jf _
end Go.Proofs.YtbfekiekbifgcaaGreatDoor
namespace Go.Proofs.YtbfekiekbifgcaaGreatDoor
open Go Go.SX Go.SX.Cal Go.Lib
structure Sm (x : ac) : Prop where
 it : x.items = []
 n : -9223372036854775808 ≤ x.n ∧ x.n ≤ 9223372036854775807
 sc : x.kind = 3 → 0 ≤ x.scale ∧ x.scale ≤ 12
 s : x.s.size < 100000000
theorem KD {p : aR} {v : ac} {h : Int} (hl : Lf v) (hk : JY p ⟨v.kind, v.scale, []⟩) : Sm (IQ p v (Ac p h) (Tm.civ v.n).year (Tm.civ v.n).month) := by
 have hn := hl.n
 have hkk := hl.k
 have hsc := hl.sc
 have hpar : p.kind = 2 ∨ p.kind = 3 → 1 ≤ p.param ∧ p.param ≤ 1000000 := hk.par
 have htim : 4 ≤ p.kind → v.kind = 5 := hk.tim
 have hsz : v.s.size ≤ 256 := by
  by_cases h4 : v.kind = 4
  ·exact (hl.txt h4).1
  ·have := hl.nos h4; omega
 have num : ∀ q : Int, -9223372036854775808 ≤ q → q ≤ 9223372036854775807 → Sm ⟨2, q, 0, ByteArray.empty, []⟩ := fun q h1 h2 => ⟨rfl, ⟨h1, h2⟩, fun h => absurd h (by decide : (2 : Int) ≠ 3), (by decide : (0 : Nat) < 100000000)⟩
 unfold IQ
 by_cases k0 : p.kind = 0
 ·rw [if_pos k0]
  exact ⟨rfl, by decide, fun h => absurd h (by decide : (0 : Int) ≠ 3), (by decide : (0 : Nat) < 100000000)⟩
 rw [if_neg k0]
 by_cases k1 : p.kind = 1
 ·rw [if_pos k1]
  exact ⟨hl.it, by omega, fun _ => hsc, by omega⟩
 rw [if_neg k1]
 by_cases k2 : p.kind = 2
 ·rw [if_pos k2]
  have := Jh (h.tmod (IntKind.u64.wrap p.param))
  exact num _ this.1 this.2
 rw [if_neg k2]
 by_cases k3 : p.kind = 3
 ·rw [if_pos k3]
  have hm := hpar (.inr k3)
  by_cases h4 : v.kind = 4
  ·rw [if_pos h4]
   have hlen : (dW v.s).length ≤ v.s.size := pP v.s v.s.size 0
   have hb := runesBytes_size_le ((dW v.s).take p.param.toNat)
   have ht : ((dW v.s).take p.param.toNat).length ≤ (dW v.s).length := by rw [List.length_take]; omega
   exact ⟨hl.it, by show _ ≤ v.n ∧ v.n ≤ _; omega, fun _ => hsc, by show (runesBytes _).size < _; omega⟩
  ·rw [if_neg h4]
   have hd := Int.mul_ediv_add_emod v.n p.param
   have he0 := Int.emod_nonneg v.n (show p.param ≠ 0 by omega)
   have he1 := Int.emod_lt_of_pos v.n (show 0 < p.param by omega)
   have hc : v.n / p.param * p.param = v.n - v.n % p.param := by rw [Int.mul_comm]; omega
   rw [hc]
   exact ⟨hl.it, by show _ ≤ max _ _ ∧ max _ _ ≤ _; omega, fun _ => hsc, by show v.s.size < _; omega⟩
 rw [if_neg k3]
 have h4 : 4 ≤ p.kind := by have := hk.lo; omega
 obtain ⟨m0, m1⟩ := hl.mom (htim h4)
 have hy := Tm.years_of (s := v.n) (by omega) (by omega)
 obtain ⟨f, _⟩ := Tm.civ_ok (s := v.n) (by omega) (by omega)
 have f0 := f.m0
 have f1 := f.m1
 have hy0 : 0 ≤ (Tm.civ v.n).year := hy.1
 have hy1 : (Tm.civ v.n).year ≤ 10000 := hy.2
 split
 ·exact num _ (by omega) (by omega)
 split
 ·exact num _ (by omega) (by omega)
 split
 ·exact num _ (by omega) (by omega)
 ·exact num _ (by omega) (by omega)
theorem Mj (p : aR) (v : ac) (hv : bO v < 10000000) : ∃ x, iC p v = some x ∧ gQ p v = some x ∧ Sm x := by
 obtain ⟨x, h1, h2, h3⟩ := JW p v hv
 refine ⟨x, h1, h2, ?_⟩
 rcases h3 with rfl | ⟨h, hl, hk, rfl⟩
 ·exact ⟨rfl, by decide, fun h => absurd h (by decide : (0 : Int) ≠ 3), (by decide : (0 : Nat) < 100000000)⟩
 ·exact KD hl hk
end Go.Proofs.YtbfekiekbifgcaaGreatDoor
namespace Go.Proofs.YtbfekiekbifgcaaGreatDoor.Ord
open Go Go.SX Go.SX.Cal
theorem af {β : Type} (x y : Option β) : aA true x y = x := rfl
theorem ae {β : Type} (x y : Option β) : aA false x y = y := rfl
theorem au {β : Type} (b : Bool) (x y : Option β) : aA b x y = if b = true then x else y := by cases b <;> rfl
theorem aI : aV = 1152921504606846976 := rfl
theorem wu {x : Int} : IntKind.u64.wrap x = x % 18446744073709551616 := by
 simp only [IntKind.wrap, IntKind.bits, IntKind.signed]
 simp
structure W4 (w : bg) : Prop where
 a0 : 0 ≤ w.size.1
 a1 : w.size.1 < 18446744073709551616
 b0 : 0 ≤ w.size.2.1
 b1 : w.size.2.1 < 18446744073709551616
 c0 : 0 ≤ w.size.2.2.1
 c1 : w.size.2.2.1 < 18446744073709551616
 d0 : 0 ≤ w.size.2.2.2
 d1 : w.size.2.2.2 < 18446744073709551616
def val (w : bg) : Int := w.size.1 + w.size.2.1 * 18446744073709551616 + w.size.2.2.1 * 340282366920938463463374607431768211456 + w.size.2.2.2 * 6277101735386680763835789423207666416102355444464034512896
theorem uB {x : Int} (h0 : 0 ≤ x) (h1 : x < 18446744073709551616) : ((BitVec.ofInt (IntKind.u64).bits x &&& BitVec.ofInt (IntKind.u64).bits (4294967295 : Int)).toNat : Int) = x % 4294967296 := by
 have e : (BitVec.ofInt 64 x).toNat = x.toNat := by
  rw [BitVec.toNat_ofInt]
  have : x % ((2 ^ 64 : Nat) : Int) = x := by omega
  rw [this]
 have hand : (BitVec.ofInt 64 x &&& BitVec.ofInt 64 (4294967295 : Int)).toNat = x.toNat % 4294967296 := by
  rw [BitVec.toNat_and, e]
  have : (BitVec.ofInt 64 (4294967295 : Int)).toNat = 2 ^ 32 - 1 := by decide
  rw [this, Nat.and_two_pow_sub_one_eq_mod]
 show ((BitVec.ofInt 64 x &&& BitVec.ofInt 64 (4294967295 : Int)).toNat : Int) = _
 rw [hand]
 omega
theorem Ly (x : Int) : x.fdiv (2 ^ (min (32 : Int).toNat (IntKind.u64).bits)) = x / 4294967296 := by
 have : (2 : Int) ^ (min (32 : Int).toNat (IntKind.u64).bits) = 4294967296 := by decide
 rw [this, Int.fdiv_eq_ediv_of_nonneg _ (by decide)]
theorem yu {x : Int} (h0 : 0 ≤ x) (h1 : x < 18446744073709551616) : x % 18446744073709551616 = x := Int.emod_eq_of_lt h0 h1
theorem prod_bound {a b : Int} (a0 : 0 ≤ a) (a1 : a < 4294967296) (b0 : 0 ≤ b) (b1 : b < 4294967296) : 0 ≤ a * b ∧ a * b ≤ 18446744065119617025 := by
 refine ⟨Int.mul_nonneg a0 b0, ?_⟩
 have h1 : a * b ≤ 4294967295 * b := Int.mul_le_mul_of_nonneg_right (by omega) b0
 omega
theorem B0 (p11 cj p01 p00 : Int) (h11 : 0 ≤ p11 ∧ p11 ≤ 18446744065119617025) (h10 : 0 ≤ cj ∧ cj ≤ 18446744065119617025) (h01 : 0 ≤ p01 ∧ p01 ≤ 18446744065119617025) (h00 : 0 ≤ p00 ∧ p00 ≤ 18446744065119617025) :
  p11 + (cj + p00 / 4294967296) / 4294967296 + ((cj + p00 / 4294967296) % 4294967296 + p01) / 4294967296 = (p11 * 18446744073709551616 + (cj + p01) * 4294967296 + p00) / 18446744073709551616 := by
 omega
theorem qU {x y : Int} (h0 : 0 ≤ x) (h1 : x < 18446744073709551616) (k0 : 0 ≤ y) (k1 : y < 18446744073709551616) : ez x y = some (x * y / 18446744073709551616, x * y % 18446744073709551616) := by
 unfold ez
 simp only [ar, Ly]
 rw [uB h0 h1, uB k0 k1]
 simp only [wu]
 have hx0 : 0 ≤ x % 4294967296 ∧ x % 4294967296 < 4294967296 := by omega
 have hx1 : 0 ≤ x / 4294967296 ∧ x / 4294967296 < 4294967296 := by omega
 have hy0 : 0 ≤ y % 4294967296 ∧ y % 4294967296 < 4294967296 := by omega
 have hy1 : 0 ≤ y / 4294967296 ∧ y / 4294967296 < 4294967296 := by omega
 have ex : x = x / 4294967296 * 4294967296 + x % 4294967296 := by omega
 have ey : y = y / 4294967296 * 4294967296 + y % 4294967296 := by omega
 have exy : x * y = (x / 4294967296 * (y / 4294967296)) * 18446744073709551616 + (x / 4294967296 * (y % 4294967296) + x % 4294967296 * (y / 4294967296)) * 4294967296 + x % 4294967296 * (y % 4294967296) := by
  generalize x / 4294967296 = x1 at *
  generalize x % 4294967296 = x0 at *
  generalize y / 4294967296 = y1 at *
  generalize y % 4294967296 = y0 at *
  rw [ex, ey]
  simp only [Int.add_mul, Int.mul_add]
  have e1 : x1 * 4294967296 * (y1 * 4294967296) = x1 * y1 * 18446744073709551616 := by
   rw [Int.mul_assoc, Int.mul_left_comm 4294967296 y1, ← Int.mul_assoc]; rfl
  have e2 : x1 * 4294967296 * y0 = x1 * y0 * 4294967296 := by rw [Int.mul_assoc, Int.mul_comm 4294967296, ← Int.mul_assoc]
  have e3 : x0 * (y1 * 4294967296) = x0 * y1 * 4294967296 := by rw [Int.mul_assoc]
  rw [e1, e2, e3]; omega
 have b11 := prod_bound hx1.1 hx1.2 hy1.1 hy1.2
 have b10 := prod_bound hx1.1 hx1.2 hy0.1 hy0.2
 have b01 := prod_bound hx0.1 hx0.2 hy1.1 hy1.2
 have b00 := prod_bound hx0.1 hx0.2 hy0.1 hy0.2
 rw [yu (x := x % 4294967296) (by omega) (by omega), yu (x := y % 4294967296) (by omega) (by omega)]
 have L := B0 _ _ _ _ b11 b10 b01 b00
 rw [exy]
 generalize x / 4294967296 * (y / 4294967296) = p11 at *
 generalize x / 4294967296 * (y % 4294967296) = cj at *
 generalize x % 4294967296 * (y / 4294967296) = p01 at *
 generalize x % 4294967296 * (y % 4294967296) = p00 at *
 rw [yu (x := cj) (by omega) (by omega), yu (x := p00) (by omega) (by omega), yu (x := p01) (by omega) (by omega), yu (x := p11) (by omega) (by omega), yu (x := cj + p00 / 4294967296) (by omega) (by omega)]
 rw [uB (x := cj + p00 / 4294967296) (by omega) (by omega)]
 rw [yu (x := (cj + p00 / 4294967296) % 4294967296) (by omega) (by omega), yu (x := (cj + p00 / 4294967296) % 4294967296 + p01) (by omega) (by omega)]
 rw [yu (x := p11 + (cj + p00 / 4294967296) / 4294967296) (by omega) (by omega), yu (x := p11 + (cj + p00 / 4294967296) / 4294967296 + ((cj + p00 / 4294967296) % 4294967296 + p01) / 4294967296) (by omega) (by omega), L]
theorem kT {x n c : Int} (h0 : 0 ≤ x) (h1 : x < 18446744073709551616) (n0 : 0 ≤ n) (n1 : n < 18446744073709551616) (c0 : 0 ≤ c) (c1 : c < 18446744073709551616) :
  (x * n / 18446744073709551616 + (x * n % 18446744073709551616 + c) / 18446744073709551616) % 18446744073709551616 = (x * n + c) / 18446744073709551616 ∧ (x * n % 18446744073709551616 + c) % 18446744073709551616 = (x * n + c) % 18446744073709551616 ∧ 0 ≤ (x * n + c) / 18446744073709551616 ∧ (x * n + c) / 18446744073709551616 < 18446744073709551616 := by
 have hp : 0 ≤ x * n := Int.mul_nonneg h0 n0
 have hq : x * n ≤ 18446744073709551615 * n := Int.mul_le_mul_of_nonneg_right (by omega) n0
 have hq2 : (18446744073709551615 : Int) * n ≤ 18446744073709551615 * 18446744073709551615 := Int.mul_le_mul_of_nonneg_left (by omega) (by decide)
 have hb : x * n ≤ 340282366920938463426481119284349108225 := by
  refine Int.le_trans hq (Int.le_trans hq2 (by decide))
 generalize x * n = p at *
 omega
theorem zk {w : bg} {n : Int} (h : W4 w) (n0 : 0 ≤ n) (n1 : n < 18446744073709551616) (hv : val w * n < 115792089237316195423570985008687907853269984665640564039457584007913129639936) :
  ∃ w', bP w n = some w' ∧ W4 w' ∧ val w' = val w * n ∧ w'.neg = w.neg := by
 obtain ⟨neg, x0, x1, x2, x3⟩ := w
 obtain ⟨a0, a1, b0, b1, c0, c1, d0, d1⟩ := h
 simp only at a0 a1 b0 b1 c0 c1 d0 d1
 unfold bP
 simp only
 rw [qU a0 a1 n0 n1, qU b0 b1 n0 n1, qU c0 c1 n0 n1, qU d0 d1 n0 n1]
 simp only [ar, wu]
 have hval : val ⟨neg, x0, x1, x2, x3⟩ * n = x0 * n + x1 * n * 18446744073709551616 + x2 * n * 340282366920938463463374607431768211456 + x3 * n * 6277101735386680763835789423207666416102355444464034512896 := by
  unfold val
  simp only [Int.add_mul]
  rw [Int.mul_right_comm x1, Int.mul_right_comm x2, Int.mul_right_comm x3]
 rw [hval] at hv ⊢
 obtain ⟨p1, p2, p3, p4⟩ := kT (c := 0) a0 a1 n0 n1 (by decide) (by decide)
 simp only [Int.add_zero] at p1 p2 p3 p4 ⊢
 rw [p1, p2]
 generalize hc1 : x0 * n / 18446744073709551616 = k1 at *
 obtain ⟨q1, q2, q3, q4⟩ := kT (c := k1) b0 b1 n0 n1 p3 p4
 rw [q1, q2]
 generalize hc2 : (x1 * n + k1) / 18446744073709551616 = k2 at *
 obtain ⟨r1, r2, r3, r4⟩ := kT (c := k2) c0 c1 n0 n1 q3 q4
 rw [r1, r2]
 generalize hc3 : (x2 * n + k2) / 18446744073709551616 = k3 at *
 obtain ⟨s1, s2, s3, s4⟩ := kT (c := k3) d0 d1 n0 n1 r3 r4
 rw [s2]
 have e0 := Int.mul_nonneg a0 n0
 have e1 := Int.mul_nonneg b0 n0
 have e2 := Int.mul_nonneg c0 n0
 have e3 := Int.mul_nonneg d0 n0
 clear p1 p2 q1 q2 r1 r2 s1 s2
 generalize x0 * n = P0 at *
 generalize x1 * n = P1 at *
 generalize x2 * n = P2 at *
 generalize x3 * n = P3 at *
 rw [aJ (by omega), aJ (by omega), aJ (by omega), aJ (by omega)]
 refine ⟨_, rfl, ⟨by simp only; omega, by simp only; omega, by simp only; omega, by simp only; omega, by simp only; omega, by simp only; omega, by simp only; omega, by simp only; omega⟩, ?_, rfl⟩
 simp only [val]
 have f0 : P0 = k1 * 18446744073709551616 + P0 % 18446744073709551616 := by omega
 have f1 : P1 + k1 = k2 * 18446744073709551616 + (P1 + k1) % 18446744073709551616 := by omega
 have f2 : P2 + k2 = k3 * 18446744073709551616 + (P2 + k2) % 18446744073709551616 := by omega
 have f3 : P3 + k3 = (P3 + k3) / 18446744073709551616 * 18446744073709551616 + (P3 + k3) % 18446744073709551616 := by omega
 have z : (P3 + k3) / 18446744073709551616 = 0 := by
  generalize P0 % 18446744073709551616 = m0 at *
  generalize (P1 + k1) % 18446744073709551616 = m1 at *
  generalize (P2 + k2) % 18446744073709551616 = m2 at *
  omega
 rw [z] at f3
 generalize P0 % 18446744073709551616 = m0 at *
 generalize (P1 + k1) % 18446744073709551616 = m1 at *
 generalize (P2 + k2) % 18446744073709551616 = m2 at *
 generalize (P3 + k3) % 18446744073709551616 = m3 at *
 omega
def cj : Nat → Int
 | 0 => 1
 | k + 1 => cj k * 10
theorem mm : ∀ k, 1 ≤ cj k
 | 0 => by decide
 | k + 1 => by have := mm k; simp only [cj]; omega
theorem Bb {d : Int} (hd : d ≤ 100) : ∀ (j k : Nat) (neg : Bool) (x0 x1 x2 x3 : Int) (i : Int), W4 ⟨neg, x0, x1, x2, x3⟩ → val ⟨neg, x0, x1, x2, x3⟩ * cj j < 115792089237316195423570985008687907853269984665640564039457584007913129639936 → 0 ≤ val ⟨neg, x0, x1, x2, x3⟩ → 0 ≤ i → i + j = d → j < k →
  ∃ w', bG d k neg x0 x1 x2 x3 i = some w' ∧ W4 w' ∧ val w' = val ⟨neg, x0, x1, x2, x3⟩ * cj j ∧ w'.neg = neg := by
 intro j
 induction j with
 | zero =>
  intro k neg x0 x1 x2 x3 i hw hv hv0 hi hij hk
  match k, hk with
  | k + 1, hk =>
   rw [bG, show decide (i < d) = false by simp; omega, ae]
   exact ⟨_, rfl, hw, by simp [cj], rfl⟩
 | succ j ih =>
  intro k neg x0 x1 x2 x3 i hw hv hv0 hi hij hk
  match k, hk with
  | k + 1, hk =>
   rw [bG, show decide (i < d) = true by simp; omega, af]
   have hp := mm j
   have hstep : val ⟨neg, x0, x1, x2, x3⟩ * cj (j + 1) = val ⟨neg, x0, x1, x2, x3⟩ * 10 * cj j := by
    simp only [cj]; rw [Int.mul_comm (cj j) 10, Int.mul_assoc]
   have hle : val ⟨neg, x0, x1, x2, x3⟩ * 10 * 1 ≤ val ⟨neg, x0, x1, x2, x3⟩ * 10 * cj j := Int.mul_le_mul_of_nonneg_left hp (by omega)
   obtain ⟨w1, h1, h2, h3, h4⟩ := zk hw (show (0 : Int) ≤ 10 by decide) (by decide) (by rw [hstep] at hv; omega)
   rw [h1]
   simp only [ar]
   obtain ⟨n1, y0, y1, y2, y3⟩ := w1
   simp only at h4 ⊢
   subst h4
   rw [fi (by omega) (by omega)]
   obtain ⟨w2, g1, g2, g3, g4⟩ := ih k n1 y0 y1 y2 y3 (i + 1) h2 (by rw [h3, ← hstep]; exact hv) (by rw [h3]; omega) (by omega) (by omega) (by omega)
   exact ⟨w2, g1, g2, by rw [g3, h3, hstep], g4⟩
theorem AL {n d : Int} (h1 : -9223372036854775808 ≤ n) (h2 : n ≤ 9223372036854775807) (d0 : 0 ≤ d) (d1 : d ≤ 12) :
  ∃ w, iQ n d = some w ∧ W4 w ∧ val w = (if n < 0 then -n else n) * cj d.toNat ∧ w.neg = decide (n < 0) ∧ val w < 57896044618658097711785492504343953926634992332820282019728792003956564819968 := by
 have hp : cj d.toNat ≤ 1000000000000 := by
  have hc : d = 0 ∨ d = 1 ∨ d = 2 ∨ d = 3 ∨ d = 4 ∨ d = 5 ∨ d = 6 ∨ d = 7 ∨ d = 8 ∨ d = 9 ∨ d = 10 ∨ d = 11 ∨ d = 12 := by omega
  rcases hc with rfl | rfl | rfl | rfl | rfl | rfl | rfl | rfl | rfl | rfl | rfl | rfl | rfl <;> decide
 have hp1 := mm d.toNat
 have key : ∀ (neg : Bool) (a : Int), 0 ≤ a → a ≤ 9223372036854775808 → ∃ w, hO ⟨neg, a, 0, 0, 0⟩ d = some w ∧ W4 w ∧ val w = a * cj d.toNat ∧ w.neg = neg ∧ val w < 57896044618658097711785492504343953926634992332820282019728792003956564819968 := by
  intro neg a a0 a1
  have hv : val ⟨neg, a, 0, 0, 0⟩ = a := by simp [val]
  have hb : a * cj d.toNat ≤ 9223372036854775808 * 1000000000000 := by
   refine Int.le_trans (Int.mul_le_mul_of_nonneg_right a1 (by omega)) (Int.mul_le_mul_of_nonneg_left hp (by decide))
  have hb2 : a * cj d.toNat ≤ 9223372036854775808000000000000 := Int.le_trans hb (by decide)
  unfold hO
  obtain ⟨w, g1, g2, g3, g4⟩ := Bb (d := d) (by omega) d.toNat aV neg a 0 0 0 0 ⟨a0, by simp only; omega, by simp, by simp, by simp, by simp, by simp, by simp⟩ (by rw [hv]; omega) (by rw [hv]; exact a0) (by decide) (by omega) (by rw [aI]; omega)
  exact ⟨w, g1, g2, by rw [g3, hv], g4, by rw [g3, hv]; omega⟩
 unfold iQ l0
 by_cases hn : n < 0
 ·rw [show decide (n < 0) = true by simpa using hn, af]
  simp only [ar, wu]
  have e : (0 - n % 18446744073709551616) % 18446744073709551616 = -n := by omega
  rw [e]
  obtain ⟨w, g1, g2, g3, g4, g5⟩ := key true (-n) (by omega) (by omega)
  rw [g1]
  simp only [ar]
  exact ⟨_, rfl, g2, by rw [if_pos hn]; exact g3, g4, g5⟩
 ·rw [show decide (n < 0) = false by simpa using hn, ae]
  simp only [ar, wu]
  rw [yu (by omega) (by omega)]
  obtain ⟨w, g1, g2, g3, g4, g5⟩ := key false n (by omega) (by omega)
  rw [g1]
  simp only [ar]
  exact ⟨_, rfl, g2, by rw [if_neg hn]; exact g3, g4, g5⟩
end Go.Proofs.YtbfekiekbifgcaaGreatDoor.Ord
namespace Go.Proofs.YtbfekiekbifgcaaGreatDoor.Ord
open Go Go.SX Go.SX.Cal
def c3 (a b : Int) : Int := if a < b then -1 else if b < a then 1 else 0
def sv (w : bg) : Int := if w.neg = true then -val w else val w
theorem zT {a b : bg} (ha : W4 a) (hb : W4 b) : dY a b = some (c3 (val a) (val b)) := by
 obtain ⟨n, x0, x1, x2, x3⟩ := a
 obtain ⟨m, y0, y1, y2, y3⟩ := b
 obtain ⟨a0, a1, b0, b1, c0, c1, d0, d1⟩ := ha
 obtain ⟨e0, e1, f0, f1, g0, g1, h0, h1⟩ := hb
 simp only at *
 unfold dY
 simp only [au, decide_eq_true_eq]
 unfold c3 val
 simp only
 by_cases q3 : x3 < y3
 ·rw [if_pos q3, if_pos (by omega)]
 rw [if_neg q3]
 by_cases q3' : y3 < x3
 ·rw [if_pos q3', if_neg (by omega), if_pos (by omega)]
 rw [if_neg q3']
 by_cases q2 : x2 < y2
 ·rw [if_pos q2, if_pos (by omega)]
 rw [if_neg q2]
 by_cases q2' : y2 < x2
 ·rw [if_pos q2', if_neg (by omega), if_pos (by omega)]
 rw [if_neg q2']
 by_cases q1 : x1 < y1
 ·rw [if_pos q1, if_pos (by omega)]
 rw [if_neg q1]
 by_cases q1' : y1 < x1
 ·rw [if_pos q1', if_neg (by omega), if_pos (by omega)]
 rw [if_neg q1']
 by_cases q0 : x0 < y0
 ·rw [if_pos q0, if_pos (by omega)]
 rw [if_neg q0]
 by_cases q0' : y0 < x0
 ·rw [if_pos q0', if_neg (by omega), if_pos (by omega)]
 rw [if_neg q0', if_neg (by omega), if_neg (by omega)]
def nS (w : bg) : Prop := w.size.1 = 0 ∧ w.size.2.1 = 0 ∧ w.size.2.2.1 = 0 ∧ w.size.2.2.2 = 0
instance (w : bg) : Decidable (nS w) := by unfold nS; infer_instance
theorem vP (n m : Bool) (h : ¬ n = m) : (!(n == m)) = true ∧ (!m) = n := by revert h; cases n <;> cases m <;> simp
theorem Jt (w : bg) : lM w = some (decide (nS w)) := by
 unfold lM nS
 simp only [ar]
 congr 1
 by_cases h1 : w.size.1 = 0 <;> by_cases h2 : w.size.2.1 = 0 <;> by_cases h3 : w.size.2.2.1 = 0 <;> by_cases h4 : w.size.2.2.2 = 0 <;> simp [h1, h2, h3, h4]
theorem E2 {b1 b6 : Bool} {x0 x1 x2 x3 y0 y1 y2 y3 : Int} (ha : W4 ⟨b1, x0, x1, x2, x3⟩) (hb : W4 ⟨b6, y0, y1, y2, y3⟩) :
  ∃ w, dp b1 x0 x1 x2 x3 b6 y0 y1 y2 y3 = some w ∧ w.neg = b1 ∧ (nS w ↔ val ⟨b1, x0, x1, x2, x3⟩ = val ⟨b6, y0, y1, y2, y3⟩) := by
 obtain ⟨a0, a1, b0, b1', c0, c1, d0, d1⟩ := ha
 obtain ⟨e0, e1, f0, f1, g0, g1, h0, h1⟩ := hb
 simp only at *
 unfold dp
 simp only [ar, Int.add_zero, Int.sub_zero]
 have hk : ∀ (p : Prop) [Decidable p], 0 ≤ (if p then (1 : Int) else 0) ∧ (if p then (1 : Int) else 0) ≤ 1 := by
  intro p _; split <;> omega
 have k1 := hk (x0 < y0)
 have e0' : (if x0 < y0 then (1 : Int) else 0) = 0 ↔ ¬ x0 < y0 := by split <;> simp_all
 generalize (if x0 < y0 then (1 : Int) else 0) = u1 at *
 have k2 := hk (x1 < y1 + u1)
 have e1' : (if x1 < y1 + u1 then (1 : Int) else 0) = 0 ↔ ¬ x1 < y1 + u1 := by split <;> simp_all
 generalize (if x1 < y1 + u1 then (1 : Int) else 0) = u2 at *
 have k3 := hk (x2 < y2 + u2)
 have e2' : (if x2 < y2 + u2 then (1 : Int) else 0) = 0 ↔ ¬ x2 < y2 + u2 := by split <;> simp_all
 generalize (if x2 < y2 + u2 then (1 : Int) else 0) = u3 at *
 rw [aJ (by omega), aJ (by omega), aJ (by omega), aJ (by omega)]
 refine ⟨_, rfl, rfl, ?_⟩
 simp only [nS, val]
 constructor
 ·rintro ⟨z0, z1, z2, z3⟩
  have q0 : x0 = y0 := by omega
  have q1 : u1 = 0 := by rw [e0']; omega
  have q2 : x1 = y1 := by omega
  have q3 : u2 = 0 := by rw [e1']; omega
  have q4 : x2 = y2 := by omega
  have q5 : u3 = 0 := by rw [e2']; omega
  have q6 : x3 = y3 := by omega
  omega
 ·intro hv
  have q3 : x3 = y3 := by omega
  have q2 : x2 = y2 := by omega
  have q1 : x1 = y1 := by omega
  have q0 : x0 = y0 := by omega
  have r1 : u1 = 0 := by rw [e0']; omega
  have r2 : u2 = 0 := by rw [e1']; omega
  have r3 : u3 = 0 := by rw [e2']; omega
  subst q0 q1 q2 q3 r1 r2 r3
  simp
theorem F9 {k : Nat} {b : Bool} {x0 x1 x2 x3 y0 y1 y2 y3 : Int} (ha : W4 ⟨b, x0, x1, x2, x3⟩) (hb : W4 ⟨b, y0, y1, y2, y3⟩) (hv : val ⟨b, x0, x1, x2, x3⟩ + val ⟨b, y0, y1, y2, y3⟩ < 115792089237316195423570985008687907853269984665640564039457584007913129639936) :
  ∃ w, cO (k + 1) ⟨b, x0, x1, x2, x3⟩ ⟨b, y0, y1, y2, y3⟩ = some w ∧ w.neg = b ∧ (nS w ↔ val ⟨b, x0, x1, x2, x3⟩ + val ⟨b, y0, y1, y2, y3⟩ = 0) := by
 obtain ⟨a0, a1, b0, b1', c0, c1, d0, d1⟩ := ha
 obtain ⟨e0, e1, f0, f1, g0, g1, h0, h1⟩ := hb
 simp only at *
 rw [cO]
 simp only [beq_self_eq_true, Bool.not_true, ae, ar, Int.add_zero]
 simp only [val] at hv ⊢
 have m0 : x0 + y0 = (x0 + y0) / 18446744073709551616 * 18446744073709551616 + (x0 + y0) % 18446744073709551616 := by omega
 have u0 : 0 ≤ (x0 + y0) / 18446744073709551616 ∧ (x0 + y0) / 18446744073709551616 ≤ 1 := by omega
 have v0 : 0 ≤ (x0 + y0) % 18446744073709551616 := by omega
 generalize (x0 + y0) / 18446744073709551616 = t0 at *
 generalize (x0 + y0) % 18446744073709551616 = r0 at *
 have m1 : x1 + y1 + t0 = (x1 + y1 + t0) / 18446744073709551616 * 18446744073709551616 + (x1 + y1 + t0) % 18446744073709551616 := by omega
 have u1 : 0 ≤ (x1 + y1 + t0) / 18446744073709551616 ∧ (x1 + y1 + t0) / 18446744073709551616 ≤ 1 := by omega
 have v1 : 0 ≤ (x1 + y1 + t0) % 18446744073709551616 := by omega
 generalize (x1 + y1 + t0) / 18446744073709551616 = t1 at *
 generalize (x1 + y1 + t0) % 18446744073709551616 = r1 at *
 have m2 : x2 + y2 + t1 = (x2 + y2 + t1) / 18446744073709551616 * 18446744073709551616 + (x2 + y2 + t1) % 18446744073709551616 := by omega
 have u2 : 0 ≤ (x2 + y2 + t1) / 18446744073709551616 ∧ (x2 + y2 + t1) / 18446744073709551616 ≤ 1 := by omega
 have v2 : 0 ≤ (x2 + y2 + t1) % 18446744073709551616 := by omega
 generalize (x2 + y2 + t1) / 18446744073709551616 = t2 at *
 generalize (x2 + y2 + t1) % 18446744073709551616 = r2 at *
 have m3 : x3 + y3 + t2 = (x3 + y3 + t2) / 18446744073709551616 * 18446744073709551616 + (x3 + y3 + t2) % 18446744073709551616 := by omega
 have u3 : 0 ≤ (x3 + y3 + t2) / 18446744073709551616 ∧ (x3 + y3 + t2) / 18446744073709551616 ≤ 1 := by omega
 have v3 : 0 ≤ (x3 + y3 + t2) % 18446744073709551616 := by omega
 generalize (x3 + y3 + t2) / 18446744073709551616 = t3 at *
 generalize (x3 + y3 + t2) % 18446744073709551616 = r3 at *
 rw [aJ (by omega), aJ (by omega), aJ (by omega), aJ (by omega)]
 refine ⟨_, rfl, rfl, ?_⟩
 simp only [nS]
 constructor
 ·rintro ⟨z0, z1, z2, z3⟩
  have : t3 = 0 := by omega
  omega
 ·intro hz
  refine ⟨by omega, by omega, by omega, by omega⟩
theorem Dm {a b : bg} (ha : W4 a) (hb : W4 b) (va : val a < 57896044618658097711785492504343953926634992332820282019728792003956564819968) (vb : val b < 57896044618658097711785492504343953926634992332820282019728792003956564819968)
  (na : a.neg = true → 0 < val a) (nb : b.neg = true → 0 < val b) : gU a b = some (c3 (sv a) (sv b)) := by
 have pa : 0 ≤ val a := by obtain ⟨a0, a1, b0, b1, c0, c1, d0, d1⟩ := ha; unfold val; omega
 have pb : 0 ≤ val b := by obtain ⟨a0, a1, b0, b1, c0, c1, d0, d1⟩ := hb; unfold val; omega
 obtain ⟨n, x0, x1, x2, x3⟩ := a
 obtain ⟨m, y0, y1, y2, y3⟩ := b
 have hany : ∀ (q : Bool), W4 ⟨q, y0, y1, y2, y3⟩ := fun q => ⟨hb.1, hb.2, hb.3, hb.4, hb.5, hb.6, hb.7, hb.8⟩
 have hval : ∀ (q q' : Bool) (z0 z1 z2 z3 : Int), val ⟨q, z0, z1, z2, z3⟩ = val ⟨q', z0, z1, z2, z3⟩ := fun _ _ _ _ _ _ => rfl
 unfold gU
 simp only [Jt]
 have hB : aV = 1152921504606846974 + 1 + 1 := rfl
 rw [hB, dV]
 simp only
 by_cases hs : n = m
 ·subst hs
  simp only [beq_self_eq_true, Bool.not_true, ae]
  rw [zT ha hb]
  simp only [ar]
  by_cases hlt : val ⟨n, x0, x1, x2, x3⟩ < val ⟨n, y0, y1, y2, y3⟩
  ·have e1 : c3 (val ⟨n, x0, x1, x2, x3⟩) (val ⟨n, y0, y1, y2, y3⟩) = -1 := by unfold c3; rw [if_pos hlt]
   rw [e1, show decide ((-1 : Int) < 0) = true from rfl, af]
   unfold dH
   simp only [ar]
   obtain ⟨w, g1, g2, g3⟩ := E2 (b6 := n) (hany (!n)) ha
   rw [g1]
   simp only [ar]
   have hz : ¬ nS w := fun h => by
    have := g3.1 h
    have e2 := hval (!n) n y0 y1 y2 y3
    omega
   have hz' : ¬ nS ⟨w.neg, w.size.1, w.size.2.1, w.size.2.2.1, w.size.2.2.2⟩ := hz
   rw [show decide (nS ⟨w.neg, w.size.1, w.size.2.1, w.size.2.2.1, w.size.2.2.2⟩) = false by simpa using hz', ae, g2]
   unfold sv
   cases n with
   | true => simp only [Bool.not_true, ae, if_true]; unfold c3; rw [if_neg (by omega), if_pos (by omega)]
   | false => simp only [Bool.not_false, af, Bool.false_eq_true, if_false]; unfold c3; rw [if_pos (by omega)]
  ·have e1 : decide (c3 (val ⟨n, x0, x1, x2, x3⟩) (val ⟨n, y0, y1, y2, y3⟩) < 0) = false := by
    unfold c3; rw [if_neg hlt]; split <;> rfl
   rw [e1, ae]
   obtain ⟨w, g1, g2, g3⟩ := E2 ha hb
   rw [g1]
   simp only [ar]
   have hz : nS ⟨w.neg, w.size.1, w.size.2.1, w.size.2.2.1, w.size.2.2.2⟩ ↔ val ⟨n, x0, x1, x2, x3⟩ = val ⟨n, y0, y1, y2, y3⟩ := g3
   by_cases heq : val ⟨n, x0, x1, x2, x3⟩ = val ⟨n, y0, y1, y2, y3⟩
   ·rw [show decide (nS ⟨w.neg, w.size.1, w.size.2.1, w.size.2.2.1, w.size.2.2.2⟩) = true by simpa using hz.2 heq, af]
    unfold sv
    simp only
    rw [heq]
    unfold c3; rw [if_neg (by omega), if_neg (by omega)]
   ·rw [show decide (nS ⟨w.neg, w.size.1, w.size.2.1, w.size.2.2.1, w.size.2.2.2⟩) = false by simpa using fun h => heq (hz.1 h), ae, g2]
    unfold sv
    cases n with
    | true => simp only [af, if_true]; unfold c3; rw [if_pos (by omega)]
    | false => simp only [ae, Bool.false_eq_true, if_false]; unfold c3; rw [if_neg (by omega), if_pos (by omega)]
 ·have hsb : (!(n == m)) = true := (vP n m hs).1
  rw [hsb, af]
  unfold dH
  simp only [ar]
  have hnm : (!m) = n := (vP n m hs).2
  rw [hnm]
  obtain ⟨w, g1, g2, g3⟩ := F9 (k := 1152921504606846974) ha (hany n) (by have := hval n m y0 y1 y2 y3; omega)
  rw [g1]
  simp only [ar]
  have hz : nS ⟨w.neg, w.size.1, w.size.2.1, w.size.2.2.1, w.size.2.2.2⟩ ↔ val ⟨n, x0, x1, x2, x3⟩ + val ⟨n, y0, y1, y2, y3⟩ = 0 := g3
  have hpos : ¬ val ⟨n, x0, x1, x2, x3⟩ + val ⟨n, y0, y1, y2, y3⟩ = 0 := by
   have e := hval n m y0 y1 y2 y3
   cases n with
   | true => have := na rfl; omega
   | false =>
    have : m = true := by simpa using hnm
    have := nb this
    omega
  rw [show decide (nS ⟨w.neg, w.size.1, w.size.2.1, w.size.2.2.1, w.size.2.2.2⟩) = false by simpa using fun h => hpos (hz.1 h), ae, g2]
  unfold sv
  cases n with
  | true =>
   have : m = false := by simpa using hnm
   subst this
   have := na rfl
   simp only [af, if_true, Bool.false_eq_true, if_false]; unfold c3; rw [if_pos (by omega)]
  | false =>
   have : m = true := by simpa using hnm
   subst this
   have := nb rfl
   simp only [ae, if_true, Bool.false_eq_true, if_false]; unfold c3; rw [if_neg (by omega), if_pos (by omega)]
end Go.Proofs.YtbfekiekbifgcaaGreatDoor.Ord
namespace Go.Proofs.YtbfekiekbifgcaaGreatDoor.Ord
open Go Go.SX Go.SX.Cal
def qk (x y : Int) : Int := if x ≠ 0 then x else y
def cS (s t : ByteArray) : Int := if Op.bytesLess s.toList t.toList = true then -1 else if s.toList = t.toList then 0 else 1
def Dy (sc : Int) : Prop := 0 ≤ sc ∧ sc ≤ 12
instance (sc : Int) : Decidable (Dy sc) := by unfold Dy; infer_instance
def vV (k : Int) : Int := if k = 0 then 1 else 0
def ui (k sc : Int) : Int := if k = 3 ∧ ¬ Dy sc then 1 else 0
def zX (k sc n : Int) : Int := if k = 3 ∧ Dy sc then n * cj (12 - sc).toNat else n
mutual
def cmpV : ac → ac → Int
 | ⟨k, n, sc, s, it⟩, b => qk (c3 (vV k) (vV b.kind)) (qk (c3 k b.kind) (if k = 0 then 0 else qk (c3 (ui k sc) (ui b.kind b.scale)) (qk (c3 (zX k sc n) (zX b.kind b.scale b.n)) (qk (c3 sc b.scale) (qk (cS s b.s) (lz it b.items))))))
def lz : List ac → List ac → Int
 | [], m => match m with
  | [] => 0
  | _ :: _ => -1
 | x :: l, m => match m with
  | [] => 1
  | y :: ys => qk (cmpV x y) (lz l ys)
end
def i64 (x : Int) : Prop := -9223372036854775808 ≤ x ∧ x ≤ 9223372036854775807
mutual
def wfV : ac → Prop
 | ⟨k, n, sc, _, it⟩ => i64 k ∧ i64 n ∧ i64 sc ∧ wfL it
def wfL : List ac → Prop
 | [] => True
 | x :: l => wfV x ∧ wfL l
end
theorem wU : ∀ {l : List ac} {x : ac}, wfL l → x ∈ l → wfV x
 | [], _, _, h => by cases h
 | y :: l, x, hw, h => by
  simp only [wfL] at hw
  rcases List.mem_cons.1 h with rfl | h
  ·exact hw.1
  ·exact wU hw.2 h
theorem cY : ∀ {l : List ac} {x : ac}, x ∈ l → bO x ≤ sizeL l
 | [], _, h => by cases h
 | y :: l, x, h => by
  simp only [sizeL]
  rcases List.mem_cons.1 h with rfl | h
  ·omega
  ·have := cY h; omega
theorem js : ∀ v : ac, 1 ≤ bO v
 | ⟨_, _, _, _, _⟩ => by simp only [bO]; omega
theorem cP : ∀ l : List ac, l.length ≤ sizeL l
 | [] => by simp [sizeL]
 | x :: l => by
  have := cP l
  have := js x
  simp only [sizeL, List.length_cons]; omega
theorem HD (a b : Int) : iw a b = some (c3 a b) := by
 unfold iw nD c3
 simp only [ar, bne_self_eq_false, ae]
 by_cases h : a < b
 ·simp [h, au]
 ·by_cases k : b < a <;> simp [h, k, au]
theorem MG (a b : ByteArray) : jK a b = some (cS a b) := by
 unfold jK lf cS
 simp only [ar, beq_self_eq_true, Bool.not_true, ae]
 by_cases h : Op.bytesLess a.toList b.toList = true
 ·simp [h, au]
 ·have h' : Op.bytesLess a.toList b.toList = false := by simpa using h
  by_cases k : a.toList = b.toList
  ·rw [k] at h' ⊢
   simp [h', au]
  ·simp [h', k, au]
theorem wS {p : List Int} {k i : Nat} {x : Int} (h : p[i]? = some x) (hi : i < 1000) : eR p (k + 1) (i : Int) = if x ≠ 0 then some x else eR p k ((i + 1 : Nat) : Int) := by
 have hlt := (List.getElem?_eq_some_iff.1 h).1
 rw [eR, show decide ((i : Int) < (p.length : Int)) = true by simp [hlt], af]
 have : at? p (i : Int) = some x := by unfold at?; simp [h]
 rw [this]
 simp only [ar]
 rw [fi (by omega) (by omega), show (i : Int) + 1 = ((i + 1 : Nat) : Int) by omega]
 by_cases hx : x = 0
 ·simp [hx, au]
 ·simp [hx, au]
theorem HL {p : List Int} {k : Nat} : eR p (k + 1) (p.length : Int) = some 0 := by
 rw [eR, show decide ((p.length : Int) < (p.length : Int)) = false by simp, ae]
 rfl
theorem Og (x y : Int) : kD [x, y] = some (qk x y) := by
 unfold kD qk
 have hB : aV = 1152921504606846973 + 1 + 1 + 1 := rfl
 have h0 := wS (p := [x, y]) (k := 1152921504606846973 + 1 + 1) (i := 0) (x := x) rfl (by decide)
 have h1 := wS (p := [x, y]) (k := 1152921504606846973 + 1) (i := 1) (x := y) rfl (by decide)
 have h2 := HL (p := [x, y]) (k := 1152921504606846973)
 rw [hB]
 refine Eq.trans h0 ?_
 rw [h1]
 refine Eq.trans (b := if x ≠ 0 then some x else if y ≠ 0 then some y else some 0) (by rw [← h2]; rfl) ?_
 by_cases hx : x = 0 <;> by_cases hy : y = 0 <;> simp [hx, hy]
theorem Ox (x y z : Int) : kD [x, y, z] = some (qk x (qk y z)) := by
 unfold kD qk
 have hB : aV = 1152921504606846972 + 1 + 1 + 1 + 1 := rfl
 have h0 := wS (p := [x, y, z]) (k := 1152921504606846972 + 1 + 1 + 1) (i := 0) (x := x) rfl (by decide)
 have h1 := wS (p := [x, y, z]) (k := 1152921504606846972 + 1 + 1) (i := 1) (x := y) rfl (by decide)
 have h2 := wS (p := [x, y, z]) (k := 1152921504606846972 + 1) (i := 2) (x := z) rfl (by decide)
 have h3 := HL (p := [x, y, z]) (k := 1152921504606846972)
 rw [hB]
 refine Eq.trans h0 ?_
 rw [h1, h2]
 refine Eq.trans (b := if x ≠ 0 then some x else if y ≠ 0 then some y else if z ≠ 0 then some z else some 0) (by rw [← h3]; rfl) ?_
 by_cases hx : x = 0 <;> by_cases hy : y = 0 <;> by_cases hz : z = 0 <;> simp [hx, hy, hz]
theorem FZ (f : ac → ac → Option Int) (p1 p2 : List ac) (hl : p1.length < 1000000000000000) (hf : ∀ x ∈ p1, ∀ y ∈ p2, f x y = some (cmpV x y)) : ∀ (k i : Nat), i ≤ p1.length → i ≤ p2.length → p1.length < i + k →
  az f p1 p2 k (i : Int) = some (lz (p1.drop i) (p2.drop i)) := by
 intro k
 induction k with
 | zero => intro i h1 h2 h3; omega
 | succ k ih =>
  intro i h1 h2 h3
  rw [az]
  by_cases hi : i < p1.length
  ·have e1 : p1.drop i = p1[i] :: p1.drop (i + 1) := List.drop_eq_getElem_cons hi
   have a1 : at? p1 (i : Int) = some p1[i] := by unfold at?; simp [hi]
   rw [show decide ((i : Int) < (p1.length : Int)) = true by simp [hi], af, a1, e1]
   simp only [ar]
   by_cases hj : i < p2.length
   ·have e2 : p2.drop i = p2[i] :: p2.drop (i + 1) := List.drop_eq_getElem_cons hj
    have a2 : at? p2 (i : Int) = some p2[i] := by unfold at?; simp [hj]
    rw [show decide ((p2.length : Int) ≤ (i : Int)) = false by simp; omega, ae, a2, e2]
    simp only [ar]
    rw [hf _ (List.getElem_mem hi) _ (List.getElem_mem hj)]
    simp only [ar, lz]
    unfold qk
    by_cases hc : cmpV p1[i] p2[i] = 0
    ·have e : (cmpV p1[i] p2[i] != 0) = false := by simp [hc]
     rw [e, ae, fi (by omega) (by omega), show (i : Int) + 1 = ((i + 1 : Nat) : Int) by omega, ih (i + 1) (by omega) (by omega) (by omega), if_neg (by simp [hc])]
    ·have e : (cmpV p1[i] p2[i] != 0) = true := by simp [hc]
     rw [e, af, if_pos hc]
   ·have e2 : p2.drop i = [] := List.drop_of_length_le (by omega)
    rw [show decide ((p2.length : Int) ≤ (i : Int)) = true by simp; omega, af, e2]
    rfl
  ·have : i = p1.length := by omega
   subst this
   rw [show decide ((p1.length : Int) < (p1.length : Int)) = false by simp, ae, List.drop_length]
   unfold bf
   by_cases hj : p1.length < p2.length
   ·have e2 : p2.drop p1.length = p2[p1.length] :: p2.drop (p1.length + 1) := List.drop_eq_getElem_cons hj
    rw [show decide ((p1.length : Int) < (p2.length : Int)) = true by simp [hj], af, e2]
    rfl
   ·have e2 : p2.drop p1.length = [] := List.drop_of_length_le (by omega)
    rw [show decide ((p1.length : Int) < (p2.length : Int)) = false by simp; omega, ae, e2]
    rfl
theorem EO (a b c : Int) : cz a b c = some (decide (b ≤ a ∧ a ≤ c)) := by
 unfold cz ga
 by_cases h : b ≤ a <;> by_cases k : a ≤ c <;> simp [h, k, au]
theorem iE (y : Int) : qk 0 y = y := by simp [qk]
theorem fb (a : Int) : c3 a a = 0 := by simp [c3]
theorem compare_eq : ∀ (N : Nat) (a b : ac) (k : Nat), bO a ≤ N → bO a < 1000000000000000 → wfV a → wfV b → 3 * N + 3 ≤ k → el k a b = some (cmpV a b) := by
 intro N
 induction N with
 | zero => intro a b k h; have := js a; omega
 | succ N ih =>
  intro a b k hN hbig ha hb hk
  obtain ⟨k', rfl⟩ : ∃ k', k = k' + 1 + 1 + 1 := ⟨k - 3, by omega⟩
  obtain ⟨ka, na, sa, ta, ia⟩ := a
  obtain ⟨kb, nb, sb, tb, ib⟩ := b
  simp only [wfV] at ha hb
  obtain ⟨wk, wn, ws, wi⟩ := ha
  obtain ⟨vk, vn, vs, vi⟩ := hb
  simp only [bO] at hN hbig
  have hlen := cP ia
  -- the rest
  have hitems : aE (k' + 1) ia ib = some (lz ia ib) := by
   rw [aE]
   have := FZ (el k') ia ib (by omega) (fun x hx y hy => by
    have h1 := cY hx
    exact ih x y k' (by omega) (by omega) (wU wi hx) (wU vi hy) (by omega)) aV 0 (Nat.zero_le _) (Nat.zero_le _) (by rw [aI]; omega)
   simpa using this
  have hrest : ic (k' + 1 + 1) ⟨ka, na, sa, ta, ia⟩ ⟨kb, nb, sb, tb, ib⟩ = some (qk (c3 sa sb) (qk (cS ta tb) (lz ia ib))) := by
   rw [ic]
   simp only [HD, MG, ar, hitems, Ox]
  rw [el]
  simp only [HD, ar, EO, cmpV]
  by_cases hkk : ka = kb
  ·subst hkk
   rw [show (ka != ka) = false by simp, ae, fb, fb, iE, iE]
   by_cases h0 : ka = 0
   ·subst h0; rw [if_pos rfl]; rfl
   ·rw [beq_eq_false_iff_ne.2 h0, ae, if_neg h0]
    have lj : jh (ic (k' + 1 + 1)) ⟨ka, na, sa, ta, ia⟩ ⟨ka, nb, sb, tb, ib⟩ = some (qk (c3 na nb) (qk (c3 sa sb) (qk (cS ta tb) (lz ia ib)))) := by
     unfold jh
     simp only [HD, ar, hrest, Og]
    by_cases h3 : ka = 3
    ·subst h3
     rw [show ((3 : Int) == 3) = true from rfl, af]
     unfold kX
     by_cases hA : 0 ≤ sa ∧ sa ≤ 12
     ·have hiA : Dy sa := hA
      by_cases hB : 0 ≤ sb ∧ sb ≤ 12
      ·have hiB : Dy sb := hB
       simp only [hA, hB, and_self, decide_true, af]
       rw [fi (x := 12 - sa) (by omega) (by omega), fi (x := 12 - sb) (by omega) (by omega)]
       obtain ⟨w1, g1, g2, g3, g4, g5⟩ := AL (n := na) (d := 12 - sa) wn.1 wn.2 (by omega) (by omega)
       obtain ⟨w2, f1, f2, f3, f4, f5⟩ := AL (n := nb) (d := 12 - sb) vn.1 vn.2 (by omega) (by omega)
       rw [g1, f1]
       simp only [ar]
       have pp1 := mm (12 - sa).toNat
       have pp2 := mm (12 - sb).toNat
       have sgn : ∀ (n P : Int), 1 ≤ P → n < 0 → 0 < (if n < 0 then -n else n) * P := by
        intro n P hP hn
        rw [if_pos hn]
        exact Int.mul_pos (by omega) (by omega)
       have sv1 : sv w1 = na * cj (12 - sa).toNat := by
        unfold sv; rw [g3, g4]
        by_cases hn : na < 0
        ·simp only [hn, decide_true, if_true]; rw [Int.neg_mul, Int.neg_neg]
        ·simp only [hn, decide_false, Bool.false_eq_true, if_false]
       have sv2 : sv w2 = nb * cj (12 - sb).toNat := by
        unfold sv; rw [f3, f4]
        by_cases hn : nb < 0
        ·simp only [hn, decide_true, if_true]; rw [Int.neg_mul, Int.neg_neg]
        ·simp only [hn, decide_false, Bool.false_eq_true, if_false]
       have hcmp : gU ⟨w1.neg, w1.size.1, w1.size.2.1, w1.size.2.2.1, w1.size.2.2.2⟩ ⟨w2.neg, w2.size.1, w2.size.2.1, w2.size.2.2.1, w2.size.2.2.2⟩ = some (c3 (na * cj (12 - sa).toNat) (nb * cj (12 - sb).toNat)) := by
        have := Dm g2 f2 g5 f5 (fun h => by rw [g3]; exact sgn na _ pp1 (by rw [g4] at h; simpa using h)) (fun h => by rw [f3]; exact sgn nb _ pp2 (by rw [f4] at h; simpa using h))
        rw [sv1, sv2] at this
        exact this
       rw [hcmp]
       simp only [ar, hrest, Og]
       have o1 : ui 3 sa = 0 := by unfold ui; rw [if_neg (by simp [hiA])]
       have o2 : ui 3 sb = 0 := by unfold ui; rw [if_neg (by simp [hiB])]
       have u1 : zX 3 sa na = na * cj (12 - sa).toNat := by unfold zX; rw [if_pos ⟨rfl, hiA⟩]
       have u2 : zX 3 sb nb = nb * cj (12 - sb).toNat := by unfold zX; rw [if_pos ⟨rfl, hiB⟩]
       rw [o1, o2, fb, iE, u1, u2]
      ·have hiB : ¬ Dy sb := hB
       have eB : decide (0 ≤ sb ∧ sb ≤ 12) = false := by simpa using hB
       have eA : decide (0 ≤ sa ∧ sa ≤ 12) = true := by simpa using hA
       rw [eA, eB]
       simp only [af, ae]
       have o1 : ui 3 sa = 0 := by unfold ui; rw [if_neg (by simp [hiA])]
       have o2 : ui 3 sb = 1 := by unfold ui; rw [if_pos ⟨rfl, hiB⟩]
       rw [o1, o2]; rfl
     ·have hiA : ¬ Dy sa := hA
      have eA : decide (0 ≤ sa ∧ sa ≤ 12) = false := by simpa using hA
      have o1 : ui 3 sa = 1 := by unfold ui; rw [if_pos ⟨rfl, hiA⟩]
      have u1 : zX 3 sa na = na := by unfold zX; rw [if_neg (by simp [hiA])]
      rw [eA]
      simp only [ae]
      by_cases hB : 0 ≤ sb ∧ sb ≤ 12
      ·have hiB : Dy sb := hB
       have eB : decide (0 ≤ sb ∧ sb ≤ 12) = true := by simpa using hB
       have o2 : ui 3 sb = 0 := by unfold ui; rw [if_neg (by simp [hiB])]
       rw [eB, o1, o2]; rfl
      ·have hiB : ¬ Dy sb := hB
       have eB : decide (0 ≤ sb ∧ sb ≤ 12) = false := by simpa using hB
       have o2 : ui 3 sb = 1 := by unfold ui; rw [if_pos ⟨rfl, hiB⟩]
       have u2 : zX 3 sb nb = nb := by unfold zX; rw [if_neg (by simp [hiB])]
       rw [eB, ae, lj, o1, o2, fb, iE, u1, u2]
    ·rw [beq_eq_false_iff_ne.2 h3, ae, lj]
     have o1 : ∀ q, ui ka q = 0 := fun q => by unfold ui; rw [if_neg (by simp [h3])]
     have u1 : ∀ q r, zX ka q r = r := fun q r => by unfold zX; rw [if_neg (by simp [h3])]
     rw [o1, o1, fb, iE, u1, u1]
  ·rw [show (ka != kb) = true by simp [hkk], af]
   by_cases h0 : ka = 0
   ·subst h0
    have : vV kb = 0 := by unfold vV; rw [if_neg (fun e => hkk e.symm)]
    rw [this]; rfl
   ·rw [beq_eq_false_iff_ne.2 h0, ae]
    have n1 : vV ka = 0 := by unfold vV; rw [if_neg h0]
    by_cases h1 : kb = 0
    ·subst h1; rw [n1]; rfl
    ·have n2 : vV kb = 0 := by unfold vV; rw [if_neg h1]
     rw [beq_eq_false_iff_ne.2 h1, ae, n1, n2, fb, iE]
     have hc : c3 ka kb ≠ 0 := by unfold c3; split <;> (try split) <;> omega
     unfold qk
     rw [if_pos hc]
end Go.Proofs.YtbfekiekbifgcaaGreatDoor.Ord
namespace Go.Proofs.YtbfekiekbifgcaaGreatDoor.Ord
open Go Go.SX Go.SX.Cal
def yf (x y z : Int) : Prop := (x ≤ 0 → y ≤ 0 → z ≤ 0 ∧ (z = 0 → x = 0 ∧ y = 0)) ∧ (x = 0 → y = 0 → z = 0)
theorem sr {x1 y1 z1 x2 y2 z2 : Int} (h : yf x1 y1 z1) (k : x1 = 0 → y1 = 0 → yf x2 y2 z2) : yf (qk x1 x2) (qk y1 y2) (qk z1 z2) := by
 unfold qk
 by_cases hx : x1 = 0
 ·by_cases hy : y1 = 0
  ·have hz := h.2 hx hy
   rw [if_neg (by simp [hx]), if_neg (by simp [hy]), if_neg (by simp [hz])]
   exact k hx hy
  ·rw [if_neg (by simp [hx]), if_pos hy]
   unfold yf at *
   by_cases hz : z1 = 0
   ·rw [if_neg (by simp [hz])]; omega
   ·rw [if_pos hz]; omega
 ·rw [if_pos hx]
  unfold yf at *
  by_cases hy : y1 = 0
  ·rw [if_neg (by simp [hy])]
   by_cases hz : z1 = 0
   ·rw [if_neg (by simp [hz])]; omega
   ·rw [if_pos hz]; omega
  ·rw [if_pos hy]
   by_cases hz : z1 = 0
   ·rw [if_neg (by simp [hz])]; omega
   ·rw [if_pos hz]; omega
theorem xE (a b d : Int) : yf (c3 a b) (c3 b d) (c3 a d) := by
 unfold yf c3
 by_cases h1 : a < b <;> by_cases h2 : b < d <;> by_cases h3 : a < d <;> by_cases h4 : b < a <;> by_cases h5 : d < b <;> by_cases h6 : d < a <;> simp [h1, h2, h3, h4, h5, h6] <;> omega
theorem oz {x y x' y' : Int} (h : x = -x') (k : y = -y') : qk x y = -qk x' y' := by
 unfold qk
 by_cases hx : x' = 0
 ·have : x = 0 := by omega
  rw [if_neg (by simp [this]), if_neg (by simp [hx])]; exact k
 ·have : x ≠ 0 := by omega
  rw [if_pos this, if_pos hx]; exact h
theorem pL (a b : Int) : c3 a b = -c3 b a := by
 unfold c3
 by_cases h1 : a < b <;> by_cases h2 : b < a <;> simp [h1, h2] <;> omega
def cB (l m : List UInt8) : Int := if Op.bytesLess l m = true then -1 else if l = m then 0 else 1
theorem tG (a b : UInt8) (l m : List UInt8) : cB (a :: l) (b :: m) = qk (c3 a.toNat b.toNat) (cB l m) := by
 unfold cB qk c3
 simp only [Op.bytesLess, Bool.or_eq_true, Bool.and_eq_true, decide_eq_true_eq, beq_iff_eq, List.cons.injEq]
 by_cases h1 : a < b
 ·have h1' : (a.toNat : Int) < b.toNat := by have := UInt8.lt_iff_toNat_lt.1 h1; omega
  simp [h1, h1']
 ·have h1' : ¬ (a.toNat : Int) < b.toNat := fun h => h1 (UInt8.lt_iff_toNat_lt.2 (by omega))
  by_cases h2 : a = b
  ·subst h2
   simp
  ·have h3 : (b.toNat : Int) < a.toNat := by
    have : a.toNat ≠ b.toNat := fun h => h2 (UInt8.toNat_inj.1 h)
    omega
   simp [h1, h1', h2, h3]
theorem Hh : ∀ l m p : List UInt8, yf (cB l m) (cB m p) (cB l p)
 | [], [], [] => by simp [cB, Op.bytesLess, yf]
 | [], [], _ :: _ => by simp [cB, Op.bytesLess, yf]
 | [], _ :: _, [] => by simp [cB, Op.bytesLess, yf]
 | [], _ :: _, _ :: _ => by
  have e1 : ∀ (a : UInt8) l, cB [] (a :: l) = -1 := fun a l => by simp [cB, Op.bytesLess]
  rw [e1, e1]; unfold yf; omega
 | _ :: _, [], [] => by simp [cB, Op.bytesLess, yf]
 | _ :: _, [], _ :: _ => by
  have e1 : ∀ (a : UInt8) l, cB (a :: l) [] = 1 := fun a l => by simp [cB, Op.bytesLess]
  rw [e1]; unfold yf; omega
 | _ :: _, _ :: _, [] => by
  have e1 : ∀ (a : UInt8) l, cB (a :: l) [] = 1 := fun a l => by simp [cB, Op.bytesLess]
  rw [e1, e1]; unfold yf; omega
 | a :: l, b :: m, d :: p => by
  rw [tG, tG, tG]
  exact sr (xE _ _ _) (fun _ _ => Hh l m p)
theorem FB : ∀ l m : List UInt8, cB l m = -cB m l
 | [], [] => by decide
 | [], _ :: _ => by simp [cB, Op.bytesLess]
 | _ :: _, [] => by simp [cB, Op.bytesLess]
 | a :: l, b :: m => by
  rw [tG, tG]
  exact oz (pL _ _) (FB l m)
theorem AD (s t : ByteArray) : cS s t = cB s.toList t.toList := rfl
mutual
theorem cmpV_anti : ∀ a b : ac, cmpV a b = -cmpV b a
 | ⟨k, n, sc, s, it⟩, ⟨k', n', sc', s', it'⟩ => by
  have hL := AH it it'
  simp only [cmpV]
  by_cases hk : k = k'
  ·subst hk
   refine oz (pL _ _) (oz (pL _ _) ?_)
   split
   ·rfl
   ·exact oz (pL _ _) (oz (pL _ _) (oz (pL _ _) (oz (by rw [AD, AD]; exact FB _ _) hL)))
  ·have e1 : ∀ y, qk (c3 k k') y = c3 k k' := fun y => by
    unfold qk; rw [if_pos (by unfold c3; split <;> (try split) <;> omega)]
   have e2 : ∀ y, qk (c3 k' k) y = c3 k' k := fun y => by
    unfold qk; rw [if_pos (by unfold c3; split <;> (try split) <;> omega)]
   rw [e1, e2]
   exact oz (pL _ _) (pL _ _)
theorem AH : ∀ l m : List ac, lz l m = -lz m l
 | [], [] => by simp [lz]
 | [], _ :: _ => by simp [lz]
 | _ :: _, [] => by simp [lz]
 | x :: l, y :: m => by
  have h1 := cmpV_anti x y
  have h2 := AH l m
  simp only [lz]
  exact oz h1 h2
end
theorem AX {k k' k'' : Int} (h1 : c3 k k' = 0) : k = k' := by
 unfold c3 at h1; split at h1 <;> (try split at h1) <;> omega
mutual
theorem cmpV_tri : ∀ a b d : ac, yf (cmpV a b) (cmpV b d) (cmpV a d)
 | ⟨k, n, sc, s, it⟩, ⟨k', n', sc', s', it'⟩, ⟨k'', n'', sc'', s'', it''⟩ => by
  have hL := CH it it' it''
  simp only [cmpV]
  refine sr (xE _ _ _) (fun _ _ => sr (xE _ _ _) (fun e1 e2 => ?_))
  have q1 := AX (k'' := 0) e1
  have q2 := AX (k'' := 0) e2
  subst q1; subst q2
  split
  ·unfold yf; omega
  ·exact sr (xE _ _ _) (fun _ _ => sr (xE _ _ _) (fun _ _ => sr (xE _ _ _) (fun _ _ => sr (by rw [AD, AD, AD]; exact Hh _ _ _) (fun _ _ => hL))))
theorem CH : ∀ l m p : List ac, yf (lz l m) (lz m p) (lz l p)
 | [], [], [] => by simp [lz, yf]
 | [], [], _ :: _ => by simp [lz, yf]
 | [], _ :: _, [] => by simp [lz, yf]
 | [], _ :: _, _ :: _ => by simp only [lz]; unfold yf; omega
 | _ :: _, [], [] => by simp [lz, yf]
 | _ :: _, [], _ :: _ => by simp only [lz]; unfold yf; omega
 | _ :: _, _ :: _, [] => by simp only [lz]; unfold yf; omega
 | x :: l, y :: m, z :: p => by
  have h1 := cmpV_tri x y z
  have h2 := CH l m p
  simp only [lz]
  exact sr h1 (fun _ _ => h2)
end
theorem cmpV_refl (a : ac) : cmpV a a = 0 := by
 have := cmpV_anti a a
 omega
end Go.Proofs.YtbfekiekbifgcaaGreatDoor.Ord
namespace Go.Proofs.YtbfekiekbifgcaaGreatDoor.Ord
open Go Go.SX Go.SX.Cal
theorem qB (a b : Int) : gd a b = some (c3 a b) := by
 unfold gd c3
 by_cases h : a < b
 ·simp [h, au]
 ·by_cases k : b < a <;> simp [h, k, au]
theorem GW (a b c : Int) : cF a b c = some (decide (b ≤ a ∧ a ≤ c)) := EO a b c
def aQ : List Int → Int
 | [] => 0
 | d :: l => d + 10 * aQ l
def dy (l : List Int) : Prop := ∀ d ∈ l, 0 ≤ d ∧ d ≤ 9
def vw (l : List Int) : Prop := ∀ d, l.getLast? = some d → d ≠ 0
theorem d8 : ∀ {l : List Int}, dy l → 0 ≤ aQ l
 | [], _ => by simp [aQ]
 | d :: l, h => by
  have h1 := h d (by simp)
  have h2 := d8 (l := l) (fun x hx => h x (by simp [hx]))
  simp only [aQ]; omega
theorem BL : ∀ n, 0 < cj n := fun n => by have := mm n; omega
theorem ja : ∀ {l : List Int}, dy l → aQ l < cj l.length
 | [], _ => by simp [aQ, cj]
 | d :: l, h => by
  have h1 := h d (by simp)
  have h2 := ja (l := l) (fun x hx => h x (by simp [hx]))
  simp only [aQ, List.length_cons, cj]; omega
theorem mA : ∀ {l : List Int}, dy l → vw l → l ≠ [] → cj (l.length - 1) ≤ aQ l
 | [], _, _, h => absurd rfl h
 | [d], h, ht, _ => by
  have h1 := h d (by simp)
  have h2 := ht d (by simp)
  simp [aQ, cj]; omega
 | d :: e :: l, h, ht, _ => by
  have h1 := h d (by simp)
  have h2 := mA (l := e :: l) (fun x hx => h x (by simp [hx])) (fun x hx => ht x (by simpa using hx)) (by simp)
  simp only [List.length_cons] at h2 ⊢
  rw [show l.length + 1 + 1 - 1 = (l.length + 1 - 1) + 1 by omega]
  simp only [cj]
  rw [aQ]
  omega
theorem mw {m n : Nat} (h : m ≤ n) : cj m ≤ cj n := by
 induction n with
 | zero =>
  have : m = 0 := by omega
  subst this; exact Int.le_refl _
 | succ n ih =>
  by_cases e : m = n + 1
  ·subst e; exact Int.le_refl _
  ·have h1 := ih (by omega)
   have h2 := BL n
   simp only [cj]; omega
theorem cX : ∀ (l m : List Int), aQ (l ++ m) = aQ l + cj l.length * aQ m
 | [], m => by simp [aQ, cj]
 | d :: l, m => by
  simp only [List.cons_append, aQ, cX l m, List.length_cons, cj]
  rw [Int.mul_add, ← Int.mul_assoc, Int.mul_comm 10 (cj l.length)]; omega
theorem np (k : Nat) : aQ (List.replicate k 0) = 0 := by
 induction k with
 | zero => rfl
 | succ k ih => simp [List.replicate_succ, aQ, ih]
theorem xg {a b : List Int} (ha : dy a) (hb : dy b) (hl : a.length = b.length) (hbig : a.length < 1000000) : ∀ (k i : Nat), i ≤ a.length → i < k → aQ (a.drop i) = aQ (b.drop i) →
  ∃ r, gu a b k ((i : Int) - 1) = some r ∧ -9 ≤ r ∧ r ≤ 9 ∧ c3 r 0 = c3 (aQ a) (aQ b) := by
 intro k
 induction k with
 | zero => intro i h1 h2; omega
 | succ k ih =>
  intro i h1 h2 he
  rw [gu]
  cases i with
  | zero =>
   rw [show decide ((0 : Int) ≤ ((0 : Nat) : Int) - 1) = false from rfl, ae]
   simp only [List.drop_zero] at he
   exact ⟨0, rfl, by omega, by omega, by rw [he, fb, fb]⟩
  | succ i =>
   have hia : i < a.length := by omega
   have hib : i < b.length := by omega
   have e1 : ((i + 1 : Nat) : Int) - 1 = (i : Int) := by omega
   have aa : at? a (i : Int) = some a[i] := by unfold at?; simp [hia]
   have bb : at? b (i : Int) = some b[i] := by unfold at?; simp [hib]
   rw [e1, show decide ((0 : Int) ≤ (i : Int)) = true by simp, af, aa, bb]
   simp only [ar]
   have da : a.drop i = a[i] :: a.drop (i + 1) := List.drop_eq_getElem_cons hia
   have db : b.drop i = b[i] :: b.drop (i + 1) := List.drop_eq_getElem_cons hib
   have ra := ha a[i] (List.getElem_mem hia)
   have rb := hb b[i] (List.getElem_mem hib)
   by_cases hne : a[i] = b[i]
   ·rw [show (a[i] != b[i]) = false by simp [hne], ae, fi (by omega) (by omega)]
    refine ih i (by omega) (by omega) ?_
    rw [da, db]; simp only [aQ]; omega
   ·rw [show (a[i] != b[i]) = true by simp [hne], af, fi (by omega) (by omega)]
    refine ⟨_, rfl, by omega, by omega, ?_⟩
    have va : aQ a = aQ (a.take i) + cj i * aQ (a.drop i) := by
     have := cX (a.take i) (a.drop i)
     rw [List.take_append_drop, List.length_take, Nat.min_eq_left (by omega)] at this
     exact this
    have vb : aQ b = aQ (b.take i) + cj i * aQ (b.drop i) := by
     have := cX (b.take i) (b.drop i)
     rw [List.take_append_drop, List.length_take, Nat.min_eq_left (by omega)] at this
     exact this
    have la := ja (l := a.take i) (fun x hx => ha x (List.mem_of_mem_take hx))
    have lb := ja (l := b.take i) (fun x hx => hb x (List.mem_of_mem_take hx))
    have na := d8 (l := a.take i) (fun x hx => ha x (List.mem_of_mem_take hx))
    have nb := d8 (l := b.take i) (fun x hx => hb x (List.mem_of_mem_take hx))
    rw [List.length_take, Nat.min_eq_left (by omega)] at la lb
    rw [da] at va; rw [db] at vb
    simp only [aQ] at va vb
    have hp := BL i
    have key : cj i * (a[i] + 10 * aQ (a.drop (i + 1))) - cj i * (b[i] + 10 * aQ (b.drop (i + 1))) = cj i * (a[i] - b[i]) := by
     rw [← Int.mul_sub, he]; congr 1; omega
    unfold c3
    rcases Int.lt_or_gt_of_ne hne with hlt | hgt
    ·have : cj i * (a[i] - b[i]) ≤ cj i * (-1) := Int.mul_le_mul_of_nonneg_left (by omega) (by omega)
     rw [if_pos (by omega), if_pos (by omega)]
    ·have : cj i * 1 ≤ cj i * (a[i] - b[i]) := Int.mul_le_mul_of_nonneg_left (by omega) (by omega)
     rw [if_neg (by omega), if_pos (by omega), if_neg (by omega), if_pos (by omega)]
theorem Bi {a b : List Int} (ha : dy a) (hb : dy b) (ta : vw a) (tb : vw b) (la : a.length < 1000) (lb : b.length < 1000) : ∃ r, nk a b = some r ∧ -1000 ≤ r ∧ r ≤ 1000 ∧ c3 r 0 = c3 (aQ a) (aQ b) := by
 unfold nk
 by_cases hl : a.length = b.length
 ·rw [show ((a.length : Int) != (b.length : Int)) = false by simp [hl], ae, fi (by omega) (by omega)]
  obtain ⟨r, h1, h2, h3, h4⟩ := xg ha hb hl (by omega) aV a.length (Nat.le_refl _) (by rw [aI]; omega) (by rw [List.drop_length, hl, List.drop_length])
  exact ⟨r, h1, by omega, by omega, h4⟩
 ·have hne : ((a.length : Int) != (b.length : Int)) = true := by simp; omega
  rw [hne, af, fi (by omega) (by omega)]
  refine ⟨_, rfl, by omega, by omega, ?_⟩
  have l1 := ja ha
  have l2 := ja hb
  rcases Nat.lt_or_gt_of_ne hl with h | h
  ·have g := mA hb tb (by rintro rfl; simp at h)
   have := mw (show a.length ≤ b.length - 1 by omega)
   unfold c3; rw [if_pos (by omega), if_pos (by omega)]
  ·have g := mA ha ta (by rintro rfl; simp at h)
   have := mw (show b.length ≤ a.length - 1 by omega)
   unfold c3; rw [if_neg (by omega), if_pos (by omega), if_neg (by omega), if_pos (by omega)]
structure RW (r : bI) (n : Int) : Prop where
 dg : dy r.d
 tp : vw r.d
 ln : r.d.length < 100
 vl : (if r.below = true then -aQ r.d else aQ r.d) = n
 bl : r.below = true → 0 < aQ r.d
theorem CE {a b : bI} {m n : Int} (ha : RW a m) (hb : RW b n) : kP a b = some (c3 m n) := by
 obtain ⟨da, ta, la, va, ba⟩ := ha
 obtain ⟨db, tb, lb, vb, bb⟩ := hb
 have pa := d8 da
 have pb := d8 db
 obtain ⟨r, h1, h2, h3, h4⟩ := Bi da db ta tb (by omega) (by omega)
 unfold kP
 rw [h1]
 simp only [ar]
 have fin : ∀ x : Int, gm x = some (c3 x 0) := by
  intro x
  unfold gm c3
  by_cases h : x < 0
  ·simp [h, au]
  ·by_cases k : 0 < x <;> simp [h, k, au]
 by_cases hs : a.below = b.below
 ·rw [show (!(a.below == b.below)) = false by simp [hs], ae, fi (by omega) (by omega), fin, fin]
  rw [← hs] at vb
  cases hbel : a.below with
  | true =>
   rw [af]
   rw [hbel] at va vb
   simp only [if_true] at va vb
   congr 1
   subst va; subst vb
   have e : c3 (0 - r) 0 = -c3 r 0 := by unfold c3; by_cases x1 : r < 0 <;> by_cases x2 : 0 < r <;> simp [x1, x2] <;> omega
   have e2 : c3 (-aQ a.d) (-aQ b.d) = -c3 (aQ a.d) (aQ b.d) := by unfold c3; by_cases x1 : aQ a.d < aQ b.d <;> by_cases x2 : aQ b.d < aQ a.d <;> simp [x1, x2] <;> omega
   rw [e, e2, h4]
  | false =>
   rw [ae]
   rw [hbel] at va vb
   simp only [Bool.false_eq_true, if_false] at va vb
   subst va; subst vb
   rw [h4]
 ·have hb2 := (vP a.below b.below hs)
  rw [hb2.1, af]
  cases hbel : a.below with
  | true =>
   have hb0 : b.below = false := by have := hb2.2; rw [hbel] at this; simpa using this
   rw [af]
   rw [hbel] at va; rw [hb0] at vb
   simp only [if_true, Bool.false_eq_true, if_false] at va vb
   have := ba hbel
   unfold c3; rw [if_pos (by omega)]
  | false =>
   have hb0 : b.below = true := by have := hb2.2; rw [hbel] at this; simpa using this
   rw [ae]
   rw [hbel] at va; rw [hb0] at vb
   simp only [if_true, Bool.false_eq_true, if_false] at va vb
   have := bb hb0
   unfold c3; rw [if_neg (by omega), if_pos (by omega)]
end Go.Proofs.YtbfekiekbifgcaaGreatDoor.Ord
namespace Go.Proofs.YtbfekiekbifgcaaGreatDoor.Ord
open Go Go.SX Go.SX.Cal
def ab (n : Int) : Int := if n < 0 then -n else n
theorem zK {l : List Int} {x : Int} (h : dy l) (hx : 0 ≤ x ∧ x ≤ 9) : dy (l ++ [x]) := by
 intro d hd
 rcases List.mem_append.1 hd with h1 | h1
 ·exact h d h1
 ·simp at h1; subst h1; exact hx
theorem sk {n : Int} (hn0 : -9223372036854775808 ≤ n) (hn1 : n ≤ 9223372036854775807) : ∀ (k : Nat) (l : List Int) (m : Int), l.length ≤ 19 → 19 - l.length < k → dy l → (m = 0 → vw l) → ab m < cj (19 - l.length) → -9223372036854775808 ≤ m → m ≤ 9223372036854775807 → ab n = aQ l + cj l.length * ab m →
  ∃ d, bz n k l m = some ⟨decide (n < 0), d⟩ ∧ dy d ∧ vw d ∧ d.length ≤ 19 ∧ aQ d = ab n := by
 intro k
 induction k with
 | zero => intro l m h1 h2; omega
 | succ k ih =>
  intro l m hl hk hd ht hm m0 m1 hv
  rw [bz]
  by_cases h0 : m = 0
  ·subst h0
   rw [show ((0 : Int) != 0) = false from rfl, ae]
   exact ⟨l, rfl, hd, ht rfl, hl, by simp [ab] at hv ⊢; omega⟩
  ·have hlen : l.length < 19 := by
    apply Classical.byContradiction
    intro hn
    have : l.length = 19 := by omega
    rw [this] at hm
    simp only [Nat.sub_self, cj] at hm
    unfold ab at hm; split at hm <;> omega
   rw [show (m != 0) = true by simp [h0], af]
   have hq : m.tdiv 10 = if m < 0 then -((-m) / 10) else m / 10 := by
    by_cases hneg : m < 0
    ·rw [if_pos hneg]
     have : m = -(-m) := by omega
     rw [this, Int.neg_tdiv, Int.neg_neg, Int.tdiv_eq_ediv_of_nonneg (by omega)]
    ·rw [if_neg hneg, Int.tdiv_eq_ediv_of_nonneg (by omega)]
   have hr : m.tmod 10 = if m < 0 then -((-m) % 10) else m % 10 := by
    by_cases hneg : m < 0
    ·rw [if_pos hneg]
     have : m = -(-m) := by omega
     rw [this, Int.neg_tmod, Int.neg_neg, Int.tmod_eq_emod_of_nonneg (by omega)]
    ·rw [if_neg hneg, Int.tmod_eq_emod_of_nonneg (by omega)]
   have step : ∀ x, x = ab m % 10 → hI (bz n k) l m x = bz n k (l ++ [ab m % 10]) (m.tdiv 10) := by
    intro x hx
    unfold hI
    rw [aJ (by omega), hx, fi (by rw [hq]; split <;> omega) (by rw [hq]; split <;> omega)]
   have hgo : bz n k (l ++ [ab m % 10]) (m.tdiv 10) = bz n k (l ++ [ab m % 10]) (m.tdiv 10) := rfl
   have habq : ab (m.tdiv 10) = ab m / 10 := by
    rw [hq]; unfold ab
    by_cases hneg : m < 0
    ·simp only [hneg, if_true]; split <;> omega
    ·simp only [hneg, if_false]; split <;> omega
   have hab0 : 0 ≤ ab m := by unfold ab; split <;> omega
   have hp : cj (19 - l.length) = cj (19 - (l ++ [ab m % 10]).length) * 10 := by
    rw [show 19 - l.length = (19 - (l ++ [ab m % 10]).length) + 1 by simp; omega]; rfl
   have nxt := ih (l ++ [ab m % 10]) (m.tdiv 10) (by simp; omega) (by simp; omega) (zK hd (by omega)) (fun hz => by
     intro d hdl
     simp at hdl
     subst hdl
     have h1 : ab m / 10 = 0 := by rw [← habq, hz]; rfl
     have h2 : ab m ≠ 0 := by unfold ab; split <;> omega
     omega) (by rw [habq]; rw [hp] at hm; omega) (by rw [hq]; split <;> omega) (by rw [hq]; split <;> omega) (by
     rw [cX, List.length_append, List.length_singleton, habq, hv]
     simp only [aQ, cj]
     have e : ab m = ab m % 10 + 10 * (ab m / 10) := by omega
     have e2 : cj l.length * ab m = cj l.length * (ab m % 10) + cj l.length * 10 * (ab m / 10) := by
      rw [Int.mul_assoc, ← Int.mul_add, ← e]
     rw [e2]; simp only [Int.mul_zero, Int.add_zero]; omega)
   by_cases hneg : m.tmod 10 < 0
   ·rw [show decide (m.tmod 10 < 0) = true by simpa using hneg, af]
    have hx : IntKind.i64.wrap (0 - m.tmod 10) = ab m % 10 := by
     rw [fi (by rw [hr]; split <;> omega) (by rw [hr]; split <;> omega)]
     rw [hr] at hneg ⊢
     unfold ab
     by_cases h : m < 0
     ·simp only [h, if_true]; omega
     ·simp only [h, if_false] at hneg; omega
    rw [step _ hx]; exact nxt
   ·rw [show decide (m.tmod 10 < 0) = false by simpa using hneg, ae]
    have hx : m.tmod 10 = ab m % 10 := by
     rw [hr] at hneg ⊢
     unfold ab
     by_cases h : m < 0
     ·simp only [h, if_true] at hneg ⊢; omega
     ·simp only [h, if_false]
    rw [step _ hx]; exact nxt
theorem A4 {v : ac} (hn : i64 v.n) (hs : Dy v.scale) : ∃ r, kK v = some r ∧ RW r (v.n * cj (12 - v.scale).toNat) := by
 obtain ⟨n0, n1⟩ := hn
 obtain ⟨s0, s1⟩ := hs
 have hab : ab v.n ≤ 9223372036854775808 := by unfold ab; split <;> omega
 obtain ⟨d, h1, h2, h3, h4, h5⟩ := sk n0 n1 aV [] v.n (by simp) (by rw [aI]; decide) (fun x hx => by cases hx) (fun _ x hx => by simp at hx) (by
  have : cj (19 - ([] : List Int).length) = 10000000000000000000 := by decide
  rw [this]; omega) n0 n1 (by simp [aQ, cj])
 unfold kK jy
 rw [h1]
 simp only [ar]
 rw [fi (by omega) (by omega)]
 unfold qy
 have hpp := mm (12 - v.scale).toNat
 by_cases he : d = []
 ·subst he
  have hz : v.n = 0 := by simp only [aQ] at h5; unfold ab at h5; split at h5 <;> omega
  rw [show (((⟨decide (v.n < 0), []⟩ : bI).d.length : Int) == 0) = true from rfl, af]
  refine ⟨_, rfl, ⟨h2, h3, by simp, ?_, ?_⟩⟩
  ·simp [hz, aQ]
  ·simp [hz]
 ·have hlen : ((d.length : Int) == 0) = false := by
   rw [beq_eq_false_iff_ne]
   have : d.length ≠ 0 := fun h => he (List.length_eq_zero_iff.1 h)
   omega
  simp only
  rw [hlen, ae, aJ (by omega), aJ (by simp; omega)]
  have hval : aQ (List.replicate (12 - v.scale).toNat 0 ++ d) = ab v.n * cj (12 - v.scale).toNat := by
   rw [cX, np, List.length_replicate, h5, Int.mul_comm]; omega
  have hpos : 0 < ab v.n := by
   have h6 := mA h2 h3 he
   have := BL (d.length - 1)
   omega
  refine ⟨_, rfl, ⟨fun x hx => ?_, fun x hx => ?_, by simp; omega, ?_, fun _ => ?_⟩⟩
  ·rcases List.mem_append.1 hx with h | h
   ·have := List.eq_of_mem_replicate h; omega
   ·exact h2 x h
  ·rw [List.getLast?_append] at hx
   cases hg : d.getLast? with
   | none => exact absurd (List.getLast?_eq_none_iff.1 hg) he
   | some y => rw [hg] at hx; simp at hx; subst hx; exact h3 _ hg
  ·simp only
   rw [hval]
   by_cases hneg : v.n < 0
   ·simp only [hneg, decide_true, if_true, ab]; rw [Int.neg_mul, Int.neg_neg]
   ·simp only [hneg, decide_false, Bool.false_eq_true, if_false, ab]
  ·simp only
   rw [hval]
   exact Int.mul_pos hpos (by omega)
theorem Ec {s t : ByteArray} (hs : s.size < 1000000000000000) : ∀ (k i : Nat), i ≤ s.size → i ≤ t.size → s.size < i + k →
  fw s t k (i : Int) = some (cB (s.data.toList.drop i) (t.data.toList.drop i)) := by
 have ls : s.data.toList.length = s.size := by simp
 have lt : t.data.toList.length = t.size := by simp
 intro k
 induction k with
 | zero => intro i h1 h2 h3; omega
 | succ k ih =>
  intro i h1 h2 h3
  rw [fw]
  unfold nB p8
  simp only [qB, ar]
  by_cases hi : i < s.size
  ·have e1 : s.data.toList.drop i = s.data.toList[i]'(by omega) :: s.data.toList.drop (i + 1) := List.drop_eq_getElem_cons (by omega)
   rw [show decide ((i : Int) < (s.size : Int)) = true by simpa using hi, af]
   by_cases hj : i < t.size
   ·have e2 : t.data.toList.drop i = t.data.toList[i]'(by omega) :: t.data.toList.drop (i + 1) := List.drop_eq_getElem_cons (by omega)
    have g1 : s.data.toList.getD (i : Int).toNat 0 = s.data.toList[i]'(by omega) := by simp [List.getD, hi]
    have g2 : t.data.toList.getD (i : Int).toNat 0 = t.data.toList[i]'(by omega) := by simp [List.getD, hj]
    rw [show decide ((i : Int) < (t.size : Int)) = true by simpa using hj, af, aJ (by omega), aJ (by omega), aJ (by omega), aJ (by omega), g1, g2, e1, e2, tG]
    generalize s.data.toList[i]'(by omega) = x
    generalize t.data.toList[i]'(by omega) = y
    have hx := x.toNat_lt
    have hy := y.toNat_lt
    rw [fi (x := (x.toNat : Int)) (by omega) (by omega), fi (x := (y.toNat : Int)) (by omega) (by omega)]
    by_cases hxy : (x.toNat : Int) = y.toNat
    ·rw [show ((x.toNat : Int) != (y.toNat : Int)) = false by rw [bne_eq_false_iff_eq]; exact hxy, ae, fi (by omega) (by omega), show (i : Int) + 1 = ((i + 1 : Nat) : Int) by omega, ih (i + 1) (by omega) (by omega) (by omega), hxy, fb, iE]
    ·rw [show ((x.toNat : Int) != (y.toNat : Int)) = true by rw [bne_iff_ne]; exact hxy, af]
     unfold qk
     rw [if_pos (by unfold c3; split <;> (try split) <;> omega)]
   ·have e2 : t.data.toList.drop i = [] := List.drop_of_length_le (by omega)
    rw [show decide ((i : Int) < (t.size : Int)) = false by simpa using hj, ae, e1, e2]
    have : cB (s.data.toList[i]'(by omega) :: s.data.toList.drop (i + 1)) [] = 1 := by simp [cB, Op.bytesLess]
    rw [this]
    unfold c3; rw [if_neg (by omega), if_pos (by omega)]
  ·have e1 : s.data.toList.drop i = [] := List.drop_of_length_le (by omega)
   rw [show decide ((i : Int) < (s.size : Int)) = false by simpa using hi, ae, ae, e1]
   by_cases hj : i < t.size
   ·have e2 : t.data.toList.drop i = t.data.toList[i]'(by omega) :: t.data.toList.drop (i + 1) := List.drop_eq_getElem_cons (by omega)
    rw [e2]
    have : cB [] (t.data.toList[i]'(by omega) :: t.data.toList.drop (i + 1)) = -1 := by simp [cB, Op.bytesLess]
    rw [this]
    unfold c3; rw [if_pos (by omega)]
   ·have e2 : t.data.toList.drop i = [] := List.drop_of_length_le (by omega)
    rw [e2]
    have : cB [] [] = 0 := by simp [cB, Op.bytesLess]
    rw [this]
    unfold c3; rw [if_neg (by omega), if_neg (by omega)]
theorem Hm {s t : ByteArray} (hs : s.size < 1000000000000000) : pm s t = some (cS s t) := by
 unfold pm
 have := Ec (t := t) hs aV 0 (Nat.zero_le _) (Nat.zero_le _) (by rw [aI]; omega)
 rw [show ((0 : Nat) : Int) = 0 from rfl] at this
 rw [this, List.drop_zero, List.drop_zero, AD]
 have e1 : s.toList = s.data.toList := by simp [ByteArray.toList_eq]
 have e2 : t.toList = t.data.toList := by simp [ByteArray.toList_eq]
 rw [e1, e2]
theorem Cl (f : ac → ac → Option Int) (a b : ac) (hl : a.items.length < 1000000000000000) (hf : ∀ x ∈ a.items, ∀ y ∈ b.items, f x y = some (cmpV x y)) : ∀ (k i : Nat), i ≤ a.items.length → i ≤ b.items.length → a.items.length < i + k →
  dO f a b k (i : Int) = some (lz (a.items.drop i) (b.items.drop i)) := by
 intro k
 induction k with
 | zero => intro i h1 h2 h3; omega
 | succ k ih =>
  intro i h1 h2 h3
  rw [dO]
  unfold lL n6
  rw [qB]
  simp only [ar]
  by_cases hi : i < a.items.length
  ·have e1 : a.items.drop i = a.items[i] :: a.items.drop (i + 1) := List.drop_eq_getElem_cons hi
   have a1 : at? a.items (i : Int) = some a.items[i] := by unfold at?; simp [hi]
   rw [show decide ((i : Int) < (a.items.length : Int)) = true by simp [hi], af, a1, e1]
   simp only [ar]
   by_cases hj : i < b.items.length
   ·have e2 : b.items.drop i = b.items[i] :: b.items.drop (i + 1) := List.drop_eq_getElem_cons hj
    have a2 : at? b.items (i : Int) = some b.items[i] := by unfold at?; simp [hj]
    rw [show decide ((i : Int) < (b.items.length : Int)) = true by simp [hj], af, a2, e2]
    simp only [ar]
    rw [hf _ (List.getElem_mem hi) _ (List.getElem_mem hj)]
    simp only [ar, lz]
    unfold qk
    by_cases hc : cmpV a.items[i] b.items[i] = 0
    ·have e : (cmpV a.items[i] b.items[i] != 0) = false := by simp [hc]
     rw [e, ae, fi (by omega) (by omega), show (i : Int) + 1 = ((i + 1 : Nat) : Int) by omega, ih (i + 1) (by omega) (by omega) (by omega), if_neg (by simp [hc])]
    ·have e : (cmpV a.items[i] b.items[i] != 0) = true := by simp [hc]
     rw [e, af, if_pos hc]
   ·have e2 : b.items.drop i = [] := List.drop_of_length_le (by omega)
    rw [show decide ((i : Int) < (b.items.length : Int)) = false by simp; omega, ae, e2]
    simp only [lz]
    unfold c3; rw [if_neg (by omega), if_pos (by omega)]
  ·have e1 : a.items.drop i = [] := List.drop_of_length_le (by omega)
   rw [show decide ((i : Int) < (a.items.length : Int)) = false by simp; omega, ae, ae, e1]
   by_cases hj : i < b.items.length
   ·have e2 : b.items.drop i = b.items[i] :: b.items.drop (i + 1) := List.drop_eq_getElem_cons hj
    rw [e2]
    simp only [lz]
    unfold c3; rw [if_pos (by omega)]
   ·have e2 : b.items.drop i = [] := List.drop_of_length_le (by omega)
    rw [e2]
    simp only [lz]
    unfold c3; rw [if_neg (by omega), if_neg (by omega)]
theorem wy {a b : Int} (h : a ≠ b) : c3 a b ≠ 0 := by unfold c3; split <;> (try split) <;> omega
theorem rP {x : Int} (h : x ≠ 0) (y : Int) : qk x y = x := by unfold qk; rw [if_pos h]
theorem rcompareV_eq : ∀ (N : Nat) (a b : ac) (k : Nat), bO a ≤ N → bO a < 1000000000000000 → wfV a → wfV b → N + 1 ≤ k → bA k a b = some (cmpV a b) := by
 intro N
 induction N with
 | zero => intro a b k h; have := js a; omega
 | succ N ih =>
  intro a b k hN hbig ha hb hk
  obtain ⟨k', rfl⟩ : ∃ k', k = k' + 1 := ⟨k - 1, by omega⟩
  obtain ⟨ka, na, sa, ta, ia⟩ := a
  obtain ⟨kb, nb, sb, tb, ib⟩ := b
  simp only [wfV] at ha hb
  obtain ⟨wk, wn, ws, wi⟩ := ha
  obtain ⟨vk, vn, vs, vi⟩ := hb
  simp only [bO] at hN hbig
  have hlen := cP ia
  have hitems : dO (bA k') ⟨ka, na, sa, ta, ia⟩ ⟨kb, nb, sb, tb, ib⟩ aV 0 = some (lz ia ib) := by
   have := Cl (bA k') ⟨ka, na, sa, ta, ia⟩ ⟨kb, nb, sb, tb, ib⟩ (by simp only; omega) (fun x hx y hy => by
    have h1 : bO x ≤ sizeL ia := cY hx
    exact ih x y k' (by omega) (by omega) (wU wi hx) (wU vi hy) (by omega)) aV 0 (Nat.zero_le _) (Nat.zero_le _) (by rw [aI]; simp only; omega)
   simpa using this
  have htx : pm ta tb = some (cS ta tb) := Hm (by omega)
  have j2f : ix (bA k') ⟨ka, na, sa, ta, ia⟩ ⟨kb, nb, sb, tb, ib⟩ false = some (qk (c3 sa sb) (qk (cS ta tb) (lz ia ib))) := by
   unfold ix
   rw [ae, htx, hitems]
   simp only [qB, ar]
   by_cases hs : sa = sb
   ·subst hs
    rw [show (sa != sa) = false by simp, ae, fb, iE]
    by_cases hc : cS ta tb = 0
    ·rw [show (cS ta tb != 0) = false by simp [hc], ae, hc, iE]
    ·rw [show (cS ta tb != 0) = true by simp [hc], af, rP hc]
   ·rw [show (sa != sb) = true by simp [hs], af, rP (wy hs)]
  rw [bA]
  simp only [qB, ar, cmpV]
  by_cases h0 : ka = 0
  ·subst h0
   by_cases h1 : kb = 0
   ·subst h1; rfl
   ·have e : ((kb == 0) : Bool) = false := beq_eq_false_iff_ne.2 h1
    have n2 : vV kb = 0 := by unfold vV; rw [if_neg h1]
    rw [e, n2]; rfl
  ·have e0 : ((ka == 0) : Bool) = false := beq_eq_false_iff_ne.2 h0
   have n1 : vV ka = 0 := by unfold vV; rw [if_neg h0]
   rw [e0, n1]
   by_cases h1 : kb = 0
   ·subst h1; rfl
   ·have e1 : ((kb == 0) : Bool) = false := beq_eq_false_iff_ne.2 h1
    have n2 : vV kb = 0 := by unfold vV; rw [if_neg h1]
    rw [e1, n2, fb, iE]
    rw [show (!((false : Bool) == false)) = false from rfl, ae, ae]
    by_cases hkk : ka = kb
    ·subst hkk
     rw [show (ka != ka) = false by simp, ae, fb, iE, if_neg h0]
     by_cases h3 : ka = 3
     ·subst h3
      rw [show ((3 : Int) == 3) = true from rfl, af]
      have j1 : iA (bA k') ⟨3, na, sa, ta, ia⟩ ⟨3, nb, sb, tb, ib⟩ = some (qk (c3 sa sb) (qk (cS ta tb) (lz ia ib))) := by
       unfold iA
       rw [show (((3 : Int) != 3) : Bool) = false from rfl, j2f]
       rcases Bool.eq_false_or_eq_true (na != nb) with h | h <;> rw [h] <;> rfl
      rw [j1]
      unfold qa
      simp only [GW, ar, qB]
      by_cases hA : 0 ≤ sa ∧ sa ≤ 12
      ·have hiA : Dy sa := hA
       have eA : decide (0 ≤ sa ∧ sa ≤ 12) = true := by simpa using hA
       have o1 : ui 3 sa = 0 := by unfold ui; rw [if_neg (by simp [hiA])]
       by_cases hB : 0 ≤ sb ∧ sb ≤ 12
       ·have hiB : Dy sb := hB
        have eB : decide (0 ≤ sb ∧ sb ≤ 12) = true := by simpa using hB
        have o2 : ui 3 sb = 0 := by unfold ui; rw [if_neg (by simp [hiB])]
        obtain ⟨r1, g1, g2⟩ := A4 (v := ⟨3, na, sa, ta, ia⟩) wn hiA
        obtain ⟨r2, f1, f2⟩ := A4 (v := ⟨3, nb, sb, tb, ib⟩) vn hiB
        rw [eA, eB, g1, f1]
        simp only [ar]
        rw [CE g2 f2]
        simp only [ar]
        rw [show (!((true : Bool) == true)) = false from rfl, ae, af]
        have u1 : zX 3 sa na = na * cj (12 - sa).toNat := by unfold zX; rw [if_pos ⟨rfl, hiA⟩]
        have u2 : zX 3 sb nb = nb * cj (12 - sb).toNat := by unfold zX; rw [if_pos ⟨rfl, hiB⟩]
        rw [o1, o2, fb, iE, u1, u2]
        by_cases hc : c3 (na * cj (12 - sa).toNat) (nb * cj (12 - sb).toNat) = 0
        ·rw [hc]
         rw [show ((0 : Int) != 0) = false from rfl, ae, ar, iE]
         by_cases hs : sa = sb
         ·subst hs; rw [fb, show ((0 : Int) != 0) = false from rfl, ae]
         ·rw [show (c3 sa sb != 0) = true by simp [wy hs], af, rP (wy hs)]
        ·have hcb : (c3 (na * cj (12 - sa).toNat) (nb * cj (12 - sb).toNat) != 0) = true := by simp [hc]
         rw [hcb, af, ar, hcb, af, rP hc]
       ·have hiB : ¬ Dy sb := hB
        have eB : decide (0 ≤ sb ∧ sb ≤ 12) = false := by simpa using hB
        have o2 : ui 3 sb = 1 := by unfold ui; rw [if_pos ⟨rfl, hiB⟩]
        rw [eA, eB, o1, o2]; rfl
      ·have hiA : ¬ Dy sa := hA
       have eA : decide (0 ≤ sa ∧ sa ≤ 12) = false := by simpa using hA
       have o1 : ui 3 sa = 1 := by unfold ui; rw [if_pos ⟨rfl, hiA⟩]
       have u1 : zX 3 sa na = na := by unfold zX; rw [if_neg (by simp [hiA])]
       by_cases hB : 0 ≤ sb ∧ sb ≤ 12
       ·have hiB : Dy sb := hB
        have eB : decide (0 ≤ sb ∧ sb ≤ 12) = true := by simpa using hB
        have o2 : ui 3 sb = 0 := by unfold ui; rw [if_neg (by simp [hiB])]
        rw [eA, eB, o1, o2]; rfl
       ·have hiB : ¬ Dy sb := hB
        have eB : decide (0 ≤ sb ∧ sb ≤ 12) = false := by simpa using hB
        have o2 : ui 3 sb = 1 := by unfold ui; rw [if_pos ⟨rfl, hiB⟩]
        have u2 : zX 3 sb nb = nb := by unfold zX; rw [if_neg (by simp [hiB])]
        rw [eA, eB, o1, o2, fb, iE, u1, u2]
        rw [show (!((false : Bool) == false)) = false from rfl, ae, ae]
        by_cases hn : na = nb
        ·subst hn
         rw [show (na != na) = false by simp, ae, ar, fb, iE]
         by_cases hs : sa = sb
         ·subst hs; rw [fb, show ((0 : Int) != 0) = false from rfl, ae]
         ·rw [show (c3 sa sb != 0) = true by simp [wy hs], af, rP (wy hs)]
        ·rw [show (na != nb) = true by simp [hn], af, ar, show (c3 na nb != 0) = true by simp [wy hn], af, rP (wy hn)]
     ·rw [beq_eq_false_iff_ne.2 h3, ae]
      have o1 : ∀ q, ui ka q = 0 := fun q => by unfold ui; rw [if_neg (by simp [h3])]
      have u1 : ∀ q r, zX ka q r = r := fun q r => by unfold zX; rw [if_neg (by simp [h3])]
      rw [o1, o1, fb, iE, u1, u1]
      unfold iA
      simp only
      rw [show (ka != 3) = true by simp [h3]]
      by_cases hn : na = nb
      ·subst hn
       rw [show (na != na) = false by simp, ae, j2f, fb, iE]
      ·rw [show (na != nb) = true by simp [hn], af, rP (wy hn)]
       unfold ix
       simp only [af, qB, ar]
    ·rw [show (ka != kb) = true by simp [hkk], af, rP (wy hkk)]
end Go.Proofs.YtbfekiekbifgcaaGreatDoor.Ord
namespace Go.Proofs.YtbfekiekbifgcaaGreatDoor
open Go Go.SX Go.SX.Cal
theorem bS {α β : Type} (a : α) (f : α → Option β) : aD (some a) f = f a := rfl
theorem iT {β : Type} (x y : Option β) : aA true x y = x := rfl
theorem iF {β : Type} (x y : Option β) : aA false x y = y := rfl
theorem gP {β : Type} {p : Prop} [Decidable p] {x : Option β} (h : p) : eZ p x = x := if_pos h
theorem Ei {i n : Nat} (h : ¬ i < n) : decide ((i : Int) < (n : Int)) = false := by simp; omega
theorem fu {m f : Nat} (h : m < f) : ∃ q, f = q + 1 := ⟨f - 1, by omega⟩
theorem sB : aV = 1152921504606846975 + 1 := rfl
structure HN (fs : List ah) (id : Int) (i : Nat) : Prop where
 lt : i < fs.length
 eq : ∀ h : i < fs.length, fs[i].id = id
 no : ∀ (j : Nat) (h : j < fs.length), j < i → fs[j].id ≠ id
theorem Lk {fs : List ah} (id : Int) : ∀ (m j : Nat), j + m = fs.length → (∃ i, j ≤ i ∧ i < fs.length ∧ (∀ h : i < fs.length, fs[i].id = id) ∧ ∀ (q : Nat) (h : q < fs.length), j ≤ q → q < i → fs[q].id ≠ id) ∨ ∀ (q : Nat) (h : q < fs.length), j ≤ q → fs[q].id ≠ id := by
 intro m
 induction m with
 | zero => intro j h; exact .inr fun q hq hj => by omega
 | succ m ih =>
  intro j h
  have hj : j < fs.length := by omega
  by_cases e : fs[j].id = id
  ·exact .inl ⟨j, Nat.le_refl _, hj, fun _ => e, fun q _ h1 h2 => by omega⟩
  ·rcases ih (j + 1) (by omega) with ⟨i, h1, h2, h3, h4⟩ | h1
   ·refine .inl ⟨i, by omega, h2, h3, fun q hq h5 h6 => ?_⟩
    by_cases e2 : q = j
    ·subst e2; exact e
    ·exact h4 q hq (by omega) h6
   ·refine .inr fun q hq h5 => ?_
    by_cases e2 : q = j
    ·subst e2; exact e
    ·exact h1 q hq (by omega)
theorem HN.or (fs : List ah) (id : Int) : (∃ i, HN fs id i) ∨ ∀ (q : Nat) (h : q < fs.length), fs[q].id ≠ id := by
 rcases Lk (fs := fs) id fs.length 0 (by omega) with ⟨i, _, h2, h3, h4⟩ | h
 ·exact .inl ⟨i, h2, h3, fun j hj hi => h4 j hj (Nat.zero_le _) hi⟩
 ·exact .inr fun q hq => h q hq (Nat.zero_le _)
theorem NR {fs : List ah} (hn : fs.length < 1000000000) {id : Int} {i : Nat} (hF : HN fs id i) : ∀ (m f j : Nat), j + m = i → m < f →
  ay fs id f (j : Int) = some (i : Int) := by
 intro m
 induction m with
 | zero =>
  intro f j h hf
  obtain ⟨q, rfl⟩ := fu hf
  have e : j = i := by omega
  subst e
  rw [ay, bn hF.lt, iT, aZ hF.lt, bS]
  unfold lw
  rw [bS, hF.eq hF.lt, beq_self_eq_true, iT]
 | succ m ih =>
  intro f j h hf
  obtain ⟨q, rfl⟩ := fu hf
  have hj : j < fs.length := by have := hF.lt; omega
  rw [ay, bn hj, iT, aZ hj, bS]
  unfold lw
  rw [bS, beq_eq_false_iff_ne.2 (hF.no j hj (by omega)), iF, aG hj hn]
  exact ih q (j + 1) (by omega) (by omega)
theorem No {fs : List ah} (hn : fs.length < 1000000000) {id : Int} (hF : ∀ (q : Nat) (h : q < fs.length), fs[q].id ≠ id) : ∀ (m f j : Nat), j + m = fs.length → m < f →
  ay fs id f (j : Int) = some (-1) := by
 intro m
 induction m with
 | zero =>
  intro f j h hf
  obtain ⟨q, rfl⟩ := fu hf
  rw [ay, Ei (by omega), iF]
  rfl
 | succ m ih =>
  intro f j h hf
  obtain ⟨q, rfl⟩ := fu hf
  have hj : j < fs.length := by omega
  rw [ay, bn hj, iT, aZ hj, bS]
  unfold lw
  rw [bS, beq_eq_false_iff_ne.2 (hF j hj), iF, aG hj hn]
  exact ih q (j + 1) (by omega) (by omega)
theorem rQ {fs : List ah} (hn : fs.length < 1000000000) {id : Int} {i : Nat} (hF : HN fs id i) : nf fs id = some (i : Int) := by
 unfold nf bw
 have h := NR hn hF i aV 0 (by omega) (by rw [sB]; have := hF.lt; omega)
 rw [show ((0 : Nat) : Int) = 0 from rfl] at h
 rw [h]; rfl
theorem yx {fs : List ah} (hn : fs.length < 1000000000) {id : Int} (hF : ∀ (q : Nat) (h : q < fs.length), fs[q].id ≠ id) : nf fs id = some (-1) := by
 unfold nf bw
 have h := No hn hF fs.length aV 0 (by omega) (by rw [sB]; omega)
 rw [show ((0 : Nat) : Int) = 0 from rfl] at h
 rw [h]; rfl
theorem LS {fs : List ah} (hn : fs.length < 1000000000) {id : Int} {i : Nat} (hF : HN fs id i) : ∀ (m f j : Nat), j + m = i → m < f →
  fG fs id f (j : Int) = some (fs[i]'hF.lt, true) := by
 intro m
 induction m with
 | zero =>
  intro f j h hf
  obtain ⟨q, rfl⟩ := fu hf
  have e : j = i := by omega
  subst e
  rw [fG, bn hF.lt, iT, aZ hF.lt, bS, hF.eq hF.lt, beq_self_eq_true, iT]
 | succ m ih =>
  intro f j h hf
  obtain ⟨q, rfl⟩ := fu hf
  have hj : j < fs.length := by have := hF.lt; omega
  rw [fG, bn hj, iT, aZ hj, bS, beq_eq_false_iff_ne.2 (hF.no j hj (by omega)), iF, aG hj hn]
  exact ih q (j + 1) (by omega) (by omega)
theorem Mn {fs : List ah} (hn : fs.length < 1000000000) {id : Int} (hF : ∀ (q : Nat) (h : q < fs.length), fs[q].id ≠ id) : ∀ (m f j : Nat), j + m = fs.length → m < f →
  ∃ g, fG fs id f (j : Int) = some (g, false) := by
 intro m
 induction m with
 | zero =>
  intro f j h hf
  obtain ⟨q, rfl⟩ := fu hf
  rw [fG, Ei (by omega), iF]
  exact ⟨_, rfl⟩
 | succ m ih =>
  intro f j h hf
  obtain ⟨q, rfl⟩ := fu hf
  have hj : j < fs.length := by omega
  rw [fG, bn hj, iT, aZ hj, bS, beq_eq_false_iff_ne.2 (hF j hj), iF, aG hj hn]
  exact ih q (j + 1) (by omega) (by omega)
theorem BI {fs : List ah} (hn : fs.length < 1000000000) {id : Int} {i : Nat} (hF : HN fs id i) : wl fs id = some (fs[i]'hF.lt, true) := by
 have h := LS hn hF i aV 0 (by omega) (by rw [sB]; have := hF.lt; omega)
 exact h
theorem A5 {fs : List ah} (hn : fs.length < 1000000000) {id : Int} (hF : ∀ (q : Nat) (h : q < fs.length), fs[q].id ≠ id) : ∃ g, wl fs id = some (g, false) := by
 obtain ⟨g, h⟩ := Mn hn hF fs.length aV 0 (by omega) (by rw [sB]; omega)
 exact ⟨g, h⟩
def yh (a b : bk) : Bool := (a.source == b.source) && (((a.transform.kind == b.transform.kind) && ((a.transform.param == b.transform.param) && true)) && true)
theorem Dp (a b : bk) : yh a b = true ↔ a = b := by
 obtain ⟨s, k, p⟩ := a
 obtain ⟨s2, k2, p2⟩ := b
 simp [yh, and_assoc]
theorem Gz (a b : bk) : yh a b = yh b a := by
 rw [Bool.eq_iff_iff, Dp, Dp]; exact eq_comm
theorem Ni {l : List bk} (hn : l.length < 1000000000) (e : bk) : ∀ (m f j : Nat), j + m = l.length → m < f → ∃ r, aS l e f (j : Int) = some r ∧ decide ((0 : Int) ≤ r) = (l.drop j).any (yh e) := by
 intro m
 induction m with
 | zero =>
  intro f j h hf
  obtain ⟨q, rfl⟩ := fu hf
  rw [aS, Ei (by omega), iF]
  exact ⟨-1, rfl, by rw [List.drop_of_length_le (by omega)]; rfl⟩
 | succ m ih =>
  intro f j h hf
  obtain ⟨q, rfl⟩ := fu hf
  have hj : j < l.length := by omega
  rw [aS, bn hj, iT, aZ hj, bS, bS, List.drop_eq_getElem_cons hj, List.any_cons]
  show ∃ r, aA (yh e l[j]) _ _ = _ ∧ _
  cases hb : yh e l[j] with
  | true => exact ⟨_, rfl, by simp⟩
  | false =>
   rw [iF, aG hj hn]
   exact ih q (j + 1) (by omega) (by omega)
theorem KC {l : List bk} (hn : l.length < 1000000000) (e : bk) : bU l e = some (l.any (yh e)) := by
 unfold bU dr
 obtain ⟨r, h1, h2⟩ := Ni hn e l.length aV 0 (by omega) (by rw [sB]; omega)
 rw [show ((0 : Nat) : Int) = 0 from rfl] at h1
 rw [h1, bS, h2]; rfl
theorem Nx {p : fq} (hn : p.fields.length < 1000000000) (rec1 : Int → Option Int) (x1 : Nat) (hx : x1 ≤ p.fields.length) (e : bk) : ∀ (m f j : Nat), j + m = x1 → m < f →
  gG rec1 p (x1 : Int) e f (j : Int) = if ((p.fields.take x1).drop j).any (yh e) = true then some 5 else nI rec1 (x1 : Int) := by
 intro m
 induction m with
 | zero =>
  intro f j h hf
  obtain ⟨q, rfl⟩ := fu hf
  rw [gG, Ei (by omega), iF, List.drop_of_length_le (by rw [List.length_take]; omega)]
  rfl
 | succ m ih =>
  intro f j h hf
  obtain ⟨q, rfl⟩ := fu hf
  have hj : j < p.fields.length := by omega
  have hj2 : j < (p.fields.take x1).length := by rw [List.length_take]; omega
  rw [gG, bn (show j < x1 by omega), iT, aZ hj, bS, bS, List.drop_eq_getElem_cons hj2, List.any_cons]
  rw [show (p.fields.take x1)[j] = p.fields[j] by simp]
  show aA (yh p.fields[j] e) _ _ = _
  rw [Gz]
  cases hb : yh e p.fields[j] with
  | true => simp [iT]
  | false =>
   rw [iF, aG (show j < x1 by omega) (by omega), ih q (j + 1) (by omega) (by omega)]
   simp
theorem Er {p : fq} {fs : List ah} (hp : p.fields.length < 1000000000) (hf : sizeF fs < 1000000000) : ∀ (m f j : Nat), j + m = p.fields.length → m < f →
  ∃ c, fD p fs f (j : Int) = some c ∧ ej p fs f (j : Int) = some c ∧ (c = 0 → ∀ (k : Nat) (h : k < p.fields.length), j ≤ k → ∃ i, HN fs p.fields[k].source i) := by
 have hn : fs.length < 1000000000 := by have := eg fs; omega
 intro m
 induction m with
 | zero =>
  intro f j h hq
  obtain ⟨q, rfl⟩ := fu hq
  refine ⟨0, ?_, ?_, fun _ k hk hj => by omega⟩
  ·rw [fD, Ei (by omega), iF]; rfl
  ·rw [ej, Ei (by omega), iF]; rfl
 | succ m ih =>
  intro f j h hq
  obtain ⟨q, rfl⟩ := fu hq
  have hj : j < p.fields.length := by omega
  rw [fD, ej, bn hj, iT, iT, aZ hj, bS, bS]
  rcases HN.or fs p.fields[j].source with ⟨i, hi⟩ | hi
  ·rw [rQ hn hi, BI hn hi, bS, bS]
   have hs : gi (fs[i]'hi.lt).type < 1000000000 := by
    have h1 := fm (List.getElem_mem hi.lt)
    have h2 := eM (fs[i]'hi.lt)
    omega
   obtain ⟨e, he, t1, t2⟩ := tt p.fields[j].transform (fs[i]'hi.lt).type hs
   rw [show decide ((i : Int) < 0) = false from by simp, iF, aZ hi.lt, bS, t1, bS]
   show ∃ c, _ ∧ aA (!true) _ _ = _ ∧ _
   rw [Bool.not_true, iF]
   show ∃ c, _ ∧ aD (eG p.fields[j].transform (fs[i]'hi.lt).type) _ = _ ∧ _
   rw [t2, bS]
   by_cases hz : (Gs p.fields[j].transform (fs[i]'hi.lt).type e).2 = 0
   ·rw [hz, show ((0 : Int) != 0) = false from rfl, iF, iF, gP ⟨by omega, by omega, by omega⟩]
    have hd : (List.take ((j : Int).toNat - (0 : Int).toNat) (List.drop (0 : Int).toNat p.fields)) = p.fields.take j := by simp
    rw [hd, KC (by rw [List.length_take]; omega), bS]
    have hr := Nx hp (ej p fs q) j (by omega) p.fields[j] j aV 0 (by omega) (by rw [sB]; omega)
    rw [show ((0 : Nat) : Int) = 0 from rfl, List.drop_zero] at hr
    rw [hr]
    cases hb : (p.fields.take j).any (yh p.fields[j]) with
    | true => exact ⟨5, rfl, rfl, fun h => absurd h (by decide)⟩
    | false =>
     obtain ⟨c, c1, c2, c3⟩ := ih q (j + 1) (by omega) (by omega)
     refine ⟨c, by rw [iF, aG hj hp]; exact c1, by
      rw [if_neg (by decide)]
      unfold nI
      rw [aG hj hp]; exact c2, fun hc k hk hjk => ?_⟩
     by_cases e : k = j
     ·subst e; exact ⟨i, hi⟩
     ·exact c3 hc k hk (by omega)
   ·have hne : ((Gs p.fields[j].transform (fs[i]'hi.lt).type e).2 != 0) = true := bne_iff_ne.2 hz
    rw [hne, iT, iT]
    exact ⟨_, rfl, rfl, fun h => absurd h hz⟩
  ·obtain ⟨g, hg⟩ := A5 hn hi
   rw [yx hn hi, hg, bS, bS, show decide ((-1 : Int) < 0) = true from rfl, iT]
   exact ⟨9, rfl, rfl, fun h => absurd h (by decide)⟩
theorem G6 (p : fq) {fs : List ah} (hp : p.fields.length < 1000000000) (hf : sizeF fs < 1000000000) : ∃ c, pM p fs = some c ∧ rl p fs = some c ∧ (c = 0 → ∀ (k : Nat) (h : k < p.fields.length), ∃ i, HN fs p.fields[k].source i) := by
 unfold pM rl
 cases hb : decide ((4 : Int) < (p.fields.length : Int)) with
 | true => exact ⟨7, rfl, rfl, fun h => absurd h (by decide)⟩
 | false =>
  rw [iF, iF]
  obtain ⟨c, h1, h2, h3⟩ := Er (p := p) hp hf p.fields.length aV 0 (by omega) (by rw [sB]; omega)
  exact ⟨c, h1, h2, fun hc k hk => h3 hc k hk (Nat.zero_le _)⟩
end Go.Proofs.YtbfekiekbifgcaaGreatDoor
