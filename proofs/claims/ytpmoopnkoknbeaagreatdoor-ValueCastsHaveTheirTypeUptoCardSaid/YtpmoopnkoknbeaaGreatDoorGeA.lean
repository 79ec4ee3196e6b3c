/- The shelf's contract of utf8.ValidString, laid at this program. The library of texts: its contracts of the shelf, laid at this program. Decimal numerals: what is read of what is written. Texts in quotes: a quote inside is written twice. Texts as lists of bytes. What the functions of Go's library of texts compute, and the reader's piece in quotes. The library of texts: what its functions compute, by the shelf's contracts. Printed by a program: what the functions compute, and the proofs of their contracts. The reader's piece in quotes: (*reader).quoted walks as quo says. Printed by a program: what the functions compute, and the proofs of their contracts. -/
import Derived.Test.YtpmoopnkoknbeaaGreatDoorProg
import Derived.Shelf.Strings.SlTrimAscii
import Derived.Shelf.Strconv.AtoiAll
import Derived.Shelf.Strconv.Itoa3
import Derived.Shelf.Strings.Repeat
import Derived.Shelf.Strings.Replace
import Derived.Shelf.Strings.Cut
import Derived.Shelf.Strings.BuilderK
import Derived.Shelf.Strings.OnBuilder
import Derived.Lib.AtoiAllCases
import Derived.Lib.ItoaNum
import Derived.Lib.Replace
import Derived.Lib.IndexMore
import Derived.Lib.Repeat
import Derived.Lib.SlTrimSet
import Derived.Lib.Join
import Derived.Lib.AtoiAll
import Derived.Lib.CountLaws
import Derived.Lib.AtoiErrMem
import Derived.Test.YtpmoopnkoknbeaaGreatDoorChecked
import Derived.WalkKit
import Derived.BigCall
import Derived.Test.YtpmoopnkoknbeaaGreatDoorSxC
set_option linter.unusedVariables false
set_option linter.unusedSimpArgs false
set_option linter.unnecessarySimpa false
namespace Go.Proofs.YtpmoopnkoknbeaaGreatDoor
open Go Go.SX Go.Shelf Go.Lib
def JQ : Ren where
 f := fun n => if n = 196 then 162 else if n = 259 then 192 else n
 t := fun n => if n = 0 then 0 else if n = 3 then 3 else if n = 4 then 4 else if n = 5 then 5 else if n = 9 then 9 else if n = 12 then 12 else if n = 46 then 173 else if n = 53 then 86 else if n = 119 then 196 else if n = 138 then 198 else if n = 139 then 199 else n
 g := fun n => if n = 3 then 3 else if n = 4 then 4 else n
set_option maxRecDepth 100000 in
theorem Ig : Lays.n196 Tryz.prog JQ where
 mixed := by kernel_rfl
 f196 := by kernel_rfl
 f259 := by kernel_rfl
 t0 := by kernel_rfl
 a0 := fun w => by kernel_rfl
 z0 := fun w => by kernel_rfl
 v0 := fun w => by kernel_rfl
 t3 := by kernel_rfl
 a3 := fun w => by kernel_rfl
 z3 := fun w => by kernel_rfl
 v3 := fun w => by kernel_rfl
 t4 := by kernel_rfl
 a4 := fun w => by kernel_rfl
 z4 := fun w => by kernel_rfl
 v4 := fun w => by kernel_rfl
 t5 := by kernel_rfl
 a5 := fun w => by kernel_rfl
 z5 := fun w => by kernel_rfl
 v5 := fun w => by kernel_rfl
 t9 := by kernel_rfl
 a9 := fun w => by kernel_rfl
 z9 := fun w => by kernel_rfl
 v9 := fun w => by kernel_rfl
 t12 := by kernel_rfl
 a12 := fun w => by kernel_rfl
 z12 := fun w => by kernel_rfl
 v12 := fun w => by kernel_rfl
 t46 := by kernel_rfl
 a46 := fun w => by kernel_rfl
 z46 := fun w => by kernel_rfl
 v46 := fun w => by kernel_rfl
 t53 := by kernel_rfl
 a53 := fun w => by kernel_rfl
 z53 := fun w => by kernel_rfl
 v53 := fun w => by kernel_rfl
 t119 := by kernel_rfl
 a119 := fun w => by kernel_rfl
 z119 := fun w => by kernel_rfl
 t138 := by kernel_rfl
 a138 := fun w => by kernel_rfl
 z138 := fun w => by kernel_rfl
 v138 := fun w => by kernel_rfl
 t139 := by kernel_rfl
 a139 := fun w => by kernel_rfl
 z139 := fun w => by kernel_rfl
 v139 := fun w => by kernel_rfl
 g3 := by kernel_rfl
 g4 := by kernel_rfl
def utf8_ValidString (p1 : ByteArray) : Option Bool := bI (p1.size ≤ 9223372036854775807) <| some (validD p1.data.toList)
theorem od (p1 : ByteArray) (r : Bool) (h : utf8_ValidString p1 = some r) : PC Tryz.prog 162 [vs p1] (vb r) := by
 unfold utf8_ValidString at h
 obtain ⟨g1, h⟩ := gx h
 obtain rfl := Option.some.inj h
 exact xz Ig (by kernel_rfl) (by kernel_rfl) p1 g1
end Go.Proofs.YtpmoopnkoknbeaaGreatDoor
namespace Go.Proofs.YtpmoopnkoknbeaaGreatDoor
open Go Go.SX Go.Shelf Go.Lib Go.Proofs Go.RowKit
def uR9 : Ren where
 f := fun n => if n = 99 then 168 else if n = 105 then 131 else if n = 119 then 205 else if n = 129 then 194 else if n = 137 then 204 else if n = 138 then 132 else if n = 143 then 133 else if n = 145 then 80 else if n = 151 then 158 else if n = 152 then 187 else if n = 154 then 96 else if n = 155 then 52 else if n = 156 then 54 else if n = 161 then 79 else if n = 165 then 98 else if n = 166 then 81 else if n = 169 then 82 else if n = 170 then 169 else if n = 171 then 50 else if n = 172 then 78 else if n = 195 then 170 else if n = 197 then 134 else if n = 205 then 186 else if n = 206 then 151 else if n = 212 then 167 else if n = 217 then 188 else if n = 218 then 171 else if n = 219 then 159 else if n = 220 then 124 else if n = 224 then 190 else if n = 225 then 189 else if n = 227 then 121 else if n = 228 then 157 else if n = 231 then 120 else if n = 233 then 122 else if n = 235 then 123 else if n = 240 then 125 else if n = 241 then 137 else if n = 243 then 94 else if n = 244 then 118 else if n = 245 then 119 else if n = 246 then 130 else if n = 247 then 152 else if n = 260 then 172 else if n = 263 then 198 else if n = 264 then 174 else if n = 266 then 206 else if n = 267 then 191 else if n = 276 then 160 else if n = 277 then 173 else if n = 279 then 153 else if n = 280 then 154 else if n = 281 then 155 else if n = 282 then 156 else if n = 283 then 163 else if n = 284 then 164 else if n = 285 then 165 else if n = 286 then 166 else if n = 287 then 184 else if n = 314 then 207 else if n = 316 then 185 else if n = 317 then 193 else if n = 318 then 195 else if n = 319 then 196 else if n = 320 then 197 else if n = 321 then 202 else if n = 322 then 203 else if n = 337 then 208 else if n = 338 then 209 else n
 t := fun n => if n = 0 then 0 else if n = 2 then 2 else if n = 3 then 3 else if n = 4 then 4 else if n = 5 then 5 else if n = 9 then 9 else if n = 20 then 20 else if n = 21 then 21 else if n = 31 then 70 else if n = 37 then 100 else if n = 46 then 173 else if n = 51 then 202 else if n = 53 then 86 else if n = 59 then 103 else if n = 70 then 99 else if n = 72 then 102 else if n = 75 then 95 else if n = 76 then 96 else if n = 80 then 60 else if n = 85 then 159 else if n = 105 then 138 else if n = 109 then 174 else if n = 116 then 128 else if n = 117 then 129 else if n = 119 then 196 else if n = 124 then 132 else if n = 127 then 133 else if n = 138 then 198 else if n = 139 then 199 else if n = 143 then 209 else if n = 145 then 211 else if n = 146 then 205 else if n = 148 then 178 else if n = 164 then 166 else if n = 167 then 158 else if n = 168 then 161 else if n = 171 then 168 else if n = 173 then 171 else if n = 175 then 189 else if n = 210 then 192 else if n = 212 then 201 else if n = 213 then 203 else if n = 232 then 214 else if n = 233 then 215 else n
 g := fun n => if n = 1 then 2 else if n = 3 then 3 else if n = 4 then 4 else if n = 15 then 0 else if n = 16 then 1 else if n = 17 then 5 else if n = 18 then 6 else if n = 19 then 7 else n
set_option maxRecDepth 100000 in
theorem Ng : LaysM.n171 Tryz.prog uR9 := by constructor <;> intros <;> first | kernel_rfl | (constructor <;> intros <;> kernel_rfl)
set_option maxRecDepth 100000 in
theorem M7 : Lays.n105 Tryz.prog uR9 := by constructor <;> intros <;> kernel_rfl
set_option maxRecDepth 100000 in
theorem Nd : Lays.n155 Tryz.prog uR9 := by constructor <;> intros <;> kernel_rfl
set_option maxRecDepth 100000 in
theorem Kj : Lays.n156 Tryz.prog uR9 := by constructor <;> intros <;> kernel_rfl
set_option maxRecDepth 100000 in
theorem M6 : Lays.n161 Tryz.prog uR9 := by constructor <;> intros <;> kernel_rfl
set_option maxRecDepth 100000 in
theorem Ku : LaysC.n172 Tryz.prog uR9 := by constructor <;> intros <;> first | kernel_rfl | (constructor <;> intros <;> first | kernel_rfl | (constructor <;> intros <;> kernel_rfl))
set_option maxRecDepth 100000 in
theorem LK : Lays.n145 Tryz.prog uR9 := by constructor <;> intros <;> kernel_rfl
set_option maxRecDepth 100000 in
theorem MV : Lays.n169 Tryz.prog uR9 := by constructor <;> intros <;> kernel_rfl
set_option maxRecDepth 100000 in
theorem LY : Lays.n166 Tryz.prog uR9 := by constructor <;> intros <;> kernel_rfl
theorem JS : Builder.Extra Tryz.prog uR9 where
 sizeBuilder := by kernel_rfl
 liesBuilder := by kernel_rfl
 t5 := by kernel_rfl
 a5 := fun w => by kernel_rfl
 z5 := fun w => by kernel_rfl
 v5 := fun w => by kernel_rfl
 infoByte := by kernel_rfl
 cellsByte := by kernel_rfl
 sizeByte := by kernel_rfl
 neB5 := by decide
end Go.Proofs.YtpmoopnkoknbeaaGreatDoor
namespace Go.PX
open Go.Lib
def oC (b : UInt8) : Bool := Nat.ble 48 b.toNat && Nat.ble b.toNat 57
theorem se (b : UInt8) : oC b = true ↔ 48 ≤ b.toNat ∧ b.toNat ≤ 57 := by simp [oC]
def step (a : Nat) (b : UInt8) : Nat := a * 10 + (b.toNat - 48)
def num (a : Nat) (l : List UInt8) : Nat := l.foldl step a
theorem mW (a : Nat) (b : UInt8) (l : List UInt8) : num a (b :: l) = num (a * 10 + (b.toNat - 48)) l := by unfold num; rw [List.foldl_cons, step]
theorem zQ (a : Nat) : num a [] = a := rfl
theorem s7 (l r : List UInt8) (a : Nat) : num a (l ++ r) = num (num a l) r := by unfold num; rw [List.foldl_append]
theorem Is : ∀ (l : List UInt8) (a : Nat), a ≤ num a l
 | [], a => Nat.le_refl _
 | b :: l, a => by
  rw [mW]
  exact Nat.le_trans (by omega) (Is l (a * 10 + (b.toNat - 48)))
theorem HC : ∀ (l : List UInt8) (a k : Nat), l.all oC = true → a < 10 ^ k → num a l < 10 ^ (k + l.length)
 | [], a, k, _, h => h
 | b :: l, a, k, hd, h => by
  simp only [List.all_cons, Bool.and_eq_true, se] at hd
  have := HC l (a * 10 + (b.toNat - 48)) (k + 1) hd.2 (by rw [Nat.pow_succ]; omega)
  simp only [mW, List.length_cons]
  rw [show k + (l.length + 1) = k + 1 + l.length by omega]
  exact this
theorem xb : ∀ (l : List UInt8) (a : Nat), l.all oC = true → num a l < 18446744073709551616 → parseUint10 a l = .ok (num a l)
 | [], a, _, _ => rfl
 | b :: l, a, hd, h => by
  simp only [List.all_cons, Bool.and_eq_true, se] at hd
  have h1 := Is l (a * 10 + (b.toNat - 48))
  simp only [mW] at h
  simp only [parseUint10, mW, if_pos hd.1]
  rw [if_neg (by omega), if_neg (by omega)]
  exact xb l _ hd.2 h
def kN (k u : Nat) : List UInt8 := List.replicate (k - (decDigits u).length) 48 ++ decDigits u
theorem vy (d : Nat) (h : d < 10) : oC (UInt8.ofNat (48 + d)) = true ∧ (UInt8.ofNat (48 + d)).toNat - 48 = d := by
 have : (UInt8.ofNat (48 + d)).toNat = 48 + d := by
  simp only [UInt8.toNat_ofNat']
  omega
 exact ⟨(se _).2 (by omega), by omega⟩
theorem ij (u : Nat) : (decDigits u).all oC = true ∧ num 0 (decDigits u) = u ∧ decDigits u ≠ [] := by
 induction u using Nat.strongRecOn with
 | _ u ih =>
  rw [decDigits]
  by_cases h : u < 10
  ·rw [dif_pos h]
   have := vy u h
   simp only [List.all_cons, List.all_nil, Bool.and_true, mW, zQ, Nat.zero_mul, Nat.zero_add]
   exact ⟨this.1, this.2, by simp⟩
  ·rw [dif_neg h]
   obtain ⟨h1, h2, h3⟩ := ih (u / 10) (by omega)
   have := vy (u % 10) (Nat.mod_lt _ (by decide))
   refine ⟨by simp only [List.all_append, h1, List.all_cons, List.all_nil, Bool.and_true, Bool.true_and]; exact this.1, ?_, by simp⟩
   rw [s7, h2]
   simp only [mW, zQ, this.2]
   omega
theorem ze : ∀ k : Nat, num 0 (List.replicate k 48) = 0
 | 0 => rfl
 | k + 1 => by rw [List.replicate_succ, mW]; exact ze k
theorem ng (u k : Nat) (hk : 1 ≤ k) (h : u < 10 ^ k) : (decDigits u).length ≤ k := by
 induction k generalizing u with
 | zero => omega
 | succ k ih =>
  rw [decDigits]
  by_cases h1 : u < 10
  ·rw [dif_pos h1]; simp
  ·rw [dif_neg h1]
   by_cases hk0 : k = 0
   ·subst hk0; simp at h; omega
   ·have := ih (u / 10) (by omega) (by rw [Nat.pow_succ] at h; omega)
    simp; omega
theorem nZ (k u : Nat) : (kN k u).all oC = true ∧ num 0 (kN k u) = u ∧ kN k u ≠ [] := by
 obtain ⟨h1, h2, h3⟩ := ij u
 refine ⟨?_, by unfold kN; rw [s7, ze, h2], by unfold kN; simp [h3]⟩
 unfold kN
 rw [List.all_append, h1, Bool.and_true, List.all_eq_true]
 intro b hb
 obtain ⟨_, rfl⟩ := List.mem_replicate.1 hb
 rfl
theorem pW (k u : Nat) (hk : 1 ≤ k) (h : u < 10 ^ k) : (kN k u).length = k := by
 have := ng u k hk h
 unfold kN
 simp
 omega
theorem tB (k u : Nat) : k ≤ (kN k u).length := by
 unfold kN
 simp
 omega
theorem Dn (k m u : Nat) (hm : 1 ≤ m) (hk : k ≤ m) (h : u < 10 ^ m) : (kN k u).length ≤ m := by
 have := ng u m hm h
 unfold kN
 simp
 omega
theorem GV {l : List UInt8} (hd : l.all oC = true) (h0 : l ≠ []) (h : num 0 l < 9223372036854775808) : atoiAll l = .ok (num 0 l : Int) := by
 match l, h0 with
 | c :: r, _ =>
  have hc := hd
  simp only [List.all_cons, Bool.and_eq_true, se] at hc
  rw [atoiAll_plain c r (by omega) (by omega)]
  unfold parseMag
  rw [if_neg (by simp), xb _ _ hd (by omega)]
  unfold signless
  simp only
  rw [if_neg (by omega)]
theorem H1 {l : List UInt8} (hd : l.all oC = true) (h0 : l ≠ []) (h : num 0 l < 9223372036854775808) : atoiAll (45 :: l) = .ok (-(num 0 l : Int)) := by
 rw [atoiAll_minus]
 unfold parseMag
 rw [if_neg h0, xb _ _ hd (by omega)]
 unfold signed
 simp only
 rw [if_neg (by omega)]
def sg (n : Int) (l : List UInt8) : List UInt8 := if n < 0 then 45 :: l else l
theorem Jk {n : Int} {l : List UInt8} (hd : l.all oC = true) (h0 : l ≠ []) (hn : num 0 l = n.natAbs) (h : n.natAbs < 9223372036854775808) : atoiAll (sg n l) = .ok n := by
 unfold sg
 split
 ·rw [H1 hd h0 (by omega), hn]; congr 1; omega
 ·rw [GV hd h0 (by omega), hn]; congr 1; omega
theorem Jv (n : Int) : itoa n = sg n (decDigits n.natAbs) := by
 unfold itoa sg
 split
 ·rfl
 ·congr 1; omega
end Go.PX
namespace Go.PX
open Go.Lib
def rA : List UInt8 → List UInt8
 | [] => []
 | b :: l => if b = 39 then 39 :: 39 :: rA l else b :: rA l
theorem split (s : List UInt8) : (index s [39] = -1 ∧ 39 ∉ s) ∨ ∃ a r, s = a ++ 39 :: r ∧ 39 ∉ a ∧ index s [39] = (a.length : Int) := by
 induction s with
 | nil => exact .inl ⟨by rfl, by simp⟩
 | cons b l ih =>
  by_cases hb : b = 39
  ·subst hb
   exact .inr ⟨[], l, rfl, by simp, by simp [index]⟩
  ·have h0 : List.isPrefixOf [39] (b :: l) = false := by
    unfold List.isPrefixOf
    have : ((39 : UInt8) == b) = false := by simpa using Ne.symm hb
    rw [this]; rfl
   rcases ih with ⟨h1, h2⟩ | ⟨a, r, rfl, h1, h2⟩
   ·exact .inl ⟨by simp only [index, h0, h1]; rfl, by simp [h2, Ne.symm hb]⟩
   ·refine .inr ⟨b :: a, r, rfl, by simp [h1, Ne.symm hb], ?_⟩
    have : ¬ ((index (a ++ 39 :: r) [39] == -1) = true) := by rw [h2]; simp
    rw [index, h0, if_neg (by simp), if_neg this, h2]
    simp
theorem Ch {s : List UInt8} (h : 39 ∉ s) : rA s = s := by
 induction s with
 | nil => rfl
 | cons b l ih =>
  simp only [List.mem_cons, not_or] at h
  simp [rA, Ne.symm h.1, ih h.2]
theorem EV (a b : List UInt8) : rA (a ++ b) = rA a ++ rA b := by
 induction a with
 | nil => rfl
 | cons x l ih =>
  simp only [List.cons_append, rA, ih]
  split <;> rfl
theorem wN (s : List UInt8) : (rA s).length ≤ 2 * s.length := by
 induction s with
 | nil => simp [rA]
 | cons b l ih => simp only [rA]; split <;> simp <;> omega
theorem zi : ∀ (f : Nat) (s : List UInt8), s.length < f → replaceK [39] [39, 39] (countFrom [39] f s) s = rA s ∧ countFrom [39] f s ≤ s.length
 | 0, s, h => absurd h (Nat.not_lt_zero _)
 | f + 1, s, h => by
  rcases split s with ⟨h1, h2⟩ | ⟨a, r, rfl, h1, h2⟩
  ·have e : countFrom [39] (f + 1) s = 0 := by simp [countFrom, h1]
   rw [e]
   exact ⟨by simp [replaceK, Ch h2], Nat.zero_le _⟩
  ·have hne : ¬ ((index (a ++ 39 :: r) [39] == -1) = true) := by rw [h2]; simp
   have hd : (a ++ 39 :: r).drop (a.length + 1) = r := by
    rw [List.drop_append]; simp
   have e : countFrom [39] (f + 1) (a ++ 39 :: r) = 1 + countFrom [39] f r := by
    rw [countFrom, if_neg hne]
    simp only [h2, Int.toNat_natCast, List.length_singleton, hd]
   have hl : r.length < f := by simp at h; omega
   obtain ⟨i1, i2⟩ := zi f r hl
   rw [e, Nat.add_comm]
   refine ⟨?_, by simp; omega⟩
   rw [replaceK_hit _ _ _ _ a.length h2]
   simp only [List.length_singleton, hd, i1]
   rw [EV, Ch h1]
   simp [rA, List.take_append]
theorem xR (s : List UInt8) : replaceAll s [39] [39, 39] = rA s ∧ count s [39] ≤ s.length := by
 have h := zi (s.length + 1) s (by omega)
 refine ⟨?_, h.2⟩
 unfold replaceAll replace
 rw [if_neg (by simp)]
 unfold replaceNum
 rw [if_pos (.inl (by decide))]
 exact h.1
def quo : List UInt8 → List UInt8 → List UInt8 → List UInt8 × List UInt8 × Bool
 | cur, acc, [] => ([], cur, true)
 | cur, acc, [b] => if b = 39 then (acc, [], false) else ([], cur, true)
 | cur, acc, b :: c :: r => if b = 39 then (if c = 39 then quo r (acc ++ [39]) r else (acc, c :: r, false)) else quo cur (acc ++ [b]) (c :: r)
theorem qf (cur acc : List UInt8) : quo cur acc [] = ([], cur, true) := by simp [quo]
theorem pe {b : UInt8} (h : b ≠ 39) (cur acc r : List UInt8) : quo cur acc (b :: r) = quo cur (acc ++ [b]) r := by
 cases r with
 | nil => simp [quo, h]
 | cons c r => simp [quo, h]
theorem ue (cur acc r : List UInt8) : quo cur acc (39 :: 39 :: r) = quo r (acc ++ [39]) r := by simp [quo]
theorem uv (cur acc r : List UInt8) (h : r.head? ≠ some 39) : quo cur acc (39 :: r) = (acc, r, false) := by
 cases r with
 | nil => simp [quo]
 | cons c r => simp at h; simp [quo, h]
theorem xY : ∀ (a cur acc r : List UInt8), 39 ∉ a → quo cur acc (a ++ r) = quo cur (acc ++ a) r
 | [], cur, acc, r, _ => by simp
 | b :: a, cur, acc, r, h => by
  simp only [List.mem_cons, not_or] at h
  rw [List.cons_append, pe (Ne.symm h.1), xY a cur _ r h.2]
  simp
theorem zK : ∀ (s cur acc rest : List UInt8), rest.head? ≠ some 39 → quo cur acc (rA s ++ 39 :: rest) = (acc ++ s, rest, false)
 | [], cur, acc, rest, h => by simp [rA, uv _ _ _ h]
 | b :: s, cur, acc, rest, h => by
  by_cases hb : b = 39
  ·subst hb
   simp only [rA, if_true, List.cons_append, ue]
   rw [zK s _ _ rest h]; simp
  ·simp only [rA, if_neg hb, List.cons_append]
   rw [pe hb, zK s _ _ rest h]; simp
theorem A8 : ∀ (n : Nat) (s cur acc : List UInt8), s.length ≤ n → (quo cur acc s).2.1.length ≤ max cur.length s.length ∧ (quo cur acc s).1.length ≤ acc.length + s.length
 | 0, s, cur, acc, h => by
  have : s = [] := List.length_eq_zero_iff.1 (by omega)
  subst this
  rw [qf]; simp
 | n + 1, s, cur, acc, h => by
  match s with
  | [] => rw [qf]; simp
  | b :: r =>
   simp at h
   by_cases hb : b = 39
   ·subst hb
    by_cases hr : r.head? = some 39
    ·match r, hr with
     | c :: r, hr =>
      simp at hr; subst hr
      rw [ue]
      have := A8 n r r (acc ++ [39]) (by simp at h; omega)
      simp at this ⊢
      omega
    ·rw [uv _ _ _ hr]; simp; omega
   ·rw [pe hb]
    have := A8 n r cur (acc ++ [b]) h
    simp at this ⊢
    omega
end Go.PX
namespace Go.PX
open Go Go.SX
abbrev bs (l : List UInt8) : ByteArray := ⟨l.toArray⟩
theorem vF (s : ByteArray) : bs s.data.toList = s := by
 obtain ⟨⟨l⟩⟩ := s
 rfl
theorem aE (l : List UInt8) : (bs l).size = l.length := by show (l.toArray).size = _; simp
theorem rR (l : List UInt8) : (bs l).toList = l := by rw [ByteArray.toList_eq]
theorem ba_ext {a b : ByteArray} (h : a.data.toList = b.data.toList) : a = b := by
 obtain ⟨⟨l⟩⟩ := a
 obtain ⟨⟨r⟩⟩ := b
 simp at h
 rw [h]
theorem gS (l r : List UInt8) : bs l ++ bs r = bs (l ++ r) := by
 apply ba_ext
 simp [ByteArray.data_append]
theorem lh (l : List UInt8) (a b : Nat) : (bs l).extract a b = bs ((l.take b).drop a) := by
 apply ba_ext
 rw [ByteArray.data_extract]
 simp [List.drop_take]
theorem nr (l r : List UInt8) : ((bs l).toList == (bs r).toList) = decide (l = r) := by
 rw [rR, rR, Bool.eq_iff_iff]; simp
theorem bT {β : Type} {p : Prop} [Decidable p] (h : p) (x : Option β) : bI p x = x := by simp [bI, h]
theorem ar {β : Type} (b : Bool) (x y : Option β) : ax b x y = if b = true then x else y := by cases b <;> rfl
def pre : List UInt8 → List UInt8 → Bool
 | [], _ => true
 | _ :: _, [] => false
 | a :: l, b :: r => a == b && pre l r
theorem i8 : ∀ (p s : List UInt8), pre p s = true ↔ p.length ≤ s.length ∧ s.take p.length = p
 | [], s => by simp [pre]
 | a :: l, [] => by simp [pre]
 | a :: l, b :: r => by
  have := i8 l r
  simp only [pre, Bool.and_eq_true, beq_iff_eq, this, List.length_cons, List.take_succ_cons, List.cons.injEq]
  constructor
  ·rintro ⟨rfl, h1, h2⟩; exact ⟨by omega, rfl, h2⟩
  ·rintro ⟨h1, rfl, h2⟩; exact ⟨rfl, by omega, h2⟩
theorem iG (p r : List UInt8) : pre p (p ++ r) = true := (i8 _ _).2 ⟨by simp, by simp⟩
def off (p s : List UInt8) : List UInt8 := if pre p s then s.drop p.length else s
theorem jZ (p r : List UInt8) : off p (p ++ r) = r := by unfold off; rw [iG]; simp
theorem kB (p s : List UInt8) : (off p s).length ≤ s.length := by unfold off; split <;> simp
end Go.PX
namespace Go.Proofs.YtpmoopnkoknbeaaGreatDoor
open Go Go.PX Go.SX
def strconv_Itoa (p1 : Int) : Option ByteArray := bI (-9223372036854775808 ≤ p1 ∧ p1 ≤ 9223372036854775807) <| some (bs (Lib.itoa p1))
def strings_Repeat (p1 : ByteArray) (p2 : Int) : Option ByteArray := bI (0 ≤ p2 ∧ p2 ≤ 1000000000 ∧ p1.size ≤ 1000) <| some (bs (Lib.repeatL p1.data.toList p2.toNat))
def strings_ReplaceAll (p1 p2 p3 : ByteArray) : Option ByteArray := bI (p1.size ≤ 1000000000 ∧ 1 ≤ p2.size ∧ p1.size + Lib.countB p1 p2 * p3.size ≤ 140737488355328) <| some (bs (Lib.replaceAll p1.data.toList p2.data.toList p3.data.toList))
def jQ (p1 p2 : ByteArray) : Option ByteArray := bI (p2.size ≤ 1000 ∧ p2.data.toList.all (fun b => decide (b.toNat < 128)) = true) <| some (bs (Lib.trimLeftS p1.data.toList p2.data.toList))
def strings_Join (p1 : List ByteArray) (p2 : ByteArray) : Option ByteArray := bI (p1.length ≤ 1000000000 ∧ (Lib.join (p1.map (·.data.toList)) p2.data.toList).length ≤ 140737488355328) <| some (bs (Lib.join (p1.map (·.data.toList)) p2.data.toList))
def gy (l : List UInt8) : Int × Bool := match Lib.atoiAll l with
 | .ok v => (v, false)
 | .range => (Lib.atoiSat l, true)
 | _ => (0, true)
def nN (p1 : ByteArray) : Option (Int × Bool) := bI (p1.size ≤ 1000000000) <| some (gy p1.data.toList)
def ga (p1 : aO) : Option (ByteArray × aO) := bI (p1.s.size ≤ 1000000000) <|
 some (bs (quo p1.s.data.toList [] p1.s.data.toList).1, ⟨bs (quo p1.s.data.toList [] p1.s.data.toList).2.1, p1.bad || (quo p1.s.data.toList [] p1.s.data.toList).2.2⟩)
end Go.Proofs.YtpmoopnkoknbeaaGreatDoor
namespace Go.Proofs.YtpmoopnkoknbeaaGreatDoor
open Go Go.PX Go.SX Go.Shelf Go.Lib Go.Proofs Go.RowKit
theorem C3 (w : World) (k : Nat) (os : Array Obj) : Below w.heap.size w (Sort.grow (w.drewN k) os) :=
 ⟨rfl, rfl, rfl, by simp [Sort.grow, World.drewN], fun x hx => by
  show (w.heap ++ os)[x]? = w.heap[x]?
  rw [Array.getElem?_append_left hx]⟩
abbrev GW (w : World) : Prop := ∀ (b : Nat) (l : List Value), xU b = some l → ID w b l
theorem Kt {w : World} {nm : String} (h : GW w) (hn : Tryz.prog.globalNamed nm = some 5) : Lib.TabIs Tryz.prog w nm .u64 Lib.pow10Tab := by
 obtain ⟨ty, fz, h3⟩ := (h 5 yx (by kernel_rfl)).2.2 (by kernel_rfl)
 unfold Lib.TabIs World.var?
 rw [hn]
 simp only [Option.bind_some, h3]
 rfl
theorem GT {w : World} (h : GW w) : ∃ m, w.cell? ⟨uR9.g 1, 0, none⟩ = some (.int .i64 m) := by
 obtain ⟨v, h1, m, rfl⟩ := (h 2 [] (by kernel_rfl)).2.1 (by decide)
 exact ⟨m, h1⟩
theorem Li {w : World} (h : GW w) : ∃ t p, w.cell? ⟨uR9.g 15, 0, none⟩ = some (.iface t p) := by
 obtain ⟨v, h1, t, p, rfl⟩ := (h 0 [] (by kernel_rfl)).2.1 (by decide)
 exact ⟨t, p, h1⟩
theorem Kz {w : World} (h : GW w) : ∃ t p, w.cell? ⟨uR9.g 16, 0, none⟩ = some (.iface t p) := by
 obtain ⟨v, h1, t, p, rfl⟩ := (h 1 [] (by kernel_rfl)).2.1 (by decide)
 exact ⟨t, p, h1⟩
theorem lJ (p1 : Int) : CT Tryz.prog 50 [vi p1] (strconv_Itoa p1) vs := by
 intro r h
 unfold strconv_Itoa at h
 obtain ⟨g1, h⟩ := gx h
 obtain rfl := Option.some.inj h
 exact PC.below (us := [.int .i64 p1]) rfl fun w hw => (Any.strconv_Itoa Ng p1 g1.1 g1.2 w (Kt hw (by kernel_rfl))).mono (by rintro e w' ⟨rfl, k, os, rfl⟩; exact ⟨rfl, C3 _ _ _⟩)
theorem vZ (p1 : ByteArray) (p2 : Int) : CT Tryz.prog 131 [vs p1, vi p2] (strings_Repeat p1 p2) vs := by
 intro r h
 unfold strings_Repeat at h
 obtain ⟨g1, h⟩ := gx h
 obtain rfl := Option.some.inj h
 obtain ⟨h1, h2, h3⟩ := g1
 obtain ⟨c, rfl⟩ : ∃ c : Nat, p2 = (c : Int) := ⟨p2.toNat, by omega⟩
 have hm : p1.size * c ≤ 140737488355328 := by
  have := Nat.mul_le_mul h3 (show c ≤ 1000000000 by omega)
  omega
 exact PC.below (us := [.string p1, .int .i64 c]) rfl fun w hw => Any.strings_Repeat M7 JS p1 c w (by omega) hm
theorem ri (p1 p2 p3 : ByteArray) : CT Tryz.prog 52 [vs p1, vs p2, vs p3] (strings_ReplaceAll p1 p2 p3) vs := by
 intro r h
 unfold strings_ReplaceAll at h
 obtain ⟨g1, h⟩ := gx h
 obtain rfl := Option.some.inj h
 exact PC.below (us := [.string p1, .string p2, .string p3]) rfl fun w hw => by
  obtain ⟨m, hm⟩ := GT hw
  exact Any.strings_ReplaceAll Nd JS p1 p2 p3 m w (by omega) hm g1.2.1 g1.2.2
theorem tn (p1 p2 : ByteArray) : CT Tryz.prog 79 [vs p1, vs p2] (jQ p1 p2) vs := by
 intro r h
 unfold jQ at h
 obtain ⟨g1, h⟩ := gx h
 obtain rfl := Option.some.inj h
 exact PC.below (us := [.string p1, .string p2]) rfl fun w hw => Any.strings_TrimLeft_laid M6 (by kernel_rfl) p1 p2 w (by omega) (ascii_of_all g1.2)
theorem xp (p1 : List ByteArray) (p2 : ByteArray) : CT Tryz.prog 54 [vl eS p1, vs p2] (strings_Join p1 p2) vs := by
 intro r h
 unfold strings_Join at h
 obtain ⟨g1, h⟩ := gx h
 obtain rfl := Option.some.inj h
 intro ι w vs0 hR hA
 have key : Calls Tryz.prog 54 vs0.toArray w fun e w' => e = .returned (.string (bs (Lib.join (p1.map (·.data.toList)) p2.data.toList))) ∧ Below w.heap.size w w' := by
  obtain ⟨hl, hA⟩ := hA
  match vs0, hl with
  | [x, y], _ =>
   have hy := bj (hA 1 y _ rfl rfl)
   subst hy
   have hx := hA 0 x _ rfl rfl
   cases hx with
   | one _ _ hx => cases hx with
    | pv _ _ hx =>
     generalize he : eS.els p1 = els at hx
     have hels : els = p1.map fun s => [.s (.string s)] := by rw [← he, eS.hels]; rfl
     cases hx with
     | nl =>
      have : p1 = [] := by simpa using hels.symm
      subst this
      exact (Any.strings_Join_none Kj JS none 0 p2 w).mono (by rintro e w' ⟨rfl, rfl⟩; exact ⟨rfl, Below.refl _ _⟩)
     | ro a cap sz _ vf hcap hsz hb hc hv =>
      have hlen : els.length = p1.length := by rw [hels]; simp
      rw [hlen]
      rw [hlen] at hcap
      match p1, hels, hlen, hcap, g1 with
      | [], _, _, _, _ => exact (Any.strings_Join_none Kj JS (some a) cap p2 w).mono (by rintro e w' ⟨rfl, rfl⟩; exact ⟨rfl, Below.refl _ _⟩)
      | s0 :: p1, hels, hlen, hcap, g1 =>
       have hsz1 : sz = 1 := by
        have := hsz [.s (.string s0)] (by rw [hels]; simp)
        simpa using this.symm
       subst hsz1
       have hcell : ∀ (j : Nat) s, (s0 :: p1)[j]? = some s → w.cell? (a.add j) = some (.string s) := by
        intro j s hs
        have e1 : els[j]? = some [.s (.string s)] := by rw [hels, List.getElem?_map, hs]; rfl
        have h1 := hc j _ 0 _ e1 rfl
        have h2 := hv j _ 0 _ e1 rfl
        rw [Nat.mul_one, Nat.add_zero] at h1
        generalize vf j 0 = z at h1 h2
        cases h2
        exact h1
       have hsp : a.spot = none := by
        have h1 := hcell 0 s0 rfl
        cases hq : a.spot with
        | none => rfl
        | some q =>
         have e0 : a.add 0 = a := by unfold Addr.add; rw [if_pos rfl]
         rw [e0] at h1
         unfold World.cell? at h1
         rw [hq] at h1
         split at h1 <;> simp at h1
       obtain ⟨b, o, sp⟩ := a
       simp only at hsp
       subst hsp
       have hne : els ≠ [] := by rw [hels]; simp
       exact Any.strings_Join Kj JS b o cap (s0 :: p1) p2 w (fun j s hs => by
        have := hcell j s hs
        unfold Addr.add at this
        by_cases hj : j = 0
        ·subst hj; simpa using this
        ·rw [if_neg hj] at this; exact this) (hb hne).1 (by omega) hcap g1.2
 refine key.mono ?_
 rintro e w' ⟨rfl, hb⟩
 have hx : lV w w' := ⟨hb.os, hb.tape, hb.output, hb.size, fun b hlt => hb.block b hlt⟩
 exact ⟨_, _, [], ι, rfl, ⟨rfl, rfl⟩, hR.ext hx, .one _ _ (.pv _ _ (.s _ rfl)), (hx.keeps ι []).weaken (fun _ _ => trivial)⟩
theorem xj (p1 : ByteArray) : CE Tryz.prog 78 [vs p1] (nN p1) := by
 intro r h
 unfold nN at h
 obtain ⟨g1, h⟩ := gx h
 obtain rfl := Option.some.inj h
 intro ι w vs0 hR hA
 obtain rfl := pV (us := [.string p1]) (by simpa using hA.1) hA.2
 have hw : GW w := fun b l hb => (hR.gl b l hb).2.2
 have key : Calls Tryz.prog 78 #[.string p1] w fun e w' => ∃ er, zd (gy p1.data.toList).2 er ∧ e = .returned (.tuple #[.int .i64 (gy p1.data.toList).1, er]) ∧ Below w.heap.size w w' := by
  unfold gy
  cases ha : Lib.atoiAll p1.data.toList with
  | ok v =>
   refine (Any.strconv_Atoi_ok Ku p1 (by omega) v ha w).mono ?_
   rintro e w' ⟨rfl, hb⟩
   refine ⟨.nilIface, .inl ⟨rfl, rfl⟩, rfl, ?_⟩
   rcases hb with rfl | ⟨t, rfl⟩
   ·exact Below.refl _ _
   ·exact Lib.bytesWorld_below _ _ _
  | range =>
   obtain ⟨t, p, hc⟩ := Kz hw
   refine (Any.strconv_Atoi_range Ku p1 (by omega) ha _ w hc (.inr ⟨t, p, rfl⟩)).mono ?_
   rintro e w' ⟨N, rfl, _, _, hb⟩
   exact ⟨_, .inr ⟨rfl, _, _, rfl⟩, rfl, hb⟩
  | _ =>
   obtain ⟨t, p, hc⟩ := Li hw
   refine (Any.strconv_Atoi_syntax Ku p1 (by omega) ha _ w hc (.inr ⟨t, p, rfl⟩)).mono ?_
   rintro e w' ⟨N, rfl, _, _, hb⟩
   exact ⟨_, .inr ⟨rfl, _, _, rfl⟩, rfl, hb⟩
 refine key.mono ?_
 rintro e w' ⟨er, hE, rfl, hb⟩
 have hx : lV w w' := ⟨hb.os, hb.tape, hb.output, hb.size, fun b hlt => hb.block b hlt⟩
 refine ⟨_, _, [], ι, rfl, ⟨⟨er, hE, rfl⟩, rfl⟩, hR.ext hx, aK.tp [.int .i64 _, er] _ rfl (fun j v a h1 h2 => ?_), (hx.keeps ι []).weaken (fun _ _ => trivial)⟩
 match j with
 | 0 => simp at h1 h2; subst h1; subst h2; exact .one _ _ (.pv _ _ (.s _ rfl))
 | 1 => simp at h1 h2; subst h1; subst h2; exact .one _ _ (.pv _ _ (.s _ hE.plain))
 | j + 2 => simp at h1
end Go.Proofs.YtpmoopnkoknbeaaGreatDoor
namespace Go.Proofs.YtpmoopnkoknbeaaGreatDoor
open Go.SX Go
set_option maxRecDepth 100000
set_option maxHeartbeats 8000000
def mH (x1 : Bool) : Option Bool := some x1
def mb (p1 : af) : Option Bool := ax (p1.kind != 6) (mH (p1.kind != 7)) (mH false)
theorem pP (p1 : af) : CT Tryz.prog 64 [.ag [ci p1.kind, ci p1.scale, cl ay p1.fields]] (mb p1) vb :=
  eK 11 [] Tryz.f64 fun r => (uQ (kS Tryz.f64 [1,0] 1) fun K2 hK2 => have hJ1 : ∀ (x1 : Bool), mH x1 = some r → K2.p [(2, vb x1)] [] := fun x1 h => hK2 h (uR .ret xF); (uC (uJ (hJ1 (p1.kind != 7))) (uJ (hJ1 false))))
def dT (x1 : Bool) : Option Bool := some x1
def nI (p1 : Int) : Option Bool := ax (decide (p1 < (97 : Int))) (ax (decide (p1 < (48 : Int))) (dT (p1 != 95)) (ax (decide ((57 : Int) < p1)) (dT (p1 != 95)) (dT false))) (ax (decide ((122 : Int) < p1)) (ax (decide (p1 < (48 : Int))) (dT (p1 != 95)) (ax (decide ((57 : Int) < p1)) (dT (p1 != 95)) (dT false))) (dT false))
theorem yq (p1 : Int) : CT Tryz.prog 149 [vk .i32 p1] (nI p1) vb :=
  eK 21 [] Tryz.f149 fun r => (uQ (kS Tryz.f149 [1,0] 1) fun K2 hK2 => have hJ1 : ∀ (x1 : Bool), dT x1 = some r → K2.p [(2, vb x1)] [] := fun x1 h => hK2 h (uR .ret xF); (uC (uC (uJ (hJ1 (p1 != 95))) (uC (uJ (hJ1 (p1 != 95))) (uJ (hJ1 false)))) (uC (uC (uJ (hJ1 (p1 != 95))) (uC (uJ (hJ1 (p1 != 95))) (uJ (hJ1 false)))) (uJ (hJ1 false)))))
def fZ : Option Int := some (-1 : Int)
def bg (p1 : ByteArray) (p2 : Bool) : Nat → Nat → Option Int
 | 0, _ => none
 | k1 + 1, z1 => ax (decide (z1 < p1.size)) (az (nI (Int.ofNat (Utf8.decode p1 z1).1)) fun r1 => ax (r1 == p2) (some (Int.ofNat z1)) ((bg p1 p2 k1) (z1 + (Utf8.decode p1 z1).2))) (fZ)
def eh (p1 : ByteArray) (p2 : Bool) : Option Int := bg p1 p2 aW 0
theorem kq (p1 : ByteArray) (p2 : Bool) : CT Tryz.prog 201 [vs p1, .one (.pv (.fn 149 [])), vb p2] (eh p1 p2) vi :=
  eK 21 [] Tryz.f201 fun r => (uQ (kS Tryz.f201 [1,0] 1) fun K2 hK2 => have hJ1 : ∀ (_ : Unit), fZ = some r → K2.p [] [] := fun _ h => hK2 h (uR .ret xF); (Nt p1 (uO (cd Tryz.f201 [1,0,1,0,0]) (kS Tryz.f201 [1,0,1,0] 1) fun R1 b1 => have hL1 : ∀ (k1 z1 : Nat), bg p1 p2 k1 z1 = some r → (R1 k1).p [(1, .one (.pv (.fn 149 []))), (2, vb p2), (10, .one (.pt 0 0 0 0))] [.raw (.stringIter p1 z1)] := by intro k1; induction k1 with | zero => intro z1 h; exact mg (bg.eq_1 ..) h | succ k1 ih1 => intro z1 h; exact b1 h (uU (bg.eq_2 ..) (Nv 0 (fun b5 => (uT (uP (yq _) fun r1 _ => (uC (uR .ret (xN (xN xF))) (uJ (ih1 (z1 + (Utf8.decode p1 z1).2))))))) (fun b5 => (uF (uR (.exit 0) (xM (uJ (hJ1 ()))))))))
 uE (hL1 aW 0))))
def ej (p1 : ByteArray) : Option Int := az (eh p1 true) fun r1 => some r1
theorem kv (p1 : ByteArray) : CT Tryz.prog 183 [vs p1, .one (.pv (.fn 149 []))] (ej p1) vi :=
  eK 8 [] Tryz.f183 fun r => (uP (kq _ _) fun r1 _ => (uR .ret xF))
def dI (p1 : ByteArray) : Option Bool := az (ej p1) fun r1 => some (decide ((0 : Int) ≤ r1))
theorem jB (p1 : ByteArray) : CT Tryz.prog 150 [vs p1, .one (.pv (.fn 149 []))] (dI p1) vb :=
  eK 9 [] Tryz.f150 fun r => (uP (kv _) fun r1 _ => (uR .ret xF))
def jc (p1 : ByteArray) (x1 : Bool) : Option Bool := ax x1 (some false) (az (dI p1) fun r1 => some (!r1))
def pQ (p1 : ByteArray) : Option Bool := ax (p1.toList == (ByteArray.mk #[]).toList) (jc p1 true) (ax (decide ((24 : Int) < (p1.size : Int))) (jc p1 true) (bI (0 ≤ (0 : Int) ∧ (0 : Int) < (p1.size : Int)) <| az (some (decide (((p1.data.toList.getD (0 : Int).toNat 0).toNat : Int) < (97 : Int)))) fun y1 => ax y1 (jc p1 true) (bI (0 ≤ (0 : Int) ∧ (0 : Int) < (p1.size : Int)) <| az (some (decide ((122 : Int) < ((p1.data.toList.getD (0 : Int).toNat 0).toNat : Int)))) fun y2 => jc p1 y2)))
theorem zY (p1 : ByteArray) : CT Tryz.prog 115 [vs p1] (pQ p1) vb :=
  eK 25 [] Tryz.f115 fun r => (uQ (kS Tryz.f115 [1,0,0] 2) fun K3 hK3 => have hJ1 : ∀ (x1 : Bool), jc p1 x1 = some r → K3.p [(0, vs p1), (20, vb x1)] [] := fun x1 h => hK3 h (uC (uR .ret xF) (uP (jB _) fun r1 _ => (uR .ret xF))); (uC (uJ (hJ1 true)) (uC (uJ (hJ1 true)) (uG (uY 14 vb fun y1 => (uC (uJ (hJ1 true)) (uG (uY 19 vb fun y2 => (uJ (hJ1 y2))))))))))
def n6 (p1 : aL) : Option Bool := az (pQ p1.name) fun r1 => some (!r1)
theorem vL (p1 : aL) : CT Tryz.prog 114 [.ag [ci p1.id, eQ p1.name, cb p1.need, ci p1.type.kind, ci p1.type.scale, cl ay p1.type.fields]] (n6 p1) vb :=
  eK 7 [] Tryz.f114 fun r => (uP (zY _) fun r1 _ => (uR .ret xF))
def cO : Option Int := some (-1 : Int)
def aq (p1 : (List aL)) : Nat → Int → Option Int
 | 0, _ => none
 | k1 + 1, x1 => ax (decide (x1 < (p1.length : Int))) (az (at? p1 x1) fun e1 => az (n6 e1) fun r1 => ax r1 (some x1) ((aq p1 k1) (IntKind.i64.wrap (x1 + 1)))) (cO)
def bK (p1 : (List aL)) : Option Int := aq p1 aW (0 : Int)
theorem fq (p1 : (List aL)) : CT Tryz.prog 148 [vl ay p1, .one (.pv (.fn 114 []))] (bK p1) vi :=
  eK 19 [] Tryz.f148 fun r => (uQ (kS Tryz.f148 [1,0] 1) fun K2 hK2 => have hJ1 : ∀ (_ : Unit), cO = some r → K2.p [] [] := fun _ h => hK2 h (uR .ret xF); (uN ay p1 (uO (cd Tryz.f148 [1,0,1,0,0]) (kS Tryz.f148 [1,0,1,0] 1) fun R1 b1 => have hL1 : ∀ (k1 : Nat) (x1 : Int), aq p1 k1 x1 = some r → (R1 k1).p [(0, vl ay p1), (1, .one (.pv (.fn 114 []))), (7, vi (p1.length : Int)), (8, vi x1)] [] := by intro k1; induction k1 with | zero => intro x1 h; exact mg (aq.eq_1 ..) h | succ k1 ih1 => intro x1 h; exact b1 h (uU (aq.eq_2 ..) (uC (uL ay fun e1 a10 => (uP (vL _) fun r1 _ => (uC (uR .ret (xN (xN xF))) (uJ (ih1 (IntKind.i64.wrap (x1 + 1))))))) (uR (.exit 0) (xM (uJ (hJ1 ()))))))
 uE (hL1 aW (0 : Int)))))
def bf (p1 : (List aL)) : Option Bool := az (bK p1) fun r1 => some (decide ((0 : Int) ≤ r1))
theorem eZ (p1 : (List aL)) : CT Tryz.prog 113 [vl ay p1, .one (.pv (.fn 114 []))] (bf p1) vb :=
  eK 9 [] Tryz.f113 fun r => (uP (fq _) fun r1 _ => (uR .ret xF))
def oa (p1 p2 : aL) : Option (Bool × aL) := some ((p1.name.toList == p2.name.toList), p2)
theorem vu (p1 p2 : aL) : CM Tryz.prog 116 [.ag [ci p1.id, eQ p1.name, cb p1.need, ci p1.type.kind, ci p1.type.scale, cl ay p1.type.fields], .one (.pt 0 0 0 0)] [.box [ci p2.id, eQ p2.name, cb p2.need, ci p2.type.kind, ci p2.type.scale, cl ay p2.type.fields]] (oa p1 p2) (fun r => vb r.1) (fun r => [.box [ci r.2.id, eQ r.2.name, cb r.2.need, ci r.2.type.kind, ci r.2.type.scale, cl ay r.2.type.fields]]) :=
  rB 1 9 [] Tryz.f116 fun r => (uR .ret sL)
def bE (z7 : Int) (z8 : ByteArray) (z9 : Bool) (z10 z11 : Int) (z12 : List aL) : Option (Int × aL) := some ((-1 : Int), (nj.mk z7 z8 z9 (af.mk z10 z11 z12)))
def al (p1 : (List aL)) : Nat → Int → ByteArray → Bool → Int → Int → List aL → Int → Option (Int × aL)
 | 0, _, _, _, _, _, _, _ => none
 | k1 + 1, z1, z2, z3, z4, z5, z6, x1 => ax (decide (x1 < (p1.length : Int))) (az (at? p1 x1) fun e1 => az (oa e1 (nj.mk z1 z2 z3 (af.mk z4 z5 z6))) fun r1 => ax r1.1 (some (x1, r1.2)) ((al p1 k1) r1.2.id r1.2.name r1.2.need r1.2.type.kind r1.2.type.scale r1.2.type.fields (IntKind.i64.wrap (x1 + 1)))) (bE z1 z2 z3 z4 z5 z6)
def bJ (p1 : (List aL)) (p2 : aL) : Option (Int × aL) := al p1 aW p2.id p2.name p2.need p2.type.kind p2.type.scale p2.type.fields (0 : Int)
theorem fv (p1 : (List aL)) (p2 : aL) : CM Tryz.prog 148 [vl ay p1, .one (.fn 116 [.pt 0 0 0 0])] [.box [ci p2.id, eQ p2.name, cb p2.need, ci p2.type.kind, ci p2.type.scale, cl ay p2.type.fields]] (bJ p1 p2) (fun r => vi r.1) (fun r => [.box [ci r.2.id, eQ r.2.name, cb r.2.need, ci r.2.type.kind, ci r.2.type.scale, cl ay r.2.type.fields]]) :=
  rB 1 19 [] Tryz.f148 fun r => (uQ (kS Tryz.f148 [1,0] 1) fun K2 hK2 => have hJ1 : ∀ (z7 : Int) (z8 : ByteArray) (z9 : Bool) (z10 z11 : Int) (z12 : List aL), bE z7 z8 z9 z10 z11 z12 = some r → K2.p [] [.box [ci z7, eQ z8, cb z9, ci z10, ci z11, cl ay z12]] := fun z7 z8 z9 z10 z11 z12 h => hK2 h (uR .ret sL); (uN ay p1 (uO (cd Tryz.f148 [1,0,1,0,0]) (kS Tryz.f148 [1,0,1,0] 1) fun R1 b1 => have hL1 : ∀ (k1 : Nat) (z1 : Int) (z2 : ByteArray) (z3 : Bool) (z4 z5 : Int) (z6 : List aL) (x1 : Int), al p1 k1 z1 z2 z3 z4 z5 z6 x1 = some r → (R1 k1).p [(0, vl ay p1), (1, .one (.fn 116 [.pt 0 0 0 0])), (7, vi (p1.length : Int)), (8, vi x1)] [.box [ci z1, eQ z2, cb z3, ci z4, ci z5, cl ay z6]] := by intro k1; induction k1 with | zero => intro z1 z2 z3 z4 z5 z6 x1 h; exact mg (al.eq_1 ..) h | succ k1 ih1 => intro z1 z2 z3 z4 z5 z6 x1 h; exact b1 h (uU (al.eq_2 ..) (uC (uL ay fun e1 a10 => (mX true [0] (vu _ _) fun r1 _ => (uC (uR .ret (xN (xN sL))) (uJ (ih1 r1.2.id r1.2.name r1.2.need r1.2.type.kind r1.2.type.scale r1.2.type.fields (IntKind.i64.wrap (x1 + 1))))))) (uR (.exit 0) (xM (uJ (hJ1 z1 z2 z3 z4 z5 z6))))))
 uE (hL1 aW p2.id p2.name p2.need p2.type.kind p2.type.scale p2.type.fields (0 : Int)))))
def be (p1 : (List aL)) (p2 : aL) : Option (Bool × aL) := az (bJ p1 p2) fun r1 => some ((decide ((0 : Int) ≤ r1.1)), r1.2)
theorem fc (p1 : (List aL)) (p2 : aL) : CM Tryz.prog 113 [vl ay p1, .one (.fn 116 [.pt 0 0 0 0])] [.box [ci p2.id, eQ p2.name, cb p2.need, ci p2.type.kind, ci p2.type.scale, cl ay p2.type.fields]] (be p1 p2) (fun r => vb r.1) (fun r => [.box [ci r.2.id, eQ r.2.name, cb r.2.need, ci r.2.type.kind, ci r.2.type.scale, cl ay r.2.type.fields]]) :=
  rB 1 9 [] Tryz.f113 fun r => (mX true [0] (fv _ _) fun r1 _ => (uR .ret sL))
def kF (x1 : Bool) : Option Int := ax x1 (some (1 : Int)) (some (0 : Int))
def qG : Option Int := some (0 : Int)
def cY (p1 : af) : Nat → Int → Option Int
 | 0, _ => none
 | k1 + 1, x2 => ax (decide (x2 < (p1.fields.length : Int))) (az (at? p1.fields x2) fun e2 => bI (0 ≤ (0 : Int) ∧ (0 : Int) ≤ x2 ∧ x2 ≤ (p1.fields.length : Int)) <| az (be ((p1.fields.drop (0 : Int).toNat).take (x2.toNat - (0 : Int).toNat)) e2) fun r2 => ax r2.1 (some (5 : Int)) ((cY p1 k1) (IntKind.i64.wrap (x2 + 1)))) (qG)
def nH (p1 : af) : Option Int := ax (p1.kind == 6) (ax ((p1.fields.length : Int) != 1) (kF true) (az (at? p1.fields (0 : Int)) fun e1 => kF (!(e1.name.toList == (ByteArray.mk #[]).toList)))) (ax (p1.kind != 7) (ax (decide ((0 : Int) < (p1.fields.length : Int))) (some (1 : Int)) (some (0 : Int))) (ax ((p1.fields.length : Int) == 0) (some (1 : Int)) (az (bf p1.fields) fun r1 => ax r1 (some (4 : Int)) (cY p1 aW (0 : Int)))))
theorem xf (p1 : af) : CT Tryz.prog 76 [.ag [ci p1.kind, ci p1.scale, cl ay p1.fields]] (nH p1) vi :=
  eK 52 [4] Tryz.f76 fun r => (uC (uQ (kS Tryz.f76 [1,0,0,1,0,0,0] 4) fun K6 hK6 => have hJ1 : ∀ (x1 : Bool), kF x1 = some r → K6.p [(20, vb x1)] [] := fun x1 h => hK6 h (uC (uR .ret xF) (uR .ret xF)); (uN ay p1.fields (uC (uJ (hJ1 true)) (uL ay fun e1 a8 => (uJ (hJ1 (!(e1.name.toList == (ByteArray.mk #[]).toList)))))))) (uC (uN ay p1.fields (uC (uR .ret xF) (uR .ret xF))) (uN ay p1.fields (uC (uR .ret xF) (uP (eZ _) fun r1 _ => (uC (uR .ret xF) (uQ (kS Tryz.f76 [1,1,1,0] 1) fun K27 hK27 => have hJ2 : ∀ (_ : Unit), qG = some r → K27.p [] [] := fun _ h => hK27 h (uR .ret xF); (uN ay p1.fields (uO (cd Tryz.f76 [1,1,1,0,1,0,0]) (kS Tryz.f76 [1,1,1,0,1,0] 1) fun R1 b1 => have hL1 : ∀ (k1 : Nat) (x2 : Int), cY p1 k1 x2 = some r → (R1 k1).p [(1, .one (.pv (.rp [[pi p1.kind, pi p1.scale, .ro (ay.els p1.fields)]] 0 0))), (38, vl ay p1.fields), (39, vi (p1.fields.length : Int)), (40, vi x2)] [] := by intro k1; induction k1 with | zero => intro x2 h; exact mg (cY.eq_1 ..) h | succ k1 ih1 => intro x2 h; exact b1 h (uU (cY.eq_2 ..) (uC (uL ay fun e2 a34 => (uX ay (mX true [0] (fc _ _) fun r2 _ => (uC (uR .ret (xN (xN xF))) (uJ (ih1 (IntKind.i64.wrap (x2 + 1)))))))) (uR (.exit 1) (xM (uJ (hJ2 ()))))))
 uE (hL1 aW (0 : Int)))))))))))
def lB (z3 : Int) : Option (Int × cc) := some ((0 : Int), (cc.mk z3))
def bR (q_value_checker_check : af → Int → cc → Option (Int × cc)) (p1 : af) (p2 : Int) : Nat → Int → Int → Option (Int × cc)
 | 0, _, _ => none
 | k1 + 1, z2, x4 => ax (decide (x4 < (p1.fields.length : Int))) (az (at? p1.fields x4) fun e1 => az (q_value_checker_check e1.type (IntKind.i64.wrap (p2 + 1)) (cc.mk z2)) fun r4 => ax (r4.1 != 0) (some (r4.1, r4.2)) ((bR q_value_checker_check p1 p2 k1) r4.2.leaves (IntKind.i64.wrap (x4 + 1)))) (lB z2)
def cV (q_value_checker_check : af → Int → cc → Option (Int × cc)) (p1 : af) (p2 z1 : Int) (x3 : Bool) : Option (Int × cc) := ax x3 (some ((1 : Int), (cc.mk z1))) (az (nH p1) fun r3 => ax (r3 != 0) (some (r3, (cc.mk z1))) (bR q_value_checker_check p1 p2 aW z1 (0 : Int)))
def gg (q_value_checker_check : af → Int → cc → Option (Int × cc)) (p1 : af) (p2 z1 : Int) (x2 : Bool) : Option (Int × cc) := ax x2 (some ((3 : Int), (cc.mk z1))) (ax (p1.scale != 0) (ax (p1.kind != 3) (cV q_value_checker_check p1 p2 z1 true) (ax (decide (p1.scale < (0 : Int))) (cV q_value_checker_check p1 p2 z1 true) (cV q_value_checker_check p1 p2 z1 (decide ((12 : Int) < p1.scale))))) (cV q_value_checker_check p1 p2 z1 false))
def dH (q_value_checker_check : af → Int → cc → Option (Int × cc)) (p1 : af) (p2 z1 : Int) : Option (Int × cc) := ax (decide (p1.kind < (1 : Int))) (gg q_value_checker_check p1 p2 z1 true) (gg q_value_checker_check p1 p2 z1 (decide ((7 : Int) < p1.kind)))
def dG (q_value_checker_check : af → Int → cc → Option (Int × cc)) (p1 : af) (p2 : Int) (p3 : cc) (x1 : Bool) : Option (Int × cc) := ax x1 (some ((7 : Int), p3)) (az (mb p1) fun r2 => ax r2 (dH q_value_checker_check p1 p2 (IntKind.i64.wrap (p3.leaves + 1))) (dH q_value_checker_check p1 p2 p3.leaves))
def aQ : Nat → af → Int → cc → Option (Int × cc)
 | 0, _, _, _ => none
 | k0 + 1, p1, p2, p3 => ax (decide ((4 : Int) < p2)) (dG (aQ k0) p1 p2 p3 true) (az (mb p1) fun r1 => ax r1 (dG (aQ k0) p1 p2 p3 (p3.leaves == 40)) (dG (aQ k0) p1 p2 p3 false))
abbrev bA (p1 : af) : List PV := [pi p1.kind, pi p1.scale, .ro (ay.els p1.fields)]
theorem lY : ∀ (k0 : Nat) (p1 : af) (p2 : Int) (p3 : cc), CM Tryz.prog 39 [.one (.pt 0 0 0 0), .ag [ci p1.kind, ci p1.scale, cl ay p1.fields], vi p2] [.box [ci p3.leaves]] (aQ k0 p1 p2 p3) (fun r => vi r.1) (fun r => [.box [ci r.2.leaves]])
  | 0, _, _, _ => IQ (aQ.eq_1 ..)
  | k0 + 1, p1, p2, p3 => rB 1 83 [9] Tryz.f39 fun r => (uU (aQ.eq_2 ..) (uQ (kS Tryz.f39 [1,0,0] 2) fun K3 hK3 => have hJ1 : ∀ (x1 : Bool), dG (aQ k0) p1 p2 p3 x1 = some r → K3.p [(0, .one (.pt 0 0 0 0)), (2, vi p2), (4, .one (.pv (.rp [(bA p1)] 0 0))), (23, vb x1)] [.box [ci p3.leaves]] := fun x1 h => hK3 h (uC (uR .ret sL) (uQ (kS Tryz.f39 [1,1,0] 1) fun K9 hK9 => have hJ2 : ∀ (z1 : Int), dH (aQ k0) p1 p2 z1 = some r → K9.p [(0, .one (.pt 0 0 0 0)), (2, vi p2), (4, .one (.pv (.rp [(bA p1)] 0 0)))] [.box [ci z1]] := fun z1 h => hK9 h (uQ (kS Tryz.f39 [1,1,1,0,0,0] 3) fun K14 hK14 => have hJ3 : ∀ (x2 : Bool), gg (aQ k0) p1 p2 z1 x2 = some r → K14.p [(0, .one (.pt 0 0 0 0)), (2, vi p2), (4, .one (.pv (.rp [(bA p1)] 0 0))), (33, vb x2)] [.box [ci z1]] := fun x2 h => hK14 h (uC (uR .ret sL) (uQ (kS Tryz.f39 [1,1,1,0,0,1,1,0] 3) fun K18 hK18 => have hJ4 : ∀ (x3 : Bool), cV (aQ k0) p1 p2 z1 x3 = some r → K18.p [(0, .one (.pt 0 0 0 0)), (2, vi p2), (4, .one (.pv (.rp [(bA p1)] 0 0))), (42, vb x3)] [.box [ci z1]] := fun x3 h => hK18 h (uC (uR .ret sL) (uP (xf _) fun r3 _ => (uC (uR .ret sL) (uQ (kS Tryz.f39 [1,1,1,1,1,0] 1) fun K30 hK30 => have hJ5 : ∀ (z3 : Int), lB z3 = some r → K30.p [] [.box [ci z3]] := fun z3 h => hK30 h (uR .ret sL); (uN ay p1.fields (uO (cd Tryz.f39 [1,1,1,1,1,0,1,0,0]) (kS Tryz.f39 [1,1,1,1,1,0,1,0] 1) fun R1 b1 => have hL1 : ∀ (k1 : Nat) (z2 x4 : Int), bR (aQ k0) p1 p2 k1 z2 x4 = some r → (R1 k1).p [(0, .one (.pt 0 0 0 0)), (2, vi p2), (67, vl ay p1.fields), (68, vi (p1.fields.length : Int)), (69, vi x4)] [.box [ci z2]] := by intro k1; induction k1 with | zero => intro z2 x4 h; exact mg (bR.eq_1 ..) h | succ k1 ih1 => intro z2 x4 h; exact b1 h (uU (bR.eq_2 ..) (uC (uL ay fun e1 a37 => (mX true [0] (lY k0 _ _ _) fun r4 _ => (uC (uR .ret (xN (xN sL))) (uJ (ih1 r4.2.leaves (IntKind.i64.wrap (x4 + 1))))))) (uR (.exit 1) (xM (uJ (hJ5 z2))))))
 uE (hL1 aW z1 (0 : Int)))))))); (uC (uC (uJ (hJ4 true)) (uC (uJ (hJ4 true)) (uJ (hJ4 (decide ((12 : Int) < p1.scale)))))) (uJ (hJ4 false))))); (uC (uJ (hJ3 true)) (uJ (hJ3 (decide ((7 : Int) < p1.kind)))))); (uP (pP _) fun r2 _ => (uC (uJ (hJ2 (IntKind.i64.wrap (p3.leaves + 1)))) (uJ (hJ2 p3.leaves)))))); (uC (uJ (hJ1 true)) (uP (pP _) fun r1 _ => (uC (uJ (hJ1 (p3.leaves == 40))) (uJ (hJ1 false)))))))
def bC (p1 : af) : Option Int := az (aQ aW p1 (1 : Int) (cc.mk (0 : Int))) fun r1 => some r1.1
theorem gM (p1 : af) : CT Tryz.prog 21 [.ag [ci p1.kind, ci p1.scale, cl ay p1.fields]] (bC p1) vi :=
  eK 9 [5] Tryz.f21 fun r => (mX true [0] (lY aW _ _ _) fun r1 _ => (uR .ret xF))
def ce (x1 : Bool) : Option Bool := some x1
def bZ (p1 p2 : ByteArray) : Option Bool := ax (decide ((p2.size : Int) ≤ (p1.size : Int))) (bI (0 ≤ (0 : Int) ∧ (0 : Int) ≤ (p2.size : Int) ∧ (p2.size : Int) ≤ (p1.size : Int)) <| az (some ((p1.extract (0 : Int).toNat (p2.size : Int).toNat).toList == p2.toList)) fun y1 => ce y1) (ce false)
theorem lT (p1 p2 : ByteArray) : CT Tryz.prog 151 [vs p1, vs p2] (bZ p1 p2) vb :=
  eK 18 [] Tryz.f151 fun r => (uQ (kS Tryz.f151 [1,0] 1) fun K2 hK2 => have hJ1 : ∀ (x1 : Bool), ce x1 = some r → K2.p [(4, vb x1)] [] := fun x1 h => hK2 h (uR .ret xF); (uC (uG (uY 16 vb fun y1 => (uJ (hJ1 y1)))) (uJ (hJ1 false))))
def dE (p1 p2 : ByteArray) : Option (ByteArray × Bool) := az (bZ p1 p2) fun r1 => ax (!r1) (some (p1, false)) (bI (0 ≤ (p2.size : Int) ∧ (p2.size : Int) ≤ (p1.size : Int) ∧ (p1.size : Int) ≤ (p1.size : Int)) <| some ((p1.extract (p2.size : Int).toNat (p1.size : Int).toNat), true))
theorem lR (p1 p2 : ByteArray) : CT Tryz.prog 117 [vs p1, vs p2] (dE p1 p2) (fun r => .tp [vs r.1, vb r.2]) :=
  eK 15 [] Tryz.f117 fun r => (uP (lT _ _) fun r1 _ => (uC (uR .ret xF) (uG (uR .ret xF))))
def jp (p1 p2 : ByteArray) : Option (ByteArray × Bool) := az (dE p1 p2) fun r1 => some (r1.1, r1.2)
theorem sF (p1 p2 : ByteArray) : CT Tryz.prog 77 [vs p1, vs p2] (jp p1 p2) (fun r => .tp [vs r.1, vb r.2]) :=
  eK 11 [] Tryz.f77 fun r => (uP (lR _ _) fun r1 _ => (uR .ret xF))
def fH (p2 : aO) (r1 : (ByteArray × Bool)) (z1 : ByteArray) : Option (Bool × aO) := some (r1.2, (aO.mk z1 p2.bad))
def cR (p1 : ByteArray) (p2 : aO) : Option (Bool × aO) := az (jp p2.s p1) fun r1 => ax r1.2 (fH p2 r1 r1.1) (fH p2 r1 p2.s)
theorem eL (p1 : ByteArray) (p2 : aO) : CM Tryz.prog 40 [.one (.pt 0 0 0 0), vs p1] [.box [eQ p2.s, cb p2.bad]] (cR p1 p2) (fun r => vb r.1) (fun r => [.box [eQ r.2.s, cb r.2.bad]]) :=
  rB 1 22 [] Tryz.f40 fun r => (uP (sF _ _) fun r1 _ => (uQ (kS Tryz.f40 [1,1,0] 1) fun K4 hK4 => have hJ1 : ∀ (z1 : ByteArray), fH p2 r1 z1 = some r → K4.p [(6, vb r1.2)] [.box [eQ z1, cb p2.bad]] := fun z1 h => hK4 h (uR .ret sL); (uC (uJ (hJ1 r1.1)) (uJ (hJ1 p2.s)))))
end Go.Proofs.YtpmoopnkoknbeaaGreatDoor
namespace Go.Proofs.YtpmoopnkoknbeaaGreatDoor
open Go Go.PX Go.SX Go.Shelf Go.Proofs Go.RowKit
theorem BT (p s : List UInt8) (bad : Bool) : cR (bs p) ⟨bs s, bad⟩ = some (pre p s, ⟨bs (off p s), bad⟩) := by
 have hp : bZ (bs s) (bs p) = some (pre p s) := by
  unfold bZ ce
  simp only [aE, ar]
  by_cases h : p.length ≤ s.length
  ·rw [if_pos (by simpa using h), bT (by omega), ae, lh, nr]
   congr 1
   rw [Bool.eq_iff_iff, i8]
   simp [h]
  ·rw [if_neg (by simpa using h)]
   congr 1
   rw [eq_comm, Bool.eq_false_iff]
   intro h2
   exact h ((i8 _ _).1 h2).1
 unfold cR fH jp dE
 simp only [hp, ae, ar]
 unfold off
 cases h : pre p s with
 | false => simp [az]
 | true =>
  have := ((i8 _ _).1 h).1
  simp only [aE, Bool.not_true, Bool.false_eq_true, if_false]
  rw [bT (by omega), lh]
  simp [az, ax]
def NU : Value → Nat
 | .string s => s.size
 | _ => 0
def Ko (b : Nat) (w : World) : Nat := NU ((w.cell? ⟨b, 0, none⟩).getD (.bool false))
theorem D8 {w : World} {b : Nat} {s : List UInt8} {y : Value} {ty : TypeId} {fz : Nat × Nat} (h : w.heap[b]? = some (.cells #[.string (bs s), y] ty fz)) : Ko b w = s.length := by
 unfold Ko; rw [Lib.cell_of_heap h]; exact aE s
theorem ur (B : Nat) (w : World) (k : Nat) : Below B w (w.drewN k) := ⟨rfl, rfl, rfl, Nat.le_refl _, fun _ _ => rfl⟩
set_option maxHeartbeats 4000000 in
set_option maxRecDepth 1000000 in
theorem BS (s : List UInt8) (bad : Bool) (hs : s.length ≤ 1000000000) (w : World) (b : Nat) (ty : TypeId) (hb : w.heap[b]? = some (.cells #[.string (bs s), .bool bad] ty (0, 0))) (hg : wh w b) :
  Calls Tryz.prog 44 #[.pointer (some ⟨b, 0, none⟩)] w fun e w' => e = .returned (.string (bs (quo s [] s).1)) ∧ j0 w w' b [.string (bs (quo s [] s).2.1), .bool (bad || (quo s [] s).2.2)] ty := by
 have hbl : b < w.heap.size := (Array.getElem?_eq_some_iff.1 hb).1
 have hB0 : j0 w w b [.string (bs s), .bool bad] ty := ⟨rfl, rfl, rfl, Nat.le_refl _, fun _ _ _ => rfl, hb⟩
 go_enter Tryz.func44, Tryz.ntmps44
 go_wp2
 go_loopw [] (fun wr => ∃ (u acc : List UInt8), Lib.IsBuilderF 102 5 w.heap.size w.heap.size (Lib.byteCells acc) wr ∧ j0 w wr b [.string (bs u), .bool bad] ty ∧ quo u acc u = quo s [] s ∧ acc.length + u.length ≤ s.length) (fun wr => Ko b wr)
 case atStart =>
  refine ⟨s, [], (Lib.IsBuilderF.of (Lib.fresh_isBuilder 102 5 w)), hB0.below hbl ((Below.refl _ w).alloc (Nat.le_refl _) _), rfl, by simp⟩
 case round =>
  obtain ⟨u, acc, hI, hBx, hq, hlen⟩ := hrel
  have hc0 : wr.cell? ⟨b, 0, none⟩ = some (.string (bs u)) := by rw [Lib.cell_of_heap hBx.at']; rfl
  have hf1 : wr.frozen? ⟨b, 1, none⟩ = false := Lib.frozen_of_heap hBx.at' 1
  have hgw := hg.to hBx
  obtain ⟨m, hm⟩ : ∃ m, wr.cell? ⟨uR9.g 1, 0, none⟩ = some (.int .i64 m) := GT (fun g l h => (hgw g l h).2.2)
  have hus : (bs u).size < 4294967281 := by rw [aE]; omega
  rcases split u with ⟨hx, hno⟩ | ⟨a, r, hu, hna, hx⟩
  ·have hcut : Lib.cut (bs u).data.toList (bs [39]).data.toList = (u, [], false) := by
    show Lib.cut u [39] = _
    unfold Lib.cut; rw [hx]; rfl
   have hq2 : quo s [] s = ([], u, true) := by
    rw [← hq]
    have := xY u u acc [] hno
    rw [List.append_nil] at this
    rw [this, qf]
   go_wp2_with (go_at_call 80; refine (Any.strings_Cut LK (bs u) (bs [39]) m _ hus hm).mono ?_)
   rintro e W1 rfl k rfl
   have hB1 : j0 w (wr.drewN k) b [.string (bs u), .bool bad] ty := hBx.below hbl (ur _ _ _)
   generalize wr.drewN k = W1 at hB1 ⊢
   have d1 : W1.cell? ⟨b, 1, none⟩ = some (.bool bad) := by rw [Lib.cell_of_heap hB1.at']; rfl
   have f1 : W1.frozen? ⟨b, 1, none⟩ = false := Lib.frozen_of_heap hB1.at' 1
   go_wp2
   go_ret
   rw [hq2]
   refine ⟨rfl, ?_⟩
   have := hB1.set1 (z := .bool true)
   simpa using this
  ·subst hu
   have hcut : Lib.cut (bs (a ++ 39 :: r)).data.toList (bs [39]).data.toList = (a, r, true) := by
    show Lib.cut (a ++ 39 :: r) [39] = _
    unfold Lib.cut; rw [hx, if_pos (by omega)]; simp [List.drop_append]
   have hla : (a ++ 39 :: r).length = a.length + 1 + r.length := by simp; omega
   go_wp2_with (go_at_call 80; refine (Any.strings_Cut LK (bs (a ++ 39 :: r)) (bs [39]) m _ hus hm).mono ?_)
   rintro e W1 rfl k rfl
   have hI1 : Lib.IsBuilderF 102 5 w.heap.size w.heap.size (Lib.byteCells acc) (wr.drewN k) := sj hI (fun _ _ _ => rfl)
   have hB1 : j0 w (wr.drewN k) b [.string (bs (a ++ 39 :: r)), .bool bad] ty := hBx.below hbl (ur _ _ _)
   generalize wr.drewN k = W1 at hI1 hB1 ⊢
   go_wp2_with (go_at_call 81; refine (Any.Builder_WriteString_k LY JS w.heap.size w.heap.size _ (bs a) _ hI1 (by rw [Lib.byteCells_length, aE]; omega) hB1.size).mono ?_)
   rintro e W2 ⟨rfl, h2, b2, _⟩
   have hI2 : Lib.IsBuilderF 102 5 w.heap.size w.heap.size (Lib.byteCells (acc ++ a)) W2 := by
    rw [Lib.byteCells_append]; exact Or.inr h2
   have hB2 := hB1.below hbl b2
   have d0 : W2.cell? ⟨b, 0, none⟩ = some (.string (bs (a ++ 39 :: r))) := by rw [Lib.cell_of_heap hB2.at']; rfl
   have f0 : W2.frozen? ⟨b, 0, none⟩ = false := Lib.frozen_of_heap hB2.at' 0
   have hB3 : j0 w (W2.setCell ⟨b, 0, none⟩ (.string (bs r))) b [.string (bs r), .bool bad] ty := hB2.set0
   have hI3 : Lib.IsBuilderF 102 5 w.heap.size w.heap.size (Lib.byteCells (acc ++ a)) (W2.setCell ⟨b, 0, none⟩ (.string (bs r))) := sj hI2 (fun x h1 h2 => Below.heap_setCell _ _ _ _ (fun e => by simp at e; omega))
   have hq2 : quo s [] s = quo (a ++ 39 :: r) (acc ++ a) (39 :: r) := by rw [← hq, xY _ _ _ _ hna]
   have hg3 := hg.to hB3
   cases hp : pre [39] r with
   | false =>
    have hne : r.head? ≠ some 39 := by
     intro h
     match r, h with
     | c :: r, h => simp at h; subst h; simp [pre] at hp
    rw [uv _ _ _ hne] at hq2
    have hoff : off [39] r = r := by unfold off; rw [hp]; rfl
    have htk := BT [39] r bad
    rw [hp, hoff] at htk
    go_wp2_with (go_at_call 40; refine (MC.box2 (us := [.string (bs [39])]) rfl (eL (bs [39]) ⟨bs r, bad⟩ _ htk) hB3.at' hg3).mono ?_)
    rintro e W4 rfl hB4
    have hI4 : Lib.IsBuilderF 102 5 w.heap.size w.heap.size (Lib.byteCells (acc ++ a)) W4 := sj hI3 (fun x h1 h2 => hB4.oth x h2 (by omega))
    have hB5 := hB3.trans hB4
    go_wp2_with (go_at_call 82; refine (Any.Builder_String_any_k MV JS w.heap.size w.heap.size (acc ++ a) _ hI4 hB5.size).mono ?_)
    rintro e W5 ⟨rfl, _, b5, _⟩
    go_wp2
    go_ret
    rw [hq2]
    refine ⟨rfl, ?_⟩
    have := hB5.below hbl b5
    simpa using this
   | true =>
    obtain ⟨r2, rfl⟩ : ∃ r2, r = 39 :: r2 := by
     match r, hp with
     | c :: r, hp => simp [pre] at hp; exact ⟨r, by rw [← hp]⟩
    rw [ue] at hq2
    have htk := BT [39] (39 :: r2) bad
    have hoff : off [39] (39 :: r2) = r2 := jZ [39] r2
    rw [hp, hoff] at htk
    go_wp2_with (go_at_call 40; refine (MC.box2 (us := [.string (bs [39])]) rfl (eL (bs [39]) ⟨bs (39 :: r2), bad⟩ _ htk) hB3.at' hg3).mono ?_)
    rintro e W4 rfl hB4
    have hI4 : Lib.IsBuilderF 102 5 w.heap.size w.heap.size (Lib.byteCells (acc ++ a)) W4 := sj hI3 (fun x h1 h2 => hB4.oth x h2 (by omega))
    have hB5 := hB3.trans hB4
    go_wp2_with (go_at_call 81; refine (Any.Builder_WriteString_k LY JS w.heap.size w.heap.size _ (bs [39]) _ hI4 (by rw [Lib.byteCells_length, aE]; simp at hla hlen ⊢; omega) hB5.size).mono ?_)
    rintro e W6 ⟨rfl, h6, b6, _⟩
    have hB6 := hB5.below hbl b6
    go_wp2
    go_roundw
    case rel =>
     refine ⟨r2, acc ++ a ++ [39], ?_, hB6, hq2.symm, by simp at hla hlen ⊢; omega⟩
     rw [Lib.byteCells_append]; exact Or.inr h6
    case measure =>
     rw [D8 hB6.at', D8 hBx.at']
     simp; omega
theorem qN (p1 : aO) : CM Tryz.prog 44 [.one (.pt 0 0 0 0)] [.box [eQ p1.s, cb p1.bad]] (ga p1) (fun r => vs r.1) (fun r => [.box [eQ r.2.s, cb r.2.bad]]) := by
 obtain ⟨s, bad⟩ := p1
 intro r h
 unfold ga at h
 obtain ⟨g1, h⟩ := gx h
 obtain rfl := Option.some.inj h
 exact MC.ofBox (us := []) rfl fun w b ty hb hg => BS s.data.toList bad (by simpa using g1) w b ty (by rw [vF]; exact hb) hg
end Go.Proofs.YtpmoopnkoknbeaaGreatDoor
namespace Go.Proofs.YtpmoopnkoknbeaaGreatDoor
open Go.SX Go
set_option maxRecDepth 100000
set_option maxHeartbeats 8000000
def aZ (p1 : ByteArray) (p2 : aO) : Option (Unit × aO) := az (cR p1 p2) fun r1 => ax (!r1.1) (some ((), (aO.mk r1.2.s true))) (some ((), r1.2))
theorem bD (p1 : ByteArray) (p2 : aO) : CM Tryz.prog 41 [.one (.pt 0 0 0 0), vs p1] [.box [eQ p2.s, cb p2.bad]] (aZ p1 p2) (fun r => .tp []) (fun r => [.box [eQ r.2.s, cb r.2.bad]]) :=
  rB 1 11 [] Tryz.f41 fun r => (mX true [0] (eL _ _) fun r1 _ => (uC Nl Nl))
def bz (p1 : ByteArray) (p2 : aO) : Option (ByteArray × aO) := az (jQ p2.s p1) fun r1 => bI (0 ≤ (0 : Int) ∧ (0 : Int) ≤ (IntKind.i64.wrap ((p2.s.size : Int) - (r1.size : Int))) ∧ (IntKind.i64.wrap ((p2.s.size : Int) - (r1.size : Int))) ≤ (p2.s.size : Int)) <| az (some (p2.s.extract (0 : Int).toNat (IntKind.i64.wrap ((p2.s.size : Int) - (r1.size : Int))).toNat)) fun y1 => some (y1, (aO.mk r1 p2.bad))
theorem cG (p1 : ByteArray) (p2 : aO) : CM Tryz.prog 43 [.one (.pt 0 0 0 0), vs p1] [.box [eQ p2.s, cb p2.bad]] (bz p1 p2) (fun r => vs r.1) (fun r => [.box [eQ r.2.s, cb r.2.bad]]) :=
  rB 1 31 [] Tryz.f43 fun r => (uP (tn _ _) fun r1 _ => (ns 12 (xW 25 vs fun y1 => (uR .ret sL))))
def gd (p2 : aO) (r1 : (Int × Bool)) : Option (Int × aO) := some (r1.1, (aO.mk p2.s true))
def gf (p2 : aO) (r1 : (Int × Bool)) (z1 : Bool) : Option (Int × aO) := some (r1.1, (aO.mk p2.s z1))
def bM (p1 : ByteArray) (p2 : aO) : Option (Int × aO) := az (nN p1) fun r1 => ax r1.2 (ax p2.bad (gd p2 r1) (gd p2 r1)) (ax p2.bad (gf p2 r1 true) (gf p2 r1 false))
theorem cE (p1 : ByteArray) (p2 : aO) : CM Tryz.prog 42 [.one (.pt 0 0 0 0), vs p1] [.box [eQ p2.s, cb p2.bad]] (bM p1 p2) (fun r => vi r.1) (fun r => [.box [eQ r.2.s, cb r.2.bad]]) :=
  rB 1 24 [] Tryz.f42 fun r => (NV (xj _) (fun r1 t1 p3 _ => (uQ (kS Tryz.f42 [1,1,0] 1) fun K3 hK3 => have hJ1 : ∀ (_ : Unit), gd p2 r1 = some r → K3.p [(5, vi r1.1)] [.box [eQ p2.s, cb true]] := fun _ h => hK3 h (uR .ret sL); (uC (uJ (hJ1 ())) (uJ (hJ1 ()))))) (fun r1 _ => (uQ (kS Tryz.f42 [1,1,0] 1) fun K6 hK6 => have hJ2 : ∀ (z1 : Bool), gf p2 r1 z1 = some r → K6.p [(5, vi r1.1)] [.box [eQ p2.s, cb z1]] := fun z1 h => hK6 h (uR .ret sL); (uC (uJ (hJ2 true)) (uJ (hJ2 false))))))
def i7 (x1 : Bool) : Option Bool := some x1
def bQ (p1 p2 p3 : Int) : Option Bool := ax (decide (p2 ≤ p1)) (i7 (decide (p1 ≤ p3))) (i7 false)
theorem cr (p1 p2 p3 : Int) : CT Tryz.prog 70 [vi p1, vi p2, vi p3] (bQ p1 p2 p3) vb :=
  eK 15 [] Tryz.f70 fun r => (uQ (kS Tryz.f70 [1,0] 1) fun K2 hK2 => have hJ1 : ∀ (x1 : Bool), i7 x1 = some r → K2.p [(6, vb x1)] [] := fun x1 h => hK2 h (uR .ret xF); (uC (uJ (hJ1 (decide (p1 ≤ p3)))) (uJ (hJ1 false))))
def kr (x1 : Bool) : Option Bool := some x1
def qm (p1 : Int) : Option Bool := ax ((p1.tmod (4 : Int)) == 0) (ax ((p1.tmod (100 : Int)) != 0) (kr true) (kr ((p1.tmod (400 : Int)) == 0))) (kr false)
theorem A4 (p1 : Int) : CT Tryz.prog 161 [vi p1] (qm p1) vb :=
  eK 16 [] Tryz.f161 fun r => (uQ (kS Tryz.f161 [1,0] 1) fun K2 hK2 => have hJ1 : ∀ (x1 : Bool), kr x1 = some r → K2.p [(2, vb x1)] [] := fun x1 h => hK2 h (uR .ret xF); (uC (uC (uJ (hJ1 true)) (uJ (hJ1 ((p1.tmod (400 : Int)) == 0)))) (uJ (hJ1 false))))
def gH (x1 : Bool) : Option Int := ax x1 (some (30 : Int)) (some (31 : Int))
def nA (p1 p2 : Int) : Option Int := ax (p2 == 2) (az (qm p1) fun r1 => ax r1 (some (29 : Int)) (some (28 : Int))) (ax (p2 == 4) (gH (p2 == 4)) (ax (p2 == 6) (gH (p2 == 6)) (ax (p2 == 9) (gH (p2 == 9)) (gH (p2 == 11)))))
theorem ye (p1 p2 : Int) : CT Tryz.prog 126 [vi p1, vi p2] (nA p1 p2) vi :=
  eK 15 [] Tryz.f126 fun r => (uC (uP (A4 _) fun r1 _ => (uC (uR .ret xF) (uR .ret xF))) (uQ (kS Tryz.f126 [1,0,1,0,1,1,0] 3) fun K12 hK12 => have hJ1 : ∀ (x1 : Bool), gH x1 = some r → K12.p [(10, vb x1)] [] := fun x1 h => hK12 h (uC (uR .ret xF) (uR .ret xF)); (uC (uJ (hJ1 (p2 == 4))) (uC (uJ (hJ1 (p2 == 6))) (uC (uJ (hJ1 (p2 == 9))) (uJ (hJ1 (p2 == 11))))))))
def fY (x2 : Bool) : Option Int := ax x2 (some (3 : Int)) (some (0 : Int))
def fW (p1 : dJ) (x1 : Bool) : Option Int := ax x1 (some (3 : Int)) (az (bQ p1.hour (0 : Int) (23 : Int)) fun r5 => ax (!r5) (fY true) (az (bQ p1.minute (0 : Int) (59 : Int)) fun r6 => ax (!r6) (fY true) (az (bQ p1.second (0 : Int) (59 : Int)) fun r7 => fY (!r7))))
def jW (p1 : dJ) : Option Int := az (bQ p1.year (1 : Int) (9999 : Int)) fun r1 => ax (!r1) (fW p1 true) (az (bQ p1.month (1 : Int) (12 : Int)) fun r2 => ax (!r2) (fW p1 true) (az (nA p1.year p1.month) fun r3 => az (bQ p1.day (1 : Int) r3) fun r4 => fW p1 (!r4)))
theorem tH (p1 : dJ) : CT Tryz.prog 83 [.ag [ci p1.year, ci p1.month, ci p1.day, ci p1.hour, ci p1.minute, ci p1.second]] (jW p1) vi :=
  eK 40 [] Tryz.f83 fun r => (uQ (kS Tryz.f83 [1,0,0] 2) fun K3 hK3 => have hJ1 : ∀ (x1 : Bool), fW p1 x1 = some r → K3.p [(1, .one (.pv (.rp [[pi p1.year, pi p1.month, pi p1.day, pi p1.hour, pi p1.minute, pi p1.second]] 0 0))), (23, vb x1)] [] := fun x1 h => hK3 h (uC (uR .ret xF) (uQ (kS Tryz.f83 [1,1,0,0] 2) fun K13 hK13 => have hJ2 : ∀ (x2 : Bool), fY x2 = some r → K13.p [(39, vb x2)] [] := fun x2 h => hK13 h (uC (uR .ret xF) (uR .ret xF)); (uP (cr _ _ _) fun r5 _ => (uC (uJ (hJ2 true)) (uP (cr _ _ _) fun r6 _ => (uC (uJ (hJ2 true)) (uP (cr _ _ _) fun r7 _ => (uJ (hJ2 (!r7)))))))))); (ns 18 (uP (cr _ _ _) fun r1 _ => (uC (uJ (hJ1 true)) (uP (cr _ _ _) fun r2 _ => (uC (uJ (hJ1 true)) (uP (ye _ _) fun r3 _ => (uP (cr _ _ _) fun r4 _ => (uJ (hJ1 (!r4)))))))))))
def jF (x1 x2 : Int) : Option (Int × Int) := some (x1, x2)
def jL (p1 p2 : Int) : Option (Int × Int) := bI (p2 ≠ 0) <| bI (p2 ≠ 0) <| ax (decide ((p1.tmod p2) < (0 : Int))) (jF (IntKind.i64.wrap ((IntKind.i64.wrap (p1.tdiv p2)) - (1 : Int))) (IntKind.i64.wrap ((p1.tmod p2) + p2))) (jF (IntKind.i64.wrap (p1.tdiv p2)) (p1.tmod p2))
theorem o6 (p1 p2 : Int) : CT Tryz.prog 135 [vi p1, vi p2] (jL p1 p2) (fun r => .tp [vi r.1, vi r.2]) :=
  eK 23 [] Tryz.f135 fun r => (ns 7 (uG (uG (uQ (kS Tryz.f135 [1,1,0] 1) fun K5 hK5 => have hJ1 : ∀ (x1 x2 : Int), jF x1 x2 = some r → K5.p [(6, vi x1), (7, vi x2)] [] := fun x1 x2 h => hK5 h (uR .ret xF); (uC (uJ (hJ1 (IntKind.i64.wrap ((IntKind.i64.wrap (p1.tdiv p2)) - (1 : Int))) (IntKind.i64.wrap ((p1.tmod p2) + p2)))) (uJ (hJ1 (IntKind.i64.wrap (p1.tdiv p2)) (p1.tmod p2))))))))
def kl (p3 x1 x2 : Int) : Option Int := az (jL x1 (400 : Int)) fun r1 => az (some (IntKind.i64.wrap ((IntKind.i64.wrap (r1.1 * 146097)) + (IntKind.i64.wrap (r1.2 * 365))))) fun y1 => az (some (IntKind.i64.wrap ((IntKind.i64.wrap (y1 + (IntKind.i64.wrap (r1.2.tdiv (4 : Int))))) - (IntKind.i64.wrap (r1.2.tdiv (100 : Int)))))) fun y2 => az (some (IntKind.i64.wrap ((153 : Int) * (IntKind.i64.wrap (x2 - 3))))) fun y3 => az (some (IntKind.i64.wrap ((IntKind.i64.wrap (y3 + 2)).tdiv (5 : Int)))) fun y4 => az (some (IntKind.i64.wrap ((IntKind.i64.wrap ((IntKind.i64.wrap (y2 + y4)) + p3)) - (1 : Int)))) fun y5 => some (IntKind.i64.wrap (y5 - 719468))
def qj (p1 p2 p3 : Int) : Option Int := ax (decide (p2 ≤ (2 : Int))) (kl p3 (IntKind.i64.wrap (p1 - 1)) (IntKind.i64.wrap (p2 + 12))) (kl p3 p1 p2)
theorem Ae (p1 p2 p3 : Int) : CT Tryz.prog 127 [vi p1, vi p2, vi p3] (qj p1 p2 p3) vi :=
  eK 41 [] Tryz.f127 fun r => (uQ (kS Tryz.f127 [1,0] 1) fun K2 hK2 => have hJ1 : ∀ (x1 x2 : Int), kl p3 x1 x2 = some r → K2.p [(0, vi x1), (1, vi x2), (2, vi p3)] [] := fun x1 x2 h => hK2 h (uP (o6 _ _) fun r1 _ => (uY 24 vi fun y1 => (uY 30 vi fun y2 => (uY 33 vi fun y3 => (uY 35 vi fun y4 => (uY 39 vi fun y5 => (uR .ret xF))))))); (uC (uJ (hJ1 (IntKind.i64.wrap (p1 - 1)) (IntKind.i64.wrap (p2 + 12)))) (uJ (hJ1 p1 p2))))
def mL (p1 : dJ) : Option Int := az (qj p1.year p1.month p1.day) fun r1 => az (some (IntKind.i64.wrap ((IntKind.i64.wrap (r1 * 86400)) + (IntKind.i64.wrap (p1.hour * 3600))))) fun y1 => az (some (IntKind.i64.wrap ((IntKind.i64.wrap (y1 + (IntKind.i64.wrap (p1.minute * 60)))) + p1.second))) fun y2 => some y2
theorem wI (p1 : dJ) : CT Tryz.prog 84 [.ag [ci p1.year, ci p1.month, ci p1.day, ci p1.hour, ci p1.minute, ci p1.second]] (mL p1) vi :=
  eK 22 [] Tryz.f84 fun r => (ns 18 (uP (Ae _ _ _) fun r1 _ => (uY 14 vi fun y1 => (uY 21 vi fun y2 => (uR .ret xF)))))
def eM (p1 : aO) : Option (Int × aO) := az (at? ([(ByteArray.mk #[45]), (ByteArray.mk #[45]), (ByteArray.mk #[84]), (ByteArray.mk #[58]), (ByteArray.mk #[58]), (ByteArray.mk #[90])]) (0 : Int)) fun e1 => az (bz (ByteArray.mk #[48, 49, 50, 51, 52, 53, 54, 55, 56, 57]) p1) fun r1 => az (bM r1.1 r1.2) fun r2 => az (aZ e1 r2.2) fun r3 => az (at? ([(ByteArray.mk #[45]), (ByteArray.mk #[45]), (ByteArray.mk #[84]), (ByteArray.mk #[58]), (ByteArray.mk #[58]), (ByteArray.mk #[90])]) (1 : Int)) fun e2 => az (bz (ByteArray.mk #[48, 49, 50, 51, 52, 53, 54, 55, 56, 57]) r3.2) fun r4 => az (bM r4.1 r4.2) fun r5 => bI ([r2.1].length + 1 ≤ 4294967296) <| az (aZ e2 r5.2) fun r6 => az (at? ([(ByteArray.mk #[45]), (ByteArray.mk #[45]), (ByteArray.mk #[84]), (ByteArray.mk #[58]), (ByteArray.mk #[58]), (ByteArray.mk #[90])]) (2 : Int)) fun e3 => az (bz (ByteArray.mk #[48, 49, 50, 51, 52, 53, 54, 55, 56, 57]) r6.2) fun r7 => az (bM r7.1 r7.2) fun r8 => bI (([r2.1] ++ [r5.1]).length + 1 ≤ 4294967296) <| az (aZ e3 r8.2) fun r9 => az (at? ([(ByteArray.mk #[45]), (ByteArray.mk #[45]), (ByteArray.mk #[84]), (ByteArray.mk #[58]), (ByteArray.mk #[58]), (ByteArray.mk #[90])]) (3 : Int)) fun e4 => az (bz (ByteArray.mk #[48, 49, 50, 51, 52, 53, 54, 55, 56, 57]) r9.2) fun r10 => az (bM r10.1 r10.2) fun r11 => bI ((([r2.1] ++ [r5.1]) ++ [r8.1]).length + 1 ≤ 4294967296) <| az (aZ e4 r11.2) fun r12 => az (at? ([(ByteArray.mk #[45]), (ByteArray.mk #[45]), (ByteArray.mk #[84]), (ByteArray.mk #[58]), (ByteArray.mk #[58]), (ByteArray.mk #[90])]) (4 : Int)) fun e5 => az (bz (ByteArray.mk #[48, 49, 50, 51, 52, 53, 54, 55, 56, 57]) r12.2) fun r13 => az (bM r13.1 r13.2) fun r14 => bI (((([r2.1] ++ [r5.1]) ++ [r8.1]) ++ [r11.1]).length + 1 ≤ 4294967296) <| az (aZ e5 r14.2) fun r15 => az (at? ([(ByteArray.mk #[45]), (ByteArray.mk #[45]), (ByteArray.mk #[84]), (ByteArray.mk #[58]), (ByteArray.mk #[58]), (ByteArray.mk #[90])]) (5 : Int)) fun e6 => az (bz (ByteArray.mk #[48, 49, 50, 51, 52, 53, 54, 55, 56, 57]) r15.2) fun r16 => az (bM r16.1 r16.2) fun r17 => bI ((((([r2.1] ++ [r5.1]) ++ [r8.1]) ++ [r11.1]) ++ [r14.1]).length + 1 ≤ 4294967296) <| az (aZ e6 r17.2) fun r18 => az (at? ((((([r2.1] ++ [r5.1]) ++ [r8.1]) ++ [r11.1]) ++ [r14.1]) ++ [r17.1]) (0 : Int)) fun e7 => az (at? ((((([r2.1] ++ [r5.1]) ++ [r8.1]) ++ [r11.1]) ++ [r14.1]) ++ [r17.1]) (1 : Int)) fun e8 => az (at? ((((([r2.1] ++ [r5.1]) ++ [r8.1]) ++ [r11.1]) ++ [r14.1]) ++ [r17.1]) (2 : Int)) fun e9 => az (at? ((((([r2.1] ++ [r5.1]) ++ [r8.1]) ++ [r11.1]) ++ [r14.1]) ++ [r17.1]) (3 : Int)) fun e10 => az (at? ((((([r2.1] ++ [r5.1]) ++ [r8.1]) ++ [r11.1]) ++ [r14.1]) ++ [r17.1]) (4 : Int)) fun e11 => az (at? ((((([r2.1] ++ [r5.1]) ++ [r8.1]) ++ [r11.1]) ++ [r14.1]) ++ [r17.1]) (5 : Int)) fun e12 => az (jW (dJ.mk e7 e8 e9 e10 e11 e12)) fun r19 => ax (r19 != 0) (some ((0 : Int), (aO.mk r18.2.s true))) (az (mL (dJ.mk e7 e8 e9 e10 e11 e12)) fun r20 => some (r20, r18.2))
theorem qL (p1 : aO) : CM Tryz.prog 45 [.one (.pt 0 0 0 0)] [.box [eQ p1.s, cb p1.bad]] (eM p1) (fun r => vi r.1) (fun r => [.box [eQ r.2.s, cb r.2.bad]]) :=
  rB 1 51 [6] Tryz.f45 fun r => (uA (vi (6 : Int)) (Lu 6 (uT (uL eS fun e1 a9 => (mX true [0] (cG _ _) fun r1 _ => (mX true [0] (cE _ _) fun r2 _ => (NZ eI [r2.1] (mX true [0] (bD _ _) fun r3 _ => (uT (uL eS fun e2 a18 => (mX true [0] (cG _ _) fun r4 _ => (mX true [0] (cE _ _) fun r5 _ => (CY eI 1 [r5.1] (mX true [0] (bD _ _) fun r6 _ => (uT (uL eS fun e3 a28 => (mX true [0] (cG _ _) fun r7 _ => (mX true [0] (cE _ _) fun r8 _ => (CY eI 1 [r8.1] (mX true [0] (bD _ _) fun r9 _ => (uT (uL eS fun e4 a38 => (mX true [0] (cG _ _) fun r10 _ => (mX true [0] (cE _ _) fun r11 _ => (CY eI 1 [r11.1] (mX true [0] (bD _ _) fun r12 _ => (uT (uL eS fun e5 a48 => (mX true [0] (cG _ _) fun r13 _ => (mX true [0] (cE _ _) fun r14 _ => (CY eI 1 [r14.1] (mX true [0] (bD _ _) fun r15 _ => (uT (uL eS fun e6 a58 => (mX true [0] (cG _ _) fun r16 _ => (mX true [0] (cE _ _) fun r17 _ => (CY eI 1 [r17.1] (mX true [0] (bD _ _) fun r18 _ => (uF (yA 20 1 [2,3] (Kl eI 1 fun e7 a67 => (Kn eI a67 (Kl eI 1 fun e8 a68 => (Kn eI a68 (Kl eI 1 fun e9 a69 => (Kn eI a69 (Kl eI 1 fun e10 a70 => (Kn eI a70 (Kl eI 1 fun e11 a71 => (Kn eI a71 (Kl eI 1 fun e12 a72 => (Kn eI a72 (uP (tH _) fun r19 _ => (uC (uR .ret sL) (uP (wI _) fun r20 _ => (uR .ret sL))))))))))))))))))))))))))))))))))))))))))))))))))))))))
def eG (p1 : af) (x1 : Int) : Option aL := az (at? p1.fields x1) fun e1 => some e1
def cS (p1 : af) (p2 : Int) : Option aL := ax (p1.kind == 6) (eG p1 (0 : Int)) (eG p1 p2)
theorem mC (p1 : af) (p2 : Int) : CT Tryz.prog 62 [.ag [ci p1.kind, ci p1.scale, cl ay p1.fields], vi p2] (cS p1 p2) (fun r => .ag [ci r.id, eQ r.name, cb r.need, ci r.type.kind, ci r.type.scale, cl ay r.type.fields]) :=
  eK 13 [4] Tryz.f62 fun r => (uQ (kS Tryz.f62 [1,0] 1) fun K2 hK2 => have hJ1 : ∀ (x1 : Int), eG p1 x1 = some r → K2.p [(1, vi x1), (2, .one (.pv (.rp [[pi p1.kind, pi p1.scale, .ro (ay.els p1.fields)]] 0 0))), (4, .one (.pt 0 0 0 0))] [.box [ci (0 : Int), eQ ByteArray.empty, cb false, ci (0 : Int), ci (0 : Int), .pv (.s (.slice none 0 0))]] := fun x1 h => hK2 h (uL ay fun e1 a6 => (uR .ret xF)); (uC (uJ (hJ1 (0 : Int))) (uJ (hJ1 p2))))
def cA (l2 : List ac) (z7 : ByteArray) (z8 : Bool) : Option ((List ac) × aO) := some (l2, (aO.mk z7 z8))
def bw (rec1 : List ac → ByteArray → Bool → Option ((List ac) × aO)) (q_value_reader_value : af → aO → Option (ac × aO)) (p1 : af) (l1 : List ac) (z5 : ByteArray) (z6 x2 : Bool) : Option ((List ac) × aO) := ax x2 (cA l1 z5 true) (az (cS p1 ((l1.length : Nat) : Int)) fun r3 => az (q_value_reader_value r3.type (aO.mk z5 z6)) fun r4 => bI (l1.length + 1 ≤ 4294967296) <| rec1 (l1 ++ [r4.1]) r4.2.s r4.2.bad)
def cB (rec1 : List ac → ByteArray → Bool → Option ((List ac) × aO)) (q_value_reader_value : af → aO → Option (ac × aO)) (p1 : af) (l1 : List ac) (z5 : ByteArray) (z6 : Bool) : Option ((List ac) × aO) := ax (p1.kind == 7) (ax (((l1.length : Nat) : Int) == (p1.fields.length : Int)) (bw rec1 q_value_reader_value p1 l1 z5 z6 true) (bw rec1 q_value_reader_value p1 l1 z5 z6 (decide ((64 : Int) < ((l1.length : Nat) : Int))))) (bw rec1 q_value_reader_value p1 l1 z5 z6 (decide ((64 : Int) < ((l1.length : Nat) : Int))))
def ca (rec1 : List ac → ByteArray → Bool → Option ((List ac) × aO)) (q_value_reader_value : af → aO → Option (ac × aO)) (p1 : af) (l1 : List ac) (z3 : ByteArray) (z4 x1 : Bool) : Option ((List ac) × aO) := ax x1 (ax (decide ((0 : Int) < ((l1.length : Nat) : Int))) (az (aZ (ByteArray.mk #[44, 32]) (aO.mk z3 z4)) fun r2 => cB rec1 q_value_reader_value p1 l1 r2.2.s r2.2.bad) (cB rec1 q_value_reader_value p1 l1 z3 z4)) (cA l1 z3 z4)
def aJ (q_value_reader_value : af → aO → Option (ac × aO)) (p1 : af) (p2 : ByteArray) : Nat → List ac → ByteArray → Bool → Option ((List ac) × aO)
 | 0, _, _, _ => none
 | k1 + 1, l1, z1, z2 => ax (!z2) (az (cR p2 (aO.mk z1 z2)) fun r1 => ca (aJ q_value_reader_value p1 p2 k1) q_value_reader_value p1 l1 r1.2.s r1.2.bad (!r1.1)) (ca (aJ q_value_reader_value p1 p2 k1) q_value_reader_value p1 l1 z1 z2 false)
def bm (p1 : af) (z1 : ByteArray) (z2 : Bool) (z3 : Int) (z4 : ByteArray) (z5 : List ac) : Option (ac × aO) := some ((ac.mk p1.kind z3 p1.scale z4 z5), (aO.mk z1 z2))
mutual
def cU : Nat → af → ByteArray → aO → Option ((List ac) × aO)
 | 0, _, _, _ => none
 | k0 + 1, p1, p2, p3 => aJ (aS k0) p1 p2 aW [] p3.s p3.bad
def aS : Nat → af → aO → Option (ac × aO)
 | 0, _, _ => none
 | k0 + 1, p1, p2 => az (cR (ByteArray.mk #[110, 117, 108, 108]) p2) fun r1 => ax r1.1 (some ((ac.mk (0 : Int) (0 : Int) (0 : Int) ByteArray.empty []), r1.2)) (ax (p1.kind == 1) (az (cR (ByteArray.mk #[116, 114, 117, 101]) r1.2) fun r2 => ax r2.1 (bm p1 r2.2.s r2.2.bad (1 : Int) ByteArray.empty []) (az (aZ (ByteArray.mk #[102, 97, 108, 115, 101]) r2.2) fun r3 => bm p1 r3.2.s r3.2.bad (0 : Int) ByteArray.empty [])) (ax (p1.kind == 2) (az (bz (ByteArray.mk #[45, 48, 49, 50, 51, 52, 53, 54, 55, 56, 57]) r1.2) fun r4 => az (bM r4.1 r4.2) fun r5 => bm p1 r5.2.s r5.2.bad r5.1 ByteArray.empty []) (ax (p1.kind == 3) (az (bz (ByteArray.mk #[45, 48, 49, 50, 51, 52, 53, 54, 55, 56, 57]) r1.2) fun r6 => az (aZ (ByteArray.mk #[46]) r6.2) fun r7 => az (bz (ByteArray.mk #[45, 48, 49, 50, 51, 52, 53, 54, 55, 56, 57]) r7.2) fun r8 => bI (r6.1.size + r8.1.size ≤ 4611686018427387904) <| az (bM (r6.1 ++ r8.1) r8.2) fun r9 => bm p1 r9.2.s r9.2.bad r9.1 ByteArray.empty []) (ax (p1.kind == 4) (az (aZ (ByteArray.mk #[39]) r1.2) fun r10 => az (ga r10.2) fun r11 => bm p1 r11.2.s r11.2.bad (0 : Int) r11.1 []) (ax (p1.kind == 5) (az (eM r1.2) fun r12 => bm p1 r12.2.s r12.2.bad r12.1 ByteArray.empty []) (ax (p1.kind == 6) (az (aZ (ByteArray.mk #[91]) r1.2) fun r13 => az ((cU k0) p1 (ByteArray.mk #[93]) r13.2) fun r14 => bm p1 r14.2.s r14.2.bad (0 : Int) ByteArray.empty r14.1) (ax (p1.kind == 7) (az (aZ (ByteArray.mk #[40]) r1.2) fun r15 => az ((cU k0) p1 (ByteArray.mk #[41]) r15.2) fun r16 => bm p1 r16.2.s r16.2.bad (0 : Int) ByteArray.empty r16.1) (bm p1 r1.2.s r1.2.bad (0 : Int) ByteArray.empty []))))))))
end
mutual
theorem mP : ∀ (k0 : Nat) (p1 : af) (p2 : ByteArray) (p3 : aO), CM Tryz.prog 46 [.one (.pt 0 0 0 0), .ag [ci p1.kind, ci p1.scale, cl ay p1.fields], vs p2] [.box [eQ p3.s, cb p3.bad]] (cU k0 p1 p2 p3) (fun r => vl aj r.1) (fun r => [.box [eQ r.2.s, cb r.2.bad]])
  | 0, _, _, _ => IQ (cU.eq_1 ..)
  | k0 + 1, p1, p2, p3 => rB 1 54 [] Tryz.f46 fun r => (uU (cU.eq_2 ..) (uQ (kS Tryz.f46 [1,1,0] 1) fun K3 hK3 => have hJ4 : ∀ (l2 : List ac) (z7 : ByteArray) (z8 : Bool), cA l2 z7 z8 = some r → K3.p [(7, .one (.sl 1 5 0 l2.length))] [.box [eQ z7, cb z8], .arr 5 (aj.els l2)] := fun l2 z7 z8 h => hK3 h (DW aj l2 1 [6] (uR .ret sL)); (F8 (.li 7 5) (uO (cd Tryz.f46 [1,1,0,0,0]) (kS Tryz.f46 [1,1,0,0] 1) fun R1 b1 => have hL1 : ∀ (k1 : Nat) (l1 : List ac) (z1 : ByteArray) (z2 : Bool), aJ (aS k0) p1 p2 k1 l1 z1 z2 = some r → (R1 k1).p [(0, .one (.pt 0 0 0 0)), (2, vs p2), (4, .one (.pv (.rp [(bA p1)] 0 0))), (7, .one (.sl 1 5 0 l1.length))] [.box [eQ z1, cb z2], .arr 5 (aj.els l1)] := by intro k1; induction k1 with | zero => intro l1 z1 z2 h; exact mg (aJ.eq_1 ..) h | succ k1 ih1 => intro l1 z1 z2 h; exact b1 h (uU (aJ.eq_2 ..) (uQ (kS Tryz.f46 [1,1,0,0,0,0,0] 2) fun K5 hK5 => have hJ1 : ∀ (z3 : ByteArray) (z4 x1 : Bool), ca (aJ (aS k0) p1 p2 k1) (aS k0) p1 l1 z3 z4 x1 = some r → K5.p [(0, .one (.pt 0 0 0 0)), (2, vs p2), (4, .one (.pv (.rp [(bA p1)] 0 0))), (7, .one (.sl 1 5 0 l1.length)), (18, vb x1)] [.box [eQ z3, cb z4], .arr 5 (aj.els l1)] := fun z3 z4 x1 h => hK5 h (uC (uQ (kS Tryz.f46 [1,1,0,0,0,1,0,0] 2) fun K9 hK9 => have hJ2 : ∀ (z5 : ByteArray) (z6 : Bool), cB (aJ (aS k0) p1 p2 k1) (aS k0) p1 l1 z5 z6 = some r → K9.p [(0, .one (.pt 0 0 0 0)), (2, vs p2), (4, .one (.pv (.rp [(bA p1)] 0 0))), (7, .one (.sl 1 5 0 l1.length))] [.box [eQ z5, cb z6], .arr 5 (aj.els l1)] := fun z5 z6 h => hK9 h (uQ (kS Tryz.f46 [1,1,0,0,0,1,0,1,0,0] 3) fun K14 hK14 => have hJ3 : ∀ (x2 : Bool), bw (aJ (aS k0) p1 p2 k1) (aS k0) p1 l1 z5 z6 x2 = some r → K14.p [(0, .one (.pt 0 0 0 0)), (2, vs p2), (4, .one (.pv (.rp [(bA p1)] 0 0))), (7, .one (.sl 1 5 0 l1.length)), (39, vb x2)] [.box [eQ z5, cb z6], .arr 5 (aj.els l1)] := fun x2 h => hK14 h (uC (uR (.exit 0) (xM (uJ (hJ4 l1 z5 true)))) (uP (mC _ _) fun r3 _ => (mX true [0] (m8 k0 _ _) fun r4 _ => (uW 51 aj [r4.1] (CY aj 1 [r4.1] (uJ (ih1 (l1 ++ [r4.1]) r4.2.s r4.2.bad))))))); (uC (uN ay p1.fields (uC (uJ (hJ3 true)) (uJ (hJ3 (decide ((64 : Int) < ((l1.length : Nat) : Int))))))) (uJ (hJ3 (decide ((64 : Int) < ((l1.length : Nat) : Int))))))); (uC (mX true [0] (bD _ _) fun r2 _ => (uJ (hJ2 r2.2.s r2.2.bad))) (uJ (hJ2 z3 z4)))) (uR (.exit 0) (xM (uJ (hJ4 l1 z3 z4))))); (uC (mX true [0] (eL _ _) fun r1 _ => (uJ (hJ1 r1.2.s r1.2.bad (!r1.1)))) (uJ (hJ1 z1 z2 false)))))
 uE (hL1 aW [] p3.s p3.bad)))))
theorem m8 : ∀ (k0 : Nat) (p1 : af) (p2 : aO), CM Tryz.prog 22 [.one (.pt 0 0 0 0), .ag [ci p1.kind, ci p1.scale, cl ay p1.fields]] [.box [eQ p2.s, cb p2.bad]] (aS k0 p1 p2) (fun r => .ag [ci r.1.kind, ci r.1.n, ci r.1.scale, eQ r.1.s, cl aj r.1.items]) (fun r => [.box [eQ r.2.s, cb r.2.bad]])
  | 0, _, _ => IQ (aS.eq_1 ..)
  | k0 + 1, p1, p2 => rB 1 73 [4, 5] Tryz.f22 fun r => (uU (aS.eq_2 ..) (mX true [0] (eL _ _) fun r1 _ => (uC (uR .ret sL) (uQ (kS Tryz.f22 [1,1,1,0] 1) fun K8 hK8 => have hJ1 : ∀ (z1 : ByteArray) (z2 : Bool) (z3 : Int) (z4 : ByteArray) (z5 : List ac), bm p1 z1 z2 z3 z4 z5 = some r → K8.p [(4, .one (.pt 1 0 0 0)), (5, .one (.pt 2 0 0 0))] [.box [eQ z1, cb z2], .box [ci (0 : Int), ci (0 : Int), ci (0 : Int), eQ ByteArray.empty, .pv (.s (.slice none 0 0))], .box [ci p1.kind, ci z3, ci p1.scale, eQ z4, cl aj z5]] := fun z1 z2 z3 z4 z5 h => hK8 h (uR .ret sL); (uC (mX true [0] (eL _ _) fun r2 _ => (uC (Ds (.sb 2 4) (uJ (hJ1 r2.2.s r2.2.bad (1 : Int) ByteArray.empty []))) (mX true [0] (bD _ _) fun r3 _ => (Ds (.sb 2 4) (uJ (hJ1 r3.2.s r3.2.bad (0 : Int) ByteArray.empty [])))))) (uC (mX true [0] (cG _ _) fun r4 _ => (mX true [0] (cE _ _) fun r5 _ => (Ds (.sb 2 4) (uJ (hJ1 r5.2.s r5.2.bad r5.1 ByteArray.empty []))))) (uC (mX true [0] (cG _ _) fun r6 _ => (mX true [0] (bD _ _) fun r7 _ => (mX true [0] (cG _ _) fun r8 _ => (uG (mX true [0] (cE _ _) fun r9 _ => (Ds (.sb 2 4) (uJ (hJ1 r9.2.s r9.2.bad r9.1 ByteArray.empty [])))))))) (uC (mX true [0] (bD _ _) fun r10 _ => (mX true [0] (qN _) fun r11 _ => (Ds (.sb 2 4) (uJ (hJ1 r11.2.s r11.2.bad (0 : Int) r11.1 []))))) (uC (mX true [0] (qL _) fun r12 _ => (Ds (.sb 2 4) (uJ (hJ1 r12.2.s r12.2.bad r12.1 ByteArray.empty [])))) (uC (mX true [0] (bD _ _) fun r13 _ => (mX true [0] (mP k0 _ _ _) fun r14 _ => (uJ (hJ1 r14.2.s r14.2.bad (0 : Int) ByteArray.empty r14.1)))) (uC (mX true [0] (bD _ _) fun r15 _ => (mX true [0] (mP k0 _ _ _) fun r16 _ => (uJ (hJ1 r16.2.s r16.2.bad (0 : Int) ByteArray.empty r16.1)))) (Ds (.sb 2 4) (uJ (hJ1 r1.2.s r1.2.bad (0 : Int) ByteArray.empty []))))))))))))))
end
def mA (rec1 : Nat → Option Bool) (p1 : ByteArray) (z1 : Nat) (x2 : Bool) : Option Bool := ax x2 (some false) (rec1 (z1 + (Utf8.decode p1 z1).2))
def oZ : Option Bool := some true
def fo (p1 : ByteArray) : Nat → Nat → Option Bool
 | 0, _ => none
 | k1 + 1, z1 => ax (decide (z1 < p1.size)) (ax (decide (Int.ofNat (Utf8.decode p1 z1).1 < (32 : Int))) (mA (fo p1 k1) p1 z1 true) (mA (fo p1 k1) p1 z1 (Int.ofNat (Utf8.decode p1 z1).1 == 127))) (oZ)
def my (p1 : ByteArray) (x1 : Bool) : Option Bool := ax x1 (some false) (fo p1 aW 0)
def qz (p1 : ByteArray) : Option Bool := ax (decide ((256 : Int) < (p1.size : Int))) (my p1 true) (az (utf8_ValidString p1) fun r1 => my p1 (!r1))
theorem Aj (p1 : ByteArray) : CT Tryz.prog 129 [vs p1] (qz p1) vb :=
  eK 24 [] Tryz.f129 fun r => (uQ (kS Tryz.f129 [1,0,0] 2) fun K3 hK3 => have hJ1 : ∀ (x1 : Bool), my p1 x1 = some r → K3.p [(0, vs p1), (12, vb x1)] [] := fun x1 h => hK3 h (uC (uR .ret xF) (uQ (kS Tryz.f129 [1,1,0] 1) fun K8 hK8 => have hJ3 : ∀ (_ : Unit), oZ = some r → K8.p [] [] := fun _ h => hK8 h (uR .ret xF); (Nt p1 (uO (cd Tryz.f129 [1,1,0,1,0,0]) (kS Tryz.f129 [1,1,0,1,0] 1) fun R1 b1 => have hL1 : ∀ (k1 z1 : Nat), fo p1 k1 z1 = some r → (R1 k1).p [(14, .one (.pt 0 0 0 0))] [.raw (.stringIter p1 z1)] := by intro k1; induction k1 with | zero => intro z1 h; exact mg (fo.eq_1 ..) h | succ k1 ih1 => intro z1 h; exact b1 h (uU (fo.eq_2 ..) (Nv 0 (fun b11 => (uT (uQ (kS Tryz.f129 [1,1,0,1,0,0,1,1,0,1,0] 2) fun K14 hK14 => have hJ2 : ∀ (x2 : Bool), mA (fo p1 k1) p1 z1 x2 = some r → K14.p [(14, .one (.pt 0 0 0 0)), (23, vb x2)] [.raw (.stringIter p1 (z1 + (Utf8.decode p1 z1).2))] := fun x2 h => hK14 h (uC (uR .ret (xN (xN xF))) (uJ (ih1 (z1 + (Utf8.decode p1 z1).2)))); (uC (uJ (hJ2 true)) (uJ (hJ2 (Int.ofNat (Utf8.decode p1 z1).1 == 127))))))) (fun b11 => (uF (uR (.exit 0) (xM (uJ (hJ3 ()))))))))
 uE (hL1 aW 0))))); (uC (uJ (hJ1 true)) (uP (od _) fun r1 _ => (uJ (hJ1 (!r1))))))
def jC (x2 : Bool) : Option Bool := some x2
def ip (x3 : Bool) : Option Bool := some x3
def im (x4 : Bool) : Option Bool := some x4
def il (x5 : Bool) : Option Bool := some x5
def jI (x6 : Bool) : Option Bool := some x6
def iw (x7 : Bool) : Option Bool := some x7
def jA (x8 : Bool) : Option Bool := some x8
def jJ (x9 : Bool) : Option Bool := some x9
def jt (p1 : ac) (x1 : Bool) : Option Bool := ax (p1.kind == 0) (ax x1 (ax (p1.s.toList == (ByteArray.mk #[]).toList) (jC ((p1.items.length : Int) == 0)) (jC false)) (jC false)) (ax (p1.kind == 1) (az (bQ p1.n (0 : Int) (1 : Int)) fun r1 => ax r1 (ax (p1.scale == 0) (ax (p1.s.toList == (ByteArray.mk #[]).toList) (ip ((p1.items.length : Int) == 0)) (ip false)) (ip false)) (ip false)) (ax (p1.kind == 2) (az (bQ p1.n (-999999999999999999 : Int) (999999999999999999 : Int)) fun r2 => ax r2 (ax (p1.scale == 0) (ax (p1.s.toList == (ByteArray.mk #[]).toList) (im ((p1.items.length : Int) == 0)) (im false)) (im false)) (im false)) (ax (p1.kind == 3) (az (bQ p1.n (-999999999999999999 : Int) (999999999999999999 : Int)) fun r3 => ax r3 (az (bQ p1.scale (0 : Int) (12 : Int)) fun r4 => ax r4 (ax (p1.s.toList == (ByteArray.mk #[]).toList) (il ((p1.items.length : Int) == 0)) (il false)) (il false)) (il false)) (ax (p1.kind == 4) (ax x1 (az (qz p1.s) fun r5 => ax r5 (jI ((p1.items.length : Int) == 0)) (jI false)) (jI false)) (ax (p1.kind == 5) (az (bQ p1.n (-62135596800 : Int) (253402300799 : Int)) fun r6 => ax r6 (ax (p1.scale == 0) (ax (p1.s.toList == (ByteArray.mk #[]).toList) (iw ((p1.items.length : Int) == 0)) (iw false)) (iw false)) (iw false)) (ax (p1.kind == 6) (ax x1 (ax (p1.s.toList == (ByteArray.mk #[]).toList) (jA (decide ((p1.items.length : Int) ≤ (64 : Int)))) (jA false)) (jA false)) (ax (p1.kind == 7) (ax x1 (ax (p1.s.toList == (ByteArray.mk #[]).toList) (jJ (decide ((0 : Int) < (p1.items.length : Int)))) (jJ false)) (jJ false)) (some false))))))))
def oJ (p1 : ac) : Option Bool := ax (p1.n == 0) (jt p1 (p1.scale == 0)) (jt p1 false)
theorem yF (p1 : ac) : CT Tryz.prog 91 [.ag [ci p1.kind, ci p1.n, ci p1.scale, eQ p1.s, cl aj p1.items]] (oJ p1) vb :=
  eK 154 [] Tryz.f91 fun r => (uQ (kS Tryz.f91 [1,0] 1) fun K2 hK2 => have hJ1 : ∀ (x1 : Bool), jt p1 x1 = some r → K2.p [(1, .one (.pv (.rp [[pi p1.kind, pi p1.n, pi p1.scale, .s (.string p1.s), .ro (aj.els p1.items)]] 0 0))), (3, vb x1)] [] := fun x1 h => hK2 h (uC (uQ (kS Tryz.f91 [1,1,0,1,0,1,0,0] 3) fun K8 hK8 => have hJ2 : ∀ (x2 : Bool), jC x2 = some r → K8.p [(2, vb x2)] [] := fun x2 h => hK8 h (uR .ret xF); (uC (uC (uN aj p1.items (uJ (hJ2 ((p1.items.length : Int) == 0)))) (uJ (hJ2 false))) (uJ (hJ2 false)))) (uC (uQ (kS Tryz.f91 [1,1,0,1,0,1,1,1,0,0] 3) fun K13 hK13 => have hJ3 : ∀ (x3 : Bool), ip x3 = some r → K13.p [(2, vb x3)] [] := fun x3 h => hK13 h (uR .ret xF); (uP (cr _ _ _) fun r1 _ => (uC (uC (uC (uN aj p1.items (uJ (hJ3 ((p1.items.length : Int) == 0)))) (uJ (hJ3 false))) (uJ (hJ3 false))) (uJ (hJ3 false))))) (uC (uQ (kS Tryz.f91 [1,1,0,1,0,1,1,1,1,1,0,0] 3) fun K20 hK20 => have hJ4 : ∀ (x4 : Bool), im x4 = some r → K20.p [(2, vb x4)] [] := fun x4 h => hK20 h (uR .ret xF); (uP (cr _ _ _) fun r2 _ => (uC (uC (uC (uN aj p1.items (uJ (hJ4 ((p1.items.length : Int) == 0)))) (uJ (hJ4 false))) (uJ (hJ4 false))) (uJ (hJ4 false))))) (uC (uQ (kS Tryz.f91 [1,1,0,1,0,1,1,1,1,1,1,1,0,0] 3) fun K27 hK27 => have hJ5 : ∀ (x5 : Bool), il x5 = some r → K27.p [(2, vb x5)] [] := fun x5 h => hK27 h (uR .ret xF); (uP (cr _ _ _) fun r3 _ => (uC (uP (cr _ _ _) fun r4 _ => (uC (uC (uN aj p1.items (uJ (hJ5 ((p1.items.length : Int) == 0)))) (uJ (hJ5 false))) (uJ (hJ5 false)))) (uJ (hJ5 false))))) (uC (uQ (kS Tryz.f91 [1,1,0,1,0,1,1,1,1,1,1,1,1,1,0,0] 3) fun K35 hK35 => have hJ6 : ∀ (x6 : Bool), jI x6 = some r → K35.p [(2, vb x6)] [] := fun x6 h => hK35 h (uR .ret xF); (uC (uP (Aj _) fun r5 _ => (uC (uN aj p1.items (uJ (hJ6 ((p1.items.length : Int) == 0)))) (uJ (hJ6 false)))) (uJ (hJ6 false)))) (uC (uQ (kS Tryz.f91 [1,1,0,1,0,1,1,1,1,1,1,1,1,1,1,1,0,0] 3) fun K41 hK41 => have hJ7 : ∀ (x7 : Bool), iw x7 = some r → K41.p [(2, vb x7)] [] := fun x7 h => hK41 h (uR .ret xF); (uP (cr _ _ _) fun r6 _ => (uC (uC (uC (uN aj p1.items (uJ (hJ7 ((p1.items.length : Int) == 0)))) (uJ (hJ7 false))) (uJ (hJ7 false))) (uJ (hJ7 false))))) (uC (uQ (kS Tryz.f91 [1,1,0,1,0,1,1,1,1,1,1,1,1,1,1,1,1,1,0,0] 3) fun K48 hK48 => have hJ8 : ∀ (x8 : Bool), jA x8 = some r → K48.p [(2, vb x8)] [] := fun x8 h => hK48 h (uR .ret xF); (uC (uC (uN aj p1.items (uJ (hJ8 (decide ((p1.items.length : Int) ≤ (64 : Int)))))) (uJ (hJ8 false))) (uJ (hJ8 false)))) (uC (uQ (kS Tryz.f91 [1,1,0,1,0,1,1,1,1,1,1,1,1,1,1,1,1,1,1,1,0,0] 3) fun K53 hK53 => have hJ9 : ∀ (x9 : Bool), jJ x9 = some r → K53.p [(2, vb x9)] [] := fun x9 h => hK53 h (uR .ret xF); (uC (uC (uN aj p1.items (uJ (hJ9 (decide ((0 : Int) < (p1.items.length : Int)))))) (uJ (hJ9 false))) (uJ (hJ9 false)))) (uR .ret xF))))))))); (uC (uJ (hJ1 (p1.scale == 0))) (uJ (hJ1 false))))
def bG (z2 : Int) : Option (Int × Int) := some ((-1 : Int), z2)
def aH (q_value_sound_1_s : ac → Int → Int → Option (Bool × Int)) (p1 : (List ac)) (p2 : Int) : Nat → Int → Int → Option (Int × Int)
 | 0, _, _ => none
 | k1 + 1, z1, x1 => ax (decide (x1 < (p1.length : Int))) (az (at? p1 x1) fun e1 => az (q_value_sound_1_s e1 p2 z1) fun r1 => ax r1.1 (some (x1, r1.2)) ((aH q_value_sound_1_s p1 p2 k1) r1.2 (IntKind.i64.wrap (x1 + 1)))) (bG z1)
def ix (q_slices_ContainsFunc_api_Value_api_Value_of_value_sound_1 : (List ac) → Int → Int → Option (Bool × Int)) (p1 : ac) (p2 z1 : Int) (x1 : Bool) : Option (Bool × Int) := ax x1 (some (false, z1)) (az (q_slices_ContainsFunc_api_Value_api_Value_of_value_sound_1 p1.items p2 z1) fun r2 => some ((!r2.1), r2.2))
def jv (q_slices_ContainsFunc_api_Value_api_Value_of_value_sound_1 : (List ac) → Int → Int → Option (Bool × Int)) (p1 : ac) (p2 z1 : Int) : Option (Bool × Int) := ax (decide ((4 : Int) < p2)) (ix q_slices_ContainsFunc_api_Value_api_Value_of_value_sound_1 p1 p2 z1 true) (ax (decide ((256 : Int) < z1)) (ix q_slices_ContainsFunc_api_Value_api_Value_of_value_sound_1 p1 p2 z1 true) (az (oJ p1) fun r1 => ix q_slices_ContainsFunc_api_Value_api_Value_of_value_sound_1 p1 p2 z1 (!r1)))
mutual
def aB : Nat → (List ac) → Int → Int → Option (Bool × Int)
 | 0, _, _, _ => none
 | k0 + 1, p1, p2, p3 => az ((aP k0) p1 p2 p3) fun r1 => some ((decide ((0 : Int) ≤ r1.1)), r1.2)
def aP : Nat → (List ac) → Int → Int → Option (Int × Int)
 | 0, _, _, _ => none
 | k0 + 1, p1, p2, p3 => aH (fR k0) p1 p2 aW p3 (0 : Int)
def iB : Nat → ac → Int → Int → Option (Bool × Int)
 | 0, _, _, _ => none
 | k0 + 1, p1, p2, p3 => ax (p1.kind != 0) (jv (aB k0) p1 p2 (IntKind.i64.wrap (p3 + 1))) (jv (aB k0) p1 p2 p3)
def fR : Nat → ac → Int → Int → Option (Bool × Int)
 | 0, _, _, _ => none
 | k0 + 1, p1, p2, p3 => az ((iB k0) p1 (IntKind.i64.wrap (p2 + 1)) p3) fun r1 => some ((!r1.1), r1.2)
end
mutual
theorem ff : ∀ (k0 : Nat) (p1 : (List ac)) (p2 p3 : Int), CM Tryz.prog 58 [vl aj p1, .one (.fn 92 [.pv (.rp [[pi p2]] 0 0), .pt 0 0 0 0])] [.box [.pt 1 0 0 0], .box [ci p3]] (aB k0 p1 p2 p3) (fun r => vb r.1) (fun r => [.box [.pt 1 0 0 0], .box [ci r.2]])
  | 0, _, _, _ => IQ (aB.eq_1 ..)
  | k0 + 1, p1, p2, p3 => rB 2 9 [] Tryz.f58 fun r => (uU (aB.eq_2 ..) (mX true [0,1] (fJ k0 _ _ _) fun r1 _ => (uR .ret sL)))
theorem fJ : ∀ (k0 : Nat) (p1 : (List ac)) (p2 p3 : Int), CM Tryz.prog 103 [vl aj p1, .one (.fn 92 [.pv (.rp [[pi p2]] 0 0), .pt 0 0 0 0])] [.box [.pt 1 0 0 0], .box [ci p3]] (aP k0 p1 p2 p3) (fun r => vi r.1) (fun r => [.box [.pt 1 0 0 0], .box [ci r.2]])
  | 0, _, _, _ => IQ (aP.eq_1 ..)
  | k0 + 1, p1, p2, p3 => rB 2 19 [] Tryz.f103 fun r => (uU (aP.eq_2 ..) (uQ (kS Tryz.f103 [1,0] 1) fun K2 hK2 => have hJ1 : ∀ (z2 : Int), bG z2 = some r → K2.p [] [.box [.pt 1 0 0 0], .box [ci z2]] := fun z2 h => hK2 h (uR .ret sL); (uN aj p1 (uO (cd Tryz.f103 [1,0,1,0,0]) (kS Tryz.f103 [1,0,1,0] 1) fun R1 b1 => have hL1 : ∀ (k1 : Nat) (z1 x1 : Int), aH (fR k0) p1 p2 k1 z1 x1 = some r → (R1 k1).p [(0, vl aj p1), (1, .one (.fn 92 [.pv (.rp [[pi p2]] 0 0), .pt 0 0 0 0])), (7, vi (p1.length : Int)), (8, vi x1)] [.box [.pt 1 0 0 0], .box [ci z1]] := by intro k1; induction k1 with | zero => intro z1 x1 h; exact mg (aH.eq_1 ..) h | succ k1 ih1 => intro z1 x1 h; exact b1 h (uU (aH.eq_2 ..) (uC (uL aj fun e1 a10 => (mX true [0,1] (ud k0 _ _ _) fun r1 _ => (uC (uR .ret (xN (xN sL))) (uJ (ih1 r1.2 (IntKind.i64.wrap (x1 + 1))))))) (uR (.exit 0) (xM (uJ (hJ1 z1))))))
 uE (hL1 aW p3 (0 : Int))))))
theorem sR : ∀ (k0 : Nat) (p1 : ac) (p2 p3 : Int), CM Tryz.prog 48 [.ag [ci p1.kind, ci p1.n, ci p1.scale, eQ p1.s, cl aj p1.items], vi p2, .one (.pt 0 0 0 0)] [.box [ci p3]] (iB k0 p1 p2 p3) (fun r => vb r.1) (fun r => [.box [ci r.2]])
  | 0, _, _, _ => IQ (iB.eq_1 ..)
  | k0 + 1, p1, p2, p3 => rB 1 33 [5] Tryz.f48 fun r => (uU (iB.eq_2 ..) (uQ (kS Tryz.f48 [1,0] 1) fun K2 hK2 => have hJ1 : ∀ (z1 : Int), jv (aB k0) p1 p2 z1 = some r → K2.p [(3, .one (.pv (.rp [[pi p1.kind, pi p1.n, pi p1.scale, .s (.string p1.s), .ro (aj.els p1.items)]] 0 0))), (4, .one (.pv (.rp [[pi p2]] 0 0))), (5, .one (.pt 1 0 0 0))] [.box [ci z1], .box [.pt 0 0 0 0]] := fun z1 h => hK2 h (uQ (kS Tryz.f48 [1,1,0,0] 2) fun K6 hK6 => have hJ2 : ∀ (x1 : Bool), ix (aB k0) p1 p2 z1 x1 = some r → K6.p [(3, .one (.pv (.rp [[pi p1.kind, pi p1.n, pi p1.scale, .s (.string p1.s), .ro (aj.els p1.items)]] 0 0))), (4, .one (.pv (.rp [[pi p2]] 0 0))), (5, .one (.pt 1 0 0 0)), (27, vb x1)] [.box [ci z1], .box [.pt 0 0 0 0]] := fun x1 h => hK6 h (uC (uR .ret sL) (mX true [1,0] (ff k0 _ _ _) fun r2 _ => (uR .ret sL))); (uC (uJ (hJ2 true)) (uC (uJ (hJ2 true)) (uP (yF _) fun r1 _ => (uJ (hJ2 (!r1))))))); (uC (uJ (hJ1 (IntKind.i64.wrap (p3 + 1)))) (uJ (hJ1 p3)))))
theorem ud : ∀ (k0 : Nat) (p1 : ac) (p2 p3 : Int), CM Tryz.prog 92 [.ag [ci p1.kind, ci p1.n, ci p1.scale, eQ p1.s, cl aj p1.items], .one (.pv (.rp [[pi p2]] 0 0)), .one (.pt 0 0 0 0)] [.box [.pt 1 0 0 0], .box [ci p3]] (fR k0 p1 p2 p3) (fun r => vb r.1) (fun r => [.box [.pt 1 0 0 0], .box [ci r.2]])
  | 0, _, _, _ => IQ (fR.eq_1 ..)
  | k0 + 1, p1, p2, p3 => rB 2 11 [] Tryz.f92 fun r => (uU (fR.eq_2 ..) (mX true [1] (sR k0 _ _ _) fun r1 _ => (uR .ret sL)))
end
def iD (p1 : ac) : Option Bool := az (iB aW p1 (1 : Int) (0 : Int)) fun r1 => some r1.1
theorem ki (p1 : ac) : CT Tryz.prog 24 [.ag [ci p1.kind, ci p1.n, ci p1.scale, eQ p1.s, cl aj p1.items]] (iD p1) vb :=
  eK 6 [3] Tryz.f24 fun r => (mX true [0] (sR aW _ _ _) fun r1 _ => (uR .ret xF))
def ba : Option Bool := some true
def ap (q_value_of_2 : aL → ac → Option Bool) (p1 : (List aL)) (p2 : (List ac)) : Nat → Int → Option Bool
 | 0, _ => none
 | k1 + 1, x1 => ax (decide (x1 < (p1.length : Int))) (az (at? p1 x1) fun e1 => az (at? p2 x1) fun e2 => az (q_value_of_2 e1 e2) fun r1 => ax (!r1) (some false) ((ap q_value_of_2 p1 p2 k1) (IntKind.i64.wrap (x1 + 1)))) (ba)
def bN : Option Int := some (-1 : Int)
def aD (q_value_of_1_s : ac → Int → Int → (List aL) → Option Bool) (p1 : (List ac)) (p2 p3 : Int) (p4 : (List aL)) : Nat → Int → Option Int
 | 0, _ => none
 | k1 + 1, x1 => ax (decide (x1 < (p1.length : Int))) (az (at? p1 x1) fun e1 => az (q_value_of_1_s e1 p2 p3 p4) fun r1 => ax r1 (some x1) ((aD q_value_of_1_s p1 p2 p3 p4 k1) (IntKind.i64.wrap (x1 + 1)))) (bN)
mutual
def aR : Nat → (List ac) → Int → Int → (List aL) → Option Bool
 | 0, _, _, _, _ => none
 | k0 + 1, p1, p2, p3, p4 => az ((aX k0) p1 p2 p3 p4) fun r1 => some (decide ((0 : Int) ≤ r1))
def aC : Nat → (List aL) → (List ac) → Option Bool
 | 0, _, _ => none
 | k0 + 1, p1, p2 => ax ((p1.length : Int) != (p2.length : Int)) (some false) (ap (kL k0) p1 p2 aW (0 : Int))
def aX : Nat → (List ac) → Int → Int → (List aL) → Option Int
 | 0, _, _, _, _ => none
 | k0 + 1, p1, p2, p3, p4 => aD (iP k0) p1 p2 p3 p4 aW (0 : Int)
def lp : Nat → af → ac → Option Bool
 | 0, _, _ => none
 | k0 + 1, p1, p2 => ax (p2.kind == 0) (some true) (ax (p2.kind != p1.kind) (some false) (ax (p2.kind == 3) (some (p2.scale == p1.scale)) (ax (p2.kind == 6) (az ((aR k0) p2.items p1.kind p1.scale p1.fields) fun r1 => some (!r1)) (ax (p2.kind == 7) (az ((aC k0) p1.fields p2.items) fun r2 => some r2) (some true)))))
def iP : Nat → ac → Int → Int → (List aL) → Option Bool
 | 0, _, _, _, _ => none
 | k0 + 1, p1, p2, p3, p4 => az (at? p4 (0 : Int)) fun e1 => az ((lp k0) e1.type p1) fun r1 => some (!r1)
def kL : Nat → aL → ac → Option Bool
 | 0, _, _ => none
 | k0 + 1, p1, p2 => az ((lp k0) p1.type p2) fun r1 => some r1
end
mutual
theorem fK : ∀ (k0 : Nat) (p1 : (List ac)) (p2 p3 : Int) (p4 : (List aL)), CT Tryz.prog 58 [vl aj p1, .one (.fn 59 [.pv (.rp [[pi p2, pi p3, .ro (ay.els p4)]] 0 0)])] (aR k0 p1 p2 p3 p4) vb
  | 0, _, _, _, _ => wJ (aR.eq_1 ..)
  | k0 + 1, p1, p2, p3, p4 => eK 9 [] Tryz.f58 fun r => (uU (aR.eq_2 ..) (uP (gi k0 _ _ _ _) fun r1 _ => (uR .ret xF)))
theorem dF : ∀ (k0 : Nat) (p1 : (List aL)) (p2 : (List ac)), CT Tryz.prog 60 [vl ay p1, vl aj p2, .one (.pv (.fn 61 []))] (aC k0 p1 p2) vb
  | 0, _, _ => wJ (aC.eq_1 ..)
  | k0 + 1, p1, p2 => eK 32 [8, 9] Tryz.f60 fun r => (uU (aC.eq_2 ..) (uN ay p1 (uN aj p2 (uC (uR .ret xF) (uQ (kS Tryz.f60 [1,1,0] 1) fun K6 hK6 => have hJ1 : ∀ (_ : Unit), ba = some r → K6.p [] [] := fun _ h => hK6 h (uR .ret xF); (uN ay p1 (uO (cd Tryz.f60 [1,1,0,1,0,0]) (kS Tryz.f60 [1,1,0,1,0] 1) fun R1 b1 => have hL1 : ∀ (k1 : Nat) (x1 : Int), ap (kL k0) p1 p2 k1 x1 = some r → (R1 k1).p [(1, vl aj p2), (2, .one (.pv (.fn 61 []))), (15, vl ay p1), (16, vi (p1.length : Int)), (17, vi x1)] [] := by intro k1; induction k1 with | zero => intro x1 h; exact mg (ap.eq_1 ..) h | succ k1 ih1 => intro x1 h; exact b1 h (uU (ap.eq_2 ..) (uC (uL ay fun e1 a13 => (uL aj fun e2 a15 => (uP (AJ k0 _ _) fun r1 _ => (uC (uR .ret (xN (xN xF))) (uJ (ih1 (IntKind.i64.wrap (x1 + 1)))))))) (uR (.exit 0) (xM (uJ (hJ1 ()))))))
 uE (hL1 aW (0 : Int)))))))))
theorem gi : ∀ (k0 : Nat) (p1 : (List ac)) (p2 p3 : Int) (p4 : (List aL)), CT Tryz.prog 103 [vl aj p1, .one (.fn 59 [.pv (.rp [[pi p2, pi p3, .ro (ay.els p4)]] 0 0)])] (aX k0 p1 p2 p3 p4) vi
  | 0, _, _, _, _ => wJ (aX.eq_1 ..)
  | k0 + 1, p1, p2, p3, p4 => eK 19 [] Tryz.f103 fun r => (uU (aX.eq_2 ..) (uQ (kS Tryz.f103 [1,0] 1) fun K2 hK2 => have hJ1 : ∀ (_ : Unit), bN = some r → K2.p [] [] := fun _ h => hK2 h (uR .ret xF); (uN aj p1 (uO (cd Tryz.f103 [1,0,1,0,0]) (kS Tryz.f103 [1,0,1,0] 1) fun R1 b1 => have hL1 : ∀ (k1 : Nat) (x1 : Int), aD (iP k0) p1 p2 p3 p4 k1 x1 = some r → (R1 k1).p [(0, vl aj p1), (1, .one (.fn 59 [.pv (.rp [[pi p2, pi p3, .ro (ay.els p4)]] 0 0)])), (7, vi (p1.length : Int)), (8, vi x1)] [] := by intro k1; induction k1 with | zero => intro x1 h; exact mg (aD.eq_1 ..) h | succ k1 ih1 => intro x1 h; exact b1 h (uU (aD.eq_2 ..) (uC (uL aj fun e1 a10 => (uP (xO k0 _ _ _ _) fun r1 _ => (uC (uR .ret (xN (xN xF))) (uJ (ih1 (IntKind.i64.wrap (x1 + 1))))))) (uR (.exit 0) (xM (uJ (hJ1 ()))))))
 uE (hL1 aW (0 : Int))))))
theorem s8 : ∀ (k0 : Nat) (p1 : af) (p2 : ac), CT Tryz.prog 30 [.ag [ci p1.kind, ci p1.scale, cl ay p1.fields], .ag [ci p2.kind, ci p2.n, ci p2.scale, eQ p2.s, cl aj p2.items]] (lp k0 p1 p2) vb
  | 0, _, _ => wJ (lp.eq_1 ..)
  | k0 + 1, p1, p2 => eK 42 [] Tryz.f30 fun r => (uU (lp.eq_2 ..) (uC (uR .ret xF) (uC (uR .ret xF) (uC (uR .ret xF) (uC (uP (fK k0 _ _ _ _) fun r1 _ => (uR .ret xF)) (uC (uP (dF k0 _ _) fun r2 _ => (uR .ret xF)) (uR .ret xF)))))))
theorem xO : ∀ (k0 : Nat) (p1 : ac) (p2 p3 : Int) (p4 : (List aL)), CT Tryz.prog 59 [.ag [ci p1.kind, ci p1.n, ci p1.scale, eQ p1.s, cl aj p1.items], .one (.pv (.rp [[pi p2, pi p3, .ro (ay.els p4)]] 0 0))] (iP k0 p1 p2 p3 p4) vb
  | 0, _, _, _, _ => wJ (iP.eq_1 ..)
  | k0 + 1, p1, p2, p3, p4 => eK 12 [] Tryz.f59 fun r => (uU (iP.eq_2 ..) (ns 6 (uL ay fun e1 a3 => (uP (s8 k0 _ _) fun r1 _ => (uR .ret xF)))))
theorem AJ : ∀ (k0 : Nat) (p1 : aL) (p2 : ac), CT Tryz.prog 61 [.ag [ci p1.id, eQ p1.name, cb p1.need, ci p1.type.kind, ci p1.type.scale, cl ay p1.type.fields], .ag [ci p2.kind, ci p2.n, ci p2.scale, eQ p2.s, cl aj p2.items]] (kL k0 p1 p2) vb
  | 0, _, _ => wJ (kL.eq_1 ..)
  | k0 + 1, p1, p2 => eK 9 [] Tryz.f61 fun r => (uU (kL.eq_2 ..) (uP (s8 k0 _ _) fun r1 _ => (uR .ret xF)))
end
def jr (rec1 : Int → Option Bool) (x1 : Int) (x2 : Bool) : Option Bool := ax x2 (some true) (rec1 (IntKind.i64.wrap (x1 + 1)))
def oc : Option Bool := some false
def dx (q_value_lacks : af → ac → Option Bool) (p1 : af) (p2 : ac) : Nat → Int → Option Bool
 | 0, _ => none
 | k1 + 1, x1 => ax (decide (x1 < (p2.items.length : Int))) (az (at? p2.items x1) fun e1 => az (cS p1 x1) fun r1 => ax (e1.kind == 0) (ax r1.need (jr (dx q_value_lacks p1 p2 k1) x1 true) (az (q_value_lacks r1.type e1) fun r2 => jr (dx q_value_lacks p1 p2 k1) x1 r2)) (az (q_value_lacks r1.type e1) fun r3 => jr (dx q_value_lacks p1 p2 k1) x1 r3)) (oc)
def fw : Nat → af → ac → Option Bool
 | 0, _, _ => none
 | k0 + 1, p1, p2 => dx (fw k0) p1 p2 aW (0 : Int)
theorem pb : ∀ (k0 : Nat) (p1 : af) (p2 : ac), CT Tryz.prog 31 [.ag [ci p1.kind, ci p1.scale, cl ay p1.fields], .ag [ci p2.kind, ci p2.n, ci p2.scale, eQ p2.s, cl aj p2.items]] (fw k0 p1 p2) vb
  | 0, _, _ => wJ (fw.eq_1 ..)
  | k0 + 1, p1, p2 => eK 33 [6, 7] Tryz.f31 fun r => (uU (fw.eq_2 ..) (uQ (kS Tryz.f31 [1,0] 1) fun K2 hK2 => have hJ2 : ∀ (_ : Unit), oc = some r → K2.p [] [] := fun _ h => hK2 h (uR .ret xF); (uN aj p2.items (uO (cd Tryz.f31 [1,0,1,0,0]) (kS Tryz.f31 [1,0,1,0] 1) fun R1 b1 => have hL1 : ∀ (k1 : Nat) (x1 : Int), dx (fw k0) p1 p2 k1 x1 = some r → (R1 k1).p [(2, .one (.pv (.rp [[pi p1.kind, pi p1.scale, .ro (ay.els p1.fields)]] 0 0))), (9, vl aj p2.items), (10, vi (p2.items.length : Int)), (11, vi x1)] [] := by intro k1; induction k1 with | zero => intro x1 h; exact mg (dx.eq_1 ..) h | succ k1 ih1 => intro x1 h; exact b1 h (uU (dx.eq_2 ..) (uC (uL aj fun e1 a9 => (uP (mC _ _) fun r1 _ => (uQ (kS Tryz.f31 [1,0,1,0,0,1,1,0,0,1,1,0] 3) fun K12 hK12 => have hJ1 : ∀ (x2 : Bool), jr (dx (fw k0) p1 p2 k1) x1 x2 = some r → K12.p [(2, .one (.pv (.rp [[pi p1.kind, pi p1.scale, .ro (ay.els p1.fields)]] 0 0))), (9, vl aj p2.items), (10, vi (p2.items.length : Int)), (11, vi x1), (31, vb x2)] [.dead, .dead] := fun x2 h => hK12 h (uC (uR .ret (xN (xN xF))) (uJ (ih1 (IntKind.i64.wrap (x1 + 1))))); (uC (uC (uJ (hJ1 true)) (uP (pb k0 _ _) fun r2 _ => (uJ (hJ1 r2)))) (uP (pb k0 _ _) fun r3 _ => (uJ (hJ1 r3))))))) (uR (.exit 0) (xM (uJ (hJ2 ()))))))
 uE (hL1 aW (0 : Int))))))
def eW (p1 : af) (p2 : ac) : Option Int := az (bC p1) fun r1 => ax (r1 != 0) (some r1) (az (iD p2) fun r2 => ax (!r2) (some (1 : Int)) (az (lp aW p1 p2) fun r3 => ax (!r3) (some (2 : Int)) (az (fw aW p1 p2) fun r4 => ax r4 (some (9 : Int)) (some (0 : Int)))))
theorem sQ (p1 : af) (p2 : ac) : CT Tryz.prog 14 [.ag [ci p1.kind, ci p1.scale, cl ay p1.fields], .ag [ci p2.kind, ci p2.n, ci p2.scale, eQ p2.s, cl aj p2.items]] (eW p1 p2) vi :=
  eK 24 [] Tryz.f14 fun r => (uP (gM _) fun r1 _ => (uC (uR .ret xF) (uP (ki _) fun r2 _ => (uC (uR .ret xF) (uP (s8 aW _ _) fun r3 _ => (uC (uR .ret xF) (uP (pb aW _ _) fun r4 _ => (uC (uR .ret xF) (uR .ret xF)))))))))
def gh (p1 : Bool) : Option ByteArray := ax p1 (some (ByteArray.mk #[116, 114, 117, 101])) (some (ByteArray.mk #[102, 97, 108, 115, 101]))
theorem m4 (p1 : Bool) : CT Tryz.prog 93 [vb p1] (gh p1) vs :=
  eK 4 [] Tryz.f93 fun r => (uC (uR .ret xF) (uR .ret xF))
def kG (p1 : Bool) : Option ByteArray := az (gh p1) fun r1 => some r1
theorem qS (p1 : Bool) : CT Tryz.prog 49 [vb p1] (kG p1) vs :=
  eK 5 [] Tryz.f49 fun r => (uP (m4 _) fun r1 _ => (uR .ret xF))
def eH (p1 p2 : Int) : Option ByteArray := az (strconv_Itoa p1) fun r1 => az (some (if (0 : Int) > (IntKind.i64.wrap (p2 - (r1.size : Int))) then (0 : Int) else (IntKind.i64.wrap (p2 - (r1.size : Int))))) fun y1 => az (strings_Repeat (ByteArray.mk #[48]) y1) fun r2 => bI (r2.size + r1.size ≤ 4611686018427387904) <| some (r2 ++ r1)
theorem gB (p1 p2 : Int) : CT Tryz.prog 95 [vi p1, vi p2] (eH p1 p2) vs :=
  eK 16 [] Tryz.f95 fun r => (uP (lJ _) fun r1 _ => (uY 12 vi fun y1 => (uP (vZ _ _) fun r2 _ => (uG (uR .ret xF)))))
def jS (p2 x1 : Int) (x2 : ByteArray) : Option ByteArray := az (eH x1 (IntKind.i64.wrap (p2 + 1))) fun r1 => bI (0 ≤ (0 : Int) ∧ (0 : Int) ≤ (IntKind.i64.wrap ((r1.size : Int) - p2)) ∧ (IntKind.i64.wrap ((r1.size : Int) - p2)) ≤ (r1.size : Int)) <| az (some (r1.extract (0 : Int).toNat (IntKind.i64.wrap ((r1.size : Int) - p2)).toNat)) fun y1 => bI (x2.size + y1.size ≤ 4611686018427387904) <| bI ((x2 ++ y1).size + (ByteArray.mk #[46]).size ≤ 4611686018427387904) <| bI (0 ≤ (IntKind.i64.wrap ((r1.size : Int) - p2)) ∧ (IntKind.i64.wrap ((r1.size : Int) - p2)) ≤ (r1.size : Int) ∧ (r1.size : Int) ≤ (r1.size : Int)) <| az (some (r1.extract (IntKind.i64.wrap ((r1.size : Int) - p2)).toNat (r1.size : Int).toNat)) fun y2 => bI (((x2 ++ y1) ++ (ByteArray.mk #[46])).size + y2.size ≤ 4611686018427387904) <| some (((x2 ++ y1) ++ (ByteArray.mk #[46])) ++ y2)
def mw (p1 p2 : Int) : Option ByteArray := ax (decide (p1 < (0 : Int))) (jS p2 (IntKind.i64.wrap (0 - p1)) (ByteArray.mk #[45])) (jS p2 p1 (ByteArray.mk #[]))
theorem wK (p1 p2 : Int) : CT Tryz.prog 51 [vi p1, vi p2] (mw p1 p2) vs :=
  eK 31 [] Tryz.f51 fun r => (uQ (kS Tryz.f51 [1,1,0] 1) fun K3 hK3 => have hJ1 : ∀ (x1 : Int) (x2 : ByteArray), jS p2 x1 x2 = some r → K3.p [(0, vi x1), (1, vi p2), (5, vs x2)] [] := fun x1 x2 h => hK3 h (uP (gB _ _) fun r1 _ => (ns 15 (xW 21 vs fun y1 => (uG (uG (xW 29 vs fun y2 => (uG (uR .ret xF)))))))); (uC (uJ (hJ1 (IntKind.i64.wrap (0 - p1)) (ByteArray.mk #[45]))) (uJ (hJ1 p1 (ByteArray.mk #[])))))
def mt (y10 x1 x2 : Int) : Option (Int × Int × Int) := some (x1, x2, y10)
def pK (p1 : Int) : Option (Int × Int × Int) := az (jL (IntKind.i64.wrap (p1 + 719468)) (146097 : Int)) fun r1 => az (some (IntKind.i64.wrap (r1.2 - (IntKind.i64.wrap (r1.2.tdiv (1460 : Int)))))) fun y1 => az (some (IntKind.i64.wrap (y1 + (IntKind.i64.wrap (r1.2.tdiv (36524 : Int)))))) fun y2 => az (some (IntKind.i64.wrap (y2 - (IntKind.i64.wrap (r1.2.tdiv (146096 : Int)))))) fun y3 => az (some (IntKind.i64.wrap ((IntKind.i64.wrap (y3.tdiv (365 : Int))) * (365 : Int)))) fun y4 => az (some (IntKind.i64.wrap ((IntKind.i64.wrap (y3.tdiv (365 : Int))).tdiv (4 : Int)))) fun y5 => az (some (IntKind.i64.wrap ((IntKind.i64.wrap (y3.tdiv (365 : Int))).tdiv (100 : Int)))) fun y6 => az (some (IntKind.i64.wrap (r1.2 - (IntKind.i64.wrap ((IntKind.i64.wrap (y4 + y5)) - y6))))) fun y7 => az (some (IntKind.i64.wrap ((IntKind.i64.wrap ((IntKind.i64.wrap ((5 : Int) * y7)) + (2 : Int))).tdiv (153 : Int)))) fun y8 => az (some (IntKind.i64.wrap ((IntKind.i64.wrap ((153 : Int) * y8)) + (2 : Int)))) fun y9 => az (some (IntKind.i64.wrap ((IntKind.i64.wrap (y7 - (IntKind.i64.wrap (y9.tdiv (5 : Int))))) + (1 : Int)))) fun y10 => az (some (IntKind.i64.wrap ((IntKind.i64.wrap (r1.1 * 400)) + (IntKind.i64.wrap (y3.tdiv (365 : Int)))))) fun y11 => ax (decide ((12 : Int) < (IntKind.i64.wrap (y8 + 3)))) (mt y10 (IntKind.i64.wrap (y11 + 1)) (IntKind.i64.wrap ((IntKind.i64.wrap (y8 + 3)) - (12 : Int)))) (mt y10 y11 (IntKind.i64.wrap (y8 + 3)))
theorem Ax (p1 : Int) : CT Tryz.prog 136 [vi p1] (pK p1) (fun r => .tp [vi r.1, vi r.2.1, vi r.2.2]) :=
  eK 61 [] Tryz.f136 fun r => (uP (o6 _ _) fun r1 _ => (uY 17 vi fun y1 => (uY 20 vi fun y2 => (uY 23 vi fun y3 => (uY 27 vi fun y4 => (uY 29 vi fun y5 => (uY 32 vi fun y6 => (uY 34 vi fun y7 => (uY 38 vi fun y8 => (uY 42 vi fun y9 => (uY 45 vi fun y10 => (uY 49 vi fun y11 => (uQ (kS Tryz.f136 [1,1,1,1,1,1,1,0] 1) fun K20 hK20 => have hJ1 : ∀ (x1 x2 : Int), mt y10 x1 x2 = some r → K20.p [(2, vi x1), (3, vi x2), (4, vi y10)] [] := fun x1 x2 h => hK20 h (uR .ret xF); (uC (uJ (hJ1 (IntKind.i64.wrap (y11 + 1)) (IntKind.i64.wrap ((IntKind.i64.wrap (y8 + 3)) - (12 : Int))))) (uJ (hJ1 y11 (IntKind.i64.wrap (y8 + 3))))))))))))))))))
def oD (p1 : Int) : Option dJ := az (jL p1 (86400 : Int)) fun r1 => az (pK r1.1) fun r2 => some (dJ.mk r2.1 r2.2.1 r2.2.2 (IntKind.i64.wrap (r1.2.tdiv (3600 : Int))) (IntKind.i64.wrap ((r1.2.tmod (3600 : Int)).tdiv (60 : Int))) (r1.2.tmod (60 : Int)))
theorem yQ (p1 : Int) : CT Tryz.prog 97 [vi p1] (oD p1) (fun r => .ag [ci r.year, ci r.month, ci r.day, ci r.hour, ci r.minute, ci r.second]) :=
  eK 30 [2] Tryz.f97 fun r => (uP (o6 _ _) fun r1 _ => (uP (Ax _) fun r2 _ => (uR .ret xF)))
def nK (p1 : Int) : Option ByteArray := az (oD p1) fun r1 => az (eH r1.year (4 : Int)) fun r2 => bI (r2.size + (ByteArray.mk #[45]).size ≤ 4611686018427387904) <| az (eH r1.month (2 : Int)) fun r3 => bI ((r2 ++ (ByteArray.mk #[45])).size + r3.size ≤ 4611686018427387904) <| bI (((r2 ++ (ByteArray.mk #[45])) ++ r3).size + (ByteArray.mk #[45]).size ≤ 4611686018427387904) <| az (eH r1.day (2 : Int)) fun r4 => bI ((((r2 ++ (ByteArray.mk #[45])) ++ r3) ++ (ByteArray.mk #[45])).size + r4.size ≤ 4611686018427387904) <| az (some ((((r2 ++ (ByteArray.mk #[45])) ++ r3) ++ (ByteArray.mk #[45])) ++ r4)) fun y1 => bI (y1.size + (ByteArray.mk #[84]).size ≤ 4611686018427387904) <| az (eH r1.hour (2 : Int)) fun r5 => bI ((y1 ++ (ByteArray.mk #[84])).size + r5.size ≤ 4611686018427387904) <| bI (((y1 ++ (ByteArray.mk #[84])) ++ r5).size + (ByteArray.mk #[58]).size ≤ 4611686018427387904) <| az (eH r1.minute (2 : Int)) fun r6 => bI ((((y1 ++ (ByteArray.mk #[84])) ++ r5) ++ (ByteArray.mk #[58])).size + r6.size ≤ 4611686018427387904) <| az (some ((((y1 ++ (ByteArray.mk #[84])) ++ r5) ++ (ByteArray.mk #[58])) ++ r6)) fun y2 => bI (y2.size + (ByteArray.mk #[58]).size ≤ 4611686018427387904) <| az (eH r1.second (2 : Int)) fun r7 => bI ((y2 ++ (ByteArray.mk #[58])).size + r7.size ≤ 4611686018427387904) <| bI (((y2 ++ (ByteArray.mk #[58])) ++ r7).size + (ByteArray.mk #[90]).size ≤ 4611686018427387904) <| some (((y2 ++ (ByteArray.mk #[58])) ++ r7) ++ (ByteArray.mk #[90]))
theorem yo (p1 : Int) : CT Tryz.prog 53 [vi p1] (nK p1) vs :=
  eK 37 [3] Tryz.f53 fun r => (uP (yQ _) fun r1 _ => (ns 12 (uP (gB _ _) fun r2 _ => (uG (uP (gB _ _) fun r3 _ => (uG (uG (uP (gB _ _) fun r4 _ => (xW 19 vs fun y1 => (ns 15 (uG (uP (gB _ _) fun r5 _ => (uG (uG (uP (gB _ _) fun r6 _ => (xW 30 vs fun y2 => (uG (uP (gB _ _) fun r7 _ => (uG (uG (uR .ret xF)))))))))))))))))))))
def kg (p1 : ac) (l2 : List ByteArray) : Option ByteArray := az (strings_Join l2 (ByteArray.mk #[44, 32])) fun r7 => ax (p1.kind == 6) (bI ((ByteArray.mk #[91]).size + r7.size ≤ 4611686018427387904) <| bI (((ByteArray.mk #[91]) ++ r7).size + (ByteArray.mk #[93]).size ≤ 4611686018427387904) <| some (((ByteArray.mk #[91]) ++ r7) ++ (ByteArray.mk #[93]))) (bI ((ByteArray.mk #[40]).size + r7.size ≤ 4611686018427387904) <| bI (((ByteArray.mk #[40]) ++ r7).size + (ByteArray.mk #[41]).size ≤ 4611686018427387904) <| some (((ByteArray.mk #[40]) ++ r7) ++ (ByteArray.mk #[41])))
def gk (q_value_show : ac → Option ByteArray) (p1 : ac) : Nat → List ByteArray → Int → Option ByteArray
 | 0, _, _ => none
 | k1 + 1, l1, x1 => ax (decide (x1 < (p1.items.length : Int))) (az (at? p1.items x1) fun e1 => az (q_value_show e1) fun r6 => bI (l1.length + 1 ≤ 4294967296) <| (gk q_value_show p1 k1) (l1 ++ [r6]) (IntKind.i64.wrap (x1 + 1))) (kg p1 l1)
def fQ : Nat → ac → Option ByteArray
 | 0, _ => none
 | k0 + 1, p1 => ax (p1.kind == 0) (some (ByteArray.mk #[110, 117, 108, 108])) (ax (p1.kind == 1) (az (kG (p1.n == 1)) fun r1 => some r1) (ax (p1.kind == 2) (az (strconv_Itoa p1.n) fun r2 => some r2) (ax (p1.kind == 3) (az (mw p1.n p1.scale) fun r3 => some r3) (ax (p1.kind == 4) (az (strings_ReplaceAll p1.s (ByteArray.mk #[39]) (ByteArray.mk #[39, 39])) fun r4 => bI ((ByteArray.mk #[39]).size + r4.size ≤ 4611686018427387904) <| bI (((ByteArray.mk #[39]) ++ r4).size + (ByteArray.mk #[39]).size ≤ 4611686018427387904) <| some (((ByteArray.mk #[39]) ++ r4) ++ (ByteArray.mk #[39]))) (ax (p1.kind == 5) (az (nK p1.n) fun r5 => some r5) (gk (fQ k0) p1 aW [] (0 : Int)))))))
theorem pS : ∀ (k0 : Nat) (p1 : ac), CT Tryz.prog 25 [.ag [ci p1.kind, ci p1.n, ci p1.scale, eQ p1.s, cl aj p1.items]] (fQ k0 p1) vs
  | 0, _ => wJ (fQ.eq_1 ..)
  | k0 + 1, p1 => eK 65 [5] Tryz.f25 fun r => (uU (fQ.eq_2 ..) (uC (uR .ret xF) (uC (uP (qS _) fun r1 _ => (uR .ret xF)) (uC (uP (lJ _) fun r2 _ => (uR .ret xF)) (uC (uP (wK _ _) fun r3 _ => (uR .ret xF)) (uC (uP (ri _ _ _) fun r4 _ => (uG (uG (uR .ret xF)))) (uC (uP (yo _) fun r5 _ => (uR .ret xF)) (uQ (kS Tryz.f25 [1,1,1,0] 1) fun K30 hK30 => have hJ1 : ∀ (l2 : List ByteArray), kg p1 l2 = some r → K30.p [(1, .one (.pv (.rp [[pi p1.kind, pi p1.n, pi p1.scale, .s (.string p1.s), .ro (aj.els p1.items)]] 0 0))), (3, .one (.sl 0 1 0 l2.length))] [.arr 1 (eS.els l2)] := fun l2 h => hK30 h (DW eS l2 0 [54] (uP (xp _ _) fun r7 _ => (uC (uG (uG (uR .ret xF))) (uG (uG (uR .ret xF)))))); (uN aj p1.items (F8 (.li 3 1) (uO (cd Tryz.f25 [1,1,1,0,1,0,0]) (kS Tryz.f25 [1,1,1,0,1,0] 1) fun R1 b1 => have hL1 : ∀ (k1 : Nat) (l1 : List ByteArray) (x1 : Int), gk (fQ k0) p1 k1 l1 x1 = some r → (R1 k1).p [(1, .one (.pv (.rp [[pi p1.kind, pi p1.n, pi p1.scale, .s (.string p1.s), .ro (aj.els p1.items)]] 0 0))), (3, .one (.sl 0 1 0 l1.length)), (42, vl aj p1.items), (43, vi (p1.items.length : Int)), (44, vi x1)] [.arr 1 (eS.els l1)] := by intro k1; induction k1 with | zero => intro l1 x1 h; exact mg (gk.eq_1 ..) h | succ k1 ih1 => intro l1 x1 h; exact b1 h (uU (gk.eq_2 ..) (uC (uL aj fun e1 a37 => (uP (pS k0 _) fun r6 _ => (CY eS 0 [r6] (uJ (ih1 (l1 ++ [r6]) (IntKind.i64.wrap (x1 + 1))))))) (uR (.exit 1) (xM (uJ (hJ1 l1))))))
 uE (hL1 aW [] (0 : Int)))))))))))))
def qx (p1 : ac) : Option ByteArray := az (iD p1) fun r1 => ax (!r1) (some (ByteArray.mk #[])) (az (fQ aW p1) fun r2 => some r2)
theorem A6 (p1 : ac) : CT Tryz.prog 9 [.ag [ci p1.kind, ci p1.n, ci p1.scale, eQ p1.s, cl aj p1.items]] (qx p1) vs :=
  eK 8 [] Tryz.f9 fun r => (uP (ki _) fun r1 _ => (uC (uR .ret xF) (uP (pS aW _) fun r2 _ => (uR .ret xF))))
def gA (r2 : (ac × aO)) (x1 : Bool) : Option (ac × Int) := ax x1 (some ((ac.mk (0 : Int) (0 : Int) (0 : Int) ByteArray.empty []), (6 : Int))) (some (r2.1, (0 : Int)))
def fp (p1 : af) (p2 : ByteArray) : Option (ac × Int) := az (bC p1) fun r1 => ax (r1 != 0) (some ((ac.mk (0 : Int) (0 : Int) (0 : Int) ByteArray.empty []), r1)) (az (aS aW p1 (aO.mk p2 false)) fun r2 => ax r2.2.bad (gA r2 true) (ax (!(r2.2.s.toList == (ByteArray.mk #[]).toList)) (gA r2 true) (az (eW p1 r2.1) fun r3 => ax (r3 != 0) (gA r2 true) (az (qx r2.1) fun r4 => gA r2 (!(r4.toList == p2.toList))))))
theorem yE (p1 : af) (p2 : ByteArray) : CT Tryz.prog 7 [.ag [ci p1.kind, ci p1.scale, cl ay p1.fields], vs p2] (fp p1 p2) (fun r => .tp [.ag [ci r.1.kind, ci r.1.n, ci r.1.scale, eQ r.1.s, cl aj r.1.items], vi r.2]) :=
  eK 46 [4, 8, 17] Tryz.f7 fun r => (uP (gM _) fun r1 _ => (uC (uR .ret xF) (mX true [1] (m8 aW _ _) fun r2 _ => (uQ (kS Tryz.f7 [1,1,1,1,0,0] 2) fun K12 hK12 => have hJ1 : ∀ (x1 : Bool), gA r2 x1 = some r → K12.p [(4, .one (.pt 0 0 0 0)), (8, .one (.pt 2 0 0 0)), (43, vb x1)] [.box [ci (0 : Int), ci (0 : Int), ci (0 : Int), eQ ByteArray.empty, .pv (.s (.slice none 0 0))], .dead, .box [ci r2.1.kind, ci r2.1.n, ci r2.1.scale, eQ r2.1.s, cl aj r2.1.items]] := fun x1 h => hK12 h (uC (uR .ret xF) (uR .ret xF)); (uC (uJ (hJ1 true)) (uC (uJ (hJ1 true)) (uP (sQ _ _) fun r3 _ => (uC (uJ (hJ1 true)) (uP (A6 _) fun r4 _ => (uJ (hJ1 (!(r4.toList == p2.toList)))))))))))))
def lw (x1 : Bool) : Option Bool := some x1
def eN (p1 : Int) : Option Bool := ax (p1 != 6) (lw (p1 != 7)) (lw false)
theorem fD (p1 : Int) : CT Tryz.prog 20 [vi p1] (eN p1) vb :=
  eK 9 [] Tryz.f20 fun r => (uQ (kS Tryz.f20 [1,0] 1) fun K2 hK2 => have hJ1 : ∀ (x1 : Bool), lw x1 = some r → K2.p [(2, vb x1)] [] := fun x1 h => hK2 h (uR .ret xF); (uC (uJ (hJ1 (p1 != 7))) (uJ (hJ1 false))))
def js (x1 : Bool) : Option Bool := some x1
def cC (p1 p2 p3 : Int) : Option Bool := ax (decide (p2 ≤ p1)) (js (decide (p1 ≤ p3))) (js false)
theorem dg (p1 p2 p3 : Int) : CT Tryz.prog 111 [vi p1, vi p2, vi p3] (cC p1 p2 p3) vb :=
  eK 15 [] Tryz.f111 fun r => (uQ (kS Tryz.f111 [1,0] 1) fun K2 hK2 => have hJ1 : ∀ (x1 : Bool), js x1 = some r → K2.p [(6, vb x1)] [] := fun x1 h => hK2 h (uR .ret xF); (uC (uJ (hJ1 (decide (p1 ≤ p3)))) (uJ (hJ1 false))))
def lf (rec1 : Int → Option Bool) (x2 : Int) (x5 : Bool) : Option Bool := ax x5 (some false) (rec1 (IntKind.i64.wrap (x2 + 1)))
def lU (rec1 : Int → Option Bool) (x2 : Int) (x3 x4 : Bool) : Option Bool := ax (!x3) (ax (x2 == 0) (lf rec1 x2 true) (lf rec1 x2 (!x4))) (lf rec1 x2 false)
def nv (rec1 : Int → Option Bool) (p1 : ByteArray) (x2 : Int) (x3 : Bool) : Option Bool := bI (0 ≤ x2 ∧ x2 < (p1.size : Int)) <| ax (((p1.data.toList.getD x2.toNat 0).toNat : Int) == 95) (lU rec1 x2 x3 true) (bI (0 ≤ x2 ∧ x2 < (p1.size : Int)) <| az (some (decide ((48 : Int) ≤ ((p1.data.toList.getD x2.toNat 0).toNat : Int)))) fun y3 => ax y3 (bI (0 ≤ x2 ∧ x2 < (p1.size : Int)) <| az (some (decide (((p1.data.toList.getD x2.toNat 0).toNat : Int) ≤ (57 : Int)))) fun y4 => lU rec1 x2 x3 y4) (lU rec1 x2 x3 false))
def uw : Option Bool := some true
def cH (p1 : ByteArray) : Nat → Int → Option Bool
 | 0, _ => none
 | k1 + 1, x2 => ax (decide (x2 < (p1.size : Int))) (bI (0 ≤ x2 ∧ x2 < (p1.size : Int)) <| az (some (decide ((97 : Int) ≤ ((p1.data.toList.getD x2.toNat 0).toNat : Int)))) fun y1 => ax y1 (bI (0 ≤ x2 ∧ x2 < (p1.size : Int)) <| az (some (decide (((p1.data.toList.getD x2.toNat 0).toNat : Int) ≤ (122 : Int)))) fun y2 => nv (cH p1 k1) p1 x2 y2) (nv (cH p1 k1) p1 x2 false)) (uw)
def nL (p1 : ByteArray) (x1 : Bool) : Option Bool := ax x1 (some false) (cH p1 aW (0 : Int))
def rW (p1 : ByteArray) : Option Bool := ax (decide ((p1.size : Int) < (1 : Int))) (nL p1 true) (nL p1 (decide ((24 : Int) < (p1.size : Int))))
theorem Ck (p1 : ByteArray) : CT Tryz.prog 112 [vs p1] (rW p1) vb :=
  eK 56 [] Tryz.f112 fun r => (uQ (kS Tryz.f112 [1,0,0] 2) fun K3 hK3 => have hJ1 : ∀ (x1 : Bool), nL p1 x1 = some r → K3.p [(0, vs p1), (13, vb x1)] [] := fun x1 h => hK3 h (uC (uR .ret xF) (uQ (kS Tryz.f112 [1,1,0] 1) fun K7 hK7 => have hJ5 : ∀ (_ : Unit), uw = some r → K7.p [] [] := fun _ h => hK7 h (uR .ret xF); (uO (cd Tryz.f112 [1,1,0,1,0,0]) (kS Tryz.f112 [1,1,0,1,0] 1) fun R1 b1 => have hL1 : ∀ (k1 : Nat) (x2 : Int), cH p1 k1 x2 = some r → (R1 k1).p [(0, vs p1), (3, vi x2)] [] := by intro k1; induction k1 with | zero => intro x2 h; exact mg (cH.eq_1 ..) h | succ k1 ih1 => intro x2 h; exact b1 h (uU (cH.eq_2 ..) (uC (uQ (kS Tryz.f112 [1,1,0,1,0,0,1,0,0,0] 3) fun K13 hK13 => have hJ2 : ∀ (x3 : Bool), nv (cH p1 k1) p1 x2 x3 = some r → K13.p [(0, vs p1), (3, vi x2), (4, vb x3)] [] := fun x3 h => hK13 h (uQ (kS Tryz.f112 [1,1,0,1,0,0,1,0,0,1,0] 3) fun K19 hK19 => have hJ3 : ∀ (x4 : Bool), lU (cH p1 k1) x2 x3 x4 = some r → K19.p [(0, vs p1), (3, vi x2), (4, vb x3), (5, vb x4)] [] := fun x4 h => hK19 h (uQ (kS Tryz.f112 [1,1,0,1,0,0,1,0,0,1,1,0] 3) fun K27 hK27 => have hJ4 : ∀ (x5 : Bool), lf (cH p1 k1) x2 x5 = some r → K27.p [(0, vs p1), (3, vi x2), (55, vb x5)] [] := fun x5 h => hK27 h (uC (uR .ret (xN (xN xF))) (uJ (ih1 (IntKind.i64.wrap (x2 + 1))))); (uC (uC (uJ (hJ4 true)) (uJ (hJ4 (!x4)))) (uJ (hJ4 false)))); (uG (uC (uJ (hJ3 true)) (uG (uY 38 vb fun y3 => (uC (uG (uY 43 vb fun y4 => (uJ (hJ3 y4)))) (uJ (hJ3 false)))))))); (uG (uY 23 vb fun y1 => (uC (uG (uY 28 vb fun y2 => (uJ (hJ2 y2)))) (uJ (hJ2 false)))))) (uR (.exit 0) (xM (uJ (hJ5 ()))))))
 uE (hL1 aW (0 : Int))))); (uC (uJ (hJ1 true)) (uJ (hJ1 (decide ((24 : Int) < (p1.size : Int)))))))
def oX (rec2 : Int → Option Int) (x5 : Int) : Option Int := rec2 (IntKind.i64.wrap (x5 + 1))
def dB (rec2 : Int → Option Int) (p1 : af) (x5 : Int) : Nat → Int → Option Int
 | 0, _ => none
 | k3 + 1, x6 => ax (decide (x6 < x5)) (az (at? p1.fields x6) fun e3 => az (at? p1.fields x5) fun e4 => ax (e3.name.toList == e4.name.toList) (some (5 : Int)) ((dB rec2 p1 x5 k3) (IntKind.i64.wrap (x6 + 1)))) (oX rec2 x5)
def sN : Option Int := some (0 : Int)
def di (p1 : af) : Nat → Int → Option Int
 | 0, _ => none
 | k2 + 1, x5 => ax (decide (x5 < (p1.fields.length : Int))) (dB (di p1 k2) p1 x5 aW (0 : Int)) (sN)
def o8 (p1 : af) : Option Int := di p1 aW (0 : Int)
def dO (p1 : af) : Nat → Int → Option Int
 | 0, _ => none
 | k1 + 1, x4 => ax (decide (x4 < (p1.fields.length : Int))) (az (at? p1.fields x4) fun e2 => az (rW e2.name) fun r5 => ax (!r5) (some (4 : Int)) ((dO p1 k1) (IntKind.i64.wrap (x4 + 1)))) (o8 p1)
def gp (p1 : af) (x3 : Bool) : Option Int := ax x3 (some (1 : Int)) (ax (p1.kind != 7) (some (0 : Int)) (dO p1 aW (0 : Int)))
def kt (p1 : af) (x2 : Bool) : Option Int := ax x2 (some (1 : Int)) (ax (p1.kind == 7) (ax ((p1.fields.length : Int) == 0) (gp p1 true) (az (eN p1.kind) fun r3 => ax r3 (gp p1 (decide ((0 : Int) < (p1.fields.length : Int)))) (gp p1 false))) (az (eN p1.kind) fun r4 => ax r4 (gp p1 (decide ((0 : Int) < (p1.fields.length : Int)))) (gp p1 false)))
def gv (p1 : af) (x1 : Bool) : Option Int := ax x1 (some (1 : Int)) (ax (p1.kind == 6) (ax ((p1.fields.length : Int) != 1) (kt p1 true) (az (at? p1.fields (0 : Int)) fun e1 => kt p1 (!(e1.name.toList == (ByteArray.mk #[]).toList)))) (kt p1 false))
def pJ (p1 : af) : Option Int := az (cC p1.kind (1 : Int) (7 : Int)) fun r1 => ax (!r1) (some (3 : Int)) (ax (p1.kind == 3) (az (cC p1.scale (0 : Int) (12 : Int)) fun r2 => ax (!r2) (gv p1 true) (ax (p1.kind != 3) (gv p1 (p1.scale != 0)) (gv p1 false))) (ax (p1.kind != 3) (gv p1 (p1.scale != 0)) (gv p1 false)))
theorem A0 (p1 : af) : CT Tryz.prog 75 [.ag [ci p1.kind, ci p1.scale, cl ay p1.fields]] (pJ p1) vi :=
  eK 109 [] Tryz.f75 fun r => (uP (dg _ _ _) fun r1 _ => (uC (uR .ret xF) (uQ (kS Tryz.f75 [1,1,0,0] 2) fun K8 hK8 => have hJ1 : ∀ (x1 : Bool), gv p1 x1 = some r → K8.p [(1, .one (.pv (.rp [(bA p1)] 0 0))), (28, vb x1)] [] := fun x1 h => hK8 h (uC (uR .ret xF) (uQ (kS Tryz.f75 [1,1,1,0,0] 2) fun K17 hK17 => have hJ2 : ∀ (x2 : Bool), kt p1 x2 = some r → K17.p [(1, .one (.pv (.rp [(bA p1)] 0 0))), (45, vb x2)] [] := fun x2 h => hK17 h (uC (uR .ret xF) (uQ (kS Tryz.f75 [1,1,1,1,0,0] 2) fun K24 hK24 => have hJ3 : ∀ (x3 : Bool), gp p1 x3 = some r → K24.p [(1, .one (.pv (.rp [(bA p1)] 0 0))), (65, vb x3)] [] := fun x3 h => hK24 h (uC (uR .ret xF) (uC (uR .ret xF) (uQ (kS Tryz.f75 [1,1,1,1,1,1,0] 1) fun K37 hK37 => have hJ4 : ∀ (_ : Unit), o8 p1 = some r → K37.p [(1, .one (.pv (.rp [(bA p1)] 0 0)))] [] := fun _ h => hK37 h (uQ (kS Tryz.f75 [1,1,1,1,1,1,1,0] 1) fun K49 hK49 => have hJ6 : ∀ (_ : Unit), sN = some r → K49.p [] [] := fun _ h => hK49 h (uR .ret xF); (uN ay p1.fields (uO (cd Tryz.f75 [1,1,1,1,1,1,1,0,1,0,0]) (kS Tryz.f75 [1,1,1,1,1,1,1,0,1,0] 1) fun R2 b2 => have hL2 : ∀ (k2 : Nat) (x5 : Int), di p1 k2 x5 = some r → (R2 k2).p [(1, .one (.pv (.rp [(bA p1)] 0 0))), (86, vi (p1.fields.length : Int)), (87, vi x5)] [] := by intro k2; induction k2 with | zero => intro x5 h; exact mg (di.eq_1 ..) h | succ k2 ih2 => intro x5 h; exact b2 h (uU (di.eq_2 ..) (uC (uQ (kS Tryz.f75 [1,1,1,1,1,1,1,0,1,0,0,1,1,0] 1) fun K54 hK54 => have hJ5 : ∀ (_ : Unit), oX (di p1 k2) x5 = some r → K54.p [(1, .one (.pv (.rp [(bA p1)] 0 0))), (86, vi (p1.fields.length : Int)), (87, vi x5)] [] := fun _ h => hK54 h (uJ (ih2 (IntKind.i64.wrap (x5 + 1)))); (uO (cd Tryz.f75 [1,1,1,1,1,1,1,0,1,0,0,1,1,0,0,1,1,0,0]) (kS Tryz.f75 [1,1,1,1,1,1,1,0,1,0,0,1,1,0,0,1,1,0] 2) fun R3 b3 => have hL3 : ∀ (k3 : Nat) (x6 : Int), dB (di p1 k2) p1 x5 k3 x6 = some r → (R3 k3).p [(1, .one (.pv (.rp [(bA p1)] 0 0))), (4, vi x5), (5, vi x6), (86, vi (p1.fields.length : Int)), (87, vi x5)] [] := by intro k3; induction k3 with | zero => intro x6 h; exact mg (dB.eq_1 ..) h | succ k3 ih3 => intro x6 h; exact b3 h (uU (dB.eq_2 ..) (uC (ns 12 (uL ay fun e3 a62 => (uL ay fun e4 a63 => (uC (uR .ret (xN (xN (xN (xN xF))))) (uJ (ih3 (IntKind.i64.wrap (x6 + 1)))))))) (uR (.exit 4) (xM (uJ (hJ5 ()))))))
 uE (hL3 aW (0 : Int)))) (uR (.exit 2) (xM (uJ (hJ6 ()))))))
 uE (hL2 aW (0 : Int))))); (uN ay p1.fields (uO (cd Tryz.f75 [1,1,1,1,1,1,0,1,0,0]) (kS Tryz.f75 [1,1,1,1,1,1,0,1,0] 1) fun R1 b1 => have hL1 : ∀ (k1 : Nat) (x4 : Int), dO p1 k1 x4 = some r → (R1 k1).p [(1, .one (.pv (.rp [(bA p1)] 0 0))), (71, vi (p1.fields.length : Int)), (72, vi x4)] [] := by intro k1; induction k1 with | zero => intro x4 h; exact mg (dO.eq_1 ..) h | succ k1 ih1 => intro x4 h; exact b1 h (uU (dO.eq_2 ..) (uC (uL ay fun e2 a45 => (uP (Ck _) fun r5 _ => (uC (uR .ret (xN (xN xF))) (uJ (ih1 (IntKind.i64.wrap (x4 + 1))))))) (uR (.exit 0) (xM (uJ (hJ4 ()))))))
 uE (hL1 aW (0 : Int))))))); (uC (uN ay p1.fields (uC (uJ (hJ3 true)) (uP (fD _) fun r3 _ => (uC (uN ay p1.fields (uJ (hJ3 (decide ((0 : Int) < (p1.fields.length : Int)))))) (uJ (hJ3 false)))))) (uP (fD _) fun r4 _ => (uC (uN ay p1.fields (uJ (hJ3 (decide ((0 : Int) < (p1.fields.length : Int)))))) (uJ (hJ3 false))))))); (uC (uN ay p1.fields (uC (uJ (hJ2 true)) (uL ay fun e1 a20 => (uJ (hJ2 (!(e1.name.toList == (ByteArray.mk #[]).toList))))))) (uJ (hJ2 false))))); (uC (uP (dg _ _ _) fun r2 _ => (uC (uJ (hJ1 true)) (uC (uJ (hJ1 (p1.scale != 0))) (uJ (hJ1 false))))) (uC (uJ (hJ1 (p1.scale != 0))) (uJ (hJ1 false)))))))
def oS (z3 : Int) : Option (Int × Int) := some ((0 : Int), z3)
def dL (q_ref1_checkType : af → Int → Int → Option (Int × Int)) (p1 : af) (p2 : Int) : Nat → Int → Int → Option (Int × Int)
 | 0, _, _ => none
 | k1 + 1, z2, x1 => ax (decide (x1 < (p1.fields.length : Int))) (az (at? p1.fields x1) fun e1 => az (q_ref1_checkType e1.type (IntKind.i64.wrap (p2 + 1)) z2) fun r3 => ax (r3.1 != 0) (some (r3.1, r3.2)) ((dL q_ref1_checkType p1 p2 k1) r3.2 (IntKind.i64.wrap (x1 + 1)))) (oS z2)
def fO (q_ref1_checkType : af → Int → Int → Option (Int × Int)) (p1 : af) (p2 z1 : Int) : Option (Int × Int) := az (pJ p1) fun r2 => ax (r2 != 0) (some (r2, z1)) (dL q_ref1_checkType p1 p2 aW z1 (0 : Int))
def cL : Nat → af → Int → Int → Option (Int × Int)
 | 0, _, _, _ => none
 | k0 + 1, p1, p2, p3 => ax (decide ((4 : Int) < p2)) (some ((7 : Int), p3)) (az (eN p1.kind) fun r1 => ax r1 (ax (p3 == 40) (some ((7 : Int), p3)) (fO (cL k0) p1 p2 (IntKind.i64.wrap (p3 + 1)))) (fO (cL k0) p1 p2 p3))
theorem pD : ∀ (k0 : Nat) (p1 : af) (p2 p3 : Int), CM Tryz.prog 38 [.ag [ci p1.kind, ci p1.scale, cl ay p1.fields], vi p2, .one (.pt 0 0 0 0)] [.box [ci p3]] (cL k0 p1 p2 p3) (fun r => vi r.1) (fun r => [.box [ci r.2]])
  | 0, _, _, _ => IQ (cL.eq_1 ..)
  | k0 + 1, p1, p2, p3 => rB 1 49 [] Tryz.f38 fun r => (uU (cL.eq_2 ..) (uC (uR .ret sL) (uQ (kS Tryz.f38 [1,1,0] 1) fun K6 hK6 => have hJ1 : ∀ (z1 : Int), fO (cL k0) p1 p2 z1 = some r → K6.p [(1, vi p2), (2, .one (.pt 0 0 0 0)), (3, .one (.pv (.rp [[pi p1.kind, pi p1.scale, .ro (ay.els p1.fields)]] 0 0)))] [.box [ci z1]] := fun z1 h => hK6 h (uP (A0 _) fun r2 _ => (uC (uR .ret sL) (uQ (kS Tryz.f38 [1,1,1,1,0] 1) fun K20 hK20 => have hJ2 : ∀ (z3 : Int), oS z3 = some r → K20.p [] [.box [ci z3]] := fun z3 h => hK20 h (uR .ret sL); (uN ay p1.fields (uO (cd Tryz.f38 [1,1,1,1,0,1,0,0]) (kS Tryz.f38 [1,1,1,1,0,1,0] 1) fun R1 b1 => have hL1 : ∀ (k1 : Nat) (z2 x1 : Int), dL (cL k0) p1 p2 k1 z2 x1 = some r → (R1 k1).p [(1, vi p2), (2, .one (.pt 0 0 0 0)), (3, .one (.pv (.rp [[pi p1.kind, pi p1.scale, .ro (ay.els p1.fields)]] 0 0))), (31, vi (p1.fields.length : Int)), (32, vi x1)] [.box [ci z2]] := by intro k1; induction k1 with | zero => intro z2 x1 h; exact mg (dL.eq_1 ..) h | succ k1 ih1 => intro z2 x1 h; exact b1 h (uU (dL.eq_2 ..) (uC (uL ay fun e1 a28 => (mX true [0] (pD k0 _ _ _) fun r3 _ => (uC (uR .ret (xN (xN sL))) (uJ (ih1 r3.2 (IntKind.i64.wrap (x1 + 1))))))) (uR (.exit 0) (xM (uJ (hJ2 z2))))))
 uE (hL1 aW z1 (0 : Int))))))); (uP (fD _) fun r1 _ => (uC (uC (uR .ret (xN sL)) (uJ (hJ1 (IntKind.i64.wrap (p3 + 1))))) (uJ (hJ1 p3)))))))
def cZ (p1 : af) : Option Int := az (cL aW p1 (1 : Int) (0 : Int)) fun r1 => some r1.1
theorem ir (p1 : af) : CT Tryz.prog 19 [.ag [ci p1.kind, ci p1.scale, cl ay p1.fields]] (cZ p1) vi :=
  eK 6 [3] Tryz.f19 fun r => (mX true [0] (pD aW _ _ _) fun r1 _ => (uR .ret xF))
def nJ (rec2 : Bool → Int → Option ByteArray) (x3 : Int) (x4 : Bool) : Option ByteArray := rec2 x4 (IntKind.i64.wrap (x3 + 1))
def lx (p1 : ByteArray) (x6 : Int) : Option ByteArray := bI (0 ≤ (0 : Int) ∧ (0 : Int) ≤ x6 ∧ x6 ≤ (p1.size : Int)) <| some (p1.extract (0 : Int).toNat x6.toNat)
def nz (rec1 : Int → Option ByteArray) (p1 : ByteArray) (x1 : Int) (x5 : Bool) : Option ByteArray := ax (!x5) (lx p1 x1) (rec1 (IntKind.i64.wrap (x1 + 1)))
def fj (rec1 : Int → Option ByteArray) (p1 p2 : ByteArray) (x1 : Int) : Nat → Bool → Int → Option ByteArray
 | 0, _, _ => none
 | k2 + 1, x2, x3 => ax (decide (x3 < (p2.size : Int))) (ax x2 (nJ (fj rec1 p1 p2 x1 k2) x3 true) (bI (0 ≤ x3 ∧ x3 < (p2.size : Int)) <| bI (0 ≤ x1 ∧ x1 < (p1.size : Int)) <| az (some (((p2.data.toList.getD x3.toNat 0).toNat : Int) == ((p1.data.toList.getD x1.toNat 0).toNat : Int))) fun y1 => nJ (fj rec1 p1 p2 x1 k2) x3 y1)) (nz rec1 p1 x1 x2)
def dQ (p1 p2 : ByteArray) : Nat → Int → Option ByteArray
 | 0, _ => none
 | k1 + 1, x1 => ax (decide (x1 < (p1.size : Int))) (fj (dQ p1 p2 k1) p1 p2 x1 aW false (0 : Int)) (lx p1 x1)
def kX (p1 p2 : ByteArray) : Option ByteArray := dQ p1 p2 aW (0 : Int)
theorem m7 (p1 p2 : ByteArray) : CT Tryz.prog 85 [vs p1, vs p2] (kX p1 p2) vs :=
  eK 35 [] Tryz.f85 fun r => (uQ (kS Tryz.f85 [1,1,0] 1) fun K3 hK3 => have hJ3 : ∀ (x6 : Int), lx p1 x6 = some r → K3.p [(0, vs p1), (5, vi x6)] [] := fun x6 h => hK3 h (uG (uR .ret xF)); (uO (cd Tryz.f85 [1,1,0,0,0]) (kS Tryz.f85 [1,1,0,0] 1) fun R1 b1 => have hL1 : ∀ (k1 : Nat) (x1 : Int), dQ p1 p2 k1 x1 = some r → (R1 k1).p [(0, vs p1), (1, vs p2), (5, vi x1)] [] := by intro k1; induction k1 with | zero => intro x1 h; exact mg (dQ.eq_1 ..) h | succ k1 ih1 => intro x1 h; exact b1 h (uU (dQ.eq_2 ..) (uC (uQ (kS Tryz.f85 [1,1,0,0,0,1,0,1,0] 2) fun K8 hK8 => have hJ2 : ∀ (x5 : Bool), nz (dQ p1 p2 k1) p1 x1 x5 = some r → K8.p [(0, vs p1), (1, vs p2), (5, vi x1), (6, vb x5)] [] := fun x5 h => hK8 h (uC (uR (.exit 0) (xM (uJ (hJ3 x1)))) (uJ (ih1 (IntKind.i64.wrap (x1 + 1))))); (uO (cd Tryz.f85 [1,1,0,0,0,1,0,1,0,1,0,0]) (kS Tryz.f85 [1,1,0,0,0,1,0,1,0,1,0] 1) fun R2 b2 => have hL2 : ∀ (k2 : Nat) (x2 : Bool) (x3 : Int), fj (dQ p1 p2 k1) p1 p2 x1 k2 x2 x3 = some r → (R2 k2).p [(0, vs p1), (1, vs p2), (5, vi x1), (6, vb x2), (7, vi x3)] [] := by intro k2; induction k2 with | zero => intro x2 x3 h; exact mg (fj.eq_1 ..) h | succ k2 ih2 => intro x2 x3 h; exact b2 h (uU (fj.eq_2 ..) (uC (uQ (kS Tryz.f85 [1,1,0,0,0,1,0,1,0,1,0,0,1,0] 1) fun K13 hK13 => have hJ1 : ∀ (x4 : Bool), nJ (fj (dQ p1 p2 k1) p1 p2 x1 k2) x3 x4 = some r → K13.p [(0, vs p1), (1, vs p2), (5, vi x1), (6, vb x4), (7, vi x3)] [] := fun x4 h => hK13 h (uJ (ih2 x4 (IntKind.i64.wrap (x3 + 1)))); (ns 8 (uC (uJ (hJ1 true)) (uG (uG (uY 26 vb fun y1 => (uJ (hJ1 y1)))))))) (uR (.exit 2) (xM (uJ (hJ2 x2))))))
 uE (hL2 aW false (0 : Int)))) (uR (.exit 0) (xM (uJ (hJ3 x1))))))
 uE (hL1 aW (0 : Int))))
def rx (x4 : Int) : Option (Int × Bool) := some (x4, true)
def fu (p1 : ByteArray) : Nat → Int → Int → Option (Int × Bool)
 | 0, _, _ => none
 | k1 + 1, x2, x3 => ax (decide (x3 < (p1.size : Int))) (bI (0 ≤ x3 ∧ x3 < (p1.size : Int)) <| az (some (IntKind.u8.wrap (((p1.data.toList.getD x3.toNat 0).toNat : Int) - (48 : Int)))) fun y1 => az (some (IntKind.i64.wrap ((IntKind.i64.wrap ((10 : Int) * x2)) + (IntKind.i64.wrap y1)))) fun y2 => (fu p1 k1) y2 (IntKind.i64.wrap (x3 + 1))) (rx x2)
def jK (p1 : ByteArray) (x1 : Bool) : Option (Int × Bool) := ax x1 (some ((0 : Int), false)) (fu p1 aW (0 : Int) (0 : Int))
def fx (p1 : ByteArray) : Option (Int × Bool) := ax ((p1.size : Int) == 0) (jK p1 true) (ax (decide ((18 : Int) < (p1.size : Int))) (jK p1 true) (az (kX p1 (ByteArray.mk #[48, 49, 50, 51, 52, 53, 54, 55, 56, 57])) fun r1 => jK p1 ((r1.size : Int) != (p1.size : Int))))
theorem gj (p1 : ByteArray) : CT Tryz.prog 88 [vs p1] (fx p1) (fun r => .tp [vi r.1, vb r.2]) :=
  eK 37 [] Tryz.f88 fun r => (uQ (kS Tryz.f88 [1,0,0] 2) fun K3 hK3 => have hJ1 : ∀ (x1 : Bool), jK p1 x1 = some r → K3.p [(0, vs p1), (21, vb x1)] [] := fun x1 h => hK3 h (uC (uR .ret xF) (uQ (kS Tryz.f88 [1,1,1,0] 1) fun K10 hK10 => have hJ2 : ∀ (x4 : Int), rx x4 = some r → K10.p [(4, vi x4)] [] := fun x4 h => hK10 h (uR .ret xF); (uO (cd Tryz.f88 [1,1,1,0,1,0,0]) (kS Tryz.f88 [1,1,1,0,1,0] 1) fun R1 b1 => have hL1 : ∀ (k1 : Nat) (x2 x3 : Int), fu p1 k1 x2 x3 = some r → (R1 k1).p [(0, vs p1), (4, vi x2), (5, vi x3)] [] := by intro k1; induction k1 with | zero => intro x2 x3 h; exact mg (fu.eq_1 ..) h | succ k1 ih1 => intro x2 x3 h; exact b1 h (uU (fu.eq_2 ..) (uC (uG (uY 33 (vk .u8) fun y1 => (uY 35 vi fun y2 => (uJ (ih1 y2 (IntKind.i64.wrap (x3 + 1))))))) (uR (.exit 0) (xM (uJ (hJ2 x2))))))
 uE (hL1 aW (0 : Int) (0 : Int))))); (uC (uJ (hJ1 true)) (uC (uJ (hJ1 true)) (uP (m7 _ _) fun r1 _ => (uJ (hJ1 ((r1.size : Int) != (p1.size : Int))))))))
def lz (p1 : ByteArray) (x1 : Bool) : Option (Int × Bool) := ax x1 (bI (0 ≤ (1 : Int) ∧ (1 : Int) ≤ (p1.size : Int) ∧ (p1.size : Int) ≤ (p1.size : Int)) <| az (fx (p1.extract (1 : Int).toNat (p1.size : Int).toNat)) fun r1 => some ((IntKind.i64.wrap (0 - r1.1)), r1.2)) (az (fx p1) fun r2 => some (r2.1, r2.2))
def mU (p1 : ByteArray) : Option (Int × Bool) := ax (decide ((0 : Int) < (p1.size : Int))) (bI (0 ≤ (0 : Int) ∧ (0 : Int) < (p1.size : Int)) <| lz p1 (((p1.data.toList.getD (0 : Int).toNat 0).toNat : Int) == 45)) (lz p1 false)
theorem sM (p1 : ByteArray) : CT Tryz.prog 86 [vs p1] (mU p1) (fun r => .tp [vi r.1, vb r.2]) :=
  eK 27 [] Tryz.f86 fun r => (uQ (kS Tryz.f86 [1,0,0] 2) fun K3 hK3 => have hJ1 : ∀ (x1 : Bool), lz p1 x1 = some r → K3.p [(0, vs p1), (13, vb x1)] [] := fun x1 h => hK3 h (uC (uG (uP (gj _) fun r1 _ => (uR .ret xF))) (uP (gj _) fun r2 _ => (uR .ret xF))); (uC (uG (uJ (hJ1 (((p1.data.toList.getD (0 : Int).toNat 0).toNat : Int) == 45)))) (uJ (hJ1 false))))
def lu (rec1 : ByteArray → Int → Option (ac × ByteArray × Bool)) (x5 : ByteArray) (x6 : Int) : Option (ac × ByteArray × Bool) := rec1 x5 (IntKind.i64.wrap (x6 + 1))
def lE (rec1 : ByteArray → Int → Option (ac × ByteArray × Bool)) (p1 x2 : ByteArray) (x3 : Int) (x4 : Bool) : Option (ac × ByteArray × Bool) := ax x4 (bI (x2.size + (ByteArray.mk #[39]).size ≤ 4611686018427387904) <| lu rec1 (x2 ++ (ByteArray.mk #[39])) (IntKind.i64.wrap (x3 + 1))) (bI (0 ≤ (IntKind.i64.wrap (x3 + 1)) ∧ (IntKind.i64.wrap (x3 + 1)) ≤ (p1.size : Int) ∧ (p1.size : Int) ≤ (p1.size : Int)) <| az (some (p1.extract (IntKind.i64.wrap (x3 + 1)).toNat (p1.size : Int).toNat)) fun y3 => some ((ac.mk (4 : Int) (0 : Int) (0 : Int) x2 []), y3, true))
def qR (p1 : ByteArray) : Option (ac × ByteArray × Bool) := some ((ac.mk (0 : Int) (0 : Int) (0 : Int) ByteArray.empty []), p1, false)
def cq (p1 : ByteArray) : Nat → ByteArray → Int → Option (ac × ByteArray × Bool)
 | 0, _, _ => none
 | k1 + 1, x2, x3 => ax (decide (x3 < (p1.size : Int))) (bI (0 ≤ x3 ∧ x3 < (p1.size : Int)) <| ax (((p1.data.toList.getD x3.toNat 0).toNat : Int) != 39) (bI (0 ≤ x3 ∧ x3 ≤ (IntKind.i64.wrap (x3 + 1)) ∧ (IntKind.i64.wrap (x3 + 1)) ≤ (p1.size : Int)) <| bI (x2.size + (p1.extract x3.toNat (IntKind.i64.wrap (x3 + 1)).toNat).size ≤ 4611686018427387904) <| az (some (x2 ++ (p1.extract x3.toNat (IntKind.i64.wrap (x3 + 1)).toNat))) fun y1 => lu (cq p1 k1) y1 x3) (ax (decide ((IntKind.i64.wrap (x3 + 1)) < (p1.size : Int))) (bI (0 ≤ (IntKind.i64.wrap (x3 + 1)) ∧ (IntKind.i64.wrap (x3 + 1)) < (p1.size : Int)) <| az (some ((p1.data.toList.getD (IntKind.i64.wrap (x3 + 1)).toNat 0).toNat : Int)) fun y2 => lE (cq p1 k1) p1 x2 x3 (y2 == 39)) (lE (cq p1 k1) p1 x2 x3 false))) (qR p1)
def lN (p1 : ByteArray) (x1 : Bool) : Option (ac × ByteArray × Bool) := ax x1 (some ((ac.mk (0 : Int) (0 : Int) (0 : Int) ByteArray.empty []), p1, false)) (cq p1 aW (ByteArray.mk #[]) (1 : Int))
def oE (p1 : ByteArray) : Option (ac × ByteArray × Bool) := ax ((p1.size : Int) == 0) (lN p1 true) (bI (0 ≤ (0 : Int) ∧ (0 : Int) < (p1.size : Int)) <| lN p1 (((p1.data.toList.getD (0 : Int).toNat 0).toNat : Int) != 39))
abbrev gP : List CV := [ci (0 : Int), ci (0 : Int), ci (0 : Int), eQ ByteArray.empty, .pv (.s (.slice none 0 0))]
theorem yI (p1 : ByteArray) : CT Tryz.prog 87 [vs p1] (oE p1) (fun r => .tp [.ag [ci r.1.kind, ci r.1.n, ci r.1.scale, eQ r.1.s, cl aj r.1.items], vs r.2.1, vb r.2.2]) :=
  eK 58 [2] Tryz.f87 fun r => (uQ (kS Tryz.f87 [1,0,0] 2) fun K3 hK3 => have hJ1 : ∀ (x1 : Bool), lN p1 x1 = some r → K3.p [(0, vs p1), (2, .one (.pt 0 0 0 0)), (14, vb x1)] [.box gP] := fun x1 h => hK3 h (uC (uR .ret xF) (uQ (kS Tryz.f87 [1,1,1,0] 1) fun K9 hK9 => have hJ4 : ∀ (_ : Unit), qR p1 = some r → K9.p [(0, vs p1), (2, .one (.pt 0 0 0 0))] [.box gP] := fun _ h => hK9 h (uR .ret xF); (uO (cd Tryz.f87 [1,1,1,0,1,0,0]) (kS Tryz.f87 [1,1,1,0,1,0] 1) fun R1 b1 => have hL1 : ∀ (k1 : Nat) (x2 : ByteArray) (x3 : Int), cq p1 k1 x2 x3 = some r → (R1 k1).p [(0, vs p1), (2, .one (.pt 0 0 0 0)), (5, vs x2), (6, vi x3)] [.box gP] := by intro k1; induction k1 with | zero => intro x2 x3 h; exact mg (cq.eq_1 ..) h | succ k1 ih1 => intro x2 x3 h; exact b1 h (uU (cq.eq_2 ..) (uC (uQ (kS Tryz.f87 [1,1,1,0,1,0,0,1,0] 1) fun K14 hK14 => have hJ3 : ∀ (x5 : ByteArray) (x6 : Int), lu (cq p1 k1) x5 x6 = some r → K14.p [(0, vs p1), (2, .one (.pt 0 0 0 0)), (5, vs x5), (6, vi x6)] [.box gP] := fun x5 x6 h => hK14 h (uJ (ih1 x5 (IntKind.i64.wrap (x6 + 1)))); (uG (uC (uG (xW 33 vs fun y1 => (uJ (hJ3 y1 x3)))) (uQ (kS Tryz.f87 [1,1,1,0,1,0,0,1,0,0,1,0,0] 3) fun K24 hK24 => have hJ2 : ∀ (x4 : Bool), lE (cq p1 k1) p1 x2 x3 x4 = some r → K24.p [(0, vs p1), (2, .one (.pt 0 0 0 0)), (5, vs x2), (6, vi x3), (45, vb x4)] [.box gP] := fun x4 h => hK24 h (uC (uG (uJ (hJ3 (x2 ++ (ByteArray.mk #[39])) (IntKind.i64.wrap (x3 + 1))))) (yA 7 0 [1] (xW 55 vs fun y3 => (uR .ret (xN (xN (xN xF))))))); (uC (xW 43 (vk .u8) fun y2 => (uJ (hJ2 (y2 == 39)))) (uJ (hJ2 false))))))) (uR (.exit 0) (xM (uJ (hJ4 ()))))))
 uE (hL1 aW (ByteArray.mk #[]) (1 : Int))))); (uC (uJ (hJ1 true)) (uG (uJ (hJ1 (((p1.data.toList.getD (0 : Int).toNat 0).toNat : Int) != 39))))))
def nD (x1 : Bool) : Option Bool := some x1
def zt (p1 : Int) : Option Bool := ax ((p1.tmod (4 : Int)) == 0) (ax ((p1.tmod (100 : Int)) != 0) (nD true) (nD ((p1.tmod (400 : Int)) == 0))) (nD false)
theorem Bp (p1 : Int) : CT Tryz.prog 139 [vi p1] (zt p1) vb :=
  eK 16 [] Tryz.f139 fun r => (uQ (kS Tryz.f139 [1,0] 1) fun K2 hK2 => have hJ1 : ∀ (x1 : Bool), nD x1 = some r → K2.p [(2, vb x1)] [] := fun x1 h => hK2 h (uR .ret xF); (uC (uC (uJ (hJ1 true)) (uJ (hJ1 ((p1.tmod (400 : Int)) == 0)))) (uJ (hJ1 false))))
def gL (x1 : Bool) : Option Int := ax x1 (some (30 : Int)) (some (31 : Int))
def iq (p1 p2 : Int) : Option Int := ax (p2 == 2) (az (zt p1) fun r1 => ax r1 (some (29 : Int)) (some (28 : Int))) (ax (p2 == 4) (gL (p2 == 4)) (ax (p2 == 6) (gL (p2 == 6)) (ax (p2 == 9) (gL (p2 == 9)) (gL (p2 == 11)))))
theorem jX (p1 p2 : Int) : CT Tryz.prog 102 [vi p1, vi p2] (iq p1 p2) vi :=
  eK 15 [] Tryz.f102 fun r => (uC (uP (Bp _) fun r1 _ => (uC (uR .ret xF) (uR .ret xF))) (uQ (kS Tryz.f102 [1,0,1,0,1,1,0] 3) fun K12 hK12 => have hJ1 : ∀ (x1 : Bool), gL x1 = some r → K12.p [(10, vb x1)] [] := fun x1 h => hK12 h (uC (uR .ret xF) (uR .ret xF)); (uC (uJ (hJ1 (p2 == 4))) (uC (uJ (hJ1 (p2 == 6))) (uC (uJ (hJ1 (p2 == 9))) (uJ (hJ1 (p2 == 11))))))))
def eU (x1 : Bool) : Option Bool := some x1
def nG (p1 : dJ) : Option Bool := az (cC p1.year (1 : Int) (9999 : Int)) fun r1 => ax r1 (az (cC p1.month (1 : Int) (12 : Int)) fun r2 => ax r2 (az (iq p1.year p1.month) fun r3 => az (cC p1.day (1 : Int) r3) fun r4 => ax r4 (az (cC p1.hour (0 : Int) (23 : Int)) fun r5 => ax r5 (az (cC p1.minute (0 : Int) (59 : Int)) fun r6 => ax r6 (az (cC p1.second (0 : Int) (59 : Int)) fun r7 => eU r7) (eU false)) (eU false)) (eU false)) (eU false)) (eU false)
theorem xD (p1 : dJ) : CT Tryz.prog 89 [.ag [ci p1.year, ci p1.month, ci p1.day, ci p1.hour, ci p1.minute, ci p1.second]] (nG p1) vb :=
  eK 36 [] Tryz.f89 fun r => (uQ (kS Tryz.f89 [1,0] 1) fun K2 hK2 => have hJ1 : ∀ (x1 : Bool), eU x1 = some r → K2.p [(2, vb x1)] [] := fun x1 h => hK2 h (uR .ret xF); (ns 16 (uP (dg _ _ _) fun r1 _ => (uC (uP (dg _ _ _) fun r2 _ => (uC (uP (jX _ _) fun r3 _ => (uP (dg _ _ _) fun r4 _ => (uC (uP (dg _ _ _) fun r5 _ => (uC (uP (dg _ _ _) fun r6 _ => (uC (uP (dg _ _ _) fun r7 _ => (uJ (hJ1 r7))) (uJ (hJ1 false)))) (uJ (hJ1 false)))) (uJ (hJ1 false))))) (uJ (hJ1 false)))) (uJ (hJ1 false))))))
def jl (x1 : Int) : Option Int := some (IntKind.i64.wrap (x1 - 719528))
def iy (p1 : Int) : Option Int := ax (decide ((0 : Int) < p1)) (az (some (IntKind.i64.wrap ((IntKind.i64.wrap (p1 - 1)).tdiv (4 : Int)))) fun y1 => az (some (IntKind.i64.wrap ((IntKind.i64.wrap (p1 - 1)).tdiv (100 : Int)))) fun y2 => az (some (IntKind.i64.wrap ((IntKind.i64.wrap (p1 - 1)).tdiv (400 : Int)))) fun y3 => az (some (IntKind.i64.wrap ((IntKind.i64.wrap ((IntKind.i64.wrap (y1 - y2)) + y3)) + (1 : Int)))) fun y4 => jl (IntKind.i64.wrap ((IntKind.i64.wrap ((365 : Int) * p1)) + y4))) (jl (IntKind.i64.wrap ((365 : Int) * p1)))
theorem l8 (p1 : Int) : CT Tryz.prog 101 [vi p1] (iy p1) vi :=
  eK 24 [] Tryz.f101 fun r => (uQ (kS Tryz.f101 [1,1,0] 1) fun K3 hK3 => have hJ1 : ∀ (x1 : Int), jl x1 = some r → K3.p [(3, vi x1)] [] := fun x1 h => hK3 h (uR .ret xF); (uC (uY 11 vi fun y1 => (uY 14 vi fun y2 => (uY 18 vi fun y3 => (uY 20 vi fun y4 => (uJ (hJ1 (IntKind.i64.wrap ((IntKind.i64.wrap ((365 : Int) * p1)) + y4)))))))) (uJ (hJ1 (IntKind.i64.wrap ((365 : Int) * p1))))))
def pL (p3 x3 : Int) : Option Int := some (IntKind.i64.wrap ((IntKind.i64.wrap (x3 + p3)) - (1 : Int)))
def iK (p1 p2 p3 : Int) : Nat → Int → Int → Option Int
 | 0, _, _ => none
 | k1 + 1, x1, x2 => ax (decide (x2 < p2)) (az (iq p1 x2) fun r2 => (iK p1 p2 p3 k1) (IntKind.i64.wrap (x1 + r2)) (IntKind.i64.wrap (x2 + 1))) (pL p3 x1)
def sa (p1 p2 p3 : Int) : Option Int := az (iy p1) fun r1 => iK p1 p2 p3 aW r1 (1 : Int)
theorem BO (p1 p2 p3 : Int) : CT Tryz.prog 128 [vi p1, vi p2, vi p3] (sa p1 p2 p3) vi :=
  eK 25 [] Tryz.f128 fun r => (uP (l8 _) fun r1 _ => (uQ (kS Tryz.f128 [1,1,0] 1) fun K4 hK4 => have hJ1 : ∀ (x3 : Int), pL p3 x3 = some r → K4.p [(2, vi p3), (7, vi x3)] [] := fun x3 h => hK4 h (uR .ret xF); (uO (cd Tryz.f128 [1,1,0,1,0,0]) (kS Tryz.f128 [1,1,0,1,0] 1) fun R1 b1 => have hL1 : ∀ (k1 : Nat) (x1 x2 : Int), iK p1 p2 p3 k1 x1 x2 = some r → (R1 k1).p [(0, vi p1), (1, vi p2), (2, vi p3), (7, vi x1), (8, vi x2)] [] := by intro k1; induction k1 with | zero => intro x1 x2 h; exact mg (iK.eq_1 ..) h | succ k1 ih1 => intro x1 x2 h; exact b1 h (uU (iK.eq_2 ..) (uC (uP (jX _ _) fun r2 _ => (uJ (ih1 (IntKind.i64.wrap (x1 + r2)) (IntKind.i64.wrap (x2 + 1))))) (uR (.exit 0) (xM (uJ (hJ1 x1))))))
 uE (hL1 aW r1 (1 : Int)))))
def nF (p1 : dJ) : Option Int := az (sa p1.year p1.month p1.day) fun r1 => az (some (IntKind.i64.wrap ((IntKind.i64.wrap ((86400 : Int) * r1)) + (IntKind.i64.wrap ((3600 : Int) * p1.hour))))) fun y1 => az (some (IntKind.i64.wrap ((IntKind.i64.wrap (y1 + (IntKind.i64.wrap ((60 : Int) * p1.minute)))) + p1.second))) fun y2 => some y2
theorem yk (p1 : dJ) : CT Tryz.prog 90 [.ag [ci p1.year, ci p1.month, ci p1.day, ci p1.hour, ci p1.minute, ci p1.second]] (nF p1) vi :=
  eK 22 [] Tryz.f90 fun r => (ns 18 (uP (BO _ _ _) fun r1 _ => (uY 14 vi fun y1 => (uY 21 vi fun y2 => (uR .ret xF)))))
def kx (p2 r1 : ByteArray) (x2 : Int) : Option (ac × ByteArray × Bool) := bI (0 ≤ (r1.size : Int) ∧ (r1.size : Int) ≤ (p2.size : Int) ∧ (p2.size : Int) ≤ (p2.size : Int)) <| some ((ac.mk (1 : Int) x2 (0 : Int) ByteArray.empty []), (p2.extract (r1.size : Int).toNat (p2.size : Int).toNat), true)
def mB (rec1 : ByteArray → Int → Option (ac × ByteArray × Bool)) (x4 : Int) (x5 : ByteArray) : Option (ac × ByteArray × Bool) := rec1 x5 (IntKind.i64.wrap (x4 + 1))
def kh (p1 : af) (p2 r4 x9 : ByteArray) : Option (ac × ByteArray × Bool) := az (mU x9) fun r5 => bI (0 ≤ (r4.size : Int) ∧ (r4.size : Int) ≤ (p2.size : Int) ∧ (p2.size : Int) ≤ (p2.size : Int)) <| some ((ac.mk (3 : Int) r5.1 p1.scale ByteArray.empty []), (p2.extract (r4.size : Int).toNat (p2.size : Int).toNat), r5.2)
def dP (rec2 : ByteArray → Option (ac × ByteArray × Bool)) (p1 : af) (p2 r4 x7 : ByteArray) (x8 : Bool) : Option (ac × ByteArray × Bool) := ax x8 (bI (0 ≤ (0 : Int) ∧ (0 : Int) < (x7.size : Int)) <| ax (((x7.data.toList.getD (0 : Int).toNat 0).toNat : Int) == 45) (bI (0 ≤ (2 : Int) ∧ (2 : Int) ≤ (x7.size : Int) ∧ (x7.size : Int) ≤ (x7.size : Int)) <| bI ((ByteArray.mk #[45]).size + (x7.extract (2 : Int).toNat (x7.size : Int).toNat).size ≤ 4611686018427387904) <| az (some ((ByteArray.mk #[45]) ++ (x7.extract (2 : Int).toNat (x7.size : Int).toNat))) fun y3 => rec2 y3) (bI (0 ≤ (1 : Int) ∧ (1 : Int) ≤ (x7.size : Int) ∧ (x7.size : Int) ≤ (x7.size : Int)) <| rec2 (x7.extract (1 : Int).toNat (x7.size : Int).toNat))) (kh p1 p2 r4 x7)
def cw (p1 : af) (p2 r4 : ByteArray) : Nat → ByteArray → Option (ac × ByteArray × Bool)
 | 0, _ => none
 | k2 + 1, x7 => ax (decide ((18 : Int) < (x7.size : Int))) (bI (0 ≤ (0 : Int) ∧ (0 : Int) < (x7.size : Int)) <| ax (((x7.data.toList.getD (0 : Int).toNat 0).toNat : Int) == 48) (dP (cw p1 p2 r4 k2) p1 p2 r4 x7 true) (bI (0 ≤ (0 : Int) ∧ (0 : Int) < (x7.size : Int)) <| ax (((x7.data.toList.getD (0 : Int).toNat 0).toNat : Int) == 45) (bI (0 ≤ (1 : Int) ∧ (1 : Int) < (x7.size : Int)) <| dP (cw p1 p2 r4 k2) p1 p2 r4 x7 (((x7.data.toList.getD (1 : Int).toNat 0).toNat : Int) == 48)) (dP (cw p1 p2 r4 k2) p1 p2 r4 x7 false))) (dP (cw p1 p2 r4 k2) p1 p2 r4 x7 false)
def sY (p1 : af) (p2 r4 x6 : ByteArray) : Option (ac × ByteArray × Bool) := cw p1 p2 r4 aW x6
def eo (p1 : af) (p2 r4 : ByteArray) : Nat → ByteArray → Int → Option (ac × ByteArray × Bool)
 | 0, _, _ => none
 | k1 + 1, x3, x4 => ax (decide (x4 < (r4.size : Int))) (bI (0 ≤ x4 ∧ x4 < (r4.size : Int)) <| ax (((r4.data.toList.getD x4.toNat 0).toNat : Int) != 46) (bI (0 ≤ x4 ∧ x4 ≤ (IntKind.i64.wrap (x4 + 1)) ∧ (IntKind.i64.wrap (x4 + 1)) ≤ (r4.size : Int)) <| bI (x3.size + (r4.extract x4.toNat (IntKind.i64.wrap (x4 + 1)).toNat).size ≤ 4611686018427387904) <| az (some (x3 ++ (r4.extract x4.toNat (IntKind.i64.wrap (x4 + 1)).toNat))) fun y2 => mB (eo p1 p2 r4 k1) x4 y2) (mB (eo p1 p2 r4 k1) x4 x3)) (sY p1 p2 r4 x3)
def bW (p1 : af) (p2 : ByteArray) (x1 : Bool) : Option (ac × ByteArray × Bool) := ax x1 (bI (0 ≤ (4 : Int) ∧ (4 : Int) ≤ (p2.size : Int) ∧ (p2.size : Int) ≤ (p2.size : Int)) <| some ((ac.mk (0 : Int) (0 : Int) (0 : Int) ByteArray.empty []), (p2.extract (4 : Int).toNat (p2.size : Int).toNat), true)) (ax (p1.kind == 1) (az (kX p2 (ByteArray.mk #[116, 114, 117, 101, 102, 97, 108, 115])) fun r1 => ax (r1.toList == (ByteArray.mk #[116, 114, 117, 101]).toList) (kx p2 r1 (1 : Int)) (kx p2 r1 (0 : Int))) (ax (p1.kind == 2) (az (kX p2 (ByteArray.mk #[45, 48, 49, 50, 51, 52, 53, 54, 55, 56, 57])) fun r2 => az (mU r2) fun r3 => bI (0 ≤ (r2.size : Int) ∧ (r2.size : Int) ≤ (p2.size : Int) ∧ (p2.size : Int) ≤ (p2.size : Int)) <| some ((ac.mk (2 : Int) r3.1 (0 : Int) ByteArray.empty []), (p2.extract (r2.size : Int).toNat (p2.size : Int).toNat), r3.2)) (ax (p1.kind == 3) (az (kX p2 (ByteArray.mk #[45, 48, 49, 50, 51, 52, 53, 54, 55, 56, 57, 46])) fun r4 => eo p1 p2 r4 aW (ByteArray.mk #[]) (0 : Int)) (ax (p1.kind == 4) (az (oE p2) fun r6 => some (r6.1, r6.2.1, r6.2.2)) (ax (p1.kind == 5) (az (kX p2 (ByteArray.mk #[48, 49, 50, 51, 52, 53, 54, 55, 56, 57, 45, 84, 58, 90])) fun r7 => ax ((r7.size : Int) != 20) (some ((ac.mk (0 : Int) (0 : Int) (0 : Int) ByteArray.empty []), p2, false)) (bI (0 ≤ (0 : Int) ∧ (0 : Int) ≤ (4 : Int) ∧ (4 : Int) ≤ (r7.size : Int)) <| az (fx (r7.extract (0 : Int).toNat (4 : Int).toNat)) fun r8 => ax (!r8.2) (some ((ac.mk (0 : Int) (0 : Int) (0 : Int) ByteArray.empty []), p2, false)) (bI (0 ≤ (5 : Int) ∧ (5 : Int) ≤ (7 : Int) ∧ (7 : Int) ≤ (r7.size : Int)) <| az (fx (r7.extract (5 : Int).toNat (7 : Int).toNat)) fun r9 => ax (!r9.2) (some ((ac.mk (0 : Int) (0 : Int) (0 : Int) ByteArray.empty []), p2, false)) (bI (0 ≤ (8 : Int) ∧ (8 : Int) ≤ (10 : Int) ∧ (10 : Int) ≤ (r7.size : Int)) <| az (fx (r7.extract (8 : Int).toNat (10 : Int).toNat)) fun r10 => ax (!r10.2) (some ((ac.mk (0 : Int) (0 : Int) (0 : Int) ByteArray.empty []), p2, false)) (bI (0 ≤ (11 : Int) ∧ (11 : Int) ≤ (13 : Int) ∧ (13 : Int) ≤ (r7.size : Int)) <| az (fx (r7.extract (11 : Int).toNat (13 : Int).toNat)) fun r11 => ax (!r11.2) (some ((ac.mk (0 : Int) (0 : Int) (0 : Int) ByteArray.empty []), p2, false)) (bI (0 ≤ (14 : Int) ∧ (14 : Int) ≤ (16 : Int) ∧ (16 : Int) ≤ (r7.size : Int)) <| az (fx (r7.extract (14 : Int).toNat (16 : Int).toNat)) fun r12 => ax (!r12.2) (some ((ac.mk (0 : Int) (0 : Int) (0 : Int) ByteArray.empty []), p2, false)) (bI (0 ≤ (17 : Int) ∧ (17 : Int) ≤ (19 : Int) ∧ (19 : Int) ≤ (r7.size : Int)) <| az (fx (r7.extract (17 : Int).toNat (19 : Int).toNat)) fun r13 => ax (!r13.2) (some ((ac.mk (0 : Int) (0 : Int) (0 : Int) ByteArray.empty []), p2, false)) (az (nG (dJ.mk r8.1 r9.1 r10.1 r11.1 r12.1 r13.1)) fun r14 => ax (!r14) (some ((ac.mk (0 : Int) (0 : Int) (0 : Int) ByteArray.empty []), p2, false)) (az (nF (dJ.mk r8.1 r9.1 r10.1 r11.1 r12.1 r13.1)) fun r15 => bI (0 ≤ (20 : Int) ∧ (20 : Int) ≤ (p2.size : Int) ∧ (p2.size : Int) ≤ (p2.size : Int)) <| some ((ac.mk (5 : Int) r15 (0 : Int) ByteArray.empty []), (p2.extract (20 : Int).toNat (p2.size : Int).toNat), true)))))))))) (some ((ac.mk (0 : Int) (0 : Int) (0 : Int) ByteArray.empty []), p2, false)))))))
def md (p1 : af) (p2 : ByteArray) : Option (ac × ByteArray × Bool) := ax (decide ((4 : Int) ≤ (p2.size : Int))) (bI (0 ≤ (0 : Int) ∧ (0 : Int) ≤ (4 : Int) ∧ (4 : Int) ≤ (p2.size : Int)) <| az (some ((p2.extract (0 : Int).toNat (4 : Int).toNat).toList == (ByteArray.mk #[110, 117, 108, 108]).toList)) fun y1 => bW p1 p2 y1) (bW p1 p2 false)
abbrev xx : St := [.box gP, .dead]
theorem Az (p1 : af) (p2 : ByteArray) : CT Tryz.prog 47 [.ag [ci p1.kind, ci p1.scale, cl ay p1.fields], vs p2] (md p1 p2) (fun r => .tp [.ag [ci r.1.kind, ci r.1.n, ci r.1.scale, eQ r.1.s, cl aj r.1.items], vs r.2.1, vb r.2.2]) :=
  eK 199 [4, 7, 19, 20, 21, 25] Tryz.f47 fun r => (uQ (kS Tryz.f47 [1,1,0,0] 2) fun K4 hK4 => have hJ1 : ∀ (x1 : Bool), bW p1 p2 x1 = some r → K4.p [(1, vs p2), (2, .one (.pv (.rp [(bA p1)] 0 0))), (4, .one (.pt 0 0 0 0)), (7, .one (.pt 1 0 0 0)), (34, vb x1)] [.box gP, .box gP] := fun x1 h => hK4 h (uC (yA 4 0 [2] (uG (uR .ret xF))) (uC (uP (m7 _ _) fun r1 _ => (uQ (kS Tryz.f47 [1,1,1,0,1,0,1,0,1,1,0] 3) fun K18 hK18 => have hJ2 : ∀ (x2 : Int), kx p2 r1 x2 = some r → K18.p [(1, vs p2), (4, .one (.pt 0 0 0 0)), (8, vs r1), (9, vi x2)] xx := fun x2 h => hK18 h (yA 7 0 [2] (uG (uR .ret xF))); (uC (uJ (hJ2 (1 : Int))) (uJ (hJ2 (0 : Int)))))) (uC (uP (m7 _ _) fun r2 _ => (uP (sM _) fun r3 _ => (yA 9 0 [2] (uG (uR .ret xF))))) (uC (uP (m7 _ _) fun r4 _ => (uQ (kS Tryz.f47 [1,1,1,0,1,0,1,1,1,1,1,0,1,1,0] 3) fun K36 hK36 => have hJ4 : ∀ (x6 : ByteArray), sY p1 p2 r4 x6 = some r → K36.p [(1, vs p2), (2, .one (.pv (.rp [(bA p1)] 0 0))), (4, .one (.pt 0 0 0 0)), (13, vs r4), (14, vs x6)] xx := fun x6 h => hK36 h (uQ (kS Tryz.f47 [1,1,1,0,1,0,1,1,1,1,1,0,1,1,1,0] 3) fun K48 hK48 => have hJ6 : ∀ (x9 : ByteArray), kh p1 p2 r4 x9 = some r → K48.p [(1, vs p2), (2, .one (.pv (.rp [(bA p1)] 0 0))), (4, .one (.pt 0 0 0 0)), (13, vs r4), (14, vs x9)] xx := fun x9 h => hK48 h (uP (sM _) fun r5 _ => (yA 11 0 [2] (uG (uR .ret xF)))); (uO (cd Tryz.f47 [1,1,1,0,1,0,1,1,1,1,1,0,1,1,1,0,0,0]) (kS Tryz.f47 [1,1,1,0,1,0,1,1,1,1,1,0,1,1,1,0,0] 1) fun R2 b2 => have hL2 : ∀ (k2 : Nat) (x7 : ByteArray), cw p1 p2 r4 k2 x7 = some r → (R2 k2).p [(1, vs p2), (2, .one (.pv (.rp [(bA p1)] 0 0))), (4, .one (.pt 0 0 0 0)), (13, vs r4), (14, vs x7)] xx := by intro k2; induction k2 with | zero => intro x7 h; exact mg (cw.eq_1 ..) h | succ k2 ih2 => intro x7 h; exact b2 h (uU (cw.eq_2 ..) (uQ (kS Tryz.f47 [1,1,1,0,1,0,1,1,1,1,1,0,1,1,1,0,0,0,0,0] 2) fun K50 hK50 => have hJ5 : ∀ (x8 : Bool), dP (cw p1 p2 r4 k2) p1 p2 r4 x7 x8 = some r → K50.p [(1, vs p2), (2, .one (.pv (.rp [(bA p1)] 0 0))), (4, .one (.pt 0 0 0 0)), (13, vs r4), (14, vs x7), (106, vb x8)] xx := fun x8 h => hK50 h (uC (uG (uC (uG (xW 112 vs fun y3 => (uJ (ih2 y3)))) (uG (uJ (ih2 (x7.extract (1 : Int).toNat (x7.size : Int).toNat)))))) (uR (.exit 3) (xM (uJ (hJ6 x7))))); (uC (uG (uC (uJ (hJ5 true)) (uG (uC (uG (uJ (hJ5 (((x7.data.toList.getD (1 : Int).toNat 0).toNat : Int) == 48)))) (uJ (hJ5 false)))))) (uJ (hJ5 false)))))
 uE (hL2 aW x6))); (uO (cd Tryz.f47 [1,1,1,0,1,0,1,1,1,1,1,0,1,1,0,1,0,0]) (kS Tryz.f47 [1,1,1,0,1,0,1,1,1,1,1,0,1,1,0,1,0] 1) fun R1 b1 => have hL1 : ∀ (k1 : Nat) (x3 : ByteArray) (x4 : Int), eo p1 p2 r4 k1 x3 x4 = some r → (R1 k1).p [(1, vs p2), (2, .one (.pv (.rp [(bA p1)] 0 0))), (4, .one (.pt 0 0 0 0)), (13, vs r4), (14, vs x3), (15, vi x4)] xx := by intro k1; induction k1 with | zero => intro x3 x4 h; exact mg (eo.eq_1 ..) h | succ k1 ih1 => intro x3 x4 h; exact b1 h (uU (eo.eq_2 ..) (uC (uQ (kS Tryz.f47 [1,1,1,0,1,0,1,1,1,1,1,0,1,1,0,1,0,0,1,0] 1) fun K41 hK41 => have hJ3 : ∀ (x5 : ByteArray), mB (eo p1 p2 r4 k1) x4 x5 = some r → K41.p [(1, vs p2), (2, .one (.pv (.rp [(bA p1)] 0 0))), (4, .one (.pt 0 0 0 0)), (13, vs r4), (14, vs x5), (15, vi x4)] xx := fun x5 h => hK41 h (uJ (ih1 x5 (IntKind.i64.wrap (x4 + 1)))); (uG (uC (uG (xW 88 vs fun y2 => (uJ (hJ3 y2)))) (uJ (hJ3 x3))))) (uR (.exit 1) (xM (uJ (hJ4 x3))))))
 uE (hL1 aW (ByteArray.mk #[]) (0 : Int))))) (uC (uP (yI _) fun r6 _ => (uR .ret xF)) (uC (uP (m7 _ _) fun r7 _ => (uC (uR .ret xF) (Lu 6 (ns 17 (uG (uP (gj _) fun r8 _ => (uC (uR .ret xF) (ns 17 (uG (uP (gj _) fun r9 _ => (uC (uR .ret xF) (ns 17 (uG (uP (gj _) fun r10 _ => (uC (uR .ret xF) (ns 17 (uG (uP (gj _) fun r11 _ => (uC (uR .ret xF) (ns 17 (uG (uP (gj _) fun r12 _ => (uC (uR .ret xF) (ns 17 (uG (uP (gj _) fun r13 _ => (uC (uR .ret xF) (uP (xD _) fun r14 _ => (uC (uR .ret xF) (yA 6 0 [6] (uP (yk _) fun r15 _ => (uG (uR .ret xF))))))))))))))))))))))))))))))))) (uR .ret xF))))))); (uC (uG (uY 33 vb fun y1 => (uJ (hJ1 y1)))) (uJ (hJ1 false))))
def iL (rec1 : List ac → ByteArray → Int → Option (ac × ByteArray × Bool)) (q_ref1_read : af → ByteArray → Option (ac × ByteArray × Bool)) (p1 : af) (p2 : ByteArray) (l1 : List ac) (x3 : Int) (x5 : ByteArray) (x6 : Int) : Option (ac × ByteArray × Bool) := ax (decide ((p1.fields.length : Int) ≤ x6)) (some ((ac.mk p1.kind (0 : Int) (0 : Int) ByteArray.empty l1), p2, false)) (az (at? p1.fields x6) fun e1 => az (q_ref1_read e1.type x5) fun r3 => ax (!r3.2.2) (some ((ac.mk p1.kind (0 : Int) (0 : Int) ByteArray.empty l1), p2, false)) (bI (l1.length + 1 ≤ 4294967296) <| rec1 (l1 ++ [r3.1]) r3.2.1 (IntKind.i64.wrap (x3 + 1))))
def iN (rec1 : List ac → ByteArray → Int → Option (ac × ByteArray × Bool)) (q_ref1_read : af → ByteArray → Option (ac × ByteArray × Bool)) (p1 : af) (p2 : ByteArray) (l1 : List ac) (x3 : Int) (x5 : ByteArray) : Option (ac × ByteArray × Bool) := ax (p1.kind == 7) (iL rec1 q_ref1_read p1 p2 l1 x3 x5 x3) (iL rec1 q_ref1_read p1 p2 l1 x3 x5 (0 : Int))
def eJ (rec1 : List ac → ByteArray → Int → Option (ac × ByteArray × Bool)) (q_ref1_read : af → ByteArray → Option (ac × ByteArray × Bool)) (p1 : af) (p2 : ByteArray) (l1 : List ac) (x2 : ByteArray) (x3 : Int) (x4 : Bool) : Option (ac × ByteArray × Bool) := ax x4 (bI (0 ≤ (1 : Int) ∧ (1 : Int) ≤ (x2.size : Int) ∧ (x2.size : Int) ≤ (x2.size : Int)) <| some ((ac.mk p1.kind (0 : Int) (0 : Int) ByteArray.empty l1), (x2.extract (1 : Int).toNat (x2.size : Int).toNat), true)) (ax (decide ((0 : Int) < x3)) (ax (decide ((x2.size : Int) < (2 : Int))) (some ((ac.mk p1.kind (0 : Int) (0 : Int) ByteArray.empty l1), p2, false)) (bI (0 ≤ (2 : Int) ∧ (2 : Int) ≤ (x2.size : Int) ∧ (x2.size : Int) ≤ (x2.size : Int)) <| iN rec1 q_ref1_read p1 p2 l1 x3 (x2.extract (2 : Int).toNat (x2.size : Int).toNat))) (iN rec1 q_ref1_read p1 p2 l1 x3 x2))
def u9 (p1 : af) (p2 : ByteArray) (l2 : List ac) : Option (ac × ByteArray × Bool) := some ((ac.mk p1.kind (0 : Int) (0 : Int) ByteArray.empty l2), p2, false)
def bo (q_ref1_read : af → ByteArray → Option (ac × ByteArray × Bool)) (p1 : af) (p2 : ByteArray) : Nat → List ac → ByteArray → Int → Option (ac × ByteArray × Bool)
 | 0, _, _, _ => none
 | k1 + 1, l1, x2, x3 => ax (decide (x3 ≤ (256 : Int))) (ax (decide ((0 : Int) < (x2.size : Int))) (bI (0 ≤ (0 : Int) ∧ (0 : Int) < (x2.size : Int)) <| ax (((x2.data.toList.getD (0 : Int).toNat 0).toNat : Int) == 93) (eJ (bo q_ref1_read p1 p2 k1) q_ref1_read p1 p2 l1 x2 x3 true) (bI (0 ≤ (0 : Int) ∧ (0 : Int) < (x2.size : Int)) <| eJ (bo q_ref1_read p1 p2 k1) q_ref1_read p1 p2 l1 x2 x3 (((x2.data.toList.getD (0 : Int).toNat 0).toNat : Int) == 41))) (eJ (bo q_ref1_read p1 p2 k1) q_ref1_read p1 p2 l1 x2 x3 false)) (u9 p1 p2 l1)
def gc (q_ref1_read : af → ByteArray → Option (ac × ByteArray × Bool)) (p1 : af) (p2 : ByteArray) (x1 : Bool) : Option (ac × ByteArray × Bool) := ax x1 (bI (0 ≤ (4 : Int) ∧ (4 : Int) ≤ (p2.size : Int) ∧ (p2.size : Int) ≤ (p2.size : Int)) <| some ((ac.mk (0 : Int) (0 : Int) (0 : Int) ByteArray.empty []), (p2.extract (4 : Int).toNat (p2.size : Int).toNat), true)) (ax (decide ((p2.size : Int) < (2 : Int))) (some ((ac.mk (0 : Int) (0 : Int) (0 : Int) ByteArray.empty []), p2, false)) (bI (0 ≤ (1 : Int) ∧ (1 : Int) ≤ (p2.size : Int) ∧ (p2.size : Int) ≤ (p2.size : Int)) <| bo q_ref1_read p1 p2 aW [] (p2.extract (1 : Int).toNat (p2.size : Int).toNat) (0 : Int)))
def cj : Nat → af → ByteArray → Option (ac × ByteArray × Bool)
 | 0, _, _ => none
 | k0 + 1, p1, p2 => az (eN p1.kind) fun r1 => ax r1 (az (md p1 p2) fun r2 => some (r2.1, r2.2.1, r2.2.2)) (ax (decide ((4 : Int) ≤ (p2.size : Int))) (bI (0 ≤ (0 : Int) ∧ (0 : Int) ≤ (4 : Int) ∧ (4 : Int) ≤ (p2.size : Int)) <| az (some ((p2.extract (0 : Int).toNat (4 : Int).toNat).toList == (ByteArray.mk #[110, 117, 108, 108]).toList)) fun y1 => gc (cj k0) p1 p2 y1) (gc (cj k0) p1 p2 false))
abbrev L7 (p1 : af) (l1 : List ac) : List CV := [ci p1.kind, ci (0 : Int), ci (0 : Int), eQ ByteArray.empty, .sl 2 5 0 l1.length]
abbrev EY (p1 : af) (l1 : List ac) : St := [.box gP, .box (L7 p1 l1), .arr 5 (aj.els l1)]
theorem wl : ∀ (k0 : Nat) (p1 : af) (p2 : ByteArray), CT Tryz.prog 23 [.ag [ci p1.kind, ci p1.scale, cl ay p1.fields], vs p2] (cj k0 p1 p2) (fun r => .tp [.ag [ci r.1.kind, ci r.1.n, ci r.1.scale, eQ r.1.s, cl aj r.1.items], vs r.2.1, vb r.2.2])
  | 0, _, _ => wJ (cj.eq_1 ..)
  | k0 + 1, p1, p2 => eK 109 [4, 7, 11] Tryz.f23 fun r => (uU (cj.eq_2 ..) (uP (fD _) fun r1 _ => (uC (uP (Az _ _) fun r2 _ => (uR .ret xF)) (uQ (kS Tryz.f23 [1,1,0,0] 2) fun K9 hK9 => have hJ1 : ∀ (x1 : Bool), gc (cj k0) p1 p2 x1 = some r → K9.p [(1, vs p2), (2, .one (.pv (.rp [(bA p1)] 0 0))), (4, .one (.pt 0 0 0 0)), (30, vb x1)] [.box gP] := fun x1 h => hK9 h (uC (yA 4 0 [1] (uG (uR .ret xF))) (uC (uR .ret xF) (uG (uQ (kS Tryz.f23 [1,1,1,1,1,1,0] 1) fun K23 hK23 => have hJ5 : ∀ (l2 : List ac), u9 p1 p2 l2 = some r → K23.p [(1, vs p2), (4, .one (.pt 0 0 0 0)), (7, .one (.pt 1 0 0 0))] [.box gP, .box [ci p1.kind, ci (0 : Int), ci (0 : Int), eQ ByteArray.empty, .sl 2 5 0 l2.length], .arr 5 (aj.els l2)] := fun l2 h => hK23 h (DW aj l2 2 [] (uR .ret xF)); (F8 (.lb 1 4 5) (uO (cd Tryz.f23 [1,1,1,1,1,1,0,1,0,0]) (kS Tryz.f23 [1,1,1,1,1,1,0,1,0] 1) fun R1 b1 => have hL1 : ∀ (k1 : Nat) (l1 : List ac) (x2 : ByteArray) (x3 : Int), bo (cj k0) p1 p2 k1 l1 x2 x3 = some r → (R1 k1).p [(1, vs p2), (2, .one (.pv (.rp [(bA p1)] 0 0))), (4, .one (.pt 0 0 0 0)), (7, .one (.pt 1 0 0 0)), (8, vs x2), (9, vi x3)] (EY p1 l1) := by intro k1; induction k1 with | zero => intro l1 x2 x3 h; exact mg (bo.eq_1 ..) h | succ k1 ih1 => intro l1 x2 x3 h; exact b1 h (uU (bo.eq_2 ..) (uC (uQ (kS Tryz.f23 [1,1,1,1,1,1,0,1,0,0,1,0,0,0,0] 4) fun K30 hK30 => have hJ2 : ∀ (x4 : Bool), eJ (bo (cj k0) p1 p2 k1) (cj k0) p1 p2 l1 x2 x3 x4 = some r → K30.p [(1, vs p2), (2, .one (.pv (.rp [(bA p1)] 0 0))), (4, .one (.pt 0 0 0 0)), (7, .one (.pt 1 0 0 0)), (8, vs x2), (9, vi x3), (60, vb x4)] (EY p1 l1) := fun x4 h => hK30 h (uC (yA 4 0 [3] (uG (DW aj l1 2 [] (uR .ret (xN (xN xF)))))) (uQ (kS Tryz.f23 [1,1,1,1,1,1,0,1,0,0,1,0,0,1,0] 3) fun K38 hK38 => have hJ3 : ∀ (x5 : ByteArray), iN (bo (cj k0) p1 p2 k1) (cj k0) p1 p2 l1 x3 x5 = some r → K38.p [(1, vs p2), (2, .one (.pv (.rp [(bA p1)] 0 0))), (4, .one (.pt 0 0 0 0)), (7, .one (.pt 1 0 0 0)), (8, vs x5), (9, vi x3)] (EY p1 l1) := fun x5 h => hK38 h (uQ (kS Tryz.f23 [1,1,1,1,1,1,0,1,0,0,1,0,0,1,1,1,0] 3) fun K47 hK47 => have hJ4 : ∀ (x6 : Int), iL (bo (cj k0) p1 p2 k1) (cj k0) p1 p2 l1 x3 x5 x6 = some r → K47.p [(1, vs p2), (2, .one (.pv (.rp [(bA p1)] 0 0))), (4, .one (.pt 0 0 0 0)), (7, .one (.pt 1 0 0 0)), (8, vs x5), (9, vi x3), (10, vi x6)] (EY p1 l1) := fun x6 h => hK47 h (uN ay p1.fields (uC (DW aj l1 2 [] (uR .ret (xN (xN xF)))) (uL ay fun e1 a55 => (uP (wl k0 _ _) fun r3 _ => (uC (DW aj l1 2 [] (uR .ret (xN (xN xF)))) (uW 103 aj [r3.1] (F8 (.stl 1 4) (CY aj 2 [r3.1] (uJ (ih1 (l1 ++ [r3.1]) r3.2.1 (IntKind.i64.wrap (x3 + 1)))))))))))); (uC (uJ (hJ4 x3)) (uJ (hJ4 (0 : Int))))); (uC (uC (DW aj l1 2 [] (uR .ret (xN (xN (xN xF))))) (uG (uJ (hJ3 (x2.extract (2 : Int).toNat (x2.size : Int).toNat))))) (uJ (hJ3 x2))))); (uC (uG (uC (uJ (hJ2 true)) (uG (uJ (hJ2 (((x2.data.toList.getD (0 : Int).toNat 0).toNat : Int) == 41)))))) (uJ (hJ2 false)))) (uR (.exit 0) (xM (uJ (hJ5 l1))))))
 uE (hL1 aW [] (p2.extract (1 : Int).toNat (p2.size : Int).toNat) (0 : Int)))))))); (uC (uG (uY 29 vb fun y1 => (uJ (hJ1 y1)))) (uJ (hJ1 false)))))))
def iY (rec1 : Int → Option Bool) (x2 : Int) (x3 : Bool) : Option Bool := ax x3 (some false) (rec1 (IntKind.i64.wrap (x2 + 1)))
def kM : Option Bool := some true
def cW (p1 : ByteArray) : Nat → Int → Option Bool
 | 0, _ => none
 | k1 + 1, x2 => ax (decide (x2 < (p1.size : Int))) (bI (0 ≤ x2 ∧ x2 < (p1.size : Int)) <| az (some (decide (((p1.data.toList.getD x2.toNat 0).toNat : Int) < (32 : Int)))) fun y1 => ax y1 (iY (cW p1 k1) x2 true) (bI (0 ≤ x2 ∧ x2 < (p1.size : Int)) <| iY (cW p1 k1) x2 (((p1.data.toList.getD x2.toNat 0).toNat : Int) == 127))) (kM)
def iF (p1 : ByteArray) (x1 : Bool) : Option Bool := ax x1 (some false) (cW p1 aW (0 : Int))
def kE (p1 : ByteArray) : Option Bool := az (utf8_ValidString p1) fun r1 => ax (!r1) (iF p1 true) (iF p1 (decide ((256 : Int) < (p1.size : Int))))
theorem tY (p1 : ByteArray) : CT Tryz.prog 138 [vs p1] (kE p1) vb :=
  eK 28 [] Tryz.f138 fun r => (uQ (kS Tryz.f138 [1,0,0] 2) fun K3 hK3 => have hJ1 : ∀ (x1 : Bool), iF p1 x1 = some r → K3.p [(0, vs p1), (11, vb x1)] [] := fun x1 h => hK3 h (uC (uR .ret xF) (uQ (kS Tryz.f138 [1,1,0] 1) fun K8 hK8 => have hJ3 : ∀ (_ : Unit), kM = some r → K8.p [] [] := fun _ h => hK8 h (uR .ret xF); (uO (cd Tryz.f138 [1,1,0,1,0,0]) (kS Tryz.f138 [1,1,0,1,0] 1) fun R1 b1 => have hL1 : ∀ (k1 : Nat) (x2 : Int), cW p1 k1 x2 = some r → (R1 k1).p [(0, vs p1), (3, vi x2)] [] := by intro k1; induction k1 with | zero => intro x2 h; exact mg (cW.eq_1 ..) h | succ k1 ih1 => intro x2 h; exact b1 h (uU (cW.eq_2 ..) (uC (uQ (kS Tryz.f138 [1,1,0,1,0,0,1,0,0,0] 3) fun K14 hK14 => have hJ2 : ∀ (x3 : Bool), iY (cW p1 k1) x2 x3 = some r → K14.p [(0, vs p1), (3, vi x2), (27, vb x3)] [] := fun x3 h => hK14 h (uC (uR .ret (xN (xN xF))) (uJ (ih1 (IntKind.i64.wrap (x2 + 1))))); (uG (uY 21 vb fun y1 => (uC (uJ (hJ2 true)) (uG (uJ (hJ2 (((p1.data.toList.getD x2.toNat 0).toNat : Int) == 127)))))))) (uR (.exit 0) (xM (uJ (hJ3 ()))))))
 uE (hL1 aW (0 : Int))))); (uP (od _) fun r1 _ => (uC (uJ (hJ1 true)) (uJ (hJ1 (decide ((256 : Int) < (p1.size : Int))))))))
def km (x2 : Bool) : Option Bool := some x2
def kj (x3 : Bool) : Option Bool := some x3
def ke (x4 : Bool) : Option Bool := some x4
def kw (x5 : Bool) : Option Bool := some x5
def jf (x6 : Bool) : Option Bool := some x6
def ky (x7 : Bool) : Option Bool := some x7
def je (x8 : Bool) : Option Bool := some x8
def jg (x9 : Bool) : Option Bool := some x9
def kz (p1 : ac) (x1 : Bool) : Option Bool := ax (p1.kind == 0) (ax x1 (ax (p1.n == 0) (km (p1.scale == 0)) (km false)) (km false)) (ax (p1.kind == 1) (ax x1 (az (cC p1.n (0 : Int) (1 : Int)) fun r1 => ax r1 (kj (p1.scale == 0)) (kj false)) (kj false)) (ax (p1.kind == 2) (ax x1 (az (cC p1.n (-999999999999999999 : Int) (999999999999999999 : Int)) fun r2 => ax r2 (ke (p1.scale == 0)) (ke false)) (ke false)) (ax (p1.kind == 3) (ax x1 (az (cC p1.n (-999999999999999999 : Int) (999999999999999999 : Int)) fun r3 => ax r3 (az (cC p1.scale (0 : Int) (12 : Int)) fun r4 => kw r4) (kw false)) (kw false)) (ax (p1.kind == 4) (ax ((p1.items.length : Int) == 0) (ax (p1.n == 0) (ax (p1.scale == 0) (az (kE p1.s) fun r5 => jf r5) (jf false)) (jf false)) (jf false)) (ax (p1.kind == 5) (ax x1 (az (cC p1.n (-62135596800 : Int) (253402300799 : Int)) fun r6 => ax r6 (ky (p1.scale == 0)) (ky false)) (ky false)) (ax (p1.kind == 6) (ax (p1.s.toList == (ByteArray.mk #[]).toList) (ax (p1.n == 0) (ax (p1.scale == 0) (je (decide ((p1.items.length : Int) ≤ (64 : Int)))) (je false)) (je false)) (je false)) (ax (p1.kind == 7) (ax (p1.s.toList == (ByteArray.mk #[]).toList) (ax (p1.n == 0) (ax (p1.scale == 0) (jg (decide ((0 : Int) < (p1.items.length : Int)))) (jg false)) (jg false)) (jg false)) (some false))))))))
def qb (p1 : ac) : Option Bool := ax (p1.s.toList == (ByteArray.mk #[]).toList) (kz p1 ((p1.items.length : Int) == 0)) (kz p1 false)
theorem AU (p1 : ac) : CT Tryz.prog 99 [.ag [ci p1.kind, ci p1.n, ci p1.scale, eQ p1.s, cl aj p1.items]] (qb p1) vb :=
  eK 143 [] Tryz.f99 fun r => (uQ (kS Tryz.f99 [1,0] 1) fun K2 hK2 => have hJ1 : ∀ (x1 : Bool), kz p1 x1 = some r → K2.p [(1, .one (.pv (.rp [[pi p1.kind, pi p1.n, pi p1.scale, .s (.string p1.s), .ro (aj.els p1.items)]] 0 0))), (3, vb x1)] [] := fun x1 h => hK2 h (uC (uQ (kS Tryz.f99 [1,1,0,1,0,1,0,0] 3) fun K8 hK8 => have hJ2 : ∀ (x2 : Bool), km x2 = some r → K8.p [(2, vb x2)] [] := fun x2 h => hK8 h (uR .ret xF); (uC (uC (uJ (hJ2 (p1.scale == 0))) (uJ (hJ2 false))) (uJ (hJ2 false)))) (uC (uQ (kS Tryz.f99 [1,1,0,1,0,1,1,1,0,0] 3) fun K13 hK13 => have hJ3 : ∀ (x3 : Bool), kj x3 = some r → K13.p [(2, vb x3)] [] := fun x3 h => hK13 h (uR .ret xF); (uC (uP (dg _ _ _) fun r1 _ => (uC (uJ (hJ3 (p1.scale == 0))) (uJ (hJ3 false)))) (uJ (hJ3 false)))) (uC (uQ (kS Tryz.f99 [1,1,0,1,0,1,1,1,1,1,0,0] 3) fun K19 hK19 => have hJ4 : ∀ (x4 : Bool), ke x4 = some r → K19.p [(2, vb x4)] [] := fun x4 h => hK19 h (uR .ret xF); (uC (uP (dg _ _ _) fun r2 _ => (uC (uJ (hJ4 (p1.scale == 0))) (uJ (hJ4 false)))) (uJ (hJ4 false)))) (uC (uQ (kS Tryz.f99 [1,1,0,1,0,1,1,1,1,1,1,1,0,0] 3) fun K25 hK25 => have hJ5 : ∀ (x5 : Bool), kw x5 = some r → K25.p [(2, vb x5)] [] := fun x5 h => hK25 h (uR .ret xF); (uC (uP (dg _ _ _) fun r3 _ => (uC (uP (dg _ _ _) fun r4 _ => (uJ (hJ5 r4))) (uJ (hJ5 false)))) (uJ (hJ5 false)))) (uC (uQ (kS Tryz.f99 [1,1,0,1,0,1,1,1,1,1,1,1,1,1,0,0] 3) fun K32 hK32 => have hJ6 : ∀ (x6 : Bool), jf x6 = some r → K32.p [(2, vb x6)] [] := fun x6 h => hK32 h (uR .ret xF); (uN aj p1.items (uC (uC (uC (uP (tY _) fun r5 _ => (uJ (hJ6 r5))) (uJ (hJ6 false))) (uJ (hJ6 false))) (uJ (hJ6 false))))) (uC (uQ (kS Tryz.f99 [1,1,0,1,0,1,1,1,1,1,1,1,1,1,1,1,0,0] 3) fun K39 hK39 => have hJ7 : ∀ (x7 : Bool), ky x7 = some r → K39.p [(2, vb x7)] [] := fun x7 h => hK39 h (uR .ret xF); (uC (uP (dg _ _ _) fun r6 _ => (uC (uJ (hJ7 (p1.scale == 0))) (uJ (hJ7 false)))) (uJ (hJ7 false)))) (uC (uQ (kS Tryz.f99 [1,1,0,1,0,1,1,1,1,1,1,1,1,1,1,1,1,1,0,0] 3) fun K45 hK45 => have hJ8 : ∀ (x8 : Bool), je x8 = some r → K45.p [(2, vb x8)] [] := fun x8 h => hK45 h (uR .ret xF); (uC (uC (uC (uN aj p1.items (uJ (hJ8 (decide ((p1.items.length : Int) ≤ (64 : Int)))))) (uJ (hJ8 false))) (uJ (hJ8 false))) (uJ (hJ8 false)))) (uC (uQ (kS Tryz.f99 [1,1,0,1,0,1,1,1,1,1,1,1,1,1,1,1,1,1,1,1,0,0] 3) fun K51 hK51 => have hJ9 : ∀ (x9 : Bool), jg x9 = some r → K51.p [(2, vb x9)] [] := fun x9 h => hK51 h (uR .ret xF); (uC (uC (uC (uN aj p1.items (uJ (hJ9 (decide ((0 : Int) < (p1.items.length : Int)))))) (uJ (hJ9 false))) (uJ (hJ9 false))) (uJ (hJ9 false)))) (uR .ret xF))))))))); (uC (uN aj p1.items (uJ (hJ1 ((p1.items.length : Int) == 0)))) (uJ (hJ1 false))))
def o7 (z3 : Int) : Option (Bool × Int) := some (true, z3)
def hU (q_ref1_sound : ac → Int → Int → Option (Bool × Int)) (p1 : ac) (p2 : Int) : Nat → Int → Int → Option (Bool × Int)
 | 0, _, _ => none
 | k1 + 1, z2, x2 => ax (decide (x2 < (p1.items.length : Int))) (az (at? p1.items x2) fun e1 => az (q_ref1_sound e1 (IntKind.i64.wrap (p2 + 1)) z2) fun r2 => ax (!r2.1) (some (false, r2.2)) ((hU q_ref1_sound p1 p2 k1) r2.2 (IntKind.i64.wrap (x2 + 1)))) (o7 z2)
def jd (q_ref1_sound : ac → Int → Int → Option (Bool × Int)) (p1 : ac) (p2 z1 : Int) (x1 : Bool) : Option (Bool × Int) := ax x1 (some (false, z1)) (hU q_ref1_sound p1 p2 aW z1 (0 : Int))
def ko (q_ref1_sound : ac → Int → Int → Option (Bool × Int)) (p1 : ac) (p2 z1 : Int) : Option (Bool × Int) := ax (decide ((4 : Int) < p2)) (jd q_ref1_sound p1 p2 z1 true) (ax (decide ((256 : Int) < z1)) (jd q_ref1_sound p1 p2 z1 true) (az (qb p1) fun r1 => jd q_ref1_sound p1 p2 z1 (!r1)))
def fg : Nat → ac → Int → Int → Option (Bool × Int)
 | 0, _, _, _ => none
 | k0 + 1, p1, p2, p3 => ax (p1.kind != 0) (ko (fg k0) p1 p2 (IntKind.i64.wrap (p3 + 1))) (ko (fg k0) p1 p2 p3)
abbrev fh (p1 : ac) : List PV := [pi p1.kind, pi p1.n, pi p1.scale, .s (.string p1.s), .ro (aj.els p1.items)]
theorem uS : ∀ (k0 : Nat) (p1 : ac) (p2 p3 : Int), CM Tryz.prog 55 [.ag [ci p1.kind, ci p1.n, ci p1.scale, eQ p1.s, cl aj p1.items], vi p2, .one (.pt 0 0 0 0)] [.box [ci p3]] (fg k0 p1 p2 p3) (fun r => vb r.1) (fun r => [.box [ci r.2]])
  | 0, _, _, _ => IQ (fg.eq_1 ..)
  | k0 + 1, p1, p2, p3 => rB 1 46 [] Tryz.f55 fun r => (uU (fg.eq_2 ..) (uQ (kS Tryz.f55 [1,0] 1) fun K2 hK2 => have hJ1 : ∀ (z1 : Int), ko (fg k0) p1 p2 z1 = some r → K2.p [(1, vi p2), (2, .one (.pt 0 0 0 0)), (3, .one (.pv (.rp [(fh p1)] 0 0)))] [.box [ci z1]] := fun z1 h => hK2 h (uQ (kS Tryz.f55 [1,1,0,0] 2) fun K6 hK6 => have hJ2 : ∀ (x1 : Bool), jd (fg k0) p1 p2 z1 x1 = some r → K6.p [(1, vi p2), (2, .one (.pt 0 0 0 0)), (3, .one (.pv (.rp [(fh p1)] 0 0))), (28, vb x1)] [.box [ci z1]] := fun x1 h => hK6 h (uC (uR .ret sL) (uQ (kS Tryz.f55 [1,1,1,0] 1) fun K12 hK12 => have hJ3 : ∀ (z3 : Int), o7 z3 = some r → K12.p [] [.box [ci z3]] := fun z3 h => hK12 h (uR .ret sL); (uN aj p1.items (uO (cd Tryz.f55 [1,1,1,0,1,0,0]) (kS Tryz.f55 [1,1,1,0,1,0] 1) fun R1 b1 => have hL1 : ∀ (k1 : Nat) (z2 x2 : Int), hU (fg k0) p1 p2 k1 z2 x2 = some r → (R1 k1).p [(1, vi p2), (2, .one (.pt 0 0 0 0)), (3, .one (.pv (.rp [(fh p1)] 0 0))), (31, vi (p1.items.length : Int)), (32, vi x2)] [.box [ci z2]] := by intro k1; induction k1 with | zero => intro z2 x2 h; exact mg (hU.eq_1 ..) h | succ k1 ih1 => intro z2 x2 h; exact b1 h (uU (hU.eq_2 ..) (uC (uL aj fun e1 a20 => (mX true [0] (uS k0 _ _ _) fun r2 _ => (uC (uR .ret (xN (xN sL))) (uJ (ih1 r2.2 (IntKind.i64.wrap (x2 + 1))))))) (uR (.exit 0) (xM (uJ (hJ3 z2))))))
 uE (hL1 aW z1 (0 : Int)))))); (uC (uJ (hJ2 true)) (uC (uJ (hJ2 true)) (uP (AU _) fun r1 _ => (uJ (hJ2 (!r1))))))); (uC (uJ (hJ1 (IntKind.i64.wrap (p3 + 1)))) (uJ (hJ1 p3)))))
def iU (p1 : ac) : Option Bool := az (fg aW p1 (1 : Int) (0 : Int)) fun r1 => some r1.1
theorem jV (p1 : ac) : CT Tryz.prog 26 [.ag [ci p1.kind, ci p1.n, ci p1.scale, eQ p1.s, cl aj p1.items]] (iU p1) vb :=
  eK 6 [3] Tryz.f26 fun r => (mX true [0] (uS aW _ _ _) fun r1 _ => (uR .ret xF))
def qt (rec1 : Int → Option Bool) (q_ref1_of : af → ac → Option Bool) (p1 : af) (p2 : ac) (x3 x4 : Int) : Option Bool := az (at? p1.fields x4) fun e1 => az (at? p2.items x3) fun e2 => az (q_ref1_of e1.type e2) fun r1 => ax (!r1) (some false) (rec1 (IntKind.i64.wrap (x3 + 1)))
def tI : Option Bool := some true
def eD (q_ref1_of : af → ac → Option Bool) (p1 : af) (p2 : ac) : Nat → Int → Option Bool
 | 0, _ => none
 | k1 + 1, x3 => ax (decide (x3 < (p2.items.length : Int))) (ax (p1.kind == 6) (qt (eD q_ref1_of p1 p2 k1) q_ref1_of p1 p2 x3 (0 : Int)) (qt (eD q_ref1_of p1 p2 k1) q_ref1_of p1 p2 x3 x3)) (tI)
def mi (q_ref1_of : af → ac → Option Bool) (p1 : af) (p2 : ac) (x2 : Bool) : Option Bool := ax x2 (some false) (eD q_ref1_of p1 p2 aW (0 : Int))
def pZ (q_ref1_of : af → ac → Option Bool) (p1 : af) (p2 : ac) (x1 : Bool) : Option Bool := ax x1 (some false) (ax (p1.kind == 7) (mi q_ref1_of p1 p2 ((p2.items.length : Int) != (p1.fields.length : Int))) (mi q_ref1_of p1 p2 false))
def eY : Nat → af → ac → Option Bool
 | 0, _, _ => none
 | k0 + 1, p1, p2 => ax (p2.kind == 0) (some true) (ax (p2.kind != p1.kind) (pZ (eY k0) p1 p2 true) (pZ (eY k0) p1 p2 (p2.scale != p1.scale)))
theorem yU : ∀ (k0 : Nat) (p1 : af) (p2 : ac), CT Tryz.prog 28 [.ag [ci p1.kind, ci p1.scale, cl ay p1.fields], .ag [ci p2.kind, ci p2.n, ci p2.scale, eQ p2.s, cl aj p2.items]] (eY k0 p1 p2) vb
  | 0, _, _ => wJ (eY.eq_1 ..)
  | k0 + 1, p1, p2 => eK 58 [] Tryz.f28 fun r => (uU (eY.eq_2 ..) (uC (uR .ret xF) (uQ (kS Tryz.f28 [1,1,0,0] 2) fun K7 hK7 => have hJ1 : ∀ (x1 : Bool), pZ (eY k0) p1 p2 x1 = some r → K7.p [(2, .one (.pv (.rp [(bA p1)] 0 0))), (3, .one (.pv (.rp [(fh p2)] 0 0))), (21, vb x1)] [] := fun x1 h => hK7 h (uC (uR .ret xF) (uQ (kS Tryz.f28 [1,1,1,0,0] 2) fun K12 hK12 => have hJ2 : ∀ (x2 : Bool), mi (eY k0) p1 p2 x2 = some r → K12.p [(2, .one (.pv (.rp [(bA p1)] 0 0))), (3, .one (.pv (.rp [(fh p2)] 0 0))), (33, vb x2)] [] := fun x2 h => hK12 h (uC (uR .ret xF) (uQ (kS Tryz.f28 [1,1,1,1,0] 1) fun K16 hK16 => have hJ4 : ∀ (_ : Unit), tI = some r → K16.p [] [] := fun _ h => hK16 h (uR .ret xF); (uN aj p2.items (uO (cd Tryz.f28 [1,1,1,1,0,1,0,0]) (kS Tryz.f28 [1,1,1,1,0,1,0] 1) fun R1 b1 => have hL1 : ∀ (k1 : Nat) (x3 : Int), eD (eY k0) p1 p2 k1 x3 = some r → (R1 k1).p [(2, .one (.pv (.rp [(bA p1)] 0 0))), (3, .one (.pv (.rp [(fh p2)] 0 0))), (36, vi (p2.items.length : Int)), (37, vi x3)] [] := by intro k1; induction k1 with | zero => intro x3 h; exact mg (eD.eq_1 ..) h | succ k1 ih1 => intro x3 h; exact b1 h (uU (eD.eq_2 ..) (uC (uQ (kS Tryz.f28 [1,1,1,1,0,1,0,0,1,1,0,0,1,1,0] 3) fun K24 hK24 => have hJ3 : ∀ (x4 : Int), qt (eD (eY k0) p1 p2 k1) (eY k0) p1 p2 x3 x4 = some r → K24.p [(2, .one (.pv (.rp [(bA p1)] 0 0))), (3, .one (.pv (.rp [(fh p2)] 0 0))), (5, vi x3), (6, vi x4), (36, vi (p2.items.length : Int)), (37, vi x3)] [] := fun x4 h => hK24 h (ns 11 (uL ay fun e1 a28 => (uL aj fun e2 a29 => (uP (yU k0 _ _) fun r1 _ => (uC (uR .ret (xN (xN xF))) (uJ (ih1 (IntKind.i64.wrap (x3 + 1))))))))); (uC (uJ (hJ3 (0 : Int))) (uJ (hJ3 x3)))) (uR (.exit 0) (xM (uJ (hJ4 ()))))))
 uE (hL1 aW (0 : Int)))))); (uC (uN aj p2.items (uN ay p1.fields (uJ (hJ2 ((p2.items.length : Int) != (p1.fields.length : Int)))))) (uJ (hJ2 false))))); (uC (uJ (hJ1 true)) (uJ (hJ1 (p2.scale != p1.scale)))))))
def i6 (rec1 : Int → Option Bool) (x1 : Int) (x3 : Bool) : Option Bool := ax x3 (some true) (rec1 (IntKind.i64.wrap (x1 + 1)))
def iZ (rec1 : Int → Option Bool) (q_ref1_missing : af → ac → Option Bool) (p1 : af) (p2 : ac) (x1 x2 : Int) : Option Bool := az (at? p1.fields x2) fun e1 => ax e1.need (az (at? p2.items x1) fun e2 => ax (e2.kind == 0) (i6 rec1 x1 true) (az (q_ref1_missing e1.type e2) fun r1 => i6 rec1 x1 r1)) (az (at? p2.items x1) fun e3 => az (q_ref1_missing e1.type e3) fun r2 => i6 rec1 x1 r2)
def nh : Option Bool := some false
def cg (q_ref1_missing : af → ac → Option Bool) (p1 : af) (p2 : ac) : Nat → Int → Option Bool
 | 0, _ => none
 | k1 + 1, x1 => ax (decide (x1 < (p2.items.length : Int))) (ax (p1.kind == 6) (iZ (cg q_ref1_missing p1 p2 k1) q_ref1_missing p1 p2 x1 (0 : Int)) (iZ (cg q_ref1_missing p1 p2 k1) q_ref1_missing p1 p2 x1 x1)) (nh)
def cI : Nat → af → ac → Option Bool
 | 0, _, _ => none
 | k0 + 1, p1, p2 => cg (cI k0) p1 p2 aW (0 : Int)
theorem n7 : ∀ (k0 : Nat) (p1 : af) (p2 : ac), CT Tryz.prog 29 [.ag [ci p1.kind, ci p1.scale, cl ay p1.fields], .ag [ci p2.kind, ci p2.n, ci p2.scale, eQ p2.s, cl aj p2.items]] (cI k0 p1 p2) vb
  | 0, _, _ => wJ (cI.eq_1 ..)
  | k0 + 1, p1, p2 => eK 45 [7] Tryz.f29 fun r => (uU (cI.eq_2 ..) (uQ (kS Tryz.f29 [1,0] 1) fun K2 hK2 => have hJ3 : ∀ (_ : Unit), nh = some r → K2.p [] [] := fun _ h => hK2 h (uR .ret xF); (uN aj p2.items (uO (cd Tryz.f29 [1,0,1,0,0]) (kS Tryz.f29 [1,0,1,0] 1) fun R1 b1 => have hL1 : ∀ (k1 : Nat) (x1 : Int), cg (cI k0) p1 p2 k1 x1 = some r → (R1 k1).p [(2, .one (.pv (.rp [(bA p1)] 0 0))), (3, .one (.pv (.rp [(fh p2)] 0 0))), (10, vi (p2.items.length : Int)), (11, vi x1)] [] := by intro k1; induction k1 with | zero => intro x1 h; exact mg (cg.eq_1 ..) h | succ k1 ih1 => intro x1 h; exact b1 h (uU (cg.eq_2 ..) (uC (uQ (kS Tryz.f29 [1,0,1,0,0,1,1,0,0,1,1,0] 3) fun K10 hK10 => have hJ1 : ∀ (x2 : Int), iZ (cg (cI k0) p1 p2 k1) (cI k0) p1 p2 x1 x2 = some r → K10.p [(2, .one (.pv (.rp [(bA p1)] 0 0))), (3, .one (.pv (.rp [(fh p2)] 0 0))), (5, vi x1), (6, vi x2), (10, vi (p2.items.length : Int)), (11, vi x1)] [] := fun x2 h => hK10 h (uL ay fun e1 a14 => (uQ (kS Tryz.f29 [1,0,1,0,0,1,1,0,0,1,1,1,1,0] 3) fun K15 hK15 => have hJ2 : ∀ (x3 : Bool), i6 (cg (cI k0) p1 p2 k1) x1 x3 = some r → K15.p [(2, .one (.pv (.rp [(bA p1)] 0 0))), (3, .one (.pv (.rp [(fh p2)] 0 0))), (10, vi (p2.items.length : Int)), (11, vi x1), (43, vb x3)] [.dead] := fun x3 h => hK15 h (uC (uR .ret (xN (xN xF))) (uJ (ih1 (IntKind.i64.wrap (x1 + 1))))); (ns 19 (uC (uL aj fun e2 a17 => (uC (uJ (hJ2 true)) (uM aj a17 (uP (n7 k0 _ _) fun r1 _ => (uJ (hJ2 r1)))))) (uL aj fun e3 a20 => (uP (n7 k0 _ _) fun r2 _ => (uJ (hJ2 r2)))))))); (uC (uJ (hJ1 (0 : Int))) (uJ (hJ1 x1)))) (uR (.exit 0) (xM (uJ (hJ3 ()))))))
 uE (hL1 aW (0 : Int))))))
def mo (p1 : af) (p2 : ac) : Option Int := az (cZ p1) fun r1 => ax (r1 != 0) (some r1) (az (iU p2) fun r2 => ax (!r2) (some (1 : Int)) (az (eY aW p1 p2) fun r3 => ax (!r3) (some (2 : Int)) (az (cI aW p1 p2) fun r4 => ax r4 (some (9 : Int)) (some (0 : Int)))))
theorem un (p1 : af) (p2 : ac) : CT Tryz.prog 13 [.ag [ci p1.kind, ci p1.scale, cl ay p1.fields], .ag [ci p2.kind, ci p2.n, ci p2.scale, eQ p2.s, cl aj p2.items]] (mo p1 p2) vi :=
  eK 21 [] Tryz.f13 fun r => (uP (ir _) fun r1 _ => (uC (uR .ret xF) (uP (jV _) fun r2 _ => (uC (uR .ret xF) (uP (yU aW _ _) fun r3 _ => (uC (uR .ret xF) (uP (n7 aW _ _) fun r4 _ => (uC (uR .ret xF) (uR .ret xF)))))))))
def n5 (x2 : ByteArray) : Option ByteArray := some x2
def fE (p2 : Int) : Nat → ByteArray → Option ByteArray
 | 0, _ => none
 | k1 + 1, x1 => ax (decide ((x1.size : Int) < p2)) (bI ((ByteArray.mk #[48]).size + x1.size ≤ 4611686018427387904) <| (fE p2 k1) ((ByteArray.mk #[48]) ++ x1)) (n5 x1)
def fI (p1 p2 : Int) : Option ByteArray := az (strconv_Itoa p1) fun r1 => fE p2 aW r1
theorem hO (p1 p2 : Int) : CT Tryz.prog 56 [vi p1, vi p2] (fI p1 p2) vs :=
  eK 15 [] Tryz.f56 fun r => (uP (lJ _) fun r1 _ => (uQ (kS Tryz.f56 [1,1,0] 1) fun K4 hK4 => have hJ1 : ∀ (x2 : ByteArray), n5 x2 = some r → K4.p [(5, vs x2)] [] := fun x2 h => hK4 h (uR .ret xF); (uO (cd Tryz.f56 [1,1,0,0,0]) (kS Tryz.f56 [1,1,0,0] 1) fun R1 b1 => have hL1 : ∀ (k1 : Nat) (x1 : ByteArray), fE p2 k1 x1 = some r → (R1 k1).p [(1, vi p2), (5, vs x1)] [] := by intro k1; induction k1 with | zero => intro x1 h; exact mg (fE.eq_1 ..) h | succ k1 ih1 => intro x1 h; exact b1 h (uU (fE.eq_2 ..) (uC (uG (uJ (ih1 ((ByteArray.mk #[48]) ++ x1)))) (uR (.exit 0) (xM (uJ (hJ1 x1))))))
 uE (hL1 aW r1))))
def mD (x2 : Int) : Option Int := some x2
def mK (p1 p2 : Int) (x1 : Bool) : Option Int := ax x1 (mD (IntKind.i64.wrap ((IntKind.i64.wrap (p1.tdiv p2)) - (1 : Int)))) (mD (IntKind.i64.wrap (p1.tdiv p2)))
def pH (p1 p2 : Int) : Option Int := bI (p2 ≠ 0) <| bI (p2 ≠ 0) <| ax ((p1.tmod p2) != 0) (mK p1 p2 (!((decide (p1 < (0 : Int))) == (decide (p2 < (0 : Int)))))) (mK p1 p2 false)
theorem zJ (p1 p2 : Int) : CT Tryz.prog 100 [vi p1, vi p2] (pH p1 p2) vi :=
  eK 23 [] Tryz.f100 fun r => (uG (uQ (kS Tryz.f100 [1,1,0] 1) fun K4 hK4 => have hJ2 : ∀ (x2 : Int), mD x2 = some r → K4.p [(5, vi x2)] [] := fun x2 h => hK4 h (uR .ret xF); (uQ (kS Tryz.f100 [1,1,0,0] 1) fun K5 hK5 => have hJ1 : ∀ (x1 : Bool), mK p1 p2 x1 = some r → K5.p [(5, vi (IntKind.i64.wrap (p1.tdiv p2))), (19, vb x1)] [] := fun x1 h => hK5 h (uC (uJ (hJ2 (IntKind.i64.wrap ((IntKind.i64.wrap (p1.tdiv p2)) - (1 : Int))))) (uJ (hJ2 (IntKind.i64.wrap (p1.tdiv p2))))); (uG (uC (uJ (hJ1 (!((decide (p1 < (0 : Int))) == (decide (p2 < (0 : Int))))))) (uJ (hJ1 false)))))))
def o5 (p1 r1 x3 z2 x5 : Int) : Option dJ := az (some (IntKind.i64.wrap ((IntKind.i64.wrap (p1 - (IntKind.i64.wrap ((86400 : Int) * r1)))).tdiv (3600 : Int)))) fun y1 => az (some (IntKind.i64.wrap ((IntKind.i64.wrap (p1 - (IntKind.i64.wrap ((86400 : Int) * r1)))).tdiv (60 : Int)))) fun y2 => az (some ((IntKind.i64.wrap (p1 - (IntKind.i64.wrap ((86400 : Int) * r1)))).tmod (60 : Int))) fun y3 => some (dJ.mk x3 z2 (IntKind.i64.wrap (x5 + 1)) y1 (y2.tmod (60 : Int)) y3)
def gU (p1 r1 x3 : Int) : Nat → Int → Int → Option dJ
 | 0, _, _ => none
 | k2 + 1, z1, x4 => az (iq x3 z1) fun r4 => ax (decide (r4 ≤ x4)) (az (iq x3 z1) fun r5 => (gU p1 r1 x3 k2) (IntKind.i64.wrap (z1 + 1)) (IntKind.i64.wrap (x4 - r5))) (o5 p1 r1 x3 z1 x4)
def oU (p1 r1 x3 : Int) : Option dJ := az (iy x3) fun r3 => gU p1 r1 x3 aW (1 : Int) (IntKind.i64.wrap (r1 - r3))
def gn (p1 r1 : Int) : Nat → Int → Int → Option dJ
 | 0, _, _ => none
 | k1 + 1, x1, x2 => ax (decide ((1 : Int) < (IntKind.i64.wrap (x2 - x1)))) (az (iy (IntKind.i64.wrap ((IntKind.i64.wrap (x1 + x2)).tdiv (2 : Int)))) fun r2 => ax (decide (r2 ≤ r1)) ((gn p1 r1 k1) (IntKind.i64.wrap ((IntKind.i64.wrap (x1 + x2)).tdiv (2 : Int))) x2) ((gn p1 r1 k1) x1 (IntKind.i64.wrap ((IntKind.i64.wrap (x1 + x2)).tdiv (2 : Int))))) (oU p1 r1 x1)
def qn (p1 : Int) : Option dJ := az (pH p1 (86400 : Int)) fun r1 => gn p1 r1 aW (0 : Int) (10001 : Int)
abbrev AH : List CV := [ci (0 : Int), ci (0 : Int), ci (0 : Int), ci (0 : Int), ci (0 : Int), ci (0 : Int)]
theorem A1 (p1 : Int) : CT Tryz.prog 57 [vi p1] (qn p1) (fun r => .ag [ci r.year, ci r.month, ci r.day, ci r.hour, ci r.minute, ci r.second]) :=
  eK 66 [2, 7] Tryz.f57 fun r => (uP (zJ _ _) fun r1 _ => (uQ (kS Tryz.f57 [1,1,1,0] 1) fun K5 hK5 => have hJ1 : ∀ (x3 : Int), oU p1 r1 x3 = some r → K5.p [(0, vi p1), (2, .one (.pt 0 0 0 0)), (3, vi r1), (4, vi x3)] [.box AH] := fun x3 h => hK5 h (uP (l8 _) fun r3 _ => (uQ (kS Tryz.f57 [1,1,1,1,1,1,0] 1) fun K16 hK16 => have hJ2 : ∀ (z2 x5 : Int), o5 p1 r1 x3 z2 x5 = some r → K16.p [(0, vi p1), (2, .one (.pt 0 0 0 0)), (3, vi r1), (7, .one (.pt 1 0 0 0)), (8, vi x5)] [.box AH, .box [ci x3, ci z2, ci (0 : Int), ci (0 : Int), ci (0 : Int), ci (0 : Int)]] := fun z2 x5 h => hK16 h (uY 56 vi fun y1 => (uY 58 vi fun y2 => (uY 61 vi fun y3 => (uR .ret xF)))); (uO (cd Tryz.f57 [1,1,1,1,1,1,0,0,0]) (kS Tryz.f57 [1,1,1,1,1,1,0,0] 1) fun R2 b2 => have hL2 : ∀ (k2 : Nat) (z1 x4 : Int), gU p1 r1 x3 k2 z1 x4 = some r → (R2 k2).p [(0, vi p1), (2, .one (.pt 0 0 0 0)), (3, vi r1), (4, vi x3), (7, .one (.pt 1 0 0 0)), (8, vi x4)] [.box AH, .box [ci x3, ci z1, ci (0 : Int), ci (0 : Int), ci (0 : Int), ci (0 : Int)]] := by intro k2; induction k2 with | zero => intro z1 x4 h; exact mg (gU.eq_1 ..) h | succ k2 ih2 => intro z1 x4 h; exact b2 h (uU (gU.eq_2 ..) (uP (jX _ _) fun r4 _ => (uC (uP (jX _ _) fun r5 _ => (uJ (ih2 (IntKind.i64.wrap (z1 + 1)) (IntKind.i64.wrap (x4 - r5))))) (uR (.exit 2) (xM (uJ (hJ2 z1 x4)))))))
 uE (hL2 aW (1 : Int) (IntKind.i64.wrap (r1 - r3)))))); (uO (cd Tryz.f57 [1,1,1,0,0,0]) (kS Tryz.f57 [1,1,1,0,0] 1) fun R1 b1 => have hL1 : ∀ (k1 : Nat) (x1 x2 : Int), gn p1 r1 k1 x1 x2 = some r → (R1 k1).p [(0, vi p1), (2, .one (.pt 0 0 0 0)), (3, vi r1), (4, vi x1), (5, vi x2)] [.box AH] := by intro k1; induction k1 with | zero => intro x1 x2 h; exact mg (gn.eq_1 ..) h | succ k1 ih1 => intro x1 x2 h; exact b1 h (uU (gn.eq_2 ..) (uC (uP (l8 _) fun r2 _ => (uC (uJ (ih1 (IntKind.i64.wrap ((IntKind.i64.wrap (x1 + x2)).tdiv (2 : Int))) x2)) (uJ (ih1 x1 (IntKind.i64.wrap ((IntKind.i64.wrap (x1 + x2)).tdiv (2 : Int))))))) (uR (.exit 0) (xM (uJ (hJ1 x1))))))
 uE (hL1 aW (0 : Int) (10001 : Int)))))
def nC (p1 : ac) (x1 : Int) (x2 : ByteArray) : Option ByteArray := az (fI x1 (IntKind.i64.wrap (p1.scale + 1))) fun r2 => bI (0 ≤ (0 : Int) ∧ (0 : Int) ≤ (IntKind.i64.wrap ((r2.size : Int) - p1.scale)) ∧ (IntKind.i64.wrap ((r2.size : Int) - p1.scale)) ≤ (r2.size : Int)) <| az (some (r2.extract (0 : Int).toNat (IntKind.i64.wrap ((r2.size : Int) - p1.scale)).toNat)) fun y1 => bI (x2.size + y1.size ≤ 4611686018427387904) <| bI ((x2 ++ y1).size + (ByteArray.mk #[46]).size ≤ 4611686018427387904) <| bI (0 ≤ (IntKind.i64.wrap ((r2.size : Int) - p1.scale)) ∧ (IntKind.i64.wrap ((r2.size : Int) - p1.scale)) ≤ (r2.size : Int) ∧ (r2.size : Int) ≤ (r2.size : Int)) <| az (some (r2.extract (IntKind.i64.wrap ((r2.size : Int) - p1.scale)).toNat (r2.size : Int).toNat)) fun y2 => bI (((x2 ++ y1) ++ (ByteArray.mk #[46])).size + y2.size ≤ 4611686018427387904) <| some (((x2 ++ y1) ++ (ByteArray.mk #[46])) ++ y2)
def nw (rec1 : ByteArray → Int → Option ByteArray) (x4 : Int) (x5 : ByteArray) : Option ByteArray := rec1 x5 (IntKind.i64.wrap (x4 + 1))
def pU (x6 : ByteArray) : Option ByteArray := bI (x6.size + (ByteArray.mk #[39]).size ≤ 4611686018427387904) <| some (x6 ++ (ByteArray.mk #[39]))
def eu (p1 : ac) : Nat → ByteArray → Int → Option ByteArray
 | 0, _, _ => none
 | k1 + 1, x3, x4 => ax (decide (x4 < (p1.s.size : Int))) (bI (0 ≤ x4 ∧ x4 ≤ (IntKind.i64.wrap (x4 + 1)) ∧ (IntKind.i64.wrap (x4 + 1)) ≤ (p1.s.size : Int)) <| bI (x3.size + (p1.s.extract x4.toNat (IntKind.i64.wrap (x4 + 1)).toNat).size ≤ 4611686018427387904) <| az (some (x3 ++ (p1.s.extract x4.toNat (IntKind.i64.wrap (x4 + 1)).toNat))) fun y3 => bI (0 ≤ x4 ∧ x4 < (p1.s.size : Int)) <| ax (((p1.s.data.toList.getD x4.toNat 0).toNat : Int) == 39) (bI (y3.size + (ByteArray.mk #[39]).size ≤ 4611686018427387904) <| nw (eu p1 k1) x4 (y3 ++ (ByteArray.mk #[39]))) (nw (eu p1 k1) x4 y3)) (pU x3)
def lg (rec2 : ByteArray → Int → Option ByteArray) (q_ref1_text : ac → Option ByteArray) (p1 : ac) (x9 : Int) (x10 : ByteArray) : Option ByteArray := az (at? p1.items x9) fun e1 => az (q_ref1_text e1) fun r10 => bI (x10.size + r10.size ≤ 4611686018427387904) <| rec2 (x10 ++ r10) (IntKind.i64.wrap (x9 + 1))
def p9 (p1 : ac) (x11 : ByteArray) : Option ByteArray := ax (p1.kind == 6) (bI ((ByteArray.mk #[91]).size + x11.size ≤ 4611686018427387904) <| bI (((ByteArray.mk #[91]) ++ x11).size + (ByteArray.mk #[93]).size ≤ 4611686018427387904) <| some (((ByteArray.mk #[91]) ++ x11) ++ (ByteArray.mk #[93]))) (bI ((ByteArray.mk #[40]).size + x11.size ≤ 4611686018427387904) <| bI (((ByteArray.mk #[40]) ++ x11).size + (ByteArray.mk #[41]).size ≤ 4611686018427387904) <| some (((ByteArray.mk #[40]) ++ x11) ++ (ByteArray.mk #[41])))
def eA (q_ref1_text : ac → Option ByteArray) (p1 : ac) : Nat → ByteArray → Int → Option ByteArray
 | 0, _, _ => none
 | k2 + 1, x8, x9 => ax (decide (x9 < (p1.items.length : Int))) (ax (decide ((0 : Int) < x9)) (bI (x8.size + (ByteArray.mk #[44, 32]).size ≤ 4611686018427387904) <| lg (eA q_ref1_text p1 k2) q_ref1_text p1 x9 (x8 ++ (ByteArray.mk #[44, 32]))) (lg (eA q_ref1_text p1 k2) q_ref1_text p1 x9 x8)) (p9 p1 x8)
def lQ (q_ref1_text : ac → Option ByteArray) (p1 : ac) (x7 : Bool) : Option ByteArray := ax x7 (eA q_ref1_text p1 aW (ByteArray.mk #[]) (0 : Int)) (some (ByteArray.mk #[110, 117, 108, 108]))
def d9 : Nat → ac → Option ByteArray
 | 0, _ => none
 | k0 + 1, p1 => ax (p1.kind == 1) (ax (p1.n == 1) (some (ByteArray.mk #[116, 114, 117, 101])) (some (ByteArray.mk #[102, 97, 108, 115, 101]))) (ax (p1.kind == 2) (az (strconv_Itoa p1.n) fun r1 => some r1) (ax (p1.kind == 3) (ax (decide (p1.n < (0 : Int))) (nC p1 (IntKind.i64.wrap (0 - p1.n)) (ByteArray.mk #[45])) (nC p1 p1.n (ByteArray.mk #[]))) (ax (p1.kind == 4) (eu p1 aW (ByteArray.mk #[39]) (0 : Int)) (ax (p1.kind == 5) (az (qn p1.n) fun r3 => az (fI r3.year (4 : Int)) fun r4 => bI (r4.size + (ByteArray.mk #[45]).size ≤ 4611686018427387904) <| az (fI r3.month (2 : Int)) fun r5 => bI ((r4 ++ (ByteArray.mk #[45])).size + r5.size ≤ 4611686018427387904) <| bI (((r4 ++ (ByteArray.mk #[45])) ++ r5).size + (ByteArray.mk #[45]).size ≤ 4611686018427387904) <| az (fI r3.day (2 : Int)) fun r6 => bI ((((r4 ++ (ByteArray.mk #[45])) ++ r5) ++ (ByteArray.mk #[45])).size + r6.size ≤ 4611686018427387904) <| az (some ((((r4 ++ (ByteArray.mk #[45])) ++ r5) ++ (ByteArray.mk #[45])) ++ r6)) fun y4 => bI (y4.size + (ByteArray.mk #[84]).size ≤ 4611686018427387904) <| az (fI r3.hour (2 : Int)) fun r7 => bI ((y4 ++ (ByteArray.mk #[84])).size + r7.size ≤ 4611686018427387904) <| bI (((y4 ++ (ByteArray.mk #[84])) ++ r7).size + (ByteArray.mk #[58]).size ≤ 4611686018427387904) <| az (fI r3.minute (2 : Int)) fun r8 => bI ((((y4 ++ (ByteArray.mk #[84])) ++ r7) ++ (ByteArray.mk #[58])).size + r8.size ≤ 4611686018427387904) <| az (some ((((y4 ++ (ByteArray.mk #[84])) ++ r7) ++ (ByteArray.mk #[58])) ++ r8)) fun y5 => bI (y5.size + (ByteArray.mk #[58]).size ≤ 4611686018427387904) <| az (fI r3.second (2 : Int)) fun r9 => bI ((y5 ++ (ByteArray.mk #[58])).size + r9.size ≤ 4611686018427387904) <| bI (((y5 ++ (ByteArray.mk #[58])) ++ r9).size + (ByteArray.mk #[90]).size ≤ 4611686018427387904) <| some (((y5 ++ (ByteArray.mk #[58])) ++ r9) ++ (ByteArray.mk #[90]))) (ax (p1.kind == 6) (lQ (d9 k0) p1 (p1.kind == 6)) (lQ (d9 k0) p1 (p1.kind == 7)))))))
theorem wi : ∀ (k0 : Nat) (p1 : ac), CT Tryz.prog 27 [.ag [ci p1.kind, ci p1.n, ci p1.scale, eQ p1.s, cl aj p1.items]] (d9 k0 p1) vs
  | 0, _ => wJ (d9.eq_1 ..)
  | k0 + 1, p1 => eK 145 [8] Tryz.f27 fun r => (uU (d9.eq_2 ..) (uC (uC (uR .ret xF) (uR .ret xF)) (uC (uP (lJ _) fun r1 _ => (uR .ret xF)) (uC (uQ (kS Tryz.f27 [1,0,1,0,1,1,1,1,1,0,1,0] 3) fun K18 hK18 => have hJ1 : ∀ (x1 : Int) (x2 : ByteArray), nC p1 x1 x2 = some r → K18.p [(1, .one (.pv (.rp [(fh p1)] 0 0))), (3, vi x1), (4, vs x2)] [] := fun x1 x2 h => hK18 h (uP (hO _ _) fun r2 _ => (ns 17 (xW 43 vs fun y1 => (uG (uG (xW 52 vs fun y2 => (uG (uR .ret xF)))))))); (uC (uJ (hJ1 (IntKind.i64.wrap (0 - p1.n)) (ByteArray.mk #[45]))) (uJ (hJ1 p1.n (ByteArray.mk #[]))))) (uC (uQ (kS Tryz.f27 [1,0,1,0,1,1,1,1,1,1,1,0,1,0] 3) fun K34 hK34 => have hJ3 : ∀ (x6 : ByteArray), pU x6 = some r → K34.p [(6, vs x6)] [] := fun x6 h => hK34 h (uG (uR .ret xF)); (uO (cd Tryz.f27 [1,0,1,0,1,1,1,1,1,1,1,0,1,0,1,0,0]) (kS Tryz.f27 [1,0,1,0,1,1,1,1,1,1,1,0,1,0,1,0] 1) fun R1 b1 => have hL1 : ∀ (k1 : Nat) (x3 : ByteArray) (x4 : Int), eu p1 k1 x3 x4 = some r → (R1 k1).p [(1, .one (.pv (.rp [(fh p1)] 0 0))), (6, vs x3), (7, vi x4)] [] := by intro k1; induction k1 with | zero => intro x3 x4 h; exact mg (eu.eq_1 ..) h | succ k1 ih1 => intro x3 x4 h; exact b1 h (uU (eu.eq_2 ..) (uC (uQ (kS Tryz.f27 [1,0,1,0,1,1,1,1,1,1,1,0,1,0,1,0,0,1,0] 1) fun K39 hK39 => have hJ2 : ∀ (x5 : ByteArray), nw (eu p1 k1) x4 x5 = some r → K39.p [(1, .one (.pv (.rp [(fh p1)] 0 0))), (6, vs x5), (7, vi x4)] [] := fun x5 h => hK39 h (uJ (ih1 x5 (IntKind.i64.wrap (x4 + 1)))); (uG (xW 70 vs fun y3 => (uG (uC (uG (uJ (hJ2 (y3 ++ (ByteArray.mk #[39]))))) (uJ (hJ2 y3))))))) (uR (.exit 1) (xM (uJ (hJ3 x3))))))
 uE (hL1 aW (ByteArray.mk #[39]) (0 : Int)))) (uC (uP (A1 _) fun r3 _ => (ns 27 (uP (hO _ _) fun r4 _ => (uG (uP (hO _ _) fun r5 _ => (uG (uG (uP (hO _ _) fun r6 _ => (xW 97 vs fun y4 => (uG (uP (hO _ _) fun r7 _ => (uG (uG (uP (hO _ _) fun r8 _ => (xW 107 vs fun y5 => (uG (uP (hO _ _) fun r9 _ => (uG (uG (uR .ret xF)))))))))))))))))))) (uQ (kS Tryz.f27 [1,0,1,0,1,1,1,1,1,1,1,1,1,1,0] 3) fun K74 hK74 => have hJ4 : ∀ (x7 : Bool), lQ (d9 k0) p1 x7 = some r → K74.p [(1, .one (.pv (.rp [(fh p1)] 0 0))), (114, vb x7)] [] := fun x7 h => hK74 h (uC (uQ (kS Tryz.f27 [1,0,1,0,1,1,1,1,1,1,1,1,1,1,1,0,1,0] 3) fun K79 hK79 => have hJ6 : ∀ (x11 : ByteArray), p9 p1 x11 = some r → K79.p [(1, .one (.pv (.rp [(fh p1)] 0 0))), (9, vs x11)] [] := fun x11 h => hK79 h (uC (uG (uG (uR .ret xF))) (uG (uG (uR .ret xF)))); (uN aj p1.items (uO (cd Tryz.f27 [1,0,1,0,1,1,1,1,1,1,1,1,1,1,1,0,1,0,1,0,0]) (kS Tryz.f27 [1,0,1,0,1,1,1,1,1,1,1,1,1,1,1,0,1,0,1,0] 1) fun R2 b2 => have hL2 : ∀ (k2 : Nat) (x8 : ByteArray) (x9 : Int), eA (d9 k0) p1 k2 x8 x9 = some r → (R2 k2).p [(1, .one (.pv (.rp [(fh p1)] 0 0))), (9, vs x8), (119, vi (p1.items.length : Int)), (120, vi x9)] [] := by intro k2; induction k2 with | zero => intro x8 x9 h; exact mg (eA.eq_1 ..) h | succ k2 ih2 => intro x8 x9 h; exact b2 h (uU (eA.eq_2 ..) (uC (uQ (kS Tryz.f27 [1,0,1,0,1,1,1,1,1,1,1,1,1,1,1,0,1,0,1,0,0,1,1,0,0,1,0] 3) fun K86 hK86 => have hJ5 : ∀ (x10 : ByteArray), lg (eA (d9 k0) p1 k2) (d9 k0) p1 x9 x10 = some r → K86.p [(1, .one (.pv (.rp [(fh p1)] 0 0))), (9, vs x10), (10, vi x9), (119, vi (p1.items.length : Int)), (120, vi x9)] [] := fun x10 h => hK86 h (uL aj fun e1 a90 => (uP (wi k0 _) fun r10 _ => (uG (uJ (ih2 (x10 ++ r10) (IntKind.i64.wrap (x9 + 1))))))); (uC (uG (uJ (hJ5 (x8 ++ (ByteArray.mk #[44, 32]))))) (uJ (hJ5 x8)))) (uR (.exit 3) (xM (uJ (hJ6 x8))))))
 uE (hL2 aW (ByteArray.mk #[]) (0 : Int))))) (uR .ret xF)); (uC (uJ (hJ4 (p1.kind == 6))) (uJ (hJ4 (p1.kind == 7)))))))))))
def pB (p1 : ac) : Option ByteArray := az (iU p1) fun r1 => ax (!r1) (some (ByteArray.mk #[])) (az (d9 aW p1) fun r2 => some r2)
theorem wo (p1 : ac) : CT Tryz.prog 11 [.ag [ci p1.kind, ci p1.n, ci p1.scale, eQ p1.s, cl aj p1.items]] (pB p1) vs :=
  eK 8 [] Tryz.f11 fun r => (uP (jV _) fun r1 _ => (uC (uR .ret xF) (uP (wi aW _) fun r2 _ => (uR .ret xF))))
def gZ (r2 : (ac × ByteArray × Bool)) (x1 : Bool) : Option (ac × Int) := ax x1 (some ((ac.mk (0 : Int) (0 : Int) (0 : Int) ByteArray.empty []), (6 : Int))) (some (r2.1, (0 : Int)))
def cT (p1 : af) (p2 : ByteArray) : Option (ac × Int) := az (cZ p1) fun r1 => ax (r1 != 0) (some ((ac.mk (0 : Int) (0 : Int) (0 : Int) ByteArray.empty []), r1)) (az (cj aW p1 p2) fun r2 => ax (!r2.2.2) (gZ r2 true) (ax (!(r2.2.1.toList == (ByteArray.mk #[]).toList)) (gZ r2 true) (az (mo p1 r2.1) fun r3 => ax (r3 != 0) (gZ r2 true) (az (pB r2.1) fun r4 => gZ r2 (!(r4.toList == p2.toList))))))
theorem pN (p1 : af) (p2 : ByteArray) : CT Tryz.prog 8 [.ag [ci p1.kind, ci p1.scale, cl ay p1.fields], vs p2] (cT p1 p2) (fun r => .tp [.ag [ci r.1.kind, ci r.1.n, ci r.1.scale, eQ r.1.s, cl aj r.1.items], vi r.2]) :=
  eK 43 [4, 7] Tryz.f8 fun r => (uP (ir _) fun r1 _ => (uC (uR .ret xF) (uP (wl aW _ _) fun r2 _ => (uQ (kS Tryz.f8 [1,1,1,0,0] 2) fun K11 hK11 => have hJ1 : ∀ (x1 : Bool), gZ r2 x1 = some r → K11.p [(4, .one (.pt 0 0 0 0)), (7, .one (.pt 1 0 0 0)), (40, vb x1)] [.box [ci (0 : Int), ci (0 : Int), ci (0 : Int), eQ ByteArray.empty, .pv (.s (.slice none 0 0))], .box [ci r2.1.kind, ci r2.1.n, ci r2.1.scale, eQ r2.1.s, cl aj r2.1.items]] := fun x1 h => hK11 h (uC (uR .ret xF) (uR .ret xF)); (uC (uJ (hJ1 true)) (uC (uJ (hJ1 true)) (uP (un _ _) fun r3 _ => (uC (uJ (hJ1 true)) (uP (wo _) fun r4 _ => (uJ (hJ1 (!(r4.toList == p2.toList)))))))))))))
def ry (p1 : Int) : Option ac := some (ac.mk (2 : Int) p1 (0 : Int) ByteArray.empty [])
theorem yG (p1 : Int) : CT Tryz.prog 10 [vi p1] (ry p1) (fun r => .ag [ci r.kind, ci r.n, ci r.scale, eQ r.s, cl aj r.items]) :=
  eK 5 [2] Tryz.f10 fun r => (uR .ret xF)
def qD : Option Bool := some true
def cX (q_law1_exactly : ac → ac → Option Bool) (p1 p2 : ac) : Nat → Int → Option Bool
 | 0, _ => none
 | k1 + 1, x2 => ax (decide (x2 < (p1.items.length : Int))) (az (at? p1.items x2) fun e1 => az (at? p2.items x2) fun e2 => az (q_law1_exactly e1 e2) fun r1 => ax (!r1) (some false) ((cX q_law1_exactly p1 p2 k1) (IntKind.i64.wrap (x2 + 1)))) (qD)
def eR (q_law1_exactly : ac → ac → Option Bool) (p1 p2 : ac) (x1 : Bool) : Option Bool := ax x1 (some false) (cX q_law1_exactly p1 p2 aW (0 : Int))
def bS : Nat → ac → ac → Option Bool
 | 0, _, _ => none
 | k0 + 1, p1, p2 => ax (p1.kind != p2.kind) (eR (bS k0) p1 p2 true) (ax (p1.n != p2.n) (eR (bS k0) p1 p2 true) (ax (p1.scale != p2.scale) (eR (bS k0) p1 p2 true) (ax (!(p1.s.toList == p2.s.toList)) (eR (bS k0) p1 p2 true) (eR (bS k0) p1 p2 ((p1.items.length : Int) != (p2.items.length : Int))))))
theorem lC : ∀ (k0 : Nat) (p1 p2 : ac), CT Tryz.prog 12 [.ag [ci p1.kind, ci p1.n, ci p1.scale, eQ p1.s, cl aj p1.items], .ag [ci p2.kind, ci p2.n, ci p2.scale, eQ p2.s, cl aj p2.items]] (bS k0 p1 p2) vb
  | 0, _, _ => wJ (bS.eq_1 ..)
  | k0 + 1, p1, p2 => eK 60 [] Tryz.f12 fun r => (uU (bS.eq_2 ..) (uQ (kS Tryz.f12 [1,0,0] 2) fun K3 hK3 => have hJ1 : ∀ (x1 : Bool), eR (bS k0) p1 p2 x1 = some r → K3.p [(2, .one (.pv (.rp [[pi p1.kind, pi p1.n, pi p1.scale, .s (.string p1.s), .ro (aj.els p1.items)]] 0 0))), (3, .one (.pv (.rp [[pi p2.kind, pi p2.n, pi p2.scale, .s (.string p2.s), .ro (aj.els p2.items)]] 0 0))), (40, vb x1)] [] := fun x1 h => hK3 h (uC (uR .ret xF) (uQ (kS Tryz.f12 [1,1,0] 1) fun K10 hK10 => have hJ2 : ∀ (_ : Unit), qD = some r → K10.p [] [] := fun _ h => hK10 h (uR .ret xF); (uN aj p1.items (uO (cd Tryz.f12 [1,1,0,1,0,0]) (kS Tryz.f12 [1,1,0,1,0] 1) fun R1 b1 => have hL1 : ∀ (k1 : Nat) (x2 : Int), cX (bS k0) p1 p2 k1 x2 = some r → (R1 k1).p [(2, .one (.pv (.rp [[pi p1.kind, pi p1.n, pi p1.scale, .s (.string p1.s), .ro (aj.els p1.items)]] 0 0))), (3, .one (.pv (.rp [[pi p2.kind, pi p2.n, pi p2.scale, .s (.string p2.s), .ro (aj.els p2.items)]] 0 0))), (43, vi (p1.items.length : Int)), (44, vi x2)] [] := by intro k1; induction k1 with | zero => intro x2 h; exact mg (cX.eq_1 ..) h | succ k1 ih1 => intro x2 h; exact b1 h (uU (cX.eq_2 ..) (uC (ns 10 (uL aj fun e1 a18 => (uL aj fun e2 a19 => (uP (lC k0 _ _) fun r1 _ => (uC (uR .ret (xN (xN xF))) (uJ (ih1 (IntKind.i64.wrap (x2 + 1))))))))) (uR (.exit 0) (xM (uJ (hJ2 ()))))))
 uE (hL1 aW (0 : Int)))))); (uC (uJ (hJ1 true)) (uC (uJ (hJ1 true)) (uC (uJ (hJ1 true)) (uC (uJ (hJ1 true)) (uN aj p1.items (uN aj p2.items (uJ (hJ1 ((p1.items.length : Int) != (p2.items.length : Int))))))))))))
def lm (x1 : Bool) : Option Bool := some x1
def lO (x2 : Bool) : Option Bool := some x2
def lK (x3 : Bool) : Option Bool := some x3
def pC (p1 p2 : Int) : Option Bool := ax (p1 == 1) (ax (p2 == 1) (lm true) (ax (p2 == 2) (lm true) (lm (p2 == 4)))) (ax (p1 == 2) (az (bQ p2 (1 : Int) (5 : Int)) fun r1 => some r1) (ax (p1 == 3) (ax (p2 == 2) (lO true) (ax (p2 == 3) (lO true) (lO (p2 == 4)))) (ax (p1 == 4) (az (bQ p2 (1 : Int) (5 : Int)) fun r2 => some r2) (ax (p1 == 5) (ax (p2 == 2) (lK true) (ax (p2 == 5) (lK true) (lK (p2 == 4)))) (some (p1 == p2))))))
theorem wA (p1 p2 : Int) : CT Tryz.prog 63 [vi p1, vi p2] (pC p1 p2) vb :=
  eK 53 [] Tryz.f63 fun r => (uC (uQ (kS Tryz.f63 [1,0,1,0,1,0,0] 3) fun K6 hK6 => have hJ1 : ∀ (x1 : Bool), lm x1 = some r → K6.p [(4, vb x1)] [] := fun x1 h => hK6 h (uR .ret xF); (uC (uJ (hJ1 true)) (uC (uJ (hJ1 true)) (uJ (hJ1 (p2 == 4)))))) (uC (uP (cr _ _ _) fun r1 _ => (uR .ret xF)) (uC (uQ (kS Tryz.f63 [1,0,1,0,1,1,1,1,1,0,0] 3) fun K15 hK15 => have hJ2 : ∀ (x2 : Bool), lO x2 = some r → K15.p [(4, vb x2)] [] := fun x2 h => hK15 h (uR .ret xF); (uC (uJ (hJ2 true)) (uC (uJ (hJ2 true)) (uJ (hJ2 (p2 == 4)))))) (uC (uP (cr _ _ _) fun r2 _ => (uR .ret xF)) (uC (uQ (kS Tryz.f63 [1,0,1,0,1,1,1,1,1,1,1,1,1,0,0] 3) fun K24 hK24 => have hJ3 : ∀ (x3 : Bool), lK x3 = some r → K24.p [(4, vb x3)] [] := fun x3 h => hK24 h (uR .ret xF); (uC (uJ (hJ3 true)) (uC (uJ (hJ3 true)) (uJ (hJ3 (p2 == 4)))))) (uR .ret xF))))))
def bv : Option Bool := some true
def ak (q_value_canType_1 : aL → aL → Option Bool) (p1 p2 : (List aL)) : Nat → Int → Option Bool
 | 0, _ => none
 | k1 + 1, x1 => ax (decide (x1 < (p1.length : Int))) (az (at? p1 x1) fun e1 => az (at? p2 x1) fun e2 => az (q_value_canType_1 e1 e2) fun r1 => ax (!r1) (some false) ((ak q_value_canType_1 p1 p2 k1) (IntKind.i64.wrap (x1 + 1)))) (bv)
def iu (x1 : Bool) : Option Bool := some x1
mutual
def aG : Nat → (List aL) → (List aL) → Option Bool
 | 0, _, _ => none
 | k0 + 1, p1, p2 => ax ((p1.length : Int) != (p2.length : Int)) (some false) (ak (eV k0) p1 p2 aW (0 : Int))
def ia : Nat → af → af → Option Bool
 | 0, _, _ => none
 | k0 + 1, p1, p2 => az (pC p1.kind p2.kind) fun r1 => ax r1 (az (mb p1) fun r2 => ax r2 (iu true) (az ((aG k0) p1.fields p2.fields) fun r3 => iu r3)) (iu false)
def eV : Nat → aL → aL → Option Bool
 | 0, _, _ => none
 | k0 + 1, p1, p2 => az ((ia k0) p1.type p2.type) fun r1 => some r1
end
mutual
theorem dq : ∀ (k0 : Nat) (p1 p2 : (List aL)), CT Tryz.prog 65 [vl ay p1, vl ay p2, .one (.pv (.fn 66 []))] (aG k0 p1 p2) vb
  | 0, _, _ => wJ (aG.eq_1 ..)
  | k0 + 1, p1, p2 => eK 32 [8, 9] Tryz.f65 fun r => (uU (aG.eq_2 ..) (uN ay p1 (uN ay p2 (uC (uR .ret xF) (uQ (kS Tryz.f65 [1,1,0] 1) fun K6 hK6 => have hJ1 : ∀ (_ : Unit), bv = some r → K6.p [] [] := fun _ h => hK6 h (uR .ret xF); (uN ay p1 (uO (cd Tryz.f65 [1,1,0,1,0,0]) (kS Tryz.f65 [1,1,0,1,0] 1) fun R1 b1 => have hL1 : ∀ (k1 : Nat) (x1 : Int), ak (eV k0) p1 p2 k1 x1 = some r → (R1 k1).p [(1, vl ay p2), (2, .one (.pv (.fn 66 []))), (15, vl ay p1), (16, vi (p1.length : Int)), (17, vi x1)] [] := by intro k1; induction k1 with | zero => intro x1 h; exact mg (ak.eq_1 ..) h | succ k1 ih1 => intro x1 h; exact b1 h (uU (ak.eq_2 ..) (uC (uL ay fun e1 a13 => (uL ay fun e2 a15 => (uP (ub k0 _ _) fun r1 _ => (uC (uR .ret (xN (xN xF))) (uJ (ih1 (IntKind.i64.wrap (x1 + 1)))))))) (uR (.exit 0) (xM (uJ (hJ1 ()))))))
 uE (hL1 aW (0 : Int)))))))))
theorem qB : ∀ (k0 : Nat) (p1 p2 : af), CT Tryz.prog 32 [.ag [ci p1.kind, ci p1.scale, cl ay p1.fields], .ag [ci p2.kind, ci p2.scale, cl ay p2.fields]] (ia k0 p1 p2) vb
  | 0, _, _ => wJ (ia.eq_1 ..)
  | k0 + 1, p1, p2 => eK 21 [] Tryz.f32 fun r => (uU (ia.eq_2 ..) (uQ (kS Tryz.f32 [1,0] 1) fun K2 hK2 => have hJ1 : ∀ (x1 : Bool), iu x1 = some r → K2.p [(4, vb x1)] [] := fun x1 h => hK2 h (uR .ret xF); (uP (wA _ _) fun r1 _ => (uC (uP (pP _) fun r2 _ => (uC (uJ (hJ1 true)) (uP (dq k0 _ _) fun r3 _ => (uJ (hJ1 r3))))) (uJ (hJ1 false))))))
theorem ub : ∀ (k0 : Nat) (p1 p2 : aL), CT Tryz.prog 66 [.ag [ci p1.id, eQ p1.name, cb p1.need, ci p1.type.kind, ci p1.type.scale, cl ay p1.type.fields], .ag [ci p2.id, eQ p2.name, cb p2.need, ci p2.type.kind, ci p2.type.scale, cl ay p2.type.fields]] (eV k0 p1 p2) vb
  | 0, _, _ => wJ (eV.eq_1 ..)
  | k0 + 1, p1, p2 => eK 10 [] Tryz.f66 fun r => (uU (eV.eq_2 ..) (uP (qB k0 _ _) fun r1 _ => (uR .ret xF)))
end
def ln (x1 : Bool) : Option Bool := some x1
def rY (p1 p2 : af) : Option Bool := az (bC p1) fun r1 => ax (r1 == 0) (az (bC p2) fun r2 => ax (r2 == 0) (az (ia aW p1 p2) fun r3 => ln r3) (ln false)) (ln false)
theorem Bi (p1 p2 : af) : CT Tryz.prog 15 [.ag [ci p1.kind, ci p1.scale, cl ay p1.fields], .ag [ci p2.kind, ci p2.scale, cl ay p2.fields]] (rY p1 p2) vb :=
  eK 18 [] Tryz.f15 fun r => (uQ (kS Tryz.f15 [1,0] 1) fun K2 hK2 => have hJ1 : ∀ (x1 : Bool), ln x1 = some r → K2.p [(4, vb x1)] [] := fun x1 h => hK2 h (uR .ret xF); (uP (gM _) fun r1 _ => (uC (uP (gM _) fun r2 _ => (uC (uP (qB aW _ _) fun r3 _ => (uJ (hJ1 r3))) (uJ (hJ1 false)))) (uJ (hJ1 false)))))
def jO (x1 : Bool) : Option Bool := some x1
def gR (p1 : Int) : Option Bool := ax (p1 == 2) (jO true) (jO (p1 == 3))
theorem kD (p1 : Int) : CT Tryz.prog 67 [vi p1] (gR p1) vb :=
  eK 9 [] Tryz.f67 fun r => (uQ (kS Tryz.f67 [1,0] 1) fun K2 hK2 => have hJ1 : ∀ (x1 : Bool), jO x1 = some r → K2.p [(2, vb x1)] [] := fun x1 h => hK2 h (uR .ret xF); (uC (uJ (hJ1 true)) (uJ (hJ1 (p1 == 3)))))
def wj : Option Bool := some true
def gm (q_ref1_can : af → af → Option Bool) (p1 p2 : af) : Nat → Int → Option Bool
 | 0, _ => none
 | k1 + 1, x3 => ax (decide (x3 < (p1.fields.length : Int))) (az (at? p1.fields x3) fun e3 => az (at? p2.fields x3) fun e4 => az (q_ref1_can e3.type e4.type) fun r2 => ax (!r2) (some false) ((gm q_ref1_can p1 p2 k1) (IntKind.i64.wrap (x3 + 1)))) (wj)
def kU (x8 : Bool) : Option Bool := ax x8 (some true) (some false)
def m5 (p1 p2 : af) (x7 : Bool) : Option Bool := ax x7 (kU x7) (ax (p2.kind == 2) (ax (p1.kind == 1) (kU true) (kU (p1.kind == 5))) (kU false))
def oI (p1 p2 : af) (x6 : Bool) : Option Bool := ax x6 (some true) (ax (p1.kind == 2) (ax (p2.kind == 1) (m5 p1 p2 true) (m5 p1 p2 (p2.kind == 5))) (m5 p1 p2 false))
def mR (p1 p2 : af) (x5 : Bool) : Option Bool := ax x5 (some true) (ax (p1.kind == 4) (oI p1 p2 (p1.kind == 4)) (oI p1 p2 (p2.kind == 4)))
def kW (p1 p2 : af) (x4 : Bool) : Option Bool := ax x4 (some false) (ax (p1.kind == p2.kind) (mR p1 p2 (p1.kind == p2.kind)) (az (gR p1.kind) fun r5 => ax r5 (az (gR p2.kind) fun r6 => mR p1 p2 r6) (mR p1 p2 false)))
def iA (q_ref1_can : af → af → Option Bool) (p1 p2 : af) (x2 : Bool) : Option Bool := ax x2 (ax ((p1.fields.length : Int) != (p2.fields.length : Int)) (some false) (gm q_ref1_can p1 p2 aW (0 : Int))) (az (eN p1.kind) fun r3 => ax (!r3) (kW p1 p2 true) (az (eN p2.kind) fun r4 => kW p1 p2 (!r4)))
def gO (q_ref1_can : af → af → Option Bool) (p1 p2 : af) (x1 : Bool) : Option Bool := ax x1 (az (at? p1.fields (0 : Int)) fun e1 => az (at? p2.fields (0 : Int)) fun e2 => az (q_ref1_can e1.type e2.type) fun r1 => some r1) (ax (p1.kind == 7) (iA q_ref1_can p1 p2 (p2.kind == 7)) (iA q_ref1_can p1 p2 false))
def fe : Nat → af → af → Option Bool
 | 0, _, _ => none
 | k0 + 1, p1, p2 => ax (p1.kind == 6) (gO (fe k0) p1 p2 (p2.kind == 6)) (gO (fe k0) p1 p2 false)
theorem th : ∀ (k0 : Nat) (p1 p2 : af), CT Tryz.prog 33 [.ag [ci p1.kind, ci p1.scale, cl ay p1.fields], .ag [ci p2.kind, ci p2.scale, cl ay p2.fields]] (fe k0 p1 p2) vb
  | 0, _, _ => wJ (fe.eq_1 ..)
  | k0 + 1, p1, p2 => eK 122 [] Tryz.f33 fun r => (uU (fe.eq_2 ..) (uQ (kS Tryz.f33 [1,0,0,0] 3) fun K3 hK3 => have hJ1 : ∀ (x1 : Bool), gO (fe k0) p1 p2 x1 = some r → K3.p [(2, .one (.pv (.rp [(bA p1)] 0 0))), (3, .one (.pv (.rp [(bA p2)] 0 0))), (6, vb x1)] [] := fun x1 h => hK3 h (uC (ns 10 (uL ay fun e1 a7 => (uL ay fun e2 a8 => (uP (th k0 _ _) fun r1 _ => (uR .ret xF))))) (uQ (kS Tryz.f33 [1,0,0,1,1,0] 3) fun K10 hK10 => have hJ2 : ∀ (x2 : Bool), iA (fe k0) p1 p2 x2 = some r → K10.p [(2, .one (.pv (.rp [(bA p1)] 0 0))), (3, .one (.pv (.rp [(bA p2)] 0 0))), (26, vb x2)] [] := fun x2 h => hK10 h (uC (uN ay p1.fields (uN ay p2.fields (uC (uR .ret xF) (uQ (kS Tryz.f33 [1,0,0,1,1,1,0,1,0] 3) fun K17 hK17 => have hJ3 : ∀ (_ : Unit), wj = some r → K17.p [] [] := fun _ h => hK17 h (uR .ret xF); (uN ay p1.fields (uO (cd Tryz.f33 [1,0,0,1,1,1,0,1,0,1,0,0]) (kS Tryz.f33 [1,0,0,1,1,1,0,1,0,1,0] 1) fun R1 b1 => have hL1 : ∀ (k1 : Nat) (x3 : Int), gm (fe k0) p1 p2 k1 x3 = some r → (R1 k1).p [(2, .one (.pv (.rp [(bA p1)] 0 0))), (3, .one (.pv (.rp [(bA p2)] 0 0))), (44, vi (p1.fields.length : Int)), (45, vi x3)] [] := by intro k1; induction k1 with | zero => intro x3 h; exact mg (gm.eq_1 ..) h | succ k1 ih1 => intro x3 h; exact b1 h (uU (gm.eq_2 ..) (uC (ns 12 (uL ay fun e3 a25 => (uL ay fun e4 a26 => (uP (th k0 _ _) fun r2 _ => (uC (uR .ret (xN (xN xF))) (uJ (ih1 (IntKind.i64.wrap (x3 + 1))))))))) (uR (.exit 1) (xM (uJ (hJ3 ()))))))
 uE (hL1 aW (0 : Int)))))))) (uQ (kS Tryz.f33 [1,0,0,1,1,1,1,0] 3) fun K31 hK31 => have hJ4 : ∀ (x4 : Bool), kW p1 p2 x4 = some r → K31.p [(2, .one (.pv (.rp [(bA p1)] 0 0))), (3, .one (.pv (.rp [(bA p2)] 0 0))), (63, vb x4)] [] := fun x4 h => hK31 h (uC (uR .ret xF) (uQ (kS Tryz.f33 [1,0,0,1,1,1,1,1,1,0] 3) fun K37 hK37 => have hJ5 : ∀ (x5 : Bool), mR p1 p2 x5 = some r → K37.p [(2, .one (.pv (.rp [(bA p1)] 0 0))), (3, .one (.pv (.rp [(bA p2)] 0 0))), (74, vb x5)] [] := fun x5 h => hK37 h (uC (uR .ret xF) (uQ (kS Tryz.f33 [1,0,0,1,1,1,1,1,1,1,1,0] 3) fun K45 hK45 => have hJ6 : ∀ (x6 : Bool), oI p1 p2 x6 = some r → K45.p [(2, .one (.pv (.rp [(bA p1)] 0 0))), (3, .one (.pv (.rp [(bA p2)] 0 0))), (88, vb x6)] [] := fun x6 h => hK45 h (uC (uR .ret xF) (uQ (kS Tryz.f33 [1,0,0,1,1,1,1,1,1,1,1,1,1,0] 3) fun K50 hK50 => have hJ8 : ∀ (x8 : Bool), kU x8 = some r → K50.p [(95, vb x8)] [] := fun x8 h => hK50 h (uC (uR .ret xF) (uR .ret xF)); (uQ (kS Tryz.f33 [1,0,0,1,1,1,1,1,1,1,1,1,1,0,0] 1) fun K51 hK51 => have hJ7 : ∀ (x7 : Bool), m5 p1 p2 x7 = some r → K51.p [(2, .one (.pv (.rp [(bA p1)] 0 0))), (3, .one (.pv (.rp [(bA p2)] 0 0))), (95, vb x7)] [] := fun x7 h => hK51 h (uC (uJ (hJ8 x7)) (uC (uC (uJ (hJ8 true)) (uJ (hJ8 (p1.kind == 5)))) (uJ (hJ8 false)))); (uC (uC (uJ (hJ7 true)) (uJ (hJ7 (p2.kind == 5)))) (uJ (hJ7 false)))))); (uC (uJ (hJ6 (p1.kind == 4))) (uJ (hJ6 (p2.kind == 4)))))); (uC (uJ (hJ5 (p1.kind == p2.kind))) (uP (kD _) fun r5 _ => (uC (uP (kD _) fun r6 _ => (uJ (hJ5 r6))) (uJ (hJ5 false))))))); (uP (fD _) fun r3 _ => (uC (uJ (hJ4 true)) (uP (fD _) fun r4 _ => (uJ (hJ4 (!r4)))))))); (uC (uJ (hJ2 (p2.kind == 7))) (uJ (hJ2 false))))); (uC (uJ (hJ1 (p2.kind == 6))) (uJ (hJ1 false)))))
def oH (x1 : Bool) : Option Bool := some x1
def Cs (p1 p2 : af) : Option Bool := az (cZ p1) fun r1 => ax (r1 == 0) (az (cZ p2) fun r2 => ax (r2 == 0) (az (fe aW p1 p2) fun r3 => oH r3) (oH false)) (oH false)
def oR : Option Bool := some true
def bB (q_value_canValue : ac → af → Option Bool) (p1 : ac) (p2 : af) : Nat → Int → Option Bool
 | 0, _ => none
 | k1 + 1, x2 => ax (decide (x2 < (p1.items.length : Int))) (az (at? p1.items x2) fun e1 => az (cS p2 x2) fun r2 => az (q_value_canValue e1 r2.type) fun r3 => ax (!r3) (some false) ((bB q_value_canValue p1 p2 k1) (IntKind.i64.wrap (x2 + 1)))) (oR)
def bq (q_value_canValue : ac → af → Option Bool) (p1 : ac) (p2 : af) (x1 : Bool) : Option Bool := ax x1 (some false) (bB q_value_canValue p1 p2 aW (0 : Int))
def aU : Nat → ac → af → Option Bool
 | 0, _, _ => none
 | k0 + 1, p1, p2 => ax (p1.kind == 0) (some true) (az (pC p1.kind p2.kind) fun r1 => ax (!r1) (bq (aU k0) p1 p2 true) (ax (p1.kind == 7) (bq (aU k0) p1 p2 ((p1.items.length : Int) != (p2.fields.length : Int))) (bq (aU k0) p1 p2 false)))
theorem pk : ∀ (k0 : Nat) (p1 : ac) (p2 : af), CT Tryz.prog 34 [.ag [ci p1.kind, ci p1.n, ci p1.scale, eQ p1.s, cl aj p1.items], .ag [ci p2.kind, ci p2.scale, cl ay p2.fields]] (aU k0 p1 p2) vb
  | 0, _, _ => wJ (aU.eq_1 ..)
  | k0 + 1, p1, p2 => eK 48 [6] Tryz.f34 fun r => (uU (aU.eq_2 ..) (uC (uR .ret xF) (uQ (kS Tryz.f34 [1,0,0,1,1,0] 3) fun K6 hK6 => have hJ1 : ∀ (x1 : Bool), bq (aU k0) p1 p2 x1 = some r → K6.p [(2, .one (.pv (.rp [[pi p1.kind, pi p1.n, pi p1.scale, .s (.string p1.s), .ro (aj.els p1.items)]] 0 0))), (3, .one (.pv (.rp [[pi p2.kind, pi p2.scale, .ro (ay.els p2.fields)]] 0 0))), (11, vb x1)] [] := fun x1 h => hK6 h (uC (uR .ret xF) (uQ (kS Tryz.f34 [1,1,0] 1) fun K12 hK12 => have hJ2 : ∀ (_ : Unit), oR = some r → K12.p [] [] := fun _ h => hK12 h (uR .ret xF); (uN aj p1.items (uO (cd Tryz.f34 [1,1,0,1,0,0]) (kS Tryz.f34 [1,1,0,1,0] 1) fun R1 b1 => have hL1 : ∀ (k1 : Nat) (x2 : Int), bB (aU k0) p1 p2 k1 x2 = some r → (R1 k1).p [(3, .one (.pv (.rp [[pi p2.kind, pi p2.scale, .ro (ay.els p2.fields)]] 0 0))), (33, vl aj p1.items), (34, vi (p1.items.length : Int)), (35, vi x2)] [] := by intro k1; induction k1 with | zero => intro x2 h; exact mg (bB.eq_1 ..) h | succ k1 ih1 => intro x2 h; exact b1 h (uU (bB.eq_2 ..) (uC (uL aj fun e1 a19 => (ns 5 (uP (mC _ _) fun r2 _ => (uP (pk k0 _ _) fun r3 _ => (uC (uR .ret (xN (xN xF))) (uJ (ih1 (IntKind.i64.wrap (x2 + 1))))))))) (uR (.exit 1) (xM (uJ (hJ2 ()))))))
 uE (hL1 aW (0 : Int)))))); (uP (wA _ _) fun r1 _ => (uC (uJ (hJ1 true)) (uC (uN aj p1.items (uN ay p2.fields (uJ (hJ1 ((p1.items.length : Int) != (p2.fields.length : Int)))))) (uJ (hJ1 false))))))))
def du (p1 : (List ac)) : Option (List ac) := bI (0 ≤ (0 : Int) ∧ (0 : Int) ≤ (p1.length : Int) ∧ (p1.length : Int) ≤ (p1.length : Int) ∧ (p1.length : Int) ≤ (p1.length : Int)) <| some ((p1.drop (0 : Int).toNat).take ((p1.length : Int).toNat - (0 : Int).toNat))
theorem lc (p1 : (List ac)) : CT Tryz.prog 104 [vl aj p1] (du p1) (vl aj) :=
  eK 9 [] Tryz.f104 fun r => (uN aj p1 (uN aj p1 (NT aj (uR .ret xF))))
def dW (p1 p2 : Int) (p3 : ByteArray) : Option ac := ax (p3.toList == (ByteArray.mk #[110, 117, 108, 108]).toList) (some (ac.mk (0 : Int) (0 : Int) (0 : Int) ByteArray.empty [])) (az (fp (af.mk p1 p2 []) p3) fun r1 => some r1.1)
theorem nY (p1 p2 : Int) (p3 : ByteArray) : CT Tryz.prog 105 [vi p1, vi p2, vs p3] (dW p1 p2 p3) (fun r => .ag [ci r.kind, ci r.n, ci r.scale, eQ r.s, cl aj r.items]) :=
  eK 21 [6, 7] Tryz.f105 fun r => (uC (uR .ret xF) (uP (yE _ _) fun r1 _ => (uR .ret xF)))
def fy (p1 : aF) (x1 : Bool) : Option (Int × Bool) := ax x1 (some ((0 : Int), false)) (ax p1.neg (some ((IntKind.i64.wrap (0 - (IntKind.i64.wrap p1.size.1))), true)) (some ((IntKind.i64.wrap p1.size.1), true)))
def jo (p1 : aF) : Option (Int × Bool) := az (some (IntKind.u64.wrap (BitVec.ofInt (IntKind.u64).bits p1.size.2.1 ||| BitVec.ofInt (IntKind.u64).bits p1.size.2.2.1).toNat)) fun y1 => az (some (IntKind.u64.wrap (BitVec.ofInt (IntKind.u64).bits y1 ||| BitVec.ofInt (IntKind.u64).bits p1.size.2.2.2).toNat)) fun y2 => ax (y2 != 0) (fy p1 true) (fy p1 (decide ((9223372036854775808 : Int) ≤ p1.size.1)))
theorem sE (p1 : aF) : CT Tryz.prog 106 [.ag [cb p1.neg, ck .u64 p1.size.1, ck .u64 p1.size.2.1, ck .u64 p1.size.2.2.1, ck .u64 p1.size.2.2.2]] (jo p1) (fun r => .tp [vi r.1, vb r.2]) :=
  eK 33 [] Tryz.f106 fun r => (NR 10 (kS Tryz.f106 [1,0,0] 2) fun K3 hK3 => have hJ1 : ∀ (x1 : Bool), fy p1 x1 = some r → K3.p [(1, .one (.pv (.rp [[.s (.bool p1.neg), .s (.int .u64 p1.size.1), .s (.int .u64 p1.size.2.1), .s (.int .u64 p1.size.2.2.1), .s (.int .u64 p1.size.2.2.2)]] 0 0))), (21, vb x1)] [] := fun x1 h => hK3 h (uC (uR .ret xF) (uC (uR .ret xF) (uR .ret xF))); (uY 10 (vk .u64) fun y1 => (uY 14 (vk .u64) fun y2 => (uC (uJ (hJ1 true)) (uJ (hJ1 (decide ((9223372036854775808 : Int) ≤ p1.size.1))))))))
def mr (p1 p3 : Int) (r1 : (Int × Bool)) (x1 : Bool) : Option ac := ax x1 (some (ac.mk (0 : Int) (0 : Int) (0 : Int) ByteArray.empty [])) (some (ac.mk p1 r1.1 p3 ByteArray.empty []))
def me (p1 : Int) (p2 : aF) (p3 : Int) : Option ac := az (jo (aF.mk p2.neg (p2.size.1, p2.size.2.1, p2.size.2.2.1, p2.size.2.2.2))) fun r1 => ax (!r1.2) (mr p1 p3 r1 true) (az (iD (ac.mk p1 r1.1 p3 ByteArray.empty [])) fun r2 => mr p1 p3 r1 (!r2))
theorem AB (p1 : Int) (p2 : aF) (p3 : Int) : CT Tryz.prog 71 [vi p1, .ag [cb p2.neg, ck .u64 p2.size.1, ck .u64 p2.size.2.1, ck .u64 p2.size.2.2.1, ck .u64 p2.size.2.2.2], vi p3] (me p1 p2 p3) (fun r => .ag [ci r.kind, ci r.n, ci r.scale, eQ r.s, cl aj r.items]) :=
  eK 28 [6, 9] Tryz.f71 fun r => (uP (sE _) fun r1 _ => (uQ (kS Tryz.f71 [1,1,1,0,0] 2) fun K6 hK6 => have hJ1 : ∀ (x1 : Bool), mr p1 p3 r1 x1 = some r → K6.p [(6, .one (.pt 0 0 0 0)), (9, .one (.pt 1 0 0 0)), (25, vb x1)] [.box [ci (0 : Int), ci (0 : Int), ci (0 : Int), eQ ByteArray.empty, .pv (.s (.slice none 0 0))], .box [ci p1, ci r1.1, ci p3, eQ ByteArray.empty, .pv (.s (.slice none 0 0))]] := fun x1 h => hK6 h (uC (uR .ret xF) (uR .ret xF)); (uC (uJ (hJ1 true)) (uP (ki _) fun r2 _ => (uJ (hJ1 (!r2)))))))
def fT (p1 p2 : Int) : Option (Int × Int) := az (some (IntKind.u64.wrap (BitVec.ofInt (IntKind.u64).bits p1 &&& BitVec.ofInt (IntKind.u64).bits (4294967295 : Int)).toNat)) fun y1 => az (some (IntKind.u64.wrap (BitVec.ofInt (IntKind.u64).bits p2 &&& BitVec.ofInt (IntKind.u64).bits (4294967295 : Int)).toNat)) fun y2 => az (some (IntKind.u64.wrap ((p1.fdiv (2 ^ (min (32 : Int).toNat (IntKind.u64).bits))) * y2))) fun y3 => az (some ((IntKind.u64.wrap (y1 * y2)).fdiv (2 ^ (min (32 : Int).toNat (IntKind.u64).bits)))) fun y4 => az (some (IntKind.u64.wrap (BitVec.ofInt (IntKind.u64).bits (IntKind.u64.wrap (y3 + y4)) &&& BitVec.ofInt (IntKind.u64).bits (4294967295 : Int)).toNat)) fun y5 => az (some ((IntKind.u64.wrap (y3 + y4)).fdiv (2 ^ (min (32 : Int).toNat (IntKind.u64).bits)))) fun y6 => az (some (IntKind.u64.wrap (y1 * (p2.fdiv (2 ^ (min (32 : Int).toNat (IntKind.u64).bits)))))) fun y7 => az (some (IntKind.u64.wrap ((p1.fdiv (2 ^ (min (32 : Int).toNat (IntKind.u64).bits))) * (p2.fdiv (2 ^ (min (32 : Int).toNat (IntKind.u64).bits)))))) fun y8 => az (some ((IntKind.u64.wrap (y5 + y7)).fdiv (2 ^ (min (32 : Int).toNat (IntKind.u64).bits)))) fun y9 => some ((IntKind.u64.wrap ((IntKind.u64.wrap (y8 + y6)) + y9)), (IntKind.u64.wrap (p1 * p2)))
theorem jq (p1 p2 : Int) : CT Tryz.prog 174 [vk .u64 p1, vk .u64 p2] (fT p1 p2) (fun r => .tp [vk .u64 r.1, vk .u64 r.2]) :=
  eK 51 [] Tryz.f174 fun r => (uY 15 (vk .u64) fun y1 => (uY 19 (vk .u64) fun y2 => (uY 27 (vk .u64) fun y3 => (uY 29 (vk .u64) fun y4 => (uY 32 (vk .u64) fun y5 => (uY 34 (vk .u64) fun y6 => (uY 38 (vk .u64) fun y7 => (uY 42 (vk .u64) fun y8 => (uY 46 (vk .u64) fun y9 => (uR .ret xF))))))))))
def de (p1 : aF) (p2 : Int) : Option aF := az (fT p1.size.1 p2) fun r1 => bI (0 ≤ r1.2 ∧ 0 ≤ (0 : Int) ∧ 0 ≤ (0 : Int) ∧ (0 : Int) ≤ 1) <| az (some (IntKind.u64.wrap (r1.1 + ((r1.2 + 0 + (0 : Int)) / 18446744073709551616)))) fun y1 => az (fT p1.size.2.1 p2) fun r2 => bI (0 ≤ r2.2 ∧ 0 ≤ y1 ∧ 0 ≤ (0 : Int) ∧ (0 : Int) ≤ 1) <| az (some (IntKind.u64.wrap (r2.1 + ((r2.2 + y1 + 0) / 18446744073709551616)))) fun y2 => az (fT p1.size.2.2.1 p2) fun r3 => bI (0 ≤ r3.2 ∧ 0 ≤ y2 ∧ 0 ≤ (0 : Int) ∧ (0 : Int) ≤ 1) <| az (some (IntKind.u64.wrap (r3.1 + ((r3.2 + y2 + 0) / 18446744073709551616)))) fun y3 => az (fT p1.size.2.2.2 p2) fun r4 => bI (0 ≤ r4.2 ∧ 0 ≤ y3 ∧ 0 ≤ (0 : Int) ∧ (0 : Int) ≤ 1) <| az (some (IntKind.u64.wrap (r4.1 + ((r4.2 + y3 + 0) / 18446744073709551616)))) fun y4 => some (aF.mk p1.neg (((r1.2 + 0 + (0 : Int)) % 18446744073709551616), ((r2.2 + y1 + 0) % 18446744073709551616), ((r3.2 + y2 + 0) % 18446744073709551616), ((r4.2 + y3 + 0) % 18446744073709551616)))
theorem kK (p1 : aF) (p2 : Int) : CT Tryz.prog 140 [.ag [cb p1.neg, ck .u64 p1.size.1, ck .u64 p1.size.2.1, ck .u64 p1.size.2.2.1, ck .u64 p1.size.2.2.2], vk .u64 p2] (de p1 p2) (fun r => .ag [cb r.neg, ck .u64 r.size.1, ck .u64 r.size.2.1, ck .u64 r.size.2.2.1, ck .u64 r.size.2.2.2]) :=
  eK 37 [2, 4] Tryz.f140 fun r => (Lu 4 (uP (jq _ _) fun r1 _ => (Bq 175 Tryz.f175 (uY 34 (vk .u64) fun y1 => (uP (jq _ _) fun r2 _ => (Bq 175 Tryz.f175 (uY 34 (vk .u64) fun y2 => (uP (jq _ _) fun r3 _ => (Bq 175 Tryz.f175 (uY 34 (vk .u64) fun y3 => (uP (jq _ _) fun r4 _ => (Bq 175 Tryz.f175 (uY 34 (vk .u64) fun y4 => (uR .ret xF))))))))))))))
def lZ (z6 : Bool) (z7 z8 z9 z10 : Int) : Option aF := some (aF.mk z6 (z7, z8, z9, z10))
def cD (p2 : Int) : Nat → Bool → Int → Int → Int → Int → Int → Option aF
 | 0, _, _, _, _, _, _ => none
 | k1 + 1, z1, z2, z3, z4, z5, x1 => ax (decide (x1 < p2)) (az (de (aF.mk z1 (z2, z3, z4, z5)) (10 : Int)) fun r1 => (cD p2 k1) r1.neg r1.size.1 r1.size.2.1 r1.size.2.2.1 r1.size.2.2.2 (IntKind.i64.wrap (x1 + 1))) (lZ z1 z2 z3 z4 z5)
def iJ (p1 : aF) (p2 : Int) : Option aF := cD p2 aW p1.neg p1.size.1 p1.size.2.1 p1.size.2.2.1 p1.size.2.2.2 (0 : Int)
abbrev AE : List CV := [cb false, ck .u64 (0 : Int), ck .u64 (0 : Int), ck .u64 (0 : Int), ck .u64 (0 : Int)]
theorem mV (p1 : aF) (p2 : Int) : CT Tryz.prog 107 [.ag [cb p1.neg, ck .u64 p1.size.1, ck .u64 p1.size.2.1, ck .u64 p1.size.2.2.1, ck .u64 p1.size.2.2.2], vi p2] (iJ p1 p2) (fun r => .ag [cb r.neg, ck .u64 r.size.1, ck .u64 r.size.2.1, ck .u64 r.size.2.2.1, ck .u64 r.size.2.2.2]) :=
  eK 12 [2, 4] Tryz.f107 fun r => (uQ (kS Tryz.f107 [1,0] 1) fun K2 hK2 => have hJ1 : ∀ (z6 : Bool) (z7 z8 z9 z10 : Int), lZ z6 z7 z8 z9 z10 = some r → K2.p [(2, .one (.pt 0 0 0 0)), (4, .one (.pt 1 0 0 0))] [.box [cb z6, ck .u64 z7, ck .u64 z8, ck .u64 z9, ck .u64 z10], .box AE] := fun z6 z7 z8 z9 z10 h => hK2 h (uR .ret xF); (uO (cd Tryz.f107 [1,0,1,0,0]) (kS Tryz.f107 [1,0,1,0] 1) fun R1 b1 => have hL1 : ∀ (k1 : Nat) (z1 : Bool) (z2 z3 z4 z5 x1 : Int), cD p2 k1 z1 z2 z3 z4 z5 x1 = some r → (R1 k1).p [(2, .one (.pt 0 0 0 0)), (4, .one (.pt 1 0 0 0)), (5, vi p2), (6, vi x1)] [.box [cb z1, ck .u64 z2, ck .u64 z3, ck .u64 z4, ck .u64 z5], .box AE] := by intro k1; induction k1 with | zero => intro z1 z2 z3 z4 z5 x1 h; exact mg (cD.eq_1 ..) h | succ k1 ih1 => intro z1 z2 z3 z4 z5 x1 h; exact b1 h (uU (cD.eq_2 ..) (uC (uP (kK _ _) fun r1 _ => (uJ (ih1 r1.neg r1.size.1 r1.size.2.1 r1.size.2.2.1 r1.size.2.2.2 (IntKind.i64.wrap (x1 + 1))))) (uR (.exit 0) (xM (uJ (hJ1 z1 z2 z3 z4 z5))))))
 uE (hL1 aW p1.neg p1.size.1 p1.size.2.1 p1.size.2.2.1 p1.size.2.2.2 (0 : Int))))
def dp (p1 p2 : aF) : Option Int := ax (decide (p1.size.2.2.2 < p2.size.2.2.2)) (some (-1 : Int)) (ax (decide (p2.size.2.2.2 < p1.size.2.2.2)) (some (1 : Int)) (ax (decide (p1.size.2.2.1 < p2.size.2.2.1)) (some (-1 : Int)) (ax (decide (p2.size.2.2.1 < p1.size.2.2.1)) (some (1 : Int)) (ax (decide (p1.size.2.1 < p2.size.2.1)) (some (-1 : Int)) (ax (decide (p2.size.2.1 < p1.size.2.1)) (some (1 : Int)) (ax (decide (p1.size.1 < p2.size.1)) (some (-1 : Int)) (ax (decide (p2.size.1 < p1.size.1)) (some (1 : Int)) (some (0 : Int)))))))))
theorem j7 (p1 p2 : aF) : CT Tryz.prog 142 [.ag [cb p1.neg, ck .u64 p1.size.1, ck .u64 p1.size.2.1, ck .u64 p1.size.2.2.1, ck .u64 p1.size.2.2.2], .ag [cb p2.neg, ck .u64 p2.size.1, ck .u64 p2.size.2.1, ck .u64 p2.size.2.2.1, ck .u64 p2.size.2.2.2]] (dp p1 p2) vi :=
  eK 30 [] Tryz.f142 fun r => (Lu 4 (ns 8 (uC (uR .ret xF) (ns 8 (uC (uR .ret xF) (ns 8 (uC (uR .ret xF) (ns 8 (uC (uR .ret xF) (ns 8 (uC (uR .ret xF) (ns 8 (uC (uR .ret xF) (ns 8 (uC (uR .ret xF) (ns 8 (uC (uR .ret xF) (uR .ret xF))))))))))))))))))
def gz (p1 : aF) : Option aF := some (aF.mk (!p1.neg) (p1.size.1, p1.size.2.1, p1.size.2.2.1, p1.size.2.2.2))
theorem jG (p1 : aF) : CT Tryz.prog 177 [.ag [cb p1.neg, ck .u64 p1.size.1, ck .u64 p1.size.2.1, ck .u64 p1.size.2.2.1, ck .u64 p1.size.2.2.2]] (gz p1) (fun r => .ag [cb r.neg, ck .u64 r.size.1, ck .u64 r.size.2.1, ck .u64 r.size.2.2.1, ck .u64 r.size.2.2.2]) :=
  eK 8 [1, 2] Tryz.f177 fun r => (uR .ret xF)
def eP (z1 : Bool) (z2 z3 z4 z5 : Int) (z6 : Bool) (z7 z8 z9 z10 : Int) : Option aF := bI (0 ≤ z2 ∧ 0 ≤ z7 ∧ z7 < 18446744073709551616 ∧ 0 ≤ (0 : Int) ∧ (0 : Int) ≤ 1) <| bI (0 ≤ z3 ∧ 0 ≤ z8 ∧ z8 < 18446744073709551616 ∧ 0 ≤ (if z2 < z7 + 0 then (1 : Int) else 0) ∧ (if z2 < z7 + 0 then (1 : Int) else 0) ≤ 1) <| az (some ((z3 - z8 - (if z2 < z7 + 0 then (1 : Int) else 0)) % 18446744073709551616)) fun y1 => az (some (if z3 < z8 + (if z2 < z7 + 0 then (1 : Int) else 0) then (1 : Int) else 0)) fun y2 => bI (0 ≤ z4 ∧ 0 ≤ z9 ∧ z9 < 18446744073709551616 ∧ 0 ≤ y2 ∧ y2 ≤ 1) <| bI (0 ≤ z5 ∧ 0 ≤ z10 ∧ z10 < 18446744073709551616 ∧ 0 ≤ (if z4 < z9 + y2 then (1 : Int) else 0) ∧ (if z4 < z9 + y2 then (1 : Int) else 0) ≤ 1) <| az (some ((z5 - z10 - (if z4 < z9 + y2 then (1 : Int) else 0)) % 18446744073709551616)) fun y3 => az (some (if z5 < z10 + (if z4 < z9 + y2 then (1 : Int) else 0) then (1 : Int) else 0)) fun y4 => some (aF.mk z1 (((z2 - z7 - 0) % 18446744073709551616), y1, ((z4 - z9 - y2) % 18446744073709551616), y3))
mutual
def ec : Nat → aF → aF → Option aF
 | 0, _, _ => none
 | k0 + 1, p1, p2 => ax (!(p1.neg == p2.neg)) (az (gz (aF.mk p2.neg (p2.size.1, p2.size.2.1, p2.size.2.2.1, p2.size.2.2.2))) fun r1 => az ((dS k0) (aF.mk p1.neg (p1.size.1, p1.size.2.1, p1.size.2.2.1, p1.size.2.2.2)) (aF.mk r1.neg (r1.size.1, r1.size.2.1, r1.size.2.2.1, r1.size.2.2.2))) fun r2 => some (aF.mk r2.neg (r2.size.1, r2.size.2.1, r2.size.2.2.1, r2.size.2.2.2))) (az (dp (aF.mk p1.neg (p1.size.1, p1.size.2.1, p1.size.2.2.1, p1.size.2.2.2)) (aF.mk p2.neg (p2.size.1, p2.size.2.1, p2.size.2.2.1, p2.size.2.2.2))) fun r3 => ax (decide (r3 < (0 : Int))) (az (gz (aF.mk p2.neg (p2.size.1, p2.size.2.1, p2.size.2.2.1, p2.size.2.2.2))) fun r4 => eP r4.neg r4.size.1 r4.size.2.1 r4.size.2.2.1 r4.size.2.2.2 p1.neg p1.size.1 p1.size.2.1 p1.size.2.2.1 p1.size.2.2.2) (eP p1.neg p1.size.1 p1.size.2.1 p1.size.2.2.1 p1.size.2.2.2 p2.neg p2.size.1 p2.size.2.1 p2.size.2.2.1 p2.size.2.2.2))
def dS : Nat → aF → aF → Option aF
 | 0, _, _ => none
 | k0 + 1, p1, p2 => ax (!(p1.neg == p2.neg)) (az (gz (aF.mk p2.neg (p2.size.1, p2.size.2.1, p2.size.2.2.1, p2.size.2.2.2))) fun r1 => az ((ec k0) (aF.mk p1.neg (p1.size.1, p1.size.2.1, p1.size.2.2.1, p1.size.2.2.2)) (aF.mk r1.neg (r1.size.1, r1.size.2.1, r1.size.2.2.1, r1.size.2.2.2))) fun r2 => some (aF.mk r2.neg (r2.size.1, r2.size.2.1, r2.size.2.2.1, r2.size.2.2.2))) (bI (0 ≤ p1.size.1 ∧ 0 ≤ p2.size.1 ∧ 0 ≤ (0 : Int) ∧ (0 : Int) ≤ 1) <| bI (0 ≤ p1.size.2.1 ∧ 0 ≤ p2.size.2.1 ∧ 0 ≤ ((p1.size.1 + p2.size.1 + 0) / 18446744073709551616) ∧ ((p1.size.1 + p2.size.1 + 0) / 18446744073709551616) ≤ 1) <| az (some ((p1.size.2.1 + p2.size.2.1 + ((p1.size.1 + p2.size.1 + 0) / 18446744073709551616)) % 18446744073709551616)) fun y1 => az (some ((p1.size.2.1 + p2.size.2.1 + ((p1.size.1 + p2.size.1 + 0) / 18446744073709551616)) / 18446744073709551616)) fun y2 => bI (0 ≤ p1.size.2.2.1 ∧ 0 ≤ p2.size.2.2.1 ∧ 0 ≤ y2 ∧ y2 ≤ 1) <| bI (0 ≤ p1.size.2.2.2 ∧ 0 ≤ p2.size.2.2.2 ∧ 0 ≤ ((p1.size.2.2.1 + p2.size.2.2.1 + y2) / 18446744073709551616) ∧ ((p1.size.2.2.1 + p2.size.2.2.1 + y2) / 18446744073709551616) ≤ 1) <| az (some ((p1.size.2.2.2 + p2.size.2.2.2 + ((p1.size.2.2.1 + p2.size.2.2.1 + y2) / 18446744073709551616)) % 18446744073709551616)) fun y3 => az (some ((p1.size.2.2.2 + p2.size.2.2.2 + ((p1.size.2.2.1 + p2.size.2.2.1 + y2) / 18446744073709551616)) / 18446744073709551616)) fun y4 => some (aF.mk p1.neg (((p1.size.1 + p2.size.1 + 0) % 18446744073709551616), y1, ((p1.size.2.2.1 + p2.size.2.2.1 + y2) % 18446744073709551616), y3)))
end
mutual
theorem ol : ∀ (k0 : Nat) (p1 p2 : aF), CT Tryz.prog 176 [.ag [cb p1.neg, ck .u64 p1.size.1, ck .u64 p1.size.2.1, ck .u64 p1.size.2.2.1, ck .u64 p1.size.2.2.2], .ag [cb p2.neg, ck .u64 p2.size.1, ck .u64 p2.size.2.1, ck .u64 p2.size.2.2.1, ck .u64 p2.size.2.2.2]] (ec k0 p1 p2) (fun r => .ag [cb r.neg, ck .u64 r.size.1, ck .u64 r.size.2.1, ck .u64 r.size.2.2.1, ck .u64 r.size.2.2.2])
  | 0, _, _ => wJ (ec.eq_1 ..)
  | k0 + 1, p1, p2 => eK 44 [2, 3, 4] Tryz.f176 fun r => (uU (ec.eq_2 ..) (uC (ns 3 (uP (jG _) fun r1 _ => (uP (oQ k0 _ _) fun r2 _ => (uR .ret xF)))) (uQ (kS Tryz.f176 [1,1,0] 1) fun K8 hK8 => have hJ1 : ∀ (z1 : Bool) (z2 z3 z4 z5 : Int) (z6 : Bool) (z7 z8 z9 z10 : Int), eP z1 z2 z3 z4 z5 z6 z7 z8 z9 z10 = some r → K8.p [(2, .one (.pt 0 0 0 0)), (3, .one (.pt 1 0 0 0)), (4, .one (.pt 2 0 0 0))] [.box [cb z1, ck .u64 z2, ck .u64 z3, ck .u64 z4, ck .u64 z5], .box [cb z6, ck .u64 z7, ck .u64 z8, ck .u64 z9, ck .u64 z10], .box [cb false, ck .u64 (0 : Int), ck .u64 (0 : Int), ck .u64 (0 : Int), ck .u64 (0 : Int)]] := fun z1 z2 z3 z4 z5 z6 z7 z8 z9 z10 h => hK8 h (Lu 4 (yA 17 0 [3] (IL 199 Tryz.f199 (yA 17 0 [3] (IL 199 Tryz.f199 (uY 38 (vk .u64) fun y1 => (uY 39 (vk .u64) fun y2 => (yA 17 0 [3] (IL 199 Tryz.f199 (yA 17 0 [3] (IL 199 Tryz.f199 (uY 38 (vk .u64) fun y3 => (uY 39 (vk .u64) fun y4 => (uR .ret xF)))))))))))))); (uP (j7 _ _) fun r3 _ => (uC (ns 3 (uP (jG _) fun r4 _ => (uJ (hJ1 r4.neg r4.size.1 r4.size.2.1 r4.size.2.2.1 r4.size.2.2.2 p1.neg p1.size.1 p1.size.2.1 p1.size.2.2.1 p1.size.2.2.2)))) (uJ (hJ1 p1.neg p1.size.1 p1.size.2.1 p1.size.2.2.1 p1.size.2.2.2 p2.neg p2.size.1 p2.size.2.1 p2.size.2.2.1 p2.size.2.2.2)))))))
theorem oQ : ∀ (k0 : Nat) (p1 p2 : aF), CT Tryz.prog 143 [.ag [cb p1.neg, ck .u64 p1.size.1, ck .u64 p1.size.2.1, ck .u64 p1.size.2.2.1, ck .u64 p1.size.2.2.2], .ag [cb p2.neg, ck .u64 p2.size.1, ck .u64 p2.size.2.1, ck .u64 p2.size.2.2.1, ck .u64 p2.size.2.2.2]] (dS k0 p1 p2) (fun r => .ag [cb r.neg, ck .u64 r.size.1, ck .u64 r.size.2.1, ck .u64 r.size.2.2.1, ck .u64 r.size.2.2.2])
  | 0, _, _ => wJ (dS.eq_1 ..)
  | k0 + 1, p1, p2 => eK 37 [2, 4] Tryz.f143 fun r => (uU (dS.eq_2 ..) (uC (ns 3 (uP (jG _) fun r1 _ => (uP (ol k0 _ _) fun r2 _ => (uR .ret xF)))) (Lu 4 (yA 17 0 [2] (Bq 175 Tryz.f175 (yA 17 0 [2] (Bq 175 Tryz.f175 (uY 31 (vk .u64) fun y1 => (uY 32 (vk .u64) fun y2 => (yA 17 0 [2] (Bq 175 Tryz.f175 (yA 17 0 [2] (Bq 175 Tryz.f175 (uY 31 (vk .u64) fun y3 => (uY 32 (vk .u64) fun y4 => (uR .ret xF))))))))))))))))
end
def dK (rec1 : Int → Int → Int → Int → Bool → Int → Int → Int → Int → Int → Option (aF × aF)) (x1 z11 z12 z13 z14 : Int) (z15 : Bool) (z16 z17 z18 z19 : Int) : Option (aF × aF) := rec1 z11 z12 z13 z14 z15 z16 z17 z18 z19 (IntKind.i64.wrap (x1 - 1))
def ew (rec1 : Int → Int → Int → Int → Bool → Int → Int → Int → Int → Int → Option (aF × aF)) (p2 : aF) (z1 z2 z3 z4 x1 : Int) (r1 : aF) (z10 : Int) : Option (aF × aF) := az (dp (aF.mk r1.neg (z10, r1.size.2.1, r1.size.2.2.1, r1.size.2.2.2)) (aF.mk p2.neg (p2.size.1, p2.size.2.1, p2.size.2.2.1, p2.size.2.2.2))) fun r2 => ax (decide ((0 : Int) ≤ r2)) (az (ec aW (aF.mk false (z10, r1.size.2.1, r1.size.2.2.1, r1.size.2.2.2)) (aF.mk false (p2.size.1, p2.size.2.1, p2.size.2.2.1, p2.size.2.2.2))) fun r3 => ax ((IntKind.i64.wrap (x1.tdiv (64 : Int))) == 0) (bI (0 ≤ (x1.tmod (64 : Int))) <| az (some (IntKind.u64.wrap ((1 : Int) * 2 ^ (min (x1.tmod (64 : Int)).toNat (IntKind.u64).bits)))) fun y19 => az (some (IntKind.u64.wrap (BitVec.ofInt (IntKind.u64).bits z1 ||| BitVec.ofInt (IntKind.u64).bits y19).toNat)) fun y20 => dK rec1 x1 y20 z2 z3 z4 r3.neg r3.size.1 r3.size.2.1 r3.size.2.2.1 r3.size.2.2.2) (ax ((IntKind.i64.wrap (x1.tdiv (64 : Int))) == 1) (bI (0 ≤ (x1.tmod (64 : Int))) <| az (some (IntKind.u64.wrap ((1 : Int) * 2 ^ (min (x1.tmod (64 : Int)).toNat (IntKind.u64).bits)))) fun y17 => az (some (IntKind.u64.wrap (BitVec.ofInt (IntKind.u64).bits z2 ||| BitVec.ofInt (IntKind.u64).bits y17).toNat)) fun y18 => dK rec1 x1 z1 y18 z3 z4 r3.neg r3.size.1 r3.size.2.1 r3.size.2.2.1 r3.size.2.2.2) (ax ((IntKind.i64.wrap (x1.tdiv (64 : Int))) == 2) (bI (0 ≤ (x1.tmod (64 : Int))) <| az (some (IntKind.u64.wrap ((1 : Int) * 2 ^ (min (x1.tmod (64 : Int)).toNat (IntKind.u64).bits)))) fun y15 => az (some (IntKind.u64.wrap (BitVec.ofInt (IntKind.u64).bits z3 ||| BitVec.ofInt (IntKind.u64).bits y15).toNat)) fun y16 => dK rec1 x1 z1 z2 y16 z4 r3.neg r3.size.1 r3.size.2.1 r3.size.2.2.1 r3.size.2.2.2) (ax ((IntKind.i64.wrap (x1.tdiv (64 : Int))) == 3) (bI (0 ≤ (x1.tmod (64 : Int))) <| az (some (IntKind.u64.wrap ((1 : Int) * 2 ^ (min (x1.tmod (64 : Int)).toNat (IntKind.u64).bits)))) fun y13 => az (some (IntKind.u64.wrap (BitVec.ofInt (IntKind.u64).bits z4 ||| BitVec.ofInt (IntKind.u64).bits y13).toNat)) fun y14 => dK rec1 x1 z1 z2 z3 y14 r3.neg r3.size.1 r3.size.2.1 r3.size.2.2.1 r3.size.2.2.2) (none))))) (dK rec1 x1 z1 z2 z3 z4 r1.neg z10 r1.size.2.1 r1.size.2.2.1 r1.size.2.2.2)
def oy (p1 p2 : aF) (z20 z21 z22 z23 : Int) (z24 : Bool) (z25 z26 z27 z28 : Int) : Option (aF × aF) := some ((aF.mk (!(p1.neg == p2.neg)) (z20, z21, z22, z23)), (aF.mk p1.neg (z25, z26, z27, z28)))
def bh (p1 p2 : aF) : Nat → Int → Int → Int → Int → Bool → Int → Int → Int → Int → Int → Option (aF × aF)
 | 0, _, _, _, _, _, _, _, _, _, _ => none
 | k1 + 1, z1, z2, z3, z4, z5, z6, z7, z8, z9, x1 => ax (decide ((0 : Int) ≤ x1)) (az (de (aF.mk z5 (z6, z7, z8, z9)) (2 : Int)) fun r1 => ax ((IntKind.i64.wrap (x1.tdiv (64 : Int))) == 0) (bI (0 ≤ (x1.tmod (64 : Int))) <| az (some (p1.size.1.fdiv (2 ^ (min (x1.tmod (64 : Int)).toNat (IntKind.u64).bits)))) fun y10 => az (some (IntKind.u64.wrap (BitVec.ofInt (IntKind.u64).bits y10 &&& BitVec.ofInt (IntKind.u64).bits (1 : Int)).toNat)) fun y11 => az (some (IntKind.u64.wrap (BitVec.ofInt (IntKind.u64).bits r1.size.1 ||| BitVec.ofInt (IntKind.u64).bits y11).toNat)) fun y12 => ew (bh p1 p2 k1) p2 z1 z2 z3 z4 x1 r1 y12) (ax ((IntKind.i64.wrap (x1.tdiv (64 : Int))) == 1) (bI (0 ≤ (x1.tmod (64 : Int))) <| az (some (p1.size.2.1.fdiv (2 ^ (min (x1.tmod (64 : Int)).toNat (IntKind.u64).bits)))) fun y7 => az (some (IntKind.u64.wrap (BitVec.ofInt (IntKind.u64).bits y7 &&& BitVec.ofInt (IntKind.u64).bits (1 : Int)).toNat)) fun y8 => az (some (IntKind.u64.wrap (BitVec.ofInt (IntKind.u64).bits r1.size.1 ||| BitVec.ofInt (IntKind.u64).bits y8).toNat)) fun y9 => ew (bh p1 p2 k1) p2 z1 z2 z3 z4 x1 r1 y9) (ax ((IntKind.i64.wrap (x1.tdiv (64 : Int))) == 2) (bI (0 ≤ (x1.tmod (64 : Int))) <| az (some (p1.size.2.2.1.fdiv (2 ^ (min (x1.tmod (64 : Int)).toNat (IntKind.u64).bits)))) fun y4 => az (some (IntKind.u64.wrap (BitVec.ofInt (IntKind.u64).bits y4 &&& BitVec.ofInt (IntKind.u64).bits (1 : Int)).toNat)) fun y5 => az (some (IntKind.u64.wrap (BitVec.ofInt (IntKind.u64).bits r1.size.1 ||| BitVec.ofInt (IntKind.u64).bits y5).toNat)) fun y6 => ew (bh p1 p2 k1) p2 z1 z2 z3 z4 x1 r1 y6) (ax ((IntKind.i64.wrap (x1.tdiv (64 : Int))) == 3) (bI (0 ≤ (x1.tmod (64 : Int))) <| az (some (p1.size.2.2.2.fdiv (2 ^ (min (x1.tmod (64 : Int)).toNat (IntKind.u64).bits)))) fun y1 => az (some (IntKind.u64.wrap (BitVec.ofInt (IntKind.u64).bits y1 &&& BitVec.ofInt (IntKind.u64).bits (1 : Int)).toNat)) fun y2 => az (some (IntKind.u64.wrap (BitVec.ofInt (IntKind.u64).bits r1.size.1 ||| BitVec.ofInt (IntKind.u64).bits y2).toNat)) fun y3 => ew (bh p1 p2 k1) p2 z1 z2 z3 z4 x1 r1 y3) (none))))) (oy p1 p2 z1 z2 z3 z4 z5 z6 z7 z8 z9)
def nW (p1 p2 : aF) : Option (aF × aF) := bh p1 p2 aW (0 : Int) (0 : Int) (0 : Int) (0 : Int) false (0 : Int) (0 : Int) (0 : Int) (0 : Int) (255 : Int)
abbrev zW (p1 : aF) : List PV := [.s (.bool p1.neg), .s (.int .u64 p1.size.1), .s (.int .u64 p1.size.2.1), .s (.int .u64 p1.size.2.2.1), .s (.int .u64 p1.size.2.2.2)]
abbrev Do (p1 p2 : aF) (x1 : Int) : Fr := [(2, .one (.pv (.rp [(zW p1)] 0 0))), (3, .one (.pv (.rp [(zW p2)] 0 0))), (4, .one (.pt 0 0 0 0)), (5, .one (.pt 1 0 0 0)), (6, vi x1)]
theorem vz (p1 p2 : aF) : CT Tryz.prog 141 [.ag [cb p1.neg, ck .u64 p1.size.1, ck .u64 p1.size.2.1, ck .u64 p1.size.2.2.1, ck .u64 p1.size.2.2.2], .ag [cb p2.neg, ck .u64 p2.size.1, ck .u64 p2.size.2.1, ck .u64 p2.size.2.2.1, ck .u64 p2.size.2.2.2]] (nW p1 p2) (fun r => .tp [.ag [cb r.1.neg, ck .u64 r.1.size.1, ck .u64 r.1.size.2.1, ck .u64 r.1.size.2.2.1, ck .u64 r.1.size.2.2.2], .ag [cb r.2.neg, ck .u64 r.2.size.1, ck .u64 r.2.size.2.1, ck .u64 r.2.size.2.2.1, ck .u64 r.2.size.2.2.2]]) :=
  eK 61 [4, 5] Tryz.f141 fun r => (uQ (kS Tryz.f141 [1,0] 1) fun K2 hK2 => have hJ3 : ∀ (z20 z21 z22 z23 : Int) (z24 : Bool) (z25 z26 z27 z28 : Int), oy p1 p2 z20 z21 z22 z23 z24 z25 z26 z27 z28 = some r → K2.p [(2, .one (.pv (.rp [(zW p1)] 0 0))), (3, .one (.pv (.rp [(zW p2)] 0 0))), (4, .one (.pt 0 0 0 0)), (5, .one (.pt 1 0 0 0))] [.box [cb false, ck .u64 z20, ck .u64 z21, ck .u64 z22, ck .u64 z23], .box [cb z24, ck .u64 z25, ck .u64 z26, ck .u64 z27, ck .u64 z28]] := fun z20 z21 z22 z23 z24 z25 z26 z27 z28 h => hK2 h (yA 9 0 [2] (yA 3 0 [2] (uR .ret xF))); (uO (cd Tryz.f141 [1,0,1,0,0]) (kS Tryz.f141 [1,0,1,0] 1) fun R1 b1 => have hL1 : ∀ (k1 : Nat) (z1 z2 z3 z4 : Int) (z5 : Bool) (z6 z7 z8 z9 x1 : Int), bh p1 p2 k1 z1 z2 z3 z4 z5 z6 z7 z8 z9 x1 = some r → (R1 k1).p (Do p1 p2 x1) [.box [cb false, ck .u64 z1, ck .u64 z2, ck .u64 z3, ck .u64 z4], .box [cb z5, ck .u64 z6, ck .u64 z7, ck .u64 z8, ck .u64 z9]] := by intro k1; induction k1 with | zero => intro z1 z2 z3 z4 z5 z6 z7 z8 z9 x1 h; exact mg (bh.eq_1 ..) h | succ k1 ih1 => intro z1 z2 z3 z4 z5 z6 z7 z8 z9 x1 h; exact b1 h (uU (bh.eq_2 ..) (uC (uQ (kS Tryz.f141 [1,0,1,0,0,1,0] 1) fun K7 hK7 => have hJ2 : ∀ (z11 z12 z13 z14 : Int) (z15 : Bool) (z16 z17 z18 z19 : Int), dK (bh p1 p2 k1) x1 z11 z12 z13 z14 z15 z16 z17 z18 z19 = some r → K7.p (Do p1 p2 x1) [.box [cb false, ck .u64 z11, ck .u64 z12, ck .u64 z13, ck .u64 z14], .box [cb z15, ck .u64 z16, ck .u64 z17, ck .u64 z18, ck .u64 z19]] := fun z11 z12 z13 z14 z15 z16 z17 z18 z19 h => hK7 h (uJ (ih1 z11 z12 z13 z14 z15 z16 z17 z18 z19 (IntKind.i64.wrap (x1 - 1)))); (uP (kK _ _) fun r1 _ => (uQ (kS Tryz.f141 [1,0,1,0,0,1,0,0,1,0] 2) fun K10 hK10 => have hJ1 : ∀ (z10 : Int), ew (bh p1 p2 k1) p2 z1 z2 z3 z4 x1 r1 z10 = some r → K10.p (Do p1 p2 x1) [.box [cb false, ck .u64 z1, ck .u64 z2, ck .u64 z3, ck .u64 z4], .box [cb r1.neg, ck .u64 z10, ck .u64 r1.size.2.1, ck .u64 r1.size.2.2.1, ck .u64 r1.size.2.2.2]] := fun z10 h => hK10 h (uP (j7 _ _) fun r2 _ => (uC (uP (ol aW _ _) fun r3 _ => (ns 10 (J5 .i64 (fun b48 => (xW 46 (vk .u64) fun y19 => (uY 47 (vk .u64) fun y20 => (uJ (hJ2 y20 z2 z3 z4 r3.neg r3.size.1 r3.size.2.1 r3.size.2.2.1 r3.size.2.2.2))))) (fun b48 => (J5 .i64 (fun b44 => (xW 46 (vk .u64) fun y17 => (uY 47 (vk .u64) fun y18 => (uJ (hJ2 z1 y18 z3 z4 r3.neg r3.size.1 r3.size.2.1 r3.size.2.2.1 r3.size.2.2.2))))) (fun b44 => (J5 .i64 (fun b40 => (xW 46 (vk .u64) fun y15 => (uY 47 (vk .u64) fun y16 => (uJ (hJ2 z1 z2 y16 z4 r3.neg r3.size.1 r3.size.2.1 r3.size.2.2.1 r3.size.2.2.2))))) (fun b40 => (J5 .i64 (fun b36 => (xW 46 (vk .u64) fun y13 => (uY 47 (vk .u64) fun y14 => (uJ (hJ2 z1 z2 z3 y14 r3.neg r3.size.1 r3.size.2.1 r3.size.2.2.1 r3.size.2.2.2))))) (fun b36 => Np)))))))))) (uJ (hJ2 z1 z2 z3 z4 r1.neg z10 r1.size.2.1 r1.size.2.2.1 r1.size.2.2.2)))); (ns 14 (J5 .i64 (fun b26 => (xW 23 (vk .u64) fun y10 => (uY 24 (vk .u64) fun y11 => (uY 25 (vk .u64) fun y12 => (uJ (hJ1 y12)))))) (fun b26 => (J5 .i64 (fun b21 => (xW 23 (vk .u64) fun y7 => (uY 24 (vk .u64) fun y8 => (uY 25 (vk .u64) fun y9 => (uJ (hJ1 y9)))))) (fun b21 => (J5 .i64 (fun b16 => (xW 23 (vk .u64) fun y4 => (uY 24 (vk .u64) fun y5 => (uY 25 (vk .u64) fun y6 => (uJ (hJ1 y6)))))) (fun b16 => (J5 .i64 (fun b11 => (xW 23 (vk .u64) fun y1 => (uY 24 (vk .u64) fun y2 => (uY 25 (vk .u64) fun y3 => (uJ (hJ1 y3)))))) (fun b11 => Np)))))))))))) (uR (.exit 0) (xM (uJ (hJ3 z1 z2 z3 z4 z5 z6 z7 z8 z9))))))
 uE (hL1 aW (0 : Int) (0 : Int) (0 : Int) (0 : Int) false (0 : Int) (0 : Int) (0 : Int) (0 : Int) (255 : Int))))
def iC (p1 : Int) : Option aF := ax (decide (p1 < (0 : Int))) (some (aF.mk true ((IntKind.u64.wrap (0 - (IntKind.u64.wrap p1))), (0 : Int), (0 : Int), (0 : Int)))) (some (aF.mk false ((IntKind.u64.wrap p1), (0 : Int), (0 : Int), (0 : Int))))
theorem oW (p1 : Int) : CT Tryz.prog 73 [vi p1] (iC p1) (fun r => .ag [cb r.neg, ck .u64 r.size.1, ck .u64 r.size.2.1, ck .u64 r.size.2.2.1, ck .u64 r.size.2.2.2]) :=
  eK 14 [2] Tryz.f73 fun r => (uC (uR .ret xF) (uR .ret xF))
def jk (z1 : Bool) (z2 z3 z4 z5 : Int) : Option aF := some (aF.mk z1 (z2, z3, z4, z5))
def dk (r1 : (aF × aF)) (x1 : Bool) : Option aF := ax x1 (az (iC (1 : Int)) fun r4 => az (dS aW (aF.mk r1.1.neg (r1.1.size.1, r1.1.size.2.1, r1.1.size.2.2.1, r1.1.size.2.2.2)) (aF.mk r1.1.neg (r4.size.1, r4.size.2.1, r4.size.2.2.1, r4.size.2.2.2))) fun r5 => jk r5.neg r5.size.1 r5.size.2.1 r5.size.2.2.1 r5.size.2.2.2) (jk r1.1.neg r1.1.size.1 r1.1.size.2.1 r1.1.size.2.2.1 r1.1.size.2.2.2)
def iE (p1 p2 : aF) : Option aF := az (nW (aF.mk p1.neg (p1.size.1, p1.size.2.1, p1.size.2.2.1, p1.size.2.2.2)) (aF.mk p2.neg (p2.size.1, p2.size.2.1, p2.size.2.2.1, p2.size.2.2.2))) fun r1 => az (de (aF.mk r1.2.neg (r1.2.size.1, r1.2.size.2.1, r1.2.size.2.2.1, r1.2.size.2.2.2)) (2 : Int)) fun r2 => az (dp (aF.mk r2.neg (r2.size.1, r2.size.2.1, r2.size.2.2.1, r2.size.2.2.2)) (aF.mk p2.neg (p2.size.1, p2.size.2.1, p2.size.2.2.1, p2.size.2.2.2))) fun r3 => ax (decide ((0 : Int) < r3)) (dk r1 true) (ax (r3 == 0) (az (some (IntKind.u64.wrap (BitVec.ofInt (IntKind.u64).bits r1.1.size.1 &&& BitVec.ofInt (IntKind.u64).bits (1 : Int)).toNat)) fun y1 => dk r1 (y1 == 1)) (dk r1 false))
theorem rn (p1 p2 : aF) : CT Tryz.prog 108 [.ag [cb p1.neg, ck .u64 p1.size.1, ck .u64 p1.size.2.1, ck .u64 p1.size.2.2.1, ck .u64 p1.size.2.2.2], .ag [cb p2.neg, ck .u64 p2.size.1, ck .u64 p2.size.2.1, ck .u64 p2.size.2.2.1, ck .u64 p2.size.2.2.2]] (iE p1 p2) (fun r => .ag [cb r.neg, ck .u64 r.size.1, ck .u64 r.size.2.1, ck .u64 r.size.2.2.1, ck .u64 r.size.2.2.2]) :=
  eK 40 [4, 5, 6, 8] Tryz.f108 fun r => (uP (vz _ _) fun r1 _ => (uQ (kS Tryz.f108 [1,1,0] 1) fun K4 hK4 => have hJ2 : ∀ (z1 : Bool) (z2 z3 z4 z5 : Int), jk z1 z2 z3 z4 z5 = some r → K4.p [(4, .one (.pt 0 0 0 0)), (5, .one (.pt 1 0 0 0))] [.box AE, .box [cb z1, ck .u64 z2, ck .u64 z3, ck .u64 z4, ck .u64 z5], .dead] := fun z1 z2 z3 z4 z5 h => hK4 h (uR .ret xF); (ns 3 (uP (kK _ _) fun r2 _ => (uP (j7 _ _) fun r3 _ => (uQ (kS Tryz.f108 [1,1,0,1,0] 1) fun K8 hK8 => have hJ1 : ∀ (x1 : Bool), dk r1 x1 = some r → K8.p [(4, .one (.pt 0 0 0 0)), (5, .one (.pt 1 0 0 0)), (31, vb x1)] [.box AE, .box [cb r1.1.neg, ck .u64 r1.1.size.1, ck .u64 r1.1.size.2.1, ck .u64 r1.1.size.2.2.1, ck .u64 r1.1.size.2.2.2], .dead] := fun x1 h => hK8 h (uC (uP (oW _) fun r4 _ => (uP (oQ aW _ _) fun r5 _ => (uJ (hJ2 r5.neg r5.size.1 r5.size.2.1 r5.size.2.2.1 r5.size.2.2.2)))) (uJ (hJ2 r1.1.neg r1.1.size.1 r1.1.size.2.1 r1.1.size.2.2.1 r1.1.size.2.2.2))); (uC (uJ (hJ1 true)) (uC (uY 28 (vk .u64) fun y1 => (uJ (hJ1 (y1 == 1)))) (uJ (hJ1 false))))))))))
def lS (p1 p2 : Int) : Option aF := az (iC p1) fun r1 => az (iJ (aF.mk r1.neg (r1.size.1, r1.size.2.1, r1.size.2.2.1, r1.size.2.2.2)) p2) fun r2 => some (aF.mk r2.neg (r2.size.1, r2.size.2.1, r2.size.2.2.1, r2.size.2.2.2))
theorem w7 (p1 p2 : Int) : CT Tryz.prog 109 [vi p1, vi p2] (lS p1 p2) (fun r => .ag [cb r.neg, ck .u64 r.size.1, ck .u64 r.size.2.1, ck .u64 r.size.2.2.1, ck .u64 r.size.2.2.2]) :=
  eK 9 [4] Tryz.f109 fun r => (uP (oW _) fun r1 _ => (uP (mV _ _) fun r2 _ => (uR .ret xF)))
def jM (p1 : aF) (p2 p3 : Int) : Option aF := ax (decide (p2 ≤ p3)) (az (iJ (aF.mk p1.neg (p1.size.1, p1.size.2.1, p1.size.2.2.1, p1.size.2.2.2)) (IntKind.i64.wrap (p3 - p2))) fun r1 => some (aF.mk r1.neg (r1.size.1, r1.size.2.1, r1.size.2.2.1, r1.size.2.2.2))) (az (lS (1 : Int) (IntKind.i64.wrap (p2 - p3))) fun r2 => az (iE (aF.mk p1.neg (p1.size.1, p1.size.2.1, p1.size.2.2.1, p1.size.2.2.2)) (aF.mk r2.neg (r2.size.1, r2.size.2.1, r2.size.2.2.1, r2.size.2.2.2))) fun r3 => some (aF.mk r3.neg (r3.size.1, r3.size.2.1, r3.size.2.2.1, r3.size.2.2.2)))
theorem vE (p1 : aF) (p2 p3 : Int) : CT Tryz.prog 72 [.ag [cb p1.neg, ck .u64 p1.size.1, ck .u64 p1.size.2.1, ck .u64 p1.size.2.2.1, ck .u64 p1.size.2.2.2], vi p2, vi p3] (jM p1 p2 p3) (fun r => .ag [cb r.neg, ck .u64 r.size.1, ck .u64 r.size.2.1, ck .u64 r.size.2.2.1, ck .u64 r.size.2.2.2]) :=
  eK 21 [6] Tryz.f72 fun r => (uC (uP (mV _ _) fun r1 _ => (uR .ret xF)) (ns 5 (uP (w7 _ _) fun r2 _ => (uP (rn _ _) fun r3 _ => (uR .ret xF)))))
end Go.Proofs.YtpmoopnkoknbeaaGreatDoor
