/- The calendar, in plain integers. What needs no program: searches, bytes, sizes, words, digits. Packed numbers: the same bytes on both sides. Unpacked numbers: the same on both sides; the law of Pack and Unpack. -/
import Derived.Lib.ValidU
import Derived.Test.YtdbfodeghijdlaaGeA
namespace Go.SX.Cal
open Go
set_option linter.unusedVariables false

theorem w64 {x : Int} (h1 : -9223372036854775808 ≤ x) (h2 : x ≤ 9223372036854775807) : IntKind.i64.wrap x = x := by
 simp only [IntKind.wrap, IntKind.bits, IntKind.signed]
 simp only [Bool.true_and, decide_eq_true_eq, ge_iff_le]
 split <;> omega

/-! ### years of an era -/

def S (y : Int) : Int := 365 * y + y / 4 - y / 100
def F (r : Int) : Int := r - r / 1460 + r / 36524
def leap (y : Int) : Prop := y % 4 = 0 ∧ (y % 100 ≠ 0 ∨ y % 400 = 0)

instance (y : Int) : Decidable (leap y) := by unfold leap; infer_instance

/-! ### days -/

def E (y : Int) : Int := y / 400 * 146097 + S (y % 400) - 719468

end Go.SX.Cal
namespace Go.SX.Cal
open Go Go.SX Go.Lib
set_option linter.unusedVariables false
set_option linter.unusedSimpArgs false

theorem ift_true {β : Type} (x y : Option β) : ift true x y = x := rfl
theorem ift_false {β : Type} (x y : Option β) : ift false x y = y := rfl
theorem ift_ite {β : Type} (b : Bool) (x y : Option β) : ift b x y = if b = true then x else y := by cases b <;> rfl
theorem big_val : BIG = 1152921504606846976 := rfl

def first (P : Nat → Bool) (i n : Nat) : Option Nat := (List.range' i (n - i)).find? P

theorem first_step {P : Nat → Bool} {i n : Nat} (h : i < n) : first P i n = if P i = true then some i else first P (i + 1) n := by
 unfold first
 rw [show n - i = (n - (i + 1)) + 1 by omega, List.range'_succ, List.find?_cons]
 cases hp : P i <;> simp [hp]

theorem first_end {P : Nat → Bool} {n : Nat} : first P n n = none := by simp [first]

theorem first_none {P : Nat → Bool} {i n : Nat} : first P i n = none ↔ ∀ j, i ≤ j → j < n → P j = false := by
 unfold first
 rw [List.find?_eq_none]
 constructor
 ·intro h j h1 h2
  have := h j (by rw [List.mem_range'_1]; omega)
  simpa using this
 ·intro h j hj
  rw [List.mem_range'_1] at hj
  have := h j (by omega) (by omega)
  simp [this]

theorem search {β : Type} {f : Nat → Nat → Option β} {n : Nat} {P : Nat → Bool} {A : Nat → Option β} {B : Option β} (hstep : ∀ k i, i < n → f (k + 1) i = if P i = true then A i else f k (i + 1)) (hend : ∀ k, f (k + 1) n = B) :
  ∀ k i, i ≤ n → n - i < k → f k i = (first P i n).elim B A := by
 intro k
 induction k with
 | zero => intro i _ h; omega
 | succ k ih =>
  intro i hi hk
  by_cases h : i = n
  ·subst h
   rw [hend, first_end]; rfl
  ·rw [hstep k i (by omega), first_step (by omega)]
   by_cases hp : P i = true
   ·simp [hp]
   ·simp only [hp, if_false]
    exact ih (i + 1) (by omega) (by omega)

theorem wrap_succ {i n : Nat} (h : i < n) (hn : n < 1000000000) : IntKind.i64.wrap ((i : Int) + 1) = ((i + 1 : Nat) : Int) := by rw [w64 (by omega) (by omega)]; omega

theorem at_nat {α : Type} {xs : List α} {i : Nat} (h : i < xs.length) : at? xs (i : Int) = some xs[i] := by unfold at?; simp [h]

theorem dec_lt {i n : Nat} (h : i < n) : decide ((i : Int) < (n : Int)) = true := by simp [h]

theorem bnd_some' {α β : Type} (a : α) (f : α → Option β) : bnd (some a) f = f a := rfl

def c3 (a b : Int) : Int := if a < b then -1 else if b < a then 1 else 0

end Go.SX.Cal
namespace Go.Proofs.Ytdbfodeghijdlaa
open Go Go.SX Go.SX.Cal
set_option linter.unusedVariables false
set_option linter.unusedSimpArgs false

theorem ofI64 (x : Nat) (h : x < 18446744073709551616) : (BitVec.ofInt 64 (x : Int)).toNat = x := by
 rw [BitVec.toNat_ofInt]
 have : (x : Int) % ((2 ^ 64 : Nat) : Int) = x := by omega
 rw [this]; rfl

theorem andi (x : Nat) (hx : x < 9223372036854775808) : IntKind.i64.wrap ((BitVec.ofInt (IntKind.i64).bits (x : Int) &&& BitVec.ofInt (IntKind.i64).bits (1 : Int)).toNat : Int) = ((x % 2 : Nat) : Int) := by
 show IntKind.i64.wrap ((BitVec.ofInt 64 (x : Int) &&& BitVec.ofInt 64 ((1 : Nat) : Int)).toNat : Int) = _
 rw [BitVec.toNat_and, ofI64 x (by omega), ofI64 1 (by decide)]
 have e : x &&& 1 = x % 2 := Nat.and_two_pow_sub_one_eq_mod x 1
 rw [e, w64 (by omega) (by omega)]

theorem ori (x y : Nat) (hx : x < 9223372036854775808) (hy : y < 9223372036854775808) : IntKind.i64.wrap ((BitVec.ofInt (IntKind.i64).bits (x : Int) ||| BitVec.ofInt (IntKind.i64).bits (y : Int)).toNat : Int) = ((x ||| y : Nat) : Int) := by
 show IntKind.i64.wrap ((BitVec.ofInt 64 (x : Int) ||| BitVec.ofInt 64 (y : Int)).toNat : Int) = _
 have : x ||| y < 2 ^ 63 := Nat.or_lt_two_pow hx hy
 rw [BitVec.toNat_or, ofI64 x (by omega), ofI64 y (by omega), w64 (by omega) (by omega)]

theorem fdn (x s : Nat) : (x : Int).fdiv (2 ^ s) = ((x / 2 ^ s : Nat) : Int) := by
 rw [Int.fdiv_eq_ediv_of_nonneg _ (Int.le_of_lt (Int.pow_pos (by decide)))]
 push_cast; rfl

theorem min64i (s : Nat) (h : s < 64) : min ((s : Int)).toNat (IntKind.i64).bits = s := by
 show min ((s : Int)).toNat 64 = s
 omega
theorem min8 (s : Nat) (h : s < 8) : min ((s : Int)).toNat (IntKind.u8).bits = s := by
 show min ((s : Int)).toNat 8 = s
 omega

def setb (e : Nat) (t : Nat) : Nat := e ||| 2 ^ t

theorem or8 : ∀ e : Fin 256, ∀ t : Fin 8, IntKind.u8.wrap ((BitVec.ofInt (IntKind.u8).bits (e.val : Int) ||| BitVec.ofInt (IntKind.u8).bits (IntKind.u8.wrap ((1 : Int) * 2 ^ t.val))).toNat : Int) = (setb e.val t.val : Int) := by decide +kernel
theorem add8 : ∀ e : Fin 256, ∀ t : Fin 8, e.val.testBit t.val = false → IntKind.u8.wrap ((e.val : Int) + IntKind.u8.wrap ((1 : Int) * 2 ^ t.val)) = (setb e.val t.val : Int) := by decide +kernel
theorem setb_lt : ∀ e : Fin 256, ∀ t : Fin 8, setb e.val t.val < 256 := by decide +kernel
theorem and8 : ∀ e : Fin 256, ∀ t : Fin 8, IntKind.u8.wrap ((BitVec.ofInt (IntKind.u8).bits ((e.val : Int).fdiv (2 ^ t.val)) &&& BitVec.ofInt (IntKind.u8).bits (1 : Int)).toNat : Int) = if e.val.testBit t.val = true then 1 else 0 := by decide +kernel
theorem rem8 : ∀ e : Fin 256, ∀ t : Fin 8, (IntKind.i64.wrap ((e.val : Int).fdiv (2 ^ t.val))).tmod 2 = if e.val.testBit t.val = true then 1 else 0 := by decide +kernel
theorem bits8 (a b : Fin 256) (h : ∀ t : Fin 8, a.val.testBit t.val = b.val.testBit t.val) : a = b := by
 refine Fin.ext (Nat.eq_of_testBit_eq fun i => ?_)
 by_cases hi : i < 8
 ·exact h ⟨i, hi⟩
 ·have hp : 2 ^ 8 ≤ 2 ^ i := Nat.pow_le_pow_right (by decide) (by omega)
  rw [Nat.testBit_lt_two_pow (Nat.lt_of_lt_of_le a.isLt hp), Nat.testBit_lt_two_pow (Nat.lt_of_lt_of_le b.isLt hp)]

def obit (b : List Int) (p : Nat) : Bool := (b.getD (p / 8) 0).toNat.testBit (p % 8)

def byts (b : List Int) : Prop := ∀ e ∈ b, 0 ≤ e ∧ e ≤ 255

theorem byts_get {b : List Int} (h : byts b) {j : Nat} (hj : j < b.length) : ∃ e : Fin 256, b[j] = (e.val : Int) ∧ b.getD j 0 = (e.val : Int) := by
 have := h b[j] (List.getElem_mem hj)
 refine ⟨⟨b[j].toNat, by omega⟩, by simp only; omega, ?_⟩
 simp only [List.getD, List.getElem?_eq_getElem hj, Option.getD_some]; omega

structure Inv (src : Nat → Bool) (N : Nat) (out : List Int) (P : Nat) : Prop where
 len : out.length = N
 by8 : byts out
 bit : ∀ p, p < 8 * N → obit out p = (decide (p < P) && src p)

theorem inv_start (src : Nat → Bool) (N : Nat) : Inv src N (List.replicate N 0) 0 := by
 refine ⟨by simp, fun e he => by have := List.eq_of_mem_replicate he; omega, fun p hp => ?_⟩
 have : (List.replicate N (0 : Int)).getD (p / 8) 0 = 0 := by
  simp only [List.getD, List.getElem?_replicate]; split <;> rfl
 unfold obit
 rw [this]; simp

theorem inv_skip {src : Nat → Bool} {N : Nat} {out : List Int} {P : Nat} (h : Inv src N out P) (hs : src P = false) : Inv src N out (P + 1) := by
 refine ⟨h.len, h.by8, fun p hp => ?_⟩
 rw [h.bit p hp]
 by_cases e : p = P
 ·subst e; rw [hs]; simp
 ·have : decide (p < P + 1) = decide (p < P) := by rw [decide_eq_decide]; omega
  rw [this]

theorem inv_set {src : Nat → Bool} {N : Nat} {out : List Int} {P : Nat} (h : Inv src N out P) (hP : P < 8 * N) (hs : src P = true) (e : Fin 256) (he : out.getD (P / 8) 0 = (e.val : Int)) :
  Inv src N (out.set (P / 8) (setb e.val (P % 8) : Int)) (P + 1) := by
 have hlt : P / 8 < out.length := by rw [h.len]; omega
 have hm : P % 8 < 8 := Nat.mod_lt _ (by decide)
 have hsl := setb_lt e ⟨P % 8, hm⟩
 simp only at hsl
 refine ⟨by simpa using h.len, fun x hx => ?_, fun p hp => ?_⟩
 ·rcases List.mem_or_eq_of_mem_set hx with h1 | h1
  ·exact h.by8 x h1
  ·subst h1; omega
 ·have hb := h.bit p hp
  unfold obit at hb ⊢
  by_cases ej : p / 8 = P / 8
  ·rw [ej] at hb ⊢
   have e1 : (out.set (P / 8) (setb e.val (P % 8) : Int)).getD (P / 8) 0 = (setb e.val (P % 8) : Int) := by
    simp only [List.getD, List.getElem?_set_self hlt, Option.getD_some]
   rw [e1, Int.toNat_natCast]
   rw [he, Int.toNat_natCast] at hb
   unfold setb
   rw [Nat.testBit_or, hb, Nat.testBit_two_pow]
   by_cases ep : p = P
   ·subst ep; rw [hs]; simp
   ·have : ¬ P % 8 = p % 8 := by omega
    have e2 : decide (p < P + 1) = decide (p < P) := by rw [decide_eq_decide]; omega
    rw [e2]; simp [this]
  ·have e1 : (out.set (P / 8) (setb e.val (P % 8) : Int)).getD (p / 8) 0 = out.getD (p / 8) 0 := by
    simp only [List.getD, List.getElem?_set_ne (Ne.symm ej)]
   rw [e1, hb]
   have e2 : decide (p < P + 1) = decide (p < P) := by rw [decide_eq_decide]; omega
   rw [e2]

theorem inv_same {src : Nat → Bool} {N : Nat} {a b : List Int} {P : Nat} (ha : Inv src N a P) (hb : Inv src N b P) : a = b := by
 refine List.ext_getElem (by rw [ha.len, hb.len]) (fun j h1 h2 => ?_)
 obtain ⟨x, x1, x2⟩ := byts_get ha.by8 h1
 obtain ⟨y, y1, y2⟩ := byts_get hb.by8 h2
 have : x = y := by
  refine bits8 x y (fun t => ?_)
  have hp : 8 * j + t.val < 8 * N := by have := ha.len; omega
  have e1 := ha.bit _ hp
  have e2 := hb.bit _ hp
  have := e1.trans e2.symm
  unfold obit at this
  rw [show (8 * j + t.val) / 8 = j by omega, show (8 * j + t.val) % 8 = t.val by omega, x2, y2, Int.toNat_natCast, Int.toNat_natCast] at this
  exact this
 rw [x1, y1, this]

def srcL (w : Nat) (l : List Int) (p : Nat) : Bool := (l.getD (p / w) 0).toNat.testBit (p % w)

theorem src_at {w : Nat} {l : List Int} {i k : Nat} (hi : i < l.length) (hk : k < w) : srcL w l (i * w + k) = l[i].toNat.testBit k := by
 unfold srcL
 have e1 : (i * w + k) / w = i := by rw [Nat.mul_comm, Nat.mul_add_div (by omega), Nat.div_eq_of_lt hk]; rfl
 have e2 : (i * w + k) % w = k := by rw [Nat.mul_comm, Nat.mul_add_mod, Nat.mod_eq_of_lt hk]
 rw [e1, e2]
 simp only [List.getD, List.getElem?_eq_getElem hi, Option.getD_some]

structure Fits (w : Nat) (l : List Int) : Prop where
 w62 : w ≤ 62
 len : l.length ≤ 10000000
 ok : ∀ e ∈ l, 0 ≤ e ∧ e < 4611686018427387904

theorem pos_eq {w i k : Nat} (hw : w ≤ 62) (hi : i ≤ 10000000) (hk : k ≤ 62) : IntKind.i64.wrap ((IntKind.i64.wrap ((i : Int) * (w : Int))) + (k : Int)) = ((i * w + k : Nat) : Int) := by
 have hm : i * w ≤ 10000000 * 62 := Nat.mul_le_mul hi hw
 rw [show (i : Int) * (w : Int) = ((i * w : Nat) : Int) by push_cast; rfl, w64 (x := ((i * w : Nat) : Int)) (by omega) (by omega), w64 (by omega) (by omega)]
 push_cast; rfl

theorem pos_div {P : Nat} (h : P < 1000000000000) : IntKind.i64.wrap (((P : Nat) : Int).tdiv 8) = ((P / 8 : Nat) : Int) := by
 rw [Int.tdiv_eq_ediv_of_nonneg (by omega), w64 (by omega) (by omega)]; omega
theorem pos_mod {P : Nat} : ((P : Nat) : Int).tmod 8 = ((P % 8 : Nat) : Int) := by
 rw [Int.tmod_eq_emod_of_nonneg (by omega)]; omega

theorem bit_mod (x k : Nat) : ((x / 2 ^ k % 2 : Nat) : Int) = if x.testBit k = true then 1 else 0 := by
 rw [Nat.testBit_eq_decide_div_mod_eq]
 have := Nat.mod_two_eq_zero_or_one (x / 2 ^ k)
 by_cases h : x / 2 ^ k % 2 = 1
 ·rw [h]; simp
 ·rw [show x / 2 ^ k % 2 = 0 by omega]; simp

theorem pack_inner {w : Nat} {l : List Int} (hF : Fits w l) {N : Nat} (hN : l.length * w ≤ 8 * N) (rec1 : List Int → Int → Option (List Int)) {i : Nat} (hi : i < l.length) : ∀ (m f k : Nat) (out : List Int), k + m = w → m < f → Inv (srcL w l) N out (i * w + k) →
  ∃ out', column_pack_l2 rec1 (w : Int) (i : Int) l[i] f out (k : Int) = rec1 out' ((i + 1 : Nat) : Int) ∧ Inv (srcL w l) N out' ((i + 1) * w) := by
 have hw := hF.w62
 have hlen := hF.len
 intro m
 induction m with
 | zero =>
  intro f k out hk hf hI
  obtain ⟨f, rfl⟩ : ∃ q, f = q + 1 := ⟨f - 1, by omega⟩
  rw [column_pack_l2, show decide ((k : Int) < (w : Int)) = false by simp; omega, ift_false]
  unfold column_pack_j2
  rw [wrap_succ hi (by omega)]
  refine ⟨out, rfl, ?_⟩
  rw [Nat.add_mul, Nat.one_mul, show i * w + w = i * w + k by omega]
  exact hI
 | succ m ih =>
  intro f k out hk hf hI
  obtain ⟨f, rfl⟩ : ∃ q, f = q + 1 := ⟨f - 1, by omega⟩
  have he := hF.ok l[i] (List.getElem_mem hi)
  obtain ⟨x, hx⟩ : ∃ x : Nat, l[i] = (x : Int) := ⟨l[i].toNat, by omega⟩
  have hsrc := src_at (w := w) hi (show k < w by omega)
  have hP : i * w + k < 8 * N := by
   have : (i + 1) * w ≤ l.length * w := Nat.mul_le_mul_right _ hi
   rw [Nat.add_mul, Nat.one_mul] at this
   omega
  have hm : i * w ≤ 10000000 * 62 := Nat.mul_le_mul (by omega) hw
  rw [hx, Int.toNat_natCast] at hsrc
  have hxk : x / 2 ^ k < 9223372036854775808 := Nat.lt_of_le_of_lt (Nat.div_le_self _ _) (by omega)
  have ek : IntKind.i64.wrap ((k : Int) + 1) = ((k + 1 : Nat) : Int) := by rw [w64 (by omega) (by omega)]; omega
  rw [column_pack_l2, show decide ((k : Int) < (w : Int)) = true by simp; omega, ift_true, grd_pos (by omega), min64i k (by omega), hx, fdn, andi _ hxk, bnd_some', bit_mod]
  by_cases hb : x.testBit k = true
  ·rw [if_pos hb, show ((1 : Int) == 1) = true from rfl, ift_true, pos_eq hw (by omega) (by omega), pos_div (by omega), bnd_some', pos_mod]
   have hj : (i * w + k) / 8 < out.length := by rw [hI.len]; omega
   obtain ⟨e, e1, e2⟩ := byts_get hI.by8 hj
   have hm8 : (i * w + k) % 8 < 8 := Nat.mod_lt _ (by decide)
   rw [at_nat hj, bnd_some', bnd_some', grd_pos (by omega), min8 _ hm8, e1, or8 e ⟨_, hm8⟩, bnd_some', Int.toNat_natCast]
   have hI' := inv_set hI hP (by rw [hsrc, hb]) e e2
   unfold column_pack_j1
   rw [ek]
   have := ih f (k + 1) _ (by omega) (by omega) hI'
   rw [hx] at this
   exact this
  ·rw [if_neg hb, show ((0 : Int) == 1) = false from rfl, ift_false]
   have hI' := inv_skip hI (by rw [hsrc]; simpa using hb)
   unfold column_pack_j1
   rw [ek]
   have := ih f (k + 1) _ (by omega) (by omega) hI'
   rw [hx] at this
   exact this

theorem pack_outer {w : Nat} {l : List Int} (hF : Fits w l) {N : Nat} (hN : l.length * w ≤ 8 * N) : ∀ (m f i : Nat) (out : List Int), i + m = l.length → m < f → Inv (srcL w l) N out (i * w) →
  ∃ out', column_pack_l1 (w : Int) l f out (i : Int) = some out' ∧ Inv (srcL w l) N out' (l.length * w) := by
 have hw := hF.w62
 intro m
 induction m with
 | zero =>
  intro f i out hi hf hI
  obtain ⟨f, rfl⟩ : ∃ q, f = q + 1 := ⟨f - 1, by omega⟩
  rw [column_pack_l1, show decide ((i : Int) < (l.length : Int)) = false by simp; omega, ift_false]
  exact ⟨out, rfl, by rw [show l.length = i by omega]; exact hI⟩
 | succ m ih =>
  intro f i out hi hf hI
  obtain ⟨f, rfl⟩ : ∃ q, f = q + 1 := ⟨f - 1, by omega⟩
  have hil : i < l.length := by omega
  obtain ⟨out1, h1, h2⟩ := pack_inner hF hN (column_pack_l1 (w : Int) l f) hil w BIG 0 out (by omega) (by rw [big_val]; omega) (by simpa using hI)
  rw [show ((0 : Nat) : Int) = 0 from rfl] at h1
  rw [column_pack_l1, dec_lt hil, ift_true, at_nat hil, bnd_some', h1]
  exact ih f (i + 1) out1 (by omega) (by omega) h2

theorem size_eq {w n : Nat} (hw : w ≤ 62) (hn : n ≤ 10000000) : IntKind.i64.wrap ((IntKind.i64.wrap ((IntKind.i64.wrap ((n : Int) * (w : Int))) + (7 : Int))).tdiv (8 : Int)) = (((n * w + 7) / 8 : Nat) : Int) := by
 have := pos_eq (w := w) (i := n) (k := 7) hw hn (by omega)
 have hm : n * w ≤ 10000000 * 62 := Nat.mul_le_mul hn hw
 rw [show ((7 : Nat) : Int) = 7 from rfl] at this
 rw [this, pos_div (by omega)]

theorem vpack {w : Nat} {l : List Int} (hF : Fits w l) : ∃ out, column_pack (w : Int) l = some out ∧ Inv (srcL w l) ((l.length * w + 7) / 8) out (l.length * w) := by
 have hw := hF.w62
 have hm : l.length * w ≤ 10000000 * 62 := Nat.mul_le_mul hF.len hw
 have hs := size_eq hw hF.len
 have hlen := hF.len
 unfold column_pack
 rw [bnd_some', hs, grd_pos (by omega), Int.toNat_natCast]
 exact pack_outer hF (by omega) l.length BIG 0 _ (by omega) (by rw [big_val]; omega) (by rw [Nat.zero_mul]; exact inv_start _ _)

/-! ### the reference -/

theorem rbits_inner {w : Nat} {l : List Int} (hF : Fits w l) (rec1 : List Bool → Int → Option (List Bool)) {i : Nat} (hi : i < l.length) : ∀ (m f k : Nat) (out : List Bool), k + m = w → m < f → out = (List.range (i * w + k)).map (srcL w l) →
  ref2_bits_l2 rec1 (w : Int) (i : Int) f out ((l[i].toNat / 2 ^ k : Nat) : Int) (k : Int) = rec1 ((List.range ((i + 1) * w)).map (srcL w l)) ((i + 1 : Nat) : Int) := by
 have hw := hF.w62
 have hlen := hF.len
 intro m
 induction m with
 | zero =>
  intro f k out hk hf hI
  obtain ⟨f, rfl⟩ : ∃ q, f = q + 1 := ⟨f - 1, by omega⟩
  rw [ref2_bits_l2, show decide ((k : Int) < (w : Int)) = false by simp; omega, ift_false]
  unfold ref2_bits_j1
  rw [wrap_succ hi (by omega), hI, Nat.add_mul, Nat.one_mul, show i * w + w = i * w + k by omega]
 | succ m ih =>
  intro f k out hk hf hI
  obtain ⟨f, rfl⟩ : ∃ q, f = q + 1 := ⟨f - 1, by omega⟩
  have hsrc := src_at (w := w) hi (show k < w by omega)
  have hm : i * w ≤ 10000000 * 62 := Nat.mul_le_mul (by omega) hw
  have he := hF.ok l[i] (List.getElem_mem hi)
  have hlo : out.length = i * w + k := by rw [hI]; simp
  have hxk : l[i].toNat / 2 ^ k < 4611686018427387904 := Nat.lt_of_le_of_lt (Nat.div_le_self _ _) (by omega)
  have ek : IntKind.i64.wrap ((k : Int) + 1) = ((k + 1 : Nat) : Int) := by rw [w64 (by omega) (by omega)]; omega
  have eb : (((l[i].toNat / 2 ^ k : Nat) : Int).tmod 2 == 1) = srcL w l (i * w + k) := by
   rw [Int.tmod_eq_emod_of_nonneg (Int.natCast_nonneg _), hsrc]
   have := bit_mod l[i].toNat k
   rw [show ((l[i].toNat / 2 ^ k : Nat) : Int) % 2 = ((l[i].toNat / 2 ^ k % 2 : Nat) : Int) from (Int.natCast_emod _ _).symm, this]
   cases l[i].toNat.testBit k <;> rfl
  have ed : IntKind.i64.wrap (((l[i].toNat / 2 ^ k : Nat) : Int).tdiv 2) = ((l[i].toNat / 2 ^ (k + 1) : Nat) : Int) := by
   rw [Nat.pow_succ, ← Nat.div_div_eq_div_mul]
   generalize l[i].toNat / 2 ^ k = q at *
   rw [Int.tdiv_eq_ediv_of_nonneg (by omega), w64 (by omega) (by omega)]; omega
  rw [ref2_bits_l2, show decide ((k : Int) < (w : Int)) = true by simp; omega, ift_true, grd_pos (by omega), ek, eb, ed]
  refine ih f (k + 1) _ (by omega) (by omega) ?_
  rw [hI, ← Nat.add_assoc, List.range_succ, List.map_append]; rfl

theorem rbits_outer {w : Nat} {l : List Int} (hF : Fits w l) : ∀ (m f i : Nat), i + m = l.length → m < f →
  ref2_bits_l1 (w : Int) l f ((List.range (i * w)).map (srcL w l)) (i : Int) = some ((List.range (l.length * w)).map (srcL w l)) := by
 have hw := hF.w62
 intro m
 induction m with
 | zero =>
  intro f i hi hf
  obtain ⟨f, rfl⟩ : ∃ q, f = q + 1 := ⟨f - 1, by omega⟩
  rw [ref2_bits_l1, show decide ((i : Int) < (l.length : Int)) = false by simp; omega, ift_false, show l.length = i by omega]
  rfl
 | succ m ih =>
  intro f i hi hf
  obtain ⟨f, rfl⟩ : ∃ q, f = q + 1 := ⟨f - 1, by omega⟩
  have hil : i < l.length := by omega
  have he := hF.ok l[i] (List.getElem_mem hil)
  have h1 := rbits_inner hF (ref2_bits_l1 (w : Int) l f) hil w BIG 0 _ (by omega) (by rw [big_val]; omega) rfl
  rw [Nat.pow_zero, Nat.div_one, show ((l[i].toNat : Nat) : Int) = l[i] by omega, show ((0 : Nat) : Int) = 0 from rfl, Nat.add_zero] at h1
  rw [ref2_bits_l1, dec_lt hil, ift_true, at_nat hil, bnd_some', h1]
  exact ih f (i + 1) (by omega) (by omega)

theorem rpack_loop {src : Nat → Bool} {N T : Nat} (hT : T ≤ 8 * N) (hTb : T < 1000000000) : ∀ (m f P : Nat) (out : List Int), P + m = T → m < f → Inv src N out P →
  ∃ out', ref2_pack_l1 ((List.range T).map src) f out (P : Int) = some out' ∧ Inv src N out' T := by
 intro m
 induction m with
 | zero =>
  intro f P out hP hf hI
  obtain ⟨f, rfl⟩ : ∃ q, f = q + 1 := ⟨f - 1, by omega⟩
  rw [ref2_pack_l1, show decide ((P : Int) < ((((List.range T).map src).length : Nat) : Int)) = false by simp; omega, ift_false]
  exact ⟨out, rfl, by rw [show T = P by omega]; exact hI⟩
 | succ m ih =>
  intro f P out hP hf hI
  obtain ⟨f, rfl⟩ : ∃ q, f = q + 1 := ⟨f - 1, by omega⟩
  have hlt : P < ((List.range T).map src).length := by simp; omega
  have ek : IntKind.i64.wrap ((P : Int) + 1) = ((P + 1 : Nat) : Int) := wrap_succ (n := T) (by omega) (by omega)
  have hel : ((List.range T).map src)[P] = src P := by simp
  rw [ref2_pack_l1, dec_lt hlt, ift_true, at_nat hlt, bnd_some', hel]
  unfold ref2_pack_j1
  rw [ek]
  cases hs : src P
  ·rw [ift_false]
   exact ih f (P + 1) out (by omega) (by omega) (inv_skip hI hs)
  ·have hj : P / 8 < out.length := by rw [hI.len]; omega
   obtain ⟨e, e1, e2⟩ := byts_get hI.by8 hj
   have hm8 : P % 8 < 8 := Nat.mod_lt _ (by decide)
   have hz : e.val.testBit (P % 8) = false := by
    have := hI.bit P (by omega)
    unfold obit at this
    rw [e2, Int.toNat_natCast] at this
    rw [this]; simp
   rw [ift_true, pos_div (by omega), pos_mod, at_nat hj, bnd_some', grd_pos (by omega), min8 _ hm8, bnd_some', e1, add8 e ⟨_, hm8⟩ hz, Int.toNat_natCast]
   exact ih f (P + 1) _ (by omega) (by omega) (inv_set hI (by omega) hs e e2)

theorem rpack {w : Nat} {l : List Int} (hF : Fits w l) : ∃ out, ref2_pack (w : Int) l = some out ∧ Inv (srcL w l) ((l.length * w + 7) / 8) out (l.length * w) := by
 have hw := hF.w62
 have hm : l.length * w ≤ 10000000 * 62 := Nat.mul_le_mul hF.len hw
 have hlen := hF.len
 unfold ref2_pack ref2_bits
 have h1 := rbits_outer hF l.length BIG 0 (by omega) (by rw [big_val]; omega)
 rw [Nat.zero_mul] at h1
 have h1' : ref2_bits_l1 (w : Int) l BIG [] 0 = some ((List.range (l.length * w)).map (srcL w l)) := h1
 rw [h1', bnd_some']
 have hs : IntKind.i64.wrap ((IntKind.i64.wrap ((((List.range (l.length * w)).map (srcL w l)).length : Int) + (7 : Int))).tdiv (8 : Int)) = (((l.length * w + 7) / 8 : Nat) : Int) := by
  rw [List.length_map, List.length_range, w64 (x := ((l.length * w : Nat) : Int) + 7) (by omega) (by omega), show ((l.length * w : Nat) : Int) + 7 = ((l.length * w + 7 : Nat) : Int) by omega, pos_div (by omega)]
 rw [hs, bnd_some', grd_pos (by omega), Int.toNat_natCast]
 exact rpack_loop (by omega) (by omega) (l.length * w) BIG 0 _ (by omega) (by rw [big_val]; omega) (inv_start _ _)

theorem packs {w : Nat} {l : List Int} (hF : Fits w l) : ∃ out, column_pack (w : Int) l = some out ∧ ref2_pack (w : Int) l = some out := by
 obtain ⟨a, a1, a2⟩ := vpack hF
 obtain ⟨b, b1, b2⟩ := rpack hF
 have := inv_same a2 b2
 subst this
 exact ⟨a, a1, b1⟩

end Go.Proofs.Ytdbfodeghijdlaa
namespace Go.Proofs.Ytdbfodeghijdlaa
open Go Go.SX Go.SX.Cal
set_option linter.unusedVariables false
set_option linter.unusedSimpArgs false

def valB (src : Nat → Bool) (base : Nat) : Nat → Nat
 | 0 => 0
 | k + 1 => valB src base k + (if src (base + k) = true then 2 ^ k else 0)

theorem valB_lt (src : Nat → Bool) (base : Nat) : ∀ k, valB src base k < 2 ^ k
 | 0 => by simp [valB]
 | k + 1 => by
  have := valB_lt src base k
  simp only [valB, Nat.pow_succ]
  split <;> omega

def horB (src : Nat → Bool) (base w : Nat) : Nat → Nat
 | 0 => 0
 | d + 1 => 2 * horB src base w d + (if src (base + (w - 1 - d)) = true then 1 else 0)

theorem horB_lt (src : Nat → Bool) (base w : Nat) : ∀ d, horB src base w d < 2 ^ d
 | 0 => by simp [horB]
 | d + 1 => by
  have := horB_lt src base w d
  simp only [horB, Nat.pow_succ]
  split <;> omega

theorem horB_val (src : Nat → Bool) (base w : Nat) : ∀ d, d ≤ w → valB src base (w - d) + 2 ^ (w - d) * horB src base w d = valB src base w
 | 0, _ => by simp [horB]
 | d + 1, h => by
  have ih := horB_val src base w d (by omega)
  have e : w - d = (w - 1 - d) + 1 := by omega
  have e2 : w - (d + 1) = w - 1 - d := by omega
  rw [e] at ih
  simp only [valB, Nat.pow_succ] at ih
  rw [e2]
  simp only [horB]
  rw [Nat.mul_add, ← Nat.mul_assoc]
  by_cases hb : src (base + (w - 1 - d)) = true
  ·rw [if_pos hb] at ih ⊢
   omega
  ·rw [if_neg hb] at ih ⊢
   omega

theorem horB_full (src : Nat → Bool) (base w : Nat) : horB src base w w = valB src base w := by
 have := horB_val src base w w (Nat.le_refl _)
 rw [Nat.sub_self] at this
 simpa [valB] using this

theorem pow_le62 {k : Nat} (h : k ≤ 62) : 2 ^ k ≤ 4611686018427387904 := Nat.le_trans (Nat.pow_le_pow_right (by decide) h) (by decide)
theorem pow_lt62 {k : Nat} (h : k < 62) : 2 ^ k ≤ 2305843009213693952 := Nat.le_trans (Nat.pow_le_pow_right (by decide) (show k ≤ 61 by omega)) (by decide)

structure UB (w n : Nat) (b : List Int) : Prop where
 w62 : w ≤ 62
 len : n ≤ 10000000
 by8 : byts b
 bl : b.length = (n * w + 7) / 8

theorem pos_lt {w n i k : Nat} (hi : i < n) (hk : k < w) : i * w + k < n * w := by
 have : (i + 1) * w ≤ n * w := Nat.mul_le_mul_right _ hi
 rw [Nat.add_mul, Nat.one_mul] at this
 omega

theorem byte_at {w n : Nat} {b : List Int} (h : UB w n b) {i k : Nat} (hi : i < n) (hk : k < w) : ∃ (hj : (i * w + k) / 8 < b.length) (e : Fin 256), b[(i * w + k) / 8] = (e.val : Int) ∧ obit b (i * w + k) = e.val.testBit ((i * w + k) % 8) := by
 have hp := pos_lt hi hk
 have hbl := h.bl
 have hj : (i * w + k) / 8 < b.length := by omega
 obtain ⟨e, e1, e2⟩ := byts_get h.by8 hj
 exact ⟨hj, e, e1, by unfold obit; rw [e2, Int.toNat_natCast]⟩

theorem vun_inner {w n : Nat} {b : List Int} (h : UB w n b) (rec1 : List Int → Int → Option (List Int × Bool)) {i : Nat} (hi : i < n) : ∀ (m f k : Nat) (out : List Int), k + m = w → m < f → out.length = n → out[i]? = some ((valB (obit b) (i * w) k : Nat) : Int) →
  column_unpack_l2 rec1 (w : Int) b (i : Int) f out (k : Int) = rec1 (out.set i ((valB (obit b) (i * w) w : Nat) : Int)) ((i + 1 : Nat) : Int) := by
 have hw := h.w62
 have hlen := h.len
 intro m
 induction m with
 | zero =>
  intro f k out hk hf ho hv
  obtain ⟨f, rfl⟩ : ∃ q, f = q + 1 := ⟨f - 1, by omega⟩
  rw [column_unpack_l2, show decide ((k : Int) < (w : Int)) = false by simp; omega, ift_false]
  unfold column_unpack_j1
  rw [wrap_succ hi (by omega)]
  have hkw : k = w := by omega
  subst hkw
  have : out.set i ((valB (obit b) (i * k) k : Nat) : Int) = out := List.ext_getElem? (fun j => by
    by_cases e : i = j
    ·subst e; rw [List.getElem?_set_self (by omega)]; exact hv.symm
    ·rw [List.getElem?_set_ne e])
  rw [this]
 | succ m ih =>
  intro f k out hk hf ho hv
  obtain ⟨f, rfl⟩ : ∃ q, f = q + 1 := ⟨f - 1, by omega⟩
  have hkw : k < w := by omega
  obtain ⟨hj, e, e1, e2⟩ := byte_at h hi hkw
  have hm : i * w ≤ 10000000 * 62 := Nat.mul_le_mul (by omega) hw
  have ek : IntKind.i64.wrap ((k : Int) + 1) = ((k + 1 : Nat) : Int) := by rw [w64 (by omega) (by omega)]; omega
  have hat : at? out (i : Int) = some ((valB (obit b) (i * w) k : Nat) : Int) := by unfold at?; simp [hv]
  have hm8 : (i * w + k) % 8 < 8 := Nat.mod_lt _ (by decide)
  have hvl := valB_lt (obit b) (i * w) k
  have hpk := pow_lt62 (show k < 62 by omega)
  rw [column_unpack_l2, show decide ((k : Int) < (w : Int)) = true by simp; omega, ift_true, hat, bnd_some', pos_eq hw (by omega) (by omega), pos_div (by omega), bnd_some', at_nat hj, bnd_some', pos_mod, bnd_some', grd_pos (by omega), min8 _ hm8, e1, and8 e ⟨_, hm8⟩, bnd_some', grd_pos (by omega), min64i k (by omega), ek, Int.toNat_natCast]
  simp only
  have hv' : ∀ y : Nat, y = (if e.val.testBit ((i * w + k) % 8) = true then 2 ^ k else 0) → IntKind.i64.wrap ((BitVec.ofInt (IntKind.i64).bits ((valB (obit b) (i * w) k : Nat) : Int) ||| BitVec.ofInt (IntKind.i64).bits (y : Int)).toNat : Int) = ((valB (obit b) (i * w) (k + 1) : Nat) : Int) := by
   rintro y rfl
   rw [ori _ _ (by omega) (by split <;> omega)]
   congr 1
   simp only [valB]
   rw [e2]
   split
   ·have := Nat.two_pow_add_eq_or_of_lt hvl 1
    rw [Nat.mul_one] at this
    rw [Nat.or_comm, ← this, Nat.add_comm]
   ·simp
  have fin : ∀ y : Int, y = (((if e.val.testBit ((i * w + k) % 8) = true then 2 ^ k else 0 : Nat)) : Int) → bnd (some y) (fun y5 => bnd (some (IntKind.i64.wrap ((BitVec.ofInt (IntKind.i64).bits ((valB (obit b) (i * w) k : Nat) : Int) ||| BitVec.ofInt (IntKind.i64).bits y5).toNat : Int))) fun y6 => column_unpack_l2 rec1 (w : Int) b (i : Int) f (out.set i y6) ((k + 1 : Nat) : Int)) = rec1 (out.set i ((valB (obit b) (i * w) w : Nat) : Int)) ((i + 1 : Nat) : Int) := by
   rintro y rfl
   rw [bnd_some', hv' _ rfl, bnd_some', ih f (k + 1) _ (by omega) (by omega) (by simpa using ho) (by rw [List.getElem?_set_self (by omega)]), List.set_set]
  by_cases hb : e.val.testBit ((i * w + k) % 8) = true
  ·rw [if_pos hb]
   exact fin _ (by rw [if_pos hb, w64 (x := 1) (by decide) (by decide), Int.one_mul, show ((2 : Int) ^ k) = ((2 ^ k : Nat) : Int) by push_cast; rfl, w64 (by omega) (by omega)])
  ·rw [if_neg hb]
   exact fin _ (by rw [if_neg hb, w64 (x := 0) (by decide) (by decide), Int.zero_mul, w64 (by decide) (by decide)]; rfl)

def nums (w n : Nat) (b : List Int) : List Int := (List.range n).map fun i => ((valB (obit b) (i * w) w : Nat) : Int)

theorem nums_set {w n : Nat} {b : List Int} {i : Nat} (hi : i < n) : ((nums w i b) ++ List.replicate (n - i) 0).set i ((valB (obit b) (i * w) w : Nat) : Int) = nums w (i + 1) b ++ List.replicate (n - (i + 1)) 0 := by
 have hl : (nums w i b).length = i := by simp [nums]
 rw [List.set_append_right _ _ (by omega), hl, Nat.sub_self, show n - i = (n - (i + 1)) + 1 by omega, List.replicate_succ, List.set_cons_zero]
 unfold nums
 rw [List.range_succ, List.map_append, List.append_assoc]; rfl

theorem vun_outer {w n : Nat} {b : List Int} (h : UB w n b) : ∀ (m f i : Nat), i + m = n → m < f →
  column_unpack_l1 (w : Int) (n : Int) b f (nums w i b ++ List.replicate (n - i) 0) (i : Int) = column_unpack_j2 (w : Int) b (nums w n b) := by
 have hw := h.w62
 intro m
 induction m with
 | zero =>
  intro f i hi hf
  obtain ⟨f, rfl⟩ : ∃ q, f = q + 1 := ⟨f - 1, by omega⟩
  have : i = n := by omega
  subst this
  rw [column_unpack_l1, show decide ((i : Int) < ((((i : Int)).toNat : Nat) : Int)) = false by simp, ift_false, Nat.sub_self]
  simp
 | succ m ih =>
  intro f i hi hf
  obtain ⟨f, rfl⟩ : ∃ q, f = q + 1 := ⟨f - 1, by omega⟩
  have hin : i < n := by omega
  have hl : (nums w i b).length = i := by simp [nums]
  rw [column_unpack_l1, show decide ((i : Int) < ((((n : Int)).toNat : Nat) : Int)) = true by simp; omega, ift_true]
  have h1 := vun_inner h (column_unpack_l1 (w : Int) (n : Int) b f) hin w BIG 0 (nums w i b ++ List.replicate (n - i) 0) (by omega) (by rw [big_val]; omega) (by simp [hl]; omega) (by
   rw [List.getElem?_append_right (by omega), hl, Nat.sub_self, List.getElem?_replicate, if_pos (by omega)]; rfl)
  rw [show ((0 : Nat) : Int) = 0 from rfl, nums_set hin] at h1
  rw [h1]
  exact ih f (i + 1) (by omega) (by omega)

theorem run_inner {w n : Nat} {b : List Int} (h : UB w n b) (rec1 : List Int → Int → Option (List Int)) {i : Nat} (hi : i < n) : ∀ (m f d : Nat) (out : List Int), d + m = w → m < f → out.length = n → out[i]? = some ((horB (obit b) (i * w) w d : Nat) : Int) →
  ref2_unpack_l2 rec1 (w : Int) b (i : Int) f out ((m : Int) - 1) = rec1 (out.set i ((valB (obit b) (i * w) w : Nat) : Int)) ((i + 1 : Nat) : Int) := by
 have hw := h.w62
 have hlen := h.len
 intro m
 induction m with
 | zero =>
  intro f d out hd hf ho hv
  obtain ⟨f, rfl⟩ : ∃ q, f = q + 1 := ⟨f - 1, by omega⟩
  rw [ref2_unpack_l2, show decide ((0 : Int) ≤ ((0 : Nat) : Int) - 1) = false from rfl, ift_false]
  unfold ref2_unpack_j1
  rw [wrap_succ hi (by omega)]
  have hdw : d = w := by omega
  subst hdw
  rw [horB_full] at hv
  have : out.set i ((valB (obit b) (i * d) d : Nat) : Int) = out := List.ext_getElem? (fun j => by
    by_cases e : i = j
    ·subst e; rw [List.getElem?_set_self (by omega)]; exact hv.symm
    ·rw [List.getElem?_set_ne e])
  rw [this]
 | succ m ih =>
  intro f d out hd hf ho hv
  obtain ⟨f, rfl⟩ : ∃ q, f = q + 1 := ⟨f - 1, by omega⟩
  have hkw : m < w := by omega
  obtain ⟨hj, e, e1, e2⟩ := byte_at h hi hkw
  have hm : i * w ≤ 10000000 * 62 := Nat.mul_le_mul (by omega) hw
  have hat : at? out (i : Int) = some ((horB (obit b) (i * w) w d : Nat) : Int) := by unfold at?; simp [hv]
  have hm8 : (i * w + m) % 8 < 8 := Nat.mod_lt _ (by decide)
  have hvl := horB_lt (obit b) (i * w) w d
  have hpk := pow_lt62 (show d < 62 by omega)
  have es : ((m + 1 : Nat) : Int) - 1 = (m : Int) := by omega
  have hy : (if e.val.testBit ((i * w + m) % 8) = true then (1 : Int) else 0) = (((if e.val.testBit ((i * w + m) % 8) = true then 1 else 0 : Nat)) : Int) := by split <;> rfl
  rw [ref2_unpack_l2, es, show decide ((0 : Int) ≤ (m : Int)) = true by simp, ift_true, hat, bnd_some', pos_eq hw (by omega) (by omega), pos_div (by omega), bnd_some', at_nat hj, bnd_some', pos_mod, bnd_some', grd_pos (by omega), min8 _ hm8, e1, rem8 e ⟨_, hm8⟩, bnd_some', Int.toNat_natCast]
  simp only
  have hv' : IntKind.i64.wrap ((IntKind.i64.wrap ((2 : Int) * ((horB (obit b) (i * w) w d : Nat) : Int))) + (if e.val.testBit ((i * w + m) % 8) = true then (1 : Int) else 0)) = ((horB (obit b) (i * w) w (d + 1) : Nat) : Int) := by
   simp only [horB]
   rw [show w - 1 - d = m by omega, e2, w64 (x := 2 * ((horB (obit b) (i * w) w d : Nat) : Int)) (by omega) (by omega), hy]
   have hle : (if e.val.testBit ((i * w + m) % 8) = true then 1 else 0 : Nat) ≤ 1 := by split <;> omega
   rw [w64 (by omega) (by omega)]; push_cast; rfl
  rw [hv', w64 (by omega) (by omega), ih f (d + 1) _ (by omega) (by omega) (by simpa using ho) (by rw [List.getElem?_set_self (by omega)]), List.set_set]

theorem run_outer {w n : Nat} {b : List Int} (h : UB w n b) : ∀ (m f i : Nat), i + m = n → m < f →
  ref2_unpack_l1 (w : Int) (n : Int) b f (nums w i b ++ List.replicate (n - i) 0) (i : Int) = some (nums w n b) := by
 have hw := h.w62
 intro m
 induction m with
 | zero =>
  intro f i hi hf
  obtain ⟨f, rfl⟩ : ∃ q, f = q + 1 := ⟨f - 1, by omega⟩
  have : i = n := by omega
  subst this
  rw [ref2_unpack_l1, show decide ((i : Int) < ((((i : Int)).toNat : Nat) : Int)) = false by simp, ift_false, Nat.sub_self]
  unfold ref2_unpack_j2
  simp
 | succ m ih =>
  intro f i hi hf
  obtain ⟨f, rfl⟩ : ∃ q, f = q + 1 := ⟨f - 1, by omega⟩
  have hin : i < n := by omega
  have hl : (nums w i b).length = i := by simp [nums]
  rw [ref2_unpack_l1, show decide ((i : Int) < ((((n : Int)).toNat : Nat) : Int)) = true by simp; omega, ift_true, w64 (by omega) (by omega)]
  have h1 := run_inner h (ref2_unpack_l1 (w : Int) (n : Int) b f) hin w BIG 0 (nums w i b ++ List.replicate (n - i) 0) (by omega) (by rw [big_val]; omega) (by simp [hl]; omega) (by
   rw [List.getElem?_append_right (by omega), hl, Nat.sub_self, List.getElem?_replicate, if_pos (by omega)]; rfl)
  rw [nums_set hin] at h1
  rw [h1]
  exact ih f (i + 1) (by omega) (by omega)

theorem nums_fits {w n : Nat} {b : List Int} (h : UB w n b) : Fits w (nums w n b) := by
 refine ⟨h.w62, by simp [nums]; exact h.len, fun e he => ?_⟩
 simp only [nums, List.mem_map] at he
 obtain ⟨i, _, rfl⟩ := he
 have := valB_lt (obit b) (i * w) w
 have := pow_le62 h.w62
 omega

theorem unpacks (w n : Int) (b : List Int) (hb : byts b) : ∃ r, column_Unpack w n b = some r ∧ ref2_Unpack w n b = some r ∧ r.1.length < 1000000000 := by
 unfold column_Unpack ref2_Unpack
 have v1 : column_Unpack_j1 w n b true = some ([], 3) := rfl
 have r1 : ref2_Unpack_j1 w n b true = some ([], 3) := rfl
 by_cases h1 : w < 0
 ·rw [show decide (w < 0) = true by simpa using h1, ift_true, ift_true]; exact ⟨_, v1, r1, by decide⟩
 rw [show decide (w < 0) = false by simpa using h1, ift_false, ift_false]
 by_cases h2 : 62 < w
 ·rw [show decide (62 < w) = true by simpa using h2, ift_true, ift_true]; exact ⟨_, v1, r1, by decide⟩
 rw [show decide (62 < w) = false by simpa using h2, ift_false, ift_false]
 by_cases h3 : n < 0
 ·rw [show decide (n < 0) = true by simpa using h3, ift_true, ift_true]; exact ⟨_, v1, r1, by decide⟩
 rw [show decide (n < 0) = false by simpa using h3, ift_false, ift_false]
 by_cases h4 : 1048576 < n
 ·rw [show decide (1048576 < n) = true by simpa using h4]; exact ⟨_, v1, r1, by decide⟩
 rw [show decide (1048576 < n) = false by simpa using h4]
 obtain ⟨W, rfl⟩ : ∃ q : Nat, w = (q : Int) := ⟨w.toNat, by omega⟩
 obtain ⟨N, rfl⟩ : ∃ q : Nat, n = (q : Int) := ⟨n.toNat, by omega⟩
 unfold column_Unpack_j1 ref2_Unpack_j1 column_unpack
 rw [ift_false, ift_false, size_eq (by omega) (by omega)]
 simp only [bnd_some']
 by_cases hl : b.length = (N * W + 7) / 8
 ·rw [show ((b.length : Int) != (((N * W + 7) / 8 : Nat) : Int)) = false by rw [hl]; simp, ift_false, ift_false]
  have hU : UB W N b := ⟨by omega, by omega, hb, hl⟩
  unfold ref2_unpack
  rw [grd_pos (by omega), grd_pos (by omega), Int.toNat_natCast]
  have e1 := vun_outer hU N BIG 0 (by omega) (by rw [big_val]; omega)
  have e2 := run_outer hU N BIG 0 (by omega) (by rw [big_val]; omega)
  have e1' : column_unpack_l1 (W : Int) (N : Int) b BIG (List.replicate N 0) 0 = column_unpack_j2 (W : Int) b (nums W N b) := e1
  have e2' : ref2_unpack_l1 (W : Int) (N : Int) b BIG (List.replicate N 0) 0 = some (nums W N b) := e2
  rw [e1', e2']
  obtain ⟨out, p1, p2⟩ := packs (nums_fits hU)
  unfold column_unpack_j2 bytes_Equal ref2_sameBytes
  rw [p1]
  simp only [bnd_some']
  rw [p2]
  simp only [bnd_some']
  cases ((strOfNums out).toList == (strOfNums b).toList)
  ·exact ⟨([], 1), rfl, rfl, by decide⟩
  ·exact ⟨(nums W N b, 0), rfl, rfl, by simp [nums]; omega⟩
 ·rw [show ((b.length : Int) != (((N * W + 7) / 8 : Nat) : Int)) = true by simp; omega, ift_true, ift_true]
  exact ⟨([], 1), rfl, rfl, by decide⟩

/-! ### Pack -/

def badN (w : Nat) (l : List Int) (i : Nat) : Bool := decide (l.getD i 0 < 0) || decide ((2 ^ w : Nat) ≤ l.getD i 0)

theorem bad_at {w : Nat} {l : List Int} {i : Nat} (hi : i < l.length) : badN w l i = (decide (l[i] < 0) || decide (((2 ^ w : Nat) : Int) ≤ l[i])) := by
 unfold badN; simp [List.getD, List.getElem?_eq_getElem hi]

theorem shl1 {w : Nat} (hw : w ≤ 62) : IntKind.i64.wrap ((1 : Int) * 2 ^ (min ((w : Int)).toNat (IntKind.i64).bits)) = ((2 ^ w : Nat) : Int) := by
 have := pow_le62 hw
 rw [min64i w (by omega), Int.one_mul, show ((2 : Int) ^ w) = ((2 ^ w : Nat) : Int) by push_cast; rfl]
 generalize 2 ^ w = q at *
 rw [w64 (by omega) (by omega)]

theorem pred_eq {w : Nat} (hw : w ≤ 62) (e : Int) : column_Pack_1_s e (w : Int) = some (decide (e < 0) || decide (((2 ^ w : Nat) : Int) ≤ e)) := by
 unfold column_Pack_1_s column_Pack_1_s_j1
 by_cases h : e < 0
 ·simp [h, ift]
 ·rw [show decide (e < 0) = false by simpa using h, ift_false, grd_pos (by omega), shl1 hw, bnd_some', Bool.false_or]

theorem contains_eq {w : Nat} (hw : w ≤ 62) {l : List Int} (hl : l.length < 1000000000) : slices_ContainsFunc_int_int_of_column_Pack_1 l (w : Int) = some (first (badN w l) 0 l.length).isSome := by
 unfold slices_ContainsFunc_int_int_of_column_Pack_1 slices_IndexFunc_int_int_of_column_Pack_1
 have h := search (f := fun k i => slices_IndexFunc_int_int_of_column_Pack_1_l1 l (w : Int) k (i : Int)) (n := l.length) (P := badN w l) (A := fun i => some (i : Int)) (B := some (-1))
  (fun k i hi => by
   show slices_IndexFunc_int_int_of_column_Pack_1_l1 l (w : Int) (k + 1) (i : Int) = _
   rw [slices_IndexFunc_int_int_of_column_Pack_1_l1, dec_lt hi, ift_true, at_nat hi, bnd_some', pred_eq hw, bnd_some', bad_at hi, wrap_succ hi hl, ift_ite])
  (fun k => by
   show slices_IndexFunc_int_int_of_column_Pack_1_l1 l (w : Int) (k + 1) (l.length : Int) = _
   rw [slices_IndexFunc_int_int_of_column_Pack_1_l1, show decide ((l.length : Int) < (l.length : Int)) = false by simp, ift_false]; rfl)
  BIG 0 (by omega) (by rw [big_val]; omega)
 have h' : slices_IndexFunc_int_int_of_column_Pack_1_l1 l (w : Int) BIG 0 = (first (badN w l) 0 l.length).elim (some (-1)) (fun i => some (i : Int)) := h
 rw [h']
 cases first (badN w l) 0 l.length with
 | none => rfl
 | some i => simp [Option.elim, bnd_some']

theorem fits_eq {w : Nat} (hw : w ≤ 62) {l : List Int} (hl : l.length < 1000000000) : ref2_fits (w : Int) l = some (first (badN w l) 0 l.length).isNone := by
 unfold ref2_fits
 have h := search (f := fun k i => ref2_fits_l1 (w : Int) l k (i : Int)) (n := l.length) (P := badN w l) (A := fun i => some false) (B := some true)
  (fun k i hi => by
   show ref2_fits_l1 (w : Int) l (k + 1) (i : Int) = _
   rw [ref2_fits_l1, dec_lt hi, ift_true, at_nat hi, bnd_some', bad_at hi]
   unfold ref2_fits_j1
   rw [wrap_succ hi hl]
   by_cases h : l[i] < 0
   ·simp [h, ift]
   ·rw [show decide (l[i] < 0) = false by simpa using h, ift_false, grd_pos (by omega), shl1 hw, bnd_some', Bool.false_or, ift_ite])
  (fun k => by
   show ref2_fits_l1 (w : Int) l (k + 1) (l.length : Int) = _
   rw [ref2_fits_l1, show decide ((l.length : Int) < (l.length : Int)) = false by simp, ift_false]; rfl)
  BIG 0 (by omega) (by rw [big_val]; omega)
 have h' : ref2_fits_l1 (w : Int) l BIG 0 = (first (badN w l) 0 l.length).elim (some true) (fun i => some false) := h
 rw [h']
 cases first (badN w l) 0 l.length with
 | none => rfl
 | some i => rfl

theorem packs_all (w : Int) (l : List Int) (hl : l.length ≤ 10000000) : ∃ r, column_Pack w l = some r ∧ ref2_Pack w l = some r := by
 unfold column_Pack ref2_Pack
 have v1 : column_Pack_j1 w l true = some ([], 3) := rfl
 have r1 : ref2_Pack_j1 w l true = some ([], 3) := rfl
 by_cases h1 : w < 0
 ·rw [show decide (w < 0) = true by simpa using h1, ift_true, ift_true]; exact ⟨_, v1, r1⟩
 rw [show decide (w < 0) = false by simpa using h1, ift_false, ift_false]
 by_cases h2 : 62 < w
 ·rw [show decide (62 < w) = true by simpa using h2, ift_true, ift_true]; exact ⟨_, v1, r1⟩
 rw [show decide (62 < w) = false by simpa using h2, ift_false, ift_false]
 obtain ⟨W, rfl⟩ : ∃ q : Nat, w = (q : Int) := ⟨w.toNat, by omega⟩
 rw [contains_eq (by omega) (by omega), fits_eq (by omega) (by omega), bnd_some', bnd_some']
 cases hf : first (badN W l) 0 l.length with
 | some i => exact ⟨_, v1, r1⟩
 | none =>
  have hg := first_none.1 hf
  have hF : Fits W l := by
   refine ⟨by omega, hl, fun e he => ?_⟩
   obtain ⟨i, hi, rfl⟩ := List.getElem_of_mem he
   have := hg i (Nat.zero_le _) hi
   rw [bad_at hi] at this
   simp at this
   have hp := pow_le62 (show W ≤ 62 by omega)
   have h2 := this.2
   constructor
   ·omega
   ·have : l[i] < ((2 ^ W : Nat) : Int) := by push_cast; omega
    omega
  obtain ⟨out, p1, p2⟩ := packs hF
  refine ⟨(out, 0), ?_, ?_⟩
  ·show column_Pack_j1 (W : Int) l false = _
   unfold column_Pack_j1
   rw [ift_false, p1]; rfl
  ·show ref2_Pack_j1 (W : Int) l false = _
   unfold ref2_Pack_j1
   rw [ift_false, p2]; rfl

theorem ints_refl (l : List Int) (hl : l.length < 1000000000) : law2_ints l l = some true := by
 unfold law2_ints
 rw [show ((l.length : Int) != (l.length : Int)) = false by simp, ift_false]
 have go : ∀ (m f i : Nat), i + m = l.length → m < f → law2_ints_l1 l l f (i : Int) = some true := by
  intro m
  induction m with
  | zero =>
   intro f i hi hf
   obtain ⟨f, rfl⟩ : ∃ q, f = q + 1 := ⟨f - 1, by omega⟩
   rw [law2_ints_l1, show decide ((i : Int) < (l.length : Int)) = false by simp; omega, ift_false]; rfl
  | succ m ih =>
   intro f i hi hf
   obtain ⟨f, rfl⟩ : ∃ q, f = q + 1 := ⟨f - 1, by omega⟩
   have hil : i < l.length := by omega
   rw [law2_ints_l1, dec_lt hil, ift_true, at_nat hil, bnd_some', bnd_some', show (l[i] != l[i]) = false by simp, ift_false, wrap_succ hil hl]
   exact ih f (i + 1) (by omega) (by omega)
 exact go l.length BIG 0 (by omega) (by rw [big_val]; omega)

theorem law_packs (w n : Int) (l b : List Int) (hl : l.length ≤ 10000000) (hb : byts b) (hbl : b.length < 1000000000) : law2_ColumnPacksMatchSpec w n l b = some true := by
 obtain ⟨r, p1, p2⟩ := packs_all w l hl
 obtain ⟨u, u1, u2, hul⟩ := unpacks w n b hb
 unfold law2_ColumnPacksMatchSpec law2_ColumnPacksMatchSpec_j1
 have hp : law2_packs = some true := by
  obtain ⟨q, q1, q2⟩ := packs_all 2 [1, 2, 3] (by simp)
  have e : column_Pack 2 [1, 2, 3] = some ([57], 0) := by
   unfold column_Pack column_Pack_j1
   rw [show decide ((2 : Int) < 0) = false from rfl, show decide ((62 : Int) < 2) = false from rfl, ift_false, ift_false]
   have hc : slices_ContainsFunc_int_int_of_column_Pack_1 [1, 2, 3] (2 : Int) = some false := contains_eq (w := 2) (by decide) (l := [1, 2, 3]) (by decide)
   rw [hc, bnd_some', ift_false]
   have hF : Fits 2 [1, 2, 3] := ⟨by decide, by decide, by decide⟩
   obtain ⟨out, o1, o2⟩ := vpack hF
   have hI : Inv (srcL 2 [1, 2, 3]) (([1, 2, 3].length * 2 + 7) / 8) [57] ([1, 2, 3].length * 2) := ⟨by decide, fun e he => by simp at he; omega, by decide⟩
   have := inv_same o2 hI
   subst this
   have o1' : column_pack 2 [1, 2, 3] = some [57] := o1
   rw [o1']; rfl
  unfold law2_packs law2_packs_j1
  rw [e, bnd_some']
  unfold bytes_Equal
  simp only [beq_self_eq_true, ift_true, bnd_some']
 rw [p1, bnd_some', p2, bnd_some', u1, bnd_some', u2, bnd_some', hp, bnd_some']
 simp only [beq_self_eq_true, ift_true]
 unfold bytes_Equal
 simp only [beq_self_eq_true, ift_true, bnd_some']
 rw [ints_refl _ hul, bnd_some']

end Go.Proofs.Ytdbfodeghijdlaa
