/- The calendar, in plain integers. The Hilbert curve, bit by bit: a point is a table of bits (axis, level). The Hilbert curve: what the program's loops do to the bits. unhilbert. Uncurve of the Hilbert curve, in bits. Neighbours on the Hilbert curve. The reference's Uncurve gives some point wherever the arguments are right. The reference's Uncurve is total. The curves, bit by bit: hilbert and unhilbert undo each other, and keep prefixes. Curve of the program and of the reference, in bits. Curve: the position's bits; both programs alike, with all errors. Uncurve: the program's and the reference's. Curve and Uncurve are as specified, and lead to each other. -/
import Derived.Test.YtbmkkmbgoenllaaGeA
namespace Go.SX.Cal
open Go
set_option linter.unusedVariables false

theorem w64 {x : Int} (h1 : -9223372036854775808 ≤ x) (h2 : x ≤ 9223372036854775807) : IntKind.i64.wrap x = x := by
 simp only [IntKind.wrap, IntKind.bits, IntKind.signed]
 simp only [Bool.true_and, decide_eq_true_eq, ge_iff_le]
 split <;> omega

/-! ### years of an era -/

def S (y : Int) : Int := 365 * y + y / 4 - y / 100
def F (r : Int) : Int := r - r / 1460 + r / 36524
def leap (y : Int) : Prop := y % 4 = 0 ∧ (y % 100 ≠ 0 ∨ y % 400 = 0)

instance (y : Int) : Decidable (leap y) := by unfold leap; infer_instance

/-! ### days -/

def E (y : Int) : Int := y / 400 * 146097 + S (y % 400) - 719468

end Go.SX.Cal
namespace Go.Hil

def bb (i c : Nat) (X : Nat → Nat → Bool) : Nat → Nat → Bool := fun j k =>
 if k < c then (if X i c = true then (if j = 0 then !X 0 k else X j k) else (if j = 0 then X i k else if j = i then X 0 k else X j k)) else X j k

def dB (c : Nat) : Nat → (Nat → Nat → Bool) → (Nat → Nat → Bool)
 | 0, X => X
 | k + 1, X => dB c k (bb k c X)

def aB (n : Nat) : Nat → (Nat → Nat → Bool) → (Nat → Nat → Bool)
 | 0, X => X
 | m + 1, X => dB (m + 1) n (aB n m X)

theorem bb_hi {i c : Nat} {X : Nat → Nat → Bool} {j k : Nat} (h : c ≤ k) : bb i c X j k = X j k := by
 unfold bb; rw [if_neg (by omega)]

theorem dB_hi {c : Nat} : ∀ {n : Nat} {X : Nat → Nat → Bool} {j k : Nat}, c ≤ k → dB c n X j k = X j k
 | 0, X, j, k, h => rfl
 | n + 1, X, j, k, h => by
  rw [dB, dB_hi h, bb_hi h]

theorem aB_hi {n : Nat} : ∀ {m : Nat} {X : Nat → Nat → Bool} {j k : Nat}, m ≤ k → aB n m X j k = X j k
 | 0, X, j, k, h => rfl
 | m + 1, X, j, k, h => by
  rw [aB, dB_hi h, aB_hi (by omega)]

structure Adj (b j : Nat) (U V : Nat → Nat → Bool) : Prop where
 oth : ∀ k l, k ≠ j → U k l = V k l
 hi : ∀ l, b < l → U j l = V j l
 ne : U j b = !V j b
 lo : ∀ l, l < b → U j l = !U j b ∧ V j l = !V j b

theorem Adj.lev {b j : Nat} {U V : Nat → Nat → Bool} (h : Adj b j U V) (i c : Nat) (hc : b < c) : U i c = V i c := by
 by_cases e : i = j
 ·subst e; exact h.hi c hc
 ·exact h.oth i c e

theorem Adj.bend {b j : Nat} {U V : Nat → Nat → Bool} (h : Adj b j U V) (i c : Nat) (hc : b < c) : ∃ j', Adj b j' (bb i c U) (bb i c V) := by
 have hr := h.lev i c hc
 cases hv : V i c with
 | true =>
  rw [hv] at hr
  refine ⟨j, ⟨fun k l hk => ?_, fun l hl => ?_, ?_, fun l hl => ?_⟩⟩
  ·unfold bb; rw [hr, hv]; simp only [if_true]
   split
   ·split
    ·rename_i e; rw [h.oth 0 l (by omega)]
    ·exact h.oth k l hk
   ·exact h.oth k l hk
  ·unfold bb; rw [hr, hv]; simp only [if_true]
   split
   ·split
    ·rename_i e; subst e; rw [h.hi l hl]
    ·exact h.hi l hl
   ·exact h.hi l hl
  ·unfold bb; rw [hr, hv]; simp only [if_true, if_pos hc]
   split
   ·rename_i e; subst e; rw [h.ne]
   ·exact h.ne
  ·unfold bb; rw [hr, hv]; simp only [if_true, if_pos hc, if_pos (show l < c by omega)]
   obtain ⟨h1, h2⟩ := h.lo l hl
   split
   ·rename_i e; subst e; rw [h1, h2]; simp
   ·exact ⟨h1, h2⟩
 | false =>
  rw [hv] at hr
  have tr : ∀ k l, l < c → bb i c U k l = U (if k = 0 then i else if k = i then 0 else k) l ∧ bb i c V k l = V (if k = 0 then i else if k = i then 0 else k) l := by
   intro k l hl
   unfold bb; rw [hr, hv]; simp only [Bool.false_eq_true, if_false, if_pos hl]
   constructor <;> (split <;> (try split) <;> rfl)
  have th : ∀ k l, ¬ l < c → bb i c U k l = U k l ∧ bb i c V k l = V k l := by
   intro k l hl
   unfold bb; rw [if_neg hl, if_neg hl]; exact ⟨rfl, rfl⟩
  -- the axis moves
  refine ⟨if j = 0 then i else if j = i then 0 else j, ⟨fun k l hk => ?_, fun l hl => ?_, ?_, fun l hl => ?_⟩⟩
  ·by_cases hl : l < c
   ·obtain ⟨e1, e2⟩ := tr k l hl
    rw [e1, e2]
    refine h.oth _ l ?_
    intro e
    apply hk
    by_cases k0 : k = 0
    ·rw [if_pos k0] at e
     by_cases j0 : j = 0
     ·rw [if_pos j0]; omega
     ·rw [if_neg j0, if_pos e.symm]; exact k0
    ·rw [if_neg k0] at e
     by_cases ki : k = i
     ·rw [if_pos ki] at e; rw [if_pos e.symm]; exact ki
     ·rw [if_neg ki] at e
      rw [if_neg (by omega), if_neg (by omega)]; exact e
   ·obtain ⟨e1, e2⟩ := th k l hl
    rw [e1, e2]
    exact h.lev k l (by omega)
  all_goals
   have back : (if (if j = 0 then i else if j = i then 0 else j) = 0 then i else if (if j = 0 then i else if j = i then 0 else j) = i then 0 else (if j = 0 then i else if j = i then 0 else j)) = j := by
    by_cases j0 : j = 0
    ·rw [if_pos j0]
     by_cases i0 : i = 0
     ·rw [if_pos i0]; omega
     ·rw [if_neg i0, if_pos rfl]; omega
    ·rw [if_neg j0]
     by_cases ji : j = i
     ·rw [if_pos ji, if_pos rfl]; omega
     ·rw [if_neg ji, if_neg j0, if_neg ji]
  ·by_cases hl2 : l < c
   ·obtain ⟨e1, e2⟩ := tr (if j = 0 then i else if j = i then 0 else j) l hl2
    rw [e1, e2, back]; exact h.hi l hl
   ·obtain ⟨e1, e2⟩ := th (if j = 0 then i else if j = i then 0 else j) l hl2
    rw [e1, e2]; exact h.lev _ l hl
  ·obtain ⟨e1, e2⟩ := tr (if j = 0 then i else if j = i then 0 else j) b hc
   rw [e1, e2, back]; exact h.ne
  ·obtain ⟨e1, e2⟩ := tr (if j = 0 then i else if j = i then 0 else j) b hc
   obtain ⟨f1, f2⟩ := tr (if j = 0 then i else if j = i then 0 else j) l (by omega)
   rw [e1, e2, f1, f2, back]; exact h.lo l hl

theorem Adj.bends {b : Nat} (c : Nat) (hc : b < c) : ∀ (n j : Nat) {U V : Nat → Nat → Bool}, Adj b j U V → ∃ j', Adj b j' (dB c n U) (dB c n V)
 | 0, j, U, V, h => ⟨j, h⟩
 | n + 1, j, U, V, h => by
  obtain ⟨j', h'⟩ := h.bend n c hc
  exact Adj.bends c hc n j' h'

theorem Adj.same {b j : Nat} : ∀ (n : Nat) {U V : Nat → Nat → Bool}, n ≤ j → Adj b j U V → Adj b j (dB b n U) (dB b n V)
 | 0, U, V, _, h => h
 | n + 1, U, V, hn, h => by
  refine Adj.same n (by omega) ?_
  have hr := h.oth n b (by omega)
  have keep : ∀ (X : Nat → Nat → Bool) l, bb n b X j l = X j l := by
   intro X l
   unfold bb
   split
   ·split
    ·rw [if_neg (by omega)]
    ·rw [if_neg (by omega), if_neg (by omega)]
   ·rfl
  refine ⟨fun k l hk => ?_, fun l hl => ?_, ?_, fun l hl => ?_⟩
  ·unfold bb; rw [hr, h.oth k l hk, h.oth 0 l (by omega), h.oth n l (by omega)]
  ·rw [keep, keep]; exact h.hi l hl
  ·rw [keep, keep]; exact h.ne
  ·rw [keep, keep, keep, keep]; exact h.lo l hl

theorem Adj.up {b n : Nat} {U V : Nat → Nat → Bool} : ∀ (d : Nat) {j : Nat}, Adj b j (aB n b U) (aB n b V) → ∃ j', Adj b j' (aB n (b + d) U) (aB n (b + d) V)
 | 0, j, h => ⟨j, h⟩
 | d + 1, j, h => by
  obtain ⟨j', h'⟩ := Adj.up d h
  exact h'.bends (b + d + 1) (by omega) n j'

end Go.Hil
namespace Go.Proofs.Ytbmkkmbgoenllaa
open Go Go.SX Go.SX.Cal Go.Hil
set_option linter.unusedVariables false
set_option linter.unusedSimpArgs false

theorem ift_true {β : Type} (x y : Option β) : ift true x y = x := rfl
theorem ift_false {β : Type} (x y : Option β) : ift false x y = y := rfl
theorem bnd_some' {α β : Type} (a : α) (f : α → Option β) : bnd (some a) f = f a := rfl
theorem grd_pos {β : Type} {p : Prop} [Decidable p] {x : Option β} (h : p) : grd p x = x := if_pos h
theorem big_val : BIG = 1152921504606846976 := rfl

def cs (l : List Nat) : List Int := l.map fun (x : Nat) => (x : Int)
theorem cs_len (l : List Nat) : (cs l).length = l.length := by unfold cs; simp
theorem cs_at {l : List Nat} {i : Nat} (h : i < l.length) : at? (cs l) (i : Int) = some ((l.getD i 0 : Nat) : Int) := by
 unfold at? cs
 simp [h, List.getD]
theorem cs_set (l : List Nat) (i v : Nat) : (cs l).set i (v : Int) = cs (l.set i v) := by unfold cs; rw [List.map_set]
theorem getD_set {l : List Nat} {i j v : Nat} (h : i < l.length) : (l.set i v).getD j 0 = if j = i then v else l.getD j 0 := by
 simp only [List.getD, List.getElem?_set]
 by_cases e : i = j
 ·subst e; simp [h]
 ·rw [if_neg e, if_neg (Ne.symm e)]

def sm (l : List Nat) : Prop := ∀ j, l.getD j 0 < 32768

def B (l : List Nat) (j k : Nat) : Bool := (l.getD j 0).testBit k

theorem B_set {l : List Nat} {i v : Nat} (h : i < l.length) (j k : Nat) : B (l.set i v) j k = if j = i then v.testBit k else B l j k := by
 unfold B; rw [getD_set h]; split <;> rfl

theorem sm_set {l : List Nat} {i v : Nat} (h : i < l.length) (hs : sm l) (hv : v < 32768) : sm (l.set i v) := fun j => by
 rw [getD_set h]; split
 ·exact hv
 ·exact hs j

theorem ofI (x : Nat) (h : x < 18446744073709551616) : (BitVec.ofInt 64 (x : Int)).toNat = x := by
 rw [BitVec.toNat_ofInt]; omega

theorem xor64 (a b : Nat) (ha : a < 1152921504606846976) (hb : b < 1152921504606846976) : IntKind.i64.wrap ((BitVec.ofInt (IntKind.i64).bits (a : Int) ^^^ BitVec.ofInt (IntKind.i64).bits (b : Int)).toNat : Int) = ((a ^^^ b : Nat) : Int) := by
 show IntKind.i64.wrap ((BitVec.ofInt 64 (a : Int) ^^^ BitVec.ofInt 64 (b : Int)).toNat : Int) = _
 rw [BitVec.toNat_xor, ofI a (by omega), ofI b (by omega)]
 have : a ^^^ b < 2 ^ 60 := Nat.xor_lt_two_pow (by omega) (by omega)
 rw [w64 (by omega) (by omega)]

theorem and64 (a b : Nat) (ha : a < 1152921504606846976) (hb : b < 1152921504606846976) : IntKind.i64.wrap ((BitVec.ofInt (IntKind.i64).bits (a : Int) &&& BitVec.ofInt (IntKind.i64).bits (b : Int)).toNat : Int) = ((a &&& b : Nat) : Int) := by
 show IntKind.i64.wrap ((BitVec.ofInt 64 (a : Int) &&& BitVec.ofInt 64 (b : Int)).toNat : Int) = _
 rw [BitVec.toNat_and, ofI a (by omega), ofI b (by omega)]
 have : a &&& b ≤ a := Nat.and_le_left
 rw [w64 (by omega) (by omega)]

theorem or64 (a b : Nat) (ha : a < 1152921504606846976) (hb : b < 1152921504606846976) : IntKind.i64.wrap ((BitVec.ofInt (IntKind.i64).bits (a : Int) ||| BitVec.ofInt (IntKind.i64).bits (b : Int)).toNat : Int) = ((a ||| b : Nat) : Int) := by
 show IntKind.i64.wrap ((BitVec.ofInt 64 (a : Int) ||| BitVec.ofInt 64 (b : Int)).toNat : Int) = _
 rw [BitVec.toNat_or, ofI a (by omega), ofI b (by omega)]
 have : a ||| b < 2 ^ 60 := Nat.or_lt_two_pow (by omega) (by omega)
 rw [w64 (by omega) (by omega)]

theorem pow_small {c : Nat} (hc : c ≤ 14) : 2 ^ c ≤ 16384 ∧ 1 ≤ 2 ^ c := ⟨Nat.le_trans (Nat.pow_le_pow_right (by decide) hc) (by decide), Nat.one_le_two_pow⟩

theorem xor_sm {a b : Nat} (ha : a < 32768) (hb : b < 32768) : a ^^^ b < 32768 := by
 have : a ^^^ b < 2 ^ 15 := Nat.xor_lt_two_pow (by omega) (by omega)
 omega

theorem mask_bit (c k : Nat) : (2 ^ c - 1).testBit k = decide (k < c) := Nat.testBit_two_pow_sub_one c k

theorem and_bit (a c : Nat) : (((a &&& 2 ^ c : Nat) : Int) != 0) = a.testBit c := by
 cases h : a.testBit c
 ·have e : a &&& 2 ^ c = 0 := by
   refine Nat.eq_of_testBit_eq (fun k => ?_)
   rw [Nat.testBit_and, Nat.testBit_two_pow, Nat.zero_testBit]
   by_cases hk : c = k
   ·subst hk; rw [h]; rfl
   ·simp [hk]
  rw [e]; rfl
 ·have e : a &&& 2 ^ c ≠ 0 := fun e => by
   have := congrArg (fun x => x.testBit c) e
   simp only [Nat.testBit_and, Nat.testBit_two_pow, h, Nat.zero_testBit] at this
   simp at this
  rw [bne_iff_ne]
  omega

theorem mask_int {c : Nat} (hc : c ≤ 14) : IntKind.i64.wrap (((2 ^ c : Nat) : Int) - 1) = ((2 ^ c - 1 : Nat) : Int) := by
 have := pow_small hc
 rw [w64 (by omega) (by omega)]
 omega

theorem bend_eq {l : List Nat} {i c : Nat} (hs : sm l) (hi : i < l.length) (hc : c ≤ 14) : ∃ l', lake_bend_s (i : Int) ((2 ^ c : Nat) : Int) (cs l) = some ((), cs l') ∧ l'.length = l.length ∧ sm l' ∧ B l' = bb i c (B l) := by
 have h0 : 0 < l.length := by omega
 have hp := pow_small hc
 have z : (0 : Int) = ((0 : Nat) : Int) := rfl
 have s0 := hs 0
 have si := hs i
 unfold lake_bend_s
 rw [cs_at hi, bnd_some', and64 _ _ (by omega) (by omega), bnd_some', and_bit, mask_int hc]
 cases hb : (l.getD i 0).testBit c with
 | true =>
  rw [ift_true, z, cs_at h0, bnd_some', xor64 _ _ (by omega) (by omega), bnd_some', Int.toNat_natCast, cs_set]
  refine ⟨_, rfl, by simp, sm_set h0 hs (xor_sm s0 (by omega)), ?_⟩
  funext j k
  rw [B_set h0, Nat.testBit_xor, mask_bit]
  unfold bb B
  rw [hb]
  by_cases hk : k < c
  ·by_cases j0 : j = 0 <;> simp [hk, j0]
  ·by_cases j0 : j = 0 <;> simp [hk, j0]
 | false =>
  rw [ift_false, z, cs_at h0, bnd_some', xor64 _ _ (by omega) (by omega), bnd_some']
  have t1 := xor_sm s0 si
  rw [and64 _ _ (by omega) (by omega), bnd_some']
  have t2 : (l.getD 0 0 ^^^ l.getD i 0) &&& (2 ^ c - 1) < 32768 := Nat.lt_of_le_of_lt Nat.and_le_left t1
  generalize ht : (l.getD 0 0 ^^^ l.getD i 0) &&& (2 ^ c - 1) = t at *
  have t3 := xor_sm s0 t2
  have h1 : sm (l.set 0 (l.getD 0 0 ^^^ t)) := sm_set h0 hs t3
  have hi1 : i < (l.set 0 (l.getD 0 0 ^^^ t)).length := by rw [List.length_set]; exact hi
  rw [xor64 _ _ (by omega) (by omega), bnd_some', Int.toNat_natCast, cs_set, cs_at hi1, bnd_some']
  have t4 := h1 i
  rw [xor64 _ _ (by omega) (by omega), bnd_some', Int.toNat_natCast, cs_set]
  refine ⟨_, rfl, by simp, sm_set hi1 h1 (xor_sm t4 t2), ?_⟩
  funext j k
  have tb : t.testBit k = ((B l 0 k ^^ B l i k) && decide (k < c)) := by
   rw [← ht, Nat.testBit_and, Nat.testBit_xor, mask_bit]; rfl
  rw [B_set hi1, Nat.testBit_xor, tb]
  have e1 : ((l.set 0 (l.getD 0 0 ^^^ t)).getD i 0).testBit k = if i = 0 then (B l 0 k ^^ ((B l 0 k ^^ B l i k) && decide (k < c))) else B l i k := by
   have := B_set (v := l.getD 0 0 ^^^ t) h0 i k
   rw [Nat.testBit_xor, tb] at this
   exact this
  have e2 : B (l.set 0 (l.getD 0 0 ^^^ t)) j k = if j = 0 then (B l 0 k ^^ ((B l 0 k ^^ B l i k) && decide (k < c))) else B l j k := by
   have := B_set (v := l.getD 0 0 ^^^ t) h0 j k
   rw [Nat.testBit_xor, tb] at this
   exact this
  rw [e1, e2]
  unfold bb
  rw [show B l i c = false from hb]
  simp only [Bool.false_eq_true, if_false]
  by_cases hk : k < c
  ·simp only [hk, decide_true, Bool.and_true, if_true]
   by_cases j0 : j = 0
   ·subst j0
    by_cases i0 : i = 0
    ·subst i0; cases B l 0 k <;> simp
    ·rw [if_neg (fun h => i0 h.symm)]; cases B l 0 k <;> cases B l i k <;> simp
   ·by_cases ji : j = i
    ·subst ji
     rw [if_pos rfl, if_neg j0, if_neg j0, if_pos rfl]
     cases B l 0 k <;> cases B l j k <;> rfl
    ·rw [if_neg ji, if_neg j0, if_neg j0, if_neg ji]
  ·simp only [hk, decide_false, Bool.and_false, if_false, Bool.xor_false]
   by_cases ji : j = i
   ·subst ji
    rw [if_pos rfl]
    by_cases j0 : j = 0
    ·subst j0; rw [if_pos rfl]
    ·rw [if_neg j0]
   ·rw [if_neg ji]
    by_cases j0 : j = 0
    ·subst j0; rw [if_pos rfl]
    ·rw [if_neg j0]

end Go.Proofs.Ytbmkkmbgoenllaa
namespace Go.Proofs.Ytbmkkmbgoenllaa
open Go Go.SX Go.SX.Cal Go.Hil
set_option linter.unusedVariables false
set_option linter.unusedSimpArgs false

theorem sh1 : (min (1 : Int).toNat (IntKind.i64).bits) = 1 := by decide

theorem down_eq (rec4 : List Int → Int → Option (List Int)) (c : Nat) (hc : c ≤ 14) : ∀ (k f : Nat) (l : List Nat), sm l → k ≤ l.length → k < f → l.length < 1000 →
  ∃ l', lake_unhilbert_l5 rec4 ((2 ^ c : Nat) : Int) f (cs l) ((k : Int) - 1) = lake_unhilbert_j5 rec4 ((2 ^ c : Nat) : Int) (cs l') ∧ l'.length = l.length ∧ sm l' ∧ B l' = dB c k (B l)
 | 0, f, l, hs, hk, hf, hl => by
  obtain ⟨f, rfl⟩ : ∃ q, f = q + 1 := ⟨f - 1, by omega⟩
  rw [lake_unhilbert_l5, show decide ((0 : Int) ≤ ((0 : Nat) : Int) - 1) = false from rfl, ift_false]
  exact ⟨l, rfl, rfl, hs, rfl⟩
 | k + 1, f, l, hs, hk, hf, hl => by
  obtain ⟨f, rfl⟩ : ∃ q, f = q + 1 := ⟨f - 1, by omega⟩
  obtain ⟨l1, e1, e2, e3, e4⟩ := bend_eq hs (show k < l.length by omega) hc
  obtain ⟨l2, d1, d2, d3, d4⟩ := down_eq rec4 c hc k f l1 e3 (by omega) (by omega) (by omega)
  refine ⟨l2, ?_, d2.trans e2, d3, ?_⟩
  ·rw [lake_unhilbert_l5, show (((k + 1 : Nat) : Int) - 1) = (k : Int) by omega, show decide ((0 : Int) ≤ (k : Int)) = true by simp, ift_true, e1, bnd_some', grd_pos (by show (cs l1).length = (cs l).length; rw [cs_len, cs_len, e2]), w64 (by omega) (by omega)]
   exact d1
  ·rw [d4, e4]; rfl

theorem up_eq (r1 : List Int) (M n : Nat) (hM : M ≤ 14) (hn : r1.length = n) (hn2 : n < 1000) (X : Nat → Nat → Bool) : ∀ (m c f : Nat) (l : List Nat), c + m = M → m + 1 < f → sm l → l.length = n → B l = aB n c X →
  ∃ l', lake_unhilbert_l4 r1 ((2 ^ M : Nat) : Int) f (cs l) ((2 ^ (c + 1) : Nat) : Int) = some (cs l') ∧ l'.length = n ∧ sm l' ∧ B l' = aB n M X
 | 0, c, f, l, hc, hf, hs, hl, hB => by
  obtain ⟨f, rfl⟩ : ∃ q, f = q + 1 := ⟨f - 1, by omega⟩
  have : c = M := by omega
  subst this
  have h2 : 2 ^ c < 2 ^ (c + 1) := Nat.pow_lt_pow_right (by decide) (by omega)
  rw [lake_unhilbert_l4, show decide (((2 ^ (c + 1) : Nat) : Int) ≤ ((2 ^ c : Nat) : Int)) = false by rw [decide_eq_false_iff_not]; omega, ift_false]
  exact ⟨l, rfl, hl, hs, hB⟩
 | m + 1, c, f, l, hc, hf, hs, hl, hB => by
  obtain ⟨f, rfl⟩ : ∃ q, f = q + 1 := ⟨f - 1, by omega⟩
  have h2 : 2 ^ (c + 1) ≤ 2 ^ M := Nat.pow_le_pow_right (by decide) (by omega)
  have hp := pow_small (c := c + 1) (by omega)
  obtain ⟨l1, d1, d2, d3, d4⟩ := down_eq (lake_unhilbert_l4 r1 ((2 ^ M : Nat) : Int) f) (c + 1) (by omega) n BIG l hs (by omega) (by rw [big_val]; omega) (by omega)
  obtain ⟨l2, u1, u2, u3, u4⟩ := up_eq r1 M n hM hn hn2 X m (c + 1) f l1 (by omega) (by omega) d3 (by omega) (by rw [d4, hB]; rfl)
  refine ⟨l2, ?_, u2, u3, u4⟩
  rw [lake_unhilbert_l4, show decide (((2 ^ (c + 1) : Nat) : Int) ≤ ((2 ^ M : Nat) : Int)) = true by rw [decide_eq_true_eq]; omega, ift_true, hn, w64 (by omega) (by omega), d1]
  unfold lake_unhilbert_j5
  rw [sh1, w64 (by omega) (by omega), bnd_some', show (((2 ^ (c + 1) : Nat) : Int) * 2 ^ 1) = ((2 ^ (c + 1 + 1) : Nat) : Int) by rw [Nat.pow_succ 2 (c + 1)]; omega]
  exact u1

theorem gray_eq (r1 : List Int) (y1 : Int) : ∀ (k f : Nat) (l : List Nat), sm l → k < l.length → k < f → l.length < 1000 →
  ∃ l', lake_unhilbert_l3 r1 y1 f (cs l) (k : Int) = lake_unhilbert_j4 r1 y1 (cs l') ∧ l'.length = l.length ∧ sm l' ∧ ∀ j b, B l' j b = if 1 ≤ j ∧ j ≤ k then (B l j b ^^ B l (j - 1) b) else B l j b
 | 0, f, l, hs, hk, hf, hl => by
  obtain ⟨f, rfl⟩ : ∃ q, f = q + 1 := ⟨f - 1, by omega⟩
  rw [lake_unhilbert_l3, show decide ((0 : Int) < ((0 : Nat) : Int)) = false from rfl, ift_false]
  exact ⟨l, rfl, rfl, hs, fun j b => by rw [if_neg (by omega)]⟩
 | k + 1, f, l, hs, hk, hf, hl => by
  obtain ⟨f, rfl⟩ : ∃ q, f = q + 1 := ⟨f - 1, by omega⟩
  have s1 := hs (k + 1)
  have s2 := hs k
  obtain ⟨l2, d1, d2, d3, d4⟩ := gray_eq r1 y1 k f (l.set (k + 1) (l.getD (k + 1) 0 ^^^ l.getD k 0)) (sm_set hk hs (xor_sm s1 s2)) (by simp; omega) (by omega) (by simp; omega)
  refine ⟨l2, ?_, by rw [d2]; simp, d3, fun j b => ?_⟩
  ·rw [lake_unhilbert_l3, show decide ((0 : Int) < ((k + 1 : Nat) : Int)) = true by rw [decide_eq_true_eq]; omega, ift_true, cs_at hk, bnd_some', show IntKind.i64.wrap (((k + 1 : Nat) : Int) - 1) = (k : Int) by rw [w64 (by omega) (by omega)]; omega,
    cs_at (by omega), bnd_some', xor64 _ _ (by omega) (by omega), bnd_some', Int.toNat_natCast, cs_set]
   exact d1
  ·rw [d4, B_set hk, B_set hk, Nat.testBit_xor]
   by_cases h1 : 1 ≤ j ∧ j ≤ k
   ·rw [if_pos h1, if_neg (by omega), if_neg (by omega), if_pos (by omega)]
   ·rw [if_neg h1]
    by_cases h2 : j = k + 1
    ·subst h2; rw [if_pos rfl, if_pos (by omega)]; rfl
    ·rw [if_neg h2, if_neg (by omega)]

theorem all_eq (r1 : List Int) (y1 : Int) (t : Nat) (ht : t < 32768) (n : Nat) (hn : r1.length = n) (hn2 : n < 1000) : ∀ (m f i : Nat) (l : List Nat), i + m = n → m < f → sm l → l.length = n →
  ∃ l', lake_unhilbert_l2 r1 y1 (t : Int) f (cs l) (i : Int) = lake_unhilbert_j3 r1 y1 (cs l') ∧ l'.length = n ∧ sm l' ∧ ∀ j b, B l' j b = if i ≤ j ∧ j < n then (B l j b ^^ t.testBit b) else B l j b
 | 0, f, i, l, hi, hf, hs, hl => by
  obtain ⟨f, rfl⟩ : ∃ q, f = q + 1 := ⟨f - 1, by omega⟩
  rw [lake_unhilbert_l2, hn, show decide ((i : Int) < (n : Int)) = false by simp; omega, ift_false]
  exact ⟨l, rfl, hl, hs, fun j b => by rw [if_neg (by omega)]⟩
 | m + 1, f, i, l, hi, hf, hs, hl => by
  obtain ⟨f, rfl⟩ : ∃ q, f = q + 1 := ⟨f - 1, by omega⟩
  have s1 := hs i
  have hil : i < l.length := by omega
  obtain ⟨l2, d1, d2, d3, d4⟩ := all_eq r1 y1 t ht n hn hn2 m f (i + 1) (l.set i (l.getD i 0 ^^^ t)) (by omega) (by omega) (sm_set hil hs (xor_sm s1 ht)) (by simp; omega)
  refine ⟨l2, ?_, d2, d3, fun j b => ?_⟩
  ·rw [lake_unhilbert_l2, hn, show decide ((i : Int) < (n : Int)) = true by simp; omega, ift_true, cs_at hil, bnd_some', xor64 _ _ (by omega) (by omega), bnd_some', Int.toNat_natCast, cs_set, show IntKind.i64.wrap ((i : Int) + 1) = ((i + 1 : Nat) : Int) by rw [w64 (by omega) (by omega)]; omega]
   exact d1
  ·rw [d4, B_set hil, Nat.testBit_xor]
   by_cases h1 : i + 1 ≤ j ∧ j < n
   ·rw [if_pos h1, if_neg (by omega), if_pos (by omega)]
   ·rw [if_neg h1]
    by_cases h2 : j = i
    ·subst h2; rw [if_pos rfl, if_pos (by omega)]; rfl
    ·rw [if_neg h2, if_neg (by omega)]

theorem turn_eq (r1 : List Int) (y1 : Int) (a : Nat) (ha : a < 32768) : ∀ (c f t : Nat), c ≤ 14 → c < f → t < 32768 → (∀ k, t.testBit k = if c ≤ k then a.testBit (k + 1) else a.testBit (c + 1)) →
  lake_unhilbert_l1 r1 y1 (a : Int) f (t : Int) ((2 ^ c : Nat) : Int) = lake_unhilbert_j2 r1 y1 ((a / 2 : Nat) : Int)
 | 0, f, t, hc, hf, ht, h => by
  obtain ⟨f, rfl⟩ : ∃ q, f = q + 1 := ⟨f - 1, by omega⟩
  have e : t = a / 2 := Nat.eq_of_testBit_eq (fun k => by rw [h k, if_pos (Nat.zero_le _), Nat.testBit_succ])
  rw [lake_unhilbert_l1, show decide ((1 : Int) < ((2 ^ 0 : Nat) : Int)) = false from rfl, ift_false, e]
 | c + 1, f, t, hc, hf, ht, h => by
  obtain ⟨f, rfl⟩ : ∃ q, f = q + 1 := ⟨f - 1, by omega⟩
  have hp := pow_small (c := c) (by omega)
  have hq := pow_small (c := c + 1) hc
  have h2 : 2 ^ (c + 1) = 2 * 2 ^ c := by rw [Nat.pow_succ]; omega
  have hx := xor_sm ha ht
  have fd : (((2 ^ (c + 1) : Nat) : Int).fdiv (2 ^ (min (1 : Int).toNat (IntKind.i64).bits))) = ((2 ^ c : Nat) : Int) := by
   rw [sh1, h2, Int.fdiv_eq_ediv_of_nonneg _ (by decide)]
   omega
  rw [lake_unhilbert_l1, show decide ((1 : Int) < ((2 ^ (c + 1) : Nat) : Int)) = true by rw [decide_eq_true_eq]; omega, ift_true, xor64 _ _ (by omega) (by omega), bnd_some', and64 _ _ (by omega) (by omega), bnd_some', and_bit, Nat.testBit_xor]
  have hc1 := h (c + 1)
  rw [if_pos (Nat.le_refl _)] at hc1
  rw [hc1]
  cases hb : (a.testBit (c + 1) ^^ a.testBit (c + 1 + 1)) with
  | true =>
   rw [ift_true, mask_int hc, xor64 _ _ (by omega) (by omega), bnd_some']
   unfold lake_unhilbert_j1
   rw [fd]
   refine turn_eq r1 y1 a ha c f _ (by omega) (by omega) (xor_sm ht (by omega)) (fun k => ?_)
   rw [Nat.testBit_xor, mask_bit, h k]
   by_cases h1 : c + 1 ≤ k
   ·rw [if_pos h1, if_pos (by omega), decide_eq_false (by omega), Bool.xor_false]
   ·rw [if_neg h1, decide_eq_true (by omega)]
    have e : (a.testBit (c + 1 + 1) ^^ true) = a.testBit (c + 1) := by revert hb; cases a.testBit (c + 1) <;> cases a.testBit (c + 1 + 1) <;> simp
    rw [e]
    by_cases h3 : c ≤ k
    ·rw [if_pos h3, show k = c by omega]
    ·rw [if_neg h3]
  | false =>
   rw [ift_false]
   unfold lake_unhilbert_j1
   rw [fd]
   refine turn_eq r1 y1 a ha c f _ (by omega) (by omega) ht (fun k => ?_)
   rw [h k]
   have e : a.testBit (c + 1 + 1) = a.testBit (c + 1) := by revert hb; cases a.testBit (c + 1) <;> cases a.testBit (c + 1 + 1) <;> simp
   by_cases h1 : c + 1 ≤ k
   ·rw [if_pos h1, if_pos (by omega)]
   ·rw [if_neg h1, e]
    by_cases h3 : c ≤ k
    ·rw [if_pos h3, show k = c by omega]
    ·rw [if_neg h3]

theorem unhilbert_eq {l : List Nat} {M n : Nat} (hM : M ≤ 14) (hn : l.length = n) (h0 : 0 < n) (hn2 : n < 1000) (hs : ∀ j, l.getD j 0 < 2 ^ (M + 1)) :
  ∃ l', lake_unhilbert ((M + 1 : Nat) : Int) (cs l) = some (cs l') ∧ l'.length = n ∧ sm l' ∧ B l' = aB n M (fun j b => if j = 0 then (B l 0 b ^^ B l (n - 1) (b + 1)) else if j < n then (B l j b ^^ B l (j - 1) b) else B l j b) := by
 have hp : 2 ^ (M + 1) ≤ 32768 := Nat.le_trans (Nat.pow_le_pow_right (by decide) (show M + 1 ≤ 15 by omega)) (by decide)
 have hpm := pow_small hM
 have hsm : sm l := fun j => by have := hs j; omega
 have ha := hs (n - 1)
 have hcl := cs_len l
 obtain ⟨l1, a1, a2, a3, a4⟩ := all_eq (cs l) ((2 ^ M : Nat) : Int) (l.getD (n - 1) 0 / 2) (by omega) n (by omega) hn2 n BIG 0 l (by omega) (by rw [big_val]; omega) hsm hn
 obtain ⟨l2, b1, b2, b3, b4⟩ := gray_eq (cs l) ((2 ^ M : Nat) : Int) (n - 1) BIG l1 a3 (by omega) (by rw [big_val]; omega) (by omega)
 obtain ⟨l3, c1, c2, c3, c4⟩ := up_eq (cs l) M n hM (by omega) hn2 (B l2) M 0 BIG l2 (by omega) (by rw [big_val]; omega) b3 (by omega) rfl
 refine ⟨l3, ?_, c2, c3, ?_⟩
 ·unfold lake_unhilbert slices_Clone_int_int
  have hne : cs l ≠ [] := fun e => by have := congrArg List.length e; simp only [List.length_nil] at this; omega
  rw [grd_pos hne, grd_pos (by simp; omega), bnd_some', List.nil_append, w64 (by omega) (by omega), grd_pos (by omega), show ((M + 1 : Nat) : Int) - 1 = (M : Int) by omega, Int.toNat_natCast,
   show min M (IntKind.i64).bits = M from Nat.min_eq_left (by show M ≤ 64; omega), show ((1 : Int) * 2 ^ M) = ((2 ^ M : Nat) : Int) by rw [Int.one_mul]; push_cast; rfl, w64 (by omega) (by omega), bnd_some',
   hcl, hn, w64 (by omega) (by omega), show ((n : Int) - 1) = ((n - 1 : Nat) : Int) by omega, cs_at (by omega), bnd_some']
  have t := turn_eq (cs l) ((2 ^ M : Nat) : Int) (l.getD (n - 1) 0) (by omega) M BIG 0 hM (by rw [big_val]; omega) (by decide) (fun k => by
   rw [Nat.zero_testBit]
   have z : ∀ q, M + 1 ≤ q → (l.getD (n - 1) 0).testBit q = false := fun q hq => Nat.testBit_lt_two_pow (Nat.lt_of_lt_of_le ha (Nat.pow_le_pow_right (by decide) hq))
   by_cases hk : M ≤ k
   ·rw [if_pos hk, z _ (by omega)]
   ·rw [if_neg hk, z _ (by omega)])
  refine t.trans ?_
  unfold lake_unhilbert_j2
  refine a1.trans ?_
  unfold lake_unhilbert_j3
  rw [hcl, hn, w64 (by omega) (by omega), show ((n : Int) - 1) = ((n - 1 : Nat) : Int) by omega, b1]
  unfold lake_unhilbert_j4
  exact c1
 ·rw [c4]
  congr 1
  funext j b
  rw [b4, a4, a4]
  have tb : (l.getD (n - 1) 0 / 2).testBit b = B l (n - 1) (b + 1) := by unfold B; rw [Nat.testBit_succ]
  rw [tb]
  by_cases j0 : j = 0
  ·subst j0
   rw [if_neg (by omega), if_pos (by omega), if_pos rfl]
  ·rw [if_neg j0]
   by_cases hj : j < n
   ·rw [if_pos (by omega), if_pos (by omega), if_pos (by omega), if_pos hj]
    cases B l j b <;> cases B l (j - 1) b <;> cases B l (n - 1) (b + 1) <;> rfl
   ·rw [if_neg (by omega), if_neg (by omega), if_neg hj]

end Go.Proofs.Ytbmkkmbgoenllaa
namespace Go.Proofs.Ytbmkkmbgoenllaa
open Go Go.SX Go.SX.Cal Go.Hil
set_option linter.unusedVariables false
set_option linter.unusedSimpArgs false

theorem idx_iff {n j k x : Nat} (hn : 1 ≤ n ∧ n ≤ 4) (hj : j < n) : k * n + (n - 1 - j) = x ↔ (j = n - 1 - x % n ∧ k = x / n) := by
 obtain ⟨h1, h2⟩ := hn
 have : n = 1 ∨ n = 2 ∨ n = 3 ∨ n = 4 := by omega
 rcases this with rfl | rfl | rfl | rfl <;> omega

theorem bit_one (p x : Nat) : (p / 2 ^ x) &&& 1 = if p.testBit x = true then 1 else 0 := by
 rw [Nat.and_one_is_mod, Nat.testBit_eq_decide_div_mod_eq]
 by_cases h : p / 2 ^ x % 2 = 1
 ·rw [h]; simp
 ·rw [if_neg (by simpa using h)]; omega

theorem and64_1 (a : Nat) (ha : a < 1152921504606846976) : IntKind.i64.wrap ((BitVec.ofInt (IntKind.i64).bits (a : Int) &&& BitVec.ofInt (IntKind.i64).bits (1 : Int)).toNat : Int) = ((a &&& 1 : Nat) : Int) := and64 a 1 ha (by decide)

theorem unwoven_eq {bits n p : Nat} (hb : 1 ≤ bits ∧ bits ≤ 15) (hn : 1 ≤ n ∧ n ≤ 4) (hp : p < 1152921504606846976) : ∀ (m f x : Nat) (l : List Nat), x + m = bits * n → m < f → sm l → l.length = n →
  ∃ l', lake_unwoven_l1 (bits : Int) (n : Int) (p : Int) f (cs l) (x : Int) = some (cs l') ∧ l'.length = n ∧ sm l' ∧
   ∀ j k, B l' j k = (B l j k || (decide (j < n ∧ x ≤ k * n + (n - 1 - j) ∧ k * n + (n - 1 - j) < bits * n) && p.testBit (k * n + (n - 1 - j)))) := by
 have hbn : bits * n ≤ 60 := by
  have := Nat.mul_le_mul hb.2 hn.2
  omega
 have hw : IntKind.i64.wrap ((bits : Int) * (n : Int)) = ((bits * n : Nat) : Int) := by
  rw [show ((bits : Int) * (n : Int)) = ((bits * n : Nat) : Int) by push_cast; rfl, w64 (by omega) (by omega)]
 intro m
 induction m with
 | zero =>
  intro f x l hx hf hs hl
  obtain ⟨f, rfl⟩ : ∃ q, f = q + 1 := ⟨f - 1, by omega⟩
  rw [lake_unwoven_l1, hw, show decide ((x : Int) < ((bits * n : Nat) : Int)) = false by rw [decide_eq_false_iff_not]; omega, ift_false]
  exact ⟨l, rfl, hl, hs, fun j k => by rw [decide_eq_false (by omega)]; simp⟩
 | succ m ih =>
  intro f x l hx hf hs hl
  obtain ⟨f, rfl⟩ : ∃ q, f = q + 1 := ⟨f - 1, by omega⟩
  have hmod : x % n < n := Nat.mod_lt _ (by omega)
  have hdiv : x / n ≤ 14 := by
   have : x / n < bits := Nat.div_lt_of_lt_mul (by rw [Nat.mul_comm]; omega)
   omega
  have hi : n - 1 - x % n < l.length := by omega
  have hpd : p / 2 ^ x ≤ p := Nat.div_le_self _ _
  have s1 := hs (n - 1 - x % n)
  have hpw := pow_small hdiv
  have hv : (if p.testBit x = true then 2 ^ (x / n) else 0) < 32768 := by split <;> omega
  have hor : l.getD (n - 1 - x % n) 0 ||| (if p.testBit x = true then 2 ^ (x / n) else 0) < 32768 := by
   have : l.getD (n - 1 - x % n) 0 ||| (if p.testBit x = true then 2 ^ (x / n) else 0) < 2 ^ 15 := Nat.or_lt_two_pow (by omega) (by omega)
   omega
  obtain ⟨l', d1, d2, d3, d4⟩ := ih f (x + 1) (l.set (n - 1 - x % n) (l.getD (n - 1 - x % n) 0 ||| (if p.testBit x = true then 2 ^ (x / n) else 0))) (by omega) (by omega) (sm_set hi hs hor) (by simp; omega)
  refine ⟨l', ?_, d2, d3, fun j k => ?_⟩
  ·have q0 : (0 : Int) ≤ ((x / n : Nat) : Int) := Int.natCast_nonneg _
   have q1 : ((x / n : Nat) : Int) ≤ 14 := Int.ofNat_le.2 hdiv
   have t1 : ((x : Int)).tmod (n : Int) = ((x % n : Nat) : Int) := by rw [Int.tmod_eq_emod_of_nonneg (by omega)]; push_cast; rfl
   have t2 : ((x : Int)).tdiv (n : Int) = ((x / n : Nat) : Int) := by rw [Int.tdiv_eq_ediv_of_nonneg (by omega)]; push_cast; rfl
   have t3 : ((p : Int)).fdiv (2 ^ (min ((x : Int)).toNat (IntKind.i64).bits)) = ((p / 2 ^ x : Nat) : Int) := by
    rw [Int.toNat_natCast, show min x (IntKind.i64).bits = x from Nat.min_eq_left (by show x ≤ 64; omega), Int.fdiv_eq_ediv_of_nonneg _ (Int.le_of_lt (Int.pow_pos (by decide)))]
    push_cast; rfl
   rw [lake_unwoven_l1, hw, show decide ((x : Int) < ((bits * n : Nat) : Int)) = true by rw [decide_eq_true_eq]; omega, ift_true, grd_pos (by omega), t1, w64 (x := (n : Int) - 1) (by omega) (by omega),
    show IntKind.i64.wrap ((n : Int) - 1 - ((x % n : Nat) : Int)) = ((n - 1 - x % n : Nat) : Int) by rw [w64 (by omega) (by omega)]; omega, bnd_some', cs_at hi, bnd_some', grd_pos (by omega), t3,
    and64_1 _ (by omega), bnd_some', grd_pos (show (n : Int) ≠ 0 by omega), t2, w64 (x := ((x / n : Nat) : Int)) (Int.le_trans (by decide) q0) (Int.le_trans q1 (by decide)), grd_pos q0, bit_one, Int.toNat_natCast, show min (x / n) (IntKind.i64).bits = x / n from Nat.min_eq_left (by show x / n ≤ 64; omega)]
   have t4 : IntKind.i64.wrap (((if p.testBit x = true then 1 else 0 : Nat) : Int) * 2 ^ (x / n)) = ((if p.testBit x = true then 2 ^ (x / n) else 0 : Nat) : Int) := by
    have e : (((if p.testBit x = true then 1 else 0 : Nat) : Int) * 2 ^ (x / n)) = ((if p.testBit x = true then 2 ^ (x / n) else 0 : Nat) : Int) := by
     split
     ·rw [show ((1 : Nat) : Int) = 1 from rfl, Int.one_mul]; push_cast; rfl
     ·rw [show ((0 : Nat) : Int) = 0 from rfl, Int.zero_mul]
    rw [e, w64 (by omega) (by omega)]
   rw [t4, bnd_some', or64 _ _ (by omega) (by omega), bnd_some', Int.toNat_natCast, cs_set, show IntKind.i64.wrap ((x : Int) + 1) = ((x + 1 : Nat) : Int) by rw [w64 (by omega) (by omega)]; omega]
   exact d1
  ·rw [d4, B_set hi, Nat.testBit_or]
   have hvb : (if p.testBit x = true then 2 ^ (x / n) else 0).testBit k = (p.testBit x && decide (x / n = k)) := by
    split
    ·rename_i h; rw [h, Nat.testBit_two_pow, Bool.true_and]
    ·rename_i h; rw [Nat.zero_testBit]; simp [h]
   rw [hvb]
   by_cases hj : j < n
   ·have hx := idx_iff (k := k) (x := x) hn hj
    by_cases he : k * n + (n - 1 - j) = x
    ·obtain ⟨e1, e2⟩ := hx.1 he
     rw [if_pos e1, decide_eq_true e2.symm, Bool.and_true, decide_eq_false (by omega), Bool.false_and, Bool.or_false, decide_eq_true (by omega), Bool.true_and, he, ← e1]; rfl
    ·have hd : decide (j < n ∧ x + 1 ≤ k * n + (n - 1 - j) ∧ k * n + (n - 1 - j) < bits * n) = decide (j < n ∧ x ≤ k * n + (n - 1 - j) ∧ k * n + (n - 1 - j) < bits * n) := by
      rw [decide_eq_decide]; omega
     rw [hd]
     congr 1
     by_cases e1 : j = n - 1 - x % n
     ·rw [if_pos e1, decide_eq_false (fun e2 => he (hx.2 ⟨e1, e2.symm⟩)), Bool.and_false, Bool.or_false, ← e1]; rfl
     ·rw [if_neg e1]
   ·rw [if_neg (by omega), decide_eq_false (by omega), decide_eq_false (by omega)]

def gX (n p : Nat) : Nat → Nat → Bool := fun j b => decide (j < n) && (p.testBit (b * n + (n - 1 - j)) ^^ p.testBit (b * n + (n - 1 - j) + 1))

theorem curve_ok {bits n : Nat} (hb : 1 ≤ bits ∧ bits ≤ 15) (hn : 1 ≤ n ∧ n ≤ 4) : lake_curve 2 (bits : Int) (n : Int) = some 0 := by
 unfold lake_curve lake_curve_j1
 rw [show ((2 : Int) != 1) = true from rfl, ift_true, show ((2 : Int) != 2) = false from rfl, ift_false, show decide ((bits : Int) < 1) = false by rw [decide_eq_false_iff_not]; omega, ift_false,
  show decide ((15 : Int) < (bits : Int)) = false by rw [decide_eq_false_iff_not]; omega, ift_false, show decide ((4 : Int) < (n : Int)) = false by rw [decide_eq_false_iff_not]; omega, ift_false,
  show decide ((n : Int) < 1) = false by rw [decide_eq_false_iff_not]; omega, ift_false]

theorem uncurve_eq {M n p : Nat} (hM : M ≤ 14) (hn : 1 ≤ n ∧ n ≤ 4) (hp : p < 2 ^ ((M + 1) * n)) :
  ∃ l, lake_Uncurve 2 ((M + 1 : Nat) : Int) (n : Int) (p : Int) = some (cs l, 0) ∧ l.length = n ∧ sm l ∧ B l = aB n M (gX n p) := by
 have hbn : (M + 1) * n ≤ 60 := by
  have := Nat.mul_le_mul (show M + 1 ≤ 15 by omega) hn.2
  omega
 have hp60 : 2 ^ ((M + 1) * n) ≤ 1152921504606846976 := Nat.le_trans (Nat.pow_le_pow_right (by decide) hbn) (by decide)
 have hw : IntKind.i64.wrap (((M + 1 : Nat) : Int) * (n : Int)) = (((M + 1) * n : Nat) : Int) := by
  rw [show (((M + 1 : Nat) : Int) * (n : Int)) = (((M + 1) * n : Nat) : Int) from (Int.natCast_mul _ _).symm, w64 (by omega) (by omega)]
 have z : sm (List.replicate n 0) := fun j => by
  simp only [List.getD, List.getElem?_replicate]; split <;> simp
 have zB : ∀ j k, B (List.replicate n 0) j k = false := fun j k => by
  unfold B
  have : (List.replicate n 0).getD j 0 = 0 := by simp only [List.getD, List.getElem?_replicate]; split <;> simp
  rw [this, Nat.zero_testBit]
 obtain ⟨u, u1, u2, u3, u4⟩ := unwoven_eq (p := p) (bits := M + 1) ⟨by omega, by omega⟩ hn (by omega) ((M + 1) * n) BIG 0 (List.replicate n 0) (by omega) (by rw [big_val]; omega) z (by simp)
 have uB : ∀ j k, B u j k = (decide (j < n) && p.testBit (k * n + (n - 1 - j))) := fun j k => by
  rw [u4, zB, Bool.false_or]
  by_cases hj : j < n
  ·by_cases hk : k * n + (n - 1 - j) < (M + 1) * n
   ·rw [decide_eq_true (by omega), decide_eq_true hj]
   ·rw [decide_eq_false (by omega), Bool.false_and, Nat.testBit_lt_two_pow (Nat.lt_of_lt_of_le hp (Nat.pow_le_pow_right (by decide) (by omega))), Bool.and_false]
  ·rw [decide_eq_false (by omega), decide_eq_false hj]
 have us : ∀ j, u.getD j 0 < 2 ^ (M + 1) := fun j => by
  refine Nat.lt_pow_two_of_testBit _ (fun k hk => ?_)
  have := uB j k
  unfold B at this
  rw [this]
  by_cases hj : j < n
  ·have : (M + 1) * n ≤ k * n := Nat.mul_le_mul_right n hk
   rw [Nat.testBit_lt_two_pow (Nat.lt_of_lt_of_le hp (Nat.pow_le_pow_right (by decide) (by omega))), Bool.and_false]
  ·rw [decide_eq_false hj, Bool.false_and]
 obtain ⟨l, l1, l2, l3, l4⟩ := unhilbert_eq hM u2 (by omega) (by omega) us
 refine ⟨l, ?_, l2, l3, ?_⟩
 ·unfold lake_Uncurve lake_Uncurve_j1 lake_unwoven
  have e2 : IntKind.i64.wrap ((1 : Int) * 2 ^ (min ((((M + 1) * n : Nat) : Int)).toNat (IntKind.i64).bits)) = ((2 ^ ((M + 1) * n) : Nat) : Int) := by
   rw [Int.toNat_natCast, show min ((M + 1) * n) (IntKind.i64).bits = (M + 1) * n from Nat.min_eq_left (by show (M + 1) * n ≤ 64; omega), Int.one_mul, show ((2 : Int) ^ ((M + 1) * n)) = ((2 ^ ((M + 1) * n) : Nat) : Int) by push_cast; rfl, w64 (by omega) (by omega)]
  have u1' : lake_unwoven_l1 ((M + 1 : Nat) : Int) (n : Int) (p : Int) BIG (List.replicate n (0 : Int)) 0 = some (cs u) := by
   have : cs (List.replicate n 0) = List.replicate n (0 : Int) := by unfold cs; rw [List.map_replicate]; rfl
   rw [← this]; exact u1
  rw [curve_ok ⟨by omega, by omega⟩ hn, bnd_some', show ((0 : Int) != 0) = false from rfl, ift_false, show decide ((p : Int) < 0) = false by rw [decide_eq_false_iff_not]; omega, ift_false, hw, grd_pos (by omega), e2, bnd_some',
   show decide (((2 ^ ((M + 1) * n) : Nat) : Int) ≤ (p : Int)) = false by rw [decide_eq_false_iff_not]; omega, ift_false, grd_pos (by omega), Int.toNat_natCast, u1', bnd_some', show ((2 : Int) == 2) = true from rfl, ift_true, l1, bnd_some']
  rfl
 ·rw [l4]
  congr 1
  funext j b
  rw [uB, uB, uB, uB]
  unfold gX
  by_cases j0 : j = 0
  ·subst j0
   rw [if_pos rfl, decide_eq_true (show n - 1 < n by omega), decide_eq_true (show 0 < n by omega), Bool.true_and, Bool.true_and, Bool.true_and, show (b + 1) * n + (n - 1 - (n - 1)) = b * n + (n - 1 - 0) + 1 by rw [Nat.add_mul]; omega]
  ·rw [if_neg j0]
   by_cases hj : j < n
   ·rw [if_pos hj, decide_eq_true hj, decide_eq_true (show j - 1 < n by omega), Bool.true_and, Bool.true_and, Bool.true_and, show b * n + (n - 1 - (j - 1)) = b * n + (n - 1 - j) + 1 by omega]
   ·rw [if_neg hj, decide_eq_false hj, Bool.false_and, Bool.false_and]

end Go.Proofs.Ytbmkkmbgoenllaa
namespace Go.Proofs.Ytbmkkmbgoenllaa
open Go Go.SX Go.SX.Cal Go.Hil
set_option linter.unusedVariables false
set_option linter.unusedSimpArgs false

end Go.Proofs.Ytbmkkmbgoenllaa
namespace Go.Proofs.Ytbmkkmbgoenllaa
open Go Go.SX Go.SX.Cal Go.Hil
set_option linter.unusedVariables false
set_option linter.unusedSimpArgs false

theorem half_pow {c : Nat} (hc : c + 1 ≤ 14) : IntKind.i64.wrap (((2 ^ (c + 1) : Nat) : Int).tdiv 2) = ((2 ^ c : Nat) : Int) := by
 have hp := pow_small (c := c) (by omega)
 have h2 : 2 ^ (c + 1) = 2 * 2 ^ c := by rw [Nat.pow_succ]; omega
 rw [h2, Int.tdiv_eq_ediv_of_nonneg (by omega), w64 (by omega) (by omega)]
 omega

theorem top_pow {M : Nat} (hM : M ≤ 14) : IntKind.i64.wrap ((1 : Int) * 2 ^ (min ((M : Int)).toNat (IntKind.i64).bits)) = ((2 ^ M : Nat) : Int) := by
 have hp := pow_small hM
 rw [Int.toNat_natCast, show min M (IntKind.i64).bits = M from Nat.min_eq_left (by show M ≤ 64; omega), show ((1 : Int) * 2 ^ M) = ((2 ^ M : Nat) : Int) by rw [Int.one_mul]; push_cast; rfl, w64 (by omega) (by omega)]

end Go.Proofs.Ytbmkkmbgoenllaa
namespace Go.Proofs.Ytbmkkmbgoenllaa
open Go Go.SX Go.SX.Cal Go.Hil
set_option linter.unusedVariables false
set_option linter.unusedSectionVars false
set_option linter.unusedSimpArgs false

theorem at_int {xs : List Int} {i : Nat} (h : i < xs.length) : at? xs (i : Int) = some xs[i] := by unfold at?; simp [h]
theorem nxt {i : Nat} (h : i < 1000000) : IntKind.i64.wrap ((i : Int) + 1) = ((i + 1 : Nat) : Int) := by rw [w64 (by omega) (by omega)]; omega

section
variable {M n : Nat} (hM : M ≤ 14) (hn : 1 ≤ n ∧ n ≤ 4) (p4 : Int) {x3 : Nat} (hx : x3 < M + 1)
include hM hn hx

theorem rest_eq : IntKind.i64.wrap (IntKind.i64.wrap (((M + 1 : Nat) : Int) - 1) - (x3 : Int)) = ((M - x3 : Nat) : Int) := by
 rw [w64 (x := ((M + 1 : Nat) : Int) - 1) (by omega) (by omega), w64 (by omega) (by omega)]; omega

end

end Go.Proofs.Ytbmkkmbgoenllaa
namespace Go.Hil
set_option linter.unusedVariables false
set_option linter.unusedSimpArgs false

def uA (c : Nat) : Nat → (Nat → Nat → Bool) → (Nat → Nat → Bool)
 | 0, X => X
 | k + 1, X => bb k c (uA c k X)

def fB (n : Nat) : Nat → (Nat → Nat → Bool) → (Nat → Nat → Bool)
 | 0, X => X
 | c + 1, X => fB n c (uA (c + 1) n X)

theorem bb_bb (i c : Nat) (X : Nat → Nat → Bool) : bb i c (bb i c X) = X := by
 have hc : bb i c X i c = X i c := bb_hi (Nat.le_refl _)
 funext j k
 unfold bb at *
 rw [hc]
 by_cases hk : k < c
 ·simp only [if_pos hk]
  by_cases hx : X i c = true
  ·simp only [if_pos hx]
   by_cases j0 : j = 0
   ·subst j0; simp
   ·simp [j0]
  ·simp only [if_neg hx]
   by_cases j0 : j = 0
   ·subst j0
    by_cases i0 : i = 0
    ·simp [i0]
    ·simp [i0]
   ·by_cases ji : j = i
    ·subst ji; simp [j0]
    ·simp [j0, ji]
 ·simp only [if_neg hk]

theorem dB_uA (c : Nat) : ∀ (k : Nat) (X : Nat → Nat → Bool), dB c k (uA c k X) = X
 | 0, X => rfl
 | k + 1, X => by rw [dB, uA, bb_bb, dB_uA c k]

theorem uA_dB (c : Nat) : ∀ (k : Nat) (X : Nat → Nat → Bool), uA c k (dB c k X) = X
 | 0, X => rfl
 | k + 1, X => by rw [dB, uA, uA_dB c k, bb_bb]

theorem aB_fB (n : Nat) : ∀ (m : Nat) (X : Nat → Nat → Bool), aB n m (fB n m X) = X
 | 0, X => rfl
 | m + 1, X => by rw [aB, fB, aB_fB n m, dB_uA]

theorem fB_aB (n : Nat) : ∀ (m : Nat) (X : Nat → Nat → Bool), fB n m (aB n m X) = X
 | 0, X => rfl
 | m + 1, X => by rw [aB, fB, uA_dB, fB_aB n m]

def Agr (r : Nat) (X Y : Nat → Nat → Bool) : Prop := ∀ j b, r ≤ b → X j b = Y j b

theorem Agr.bb {r : Nat} {X Y : Nat → Nat → Bool} (h : Agr r X Y) (i c : Nat) : Agr r (bb i c X) (bb i c Y) := fun j b hb => by
 unfold Hil.bb
 by_cases hc : b < c
 ·rw [if_pos hc, if_pos hc, h i c (by omega), h 0 b hb, h j b hb, h i b hb]
 ·rw [if_neg hc, if_neg hc, h j b hb]

theorem Agr.dB {r c : Nat} : ∀ (k : Nat) {X Y : Nat → Nat → Bool}, Agr r X Y → Agr r (dB c k X) (dB c k Y)
 | 0, _, _, h => h
 | k + 1, _, _, h => Agr.dB k (h.bb k c)

theorem Agr.uA {r c : Nat} : ∀ (k : Nat) {X Y : Nat → Nat → Bool}, Agr r X Y → Agr r (uA c k X) (uA c k Y)
 | 0, _, _, h => h
 | k + 1, _, _, h => (Agr.uA k h).bb k c

theorem Agr.aB {r n : Nat} : ∀ (m : Nat) {X Y : Nat → Nat → Bool}, Agr r X Y → Agr r (aB n m X) (aB n m Y)
 | 0, _, _, h => h
 | m + 1, _, _, h => (Agr.aB m h).dB n

theorem Agr.fB {r n : Nat} : ∀ (m : Nat) {X Y : Nat → Nat → Bool}, Agr r X Y → Agr r (fB n m X) (fB n m Y)
 | 0, _, _, h => h
 | m + 1, _, _, h => Agr.fB m (h.uA n)

structure Okk (n M : Nat) (X : Nat → Nat → Bool) : Prop where
 ax : ∀ j b, n ≤ j → X j b = false
 lv : ∀ j b, M < b → X j b = false

theorem bb_out {i c n : Nat} {X : Nat → Nat → Bool} (hi : i < n) {j b : Nat} (hj : n ≤ j) : bb i c X j b = X j b := by
 unfold bb
 by_cases hc : b < c
 ·rw [if_pos hc, if_neg (show ¬ j = 0 by omega), if_neg (show ¬ j = 0 by omega), if_neg (show ¬ j = i by omega)]
  split <;> rfl
 ·rw [if_neg hc]

theorem dB_out {c n : Nat} : ∀ (k : Nat) {X : Nat → Nat → Bool} {j b : Nat}, k ≤ n → n ≤ j → dB c k X j b = X j b
 | 0, _, _, _, _, _ => rfl
 | k + 1, X, j, b, h, hj => by rw [dB, dB_out k (by omega) hj, bb_out (show k < n by omega) hj]

theorem uA_out {c n : Nat} : ∀ (k : Nat) {X : Nat → Nat → Bool} {j b : Nat}, k ≤ n → n ≤ j → uA c k X j b = X j b
 | 0, _, _, _, _, _ => rfl
 | k + 1, X, j, b, h, hj => by rw [uA, bb_out (show k < n by omega) hj, uA_out k (by omega) hj]

theorem aB_out {n : Nat} : ∀ (m : Nat) {X : Nat → Nat → Bool} {j b : Nat}, n ≤ j → aB n m X j b = X j b
 | 0, _, _, _, _ => rfl
 | m + 1, X, j, b, hj => by rw [aB, dB_out n (Nat.le_refl _) hj, aB_out m hj]

theorem fB_out {n : Nat} : ∀ (m : Nat) {X : Nat → Nat → Bool} {j b : Nat}, n ≤ j → fB n m X j b = X j b
 | 0, _, _, _, _ => rfl
 | m + 1, X, j, b, hj => by rw [fB, fB_out m hj, uA_out n (Nat.le_refl _) hj]

theorem uA_hi {c : Nat} : ∀ (k : Nat) {X : Nat → Nat → Bool} {j b : Nat}, c ≤ b → uA c k X j b = X j b
 | 0, _, _, _, _ => rfl
 | k + 1, X, j, b, h => by rw [uA, bb_hi h, uA_hi k h]

theorem fB_hi {n : Nat} : ∀ (m : Nat) {X : Nat → Nat → Bool} {j b : Nat}, m ≤ b → fB n m X j b = X j b
 | 0, _, _, _, _ => rfl
 | m + 1, X, j, b, h => by rw [fB, fB_hi m (by omega), uA_hi n h]

def pB (X : Nat → Nat → Bool) : Nat → Nat → Bool
 | 0, b => X 0 b
 | j + 1, b => X (j + 1) b ^^ pB X j b

def tB (L : Nat → Bool) : Nat → Nat → Bool
 | 0, _ => false
 | m + 1, k => tB L m k ^^ (decide (k < m + 1) && L (m + 1))

theorem tB_hi {L : Nat → Bool} : ∀ (m : Nat) {k : Nat}, m ≤ k → tB L m k = false
 | 0, _, _ => rfl
 | m + 1, k, h => by rw [tB, tB_hi m (by omega), decide_eq_false (by omega), Bool.false_and]; rfl

theorem tB_step {L : Nat → Bool} : ∀ (m : Nat) {k : Nat}, k < m → tB L m k = (L (k + 1) ^^ tB L m (k + 1))
 | 0, _, h => by omega
 | m + 1, k, h => by
  rw [tB, tB, decide_eq_true h]
  by_cases hk : k < m
  ·rw [tB_step m hk, decide_eq_true (show k + 1 < m + 1 by omega)]
   cases L (k + 1) <;> cases tB L m (k + 1) <;> cases L (m + 1) <;> rfl
  ·have : k = m := by omega
   subst this
   rw [tB_hi k (Nat.le_refl _), tB_hi k (by omega), decide_eq_false (by omega)]
   cases L (k + 1) <;> rfl

theorem tB_congr {L L' : Nat → Bool} : ∀ (m : Nat) {k : Nat}, (∀ q, k < q → L q = L' q) → tB L m k = tB L' m k
 | 0, _, _ => rfl
 | m + 1, k, h => by
  rw [tB, tB, tB_congr m h]
  by_cases hk : k < m + 1
  ·rw [h (m + 1) hk]
  ·rw [decide_eq_false hk, Bool.false_and, Bool.false_and]

theorem pB_congr {X Y : Nat → Nat → Bool} {b : Nat} (h : ∀ j, X j b = Y j b) : ∀ j, pB X j b = pB Y j b
 | 0 => h 0
 | j + 1 => by rw [pB, pB, h (j + 1), pB_congr h j]

theorem pB_zero {X : Nat → Nat → Bool} {b : Nat} (h : ∀ j, X j b = false) : ∀ j, pB X j b = false
 | 0 => h 0
 | j + 1 => by rw [pB, h (j + 1), pB_zero h j]; rfl

def HB (n M : Nat) (X : Nat → Nat → Bool) : Nat → Nat → Bool := fun j b =>
 if j < n then pB (fB n M X) j b ^^ tB (pB (fB n M X) (n - 1)) M b else X j b

def YB (n : Nat) (W : Nat → Nat → Bool) : Nat → Nat → Bool := fun j b =>
 if j = 0 then (W 0 b ^^ W (n - 1) (b + 1)) else if j < n then (W j b ^^ W (j - 1) b) else W j b

def IB (n M : Nat) (W : Nat → Nat → Bool) : Nat → Nat → Bool := aB n M (YB n W)

theorem HB_ok {n M : Nat} {X : Nat → Nat → Bool} (h : Okk n M X) : Okk n M (HB n M X) := by
 refine ⟨fun j b hj => ?_, fun j b hb => ?_⟩
 ·unfold HB; rw [if_neg (by omega)]; exact h.ax j b hj
 ·have z : ∀ i, fB n M X i b = false := fun i => by rw [fB_hi M (by omega)]; exact h.lv i b hb
  unfold HB
  rw [pB_zero z, tB_hi M (by omega), h.lv j b hb]
  split <;> rfl

theorem IB_ok {n M : Nat} {X : Nat → Nat → Bool} (hn : 1 ≤ n) (h : Okk n M X) : Okk n M (IB n M X) := by
 refine ⟨fun j b hj => ?_, fun j b hb => ?_⟩
 ·unfold IB YB
  rw [aB_out M hj, if_neg (by omega), if_neg (by omega)]; exact h.ax j b hj
 ·unfold IB YB
  rw [aB_hi (by omega)]
  simp only [h.lv _ b hb, h.lv _ (b + 1) (by omega)]
  simp

theorem IB_HB {n M : Nat} {X : Nat → Nat → Bool} (hn : 1 ≤ n) (h : Okk n M X) : IB n M (HB n M X) = X := by
 have e : YB n (HB n M X) = fB n M X := by
  funext j b
  unfold YB HB
  by_cases j0 : j = 0
  ·subst j0
   rw [if_pos rfl, if_pos (by omega), if_pos (by omega)]
   by_cases hb : b < M
   ·rw [tB_step M hb]
    show (((fB n M X 0 b) ^^ _) ^^ _) = _
    cases fB n M X 0 b <;> cases pB (fB n M X) (n - 1) (b + 1) <;> cases tB (pB (fB n M X) (n - 1)) M (b + 1) <;> rfl
   ·rw [tB_hi M (by omega), tB_hi M (by omega), pB_zero (b := b + 1) (fun i => by rw [fB_hi M (by omega)]; exact h.lv i _ (by omega))]
    show (((fB n M X 0 b) ^^ _) ^^ _) = _
    cases fB n M X 0 b <;> rfl
  ·rw [if_neg j0]
   by_cases hj : j < n
   ·obtain ⟨i, rfl⟩ : ∃ i, j = i + 1 := ⟨j - 1, by omega⟩
    rw [if_pos hj, if_pos hj, if_pos (by omega), pB, Nat.add_sub_cancel]
    cases fB n M X (i + 1) b <;> cases pB (fB n M X) i b <;> cases tB (pB (fB n M X) (n - 1)) M b <;> rfl
   ·rw [if_neg hj, if_neg hj, fB_out M (by omega)]
 unfold IB
 rw [e, aB_fB]

theorem HB_IB {n M : Nat} {W : Nat → Nat → Bool} (hn : 1 ≤ n) (h : Okk n M W) : HB n M (IB n M W) = W := by
 have e : fB n M (IB n M W) = YB n W := fB_aB n M _
 have p : ∀ (j b : Nat), j < n → pB (YB n W) j b = (W j b ^^ W (n - 1) (b + 1)) := fun j => by
  induction j with
  | zero => intro b hj; rw [pB]; unfold YB; rw [if_pos rfl]
  | succ j ih =>
   intro b hj
   rw [pB, ih b (by omega)]
   unfold YB
   rw [if_neg (by omega), if_pos hj, Nat.add_sub_cancel]
   cases W (j + 1) b <;> cases W j b <;> cases W (n - 1) (b + 1) <;> rfl
 have t : ∀ (d b : Nat), M ≤ b + d → tB (pB (YB n W) (n - 1)) M b = W (n - 1) (b + 1) := fun d => by
  induction d with
  | zero => intro b hb; rw [tB_hi M (by omega), h.lv _ _ (by omega)]
  | succ d ih =>
   intro b hb
   by_cases hm : b < M
   ·rw [tB_step M hm, ih (b + 1) (by omega), p (n - 1) (b + 1) (by omega)]
    cases W (n - 1) (b + 1) <;> cases W (n - 1) (b + 1 + 1) <;> rfl
   ·rw [tB_hi M (by omega), h.lv _ _ (by omega)]
 funext j b
 unfold HB
 rw [e]
 by_cases hj : j < n
 ·rw [if_pos hj, p j b hj, t M b (by omega)]
  cases W j b <;> cases W (n - 1) (b + 1) <;> rfl
 ·rw [if_neg hj]
  unfold IB YB
  rw [aB_out M (by omega), if_neg (by omega), if_neg hj]

theorem HB_agr {n M r : Nat} {X Y : Nat → Nat → Bool} (h : Agr r X Y) : Agr r (HB n M X) (HB n M Y) := fun j b hb => by
 have hf := h.fB (n := n) M
 unfold HB
 rw [pB_congr (fun i => hf i b hb) j, h j b hb, tB_congr M (fun q hq => pB_congr (fun i => hf i q (by omega)) (n - 1))]

theorem IB_agr {n M r : Nat} {X Y : Nat → Nat → Bool} (h : Agr r X Y) : Agr r (IB n M X) (IB n M Y) := by
 refine Agr.aB M (fun j b hb => ?_)
 unfold YB
 rw [h 0 b hb, h (n - 1) (b + 1) (by omega), h j b hb, h (j - 1) b hb]

def KB (k n M : Nat) (X : Nat → Nat → Bool) : Nat → Nat → Bool := if k = 2 then HB n M X else X
def JB (k n M : Nat) (X : Nat → Nat → Bool) : Nat → Nat → Bool := if k = 2 then IB n M X else X

theorem KB_ok {k n M : Nat} {X : Nat → Nat → Bool} (h : Okk n M X) : Okk n M (KB k n M X) := by
 unfold KB; split
 ·exact HB_ok h
 ·exact h
theorem JB_ok {k n M : Nat} {X : Nat → Nat → Bool} (hn : 1 ≤ n) (h : Okk n M X) : Okk n M (JB k n M X) := by
 unfold JB; split
 ·exact IB_ok hn h
 ·exact h
theorem JB_KB {k n M : Nat} {X : Nat → Nat → Bool} (hn : 1 ≤ n) (h : Okk n M X) : JB k n M (KB k n M X) = X := by
 unfold KB JB
 by_cases e : k = 2
 ·rw [if_pos e, if_pos e, IB_HB hn h]
 ·rw [if_neg e, if_neg e]
theorem KB_JB {k n M : Nat} {X : Nat → Nat → Bool} (hn : 1 ≤ n) (h : Okk n M X) : KB k n M (JB k n M X) = X := by
 unfold KB JB
 by_cases e : k = 2
 ·rw [if_pos e, if_pos e, HB_IB hn h]
 ·rw [if_neg e, if_neg e]
theorem KB_agr {k n M r : Nat} {X Y : Nat → Nat → Bool} (h : Agr r X Y) : Agr r (KB k n M X) (KB k n M Y) := by
 unfold KB; split
 ·exact HB_agr h
 ·exact h
theorem JB_agr {k n M r : Nat} {X Y : Nat → Nat → Bool} (h : Agr r X Y) : Agr r (JB k n M X) (JB k n M Y) := by
 unfold JB; split
 ·exact IB_agr h
 ·exact h

def wN (n M : Nat) (X : Nat → Nat → Bool) : Nat → Bool := fun x => decide (x < (M + 1) * n) && X (n - 1 - x % n) (x / n)
def uX (n : Nat) (p : Nat → Bool) : Nat → Nat → Bool := fun j b => decide (j < n) && p (b * n + (n - 1 - j))

theorem pos_mod {n j b : Nat} (hj : j < n) : (b * n + (n - 1 - j)) % n = n - 1 - j ∧ (b * n + (n - 1 - j)) / n = b := by
 have h : n - 1 - j < n := by omega
 constructor
 ·rw [Nat.mul_comm, Nat.mul_add_mod, Nat.mod_eq_of_lt h]
 ·rw [Nat.mul_comm, Nat.mul_add_div (by omega), Nat.div_eq_of_lt h, Nat.add_zero]

theorem pos_lt {n j b M : Nat} (hj : j < n) : b * n + (n - 1 - j) < (M + 1) * n ↔ b ≤ M := by
 constructor
 ·intro h
  apply Classical.byContradiction
  intro hc
  have : (M + 1) * n ≤ b * n := Nat.mul_le_mul_right n (by omega)
  omega
 ·intro h
  have : b * n + n ≤ (M + 1) * n := by
   have := Nat.mul_le_mul_right n (show b + 1 ≤ M + 1 by omega)
   rw [Nat.add_mul, Nat.one_mul] at this
   exact this
  omega

theorem uX_wN {n M : Nat} {X : Nat → Nat → Bool} (h : Okk n M X) : uX n (wN n M X) = X := by
 funext j b
 unfold uX wN
 by_cases hj : j < n
 ·obtain ⟨h1, h2⟩ := pos_mod (b := b) hj
  rw [decide_eq_true hj, Bool.true_and, h1, h2, show n - 1 - (n - 1 - j) = j by omega]
  by_cases hb : b ≤ M
  ·rw [decide_eq_true ((pos_lt hj).2 hb), Bool.true_and]
  ·rw [decide_eq_false (fun e => hb ((pos_lt hj).1 e)), Bool.false_and, h.lv j b (by omega)]
 ·rw [decide_eq_false hj, Bool.false_and, h.ax j b (by omega)]

theorem wN_uX {n M : Nat} {p : Nat → Bool} (hn : 1 ≤ n) (h : ∀ x, (M + 1) * n ≤ x → p x = false) : wN n M (uX n p) = p := by
 funext x
 unfold wN uX
 have hm : x % n < n := Nat.mod_lt _ hn
 have hd := Nat.div_add_mod x n
 by_cases hx : x < (M + 1) * n
 ·rw [decide_eq_true hx, Bool.true_and, decide_eq_true (show n - 1 - x % n < n by omega), Bool.true_and, show n - 1 - (n - 1 - x % n) = x % n by omega, Nat.mul_comm, hd]
 ·rw [decide_eq_false hx, Bool.false_and, h x (by omega)]

theorem uX_ok {n M : Nat} {p : Nat → Bool} (h : ∀ x, (M + 1) * n ≤ x → p x = false) : Okk n M (uX n p) := by
 refine ⟨fun j b hj => ?_, fun j b hb => ?_⟩
 ·unfold uX; rw [decide_eq_false (by omega), Bool.false_and]
 ·unfold uX
  by_cases hj : j < n
  ·rw [h _ (Nat.le_of_not_lt (fun e => by have := (pos_lt hj).1 e; omega)), Bool.and_false]
  ·rw [decide_eq_false hj, Bool.false_and]

theorem wN_agr {n M r : Nat} {X Y : Nat → Nat → Bool} (hn : 1 ≤ n) (hX : Okk n M X) (hY : Okk n M Y) : (∀ x, r * n ≤ x → wN n M X x = wN n M Y x) ↔ Agr r X Y := by
 constructor
 ·intro h j b hb
  have e1 := congrFun (congrFun (uX_wN hX) j) b
  have e2 := congrFun (congrFun (uX_wN hY) j) b
  rw [← e1, ← e2]
  unfold uX
  have : r * n ≤ b * n := Nat.mul_le_mul_right n hb
  rw [h _ (by omega)]
 ·intro h x hx
  unfold wN
  rw [h _ _ ((Nat.le_div_iff_mul_le hn).2 hx)]

end Go.Hil
namespace Go.Proofs.Ytbmkkmbgoenllaa
open Go Go.SX Go.SX.Cal Go.Hil
set_option linter.unusedVariables false
set_option linter.unusedSimpArgs false

theorem shr1 {c : Nat} (hc : c + 1 ≤ 14) : (((2 ^ (c + 1) : Nat) : Int).fdiv (2 ^ (min (1 : Int).toNat (IntKind.i64).bits))) = ((2 ^ c : Nat) : Int) := by
 have h2 : 2 ^ (c + 1) = 2 * 2 ^ c := by rw [Nat.pow_succ]; omega
 rw [sh1, h2, Int.fdiv_eq_ediv_of_nonneg _ (by decide)]
 omega

section lake
variable (y1 : Int) (n : Nat) (hn : n < 1000)
include hn

theorem hbend (rec1 : List Int → Int → Option (List Int)) (l1 : List Int) (h1 : l1.length = n) (c : Nat) (hc : c ≤ 14) (X : Nat → Nat → Bool) : ∀ (m f i : Nat) (l : List Nat), i + m = n → m < f → sm l → l.length = n → B l = uA c i X →
  ∃ l', lake_hilbert_l2 rec1 l1 ((2 ^ c : Nat) : Int) f (cs l) (i : Int) = lake_hilbert_j1 rec1 ((2 ^ c : Nat) : Int) (cs l') ∧ l'.length = n ∧ sm l' ∧ B l' = uA c n X := by
 intro m
 induction m with
 | zero =>
  intro f i l hi hf hs hl hB
  obtain ⟨f, rfl⟩ : ∃ q, f = q + 1 := ⟨f - 1, by omega⟩
  have : i = n := by omega
  subst this
  rw [lake_hilbert_l2, h1, show decide ((i : Int) < (i : Int)) = false by simp, ift_false]
  exact ⟨l, rfl, hl, hs, hB⟩
 | succ m ih =>
  intro f i l hi hf hs hl hB
  obtain ⟨f, rfl⟩ : ∃ q, f = q + 1 := ⟨f - 1, by omega⟩
  obtain ⟨l2, e1, e2, e3, e4⟩ := bend_eq hs (show i < l.length by omega) hc
  rw [lake_hilbert_l2, h1, show decide ((i : Int) < (n : Int)) = true by simp; omega, ift_true, e1, bnd_some', grd_pos (by show (cs l2).length = (cs l).length; rw [cs_len, cs_len, e2]), nxt (by omega)]
  exact ih f (i + 1) l2 (by omega) (by omega) e3 (by omega) (by rw [e4, hB]; rfl)

theorem hbends : ∀ (c f : Nat) (l : List Nat), c ≤ 14 → c < f → sm l → l.length = n →
  ∃ l', lake_hilbert_l1 y1 f (cs l) ((2 ^ c : Nat) : Int) = lake_hilbert_j2 y1 (cs l') ∧ l'.length = n ∧ sm l' ∧ B l' = fB n c (B l)
 | 0, f, l, hc, hf, hs, hl => by
  obtain ⟨f, rfl⟩ : ∃ q, f = q + 1 := ⟨f - 1, by omega⟩
  rw [lake_hilbert_l1, show decide ((1 : Int) < ((2 ^ 0 : Nat) : Int)) = false from rfl, ift_false]
  exact ⟨l, rfl, hl, hs, rfl⟩
 | c + 1, f, l, hc, hf, hs, hl => by
  obtain ⟨f, rfl⟩ : ∃ q, f = q + 1 := ⟨f - 1, by omega⟩
  have hp1 := pow_small (c := c) (by omega)
  have h2 : 2 ^ (c + 1) = 2 * 2 ^ c := by rw [Nat.pow_succ]; omega
  obtain ⟨l1, e1, e2, e3, e4⟩ := hbend n hn (lake_hilbert_l1 y1 f) (cs l) (by rw [cs_len, hl]) (c + 1) hc (B l) n BIG 0 l (by omega) (by rw [big_val]; omega) hs hl rfl
  obtain ⟨l2, d1, d2, d3, d4⟩ := hbends c f l1 (by omega) (by omega) e3 e2
  refine ⟨l2, ?_, d2, d3, ?_⟩
  ·rw [lake_hilbert_l1, show decide ((1 : Int) < ((2 ^ (c + 1) : Nat) : Int)) = true by rw [decide_eq_true_eq]; omega, ift_true]
   refine e1.trans ?_
   unfold lake_hilbert_j1
   rw [shr1 hc]
   exact d1
  ·rw [d4, e4]; rfl

theorem hgray (X : Nat → Nat → Bool) : ∀ (m f i : Nat) (l : List Nat), i + m = n → 1 ≤ i → m < f → sm l → l.length = n → (∀ j b, B l j b = if j < i then pB X j b else X j b) →
  ∃ l', lake_hilbert_l3 y1 f (cs l) (i : Int) = lake_hilbert_j3 y1 (cs l') ∧ l'.length = n ∧ sm l' ∧ ∀ j b, B l' j b = if j < n then pB X j b else X j b := by
 intro m
 induction m with
 | zero =>
  intro f i l hi h1 hf hs hl hB
  obtain ⟨f, rfl⟩ : ∃ q, f = q + 1 := ⟨f - 1, by omega⟩
  have : i = n := by omega
  subst this
  rw [lake_hilbert_l3, cs_len, hl, show decide ((i : Int) < (i : Int)) = false by simp, ift_false]
  exact ⟨l, rfl, hl, hs, hB⟩
 | succ m ih =>
  intro f i l hi h1 hf hs hl hB
  obtain ⟨f, rfl⟩ : ∃ q, f = q + 1 := ⟨f - 1, by omega⟩
  have hil : i < l.length := by omega
  have si := hs i
  have sj := hs (i - 1)
  rw [lake_hilbert_l3, cs_len, hl, show decide ((i : Int) < (n : Int)) = true by simp; omega, ift_true, cs_at hil, bnd_some', show IntKind.i64.wrap ((i : Int) - 1) = ((i - 1 : Nat) : Int) by rw [w64 (by omega) (by omega)]; omega,
   cs_at (by omega), bnd_some', xor64 _ _ (by omega) (by omega), bnd_some', Int.toNat_natCast, cs_set, nxt (by omega)]
  refine ih f (i + 1) _ (by omega) (by omega) (by omega) (sm_set hil hs (xor_sm si sj)) (by simp; omega) (fun j b => ?_)
  rw [B_set hil, Nat.testBit_xor]
  by_cases hj : j = i
  ·subst hj
   obtain ⟨i, rfl⟩ : ∃ i, j = i + 1 := ⟨j - 1, by omega⟩
   have e1 := hB (i + 1) b
   have e2 := hB i b
   rw [if_neg (by omega)] at e1
   rw [if_pos (by omega)] at e2
   unfold B at e1 e2
   rw [if_pos rfl, if_pos (by omega), Nat.add_sub_cancel, e1, e2]; rfl
  ·rw [if_neg hj, hB]
   by_cases h2 : j < i
   ·rw [if_pos h2, if_pos (by omega)]
   ·rw [if_neg h2, if_neg (by omega)]

omit hn in
theorem hturn (a : Nat) (ha : a < 32768) : ∀ (c f t : Nat), c ≤ 14 → c < f → t < 32768 →
  ∃ t' : Nat, lake_turned_l1 (a : Int) f (t : Int) ((2 ^ c : Nat) : Int) = some (t' : Int) ∧ t' < 32768 ∧ ∀ k, t'.testBit k = (t.testBit k ^^ tB (fun q => a.testBit q) c k)
 | 0, f, t, hc, hf, ht => by
  obtain ⟨f, rfl⟩ : ∃ q, f = q + 1 := ⟨f - 1, by omega⟩
  exact ⟨t, by rw [lake_turned_l1, show decide ((1 : Int) < ((2 ^ 0 : Nat) : Int)) = false from rfl, ift_false]; rfl, ht, fun k => by rw [tB, Bool.xor_false]⟩
 | c + 1, f, t, hc, hf, ht => by
  obtain ⟨f, rfl⟩ : ∃ q, f = q + 1 := ⟨f - 1, by omega⟩
  have hp1 := pow_small (c := c) (by omega)
  have hq := pow_small (c := c + 1) hc
  have h2 : 2 ^ (c + 1) = 2 * 2 ^ c := by rw [Nat.pow_succ]; omega
  rw [lake_turned_l1, show decide ((1 : Int) < ((2 ^ (c + 1) : Nat) : Int)) = true by rw [decide_eq_true_eq]; omega, ift_true, and64 _ _ (by omega) (by omega), bnd_some', and_bit]
  unfold lake_turned_j1
  rw [shr1 hc]
  cases hb : a.testBit (c + 1) with
  | true =>
   rw [ift_true, mask_int hc, xor64 _ _ (by omega) (by omega), bnd_some']
   obtain ⟨t', h3, h4, h5⟩ := hturn a ha c f _ (by omega) (by omega) (xor_sm ht (show 2 ^ (c + 1) - 1 < 32768 by omega))
   refine ⟨t', h3, h4, fun k => ?_⟩
   rw [h5, Nat.testBit_xor, mask_bit, tB, hb, Bool.and_true]
   cases t.testBit k <;> cases decide (k < c + 1) <;> cases tB (fun q => a.testBit q) c k <;> rfl
  | false =>
   rw [ift_false]
   obtain ⟨t', h3, h4, h5⟩ := hturn a ha c f t (by omega) (by omega) ht
   refine ⟨t', h3, h4, fun k => ?_⟩
   rw [h5, tB, hb, Bool.and_false, Bool.xor_false]

theorem hall (t : Nat) (ht : t < 32768) (l6 : List Int) (h6 : l6.length = n) : ∀ (m f i : Nat) (l : List Nat), i + m = n → m < f → sm l → l.length = n →
  ∃ l', lake_hilbert_l4 l6 (t : Int) f (cs l) (i : Int) = some (cs l') ∧ l'.length = n ∧ sm l' ∧ ∀ j b, B l' j b = if i ≤ j ∧ j < n then (B l j b ^^ t.testBit b) else B l j b := by
 intro m
 induction m with
 | zero =>
  intro f i l hi hf hs hl
  obtain ⟨f, rfl⟩ : ∃ q, f = q + 1 := ⟨f - 1, by omega⟩
  rw [lake_hilbert_l4, h6, show decide ((i : Int) < (n : Int)) = false by rw [decide_eq_false_iff_not]; omega, ift_false]
  exact ⟨l, rfl, hl, hs, fun j b => by rw [if_neg (by omega)]⟩
 | succ m ih =>
  intro f i l hi hf hs hl
  obtain ⟨f, rfl⟩ : ∃ q, f = q + 1 := ⟨f - 1, by omega⟩
  have hil : i < l.length := by omega
  have si := hs i
  rw [lake_hilbert_l4, h6, show decide ((i : Int) < (n : Int)) = true by rw [decide_eq_true_eq]; omega, ift_true, cs_at hil, bnd_some', xor64 _ _ (by omega) (by omega), bnd_some', Int.toNat_natCast, cs_set, nxt (by omega)]
  obtain ⟨l2, d1, d2, d3, d4⟩ := ih f (i + 1) _ (by omega) (by omega) (sm_set hil hs (xor_sm si ht)) (by simp; omega)
  refine ⟨l2, d1, d2, d3, fun j b => ?_⟩
  rw [d4, B_set hil, Nat.testBit_xor]
  by_cases h1 : i + 1 ≤ j ∧ j < n
  ·rw [if_pos h1, if_neg (by omega), if_pos (by omega)]
  ·rw [if_neg h1]
   by_cases h2 : j = i
   ·subst h2; rw [if_pos rfl, if_pos (by omega)]; rfl
   ·rw [if_neg h2, if_neg (by omega)]

end lake

theorem hil_bits {M n : Nat} {l3 l4 : List Nat} {X : Nat → Nat → Bool} (hn : 0 < n) (l : List Nat) (h3 : ∀ j b, B l3 j b = if j < n then pB (fB n M X) j b else fB n M X j b)
  (h4 : ∀ j b, B l4 j b = if 0 ≤ j ∧ j < n then (B l3 j b ^^ (tB (fun q => (l3.getD (n - 1) 0).testBit q) M b)) else B l3 j b) : B l4 = HB n M X := by
 funext j b
 rw [h4]
 unfold HB
 by_cases hj : j < n
 ·rw [if_pos (by omega), h3, if_pos hj, if_pos hj, tB_congr M (L' := pB (fB n M X) (n - 1)) (fun q hq => by have := h3 (n - 1) q; rw [if_pos (by omega)] at this; exact this)]
 ·rw [if_neg (by omega), h3, if_neg hj, if_neg hj, fB_out M (by omega)]

theorem hilbert_eq {M n : Nat} {l : List Nat} (hM : M ≤ 14) (h0 : 0 < n) (hn : n < 1000) (hs : sm l) (hl : l.length = n) :
  ∃ l', lake_hilbert ((M + 1 : Nat) : Int) (cs l) = some (cs l') ∧ l'.length = n ∧ sm l' ∧ B l' = HB n M (B l) := by
 have hcl := cs_len l
 obtain ⟨l2, a1, a2, a3, a4⟩ := hbends ((2 ^ M : Nat) : Int) n hn M BIG l hM (by rw [big_val]; omega) hs hl
 obtain ⟨l3, b1, b2, b3, b4⟩ := hgray ((2 ^ M : Nat) : Int) n hn (fB n M (B l)) (n - 1) BIG 1 l2 (by omega) (by omega) (by rw [big_val]; omega) a3 a2 (fun j b => by
  rw [a4]
  by_cases hj : j < 1
  ·rw [if_pos hj, show j = 0 by omega]; rfl
  ·rw [if_neg hj])
 obtain ⟨t, t1, t2, t3⟩ := hturn (l3.getD (n - 1) 0) (b3 _) M BIG 0 hM (by rw [big_val]; omega) (by decide)
 obtain ⟨l4, c1, c2, c3, c4⟩ := hall n hn t t2 (cs l3) (by rw [cs_len, b2]) n BIG 0 l3 (by omega) (by rw [big_val]; omega) b3 b2
 refine ⟨l4, ?_, c2, c3, hil_bits h0 l b4 (fun j b => ?_)⟩
 ·unfold lake_hilbert slices_Clone_int_int
  have hne : cs l ≠ [] := fun e => by have := congrArg List.length e; simp only [List.length_nil] at this; omega
  rw [grd_pos hne, grd_pos (by simp; omega), bnd_some', List.nil_append, w64 (by omega) (by omega), show ((M + 1 : Nat) : Int) - 1 = (M : Int) by omega, grd_pos (by omega), top_pow hM, bnd_some']
  refine a1.trans ?_
  unfold lake_hilbert_j2
  refine b1.trans ?_
  unfold lake_hilbert_j3 lake_turned
  rw [cs_len, b2, w64 (by omega) (by omega), show ((n : Int) - 1) = ((n - 1 : Nat) : Int) by omega, cs_at (by omega), bnd_some']
  rw [show (0 : Int) = ((0 : Nat) : Int) from rfl, t1, bnd_some']
  exact c1
 ·rw [c4, t3, Nat.zero_testBit, Bool.false_xor]

/- the reference -/
section ref
variable (p2 : List Int) (M n : Nat) (hM : M ≤ 14) (h0 : 0 < n) (hp : p2.length = n) (hn : n < 1000)

theorem rb_step (rec1 : List Int → Int → Option (List Int)) (x1 : Int) (k : Nat) (l2 : List Int) (x2 : Int) :
  ref4_bent_l2 rec1 p2 x1 (k + 1) l2 x2 = ift (decide (x2 < (p2.length : Int))) (bnd (lake_bend_s x2 x1 l2) fun r => ref4_bent_l2 rec1 p2 x1 k r.2 (IntKind.i64.wrap (x2 + 1))) (ref4_bent_j2 rec1 x1 l2) := by
 rw [ref4_bent_l2, List.nil_append]
 congr 1
 unfold lake_bend_s ref4_bent_j1
 cases at? l2 x2 with
 | none => rfl
 | some e1 =>
  simp only [bnd_some']
  cases (IntKind.i64.wrap (BitVec.ofInt (IntKind.i64).bits e1 &&& BitVec.ofInt (IntKind.i64).bits x1).toNat != (0 : Int)) with
  | true =>
   simp only [ift_true]
   cases at? l2 0 with
   | none => rfl
   | some e2 => rfl
  | false =>
   simp only [ift_false]
   cases at? l2 0 with
   | none => rfl
   | some e3 =>
    simp only [bnd_some']
    generalize IntKind.i64.wrap _ = q
    cases at? (l2.set (0 : Int).toNat q) x2 with
    | none => rfl
    | some e4 => rfl

include hp hn in
theorem rbend2 (rec1 : List Int → Int → Option (List Int)) (c : Nat) (hc : c ≤ 14) (X : Nat → Nat → Bool) : ∀ (m f i : Nat) (l : List Nat), i + m = n → m < f → sm l → l.length = n → B l = uA c i X →
  ∃ l', ref4_bent_l2 rec1 p2 ((2 ^ c : Nat) : Int) f (cs l) (i : Int) = ref4_bent_j2 rec1 ((2 ^ c : Nat) : Int) (cs l') ∧ l'.length = n ∧ sm l' ∧ B l' = uA c n X := by
 intro m
 induction m with
 | zero =>
  intro f i l hi hf hs hl hB
  obtain ⟨f, rfl⟩ : ∃ q, f = q + 1 := ⟨f - 1, by omega⟩
  have : i = n := by omega
  subst this
  rw [rb_step, hp, show decide ((i : Int) < (i : Int)) = false by simp, ift_false]
  exact ⟨l, rfl, hl, hs, hB⟩
 | succ m ih =>
  intro f i l hi hf hs hl hB
  obtain ⟨f, rfl⟩ : ∃ q, f = q + 1 := ⟨f - 1, by omega⟩
  obtain ⟨l2, e1, e2, e3, e4⟩ := bend_eq hs (show i < l.length by omega) hc
  rw [rb_step, hp, show decide ((i : Int) < (n : Int)) = true by simp; omega, ift_true, e1, bnd_some', nxt (by omega)]
  exact ih f (i + 1) l2 (by omega) (by omega) e3 (by omega) (by rw [e4, hB]; rfl)

include hp hn in
theorem rbends2 : ∀ (c f : Nat) (l : List Nat), c ≤ 14 → c < f → sm l → l.length = n →
  ∃ l', ref4_bent_l1 ((M + 1 : Nat) : Int) p2 f (cs l) ((2 ^ c : Nat) : Int) = ref4_bent_j3 ((M + 1 : Nat) : Int) p2 (cs l') ∧ l'.length = n ∧ sm l' ∧ B l' = fB n c (B l)
 | 0, f, l, hc, hf, hs, hl => by
  obtain ⟨f, rfl⟩ : ∃ q, f = q + 1 := ⟨f - 1, by omega⟩
  rw [ref4_bent_l1, show decide ((1 : Int) < ((2 ^ 0 : Nat) : Int)) = false from rfl, ift_false]
  exact ⟨l, rfl, hl, hs, rfl⟩
 | c + 1, f, l, hc, hf, hs, hl => by
  obtain ⟨f, rfl⟩ : ∃ q, f = q + 1 := ⟨f - 1, by omega⟩
  have hp1 := pow_small (c := c) (by omega)
  have h2 : 2 ^ (c + 1) = 2 * 2 ^ c := by rw [Nat.pow_succ]; omega
  obtain ⟨l1, e1, e2, e3, e4⟩ := rbend2 p2 n hp hn (ref4_bent_l1 ((M + 1 : Nat) : Int) p2 f) (c + 1) hc (B l) n BIG 0 l (by omega) (by rw [big_val]; omega) hs hl rfl
  obtain ⟨l2, d1, d2, d3, d4⟩ := rbends2 c f l1 (by omega) (by omega) e3 e2
  refine ⟨l2, ?_, d2, d3, ?_⟩
  ·rw [ref4_bent_l1, show decide ((1 : Int) < ((2 ^ (c + 1) : Nat) : Int)) = true by rw [decide_eq_true_eq]; omega, ift_true]
   refine e1.trans ?_
   unfold ref4_bent_j2
   rw [half_pow hc]
   exact d1
  ·rw [d4, e4]; rfl

include hp hn in
theorem rgray2 (X : Nat → Nat → Bool) : ∀ (m f i : Nat) (l : List Nat), i + m = n → 1 ≤ i → m < f → sm l → l.length = n → (∀ j b, B l j b = if j < i then pB X j b else X j b) →
  ∃ l', ref4_bent_l3 ((M + 1 : Nat) : Int) p2 f (cs l) (i : Int) = ref4_bent_j4 ((M + 1 : Nat) : Int) p2 (cs l') ∧ l'.length = n ∧ sm l' ∧ ∀ j b, B l' j b = if j < n then pB X j b else X j b := by
 intro m
 induction m with
 | zero =>
  intro f i l hi h1 hf hs hl hB
  obtain ⟨f, rfl⟩ : ∃ q, f = q + 1 := ⟨f - 1, by omega⟩
  have : i = n := by omega
  subst this
  rw [ref4_bent_l3, List.nil_append, hp, show decide ((i : Int) < (i : Int)) = false by simp, ift_false]
  exact ⟨l, rfl, hl, hs, hB⟩
 | succ m ih =>
  intro f i l hi h1 hf hs hl hB
  obtain ⟨f, rfl⟩ : ∃ q, f = q + 1 := ⟨f - 1, by omega⟩
  have hil : i < l.length := by omega
  have si := hs i
  have sj := hs (i - 1)
  rw [ref4_bent_l3, List.nil_append, hp, show decide ((i : Int) < (n : Int)) = true by simp; omega, ift_true, cs_at hil, bnd_some', show IntKind.i64.wrap ((i : Int) - 1) = ((i - 1 : Nat) : Int) by rw [w64 (by omega) (by omega)]; omega,
   cs_at (by omega), bnd_some', xor64 _ _ (by omega) (by omega), bnd_some', Int.toNat_natCast, cs_set, nxt (by omega)]
  refine ih f (i + 1) _ (by omega) (by omega) (by omega) (sm_set hil hs (xor_sm si sj)) (by simp; omega) (fun j b => ?_)
  rw [B_set hil, Nat.testBit_xor]
  by_cases hj : j = i
  ·subst hj
   obtain ⟨i, rfl⟩ : ∃ i, j = i + 1 := ⟨j - 1, by omega⟩
   have e1 := hB (i + 1) b
   have e2 := hB i b
   rw [if_neg (by omega)] at e1
   rw [if_pos (by omega)] at e2
   unfold B at e1 e2
   rw [if_pos rfl, if_pos (by omega), Nat.add_sub_cancel, e1, e2]; rfl
  ·rw [if_neg hj, hB]
   by_cases h2 : j < i
   ·rw [if_pos h2, if_pos (by omega)]
   ·rw [if_neg h2, if_neg (by omega)]

include h0 hp hn in
theorem rturn2 (l : List Nat) (hs : sm l) (hl : l.length = n) : ∀ (c f t : Nat), c ≤ 14 → c < f → t < 32768 →
  ∃ t' : Nat, ref4_bent_l4 p2 (cs l) f (t : Int) ((2 ^ c : Nat) : Int) = ref4_bent_j6 (cs l) (t' : Int) ∧ t' < 32768 ∧ ∀ k, t'.testBit k = (t.testBit k ^^ tB (fun q => (l.getD (n - 1) 0).testBit q) c k)
 | 0, f, t, hc, hf, ht => by
  obtain ⟨f, rfl⟩ : ∃ q, f = q + 1 := ⟨f - 1, by omega⟩
  exact ⟨t, by rw [ref4_bent_l4, show decide ((1 : Int) < ((2 ^ 0 : Nat) : Int)) = false from rfl, ift_false], ht, fun k => by rw [tB, Bool.xor_false]⟩
 | c + 1, f, t, hc, hf, ht => by
  obtain ⟨f, rfl⟩ : ∃ q, f = q + 1 := ⟨f - 1, by omega⟩
  have hp1 := pow_small (c := c) (by omega)
  have hq := pow_small (c := c + 1) hc
  have h2 : 2 ^ (c + 1) = 2 * 2 ^ c := by rw [Nat.pow_succ]; omega
  have sl := hs (n - 1)
  rw [ref4_bent_l4, show decide ((1 : Int) < ((2 ^ (c + 1) : Nat) : Int)) = true by rw [decide_eq_true_eq]; omega, ift_true, List.nil_append, hp, w64 (by omega) (by omega), bnd_some', show ((n : Int) - 1) = ((n - 1 : Nat) : Int) by omega, cs_at (by omega), bnd_some',
   and64 _ _ (by omega) (by omega), bnd_some', and_bit]
  unfold ref4_bent_j5
  rw [half_pow hc]
  cases hb : (l.getD (n - 1) 0).testBit (c + 1) with
  | true =>
   rw [ift_true, mask_int hc, xor64 _ _ (by omega) (by omega), bnd_some']
   obtain ⟨t', h3, h4, h5⟩ := rturn2 l hs hl c f _ (by omega) (by omega) (xor_sm ht (show 2 ^ (c + 1) - 1 < 32768 by omega))
   refine ⟨t', h3, h4, fun k => ?_⟩
   rw [h5, Nat.testBit_xor, mask_bit, tB, hb, Bool.and_true]
   cases t.testBit k <;> cases decide (k < c + 1) <;> cases tB (fun q => (l.getD (n - 1) 0).testBit q) c k <;> rfl
  | false =>
   rw [ift_false]
   obtain ⟨t', h3, h4, h5⟩ := rturn2 l hs hl c f t (by omega) (by omega) ht
   refine ⟨t', h3, h4, fun k => ?_⟩
   rw [h5, tB, hb, Bool.and_false, Bool.xor_false]

include hn in
theorem rall2 (t : Nat) (ht : t < 32768) (l6 : List Int) (h6 : l6.length = n) : ∀ (m f i : Nat) (l : List Nat), i + m = n → m < f → sm l → l.length = n →
  ∃ l', ref4_bent_l5 l6 (t : Int) f (cs l) (i : Int) = some (cs l') ∧ l'.length = n ∧ sm l' ∧ ∀ j b, B l' j b = if i ≤ j ∧ j < n then (B l j b ^^ t.testBit b) else B l j b := by
 intro m
 induction m with
 | zero =>
  intro f i l hi hf hs hl
  obtain ⟨f, rfl⟩ : ∃ q, f = q + 1 := ⟨f - 1, by omega⟩
  rw [ref4_bent_l5, h6, show decide ((i : Int) < (n : Int)) = false by rw [decide_eq_false_iff_not]; omega, ift_false]
  exact ⟨l, rfl, hl, hs, fun j b => by rw [if_neg (by omega)]⟩
 | succ m ih =>
  intro f i l hi hf hs hl
  obtain ⟨f, rfl⟩ : ∃ q, f = q + 1 := ⟨f - 1, by omega⟩
  have hil : i < l.length := by omega
  have si := hs i
  rw [ref4_bent_l5, h6, show decide ((i : Int) < (n : Int)) = true by rw [decide_eq_true_eq]; omega, ift_true, cs_at hil, bnd_some', xor64 _ _ (by omega) (by omega), bnd_some', Int.toNat_natCast, cs_set, nxt (by omega)]
  obtain ⟨l2, d1, d2, d3, d4⟩ := ih f (i + 1) _ (by omega) (by omega) (sm_set hil hs (xor_sm si ht)) (by simp; omega)
  refine ⟨l2, d1, d2, d3, fun j b => ?_⟩
  rw [d4, B_set hil, Nat.testBit_xor]
  by_cases h1 : i + 1 ≤ j ∧ j < n
  ·rw [if_pos h1, if_neg (by omega), if_pos (by omega)]
  ·rw [if_neg h1]
   by_cases h2 : j = i
   ·subst h2; rw [if_pos rfl, if_pos (by omega)]; rfl
   ·rw [if_neg h2, if_neg (by omega)]

end ref

theorem bent_eq {M n : Nat} {l : List Nat} (hM : M ≤ 14) (h0 : 0 < n) (hn : n < 1000) (hs : sm l) (hl : l.length = n) :
  ∃ l', ref4_bent ((M + 1 : Nat) : Int) (cs l) = some (cs l') ∧ l'.length = n ∧ sm l' ∧ B l' = HB n M (B l) := by
 have hcl := cs_len l
 have hp : (cs l).length = n := by omega
 obtain ⟨l2, a1, a2, a3, a4⟩ := rbends2 (cs l) M n hp hn M BIG l hM (by rw [big_val]; omega) hs hl
 obtain ⟨l3, b1, b2, b3, b4⟩ := rgray2 (cs l) M n hp hn (fB n M (B l)) (n - 1) BIG 1 l2 (by omega) (by omega) (by rw [big_val]; omega) a3 a2 (fun j b => by
  rw [a4]
  by_cases hj : j < 1
  ·rw [if_pos hj, show j = 0 by omega]; rfl
  ·rw [if_neg hj])
 obtain ⟨t, t1, t2, t3⟩ := rturn2 (cs l) n h0 hp hn l3 b3 b2 M BIG 0 hM (by rw [big_val]; omega) (by decide)
 obtain ⟨l4, c1, c2, c3, c4⟩ := rall2 n hn t t2 (cs l3) (by rw [cs_len, b2]) n BIG 0 l3 (by omega) (by rw [big_val]; omega) b3 b2
 refine ⟨l4, ?_, c2, c3, hil_bits h0 l b4 (fun j b => ?_)⟩
 ·unfold ref4_bent
  rw [grd_pos (by simp; omega), w64 (by omega) (by omega), show ((M + 1 : Nat) : Int) - 1 = (M : Int) by omega, grd_pos (by omega), top_pow hM, bnd_some', List.nil_append]
  refine a1.trans ?_
  unfold ref4_bent_j3
  refine b1.trans ?_
  unfold ref4_bent_j4
  rw [w64 (by omega) (by omega), show ((M + 1 : Nat) : Int) - 1 = (M : Int) by omega, grd_pos (by omega), top_pow hM, bnd_some']
  refine t1.trans ?_
  unfold ref4_bent_j6
  exact c1
 ·rw [c4, t3, Nat.zero_testBit, Bool.false_xor]

end Go.Proofs.Ytbmkkmbgoenllaa
namespace Go.Proofs.Ytbmkkmbgoenllaa
open Go Go.SX Go.SX.Cal Go.Hil
set_option linter.unusedVariables false
set_option linter.unusedSimpArgs false

theorem wv_step {v q : Nat} {W : Nat → Bool} {e : Nat} (he : e < 2) (h : ∀ x, v.testBit x = W (x + (q + 1))) (hb : e.testBit 0 = W q) : ∀ x, (2 * v + e).testBit x = W (x + q)
 | 0 => by
  rw [Nat.zero_add, ← hb, Nat.testBit_zero, Nat.testBit_zero, show (2 * v + e) % 2 = e % 2 by omega]
 | x + 1 => by
  rw [Nat.testBit_succ, show (2 * v + e) / 2 = v by omega, h, show x + 1 + q = x + (q + 1) by omega]

theorem wv_small {v q : Nat} {W : Nat → Bool} (h : ∀ x, v.testBit x = W (x + q)) (hW : ∀ x, 60 ≤ x → W x = false) : v < 1152921504606846976 := by
 have : v < 2 ^ 60 := Nat.lt_pow_two_of_testBit _ (fun x hx => by rw [h, hW _ (by omega)])
 omega

theorem one_bit (a c : Nat) : (a / 2 ^ c % 2).testBit 0 = a.testBit c := by
 rw [Nat.testBit_zero, Nat.mod_mod, Nat.testBit_eq_decide_div_mod_eq]

section
variable {M n : Nat} (hM : M ≤ 14) (hn : 1 ≤ n ∧ n ≤ 4) {l : List Nat} (hs : sm l) (hl : l.length = n)
include hM hn hs hl

omit hM hs hl in
theorem wN_small (hM : M ≤ 14) {X : Nat → Nat → Bool} : ∀ x, 60 ≤ x → wN n M X x = false := fun x hx => by
 have : (M + 1) * n ≤ 15 * 4 := Nat.mul_le_mul (by omega) hn.2
 unfold wN; rw [decide_eq_false (by omega), Bool.false_and]

omit hM hs in
theorem wbit {c i : Nat} (hc : c ≤ M) (hi : i < n) : (l.getD i 0 / 2 ^ c % 2).testBit 0 = wN n M (B l) (c * n + (n - 1 - i)) := by
 rw [one_bit]
 obtain ⟨h1, h2⟩ := pos_mod (b := c) hi
 unfold wN
 rw [h1, h2, decide_eq_true ((pos_lt hi).2 hc), Bool.true_and, show n - 1 - (n - 1 - i) = i by omega]; rfl

theorem lw2 (rec1 : Int → Int → Option Int) (c : Nat) (hc : c ≤ M) : ∀ (m f i v : Nat), i + m = n → m < f → (∀ x, v.testBit x = wN n M (B l) (x + (c * n + (n - i)))) →
  ∃ v' : Nat, lake_woven_l2 rec1 (cs l) (c : Int) f (v : Int) (i : Int) = lake_woven_j1 rec1 (c : Int) (v' : Int) ∧ ∀ x, v'.testBit x = wN n M (B l) (x + c * n) := by
 intro m
 induction m with
 | zero =>
  intro f i v hi hf hv
  obtain ⟨f, rfl⟩ : ∃ q, f = q + 1 := ⟨f - 1, by omega⟩
  have : i = n := by omega
  subst this
  rw [lake_woven_l2, cs_len, hl, show decide ((i : Int) < (i : Int)) = false by simp, ift_false]
  exact ⟨v, rfl, fun x => by rw [hv, Nat.sub_self, Nat.add_zero]⟩
 | succ m ih =>
  intro f i v hi hf hv
  obtain ⟨f, rfl⟩ : ∃ q, f = q + 1 := ⟨f - 1, by omega⟩
  have si := hs i
  have hil : i < l.length := by omega
  have hstep := wv_step (v := v) (q := c * n + (n - 1 - i)) (W := wN n M (B l)) (e := l.getD i 0 / 2 ^ c % 2) (Nat.mod_lt _ (by decide)) (fun x => by rw [hv, show x + (c * n + (n - i)) = x + (c * n + (n - 1 - i) + 1) by omega]) (wbit hn hl hc (by omega))
  have hsmall := wv_small hstep (wN_small hn hM)
  have hsh : IntKind.i64.wrap ((v : Int) * 2 ^ (min (1 : Int).toNat (IntKind.i64).bits)) = ((2 * v : Nat) : Int) := by
   rw [sh1, show ((v : Int) * 2 ^ 1) = ((2 * v : Nat) : Int) by rw [Int.pow_succ]; omega, w64 (by omega) (by omega)]
  have hfd : (((l.getD i 0 : Nat) : Int).fdiv (2 ^ (min (c : Int).toNat (IntKind.i64).bits))) = ((l.getD i 0 / 2 ^ c : Nat) : Int) := by
   rw [Int.toNat_natCast, show min c (IntKind.i64).bits = c from Nat.min_eq_left (by show c ≤ 64; omega), Int.fdiv_eq_ediv_of_nonneg _ (by exact Int.le_of_lt (Int.pow_pos (by decide)))]
   rw [Int.natCast_ediv]; push_cast; rfl
  have hq : l.getD i 0 / 2 ^ c ≤ l.getD i 0 := Nat.div_le_self _ _
  have hand : (l.getD i 0 / 2 ^ c) &&& 1 = l.getD i 0 / 2 ^ c % 2 := Nat.and_one_is_mod _
  have hor : (2 * v) ||| (l.getD i 0 / 2 ^ c % 2) = 2 * v + l.getD i 0 / 2 ^ c % 2 := by
   have := Nat.two_pow_add_eq_or_of_lt (i := 1) (b := l.getD i 0 / 2 ^ c % 2) (Nat.mod_lt _ (by decide)) v
   rw [Nat.pow_one] at this
   exact this.symm
  rw [lake_woven_l2, cs_len, hl, show decide ((i : Int) < (n : Int)) = true by simp; omega, ift_true, cs_at hil, bnd_some', hsh, bnd_some', grd_pos (by omega), hfd, and64_1 _ (by omega), hand, bnd_some', or64 _ _ (by omega) (by omega), hor, bnd_some', nxt (by omega)]
  exact ih f (i + 1) _ (by omega) (by omega) (fun x => by rw [hstep, show c * n + (n - 1 - i) = c * n + (n - (i + 1)) by omega])

theorem lw1 : ∀ (k f v : Nat), k ≤ M + 1 → k < f → (∀ x, v.testBit x = wN n M (B l) (x + k * n)) →
  ∃ v' : Nat, lake_woven_l1 (cs l) f (v : Int) ((k : Int) - 1) = some (v' : Int) ∧ ∀ x, v'.testBit x = wN n M (B l) x
 | 0, f, v, hk, hf, hv => by
  obtain ⟨f, rfl⟩ : ∃ q, f = q + 1 := ⟨f - 1, by omega⟩
  exact ⟨v, by rw [lake_woven_l1, show decide ((0 : Int) ≤ ((0 : Nat) : Int) - 1) = false from rfl, ift_false]; rfl, fun x => by rw [hv, Nat.zero_mul, Nat.add_zero]⟩
 | k + 1, f, v, hk, hf, hv => by
  obtain ⟨f, rfl⟩ : ∃ q, f = q + 1 := ⟨f - 1, by omega⟩
  obtain ⟨v1, h1, h2⟩ := lw2 hM hn hs hl (lake_woven_l1 (cs l) f) k (by omega) n BIG 0 v (by omega) (by rw [big_val]; omega) (fun x => by rw [hv, Nat.sub_zero, Nat.add_mul, Nat.one_mul])
  obtain ⟨v2, h3, h4⟩ := lw1 k f v1 (by omega) (by omega) h2
  refine ⟨v2, ?_, h4⟩
  rw [lake_woven_l1, show (((k + 1 : Nat) : Int) - 1) = (k : Int) by omega, show decide ((0 : Int) ≤ (k : Int)) = true by simp, ift_true]
  refine h1.trans ?_
  unfold lake_woven_j1
  rw [w64 (by omega) (by omega)]
  exact h3

theorem woven_eq : ∃ v : Nat, lake_woven ((M + 1 : Nat) : Int) (cs l) = some (v : Int) ∧ ∀ x, v.testBit x = wN n M (B l) x := by
 obtain ⟨v, h1, h2⟩ := lw1 hM hn hs hl (M + 1) BIG 0 (by omega) (by rw [big_val]; omega) (fun x => by rw [Nat.zero_testBit]; unfold wN; rw [decide_eq_false (by omega), Bool.false_and])
 refine ⟨v, ?_, h2⟩
 unfold lake_woven
 rw [w64 (by omega) (by omega)]
 exact h1

theorem rw2 (rec1 : Int → Int → Option Int) (c : Nat) (hc : c ≤ M) : ∀ (m f i v : Nat), i + m = n → m < f → (∀ x, v.testBit x = wN n M (B l) (x + (c * n + (n - i)))) →
  ∃ v' : Nat, ref4_bitsOf_l2 rec1 (cs l) (c : Int) f (v : Int) (i : Int) = ref4_bitsOf_j1 rec1 (c : Int) (v' : Int) ∧ ∀ x, v'.testBit x = wN n M (B l) (x + c * n) := by
 intro m
 induction m with
 | zero =>
  intro f i v hi hf hv
  obtain ⟨f, rfl⟩ : ∃ q, f = q + 1 := ⟨f - 1, by omega⟩
  have : i = n := by omega
  subst this
  rw [ref4_bitsOf_l2, cs_len, hl, show decide ((i : Int) < (i : Int)) = false by simp, ift_false]
  exact ⟨v, rfl, fun x => by rw [hv, Nat.sub_self, Nat.add_zero]⟩
 | succ m ih =>
  intro f i v hi hf hv
  obtain ⟨f, rfl⟩ : ∃ q, f = q + 1 := ⟨f - 1, by omega⟩
  have si := hs i
  have hil : i < l.length := by omega
  have hstep := wv_step (v := v) (q := c * n + (n - 1 - i)) (W := wN n M (B l)) (e := l.getD i 0 / 2 ^ c % 2) (Nat.mod_lt _ (by decide)) (fun x => by rw [hv, show x + (c * n + (n - i)) = x + (c * n + (n - 1 - i) + 1) by omega]) (wbit hn hl hc (by omega))
  have hsmall := wv_small hstep (wN_small hn hM)
  have hfd : (((l.getD i 0 : Nat) : Int).fdiv (2 ^ (min (c : Int).toNat (IntKind.i64).bits))) = ((l.getD i 0 / 2 ^ c : Nat) : Int) := by
   rw [Int.toNat_natCast, show min c (IntKind.i64).bits = c from Nat.min_eq_left (by show c ≤ 64; omega), Int.fdiv_eq_ediv_of_nonneg _ (by exact Int.le_of_lt (Int.pow_pos (by decide)))]
   rw [Int.natCast_ediv]; push_cast; rfl
  have htm : (((l.getD i 0 / 2 ^ c : Nat) : Int).tmod 2) = ((l.getD i 0 / 2 ^ c % 2 : Nat) : Int) := by
   generalize l.getD i 0 / 2 ^ c = q
   rw [Int.tmod_eq_emod_of_nonneg (by omega)]; omega
  rw [ref4_bitsOf_l2, cs_len, hl, show decide ((i : Int) < (n : Int)) = true by simp; omega, ift_true, cs_at hil, bnd_some', grd_pos (by omega), hfd, htm, w64 (x := (2 : Int) * (v : Int)) (by omega) (by omega), w64 (by omega) (by omega), bnd_some', nxt (by omega),
   show (2 : Int) * (v : Int) + ((l.getD i 0 / 2 ^ c % 2 : Nat) : Int) = ((2 * v + l.getD i 0 / 2 ^ c % 2 : Nat) : Int) by omega]
  exact ih f (i + 1) _ (by omega) (by omega) (fun x => by rw [hstep, show c * n + (n - 1 - i) = c * n + (n - (i + 1)) by omega])

theorem rw1 : ∀ (k f v : Nat), k ≤ M + 1 → k < f → (∀ x, v.testBit x = wN n M (B l) (x + k * n)) →
  ∃ v' : Nat, ref4_bitsOf_l1 (cs l) f (v : Int) ((k : Int) - 1) = some (v' : Int) ∧ ∀ x, v'.testBit x = wN n M (B l) x
 | 0, f, v, hk, hf, hv => by
  obtain ⟨f, rfl⟩ : ∃ q, f = q + 1 := ⟨f - 1, by omega⟩
  exact ⟨v, by rw [ref4_bitsOf_l1, show decide ((0 : Int) ≤ ((0 : Nat) : Int) - 1) = false from rfl, ift_false]; rfl, fun x => by rw [hv, Nat.zero_mul, Nat.add_zero]⟩
 | k + 1, f, v, hk, hf, hv => by
  obtain ⟨f, rfl⟩ : ∃ q, f = q + 1 := ⟨f - 1, by omega⟩
  obtain ⟨v1, h1, h2⟩ := rw2 hM hn hs hl (ref4_bitsOf_l1 (cs l) f) k (by omega) n BIG 0 v (by omega) (by rw [big_val]; omega) (fun x => by rw [hv, Nat.sub_zero, Nat.add_mul, Nat.one_mul])
  obtain ⟨v2, h3, h4⟩ := rw1 k f v1 (by omega) (by omega) h2
  refine ⟨v2, ?_, h4⟩
  rw [ref4_bitsOf_l1, show (((k + 1 : Nat) : Int) - 1) = (k : Int) by omega, show decide ((0 : Int) ≤ (k : Int)) = true by simp, ift_true]
  refine h1.trans ?_
  unfold ref4_bitsOf_j1
  rw [w64 (by omega) (by omega)]
  exact h3

theorem bitsOf_eq : ∃ v : Nat, ref4_bitsOf ((M + 1 : Nat) : Int) (cs l) = some (v : Int) ∧ ∀ x, v.testBit x = wN n M (B l) x := by
 obtain ⟨v, h1, h2⟩ := rw1 hM hn hs hl (M + 1) BIG 0 (by omega) (by rw [big_val]; omega) (fun x => by rw [Nat.zero_testBit]; unfold wN; rw [decide_eq_false (by omega), Bool.false_and])
 refine ⟨v, ?_, h2⟩
 unfold ref4_bitsOf
 rw [w64 (by omega) (by omega)]
 exact h1

end

def inr (M : Nat) (p : List Int) : Prop := ∀ (j : Nat) (h : j < p.length), 0 ≤ p[j] ∧ p[j] < ((2 ^ (M + 1) : Nat) : Int)

theorem pow15 {M : Nat} (hM : M ≤ 14) : 2 ^ (M + 1) ≤ 32768 ∧ 1 ≤ 2 ^ (M + 1) := ⟨Nat.le_trans (Nat.pow_le_pow_right (by decide) (show M + 1 ≤ 15 by omega)) (by decide), Nat.one_le_two_pow⟩

theorem pow_big {M : Nat} (hM : M ≤ 14) : IntKind.i64.wrap ((1 : Int) * 2 ^ (min (((M + 1 : Nat) : Int)).toNat (IntKind.i64).bits)) = ((2 ^ (M + 1) : Nat) : Int) := by
 have := pow15 hM
 rw [Int.toNat_natCast, show min (M + 1) (IntKind.i64).bits = M + 1 from Nat.min_eq_left (by show M + 1 ≤ 64; omega), show ((1 : Int) * 2 ^ (M + 1)) = ((2 ^ (M + 1) : Nat) : Int) by rw [Int.one_mul]; push_cast; rfl, w64 (by omega) (by omega)]

theorem inr_cs {M : Nat} (hM : M ≤ 14) {p : List Int} (h : inr M p) : ∃ l : List Nat, p = cs l ∧ l.length = p.length ∧ sm l ∧ ∀ j, l.getD j 0 < 2 ^ (M + 1) := by
 have hp := pow15 hM
 have hb : ∀ j, (p.map Int.toNat).getD j 0 < 2 ^ (M + 1) := fun j => by
  by_cases hj : j < p.length
  ·have := h j hj
   simp only [List.getD, List.getElem?_map, List.getElem?_eq_getElem hj, Option.map_some, Option.getD_some]
   omega
  ·simp only [List.getD, List.getElem?_map, List.getElem?_eq_none (Nat.le_of_not_lt hj), Option.map_none, Option.getD_none]; omega
 refine ⟨p.map Int.toNat, ?_, by simp, fun j => by have := hb j; omega, hb⟩
 unfold cs
 rw [List.map_map]
 refine List.ext_getElem (by simp) (fun j h1 h2 => ?_)
 have := h j h1
 simp only [List.getElem_map, Function.comp]
 omega

theorem lst_ok {M n : Nat} {l : List Nat} (hl : l.length = n) (h : ∀ j, l.getD j 0 < 2 ^ (M + 1)) : Okk n M (B l) := by
 refine ⟨fun j b hj => ?_, fun j b hb => ?_⟩
 ·unfold B; rw [show l.getD j 0 = 0 by simp only [List.getD]; rw [List.getElem?_eq_none (by omega)]; rfl, Nat.zero_testBit]
 ·unfold B; exact Nat.testBit_lt_two_pow (Nat.lt_of_lt_of_le (h j) (Nat.pow_le_pow_right (by decide) (by omega)))

theorem curve_ok2 {k bits n : Nat} (hk : k = 1 ∨ k = 2) (hb : 1 ≤ bits ∧ bits ≤ 15) (hn : 1 ≤ n ∧ n ≤ 4) : lake_curve (k : Int) (bits : Int) (n : Int) = some 0 := by
 have h1 : lake_curve (1 : Int) (bits : Int) (n : Int) = some 0 := by
  unfold lake_curve lake_curve_j1
  rw [show ((1 : Int) != 1) = false from rfl, ift_false, show decide ((bits : Int) < 1) = false by rw [decide_eq_false_iff_not]; omega, ift_false,
   show decide ((15 : Int) < (bits : Int)) = false by rw [decide_eq_false_iff_not]; omega, ift_false, show decide ((4 : Int) < (n : Int)) = false by rw [decide_eq_false_iff_not]; omega, ift_false,
   show decide ((n : Int) < 1) = false by rw [decide_eq_false_iff_not]; omega, ift_false]
 rcases hk with rfl | rfl
 ·exact h1
 ·exact curve_ok hb hn

theorem curve_same (p1 p2 p3 : Int) : ref4_curved p1 p2 p3 = lake_curve p1 p2 p3 := by
 have hj : ∀ b, ref4_curved_j1 p3 b = lake_curve_j1 p3 b := fun b => by
  unfold ref4_curved_j1 lake_curve_j1
  rw [show decide (p3 ≤ 0) = decide (p3 < 1) by rw [decide_eq_decide]; omega]
 unfold ref4_curved lake_curve
 simp only [hj]

structure Val (k : Nat) (p1 p2 p3 : Int) (M n : Nat) : Prop where
 k1 : p1 = (k : Int)
 b1 : p2 = ((M + 1 : Nat) : Int)
 n1 : p3 = (n : Int)
 hk : k = 1 ∨ k = 2
 hM : M ≤ 14
 hn : 1 ≤ n ∧ n ≤ 4

theorem curve_cases (p1 p2 p3 : Int) : (∃ e, lake_curve p1 p2 p3 = some e ∧ (e != 0) = true) ∨ ∃ k M n, Val k p1 p2 p3 M n := by
 by_cases hv : (p1 = 1 ∨ p1 = 2) ∧ 1 ≤ p2 ∧ p2 ≤ 15 ∧ 1 ≤ p3 ∧ p3 ≤ 4
 ·exact .inr ⟨p1.toNat, (p2 - 1).toNat, p3.toNat, by omega, by omega, by omega, by omega, by omega, by omega⟩
 ·left
  have hj : ∀ b, b = true ∨ ¬ (1 ≤ p3 ∧ p3 ≤ 4) → ∃ e, lake_curve_j1 p3 b = some e ∧ (e != 0) = true := fun b hb => by
   unfold lake_curve_j1
   cases b with
   | true => exact ⟨3, rfl, rfl⟩
   | false =>
    have hb : ¬ (1 ≤ p3 ∧ p3 ≤ 4) := by rcases hb with h | h <;> simp_all
    rw [ift_false]
    by_cases h4 : 4 < p3
    ·rw [decide_eq_true h4]; exact ⟨7, rfl, rfl⟩
    ·rw [decide_eq_false h4, ift_false, decide_eq_true (show p3 < 1 by omega)]; exact ⟨9, rfl, rfl⟩
  have hin : (p1 = 1 ∨ p1 = 2) → ∃ e, ift (decide (p2 < (1 : Int))) (lake_curve_j1 p3 true) (lake_curve_j1 p3 (decide ((15 : Int) < p2))) = some e ∧ (e != 0) = true := fun hp => by
   by_cases h1 : p2 < 1
   ·rw [decide_eq_true h1, ift_true]; exact hj _ (.inl rfl)
   ·rw [decide_eq_false h1, ift_false]
    refine hj _ ?_
    by_cases h2 : 15 < p2
    ·exact .inl (decide_eq_true h2)
    ·exact .inr (fun h => hv ⟨hp, by omega, by omega, h⟩)
  unfold lake_curve
  by_cases h1 : p1 = 1
  ·subst h1; rw [show ((1 : Int) != 1) = false from rfl, ift_false]; exact hin (.inl rfl)
  ·rw [show (p1 != 1) = true from bne_iff_ne.2 h1, ift_true]
   by_cases h2 : p1 = 2
   ·subst h2; rw [show ((2 : Int) != 2) = false from rfl, ift_false]; exact hin (.inr rfl)
   ·rw [show (p1 != 2) = true from bne_iff_ne.2 h2, ift_true]; exact hj _ (.inl rfl)

/- the check of the axes -/
theorem out_l1 {M : Nat} (hM : M ≤ 14) (p : List Int) (hp : p.length < 1000) : ∀ (m f i : Nat), i + m = p.length → m < f →
  ∃ r, slices_IndexFunc_int_int_of_lake_Curve_1_l1 p ((M + 1 : Nat) : Int) f (i : Int) = some r ∧ (0 ≤ r ↔ ∃ (j : Nat) (h : j < p.length), i ≤ j ∧ ¬ (0 ≤ p[j] ∧ p[j] < ((2 ^ (M + 1) : Nat) : Int))) := by
 intro m
 induction m with
 | zero =>
  intro f i hi hf
  obtain ⟨f, rfl⟩ : ∃ q, f = q + 1 := ⟨f - 1, by omega⟩
  refine ⟨-1, ?_, ⟨fun h => by omega, fun ⟨j, h, h1, _⟩ => by omega⟩⟩
  rw [slices_IndexFunc_int_int_of_lake_Curve_1_l1, show decide ((i : Int) < (p.length : Int)) = false by rw [decide_eq_false_iff_not]; omega, ift_false]; rfl
 | succ m ih =>
  intro f i hi hf
  obtain ⟨f, rfl⟩ : ∃ q, f = q + 1 := ⟨f - 1, by omega⟩
  have hil : i < p.length := by omega
  rw [slices_IndexFunc_int_int_of_lake_Curve_1_l1, show decide ((i : Int) < (p.length : Int)) = true by rw [decide_eq_true_eq]; omega, ift_true, at_int hil, bnd_some']
  have hq : lake_Curve_1_s p[i] ((M + 1 : Nat) : Int) = some (decide (¬ (0 ≤ p[i] ∧ p[i] < ((2 ^ (M + 1) : Nat) : Int)))) := by
   unfold lake_Curve_1_s lake_Curve_1_s_j1
   by_cases h0 : p[i] < 0
   ·rw [decide_eq_true h0, ift_true]; congr 1; exact (decide_eq_true (by omega)).symm
   ·rw [decide_eq_false h0, ift_false, grd_pos (by omega), pow_big hM, bnd_some']; congr 1; rw [decide_eq_decide]; omega
  rw [hq, bnd_some']
  by_cases hb : 0 ≤ p[i] ∧ p[i] < ((2 ^ (M + 1) : Nat) : Int)
  ·rw [decide_eq_false (fun h => h hb), ift_false, nxt (by omega)]
   obtain ⟨r, h1, h2⟩ := ih f (i + 1) (by omega) (by omega)
   refine ⟨r, h1, h2.trans ⟨fun ⟨j, h, a, b⟩ => ⟨j, h, by omega, b⟩, fun ⟨j, h, a, b⟩ => ?_⟩⟩
   by_cases hji : j = i
   ·subst hji; exact absurd hb b
   ·exact ⟨j, h, by omega, b⟩
  ·rw [decide_eq_true hb, ift_true]
   exact ⟨_, rfl, ⟨fun _ => ⟨i, hil, Nat.le_refl _, hb⟩, fun _ => by omega⟩⟩

theorem rcurve_in {M n : Nat} (hM : M ≤ 14) (k : Int) (p : List Int) (hp : p.length < 1000) : ∀ (m f i : Nat), i + m = p.length → m < f →
  ref4_Curve_l1 k ((M + 1 : Nat) : Int) p f (i : Int) = if (∃ (j : Nat) (h : j < p.length), i ≤ j ∧ ¬ (0 ≤ p[j] ∧ p[j] < ((2 ^ (M + 1) : Nat) : Int))) then some (0, 3) else ref4_Curve_j2 k ((M + 1 : Nat) : Int) p := by
 intro m
 induction m with
 | zero =>
  intro f i hi hf
  obtain ⟨f, rfl⟩ : ∃ q, f = q + 1 := ⟨f - 1, by omega⟩
  rw [ref4_Curve_l1, show decide ((i : Int) < (p.length : Int)) = false by rw [decide_eq_false_iff_not]; omega, ift_false, if_neg (fun ⟨j, h, h1, _⟩ => by omega)]
 | succ m ih =>
  intro f i hi hf
  obtain ⟨f, rfl⟩ : ∃ q, f = q + 1 := ⟨f - 1, by omega⟩
  have hil : i < p.length := by omega
  rw [ref4_Curve_l1, show decide ((i : Int) < (p.length : Int)) = true by rw [decide_eq_true_eq]; omega, ift_true, at_int hil, bnd_some']
  unfold ref4_Curve_j1
  by_cases hb : 0 ≤ p[i] ∧ p[i] < ((2 ^ (M + 1) : Nat) : Int)
  ·rw [decide_eq_false (show ¬ p[i] < 0 by omega), ift_false, grd_pos (by omega), pow_big hM, bnd_some', decide_eq_false (show ¬ ((2 ^ (M + 1) : Nat) : Int) ≤ p[i] by omega), ift_false, nxt (by omega), ih f (i + 1) (by omega) (by omega)]
   congr 1
   rw [eq_iff_iff]
   refine ⟨fun ⟨j, h, a, b⟩ => ⟨j, h, by omega, b⟩, fun ⟨j, h, a, b⟩ => ?_⟩
   by_cases hji : j = i
   ·subst hji; exact absurd hb b
   ·exact ⟨j, h, by omega, b⟩
  ·rw [if_pos ⟨i, hil, Nat.le_refl _, hb⟩]
   by_cases h0 : p[i] < 0
   ·rw [decide_eq_true h0, ift_true, ift_true]
   ·rw [decide_eq_false h0, ift_false, grd_pos (by omega), pow_big hM, bnd_some', decide_eq_true (show ((2 ^ (M + 1) : Nat) : Int) ≤ p[i] by omega), ift_true]

theorem lcurve_val {k M n : Nat} {p1 p2 p3 : Int} (hv : Val k p1 p2 p3 M n) {l : List Nat} (hl : l.length = n) (hs : ∀ j, l.getD j 0 < 2 ^ (M + 1)) :
  ∃ v : Nat, lake_Curve p1 p2 (cs l) = some ((v : Int), 0) ∧ ref4_Curve p1 p2 (cs l) = some ((v : Int), 0) ∧ ∀ x, v.testBit x = wN n M (KB k n M (B l)) x := by
 obtain ⟨k1, b1, n1, hk, hM, hn⟩ := hv
 subst k1 b1 n1
 have hp := pow15 hM
 have hsm : sm l := fun j => by have := hs j; omega
 have hc : lake_curve (k : Int) ((M + 1 : Nat) : Int) (((cs l).length : Nat) : Int) = some 0 := by rw [cs_len, hl]; exact curve_ok2 hk (by omega) hn
 have hno : ¬ ∃ (j : Nat) (h : j < (cs l).length), 0 ≤ j ∧ ¬ (0 ≤ (cs l)[j] ∧ (cs l)[j] < ((2 ^ (M + 1) : Nat) : Int)) := fun ⟨j, h, _, b⟩ => by
  have e : (cs l)[j] = ((l.getD j 0 : Nat) : Int) := by
   have hj : j < l.length := by rw [← cs_len]; exact h
   have h9 := cs_at hj
   rw [at_int h] at h9
   exact Option.some.inj h9
  have := hs j
  rw [e] at b
  omega
 obtain ⟨r, r1, r2⟩ := out_l1 hM (cs l) (by rw [cs_len]; omega) (cs l).length BIG 0 (by omega) (by rw [big_val, cs_len]; omega)
 have hr : decide ((0 : Int) ≤ r) = false := decide_eq_false (fun h => hno (r2.1 h))
 have hout : slices_ContainsFunc_int_int_of_lake_Curve_1 (cs l) ((M + 1 : Nat) : Int) = some false := by
  unfold slices_ContainsFunc_int_int_of_lake_Curve_1 slices_IndexFunc_int_int_of_lake_Curve_1
  rw [show (0 : Int) = ((0 : Nat) : Int) from rfl, r1, bnd_some']
  exact congrArg some hr
 have hrc := rcurve_in (n := n) hM (k : Int) (cs l) (by rw [cs_len]; omega) (cs l).length BIG 0 (by omega) (by rw [big_val, cs_len]; omega)
 rw [if_neg hno] at hrc
 unfold lake_Curve ref4_Curve
 rw [curve_same, hc, bnd_some', bnd_some', show ((0 : Int) != 0) = false from rfl, ift_false, ift_false, hout, bnd_some', ift_false]
 rw [show ref4_Curve_l1 (k : Int) ((M + 1 : Nat) : Int) (cs l) BIG (0 : Int) = _ from hrc]
 unfold ref4_Curve_j2 ref4_Curve_j3 lake_Curve_j1 KB
 rcases hk with rfl | rfl
 ·rw [show (((1 : Nat) : Int) == 2) = false from rfl, ift_false, ift_false, if_neg (by decide)]
  obtain ⟨v, e1, e2⟩ := woven_eq hM hn hsm hl
  obtain ⟨w, f1, f2⟩ := bitsOf_eq hM hn hsm hl
  have : v = w := Nat.eq_of_testBit_eq (fun x => by rw [e2, f2])
  subst this
  exact ⟨v, by rw [e1, bnd_some'], by rw [f1, bnd_some'], e2⟩
 ·rw [show (((2 : Nat) : Int) == 2) = true from rfl, ift_true, ift_true, if_pos rfl]
  obtain ⟨l1, a1, a2, a3, a4⟩ := hilbert_eq hM (by omega) (by omega) hsm hl
  obtain ⟨l2, c1, c2, c3, c4⟩ := bent_eq hM (by omega) (by omega) hsm hl
  obtain ⟨v, e1, e2⟩ := woven_eq hM hn a3 a2
  obtain ⟨w, f1, f2⟩ := bitsOf_eq hM hn c3 c2
  have : v = w := Nat.eq_of_testBit_eq (fun x => by rw [e2, f2, a4, c4])
  subst this
  exact ⟨v, by rw [a1, bnd_some', e1, bnd_some'], by rw [c1, bnd_some', f1, bnd_some'], fun x => by rw [e2, a4]⟩

theorem curves_same (p1 p2 : Int) (p3 : List Int) : ∃ r, lake_Curve p1 p2 p3 = some r ∧ ref4_Curve p1 p2 p3 = some r ∧ ((r.2 != 0) = true ∨ ∃ k M n l, Val k p1 p2 ((p3.length : Nat) : Int) M n ∧ p3 = cs l ∧ l.length = n ∧ (∀ j, l.getD j 0 < 2 ^ (M + 1)) ∧ r.2 = 0) := by
 rcases curve_cases p1 p2 ((p3.length : Nat) : Int) with ⟨e, h1, h2⟩ | ⟨k, M, n, hv⟩
 ·refine ⟨(0, e), ?_, ?_, .inl h2⟩
  ·unfold lake_Curve; rw [h1, bnd_some', h2, ift_true]
  ·unfold ref4_Curve; rw [curve_same, h1, bnd_some', h2, ift_true]
 ·have hlen : p3.length = n := by have := hv.n1; omega
  have hn4 := hv.hn
  by_cases hin : inr M p3
  ·obtain ⟨l, e1, e2, e3, e4⟩ := inr_cs hv.hM hin
   subst e1
   obtain ⟨v, f1, f2, f3⟩ := lcurve_val hv (by omega) e4
   exact ⟨_, f1, f2, .inr ⟨k, M, n, l, hv, rfl, by omega, e4, rfl⟩⟩
  ·have hex : ∃ (j : Nat) (h : j < p3.length), 0 ≤ j ∧ ¬ (0 ≤ p3[j] ∧ p3[j] < ((2 ^ (M + 1) : Nat) : Int)) := by
    apply Classical.byContradiction
    intro hc
    exact hin (fun j h => Classical.byContradiction (fun hb => hc ⟨j, h, Nat.zero_le _, hb⟩))
   have hc : lake_curve p1 p2 ((p3.length : Nat) : Int) = some 0 := by rw [hv.k1, hv.b1, hv.n1]; exact curve_ok2 hv.hk (by have := hv.hM; omega) hv.hn
   obtain ⟨r, r1, r2⟩ := out_l1 hv.hM p3 (by omega) p3.length BIG 0 (by omega) (by rw [big_val]; omega)
   have hr : decide ((0 : Int) ≤ r) = true := decide_eq_true (r2.2 hex)
   have hrc := rcurve_in (n := n) hv.hM p1 p3 (by omega) p3.length BIG 0 (by omega) (by rw [big_val]; omega)
   rw [if_pos hex] at hrc
   refine ⟨(0, 3), ?_, ?_, .inl rfl⟩
   ·unfold lake_Curve slices_ContainsFunc_int_int_of_lake_Curve_1 slices_IndexFunc_int_int_of_lake_Curve_1
    rw [hc, bnd_some', show ((0 : Int) != 0) = false from rfl, ift_false, hv.b1]
    rw [show slices_IndexFunc_int_int_of_lake_Curve_1_l1 p3 ((M + 1 : Nat) : Int) BIG (0 : Int) = some r from r1, bnd_some', hr, bnd_some', ift_true]
   ·unfold ref4_Curve
    rw [curve_same, hc, bnd_some', show ((0 : Int) != 0) = false from rfl, ift_false, hv.b1]
    exact hrc

end Go.Proofs.Ytbmkkmbgoenllaa
namespace Go.Proofs.Ytbmkkmbgoenllaa
open Go Go.SX Go.SX.Cal Go.Hil
set_option linter.unusedVariables false
set_option linter.unusedSimpArgs false
set_option linter.unusedSectionVars false

theorem gX_YB {n p : Nat} (hn : 1 ≤ n) : gX n p = YB n (uX n fun x => p.testBit x) := by
 funext j b
 unfold gX YB uX
 by_cases j0 : j = 0
 ·subst j0
  rw [if_pos rfl, decide_eq_true (show n - 1 < n by omega), decide_eq_true (show 0 < n by omega), Bool.true_and, Bool.true_and, Bool.true_and, show (b + 1) * n + (n - 1 - (n - 1)) = b * n + (n - 1 - 0) + 1 by rw [Nat.add_mul]; omega]
 ·rw [if_neg j0]
  by_cases hj : j < n
  ·rw [if_pos hj, decide_eq_true hj, decide_eq_true (show j - 1 < n by omega), Bool.true_and, Bool.true_and, Bool.true_and, show b * n + (n - 1 - (j - 1)) = b * n + (n - 1 - j) + 1 by omega]
  ·rw [if_neg hj, decide_eq_false hj, Bool.false_and, Bool.false_and]

theorem zero_past {M n p : Nat} (hp : p < 2 ^ ((M + 1) * n)) : ∀ x, (M + 1) * n ≤ x → p.testBit x = false := fun x hx =>
 Nat.testBit_lt_two_pow (Nat.lt_of_lt_of_le hp (Nat.pow_le_pow_right (by decide) hx))

theorem bn60 {M n : Nat} (hM : M ≤ 14) (hn : 1 ≤ n ∧ n ≤ 4) : (M + 1) * n ≤ 60 ∧ 2 ^ ((M + 1) * n) ≤ 1152921504606846976 ∧ 1 ≤ 2 ^ ((M + 1) * n) ∧ IntKind.i64.wrap (((M + 1 : Nat) : Int) * (n : Int)) = (((M + 1) * n : Nat) : Int) ∧
  IntKind.i64.wrap ((1 : Int) * 2 ^ (min ((((M + 1) * n : Nat) : Int)).toNat (IntKind.i64).bits)) = ((2 ^ ((M + 1) * n) : Nat) : Int) := by
 have hbn : (M + 1) * n ≤ 60 := by
  have := Nat.mul_le_mul (show M + 1 ≤ 15 by omega) hn.2
  omega
 have hp60 : 2 ^ ((M + 1) * n) ≤ 1152921504606846976 := Nat.le_trans (Nat.pow_le_pow_right (by decide) hbn) (by decide)
 have h1 := Nat.one_le_two_pow (n := (M + 1) * n)
 refine ⟨hbn, hp60, h1, ?_, ?_⟩
 ·rw [show (((M + 1 : Nat) : Int) * (n : Int)) = (((M + 1) * n : Nat) : Int) from (Int.natCast_mul _ _).symm, w64 (by omega) (by omega)]
 ·rw [Int.toNat_natCast, show min ((M + 1) * n) (IntKind.i64).bits = (M + 1) * n from Nat.min_eq_left (by show (M + 1) * n ≤ 64; omega), Int.one_mul, show ((2 : Int) ^ ((M + 1) * n)) = ((2 ^ ((M + 1) * n) : Nat) : Int) by push_cast; rfl, w64 (by omega) (by omega)]

theorem zuncurve_eq {M n p : Nat} (hM : M ≤ 14) (hn : 1 ≤ n ∧ n ≤ 4) (hp : p < 2 ^ ((M + 1) * n)) :
  ∃ l, lake_Uncurve 1 ((M + 1 : Nat) : Int) (n : Int) (p : Int) = some (cs l, 0) ∧ l.length = n ∧ sm l ∧ B l = uX n fun x => p.testBit x := by
 obtain ⟨hbn, hp60, _, hw, e2⟩ := bn60 hM hn
 have z : sm (List.replicate n 0) := fun j => by
  simp only [List.getD, List.getElem?_replicate]; split <;> simp
 have zB : ∀ j k, B (List.replicate n 0) j k = false := fun j k => by
  unfold B
  have : (List.replicate n 0).getD j 0 = 0 := by simp only [List.getD, List.getElem?_replicate]; split <;> simp
  rw [this, Nat.zero_testBit]
 obtain ⟨u, u1, u2, u3, u4⟩ := unwoven_eq (p := p) (bits := M + 1) ⟨by omega, by omega⟩ hn (by omega) ((M + 1) * n) BIG 0 (List.replicate n 0) (by omega) (by rw [big_val]; omega) z (by simp)
 refine ⟨u, ?_, u2, u3, ?_⟩
 ·unfold lake_Uncurve lake_Uncurve_j1 lake_unwoven
  have u1' : lake_unwoven_l1 ((M + 1 : Nat) : Int) (n : Int) (p : Int) BIG (List.replicate n (0 : Int)) 0 = some (cs u) := by
   have : cs (List.replicate n 0) = List.replicate n (0 : Int) := by unfold cs; rw [List.map_replicate]; rfl
   rw [← this]; exact u1
  have hc := curve_ok2 (k := 1) (bits := M + 1) (n := n) (.inl rfl) ⟨by omega, by omega⟩ hn
  rw [show lake_curve 1 ((M + 1 : Nat) : Int) (n : Int) = some 0 from hc, bnd_some', show ((0 : Int) != 0) = false from rfl, ift_false, show decide ((p : Int) < 0) = false by rw [decide_eq_false_iff_not]; omega, ift_false, hw, grd_pos (by omega), e2, bnd_some',
   show decide (((2 ^ ((M + 1) * n) : Nat) : Int) ≤ (p : Int)) = false by rw [decide_eq_false_iff_not]; omega, ift_false, grd_pos (by omega), Int.toNat_natCast, u1', bnd_some', show ((1 : Int) == 2) = false from rfl, ift_false]
  rfl
 ·funext j k
  rw [u4, zB, Bool.false_or]
  show _ = (decide (j < n) && p.testBit (k * n + (n - 1 - j)))
  by_cases hj : j < n
  ·by_cases hk : k * n + (n - 1 - j) < (M + 1) * n
   ·rw [decide_eq_true (by omega), decide_eq_true hj]
   ·rw [decide_eq_false (by omega), Bool.false_and, zero_past hp _ (by omega), Bool.and_false]
  ·rw [decide_eq_false (by omega), decide_eq_false hj]

theorem luncurve {k M n p : Nat} {p1 p2 p3 : Int} (hv : Val k p1 p2 p3 M n) (hp : p < 2 ^ ((M + 1) * n)) :
  ∃ l, lake_Uncurve p1 p2 p3 (p : Int) = some (cs l, 0) ∧ l.length = n ∧ sm l ∧ B l = JB k n M (uX n fun x => p.testBit x) := by
 obtain ⟨k1, b1, n1, hk, hM, hn⟩ := hv
 subst k1 b1 n1
 rcases hk with rfl | rfl
 ·obtain ⟨l, h1, h2, h3, h4⟩ := zuncurve_eq hM hn hp
  exact ⟨l, h1, h2, h3, by rw [h4]; rfl⟩
 ·obtain ⟨l, h1, h2, h3, h4⟩ := uncurve_eq hM hn hp
  exact ⟨l, h1, h2, h3, by rw [h4, gX_YB hn.1]; rfl⟩

/- the reference -/
theorem corner_ex : ∀ (n : Nat) (g : Nat → Bool), ∃ c : Nat, c < 2 ^ n ∧ ∀ j, j < n → c.testBit j = g j
 | 0, g => ⟨0, by decide, fun j h => by omega⟩
 | n + 1, g => by
  obtain ⟨c, h1, h2⟩ := corner_ex n (fun j => g (j + 1))
  refine ⟨2 * c + (g 0).toNat, ?_, fun j hj => ?_⟩
  ·have : (g 0).toNat < 2 := by cases g 0 <;> decide
   rw [Nat.pow_succ]; omega
  ·cases j with
   | zero => rw [Nat.testBit_zero]; cases g 0 <;> simp <;> omega
   | succ j =>
    have : (g 0).toNat < 2 := by cases g 0 <;> decide
    rw [Nat.testBit_succ, show (2 * c + (g 0).toNat) / 2 = c by omega]
    exact h2 j (by omega)

theorem add_bit {a r e : Nat} (h : ∀ b, b ≤ r → a.testBit b = false) (he : e < 2) (b : Nat) : (a + e * 2 ^ r).testBit b = if b = r then e.testBit 0 else a.testBit b := by
 have hz : a % 2 ^ (r + 1) = 0 := Nat.eq_of_testBit_eq (fun k => by
  rw [Nat.testBit_mod_two_pow, Nat.zero_testBit]
  by_cases hk : k < r + 1
  ·rw [h k (by omega), Bool.and_false]
  ·rw [decide_eq_false hk, Bool.false_and])
 have hd := Nat.div_add_mod a (2 ^ (r + 1))
 rw [hz, Nat.add_zero] at hd
 have h2 : 2 ^ (r + 1) = 2 * 2 ^ r := by rw [Nat.pow_succ]; omega
 have hpos := Nat.one_le_two_pow (n := r)
 have hlt : e * 2 ^ r < 2 ^ (r + 1) := by
  have : e = 0 ∨ e = 1 := by omega
  rcases this with rfl | rfl <;> omega
 have ha : ∀ b, ¬ b < r + 1 → a.testBit b = (a / 2 ^ (r + 1)).testBit (b - (r + 1)) := fun b hb => by
  rw [Nat.testBit_div_two_pow]; congr 1; omega
 rw [← hd, Nat.testBit_two_pow_mul_add _ hlt, hd]
 by_cases hb : b < r + 1
 ·rw [if_pos hb]
  have : e = 0 ∨ e = 1 := by omega
  rcases this with rfl | rfl
  ·rw [Nat.zero_mul, Nat.zero_testBit]
   by_cases hbr : b = r
   ·rw [if_pos hbr]; rfl
   ·rw [if_neg hbr, h b (by omega)]
  ·rw [Nat.one_mul, Nat.testBit_two_pow]
   by_cases hbr : b = r
   ·rw [if_pos hbr, decide_eq_true hbr.symm]; rfl
   ·rw [if_neg hbr, decide_eq_false (fun e => hbr e.symm), h b (by omega)]
 ·rw [if_neg hb, if_neg (by omega), ha b hb]

theorem B_inj {a b : List Nat} (hl : a.length = b.length) (h : B a = B b) : a = b := by
 refine List.ext_getElem hl (fun j h1 h2 => ?_)
 have : a.getD j 0 = b.getD j 0 := Nat.eq_of_testBit_eq (fun k => congrFun (congrFun h j) k)
 simpa [List.getD, h1, h2] using this

section
variable {k M n : Nat} (hk : k = 1 ∨ k = 2) (hM : M ≤ 14) (hn : 1 ≤ n ∧ n ≤ 4) {x3 : Nat} (hx : x3 < M + 1)
include hk hM hn hx

theorem ru3 (rec1 : List Int → Int → Option ((List Int) × Int)) (rec2 : Int → Option ((List Int) × Int)) (p4 : Int) (x2 : List Int) (h2 : x2.length = n) (lx : List Nat) (hlx : ∀ j b, b ≤ M - x3 → B lx j b = false) (hlv : ∀ j b, M < b → B lx j b = false) (c : Nat) (hc : c < 16) :
  ∀ (m f i : Nat) (l : List Nat), i + m = n → m < f → sm l → l.length = n → (∀ j b, B l j b = if j < i ∧ b = M - x3 then c.testBit j else B lx j b) →
  ∃ l', ref4_Uncurve_l3 rec1 rec2 (k : Int) ((M + 1 : Nat) : Int) (n : Int) p4 x2 (x3 : Int) (c : Int) f (cs l) (i : Int) = ref4_Uncurve_j2 rec1 rec2 (k : Int) ((M + 1 : Nat) : Int) (n : Int) p4 (x3 : Int) (c : Int) (cs l') ∧ l'.length = n ∧ sm l' ∧ ∀ j b, B l' j b = if j < n ∧ b = M - x3 then c.testBit j else B lx j b := by
 intro m
 induction m with
 | zero =>
  intro f i l hi hf hs hl hB
  obtain ⟨f, rfl⟩ : ∃ q, f = q + 1 := ⟨f - 1, by omega⟩
  have : i = n := by omega
  subst this
  rw [ref4_Uncurve_l3, List.nil_append, h2, show decide ((i : Int) < (i : Int)) = false by simp, ift_false]
  exact ⟨l, rfl, hl, hs, hB⟩
 | succ m ih =>
  intro f i l hi hf hs hl hB
  obtain ⟨f, rfl⟩ : ∃ q, f = q + 1 := ⟨f - 1, by omega⟩
  have hil : i < l.length := by omega
  have si := hs i
  have hr : M - x3 ≤ 14 := by omega
  have hpr := pow_small hr
  have he : c / 2 ^ i % 2 < 2 := Nat.mod_lt _ (by decide)
  have hfd : ((c : Int).fdiv (2 ^ (min (i : Int).toNat (IntKind.i64).bits))) = ((c / 2 ^ i : Nat) : Int) := by
   rw [Int.toNat_natCast, show min i (IntKind.i64).bits = i from Nat.min_eq_left (by show i ≤ 64; omega), Int.fdiv_eq_ediv_of_nonneg _ (by exact Int.le_of_lt (Int.pow_pos (by decide)))]
   rw [Int.natCast_ediv]; push_cast; rfl
  have htm : (((c / 2 ^ i : Nat) : Int).tmod 2) = ((c / 2 ^ i % 2 : Nat) : Int) := by
   generalize c / 2 ^ i = q
   rw [Int.tmod_eq_emod_of_nonneg (by omega)]; omega
  have hle : c / 2 ^ i % 2 * 2 ^ (M - x3) ≤ 16384 := by
   have : c / 2 ^ i % 2 ≤ 1 := by omega
   have := Nat.mul_le_mul this hpr.1
   omega
  have hsh : IntKind.i64.wrap (((c / 2 ^ i % 2 : Nat) : Int) * 2 ^ (min (((M - x3 : Nat) : Int)).toNat (IntKind.i64).bits)) = ((c / 2 ^ i % 2 * 2 ^ (M - x3) : Nat) : Int) := by
   rw [Int.toNat_natCast, show min (M - x3) (IntKind.i64).bits = M - x3 from Nat.min_eq_left (by show M - x3 ≤ 64; omega)]
   rw [show (((c / 2 ^ i % 2 : Nat) : Int) * 2 ^ (M - x3)) = ((c / 2 ^ i % 2 * 2 ^ (M - x3) : Nat) : Int) by push_cast; rfl, w64 (by omega) (by omega)]
  have hlow : ∀ b, b ≤ M - x3 → (l.getD i 0).testBit b = false := fun b hb => by
   have := hB i b
   rw [if_neg (by omega), hlx i b hb] at this
   exact this
  have hadd := add_bit hlow he
  rw [ref4_Uncurve_l3, List.nil_append, h2, show decide ((i : Int) < (n : Int)) = true by rw [decide_eq_true_eq]; omega, ift_true, cs_at hil, bnd_some', grd_pos (by omega), rest_eq hM hn hx, grd_pos (by omega), hfd, htm, hsh, bnd_some', nxt (by omega), Int.toNat_natCast,
   w64 (by omega) (by omega), show (((l.getD i 0 : Nat) : Int) + ((c / 2 ^ i % 2 * 2 ^ (M - x3) : Nat) : Int)) = ((l.getD i 0 + c / 2 ^ i % 2 * 2 ^ (M - x3) : Nat) : Int) by omega, cs_set]
  have hsm : l.getD i 0 + c / 2 ^ i % 2 * 2 ^ (M - x3) < 32768 := by
   have : l.getD i 0 + c / 2 ^ i % 2 * 2 ^ (M - x3) < 2 ^ 15 := Nat.lt_pow_two_of_testBit _ (fun b hb => by
    rw [hadd, if_neg (by omega)]
    exact Nat.testBit_lt_two_pow (Nat.lt_of_lt_of_le si (Nat.pow_le_pow_right (n := 2) (i := 15) (by decide) hb)))
   omega
  refine ih f (i + 1) _ (by omega) (by omega) (sm_set hil hs hsm) (by simp; omega) (fun j b => ?_)
  rw [B_set hil, hadd]
  by_cases hj : j = i
  ·subst hj
   rw [if_pos rfl]
   by_cases hb : b = M - x3
   ·rw [if_pos hb, if_pos ⟨by omega, hb⟩, one_bit]
   ·rw [if_neg hb, if_neg (fun h => hb h.2)]
    have := hB j b
    rw [if_neg (by omega)] at this
    exact this
  ·rw [if_neg hj, hB]
   by_cases hb : j < i ∧ b = M - x3
   ·rw [if_pos hb, if_pos ⟨by omega, hb.2⟩]
   ·rw [if_neg hb, if_neg (fun h => hb ⟨by omega, h.2⟩)]

theorem div_iff {v p s : Nat} : v / 2 ^ s = p / 2 ^ s ↔ ∀ x, s ≤ x → v.testBit x = p.testBit x := by
 constructor
 ·intro h x hx
  have := congrArg (fun q => q.testBit (x - s)) h
  simp only [Nat.testBit_div_two_pow] at this
  rw [show x - s + s = x by omega] at this
  exact this
 ·intro h
  exact Nat.eq_of_testBit_eq (fun x => by rw [Nat.testBit_div_two_pow, Nat.testBit_div_two_pow]; exact h _ (by omega))

theorem ru2 (rec1 : List Int → Int → Option ((List Int) × Int)) (p : Nat) (hp : p < 2 ^ ((M + 1) * n)) (T : Nat → Nat → Bool) (hT : Okk n M T) (hpT : ∀ x, p.testBit x = wN n M (KB k n M T) x) (lx : List Nat) (hl : lx.length = n) (hs : sm lx)
  (hB : ∀ j b, B lx j b = (decide (M - x3 < b) && T j b)) :
  ∃ l', ref4_Uncurve_l2 rec1 (k : Int) ((M + 1 : Nat) : Int) (n : Int) (p : Int) (cs lx) (x3 : Int) BIG 0 = rec1 (cs l') ((x3 + 1 : Nat) : Int) ∧ l'.length = n ∧ sm l' ∧ ∀ j b, B l' j b = (decide (M - x3 ≤ b) && T j b) := by
 obtain ⟨c, hc, hcT⟩ := corner_ex n (fun j => T j (M - x3))
 have hpw : 2 ^ n ≤ 16 := Nat.le_trans (Nat.pow_le_pow_right (by decide) hn.2) (by decide)
 have e2 : IntKind.i64.wrap ((1 : Int) * 2 ^ (min ((n : Int)).toNat (IntKind.i64).bits)) = ((2 ^ n : Nat) : Int) := top_pow (by omega)
 have hmul : (M - x3) * n ≤ 56 := Nat.mul_le_mul (show M - x3 ≤ 14 by omega) hn.2
 have hw : IntKind.i64.wrap (((M - x3 : Nat) : Int) * (n : Int)) = (((M - x3) * n : Nat) : Int) := by
  rw [← Int.natCast_mul, w64 (by omega) (by omega)]
 have hlow : ∀ j b, b ≤ M - x3 → B lx j b = false := fun j b hb => by rw [hB, decide_eq_false (by omega), Bool.false_and]
 have hlv : ∀ j b, M < b → B lx j b = false := fun j b hb => by rw [hB, hT.lv j b hb, Bool.and_false]
 have hfd : ∀ a : Nat, ((a : Int).fdiv (2 ^ (min ((((M - x3) * n : Nat) : Int)).toNat (IntKind.i64).bits))) = ((a / 2 ^ ((M - x3) * n) : Nat) : Int) := fun a => by
  rw [Int.toNat_natCast, show min ((M - x3) * n) (IntKind.i64).bits = (M - x3) * n from Nat.min_eq_left (by show (M - x3) * n ≤ 64; omega), Int.fdiv_eq_ediv_of_nonneg _ (by exact Int.le_of_lt (Int.pow_pos (by decide)))]
  rw [Int.natCast_ediv]; push_cast; rfl
 have hval : Val k (k : Int) ((M + 1 : Nat) : Int) (n : Int) M n := ⟨rfl, rfl, rfl, hk, hM, hn⟩
 suffices H : ∀ (m f i : Nat), i + m = c → m < f → ∃ l', ref4_Uncurve_l2 rec1 (k : Int) ((M + 1 : Nat) : Int) (n : Int) (p : Int) (cs lx) (x3 : Int) f (i : Int) = rec1 (cs l') ((x3 + 1 : Nat) : Int) ∧ l'.length = n ∧ sm l' ∧ ∀ j b, B l' j b = (decide (M - x3 ≤ b) && T j b) from
  H c BIG 0 (by omega) (by rw [big_val]; omega)
 intro m
 induction m with
 | zero =>
  intro f i hi hf
  obtain ⟨f, rfl⟩ : ∃ q, f = q + 1 := ⟨f - 1, by omega⟩
  have : i = c := by omega
  subst this
  obtain ⟨y, y1, y2, y3, y4⟩ := ru3 hk hM hn hx rec1 (ref4_Uncurve_l2 rec1 (k : Int) ((M + 1 : Nat) : Int) (n : Int) (p : Int) (cs lx) (x3 : Int) f) (p : Int) (cs lx) (by rw [cs_len, hl]) lx hlow hlv i (by omega) n BIG 0 lx (by omega) (by rw [big_val]; omega) hs hl (fun j b => by rw [if_neg (by omega)])
  have hyB : ∀ j b, B y j b = (decide (M - x3 ≤ b) && T j b) := fun j b => by
   rw [y4]
   by_cases hb : b = M - x3
   ·subst hb
    rw [decide_eq_true (Nat.le_refl _), Bool.true_and]
    by_cases hj : j < n
    ·rw [if_pos ⟨hj, rfl⟩]; exact hcT j hj
    ·rw [if_neg (fun h => hj h.1), hlow _ _ (Nat.le_refl _), hT.ax _ _ (by omega)]
   ·rw [if_neg (fun h => hb h.2), hB]
    by_cases h3 : M - x3 < b
    ·rw [decide_eq_true h3, decide_eq_true (by omega)]
    ·rw [decide_eq_false h3, decide_eq_false (by omega)]
  have hok : Okk n M (B y) := ⟨fun j b hj => by rw [hyB, hT.ax j b hj, Bool.and_false], fun j b hb => by rw [hyB, hT.lv j b hb, Bool.and_false]⟩
  have hyl : ∀ j, y.getD j 0 < 2 ^ (M + 1) := fun j => Nat.lt_pow_two_of_testBit _ (fun b hb => hok.lv j b (by omega))
  obtain ⟨v, v1, v2, v3⟩ := lcurve_val hval y2 hyl
  have hag : Agr (M - x3) (B y) T := fun j b hb => by rw [hyB, decide_eq_true hb, Bool.true_and]
  have heq : v / 2 ^ ((M - x3) * n) = p / 2 ^ ((M - x3) * n) := (div_iff hk hM hn hx).2 (fun x hx => by
   rw [v3, hpT]; exact (wN_agr hn.1 (KB_ok hok) (KB_ok hT)).2 (KB_agr hag) x hx)
  refine ⟨y, ?_, y2, y3, hyB⟩
  rw [ref4_Uncurve_l2, grd_pos (by omega), e2, bnd_some', show decide ((i : Int) < ((2 ^ n : Nat) : Int)) = true by rw [decide_eq_true_eq]; omega, ift_true, grd_pos (by rw [cs_len]; simp; omega), List.nil_append]
  refine y1.trans ?_
  unfold ref4_Uncurve_j2
  rw [v2, bnd_some', rest_eq hM hn hx, hw, bnd_some', grd_pos (by omega), bnd_some', grd_pos (by omega), hfd, hfd, bnd_some', heq, beq_self_eq_true, ift_true]
  unfold ref4_Uncurve_j3
  rw [nxt (by omega)]
 | succ m ih =>
  intro f i hi hf
  obtain ⟨f, rfl⟩ : ∃ q, f = q + 1 := ⟨f - 1, by omega⟩
  obtain ⟨y, y1, y2, y3, y4⟩ := ru3 hk hM hn hx rec1 (ref4_Uncurve_l2 rec1 (k : Int) ((M + 1 : Nat) : Int) (n : Int) (p : Int) (cs lx) (x3 : Int) f) (p : Int) (cs lx) (by rw [cs_len, hl]) lx hlow hlv i (by omega) n BIG 0 lx (by omega) (by rw [big_val]; omega) hs hl (fun j b => by rw [if_neg (by omega)])
  have hok : Okk n M (B y) := by
   refine ⟨fun j b hj => ?_, fun j b hb => ?_⟩
   ·rw [y4, if_neg (by omega), hB, hT.ax j b hj, Bool.and_false]
   ·rw [y4, if_neg (by omega), hlv j b hb]
  have hyl : ∀ j, y.getD j 0 < 2 ^ (M + 1) := fun j => Nat.lt_pow_two_of_testBit _ (fun b hb => hok.lv j b (by omega))
  obtain ⟨v, v1, v2, v3⟩ := lcurve_val hval y2 hyl
  have hne : ¬ v / 2 ^ ((M - x3) * n) = p / 2 ^ ((M - x3) * n) := fun h => by
   have h1 := (div_iff hk hM hn hx).1 h
   have h2 : Agr (M - x3) (KB k n M (B y)) (KB k n M T) := (wN_agr hn.1 (KB_ok hok) (KB_ok hT)).1 (fun x hx => by rw [← v3, ← hpT]; exact h1 x hx)
   have h3 := JB_agr (k := k) (n := n) (M := M) h2
   rw [JB_KB hn.1 hok, JB_KB hn.1 hT] at h3
   have : i = c := Nat.eq_of_testBit_eq (fun j => by
    by_cases hj : j < n
    ·have := h3 j (M - x3) (Nat.le_refl _)
     rw [y4, if_pos ⟨hj, rfl⟩] at this
     rw [this, hcT j hj]
    ·have h4 : 2 ^ n ≤ 2 ^ j := Nat.pow_le_pow_right (by decide) (by omega)
     rw [Nat.testBit_lt_two_pow (by omega), Nat.testBit_lt_two_pow (by omega)])
   omega
  obtain ⟨l', r1, r2⟩ := ih f (i + 1) (by omega) (by omega)
  refine ⟨l', ?_, r2⟩
  rw [ref4_Uncurve_l2, grd_pos (by omega), e2, bnd_some', show decide ((i : Int) < ((2 ^ n : Nat) : Int)) = true by rw [decide_eq_true_eq]; omega, ift_true, grd_pos (by rw [cs_len]; simp; omega), List.nil_append]
  refine y1.trans ?_
  unfold ref4_Uncurve_j2
  rw [v2, bnd_some', rest_eq hM hn hx, hw, bnd_some', grd_pos (by omega), bnd_some', grd_pos (by omega), hfd, hfd, bnd_some', show ((((v / 2 ^ ((M - x3) * n) : Nat) : Int) == ((p / 2 ^ ((M - x3) * n) : Nat) : Int))) = false by rw [beq_eq_false_iff_ne]; omega, ift_false, nxt (by omega)]
  exact r1

end

theorem ru1 {k M n : Nat} (hk : k = 1 ∨ k = 2) (hM : M ≤ 14) (hn : 1 ≤ n ∧ n ≤ 4) (p : Nat) (hp : p < 2 ^ ((M + 1) * n)) (T : Nat → Nat → Bool) (hT : Okk n M T) (hpT : ∀ x, p.testBit x = wN n M (KB k n M T) x) :
  ∀ (m f x3 : Nat) (lx : List Nat), x3 + m = M + 1 → m < f → lx.length = n → sm lx → (∀ j b, B lx j b = (decide (M + 1 - x3 ≤ b) && T j b)) →
  ∃ l', ref4_Uncurve_l1 (k : Int) ((M + 1 : Nat) : Int) (n : Int) (p : Int) f (cs lx) (x3 : Int) = some (cs l', 0) ∧ l'.length = n ∧ B l' = T := by
 intro m
 induction m with
 | zero =>
  intro f x3 lx hi hf hl hs hB
  obtain ⟨f, rfl⟩ : ∃ q, f = q + 1 := ⟨f - 1, by omega⟩
  refine ⟨lx, ?_, hl, ?_⟩
  ·rw [ref4_Uncurve_l1, show decide ((x3 : Int) < ((M + 1 : Nat) : Int)) = false by rw [decide_eq_false_iff_not]; omega, ift_false]; rfl
  ·funext j b; rw [hB, decide_eq_true (by omega), Bool.true_and]
 | succ m ih =>
  intro f x3 lx hi hf hl hs hB
  obtain ⟨f, rfl⟩ : ∃ q, f = q + 1 := ⟨f - 1, by omega⟩
  have hx : x3 < M + 1 := by omega
  obtain ⟨l1, h1, h2, h3, h4⟩ := ru2 hk hM hn hx (ref4_Uncurve_l1 (k : Int) ((M + 1 : Nat) : Int) (n : Int) (p : Int) f) p hp T hT hpT lx hl hs (fun j b => by
   rw [hB]; congr 1; rw [decide_eq_decide]; omega)
  obtain ⟨l', d1, d2, d3⟩ := ih f (x3 + 1) l1 (by omega) (by omega) h2 h3 (fun j b => by rw [h4]; congr 1; rw [decide_eq_decide]; omega)
  refine ⟨l', ?_, d2, d3⟩
  rw [ref4_Uncurve_l1, show decide ((x3 : Int) < ((M + 1 : Nat) : Int)) = true by rw [decide_eq_true_eq]; omega, ift_true]
  exact h1.trans d1

theorem uncurves_same (p1 p2 p3 p4 : Int) : ∃ r, lake_Uncurve p1 p2 p3 p4 = some r ∧ ref4_Uncurve p1 p2 p3 p4 = some r := by
 rcases curve_cases p1 p2 p3 with ⟨e, h1, h2⟩ | ⟨k, M, n, hv⟩
 ·exact ⟨([], e), by unfold lake_Uncurve; rw [h1, bnd_some', h2, ift_true], by unfold ref4_Uncurve; rw [curve_same, h1, bnd_some', h2, ift_true]⟩
 ·have hv' := hv
  obtain ⟨k1, b1, n1, hk, hM, hn⟩ := hv'
  obtain ⟨hbn, hp60, hone, hw, e2⟩ := bn60 hM hn
  have hc : lake_curve p1 p2 p3 = some 0 := by rw [k1, b1, n1]; exact curve_ok2 hk (by omega) hn
  by_cases h0 : p4 < 0
  ·refine ⟨([], 3), ?_, ?_⟩
   ·unfold lake_Uncurve lake_Uncurve_j1; rw [hc, bnd_some', show ((0 : Int) != 0) = false from rfl, ift_false, decide_eq_true h0, ift_true, ift_true]
   ·unfold ref4_Uncurve ref4_Uncurve_j1; rw [curve_same, hc, bnd_some', show ((0 : Int) != 0) = false from rfl, ift_false, decide_eq_true h0, ift_true, ift_true]
  by_cases hbig : ((2 ^ ((M + 1) * n) : Nat) : Int) ≤ p4
  ·refine ⟨([], 3), ?_, ?_⟩
   ·unfold lake_Uncurve lake_Uncurve_j1; rw [hc, bnd_some', show ((0 : Int) != 0) = false from rfl, ift_false, decide_eq_false h0, ift_false, b1, n1, hw, grd_pos (by omega), e2, bnd_some', decide_eq_true hbig, ift_true]
   ·unfold ref4_Uncurve ref4_Uncurve_j1; rw [curve_same, hc, bnd_some', show ((0 : Int) != 0) = false from rfl, ift_false, decide_eq_false h0, ift_false, b1, n1, hw, grd_pos (by omega), e2, bnd_some', decide_eq_true hbig, ift_true]
  obtain ⟨p, rfl⟩ : ∃ p : Nat, p4 = (p : Int) := ⟨p4.toNat, by omega⟩
  have hp : p < 2 ^ ((M + 1) * n) := by omega
  obtain ⟨l, l1, l2, l3, l4⟩ := luncurve hv hp
  have hU : Okk n M (uX n fun x => p.testBit x) := uX_ok (zero_past hp)
  have hT : Okk n M (B l) := by rw [l4]; exact JB_ok hn.1 hU
  have hpT : ∀ x, p.testBit x = wN n M (KB k n M (B l)) x := fun x => by
   rw [l4, KB_JB hn.1 hU, wN_uX hn.1 (zero_past hp)]
  have z : sm (List.replicate n 0) := fun j => by
   simp only [List.getD, List.getElem?_replicate]; split <;> simp
  have zB : ∀ j k, B (List.replicate n 0) j k = false := fun j k => by
   unfold B
   have : (List.replicate n 0).getD j 0 = 0 := by simp only [List.getD, List.getElem?_replicate]; split <;> simp
   rw [this, Nat.zero_testBit]
  obtain ⟨r, r1, r2, r3⟩ := ru1 hk hM hn p hp (B l) hT hpT (M + 1) BIG 0 (List.replicate n 0) (by omega) (by rw [big_val]; omega) (by simp) z (fun j b => by
   rw [zB]
   by_cases hb : M + 1 - 0 ≤ b
   ·rw [hT.lv j b (by omega), Bool.and_false]
   ·rw [decide_eq_false hb, Bool.false_and])
  have : r = l := B_inj (by omega) r3
  subst this
  have hz : cs (List.replicate n 0) = List.replicate n (0 : Int) := by unfold cs; rw [List.map_replicate]; rfl
  rw [hz] at r1
  refine ⟨_, l1, ?_⟩
  unfold ref4_Uncurve ref4_Uncurve_j1
  rw [curve_same, hc, bnd_some', show ((0 : Int) != 0) = false from rfl, ift_false, decide_eq_false h0, ift_false, b1, n1, hw, grd_pos (by omega), e2, bnd_some', decide_eq_false hbig, ift_false, grd_pos (by omega), Int.toNat_natCast, k1]
  exact r1

theorem back_eq {k M n : Nat} {p1 p2 p3 : Int} (hv : Val k p1 p2 p3 M n) {l : List Nat} (hl : l.length = n) (hs : ∀ j, l.getD j 0 < 2 ^ (M + 1)) :
  ∃ v : Int, lake_Curve p1 p2 (cs l) = some (v, 0) ∧ lake_Uncurve p1 p2 p3 v = some (cs l, 0) := by
 obtain ⟨v, v1, v2, v3⟩ := lcurve_val hv hl hs
 have hok := lst_ok hl hs
 have hlt : v < 2 ^ ((M + 1) * n) := Nat.lt_pow_two_of_testBit _ (fun x hx => by rw [v3]; unfold wN; rw [decide_eq_false (by omega), Bool.false_and])
 obtain ⟨r, r1, r2, r3, r4⟩ := luncurve hv hlt
 have e : (uX n fun x => v.testBit x) = KB k n M (B l) := by
  rw [← uX_wN (KB_ok (k := k) hok)]
  congr 1
  funext x
  rw [v3]
 rw [e, JB_KB hv.hn.1 hok] at r4
 have : r = l := B_inj (by omega) r4
 subst this
 exact ⟨v, v1, r1⟩

end Go.Proofs.Ytbmkkmbgoenllaa
namespace Go.Proofs.Ytbmkkmbgoenllaa
open Go Go.SX Go.SX.Cal Go.Hil
set_option linter.unusedVariables false
set_option linter.unusedSimpArgs false

theorem ints_l1 (l : List Int) (hl : l.length < 1000000000) : ∀ (m f i : Nat), i + m = l.length → m < f → law4_ints_l1 l l f (i : Int) = some true := by
 intro m
 induction m with
 | zero =>
  intro f i hi hf
  obtain ⟨f, rfl⟩ : ∃ q, f = q + 1 := ⟨f - 1, by omega⟩
  rw [law4_ints_l1, show decide ((i : Int) < (l.length : Int)) = false by rw [decide_eq_false_iff_not]; omega, ift_false]; rfl
 | succ m ih =>
  intro f i hi hf
  obtain ⟨f, rfl⟩ : ∃ q, f = q + 1 := ⟨f - 1, by omega⟩
  rw [law4_ints_l1, show decide ((i : Int) < (l.length : Int)) = true by rw [decide_eq_true_eq]; omega, ift_true, at_int (show i < l.length by omega), bnd_some', bnd_some', bne_self_eq_false, ift_false,
   show IntKind.i64.wrap ((i : Int) + 1) = ((i + 1 : Nat) : Int) by rw [w64 (by omega) (by omega)]; omega]
  exact ih f (i + 1) (by omega) (by omega)

theorem ints_same (l : List Int) (hl : l.length < 1000000000) : law4_ints l l = some true := by
 unfold law4_ints
 rw [bne_self_eq_false, ift_false]
 exact ints_l1 l hl l.length BIG 0 (by omega) (by rw [big_val]; omega)

theorem z_ok : lake_Curve 1 1 [1] = some (1, 0) := by kernel_rfl

theorem unc_len {p1 p2 p3 p4 : Int} {r : List Int × Int} (h : lake_Uncurve p1 p2 p3 p4 = some r) : r.1.length < 1000000000 := by
 rcases curve_cases p1 p2 p3 with ⟨e, h1, h2⟩ | ⟨k, M, n, hv⟩
 ·unfold lake_Uncurve at h
  rw [h1, bnd_some', h2, ift_true] at h
  cases h; exact (by decide : (0 : Nat) < 1000000000)
 ·have hv' := hv
  obtain ⟨k1, b1, n1, hk, hM, hn⟩ := hv'
  obtain ⟨hbn, hp60, hone, hw, e2⟩ := bn60 hM hn
  have hc : lake_curve p1 p2 p3 = some 0 := by rw [k1, b1, n1]; exact curve_ok2 hk (by omega) hn
  by_cases h0 : p4 < 0
  ·unfold lake_Uncurve lake_Uncurve_j1 at h
   rw [hc, bnd_some', show ((0 : Int) != 0) = false from rfl, ift_false, decide_eq_true h0, ift_true, ift_true] at h
   cases h; exact (by decide : (0 : Nat) < 1000000000)
  by_cases hbig : ((2 ^ ((M + 1) * n) : Nat) : Int) ≤ p4
  ·unfold lake_Uncurve lake_Uncurve_j1 at h
   rw [hc, bnd_some', show ((0 : Int) != 0) = false from rfl, ift_false, decide_eq_false h0, ift_false, b1, n1, hw, grd_pos (by omega), e2, bnd_some', decide_eq_true hbig, ift_true] at h
   cases h; exact (by decide : (0 : Nat) < 1000000000)
  obtain ⟨p, rfl⟩ : ∃ p : Nat, p4 = (p : Int) := ⟨p4.toNat, by omega⟩
  obtain ⟨l, l1, l2, l3, l4⟩ := luncurve hv (show p < 2 ^ ((M + 1) * n) by omega)
  rw [l1] at h
  cases h
  show (cs l).length < 1000000000
  rw [cs_len]; omega

theorem law_last (p1 p2 p3 p4 : Int) : law4_LakeCurvesMatchSpec_j3 p1 p2 p3 p4 = some true := by
 obtain ⟨r, h1, h2⟩ := uncurves_same p1 p2 p3 p4
 unfold law4_LakeCurvesMatchSpec_j3 law4_LakeCurvesMatchSpec_j4
 rw [h1, h2, bnd_some', bnd_some', beq_self_eq_true, ift_true, ints_same _ (unc_len h1), bnd_some']

theorem law_curves (p1 p2 p3 p4 : Int) (p5 : List Int) : law4_LakeCurvesMatchSpec p1 p2 p3 p4 p5 = some true := by
 obtain ⟨r, h1, h2, h3⟩ := curves_same p1 p2 p5
 unfold law4_LakeCurvesMatchSpec
 rw [h1, h2, bnd_some', bnd_some', z_ok, bnd_some', bne_self_eq_false, ift_false, bne_self_eq_false, ift_false, show ((0 : Int) != 0) = false from rfl, ift_false, show ((1 : Int) != 1) = false from rfl]
 unfold law4_LakeCurvesMatchSpec_j1
 rw [ift_false]
 rcases h3 with h3 | ⟨k, M, n, l, hv, rfl, hl, hs, h3⟩
 ·rw [show (r.2 == 0) = false by have := bne_iff_ne.1 h3; exact beq_eq_false_iff_ne.2 this, ift_false]
  exact law_last p1 p2 p3 p4
 ·obtain ⟨v, v1, v2⟩ := back_eq hv hl hs
  rw [h1] at v1
  cases v1
  have hn4 := hv.hn
  rw [beq_self_eq_true, ift_true, v2, bnd_some', show ((0 : Int) != 0) = false from rfl, ift_false, ints_same _ (by rw [cs_len]; omega), bnd_some']
  unfold law4_LakeCurvesMatchSpec_j2
  rw [Bool.not_true, ift_false]
  exact law_last p1 p2 p3 p4

end Go.Proofs.Ytbmkkmbgoenllaa
