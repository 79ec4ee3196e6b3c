/- The calendar, in plain integers. The Hilbert curve, bit by bit: a point is a table of bits (axis, level). The Hilbert curve: what the program's loops do to the bits. unhilbert. Uncurve of the Hilbert curve, in bits. Neighbours on the Hilbert curve. The reference's Uncurve gives some point wherever the arguments are right. The reference's Uncurve is total. The Hilbert curve is a walk. -/
import Derived.Test.YtbmkkmbgoenllaaGeA
namespace Go.SX.Cal
open Go
set_option linter.unusedVariables false

theorem w64 {x : Int} (h1 : -9223372036854775808 ≤ x) (h2 : x ≤ 9223372036854775807) : IntKind.i64.wrap x = x := by
 simp only [IntKind.wrap, IntKind.bits, IntKind.signed]
 simp only [Bool.true_and, decide_eq_true_eq, ge_iff_le]
 split <;> omega

/-! ### years of an era -/

def S (y : Int) : Int := 365 * y + y / 4 - y / 100
def F (r : Int) : Int := r - r / 1460 + r / 36524
def leap (y : Int) : Prop := y % 4 = 0 ∧ (y % 100 ≠ 0 ∨ y % 400 = 0)

instance (y : Int) : Decidable (leap y) := by unfold leap; infer_instance

/-! ### days -/

def E (y : Int) : Int := y / 400 * 146097 + S (y % 400) - 719468

end Go.SX.Cal
namespace Go.Hil

def bb (i c : Nat) (X : Nat → Nat → Bool) : Nat → Nat → Bool := fun j k =>
 if k < c then (if X i c = true then (if j = 0 then !X 0 k else X j k) else (if j = 0 then X i k else if j = i then X 0 k else X j k)) else X j k

def dB (c : Nat) : Nat → (Nat → Nat → Bool) → (Nat → Nat → Bool)
 | 0, X => X
 | k + 1, X => dB c k (bb k c X)

def aB (n : Nat) : Nat → (Nat → Nat → Bool) → (Nat → Nat → Bool)
 | 0, X => X
 | m + 1, X => dB (m + 1) n (aB n m X)

theorem bb_hi {i c : Nat} {X : Nat → Nat → Bool} {j k : Nat} (h : c ≤ k) : bb i c X j k = X j k := by
 unfold bb; rw [if_neg (by omega)]

theorem dB_hi {c : Nat} : ∀ {n : Nat} {X : Nat → Nat → Bool} {j k : Nat}, c ≤ k → dB c n X j k = X j k
 | 0, X, j, k, h => rfl
 | n + 1, X, j, k, h => by
  rw [dB, dB_hi h, bb_hi h]

theorem aB_hi {n : Nat} : ∀ {m : Nat} {X : Nat → Nat → Bool} {j k : Nat}, m ≤ k → aB n m X j k = X j k
 | 0, X, j, k, h => rfl
 | m + 1, X, j, k, h => by
  rw [aB, dB_hi h, aB_hi (by omega)]

structure Adj (b j : Nat) (U V : Nat → Nat → Bool) : Prop where
 oth : ∀ k l, k ≠ j → U k l = V k l
 hi : ∀ l, b < l → U j l = V j l
 ne : U j b = !V j b
 lo : ∀ l, l < b → U j l = !U j b ∧ V j l = !V j b

theorem Adj.lev {b j : Nat} {U V : Nat → Nat → Bool} (h : Adj b j U V) (i c : Nat) (hc : b < c) : U i c = V i c := by
 by_cases e : i = j
 ·subst e; exact h.hi c hc
 ·exact h.oth i c e

theorem Adj.bend {b j : Nat} {U V : Nat → Nat → Bool} (h : Adj b j U V) (i c : Nat) (hc : b < c) : ∃ j', Adj b j' (bb i c U) (bb i c V) := by
 have hr := h.lev i c hc
 cases hv : V i c with
 | true =>
  rw [hv] at hr
  refine ⟨j, ⟨fun k l hk => ?_, fun l hl => ?_, ?_, fun l hl => ?_⟩⟩
  ·unfold bb; rw [hr, hv]; simp only [if_true]
   split
   ·split
    ·rename_i e; rw [h.oth 0 l (by omega)]
    ·exact h.oth k l hk
   ·exact h.oth k l hk
  ·unfold bb; rw [hr, hv]; simp only [if_true]
   split
   ·split
    ·rename_i e; subst e; rw [h.hi l hl]
    ·exact h.hi l hl
   ·exact h.hi l hl
  ·unfold bb; rw [hr, hv]; simp only [if_true, if_pos hc]
   split
   ·rename_i e; subst e; rw [h.ne]
   ·exact h.ne
  ·unfold bb; rw [hr, hv]; simp only [if_true, if_pos hc, if_pos (show l < c by omega)]
   obtain ⟨h1, h2⟩ := h.lo l hl
   split
   ·rename_i e; subst e; rw [h1, h2]; simp
   ·exact ⟨h1, h2⟩
 | false =>
  rw [hv] at hr
  have tr : ∀ k l, l < c → bb i c U k l = U (if k = 0 then i else if k = i then 0 else k) l ∧ bb i c V k l = V (if k = 0 then i else if k = i then 0 else k) l := by
   intro k l hl
   unfold bb; rw [hr, hv]; simp only [Bool.false_eq_true, if_false, if_pos hl]
   constructor <;> (split <;> (try split) <;> rfl)
  have th : ∀ k l, ¬ l < c → bb i c U k l = U k l ∧ bb i c V k l = V k l := by
   intro k l hl
   unfold bb; rw [if_neg hl, if_neg hl]; exact ⟨rfl, rfl⟩
  -- the axis moves
  refine ⟨if j = 0 then i else if j = i then 0 else j, ⟨fun k l hk => ?_, fun l hl => ?_, ?_, fun l hl => ?_⟩⟩
  ·by_cases hl : l < c
   ·obtain ⟨e1, e2⟩ := tr k l hl
    rw [e1, e2]
    refine h.oth _ l ?_
    intro e
    apply hk
    by_cases k0 : k = 0
    ·rw [if_pos k0] at e
     by_cases j0 : j = 0
     ·rw [if_pos j0]; omega
     ·rw [if_neg j0, if_pos e.symm]; exact k0
    ·rw [if_neg k0] at e
     by_cases ki : k = i
     ·rw [if_pos ki] at e; rw [if_pos e.symm]; exact ki
     ·rw [if_neg ki] at e
      rw [if_neg (by omega), if_neg (by omega)]; exact e
   ·obtain ⟨e1, e2⟩ := th k l hl
    rw [e1, e2]
    exact h.lev k l (by omega)
  all_goals
   have back : (if (if j = 0 then i else if j = i then 0 else j) = 0 then i else if (if j = 0 then i else if j = i then 0 else j) = i then 0 else (if j = 0 then i else if j = i then 0 else j)) = j := by
    by_cases j0 : j = 0
    ·rw [if_pos j0]
     by_cases i0 : i = 0
     ·rw [if_pos i0]; omega
     ·rw [if_neg i0, if_pos rfl]; omega
    ·rw [if_neg j0]
     by_cases ji : j = i
     ·rw [if_pos ji, if_pos rfl]; omega
     ·rw [if_neg ji, if_neg j0, if_neg ji]
  ·by_cases hl2 : l < c
   ·obtain ⟨e1, e2⟩ := tr (if j = 0 then i else if j = i then 0 else j) l hl2
    rw [e1, e2, back]; exact h.hi l hl
   ·obtain ⟨e1, e2⟩ := th (if j = 0 then i else if j = i then 0 else j) l hl2
    rw [e1, e2]; exact h.lev _ l hl
  ·obtain ⟨e1, e2⟩ := tr (if j = 0 then i else if j = i then 0 else j) b hc
   rw [e1, e2, back]; exact h.ne
  ·obtain ⟨e1, e2⟩ := tr (if j = 0 then i else if j = i then 0 else j) b hc
   obtain ⟨f1, f2⟩ := tr (if j = 0 then i else if j = i then 0 else j) l (by omega)
   rw [e1, e2, f1, f2, back]; exact h.lo l hl

theorem Adj.bends {b : Nat} (c : Nat) (hc : b < c) : ∀ (n j : Nat) {U V : Nat → Nat → Bool}, Adj b j U V → ∃ j', Adj b j' (dB c n U) (dB c n V)
 | 0, j, U, V, h => ⟨j, h⟩
 | n + 1, j, U, V, h => by
  obtain ⟨j', h'⟩ := h.bend n c hc
  exact Adj.bends c hc n j' h'

theorem Adj.same {b j : Nat} : ∀ (n : Nat) {U V : Nat → Nat → Bool}, n ≤ j → Adj b j U V → Adj b j (dB b n U) (dB b n V)
 | 0, U, V, _, h => h
 | n + 1, U, V, hn, h => by
  refine Adj.same n (by omega) ?_
  have hr := h.oth n b (by omega)
  have keep : ∀ (X : Nat → Nat → Bool) l, bb n b X j l = X j l := by
   intro X l
   unfold bb
   split
   ·split
    ·rw [if_neg (by omega)]
    ·rw [if_neg (by omega), if_neg (by omega)]
   ·rfl
  refine ⟨fun k l hk => ?_, fun l hl => ?_, ?_, fun l hl => ?_⟩
  ·unfold bb; rw [hr, h.oth k l hk, h.oth 0 l (by omega), h.oth n l (by omega)]
  ·rw [keep, keep]; exact h.hi l hl
  ·rw [keep, keep]; exact h.ne
  ·rw [keep, keep, keep, keep]; exact h.lo l hl

theorem adj_start {b i : Nat} {U V : Nat → Nat → Bool} (ho : ∀ k l, k ≠ i → b ≤ l → U k l = V k l) (hh : ∀ l, b < l → U i l = V i l) (hn : U i b = !V i b)
  (hu : ∀ j l, l < b → U j l = decide (j = 0)) (hv : ∀ j l, l < b → V j l = decide (j = 0)) : Adj b i (bb i b U) (bb i b V) := by
 have one : ∀ (X : Nat → Nat → Bool), (∀ j l, l < b → X j l = decide (j = 0)) → ∀ j l, l < b → bb i b X j l = (decide (j = i) && !X i b) := by
  intro X hX j l hl
  unfold bb
  rw [if_pos hl, hX 0 l hl, hX j l hl, hX i l hl]
  cases X i b with
  | true =>
   simp only [if_true]
   by_cases j0 : j = 0 <;> simp [j0]
  | false =>
   simp only [Bool.false_eq_true, if_false, Bool.not_false, Bool.and_true]
   by_cases j0 : j = 0
   ·subst j0; rw [if_pos rfl]; simp only [eq_comm]
   ·rw [if_neg j0]
    by_cases ji : j = i
    ·rw [if_pos ji]; simp [ji]
    ·rw [if_neg ji]; simp [j0, ji]
 have hb : ∀ (X : Nat → Nat → Bool) j l, b ≤ l → bb i b X j l = X j l := fun X j l h => bb_hi h
 refine ⟨fun k l hk => ?_, fun l hl => ?_, ?_, fun l hl => ?_⟩
 ·by_cases hl : l < b
  ·rw [one U hu k l hl, one V hv k l hl]; simp [hk]
  ·rw [hb U k l (by omega), hb V k l (by omega)]; exact ho k l hk (by omega)
 ·rw [hb U i l (by omega), hb V i l (by omega)]; exact hh l hl
 ·rw [hb U i b (Nat.le_refl _), hb V i b (Nat.le_refl _)]; exact hn
 ·rw [hb U i b (Nat.le_refl _), hb V i b (Nat.le_refl _), one U hu i l hl, one V hv i l hl]; simp

theorem dB_zero {c : Nat} : ∀ (n : Nat) {X : Nat → Nat → Bool}, (∀ j, j < n → X j c = false) → (∀ j l, l < c → X j l = false) → dB c n X = X
 | 0, X, _, _ => rfl
 | n + 1, X, h, hl => by
  have e : bb n c X = X := by
   funext j k
   unfold bb
   rw [h n (by omega)]
   simp only [Bool.false_eq_true, if_false]
   split
   ·rename_i hk
    rw [hl n k hk, hl 0 k hk, hl j k hk]
    split <;> (try split) <;> rfl
   ·rfl
  rw [dB, e]
  exact dB_zero n (fun j hj => h j (by omega)) hl

theorem aB_zero {n : Nat} : ∀ (m : Nat) {X : Nat → Nat → Bool}, (∀ j l, l ≤ m → X j l = false) → aB n m X = X
 | 0, X, _ => rfl
 | m + 1, X, h => by
  rw [aB, aB_zero m (fun j l hl => h j l (by omega))]
  exact dB_zero n (fun j _ => h j _ (Nat.le_refl _)) (fun j l hl => h j l (by omega))

theorem dB_one {c : Nat} : ∀ (n : Nat) {X : Nat → Nat → Bool}, 0 < n → (∀ j, X j c = decide (j = 0)) → (∀ j l, l < c → X j l = false) → ∀ j l, l ≤ c → dB c n X j l = decide (j = 0)
 | 1, X, _, h, hl, j, l, hc => by
  rw [dB, dB]
  unfold bb
  rw [h 0]
  simp only [decide_true, if_true]
  split
  ·rename_i hk
   rw [hl 0 l hk, hl j l hk]
   by_cases j0 : j = 0 <;> simp [j0]
  ·have : l = c := by omega
   subst this
   exact h j
 | n + 2, X, _, h, hl, j, l, hc => by
  have e : bb (n + 1) c X = X := by
   funext j k
   unfold bb
   rw [h (n + 1), show decide (n + 1 = 0) = false by simp]
   simp only [Bool.false_eq_true, if_false]
   split
   ·rename_i hk
    rw [hl (n + 1) k hk, hl 0 k hk, hl j k hk]
    split <;> (try split) <;> rfl
   ·rfl
  rw [dB, e]
  exact dB_one (n + 1) (by omega) h hl j l hc

theorem dB_skip {b i : Nat} : ∀ (d : Nat) {X : Nat → Nat → Bool}, (∀ j, i + 1 < j → j < i + 2 + d → X j b = false) → (∀ j l, l < b → X j l = false) → dB b (i + 2 + d) X = dB b (i + 2) X
 | 0, X, _, _ => rfl
 | d + 1, X, h, hl => by
  have e : bb (i + 2 + d) b X = X := by
   funext j k
   unfold bb
   rw [h (i + 2 + d) (by omega) (by omega)]
   simp only [Bool.false_eq_true, if_false]
   split
   ·rename_i hk
    rw [hl (i + 2 + d) k hk, hl 0 k hk, hl j k hk]
    split <;> (try split) <;> rfl
   ·rfl
  rw [show i + 2 + (d + 1) = (i + 2 + d) + 1 from rfl, dB, e]
  exact dB_skip d (fun j h1 h2 => h j h1 (by omega)) hl

theorem Adj.up {b n : Nat} {U V : Nat → Nat → Bool} : ∀ (d : Nat) {j : Nat}, Adj b j (aB n b U) (aB n b V) → ∃ j', Adj b j' (aB n (b + d) U) (aB n (b + d) V)
 | 0, j, h => ⟨j, h⟩
 | d + 1, j, h => by
  obtain ⟨j', h'⟩ := Adj.up d h
  exact h'.bends (b + d + 1) (by omega) n j'

structure Near (n b i : Nat) (U V : Nat → Nat → Bool) : Prop where
 oth : ∀ k l, k ≠ i ∨ l ≠ b → U k l = V k l
 ne : U i b = !V i b
 low : (i + 1 < n ∧ (∀ j l, l < b → U j l = false) ∧ U (i + 1) b = true ∧ ∀ j, i + 1 < j → j < n → U j b = false) ∨
  (i + 1 = n ∧ (b = 0 ∨ (0 < b ∧ (∀ j, U j (b - 1) = decide (j = 0)) ∧ ∀ j l, l < b - 1 → U j l = false)))

theorem near_e {n b : Nat} {U : Nat → Nat → Bool} (hn : 0 < n) (hb : 0 < b) (h1 : ∀ j, U j (b - 1) = decide (j = 0)) (h2 : ∀ j l, l < b - 1 → U j l = false) : ∀ j l, l < b → aB n (b - 1) U j l = decide (j = 0) := by
 intro j l hl
 cases hq : b - 1 with
 | zero =>
  have : l = b - 1 := by omega
  rw [aB, this]
  exact h1 j
 | succ q =>
  rw [hq] at h1 h2
  rw [aB, aB_zero q (fun j l hl => h2 j l (by omega))]
  exact dB_one n hn h1 h2 j l (by omega)

theorem Near.adj {n b i : Nat} {U V : Nat → Nat → Bool} (h : Near n b i U V) (hi : i < n) (m : Nat) (hm : b ≤ m) : ∃ j, Adj b j (aB n m U) (aB n m V) := by
 obtain ⟨d, rfl⟩ : ∃ d, m = b + d := ⟨m - b, by omega⟩
 suffices ∃ j, Adj b j (aB n b U) (aB n b V) by
  obtain ⟨j, hj⟩ := this
  exact Adj.up d hj
 have hup : ∀ l, b < l → U i l = V i l := fun l hl => h.oth i l (.inr (by omega))
 rcases Nat.eq_zero_or_pos b with hb | hb
 ·subst hb
  exact ⟨i, ⟨fun k l hk => h.oth k l (.inl hk), hup, h.ne, fun l hl => by omega⟩⟩
 obtain ⟨c, rfl⟩ : ∃ c, b = c + 1 := ⟨b - 1, by omega⟩
 rw [aB, aB]
 refine ⟨i, ?_⟩
 have fin : ∀ (U1 V1 : Nat → Nat → Bool), (∀ k l, c + 1 ≤ l → U1 k l = U k l) → (∀ k l, c + 1 ≤ l → V1 k l = V k l) → (∀ j l, l < c + 1 → U1 j l = decide (j = 0)) → (∀ j l, l < c + 1 → V1 j l = decide (j = 0)) →
   Adj (c + 1) i (dB (c + 1) (i + 1) U1) (dB (c + 1) (i + 1) V1) := by
  intro U1 V1 u1 v1 u2 v2
  rw [dB, dB]
  refine Adj.same i (Nat.le_refl _) (adj_start (fun k l hk hl => ?_) (fun l hl => ?_) ?_ u2 v2)
  ·rw [u1 k l hl, v1 k l hl]; exact h.oth k l (.inl hk)
  ·rw [u1 i l (by omega), v1 i l (by omega)]; exact hup l hl
  ·rw [u1 i _ (Nat.le_refl _), v1 i _ (Nat.le_refl _)]; exact h.ne
 rcases h.low with ⟨h1, h2, h3, h4⟩ | ⟨h1, h2⟩
 ·have v2 : ∀ j l, l < c + 1 → V j l = false := fun j l hl => by rw [← h.oth j l (.inr (by omega))]; exact h2 j l hl
  have v3 : V (i + 1) (c + 1) = true := by rw [← h.oth (i + 1) (c + 1) (.inl (by omega))]; exact h3
  have v4 : ∀ j, i + 1 < j → j < n → V j (c + 1) = false := fun j hj hn => by rw [← h.oth j (c + 1) (.inl (by omega))]; exact h4 j hj hn
  rw [aB_zero c (fun j l hl => h2 j l (by omega)), aB_zero c (fun j l hl => v2 j l (by omega))]
  obtain ⟨d', rfl⟩ : ∃ d', n = i + 2 + d' := ⟨n - (i + 2), by omega⟩
  rw [dB_skip d' (fun j hj hn => h4 j hj (by omega)) h2, dB_skip d' (fun j hj hn => v4 j hj (by omega)) v2]
  have e : ∀ (X : Nat → Nat → Bool), (∀ j l, l < c + 1 → X j l = false) → X (i + 1) (c + 1) = true → ∀ j l, l < c + 1 → bb (i + 1) (c + 1) X j l = decide (j = 0) := by
   intro X hX hx j l hl
   unfold bb
   rw [if_pos hl, if_pos hx, hX 0 l hl, hX j l hl]
   by_cases j0 : j = 0 <;> simp [j0]
  rw [show i + 2 = (i + 1) + 1 from rfl, dB, dB]
  exact fin _ _ (fun k l hl => bb_hi hl) (fun k l hl => bb_hi hl) (e U h2 h3) (e V v2 v3)
 ·subst h1
  rcases h2 with h2 | ⟨_, h2, h3⟩
  ·omega
  have v2 : ∀ j, V j (c + 1 - 1) = decide (j = 0) := fun j => by rw [← h.oth j _ (.inr (by omega))]; exact h2 j
  have v3 : ∀ j l, l < c + 1 - 1 → V j l = false := fun j l hl => by rw [← h.oth j l (.inr (by omega))]; exact h3 j l hl
  have s1 := near_e (n := i + 1) (by omega) hb h2 h3
  have s2 := near_e (n := i + 1) (by omega) hb v2 v3
  exact fin _ _ (fun k l hl => aB_hi (by omega)) (fun k l hl => aB_hi (by omega)) s1 s2

end Go.Hil
namespace Go.Proofs.Ytbmkkmbgoenllaa
open Go Go.SX Go.SX.Cal Go.Hil
set_option linter.unusedVariables false
set_option linter.unusedSimpArgs false

theorem ift_true {β : Type} (x y : Option β) : ift true x y = x := rfl
theorem ift_false {β : Type} (x y : Option β) : ift false x y = y := rfl
theorem bnd_some' {α β : Type} (a : α) (f : α → Option β) : bnd (some a) f = f a := rfl
theorem grd_pos {β : Type} {p : Prop} [Decidable p] {x : Option β} (h : p) : grd p x = x := if_pos h
theorem big_val : BIG = 1152921504606846976 := rfl

def cs (l : List Nat) : List Int := l.map fun (x : Nat) => (x : Int)
theorem cs_len (l : List Nat) : (cs l).length = l.length := by unfold cs; simp
theorem cs_at {l : List Nat} {i : Nat} (h : i < l.length) : at? (cs l) (i : Int) = some ((l.getD i 0 : Nat) : Int) := by
 unfold at? cs
 simp [h, List.getD]
theorem cs_set (l : List Nat) (i v : Nat) : (cs l).set i (v : Int) = cs (l.set i v) := by unfold cs; rw [List.map_set]
theorem getD_set {l : List Nat} {i j v : Nat} (h : i < l.length) : (l.set i v).getD j 0 = if j = i then v else l.getD j 0 := by
 simp only [List.getD, List.getElem?_set]
 by_cases e : i = j
 ·subst e; simp [h]
 ·rw [if_neg e, if_neg (Ne.symm e)]

def sm (l : List Nat) : Prop := ∀ j, l.getD j 0 < 32768

def B (l : List Nat) (j k : Nat) : Bool := (l.getD j 0).testBit k

theorem B_set {l : List Nat} {i v : Nat} (h : i < l.length) (j k : Nat) : B (l.set i v) j k = if j = i then v.testBit k else B l j k := by
 unfold B; rw [getD_set h]; split <;> rfl

theorem sm_set {l : List Nat} {i v : Nat} (h : i < l.length) (hs : sm l) (hv : v < 32768) : sm (l.set i v) := fun j => by
 rw [getD_set h]; split
 ·exact hv
 ·exact hs j

theorem ofI (x : Nat) (h : x < 18446744073709551616) : (BitVec.ofInt 64 (x : Int)).toNat = x := by
 rw [BitVec.toNat_ofInt]; omega

theorem xor64 (a b : Nat) (ha : a < 1152921504606846976) (hb : b < 1152921504606846976) : IntKind.i64.wrap ((BitVec.ofInt (IntKind.i64).bits (a : Int) ^^^ BitVec.ofInt (IntKind.i64).bits (b : Int)).toNat : Int) = ((a ^^^ b : Nat) : Int) := by
 show IntKind.i64.wrap ((BitVec.ofInt 64 (a : Int) ^^^ BitVec.ofInt 64 (b : Int)).toNat : Int) = _
 rw [BitVec.toNat_xor, ofI a (by omega), ofI b (by omega)]
 have : a ^^^ b < 2 ^ 60 := Nat.xor_lt_two_pow (by omega) (by omega)
 rw [w64 (by omega) (by omega)]

theorem and64 (a b : Nat) (ha : a < 1152921504606846976) (hb : b < 1152921504606846976) : IntKind.i64.wrap ((BitVec.ofInt (IntKind.i64).bits (a : Int) &&& BitVec.ofInt (IntKind.i64).bits (b : Int)).toNat : Int) = ((a &&& b : Nat) : Int) := by
 show IntKind.i64.wrap ((BitVec.ofInt 64 (a : Int) &&& BitVec.ofInt 64 (b : Int)).toNat : Int) = _
 rw [BitVec.toNat_and, ofI a (by omega), ofI b (by omega)]
 have : a &&& b ≤ a := Nat.and_le_left
 rw [w64 (by omega) (by omega)]

theorem or64 (a b : Nat) (ha : a < 1152921504606846976) (hb : b < 1152921504606846976) : IntKind.i64.wrap ((BitVec.ofInt (IntKind.i64).bits (a : Int) ||| BitVec.ofInt (IntKind.i64).bits (b : Int)).toNat : Int) = ((a ||| b : Nat) : Int) := by
 show IntKind.i64.wrap ((BitVec.ofInt 64 (a : Int) ||| BitVec.ofInt 64 (b : Int)).toNat : Int) = _
 rw [BitVec.toNat_or, ofI a (by omega), ofI b (by omega)]
 have : a ||| b < 2 ^ 60 := Nat.or_lt_two_pow (by omega) (by omega)
 rw [w64 (by omega) (by omega)]

theorem pow_small {c : Nat} (hc : c ≤ 14) : 2 ^ c ≤ 16384 ∧ 1 ≤ 2 ^ c := ⟨Nat.le_trans (Nat.pow_le_pow_right (by decide) hc) (by decide), Nat.one_le_two_pow⟩

theorem xor_sm {a b : Nat} (ha : a < 32768) (hb : b < 32768) : a ^^^ b < 32768 := by
 have : a ^^^ b < 2 ^ 15 := Nat.xor_lt_two_pow (by omega) (by omega)
 omega

theorem mask_bit (c k : Nat) : (2 ^ c - 1).testBit k = decide (k < c) := Nat.testBit_two_pow_sub_one c k

theorem and_bit (a c : Nat) : (((a &&& 2 ^ c : Nat) : Int) != 0) = a.testBit c := by
 cases h : a.testBit c
 ·have e : a &&& 2 ^ c = 0 := by
   refine Nat.eq_of_testBit_eq (fun k => ?_)
   rw [Nat.testBit_and, Nat.testBit_two_pow, Nat.zero_testBit]
   by_cases hk : c = k
   ·subst hk; rw [h]; rfl
   ·simp [hk]
  rw [e]; rfl
 ·have e : a &&& 2 ^ c ≠ 0 := fun e => by
   have := congrArg (fun x => x.testBit c) e
   simp only [Nat.testBit_and, Nat.testBit_two_pow, h, Nat.zero_testBit] at this
   simp at this
  rw [bne_iff_ne]
  omega

theorem mask_int {c : Nat} (hc : c ≤ 14) : IntKind.i64.wrap (((2 ^ c : Nat) : Int) - 1) = ((2 ^ c - 1 : Nat) : Int) := by
 have := pow_small hc
 rw [w64 (by omega) (by omega)]
 omega

theorem bend_eq {l : List Nat} {i c : Nat} (hs : sm l) (hi : i < l.length) (hc : c ≤ 14) : ∃ l', lake_bend_s (i : Int) ((2 ^ c : Nat) : Int) (cs l) = some ((), cs l') ∧ l'.length = l.length ∧ sm l' ∧ B l' = bb i c (B l) := by
 have h0 : 0 < l.length := by omega
 have hp := pow_small hc
 have z : (0 : Int) = ((0 : Nat) : Int) := rfl
 have s0 := hs 0
 have si := hs i
 unfold lake_bend_s
 rw [cs_at hi, bnd_some', and64 _ _ (by omega) (by omega), bnd_some', and_bit, mask_int hc]
 cases hb : (l.getD i 0).testBit c with
 | true =>
  rw [ift_true, z, cs_at h0, bnd_some', xor64 _ _ (by omega) (by omega), bnd_some', Int.toNat_natCast, cs_set]
  refine ⟨_, rfl, by simp, sm_set h0 hs (xor_sm s0 (by omega)), ?_⟩
  funext j k
  rw [B_set h0, Nat.testBit_xor, mask_bit]
  unfold bb B
  rw [hb]
  by_cases hk : k < c
  ·by_cases j0 : j = 0 <;> simp [hk, j0]
  ·by_cases j0 : j = 0 <;> simp [hk, j0]
 | false =>
  rw [ift_false, z, cs_at h0, bnd_some', xor64 _ _ (by omega) (by omega), bnd_some']
  have t1 := xor_sm s0 si
  rw [and64 _ _ (by omega) (by omega), bnd_some']
  have t2 : (l.getD 0 0 ^^^ l.getD i 0) &&& (2 ^ c - 1) < 32768 := Nat.lt_of_le_of_lt Nat.and_le_left t1
  generalize ht : (l.getD 0 0 ^^^ l.getD i 0) &&& (2 ^ c - 1) = t at *
  have t3 := xor_sm s0 t2
  have h1 : sm (l.set 0 (l.getD 0 0 ^^^ t)) := sm_set h0 hs t3
  have hi1 : i < (l.set 0 (l.getD 0 0 ^^^ t)).length := by rw [List.length_set]; exact hi
  rw [xor64 _ _ (by omega) (by omega), bnd_some', Int.toNat_natCast, cs_set, cs_at hi1, bnd_some']
  have t4 := h1 i
  rw [xor64 _ _ (by omega) (by omega), bnd_some', Int.toNat_natCast, cs_set]
  refine ⟨_, rfl, by simp, sm_set hi1 h1 (xor_sm t4 t2), ?_⟩
  funext j k
  have tb : t.testBit k = ((B l 0 k ^^ B l i k) && decide (k < c)) := by
   rw [← ht, Nat.testBit_and, Nat.testBit_xor, mask_bit]; rfl
  rw [B_set hi1, Nat.testBit_xor, tb]
  have e1 : ((l.set 0 (l.getD 0 0 ^^^ t)).getD i 0).testBit k = if i = 0 then (B l 0 k ^^ ((B l 0 k ^^ B l i k) && decide (k < c))) else B l i k := by
   have := B_set (v := l.getD 0 0 ^^^ t) h0 i k
   rw [Nat.testBit_xor, tb] at this
   exact this
  have e2 : B (l.set 0 (l.getD 0 0 ^^^ t)) j k = if j = 0 then (B l 0 k ^^ ((B l 0 k ^^ B l i k) && decide (k < c))) else B l j k := by
   have := B_set (v := l.getD 0 0 ^^^ t) h0 j k
   rw [Nat.testBit_xor, tb] at this
   exact this
  rw [e1, e2]
  unfold bb
  rw [show B l i c = false from hb]
  simp only [Bool.false_eq_true, if_false]
  by_cases hk : k < c
  ·simp only [hk, decide_true, Bool.and_true, if_true]
   by_cases j0 : j = 0
   ·subst j0
    by_cases i0 : i = 0
    ·subst i0; cases B l 0 k <;> simp
    ·rw [if_neg (fun h => i0 h.symm)]; cases B l 0 k <;> cases B l i k <;> simp
   ·by_cases ji : j = i
    ·subst ji
     rw [if_pos rfl, if_neg j0, if_neg j0, if_pos rfl]
     cases B l 0 k <;> cases B l j k <;> rfl
    ·rw [if_neg ji, if_neg j0, if_neg j0, if_neg ji]
  ·simp only [hk, decide_false, Bool.and_false, if_false, Bool.xor_false]
   by_cases ji : j = i
   ·subst ji
    rw [if_pos rfl]
    by_cases j0 : j = 0
    ·subst j0; rw [if_pos rfl]
    ·rw [if_neg j0]
   ·rw [if_neg ji]
    by_cases j0 : j = 0
    ·subst j0; rw [if_pos rfl]
    ·rw [if_neg j0]

end Go.Proofs.Ytbmkkmbgoenllaa
namespace Go.Proofs.Ytbmkkmbgoenllaa
open Go Go.SX Go.SX.Cal Go.Hil
set_option linter.unusedVariables false
set_option linter.unusedSimpArgs false

theorem sh1 : (min (1 : Int).toNat (IntKind.i64).bits) = 1 := by decide

theorem down_eq (rec4 : List Int → Int → Option (List Int)) (c : Nat) (hc : c ≤ 14) : ∀ (k f : Nat) (l : List Nat), sm l → k ≤ l.length → k < f → l.length < 1000 →
  ∃ l', lake_unhilbert_l5 rec4 ((2 ^ c : Nat) : Int) f (cs l) ((k : Int) - 1) = lake_unhilbert_j5 rec4 ((2 ^ c : Nat) : Int) (cs l') ∧ l'.length = l.length ∧ sm l' ∧ B l' = dB c k (B l)
 | 0, f, l, hs, hk, hf, hl => by
  obtain ⟨f, rfl⟩ : ∃ q, f = q + 1 := ⟨f - 1, by omega⟩
  rw [lake_unhilbert_l5, show decide ((0 : Int) ≤ ((0 : Nat) : Int) - 1) = false from rfl, ift_false]
  exact ⟨l, rfl, rfl, hs, rfl⟩
 | k + 1, f, l, hs, hk, hf, hl => by
  obtain ⟨f, rfl⟩ : ∃ q, f = q + 1 := ⟨f - 1, by omega⟩
  obtain ⟨l1, e1, e2, e3, e4⟩ := bend_eq hs (show k < l.length by omega) hc
  obtain ⟨l2, d1, d2, d3, d4⟩ := down_eq rec4 c hc k f l1 e3 (by omega) (by omega) (by omega)
  refine ⟨l2, ?_, d2.trans e2, d3, ?_⟩
  ·rw [lake_unhilbert_l5, show (((k + 1 : Nat) : Int) - 1) = (k : Int) by omega, show decide ((0 : Int) ≤ (k : Int)) = true by simp, ift_true, e1, bnd_some', grd_pos (by show (cs l1).length = (cs l).length; rw [cs_len, cs_len, e2]), w64 (by omega) (by omega)]
   exact d1
  ·rw [d4, e4]; rfl

theorem up_eq (r1 : List Int) (M n : Nat) (hM : M ≤ 14) (hn : r1.length = n) (hn2 : n < 1000) (X : Nat → Nat → Bool) : ∀ (m c f : Nat) (l : List Nat), c + m = M → m + 1 < f → sm l → l.length = n → B l = aB n c X →
  ∃ l', lake_unhilbert_l4 r1 ((2 ^ M : Nat) : Int) f (cs l) ((2 ^ (c + 1) : Nat) : Int) = some (cs l') ∧ l'.length = n ∧ sm l' ∧ B l' = aB n M X
 | 0, c, f, l, hc, hf, hs, hl, hB => by
  obtain ⟨f, rfl⟩ : ∃ q, f = q + 1 := ⟨f - 1, by omega⟩
  have : c = M := by omega
  subst this
  have h2 : 2 ^ c < 2 ^ (c + 1) := Nat.pow_lt_pow_right (by decide) (by omega)
  rw [lake_unhilbert_l4, show decide (((2 ^ (c + 1) : Nat) : Int) ≤ ((2 ^ c : Nat) : Int)) = false by rw [decide_eq_false_iff_not]; omega, ift_false]
  exact ⟨l, rfl, hl, hs, hB⟩
 | m + 1, c, f, l, hc, hf, hs, hl, hB => by
  obtain ⟨f, rfl⟩ : ∃ q, f = q + 1 := ⟨f - 1, by omega⟩
  have h2 : 2 ^ (c + 1) ≤ 2 ^ M := Nat.pow_le_pow_right (by decide) (by omega)
  have hp := pow_small (c := c + 1) (by omega)
  obtain ⟨l1, d1, d2, d3, d4⟩ := down_eq (lake_unhilbert_l4 r1 ((2 ^ M : Nat) : Int) f) (c + 1) (by omega) n BIG l hs (by omega) (by rw [big_val]; omega) (by omega)
  obtain ⟨l2, u1, u2, u3, u4⟩ := up_eq r1 M n hM hn hn2 X m (c + 1) f l1 (by omega) (by omega) d3 (by omega) (by rw [d4, hB]; rfl)
  refine ⟨l2, ?_, u2, u3, u4⟩
  rw [lake_unhilbert_l4, show decide (((2 ^ (c + 1) : Nat) : Int) ≤ ((2 ^ M : Nat) : Int)) = true by rw [decide_eq_true_eq]; omega, ift_true, hn, w64 (by omega) (by omega), d1]
  unfold lake_unhilbert_j5
  rw [sh1, w64 (by omega) (by omega), bnd_some', show (((2 ^ (c + 1) : Nat) : Int) * 2 ^ 1) = ((2 ^ (c + 1 + 1) : Nat) : Int) by rw [Nat.pow_succ 2 (c + 1)]; omega]
  exact u1

theorem gray_eq (r1 : List Int) (y1 : Int) : ∀ (k f : Nat) (l : List Nat), sm l → k < l.length → k < f → l.length < 1000 →
  ∃ l', lake_unhilbert_l3 r1 y1 f (cs l) (k : Int) = lake_unhilbert_j4 r1 y1 (cs l') ∧ l'.length = l.length ∧ sm l' ∧ ∀ j b, B l' j b = if 1 ≤ j ∧ j ≤ k then (B l j b ^^ B l (j - 1) b) else B l j b
 | 0, f, l, hs, hk, hf, hl => by
  obtain ⟨f, rfl⟩ : ∃ q, f = q + 1 := ⟨f - 1, by omega⟩
  rw [lake_unhilbert_l3, show decide ((0 : Int) < ((0 : Nat) : Int)) = false from rfl, ift_false]
  exact ⟨l, rfl, rfl, hs, fun j b => by rw [if_neg (by omega)]⟩
 | k + 1, f, l, hs, hk, hf, hl => by
  obtain ⟨f, rfl⟩ : ∃ q, f = q + 1 := ⟨f - 1, by omega⟩
  have s1 := hs (k + 1)
  have s2 := hs k
  obtain ⟨l2, d1, d2, d3, d4⟩ := gray_eq r1 y1 k f (l.set (k + 1) (l.getD (k + 1) 0 ^^^ l.getD k 0)) (sm_set hk hs (xor_sm s1 s2)) (by simp; omega) (by omega) (by simp; omega)
  refine ⟨l2, ?_, by rw [d2]; simp, d3, fun j b => ?_⟩
  ·rw [lake_unhilbert_l3, show decide ((0 : Int) < ((k + 1 : Nat) : Int)) = true by rw [decide_eq_true_eq]; omega, ift_true, cs_at hk, bnd_some', show IntKind.i64.wrap (((k + 1 : Nat) : Int) - 1) = (k : Int) by rw [w64 (by omega) (by omega)]; omega,
    cs_at (by omega), bnd_some', xor64 _ _ (by omega) (by omega), bnd_some', Int.toNat_natCast, cs_set]
   exact d1
  ·rw [d4, B_set hk, B_set hk, Nat.testBit_xor]
   by_cases h1 : 1 ≤ j ∧ j ≤ k
   ·rw [if_pos h1, if_neg (by omega), if_neg (by omega), if_pos (by omega)]
   ·rw [if_neg h1]
    by_cases h2 : j = k + 1
    ·subst h2; rw [if_pos rfl, if_pos (by omega)]; rfl
    ·rw [if_neg h2, if_neg (by omega)]

theorem all_eq (r1 : List Int) (y1 : Int) (t : Nat) (ht : t < 32768) (n : Nat) (hn : r1.length = n) (hn2 : n < 1000) : ∀ (m f i : Nat) (l : List Nat), i + m = n → m < f → sm l → l.length = n →
  ∃ l', lake_unhilbert_l2 r1 y1 (t : Int) f (cs l) (i : Int) = lake_unhilbert_j3 r1 y1 (cs l') ∧ l'.length = n ∧ sm l' ∧ ∀ j b, B l' j b = if i ≤ j ∧ j < n then (B l j b ^^ t.testBit b) else B l j b
 | 0, f, i, l, hi, hf, hs, hl => by
  obtain ⟨f, rfl⟩ : ∃ q, f = q + 1 := ⟨f - 1, by omega⟩
  rw [lake_unhilbert_l2, hn, show decide ((i : Int) < (n : Int)) = false by simp; omega, ift_false]
  exact ⟨l, rfl, hl, hs, fun j b => by rw [if_neg (by omega)]⟩
 | m + 1, f, i, l, hi, hf, hs, hl => by
  obtain ⟨f, rfl⟩ : ∃ q, f = q + 1 := ⟨f - 1, by omega⟩
  have s1 := hs i
  have hil : i < l.length := by omega
  obtain ⟨l2, d1, d2, d3, d4⟩ := all_eq r1 y1 t ht n hn hn2 m f (i + 1) (l.set i (l.getD i 0 ^^^ t)) (by omega) (by omega) (sm_set hil hs (xor_sm s1 ht)) (by simp; omega)
  refine ⟨l2, ?_, d2, d3, fun j b => ?_⟩
  ·rw [lake_unhilbert_l2, hn, show decide ((i : Int) < (n : Int)) = true by simp; omega, ift_true, cs_at hil, bnd_some', xor64 _ _ (by omega) (by omega), bnd_some', Int.toNat_natCast, cs_set, show IntKind.i64.wrap ((i : Int) + 1) = ((i + 1 : Nat) : Int) by rw [w64 (by omega) (by omega)]; omega]
   exact d1
  ·rw [d4, B_set hil, Nat.testBit_xor]
   by_cases h1 : i + 1 ≤ j ∧ j < n
   ·rw [if_pos h1, if_neg (by omega), if_pos (by omega)]
   ·rw [if_neg h1]
    by_cases h2 : j = i
    ·subst h2; rw [if_pos rfl, if_pos (by omega)]; rfl
    ·rw [if_neg h2, if_neg (by omega)]

theorem turn_eq (r1 : List Int) (y1 : Int) (a : Nat) (ha : a < 32768) : ∀ (c f t : Nat), c ≤ 14 → c < f → t < 32768 → (∀ k, t.testBit k = if c ≤ k then a.testBit (k + 1) else a.testBit (c + 1)) →
  lake_unhilbert_l1 r1 y1 (a : Int) f (t : Int) ((2 ^ c : Nat) : Int) = lake_unhilbert_j2 r1 y1 ((a / 2 : Nat) : Int)
 | 0, f, t, hc, hf, ht, h => by
  obtain ⟨f, rfl⟩ : ∃ q, f = q + 1 := ⟨f - 1, by omega⟩
  have e : t = a / 2 := Nat.eq_of_testBit_eq (fun k => by rw [h k, if_pos (Nat.zero_le _), Nat.testBit_succ])
  rw [lake_unhilbert_l1, show decide ((1 : Int) < ((2 ^ 0 : Nat) : Int)) = false from rfl, ift_false, e]
 | c + 1, f, t, hc, hf, ht, h => by
  obtain ⟨f, rfl⟩ : ∃ q, f = q + 1 := ⟨f - 1, by omega⟩
  have hp := pow_small (c := c) (by omega)
  have hq := pow_small (c := c + 1) hc
  have h2 : 2 ^ (c + 1) = 2 * 2 ^ c := by rw [Nat.pow_succ]; omega
  have hx := xor_sm ha ht
  have fd : (((2 ^ (c + 1) : Nat) : Int).fdiv (2 ^ (min (1 : Int).toNat (IntKind.i64).bits))) = ((2 ^ c : Nat) : Int) := by
   rw [sh1, h2, Int.fdiv_eq_ediv_of_nonneg _ (by decide)]
   omega
  rw [lake_unhilbert_l1, show decide ((1 : Int) < ((2 ^ (c + 1) : Nat) : Int)) = true by rw [decide_eq_true_eq]; omega, ift_true, xor64 _ _ (by omega) (by omega), bnd_some', and64 _ _ (by omega) (by omega), bnd_some', and_bit, Nat.testBit_xor]
  have hc1 := h (c + 1)
  rw [if_pos (Nat.le_refl _)] at hc1
  rw [hc1]
  cases hb : (a.testBit (c + 1) ^^ a.testBit (c + 1 + 1)) with
  | true =>
   rw [ift_true, mask_int hc, xor64 _ _ (by omega) (by omega), bnd_some']
   unfold lake_unhilbert_j1
   rw [fd]
   refine turn_eq r1 y1 a ha c f _ (by omega) (by omega) (xor_sm ht (by omega)) (fun k => ?_)
   rw [Nat.testBit_xor, mask_bit, h k]
   by_cases h1 : c + 1 ≤ k
   ·rw [if_pos h1, if_pos (by omega), decide_eq_false (by omega), Bool.xor_false]
   ·rw [if_neg h1, decide_eq_true (by omega)]
    have e : (a.testBit (c + 1 + 1) ^^ true) = a.testBit (c + 1) := by revert hb; cases a.testBit (c + 1) <;> cases a.testBit (c + 1 + 1) <;> simp
    rw [e]
    by_cases h3 : c ≤ k
    ·rw [if_pos h3, show k = c by omega]
    ·rw [if_neg h3]
  | false =>
   rw [ift_false]
   unfold lake_unhilbert_j1
   rw [fd]
   refine turn_eq r1 y1 a ha c f _ (by omega) (by omega) ht (fun k => ?_)
   rw [h k]
   have e : a.testBit (c + 1 + 1) = a.testBit (c + 1) := by revert hb; cases a.testBit (c + 1) <;> cases a.testBit (c + 1 + 1) <;> simp
   by_cases h1 : c + 1 ≤ k
   ·rw [if_pos h1, if_pos (by omega)]
   ·rw [if_neg h1, e]
    by_cases h3 : c ≤ k
    ·rw [if_pos h3, show k = c by omega]
    ·rw [if_neg h3]

theorem unhilbert_eq {l : List Nat} {M n : Nat} (hM : M ≤ 14) (hn : l.length = n) (h0 : 0 < n) (hn2 : n < 1000) (hs : ∀ j, l.getD j 0 < 2 ^ (M + 1)) :
  ∃ l', lake_unhilbert ((M + 1 : Nat) : Int) (cs l) = some (cs l') ∧ l'.length = n ∧ sm l' ∧ B l' = aB n M (fun j b => if j = 0 then (B l 0 b ^^ B l (n - 1) (b + 1)) else if j < n then (B l j b ^^ B l (j - 1) b) else B l j b) := by
 have hp : 2 ^ (M + 1) ≤ 32768 := Nat.le_trans (Nat.pow_le_pow_right (by decide) (show M + 1 ≤ 15 by omega)) (by decide)
 have hpm := pow_small hM
 have hsm : sm l := fun j => by have := hs j; omega
 have ha := hs (n - 1)
 have hcl := cs_len l
 obtain ⟨l1, a1, a2, a3, a4⟩ := all_eq (cs l) ((2 ^ M : Nat) : Int) (l.getD (n - 1) 0 / 2) (by omega) n (by omega) hn2 n BIG 0 l (by omega) (by rw [big_val]; omega) hsm hn
 obtain ⟨l2, b1, b2, b3, b4⟩ := gray_eq (cs l) ((2 ^ M : Nat) : Int) (n - 1) BIG l1 a3 (by omega) (by rw [big_val]; omega) (by omega)
 obtain ⟨l3, c1, c2, c3, c4⟩ := up_eq (cs l) M n hM (by omega) hn2 (B l2) M 0 BIG l2 (by omega) (by rw [big_val]; omega) b3 (by omega) rfl
 refine ⟨l3, ?_, c2, c3, ?_⟩
 ·unfold lake_unhilbert slices_Clone_int_int
  have hne : cs l ≠ [] := fun e => by have := congrArg List.length e; simp only [List.length_nil] at this; omega
  rw [grd_pos hne, grd_pos (by simp; omega), bnd_some', List.nil_append, w64 (by omega) (by omega), grd_pos (by omega), show ((M + 1 : Nat) : Int) - 1 = (M : Int) by omega, Int.toNat_natCast,
   show min M (IntKind.i64).bits = M from Nat.min_eq_left (by show M ≤ 64; omega), show ((1 : Int) * 2 ^ M) = ((2 ^ M : Nat) : Int) by rw [Int.one_mul]; push_cast; rfl, w64 (by omega) (by omega), bnd_some',
   hcl, hn, w64 (by omega) (by omega), show ((n : Int) - 1) = ((n - 1 : Nat) : Int) by omega, cs_at (by omega), bnd_some']
  have t := turn_eq (cs l) ((2 ^ M : Nat) : Int) (l.getD (n - 1) 0) (by omega) M BIG 0 hM (by rw [big_val]; omega) (by decide) (fun k => by
   rw [Nat.zero_testBit]
   have z : ∀ q, M + 1 ≤ q → (l.getD (n - 1) 0).testBit q = false := fun q hq => Nat.testBit_lt_two_pow (Nat.lt_of_lt_of_le ha (Nat.pow_le_pow_right (by decide) hq))
   by_cases hk : M ≤ k
   ·rw [if_pos hk, z _ (by omega)]
   ·rw [if_neg hk, z _ (by omega)])
  refine t.trans ?_
  unfold lake_unhilbert_j2
  refine a1.trans ?_
  unfold lake_unhilbert_j3
  rw [hcl, hn, w64 (by omega) (by omega), show ((n : Int) - 1) = ((n - 1 : Nat) : Int) by omega, b1]
  unfold lake_unhilbert_j4
  exact c1
 ·rw [c4]
  congr 1
  funext j b
  rw [b4, a4, a4]
  have tb : (l.getD (n - 1) 0 / 2).testBit b = B l (n - 1) (b + 1) := by unfold B; rw [Nat.testBit_succ]
  rw [tb]
  by_cases j0 : j = 0
  ·subst j0
   rw [if_neg (by omega), if_pos (by omega), if_pos rfl]
  ·rw [if_neg j0]
   by_cases hj : j < n
   ·rw [if_pos (by omega), if_pos (by omega), if_pos (by omega), if_pos hj]
    cases B l j b <;> cases B l (j - 1) b <;> cases B l (n - 1) (b + 1) <;> rfl
   ·rw [if_neg (by omega), if_neg (by omega), if_neg hj]

end Go.Proofs.Ytbmkkmbgoenllaa
namespace Go.Proofs.Ytbmkkmbgoenllaa
open Go Go.SX Go.SX.Cal Go.Hil
set_option linter.unusedVariables false
set_option linter.unusedSimpArgs false

theorem idx_iff {n j k x : Nat} (hn : 1 ≤ n ∧ n ≤ 4) (hj : j < n) : k * n + (n - 1 - j) = x ↔ (j = n - 1 - x % n ∧ k = x / n) := by
 obtain ⟨h1, h2⟩ := hn
 have : n = 1 ∨ n = 2 ∨ n = 3 ∨ n = 4 := by omega
 rcases this with rfl | rfl | rfl | rfl <;> omega

theorem bit_one (p x : Nat) : (p / 2 ^ x) &&& 1 = if p.testBit x = true then 1 else 0 := by
 rw [Nat.and_one_is_mod, Nat.testBit_eq_decide_div_mod_eq]
 by_cases h : p / 2 ^ x % 2 = 1
 ·rw [h]; simp
 ·rw [if_neg (by simpa using h)]; omega

theorem and64_1 (a : Nat) (ha : a < 1152921504606846976) : IntKind.i64.wrap ((BitVec.ofInt (IntKind.i64).bits (a : Int) &&& BitVec.ofInt (IntKind.i64).bits (1 : Int)).toNat : Int) = ((a &&& 1 : Nat) : Int) := and64 a 1 ha (by decide)

theorem unwoven_eq {bits n p : Nat} (hb : 1 ≤ bits ∧ bits ≤ 15) (hn : 1 ≤ n ∧ n ≤ 4) (hp : p < 1152921504606846976) : ∀ (m f x : Nat) (l : List Nat), x + m = bits * n → m < f → sm l → l.length = n →
  ∃ l', lake_unwoven_l1 (bits : Int) (n : Int) (p : Int) f (cs l) (x : Int) = some (cs l') ∧ l'.length = n ∧ sm l' ∧
   ∀ j k, B l' j k = (B l j k || (decide (j < n ∧ x ≤ k * n + (n - 1 - j) ∧ k * n + (n - 1 - j) < bits * n) && p.testBit (k * n + (n - 1 - j)))) := by
 have hbn : bits * n ≤ 60 := by
  have := Nat.mul_le_mul hb.2 hn.2
  omega
 have hw : IntKind.i64.wrap ((bits : Int) * (n : Int)) = ((bits * n : Nat) : Int) := by
  rw [show ((bits : Int) * (n : Int)) = ((bits * n : Nat) : Int) by push_cast; rfl, w64 (by omega) (by omega)]
 intro m
 induction m with
 | zero =>
  intro f x l hx hf hs hl
  obtain ⟨f, rfl⟩ : ∃ q, f = q + 1 := ⟨f - 1, by omega⟩
  rw [lake_unwoven_l1, hw, show decide ((x : Int) < ((bits * n : Nat) : Int)) = false by rw [decide_eq_false_iff_not]; omega, ift_false]
  exact ⟨l, rfl, hl, hs, fun j k => by rw [decide_eq_false (by omega)]; simp⟩
 | succ m ih =>
  intro f x l hx hf hs hl
  obtain ⟨f, rfl⟩ : ∃ q, f = q + 1 := ⟨f - 1, by omega⟩
  have hmod : x % n < n := Nat.mod_lt _ (by omega)
  have hdiv : x / n ≤ 14 := by
   have : x / n < bits := Nat.div_lt_of_lt_mul (by rw [Nat.mul_comm]; omega)
   omega
  have hi : n - 1 - x % n < l.length := by omega
  have hpd : p / 2 ^ x ≤ p := Nat.div_le_self _ _
  have s1 := hs (n - 1 - x % n)
  have hpw := pow_small hdiv
  have hv : (if p.testBit x = true then 2 ^ (x / n) else 0) < 32768 := by split <;> omega
  have hor : l.getD (n - 1 - x % n) 0 ||| (if p.testBit x = true then 2 ^ (x / n) else 0) < 32768 := by
   have : l.getD (n - 1 - x % n) 0 ||| (if p.testBit x = true then 2 ^ (x / n) else 0) < 2 ^ 15 := Nat.or_lt_two_pow (by omega) (by omega)
   omega
  obtain ⟨l', d1, d2, d3, d4⟩ := ih f (x + 1) (l.set (n - 1 - x % n) (l.getD (n - 1 - x % n) 0 ||| (if p.testBit x = true then 2 ^ (x / n) else 0))) (by omega) (by omega) (sm_set hi hs hor) (by simp; omega)
  refine ⟨l', ?_, d2, d3, fun j k => ?_⟩
  ·have q0 : (0 : Int) ≤ ((x / n : Nat) : Int) := Int.natCast_nonneg _
   have q1 : ((x / n : Nat) : Int) ≤ 14 := Int.ofNat_le.2 hdiv
   have t1 : ((x : Int)).tmod (n : Int) = ((x % n : Nat) : Int) := by rw [Int.tmod_eq_emod_of_nonneg (by omega)]; push_cast; rfl
   have t2 : ((x : Int)).tdiv (n : Int) = ((x / n : Nat) : Int) := by rw [Int.tdiv_eq_ediv_of_nonneg (by omega)]; push_cast; rfl
   have t3 : ((p : Int)).fdiv (2 ^ (min ((x : Int)).toNat (IntKind.i64).bits)) = ((p / 2 ^ x : Nat) : Int) := by
    rw [Int.toNat_natCast, show min x (IntKind.i64).bits = x from Nat.min_eq_left (by show x ≤ 64; omega), Int.fdiv_eq_ediv_of_nonneg _ (Int.le_of_lt (Int.pow_pos (by decide)))]
    push_cast; rfl
   rw [lake_unwoven_l1, hw, show decide ((x : Int) < ((bits * n : Nat) : Int)) = true by rw [decide_eq_true_eq]; omega, ift_true, grd_pos (by omega), t1, w64 (x := (n : Int) - 1) (by omega) (by omega),
    show IntKind.i64.wrap ((n : Int) - 1 - ((x % n : Nat) : Int)) = ((n - 1 - x % n : Nat) : Int) by rw [w64 (by omega) (by omega)]; omega, bnd_some', cs_at hi, bnd_some', grd_pos (by omega), t3,
    and64_1 _ (by omega), bnd_some', grd_pos (show (n : Int) ≠ 0 by omega), t2, w64 (x := ((x / n : Nat) : Int)) (Int.le_trans (by decide) q0) (Int.le_trans q1 (by decide)), grd_pos q0, bit_one, Int.toNat_natCast, show min (x / n) (IntKind.i64).bits = x / n from Nat.min_eq_left (by show x / n ≤ 64; omega)]
   have t4 : IntKind.i64.wrap (((if p.testBit x = true then 1 else 0 : Nat) : Int) * 2 ^ (x / n)) = ((if p.testBit x = true then 2 ^ (x / n) else 0 : Nat) : Int) := by
    have e : (((if p.testBit x = true then 1 else 0 : Nat) : Int) * 2 ^ (x / n)) = ((if p.testBit x = true then 2 ^ (x / n) else 0 : Nat) : Int) := by
     split
     ·rw [show ((1 : Nat) : Int) = 1 from rfl, Int.one_mul]; push_cast; rfl
     ·rw [show ((0 : Nat) : Int) = 0 from rfl, Int.zero_mul]
    rw [e, w64 (by omega) (by omega)]
   rw [t4, bnd_some', or64 _ _ (by omega) (by omega), bnd_some', Int.toNat_natCast, cs_set, show IntKind.i64.wrap ((x : Int) + 1) = ((x + 1 : Nat) : Int) by rw [w64 (by omega) (by omega)]; omega]
   exact d1
  ·rw [d4, B_set hi, Nat.testBit_or]
   have hvb : (if p.testBit x = true then 2 ^ (x / n) else 0).testBit k = (p.testBit x && decide (x / n = k)) := by
    split
    ·rename_i h; rw [h, Nat.testBit_two_pow, Bool.true_and]
    ·rename_i h; rw [Nat.zero_testBit]; simp [h]
   rw [hvb]
   by_cases hj : j < n
   ·have hx := idx_iff (k := k) (x := x) hn hj
    by_cases he : k * n + (n - 1 - j) = x
    ·obtain ⟨e1, e2⟩ := hx.1 he
     rw [if_pos e1, decide_eq_true e2.symm, Bool.and_true, decide_eq_false (by omega), Bool.false_and, Bool.or_false, decide_eq_true (by omega), Bool.true_and, he, ← e1]; rfl
    ·have hd : decide (j < n ∧ x + 1 ≤ k * n + (n - 1 - j) ∧ k * n + (n - 1 - j) < bits * n) = decide (j < n ∧ x ≤ k * n + (n - 1 - j) ∧ k * n + (n - 1 - j) < bits * n) := by
      rw [decide_eq_decide]; omega
     rw [hd]
     congr 1
     by_cases e1 : j = n - 1 - x % n
     ·rw [if_pos e1, decide_eq_false (fun e2 => he (hx.2 ⟨e1, e2.symm⟩)), Bool.and_false, Bool.or_false, ← e1]; rfl
     ·rw [if_neg e1]
   ·rw [if_neg (by omega), decide_eq_false (by omega), decide_eq_false (by omega)]

def gX (n p : Nat) : Nat → Nat → Bool := fun j b => decide (j < n) && (p.testBit (b * n + (n - 1 - j)) ^^ p.testBit (b * n + (n - 1 - j) + 1))

theorem curve_ok {bits n : Nat} (hb : 1 ≤ bits ∧ bits ≤ 15) (hn : 1 ≤ n ∧ n ≤ 4) : lake_curve 2 (bits : Int) (n : Int) = some 0 := by
 unfold lake_curve lake_curve_j1
 rw [show ((2 : Int) != 1) = true from rfl, ift_true, show ((2 : Int) != 2) = false from rfl, ift_false, show decide ((bits : Int) < 1) = false by rw [decide_eq_false_iff_not]; omega, ift_false,
  show decide ((15 : Int) < (bits : Int)) = false by rw [decide_eq_false_iff_not]; omega, ift_false, show decide ((4 : Int) < (n : Int)) = false by rw [decide_eq_false_iff_not]; omega, ift_false,
  show decide ((n : Int) < 1) = false by rw [decide_eq_false_iff_not]; omega, ift_false]

theorem uncurve_eq {M n p : Nat} (hM : M ≤ 14) (hn : 1 ≤ n ∧ n ≤ 4) (hp : p < 2 ^ ((M + 1) * n)) :
  ∃ l, lake_Uncurve 2 ((M + 1 : Nat) : Int) (n : Int) (p : Int) = some (cs l, 0) ∧ l.length = n ∧ sm l ∧ B l = aB n M (gX n p) := by
 have hbn : (M + 1) * n ≤ 60 := by
  have := Nat.mul_le_mul (show M + 1 ≤ 15 by omega) hn.2
  omega
 have hp60 : 2 ^ ((M + 1) * n) ≤ 1152921504606846976 := Nat.le_trans (Nat.pow_le_pow_right (by decide) hbn) (by decide)
 have hw : IntKind.i64.wrap (((M + 1 : Nat) : Int) * (n : Int)) = (((M + 1) * n : Nat) : Int) := by
  rw [show (((M + 1 : Nat) : Int) * (n : Int)) = (((M + 1) * n : Nat) : Int) from (Int.natCast_mul _ _).symm, w64 (by omega) (by omega)]
 have z : sm (List.replicate n 0) := fun j => by
  simp only [List.getD, List.getElem?_replicate]; split <;> simp
 have zB : ∀ j k, B (List.replicate n 0) j k = false := fun j k => by
  unfold B
  have : (List.replicate n 0).getD j 0 = 0 := by simp only [List.getD, List.getElem?_replicate]; split <;> simp
  rw [this, Nat.zero_testBit]
 obtain ⟨u, u1, u2, u3, u4⟩ := unwoven_eq (p := p) (bits := M + 1) ⟨by omega, by omega⟩ hn (by omega) ((M + 1) * n) BIG 0 (List.replicate n 0) (by omega) (by rw [big_val]; omega) z (by simp)
 have uB : ∀ j k, B u j k = (decide (j < n) && p.testBit (k * n + (n - 1 - j))) := fun j k => by
  rw [u4, zB, Bool.false_or]
  by_cases hj : j < n
  ·by_cases hk : k * n + (n - 1 - j) < (M + 1) * n
   ·rw [decide_eq_true (by omega), decide_eq_true hj]
   ·rw [decide_eq_false (by omega), Bool.false_and, Nat.testBit_lt_two_pow (Nat.lt_of_lt_of_le hp (Nat.pow_le_pow_right (by decide) (by omega))), Bool.and_false]
  ·rw [decide_eq_false (by omega), decide_eq_false hj]
 have us : ∀ j, u.getD j 0 < 2 ^ (M + 1) := fun j => by
  refine Nat.lt_pow_two_of_testBit _ (fun k hk => ?_)
  have := uB j k
  unfold B at this
  rw [this]
  by_cases hj : j < n
  ·have : (M + 1) * n ≤ k * n := Nat.mul_le_mul_right n hk
   rw [Nat.testBit_lt_two_pow (Nat.lt_of_lt_of_le hp (Nat.pow_le_pow_right (by decide) (by omega))), Bool.and_false]
  ·rw [decide_eq_false hj, Bool.false_and]
 obtain ⟨l, l1, l2, l3, l4⟩ := unhilbert_eq hM u2 (by omega) (by omega) us
 refine ⟨l, ?_, l2, l3, ?_⟩
 ·unfold lake_Uncurve lake_Uncurve_j1 lake_unwoven
  have e2 : IntKind.i64.wrap ((1 : Int) * 2 ^ (min ((((M + 1) * n : Nat) : Int)).toNat (IntKind.i64).bits)) = ((2 ^ ((M + 1) * n) : Nat) : Int) := by
   rw [Int.toNat_natCast, show min ((M + 1) * n) (IntKind.i64).bits = (M + 1) * n from Nat.min_eq_left (by show (M + 1) * n ≤ 64; omega), Int.one_mul, show ((2 : Int) ^ ((M + 1) * n)) = ((2 ^ ((M + 1) * n) : Nat) : Int) by push_cast; rfl, w64 (by omega) (by omega)]
  have u1' : lake_unwoven_l1 ((M + 1 : Nat) : Int) (n : Int) (p : Int) BIG (List.replicate n (0 : Int)) 0 = some (cs u) := by
   have : cs (List.replicate n 0) = List.replicate n (0 : Int) := by unfold cs; rw [List.map_replicate]; rfl
   rw [← this]; exact u1
  rw [curve_ok ⟨by omega, by omega⟩ hn, bnd_some', show ((0 : Int) != 0) = false from rfl, ift_false, show decide ((p : Int) < 0) = false by rw [decide_eq_false_iff_not]; omega, ift_false, hw, grd_pos (by omega), e2, bnd_some',
   show decide (((2 ^ ((M + 1) * n) : Nat) : Int) ≤ (p : Int)) = false by rw [decide_eq_false_iff_not]; omega, ift_false, grd_pos (by omega), Int.toNat_natCast, u1', bnd_some', show ((2 : Int) == 2) = true from rfl, ift_true, l1, bnd_some']
  rfl
 ·rw [l4]
  congr 1
  funext j b
  rw [uB, uB, uB, uB]
  unfold gX
  by_cases j0 : j = 0
  ·subst j0
   rw [if_pos rfl, decide_eq_true (show n - 1 < n by omega), decide_eq_true (show 0 < n by omega), Bool.true_and, Bool.true_and, Bool.true_and, show (b + 1) * n + (n - 1 - (n - 1)) = b * n + (n - 1 - 0) + 1 by rw [Nat.add_mul]; omega]
  ·rw [if_neg j0]
   by_cases hj : j < n
   ·rw [if_pos hj, decide_eq_true hj, decide_eq_true (show j - 1 < n by omega), Bool.true_and, Bool.true_and, Bool.true_and, show b * n + (n - 1 - (j - 1)) = b * n + (n - 1 - j) + 1 by omega]
   ·rw [if_neg hj, decide_eq_false hj, Bool.false_and, Bool.false_and]

end Go.Proofs.Ytbmkkmbgoenllaa
namespace Go.Proofs.Ytbmkkmbgoenllaa
open Go Go.SX Go.SX.Cal Go.Hil
set_option linter.unusedVariables false
set_option linter.unusedSimpArgs false

theorem odd_part : ∀ (p : Nat), 0 < p → ∃ e a, p = 2 ^ e * (2 * a + 1)
 | p, hp => by
  by_cases h : p % 2 = 1
  ·exact ⟨0, p / 2, by omega⟩
  ·obtain ⟨e, a, he⟩ := odd_part (p / 2) (by omega)
   refine ⟨e + 1, a, ?_⟩
   rw [Nat.pow_succ, Nat.mul_comm (2 ^ e) 2, Nat.mul_assoc, ← he]
   omega
 termination_by p => p

theorem pbit (e a k : Nat) : (2 ^ e * (2 * a + 1)).testBit k = if k < e then false else if k = e then true else a.testBit (k - e - 1) := by
 rw [Nat.testBit_two_pow_mul]
 by_cases h : k < e
 ·rw [if_pos h, decide_eq_false (by omega), Bool.false_and]
 ·rw [if_neg h, decide_eq_true (by omega), Bool.true_and]
  by_cases h2 : k = e
  ·subst h2; rw [if_pos rfl, Nat.sub_self, Nat.testBit_zero]; simp
  ·rw [if_neg h2, show k - e = (k - e - 1) + 1 by omega, Nat.testBit_succ, show (2 * a + 1) / 2 = a by omega, Nat.add_sub_cancel]

theorem qbit (e a k : Nat) : (2 ^ e * (2 * a + 1) - 1).testBit k = if k < e then true else if k = e then false else a.testBit (k - e - 1) := by
 have h1 := Nat.one_le_two_pow (n := e)
 have hq : 2 ^ e * (2 * a + 1) - 1 = 2 ^ e * (2 * a) + (2 ^ e - 1) := by rw [Nat.mul_add, Nat.mul_one]; omega
 rw [hq, Nat.testBit_two_pow_mul_add _ (by omega)]
 by_cases h : k < e
 ·rw [if_pos h, if_pos h, Nat.testBit_two_pow_sub_one, decide_eq_true h]
 ·rw [if_neg h, if_neg h]
  by_cases h2 : k = e
  ·subst h2; rw [if_pos rfl, Nat.sub_self, Nat.testBit_zero]; simp
  ·rw [if_neg h2, show k - e = (k - e - 1) + 1 by omega, Nat.testBit_succ, show (2 * a) / 2 = a by omega, Nat.add_sub_cancel]

theorem gray_p (e a k : Nat) : ((2 ^ e * (2 * a + 1)).testBit k ^^ (2 ^ e * (2 * a + 1)).testBit (k + 1)) = if k + 1 < e then false else if k + 1 = e then true else if k = e then !a.testBit 0 else (a.testBit (k - e - 1) ^^ a.testBit (k - e)) := by
 rw [pbit, pbit]
 by_cases h1 : k + 1 < e
 ·rw [if_pos (by omega), if_pos h1, if_pos h1]; rfl
 ·rw [if_neg h1, if_neg h1]
  by_cases h2 : k + 1 = e
  ·rw [if_pos (by omega), if_pos h2, if_pos h2]; rfl
  ·rw [if_neg (by omega), if_neg h2, if_neg h2]
   by_cases h3 : k = e
   ·rw [if_pos h3, if_pos h3, show k + 1 - e - 1 = 0 by omega]; simp
   ·rw [if_neg h3, if_neg h3, show k + 1 - e - 1 = k - e by omega]

theorem gray_q (e a k : Nat) : ((2 ^ e * (2 * a + 1) - 1).testBit k ^^ (2 ^ e * (2 * a + 1) - 1).testBit (k + 1)) = if k + 1 < e then false else if k + 1 = e then true else if k = e then a.testBit 0 else (a.testBit (k - e - 1) ^^ a.testBit (k - e)) := by
 rw [qbit, qbit]
 by_cases h1 : k + 1 < e
 ·rw [if_pos (by omega), if_pos h1, if_pos h1]; rfl
 ·rw [if_neg h1, if_neg h1]
  by_cases h2 : k + 1 = e
  ·rw [if_pos (by omega), if_pos h2, if_pos h2]; rfl
  ·rw [if_neg (by omega), if_neg h2, if_neg h2]
   by_cases h3 : k = e
   ·rw [if_pos h3, if_pos h3, show k + 1 - e - 1 = 0 by omega]; simp
   ·rw [if_neg h3, if_neg h3, show k + 1 - e - 1 = k - e by omega]

theorem idx_e {n e j k : Nat} (hn : 1 ≤ n ∧ n ≤ 4) (hj : j < n) :
  (k * n + (n - 1 - j) = e ↔ (j = n - 1 - e % n ∧ k = e / n)) ∧ (k < e / n → e % n ≠ 0 → k * n + (n - 1 - j) + 1 < e) ∧ (k = e / n → j = n - 1 - e % n + 1 → k * n + (n - 1 - j) + 1 = e) ∧
  (k = e / n → n - 1 - e % n + 1 < j → k * n + (n - 1 - j) + 1 < e) ∧ (e % n = 0 → k + 1 = e / n → (j = 0 → k * n + (n - 1 - j) + 1 = e) ∧ (j ≠ 0 → k * n + (n - 1 - j) + 1 < e)) ∧ (k + 1 < e / n → k * n + (n - 1 - j) + 1 < e) ∧ e % n < n := by
 obtain ⟨h1, h2⟩ := hn
 have : n = 1 ∨ n = 2 ∨ n = 3 ∨ n = 4 := by omega
 rcases this with rfl | rfl | rfl | rfl <;> omega

theorem near_gray {n : Nat} (hn : 1 ≤ n ∧ n ≤ 4) (e a : Nat) : Near n (e / n) (n - 1 - e % n) (gX n (2 ^ e * (2 * a + 1) - 1)) (gX n (2 ^ e * (2 * a + 1))) := by
 have hm : e % n < n := (idx_e (e := e) (j := 0) (k := 0) hn (by omega)).2.2.2.2.2.2
 have hi : n - 1 - e % n < n := by omega
 have out : ∀ p j k, ¬ j < n → gX n p j k = false := fun p j k h => by unfold gX; rw [decide_eq_false h, Bool.false_and]
 have inn : ∀ j k, j < n → gX n (2 ^ e * (2 * a + 1) - 1) j k = (if k * n + (n - 1 - j) + 1 < e then false else if k * n + (n - 1 - j) + 1 = e then true else if k * n + (n - 1 - j) = e then a.testBit 0 else (a.testBit (k * n + (n - 1 - j) - e - 1) ^^ a.testBit (k * n + (n - 1 - j) - e))) := fun j k h => by
  unfold gX; rw [decide_eq_true h, Bool.true_and, gray_q]
 have inp : ∀ j k, j < n → gX n (2 ^ e * (2 * a + 1)) j k = (if k * n + (n - 1 - j) + 1 < e then false else if k * n + (n - 1 - j) + 1 = e then true else if k * n + (n - 1 - j) = e then !a.testBit 0 else (a.testBit (k * n + (n - 1 - j) - e - 1) ^^ a.testBit (k * n + (n - 1 - j) - e))) := fun j k h => by
  unfold gX; rw [decide_eq_true h, Bool.true_and, gray_p]
 refine ⟨fun k l h => ?_, ?_, ?_⟩
 ·by_cases hk : k < n
  ·have := (idx_e (e := e) (k := l) hn hk).1
   have hne : l * n + (n - 1 - k) ≠ e := fun he => by have := this.1 he; omega
   rw [inn k l hk, inp k l hk, if_neg hne, if_neg hne]
  ·rw [out _ _ _ hk, out _ _ _ hk]
 ·have he := (idx_e (e := e) (k := e / n) hn hi).1.2 ⟨rfl, rfl⟩
  rw [inn _ _ hi, inp _ _ hi, he, if_neg (by omega), if_neg (by omega), if_pos rfl, if_neg (by omega), if_neg (by omega), if_pos rfl, Bool.not_not]
 ·by_cases h0 : e % n = 0
  ·refine .inr ⟨by omega, ?_⟩
   by_cases hb : e / n = 0
   ·exact .inl hb
   ·have hb1 : 0 < e / n := Nat.pos_of_ne_zero hb
    generalize hq : e / n = q at *
    refine .inr ⟨hb1, fun j => ?_, fun j l hl => ?_⟩
    ·by_cases hj : j < n
     ·have := (idx_e (e := e) (k := q - 1) hn hj).2.2.2.2.1 h0 (by rw [hq]; omega)
      rw [inn _ _ hj]
      by_cases j0 : j = 0
      ·rw [if_neg (by have := this.1 j0; omega), if_pos (this.1 j0), decide_eq_true j0]
      ·rw [if_pos (this.2 j0), decide_eq_false j0]
     ·rw [out _ _ _ hj, decide_eq_false (by omega)]
    ·by_cases hj : j < n
     ·have := (idx_e (e := e) (k := l) hn hj).2.2.2.2.2.1 (by rw [hq]; omega)
      rw [inn _ _ hj, if_pos this]
     ·rw [out _ _ _ hj]
  ·refine .inl ⟨by omega, fun j l hl => ?_, ?_, fun j h1 h2 => ?_⟩
   ·by_cases hj : j < n
    ·have := (idx_e (e := e) (k := l) hn hj).2.1 hl h0
     rw [inn _ _ hj, if_pos this]
    ·rw [out _ _ _ hj]
   ·have hj : n - 1 - e % n + 1 < n := by omega
    have := (idx_e (e := e) (k := e / n) hn hj).2.2.1 rfl rfl
    rw [inn _ _ hj, if_neg (by omega), if_pos this]
   ·have := (idx_e (e := e) (k := e / n) hn h2).2.2.2.1 rfl h1
    rw [inn _ _ h2, if_pos this]

theorem step_nat {x y b : Nat} (hh : ∀ l, b < l → x.testBit l = y.testBit l) (hx : x.testBit b = false) (hy : y.testBit b = true) (lx : ∀ l, l < b → x.testBit l = true) (ly : ∀ l, l < b → y.testBit l = false) : y = x + 1 := by
 have h1 := Nat.one_le_two_pow (n := b)
 have hp : 2 ^ (b + 1) = 2 * 2 ^ b := by rw [Nat.pow_succ]; omega
 have e1 : x / 2 ^ (b + 1) = y / 2 ^ (b + 1) := Nat.eq_of_testBit_eq (fun k => by rw [Nat.testBit_div_two_pow, Nat.testBit_div_two_pow]; exact hh _ (by omega))
 have e2 : x % 2 ^ (b + 1) = 2 ^ b - 1 := Nat.eq_of_testBit_eq (fun k => by
  rw [Nat.testBit_mod_two_pow, Nat.testBit_two_pow_sub_one]
  by_cases h : k < b
  ·rw [decide_eq_true (show k < b + 1 by omega), decide_eq_true h, lx k h]; rfl
  ·rw [decide_eq_false h]
   by_cases h2 : k = b
   ·subst h2; rw [hx, Bool.and_false]
   ·rw [decide_eq_false (by omega), Bool.false_and])
 have e3 : y % 2 ^ (b + 1) = 2 ^ b := Nat.eq_of_testBit_eq (fun k => by
  rw [Nat.testBit_mod_two_pow, Nat.testBit_two_pow]
  by_cases h : k < b
  ·rw [ly k h, Bool.and_false, decide_eq_false (by omega)]
  ·by_cases h2 : k = b
   ·subst h2; rw [hy, decide_eq_true (by omega), decide_eq_true rfl]; rfl
   ·rw [decide_eq_false (by omega), decide_eq_false (by omega), Bool.false_and])
 have d1 := Nat.div_add_mod x (2 ^ (b + 1))
 have d2 := Nat.div_add_mod y (2 ^ (b + 1))
 rw [e2] at d1
 rw [e3, ← e1] at d2
 omega

theorem adj_nat {b j : Nat} {x y : List Nat} (h : Adj b j (B x) (B y)) : (∀ k, k ≠ j → x.getD k 0 = y.getD k 0) ∧ (x.getD j 0 = y.getD j 0 + 1 ∨ y.getD j 0 = x.getD j 0 + 1) := by
 refine ⟨fun k hk => Nat.eq_of_testBit_eq (fun l => h.oth k l hk), ?_⟩
 cases hy : B y j b with
 | true =>
  have hx : B x j b = false := by rw [h.ne, hy]; rfl
  exact .inr (step_nat h.hi hx hy (fun l hl => by have := (h.lo l hl).1; rw [hx] at this; exact this) (fun l hl => by have := (h.lo l hl).2; rw [hy] at this; exact this))
 | false =>
  have hx : B x j b = true := by rw [h.ne, hy]; rfl
  exact .inl (step_nat (fun l hl => (h.hi l hl).symm) hy hx (fun l hl => by have := (h.lo l hl).2; rw [hy] at this; exact this) (fun l hl => by have := (h.lo l hl).1; rw [hx] at this; exact this))

end Go.Proofs.Ytbmkkmbgoenllaa
namespace Go.Proofs.Ytbmkkmbgoenllaa
open Go Go.SX Go.SX.Cal Go.Hil
set_option linter.unusedVariables false
set_option linter.unusedSimpArgs false

theorem rbend_eq (rec1 : List Int → Int → Option (List Int)) (p2 : List Int) (n c : Nat) (hp : p2.length = n) (hn : n < 1000) (hc : c ≤ 14) : ∀ (m f i : Nat) (l : List Nat), i + m = n → m < f → sm l → l.length = n →
  ∃ l', ref4_bent_l2 rec1 p2 ((2 ^ c : Nat) : Int) f (cs l) (i : Int) = ref4_bent_j2 rec1 ((2 ^ c : Nat) : Int) (cs l') ∧ l'.length = n ∧ sm l' := by
 intro m
 induction m with
 | zero =>
  intro f i l hi hf hs hl
  obtain ⟨f, rfl⟩ : ∃ q, f = q + 1 := ⟨f - 1, by omega⟩
  rw [ref4_bent_l2, List.nil_append, hp, show decide ((i : Int) < (n : Int)) = false by rw [decide_eq_false_iff_not]; omega, ift_false]
  exact ⟨l, rfl, hl, hs⟩
 | succ m ih =>
  intro f i l hi hf hs hl
  obtain ⟨f, rfl⟩ : ∃ q, f = q + 1 := ⟨f - 1, by omega⟩
  have h0 : 0 < l.length := by omega
  have hil : i < l.length := by omega
  have hpw := pow_small hc
  have z : (0 : Int) = ((0 : Nat) : Int) := rfl
  have s0 := hs 0
  have si := hs i
  have nx : IntKind.i64.wrap ((i : Int) + 1) = ((i + 1 : Nat) : Int) := by rw [w64 (by omega) (by omega)]; omega
  rw [ref4_bent_l2, List.nil_append, hp, show decide ((i : Int) < (n : Int)) = true by rw [decide_eq_true_eq]; omega, ift_true, cs_at hil, bnd_some', and64 _ _ (by omega) (by omega), bnd_some', and_bit, mask_int hc]
  unfold ref4_bent_j1
  rw [nx]
  cases hb : (l.getD i 0).testBit c with
  | true =>
   rw [ift_true, z, cs_at h0, bnd_some', xor64 _ _ (by omega) (by omega), bnd_some', Int.toNat_natCast, cs_set]
   exact ih f (i + 1) _ (by omega) (by omega) (sm_set h0 hs (xor_sm s0 (by omega))) (by simp; omega)
  | false =>
   rw [ift_false, z, cs_at h0, bnd_some', xor64 _ _ (by omega) (by omega), bnd_some']
   have t1 := xor_sm s0 si
   rw [and64 _ _ (by omega) (by omega), bnd_some']
   have t2 : (l.getD 0 0 ^^^ l.getD i 0) &&& (2 ^ c - 1) < 32768 := Nat.lt_of_le_of_lt Nat.and_le_left t1
   generalize ht : (l.getD 0 0 ^^^ l.getD i 0) &&& (2 ^ c - 1) = t at *
   have t3 := xor_sm s0 t2
   have h1 : sm (l.set 0 (l.getD 0 0 ^^^ t)) := sm_set h0 hs t3
   have hi1 : i < (l.set 0 (l.getD 0 0 ^^^ t)).length := by rw [List.length_set]; exact hil
   rw [xor64 _ _ (by omega) (by omega), bnd_some', Int.toNat_natCast, cs_set, cs_at hi1, bnd_some']
   have t4 := h1 i
   rw [xor64 _ _ (by omega) (by omega), bnd_some', Int.toNat_natCast, cs_set]
   exact ih f (i + 1) _ (by omega) (by omega) (sm_set hi1 h1 (xor_sm t4 t2)) (by simp; omega)

theorem rall_eq (l7 : List Int) (t n : Nat) (ht : t < 32768) (hl7 : l7.length = n) (hn : n < 1000) : ∀ (m f i : Nat) (l : List Nat), i + m = n → m < f → sm l → l.length = n →
  ∃ l', ref4_bent_l5 l7 (t : Int) f (cs l) (i : Int) = some (cs l') ∧ l'.length = n ∧ sm l' := by
 intro m
 induction m with
 | zero =>
  intro f i l hi hf hs hl
  obtain ⟨f, rfl⟩ : ∃ q, f = q + 1 := ⟨f - 1, by omega⟩
  rw [ref4_bent_l5, hl7, show decide ((i : Int) < (n : Int)) = false by rw [decide_eq_false_iff_not]; omega, ift_false]
  exact ⟨l, rfl, hl, hs⟩
 | succ m ih =>
  intro f i l hi hf hs hl
  obtain ⟨f, rfl⟩ : ∃ q, f = q + 1 := ⟨f - 1, by omega⟩
  have hil : i < l.length := by omega
  have si := hs i
  rw [ref4_bent_l5, hl7, show decide ((i : Int) < (n : Int)) = true by rw [decide_eq_true_eq]; omega, ift_true, cs_at hil, bnd_some', xor64 _ _ (by omega) (by omega), bnd_some', Int.toNat_natCast, cs_set,
   show IntKind.i64.wrap ((i : Int) + 1) = ((i + 1 : Nat) : Int) by rw [w64 (by omega) (by omega)]; omega]
  exact ih f (i + 1) _ (by omega) (by omega) (sm_set hil hs (xor_sm si ht)) (by simp; omega)

theorem half_pow {c : Nat} (hc : c + 1 ≤ 14) : IntKind.i64.wrap (((2 ^ (c + 1) : Nat) : Int).tdiv 2) = ((2 ^ c : Nat) : Int) := by
 have hp := pow_small (c := c) (by omega)
 have h2 : 2 ^ (c + 1) = 2 * 2 ^ c := by rw [Nat.pow_succ]; omega
 rw [h2, Int.tdiv_eq_ediv_of_nonneg (by omega), w64 (by omega) (by omega)]
 omega

theorem rturn_eq (p2 : List Int) (l : List Nat) (n : Nat) (h0 : 0 < n) (hp : p2.length = n) (hn : n < 1000) (hs : sm l) (hl : l.length = n) : ∀ (c f t : Nat), c ≤ 14 → c < f → t < 32768 →
  ∃ t' : Nat, t' < 32768 ∧ ref4_bent_l4 p2 (cs l) f (t : Int) ((2 ^ c : Nat) : Int) = ref4_bent_j6 (cs l) (t' : Int)
 | 0, f, t, hc, hf, ht => by
  obtain ⟨f, rfl⟩ : ∃ q, f = q + 1 := ⟨f - 1, by omega⟩
  exact ⟨t, ht, by rw [ref4_bent_l4, show decide ((1 : Int) < ((2 ^ 0 : Nat) : Int)) = false from rfl, ift_false]⟩
 | c + 1, f, t, hc, hf, ht => by
  obtain ⟨f, rfl⟩ : ∃ q, f = q + 1 := ⟨f - 1, by omega⟩
  have hp1 := pow_small (c := c) (by omega)
  have hq := pow_small (c := c + 1) hc
  have h2 : 2 ^ (c + 1) = 2 * 2 ^ c := by rw [Nat.pow_succ]; omega
  have sl := hs (n - 1)
  rw [ref4_bent_l4, show decide ((1 : Int) < ((2 ^ (c + 1) : Nat) : Int)) = true by rw [decide_eq_true_eq]; omega, ift_true, List.nil_append, hp, w64 (by omega) (by omega), bnd_some', show ((n : Int) - 1) = ((n - 1 : Nat) : Int) by omega, cs_at (by omega), bnd_some',
   and64 _ _ (by omega) (by omega), bnd_some', and_bit]
  unfold ref4_bent_j5
  rw [half_pow hc]
  cases (l.getD (n - 1) 0).testBit (c + 1) with
  | true =>
   rw [ift_true, mask_int hc, xor64 _ _ (by omega) (by omega), bnd_some']
   exact rturn_eq p2 l n h0 hp hn hs hl c f _ (by omega) (by omega) (xor_sm ht (by omega))
  | false =>
   rw [ift_false]
   exact rturn_eq p2 l n h0 hp hn hs hl c f _ (by omega) (by omega) ht

theorem top_pow {M : Nat} (hM : M ≤ 14) : IntKind.i64.wrap ((1 : Int) * 2 ^ (min ((M : Int)).toNat (IntKind.i64).bits)) = ((2 ^ M : Nat) : Int) := by
 have hp := pow_small hM
 rw [Int.toNat_natCast, show min M (IntKind.i64).bits = M from Nat.min_eq_left (by show M ≤ 64; omega), show ((1 : Int) * 2 ^ M) = ((2 ^ M : Nat) : Int) by rw [Int.one_mul]; push_cast; rfl, w64 (by omega) (by omega)]

theorem rgray_eq (p2 : List Int) (M n : Nat) (hM : M ≤ 14) (h0 : 0 < n) (hp : p2.length = n) (hn : n < 1000) : ∀ (m f i : Nat) (l : List Nat), i + m = n → 1 ≤ i → m < f → sm l → l.length = n →
  ∃ l', ref4_bent_l3 ((M + 1 : Nat) : Int) p2 f (cs l) (i : Int) = some (cs l') ∧ l'.length = n ∧ sm l' := by
 intro m
 induction m with
 | zero =>
  intro f i l hi h1 hf hs hl
  obtain ⟨f, rfl⟩ : ∃ q, f = q + 1 := ⟨f - 1, by omega⟩
  obtain ⟨t, t1, t2⟩ := rturn_eq p2 l n h0 hp hn hs hl M BIG 0 hM (by rw [big_val]; omega) (by decide)
  obtain ⟨l', e1, e2, e3⟩ := rall_eq (cs l) t n t1 (by rw [cs_len, hl]) hn n BIG 0 l (by omega) (by rw [big_val]; omega) hs hl
  refine ⟨l', ?_, e2, e3⟩
  rw [ref4_bent_l3, List.nil_append, hp, show decide ((i : Int) < (n : Int)) = false by rw [decide_eq_false_iff_not]; omega, ift_false]
  unfold ref4_bent_j4
  rw [w64 (by omega) (by omega), show ((M + 1 : Nat) : Int) - 1 = (M : Int) by omega, grd_pos (by omega), top_pow hM, bnd_some']
  refine t2.trans ?_
  unfold ref4_bent_j6
  exact e1
 | succ m ih =>
  intro f i l hi h1 hf hs hl
  obtain ⟨f, rfl⟩ : ∃ q, f = q + 1 := ⟨f - 1, by omega⟩
  have hil : i < l.length := by omega
  have si := hs i
  have sj := hs (i - 1)
  rw [ref4_bent_l3, List.nil_append, hp, show decide ((i : Int) < (n : Int)) = true by rw [decide_eq_true_eq]; omega, ift_true, cs_at hil, bnd_some', show IntKind.i64.wrap ((i : Int) - 1) = ((i - 1 : Nat) : Int) by rw [w64 (by omega) (by omega)]; omega,
   cs_at (by omega), bnd_some', xor64 _ _ (by omega) (by omega), bnd_some', Int.toNat_natCast, cs_set, show IntKind.i64.wrap ((i : Int) + 1) = ((i + 1 : Nat) : Int) by rw [w64 (by omega) (by omega)]; omega]
  exact ih f (i + 1) _ (by omega) (by omega) (by omega) (sm_set hil hs (xor_sm si sj)) (by simp; omega)

theorem rbends_eq (p2 : List Int) (M n : Nat) (hM : M ≤ 14) (h0 : 0 < n) (hp : p2.length = n) (hn : n < 1000) : ∀ (c f : Nat) (l : List Nat), c ≤ 14 → c < f → sm l → l.length = n →
  ∃ l', ref4_bent_l1 ((M + 1 : Nat) : Int) p2 f (cs l) ((2 ^ c : Nat) : Int) = some (cs l') ∧ l'.length = n ∧ sm l'
 | 0, f, l, hc, hf, hs, hl => by
  obtain ⟨f, rfl⟩ : ∃ q, f = q + 1 := ⟨f - 1, by omega⟩
  rw [ref4_bent_l1, show decide ((1 : Int) < ((2 ^ 0 : Nat) : Int)) = false from rfl, ift_false]
  unfold ref4_bent_j3
  exact rgray_eq p2 M n hM h0 hp hn (n - 1) BIG 1 l (by omega) (by omega) (by rw [big_val]; omega) hs hl
 | c + 1, f, l, hc, hf, hs, hl => by
  obtain ⟨f, rfl⟩ : ∃ q, f = q + 1 := ⟨f - 1, by omega⟩
  have hp1 := pow_small (c := c) (by omega)
  have h2 : 2 ^ (c + 1) = 2 * 2 ^ c := by rw [Nat.pow_succ]; omega
  obtain ⟨l1, e1, e2, e3⟩ := rbend_eq (ref4_bent_l1 ((M + 1 : Nat) : Int) p2 f) p2 n (c + 1) hp hn hc n BIG 0 l (by omega) (by rw [big_val]; omega) hs hl
  obtain ⟨l2, d1, d2, d3⟩ := rbends_eq p2 M n hM h0 hp hn c f l1 (by omega) (by omega) e3 e2
  refine ⟨l2, ?_, d2, d3⟩
  rw [ref4_bent_l1, show decide ((1 : Int) < ((2 ^ (c + 1) : Nat) : Int)) = true by rw [decide_eq_true_eq]; omega, ift_true]
  refine e1.trans ?_
  unfold ref4_bent_j2
  rw [half_pow hc]
  exact d1

theorem rbent_eq {M n : Nat} (hM : M ≤ 14) (h0 : 0 < n) (hn : n < 1000) {l : List Nat} (hs : sm l) (hl : l.length = n) : ∃ l', ref4_bent ((M + 1 : Nat) : Int) (cs l) = some (cs l') ∧ l'.length = n ∧ sm l' := by
 have hcl := cs_len l
 unfold ref4_bent
 rw [grd_pos (by simp; omega), w64 (by omega) (by omega), show ((M + 1 : Nat) : Int) - 1 = (M : Int) by omega, grd_pos (by omega), top_pow hM, bnd_some', List.nil_append]
 exact rbends_eq (cs l) M n hM h0 (by omega) hn M BIG l hM (by rw [big_val]; omega) hs hl

end Go.Proofs.Ytbmkkmbgoenllaa
namespace Go.Proofs.Ytbmkkmbgoenllaa
open Go Go.SX Go.SX.Cal Go.Hil
set_option linter.unusedVariables false
set_option linter.unusedSectionVars false
set_option linter.unusedSimpArgs false

theorem at_int {xs : List Int} {i : Nat} (h : i < xs.length) : at? xs (i : Int) = some xs[i] := by unfold at?; simp [h]
theorem nxt {i : Nat} (h : i < 1000000) : IntKind.i64.wrap ((i : Int) + 1) = ((i + 1 : Nat) : Int) := by rw [w64 (by omega) (by omega)]; omega

theorem bits_l2 (rec1 : Int → Int → Option Int) (p2 : List Int) (x2 : Nat) (hp : p2.length < 1000) : ∀ (m f i : Nat) (x3 : Int), i + m = p2.length → m < f → ∃ x5, ref4_bitsOf_l2 rec1 p2 (x2 : Int) f x3 (i : Int) = ref4_bitsOf_j1 rec1 (x2 : Int) x5 := by
 intro m
 induction m with
 | zero =>
  intro f i x3 hi hf
  obtain ⟨f, rfl⟩ : ∃ q, f = q + 1 := ⟨f - 1, by omega⟩
  exact ⟨x3, by rw [ref4_bitsOf_l2, show decide ((i : Int) < (p2.length : Int)) = false by rw [decide_eq_false_iff_not]; omega, ift_false]⟩
 | succ m ih =>
  intro f i x3 hi hf
  obtain ⟨f, rfl⟩ : ∃ q, f = q + 1 := ⟨f - 1, by omega⟩
  rw [ref4_bitsOf_l2, show decide ((i : Int) < (p2.length : Int)) = true by rw [decide_eq_true_eq]; omega, ift_true, at_int (show i < p2.length by omega), bnd_some', grd_pos (by omega), bnd_some', nxt (by omega)]
  exact ih f (i + 1) _ (by omega) (by omega)

theorem bits_l1 (p2 : List Int) (hp : p2.length < 1000) : ∀ (k f : Nat) (x1 : Int), k < 1000 → k < f → ∃ r, ref4_bitsOf_l1 p2 f x1 ((k : Int) - 1) = some r
 | 0, f, x1, hk, hf => by
  obtain ⟨f, rfl⟩ : ∃ q, f = q + 1 := ⟨f - 1, by omega⟩
  exact ⟨x1, by rw [ref4_bitsOf_l1, show decide ((0 : Int) ≤ ((0 : Nat) : Int) - 1) = false from rfl, ift_false]; rfl⟩
 | k + 1, f, x1, hk, hf => by
  obtain ⟨f, rfl⟩ : ∃ q, f = q + 1 := ⟨f - 1, by omega⟩
  obtain ⟨x5, h⟩ := bits_l2 (ref4_bitsOf_l1 p2 f) p2 k hp p2.length BIG 0 x1 (by omega) (by rw [big_val]; omega)
  obtain ⟨r, hr⟩ := bits_l1 p2 hp k f x5 (by omega) (by omega)
  refine ⟨r, ?_⟩
  rw [ref4_bitsOf_l1, show (((k + 1 : Nat) : Int) - 1) = (k : Int) by omega, show decide ((0 : Int) ≤ (k : Int)) = true by simp, ift_true]
  refine h.trans ?_
  unfold ref4_bitsOf_j1
  rw [w64 (by omega) (by omega)]
  exact hr

theorem rcurved_ok {bits n : Nat} (hb : 1 ≤ bits ∧ bits ≤ 15) (hn : 1 ≤ n ∧ n ≤ 4) : ref4_curved 2 (bits : Int) (n : Int) = some 0 := by
 unfold ref4_curved ref4_curved_j1
 rw [show ((2 : Int) != 1) = true from rfl, ift_true, show ((2 : Int) != 2) = false from rfl, ift_false, show decide ((bits : Int) < 1) = false by rw [decide_eq_false_iff_not]; omega, ift_false,
  show decide ((15 : Int) < (bits : Int)) = false by rw [decide_eq_false_iff_not]; omega, ift_false, show decide ((4 : Int) < (n : Int)) = false by rw [decide_eq_false_iff_not]; omega, ift_false,
  show decide ((n : Int) ≤ 0) = false by rw [decide_eq_false_iff_not]; omega, ift_false]

theorem rcurve_l1 {M n : Nat} (hM : M ≤ 14) (hn : 1 ≤ n ∧ n ≤ 4) (p3 : List Int) (hp : p3.length = n) : ∀ (m f i : Nat), i + m = n → m < f → (∀ (j : Nat) (h : j < p3.length), j < i → 0 ≤ p3[j] ∧ p3[j] < 32768) → ∃ r, ref4_Curve_l1 2 ((M + 1 : Nat) : Int) p3 f (i : Int) = some r := by
 intro m
 induction m with
 | zero =>
  intro f i hi hf hg
  obtain ⟨f, rfl⟩ : ∃ q, f = q + 1 := ⟨f - 1, by omega⟩
  have e : p3 = cs (p3.map Int.toNat) := by
   unfold cs
   rw [List.map_map]
   refine List.ext_getElem (by simp) (fun j h1 h2 => ?_)
   have := hg j h1 (by omega)
   simp only [List.getElem_map, Function.comp]
   omega
  have hs : sm (p3.map Int.toNat) := fun j => by
   by_cases hj : j < p3.length
   ·have := hg j hj (by omega)
    simp only [List.getD, List.getElem?_map, List.getElem?_eq_getElem hj, Option.map_some, Option.getD_some]
    omega
   ·simp only [List.getD, List.getElem?_map, List.getElem?_eq_none (Nat.le_of_not_lt hj), Option.map_none, Option.getD_none]; decide
  obtain ⟨l', e1, e2, e3⟩ := rbent_eq (n := n) hM (by omega) (by omega) hs (by simp [hp])
  obtain ⟨r, hr⟩ := bits_l1 (cs l') (by rw [cs_len]; omega) (M + 1) BIG 0 (by omega) (by rw [big_val]; omega)
  refine ⟨(r, 0), ?_⟩
  rw [ref4_Curve_l1, show decide ((i : Int) < (p3.length : Int)) = false by rw [decide_eq_false_iff_not]; omega, ift_false]
  unfold ref4_Curve_j2 ref4_Curve_j3 ref4_bitsOf
  rw [show ((2 : Int) == 2) = true from rfl, ift_true, e, e1, bnd_some', w64 (by omega) (by omega), hr, bnd_some']
 | succ m ih =>
  intro f i hi hf hg
  obtain ⟨f, rfl⟩ : ∃ q, f = q + 1 := ⟨f - 1, by omega⟩
  have hil : i < p3.length := by omega
  have e2 : IntKind.i64.wrap ((1 : Int) * 2 ^ (min (((M + 1 : Nat) : Int)).toNat (IntKind.i64).bits)) = ((2 ^ (M + 1) : Nat) : Int) := by
   have : 2 ^ (M + 1) ≤ 32768 := Nat.le_trans (Nat.pow_le_pow_right (by decide) (show M + 1 ≤ 15 by omega)) (by decide)
   have h1 := Nat.one_le_two_pow (n := M)
   rw [Int.toNat_natCast, show min (M + 1) (IntKind.i64).bits = M + 1 from Nat.min_eq_left (by show M + 1 ≤ 64; omega), show ((1 : Int) * 2 ^ (M + 1)) = ((2 ^ (M + 1) : Nat) : Int) by rw [Int.one_mul]; push_cast; rfl, w64 (by omega) (by omega)]
  have hpw : 2 ^ (M + 1) ≤ 32768 := Nat.le_trans (Nat.pow_le_pow_right (by decide) (show M + 1 ≤ 15 by omega)) (by decide)
  rw [ref4_Curve_l1, show decide ((i : Int) < (p3.length : Int)) = true by rw [decide_eq_true_eq]; omega, ift_true, at_int hil, bnd_some']
  unfold ref4_Curve_j1
  by_cases hneg : p3[i] < 0
  ·rw [decide_eq_true hneg, ift_true, ift_true]; exact ⟨_, rfl⟩
  ·rw [decide_eq_false hneg, ift_false, grd_pos (by omega), e2, bnd_some']
   by_cases hbig : ((2 ^ (M + 1) : Nat) : Int) ≤ p3[i]
   ·rw [decide_eq_true hbig, ift_true]; exact ⟨_, rfl⟩
   ·rw [decide_eq_false hbig, ift_false, nxt (by omega)]
    refine ih f (i + 1) (by omega) (by omega) (fun j h hj => ?_)
    by_cases hji : j = i
    ·subst hji; exact ⟨by omega, by omega⟩
    ·exact hg j h (by omega)

theorem rcurve_tot {M n : Nat} (hM : M ≤ 14) (hn : 1 ≤ n ∧ n ≤ 4) (p3 : List Int) (hp : p3.length = n) : ∃ r, ref4_Curve 2 ((M + 1 : Nat) : Int) p3 = some r := by
 obtain ⟨r, hr⟩ := rcurve_l1 hM hn p3 hp n BIG 0 (by omega) (by rw [big_val]; omega) (fun j _ h => by omega)
 refine ⟨r, ?_⟩
 unfold ref4_Curve
 rw [hp, rcurved_ok ⟨by omega, by omega⟩ hn, bnd_some', show ((0 : Int) != 0) = false from rfl, ift_false]
 exact hr

section
variable {M n : Nat} (hM : M ≤ 14) (hn : 1 ≤ n ∧ n ≤ 4) (p4 : Int) {x3 : Nat} (hx : x3 < M + 1)
include hM hn hx

theorem rest_eq : IntKind.i64.wrap (IntKind.i64.wrap (((M + 1 : Nat) : Int) - 1) - (x3 : Int)) = ((M - x3 : Nat) : Int) := by
 rw [w64 (x := ((M + 1 : Nat) : Int) - 1) (by omega) (by omega), w64 (by omega) (by omega)]; omega

theorem runc_l3 (rec1 : List Int → Int → Option ((List Int) × Int)) (rec2 : Int → Option ((List Int) × Int)) (x2 : List Int) (h2 : x2.length = n) (x4 : Int) : ∀ (m f i : Nat) (l : List Int), i + m = n → m < f → l.length = n →
  ∃ l', l'.length = n ∧ ref4_Uncurve_l3 rec1 rec2 2 ((M + 1 : Nat) : Int) (n : Int) p4 x2 (x3 : Int) x4 f l (i : Int) = ref4_Uncurve_j2 rec1 rec2 2 ((M + 1 : Nat) : Int) (n : Int) p4 (x3 : Int) x4 l' := by
 intro m
 induction m with
 | zero =>
  intro f i l hi hf hl
  obtain ⟨f, rfl⟩ : ∃ q, f = q + 1 := ⟨f - 1, by omega⟩
  exact ⟨l, hl, by rw [ref4_Uncurve_l3, List.nil_append, h2, show decide ((i : Int) < (n : Int)) = false by rw [decide_eq_false_iff_not]; omega, ift_false]⟩
 | succ m ih =>
  intro f i l hi hf hl
  obtain ⟨f, rfl⟩ : ∃ q, f = q + 1 := ⟨f - 1, by omega⟩
  rw [ref4_Uncurve_l3, List.nil_append, h2, show decide ((i : Int) < (n : Int)) = true by rw [decide_eq_true_eq]; omega, ift_true, at_int (show i < l.length by omega), bnd_some', grd_pos (by omega), rest_eq hM hn hx, grd_pos (by omega), bnd_some', nxt (by omega)]
  exact ih f (i + 1) _ (by omega) (by omega) (by simp; omega)

theorem runc_l2 (rec1 : List Int → Int → Option ((List Int) × Int)) (hrec : ∀ l : List Int, l.length = n → ∃ r, rec1 l ((x3 + 1 : Nat) : Int) = some r ∧ r.2 = 0) (x2 : List Int) (h2 : x2.length = n) : ∀ (m f i : Nat), i + m = 2 ^ n → m < f →
  ∃ r, ref4_Uncurve_l2 rec1 2 ((M + 1 : Nat) : Int) (n : Int) p4 x2 (x3 : Int) f (i : Int) = some r ∧ r.2 = 0 := by
 have hp : 2 ^ n ≤ 16 := Nat.le_trans (Nat.pow_le_pow_right (by decide) hn.2) (by decide)
 have e2 : IntKind.i64.wrap ((1 : Int) * 2 ^ (min ((n : Int)).toNat (IntKind.i64).bits)) = ((2 ^ n : Nat) : Int) := top_pow (by omega)
 intro m
 induction m with
 | zero =>
  intro f i hi hf
  obtain ⟨f, rfl⟩ : ∃ q, f = q + 1 := ⟨f - 1, by omega⟩
  rw [ref4_Uncurve_l2, grd_pos (by omega), e2, bnd_some', show decide ((i : Int) < ((2 ^ n : Nat) : Int)) = false by rw [decide_eq_false_iff_not]; omega, ift_false]
  unfold ref4_Uncurve_j3
  rw [nxt (by omega)]
  exact hrec x2 h2
 | succ m ih =>
  intro f i hi hf
  obtain ⟨f, rfl⟩ : ∃ q, f = q + 1 := ⟨f - 1, by omega⟩
  obtain ⟨l', h1, h3⟩ := runc_l3 hM hn p4 hx rec1 (ref4_Uncurve_l2 rec1 2 ((M + 1 : Nat) : Int) (n : Int) p4 x2 (x3 : Int) f) x2 h2 (i : Int) n BIG 0 x2 (by omega) (by rw [big_val]; omega) h2
  obtain ⟨c, hc⟩ := rcurve_tot hM hn l' h1
  have hmul : (M - x3) * n ≤ 56 := Nat.mul_le_mul (show M - x3 ≤ 14 by omega) hn.2
  have hw : IntKind.i64.wrap (((M - x3 : Nat) : Int) * (n : Int)) = (((M - x3) * n : Nat) : Int) := by
   rw [← Int.natCast_mul, w64 (by omega) (by omega)]
  rw [ref4_Uncurve_l2, grd_pos (by omega), e2, bnd_some', show decide ((i : Int) < ((2 ^ n : Nat) : Int)) = true by rw [decide_eq_true_eq]; omega, ift_true, grd_pos (by simp; omega), List.nil_append]
  rw [show (0 : Int) = ((0 : Nat) : Int) from rfl, h3]
  unfold ref4_Uncurve_j2
  rw [hc, bnd_some', rest_eq hM hn hx, hw, bnd_some', grd_pos (by omega), bnd_some', grd_pos (by omega), bnd_some']
  rw [nxt (by omega)]
  unfold ref4_Uncurve_j3
  rw [nxt (show x3 < 1000000 by omega)]
  generalize ((c.1.fdiv _) == _) = y
  cases y
  ·rw [ift_false]; exact ih f (i + 1) (by omega) (by omega)
  ·rw [ift_true]; exact hrec l' h1

end

theorem runc_l1 {M n : Nat} (hM : M ≤ 14) (hn : 1 ≤ n ∧ n ≤ 4) (p4 : Int) : ∀ (m f i : Nat) (l : List Int), i + m = M + 1 → m < f → l.length = n → ∃ r, ref4_Uncurve_l1 2 ((M + 1 : Nat) : Int) (n : Int) p4 f l (i : Int) = some r ∧ r.2 = 0 := by
 intro m
 induction m with
 | zero =>
  intro f i l hi hf hl
  obtain ⟨f, rfl⟩ : ∃ q, f = q + 1 := ⟨f - 1, by omega⟩
  exact ⟨(l, 0), by rw [ref4_Uncurve_l1, show decide ((i : Int) < ((M + 1 : Nat) : Int)) = false by rw [decide_eq_false_iff_not]; omega, ift_false]; rfl, rfl⟩
 | succ m ih =>
  intro f i l hi hf hl
  obtain ⟨f, rfl⟩ : ∃ q, f = q + 1 := ⟨f - 1, by omega⟩
  rw [ref4_Uncurve_l1, show decide ((i : Int) < ((M + 1 : Nat) : Int)) = true by rw [decide_eq_true_eq]; omega, ift_true]
  exact runc_l2 hM hn p4 (by omega) _ (fun l' h' => ih f (i + 1) l' (by omega) (by omega) h') l hl (2 ^ n) BIG 0 (by omega) (by
   have hp : 2 ^ n ≤ 16 := Nat.le_trans (Nat.pow_le_pow_right (by decide) hn.2) (by decide)
   rw [big_val]; omega)

end Go.Proofs.Ytbmkkmbgoenllaa
namespace Go.Proofs.Ytbmkkmbgoenllaa
open Go Go.SX Go.SX.Cal Go.Hil
set_option linter.unusedVariables false
set_option linter.unusedSimpArgs false

theorem rcurved_bad {p1 p2 : Int} (h : ¬ (1 ≤ p1 ∧ p1 ≤ 15 ∧ 1 ≤ p2 ∧ p2 ≤ 4)) : ∃ e, ref4_curved 2 p1 p2 = some e ∧ (e != 0) = true := by
 unfold ref4_curved ref4_curved_j1
 rw [show ((2 : Int) != 1) = true from rfl, ift_true, show ((2 : Int) != 2) = false from rfl, ift_false]
 by_cases h1 : p1 < 1
 ·rw [decide_eq_true h1]; exact ⟨3, rfl, rfl⟩
 ·rw [decide_eq_false h1, ift_false]
  by_cases h2 : 15 < p1
  ·rw [decide_eq_true h2]; exact ⟨3, rfl, rfl⟩
  ·rw [decide_eq_false h2, ift_false]
   by_cases h3 : 4 < p2
   ·rw [decide_eq_true h3]; exact ⟨7, rfl, rfl⟩
   ·rw [decide_eq_false h3, ift_false, decide_eq_true (show p2 ≤ 0 by omega)]; exact ⟨9, rfl, rfl⟩

theorem sum_loop {a b : List Nat} {n j : Nat} (ha : a.length = n) (hb : b.length = n) (hn : n < 1000) (sa : sm a) (sb : sm b) (ho : ∀ k, k ≠ j → a.getD k 0 = b.getD k 0) (hj : a.getD j 0 = b.getD j 0 + 1 ∨ b.getD j 0 = a.getD j 0 + 1) :
  ∀ (m f i : Nat) (acc : Nat), i + m = n → m < f → acc ≤ 1 → (i ≤ j → acc = 0) → (j < i → acc = 1) → j < n → law4_LakeHilbertIsAWalk_l1 (cs a, 0) (cs b, 0) f (acc : Int) (i : Int) = some true := by
 intro m
 induction m with
 | zero =>
  intro f i acc hi hf h1 h2 h3 hjn
  obtain ⟨f, rfl⟩ : ∃ q, f = q + 1 := ⟨f - 1, by omega⟩
  have : acc = 1 := h3 (by omega)
  subst this
  rw [law4_LakeHilbertIsAWalk_l1, cs_len, ha, show decide ((i : Int) < (n : Int)) = false by rw [decide_eq_false_iff_not]; omega, ift_false]; rfl
 | succ m ih =>
  intro f i acc hi hf h1 h2 h3 hjn
  obtain ⟨f, rfl⟩ : ∃ q, f = q + 1 := ⟨f - 1, by omega⟩
  have s1 := sa i
  have s2 := sb i
  rw [law4_LakeHilbertIsAWalk_l1, cs_len, ha, show decide ((i : Int) < (n : Int)) = true by rw [decide_eq_true_eq]; omega, ift_true, cs_at (by omega), bnd_some', cs_at (by omega), bnd_some', w64 (x := ((a.getD i 0 : Nat) : Int) - ((b.getD i 0 : Nat) : Int)) (by omega) (by omega), nxt (by omega)]
  by_cases hij : i = j
  ·subst hij
   have e : (((a.getD i 0 : Nat) : Int) - ((b.getD i 0 : Nat) : Int)) * (((a.getD i 0 : Nat) : Int) - ((b.getD i 0 : Nat) : Int)) = 1 := by
    rcases hj with h | h
    ·rw [show ((a.getD i 0 : Nat) : Int) - ((b.getD i 0 : Nat) : Int) = 1 by omega]; rfl
    ·rw [show ((a.getD i 0 : Nat) : Int) - ((b.getD i 0 : Nat) : Int) = -1 by omega]; rfl
   have : acc = 0 := h2 (Nat.le_refl _)
   subst this
   rw [e, bnd_some']
   exact ih f (i + 1) 1 (by omega) (by omega) (by omega) (by omega) (by omega) hjn
  ·have e : (((a.getD i 0 : Nat) : Int) - ((b.getD i 0 : Nat) : Int)) * (((a.getD i 0 : Nat) : Int) - ((b.getD i 0 : Nat) : Int)) = 0 := by
    rw [ho i hij, Int.sub_self]; rfl
   rw [e, bnd_some', show IntKind.i64.wrap ((acc : Int) + IntKind.i64.wrap 0) = (acc : Int) by rw [w64 (x := 0) (by decide) (by decide), Int.add_zero, w64 (by omega) (by omega)]]
   exact ih f (i + 1) acc (by omega) (by omega) h1 (by omega) (by omega) hjn

theorem one_ok : lake_Curve 2 1 [1] = some (1, 0) := by kernel_rfl

theorem law_walk (x0 x1 x2 : Int) (h2 : -9223372036854775808 ≤ x2 ∧ x2 ≤ 9223372036854775807) : law4_LakeHilbertIsAWalk x0 x1 x2 = some true := by
 unfold law4_LakeHilbertIsAWalk law4_LakeHilbertIsAWalk_j1
 rw [one_ok, bnd_some', show ((0 : Int) != 0) = false from rfl, ift_false, show ((1 : Int) != 1) = false from rfl, ift_false]
 by_cases hv : 1 ≤ x0 ∧ x0 ≤ 15 ∧ 1 ≤ x1 ∧ x1 ≤ 4
 ·obtain ⟨M, rfl⟩ : ∃ M : Nat, x0 = ((M + 1 : Nat) : Int) := ⟨(x0 - 1).toNat, by omega⟩
  obtain ⟨n, rfl⟩ : ∃ n : Nat, x1 = (n : Int) := ⟨x1.toNat, by omega⟩
  have hM : M ≤ 14 := by omega
  have hn : 1 ≤ n ∧ n ≤ 4 := by omega
  have hbn : (M + 1) * n ≤ 60 := by
   have := Nat.mul_le_mul (show M + 1 ≤ 15 by omega) hn.2
   omega
  have hp60 : 2 ^ ((M + 1) * n) ≤ 1152921504606846976 := Nat.le_trans (Nat.pow_le_pow_right (by decide) hbn) (by decide)
  have hw : IntKind.i64.wrap (((M + 1 : Nat) : Int) * (n : Int)) = (((M + 1) * n : Nat) : Int) := by
   rw [show (((M + 1 : Nat) : Int) * (n : Int)) = (((M + 1) * n : Nat) : Int) from (Int.natCast_mul _ _).symm, w64 (by omega) (by omega)]
  have ho1 := Nat.one_le_two_pow (n := (M + 1) * n)
  have e2 : IntKind.i64.wrap ((1 : Int) * 2 ^ (min ((((M + 1) * n : Nat) : Int)).toNat (IntKind.i64).bits)) = ((2 ^ ((M + 1) * n) : Nat) : Int) := by
   rw [Int.toNat_natCast, show min ((M + 1) * n) (IntKind.i64).bits = (M + 1) * n from Nat.min_eq_left (by show (M + 1) * n ≤ 64; omega), Int.one_mul, show ((2 : Int) ^ ((M + 1) * n)) = ((2 ^ ((M + 1) * n) : Nat) : Int) by push_cast; rfl, w64 (by omega) (by omega)]
  unfold ref4_Uncurve ref4_Uncurve_j1
  rw [rcurved_ok ⟨by omega, by omega⟩ hn, bnd_some', show ((0 : Int) != 0) = false from rfl, ift_false]
  by_cases h0 : x2 < 0
  ·rw [decide_eq_true h0, ift_true, ift_true, bnd_some']; rfl
  rw [decide_eq_false h0, ift_false, hw, grd_pos (by omega), e2, bnd_some']
  by_cases hbig : ((2 ^ ((M + 1) * n) : Nat) : Int) ≤ x2
  ·rw [decide_eq_true hbig, ift_true, bnd_some']; rfl
  obtain ⟨r, r1, r2⟩ := runc_l1 hM hn x2 (M + 1) BIG 0 (List.replicate n (0 : Int)) (by omega) (by rw [big_val]; omega) (by simp)
  rw [decide_eq_false hbig, ift_false, grd_pos (by omega), Int.toNat_natCast, show (0 : Int) = ((0 : Nat) : Int) from rfl]
  rw [show (((0 : Nat) : Int)) = (0 : Int) from rfl] at r1 ⊢
  rw [r1, bnd_some', r2, show ((0 : Int) != 0) = false from rfl, ift_false]
  unfold law4_LakeHilbertIsAWalk_j2
  obtain ⟨p, rfl⟩ : ∃ p : Nat, x2 = (p : Int) := ⟨x2.toNat, by omega⟩
  by_cases hp0 : p = 0
  ·subst hp0; rfl
  rw [show ((p : Int) == 0) = false from beq_eq_false_iff_ne.2 (by omega), ift_false, show IntKind.i64.wrap ((p : Int) - 1) = ((p - 1 : Nat) : Int) by rw [w64 (by omega) (by omega)]; omega]
  have hpl : p < 2 ^ ((M + 1) * n) := by omega
  obtain ⟨u, u1, u2, u3, u4⟩ := uncurve_eq (p := p - 1) hM hn (by omega)
  obtain ⟨v, v1, v2, v3, v4⟩ := uncurve_eq (p := p) hM hn hpl
  obtain ⟨e, a, hea⟩ := odd_part p (by omega)
  have heT : e < (M + 1) * n := by
   have : 2 ^ e ≤ p := by rw [hea]; exact Nat.le_mul_of_pos_right _ (by omega)
   exact (Nat.pow_lt_pow_iff_right (by decide : 1 < 2)).1 (Nat.lt_of_le_of_lt this hpl)
  have hbM : e / n ≤ M := by
   have : e / n < M + 1 := Nat.div_lt_of_lt_mul (by rw [Nat.mul_comm]; exact heT)
   omega
  have hnear := near_gray hn e a
  rw [← hea] at hnear
  obtain ⟨j, hj⟩ := hnear.adj (by have := (idx_e (e := e) (j := 0) (k := 0) hn (by omega)).2.2.2.2.2.2; omega) M hbM
  rw [← u4, ← v4] at hj
  obtain ⟨g1, g2⟩ := adj_nat hj
  have hjn : j < n := by
   apply Classical.byContradiction
   intro hc
   have z1 : u.getD j 0 = 0 := by simp only [List.getD]; rw [List.getElem?_eq_none (by omega)]; rfl
   have z2 : v.getD j 0 = 0 := by simp only [List.getD]; rw [List.getElem?_eq_none (by omega)]; rfl
   omega
  rw [u1, bnd_some', v1, bnd_some']
  unfold law4_LakeHilbertIsAWalk_j3
  simp only [cs_len, u2, v2, bne_self_eq_false, ift_false]
  exact sum_loop u2 v2 (by omega) u3 v3 g1 g2 n BIG 0 0 (by omega) (by rw [big_val]; omega) (by omega) (by omega) (by omega) hjn
 ·obtain ⟨e, e1, e2⟩ := rcurved_bad hv
  unfold ref4_Uncurve
  rw [e1, bnd_some', e2, ift_true, bnd_some', e2, ift_true]
  rfl

end Go.Proofs.Ytbmkkmbgoenllaa
