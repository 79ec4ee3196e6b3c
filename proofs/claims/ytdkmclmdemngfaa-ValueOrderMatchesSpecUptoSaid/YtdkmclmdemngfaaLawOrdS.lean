/- The reference's Compare, in plain terms; the law 'ValueOrderMatchesSpec'. -/
import Derived.Test.YtdkmclmdemngfaaLawOrdR
import Derived.ChangeKeysEq
namespace Go.Proofs.Ytdkmclmdemngfaa
open Go Go.SX Go.SX.Cal
set_option linter.unusedVariables false
set_option linter.unusedSimpArgs false

def ab (n : Int) : Int := if n < 0 then -n else n

theorem digs_app {l : List Int} {x : Int} (h : digs l) (hx : 0 ≤ x ∧ x ≤ 9) : digs (l ++ [x]) := by
  intro d hd
  rcases List.mem_append.1 hd with h1 | h1
  · exact h d h1
  · simp at h1; subst h1; exact hx

theorem wideOf_loop {n : Int} (hn0 : -9223372036854775808 ≤ n) (hn1 : n ≤ 9223372036854775807) : ∀ (k : Nat) (l : List Int) (m : Int), l.length ≤ 19 → 19 - l.length < k → digs l → (m = 0 → top l) → ab m < p10 (19 - l.length) → -9223372036854775808 ≤ m → m ≤ 9223372036854775807 → ab n = dval l + p10 l.length * ab m →
    ∃ d, ref1_wideOf_l1 n k l m = some ⟨decide (n < 0), d⟩ ∧ digs d ∧ top d ∧ d.length ≤ 19 ∧ dval d = ab n := by
  intro k
  induction k with
  | zero => intro l m h1 h2; omega
  | succ k ih =>
    intro l m hl hk hd ht hm m0 m1 hv
    rw [ref1_wideOf_l1]
    by_cases h0 : m = 0
    · subst h0
      rw [show ((0 : Int) != 0) = false from rfl, ift_false]
      exact ⟨l, rfl, hd, ht rfl, hl, by simp [ab] at hv ⊢; omega⟩
    · have hlen : l.length < 19 := by
        apply Classical.byContradiction
        intro hn
        have : l.length = 19 := by omega
        rw [this] at hm
        simp only [Nat.sub_self, p10] at hm
        unfold ab at hm; split at hm <;> omega
      rw [show (m != 0) = true by simp [h0], ift_true]
      have hq : m.tdiv 10 = if m < 0 then -((-m) / 10) else m / 10 := by
        by_cases hneg : m < 0
        · rw [if_pos hneg]
          have : m = -(-m) := by omega
          rw [this, Int.neg_tdiv, Int.neg_neg, Int.tdiv_eq_ediv_of_nonneg (by omega)]
        · rw [if_neg hneg, Int.tdiv_eq_ediv_of_nonneg (by omega)]
      have hr : m.tmod 10 = if m < 0 then -((-m) % 10) else m % 10 := by
        by_cases hneg : m < 0
        · rw [if_pos hneg]
          have : m = -(-m) := by omega
          rw [this, Int.neg_tmod, Int.neg_neg, Int.tmod_eq_emod_of_nonneg (by omega)]
        · rw [if_neg hneg, Int.tmod_eq_emod_of_nonneg (by omega)]
      have step : ∀ x, x = ab m % 10 → ref1_wideOf_j1 (ref1_wideOf_l1 n k) l m x = ref1_wideOf_l1 n k (l ++ [ab m % 10]) (m.tdiv 10) := by
        intro x hx
        unfold ref1_wideOf_j1
        rw [grd_pos (by omega), hx, w64 (by rw [hq]; split <;> omega) (by rw [hq]; split <;> omega)]
      have hgo : ref1_wideOf_l1 n k (l ++ [ab m % 10]) (m.tdiv 10) = ref1_wideOf_l1 n k (l ++ [ab m % 10]) (m.tdiv 10) := rfl
      have habq : ab (m.tdiv 10) = ab m / 10 := by
        rw [hq]; unfold ab
        by_cases hneg : m < 0
        · simp only [hneg, if_true]; split <;> omega
        · simp only [hneg, if_false]; split <;> omega
      have hab0 : 0 ≤ ab m := by unfold ab; split <;> omega
      have hp : p10 (19 - l.length) = p10 (19 - (l ++ [ab m % 10]).length) * 10 := by
        rw [show 19 - l.length = (19 - (l ++ [ab m % 10]).length) + 1 by simp; omega]; rfl
      have nxt := ih (l ++ [ab m % 10]) (m.tdiv 10) (by simp; omega) (by simp; omega) (digs_app hd (by omega)) (fun hz => by
          intro d hdl
          simp at hdl
          subst hdl
          have h1 : ab m / 10 = 0 := by rw [← habq, hz]; rfl
          have h2 : ab m ≠ 0 := by unfold ab; split <;> omega
          omega) (by rw [habq]; rw [hp] at hm; omega) (by rw [hq]; split <;> omega) (by rw [hq]; split <;> omega) (by
          rw [dval_append, List.length_append, List.length_singleton, habq, hv]
          simp only [dval, p10]
          have e : ab m = ab m % 10 + 10 * (ab m / 10) := by omega
          have e2 : p10 l.length * ab m = p10 l.length * (ab m % 10) + p10 l.length * 10 * (ab m / 10) := by
            rw [Int.mul_assoc, ← Int.mul_add, ← e]
          rw [e2]; simp only [Int.mul_zero, Int.add_zero]; omega)
      by_cases hneg : m.tmod 10 < 0
      · rw [show decide (m.tmod 10 < 0) = true by simpa using hneg, ift_true]
        have hx : IntKind.i64.wrap (0 - m.tmod 10) = ab m % 10 := by
          rw [w64 (by rw [hr]; split <;> omega) (by rw [hr]; split <;> omega)]
          rw [hr] at hneg ⊢
          unfold ab
          by_cases h : m < 0
          · simp only [h, if_true]; omega
          · simp only [h, if_false] at hneg; omega
        rw [step _ hx]; exact nxt
      · rw [show decide (m.tmod 10 < 0) = false by simpa using hneg, ift_false]
        have hx : m.tmod 10 = ab m % 10 := by
          rw [hr] at hneg ⊢
          unfold ab
          by_cases h : m < 0
          · simp only [h, if_true] at hneg ⊢; omega
          · simp only [h, if_false]
        rw [step _ hx]; exact nxt

theorem twelve_eq {v : GValue} (hn : i64 v.n) (hs : inR v.scale) : ∃ r, ref1_twelve v = some r ∧ RW r (v.n * p10 (12 - v.scale).toNat) := by
  obtain ⟨n0, n1⟩ := hn
  obtain ⟨s0, s1⟩ := hs
  have hab : ab v.n ≤ 9223372036854775808 := by unfold ab; split <;> omega
  obtain ⟨d, h1, h2, h3, h4, h5⟩ := wideOf_loop n0 n1 BIG [] v.n (by simp) (by rw [big_val]; decide) (fun x hx => by cases hx) (fun _ x hx => by simp at hx) (by
    have : p10 (19 - ([] : List Int).length) = 10000000000000000000 := by decide
    rw [this]; omega) n0 n1 (by simp [dval, p10])
  unfold ref1_twelve ref1_wideOf
  rw [h1]
  simp only [bnd_eq]
  rw [w64 (by omega) (by omega)]
  unfold ref1_tens
  have hpp := p10_pos (12 - v.scale).toNat
  by_cases he : d = []
  · subst he
    have hz : v.n = 0 := by simp only [dval] at h5; unfold ab at h5; split at h5 <;> omega
    rw [show (((⟨decide (v.n < 0), []⟩ : RWide).d.length : Int) == 0) = true from rfl, ift_true]
    refine ⟨_, rfl, ⟨h2, h3, by simp, ?_, ?_⟩⟩
    · simp [hz, dval]
    · simp [hz]
  · have hlen : ((d.length : Int) == 0) = false := by
      rw [beq_eq_false_iff_ne]
      have : d.length ≠ 0 := fun h => he (List.length_eq_zero_iff.1 h)
      omega
    simp only
    rw [hlen, ift_false, grd_pos (by omega), grd_pos (by simp; omega)]
    have hval : dval (List.replicate (12 - v.scale).toNat 0 ++ d) = ab v.n * p10 (12 - v.scale).toNat := by
      rw [dval_append, dval_zeros, List.length_replicate, h5, Int.mul_comm]; omega
    have hpos : 0 < ab v.n := by
      have h6 := dval_ge h2 h3 he
      have := p10n (d.length - 1)
      omega
    refine ⟨_, rfl, ⟨fun x hx => ?_, fun x hx => ?_, by simp; omega, ?_, fun _ => ?_⟩⟩
    · rcases List.mem_append.1 hx with h | h
      · have := List.eq_of_mem_replicate h; omega
      · exact h2 x h
    · rw [List.getLast?_append] at hx
      cases hg : d.getLast? with
      | none => exact absurd (List.getLast?_eq_none_iff.1 hg) he
      | some y => rw [hg] at hx; simp at hx; subst hx; exact h3 _ hg
    · simp only
      rw [hval]
      by_cases hneg : v.n < 0
      · simp only [hneg, decide_true, if_true, ab]; rw [Int.neg_mul, Int.neg_neg]
      · simp only [hneg, decide_false, Bool.false_eq_true, if_false, ab]
    · simp only
      rw [hval]
      exact Int.mul_pos hpos (by omega)

/-! ### texts -/

theorem texts_loop {s t : ByteArray} (hs : s.size < 1000000000000000) : ∀ (k i : Nat), i ≤ s.size → i ≤ t.size → s.size < i + k →
    ref1_texts_l1 s t k (i : Int) = some (cB (s.data.toList.drop i) (t.data.toList.drop i)) := by
  have ls : s.data.toList.length = s.size := by simp
  have lt : t.data.toList.length = t.size := by simp
  intro k
  induction k with
  | zero => intro i h1 h2 h3; omega
  | succ k ih =>
    intro i h1 h2 h3
    rw [ref1_texts_l1]
    unfold ref1_texts_j1 ref1_texts_j2
    simp only [order_eq, bnd_eq]
    by_cases hi : i < s.size
    · have e1 : s.data.toList.drop i = s.data.toList[i]'(by omega) :: s.data.toList.drop (i + 1) := List.drop_eq_getElem_cons (by omega)
      rw [show decide ((i : Int) < (s.size : Int)) = true by simpa using hi, ift_true]
      by_cases hj : i < t.size
      · have e2 : t.data.toList.drop i = t.data.toList[i]'(by omega) :: t.data.toList.drop (i + 1) := List.drop_eq_getElem_cons (by omega)
        have g1 : s.data.toList.getD (i : Int).toNat 0 = s.data.toList[i]'(by omega) := by simp [List.getD, hi]
        have g2 : t.data.toList.getD (i : Int).toNat 0 = t.data.toList[i]'(by omega) := by simp [List.getD, hj]
        rw [show decide ((i : Int) < (t.size : Int)) = true by simpa using hj, ift_true, grd_pos (by omega), grd_pos (by omega), grd_pos (by omega), grd_pos (by omega), g1, g2, e1, e2, cB_cons]
        generalize s.data.toList[i]'(by omega) = x
        generalize t.data.toList[i]'(by omega) = y
        have hx := x.toNat_lt
        have hy := y.toNat_lt
        rw [w64 (x := (x.toNat : Int)) (by omega) (by omega), w64 (x := (y.toNat : Int)) (by omega) (by omega)]
        by_cases hxy : (x.toNat : Int) = y.toNat
        · rw [show ((x.toNat : Int) != (y.toNat : Int)) = false by rw [bne_eq_false_iff_eq]; exact hxy, ift_false, w64 (by omega) (by omega), show (i : Int) + 1 = ((i + 1 : Nat) : Int) by omega, ih (i + 1) (by omega) (by omega) (by omega), hxy, c3_self, or_zero]
        · rw [show ((x.toNat : Int) != (y.toNat : Int)) = true by rw [bne_iff_ne]; exact hxy, ift_true]
          unfold or'
          rw [if_pos (by unfold c3; split <;> (try split) <;> omega)]
      · have e2 : t.data.toList.drop i = [] := List.drop_of_length_le (by omega)
        rw [show decide ((i : Int) < (t.size : Int)) = false by simpa using hj, ift_false, e1, e2]
        have : cB (s.data.toList[i]'(by omega) :: s.data.toList.drop (i + 1)) [] = 1 := by simp [cB, Op.bytesLess]
        rw [this]
        unfold c3; rw [if_neg (by omega), if_pos (by omega)]
    · have e1 : s.data.toList.drop i = [] := List.drop_of_length_le (by omega)
      rw [show decide ((i : Int) < (s.size : Int)) = false by simpa using hi, ift_false, ift_false, e1]
      by_cases hj : i < t.size
      · have e2 : t.data.toList.drop i = t.data.toList[i]'(by omega) :: t.data.toList.drop (i + 1) := List.drop_eq_getElem_cons (by omega)
        rw [e2]
        have : cB [] (t.data.toList[i]'(by omega) :: t.data.toList.drop (i + 1)) = -1 := by simp [cB, Op.bytesLess]
        rw [this]
        unfold c3; rw [if_pos (by omega)]
      · have e2 : t.data.toList.drop i = [] := List.drop_of_length_le (by omega)
        rw [e2]
        have : cB [] [] = 0 := by simp [cB, Op.bytesLess]
        rw [this]
        unfold c3; rw [if_neg (by omega), if_neg (by omega)]

theorem texts_eq {s t : ByteArray} (hs : s.size < 1000000000000000) : ref1_texts s t = some (cS s t) := by
  unfold ref1_texts
  have := texts_loop (t := t) hs BIG 0 (Nat.zero_le _) (Nat.zero_le _) (by rw [big_val]; omega)
  rw [show ((0 : Nat) : Int) = 0 from rfl] at this
  rw [this, List.drop_zero, List.drop_zero, cS_eq]
  have e1 : s.toList = s.data.toList := by simp [ByteArray.toList_eq]
  have e2 : t.toList = t.data.toList := by simp [ByteArray.toList_eq]
  rw [e1, e2]

/-! ### values -/

theorem ritems_loop (f : GValue → GValue → Option Int) (a b : GValue) (hl : a.items.length < 1000000000000000) (hf : ∀ x ∈ a.items, ∀ y ∈ b.items, f x y = some (cmpV x y)) : ∀ (k i : Nat), i ≤ a.items.length → i ≤ b.items.length → a.items.length < i + k →
    ref1_Compare_l1 f a b k (i : Int) = some (cmpL (a.items.drop i) (b.items.drop i)) := by
  intro k
  induction k with
  | zero => intro i h1 h2 h3; omega
  | succ k ih =>
    intro i h1 h2 h3
    rw [ref1_Compare_l1]
    unfold ref1_Compare_j3 ref1_Compare_j4
    rw [order_eq]
    simp only [bnd_eq]
    by_cases hi : i < a.items.length
    · have e1 : a.items.drop i = a.items[i] :: a.items.drop (i + 1) := List.drop_eq_getElem_cons hi
      have a1 : at? a.items (i : Int) = some a.items[i] := by unfold at?; simp [hi]
      rw [show decide ((i : Int) < (a.items.length : Int)) = true by simp [hi], ift_true, a1, e1]
      simp only [bnd_eq]
      by_cases hj : i < b.items.length
      · have e2 : b.items.drop i = b.items[i] :: b.items.drop (i + 1) := List.drop_eq_getElem_cons hj
        have a2 : at? b.items (i : Int) = some b.items[i] := by unfold at?; simp [hj]
        rw [show decide ((i : Int) < (b.items.length : Int)) = true by simp [hj], ift_true, a2, e2]
        simp only [bnd_eq]
        rw [hf _ (List.getElem_mem hi) _ (List.getElem_mem hj)]
        simp only [bnd_eq, cmpL]
        unfold or'
        by_cases hc : cmpV a.items[i] b.items[i] = 0
        · have e : (cmpV a.items[i] b.items[i] != 0) = false := by simp [hc]
          rw [e, ift_false, w64 (by omega) (by omega), show (i : Int) + 1 = ((i + 1 : Nat) : Int) by omega, ih (i + 1) (by omega) (by omega) (by omega), if_neg (by simp [hc])]
        · have e : (cmpV a.items[i] b.items[i] != 0) = true := by simp [hc]
          rw [e, ift_true, if_pos hc]
      · have e2 : b.items.drop i = [] := List.drop_of_length_le (by omega)
        rw [show decide ((i : Int) < (b.items.length : Int)) = false by simp; omega, ift_false, e2]
        simp only [cmpL]
        unfold c3; rw [if_neg (by omega), if_pos (by omega)]
    · have e1 : a.items.drop i = [] := List.drop_of_length_le (by omega)
      rw [show decide ((i : Int) < (a.items.length : Int)) = false by simp; omega, ift_false, ift_false, e1]
      by_cases hj : i < b.items.length
      · have e2 : b.items.drop i = b.items[i] :: b.items.drop (i + 1) := List.drop_eq_getElem_cons hj
        rw [e2]
        simp only [cmpL]
        unfold c3; rw [if_pos (by omega)]
      · have e2 : b.items.drop i = [] := List.drop_of_length_le (by omega)
        rw [e2]
        simp only [cmpL]
        unfold c3; rw [if_neg (by omega), if_neg (by omega)]

theorem c3_ne {a b : Int} (h : a ≠ b) : c3 a b ≠ 0 := by unfold c3; split <;> (try split) <;> omega

theorem or_pos {x : Int} (h : x ≠ 0) (y : Int) : or' x y = x := by unfold or'; rw [if_pos h]

theorem rcompareV_eq : ∀ (N : Nat) (a b : GValue) (k : Nat), sizeV a ≤ N → sizeV a < 1000000000000000 → wfV a → wfV b → N + 1 ≤ k → ref1_Compare k a b = some (cmpV a b) := by
  intro N
  induction N with
  | zero => intro a b k h; have := sizeV_pos a; omega
  | succ N ih =>
    intro a b k hN hbig ha hb hk
    obtain ⟨k', rfl⟩ : ∃ k', k = k' + 1 := ⟨k - 1, by omega⟩
    obtain ⟨ka, na, sa, ta, ia⟩ := a
    obtain ⟨kb, nb, sb, tb, ib⟩ := b
    simp only [wfV] at ha hb
    obtain ⟨wk, wn, ws, wi⟩ := ha
    obtain ⟨vk, vn, vs, vi⟩ := hb
    simp only [sizeV] at hN hbig
    have hlen := sizeL_len ia
    have hitems : ref1_Compare_l1 (ref1_Compare k') ⟨ka, na, sa, ta, ia⟩ ⟨kb, nb, sb, tb, ib⟩ BIG 0 = some (cmpL ia ib) := by
      have := ritems_loop (ref1_Compare k') ⟨ka, na, sa, ta, ia⟩ ⟨kb, nb, sb, tb, ib⟩ (by simp only; omega) (fun x hx y hy => by
        have h1 : sizeV x ≤ sizeL ia := sizeL_mem hx
        exact ih x y k' (by omega) (by omega) (wfL_mem wi hx) (wfL_mem vi hy) (by omega)) BIG 0 (Nat.zero_le _) (Nat.zero_le _) (by rw [big_val]; simp only; omega)
      simpa using this
    have htx : ref1_texts ta tb = some (cS ta tb) := texts_eq (by omega)
    have j2f : ref1_Compare_j2 (ref1_Compare k') ⟨ka, na, sa, ta, ia⟩ ⟨kb, nb, sb, tb, ib⟩ false = some (or' (c3 sa sb) (or' (cS ta tb) (cmpL ia ib))) := by
      unfold ref1_Compare_j2
      rw [ift_false, htx, hitems]
      simp only [order_eq, bnd_eq]
      by_cases hs : sa = sb
      · subst hs
        rw [show (sa != sa) = false by simp, ift_false, c3_self, or_zero]
        by_cases hc : cS ta tb = 0
        · rw [show (cS ta tb != 0) = false by simp [hc], ift_false, hc, or_zero]
        · rw [show (cS ta tb != 0) = true by simp [hc], ift_true, or_pos hc]
      · rw [show (sa != sb) = true by simp [hs], ift_true, or_pos (c3_ne hs)]
    rw [ref1_Compare]
    simp only [order_eq, bnd_eq, cmpV]
    by_cases h0 : ka = 0
    · subst h0
      by_cases h1 : kb = 0
      · subst h1; rfl
      · have e : ((kb == 0) : Bool) = false := beq_eq_false_iff_ne.2 h1
        have n2 : nulI kb = 0 := by unfold nulI; rw [if_neg h1]
        rw [e, n2]; rfl
    · have e0 : ((ka == 0) : Bool) = false := beq_eq_false_iff_ne.2 h0
      have n1 : nulI ka = 0 := by unfold nulI; rw [if_neg h0]
      rw [e0, n1]
      by_cases h1 : kb = 0
      · subst h1; rfl
      · have e1 : ((kb == 0) : Bool) = false := beq_eq_false_iff_ne.2 h1
        have n2 : nulI kb = 0 := by unfold nulI; rw [if_neg h1]
        rw [e1, n2, c3_self, or_zero]
        rw [show (!((false : Bool) == false)) = false from rfl, ift_false, ift_false]
        by_cases hkk : ka = kb
        · subst hkk
          rw [show (ka != ka) = false by simp, ift_false, c3_self, or_zero, if_neg h0]
          by_cases h3 : ka = 3
          · subst h3
            rw [show ((3 : Int) == 3) = true from rfl, ift_true]
            have j1 : ref1_Compare_j1 (ref1_Compare k') ⟨3, na, sa, ta, ia⟩ ⟨3, nb, sb, tb, ib⟩ = some (or' (c3 sa sb) (or' (cS ta tb) (cmpL ia ib))) := by
              unfold ref1_Compare_j1
              rw [show (((3 : Int) != 3) : Bool) = false from rfl, j2f]
              rcases Bool.eq_false_or_eq_true (na != nb) with h | h <;> rw [h] <;> rfl
            rw [j1]
            unfold ref1_decimals
            simp only [rwithinO, bnd_eq, order_eq]
            by_cases hA : 0 ≤ sa ∧ sa ≤ 12
            · have hiA : inR sa := hA
              have eA : decide (0 ≤ sa ∧ sa ≤ 12) = true := by simpa using hA
              have o1 : ooI 3 sa = 0 := by unfold ooI; rw [if_neg (by simp [hiA])]
              by_cases hB : 0 ≤ sb ∧ sb ≤ 12
              · have hiB : inR sb := hB
                have eB : decide (0 ≤ sb ∧ sb ≤ 12) = true := by simpa using hB
                have o2 : ooI 3 sb = 0 := by unfold ooI; rw [if_neg (by simp [hiB])]
                obtain ⟨r1, g1, g2⟩ := twelve_eq (v := ⟨3, na, sa, ta, ia⟩) wn hiA
                obtain ⟨r2, f1, f2⟩ := twelve_eq (v := ⟨3, nb, sb, tb, ib⟩) vn hiB
                rw [eA, eB, g1, f1]
                simp only [bnd_eq]
                rw [rcompare_eq g2 f2]
                simp only [bnd_eq]
                rw [show (!((true : Bool) == true)) = false from rfl, ift_false, ift_true]
                have u1 : vvI 3 sa na = na * p10 (12 - sa).toNat := by unfold vvI; rw [if_pos ⟨rfl, hiA⟩]
                have u2 : vvI 3 sb nb = nb * p10 (12 - sb).toNat := by unfold vvI; rw [if_pos ⟨rfl, hiB⟩]
                rw [o1, o2, c3_self, or_zero, u1, u2]
                by_cases hc : c3 (na * p10 (12 - sa).toNat) (nb * p10 (12 - sb).toNat) = 0
                · rw [hc]
                  rw [show ((0 : Int) != 0) = false from rfl, ift_false, bnd_eq, or_zero]
                  by_cases hs : sa = sb
                  · subst hs; rw [c3_self, show ((0 : Int) != 0) = false from rfl, ift_false]
                  · rw [show (c3 sa sb != 0) = true by simp [c3_ne hs], ift_true, or_pos (c3_ne hs)]
                · have hcb : (c3 (na * p10 (12 - sa).toNat) (nb * p10 (12 - sb).toNat) != 0) = true := by simp [hc]
                  rw [hcb, ift_true, bnd_eq, hcb, ift_true, or_pos hc]
              · have hiB : ¬ inR sb := hB
                have eB : decide (0 ≤ sb ∧ sb ≤ 12) = false := by simpa using hB
                have o2 : ooI 3 sb = 1 := by unfold ooI; rw [if_pos ⟨rfl, hiB⟩]
                rw [eA, eB, o1, o2]; rfl
            · have hiA : ¬ inR sa := hA
              have eA : decide (0 ≤ sa ∧ sa ≤ 12) = false := by simpa using hA
              have o1 : ooI 3 sa = 1 := by unfold ooI; rw [if_pos ⟨rfl, hiA⟩]
              have u1 : vvI 3 sa na = na := by unfold vvI; rw [if_neg (by simp [hiA])]
              by_cases hB : 0 ≤ sb ∧ sb ≤ 12
              · have hiB : inR sb := hB
                have eB : decide (0 ≤ sb ∧ sb ≤ 12) = true := by simpa using hB
                have o2 : ooI 3 sb = 0 := by unfold ooI; rw [if_neg (by simp [hiB])]
                rw [eA, eB, o1, o2]; rfl
              · have hiB : ¬ inR sb := hB
                have eB : decide (0 ≤ sb ∧ sb ≤ 12) = false := by simpa using hB
                have o2 : ooI 3 sb = 1 := by unfold ooI; rw [if_pos ⟨rfl, hiB⟩]
                have u2 : vvI 3 sb nb = nb := by unfold vvI; rw [if_neg (by simp [hiB])]
                rw [eA, eB, o1, o2, c3_self, or_zero, u1, u2]
                rw [show (!((false : Bool) == false)) = false from rfl, ift_false, ift_false]
                by_cases hn : na = nb
                · subst hn
                  rw [show (na != na) = false by simp, ift_false, bnd_eq, c3_self, or_zero]
                  by_cases hs : sa = sb
                  · subst hs; rw [c3_self, show ((0 : Int) != 0) = false from rfl, ift_false]
                  · rw [show (c3 sa sb != 0) = true by simp [c3_ne hs], ift_true, or_pos (c3_ne hs)]
                · rw [show (na != nb) = true by simp [hn], ift_true, bnd_eq, show (c3 na nb != 0) = true by simp [c3_ne hn], ift_true, or_pos (c3_ne hn)]
          · rw [beq_eq_false_iff_ne.2 h3, ift_false]
            have o1 : ∀ q, ooI ka q = 0 := fun q => by unfold ooI; rw [if_neg (by simp [h3])]
            have u1 : ∀ q r, vvI ka q r = r := fun q r => by unfold vvI; rw [if_neg (by simp [h3])]
            rw [o1, o1, c3_self, or_zero, u1, u1]
            unfold ref1_Compare_j1
            simp only
            rw [show (ka != 3) = true by simp [h3]]
            by_cases hn : na = nb
            · subst hn
              rw [show (na != na) = false by simp, ift_false, j2f, c3_self, or_zero]
            · rw [show (na != nb) = true by simp [hn], ift_true, or_pos (c3_ne hn)]
              unfold ref1_Compare_j2
              simp only [ift_true, order_eq, bnd_eq]
        · rw [show (ka != kb) = true by simp [hkk], ift_true, or_pos (c3_ne hkk)]

theorem law_order (a b : GValue) (wa : wfV a) (wb : wfV b) (sa : sizeV a ≤ 1048576) : law1_ValueOrderMatchesSpec a b = some true := by
  have C : ∀ x y, wfV x → wfV y → sizeV x ≤ 1048576 → value_Compare BIG x y = some (cmpV x y) := fun x y wx wy sx => compare_eq 1048576 x y BIG sx (by omega) wx wy (by rw [big_val]; decide)
  have w1 : wfV ⟨2, 1, 0, ByteArray.empty, []⟩ := by simp [wfV, wfL, i64]
  have w2 : wfV ⟨2, 2, 0, ByteArray.empty, []⟩ := by simp [wfV, wfL, i64]
  have s1 : sizeV ⟨2, 1, 0, ByteArray.empty, []⟩ ≤ 1048576 := by simp [sizeV, sizeL]
  have v1 : cmpV ⟨2, 1, 0, ByteArray.empty, []⟩ ⟨2, 2, 0, ByteArray.empty, []⟩ = -1 := by simp [cmpV, nulI, ooI, vvI, c3, or']
  unfold law1_ValueOrderMatchesSpec law1_ValueOrderMatchesSpec_j1 law1_number
  simp only [bnd_eq]
  rw [C _ _ w1 w2 s1, C a b wa wb sa, rcompareV_eq 1048576 a b BIG sa (by omega) wa wb (by rw [big_val]; decide), v1]
  simp only [bnd_eq, beq_self_eq_true, ift_true]

end Go.Proofs.Ytdkmclmdemngfaa
