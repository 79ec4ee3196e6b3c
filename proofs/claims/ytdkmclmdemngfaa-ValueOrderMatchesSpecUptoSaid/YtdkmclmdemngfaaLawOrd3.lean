/- Compare, in plain terms. -/
import Derived.Test.YtdkmclmdemngfaaLawOrd2
namespace Go.Proofs.Ytdkmclmdemngfaa
open Go Go.SX Go.SX.Cal
set_option linter.unusedVariables false
set_option linter.unusedSimpArgs false

def or' (x y : Int) : Int := if x ≠ 0 then x else y

def cS (s t : ByteArray) : Int := if Op.bytesLess s.toList t.toList = true then -1 else if s.toList = t.toList then 0 else 1

def inR (sc : Int) : Prop := 0 ≤ sc ∧ sc ≤ 12
instance (sc : Int) : Decidable (inR sc) := by unfold inR; infer_instance
def nulI (k : Int) : Int := if k = 0 then 1 else 0
def ooI (k sc : Int) : Int := if k = 3 ∧ ¬ inR sc then 1 else 0
def vvI (k sc n : Int) : Int := if k = 3 ∧ inR sc then n * p10 (12 - sc).toNat else n

mutual
def cmpV : GValue → GValue → Int
  | ⟨k, n, sc, s, it⟩, b => or' (c3 (nulI k) (nulI b.kind)) (or' (c3 k b.kind) (if k = 0 then 0 else or' (c3 (ooI k sc) (ooI b.kind b.scale)) (or' (c3 (vvI k sc n) (vvI b.kind b.scale b.n)) (or' (c3 sc b.scale) (or' (cS s b.s) (cmpL it b.items))))))
def cmpL : List GValue → List GValue → Int
  | [], m => match m with
    | [] => 0
    | _ :: _ => -1
  | x :: l, m => match m with
    | [] => 1
    | y :: ys => or' (cmpV x y) (cmpL l ys)
end

mutual
def sizeV : GValue → Nat
  | ⟨_, _, _, s, it⟩ => s.size + sizeL it + 1
def sizeL : List GValue → Nat
  | [] => 0
  | x :: l => sizeV x + sizeL l
end

def i64 (x : Int) : Prop := -9223372036854775808 ≤ x ∧ x ≤ 9223372036854775807

mutual
def wfV : GValue → Prop
  | ⟨k, n, sc, _, it⟩ => i64 k ∧ i64 n ∧ i64 sc ∧ wfL it
def wfL : List GValue → Prop
  | [] => True
  | x :: l => wfV x ∧ wfL l
end

theorem wfL_mem : ∀ {l : List GValue} {x : GValue}, wfL l → x ∈ l → wfV x
  | [], _, _, h => by cases h
  | y :: l, x, hw, h => by
    simp only [wfL] at hw
    rcases List.mem_cons.1 h with rfl | h
    · exact hw.1
    · exact wfL_mem hw.2 h

theorem sizeL_mem : ∀ {l : List GValue} {x : GValue}, x ∈ l → sizeV x ≤ sizeL l
  | [], _, h => by cases h
  | y :: l, x, h => by
    simp only [sizeL]
    rcases List.mem_cons.1 h with rfl | h
    · omega
    · have := sizeL_mem h; omega

theorem sizeV_pos : ∀ v : GValue, 1 ≤ sizeV v
  | ⟨_, _, _, _, _⟩ => by simp only [sizeV]; omega

theorem sizeL_len : ∀ l : List GValue, l.length ≤ sizeL l
  | [] => by simp [sizeL]
  | x :: l => by
    have := sizeL_len l
    have := sizeV_pos x
    simp only [sizeL, List.length_cons]; omega

theorem compI (a b : Int) : cmp_Compare_int a b = some (c3 a b) := by
  unfold cmp_Compare_int cmp_isNaN_int c3
  simp only [bnd_eq, bne_self_eq_false, ift_false]
  by_cases h : a < b
  · simp [h, ift_ite]
  · by_cases k : b < a <;> simp [h, k, ift_ite]

theorem compS (a b : ByteArray) : cmp_Compare_string a b = some (cS a b) := by
  unfold cmp_Compare_string cmp_isNaN_string cS
  simp only [bnd_eq, beq_self_eq_true, Bool.not_true, ift_false]
  by_cases h : Op.bytesLess a.toList b.toList = true
  · simp [h, ift_ite]
  · have h' : Op.bytesLess a.toList b.toList = false := by simpa using h
    by_cases k : a.toList = b.toList
    · rw [k] at h' ⊢
      simp [h', ift_ite]
    · simp [h', k, ift_ite]

theorem or_step {p : List Int} {k i : Nat} {x : Int} (h : p[i]? = some x) (hi : i < 1000) : cmp_Or_int_l1 p (k + 1) (i : Int) = if x ≠ 0 then some x else cmp_Or_int_l1 p k ((i + 1 : Nat) : Int) := by
  have hlt := (List.getElem?_eq_some_iff.1 h).1
  rw [cmp_Or_int_l1, show decide ((i : Int) < (p.length : Int)) = true by simp [hlt], ift_true]
  have : at? p (i : Int) = some x := by unfold at?; simp [h]
  rw [this]
  simp only [bnd_eq]
  rw [w64 (by omega) (by omega), show (i : Int) + 1 = ((i + 1 : Nat) : Int) by omega]
  by_cases hx : x = 0
  · simp [hx, ift_ite]
  · simp [hx, ift_ite]

theorem or_end {p : List Int} {k : Nat} : cmp_Or_int_l1 p (k + 1) (p.length : Int) = some 0 := by
  rw [cmp_Or_int_l1, show decide ((p.length : Int) < (p.length : Int)) = false by simp, ift_false]
  rfl

theorem or2 (x y : Int) : cmp_Or_int [x, y] = some (or' x y) := by
  unfold cmp_Or_int or'
  have hB : BIG = 1152921504606846973 + 1 + 1 + 1 := rfl
  have h0 := or_step (p := [x, y]) (k := 1152921504606846973 + 1 + 1) (i := 0) (x := x) rfl (by decide)
  have h1 := or_step (p := [x, y]) (k := 1152921504606846973 + 1) (i := 1) (x := y) rfl (by decide)
  have h2 := or_end (p := [x, y]) (k := 1152921504606846973)
  rw [hB]
  refine Eq.trans h0 ?_
  rw [h1]
  refine Eq.trans (b := if x ≠ 0 then some x else if y ≠ 0 then some y else some 0) (by rw [← h2]; rfl) ?_
  by_cases hx : x = 0 <;> by_cases hy : y = 0 <;> simp [hx, hy]

theorem or3 (x y z : Int) : cmp_Or_int [x, y, z] = some (or' x (or' y z)) := by
  unfold cmp_Or_int or'
  have hB : BIG = 1152921504606846972 + 1 + 1 + 1 + 1 := rfl
  have h0 := or_step (p := [x, y, z]) (k := 1152921504606846972 + 1 + 1 + 1) (i := 0) (x := x) rfl (by decide)
  have h1 := or_step (p := [x, y, z]) (k := 1152921504606846972 + 1 + 1) (i := 1) (x := y) rfl (by decide)
  have h2 := or_step (p := [x, y, z]) (k := 1152921504606846972 + 1) (i := 2) (x := z) rfl (by decide)
  have h3 := or_end (p := [x, y, z]) (k := 1152921504606846972)
  rw [hB]
  refine Eq.trans h0 ?_
  rw [h1, h2]
  refine Eq.trans (b := if x ≠ 0 then some x else if y ≠ 0 then some y else if z ≠ 0 then some z else some 0) (by rw [← h3]; rfl) ?_
  by_cases hx : x = 0 <;> by_cases hy : y = 0 <;> by_cases hz : z = 0 <;> simp [hx, hy, hz]

theorem cmpf_loop (f : GValue → GValue → Option Int) (p1 p2 : List GValue) (hl : p1.length < 1000000000000000) (hf : ∀ x ∈ p1, ∀ y ∈ p2, f x y = some (cmpV x y)) : ∀ (k i : Nat), i ≤ p1.length → i ≤ p2.length → p1.length < i + k →
    slices_CompareFunc_api_Value_api_Value_api_Value_api_Value_s1_l1 f p1 p2 k (i : Int) = some (cmpL (p1.drop i) (p2.drop i)) := by
  intro k
  induction k with
  | zero => intro i h1 h2 h3; omega
  | succ k ih =>
    intro i h1 h2 h3
    rw [slices_CompareFunc_api_Value_api_Value_api_Value_api_Value_s1_l1]
    by_cases hi : i < p1.length
    · have e1 : p1.drop i = p1[i] :: p1.drop (i + 1) := List.drop_eq_getElem_cons hi
      have a1 : at? p1 (i : Int) = some p1[i] := by unfold at?; simp [hi]
      rw [show decide ((i : Int) < (p1.length : Int)) = true by simp [hi], ift_true, a1, e1]
      simp only [bnd_eq]
      by_cases hj : i < p2.length
      · have e2 : p2.drop i = p2[i] :: p2.drop (i + 1) := List.drop_eq_getElem_cons hj
        have a2 : at? p2 (i : Int) = some p2[i] := by unfold at?; simp [hj]
        rw [show decide ((p2.length : Int) ≤ (i : Int)) = false by simp; omega, ift_false, a2, e2]
        simp only [bnd_eq]
        rw [hf _ (List.getElem_mem hi) _ (List.getElem_mem hj)]
        simp only [bnd_eq, cmpL]
        unfold or'
        by_cases hc : cmpV p1[i] p2[i] = 0
        · have e : (cmpV p1[i] p2[i] != 0) = false := by simp [hc]
          rw [e, ift_false, w64 (by omega) (by omega), show (i : Int) + 1 = ((i + 1 : Nat) : Int) by omega, ih (i + 1) (by omega) (by omega) (by omega), if_neg (by simp [hc])]
        · have e : (cmpV p1[i] p2[i] != 0) = true := by simp [hc]
          rw [e, ift_true, if_pos hc]
      · have e2 : p2.drop i = [] := List.drop_of_length_le (by omega)
        rw [show decide ((p2.length : Int) ≤ (i : Int)) = true by simp; omega, ift_true, e2]
        rfl
    · have : i = p1.length := by omega
      subst this
      rw [show decide ((p1.length : Int) < (p1.length : Int)) = false by simp, ift_false, List.drop_length]
      unfold slices_CompareFunc_api_Value_api_Value_api_Value_api_Value_s1_j1
      by_cases hj : p1.length < p2.length
      · have e2 : p2.drop p1.length = p2[p1.length] :: p2.drop (p1.length + 1) := List.drop_eq_getElem_cons hj
        rw [show decide ((p1.length : Int) < (p2.length : Int)) = true by simp [hj], ift_true, e2]
        rfl
      · have e2 : p2.drop p1.length = [] := List.drop_of_length_le (by omega)
        rw [show decide ((p1.length : Int) < (p2.length : Int)) = false by simp; omega, ift_false, e2]
        rfl

theorem withinO (a b c : Int) : value_within a b c = some (decide (b ≤ a ∧ a ≤ c)) := by
  unfold value_within value_within_j1
  by_cases h : b ≤ a <;> by_cases k : a ≤ c <;> simp [h, k, ift_ite]

theorem or_zero (y : Int) : or' 0 y = y := by simp [or']
theorem c3_self (a : Int) : c3 a a = 0 := by simp [c3]

theorem compare_eq : ∀ (N : Nat) (a b : GValue) (k : Nat), sizeV a ≤ N → sizeV a < 1000000000000000 → wfV a → wfV b → 3 * N + 3 ≤ k → value_Compare k a b = some (cmpV a b) := by
  intro N
  induction N with
  | zero => intro a b k h; have := sizeV_pos a; omega
  | succ N ih =>
    intro a b k hN hbig ha hb hk
    obtain ⟨k', rfl⟩ : ∃ k', k = k' + 1 + 1 + 1 := ⟨k - 3, by omega⟩
    obtain ⟨ka, na, sa, ta, ia⟩ := a
    obtain ⟨kb, nb, sb, tb, ib⟩ := b
    simp only [wfV] at ha hb
    obtain ⟨wk, wn, ws, wi⟩ := ha
    obtain ⟨vk, vn, vs, vi⟩ := hb
    simp only [sizeV] at hN hbig
    have hlen := sizeL_len ia
    -- the rest
    have hitems : slices_CompareFunc_api_Value_api_Value_api_Value_api_Value_s1 (k' + 1) ia ib = some (cmpL ia ib) := by
      rw [slices_CompareFunc_api_Value_api_Value_api_Value_api_Value_s1]
      have := cmpf_loop (value_Compare k') ia ib (by omega) (fun x hx y hy => by
        have h1 := sizeL_mem hx
        exact ih x y k' (by omega) (by omega) (wfL_mem wi hx) (wfL_mem vi hy) (by omega)) BIG 0 (Nat.zero_le _) (Nat.zero_le _) (by rw [big_val]; omega)
      simpa using this
    have hrest : value_rest (k' + 1 + 1) ⟨ka, na, sa, ta, ia⟩ ⟨kb, nb, sb, tb, ib⟩ = some (or' (c3 sa sb) (or' (cS ta tb) (cmpL ia ib))) := by
      rw [value_rest]
      simp only [compI, compS, bnd_eq, hitems, or3]
    rw [value_Compare]
    simp only [compI, bnd_eq, withinO, cmpV]
    by_cases hkk : ka = kb
    · subst hkk
      rw [show (ka != ka) = false by simp, ift_false, c3_self, c3_self, or_zero, or_zero]
      by_cases h0 : ka = 0
      · subst h0; rw [if_pos rfl]; rfl
      · rw [beq_eq_false_iff_ne.2 h0, ift_false, if_neg h0]
        have plain : value_Compare_j2 (value_rest (k' + 1 + 1)) ⟨ka, na, sa, ta, ia⟩ ⟨ka, nb, sb, tb, ib⟩ = some (or' (c3 na nb) (or' (c3 sa sb) (or' (cS ta tb) (cmpL ia ib)))) := by
          unfold value_Compare_j2
          simp only [compI, bnd_eq, hrest, or2]
        by_cases h3 : ka = 3
        · subst h3
          rw [show ((3 : Int) == 3) = true from rfl, ift_true]
          unfold value_Compare_j1
          by_cases hA : 0 ≤ sa ∧ sa ≤ 12
          · have hiA : inR sa := hA
            by_cases hB : 0 ≤ sb ∧ sb ≤ 12
            · have hiB : inR sb := hB
              simp only [hA, hB, and_self, decide_true, ift_true]
              rw [w64 (x := 12 - sa) (by omega) (by omega), w64 (x := 12 - sb) (by omega) (by omega)]
              obtain ⟨w1, g1, g2, g3, g4, g5⟩ := scaled_eq (n := na) (d := 12 - sa) wn.1 wn.2 (by omega) (by omega)
              obtain ⟨w2, f1, f2, f3, f4, f5⟩ := scaled_eq (n := nb) (d := 12 - sb) vn.1 vn.2 (by omega) (by omega)
              rw [g1, f1]
              simp only [bnd_eq]
              have pp1 := p10_pos (12 - sa).toNat
              have pp2 := p10_pos (12 - sb).toNat
              have sgn : ∀ (n P : Int), 1 ≤ P → n < 0 → 0 < (if n < 0 then -n else n) * P := by
                intro n P hP hn
                rw [if_pos hn]
                exact Int.mul_pos (by omega) (by omega)
              have sv1 : sv w1 = na * p10 (12 - sa).toNat := by
                unfold sv; rw [g3, g4]
                by_cases hn : na < 0
                · simp only [hn, decide_true, if_true]; rw [Int.neg_mul, Int.neg_neg]
                · simp only [hn, decide_false, Bool.false_eq_true, if_false]
              have sv2 : sv w2 = nb * p10 (12 - sb).toNat := by
                unfold sv; rw [f3, f4]
                by_cases hn : nb < 0
                · simp only [hn, decide_true, if_true]; rw [Int.neg_mul, Int.neg_neg]
                · simp only [hn, decide_false, Bool.false_eq_true, if_false]
              have hcmp : value_wide_compare ⟨w1.neg, w1.size.1, w1.size.2.1, w1.size.2.2.1, w1.size.2.2.2⟩ ⟨w2.neg, w2.size.1, w2.size.2.1, w2.size.2.2.1, w2.size.2.2.2⟩ = some (c3 (na * p10 (12 - sa).toNat) (nb * p10 (12 - sb).toNat)) := by
                have := wcompare_eq g2 f2 g5 f5 (fun h => by rw [g3]; exact sgn na _ pp1 (by rw [g4] at h; simpa using h)) (fun h => by rw [f3]; exact sgn nb _ pp2 (by rw [f4] at h; simpa using h))
                rw [sv1, sv2] at this
                exact this
              rw [hcmp]
              simp only [bnd_eq, hrest, or2]
              have o1 : ooI 3 sa = 0 := by unfold ooI; rw [if_neg (by simp [hiA])]
              have o2 : ooI 3 sb = 0 := by unfold ooI; rw [if_neg (by simp [hiB])]
              have u1 : vvI 3 sa na = na * p10 (12 - sa).toNat := by unfold vvI; rw [if_pos ⟨rfl, hiA⟩]
              have u2 : vvI 3 sb nb = nb * p10 (12 - sb).toNat := by unfold vvI; rw [if_pos ⟨rfl, hiB⟩]
              rw [o1, o2, c3_self, or_zero, u1, u2]
            · have hiB : ¬ inR sb := hB
              have eB : decide (0 ≤ sb ∧ sb ≤ 12) = false := by simpa using hB
              have eA : decide (0 ≤ sa ∧ sa ≤ 12) = true := by simpa using hA
              rw [eA, eB]
              simp only [ift_true, ift_false]
              have o1 : ooI 3 sa = 0 := by unfold ooI; rw [if_neg (by simp [hiA])]
              have o2 : ooI 3 sb = 1 := by unfold ooI; rw [if_pos ⟨rfl, hiB⟩]
              rw [o1, o2]; rfl
          · have hiA : ¬ inR sa := hA
            have eA : decide (0 ≤ sa ∧ sa ≤ 12) = false := by simpa using hA
            have o1 : ooI 3 sa = 1 := by unfold ooI; rw [if_pos ⟨rfl, hiA⟩]
            have u1 : vvI 3 sa na = na := by unfold vvI; rw [if_neg (by simp [hiA])]
            rw [eA]
            simp only [ift_false]
            by_cases hB : 0 ≤ sb ∧ sb ≤ 12
            · have hiB : inR sb := hB
              have eB : decide (0 ≤ sb ∧ sb ≤ 12) = true := by simpa using hB
              have o2 : ooI 3 sb = 0 := by unfold ooI; rw [if_neg (by simp [hiB])]
              rw [eB, o1, o2]; rfl
            · have hiB : ¬ inR sb := hB
              have eB : decide (0 ≤ sb ∧ sb ≤ 12) = false := by simpa using hB
              have o2 : ooI 3 sb = 1 := by unfold ooI; rw [if_pos ⟨rfl, hiB⟩]
              have u2 : vvI 3 sb nb = nb := by unfold vvI; rw [if_neg (by simp [hiB])]
              rw [eB, ift_false, plain, o1, o2, c3_self, or_zero, u1, u2]
        · rw [beq_eq_false_iff_ne.2 h3, ift_false, plain]
          have o1 : ∀ q, ooI ka q = 0 := fun q => by unfold ooI; rw [if_neg (by simp [h3])]
          have u1 : ∀ q r, vvI ka q r = r := fun q r => by unfold vvI; rw [if_neg (by simp [h3])]
          rw [o1, o1, c3_self, or_zero, u1, u1]
    · rw [show (ka != kb) = true by simp [hkk], ift_true]
      by_cases h0 : ka = 0
      · subst h0
        have : nulI kb = 0 := by unfold nulI; rw [if_neg (fun e => hkk e.symm)]
        rw [this]; rfl
      · rw [beq_eq_false_iff_ne.2 h0, ift_false]
        have n1 : nulI ka = 0 := by unfold nulI; rw [if_neg h0]
        by_cases h1 : kb = 0
        · subst h1; rw [n1]; rfl
        · have n2 : nulI kb = 0 := by unfold nulI; rw [if_neg h1]
          rw [beq_eq_false_iff_ne.2 h1, ift_false, n1, n2, c3_self, or_zero]
          have hc : c3 ka kb ≠ 0 := by unfold c3; split <;> (try split) <;> omega
          unfold or'
          rw [if_pos hc]

end Go.Proofs.Ytdkmclmdemngfaa
