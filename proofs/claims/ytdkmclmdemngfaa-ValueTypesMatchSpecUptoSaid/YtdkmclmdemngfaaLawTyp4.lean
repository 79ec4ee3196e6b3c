/- The common type: both answers are the same. -/
import Derived.Test.YtdkmclmdemngfaaLawTyp3
namespace Go.Proofs.Ytdkmclmdemngfaa
open Go Go.SX Go.SX.Cal
set_option linter.unusedVariables false
set_option linter.unusedSimpArgs false

def isNum (k : Int) : Bool := k == 2 || k == 3

theorem numV (t : GType) : value_number t = some (isNum t.kind) := by
  unfold value_number value_number_j1 isNum
  cases (t.kind == 2) <;> rfl

theorem numR (k : Int) : ref1_isNumber k = some (isNum k) := by
  unfold ref1_isNumber ref1_isNumber_j1 isNum
  cases (k == 2) <;> rfl

theorem clip_eq (l : List GField) : slices_Clip_api_Field_api_Field l = some l := by
  unfold slices_Clip_api_Field_api_Field
  rw [grd_pos (by omega)]
  simp

theorem sizeF_app : ∀ (l : List GField) (x : GField), sizeF (l ++ [x]) = sizeF l + sizeFd x
  | [], x => by simp [sizeF]
  | y :: l, x => by simp only [List.cons_append, sizeF, sizeF_app l x]; omega

theorem sizeF_drop {l : List GField} {i : Nat} (h : i < l.length) : sizeF (l.drop i) = sizeFd l[i] + sizeF (l.drop (i + 1)) := by
  rw [List.drop_eq_getElem_cons h]; simp only [sizeF]

theorem common_loop {a b : GType} (ho : a.fields.length < 1000000000) (hn : a.fields.length = b.fields.length) (q1 q2 : GType → GType → Option (GType × Bool))
    (hq : ∀ (i : Nat) (h : i < a.fields.length) (h' : i < b.fields.length), ∃ s s' : GType × Bool, q1 a.fields[i].type b.fields[i].type = some s ∧ q2 a.fields[i].type b.fields[i].type = some s ∧ q1 b.fields[i].type a.fields[i].type = some s' ∧ s.2 = s'.2 ∧ sizeT s.1 ≤ sizeT a.fields[i].type) :
    ∀ (kk i : Nat) (l l' : List GField), i ≤ a.fields.length → a.fields.length - i < kk → l.length = i → l'.length = i →
      ∃ r r' : GType × Bool, value_common_l1 q1 a b kk l (i : Int) = some r ∧ ref1_common_l1 q2 a b kk l (i : Int) = some r ∧ value_common_l1 q1 b a kk l' (i : Int) = some r' ∧ r.2 = r'.2 ∧ sizeT r.1 ≤ sizeF l + sizeF (a.fields.drop i) + 1 := by
  intro kk
  induction kk with
  | zero => intro i l l' _ h; omega
  | succ kk ih =>
    intro i l l' hi hk hl hl'
    rw [value_common_l1, ref1_common_l1, value_common_l1]
    by_cases h : i = a.fields.length
    · have hb : i = b.fields.length := by omega
      rw [show decide ((i : Int) < (a.fields.length : Int)) = false by simp [h], show decide ((i : Int) < (b.fields.length : Int)) = false by simp [hb]]
      simp only [ift_false, value_common_j4, ref1_common_j6, clip_eq, bnd_eq]
      refine ⟨_, _, rfl, rfl, rfl, rfl, ?_⟩
      simp only [sizeT]; omega
    · have h1 : i < a.fields.length := by omega
      have h2 : i < b.fields.length := by omega
      obtain ⟨s, s', g1, g2, g3, g4, g5⟩ := hq i h1 h2
      rw [dec_lt h1, dec_lt h2, ift_true, ift_true, ift_true, at_nat h1, at_nat h2]
      simp only [bnd_eq, g1, g2, g3]
      have hd := sizeF_drop h1
      have hfd := sizeFd_eq a.fields[i]
      cases hb : s.2 with
      | false =>
        rw [hb] at g4
        simp only [← g4, Bool.not_false, ift_true]
        refine ⟨_, _, rfl, rfl, rfl, rfl, ?_⟩
        simp only [sizeT, sizeF]; omega
      | true =>
        rw [hb] at g4
        simp only [← g4, Bool.not_true, ift_false, value_common_j3, ref1_common_j5]
        rw [wrap_succ h1 ho]
        have hg1 : l.length + 1 ≤ 4294967296 := by omega
        have hg2 : l'.length + 1 ≤ 4294967296 := by omega
        simp only [grd_pos hg1, grd_pos hg2, ift_ite]
        obtain ⟨x, hx, hxs⟩ : ∃ x : GField, (x = FieldP.mk 0 a.fields[i].name (if a.fields[i].need = true then b.fields[i].need else false) s.1) ∧ sizeFd x ≤ sizeFd a.fields[i] := ⟨_, rfl, by simp only [sizeFd]; omega⟩
        obtain ⟨y, hy⟩ : ∃ y : GField, y = FieldP.mk 0 b.fields[i].name (if b.fields[i].need = true then a.fields[i].need else false) s'.1 := ⟨_, rfl⟩
        obtain ⟨r, r', k1, k2, k3, k4, k5⟩ := ih (i + 1) (l ++ [x]) (l' ++ [y]) (by omega) (by omega) (by simp [hl]) (by simp [hl'])
        refine ⟨r, r', ?_, ?_, ?_, k4, ?_⟩
        · rw [← k1, hx]; cases a.fields[i].need <;> rfl
        · rw [← k2, hx]; cases a.fields[i].need <;> rfl
        · rw [← k3, hy]; cases b.fields[i].need <;> rfl
        · rw [sizeF_app] at k5; omega

theorem common_eq : ∀ (N k : Nat) (a b : GType), sizeT a ≤ N → N < k → sizeT a < 1000000000 → V a → V b →
    ∃ r r' : GType × Bool, value_common k a b = some r ∧ ref1_common k a b = some r ∧ value_common k b a = some r' ∧ r.2 = r'.2 ∧ sizeT r.1 ≤ sizeT a := by
  intro N
  induction N with
  | zero => intro k a b h; have := sizeT_eq a; omega
  | succ N ih =>
    intro k a b hN hk hs va vb
    obtain ⟨k, rfl⟩ : ∃ k', k = k' + 1 := ⟨k - 1, by omega⟩
    have hsz := sizeT_eq a
    rw [value_common, ref1_common, value_common]
    simp only [numV, numR, bnd_eq]
    have hj : ∀ x : Bool, (isNum a.kind = true → x = isNum b.kind) → (isNum a.kind = false → x = false) → ift (isNum a.kind) (value_common_j1 (value_common k) a b (isNum b.kind)) (value_common_j1 (value_common k) a b false) = value_common_j1 (value_common k) a b (isNum a.kind && isNum b.kind) := by
      intro _ _ _; cases isNum a.kind <;> rfl
    have e1 : ift (isNum a.kind) (value_common_j1 (value_common k) a b (isNum b.kind)) (value_common_j1 (value_common k) a b false) = value_common_j1 (value_common k) a b (isNum a.kind && isNum b.kind) := by cases isNum a.kind <;> rfl
    have e2 : ift (isNum a.kind) (ref1_common_j1 (ref1_common k) a b (isNum b.kind)) (ref1_common_j1 (ref1_common k) a b false) = ref1_common_j1 (ref1_common k) a b (isNum a.kind && isNum b.kind) := by cases isNum a.kind <;> rfl
    have e3 : ift (isNum b.kind) (value_common_j1 (value_common k) b a (isNum a.kind)) (value_common_j1 (value_common k) b a false) = value_common_j1 (value_common k) b a (isNum a.kind && isNum b.kind) := by cases isNum b.kind <;> cases isNum a.kind <;> rfl
    rw [e1, e2, e3]
    cases hx : (isNum a.kind && isNum b.kind) with
    | true =>
      simp only [value_common_j1, ref1_common_j1, ref1_common_j2, ref1_common_j3, ift_true]
      rw [Bool.and_eq_true] at hx
      obtain ⟨ka, kb⟩ := hx
      simp only [isNum, Bool.or_eq_true, beq_iff_eq] at ka kb
      obtain ⟨k1, s1, f1, w1, w2⟩ := va
      obtain ⟨k2, s2, f2, w3, w4⟩ := vb
      simp only at ka kb ⊢
      rcases ka with rfl | rfl
      · obtain ⟨rfl, rfl⟩ := w1 rfl
        rcases kb with rfl | rfl
        · obtain ⟨rfl, rfl⟩ := w3 rfl
          refine ⟨_, _, rfl, by simp [ift_ite], rfl, rfl, by simp [sizeT, sizeF]⟩
        · refine ⟨_, _, rfl, ?_, rfl, rfl, by simp [sizeT, sizeF]⟩
          by_cases h : 0 < s2 <;> simp [ift_ite, h]
      · refine ⟨_, _, rfl, ?_, rfl, rfl, by simp [sizeT, sizeF]⟩
        rcases kb with rfl | rfl
        · by_cases h : s1 < s2 <;> simp [ift_ite, h]
        · by_cases h : s1 < s2 <;> simp [ift_ite, h]
    | false =>
      simp only [value_common_j1, ref1_common_j1, ift_false, value_common_j2, ref1_common_j4]
      by_cases hk' : a.kind = b.kind
      · by_cases hlen : a.fields.length = b.fields.length
        · have hqs : ∀ (i : Nat) (h : i < a.fields.length) (h' : i < b.fields.length), ∃ s s' : GType × Bool, value_common k a.fields[i].type b.fields[i].type = some s ∧ ref1_common k a.fields[i].type b.fields[i].type = some s ∧ value_common k b.fields[i].type a.fields[i].type = some s' ∧ s.2 = s'.2 ∧ sizeT s.1 ≤ sizeT a.fields[i].type := by
            intro i h h'
            have m1 := sizeF_mem (List.getElem_mem h)
            have m2 := sizeFd_eq a.fields[i]
            refine ih k _ _ (by omega) (by omega) (by omega) ?_ ?_
            · obtain ⟨_, _, fs, _, w2⟩ := va; exact w2 _ (List.getElem_mem h)
            · obtain ⟨_, _, fs, _, w2⟩ := vb; exact w2 _ (List.getElem_mem h')
          have hfl := sizeF_len a.fields
          obtain ⟨r, r', g1, g2, g3, g4, g5⟩ := common_loop (by omega) hlen _ _ hqs BIG 0 [] [] (Nat.zero_le _) (by rw [big_val]; omega) rfl rfl
          refine ⟨r, r', ?_, ?_, ?_, g4, by simp only [sizeF, List.drop_zero] at g5; omega⟩
          · simpa [ift_ite, hk', hlen] using g1
          · simpa [ift_ite, hk', hlen] using g2
          · simpa [ift_ite, hk', hlen] using g3
        · have hi : ((a.fields.length : Int) != (b.fields.length : Int)) = true := by simp; omega
          have hi' : ((b.fields.length : Int) != (a.fields.length : Int)) = true := by simp; omega
          refine ⟨(⟨0, 0, []⟩, false), (⟨0, 0, []⟩, false), ?_, ?_, ?_, rfl, by simp [sizeT, sizeF]; omega⟩ <;> simp [ift_ite, hk', hi, hi']
      · have hk2 : ¬ b.kind = a.kind := fun h => hk' h.symm
        refine ⟨(⟨0, 0, []⟩, false), (⟨0, 0, []⟩, false), ?_, ?_, ?_, rfl, by simp [sizeT, sizeF]; omega⟩ <;> simp [ift_ite, hk', hk2]

theorem same_refl : ∀ (N k : Nat) (t : GType), sizeT t ≤ N → 2 * N + 2 ≤ k → sizeT t < 1000000000 → law1_sameType k t t = some true := by
  intro N
  induction N with
  | zero => intro k t h; have := sizeT_eq t; omega
  | succ N ih =>
    intro k t hN hk hs
    obtain ⟨k, rfl⟩ : ∃ k', k = k' + 2 := ⟨k - 2, by omega⟩
    have hsz := sizeT_eq t
    have hfl := sizeF_len t.fields
    rw [law1_sameType, law1_sameFields]
    simp only [beq_self_eq_true, ift_true, bne_self_eq_false, ift_false]
    have hl := search (f := fun kk i => law1_sameFields_l1 (law1_sameType k) t.fields t.fields kk (i : Int)) (n := t.fields.length) (P := fun _ => false) (A := fun _ => none) (B := some true) (fun kk i hi => by
        show law1_sameFields_l1 (law1_sameType k) t.fields t.fields (kk + 1) (i : Int) = _
        have m1 := sizeF_mem (List.getElem_mem hi)
        have m2 := sizeFd_eq t.fields[i]
        rw [law1_sameFields_l1, dec_lt hi, ift_true, at_nat hi, bnd_eq, bnd_eq, ih k _ (by omega) (by omega) (by omega)]
        simp only [law1_sameFields_j1, bnd_eq, bne_self_eq_false, ift_false, beq_self_eq_true, Bool.not_true]
        rw [wrap_succ hi (by omega)]
        simp)
      (fun kk => by rw [law1_sameFields_l1]; simp only [Int.lt_irrefl, decide_false, ift_false]; rfl) BIG 0 (Nat.zero_le _) (by rw [big_val]; omega)
    have hl : law1_sameFields_l1 (law1_sameType k) t.fields t.fields BIG (0 : Int) = _ := hl
    rw [hl, first_none.2 (fun _ _ _ => rfl)]
    rfl

/-- both answers; and the fault does not hang on the order -/
theorem Common_eq (a b : GType) (ha : sizeT a < 1000000000) (hb : sizeT b < 1000000000) : ∃ r r' : GType × Int, value_Common a b = some r ∧ ref1_Common a b = some r ∧ value_Common b a = some r' ∧ sizeT r.1 < 1000000000 ∧
    ∃ ea eb, ref1_CheckType a = some ea ∧ ref1_CheckType b = some eb ∧ (ea = 0 → eb = 0 → r.2 = r'.2) := by
  obtain ⟨ea, a1, a2, a3⟩ := checkType_eq a ha
  obtain ⟨eb, b1, b2, b3⟩ := checkType_eq b hb
  have z : sizeT ⟨0, 0, []⟩ < 1000000000 := by simp [sizeT, sizeF]
  have p0 : ∀ x y : GType, at? [x, y] (0 : Int) = some x := fun _ _ => rfl
  have p1 : ∀ x y : GType, at? [x, y] (1 : Int) = some y := fun _ _ => rfl
  unfold value_Common ref1_Common
  simp only [p0, p1, bnd_eq, a1, a2, b1, b2, ift_ite]
  by_cases h1 : ea = 0
  · by_cases h2 : eb = 0
    · obtain ⟨r, r', g1, g2, g3, g4, g5⟩ := common_eq 1000000000 BIG a b (by omega) (by rw [big_val]; omega) ha (a3 h1) (b3 h2)
      simp only [h1, h2, g1, g2, g3, bnd_eq]
      cases hr : r.2 with
      | true => rw [hr] at g4; exact ⟨(r.1, 0), (r'.1, 0), by simp, by simp, by simp [← g4], by show sizeT r.1 < _; omega, _, _, rfl, rfl, fun _ _ => rfl⟩
      | false => rw [hr] at g4; exact ⟨(⟨0, 0, []⟩, 2), (⟨0, 0, []⟩, 2), by simp, by simp, by simp [← g4], z, _, _, rfl, rfl, fun _ _ => rfl⟩
    · exact ⟨(⟨0, 0, []⟩, eb), (⟨0, 0, []⟩, eb), by simp [h1, h2], by simp [h1, h2], by simp [h2], z, _, _, rfl, rfl, fun _ h => absurd h h2⟩
  · by_cases h2 : eb = 0
    · exact ⟨(⟨0, 0, []⟩, ea), (⟨0, 0, []⟩, ea), by simp [h1], by simp [h1], by simp [h1, h2], z, _, _, rfl, rfl, fun h => absurd h h1⟩
    · exact ⟨(⟨0, 0, []⟩, ea), (⟨0, 0, []⟩, eb), by simp [h1], by simp [h1], by simp [h2], z, _, _, rfl, rfl, fun h => absurd h h1⟩

theorem big_succ : BIG = 1152921504606846975 + 1 := rfl

theorem check_leaf (κ : Int) (h : κ = 1 ∨ κ = 2) : value_CheckType ⟨κ, 0, []⟩ = some 0 := by
  have ho : FsOk (GType.fields ⟨κ, 0, []⟩) := ⟨by simp, fun f hf => by simp at hf⟩
  have hs : shp ⟨κ, 0, []⟩ = 0 := by rcases h with rfl | rfl <;> simp [shp, scBad, vf]
  unfold value_CheckType
  rw [big_succ, value_checker_check]
  simp only [leafV, bnd_eq, value_checker_check_j1]
  have hk : decide (κ ≠ 6 ∧ κ ≠ 7) = true := by rcases h with rfl | rfl <;> decide
  have h4 : decide ((4 : Int) < 1) = false := by decide
  have h5 : ((0 : Int) == 40) = false := by decide
  simp only [hk, h4, h5, ift_true, ift_false]
  rw [checkJ2 ho, hs, big_succ]
  simp only [ne_eq, not_true, if_false]
  rw [value_checker_check_l1]
  simp [ift_ite, bnd_eq, value_checker_check_j5]

theorem law_common (a b : GType) (ha : sizeT a < 1000000000) (hb : sizeT b < 1000000000) : law1_ValueCommonMatchesSpec a b = some true := by
  obtain ⟨r, r', g1, g2, g3, g4, ea, eb, c1, c2, g5⟩ := Common_eq a b ha hb
  have hw : value_Common ⟨2, 0, []⟩ ⟨1, 0, []⟩ = some (⟨0, 0, []⟩, 2) := by
    have p0 : ∀ x y : GType, at? [x, y] (0 : Int) = some x := fun _ _ => rfl
    have p1 : ∀ x y : GType, at? [x, y] (1 : Int) = some y := fun _ _ => rfl
    unfold value_Common
    rw [p0, p1]
    simp only [bnd_eq, check_leaf 2 (.inr rfl), check_leaf 1 (.inl rfl)]
    rw [big_succ, value_common]
    simp [numV, bnd_eq, isNum, ift_ite, value_common_j1, value_common_j2]
  unfold law1_ValueCommonMatchesSpec law1_ValueCommonMatchesSpec_j1 law1_ValueCommonMatchesSpec_j2
  rw [hw, g1, g2, g3, c1, c2]
  simp only [bnd_eq, same_refl 1000000000 BIG r.1 (by omega) (by rw [big_val]; omega) g4]
  by_cases h1 : ea = 0
  · by_cases h2 : eb = 0
    · simp [ift_ite, h1, h2, g5 h1 h2]
    · simp [ift_ite, h1, h2]
  · simp [ift_ite, h1]

theorem sizeF_sum : ∀ l : List GField, sizeF l = (l.map sizeFd).sum
  | [] => rfl
  | x :: l => by simp only [sizeF, List.map_cons, List.sum_cons, sizeF_sum l]

theorem szT_mk (k s : Int) (fs : List GField) : sizeT ⟨k, s, fs⟩ ≤ (fs.map sizeFd).sum + 4 := by
  simp only [sizeT, sizeF_sum]; omega

theorem szF_mk (i : Int) (n : ByteArray) (q : Bool) (t : GType) : sizeFd ⟨i, n, q, t⟩ ≤ n.size + sizeT t + 4 := by
  simp only [sizeFd]; omega

end Go.Proofs.Ytdkmclmdemngfaa
