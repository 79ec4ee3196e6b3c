/- SameType: both answers are the same. -/
import Derived.Test.YtdkmclmdemngfaaLawTyp4
namespace Go.Proofs.Ytdkmclmdemngfaa
open Go Go.SX Go.SX.Cal
set_option linter.unusedVariables false
set_option linter.unusedSimpArgs false

theorem sameType_loop {a b : GType} (ho : a.fields.length < 1000000000) (hn : a.fields.length = b.fields.length) (q1 : GField → GField → Option Bool) (q2 : GType → GType → Option Bool)
    (hq : ∀ (i : Nat) (h : i < a.fields.length) (h' : i < b.fields.length), ∃ s : Bool, q2 a.fields[i].type b.fields[i].type = some s ∧ q1 a.fields[i] b.fields[i] = some ((a.fields[i].name.toList == b.fields[i].name.toList) && ((a.fields[i].need == b.fields[i].need) && s))) :
    ∀ (kk i : Nat), i ≤ a.fields.length → a.fields.length - i < kk →
      ∃ r : Bool, slices_EqualFunc_api_Field_api_Field_api_Field_api_Field_s9_l1 q1 a.fields b.fields kk (i : Int) = some r ∧ ref1_SameType_l1 q2 a b kk (i : Int) = some r := by
  intro kk
  induction kk with
  | zero => intro i _ h; omega
  | succ kk ih =>
    intro i hi hk
    rw [slices_EqualFunc_api_Field_api_Field_api_Field_api_Field_s9_l1, ref1_SameType_l1]
    by_cases h : i = a.fields.length
    · rw [show decide ((i : Int) < (a.fields.length : Int)) = false by simp [h]]
      exact ⟨true, rfl, rfl⟩
    · have h1 : i < a.fields.length := by omega
      have h2 : i < b.fields.length := by omega
      obtain ⟨s, g1, g2⟩ := hq i h1 h2
      rw [dec_lt h1, ift_true, ift_true, at_nat h1, at_nat h2]
      simp only [bnd_eq, g1, g2, ref1_SameType_j2]
      rw [wrap_succ h1 ho]
      obtain ⟨r, k1, k2⟩ := ih (i + 1) (by omega) (by omega)
      cases (a.fields[i].name.toList == b.fields[i].name.toList) with
      | false => exact ⟨false, rfl, rfl⟩
      | true =>
        cases (a.fields[i].need == b.fields[i].need) with
        | false => exact ⟨false, rfl, rfl⟩
        | true =>
          cases s with
          | false => exact ⟨false, rfl, rfl⟩
          | true => exact ⟨r, k1, k2⟩

theorem sameType_eq : ∀ (N k k' : Nat) (a b : GType), sizeT a ≤ N → 3 * N + 3 ≤ k → N + 1 ≤ k' → sizeT a < 1000000000 → ∃ r : Bool, value_SameType k a b = some r ∧ ref1_SameType k' a b = some r := by
  intro N
  induction N with
  | zero => intro k k' a b h; have := sizeT_eq a; omega
  | succ N ih =>
    intro k k' a b hN hk hk' hs
    obtain ⟨k, rfl⟩ : ∃ x, k = x + 3 := ⟨k - 3, by omega⟩
    obtain ⟨k', rfl⟩ : ∃ x, k' = x + 1 := ⟨k' - 1, by omega⟩
    have hsz := sizeT_eq a
    have hfl := sizeF_len a.fields
    rw [value_SameType, ref1_SameType, slices_EqualFunc_api_Field_api_Field_api_Field_api_Field_s9]
    simp only [value_SameType_j1, ref1_SameType_j1]
    by_cases h1 : a.kind = b.kind
    · by_cases h2 : a.scale = b.scale
      · by_cases h3 : a.fields.length = b.fields.length
        · have hqs : ∀ (i : Nat) (h : i < a.fields.length) (h' : i < b.fields.length), ∃ s : Bool, ref1_SameType k' a.fields[i].type b.fields[i].type = some s ∧ value_SameType_1 (k + 1) a.fields[i] b.fields[i] = some ((a.fields[i].name.toList == b.fields[i].name.toList) && ((a.fields[i].need == b.fields[i].need) && s)) := by
            intro i h h'
            have m1 := sizeF_mem (List.getElem_mem h)
            have m2 := sizeFd_eq a.fields[i]
            obtain ⟨s, e1, e2⟩ := ih k k' a.fields[i].type b.fields[i].type (by omega) (by omega) (by omega) (by omega)
            refine ⟨s, e2, ?_⟩
            rw [value_SameType_1]
            simp only [e1, bnd_eq, value_SameType_1_j1]
            cases (a.fields[i].name.toList == b.fields[i].name.toList) <;> cases (a.fields[i].need == b.fields[i].need) <;> rfl
          obtain ⟨r, g1, g2⟩ := sameType_loop (by omega) h3 _ _ hqs BIG 0 (Nat.zero_le _) (by rw [big_val]; omega)
          have g1 : slices_EqualFunc_api_Field_api_Field_api_Field_api_Field_s9_l1 (value_SameType_1 (k + 1)) a.fields b.fields BIG (0 : Int) = some r := g1
          have g2 : ref1_SameType_l1 (ref1_SameType k') a b BIG (0 : Int) = some r := g2
          have e3 : ((a.fields.length : Int) != (b.fields.length : Int)) = false := by simp [h3]
          refine ⟨r, ?_, ?_⟩
          · simp [h1, h2, e3, ift_ite, g1, bnd_eq]
          · simp [h1, h2, e3, ift_ite, g2, bnd_eq]
        · have e3 : ((a.fields.length : Int) != (b.fields.length : Int)) = true := by simp; omega
          exact ⟨false, by simp [h1, h2, e3, ift_ite, bnd_eq], by simp [h1, h2, e3, ift_ite, bnd_eq]⟩
      · exact ⟨false, by simp [h1, h2, ift_ite, bnd_eq], by simp [h1, h2, ift_ite, bnd_eq]⟩
    · exact ⟨false, by simp [h1, ift_ite, bnd_eq], by simp [h1, ift_ite, bnd_eq]⟩

end Go.Proofs.Ytdkmclmdemngfaa
