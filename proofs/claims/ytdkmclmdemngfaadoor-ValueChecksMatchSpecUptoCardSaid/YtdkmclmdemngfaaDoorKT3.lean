/- The check of types and the common type, in plain terms. -/
import Derived.Test.YtdkmclmdemngfaaDoorKT2
namespace Go.Proofs.YtdkmclmdemngfaaDoor
open Go Go.SX Go.SX.Cal
set_option linter.unusedVariables false
set_option linter.unusedSimpArgs false

/-- what a checked type is, as far as the common type asks -/
inductive V : GType → Prop where
  | mk (t : GType) (h1 : shp t = 0) (h2 : ∀ f, f ∈ t.fields → V f.type) : V t

theorem leafV (t : GType) : value_leaf t = some (decide (t.kind ≠ 6 ∧ t.kind ≠ 7)) := by
  unfold value_leaf value_leaf_j1
  by_cases h6 : t.kind = 6 <;> by_cases h7 : t.kind = 7 <;> simp [h6, h7, ift_ite]

theorem leafR (k : Int) : ref1_Leaf k = some (decide (k ≠ 6 ∧ k ≠ 7)) := by
  unfold ref1_Leaf ref1_Leaf_j1
  by_cases h6 : k = 6 <;> by_cases h7 : k = 7 <;> simp [h6, h7, ift_ite]

theorem checkJ2 {t : GType} (ho : FsOk t.fields) (q : GType → Int → GChecker → Option (Int × GChecker)) (l z : Int) :
    value_checker_check_j2 q t l z = if shp t ≠ 0 then some (shp t, ⟨z⟩) else value_checker_check_l1 q t l BIG z 0 := by
  have hj4 : ∀ x, value_checker_check_j4 q t l z x = if x = true then some (1, ⟨z⟩) else if vf t ≠ 0 then some (vf t, ⟨z⟩) else value_checker_check_l1 q t l BIG z 0 := by
    intro x
    unfold value_checker_check_j4
    rw [vFields ho]
    cases x <;> simp [ift_ite, bnd_eq]
  unfold value_checker_check_j2 value_checker_check_j3 shp
  simp only [ift_ite, hj4]
  by_cases a1 : t.kind < 1
  · simp [a1]
  · by_cases a2 : 7 < t.kind
    · simp [a1, a2]
    · simp only [a1, a2, decide_false, or_self, if_false, Bool.false_eq_true]
      unfold scBad
      by_cases b0 : t.scale = 0
      · simp [b0]
      · by_cases h3 : t.kind = 3
        · by_cases b1 : t.scale < 0
          · simp [b0, h3, b1]
          · by_cases b2 : 12 < t.scale
            · simp [b0, h3, b1, b2]
            · simp [b0, h3, b1, b2]
        · simp [b0, h3]

theorem checkR1 {t : GType} (ho : FsOk t.fields) (q : GType → Int → Int → Option (Int × Int)) (l z : Int) :
    ref1_checkType_j1 q t l z = if shp t ≠ 0 then some (shp t, z) else ref1_checkType_l1 q t l BIG z 0 := by
  unfold ref1_checkType_j1
  rw [rShape ho]
  simp [ift_ite, bnd_eq]

theorem V_of {t : GType} (h : shp t = 0) (hf : ∀ f ∈ t.fields, V f.type) : V t := .mk t h hf


theorem check_loop {t : GType} (ho : FsOk t.fields) (l : Int) (hl0 : -10 ≤ l) (hl1 : l ≤ 10) (q1 : GType → Int → GChecker → Option (Int × GChecker)) (q2 : GType → Int → Int → Option (Int × Int))
    (hq : ∀ f ∈ t.fields, ∀ n : Int, 0 ≤ n → n ≤ 40 → ∃ e m, q1 f.type (l + 1) ⟨n⟩ = some (e, ⟨m⟩) ∧ q2 f.type (l + 1) n = some (e, m) ∧ 0 ≤ m ∧ m ≤ 40 ∧ (e = 0 → V f.type)) :
    ∀ (kk i : Nat) (n : Int), i ≤ t.fields.length → t.fields.length - i < kk → 0 ≤ n → n ≤ 40 →
      ∃ e m, value_checker_check_l1 q1 t l kk n (i : Int) = some (e, ⟨m⟩) ∧ ref1_checkType_l1 q2 t l kk n (i : Int) = some (e, m) ∧ 0 ≤ m ∧ m ≤ 40 ∧ (e = 0 → ∀ j, i ≤ j → ∀ h : j < t.fields.length, V t.fields[j].type) := by
  intro kk
  induction kk with
  | zero => intro i n _ h; omega
  | succ kk ih =>
    intro i n hi hk n0 n1
    rw [value_checker_check_l1, ref1_checkType_l1]
    by_cases h : i = t.fields.length
    · subst h
      simp only [Int.lt_irrefl, decide_false, ift_false]
      exact ⟨0, n, rfl, rfl, n0, n1, fun _ j h1 h2 => by omega⟩
    · have hlt : i < t.fields.length := by omega
      rw [dec_lt hlt, ift_true, ift_true, at_nat hlt, bnd_eq, bnd_eq, w64 (x := l + 1) (by omega) (by omega), wrap_succ hlt ho.len]
      obtain ⟨e, m, h1, h2, h3, h4, h5⟩ := hq _ (List.getElem_mem hlt) n n0 n1
      rw [h1, h2]
      simp only [bnd_eq, ift_ite]
      by_cases he : e = 0
      · obtain ⟨e', m', g1, g2, g3, g4, g5⟩ := ih (i + 1) m (by omega) (by omega) h3 h4
        refine ⟨e', m', by simpa [he] using g1, by simpa [he] using g2, g3, g4, fun h0 j hj hjl => ?_⟩
        by_cases hji : j = i
        · subst hji; exact h5 he
        · exact g5 h0 j (by omega) hjl
      · exact ⟨e, m, by simp [he], by simp [he], h3, h4, fun h0 => absurd h0 he⟩

theorem check_eq : ∀ (d k : Nat) (t : GType) (l n : Int), l = 5 - d → d ≤ 5 → d < k → sizeT t < 1000000000 → 0 ≤ n → n ≤ 40 →
    ∃ e m, value_checker_check k t l ⟨n⟩ = some (e, ⟨m⟩) ∧ ref1_checkType k t l n = some (e, m) ∧ 0 ≤ m ∧ m ≤ 40 ∧ (e = 0 → V t) := by
  intro d
  induction d with
  | zero =>
    intro k t l n hl _ hk hs n0 n1
    obtain ⟨k, rfl⟩ : ∃ k', k = k' + 1 := ⟨k - 1, by omega⟩
    have hl4 : (4 : Int) < l := by omega
    rw [value_checker_check, ref1_checkType]
    simp only [hl4, decide_true, ift_true, value_checker_check_j1]
    exact ⟨7, n, rfl, rfl, n0, n1, fun h => by omega⟩
  | succ d ih =>
    intro k t l n hl hd hk hs n0 n1
    obtain ⟨k, rfl⟩ : ∃ k', k = k' + 1 := ⟨k - 1, by omega⟩
    have hl4 : ¬ (4 : Int) < l := by omega
    have hsz := sizeT_eq t
    have ho : FsOk t.fields := fsOk_of (by omega)
    have hq : ∀ f ∈ t.fields, ∀ n : Int, 0 ≤ n → n ≤ 40 → ∃ e m, value_checker_check k f.type (l + 1) ⟨n⟩ = some (e, ⟨m⟩) ∧ ref1_checkType k f.type (l + 1) n = some (e, m) ∧ 0 ≤ m ∧ m ≤ 40 ∧ (e = 0 → V f.type) := by
      intro f hf n n0 n1
      have h1 := sizeF_mem hf
      have h2 := sizeFd_eq f
      exact ih k f.type (l + 1) n (by omega) (by omega) (by omega) (by omega) n0 n1
    have main : ∀ z : Int, 0 ≤ z → z ≤ 40 → ∃ e m, value_checker_check_j2 (value_checker_check k) t l z = some (e, ⟨m⟩) ∧ ref1_checkType_j1 (ref1_checkType k) t l z = some (e, m) ∧ 0 ≤ m ∧ m ≤ 40 ∧ (e = 0 → V t) := by
      intro z z0 z1
      rw [checkJ2 ho, checkR1 ho]
      by_cases hsh : shp t = 0
      · obtain ⟨e, m, h1, h2, h3, h4, h5⟩ := check_loop ho l (by omega) (by omega) _ _ hq BIG 0 z (Nat.zero_le _) (by rw [big_val]; have := ho.len; omega) z0 z1
        refine ⟨e, m, by simpa [hsh] using h1, by simpa [hsh] using h2, h3, h4, fun he => V_of hsh (fun f hf => ?_)⟩
        obtain ⟨j, hj, rfl⟩ := List.getElem_of_mem hf
        exact h5 he j (Nat.zero_le _) hj
      · exact ⟨shp t, z, by simp [hsh], by simp [hsh], z0, z1, fun h => absurd h hsh⟩
    rw [value_checker_check, ref1_checkType]
    simp only [hl4, decide_false, ift_false, leafV, leafR, bnd_eq, value_checker_check_j1]
    by_cases hleaf : t.kind ≠ 6 ∧ t.kind ≠ 7
    · simp only [hleaf, ne_eq, not_false_eq_true, and_self, decide_true, ift_true]
      by_cases h40 : n = 40
      · simp only [h40, beq_self_eq_true, ift_true]
        exact ⟨7, 40, rfl, rfl, by omega, by omega, fun h => by omega⟩
      · have : (n == 40) = false := by simpa using h40
        simp only [this, ift_false]
        rw [w64 (x := n + 1) (by omega) (by omega)]
        exact main (n + 1) (by omega) (by omega)
    · simp only [hleaf, decide_false, ift_false]
      exact main n n0 n1

theorem checkType_eq (t : GType) (hs : sizeT t < 1000000000) : ∃ e, value_CheckType t = some e ∧ ref1_CheckType t = some e ∧ (e = 0 → V t) := by
  obtain ⟨e, m, h1, h2, h3, h4, h5⟩ := check_eq 4 BIG t 1 0 (by omega) (by omega) (by rw [big_val]; omega) hs (by omega) (by omega)
  refine ⟨e, ?_, ?_, h5⟩
  · unfold value_CheckType; rw [h1]; rfl
  · unfold ref1_CheckType; rw [h2]; rfl

end Go.Proofs.YtdkmclmdemngfaaDoor
