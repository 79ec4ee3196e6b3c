/- CheckSchema: both answers are the same. -/
import Derived.Test.YtdkmclmdemngfaaLawTyp5
namespace Go.Proofs.Ytdkmclmdemngfaa
open Go Go.SX Go.SX.Cal
set_option linter.unusedVariables false
set_option linter.unusedSimpArgs false

mutual
def idsT : GType → List Int
  | ⟨_, _, fs⟩ => idsFs fs
def idsFs : List (FieldP GType) → List Int
  | [] => []
  | f :: l => idsFd f ++ idsFs l
def idsFd : FieldP GType → List Int
  | ⟨i, _, _, t⟩ => i :: idsT t
end

theorem idsT_eq : ∀ t : GType, idsT t = idsFs t.fields
  | ⟨_, _, _⟩ => by simp only [idsT]
theorem idsFd_eq : ∀ f : GField, idsFd f = f.id :: idsFs f.type.fields
  | ⟨_, _, _, t⟩ => by simp only [idsFd, idsT_eq]

theorem idsFs_drop {l : List GField} {i : Nat} (h : i < l.length) : idsFs (l.drop i) = idsFd l[i] ++ idsFs (l.drop (i + 1)) := by
  rw [List.drop_eq_getElem_cons h]; simp only [idsFs]

mutual
theorem idsT_len : ∀ t : GType, (idsT t).length ≤ sizeT t
  | ⟨_, _, fs⟩ => by simp only [idsT, sizeT]; have := idsFs_len fs; omega
theorem idsFs_len : ∀ l : List (FieldP GType), (idsFs l).length ≤ sizeF l
  | [] => by simp [idsFs]
  | f :: l => by
    simp only [idsFs, sizeF, List.length_append]
    have := idsFd_len f
    have := idsFs_len l
    omega
theorem idsFd_len : ∀ f : FieldP GType, (idsFd f).length ≤ sizeFd f
  | ⟨i, n, q, t⟩ => by
    simp only [idsFd, sizeFd, List.length_cons]
    have := idsT_len t
    omega
end

theorem ids_eq : ∀ (N k : Nat) (fs : List GField), sizeF fs ≤ N → N < k → sizeF fs < 1000000000 → ref1_Ids k fs = some (idsFs fs) := by
  intro N
  induction N with
  | zero =>
    intro k fs h hk _
    obtain ⟨k, rfl⟩ : ∃ x, k = x + 1 := ⟨k - 1, by omega⟩
    have hl := sizeF_len fs
    have : fs = [] := List.eq_nil_of_length_eq_zero (by omega)
    subst this
    rw [ref1_Ids, big_succ, ref1_Ids_l1]
    rfl
  | succ N ih =>
    intro k fs hN hk hs
    obtain ⟨k, rfl⟩ : ∃ x, k = x + 1 := ⟨k - 1, by omega⟩
    have hl := sizeF_len fs
    rw [ref1_Ids]
    have loop : ∀ (kk i : Nat) (acc : List Int), i ≤ fs.length → fs.length - i < kk → acc.length + sizeF (fs.drop i) ≤ sizeF fs → ref1_Ids_l1 (ref1_Ids k) fs kk acc (i : Int) = some (acc ++ idsFs (fs.drop i)) := by
      intro kk
      induction kk with
      | zero => intro i acc _ h; omega
      | succ kk ihk =>
        intro i acc hi hk2 hacc
        rw [ref1_Ids_l1]
        by_cases h : i = fs.length
        · subst h
          simp only [Int.lt_irrefl, decide_false, ift_false, ref1_Ids_j1, List.drop_length, idsFs, List.append_nil]
        · have h1 : i < fs.length := by omega
          have m1 := sizeF_mem (List.getElem_mem h1)
          have m2 := sizeFd_eq fs[i]
          have m3 := sizeT_eq fs[i].type
          have m4 := sizeF_drop h1
          have m5 := idsFs_len fs[i].type.fields
          rw [dec_lt h1, ift_true, at_nat h1, bnd_eq, grd_pos (by omega), ih k _ (by omega) (by omega) (by omega), bnd_eq, grd_pos (by simp; omega), wrap_succ h1 (by omega)]
          rw [ihk (i + 1) _ (by omega) (by omega) (by simp; omega), idsFs_drop h1, idsFd_eq]
          simp
    have := loop BIG 0 [] (Nat.zero_le _) (by rw [big_val]; omega) (by simp)
    simpa using this

/-- one id -/
def stp (x : Int) (m : List (Int × Int)) : Int × List (Int × Int) :=
  if x < 1 then (3, m) else
    let y := IntKind.i64.wrap ((mget (kInt .i64) m x).getD 0 + 1)
    if 1 < (mget (kInt .i64) (mset (kInt .i64) m x y) x).getD 0 then (5, mset (kInt .i64) m x y) else (0, mset (kInt .i64) m x y)

def scan : List Int → List (Int × Int) → Int × List (Int × Int)
  | [], m => (0, m)
  | x :: l, m => if (stp x m).1 ≠ 0 then stp x m else scan l (stp x m).2

theorem scan_app : ∀ (a b : List Int) (m : List (Int × Int)), scan (a ++ b) m = if (scan a m).1 ≠ 0 then scan a m else scan b (scan a m).2
  | [], b, m => by simp [scan]
  | x :: a, b, m => by
    simp only [List.cons_append, scan]
    by_cases h : (stp x m).1 = 0
    · simp only [h, ne_eq, not_true, if_false]
      exact scan_app a b _
    · simp [h]

theorem schema1_eq (f : GField) (m : List (Int × Int)) : value_CheckSchema_1 f m = some (stp f.id m) := by
  unfold value_CheckSchema_1 stp
  simp only [bnd_eq, ift_ite, decide_eq_true_eq]
  split
  · rfl
  · split <;> rfl

theorem walk_eq : ∀ (N k : Nat) (fs : List GField) (m : List (Int × Int)), sizeF fs ≤ N → N < k → sizeF fs < 1000000000 → value_Walk_s8 k fs m = some (scan (idsFs fs) m) := by
  intro N
  induction N with
  | zero =>
    intro k fs m h hk _
    obtain ⟨k, rfl⟩ : ∃ x, k = x + 1 := ⟨k - 1, by omega⟩
    have hl := sizeF_len fs
    have : fs = [] := List.eq_nil_of_length_eq_zero (by omega)
    subst this
    rw [value_Walk_s8, big_succ, value_Walk_s8_l1]
    rfl
  | succ N ih =>
    intro k fs m hN hk hs
    obtain ⟨k, rfl⟩ : ∃ x, k = x + 1 := ⟨k - 1, by omega⟩
    have hl := sizeF_len fs
    rw [value_Walk_s8]
    have loop : ∀ (kk i : Nat) (m : List (Int × Int)), i ≤ fs.length → fs.length - i < kk → value_Walk_s8_l1 (value_Walk_s8 k) fs kk m (i : Int) = some (scan (idsFs (fs.drop i)) m) := by
      intro kk
      induction kk with
      | zero => intro i m _ h; omega
      | succ kk ihk =>
        intro i m hi hk2
        rw [value_Walk_s8_l1]
        by_cases h : i = fs.length
        · subst h
          simp only [Int.lt_irrefl, decide_false, ift_false, value_Walk_s8_j1, List.drop_length, idsFs, scan]
        · have h1 : i < fs.length := by omega
          have m1 := sizeF_mem (List.getElem_mem h1)
          have m2 := sizeFd_eq fs[i]
          have m3 := sizeT_eq fs[i].type
          rw [dec_lt h1, ift_true, at_nat h1, bnd_eq, schema1_eq, bnd_eq, wrap_succ h1 (by omega), idsFs_drop h1, idsFd_eq, List.cons_append, scan, ih k _ _ (by omega) (by omega) (by omega)]
          simp only [bnd_eq, ift_ite]
          by_cases h0 : (stp fs[i].id m).1 = 0
          · simp only [h0, bne_self_eq_false, Bool.false_eq_true, if_false, ne_eq, not_true, scan_app]
            by_cases h2 : (scan (idsFs fs[i].type.fields) (stp fs[i].id m).2).1 = 0
            · simp only [h2, bne_self_eq_false, Bool.false_eq_true, if_false, not_true]
              exact ihk (i + 1) _ (by omega) (by omega)
            · simp [h2]
          · simp [h0]
    have := loop BIG 0 m (Nat.zero_le _) (by rw [big_val]; omega)
    simpa using this

end Go.Proofs.Ytdkmclmdemngfaa
