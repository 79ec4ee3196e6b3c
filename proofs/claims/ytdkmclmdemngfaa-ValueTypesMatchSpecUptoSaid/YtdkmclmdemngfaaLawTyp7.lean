/- CheckSchema, end; the law of types. -/
import Derived.Test.YtdkmclmdemngfaaLawTyp6
namespace Go.Proofs.Ytdkmclmdemngfaa
open Go Go.SX Go.SX.Cal
set_option linter.unusedVariables false
set_option linter.unusedSimpArgs false

abbrev KI : KEnc Int := kInt .i64

theorem mget_set_same : ∀ (m : List (Int × Int)) (k v : Int), mget KI (mset KI m k v) k = some v
  | [], k, v => by simp [mset, mget, kInt]
  | (k', v') :: l, k, v => by
    by_cases h : k = k'
    · simp [mset, mget, kInt, h]
    · have hb : (k == k') = false := by simpa using h
      have := mget_set_same l k v
      simp only [mset, mget, kInt, hb, Bool.false_eq_true, if_false] at this ⊢
      exact this

theorem mget_set_other : ∀ (m : List (Int × Int)) (k v x : Int), x ≠ k → mget KI (mset KI m k v) x = mget KI m x
  | [], k, v, x, hx => by simp [mset, mget, kInt, hx]
  | (k', v') :: l, k, v, x, hx => by
    by_cases h : k = k'
    · subst h
      simp [mset, mget, kInt, hx]
    · have hb : (k == k') = false := by simpa using h
      have := mget_set_other l k v x hx
      simp only [mset, mget, kInt, hb, Bool.false_eq_true, if_false] at this ⊢
      rw [this]

/-- what the map holds after the ids seen -/
def Inv (m : List (Int × Int)) (seen : List Int) : Prop := ∀ x, (mget KI m x).getD 0 = if x ∈ seen then 1 else 0

theorem stp_eq {m : List (Int × Int)} {seen : List Int} (h : Inv m seen) (x : Int) : (stp x m).1 = (if x < 1 then 3 else if x ∈ seen then 5 else 0) ∧ ((stp x m).1 = 0 → Inv (stp x m).2 (seen ++ [x])) := by
  unfold stp
  have hx := h x
  by_cases h1 : x < 1
  · simp [h1]
  · simp only [h1, if_false]
    have e : (mget (kInt .i64) m x).getD 0 = if x ∈ seen then 1 else 0 := hx
    rw [e]
    by_cases h2 : x ∈ seen
    · simp only [h2, if_true]
      rw [show IntKind.i64.wrap (1 + 1) = 2 from w64 (by omega) (by omega)]
      have := mget_set_same m x 2
      simp only [KI] at this
      simp [this]
    · simp only [h2, if_false]
      rw [show IntKind.i64.wrap (0 + 1) = 1 from w64 (by omega) (by omega)]
      have h3 := mget_set_same m x 1
      simp only [KI] at h3
      simp only [h3, Option.getD_some, Int.lt_irrefl, if_false, true_and]
      intro _ y
      by_cases hy : y = x
      · subst hy
        simp [KI, h3]
      · have h4 := mget_set_other m x 1 y hy
        simp only [KI] at h4
        have h5 := h y
        simp only [KI] at h5 ⊢
        rw [h4, h5]
        simp [hy]

theorem schema_l2 (ids : List Int) (hl : ids.length < 1000000000) (rec1 : Int → Option Int) {i : Nat} (hi : i < ids.length) : ref1_CheckSchema_l2 rec1 ids (i : Int) ids[i] BIG (0 : Int) = if ids[i] ∈ ids.take i then some 5 else rec1 ((i + 1 : Nat) : Int) := by
  have hs := search (f := fun k j => ref1_CheckSchema_l2 rec1 ids (i : Int) ids[i] k (j : Int)) (n := i) (P := fun j => ids[j]? == some ids[i]) (A := fun j => some 5) (B := rec1 ((i + 1 : Nat) : Int)) (fun k j hj => by
      have hjf : j < ids.length := by omega
      show ref1_CheckSchema_l2 rec1 ids (i : Int) ids[i] (k + 1) (j : Int) = _
      rw [ref1_CheckSchema_l2, dec_lt hj, ift_true, at_nat hjf, wrap_succ hj (by omega)]
      simp only [bnd_eq, ift_ite, List.getElem?_eq_getElem hjf, Option.some_beq_some])
    (fun k => by
      show ref1_CheckSchema_l2 rec1 ids (i : Int) ids[i] (k + 1) (i : Int) = _
      rw [ref1_CheckSchema_l2]; simp only [Int.lt_irrefl, decide_false, ift_false, ref1_CheckSchema_j1]; rw [wrap_succ hi hl]) BIG 0 (Nat.zero_le _) (by rw [big_val]; omega)
  have hs : ref1_CheckSchema_l2 rec1 ids (i : Int) ids[i] BIG (0 : Int) = _ := hs
  rw [hs]
  cases hf : first (fun j => ids[j]? == some ids[i]) 0 i with
  | none =>
    rw [first_none] at hf
    have : ids[i] ∉ ids.take i := by
      intro hm
      obtain ⟨j, hj, he⟩ := List.getElem_of_mem hm
      have hj' : j < i := by simp at hj; omega
      have := hf j (Nat.zero_le _) hj'
      rw [List.getElem_take] at he
      simp [List.getElem?_eq_getElem (show j < ids.length by omega), he] at this
    simp [this]
  | some j =>
    have : ids[i] ∈ ids.take i := by
      unfold first at hf
      have h1 := List.find?_some hf
      have h2 := List.mem_of_find?_eq_some hf
      rw [List.mem_range'_1] at h2
      have hjl : j < ids.length := by omega
      simp only [List.getElem?_eq_getElem hjl, Option.some_beq_some, beq_iff_eq] at h1
      rw [← h1]
      exact List.mem_iff_getElem.2 ⟨j, by simp; omega, by simp⟩
    simp [this]

theorem schema_loop (ids : List Int) (hl : ids.length < 1000000000) : ∀ (kk i : Nat) (m : List (Int × Int)), i ≤ ids.length → ids.length - i < kk → Inv m (ids.take i) → ref1_CheckSchema_l1 ids kk (i : Int) = some (scan (ids.drop i) m).1 := by
  intro kk
  induction kk with
  | zero => intro i m _ h; omega
  | succ kk ih =>
    intro i m hi hk hm
    rw [ref1_CheckSchema_l1]
    by_cases h : i = ids.length
    · subst h
      simp only [Int.lt_irrefl, decide_false, ift_false, List.drop_length, scan]
      rfl
    · have h1 : i < ids.length := by omega
      rw [dec_lt h1, ift_true, at_nat h1, bnd_eq, schema_l2 ids hl _ h1, List.drop_eq_getElem_cons h1, scan]
      obtain ⟨g1, g2⟩ := stp_eq hm ids[i]
      rw [g1] at g2 ⊢
      simp only [ift_ite, decide_eq_true_eq]
      by_cases h2 : ids[i] < 1
      · simp [h2, g1]
      · by_cases h3 : ids[i] ∈ ids.take i
        · simp [h2, h3, g1]
        · simp only [h2, h3, if_false, ne_eq, not_true]
          simp only [h2, h3, if_false] at g2
          refine ih (i + 1) _ (by omega) (by omega) ?_
          have := g2 trivial
          rwa [List.take_append_getElem h1] at this

theorem schema_eq (fs : List GField) (hs : sizeF fs < 1000000000 - 1) : ∃ e, value_CheckSchema fs = some e ∧ ref1_CheckSchema fs = some e := by
  obtain ⟨e, h1, h2, h3⟩ := checkType_eq ⟨7, 0, fs⟩ (by simp only [sizeT]; omega)
  unfold value_CheckSchema ref1_CheckSchema
  rw [h1, h2]
  simp only [bnd_eq, ift_ite]
  by_cases he : e = 0
  · have w := walk_eq 1000000000 BIG fs [] (by omega) (by rw [big_val]; omega) (by omega)
    have i := ids_eq 1000000000 BIG fs (by omega) (by rw [big_val]; omega) (by omega)
    have hl := idsFs_len fs
    have l := schema_loop (idsFs fs) (by omega) BIG 0 [] (Nat.zero_le _) (by rw [big_val]; omega) (fun x => by simp [mget])
    have l : ref1_CheckSchema_l1 (idsFs fs) BIG (0 : Int) = _ := l
    refine ⟨(scan (idsFs fs) []).1, ?_, ?_⟩
    · simp [he, w, bnd_eq]
    · simp [he, i, bnd_eq, l]
  · exact ⟨e, by simp [he], by simp [he]⟩

theorem law_types (a b : GType) (l : List GField) (ha : sizeT a ≤ 100000000) (hl : sizeF l ≤ 100000000) : law1_ValueTypesMatchSpec a b l = some true := by
  obtain ⟨e1, c1, c2, _⟩ := checkType_eq a (by omega)
  obtain ⟨e2, s1, s2⟩ := schema_eq l (by omega)
  obtain ⟨r, t1, t2⟩ := sameType_eq 100000000 BIG BIG a b ha (by rw [big_val]; omega) (by rw [big_val]; omega) (by omega)
  have z : value_CheckType ⟨0, 0, []⟩ = some 3 := by
    have ho : FsOk (GType.fields ⟨0, 0, []⟩) := ⟨by simp, fun f hf => by simp at hf⟩
    have hs : shp ⟨0, 0, []⟩ = 3 := by simp [shp]
    unfold value_CheckType
    rw [big_succ, value_checker_check]
    simp only [leafV, bnd_eq, value_checker_check_j1]
    have hk : decide ((0 : Int) ≠ 6 ∧ (0 : Int) ≠ 7) = true := by decide
    have h4 : decide ((4 : Int) < 1) = false := by decide
    have h5 : ((0 : Int) == 40) = false := by decide
    simp only [hk, h4, h5, ift_true, ift_false]
    rw [checkJ2 ho, hs]
    rfl
  unfold law1_ValueTypesMatchSpec law1_ValueTypesMatchSpec_j1
  rw [z, c1, c2, s1, s2, t1, t2]
  simp [bnd_eq, ift_ite]

end Go.Proofs.Ytdkmclmdemngfaa
