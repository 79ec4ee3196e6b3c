/- The fields of a type, in plain terms. -/
import Derived.Test.YtdkmclmdemngfaaDoorKT1
namespace Go.Proofs.YtdkmclmdemngfaaDoor
open Go Go.SX Go.SX.Cal
set_option linter.unusedVariables false
set_option linter.unusedSimpArgs false

mutual
def sizeT : GType → Nat
  | ⟨_, _, fs⟩ => sizeF fs + 1
def sizeF : List (FieldP GType) → Nat
  | [] => 0
  | f :: l => sizeFd f + sizeF l
def sizeFd : FieldP GType → Nat
  | ⟨_, n, _, t⟩ => n.size + sizeT t + 1
end

theorem sizeF_mem : ∀ {l : List GField} {x : GField}, x ∈ l → sizeFd x ≤ sizeF l
  | [], _, h => by cases h
  | y :: l, x, h => by
    simp only [sizeF]
    rcases List.mem_cons.1 h with rfl | h
    · omega
    · have := sizeF_mem h; omega

theorem sizeFd_eq : ∀ x : GField, sizeFd x = x.name.size + sizeT x.type + 1
  | ⟨_, _, _, _⟩ => by simp only [sizeFd]

theorem sizeT_eq : ∀ x : GType, sizeT x = sizeF x.fields + 1
  | ⟨_, _, _⟩ => by simp only [sizeT]

theorem sizeF_len : ∀ l : List GField, l.length ≤ sizeF l
  | [] => by simp [sizeF]
  | x :: l => by
    have := sizeF_len l
    have := sizeFd_eq x
    simp only [sizeF, List.length_cons]; omega

theorem wrap_succ {i n : Nat} (h : i < n) (hn : n < 1000000000) : IntKind.i64.wrap ((i : Int) + 1) = ((i + 1 : Nat) : Int) := by rw [w64 (by omega) (by omega)]; omega

theorem at_nat {α : Type} {xs : List α} {i : Nat} (h : i < xs.length) : at? xs (i : Int) = some xs[i] := by unfold at?; simp [h]

theorem dec_lt {i n : Nat} (h : i < n) : decide ((i : Int) < (n : Int)) = true := by simp [h]

/-- the name of the field at i -/
def fnm (fs : List GField) (i : Nat) : ByteArray := (fs[i]?.map (·.name)).getD ByteArray.empty

theorem fnm_at {fs : List GField} {i : Nat} (h : i < fs.length) : fnm fs i = fs[i].name := by simp [fnm, h]

def noName (fs : List GField) (i : Nat) : Bool := !isName (fnm fs i)
def eqN (fs : List GField) (i j : Nat) : Bool := (fnm fs j).toList == (fnm fs i).toList
def twin (fs : List GField) (i : Nat) : Bool := (first (eqN fs i) 0 i).isSome
def badN (fs : List GField) : Bool := (first (noName fs) 0 fs.length).isSome
def dupN (fs : List GField) : Bool := (first (twin fs) 0 fs.length).isSome

structure FsOk (fs : List GField) : Prop where
  len : fs.length < 1000000000
  nam : ∀ f ∈ fs, f.name.size < 1000000000

theorem fsOk_of {fs : List GField} (h : sizeF fs < 1000000000) : FsOk fs :=
  ⟨by have := sizeF_len fs; omega, fun f hf => by have := sizeF_mem hf; have := sizeFd_eq f; omega⟩

theorem eta_f : ∀ f : GField, FieldP.mk f.id f.name f.need (GType.mk f.type.kind f.type.scale f.type.fields) = f
  | ⟨_, _, _, ⟨_, _, _⟩⟩ => rfl
theorem eta_t : ∀ t : GType, GType.mk t.kind t.scale t.fields = t
  | ⟨_, _, _⟩ => rfl

theorem contains1 {fs : List GField} (ho : FsOk fs) : slices_ContainsFunc_api_Field_api_Field_of_value_fields_1 fs = some (badN fs) := by
  have hl := search (f := fun k i => slices_IndexFunc_api_Field_api_Field_of_value_fields_1_l1 fs k (i : Int)) (n := fs.length) (P := noName fs) (A := fun i => some (i : Int)) (B := some (-1)) (fun k i hi => by
      show slices_IndexFunc_api_Field_api_Field_of_value_fields_1_l1 fs (k + 1) (i : Int) = _
      rw [slices_IndexFunc_api_Field_api_Field_of_value_fields_1_l1, dec_lt hi, ift_true, at_nat hi, bnd_eq, value_fields_1, vName _ (ho.nam _ (List.getElem_mem hi)), wrap_succ hi ho.len]
      simp only [bnd_eq, ift_ite, noName, fnm_at hi])
    (fun k => by rw [slices_IndexFunc_api_Field_api_Field_of_value_fields_1_l1]; simp only [Int.lt_irrefl, decide_false, ift_false]; rfl) BIG 0 (Nat.zero_le _) (by rw [big_val]; have := ho.len; omega)
  have hl : slices_IndexFunc_api_Field_api_Field_of_value_fields_1_l1 fs BIG (0 : Int) = _ := hl
  unfold slices_ContainsFunc_api_Field_api_Field_of_value_fields_1 slices_IndexFunc_api_Field_api_Field_of_value_fields_1
  rw [hl]
  unfold badN
  cases first (noName fs) 0 fs.length with
  | none => rfl
  | some j => simp [bnd_eq]

theorem contains2 {fs : List GField} (ho : FsOk fs) {i : Nat} (hi : i < fs.length) : slices_ContainsFunc_api_Field_api_Field_of_value_fields_2 ((fs.drop (0 : Int).toNat).take ((i : Int).toNat - (0 : Int).toNat)) fs[i] = some (twin fs i, fs[i]) := by
  have ep : (fs.drop (0 : Int).toNat).take ((i : Int).toNat - (0 : Int).toNat) = fs.take i := by simp
  rw [ep]
  have hlen : (fs.take i).length = i := by simp; omega
  have hl := search (f := fun k j => slices_IndexFunc_api_Field_api_Field_of_value_fields_2_l1 (fs.take i) k fs[i].id fs[i].name fs[i].need fs[i].type.kind fs[i].type.scale fs[i].type.fields (j : Int)) (n := i) (P := eqN fs i) (A := fun j => some ((j : Int), fs[i])) (B := some (-1, fs[i])) (fun k j hj => by
      have hj' : j < (fs.take i).length := by rw [hlen]; exact hj
      have hjf : j < fs.length := by omega
      show slices_IndexFunc_api_Field_api_Field_of_value_fields_2_l1 (fs.take i) (k + 1) _ _ _ _ _ _ (j : Int) = _
      rw [slices_IndexFunc_api_Field_api_Field_of_value_fields_2_l1, dec_lt hj', ift_true, at_nat hj', bnd_eq, value_fields_2, wrap_succ hj (by have := ho.len; omega)]
      simp only [bnd_eq, ift_ite, eqN, fnm_at hi, fnm_at hjf, List.getElem_take, eta_f])
    (fun k => by
      show slices_IndexFunc_api_Field_api_Field_of_value_fields_2_l1 (fs.take i) (k + 1) _ _ _ _ _ _ (i : Int) = _
      rw [slices_IndexFunc_api_Field_api_Field_of_value_fields_2_l1]; simp only [hlen, Int.lt_irrefl, decide_false, ift_false, slices_IndexFunc_api_Field_api_Field_of_value_fields_2_j1, eta_f]) BIG 0 (Nat.zero_le _) (by rw [big_val]; have := ho.len; omega)
  have hl : slices_IndexFunc_api_Field_api_Field_of_value_fields_2_l1 (fs.take i) BIG _ _ _ _ _ _ (0 : Int) = _ := hl
  unfold slices_ContainsFunc_api_Field_api_Field_of_value_fields_2 slices_IndexFunc_api_Field_api_Field_of_value_fields_2
  rw [hl]
  unfold twin
  cases first (eqN fs i) 0 i with
  | none => rfl
  | some j => simp [bnd_eq]

theorem fields_loop {t : GType} (ho : FsOk t.fields) : value_fields_l1 t BIG (0 : Int) = some (if dupN t.fields = true then 5 else 0) := by
  have hl := search (f := fun k i => value_fields_l1 t k (i : Int)) (n := t.fields.length) (P := twin t.fields) (A := fun _ => some 5) (B := some 0) (fun k i hi => by
      show value_fields_l1 t (k + 1) (i : Int) = _
      rw [value_fields_l1, dec_lt hi, ift_true, at_nat hi, bnd_eq, grd_pos (by omega), contains2 ho hi, wrap_succ hi ho.len]
      simp only [bnd_eq, ift_ite])
    (fun k => by rw [value_fields_l1]; simp only [Int.lt_irrefl, decide_false, ift_false]; rfl) BIG 0 (Nat.zero_le _) (by rw [big_val]; have := ho.len; omega)
  have hl : value_fields_l1 t BIG (0 : Int) = _ := hl
  rw [hl]
  unfold dupN
  cases first (twin t.fields) 0 t.fields.length <;> rfl

theorem shape_l3 {t : GType} (ho : FsOk t.fields) (rec2 : Int → Option Int) {i : Nat} (hi : i < t.fields.length) : ref1_shape_l3 rec2 t (i : Int) BIG (0 : Int) = if twin t.fields i = true then some 5 else rec2 ((i + 1 : Nat) : Int) := by
  have hl := search (f := fun k j => ref1_shape_l3 rec2 t (i : Int) k (j : Int)) (n := i) (P := eqN t.fields i) (A := fun j => some 5) (B := rec2 ((i + 1 : Nat) : Int)) (fun k j hj => by
      have hjf : j < t.fields.length := by omega
      show ref1_shape_l3 rec2 t (i : Int) (k + 1) (j : Int) = _
      rw [ref1_shape_l3, dec_lt hj, ift_true, at_nat hjf, at_nat hi, wrap_succ hj (by have := ho.len; omega)]
      simp only [bnd_eq, ift_ite, eqN, fnm_at hi, fnm_at hjf])
    (fun k => by
      show ref1_shape_l3 rec2 t (i : Int) (k + 1) (i : Int) = _
      rw [ref1_shape_l3]; simp only [Int.lt_irrefl, decide_false, ift_false, ref1_shape_j5]; rw [wrap_succ hi ho.len]) BIG 0 (Nat.zero_le _) (by rw [big_val]; have := ho.len; omega)
  have hl : ref1_shape_l3 rec2 t (i : Int) BIG (0 : Int) = _ := hl
  rw [hl]
  unfold twin
  cases first (eqN t.fields i) 0 i <;> simp

theorem shape_l2 {t : GType} (ho : FsOk t.fields) : ref1_shape_l2 t BIG (0 : Int) = some (if dupN t.fields = true then 5 else 0) := by
  have hl := search (f := fun k i => ref1_shape_l2 t k (i : Int)) (n := t.fields.length) (P := twin t.fields) (A := fun _ => some 5) (B := some 0) (fun k i hi => by
      show ref1_shape_l2 t (k + 1) (i : Int) = _
      rw [ref1_shape_l2, dec_lt hi, ift_true, shape_l3 ho _ hi])
    (fun k => by rw [ref1_shape_l2]; simp only [Int.lt_irrefl, decide_false, ift_false]; rfl) BIG 0 (Nat.zero_le _) (by rw [big_val]; have := ho.len; omega)
  have hl : ref1_shape_l2 t BIG (0 : Int) = _ := hl
  rw [hl]
  unfold dupN
  cases first (twin t.fields) 0 t.fields.length <;> rfl

theorem shape_l1 {t : GType} (ho : FsOk t.fields) : ref1_shape_l1 t BIG (0 : Int) = some (if badN t.fields = true then 4 else if dupN t.fields = true then 5 else 0) := by
  have hl := search (f := fun k i => ref1_shape_l1 t k (i : Int)) (n := t.fields.length) (P := noName t.fields) (A := fun _ => some 4) (B := some (if dupN t.fields = true then 5 else 0)) (fun k i hi => by
      show ref1_shape_l1 t (k + 1) (i : Int) = _
      rw [ref1_shape_l1, dec_lt hi, ift_true, at_nat hi, bnd_eq, rName _ (ho.nam _ (List.getElem_mem hi)), wrap_succ hi ho.len]
      simp only [bnd_eq, ift_ite, noName, fnm_at hi])
    (fun k => by rw [ref1_shape_l1]; simp only [Int.lt_irrefl, decide_false, ift_false, ref1_shape_j4]; exact shape_l2 ho) BIG 0 (Nat.zero_le _) (by rw [big_val]; have := ho.len; omega)
  have hl : ref1_shape_l1 t BIG (0 : Int) = _ := hl
  rw [hl]
  unfold badN
  cases first (noName t.fields) 0 t.fields.length <;> rfl

/-- what is wrong with the fields -/
def vf (t : GType) : Int :=
  if t.kind = 6 then (if t.fields.length ≠ 1 ∨ (fnm t.fields 0).size ≠ 0 then 1 else 0)
  else if t.kind ≠ 7 then (if 0 < t.fields.length then 1 else 0)
  else if t.fields.length = 0 then 1 else if badN t.fields = true then 4 else if dupN t.fields = true then 5 else 0

def scBad (t : GType) : Prop := t.scale ≠ 0 ∧ (t.kind ≠ 3 ∨ t.scale < 0 ∨ 12 < t.scale)
instance (t : GType) : Decidable (scBad t) := by unfold scBad; infer_instance

/-- what is wrong with a type alone -/
def shp (t : GType) : Int := if t.kind < 1 ∨ 7 < t.kind then 3 else if scBad t then 1 else vf t

theorem vFields {t : GType} (ho : FsOk t.fields) : value_fields t = some (vf t) := by
  unfold value_fields value_fields_j1 vf
  rw [contains1 ho, fields_loop ho]
  simp only [bnd_eq, ift_ite]
  by_cases h6 : t.kind = 6
  · simp only [h6, beq_self_eq_true, if_true]
    by_cases hl : t.fields.length = 1
    · have : (0 : Nat) < t.fields.length := by omega
      rw [show at? t.fields (0 : Int) = some t.fields[0] from at_nat (i := 0) this]
      simp only [hl, bnd_eq, size_zero, fnm_at this]
      by_cases hz : t.fields[0].name.size = 0 <;> simp [hz]
    · simp [hl, show ((t.fields.length : Int) = 1) = False from eq_false (by omega)]
  · by_cases h7 : t.kind = 7
    · simp [h7]
      by_cases hl : t.fields = []
      · simp [hl]
      · simp [hl]
        by_cases hb : badN t.fields = true
        · simp [hb]
        · simp [hb]
    · simp [h6, h7]
      by_cases hl : 0 < t.fields.length
      · simp [hl]
      · simp [hl]

theorem rShape {t : GType} (ho : FsOk t.fields) : ref1_shape t = some (shp t) := by
  have hj3 : ∀ x, ref1_shape_j3 t x = if x = true then some 1 else if t.kind ≠ 7 then some 0 else some (if badN t.fields = true then 4 else if dupN t.fields = true then 5 else 0) := by
    intro x
    unfold ref1_shape_j3
    rw [shape_l1 ho]
    cases x <;> simp [ift_ite]
  have hleaf : ref1_Leaf t.kind = some (decide (t.kind ≠ 6 ∧ t.kind ≠ 7)) := by
    unfold ref1_Leaf ref1_Leaf_j1
    by_cases h6 : t.kind = 6 <;> by_cases h7 : t.kind = 7 <;> simp [h6, h7, ift_ite]
  have hj1 : ∀ x, ref1_shape_j1 t x = if x = true then some 1 else some (vf t) := by
    intro x
    cases x with
    | true => rfl
    | false =>
      unfold ref1_shape_j1 ref1_shape_j2 vf
      rw [hleaf]
      simp only [ift_ite, bnd_eq, hj3]
      by_cases h6 : t.kind = 6
      · simp only [h6, beq_self_eq_true, if_true]
        by_cases hl : t.fields.length = 1
        · have : (0 : Nat) < t.fields.length := by omega
          rw [show at? t.fields (0 : Int) = some t.fields[0] from at_nat (i := 0) this]
          simp only [hl, bnd_eq, size_zero, fnm_at this]
          by_cases hz : t.fields[0].name.size = 0 <;> simp [hz]
        · simp [hl, show ((t.fields.length : Int) = 1) = False from eq_false (by omega)]
      · by_cases h7 : t.kind = 7
        · simp [h7]
          by_cases hl : t.fields = []
          · simp [hl]
          · simp [hl]
        · simp [h6, h7]
          by_cases hl : 0 < t.fields.length
          · simp [hl]
          · simp [hl]
  unfold ref1_shape shp ref1_within ref1_within_j1
  simp only [ift_ite, hj1, bnd_eq]
  by_cases a1 : t.kind < 1
  · simp [a1, show ¬ (1 : Int) ≤ t.kind by omega, bnd_eq]
  · by_cases a2 : 7 < t.kind
    · simp [a2, show (1 : Int) ≤ t.kind by omega, show ¬ t.kind ≤ 7 by omega, bnd_eq]
    · simp only [a1, a2, show (1 : Int) ≤ t.kind by omega, show t.kind ≤ 7 by omega, decide_true, or_self, if_false, if_true, Bool.not_true, bnd_eq]
      unfold scBad
      by_cases h3 : t.kind = 3
      · by_cases b1 : t.scale < 0
        · simp [h3, b1, show ¬ (0 : Int) ≤ t.scale by omega, show t.scale ≠ 0 by omega, bnd_eq]
        · by_cases b2 : 12 < t.scale
          · simp [h3, b1, b2, show (0 : Int) ≤ t.scale by omega, show ¬ t.scale ≤ 12 by omega, show t.scale ≠ 0 by omega, bnd_eq]
          · simp [h3, b1, b2, show (0 : Int) ≤ t.scale by omega, show t.scale ≤ 12 by omega, bnd_eq]
      · by_cases b0 : t.scale = 0 <;> simp [h3, b0]

end Go.Proofs.YtdkmclmdemngfaaDoor
