/- Values of a type, in plain terms; the law of Sound and Check. -/
import Derived.Test.YtdkmclmdemngfaaDoorLS1
namespace Go.Proofs.YtdkmclmdemngfaaDoor
open Go Go.SX Go.SX.Cal Go.Lib
set_option linter.unusedVariables false
set_option linter.unusedSimpArgs false

/-- sound within d levels -/
def Snd (d : Nat) (v : GValue) : Prop := ∃ z, (soundD d v z).1 = true

theorem soundL_mem {f : GValue → Int → Bool × Int} : ∀ {l : List GValue} {z : Int}, (soundL f l z).1 = true → ∀ x ∈ l, ∃ z', (f x z').1 = true
  | [], _, _, x, hx => by cases hx
  | v :: l, z, h, x, hx => by
    simp only [soundL] at h
    by_cases hv : (f v z).1 = true
    · rw [if_pos hv] at h
      rcases List.mem_cons.1 hx with rfl | hx
      · exact ⟨z, hv⟩
      · exact soundL_mem h x hx
    · rw [if_neg hv] at h; cases h

theorem Snd.zero {v : GValue} (h : Snd 0 v) : False := by obtain ⟨z, h⟩ := h; cases h

theorem Snd.succ {d : Nat} {v : GValue} (h : Snd (d + 1) v) : plainOk v = true ∧ ∀ x ∈ v.items, Snd d x := by
  obtain ⟨z, h⟩ := h
  simp only [soundD] at h
  by_cases hc : 256 < cnt v z ∨ plainOk v = false
  · rw [if_pos hc] at h; cases h
  · rw [if_neg hc] at h
    refine ⟨?_, fun x hx => soundL_mem h x hx⟩
    cases hp : plainOk v with
    | true => rfl
    | false => exact absurd (.inr hp) hc

theorem plain_scale {v : GValue} (h : plainOk v = true) (hk : v.kind ≠ 3) : v.scale = 0 := by
  unfold plainOk at h
  simp only at h
  split at h
  · simp at h; exact h.1.2
  · split at h
    · simp at h; exact h.2.1
    · split at h
      · simp at h; exact h.2.1
      · split at h
        · simp at h; exact h.1.2
        · split at h
          · simp at h; exact h.2.1
          · split at h
            · simp at h; exact h.1.2
            · split at h
              · simp at h; exact h.1.2
              · cases h

theorem plain_items {v : GValue} (h : plainOk v = true) (h6 : v.kind ≠ 6) (h7 : v.kind ≠ 7) : v.items = [] := by
  unfold plainOk at h
  simp only at h
  rw [← List.length_eq_zero_iff]
  split at h
  · simp at h; simp [h.2.2]
  · split at h
    · simp at h; simp [h.2.2.2]
    · split at h
      · simp at h; simp [h.2.2.2]
      · split at h
        · simp at h; simp [h.2.2.2]
        · split at h
          · simp at h; simp [h.2.2]
          · split at h
            · simp at h; simp [h.2.2.2]
            · cases h

theorem V.sh {t : GType} (h : V t) : shp t = 0 := by cases h; assumption
theorem V.fs {t : GType} (h : V t) : ∀ f, f ∈ t.fields → V f.type := by cases h; assumption

theorem V.scale {t : GType} (h : V t) (hk : t.kind ≠ 3) : t.scale = 0 := by
  have := h.sh
  unfold shp at this
  split at this
  · cases this
  · by_cases h2 : scBad t
    · rw [if_pos h2] at this; cases this
    · by_cases hs : t.scale = 0
      · exact hs
      · exact absurd ⟨hs, .inl hk⟩ h2

theorem V.list {t : GType} (h : V t) (hk : t.kind = 6) : t.fields.length = 1 := by
  have := h.sh
  unfold shp at this
  split at this
  · cases this
  · by_cases h2 : scBad t
    · rw [if_pos h2] at this; cases this
    · rw [if_neg h2] at this
      unfold vf at this
      rw [if_pos hk] at this
      split at this
      · cases this
      · rename_i h3
        by_cases hl : t.fields.length = 1
        · exact hl
        · exact absurd (.inl hl) h3

def ft (t : GType) (i : Nat) : GType := (t.fields[if t.kind = 6 then 0 else i]?.map (·.type)).getD ⟨0, 0, []⟩
def nd (t : GType) (i : Nat) : Bool := (t.fields[if t.kind = 6 then 0 else i]?.map (·.need)).getD false
def iv (v : GValue) (i : Nat) : GValue := v.items[i]?.getD ⟨0, 0, 0, ByteArray.empty, []⟩

theorem iv_at {v : GValue} {i : Nat} (h : i < v.items.length) : v.items[i] = iv v i := by simp [iv, h]

/-- a sound value is of a right type -/
def ofD : Nat → GType → GValue → Bool
  | 0, _, _ => true
  | d + 1, t, v =>
    if v.kind = 0 then true
    else if v.kind ≠ t.kind then false
    else if v.kind = 3 then v.scale == t.scale
    else if v.kind = 7 ∧ t.fields.length ≠ v.items.length then false
    else (first (fun i => !ofD d (ft t i) (iv v i)) 0 v.items.length).isNone

/-- there is room: a field for every item -/
def Fit (t : GType) (v : GValue) : Prop := ∀ i, i < v.items.length → (if t.kind = 6 then 0 else i) < t.fields.length

theorem fit_of {d : Nat} {t : GType} {v : GValue} (hs : Snd (d + 1) v) (ht : V t) (h : ofD (d + 1) t v = true) : Fit t v ∧ ∀ i, i < v.items.length → ofD d (ft t i) (iv v i) = true := by
  obtain ⟨hp, _⟩ := hs.succ
  by_cases h67 : v.kind = 6 ∨ v.kind = 7
  · simp only [ofD] at h
    rw [if_neg (by omega)] at h
    by_cases hk : v.kind = t.kind
    · rw [if_neg (fun hh => hh hk), if_neg (by omega)] at h
      by_cases hl : v.kind = 7 ∧ t.fields.length ≠ v.items.length
      · rw [if_pos hl] at h; cases h
      · rw [if_neg hl] at h
        have hn := Option.isNone_iff_eq_none.1 h
        rw [first_none] at hn
        refine ⟨fun i hi => ?_, fun i hi => by simpa using hn i (Nat.zero_le _) hi⟩
        by_cases h6 : t.kind = 6
        · rw [if_pos h6, ht.list h6]; omega
        · rw [if_neg h6]
          have : ¬ t.fields.length ≠ v.items.length := fun hh => hl ⟨by omega, hh⟩
          omega
    · rw [if_pos hk] at h; cases h
  · have : v.items = [] := plain_items hp (by omega) (by omega)
    refine ⟨fun i hi => ?_, fun i hi => ?_⟩
    · rw [this] at hi; simp at hi
    · rw [this] at hi; simp at hi

theorem ft_at {t : GType} {i : Nat} (h : (if t.kind = 6 then 0 else i) < t.fields.length) : ∃ f : GField, f ∈ t.fields ∧ t.fields[if t.kind = 6 then 0 else i]? = some f ∧ f.type = ft t i ∧ f.need = nd t i := by
  refine ⟨t.fields[if t.kind = 6 then 0 else i], List.getElem_mem h, List.getElem?_eq_getElem h, ?_, ?_⟩
  · unfold ft; rw [List.getElem?_eq_getElem h]; rfl
  · unfold nd; rw [List.getElem?_eq_getElem h]; rfl

theorem at_some {α : Type} {xs : List α} {i : Nat} {x : α} (h : xs[i]? = some x) : at? xs (i : Int) = some x := by unfold at?; simp [h]

theorem iv_mem {v : GValue} {i : Nat} (h : i < v.items.length) : iv v i ∈ v.items := by rw [← iv_at h]; exact List.getElem_mem h

theorem of_eq : ∀ (d k k' : Nat) (t : GType) (v : GValue), Snd d v → V t → sizeV v < 1000000000 → sizeT t < 1000000000 → 4 * d + 1 ≤ k → d + 1 ≤ k' →
    value_of k t v = some (ofD d t v) ∧ ref1_of k' t v = some (ofD d t v) := by
  intro d
  induction d with
  | zero => intro k k' t v hs; exact hs.zero.elim
  | succ d ih =>
    intro k k' t v hs ht hv hT hk hk'
    obtain ⟨k, rfl⟩ : ∃ q, k = q + 4 := ⟨k - 4, by omega⟩
    obtain ⟨k', rfl⟩ : ∃ q, k' = q + 1 := ⟨k' - 1, by omega⟩
    obtain ⟨hp, hi⟩ := hs.succ
    have hsz := sizeV_eq v
    have hlen := sizeL_len v.items
    have hsT := sizeT_eq t
    have hlF := sizeF_len t.fields
    rw [value_of, ref1_of]
    simp only [ofD, ref1_of_j1]
    by_cases h0 : v.kind = 0
    · simp [h0, ift_ite]
    · by_cases hkk : v.kind = t.kind
      · have sc : v.kind ≠ 3 → v.scale = t.scale := fun h => by rw [plain_scale hp h, ht.scale (by omega)]
        -- the items
        have room : ¬ (v.kind = 7 ∧ t.fields.length ≠ v.items.length) → Fit t v := by
          intro hn i hi
          by_cases h6 : t.kind = 6
          · rw [if_pos h6, ht.list h6]; omega
          · rw [if_neg h6]
            by_cases h7 : v.kind = 7
            · have : ¬ t.fields.length ≠ v.items.length := fun hh => hn ⟨h7, hh⟩
              omega
            · rw [plain_items hp (by omega) h7] at hi; simp at hi
        have sub : Fit t v → ∀ i, i < v.items.length → ∃ f : GField, t.fields[if t.kind = 6 then 0 else i]? = some f ∧ f.type = ft t i ∧ value_of k (ft t i) (iv v i) = some (ofD d (ft t i) (iv v i)) ∧ ref1_of k' (ft t i) (iv v i) = some (ofD d (ft t i) (iv v i)) := by
          intro hf i hi'
          obtain ⟨f, f1, f2, f3, _⟩ := ft_at (hf i hi')
          have m1 := sizeL_mem (iv_mem hi')
          have m2 := sizeF_mem f1
          have m3 := sizeFd_eq f
          rw [f3] at m3
          obtain ⟨a, b⟩ := ih k k' (ft t i) (iv v i) (hi _ (iv_mem hi')) (by rw [← f3]; exact ht.fs f f1) (by omega) (by omega) (by omega) (by omega)
          exact ⟨f, f2, f3, a, b⟩
        have ref : Fit t v → ref1_of_l1 (ref1_of k') t v BIG (0 : Int) = some (first (fun i => !ofD d (ft t i) (iv v i)) 0 v.items.length).isNone := by
          intro hf
          have := search (f := fun k i => ref1_of_l1 (ref1_of k') t v k (i : Int)) (n := v.items.length) (P := fun i => !ofD d (ft t i) (iv v i)) (A := fun _ => some false) (B := some true) (fun kk i hi' => by
            obtain ⟨f, f2, f3, _, f5⟩ := sub hf i hi'
            simp only [ref1_of_l1, dec_lt hi', ift_true, ref1_of_j3]
            have e : ift (t.kind == (6 : Int)) (bnd (at? t.fields (0 : Int)) fun e1 => bnd (at? v.items (i : Int)) fun e2 => bnd (ref1_of k' e1.type e2) fun r1 => ift (!r1) (some false) (ref1_of_l1 (ref1_of k') t v kk (IntKind.i64.wrap ((i : Int) + 1))))
                (bnd (at? t.fields (i : Int)) fun e1 => bnd (at? v.items (i : Int)) fun e2 => bnd (ref1_of k' e1.type e2) fun r1 => ift (!r1) (some false) (ref1_of_l1 (ref1_of k') t v kk (IntKind.i64.wrap ((i : Int) + 1)))) =
                (bnd (at? t.fields ((if t.kind = 6 then 0 else i : Nat) : Int)) fun e1 => bnd (at? v.items (i : Int)) fun e2 => bnd (ref1_of k' e1.type e2) fun r1 => ift (!r1) (some false) (ref1_of_l1 (ref1_of k') t v kk (IntKind.i64.wrap ((i : Int) + 1)))) := by
              by_cases h6 : t.kind = 6 <;> simp [h6, ift_ite]
            rw [e, at_some f2, bnd_some', at_nat hi', bnd_some', f3, iv_at hi', f5, bnd_some', wrap_succ hi' (by omega), ift_ite]) (fun kk => by simp [ref1_of_l1, ift_ite, ref1_of_j4]) BIG 0 (Nat.zero_le _) (by rw [big_val]; omega)
          rw [show ((0 : Nat) : Int) = (0 : Int) from rfl] at this
          rw [this]
          cases first (fun i => !ofD d (ft t i) (iv v i)) 0 v.items.length <;> rfl
        have e0 : (v.kind == (0 : Int)) = false := by simp [h0]
        have e1 : (v.kind != t.kind) = false := by simp [hkk]
        have e2 : ¬ v.kind ≠ t.kind := fun h => h hkk
        simp only [e0, e1, e2, ift_false, h0, if_false]
        by_cases h3 : v.kind = 3
        · have hni : v.items = [] := plain_items hp (by omega) (by omega)
          refine ⟨by simp [h3, ift_ite], ?_⟩
          have hr := ref (fun i hi => by rw [hni] at hi; simp at hi)
          rw [hni] at hr
          simp only [List.length_nil, first_end, Option.isNone_none] at hr
          simp only [h3, if_true, ref1_of_j2]
          by_cases hsc : v.scale = t.scale
          · have : t.kind ≠ 7 := by omega
            simp [hsc, ift_ite, hr, this]
          · simp [hsc, ift_ite]
        · have hsc := sc h3
          have e3 : (v.kind == (3 : Int)) = false := by simp [h3]
          have e4 : (v.scale != t.scale) = false := by simp [hsc]
          simp only [e3, e4, ift_false, h3, if_false]
          by_cases hl : v.kind = 7 ∧ t.fields.length ≠ v.items.length
          · have e6 : (v.kind == (6 : Int)) = false := by simp [hl.1]
            have e7 : (v.kind == (7 : Int)) = true := by simp [hl.1]
            have t7 : (t.kind == (7 : Int)) = true := by rw [← hkk]; exact e7
            have n1 : ((t.fields.length : Int) != (v.items.length : Int)) = true := by simp; omega
            have n2 : ((v.items.length : Int) != (t.fields.length : Int)) = true := by simp; omega
            rw [slices_EqualFunc_api_Field_api_Value_api_Field_api_Value_of_value_of_2]
            simp [e6, e7, t7, n1, n2, hl, ift_true, ift_false, ref1_of_j2, bnd_some']
          · have hf := room hl
            have hr := ref hf
            simp only [hl, if_false]
            refine ⟨?_, ?_⟩
            · by_cases h6 : v.kind = 6
              · have e6 : (v.kind == (6 : Int)) = true := by simp [h6]
                have t6 : t.kind = 6 := by omega
                have := search (f := fun kk i => slices_IndexFunc_api_Value_api_Value_of_value_of_1_l1 (value_of_1_s (k + 1)) v.items t.kind t.scale t.fields kk (i : Int)) (n := v.items.length) (P := fun i => !ofD d (ft t i) (iv v i)) (A := fun i => some (i : Int)) (B := some (-1)) (fun kk i hi' => by
                  obtain ⟨f, f2, f3, f4, _⟩ := sub hf i hi'
                  rw [if_pos t6] at f2
                  simp only [slices_IndexFunc_api_Value_api_Value_of_value_of_1_l1, dec_lt hi', ift_true, at_nat hi', bnd_some', value_of_1_s]
                  rw [show (0 : Int) = ((0 : Nat) : Int) from rfl, at_some f2, bnd_some', f3, iv_at hi', f4, bnd_some', bnd_some', wrap_succ hi' (by omega), ift_ite]) (fun kk => by simp [slices_IndexFunc_api_Value_api_Value_of_value_of_1_l1, ift_ite, slices_IndexFunc_api_Value_api_Value_of_value_of_1_j1]) BIG 0 (Nat.zero_le _) (by rw [big_val]; omega)
                rw [show ((0 : Nat) : Int) = (0 : Int) from rfl] at this
                rw [e6, ift_true, slices_ContainsFunc_api_Value_api_Value_of_value_of_1, slices_IndexFunc_api_Value_api_Value_of_value_of_1, this]
                cases first (fun i => !ofD d (ft t i) (iv v i)) 0 v.items.length <;> simp [bnd_some']
              · have e6 : (v.kind == (6 : Int)) = false := by simp [h6]
                by_cases h7 : v.kind = 7
                · have e7 : (v.kind == (7 : Int)) = true := by simp [h7]
                  have hlen' : t.fields.length = v.items.length := by
                    by_cases hh : t.fields.length = v.items.length
                    · exact hh
                    · exact absurd ⟨h7, hh⟩ hl
                  have n1 : ((t.fields.length : Int) != (v.items.length : Int)) = false := by simp; omega
                  have := search (f := fun kk i => slices_EqualFunc_api_Field_api_Value_api_Field_api_Value_of_value_of_2_l1 (value_of_2 (k + 2)) t.fields v.items kk (i : Int)) (n := v.items.length) (P := fun i => !ofD d (ft t i) (iv v i)) (A := fun _ => some false) (B := some true) (fun kk i hi' => by
                    obtain ⟨f, f2, f3, _, _⟩ := sub hf i hi'
                    obtain ⟨f', f1', f2', f3', _⟩ := ft_at (hf i hi')
                    have m1 := sizeL_mem (iv_mem hi')
                    have m2 := sizeF_mem f1'
                    have m3 := sizeFd_eq f'
                    rw [f3'] at m3
                    have f4 := (ih (k + 1) (d + 1) (ft t i) (iv v i) (hi _ (iv_mem hi')) (by rw [← f3']; exact ht.fs f' f1') (by omega) (by omega) (by omega) (by omega)).1
                    rw [if_neg (by omega)] at f2
                    have hi2 : i < t.fields.length := by omega
                    simp only [slices_EqualFunc_api_Field_api_Value_api_Field_api_Value_of_value_of_2_l1, dec_lt hi2, ift_true, at_some f2, bnd_some', value_of_2]
                    rw [at_nat hi', bnd_some', f3, iv_at hi', f4, bnd_some', bnd_some', wrap_succ hi' (by omega), ift_ite]) (fun kk => by simp [slices_EqualFunc_api_Field_api_Value_api_Field_api_Value_of_value_of_2_l1, ift_ite, slices_EqualFunc_api_Field_api_Value_api_Field_api_Value_of_value_of_2_j1, hlen']) BIG 0 (Nat.zero_le _) (by rw [big_val]; omega)
                  rw [show ((0 : Nat) : Int) = (0 : Int) from rfl] at this
                  rw [e6, e7, ift_false, ift_true, slices_EqualFunc_api_Field_api_Value_api_Field_api_Value_of_value_of_2, n1, ift_false, this]
                  cases first (fun i => !ofD d (ft t i) (iv v i)) 0 v.items.length <;> rfl
                · have e7 : (v.kind == (7 : Int)) = false := by simp [h7]
                  rw [e6, e7, ift_false, ift_false, plain_items hp h6 h7]
                  simp [first_end]
            · have n2 : v.kind = 7 → ((v.items.length : Int) != (t.fields.length : Int)) = false := by
                intro h7
                have : ¬ t.fields.length ≠ v.items.length := fun hh => hl ⟨h7, hh⟩
                simp; omega
              simp only [ref1_of_j2]
              by_cases h7 : v.kind = 7
              · have t7 : (t.kind == (7 : Int)) = true := by simp [← hkk, h7]
                rw [t7, ift_true, n2 h7, ift_false]; exact hr
              · have t7 : (t.kind == (7 : Int)) = false := by simp [← hkk, h7]
                rw [t7, ift_false, ift_false]; exact hr
      · have e0 : (v.kind == (0 : Int)) = false := by simp [h0]
        have e1 : (v.kind != t.kind) = true := by simp [hkk]
        simp [e0, e1, h0, hkk, ift_true, ift_false]

/-- a null where there must be none -/
def lackD : Nat → GType → GValue → Bool
  | 0, _, _ => false
  | d + 1, t, v => (first (fun i => ((iv v i).kind == 0 && nd t i) || lackD d (ft t i) (iv v i)) 0 v.items.length).isSome

theorem lack_eq : ∀ (d k k' : Nat) (t : GType) (v : GValue), Snd d v → V t → ofD d t v = true → sizeV v < 1000000000 → sizeT t < 1000000000 → d + 1 ≤ k → d + 1 ≤ k' →
    value_lacks k t v = some (lackD d t v) ∧ ref1_missing k' t v = some (lackD d t v) := by
  intro d
  induction d with
  | zero => intro k k' t v hs; exact hs.zero.elim
  | succ d ih =>
    intro k k' t v hs ht ho hv hT hk hk'
    obtain ⟨k, rfl⟩ : ∃ q, k = q + 1 := ⟨k - 1, by omega⟩
    obtain ⟨k', rfl⟩ : ∃ q, k' = q + 1 := ⟨k' - 1, by omega⟩
    obtain ⟨hp, hi⟩ := hs.succ
    obtain ⟨hf, hof⟩ := fit_of hs ht ho
    have hsz := sizeV_eq v
    have hlen := sizeL_len v.items
    have hsT := sizeT_eq t
    have sub : ∀ i, i < v.items.length → ∃ f : GField, t.fields[if t.kind = 6 then 0 else i]? = some f ∧ f.type = ft t i ∧ f.need = nd t i ∧ value_lacks k (ft t i) (iv v i) = some (lackD d (ft t i) (iv v i)) ∧ ref1_missing k' (ft t i) (iv v i) = some (lackD d (ft t i) (iv v i)) := by
      intro i hi'
      obtain ⟨f, f1, f2, f3, f4⟩ := ft_at (hf i hi')
      have m1 := sizeL_mem (iv_mem hi')
      have m2 := sizeF_mem f1
      have m3 := sizeFd_eq f
      rw [f3] at m3
      obtain ⟨a, b⟩ := ih k k' (ft t i) (iv v i) (hi _ (iv_mem hi')) (by rw [← f3]; exact ht.fs f f1) (hof i hi') (by omega) (by omega) (by omega) (by omega)
      exact ⟨f, f2, f3, f4, a, b⟩
    rw [value_lacks, ref1_missing]
    simp only [lackD]
    refine ⟨?_, ?_⟩
    · have := search (f := fun kk i => value_lacks_l1 (value_lacks k) t v kk (i : Int)) (n := v.items.length) (P := fun i => ((iv v i).kind == 0 && nd t i) || lackD d (ft t i) (iv v i)) (A := fun _ => some true) (B := some false) (fun kk i hi' => by
        obtain ⟨f, f2, f3, f4, f5, _⟩ := sub i hi'
        have e : value_field t (i : Int) = some f := by
          unfold value_field value_field_j1
          by_cases h6 : t.kind = 6
          · rw [if_pos h6] at f2
            rw [show (0 : Int) = ((0 : Nat) : Int) from rfl, at_some f2]
            simp [h6, ift_ite, bnd_some']
          · rw [if_neg h6] at f2
            rw [at_some f2]
            simp [h6, ift_ite, bnd_some']
        simp only [value_lacks_l1, dec_lt hi', ift_true, at_nat hi', bnd_some', e, value_lacks_j1, f3, f4, iv_at hi', f5, wrap_succ hi' (show v.items.length < 1000000000 by omega)]
        cases (iv v i).kind == 0 <;> cases nd t i <;> cases lackD d (ft t i) (iv v i) <;> rfl) (fun kk => by simp [value_lacks_l1, ift_ite, value_lacks_j2]) BIG 0 (Nat.zero_le _) (by rw [big_val]; omega)
      rw [show ((0 : Nat) : Int) = (0 : Int) from rfl] at this
      rw [this]
      cases first (fun i => ((iv v i).kind == 0 && nd t i) || lackD d (ft t i) (iv v i)) 0 v.items.length <;> rfl
    · have := search (f := fun kk i => ref1_missing_l1 (ref1_missing k') t v kk (i : Int)) (n := v.items.length) (P := fun i => ((iv v i).kind == 0 && nd t i) || lackD d (ft t i) (iv v i)) (A := fun _ => some true) (B := some false) (fun kk i hi' => by
        obtain ⟨f, f2, f3, f4, _, f5⟩ := sub i hi'
        have e : ∀ j : Int, at? t.fields j = some f → ref1_missing_j1 (ref1_missing_l1 (ref1_missing k') t v kk) (ref1_missing k') t v (i : Int) j = if (((iv v i).kind == 0 && nd t i) || lackD d (ft t i) (iv v i)) = true then some true else ref1_missing_l1 (ref1_missing k') t v kk ((i + 1 : Nat) : Int) := by
          intro j hj
          simp only [ref1_missing_j1, ref1_missing_j2, hj, bnd_some', at_nat hi', f3, f4, iv_at hi', f5, wrap_succ hi' (show v.items.length < 1000000000 by omega)]
          cases (iv v i).kind == 0 <;> cases nd t i <;> cases lackD d (ft t i) (iv v i) <;> rfl
        simp only [ref1_missing_l1, dec_lt hi', ift_true]
        by_cases h6 : t.kind = 6
        · rw [if_pos h6] at f2
          have e6 : (t.kind == (6 : Int)) = true := by simp [h6]
          rw [e6, ift_true]
          exact e 0 (at_some f2)
        · rw [if_neg h6] at f2
          have e6 : (t.kind == (6 : Int)) = false := by simp [h6]
          rw [e6, ift_false]
          exact e i (at_some f2)) (fun kk => by simp [ref1_missing_l1, ift_ite, ref1_missing_j3]) BIG 0 (Nat.zero_le _) (by rw [big_val]; omega)
      rw [show ((0 : Nat) : Int) = (0 : Int) from rfl] at this
      rw [this]
      cases first (fun i => ((iv v i).kind == 0 && nd t i) || lackD d (ft t i) (iv v i)) 0 v.items.length <;> rfl

theorem Check_eq (t : GType) (v : GValue) (hv : sizeV v < 1000000000) (hT : sizeT t < 1000000000) : ∃ e, value_Check t v = some e ∧ ref1_Check t v = some e := by
  obtain ⟨e, h1, h2, h3⟩ := checkType_eq t hT
  unfold value_Check ref1_Check
  rw [h1, h2, vSound v hv, rSound v hv]
  simp only [bnd_some']
  by_cases he : e = 0
  · subst he
    have ht := h3 rfl
    cases hs : soundB v with
    | false => exact ⟨1, rfl, rfl⟩
    | true =>
      have hS : Snd 4 v := ⟨0, hs⟩
      obtain ⟨a, b⟩ := of_eq 4 BIG BIG t v hS ht hv hT (by rw [big_val]; omega) (by rw [big_val]; omega)
      rw [a, b]
      cases ho : ofD 4 t v with
      | false => exact ⟨2, rfl, rfl⟩
      | true =>
        obtain ⟨c, d⟩ := lack_eq 4 BIG BIG t v hS ht ho hv hT (by rw [big_val]; omega) (by rw [big_val]; omega)
        rw [c, d]
        cases lackD 4 t v with
        | false => exact ⟨0, rfl, rfl⟩
        | true => exact ⟨9, rfl, rfl⟩
  · have : (e != (0 : Int)) = true := by simp [he]
    rw [this]
    exact ⟨e, rfl, rfl⟩

theorem empty_size : ByteArray.empty.size = 0 := rfl

theorem law_checks (t : GType) (v : GValue) (hT : sizeT t < 1000000000) (hv : sizeV v < 1000000000) : law1_ValueChecksMatchSpec t v = some true := by
  obtain ⟨e, h1, h2⟩ := Check_eq t v hv hT
  have h5 : value_Sound (GValue.mk (2 : Int) 5 (0 : Int) ByteArray.empty []) = some true := by
    rw [vSound _ (by simp [sizeV, sizeL, empty_size])]
    simp [soundB, soundD, cnt, plainOk, soundL, empty_size]
  unfold law1_ValueChecksMatchSpec law1_ValueChecksMatchSpec_j1 law1_number
  rw [h1, h2, vSound v hv, rSound v hv]
  simp only [bnd_some', h5, ift_true, beq_self_eq_true]

end Go.Proofs.YtdkmclmdemngfaaDoor
