/- Compare is a total order. -/
import Derived.Test.YtdkmclmdemngfaaLawOrd3
namespace Go.Proofs.Ytdkmclmdemngfaa
open Go Go.SX Go.SX.Cal
set_option linter.unusedVariables false
set_option linter.unusedSimpArgs false

def Tri (x y z : Int) : Prop := (x ≤ 0 → y ≤ 0 → z ≤ 0 ∧ (z = 0 → x = 0 ∧ y = 0)) ∧ (x = 0 → y = 0 → z = 0)

theorem tri_or {x1 y1 z1 x2 y2 z2 : Int} (h : Tri x1 y1 z1) (k : x1 = 0 → y1 = 0 → Tri x2 y2 z2) : Tri (or' x1 x2) (or' y1 y2) (or' z1 z2) := by
  unfold or'
  by_cases hx : x1 = 0
  · by_cases hy : y1 = 0
    · have hz := h.2 hx hy
      rw [if_neg (by simp [hx]), if_neg (by simp [hy]), if_neg (by simp [hz])]
      exact k hx hy
    · rw [if_neg (by simp [hx]), if_pos hy]
      unfold Tri at *
      by_cases hz : z1 = 0
      · rw [if_neg (by simp [hz])]; omega
      · rw [if_pos hz]; omega
  · rw [if_pos hx]
    unfold Tri at *
    by_cases hy : y1 = 0
    · rw [if_neg (by simp [hy])]
      by_cases hz : z1 = 0
      · rw [if_neg (by simp [hz])]; omega
      · rw [if_pos hz]; omega
    · rw [if_pos hy]
      by_cases hz : z1 = 0
      · rw [if_neg (by simp [hz])]; omega
      · rw [if_pos hz]; omega

theorem tri_c3 (a b d : Int) : Tri (c3 a b) (c3 b d) (c3 a d) := by
  unfold Tri c3
  by_cases h1 : a < b <;> by_cases h2 : b < d <;> by_cases h3 : a < d <;> by_cases h4 : b < a <;> by_cases h5 : d < b <;> by_cases h6 : d < a <;> simp [h1, h2, h3, h4, h5, h6] <;> omega

theorem anti_or {x y x' y' : Int} (h : x = -x') (k : y = -y') : or' x y = -or' x' y' := by
  unfold or'
  by_cases hx : x' = 0
  · have : x = 0 := by omega
    rw [if_neg (by simp [this]), if_neg (by simp [hx])]; exact k
  · have : x ≠ 0 := by omega
    rw [if_pos this, if_pos hx]; exact h

theorem anti_c3 (a b : Int) : c3 a b = -c3 b a := by
  unfold c3
  by_cases h1 : a < b <;> by_cases h2 : b < a <;> simp [h1, h2] <;> omega

theorem bd_or {x y : Int} (h : -1 ≤ x ∧ x ≤ 1) (k : -1 ≤ y ∧ y ≤ 1) : -1 ≤ or' x y ∧ or' x y ≤ 1 := by
  unfold or'; split <;> assumption

theorem bd_c3 (a b : Int) : -1 ≤ c3 a b ∧ c3 a b ≤ 1 := by
  unfold c3; split <;> (try split) <;> omega

/-! ### bytes -/

def cB (l m : List UInt8) : Int := if Op.bytesLess l m = true then -1 else if l = m then 0 else 1

theorem cB_cons (a b : UInt8) (l m : List UInt8) : cB (a :: l) (b :: m) = or' (c3 a.toNat b.toNat) (cB l m) := by
  unfold cB or' c3
  simp only [Op.bytesLess, Bool.or_eq_true, Bool.and_eq_true, decide_eq_true_eq, beq_iff_eq, List.cons.injEq]
  by_cases h1 : a < b
  · have h1' : (a.toNat : Int) < b.toNat := by have := UInt8.lt_iff_toNat_lt.1 h1; omega
    simp [h1, h1']
  · have h1' : ¬ (a.toNat : Int) < b.toNat := fun h => h1 (UInt8.lt_iff_toNat_lt.2 (by omega))
    by_cases h2 : a = b
    · subst h2
      simp
    · have h3 : (b.toNat : Int) < a.toNat := by
        have : a.toNat ≠ b.toNat := fun h => h2 (UInt8.toNat_inj.1 h)
        omega
      simp [h1, h1', h2, h3]

theorem cB_tri : ∀ l m p : List UInt8, Tri (cB l m) (cB m p) (cB l p)
  | [], [], [] => by simp [cB, Op.bytesLess, Tri]
  | [], [], _ :: _ => by simp [cB, Op.bytesLess, Tri]
  | [], _ :: _, [] => by simp [cB, Op.bytesLess, Tri]
  | [], _ :: _, _ :: _ => by
    have e1 : ∀ (a : UInt8) l, cB [] (a :: l) = -1 := fun a l => by simp [cB, Op.bytesLess]
    rw [e1, e1]; unfold Tri; omega
  | _ :: _, [], [] => by simp [cB, Op.bytesLess, Tri]
  | _ :: _, [], _ :: _ => by
    have e1 : ∀ (a : UInt8) l, cB (a :: l) [] = 1 := fun a l => by simp [cB, Op.bytesLess]
    rw [e1]; unfold Tri; omega
  | _ :: _, _ :: _, [] => by
    have e1 : ∀ (a : UInt8) l, cB (a :: l) [] = 1 := fun a l => by simp [cB, Op.bytesLess]
    rw [e1, e1]; unfold Tri; omega
  | a :: l, b :: m, d :: p => by
    rw [cB_cons, cB_cons, cB_cons]
    exact tri_or (tri_c3 _ _ _) (fun _ _ => cB_tri l m p)

theorem cB_anti : ∀ l m : List UInt8, cB l m = -cB m l
  | [], [] => by decide
  | [], _ :: _ => by simp [cB, Op.bytesLess]
  | _ :: _, [] => by simp [cB, Op.bytesLess]
  | a :: l, b :: m => by
    rw [cB_cons, cB_cons]
    exact anti_or (anti_c3 _ _) (cB_anti l m)

theorem cS_eq (s t : ByteArray) : cS s t = cB s.toList t.toList := rfl

theorem cB_bd (l m : List UInt8) : -1 ≤ cB l m ∧ cB l m ≤ 1 := by
  unfold cB; split <;> (try split) <;> omega

/-! ### values -/

mutual
theorem cmpV_anti : ∀ a b : GValue, cmpV a b = -cmpV b a
  | ⟨k, n, sc, s, it⟩, ⟨k', n', sc', s', it'⟩ => by
    have hL := cmpL_anti it it'
    simp only [cmpV]
    by_cases hk : k = k'
    · subst hk
      refine anti_or (anti_c3 _ _) (anti_or (anti_c3 _ _) ?_)
      split
      · rfl
      · exact anti_or (anti_c3 _ _) (anti_or (anti_c3 _ _) (anti_or (anti_c3 _ _) (anti_or (by rw [cS_eq, cS_eq]; exact cB_anti _ _) hL)))
    · have e1 : ∀ y, or' (c3 k k') y = c3 k k' := fun y => by
        unfold or'; rw [if_pos (by unfold c3; split <;> (try split) <;> omega)]
      have e2 : ∀ y, or' (c3 k' k) y = c3 k' k := fun y => by
        unfold or'; rw [if_pos (by unfold c3; split <;> (try split) <;> omega)]
      rw [e1, e2]
      exact anti_or (anti_c3 _ _) (anti_c3 _ _)
theorem cmpL_anti : ∀ l m : List GValue, cmpL l m = -cmpL m l
  | [], [] => by simp [cmpL]
  | [], _ :: _ => by simp [cmpL]
  | _ :: _, [] => by simp [cmpL]
  | x :: l, y :: m => by
    have h1 := cmpV_anti x y
    have h2 := cmpL_anti l m
    simp only [cmpL]
    exact anti_or h1 h2
end

theorem tri_c3_eq {k k' k'' : Int} (h1 : c3 k k' = 0) : k = k' := by
  unfold c3 at h1; split at h1 <;> (try split at h1) <;> omega

mutual
theorem cmpV_tri : ∀ a b d : GValue, Tri (cmpV a b) (cmpV b d) (cmpV a d)
  | ⟨k, n, sc, s, it⟩, ⟨k', n', sc', s', it'⟩, ⟨k'', n'', sc'', s'', it''⟩ => by
    have hL := cmpL_tri it it' it''
    simp only [cmpV]
    refine tri_or (tri_c3 _ _ _) (fun _ _ => tri_or (tri_c3 _ _ _) (fun e1 e2 => ?_))
    have q1 := tri_c3_eq (k'' := 0) e1
    have q2 := tri_c3_eq (k'' := 0) e2
    subst q1; subst q2
    split
    · unfold Tri; omega
    · exact tri_or (tri_c3 _ _ _) (fun _ _ => tri_or (tri_c3 _ _ _) (fun _ _ => tri_or (tri_c3 _ _ _) (fun _ _ => tri_or (by rw [cS_eq, cS_eq, cS_eq]; exact cB_tri _ _ _) (fun _ _ => hL))))
theorem cmpL_tri : ∀ l m p : List GValue, Tri (cmpL l m) (cmpL m p) (cmpL l p)
  | [], [], [] => by simp [cmpL, Tri]
  | [], [], _ :: _ => by simp [cmpL, Tri]
  | [], _ :: _, [] => by simp [cmpL, Tri]
  | [], _ :: _, _ :: _ => by simp only [cmpL]; unfold Tri; omega
  | _ :: _, [], [] => by simp [cmpL, Tri]
  | _ :: _, [], _ :: _ => by simp only [cmpL]; unfold Tri; omega
  | _ :: _, _ :: _, [] => by simp only [cmpL]; unfold Tri; omega
  | x :: l, y :: m, z :: p => by
    have h1 := cmpV_tri x y z
    have h2 := cmpL_tri l m p
    simp only [cmpL]
    exact tri_or h1 (fun _ _ => h2)
end

mutual
theorem cmpV_bd : ∀ a b : GValue, -1 ≤ cmpV a b ∧ cmpV a b ≤ 1
  | ⟨k, n, sc, s, it⟩, ⟨k', n', sc', s', it'⟩ => by
    have hL := cmpL_bd it it'
    simp only [cmpV]
    refine bd_or (bd_c3 _ _) (bd_or (bd_c3 _ _) ?_)
    split
    · omega
    · exact bd_or (bd_c3 _ _) (bd_or (bd_c3 _ _) (bd_or (bd_c3 _ _) (bd_or (by rw [cS_eq]; exact cB_bd _ _) hL)))
theorem cmpL_bd : ∀ l m : List GValue, -1 ≤ cmpL l m ∧ cmpL l m ≤ 1
  | [], [] => by simp [cmpL]
  | [], _ :: _ => by simp [cmpL]
  | _ :: _, [] => by simp [cmpL]
  | x :: l, y :: m => by
    have h1 := cmpV_bd x y
    have h2 := cmpL_bd l m
    simp only [cmpL]
    exact bd_or h1 h2
end

theorem cmpV_refl (a : GValue) : cmpV a a = 0 := by
  have := cmpV_anti a a
  omega

/-- the law -/
theorem law_total (a b d : GValue) (wa : wfV a) (wb : wfV b) (wd : wfV d) (sa : sizeV a ≤ 1048576) (sb : sizeV b ≤ 1048576) : law1_ValueOrderIsTotal a b d = some true := by
  have C : ∀ x y, wfV x → wfV y → sizeV x ≤ 1048576 → value_Compare BIG x y = some (cmpV x y) := fun x y wx wy sx => compare_eq 1048576 x y BIG sx (by omega) wx wy (by rw [big_val]; decide)
  have wz : wfV ⟨0, 0, 0, ByteArray.empty, []⟩ := by simp [wfV, wfL, i64]
  have wo : wfV ⟨2, 1, 0, ByteArray.empty, []⟩ := by simp [wfV, wfL, i64]
  have sz : sizeV ⟨0, 0, 0, ByteArray.empty, []⟩ ≤ 1048576 := by simp [sizeV, sizeL]
  have so : sizeV ⟨2, 1, 0, ByteArray.empty, []⟩ ≤ 1048576 := by simp [sizeV, sizeL]
  have v1 : cmpV ⟨0, 0, 0, ByteArray.empty, []⟩ ⟨2, 1, 0, ByteArray.empty, []⟩ = 1 := by simp [cmpV, nulI, c3, or']
  have v2 : cmpV ⟨2, 1, 0, ByteArray.empty, []⟩ ⟨0, 0, 0, ByteArray.empty, []⟩ = -1 := by simp [cmpV, nulI, c3, or']
  unfold law1_ValueOrderIsTotal
  rw [C a a wa wa sa, C a b wa wb sa, C b a wb wa sb, cmpV_refl]
  simp only [bnd_eq]
  rw [show ((0 : Int) != 0) = false from rfl, ift_false]
  have hb := cmpV_bd b a
  have han := cmpV_anti a b
  rw [w64 (by omega) (by omega), show (cmpV a b != 0 - cmpV b a) = false by rw [bne_eq_false_iff_eq]; omega]
  unfold law1_ValueOrderIsTotal_j1
  rw [ift_false, C a b wa wb sa, C b d wb wd sb, C a d wa wd sa]
  simp only [bnd_eq]
  have last : law1_ValueOrderIsTotal_j2 false = some true := by
    unfold law1_ValueOrderIsTotal_j2 law1_ValueOrderIsTotal_j3
    rw [ift_false, C _ _ wz wo sz, C _ _ wo wz so, v1, v2]
    rfl
  by_cases h1 : cmpV a b ≤ 0
  · rw [show decide (cmpV a b ≤ 0) = true by simpa using h1, ift_true]
    by_cases h2 : cmpV b d ≤ 0
    · rw [show decide (cmpV b d ≤ 0) = true by simpa using h2, ift_true]
      have h3 := ((cmpV_tri a b d).1 h1 h2).1
      rw [show decide (0 < cmpV a d) = false by simp; omega]
      exact last
    · rw [show decide (cmpV b d ≤ 0) = false by simpa using h2, ift_false]
      exact last
  · rw [show decide (cmpV a b ≤ 0) = false by simpa using h1, ift_false]
    exact last

end Go.Proofs.Ytdkmclmdemngfaa
