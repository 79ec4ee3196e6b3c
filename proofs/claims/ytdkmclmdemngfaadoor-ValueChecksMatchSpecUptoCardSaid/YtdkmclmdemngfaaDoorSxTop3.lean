/- SX: readings of values and types. -/
import Derived.Test.YtdkmclmdemngfaaDoorSxTop2
namespace Go.SX
open Go
set_option linter.unusedVariables false

abbrev i64ok (n : Int) : Prop := IntKind.min .i64 ≤ n ∧ n ≤ IntKind.max .i64

/-- a value: kind, number, scale, text, items -/
theorem rdValue {B : Bulk} {P : Program} {wf : GValue → Prop} {sz : GValue → Nat} (tv ti ts tl : TypeId) (hi : P.underlying ti = some (.int .i64)) (hs : P.underlying ts = some .string) (hl : P.underlying tl = some (.slice tv)) (hu : isStruct P tv = true)
    (hL : fieldsOf P tv = [fld P tv 0, fld P tv 1, fld P tv 2, fld P tv 3, fld P tv 4]) (hz : P.cellsOf tv = 5 ∧ P.cellsOf ti = 1 ∧ P.cellsOf ts = 1 ∧ P.cellsOf tl = 1)
    (ht : (fld P tv 0).type = ti ∧ (fld P tv 1).type = ti ∧ (fld P tv 2).type = ti ∧ (fld P tv 3).type = ts ∧ (fld P tv 4).type = tl)
    (ho : (fld P tv 0).offset = 0 ∧ (fld P tv 1).offset = 1 ∧ (fld P tv 2).offset = 2 ∧ (fld P tv 3).offset = 3 ∧ (fld P tv 4).offset = 4)
    (hwf : ∀ k n sc s it, i64ok k → i64ok n → i64ok sc → (∀ x ∈ it, wf x) → wf ⟨k, n, sc, s, it⟩) (hsz : ∀ k n sc s it, sz ⟨k, n, sc, s, it⟩ ≤ s.size + (it.map sz).sum + 6) :
    ∀ N, RdB B P N tv GValue.cells wf sz := by
  obtain ⟨t0, t1, t2, t3, t4⟩ := ht
  obtain ⟨o0, o1, o2, o3, o4⟩ := ho
  obtain ⟨z0, z1, z2, z3⟩ := hz
  intro N
  induction N using Nat.strongRecOn with
  | _ N ih =>
    have I : ∀ (N : Nat) (f : Field), f.type = ti → RdB B P N f.type (fun n : Int => [PV.s (.int .i64 n)]) (fun n => IntKind.min .i64 ≤ n ∧ n ≤ IntKind.max .i64) (fun _ => 1) := fun N f hf => RdB.int (by rw [hf]; exact hi)
    have C : ∀ (f : Field), f.type = ti → ∀ x : Int, ([PV.s (.int .i64 x)] : List PV).length = P.cellsOf f.type := fun f hf x => by rw [hf, z1]; rfl
    refine RdB.structF (α := GValue) (cells := GValue.cells) (wf' := wf) (size := sz) hu hL (by simp [t0, t1, t2, t3, t4, z0, z1, z2, z3]) (fun N' hN' =>
      RdF.cons o0 (C _ t0) (I N' _ t0) (RdF.cons (by rw [o1, t0, z1]) (C _ t1) (I N' _ t1) (RdF.cons (by rw [o2, t0, t1, z1]) (C _ t2) (I N' _ t2)
        (RdF.cons (c1 := fun s : ByteArray => [PV.s (.string s)]) (by rw [o3, t0, t1, t2, z1]) (fun x => by rw [t3, z2]; rfl) (RdB.str (by rw [t3]; exact hs))
          (RdF.cons (c1 := fun xs : List GValue => [PV.ro (xs.map GValue.cells)]) (by rw [o4, t0, t1, t2, t3, z1, z2]) (fun x => by rw [t4, z3]; rfl)
            (RdB.slice (e := tv) (by rw [t4]; exact hl) (fun x => by rw [z0]; exact eValue.hsz x) (by omega) (fun N'' hN'' => ih N'' (by omega))) RdF.nil)))))
      (fun y => (⟨y.1, y.2.1, y.2.2.1, y.2.2.2.1, y.2.2.2.2.1⟩ : GValue)) (fun y => ?_) (fun y h => hwf _ _ _ _ _ h.1 h.2.1 h.2.2.1 h.2.2.2.2.1) (fun y => ?_)
    · simp only [GValue.cells, GValue.lcells_eq]
      rfl
    · have := hsz y.1 y.2.1 y.2.2.1 y.2.2.2.1 y.2.2.2.2.1
      exact Nat.le_trans this (by show _ ≤ 1 + (1 + (1 + ((y.2.2.2.1).size + 1 + ((y.2.2.2.2.1.map sz).sum + 1 + 0)))) + 1; omega)

end Go.SX
