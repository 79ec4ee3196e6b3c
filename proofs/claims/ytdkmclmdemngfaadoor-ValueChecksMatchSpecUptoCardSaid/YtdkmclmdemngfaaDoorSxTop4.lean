/- Types out of rows. -/
import Derived.Test.YtdkmclmdemngfaaDoorSxTop3
namespace Go.SX
open Go
set_option linter.unusedVariables false
set_option linter.unusedSimpArgs false

theorem rdField {B : Bulk} {P : Program} {wfT : GType → Prop} {szT : GType → Nat} {wfF : GField → Prop} {szF : GField → Nat} (tt tf ti ts tb : TypeId) (hi : P.underlying ti = some (.int .i64)) (hs : P.underlying ts = some .string) (hb : P.underlying tb = some .bool) (hu : isStruct P tf = true)
    (hL : fieldsOf P tf = [fld P tf 0, fld P tf 1, fld P tf 2, fld P tf 3]) (hz : P.cellsOf tf = 6 ∧ P.cellsOf tt = 3 ∧ P.cellsOf ti = 1 ∧ P.cellsOf ts = 1 ∧ P.cellsOf tb = 1)
    (ht : (fld P tf 0).type = ti ∧ (fld P tf 1).type = ts ∧ (fld P tf 2).type = tb ∧ (fld P tf 3).type = tt)
    (ho : (fld P tf 0).offset = 0 ∧ (fld P tf 1).offset = 1 ∧ (fld P tf 2).offset = 2 ∧ (fld P tf 3).offset = 3)
    (hwf : ∀ i n q t, i64ok i → wfT t → wfF ⟨i, n, q, t⟩) (hsz : ∀ i n q t, szF ⟨i, n, q, t⟩ ≤ n.size + szT t + 4) {N : Nat} (ih : ∀ N', N' < N → RdB B P N' tt GType.cells wfT szT) :
    RdB B P N tf GType.fcell wfF szF := by
  obtain ⟨t0, t1, t2, t3⟩ := ht
  obtain ⟨o0, o1, o2, o3⟩ := ho
  obtain ⟨z0, z1, z2, z3, z4⟩ := hz
  refine RdB.structF (α := GField) (cells := GType.fcell) (wf' := wfF) (size := szF) hu hL (by simp [t0, t1, t2, t3, z0, z1, z2, z3, z4]) (fun N' hN' =>
    RdF.cons (c1 := fun n : Int => [PV.s (.int .i64 n)]) o0 (fun x => by rw [t0, z2]; rfl) (RdB.int (by rw [t0]; exact hi))
      (RdF.cons (c1 := fun s : ByteArray => [PV.s (.string s)]) (by rw [o1, t0, z2]) (fun x => by rw [t1, z3]; rfl) (RdB.str (by rw [t1]; exact hs))
        (RdF.cons (c1 := fun b : Bool => [PV.s (.bool b)]) (by rw [o2, t0, t1, z2, z3]) (fun x => by rw [t2, z4]; rfl) (RdB.bool (by rw [t2]; exact hb))
          (RdF.cons (c1 := GType.cells) (by rw [o3, t0, t1, t2, z2, z3, z4]) (fun x => by rw [t3, z1]; cases x; rfl) (by rw [t3]; exact ih N' hN') RdF.nil))))
    (fun y => (⟨y.1, y.2.1, y.2.2.1, y.2.2.2.1⟩ : GField)) (fun y => ?_) (fun y h => hwf _ _ _ _ h.1 h.2.2.2.1) (fun y => ?_)
  · simp only [GType.fcell, List.append_nil]
    rfl
  · have := hsz y.1 y.2.1 y.2.2.1 y.2.2.2.1
    exact Nat.le_trans this (by show _ ≤ 1 + ((y.2.1).size + 1 + (1 + (szT y.2.2.2.1 + 0))) + 1; omega)

/-- a type: kind, scale, fields -/
theorem rdType {B : Bulk} {P : Program} {wfT : GType → Prop} {szT : GType → Nat} {wfF : GField → Prop} {szF : GField → Nat} (tt tf ti ts tb tl : TypeId) (hi : P.underlying ti = some (.int .i64)) (hs : P.underlying ts = some .string) (hb : P.underlying tb = some .bool)
    (hl : P.underlying tl = some (.slice tf)) (hu : isStruct P tf = true) (hu' : isStruct P tt = true)
    (hL : fieldsOf P tf = [fld P tf 0, fld P tf 1, fld P tf 2, fld P tf 3]) (hL' : fieldsOf P tt = [fld P tt 0, fld P tt 1, fld P tt 2]) (hz : P.cellsOf tf = 6 ∧ P.cellsOf tt = 3 ∧ P.cellsOf ti = 1 ∧ P.cellsOf ts = 1 ∧ P.cellsOf tb = 1) (hzl : P.cellsOf tl = 1)
    (ht : (fld P tf 0).type = ti ∧ (fld P tf 1).type = ts ∧ (fld P tf 2).type = tb ∧ (fld P tf 3).type = tt)
    (ho : (fld P tf 0).offset = 0 ∧ (fld P tf 1).offset = 1 ∧ (fld P tf 2).offset = 2 ∧ (fld P tf 3).offset = 3)
    (ht' : (fld P tt 0).type = ti ∧ (fld P tt 1).type = ti ∧ (fld P tt 2).type = tl)
    (ho' : (fld P tt 0).offset = 0 ∧ (fld P tt 1).offset = 1 ∧ (fld P tt 2).offset = 2)
    (hwf : ∀ i n q t, i64ok i → wfT t → wfF ⟨i, n, q, t⟩) (hsz : ∀ i n q t, szF ⟨i, n, q, t⟩ ≤ n.size + szT t + 4)
    (hwf' : ∀ k s fs, i64ok k → i64ok s → (∀ f ∈ fs, wfF f) → wfT ⟨k, s, fs⟩) (hsz' : ∀ k s fs, szT ⟨k, s, fs⟩ ≤ (fs.map szF).sum + 4) :
    ∀ N, RdB B P N tt GType.cells wfT szT := by
  intro N
  induction N using Nat.strongRecOn with
  | _ N ih =>
    have hF : ∀ N', N' ≤ N → RdB B P N' tf GType.fcell wfF szF := fun N' h => rdField tt tf ti ts tb hi hs hb hu hL hz ht ho hwf hsz (fun N'' h'' => ih N'' (by omega))
    obtain ⟨t0, t1, t2⟩ := ht'
    obtain ⟨o0, o1, o2⟩ := ho'
    obtain ⟨z0, z1, z2, z3, z4⟩ := hz
    refine RdB.structF (α := GType) (cells := GType.cells) (wf' := wfT) (size := szT) hu' hL' (by simp [t0, t1, t2, z1, z2, hzl]) (fun N' hN' =>
      RdF.cons (c1 := fun n : Int => [PV.s (.int .i64 n)]) o0 (fun x => by rw [t0, z2]; rfl) (RdB.int (by rw [t0]; exact hi))
        (RdF.cons (c1 := fun n : Int => [PV.s (.int .i64 n)]) (by rw [o1, t0, z2]) (fun x => by rw [t1, z2]; rfl) (RdB.int (by rw [t1]; exact hi))
          (RdF.cons (c1 := fun xs : List GField => [PV.ro (xs.map GType.fcell)]) (by rw [o2, t0, t1, z2]) (fun x => by rw [t2, hzl]; rfl)
            (RdB.slice (e := tf) (by rw [t2]; exact hl) (fun x => by rw [z0]; exact eField.hsz x) (by omega) (fun N'' hN'' => hF N'' (by omega))) RdF.nil)))
      (fun y => (⟨y.1, y.2.1, y.2.2.1⟩ : GType)) (fun y => ?_) (fun y h => hwf' _ _ _ h.1 h.2.1 h.2.2.1) (fun y => ?_)
    · simp only [GType.cells, GType.fcells_eq]
      rfl
    · have := hsz' y.1 y.2.1 y.2.2.1
      exact Nat.le_trans this (by show _ ≤ 1 + (1 + ((y.2.2.1.map szF).sum + 1 + 0)) + 1; omega)

theorem arg_type {w : World} {v : Value} {x : GType} (h : AVRel ⟨fun _ => none, fun _ => False⟩ w [] v (.ag ((GType.cells x).map .pv))) : AVRel ⟨fun _ => none, fun _ => False⟩ w [] v (.ag [ci x.kind, ci x.scale, cl eField x.fields]) := by
  cases x; exact h

end Go.SX
