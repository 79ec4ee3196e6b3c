/- SX: readings of structs by the program's own fields. -/
import Derived.Test.YtdkmclmdemngfaaDoorSxTop
import Derived.Test.YtdkmclmdemngfaaDoorGTypes
namespace Go.SX
open Go
set_option linter.unusedVariables false

def fieldsOf (P : Program) (t : TypeId) : List Field := match P.underlying t with
  | some (.struct fs) => fs.toList
  | _ => []

def isStruct (P : Program) (t : TypeId) : Bool := match P.underlying t with
  | some (.struct _) => true
  | _ => false

def fld (P : Program) (t : TypeId) (i : Nat) : Field := (fieldsOf P t)[i]?.getD default

section
variable {B : Bulk} {P : Program}

theorem RdB.structF {N : Nat} {t : TypeId} {L : List Field} {α β : Type} {c : β → List PV} {wf : β → Prop} {s : β → Nat} {cells : α → List PV} {wf' : α → Prop} {size : α → Nat} (hu : isStruct P t = true) (hL : fieldsOf P t = L) (hsz : P.cellsOf t = 0 + (L.map fun f => P.cellsOf f.type).sum)
    (h : ∀ N', N' < N → RdF B P N' 0 L c wf s) (mk : β → α) (h1 : ∀ y, cells (mk y) = c y) (h2 : ∀ y, wf y → wf' (mk y)) (h3 : ∀ y, size (mk y) ≤ s y + 1) : RdB B P N t cells wf' size := by
  unfold isStruct at hu
  unfold fieldsOf at hL
  cases hd : P.underlying t with
  | none => simp [hd] at hu
  | some d =>
    cases d <;> simp [hd] at hu
    rename_i fs
    simp only [hd] at hL
    subst hL
    exact RdB.struct hd hsz h mk h1 h2 h3

theorem ok_structF {w : World} {r : Reach} {b0 : Nat} {t : TypeId} {v : Value} (hu : isStruct P t = true) (hval : Value.okWide P w r b0 t v) : v = .agg v.cells := by
  unfold isStruct at hu
  cases hd : P.underlying t with
  | none => simp [hd] at hu
  | some d =>
    cases d <;> simp [hd] at hu
    exact ok_struct hd hval

end

/-- a civil time -/
theorem rdCivil {B : Bulk} {P : Program} (t i : TypeId) (hi : P.underlying i = some (.int .i64)) (hu : isStruct P t = true) (hL : fieldsOf P t = [fld P t 0, fld P t 1, fld P t 2, fld P t 3, fld P t 4, fld P t 5]) (hs : P.cellsOf t = 6) (h1 : P.cellsOf i = 1)
    (ht : (fld P t 0).type = i ∧ (fld P t 1).type = i ∧ (fld P t 2).type = i ∧ (fld P t 3).type = i ∧ (fld P t 4).type = i ∧ (fld P t 5).type = i)
    (ho : (fld P t 0).offset = 0 ∧ (fld P t 1).offset = 1 ∧ (fld P t 2).offset = 2 ∧ (fld P t 3).offset = 3 ∧ (fld P t 4).offset = 4 ∧ (fld P t 5).offset = 5) (N : Nat) :
    RdB B P N t (fun c : GCivil => [pi c.year, pi c.month, pi c.day, pi c.hour, pi c.minute, pi c.second]) (fun _ => True) (fun _ => 1) := by
  obtain ⟨t0, t1, t2, t3, t4, t5⟩ := ht
  obtain ⟨o0, o1, o2, o3, o4, o5⟩ := ho
  have I : ∀ (N : Nat) (f : Field), f.type = i → RdB B P N f.type (fun n : Int => [.s (.int .i64 n)]) (fun n => IntKind.min .i64 ≤ n ∧ n ≤ IntKind.max .i64) (fun _ => 1) := fun N f hf => RdB.int (by rw [hf]; exact hi)
  have C : ∀ (f : Field), f.type = i → ∀ x : Int, ([PV.s (.int .i64 x)] : List PV).length = P.cellsOf f.type := fun f hf x => by rw [hf, h1]; rfl
  refine RdB.structF (α := GCivil) (cells := fun c : GCivil => [pi c.year, pi c.month, pi c.day, pi c.hour, pi c.minute, pi c.second]) (wf' := fun _ => True) (size := fun _ => 1) hu hL (by simp [t0, t1, t2, t3, t4, t5, h1, hs]) (fun N' _ => RdF.cons o0 (C _ t0) (I N' _ t0) (RdF.cons (by rw [o1, t0, h1]) (C _ t1) (I N' _ t1) (RdF.cons (by rw [o2, t0, t1, h1]) (C _ t2) (I N' _ t2)
    (RdF.cons (by rw [o3, t0, t1, t2, h1]) (C _ t3) (I N' _ t3) (RdF.cons (by rw [o4, t0, t1, t2, t3, h1]) (C _ t4) (I N' _ t4) (RdF.cons (by rw [o5, t0, t1, t2, t3, t4, h1]) (C _ t5) (I N' _ t5) RdF.nil))))))
    (fun y => (⟨y.1, y.2.1, y.2.2.1, y.2.2.2.1, y.2.2.2.2.1, y.2.2.2.2.2.1⟩ : GCivil)) (fun y => rfl) (fun _ _ => trivial) (fun y => by simp)

end Go.SX
