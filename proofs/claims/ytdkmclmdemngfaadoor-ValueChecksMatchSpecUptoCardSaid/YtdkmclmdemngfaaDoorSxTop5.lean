/- Lists of fields out of rows. -/
import Derived.Test.YtdkmclmdemngfaaDoorSxTop4
namespace Go.SX
open Go
set_option linter.unusedVariables false
set_option linter.unusedSimpArgs false

theorem rdFields {B : Bulk} {P : Program} {wfT : GType → Prop} {szT : GType → Nat} {wfF : GField → Prop} {szF : GField → Nat} {szL : List GField → Nat} (tt tf ti ts tb tl : TypeId) (hi : P.underlying ti = some (.int .i64)) (hs : P.underlying ts = some .string) (hb : P.underlying tb = some .bool)
    (hl : P.underlying tl = some (.slice tf)) (hu : isStruct P tf = true) (hu' : isStruct P tt = true)
    (hL : fieldsOf P tf = [fld P tf 0, fld P tf 1, fld P tf 2, fld P tf 3]) (hL' : fieldsOf P tt = [fld P tt 0, fld P tt 1, fld P tt 2]) (hz : P.cellsOf tf = 6 ∧ P.cellsOf tt = 3 ∧ P.cellsOf ti = 1 ∧ P.cellsOf ts = 1 ∧ P.cellsOf tb = 1) (hzl : P.cellsOf tl = 1)
    (ht : (fld P tf 0).type = ti ∧ (fld P tf 1).type = ts ∧ (fld P tf 2).type = tb ∧ (fld P tf 3).type = tt)
    (ho : (fld P tf 0).offset = 0 ∧ (fld P tf 1).offset = 1 ∧ (fld P tf 2).offset = 2 ∧ (fld P tf 3).offset = 3)
    (ht' : (fld P tt 0).type = ti ∧ (fld P tt 1).type = ti ∧ (fld P tt 2).type = tl)
    (ho' : (fld P tt 0).offset = 0 ∧ (fld P tt 1).offset = 1 ∧ (fld P tt 2).offset = 2)
    (hwf : ∀ i n q t, i64ok i → wfT t → wfF ⟨i, n, q, t⟩) (hsz : ∀ i n q t, szF ⟨i, n, q, t⟩ ≤ n.size + szT t + 4)
    (hwf' : ∀ k s fs, i64ok k → i64ok s → (∀ f ∈ fs, wfF f) → wfT ⟨k, s, fs⟩) (hsz' : ∀ k s fs, szT ⟨k, s, fs⟩ ≤ (fs.map szF).sum + 4) (hszl : ∀ xs, szL xs ≤ (xs.map szF).sum + 1) (N : Nat) :
    RdB B P N tl (fun xs : List GField => [PV.ro (eField.els xs)]) (fun xs => ∀ x ∈ xs, wfF x) szL := by
  have hT := rdType (B := B) (P := P) tt tf ti ts tb tl hi hs hb hl hu hu' hL hL' hz hzl ht ho ht' ho' hwf hsz hwf' hsz'
  have hF : ∀ N, RdB B P N tf GType.fcell wfF szF := fun N => rdField tt tf ti ts tb hi hs hb hu hL hz ht ho hwf hsz (fun N' _ => hT N')
  refine RdB.conv (RdB.slice (e := tf) (cells := GType.fcell) hl (fun x => by rw [hz.1]; exact eField.hsz x) (by rw [hz.1]; omega) (fun N' _ => hF N')) (fun x => ?_) (fun x h => h) hszl
  show [PV.ro (GType.fcells x)] = _
  rw [GType.fcells_eq]

end Go.SX
