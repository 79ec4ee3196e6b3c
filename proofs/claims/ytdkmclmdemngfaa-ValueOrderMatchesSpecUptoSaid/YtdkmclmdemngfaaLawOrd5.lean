/- Values as they are read. -/
import Derived.Test.YtdkmclmdemngfaaLawOrd4
import Derived.Test.YtdkmclmdemngfaaSxTop3
namespace Go.Proofs.Ytdkmclmdemngfaa
open Go Go.SX Go.SX.Cal
set_option linter.unusedVariables false

theorem wfL_of : ∀ {l : List GValue}, (∀ x ∈ l, wfV x) → wfL l
  | [], _ => by simp [wfL]
  | x :: l, h => by
    simp only [wfL]
    exact ⟨h x (by simp), wfL_of (fun y hy => h y (by simp [hy]))⟩

theorem wf_mk (k n sc : Int) (s : ByteArray) (it : List GValue) (h1 : i64ok k) (h2 : i64ok n) (h3 : i64ok sc) (h4 : ∀ x ∈ it, wfV x) : wfV ⟨k, n, sc, s, it⟩ := by
  have e : ∀ x, i64ok x → i64 x := fun x h => by
    have h1 : IntKind.min .i64 = -9223372036854775808 := rfl
    have h2 : IntKind.max .i64 = 9223372036854775807 := rfl
    unfold i64ok at h
    rw [h1, h2] at h
    exact h
  simp only [wfV]
  exact ⟨e k h1, e n h2, e sc h3, wfL_of h4⟩

theorem sizeL_sum : ∀ l : List GValue, sizeL l = (l.map sizeV).sum
  | [] => by simp [sizeL]
  | x :: l => by simp [sizeL, sizeL_sum l]

theorem sz_mk (k n sc : Int) (s : ByteArray) (it : List GValue) : sizeV ⟨k, n, sc, s, it⟩ ≤ s.size + (it.map sizeV).sum + 6 := by
  simp only [sizeV, sizeL_sum]; omega

theorem arg_value {w : World} {v : Value} {x : GValue} (h : AVRel ⟨fun _ => none, fun _ => False⟩ w [] v (.ag ((GValue.cells x).map .pv))) : AVRel ⟨fun _ => none, fun _ => False⟩ w [] v (.ag [ci x.kind, ci x.n, ci x.scale, cst x.s, cl eValue x.items]) := by
  cases x; exact h

end Go.Proofs.Ytdkmclmdemngfaa
