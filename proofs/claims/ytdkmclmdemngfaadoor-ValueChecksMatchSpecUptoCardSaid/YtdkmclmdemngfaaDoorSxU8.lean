/- SX: functions whose contract is given over plain worlds; utf8.ValidString by the shelf's contract. -/
import Derived.Test.YtdkmclmdemngfaaDoorSxGen
import Derived.Shelf.Unicode.ValidAny
namespace Go.SX
open Go Go.Shelf Go.Lib Go.Proofs Go.RowKit
set_option linter.unusedVariables false

theorem scalars_eq {ι : IM} {w : World} {st : St} : ∀ {us vs : List Value}, vs.length = us.length → (∀ (j : Nat) v a, vs[j]? = some v → (us.map fun u => AV.one (.pv (.s u)))[j]? = some a → AVRel ι w st v a) → vs = us
  | [], [], _, _ => rfl
  | [], _ :: _, h, _ => by simp at h
  | _ :: _, [], h, _ => by simp at h
  | u :: us, v :: vs, h, hA => by
    have h0 := scalar_of (hA 0 v _ rfl rfl)
    subst h0
    rw [scalars_eq (us := us) (vs := vs) (by simpa using h) (fun j x a h1 h2 => hA (j + 1) x a (by simpa using h1) (by simpa using h2))]

/-- a function of scalars that leaves what was there -/
theorem PC.below {P : Program} {f : Nat} {us : List Value} {v : Value} (hv : plain v = true)
    (h : ∀ w : World, (∀ (b : Nat) (l : List Value), glob b = some l → ∀ (i : Nat) x, l[i]? = some x → w.cell? ⟨b, i, none⟩ = some x) → Calls P f us.toArray w fun e w' => e = .returned v ∧ Below w.heap.size w w') :
    PC P f (us.map fun u => .one (.pv (.s u))) (.one (.pv (.s v))) := by
  intro ι w vs hR hA
  obtain rfl := scalars_eq (by simpa using hA.1) hA.2
  refine (h w (fun b l hb => (hR.gl b l hb).2.2)).mono ?_
  rintro e w' ⟨rfl, hb⟩
  have hx : Ext w w' := ⟨hb.os, hb.tape, hb.output, hb.size, fun b hlt => hb.block b hlt⟩
  exact ⟨v, _, [], ι, rfl, ⟨rfl, rfl⟩, hR.ext hx, .one _ _ (.pv _ _ (.s _ hv)), (hx.keeps ι []).weaken (fun _ _ => trivial)⟩

theorem tabs_of {g3 g4 : Nat} {w : World} (h3 : ∀ (i : Nat) x, firstL[i]? = some x → w.cell? ⟨g3, i, none⟩ = some x) (h4 : ∀ (i : Nat) x, accL[i]? = some x → w.cell? ⟨g4, i, none⟩ = some x) : Utf8Tabs g3 g4 w := by
  refine ⟨fun c hc => h3 c _ ?_, fun i hi => ⟨h4 _ _ ?_, h4 _ _ ?_⟩⟩
  · simp [firstL, hc]
  · simp [accL, show 2 * i < 32 by omega]
  · simp [accL, show 2 * i + 1 < 32 by omega, show (2 * i + 1) / 2 = i by omega]

theorem of_tabs {g3 g4 : Nat} {w : World} (h : Utf8Tabs g3 g4 w) : (∀ (i : Nat) x, firstL[i]? = some x → w.cell? ⟨g3, i, none⟩ = some x) ∧ (∀ (i : Nat) x, accL[i]? = some x → w.cell? ⟨g4, i, none⟩ = some x) := by
  refine ⟨fun i x hx => ?_, fun i x hx => ?_⟩
  · by_cases hi : i < 256
    · simp [firstL, hi] at hx; subst hx; exact h.1 i hi
    · simp [firstL, hi] at hx
  · by_cases hi : i < 32
    · simp only [accL, List.getElem?_map, List.getElem?_range hi, Option.map_some, Option.some.injEq] at hx
      by_cases e : i % 2 = 0
      · rw [if_pos e] at hx
        have := (h.2 (i / 2) (by omega)).1
        rw [show 2 * (i / 2) = i by omega, hx] at this
        exact this
      · rw [if_neg e] at hx
        have := (h.2 (i / 2) (by omega)).2
        rw [show 2 * (i / 2) + 1 = i by omega, hx] at this
        exact this
    · simp [accL, hi] at hx

theorem pc_validString {P : Program} {ρ : Ren} (L : Lays.n196 P ρ) (h3 : glob (ρ.g 3) = some firstL) (h4 : glob (ρ.g 4) = some accL) (s : ByteArray) (hs : s.size ≤ 9223372036854775807) :
    PC P (ρ.f 196) [.one (.pv (.s (.string s)))] (.one (.pv (.s (.bool (validD s.data.toList))))) :=
  PC.below (us := [.string s]) rfl fun w hw => Go.Proofs.Any.utf8_ValidString L s w hs (tabs_of (hw _ _ h3) (hw _ _ h4))

end Go.SX
