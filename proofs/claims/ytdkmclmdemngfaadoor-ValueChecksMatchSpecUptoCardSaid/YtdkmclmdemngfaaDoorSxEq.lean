/- SX: comparing structs and arrays. -/
import Derived.Test.YtdkmclmdemngfaaDoorSxEv
import Derived.Laws.StructEq
import Derived.ChangeKeysEq
namespace Go.SX
open Go
set_option linter.unusedVariables false
set_option linter.unusedSimpArgs false
set_option linter.unnecessarySimpa false

variable {P : Program} {ι : IM} {w : World} {st : St}

def eqFsW (P : Program) (rec : TypeId → AV → AV → Option Bool) (xs ys : List CV) : List Field → Option Bool
  | [] => some true
  | f :: fs =>
    bif f.name == "_" then none else
    match partAt' P f.type xs f.offset, partAt' P f.type ys f.offset with
    | some a, some b => match rec f.type a b, eqFsW P rec xs ys fs with
      | some r, some r' => some (r && r')
      | _, _ => none
    | _, _ => none

def eqItW (P : Program) (rec : TypeId → AV → AV → Option Bool) (e : TypeId) (c : Nat) (xs ys : List CV) : List Nat → Option Bool
  | [] => some true
  | i :: is =>
    match partAt' P e xs (i * c), partAt' P e ys (i * c) with
    | some a, some b => match rec e a b, eqItW P rec e c xs ys is with
      | some r, some r' => some (r && r')
      | _, _ => none
    | _, _ => none

def eqAt (P : Program) : Nat → TypeId → AV → AV → Option Bool
  | 0, _, _, _ => none
  | d + 1, t, a, b =>
    match P.underlying t with
    | some .bool => match a, b with
      | .one (.pv (.s (.bool x))), .one (.pv (.s (.bool y))) => some (x == y)
      | _, _ => none
    | some (.int _) => match a, b with
      | .one (.pv (.s (.int k x))), .one (.pv (.s (.int k' y))) => bif decide (k = k') then some (x == y) else none
      | _, _ => none
    | some .string => match a, b with
      | .one (.pv (.s (.string x))), .one (.pv (.s (.string y))) => some (x.toList == y.toList)
      | _, _ => none
    | some (.struct fs) => match a, b with
      | .ag xs, .ag ys => bif P.stoodInHeld t then none else eqFsW P (eqAt P d) xs ys fs.toList
      | _, _ => none
    | some (.array n e) => match a, b with
      | .ag xs, .ag ys => match P.info? e with
        | some _ => eqItW P (eqAt P d) e (P.cellsOf e) xs ys (List.range n)
        | none => none
      | _, _ => none
    | _ => none

theorem eqFsW_sound {rec : TypeId → AV → AV → Option Bool} {D : Nat}
    (hrec : ∀ t a b r v u, rec t a b = some r → AVRel ι w st v a → AVRel ι w st u b → (Op.equalIn D t v u).run P w = .ok r w)
    {xs ys : List CV} {vs us : List Value} (hx : LRel ι w st vs xs) (hy : LRel ι w st us ys) : ∀ (fs : List Field) (r : Bool), eqFsW P rec xs ys fs = some r → (Op.eqFields D vs.toArray us.toArray fs).run P w = .ok r w
  | [], r, h => by simp only [eqFsW, Option.some.injEq] at h; subst h; simp [Op.eqFields]
  | f :: fs, r, h => by
    simp only [eqFsW] at h
    cases hn : f.name == "_" with
    | true => simp [hn] at h
    | false =>
      simp only [hn, cond_false] at h
      split at h
      · rename_i a b ha hb
        split at h
        · rename_i r1 r2 h1 h2
          simp only [Option.some.injEq] at h
          subst h
          obtain ⟨v, pv, rv⟩ := part_sound ha hx
          obtain ⟨u, pu, ru⟩ := part_sound hb hy
          have hne : f.name ≠ "_" := by simpa using hn
          have e1 := hrec _ _ _ _ _ _ h1 rv ru
          have e2 := eqFsW_sound hrec hx hy fs r2 h2
          simp only [Op.eqFields, hne, ne_eq, not_false_eq_true, if_true, Sem.run_bind, pv, pu, e1, Result.andThen_ok]
          cases r1 with
          | false => simp
          | true => simpa using e2
        · cases h
      · cases h

theorem eqItW_sound {rec : TypeId → AV → AV → Option Bool} {D : Nat} {e : TypeId} {c : Nat}
    (hrec : ∀ t a b r v u, rec t a b = some r → AVRel ι w st v a → AVRel ι w st u b → (Op.equalIn D t v u).run P w = .ok r w)
    {xs ys : List CV} {vs us : List Value} (hx : LRel ι w st vs xs) (hy : LRel ι w st us ys) : ∀ (is : List Nat) (r : Bool), eqItW P rec e c xs ys is = some r → (Op.eqItems D e c vs.toArray us.toArray is).run P w = .ok r w
  | [], r, h => by simp only [eqItW, Option.some.injEq] at h; subst h; simp [Op.eqItems]
  | i :: is, r, h => by
    simp only [eqItW] at h
    split at h
    · rename_i a b ha hb
      split at h
      · rename_i r1 r2 h1 h2
        simp only [Option.some.injEq] at h
        subst h
        obtain ⟨v, pv, rv⟩ := part_sound ha hx
        obtain ⟨u, pu, ru⟩ := part_sound hb hy
        have e1 := hrec _ _ _ _ _ _ h1 rv ru
        have e2 := eqItW_sound hrec hx hy is r2 h2
        simp only [Op.eqItems, Sem.run_bind, pv, pu, e1, Result.andThen_ok]
        cases r1 with
        | false => simp
        | true => simpa using e2
      · cases h
    · cases h

theorem sc_of {v x : Value} (h : AVRel ι w st v (.one (.pv (.s x)))) : v = x := by
  cases h with
  | one _ _ h => cases h with
    | pv _ _ h => cases h; rfl

theorem eqAt_sound : ∀ (d D : Nat) (t : TypeId) (a b : AV) (r : Bool) (v u : Value), eqAt P d t a b = some r → AVRel ι w st v a → AVRel ι w st u b → (Op.equalIn (D + d) t v u).run P w = .ok r w
  | 0, _, _, _, _, _, _, _, h, _, _ => by cases h
  | d + 1, D, t, a, b, r, v, u, h, hv, hu => by
    simp only [eqAt] at h
    rw [show D + (d + 1) = (D + d) + 1 from rfl]
    split at h
    · rename_i hT
      split at h
      · simp only [Option.some.injEq] at h; subst h
        rw [sc_of hv, sc_of hu]; exact run_equalIn_bool w _ _ _ _ hT
      · cases h
    · rename_i hT
      split at h
      · rename_i k x k' y
        by_cases hk : k = k'
        · subst hk
          simp only [decide_true, cond_true, Option.some.injEq] at h; subst h
          rw [sc_of hv, sc_of hu]; exact run_equalIn_int w _ _ _ _ _ _ hT
        · simp [hk] at h
      · cases h
    · rename_i hT
      split at h
      · simp only [Option.some.injEq] at h; subst h
        rw [sc_of hv, sc_of hu]; exact run_equalIn_string w _ _ _ _ hT
      · cases h
    · rename_i fs hT
      split at h
      · cases hs : P.stoodInHeld t with
        | true => simp [hs] at h
        | false =>
          simp only [hs, cond_false] at h
          cases hv with
          | ag vs _ hx =>
            cases hu with
            | ag us _ hy =>
              have hfs : P.fieldsOf t = fs := by simp [Program.fieldsOf, hT]
              rw [run_equalIn_struct w (D + d) t _ _ (by rw [hfs]; exact hT) hs, hfs]
              exact eqFsW_sound (fun t a b r v u => eqAt_sound d D t a b r v u) hx hy _ _ h
      · cases h
    · rename_i n e hT
      split at h
      · cases hv with
        | ag vs _ hx =>
          cases hu with
          | ag us _ hy =>
            cases hi : P.info? e with
            | none => simp [hi] at h
            | some i =>
              simp only [hi] at h
              rw [run_equalIn_array w (D + d) _ _ hT hi]
              exact eqItW_sound (fun t a b r v u => eqAt_sound d D t a b r v u) hx hy _ _ h
      · cases h
    · cases h

/-- == and != of structs and arrays -/
def eqAg (P : Program) (op : BinOp) (t : TypeId) (xs ys : List CV) : Option Bool :=
  bif P.eqGuardType P.depth t then none else
  match op with
  | .eql => eqAt P 10 t (.ag xs) (.ag ys)
  | .neq => (eqAt P 10 t (.ag xs) (.ag ys)).map fun b => !b
  | _ => none

theorem eqAg_sound {op : BinOp} {t : TypeId} {xs ys : List CV} {b : Bool} {px py : Operand} (h : eqAg P op t xs ys = some b) {v u : Value} (hv : AVRel ι w st v (.ag xs)) (hu : AVRel ι w st u (.ag ys)) :
    (do eqGuard op t px py v u; binOp op t v u : Sem Value).run P w = .ok (.bool b) w := by
  unfold eqAg at h
  cases hg : P.eqGuardType P.depth t with
  | true => simp [hg] at h
  | false =>
    simp only [hg, cond_false] at h
    have key : ∀ r, eqAt P 10 t (.ag xs) (.ag ys) = some r → (Op.equal t v u).run P w = .ok r w := fun r hr => eqAt_sound 10 9990 t _ _ r v u hr hv hu
    cases hv with
    | ag vs _ hx =>
      cases hu with
      | ag us _ hy =>
        cases op <;> simp only at h <;> try (cases h; done)
        · simp [eqGuard, hg, binOp, key _ h]
        · simp only [Option.map_eq_some_iff] at h
          obtain ⟨r, hr, rfl⟩ := h
          simp [eqGuard, hg, binOp, key _ hr]

end Go.SX
