/- SX, tenth part: the evaluator of operations put together. -/
import Derived.Test.YtdkmclmdemngfaaDoorSxEq
namespace Go.SX
open Go
set_option linter.unusedVariables false
set_option linter.unusedSimpArgs false
set_option linter.unnecessarySimpa false

variable {P : Program} {ι : IM} {w : World} {st : St}

def pickAV (t : Bool) (a b : AV) : AV :=
  match a, b with
  | .one (.pv (.s (.bool x))), .one (.pv (.s (.bool y))) => .one (.pv (.s (.bool (bif t then x else y))))
  | a, b => bif t then a else b

def partsCells (fr : Fr) : List (Nat × Operand) → Option (List (Nat × List CV))
  | [] => some []
  | (i, x) :: l => match avCells (rv fr x), partsCells fr l with
    | some cs, some r => some ((i, cs) :: r)
    | _, _ => none

def capsOf (fr : Fr) : List Operand → Option (List CV)
  | [] => some []
  | x :: l => match rv fr x, capsOf fr l with
    | .one c, some r => some (c :: r)
    | _, _ => none

def repZ (z : List CV) : Nat → List CV
  | 0 => []
  | n + 1 => z ++ repZ z n

def bint (fr : Fr) : Option Operand → Option (Option Int)
  | none => some none
  | some x => match rv fr x with
    | .one (.pv (.s (.int _ n))) => some (some n)
    | _ => none

def lenAt (P : Program) (t : TypeId) (av : AV) : Option Int :=
  match P.underlying t with
  | some .string => match av with
    | .one (.pv (.s (.string s))) => some s.size
    | _ => none
  | some (.array n _) => some n
  | some (.slice _) => match av with
    | .one c => (lenCV c).map fun n => (n : Int)
    | _ => none
  | _ => none

def placesOf (P : Program) : List Field → Option (List (Nat × Nat))
  | [] => some []
  | f :: l => match P.info? f.type, placesOf P l with
    | some i, some r => some ((f.offset, i.size) :: r)
    | _, _ => none

def buildCV (P : Program) (t : TypeId) (pcs : List (Nat × List CV)) : Option (List CV) :=
  match zeroCV P t with
  | some z =>
    match P.underlying t with
    | some (.struct fields) => match placesOf P fields.toList with
      | some places => fillc (places[·]?) z pcs
      | none => none
    | some (.array _ e) => match tsz P e with
      | some es => fillc (fun i => some (i * es, es)) z pcs
      | none => none
    | _ => none
  | none => none

def ev (P : Program) (mu : Bool) (o : Oper) (fr : Fr) (st : St) (hs : HS) : Option Out :=
  match o.op with
  | .move x => some ⟨rv fr x, st, [], hs, none⟩
  | .assign x =>
    match mu with
    | false => some ⟨rv fr x, st, [], hs, none⟩
    | true => match x with
      | .const (.slice none 0 0) => match P.underlying o.type with
        | some (.slice e) => match tsz P e with
          | some sz => some ⟨.one (.sl st.length sz 0 0), st ++ [.arr sz []], [], hs, none⟩
          | none => none
        | _ => none
      | _ => none
  | .pick c a b => match rv fr c with
    | .one (.pv (.s (.bool t))) => some ⟨pickAV t (rv fr a) (rv fr b), st, [], hs, none⟩
    | _ => none
  | .alloc t => match zeroCV P t with
    | some cs => match mu with
      | true => some ⟨.one (.pt st.length 0 0 0), st ++ [.box cs], [], hs, none⟩
      | false => match unpv cs with
        | some ps => some ⟨.one (.pv (.rp [ps] 0 0)), st, [], hs, none⟩
        | none => none
    | none => none
  | .box t x => match avCells (rv fr x) with
    | some cs => match mu with
      | true => some ⟨.one (.pt st.length 0 0 0), st ++ [.box cs], [], hs, none⟩
      | false => match unpv cs with
        | some ps => some ⟨.one (.pv (.rp [ps] 0 0)), st, [], hs, none⟩
        | none => none
    | none => none
  | .build t parts => match partsCells fr parts.toList with
    | some pcs => (buildCV P t pcs).map fun cs => ⟨.ag cs, st, [], hs, none⟩
    | none => none
  | .buildSlice t len parts =>
    match P.underlying t with
    | some (.slice e) => match tsz P e, zeroCV P e, partsCells fr parts.toList with
      | some sz, some z, some pcs =>
        bif Nat.beq z.length sz && (Nat.ble 1 sz && Nat.ble (len * sz) 1000000) then
          match fillc (fun i => some (i * sz, sz)) (repZ z len) pcs with
          | some cells => match unpv cells with
            | some ps => match mu with
              | true => some ⟨.one (.sl st.length sz 0 len), st ++ [.arr sz (chunk sz len ps)], [], hs, none⟩
              | false => some ⟨.one (.pv (.ro (chunk sz len ps))), st, [], hs, none⟩
            | none => none
          | none => none
        else none
      | _, _, _ => none
    | _ => none
  | .load t a => match rv fr a with
    | .one c => ldAt P t c st hs
    | _ => none
  | .store t a x => match rv fr a, avCells (rv fr x) with
    | .one c, some vcs => stAt P t c vcs st hs
    | _, _ => none
  | .nilCheck x => match rv fr x with
    | .one (.pv (.rp els i off)) => some ⟨.one (.pv (.rp els i off)), st, [], hs, none⟩
    | .one (.pt id sz i off) => some ⟨.one (.pt id sz i off), st, [], hs, none⟩
    | .one (.fn f caps) => some ⟨.one (.fn f caps), st, [], hs, none⟩
    | .one (.pv (.fn f caps)) => some ⟨.one (.pv (.fn f caps)), st, [], hs, none⟩
    | _ => none
  | .binOp op tt x y _ => match rv fr x, rv fr y with
    | .one (.pv (.s a)), .one (.pv (.s b)) => match bopT P op tt a b with
      | some (v, ob) => some ⟨.one (.pv (.s v)), st, ob, hs, none⟩
      | none => none
    | .ag xs, .ag ys => match eqAg P op tt xs ys with
      | some b => some ⟨.one (.pv (.s (.bool b))), st, [], hs, none⟩
      | none => none
    | _, _ => none
  | .unOp op _ x => match op, rv fr x with
    | .neg, .one (.pv (.s (.int k n))) => some ⟨.one (.pv (.s (.int k (k.wrap (0 - n))))), st, [], hs, none⟩
    | .not, .one (.pv (.s (.bool b))) => some ⟨.one (.pv (.s (.bool !b))), st, [], hs, none⟩
    | _, _ => none
  | .convert src dst x => match P.underlying src, P.underlying dst, rv fr x with
    | some (.int _), some (.int k), .one (.pv (.s (.int _ n))) => some ⟨.one (.pv (.s (.int k (k.wrap n)))), st, [], hs, none⟩
    | _, _, _ => none
  | .makeFunc (.func f) first captured => match first.toList, capsOf fr captured.toList with
    | [], some caps => some ⟨.one (.fn f caps), st, [], hs, none⟩
    | _, _ => none
  | .makeSlice t l c => match P.underlying t with
    | some (.slice e) => match P.info? e, zeroCV P e, rv fr l, rv fr c with
      | some i, some z, .one (.pv (.s (.int _ n))), .one (.pv (.s (.int _ m))) =>
        bif Nat.beq z.length i.size && (Nat.ble 1 i.size && Nat.ble i.bytes 16384) then
          match unpv z with
          | some ps => some ⟨.one (.sl st.length i.size 0 n.toNat), st ++ [.arr i.size (List.replicate n.toNat ps)], [0 ≤ n, n ≤ m, m ≤ 4294967296], hs, none⟩
          | none => none
        else none
      | _, _, _, _ => none
    | _ => none
  | .slice t x lo hi mx => match rv fr x, bint fr lo, bint fr hi, bint fr mx with
    | .one c, some l, some h, some m =>
      bif m.isNone || h.isSome then (match slAt P t c l h m with
        | some (c', ob) => some ⟨.one c', st, [ob], hs, none⟩
        | none => none) else none
    | _, _, _, _ => none
  | .fieldAddr s x k => match rv fr x with
    | .one c => (faAt P s c k).map fun c' => ⟨.one c', st, [], hs, none⟩
    | _ => none
  | .field t x k => match rv fr x with
    | .ag cs => (fieldOf P t cs k).map fun av => ⟨av, st, [], hs, none⟩
    | _ => none
  | .indexAddr t x i => match rv fr x, rv fr i with
    | .one c, .one (.pv (.s (.int _ n))) => match iaAt P t c n with
      | some (c', ob) => some ⟨.one c', st, [ob], hs, none⟩
      | none => none
    | _, _ => none
  | .index t x i => match P.underlying t, rv fr x, rv fr i with
    | some .string, .one (.pv (.s (.string s))), .one (.pv (.s (.int _ n))) => some ⟨.one (.pv (.s (.int .u8 ((s.data.toList.getD n.toNat 0).toNat)))), st, [0 ≤ n ∧ n < s.size], hs, none⟩
    | some (.array len e), .ag cs, .one (.pv (.s (.int _ n))) => match tsz P e with
      | some es => (partAt' P e cs (n.toNat * es)).map fun av => ⟨av, st, [0 ≤ n ∧ n < len], hs, none⟩
      | none => none
    | _, _, _ => none
  | .extract x k => match rv fr x with
    | .tp vs => match vs[k]? with
      | some av => some ⟨av, st, [], hs, none⟩
      | none => none
    | _ => none
  | .call ⟨.builtin .len, args, tys⟩ => match args.toList, tys.toList with
    | [x], [t] => (lenAt P t (rv fr x)).map fun n => ⟨.one (.pv (.s (.int .i64 n))), st, [], hs, none⟩
    | _, _ => none
  | .call ⟨.builtin .append, args, tys⟩ => match args.toList, tys.toList with
    | [d, x], [t, tx] => apAt P t tx (rv fr d) (rv fr x) st hs
    | _, _ => none
  | .call ⟨.builtin .max, args, _⟩ => match args.toList with
    | [x, y] => match rv fr x, rv fr y with
      | .one (.pv (.s (.int k a))), .one (.pv (.s (.int _ b))) => some ⟨.one (.pv (.s (.int k (if b > a then b else a)))), st, [], hs, none⟩
      | _, _ => none
    | _ => none
  | .call ⟨.builtin .min, args, _⟩ => match args.toList with
    | [x, y] => match rv fr x, rv fr y with
      | .one (.pv (.s (.int k a))), .one (.pv (.s (.int _ b))) => some ⟨.one (.pv (.s (.int k (if b < a then b else a)))), st, [], hs, none⟩
      | _, _ => none
    | _ => none
  | _ => none

theorem scalar_of {v : Value} {x : Value} (h : AVRel ι w st v (.one (.pv (.s x)))) : v = x := by
  cases h with
  | one _ _ h => cases h with
    | pv _ _ h => cases h; rfl

theorem cv_of {v : Value} {c : CV} (h : AVRel ι w st v (.one c)) : VRel ι w st v c := by
  cases h with
  | one _ _ h => exact h

theorem ag_of {v : Value} {cs : List CV} (h : AVRel ι w st v (.ag cs)) : ∃ vs, v = .agg vs.toArray ∧ LRel ι w st vs cs := by
  cases h with
  | ag vs _ h => exact ⟨vs, rfl, h⟩

theorem pick_rel {t : Bool} {x y : Value} {a b : AV} (ha : AVRel ι w st x a) (hb : AVRel ι w st y b) : AVRel ι w st (if t then x else y) (pickAV t a b) := by
  have other : AVRel ι w st (if t then x else y) (bif t then a else b) := by
    cases t
    · exact hb
    · exact ha
  by_cases hq : ∃ p q, a = .one (.pv (.s (.bool p))) ∧ b = .one (.pv (.s (.bool q)))
  · obtain ⟨p, q, rfl, rfl⟩ := hq
    rw [scalar_of ha, scalar_of hb]
    cases t
    · exact .one _ _ (.pv _ _ (.s _ rfl))
    · exact .one _ _ (.pv _ _ (.s _ rfl))
  · have e : pickAV t a b = bif t then a else b := by
      unfold pickAV
      split
      · exact absurd ⟨_, _, rfl, rfl⟩ hq
      · rfl
    rw [e]
    exact other

theorem parts_rel {n : Nat} {a : Act} {fr : Fr} (hF : FRel n ι w st a fr) : ∀ {l : List (Nat × Operand)} {pcs : List (Nat × List CV)}, partsCells fr l = some pcs →
    (l.map fun (i, x) => (i, a.eval x)).length = pcs.length ∧ ∀ (j : Nat) (p : Nat × Value) (q : Nat × List CV), (l.map fun (i, x) => (i, a.eval x))[j]? = some p → pcs[j]? = some q → p.1 = q.1 ∧ LRel ι w st p.2.cells.toList q.2
  | [], pcs, h => by simp [partsCells] at h; subst h; exact ⟨rfl, fun j p q h => by simp at h⟩
  | (i, x) :: l, pcs, h => by
    simp only [partsCells] at h
    cases h1 : avCells (rv fr x) with
    | none => simp [h1] at h
    | some cs =>
      cases h2 : partsCells fr l with
      | none => simp [h1, h2] at h
      | some r =>
        simp [h1, h2] at h
        subst h
        obtain ⟨e1, e2⟩ := parts_rel hF h2
        refine ⟨by simpa using e1, fun j p q a1 a2 => ?_⟩
        cases j with
        | zero =>
          simp at a1 a2
          subst a1; subst a2
          exact ⟨rfl, avCells_rel (rv_rel hF x) h1⟩
        | succ j => exact e2 j p q (by simpa using a1) (by simpa using a2)

theorem caps_rel {n : Nat} {a : Act} {fr : Fr} (hF : FRel n ι w st a fr) : ∀ {l : List Operand} {caps : List CV}, capsOf fr l = some caps →
    (l.map a.eval).length = caps.length ∧ ∀ (j : Nat) c v, caps[j]? = some c → (l.map a.eval)[j]? = some v → VRel ι w st v c
  | [], caps, h => by simp [capsOf] at h; subst h; exact ⟨rfl, fun j p q h => by simp at h⟩
  | x :: l, caps, h => by
    simp only [capsOf] at h
    cases h1 : rv fr x with
    | one c =>
      cases h2 : capsOf fr l with
      | none => simp [h1, h2] at h
      | some r =>
        simp [h1, h2] at h
        subst h
        obtain ⟨e1, e2⟩ := caps_rel hF h2
        refine ⟨by simpa using e1, fun j c' v a1 a2 => ?_⟩
        cases j with
        | zero =>
          simp at a1 a2
          subst a1; subst a2
          have := rv_rel hF x
          rw [h1] at this
          exact cv_of this
        | succ j => exact e2 j c' v (by simpa using a1) (by simpa using a2)
    | j => simp [h1] at h
    | ag _ => simp [h1] at h
    | tp _ => simp [h1] at h

theorem zero_rel {t : TypeId} {cs : List CV} (h : zeroCV P t = some cs) : ∃ i z, P.info? t = some i ∧ i.zero = some z ∧ cs = z.cells.toList.map CV.s ∧ allPlain z.cells.toList = true := by
  unfold zeroCV at h
  cases hi : P.info? t with
  | none => simp [hi] at h
  | some i =>
    cases hz : i.zero with
    | none => simp [hi, hz] at h
    | some z =>
      simp only [hi, hz] at h
      split at h
      · rename_i hp
        simp at h
        exact ⟨i, z, rfl, hz, h.symm, hp⟩
      · simp at h

theorem bint_rel {n : Nat} {a : Act} {fr : Fr} (hF : FRel n ι w st a fr) {x : Option Operand} {m : Option Int} (h : bint fr x = some m) : BRel (x.map a.eval) m := by
  cases x with
  | none => simp [bint] at h; subst h; exact .none
  | some x =>
    simp only [bint] at h
    split at h
    · rename_i k q hq
      simp at h
      subst h
      have := rv_rel hF x
      rw [hq] at this
      rw [Option.map_some, scalar_of this]
      exact .some _ _
    · simp at h

theorem places_eq : ∀ {l : List Field} {r : List (Nat × Nat)}, placesOf P l = some r → l.mapM (fun f => (P.info? f.type).map fun i => (f.offset, i.size)) = some r
  | [], r, h => by simp [placesOf] at h; subst h; rfl
  | f :: l, r, h => by
    simp only [placesOf] at h
    cases h1 : P.info? f.type with
    | none => simp [h1] at h
    | some i =>
      cases h2 : placesOf P l with
      | none => simp [h1, h2] at h
      | some r' =>
        simp [h1, h2] at h
        subst h
        simp [List.mapM_cons, h1, places_eq h2]

theorem build_sound {t : TypeId} {pcs : List (Nat × List CV)} {cs : List CV} {parts : List (Nat × Value)} (h : buildCV P t pcs = some cs) (hl : parts.length = pcs.length)
    (hp : ∀ (j : Nat) (p : Nat × Value) (q : Nat × List CV), parts[j]? = some p → pcs[j]? = some q → p.1 = q.1 ∧ LRel ι w st p.2.cells.toList q.2) :
    ∃ arr, (Instr.build t parts.toArray).run P w = .ok (.agg arr) w ∧ LRel ι w st arr.toList cs := by
  unfold buildCV at h
  cases hz : zeroCV P t with
  | none => simp [hz] at h
  | some z =>
    simp only [hz] at h
    obtain ⟨i, zv, h1, h2, rfl, h4⟩ := zero_rel hz
    have hL : LRel ι w st zv.cells.toList (zv.cells.toList.map CV.s) := LRel.scalars h4
    cases hu : P.underlying t with
    | none => simp [hu] at h
    | some d =>
      cases d <;> try (simp [hu] at h; done)
      case struct fields =>
        simp only [hu] at h
        cases hpl : placesOf P fields.toList with
        | none => simp [hpl] at h
        | some places =>
          simp only [hpl] at h
          obtain ⟨arr, a1, a2⟩ := fill_rel (place := (places[·]?)) hL hl hp h
          refine ⟨arr, run_build w t _ arr ?_, a2⟩
          unfold Program.built
          simp only [h1, hu, h2, places_eq hpl]
          simpa using a1
      case array len e =>
        simp only [hu] at h
        cases hn : tsz P e with
        | none => simp [hn] at h
        | some es =>
          simp only [hn] at h
          obtain ⟨arr, a1, a2⟩ := fill_rel (place := fun i => some (i * es, es)) hL hl hp h
          refine ⟨arr, run_build w t _ arr ?_, a2⟩
          unfold Program.built
          unfold tsz at hn
          cases hi2 : P.info? e with
          | none => simp [hi2] at hn
          | some ie =>
            simp [hi2] at hn
            subst hn
            simp only [h1, hu, h2, hi2]
            simpa using a1

theorem repZ_length (z : List CV) : ∀ n, (repZ z n).length = n * z.length
  | 0 => by simp [repZ]
  | n + 1 => by simp [repZ, repZ_length z n, Nat.add_mul]; omega

theorem repZ_get {z : List CV} : ∀ {n q : Nat} {c : CV}, (repZ z n)[q]? = some c → z[q % z.length]? = some c ∧ q < n * z.length
  | 0, q, c, h => by simp [repZ] at h
  | n + 1, q, c, h => by
    simp only [repZ] at h
    by_cases hq : q < z.length
    · rw [List.getElem?_append_left hq] at h
      rw [Nat.mod_eq_of_lt hq]
      exact ⟨h, by rw [Nat.add_mul]; omega⟩
    · rw [List.getElem?_append_right (by omega)] at h
      obtain ⟨h1, h2⟩ := repZ_get h
      rw [Nat.mod_eq_sub_mod (by omega)]
      exact ⟨h1, by rw [Nat.add_mul]; omega⟩

theorem zeros_rel {z : Array Value} (hz : allPlain z.toList = true) (n : Nat) (hs : 0 < z.size) :
    LRel ι w st ((Array.range (n * z.size)).map (z[· % z.size]!)).toList (repZ (z.toList.map CV.s) n) := by
  refine ⟨by simp [repZ_length], fun q v c h1 h2 => ?_⟩
  obtain ⟨h3, h4⟩ := repZ_get h2
  simp only [List.length_map, Array.length_toList] at h3 h4
  have hlt : q % z.size < z.size := Nat.mod_lt _ hs
  have e : v = z[q % z.size] := by
    simp [h4] at h1
    rw [← h1]
    exact getElem!_pos z _ hlt
  subst e
  refine (LRel.scalars (ι := ι) (w := w) (st := st) hz).2 (q % z.size) _ c (by simp [hlt]) h3

end Go.SX
