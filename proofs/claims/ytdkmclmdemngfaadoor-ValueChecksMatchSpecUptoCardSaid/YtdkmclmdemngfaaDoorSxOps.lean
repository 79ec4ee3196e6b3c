/- SX, third part: the evaluator of operations over abstract values, and its soundness. -/
import Derived.Test.YtdkmclmdemngfaaDoorSxHeap
namespace Go.SX
open Go
set_option linter.unusedVariables false
set_option linter.unusedSimpArgs false
set_option linter.unnecessarySimpa false

abbrev HS := List (List PV)

/-- a scalar cell -/
abbrev CV.s (v : Value) : CV := .pv (.s v)

/-- what an operation comes to: its value, the store, what is asked, the hints that are left, the object that may have moved -/
structure Out where
  av : AV
  st : St
  ob : List Prop
  hs : HS
  mv : Option Nat := none

/-- all that is asked -/
def AllP : List Prop → Prop
  | [] => True
  | p :: l => p ∧ AllP l

theorem AllP.append : ∀ {l m : List Prop}, AllP (l ++ m) → AllP l ∧ AllP m
  | [], m, h => ⟨trivial, h⟩
  | p :: l, m, h => ⟨⟨h.1, (AllP.append h.2).1⟩, (AllP.append h.2).2⟩

def tsz (P : Program) (t : TypeId) : Option Nat := (P.info? t).map (·.size)

def isAg (P : Program) (t : TypeId) : Option Bool :=
  match P.underlying t with
  | some (.struct _) => some true
  | some (.array _ _) => some true
  | some _ => some false
  | none => none

def allPlain : List Value → Bool
  | [] => true
  | v :: l => plain v && allPlain l

def zeroCV (P : Program) (t : TypeId) : Option (List CV) :=
  match P.info? t with
  | some i => match i.zero with
    | some z => if allPlain z.cells.toList then some (z.cells.toList.map CV.s) else none
    | none => none
  | none => none

def constAV (v : Value) : AV :=
  match v with
  | .agg cs => if allPlain cs.toList then .ag (cs.toList.map CV.s) else .j
  | v => if plain v then .one (CV.s v) else .j

def rv (fr : Fr) : Operand → AV
  | .tmp t => lk fr t
  | .const v => constAV v
  | .global _ => .j
  | .func f => .one (.pv (.fn f []))

theorem LRel.scalars {ι : IM} {w : World} {st : St} : ∀ {l : List Value}, allPlain l = true → LRel ι w st l (l.map CV.s)
  | [], _ => ⟨rfl, fun j v c h => by simp at h⟩
  | x :: l, h => by
    simp only [allPlain, Bool.and_eq_true] at h
    refine ⟨by simp, fun j v c h1 h2 => ?_⟩
    cases j with
    | zero => simp at h1 h2; subst h1; subst h2; exact .pv _ _ (.s _ h.1)
    | succ j => simp at h1 h2; exact (LRel.scalars h.2).2 j v c h1 (by simpa using h2)

theorem constAV_rel {ι : IM} {w : World} {st : St} (v : Value) : AVRel ι w st v (constAV v) := by
  unfold constAV
  split
  · rename_i cs
    split
    · rename_i h
      have := AVRel.ag (ι := ι) (w := w) (st := st) cs.toList (cs.toList.map CV.s) (LRel.scalars h)
      simpa using this
    · exact .j _
  · split
    · rename_i h; exact .one _ _ (.pv _ _ (.s _ h))
    · exact .j _

theorem rv_rel {n : Nat} {ι : IM} {w : World} {st : St} {a : Act} {fr : Fr} (h : FRel n ι w st a fr) (x : Operand) : AVRel ι w st (a.eval x) (rv fr x) := by
  cases x with
  | tmp t => exact h.slot t
  | const v => exact constAV_rel v
  | global g => exact .j _
  | func f => exact .one _ _ (.pv _ _ (.fn f [] [] rfl (fun j c v h => by simp at h)))

/-- what stays: all but the object that may have moved -/
def stays (mv : Option Nat) : Nat → Bool := fun id => match mv with
  | none => true
  | some m => !Nat.beq id m

/-- what is to be shown of an operation -/
def OpOK (P : Program) (o : Oper) (a : Act) (ι : IM) (w : World) (st : St) (out : Out) : Prop :=
  ∃ v w' ι', (((execOp a.eval o).run P w = .ok (.value v) w') ∨ ((execOp a.eval o).run P w = .ok .skip w' ∧ v = undef)) ∧
    Rel ι' w' out.st ∧ AVRel ι' w' out.st v out.av ∧ Keeps (fun id => stays out.mv id = true) ι w st ι' w' out.st

/-- an operation that leaves the world -/
theorem OpOK.still {P : Program} {o : Oper} {a : Act} {ι : IM} {w : World} {st : St} {av : AV} {ob : List Prop} {hs : HS} (r : Rel ι w st) {v : Value}
    (h : (execOp a.eval o).run P w = .ok (.value v) w) (hv : AVRel ι w st v av) : OpOK P o a ι w st ⟨av, st, ob, hs, none⟩ :=
  ⟨v, w, ι, .inl h, r, hv, .refl⟩

/-! ### scalars -/

def bop (op : BinOp) (x y : Value) : Option (Value × List Prop) :=
  match x, y with
  | .int k a, .int k' b =>
    match op with
    | .shl => some (.int k (k.wrap (a * 2 ^ (min b.toNat k.bits))), [0 ≤ b])
    | .shr => some (.int k (a.fdiv (2 ^ (min b.toNat k.bits))), [0 ≤ b])
    | _ => bif decide (k = k') then
      match op with
      | .add => some (.int k (k.wrap (a + b)), [])
      | .sub => some (.int k (k.wrap (a - b)), [])
      | .mul => some (.int k (k.wrap (a * b)), [])
      | .quo => some (.int k (k.wrap (a.tdiv b)), [b ≠ 0])
      | .rem => some (.int k (a.tmod b), [b ≠ 0])
      | .and => some (.int k (k.wrap (BitVec.ofInt k.bits a &&& BitVec.ofInt k.bits b).toNat), [])
      | .or => some (.int k (k.wrap (BitVec.ofInt k.bits a ||| BitVec.ofInt k.bits b).toNat), [])
      | .xor => some (.int k (k.wrap (BitVec.ofInt k.bits a ^^^ BitVec.ofInt k.bits b).toNat), [])
      | .andNot => some (.int k (k.wrap (BitVec.ofInt k.bits a &&& ~~~ BitVec.ofInt k.bits b).toNat), [])
      | .eql => some (.bool (a == b), [])
      | .neq => some (.bool (a != b), [])
      | .lss => some (.bool (decide (a < b)), [])
      | .leq => some (.bool (decide (a ≤ b)), [])
      | .gtr => some (.bool (decide (b < a)), [])
      | .geq => some (.bool (decide (b ≤ a)), [])
      | _ => none
      else none
  | .string a, .string b =>
    match op with
    | .add => some (.string (a ++ b), [a.size + b.size ≤ 4611686018427387904])
    | .eql => some (.bool (a.toList == b.toList), [])
    | .neq => some (.bool (!(a.toList == b.toList)), [])
    | .lss => some (.bool (Op.bytesLess a.toList b.toList), [])
    | .leq => some (.bool (Op.bytesLess a.toList b.toList || a.toList == b.toList), [])
    | .gtr => some (.bool (!(Op.bytesLess a.toList b.toList || a.toList == b.toList)), [])
    | .geq => some (.bool (!Op.bytesLess a.toList b.toList), [])
    | _ => none
  | _, _ => none

theorem bop_sound {P : Program} {op : BinOp} {t : TypeId} {x y : Value} {px py : Operand} {v : Value} {ob : List Prop} (h : bop op x y = some (v, ob)) (hob : AllP ob) (w : World) :
    (do eqGuard op t px py x y; binOp op t x y : Sem Value).run P w = .ok v w := by
  have hg : (eqGuard op t px py x y).run P w = .ok () w := by
    unfold eqGuard
    cases x <;> simp only [bop] at h <;> try (cases h; done)
    all_goals (cases y <;> simp only at h <;> try (cases h; done))
    all_goals (split <;> rfl)
  rw [Sem.run_bind, hg, Result.andThen_ok]
  unfold bop at h
  split at h
  · rename_i k a k' b
    cases op
    case shl => cases h; obtain ⟨hob, _⟩ := hob; simp [binOp, Op.shift, show ¬ b < 0 from by omega]
    case shr => cases h; obtain ⟨hob, _⟩ := hob; simp [binOp, Op.shift, show ¬ b < 0 from by omega]
    all_goals
      by_cases hk : k = k'
      · subst hk
        simp only [decide_true, cond_true] at h
        first
          | (cases h; done)
          | (cases h; simp [binOp, Op.intArith, Op.intBits, Op.intCmp]; done)
          | (cases h; obtain ⟨hob, _⟩ := hob; simp [binOp, Op.intDiv, hob]; done)
      · simp [hk] at h
  · rename_i a b
    cases op <;> simp only at h <;> try (cases h; done)
    case add =>
      cases h
      obtain ⟨hob, _⟩ := hob
      have hm : ¬ ((a.size + b.size : Nat) : Int) > IntKind.i64.max := by simp [IntKind.max, IntKind.signed, IntKind.bits]; omega
      simp only [binOp, Op.stringOp]
      rw [if_neg hm]
      rfl
    all_goals (cases h; simp [binOp, Op.stringOp])
  · cases h

/-- with truth values -/
def bopT (P : Program) (op : BinOp) (t : TypeId) (x y : Value) : Option (Value × List Prop) :=
  match x with
  | .bool a => match y with
    | .bool b => match P.underlying t with
      | some .bool => match op with
        | .eql => some (.bool (a == b), [])
        | .neq => some (.bool (!(a == b)), [])
        | _ => none
      | _ => none
    | _ => none
  | _ => bop op x y

theorem bopT_sound {P : Program} {op : BinOp} {t : TypeId} {x y : Value} {px py : Operand} {v : Value} {ob : List Prop} (h : bopT P op t x y = some (v, ob)) (hob : AllP ob) (w : World) :
    (do eqGuard op t px py x y; binOp op t x y : Sem Value).run P w = .ok v w := by
  cases x with
  | bool a =>
    cases y <;> simp only [bopT] at h <;> try (cases h; done)
    rename_i b
    split at h
    · rename_i hu
      have he : (Op.equal t (.bool a) (.bool b)).run P w = .ok (a == b) w := run_equalIn_bool w _ t a b hu
      cases op <;> simp only at h <;> try (cases h; done)
      · cases h
        simp [eqGuard, binOp, he]
      · cases h
        simp [eqGuard, binOp, he]
    · cases h
  | _ => simp only [bopT] at h; exact bop_sound h hob w

theorem bopT_plain' {P : Program} {op : BinOp} {t : TypeId} {x y : Value} {r : Value × List Prop} (h : bopT P op t x y = some r) : (∃ b, r.1 = .bool b) ∨ bop op x y = some r := by
  cases x with
  | bool a =>
    cases y <;> simp only [bopT] at h <;> try (cases h; done)
    split at h
    · cases op <;> simp only at h <;> try (cases h; done)
      all_goals (cases h; exact .inl ⟨_, rfl⟩)
    · cases h
  | _ => simp only [bopT] at h; exact .inr h

end Go.SX
