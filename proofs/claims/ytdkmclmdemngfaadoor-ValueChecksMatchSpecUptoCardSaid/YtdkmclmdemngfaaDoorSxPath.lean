/- SX, seventeenth part: pieces of code by their paths; pure data. -/
import Derived.Test.YtdkmclmdemngfaaDoorSxFun
namespace Go.SX
open Go
set_option linter.unusedVariables false

def sub : List Nat → Code → Code
  | [], c => c
  | 0 :: p, .seq a _ => sub p a
  | 1 :: p, .seq _ b => sub p b
  | 0 :: p, .cond _ a _ => sub p a
  | 1 :: p, .cond _ _ b => sub p b
  | _ :: p, .block _ a => sub p a
  | _ :: p, .loop a => sub p a
  | _, _ => .skip

def cd (fn : Func) (p : List Nat) : Code := sub p (fn.body.getD .skip)

/-- the pieces of code that rules take apart -/
def asSeq : Code → Option (Code × Code)
  | .seq a b => some (a, b)
  | _ => none

abbrev vi (n : Int) : AV := .one (.pv (.s (.int .i64 n)))
abbrev vb (b : Bool) : AV := .one (.pv (.s (.bool b)))
abbrev vs (s : ByteArray) : AV := .one (.pv (.s (.string s)))
abbrev vp (p : PV) : AV := .one (.pv p)
abbrev pi (n : Int) : PV := .s (.int .i64 n)

/-- []int -/
def encInts (xs : List Int) : PV := .ro (xs.map fun x => [pi x])

theorem get_ints {xs : List Int} {i : Int} (h0 : 0 ≤ i) (h1 : i < xs.length) : (xs.map fun x => [pi x])[i.toNat]? = some [pi (xs.getD i.toNat 0)] := by
  have : i.toNat < xs.length := by omega
  simp [List.getD, this]

theorem ok_ints {xs : List Int} : elemsOk 1 (xs.map fun x => [pi x]) := by
  intro e he
  simp only [List.mem_map] at he
  obtain ⟨x, _, rfl⟩ := he
  rfl

end Go.SX
