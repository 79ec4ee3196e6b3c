/- The program's data as Lean's, with their cells. -/
import Derived.Test.YtdkmclmdemngfaaDoorSxGen
namespace Go.SX
open Go

structure GCivil where
  year : Int
  month : Int
  day : Int
  hour : Int
  minute : Int
  second : Int
  deriving DecidableEq

structure GTurn where
  month : Int
  week : Int
  weekday : Int
  minute : Int
  deriving DecidableEq

structure GZone where
  name : ByteArray
  offset : Int
  summer : Int
  start : GTurn
  stop : GTurn
  deriving DecidableEq

structure GWide where
  neg : Bool
  size : Int × Int × Int × Int
  deriving DecidableEq

structure GChecker where
  leaves : Int
  deriving DecidableEq

structure RWide where
  below : Bool
  d : List Int
  deriving DecidableEq

structure FieldP (α : Type) where
  id : Int
  name : ByteArray
  need : Bool
  type : α

structure GType where
  kind : Int
  scale : Int
  fields : List (FieldP GType)

abbrev GField := FieldP GType

structure GValue where
  kind : Int
  n : Int
  scale : Int
  s : ByteArray
  items : List GValue

mutual
def GType.cells : GType → List PV
  | ⟨k, s, fs⟩ => [pi k, pi s, .ro (GType.fcells fs)]
def GType.fcells : List (FieldP GType) → List (List PV)
  | [] => []
  | f :: l => GType.fcell f :: GType.fcells l
def GType.fcell : FieldP GType → List PV
  | ⟨i, n, q, t⟩ => pi i :: .s (.string n) :: .s (.bool q) :: GType.cells t
end

mutual
def GValue.cells : GValue → List PV
  | ⟨k, n, sc, s, it⟩ => [pi k, pi n, pi sc, .s (.string s), .ro (GValue.lcells it)]
def GValue.lcells : List GValue → List (List PV)
  | [] => []
  | v :: l => GValue.cells v :: GValue.lcells l
end

theorem GType.fcells_eq : ∀ l : List (FieldP GType), GType.fcells l = l.map GType.fcell
  | [] => rfl
  | f :: l => by rw [GType.fcells, GType.fcells_eq l]; rfl

theorem GValue.lcells_eq : ∀ l : List GValue, GValue.lcells l = l.map GValue.cells
  | [] => rfl
  | f :: l => by rw [GValue.lcells, GValue.lcells_eq l]; rfl

def eField : Enc GField := ⟨6, GType.fcell, GType.fcells, GType.fcells_eq, fun ⟨_, _, _, ⟨_, _, _⟩⟩ => rfl⟩
def eType : Enc GType := .of 3 GType.cells (fun ⟨_, _, _⟩ => rfl)
def eValue : Enc GValue := ⟨5, GValue.cells, GValue.lcells, GValue.lcells_eq, fun ⟨_, _, _, _, _⟩ => rfl⟩
def eTurn : Enc GTurn := .of 4 (fun x => [pi x.month, pi x.week, pi x.weekday, pi x.minute]) (fun _ => rfl)
def eZone : Enc GZone := .of 11 (fun x => [.s (.string x.name), pi x.offset, pi x.summer, pi x.start.month, pi x.start.week, pi x.start.weekday, pi x.start.minute, pi x.stop.month, pi x.stop.week, pi x.stop.weekday, pi x.stop.minute]) (fun _ => rfl)
def eCivil : Enc GCivil := .of 6 (fun x => [pi x.year, pi x.month, pi x.day, pi x.hour, pi x.minute, pi x.second]) (fun _ => rfl)

def eChecker : Enc GChecker := .of 1 (fun x => [pi x.leaves]) (fun _ => rfl)

end Go.SX
