/- The shelf's contract of utf8.ValidString, laid at this program. -/
import Derived.Test.YtdkmclmdemngfaaDoorProg
import Derived.Test.YtdkmclmdemngfaaDoorSxU8
import Derived.Test.YtdkmclmdemngfaaDoorSxGen
namespace Go.Proofs.YtdkmclmdemngfaaDoor
open Go Go.SX Go.Shelf Go.Lib Go.RowKit
set_option linter.unusedVariables false

def u8ren : Ren where
  f := fun n => if n = 196 then 126 else if n = 259 then 132 else n
  t := fun n => if n = 0 then 0 else if n = 3 then 3 else if n = 4 then 4 else if n = 5 then 5 else if n = 9 then 9 else if n = 12 then 12 else if n = 46 then 131 else if n = 53 then 36 else if n = 119 then 133 else if n = 138 then 135 else if n = 139 then 136 else n
  g := fun n => if n = 3 then 1 else if n = 4 then 2 else n

set_option maxRecDepth 100000 in
theorem u8lays : Lays.n196 Tryd.prog u8ren where
  mixed := by kernel_rfl
  f196 := by kernel_rfl
  f259 := by kernel_rfl
  t0 := by kernel_rfl
  a0 := fun w => by kernel_rfl
  z0 := fun w => by kernel_rfl
  v0 := fun w => by kernel_rfl
  t3 := by kernel_rfl
  a3 := fun w => by kernel_rfl
  z3 := fun w => by kernel_rfl
  v3 := fun w => by kernel_rfl
  t4 := by kernel_rfl
  a4 := fun w => by kernel_rfl
  z4 := fun w => by kernel_rfl
  v4 := fun w => by kernel_rfl
  t5 := by kernel_rfl
  a5 := fun w => by kernel_rfl
  z5 := fun w => by kernel_rfl
  v5 := fun w => by kernel_rfl
  t9 := by kernel_rfl
  a9 := fun w => by kernel_rfl
  z9 := fun w => by kernel_rfl
  v9 := fun w => by kernel_rfl
  t12 := by kernel_rfl
  a12 := fun w => by kernel_rfl
  z12 := fun w => by kernel_rfl
  v12 := fun w => by kernel_rfl
  t46 := by kernel_rfl
  a46 := fun w => by kernel_rfl
  z46 := fun w => by kernel_rfl
  v46 := fun w => by kernel_rfl
  t53 := by kernel_rfl
  a53 := fun w => by kernel_rfl
  z53 := fun w => by kernel_rfl
  v53 := fun w => by kernel_rfl
  t119 := by kernel_rfl
  a119 := fun w => by kernel_rfl
  z119 := fun w => by kernel_rfl
  t138 := by kernel_rfl
  a138 := fun w => by kernel_rfl
  z138 := fun w => by kernel_rfl
  v138 := fun w => by kernel_rfl
  t139 := by kernel_rfl
  a139 := fun w => by kernel_rfl
  z139 := fun w => by kernel_rfl
  v139 := fun w => by kernel_rfl
  g3 := by kernel_rfl
  g4 := by kernel_rfl

def utf8_ValidString (p1 : ByteArray) : Option Bool := grd (p1.size ≤ 9223372036854775807) <| some (validD p1.data.toList)

theorem c_utf8_ValidString (p1 : ByteArray) (r : Bool) (h : utf8_ValidString p1 = some r) : PC Tryd.prog 126 [vs p1] (vb r) := by
  unfold utf8_ValidString at h
  obtain ⟨g1, h⟩ := grd_some h
  obtain rfl := Option.some.inj h
  exact pc_validString u8lays (by kernel_rfl) (by kernel_rfl) p1 g1

end Go.Proofs.YtdkmclmdemngfaaDoor
