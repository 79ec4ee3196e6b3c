/- The shelf's contract of utf8.ValidString, laid at this program. The library of texts: its contracts of the shelf, laid at this program. Decimal numerals: what is read of what is written. Texts in quotes: a quote inside is written twice. Texts as lists of bytes. What the functions of Go's library of texts compute, and the reader's piece in quotes. The library of texts: what its functions compute, by the shelf's contracts. Printed by a program: what the functions compute, and the proofs of their contracts. The reader's piece in quotes: (*reader).quoted walks as quo says. Printed by a program: what the functions compute, and the proofs of their contracts. -/
import Derived.Test.YtpmoopnkoknbeaaGreatDoorProg
import Derived.Shelf.Strings.SlTrimAscii
import Derived.Shelf.Strconv.AtoiAll
import Derived.Shelf.Strconv.Itoa3
import Derived.Shelf.Strings.Repeat
import Derived.Shelf.Strings.Replace
import Derived.Shelf.Strings.Cut
import Derived.Shelf.Strings.BuilderK
import Derived.Shelf.Strings.OnBuilder
import Derived.Lib.AtoiAllCases
import Derived.Lib.ItoaNum
import Derived.Lib.Replace
import Derived.Lib.IndexMore
import Derived.Lib.Repeat
import Derived.Lib.SlTrimSet
import Derived.Lib.Join
import Derived.Lib.AtoiAll
import Derived.Lib.CountLaws
import Derived.Lib.AtoiErrMem
import Derived.Test.YtpmoopnkoknbeaaGreatDoorChecked
import Derived.WalkKit
import Derived.BigCall
import Derived.Test.YtpmoopnkoknbeaaGreatDoorSxC
set_option linter.unusedVariables false
set_option linter.unusedSimpArgs false
set_option linter.unnecessarySimpa false
namespace Go.Proofs.YtpmoopnkoknbeaaGreatDoor
open Go Go.SX Go.Shelf Go.Lib
set_option linter.unusedVariables false

def u8ren : Ren where
  f := fun n => if n = 196 then 162 else if n = 259 then 192 else n
  t := fun n => if n = 0 then 0 else if n = 3 then 3 else if n = 4 then 4 else if n = 5 then 5 else if n = 9 then 9 else if n = 12 then 12 else if n = 46 then 173 else if n = 53 then 86 else if n = 119 then 196 else if n = 138 then 198 else if n = 139 then 199 else n
  g := fun n => if n = 3 then 3 else if n = 4 then 4 else n

set_option maxRecDepth 100000 in
theorem u8lays : Lays.n196 Tryz.prog u8ren where
  mixed := by kernel_rfl
  f196 := by kernel_rfl
  f259 := by kernel_rfl
  t0 := by kernel_rfl
  a0 := fun w => by kernel_rfl
  z0 := fun w => by kernel_rfl
  v0 := fun w => by kernel_rfl
  t3 := by kernel_rfl
  a3 := fun w => by kernel_rfl
  z3 := fun w => by kernel_rfl
  v3 := fun w => by kernel_rfl
  t4 := by kernel_rfl
  a4 := fun w => by kernel_rfl
  z4 := fun w => by kernel_rfl
  v4 := fun w => by kernel_rfl
  t5 := by kernel_rfl
  a5 := fun w => by kernel_rfl
  z5 := fun w => by kernel_rfl
  v5 := fun w => by kernel_rfl
  t9 := by kernel_rfl
  a9 := fun w => by kernel_rfl
  z9 := fun w => by kernel_rfl
  v9 := fun w => by kernel_rfl
  t12 := by kernel_rfl
  a12 := fun w => by kernel_rfl
  z12 := fun w => by kernel_rfl
  v12 := fun w => by kernel_rfl
  t46 := by kernel_rfl
  a46 := fun w => by kernel_rfl
  z46 := fun w => by kernel_rfl
  v46 := fun w => by kernel_rfl
  t53 := by kernel_rfl
  a53 := fun w => by kernel_rfl
  z53 := fun w => by kernel_rfl
  v53 := fun w => by kernel_rfl
  t119 := by kernel_rfl
  a119 := fun w => by kernel_rfl
  z119 := fun w => by kernel_rfl
  t138 := by kernel_rfl
  a138 := fun w => by kernel_rfl
  z138 := fun w => by kernel_rfl
  v138 := fun w => by kernel_rfl
  t139 := by kernel_rfl
  a139 := fun w => by kernel_rfl
  z139 := fun w => by kernel_rfl
  v139 := fun w => by kernel_rfl
  g3 := by kernel_rfl
  g4 := by kernel_rfl

def utf8_ValidString (p1 : ByteArray) : Option Bool := grd (p1.size ≤ 9223372036854775807) <| some (validD p1.data.toList)

theorem c_utf8_ValidString (p1 : ByteArray) (r : Bool) (h : utf8_ValidString p1 = some r) : PC Tryz.prog 162 [vs p1] (vb r) := by
  unfold utf8_ValidString at h
  obtain ⟨g1, h⟩ := grd_some h
  obtain rfl := Option.some.inj h
  exact pc_validString u8lays (by kernel_rfl) (by kernel_rfl) p1 g1

end Go.Proofs.YtpmoopnkoknbeaaGreatDoor
namespace Go.Proofs.YtpmoopnkoknbeaaGreatDoor
open Go Go.SX Go.Shelf Go.Lib Go.Proofs Go.RowKit
set_option linter.unusedVariables false

def lren : Ren where
  f := fun n => if n = 99 then 168 else if n = 105 then 131 else if n = 119 then 205 else if n = 129 then 194 else if n = 137 then 204 else if n = 138 then 132 else if n = 143 then 133 else if n = 145 then 80 else if n = 151 then 158 else if n = 152 then 187 else if n = 154 then 96 else if n = 155 then 52 else if n = 156 then 54 else if n = 161 then 79 else if n = 165 then 98 else if n = 166 then 81 else if n = 169 then 82 else if n = 170 then 169 else if n = 171 then 50 else if n = 172 then 78 else if n = 195 then 170 else if n = 197 then 134 else if n = 205 then 186 else if n = 206 then 151 else if n = 212 then 167 else if n = 217 then 188 else if n = 218 then 171 else if n = 219 then 159 else if n = 220 then 124 else if n = 224 then 190 else if n = 225 then 189 else if n = 227 then 121 else if n = 228 then 157 else if n = 231 then 120 else if n = 233 then 122 else if n = 235 then 123 else if n = 240 then 125 else if n = 241 then 137 else if n = 243 then 94 else if n = 244 then 118 else if n = 245 then 119 else if n = 246 then 130 else if n = 247 then 152 else if n = 260 then 172 else if n = 263 then 198 else if n = 264 then 174 else if n = 266 then 206 else if n = 267 then 191 else if n = 276 then 160 else if n = 277 then 173 else if n = 279 then 153 else if n = 280 then 154 else if n = 281 then 155 else if n = 282 then 156 else if n = 283 then 163 else if n = 284 then 164 else if n = 285 then 165 else if n = 286 then 166 else if n = 287 then 184 else if n = 314 then 207 else if n = 316 then 185 else if n = 317 then 193 else if n = 318 then 195 else if n = 319 then 196 else if n = 320 then 197 else if n = 321 then 202 else if n = 322 then 203 else if n = 337 then 208 else if n = 338 then 209 else n
  t := fun n => if n = 0 then 0 else if n = 2 then 2 else if n = 3 then 3 else if n = 4 then 4 else if n = 5 then 5 else if n = 9 then 9 else if n = 20 then 20 else if n = 21 then 21 else if n = 31 then 70 else if n = 37 then 100 else if n = 46 then 173 else if n = 51 then 202 else if n = 53 then 86 else if n = 59 then 103 else if n = 70 then 99 else if n = 72 then 102 else if n = 75 then 95 else if n = 76 then 96 else if n = 80 then 60 else if n = 85 then 159 else if n = 105 then 138 else if n = 109 then 174 else if n = 116 then 128 else if n = 117 then 129 else if n = 119 then 196 else if n = 124 then 132 else if n = 127 then 133 else if n = 138 then 198 else if n = 139 then 199 else if n = 143 then 209 else if n = 145 then 211 else if n = 146 then 205 else if n = 148 then 178 else if n = 164 then 166 else if n = 167 then 158 else if n = 168 then 161 else if n = 171 then 168 else if n = 173 then 171 else if n = 175 then 189 else if n = 210 then 192 else if n = 212 then 201 else if n = 213 then 203 else if n = 232 then 214 else if n = 233 then 215 else n
  g := fun n => if n = 1 then 2 else if n = 3 then 3 else if n = 4 then 4 else if n = 15 then 0 else if n = 16 then 1 else if n = 17 then 5 else if n = 18 then 6 else if n = 19 then 7 else n

set_option maxRecDepth 100000 in
theorem l171 : LaysM.n171 Tryz.prog lren where
  mixed := by kernel_rfl
  f129 := by kernel_rfl
  f171 := by kernel_rfl
  f243 := by kernel_rfl
  f246 := by kernel_rfl
  f283 := by kernel_rfl
  f284 := by kernel_rfl
  f285 := by kernel_rfl
  f286 := by kernel_rfl
  f317 := by kernel_rfl
  f318 := by kernel_rfl
  f319 := by kernel_rfl
  f320 := by kernel_rfl
  f337 := by kernel_rfl
  f338 := by kernel_rfl
  t0 := by kernel_rfl
  a0 := fun w => by kernel_rfl
  z0 := fun w => by kernel_rfl
  v0 := fun w => by kernel_rfl
  t2 := by kernel_rfl
  a2 := fun w => by kernel_rfl
  z2 := fun w => by kernel_rfl
  v2 := fun w => by kernel_rfl
  t3 := by kernel_rfl
  a3 := fun w => by kernel_rfl
  z3 := fun w => by kernel_rfl
  v3 := fun w => by kernel_rfl
  t4 := by kernel_rfl
  a4 := fun w => by kernel_rfl
  z4 := fun w => by kernel_rfl
  v4 := fun w => by kernel_rfl
  t5 := by kernel_rfl
  a5 := fun w => by kernel_rfl
  z5 := fun w => by kernel_rfl
  v5 := fun w => by kernel_rfl
  t9 := by kernel_rfl
  a9 := fun w => by kernel_rfl
  z9 := fun w => by kernel_rfl
  v9 := fun w => by kernel_rfl
  t20 := by kernel_rfl
  a20 := fun w => by kernel_rfl
  z20 := fun w => by kernel_rfl
  v20 := fun w => by kernel_rfl
  t37 := by kernel_rfl
  a37 := fun w => by kernel_rfl
  z37 := fun w => by kernel_rfl
  v37 := fun w => by kernel_rfl
  t46 := by kernel_rfl
  a46 := fun w => by kernel_rfl
  z46 := fun w => by kernel_rfl
  v46 := fun w => by kernel_rfl
  t51 := by kernel_rfl
  a51 := fun w => by kernel_rfl
  z51 := fun w => by kernel_rfl
  v51 := fun w => by kernel_rfl
  t53 := by kernel_rfl
  a53 := fun w => by kernel_rfl
  z53 := fun w => by kernel_rfl
  v53 := fun w => by kernel_rfl
  t171 := by kernel_rfl
  a171 := fun w => by kernel_rfl
  z171 := fun w => by kernel_rfl
  v171 := fun w => by kernel_rfl
  t173 := by kernel_rfl
  a173 := fun w => by kernel_rfl
  z173 := fun w => by kernel_rfl
  v173 := fun w => by kernel_rfl
  t212 := by kernel_rfl
  a212 := fun w => by kernel_rfl
  z212 := fun w => by kernel_rfl
  v212 := fun w => by kernel_rfl
  t213 := by kernel_rfl
  a213 := fun w => by kernel_rfl
  z213 := fun w => by kernel_rfl
  t232 := by kernel_rfl
  a232 := fun w => by kernel_rfl
  z232 := fun w => by kernel_rfl
  v232 := fun w => by kernel_rfl
  t233 := by kernel_rfl
  a233 := fun w => by kernel_rfl
  z233 := fun w => by kernel_rfl
  v233 := fun w => by kernel_rfl
  g17 := by kernel_rfl
  g18 := by kernel_rfl
  g19 := by kernel_rfl
  i0 := by kernel_rfl
  i2 := by kernel_rfl
  i3 := by kernel_rfl
  i4 := by kernel_rfl
  i5 := by kernel_rfl
  i9 := by kernel_rfl
  i20 := by kernel_rfl
  i37 := by kernel_rfl
  i46 := by kernel_rfl
  i51 := by kernel_rfl
  i53 := by kernel_rfl
  i171 := by kernel_rfl
  i173 := by kernel_rfl
  i212 := by kernel_rfl
  i232 := by kernel_rfl
  i233 := by kernel_rfl
  m17 := by kernel_rfl
  m18 := by kernel_rfl
  m19 := by kernel_rfl

set_option maxRecDepth 100000 in
theorem l105 : Lays.n105 Tryz.prog lren where
  mixed := by kernel_rfl
  f99 := by kernel_rfl
  f105 := by kernel_rfl
  f165 := by kernel_rfl
  f166 := by kernel_rfl
  f169 := by kernel_rfl
  f170 := by kernel_rfl
  f206 := by kernel_rfl
  f212 := by kernel_rfl
  f240 := by kernel_rfl
  f241 := by kernel_rfl
  f263 := by kernel_rfl
  f264 := by kernel_rfl
  f276 := by kernel_rfl
  f277 := by kernel_rfl
  t0 := by kernel_rfl
  a0 := fun w => by kernel_rfl
  z0 := fun w => by kernel_rfl
  v0 := fun w => by kernel_rfl
  t3 := by kernel_rfl
  a3 := fun w => by kernel_rfl
  z3 := fun w => by kernel_rfl
  v3 := fun w => by kernel_rfl
  t4 := by kernel_rfl
  a4 := fun w => by kernel_rfl
  z4 := fun w => by kernel_rfl
  v4 := fun w => by kernel_rfl
  t5 := by kernel_rfl
  a5 := fun w => by kernel_rfl
  z5 := fun w => by kernel_rfl
  v5 := fun w => by kernel_rfl
  t9 := by kernel_rfl
  a9 := fun w => by kernel_rfl
  z9 := fun w => by kernel_rfl
  v9 := fun w => by kernel_rfl
  t20 := by kernel_rfl
  a20 := fun w => by kernel_rfl
  z20 := fun w => by kernel_rfl
  v20 := fun w => by kernel_rfl
  t37 := by kernel_rfl
  a37 := fun w => by kernel_rfl
  z37 := fun w => by kernel_rfl
  v37 := fun w => by kernel_rfl
  t46 := by kernel_rfl
  a46 := fun w => by kernel_rfl
  z46 := fun w => by kernel_rfl
  v46 := fun w => by kernel_rfl
  t51 := by kernel_rfl
  a51 := fun w => by kernel_rfl
  z51 := fun w => by kernel_rfl
  v51 := fun w => by kernel_rfl
  t53 := by kernel_rfl
  a53 := fun w => by kernel_rfl
  z53 := fun w => by kernel_rfl
  v53 := fun w => by kernel_rfl
  t70 := by kernel_rfl
  a70 := fun w => by kernel_rfl
  z70 := fun w => by kernel_rfl
  v70 := fun w => by kernel_rfl
  t72 := by kernel_rfl
  a72 := fun w => by kernel_rfl
  z72 := fun w => by kernel_rfl
  v72 := fun w => by kernel_rfl
  t75 := by kernel_rfl
  a75 := fun w => by kernel_rfl
  z75 := fun w => by kernel_rfl
  v75 := fun w => by kernel_rfl
  t76 := by kernel_rfl
  a76 := fun w => by kernel_rfl
  z76 := fun w => by kernel_rfl
  v76 := fun w => by kernel_rfl
  t109 := by kernel_rfl
  a109 := fun w => by kernel_rfl
  z109 := fun w => by kernel_rfl
  v109 := fun w => by kernel_rfl
  t127 := by kernel_rfl
  a127 := fun w => by kernel_rfl
  z127 := fun w => by kernel_rfl
  v127 := fun w => by kernel_rfl
  t146 := by kernel_rfl
  a146 := fun w => by kernel_rfl
  z146 := fun w => by kernel_rfl
  v146 := fun w => by kernel_rfl
  t148 := by kernel_rfl
  a148 := fun w => by kernel_rfl
  z148 := fun w => by kernel_rfl
  v148 := fun w => by kernel_rfl
  t164 := by kernel_rfl
  a164 := fun w => by kernel_rfl
  z164 := fun w => by kernel_rfl
  v164 := fun w => by kernel_rfl

set_option maxRecDepth 100000 in
theorem l155 : Lays.n155 Tryz.prog lren where
  mixed := by kernel_rfl
  f138 := by kernel_rfl
  f143 := by kernel_rfl
  f154 := by kernel_rfl
  f155 := by kernel_rfl
  f165 := by kernel_rfl
  f166 := by kernel_rfl
  f169 := by kernel_rfl
  f195 := by kernel_rfl
  f197 := by kernel_rfl
  f217 := by kernel_rfl
  f218 := by kernel_rfl
  f219 := by kernel_rfl
  f224 := by kernel_rfl
  f225 := by kernel_rfl
  f240 := by kernel_rfl
  f241 := by kernel_rfl
  f260 := by kernel_rfl
  f266 := by kernel_rfl
  f267 := by kernel_rfl
  f276 := by kernel_rfl
  f277 := by kernel_rfl
  f314 := by kernel_rfl
  t0 := by kernel_rfl
  a0 := fun w => by kernel_rfl
  z0 := fun w => by kernel_rfl
  v0 := fun w => by kernel_rfl
  t3 := by kernel_rfl
  a3 := fun w => by kernel_rfl
  z3 := fun w => by kernel_rfl
  v3 := fun w => by kernel_rfl
  t4 := by kernel_rfl
  a4 := fun w => by kernel_rfl
  z4 := fun w => by kernel_rfl
  v4 := fun w => by kernel_rfl
  t5 := by kernel_rfl
  a5 := fun w => by kernel_rfl
  z5 := fun w => by kernel_rfl
  v5 := fun w => by kernel_rfl
  t9 := by kernel_rfl
  a9 := fun w => by kernel_rfl
  z9 := fun w => by kernel_rfl
  v9 := fun w => by kernel_rfl
  t20 := by kernel_rfl
  a20 := fun w => by kernel_rfl
  z20 := fun w => by kernel_rfl
  v20 := fun w => by kernel_rfl
  t21 := by kernel_rfl
  a21 := fun w => by kernel_rfl
  z21 := fun w => by kernel_rfl
  v21 := fun w => by kernel_rfl
  t37 := by kernel_rfl
  a37 := fun w => by kernel_rfl
  z37 := fun w => by kernel_rfl
  v37 := fun w => by kernel_rfl
  t46 := by kernel_rfl
  a46 := fun w => by kernel_rfl
  z46 := fun w => by kernel_rfl
  v46 := fun w => by kernel_rfl
  t51 := by kernel_rfl
  a51 := fun w => by kernel_rfl
  z51 := fun w => by kernel_rfl
  v51 := fun w => by kernel_rfl
  t70 := by kernel_rfl
  a70 := fun w => by kernel_rfl
  z70 := fun w => by kernel_rfl
  v70 := fun w => by kernel_rfl
  t72 := by kernel_rfl
  a72 := fun w => by kernel_rfl
  z72 := fun w => by kernel_rfl
  v72 := fun w => by kernel_rfl
  t75 := by kernel_rfl
  a75 := fun w => by kernel_rfl
  z75 := fun w => by kernel_rfl
  v75 := fun w => by kernel_rfl
  t76 := by kernel_rfl
  a76 := fun w => by kernel_rfl
  z76 := fun w => by kernel_rfl
  v76 := fun w => by kernel_rfl
  t105 := by kernel_rfl
  a105 := fun w => by kernel_rfl
  z105 := fun w => by kernel_rfl
  v105 := fun w => by kernel_rfl
  t119 := by kernel_rfl
  a119 := fun w => by kernel_rfl
  z119 := fun w => by kernel_rfl
  t127 := by kernel_rfl
  a127 := fun w => by kernel_rfl
  z127 := fun w => by kernel_rfl
  v127 := fun w => by kernel_rfl
  t138 := by kernel_rfl
  a138 := fun w => by kernel_rfl
  z138 := fun w => by kernel_rfl
  v138 := fun w => by kernel_rfl
  t139 := by kernel_rfl
  a139 := fun w => by kernel_rfl
  z139 := fun w => by kernel_rfl
  v139 := fun w => by kernel_rfl
  t146 := by kernel_rfl
  a146 := fun w => by kernel_rfl
  z146 := fun w => by kernel_rfl
  v146 := fun w => by kernel_rfl
  t164 := by kernel_rfl
  a164 := fun w => by kernel_rfl
  z164 := fun w => by kernel_rfl
  v164 := fun w => by kernel_rfl
  g1 := by kernel_rfl
  g3 := by kernel_rfl
  g4 := by kernel_rfl

set_option maxRecDepth 100000 in
theorem l156 : Lays.n156 Tryz.prog lren where
  mixed := by kernel_rfl
  f156 := by kernel_rfl
  f165 := by kernel_rfl
  f166 := by kernel_rfl
  f169 := by kernel_rfl
  f240 := by kernel_rfl
  f241 := by kernel_rfl
  f276 := by kernel_rfl
  f277 := by kernel_rfl
  t0 := by kernel_rfl
  a0 := fun w => by kernel_rfl
  z0 := fun w => by kernel_rfl
  v0 := fun w => by kernel_rfl
  t3 := by kernel_rfl
  a3 := fun w => by kernel_rfl
  z3 := fun w => by kernel_rfl
  v3 := fun w => by kernel_rfl
  t4 := by kernel_rfl
  a4 := fun w => by kernel_rfl
  z4 := fun w => by kernel_rfl
  v4 := fun w => by kernel_rfl
  t9 := by kernel_rfl
  a9 := fun w => by kernel_rfl
  z9 := fun w => by kernel_rfl
  v9 := fun w => by kernel_rfl
  t20 := by kernel_rfl
  a20 := fun w => by kernel_rfl
  z20 := fun w => by kernel_rfl
  v20 := fun w => by kernel_rfl
  t31 := by kernel_rfl
  a31 := fun w => by kernel_rfl
  z31 := fun w => by kernel_rfl
  v31 := fun w => by kernel_rfl
  t37 := by kernel_rfl
  a37 := fun w => by kernel_rfl
  z37 := fun w => by kernel_rfl
  v37 := fun w => by kernel_rfl
  t70 := by kernel_rfl
  a70 := fun w => by kernel_rfl
  z70 := fun w => by kernel_rfl
  v70 := fun w => by kernel_rfl
  t72 := by kernel_rfl
  a72 := fun w => by kernel_rfl
  z72 := fun w => by kernel_rfl
  v72 := fun w => by kernel_rfl
  t75 := by kernel_rfl
  a75 := fun w => by kernel_rfl
  z75 := fun w => by kernel_rfl
  v75 := fun w => by kernel_rfl
  t76 := by kernel_rfl
  a76 := fun w => by kernel_rfl
  z76 := fun w => by kernel_rfl
  v76 := fun w => by kernel_rfl
  t127 := by kernel_rfl
  a127 := fun w => by kernel_rfl
  z127 := fun w => by kernel_rfl
  v127 := fun w => by kernel_rfl
  t164 := by kernel_rfl
  a164 := fun w => by kernel_rfl
  z164 := fun w => by kernel_rfl
  v164 := fun w => by kernel_rfl

set_option maxRecDepth 100000 in
theorem l161 : Lays.n161 Tryz.prog lren where
  mixed := by kernel_rfl
  f119 := by kernel_rfl
  f137 := by kernel_rfl
  f151 := by kernel_rfl
  f152 := by kernel_rfl
  f161 := by kernel_rfl
  f197 := by kernel_rfl
  f217 := by kernel_rfl
  f224 := by kernel_rfl
  f225 := by kernel_rfl
  f227 := by kernel_rfl
  f228 := by kernel_rfl
  f231 := by kernel_rfl
  f233 := by kernel_rfl
  f235 := by kernel_rfl
  f260 := by kernel_rfl
  f266 := by kernel_rfl
  t0 := by kernel_rfl
  a0 := fun w => by kernel_rfl
  z0 := fun w => by kernel_rfl
  v0 := fun w => by kernel_rfl
  t3 := by kernel_rfl
  a3 := fun w => by kernel_rfl
  z3 := fun w => by kernel_rfl
  v3 := fun w => by kernel_rfl
  t4 := by kernel_rfl
  a4 := fun w => by kernel_rfl
  z4 := fun w => by kernel_rfl
  v4 := fun w => by kernel_rfl
  t5 := by kernel_rfl
  a5 := fun w => by kernel_rfl
  z5 := fun w => by kernel_rfl
  v5 := fun w => by kernel_rfl
  t9 := by kernel_rfl
  a9 := fun w => by kernel_rfl
  z9 := fun w => by kernel_rfl
  v9 := fun w => by kernel_rfl
  t21 := by kernel_rfl
  a21 := fun w => by kernel_rfl
  z21 := fun w => by kernel_rfl
  v21 := fun w => by kernel_rfl
  t46 := by kernel_rfl
  a46 := fun w => by kernel_rfl
  z46 := fun w => by kernel_rfl
  v46 := fun w => by kernel_rfl
  t105 := by kernel_rfl
  a105 := fun w => by kernel_rfl
  z105 := fun w => by kernel_rfl
  v105 := fun w => by kernel_rfl
  t116 := by kernel_rfl
  a116 := fun w => by kernel_rfl
  z116 := fun w => by kernel_rfl
  t117 := by kernel_rfl
  a117 := fun w => by kernel_rfl
  z117 := fun w => by kernel_rfl
  v117 := fun w => by kernel_rfl
  t119 := by kernel_rfl
  a119 := fun w => by kernel_rfl
  z119 := fun w => by kernel_rfl
  t124 := by kernel_rfl
  a124 := fun w => by kernel_rfl
  z124 := fun w => by kernel_rfl
  v124 := fun w => by kernel_rfl
  t138 := by kernel_rfl
  a138 := fun w => by kernel_rfl
  z138 := fun w => by kernel_rfl
  v138 := fun w => by kernel_rfl
  t139 := by kernel_rfl
  a139 := fun w => by kernel_rfl
  z139 := fun w => by kernel_rfl
  v139 := fun w => by kernel_rfl
  g3 := by kernel_rfl
  g4 := by kernel_rfl

set_option maxRecDepth 100000 in
theorem l172 : LaysC.n172 Tryz.prog lren where
  mixed := by kernel_rfl
  f129 := by kernel_rfl
  f171 := by kernel_rfl
  f172 := by kernel_rfl
  f205 := by kernel_rfl
  f243 := by kernel_rfl
  f244 := by kernel_rfl
  f245 := by kernel_rfl
  f246 := by kernel_rfl
  f247 := by kernel_rfl
  f279 := by kernel_rfl
  f280 := by kernel_rfl
  f281 := by kernel_rfl
  f282 := by kernel_rfl
  f283 := by kernel_rfl
  f284 := by kernel_rfl
  f285 := by kernel_rfl
  f286 := by kernel_rfl
  f287 := by kernel_rfl
  f316 := by kernel_rfl
  f317 := by kernel_rfl
  f318 := by kernel_rfl
  f319 := by kernel_rfl
  f320 := by kernel_rfl
  f321 := by kernel_rfl
  f322 := by kernel_rfl
  f337 := by kernel_rfl
  f338 := by kernel_rfl
  t0 := by kernel_rfl
  a0 := fun w => by kernel_rfl
  z0 := fun w => by kernel_rfl
  v0 := fun w => by kernel_rfl
  t2 := by kernel_rfl
  a2 := fun w => by kernel_rfl
  z2 := fun w => by kernel_rfl
  v2 := fun w => by kernel_rfl
  t3 := by kernel_rfl
  a3 := fun w => by kernel_rfl
  z3 := fun w => by kernel_rfl
  v3 := fun w => by kernel_rfl
  t4 := by kernel_rfl
  a4 := fun w => by kernel_rfl
  z4 := fun w => by kernel_rfl
  v4 := fun w => by kernel_rfl
  t5 := by kernel_rfl
  a5 := fun w => by kernel_rfl
  z5 := fun w => by kernel_rfl
  v5 := fun w => by kernel_rfl
  t9 := by kernel_rfl
  a9 := fun w => by kernel_rfl
  z9 := fun w => by kernel_rfl
  v9 := fun w => by kernel_rfl
  t20 := by kernel_rfl
  a20 := fun w => by kernel_rfl
  z20 := fun w => by kernel_rfl
  v20 := fun w => by kernel_rfl
  t21 := by kernel_rfl
  a21 := fun w => by kernel_rfl
  z21 := fun w => by kernel_rfl
  v21 := fun w => by kernel_rfl
  t37 := by kernel_rfl
  a37 := fun w => by kernel_rfl
  z37 := fun w => by kernel_rfl
  v37 := fun w => by kernel_rfl
  t46 := by kernel_rfl
  a46 := fun w => by kernel_rfl
  z46 := fun w => by kernel_rfl
  v46 := fun w => by kernel_rfl
  t51 := by kernel_rfl
  a51 := fun w => by kernel_rfl
  z51 := fun w => by kernel_rfl
  v51 := fun w => by kernel_rfl
  t53 := by kernel_rfl
  a53 := fun w => by kernel_rfl
  z53 := fun w => by kernel_rfl
  v53 := fun w => by kernel_rfl
  t75 := by kernel_rfl
  a75 := fun w => by kernel_rfl
  z75 := fun w => by kernel_rfl
  v75 := fun w => by kernel_rfl
  t76 := by kernel_rfl
  a76 := fun w => by kernel_rfl
  z76 := fun w => by kernel_rfl
  v76 := fun w => by kernel_rfl
  t85 := by kernel_rfl
  a85 := fun w => by kernel_rfl
  z85 := fun w => by kernel_rfl
  v85 := fun w => by kernel_rfl
  t127 := by kernel_rfl
  a127 := fun w => by kernel_rfl
  z127 := fun w => by kernel_rfl
  v127 := fun w => by kernel_rfl
  t143 := by kernel_rfl
  a143 := fun w => by kernel_rfl
  z143 := fun w => by kernel_rfl
  v143 := fun w => by kernel_rfl
  t145 := by kernel_rfl
  a145 := fun w => by kernel_rfl
  z145 := fun w => by kernel_rfl
  v145 := fun w => by kernel_rfl
  t167 := by kernel_rfl
  a167 := fun w => by kernel_rfl
  z167 := fun w => by kernel_rfl
  v167 := fun w => by kernel_rfl
  t168 := by kernel_rfl
  a168 := fun w => by kernel_rfl
  z168 := fun w => by kernel_rfl
  v168 := fun w => by kernel_rfl
  t171 := by kernel_rfl
  a171 := fun w => by kernel_rfl
  z171 := fun w => by kernel_rfl
  v171 := fun w => by kernel_rfl
  t173 := by kernel_rfl
  a173 := fun w => by kernel_rfl
  z173 := fun w => by kernel_rfl
  v173 := fun w => by kernel_rfl
  t175 := by kernel_rfl
  a175 := fun w => by kernel_rfl
  z175 := fun w => by kernel_rfl
  v175 := fun w => by kernel_rfl
  t210 := by kernel_rfl
  a210 := fun w => by kernel_rfl
  z210 := fun w => by kernel_rfl
  v210 := fun w => by kernel_rfl
  t212 := by kernel_rfl
  a212 := fun w => by kernel_rfl
  z212 := fun w => by kernel_rfl
  v212 := fun w => by kernel_rfl
  t213 := by kernel_rfl
  a213 := fun w => by kernel_rfl
  z213 := fun w => by kernel_rfl
  t232 := by kernel_rfl
  a232 := fun w => by kernel_rfl
  z232 := fun w => by kernel_rfl
  v232 := fun w => by kernel_rfl
  t233 := by kernel_rfl
  a233 := fun w => by kernel_rfl
  z233 := fun w => by kernel_rfl
  v233 := fun w => by kernel_rfl
  g15 := by kernel_rfl
  g16 := by kernel_rfl
  g17 := by kernel_rfl
  g18 := by kernel_rfl
  g19 := by kernel_rfl
  t80 := by kernel_rfl
  a80 := fun w => by kernel_rfl
  z80 := fun w => by kernel_rfl
  v80 := fun w => by kernel_rfl
  i0 := by kernel_rfl
  i2 := by kernel_rfl
  i3 := by kernel_rfl
  i4 := by kernel_rfl
  i5 := by kernel_rfl
  i9 := by kernel_rfl
  i20 := by kernel_rfl
  i21 := by kernel_rfl
  i37 := by kernel_rfl
  i46 := by kernel_rfl
  i51 := by kernel_rfl
  i53 := by kernel_rfl
  i75 := by kernel_rfl
  i76 := by kernel_rfl
  i80 := by kernel_rfl
  i85 := by kernel_rfl
  i127 := by kernel_rfl
  i143 := by kernel_rfl
  i145 := by kernel_rfl
  i167 := by kernel_rfl
  i168 := by kernel_rfl
  i171 := by kernel_rfl
  i173 := by kernel_rfl
  i175 := by kernel_rfl
  i210 := by kernel_rfl
  i212 := by kernel_rfl
  i232 := by kernel_rfl
  i233 := by kernel_rfl
  m15 := by kernel_rfl
  m16 := by kernel_rfl
  m17 := by kernel_rfl
  m18 := by kernel_rfl
  m19 := by kernel_rfl
  c0 := by kernel_rfl
  c2 := by kernel_rfl
  c3 := by kernel_rfl
  c4 := by kernel_rfl
  c5 := by kernel_rfl
  c9 := by kernel_rfl
  c20 := by kernel_rfl
  c21 := by kernel_rfl
  c37 := by kernel_rfl
  c46 := by kernel_rfl
  c51 := by kernel_rfl
  c53 := by kernel_rfl
  c75 := by kernel_rfl
  c76 := by kernel_rfl
  c80 := by kernel_rfl
  c85 := by kernel_rfl
  c127 := by kernel_rfl
  c143 := by kernel_rfl
  c145 := by kernel_rfl
  c167 := by kernel_rfl
  c168 := by kernel_rfl
  c171 := by kernel_rfl
  c173 := by kernel_rfl
  c175 := by kernel_rfl
  c210 := by kernel_rfl
  c212 := by kernel_rfl
  c213 := by kernel_rfl
  c232 := by kernel_rfl
  c233 := by kernel_rfl

set_option maxRecDepth 100000 in
theorem l145 : Lays.n145 Tryz.prog lren where
  mixed := by kernel_rfl
  f145 := by kernel_rfl
  f217 := by kernel_rfl
  f219 := by kernel_rfl
  f220 := by kernel_rfl
  f224 := by kernel_rfl
  f225 := by kernel_rfl
  f266 := by kernel_rfl
  f267 := by kernel_rfl
  f314 := by kernel_rfl
  t3 := by kernel_rfl
  a3 := fun w => by kernel_rfl
  z3 := fun w => by kernel_rfl
  v3 := fun w => by kernel_rfl
  t4 := by kernel_rfl
  a4 := fun w => by kernel_rfl
  z4 := fun w => by kernel_rfl
  v4 := fun w => by kernel_rfl
  t5 := by kernel_rfl
  a5 := fun w => by kernel_rfl
  z5 := fun w => by kernel_rfl
  v5 := fun w => by kernel_rfl
  t9 := by kernel_rfl
  a9 := fun w => by kernel_rfl
  z9 := fun w => by kernel_rfl
  v9 := fun w => by kernel_rfl
  t46 := by kernel_rfl
  a46 := fun w => by kernel_rfl
  z46 := fun w => by kernel_rfl
  v46 := fun w => by kernel_rfl
  t51 := by kernel_rfl
  a51 := fun w => by kernel_rfl
  z51 := fun w => by kernel_rfl
  v51 := fun w => by kernel_rfl
  t59 := by kernel_rfl
  a59 := fun w => by kernel_rfl
  z59 := fun w => by kernel_rfl
  v59 := fun w => by kernel_rfl
  t146 := by kernel_rfl
  a146 := fun w => by kernel_rfl
  z146 := fun w => by kernel_rfl
  v146 := fun w => by kernel_rfl
  g1 := by kernel_rfl

set_option maxRecDepth 100000 in
theorem l169 : Lays.n169 Tryz.prog lren where
  mixed := by kernel_rfl
  f169 := by kernel_rfl
  t0 := by kernel_rfl
  a0 := fun w => by kernel_rfl
  z0 := fun w => by kernel_rfl
  v0 := fun w => by kernel_rfl
  t3 := by kernel_rfl
  a3 := fun w => by kernel_rfl
  z3 := fun w => by kernel_rfl
  v3 := fun w => by kernel_rfl
  t9 := by kernel_rfl
  a9 := fun w => by kernel_rfl
  z9 := fun w => by kernel_rfl
  v9 := fun w => by kernel_rfl
  t37 := by kernel_rfl
  a37 := fun w => by kernel_rfl
  z37 := fun w => by kernel_rfl
  v37 := fun w => by kernel_rfl
  t70 := by kernel_rfl
  a70 := fun w => by kernel_rfl
  z70 := fun w => by kernel_rfl
  v70 := fun w => by kernel_rfl
  t72 := by kernel_rfl
  a72 := fun w => by kernel_rfl
  z72 := fun w => by kernel_rfl
  v72 := fun w => by kernel_rfl
  t127 := by kernel_rfl
  a127 := fun w => by kernel_rfl
  z127 := fun w => by kernel_rfl
  v127 := fun w => by kernel_rfl

set_option maxRecDepth 100000 in
theorem l166 : Lays.n166 Tryz.prog lren where
  mixed := by kernel_rfl
  f166 := by kernel_rfl
  f240 := by kernel_rfl
  f276 := by kernel_rfl
  t0 := by kernel_rfl
  a0 := fun w => by kernel_rfl
  z0 := fun w => by kernel_rfl
  v0 := fun w => by kernel_rfl
  t3 := by kernel_rfl
  a3 := fun w => by kernel_rfl
  z3 := fun w => by kernel_rfl
  v3 := fun w => by kernel_rfl
  t4 := by kernel_rfl
  a4 := fun w => by kernel_rfl
  z4 := fun w => by kernel_rfl
  v4 := fun w => by kernel_rfl
  t9 := by kernel_rfl
  a9 := fun w => by kernel_rfl
  z9 := fun w => by kernel_rfl
  v9 := fun w => by kernel_rfl
  t20 := by kernel_rfl
  a20 := fun w => by kernel_rfl
  z20 := fun w => by kernel_rfl
  v20 := fun w => by kernel_rfl
  t37 := by kernel_rfl
  a37 := fun w => by kernel_rfl
  z37 := fun w => by kernel_rfl
  v37 := fun w => by kernel_rfl
  t70 := by kernel_rfl
  a70 := fun w => by kernel_rfl
  z70 := fun w => by kernel_rfl
  v70 := fun w => by kernel_rfl
  t72 := by kernel_rfl
  a72 := fun w => by kernel_rfl
  z72 := fun w => by kernel_rfl
  v72 := fun w => by kernel_rfl
  t75 := by kernel_rfl
  a75 := fun w => by kernel_rfl
  z75 := fun w => by kernel_rfl
  v75 := fun w => by kernel_rfl
  t164 := by kernel_rfl
  a164 := fun w => by kernel_rfl
  z164 := fun w => by kernel_rfl
  v164 := fun w => by kernel_rfl

theorem bex : Builder.Extra Tryz.prog lren where
  sizeBuilder := by kernel_rfl
  liesBuilder := by kernel_rfl
  t5 := by kernel_rfl
  a5 := fun w => by kernel_rfl
  z5 := fun w => by kernel_rfl
  v5 := fun w => by kernel_rfl
  infoByte := by kernel_rfl
  cellsByte := by kernel_rfl
  sizeByte := by kernel_rfl
  neB5 := by decide

end Go.Proofs.YtpmoopnkoknbeaaGreatDoor
namespace Go.PX
open Go.Lib
set_option linter.unusedVariables false

def isD (b : UInt8) : Bool := Nat.ble 48 b.toNat && Nat.ble b.toNat 57

theorem isD_iff (b : UInt8) : isD b = true ↔ 48 ≤ b.toNat ∧ b.toNat ≤ 57 := by simp [isD]

/-- the number of a row of digits -/
def step (a : Nat) (b : UInt8) : Nat := a * 10 + (b.toNat - 48)
def num (a : Nat) (l : List UInt8) : Nat := l.foldl step a
theorem num_cons (a : Nat) (b : UInt8) (l : List UInt8) : num a (b :: l) = num (a * 10 + (b.toNat - 48)) l := by unfold num; rw [List.foldl_cons, step]
theorem num_nil (a : Nat) : num a [] = a := rfl

theorem num_append (l r : List UInt8) (a : Nat) : num a (l ++ r) = num (num a l) r := by unfold num; rw [List.foldl_append]

theorem num_le : ∀ (l : List UInt8) (a : Nat), a ≤ num a l
  | [], a => Nat.le_refl _
  | b :: l, a => by
    rw [num_cons]
    exact Nat.le_trans (by omega) (num_le l (a * 10 + (b.toNat - 48)))

theorem num_lt : ∀ (l : List UInt8) (a k : Nat), l.all isD = true → a < 10 ^ k → num a l < 10 ^ (k + l.length)
  | [], a, k, _, h => h
  | b :: l, a, k, hd, h => by
    simp only [List.all_cons, Bool.and_eq_true, isD_iff] at hd
    have := num_lt l (a * 10 + (b.toNat - 48)) (k + 1) hd.2 (by rw [Nat.pow_succ]; omega)
    simp only [num_cons, List.length_cons]
    rw [show k + (l.length + 1) = k + 1 + l.length by omega]
    exact this

theorem parse_ok : ∀ (l : List UInt8) (a : Nat), l.all isD = true → num a l < 18446744073709551616 → parseUint10 a l = .ok (num a l)
  | [], a, _, _ => rfl
  | b :: l, a, hd, h => by
    simp only [List.all_cons, Bool.and_eq_true, isD_iff] at hd
    have h1 := num_le l (a * 10 + (b.toNat - 48))
    simp only [num_cons] at h
    simp only [parseUint10, num_cons, if_pos hd.1]
    rw [if_neg (by omega), if_neg (by omega)]
    exact parse_ok l _ hd.2 h

/-- the digits of a number, with zeros ahead of them up to a width -/
def pad (k u : Nat) : List UInt8 := List.replicate (k - (decDigits u).length) 48 ++ decDigits u

theorem ofNat_isD (d : Nat) (h : d < 10) : isD (UInt8.ofNat (48 + d)) = true ∧ (UInt8.ofNat (48 + d)).toNat - 48 = d := by
  have : (UInt8.ofNat (48 + d)).toNat = 48 + d := by
    simp only [UInt8.toNat_ofNat']
    omega
  exact ⟨(isD_iff _).2 (by omega), by omega⟩

theorem decDigits_spec (u : Nat) : (decDigits u).all isD = true ∧ num 0 (decDigits u) = u ∧ decDigits u ≠ [] := by
  induction u using Nat.strongRecOn with
  | _ u ih =>
    rw [decDigits]
    by_cases h : u < 10
    · rw [dif_pos h]
      have := ofNat_isD u h
      simp only [List.all_cons, List.all_nil, Bool.and_true, num_cons, num_nil, Nat.zero_mul, Nat.zero_add]
      exact ⟨this.1, this.2, by simp⟩
    · rw [dif_neg h]
      obtain ⟨h1, h2, h3⟩ := ih (u / 10) (by omega)
      have := ofNat_isD (u % 10) (Nat.mod_lt _ (by decide))
      refine ⟨by simp only [List.all_append, h1, List.all_cons, List.all_nil, Bool.and_true, Bool.true_and]; exact this.1, ?_, by simp⟩
      rw [num_append, h2]
      simp only [num_cons, num_nil, this.2]
      omega

theorem num_zeros : ∀ k : Nat, num 0 (List.replicate k 48) = 0
  | 0 => rfl
  | k + 1 => by rw [List.replicate_succ, num_cons]; exact num_zeros k

/-- few digits for a small number -/
theorem decDigits_short (u k : Nat) (hk : 1 ≤ k) (h : u < 10 ^ k) : (decDigits u).length ≤ k := by
  induction k generalizing u with
  | zero => omega
  | succ k ih =>
    rw [decDigits]
    by_cases h1 : u < 10
    · rw [dif_pos h1]; simp
    · rw [dif_neg h1]
      by_cases hk0 : k = 0
      · subst hk0; simp at h; omega
      · have := ih (u / 10) (by omega) (by rw [Nat.pow_succ] at h; omega)
        simp; omega

theorem pad_spec (k u : Nat) : (pad k u).all isD = true ∧ num 0 (pad k u) = u ∧ pad k u ≠ [] := by
  obtain ⟨h1, h2, h3⟩ := decDigits_spec u
  refine ⟨?_, by unfold pad; rw [num_append, num_zeros, h2], by unfold pad; simp [h3]⟩
  unfold pad
  rw [List.all_append, h1, Bool.and_true, List.all_eq_true]
  intro b hb
  obtain ⟨_, rfl⟩ := List.mem_replicate.1 hb
  rfl

theorem pad_len (k u : Nat) (hk : 1 ≤ k) (h : u < 10 ^ k) : (pad k u).length = k := by
  have := decDigits_short u k hk h
  unfold pad
  simp
  omega

theorem pad_len_ge (k u : Nat) : k ≤ (pad k u).length := by
  unfold pad
  simp
  omega

theorem pad_len_le (k m u : Nat) (hm : 1 ≤ m) (hk : k ≤ m) (h : u < 10 ^ m) : (pad k u).length ≤ m := by
  have := decDigits_short u m hm h
  unfold pad
  simp
  omega

theorem atoi_pos {l : List UInt8} (hd : l.all isD = true) (h0 : l ≠ []) (h : num 0 l < 9223372036854775808) : atoiAll l = .ok (num 0 l : Int) := by
  match l, h0 with
  | c :: r, _ =>
    have hc := hd
    simp only [List.all_cons, Bool.and_eq_true, isD_iff] at hc
    rw [atoiAll_plain c r (by omega) (by omega)]
    unfold parseMag
    rw [if_neg (by simp), parse_ok _ _ hd (by omega)]
    unfold signless
    simp only
    rw [if_neg (by omega)]

theorem atoi_neg {l : List UInt8} (hd : l.all isD = true) (h0 : l ≠ []) (h : num 0 l < 9223372036854775808) : atoiAll (45 :: l) = .ok (-(num 0 l : Int)) := by
  rw [atoiAll_minus]
  unfold parseMag
  rw [if_neg h0, parse_ok _ _ hd (by omega)]
  unfold signed
  simp only
  rw [if_neg (by omega)]

/-- a sign ahead of a row of digits -/
def sg (n : Int) (l : List UInt8) : List UInt8 := if n < 0 then 45 :: l else l

theorem atoi_sg {n : Int} {l : List UInt8} (hd : l.all isD = true) (h0 : l ≠ []) (hn : num 0 l = n.natAbs) (h : n.natAbs < 9223372036854775808) : atoiAll (sg n l) = .ok n := by
  unfold sg
  split
  · rw [atoi_neg hd h0 (by omega), hn]; congr 1; omega
  · rw [atoi_pos hd h0 (by omega), hn]; congr 1; omega

theorem itoa_sg (n : Int) : itoa n = sg n (decDigits n.natAbs) := by
  unfold itoa sg
  split
  · rfl
  · congr 1; omega

end Go.PX
namespace Go.PX
open Go.Lib
set_option linter.unusedVariables false

def esc : List UInt8 → List UInt8
  | [] => []
  | b :: l => if b = 39 then 39 :: 39 :: esc l else b :: esc l

theorem split (s : List UInt8) : (index s [39] = -1 ∧ 39 ∉ s) ∨ ∃ a r, s = a ++ 39 :: r ∧ 39 ∉ a ∧ index s [39] = (a.length : Int) := by
  induction s with
  | nil => exact .inl ⟨by rfl, by simp⟩
  | cons b l ih =>
    by_cases hb : b = 39
    · subst hb
      exact .inr ⟨[], l, rfl, by simp, by simp [index]⟩
    · have h0 : List.isPrefixOf [39] (b :: l) = false := by
        unfold List.isPrefixOf
        have : ((39 : UInt8) == b) = false := by simpa using Ne.symm hb
        rw [this]; rfl
      rcases ih with ⟨h1, h2⟩ | ⟨a, r, rfl, h1, h2⟩
      · exact .inl ⟨by simp only [index, h0, h1]; rfl, by simp [h2, Ne.symm hb]⟩
      · refine .inr ⟨b :: a, r, rfl, by simp [h1, Ne.symm hb], ?_⟩
        have : ¬ ((index (a ++ 39 :: r) [39] == -1) = true) := by rw [h2]; simp
        rw [index, h0, if_neg (by simp), if_neg this, h2]
        simp

theorem esc_none {s : List UInt8} (h : 39 ∉ s) : esc s = s := by
  induction s with
  | nil => rfl
  | cons b l ih =>
    simp only [List.mem_cons, not_or] at h
    simp [esc, Ne.symm h.1, ih h.2]

theorem esc_app (a b : List UInt8) : esc (a ++ b) = esc a ++ esc b := by
  induction a with
  | nil => rfl
  | cons x l ih =>
    simp only [List.cons_append, esc, ih]
    split <;> rfl

theorem esc_len (s : List UInt8) : (esc s).length ≤ 2 * s.length := by
  induction s with
  | nil => simp [esc]
  | cons b l ih => simp only [esc]; split <;> simp <;> omega

theorem count_esc : ∀ (f : Nat) (s : List UInt8), s.length < f → replaceK [39] [39, 39] (countFrom [39] f s) s = esc s ∧ countFrom [39] f s ≤ s.length
  | 0, s, h => absurd h (Nat.not_lt_zero _)
  | f + 1, s, h => by
    rcases split s with ⟨h1, h2⟩ | ⟨a, r, rfl, h1, h2⟩
    · have e : countFrom [39] (f + 1) s = 0 := by simp [countFrom, h1]
      rw [e]
      exact ⟨by simp [replaceK, esc_none h2], Nat.zero_le _⟩
    · have hne : ¬ ((index (a ++ 39 :: r) [39] == -1) = true) := by rw [h2]; simp
      have hd : (a ++ 39 :: r).drop (a.length + 1) = r := by
        rw [List.drop_append]; simp
      have e : countFrom [39] (f + 1) (a ++ 39 :: r) = 1 + countFrom [39] f r := by
        rw [countFrom, if_neg hne]
        simp only [h2, Int.toNat_natCast, List.length_singleton, hd]
      have hl : r.length < f := by simp at h; omega
      obtain ⟨i1, i2⟩ := count_esc f r hl
      rw [e, Nat.add_comm]
      refine ⟨?_, by simp; omega⟩
      rw [replaceK_hit _ _ _ _ a.length h2]
      simp only [List.length_singleton, hd, i1]
      rw [esc_app, esc_none h1]
      simp [esc, List.take_append]

theorem replaceAll_esc (s : List UInt8) : replaceAll s [39] [39, 39] = esc s ∧ count s [39] ≤ s.length := by
  have h := count_esc (s.length + 1) s (by omega)
  refine ⟨?_, h.2⟩
  unfold replaceAll replace
  rw [if_neg (by simp)]
  unfold replaceNum
  rw [if_pos (.inl (by decide))]
  exact h.1

/-- the rest of a text in quotes: what it says, what is left, whether its end is missing; cur: what was left when the last piece began -/
def quo : List UInt8 → List UInt8 → List UInt8 → List UInt8 × List UInt8 × Bool
  | cur, acc, [] => ([], cur, true)
  | cur, acc, [b] => if b = 39 then (acc, [], false) else ([], cur, true)
  | cur, acc, b :: c :: r => if b = 39 then (if c = 39 then quo r (acc ++ [39]) r else (acc, c :: r, false)) else quo cur (acc ++ [b]) (c :: r)

theorem quo_nil (cur acc : List UInt8) : quo cur acc [] = ([], cur, true) := by simp [quo]

theorem quo_other {b : UInt8} (h : b ≠ 39) (cur acc r : List UInt8) : quo cur acc (b :: r) = quo cur (acc ++ [b]) r := by
  cases r with
  | nil => simp [quo, h]
  | cons c r => simp [quo, h]

theorem quo_two (cur acc r : List UInt8) : quo cur acc (39 :: 39 :: r) = quo r (acc ++ [39]) r := by simp [quo]

theorem quo_end (cur acc r : List UInt8) (h : r.head? ≠ some 39) : quo cur acc (39 :: r) = (acc, r, false) := by
  cases r with
  | nil => simp [quo]
  | cons c r => simp at h; simp [quo, h]

theorem quo_skip : ∀ (a cur acc r : List UInt8), 39 ∉ a → quo cur acc (a ++ r) = quo cur (acc ++ a) r
  | [], cur, acc, r, _ => by simp
  | b :: a, cur, acc, r, h => by
    simp only [List.mem_cons, not_or] at h
    rw [List.cons_append, quo_other (Ne.symm h.1), quo_skip a cur _ r h.2]
    simp

theorem quo_esc : ∀ (s cur acc rest : List UInt8), rest.head? ≠ some 39 → quo cur acc (esc s ++ 39 :: rest) = (acc ++ s, rest, false)
  | [], cur, acc, rest, h => by simp [esc, quo_end _ _ _ h]
  | b :: s, cur, acc, rest, h => by
    by_cases hb : b = 39
    · subst hb
      simp only [esc, if_true, List.cons_append, quo_two]
      rw [quo_esc s _ _ rest h]; simp
    · simp only [esc, if_neg hb, List.cons_append]
      rw [quo_other hb, quo_esc s _ _ rest h]; simp

theorem quo_len : ∀ (n : Nat) (s cur acc : List UInt8), s.length ≤ n → (quo cur acc s).2.1.length ≤ max cur.length s.length ∧ (quo cur acc s).1.length ≤ acc.length + s.length
  | 0, s, cur, acc, h => by
    have : s = [] := List.length_eq_zero_iff.1 (by omega)
    subst this
    rw [quo_nil]; simp
  | n + 1, s, cur, acc, h => by
    match s with
    | [] => rw [quo_nil]; simp
    | b :: r =>
      simp at h
      by_cases hb : b = 39
      · subst hb
        by_cases hr : r.head? = some 39
        · match r, hr with
          | c :: r, hr =>
            simp at hr; subst hr
            rw [quo_two]
            have := quo_len n r r (acc ++ [39]) (by simp at h; omega)
            simp at this ⊢
            omega
        · rw [quo_end _ _ _ hr]; simp; omega
      · rw [quo_other hb]
        have := quo_len n r cur (acc ++ [b]) h
        simp at this ⊢
        omega

end Go.PX
namespace Go.PX
open Go Go.SX
set_option linter.unusedVariables false

/-- bytes as a text -/
abbrev bs (l : List UInt8) : ByteArray := ⟨l.toArray⟩

theorem bs_eta (s : ByteArray) : bs s.data.toList = s := by
  obtain ⟨⟨l⟩⟩ := s
  rfl
theorem bs_size (l : List UInt8) : (bs l).size = l.length := by show (l.toArray).size = _; simp
theorem bs_toList (l : List UInt8) : (bs l).toList = l := by rw [ByteArray.toList_eq]
theorem ba_ext {a b : ByteArray} (h : a.data.toList = b.data.toList) : a = b := by
  obtain ⟨⟨l⟩⟩ := a
  obtain ⟨⟨r⟩⟩ := b
  simp at h
  rw [h]
theorem bs_app (l r : List UInt8) : bs l ++ bs r = bs (l ++ r) := by
  apply ba_ext
  simp [ByteArray.data_append]
theorem bs_ext (l : List UInt8) (a b : Nat) : (bs l).extract a b = bs ((l.take b).drop a) := by
  apply ba_ext
  rw [ByteArray.data_extract]
  simp [List.drop_take]
theorem bs_eq (l r : List UInt8) : ((bs l).toList == (bs r).toList) = decide (l = r) := by
  rw [bs_toList, bs_toList, Bool.eq_iff_iff]; simp

/-- grd that holds -/
theorem grdp {β : Type} {p : Prop} [Decidable p] (h : p) (x : Option β) : grd p x = x := by simp [grd, h]
theorem ifte {β : Type} (b : Bool) (x y : Option β) : ift b x y = if b = true then x else y := by cases b <;> rfl

/-- the text that begins with another -/
def pre : List UInt8 → List UInt8 → Bool
  | [], _ => true
  | _ :: _, [] => false
  | a :: l, b :: r => a == b && pre l r

theorem pre_take : ∀ (p s : List UInt8), pre p s = true ↔ p.length ≤ s.length ∧ s.take p.length = p
  | [], s => by simp [pre]
  | a :: l, [] => by simp [pre]
  | a :: l, b :: r => by
    have := pre_take l r
    simp only [pre, Bool.and_eq_true, beq_iff_eq, this, List.length_cons, List.take_succ_cons, List.cons.injEq]
    constructor
    · rintro ⟨rfl, h1, h2⟩; exact ⟨by omega, rfl, h2⟩
    · rintro ⟨h1, rfl, h2⟩; exact ⟨rfl, by omega, h2⟩

theorem pre_app (p r : List UInt8) : pre p (p ++ r) = true := (pre_take _ _).2 ⟨by simp, by simp⟩

/-- taken, or left -/
def off (p s : List UInt8) : List UInt8 := if pre p s then s.drop p.length else s

theorem off_app (p r : List UInt8) : off p (p ++ r) = r := by unfold off; rw [pre_app]; simp
theorem off_len (p s : List UInt8) : (off p s).length ≤ s.length := by unfold off; split <;> simp
end Go.PX
namespace Go.Proofs.YtpmoopnkoknbeaaGreatDoor
open Go Go.PX Go.SX
set_option linter.unusedVariables false

def strconv_Itoa (p1 : Int) : Option ByteArray := grd (-9223372036854775808 ≤ p1 ∧ p1 ≤ 9223372036854775807) <| some (bs (Lib.itoa p1))


def strings_Repeat (p1 : ByteArray) (p2 : Int) : Option ByteArray := grd (0 ≤ p2 ∧ p2 ≤ 1000000000 ∧ p1.size ≤ 1000) <| some (bs (Lib.repeatL p1.data.toList p2.toNat))


def strings_ReplaceAll (p1 p2 p3 : ByteArray) : Option ByteArray := grd (p1.size ≤ 1000000000 ∧ 1 ≤ p2.size ∧ p1.size + Lib.countB p1 p2 * p3.size ≤ 140737488355328) <| some (bs (Lib.replaceAll p1.data.toList p2.data.toList p3.data.toList))


def strings_TrimLeft (p1 p2 : ByteArray) : Option ByteArray := grd (p2.size ≤ 1000 ∧ p2.data.toList.all (fun b => decide (b.toNat < 128)) = true) <| some (bs (Lib.trimLeftS p1.data.toList p2.data.toList))


def strings_Join (p1 : List ByteArray) (p2 : ByteArray) : Option ByteArray := grd (p1.length ≤ 1000000000 ∧ (Lib.join (p1.map (·.data.toList)) p2.data.toList).length ≤ 140737488355328) <| some (bs (Lib.join (p1.map (·.data.toList)) p2.data.toList))


/-- the number, and whether there is an error -/
def atoiR (l : List UInt8) : Int × Bool := match Lib.atoiAll l with
  | .ok v => (v, false)
  | .range => (Lib.atoiSat l, true)
  | _ => (0, true)


def strconv_Atoi (p1 : ByteArray) : Option (Int × Bool) := grd (p1.size ≤ 1000000000) <| some (atoiR p1.data.toList)


/-- the rest of a text in quotes -/
def value_reader_quoted (p1 : GReader) : Option (ByteArray × GReader) := grd (p1.s.size ≤ 1000000000) <|
  some (bs (quo p1.s.data.toList [] p1.s.data.toList).1, ⟨bs (quo p1.s.data.toList [] p1.s.data.toList).2.1, p1.bad || (quo p1.s.data.toList [] p1.s.data.toList).2.2⟩)

end Go.Proofs.YtpmoopnkoknbeaaGreatDoor
namespace Go.Proofs.YtpmoopnkoknbeaaGreatDoor
open Go Go.PX Go.SX Go.Shelf Go.Lib Go.Proofs Go.RowKit
set_option linter.unusedVariables false

theorem below_grow (w : World) (k : Nat) (os : Array Obj) : Below w.heap.size w (Sort.grow (w.drewN k) os) :=
  ⟨rfl, rfl, rfl, by simp [Sort.grow, World.drewN], fun x hx => by
    show (w.heap ++ os)[x]? = w.heap[x]?
    rw [Array.getElem?_append_left hx]⟩

abbrev GW (w : World) : Prop := ∀ (b : Nat) (l : List Value), glob b = some l → GAt w b l

theorem gw_pow {w : World} {nm : String} (h : GW w) (hn : Tryz.prog.globalNamed nm = some 5) : Lib.TabIs Tryz.prog w nm .u64 Lib.pow10Tab := by
  obtain ⟨ty, fz, h3⟩ := (h 5 pow10L (by kernel_rfl)).2.2 (by kernel_rfl)
  unfold Lib.TabIs World.var?
  rw [hn]
  simp only [Option.bind_some, h3]
  rfl

theorem gw_max {w : World} (h : GW w) : ∃ m, w.cell? ⟨lren.g 1, 0, none⟩ = some (.int .i64 m) := by
  obtain ⟨v, h1, m, rfl⟩ := (h 2 [] (by kernel_rfl)).2.1 (by decide)
  exact ⟨m, h1⟩

theorem gw_syn {w : World} (h : GW w) : ∃ t p, w.cell? ⟨lren.g 15, 0, none⟩ = some (.iface t p) := by
  obtain ⟨v, h1, t, p, rfl⟩ := (h 0 [] (by kernel_rfl)).2.1 (by decide)
  exact ⟨t, p, h1⟩

theorem gw_rng {w : World} (h : GW w) : ∃ t p, w.cell? ⟨lren.g 16, 0, none⟩ = some (.iface t p) := by
  obtain ⟨v, h1, t, p, rfl⟩ := (h 1 [] (by kernel_rfl)).2.1 (by decide)
  exact ⟨t, p, h1⟩

theorem c_strconv_Itoa (p1 : Int) : CT Tryz.prog 50 [vi p1] (strconv_Itoa p1) vs := by
  intro r h
  unfold strconv_Itoa at h
  obtain ⟨g1, h⟩ := grd_some h
  obtain rfl := Option.some.inj h
  exact PC.below (us := [.int .i64 p1]) rfl fun w hw => (Any.strconv_Itoa l171 p1 g1.1 g1.2 w (gw_pow hw (by kernel_rfl))).mono (by rintro e w' ⟨rfl, k, os, rfl⟩; exact ⟨rfl, below_grow _ _ _⟩)

theorem c_strings_Repeat (p1 : ByteArray) (p2 : Int) : CT Tryz.prog 131 [vs p1, vi p2] (strings_Repeat p1 p2) vs := by
  intro r h
  unfold strings_Repeat at h
  obtain ⟨g1, h⟩ := grd_some h
  obtain rfl := Option.some.inj h
  obtain ⟨h1, h2, h3⟩ := g1
  obtain ⟨c, rfl⟩ : ∃ c : Nat, p2 = (c : Int) := ⟨p2.toNat, by omega⟩
  have hm : p1.size * c ≤ 140737488355328 := by
    have := Nat.mul_le_mul h3 (show c ≤ 1000000000 by omega)
    omega
  exact PC.below (us := [.string p1, .int .i64 c]) rfl fun w hw => Any.strings_Repeat l105 bex p1 c w (by omega) hm

theorem c_strings_ReplaceAll (p1 p2 p3 : ByteArray) : CT Tryz.prog 52 [vs p1, vs p2, vs p3] (strings_ReplaceAll p1 p2 p3) vs := by
  intro r h
  unfold strings_ReplaceAll at h
  obtain ⟨g1, h⟩ := grd_some h
  obtain rfl := Option.some.inj h
  exact PC.below (us := [.string p1, .string p2, .string p3]) rfl fun w hw => by
    obtain ⟨m, hm⟩ := gw_max hw
    exact Any.strings_ReplaceAll l155 bex p1 p2 p3 m w (by omega) hm g1.2.1 g1.2.2

theorem c_strings_TrimLeft (p1 p2 : ByteArray) : CT Tryz.prog 79 [vs p1, vs p2] (strings_TrimLeft p1 p2) vs := by
  intro r h
  unfold strings_TrimLeft at h
  obtain ⟨g1, h⟩ := grd_some h
  obtain rfl := Option.some.inj h
  exact PC.below (us := [.string p1, .string p2]) rfl fun w hw => Any.strings_TrimLeft_laid l161 (by kernel_rfl) p1 p2 w (by omega) (ascii_of_all g1.2)

theorem c_strings_Join (p1 : List ByteArray) (p2 : ByteArray) : CT Tryz.prog 54 [vl eS p1, vs p2] (strings_Join p1 p2) vs := by
  intro r h
  unfold strings_Join at h
  obtain ⟨g1, h⟩ := grd_some h
  obtain rfl := Option.some.inj h
  intro ι w vs0 hR hA
  have key : Calls Tryz.prog 54 vs0.toArray w fun e w' => e = .returned (.string (bs (Lib.join (p1.map (·.data.toList)) p2.data.toList))) ∧ Below w.heap.size w w' := by
    obtain ⟨hl, hA⟩ := hA
    match vs0, hl with
    | [x, y], _ =>
      have hy := scalar_of (hA 1 y _ rfl rfl)
      subst hy
      have hx := hA 0 x _ rfl rfl
      cases hx with
      | one _ _ hx => cases hx with
        | pv _ _ hx =>
          generalize he : eS.els p1 = els at hx
          have hels : els = p1.map fun s => [.s (.string s)] := by rw [← he, eS.hels]; rfl
          cases hx with
          | nl =>
            have : p1 = [] := by simpa using hels.symm
            subst this
            exact (Any.strings_Join_none l156 bex none 0 p2 w).mono (by rintro e w' ⟨rfl, rfl⟩; exact ⟨rfl, Below.refl _ _⟩)
          | ro a cap sz _ vf hcap hsz hb hc hv =>
            have hlen : els.length = p1.length := by rw [hels]; simp
            rw [hlen]
            rw [hlen] at hcap
            match p1, hels, hlen, hcap, g1 with
            | [], _, _, _, _ => exact (Any.strings_Join_none l156 bex (some a) cap p2 w).mono (by rintro e w' ⟨rfl, rfl⟩; exact ⟨rfl, Below.refl _ _⟩)
            | s0 :: p1, hels, hlen, hcap, g1 =>
              have hsz1 : sz = 1 := by
                have := hsz [.s (.string s0)] (by rw [hels]; simp)
                simpa using this.symm
              subst hsz1
              have hcell : ∀ (j : Nat) s, (s0 :: p1)[j]? = some s → w.cell? (a.add j) = some (.string s) := by
                intro j s hs
                have e1 : els[j]? = some [.s (.string s)] := by rw [hels, List.getElem?_map, hs]; rfl
                have h1 := hc j _ 0 _ e1 rfl
                have h2 := hv j _ 0 _ e1 rfl
                rw [Nat.mul_one, Nat.add_zero] at h1
                generalize vf j 0 = z at h1 h2
                cases h2
                exact h1
              have hsp : a.spot = none := by
                have h1 := hcell 0 s0 rfl
                cases hq : a.spot with
                | none => rfl
                | some q =>
                  have e0 : a.add 0 = a := by unfold Addr.add; rw [if_pos rfl]
                  rw [e0] at h1
                  unfold World.cell? at h1
                  rw [hq] at h1
                  split at h1 <;> simp at h1
              obtain ⟨b, o, sp⟩ := a
              simp only at hsp
              subst hsp
              have hne : els ≠ [] := by rw [hels]; simp
              exact Any.strings_Join l156 bex b o cap (s0 :: p1) p2 w (fun j s hs => by
                have := hcell j s hs
                unfold Addr.add at this
                by_cases hj : j = 0
                · subst hj; simpa using this
                · rw [if_neg hj] at this; exact this) (hb hne).1 (by omega) hcap g1.2
  refine key.mono ?_
  rintro e w' ⟨rfl, hb⟩
  have hx : Ext w w' := ⟨hb.os, hb.tape, hb.output, hb.size, fun b hlt => hb.block b hlt⟩
  exact ⟨_, _, [], ι, rfl, ⟨rfl, rfl⟩, hR.ext hx, .one _ _ (.pv _ _ (.s _ rfl)), (hx.keeps ι []).weaken (fun _ _ => trivial)⟩

theorem c_strconv_Atoi (p1 : ByteArray) : CE Tryz.prog 78 [vs p1] (strconv_Atoi p1) := by
  intro r h
  unfold strconv_Atoi at h
  obtain ⟨g1, h⟩ := grd_some h
  obtain rfl := Option.some.inj h
  intro ι w vs0 hR hA
  obtain rfl := scalars_eq (us := [.string p1]) (by simpa using hA.1) hA.2
  have hw : GW w := fun b l hb => (hR.gl b l hb).2.2
  have key : Calls Tryz.prog 78 #[.string p1] w fun e w' => ∃ er, ErrOk (atoiR p1.data.toList).2 er ∧ e = .returned (.tuple #[.int .i64 (atoiR p1.data.toList).1, er]) ∧ Below w.heap.size w w' := by
    unfold atoiR
    cases ha : Lib.atoiAll p1.data.toList with
    | ok v =>
      refine (Any.strconv_Atoi_ok l172 p1 (by omega) v ha w).mono ?_
      rintro e w' ⟨rfl, hb⟩
      refine ⟨.nilIface, .inl ⟨rfl, rfl⟩, rfl, ?_⟩
      rcases hb with rfl | ⟨t, rfl⟩
      · exact Below.refl _ _
      · exact Lib.bytesWorld_below _ _ _
    | range =>
      obtain ⟨t, p, hc⟩ := gw_rng hw
      refine (Any.strconv_Atoi_range l172 p1 (by omega) ha _ w hc (.inr ⟨t, p, rfl⟩)).mono ?_
      rintro e w' ⟨N, rfl, _, _, hb⟩
      exact ⟨_, .inr ⟨rfl, _, _, rfl⟩, rfl, hb⟩
    | _ =>
      obtain ⟨t, p, hc⟩ := gw_syn hw
      refine (Any.strconv_Atoi_syntax l172 p1 (by omega) ha _ w hc (.inr ⟨t, p, rfl⟩)).mono ?_
      rintro e w' ⟨N, rfl, _, _, hb⟩
      exact ⟨_, .inr ⟨rfl, _, _, rfl⟩, rfl, hb⟩
  refine key.mono ?_
  rintro e w' ⟨er, hE, rfl, hb⟩
  have hx : Ext w w' := ⟨hb.os, hb.tape, hb.output, hb.size, fun b hlt => hb.block b hlt⟩
  refine ⟨_, _, [], ι, rfl, ⟨⟨er, hE, rfl⟩, rfl⟩, hR.ext hx, AVRel.tp [.int .i64 _, er] _ rfl (fun j v a h1 h2 => ?_), (hx.keeps ι []).weaken (fun _ _ => trivial)⟩
  match j with
  | 0 => simp at h1 h2; subst h1; subst h2; exact .one _ _ (.pv _ _ (.s _ rfl))
  | 1 => simp at h1 h2; subst h1; subst h2; exact .one _ _ (.pv _ _ (.s _ hE.plain))
  | j + 2 => simp at h1

end Go.Proofs.YtpmoopnkoknbeaaGreatDoor
namespace Go.Proofs.YtpmoopnkoknbeaaGreatDoor
open Go.SX Go
set_option linter.unusedVariables false
set_option linter.unusedSimpArgs false
set_option maxRecDepth 100000
set_option maxHeartbeats 8000000

def value_leaf_j1 (x1 : Bool) : Option Bool :=
    some x1

def value_leaf (p1 : GType) : Option Bool :=
    ift (p1.kind != (6 : Int))
      (value_leaf_j1 (p1.kind != (7 : Int)))
      (value_leaf_j1 false)


theorem c_value_leaf (p1 : GType) : CT Tryz.prog 64 [.ag [ci p1.kind, ci p1.scale, cl eField p1.fields]] (value_leaf p1) vb :=
  uFn 11 [] Tryz.f64 fun r => (uQ (kS Tryz.f64 [1,0] 1) fun K2 hK2 => have hJ1 : ∀ (x1 : Bool), value_leaf_j1 x1 = some r → K2.p [(2, vb x1)] [] := fun x1 h => hK2 h (uR .ret xF); (uC (uJ (hJ1 (p1.kind != (7 : Int)))) (uJ (hJ1 false))))

def value_Name_1_j1 (x1 : Bool) : Option Bool :=
    some x1

def value_Name_1 (p1 : Int) : Option Bool :=
    ift (decide (p1 < (97 : Int)))
      (ift (decide (p1 < (48 : Int)))
         (value_Name_1_j1 (p1 != (95 : Int)))
         (ift (decide ((57 : Int) < p1))
            (value_Name_1_j1 (p1 != (95 : Int)))
            (value_Name_1_j1 false)))
      (ift (decide ((122 : Int) < p1))
         (ift (decide (p1 < (48 : Int)))
            (value_Name_1_j1 (p1 != (95 : Int)))
            (ift (decide ((57 : Int) < p1))
               (value_Name_1_j1 (p1 != (95 : Int)))
               (value_Name_1_j1 false)))
         (value_Name_1_j1 false))


theorem c_value_Name_1 (p1 : Int) : CT Tryz.prog 149 [vk .i32 p1] (value_Name_1 p1) vb :=
  uFn 21 [] Tryz.f149 fun r => (uQ (kS Tryz.f149 [1,0] 1) fun K2 hK2 => have hJ1 : ∀ (x1 : Bool), value_Name_1_j1 x1 = some r → K2.p [(2, vb x1)] [] := fun x1 h => hK2 h (uR .ret xF); (uC (uC (uJ (hJ1 (p1 != (95 : Int)))) (uC (uJ (hJ1 (p1 != (95 : Int)))) (uJ (hJ1 false)))) (uC (uC (uJ (hJ1 (p1 != (95 : Int)))) (uC (uJ (hJ1 (p1 != (95 : Int)))) (uJ (hJ1 false)))) (uJ (hJ1 false)))))

def strings_indexFunc_of_value_Name_1_j1 : Option Int :=
    some (-1 : Int)

def strings_indexFunc_of_value_Name_1_l1 (p1 : ByteArray) (p2 : Bool) : Nat → Nat → Option Int
  | 0, _ => none
  | k1 + 1, z1 =>
    ift (decide (z1 < p1.size))
      (bnd (value_Name_1 (Int.ofNat (Utf8.decode p1 z1).1)) fun r1 =>
       ift (r1 == p2)
         (some (Int.ofNat z1))
         ((strings_indexFunc_of_value_Name_1_l1 p1 p2 k1) (z1 + (Utf8.decode p1 z1).2)))
      (strings_indexFunc_of_value_Name_1_j1)

def strings_indexFunc_of_value_Name_1 (p1 : ByteArray) (p2 : Bool) : Option Int :=
    strings_indexFunc_of_value_Name_1_l1 p1 p2 BIG 0


theorem c_strings_indexFunc_of_value_Name_1 (p1 : ByteArray) (p2 : Bool) : CT Tryz.prog 201 [vs p1, .one (.pv (.fn 149 [])), vb p2] (strings_indexFunc_of_value_Name_1 p1 p2) vi :=
  uFn 21 [] Tryz.f201 fun r => (uQ (kS Tryz.f201 [1,0] 1) fun K2 hK2 => have hJ1 : ∀ (_ : Unit), strings_indexFunc_of_value_Name_1_j1 = some r → K2.p [] [] := fun _ h => hK2 h (uR .ret xF); (uRg p1 (uO (cd Tryz.f201 [1,0,1,0,0]) (kS Tryz.f201 [1,0,1,0] 1) fun R1 b1 => have hL1 : ∀ (k1 : Nat) (z1 : Nat), strings_indexFunc_of_value_Name_1_l1 p1 p2 k1 z1 = some r → (R1 k1).p [(1, .one (.pv (.fn 149 []))), (2, vb p2), (10, .one (.pt 0 0 0 0))] [.raw (.stringIter p1 z1)] := by intro k1; induction k1 with | zero => intro z1 h; exact uE0 (strings_indexFunc_of_value_Name_1_l1.eq_1 ..) h | succ k1 ih1 => intro z1 h; exact b1 h (uU (strings_indexFunc_of_value_Name_1_l1.eq_2 ..) (uNx 0 (fun b5 => (uT (uP (c_value_Name_1 _) fun r1 _ => (uC (uR .ret (xN (xN xF))) (uJ (ih1 (z1 + (Utf8.decode p1 z1).2))))))) (fun b5 => (uF (uR (.exit 0) (xM (uJ (hJ1 ()))))))))
 uE (hL1 BIG 0))))

def strings_IndexFunc_of_value_Name_1 (p1 : ByteArray) : Option Int :=
    bnd (strings_indexFunc_of_value_Name_1 p1 true) fun r1 =>
    some r1


theorem c_strings_IndexFunc_of_value_Name_1 (p1 : ByteArray) : CT Tryz.prog 183 [vs p1, .one (.pv (.fn 149 []))] (strings_IndexFunc_of_value_Name_1 p1) vi :=
  uFn 8 [] Tryz.f183 fun r => (uP (c_strings_indexFunc_of_value_Name_1 _ _) fun r1 _ => (uR .ret xF))

def strings_ContainsFunc_of_value_Name_1 (p1 : ByteArray) : Option Bool :=
    bnd (strings_IndexFunc_of_value_Name_1 p1) fun r1 =>
    some (decide ((0 : Int) ≤ r1))


theorem c_strings_ContainsFunc_of_value_Name_1 (p1 : ByteArray) : CT Tryz.prog 150 [vs p1, .one (.pv (.fn 149 []))] (strings_ContainsFunc_of_value_Name_1 p1) vb :=
  uFn 9 [] Tryz.f150 fun r => (uP (c_strings_IndexFunc_of_value_Name_1 _) fun r1 _ => (uR .ret xF))

def value_Name_j1 (p1 : ByteArray) (x1 : Bool) : Option Bool :=
    ift x1
      (some false)
      (bnd (strings_ContainsFunc_of_value_Name_1 p1) fun r1 =>
       some (!r1))

def value_Name (p1 : ByteArray) : Option Bool :=
    ift (p1.toList == (ByteArray.mk #[]).toList)
      (value_Name_j1 p1 true)
      (ift (decide ((24 : Int) < (p1.size : Int)))
         (value_Name_j1 p1 true)
         (grd (0 ≤ (0 : Int) ∧ (0 : Int) < (p1.size : Int)) <|
          bnd (some (decide (((p1.data.toList.getD (0 : Int).toNat 0).toNat : Int) < (97 : Int)))) fun y1 =>
          ift y1
            (value_Name_j1 p1 true)
            (grd (0 ≤ (0 : Int) ∧ (0 : Int) < (p1.size : Int)) <|
             bnd (some (decide ((122 : Int) < ((p1.data.toList.getD (0 : Int).toNat 0).toNat : Int)))) fun y2 =>
             value_Name_j1 p1 y2)))


theorem c_value_Name (p1 : ByteArray) : CT Tryz.prog 115 [vs p1] (value_Name p1) vb :=
  uFn 25 [] Tryz.f115 fun r => (uQ (kS Tryz.f115 [1,0,0] 2) fun K3 hK3 => have hJ1 : ∀ (x1 : Bool), value_Name_j1 p1 x1 = some r → K3.p [(0, vs p1), (20, vb x1)] [] := fun x1 h => hK3 h (uC (uR .ret xF) (uP (c_strings_ContainsFunc_of_value_Name_1 _) fun r1 _ => (uR .ret xF))); (uC (uJ (hJ1 true)) (uC (uJ (hJ1 true)) (uG (uY 14 vb fun y1 => (uC (uJ (hJ1 true)) (uG (uY 19 vb fun y2 => (uJ (hJ1 y2))))))))))

def value_fields_1 (p1 : GField) : Option Bool :=
    bnd (value_Name p1.name) fun r1 =>
    some (!r1)


theorem c_value_fields_1 (p1 : GField) : CT Tryz.prog 114 [.ag [ci p1.id, cst p1.name, cb p1.need, ci p1.type.kind, ci p1.type.scale, cl eField p1.type.fields]] (value_fields_1 p1) vb :=
  uFn 7 [] Tryz.f114 fun r => (uP (c_value_Name _) fun r1 _ => (uR .ret xF))

def slices_IndexFunc_api_Field_api_Field_of_value_fields_1_j1 : Option Int :=
    some (-1 : Int)

def slices_IndexFunc_api_Field_api_Field_of_value_fields_1_l1 (p1 : (List GField)) : Nat → Int → Option Int
  | 0, _ => none
  | k1 + 1, x1 =>
    ift (decide (x1 < (p1.length : Int)))
      (bnd (at? p1 x1) fun e1 =>
       bnd (value_fields_1 e1) fun r1 =>
       ift r1
         (some x1)
         ((slices_IndexFunc_api_Field_api_Field_of_value_fields_1_l1 p1 k1) (IntKind.i64.wrap (x1 + (1 : Int)))))
      (slices_IndexFunc_api_Field_api_Field_of_value_fields_1_j1)

def slices_IndexFunc_api_Field_api_Field_of_value_fields_1 (p1 : (List GField)) : Option Int :=
    slices_IndexFunc_api_Field_api_Field_of_value_fields_1_l1 p1 BIG (0 : Int)


theorem c_slices_IndexFunc_api_Field_api_Field_of_value_fields_1 (p1 : (List GField)) : CT Tryz.prog 148 [vl eField p1, .one (.pv (.fn 114 []))] (slices_IndexFunc_api_Field_api_Field_of_value_fields_1 p1) vi :=
  uFn 19 [] Tryz.f148 fun r => (uQ (kS Tryz.f148 [1,0] 1) fun K2 hK2 => have hJ1 : ∀ (_ : Unit), slices_IndexFunc_api_Field_api_Field_of_value_fields_1_j1 = some r → K2.p [] [] := fun _ h => hK2 h (uR .ret xF); (uN eField p1 (uO (cd Tryz.f148 [1,0,1,0,0]) (kS Tryz.f148 [1,0,1,0] 1) fun R1 b1 => have hL1 : ∀ (k1 : Nat) (x1 : Int), slices_IndexFunc_api_Field_api_Field_of_value_fields_1_l1 p1 k1 x1 = some r → (R1 k1).p [(0, vl eField p1), (1, .one (.pv (.fn 114 []))), (7, vi (p1.length : Int)), (8, vi x1)] [] := by intro k1; induction k1 with | zero => intro x1 h; exact uE0 (slices_IndexFunc_api_Field_api_Field_of_value_fields_1_l1.eq_1 ..) h | succ k1 ih1 => intro x1 h; exact b1 h (uU (slices_IndexFunc_api_Field_api_Field_of_value_fields_1_l1.eq_2 ..) (uC (uL eField fun e1 a10 => (uP (c_value_fields_1 _) fun r1 _ => (uC (uR .ret (xN (xN xF))) (uJ (ih1 (IntKind.i64.wrap (x1 + (1 : Int)))))))) (uR (.exit 0) (xM (uJ (hJ1 ()))))))
 uE (hL1 BIG (0 : Int)))))

def slices_ContainsFunc_api_Field_api_Field_of_value_fields_1 (p1 : (List GField)) : Option Bool :=
    bnd (slices_IndexFunc_api_Field_api_Field_of_value_fields_1 p1) fun r1 =>
    some (decide ((0 : Int) ≤ r1))


theorem c_slices_ContainsFunc_api_Field_api_Field_of_value_fields_1 (p1 : (List GField)) : CT Tryz.prog 113 [vl eField p1, .one (.pv (.fn 114 []))] (slices_ContainsFunc_api_Field_api_Field_of_value_fields_1 p1) vb :=
  uFn 9 [] Tryz.f113 fun r => (uP (c_slices_IndexFunc_api_Field_api_Field_of_value_fields_1 _) fun r1 _ => (uR .ret xF))

def value_fields_2 (p1 : GField) (p2 : GField) : Option (Bool × GField) :=
    some ((p1.name.toList == p2.name.toList), p2)


theorem c_value_fields_2 (p1 : GField) (p2 : GField) : CM Tryz.prog 116 [.ag [ci p1.id, cst p1.name, cb p1.need, ci p1.type.kind, ci p1.type.scale, cl eField p1.type.fields], .one (.pt 0 0 0 0)] [.box [ci p2.id, cst p2.name, cb p2.need, ci p2.type.kind, ci p2.type.scale, cl eField p2.type.fields]] (value_fields_2 p1 p2) (fun r => vb r.1) (fun r => [.box [ci r.2.id, cst r.2.name, cb r.2.need, ci r.2.type.kind, ci r.2.type.scale, cl eField r.2.type.fields]]) :=
  uFnM 1 9 [] Tryz.f116 fun r => (uR .ret xFM)

def slices_IndexFunc_api_Field_api_Field_of_value_fields_2_j1 (z7 : Int) (z8 : ByteArray) (z9 : Bool) (z10 : Int) (z11 : Int) (z12 : List GField) : Option (Int × GField) :=
    some ((-1 : Int), (FieldP.mk z7 z8 z9 (GType.mk z10 z11 z12)))

def slices_IndexFunc_api_Field_api_Field_of_value_fields_2_l1 (p1 : (List GField)) : Nat → Int → ByteArray → Bool → Int → Int → List GField → Int → Option (Int × GField)
  | 0, _, _, _, _, _, _, _ => none
  | k1 + 1, z1, z2, z3, z4, z5, z6, x1 =>
    ift (decide (x1 < (p1.length : Int)))
      (bnd (at? p1 x1) fun e1 =>
       bnd (value_fields_2 e1 (FieldP.mk z1 z2 z3 (GType.mk z4 z5 z6))) fun r1 =>
       ift r1.1
         (some (x1, r1.2))
         ((slices_IndexFunc_api_Field_api_Field_of_value_fields_2_l1 p1 k1) r1.2.id r1.2.name r1.2.need r1.2.type.kind r1.2.type.scale r1.2.type.fields (IntKind.i64.wrap (x1 + (1 : Int)))))
      (slices_IndexFunc_api_Field_api_Field_of_value_fields_2_j1 z1 z2 z3 z4 z5 z6)

def slices_IndexFunc_api_Field_api_Field_of_value_fields_2 (p1 : (List GField)) (p2 : GField) : Option (Int × GField) :=
    slices_IndexFunc_api_Field_api_Field_of_value_fields_2_l1 p1 BIG p2.id p2.name p2.need p2.type.kind p2.type.scale p2.type.fields (0 : Int)


theorem c_slices_IndexFunc_api_Field_api_Field_of_value_fields_2 (p1 : (List GField)) (p2 : GField) : CM Tryz.prog 148 [vl eField p1, .one (.fn 116 [.pt 0 0 0 0])] [.box [ci p2.id, cst p2.name, cb p2.need, ci p2.type.kind, ci p2.type.scale, cl eField p2.type.fields]] (slices_IndexFunc_api_Field_api_Field_of_value_fields_2 p1 p2) (fun r => vi r.1) (fun r => [.box [ci r.2.id, cst r.2.name, cb r.2.need, ci r.2.type.kind, ci r.2.type.scale, cl eField r.2.type.fields]]) :=
  uFnM 1 19 [] Tryz.f148 fun r => (uQ (kS Tryz.f148 [1,0] 1) fun K2 hK2 => have hJ1 : ∀ (z7 : Int) (z8 : ByteArray) (z9 : Bool) (z10 : Int) (z11 : Int) (z12 : List GField), slices_IndexFunc_api_Field_api_Field_of_value_fields_2_j1 z7 z8 z9 z10 z11 z12 = some r → K2.p [] [.box [ci z7, cst z8, cb z9, ci z10, ci z11, cl eField z12]] := fun z7 z8 z9 z10 z11 z12 h => hK2 h (uR .ret xFM); (uN eField p1 (uO (cd Tryz.f148 [1,0,1,0,0]) (kS Tryz.f148 [1,0,1,0] 1) fun R1 b1 => have hL1 : ∀ (k1 : Nat) (z1 : Int) (z2 : ByteArray) (z3 : Bool) (z4 : Int) (z5 : Int) (z6 : List GField) (x1 : Int), slices_IndexFunc_api_Field_api_Field_of_value_fields_2_l1 p1 k1 z1 z2 z3 z4 z5 z6 x1 = some r → (R1 k1).p [(0, vl eField p1), (1, .one (.fn 116 [.pt 0 0 0 0])), (7, vi (p1.length : Int)), (8, vi x1)] [.box [ci z1, cst z2, cb z3, ci z4, ci z5, cl eField z6]] := by intro k1; induction k1 with | zero => intro z1 z2 z3 z4 z5 z6 x1 h; exact uE0 (slices_IndexFunc_api_Field_api_Field_of_value_fields_2_l1.eq_1 ..) h | succ k1 ih1 => intro z1 z2 z3 z4 z5 z6 x1 h; exact b1 h (uU (slices_IndexFunc_api_Field_api_Field_of_value_fields_2_l1.eq_2 ..) (uC (uL eField fun e1 a10 => (uMc true [0] (c_value_fields_2 _ _) fun r1 _ => (uC (uR .ret (xN (xN xFM))) (uJ (ih1 r1.2.id r1.2.name r1.2.need r1.2.type.kind r1.2.type.scale r1.2.type.fields (IntKind.i64.wrap (x1 + (1 : Int)))))))) (uR (.exit 0) (xM (uJ (hJ1 z1 z2 z3 z4 z5 z6))))))
 uE (hL1 BIG p2.id p2.name p2.need p2.type.kind p2.type.scale p2.type.fields (0 : Int)))))

def slices_ContainsFunc_api_Field_api_Field_of_value_fields_2 (p1 : (List GField)) (p2 : GField) : Option (Bool × GField) :=
    bnd (slices_IndexFunc_api_Field_api_Field_of_value_fields_2 p1 p2) fun r1 =>
    some ((decide ((0 : Int) ≤ r1.1)), r1.2)


theorem c_slices_ContainsFunc_api_Field_api_Field_of_value_fields_2 (p1 : (List GField)) (p2 : GField) : CM Tryz.prog 113 [vl eField p1, .one (.fn 116 [.pt 0 0 0 0])] [.box [ci p2.id, cst p2.name, cb p2.need, ci p2.type.kind, ci p2.type.scale, cl eField p2.type.fields]] (slices_ContainsFunc_api_Field_api_Field_of_value_fields_2 p1 p2) (fun r => vb r.1) (fun r => [.box [ci r.2.id, cst r.2.name, cb r.2.need, ci r.2.type.kind, ci r.2.type.scale, cl eField r.2.type.fields]]) :=
  uFnM 1 9 [] Tryz.f113 fun r => (uMc true [0] (c_slices_IndexFunc_api_Field_api_Field_of_value_fields_2 _ _) fun r1 _ => (uR .ret xFM))

def value_fields_j1 (x1 : Bool) : Option Int :=
    ift x1
      (some (1 : Int))
      (some (0 : Int))

def value_fields_j2 : Option Int :=
    some (0 : Int)

def value_fields_l1 (p1 : GType) : Nat → Int → Option Int
  | 0, _ => none
  | k1 + 1, x2 =>
    ift (decide (x2 < (p1.fields.length : Int)))
      (bnd (at? p1.fields x2) fun e2 =>
       grd (0 ≤ (0 : Int) ∧ (0 : Int) ≤ x2 ∧ x2 ≤ (p1.fields.length : Int)) <|
       bnd (slices_ContainsFunc_api_Field_api_Field_of_value_fields_2 ((p1.fields.drop (0 : Int).toNat).take (x2.toNat - (0 : Int).toNat)) e2) fun r2 =>
       ift r2.1
         (some (5 : Int))
         ((value_fields_l1 p1 k1) (IntKind.i64.wrap (x2 + (1 : Int)))))
      (value_fields_j2)

def value_fields (p1 : GType) : Option Int :=
    ift (p1.kind == (6 : Int))
      (ift ((p1.fields.length : Int) != (1 : Int))
         (value_fields_j1 true)
         (bnd (at? p1.fields (0 : Int)) fun e1 =>
          value_fields_j1 (!(e1.name.toList == (ByteArray.mk #[]).toList))))
      (ift (p1.kind != (7 : Int))
         (ift (decide ((0 : Int) < (p1.fields.length : Int)))
            (some (1 : Int))
            (some (0 : Int)))
         (ift ((p1.fields.length : Int) == (0 : Int))
            (some (1 : Int))
            (bnd (slices_ContainsFunc_api_Field_api_Field_of_value_fields_1 p1.fields) fun r1 =>
             ift r1
               (some (4 : Int))
               (value_fields_l1 p1 BIG (0 : Int)))))


theorem c_value_fields (p1 : GType) : CT Tryz.prog 76 [.ag [ci p1.kind, ci p1.scale, cl eField p1.fields]] (value_fields p1) vi :=
  uFn 52 [4] Tryz.f76 fun r => (uC (uQ (kS Tryz.f76 [1,0,0,1,0,0,0] 4) fun K6 hK6 => have hJ1 : ∀ (x1 : Bool), value_fields_j1 x1 = some r → K6.p [(20, vb x1)] [] := fun x1 h => hK6 h (uC (uR .ret xF) (uR .ret xF)); (uN eField p1.fields (uC (uJ (hJ1 true)) (uL eField fun e1 a8 => (uJ (hJ1 (!(e1.name.toList == (ByteArray.mk #[]).toList)))))))) (uC (uN eField p1.fields (uC (uR .ret xF) (uR .ret xF))) (uN eField p1.fields (uC (uR .ret xF) (uP (c_slices_ContainsFunc_api_Field_api_Field_of_value_fields_1 _) fun r1 _ => (uC (uR .ret xF) (uQ (kS Tryz.f76 [1,1,1,0] 1) fun K27 hK27 => have hJ2 : ∀ (_ : Unit), value_fields_j2 = some r → K27.p [] [] := fun _ h => hK27 h (uR .ret xF); (uN eField p1.fields (uO (cd Tryz.f76 [1,1,1,0,1,0,0]) (kS Tryz.f76 [1,1,1,0,1,0] 1) fun R1 b1 => have hL1 : ∀ (k1 : Nat) (x2 : Int), value_fields_l1 p1 k1 x2 = some r → (R1 k1).p [(1, .one (.pv (.rp [[pi p1.kind, pi p1.scale, .ro (eField.els p1.fields)]] 0 0))), (38, vl eField p1.fields), (39, vi (p1.fields.length : Int)), (40, vi x2)] [] := by intro k1; induction k1 with | zero => intro x2 h; exact uE0 (value_fields_l1.eq_1 ..) h | succ k1 ih1 => intro x2 h; exact b1 h (uU (value_fields_l1.eq_2 ..) (uC (uL eField fun e2 a34 => (uX eField (uMc true [0] (c_slices_ContainsFunc_api_Field_api_Field_of_value_fields_2 _ _) fun r2 _ => (uC (uR .ret (xN (xN xF))) (uJ (ih1 (IntKind.i64.wrap (x2 + (1 : Int))))))))) (uR (.exit 1) (xM (uJ (hJ2 ()))))))
 uE (hL1 BIG (0 : Int)))))))))))

def value_checker_check_j5 (z3 : Int) : Option (Int × GChecker) :=
    some ((0 : Int), (GChecker.mk z3))

def value_checker_check_l1 (q_value_checker_check : GType → Int → GChecker → Option (Int × GChecker)) (p1 : GType) (p2 : Int) : Nat → Int → Int → Option (Int × GChecker)
  | 0, _, _ => none
  | k1 + 1, z2, x4 =>
    ift (decide (x4 < (p1.fields.length : Int)))
      (bnd (at? p1.fields x4) fun e1 =>
       bnd (q_value_checker_check e1.type (IntKind.i64.wrap (p2 + (1 : Int))) (GChecker.mk z2)) fun r4 =>
       ift (r4.1 != (0 : Int))
         (some (r4.1, r4.2))
         ((value_checker_check_l1 q_value_checker_check p1 p2 k1) r4.2.leaves (IntKind.i64.wrap (x4 + (1 : Int)))))
      (value_checker_check_j5 z2)

def value_checker_check_j4 (q_value_checker_check : GType → Int → GChecker → Option (Int × GChecker)) (p1 : GType) (p2 : Int) (z1 : Int) (x3 : Bool) : Option (Int × GChecker) :=
    ift x3
      (some ((1 : Int), (GChecker.mk z1)))
      (bnd (value_fields p1) fun r3 =>
       ift (r3 != (0 : Int))
         (some (r3, (GChecker.mk z1)))
         (value_checker_check_l1 q_value_checker_check p1 p2 BIG z1 (0 : Int)))

def value_checker_check_j3 (q_value_checker_check : GType → Int → GChecker → Option (Int × GChecker)) (p1 : GType) (p2 : Int) (z1 : Int) (x2 : Bool) : Option (Int × GChecker) :=
    ift x2
      (some ((3 : Int), (GChecker.mk z1)))
      (ift (p1.scale != (0 : Int))
         (ift (p1.kind != (3 : Int))
            (value_checker_check_j4 q_value_checker_check p1 p2 z1 true)
            (ift (decide (p1.scale < (0 : Int)))
               (value_checker_check_j4 q_value_checker_check p1 p2 z1 true)
               (value_checker_check_j4 q_value_checker_check p1 p2 z1 (decide ((12 : Int) < p1.scale)))))
         (value_checker_check_j4 q_value_checker_check p1 p2 z1 false))

def value_checker_check_j2 (q_value_checker_check : GType → Int → GChecker → Option (Int × GChecker)) (p1 : GType) (p2 : Int) (z1 : Int) : Option (Int × GChecker) :=
    ift (decide (p1.kind < (1 : Int)))
      (value_checker_check_j3 q_value_checker_check p1 p2 z1 true)
      (value_checker_check_j3 q_value_checker_check p1 p2 z1 (decide ((7 : Int) < p1.kind)))

def value_checker_check_j1 (q_value_checker_check : GType → Int → GChecker → Option (Int × GChecker)) (p1 : GType) (p2 : Int) (p3 : GChecker) (x1 : Bool) : Option (Int × GChecker) :=
    ift x1
      (some ((7 : Int), p3))
      (bnd (value_leaf p1) fun r2 =>
       ift r2
         (value_checker_check_j2 q_value_checker_check p1 p2 (IntKind.i64.wrap (p3.leaves + (1 : Int))))
         (value_checker_check_j2 q_value_checker_check p1 p2 p3.leaves))

def value_checker_check : Nat → GType → Int → GChecker → Option (Int × GChecker)
  | 0, _, _, _ => none
  | k0 + 1, p1, p2, p3 =>
    ift (decide ((4 : Int) < p2))
      (value_checker_check_j1 (value_checker_check k0) p1 p2 p3 true)
      (bnd (value_leaf p1) fun r1 =>
       ift r1
         (value_checker_check_j1 (value_checker_check k0) p1 p2 p3 (p3.leaves == (40 : Int)))
         (value_checker_check_j1 (value_checker_check k0) p1 p2 p3 false))

abbrev qa426 (p1 : GType) : List PV := [pi p1.kind, pi p1.scale, .ro (eField.els p1.fields)]

theorem c_value_checker_check : ∀ (k0 : Nat) (p1 : GType) (p2 : Int) (p3 : GChecker), CM Tryz.prog 39 [.one (.pt 0 0 0 0), .ag [ci p1.kind, ci p1.scale, cl eField p1.fields], vi p2] [.box [ci p3.leaves]] (value_checker_check k0 p1 p2 p3) (fun r => vi r.1) (fun r => [.box [ci r.2.leaves]])
  | 0, _, _, _ => uM0 (value_checker_check.eq_1 ..)
  | k0 + 1, p1, p2, p3 => uFnM 1 83 [9] Tryz.f39 fun r => (uU (value_checker_check.eq_2 ..) (uQ (kS Tryz.f39 [1,0,0] 2) fun K3 hK3 => have hJ1 : ∀ (x1 : Bool), value_checker_check_j1 (value_checker_check k0) p1 p2 p3 x1 = some r → K3.p [(0, .one (.pt 0 0 0 0)), (2, vi p2), (4, .one (.pv (.rp [(qa426 p1)] 0 0))), (23, vb x1)] [.box [ci p3.leaves]] := fun x1 h => hK3 h (uC (uR .ret xFM) (uQ (kS Tryz.f39 [1,1,0] 1) fun K9 hK9 => have hJ2 : ∀ (z1 : Int), value_checker_check_j2 (value_checker_check k0) p1 p2 z1 = some r → K9.p [(0, .one (.pt 0 0 0 0)), (2, vi p2), (4, .one (.pv (.rp [(qa426 p1)] 0 0)))] [.box [ci z1]] := fun z1 h => hK9 h (uQ (kS Tryz.f39 [1,1,1,0,0,0] 3) fun K14 hK14 => have hJ3 : ∀ (x2 : Bool), value_checker_check_j3 (value_checker_check k0) p1 p2 z1 x2 = some r → K14.p [(0, .one (.pt 0 0 0 0)), (2, vi p2), (4, .one (.pv (.rp [(qa426 p1)] 0 0))), (33, vb x2)] [.box [ci z1]] := fun x2 h => hK14 h (uC (uR .ret xFM) (uQ (kS Tryz.f39 [1,1,1,0,0,1,1,0] 3) fun K18 hK18 => have hJ4 : ∀ (x3 : Bool), value_checker_check_j4 (value_checker_check k0) p1 p2 z1 x3 = some r → K18.p [(0, .one (.pt 0 0 0 0)), (2, vi p2), (4, .one (.pv (.rp [(qa426 p1)] 0 0))), (42, vb x3)] [.box [ci z1]] := fun x3 h => hK18 h (uC (uR .ret xFM) (uP (c_value_fields _) fun r3 _ => (uC (uR .ret xFM) (uQ (kS Tryz.f39 [1,1,1,1,1,0] 1) fun K30 hK30 => have hJ5 : ∀ (z3 : Int), value_checker_check_j5 z3 = some r → K30.p [] [.box [ci z3]] := fun z3 h => hK30 h (uR .ret xFM); (uN eField p1.fields (uO (cd Tryz.f39 [1,1,1,1,1,0,1,0,0]) (kS Tryz.f39 [1,1,1,1,1,0,1,0] 1) fun R1 b1 => have hL1 : ∀ (k1 : Nat) (z2 : Int) (x4 : Int), value_checker_check_l1 (value_checker_check k0) p1 p2 k1 z2 x4 = some r → (R1 k1).p [(0, .one (.pt 0 0 0 0)), (2, vi p2), (67, vl eField p1.fields), (68, vi (p1.fields.length : Int)), (69, vi x4)] [.box [ci z2]] := by intro k1; induction k1 with | zero => intro z2 x4 h; exact uE0 (value_checker_check_l1.eq_1 ..) h | succ k1 ih1 => intro z2 x4 h; exact b1 h (uU (value_checker_check_l1.eq_2 ..) (uC (uL eField fun e1 a37 => (uMc true [0] (c_value_checker_check k0 _ _ _) fun r4 _ => (uC (uR .ret (xN (xN xFM))) (uJ (ih1 r4.2.leaves (IntKind.i64.wrap (x4 + (1 : Int)))))))) (uR (.exit 1) (xM (uJ (hJ5 z2))))))
 uE (hL1 BIG z1 (0 : Int)))))))); (uC (uC (uJ (hJ4 true)) (uC (uJ (hJ4 true)) (uJ (hJ4 (decide ((12 : Int) < p1.scale)))))) (uJ (hJ4 false))))); (uC (uJ (hJ3 true)) (uJ (hJ3 (decide ((7 : Int) < p1.kind)))))); (uP (c_value_leaf _) fun r2 _ => (uC (uJ (hJ2 (IntKind.i64.wrap (p3.leaves + (1 : Int))))) (uJ (hJ2 p3.leaves)))))); (uC (uJ (hJ1 true)) (uP (c_value_leaf _) fun r1 _ => (uC (uJ (hJ1 (p3.leaves == (40 : Int)))) (uJ (hJ1 false)))))))

def value_CheckType (p1 : GType) : Option Int :=
    bnd (value_checker_check BIG p1 (1 : Int) (GChecker.mk (0 : Int))) fun r1 =>
    some r1.1


theorem c_value_CheckType (p1 : GType) : CT Tryz.prog 21 [.ag [ci p1.kind, ci p1.scale, cl eField p1.fields]] (value_CheckType p1) vi :=
  uFn 9 [5] Tryz.f21 fun r => (uMc true [0] (c_value_checker_check BIG _ _ _) fun r1 _ => (uR .ret xF))

def internal_stringslite_HasPrefix_j1 (x1 : Bool) : Option Bool :=
    some x1

def internal_stringslite_HasPrefix (p1 : ByteArray) (p2 : ByteArray) : Option Bool :=
    ift (decide ((p2.size : Int) ≤ (p1.size : Int)))
      (grd (0 ≤ (0 : Int) ∧ (0 : Int) ≤ (p2.size : Int) ∧ (p2.size : Int) ≤ (p1.size : Int)) <|
       bnd (some ((p1.extract (0 : Int).toNat (p2.size : Int).toNat).toList == p2.toList)) fun y1 =>
       internal_stringslite_HasPrefix_j1 y1)
      (internal_stringslite_HasPrefix_j1 false)


theorem c_internal_stringslite_HasPrefix (p1 : ByteArray) (p2 : ByteArray) : CT Tryz.prog 151 [vs p1, vs p2] (internal_stringslite_HasPrefix p1 p2) vb :=
  uFn 18 [] Tryz.f151 fun r => (uQ (kS Tryz.f151 [1,0] 1) fun K2 hK2 => have hJ1 : ∀ (x1 : Bool), internal_stringslite_HasPrefix_j1 x1 = some r → K2.p [(4, vb x1)] [] := fun x1 h => hK2 h (uR .ret xF); (uC (uG (uY 16 vb fun y1 => (uJ (hJ1 y1)))) (uJ (hJ1 false))))

def internal_stringslite_CutPrefix (p1 : ByteArray) (p2 : ByteArray) : Option (ByteArray × Bool) :=
    bnd (internal_stringslite_HasPrefix p1 p2) fun r1 =>
    ift (!r1)
      (some (p1, false))
      (grd (0 ≤ (p2.size : Int) ∧ (p2.size : Int) ≤ (p1.size : Int) ∧ (p1.size : Int) ≤ (p1.size : Int)) <|
       some ((p1.extract (p2.size : Int).toNat (p1.size : Int).toNat), true))


theorem c_internal_stringslite_CutPrefix (p1 : ByteArray) (p2 : ByteArray) : CT Tryz.prog 117 [vs p1, vs p2] (internal_stringslite_CutPrefix p1 p2) (fun r => .tp [vs r.1, vb r.2]) :=
  uFn 15 [] Tryz.f117 fun r => (uP (c_internal_stringslite_HasPrefix _ _) fun r1 _ => (uC (uR .ret xF) (uG (uR .ret xF))))

def strings_CutPrefix (p1 : ByteArray) (p2 : ByteArray) : Option (ByteArray × Bool) :=
    bnd (internal_stringslite_CutPrefix p1 p2) fun r1 =>
    some (r1.1, r1.2)


theorem c_strings_CutPrefix (p1 : ByteArray) (p2 : ByteArray) : CT Tryz.prog 77 [vs p1, vs p2] (strings_CutPrefix p1 p2) (fun r => .tp [vs r.1, vb r.2]) :=
  uFn 11 [] Tryz.f77 fun r => (uP (c_internal_stringslite_CutPrefix _ _) fun r1 _ => (uR .ret xF))

def value_reader_take_j1 (p2 : GReader) (r1 : (ByteArray × Bool)) (z1 : ByteArray) : Option (Bool × GReader) :=
    some (r1.2, (GReader.mk z1 p2.bad))

def value_reader_take (p1 : ByteArray) (p2 : GReader) : Option (Bool × GReader) :=
    bnd (strings_CutPrefix p2.s p1) fun r1 =>
    ift r1.2
      (value_reader_take_j1 p2 r1 r1.1)
      (value_reader_take_j1 p2 r1 p2.s)


theorem c_value_reader_take (p1 : ByteArray) (p2 : GReader) : CM Tryz.prog 40 [.one (.pt 0 0 0 0), vs p1] [.box [cst p2.s, cb p2.bad]] (value_reader_take p1 p2) (fun r => vb r.1) (fun r => [.box [cst r.2.s, cb r.2.bad]]) :=
  uFnM 1 22 [] Tryz.f40 fun r => (uP (c_strings_CutPrefix _ _) fun r1 _ => (uQ (kS Tryz.f40 [1,1,0] 1) fun K4 hK4 => have hJ1 : ∀ (z1 : ByteArray), value_reader_take_j1 p2 r1 z1 = some r → K4.p [(6, vb r1.2)] [.box [cst z1, cb p2.bad]] := fun z1 h => hK4 h (uR .ret xFM); (uC (uJ (hJ1 r1.1)) (uJ (hJ1 p2.s)))))


end Go.Proofs.YtpmoopnkoknbeaaGreatDoor
namespace Go.Proofs.YtpmoopnkoknbeaaGreatDoor
open Go Go.PX Go.SX Go.Shelf Go.Proofs Go.RowKit
set_option linter.unusedVariables false

theorem qtake_eq (p s : List UInt8) (bad : Bool) : value_reader_take (bs p) ⟨bs s, bad⟩ = some (pre p s, ⟨bs (off p s), bad⟩) := by
  have hp : internal_stringslite_HasPrefix (bs s) (bs p) = some (pre p s) := by
    unfold internal_stringslite_HasPrefix internal_stringslite_HasPrefix_j1
    simp only [bs_size, ifte]
    by_cases h : p.length ≤ s.length
    · rw [if_pos (by simpa using h), grdp (by omega), bnd_eq, bs_ext, bs_eq]
      congr 1
      rw [Bool.eq_iff_iff, pre_take]
      simp [h]
    · rw [if_neg (by simpa using h)]
      congr 1
      rw [eq_comm, Bool.eq_false_iff]
      intro h2
      exact h ((pre_take _ _).1 h2).1
  unfold value_reader_take value_reader_take_j1 strings_CutPrefix internal_stringslite_CutPrefix
  simp only [hp, bnd_eq, ifte]
  unfold off
  cases h : pre p s with
  | false => simp [bnd]
  | true =>
    have := ((pre_take _ _).1 h).1
    simp only [bs_size, Bool.not_true, Bool.false_eq_true, if_false]
    rw [grdp (by omega), bs_ext]
    simp [bnd, ift]

def szC : Value → Nat
  | .string s => s.size
  | _ => 0

def szOf (b : Nat) (w : World) : Nat := szC ((w.cell? ⟨b, 0, none⟩).getD (.bool false))

theorem szOf_eq {w : World} {b : Nat} {s : List UInt8} {y : Value} {ty : TypeId} {fz : Nat × Nat} (h : w.heap[b]? = some (.cells #[.string (bs s), y] ty fz)) : szOf b w = s.length := by
  unfold szOf; rw [Lib.cell_of_heap h]; exact bs_size s

theorem below_drewN2 (B : Nat) (w : World) (k : Nat) : Below B w (w.drewN k) := ⟨rfl, rfl, rfl, Nat.le_refl _, fun _ _ => rfl⟩

set_option maxHeartbeats 4000000 in
set_option maxRecDepth 1000000 in
theorem quoted_walk (s : List UInt8) (bad : Bool) (hs : s.length ≤ 1000000000) (w : World) (b : Nat) (ty : TypeId) (hb : w.heap[b]? = some (.cells #[.string (bs s), .bool bad] ty (0, 0))) (hg : Globs w b) :
    Calls Tryz.prog 44 #[.pointer (some ⟨b, 0, none⟩)] w fun e w' => e = .returned (.string (bs (quo s [] s).1)) ∧ BoxTo w w' b [.string (bs (quo s [] s).2.1), .bool (bad || (quo s [] s).2.2)] ty := by
  have hbl : b < w.heap.size := (Array.getElem?_eq_some_iff.1 hb).1
  have hB0 : BoxTo w w b [.string (bs s), .bool bad] ty := ⟨rfl, rfl, rfl, Nat.le_refl _, fun _ _ _ => rfl, hb⟩
  go_enter Tryz.func44, Tryz.ntmps44
  go_wp2
  go_loopw [] (fun wr => ∃ (u acc : List UInt8), Lib.IsBuilderF 102 5 w.heap.size w.heap.size (Lib.byteCells acc) wr ∧ BoxTo w wr b [.string (bs u), .bool bad] ty ∧ quo u acc u = quo s [] s ∧ acc.length + u.length ≤ s.length) (fun wr => szOf b wr)
  case atStart =>
    refine ⟨s, [], (Lib.IsBuilderF.of (Lib.fresh_isBuilder 102 5 w)), hB0.below hbl ((Below.refl _ w).alloc (Nat.le_refl _) _), rfl, by simp⟩
  case round =>
    obtain ⟨u, acc, hI, hBx, hq, hlen⟩ := hrel
    have hc0 : wr.cell? ⟨b, 0, none⟩ = some (.string (bs u)) := by rw [Lib.cell_of_heap hBx.at']; rfl
    have hf1 : wr.frozen? ⟨b, 1, none⟩ = false := Lib.frozen_of_heap hBx.at' 1
    have hgw := hg.to hBx
    obtain ⟨m, hm⟩ : ∃ m, wr.cell? ⟨lren.g 1, 0, none⟩ = some (.int .i64 m) := gw_max (fun g l h => (hgw g l h).2.2)
    have hus : (bs u).size < 4294967281 := by rw [bs_size]; omega
    rcases split u with ⟨hx, hno⟩ | ⟨a, r, hu, hna, hx⟩
    · have hcut : Lib.cut (bs u).data.toList (bs [39]).data.toList = (u, [], false) := by
        show Lib.cut u [39] = _
        unfold Lib.cut; rw [hx]; rfl
      have hq2 : quo s [] s = ([], u, true) := by
        rw [← hq]
        have := quo_skip u u acc [] hno
        rw [List.append_nil] at this
        rw [this, quo_nil]
      go_wp2_with (go_at_call 80; refine (Any.strings_Cut l145 (bs u) (bs [39]) m _ hus hm).mono ?_)
      rintro e W1 rfl k rfl
      have hB1 : BoxTo w (wr.drewN k) b [.string (bs u), .bool bad] ty := hBx.below hbl (below_drewN2 _ _ _)
      generalize wr.drewN k = W1 at hB1 ⊢
      have d1 : W1.cell? ⟨b, 1, none⟩ = some (.bool bad) := by rw [Lib.cell_of_heap hB1.at']; rfl
      have f1 : W1.frozen? ⟨b, 1, none⟩ = false := Lib.frozen_of_heap hB1.at' 1
      go_wp2
      go_ret
      rw [hq2]
      refine ⟨rfl, ?_⟩
      have := hB1.set1 (z := .bool true)
      simpa using this
    · subst hu
      have hcut : Lib.cut (bs (a ++ 39 :: r)).data.toList (bs [39]).data.toList = (a, r, true) := by
        show Lib.cut (a ++ 39 :: r) [39] = _
        unfold Lib.cut; rw [hx, if_pos (by omega)]; simp [List.drop_append]
      have hla : (a ++ 39 :: r).length = a.length + 1 + r.length := by simp; omega
      go_wp2_with (go_at_call 80; refine (Any.strings_Cut l145 (bs (a ++ 39 :: r)) (bs [39]) m _ hus hm).mono ?_)
      rintro e W1 rfl k rfl
      have hI1 : Lib.IsBuilderF 102 5 w.heap.size w.heap.size (Lib.byteCells acc) (wr.drewN k) := bld_above hI (fun _ _ _ => rfl)
      have hB1 : BoxTo w (wr.drewN k) b [.string (bs (a ++ 39 :: r)), .bool bad] ty := hBx.below hbl (below_drewN2 _ _ _)
      generalize wr.drewN k = W1 at hI1 hB1 ⊢
      go_wp2_with (go_at_call 81; refine (Any.Builder_WriteString_k l166 bex w.heap.size w.heap.size _ (bs a) _ hI1 (by rw [Lib.byteCells_length, bs_size]; omega) hB1.size).mono ?_)
      rintro e W2 ⟨rfl, h2, b2, _⟩
      have hI2 : Lib.IsBuilderF 102 5 w.heap.size w.heap.size (Lib.byteCells (acc ++ a)) W2 := by
        rw [Lib.byteCells_append]; exact Or.inr h2
      have hB2 := hB1.below hbl b2
      have d0 : W2.cell? ⟨b, 0, none⟩ = some (.string (bs (a ++ 39 :: r))) := by rw [Lib.cell_of_heap hB2.at']; rfl
      have f0 : W2.frozen? ⟨b, 0, none⟩ = false := Lib.frozen_of_heap hB2.at' 0
      have hB3 : BoxTo w (W2.setCell ⟨b, 0, none⟩ (.string (bs r))) b [.string (bs r), .bool bad] ty := hB2.set0
      have hI3 : Lib.IsBuilderF 102 5 w.heap.size w.heap.size (Lib.byteCells (acc ++ a)) (W2.setCell ⟨b, 0, none⟩ (.string (bs r))) := bld_above hI2 (fun x h1 h2 => Below.heap_setCell _ _ _ _ (fun e => by simp at e; omega))
      have hq2 : quo s [] s = quo (a ++ 39 :: r) (acc ++ a) (39 :: r) := by rw [← hq, quo_skip _ _ _ _ hna]
      have hg3 := hg.to hB3
      cases hp : pre [39] r with
      | false =>
        have hne : r.head? ≠ some 39 := by
          intro h
          match r, h with
          | c :: r, h => simp at h; subst h; simp [pre] at hp
        rw [quo_end _ _ _ hne] at hq2
        have hoff : off [39] r = r := by unfold off; rw [hp]; rfl
        have htk := qtake_eq [39] r bad
        rw [hp, hoff] at htk
        go_wp2_with (go_at_call 40; refine (MC.box2 (us := [.string (bs [39])]) rfl (c_value_reader_take (bs [39]) ⟨bs r, bad⟩ _ htk) hB3.at' hg3).mono ?_)
        rintro e W4 rfl hB4
        have hI4 : Lib.IsBuilderF 102 5 w.heap.size w.heap.size (Lib.byteCells (acc ++ a)) W4 := bld_above hI3 (fun x h1 h2 => hB4.oth x h2 (by omega))
        have hB5 := hB3.trans hB4
        go_wp2_with (go_at_call 82; refine (Any.Builder_String_any_k l169 bex w.heap.size w.heap.size (acc ++ a) _ hI4 hB5.size).mono ?_)
        rintro e W5 ⟨rfl, _, b5, _⟩
        go_wp2
        go_ret
        rw [hq2]
        refine ⟨rfl, ?_⟩
        have := hB5.below hbl b5
        simpa using this
      | true =>
        obtain ⟨r2, rfl⟩ : ∃ r2, r = 39 :: r2 := by
          match r, hp with
          | c :: r, hp => simp [pre] at hp; exact ⟨r, by rw [← hp]⟩
        rw [quo_two] at hq2
        have htk := qtake_eq [39] (39 :: r2) bad
        have hoff : off [39] (39 :: r2) = r2 := off_app [39] r2
        rw [hp, hoff] at htk
        go_wp2_with (go_at_call 40; refine (MC.box2 (us := [.string (bs [39])]) rfl (c_value_reader_take (bs [39]) ⟨bs (39 :: r2), bad⟩ _ htk) hB3.at' hg3).mono ?_)
        rintro e W4 rfl hB4
        have hI4 : Lib.IsBuilderF 102 5 w.heap.size w.heap.size (Lib.byteCells (acc ++ a)) W4 := bld_above hI3 (fun x h1 h2 => hB4.oth x h2 (by omega))
        have hB5 := hB3.trans hB4
        go_wp2_with (go_at_call 81; refine (Any.Builder_WriteString_k l166 bex w.heap.size w.heap.size _ (bs [39]) _ hI4 (by rw [Lib.byteCells_length, bs_size]; simp at hla hlen ⊢; omega) hB5.size).mono ?_)
        rintro e W6 ⟨rfl, h6, b6, _⟩
        have hB6 := hB5.below hbl b6
        go_wp2
        go_roundw
        case rel =>
          refine ⟨r2, acc ++ a ++ [39], ?_, hB6, hq2.symm, by simp at hla hlen ⊢; omega⟩
          rw [Lib.byteCells_append]; exact Or.inr h6
        case measure =>
          rw [szOf_eq hB6.at', szOf_eq hBx.at']
          simp; omega

theorem c_value_reader_quoted (p1 : GReader) : CM Tryz.prog 44 [.one (.pt 0 0 0 0)] [.box [cst p1.s, cb p1.bad]] (value_reader_quoted p1) (fun r => vs r.1) (fun r => [.box [cst r.2.s, cb r.2.bad]]) := by
  obtain ⟨s, bad⟩ := p1
  intro r h
  unfold value_reader_quoted at h
  obtain ⟨g1, h⟩ := grd_some h
  obtain rfl := Option.some.inj h
  exact MC.ofBox (us := []) rfl fun w b ty hb hg => quoted_walk s.data.toList bad (by simpa using g1) w b ty (by rw [bs_eta]; exact hb) hg

end Go.Proofs.YtpmoopnkoknbeaaGreatDoor
namespace Go.Proofs.YtpmoopnkoknbeaaGreatDoor
open Go.SX Go
set_option linter.unusedVariables false
set_option linter.unusedSimpArgs false
set_option maxRecDepth 100000
set_option maxHeartbeats 8000000

def value_reader_must (p1 : ByteArray) (p2 : GReader) : Option (Unit × GReader) :=
    bnd (value_reader_take p1 p2) fun r1 =>
    ift (!r1.1)
      (some ((), (GReader.mk r1.2.s true)))
      (some ((), r1.2))


theorem c_value_reader_must (p1 : ByteArray) (p2 : GReader) : CM Tryz.prog 41 [.one (.pt 0 0 0 0), vs p1] [.box [cst p2.s, cb p2.bad]] (value_reader_must p1 p2) (fun r => .tp []) (fun r => [.box [cst r.2.s, cb r.2.bad]]) :=
  uFnM 1 11 [] Tryz.f41 fun r => (uMc true [0] (c_value_reader_take _ _) fun r1 _ => (uC uZM uZM))

def value_reader_span (p1 : ByteArray) (p2 : GReader) : Option (ByteArray × GReader) :=
    bnd (strings_TrimLeft p2.s p1) fun r1 =>
    grd (0 ≤ (0 : Int) ∧ (0 : Int) ≤ (IntKind.i64.wrap ((p2.s.size : Int) - (r1.size : Int))) ∧ (IntKind.i64.wrap ((p2.s.size : Int) - (r1.size : Int))) ≤ (p2.s.size : Int)) <|
    bnd (some (p2.s.extract (0 : Int).toNat (IntKind.i64.wrap ((p2.s.size : Int) - (r1.size : Int))).toNat)) fun y1 =>
    some (y1, (GReader.mk r1 p2.bad))


theorem c_value_reader_span (p1 : ByteArray) (p2 : GReader) : CM Tryz.prog 43 [.one (.pt 0 0 0 0), vs p1] [.box [cst p2.s, cb p2.bad]] (value_reader_span p1 p2) (fun r => vs r.1) (fun r => [.box [cst r.2.s, cb r.2.bad]]) :=
  uFnM 1 31 [] Tryz.f43 fun r => (uP (c_strings_TrimLeft _ _) fun r1 _ => (uDr 12 (uYg 25 vs fun y1 => (uR .ret xFM))))

def value_reader_number_j1 (p2 : GReader) (r1 : (Int × Bool)) : Option (Int × GReader) :=
    some (r1.1, (GReader.mk p2.s true))

def value_reader_number_j2 (p2 : GReader) (r1 : (Int × Bool)) (z1 : Bool) : Option (Int × GReader) :=
    some (r1.1, (GReader.mk p2.s z1))

def value_reader_number (p1 : ByteArray) (p2 : GReader) : Option (Int × GReader) :=
    bnd (strconv_Atoi p1) fun r1 =>
    ift r1.2
      (ift p2.bad
         (value_reader_number_j1 p2 r1)
         (value_reader_number_j1 p2 r1))
      (ift p2.bad
         (value_reader_number_j2 p2 r1 true)
         (value_reader_number_j2 p2 r1 false))


theorem c_value_reader_number (p1 : ByteArray) (p2 : GReader) : CM Tryz.prog 42 [.one (.pt 0 0 0 0), vs p1] [.box [cst p2.s, cb p2.bad]] (value_reader_number p1 p2) (fun r => vi r.1) (fun r => [.box [cst r.2.s, cb r.2.bad]]) :=
  uFnM 1 24 [] Tryz.f42 fun r => (uPe (c_strconv_Atoi _) (fun r1 t1 p3 _ => (uQ (kS Tryz.f42 [1,1,0] 1) fun K3 hK3 => have hJ1 : ∀ (_ : Unit), value_reader_number_j1 p2 r1 = some r → K3.p [(5, vi r1.1)] [.box [cst p2.s, cb true]] := fun _ h => hK3 h (uR .ret xFM); (uC (uJ (hJ1 ())) (uJ (hJ1 ()))))) (fun r1 _ => (uQ (kS Tryz.f42 [1,1,0] 1) fun K6 hK6 => have hJ2 : ∀ (z1 : Bool), value_reader_number_j2 p2 r1 z1 = some r → K6.p [(5, vi r1.1)] [.box [cst p2.s, cb z1]] := fun z1 h => hK6 h (uR .ret xFM); (uC (uJ (hJ2 true)) (uJ (hJ2 false))))))

def value_within_j1 (x1 : Bool) : Option Bool :=
    some x1

def value_within (p1 : Int) (p2 : Int) (p3 : Int) : Option Bool :=
    ift (decide (p2 ≤ p1))
      (value_within_j1 (decide (p1 ≤ p3)))
      (value_within_j1 false)


theorem c_value_within (p1 : Int) (p2 : Int) (p3 : Int) : CT Tryz.prog 70 [vi p1, vi p2, vi p3] (value_within p1 p2 p3) vb :=
  uFn 15 [] Tryz.f70 fun r => (uQ (kS Tryz.f70 [1,0] 1) fun K2 hK2 => have hJ1 : ∀ (x1 : Bool), value_within_j1 x1 = some r → K2.p [(6, vb x1)] [] := fun x1 h => hK2 h (uR .ret xF); (uC (uJ (hJ1 (decide (p1 ≤ p3)))) (uJ (hJ1 false))))

def value_leap_j1 (x1 : Bool) : Option Bool :=
    some x1

def value_leap (p1 : Int) : Option Bool :=
    ift ((p1.tmod (4 : Int)) == (0 : Int))
      (ift ((p1.tmod (100 : Int)) != (0 : Int))
         (value_leap_j1 true)
         (value_leap_j1 ((p1.tmod (400 : Int)) == (0 : Int))))
      (value_leap_j1 false)


theorem c_value_leap (p1 : Int) : CT Tryz.prog 161 [vi p1] (value_leap p1) vb :=
  uFn 16 [] Tryz.f161 fun r => (uQ (kS Tryz.f161 [1,0] 1) fun K2 hK2 => have hJ1 : ∀ (x1 : Bool), value_leap_j1 x1 = some r → K2.p [(2, vb x1)] [] := fun x1 h => hK2 h (uR .ret xF); (uC (uC (uJ (hJ1 true)) (uJ (hJ1 ((p1.tmod (400 : Int)) == (0 : Int))))) (uJ (hJ1 false))))

def value_daysIn_j1 (x1 : Bool) : Option Int :=
    ift x1
      (some (30 : Int))
      (some (31 : Int))

def value_daysIn (p1 : Int) (p2 : Int) : Option Int :=
    ift (p2 == (2 : Int))
      (bnd (value_leap p1) fun r1 =>
       ift r1
         (some (29 : Int))
         (some (28 : Int)))
      (ift (p2 == (4 : Int))
         (value_daysIn_j1 (p2 == (4 : Int)))
         (ift (p2 == (6 : Int))
            (value_daysIn_j1 (p2 == (6 : Int)))
            (ift (p2 == (9 : Int))
               (value_daysIn_j1 (p2 == (9 : Int)))
               (value_daysIn_j1 (p2 == (11 : Int))))))


theorem c_value_daysIn (p1 : Int) (p2 : Int) : CT Tryz.prog 126 [vi p1, vi p2] (value_daysIn p1 p2) vi :=
  uFn 15 [] Tryz.f126 fun r => (uC (uP (c_value_leap _) fun r1 _ => (uC (uR .ret xF) (uR .ret xF))) (uQ (kS Tryz.f126 [1,0,1,0,1,1,0] 3) fun K12 hK12 => have hJ1 : ∀ (x1 : Bool), value_daysIn_j1 x1 = some r → K12.p [(10, vb x1)] [] := fun x1 h => hK12 h (uC (uR .ret xF) (uR .ret xF)); (uC (uJ (hJ1 (p2 == (4 : Int)))) (uC (uJ (hJ1 (p2 == (6 : Int)))) (uC (uJ (hJ1 (p2 == (9 : Int)))) (uJ (hJ1 (p2 == (11 : Int)))))))))

def value_checkCivil_j2 (x2 : Bool) : Option Int :=
    ift x2
      (some (3 : Int))
      (some (0 : Int))

def value_checkCivil_j1 (p1 : GCivil) (x1 : Bool) : Option Int :=
    ift x1
      (some (3 : Int))
      (bnd (value_within p1.hour (0 : Int) (23 : Int)) fun r5 =>
       ift (!r5)
         (value_checkCivil_j2 true)
         (bnd (value_within p1.minute (0 : Int) (59 : Int)) fun r6 =>
          ift (!r6)
            (value_checkCivil_j2 true)
            (bnd (value_within p1.second (0 : Int) (59 : Int)) fun r7 =>
             value_checkCivil_j2 (!r7))))

def value_checkCivil (p1 : GCivil) : Option Int :=
    bnd (value_within p1.year (1 : Int) (9999 : Int)) fun r1 =>
    ift (!r1)
      (value_checkCivil_j1 p1 true)
      (bnd (value_within p1.month (1 : Int) (12 : Int)) fun r2 =>
       ift (!r2)
         (value_checkCivil_j1 p1 true)
         (bnd (value_daysIn p1.year p1.month) fun r3 =>
          bnd (value_within p1.day (1 : Int) r3) fun r4 =>
          value_checkCivil_j1 p1 (!r4)))


theorem c_value_checkCivil (p1 : GCivil) : CT Tryz.prog 83 [.ag [ci p1.year, ci p1.month, ci p1.day, ci p1.hour, ci p1.minute, ci p1.second]] (value_checkCivil p1) vi :=
  uFn 40 [] Tryz.f83 fun r => (uQ (kS Tryz.f83 [1,0,0] 2) fun K3 hK3 => have hJ1 : ∀ (x1 : Bool), value_checkCivil_j1 p1 x1 = some r → K3.p [(1, .one (.pv (.rp [[pi p1.year, pi p1.month, pi p1.day, pi p1.hour, pi p1.minute, pi p1.second]] 0 0))), (23, vb x1)] [] := fun x1 h => hK3 h (uC (uR .ret xF) (uQ (kS Tryz.f83 [1,1,0,0] 2) fun K13 hK13 => have hJ2 : ∀ (x2 : Bool), value_checkCivil_j2 x2 = some r → K13.p [(39, vb x2)] [] := fun x2 h => hK13 h (uC (uR .ret xF) (uR .ret xF)); (uP (c_value_within _ _ _) fun r5 _ => (uC (uJ (hJ2 true)) (uP (c_value_within _ _ _) fun r6 _ => (uC (uJ (hJ2 true)) (uP (c_value_within _ _ _) fun r7 _ => (uJ (hJ2 (!r7)))))))))); (uDr 18 (uP (c_value_within _ _ _) fun r1 _ => (uC (uJ (hJ1 true)) (uP (c_value_within _ _ _) fun r2 _ => (uC (uJ (hJ1 true)) (uP (c_value_daysIn _ _) fun r3 _ => (uP (c_value_within _ _ _) fun r4 _ => (uJ (hJ1 (!r4)))))))))))

def value_floor_j1 (x1 : Int) (x2 : Int) : Option (Int × Int) :=
    some (x1, x2)

def value_floor (p1 : Int) (p2 : Int) : Option (Int × Int) :=
    grd (p2 ≠ 0) <|
    grd (p2 ≠ 0) <|
    ift (decide ((p1.tmod p2) < (0 : Int)))
      (value_floor_j1 (IntKind.i64.wrap ((IntKind.i64.wrap (p1.tdiv p2)) - (1 : Int))) (IntKind.i64.wrap ((p1.tmod p2) + p2)))
      (value_floor_j1 (IntKind.i64.wrap (p1.tdiv p2)) (p1.tmod p2))


theorem c_value_floor (p1 : Int) (p2 : Int) : CT Tryz.prog 135 [vi p1, vi p2] (value_floor p1 p2) (fun r => .tp [vi r.1, vi r.2]) :=
  uFn 23 [] Tryz.f135 fun r => (uDr 7 (uG (uG (uQ (kS Tryz.f135 [1,1,0] 1) fun K5 hK5 => have hJ1 : ∀ (x1 : Int) (x2 : Int), value_floor_j1 x1 x2 = some r → K5.p [(6, vi x1), (7, vi x2)] [] := fun x1 x2 h => hK5 h (uR .ret xF); (uC (uJ (hJ1 (IntKind.i64.wrap ((IntKind.i64.wrap (p1.tdiv p2)) - (1 : Int))) (IntKind.i64.wrap ((p1.tmod p2) + p2)))) (uJ (hJ1 (IntKind.i64.wrap (p1.tdiv p2)) (p1.tmod p2))))))))

def value_days_j1 (p3 : Int) (x1 : Int) (x2 : Int) : Option Int :=
    bnd (value_floor x1 (400 : Int)) fun r1 =>
    bnd (some (IntKind.i64.wrap ((IntKind.i64.wrap (r1.1 * (146097 : Int))) + (IntKind.i64.wrap (r1.2 * (365 : Int)))))) fun y1 =>
    bnd (some (IntKind.i64.wrap ((IntKind.i64.wrap (y1 + (IntKind.i64.wrap (r1.2.tdiv (4 : Int))))) - (IntKind.i64.wrap (r1.2.tdiv (100 : Int)))))) fun y2 =>
    bnd (some (IntKind.i64.wrap ((153 : Int) * (IntKind.i64.wrap (x2 - (3 : Int)))))) fun y3 =>
    bnd (some (IntKind.i64.wrap ((IntKind.i64.wrap (y3 + (2 : Int))).tdiv (5 : Int)))) fun y4 =>
    bnd (some (IntKind.i64.wrap ((IntKind.i64.wrap ((IntKind.i64.wrap (y2 + y4)) + p3)) - (1 : Int)))) fun y5 =>
    some (IntKind.i64.wrap (y5 - (719468 : Int)))

def value_days (p1 : Int) (p2 : Int) (p3 : Int) : Option Int :=
    ift (decide (p2 ≤ (2 : Int)))
      (value_days_j1 p3 (IntKind.i64.wrap (p1 - (1 : Int))) (IntKind.i64.wrap (p2 + (12 : Int))))
      (value_days_j1 p3 p1 p2)


theorem c_value_days (p1 : Int) (p2 : Int) (p3 : Int) : CT Tryz.prog 127 [vi p1, vi p2, vi p3] (value_days p1 p2 p3) vi :=
  uFn 41 [] Tryz.f127 fun r => (uQ (kS Tryz.f127 [1,0] 1) fun K2 hK2 => have hJ1 : ∀ (x1 : Int) (x2 : Int), value_days_j1 p3 x1 x2 = some r → K2.p [(0, vi x1), (1, vi x2), (2, vi p3)] [] := fun x1 x2 h => hK2 h (uP (c_value_floor _ _) fun r1 _ => (uY 24 vi fun y1 => (uY 30 vi fun y2 => (uY 33 vi fun y3 => (uY 35 vi fun y4 => (uY 39 vi fun y5 => (uR .ret xF))))))); (uC (uJ (hJ1 (IntKind.i64.wrap (p1 - (1 : Int))) (IntKind.i64.wrap (p2 + (12 : Int))))) (uJ (hJ1 p1 p2))))

def value_seconds (p1 : GCivil) : Option Int :=
    bnd (value_days p1.year p1.month p1.day) fun r1 =>
    bnd (some (IntKind.i64.wrap ((IntKind.i64.wrap (r1 * (86400 : Int))) + (IntKind.i64.wrap (p1.hour * (3600 : Int)))))) fun y1 =>
    bnd (some (IntKind.i64.wrap ((IntKind.i64.wrap (y1 + (IntKind.i64.wrap (p1.minute * (60 : Int))))) + p1.second))) fun y2 =>
    some y2


theorem c_value_seconds (p1 : GCivil) : CT Tryz.prog 84 [.ag [ci p1.year, ci p1.month, ci p1.day, ci p1.hour, ci p1.minute, ci p1.second]] (value_seconds p1) vi :=
  uFn 22 [] Tryz.f84 fun r => (uDr 18 (uP (c_value_days _ _ _) fun r1 _ => (uY 14 vi fun y1 => (uY 21 vi fun y2 => (uR .ret xF)))))

def value_reader_moment (p1 : GReader) : Option (Int × GReader) :=
    bnd (at? ([(ByteArray.mk #[45]), (ByteArray.mk #[45]), (ByteArray.mk #[84]), (ByteArray.mk #[58]), (ByteArray.mk #[58]), (ByteArray.mk #[90])]) (0 : Int)) fun e1 =>
    bnd (value_reader_span (ByteArray.mk #[48, 49, 50, 51, 52, 53, 54, 55, 56, 57]) p1) fun r1 =>
    bnd (value_reader_number r1.1 r1.2) fun r2 =>
    bnd (value_reader_must e1 r2.2) fun r3 =>
    bnd (at? ([(ByteArray.mk #[45]), (ByteArray.mk #[45]), (ByteArray.mk #[84]), (ByteArray.mk #[58]), (ByteArray.mk #[58]), (ByteArray.mk #[90])]) (1 : Int)) fun e2 =>
    bnd (value_reader_span (ByteArray.mk #[48, 49, 50, 51, 52, 53, 54, 55, 56, 57]) r3.2) fun r4 =>
    bnd (value_reader_number r4.1 r4.2) fun r5 =>
    grd ([r2.1].length + 1 ≤ 4294967296) <|
    bnd (value_reader_must e2 r5.2) fun r6 =>
    bnd (at? ([(ByteArray.mk #[45]), (ByteArray.mk #[45]), (ByteArray.mk #[84]), (ByteArray.mk #[58]), (ByteArray.mk #[58]), (ByteArray.mk #[90])]) (2 : Int)) fun e3 =>
    bnd (value_reader_span (ByteArray.mk #[48, 49, 50, 51, 52, 53, 54, 55, 56, 57]) r6.2) fun r7 =>
    bnd (value_reader_number r7.1 r7.2) fun r8 =>
    grd (([r2.1] ++ [r5.1]).length + 1 ≤ 4294967296) <|
    bnd (value_reader_must e3 r8.2) fun r9 =>
    bnd (at? ([(ByteArray.mk #[45]), (ByteArray.mk #[45]), (ByteArray.mk #[84]), (ByteArray.mk #[58]), (ByteArray.mk #[58]), (ByteArray.mk #[90])]) (3 : Int)) fun e4 =>
    bnd (value_reader_span (ByteArray.mk #[48, 49, 50, 51, 52, 53, 54, 55, 56, 57]) r9.2) fun r10 =>
    bnd (value_reader_number r10.1 r10.2) fun r11 =>
    grd ((([r2.1] ++ [r5.1]) ++ [r8.1]).length + 1 ≤ 4294967296) <|
    bnd (value_reader_must e4 r11.2) fun r12 =>
    bnd (at? ([(ByteArray.mk #[45]), (ByteArray.mk #[45]), (ByteArray.mk #[84]), (ByteArray.mk #[58]), (ByteArray.mk #[58]), (ByteArray.mk #[90])]) (4 : Int)) fun e5 =>
    bnd (value_reader_span (ByteArray.mk #[48, 49, 50, 51, 52, 53, 54, 55, 56, 57]) r12.2) fun r13 =>
    bnd (value_reader_number r13.1 r13.2) fun r14 =>
    grd (((([r2.1] ++ [r5.1]) ++ [r8.1]) ++ [r11.1]).length + 1 ≤ 4294967296) <|
    bnd (value_reader_must e5 r14.2) fun r15 =>
    bnd (at? ([(ByteArray.mk #[45]), (ByteArray.mk #[45]), (ByteArray.mk #[84]), (ByteArray.mk #[58]), (ByteArray.mk #[58]), (ByteArray.mk #[90])]) (5 : Int)) fun e6 =>
    bnd (value_reader_span (ByteArray.mk #[48, 49, 50, 51, 52, 53, 54, 55, 56, 57]) r15.2) fun r16 =>
    bnd (value_reader_number r16.1 r16.2) fun r17 =>
    grd ((((([r2.1] ++ [r5.1]) ++ [r8.1]) ++ [r11.1]) ++ [r14.1]).length + 1 ≤ 4294967296) <|
    bnd (value_reader_must e6 r17.2) fun r18 =>
    bnd (at? ((((([r2.1] ++ [r5.1]) ++ [r8.1]) ++ [r11.1]) ++ [r14.1]) ++ [r17.1]) (0 : Int)) fun e7 =>
    bnd (at? ((((([r2.1] ++ [r5.1]) ++ [r8.1]) ++ [r11.1]) ++ [r14.1]) ++ [r17.1]) (1 : Int)) fun e8 =>
    bnd (at? ((((([r2.1] ++ [r5.1]) ++ [r8.1]) ++ [r11.1]) ++ [r14.1]) ++ [r17.1]) (2 : Int)) fun e9 =>
    bnd (at? ((((([r2.1] ++ [r5.1]) ++ [r8.1]) ++ [r11.1]) ++ [r14.1]) ++ [r17.1]) (3 : Int)) fun e10 =>
    bnd (at? ((((([r2.1] ++ [r5.1]) ++ [r8.1]) ++ [r11.1]) ++ [r14.1]) ++ [r17.1]) (4 : Int)) fun e11 =>
    bnd (at? ((((([r2.1] ++ [r5.1]) ++ [r8.1]) ++ [r11.1]) ++ [r14.1]) ++ [r17.1]) (5 : Int)) fun e12 =>
    bnd (value_checkCivil (GCivil.mk e7 e8 e9 e10 e11 e12)) fun r19 =>
    ift (r19 != (0 : Int))
      (some ((0 : Int), (GReader.mk r18.2.s true)))
      (bnd (value_seconds (GCivil.mk e7 e8 e9 e10 e11 e12)) fun r20 =>
       some (r20, r18.2))


theorem c_value_reader_moment (p1 : GReader) : CM Tryz.prog 45 [.one (.pt 0 0 0 0)] [.box [cst p1.s, cb p1.bad]] (value_reader_moment p1) (fun r => vi r.1) (fun r => [.box [cst r.2.s, cb r.2.bad]]) :=
  uFnM 1 51 [6] Tryz.f45 fun r => (uA (vi (6 : Int)) (uOk 6 (uT (uL eS fun e1 a9 => (uMc true [0] (c_value_reader_span _ _) fun r1 _ => (uMc true [0] (c_value_reader_number _ _) fun r2 _ => (uA0 eI [r2.1] (uMc true [0] (c_value_reader_must _ _) fun r3 _ => (uT (uL eS fun e2 a18 => (uMc true [0] (c_value_reader_span _ _) fun r4 _ => (uMc true [0] (c_value_reader_number _ _) fun r5 _ => (uAp eI 1 [r5.1] (uMc true [0] (c_value_reader_must _ _) fun r6 _ => (uT (uL eS fun e3 a28 => (uMc true [0] (c_value_reader_span _ _) fun r7 _ => (uMc true [0] (c_value_reader_number _ _) fun r8 _ => (uAp eI 1 [r8.1] (uMc true [0] (c_value_reader_must _ _) fun r9 _ => (uT (uL eS fun e4 a38 => (uMc true [0] (c_value_reader_span _ _) fun r10 _ => (uMc true [0] (c_value_reader_number _ _) fun r11 _ => (uAp eI 1 [r11.1] (uMc true [0] (c_value_reader_must _ _) fun r12 _ => (uT (uL eS fun e5 a48 => (uMc true [0] (c_value_reader_span _ _) fun r13 _ => (uMc true [0] (c_value_reader_number _ _) fun r14 _ => (uAp eI 1 [r14.1] (uMc true [0] (c_value_reader_must _ _) fun r15 _ => (uT (uL eS fun e6 a58 => (uMc true [0] (c_value_reader_span _ _) fun r16 _ => (uMc true [0] (c_value_reader_number _ _) fun r17 _ => (uAp eI 1 [r17.1] (uMc true [0] (c_value_reader_must _ _) fun r18 _ => (uF (uGr 20 1 [2,3] (uIa eI 1 fun e7 a67 => (uLd eI a67 (uIa eI 1 fun e8 a68 => (uLd eI a68 (uIa eI 1 fun e9 a69 => (uLd eI a69 (uIa eI 1 fun e10 a70 => (uLd eI a70 (uIa eI 1 fun e11 a71 => (uLd eI a71 (uIa eI 1 fun e12 a72 => (uLd eI a72 (uP (c_value_checkCivil _) fun r19 _ => (uC (uR .ret xFM) (uP (c_value_seconds _) fun r20 _ => (uR .ret xFM))))))))))))))))))))))))))))))))))))))))))))))))))))))))

def value_field_j1 (p1 : GType) (x1 : Int) : Option GField :=
    bnd (at? p1.fields x1) fun e1 =>
    some e1

def value_field (p1 : GType) (p2 : Int) : Option GField :=
    ift (p1.kind == (6 : Int))
      (value_field_j1 p1 (0 : Int))
      (value_field_j1 p1 p2)


theorem c_value_field (p1 : GType) (p2 : Int) : CT Tryz.prog 62 [.ag [ci p1.kind, ci p1.scale, cl eField p1.fields], vi p2] (value_field p1 p2) (fun r => .ag [ci r.id, cst r.name, cb r.need, ci r.type.kind, ci r.type.scale, cl eField r.type.fields]) :=
  uFn 13 [4] Tryz.f62 fun r => (uQ (kS Tryz.f62 [1,0] 1) fun K2 hK2 => have hJ1 : ∀ (x1 : Int), value_field_j1 p1 x1 = some r → K2.p [(1, vi x1), (2, .one (.pv (.rp [[pi p1.kind, pi p1.scale, .ro (eField.els p1.fields)]] 0 0))), (4, .one (.pt 0 0 0 0))] [.box [ci (0 : Int), cst ByteArray.empty, cb false, ci (0 : Int), ci (0 : Int), .pv (.s (.slice none 0 0))]] := fun x1 h => hK2 h (uL eField fun e1 a6 => (uR .ret xF)); (uC (uJ (hJ1 (0 : Int))) (uJ (hJ1 p2))))

def value_reader_items_j4 (l2 : List GValue) (z7 : ByteArray) (z8 : Bool) : Option ((List GValue) × GReader) :=
    some (l2, (GReader.mk z7 z8))

def value_reader_items_j3 (rec1 : List GValue → ByteArray → Bool → Option ((List GValue) × GReader)) (q_value_reader_value : GType → GReader → Option (GValue × GReader)) (p1 : GType) (l1 : List GValue) (z5 : ByteArray) (z6 : Bool) (x2 : Bool) : Option ((List GValue) × GReader) :=
    ift x2
      (value_reader_items_j4 l1 z5 true)
      (bnd (value_field p1 ((l1.length : Nat) : Int)) fun r3 =>
       bnd (q_value_reader_value r3.type (GReader.mk z5 z6)) fun r4 =>
       grd (l1.length + 1 ≤ 4294967296) <|
       rec1 (l1 ++ [r4.1]) r4.2.s r4.2.bad)

def value_reader_items_j2 (rec1 : List GValue → ByteArray → Bool → Option ((List GValue) × GReader)) (q_value_reader_value : GType → GReader → Option (GValue × GReader)) (p1 : GType) (l1 : List GValue) (z5 : ByteArray) (z6 : Bool) : Option ((List GValue) × GReader) :=
    ift (p1.kind == (7 : Int))
      (ift (((l1.length : Nat) : Int) == (p1.fields.length : Int))
         (value_reader_items_j3 rec1 q_value_reader_value p1 l1 z5 z6 true)
         (value_reader_items_j3 rec1 q_value_reader_value p1 l1 z5 z6 (decide ((64 : Int) < ((l1.length : Nat) : Int)))))
      (value_reader_items_j3 rec1 q_value_reader_value p1 l1 z5 z6 (decide ((64 : Int) < ((l1.length : Nat) : Int))))

def value_reader_items_j1 (rec1 : List GValue → ByteArray → Bool → Option ((List GValue) × GReader)) (q_value_reader_value : GType → GReader → Option (GValue × GReader)) (p1 : GType) (l1 : List GValue) (z3 : ByteArray) (z4 : Bool) (x1 : Bool) : Option ((List GValue) × GReader) :=
    ift x1
      (ift (decide ((0 : Int) < ((l1.length : Nat) : Int)))
         (bnd (value_reader_must (ByteArray.mk #[44, 32]) (GReader.mk z3 z4)) fun r2 =>
          value_reader_items_j2 rec1 q_value_reader_value p1 l1 r2.2.s r2.2.bad)
         (value_reader_items_j2 rec1 q_value_reader_value p1 l1 z3 z4))
      (value_reader_items_j4 l1 z3 z4)

def value_reader_items_l1 (q_value_reader_value : GType → GReader → Option (GValue × GReader)) (p1 : GType) (p2 : ByteArray) : Nat → List GValue → ByteArray → Bool → Option ((List GValue) × GReader)
  | 0, _, _, _ => none
  | k1 + 1, l1, z1, z2 =>
    ift (!z2)
      (bnd (value_reader_take p2 (GReader.mk z1 z2)) fun r1 =>
       value_reader_items_j1 (value_reader_items_l1 q_value_reader_value p1 p2 k1) q_value_reader_value p1 l1 r1.2.s r1.2.bad (!r1.1))
      (value_reader_items_j1 (value_reader_items_l1 q_value_reader_value p1 p2 k1) q_value_reader_value p1 l1 z1 z2 false)

def value_reader_value_j1 (p1 : GType) (z1 : ByteArray) (z2 : Bool) (z3 : Int) (z4 : ByteArray) (z5 : List GValue) : Option (GValue × GReader) :=
    some ((GValue.mk p1.kind z3 p1.scale z4 z5), (GReader.mk z1 z2))

mutual

def value_reader_items : Nat → GType → ByteArray → GReader → Option ((List GValue) × GReader)
  | 0, _, _, _ => none
  | k0 + 1, p1, p2, p3 =>
    value_reader_items_l1 (value_reader_value k0) p1 p2 BIG [] p3.s p3.bad

def value_reader_value : Nat → GType → GReader → Option (GValue × GReader)
  | 0, _, _ => none
  | k0 + 1, p1, p2 =>
    bnd (value_reader_take (ByteArray.mk #[110, 117, 108, 108]) p2) fun r1 =>
    ift r1.1
      (some ((GValue.mk (0 : Int) (0 : Int) (0 : Int) ByteArray.empty []), r1.2))
      (ift (p1.kind == (1 : Int))
         (bnd (value_reader_take (ByteArray.mk #[116, 114, 117, 101]) r1.2) fun r2 =>
          ift r2.1
            (value_reader_value_j1 p1 r2.2.s r2.2.bad (1 : Int) ByteArray.empty [])
            (bnd (value_reader_must (ByteArray.mk #[102, 97, 108, 115, 101]) r2.2) fun r3 =>
             value_reader_value_j1 p1 r3.2.s r3.2.bad (0 : Int) ByteArray.empty []))
         (ift (p1.kind == (2 : Int))
            (bnd (value_reader_span (ByteArray.mk #[45, 48, 49, 50, 51, 52, 53, 54, 55, 56, 57]) r1.2) fun r4 =>
             bnd (value_reader_number r4.1 r4.2) fun r5 =>
             value_reader_value_j1 p1 r5.2.s r5.2.bad r5.1 ByteArray.empty [])
            (ift (p1.kind == (3 : Int))
               (bnd (value_reader_span (ByteArray.mk #[45, 48, 49, 50, 51, 52, 53, 54, 55, 56, 57]) r1.2) fun r6 =>
                bnd (value_reader_must (ByteArray.mk #[46]) r6.2) fun r7 =>
                bnd (value_reader_span (ByteArray.mk #[45, 48, 49, 50, 51, 52, 53, 54, 55, 56, 57]) r7.2) fun r8 =>
                grd (r6.1.size + r8.1.size ≤ 4611686018427387904) <|
                bnd (value_reader_number (r6.1 ++ r8.1) r8.2) fun r9 =>
                value_reader_value_j1 p1 r9.2.s r9.2.bad r9.1 ByteArray.empty [])
               (ift (p1.kind == (4 : Int))
                  (bnd (value_reader_must (ByteArray.mk #[39]) r1.2) fun r10 =>
                   bnd (value_reader_quoted r10.2) fun r11 =>
                   value_reader_value_j1 p1 r11.2.s r11.2.bad (0 : Int) r11.1 [])
                  (ift (p1.kind == (5 : Int))
                     (bnd (value_reader_moment r1.2) fun r12 =>
                      value_reader_value_j1 p1 r12.2.s r12.2.bad r12.1 ByteArray.empty [])
                     (ift (p1.kind == (6 : Int))
                        (bnd (value_reader_must (ByteArray.mk #[91]) r1.2) fun r13 =>
                         bnd ((value_reader_items k0) p1 (ByteArray.mk #[93]) r13.2) fun r14 =>
                         value_reader_value_j1 p1 r14.2.s r14.2.bad (0 : Int) ByteArray.empty r14.1)
                        (ift (p1.kind == (7 : Int))
                           (bnd (value_reader_must (ByteArray.mk #[40]) r1.2) fun r15 =>
                            bnd ((value_reader_items k0) p1 (ByteArray.mk #[41]) r15.2) fun r16 =>
                            value_reader_value_j1 p1 r16.2.s r16.2.bad (0 : Int) ByteArray.empty r16.1)
                           (value_reader_value_j1 p1 r1.2.s r1.2.bad (0 : Int) ByteArray.empty []))))))))

end

abbrev qa491 (p1 : GType) : List PV := [pi p1.kind, pi p1.scale, .ro (eField.els p1.fields)]

mutual

theorem c_value_reader_items : ∀ (k0 : Nat) (p1 : GType) (p2 : ByteArray) (p3 : GReader), CM Tryz.prog 46 [.one (.pt 0 0 0 0), .ag [ci p1.kind, ci p1.scale, cl eField p1.fields], vs p2] [.box [cst p3.s, cb p3.bad]] (value_reader_items k0 p1 p2 p3) (fun r => vl eValue r.1) (fun r => [.box [cst r.2.s, cb r.2.bad]])
  | 0, _, _, _ => uM0 (value_reader_items.eq_1 ..)
  | k0 + 1, p1, p2, p3 => uFnM 1 54 [] Tryz.f46 fun r => (uU (value_reader_items.eq_2 ..) (uQ (kS Tryz.f46 [1,1,0] 1) fun K3 hK3 => have hJ4 : ∀ (l2 : List GValue) (z7 : ByteArray) (z8 : Bool), value_reader_items_j4 l2 z7 z8 = some r → K3.p [(7, .one (.sl 1 5 0 l2.length))] [.box [cst z7, cb z8], .arr 5 (eValue.els l2)] := fun l2 z7 z8 h => hK3 h (uKl eValue l2 1 [6] (uR .ret xFM)); (uCv (.li 7 5) (uO (cd Tryz.f46 [1,1,0,0,0]) (kS Tryz.f46 [1,1,0,0] 1) fun R1 b1 => have hL1 : ∀ (k1 : Nat) (l1 : List GValue) (z1 : ByteArray) (z2 : Bool), value_reader_items_l1 (value_reader_value k0) p1 p2 k1 l1 z1 z2 = some r → (R1 k1).p [(0, .one (.pt 0 0 0 0)), (2, vs p2), (4, .one (.pv (.rp [(qa491 p1)] 0 0))), (7, .one (.sl 1 5 0 l1.length))] [.box [cst z1, cb z2], .arr 5 (eValue.els l1)] := by intro k1; induction k1 with | zero => intro l1 z1 z2 h; exact uE0 (value_reader_items_l1.eq_1 ..) h | succ k1 ih1 => intro l1 z1 z2 h; exact b1 h (uU (value_reader_items_l1.eq_2 ..) (uQ (kS Tryz.f46 [1,1,0,0,0,0,0] 2) fun K5 hK5 => have hJ1 : ∀ (z3 : ByteArray) (z4 : Bool) (x1 : Bool), value_reader_items_j1 (value_reader_items_l1 (value_reader_value k0) p1 p2 k1) (value_reader_value k0) p1 l1 z3 z4 x1 = some r → K5.p [(0, .one (.pt 0 0 0 0)), (2, vs p2), (4, .one (.pv (.rp [(qa491 p1)] 0 0))), (7, .one (.sl 1 5 0 l1.length)), (18, vb x1)] [.box [cst z3, cb z4], .arr 5 (eValue.els l1)] := fun z3 z4 x1 h => hK5 h (uC (uQ (kS Tryz.f46 [1,1,0,0,0,1,0,0] 2) fun K9 hK9 => have hJ2 : ∀ (z5 : ByteArray) (z6 : Bool), value_reader_items_j2 (value_reader_items_l1 (value_reader_value k0) p1 p2 k1) (value_reader_value k0) p1 l1 z5 z6 = some r → K9.p [(0, .one (.pt 0 0 0 0)), (2, vs p2), (4, .one (.pv (.rp [(qa491 p1)] 0 0))), (7, .one (.sl 1 5 0 l1.length))] [.box [cst z5, cb z6], .arr 5 (eValue.els l1)] := fun z5 z6 h => hK9 h (uQ (kS Tryz.f46 [1,1,0,0,0,1,0,1,0,0] 3) fun K14 hK14 => have hJ3 : ∀ (x2 : Bool), value_reader_items_j3 (value_reader_items_l1 (value_reader_value k0) p1 p2 k1) (value_reader_value k0) p1 l1 z5 z6 x2 = some r → K14.p [(0, .one (.pt 0 0 0 0)), (2, vs p2), (4, .one (.pv (.rp [(qa491 p1)] 0 0))), (7, .one (.sl 1 5 0 l1.length)), (39, vb x2)] [.box [cst z5, cb z6], .arr 5 (eValue.els l1)] := fun x2 h => hK14 h (uC (uR (.exit 0) (xM (uJ (hJ4 l1 z5 true)))) (uP (c_value_field _ _) fun r3 _ => (uMc true [0] (c_value_reader_value k0 _ _) fun r4 _ => (uW 51 eValue [r4.1] (uAp eValue 1 [r4.1] (uJ (ih1 (l1 ++ [r4.1]) r4.2.s r4.2.bad))))))); (uC (uN eField p1.fields (uC (uJ (hJ3 true)) (uJ (hJ3 (decide ((64 : Int) < ((l1.length : Nat) : Int))))))) (uJ (hJ3 (decide ((64 : Int) < ((l1.length : Nat) : Int))))))); (uC (uMc true [0] (c_value_reader_must _ _) fun r2 _ => (uJ (hJ2 r2.2.s r2.2.bad))) (uJ (hJ2 z3 z4)))) (uR (.exit 0) (xM (uJ (hJ4 l1 z3 z4))))); (uC (uMc true [0] (c_value_reader_take _ _) fun r1 _ => (uJ (hJ1 r1.2.s r1.2.bad (!r1.1)))) (uJ (hJ1 z1 z2 false)))))
 uE (hL1 BIG [] p3.s p3.bad)))))

theorem c_value_reader_value : ∀ (k0 : Nat) (p1 : GType) (p2 : GReader), CM Tryz.prog 22 [.one (.pt 0 0 0 0), .ag [ci p1.kind, ci p1.scale, cl eField p1.fields]] [.box [cst p2.s, cb p2.bad]] (value_reader_value k0 p1 p2) (fun r => .ag [ci r.1.kind, ci r.1.n, ci r.1.scale, cst r.1.s, cl eValue r.1.items]) (fun r => [.box [cst r.2.s, cb r.2.bad]])
  | 0, _, _ => uM0 (value_reader_value.eq_1 ..)
  | k0 + 1, p1, p2 => uFnM 1 73 [4, 5] Tryz.f22 fun r => (uU (value_reader_value.eq_2 ..) (uMc true [0] (c_value_reader_take _ _) fun r1 _ => (uC (uR .ret xFM) (uQ (kS Tryz.f22 [1,1,1,0] 1) fun K8 hK8 => have hJ1 : ∀ (z1 : ByteArray) (z2 : Bool) (z3 : Int) (z4 : ByteArray) (z5 : List GValue), value_reader_value_j1 p1 z1 z2 z3 z4 z5 = some r → K8.p [(4, .one (.pt 1 0 0 0)), (5, .one (.pt 2 0 0 0))] [.box [cst z1, cb z2], .box [ci (0 : Int), ci (0 : Int), ci (0 : Int), cst ByteArray.empty, .pv (.s (.slice none 0 0))], .box [ci p1.kind, ci z3, ci p1.scale, cst z4, cl eValue z5]] := fun z1 z2 z3 z4 z5 h => hK8 h (uR .ret xFM); (uC (uMc true [0] (c_value_reader_take _ _) fun r2 _ => (uC (uCvj (.sb 2 4) (uJ (hJ1 r2.2.s r2.2.bad (1 : Int) ByteArray.empty []))) (uMc true [0] (c_value_reader_must _ _) fun r3 _ => (uCvj (.sb 2 4) (uJ (hJ1 r3.2.s r3.2.bad (0 : Int) ByteArray.empty [])))))) (uC (uMc true [0] (c_value_reader_span _ _) fun r4 _ => (uMc true [0] (c_value_reader_number _ _) fun r5 _ => (uCvj (.sb 2 4) (uJ (hJ1 r5.2.s r5.2.bad r5.1 ByteArray.empty []))))) (uC (uMc true [0] (c_value_reader_span _ _) fun r6 _ => (uMc true [0] (c_value_reader_must _ _) fun r7 _ => (uMc true [0] (c_value_reader_span _ _) fun r8 _ => (uG (uMc true [0] (c_value_reader_number _ _) fun r9 _ => (uCvj (.sb 2 4) (uJ (hJ1 r9.2.s r9.2.bad r9.1 ByteArray.empty [])))))))) (uC (uMc true [0] (c_value_reader_must _ _) fun r10 _ => (uMc true [0] (c_value_reader_quoted _) fun r11 _ => (uCvj (.sb 2 4) (uJ (hJ1 r11.2.s r11.2.bad (0 : Int) r11.1 []))))) (uC (uMc true [0] (c_value_reader_moment _) fun r12 _ => (uCvj (.sb 2 4) (uJ (hJ1 r12.2.s r12.2.bad r12.1 ByteArray.empty [])))) (uC (uMc true [0] (c_value_reader_must _ _) fun r13 _ => (uMc true [0] (c_value_reader_items k0 _ _ _) fun r14 _ => (uJ (hJ1 r14.2.s r14.2.bad (0 : Int) ByteArray.empty r14.1)))) (uC (uMc true [0] (c_value_reader_must _ _) fun r15 _ => (uMc true [0] (c_value_reader_items k0 _ _ _) fun r16 _ => (uJ (hJ1 r16.2.s r16.2.bad (0 : Int) ByteArray.empty r16.1)))) (uCvj (.sb 2 4) (uJ (hJ1 r1.2.s r1.2.bad (0 : Int) ByteArray.empty []))))))))))))))

end

def value_text_j2 (rec1 : Nat → Option Bool) (p1 : ByteArray) (z1 : Nat) (x2 : Bool) : Option Bool :=
    ift x2
      (some false)
      (rec1 (z1 + (Utf8.decode p1 z1).2))

def value_text_j3 : Option Bool :=
    some true

def value_text_l1 (p1 : ByteArray) : Nat → Nat → Option Bool
  | 0, _ => none
  | k1 + 1, z1 =>
    ift (decide (z1 < p1.size))
      (ift (decide (Int.ofNat (Utf8.decode p1 z1).1 < (32 : Int)))
         (value_text_j2 (value_text_l1 p1 k1) p1 z1 true)
         (value_text_j2 (value_text_l1 p1 k1) p1 z1 (Int.ofNat (Utf8.decode p1 z1).1 == (127 : Int))))
      (value_text_j3)

def value_text_j1 (p1 : ByteArray) (x1 : Bool) : Option Bool :=
    ift x1
      (some false)
      (value_text_l1 p1 BIG 0)

def value_text (p1 : ByteArray) : Option Bool :=
    ift (decide ((256 : Int) < (p1.size : Int)))
      (value_text_j1 p1 true)
      (bnd (utf8_ValidString p1) fun r1 =>
       value_text_j1 p1 (!r1))


theorem c_value_text (p1 : ByteArray) : CT Tryz.prog 129 [vs p1] (value_text p1) vb :=
  uFn 24 [] Tryz.f129 fun r => (uQ (kS Tryz.f129 [1,0,0] 2) fun K3 hK3 => have hJ1 : ∀ (x1 : Bool), value_text_j1 p1 x1 = some r → K3.p [(0, vs p1), (12, vb x1)] [] := fun x1 h => hK3 h (uC (uR .ret xF) (uQ (kS Tryz.f129 [1,1,0] 1) fun K8 hK8 => have hJ3 : ∀ (_ : Unit), value_text_j3 = some r → K8.p [] [] := fun _ h => hK8 h (uR .ret xF); (uRg p1 (uO (cd Tryz.f129 [1,1,0,1,0,0]) (kS Tryz.f129 [1,1,0,1,0] 1) fun R1 b1 => have hL1 : ∀ (k1 : Nat) (z1 : Nat), value_text_l1 p1 k1 z1 = some r → (R1 k1).p [(14, .one (.pt 0 0 0 0))] [.raw (.stringIter p1 z1)] := by intro k1; induction k1 with | zero => intro z1 h; exact uE0 (value_text_l1.eq_1 ..) h | succ k1 ih1 => intro z1 h; exact b1 h (uU (value_text_l1.eq_2 ..) (uNx 0 (fun b11 => (uT (uQ (kS Tryz.f129 [1,1,0,1,0,0,1,1,0,1,0] 2) fun K14 hK14 => have hJ2 : ∀ (x2 : Bool), value_text_j2 (value_text_l1 p1 k1) p1 z1 x2 = some r → K14.p [(14, .one (.pt 0 0 0 0)), (23, vb x2)] [.raw (.stringIter p1 (z1 + (Utf8.decode p1 z1).2))] := fun x2 h => hK14 h (uC (uR .ret (xN (xN xF))) (uJ (ih1 (z1 + (Utf8.decode p1 z1).2)))); (uC (uJ (hJ2 true)) (uJ (hJ2 (Int.ofNat (Utf8.decode p1 z1).1 == (127 : Int)))))))) (fun b11 => (uF (uR (.exit 0) (xM (uJ (hJ3 ()))))))))
 uE (hL1 BIG 0))))); (uC (uJ (hJ1 true)) (uP (c_utf8_ValidString _) fun r1 _ => (uJ (hJ1 (!r1))))))

def value_plain_j2 (x2 : Bool) : Option Bool :=
    some x2

def value_plain_j3 (x3 : Bool) : Option Bool :=
    some x3

def value_plain_j4 (x4 : Bool) : Option Bool :=
    some x4

def value_plain_j5 (x5 : Bool) : Option Bool :=
    some x5

def value_plain_j6 (x6 : Bool) : Option Bool :=
    some x6

def value_plain_j7 (x7 : Bool) : Option Bool :=
    some x7

def value_plain_j8 (x8 : Bool) : Option Bool :=
    some x8

def value_plain_j9 (x9 : Bool) : Option Bool :=
    some x9

def value_plain_j1 (p1 : GValue) (x1 : Bool) : Option Bool :=
    ift (p1.kind == (0 : Int))
      (ift x1
         (ift (p1.s.toList == (ByteArray.mk #[]).toList)
            (value_plain_j2 ((p1.items.length : Int) == (0 : Int)))
            (value_plain_j2 false))
         (value_plain_j2 false))
      (ift (p1.kind == (1 : Int))
         (bnd (value_within p1.n (0 : Int) (1 : Int)) fun r1 =>
          ift r1
            (ift (p1.scale == (0 : Int))
               (ift (p1.s.toList == (ByteArray.mk #[]).toList)
                  (value_plain_j3 ((p1.items.length : Int) == (0 : Int)))
                  (value_plain_j3 false))
               (value_plain_j3 false))
            (value_plain_j3 false))
         (ift (p1.kind == (2 : Int))
            (bnd (value_within p1.n (-999999999999999999 : Int) (999999999999999999 : Int)) fun r2 =>
             ift r2
               (ift (p1.scale == (0 : Int))
                  (ift (p1.s.toList == (ByteArray.mk #[]).toList)
                     (value_plain_j4 ((p1.items.length : Int) == (0 : Int)))
                     (value_plain_j4 false))
                  (value_plain_j4 false))
               (value_plain_j4 false))
            (ift (p1.kind == (3 : Int))
               (bnd (value_within p1.n (-999999999999999999 : Int) (999999999999999999 : Int)) fun r3 =>
                ift r3
                  (bnd (value_within p1.scale (0 : Int) (12 : Int)) fun r4 =>
                   ift r4
                     (ift (p1.s.toList == (ByteArray.mk #[]).toList)
                        (value_plain_j5 ((p1.items.length : Int) == (0 : Int)))
                        (value_plain_j5 false))
                     (value_plain_j5 false))
                  (value_plain_j5 false))
               (ift (p1.kind == (4 : Int))
                  (ift x1
                     (bnd (value_text p1.s) fun r5 =>
                      ift r5
                        (value_plain_j6 ((p1.items.length : Int) == (0 : Int)))
                        (value_plain_j6 false))
                     (value_plain_j6 false))
                  (ift (p1.kind == (5 : Int))
                     (bnd (value_within p1.n (-62135596800 : Int) (253402300799 : Int)) fun r6 =>
                      ift r6
                        (ift (p1.scale == (0 : Int))
                           (ift (p1.s.toList == (ByteArray.mk #[]).toList)
                              (value_plain_j7 ((p1.items.length : Int) == (0 : Int)))
                              (value_plain_j7 false))
                           (value_plain_j7 false))
                        (value_plain_j7 false))
                     (ift (p1.kind == (6 : Int))
                        (ift x1
                           (ift (p1.s.toList == (ByteArray.mk #[]).toList)
                              (value_plain_j8 (decide ((p1.items.length : Int) ≤ (64 : Int))))
                              (value_plain_j8 false))
                           (value_plain_j8 false))
                        (ift (p1.kind == (7 : Int))
                           (ift x1
                              (ift (p1.s.toList == (ByteArray.mk #[]).toList)
                                 (value_plain_j9 (decide ((0 : Int) < (p1.items.length : Int))))
                                 (value_plain_j9 false))
                              (value_plain_j9 false))
                           (some false))))))))

def value_plain (p1 : GValue) : Option Bool :=
    ift (p1.n == (0 : Int))
      (value_plain_j1 p1 (p1.scale == (0 : Int)))
      (value_plain_j1 p1 false)


theorem c_value_plain (p1 : GValue) : CT Tryz.prog 91 [.ag [ci p1.kind, ci p1.n, ci p1.scale, cst p1.s, cl eValue p1.items]] (value_plain p1) vb :=
  uFn 154 [] Tryz.f91 fun r => (uQ (kS Tryz.f91 [1,0] 1) fun K2 hK2 => have hJ1 : ∀ (x1 : Bool), value_plain_j1 p1 x1 = some r → K2.p [(1, .one (.pv (.rp [[pi p1.kind, pi p1.n, pi p1.scale, .s (.string p1.s), .ro (eValue.els p1.items)]] 0 0))), (3, vb x1)] [] := fun x1 h => hK2 h (uC (uQ (kS Tryz.f91 [1,1,0,1,0,1,0,0] 3) fun K8 hK8 => have hJ2 : ∀ (x2 : Bool), value_plain_j2 x2 = some r → K8.p [(2, vb x2)] [] := fun x2 h => hK8 h (uR .ret xF); (uC (uC (uN eValue p1.items (uJ (hJ2 ((p1.items.length : Int) == (0 : Int))))) (uJ (hJ2 false))) (uJ (hJ2 false)))) (uC (uQ (kS Tryz.f91 [1,1,0,1,0,1,1,1,0,0] 3) fun K13 hK13 => have hJ3 : ∀ (x3 : Bool), value_plain_j3 x3 = some r → K13.p [(2, vb x3)] [] := fun x3 h => hK13 h (uR .ret xF); (uP (c_value_within _ _ _) fun r1 _ => (uC (uC (uC (uN eValue p1.items (uJ (hJ3 ((p1.items.length : Int) == (0 : Int))))) (uJ (hJ3 false))) (uJ (hJ3 false))) (uJ (hJ3 false))))) (uC (uQ (kS Tryz.f91 [1,1,0,1,0,1,1,1,1,1,0,0] 3) fun K20 hK20 => have hJ4 : ∀ (x4 : Bool), value_plain_j4 x4 = some r → K20.p [(2, vb x4)] [] := fun x4 h => hK20 h (uR .ret xF); (uP (c_value_within _ _ _) fun r2 _ => (uC (uC (uC (uN eValue p1.items (uJ (hJ4 ((p1.items.length : Int) == (0 : Int))))) (uJ (hJ4 false))) (uJ (hJ4 false))) (uJ (hJ4 false))))) (uC (uQ (kS Tryz.f91 [1,1,0,1,0,1,1,1,1,1,1,1,0,0] 3) fun K27 hK27 => have hJ5 : ∀ (x5 : Bool), value_plain_j5 x5 = some r → K27.p [(2, vb x5)] [] := fun x5 h => hK27 h (uR .ret xF); (uP (c_value_within _ _ _) fun r3 _ => (uC (uP (c_value_within _ _ _) fun r4 _ => (uC (uC (uN eValue p1.items (uJ (hJ5 ((p1.items.length : Int) == (0 : Int))))) (uJ (hJ5 false))) (uJ (hJ5 false)))) (uJ (hJ5 false))))) (uC (uQ (kS Tryz.f91 [1,1,0,1,0,1,1,1,1,1,1,1,1,1,0,0] 3) fun K35 hK35 => have hJ6 : ∀ (x6 : Bool), value_plain_j6 x6 = some r → K35.p [(2, vb x6)] [] := fun x6 h => hK35 h (uR .ret xF); (uC (uP (c_value_text _) fun r5 _ => (uC (uN eValue p1.items (uJ (hJ6 ((p1.items.length : Int) == (0 : Int))))) (uJ (hJ6 false)))) (uJ (hJ6 false)))) (uC (uQ (kS Tryz.f91 [1,1,0,1,0,1,1,1,1,1,1,1,1,1,1,1,0,0] 3) fun K41 hK41 => have hJ7 : ∀ (x7 : Bool), value_plain_j7 x7 = some r → K41.p [(2, vb x7)] [] := fun x7 h => hK41 h (uR .ret xF); (uP (c_value_within _ _ _) fun r6 _ => (uC (uC (uC (uN eValue p1.items (uJ (hJ7 ((p1.items.length : Int) == (0 : Int))))) (uJ (hJ7 false))) (uJ (hJ7 false))) (uJ (hJ7 false))))) (uC (uQ (kS Tryz.f91 [1,1,0,1,0,1,1,1,1,1,1,1,1,1,1,1,1,1,0,0] 3) fun K48 hK48 => have hJ8 : ∀ (x8 : Bool), value_plain_j8 x8 = some r → K48.p [(2, vb x8)] [] := fun x8 h => hK48 h (uR .ret xF); (uC (uC (uN eValue p1.items (uJ (hJ8 (decide ((p1.items.length : Int) ≤ (64 : Int)))))) (uJ (hJ8 false))) (uJ (hJ8 false)))) (uC (uQ (kS Tryz.f91 [1,1,0,1,0,1,1,1,1,1,1,1,1,1,1,1,1,1,1,1,0,0] 3) fun K53 hK53 => have hJ9 : ∀ (x9 : Bool), value_plain_j9 x9 = some r → K53.p [(2, vb x9)] [] := fun x9 h => hK53 h (uR .ret xF); (uC (uC (uN eValue p1.items (uJ (hJ9 (decide ((0 : Int) < (p1.items.length : Int)))))) (uJ (hJ9 false))) (uJ (hJ9 false)))) (uR .ret xF))))))))); (uC (uJ (hJ1 (p1.scale == (0 : Int)))) (uJ (hJ1 false))))

def slices_IndexFunc_api_Value_api_Value_of_value_sound_1_j1 (z2 : Int) : Option (Int × Int) :=
    some ((-1 : Int), z2)

def slices_IndexFunc_api_Value_api_Value_of_value_sound_1_l1 (q_value_sound_1_s : GValue → Int → Int → Option (Bool × Int)) (p1 : (List GValue)) (p2 : Int) : Nat → Int → Int → Option (Int × Int)
  | 0, _, _ => none
  | k1 + 1, z1, x1 =>
    ift (decide (x1 < (p1.length : Int)))
      (bnd (at? p1 x1) fun e1 =>
       bnd (q_value_sound_1_s e1 p2 z1) fun r1 =>
       ift r1.1
         (some (x1, r1.2))
         ((slices_IndexFunc_api_Value_api_Value_of_value_sound_1_l1 q_value_sound_1_s p1 p2 k1) r1.2 (IntKind.i64.wrap (x1 + (1 : Int)))))
      (slices_IndexFunc_api_Value_api_Value_of_value_sound_1_j1 z1)

def value_sound_j2 (q_slices_ContainsFunc_api_Value_api_Value_of_value_sound_1 : (List GValue) → Int → Int → Option (Bool × Int)) (p1 : GValue) (p2 : Int) (z1 : Int) (x1 : Bool) : Option (Bool × Int) :=
    ift x1
      (some (false, z1))
      (bnd (q_slices_ContainsFunc_api_Value_api_Value_of_value_sound_1 p1.items p2 z1) fun r2 =>
       some ((!r2.1), r2.2))

def value_sound_j1 (q_slices_ContainsFunc_api_Value_api_Value_of_value_sound_1 : (List GValue) → Int → Int → Option (Bool × Int)) (p1 : GValue) (p2 : Int) (z1 : Int) : Option (Bool × Int) :=
    ift (decide ((4 : Int) < p2))
      (value_sound_j2 q_slices_ContainsFunc_api_Value_api_Value_of_value_sound_1 p1 p2 z1 true)
      (ift (decide ((256 : Int) < z1))
         (value_sound_j2 q_slices_ContainsFunc_api_Value_api_Value_of_value_sound_1 p1 p2 z1 true)
         (bnd (value_plain p1) fun r1 =>
          value_sound_j2 q_slices_ContainsFunc_api_Value_api_Value_of_value_sound_1 p1 p2 z1 (!r1)))

mutual

def slices_ContainsFunc_api_Value_api_Value_of_value_sound_1 : Nat → (List GValue) → Int → Int → Option (Bool × Int)
  | 0, _, _, _ => none
  | k0 + 1, p1, p2, p3 =>
    bnd ((slices_IndexFunc_api_Value_api_Value_of_value_sound_1 k0) p1 p2 p3) fun r1 =>
    some ((decide ((0 : Int) ≤ r1.1)), r1.2)

def slices_IndexFunc_api_Value_api_Value_of_value_sound_1 : Nat → (List GValue) → Int → Int → Option (Int × Int)
  | 0, _, _, _ => none
  | k0 + 1, p1, p2, p3 =>
    slices_IndexFunc_api_Value_api_Value_of_value_sound_1_l1 (value_sound_1_s k0) p1 p2 BIG p3 (0 : Int)

def value_sound : Nat → GValue → Int → Int → Option (Bool × Int)
  | 0, _, _, _ => none
  | k0 + 1, p1, p2, p3 =>
    ift (p1.kind != (0 : Int))
      (value_sound_j1 (slices_ContainsFunc_api_Value_api_Value_of_value_sound_1 k0) p1 p2 (IntKind.i64.wrap (p3 + (1 : Int))))
      (value_sound_j1 (slices_ContainsFunc_api_Value_api_Value_of_value_sound_1 k0) p1 p2 p3)

def value_sound_1_s : Nat → GValue → Int → Int → Option (Bool × Int)
  | 0, _, _, _ => none
  | k0 + 1, p1, p2, p3 =>
    bnd ((value_sound k0) p1 (IntKind.i64.wrap (p2 + (1 : Int))) p3) fun r1 =>
    some ((!r1.1), r1.2)

end


mutual

theorem c_slices_ContainsFunc_api_Value_api_Value_of_value_sound_1 : ∀ (k0 : Nat) (p1 : (List GValue)) (p2 : Int) (p3 : Int), CM Tryz.prog 58 [vl eValue p1, .one (.fn 92 [.pv (.rp [[pi p2]] 0 0), .pt 0 0 0 0])] [.box [.pt 1 0 0 0], .box [ci p3]] (slices_ContainsFunc_api_Value_api_Value_of_value_sound_1 k0 p1 p2 p3) (fun r => vb r.1) (fun r => [.box [.pt 1 0 0 0], .box [ci r.2]])
  | 0, _, _, _ => uM0 (slices_ContainsFunc_api_Value_api_Value_of_value_sound_1.eq_1 ..)
  | k0 + 1, p1, p2, p3 => uFnM 2 9 [] Tryz.f58 fun r => (uU (slices_ContainsFunc_api_Value_api_Value_of_value_sound_1.eq_2 ..) (uMc true [0,1] (c_slices_IndexFunc_api_Value_api_Value_of_value_sound_1 k0 _ _ _) fun r1 _ => (uR .ret xFM)))

theorem c_slices_IndexFunc_api_Value_api_Value_of_value_sound_1 : ∀ (k0 : Nat) (p1 : (List GValue)) (p2 : Int) (p3 : Int), CM Tryz.prog 103 [vl eValue p1, .one (.fn 92 [.pv (.rp [[pi p2]] 0 0), .pt 0 0 0 0])] [.box [.pt 1 0 0 0], .box [ci p3]] (slices_IndexFunc_api_Value_api_Value_of_value_sound_1 k0 p1 p2 p3) (fun r => vi r.1) (fun r => [.box [.pt 1 0 0 0], .box [ci r.2]])
  | 0, _, _, _ => uM0 (slices_IndexFunc_api_Value_api_Value_of_value_sound_1.eq_1 ..)
  | k0 + 1, p1, p2, p3 => uFnM 2 19 [] Tryz.f103 fun r => (uU (slices_IndexFunc_api_Value_api_Value_of_value_sound_1.eq_2 ..) (uQ (kS Tryz.f103 [1,0] 1) fun K2 hK2 => have hJ1 : ∀ (z2 : Int), slices_IndexFunc_api_Value_api_Value_of_value_sound_1_j1 z2 = some r → K2.p [] [.box [.pt 1 0 0 0], .box [ci z2]] := fun z2 h => hK2 h (uR .ret xFM); (uN eValue p1 (uO (cd Tryz.f103 [1,0,1,0,0]) (kS Tryz.f103 [1,0,1,0] 1) fun R1 b1 => have hL1 : ∀ (k1 : Nat) (z1 : Int) (x1 : Int), slices_IndexFunc_api_Value_api_Value_of_value_sound_1_l1 (value_sound_1_s k0) p1 p2 k1 z1 x1 = some r → (R1 k1).p [(0, vl eValue p1), (1, .one (.fn 92 [.pv (.rp [[pi p2]] 0 0), .pt 0 0 0 0])), (7, vi (p1.length : Int)), (8, vi x1)] [.box [.pt 1 0 0 0], .box [ci z1]] := by intro k1; induction k1 with | zero => intro z1 x1 h; exact uE0 (slices_IndexFunc_api_Value_api_Value_of_value_sound_1_l1.eq_1 ..) h | succ k1 ih1 => intro z1 x1 h; exact b1 h (uU (slices_IndexFunc_api_Value_api_Value_of_value_sound_1_l1.eq_2 ..) (uC (uL eValue fun e1 a10 => (uMc true [0,1] (c_value_sound_1_s k0 _ _ _) fun r1 _ => (uC (uR .ret (xN (xN xFM))) (uJ (ih1 r1.2 (IntKind.i64.wrap (x1 + (1 : Int)))))))) (uR (.exit 0) (xM (uJ (hJ1 z1))))))
 uE (hL1 BIG p3 (0 : Int))))))

theorem c_value_sound : ∀ (k0 : Nat) (p1 : GValue) (p2 : Int) (p3 : Int), CM Tryz.prog 48 [.ag [ci p1.kind, ci p1.n, ci p1.scale, cst p1.s, cl eValue p1.items], vi p2, .one (.pt 0 0 0 0)] [.box [ci p3]] (value_sound k0 p1 p2 p3) (fun r => vb r.1) (fun r => [.box [ci r.2]])
  | 0, _, _, _ => uM0 (value_sound.eq_1 ..)
  | k0 + 1, p1, p2, p3 => uFnM 1 33 [5] Tryz.f48 fun r => (uU (value_sound.eq_2 ..) (uQ (kS Tryz.f48 [1,0] 1) fun K2 hK2 => have hJ1 : ∀ (z1 : Int), value_sound_j1 (slices_ContainsFunc_api_Value_api_Value_of_value_sound_1 k0) p1 p2 z1 = some r → K2.p [(3, .one (.pv (.rp [[pi p1.kind, pi p1.n, pi p1.scale, .s (.string p1.s), .ro (eValue.els p1.items)]] 0 0))), (4, .one (.pv (.rp [[pi p2]] 0 0))), (5, .one (.pt 1 0 0 0))] [.box [ci z1], .box [.pt 0 0 0 0]] := fun z1 h => hK2 h (uQ (kS Tryz.f48 [1,1,0,0] 2) fun K6 hK6 => have hJ2 : ∀ (x1 : Bool), value_sound_j2 (slices_ContainsFunc_api_Value_api_Value_of_value_sound_1 k0) p1 p2 z1 x1 = some r → K6.p [(3, .one (.pv (.rp [[pi p1.kind, pi p1.n, pi p1.scale, .s (.string p1.s), .ro (eValue.els p1.items)]] 0 0))), (4, .one (.pv (.rp [[pi p2]] 0 0))), (5, .one (.pt 1 0 0 0)), (27, vb x1)] [.box [ci z1], .box [.pt 0 0 0 0]] := fun x1 h => hK6 h (uC (uR .ret xFM) (uMc true [1,0] (c_slices_ContainsFunc_api_Value_api_Value_of_value_sound_1 k0 _ _ _) fun r2 _ => (uR .ret xFM))); (uC (uJ (hJ2 true)) (uC (uJ (hJ2 true)) (uP (c_value_plain _) fun r1 _ => (uJ (hJ2 (!r1))))))); (uC (uJ (hJ1 (IntKind.i64.wrap (p3 + (1 : Int))))) (uJ (hJ1 p3)))))

theorem c_value_sound_1_s : ∀ (k0 : Nat) (p1 : GValue) (p2 : Int) (p3 : Int), CM Tryz.prog 92 [.ag [ci p1.kind, ci p1.n, ci p1.scale, cst p1.s, cl eValue p1.items], .one (.pv (.rp [[pi p2]] 0 0)), .one (.pt 0 0 0 0)] [.box [.pt 1 0 0 0], .box [ci p3]] (value_sound_1_s k0 p1 p2 p3) (fun r => vb r.1) (fun r => [.box [.pt 1 0 0 0], .box [ci r.2]])
  | 0, _, _, _ => uM0 (value_sound_1_s.eq_1 ..)
  | k0 + 1, p1, p2, p3 => uFnM 2 11 [] Tryz.f92 fun r => (uU (value_sound_1_s.eq_2 ..) (uMc true [1] (c_value_sound k0 _ _ _) fun r1 _ => (uR .ret xFM)))

end

def value_Sound (p1 : GValue) : Option Bool :=
    bnd (value_sound BIG p1 (1 : Int) (0 : Int)) fun r1 =>
    some r1.1


theorem c_value_Sound (p1 : GValue) : CT Tryz.prog 24 [.ag [ci p1.kind, ci p1.n, ci p1.scale, cst p1.s, cl eValue p1.items]] (value_Sound p1) vb :=
  uFn 6 [3] Tryz.f24 fun r => (uMc true [0] (c_value_sound BIG _ _ _) fun r1 _ => (uR .ret xF))

def slices_EqualFunc_api_Field_api_Value_api_Field_api_Value_of_value_of_2_j1 : Option Bool :=
    some true

def slices_EqualFunc_api_Field_api_Value_api_Field_api_Value_of_value_of_2_l1 (q_value_of_2 : GField → GValue → Option Bool) (p1 : (List GField)) (p2 : (List GValue)) : Nat → Int → Option Bool
  | 0, _ => none
  | k1 + 1, x1 =>
    ift (decide (x1 < (p1.length : Int)))
      (bnd (at? p1 x1) fun e1 =>
       bnd (at? p2 x1) fun e2 =>
       bnd (q_value_of_2 e1 e2) fun r1 =>
       ift (!r1)
         (some false)
         ((slices_EqualFunc_api_Field_api_Value_api_Field_api_Value_of_value_of_2_l1 q_value_of_2 p1 p2 k1) (IntKind.i64.wrap (x1 + (1 : Int)))))
      (slices_EqualFunc_api_Field_api_Value_api_Field_api_Value_of_value_of_2_j1)

def slices_IndexFunc_api_Value_api_Value_of_value_of_1_j1 : Option Int :=
    some (-1 : Int)

def slices_IndexFunc_api_Value_api_Value_of_value_of_1_l1 (q_value_of_1_s : GValue → Int → Int → (List GField) → Option Bool) (p1 : (List GValue)) (p2 : Int) (p3 : Int) (p4 : (List GField)) : Nat → Int → Option Int
  | 0, _ => none
  | k1 + 1, x1 =>
    ift (decide (x1 < (p1.length : Int)))
      (bnd (at? p1 x1) fun e1 =>
       bnd (q_value_of_1_s e1 p2 p3 p4) fun r1 =>
       ift r1
         (some x1)
         ((slices_IndexFunc_api_Value_api_Value_of_value_of_1_l1 q_value_of_1_s p1 p2 p3 p4 k1) (IntKind.i64.wrap (x1 + (1 : Int)))))
      (slices_IndexFunc_api_Value_api_Value_of_value_of_1_j1)

mutual

def slices_ContainsFunc_api_Value_api_Value_of_value_of_1 : Nat → (List GValue) → Int → Int → (List GField) → Option Bool
  | 0, _, _, _, _ => none
  | k0 + 1, p1, p2, p3, p4 =>
    bnd ((slices_IndexFunc_api_Value_api_Value_of_value_of_1 k0) p1 p2 p3 p4) fun r1 =>
    some (decide ((0 : Int) ≤ r1))

def slices_EqualFunc_api_Field_api_Value_api_Field_api_Value_of_value_of_2 : Nat → (List GField) → (List GValue) → Option Bool
  | 0, _, _ => none
  | k0 + 1, p1, p2 =>
    ift ((p1.length : Int) != (p2.length : Int))
      (some false)
      (slices_EqualFunc_api_Field_api_Value_api_Field_api_Value_of_value_of_2_l1 (value_of_2 k0) p1 p2 BIG (0 : Int))

def slices_IndexFunc_api_Value_api_Value_of_value_of_1 : Nat → (List GValue) → Int → Int → (List GField) → Option Int
  | 0, _, _, _, _ => none
  | k0 + 1, p1, p2, p3, p4 =>
    slices_IndexFunc_api_Value_api_Value_of_value_of_1_l1 (value_of_1_s k0) p1 p2 p3 p4 BIG (0 : Int)

def value_of : Nat → GType → GValue → Option Bool
  | 0, _, _ => none
  | k0 + 1, p1, p2 =>
    ift (p2.kind == (0 : Int))
      (some true)
      (ift (p2.kind != p1.kind)
         (some false)
         (ift (p2.kind == (3 : Int))
            (some (p2.scale == p1.scale))
            (ift (p2.kind == (6 : Int))
               (bnd ((slices_ContainsFunc_api_Value_api_Value_of_value_of_1 k0) p2.items p1.kind p1.scale p1.fields) fun r1 =>
                some (!r1))
               (ift (p2.kind == (7 : Int))
                  (bnd ((slices_EqualFunc_api_Field_api_Value_api_Field_api_Value_of_value_of_2 k0) p1.fields p2.items) fun r2 =>
                   some r2)
                  (some true)))))

def value_of_1_s : Nat → GValue → Int → Int → (List GField) → Option Bool
  | 0, _, _, _, _ => none
  | k0 + 1, p1, p2, p3, p4 =>
    bnd (at? p4 (0 : Int)) fun e1 =>
    bnd ((value_of k0) e1.type p1) fun r1 =>
    some (!r1)

def value_of_2 : Nat → GField → GValue → Option Bool
  | 0, _, _ => none
  | k0 + 1, p1, p2 =>
    bnd ((value_of k0) p1.type p2) fun r1 =>
    some r1

end


mutual

theorem c_slices_ContainsFunc_api_Value_api_Value_of_value_of_1 : ∀ (k0 : Nat) (p1 : (List GValue)) (p2 : Int) (p3 : Int) (p4 : (List GField)), CT Tryz.prog 58 [vl eValue p1, .one (.fn 59 [.pv (.rp [[pi p2, pi p3, .ro (eField.els p4)]] 0 0)])] (slices_ContainsFunc_api_Value_api_Value_of_value_of_1 k0 p1 p2 p3 p4) vb
  | 0, _, _, _, _ => uF0 (slices_ContainsFunc_api_Value_api_Value_of_value_of_1.eq_1 ..)
  | k0 + 1, p1, p2, p3, p4 => uFn 9 [] Tryz.f58 fun r => (uU (slices_ContainsFunc_api_Value_api_Value_of_value_of_1.eq_2 ..) (uP (c_slices_IndexFunc_api_Value_api_Value_of_value_of_1 k0 _ _ _ _) fun r1 _ => (uR .ret xF)))

theorem c_slices_EqualFunc_api_Field_api_Value_api_Field_api_Value_of_value_of_2 : ∀ (k0 : Nat) (p1 : (List GField)) (p2 : (List GValue)), CT Tryz.prog 60 [vl eField p1, vl eValue p2, .one (.pv (.fn 61 []))] (slices_EqualFunc_api_Field_api_Value_api_Field_api_Value_of_value_of_2 k0 p1 p2) vb
  | 0, _, _ => uF0 (slices_EqualFunc_api_Field_api_Value_api_Field_api_Value_of_value_of_2.eq_1 ..)
  | k0 + 1, p1, p2 => uFn 32 [8, 9] Tryz.f60 fun r => (uU (slices_EqualFunc_api_Field_api_Value_api_Field_api_Value_of_value_of_2.eq_2 ..) (uN eField p1 (uN eValue p2 (uC (uR .ret xF) (uQ (kS Tryz.f60 [1,1,0] 1) fun K6 hK6 => have hJ1 : ∀ (_ : Unit), slices_EqualFunc_api_Field_api_Value_api_Field_api_Value_of_value_of_2_j1 = some r → K6.p [] [] := fun _ h => hK6 h (uR .ret xF); (uN eField p1 (uO (cd Tryz.f60 [1,1,0,1,0,0]) (kS Tryz.f60 [1,1,0,1,0] 1) fun R1 b1 => have hL1 : ∀ (k1 : Nat) (x1 : Int), slices_EqualFunc_api_Field_api_Value_api_Field_api_Value_of_value_of_2_l1 (value_of_2 k0) p1 p2 k1 x1 = some r → (R1 k1).p [(1, vl eValue p2), (2, .one (.pv (.fn 61 []))), (15, vl eField p1), (16, vi (p1.length : Int)), (17, vi x1)] [] := by intro k1; induction k1 with | zero => intro x1 h; exact uE0 (slices_EqualFunc_api_Field_api_Value_api_Field_api_Value_of_value_of_2_l1.eq_1 ..) h | succ k1 ih1 => intro x1 h; exact b1 h (uU (slices_EqualFunc_api_Field_api_Value_api_Field_api_Value_of_value_of_2_l1.eq_2 ..) (uC (uL eField fun e1 a13 => (uL eValue fun e2 a15 => (uP (c_value_of_2 k0 _ _) fun r1 _ => (uC (uR .ret (xN (xN xF))) (uJ (ih1 (IntKind.i64.wrap (x1 + (1 : Int))))))))) (uR (.exit 0) (xM (uJ (hJ1 ()))))))
 uE (hL1 BIG (0 : Int)))))))))

theorem c_slices_IndexFunc_api_Value_api_Value_of_value_of_1 : ∀ (k0 : Nat) (p1 : (List GValue)) (p2 : Int) (p3 : Int) (p4 : (List GField)), CT Tryz.prog 103 [vl eValue p1, .one (.fn 59 [.pv (.rp [[pi p2, pi p3, .ro (eField.els p4)]] 0 0)])] (slices_IndexFunc_api_Value_api_Value_of_value_of_1 k0 p1 p2 p3 p4) vi
  | 0, _, _, _, _ => uF0 (slices_IndexFunc_api_Value_api_Value_of_value_of_1.eq_1 ..)
  | k0 + 1, p1, p2, p3, p4 => uFn 19 [] Tryz.f103 fun r => (uU (slices_IndexFunc_api_Value_api_Value_of_value_of_1.eq_2 ..) (uQ (kS Tryz.f103 [1,0] 1) fun K2 hK2 => have hJ1 : ∀ (_ : Unit), slices_IndexFunc_api_Value_api_Value_of_value_of_1_j1 = some r → K2.p [] [] := fun _ h => hK2 h (uR .ret xF); (uN eValue p1 (uO (cd Tryz.f103 [1,0,1,0,0]) (kS Tryz.f103 [1,0,1,0] 1) fun R1 b1 => have hL1 : ∀ (k1 : Nat) (x1 : Int), slices_IndexFunc_api_Value_api_Value_of_value_of_1_l1 (value_of_1_s k0) p1 p2 p3 p4 k1 x1 = some r → (R1 k1).p [(0, vl eValue p1), (1, .one (.fn 59 [.pv (.rp [[pi p2, pi p3, .ro (eField.els p4)]] 0 0)])), (7, vi (p1.length : Int)), (8, vi x1)] [] := by intro k1; induction k1 with | zero => intro x1 h; exact uE0 (slices_IndexFunc_api_Value_api_Value_of_value_of_1_l1.eq_1 ..) h | succ k1 ih1 => intro x1 h; exact b1 h (uU (slices_IndexFunc_api_Value_api_Value_of_value_of_1_l1.eq_2 ..) (uC (uL eValue fun e1 a10 => (uP (c_value_of_1_s k0 _ _ _ _) fun r1 _ => (uC (uR .ret (xN (xN xF))) (uJ (ih1 (IntKind.i64.wrap (x1 + (1 : Int)))))))) (uR (.exit 0) (xM (uJ (hJ1 ()))))))
 uE (hL1 BIG (0 : Int))))))

theorem c_value_of : ∀ (k0 : Nat) (p1 : GType) (p2 : GValue), CT Tryz.prog 30 [.ag [ci p1.kind, ci p1.scale, cl eField p1.fields], .ag [ci p2.kind, ci p2.n, ci p2.scale, cst p2.s, cl eValue p2.items]] (value_of k0 p1 p2) vb
  | 0, _, _ => uF0 (value_of.eq_1 ..)
  | k0 + 1, p1, p2 => uFn 42 [] Tryz.f30 fun r => (uU (value_of.eq_2 ..) (uC (uR .ret xF) (uC (uR .ret xF) (uC (uR .ret xF) (uC (uP (c_slices_ContainsFunc_api_Value_api_Value_of_value_of_1 k0 _ _ _ _) fun r1 _ => (uR .ret xF)) (uC (uP (c_slices_EqualFunc_api_Field_api_Value_api_Field_api_Value_of_value_of_2 k0 _ _) fun r2 _ => (uR .ret xF)) (uR .ret xF)))))))

theorem c_value_of_1_s : ∀ (k0 : Nat) (p1 : GValue) (p2 : Int) (p3 : Int) (p4 : (List GField)), CT Tryz.prog 59 [.ag [ci p1.kind, ci p1.n, ci p1.scale, cst p1.s, cl eValue p1.items], .one (.pv (.rp [[pi p2, pi p3, .ro (eField.els p4)]] 0 0))] (value_of_1_s k0 p1 p2 p3 p4) vb
  | 0, _, _, _, _ => uF0 (value_of_1_s.eq_1 ..)
  | k0 + 1, p1, p2, p3, p4 => uFn 12 [] Tryz.f59 fun r => (uU (value_of_1_s.eq_2 ..) (uDr 6 (uL eField fun e1 a3 => (uP (c_value_of k0 _ _) fun r1 _ => (uR .ret xF)))))

theorem c_value_of_2 : ∀ (k0 : Nat) (p1 : GField) (p2 : GValue), CT Tryz.prog 61 [.ag [ci p1.id, cst p1.name, cb p1.need, ci p1.type.kind, ci p1.type.scale, cl eField p1.type.fields], .ag [ci p2.kind, ci p2.n, ci p2.scale, cst p2.s, cl eValue p2.items]] (value_of_2 k0 p1 p2) vb
  | 0, _, _ => uF0 (value_of_2.eq_1 ..)
  | k0 + 1, p1, p2 => uFn 9 [] Tryz.f61 fun r => (uU (value_of_2.eq_2 ..) (uP (c_value_of k0 _ _) fun r1 _ => (uR .ret xF)))

end

def value_lacks_j1 (rec1 : Int → Option Bool) (x1 : Int) (x2 : Bool) : Option Bool :=
    ift x2
      (some true)
      (rec1 (IntKind.i64.wrap (x1 + (1 : Int))))

def value_lacks_j2 : Option Bool :=
    some false

def value_lacks_l1 (q_value_lacks : GType → GValue → Option Bool) (p1 : GType) (p2 : GValue) : Nat → Int → Option Bool
  | 0, _ => none
  | k1 + 1, x1 =>
    ift (decide (x1 < (p2.items.length : Int)))
      (bnd (at? p2.items x1) fun e1 =>
       bnd (value_field p1 x1) fun r1 =>
       ift (e1.kind == (0 : Int))
         (ift r1.need
            (value_lacks_j1 (value_lacks_l1 q_value_lacks p1 p2 k1) x1 true)
            (bnd (q_value_lacks r1.type e1) fun r2 =>
             value_lacks_j1 (value_lacks_l1 q_value_lacks p1 p2 k1) x1 r2))
         (bnd (q_value_lacks r1.type e1) fun r3 =>
          value_lacks_j1 (value_lacks_l1 q_value_lacks p1 p2 k1) x1 r3))
      (value_lacks_j2)

def value_lacks : Nat → GType → GValue → Option Bool
  | 0, _, _ => none
  | k0 + 1, p1, p2 =>
    value_lacks_l1 (value_lacks k0) p1 p2 BIG (0 : Int)


theorem c_value_lacks : ∀ (k0 : Nat) (p1 : GType) (p2 : GValue), CT Tryz.prog 31 [.ag [ci p1.kind, ci p1.scale, cl eField p1.fields], .ag [ci p2.kind, ci p2.n, ci p2.scale, cst p2.s, cl eValue p2.items]] (value_lacks k0 p1 p2) vb
  | 0, _, _ => uF0 (value_lacks.eq_1 ..)
  | k0 + 1, p1, p2 => uFn 33 [6, 7] Tryz.f31 fun r => (uU (value_lacks.eq_2 ..) (uQ (kS Tryz.f31 [1,0] 1) fun K2 hK2 => have hJ2 : ∀ (_ : Unit), value_lacks_j2 = some r → K2.p [] [] := fun _ h => hK2 h (uR .ret xF); (uN eValue p2.items (uO (cd Tryz.f31 [1,0,1,0,0]) (kS Tryz.f31 [1,0,1,0] 1) fun R1 b1 => have hL1 : ∀ (k1 : Nat) (x1 : Int), value_lacks_l1 (value_lacks k0) p1 p2 k1 x1 = some r → (R1 k1).p [(2, .one (.pv (.rp [[pi p1.kind, pi p1.scale, .ro (eField.els p1.fields)]] 0 0))), (9, vl eValue p2.items), (10, vi (p2.items.length : Int)), (11, vi x1)] [] := by intro k1; induction k1 with | zero => intro x1 h; exact uE0 (value_lacks_l1.eq_1 ..) h | succ k1 ih1 => intro x1 h; exact b1 h (uU (value_lacks_l1.eq_2 ..) (uC (uL eValue fun e1 a9 => (uP (c_value_field _ _) fun r1 _ => (uQ (kS Tryz.f31 [1,0,1,0,0,1,1,0,0,1,1,0] 3) fun K12 hK12 => have hJ1 : ∀ (x2 : Bool), value_lacks_j1 (value_lacks_l1 (value_lacks k0) p1 p2 k1) x1 x2 = some r → K12.p [(2, .one (.pv (.rp [[pi p1.kind, pi p1.scale, .ro (eField.els p1.fields)]] 0 0))), (9, vl eValue p2.items), (10, vi (p2.items.length : Int)), (11, vi x1), (31, vb x2)] [.dead, .dead] := fun x2 h => hK12 h (uC (uR .ret (xN (xN xF))) (uJ (ih1 (IntKind.i64.wrap (x1 + (1 : Int)))))); (uC (uC (uJ (hJ1 true)) (uP (c_value_lacks k0 _ _) fun r2 _ => (uJ (hJ1 r2)))) (uP (c_value_lacks k0 _ _) fun r3 _ => (uJ (hJ1 r3))))))) (uR (.exit 0) (xM (uJ (hJ2 ()))))))
 uE (hL1 BIG (0 : Int))))))

def value_Check (p1 : GType) (p2 : GValue) : Option Int :=
    bnd (value_CheckType p1) fun r1 =>
    ift (r1 != (0 : Int))
      (some r1)
      (bnd (value_Sound p2) fun r2 =>
       ift (!r2)
         (some (1 : Int))
         (bnd (value_of BIG p1 p2) fun r3 =>
          ift (!r3)
            (some (2 : Int))
            (bnd (value_lacks BIG p1 p2) fun r4 =>
             ift r4
               (some (9 : Int))
               (some (0 : Int)))))


theorem c_value_Check (p1 : GType) (p2 : GValue) : CT Tryz.prog 14 [.ag [ci p1.kind, ci p1.scale, cl eField p1.fields], .ag [ci p2.kind, ci p2.n, ci p2.scale, cst p2.s, cl eValue p2.items]] (value_Check p1 p2) vi :=
  uFn 24 [] Tryz.f14 fun r => (uP (c_value_CheckType _) fun r1 _ => (uC (uR .ret xF) (uP (c_value_Sound _) fun r2 _ => (uC (uR .ret xF) (uP (c_value_of BIG _ _) fun r3 _ => (uC (uR .ret xF) (uP (c_value_lacks BIG _ _) fun r4 _ => (uC (uR .ret xF) (uR .ret xF)))))))))

def internal_strconv_FormatBool (p1 : Bool) : Option ByteArray :=
    ift p1
      (some (ByteArray.mk #[116, 114, 117, 101]))
      (some (ByteArray.mk #[102, 97, 108, 115, 101]))


theorem c_internal_strconv_FormatBool (p1 : Bool) : CT Tryz.prog 93 [vb p1] (internal_strconv_FormatBool p1) vs :=
  uFn 4 [] Tryz.f93 fun r => (uC (uR .ret xF) (uR .ret xF))

def strconv_FormatBool (p1 : Bool) : Option ByteArray :=
    bnd (internal_strconv_FormatBool p1) fun r1 =>
    some r1


theorem c_strconv_FormatBool (p1 : Bool) : CT Tryz.prog 49 [vb p1] (strconv_FormatBool p1) vs :=
  uFn 5 [] Tryz.f49 fun r => (uP (c_internal_strconv_FormatBool _) fun r1 _ => (uR .ret xF))

def value_padded (p1 : Int) (p2 : Int) : Option ByteArray :=
    bnd (strconv_Itoa p1) fun r1 =>
    bnd (some (if (0 : Int) > (IntKind.i64.wrap (p2 - (r1.size : Int))) then (0 : Int) else (IntKind.i64.wrap (p2 - (r1.size : Int))))) fun y1 =>
    bnd (strings_Repeat (ByteArray.mk #[48]) y1) fun r2 =>
    grd (r2.size + r1.size ≤ 4611686018427387904) <|
    some (r2 ++ r1)


theorem c_value_padded (p1 : Int) (p2 : Int) : CT Tryz.prog 95 [vi p1, vi p2] (value_padded p1 p2) vs :=
  uFn 16 [] Tryz.f95 fun r => (uP (c_strconv_Itoa _) fun r1 _ => (uY 12 vi fun y1 => (uP (c_strings_Repeat _ _) fun r2 _ => (uG (uR .ret xF)))))

def value_decimal_j1 (p2 : Int) (x1 : Int) (x2 : ByteArray) : Option ByteArray :=
    bnd (value_padded x1 (IntKind.i64.wrap (p2 + (1 : Int)))) fun r1 =>
    grd (0 ≤ (0 : Int) ∧ (0 : Int) ≤ (IntKind.i64.wrap ((r1.size : Int) - p2)) ∧ (IntKind.i64.wrap ((r1.size : Int) - p2)) ≤ (r1.size : Int)) <|
    bnd (some (r1.extract (0 : Int).toNat (IntKind.i64.wrap ((r1.size : Int) - p2)).toNat)) fun y1 =>
    grd (x2.size + y1.size ≤ 4611686018427387904) <|
    grd ((x2 ++ y1).size + (ByteArray.mk #[46]).size ≤ 4611686018427387904) <|
    grd (0 ≤ (IntKind.i64.wrap ((r1.size : Int) - p2)) ∧ (IntKind.i64.wrap ((r1.size : Int) - p2)) ≤ (r1.size : Int) ∧ (r1.size : Int) ≤ (r1.size : Int)) <|
    bnd (some (r1.extract (IntKind.i64.wrap ((r1.size : Int) - p2)).toNat (r1.size : Int).toNat)) fun y2 =>
    grd (((x2 ++ y1) ++ (ByteArray.mk #[46])).size + y2.size ≤ 4611686018427387904) <|
    some (((x2 ++ y1) ++ (ByteArray.mk #[46])) ++ y2)

def value_decimal (p1 : Int) (p2 : Int) : Option ByteArray :=
    ift (decide (p1 < (0 : Int)))
      (value_decimal_j1 p2 (IntKind.i64.wrap (0 - p1)) (ByteArray.mk #[45]))
      (value_decimal_j1 p2 p1 (ByteArray.mk #[]))


theorem c_value_decimal (p1 : Int) (p2 : Int) : CT Tryz.prog 51 [vi p1, vi p2] (value_decimal p1 p2) vs :=
  uFn 31 [] Tryz.f51 fun r => (uQ (kS Tryz.f51 [1,1,0] 1) fun K3 hK3 => have hJ1 : ∀ (x1 : Int) (x2 : ByteArray), value_decimal_j1 p2 x1 x2 = some r → K3.p [(0, vi x1), (1, vi p2), (5, vs x2)] [] := fun x1 x2 h => hK3 h (uP (c_value_padded _ _) fun r1 _ => (uDr 15 (uYg 21 vs fun y1 => (uG (uG (uYg 29 vs fun y2 => (uG (uR .ret xF)))))))); (uC (uJ (hJ1 (IntKind.i64.wrap (0 - p1)) (ByteArray.mk #[45]))) (uJ (hJ1 p1 (ByteArray.mk #[])))))

def value_date_j1 (y10 : Int) (x1 : Int) (x2 : Int) : Option (Int × Int × Int) :=
    some (x1, x2, y10)

def value_date (p1 : Int) : Option (Int × Int × Int) :=
    bnd (value_floor (IntKind.i64.wrap (p1 + (719468 : Int))) (146097 : Int)) fun r1 =>
    bnd (some (IntKind.i64.wrap (r1.2 - (IntKind.i64.wrap (r1.2.tdiv (1460 : Int)))))) fun y1 =>
    bnd (some (IntKind.i64.wrap (y1 + (IntKind.i64.wrap (r1.2.tdiv (36524 : Int)))))) fun y2 =>
    bnd (some (IntKind.i64.wrap (y2 - (IntKind.i64.wrap (r1.2.tdiv (146096 : Int)))))) fun y3 =>
    bnd (some (IntKind.i64.wrap ((IntKind.i64.wrap (y3.tdiv (365 : Int))) * (365 : Int)))) fun y4 =>
    bnd (some (IntKind.i64.wrap ((IntKind.i64.wrap (y3.tdiv (365 : Int))).tdiv (4 : Int)))) fun y5 =>
    bnd (some (IntKind.i64.wrap ((IntKind.i64.wrap (y3.tdiv (365 : Int))).tdiv (100 : Int)))) fun y6 =>
    bnd (some (IntKind.i64.wrap (r1.2 - (IntKind.i64.wrap ((IntKind.i64.wrap (y4 + y5)) - y6))))) fun y7 =>
    bnd (some (IntKind.i64.wrap ((IntKind.i64.wrap ((IntKind.i64.wrap ((5 : Int) * y7)) + (2 : Int))).tdiv (153 : Int)))) fun y8 =>
    bnd (some (IntKind.i64.wrap ((IntKind.i64.wrap ((153 : Int) * y8)) + (2 : Int)))) fun y9 =>
    bnd (some (IntKind.i64.wrap ((IntKind.i64.wrap (y7 - (IntKind.i64.wrap (y9.tdiv (5 : Int))))) + (1 : Int)))) fun y10 =>
    bnd (some (IntKind.i64.wrap ((IntKind.i64.wrap (r1.1 * (400 : Int))) + (IntKind.i64.wrap (y3.tdiv (365 : Int)))))) fun y11 =>
    ift (decide ((12 : Int) < (IntKind.i64.wrap (y8 + (3 : Int)))))
      (value_date_j1 y10 (IntKind.i64.wrap (y11 + (1 : Int))) (IntKind.i64.wrap ((IntKind.i64.wrap (y8 + (3 : Int))) - (12 : Int))))
      (value_date_j1 y10 y11 (IntKind.i64.wrap (y8 + (3 : Int))))


theorem c_value_date (p1 : Int) : CT Tryz.prog 136 [vi p1] (value_date p1) (fun r => .tp [vi r.1, vi r.2.1, vi r.2.2]) :=
  uFn 61 [] Tryz.f136 fun r => (uP (c_value_floor _ _) fun r1 _ => (uY 17 vi fun y1 => (uY 20 vi fun y2 => (uY 23 vi fun y3 => (uY 27 vi fun y4 => (uY 29 vi fun y5 => (uY 32 vi fun y6 => (uY 34 vi fun y7 => (uY 38 vi fun y8 => (uY 42 vi fun y9 => (uY 45 vi fun y10 => (uY 49 vi fun y11 => (uQ (kS Tryz.f136 [1,1,1,1,1,1,1,0] 1) fun K20 hK20 => have hJ1 : ∀ (x1 : Int) (x2 : Int), value_date_j1 y10 x1 x2 = some r → K20.p [(2, vi x1), (3, vi x2), (4, vi y10)] [] := fun x1 x2 h => hK20 h (uR .ret xF); (uC (uJ (hJ1 (IntKind.i64.wrap (y11 + (1 : Int))) (IntKind.i64.wrap ((IntKind.i64.wrap (y8 + (3 : Int))) - (12 : Int))))) (uJ (hJ1 y11 (IntKind.i64.wrap (y8 + (3 : Int)))))))))))))))))))

def value_civil (p1 : Int) : Option GCivil :=
    bnd (value_floor p1 (86400 : Int)) fun r1 =>
    bnd (value_date r1.1) fun r2 =>
    some (GCivil.mk r2.1 r2.2.1 r2.2.2 (IntKind.i64.wrap (r1.2.tdiv (3600 : Int))) (IntKind.i64.wrap ((r1.2.tmod (3600 : Int)).tdiv (60 : Int))) (r1.2.tmod (60 : Int)))


theorem c_value_civil (p1 : Int) : CT Tryz.prog 97 [vi p1] (value_civil p1) (fun r => .ag [ci r.year, ci r.month, ci r.day, ci r.hour, ci r.minute, ci r.second]) :=
  uFn 30 [2] Tryz.f97 fun r => (uP (c_value_floor _ _) fun r1 _ => (uP (c_value_date _) fun r2 _ => (uR .ret xF)))

def value_moment (p1 : Int) : Option ByteArray :=
    bnd (value_civil p1) fun r1 =>
    bnd (value_padded r1.year (4 : Int)) fun r2 =>
    grd (r2.size + (ByteArray.mk #[45]).size ≤ 4611686018427387904) <|
    bnd (value_padded r1.month (2 : Int)) fun r3 =>
    grd ((r2 ++ (ByteArray.mk #[45])).size + r3.size ≤ 4611686018427387904) <|
    grd (((r2 ++ (ByteArray.mk #[45])) ++ r3).size + (ByteArray.mk #[45]).size ≤ 4611686018427387904) <|
    bnd (value_padded r1.day (2 : Int)) fun r4 =>
    grd ((((r2 ++ (ByteArray.mk #[45])) ++ r3) ++ (ByteArray.mk #[45])).size + r4.size ≤ 4611686018427387904) <|
    bnd (some ((((r2 ++ (ByteArray.mk #[45])) ++ r3) ++ (ByteArray.mk #[45])) ++ r4)) fun y1 =>
    grd (y1.size + (ByteArray.mk #[84]).size ≤ 4611686018427387904) <|
    bnd (value_padded r1.hour (2 : Int)) fun r5 =>
    grd ((y1 ++ (ByteArray.mk #[84])).size + r5.size ≤ 4611686018427387904) <|
    grd (((y1 ++ (ByteArray.mk #[84])) ++ r5).size + (ByteArray.mk #[58]).size ≤ 4611686018427387904) <|
    bnd (value_padded r1.minute (2 : Int)) fun r6 =>
    grd ((((y1 ++ (ByteArray.mk #[84])) ++ r5) ++ (ByteArray.mk #[58])).size + r6.size ≤ 4611686018427387904) <|
    bnd (some ((((y1 ++ (ByteArray.mk #[84])) ++ r5) ++ (ByteArray.mk #[58])) ++ r6)) fun y2 =>
    grd (y2.size + (ByteArray.mk #[58]).size ≤ 4611686018427387904) <|
    bnd (value_padded r1.second (2 : Int)) fun r7 =>
    grd ((y2 ++ (ByteArray.mk #[58])).size + r7.size ≤ 4611686018427387904) <|
    grd (((y2 ++ (ByteArray.mk #[58])) ++ r7).size + (ByteArray.mk #[90]).size ≤ 4611686018427387904) <|
    some (((y2 ++ (ByteArray.mk #[58])) ++ r7) ++ (ByteArray.mk #[90]))


theorem c_value_moment (p1 : Int) : CT Tryz.prog 53 [vi p1] (value_moment p1) vs :=
  uFn 37 [3] Tryz.f53 fun r => (uP (c_value_civil _) fun r1 _ => (uDr 12 (uP (c_value_padded _ _) fun r2 _ => (uG (uP (c_value_padded _ _) fun r3 _ => (uG (uG (uP (c_value_padded _ _) fun r4 _ => (uYg 19 vs fun y1 => (uDr 15 (uG (uP (c_value_padded _ _) fun r5 _ => (uG (uG (uP (c_value_padded _ _) fun r6 _ => (uYg 30 vs fun y2 => (uG (uP (c_value_padded _ _) fun r7 _ => (uG (uG (uR .ret xF)))))))))))))))))))))

def value_show_j1 (p1 : GValue) (l2 : List ByteArray) : Option ByteArray :=
    bnd (strings_Join l2 (ByteArray.mk #[44, 32])) fun r7 =>
    ift (p1.kind == (6 : Int))
      (grd ((ByteArray.mk #[91]).size + r7.size ≤ 4611686018427387904) <|
       grd (((ByteArray.mk #[91]) ++ r7).size + (ByteArray.mk #[93]).size ≤ 4611686018427387904) <|
       some (((ByteArray.mk #[91]) ++ r7) ++ (ByteArray.mk #[93])))
      (grd ((ByteArray.mk #[40]).size + r7.size ≤ 4611686018427387904) <|
       grd (((ByteArray.mk #[40]) ++ r7).size + (ByteArray.mk #[41]).size ≤ 4611686018427387904) <|
       some (((ByteArray.mk #[40]) ++ r7) ++ (ByteArray.mk #[41])))

def value_show_l1 (q_value_show : GValue → Option ByteArray) (p1 : GValue) : Nat → List ByteArray → Int → Option ByteArray
  | 0, _, _ => none
  | k1 + 1, l1, x1 =>
    ift (decide (x1 < (p1.items.length : Int)))
      (bnd (at? p1.items x1) fun e1 =>
       bnd (q_value_show e1) fun r6 =>
       grd (l1.length + 1 ≤ 4294967296) <|
       (value_show_l1 q_value_show p1 k1) (l1 ++ [r6]) (IntKind.i64.wrap (x1 + (1 : Int))))
      (value_show_j1 p1 l1)

def value_show : Nat → GValue → Option ByteArray
  | 0, _ => none
  | k0 + 1, p1 =>
    ift (p1.kind == (0 : Int))
      (some (ByteArray.mk #[110, 117, 108, 108]))
      (ift (p1.kind == (1 : Int))
         (bnd (strconv_FormatBool (p1.n == (1 : Int))) fun r1 =>
          some r1)
         (ift (p1.kind == (2 : Int))
            (bnd (strconv_Itoa p1.n) fun r2 =>
             some r2)
            (ift (p1.kind == (3 : Int))
               (bnd (value_decimal p1.n p1.scale) fun r3 =>
                some r3)
               (ift (p1.kind == (4 : Int))
                  (bnd (strings_ReplaceAll p1.s (ByteArray.mk #[39]) (ByteArray.mk #[39, 39])) fun r4 =>
                   grd ((ByteArray.mk #[39]).size + r4.size ≤ 4611686018427387904) <|
                   grd (((ByteArray.mk #[39]) ++ r4).size + (ByteArray.mk #[39]).size ≤ 4611686018427387904) <|
                   some (((ByteArray.mk #[39]) ++ r4) ++ (ByteArray.mk #[39])))
                  (ift (p1.kind == (5 : Int))
                     (bnd (value_moment p1.n) fun r5 =>
                      some r5)
                     (value_show_l1 (value_show k0) p1 BIG [] (0 : Int)))))))


theorem c_value_show : ∀ (k0 : Nat) (p1 : GValue), CT Tryz.prog 25 [.ag [ci p1.kind, ci p1.n, ci p1.scale, cst p1.s, cl eValue p1.items]] (value_show k0 p1) vs
  | 0, _ => uF0 (value_show.eq_1 ..)
  | k0 + 1, p1 => uFn 65 [5] Tryz.f25 fun r => (uU (value_show.eq_2 ..) (uC (uR .ret xF) (uC (uP (c_strconv_FormatBool _) fun r1 _ => (uR .ret xF)) (uC (uP (c_strconv_Itoa _) fun r2 _ => (uR .ret xF)) (uC (uP (c_value_decimal _ _) fun r3 _ => (uR .ret xF)) (uC (uP (c_strings_ReplaceAll _ _ _) fun r4 _ => (uG (uG (uR .ret xF)))) (uC (uP (c_value_moment _) fun r5 _ => (uR .ret xF)) (uQ (kS Tryz.f25 [1,1,1,0] 1) fun K30 hK30 => have hJ1 : ∀ (l2 : List ByteArray), value_show_j1 p1 l2 = some r → K30.p [(1, .one (.pv (.rp [[pi p1.kind, pi p1.n, pi p1.scale, .s (.string p1.s), .ro (eValue.els p1.items)]] 0 0))), (3, .one (.sl 0 1 0 l2.length))] [.arr 1 (eS.els l2)] := fun l2 h => hK30 h (uKl eS l2 0 [54] (uP (c_strings_Join _ _) fun r7 _ => (uC (uG (uG (uR .ret xF))) (uG (uG (uR .ret xF)))))); (uN eValue p1.items (uCv (.li 3 1) (uO (cd Tryz.f25 [1,1,1,0,1,0,0]) (kS Tryz.f25 [1,1,1,0,1,0] 1) fun R1 b1 => have hL1 : ∀ (k1 : Nat) (l1 : List ByteArray) (x1 : Int), value_show_l1 (value_show k0) p1 k1 l1 x1 = some r → (R1 k1).p [(1, .one (.pv (.rp [[pi p1.kind, pi p1.n, pi p1.scale, .s (.string p1.s), .ro (eValue.els p1.items)]] 0 0))), (3, .one (.sl 0 1 0 l1.length)), (42, vl eValue p1.items), (43, vi (p1.items.length : Int)), (44, vi x1)] [.arr 1 (eS.els l1)] := by intro k1; induction k1 with | zero => intro l1 x1 h; exact uE0 (value_show_l1.eq_1 ..) h | succ k1 ih1 => intro l1 x1 h; exact b1 h (uU (value_show_l1.eq_2 ..) (uC (uL eValue fun e1 a37 => (uP (c_value_show k0 _) fun r6 _ => (uAp eS 0 [r6] (uJ (ih1 (l1 ++ [r6]) (IntKind.i64.wrap (x1 + (1 : Int)))))))) (uR (.exit 1) (xM (uJ (hJ1 l1))))))
 uE (hL1 BIG [] (0 : Int)))))))))))))

def value_Text (p1 : GValue) : Option ByteArray :=
    bnd (value_Sound p1) fun r1 =>
    ift (!r1)
      (some (ByteArray.mk #[]))
      (bnd (value_show BIG p1) fun r2 =>
       some r2)


theorem c_value_Text (p1 : GValue) : CT Tryz.prog 9 [.ag [ci p1.kind, ci p1.n, ci p1.scale, cst p1.s, cl eValue p1.items]] (value_Text p1) vs :=
  uFn 8 [] Tryz.f9 fun r => (uP (c_value_Sound _) fun r1 _ => (uC (uR .ret xF) (uP (c_value_show BIG _) fun r2 _ => (uR .ret xF))))

def value_Parse_j1 (r2 : (GValue × GReader)) (x1 : Bool) : Option (GValue × Int) :=
    ift x1
      (some ((GValue.mk (0 : Int) (0 : Int) (0 : Int) ByteArray.empty []), (6 : Int)))
      (some (r2.1, (0 : Int)))

def value_Parse (p1 : GType) (p2 : ByteArray) : Option (GValue × Int) :=
    bnd (value_CheckType p1) fun r1 =>
    ift (r1 != (0 : Int))
      (some ((GValue.mk (0 : Int) (0 : Int) (0 : Int) ByteArray.empty []), r1))
      (bnd (value_reader_value BIG p1 (GReader.mk p2 false)) fun r2 =>
       ift r2.2.bad
         (value_Parse_j1 r2 true)
         (ift (!(r2.2.s.toList == (ByteArray.mk #[]).toList))
            (value_Parse_j1 r2 true)
            (bnd (value_Check p1 r2.1) fun r3 =>
             ift (r3 != (0 : Int))
               (value_Parse_j1 r2 true)
               (bnd (value_Text r2.1) fun r4 =>
                value_Parse_j1 r2 (!(r4.toList == p2.toList))))))


theorem c_value_Parse (p1 : GType) (p2 : ByteArray) : CT Tryz.prog 7 [.ag [ci p1.kind, ci p1.scale, cl eField p1.fields], vs p2] (value_Parse p1 p2) (fun r => .tp [.ag [ci r.1.kind, ci r.1.n, ci r.1.scale, cst r.1.s, cl eValue r.1.items], vi r.2]) :=
  uFn 46 [4, 8, 17] Tryz.f7 fun r => (uP (c_value_CheckType _) fun r1 _ => (uC (uR .ret xF) (uMc true [1] (c_value_reader_value BIG _ _) fun r2 _ => (uQ (kS Tryz.f7 [1,1,1,1,0,0] 2) fun K12 hK12 => have hJ1 : ∀ (x1 : Bool), value_Parse_j1 r2 x1 = some r → K12.p [(4, .one (.pt 0 0 0 0)), (8, .one (.pt 2 0 0 0)), (43, vb x1)] [.box [ci (0 : Int), ci (0 : Int), ci (0 : Int), cst ByteArray.empty, .pv (.s (.slice none 0 0))], .dead, .box [ci r2.1.kind, ci r2.1.n, ci r2.1.scale, cst r2.1.s, cl eValue r2.1.items]] := fun x1 h => hK12 h (uC (uR .ret xF) (uR .ret xF)); (uC (uJ (hJ1 true)) (uC (uJ (hJ1 true)) (uP (c_value_Check _ _) fun r3 _ => (uC (uJ (hJ1 true)) (uP (c_value_Text _) fun r4 _ => (uJ (hJ1 (!(r4.toList == p2.toList)))))))))))))

def ref1_Leaf_j1 (x1 : Bool) : Option Bool :=
    some x1

def ref1_Leaf (p1 : Int) : Option Bool :=
    ift (p1 != (6 : Int))
      (ref1_Leaf_j1 (p1 != (7 : Int)))
      (ref1_Leaf_j1 false)


theorem c_ref1_Leaf (p1 : Int) : CT Tryz.prog 20 [vi p1] (ref1_Leaf p1) vb :=
  uFn 9 [] Tryz.f20 fun r => (uQ (kS Tryz.f20 [1,0] 1) fun K2 hK2 => have hJ1 : ∀ (x1 : Bool), ref1_Leaf_j1 x1 = some r → K2.p [(2, vb x1)] [] := fun x1 h => hK2 h (uR .ret xF); (uC (uJ (hJ1 (p1 != (7 : Int)))) (uJ (hJ1 false))))

def ref1_within_j1 (x1 : Bool) : Option Bool :=
    some x1

def ref1_within (p1 : Int) (p2 : Int) (p3 : Int) : Option Bool :=
    ift (decide (p2 ≤ p1))
      (ref1_within_j1 (decide (p1 ≤ p3)))
      (ref1_within_j1 false)


theorem c_ref1_within (p1 : Int) (p2 : Int) (p3 : Int) : CT Tryz.prog 111 [vi p1, vi p2, vi p3] (ref1_within p1 p2 p3) vb :=
  uFn 15 [] Tryz.f111 fun r => (uQ (kS Tryz.f111 [1,0] 1) fun K2 hK2 => have hJ1 : ∀ (x1 : Bool), ref1_within_j1 x1 = some r → K2.p [(6, vb x1)] [] := fun x1 h => hK2 h (uR .ret xF); (uC (uJ (hJ1 (decide (p1 ≤ p3)))) (uJ (hJ1 false))))

def ref1_Name_j4 (rec1 : Int → Option Bool) (x2 : Int) (x5 : Bool) : Option Bool :=
    ift x5
      (some false)
      (rec1 (IntKind.i64.wrap (x2 + (1 : Int))))

def ref1_Name_j3 (rec1 : Int → Option Bool) (x2 : Int) (x3 : Bool) (x4 : Bool) : Option Bool :=
    ift (!x3)
      (ift (x2 == (0 : Int))
         (ref1_Name_j4 rec1 x2 true)
         (ref1_Name_j4 rec1 x2 (!x4)))
      (ref1_Name_j4 rec1 x2 false)

def ref1_Name_j2 (rec1 : Int → Option Bool) (p1 : ByteArray) (x2 : Int) (x3 : Bool) : Option Bool :=
    grd (0 ≤ x2 ∧ x2 < (p1.size : Int)) <|
    ift (((p1.data.toList.getD x2.toNat 0).toNat : Int) == (95 : Int))
      (ref1_Name_j3 rec1 x2 x3 true)
      (grd (0 ≤ x2 ∧ x2 < (p1.size : Int)) <|
       bnd (some (decide ((48 : Int) ≤ ((p1.data.toList.getD x2.toNat 0).toNat : Int)))) fun y3 =>
       ift y3
         (grd (0 ≤ x2 ∧ x2 < (p1.size : Int)) <|
          bnd (some (decide (((p1.data.toList.getD x2.toNat 0).toNat : Int) ≤ (57 : Int)))) fun y4 =>
          ref1_Name_j3 rec1 x2 x3 y4)
         (ref1_Name_j3 rec1 x2 x3 false))

def ref1_Name_j5 : Option Bool :=
    some true

def ref1_Name_l1 (p1 : ByteArray) : Nat → Int → Option Bool
  | 0, _ => none
  | k1 + 1, x2 =>
    ift (decide (x2 < (p1.size : Int)))
      (grd (0 ≤ x2 ∧ x2 < (p1.size : Int)) <|
       bnd (some (decide ((97 : Int) ≤ ((p1.data.toList.getD x2.toNat 0).toNat : Int)))) fun y1 =>
       ift y1
         (grd (0 ≤ x2 ∧ x2 < (p1.size : Int)) <|
          bnd (some (decide (((p1.data.toList.getD x2.toNat 0).toNat : Int) ≤ (122 : Int)))) fun y2 =>
          ref1_Name_j2 (ref1_Name_l1 p1 k1) p1 x2 y2)
         (ref1_Name_j2 (ref1_Name_l1 p1 k1) p1 x2 false))
      (ref1_Name_j5)

def ref1_Name_j1 (p1 : ByteArray) (x1 : Bool) : Option Bool :=
    ift x1
      (some false)
      (ref1_Name_l1 p1 BIG (0 : Int))

def ref1_Name (p1 : ByteArray) : Option Bool :=
    ift (decide ((p1.size : Int) < (1 : Int)))
      (ref1_Name_j1 p1 true)
      (ref1_Name_j1 p1 (decide ((24 : Int) < (p1.size : Int))))


theorem c_ref1_Name (p1 : ByteArray) : CT Tryz.prog 112 [vs p1] (ref1_Name p1) vb :=
  uFn 56 [] Tryz.f112 fun r => (uQ (kS Tryz.f112 [1,0,0] 2) fun K3 hK3 => have hJ1 : ∀ (x1 : Bool), ref1_Name_j1 p1 x1 = some r → K3.p [(0, vs p1), (13, vb x1)] [] := fun x1 h => hK3 h (uC (uR .ret xF) (uQ (kS Tryz.f112 [1,1,0] 1) fun K7 hK7 => have hJ5 : ∀ (_ : Unit), ref1_Name_j5 = some r → K7.p [] [] := fun _ h => hK7 h (uR .ret xF); (uO (cd Tryz.f112 [1,1,0,1,0,0]) (kS Tryz.f112 [1,1,0,1,0] 1) fun R1 b1 => have hL1 : ∀ (k1 : Nat) (x2 : Int), ref1_Name_l1 p1 k1 x2 = some r → (R1 k1).p [(0, vs p1), (3, vi x2)] [] := by intro k1; induction k1 with | zero => intro x2 h; exact uE0 (ref1_Name_l1.eq_1 ..) h | succ k1 ih1 => intro x2 h; exact b1 h (uU (ref1_Name_l1.eq_2 ..) (uC (uQ (kS Tryz.f112 [1,1,0,1,0,0,1,0,0,0] 3) fun K13 hK13 => have hJ2 : ∀ (x3 : Bool), ref1_Name_j2 (ref1_Name_l1 p1 k1) p1 x2 x3 = some r → K13.p [(0, vs p1), (3, vi x2), (4, vb x3)] [] := fun x3 h => hK13 h (uQ (kS Tryz.f112 [1,1,0,1,0,0,1,0,0,1,0] 3) fun K19 hK19 => have hJ3 : ∀ (x4 : Bool), ref1_Name_j3 (ref1_Name_l1 p1 k1) x2 x3 x4 = some r → K19.p [(0, vs p1), (3, vi x2), (4, vb x3), (5, vb x4)] [] := fun x4 h => hK19 h (uQ (kS Tryz.f112 [1,1,0,1,0,0,1,0,0,1,1,0] 3) fun K27 hK27 => have hJ4 : ∀ (x5 : Bool), ref1_Name_j4 (ref1_Name_l1 p1 k1) x2 x5 = some r → K27.p [(0, vs p1), (3, vi x2), (55, vb x5)] [] := fun x5 h => hK27 h (uC (uR .ret (xN (xN xF))) (uJ (ih1 (IntKind.i64.wrap (x2 + (1 : Int)))))); (uC (uC (uJ (hJ4 true)) (uJ (hJ4 (!x4)))) (uJ (hJ4 false)))); (uG (uC (uJ (hJ3 true)) (uG (uY 38 vb fun y3 => (uC (uG (uY 43 vb fun y4 => (uJ (hJ3 y4)))) (uJ (hJ3 false)))))))); (uG (uY 23 vb fun y1 => (uC (uG (uY 28 vb fun y2 => (uJ (hJ2 y2)))) (uJ (hJ2 false)))))) (uR (.exit 0) (xM (uJ (hJ5 ()))))))
 uE (hL1 BIG (0 : Int))))); (uC (uJ (hJ1 true)) (uJ (hJ1 (decide ((24 : Int) < (p1.size : Int)))))))

def ref1_shape_j5 (rec2 : Int → Option Int) (x5 : Int) : Option Int :=
    rec2 (IntKind.i64.wrap (x5 + (1 : Int)))

def ref1_shape_l3 (rec2 : Int → Option Int) (p1 : GType) (x5 : Int) : Nat → Int → Option Int
  | 0, _ => none
  | k3 + 1, x6 =>
    ift (decide (x6 < x5))
      (bnd (at? p1.fields x6) fun e3 =>
       bnd (at? p1.fields x5) fun e4 =>
       ift (e3.name.toList == e4.name.toList)
         (some (5 : Int))
         ((ref1_shape_l3 rec2 p1 x5 k3) (IntKind.i64.wrap (x6 + (1 : Int)))))
      (ref1_shape_j5 rec2 x5)

def ref1_shape_j6 : Option Int :=
    some (0 : Int)

def ref1_shape_l2 (p1 : GType) : Nat → Int → Option Int
  | 0, _ => none
  | k2 + 1, x5 =>
    ift (decide (x5 < (p1.fields.length : Int)))
      (ref1_shape_l3 (ref1_shape_l2 p1 k2) p1 x5 BIG (0 : Int))
      (ref1_shape_j6)

def ref1_shape_j4 (p1 : GType) : Option Int :=
    ref1_shape_l2 p1 BIG (0 : Int)

def ref1_shape_l1 (p1 : GType) : Nat → Int → Option Int
  | 0, _ => none
  | k1 + 1, x4 =>
    ift (decide (x4 < (p1.fields.length : Int)))
      (bnd (at? p1.fields x4) fun e2 =>
       bnd (ref1_Name e2.name) fun r5 =>
       ift (!r5)
         (some (4 : Int))
         ((ref1_shape_l1 p1 k1) (IntKind.i64.wrap (x4 + (1 : Int)))))
      (ref1_shape_j4 p1)

def ref1_shape_j3 (p1 : GType) (x3 : Bool) : Option Int :=
    ift x3
      (some (1 : Int))
      (ift (p1.kind != (7 : Int))
         (some (0 : Int))
         (ref1_shape_l1 p1 BIG (0 : Int)))

def ref1_shape_j2 (p1 : GType) (x2 : Bool) : Option Int :=
    ift x2
      (some (1 : Int))
      (ift (p1.kind == (7 : Int))
         (ift ((p1.fields.length : Int) == (0 : Int))
            (ref1_shape_j3 p1 true)
            (bnd (ref1_Leaf p1.kind) fun r3 =>
             ift r3
               (ref1_shape_j3 p1 (decide ((0 : Int) < (p1.fields.length : Int))))
               (ref1_shape_j3 p1 false)))
         (bnd (ref1_Leaf p1.kind) fun r4 =>
          ift r4
            (ref1_shape_j3 p1 (decide ((0 : Int) < (p1.fields.length : Int))))
            (ref1_shape_j3 p1 false)))

def ref1_shape_j1 (p1 : GType) (x1 : Bool) : Option Int :=
    ift x1
      (some (1 : Int))
      (ift (p1.kind == (6 : Int))
         (ift ((p1.fields.length : Int) != (1 : Int))
            (ref1_shape_j2 p1 true)
            (bnd (at? p1.fields (0 : Int)) fun e1 =>
             ref1_shape_j2 p1 (!(e1.name.toList == (ByteArray.mk #[]).toList))))
         (ref1_shape_j2 p1 false))

def ref1_shape (p1 : GType) : Option Int :=
    bnd (ref1_within p1.kind (1 : Int) (7 : Int)) fun r1 =>
    ift (!r1)
      (some (3 : Int))
      (ift (p1.kind == (3 : Int))
         (bnd (ref1_within p1.scale (0 : Int) (12 : Int)) fun r2 =>
          ift (!r2)
            (ref1_shape_j1 p1 true)
            (ift (p1.kind != (3 : Int))
               (ref1_shape_j1 p1 (p1.scale != (0 : Int)))
               (ref1_shape_j1 p1 false)))
         (ift (p1.kind != (3 : Int))
            (ref1_shape_j1 p1 (p1.scale != (0 : Int)))
            (ref1_shape_j1 p1 false)))

abbrev qa610 (p1 : GType) : List PV := [pi p1.kind, pi p1.scale, .ro (eField.els p1.fields)]

theorem c_ref1_shape (p1 : GType) : CT Tryz.prog 75 [.ag [ci p1.kind, ci p1.scale, cl eField p1.fields]] (ref1_shape p1) vi :=
  uFn 109 [] Tryz.f75 fun r => (uP (c_ref1_within _ _ _) fun r1 _ => (uC (uR .ret xF) (uQ (kS Tryz.f75 [1,1,0,0] 2) fun K8 hK8 => have hJ1 : ∀ (x1 : Bool), ref1_shape_j1 p1 x1 = some r → K8.p [(1, .one (.pv (.rp [(qa610 p1)] 0 0))), (28, vb x1)] [] := fun x1 h => hK8 h (uC (uR .ret xF) (uQ (kS Tryz.f75 [1,1,1,0,0] 2) fun K17 hK17 => have hJ2 : ∀ (x2 : Bool), ref1_shape_j2 p1 x2 = some r → K17.p [(1, .one (.pv (.rp [(qa610 p1)] 0 0))), (45, vb x2)] [] := fun x2 h => hK17 h (uC (uR .ret xF) (uQ (kS Tryz.f75 [1,1,1,1,0,0] 2) fun K24 hK24 => have hJ3 : ∀ (x3 : Bool), ref1_shape_j3 p1 x3 = some r → K24.p [(1, .one (.pv (.rp [(qa610 p1)] 0 0))), (65, vb x3)] [] := fun x3 h => hK24 h (uC (uR .ret xF) (uC (uR .ret xF) (uQ (kS Tryz.f75 [1,1,1,1,1,1,0] 1) fun K37 hK37 => have hJ4 : ∀ (_ : Unit), ref1_shape_j4 p1 = some r → K37.p [(1, .one (.pv (.rp [(qa610 p1)] 0 0)))] [] := fun _ h => hK37 h (uQ (kS Tryz.f75 [1,1,1,1,1,1,1,0] 1) fun K49 hK49 => have hJ6 : ∀ (_ : Unit), ref1_shape_j6 = some r → K49.p [] [] := fun _ h => hK49 h (uR .ret xF); (uN eField p1.fields (uO (cd Tryz.f75 [1,1,1,1,1,1,1,0,1,0,0]) (kS Tryz.f75 [1,1,1,1,1,1,1,0,1,0] 1) fun R2 b2 => have hL2 : ∀ (k2 : Nat) (x5 : Int), ref1_shape_l2 p1 k2 x5 = some r → (R2 k2).p [(1, .one (.pv (.rp [(qa610 p1)] 0 0))), (86, vi (p1.fields.length : Int)), (87, vi x5)] [] := by intro k2; induction k2 with | zero => intro x5 h; exact uE0 (ref1_shape_l2.eq_1 ..) h | succ k2 ih2 => intro x5 h; exact b2 h (uU (ref1_shape_l2.eq_2 ..) (uC (uQ (kS Tryz.f75 [1,1,1,1,1,1,1,0,1,0,0,1,1,0] 1) fun K54 hK54 => have hJ5 : ∀ (_ : Unit), ref1_shape_j5 (ref1_shape_l2 p1 k2) x5 = some r → K54.p [(1, .one (.pv (.rp [(qa610 p1)] 0 0))), (86, vi (p1.fields.length : Int)), (87, vi x5)] [] := fun _ h => hK54 h (uJ (ih2 (IntKind.i64.wrap (x5 + (1 : Int))))); (uO (cd Tryz.f75 [1,1,1,1,1,1,1,0,1,0,0,1,1,0,0,1,1,0,0]) (kS Tryz.f75 [1,1,1,1,1,1,1,0,1,0,0,1,1,0,0,1,1,0] 2) fun R3 b3 => have hL3 : ∀ (k3 : Nat) (x6 : Int), ref1_shape_l3 (ref1_shape_l2 p1 k2) p1 x5 k3 x6 = some r → (R3 k3).p [(1, .one (.pv (.rp [(qa610 p1)] 0 0))), (4, vi x5), (5, vi x6), (86, vi (p1.fields.length : Int)), (87, vi x5)] [] := by intro k3; induction k3 with | zero => intro x6 h; exact uE0 (ref1_shape_l3.eq_1 ..) h | succ k3 ih3 => intro x6 h; exact b3 h (uU (ref1_shape_l3.eq_2 ..) (uC (uDr 12 (uL eField fun e3 a62 => (uL eField fun e4 a63 => (uC (uR .ret (xN (xN (xN (xN xF))))) (uJ (ih3 (IntKind.i64.wrap (x6 + (1 : Int))))))))) (uR (.exit 4) (xM (uJ (hJ5 ()))))))
 uE (hL3 BIG (0 : Int)))) (uR (.exit 2) (xM (uJ (hJ6 ()))))))
 uE (hL2 BIG (0 : Int))))); (uN eField p1.fields (uO (cd Tryz.f75 [1,1,1,1,1,1,0,1,0,0]) (kS Tryz.f75 [1,1,1,1,1,1,0,1,0] 1) fun R1 b1 => have hL1 : ∀ (k1 : Nat) (x4 : Int), ref1_shape_l1 p1 k1 x4 = some r → (R1 k1).p [(1, .one (.pv (.rp [(qa610 p1)] 0 0))), (71, vi (p1.fields.length : Int)), (72, vi x4)] [] := by intro k1; induction k1 with | zero => intro x4 h; exact uE0 (ref1_shape_l1.eq_1 ..) h | succ k1 ih1 => intro x4 h; exact b1 h (uU (ref1_shape_l1.eq_2 ..) (uC (uL eField fun e2 a45 => (uP (c_ref1_Name _) fun r5 _ => (uC (uR .ret (xN (xN xF))) (uJ (ih1 (IntKind.i64.wrap (x4 + (1 : Int)))))))) (uR (.exit 0) (xM (uJ (hJ4 ()))))))
 uE (hL1 BIG (0 : Int))))))); (uC (uN eField p1.fields (uC (uJ (hJ3 true)) (uP (c_ref1_Leaf _) fun r3 _ => (uC (uN eField p1.fields (uJ (hJ3 (decide ((0 : Int) < (p1.fields.length : Int)))))) (uJ (hJ3 false)))))) (uP (c_ref1_Leaf _) fun r4 _ => (uC (uN eField p1.fields (uJ (hJ3 (decide ((0 : Int) < (p1.fields.length : Int)))))) (uJ (hJ3 false))))))); (uC (uN eField p1.fields (uC (uJ (hJ2 true)) (uL eField fun e1 a20 => (uJ (hJ2 (!(e1.name.toList == (ByteArray.mk #[]).toList))))))) (uJ (hJ2 false))))); (uC (uP (c_ref1_within _ _ _) fun r2 _ => (uC (uJ (hJ1 true)) (uC (uJ (hJ1 (p1.scale != (0 : Int)))) (uJ (hJ1 false))))) (uC (uJ (hJ1 (p1.scale != (0 : Int)))) (uJ (hJ1 false)))))))

def ref1_checkType_j2 (z3 : Int) : Option (Int × Int) :=
    some ((0 : Int), z3)

def ref1_checkType_l1 (q_ref1_checkType : GType → Int → Int → Option (Int × Int)) (p1 : GType) (p2 : Int) : Nat → Int → Int → Option (Int × Int)
  | 0, _, _ => none
  | k1 + 1, z2, x1 =>
    ift (decide (x1 < (p1.fields.length : Int)))
      (bnd (at? p1.fields x1) fun e1 =>
       bnd (q_ref1_checkType e1.type (IntKind.i64.wrap (p2 + (1 : Int))) z2) fun r3 =>
       ift (r3.1 != (0 : Int))
         (some (r3.1, r3.2))
         ((ref1_checkType_l1 q_ref1_checkType p1 p2 k1) r3.2 (IntKind.i64.wrap (x1 + (1 : Int)))))
      (ref1_checkType_j2 z2)

def ref1_checkType_j1 (q_ref1_checkType : GType → Int → Int → Option (Int × Int)) (p1 : GType) (p2 : Int) (z1 : Int) : Option (Int × Int) :=
    bnd (ref1_shape p1) fun r2 =>
    ift (r2 != (0 : Int))
      (some (r2, z1))
      (ref1_checkType_l1 q_ref1_checkType p1 p2 BIG z1 (0 : Int))

def ref1_checkType : Nat → GType → Int → Int → Option (Int × Int)
  | 0, _, _, _ => none
  | k0 + 1, p1, p2, p3 =>
    ift (decide ((4 : Int) < p2))
      (some ((7 : Int), p3))
      (bnd (ref1_Leaf p1.kind) fun r1 =>
       ift r1
         (ift (p3 == (40 : Int))
            (some ((7 : Int), p3))
            (ref1_checkType_j1 (ref1_checkType k0) p1 p2 (IntKind.i64.wrap (p3 + (1 : Int)))))
         (ref1_checkType_j1 (ref1_checkType k0) p1 p2 p3))


theorem c_ref1_checkType : ∀ (k0 : Nat) (p1 : GType) (p2 : Int) (p3 : Int), CM Tryz.prog 38 [.ag [ci p1.kind, ci p1.scale, cl eField p1.fields], vi p2, .one (.pt 0 0 0 0)] [.box [ci p3]] (ref1_checkType k0 p1 p2 p3) (fun r => vi r.1) (fun r => [.box [ci r.2]])
  | 0, _, _, _ => uM0 (ref1_checkType.eq_1 ..)
  | k0 + 1, p1, p2, p3 => uFnM 1 49 [] Tryz.f38 fun r => (uU (ref1_checkType.eq_2 ..) (uC (uR .ret xFM) (uQ (kS Tryz.f38 [1,1,0] 1) fun K6 hK6 => have hJ1 : ∀ (z1 : Int), ref1_checkType_j1 (ref1_checkType k0) p1 p2 z1 = some r → K6.p [(1, vi p2), (2, .one (.pt 0 0 0 0)), (3, .one (.pv (.rp [[pi p1.kind, pi p1.scale, .ro (eField.els p1.fields)]] 0 0)))] [.box [ci z1]] := fun z1 h => hK6 h (uP (c_ref1_shape _) fun r2 _ => (uC (uR .ret xFM) (uQ (kS Tryz.f38 [1,1,1,1,0] 1) fun K20 hK20 => have hJ2 : ∀ (z3 : Int), ref1_checkType_j2 z3 = some r → K20.p [] [.box [ci z3]] := fun z3 h => hK20 h (uR .ret xFM); (uN eField p1.fields (uO (cd Tryz.f38 [1,1,1,1,0,1,0,0]) (kS Tryz.f38 [1,1,1,1,0,1,0] 1) fun R1 b1 => have hL1 : ∀ (k1 : Nat) (z2 : Int) (x1 : Int), ref1_checkType_l1 (ref1_checkType k0) p1 p2 k1 z2 x1 = some r → (R1 k1).p [(1, vi p2), (2, .one (.pt 0 0 0 0)), (3, .one (.pv (.rp [[pi p1.kind, pi p1.scale, .ro (eField.els p1.fields)]] 0 0))), (31, vi (p1.fields.length : Int)), (32, vi x1)] [.box [ci z2]] := by intro k1; induction k1 with | zero => intro z2 x1 h; exact uE0 (ref1_checkType_l1.eq_1 ..) h | succ k1 ih1 => intro z2 x1 h; exact b1 h (uU (ref1_checkType_l1.eq_2 ..) (uC (uL eField fun e1 a28 => (uMc true [0] (c_ref1_checkType k0 _ _ _) fun r3 _ => (uC (uR .ret (xN (xN xFM))) (uJ (ih1 r3.2 (IntKind.i64.wrap (x1 + (1 : Int)))))))) (uR (.exit 0) (xM (uJ (hJ2 z2))))))
 uE (hL1 BIG z1 (0 : Int))))))); (uP (c_ref1_Leaf _) fun r1 _ => (uC (uC (uR .ret (xN xFM)) (uJ (hJ1 (IntKind.i64.wrap (p3 + (1 : Int)))))) (uJ (hJ1 p3)))))))

def ref1_CheckType (p1 : GType) : Option Int :=
    bnd (ref1_checkType BIG p1 (1 : Int) (0 : Int)) fun r1 =>
    some r1.1


theorem c_ref1_CheckType (p1 : GType) : CT Tryz.prog 19 [.ag [ci p1.kind, ci p1.scale, cl eField p1.fields]] (ref1_CheckType p1) vi :=
  uFn 6 [3] Tryz.f19 fun r => (uMc true [0] (c_ref1_checkType BIG _ _ _) fun r1 _ => (uR .ret xF))

def ref1_upTo_j1 (rec2 : Bool → Int → Option ByteArray) (x3 : Int) (x4 : Bool) : Option ByteArray :=
    rec2 x4 (IntKind.i64.wrap (x3 + (1 : Int)))

def ref1_upTo_j3 (p1 : ByteArray) (x6 : Int) : Option ByteArray :=
    grd (0 ≤ (0 : Int) ∧ (0 : Int) ≤ x6 ∧ x6 ≤ (p1.size : Int)) <|
    some (p1.extract (0 : Int).toNat x6.toNat)

def ref1_upTo_j2 (rec1 : Int → Option ByteArray) (p1 : ByteArray) (x1 : Int) (x5 : Bool) : Option ByteArray :=
    ift (!x5)
      (ref1_upTo_j3 p1 x1)
      (rec1 (IntKind.i64.wrap (x1 + (1 : Int))))

def ref1_upTo_l2 (rec1 : Int → Option ByteArray) (p1 : ByteArray) (p2 : ByteArray) (x1 : Int) : Nat → Bool → Int → Option ByteArray
  | 0, _, _ => none
  | k2 + 1, x2, x3 =>
    ift (decide (x3 < (p2.size : Int)))
      (ift x2
         (ref1_upTo_j1 (ref1_upTo_l2 rec1 p1 p2 x1 k2) x3 true)
         (grd (0 ≤ x3 ∧ x3 < (p2.size : Int)) <|
          grd (0 ≤ x1 ∧ x1 < (p1.size : Int)) <|
          bnd (some (((p2.data.toList.getD x3.toNat 0).toNat : Int) == ((p1.data.toList.getD x1.toNat 0).toNat : Int))) fun y1 =>
          ref1_upTo_j1 (ref1_upTo_l2 rec1 p1 p2 x1 k2) x3 y1))
      (ref1_upTo_j2 rec1 p1 x1 x2)

def ref1_upTo_l1 (p1 : ByteArray) (p2 : ByteArray) : Nat → Int → Option ByteArray
  | 0, _ => none
  | k1 + 1, x1 =>
    ift (decide (x1 < (p1.size : Int)))
      (ref1_upTo_l2 (ref1_upTo_l1 p1 p2 k1) p1 p2 x1 BIG false (0 : Int))
      (ref1_upTo_j3 p1 x1)

def ref1_upTo (p1 : ByteArray) (p2 : ByteArray) : Option ByteArray :=
    ref1_upTo_l1 p1 p2 BIG (0 : Int)


theorem c_ref1_upTo (p1 : ByteArray) (p2 : ByteArray) : CT Tryz.prog 85 [vs p1, vs p2] (ref1_upTo p1 p2) vs :=
  uFn 35 [] Tryz.f85 fun r => (uQ (kS Tryz.f85 [1,1,0] 1) fun K3 hK3 => have hJ3 : ∀ (x6 : Int), ref1_upTo_j3 p1 x6 = some r → K3.p [(0, vs p1), (5, vi x6)] [] := fun x6 h => hK3 h (uG (uR .ret xF)); (uO (cd Tryz.f85 [1,1,0,0,0]) (kS Tryz.f85 [1,1,0,0] 1) fun R1 b1 => have hL1 : ∀ (k1 : Nat) (x1 : Int), ref1_upTo_l1 p1 p2 k1 x1 = some r → (R1 k1).p [(0, vs p1), (1, vs p2), (5, vi x1)] [] := by intro k1; induction k1 with | zero => intro x1 h; exact uE0 (ref1_upTo_l1.eq_1 ..) h | succ k1 ih1 => intro x1 h; exact b1 h (uU (ref1_upTo_l1.eq_2 ..) (uC (uQ (kS Tryz.f85 [1,1,0,0,0,1,0,1,0] 2) fun K8 hK8 => have hJ2 : ∀ (x5 : Bool), ref1_upTo_j2 (ref1_upTo_l1 p1 p2 k1) p1 x1 x5 = some r → K8.p [(0, vs p1), (1, vs p2), (5, vi x1), (6, vb x5)] [] := fun x5 h => hK8 h (uC (uR (.exit 0) (xM (uJ (hJ3 x1)))) (uJ (ih1 (IntKind.i64.wrap (x1 + (1 : Int)))))); (uO (cd Tryz.f85 [1,1,0,0,0,1,0,1,0,1,0,0]) (kS Tryz.f85 [1,1,0,0,0,1,0,1,0,1,0] 1) fun R2 b2 => have hL2 : ∀ (k2 : Nat) (x2 : Bool) (x3 : Int), ref1_upTo_l2 (ref1_upTo_l1 p1 p2 k1) p1 p2 x1 k2 x2 x3 = some r → (R2 k2).p [(0, vs p1), (1, vs p2), (5, vi x1), (6, vb x2), (7, vi x3)] [] := by intro k2; induction k2 with | zero => intro x2 x3 h; exact uE0 (ref1_upTo_l2.eq_1 ..) h | succ k2 ih2 => intro x2 x3 h; exact b2 h (uU (ref1_upTo_l2.eq_2 ..) (uC (uQ (kS Tryz.f85 [1,1,0,0,0,1,0,1,0,1,0,0,1,0] 1) fun K13 hK13 => have hJ1 : ∀ (x4 : Bool), ref1_upTo_j1 (ref1_upTo_l2 (ref1_upTo_l1 p1 p2 k1) p1 p2 x1 k2) x3 x4 = some r → K13.p [(0, vs p1), (1, vs p2), (5, vi x1), (6, vb x4), (7, vi x3)] [] := fun x4 h => hK13 h (uJ (ih2 x4 (IntKind.i64.wrap (x3 + (1 : Int))))); (uDr 8 (uC (uJ (hJ1 true)) (uG (uG (uY 26 vb fun y1 => (uJ (hJ1 y1)))))))) (uR (.exit 2) (xM (uJ (hJ2 x2))))))
 uE (hL2 BIG false (0 : Int)))) (uR (.exit 0) (xM (uJ (hJ3 x1))))))
 uE (hL1 BIG (0 : Int))))

def ref1_amount_j2 (x4 : Int) : Option (Int × Bool) :=
    some (x4, true)

def ref1_amount_l1 (p1 : ByteArray) : Nat → Int → Int → Option (Int × Bool)
  | 0, _, _ => none
  | k1 + 1, x2, x3 =>
    ift (decide (x3 < (p1.size : Int)))
      (grd (0 ≤ x3 ∧ x3 < (p1.size : Int)) <|
       bnd (some (IntKind.u8.wrap (((p1.data.toList.getD x3.toNat 0).toNat : Int) - (48 : Int)))) fun y1 =>
       bnd (some (IntKind.i64.wrap ((IntKind.i64.wrap ((10 : Int) * x2)) + (IntKind.i64.wrap y1)))) fun y2 =>
       (ref1_amount_l1 p1 k1) y2 (IntKind.i64.wrap (x3 + (1 : Int))))
      (ref1_amount_j2 x2)

def ref1_amount_j1 (p1 : ByteArray) (x1 : Bool) : Option (Int × Bool) :=
    ift x1
      (some ((0 : Int), false))
      (ref1_amount_l1 p1 BIG (0 : Int) (0 : Int))

def ref1_amount (p1 : ByteArray) : Option (Int × Bool) :=
    ift ((p1.size : Int) == (0 : Int))
      (ref1_amount_j1 p1 true)
      (ift (decide ((18 : Int) < (p1.size : Int)))
         (ref1_amount_j1 p1 true)
         (bnd (ref1_upTo p1 (ByteArray.mk #[48, 49, 50, 51, 52, 53, 54, 55, 56, 57])) fun r1 =>
          ref1_amount_j1 p1 ((r1.size : Int) != (p1.size : Int))))


theorem c_ref1_amount (p1 : ByteArray) : CT Tryz.prog 88 [vs p1] (ref1_amount p1) (fun r => .tp [vi r.1, vb r.2]) :=
  uFn 37 [] Tryz.f88 fun r => (uQ (kS Tryz.f88 [1,0,0] 2) fun K3 hK3 => have hJ1 : ∀ (x1 : Bool), ref1_amount_j1 p1 x1 = some r → K3.p [(0, vs p1), (21, vb x1)] [] := fun x1 h => hK3 h (uC (uR .ret xF) (uQ (kS Tryz.f88 [1,1,1,0] 1) fun K10 hK10 => have hJ2 : ∀ (x4 : Int), ref1_amount_j2 x4 = some r → K10.p [(4, vi x4)] [] := fun x4 h => hK10 h (uR .ret xF); (uO (cd Tryz.f88 [1,1,1,0,1,0,0]) (kS Tryz.f88 [1,1,1,0,1,0] 1) fun R1 b1 => have hL1 : ∀ (k1 : Nat) (x2 : Int) (x3 : Int), ref1_amount_l1 p1 k1 x2 x3 = some r → (R1 k1).p [(0, vs p1), (4, vi x2), (5, vi x3)] [] := by intro k1; induction k1 with | zero => intro x2 x3 h; exact uE0 (ref1_amount_l1.eq_1 ..) h | succ k1 ih1 => intro x2 x3 h; exact b1 h (uU (ref1_amount_l1.eq_2 ..) (uC (uG (uY 33 (vk .u8) fun y1 => (uY 35 vi fun y2 => (uJ (ih1 y2 (IntKind.i64.wrap (x3 + (1 : Int)))))))) (uR (.exit 0) (xM (uJ (hJ2 x2))))))
 uE (hL1 BIG (0 : Int) (0 : Int))))); (uC (uJ (hJ1 true)) (uC (uJ (hJ1 true)) (uP (c_ref1_upTo _ _) fun r1 _ => (uJ (hJ1 ((r1.size : Int) != (p1.size : Int))))))))

def ref1_signed_j1 (p1 : ByteArray) (x1 : Bool) : Option (Int × Bool) :=
    ift x1
      (grd (0 ≤ (1 : Int) ∧ (1 : Int) ≤ (p1.size : Int) ∧ (p1.size : Int) ≤ (p1.size : Int)) <|
       bnd (ref1_amount (p1.extract (1 : Int).toNat (p1.size : Int).toNat)) fun r1 =>
       some ((IntKind.i64.wrap (0 - r1.1)), r1.2))
      (bnd (ref1_amount p1) fun r2 =>
       some (r2.1, r2.2))

def ref1_signed (p1 : ByteArray) : Option (Int × Bool) :=
    ift (decide ((0 : Int) < (p1.size : Int)))
      (grd (0 ≤ (0 : Int) ∧ (0 : Int) < (p1.size : Int)) <|
       ref1_signed_j1 p1 (((p1.data.toList.getD (0 : Int).toNat 0).toNat : Int) == (45 : Int)))
      (ref1_signed_j1 p1 false)


theorem c_ref1_signed (p1 : ByteArray) : CT Tryz.prog 86 [vs p1] (ref1_signed p1) (fun r => .tp [vi r.1, vb r.2]) :=
  uFn 27 [] Tryz.f86 fun r => (uQ (kS Tryz.f86 [1,0,0] 2) fun K3 hK3 => have hJ1 : ∀ (x1 : Bool), ref1_signed_j1 p1 x1 = some r → K3.p [(0, vs p1), (13, vb x1)] [] := fun x1 h => hK3 h (uC (uG (uP (c_ref1_amount _) fun r1 _ => (uR .ret xF))) (uP (c_ref1_amount _) fun r2 _ => (uR .ret xF))); (uC (uG (uJ (hJ1 (((p1.data.toList.getD (0 : Int).toNat 0).toNat : Int) == (45 : Int))))) (uJ (hJ1 false))))

def ref1_quoted_j3 (rec1 : ByteArray → Int → Option (GValue × ByteArray × Bool)) (x5 : ByteArray) (x6 : Int) : Option (GValue × ByteArray × Bool) :=
    rec1 x5 (IntKind.i64.wrap (x6 + (1 : Int)))

def ref1_quoted_j2 (rec1 : ByteArray → Int → Option (GValue × ByteArray × Bool)) (p1 : ByteArray) (x2 : ByteArray) (x3 : Int) (x4 : Bool) : Option (GValue × ByteArray × Bool) :=
    ift x4
      (grd (x2.size + (ByteArray.mk #[39]).size ≤ 4611686018427387904) <|
       ref1_quoted_j3 rec1 (x2 ++ (ByteArray.mk #[39])) (IntKind.i64.wrap (x3 + (1 : Int))))
      (grd (0 ≤ (IntKind.i64.wrap (x3 + (1 : Int))) ∧ (IntKind.i64.wrap (x3 + (1 : Int))) ≤ (p1.size : Int) ∧ (p1.size : Int) ≤ (p1.size : Int)) <|
       bnd (some (p1.extract (IntKind.i64.wrap (x3 + (1 : Int))).toNat (p1.size : Int).toNat)) fun y3 =>
       some ((GValue.mk (4 : Int) (0 : Int) (0 : Int) x2 []), y3, true))

def ref1_quoted_j4 (p1 : ByteArray) : Option (GValue × ByteArray × Bool) :=
    some ((GValue.mk (0 : Int) (0 : Int) (0 : Int) ByteArray.empty []), p1, false)

def ref1_quoted_l1 (p1 : ByteArray) : Nat → ByteArray → Int → Option (GValue × ByteArray × Bool)
  | 0, _, _ => none
  | k1 + 1, x2, x3 =>
    ift (decide (x3 < (p1.size : Int)))
      (grd (0 ≤ x3 ∧ x3 < (p1.size : Int)) <|
       ift (((p1.data.toList.getD x3.toNat 0).toNat : Int) != (39 : Int))
         (grd (0 ≤ x3 ∧ x3 ≤ (IntKind.i64.wrap (x3 + (1 : Int))) ∧ (IntKind.i64.wrap (x3 + (1 : Int))) ≤ (p1.size : Int)) <|
          grd (x2.size + (p1.extract x3.toNat (IntKind.i64.wrap (x3 + (1 : Int))).toNat).size ≤ 4611686018427387904) <|
          bnd (some (x2 ++ (p1.extract x3.toNat (IntKind.i64.wrap (x3 + (1 : Int))).toNat))) fun y1 =>
          ref1_quoted_j3 (ref1_quoted_l1 p1 k1) y1 x3)
         (ift (decide ((IntKind.i64.wrap (x3 + (1 : Int))) < (p1.size : Int)))
            (grd (0 ≤ (IntKind.i64.wrap (x3 + (1 : Int))) ∧ (IntKind.i64.wrap (x3 + (1 : Int))) < (p1.size : Int)) <|
             bnd (some ((p1.data.toList.getD (IntKind.i64.wrap (x3 + (1 : Int))).toNat 0).toNat : Int)) fun y2 =>
             ref1_quoted_j2 (ref1_quoted_l1 p1 k1) p1 x2 x3 (y2 == (39 : Int)))
            (ref1_quoted_j2 (ref1_quoted_l1 p1 k1) p1 x2 x3 false)))
      (ref1_quoted_j4 p1)

def ref1_quoted_j1 (p1 : ByteArray) (x1 : Bool) : Option (GValue × ByteArray × Bool) :=
    ift x1
      (some ((GValue.mk (0 : Int) (0 : Int) (0 : Int) ByteArray.empty []), p1, false))
      (ref1_quoted_l1 p1 BIG (ByteArray.mk #[]) (1 : Int))

def ref1_quoted (p1 : ByteArray) : Option (GValue × ByteArray × Bool) :=
    ift ((p1.size : Int) == (0 : Int))
      (ref1_quoted_j1 p1 true)
      (grd (0 ≤ (0 : Int) ∧ (0 : Int) < (p1.size : Int)) <|
       ref1_quoted_j1 p1 (((p1.data.toList.getD (0 : Int).toNat 0).toNat : Int) != (39 : Int)))

abbrev qa644 : List CV := [ci (0 : Int), ci (0 : Int), ci (0 : Int), cst ByteArray.empty, .pv (.s (.slice none 0 0))]

theorem c_ref1_quoted (p1 : ByteArray) : CT Tryz.prog 87 [vs p1] (ref1_quoted p1) (fun r => .tp [.ag [ci r.1.kind, ci r.1.n, ci r.1.scale, cst r.1.s, cl eValue r.1.items], vs r.2.1, vb r.2.2]) :=
  uFn 58 [2] Tryz.f87 fun r => (uQ (kS Tryz.f87 [1,0,0] 2) fun K3 hK3 => have hJ1 : ∀ (x1 : Bool), ref1_quoted_j1 p1 x1 = some r → K3.p [(0, vs p1), (2, .one (.pt 0 0 0 0)), (14, vb x1)] [.box qa644] := fun x1 h => hK3 h (uC (uR .ret xF) (uQ (kS Tryz.f87 [1,1,1,0] 1) fun K9 hK9 => have hJ4 : ∀ (_ : Unit), ref1_quoted_j4 p1 = some r → K9.p [(0, vs p1), (2, .one (.pt 0 0 0 0))] [.box qa644] := fun _ h => hK9 h (uR .ret xF); (uO (cd Tryz.f87 [1,1,1,0,1,0,0]) (kS Tryz.f87 [1,1,1,0,1,0] 1) fun R1 b1 => have hL1 : ∀ (k1 : Nat) (x2 : ByteArray) (x3 : Int), ref1_quoted_l1 p1 k1 x2 x3 = some r → (R1 k1).p [(0, vs p1), (2, .one (.pt 0 0 0 0)), (5, vs x2), (6, vi x3)] [.box qa644] := by intro k1; induction k1 with | zero => intro x2 x3 h; exact uE0 (ref1_quoted_l1.eq_1 ..) h | succ k1 ih1 => intro x2 x3 h; exact b1 h (uU (ref1_quoted_l1.eq_2 ..) (uC (uQ (kS Tryz.f87 [1,1,1,0,1,0,0,1,0] 1) fun K14 hK14 => have hJ3 : ∀ (x5 : ByteArray) (x6 : Int), ref1_quoted_j3 (ref1_quoted_l1 p1 k1) x5 x6 = some r → K14.p [(0, vs p1), (2, .one (.pt 0 0 0 0)), (5, vs x5), (6, vi x6)] [.box qa644] := fun x5 x6 h => hK14 h (uJ (ih1 x5 (IntKind.i64.wrap (x6 + (1 : Int))))); (uG (uC (uG (uYg 33 vs fun y1 => (uJ (hJ3 y1 x3)))) (uQ (kS Tryz.f87 [1,1,1,0,1,0,0,1,0,0,1,0,0] 3) fun K24 hK24 => have hJ2 : ∀ (x4 : Bool), ref1_quoted_j2 (ref1_quoted_l1 p1 k1) p1 x2 x3 x4 = some r → K24.p [(0, vs p1), (2, .one (.pt 0 0 0 0)), (5, vs x2), (6, vi x3), (45, vb x4)] [.box qa644] := fun x4 h => hK24 h (uC (uG (uJ (hJ3 (x2 ++ (ByteArray.mk #[39])) (IntKind.i64.wrap (x3 + (1 : Int)))))) (uGr 7 0 [1] (uYg 55 vs fun y3 => (uR .ret (xN (xN (xN xF))))))); (uC (uYg 43 (vk .u8) fun y2 => (uJ (hJ2 (y2 == (39 : Int))))) (uJ (hJ2 false))))))) (uR (.exit 0) (xM (uJ (hJ4 ()))))))
 uE (hL1 BIG (ByteArray.mk #[]) (1 : Int))))); (uC (uJ (hJ1 true)) (uG (uJ (hJ1 (((p1.data.toList.getD (0 : Int).toNat 0).toNat : Int) != (39 : Int)))))))

def ref1_leap_j1 (x1 : Bool) : Option Bool :=
    some x1

def ref1_leap (p1 : Int) : Option Bool :=
    ift ((p1.tmod (4 : Int)) == (0 : Int))
      (ift ((p1.tmod (100 : Int)) != (0 : Int))
         (ref1_leap_j1 true)
         (ref1_leap_j1 ((p1.tmod (400 : Int)) == (0 : Int))))
      (ref1_leap_j1 false)


theorem c_ref1_leap (p1 : Int) : CT Tryz.prog 139 [vi p1] (ref1_leap p1) vb :=
  uFn 16 [] Tryz.f139 fun r => (uQ (kS Tryz.f139 [1,0] 1) fun K2 hK2 => have hJ1 : ∀ (x1 : Bool), ref1_leap_j1 x1 = some r → K2.p [(2, vb x1)] [] := fun x1 h => hK2 h (uR .ret xF); (uC (uC (uJ (hJ1 true)) (uJ (hJ1 ((p1.tmod (400 : Int)) == (0 : Int))))) (uJ (hJ1 false))))

def ref1_MonthDays_j1 (x1 : Bool) : Option Int :=
    ift x1
      (some (30 : Int))
      (some (31 : Int))

def ref1_MonthDays (p1 : Int) (p2 : Int) : Option Int :=
    ift (p2 == (2 : Int))
      (bnd (ref1_leap p1) fun r1 =>
       ift r1
         (some (29 : Int))
         (some (28 : Int)))
      (ift (p2 == (4 : Int))
         (ref1_MonthDays_j1 (p2 == (4 : Int)))
         (ift (p2 == (6 : Int))
            (ref1_MonthDays_j1 (p2 == (6 : Int)))
            (ift (p2 == (9 : Int))
               (ref1_MonthDays_j1 (p2 == (9 : Int)))
               (ref1_MonthDays_j1 (p2 == (11 : Int))))))


theorem c_ref1_MonthDays (p1 : Int) (p2 : Int) : CT Tryz.prog 102 [vi p1, vi p2] (ref1_MonthDays p1 p2) vi :=
  uFn 15 [] Tryz.f102 fun r => (uC (uP (c_ref1_leap _) fun r1 _ => (uC (uR .ret xF) (uR .ret xF))) (uQ (kS Tryz.f102 [1,0,1,0,1,1,0] 3) fun K12 hK12 => have hJ1 : ∀ (x1 : Bool), ref1_MonthDays_j1 x1 = some r → K12.p [(10, vb x1)] [] := fun x1 h => hK12 h (uC (uR .ret xF) (uR .ret xF)); (uC (uJ (hJ1 (p2 == (4 : Int)))) (uC (uJ (hJ1 (p2 == (6 : Int)))) (uC (uJ (hJ1 (p2 == (9 : Int)))) (uJ (hJ1 (p2 == (11 : Int)))))))))

def ref1_isCivil_j1 (x1 : Bool) : Option Bool :=
    some x1

def ref1_isCivil (p1 : GCivil) : Option Bool :=
    bnd (ref1_within p1.year (1 : Int) (9999 : Int)) fun r1 =>
    ift r1
      (bnd (ref1_within p1.month (1 : Int) (12 : Int)) fun r2 =>
       ift r2
         (bnd (ref1_MonthDays p1.year p1.month) fun r3 =>
          bnd (ref1_within p1.day (1 : Int) r3) fun r4 =>
          ift r4
            (bnd (ref1_within p1.hour (0 : Int) (23 : Int)) fun r5 =>
             ift r5
               (bnd (ref1_within p1.minute (0 : Int) (59 : Int)) fun r6 =>
                ift r6
                  (bnd (ref1_within p1.second (0 : Int) (59 : Int)) fun r7 =>
                   ref1_isCivil_j1 r7)
                  (ref1_isCivil_j1 false))
               (ref1_isCivil_j1 false))
            (ref1_isCivil_j1 false))
         (ref1_isCivil_j1 false))
      (ref1_isCivil_j1 false)


theorem c_ref1_isCivil (p1 : GCivil) : CT Tryz.prog 89 [.ag [ci p1.year, ci p1.month, ci p1.day, ci p1.hour, ci p1.minute, ci p1.second]] (ref1_isCivil p1) vb :=
  uFn 36 [] Tryz.f89 fun r => (uQ (kS Tryz.f89 [1,0] 1) fun K2 hK2 => have hJ1 : ∀ (x1 : Bool), ref1_isCivil_j1 x1 = some r → K2.p [(2, vb x1)] [] := fun x1 h => hK2 h (uR .ret xF); (uDr 16 (uP (c_ref1_within _ _ _) fun r1 _ => (uC (uP (c_ref1_within _ _ _) fun r2 _ => (uC (uP (c_ref1_MonthDays _ _) fun r3 _ => (uP (c_ref1_within _ _ _) fun r4 _ => (uC (uP (c_ref1_within _ _ _) fun r5 _ => (uC (uP (c_ref1_within _ _ _) fun r6 _ => (uC (uP (c_ref1_within _ _ _) fun r7 _ => (uJ (hJ1 r7))) (uJ (hJ1 false)))) (uJ (hJ1 false)))) (uJ (hJ1 false))))) (uJ (hJ1 false)))) (uJ (hJ1 false))))))

def ref1_yearStart_j1 (x1 : Int) : Option Int :=
    some (IntKind.i64.wrap (x1 - (719528 : Int)))

def ref1_yearStart (p1 : Int) : Option Int :=
    ift (decide ((0 : Int) < p1))
      (bnd (some (IntKind.i64.wrap ((IntKind.i64.wrap (p1 - (1 : Int))).tdiv (4 : Int)))) fun y1 =>
       bnd (some (IntKind.i64.wrap ((IntKind.i64.wrap (p1 - (1 : Int))).tdiv (100 : Int)))) fun y2 =>
       bnd (some (IntKind.i64.wrap ((IntKind.i64.wrap (p1 - (1 : Int))).tdiv (400 : Int)))) fun y3 =>
       bnd (some (IntKind.i64.wrap ((IntKind.i64.wrap ((IntKind.i64.wrap (y1 - y2)) + y3)) + (1 : Int)))) fun y4 =>
       ref1_yearStart_j1 (IntKind.i64.wrap ((IntKind.i64.wrap ((365 : Int) * p1)) + y4)))
      (ref1_yearStart_j1 (IntKind.i64.wrap ((365 : Int) * p1)))


theorem c_ref1_yearStart (p1 : Int) : CT Tryz.prog 101 [vi p1] (ref1_yearStart p1) vi :=
  uFn 24 [] Tryz.f101 fun r => (uQ (kS Tryz.f101 [1,1,0] 1) fun K3 hK3 => have hJ1 : ∀ (x1 : Int), ref1_yearStart_j1 x1 = some r → K3.p [(3, vi x1)] [] := fun x1 h => hK3 h (uR .ret xF); (uC (uY 11 vi fun y1 => (uY 14 vi fun y2 => (uY 18 vi fun y3 => (uY 20 vi fun y4 => (uJ (hJ1 (IntKind.i64.wrap ((IntKind.i64.wrap ((365 : Int) * p1)) + y4)))))))) (uJ (hJ1 (IntKind.i64.wrap ((365 : Int) * p1))))))

def ref1_Days_j1 (p3 : Int) (x3 : Int) : Option Int :=
    some (IntKind.i64.wrap ((IntKind.i64.wrap (x3 + p3)) - (1 : Int)))

def ref1_Days_l1 (p1 : Int) (p2 : Int) (p3 : Int) : Nat → Int → Int → Option Int
  | 0, _, _ => none
  | k1 + 1, x1, x2 =>
    ift (decide (x2 < p2))
      (bnd (ref1_MonthDays p1 x2) fun r2 =>
       (ref1_Days_l1 p1 p2 p3 k1) (IntKind.i64.wrap (x1 + r2)) (IntKind.i64.wrap (x2 + (1 : Int))))
      (ref1_Days_j1 p3 x1)

def ref1_Days (p1 : Int) (p2 : Int) (p3 : Int) : Option Int :=
    bnd (ref1_yearStart p1) fun r1 =>
    ref1_Days_l1 p1 p2 p3 BIG r1 (1 : Int)


theorem c_ref1_Days (p1 : Int) (p2 : Int) (p3 : Int) : CT Tryz.prog 128 [vi p1, vi p2, vi p3] (ref1_Days p1 p2 p3) vi :=
  uFn 25 [] Tryz.f128 fun r => (uP (c_ref1_yearStart _) fun r1 _ => (uQ (kS Tryz.f128 [1,1,0] 1) fun K4 hK4 => have hJ1 : ∀ (x3 : Int), ref1_Days_j1 p3 x3 = some r → K4.p [(2, vi p3), (7, vi x3)] [] := fun x3 h => hK4 h (uR .ret xF); (uO (cd Tryz.f128 [1,1,0,1,0,0]) (kS Tryz.f128 [1,1,0,1,0] 1) fun R1 b1 => have hL1 : ∀ (k1 : Nat) (x1 : Int) (x2 : Int), ref1_Days_l1 p1 p2 p3 k1 x1 x2 = some r → (R1 k1).p [(0, vi p1), (1, vi p2), (2, vi p3), (7, vi x1), (8, vi x2)] [] := by intro k1; induction k1 with | zero => intro x1 x2 h; exact uE0 (ref1_Days_l1.eq_1 ..) h | succ k1 ih1 => intro x1 x2 h; exact b1 h (uU (ref1_Days_l1.eq_2 ..) (uC (uP (c_ref1_MonthDays _ _) fun r2 _ => (uJ (ih1 (IntKind.i64.wrap (x1 + r2)) (IntKind.i64.wrap (x2 + (1 : Int)))))) (uR (.exit 0) (xM (uJ (hJ1 x1))))))
 uE (hL1 BIG r1 (1 : Int)))))

def ref1_seconds (p1 : GCivil) : Option Int :=
    bnd (ref1_Days p1.year p1.month p1.day) fun r1 =>
    bnd (some (IntKind.i64.wrap ((IntKind.i64.wrap ((86400 : Int) * r1)) + (IntKind.i64.wrap ((3600 : Int) * p1.hour))))) fun y1 =>
    bnd (some (IntKind.i64.wrap ((IntKind.i64.wrap (y1 + (IntKind.i64.wrap ((60 : Int) * p1.minute)))) + p1.second))) fun y2 =>
    some y2


theorem c_ref1_seconds (p1 : GCivil) : CT Tryz.prog 90 [.ag [ci p1.year, ci p1.month, ci p1.day, ci p1.hour, ci p1.minute, ci p1.second]] (ref1_seconds p1) vi :=
  uFn 22 [] Tryz.f90 fun r => (uDr 18 (uP (c_ref1_Days _ _ _) fun r1 _ => (uY 14 vi fun y1 => (uY 21 vi fun y2 => (uR .ret xF)))))

def ref1_begin_j2 (p2 : ByteArray) (r1 : ByteArray) (x2 : Int) : Option (GValue × ByteArray × Bool) :=
    grd (0 ≤ (r1.size : Int) ∧ (r1.size : Int) ≤ (p2.size : Int) ∧ (p2.size : Int) ≤ (p2.size : Int)) <|
    some ((GValue.mk (1 : Int) x2 (0 : Int) ByteArray.empty []), (p2.extract (r1.size : Int).toNat (p2.size : Int).toNat), true)

def ref1_begin_j3 (rec1 : ByteArray → Int → Option (GValue × ByteArray × Bool)) (x4 : Int) (x5 : ByteArray) : Option (GValue × ByteArray × Bool) :=
    rec1 x5 (IntKind.i64.wrap (x4 + (1 : Int)))

def ref1_begin_j6 (p1 : GType) (p2 : ByteArray) (r4 : ByteArray) (x9 : ByteArray) : Option (GValue × ByteArray × Bool) :=
    bnd (ref1_signed x9) fun r5 =>
    grd (0 ≤ (r4.size : Int) ∧ (r4.size : Int) ≤ (p2.size : Int) ∧ (p2.size : Int) ≤ (p2.size : Int)) <|
    some ((GValue.mk (3 : Int) r5.1 p1.scale ByteArray.empty []), (p2.extract (r4.size : Int).toNat (p2.size : Int).toNat), r5.2)

def ref1_begin_j5 (rec2 : ByteArray → Option (GValue × ByteArray × Bool)) (p1 : GType) (p2 : ByteArray) (r4 : ByteArray) (x7 : ByteArray) (x8 : Bool) : Option (GValue × ByteArray × Bool) :=
    ift x8
      (grd (0 ≤ (0 : Int) ∧ (0 : Int) < (x7.size : Int)) <|
       ift (((x7.data.toList.getD (0 : Int).toNat 0).toNat : Int) == (45 : Int))
         (grd (0 ≤ (2 : Int) ∧ (2 : Int) ≤ (x7.size : Int) ∧ (x7.size : Int) ≤ (x7.size : Int)) <|
          grd ((ByteArray.mk #[45]).size + (x7.extract (2 : Int).toNat (x7.size : Int).toNat).size ≤ 4611686018427387904) <|
          bnd (some ((ByteArray.mk #[45]) ++ (x7.extract (2 : Int).toNat (x7.size : Int).toNat))) fun y3 =>
          rec2 y3)
         (grd (0 ≤ (1 : Int) ∧ (1 : Int) ≤ (x7.size : Int) ∧ (x7.size : Int) ≤ (x7.size : Int)) <|
          rec2 (x7.extract (1 : Int).toNat (x7.size : Int).toNat)))
      (ref1_begin_j6 p1 p2 r4 x7)

def ref1_begin_l2 (p1 : GType) (p2 : ByteArray) (r4 : ByteArray) : Nat → ByteArray → Option (GValue × ByteArray × Bool)
  | 0, _ => none
  | k2 + 1, x7 =>
    ift (decide ((18 : Int) < (x7.size : Int)))
      (grd (0 ≤ (0 : Int) ∧ (0 : Int) < (x7.size : Int)) <|
       ift (((x7.data.toList.getD (0 : Int).toNat 0).toNat : Int) == (48 : Int))
         (ref1_begin_j5 (ref1_begin_l2 p1 p2 r4 k2) p1 p2 r4 x7 true)
         (grd (0 ≤ (0 : Int) ∧ (0 : Int) < (x7.size : Int)) <|
          ift (((x7.data.toList.getD (0 : Int).toNat 0).toNat : Int) == (45 : Int))
            (grd (0 ≤ (1 : Int) ∧ (1 : Int) < (x7.size : Int)) <|
             ref1_begin_j5 (ref1_begin_l2 p1 p2 r4 k2) p1 p2 r4 x7 (((x7.data.toList.getD (1 : Int).toNat 0).toNat : Int) == (48 : Int)))
            (ref1_begin_j5 (ref1_begin_l2 p1 p2 r4 k2) p1 p2 r4 x7 false)))
      (ref1_begin_j5 (ref1_begin_l2 p1 p2 r4 k2) p1 p2 r4 x7 false)

def ref1_begin_j4 (p1 : GType) (p2 : ByteArray) (r4 : ByteArray) (x6 : ByteArray) : Option (GValue × ByteArray × Bool) :=
    ref1_begin_l2 p1 p2 r4 BIG x6

def ref1_begin_l1 (p1 : GType) (p2 : ByteArray) (r4 : ByteArray) : Nat → ByteArray → Int → Option (GValue × ByteArray × Bool)
  | 0, _, _ => none
  | k1 + 1, x3, x4 =>
    ift (decide (x4 < (r4.size : Int)))
      (grd (0 ≤ x4 ∧ x4 < (r4.size : Int)) <|
       ift (((r4.data.toList.getD x4.toNat 0).toNat : Int) != (46 : Int))
         (grd (0 ≤ x4 ∧ x4 ≤ (IntKind.i64.wrap (x4 + (1 : Int))) ∧ (IntKind.i64.wrap (x4 + (1 : Int))) ≤ (r4.size : Int)) <|
          grd (x3.size + (r4.extract x4.toNat (IntKind.i64.wrap (x4 + (1 : Int))).toNat).size ≤ 4611686018427387904) <|
          bnd (some (x3 ++ (r4.extract x4.toNat (IntKind.i64.wrap (x4 + (1 : Int))).toNat))) fun y2 =>
          ref1_begin_j3 (ref1_begin_l1 p1 p2 r4 k1) x4 y2)
         (ref1_begin_j3 (ref1_begin_l1 p1 p2 r4 k1) x4 x3))
      (ref1_begin_j4 p1 p2 r4 x3)

def ref1_begin_j1 (p1 : GType) (p2 : ByteArray) (x1 : Bool) : Option (GValue × ByteArray × Bool) :=
    ift x1
      (grd (0 ≤ (4 : Int) ∧ (4 : Int) ≤ (p2.size : Int) ∧ (p2.size : Int) ≤ (p2.size : Int)) <|
       some ((GValue.mk (0 : Int) (0 : Int) (0 : Int) ByteArray.empty []), (p2.extract (4 : Int).toNat (p2.size : Int).toNat), true))
      (ift (p1.kind == (1 : Int))
         (bnd (ref1_upTo p2 (ByteArray.mk #[116, 114, 117, 101, 102, 97, 108, 115])) fun r1 =>
          ift (r1.toList == (ByteArray.mk #[116, 114, 117, 101]).toList)
            (ref1_begin_j2 p2 r1 (1 : Int))
            (ref1_begin_j2 p2 r1 (0 : Int)))
         (ift (p1.kind == (2 : Int))
            (bnd (ref1_upTo p2 (ByteArray.mk #[45, 48, 49, 50, 51, 52, 53, 54, 55, 56, 57])) fun r2 =>
             bnd (ref1_signed r2) fun r3 =>
             grd (0 ≤ (r2.size : Int) ∧ (r2.size : Int) ≤ (p2.size : Int) ∧ (p2.size : Int) ≤ (p2.size : Int)) <|
             some ((GValue.mk (2 : Int) r3.1 (0 : Int) ByteArray.empty []), (p2.extract (r2.size : Int).toNat (p2.size : Int).toNat), r3.2))
            (ift (p1.kind == (3 : Int))
               (bnd (ref1_upTo p2 (ByteArray.mk #[45, 48, 49, 50, 51, 52, 53, 54, 55, 56, 57, 46])) fun r4 =>
                ref1_begin_l1 p1 p2 r4 BIG (ByteArray.mk #[]) (0 : Int))
               (ift (p1.kind == (4 : Int))
                  (bnd (ref1_quoted p2) fun r6 =>
                   some (r6.1, r6.2.1, r6.2.2))
                  (ift (p1.kind == (5 : Int))
                     (bnd (ref1_upTo p2 (ByteArray.mk #[48, 49, 50, 51, 52, 53, 54, 55, 56, 57, 45, 84, 58, 90])) fun r7 =>
                      ift ((r7.size : Int) != (20 : Int))
                        (some ((GValue.mk (0 : Int) (0 : Int) (0 : Int) ByteArray.empty []), p2, false))
                        (grd (0 ≤ (0 : Int) ∧ (0 : Int) ≤ (4 : Int) ∧ (4 : Int) ≤ (r7.size : Int)) <|
                         bnd (ref1_amount (r7.extract (0 : Int).toNat (4 : Int).toNat)) fun r8 =>
                         ift (!r8.2)
                           (some ((GValue.mk (0 : Int) (0 : Int) (0 : Int) ByteArray.empty []), p2, false))
                           (grd (0 ≤ (5 : Int) ∧ (5 : Int) ≤ (7 : Int) ∧ (7 : Int) ≤ (r7.size : Int)) <|
                            bnd (ref1_amount (r7.extract (5 : Int).toNat (7 : Int).toNat)) fun r9 =>
                            ift (!r9.2)
                              (some ((GValue.mk (0 : Int) (0 : Int) (0 : Int) ByteArray.empty []), p2, false))
                              (grd (0 ≤ (8 : Int) ∧ (8 : Int) ≤ (10 : Int) ∧ (10 : Int) ≤ (r7.size : Int)) <|
                               bnd (ref1_amount (r7.extract (8 : Int).toNat (10 : Int).toNat)) fun r10 =>
                               ift (!r10.2)
                                 (some ((GValue.mk (0 : Int) (0 : Int) (0 : Int) ByteArray.empty []), p2, false))
                                 (grd (0 ≤ (11 : Int) ∧ (11 : Int) ≤ (13 : Int) ∧ (13 : Int) ≤ (r7.size : Int)) <|
                                  bnd (ref1_amount (r7.extract (11 : Int).toNat (13 : Int).toNat)) fun r11 =>
                                  ift (!r11.2)
                                    (some ((GValue.mk (0 : Int) (0 : Int) (0 : Int) ByteArray.empty []), p2, false))
                                    (grd (0 ≤ (14 : Int) ∧ (14 : Int) ≤ (16 : Int) ∧ (16 : Int) ≤ (r7.size : Int)) <|
                                     bnd (ref1_amount (r7.extract (14 : Int).toNat (16 : Int).toNat)) fun r12 =>
                                     ift (!r12.2)
                                       (some ((GValue.mk (0 : Int) (0 : Int) (0 : Int) ByteArray.empty []), p2, false))
                                       (grd (0 ≤ (17 : Int) ∧ (17 : Int) ≤ (19 : Int) ∧ (19 : Int) ≤ (r7.size : Int)) <|
                                        bnd (ref1_amount (r7.extract (17 : Int).toNat (19 : Int).toNat)) fun r13 =>
                                        ift (!r13.2)
                                          (some ((GValue.mk (0 : Int) (0 : Int) (0 : Int) ByteArray.empty []), p2, false))
                                          (bnd (ref1_isCivil (GCivil.mk r8.1 r9.1 r10.1 r11.1 r12.1 r13.1)) fun r14 =>
                                           ift (!r14)
                                             (some ((GValue.mk (0 : Int) (0 : Int) (0 : Int) ByteArray.empty []), p2, false))
                                             (bnd (ref1_seconds (GCivil.mk r8.1 r9.1 r10.1 r11.1 r12.1 r13.1)) fun r15 =>
                                              grd (0 ≤ (20 : Int) ∧ (20 : Int) ≤ (p2.size : Int) ∧ (p2.size : Int) ≤ (p2.size : Int)) <|
                                              some ((GValue.mk (5 : Int) r15 (0 : Int) ByteArray.empty []), (p2.extract (20 : Int).toNat (p2.size : Int).toNat), true))))))))))
                     (some ((GValue.mk (0 : Int) (0 : Int) (0 : Int) ByteArray.empty []), p2, false)))))))

def ref1_begin (p1 : GType) (p2 : ByteArray) : Option (GValue × ByteArray × Bool) :=
    ift (decide ((4 : Int) ≤ (p2.size : Int)))
      (grd (0 ≤ (0 : Int) ∧ (0 : Int) ≤ (4 : Int) ∧ (4 : Int) ≤ (p2.size : Int)) <|
       bnd (some ((p2.extract (0 : Int).toNat (4 : Int).toNat).toList == (ByteArray.mk #[110, 117, 108, 108]).toList)) fun y1 =>
       ref1_begin_j1 p1 p2 y1)
      (ref1_begin_j1 p1 p2 false)

abbrev qa660 (p1 : GType) : List PV := [pi p1.kind, pi p1.scale, .ro (eField.els p1.fields)]
abbrev qa661 : List CV := [ci (0 : Int), ci (0 : Int), ci (0 : Int), cst ByteArray.empty, .pv (.s (.slice none 0 0))]
abbrev qa665 : St := [.box qa661, .dead]

theorem c_ref1_begin (p1 : GType) (p2 : ByteArray) : CT Tryz.prog 47 [.ag [ci p1.kind, ci p1.scale, cl eField p1.fields], vs p2] (ref1_begin p1 p2) (fun r => .tp [.ag [ci r.1.kind, ci r.1.n, ci r.1.scale, cst r.1.s, cl eValue r.1.items], vs r.2.1, vb r.2.2]) :=
  uFn 199 [4, 7, 19, 20, 21, 25] Tryz.f47 fun r => (uQ (kS Tryz.f47 [1,1,0,0] 2) fun K4 hK4 => have hJ1 : ∀ (x1 : Bool), ref1_begin_j1 p1 p2 x1 = some r → K4.p [(1, vs p2), (2, .one (.pv (.rp [(qa660 p1)] 0 0))), (4, .one (.pt 0 0 0 0)), (7, .one (.pt 1 0 0 0)), (34, vb x1)] [.box qa661, .box qa661] := fun x1 h => hK4 h (uC (uGr 4 0 [2] (uG (uR .ret xF))) (uC (uP (c_ref1_upTo _ _) fun r1 _ => (uQ (kS Tryz.f47 [1,1,1,0,1,0,1,0,1,1,0] 3) fun K18 hK18 => have hJ2 : ∀ (x2 : Int), ref1_begin_j2 p2 r1 x2 = some r → K18.p [(1, vs p2), (4, .one (.pt 0 0 0 0)), (8, vs r1), (9, vi x2)] qa665 := fun x2 h => hK18 h (uGr 7 0 [2] (uG (uR .ret xF))); (uC (uJ (hJ2 (1 : Int))) (uJ (hJ2 (0 : Int)))))) (uC (uP (c_ref1_upTo _ _) fun r2 _ => (uP (c_ref1_signed _) fun r3 _ => (uGr 9 0 [2] (uG (uR .ret xF))))) (uC (uP (c_ref1_upTo _ _) fun r4 _ => (uQ (kS Tryz.f47 [1,1,1,0,1,0,1,1,1,1,1,0,1,1,0] 3) fun K36 hK36 => have hJ4 : ∀ (x6 : ByteArray), ref1_begin_j4 p1 p2 r4 x6 = some r → K36.p [(1, vs p2), (2, .one (.pv (.rp [(qa660 p1)] 0 0))), (4, .one (.pt 0 0 0 0)), (13, vs r4), (14, vs x6)] qa665 := fun x6 h => hK36 h (uQ (kS Tryz.f47 [1,1,1,0,1,0,1,1,1,1,1,0,1,1,1,0] 3) fun K48 hK48 => have hJ6 : ∀ (x9 : ByteArray), ref1_begin_j6 p1 p2 r4 x9 = some r → K48.p [(1, vs p2), (2, .one (.pv (.rp [(qa660 p1)] 0 0))), (4, .one (.pt 0 0 0 0)), (13, vs r4), (14, vs x9)] qa665 := fun x9 h => hK48 h (uP (c_ref1_signed _) fun r5 _ => (uGr 11 0 [2] (uG (uR .ret xF)))); (uO (cd Tryz.f47 [1,1,1,0,1,0,1,1,1,1,1,0,1,1,1,0,0,0]) (kS Tryz.f47 [1,1,1,0,1,0,1,1,1,1,1,0,1,1,1,0,0] 1) fun R2 b2 => have hL2 : ∀ (k2 : Nat) (x7 : ByteArray), ref1_begin_l2 p1 p2 r4 k2 x7 = some r → (R2 k2).p [(1, vs p2), (2, .one (.pv (.rp [(qa660 p1)] 0 0))), (4, .one (.pt 0 0 0 0)), (13, vs r4), (14, vs x7)] qa665 := by intro k2; induction k2 with | zero => intro x7 h; exact uE0 (ref1_begin_l2.eq_1 ..) h | succ k2 ih2 => intro x7 h; exact b2 h (uU (ref1_begin_l2.eq_2 ..) (uQ (kS Tryz.f47 [1,1,1,0,1,0,1,1,1,1,1,0,1,1,1,0,0,0,0,0] 2) fun K50 hK50 => have hJ5 : ∀ (x8 : Bool), ref1_begin_j5 (ref1_begin_l2 p1 p2 r4 k2) p1 p2 r4 x7 x8 = some r → K50.p [(1, vs p2), (2, .one (.pv (.rp [(qa660 p1)] 0 0))), (4, .one (.pt 0 0 0 0)), (13, vs r4), (14, vs x7), (106, vb x8)] qa665 := fun x8 h => hK50 h (uC (uG (uC (uG (uYg 112 vs fun y3 => (uJ (ih2 y3)))) (uG (uJ (ih2 (x7.extract (1 : Int).toNat (x7.size : Int).toNat)))))) (uR (.exit 3) (xM (uJ (hJ6 x7))))); (uC (uG (uC (uJ (hJ5 true)) (uG (uC (uG (uJ (hJ5 (((x7.data.toList.getD (1 : Int).toNat 0).toNat : Int) == (48 : Int))))) (uJ (hJ5 false)))))) (uJ (hJ5 false)))))
 uE (hL2 BIG x6))); (uO (cd Tryz.f47 [1,1,1,0,1,0,1,1,1,1,1,0,1,1,0,1,0,0]) (kS Tryz.f47 [1,1,1,0,1,0,1,1,1,1,1,0,1,1,0,1,0] 1) fun R1 b1 => have hL1 : ∀ (k1 : Nat) (x3 : ByteArray) (x4 : Int), ref1_begin_l1 p1 p2 r4 k1 x3 x4 = some r → (R1 k1).p [(1, vs p2), (2, .one (.pv (.rp [(qa660 p1)] 0 0))), (4, .one (.pt 0 0 0 0)), (13, vs r4), (14, vs x3), (15, vi x4)] qa665 := by intro k1; induction k1 with | zero => intro x3 x4 h; exact uE0 (ref1_begin_l1.eq_1 ..) h | succ k1 ih1 => intro x3 x4 h; exact b1 h (uU (ref1_begin_l1.eq_2 ..) (uC (uQ (kS Tryz.f47 [1,1,1,0,1,0,1,1,1,1,1,0,1,1,0,1,0,0,1,0] 1) fun K41 hK41 => have hJ3 : ∀ (x5 : ByteArray), ref1_begin_j3 (ref1_begin_l1 p1 p2 r4 k1) x4 x5 = some r → K41.p [(1, vs p2), (2, .one (.pv (.rp [(qa660 p1)] 0 0))), (4, .one (.pt 0 0 0 0)), (13, vs r4), (14, vs x5), (15, vi x4)] qa665 := fun x5 h => hK41 h (uJ (ih1 x5 (IntKind.i64.wrap (x4 + (1 : Int))))); (uG (uC (uG (uYg 88 vs fun y2 => (uJ (hJ3 y2)))) (uJ (hJ3 x3))))) (uR (.exit 1) (xM (uJ (hJ4 x3))))))
 uE (hL1 BIG (ByteArray.mk #[]) (0 : Int))))) (uC (uP (c_ref1_quoted _) fun r6 _ => (uR .ret xF)) (uC (uP (c_ref1_upTo _ _) fun r7 _ => (uC (uR .ret xF) (uOk 6 (uDr 17 (uG (uP (c_ref1_amount _) fun r8 _ => (uC (uR .ret xF) (uDr 17 (uG (uP (c_ref1_amount _) fun r9 _ => (uC (uR .ret xF) (uDr 17 (uG (uP (c_ref1_amount _) fun r10 _ => (uC (uR .ret xF) (uDr 17 (uG (uP (c_ref1_amount _) fun r11 _ => (uC (uR .ret xF) (uDr 17 (uG (uP (c_ref1_amount _) fun r12 _ => (uC (uR .ret xF) (uDr 17 (uG (uP (c_ref1_amount _) fun r13 _ => (uC (uR .ret xF) (uP (c_ref1_isCivil _) fun r14 _ => (uC (uR .ret xF) (uGr 6 0 [6] (uP (c_ref1_seconds _) fun r15 _ => (uG (uR .ret xF))))))))))))))))))))))))))))))))) (uR .ret xF))))))); (uC (uG (uY 33 vb fun y1 => (uJ (hJ1 y1)))) (uJ (hJ1 false))))

def ref1_read_j4 (rec1 : List GValue → ByteArray → Int → Option (GValue × ByteArray × Bool)) (q_ref1_read : GType → ByteArray → Option (GValue × ByteArray × Bool)) (p1 : GType) (p2 : ByteArray) (l1 : List GValue) (x3 : Int) (x5 : ByteArray) (x6 : Int) : Option (GValue × ByteArray × Bool) :=
    ift (decide ((p1.fields.length : Int) ≤ x6))
      (some ((GValue.mk p1.kind (0 : Int) (0 : Int) ByteArray.empty l1), p2, false))
      (bnd (at? p1.fields x6) fun e1 =>
       bnd (q_ref1_read e1.type x5) fun r3 =>
       ift (!r3.2.2)
         (some ((GValue.mk p1.kind (0 : Int) (0 : Int) ByteArray.empty l1), p2, false))
         (grd (l1.length + 1 ≤ 4294967296) <|
          rec1 (l1 ++ [r3.1]) r3.2.1 (IntKind.i64.wrap (x3 + (1 : Int)))))

def ref1_read_j3 (rec1 : List GValue → ByteArray → Int → Option (GValue × ByteArray × Bool)) (q_ref1_read : GType → ByteArray → Option (GValue × ByteArray × Bool)) (p1 : GType) (p2 : ByteArray) (l1 : List GValue) (x3 : Int) (x5 : ByteArray) : Option (GValue × ByteArray × Bool) :=
    ift (p1.kind == (7 : Int))
      (ref1_read_j4 rec1 q_ref1_read p1 p2 l1 x3 x5 x3)
      (ref1_read_j4 rec1 q_ref1_read p1 p2 l1 x3 x5 (0 : Int))

def ref1_read_j2 (rec1 : List GValue → ByteArray → Int → Option (GValue × ByteArray × Bool)) (q_ref1_read : GType → ByteArray → Option (GValue × ByteArray × Bool)) (p1 : GType) (p2 : ByteArray) (l1 : List GValue) (x2 : ByteArray) (x3 : Int) (x4 : Bool) : Option (GValue × ByteArray × Bool) :=
    ift x4
      (grd (0 ≤ (1 : Int) ∧ (1 : Int) ≤ (x2.size : Int) ∧ (x2.size : Int) ≤ (x2.size : Int)) <|
       some ((GValue.mk p1.kind (0 : Int) (0 : Int) ByteArray.empty l1), (x2.extract (1 : Int).toNat (x2.size : Int).toNat), true))
      (ift (decide ((0 : Int) < x3))
         (ift (decide ((x2.size : Int) < (2 : Int)))
            (some ((GValue.mk p1.kind (0 : Int) (0 : Int) ByteArray.empty l1), p2, false))
            (grd (0 ≤ (2 : Int) ∧ (2 : Int) ≤ (x2.size : Int) ∧ (x2.size : Int) ≤ (x2.size : Int)) <|
             ref1_read_j3 rec1 q_ref1_read p1 p2 l1 x3 (x2.extract (2 : Int).toNat (x2.size : Int).toNat)))
         (ref1_read_j3 rec1 q_ref1_read p1 p2 l1 x3 x2))

def ref1_read_j5 (p1 : GType) (p2 : ByteArray) (l2 : List GValue) : Option (GValue × ByteArray × Bool) :=
    some ((GValue.mk p1.kind (0 : Int) (0 : Int) ByteArray.empty l2), p2, false)

def ref1_read_l1 (q_ref1_read : GType → ByteArray → Option (GValue × ByteArray × Bool)) (p1 : GType) (p2 : ByteArray) : Nat → List GValue → ByteArray → Int → Option (GValue × ByteArray × Bool)
  | 0, _, _, _ => none
  | k1 + 1, l1, x2, x3 =>
    ift (decide (x3 ≤ (256 : Int)))
      (ift (decide ((0 : Int) < (x2.size : Int)))
         (grd (0 ≤ (0 : Int) ∧ (0 : Int) < (x2.size : Int)) <|
          ift (((x2.data.toList.getD (0 : Int).toNat 0).toNat : Int) == (93 : Int))
            (ref1_read_j2 (ref1_read_l1 q_ref1_read p1 p2 k1) q_ref1_read p1 p2 l1 x2 x3 true)
            (grd (0 ≤ (0 : Int) ∧ (0 : Int) < (x2.size : Int)) <|
             ref1_read_j2 (ref1_read_l1 q_ref1_read p1 p2 k1) q_ref1_read p1 p2 l1 x2 x3 (((x2.data.toList.getD (0 : Int).toNat 0).toNat : Int) == (41 : Int))))
         (ref1_read_j2 (ref1_read_l1 q_ref1_read p1 p2 k1) q_ref1_read p1 p2 l1 x2 x3 false))
      (ref1_read_j5 p1 p2 l1)

def ref1_read_j1 (q_ref1_read : GType → ByteArray → Option (GValue × ByteArray × Bool)) (p1 : GType) (p2 : ByteArray) (x1 : Bool) : Option (GValue × ByteArray × Bool) :=
    ift x1
      (grd (0 ≤ (4 : Int) ∧ (4 : Int) ≤ (p2.size : Int) ∧ (p2.size : Int) ≤ (p2.size : Int)) <|
       some ((GValue.mk (0 : Int) (0 : Int) (0 : Int) ByteArray.empty []), (p2.extract (4 : Int).toNat (p2.size : Int).toNat), true))
      (ift (decide ((p2.size : Int) < (2 : Int)))
         (some ((GValue.mk (0 : Int) (0 : Int) (0 : Int) ByteArray.empty []), p2, false))
         (grd (0 ≤ (1 : Int) ∧ (1 : Int) ≤ (p2.size : Int) ∧ (p2.size : Int) ≤ (p2.size : Int)) <|
          ref1_read_l1 q_ref1_read p1 p2 BIG [] (p2.extract (1 : Int).toNat (p2.size : Int).toNat) (0 : Int)))

def ref1_read : Nat → GType → ByteArray → Option (GValue × ByteArray × Bool)
  | 0, _, _ => none
  | k0 + 1, p1, p2 =>
    bnd (ref1_Leaf p1.kind) fun r1 =>
    ift r1
      (bnd (ref1_begin p1 p2) fun r2 =>
       some (r2.1, r2.2.1, r2.2.2))
      (ift (decide ((4 : Int) ≤ (p2.size : Int)))
         (grd (0 ≤ (0 : Int) ∧ (0 : Int) ≤ (4 : Int) ∧ (4 : Int) ≤ (p2.size : Int)) <|
          bnd (some ((p2.extract (0 : Int).toNat (4 : Int).toNat).toList == (ByteArray.mk #[110, 117, 108, 108]).toList)) fun y1 =>
          ref1_read_j1 (ref1_read k0) p1 p2 y1)
         (ref1_read_j1 (ref1_read k0) p1 p2 false))

abbrev qa674 (p1 : GType) : List PV := [pi p1.kind, pi p1.scale, .ro (eField.els p1.fields)]
abbrev qa675 : List CV := [ci (0 : Int), ci (0 : Int), ci (0 : Int), cst ByteArray.empty, .pv (.s (.slice none 0 0))]
abbrev qa678 (p1 : GType) (l1 : List GValue) : List CV := [ci p1.kind, ci (0 : Int), ci (0 : Int), cst ByteArray.empty, .sl 2 5 0 l1.length]
abbrev qa683 (p1 : GType) (l1 : List GValue) : St := [.box qa675, .box (qa678 p1 l1), .arr 5 (eValue.els l1)]

theorem c_ref1_read : ∀ (k0 : Nat) (p1 : GType) (p2 : ByteArray), CT Tryz.prog 23 [.ag [ci p1.kind, ci p1.scale, cl eField p1.fields], vs p2] (ref1_read k0 p1 p2) (fun r => .tp [.ag [ci r.1.kind, ci r.1.n, ci r.1.scale, cst r.1.s, cl eValue r.1.items], vs r.2.1, vb r.2.2])
  | 0, _, _ => uF0 (ref1_read.eq_1 ..)
  | k0 + 1, p1, p2 => uFn 109 [4, 7, 11] Tryz.f23 fun r => (uU (ref1_read.eq_2 ..) (uP (c_ref1_Leaf _) fun r1 _ => (uC (uP (c_ref1_begin _ _) fun r2 _ => (uR .ret xF)) (uQ (kS Tryz.f23 [1,1,0,0] 2) fun K9 hK9 => have hJ1 : ∀ (x1 : Bool), ref1_read_j1 (ref1_read k0) p1 p2 x1 = some r → K9.p [(1, vs p2), (2, .one (.pv (.rp [(qa674 p1)] 0 0))), (4, .one (.pt 0 0 0 0)), (30, vb x1)] [.box qa675] := fun x1 h => hK9 h (uC (uGr 4 0 [1] (uG (uR .ret xF))) (uC (uR .ret xF) (uG (uQ (kS Tryz.f23 [1,1,1,1,1,1,0] 1) fun K23 hK23 => have hJ5 : ∀ (l2 : List GValue), ref1_read_j5 p1 p2 l2 = some r → K23.p [(1, vs p2), (4, .one (.pt 0 0 0 0)), (7, .one (.pt 1 0 0 0))] [.box qa675, .box [ci p1.kind, ci (0 : Int), ci (0 : Int), cst ByteArray.empty, .sl 2 5 0 l2.length], .arr 5 (eValue.els l2)] := fun l2 h => hK23 h (uKl eValue l2 2 [] (uR .ret xF)); (uCv (.lb 1 4 5) (uO (cd Tryz.f23 [1,1,1,1,1,1,0,1,0,0]) (kS Tryz.f23 [1,1,1,1,1,1,0,1,0] 1) fun R1 b1 => have hL1 : ∀ (k1 : Nat) (l1 : List GValue) (x2 : ByteArray) (x3 : Int), ref1_read_l1 (ref1_read k0) p1 p2 k1 l1 x2 x3 = some r → (R1 k1).p [(1, vs p2), (2, .one (.pv (.rp [(qa674 p1)] 0 0))), (4, .one (.pt 0 0 0 0)), (7, .one (.pt 1 0 0 0)), (8, vs x2), (9, vi x3)] (qa683 p1 l1) := by intro k1; induction k1 with | zero => intro l1 x2 x3 h; exact uE0 (ref1_read_l1.eq_1 ..) h | succ k1 ih1 => intro l1 x2 x3 h; exact b1 h (uU (ref1_read_l1.eq_2 ..) (uC (uQ (kS Tryz.f23 [1,1,1,1,1,1,0,1,0,0,1,0,0,0,0] 4) fun K30 hK30 => have hJ2 : ∀ (x4 : Bool), ref1_read_j2 (ref1_read_l1 (ref1_read k0) p1 p2 k1) (ref1_read k0) p1 p2 l1 x2 x3 x4 = some r → K30.p [(1, vs p2), (2, .one (.pv (.rp [(qa674 p1)] 0 0))), (4, .one (.pt 0 0 0 0)), (7, .one (.pt 1 0 0 0)), (8, vs x2), (9, vi x3), (60, vb x4)] (qa683 p1 l1) := fun x4 h => hK30 h (uC (uGr 4 0 [3] (uG (uKl eValue l1 2 [] (uR .ret (xN (xN xF)))))) (uQ (kS Tryz.f23 [1,1,1,1,1,1,0,1,0,0,1,0,0,1,0] 3) fun K38 hK38 => have hJ3 : ∀ (x5 : ByteArray), ref1_read_j3 (ref1_read_l1 (ref1_read k0) p1 p2 k1) (ref1_read k0) p1 p2 l1 x3 x5 = some r → K38.p [(1, vs p2), (2, .one (.pv (.rp [(qa674 p1)] 0 0))), (4, .one (.pt 0 0 0 0)), (7, .one (.pt 1 0 0 0)), (8, vs x5), (9, vi x3)] (qa683 p1 l1) := fun x5 h => hK38 h (uQ (kS Tryz.f23 [1,1,1,1,1,1,0,1,0,0,1,0,0,1,1,1,0] 3) fun K47 hK47 => have hJ4 : ∀ (x6 : Int), ref1_read_j4 (ref1_read_l1 (ref1_read k0) p1 p2 k1) (ref1_read k0) p1 p2 l1 x3 x5 x6 = some r → K47.p [(1, vs p2), (2, .one (.pv (.rp [(qa674 p1)] 0 0))), (4, .one (.pt 0 0 0 0)), (7, .one (.pt 1 0 0 0)), (8, vs x5), (9, vi x3), (10, vi x6)] (qa683 p1 l1) := fun x6 h => hK47 h (uN eField p1.fields (uC (uKl eValue l1 2 [] (uR .ret (xN (xN xF)))) (uL eField fun e1 a55 => (uP (c_ref1_read k0 _ _) fun r3 _ => (uC (uKl eValue l1 2 [] (uR .ret (xN (xN xF)))) (uW 103 eValue [r3.1] (uCv (.stl 1 4) (uAp eValue 2 [r3.1] (uJ (ih1 (l1 ++ [r3.1]) r3.2.1 (IntKind.i64.wrap (x3 + (1 : Int))))))))))))); (uC (uJ (hJ4 x3)) (uJ (hJ4 (0 : Int))))); (uC (uC (uKl eValue l1 2 [] (uR .ret (xN (xN (xN xF))))) (uG (uJ (hJ3 (x2.extract (2 : Int).toNat (x2.size : Int).toNat))))) (uJ (hJ3 x2))))); (uC (uG (uC (uJ (hJ2 true)) (uG (uJ (hJ2 (((x2.data.toList.getD (0 : Int).toNat 0).toNat : Int) == (41 : Int))))))) (uJ (hJ2 false)))) (uR (.exit 0) (xM (uJ (hJ5 l1))))))
 uE (hL1 BIG [] (p2.extract (1 : Int).toNat (p2.size : Int).toNat) (0 : Int)))))))); (uC (uG (uY 29 vb fun y1 => (uJ (hJ1 y1)))) (uJ (hJ1 false)))))))

def ref1_characters_j2 (rec1 : Int → Option Bool) (x2 : Int) (x3 : Bool) : Option Bool :=
    ift x3
      (some false)
      (rec1 (IntKind.i64.wrap (x2 + (1 : Int))))

def ref1_characters_j3 : Option Bool :=
    some true

def ref1_characters_l1 (p1 : ByteArray) : Nat → Int → Option Bool
  | 0, _ => none
  | k1 + 1, x2 =>
    ift (decide (x2 < (p1.size : Int)))
      (grd (0 ≤ x2 ∧ x2 < (p1.size : Int)) <|
       bnd (some (decide (((p1.data.toList.getD x2.toNat 0).toNat : Int) < (32 : Int)))) fun y1 =>
       ift y1
         (ref1_characters_j2 (ref1_characters_l1 p1 k1) x2 true)
         (grd (0 ≤ x2 ∧ x2 < (p1.size : Int)) <|
          ref1_characters_j2 (ref1_characters_l1 p1 k1) x2 (((p1.data.toList.getD x2.toNat 0).toNat : Int) == (127 : Int))))
      (ref1_characters_j3)

def ref1_characters_j1 (p1 : ByteArray) (x1 : Bool) : Option Bool :=
    ift x1
      (some false)
      (ref1_characters_l1 p1 BIG (0 : Int))

def ref1_characters (p1 : ByteArray) : Option Bool :=
    bnd (utf8_ValidString p1) fun r1 =>
    ift (!r1)
      (ref1_characters_j1 p1 true)
      (ref1_characters_j1 p1 (decide ((256 : Int) < (p1.size : Int))))


theorem c_ref1_characters (p1 : ByteArray) : CT Tryz.prog 138 [vs p1] (ref1_characters p1) vb :=
  uFn 28 [] Tryz.f138 fun r => (uQ (kS Tryz.f138 [1,0,0] 2) fun K3 hK3 => have hJ1 : ∀ (x1 : Bool), ref1_characters_j1 p1 x1 = some r → K3.p [(0, vs p1), (11, vb x1)] [] := fun x1 h => hK3 h (uC (uR .ret xF) (uQ (kS Tryz.f138 [1,1,0] 1) fun K8 hK8 => have hJ3 : ∀ (_ : Unit), ref1_characters_j3 = some r → K8.p [] [] := fun _ h => hK8 h (uR .ret xF); (uO (cd Tryz.f138 [1,1,0,1,0,0]) (kS Tryz.f138 [1,1,0,1,0] 1) fun R1 b1 => have hL1 : ∀ (k1 : Nat) (x2 : Int), ref1_characters_l1 p1 k1 x2 = some r → (R1 k1).p [(0, vs p1), (3, vi x2)] [] := by intro k1; induction k1 with | zero => intro x2 h; exact uE0 (ref1_characters_l1.eq_1 ..) h | succ k1 ih1 => intro x2 h; exact b1 h (uU (ref1_characters_l1.eq_2 ..) (uC (uQ (kS Tryz.f138 [1,1,0,1,0,0,1,0,0,0] 3) fun K14 hK14 => have hJ2 : ∀ (x3 : Bool), ref1_characters_j2 (ref1_characters_l1 p1 k1) x2 x3 = some r → K14.p [(0, vs p1), (3, vi x2), (27, vb x3)] [] := fun x3 h => hK14 h (uC (uR .ret (xN (xN xF))) (uJ (ih1 (IntKind.i64.wrap (x2 + (1 : Int)))))); (uG (uY 21 vb fun y1 => (uC (uJ (hJ2 true)) (uG (uJ (hJ2 (((p1.data.toList.getD x2.toNat 0).toNat : Int) == (127 : Int))))))))) (uR (.exit 0) (xM (uJ (hJ3 ()))))))
 uE (hL1 BIG (0 : Int))))); (uP (c_utf8_ValidString _) fun r1 _ => (uC (uJ (hJ1 true)) (uJ (hJ1 (decide ((256 : Int) < (p1.size : Int))))))))

def ref1_alone_j2 (x2 : Bool) : Option Bool :=
    some x2

def ref1_alone_j3 (x3 : Bool) : Option Bool :=
    some x3

def ref1_alone_j4 (x4 : Bool) : Option Bool :=
    some x4

def ref1_alone_j5 (x5 : Bool) : Option Bool :=
    some x5

def ref1_alone_j6 (x6 : Bool) : Option Bool :=
    some x6

def ref1_alone_j7 (x7 : Bool) : Option Bool :=
    some x7

def ref1_alone_j8 (x8 : Bool) : Option Bool :=
    some x8

def ref1_alone_j9 (x9 : Bool) : Option Bool :=
    some x9

def ref1_alone_j1 (p1 : GValue) (x1 : Bool) : Option Bool :=
    ift (p1.kind == (0 : Int))
      (ift x1
         (ift (p1.n == (0 : Int))
            (ref1_alone_j2 (p1.scale == (0 : Int)))
            (ref1_alone_j2 false))
         (ref1_alone_j2 false))
      (ift (p1.kind == (1 : Int))
         (ift x1
            (bnd (ref1_within p1.n (0 : Int) (1 : Int)) fun r1 =>
             ift r1
               (ref1_alone_j3 (p1.scale == (0 : Int)))
               (ref1_alone_j3 false))
            (ref1_alone_j3 false))
         (ift (p1.kind == (2 : Int))
            (ift x1
               (bnd (ref1_within p1.n (-999999999999999999 : Int) (999999999999999999 : Int)) fun r2 =>
                ift r2
                  (ref1_alone_j4 (p1.scale == (0 : Int)))
                  (ref1_alone_j4 false))
               (ref1_alone_j4 false))
            (ift (p1.kind == (3 : Int))
               (ift x1
                  (bnd (ref1_within p1.n (-999999999999999999 : Int) (999999999999999999 : Int)) fun r3 =>
                   ift r3
                     (bnd (ref1_within p1.scale (0 : Int) (12 : Int)) fun r4 =>
                      ref1_alone_j5 r4)
                     (ref1_alone_j5 false))
                  (ref1_alone_j5 false))
               (ift (p1.kind == (4 : Int))
                  (ift ((p1.items.length : Int) == (0 : Int))
                     (ift (p1.n == (0 : Int))
                        (ift (p1.scale == (0 : Int))
                           (bnd (ref1_characters p1.s) fun r5 =>
                            ref1_alone_j6 r5)
                           (ref1_alone_j6 false))
                        (ref1_alone_j6 false))
                     (ref1_alone_j6 false))
                  (ift (p1.kind == (5 : Int))
                     (ift x1
                        (bnd (ref1_within p1.n (-62135596800 : Int) (253402300799 : Int)) fun r6 =>
                         ift r6
                           (ref1_alone_j7 (p1.scale == (0 : Int)))
                           (ref1_alone_j7 false))
                        (ref1_alone_j7 false))
                     (ift (p1.kind == (6 : Int))
                        (ift (p1.s.toList == (ByteArray.mk #[]).toList)
                           (ift (p1.n == (0 : Int))
                              (ift (p1.scale == (0 : Int))
                                 (ref1_alone_j8 (decide ((p1.items.length : Int) ≤ (64 : Int))))
                                 (ref1_alone_j8 false))
                              (ref1_alone_j8 false))
                           (ref1_alone_j8 false))
                        (ift (p1.kind == (7 : Int))
                           (ift (p1.s.toList == (ByteArray.mk #[]).toList)
                              (ift (p1.n == (0 : Int))
                                 (ift (p1.scale == (0 : Int))
                                    (ref1_alone_j9 (decide ((0 : Int) < (p1.items.length : Int))))
                                    (ref1_alone_j9 false))
                                 (ref1_alone_j9 false))
                              (ref1_alone_j9 false))
                           (some false))))))))

def ref1_alone (p1 : GValue) : Option Bool :=
    ift (p1.s.toList == (ByteArray.mk #[]).toList)
      (ref1_alone_j1 p1 ((p1.items.length : Int) == (0 : Int)))
      (ref1_alone_j1 p1 false)


theorem c_ref1_alone (p1 : GValue) : CT Tryz.prog 99 [.ag [ci p1.kind, ci p1.n, ci p1.scale, cst p1.s, cl eValue p1.items]] (ref1_alone p1) vb :=
  uFn 143 [] Tryz.f99 fun r => (uQ (kS Tryz.f99 [1,0] 1) fun K2 hK2 => have hJ1 : ∀ (x1 : Bool), ref1_alone_j1 p1 x1 = some r → K2.p [(1, .one (.pv (.rp [[pi p1.kind, pi p1.n, pi p1.scale, .s (.string p1.s), .ro (eValue.els p1.items)]] 0 0))), (3, vb x1)] [] := fun x1 h => hK2 h (uC (uQ (kS Tryz.f99 [1,1,0,1,0,1,0,0] 3) fun K8 hK8 => have hJ2 : ∀ (x2 : Bool), ref1_alone_j2 x2 = some r → K8.p [(2, vb x2)] [] := fun x2 h => hK8 h (uR .ret xF); (uC (uC (uJ (hJ2 (p1.scale == (0 : Int)))) (uJ (hJ2 false))) (uJ (hJ2 false)))) (uC (uQ (kS Tryz.f99 [1,1,0,1,0,1,1,1,0,0] 3) fun K13 hK13 => have hJ3 : ∀ (x3 : Bool), ref1_alone_j3 x3 = some r → K13.p [(2, vb x3)] [] := fun x3 h => hK13 h (uR .ret xF); (uC (uP (c_ref1_within _ _ _) fun r1 _ => (uC (uJ (hJ3 (p1.scale == (0 : Int)))) (uJ (hJ3 false)))) (uJ (hJ3 false)))) (uC (uQ (kS Tryz.f99 [1,1,0,1,0,1,1,1,1,1,0,0] 3) fun K19 hK19 => have hJ4 : ∀ (x4 : Bool), ref1_alone_j4 x4 = some r → K19.p [(2, vb x4)] [] := fun x4 h => hK19 h (uR .ret xF); (uC (uP (c_ref1_within _ _ _) fun r2 _ => (uC (uJ (hJ4 (p1.scale == (0 : Int)))) (uJ (hJ4 false)))) (uJ (hJ4 false)))) (uC (uQ (kS Tryz.f99 [1,1,0,1,0,1,1,1,1,1,1,1,0,0] 3) fun K25 hK25 => have hJ5 : ∀ (x5 : Bool), ref1_alone_j5 x5 = some r → K25.p [(2, vb x5)] [] := fun x5 h => hK25 h (uR .ret xF); (uC (uP (c_ref1_within _ _ _) fun r3 _ => (uC (uP (c_ref1_within _ _ _) fun r4 _ => (uJ (hJ5 r4))) (uJ (hJ5 false)))) (uJ (hJ5 false)))) (uC (uQ (kS Tryz.f99 [1,1,0,1,0,1,1,1,1,1,1,1,1,1,0,0] 3) fun K32 hK32 => have hJ6 : ∀ (x6 : Bool), ref1_alone_j6 x6 = some r → K32.p [(2, vb x6)] [] := fun x6 h => hK32 h (uR .ret xF); (uN eValue p1.items (uC (uC (uC (uP (c_ref1_characters _) fun r5 _ => (uJ (hJ6 r5))) (uJ (hJ6 false))) (uJ (hJ6 false))) (uJ (hJ6 false))))) (uC (uQ (kS Tryz.f99 [1,1,0,1,0,1,1,1,1,1,1,1,1,1,1,1,0,0] 3) fun K39 hK39 => have hJ7 : ∀ (x7 : Bool), ref1_alone_j7 x7 = some r → K39.p [(2, vb x7)] [] := fun x7 h => hK39 h (uR .ret xF); (uC (uP (c_ref1_within _ _ _) fun r6 _ => (uC (uJ (hJ7 (p1.scale == (0 : Int)))) (uJ (hJ7 false)))) (uJ (hJ7 false)))) (uC (uQ (kS Tryz.f99 [1,1,0,1,0,1,1,1,1,1,1,1,1,1,1,1,1,1,0,0] 3) fun K45 hK45 => have hJ8 : ∀ (x8 : Bool), ref1_alone_j8 x8 = some r → K45.p [(2, vb x8)] [] := fun x8 h => hK45 h (uR .ret xF); (uC (uC (uC (uN eValue p1.items (uJ (hJ8 (decide ((p1.items.length : Int) ≤ (64 : Int)))))) (uJ (hJ8 false))) (uJ (hJ8 false))) (uJ (hJ8 false)))) (uC (uQ (kS Tryz.f99 [1,1,0,1,0,1,1,1,1,1,1,1,1,1,1,1,1,1,1,1,0,0] 3) fun K51 hK51 => have hJ9 : ∀ (x9 : Bool), ref1_alone_j9 x9 = some r → K51.p [(2, vb x9)] [] := fun x9 h => hK51 h (uR .ret xF); (uC (uC (uC (uN eValue p1.items (uJ (hJ9 (decide ((0 : Int) < (p1.items.length : Int)))))) (uJ (hJ9 false))) (uJ (hJ9 false))) (uJ (hJ9 false)))) (uR .ret xF))))))))); (uC (uN eValue p1.items (uJ (hJ1 ((p1.items.length : Int) == (0 : Int))))) (uJ (hJ1 false))))

def ref1_sound_j3 (z3 : Int) : Option (Bool × Int) :=
    some (true, z3)

def ref1_sound_l1 (q_ref1_sound : GValue → Int → Int → Option (Bool × Int)) (p1 : GValue) (p2 : Int) : Nat → Int → Int → Option (Bool × Int)
  | 0, _, _ => none
  | k1 + 1, z2, x2 =>
    ift (decide (x2 < (p1.items.length : Int)))
      (bnd (at? p1.items x2) fun e1 =>
       bnd (q_ref1_sound e1 (IntKind.i64.wrap (p2 + (1 : Int))) z2) fun r2 =>
       ift (!r2.1)
         (some (false, r2.2))
         ((ref1_sound_l1 q_ref1_sound p1 p2 k1) r2.2 (IntKind.i64.wrap (x2 + (1 : Int)))))
      (ref1_sound_j3 z2)

def ref1_sound_j2 (q_ref1_sound : GValue → Int → Int → Option (Bool × Int)) (p1 : GValue) (p2 : Int) (z1 : Int) (x1 : Bool) : Option (Bool × Int) :=
    ift x1
      (some (false, z1))
      (ref1_sound_l1 q_ref1_sound p1 p2 BIG z1 (0 : Int))

def ref1_sound_j1 (q_ref1_sound : GValue → Int → Int → Option (Bool × Int)) (p1 : GValue) (p2 : Int) (z1 : Int) : Option (Bool × Int) :=
    ift (decide ((4 : Int) < p2))
      (ref1_sound_j2 q_ref1_sound p1 p2 z1 true)
      (ift (decide ((256 : Int) < z1))
         (ref1_sound_j2 q_ref1_sound p1 p2 z1 true)
         (bnd (ref1_alone p1) fun r1 =>
          ref1_sound_j2 q_ref1_sound p1 p2 z1 (!r1)))

def ref1_sound : Nat → GValue → Int → Int → Option (Bool × Int)
  | 0, _, _, _ => none
  | k0 + 1, p1, p2, p3 =>
    ift (p1.kind != (0 : Int))
      (ref1_sound_j1 (ref1_sound k0) p1 p2 (IntKind.i64.wrap (p3 + (1 : Int))))
      (ref1_sound_j1 (ref1_sound k0) p1 p2 p3)

abbrev qa704 (p1 : GValue) : List PV := [pi p1.kind, pi p1.n, pi p1.scale, .s (.string p1.s), .ro (eValue.els p1.items)]

theorem c_ref1_sound : ∀ (k0 : Nat) (p1 : GValue) (p2 : Int) (p3 : Int), CM Tryz.prog 55 [.ag [ci p1.kind, ci p1.n, ci p1.scale, cst p1.s, cl eValue p1.items], vi p2, .one (.pt 0 0 0 0)] [.box [ci p3]] (ref1_sound k0 p1 p2 p3) (fun r => vb r.1) (fun r => [.box [ci r.2]])
  | 0, _, _, _ => uM0 (ref1_sound.eq_1 ..)
  | k0 + 1, p1, p2, p3 => uFnM 1 46 [] Tryz.f55 fun r => (uU (ref1_sound.eq_2 ..) (uQ (kS Tryz.f55 [1,0] 1) fun K2 hK2 => have hJ1 : ∀ (z1 : Int), ref1_sound_j1 (ref1_sound k0) p1 p2 z1 = some r → K2.p [(1, vi p2), (2, .one (.pt 0 0 0 0)), (3, .one (.pv (.rp [(qa704 p1)] 0 0)))] [.box [ci z1]] := fun z1 h => hK2 h (uQ (kS Tryz.f55 [1,1,0,0] 2) fun K6 hK6 => have hJ2 : ∀ (x1 : Bool), ref1_sound_j2 (ref1_sound k0) p1 p2 z1 x1 = some r → K6.p [(1, vi p2), (2, .one (.pt 0 0 0 0)), (3, .one (.pv (.rp [(qa704 p1)] 0 0))), (28, vb x1)] [.box [ci z1]] := fun x1 h => hK6 h (uC (uR .ret xFM) (uQ (kS Tryz.f55 [1,1,1,0] 1) fun K12 hK12 => have hJ3 : ∀ (z3 : Int), ref1_sound_j3 z3 = some r → K12.p [] [.box [ci z3]] := fun z3 h => hK12 h (uR .ret xFM); (uN eValue p1.items (uO (cd Tryz.f55 [1,1,1,0,1,0,0]) (kS Tryz.f55 [1,1,1,0,1,0] 1) fun R1 b1 => have hL1 : ∀ (k1 : Nat) (z2 : Int) (x2 : Int), ref1_sound_l1 (ref1_sound k0) p1 p2 k1 z2 x2 = some r → (R1 k1).p [(1, vi p2), (2, .one (.pt 0 0 0 0)), (3, .one (.pv (.rp [(qa704 p1)] 0 0))), (31, vi (p1.items.length : Int)), (32, vi x2)] [.box [ci z2]] := by intro k1; induction k1 with | zero => intro z2 x2 h; exact uE0 (ref1_sound_l1.eq_1 ..) h | succ k1 ih1 => intro z2 x2 h; exact b1 h (uU (ref1_sound_l1.eq_2 ..) (uC (uL eValue fun e1 a20 => (uMc true [0] (c_ref1_sound k0 _ _ _) fun r2 _ => (uC (uR .ret (xN (xN xFM))) (uJ (ih1 r2.2 (IntKind.i64.wrap (x2 + (1 : Int)))))))) (uR (.exit 0) (xM (uJ (hJ3 z2))))))
 uE (hL1 BIG z1 (0 : Int)))))); (uC (uJ (hJ2 true)) (uC (uJ (hJ2 true)) (uP (c_ref1_alone _) fun r1 _ => (uJ (hJ2 (!r1))))))); (uC (uJ (hJ1 (IntKind.i64.wrap (p3 + (1 : Int))))) (uJ (hJ1 p3)))))

def ref1_Sound (p1 : GValue) : Option Bool :=
    bnd (ref1_sound BIG p1 (1 : Int) (0 : Int)) fun r1 =>
    some r1.1


theorem c_ref1_Sound (p1 : GValue) : CT Tryz.prog 26 [.ag [ci p1.kind, ci p1.n, ci p1.scale, cst p1.s, cl eValue p1.items]] (ref1_Sound p1) vb :=
  uFn 6 [3] Tryz.f26 fun r => (uMc true [0] (c_ref1_sound BIG _ _ _) fun r1 _ => (uR .ret xF))

def ref1_of_j3 (rec1 : Int → Option Bool) (q_ref1_of : GType → GValue → Option Bool) (p1 : GType) (p2 : GValue) (x3 : Int) (x4 : Int) : Option Bool :=
    bnd (at? p1.fields x4) fun e1 =>
    bnd (at? p2.items x3) fun e2 =>
    bnd (q_ref1_of e1.type e2) fun r1 =>
    ift (!r1)
      (some false)
      (rec1 (IntKind.i64.wrap (x3 + (1 : Int))))

def ref1_of_j4 : Option Bool :=
    some true

def ref1_of_l1 (q_ref1_of : GType → GValue → Option Bool) (p1 : GType) (p2 : GValue) : Nat → Int → Option Bool
  | 0, _ => none
  | k1 + 1, x3 =>
    ift (decide (x3 < (p2.items.length : Int)))
      (ift (p1.kind == (6 : Int))
         (ref1_of_j3 (ref1_of_l1 q_ref1_of p1 p2 k1) q_ref1_of p1 p2 x3 (0 : Int))
         (ref1_of_j3 (ref1_of_l1 q_ref1_of p1 p2 k1) q_ref1_of p1 p2 x3 x3))
      (ref1_of_j4)

def ref1_of_j2 (q_ref1_of : GType → GValue → Option Bool) (p1 : GType) (p2 : GValue) (x2 : Bool) : Option Bool :=
    ift x2
      (some false)
      (ref1_of_l1 q_ref1_of p1 p2 BIG (0 : Int))

def ref1_of_j1 (q_ref1_of : GType → GValue → Option Bool) (p1 : GType) (p2 : GValue) (x1 : Bool) : Option Bool :=
    ift x1
      (some false)
      (ift (p1.kind == (7 : Int))
         (ref1_of_j2 q_ref1_of p1 p2 ((p2.items.length : Int) != (p1.fields.length : Int)))
         (ref1_of_j2 q_ref1_of p1 p2 false))

def ref1_of : Nat → GType → GValue → Option Bool
  | 0, _, _ => none
  | k0 + 1, p1, p2 =>
    ift (p2.kind == (0 : Int))
      (some true)
      (ift (p2.kind != p1.kind)
         (ref1_of_j1 (ref1_of k0) p1 p2 true)
         (ref1_of_j1 (ref1_of k0) p1 p2 (p2.scale != p1.scale)))

abbrev qa719 (p1 : GType) : List PV := [pi p1.kind, pi p1.scale, .ro (eField.els p1.fields)]
abbrev qa720 (p2 : GValue) : List PV := [pi p2.kind, pi p2.n, pi p2.scale, .s (.string p2.s), .ro (eValue.els p2.items)]

theorem c_ref1_of : ∀ (k0 : Nat) (p1 : GType) (p2 : GValue), CT Tryz.prog 28 [.ag [ci p1.kind, ci p1.scale, cl eField p1.fields], .ag [ci p2.kind, ci p2.n, ci p2.scale, cst p2.s, cl eValue p2.items]] (ref1_of k0 p1 p2) vb
  | 0, _, _ => uF0 (ref1_of.eq_1 ..)
  | k0 + 1, p1, p2 => uFn 58 [] Tryz.f28 fun r => (uU (ref1_of.eq_2 ..) (uC (uR .ret xF) (uQ (kS Tryz.f28 [1,1,0,0] 2) fun K7 hK7 => have hJ1 : ∀ (x1 : Bool), ref1_of_j1 (ref1_of k0) p1 p2 x1 = some r → K7.p [(2, .one (.pv (.rp [(qa719 p1)] 0 0))), (3, .one (.pv (.rp [(qa720 p2)] 0 0))), (21, vb x1)] [] := fun x1 h => hK7 h (uC (uR .ret xF) (uQ (kS Tryz.f28 [1,1,1,0,0] 2) fun K12 hK12 => have hJ2 : ∀ (x2 : Bool), ref1_of_j2 (ref1_of k0) p1 p2 x2 = some r → K12.p [(2, .one (.pv (.rp [(qa719 p1)] 0 0))), (3, .one (.pv (.rp [(qa720 p2)] 0 0))), (33, vb x2)] [] := fun x2 h => hK12 h (uC (uR .ret xF) (uQ (kS Tryz.f28 [1,1,1,1,0] 1) fun K16 hK16 => have hJ4 : ∀ (_ : Unit), ref1_of_j4 = some r → K16.p [] [] := fun _ h => hK16 h (uR .ret xF); (uN eValue p2.items (uO (cd Tryz.f28 [1,1,1,1,0,1,0,0]) (kS Tryz.f28 [1,1,1,1,0,1,0] 1) fun R1 b1 => have hL1 : ∀ (k1 : Nat) (x3 : Int), ref1_of_l1 (ref1_of k0) p1 p2 k1 x3 = some r → (R1 k1).p [(2, .one (.pv (.rp [(qa719 p1)] 0 0))), (3, .one (.pv (.rp [(qa720 p2)] 0 0))), (36, vi (p2.items.length : Int)), (37, vi x3)] [] := by intro k1; induction k1 with | zero => intro x3 h; exact uE0 (ref1_of_l1.eq_1 ..) h | succ k1 ih1 => intro x3 h; exact b1 h (uU (ref1_of_l1.eq_2 ..) (uC (uQ (kS Tryz.f28 [1,1,1,1,0,1,0,0,1,1,0,0,1,1,0] 3) fun K24 hK24 => have hJ3 : ∀ (x4 : Int), ref1_of_j3 (ref1_of_l1 (ref1_of k0) p1 p2 k1) (ref1_of k0) p1 p2 x3 x4 = some r → K24.p [(2, .one (.pv (.rp [(qa719 p1)] 0 0))), (3, .one (.pv (.rp [(qa720 p2)] 0 0))), (5, vi x3), (6, vi x4), (36, vi (p2.items.length : Int)), (37, vi x3)] [] := fun x4 h => hK24 h (uDr 11 (uL eField fun e1 a28 => (uL eValue fun e2 a29 => (uP (c_ref1_of k0 _ _) fun r1 _ => (uC (uR .ret (xN (xN xF))) (uJ (ih1 (IntKind.i64.wrap (x3 + (1 : Int)))))))))); (uC (uJ (hJ3 (0 : Int))) (uJ (hJ3 x3)))) (uR (.exit 0) (xM (uJ (hJ4 ()))))))
 uE (hL1 BIG (0 : Int)))))); (uC (uN eValue p2.items (uN eField p1.fields (uJ (hJ2 ((p2.items.length : Int) != (p1.fields.length : Int)))))) (uJ (hJ2 false))))); (uC (uJ (hJ1 true)) (uJ (hJ1 (p2.scale != p1.scale)))))))

def ref1_missing_j2 (rec1 : Int → Option Bool) (x1 : Int) (x3 : Bool) : Option Bool :=
    ift x3
      (some true)
      (rec1 (IntKind.i64.wrap (x1 + (1 : Int))))

def ref1_missing_j1 (rec1 : Int → Option Bool) (q_ref1_missing : GType → GValue → Option Bool) (p1 : GType) (p2 : GValue) (x1 : Int) (x2 : Int) : Option Bool :=
    bnd (at? p1.fields x2) fun e1 =>
    ift e1.need
      (bnd (at? p2.items x1) fun e2 =>
       ift (e2.kind == (0 : Int))
         (ref1_missing_j2 rec1 x1 true)
         (bnd (q_ref1_missing e1.type e2) fun r1 =>
          ref1_missing_j2 rec1 x1 r1))
      (bnd (at? p2.items x1) fun e3 =>
       bnd (q_ref1_missing e1.type e3) fun r2 =>
       ref1_missing_j2 rec1 x1 r2)

def ref1_missing_j3 : Option Bool :=
    some false

def ref1_missing_l1 (q_ref1_missing : GType → GValue → Option Bool) (p1 : GType) (p2 : GValue) : Nat → Int → Option Bool
  | 0, _ => none
  | k1 + 1, x1 =>
    ift (decide (x1 < (p2.items.length : Int)))
      (ift (p1.kind == (6 : Int))
         (ref1_missing_j1 (ref1_missing_l1 q_ref1_missing p1 p2 k1) q_ref1_missing p1 p2 x1 (0 : Int))
         (ref1_missing_j1 (ref1_missing_l1 q_ref1_missing p1 p2 k1) q_ref1_missing p1 p2 x1 x1))
      (ref1_missing_j3)

def ref1_missing : Nat → GType → GValue → Option Bool
  | 0, _, _ => none
  | k0 + 1, p1, p2 =>
    ref1_missing_l1 (ref1_missing k0) p1 p2 BIG (0 : Int)

abbrev qa727 (p1 : GType) : List PV := [pi p1.kind, pi p1.scale, .ro (eField.els p1.fields)]
abbrev qa728 (p2 : GValue) : List PV := [pi p2.kind, pi p2.n, pi p2.scale, .s (.string p2.s), .ro (eValue.els p2.items)]

theorem c_ref1_missing : ∀ (k0 : Nat) (p1 : GType) (p2 : GValue), CT Tryz.prog 29 [.ag [ci p1.kind, ci p1.scale, cl eField p1.fields], .ag [ci p2.kind, ci p2.n, ci p2.scale, cst p2.s, cl eValue p2.items]] (ref1_missing k0 p1 p2) vb
  | 0, _, _ => uF0 (ref1_missing.eq_1 ..)
  | k0 + 1, p1, p2 => uFn 45 [7] Tryz.f29 fun r => (uU (ref1_missing.eq_2 ..) (uQ (kS Tryz.f29 [1,0] 1) fun K2 hK2 => have hJ3 : ∀ (_ : Unit), ref1_missing_j3 = some r → K2.p [] [] := fun _ h => hK2 h (uR .ret xF); (uN eValue p2.items (uO (cd Tryz.f29 [1,0,1,0,0]) (kS Tryz.f29 [1,0,1,0] 1) fun R1 b1 => have hL1 : ∀ (k1 : Nat) (x1 : Int), ref1_missing_l1 (ref1_missing k0) p1 p2 k1 x1 = some r → (R1 k1).p [(2, .one (.pv (.rp [(qa727 p1)] 0 0))), (3, .one (.pv (.rp [(qa728 p2)] 0 0))), (10, vi (p2.items.length : Int)), (11, vi x1)] [] := by intro k1; induction k1 with | zero => intro x1 h; exact uE0 (ref1_missing_l1.eq_1 ..) h | succ k1 ih1 => intro x1 h; exact b1 h (uU (ref1_missing_l1.eq_2 ..) (uC (uQ (kS Tryz.f29 [1,0,1,0,0,1,1,0,0,1,1,0] 3) fun K10 hK10 => have hJ1 : ∀ (x2 : Int), ref1_missing_j1 (ref1_missing_l1 (ref1_missing k0) p1 p2 k1) (ref1_missing k0) p1 p2 x1 x2 = some r → K10.p [(2, .one (.pv (.rp [(qa727 p1)] 0 0))), (3, .one (.pv (.rp [(qa728 p2)] 0 0))), (5, vi x1), (6, vi x2), (10, vi (p2.items.length : Int)), (11, vi x1)] [] := fun x2 h => hK10 h (uL eField fun e1 a14 => (uQ (kS Tryz.f29 [1,0,1,0,0,1,1,0,0,1,1,1,1,0] 3) fun K15 hK15 => have hJ2 : ∀ (x3 : Bool), ref1_missing_j2 (ref1_missing_l1 (ref1_missing k0) p1 p2 k1) x1 x3 = some r → K15.p [(2, .one (.pv (.rp [(qa727 p1)] 0 0))), (3, .one (.pv (.rp [(qa728 p2)] 0 0))), (10, vi (p2.items.length : Int)), (11, vi x1), (43, vb x3)] [.dead] := fun x3 h => hK15 h (uC (uR .ret (xN (xN xF))) (uJ (ih1 (IntKind.i64.wrap (x1 + (1 : Int)))))); (uDr 19 (uC (uL eValue fun e2 a17 => (uC (uJ (hJ2 true)) (uM eValue a17 (uP (c_ref1_missing k0 _ _) fun r1 _ => (uJ (hJ2 r1)))))) (uL eValue fun e3 a20 => (uP (c_ref1_missing k0 _ _) fun r2 _ => (uJ (hJ2 r2)))))))); (uC (uJ (hJ1 (0 : Int))) (uJ (hJ1 x1)))) (uR (.exit 0) (xM (uJ (hJ3 ()))))))
 uE (hL1 BIG (0 : Int))))))

def ref1_Check (p1 : GType) (p2 : GValue) : Option Int :=
    bnd (ref1_CheckType p1) fun r1 =>
    ift (r1 != (0 : Int))
      (some r1)
      (bnd (ref1_Sound p2) fun r2 =>
       ift (!r2)
         (some (1 : Int))
         (bnd (ref1_of BIG p1 p2) fun r3 =>
          ift (!r3)
            (some (2 : Int))
            (bnd (ref1_missing BIG p1 p2) fun r4 =>
             ift r4
               (some (9 : Int))
               (some (0 : Int)))))


theorem c_ref1_Check (p1 : GType) (p2 : GValue) : CT Tryz.prog 13 [.ag [ci p1.kind, ci p1.scale, cl eField p1.fields], .ag [ci p2.kind, ci p2.n, ci p2.scale, cst p2.s, cl eValue p2.items]] (ref1_Check p1 p2) vi :=
  uFn 21 [] Tryz.f13 fun r => (uP (c_ref1_CheckType _) fun r1 _ => (uC (uR .ret xF) (uP (c_ref1_Sound _) fun r2 _ => (uC (uR .ret xF) (uP (c_ref1_of BIG _ _) fun r3 _ => (uC (uR .ret xF) (uP (c_ref1_missing BIG _ _) fun r4 _ => (uC (uR .ret xF) (uR .ret xF)))))))))

def ref1_digits_j1 (x2 : ByteArray) : Option ByteArray :=
    some x2

def ref1_digits_l1 (p2 : Int) : Nat → ByteArray → Option ByteArray
  | 0, _ => none
  | k1 + 1, x1 =>
    ift (decide ((x1.size : Int) < p2))
      (grd ((ByteArray.mk #[48]).size + x1.size ≤ 4611686018427387904) <|
       (ref1_digits_l1 p2 k1) ((ByteArray.mk #[48]) ++ x1))
      (ref1_digits_j1 x1)

def ref1_digits (p1 : Int) (p2 : Int) : Option ByteArray :=
    bnd (strconv_Itoa p1) fun r1 =>
    ref1_digits_l1 p2 BIG r1


theorem c_ref1_digits (p1 : Int) (p2 : Int) : CT Tryz.prog 56 [vi p1, vi p2] (ref1_digits p1 p2) vs :=
  uFn 15 [] Tryz.f56 fun r => (uP (c_strconv_Itoa _) fun r1 _ => (uQ (kS Tryz.f56 [1,1,0] 1) fun K4 hK4 => have hJ1 : ∀ (x2 : ByteArray), ref1_digits_j1 x2 = some r → K4.p [(5, vs x2)] [] := fun x2 h => hK4 h (uR .ret xF); (uO (cd Tryz.f56 [1,1,0,0,0]) (kS Tryz.f56 [1,1,0,0] 1) fun R1 b1 => have hL1 : ∀ (k1 : Nat) (x1 : ByteArray), ref1_digits_l1 p2 k1 x1 = some r → (R1 k1).p [(1, vi p2), (5, vs x1)] [] := by intro k1; induction k1 with | zero => intro x1 h; exact uE0 (ref1_digits_l1.eq_1 ..) h | succ k1 ih1 => intro x1 h; exact b1 h (uU (ref1_digits_l1.eq_2 ..) (uC (uG (uJ (ih1 ((ByteArray.mk #[48]) ++ x1)))) (uR (.exit 0) (xM (uJ (hJ1 x1))))))
 uE (hL1 BIG r1))))

def ref1_floor_j2 (x2 : Int) : Option Int :=
    some x2

def ref1_floor_j1 (p1 : Int) (p2 : Int) (x1 : Bool) : Option Int :=
    ift x1
      (ref1_floor_j2 (IntKind.i64.wrap ((IntKind.i64.wrap (p1.tdiv p2)) - (1 : Int))))
      (ref1_floor_j2 (IntKind.i64.wrap (p1.tdiv p2)))

def ref1_floor (p1 : Int) (p2 : Int) : Option Int :=
    grd (p2 ≠ 0) <|
    grd (p2 ≠ 0) <|
    ift ((p1.tmod p2) != (0 : Int))
      (ref1_floor_j1 p1 p2 (!((decide (p1 < (0 : Int))) == (decide (p2 < (0 : Int))))))
      (ref1_floor_j1 p1 p2 false)


theorem c_ref1_floor (p1 : Int) (p2 : Int) : CT Tryz.prog 100 [vi p1, vi p2] (ref1_floor p1 p2) vi :=
  uFn 23 [] Tryz.f100 fun r => (uG (uQ (kS Tryz.f100 [1,1,0] 1) fun K4 hK4 => have hJ2 : ∀ (x2 : Int), ref1_floor_j2 x2 = some r → K4.p [(5, vi x2)] [] := fun x2 h => hK4 h (uR .ret xF); (uQ (kS Tryz.f100 [1,1,0,0] 1) fun K5 hK5 => have hJ1 : ∀ (x1 : Bool), ref1_floor_j1 p1 p2 x1 = some r → K5.p [(5, vi (IntKind.i64.wrap (p1.tdiv p2))), (19, vb x1)] [] := fun x1 h => hK5 h (uC (uJ (hJ2 (IntKind.i64.wrap ((IntKind.i64.wrap (p1.tdiv p2)) - (1 : Int))))) (uJ (hJ2 (IntKind.i64.wrap (p1.tdiv p2))))); (uG (uC (uJ (hJ1 (!((decide (p1 < (0 : Int))) == (decide (p2 < (0 : Int))))))) (uJ (hJ1 false)))))))

def ref1_civil_j2 (p1 : Int) (r1 : Int) (x3 : Int) (z2 : Int) (x5 : Int) : Option GCivil :=
    bnd (some (IntKind.i64.wrap ((IntKind.i64.wrap (p1 - (IntKind.i64.wrap ((86400 : Int) * r1)))).tdiv (3600 : Int)))) fun y1 =>
    bnd (some (IntKind.i64.wrap ((IntKind.i64.wrap (p1 - (IntKind.i64.wrap ((86400 : Int) * r1)))).tdiv (60 : Int)))) fun y2 =>
    bnd (some ((IntKind.i64.wrap (p1 - (IntKind.i64.wrap ((86400 : Int) * r1)))).tmod (60 : Int))) fun y3 =>
    some (GCivil.mk x3 z2 (IntKind.i64.wrap (x5 + (1 : Int))) y1 (y2.tmod (60 : Int)) y3)

def ref1_civil_l2 (p1 : Int) (r1 : Int) (x3 : Int) : Nat → Int → Int → Option GCivil
  | 0, _, _ => none
  | k2 + 1, z1, x4 =>
    bnd (ref1_MonthDays x3 z1) fun r4 =>
    ift (decide (r4 ≤ x4))
      (bnd (ref1_MonthDays x3 z1) fun r5 =>
       (ref1_civil_l2 p1 r1 x3 k2) (IntKind.i64.wrap (z1 + (1 : Int))) (IntKind.i64.wrap (x4 - r5)))
      (ref1_civil_j2 p1 r1 x3 z1 x4)

def ref1_civil_j1 (p1 : Int) (r1 : Int) (x3 : Int) : Option GCivil :=
    bnd (ref1_yearStart x3) fun r3 =>
    ref1_civil_l2 p1 r1 x3 BIG (1 : Int) (IntKind.i64.wrap (r1 - r3))

def ref1_civil_l1 (p1 : Int) (r1 : Int) : Nat → Int → Int → Option GCivil
  | 0, _, _ => none
  | k1 + 1, x1, x2 =>
    ift (decide ((1 : Int) < (IntKind.i64.wrap (x2 - x1))))
      (bnd (ref1_yearStart (IntKind.i64.wrap ((IntKind.i64.wrap (x1 + x2)).tdiv (2 : Int)))) fun r2 =>
       ift (decide (r2 ≤ r1))
         ((ref1_civil_l1 p1 r1 k1) (IntKind.i64.wrap ((IntKind.i64.wrap (x1 + x2)).tdiv (2 : Int))) x2)
         ((ref1_civil_l1 p1 r1 k1) x1 (IntKind.i64.wrap ((IntKind.i64.wrap (x1 + x2)).tdiv (2 : Int)))))
      (ref1_civil_j1 p1 r1 x1)

def ref1_civil (p1 : Int) : Option GCivil :=
    bnd (ref1_floor p1 (86400 : Int)) fun r1 =>
    ref1_civil_l1 p1 r1 BIG (0 : Int) (10001 : Int)

abbrev qa741 : List CV := [ci (0 : Int), ci (0 : Int), ci (0 : Int), ci (0 : Int), ci (0 : Int), ci (0 : Int)]

theorem c_ref1_civil (p1 : Int) : CT Tryz.prog 57 [vi p1] (ref1_civil p1) (fun r => .ag [ci r.year, ci r.month, ci r.day, ci r.hour, ci r.minute, ci r.second]) :=
  uFn 66 [2, 7] Tryz.f57 fun r => (uP (c_ref1_floor _ _) fun r1 _ => (uQ (kS Tryz.f57 [1,1,1,0] 1) fun K5 hK5 => have hJ1 : ∀ (x3 : Int), ref1_civil_j1 p1 r1 x3 = some r → K5.p [(0, vi p1), (2, .one (.pt 0 0 0 0)), (3, vi r1), (4, vi x3)] [.box qa741] := fun x3 h => hK5 h (uP (c_ref1_yearStart _) fun r3 _ => (uQ (kS Tryz.f57 [1,1,1,1,1,1,0] 1) fun K16 hK16 => have hJ2 : ∀ (z2 : Int) (x5 : Int), ref1_civil_j2 p1 r1 x3 z2 x5 = some r → K16.p [(0, vi p1), (2, .one (.pt 0 0 0 0)), (3, vi r1), (7, .one (.pt 1 0 0 0)), (8, vi x5)] [.box qa741, .box [ci x3, ci z2, ci (0 : Int), ci (0 : Int), ci (0 : Int), ci (0 : Int)]] := fun z2 x5 h => hK16 h (uY 56 vi fun y1 => (uY 58 vi fun y2 => (uY 61 vi fun y3 => (uR .ret xF)))); (uO (cd Tryz.f57 [1,1,1,1,1,1,0,0,0]) (kS Tryz.f57 [1,1,1,1,1,1,0,0] 1) fun R2 b2 => have hL2 : ∀ (k2 : Nat) (z1 : Int) (x4 : Int), ref1_civil_l2 p1 r1 x3 k2 z1 x4 = some r → (R2 k2).p [(0, vi p1), (2, .one (.pt 0 0 0 0)), (3, vi r1), (4, vi x3), (7, .one (.pt 1 0 0 0)), (8, vi x4)] [.box qa741, .box [ci x3, ci z1, ci (0 : Int), ci (0 : Int), ci (0 : Int), ci (0 : Int)]] := by intro k2; induction k2 with | zero => intro z1 x4 h; exact uE0 (ref1_civil_l2.eq_1 ..) h | succ k2 ih2 => intro z1 x4 h; exact b2 h (uU (ref1_civil_l2.eq_2 ..) (uP (c_ref1_MonthDays _ _) fun r4 _ => (uC (uP (c_ref1_MonthDays _ _) fun r5 _ => (uJ (ih2 (IntKind.i64.wrap (z1 + (1 : Int))) (IntKind.i64.wrap (x4 - r5))))) (uR (.exit 2) (xM (uJ (hJ2 z1 x4)))))))
 uE (hL2 BIG (1 : Int) (IntKind.i64.wrap (r1 - r3)))))); (uO (cd Tryz.f57 [1,1,1,0,0,0]) (kS Tryz.f57 [1,1,1,0,0] 1) fun R1 b1 => have hL1 : ∀ (k1 : Nat) (x1 : Int) (x2 : Int), ref1_civil_l1 p1 r1 k1 x1 x2 = some r → (R1 k1).p [(0, vi p1), (2, .one (.pt 0 0 0 0)), (3, vi r1), (4, vi x1), (5, vi x2)] [.box qa741] := by intro k1; induction k1 with | zero => intro x1 x2 h; exact uE0 (ref1_civil_l1.eq_1 ..) h | succ k1 ih1 => intro x1 x2 h; exact b1 h (uU (ref1_civil_l1.eq_2 ..) (uC (uP (c_ref1_yearStart _) fun r2 _ => (uC (uJ (ih1 (IntKind.i64.wrap ((IntKind.i64.wrap (x1 + x2)).tdiv (2 : Int))) x2)) (uJ (ih1 x1 (IntKind.i64.wrap ((IntKind.i64.wrap (x1 + x2)).tdiv (2 : Int))))))) (uR (.exit 0) (xM (uJ (hJ1 x1))))))
 uE (hL1 BIG (0 : Int) (10001 : Int)))))

def ref1_text_j1 (p1 : GValue) (x1 : Int) (x2 : ByteArray) : Option ByteArray :=
    bnd (ref1_digits x1 (IntKind.i64.wrap (p1.scale + (1 : Int)))) fun r2 =>
    grd (0 ≤ (0 : Int) ∧ (0 : Int) ≤ (IntKind.i64.wrap ((r2.size : Int) - p1.scale)) ∧ (IntKind.i64.wrap ((r2.size : Int) - p1.scale)) ≤ (r2.size : Int)) <|
    bnd (some (r2.extract (0 : Int).toNat (IntKind.i64.wrap ((r2.size : Int) - p1.scale)).toNat)) fun y1 =>
    grd (x2.size + y1.size ≤ 4611686018427387904) <|
    grd ((x2 ++ y1).size + (ByteArray.mk #[46]).size ≤ 4611686018427387904) <|
    grd (0 ≤ (IntKind.i64.wrap ((r2.size : Int) - p1.scale)) ∧ (IntKind.i64.wrap ((r2.size : Int) - p1.scale)) ≤ (r2.size : Int) ∧ (r2.size : Int) ≤ (r2.size : Int)) <|
    bnd (some (r2.extract (IntKind.i64.wrap ((r2.size : Int) - p1.scale)).toNat (r2.size : Int).toNat)) fun y2 =>
    grd (((x2 ++ y1) ++ (ByteArray.mk #[46])).size + y2.size ≤ 4611686018427387904) <|
    some (((x2 ++ y1) ++ (ByteArray.mk #[46])) ++ y2)

def ref1_text_j2 (rec1 : ByteArray → Int → Option ByteArray) (x4 : Int) (x5 : ByteArray) : Option ByteArray :=
    rec1 x5 (IntKind.i64.wrap (x4 + (1 : Int)))

def ref1_text_j3 (x6 : ByteArray) : Option ByteArray :=
    grd (x6.size + (ByteArray.mk #[39]).size ≤ 4611686018427387904) <|
    some (x6 ++ (ByteArray.mk #[39]))

def ref1_text_l1 (p1 : GValue) : Nat → ByteArray → Int → Option ByteArray
  | 0, _, _ => none
  | k1 + 1, x3, x4 =>
    ift (decide (x4 < (p1.s.size : Int)))
      (grd (0 ≤ x4 ∧ x4 ≤ (IntKind.i64.wrap (x4 + (1 : Int))) ∧ (IntKind.i64.wrap (x4 + (1 : Int))) ≤ (p1.s.size : Int)) <|
       grd (x3.size + (p1.s.extract x4.toNat (IntKind.i64.wrap (x4 + (1 : Int))).toNat).size ≤ 4611686018427387904) <|
       bnd (some (x3 ++ (p1.s.extract x4.toNat (IntKind.i64.wrap (x4 + (1 : Int))).toNat))) fun y3 =>
       grd (0 ≤ x4 ∧ x4 < (p1.s.size : Int)) <|
       ift (((p1.s.data.toList.getD x4.toNat 0).toNat : Int) == (39 : Int))
         (grd (y3.size + (ByteArray.mk #[39]).size ≤ 4611686018427387904) <|
          ref1_text_j2 (ref1_text_l1 p1 k1) x4 (y3 ++ (ByteArray.mk #[39])))
         (ref1_text_j2 (ref1_text_l1 p1 k1) x4 y3))
      (ref1_text_j3 x3)

def ref1_text_j5 (rec2 : ByteArray → Int → Option ByteArray) (q_ref1_text : GValue → Option ByteArray) (p1 : GValue) (x9 : Int) (x10 : ByteArray) : Option ByteArray :=
    bnd (at? p1.items x9) fun e1 =>
    bnd (q_ref1_text e1) fun r10 =>
    grd (x10.size + r10.size ≤ 4611686018427387904) <|
    rec2 (x10 ++ r10) (IntKind.i64.wrap (x9 + (1 : Int)))

def ref1_text_j6 (p1 : GValue) (x11 : ByteArray) : Option ByteArray :=
    ift (p1.kind == (6 : Int))
      (grd ((ByteArray.mk #[91]).size + x11.size ≤ 4611686018427387904) <|
       grd (((ByteArray.mk #[91]) ++ x11).size + (ByteArray.mk #[93]).size ≤ 4611686018427387904) <|
       some (((ByteArray.mk #[91]) ++ x11) ++ (ByteArray.mk #[93])))
      (grd ((ByteArray.mk #[40]).size + x11.size ≤ 4611686018427387904) <|
       grd (((ByteArray.mk #[40]) ++ x11).size + (ByteArray.mk #[41]).size ≤ 4611686018427387904) <|
       some (((ByteArray.mk #[40]) ++ x11) ++ (ByteArray.mk #[41])))

def ref1_text_l2 (q_ref1_text : GValue → Option ByteArray) (p1 : GValue) : Nat → ByteArray → Int → Option ByteArray
  | 0, _, _ => none
  | k2 + 1, x8, x9 =>
    ift (decide (x9 < (p1.items.length : Int)))
      (ift (decide ((0 : Int) < x9))
         (grd (x8.size + (ByteArray.mk #[44, 32]).size ≤ 4611686018427387904) <|
          ref1_text_j5 (ref1_text_l2 q_ref1_text p1 k2) q_ref1_text p1 x9 (x8 ++ (ByteArray.mk #[44, 32])))
         (ref1_text_j5 (ref1_text_l2 q_ref1_text p1 k2) q_ref1_text p1 x9 x8))
      (ref1_text_j6 p1 x8)

def ref1_text_j4 (q_ref1_text : GValue → Option ByteArray) (p1 : GValue) (x7 : Bool) : Option ByteArray :=
    ift x7
      (ref1_text_l2 q_ref1_text p1 BIG (ByteArray.mk #[]) (0 : Int))
      (some (ByteArray.mk #[110, 117, 108, 108]))

def ref1_text : Nat → GValue → Option ByteArray
  | 0, _ => none
  | k0 + 1, p1 =>
    ift (p1.kind == (1 : Int))
      (ift (p1.n == (1 : Int))
         (some (ByteArray.mk #[116, 114, 117, 101]))
         (some (ByteArray.mk #[102, 97, 108, 115, 101])))
      (ift (p1.kind == (2 : Int))
         (bnd (strconv_Itoa p1.n) fun r1 =>
          some r1)
         (ift (p1.kind == (3 : Int))
            (ift (decide (p1.n < (0 : Int)))
               (ref1_text_j1 p1 (IntKind.i64.wrap (0 - p1.n)) (ByteArray.mk #[45]))
               (ref1_text_j1 p1 p1.n (ByteArray.mk #[])))
            (ift (p1.kind == (4 : Int))
               (ref1_text_l1 p1 BIG (ByteArray.mk #[39]) (0 : Int))
               (ift (p1.kind == (5 : Int))
                  (bnd (ref1_civil p1.n) fun r3 =>
                   bnd (ref1_digits r3.year (4 : Int)) fun r4 =>
                   grd (r4.size + (ByteArray.mk #[45]).size ≤ 4611686018427387904) <|
                   bnd (ref1_digits r3.month (2 : Int)) fun r5 =>
                   grd ((r4 ++ (ByteArray.mk #[45])).size + r5.size ≤ 4611686018427387904) <|
                   grd (((r4 ++ (ByteArray.mk #[45])) ++ r5).size + (ByteArray.mk #[45]).size ≤ 4611686018427387904) <|
                   bnd (ref1_digits r3.day (2 : Int)) fun r6 =>
                   grd ((((r4 ++ (ByteArray.mk #[45])) ++ r5) ++ (ByteArray.mk #[45])).size + r6.size ≤ 4611686018427387904) <|
                   bnd (some ((((r4 ++ (ByteArray.mk #[45])) ++ r5) ++ (ByteArray.mk #[45])) ++ r6)) fun y4 =>
                   grd (y4.size + (ByteArray.mk #[84]).size ≤ 4611686018427387904) <|
                   bnd (ref1_digits r3.hour (2 : Int)) fun r7 =>
                   grd ((y4 ++ (ByteArray.mk #[84])).size + r7.size ≤ 4611686018427387904) <|
                   grd (((y4 ++ (ByteArray.mk #[84])) ++ r7).size + (ByteArray.mk #[58]).size ≤ 4611686018427387904) <|
                   bnd (ref1_digits r3.minute (2 : Int)) fun r8 =>
                   grd ((((y4 ++ (ByteArray.mk #[84])) ++ r7) ++ (ByteArray.mk #[58])).size + r8.size ≤ 4611686018427387904) <|
                   bnd (some ((((y4 ++ (ByteArray.mk #[84])) ++ r7) ++ (ByteArray.mk #[58])) ++ r8)) fun y5 =>
                   grd (y5.size + (ByteArray.mk #[58]).size ≤ 4611686018427387904) <|
                   bnd (ref1_digits r3.second (2 : Int)) fun r9 =>
                   grd ((y5 ++ (ByteArray.mk #[58])).size + r9.size ≤ 4611686018427387904) <|
                   grd (((y5 ++ (ByteArray.mk #[58])) ++ r9).size + (ByteArray.mk #[90]).size ≤ 4611686018427387904) <|
                   some (((y5 ++ (ByteArray.mk #[58])) ++ r9) ++ (ByteArray.mk #[90])))
                  (ift (p1.kind == (6 : Int))
                     (ref1_text_j4 (ref1_text k0) p1 (p1.kind == (6 : Int)))
                     (ref1_text_j4 (ref1_text k0) p1 (p1.kind == (7 : Int))))))))

abbrev qa751 (p1 : GValue) : List PV := [pi p1.kind, pi p1.n, pi p1.scale, .s (.string p1.s), .ro (eValue.els p1.items)]

theorem c_ref1_text : ∀ (k0 : Nat) (p1 : GValue), CT Tryz.prog 27 [.ag [ci p1.kind, ci p1.n, ci p1.scale, cst p1.s, cl eValue p1.items]] (ref1_text k0 p1) vs
  | 0, _ => uF0 (ref1_text.eq_1 ..)
  | k0 + 1, p1 => uFn 145 [8] Tryz.f27 fun r => (uU (ref1_text.eq_2 ..) (uC (uC (uR .ret xF) (uR .ret xF)) (uC (uP (c_strconv_Itoa _) fun r1 _ => (uR .ret xF)) (uC (uQ (kS Tryz.f27 [1,0,1,0,1,1,1,1,1,0,1,0] 3) fun K18 hK18 => have hJ1 : ∀ (x1 : Int) (x2 : ByteArray), ref1_text_j1 p1 x1 x2 = some r → K18.p [(1, .one (.pv (.rp [(qa751 p1)] 0 0))), (3, vi x1), (4, vs x2)] [] := fun x1 x2 h => hK18 h (uP (c_ref1_digits _ _) fun r2 _ => (uDr 17 (uYg 43 vs fun y1 => (uG (uG (uYg 52 vs fun y2 => (uG (uR .ret xF)))))))); (uC (uJ (hJ1 (IntKind.i64.wrap (0 - p1.n)) (ByteArray.mk #[45]))) (uJ (hJ1 p1.n (ByteArray.mk #[]))))) (uC (uQ (kS Tryz.f27 [1,0,1,0,1,1,1,1,1,1,1,0,1,0] 3) fun K34 hK34 => have hJ3 : ∀ (x6 : ByteArray), ref1_text_j3 x6 = some r → K34.p [(6, vs x6)] [] := fun x6 h => hK34 h (uG (uR .ret xF)); (uO (cd Tryz.f27 [1,0,1,0,1,1,1,1,1,1,1,0,1,0,1,0,0]) (kS Tryz.f27 [1,0,1,0,1,1,1,1,1,1,1,0,1,0,1,0] 1) fun R1 b1 => have hL1 : ∀ (k1 : Nat) (x3 : ByteArray) (x4 : Int), ref1_text_l1 p1 k1 x3 x4 = some r → (R1 k1).p [(1, .one (.pv (.rp [(qa751 p1)] 0 0))), (6, vs x3), (7, vi x4)] [] := by intro k1; induction k1 with | zero => intro x3 x4 h; exact uE0 (ref1_text_l1.eq_1 ..) h | succ k1 ih1 => intro x3 x4 h; exact b1 h (uU (ref1_text_l1.eq_2 ..) (uC (uQ (kS Tryz.f27 [1,0,1,0,1,1,1,1,1,1,1,0,1,0,1,0,0,1,0] 1) fun K39 hK39 => have hJ2 : ∀ (x5 : ByteArray), ref1_text_j2 (ref1_text_l1 p1 k1) x4 x5 = some r → K39.p [(1, .one (.pv (.rp [(qa751 p1)] 0 0))), (6, vs x5), (7, vi x4)] [] := fun x5 h => hK39 h (uJ (ih1 x5 (IntKind.i64.wrap (x4 + (1 : Int))))); (uG (uYg 70 vs fun y3 => (uG (uC (uG (uJ (hJ2 (y3 ++ (ByteArray.mk #[39]))))) (uJ (hJ2 y3))))))) (uR (.exit 1) (xM (uJ (hJ3 x3))))))
 uE (hL1 BIG (ByteArray.mk #[39]) (0 : Int)))) (uC (uP (c_ref1_civil _) fun r3 _ => (uDr 27 (uP (c_ref1_digits _ _) fun r4 _ => (uG (uP (c_ref1_digits _ _) fun r5 _ => (uG (uG (uP (c_ref1_digits _ _) fun r6 _ => (uYg 97 vs fun y4 => (uG (uP (c_ref1_digits _ _) fun r7 _ => (uG (uG (uP (c_ref1_digits _ _) fun r8 _ => (uYg 107 vs fun y5 => (uG (uP (c_ref1_digits _ _) fun r9 _ => (uG (uG (uR .ret xF)))))))))))))))))))) (uQ (kS Tryz.f27 [1,0,1,0,1,1,1,1,1,1,1,1,1,1,0] 3) fun K74 hK74 => have hJ4 : ∀ (x7 : Bool), ref1_text_j4 (ref1_text k0) p1 x7 = some r → K74.p [(1, .one (.pv (.rp [(qa751 p1)] 0 0))), (114, vb x7)] [] := fun x7 h => hK74 h (uC (uQ (kS Tryz.f27 [1,0,1,0,1,1,1,1,1,1,1,1,1,1,1,0,1,0] 3) fun K79 hK79 => have hJ6 : ∀ (x11 : ByteArray), ref1_text_j6 p1 x11 = some r → K79.p [(1, .one (.pv (.rp [(qa751 p1)] 0 0))), (9, vs x11)] [] := fun x11 h => hK79 h (uC (uG (uG (uR .ret xF))) (uG (uG (uR .ret xF)))); (uN eValue p1.items (uO (cd Tryz.f27 [1,0,1,0,1,1,1,1,1,1,1,1,1,1,1,0,1,0,1,0,0]) (kS Tryz.f27 [1,0,1,0,1,1,1,1,1,1,1,1,1,1,1,0,1,0,1,0] 1) fun R2 b2 => have hL2 : ∀ (k2 : Nat) (x8 : ByteArray) (x9 : Int), ref1_text_l2 (ref1_text k0) p1 k2 x8 x9 = some r → (R2 k2).p [(1, .one (.pv (.rp [(qa751 p1)] 0 0))), (9, vs x8), (119, vi (p1.items.length : Int)), (120, vi x9)] [] := by intro k2; induction k2 with | zero => intro x8 x9 h; exact uE0 (ref1_text_l2.eq_1 ..) h | succ k2 ih2 => intro x8 x9 h; exact b2 h (uU (ref1_text_l2.eq_2 ..) (uC (uQ (kS Tryz.f27 [1,0,1,0,1,1,1,1,1,1,1,1,1,1,1,0,1,0,1,0,0,1,1,0,0,1,0] 3) fun K86 hK86 => have hJ5 : ∀ (x10 : ByteArray), ref1_text_j5 (ref1_text_l2 (ref1_text k0) p1 k2) (ref1_text k0) p1 x9 x10 = some r → K86.p [(1, .one (.pv (.rp [(qa751 p1)] 0 0))), (9, vs x10), (10, vi x9), (119, vi (p1.items.length : Int)), (120, vi x9)] [] := fun x10 h => hK86 h (uL eValue fun e1 a90 => (uP (c_ref1_text k0 _) fun r10 _ => (uG (uJ (ih2 (x10 ++ r10) (IntKind.i64.wrap (x9 + (1 : Int)))))))); (uC (uG (uJ (hJ5 (x8 ++ (ByteArray.mk #[44, 32]))))) (uJ (hJ5 x8)))) (uR (.exit 3) (xM (uJ (hJ6 x8))))))
 uE (hL2 BIG (ByteArray.mk #[]) (0 : Int))))) (uR .ret xF)); (uC (uJ (hJ4 (p1.kind == (6 : Int)))) (uJ (hJ4 (p1.kind == (7 : Int))))))))))))

def ref1_Text (p1 : GValue) : Option ByteArray :=
    bnd (ref1_Sound p1) fun r1 =>
    ift (!r1)
      (some (ByteArray.mk #[]))
      (bnd (ref1_text BIG p1) fun r2 =>
       some r2)


theorem c_ref1_Text (p1 : GValue) : CT Tryz.prog 11 [.ag [ci p1.kind, ci p1.n, ci p1.scale, cst p1.s, cl eValue p1.items]] (ref1_Text p1) vs :=
  uFn 8 [] Tryz.f11 fun r => (uP (c_ref1_Sound _) fun r1 _ => (uC (uR .ret xF) (uP (c_ref1_text BIG _) fun r2 _ => (uR .ret xF))))

def ref1_Parse_j1 (r2 : (GValue × ByteArray × Bool)) (x1 : Bool) : Option (GValue × Int) :=
    ift x1
      (some ((GValue.mk (0 : Int) (0 : Int) (0 : Int) ByteArray.empty []), (6 : Int)))
      (some (r2.1, (0 : Int)))

def ref1_Parse (p1 : GType) (p2 : ByteArray) : Option (GValue × Int) :=
    bnd (ref1_CheckType p1) fun r1 =>
    ift (r1 != (0 : Int))
      (some ((GValue.mk (0 : Int) (0 : Int) (0 : Int) ByteArray.empty []), r1))
      (bnd (ref1_read BIG p1 p2) fun r2 =>
       ift (!r2.2.2)
         (ref1_Parse_j1 r2 true)
         (ift (!(r2.2.1.toList == (ByteArray.mk #[]).toList))
            (ref1_Parse_j1 r2 true)
            (bnd (ref1_Check p1 r2.1) fun r3 =>
             ift (r3 != (0 : Int))
               (ref1_Parse_j1 r2 true)
               (bnd (ref1_Text r2.1) fun r4 =>
                ref1_Parse_j1 r2 (!(r4.toList == p2.toList))))))


theorem c_ref1_Parse (p1 : GType) (p2 : ByteArray) : CT Tryz.prog 8 [.ag [ci p1.kind, ci p1.scale, cl eField p1.fields], vs p2] (ref1_Parse p1 p2) (fun r => .tp [.ag [ci r.1.kind, ci r.1.n, ci r.1.scale, cst r.1.s, cl eValue r.1.items], vi r.2]) :=
  uFn 43 [4, 7] Tryz.f8 fun r => (uP (c_ref1_CheckType _) fun r1 _ => (uC (uR .ret xF) (uP (c_ref1_read BIG _ _) fun r2 _ => (uQ (kS Tryz.f8 [1,1,1,0,0] 2) fun K11 hK11 => have hJ1 : ∀ (x1 : Bool), ref1_Parse_j1 r2 x1 = some r → K11.p [(4, .one (.pt 0 0 0 0)), (7, .one (.pt 1 0 0 0)), (40, vb x1)] [.box [ci (0 : Int), ci (0 : Int), ci (0 : Int), cst ByteArray.empty, .pv (.s (.slice none 0 0))], .box [ci r2.1.kind, ci r2.1.n, ci r2.1.scale, cst r2.1.s, cl eValue r2.1.items]] := fun x1 h => hK11 h (uC (uR .ret xF) (uR .ret xF)); (uC (uJ (hJ1 true)) (uC (uJ (hJ1 true)) (uP (c_ref1_Check _ _) fun r3 _ => (uC (uJ (hJ1 true)) (uP (c_ref1_Text _) fun r4 _ => (uJ (hJ1 (!(r4.toList == p2.toList)))))))))))))

def law1_number (p1 : Int) : Option GValue :=
    some (GValue.mk (2 : Int) p1 (0 : Int) ByteArray.empty [])


theorem c_law1_number (p1 : Int) : CT Tryz.prog 10 [vi p1] (law1_number p1) (fun r => .ag [ci r.kind, ci r.n, ci r.scale, cst r.s, cl eValue r.items]) :=
  uFn 5 [2] Tryz.f10 fun r => (uR .ret xF)

def law1_exactly_j2 : Option Bool :=
    some true

def law1_exactly_l1 (q_law1_exactly : GValue → GValue → Option Bool) (p1 : GValue) (p2 : GValue) : Nat → Int → Option Bool
  | 0, _ => none
  | k1 + 1, x2 =>
    ift (decide (x2 < (p1.items.length : Int)))
      (bnd (at? p1.items x2) fun e1 =>
       bnd (at? p2.items x2) fun e2 =>
       bnd (q_law1_exactly e1 e2) fun r1 =>
       ift (!r1)
         (some false)
         ((law1_exactly_l1 q_law1_exactly p1 p2 k1) (IntKind.i64.wrap (x2 + (1 : Int)))))
      (law1_exactly_j2)

def law1_exactly_j1 (q_law1_exactly : GValue → GValue → Option Bool) (p1 : GValue) (p2 : GValue) (x1 : Bool) : Option Bool :=
    ift x1
      (some false)
      (law1_exactly_l1 q_law1_exactly p1 p2 BIG (0 : Int))

def law1_exactly : Nat → GValue → GValue → Option Bool
  | 0, _, _ => none
  | k0 + 1, p1, p2 =>
    ift (p1.kind != p2.kind)
      (law1_exactly_j1 (law1_exactly k0) p1 p2 true)
      (ift (p1.n != p2.n)
         (law1_exactly_j1 (law1_exactly k0) p1 p2 true)
         (ift (p1.scale != p2.scale)
            (law1_exactly_j1 (law1_exactly k0) p1 p2 true)
            (ift (!(p1.s.toList == p2.s.toList))
               (law1_exactly_j1 (law1_exactly k0) p1 p2 true)
               (law1_exactly_j1 (law1_exactly k0) p1 p2 ((p1.items.length : Int) != (p2.items.length : Int))))))


theorem c_law1_exactly : ∀ (k0 : Nat) (p1 : GValue) (p2 : GValue), CT Tryz.prog 12 [.ag [ci p1.kind, ci p1.n, ci p1.scale, cst p1.s, cl eValue p1.items], .ag [ci p2.kind, ci p2.n, ci p2.scale, cst p2.s, cl eValue p2.items]] (law1_exactly k0 p1 p2) vb
  | 0, _, _ => uF0 (law1_exactly.eq_1 ..)
  | k0 + 1, p1, p2 => uFn 60 [] Tryz.f12 fun r => (uU (law1_exactly.eq_2 ..) (uQ (kS Tryz.f12 [1,0,0] 2) fun K3 hK3 => have hJ1 : ∀ (x1 : Bool), law1_exactly_j1 (law1_exactly k0) p1 p2 x1 = some r → K3.p [(2, .one (.pv (.rp [[pi p1.kind, pi p1.n, pi p1.scale, .s (.string p1.s), .ro (eValue.els p1.items)]] 0 0))), (3, .one (.pv (.rp [[pi p2.kind, pi p2.n, pi p2.scale, .s (.string p2.s), .ro (eValue.els p2.items)]] 0 0))), (40, vb x1)] [] := fun x1 h => hK3 h (uC (uR .ret xF) (uQ (kS Tryz.f12 [1,1,0] 1) fun K10 hK10 => have hJ2 : ∀ (_ : Unit), law1_exactly_j2 = some r → K10.p [] [] := fun _ h => hK10 h (uR .ret xF); (uN eValue p1.items (uO (cd Tryz.f12 [1,1,0,1,0,0]) (kS Tryz.f12 [1,1,0,1,0] 1) fun R1 b1 => have hL1 : ∀ (k1 : Nat) (x2 : Int), law1_exactly_l1 (law1_exactly k0) p1 p2 k1 x2 = some r → (R1 k1).p [(2, .one (.pv (.rp [[pi p1.kind, pi p1.n, pi p1.scale, .s (.string p1.s), .ro (eValue.els p1.items)]] 0 0))), (3, .one (.pv (.rp [[pi p2.kind, pi p2.n, pi p2.scale, .s (.string p2.s), .ro (eValue.els p2.items)]] 0 0))), (43, vi (p1.items.length : Int)), (44, vi x2)] [] := by intro k1; induction k1 with | zero => intro x2 h; exact uE0 (law1_exactly_l1.eq_1 ..) h | succ k1 ih1 => intro x2 h; exact b1 h (uU (law1_exactly_l1.eq_2 ..) (uC (uDr 10 (uL eValue fun e1 a18 => (uL eValue fun e2 a19 => (uP (c_law1_exactly k0 _ _) fun r1 _ => (uC (uR .ret (xN (xN xF))) (uJ (ih1 (IntKind.i64.wrap (x2 + (1 : Int)))))))))) (uR (.exit 0) (xM (uJ (hJ2 ()))))))
 uE (hL1 BIG (0 : Int)))))); (uC (uJ (hJ1 true)) (uC (uJ (hJ1 true)) (uC (uJ (hJ1 true)) (uC (uJ (hJ1 true)) (uN eValue p1.items (uN eValue p2.items (uJ (hJ1 ((p1.items.length : Int) != (p2.items.length : Int))))))))))))

def law1_ValueTextsMatchSpec_j1 (x1 : Bool) : Option Bool :=
    some x1

def law1_ValueTextsMatchSpec (p1 : GType) (p2 : GValue) (p3 : ByteArray) : Option Bool :=
    bnd (value_Parse p1 p3) fun r1 =>
    bnd (ref1_Parse p1 p3) fun r2 =>
    bnd (law1_number (5 : Int)) fun r3 =>
    bnd (value_Text r3) fun r4 =>
    ift (r4.toList == (ByteArray.mk #[53]).toList)
      (bnd (value_Text p2) fun r5 =>
       bnd (ref1_Text p2) fun r6 =>
       ift (r5.toList == r6.toList)
         (ift (r1.2 == r2.2)
            (bnd (law1_exactly BIG r1.1 r2.1) fun r7 =>
             law1_ValueTextsMatchSpec_j1 r7)
            (law1_ValueTextsMatchSpec_j1 false))
         (law1_ValueTextsMatchSpec_j1 false))
      (law1_ValueTextsMatchSpec_j1 false)


theorem c_law1_ValueTextsMatchSpec (p1 : GType) (p2 : GValue) (p3 : ByteArray) : CT Tryz.prog 3 [.ag [ci p1.kind, ci p1.scale, cl eField p1.fields], .ag [ci p2.kind, ci p2.n, ci p2.scale, cst p2.s, cl eValue p2.items], vs p3] (law1_ValueTextsMatchSpec p1 p2 p3) vb :=
  uFn 43 [7, 9] Tryz.f3 fun r => (uP (c_value_Parse _ _) fun r1 _ => (uP (c_ref1_Parse _ _) fun r2 _ => (uQ (kS Tryz.f3 [1,1,1,0] 1) fun K6 hK6 => have hJ1 : ∀ (x1 : Bool), law1_ValueTextsMatchSpec_j1 x1 = some r → K6.p [(6, vb x1)] [.dead, .dead] := fun x1 h => hK6 h (uR .ret xF); (uDr 18 (uP (c_law1_number _) fun r3 _ => (uP (c_value_Text _) fun r4 _ => (uC (uP (c_value_Text _) fun r5 _ => (uP (c_ref1_Text _) fun r6 _ => (uC (uC (uP (c_law1_exactly BIG _ _) fun r7 _ => (uJ (hJ1 r7))) (uJ (hJ1 false))) (uJ (hJ1 false))))) (uJ (hJ1 false)))))))))

end Go.Proofs.YtpmoopnkoknbeaaGreatDoor
