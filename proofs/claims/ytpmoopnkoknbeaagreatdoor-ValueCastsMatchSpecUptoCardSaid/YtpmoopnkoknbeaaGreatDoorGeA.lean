/- The shelf's contract of utf8.ValidString, laid at this program. The library of texts: its contracts of the shelf, laid at this program. Decimal numerals: what is read of what is written. Texts in quotes: a quote inside is written twice. Texts as lists of bytes. What the functions of Go's library of texts compute, and the reader's piece in quotes. The library of texts: what its functions compute, by the shelf's contracts. Printed by a program: what the functions compute, and the proofs of their contracts. The reader's piece in quotes: (*reader).quoted walks as quo says. Printed by a program: what the functions compute, and the proofs of their contracts. -/
import Derived.Test.YtpmoopnkoknbeaaGreatDoorProg
import Derived.Shelf.Strings.SlTrimAscii
import Derived.Shelf.Strconv.AtoiAll
import Derived.Shelf.Strconv.Itoa3
import Derived.Shelf.Strings.Repeat
import Derived.Shelf.Strings.Replace
import Derived.Shelf.Strings.Cut
import Derived.Shelf.Strings.BuilderK
import Derived.Shelf.Strings.OnBuilder
import Derived.Lib.AtoiAllCases
import Derived.Lib.ItoaNum
import Derived.Lib.Replace
import Derived.Lib.IndexMore
import Derived.Lib.Repeat
import Derived.Lib.SlTrimSet
import Derived.Lib.Join
import Derived.Lib.AtoiAll
import Derived.Lib.CountLaws
import Derived.Lib.AtoiErrMem
import Derived.Test.YtpmoopnkoknbeaaGreatDoorChecked
import Derived.WalkKit
import Derived.BigCall
import Derived.Test.YtpmoopnkoknbeaaGreatDoorSxC
set_option linter.unusedVariables false
set_option linter.unusedSimpArgs false
set_option linter.unnecessarySimpa false
namespace Go.Proofs.YtpmoopnkoknbeaaGreatDoor
open Go Go.SX Go.Shelf Go.Lib
def Jp : Ren where
 f := fun n => if n = 196 then 162 else if n = 259 then 192 else n
 t := fun n => if n = 0 then 0 else if n = 3 then 3 else if n = 4 then 4 else if n = 5 then 5 else if n = 9 then 9 else if n = 12 then 12 else if n = 46 then 173 else if n = 53 then 86 else if n = 119 then 196 else if n = 138 then 198 else if n = 139 then 199 else n
 g := fun n => if n = 3 then 3 else if n = 4 then 4 else n
set_option maxRecDepth 100000 in
theorem H3 : Lays.n196 Tryz.prog Jp where
 mixed := by kernel_rfl
 f196 := by kernel_rfl
 f259 := by kernel_rfl
 t0 := by kernel_rfl
 a0 := fun w => by kernel_rfl
 z0 := fun w => by kernel_rfl
 v0 := fun w => by kernel_rfl
 t3 := by kernel_rfl
 a3 := fun w => by kernel_rfl
 z3 := fun w => by kernel_rfl
 v3 := fun w => by kernel_rfl
 t4 := by kernel_rfl
 a4 := fun w => by kernel_rfl
 z4 := fun w => by kernel_rfl
 v4 := fun w => by kernel_rfl
 t5 := by kernel_rfl
 a5 := fun w => by kernel_rfl
 z5 := fun w => by kernel_rfl
 v5 := fun w => by kernel_rfl
 t9 := by kernel_rfl
 a9 := fun w => by kernel_rfl
 z9 := fun w => by kernel_rfl
 v9 := fun w => by kernel_rfl
 t12 := by kernel_rfl
 a12 := fun w => by kernel_rfl
 z12 := fun w => by kernel_rfl
 v12 := fun w => by kernel_rfl
 t46 := by kernel_rfl
 a46 := fun w => by kernel_rfl
 z46 := fun w => by kernel_rfl
 v46 := fun w => by kernel_rfl
 t53 := by kernel_rfl
 a53 := fun w => by kernel_rfl
 z53 := fun w => by kernel_rfl
 v53 := fun w => by kernel_rfl
 t119 := by kernel_rfl
 a119 := fun w => by kernel_rfl
 z119 := fun w => by kernel_rfl
 t138 := by kernel_rfl
 a138 := fun w => by kernel_rfl
 z138 := fun w => by kernel_rfl
 v138 := fun w => by kernel_rfl
 t139 := by kernel_rfl
 a139 := fun w => by kernel_rfl
 z139 := fun w => by kernel_rfl
 v139 := fun w => by kernel_rfl
 g3 := by kernel_rfl
 g4 := by kernel_rfl
def utf8_ValidString (p1 : ByteArray) : Option Bool := bB (p1.size ≤ 9223372036854775807) <| some (validD p1.data.toList)
theorem oc (p1 : ByteArray) (r : Bool) (h : utf8_ValidString p1 = some r) : PC Tryz.prog 162 [vs p1] (vb r) := by
 unfold utf8_ValidString at h
 obtain ⟨g1, h⟩ := gq h
 obtain rfl := Option.some.inj h
 exact wG H3 (by kernel_rfl) (by kernel_rfl) p1 g1
end Go.Proofs.YtpmoopnkoknbeaaGreatDoor
namespace Go.Proofs.YtpmoopnkoknbeaaGreatDoor
open Go Go.SX Go.Shelf Go.Lib Go.Proofs Go.RowKit
def tS : Ren where
 f := fun n => if n = 99 then 168 else if n = 105 then 131 else if n = 119 then 205 else if n = 129 then 194 else if n = 137 then 204 else if n = 138 then 132 else if n = 143 then 133 else if n = 145 then 80 else if n = 151 then 158 else if n = 152 then 187 else if n = 154 then 96 else if n = 155 then 52 else if n = 156 then 54 else if n = 161 then 79 else if n = 165 then 98 else if n = 166 then 81 else if n = 169 then 82 else if n = 170 then 169 else if n = 171 then 50 else if n = 172 then 78 else if n = 195 then 170 else if n = 197 then 134 else if n = 205 then 186 else if n = 206 then 151 else if n = 212 then 167 else if n = 217 then 188 else if n = 218 then 171 else if n = 219 then 159 else if n = 220 then 124 else if n = 224 then 190 else if n = 225 then 189 else if n = 227 then 121 else if n = 228 then 157 else if n = 231 then 120 else if n = 233 then 122 else if n = 235 then 123 else if n = 240 then 125 else if n = 241 then 137 else if n = 243 then 94 else if n = 244 then 118 else if n = 245 then 119 else if n = 246 then 130 else if n = 247 then 152 else if n = 260 then 172 else if n = 263 then 198 else if n = 264 then 174 else if n = 266 then 206 else if n = 267 then 191 else if n = 276 then 160 else if n = 277 then 173 else if n = 279 then 153 else if n = 280 then 154 else if n = 281 then 155 else if n = 282 then 156 else if n = 283 then 163 else if n = 284 then 164 else if n = 285 then 165 else if n = 286 then 166 else if n = 287 then 184 else if n = 314 then 207 else if n = 316 then 185 else if n = 317 then 193 else if n = 318 then 195 else if n = 319 then 196 else if n = 320 then 197 else if n = 321 then 202 else if n = 322 then 203 else if n = 337 then 208 else if n = 338 then 209 else n
 t := fun n => if n = 0 then 0 else if n = 2 then 2 else if n = 3 then 3 else if n = 4 then 4 else if n = 5 then 5 else if n = 9 then 9 else if n = 20 then 20 else if n = 21 then 21 else if n = 31 then 70 else if n = 37 then 100 else if n = 46 then 173 else if n = 51 then 202 else if n = 53 then 86 else if n = 59 then 103 else if n = 70 then 99 else if n = 72 then 102 else if n = 75 then 95 else if n = 76 then 96 else if n = 80 then 60 else if n = 85 then 159 else if n = 105 then 138 else if n = 109 then 174 else if n = 116 then 128 else if n = 117 then 129 else if n = 119 then 196 else if n = 124 then 132 else if n = 127 then 133 else if n = 138 then 198 else if n = 139 then 199 else if n = 143 then 209 else if n = 145 then 211 else if n = 146 then 205 else if n = 148 then 178 else if n = 164 then 166 else if n = 167 then 158 else if n = 168 then 161 else if n = 171 then 168 else if n = 173 then 171 else if n = 175 then 189 else if n = 210 then 192 else if n = 212 then 201 else if n = 213 then 203 else if n = 232 then 214 else if n = 233 then 215 else n
 g := fun n => if n = 1 then 2 else if n = 3 then 3 else if n = 4 then 4 else if n = 15 then 0 else if n = 16 then 1 else if n = 17 then 5 else if n = 18 then 6 else if n = 19 then 7 else n
set_option maxRecDepth 100000 in
theorem MD : LaysM.n171 Tryz.prog tS where
 mixed := by kernel_rfl
 f129 := by kernel_rfl
 f171 := by kernel_rfl
 f243 := by kernel_rfl
 f246 := by kernel_rfl
 f283 := by kernel_rfl
 f284 := by kernel_rfl
 f285 := by kernel_rfl
 f286 := by kernel_rfl
 f317 := by kernel_rfl
 f318 := by kernel_rfl
 f319 := by kernel_rfl
 f320 := by kernel_rfl
 f337 := by kernel_rfl
 f338 := by kernel_rfl
 t0 := by kernel_rfl
 a0 := fun w => by kernel_rfl
 z0 := fun w => by kernel_rfl
 v0 := fun w => by kernel_rfl
 t2 := by kernel_rfl
 a2 := fun w => by kernel_rfl
 z2 := fun w => by kernel_rfl
 v2 := fun w => by kernel_rfl
 t3 := by kernel_rfl
 a3 := fun w => by kernel_rfl
 z3 := fun w => by kernel_rfl
 v3 := fun w => by kernel_rfl
 t4 := by kernel_rfl
 a4 := fun w => by kernel_rfl
 z4 := fun w => by kernel_rfl
 v4 := fun w => by kernel_rfl
 t5 := by kernel_rfl
 a5 := fun w => by kernel_rfl
 z5 := fun w => by kernel_rfl
 v5 := fun w => by kernel_rfl
 t9 := by kernel_rfl
 a9 := fun w => by kernel_rfl
 z9 := fun w => by kernel_rfl
 v9 := fun w => by kernel_rfl
 t20 := by kernel_rfl
 a20 := fun w => by kernel_rfl
 z20 := fun w => by kernel_rfl
 v20 := fun w => by kernel_rfl
 t37 := by kernel_rfl
 a37 := fun w => by kernel_rfl
 z37 := fun w => by kernel_rfl
 v37 := fun w => by kernel_rfl
 t46 := by kernel_rfl
 a46 := fun w => by kernel_rfl
 z46 := fun w => by kernel_rfl
 v46 := fun w => by kernel_rfl
 t51 := by kernel_rfl
 a51 := fun w => by kernel_rfl
 z51 := fun w => by kernel_rfl
 v51 := fun w => by kernel_rfl
 t53 := by kernel_rfl
 a53 := fun w => by kernel_rfl
 z53 := fun w => by kernel_rfl
 v53 := fun w => by kernel_rfl
 t171 := by kernel_rfl
 a171 := fun w => by kernel_rfl
 z171 := fun w => by kernel_rfl
 v171 := fun w => by kernel_rfl
 t173 := by kernel_rfl
 a173 := fun w => by kernel_rfl
 z173 := fun w => by kernel_rfl
 v173 := fun w => by kernel_rfl
 t212 := by kernel_rfl
 a212 := fun w => by kernel_rfl
 z212 := fun w => by kernel_rfl
 v212 := fun w => by kernel_rfl
 t213 := by kernel_rfl
 a213 := fun w => by kernel_rfl
 z213 := fun w => by kernel_rfl
 t232 := by kernel_rfl
 a232 := fun w => by kernel_rfl
 z232 := fun w => by kernel_rfl
 v232 := fun w => by kernel_rfl
 t233 := by kernel_rfl
 a233 := fun w => by kernel_rfl
 z233 := fun w => by kernel_rfl
 v233 := fun w => by kernel_rfl
 g17 := by kernel_rfl
 g18 := by kernel_rfl
 g19 := by kernel_rfl
 i0 := by kernel_rfl
 i2 := by kernel_rfl
 i3 := by kernel_rfl
 i4 := by kernel_rfl
 i5 := by kernel_rfl
 i9 := by kernel_rfl
 i20 := by kernel_rfl
 i37 := by kernel_rfl
 i46 := by kernel_rfl
 i51 := by kernel_rfl
 i53 := by kernel_rfl
 i171 := by kernel_rfl
 i173 := by kernel_rfl
 i212 := by kernel_rfl
 i232 := by kernel_rfl
 i233 := by kernel_rfl
 m17 := by kernel_rfl
 m18 := by kernel_rfl
 m19 := by kernel_rfl
set_option maxRecDepth 100000 in
theorem MO : Lays.n105 Tryz.prog tS where
 mixed := by kernel_rfl
 f99 := by kernel_rfl
 f105 := by kernel_rfl
 f165 := by kernel_rfl
 f166 := by kernel_rfl
 f169 := by kernel_rfl
 f170 := by kernel_rfl
 f206 := by kernel_rfl
 f212 := by kernel_rfl
 f240 := by kernel_rfl
 f241 := by kernel_rfl
 f263 := by kernel_rfl
 f264 := by kernel_rfl
 f276 := by kernel_rfl
 f277 := by kernel_rfl
 t0 := by kernel_rfl
 a0 := fun w => by kernel_rfl
 z0 := fun w => by kernel_rfl
 v0 := fun w => by kernel_rfl
 t3 := by kernel_rfl
 a3 := fun w => by kernel_rfl
 z3 := fun w => by kernel_rfl
 v3 := fun w => by kernel_rfl
 t4 := by kernel_rfl
 a4 := fun w => by kernel_rfl
 z4 := fun w => by kernel_rfl
 v4 := fun w => by kernel_rfl
 t5 := by kernel_rfl
 a5 := fun w => by kernel_rfl
 z5 := fun w => by kernel_rfl
 v5 := fun w => by kernel_rfl
 t9 := by kernel_rfl
 a9 := fun w => by kernel_rfl
 z9 := fun w => by kernel_rfl
 v9 := fun w => by kernel_rfl
 t20 := by kernel_rfl
 a20 := fun w => by kernel_rfl
 z20 := fun w => by kernel_rfl
 v20 := fun w => by kernel_rfl
 t37 := by kernel_rfl
 a37 := fun w => by kernel_rfl
 z37 := fun w => by kernel_rfl
 v37 := fun w => by kernel_rfl
 t46 := by kernel_rfl
 a46 := fun w => by kernel_rfl
 z46 := fun w => by kernel_rfl
 v46 := fun w => by kernel_rfl
 t51 := by kernel_rfl
 a51 := fun w => by kernel_rfl
 z51 := fun w => by kernel_rfl
 v51 := fun w => by kernel_rfl
 t53 := by kernel_rfl
 a53 := fun w => by kernel_rfl
 z53 := fun w => by kernel_rfl
 v53 := fun w => by kernel_rfl
 t70 := by kernel_rfl
 a70 := fun w => by kernel_rfl
 z70 := fun w => by kernel_rfl
 v70 := fun w => by kernel_rfl
 t72 := by kernel_rfl
 a72 := fun w => by kernel_rfl
 z72 := fun w => by kernel_rfl
 v72 := fun w => by kernel_rfl
 t75 := by kernel_rfl
 a75 := fun w => by kernel_rfl
 z75 := fun w => by kernel_rfl
 v75 := fun w => by kernel_rfl
 t76 := by kernel_rfl
 a76 := fun w => by kernel_rfl
 z76 := fun w => by kernel_rfl
 v76 := fun w => by kernel_rfl
 t109 := by kernel_rfl
 a109 := fun w => by kernel_rfl
 z109 := fun w => by kernel_rfl
 v109 := fun w => by kernel_rfl
 t127 := by kernel_rfl
 a127 := fun w => by kernel_rfl
 z127 := fun w => by kernel_rfl
 v127 := fun w => by kernel_rfl
 t146 := by kernel_rfl
 a146 := fun w => by kernel_rfl
 z146 := fun w => by kernel_rfl
 v146 := fun w => by kernel_rfl
 t148 := by kernel_rfl
 a148 := fun w => by kernel_rfl
 z148 := fun w => by kernel_rfl
 v148 := fun w => by kernel_rfl
 t164 := by kernel_rfl
 a164 := fun w => by kernel_rfl
 z164 := fun w => by kernel_rfl
 v164 := fun w => by kernel_rfl
set_option maxRecDepth 100000 in
theorem MP : Lays.n155 Tryz.prog tS where
 mixed := by kernel_rfl
 f138 := by kernel_rfl
 f143 := by kernel_rfl
 f154 := by kernel_rfl
 f155 := by kernel_rfl
 f165 := by kernel_rfl
 f166 := by kernel_rfl
 f169 := by kernel_rfl
 f195 := by kernel_rfl
 f197 := by kernel_rfl
 f217 := by kernel_rfl
 f218 := by kernel_rfl
 f219 := by kernel_rfl
 f224 := by kernel_rfl
 f225 := by kernel_rfl
 f240 := by kernel_rfl
 f241 := by kernel_rfl
 f260 := by kernel_rfl
 f266 := by kernel_rfl
 f267 := by kernel_rfl
 f276 := by kernel_rfl
 f277 := by kernel_rfl
 f314 := by kernel_rfl
 t0 := by kernel_rfl
 a0 := fun w => by kernel_rfl
 z0 := fun w => by kernel_rfl
 v0 := fun w => by kernel_rfl
 t3 := by kernel_rfl
 a3 := fun w => by kernel_rfl
 z3 := fun w => by kernel_rfl
 v3 := fun w => by kernel_rfl
 t4 := by kernel_rfl
 a4 := fun w => by kernel_rfl
 z4 := fun w => by kernel_rfl
 v4 := fun w => by kernel_rfl
 t5 := by kernel_rfl
 a5 := fun w => by kernel_rfl
 z5 := fun w => by kernel_rfl
 v5 := fun w => by kernel_rfl
 t9 := by kernel_rfl
 a9 := fun w => by kernel_rfl
 z9 := fun w => by kernel_rfl
 v9 := fun w => by kernel_rfl
 t20 := by kernel_rfl
 a20 := fun w => by kernel_rfl
 z20 := fun w => by kernel_rfl
 v20 := fun w => by kernel_rfl
 t21 := by kernel_rfl
 a21 := fun w => by kernel_rfl
 z21 := fun w => by kernel_rfl
 v21 := fun w => by kernel_rfl
 t37 := by kernel_rfl
 a37 := fun w => by kernel_rfl
 z37 := fun w => by kernel_rfl
 v37 := fun w => by kernel_rfl
 t46 := by kernel_rfl
 a46 := fun w => by kernel_rfl
 z46 := fun w => by kernel_rfl
 v46 := fun w => by kernel_rfl
 t51 := by kernel_rfl
 a51 := fun w => by kernel_rfl
 z51 := fun w => by kernel_rfl
 v51 := fun w => by kernel_rfl
 t70 := by kernel_rfl
 a70 := fun w => by kernel_rfl
 z70 := fun w => by kernel_rfl
 v70 := fun w => by kernel_rfl
 t72 := by kernel_rfl
 a72 := fun w => by kernel_rfl
 z72 := fun w => by kernel_rfl
 v72 := fun w => by kernel_rfl
 t75 := by kernel_rfl
 a75 := fun w => by kernel_rfl
 z75 := fun w => by kernel_rfl
 v75 := fun w => by kernel_rfl
 t76 := by kernel_rfl
 a76 := fun w => by kernel_rfl
 z76 := fun w => by kernel_rfl
 v76 := fun w => by kernel_rfl
 t105 := by kernel_rfl
 a105 := fun w => by kernel_rfl
 z105 := fun w => by kernel_rfl
 v105 := fun w => by kernel_rfl
 t119 := by kernel_rfl
 a119 := fun w => by kernel_rfl
 z119 := fun w => by kernel_rfl
 t127 := by kernel_rfl
 a127 := fun w => by kernel_rfl
 z127 := fun w => by kernel_rfl
 v127 := fun w => by kernel_rfl
 t138 := by kernel_rfl
 a138 := fun w => by kernel_rfl
 z138 := fun w => by kernel_rfl
 v138 := fun w => by kernel_rfl
 t139 := by kernel_rfl
 a139 := fun w => by kernel_rfl
 z139 := fun w => by kernel_rfl
 v139 := fun w => by kernel_rfl
 t146 := by kernel_rfl
 a146 := fun w => by kernel_rfl
 z146 := fun w => by kernel_rfl
 v146 := fun w => by kernel_rfl
 t164 := by kernel_rfl
 a164 := fun w => by kernel_rfl
 z164 := fun w => by kernel_rfl
 v164 := fun w => by kernel_rfl
 g1 := by kernel_rfl
 g3 := by kernel_rfl
 g4 := by kernel_rfl
set_option maxRecDepth 100000 in
theorem JO : Lays.n156 Tryz.prog tS where
 mixed := by kernel_rfl
 f156 := by kernel_rfl
 f165 := by kernel_rfl
 f166 := by kernel_rfl
 f169 := by kernel_rfl
 f240 := by kernel_rfl
 f241 := by kernel_rfl
 f276 := by kernel_rfl
 f277 := by kernel_rfl
 t0 := by kernel_rfl
 a0 := fun w => by kernel_rfl
 z0 := fun w => by kernel_rfl
 v0 := fun w => by kernel_rfl
 t3 := by kernel_rfl
 a3 := fun w => by kernel_rfl
 z3 := fun w => by kernel_rfl
 v3 := fun w => by kernel_rfl
 t4 := by kernel_rfl
 a4 := fun w => by kernel_rfl
 z4 := fun w => by kernel_rfl
 v4 := fun w => by kernel_rfl
 t9 := by kernel_rfl
 a9 := fun w => by kernel_rfl
 z9 := fun w => by kernel_rfl
 v9 := fun w => by kernel_rfl
 t20 := by kernel_rfl
 a20 := fun w => by kernel_rfl
 z20 := fun w => by kernel_rfl
 v20 := fun w => by kernel_rfl
 t31 := by kernel_rfl
 a31 := fun w => by kernel_rfl
 z31 := fun w => by kernel_rfl
 v31 := fun w => by kernel_rfl
 t37 := by kernel_rfl
 a37 := fun w => by kernel_rfl
 z37 := fun w => by kernel_rfl
 v37 := fun w => by kernel_rfl
 t70 := by kernel_rfl
 a70 := fun w => by kernel_rfl
 z70 := fun w => by kernel_rfl
 v70 := fun w => by kernel_rfl
 t72 := by kernel_rfl
 a72 := fun w => by kernel_rfl
 z72 := fun w => by kernel_rfl
 v72 := fun w => by kernel_rfl
 t75 := by kernel_rfl
 a75 := fun w => by kernel_rfl
 z75 := fun w => by kernel_rfl
 v75 := fun w => by kernel_rfl
 t76 := by kernel_rfl
 a76 := fun w => by kernel_rfl
 z76 := fun w => by kernel_rfl
 v76 := fun w => by kernel_rfl
 t127 := by kernel_rfl
 a127 := fun w => by kernel_rfl
 z127 := fun w => by kernel_rfl
 v127 := fun w => by kernel_rfl
 t164 := by kernel_rfl
 a164 := fun w => by kernel_rfl
 z164 := fun w => by kernel_rfl
 v164 := fun w => by kernel_rfl
set_option maxRecDepth 100000 in
theorem ML : Lays.n161 Tryz.prog tS where
 mixed := by kernel_rfl
 f119 := by kernel_rfl
 f137 := by kernel_rfl
 f151 := by kernel_rfl
 f152 := by kernel_rfl
 f161 := by kernel_rfl
 f197 := by kernel_rfl
 f217 := by kernel_rfl
 f224 := by kernel_rfl
 f225 := by kernel_rfl
 f227 := by kernel_rfl
 f228 := by kernel_rfl
 f231 := by kernel_rfl
 f233 := by kernel_rfl
 f235 := by kernel_rfl
 f260 := by kernel_rfl
 f266 := by kernel_rfl
 t0 := by kernel_rfl
 a0 := fun w => by kernel_rfl
 z0 := fun w => by kernel_rfl
 v0 := fun w => by kernel_rfl
 t3 := by kernel_rfl
 a3 := fun w => by kernel_rfl
 z3 := fun w => by kernel_rfl
 v3 := fun w => by kernel_rfl
 t4 := by kernel_rfl
 a4 := fun w => by kernel_rfl
 z4 := fun w => by kernel_rfl
 v4 := fun w => by kernel_rfl
 t5 := by kernel_rfl
 a5 := fun w => by kernel_rfl
 z5 := fun w => by kernel_rfl
 v5 := fun w => by kernel_rfl
 t9 := by kernel_rfl
 a9 := fun w => by kernel_rfl
 z9 := fun w => by kernel_rfl
 v9 := fun w => by kernel_rfl
 t21 := by kernel_rfl
 a21 := fun w => by kernel_rfl
 z21 := fun w => by kernel_rfl
 v21 := fun w => by kernel_rfl
 t46 := by kernel_rfl
 a46 := fun w => by kernel_rfl
 z46 := fun w => by kernel_rfl
 v46 := fun w => by kernel_rfl
 t105 := by kernel_rfl
 a105 := fun w => by kernel_rfl
 z105 := fun w => by kernel_rfl
 v105 := fun w => by kernel_rfl
 t116 := by kernel_rfl
 a116 := fun w => by kernel_rfl
 z116 := fun w => by kernel_rfl
 t117 := by kernel_rfl
 a117 := fun w => by kernel_rfl
 z117 := fun w => by kernel_rfl
 v117 := fun w => by kernel_rfl
 t119 := by kernel_rfl
 a119 := fun w => by kernel_rfl
 z119 := fun w => by kernel_rfl
 t124 := by kernel_rfl
 a124 := fun w => by kernel_rfl
 z124 := fun w => by kernel_rfl
 v124 := fun w => by kernel_rfl
 t138 := by kernel_rfl
 a138 := fun w => by kernel_rfl
 z138 := fun w => by kernel_rfl
 v138 := fun w => by kernel_rfl
 t139 := by kernel_rfl
 a139 := fun w => by kernel_rfl
 z139 := fun w => by kernel_rfl
 v139 := fun w => by kernel_rfl
 g3 := by kernel_rfl
 g4 := by kernel_rfl
set_option maxRecDepth 100000 in
theorem Kr : LaysC.n172 Tryz.prog tS where
 mixed := by kernel_rfl
 f129 := by kernel_rfl
 f171 := by kernel_rfl
 f172 := by kernel_rfl
 f205 := by kernel_rfl
 f243 := by kernel_rfl
 f244 := by kernel_rfl
 f245 := by kernel_rfl
 f246 := by kernel_rfl
 f247 := by kernel_rfl
 f279 := by kernel_rfl
 f280 := by kernel_rfl
 f281 := by kernel_rfl
 f282 := by kernel_rfl
 f283 := by kernel_rfl
 f284 := by kernel_rfl
 f285 := by kernel_rfl
 f286 := by kernel_rfl
 f287 := by kernel_rfl
 f316 := by kernel_rfl
 f317 := by kernel_rfl
 f318 := by kernel_rfl
 f319 := by kernel_rfl
 f320 := by kernel_rfl
 f321 := by kernel_rfl
 f322 := by kernel_rfl
 f337 := by kernel_rfl
 f338 := by kernel_rfl
 t0 := by kernel_rfl
 a0 := fun w => by kernel_rfl
 z0 := fun w => by kernel_rfl
 v0 := fun w => by kernel_rfl
 t2 := by kernel_rfl
 a2 := fun w => by kernel_rfl
 z2 := fun w => by kernel_rfl
 v2 := fun w => by kernel_rfl
 t3 := by kernel_rfl
 a3 := fun w => by kernel_rfl
 z3 := fun w => by kernel_rfl
 v3 := fun w => by kernel_rfl
 t4 := by kernel_rfl
 a4 := fun w => by kernel_rfl
 z4 := fun w => by kernel_rfl
 v4 := fun w => by kernel_rfl
 t5 := by kernel_rfl
 a5 := fun w => by kernel_rfl
 z5 := fun w => by kernel_rfl
 v5 := fun w => by kernel_rfl
 t9 := by kernel_rfl
 a9 := fun w => by kernel_rfl
 z9 := fun w => by kernel_rfl
 v9 := fun w => by kernel_rfl
 t20 := by kernel_rfl
 a20 := fun w => by kernel_rfl
 z20 := fun w => by kernel_rfl
 v20 := fun w => by kernel_rfl
 t21 := by kernel_rfl
 a21 := fun w => by kernel_rfl
 z21 := fun w => by kernel_rfl
 v21 := fun w => by kernel_rfl
 t37 := by kernel_rfl
 a37 := fun w => by kernel_rfl
 z37 := fun w => by kernel_rfl
 v37 := fun w => by kernel_rfl
 t46 := by kernel_rfl
 a46 := fun w => by kernel_rfl
 z46 := fun w => by kernel_rfl
 v46 := fun w => by kernel_rfl
 t51 := by kernel_rfl
 a51 := fun w => by kernel_rfl
 z51 := fun w => by kernel_rfl
 v51 := fun w => by kernel_rfl
 t53 := by kernel_rfl
 a53 := fun w => by kernel_rfl
 z53 := fun w => by kernel_rfl
 v53 := fun w => by kernel_rfl
 t75 := by kernel_rfl
 a75 := fun w => by kernel_rfl
 z75 := fun w => by kernel_rfl
 v75 := fun w => by kernel_rfl
 t76 := by kernel_rfl
 a76 := fun w => by kernel_rfl
 z76 := fun w => by kernel_rfl
 v76 := fun w => by kernel_rfl
 t85 := by kernel_rfl
 a85 := fun w => by kernel_rfl
 z85 := fun w => by kernel_rfl
 v85 := fun w => by kernel_rfl
 t127 := by kernel_rfl
 a127 := fun w => by kernel_rfl
 z127 := fun w => by kernel_rfl
 v127 := fun w => by kernel_rfl
 t143 := by kernel_rfl
 a143 := fun w => by kernel_rfl
 z143 := fun w => by kernel_rfl
 v143 := fun w => by kernel_rfl
 t145 := by kernel_rfl
 a145 := fun w => by kernel_rfl
 z145 := fun w => by kernel_rfl
 v145 := fun w => by kernel_rfl
 t167 := by kernel_rfl
 a167 := fun w => by kernel_rfl
 z167 := fun w => by kernel_rfl
 v167 := fun w => by kernel_rfl
 t168 := by kernel_rfl
 a168 := fun w => by kernel_rfl
 z168 := fun w => by kernel_rfl
 v168 := fun w => by kernel_rfl
 t171 := by kernel_rfl
 a171 := fun w => by kernel_rfl
 z171 := fun w => by kernel_rfl
 v171 := fun w => by kernel_rfl
 t173 := by kernel_rfl
 a173 := fun w => by kernel_rfl
 z173 := fun w => by kernel_rfl
 v173 := fun w => by kernel_rfl
 t175 := by kernel_rfl
 a175 := fun w => by kernel_rfl
 z175 := fun w => by kernel_rfl
 v175 := fun w => by kernel_rfl
 t210 := by kernel_rfl
 a210 := fun w => by kernel_rfl
 z210 := fun w => by kernel_rfl
 v210 := fun w => by kernel_rfl
 t212 := by kernel_rfl
 a212 := fun w => by kernel_rfl
 z212 := fun w => by kernel_rfl
 v212 := fun w => by kernel_rfl
 t213 := by kernel_rfl
 a213 := fun w => by kernel_rfl
 z213 := fun w => by kernel_rfl
 t232 := by kernel_rfl
 a232 := fun w => by kernel_rfl
 z232 := fun w => by kernel_rfl
 v232 := fun w => by kernel_rfl
 t233 := by kernel_rfl
 a233 := fun w => by kernel_rfl
 z233 := fun w => by kernel_rfl
 v233 := fun w => by kernel_rfl
 g15 := by kernel_rfl
 g16 := by kernel_rfl
 g17 := by kernel_rfl
 g18 := by kernel_rfl
 g19 := by kernel_rfl
 t80 := by kernel_rfl
 a80 := fun w => by kernel_rfl
 z80 := fun w => by kernel_rfl
 v80 := fun w => by kernel_rfl
 i0 := by kernel_rfl
 i2 := by kernel_rfl
 i3 := by kernel_rfl
 i4 := by kernel_rfl
 i5 := by kernel_rfl
 i9 := by kernel_rfl
 i20 := by kernel_rfl
 i21 := by kernel_rfl
 i37 := by kernel_rfl
 i46 := by kernel_rfl
 i51 := by kernel_rfl
 i53 := by kernel_rfl
 i75 := by kernel_rfl
 i76 := by kernel_rfl
 i80 := by kernel_rfl
 i85 := by kernel_rfl
 i127 := by kernel_rfl
 i143 := by kernel_rfl
 i145 := by kernel_rfl
 i167 := by kernel_rfl
 i168 := by kernel_rfl
 i171 := by kernel_rfl
 i173 := by kernel_rfl
 i175 := by kernel_rfl
 i210 := by kernel_rfl
 i212 := by kernel_rfl
 i232 := by kernel_rfl
 i233 := by kernel_rfl
 m15 := by kernel_rfl
 m16 := by kernel_rfl
 m17 := by kernel_rfl
 m18 := by kernel_rfl
 m19 := by kernel_rfl
 c0 := by kernel_rfl
 c2 := by kernel_rfl
 c3 := by kernel_rfl
 c4 := by kernel_rfl
 c5 := by kernel_rfl
 c9 := by kernel_rfl
 c20 := by kernel_rfl
 c21 := by kernel_rfl
 c37 := by kernel_rfl
 c46 := by kernel_rfl
 c51 := by kernel_rfl
 c53 := by kernel_rfl
 c75 := by kernel_rfl
 c76 := by kernel_rfl
 c80 := by kernel_rfl
 c85 := by kernel_rfl
 c127 := by kernel_rfl
 c143 := by kernel_rfl
 c145 := by kernel_rfl
 c167 := by kernel_rfl
 c168 := by kernel_rfl
 c171 := by kernel_rfl
 c173 := by kernel_rfl
 c175 := by kernel_rfl
 c210 := by kernel_rfl
 c212 := by kernel_rfl
 c213 := by kernel_rfl
 c232 := by kernel_rfl
 c233 := by kernel_rfl
set_option maxRecDepth 100000 in
theorem Ll : Lays.n145 Tryz.prog tS where
 mixed := by kernel_rfl
 f145 := by kernel_rfl
 f217 := by kernel_rfl
 f219 := by kernel_rfl
 f220 := by kernel_rfl
 f224 := by kernel_rfl
 f225 := by kernel_rfl
 f266 := by kernel_rfl
 f267 := by kernel_rfl
 f314 := by kernel_rfl
 t3 := by kernel_rfl
 a3 := fun w => by kernel_rfl
 z3 := fun w => by kernel_rfl
 v3 := fun w => by kernel_rfl
 t4 := by kernel_rfl
 a4 := fun w => by kernel_rfl
 z4 := fun w => by kernel_rfl
 v4 := fun w => by kernel_rfl
 t5 := by kernel_rfl
 a5 := fun w => by kernel_rfl
 z5 := fun w => by kernel_rfl
 v5 := fun w => by kernel_rfl
 t9 := by kernel_rfl
 a9 := fun w => by kernel_rfl
 z9 := fun w => by kernel_rfl
 v9 := fun w => by kernel_rfl
 t46 := by kernel_rfl
 a46 := fun w => by kernel_rfl
 z46 := fun w => by kernel_rfl
 v46 := fun w => by kernel_rfl
 t51 := by kernel_rfl
 a51 := fun w => by kernel_rfl
 z51 := fun w => by kernel_rfl
 v51 := fun w => by kernel_rfl
 t59 := by kernel_rfl
 a59 := fun w => by kernel_rfl
 z59 := fun w => by kernel_rfl
 v59 := fun w => by kernel_rfl
 t146 := by kernel_rfl
 a146 := fun w => by kernel_rfl
 z146 := fun w => by kernel_rfl
 v146 := fun w => by kernel_rfl
 g1 := by kernel_rfl
set_option maxRecDepth 100000 in
theorem MS : Lays.n169 Tryz.prog tS where
 mixed := by kernel_rfl
 f169 := by kernel_rfl
 t0 := by kernel_rfl
 a0 := fun w => by kernel_rfl
 z0 := fun w => by kernel_rfl
 v0 := fun w => by kernel_rfl
 t3 := by kernel_rfl
 a3 := fun w => by kernel_rfl
 z3 := fun w => by kernel_rfl
 v3 := fun w => by kernel_rfl
 t9 := by kernel_rfl
 a9 := fun w => by kernel_rfl
 z9 := fun w => by kernel_rfl
 v9 := fun w => by kernel_rfl
 t37 := by kernel_rfl
 a37 := fun w => by kernel_rfl
 z37 := fun w => by kernel_rfl
 v37 := fun w => by kernel_rfl
 t70 := by kernel_rfl
 a70 := fun w => by kernel_rfl
 z70 := fun w => by kernel_rfl
 v70 := fun w => by kernel_rfl
 t72 := by kernel_rfl
 a72 := fun w => by kernel_rfl
 z72 := fun w => by kernel_rfl
 v72 := fun w => by kernel_rfl
 t127 := by kernel_rfl
 a127 := fun w => by kernel_rfl
 z127 := fun w => by kernel_rfl
 v127 := fun w => by kernel_rfl
set_option maxRecDepth 100000 in
theorem Li : Lays.n166 Tryz.prog tS where
 mixed := by kernel_rfl
 f166 := by kernel_rfl
 f240 := by kernel_rfl
 f276 := by kernel_rfl
 t0 := by kernel_rfl
 a0 := fun w => by kernel_rfl
 z0 := fun w => by kernel_rfl
 v0 := fun w => by kernel_rfl
 t3 := by kernel_rfl
 a3 := fun w => by kernel_rfl
 z3 := fun w => by kernel_rfl
 v3 := fun w => by kernel_rfl
 t4 := by kernel_rfl
 a4 := fun w => by kernel_rfl
 z4 := fun w => by kernel_rfl
 v4 := fun w => by kernel_rfl
 t9 := by kernel_rfl
 a9 := fun w => by kernel_rfl
 z9 := fun w => by kernel_rfl
 v9 := fun w => by kernel_rfl
 t20 := by kernel_rfl
 a20 := fun w => by kernel_rfl
 z20 := fun w => by kernel_rfl
 v20 := fun w => by kernel_rfl
 t37 := by kernel_rfl
 a37 := fun w => by kernel_rfl
 z37 := fun w => by kernel_rfl
 v37 := fun w => by kernel_rfl
 t70 := by kernel_rfl
 a70 := fun w => by kernel_rfl
 z70 := fun w => by kernel_rfl
 v70 := fun w => by kernel_rfl
 t72 := by kernel_rfl
 a72 := fun w => by kernel_rfl
 z72 := fun w => by kernel_rfl
 v72 := fun w => by kernel_rfl
 t75 := by kernel_rfl
 a75 := fun w => by kernel_rfl
 z75 := fun w => by kernel_rfl
 v75 := fun w => by kernel_rfl
 t164 := by kernel_rfl
 a164 := fun w => by kernel_rfl
 z164 := fun w => by kernel_rfl
 v164 := fun w => by kernel_rfl
theorem Jz : Builder.Extra Tryz.prog tS where
 sizeBuilder := by kernel_rfl
 liesBuilder := by kernel_rfl
 t5 := by kernel_rfl
 a5 := fun w => by kernel_rfl
 z5 := fun w => by kernel_rfl
 v5 := fun w => by kernel_rfl
 infoByte := by kernel_rfl
 cellsByte := by kernel_rfl
 sizeByte := by kernel_rfl
 neB5 := by decide
end Go.Proofs.YtpmoopnkoknbeaaGreatDoor
namespace Go.PX
open Go.Lib
def oQ (b : UInt8) : Bool := Nat.ble 48 b.toNat && Nat.ble b.toNat 57
theorem ry (b : UInt8) : oQ b = true ↔ 48 ≤ b.toNat ∧ b.toNat ≤ 57 := by simp [oQ]
def step (a : Nat) (b : UInt8) : Nat := a * 10 + (b.toNat - 48)
def num (a : Nat) (l : List UInt8) : Nat := l.foldl step a
theorem mG (a : Nat) (b : UInt8) (l : List UInt8) : num a (b :: l) = num (a * 10 + (b.toNat - 48)) l := by unfold num; rw [List.foldl_cons, step]
theorem zZ (a : Nat) : num a [] = a := rfl
theorem sM (l r : List UInt8) (a : Nat) : num a (l ++ r) = num (num a l) r := by unfold num; rw [List.foldl_append]
theorem F1 : ∀ (l : List UInt8) (a : Nat), a ≤ num a l
 | [], a => Nat.le_refl _
 | b :: l, a => by
  rw [mG]
  exact Nat.le_trans (by omega) (F1 l (a * 10 + (b.toNat - 48)))
theorem Gi : ∀ (l : List UInt8) (a k : Nat), l.all oQ = true → a < 10 ^ k → num a l < 10 ^ (k + l.length)
 | [], a, k, _, h => h
 | b :: l, a, k, hd, h => by
  simp only [List.all_cons, Bool.and_eq_true, ry] at hd
  have := Gi l (a * 10 + (b.toNat - 48)) (k + 1) hd.2 (by rw [Nat.pow_succ]; omega)
  simp only [mG, List.length_cons]
  rw [show k + (l.length + 1) = k + 1 + l.length by omega]
  exact this
theorem wL : ∀ (l : List UInt8) (a : Nat), l.all oQ = true → num a l < 18446744073709551616 → parseUint10 a l = .ok (num a l)
 | [], a, _, _ => rfl
 | b :: l, a, hd, h => by
  simp only [List.all_cons, Bool.and_eq_true, ry] at hd
  have h1 := F1 l (a * 10 + (b.toNat - 48))
  simp only [mG] at h
  simp only [parseUint10, mG, if_pos hd.1]
  rw [if_neg (by omega), if_neg (by omega)]
  exact wL l _ hd.2 h
def kz (k u : Nat) : List UInt8 := List.replicate (k - (decDigits u).length) 48 ++ decDigits u
theorem uB (d : Nat) (h : d < 10) : oQ (UInt8.ofNat (48 + d)) = true ∧ (UInt8.ofNat (48 + d)).toNat - 48 = d := by
 have : (UInt8.ofNat (48 + d)).toNat = 48 + d := by
  simp only [UInt8.toNat_ofNat']
  omega
 exact ⟨(ry _).2 (by omega), by omega⟩
theorem jj (u : Nat) : (decDigits u).all oQ = true ∧ num 0 (decDigits u) = u ∧ decDigits u ≠ [] := by
 induction u using Nat.strongRecOn with
 | _ u ih =>
  rw [decDigits]
  by_cases h : u < 10
  ·rw [dif_pos h]
   have := uB u h
   simp only [List.all_cons, List.all_nil, Bool.and_true, mG, zZ, Nat.zero_mul, Nat.zero_add]
   exact ⟨this.1, this.2, by simp⟩
  ·rw [dif_neg h]
   obtain ⟨h1, h2, h3⟩ := ih (u / 10) (by omega)
   have := uB (u % 10) (Nat.mod_lt _ (by decide))
   refine ⟨by simp only [List.all_append, h1, List.all_cons, List.all_nil, Bool.and_true, Bool.true_and]; exact this.1, ?_, by simp⟩
   rw [sM, h2]
   simp only [mG, zZ, this.2]
   omega
theorem yB : ∀ k : Nat, num 0 (List.replicate k 48) = 0
 | 0 => rfl
 | k + 1 => by rw [List.replicate_succ, mG]; exact yB k
theorem mO (u k : Nat) (hk : 1 ≤ k) (h : u < 10 ^ k) : (decDigits u).length ≤ k := by
 induction k generalizing u with
 | zero => omega
 | succ k ih =>
  rw [decDigits]
  by_cases h1 : u < 10
  ·rw [dif_pos h1]; simp
  ·rw [dif_neg h1]
   by_cases hk0 : k = 0
   ·subst hk0; simp at h; omega
   ·have := ih (u / 10) (by omega) (by rw [Nat.pow_succ] at h; omega)
    simp; omega
theorem nP (k u : Nat) : (kz k u).all oQ = true ∧ num 0 (kz k u) = u ∧ kz k u ≠ [] := by
 obtain ⟨h1, h2, h3⟩ := jj u
 refine ⟨?_, by unfold kz; rw [sM, yB, h2], by unfold kz; simp [h3]⟩
 unfold kz
 rw [List.all_append, h1, Bool.and_true, List.all_eq_true]
 intro b hb
 obtain ⟨_, rfl⟩ := List.mem_replicate.1 hb
 rfl
theorem pG (k u : Nat) (hk : 1 ≤ k) (h : u < 10 ^ k) : (kz k u).length = k := by
 have := mO u k hk h
 unfold kz
 simp
 omega
theorem tc (k u : Nat) : k ≤ (kz k u).length := by
 unfold kz
 simp
 omega
theorem Dv (k m u : Nat) (hm : 1 ≤ m) (hk : k ≤ m) (h : u < 10 ^ m) : (kz k u).length ≤ m := by
 have := mO u m hm h
 unfold kz
 simp
 omega
theorem G6 {l : List UInt8} (hd : l.all oQ = true) (h0 : l ≠ []) (h : num 0 l < 9223372036854775808) : atoiAll l = .ok (num 0 l : Int) := by
 match l, h0 with
 | c :: r, _ =>
  have hc := hd
  simp only [List.all_cons, Bool.and_eq_true, ry] at hc
  rw [atoiAll_plain c r (by omega) (by omega)]
  unfold parseMag
  rw [if_neg (by simp), wL _ _ hd (by omega)]
  unfold signless
  simp only
  rw [if_neg (by omega)]
theorem G5 {l : List UInt8} (hd : l.all oQ = true) (h0 : l ≠ []) (h : num 0 l < 9223372036854775808) : atoiAll (45 :: l) = .ok (-(num 0 l : Int)) := by
 rw [atoiAll_minus]
 unfold parseMag
 rw [if_neg h0, wL _ _ hd (by omega)]
 unfold signed
 simp only
 rw [if_neg (by omega)]
def sg (n : Int) (l : List UInt8) : List UInt8 := if n < 0 then 45 :: l else l
theorem Jd {n : Int} {l : List UInt8} (hd : l.all oQ = true) (h0 : l ≠ []) (hn : num 0 l = n.natAbs) (h : n.natAbs < 9223372036854775808) : atoiAll (sg n l) = .ok n := by
 unfold sg
 split
 ·rw [G5 hd h0 (by omega), hn]; congr 1; omega
 ·rw [G6 hd h0 (by omega), hn]; congr 1; omega
theorem IN (n : Int) : itoa n = sg n (decDigits n.natAbs) := by
 unfold itoa sg
 split
 ·rfl
 ·congr 1; omega
end Go.PX
namespace Go.PX
open Go.Lib
def qH : List UInt8 → List UInt8
 | [] => []
 | b :: l => if b = 39 then 39 :: 39 :: qH l else b :: qH l
theorem split (s : List UInt8) : (index s [39] = -1 ∧ 39 ∉ s) ∨ ∃ a r, s = a ++ 39 :: r ∧ 39 ∉ a ∧ index s [39] = (a.length : Int) := by
 induction s with
 | nil => exact .inl ⟨by rfl, by simp⟩
 | cons b l ih =>
  by_cases hb : b = 39
  ·subst hb
   exact .inr ⟨[], l, rfl, by simp, by simp [index]⟩
  ·have h0 : List.isPrefixOf [39] (b :: l) = false := by
    unfold List.isPrefixOf
    have : ((39 : UInt8) == b) = false := by simpa using Ne.symm hb
    rw [this]; rfl
   rcases ih with ⟨h1, h2⟩ | ⟨a, r, rfl, h1, h2⟩
   ·exact .inl ⟨by simp only [index, h0, h1]; rfl, by simp [h2, Ne.symm hb]⟩
   ·refine .inr ⟨b :: a, r, rfl, by simp [h1, Ne.symm hb], ?_⟩
    have : ¬ ((index (a ++ 39 :: r) [39] == -1) = true) := by rw [h2]; simp
    rw [index, h0, if_neg (by simp), if_neg this, h2]
    simp
theorem BY {s : List UInt8} (h : 39 ∉ s) : qH s = s := by
 induction s with
 | nil => rfl
 | cons b l ih =>
  simp only [List.mem_cons, not_or] at h
  simp [qH, Ne.symm h.1, ih h.2]
theorem DD (a b : List UInt8) : qH (a ++ b) = qH a ++ qH b := by
 induction a with
 | nil => rfl
 | cons x l ih =>
  simp only [List.cons_append, qH, ih]
  split <;> rfl
theorem wD (s : List UInt8) : (qH s).length ≤ 2 * s.length := by
 induction s with
 | nil => simp [qH]
 | cons b l ih => simp only [qH]; split <;> simp <;> omega
theorem yU : ∀ (f : Nat) (s : List UInt8), s.length < f → replaceK [39] [39, 39] (countFrom [39] f s) s = qH s ∧ countFrom [39] f s ≤ s.length
 | 0, s, h => absurd h (Nat.not_lt_zero _)
 | f + 1, s, h => by
  rcases split s with ⟨h1, h2⟩ | ⟨a, r, rfl, h1, h2⟩
  ·have e : countFrom [39] (f + 1) s = 0 := by simp [countFrom, h1]
   rw [e]
   exact ⟨by simp [replaceK, BY h2], Nat.zero_le _⟩
  ·have hne : ¬ ((index (a ++ 39 :: r) [39] == -1) = true) := by rw [h2]; simp
   have hd : (a ++ 39 :: r).drop (a.length + 1) = r := by
    rw [List.drop_append]; simp
   have e : countFrom [39] (f + 1) (a ++ 39 :: r) = 1 + countFrom [39] f r := by
    rw [countFrom, if_neg hne]
    simp only [h2, Int.toNat_natCast, List.length_singleton, hd]
   have hl : r.length < f := by simp at h; omega
   obtain ⟨i1, i2⟩ := yU f r hl
   rw [e, Nat.add_comm]
   refine ⟨?_, by simp; omega⟩
   rw [replaceK_hit _ _ _ _ a.length h2]
   simp only [List.length_singleton, hd, i1]
   rw [DD, BY h1]
   simp [qH, List.take_append]
theorem xS (s : List UInt8) : replaceAll s [39] [39, 39] = qH s ∧ count s [39] ≤ s.length := by
 have h := yU (s.length + 1) s (by omega)
 refine ⟨?_, h.2⟩
 unfold replaceAll replace
 rw [if_neg (by simp)]
 unfold replaceNum
 rw [if_pos (.inl (by decide))]
 exact h.1
def quo : List UInt8 → List UInt8 → List UInt8 → List UInt8 × List UInt8 × Bool
 | cur, acc, [] => ([], cur, true)
 | cur, acc, [b] => if b = 39 then (acc, [], false) else ([], cur, true)
 | cur, acc, b :: c :: r => if b = 39 then (if c = 39 then quo r (acc ++ [39]) r else (acc, c :: r, false)) else quo cur (acc ++ [b]) (c :: r)
theorem pw (cur acc : List UInt8) : quo cur acc [] = ([], cur, true) := by simp [quo]
theorem oZ {b : UInt8} (h : b ≠ 39) (cur acc r : List UInt8) : quo cur acc (b :: r) = quo cur (acc ++ [b]) r := by
 cases r with
 | nil => simp [quo, h]
 | cons c r => simp [quo, h]
theorem tG (cur acc r : List UInt8) : quo cur acc (39 :: 39 :: r) = quo r (acc ++ [39]) r := by simp [quo]
theorem tz (cur acc r : List UInt8) (h : r.head? ≠ some 39) : quo cur acc (39 :: r) = (acc, r, false) := by
 cases r with
 | nil => simp [quo]
 | cons c r => simp at h; simp [quo, h]
theorem xD : ∀ (a cur acc r : List UInt8), 39 ∉ a → quo cur acc (a ++ r) = quo cur (acc ++ a) r
 | [], cur, acc, r, _ => by simp
 | b :: a, cur, acc, r, h => by
  simp only [List.mem_cons, not_or] at h
  rw [List.cons_append, oZ (Ne.symm h.1), xD a cur _ r h.2]
  simp
theorem AQ : ∀ (s cur acc rest : List UInt8), rest.head? ≠ some 39 → quo cur acc (qH s ++ 39 :: rest) = (acc ++ s, rest, false)
 | [], cur, acc, rest, h => by simp [qH, tz _ _ _ h]
 | b :: s, cur, acc, rest, h => by
  by_cases hb : b = 39
  ·subst hb
   simp only [qH, if_true, List.cons_append, tG]
   rw [AQ s _ _ rest h]; simp
  ·simp only [qH, if_neg hb, List.cons_append]
   rw [oZ hb, AQ s _ _ rest h]; simp
theorem zo : ∀ (n : Nat) (s cur acc : List UInt8), s.length ≤ n → (quo cur acc s).2.1.length ≤ max cur.length s.length ∧ (quo cur acc s).1.length ≤ acc.length + s.length
 | 0, s, cur, acc, h => by
  have : s = [] := List.length_eq_zero_iff.1 (by omega)
  subst this
  rw [pw]; simp
 | n + 1, s, cur, acc, h => by
  match s with
  | [] => rw [pw]; simp
  | b :: r =>
   simp at h
   by_cases hb : b = 39
   ·subst hb
    by_cases hr : r.head? = some 39
    ·match r, hr with
     | c :: r, hr =>
      simp at hr; subst hr
      rw [tG]
      have := zo n r r (acc ++ [39]) (by simp at h; omega)
      simp at this ⊢
      omega
    ·rw [tz _ _ _ hr]; simp; omega
   ·rw [oZ hb]
    have := zo n r cur (acc ++ [b]) h
    simp at this ⊢
    omega
end Go.PX
namespace Go.PX
open Go Go.SX
abbrev bs (l : List UInt8) : ByteArray := ⟨l.toArray⟩
theorem vg (s : ByteArray) : bs s.data.toList = s := by
 obtain ⟨⟨l⟩⟩ := s
 rfl
theorem aD (l : List UInt8) : (bs l).size = l.length := by show (l.toArray).size = _; simp
theorem rI (l : List UInt8) : (bs l).toList = l := by rw [ByteArray.toList_eq]
theorem ba_ext {a b : ByteArray} (h : a.data.toList = b.data.toList) : a = b := by
 obtain ⟨⟨l⟩⟩ := a
 obtain ⟨⟨r⟩⟩ := b
 simp at h
 rw [h]
theorem gQ (l r : List UInt8) : bs l ++ bs r = bs (l ++ r) := by
 apply ba_ext
 simp [ByteArray.data_append]
theorem lA (l : List UInt8) (a b : Nat) : (bs l).extract a b = bs ((l.take b).drop a) := by
 apply ba_ext
 rw [ByteArray.data_extract]
 simp [List.drop_take]
theorem mZ (l r : List UInt8) : ((bs l).toList == (bs r).toList) = decide (l = r) := by
 rw [rI, rI, Bool.eq_iff_iff]; simp
theorem bO {β : Type} {p : Prop} [Decidable p] (h : p) (x : Option β) : bB p x = x := by simp [bB, h]
theorem aB {β : Type} (b : Bool) (x y : Option β) : ax b x y = if b = true then x else y := by cases b <;> rfl
def pre : List UInt8 → List UInt8 → Bool
 | [], _ => true
 | _ :: _, [] => false
 | a :: l, b :: r => a == b && pre l r
theorem iM : ∀ (p s : List UInt8), pre p s = true ↔ p.length ≤ s.length ∧ s.take p.length = p
 | [], s => by simp [pre]
 | a :: l, [] => by simp [pre]
 | a :: l, b :: r => by
  have := iM l r
  simp only [pre, Bool.and_eq_true, beq_iff_eq, this, List.length_cons, List.take_succ_cons, List.cons.injEq]
  constructor
  ·rintro ⟨rfl, h1, h2⟩; exact ⟨by omega, rfl, h2⟩
  ·rintro ⟨h1, rfl, h2⟩; exact ⟨rfl, by omega, h2⟩
theorem iC (p r : List UInt8) : pre p (p ++ r) = true := (iM _ _).2 ⟨by simp, by simp⟩
def off (p s : List UInt8) : List UInt8 := if pre p s then s.drop p.length else s
theorem jM (p r : List UInt8) : off p (p ++ r) = r := by unfold off; rw [iC]; simp
theorem kt (p s : List UInt8) : (off p s).length ≤ s.length := by unfold off; split <;> simp
end Go.PX
namespace Go.Proofs.YtpmoopnkoknbeaaGreatDoor
open Go Go.PX Go.SX
def strconv_Itoa (p1 : Int) : Option ByteArray := bB (-9223372036854775808 ≤ p1 ∧ p1 ≤ 9223372036854775807) <| some (bs (Lib.itoa p1))
def strings_Repeat (p1 : ByteArray) (p2 : Int) : Option ByteArray := bB (0 ≤ p2 ∧ p2 ≤ 1000000000 ∧ p1.size ≤ 1000) <| some (bs (Lib.repeatL p1.data.toList p2.toNat))
def strings_ReplaceAll (p1 p2 p3 : ByteArray) : Option ByteArray := bB (p1.size ≤ 1000000000 ∧ 1 ≤ p2.size ∧ p1.size + Lib.countB p1 p2 * p3.size ≤ 140737488355328) <| some (bs (Lib.replaceAll p1.data.toList p2.data.toList p3.data.toList))
def jD (p1 p2 : ByteArray) : Option ByteArray := bB (p2.size ≤ 1000 ∧ p2.data.toList.all (fun b => decide (b.toNat < 128)) = true) <| some (bs (Lib.trimLeftS p1.data.toList p2.data.toList))
def strings_Join (p1 : List ByteArray) (p2 : ByteArray) : Option ByteArray := bB (p1.length ≤ 1000000000 ∧ (Lib.join (p1.map (·.data.toList)) p2.data.toList).length ≤ 140737488355328) <| some (bs (Lib.join (p1.map (·.data.toList)) p2.data.toList))
def gi (l : List UInt8) : Int × Bool := match Lib.atoiAll l with
 | .ok v => (v, false)
 | .range => (Lib.atoiSat l, true)
 | _ => (0, true)
def nc (p1 : ByteArray) : Option (Int × Bool) := bB (p1.size ≤ 1000000000) <| some (gi p1.data.toList)
def fI (p1 : aO) : Option (ByteArray × aO) := bB (p1.s.size ≤ 1000000000) <|
 some (bs (quo p1.s.data.toList [] p1.s.data.toList).1, ⟨bs (quo p1.s.data.toList [] p1.s.data.toList).2.1, p1.bad || (quo p1.s.data.toList [] p1.s.data.toList).2.2⟩)
end Go.Proofs.YtpmoopnkoknbeaaGreatDoor
namespace Go.Proofs.YtpmoopnkoknbeaaGreatDoor
open Go Go.PX Go.SX Go.Shelf Go.Lib Go.Proofs Go.RowKit
theorem Di (w : World) (k : Nat) (os : Array Obj) : Below w.heap.size w (Sort.grow (w.drewN k) os) :=
 ⟨rfl, rfl, rfl, by simp [Sort.grow, World.drewN], fun x hx => by
  show (w.heap ++ os)[x]? = w.heap[x]?
  rw [Array.getElem?_append_left hx]⟩
abbrev GW (w : World) : Prop := ∀ (b : Nat) (l : List Value), xT b = some l → Ia w b l
theorem JP {w : World} {nm : String} (h : GW w) (hn : Tryz.prog.globalNamed nm = some 5) : Lib.TabIs Tryz.prog w nm .u64 Lib.pow10Tab := by
 obtain ⟨ty, fz, h3⟩ := (h 5 wE (by kernel_rfl)).2.2 (by kernel_rfl)
 unfold Lib.TabIs World.var?
 rw [hn]
 simp only [Option.bind_some, h3]
 rfl
theorem Gh {w : World} (h : GW w) : ∃ m, w.cell? ⟨tS.g 1, 0, none⟩ = some (.int .i64 m) := by
 obtain ⟨v, h1, m, rfl⟩ := (h 2 [] (by kernel_rfl)).2.1 (by decide)
 exact ⟨m, h1⟩
theorem KJ {w : World} (h : GW w) : ∃ t p, w.cell? ⟨tS.g 15, 0, none⟩ = some (.iface t p) := by
 obtain ⟨v, h1, t, p, rfl⟩ := (h 0 [] (by kernel_rfl)).2.1 (by decide)
 exact ⟨t, p, h1⟩
theorem KA {w : World} (h : GW w) : ∃ t p, w.cell? ⟨tS.g 16, 0, none⟩ = some (.iface t p) := by
 obtain ⟨v, h1, t, p, rfl⟩ := (h 1 [] (by kernel_rfl)).2.1 (by decide)
 exact ⟨t, p, h1⟩
theorem lf (p1 : Int) : CT Tryz.prog 50 [vi p1] (strconv_Itoa p1) vs := by
 intro r h
 unfold strconv_Itoa at h
 obtain ⟨g1, h⟩ := gq h
 obtain rfl := Option.some.inj h
 exact PC.below (us := [.int .i64 p1]) rfl fun w hw => (Any.strconv_Itoa MD p1 g1.1 g1.2 w (JP hw (by kernel_rfl))).mono (by rintro e w' ⟨rfl, k, os, rfl⟩; exact ⟨rfl, Di _ _ _⟩)
theorem uH (p1 : ByteArray) (p2 : Int) : CT Tryz.prog 131 [vs p1, vi p2] (strings_Repeat p1 p2) vs := by
 intro r h
 unfold strings_Repeat at h
 obtain ⟨g1, h⟩ := gq h
 obtain rfl := Option.some.inj h
 obtain ⟨h1, h2, h3⟩ := g1
 obtain ⟨c, rfl⟩ : ∃ c : Nat, p2 = (c : Int) := ⟨p2.toNat, by omega⟩
 have hm : p1.size * c ≤ 140737488355328 := by
  have := Nat.mul_le_mul h3 (show c ≤ 1000000000 by omega)
  omega
 exact PC.below (us := [.string p1, .int .i64 c]) rfl fun w hw => Any.strings_Repeat MO Jz p1 c w (by omega) hm
theorem rf (p1 p2 p3 : ByteArray) : CT Tryz.prog 52 [vs p1, vs p2, vs p3] (strings_ReplaceAll p1 p2 p3) vs := by
 intro r h
 unfold strings_ReplaceAll at h
 obtain ⟨g1, h⟩ := gq h
 obtain rfl := Option.some.inj h
 exact PC.below (us := [.string p1, .string p2, .string p3]) rfl fun w hw => by
  obtain ⟨m, hm⟩ := Gh hw
  exact Any.strings_ReplaceAll MP Jz p1 p2 p3 m w (by omega) hm g1.2.1 g1.2.2
theorem sY (p1 p2 : ByteArray) : CT Tryz.prog 79 [vs p1, vs p2] (jD p1 p2) vs := by
 intro r h
 unfold jD at h
 obtain ⟨g1, h⟩ := gq h
 obtain rfl := Option.some.inj h
 exact PC.below (us := [.string p1, .string p2]) rfl fun w hw => Any.strings_TrimLeft_laid ML (by kernel_rfl) p1 p2 w (by omega) (ascii_of_all g1.2)
theorem xC (p1 : List ByteArray) (p2 : ByteArray) : CT Tryz.prog 54 [vl eS p1, vs p2] (strings_Join p1 p2) vs := by
 intro r h
 unfold strings_Join at h
 obtain ⟨g1, h⟩ := gq h
 obtain rfl := Option.some.inj h
 intro ι w vs0 hR hA
 have key : Calls Tryz.prog 54 vs0.toArray w fun e w' => e = .returned (.string (bs (Lib.join (p1.map (·.data.toList)) p2.data.toList))) ∧ Below w.heap.size w w' := by
  obtain ⟨hl, hA⟩ := hA
  match vs0, hl with
  | [x, y], _ =>
   have hy := bf (hA 1 y _ rfl rfl)
   subst hy
   have hx := hA 0 x _ rfl rfl
   cases hx with
   | one _ _ hx => cases hx with
    | pv _ _ hx =>
     generalize he : eS.els p1 = els at hx
     have hels : els = p1.map fun s => [.s (.string s)] := by rw [← he, eS.hels]; rfl
     cases hx with
     | nl =>
      have : p1 = [] := by simpa using hels.symm
      subst this
      exact (Any.strings_Join_none JO Jz none 0 p2 w).mono (by rintro e w' ⟨rfl, rfl⟩; exact ⟨rfl, Below.refl _ _⟩)
     | ro a cap sz _ vf hcap hsz hb hc hv =>
      have hlen : els.length = p1.length := by rw [hels]; simp
      rw [hlen]
      rw [hlen] at hcap
      match p1, hels, hlen, hcap, g1 with
      | [], _, _, _, _ => exact (Any.strings_Join_none JO Jz (some a) cap p2 w).mono (by rintro e w' ⟨rfl, rfl⟩; exact ⟨rfl, Below.refl _ _⟩)
      | s0 :: p1, hels, hlen, hcap, g1 =>
       have hsz1 : sz = 1 := by
        have := hsz [.s (.string s0)] (by rw [hels]; simp)
        simpa using this.symm
       subst hsz1
       have hcell : ∀ (j : Nat) s, (s0 :: p1)[j]? = some s → w.cell? (a.add j) = some (.string s) := by
        intro j s hs
        have e1 : els[j]? = some [.s (.string s)] := by rw [hels, List.getElem?_map, hs]; rfl
        have h1 := hc j _ 0 _ e1 rfl
        have h2 := hv j _ 0 _ e1 rfl
        rw [Nat.mul_one, Nat.add_zero] at h1
        generalize vf j 0 = z at h1 h2
        cases h2
        exact h1
       have hsp : a.spot = none := by
        have h1 := hcell 0 s0 rfl
        cases hq : a.spot with
        | none => rfl
        | some q =>
         have e0 : a.add 0 = a := by unfold Addr.add; rw [if_pos rfl]
         rw [e0] at h1
         unfold World.cell? at h1
         rw [hq] at h1
         split at h1 <;> simp at h1
       obtain ⟨b, o, sp⟩ := a
       simp only at hsp
       subst hsp
       have hne : els ≠ [] := by rw [hels]; simp
       exact Any.strings_Join JO Jz b o cap (s0 :: p1) p2 w (fun j s hs => by
        have := hcell j s hs
        unfold Addr.add at this
        by_cases hj : j = 0
        ·subst hj; simpa using this
        ·rw [if_neg hj] at this; exact this) (hb hne).1 (by omega) hcap g1.2
 refine key.mono ?_
 rintro e w' ⟨rfl, hb⟩
 have hx : kX w w' := ⟨hb.os, hb.tape, hb.output, hb.size, fun b hlt => hb.block b hlt⟩
 exact ⟨_, _, [], ι, rfl, ⟨rfl, rfl⟩, hR.ext hx, .one _ _ (.pv _ _ (.s _ rfl)), (hx.keeps ι []).weaken (fun _ _ => trivial)⟩
theorem xc (p1 : ByteArray) : CE Tryz.prog 78 [vs p1] (nc p1) := by
 intro r h
 unfold nc at h
 obtain ⟨g1, h⟩ := gq h
 obtain rfl := Option.some.inj h
 intro ι w vs0 hR hA
 obtain rfl := pz (us := [.string p1]) (by simpa using hA.1) hA.2
 have hw : GW w := fun b l hb => (hR.gl b l hb).2.2
 have key : Calls Tryz.prog 78 #[.string p1] w fun e w' => ∃ er, yy (gi p1.data.toList).2 er ∧ e = .returned (.tuple #[.int .i64 (gi p1.data.toList).1, er]) ∧ Below w.heap.size w w' := by
  unfold gi
  cases ha : Lib.atoiAll p1.data.toList with
  | ok v =>
   refine (Any.strconv_Atoi_ok Kr p1 (by omega) v ha w).mono ?_
   rintro e w' ⟨rfl, hb⟩
   refine ⟨.nilIface, .inl ⟨rfl, rfl⟩, rfl, ?_⟩
   rcases hb with rfl | ⟨t, rfl⟩
   ·exact Below.refl _ _
   ·exact Lib.bytesWorld_below _ _ _
  | range =>
   obtain ⟨t, p, hc⟩ := KA hw
   refine (Any.strconv_Atoi_range Kr p1 (by omega) ha _ w hc (.inr ⟨t, p, rfl⟩)).mono ?_
   rintro e w' ⟨N, rfl, _, _, hb⟩
   exact ⟨_, .inr ⟨rfl, _, _, rfl⟩, rfl, hb⟩
  | _ =>
   obtain ⟨t, p, hc⟩ := KJ hw
   refine (Any.strconv_Atoi_syntax Kr p1 (by omega) ha _ w hc (.inr ⟨t, p, rfl⟩)).mono ?_
   rintro e w' ⟨N, rfl, _, _, hb⟩
   exact ⟨_, .inr ⟨rfl, _, _, rfl⟩, rfl, hb⟩
 refine key.mono ?_
 rintro e w' ⟨er, hE, rfl, hb⟩
 have hx : kX w w' := ⟨hb.os, hb.tape, hb.output, hb.size, fun b hlt => hb.block b hlt⟩
 refine ⟨_, _, [], ι, rfl, ⟨⟨er, hE, rfl⟩, rfl⟩, hR.ext hx, aK.tp [.int .i64 _, er] _ rfl (fun j v a h1 h2 => ?_), (hx.keeps ι []).weaken (fun _ _ => trivial)⟩
 match j with
 | 0 => simp at h1 h2; subst h1; subst h2; exact .one _ _ (.pv _ _ (.s _ rfl))
 | 1 => simp at h1 h2; subst h1; subst h2; exact .one _ _ (.pv _ _ (.s _ hE.plain))
 | j + 2 => simp at h1
end Go.Proofs.YtpmoopnkoknbeaaGreatDoor
namespace Go.Proofs.YtpmoopnkoknbeaaGreatDoor
open Go.SX Go
set_option maxRecDepth 100000
set_option maxHeartbeats 8000000
def mf (x1 : Bool) : Option Bool := some x1
def lX (p1 : af) : Option Bool := ax (p1.kind != 6) (mf (p1.kind != 7)) (mf false)
theorem pm (p1 : af) : CT Tryz.prog 64 [.ag [ci p1.kind, ci p1.scale, cl au p1.fields]] (lX p1) vb :=
  eB 11 [] Tryz.f64 fun r => (uQ (kS Tryz.f64 [1,0] 1) fun K2 hK2 => have hJ1 : ∀ (x1 : Bool), mf x1 = some r → K2.p [(2, vb x1)] [] := fun x1 h => hK2 h (uR .ret xF); (uC (uJ (hJ1 (p1.kind != 7))) (uJ (hJ1 false))))
def dP (x1 : Bool) : Option Bool := some x1
def m8 (p1 : Int) : Option Bool := ax (decide (p1 < (97 : Int))) (ax (decide (p1 < (48 : Int))) (dP (p1 != 95)) (ax (decide ((57 : Int) < p1)) (dP (p1 != 95)) (dP false))) (ax (decide ((122 : Int) < p1)) (ax (decide (p1 < (48 : Int))) (dP (p1 != 95)) (ax (decide ((57 : Int) < p1)) (dP (p1 != 95)) (dP false))) (dP false))
theorem wW (p1 : Int) : CT Tryz.prog 149 [vk .i32 p1] (m8 p1) vb :=
  eB 21 [] Tryz.f149 fun r => (uQ (kS Tryz.f149 [1,0] 1) fun K2 hK2 => have hJ1 : ∀ (x1 : Bool), dP x1 = some r → K2.p [(2, vb x1)] [] := fun x1 h => hK2 h (uR .ret xF); (uC (uC (uJ (hJ1 (p1 != 95))) (uC (uJ (hJ1 (p1 != 95))) (uJ (hJ1 false)))) (uC (uC (uJ (hJ1 (p1 != 95))) (uC (uJ (hJ1 (p1 != 95))) (uJ (hJ1 false)))) (uJ (hJ1 false)))))
def fH : Option Int := some (-1 : Int)
def aZ (p1 : ByteArray) (p2 : Bool) : Nat → Nat → Option Int
 | 0, _ => none
 | k1 + 1, z1 => ax (decide (z1 < p1.size)) (ay (m8 (Int.ofNat (Utf8.decode p1 z1).1)) fun r1 => ax (r1 == p2) (some (Int.ofNat z1)) ((aZ p1 p2 k1) (z1 + (Utf8.decode p1 z1).2))) (fH)
def dZ (p1 : ByteArray) (p2 : Bool) : Option Int := aZ p1 p2 ba 0
theorem jT (p1 : ByteArray) (p2 : Bool) : CT Tryz.prog 201 [vs p1, .one (.pv (.fn 149 [])), vb p2] (dZ p1 p2) vi :=
  eB 21 [] Tryz.f201 fun r => (uQ (kS Tryz.f201 [1,0] 1) fun K2 hK2 => have hJ1 : ∀ (_ : Unit), fH = some r → K2.p [] [] := fun _ h => hK2 h (uR .ret xF); (MT p1 (uO (cd Tryz.f201 [1,0,1,0,0]) (kS Tryz.f201 [1,0,1,0] 1) fun R1 b1 => have hL1 : ∀ (k1 z1 : Nat), aZ p1 p2 k1 z1 = some r → (R1 k1).p [(1, .one (.pv (.fn 149 []))), (2, vb p2), (10, .one (.pt 0 0 0 0))] [.raw (.stringIter p1 z1)] := by intro k1; induction k1 with | zero => intro z1 h; exact lU (aZ.eq_1 ..) h | succ k1 ih1 => intro z1 h; exact b1 h (uU (aZ.eq_2 ..) (Nq 0 (fun b5 => (uT (uP (wW _) fun r1 _ => (uC (uR .ret (xN (xN xF))) (uJ (ih1 (z1 + (Utf8.decode p1 z1).2))))))) (fun b5 => (uF (uR (.exit 0) (xM (uJ (hJ1 ()))))))))
 uE (hL1 ba 0))))
def d9 (p1 : ByteArray) : Option Int := ay (dZ p1 true) fun r1 => some r1
theorem jS (p1 : ByteArray) : CT Tryz.prog 183 [vs p1, .one (.pv (.fn 149 []))] (d9 p1) vi :=
  eB 8 [] Tryz.f183 fun r => (uP (jT _ _) fun r1 _ => (uR .ret xF))
def dy (p1 : ByteArray) : Option Bool := ay (d9 p1) fun r1 => some (decide ((0 : Int) ≤ r1))
theorem jh (p1 : ByteArray) : CT Tryz.prog 150 [vs p1, .one (.pv (.fn 149 []))] (dy p1) vb :=
  eB 9 [] Tryz.f150 fun r => (uP (jS _) fun r1 _ => (uR .ret xF))
def iW (p1 : ByteArray) (x1 : Bool) : Option Bool := ax x1 (some false) (ay (dy p1) fun r1 => some (!r1))
def pr (p1 : ByteArray) : Option Bool := ax (p1.toList == (ByteArray.mk #[]).toList) (iW p1 true) (ax (decide ((24 : Int) < (p1.size : Int))) (iW p1 true) (bB (0 ≤ (0 : Int) ∧ (0 : Int) < (p1.size : Int)) <| ay (some (decide (((p1.data.toList.getD (0 : Int).toNat 0).toNat : Int) < (97 : Int)))) fun y1 => ax y1 (iW p1 true) (bB (0 ≤ (0 : Int) ∧ (0 : Int) < (p1.size : Int)) <| ay (some (decide ((122 : Int) < ((p1.data.toList.getD (0 : Int).toNat 0).toNat : Int)))) fun y2 => iW p1 y2)))
theorem Ai (p1 : ByteArray) : CT Tryz.prog 115 [vs p1] (pr p1) vb :=
  eB 25 [] Tryz.f115 fun r => (uQ (kS Tryz.f115 [1,0,0] 2) fun K3 hK3 => have hJ1 : ∀ (x1 : Bool), iW p1 x1 = some r → K3.p [(0, vs p1), (20, vb x1)] [] := fun x1 h => hK3 h (uC (uR .ret xF) (uP (jh _) fun r1 _ => (uR .ret xF))); (uC (uJ (hJ1 true)) (uC (uJ (hJ1 true)) (uG (uY 14 vb fun y1 => (uC (uJ (hJ1 true)) (uG (uY 19 vb fun y2 => (uJ (hJ1 y2))))))))))
def nF (p1 : aL) : Option Bool := ay (pr p1.name) fun r1 => some (!r1)
theorem vj (p1 : aL) : CT Tryz.prog 114 [.ag [ci p1.id, eG p1.name, cb p1.need, ci p1.type.kind, ci p1.type.scale, cl au p1.type.fields]] (nF p1) vb :=
  eB 7 [] Tryz.f114 fun r => (uP (Ai _) fun r1 _ => (uR .ret xF))
def cH : Option Int := some (-1 : Int)
def aq (p1 : (List aL)) : Nat → Int → Option Int
 | 0, _ => none
 | k1 + 1, x1 => ax (decide (x1 < (p1.length : Int))) (ay (at? p1 x1) fun e1 => ay (nF e1) fun r1 => ax r1 (some x1) ((aq p1 k1) (IntKind.i64.wrap (x1 + 1)))) (cH)
def bC (p1 : (List aL)) : Option Int := aq p1 ba (0 : Int)
theorem fl (p1 : (List aL)) : CT Tryz.prog 148 [vl au p1, .one (.pv (.fn 114 []))] (bC p1) vi :=
  eB 19 [] Tryz.f148 fun r => (uQ (kS Tryz.f148 [1,0] 1) fun K2 hK2 => have hJ1 : ∀ (_ : Unit), cH = some r → K2.p [] [] := fun _ h => hK2 h (uR .ret xF); (uN au p1 (uO (cd Tryz.f148 [1,0,1,0,0]) (kS Tryz.f148 [1,0,1,0] 1) fun R1 b1 => have hL1 : ∀ (k1 : Nat) (x1 : Int), aq p1 k1 x1 = some r → (R1 k1).p [(0, vl au p1), (1, .one (.pv (.fn 114 []))), (7, vi (p1.length : Int)), (8, vi x1)] [] := by intro k1; induction k1 with | zero => intro x1 h; exact lU (aq.eq_1 ..) h | succ k1 ih1 => intro x1 h; exact b1 h (uU (aq.eq_2 ..) (uC (uL au fun e1 a10 => (uP (vj _) fun r1 _ => (uC (uR .ret (xN (xN xF))) (uJ (ih1 (IntKind.i64.wrap (x1 + 1))))))) (uR (.exit 0) (xM (uJ (hJ1 ()))))))
 uE (hL1 ba (0 : Int)))))
def aX (p1 : (List aL)) : Option Bool := ay (bC p1) fun r1 => some (decide ((0 : Int) ≤ r1))
theorem eM (p1 : (List aL)) : CT Tryz.prog 113 [vl au p1, .one (.pv (.fn 114 []))] (aX p1) vb :=
  eB 9 [] Tryz.f113 fun r => (uP (fl _) fun r1 _ => (uR .ret xF))
def nG (p1 p2 : aL) : Option (Bool × aL) := some ((p1.name.toList == p2.name.toList), p2)
theorem vD (p1 p2 : aL) : CM Tryz.prog 116 [.ag [ci p1.id, eG p1.name, cb p1.need, ci p1.type.kind, ci p1.type.scale, cl au p1.type.fields], .one (.pt 0 0 0 0)] [.box [ci p2.id, eG p2.name, cb p2.need, ci p2.type.kind, ci p2.type.scale, cl au p2.type.fields]] (nG p1 p2) (fun r => vb r.1) (fun r => [.box [ci r.2.id, eG r.2.name, cb r.2.need, ci r.2.type.kind, ci r.2.type.scale, cl au r.2.type.fields]]) :=
  qE 1 9 [] Tryz.f116 fun r => (uR .ret sd)
def bu (z7 : Int) (z8 : ByteArray) (z9 : Bool) (z10 z11 : Int) (z12 : List aL) : Option (Int × aL) := some ((-1 : Int), (mU.mk z7 z8 z9 (af.mk z10 z11 z12)))
def al (p1 : (List aL)) : Nat → Int → ByteArray → Bool → Int → Int → List aL → Int → Option (Int × aL)
 | 0, _, _, _, _, _, _, _ => none
 | k1 + 1, z1, z2, z3, z4, z5, z6, x1 => ax (decide (x1 < (p1.length : Int))) (ay (at? p1 x1) fun e1 => ay (nG e1 (mU.mk z1 z2 z3 (af.mk z4 z5 z6))) fun r1 => ax r1.1 (some (x1, r1.2)) ((al p1 k1) r1.2.id r1.2.name r1.2.need r1.2.type.kind r1.2.type.scale r1.2.type.fields (IntKind.i64.wrap (x1 + 1)))) (bu z1 z2 z3 z4 z5 z6)
def bE (p1 : (List aL)) (p2 : aL) : Option (Int × aL) := al p1 ba p2.id p2.name p2.need p2.type.kind p2.type.scale p2.type.fields (0 : Int)
theorem fg (p1 : (List aL)) (p2 : aL) : CM Tryz.prog 148 [vl au p1, .one (.fn 116 [.pt 0 0 0 0])] [.box [ci p2.id, eG p2.name, cb p2.need, ci p2.type.kind, ci p2.type.scale, cl au p2.type.fields]] (bE p1 p2) (fun r => vi r.1) (fun r => [.box [ci r.2.id, eG r.2.name, cb r.2.need, ci r.2.type.kind, ci r.2.type.scale, cl au r.2.type.fields]]) :=
  qE 1 19 [] Tryz.f148 fun r => (uQ (kS Tryz.f148 [1,0] 1) fun K2 hK2 => have hJ1 : ∀ (z7 : Int) (z8 : ByteArray) (z9 : Bool) (z10 z11 : Int) (z12 : List aL), bu z7 z8 z9 z10 z11 z12 = some r → K2.p [] [.box [ci z7, eG z8, cb z9, ci z10, ci z11, cl au z12]] := fun z7 z8 z9 z10 z11 z12 h => hK2 h (uR .ret sd); (uN au p1 (uO (cd Tryz.f148 [1,0,1,0,0]) (kS Tryz.f148 [1,0,1,0] 1) fun R1 b1 => have hL1 : ∀ (k1 : Nat) (z1 : Int) (z2 : ByteArray) (z3 : Bool) (z4 z5 : Int) (z6 : List aL) (x1 : Int), al p1 k1 z1 z2 z3 z4 z5 z6 x1 = some r → (R1 k1).p [(0, vl au p1), (1, .one (.fn 116 [.pt 0 0 0 0])), (7, vi (p1.length : Int)), (8, vi x1)] [.box [ci z1, eG z2, cb z3, ci z4, ci z5, cl au z6]] := by intro k1; induction k1 with | zero => intro z1 z2 z3 z4 z5 z6 x1 h; exact lU (al.eq_1 ..) h | succ k1 ih1 => intro z1 z2 z3 z4 z5 z6 x1 h; exact b1 h (uU (al.eq_2 ..) (uC (uL au fun e1 a10 => (mt true [0] (vD _ _) fun r1 _ => (uC (uR .ret (xN (xN sd))) (uJ (ih1 r1.2.id r1.2.name r1.2.need r1.2.type.kind r1.2.type.scale r1.2.type.fields (IntKind.i64.wrap (x1 + 1))))))) (uR (.exit 0) (xM (uJ (hJ1 z1 z2 z3 z4 z5 z6))))))
 uE (hL1 ba p2.id p2.name p2.need p2.type.kind p2.type.scale p2.type.fields (0 : Int)))))
def aY (p1 : (List aL)) (p2 : aL) : Option (Bool × aL) := ay (bE p1 p2) fun r1 => some ((decide ((0 : Int) ≤ r1.1)), r1.2)
theorem eK (p1 : (List aL)) (p2 : aL) : CM Tryz.prog 113 [vl au p1, .one (.fn 116 [.pt 0 0 0 0])] [.box [ci p2.id, eG p2.name, cb p2.need, ci p2.type.kind, ci p2.type.scale, cl au p2.type.fields]] (aY p1 p2) (fun r => vb r.1) (fun r => [.box [ci r.2.id, eG r.2.name, cb r.2.need, ci r.2.type.kind, ci r.2.type.scale, cl au r.2.type.fields]]) :=
  qE 1 9 [] Tryz.f113 fun r => (mt true [0] (fg _ _) fun r1 _ => (uR .ret sd))
def kr (x1 : Bool) : Option Int := ax x1 (some (1 : Int)) (some (0 : Int))
def ql : Option Int := some (0 : Int)
def cR (p1 : af) : Nat → Int → Option Int
 | 0, _ => none
 | k1 + 1, x2 => ax (decide (x2 < (p1.fields.length : Int))) (ay (at? p1.fields x2) fun e2 => bB (0 ≤ (0 : Int) ∧ (0 : Int) ≤ x2 ∧ x2 ≤ (p1.fields.length : Int)) <| ay (aY ((p1.fields.drop (0 : Int).toNat).take (x2.toNat - (0 : Int).toNat)) e2) fun r2 => ax r2.1 (some (5 : Int)) ((cR p1 k1) (IntKind.i64.wrap (x2 + 1)))) (ql)
def m9 (p1 : af) : Option Int := ax (p1.kind == 6) (ax ((p1.fields.length : Int) != 1) (kr true) (ay (at? p1.fields (0 : Int)) fun e1 => kr (!(e1.name.toList == (ByteArray.mk #[]).toList)))) (ax (p1.kind != 7) (ax (decide ((0 : Int) < (p1.fields.length : Int))) (some (1 : Int)) (some (0 : Int))) (ax ((p1.fields.length : Int) == 0) (some (1 : Int)) (ay (aX p1.fields) fun r1 => ax r1 (some (4 : Int)) (cR p1 ba (0 : Int)))))
theorem xu (p1 : af) : CT Tryz.prog 76 [.ag [ci p1.kind, ci p1.scale, cl au p1.fields]] (m9 p1) vi :=
  eB 52 [4] Tryz.f76 fun r => (uC (uQ (kS Tryz.f76 [1,0,0,1,0,0,0] 4) fun K6 hK6 => have hJ1 : ∀ (x1 : Bool), kr x1 = some r → K6.p [(20, vb x1)] [] := fun x1 h => hK6 h (uC (uR .ret xF) (uR .ret xF)); (uN au p1.fields (uC (uJ (hJ1 true)) (uL au fun e1 a8 => (uJ (hJ1 (!(e1.name.toList == (ByteArray.mk #[]).toList)))))))) (uC (uN au p1.fields (uC (uR .ret xF) (uR .ret xF))) (uN au p1.fields (uC (uR .ret xF) (uP (eM _) fun r1 _ => (uC (uR .ret xF) (uQ (kS Tryz.f76 [1,1,1,0] 1) fun K27 hK27 => have hJ2 : ∀ (_ : Unit), ql = some r → K27.p [] [] := fun _ h => hK27 h (uR .ret xF); (uN au p1.fields (uO (cd Tryz.f76 [1,1,1,0,1,0,0]) (kS Tryz.f76 [1,1,1,0,1,0] 1) fun R1 b1 => have hL1 : ∀ (k1 : Nat) (x2 : Int), cR p1 k1 x2 = some r → (R1 k1).p [(1, .one (.pv (.rp [[pi p1.kind, pi p1.scale, .ro (au.els p1.fields)]] 0 0))), (38, vl au p1.fields), (39, vi (p1.fields.length : Int)), (40, vi x2)] [] := by intro k1; induction k1 with | zero => intro x2 h; exact lU (cR.eq_1 ..) h | succ k1 ih1 => intro x2 h; exact b1 h (uU (cR.eq_2 ..) (uC (uL au fun e2 a34 => (uX au (mt true [0] (eK _ _) fun r2 _ => (uC (uR .ret (xN (xN xF))) (uJ (ih1 (IntKind.i64.wrap (x2 + 1)))))))) (uR (.exit 1) (xM (uJ (hJ2 ()))))))
 uE (hL1 ba (0 : Int)))))))))))
def lg (z3 : Int) : Option (Int × bY) := some ((0 : Int), (bY.mk z3))
def bH (q_value_checker_check : af → Int → bY → Option (Int × bY)) (p1 : af) (p2 : Int) : Nat → Int → Int → Option (Int × bY)
 | 0, _, _ => none
 | k1 + 1, z2, x4 => ax (decide (x4 < (p1.fields.length : Int))) (ay (at? p1.fields x4) fun e1 => ay (q_value_checker_check e1.type (IntKind.i64.wrap (p2 + 1)) (bY.mk z2)) fun r4 => ax (r4.1 != 0) (some (r4.1, r4.2)) ((bH q_value_checker_check p1 p2 k1) r4.2.leaves (IntKind.i64.wrap (x4 + 1)))) (lg z2)
def cJ (q_value_checker_check : af → Int → bY → Option (Int × bY)) (p1 : af) (p2 z1 : Int) (x3 : Bool) : Option (Int × bY) := ax x3 (some ((1 : Int), (bY.mk z1))) (ay (m9 p1) fun r3 => ax (r3 != 0) (some (r3, (bY.mk z1))) (bH q_value_checker_check p1 p2 ba z1 (0 : Int)))
def fO (q_value_checker_check : af → Int → bY → Option (Int × bY)) (p1 : af) (p2 z1 : Int) (x2 : Bool) : Option (Int × bY) := ax x2 (some ((3 : Int), (bY.mk z1))) (ax (p1.scale != 0) (ax (p1.kind != 3) (cJ q_value_checker_check p1 p2 z1 true) (ax (decide (p1.scale < (0 : Int))) (cJ q_value_checker_check p1 p2 z1 true) (cJ q_value_checker_check p1 p2 z1 (decide ((12 : Int) < p1.scale))))) (cJ q_value_checker_check p1 p2 z1 false))
def dw (q_value_checker_check : af → Int → bY → Option (Int × bY)) (p1 : af) (p2 z1 : Int) : Option (Int × bY) := ax (decide (p1.kind < (1 : Int))) (fO q_value_checker_check p1 p2 z1 true) (fO q_value_checker_check p1 p2 z1 (decide ((7 : Int) < p1.kind)))
def dv (q_value_checker_check : af → Int → bY → Option (Int × bY)) (p1 : af) (p2 : Int) (p3 : bY) (x1 : Bool) : Option (Int × bY) := ax x1 (some ((7 : Int), p3)) (ay (lX p1) fun r2 => ax r2 (dw q_value_checker_check p1 p2 (IntKind.i64.wrap (p3.leaves + 1))) (dw q_value_checker_check p1 p2 p3.leaves))
def aP : Nat → af → Int → bY → Option (Int × bY)
 | 0, _, _, _ => none
 | k0 + 1, p1, p2, p3 => ax (decide ((4 : Int) < p2)) (dv (aP k0) p1 p2 p3 true) (ay (lX p1) fun r1 => ax r1 (dv (aP k0) p1 p2 p3 (p3.leaves == 40)) (dv (aP k0) p1 p2 p3 false))
abbrev bL (p1 : af) : List PV := [pi p1.kind, pi p1.scale, .ro (au.els p1.fields)]
theorem lJ : ∀ (k0 : Nat) (p1 : af) (p2 : Int) (p3 : bY), CM Tryz.prog 39 [.one (.pt 0 0 0 0), .ag [ci p1.kind, ci p1.scale, cl au p1.fields], vi p2] [.box [ci p3.leaves]] (aP k0 p1 p2 p3) (fun r => vi r.1) (fun r => [.box [ci r.2.leaves]])
  | 0, _, _, _ => Ip (aP.eq_1 ..)
  | k0 + 1, p1, p2, p3 => qE 1 83 [9] Tryz.f39 fun r => (uU (aP.eq_2 ..) (uQ (kS Tryz.f39 [1,0,0] 2) fun K3 hK3 => have hJ1 : ∀ (x1 : Bool), dv (aP k0) p1 p2 p3 x1 = some r → K3.p [(0, .one (.pt 0 0 0 0)), (2, vi p2), (4, .one (.pv (.rp [(bL p1)] 0 0))), (23, vb x1)] [.box [ci p3.leaves]] := fun x1 h => hK3 h (uC (uR .ret sd) (uQ (kS Tryz.f39 [1,1,0] 1) fun K9 hK9 => have hJ2 : ∀ (z1 : Int), dw (aP k0) p1 p2 z1 = some r → K9.p [(0, .one (.pt 0 0 0 0)), (2, vi p2), (4, .one (.pv (.rp [(bL p1)] 0 0)))] [.box [ci z1]] := fun z1 h => hK9 h (uQ (kS Tryz.f39 [1,1,1,0,0,0] 3) fun K14 hK14 => have hJ3 : ∀ (x2 : Bool), fO (aP k0) p1 p2 z1 x2 = some r → K14.p [(0, .one (.pt 0 0 0 0)), (2, vi p2), (4, .one (.pv (.rp [(bL p1)] 0 0))), (33, vb x2)] [.box [ci z1]] := fun x2 h => hK14 h (uC (uR .ret sd) (uQ (kS Tryz.f39 [1,1,1,0,0,1,1,0] 3) fun K18 hK18 => have hJ4 : ∀ (x3 : Bool), cJ (aP k0) p1 p2 z1 x3 = some r → K18.p [(0, .one (.pt 0 0 0 0)), (2, vi p2), (4, .one (.pv (.rp [(bL p1)] 0 0))), (42, vb x3)] [.box [ci z1]] := fun x3 h => hK18 h (uC (uR .ret sd) (uP (xu _) fun r3 _ => (uC (uR .ret sd) (uQ (kS Tryz.f39 [1,1,1,1,1,0] 1) fun K30 hK30 => have hJ5 : ∀ (z3 : Int), lg z3 = some r → K30.p [] [.box [ci z3]] := fun z3 h => hK30 h (uR .ret sd); (uN au p1.fields (uO (cd Tryz.f39 [1,1,1,1,1,0,1,0,0]) (kS Tryz.f39 [1,1,1,1,1,0,1,0] 1) fun R1 b1 => have hL1 : ∀ (k1 : Nat) (z2 x4 : Int), bH (aP k0) p1 p2 k1 z2 x4 = some r → (R1 k1).p [(0, .one (.pt 0 0 0 0)), (2, vi p2), (67, vl au p1.fields), (68, vi (p1.fields.length : Int)), (69, vi x4)] [.box [ci z2]] := by intro k1; induction k1 with | zero => intro z2 x4 h; exact lU (bH.eq_1 ..) h | succ k1 ih1 => intro z2 x4 h; exact b1 h (uU (bH.eq_2 ..) (uC (uL au fun e1 a37 => (mt true [0] (lJ k0 _ _ _) fun r4 _ => (uC (uR .ret (xN (xN sd))) (uJ (ih1 r4.2.leaves (IntKind.i64.wrap (x4 + 1))))))) (uR (.exit 1) (xM (uJ (hJ5 z2))))))
 uE (hL1 ba z1 (0 : Int)))))))); (uC (uC (uJ (hJ4 true)) (uC (uJ (hJ4 true)) (uJ (hJ4 (decide ((12 : Int) < p1.scale)))))) (uJ (hJ4 false))))); (uC (uJ (hJ3 true)) (uJ (hJ3 (decide ((7 : Int) < p1.kind)))))); (uP (pm _) fun r2 _ => (uC (uJ (hJ2 (IntKind.i64.wrap (p3.leaves + 1)))) (uJ (hJ2 p3.leaves)))))); (uC (uJ (hJ1 true)) (uP (pm _) fun r1 _ => (uC (uJ (hJ1 (p3.leaves == 40))) (uJ (hJ1 false)))))))
def bR (p1 : af) : Option Int := ay (aP ba p1 (1 : Int) (bY.mk (0 : Int))) fun r1 => some r1.1
theorem gF (p1 : af) : CT Tryz.prog 21 [.ag [ci p1.kind, ci p1.scale, cl au p1.fields]] (bR p1) vi :=
  eB 9 [5] Tryz.f21 fun r => (mt true [0] (lJ ba _ _ _) fun r1 _ => (uR .ret xF))
def bX (x1 : Bool) : Option Bool := some x1
def bQ (p1 p2 : ByteArray) : Option Bool := ax (decide ((p2.size : Int) ≤ (p1.size : Int))) (bB (0 ≤ (0 : Int) ∧ (0 : Int) ≤ (p2.size : Int) ∧ (p2.size : Int) ≤ (p1.size : Int)) <| ay (some ((p1.extract (0 : Int).toNat (p2.size : Int).toNat).toList == p2.toList)) fun y1 => bX y1) (bX false)
theorem lu (p1 p2 : ByteArray) : CT Tryz.prog 151 [vs p1, vs p2] (bQ p1 p2) vb :=
  eB 18 [] Tryz.f151 fun r => (uQ (kS Tryz.f151 [1,0] 1) fun K2 hK2 => have hJ1 : ∀ (x1 : Bool), bX x1 = some r → K2.p [(4, vb x1)] [] := fun x1 h => hK2 h (uR .ret xF); (uC (uG (uY 16 vb fun y1 => (uJ (hJ1 y1)))) (uJ (hJ1 false))))
def du (p1 p2 : ByteArray) : Option (ByteArray × Bool) := ay (bQ p1 p2) fun r1 => ax (!r1) (some (p1, false)) (bB (0 ≤ (p2.size : Int) ∧ (p2.size : Int) ≤ (p1.size : Int) ∧ (p1.size : Int) ≤ (p1.size : Int)) <| some ((p1.extract (p2.size : Int).toNat (p1.size : Int).toNat), true))
theorem lv (p1 p2 : ByteArray) : CT Tryz.prog 117 [vs p1, vs p2] (du p1 p2) (fun r => .tp [vs r.1, vb r.2]) :=
  eB 15 [] Tryz.f117 fun r => (uP (lu _ _) fun r1 _ => (uC (uR .ret xF) (uG (uR .ret xF))))
def i8 (p1 p2 : ByteArray) : Option (ByteArray × Bool) := ay (du p1 p2) fun r1 => some (r1.1, r1.2)
theorem rX (p1 p2 : ByteArray) : CT Tryz.prog 77 [vs p1, vs p2] (i8 p1 p2) (fun r => .tp [vs r.1, vb r.2]) :=
  eB 11 [] Tryz.f77 fun r => (uP (lv _ _) fun r1 _ => (uR .ret xF))
def fk (p2 : aO) (r1 : (ByteArray × Bool)) (z1 : ByteArray) : Option (Bool × aO) := some (r1.2, (aO.mk z1 p2.bad))
def cI (p1 : ByteArray) (p2 : aO) : Option (Bool × aO) := ay (i8 p2.s p1) fun r1 => ax r1.2 (fk p2 r1 r1.1) (fk p2 r1 p2.s)
theorem eu (p1 : ByteArray) (p2 : aO) : CM Tryz.prog 40 [.one (.pt 0 0 0 0), vs p1] [.box [eG p2.s, cb p2.bad]] (cI p1 p2) (fun r => vb r.1) (fun r => [.box [eG r.2.s, cb r.2.bad]]) :=
  qE 1 22 [] Tryz.f40 fun r => (uP (rX _ _) fun r1 _ => (uQ (kS Tryz.f40 [1,1,0] 1) fun K4 hK4 => have hJ1 : ∀ (z1 : ByteArray), fk p2 r1 z1 = some r → K4.p [(6, vb r1.2)] [.box [eG z1, cb p2.bad]] := fun z1 h => hK4 h (uR .ret sd); (uC (uJ (hJ1 r1.1)) (uJ (hJ1 p2.s)))))
end Go.Proofs.YtpmoopnkoknbeaaGreatDoor
namespace Go.Proofs.YtpmoopnkoknbeaaGreatDoor
open Go Go.PX Go.SX Go.Shelf Go.Proofs Go.RowKit
theorem B4 (p s : List UInt8) (bad : Bool) : cI (bs p) ⟨bs s, bad⟩ = some (pre p s, ⟨bs (off p s), bad⟩) := by
 have hp : bQ (bs s) (bs p) = some (pre p s) := by
  unfold bQ bX
  simp only [aD, aB]
  by_cases h : p.length ≤ s.length
  ·rw [if_pos (by simpa using h), bO (by omega), ae, lA, mZ]
   congr 1
   rw [Bool.eq_iff_iff, iM]
   simp [h]
  ·rw [if_neg (by simpa using h)]
   congr 1
   rw [eq_comm, Bool.eq_false_iff]
   intro h2
   exact h ((iM _ _).1 h2).1
 unfold cI fk i8 du
 simp only [hp, ae, aB]
 unfold off
 cases h : pre p s with
 | false => simp [ay]
 | true =>
  have := ((iM _ _).1 h).1
  simp only [aD, Bool.not_true, Bool.false_eq_true, if_false]
  rw [bO (by omega), lA]
  simp [ay, ax]
def Nz : Value → Nat
 | .string s => s.size
 | _ => 0
def KK (b : Nat) (w : World) : Nat := Nz ((w.cell? ⟨b, 0, none⟩).getD (.bool false))
theorem DW {w : World} {b : Nat} {s : List UInt8} {y : Value} {ty : TypeId} {fz : Nat × Nat} (h : w.heap[b]? = some (.cells #[.string (bs s), y] ty fz)) : KK b w = s.length := by
 unfold KK; rw [Lib.cell_of_heap h]; exact aD s
theorem tD (B : Nat) (w : World) (k : Nat) : Below B w (w.drewN k) := ⟨rfl, rfl, rfl, Nat.le_refl _, fun _ _ => rfl⟩
set_option maxHeartbeats 4000000 in
set_option maxRecDepth 1000000 in
theorem B6 (s : List UInt8) (bad : Bool) (hs : s.length ≤ 1000000000) (w : World) (b : Nat) (ty : TypeId) (hb : w.heap[b]? = some (.cells #[.string (bs s), .bool bad] ty (0, 0))) (hg : v8 w b) :
  Calls Tryz.prog 44 #[.pointer (some ⟨b, 0, none⟩)] w fun e w' => e = .returned (.string (bs (quo s [] s).1)) ∧ jP w w' b [.string (bs (quo s [] s).2.1), .bool (bad || (quo s [] s).2.2)] ty := by
 have hbl : b < w.heap.size := (Array.getElem?_eq_some_iff.1 hb).1
 have hB0 : jP w w b [.string (bs s), .bool bad] ty := ⟨rfl, rfl, rfl, Nat.le_refl _, fun _ _ _ => rfl, hb⟩
 go_enter Tryz.func44, Tryz.ntmps44
 go_wp2
 go_loopw [] (fun wr => ∃ (u acc : List UInt8), Lib.IsBuilderF 102 5 w.heap.size w.heap.size (Lib.byteCells acc) wr ∧ jP w wr b [.string (bs u), .bool bad] ty ∧ quo u acc u = quo s [] s ∧ acc.length + u.length ≤ s.length) (fun wr => KK b wr)
 case atStart =>
  refine ⟨s, [], (Lib.IsBuilderF.of (Lib.fresh_isBuilder 102 5 w)), hB0.below hbl ((Below.refl _ w).alloc (Nat.le_refl _) _), rfl, by simp⟩
 case round =>
  obtain ⟨u, acc, hI, hBx, hq, hlen⟩ := hrel
  have hc0 : wr.cell? ⟨b, 0, none⟩ = some (.string (bs u)) := by rw [Lib.cell_of_heap hBx.at']; rfl
  have hf1 : wr.frozen? ⟨b, 1, none⟩ = false := Lib.frozen_of_heap hBx.at' 1
  have hgw := hg.to hBx
  obtain ⟨m, hm⟩ : ∃ m, wr.cell? ⟨tS.g 1, 0, none⟩ = some (.int .i64 m) := Gh (fun g l h => (hgw g l h).2.2)
  have hus : (bs u).size < 4294967281 := by rw [aD]; omega
  rcases split u with ⟨hx, hno⟩ | ⟨a, r, hu, hna, hx⟩
  ·have hcut : Lib.cut (bs u).data.toList (bs [39]).data.toList = (u, [], false) := by
    show Lib.cut u [39] = _
    unfold Lib.cut; rw [hx]; rfl
   have hq2 : quo s [] s = ([], u, true) := by
    rw [← hq]
    have := xD u u acc [] hno
    rw [List.append_nil] at this
    rw [this, pw]
   go_wp2_with (go_at_call 80; refine (Any.strings_Cut Ll (bs u) (bs [39]) m _ hus hm).mono ?_)
   rintro e W1 rfl k rfl
   have hB1 : jP w (wr.drewN k) b [.string (bs u), .bool bad] ty := hBx.below hbl (tD _ _ _)
   generalize wr.drewN k = W1 at hB1 ⊢
   have d1 : W1.cell? ⟨b, 1, none⟩ = some (.bool bad) := by rw [Lib.cell_of_heap hB1.at']; rfl
   have f1 : W1.frozen? ⟨b, 1, none⟩ = false := Lib.frozen_of_heap hB1.at' 1
   go_wp2
   go_ret
   rw [hq2]
   refine ⟨rfl, ?_⟩
   have := hB1.set1 (z := .bool true)
   simpa using this
  ·subst hu
   have hcut : Lib.cut (bs (a ++ 39 :: r)).data.toList (bs [39]).data.toList = (a, r, true) := by
    show Lib.cut (a ++ 39 :: r) [39] = _
    unfold Lib.cut; rw [hx, if_pos (by omega)]; simp [List.drop_append]
   have hla : (a ++ 39 :: r).length = a.length + 1 + r.length := by simp; omega
   go_wp2_with (go_at_call 80; refine (Any.strings_Cut Ll (bs (a ++ 39 :: r)) (bs [39]) m _ hus hm).mono ?_)
   rintro e W1 rfl k rfl
   have hI1 : Lib.IsBuilderF 102 5 w.heap.size w.heap.size (Lib.byteCells acc) (wr.drewN k) := rL hI (fun _ _ _ => rfl)
   have hB1 : jP w (wr.drewN k) b [.string (bs (a ++ 39 :: r)), .bool bad] ty := hBx.below hbl (tD _ _ _)
   generalize wr.drewN k = W1 at hI1 hB1 ⊢
   go_wp2_with (go_at_call 81; refine (Any.Builder_WriteString_k Li Jz w.heap.size w.heap.size _ (bs a) _ hI1 (by rw [Lib.byteCells_length, aD]; omega) hB1.size).mono ?_)
   rintro e W2 ⟨rfl, h2, b2, _⟩
   have hI2 : Lib.IsBuilderF 102 5 w.heap.size w.heap.size (Lib.byteCells (acc ++ a)) W2 := by
    rw [Lib.byteCells_append]; exact Or.inr h2
   have hB2 := hB1.below hbl b2
   have d0 : W2.cell? ⟨b, 0, none⟩ = some (.string (bs (a ++ 39 :: r))) := by rw [Lib.cell_of_heap hB2.at']; rfl
   have f0 : W2.frozen? ⟨b, 0, none⟩ = false := Lib.frozen_of_heap hB2.at' 0
   have hB3 : jP w (W2.setCell ⟨b, 0, none⟩ (.string (bs r))) b [.string (bs r), .bool bad] ty := hB2.set0
   have hI3 : Lib.IsBuilderF 102 5 w.heap.size w.heap.size (Lib.byteCells (acc ++ a)) (W2.setCell ⟨b, 0, none⟩ (.string (bs r))) := rL hI2 (fun x h1 h2 => Below.heap_setCell _ _ _ _ (fun e => by simp at e; omega))
   have hq2 : quo s [] s = quo (a ++ 39 :: r) (acc ++ a) (39 :: r) := by rw [← hq, xD _ _ _ _ hna]
   have hg3 := hg.to hB3
   cases hp : pre [39] r with
   | false =>
    have hne : r.head? ≠ some 39 := by
     intro h
     match r, h with
     | c :: r, h => simp at h; subst h; simp [pre] at hp
    rw [tz _ _ _ hne] at hq2
    have hoff : off [39] r = r := by unfold off; rw [hp]; rfl
    have htk := B4 [39] r bad
    rw [hp, hoff] at htk
    go_wp2_with (go_at_call 40; refine (MC.box2 (us := [.string (bs [39])]) rfl (eu (bs [39]) ⟨bs r, bad⟩ _ htk) hB3.at' hg3).mono ?_)
    rintro e W4 rfl hB4
    have hI4 : Lib.IsBuilderF 102 5 w.heap.size w.heap.size (Lib.byteCells (acc ++ a)) W4 := rL hI3 (fun x h1 h2 => hB4.oth x h2 (by omega))
    have hB5 := hB3.trans hB4
    go_wp2_with (go_at_call 82; refine (Any.Builder_String_any_k MS Jz w.heap.size w.heap.size (acc ++ a) _ hI4 hB5.size).mono ?_)
    rintro e W5 ⟨rfl, _, b5, _⟩
    go_wp2
    go_ret
    rw [hq2]
    refine ⟨rfl, ?_⟩
    have := hB5.below hbl b5
    simpa using this
   | true =>
    obtain ⟨r2, rfl⟩ : ∃ r2, r = 39 :: r2 := by
     match r, hp with
     | c :: r, hp => simp [pre] at hp; exact ⟨r, by rw [← hp]⟩
    rw [tG] at hq2
    have htk := B4 [39] (39 :: r2) bad
    have hoff : off [39] (39 :: r2) = r2 := jM [39] r2
    rw [hp, hoff] at htk
    go_wp2_with (go_at_call 40; refine (MC.box2 (us := [.string (bs [39])]) rfl (eu (bs [39]) ⟨bs (39 :: r2), bad⟩ _ htk) hB3.at' hg3).mono ?_)
    rintro e W4 rfl hB4
    have hI4 : Lib.IsBuilderF 102 5 w.heap.size w.heap.size (Lib.byteCells (acc ++ a)) W4 := rL hI3 (fun x h1 h2 => hB4.oth x h2 (by omega))
    have hB5 := hB3.trans hB4
    go_wp2_with (go_at_call 81; refine (Any.Builder_WriteString_k Li Jz w.heap.size w.heap.size _ (bs [39]) _ hI4 (by rw [Lib.byteCells_length, aD]; simp at hla hlen ⊢; omega) hB5.size).mono ?_)
    rintro e W6 ⟨rfl, h6, b6, _⟩
    have hB6 := hB5.below hbl b6
    go_wp2
    go_roundw
    case rel =>
     refine ⟨r2, acc ++ a ++ [39], ?_, hB6, hq2.symm, by simp at hla hlen ⊢; omega⟩
     rw [Lib.byteCells_append]; exact Or.inr h6
    case measure =>
     rw [DW hB6.at', DW hBx.at']
     simp; omega
theorem qq (p1 : aO) : CM Tryz.prog 44 [.one (.pt 0 0 0 0)] [.box [eG p1.s, cb p1.bad]] (fI p1) (fun r => vs r.1) (fun r => [.box [eG r.2.s, cb r.2.bad]]) := by
 obtain ⟨s, bad⟩ := p1
 intro r h
 unfold fI at h
 obtain ⟨g1, h⟩ := gq h
 obtain rfl := Option.some.inj h
 exact MC.ofBox (us := []) rfl fun w b ty hb hg => B6 s.data.toList bad (by simpa using g1) w b ty (by rw [vg]; exact hb) hg
end Go.Proofs.YtpmoopnkoknbeaaGreatDoor
namespace Go.Proofs.YtpmoopnkoknbeaaGreatDoor
open Go.SX Go
set_option maxRecDepth 100000
set_option maxHeartbeats 8000000
def aU (p1 : ByteArray) (p2 : aO) : Option (Unit × aO) := ay (cI p1 p2) fun r1 => ax (!r1.1) (some ((), (aO.mk r1.2.s true))) (some ((), r1.2))
theorem bt (p1 : ByteArray) (p2 : aO) : CM Tryz.prog 41 [.one (.pt 0 0 0 0), vs p1] [.box [eG p2.s, cb p2.bad]] (aU p1 p2) (fun r => .tp []) (fun r => [.box [eG r.2.s, cb r.2.bad]]) :=
  qE 1 11 [] Tryz.f41 fun r => (mt true [0] (eu _ _) fun r1 _ => (uC Ng Ng))
def br (p1 : ByteArray) (p2 : aO) : Option (ByteArray × aO) := ay (jD p2.s p1) fun r1 => bB (0 ≤ (0 : Int) ∧ (0 : Int) ≤ (IntKind.i64.wrap ((p2.s.size : Int) - (r1.size : Int))) ∧ (IntKind.i64.wrap ((p2.s.size : Int) - (r1.size : Int))) ≤ (p2.s.size : Int)) <| ay (some (p2.s.extract (0 : Int).toNat (IntKind.i64.wrap ((p2.s.size : Int) - (r1.size : Int))).toNat)) fun y1 => some (y1, (aO.mk r1 p2.bad))
theorem cz (p1 : ByteArray) (p2 : aO) : CM Tryz.prog 43 [.one (.pt 0 0 0 0), vs p1] [.box [eG p2.s, cb p2.bad]] (br p1 p2) (fun r => vs r.1) (fun r => [.box [eG r.2.s, cb r.2.bad]]) :=
  qE 1 31 [] Tryz.f43 fun r => (uP (sY _ _) fun r1 _ => (nr 12 (wN 25 vs fun y1 => (uR .ret sd))))
def fM (p2 : aO) (r1 : (Int × Bool)) : Option (Int × aO) := some (r1.1, (aO.mk p2.s true))
def fR (p2 : aO) (r1 : (Int × Bool)) (z1 : Bool) : Option (Int × aO) := some (r1.1, (aO.mk p2.s z1))
def bF (p1 : ByteArray) (p2 : aO) : Option (Int × aO) := ay (nc p1) fun r1 => ax r1.2 (ax p2.bad (fM p2 r1) (fM p2 r1)) (ax p2.bad (fR p2 r1 true) (fR p2 r1 false))
theorem co (p1 : ByteArray) (p2 : aO) : CM Tryz.prog 42 [.one (.pt 0 0 0 0), vs p1] [.box [eG p2.s, cb p2.bad]] (bF p1 p2) (fun r => vi r.1) (fun r => [.box [eG r.2.s, cb r.2.bad]]) :=
  qE 1 24 [] Tryz.f42 fun r => (Nt (xc _) (fun r1 t1 p3 _ => (uQ (kS Tryz.f42 [1,1,0] 1) fun K3 hK3 => have hJ1 : ∀ (_ : Unit), fM p2 r1 = some r → K3.p [(5, vi r1.1)] [.box [eG p2.s, cb true]] := fun _ h => hK3 h (uR .ret sd); (uC (uJ (hJ1 ())) (uJ (hJ1 ()))))) (fun r1 _ => (uQ (kS Tryz.f42 [1,1,0] 1) fun K6 hK6 => have hJ2 : ∀ (z1 : Bool), fR p2 r1 z1 = some r → K6.p [(5, vi r1.1)] [.box [eG p2.s, cb z1]] := fun z1 h => hK6 h (uR .ret sd); (uC (uJ (hJ2 true)) (uJ (hJ2 false))))))
def iN (x1 : Bool) : Option Bool := some x1
def bI (p1 p2 p3 : Int) : Option Bool := ax (decide (p2 ≤ p1)) (iN (decide (p1 ≤ p3))) (iN false)
theorem cc (p1 p2 p3 : Int) : CT Tryz.prog 70 [vi p1, vi p2, vi p3] (bI p1 p2 p3) vb :=
  eB 15 [] Tryz.f70 fun r => (uQ (kS Tryz.f70 [1,0] 1) fun K2 hK2 => have hJ1 : ∀ (x1 : Bool), iN x1 = some r → K2.p [(6, vb x1)] [] := fun x1 h => hK2 h (uR .ret xF); (uC (uJ (hJ1 (decide (p1 ≤ p3)))) (uJ (hJ1 false))))
def j9 (x1 : Bool) : Option Bool := some x1
def qa (p1 : Int) : Option Bool := ax ((p1.tmod (4 : Int)) == 0) (ax ((p1.tmod (100 : Int)) != 0) (j9 true) (j9 ((p1.tmod (400 : Int)) == 0))) (j9 false)
theorem zy (p1 : Int) : CT Tryz.prog 161 [vi p1] (qa p1) vb :=
  eB 16 [] Tryz.f161 fun r => (uQ (kS Tryz.f161 [1,0] 1) fun K2 hK2 => have hJ1 : ∀ (x1 : Bool), j9 x1 = some r → K2.p [(2, vb x1)] [] := fun x1 h => hK2 h (uR .ret xF); (uC (uC (uJ (hJ1 true)) (uJ (hJ1 ((p1.tmod (400 : Int)) == 0)))) (uJ (hJ1 false))))
def gy (x1 : Bool) : Option Int := ax x1 (some (30 : Int)) (some (31 : Int))
def ni (p1 p2 : Int) : Option Int := ax (p2 == 2) (ay (qa p1) fun r1 => ax r1 (some (29 : Int)) (some (28 : Int))) (ax (p2 == 4) (gy (p2 == 4)) (ax (p2 == 6) (gy (p2 == 6)) (ax (p2 == 9) (gy (p2 == 9)) (gy (p2 == 11)))))
theorem xK (p1 p2 : Int) : CT Tryz.prog 126 [vi p1, vi p2] (ni p1 p2) vi :=
  eB 15 [] Tryz.f126 fun r => (uC (uP (zy _) fun r1 _ => (uC (uR .ret xF) (uR .ret xF))) (uQ (kS Tryz.f126 [1,0,1,0,1,1,0] 3) fun K12 hK12 => have hJ1 : ∀ (x1 : Bool), gy x1 = some r → K12.p [(10, vb x1)] [] := fun x1 h => hK12 h (uC (uR .ret xF) (uR .ret xF)); (uC (uJ (hJ1 (p2 == 4))) (uC (uJ (hJ1 (p2 == 6))) (uC (uJ (hJ1 (p2 == 9))) (uJ (hJ1 (p2 == 11))))))))
def fG (x2 : Bool) : Option Int := ax x2 (some (3 : Int)) (some (0 : Int))
def fE (p1 : dz) (x1 : Bool) : Option Int := ax x1 (some (3 : Int)) (ay (bI p1.hour (0 : Int) (23 : Int)) fun r5 => ax (!r5) (fG true) (ay (bI p1.minute (0 : Int) (59 : Int)) fun r6 => ax (!r6) (fG true) (ay (bI p1.second (0 : Int) (59 : Int)) fun r7 => fG (!r7))))
def jL (p1 : dz) : Option Int := ay (bI p1.year (1 : Int) (9999 : Int)) fun r1 => ax (!r1) (fE p1 true) (ay (bI p1.month (1 : Int) (12 : Int)) fun r2 => ax (!r2) (fE p1 true) (ay (ni p1.year p1.month) fun r3 => ay (bI p1.day (1 : Int) r3) fun r4 => fE p1 (!r4)))
theorem sW (p1 : dz) : CT Tryz.prog 83 [.ag [ci p1.year, ci p1.month, ci p1.day, ci p1.hour, ci p1.minute, ci p1.second]] (jL p1) vi :=
  eB 40 [] Tryz.f83 fun r => (uQ (kS Tryz.f83 [1,0,0] 2) fun K3 hK3 => have hJ1 : ∀ (x1 : Bool), fE p1 x1 = some r → K3.p [(1, .one (.pv (.rp [[pi p1.year, pi p1.month, pi p1.day, pi p1.hour, pi p1.minute, pi p1.second]] 0 0))), (23, vb x1)] [] := fun x1 h => hK3 h (uC (uR .ret xF) (uQ (kS Tryz.f83 [1,1,0,0] 2) fun K13 hK13 => have hJ2 : ∀ (x2 : Bool), fG x2 = some r → K13.p [(39, vb x2)] [] := fun x2 h => hK13 h (uC (uR .ret xF) (uR .ret xF)); (uP (cc _ _ _) fun r5 _ => (uC (uJ (hJ2 true)) (uP (cc _ _ _) fun r6 _ => (uC (uJ (hJ2 true)) (uP (cc _ _ _) fun r7 _ => (uJ (hJ2 (!r7)))))))))); (nr 18 (uP (cc _ _ _) fun r1 _ => (uC (uJ (hJ1 true)) (uP (cc _ _ _) fun r2 _ => (uC (uJ (hJ1 true)) (uP (xK _ _) fun r3 _ => (uP (cc _ _ _) fun r4 _ => (uJ (hJ1 (!r4)))))))))))
def jo (x1 x2 : Int) : Option (Int × Int) := some (x1, x2)
def jl (p1 p2 : Int) : Option (Int × Int) := bB (p2 ≠ 0) <| bB (p2 ≠ 0) <| ax (decide ((p1.tmod p2) < (0 : Int))) (jo (IntKind.i64.wrap ((IntKind.i64.wrap (p1.tdiv p2)) - (1 : Int))) (IntKind.i64.wrap ((p1.tmod p2) + p2))) (jo (IntKind.i64.wrap (p1.tdiv p2)) (p1.tmod p2))
theorem oF (p1 p2 : Int) : CT Tryz.prog 135 [vi p1, vi p2] (jl p1 p2) (fun r => .tp [vi r.1, vi r.2]) :=
  eB 23 [] Tryz.f135 fun r => (nr 7 (uG (uG (uQ (kS Tryz.f135 [1,1,0] 1) fun K5 hK5 => have hJ1 : ∀ (x1 x2 : Int), jo x1 x2 = some r → K5.p [(6, vi x1), (7, vi x2)] [] := fun x1 x2 h => hK5 h (uR .ret xF); (uC (uJ (hJ1 (IntKind.i64.wrap ((IntKind.i64.wrap (p1.tdiv p2)) - (1 : Int))) (IntKind.i64.wrap ((p1.tmod p2) + p2)))) (uJ (hJ1 (IntKind.i64.wrap (p1.tdiv p2)) (p1.tmod p2))))))))
def jZ (p3 x1 x2 : Int) : Option Int := ay (jl x1 (400 : Int)) fun r1 => ay (some (IntKind.i64.wrap ((IntKind.i64.wrap (r1.1 * 146097)) + (IntKind.i64.wrap (r1.2 * 365))))) fun y1 => ay (some (IntKind.i64.wrap ((IntKind.i64.wrap (y1 + (IntKind.i64.wrap (r1.2.tdiv (4 : Int))))) - (IntKind.i64.wrap (r1.2.tdiv (100 : Int)))))) fun y2 => ay (some (IntKind.i64.wrap ((153 : Int) * (IntKind.i64.wrap (x2 - 3))))) fun y3 => ay (some (IntKind.i64.wrap ((IntKind.i64.wrap (y3 + 2)).tdiv (5 : Int)))) fun y4 => ay (some (IntKind.i64.wrap ((IntKind.i64.wrap ((IntKind.i64.wrap (y2 + y4)) + p3)) - (1 : Int)))) fun y5 => some (IntKind.i64.wrap (y5 - 719468))
def pg (p1 p2 p3 : Int) : Option Int := ax (decide (p2 ≤ (2 : Int))) (jZ p3 (IntKind.i64.wrap (p1 - 1)) (IntKind.i64.wrap (p2 + 12))) (jZ p3 p1 p2)
theorem zB (p1 p2 p3 : Int) : CT Tryz.prog 127 [vi p1, vi p2, vi p3] (pg p1 p2 p3) vi :=
  eB 41 [] Tryz.f127 fun r => (uQ (kS Tryz.f127 [1,0] 1) fun K2 hK2 => have hJ1 : ∀ (x1 x2 : Int), jZ p3 x1 x2 = some r → K2.p [(0, vi x1), (1, vi x2), (2, vi p3)] [] := fun x1 x2 h => hK2 h (uP (oF _ _) fun r1 _ => (uY 24 vi fun y1 => (uY 30 vi fun y2 => (uY 33 vi fun y3 => (uY 35 vi fun y4 => (uY 39 vi fun y5 => (uR .ret xF))))))); (uC (uJ (hJ1 (IntKind.i64.wrap (p1 - 1)) (IntKind.i64.wrap (p2 + 12)))) (uJ (hJ1 p1 p2))))
def md (p1 : dz) : Option Int := ay (pg p1.year p1.month p1.day) fun r1 => ay (some (IntKind.i64.wrap ((IntKind.i64.wrap (r1 * 86400)) + (IntKind.i64.wrap (p1.hour * 3600))))) fun y1 => ay (some (IntKind.i64.wrap ((IntKind.i64.wrap (y1 + (IntKind.i64.wrap (p1.minute * 60)))) + p1.second))) fun y2 => some y2
theorem wo (p1 : dz) : CT Tryz.prog 84 [.ag [ci p1.year, ci p1.month, ci p1.day, ci p1.hour, ci p1.minute, ci p1.second]] (md p1) vi :=
  eB 22 [] Tryz.f84 fun r => (nr 18 (uP (zB _ _ _) fun r1 _ => (uY 14 vi fun y1 => (uY 21 vi fun y2 => (uR .ret xF)))))
def ez (p1 : aO) : Option (Int × aO) := ay (at? ([(ByteArray.mk #[45]), (ByteArray.mk #[45]), (ByteArray.mk #[84]), (ByteArray.mk #[58]), (ByteArray.mk #[58]), (ByteArray.mk #[90])]) (0 : Int)) fun e1 => ay (br (ByteArray.mk #[48, 49, 50, 51, 52, 53, 54, 55, 56, 57]) p1) fun r1 => ay (bF r1.1 r1.2) fun r2 => ay (aU e1 r2.2) fun r3 => ay (at? ([(ByteArray.mk #[45]), (ByteArray.mk #[45]), (ByteArray.mk #[84]), (ByteArray.mk #[58]), (ByteArray.mk #[58]), (ByteArray.mk #[90])]) (1 : Int)) fun e2 => ay (br (ByteArray.mk #[48, 49, 50, 51, 52, 53, 54, 55, 56, 57]) r3.2) fun r4 => ay (bF r4.1 r4.2) fun r5 => bB ([r2.1].length + 1 ≤ 4294967296) <| ay (aU e2 r5.2) fun r6 => ay (at? ([(ByteArray.mk #[45]), (ByteArray.mk #[45]), (ByteArray.mk #[84]), (ByteArray.mk #[58]), (ByteArray.mk #[58]), (ByteArray.mk #[90])]) (2 : Int)) fun e3 => ay (br (ByteArray.mk #[48, 49, 50, 51, 52, 53, 54, 55, 56, 57]) r6.2) fun r7 => ay (bF r7.1 r7.2) fun r8 => bB (([r2.1] ++ [r5.1]).length + 1 ≤ 4294967296) <| ay (aU e3 r8.2) fun r9 => ay (at? ([(ByteArray.mk #[45]), (ByteArray.mk #[45]), (ByteArray.mk #[84]), (ByteArray.mk #[58]), (ByteArray.mk #[58]), (ByteArray.mk #[90])]) (3 : Int)) fun e4 => ay (br (ByteArray.mk #[48, 49, 50, 51, 52, 53, 54, 55, 56, 57]) r9.2) fun r10 => ay (bF r10.1 r10.2) fun r11 => bB ((([r2.1] ++ [r5.1]) ++ [r8.1]).length + 1 ≤ 4294967296) <| ay (aU e4 r11.2) fun r12 => ay (at? ([(ByteArray.mk #[45]), (ByteArray.mk #[45]), (ByteArray.mk #[84]), (ByteArray.mk #[58]), (ByteArray.mk #[58]), (ByteArray.mk #[90])]) (4 : Int)) fun e5 => ay (br (ByteArray.mk #[48, 49, 50, 51, 52, 53, 54, 55, 56, 57]) r12.2) fun r13 => ay (bF r13.1 r13.2) fun r14 => bB (((([r2.1] ++ [r5.1]) ++ [r8.1]) ++ [r11.1]).length + 1 ≤ 4294967296) <| ay (aU e5 r14.2) fun r15 => ay (at? ([(ByteArray.mk #[45]), (ByteArray.mk #[45]), (ByteArray.mk #[84]), (ByteArray.mk #[58]), (ByteArray.mk #[58]), (ByteArray.mk #[90])]) (5 : Int)) fun e6 => ay (br (ByteArray.mk #[48, 49, 50, 51, 52, 53, 54, 55, 56, 57]) r15.2) fun r16 => ay (bF r16.1 r16.2) fun r17 => bB ((((([r2.1] ++ [r5.1]) ++ [r8.1]) ++ [r11.1]) ++ [r14.1]).length + 1 ≤ 4294967296) <| ay (aU e6 r17.2) fun r18 => ay (at? ((((([r2.1] ++ [r5.1]) ++ [r8.1]) ++ [r11.1]) ++ [r14.1]) ++ [r17.1]) (0 : Int)) fun e7 => ay (at? ((((([r2.1] ++ [r5.1]) ++ [r8.1]) ++ [r11.1]) ++ [r14.1]) ++ [r17.1]) (1 : Int)) fun e8 => ay (at? ((((([r2.1] ++ [r5.1]) ++ [r8.1]) ++ [r11.1]) ++ [r14.1]) ++ [r17.1]) (2 : Int)) fun e9 => ay (at? ((((([r2.1] ++ [r5.1]) ++ [r8.1]) ++ [r11.1]) ++ [r14.1]) ++ [r17.1]) (3 : Int)) fun e10 => ay (at? ((((([r2.1] ++ [r5.1]) ++ [r8.1]) ++ [r11.1]) ++ [r14.1]) ++ [r17.1]) (4 : Int)) fun e11 => ay (at? ((((([r2.1] ++ [r5.1]) ++ [r8.1]) ++ [r11.1]) ++ [r14.1]) ++ [r17.1]) (5 : Int)) fun e12 => ay (jL (dz.mk e7 e8 e9 e10 e11 e12)) fun r19 => ax (r19 != 0) (some ((0 : Int), (aO.mk r18.2.s true))) (ay (md (dz.mk e7 e8 e9 e10 e11 e12)) fun r20 => some (r20, r18.2))
theorem qr (p1 : aO) : CM Tryz.prog 45 [.one (.pt 0 0 0 0)] [.box [eG p1.s, cb p1.bad]] (ez p1) (fun r => vi r.1) (fun r => [.box [eG r.2.s, cb r.2.bad]]) :=
  qE 1 51 [6] Tryz.f45 fun r => (uA (vi (6 : Int)) (KO 6 (uT (uL eS fun e1 a9 => (mt true [0] (cz _ _) fun r1 _ => (mt true [0] (co _ _) fun r2 _ => (Ns eI [r2.1] (mt true [0] (bt _ _) fun r3 _ => (uT (uL eS fun e2 a18 => (mt true [0] (cz _ _) fun r4 _ => (mt true [0] (co _ _) fun r5 _ => (Cx eI 1 [r5.1] (mt true [0] (bt _ _) fun r6 _ => (uT (uL eS fun e3 a28 => (mt true [0] (cz _ _) fun r7 _ => (mt true [0] (co _ _) fun r8 _ => (Cx eI 1 [r8.1] (mt true [0] (bt _ _) fun r9 _ => (uT (uL eS fun e4 a38 => (mt true [0] (cz _ _) fun r10 _ => (mt true [0] (co _ _) fun r11 _ => (Cx eI 1 [r11.1] (mt true [0] (bt _ _) fun r12 _ => (uT (uL eS fun e5 a48 => (mt true [0] (cz _ _) fun r13 _ => (mt true [0] (co _ _) fun r14 _ => (Cx eI 1 [r14.1] (mt true [0] (bt _ _) fun r15 _ => (uT (uL eS fun e6 a58 => (mt true [0] (cz _ _) fun r16 _ => (mt true [0] (co _ _) fun r17 _ => (Cx eI 1 [r17.1] (mt true [0] (bt _ _) fun r18 _ => (uF (yc 20 1 [2,3] (J2 eI 1 fun e7 a67 => (KH eI a67 (J2 eI 1 fun e8 a68 => (KH eI a68 (J2 eI 1 fun e9 a69 => (KH eI a69 (J2 eI 1 fun e10 a70 => (KH eI a70 (J2 eI 1 fun e11 a71 => (KH eI a71 (J2 eI 1 fun e12 a72 => (KH eI a72 (uP (sW _) fun r19 _ => (uC (uR .ret sd) (uP (wo _) fun r20 _ => (uR .ret sd))))))))))))))))))))))))))))))))))))))))))))))))))))))))
def fe (p1 : af) (x1 : Int) : Option aL := ay (at? p1.fields x1) fun e1 => some e1
def dq (p1 : af) (p2 : Int) : Option aL := ax (p1.kind == 6) (fe p1 (0 : Int)) (fe p1 p2)
theorem l7 (p1 : af) (p2 : Int) : CT Tryz.prog 62 [.ag [ci p1.kind, ci p1.scale, cl au p1.fields], vi p2] (dq p1 p2) (fun r => .ag [ci r.id, eG r.name, cb r.need, ci r.type.kind, ci r.type.scale, cl au r.type.fields]) :=
  eB 13 [4] Tryz.f62 fun r => (uQ (kS Tryz.f62 [1,0] 1) fun K2 hK2 => have hJ1 : ∀ (x1 : Int), fe p1 x1 = some r → K2.p [(1, vi x1), (2, .one (.pv (.rp [[pi p1.kind, pi p1.scale, .ro (au.els p1.fields)]] 0 0))), (4, .one (.pt 0 0 0 0))] [.box [ci (0 : Int), eG ByteArray.empty, cb false, ci (0 : Int), ci (0 : Int), .pv (.s (.slice none 0 0))]] := fun x1 h => hK2 h (uL au fun e1 a6 => (uR .ret xF)); (uC (uJ (hJ1 (0 : Int))) (uJ (hJ1 p2))))
def cr (l2 : List ac) (z7 : ByteArray) (z8 : Bool) : Option ((List ac) × aO) := some (l2, (aO.mk z7 z8))
def bo (rec1 : List ac → ByteArray → Bool → Option ((List ac) × aO)) (q_value_reader_value : af → aO → Option (ac × aO)) (p1 : af) (l1 : List ac) (z5 : ByteArray) (z6 x2 : Bool) : Option ((List ac) × aO) := ax x2 (cr l1 z5 true) (ay (dq p1 ((l1.length : Nat) : Int)) fun r3 => ay (q_value_reader_value r3.type (aO.mk z5 z6)) fun r4 => bB (l1.length + 1 ≤ 4294967296) <| rec1 (l1 ++ [r4.1]) r4.2.s r4.2.bad)
def cm (rec1 : List ac → ByteArray → Bool → Option ((List ac) × aO)) (q_value_reader_value : af → aO → Option (ac × aO)) (p1 : af) (l1 : List ac) (z5 : ByteArray) (z6 : Bool) : Option ((List ac) × aO) := ax (p1.kind == 7) (ax (((l1.length : Nat) : Int) == (p1.fields.length : Int)) (bo rec1 q_value_reader_value p1 l1 z5 z6 true) (bo rec1 q_value_reader_value p1 l1 z5 z6 (decide ((64 : Int) < ((l1.length : Nat) : Int))))) (bo rec1 q_value_reader_value p1 l1 z5 z6 (decide ((64 : Int) < ((l1.length : Nat) : Int))))
def bV (rec1 : List ac → ByteArray → Bool → Option ((List ac) × aO)) (q_value_reader_value : af → aO → Option (ac × aO)) (p1 : af) (l1 : List ac) (z3 : ByteArray) (z4 x1 : Bool) : Option ((List ac) × aO) := ax x1 (ax (decide ((0 : Int) < ((l1.length : Nat) : Int))) (ay (aU (ByteArray.mk #[44, 32]) (aO.mk z3 z4)) fun r2 => cm rec1 q_value_reader_value p1 l1 r2.2.s r2.2.bad) (cm rec1 q_value_reader_value p1 l1 z3 z4)) (cr l1 z3 z4)
def aJ (q_value_reader_value : af → aO → Option (ac × aO)) (p1 : af) (p2 : ByteArray) : Nat → List ac → ByteArray → Bool → Option ((List ac) × aO)
 | 0, _, _, _ => none
 | k1 + 1, l1, z1, z2 => ax (!z2) (ay (cI p2 (aO.mk z1 z2)) fun r1 => bV (aJ q_value_reader_value p1 p2 k1) q_value_reader_value p1 l1 r1.2.s r1.2.bad (!r1.1)) (bV (aJ q_value_reader_value p1 p2 k1) q_value_reader_value p1 l1 z1 z2 false)
def bg (p1 : af) (z1 : ByteArray) (z2 : Bool) (z3 : Int) (z4 : ByteArray) (z5 : List ac) : Option (ac × aO) := some ((ac.mk p1.kind z3 p1.scale z4 z5), (aO.mk z1 z2))
mutual
def cN : Nat → af → ByteArray → aO → Option ((List ac) × aO)
 | 0, _, _, _ => none
 | k0 + 1, p1, p2, p3 => aJ (aS k0) p1 p2 ba [] p3.s p3.bad
def aS : Nat → af → aO → Option (ac × aO)
 | 0, _, _ => none
 | k0 + 1, p1, p2 => ay (cI (ByteArray.mk #[110, 117, 108, 108]) p2) fun r1 => ax r1.1 (some ((ac.mk (0 : Int) (0 : Int) (0 : Int) ByteArray.empty []), r1.2)) (ax (p1.kind == 1) (ay (cI (ByteArray.mk #[116, 114, 117, 101]) r1.2) fun r2 => ax r2.1 (bg p1 r2.2.s r2.2.bad (1 : Int) ByteArray.empty []) (ay (aU (ByteArray.mk #[102, 97, 108, 115, 101]) r2.2) fun r3 => bg p1 r3.2.s r3.2.bad (0 : Int) ByteArray.empty [])) (ax (p1.kind == 2) (ay (br (ByteArray.mk #[45, 48, 49, 50, 51, 52, 53, 54, 55, 56, 57]) r1.2) fun r4 => ay (bF r4.1 r4.2) fun r5 => bg p1 r5.2.s r5.2.bad r5.1 ByteArray.empty []) (ax (p1.kind == 3) (ay (br (ByteArray.mk #[45, 48, 49, 50, 51, 52, 53, 54, 55, 56, 57]) r1.2) fun r6 => ay (aU (ByteArray.mk #[46]) r6.2) fun r7 => ay (br (ByteArray.mk #[45, 48, 49, 50, 51, 52, 53, 54, 55, 56, 57]) r7.2) fun r8 => bB (r6.1.size + r8.1.size ≤ 4611686018427387904) <| ay (bF (r6.1 ++ r8.1) r8.2) fun r9 => bg p1 r9.2.s r9.2.bad r9.1 ByteArray.empty []) (ax (p1.kind == 4) (ay (aU (ByteArray.mk #[39]) r1.2) fun r10 => ay (fI r10.2) fun r11 => bg p1 r11.2.s r11.2.bad (0 : Int) r11.1 []) (ax (p1.kind == 5) (ay (ez r1.2) fun r12 => bg p1 r12.2.s r12.2.bad r12.1 ByteArray.empty []) (ax (p1.kind == 6) (ay (aU (ByteArray.mk #[91]) r1.2) fun r13 => ay ((cN k0) p1 (ByteArray.mk #[93]) r13.2) fun r14 => bg p1 r14.2.s r14.2.bad (0 : Int) ByteArray.empty r14.1) (ax (p1.kind == 7) (ay (aU (ByteArray.mk #[40]) r1.2) fun r15 => ay ((cN k0) p1 (ByteArray.mk #[41]) r15.2) fun r16 => bg p1 r16.2.s r16.2.bad (0 : Int) ByteArray.empty r16.1) (bg p1 r1.2.s r1.2.bad (0 : Int) ByteArray.empty []))))))))
end
mutual
theorem mH : ∀ (k0 : Nat) (p1 : af) (p2 : ByteArray) (p3 : aO), CM Tryz.prog 46 [.one (.pt 0 0 0 0), .ag [ci p1.kind, ci p1.scale, cl au p1.fields], vs p2] [.box [eG p3.s, cb p3.bad]] (cN k0 p1 p2 p3) (fun r => vl ak r.1) (fun r => [.box [eG r.2.s, cb r.2.bad]])
  | 0, _, _, _ => Ip (cN.eq_1 ..)
  | k0 + 1, p1, p2, p3 => qE 1 54 [] Tryz.f46 fun r => (uU (cN.eq_2 ..) (uQ (kS Tryz.f46 [1,1,0] 1) fun K3 hK3 => have hJ4 : ∀ (l2 : List ac) (z7 : ByteArray) (z8 : Bool), cr l2 z7 z8 = some r → K3.p [(7, .one (.sl 1 5 0 l2.length))] [.box [eG z7, cb z8], .arr 5 (ak.els l2)] := fun l2 z7 z8 h => hK3 h (CW ak l2 1 [6] (uR .ret sd)); (Fh (.li 7 5) (uO (cd Tryz.f46 [1,1,0,0,0]) (kS Tryz.f46 [1,1,0,0] 1) fun R1 b1 => have hL1 : ∀ (k1 : Nat) (l1 : List ac) (z1 : ByteArray) (z2 : Bool), aJ (aS k0) p1 p2 k1 l1 z1 z2 = some r → (R1 k1).p [(0, .one (.pt 0 0 0 0)), (2, vs p2), (4, .one (.pv (.rp [(bL p1)] 0 0))), (7, .one (.sl 1 5 0 l1.length))] [.box [eG z1, cb z2], .arr 5 (ak.els l1)] := by intro k1; induction k1 with | zero => intro l1 z1 z2 h; exact lU (aJ.eq_1 ..) h | succ k1 ih1 => intro l1 z1 z2 h; exact b1 h (uU (aJ.eq_2 ..) (uQ (kS Tryz.f46 [1,1,0,0,0,0,0] 2) fun K5 hK5 => have hJ1 : ∀ (z3 : ByteArray) (z4 x1 : Bool), bV (aJ (aS k0) p1 p2 k1) (aS k0) p1 l1 z3 z4 x1 = some r → K5.p [(0, .one (.pt 0 0 0 0)), (2, vs p2), (4, .one (.pv (.rp [(bL p1)] 0 0))), (7, .one (.sl 1 5 0 l1.length)), (18, vb x1)] [.box [eG z3, cb z4], .arr 5 (ak.els l1)] := fun z3 z4 x1 h => hK5 h (uC (uQ (kS Tryz.f46 [1,1,0,0,0,1,0,0] 2) fun K9 hK9 => have hJ2 : ∀ (z5 : ByteArray) (z6 : Bool), cm (aJ (aS k0) p1 p2 k1) (aS k0) p1 l1 z5 z6 = some r → K9.p [(0, .one (.pt 0 0 0 0)), (2, vs p2), (4, .one (.pv (.rp [(bL p1)] 0 0))), (7, .one (.sl 1 5 0 l1.length))] [.box [eG z5, cb z6], .arr 5 (ak.els l1)] := fun z5 z6 h => hK9 h (uQ (kS Tryz.f46 [1,1,0,0,0,1,0,1,0,0] 3) fun K14 hK14 => have hJ3 : ∀ (x2 : Bool), bo (aJ (aS k0) p1 p2 k1) (aS k0) p1 l1 z5 z6 x2 = some r → K14.p [(0, .one (.pt 0 0 0 0)), (2, vs p2), (4, .one (.pv (.rp [(bL p1)] 0 0))), (7, .one (.sl 1 5 0 l1.length)), (39, vb x2)] [.box [eG z5, cb z6], .arr 5 (ak.els l1)] := fun x2 h => hK14 h (uC (uR (.exit 0) (xM (uJ (hJ4 l1 z5 true)))) (uP (l7 _ _) fun r3 _ => (mt true [0] (mJ k0 _ _) fun r4 _ => (uW 51 ak [r4.1] (Cx ak 1 [r4.1] (uJ (ih1 (l1 ++ [r4.1]) r4.2.s r4.2.bad))))))); (uC (uN au p1.fields (uC (uJ (hJ3 true)) (uJ (hJ3 (decide ((64 : Int) < ((l1.length : Nat) : Int))))))) (uJ (hJ3 (decide ((64 : Int) < ((l1.length : Nat) : Int))))))); (uC (mt true [0] (bt _ _) fun r2 _ => (uJ (hJ2 r2.2.s r2.2.bad))) (uJ (hJ2 z3 z4)))) (uR (.exit 0) (xM (uJ (hJ4 l1 z3 z4))))); (uC (mt true [0] (eu _ _) fun r1 _ => (uJ (hJ1 r1.2.s r1.2.bad (!r1.1)))) (uJ (hJ1 z1 z2 false)))))
 uE (hL1 ba [] p3.s p3.bad)))))
theorem mJ : ∀ (k0 : Nat) (p1 : af) (p2 : aO), CM Tryz.prog 22 [.one (.pt 0 0 0 0), .ag [ci p1.kind, ci p1.scale, cl au p1.fields]] [.box [eG p2.s, cb p2.bad]] (aS k0 p1 p2) (fun r => .ag [ci r.1.kind, ci r.1.n, ci r.1.scale, eG r.1.s, cl ak r.1.items]) (fun r => [.box [eG r.2.s, cb r.2.bad]])
  | 0, _, _ => Ip (aS.eq_1 ..)
  | k0 + 1, p1, p2 => qE 1 73 [4, 5] Tryz.f22 fun r => (uU (aS.eq_2 ..) (mt true [0] (eu _ _) fun r1 _ => (uC (uR .ret sd) (uQ (kS Tryz.f22 [1,1,1,0] 1) fun K8 hK8 => have hJ1 : ∀ (z1 : ByteArray) (z2 : Bool) (z3 : Int) (z4 : ByteArray) (z5 : List ac), bg p1 z1 z2 z3 z4 z5 = some r → K8.p [(4, .one (.pt 1 0 0 0)), (5, .one (.pt 2 0 0 0))] [.box [eG z1, cb z2], .box [ci (0 : Int), ci (0 : Int), ci (0 : Int), eG ByteArray.empty, .pv (.s (.slice none 0 0))], .box [ci p1.kind, ci z3, ci p1.scale, eG z4, cl ak z5]] := fun z1 z2 z3 z4 z5 h => hK8 h (uR .ret sd); (uC (mt true [0] (eu _ _) fun r2 _ => (uC (C4 (.sb 2 4) (uJ (hJ1 r2.2.s r2.2.bad (1 : Int) ByteArray.empty []))) (mt true [0] (bt _ _) fun r3 _ => (C4 (.sb 2 4) (uJ (hJ1 r3.2.s r3.2.bad (0 : Int) ByteArray.empty [])))))) (uC (mt true [0] (cz _ _) fun r4 _ => (mt true [0] (co _ _) fun r5 _ => (C4 (.sb 2 4) (uJ (hJ1 r5.2.s r5.2.bad r5.1 ByteArray.empty []))))) (uC (mt true [0] (cz _ _) fun r6 _ => (mt true [0] (bt _ _) fun r7 _ => (mt true [0] (cz _ _) fun r8 _ => (uG (mt true [0] (co _ _) fun r9 _ => (C4 (.sb 2 4) (uJ (hJ1 r9.2.s r9.2.bad r9.1 ByteArray.empty [])))))))) (uC (mt true [0] (bt _ _) fun r10 _ => (mt true [0] (qq _) fun r11 _ => (C4 (.sb 2 4) (uJ (hJ1 r11.2.s r11.2.bad (0 : Int) r11.1 []))))) (uC (mt true [0] (qr _) fun r12 _ => (C4 (.sb 2 4) (uJ (hJ1 r12.2.s r12.2.bad r12.1 ByteArray.empty [])))) (uC (mt true [0] (bt _ _) fun r13 _ => (mt true [0] (mH k0 _ _ _) fun r14 _ => (uJ (hJ1 r14.2.s r14.2.bad (0 : Int) ByteArray.empty r14.1)))) (uC (mt true [0] (bt _ _) fun r15 _ => (mt true [0] (mH k0 _ _ _) fun r16 _ => (uJ (hJ1 r16.2.s r16.2.bad (0 : Int) ByteArray.empty r16.1)))) (C4 (.sb 2 4) (uJ (hJ1 r1.2.s r1.2.bad (0 : Int) ByteArray.empty []))))))))))))))
end
def mg (rec1 : Nat → Option Bool) (p1 : ByteArray) (z1 : Nat) (x2 : Bool) : Option Bool := ax x2 (some false) (rec1 (z1 + (Utf8.decode p1 z1).2))
def oG : Option Bool := some true
def eW (p1 : ByteArray) : Nat → Nat → Option Bool
 | 0, _ => none
 | k1 + 1, z1 => ax (decide (z1 < p1.size)) (ax (decide (Int.ofNat (Utf8.decode p1 z1).1 < (32 : Int))) (mg (eW p1 k1) p1 z1 true) (mg (eW p1 k1) p1 z1 (Int.ofNat (Utf8.decode p1 z1).1 == 127))) (oG)
def mo (p1 : ByteArray) (x1 : Bool) : Option Bool := ax x1 (some false) (eW p1 ba 0)
def pK (p1 : ByteArray) : Option Bool := ax (decide ((256 : Int) < (p1.size : Int))) (mo p1 true) (ay (utf8_ValidString p1) fun r1 => mo p1 (!r1))
theorem AM (p1 : ByteArray) : CT Tryz.prog 129 [vs p1] (pK p1) vb :=
  eB 24 [] Tryz.f129 fun r => (uQ (kS Tryz.f129 [1,0,0] 2) fun K3 hK3 => have hJ1 : ∀ (x1 : Bool), mo p1 x1 = some r → K3.p [(0, vs p1), (12, vb x1)] [] := fun x1 h => hK3 h (uC (uR .ret xF) (uQ (kS Tryz.f129 [1,1,0] 1) fun K8 hK8 => have hJ3 : ∀ (_ : Unit), oG = some r → K8.p [] [] := fun _ h => hK8 h (uR .ret xF); (MT p1 (uO (cd Tryz.f129 [1,1,0,1,0,0]) (kS Tryz.f129 [1,1,0,1,0] 1) fun R1 b1 => have hL1 : ∀ (k1 z1 : Nat), eW p1 k1 z1 = some r → (R1 k1).p [(14, .one (.pt 0 0 0 0))] [.raw (.stringIter p1 z1)] := by intro k1; induction k1 with | zero => intro z1 h; exact lU (eW.eq_1 ..) h | succ k1 ih1 => intro z1 h; exact b1 h (uU (eW.eq_2 ..) (Nq 0 (fun b11 => (uT (uQ (kS Tryz.f129 [1,1,0,1,0,0,1,1,0,1,0] 2) fun K14 hK14 => have hJ2 : ∀ (x2 : Bool), mg (eW p1 k1) p1 z1 x2 = some r → K14.p [(14, .one (.pt 0 0 0 0)), (23, vb x2)] [.raw (.stringIter p1 (z1 + (Utf8.decode p1 z1).2))] := fun x2 h => hK14 h (uC (uR .ret (xN (xN xF))) (uJ (ih1 (z1 + (Utf8.decode p1 z1).2)))); (uC (uJ (hJ2 true)) (uJ (hJ2 (Int.ofNat (Utf8.decode p1 z1).1 == 127))))))) (fun b11 => (uF (uR (.exit 0) (xM (uJ (hJ3 ()))))))))
 uE (hL1 ba 0))))); (uC (uJ (hJ1 true)) (uP (oc _) fun r1 _ => (uJ (hJ1 (!r1))))))
def jd (x2 : Bool) : Option Bool := some x2
def ij (x3 : Bool) : Option Bool := some x3
def ii (x4 : Bool) : Option Bool := some x4
def hO (x5 : Bool) : Option Bool := some x5
def jc (x6 : Bool) : Option Bool := some x6
def ib (x7 : Bool) : Option Bool := some x7
def jz (x8 : Bool) : Option Bool := some x8
def jq (x9 : Bool) : Option Bool := some x9
def ju (p1 : ac) (x1 : Bool) : Option Bool := ax (p1.kind == 0) (ax x1 (ax (p1.s.toList == (ByteArray.mk #[]).toList) (jd ((p1.items.length : Int) == 0)) (jd false)) (jd false)) (ax (p1.kind == 1) (ay (bI p1.n (0 : Int) (1 : Int)) fun r1 => ax r1 (ax (p1.scale == 0) (ax (p1.s.toList == (ByteArray.mk #[]).toList) (ij ((p1.items.length : Int) == 0)) (ij false)) (ij false)) (ij false)) (ax (p1.kind == 2) (ay (bI p1.n (-999999999999999999 : Int) (999999999999999999 : Int)) fun r2 => ax r2 (ax (p1.scale == 0) (ax (p1.s.toList == (ByteArray.mk #[]).toList) (ii ((p1.items.length : Int) == 0)) (ii false)) (ii false)) (ii false)) (ax (p1.kind == 3) (ay (bI p1.n (-999999999999999999 : Int) (999999999999999999 : Int)) fun r3 => ax r3 (ay (bI p1.scale (0 : Int) (12 : Int)) fun r4 => ax r4 (ax (p1.s.toList == (ByteArray.mk #[]).toList) (hO ((p1.items.length : Int) == 0)) (hO false)) (hO false)) (hO false)) (ax (p1.kind == 4) (ax x1 (ay (pK p1.s) fun r5 => ax r5 (jc ((p1.items.length : Int) == 0)) (jc false)) (jc false)) (ax (p1.kind == 5) (ay (bI p1.n (-62135596800 : Int) (253402300799 : Int)) fun r6 => ax r6 (ax (p1.scale == 0) (ax (p1.s.toList == (ByteArray.mk #[]).toList) (ib ((p1.items.length : Int) == 0)) (ib false)) (ib false)) (ib false)) (ax (p1.kind == 6) (ax x1 (ax (p1.s.toList == (ByteArray.mk #[]).toList) (jz (decide ((p1.items.length : Int) ≤ (64 : Int)))) (jz false)) (jz false)) (ax (p1.kind == 7) (ax x1 (ax (p1.s.toList == (ByteArray.mk #[]).toList) (jq (decide ((0 : Int) < (p1.items.length : Int)))) (jq false)) (jq false)) (some false))))))))
def og (p1 : ac) : Option Bool := ax (p1.n == 0) (ju p1 (p1.scale == 0)) (ju p1 false)
theorem yv (p1 : ac) : CT Tryz.prog 91 [.ag [ci p1.kind, ci p1.n, ci p1.scale, eG p1.s, cl ak p1.items]] (og p1) vb :=
  eB 154 [] Tryz.f91 fun r => (uQ (kS Tryz.f91 [1,0] 1) fun K2 hK2 => have hJ1 : ∀ (x1 : Bool), ju p1 x1 = some r → K2.p [(1, .one (.pv (.rp [[pi p1.kind, pi p1.n, pi p1.scale, .s (.string p1.s), .ro (ak.els p1.items)]] 0 0))), (3, vb x1)] [] := fun x1 h => hK2 h (uC (uQ (kS Tryz.f91 [1,1,0,1,0,1,0,0] 3) fun K8 hK8 => have hJ2 : ∀ (x2 : Bool), jd x2 = some r → K8.p [(2, vb x2)] [] := fun x2 h => hK8 h (uR .ret xF); (uC (uC (uN ak p1.items (uJ (hJ2 ((p1.items.length : Int) == 0)))) (uJ (hJ2 false))) (uJ (hJ2 false)))) (uC (uQ (kS Tryz.f91 [1,1,0,1,0,1,1,1,0,0] 3) fun K13 hK13 => have hJ3 : ∀ (x3 : Bool), ij x3 = some r → K13.p [(2, vb x3)] [] := fun x3 h => hK13 h (uR .ret xF); (uP (cc _ _ _) fun r1 _ => (uC (uC (uC (uN ak p1.items (uJ (hJ3 ((p1.items.length : Int) == 0)))) (uJ (hJ3 false))) (uJ (hJ3 false))) (uJ (hJ3 false))))) (uC (uQ (kS Tryz.f91 [1,1,0,1,0,1,1,1,1,1,0,0] 3) fun K20 hK20 => have hJ4 : ∀ (x4 : Bool), ii x4 = some r → K20.p [(2, vb x4)] [] := fun x4 h => hK20 h (uR .ret xF); (uP (cc _ _ _) fun r2 _ => (uC (uC (uC (uN ak p1.items (uJ (hJ4 ((p1.items.length : Int) == 0)))) (uJ (hJ4 false))) (uJ (hJ4 false))) (uJ (hJ4 false))))) (uC (uQ (kS Tryz.f91 [1,1,0,1,0,1,1,1,1,1,1,1,0,0] 3) fun K27 hK27 => have hJ5 : ∀ (x5 : Bool), hO x5 = some r → K27.p [(2, vb x5)] [] := fun x5 h => hK27 h (uR .ret xF); (uP (cc _ _ _) fun r3 _ => (uC (uP (cc _ _ _) fun r4 _ => (uC (uC (uN ak p1.items (uJ (hJ5 ((p1.items.length : Int) == 0)))) (uJ (hJ5 false))) (uJ (hJ5 false)))) (uJ (hJ5 false))))) (uC (uQ (kS Tryz.f91 [1,1,0,1,0,1,1,1,1,1,1,1,1,1,0,0] 3) fun K35 hK35 => have hJ6 : ∀ (x6 : Bool), jc x6 = some r → K35.p [(2, vb x6)] [] := fun x6 h => hK35 h (uR .ret xF); (uC (uP (AM _) fun r5 _ => (uC (uN ak p1.items (uJ (hJ6 ((p1.items.length : Int) == 0)))) (uJ (hJ6 false)))) (uJ (hJ6 false)))) (uC (uQ (kS Tryz.f91 [1,1,0,1,0,1,1,1,1,1,1,1,1,1,1,1,0,0] 3) fun K41 hK41 => have hJ7 : ∀ (x7 : Bool), ib x7 = some r → K41.p [(2, vb x7)] [] := fun x7 h => hK41 h (uR .ret xF); (uP (cc _ _ _) fun r6 _ => (uC (uC (uC (uN ak p1.items (uJ (hJ7 ((p1.items.length : Int) == 0)))) (uJ (hJ7 false))) (uJ (hJ7 false))) (uJ (hJ7 false))))) (uC (uQ (kS Tryz.f91 [1,1,0,1,0,1,1,1,1,1,1,1,1,1,1,1,1,1,0,0] 3) fun K48 hK48 => have hJ8 : ∀ (x8 : Bool), jz x8 = some r → K48.p [(2, vb x8)] [] := fun x8 h => hK48 h (uR .ret xF); (uC (uC (uN ak p1.items (uJ (hJ8 (decide ((p1.items.length : Int) ≤ (64 : Int)))))) (uJ (hJ8 false))) (uJ (hJ8 false)))) (uC (uQ (kS Tryz.f91 [1,1,0,1,0,1,1,1,1,1,1,1,1,1,1,1,1,1,1,1,0,0] 3) fun K53 hK53 => have hJ9 : ∀ (x9 : Bool), jq x9 = some r → K53.p [(2, vb x9)] [] := fun x9 h => hK53 h (uR .ret xF); (uC (uC (uN ak p1.items (uJ (hJ9 (decide ((0 : Int) < (p1.items.length : Int)))))) (uJ (hJ9 false))) (uJ (hJ9 false)))) (uR .ret xF))))))))); (uC (uJ (hJ1 (p1.scale == 0))) (uJ (hJ1 false))))
def bA (z2 : Int) : Option (Int × Int) := some ((-1 : Int), z2)
def aH (q_value_sound_1_s : ac → Int → Int → Option (Bool × Int)) (p1 : (List ac)) (p2 : Int) : Nat → Int → Int → Option (Int × Int)
 | 0, _, _ => none
 | k1 + 1, z1, x1 => ax (decide (x1 < (p1.length : Int))) (ay (at? p1 x1) fun e1 => ay (q_value_sound_1_s e1 p2 z1) fun r1 => ax r1.1 (some (x1, r1.2)) ((aH q_value_sound_1_s p1 p2 k1) r1.2 (IntKind.i64.wrap (x1 + 1)))) (bA z1)
def hH (q_slices_ContainsFunc_api_Value_api_Value_of_value_sound_1 : (List ac) → Int → Int → Option (Bool × Int)) (p1 : ac) (p2 z1 : Int) (x1 : Bool) : Option (Bool × Int) := ax x1 (some (false, z1)) (ay (q_slices_ContainsFunc_api_Value_api_Value_of_value_sound_1 p1.items p2 z1) fun r2 => some ((!r2.1), r2.2))
def ji (q_slices_ContainsFunc_api_Value_api_Value_of_value_sound_1 : (List ac) → Int → Int → Option (Bool × Int)) (p1 : ac) (p2 z1 : Int) : Option (Bool × Int) := ax (decide ((4 : Int) < p2)) (hH q_slices_ContainsFunc_api_Value_api_Value_of_value_sound_1 p1 p2 z1 true) (ax (decide ((256 : Int) < z1)) (hH q_slices_ContainsFunc_api_Value_api_Value_of_value_sound_1 p1 p2 z1 true) (ay (og p1) fun r1 => hH q_slices_ContainsFunc_api_Value_api_Value_of_value_sound_1 p1 p2 z1 (!r1)))
mutual
def az : Nat → (List ac) → Int → Int → Option (Bool × Int)
 | 0, _, _, _ => none
 | k0 + 1, p1, p2, p3 => ay ((aQ k0) p1 p2 p3) fun r1 => some ((decide ((0 : Int) ≤ r1.1)), r1.2)
def aQ : Nat → (List ac) → Int → Int → Option (Int × Int)
 | 0, _, _, _ => none
 | k0 + 1, p1, p2, p3 => aH (fw k0) p1 p2 ba p3 (0 : Int)
def ip : Nat → ac → Int → Int → Option (Bool × Int)
 | 0, _, _, _ => none
 | k0 + 1, p1, p2, p3 => ax (p1.kind != 0) (ji (az k0) p1 p2 (IntKind.i64.wrap (p3 + 1))) (ji (az k0) p1 p2 p3)
def fw : Nat → ac → Int → Int → Option (Bool × Int)
 | 0, _, _, _ => none
 | k0 + 1, p1, p2, p3 => ay ((ip k0) p1 (IntKind.i64.wrap (p2 + 1)) p3) fun r1 => some ((!r1.1), r1.2)
end
mutual
theorem eT : ∀ (k0 : Nat) (p1 : (List ac)) (p2 p3 : Int), CM Tryz.prog 58 [vl ak p1, .one (.fn 92 [.pv (.rp [[pi p2]] 0 0), .pt 0 0 0 0])] [.box [.pt 1 0 0 0], .box [ci p3]] (az k0 p1 p2 p3) (fun r => vb r.1) (fun r => [.box [.pt 1 0 0 0], .box [ci r.2]])
  | 0, _, _, _ => Ip (az.eq_1 ..)
  | k0 + 1, p1, p2, p3 => qE 2 9 [] Tryz.f58 fun r => (uU (az.eq_2 ..) (mt true [0,1] (fp k0 _ _ _) fun r1 _ => (uR .ret sd)))
theorem fp : ∀ (k0 : Nat) (p1 : (List ac)) (p2 p3 : Int), CM Tryz.prog 103 [vl ak p1, .one (.fn 92 [.pv (.rp [[pi p2]] 0 0), .pt 0 0 0 0])] [.box [.pt 1 0 0 0], .box [ci p3]] (aQ k0 p1 p2 p3) (fun r => vi r.1) (fun r => [.box [.pt 1 0 0 0], .box [ci r.2]])
  | 0, _, _, _ => Ip (aQ.eq_1 ..)
  | k0 + 1, p1, p2, p3 => qE 2 19 [] Tryz.f103 fun r => (uU (aQ.eq_2 ..) (uQ (kS Tryz.f103 [1,0] 1) fun K2 hK2 => have hJ1 : ∀ (z2 : Int), bA z2 = some r → K2.p [] [.box [.pt 1 0 0 0], .box [ci z2]] := fun z2 h => hK2 h (uR .ret sd); (uN ak p1 (uO (cd Tryz.f103 [1,0,1,0,0]) (kS Tryz.f103 [1,0,1,0] 1) fun R1 b1 => have hL1 : ∀ (k1 : Nat) (z1 x1 : Int), aH (fw k0) p1 p2 k1 z1 x1 = some r → (R1 k1).p [(0, vl ak p1), (1, .one (.fn 92 [.pv (.rp [[pi p2]] 0 0), .pt 0 0 0 0])), (7, vi (p1.length : Int)), (8, vi x1)] [.box [.pt 1 0 0 0], .box [ci z1]] := by intro k1; induction k1 with | zero => intro z1 x1 h; exact lU (aH.eq_1 ..) h | succ k1 ih1 => intro z1 x1 h; exact b1 h (uU (aH.eq_2 ..) (uC (uL ak fun e1 a10 => (mt true [0,1] (un k0 _ _ _) fun r1 _ => (uC (uR .ret (xN (xN sd))) (uJ (ih1 r1.2 (IntKind.i64.wrap (x1 + 1))))))) (uR (.exit 0) (xM (uJ (hJ1 z1))))))
 uE (hL1 ba p3 (0 : Int))))))
theorem so : ∀ (k0 : Nat) (p1 : ac) (p2 p3 : Int), CM Tryz.prog 48 [.ag [ci p1.kind, ci p1.n, ci p1.scale, eG p1.s, cl ak p1.items], vi p2, .one (.pt 0 0 0 0)] [.box [ci p3]] (ip k0 p1 p2 p3) (fun r => vb r.1) (fun r => [.box [ci r.2]])
  | 0, _, _, _ => Ip (ip.eq_1 ..)
  | k0 + 1, p1, p2, p3 => qE 1 33 [5] Tryz.f48 fun r => (uU (ip.eq_2 ..) (uQ (kS Tryz.f48 [1,0] 1) fun K2 hK2 => have hJ1 : ∀ (z1 : Int), ji (az k0) p1 p2 z1 = some r → K2.p [(3, .one (.pv (.rp [[pi p1.kind, pi p1.n, pi p1.scale, .s (.string p1.s), .ro (ak.els p1.items)]] 0 0))), (4, .one (.pv (.rp [[pi p2]] 0 0))), (5, .one (.pt 1 0 0 0))] [.box [ci z1], .box [.pt 0 0 0 0]] := fun z1 h => hK2 h (uQ (kS Tryz.f48 [1,1,0,0] 2) fun K6 hK6 => have hJ2 : ∀ (x1 : Bool), hH (az k0) p1 p2 z1 x1 = some r → K6.p [(3, .one (.pv (.rp [[pi p1.kind, pi p1.n, pi p1.scale, .s (.string p1.s), .ro (ak.els p1.items)]] 0 0))), (4, .one (.pv (.rp [[pi p2]] 0 0))), (5, .one (.pt 1 0 0 0)), (27, vb x1)] [.box [ci z1], .box [.pt 0 0 0 0]] := fun x1 h => hK6 h (uC (uR .ret sd) (mt true [1,0] (eT k0 _ _ _) fun r2 _ => (uR .ret sd))); (uC (uJ (hJ2 true)) (uC (uJ (hJ2 true)) (uP (yv _) fun r1 _ => (uJ (hJ2 (!r1))))))); (uC (uJ (hJ1 (IntKind.i64.wrap (p3 + 1)))) (uJ (hJ1 p3)))))
theorem un : ∀ (k0 : Nat) (p1 : ac) (p2 p3 : Int), CM Tryz.prog 92 [.ag [ci p1.kind, ci p1.n, ci p1.scale, eG p1.s, cl ak p1.items], .one (.pv (.rp [[pi p2]] 0 0)), .one (.pt 0 0 0 0)] [.box [.pt 1 0 0 0], .box [ci p3]] (fw k0 p1 p2 p3) (fun r => vb r.1) (fun r => [.box [.pt 1 0 0 0], .box [ci r.2]])
  | 0, _, _, _ => Ip (fw.eq_1 ..)
  | k0 + 1, p1, p2, p3 => qE 2 11 [] Tryz.f92 fun r => (uU (fw.eq_2 ..) (mt true [1] (so k0 _ _ _) fun r1 _ => (uR .ret sd)))
end
def im (p1 : ac) : Option Bool := ay (ip ba p1 (1 : Int) (0 : Int)) fun r1 => some r1.1
theorem kl (p1 : ac) : CT Tryz.prog 24 [.ag [ci p1.kind, ci p1.n, ci p1.scale, eG p1.s, cl ak p1.items]] (im p1) vb :=
  eB 6 [3] Tryz.f24 fun r => (mt true [0] (so ba _ _ _) fun r1 _ => (uR .ret xF))
def aV : Option Bool := some true
def ap (q_value_of_2 : aL → ac → Option Bool) (p1 : (List aL)) (p2 : (List ac)) : Nat → Int → Option Bool
 | 0, _ => none
 | k1 + 1, x1 => ax (decide (x1 < (p1.length : Int))) (ay (at? p1 x1) fun e1 => ay (at? p2 x1) fun e2 => ay (q_value_of_2 e1 e2) fun r1 => ax (!r1) (some false) ((ap q_value_of_2 p1 p2 k1) (IntKind.i64.wrap (x1 + 1)))) (aV)
def bG : Option Int := some (-1 : Int)
def aC (q_value_of_1_s : ac → Int → Int → (List aL) → Option Bool) (p1 : (List ac)) (p2 p3 : Int) (p4 : (List aL)) : Nat → Int → Option Int
 | 0, _ => none
 | k1 + 1, x1 => ax (decide (x1 < (p1.length : Int))) (ay (at? p1 x1) fun e1 => ay (q_value_of_1_s e1 p2 p3 p4) fun r1 => ax r1 (some x1) ((aC q_value_of_1_s p1 p2 p3 p4 k1) (IntKind.i64.wrap (x1 + 1)))) (bG)
mutual
def aR : Nat → (List ac) → Int → Int → (List aL) → Option Bool
 | 0, _, _, _, _ => none
 | k0 + 1, p1, p2, p3, p4 => ay ((aT k0) p1 p2 p3 p4) fun r1 => some (decide ((0 : Int) ≤ r1))
def aA : Nat → (List aL) → (List ac) → Option Bool
 | 0, _, _ => none
 | k0 + 1, p1, p2 => ax ((p1.length : Int) != (p2.length : Int)) (some false) (ap (kv k0) p1 p2 ba (0 : Int))
def aT : Nat → (List ac) → Int → Int → (List aL) → Option Int
 | 0, _, _, _, _ => none
 | k0 + 1, p1, p2, p3, p4 => aC (iJ k0) p1 p2 p3 p4 ba (0 : Int)
def lE : Nat → af → ac → Option Bool
 | 0, _, _ => none
 | k0 + 1, p1, p2 => ax (p2.kind == 0) (some true) (ax (p2.kind != p1.kind) (some false) (ax (p2.kind == 3) (some (p2.scale == p1.scale)) (ax (p2.kind == 6) (ay ((aR k0) p2.items p1.kind p1.scale p1.fields) fun r1 => some (!r1)) (ax (p2.kind == 7) (ay ((aA k0) p1.fields p2.items) fun r2 => some r2) (some true)))))
def iJ : Nat → ac → Int → Int → (List aL) → Option Bool
 | 0, _, _, _, _ => none
 | k0 + 1, p1, p2, p3, p4 => ay (at? p4 (0 : Int)) fun e1 => ay ((lE k0) e1.type p1) fun r1 => some (!r1)
def kv : Nat → aL → ac → Option Bool
 | 0, _, _ => none
 | k0 + 1, p1, p2 => ay ((lE k0) p1.type p2) fun r1 => some r1
end
mutual
theorem fq : ∀ (k0 : Nat) (p1 : (List ac)) (p2 p3 : Int) (p4 : (List aL)), CT Tryz.prog 58 [vl ak p1, .one (.fn 59 [.pv (.rp [[pi p2, pi p3, .ro (au.els p4)]] 0 0)])] (aR k0 p1 p2 p3 p4) vb
  | 0, _, _, _, _ => wv (aR.eq_1 ..)
  | k0 + 1, p1, p2, p3, p4 => eB 9 [] Tryz.f58 fun r => (uU (aR.eq_2 ..) (uP (fK k0 _ _ _ _) fun r1 _ => (uR .ret xF)))
theorem dx : ∀ (k0 : Nat) (p1 : (List aL)) (p2 : (List ac)), CT Tryz.prog 60 [vl au p1, vl ak p2, .one (.pv (.fn 61 []))] (aA k0 p1 p2) vb
  | 0, _, _ => wv (aA.eq_1 ..)
  | k0 + 1, p1, p2 => eB 32 [8, 9] Tryz.f60 fun r => (uU (aA.eq_2 ..) (uN au p1 (uN ak p2 (uC (uR .ret xF) (uQ (kS Tryz.f60 [1,1,0] 1) fun K6 hK6 => have hJ1 : ∀ (_ : Unit), aV = some r → K6.p [] [] := fun _ h => hK6 h (uR .ret xF); (uN au p1 (uO (cd Tryz.f60 [1,1,0,1,0,0]) (kS Tryz.f60 [1,1,0,1,0] 1) fun R1 b1 => have hL1 : ∀ (k1 : Nat) (x1 : Int), ap (kv k0) p1 p2 k1 x1 = some r → (R1 k1).p [(1, vl ak p2), (2, .one (.pv (.fn 61 []))), (15, vl au p1), (16, vi (p1.length : Int)), (17, vi x1)] [] := by intro k1; induction k1 with | zero => intro x1 h; exact lU (ap.eq_1 ..) h | succ k1 ih1 => intro x1 h; exact b1 h (uU (ap.eq_2 ..) (uC (uL au fun e1 a13 => (uL ak fun e2 a15 => (uP (Aa k0 _ _) fun r1 _ => (uC (uR .ret (xN (xN xF))) (uJ (ih1 (IntKind.i64.wrap (x1 + 1)))))))) (uR (.exit 0) (xM (uJ (hJ1 ()))))))
 uE (hL1 ba (0 : Int)))))))))
theorem fK : ∀ (k0 : Nat) (p1 : (List ac)) (p2 p3 : Int) (p4 : (List aL)), CT Tryz.prog 103 [vl ak p1, .one (.fn 59 [.pv (.rp [[pi p2, pi p3, .ro (au.els p4)]] 0 0)])] (aT k0 p1 p2 p3 p4) vi
  | 0, _, _, _, _ => wv (aT.eq_1 ..)
  | k0 + 1, p1, p2, p3, p4 => eB 19 [] Tryz.f103 fun r => (uU (aT.eq_2 ..) (uQ (kS Tryz.f103 [1,0] 1) fun K2 hK2 => have hJ1 : ∀ (_ : Unit), bG = some r → K2.p [] [] := fun _ h => hK2 h (uR .ret xF); (uN ak p1 (uO (cd Tryz.f103 [1,0,1,0,0]) (kS Tryz.f103 [1,0,1,0] 1) fun R1 b1 => have hL1 : ∀ (k1 : Nat) (x1 : Int), aC (iJ k0) p1 p2 p3 p4 k1 x1 = some r → (R1 k1).p [(0, vl ak p1), (1, .one (.fn 59 [.pv (.rp [[pi p2, pi p3, .ro (au.els p4)]] 0 0)])), (7, vi (p1.length : Int)), (8, vi x1)] [] := by intro k1; induction k1 with | zero => intro x1 h; exact lU (aC.eq_1 ..) h | succ k1 ih1 => intro x1 h; exact b1 h (uU (aC.eq_2 ..) (uC (uL ak fun e1 a10 => (uP (xO k0 _ _ _ _) fun r1 _ => (uC (uR .ret (xN (xN xF))) (uJ (ih1 (IntKind.i64.wrap (x1 + 1))))))) (uR (.exit 0) (xM (uJ (hJ1 ()))))))
 uE (hL1 ba (0 : Int))))))
theorem sU : ∀ (k0 : Nat) (p1 : af) (p2 : ac), CT Tryz.prog 30 [.ag [ci p1.kind, ci p1.scale, cl au p1.fields], .ag [ci p2.kind, ci p2.n, ci p2.scale, eG p2.s, cl ak p2.items]] (lE k0 p1 p2) vb
  | 0, _, _ => wv (lE.eq_1 ..)
  | k0 + 1, p1, p2 => eB 42 [] Tryz.f30 fun r => (uU (lE.eq_2 ..) (uC (uR .ret xF) (uC (uR .ret xF) (uC (uR .ret xF) (uC (uP (fq k0 _ _ _ _) fun r1 _ => (uR .ret xF)) (uC (uP (dx k0 _ _) fun r2 _ => (uR .ret xF)) (uR .ret xF)))))))
theorem xO : ∀ (k0 : Nat) (p1 : ac) (p2 p3 : Int) (p4 : (List aL)), CT Tryz.prog 59 [.ag [ci p1.kind, ci p1.n, ci p1.scale, eG p1.s, cl ak p1.items], .one (.pv (.rp [[pi p2, pi p3, .ro (au.els p4)]] 0 0))] (iJ k0 p1 p2 p3 p4) vb
  | 0, _, _, _, _ => wv (iJ.eq_1 ..)
  | k0 + 1, p1, p2, p3, p4 => eB 12 [] Tryz.f59 fun r => (uU (iJ.eq_2 ..) (nr 6 (uL au fun e1 a3 => (uP (sU k0 _ _) fun r1 _ => (uR .ret xF)))))
theorem Aa : ∀ (k0 : Nat) (p1 : aL) (p2 : ac), CT Tryz.prog 61 [.ag [ci p1.id, eG p1.name, cb p1.need, ci p1.type.kind, ci p1.type.scale, cl au p1.type.fields], .ag [ci p2.kind, ci p2.n, ci p2.scale, eG p2.s, cl ak p2.items]] (kv k0 p1 p2) vb
  | 0, _, _ => wv (kv.eq_1 ..)
  | k0 + 1, p1, p2 => eB 9 [] Tryz.f61 fun r => (uU (kv.eq_2 ..) (uP (sU k0 _ _) fun r1 _ => (uR .ret xF)))
end
def jx (rec1 : Int → Option Bool) (x1 : Int) (x2 : Bool) : Option Bool := ax x2 (some true) (rec1 (IntKind.i64.wrap (x1 + 1)))
def nN : Option Bool := some false
def dn (q_value_lacks : af → ac → Option Bool) (p1 : af) (p2 : ac) : Nat → Int → Option Bool
 | 0, _ => none
 | k1 + 1, x1 => ax (decide (x1 < (p2.items.length : Int))) (ay (at? p2.items x1) fun e1 => ay (dq p1 x1) fun r1 => ax (e1.kind == 0) (ax r1.need (jx (dn q_value_lacks p1 p2 k1) x1 true) (ay (q_value_lacks r1.type e1) fun r2 => jx (dn q_value_lacks p1 p2 k1) x1 r2)) (ay (q_value_lacks r1.type e1) fun r3 => jx (dn q_value_lacks p1 p2 k1) x1 r3)) (nN)
def fh : Nat → af → ac → Option Bool
 | 0, _, _ => none
 | k0 + 1, p1, p2 => dn (fh k0) p1 p2 ba (0 : Int)
theorem oN : ∀ (k0 : Nat) (p1 : af) (p2 : ac), CT Tryz.prog 31 [.ag [ci p1.kind, ci p1.scale, cl au p1.fields], .ag [ci p2.kind, ci p2.n, ci p2.scale, eG p2.s, cl ak p2.items]] (fh k0 p1 p2) vb
  | 0, _, _ => wv (fh.eq_1 ..)
  | k0 + 1, p1, p2 => eB 33 [6, 7] Tryz.f31 fun r => (uU (fh.eq_2 ..) (uQ (kS Tryz.f31 [1,0] 1) fun K2 hK2 => have hJ2 : ∀ (_ : Unit), nN = some r → K2.p [] [] := fun _ h => hK2 h (uR .ret xF); (uN ak p2.items (uO (cd Tryz.f31 [1,0,1,0,0]) (kS Tryz.f31 [1,0,1,0] 1) fun R1 b1 => have hL1 : ∀ (k1 : Nat) (x1 : Int), dn (fh k0) p1 p2 k1 x1 = some r → (R1 k1).p [(2, .one (.pv (.rp [[pi p1.kind, pi p1.scale, .ro (au.els p1.fields)]] 0 0))), (9, vl ak p2.items), (10, vi (p2.items.length : Int)), (11, vi x1)] [] := by intro k1; induction k1 with | zero => intro x1 h; exact lU (dn.eq_1 ..) h | succ k1 ih1 => intro x1 h; exact b1 h (uU (dn.eq_2 ..) (uC (uL ak fun e1 a9 => (uP (l7 _ _) fun r1 _ => (uQ (kS Tryz.f31 [1,0,1,0,0,1,1,0,0,1,1,0] 3) fun K12 hK12 => have hJ1 : ∀ (x2 : Bool), jx (dn (fh k0) p1 p2 k1) x1 x2 = some r → K12.p [(2, .one (.pv (.rp [[pi p1.kind, pi p1.scale, .ro (au.els p1.fields)]] 0 0))), (9, vl ak p2.items), (10, vi (p2.items.length : Int)), (11, vi x1), (31, vb x2)] [.dead, .dead] := fun x2 h => hK12 h (uC (uR .ret (xN (xN xF))) (uJ (ih1 (IntKind.i64.wrap (x1 + 1))))); (uC (uC (uJ (hJ1 true)) (uP (oN k0 _ _) fun r2 _ => (uJ (hJ1 r2)))) (uP (oN k0 _ _) fun r3 _ => (uJ (hJ1 r3))))))) (uR (.exit 0) (xM (uJ (hJ2 ()))))))
 uE (hL1 ba (0 : Int))))))
def jA (p1 : af) (p2 : ac) : Option Int := ay (bR p1) fun r1 => ax (r1 != 0) (some r1) (ay (im p2) fun r2 => ax (!r2) (some (1 : Int)) (ay (lE ba p1 p2) fun r3 => ax (!r3) (some (2 : Int)) (ay (fh ba p1 p2) fun r4 => ax r4 (some (9 : Int)) (some (0 : Int)))))
theorem yt (p1 : af) (p2 : ac) : CT Tryz.prog 14 [.ag [ci p1.kind, ci p1.scale, cl au p1.fields], .ag [ci p2.kind, ci p2.n, ci p2.scale, eG p2.s, cl ak p2.items]] (jA p1 p2) vi :=
  eB 24 [] Tryz.f14 fun r => (uP (gF _) fun r1 _ => (uC (uR .ret xF) (uP (kl _) fun r2 _ => (uC (uR .ret xF) (uP (sU ba _ _) fun r3 _ => (uC (uR .ret xF) (uP (oN ba _ _) fun r4 _ => (uC (uR .ret xF) (uR .ret xF)))))))))
def fQ (p1 : Bool) : Option ByteArray := ax p1 (some (ByteArray.mk #[116, 114, 117, 101])) (some (ByteArray.mk #[102, 97, 108, 115, 101]))
theorem mI (p1 : Bool) : CT Tryz.prog 93 [vb p1] (fQ p1) vs :=
  eB 4 [] Tryz.f93 fun r => (uC (uR .ret xF) (uR .ret xF))
def ku (p1 : Bool) : Option ByteArray := ay (fQ p1) fun r1 => some r1
theorem qP (p1 : Bool) : CT Tryz.prog 49 [vb p1] (ku p1) vs :=
  eB 5 [] Tryz.f49 fun r => (uP (mI _) fun r1 _ => (uR .ret xF))
def eh (p1 p2 : Int) : Option ByteArray := ay (strconv_Itoa p1) fun r1 => ay (some (if (0 : Int) > (IntKind.i64.wrap (p2 - (r1.size : Int))) then (0 : Int) else (IntKind.i64.wrap (p2 - (r1.size : Int))))) fun y1 => ay (strings_Repeat (ByteArray.mk #[48]) y1) fun r2 => bB (r2.size + r1.size ≤ 4611686018427387904) <| some (r2 ++ r1)
theorem gj (p1 p2 : Int) : CT Tryz.prog 95 [vi p1, vi p2] (eh p1 p2) vs :=
  eB 16 [] Tryz.f95 fun r => (uP (lf _) fun r1 _ => (uY 12 vi fun y1 => (uP (uH _ _) fun r2 _ => (uG (uR .ret xF)))))
def jG (p2 x1 : Int) (x2 : ByteArray) : Option ByteArray := ay (eh x1 (IntKind.i64.wrap (p2 + 1))) fun r1 => bB (0 ≤ (0 : Int) ∧ (0 : Int) ≤ (IntKind.i64.wrap ((r1.size : Int) - p2)) ∧ (IntKind.i64.wrap ((r1.size : Int) - p2)) ≤ (r1.size : Int)) <| ay (some (r1.extract (0 : Int).toNat (IntKind.i64.wrap ((r1.size : Int) - p2)).toNat)) fun y1 => bB (x2.size + y1.size ≤ 4611686018427387904) <| bB ((x2 ++ y1).size + (ByteArray.mk #[46]).size ≤ 4611686018427387904) <| bB (0 ≤ (IntKind.i64.wrap ((r1.size : Int) - p2)) ∧ (IntKind.i64.wrap ((r1.size : Int) - p2)) ≤ (r1.size : Int) ∧ (r1.size : Int) ≤ (r1.size : Int)) <| ay (some (r1.extract (IntKind.i64.wrap ((r1.size : Int) - p2)).toNat (r1.size : Int).toNat)) fun y2 => bB (((x2 ++ y1) ++ (ByteArray.mk #[46])).size + y2.size ≤ 4611686018427387904) <| some (((x2 ++ y1) ++ (ByteArray.mk #[46])) ++ y2)
def mb (p1 p2 : Int) : Option ByteArray := ax (decide (p1 < (0 : Int))) (jG p2 (IntKind.i64.wrap (0 - p1)) (ByteArray.mk #[45])) (jG p2 p1 (ByteArray.mk #[]))
theorem wn (p1 p2 : Int) : CT Tryz.prog 51 [vi p1, vi p2] (mb p1 p2) vs :=
  eB 31 [] Tryz.f51 fun r => (uQ (kS Tryz.f51 [1,1,0] 1) fun K3 hK3 => have hJ1 : ∀ (x1 : Int) (x2 : ByteArray), jG p2 x1 x2 = some r → K3.p [(0, vi x1), (1, vi p2), (5, vs x2)] [] := fun x1 x2 h => hK3 h (uP (gj _ _) fun r1 _ => (nr 15 (wN 21 vs fun y1 => (uG (uG (wN 29 vs fun y2 => (uG (uR .ret xF)))))))); (uC (uJ (hJ1 (IntKind.i64.wrap (0 - p1)) (ByteArray.mk #[45]))) (uJ (hJ1 p1 (ByteArray.mk #[])))))
def mh (y10 x1 x2 : Int) : Option (Int × Int × Int) := some (x1, x2, y10)
def pW (p1 : Int) : Option (Int × Int × Int) := ay (jl (IntKind.i64.wrap (p1 + 719468)) (146097 : Int)) fun r1 => ay (some (IntKind.i64.wrap (r1.2 - (IntKind.i64.wrap (r1.2.tdiv (1460 : Int)))))) fun y1 => ay (some (IntKind.i64.wrap (y1 + (IntKind.i64.wrap (r1.2.tdiv (36524 : Int)))))) fun y2 => ay (some (IntKind.i64.wrap (y2 - (IntKind.i64.wrap (r1.2.tdiv (146096 : Int)))))) fun y3 => ay (some (IntKind.i64.wrap ((IntKind.i64.wrap (y3.tdiv (365 : Int))) * (365 : Int)))) fun y4 => ay (some (IntKind.i64.wrap ((IntKind.i64.wrap (y3.tdiv (365 : Int))).tdiv (4 : Int)))) fun y5 => ay (some (IntKind.i64.wrap ((IntKind.i64.wrap (y3.tdiv (365 : Int))).tdiv (100 : Int)))) fun y6 => ay (some (IntKind.i64.wrap (r1.2 - (IntKind.i64.wrap ((IntKind.i64.wrap (y4 + y5)) - y6))))) fun y7 => ay (some (IntKind.i64.wrap ((IntKind.i64.wrap ((IntKind.i64.wrap ((5 : Int) * y7)) + (2 : Int))).tdiv (153 : Int)))) fun y8 => ay (some (IntKind.i64.wrap ((IntKind.i64.wrap ((153 : Int) * y8)) + (2 : Int)))) fun y9 => ay (some (IntKind.i64.wrap ((IntKind.i64.wrap (y7 - (IntKind.i64.wrap (y9.tdiv (5 : Int))))) + (1 : Int)))) fun y10 => ay (some (IntKind.i64.wrap ((IntKind.i64.wrap (r1.1 * 400)) + (IntKind.i64.wrap (y3.tdiv (365 : Int)))))) fun y11 => ax (decide ((12 : Int) < (IntKind.i64.wrap (y8 + 3)))) (mh y10 (IntKind.i64.wrap (y11 + 1)) (IntKind.i64.wrap ((IntKind.i64.wrap (y8 + 3)) - (12 : Int)))) (mh y10 y11 (IntKind.i64.wrap (y8 + 3)))
theorem zE (p1 : Int) : CT Tryz.prog 136 [vi p1] (pW p1) (fun r => .tp [vi r.1, vi r.2.1, vi r.2.2]) :=
  eB 61 [] Tryz.f136 fun r => (uP (oF _ _) fun r1 _ => (uY 17 vi fun y1 => (uY 20 vi fun y2 => (uY 23 vi fun y3 => (uY 27 vi fun y4 => (uY 29 vi fun y5 => (uY 32 vi fun y6 => (uY 34 vi fun y7 => (uY 38 vi fun y8 => (uY 42 vi fun y9 => (uY 45 vi fun y10 => (uY 49 vi fun y11 => (uQ (kS Tryz.f136 [1,1,1,1,1,1,1,0] 1) fun K20 hK20 => have hJ1 : ∀ (x1 x2 : Int), mh y10 x1 x2 = some r → K20.p [(2, vi x1), (3, vi x2), (4, vi y10)] [] := fun x1 x2 h => hK20 h (uR .ret xF); (uC (uJ (hJ1 (IntKind.i64.wrap (y11 + 1)) (IntKind.i64.wrap ((IntKind.i64.wrap (y8 + 3)) - (12 : Int))))) (uJ (hJ1 y11 (IntKind.i64.wrap (y8 + 3))))))))))))))))))
def oz (p1 : Int) : Option dz := ay (jl p1 (86400 : Int)) fun r1 => ay (pW r1.1) fun r2 => some (dz.mk r2.1 r2.2.1 r2.2.2 (IntKind.i64.wrap (r1.2.tdiv (3600 : Int))) (IntKind.i64.wrap ((r1.2.tmod (3600 : Int)).tdiv (60 : Int))) (r1.2.tmod (60 : Int)))
theorem yn (p1 : Int) : CT Tryz.prog 97 [vi p1] (oz p1) (fun r => .ag [ci r.year, ci r.month, ci r.day, ci r.hour, ci r.minute, ci r.second]) :=
  eB 30 [2] Tryz.f97 fun r => (uP (oF _ _) fun r1 _ => (uP (zE _) fun r2 _ => (uR .ret xF)))
def nu (p1 : Int) : Option ByteArray := ay (oz p1) fun r1 => ay (eh r1.year (4 : Int)) fun r2 => bB (r2.size + (ByteArray.mk #[45]).size ≤ 4611686018427387904) <| ay (eh r1.month (2 : Int)) fun r3 => bB ((r2 ++ (ByteArray.mk #[45])).size + r3.size ≤ 4611686018427387904) <| bB (((r2 ++ (ByteArray.mk #[45])) ++ r3).size + (ByteArray.mk #[45]).size ≤ 4611686018427387904) <| ay (eh r1.day (2 : Int)) fun r4 => bB ((((r2 ++ (ByteArray.mk #[45])) ++ r3) ++ (ByteArray.mk #[45])).size + r4.size ≤ 4611686018427387904) <| ay (some ((((r2 ++ (ByteArray.mk #[45])) ++ r3) ++ (ByteArray.mk #[45])) ++ r4)) fun y1 => bB (y1.size + (ByteArray.mk #[84]).size ≤ 4611686018427387904) <| ay (eh r1.hour (2 : Int)) fun r5 => bB ((y1 ++ (ByteArray.mk #[84])).size + r5.size ≤ 4611686018427387904) <| bB (((y1 ++ (ByteArray.mk #[84])) ++ r5).size + (ByteArray.mk #[58]).size ≤ 4611686018427387904) <| ay (eh r1.minute (2 : Int)) fun r6 => bB ((((y1 ++ (ByteArray.mk #[84])) ++ r5) ++ (ByteArray.mk #[58])).size + r6.size ≤ 4611686018427387904) <| ay (some ((((y1 ++ (ByteArray.mk #[84])) ++ r5) ++ (ByteArray.mk #[58])) ++ r6)) fun y2 => bB (y2.size + (ByteArray.mk #[58]).size ≤ 4611686018427387904) <| ay (eh r1.second (2 : Int)) fun r7 => bB ((y2 ++ (ByteArray.mk #[58])).size + r7.size ≤ 4611686018427387904) <| bB (((y2 ++ (ByteArray.mk #[58])) ++ r7).size + (ByteArray.mk #[90]).size ≤ 4611686018427387904) <| some (((y2 ++ (ByteArray.mk #[58])) ++ r7) ++ (ByteArray.mk #[90]))
theorem wS (p1 : Int) : CT Tryz.prog 53 [vi p1] (nu p1) vs :=
  eB 37 [3] Tryz.f53 fun r => (uP (yn _) fun r1 _ => (nr 12 (uP (gj _ _) fun r2 _ => (uG (uP (gj _ _) fun r3 _ => (uG (uG (uP (gj _ _) fun r4 _ => (wN 19 vs fun y1 => (nr 15 (uG (uP (gj _ _) fun r5 _ => (uG (uG (uP (gj _ _) fun r6 _ => (wN 30 vs fun y2 => (uG (uP (gj _ _) fun r7 _ => (uG (uG (uR .ret xF)))))))))))))))))))))
def ke (p1 : ac) (l2 : List ByteArray) : Option ByteArray := ay (strings_Join l2 (ByteArray.mk #[44, 32])) fun r7 => ax (p1.kind == 6) (bB ((ByteArray.mk #[91]).size + r7.size ≤ 4611686018427387904) <| bB (((ByteArray.mk #[91]) ++ r7).size + (ByteArray.mk #[93]).size ≤ 4611686018427387904) <| some (((ByteArray.mk #[91]) ++ r7) ++ (ByteArray.mk #[93]))) (bB ((ByteArray.mk #[40]).size + r7.size ≤ 4611686018427387904) <| bB (((ByteArray.mk #[40]) ++ r7).size + (ByteArray.mk #[41]).size ≤ 4611686018427387904) <| some (((ByteArray.mk #[40]) ++ r7) ++ (ByteArray.mk #[41])))
def fW (q_value_show : ac → Option ByteArray) (p1 : ac) : Nat → List ByteArray → Int → Option ByteArray
 | 0, _, _ => none
 | k1 + 1, l1, x1 => ax (decide (x1 < (p1.items.length : Int))) (ay (at? p1.items x1) fun e1 => ay (q_value_show e1) fun r6 => bB (l1.length + 1 ≤ 4294967296) <| (fW q_value_show p1 k1) (l1 ++ [r6]) (IntKind.i64.wrap (x1 + 1))) (ke p1 l1)
def fD : Nat → ac → Option ByteArray
 | 0, _ => none
 | k0 + 1, p1 => ax (p1.kind == 0) (some (ByteArray.mk #[110, 117, 108, 108])) (ax (p1.kind == 1) (ay (ku (p1.n == 1)) fun r1 => some r1) (ax (p1.kind == 2) (ay (strconv_Itoa p1.n) fun r2 => some r2) (ax (p1.kind == 3) (ay (mb p1.n p1.scale) fun r3 => some r3) (ax (p1.kind == 4) (ay (strings_ReplaceAll p1.s (ByteArray.mk #[39]) (ByteArray.mk #[39, 39])) fun r4 => bB ((ByteArray.mk #[39]).size + r4.size ≤ 4611686018427387904) <| bB (((ByteArray.mk #[39]) ++ r4).size + (ByteArray.mk #[39]).size ≤ 4611686018427387904) <| some (((ByteArray.mk #[39]) ++ r4) ++ (ByteArray.mk #[39]))) (ax (p1.kind == 5) (ay (nu p1.n) fun r5 => some r5) (fW (fD k0) p1 ba [] (0 : Int)))))))
theorem pp : ∀ (k0 : Nat) (p1 : ac), CT Tryz.prog 25 [.ag [ci p1.kind, ci p1.n, ci p1.scale, eG p1.s, cl ak p1.items]] (fD k0 p1) vs
  | 0, _ => wv (fD.eq_1 ..)
  | k0 + 1, p1 => eB 65 [5] Tryz.f25 fun r => (uU (fD.eq_2 ..) (uC (uR .ret xF) (uC (uP (qP _) fun r1 _ => (uR .ret xF)) (uC (uP (lf _) fun r2 _ => (uR .ret xF)) (uC (uP (wn _ _) fun r3 _ => (uR .ret xF)) (uC (uP (rf _ _ _) fun r4 _ => (uG (uG (uR .ret xF)))) (uC (uP (wS _) fun r5 _ => (uR .ret xF)) (uQ (kS Tryz.f25 [1,1,1,0] 1) fun K30 hK30 => have hJ1 : ∀ (l2 : List ByteArray), ke p1 l2 = some r → K30.p [(1, .one (.pv (.rp [[pi p1.kind, pi p1.n, pi p1.scale, .s (.string p1.s), .ro (ak.els p1.items)]] 0 0))), (3, .one (.sl 0 1 0 l2.length))] [.arr 1 (eS.els l2)] := fun l2 h => hK30 h (CW eS l2 0 [54] (uP (xC _ _) fun r7 _ => (uC (uG (uG (uR .ret xF))) (uG (uG (uR .ret xF)))))); (uN ak p1.items (Fh (.li 3 1) (uO (cd Tryz.f25 [1,1,1,0,1,0,0]) (kS Tryz.f25 [1,1,1,0,1,0] 1) fun R1 b1 => have hL1 : ∀ (k1 : Nat) (l1 : List ByteArray) (x1 : Int), fW (fD k0) p1 k1 l1 x1 = some r → (R1 k1).p [(1, .one (.pv (.rp [[pi p1.kind, pi p1.n, pi p1.scale, .s (.string p1.s), .ro (ak.els p1.items)]] 0 0))), (3, .one (.sl 0 1 0 l1.length)), (42, vl ak p1.items), (43, vi (p1.items.length : Int)), (44, vi x1)] [.arr 1 (eS.els l1)] := by intro k1; induction k1 with | zero => intro l1 x1 h; exact lU (fW.eq_1 ..) h | succ k1 ih1 => intro l1 x1 h; exact b1 h (uU (fW.eq_2 ..) (uC (uL ak fun e1 a37 => (uP (pp k0 _) fun r6 _ => (Cx eS 0 [r6] (uJ (ih1 (l1 ++ [r6]) (IntKind.i64.wrap (x1 + 1))))))) (uR (.exit 1) (xM (uJ (hJ1 l1))))))
 uE (hL1 ba [] (0 : Int)))))))))))))
def qc (p1 : ac) : Option ByteArray := ay (im p1) fun r1 => ax (!r1) (some (ByteArray.mk #[])) (ay (fD ba p1) fun r2 => some r2)
theorem zP (p1 : ac) : CT Tryz.prog 9 [.ag [ci p1.kind, ci p1.n, ci p1.scale, eG p1.s, cl ak p1.items]] (qc p1) vs :=
  eB 8 [] Tryz.f9 fun r => (uP (kl _) fun r1 _ => (uC (uR .ret xF) (uP (pp ba _) fun r2 _ => (uR .ret xF))))
def gm (r2 : (ac × aO)) (x1 : Bool) : Option (ac × Int) := ax x1 (some ((ac.mk (0 : Int) (0 : Int) (0 : Int) ByteArray.empty []), (6 : Int))) (some (r2.1, (0 : Int)))
def gb (p1 : af) (p2 : ByteArray) : Option (ac × Int) := ay (bR p1) fun r1 => ax (r1 != 0) (some ((ac.mk (0 : Int) (0 : Int) (0 : Int) ByteArray.empty []), r1)) (ay (aS ba p1 (aO.mk p2 false)) fun r2 => ax r2.2.bad (gm r2 true) (ax (!(r2.2.s.toList == (ByteArray.mk #[]).toList)) (gm r2 true) (ay (jA p1 r2.1) fun r3 => ax (r3 != 0) (gm r2 true) (ay (qc r2.1) fun r4 => gm r2 (!(r4.toList == p2.toList))))))
theorem yl (p1 : af) (p2 : ByteArray) : CT Tryz.prog 7 [.ag [ci p1.kind, ci p1.scale, cl au p1.fields], vs p2] (gb p1 p2) (fun r => .tp [.ag [ci r.1.kind, ci r.1.n, ci r.1.scale, eG r.1.s, cl ak r.1.items], vi r.2]) :=
  eB 46 [4, 8, 17] Tryz.f7 fun r => (uP (gF _) fun r1 _ => (uC (uR .ret xF) (mt true [1] (mJ ba _ _) fun r2 _ => (uQ (kS Tryz.f7 [1,1,1,1,0,0] 2) fun K12 hK12 => have hJ1 : ∀ (x1 : Bool), gm r2 x1 = some r → K12.p [(4, .one (.pt 0 0 0 0)), (8, .one (.pt 2 0 0 0)), (43, vb x1)] [.box [ci (0 : Int), ci (0 : Int), ci (0 : Int), eG ByteArray.empty, .pv (.s (.slice none 0 0))], .dead, .box [ci r2.1.kind, ci r2.1.n, ci r2.1.scale, eG r2.1.s, cl ak r2.1.items]] := fun x1 h => hK12 h (uC (uR .ret xF) (uR .ret xF)); (uC (uJ (hJ1 true)) (uC (uJ (hJ1 true)) (uP (yt _ _) fun r3 _ => (uC (uJ (hJ1 true)) (uP (zP _) fun r4 _ => (uJ (hJ1 (!(r4.toList == p2.toList)))))))))))))
def kU (x1 : Bool) : Option Bool := some x1
def eR (p1 : Int) : Option Bool := ax (p1 != 6) (kU (p1 != 7)) (kU false)
theorem fZ (p1 : Int) : CT Tryz.prog 20 [vi p1] (eR p1) vb :=
  eB 9 [] Tryz.f20 fun r => (uQ (kS Tryz.f20 [1,0] 1) fun K2 hK2 => have hJ1 : ∀ (x1 : Bool), kU x1 = some r → K2.p [(2, vb x1)] [] := fun x1 h => hK2 h (uR .ret xF); (uC (uJ (hJ1 (p1 != 7))) (uJ (hJ1 false))))
def jt (x1 : Bool) : Option Bool := some x1
def cq (p1 p2 p3 : Int) : Option Bool := ax (decide (p2 ≤ p1)) (jt (decide (p1 ≤ p3))) (jt false)
theorem cS (p1 p2 p3 : Int) : CT Tryz.prog 111 [vi p1, vi p2, vi p3] (cq p1 p2 p3) vb :=
  eB 15 [] Tryz.f111 fun r => (uQ (kS Tryz.f111 [1,0] 1) fun K2 hK2 => have hJ1 : ∀ (x1 : Bool), jt x1 = some r → K2.p [(6, vb x1)] [] := fun x1 h => hK2 h (uR .ret xF); (uC (uJ (hJ1 (decide (p1 ≤ p3)))) (uJ (hJ1 false))))
def kP (rec1 : Int → Option Bool) (x2 : Int) (x5 : Bool) : Option Bool := ax x5 (some false) (rec1 (IntKind.i64.wrap (x2 + 1)))
def kQ (rec1 : Int → Option Bool) (x2 : Int) (x3 x4 : Bool) : Option Bool := ax (!x3) (ax (x2 == 0) (kP rec1 x2 true) (kP rec1 x2 (!x4))) (kP rec1 x2 false)
def nh (rec1 : Int → Option Bool) (p1 : ByteArray) (x2 : Int) (x3 : Bool) : Option Bool := bB (0 ≤ x2 ∧ x2 < (p1.size : Int)) <| ax (((p1.data.toList.getD x2.toNat 0).toNat : Int) == 95) (kQ rec1 x2 x3 true) (bB (0 ≤ x2 ∧ x2 < (p1.size : Int)) <| ay (some (decide ((48 : Int) ≤ ((p1.data.toList.getD x2.toNat 0).toNat : Int)))) fun y3 => ax y3 (bB (0 ≤ x2 ∧ x2 < (p1.size : Int)) <| ay (some (decide (((p1.data.toList.getD x2.toNat 0).toNat : Int) ≤ (57 : Int)))) fun y4 => kQ rec1 x2 x3 y4) (kQ rec1 x2 x3 false))
def uo : Option Bool := some true
def cy (p1 : ByteArray) : Nat → Int → Option Bool
 | 0, _ => none
 | k1 + 1, x2 => ax (decide (x2 < (p1.size : Int))) (bB (0 ≤ x2 ∧ x2 < (p1.size : Int)) <| ay (some (decide ((97 : Int) ≤ ((p1.data.toList.getD x2.toNat 0).toNat : Int)))) fun y1 => ax y1 (bB (0 ≤ x2 ∧ x2 < (p1.size : Int)) <| ay (some (decide (((p1.data.toList.getD x2.toNat 0).toNat : Int) ≤ (122 : Int)))) fun y2 => nh (cy p1 k1) p1 x2 y2) (nh (cy p1 k1) p1 x2 false)) (uo)
def nw (p1 : ByteArray) (x1 : Bool) : Option Bool := ax x1 (some false) (cy p1 ba (0 : Int))
def rV (p1 : ByteArray) : Option Bool := ax (decide ((p1.size : Int) < (1 : Int))) (nw p1 true) (nw p1 (decide ((24 : Int) < (p1.size : Int))))
theorem Bq (p1 : ByteArray) : CT Tryz.prog 112 [vs p1] (rV p1) vb :=
  eB 56 [] Tryz.f112 fun r => (uQ (kS Tryz.f112 [1,0,0] 2) fun K3 hK3 => have hJ1 : ∀ (x1 : Bool), nw p1 x1 = some r → K3.p [(0, vs p1), (13, vb x1)] [] := fun x1 h => hK3 h (uC (uR .ret xF) (uQ (kS Tryz.f112 [1,1,0] 1) fun K7 hK7 => have hJ5 : ∀ (_ : Unit), uo = some r → K7.p [] [] := fun _ h => hK7 h (uR .ret xF); (uO (cd Tryz.f112 [1,1,0,1,0,0]) (kS Tryz.f112 [1,1,0,1,0] 1) fun R1 b1 => have hL1 : ∀ (k1 : Nat) (x2 : Int), cy p1 k1 x2 = some r → (R1 k1).p [(0, vs p1), (3, vi x2)] [] := by intro k1; induction k1 with | zero => intro x2 h; exact lU (cy.eq_1 ..) h | succ k1 ih1 => intro x2 h; exact b1 h (uU (cy.eq_2 ..) (uC (uQ (kS Tryz.f112 [1,1,0,1,0,0,1,0,0,0] 3) fun K13 hK13 => have hJ2 : ∀ (x3 : Bool), nh (cy p1 k1) p1 x2 x3 = some r → K13.p [(0, vs p1), (3, vi x2), (4, vb x3)] [] := fun x3 h => hK13 h (uQ (kS Tryz.f112 [1,1,0,1,0,0,1,0,0,1,0] 3) fun K19 hK19 => have hJ3 : ∀ (x4 : Bool), kQ (cy p1 k1) x2 x3 x4 = some r → K19.p [(0, vs p1), (3, vi x2), (4, vb x3), (5, vb x4)] [] := fun x4 h => hK19 h (uQ (kS Tryz.f112 [1,1,0,1,0,0,1,0,0,1,1,0] 3) fun K27 hK27 => have hJ4 : ∀ (x5 : Bool), kP (cy p1 k1) x2 x5 = some r → K27.p [(0, vs p1), (3, vi x2), (55, vb x5)] [] := fun x5 h => hK27 h (uC (uR .ret (xN (xN xF))) (uJ (ih1 (IntKind.i64.wrap (x2 + 1))))); (uC (uC (uJ (hJ4 true)) (uJ (hJ4 (!x4)))) (uJ (hJ4 false)))); (uG (uC (uJ (hJ3 true)) (uG (uY 38 vb fun y3 => (uC (uG (uY 43 vb fun y4 => (uJ (hJ3 y4)))) (uJ (hJ3 false)))))))); (uG (uY 23 vb fun y1 => (uC (uG (uY 28 vb fun y2 => (uJ (hJ2 y2)))) (uJ (hJ2 false)))))) (uR (.exit 0) (xM (uJ (hJ5 ()))))))
 uE (hL1 ba (0 : Int))))); (uC (uJ (hJ1 true)) (uJ (hJ1 (decide ((24 : Int) < (p1.size : Int)))))))
def oM (rec2 : Int → Option Int) (x5 : Int) : Option Int := rec2 (IntKind.i64.wrap (x5 + 1))
def dr (rec2 : Int → Option Int) (p1 : af) (x5 : Int) : Nat → Int → Option Int
 | 0, _ => none
 | k3 + 1, x6 => ax (decide (x6 < x5)) (ay (at? p1.fields x6) fun e3 => ay (at? p1.fields x5) fun e4 => ax (e3.name.toList == e4.name.toList) (some (5 : Int)) ((dr rec2 p1 x5 k3) (IntKind.i64.wrap (x6 + 1)))) (oM rec2 x5)
def sF : Option Int := some (0 : Int)
def cW (p1 : af) : Nat → Int → Option Int
 | 0, _ => none
 | k2 + 1, x5 => ax (decide (x5 < (p1.fields.length : Int))) (dr (cW p1 k2) p1 x5 ba (0 : Int)) (sF)
def oI (p1 : af) : Option Int := cW p1 ba (0 : Int)
def dG (p1 : af) : Nat → Int → Option Int
 | 0, _ => none
 | k1 + 1, x4 => ax (decide (x4 < (p1.fields.length : Int))) (ay (at? p1.fields x4) fun e2 => ay (rV e2.name) fun r5 => ax (!r5) (some (4 : Int)) ((dG p1 k1) (IntKind.i64.wrap (x4 + 1)))) (oI p1)
def gc (p1 : af) (x3 : Bool) : Option Int := ax x3 (some (1 : Int)) (ax (p1.kind != 7) (some (0 : Int)) (dG p1 ba (0 : Int)))
def jX (p1 : af) (x2 : Bool) : Option Int := ax x2 (some (1 : Int)) (ax (p1.kind == 7) (ax ((p1.fields.length : Int) == 0) (gc p1 true) (ay (eR p1.kind) fun r3 => ax r3 (gc p1 (decide ((0 : Int) < (p1.fields.length : Int)))) (gc p1 false))) (ay (eR p1.kind) fun r4 => ax r4 (gc p1 (decide ((0 : Int) < (p1.fields.length : Int)))) (gc p1 false)))
def gf (p1 : af) (x1 : Bool) : Option Int := ax x1 (some (1 : Int)) (ax (p1.kind == 6) (ax ((p1.fields.length : Int) != 1) (jX p1 true) (ay (at? p1.fields (0 : Int)) fun e1 => jX p1 (!(e1.name.toList == (ByteArray.mk #[]).toList)))) (jX p1 false))
def pD (p1 : af) : Option Int := ay (cq p1.kind (1 : Int) (7 : Int)) fun r1 => ax (!r1) (some (3 : Int)) (ax (p1.kind == 3) (ay (cq p1.scale (0 : Int) (12 : Int)) fun r2 => ax (!r2) (gf p1 true) (ax (p1.kind != 3) (gf p1 (p1.scale != 0)) (gf p1 false))) (ax (p1.kind != 3) (gf p1 (p1.scale != 0)) (gf p1 false)))
theorem Ay (p1 : af) : CT Tryz.prog 75 [.ag [ci p1.kind, ci p1.scale, cl au p1.fields]] (pD p1) vi :=
  eB 109 [] Tryz.f75 fun r => (uP (cS _ _ _) fun r1 _ => (uC (uR .ret xF) (uQ (kS Tryz.f75 [1,1,0,0] 2) fun K8 hK8 => have hJ1 : ∀ (x1 : Bool), gf p1 x1 = some r → K8.p [(1, .one (.pv (.rp [(bL p1)] 0 0))), (28, vb x1)] [] := fun x1 h => hK8 h (uC (uR .ret xF) (uQ (kS Tryz.f75 [1,1,1,0,0] 2) fun K17 hK17 => have hJ2 : ∀ (x2 : Bool), jX p1 x2 = some r → K17.p [(1, .one (.pv (.rp [(bL p1)] 0 0))), (45, vb x2)] [] := fun x2 h => hK17 h (uC (uR .ret xF) (uQ (kS Tryz.f75 [1,1,1,1,0,0] 2) fun K24 hK24 => have hJ3 : ∀ (x3 : Bool), gc p1 x3 = some r → K24.p [(1, .one (.pv (.rp [(bL p1)] 0 0))), (65, vb x3)] [] := fun x3 h => hK24 h (uC (uR .ret xF) (uC (uR .ret xF) (uQ (kS Tryz.f75 [1,1,1,1,1,1,0] 1) fun K37 hK37 => have hJ4 : ∀ (_ : Unit), oI p1 = some r → K37.p [(1, .one (.pv (.rp [(bL p1)] 0 0)))] [] := fun _ h => hK37 h (uQ (kS Tryz.f75 [1,1,1,1,1,1,1,0] 1) fun K49 hK49 => have hJ6 : ∀ (_ : Unit), sF = some r → K49.p [] [] := fun _ h => hK49 h (uR .ret xF); (uN au p1.fields (uO (cd Tryz.f75 [1,1,1,1,1,1,1,0,1,0,0]) (kS Tryz.f75 [1,1,1,1,1,1,1,0,1,0] 1) fun R2 b2 => have hL2 : ∀ (k2 : Nat) (x5 : Int), cW p1 k2 x5 = some r → (R2 k2).p [(1, .one (.pv (.rp [(bL p1)] 0 0))), (86, vi (p1.fields.length : Int)), (87, vi x5)] [] := by intro k2; induction k2 with | zero => intro x5 h; exact lU (cW.eq_1 ..) h | succ k2 ih2 => intro x5 h; exact b2 h (uU (cW.eq_2 ..) (uC (uQ (kS Tryz.f75 [1,1,1,1,1,1,1,0,1,0,0,1,1,0] 1) fun K54 hK54 => have hJ5 : ∀ (_ : Unit), oM (cW p1 k2) x5 = some r → K54.p [(1, .one (.pv (.rp [(bL p1)] 0 0))), (86, vi (p1.fields.length : Int)), (87, vi x5)] [] := fun _ h => hK54 h (uJ (ih2 (IntKind.i64.wrap (x5 + 1)))); (uO (cd Tryz.f75 [1,1,1,1,1,1,1,0,1,0,0,1,1,0,0,1,1,0,0]) (kS Tryz.f75 [1,1,1,1,1,1,1,0,1,0,0,1,1,0,0,1,1,0] 2) fun R3 b3 => have hL3 : ∀ (k3 : Nat) (x6 : Int), dr (cW p1 k2) p1 x5 k3 x6 = some r → (R3 k3).p [(1, .one (.pv (.rp [(bL p1)] 0 0))), (4, vi x5), (5, vi x6), (86, vi (p1.fields.length : Int)), (87, vi x5)] [] := by intro k3; induction k3 with | zero => intro x6 h; exact lU (dr.eq_1 ..) h | succ k3 ih3 => intro x6 h; exact b3 h (uU (dr.eq_2 ..) (uC (nr 12 (uL au fun e3 a62 => (uL au fun e4 a63 => (uC (uR .ret (xN (xN (xN (xN xF))))) (uJ (ih3 (IntKind.i64.wrap (x6 + 1)))))))) (uR (.exit 4) (xM (uJ (hJ5 ()))))))
 uE (hL3 ba (0 : Int)))) (uR (.exit 2) (xM (uJ (hJ6 ()))))))
 uE (hL2 ba (0 : Int))))); (uN au p1.fields (uO (cd Tryz.f75 [1,1,1,1,1,1,0,1,0,0]) (kS Tryz.f75 [1,1,1,1,1,1,0,1,0] 1) fun R1 b1 => have hL1 : ∀ (k1 : Nat) (x4 : Int), dG p1 k1 x4 = some r → (R1 k1).p [(1, .one (.pv (.rp [(bL p1)] 0 0))), (71, vi (p1.fields.length : Int)), (72, vi x4)] [] := by intro k1; induction k1 with | zero => intro x4 h; exact lU (dG.eq_1 ..) h | succ k1 ih1 => intro x4 h; exact b1 h (uU (dG.eq_2 ..) (uC (uL au fun e2 a45 => (uP (Bq _) fun r5 _ => (uC (uR .ret (xN (xN xF))) (uJ (ih1 (IntKind.i64.wrap (x4 + 1))))))) (uR (.exit 0) (xM (uJ (hJ4 ()))))))
 uE (hL1 ba (0 : Int))))))); (uC (uN au p1.fields (uC (uJ (hJ3 true)) (uP (fZ _) fun r3 _ => (uC (uN au p1.fields (uJ (hJ3 (decide ((0 : Int) < (p1.fields.length : Int)))))) (uJ (hJ3 false)))))) (uP (fZ _) fun r4 _ => (uC (uN au p1.fields (uJ (hJ3 (decide ((0 : Int) < (p1.fields.length : Int)))))) (uJ (hJ3 false))))))); (uC (uN au p1.fields (uC (uJ (hJ2 true)) (uL au fun e1 a20 => (uJ (hJ2 (!(e1.name.toList == (ByteArray.mk #[]).toList))))))) (uJ (hJ2 false))))); (uC (uP (cS _ _ _) fun r2 _ => (uC (uJ (hJ1 true)) (uC (uJ (hJ1 (p1.scale != 0))) (uJ (hJ1 false))))) (uC (uJ (hJ1 (p1.scale != 0))) (uJ (hJ1 false)))))))
def ol (z3 : Int) : Option (Int × Int) := some ((0 : Int), z3)
def dE (q_ref1_checkType : af → Int → Int → Option (Int × Int)) (p1 : af) (p2 : Int) : Nat → Int → Int → Option (Int × Int)
 | 0, _, _ => none
 | k1 + 1, z2, x1 => ax (decide (x1 < (p1.fields.length : Int))) (ay (at? p1.fields x1) fun e1 => ay (q_ref1_checkType e1.type (IntKind.i64.wrap (p2 + 1)) z2) fun r3 => ax (r3.1 != 0) (some (r3.1, r3.2)) ((dE q_ref1_checkType p1 p2 k1) r3.2 (IntKind.i64.wrap (x1 + 1)))) (ol z2)
def fv (q_ref1_checkType : af → Int → Int → Option (Int × Int)) (p1 : af) (p2 z1 : Int) : Option (Int × Int) := ay (pD p1) fun r2 => ax (r2 != 0) (some (r2, z1)) (dE q_ref1_checkType p1 p2 ba z1 (0 : Int))
def cD : Nat → af → Int → Int → Option (Int × Int)
 | 0, _, _, _ => none
 | k0 + 1, p1, p2, p3 => ax (decide ((4 : Int) < p2)) (some ((7 : Int), p3)) (ay (eR p1.kind) fun r1 => ax r1 (ax (p3 == 40) (some ((7 : Int), p3)) (fv (cD k0) p1 p2 (IntKind.i64.wrap (p3 + 1)))) (fv (cD k0) p1 p2 p3))
theorem pb : ∀ (k0 : Nat) (p1 : af) (p2 p3 : Int), CM Tryz.prog 38 [.ag [ci p1.kind, ci p1.scale, cl au p1.fields], vi p2, .one (.pt 0 0 0 0)] [.box [ci p3]] (cD k0 p1 p2 p3) (fun r => vi r.1) (fun r => [.box [ci r.2]])
  | 0, _, _, _ => Ip (cD.eq_1 ..)
  | k0 + 1, p1, p2, p3 => qE 1 49 [] Tryz.f38 fun r => (uU (cD.eq_2 ..) (uC (uR .ret sd) (uQ (kS Tryz.f38 [1,1,0] 1) fun K6 hK6 => have hJ1 : ∀ (z1 : Int), fv (cD k0) p1 p2 z1 = some r → K6.p [(1, vi p2), (2, .one (.pt 0 0 0 0)), (3, .one (.pv (.rp [[pi p1.kind, pi p1.scale, .ro (au.els p1.fields)]] 0 0)))] [.box [ci z1]] := fun z1 h => hK6 h (uP (Ay _) fun r2 _ => (uC (uR .ret sd) (uQ (kS Tryz.f38 [1,1,1,1,0] 1) fun K20 hK20 => have hJ2 : ∀ (z3 : Int), ol z3 = some r → K20.p [] [.box [ci z3]] := fun z3 h => hK20 h (uR .ret sd); (uN au p1.fields (uO (cd Tryz.f38 [1,1,1,1,0,1,0,0]) (kS Tryz.f38 [1,1,1,1,0,1,0] 1) fun R1 b1 => have hL1 : ∀ (k1 : Nat) (z2 x1 : Int), dE (cD k0) p1 p2 k1 z2 x1 = some r → (R1 k1).p [(1, vi p2), (2, .one (.pt 0 0 0 0)), (3, .one (.pv (.rp [[pi p1.kind, pi p1.scale, .ro (au.els p1.fields)]] 0 0))), (31, vi (p1.fields.length : Int)), (32, vi x1)] [.box [ci z2]] := by intro k1; induction k1 with | zero => intro z2 x1 h; exact lU (dE.eq_1 ..) h | succ k1 ih1 => intro z2 x1 h; exact b1 h (uU (dE.eq_2 ..) (uC (uL au fun e1 a28 => (mt true [0] (pb k0 _ _ _) fun r3 _ => (uC (uR .ret (xN (xN sd))) (uJ (ih1 r3.2 (IntKind.i64.wrap (x1 + 1))))))) (uR (.exit 0) (xM (uJ (hJ2 z2))))))
 uE (hL1 ba z1 (0 : Int))))))); (uP (fZ _) fun r1 _ => (uC (uC (uR .ret (xN sd)) (uJ (hJ1 (IntKind.i64.wrap (p3 + 1))))) (uJ (hJ1 p3)))))))
def dH (p1 : af) : Option Int := ay (cD ba p1 (1 : Int) (0 : Int)) fun r1 => some r1.1
theorem ik (p1 : af) : CT Tryz.prog 19 [.ag [ci p1.kind, ci p1.scale, cl au p1.fields]] (dH p1) vi :=
  eB 6 [3] Tryz.f19 fun r => (mt true [0] (pb ba _ _ _) fun r1 _ => (uR .ret xF))
def nj (rec2 : Bool → Int → Option ByteArray) (x3 : Int) (x4 : Bool) : Option ByteArray := rec2 x4 (IntKind.i64.wrap (x3 + 1))
def lc (p1 : ByteArray) (x6 : Int) : Option ByteArray := bB (0 ≤ (0 : Int) ∧ (0 : Int) ≤ x6 ∧ x6 ≤ (p1.size : Int)) <| some (p1.extract (0 : Int).toNat x6.toNat)
def ny (rec1 : Int → Option ByteArray) (p1 : ByteArray) (x1 : Int) (x5 : Bool) : Option ByteArray := ax (!x5) (lc p1 x1) (rec1 (IntKind.i64.wrap (x1 + 1)))
def eV (rec1 : Int → Option ByteArray) (p1 p2 : ByteArray) (x1 : Int) : Nat → Bool → Int → Option ByteArray
 | 0, _, _ => none
 | k2 + 1, x2, x3 => ax (decide (x3 < (p2.size : Int))) (ax x2 (nj (eV rec1 p1 p2 x1 k2) x3 true) (bB (0 ≤ x3 ∧ x3 < (p2.size : Int)) <| bB (0 ≤ x1 ∧ x1 < (p1.size : Int)) <| ay (some (((p2.data.toList.getD x3.toNat 0).toNat : Int) == ((p1.data.toList.getD x1.toNat 0).toNat : Int))) fun y1 => nj (eV rec1 p1 p2 x1 k2) x3 y1)) (ny rec1 p1 x1 x2)
def dQ (p1 p2 : ByteArray) : Nat → Int → Option ByteArray
 | 0, _ => none
 | k1 + 1, x1 => ax (decide (x1 < (p1.size : Int))) (eV (dQ p1 p2 k1) p1 p2 x1 ba false (0 : Int)) (lc p1 x1)
def kD (p1 p2 : ByteArray) : Option ByteArray := dQ p1 p2 ba (0 : Int)
theorem mD (p1 p2 : ByteArray) : CT Tryz.prog 85 [vs p1, vs p2] (kD p1 p2) vs :=
  eB 35 [] Tryz.f85 fun r => (uQ (kS Tryz.f85 [1,1,0] 1) fun K3 hK3 => have hJ3 : ∀ (x6 : Int), lc p1 x6 = some r → K3.p [(0, vs p1), (5, vi x6)] [] := fun x6 h => hK3 h (uG (uR .ret xF)); (uO (cd Tryz.f85 [1,1,0,0,0]) (kS Tryz.f85 [1,1,0,0] 1) fun R1 b1 => have hL1 : ∀ (k1 : Nat) (x1 : Int), dQ p1 p2 k1 x1 = some r → (R1 k1).p [(0, vs p1), (1, vs p2), (5, vi x1)] [] := by intro k1; induction k1 with | zero => intro x1 h; exact lU (dQ.eq_1 ..) h | succ k1 ih1 => intro x1 h; exact b1 h (uU (dQ.eq_2 ..) (uC (uQ (kS Tryz.f85 [1,1,0,0,0,1,0,1,0] 2) fun K8 hK8 => have hJ2 : ∀ (x5 : Bool), ny (dQ p1 p2 k1) p1 x1 x5 = some r → K8.p [(0, vs p1), (1, vs p2), (5, vi x1), (6, vb x5)] [] := fun x5 h => hK8 h (uC (uR (.exit 0) (xM (uJ (hJ3 x1)))) (uJ (ih1 (IntKind.i64.wrap (x1 + 1))))); (uO (cd Tryz.f85 [1,1,0,0,0,1,0,1,0,1,0,0]) (kS Tryz.f85 [1,1,0,0,0,1,0,1,0,1,0] 1) fun R2 b2 => have hL2 : ∀ (k2 : Nat) (x2 : Bool) (x3 : Int), eV (dQ p1 p2 k1) p1 p2 x1 k2 x2 x3 = some r → (R2 k2).p [(0, vs p1), (1, vs p2), (5, vi x1), (6, vb x2), (7, vi x3)] [] := by intro k2; induction k2 with | zero => intro x2 x3 h; exact lU (eV.eq_1 ..) h | succ k2 ih2 => intro x2 x3 h; exact b2 h (uU (eV.eq_2 ..) (uC (uQ (kS Tryz.f85 [1,1,0,0,0,1,0,1,0,1,0,0,1,0] 1) fun K13 hK13 => have hJ1 : ∀ (x4 : Bool), nj (eV (dQ p1 p2 k1) p1 p2 x1 k2) x3 x4 = some r → K13.p [(0, vs p1), (1, vs p2), (5, vi x1), (6, vb x4), (7, vi x3)] [] := fun x4 h => hK13 h (uJ (ih2 x4 (IntKind.i64.wrap (x3 + 1)))); (nr 8 (uC (uJ (hJ1 true)) (uG (uG (uY 26 vb fun y1 => (uJ (hJ1 y1)))))))) (uR (.exit 2) (xM (uJ (hJ2 x2))))))
 uE (hL2 ba false (0 : Int)))) (uR (.exit 0) (xM (uJ (hJ3 x1))))))
 uE (hL1 ba (0 : Int))))
def rl (x4 : Int) : Option (Int × Bool) := some (x4, true)
def fj (p1 : ByteArray) : Nat → Int → Int → Option (Int × Bool)
 | 0, _, _ => none
 | k1 + 1, x2, x3 => ax (decide (x3 < (p1.size : Int))) (bB (0 ≤ x3 ∧ x3 < (p1.size : Int)) <| ay (some (IntKind.u8.wrap (((p1.data.toList.getD x3.toNat 0).toNat : Int) - (48 : Int)))) fun y1 => ay (some (IntKind.i64.wrap ((IntKind.i64.wrap ((10 : Int) * x2)) + (IntKind.i64.wrap y1)))) fun y2 => (fj p1 k1) y2 (IntKind.i64.wrap (x3 + 1))) (rl x2)
def jm (p1 : ByteArray) (x1 : Bool) : Option (Int × Bool) := ax x1 (some ((0 : Int), false)) (fj p1 ba (0 : Int) (0 : Int))
def fo (p1 : ByteArray) : Option (Int × Bool) := ax ((p1.size : Int) == 0) (jm p1 true) (ax (decide ((18 : Int) < (p1.size : Int))) (jm p1 true) (ay (kD p1 (ByteArray.mk #[48, 49, 50, 51, 52, 53, 54, 55, 56, 57])) fun r1 => jm p1 ((r1.size : Int) != (p1.size : Int))))
theorem f6 (p1 : ByteArray) : CT Tryz.prog 88 [vs p1] (fo p1) (fun r => .tp [vi r.1, vb r.2]) :=
  eB 37 [] Tryz.f88 fun r => (uQ (kS Tryz.f88 [1,0,0] 2) fun K3 hK3 => have hJ1 : ∀ (x1 : Bool), jm p1 x1 = some r → K3.p [(0, vs p1), (21, vb x1)] [] := fun x1 h => hK3 h (uC (uR .ret xF) (uQ (kS Tryz.f88 [1,1,1,0] 1) fun K10 hK10 => have hJ2 : ∀ (x4 : Int), rl x4 = some r → K10.p [(4, vi x4)] [] := fun x4 h => hK10 h (uR .ret xF); (uO (cd Tryz.f88 [1,1,1,0,1,0,0]) (kS Tryz.f88 [1,1,1,0,1,0] 1) fun R1 b1 => have hL1 : ∀ (k1 : Nat) (x2 x3 : Int), fj p1 k1 x2 x3 = some r → (R1 k1).p [(0, vs p1), (4, vi x2), (5, vi x3)] [] := by intro k1; induction k1 with | zero => intro x2 x3 h; exact lU (fj.eq_1 ..) h | succ k1 ih1 => intro x2 x3 h; exact b1 h (uU (fj.eq_2 ..) (uC (uG (uY 33 (vk .u8) fun y1 => (uY 35 vi fun y2 => (uJ (ih1 y2 (IntKind.i64.wrap (x3 + 1))))))) (uR (.exit 0) (xM (uJ (hJ2 x2))))))
 uE (hL1 ba (0 : Int) (0 : Int))))); (uC (uJ (hJ1 true)) (uC (uJ (hJ1 true)) (uP (mD _ _) fun r1 _ => (uJ (hJ1 ((r1.size : Int) != (p1.size : Int))))))))
def kW (p1 : ByteArray) (x1 : Bool) : Option (Int × Bool) := ax x1 (bB (0 ≤ (1 : Int) ∧ (1 : Int) ≤ (p1.size : Int) ∧ (p1.size : Int) ≤ (p1.size : Int)) <| ay (fo (p1.extract (1 : Int).toNat (p1.size : Int).toNat)) fun r1 => some ((IntKind.i64.wrap (0 - r1.1)), r1.2)) (ay (fo p1) fun r2 => some (r2.1, r2.2))
def mr (p1 : ByteArray) : Option (Int × Bool) := ax (decide ((0 : Int) < (p1.size : Int))) (bB (0 ≤ (0 : Int) ∧ (0 : Int) < (p1.size : Int)) <| kW p1 (((p1.data.toList.getD (0 : Int).toNat 0).toNat : Int) == 45)) (kW p1 false)
theorem sC (p1 : ByteArray) : CT Tryz.prog 86 [vs p1] (mr p1) (fun r => .tp [vi r.1, vb r.2]) :=
  eB 27 [] Tryz.f86 fun r => (uQ (kS Tryz.f86 [1,0,0] 2) fun K3 hK3 => have hJ1 : ∀ (x1 : Bool), kW p1 x1 = some r → K3.p [(0, vs p1), (13, vb x1)] [] := fun x1 h => hK3 h (uC (uG (uP (f6 _) fun r1 _ => (uR .ret xF))) (uP (f6 _) fun r2 _ => (uR .ret xF))); (uC (uG (uJ (hJ1 (((p1.data.toList.getD (0 : Int).toNat 0).toNat : Int) == 45)))) (uJ (hJ1 false))))
def ly (rec1 : ByteArray → Int → Option (ac × ByteArray × Bool)) (x5 : ByteArray) (x6 : Int) : Option (ac × ByteArray × Bool) := rec1 x5 (IntKind.i64.wrap (x6 + 1))
def ln (rec1 : ByteArray → Int → Option (ac × ByteArray × Bool)) (p1 x2 : ByteArray) (x3 : Int) (x4 : Bool) : Option (ac × ByteArray × Bool) := ax x4 (bB (x2.size + (ByteArray.mk #[39]).size ≤ 4611686018427387904) <| ly rec1 (x2 ++ (ByteArray.mk #[39])) (IntKind.i64.wrap (x3 + 1))) (bB (0 ≤ (IntKind.i64.wrap (x3 + 1)) ∧ (IntKind.i64.wrap (x3 + 1)) ≤ (p1.size : Int) ∧ (p1.size : Int) ≤ (p1.size : Int)) <| ay (some (p1.extract (IntKind.i64.wrap (x3 + 1)).toNat (p1.size : Int).toNat)) fun y3 => some ((ac.mk (4 : Int) (0 : Int) (0 : Int) x2 []), y3, true))
def rh (p1 : ByteArray) : Option (ac × ByteArray × Bool) := some ((ac.mk (0 : Int) (0 : Int) (0 : Int) ByteArray.empty []), p1, false)
def ca (p1 : ByteArray) : Nat → ByteArray → Int → Option (ac × ByteArray × Bool)
 | 0, _, _ => none
 | k1 + 1, x2, x3 => ax (decide (x3 < (p1.size : Int))) (bB (0 ≤ x3 ∧ x3 < (p1.size : Int)) <| ax (((p1.data.toList.getD x3.toNat 0).toNat : Int) != 39) (bB (0 ≤ x3 ∧ x3 ≤ (IntKind.i64.wrap (x3 + 1)) ∧ (IntKind.i64.wrap (x3 + 1)) ≤ (p1.size : Int)) <| bB (x2.size + (p1.extract x3.toNat (IntKind.i64.wrap (x3 + 1)).toNat).size ≤ 4611686018427387904) <| ay (some (x2 ++ (p1.extract x3.toNat (IntKind.i64.wrap (x3 + 1)).toNat))) fun y1 => ly (ca p1 k1) y1 x3) (ax (decide ((IntKind.i64.wrap (x3 + 1)) < (p1.size : Int))) (bB (0 ≤ (IntKind.i64.wrap (x3 + 1)) ∧ (IntKind.i64.wrap (x3 + 1)) < (p1.size : Int)) <| ay (some ((p1.data.toList.getD (IntKind.i64.wrap (x3 + 1)).toNat 0).toNat : Int)) fun y2 => ln (ca p1 k1) p1 x2 x3 (y2 == 39)) (ln (ca p1 k1) p1 x2 x3 false))) (rh p1)
def lB (p1 : ByteArray) (x1 : Bool) : Option (ac × ByteArray × Bool) := ax x1 (some ((ac.mk (0 : Int) (0 : Int) (0 : Int) ByteArray.empty []), p1, false)) (ca p1 ba (ByteArray.mk #[]) (1 : Int))
def oB (p1 : ByteArray) : Option (ac × ByteArray × Bool) := ax ((p1.size : Int) == 0) (lB p1 true) (bB (0 ≤ (0 : Int) ∧ (0 : Int) < (p1.size : Int)) <| lB p1 (((p1.data.toList.getD (0 : Int).toNat 0).toNat : Int) != 39))
abbrev gz : List CV := [ci (0 : Int), ci (0 : Int), ci (0 : Int), eG ByteArray.empty, .pv (.s (.slice none 0 0))]
theorem ym (p1 : ByteArray) : CT Tryz.prog 87 [vs p1] (oB p1) (fun r => .tp [.ag [ci r.1.kind, ci r.1.n, ci r.1.scale, eG r.1.s, cl ak r.1.items], vs r.2.1, vb r.2.2]) :=
  eB 58 [2] Tryz.f87 fun r => (uQ (kS Tryz.f87 [1,0,0] 2) fun K3 hK3 => have hJ1 : ∀ (x1 : Bool), lB p1 x1 = some r → K3.p [(0, vs p1), (2, .one (.pt 0 0 0 0)), (14, vb x1)] [.box gz] := fun x1 h => hK3 h (uC (uR .ret xF) (uQ (kS Tryz.f87 [1,1,1,0] 1) fun K9 hK9 => have hJ4 : ∀ (_ : Unit), rh p1 = some r → K9.p [(0, vs p1), (2, .one (.pt 0 0 0 0))] [.box gz] := fun _ h => hK9 h (uR .ret xF); (uO (cd Tryz.f87 [1,1,1,0,1,0,0]) (kS Tryz.f87 [1,1,1,0,1,0] 1) fun R1 b1 => have hL1 : ∀ (k1 : Nat) (x2 : ByteArray) (x3 : Int), ca p1 k1 x2 x3 = some r → (R1 k1).p [(0, vs p1), (2, .one (.pt 0 0 0 0)), (5, vs x2), (6, vi x3)] [.box gz] := by intro k1; induction k1 with | zero => intro x2 x3 h; exact lU (ca.eq_1 ..) h | succ k1 ih1 => intro x2 x3 h; exact b1 h (uU (ca.eq_2 ..) (uC (uQ (kS Tryz.f87 [1,1,1,0,1,0,0,1,0] 1) fun K14 hK14 => have hJ3 : ∀ (x5 : ByteArray) (x6 : Int), ly (ca p1 k1) x5 x6 = some r → K14.p [(0, vs p1), (2, .one (.pt 0 0 0 0)), (5, vs x5), (6, vi x6)] [.box gz] := fun x5 x6 h => hK14 h (uJ (ih1 x5 (IntKind.i64.wrap (x6 + 1)))); (uG (uC (uG (wN 33 vs fun y1 => (uJ (hJ3 y1 x3)))) (uQ (kS Tryz.f87 [1,1,1,0,1,0,0,1,0,0,1,0,0] 3) fun K24 hK24 => have hJ2 : ∀ (x4 : Bool), ln (ca p1 k1) p1 x2 x3 x4 = some r → K24.p [(0, vs p1), (2, .one (.pt 0 0 0 0)), (5, vs x2), (6, vi x3), (45, vb x4)] [.box gz] := fun x4 h => hK24 h (uC (uG (uJ (hJ3 (x2 ++ (ByteArray.mk #[39])) (IntKind.i64.wrap (x3 + 1))))) (yc 7 0 [1] (wN 55 vs fun y3 => (uR .ret (xN (xN (xN xF))))))); (uC (wN 43 (vk .u8) fun y2 => (uJ (hJ2 (y2 == 39)))) (uJ (hJ2 false))))))) (uR (.exit 0) (xM (uJ (hJ4 ()))))))
 uE (hL1 ba (ByteArray.mk #[]) (1 : Int))))); (uC (uJ (hJ1 true)) (uG (uJ (hJ1 (((p1.data.toList.getD (0 : Int).toNat 0).toNat : Int) != 39))))))
def nf (x1 : Bool) : Option Bool := some x1
def yZ (p1 : Int) : Option Bool := ax ((p1.tmod (4 : Int)) == 0) (ax ((p1.tmod (100 : Int)) != 0) (nf true) (nf ((p1.tmod (400 : Int)) == 0))) (nf false)
theorem B5 (p1 : Int) : CT Tryz.prog 139 [vi p1] (yZ p1) vb :=
  eB 16 [] Tryz.f139 fun r => (uQ (kS Tryz.f139 [1,0] 1) fun K2 hK2 => have hJ1 : ∀ (x1 : Bool), nf x1 = some r → K2.p [(2, vb x1)] [] := fun x1 h => hK2 h (uR .ret xF); (uC (uC (uJ (hJ1 true)) (uJ (hJ1 ((p1.tmod (400 : Int)) == 0)))) (uJ (hJ1 false))))
def gG (x1 : Bool) : Option Int := ax x1 (some (30 : Int)) (some (31 : Int))
def hU (p1 p2 : Int) : Option Int := ax (p2 == 2) (ay (yZ p1) fun r1 => ax r1 (some (29 : Int)) (some (28 : Int))) (ax (p2 == 4) (gG (p2 == 4)) (ax (p2 == 6) (gG (p2 == 6)) (ax (p2 == 9) (gG (p2 == 9)) (gG (p2 == 11)))))
theorem jE (p1 p2 : Int) : CT Tryz.prog 102 [vi p1, vi p2] (hU p1 p2) vi :=
  eB 15 [] Tryz.f102 fun r => (uC (uP (B5 _) fun r1 _ => (uC (uR .ret xF) (uR .ret xF))) (uQ (kS Tryz.f102 [1,0,1,0,1,1,0] 3) fun K12 hK12 => have hJ1 : ∀ (x1 : Bool), gG x1 = some r → K12.p [(10, vb x1)] [] := fun x1 h => hK12 h (uC (uR .ret xF) (uR .ret xF)); (uC (uJ (hJ1 (p2 == 4))) (uC (uJ (hJ1 (p2 == 6))) (uC (uJ (hJ1 (p2 == 9))) (uJ (hJ1 (p2 == 11))))))))
def eD (x1 : Bool) : Option Bool := some x1
def nv (p1 : dz) : Option Bool := ay (cq p1.year (1 : Int) (9999 : Int)) fun r1 => ax r1 (ay (cq p1.month (1 : Int) (12 : Int)) fun r2 => ax r2 (ay (hU p1.year p1.month) fun r3 => ay (cq p1.day (1 : Int) r3) fun r4 => ax r4 (ay (cq p1.hour (0 : Int) (23 : Int)) fun r5 => ax r5 (ay (cq p1.minute (0 : Int) (59 : Int)) fun r6 => ax r6 (ay (cq p1.second (0 : Int) (59 : Int)) fun r7 => eD r7) (eD false)) (eD false)) (eD false)) (eD false)) (eD false)
theorem wJ (p1 : dz) : CT Tryz.prog 89 [.ag [ci p1.year, ci p1.month, ci p1.day, ci p1.hour, ci p1.minute, ci p1.second]] (nv p1) vb :=
  eB 36 [] Tryz.f89 fun r => (uQ (kS Tryz.f89 [1,0] 1) fun K2 hK2 => have hJ1 : ∀ (x1 : Bool), eD x1 = some r → K2.p [(2, vb x1)] [] := fun x1 h => hK2 h (uR .ret xF); (nr 16 (uP (cS _ _ _) fun r1 _ => (uC (uP (cS _ _ _) fun r2 _ => (uC (uP (jE _ _) fun r3 _ => (uP (cS _ _ _) fun r4 _ => (uC (uP (cS _ _ _) fun r5 _ => (uC (uP (cS _ _ _) fun r6 _ => (uC (uP (cS _ _ _) fun r7 _ => (uJ (hJ1 r7))) (uJ (hJ1 false)))) (uJ (hJ1 false)))) (uJ (hJ1 false))))) (uJ (hJ1 false)))) (uJ (hJ1 false))))))
def jb (x1 : Int) : Option Int := some (IntKind.i64.wrap (x1 - 719528))
def ia (p1 : Int) : Option Int := ax (decide ((0 : Int) < p1)) (ay (some (IntKind.i64.wrap ((IntKind.i64.wrap (p1 - 1)).tdiv (4 : Int)))) fun y1 => ay (some (IntKind.i64.wrap ((IntKind.i64.wrap (p1 - 1)).tdiv (100 : Int)))) fun y2 => ay (some (IntKind.i64.wrap ((IntKind.i64.wrap (p1 - 1)).tdiv (400 : Int)))) fun y3 => ay (some (IntKind.i64.wrap ((IntKind.i64.wrap ((IntKind.i64.wrap (y1 - y2)) + y3)) + (1 : Int)))) fun y4 => jb (IntKind.i64.wrap ((IntKind.i64.wrap ((365 : Int) * p1)) + y4))) (jb (IntKind.i64.wrap ((365 : Int) * p1)))
theorem lS (p1 : Int) : CT Tryz.prog 101 [vi p1] (ia p1) vi :=
  eB 24 [] Tryz.f101 fun r => (uQ (kS Tryz.f101 [1,1,0] 1) fun K3 hK3 => have hJ1 : ∀ (x1 : Int), jb x1 = some r → K3.p [(3, vi x1)] [] := fun x1 h => hK3 h (uR .ret xF); (uC (uY 11 vi fun y1 => (uY 14 vi fun y2 => (uY 18 vi fun y3 => (uY 20 vi fun y4 => (uJ (hJ1 (IntKind.i64.wrap ((IntKind.i64.wrap ((365 : Int) * p1)) + y4)))))))) (uJ (hJ1 (IntKind.i64.wrap ((365 : Int) * p1))))))
def p7 (p3 x3 : Int) : Option Int := some (IntKind.i64.wrap ((IntKind.i64.wrap (x3 + p3)) - (1 : Int)))
def iL (p1 p2 p3 : Int) : Nat → Int → Int → Option Int
 | 0, _, _ => none
 | k1 + 1, x1, x2 => ax (decide (x2 < p2)) (ay (hU p1 x2) fun r2 => (iL p1 p2 p3 k1) (IntKind.i64.wrap (x1 + r2)) (IntKind.i64.wrap (x2 + 1))) (p7 p3 x1)
def rP (p1 p2 p3 : Int) : Option Int := ay (ia p1) fun r1 => iL p1 p2 p3 ba r1 (1 : Int)
theorem BZ (p1 p2 p3 : Int) : CT Tryz.prog 128 [vi p1, vi p2, vi p3] (rP p1 p2 p3) vi :=
  eB 25 [] Tryz.f128 fun r => (uP (lS _) fun r1 _ => (uQ (kS Tryz.f128 [1,1,0] 1) fun K4 hK4 => have hJ1 : ∀ (x3 : Int), p7 p3 x3 = some r → K4.p [(2, vi p3), (7, vi x3)] [] := fun x3 h => hK4 h (uR .ret xF); (uO (cd Tryz.f128 [1,1,0,1,0,0]) (kS Tryz.f128 [1,1,0,1,0] 1) fun R1 b1 => have hL1 : ∀ (k1 : Nat) (x1 x2 : Int), iL p1 p2 p3 k1 x1 x2 = some r → (R1 k1).p [(0, vi p1), (1, vi p2), (2, vi p3), (7, vi x1), (8, vi x2)] [] := by intro k1; induction k1 with | zero => intro x1 x2 h; exact lU (iL.eq_1 ..) h | succ k1 ih1 => intro x1 x2 h; exact b1 h (uU (iL.eq_2 ..) (uC (uP (jE _ _) fun r2 _ => (uJ (ih1 (IntKind.i64.wrap (x1 + r2)) (IntKind.i64.wrap (x2 + 1))))) (uR (.exit 0) (xM (uJ (hJ1 x1))))))
 uE (hL1 ba r1 (1 : Int)))))
def nk (p1 : dz) : Option Int := ay (rP p1.year p1.month p1.day) fun r1 => ay (some (IntKind.i64.wrap ((IntKind.i64.wrap ((86400 : Int) * r1)) + (IntKind.i64.wrap ((3600 : Int) * p1.hour))))) fun y1 => ay (some (IntKind.i64.wrap ((IntKind.i64.wrap (y1 + (IntKind.i64.wrap ((60 : Int) * p1.minute)))) + p1.second))) fun y2 => some y2
theorem wX (p1 : dz) : CT Tryz.prog 90 [.ag [ci p1.year, ci p1.month, ci p1.day, ci p1.hour, ci p1.minute, ci p1.second]] (nk p1) vi :=
  eB 22 [] Tryz.f90 fun r => (nr 18 (uP (BZ _ _ _) fun r1 _ => (uY 14 vi fun y1 => (uY 21 vi fun y2 => (uR .ret xF)))))
def kg (p2 r1 : ByteArray) (x2 : Int) : Option (ac × ByteArray × Bool) := bB (0 ≤ (r1.size : Int) ∧ (r1.size : Int) ≤ (p2.size : Int) ∧ (p2.size : Int) ≤ (p2.size : Int)) <| some ((ac.mk (1 : Int) x2 (0 : Int) ByteArray.empty []), (p2.extract (r1.size : Int).toNat (p2.size : Int).toNat), true)
def mc (rec1 : ByteArray → Int → Option (ac × ByteArray × Bool)) (x4 : Int) (x5 : ByteArray) : Option (ac × ByteArray × Bool) := rec1 x5 (IntKind.i64.wrap (x4 + 1))
def jV (p1 : af) (p2 r4 x9 : ByteArray) : Option (ac × ByteArray × Bool) := ay (mr x9) fun r5 => bB (0 ≤ (r4.size : Int) ∧ (r4.size : Int) ≤ (p2.size : Int) ∧ (p2.size : Int) ≤ (p2.size : Int)) <| some ((ac.mk (3 : Int) r5.1 p1.scale ByteArray.empty []), (p2.extract (r4.size : Int).toNat (p2.size : Int).toNat), r5.2)
def dI (rec2 : ByteArray → Option (ac × ByteArray × Bool)) (p1 : af) (p2 r4 x7 : ByteArray) (x8 : Bool) : Option (ac × ByteArray × Bool) := ax x8 (bB (0 ≤ (0 : Int) ∧ (0 : Int) < (x7.size : Int)) <| ax (((x7.data.toList.getD (0 : Int).toNat 0).toNat : Int) == 45) (bB (0 ≤ (2 : Int) ∧ (2 : Int) ≤ (x7.size : Int) ∧ (x7.size : Int) ≤ (x7.size : Int)) <| bB ((ByteArray.mk #[45]).size + (x7.extract (2 : Int).toNat (x7.size : Int).toNat).size ≤ 4611686018427387904) <| ay (some ((ByteArray.mk #[45]) ++ (x7.extract (2 : Int).toNat (x7.size : Int).toNat))) fun y3 => rec2 y3) (bB (0 ≤ (1 : Int) ∧ (1 : Int) ≤ (x7.size : Int) ∧ (x7.size : Int) ≤ (x7.size : Int)) <| rec2 (x7.extract (1 : Int).toNat (x7.size : Int).toNat))) (jV p1 p2 r4 x7)
def cj (p1 : af) (p2 r4 : ByteArray) : Nat → ByteArray → Option (ac × ByteArray × Bool)
 | 0, _ => none
 | k2 + 1, x7 => ax (decide ((18 : Int) < (x7.size : Int))) (bB (0 ≤ (0 : Int) ∧ (0 : Int) < (x7.size : Int)) <| ax (((x7.data.toList.getD (0 : Int).toNat 0).toNat : Int) == 48) (dI (cj p1 p2 r4 k2) p1 p2 r4 x7 true) (bB (0 ≤ (0 : Int) ∧ (0 : Int) < (x7.size : Int)) <| ax (((x7.data.toList.getD (0 : Int).toNat 0).toNat : Int) == 45) (bB (0 ≤ (1 : Int) ∧ (1 : Int) < (x7.size : Int)) <| dI (cj p1 p2 r4 k2) p1 p2 r4 x7 (((x7.data.toList.getD (1 : Int).toNat 0).toNat : Int) == 48)) (dI (cj p1 p2 r4 k2) p1 p2 r4 x7 false))) (dI (cj p1 p2 r4 k2) p1 p2 r4 x7 false)
def sk (p1 : af) (p2 r4 x6 : ByteArray) : Option (ac × ByteArray × Bool) := cj p1 p2 r4 ba x6
def eb (p1 : af) (p2 r4 : ByteArray) : Nat → ByteArray → Int → Option (ac × ByteArray × Bool)
 | 0, _, _ => none
 | k1 + 1, x3, x4 => ax (decide (x4 < (r4.size : Int))) (bB (0 ≤ x4 ∧ x4 < (r4.size : Int)) <| ax (((r4.data.toList.getD x4.toNat 0).toNat : Int) != 46) (bB (0 ≤ x4 ∧ x4 ≤ (IntKind.i64.wrap (x4 + 1)) ∧ (IntKind.i64.wrap (x4 + 1)) ≤ (r4.size : Int)) <| bB (x3.size + (r4.extract x4.toNat (IntKind.i64.wrap (x4 + 1)).toNat).size ≤ 4611686018427387904) <| ay (some (x3 ++ (r4.extract x4.toNat (IntKind.i64.wrap (x4 + 1)).toNat))) fun y2 => mc (eb p1 p2 r4 k1) x4 y2) (mc (eb p1 p2 r4 k1) x4 x3)) (sk p1 p2 r4 x3)
def bN (p1 : af) (p2 : ByteArray) (x1 : Bool) : Option (ac × ByteArray × Bool) := ax x1 (bB (0 ≤ (4 : Int) ∧ (4 : Int) ≤ (p2.size : Int) ∧ (p2.size : Int) ≤ (p2.size : Int)) <| some ((ac.mk (0 : Int) (0 : Int) (0 : Int) ByteArray.empty []), (p2.extract (4 : Int).toNat (p2.size : Int).toNat), true)) (ax (p1.kind == 1) (ay (kD p2 (ByteArray.mk #[116, 114, 117, 101, 102, 97, 108, 115])) fun r1 => ax (r1.toList == (ByteArray.mk #[116, 114, 117, 101]).toList) (kg p2 r1 (1 : Int)) (kg p2 r1 (0 : Int))) (ax (p1.kind == 2) (ay (kD p2 (ByteArray.mk #[45, 48, 49, 50, 51, 52, 53, 54, 55, 56, 57])) fun r2 => ay (mr r2) fun r3 => bB (0 ≤ (r2.size : Int) ∧ (r2.size : Int) ≤ (p2.size : Int) ∧ (p2.size : Int) ≤ (p2.size : Int)) <| some ((ac.mk (2 : Int) r3.1 (0 : Int) ByteArray.empty []), (p2.extract (r2.size : Int).toNat (p2.size : Int).toNat), r3.2)) (ax (p1.kind == 3) (ay (kD p2 (ByteArray.mk #[45, 48, 49, 50, 51, 52, 53, 54, 55, 56, 57, 46])) fun r4 => eb p1 p2 r4 ba (ByteArray.mk #[]) (0 : Int)) (ax (p1.kind == 4) (ay (oB p2) fun r6 => some (r6.1, r6.2.1, r6.2.2)) (ax (p1.kind == 5) (ay (kD p2 (ByteArray.mk #[48, 49, 50, 51, 52, 53, 54, 55, 56, 57, 45, 84, 58, 90])) fun r7 => ax ((r7.size : Int) != 20) (some ((ac.mk (0 : Int) (0 : Int) (0 : Int) ByteArray.empty []), p2, false)) (bB (0 ≤ (0 : Int) ∧ (0 : Int) ≤ (4 : Int) ∧ (4 : Int) ≤ (r7.size : Int)) <| ay (fo (r7.extract (0 : Int).toNat (4 : Int).toNat)) fun r8 => ax (!r8.2) (some ((ac.mk (0 : Int) (0 : Int) (0 : Int) ByteArray.empty []), p2, false)) (bB (0 ≤ (5 : Int) ∧ (5 : Int) ≤ (7 : Int) ∧ (7 : Int) ≤ (r7.size : Int)) <| ay (fo (r7.extract (5 : Int).toNat (7 : Int).toNat)) fun r9 => ax (!r9.2) (some ((ac.mk (0 : Int) (0 : Int) (0 : Int) ByteArray.empty []), p2, false)) (bB (0 ≤ (8 : Int) ∧ (8 : Int) ≤ (10 : Int) ∧ (10 : Int) ≤ (r7.size : Int)) <| ay (fo (r7.extract (8 : Int).toNat (10 : Int).toNat)) fun r10 => ax (!r10.2) (some ((ac.mk (0 : Int) (0 : Int) (0 : Int) ByteArray.empty []), p2, false)) (bB (0 ≤ (11 : Int) ∧ (11 : Int) ≤ (13 : Int) ∧ (13 : Int) ≤ (r7.size : Int)) <| ay (fo (r7.extract (11 : Int).toNat (13 : Int).toNat)) fun r11 => ax (!r11.2) (some ((ac.mk (0 : Int) (0 : Int) (0 : Int) ByteArray.empty []), p2, false)) (bB (0 ≤ (14 : Int) ∧ (14 : Int) ≤ (16 : Int) ∧ (16 : Int) ≤ (r7.size : Int)) <| ay (fo (r7.extract (14 : Int).toNat (16 : Int).toNat)) fun r12 => ax (!r12.2) (some ((ac.mk (0 : Int) (0 : Int) (0 : Int) ByteArray.empty []), p2, false)) (bB (0 ≤ (17 : Int) ∧ (17 : Int) ≤ (19 : Int) ∧ (19 : Int) ≤ (r7.size : Int)) <| ay (fo (r7.extract (17 : Int).toNat (19 : Int).toNat)) fun r13 => ax (!r13.2) (some ((ac.mk (0 : Int) (0 : Int) (0 : Int) ByteArray.empty []), p2, false)) (ay (nv (dz.mk r8.1 r9.1 r10.1 r11.1 r12.1 r13.1)) fun r14 => ax (!r14) (some ((ac.mk (0 : Int) (0 : Int) (0 : Int) ByteArray.empty []), p2, false)) (ay (nk (dz.mk r8.1 r9.1 r10.1 r11.1 r12.1 r13.1)) fun r15 => bB (0 ≤ (20 : Int) ∧ (20 : Int) ≤ (p2.size : Int) ∧ (p2.size : Int) ≤ (p2.size : Int)) <| some ((ac.mk (5 : Int) r15 (0 : Int) ByteArray.empty []), (p2.extract (20 : Int).toNat (p2.size : Int).toNat), true)))))))))) (some ((ac.mk (0 : Int) (0 : Int) (0 : Int) ByteArray.empty []), p2, false)))))))
def lK (p1 : af) (p2 : ByteArray) : Option (ac × ByteArray × Bool) := ax (decide ((4 : Int) ≤ (p2.size : Int))) (bB (0 ≤ (0 : Int) ∧ (0 : Int) ≤ (4 : Int) ∧ (4 : Int) ≤ (p2.size : Int)) <| ay (some ((p2.extract (0 : Int).toNat (4 : Int).toNat).toList == (ByteArray.mk #[110, 117, 108, 108]).toList)) fun y1 => bN p1 p2 y1) (bN p1 p2 false)
abbrev xW : St := [.box gz, .dead]
theorem AG (p1 : af) (p2 : ByteArray) : CT Tryz.prog 47 [.ag [ci p1.kind, ci p1.scale, cl au p1.fields], vs p2] (lK p1 p2) (fun r => .tp [.ag [ci r.1.kind, ci r.1.n, ci r.1.scale, eG r.1.s, cl ak r.1.items], vs r.2.1, vb r.2.2]) :=
  eB 199 [4, 7, 19, 20, 21, 25] Tryz.f47 fun r => (uQ (kS Tryz.f47 [1,1,0,0] 2) fun K4 hK4 => have hJ1 : ∀ (x1 : Bool), bN p1 p2 x1 = some r → K4.p [(1, vs p2), (2, .one (.pv (.rp [(bL p1)] 0 0))), (4, .one (.pt 0 0 0 0)), (7, .one (.pt 1 0 0 0)), (34, vb x1)] [.box gz, .box gz] := fun x1 h => hK4 h (uC (yc 4 0 [2] (uG (uR .ret xF))) (uC (uP (mD _ _) fun r1 _ => (uQ (kS Tryz.f47 [1,1,1,0,1,0,1,0,1,1,0] 3) fun K18 hK18 => have hJ2 : ∀ (x2 : Int), kg p2 r1 x2 = some r → K18.p [(1, vs p2), (4, .one (.pt 0 0 0 0)), (8, vs r1), (9, vi x2)] xW := fun x2 h => hK18 h (yc 7 0 [2] (uG (uR .ret xF))); (uC (uJ (hJ2 (1 : Int))) (uJ (hJ2 (0 : Int)))))) (uC (uP (mD _ _) fun r2 _ => (uP (sC _) fun r3 _ => (yc 9 0 [2] (uG (uR .ret xF))))) (uC (uP (mD _ _) fun r4 _ => (uQ (kS Tryz.f47 [1,1,1,0,1,0,1,1,1,1,1,0,1,1,0] 3) fun K36 hK36 => have hJ4 : ∀ (x6 : ByteArray), sk p1 p2 r4 x6 = some r → K36.p [(1, vs p2), (2, .one (.pv (.rp [(bL p1)] 0 0))), (4, .one (.pt 0 0 0 0)), (13, vs r4), (14, vs x6)] xW := fun x6 h => hK36 h (uQ (kS Tryz.f47 [1,1,1,0,1,0,1,1,1,1,1,0,1,1,1,0] 3) fun K48 hK48 => have hJ6 : ∀ (x9 : ByteArray), jV p1 p2 r4 x9 = some r → K48.p [(1, vs p2), (2, .one (.pv (.rp [(bL p1)] 0 0))), (4, .one (.pt 0 0 0 0)), (13, vs r4), (14, vs x9)] xW := fun x9 h => hK48 h (uP (sC _) fun r5 _ => (yc 11 0 [2] (uG (uR .ret xF)))); (uO (cd Tryz.f47 [1,1,1,0,1,0,1,1,1,1,1,0,1,1,1,0,0,0]) (kS Tryz.f47 [1,1,1,0,1,0,1,1,1,1,1,0,1,1,1,0,0] 1) fun R2 b2 => have hL2 : ∀ (k2 : Nat) (x7 : ByteArray), cj p1 p2 r4 k2 x7 = some r → (R2 k2).p [(1, vs p2), (2, .one (.pv (.rp [(bL p1)] 0 0))), (4, .one (.pt 0 0 0 0)), (13, vs r4), (14, vs x7)] xW := by intro k2; induction k2 with | zero => intro x7 h; exact lU (cj.eq_1 ..) h | succ k2 ih2 => intro x7 h; exact b2 h (uU (cj.eq_2 ..) (uQ (kS Tryz.f47 [1,1,1,0,1,0,1,1,1,1,1,0,1,1,1,0,0,0,0,0] 2) fun K50 hK50 => have hJ5 : ∀ (x8 : Bool), dI (cj p1 p2 r4 k2) p1 p2 r4 x7 x8 = some r → K50.p [(1, vs p2), (2, .one (.pv (.rp [(bL p1)] 0 0))), (4, .one (.pt 0 0 0 0)), (13, vs r4), (14, vs x7), (106, vb x8)] xW := fun x8 h => hK50 h (uC (uG (uC (uG (wN 112 vs fun y3 => (uJ (ih2 y3)))) (uG (uJ (ih2 (x7.extract (1 : Int).toNat (x7.size : Int).toNat)))))) (uR (.exit 3) (xM (uJ (hJ6 x7))))); (uC (uG (uC (uJ (hJ5 true)) (uG (uC (uG (uJ (hJ5 (((x7.data.toList.getD (1 : Int).toNat 0).toNat : Int) == 48)))) (uJ (hJ5 false)))))) (uJ (hJ5 false)))))
 uE (hL2 ba x6))); (uO (cd Tryz.f47 [1,1,1,0,1,0,1,1,1,1,1,0,1,1,0,1,0,0]) (kS Tryz.f47 [1,1,1,0,1,0,1,1,1,1,1,0,1,1,0,1,0] 1) fun R1 b1 => have hL1 : ∀ (k1 : Nat) (x3 : ByteArray) (x4 : Int), eb p1 p2 r4 k1 x3 x4 = some r → (R1 k1).p [(1, vs p2), (2, .one (.pv (.rp [(bL p1)] 0 0))), (4, .one (.pt 0 0 0 0)), (13, vs r4), (14, vs x3), (15, vi x4)] xW := by intro k1; induction k1 with | zero => intro x3 x4 h; exact lU (eb.eq_1 ..) h | succ k1 ih1 => intro x3 x4 h; exact b1 h (uU (eb.eq_2 ..) (uC (uQ (kS Tryz.f47 [1,1,1,0,1,0,1,1,1,1,1,0,1,1,0,1,0,0,1,0] 1) fun K41 hK41 => have hJ3 : ∀ (x5 : ByteArray), mc (eb p1 p2 r4 k1) x4 x5 = some r → K41.p [(1, vs p2), (2, .one (.pv (.rp [(bL p1)] 0 0))), (4, .one (.pt 0 0 0 0)), (13, vs r4), (14, vs x5), (15, vi x4)] xW := fun x5 h => hK41 h (uJ (ih1 x5 (IntKind.i64.wrap (x4 + 1)))); (uG (uC (uG (wN 88 vs fun y2 => (uJ (hJ3 y2)))) (uJ (hJ3 x3))))) (uR (.exit 1) (xM (uJ (hJ4 x3))))))
 uE (hL1 ba (ByteArray.mk #[]) (0 : Int))))) (uC (uP (ym _) fun r6 _ => (uR .ret xF)) (uC (uP (mD _ _) fun r7 _ => (uC (uR .ret xF) (KO 6 (nr 17 (uG (uP (f6 _) fun r8 _ => (uC (uR .ret xF) (nr 17 (uG (uP (f6 _) fun r9 _ => (uC (uR .ret xF) (nr 17 (uG (uP (f6 _) fun r10 _ => (uC (uR .ret xF) (nr 17 (uG (uP (f6 _) fun r11 _ => (uC (uR .ret xF) (nr 17 (uG (uP (f6 _) fun r12 _ => (uC (uR .ret xF) (nr 17 (uG (uP (f6 _) fun r13 _ => (uC (uR .ret xF) (uP (wJ _) fun r14 _ => (uC (uR .ret xF) (yc 6 0 [6] (uP (wX _) fun r15 _ => (uG (uR .ret xF))))))))))))))))))))))))))))))))) (uR .ret xF))))))); (uC (uG (uY 33 vb fun y1 => (uJ (hJ1 y1)))) (uJ (hJ1 false))))
def iz (rec1 : List ac → ByteArray → Int → Option (ac × ByteArray × Bool)) (q_ref1_read : af → ByteArray → Option (ac × ByteArray × Bool)) (p1 : af) (p2 : ByteArray) (l1 : List ac) (x3 : Int) (x5 : ByteArray) (x6 : Int) : Option (ac × ByteArray × Bool) := ax (decide ((p1.fields.length : Int) ≤ x6)) (some ((ac.mk p1.kind (0 : Int) (0 : Int) ByteArray.empty l1), p2, false)) (ay (at? p1.fields x6) fun e1 => ay (q_ref1_read e1.type x5) fun r3 => ax (!r3.2.2) (some ((ac.mk p1.kind (0 : Int) (0 : Int) ByteArray.empty l1), p2, false)) (bB (l1.length + 1 ≤ 4294967296) <| rec1 (l1 ++ [r3.1]) r3.2.1 (IntKind.i64.wrap (x3 + 1))))
def iK (rec1 : List ac → ByteArray → Int → Option (ac × ByteArray × Bool)) (q_ref1_read : af → ByteArray → Option (ac × ByteArray × Bool)) (p1 : af) (p2 : ByteArray) (l1 : List ac) (x3 : Int) (x5 : ByteArray) : Option (ac × ByteArray × Bool) := ax (p1.kind == 7) (iz rec1 q_ref1_read p1 p2 l1 x3 x5 x3) (iz rec1 q_ref1_read p1 p2 l1 x3 x5 (0 : Int))
def ej (rec1 : List ac → ByteArray → Int → Option (ac × ByteArray × Bool)) (q_ref1_read : af → ByteArray → Option (ac × ByteArray × Bool)) (p1 : af) (p2 : ByteArray) (l1 : List ac) (x2 : ByteArray) (x3 : Int) (x4 : Bool) : Option (ac × ByteArray × Bool) := ax x4 (bB (0 ≤ (1 : Int) ∧ (1 : Int) ≤ (x2.size : Int) ∧ (x2.size : Int) ≤ (x2.size : Int)) <| some ((ac.mk p1.kind (0 : Int) (0 : Int) ByteArray.empty l1), (x2.extract (1 : Int).toNat (x2.size : Int).toNat), true)) (ax (decide ((0 : Int) < x3)) (ax (decide ((x2.size : Int) < (2 : Int))) (some ((ac.mk p1.kind (0 : Int) (0 : Int) ByteArray.empty l1), p2, false)) (bB (0 ≤ (2 : Int) ∧ (2 : Int) ≤ (x2.size : Int) ∧ (x2.size : Int) ≤ (x2.size : Int)) <| iK rec1 q_ref1_read p1 p2 l1 x3 (x2.extract (2 : Int).toNat (x2.size : Int).toNat))) (iK rec1 q_ref1_read p1 p2 l1 x3 x2))
def uf (p1 : af) (p2 : ByteArray) (l2 : List ac) : Option (ac × ByteArray × Bool) := some ((ac.mk p1.kind (0 : Int) (0 : Int) ByteArray.empty l2), p2, false)
def bj (q_ref1_read : af → ByteArray → Option (ac × ByteArray × Bool)) (p1 : af) (p2 : ByteArray) : Nat → List ac → ByteArray → Int → Option (ac × ByteArray × Bool)
 | 0, _, _, _ => none
 | k1 + 1, l1, x2, x3 => ax (decide (x3 ≤ (256 : Int))) (ax (decide ((0 : Int) < (x2.size : Int))) (bB (0 ≤ (0 : Int) ∧ (0 : Int) < (x2.size : Int)) <| ax (((x2.data.toList.getD (0 : Int).toNat 0).toNat : Int) == 93) (ej (bj q_ref1_read p1 p2 k1) q_ref1_read p1 p2 l1 x2 x3 true) (bB (0 ≤ (0 : Int) ∧ (0 : Int) < (x2.size : Int)) <| ej (bj q_ref1_read p1 p2 k1) q_ref1_read p1 p2 l1 x2 x3 (((x2.data.toList.getD (0 : Int).toNat 0).toNat : Int) == 41))) (ej (bj q_ref1_read p1 p2 k1) q_ref1_read p1 p2 l1 x2 x3 false)) (uf p1 p2 l1)
def fL (q_ref1_read : af → ByteArray → Option (ac × ByteArray × Bool)) (p1 : af) (p2 : ByteArray) (x1 : Bool) : Option (ac × ByteArray × Bool) := ax x1 (bB (0 ≤ (4 : Int) ∧ (4 : Int) ≤ (p2.size : Int) ∧ (p2.size : Int) ≤ (p2.size : Int)) <| some ((ac.mk (0 : Int) (0 : Int) (0 : Int) ByteArray.empty []), (p2.extract (4 : Int).toNat (p2.size : Int).toNat), true)) (ax (decide ((p2.size : Int) < (2 : Int))) (some ((ac.mk (0 : Int) (0 : Int) (0 : Int) ByteArray.empty []), p2, false)) (bB (0 ≤ (1 : Int) ∧ (1 : Int) ≤ (p2.size : Int) ∧ (p2.size : Int) ≤ (p2.size : Int)) <| bj q_ref1_read p1 p2 ba [] (p2.extract (1 : Int).toNat (p2.size : Int).toNat) (0 : Int)))
def bZ : Nat → af → ByteArray → Option (ac × ByteArray × Bool)
 | 0, _, _ => none
 | k0 + 1, p1, p2 => ay (eR p1.kind) fun r1 => ax r1 (ay (lK p1 p2) fun r2 => some (r2.1, r2.2.1, r2.2.2)) (ax (decide ((4 : Int) ≤ (p2.size : Int))) (bB (0 ≤ (0 : Int) ∧ (0 : Int) ≤ (4 : Int) ∧ (4 : Int) ≤ (p2.size : Int)) <| ay (some ((p2.extract (0 : Int).toNat (4 : Int).toNat).toList == (ByteArray.mk #[110, 117, 108, 108]).toList)) fun y1 => fL (bZ k0) p1 p2 y1) (fL (bZ k0) p1 p2 false))
abbrev LD (p1 : af) (l1 : List ac) : List CV := [ci p1.kind, ci (0 : Int), ci (0 : Int), eG ByteArray.empty, .sl 2 5 0 l1.length]
abbrev Et (p1 : af) (l1 : List ac) : St := [.box gz, .box (LD p1 l1), .arr 5 (ak.els l1)]
theorem wh : ∀ (k0 : Nat) (p1 : af) (p2 : ByteArray), CT Tryz.prog 23 [.ag [ci p1.kind, ci p1.scale, cl au p1.fields], vs p2] (bZ k0 p1 p2) (fun r => .tp [.ag [ci r.1.kind, ci r.1.n, ci r.1.scale, eG r.1.s, cl ak r.1.items], vs r.2.1, vb r.2.2])
  | 0, _, _ => wv (bZ.eq_1 ..)
  | k0 + 1, p1, p2 => eB 109 [4, 7, 11] Tryz.f23 fun r => (uU (bZ.eq_2 ..) (uP (fZ _) fun r1 _ => (uC (uP (AG _ _) fun r2 _ => (uR .ret xF)) (uQ (kS Tryz.f23 [1,1,0,0] 2) fun K9 hK9 => have hJ1 : ∀ (x1 : Bool), fL (bZ k0) p1 p2 x1 = some r → K9.p [(1, vs p2), (2, .one (.pv (.rp [(bL p1)] 0 0))), (4, .one (.pt 0 0 0 0)), (30, vb x1)] [.box gz] := fun x1 h => hK9 h (uC (yc 4 0 [1] (uG (uR .ret xF))) (uC (uR .ret xF) (uG (uQ (kS Tryz.f23 [1,1,1,1,1,1,0] 1) fun K23 hK23 => have hJ5 : ∀ (l2 : List ac), uf p1 p2 l2 = some r → K23.p [(1, vs p2), (4, .one (.pt 0 0 0 0)), (7, .one (.pt 1 0 0 0))] [.box gz, .box [ci p1.kind, ci (0 : Int), ci (0 : Int), eG ByteArray.empty, .sl 2 5 0 l2.length], .arr 5 (ak.els l2)] := fun l2 h => hK23 h (CW ak l2 2 [] (uR .ret xF)); (Fh (.lb 1 4 5) (uO (cd Tryz.f23 [1,1,1,1,1,1,0,1,0,0]) (kS Tryz.f23 [1,1,1,1,1,1,0,1,0] 1) fun R1 b1 => have hL1 : ∀ (k1 : Nat) (l1 : List ac) (x2 : ByteArray) (x3 : Int), bj (bZ k0) p1 p2 k1 l1 x2 x3 = some r → (R1 k1).p [(1, vs p2), (2, .one (.pv (.rp [(bL p1)] 0 0))), (4, .one (.pt 0 0 0 0)), (7, .one (.pt 1 0 0 0)), (8, vs x2), (9, vi x3)] (Et p1 l1) := by intro k1; induction k1 with | zero => intro l1 x2 x3 h; exact lU (bj.eq_1 ..) h | succ k1 ih1 => intro l1 x2 x3 h; exact b1 h (uU (bj.eq_2 ..) (uC (uQ (kS Tryz.f23 [1,1,1,1,1,1,0,1,0,0,1,0,0,0,0] 4) fun K30 hK30 => have hJ2 : ∀ (x4 : Bool), ej (bj (bZ k0) p1 p2 k1) (bZ k0) p1 p2 l1 x2 x3 x4 = some r → K30.p [(1, vs p2), (2, .one (.pv (.rp [(bL p1)] 0 0))), (4, .one (.pt 0 0 0 0)), (7, .one (.pt 1 0 0 0)), (8, vs x2), (9, vi x3), (60, vb x4)] (Et p1 l1) := fun x4 h => hK30 h (uC (yc 4 0 [3] (uG (CW ak l1 2 [] (uR .ret (xN (xN xF)))))) (uQ (kS Tryz.f23 [1,1,1,1,1,1,0,1,0,0,1,0,0,1,0] 3) fun K38 hK38 => have hJ3 : ∀ (x5 : ByteArray), iK (bj (bZ k0) p1 p2 k1) (bZ k0) p1 p2 l1 x3 x5 = some r → K38.p [(1, vs p2), (2, .one (.pv (.rp [(bL p1)] 0 0))), (4, .one (.pt 0 0 0 0)), (7, .one (.pt 1 0 0 0)), (8, vs x5), (9, vi x3)] (Et p1 l1) := fun x5 h => hK38 h (uQ (kS Tryz.f23 [1,1,1,1,1,1,0,1,0,0,1,0,0,1,1,1,0] 3) fun K47 hK47 => have hJ4 : ∀ (x6 : Int), iz (bj (bZ k0) p1 p2 k1) (bZ k0) p1 p2 l1 x3 x5 x6 = some r → K47.p [(1, vs p2), (2, .one (.pv (.rp [(bL p1)] 0 0))), (4, .one (.pt 0 0 0 0)), (7, .one (.pt 1 0 0 0)), (8, vs x5), (9, vi x3), (10, vi x6)] (Et p1 l1) := fun x6 h => hK47 h (uN au p1.fields (uC (CW ak l1 2 [] (uR .ret (xN (xN xF)))) (uL au fun e1 a55 => (uP (wh k0 _ _) fun r3 _ => (uC (CW ak l1 2 [] (uR .ret (xN (xN xF)))) (uW 103 ak [r3.1] (Fh (.stl 1 4) (Cx ak 2 [r3.1] (uJ (ih1 (l1 ++ [r3.1]) r3.2.1 (IntKind.i64.wrap (x3 + 1)))))))))))); (uC (uJ (hJ4 x3)) (uJ (hJ4 (0 : Int))))); (uC (uC (CW ak l1 2 [] (uR .ret (xN (xN (xN xF))))) (uG (uJ (hJ3 (x2.extract (2 : Int).toNat (x2.size : Int).toNat))))) (uJ (hJ3 x2))))); (uC (uG (uC (uJ (hJ2 true)) (uG (uJ (hJ2 (((x2.data.toList.getD (0 : Int).toNat 0).toNat : Int) == 41)))))) (uJ (hJ2 false)))) (uR (.exit 0) (xM (uJ (hJ5 l1))))))
 uE (hL1 ba [] (p2.extract (1 : Int).toNat (p2.size : Int).toNat) (0 : Int)))))))); (uC (uG (uY 29 vb fun y1 => (uJ (hJ1 y1)))) (uJ (hJ1 false)))))))
def ix (rec1 : Int → Option Bool) (x2 : Int) (x3 : Bool) : Option Bool := ax x3 (some false) (rec1 (IntKind.i64.wrap (x2 + 1)))
def kA : Option Bool := some true
def cL (p1 : ByteArray) : Nat → Int → Option Bool
 | 0, _ => none
 | k1 + 1, x2 => ax (decide (x2 < (p1.size : Int))) (bB (0 ≤ x2 ∧ x2 < (p1.size : Int)) <| ay (some (decide (((p1.data.toList.getD x2.toNat 0).toNat : Int) < (32 : Int)))) fun y1 => ax y1 (ix (cL p1 k1) x2 true) (bB (0 ≤ x2 ∧ x2 < (p1.size : Int)) <| ix (cL p1 k1) x2 (((p1.data.toList.getD x2.toNat 0).toNat : Int) == 127))) (kA)
def iG (p1 : ByteArray) (x1 : Bool) : Option Bool := ax x1 (some false) (cL p1 ba (0 : Int))
def ko (p1 : ByteArray) : Option Bool := ay (utf8_ValidString p1) fun r1 => ax (!r1) (iG p1 true) (iG p1 (decide ((256 : Int) < (p1.size : Int))))
theorem ue (p1 : ByteArray) : CT Tryz.prog 138 [vs p1] (ko p1) vb :=
  eB 28 [] Tryz.f138 fun r => (uQ (kS Tryz.f138 [1,0,0] 2) fun K3 hK3 => have hJ1 : ∀ (x1 : Bool), iG p1 x1 = some r → K3.p [(0, vs p1), (11, vb x1)] [] := fun x1 h => hK3 h (uC (uR .ret xF) (uQ (kS Tryz.f138 [1,1,0] 1) fun K8 hK8 => have hJ3 : ∀ (_ : Unit), kA = some r → K8.p [] [] := fun _ h => hK8 h (uR .ret xF); (uO (cd Tryz.f138 [1,1,0,1,0,0]) (kS Tryz.f138 [1,1,0,1,0] 1) fun R1 b1 => have hL1 : ∀ (k1 : Nat) (x2 : Int), cL p1 k1 x2 = some r → (R1 k1).p [(0, vs p1), (3, vi x2)] [] := by intro k1; induction k1 with | zero => intro x2 h; exact lU (cL.eq_1 ..) h | succ k1 ih1 => intro x2 h; exact b1 h (uU (cL.eq_2 ..) (uC (uQ (kS Tryz.f138 [1,1,0,1,0,0,1,0,0,0] 3) fun K14 hK14 => have hJ2 : ∀ (x3 : Bool), ix (cL p1 k1) x2 x3 = some r → K14.p [(0, vs p1), (3, vi x2), (27, vb x3)] [] := fun x3 h => hK14 h (uC (uR .ret (xN (xN xF))) (uJ (ih1 (IntKind.i64.wrap (x2 + 1))))); (uG (uY 21 vb fun y1 => (uC (uJ (hJ2 true)) (uG (uJ (hJ2 (((p1.data.toList.getD x2.toNat 0).toNat : Int) == 127)))))))) (uR (.exit 0) (xM (uJ (hJ3 ()))))))
 uE (hL1 ba (0 : Int))))); (uP (oc _) fun r1 _ => (uC (uJ (hJ1 true)) (uJ (hJ1 (decide ((256 : Int) < (p1.size : Int))))))))
def j0 (x2 : Bool) : Option Bool := some x2
def kh (x3 : Bool) : Option Bool := some x3
def j8 (x4 : Bool) : Option Bool := some x4
def kj (x5 : Bool) : Option Bool := some x5
def iT (x6 : Bool) : Option Bool := some x6
def jW (x7 : Bool) : Option Bool := some x7
def iU (x8 : Bool) : Option Bool := some x8
def iV (x9 : Bool) : Option Bool := some x9
def j6 (p1 : ac) (x1 : Bool) : Option Bool := ax (p1.kind == 0) (ax x1 (ax (p1.n == 0) (j0 (p1.scale == 0)) (j0 false)) (j0 false)) (ax (p1.kind == 1) (ax x1 (ay (cq p1.n (0 : Int) (1 : Int)) fun r1 => ax r1 (kh (p1.scale == 0)) (kh false)) (kh false)) (ax (p1.kind == 2) (ax x1 (ay (cq p1.n (-999999999999999999 : Int) (999999999999999999 : Int)) fun r2 => ax r2 (j8 (p1.scale == 0)) (j8 false)) (j8 false)) (ax (p1.kind == 3) (ax x1 (ay (cq p1.n (-999999999999999999 : Int) (999999999999999999 : Int)) fun r3 => ax r3 (ay (cq p1.scale (0 : Int) (12 : Int)) fun r4 => kj r4) (kj false)) (kj false)) (ax (p1.kind == 4) (ax ((p1.items.length : Int) == 0) (ax (p1.n == 0) (ax (p1.scale == 0) (ay (ko p1.s) fun r5 => iT r5) (iT false)) (iT false)) (iT false)) (ax (p1.kind == 5) (ax x1 (ay (cq p1.n (-62135596800 : Int) (253402300799 : Int)) fun r6 => ax r6 (jW (p1.scale == 0)) (jW false)) (jW false)) (ax (p1.kind == 6) (ax (p1.s.toList == (ByteArray.mk #[]).toList) (ax (p1.n == 0) (ax (p1.scale == 0) (iU (decide ((p1.items.length : Int) ≤ (64 : Int)))) (iU false)) (iU false)) (iU false)) (ax (p1.kind == 7) (ax (p1.s.toList == (ByteArray.mk #[]).toList) (ax (p1.n == 0) (ax (p1.scale == 0) (iV (decide ((0 : Int) < (p1.items.length : Int)))) (iV false)) (iV false)) (iV false)) (some false))))))))
def pY (p1 : ac) : Option Bool := ax (p1.s.toList == (ByteArray.mk #[]).toList) (j6 p1 ((p1.items.length : Int) == 0)) (j6 p1 false)
theorem Ar (p1 : ac) : CT Tryz.prog 99 [.ag [ci p1.kind, ci p1.n, ci p1.scale, eG p1.s, cl ak p1.items]] (pY p1) vb :=
  eB 143 [] Tryz.f99 fun r => (uQ (kS Tryz.f99 [1,0] 1) fun K2 hK2 => have hJ1 : ∀ (x1 : Bool), j6 p1 x1 = some r → K2.p [(1, .one (.pv (.rp [[pi p1.kind, pi p1.n, pi p1.scale, .s (.string p1.s), .ro (ak.els p1.items)]] 0 0))), (3, vb x1)] [] := fun x1 h => hK2 h (uC (uQ (kS Tryz.f99 [1,1,0,1,0,1,0,0] 3) fun K8 hK8 => have hJ2 : ∀ (x2 : Bool), j0 x2 = some r → K8.p [(2, vb x2)] [] := fun x2 h => hK8 h (uR .ret xF); (uC (uC (uJ (hJ2 (p1.scale == 0))) (uJ (hJ2 false))) (uJ (hJ2 false)))) (uC (uQ (kS Tryz.f99 [1,1,0,1,0,1,1,1,0,0] 3) fun K13 hK13 => have hJ3 : ∀ (x3 : Bool), kh x3 = some r → K13.p [(2, vb x3)] [] := fun x3 h => hK13 h (uR .ret xF); (uC (uP (cS _ _ _) fun r1 _ => (uC (uJ (hJ3 (p1.scale == 0))) (uJ (hJ3 false)))) (uJ (hJ3 false)))) (uC (uQ (kS Tryz.f99 [1,1,0,1,0,1,1,1,1,1,0,0] 3) fun K19 hK19 => have hJ4 : ∀ (x4 : Bool), j8 x4 = some r → K19.p [(2, vb x4)] [] := fun x4 h => hK19 h (uR .ret xF); (uC (uP (cS _ _ _) fun r2 _ => (uC (uJ (hJ4 (p1.scale == 0))) (uJ (hJ4 false)))) (uJ (hJ4 false)))) (uC (uQ (kS Tryz.f99 [1,1,0,1,0,1,1,1,1,1,1,1,0,0] 3) fun K25 hK25 => have hJ5 : ∀ (x5 : Bool), kj x5 = some r → K25.p [(2, vb x5)] [] := fun x5 h => hK25 h (uR .ret xF); (uC (uP (cS _ _ _) fun r3 _ => (uC (uP (cS _ _ _) fun r4 _ => (uJ (hJ5 r4))) (uJ (hJ5 false)))) (uJ (hJ5 false)))) (uC (uQ (kS Tryz.f99 [1,1,0,1,0,1,1,1,1,1,1,1,1,1,0,0] 3) fun K32 hK32 => have hJ6 : ∀ (x6 : Bool), iT x6 = some r → K32.p [(2, vb x6)] [] := fun x6 h => hK32 h (uR .ret xF); (uN ak p1.items (uC (uC (uC (uP (ue _) fun r5 _ => (uJ (hJ6 r5))) (uJ (hJ6 false))) (uJ (hJ6 false))) (uJ (hJ6 false))))) (uC (uQ (kS Tryz.f99 [1,1,0,1,0,1,1,1,1,1,1,1,1,1,1,1,0,0] 3) fun K39 hK39 => have hJ7 : ∀ (x7 : Bool), jW x7 = some r → K39.p [(2, vb x7)] [] := fun x7 h => hK39 h (uR .ret xF); (uC (uP (cS _ _ _) fun r6 _ => (uC (uJ (hJ7 (p1.scale == 0))) (uJ (hJ7 false)))) (uJ (hJ7 false)))) (uC (uQ (kS Tryz.f99 [1,1,0,1,0,1,1,1,1,1,1,1,1,1,1,1,1,1,0,0] 3) fun K45 hK45 => have hJ8 : ∀ (x8 : Bool), iU x8 = some r → K45.p [(2, vb x8)] [] := fun x8 h => hK45 h (uR .ret xF); (uC (uC (uC (uN ak p1.items (uJ (hJ8 (decide ((p1.items.length : Int) ≤ (64 : Int)))))) (uJ (hJ8 false))) (uJ (hJ8 false))) (uJ (hJ8 false)))) (uC (uQ (kS Tryz.f99 [1,1,0,1,0,1,1,1,1,1,1,1,1,1,1,1,1,1,1,1,0,0] 3) fun K51 hK51 => have hJ9 : ∀ (x9 : Bool), iV x9 = some r → K51.p [(2, vb x9)] [] := fun x9 h => hK51 h (uR .ret xF); (uC (uC (uC (uN ak p1.items (uJ (hJ9 (decide ((0 : Int) < (p1.items.length : Int)))))) (uJ (hJ9 false))) (uJ (hJ9 false))) (uJ (hJ9 false)))) (uR .ret xF))))))))); (uC (uN ak p1.items (uJ (hJ1 ((p1.items.length : Int) == 0)))) (uJ (hJ1 false))))
def oK (z3 : Int) : Option (Bool × Int) := some (true, z3)
def gR (q_ref1_sound : ac → Int → Int → Option (Bool × Int)) (p1 : ac) (p2 : Int) : Nat → Int → Int → Option (Bool × Int)
 | 0, _, _ => none
 | k1 + 1, z2, x2 => ax (decide (x2 < (p1.items.length : Int))) (ay (at? p1.items x2) fun e1 => ay (q_ref1_sound e1 (IntKind.i64.wrap (p2 + 1)) z2) fun r2 => ax (!r2.1) (some (false, r2.2)) ((gR q_ref1_sound p1 p2 k1) r2.2 (IntKind.i64.wrap (x2 + 1)))) (oK z2)
def iQ (q_ref1_sound : ac → Int → Int → Option (Bool × Int)) (p1 : ac) (p2 z1 : Int) (x1 : Bool) : Option (Bool × Int) := ax x1 (some (false, z1)) (gR q_ref1_sound p1 p2 ba z1 (0 : Int))
def jY (q_ref1_sound : ac → Int → Int → Option (Bool × Int)) (p1 : ac) (p2 z1 : Int) : Option (Bool × Int) := ax (decide ((4 : Int) < p2)) (iQ q_ref1_sound p1 p2 z1 true) (ax (decide ((256 : Int) < z1)) (iQ q_ref1_sound p1 p2 z1 true) (ay (pY p1) fun r1 => iQ q_ref1_sound p1 p2 z1 (!r1)))
def eO : Nat → ac → Int → Int → Option (Bool × Int)
 | 0, _, _, _ => none
 | k0 + 1, p1, p2, p3 => ax (p1.kind != 0) (jY (eO k0) p1 p2 (IntKind.i64.wrap (p3 + 1))) (jY (eO k0) p1 p2 p3)
abbrev gv (p1 : ac) : List PV := [pi p1.kind, pi p1.n, pi p1.scale, .s (.string p1.s), .ro (ak.els p1.items)]
theorem tg : ∀ (k0 : Nat) (p1 : ac) (p2 p3 : Int), CM Tryz.prog 55 [.ag [ci p1.kind, ci p1.n, ci p1.scale, eG p1.s, cl ak p1.items], vi p2, .one (.pt 0 0 0 0)] [.box [ci p3]] (eO k0 p1 p2 p3) (fun r => vb r.1) (fun r => [.box [ci r.2]])
  | 0, _, _, _ => Ip (eO.eq_1 ..)
  | k0 + 1, p1, p2, p3 => qE 1 46 [] Tryz.f55 fun r => (uU (eO.eq_2 ..) (uQ (kS Tryz.f55 [1,0] 1) fun K2 hK2 => have hJ1 : ∀ (z1 : Int), jY (eO k0) p1 p2 z1 = some r → K2.p [(1, vi p2), (2, .one (.pt 0 0 0 0)), (3, .one (.pv (.rp [(gv p1)] 0 0)))] [.box [ci z1]] := fun z1 h => hK2 h (uQ (kS Tryz.f55 [1,1,0,0] 2) fun K6 hK6 => have hJ2 : ∀ (x1 : Bool), iQ (eO k0) p1 p2 z1 x1 = some r → K6.p [(1, vi p2), (2, .one (.pt 0 0 0 0)), (3, .one (.pv (.rp [(gv p1)] 0 0))), (28, vb x1)] [.box [ci z1]] := fun x1 h => hK6 h (uC (uR .ret sd) (uQ (kS Tryz.f55 [1,1,1,0] 1) fun K12 hK12 => have hJ3 : ∀ (z3 : Int), oK z3 = some r → K12.p [] [.box [ci z3]] := fun z3 h => hK12 h (uR .ret sd); (uN ak p1.items (uO (cd Tryz.f55 [1,1,1,0,1,0,0]) (kS Tryz.f55 [1,1,1,0,1,0] 1) fun R1 b1 => have hL1 : ∀ (k1 : Nat) (z2 x2 : Int), gR (eO k0) p1 p2 k1 z2 x2 = some r → (R1 k1).p [(1, vi p2), (2, .one (.pt 0 0 0 0)), (3, .one (.pv (.rp [(gv p1)] 0 0))), (31, vi (p1.items.length : Int)), (32, vi x2)] [.box [ci z2]] := by intro k1; induction k1 with | zero => intro z2 x2 h; exact lU (gR.eq_1 ..) h | succ k1 ih1 => intro z2 x2 h; exact b1 h (uU (gR.eq_2 ..) (uC (uL ak fun e1 a20 => (mt true [0] (tg k0 _ _ _) fun r2 _ => (uC (uR .ret (xN (xN sd))) (uJ (ih1 r2.2 (IntKind.i64.wrap (x2 + 1))))))) (uR (.exit 0) (xM (uJ (hJ3 z2))))))
 uE (hL1 ba z1 (0 : Int)))))); (uC (uJ (hJ2 true)) (uC (uJ (hJ2 true)) (uP (Ar _) fun r1 _ => (uJ (hJ2 (!r1))))))); (uC (uJ (hJ1 (IntKind.i64.wrap (p3 + 1)))) (uJ (hJ1 p3)))))
def iF (p1 : ac) : Option Bool := ay (eO ba p1 (1 : Int) (0 : Int)) fun r1 => some r1.1
theorem jC (p1 : ac) : CT Tryz.prog 26 [.ag [ci p1.kind, ci p1.n, ci p1.scale, eG p1.s, cl ak p1.items]] (iF p1) vb :=
  eB 6 [3] Tryz.f26 fun r => (mt true [0] (tg ba _ _ _) fun r1 _ => (uR .ret xF))
def pk (rec1 : Int → Option Bool) (q_ref1_of : af → ac → Option Bool) (p1 : af) (p2 : ac) (x3 x4 : Int) : Option Bool := ay (at? p1.fields x4) fun e1 => ay (at? p2.items x3) fun e2 => ay (q_ref1_of e1.type e2) fun r1 => ax (!r1) (some false) (rec1 (IntKind.i64.wrap (x3 + 1)))
def sQ : Option Bool := some true
def ed (q_ref1_of : af → ac → Option Bool) (p1 : af) (p2 : ac) : Nat → Int → Option Bool
 | 0, _ => none
 | k1 + 1, x3 => ax (decide (x3 < (p2.items.length : Int))) (ax (p1.kind == 6) (pk (ed q_ref1_of p1 p2 k1) q_ref1_of p1 p2 x3 (0 : Int)) (pk (ed q_ref1_of p1 p2 k1) q_ref1_of p1 p2 x3 x3)) (sQ)
def lP (q_ref1_of : af → ac → Option Bool) (p1 : af) (p2 : ac) (x2 : Bool) : Option Bool := ax x2 (some false) (ed q_ref1_of p1 p2 ba (0 : Int))
def ph (q_ref1_of : af → ac → Option Bool) (p1 : af) (p2 : ac) (x1 : Bool) : Option Bool := ax x1 (some false) (ax (p1.kind == 7) (lP q_ref1_of p1 p2 ((p2.items.length : Int) != (p1.fields.length : Int))) (lP q_ref1_of p1 p2 false))
def eH : Nat → af → ac → Option Bool
 | 0, _, _ => none
 | k0 + 1, p1, p2 => ax (p2.kind == 0) (some true) (ax (p2.kind != p1.kind) (ph (eH k0) p1 p2 true) (ph (eH k0) p1 p2 (p2.scale != p1.scale)))
theorem yE : ∀ (k0 : Nat) (p1 : af) (p2 : ac), CT Tryz.prog 28 [.ag [ci p1.kind, ci p1.scale, cl au p1.fields], .ag [ci p2.kind, ci p2.n, ci p2.scale, eG p2.s, cl ak p2.items]] (eH k0 p1 p2) vb
  | 0, _, _ => wv (eH.eq_1 ..)
  | k0 + 1, p1, p2 => eB 58 [] Tryz.f28 fun r => (uU (eH.eq_2 ..) (uC (uR .ret xF) (uQ (kS Tryz.f28 [1,1,0,0] 2) fun K7 hK7 => have hJ1 : ∀ (x1 : Bool), ph (eH k0) p1 p2 x1 = some r → K7.p [(2, .one (.pv (.rp [(bL p1)] 0 0))), (3, .one (.pv (.rp [(gv p2)] 0 0))), (21, vb x1)] [] := fun x1 h => hK7 h (uC (uR .ret xF) (uQ (kS Tryz.f28 [1,1,1,0,0] 2) fun K12 hK12 => have hJ2 : ∀ (x2 : Bool), lP (eH k0) p1 p2 x2 = some r → K12.p [(2, .one (.pv (.rp [(bL p1)] 0 0))), (3, .one (.pv (.rp [(gv p2)] 0 0))), (33, vb x2)] [] := fun x2 h => hK12 h (uC (uR .ret xF) (uQ (kS Tryz.f28 [1,1,1,1,0] 1) fun K16 hK16 => have hJ4 : ∀ (_ : Unit), sQ = some r → K16.p [] [] := fun _ h => hK16 h (uR .ret xF); (uN ak p2.items (uO (cd Tryz.f28 [1,1,1,1,0,1,0,0]) (kS Tryz.f28 [1,1,1,1,0,1,0] 1) fun R1 b1 => have hL1 : ∀ (k1 : Nat) (x3 : Int), ed (eH k0) p1 p2 k1 x3 = some r → (R1 k1).p [(2, .one (.pv (.rp [(bL p1)] 0 0))), (3, .one (.pv (.rp [(gv p2)] 0 0))), (36, vi (p2.items.length : Int)), (37, vi x3)] [] := by intro k1; induction k1 with | zero => intro x3 h; exact lU (ed.eq_1 ..) h | succ k1 ih1 => intro x3 h; exact b1 h (uU (ed.eq_2 ..) (uC (uQ (kS Tryz.f28 [1,1,1,1,0,1,0,0,1,1,0,0,1,1,0] 3) fun K24 hK24 => have hJ3 : ∀ (x4 : Int), pk (ed (eH k0) p1 p2 k1) (eH k0) p1 p2 x3 x4 = some r → K24.p [(2, .one (.pv (.rp [(bL p1)] 0 0))), (3, .one (.pv (.rp [(gv p2)] 0 0))), (5, vi x3), (6, vi x4), (36, vi (p2.items.length : Int)), (37, vi x3)] [] := fun x4 h => hK24 h (nr 11 (uL au fun e1 a28 => (uL ak fun e2 a29 => (uP (yE k0 _ _) fun r1 _ => (uC (uR .ret (xN (xN xF))) (uJ (ih1 (IntKind.i64.wrap (x3 + 1))))))))); (uC (uJ (hJ3 (0 : Int))) (uJ (hJ3 x3)))) (uR (.exit 0) (xM (uJ (hJ4 ()))))))
 uE (hL1 ba (0 : Int)))))); (uC (uN ak p2.items (uN au p1.fields (uJ (hJ2 ((p2.items.length : Int) != (p1.fields.length : Int)))))) (uJ (hJ2 false))))); (uC (uJ (hJ1 true)) (uJ (hJ1 (p2.scale != p1.scale)))))))
def iO (rec1 : Int → Option Bool) (x1 : Int) (x3 : Bool) : Option Bool := ax x3 (some true) (rec1 (IntKind.i64.wrap (x1 + 1)))
def iP (rec1 : Int → Option Bool) (q_ref1_missing : af → ac → Option Bool) (p1 : af) (p2 : ac) (x1 x2 : Int) : Option Bool := ay (at? p1.fields x2) fun e1 => ax e1.need (ay (at? p2.items x1) fun e2 => ax (e2.kind == 0) (iO rec1 x1 true) (ay (q_ref1_missing e1.type e2) fun r1 => iO rec1 x1 r1)) (ay (at? p2.items x1) fun e3 => ay (q_ref1_missing e1.type e3) fun r2 => iO rec1 x1 r2)
def mV : Option Bool := some false
def b7 (q_ref1_missing : af → ac → Option Bool) (p1 : af) (p2 : ac) : Nat → Int → Option Bool
 | 0, _ => none
 | k1 + 1, x1 => ax (decide (x1 < (p2.items.length : Int))) (ax (p1.kind == 6) (iP (b7 q_ref1_missing p1 p2 k1) q_ref1_missing p1 p2 x1 (0 : Int)) (iP (b7 q_ref1_missing p1 p2 k1) q_ref1_missing p1 p2 x1 x1)) (mV)
def cx : Nat → af → ac → Option Bool
 | 0, _, _ => none
 | k0 + 1, p1, p2 => b7 (cx k0) p1 p2 ba (0 : Int)
theorem nU : ∀ (k0 : Nat) (p1 : af) (p2 : ac), CT Tryz.prog 29 [.ag [ci p1.kind, ci p1.scale, cl au p1.fields], .ag [ci p2.kind, ci p2.n, ci p2.scale, eG p2.s, cl ak p2.items]] (cx k0 p1 p2) vb
  | 0, _, _ => wv (cx.eq_1 ..)
  | k0 + 1, p1, p2 => eB 45 [7] Tryz.f29 fun r => (uU (cx.eq_2 ..) (uQ (kS Tryz.f29 [1,0] 1) fun K2 hK2 => have hJ3 : ∀ (_ : Unit), mV = some r → K2.p [] [] := fun _ h => hK2 h (uR .ret xF); (uN ak p2.items (uO (cd Tryz.f29 [1,0,1,0,0]) (kS Tryz.f29 [1,0,1,0] 1) fun R1 b1 => have hL1 : ∀ (k1 : Nat) (x1 : Int), b7 (cx k0) p1 p2 k1 x1 = some r → (R1 k1).p [(2, .one (.pv (.rp [(bL p1)] 0 0))), (3, .one (.pv (.rp [(gv p2)] 0 0))), (10, vi (p2.items.length : Int)), (11, vi x1)] [] := by intro k1; induction k1 with | zero => intro x1 h; exact lU (b7.eq_1 ..) h | succ k1 ih1 => intro x1 h; exact b1 h (uU (b7.eq_2 ..) (uC (uQ (kS Tryz.f29 [1,0,1,0,0,1,1,0,0,1,1,0] 3) fun K10 hK10 => have hJ1 : ∀ (x2 : Int), iP (b7 (cx k0) p1 p2 k1) (cx k0) p1 p2 x1 x2 = some r → K10.p [(2, .one (.pv (.rp [(bL p1)] 0 0))), (3, .one (.pv (.rp [(gv p2)] 0 0))), (5, vi x1), (6, vi x2), (10, vi (p2.items.length : Int)), (11, vi x1)] [] := fun x2 h => hK10 h (uL au fun e1 a14 => (uQ (kS Tryz.f29 [1,0,1,0,0,1,1,0,0,1,1,1,1,0] 3) fun K15 hK15 => have hJ2 : ∀ (x3 : Bool), iO (b7 (cx k0) p1 p2 k1) x1 x3 = some r → K15.p [(2, .one (.pv (.rp [(bL p1)] 0 0))), (3, .one (.pv (.rp [(gv p2)] 0 0))), (10, vi (p2.items.length : Int)), (11, vi x1), (43, vb x3)] [.dead] := fun x3 h => hK15 h (uC (uR .ret (xN (xN xF))) (uJ (ih1 (IntKind.i64.wrap (x1 + 1))))); (nr 19 (uC (uL ak fun e2 a17 => (uC (uJ (hJ2 true)) (uM ak a17 (uP (nU k0 _ _) fun r1 _ => (uJ (hJ2 r1)))))) (uL ak fun e3 a20 => (uP (nU k0 _ _) fun r2 _ => (uJ (hJ2 r2)))))))); (uC (uJ (hJ1 (0 : Int))) (uJ (hJ1 x1)))) (uR (.exit 0) (xM (uJ (hJ3 ()))))))
 uE (hL1 ba (0 : Int))))))
def nR (p1 : af) (p2 : ac) : Option Int := ay (dH p1) fun r1 => ax (r1 != 0) (some r1) (ay (iF p2) fun r2 => ax (!r2) (some (1 : Int)) (ay (eH ba p1 p2) fun r3 => ax (!r3) (some (2 : Int)) (ay (cx ba p1 p2) fun r4 => ax r4 (some (9 : Int)) (some (0 : Int)))))
theorem zF (p1 : af) (p2 : ac) : CT Tryz.prog 13 [.ag [ci p1.kind, ci p1.scale, cl au p1.fields], .ag [ci p2.kind, ci p2.n, ci p2.scale, eG p2.s, cl ak p2.items]] (nR p1 p2) vi :=
  eB 21 [] Tryz.f13 fun r => (uP (ik _) fun r1 _ => (uC (uR .ret xF) (uP (jC _) fun r2 _ => (uC (uR .ret xF) (uP (yE ba _ _) fun r3 _ => (uC (uR .ret xF) (uP (nU ba _ _) fun r4 _ => (uC (uR .ret xF) (uR .ret xF)))))))))
def nV (x2 : ByteArray) : Option ByteArray := some x2
def fc (p2 : Int) : Nat → ByteArray → Option ByteArray
 | 0, _ => none
 | k1 + 1, x1 => ax (decide ((x1.size : Int) < p2)) (bB ((ByteArray.mk #[48]).size + x1.size ≤ 4611686018427387904) <| (fc p2 k1) ((ByteArray.mk #[48]) ++ x1)) (nV x1)
def fm (p1 p2 : Int) : Option ByteArray := ay (strconv_Itoa p1) fun r1 => fc p2 ba r1
theorem gP (p1 p2 : Int) : CT Tryz.prog 56 [vi p1, vi p2] (fm p1 p2) vs :=
  eB 15 [] Tryz.f56 fun r => (uP (lf _) fun r1 _ => (uQ (kS Tryz.f56 [1,1,0] 1) fun K4 hK4 => have hJ1 : ∀ (x2 : ByteArray), nV x2 = some r → K4.p [(5, vs x2)] [] := fun x2 h => hK4 h (uR .ret xF); (uO (cd Tryz.f56 [1,1,0,0,0]) (kS Tryz.f56 [1,1,0,0] 1) fun R1 b1 => have hL1 : ∀ (k1 : Nat) (x1 : ByteArray), fc p2 k1 x1 = some r → (R1 k1).p [(1, vi p2), (5, vs x1)] [] := by intro k1; induction k1 with | zero => intro x1 h; exact lU (fc.eq_1 ..) h | succ k1 ih1 => intro x1 h; exact b1 h (uU (fc.eq_2 ..) (uC (uG (uJ (ih1 ((ByteArray.mk #[48]) ++ x1)))) (uR (.exit 0) (xM (uJ (hJ1 x1))))))
 uE (hL1 ba r1))))
def ml (x2 : Int) : Option Int := some x2
def me (p1 p2 : Int) (x1 : Bool) : Option Int := ax x1 (ml (IntKind.i64.wrap ((IntKind.i64.wrap (p1.tdiv p2)) - (1 : Int)))) (ml (IntKind.i64.wrap (p1.tdiv p2)))
def pF (p1 p2 : Int) : Option Int := bB (p2 ≠ 0) <| bB (p2 ≠ 0) <| ax ((p1.tmod p2) != 0) (me p1 p2 (!((decide (p1 < (0 : Int))) == (decide (p2 < (0 : Int)))))) (me p1 p2 false)
theorem zK (p1 p2 : Int) : CT Tryz.prog 100 [vi p1, vi p2] (pF p1 p2) vi :=
  eB 23 [] Tryz.f100 fun r => (uG (uQ (kS Tryz.f100 [1,1,0] 1) fun K4 hK4 => have hJ2 : ∀ (x2 : Int), ml x2 = some r → K4.p [(5, vi x2)] [] := fun x2 h => hK4 h (uR .ret xF); (uQ (kS Tryz.f100 [1,1,0,0] 1) fun K5 hK5 => have hJ1 : ∀ (x1 : Bool), me p1 p2 x1 = some r → K5.p [(5, vi (IntKind.i64.wrap (p1.tdiv p2))), (19, vb x1)] [] := fun x1 h => hK5 h (uC (uJ (hJ2 (IntKind.i64.wrap ((IntKind.i64.wrap (p1.tdiv p2)) - (1 : Int))))) (uJ (hJ2 (IntKind.i64.wrap (p1.tdiv p2))))); (uG (uC (uJ (hJ1 (!((decide (p1 < (0 : Int))) == (decide (p2 < (0 : Int))))))) (uJ (hJ1 false)))))))
def oO (p1 r1 x3 z2 x5 : Int) : Option dz := ay (some (IntKind.i64.wrap ((IntKind.i64.wrap (p1 - (IntKind.i64.wrap ((86400 : Int) * r1)))).tdiv (3600 : Int)))) fun y1 => ay (some (IntKind.i64.wrap ((IntKind.i64.wrap (p1 - (IntKind.i64.wrap ((86400 : Int) * r1)))).tdiv (60 : Int)))) fun y2 => ay (some ((IntKind.i64.wrap (p1 - (IntKind.i64.wrap ((86400 : Int) * r1)))).tmod (60 : Int))) fun y3 => some (dz.mk x3 z2 (IntKind.i64.wrap (x5 + 1)) y1 (y2.tmod (60 : Int)) y3)
def gL (p1 r1 x3 : Int) : Nat → Int → Int → Option dz
 | 0, _, _ => none
 | k2 + 1, z1, x4 => ay (hU x3 z1) fun r4 => ax (decide (r4 ≤ x4)) (ay (hU x3 z1) fun r5 => (gL p1 r1 x3 k2) (IntKind.i64.wrap (z1 + 1)) (IntKind.i64.wrap (x4 - r5))) (oO p1 r1 x3 z1 x4)
def oJ (p1 r1 x3 : Int) : Option dz := ay (ia x3) fun r3 => gL p1 r1 x3 ba (1 : Int) (IntKind.i64.wrap (r1 - r3))
def fU (p1 r1 : Int) : Nat → Int → Int → Option dz
 | 0, _, _ => none
 | k1 + 1, x1, x2 => ax (decide ((1 : Int) < (IntKind.i64.wrap (x2 - x1)))) (ay (ia (IntKind.i64.wrap ((IntKind.i64.wrap (x1 + x2)).tdiv (2 : Int)))) fun r2 => ax (decide (r2 ≤ r1)) ((fU p1 r1 k1) (IntKind.i64.wrap ((IntKind.i64.wrap (x1 + x2)).tdiv (2 : Int))) x2) ((fU p1 r1 k1) x1 (IntKind.i64.wrap ((IntKind.i64.wrap (x1 + x2)).tdiv (2 : Int))))) (oJ p1 r1 x1)
def pI (p1 : Int) : Option dz := ay (pF p1 (86400 : Int)) fun r1 => fU p1 r1 ba (0 : Int) (10001 : Int)
abbrev An : List CV := [ci (0 : Int), ci (0 : Int), ci (0 : Int), ci (0 : Int), ci (0 : Int), ci (0 : Int)]
theorem zQ (p1 : Int) : CT Tryz.prog 57 [vi p1] (pI p1) (fun r => .ag [ci r.year, ci r.month, ci r.day, ci r.hour, ci r.minute, ci r.second]) :=
  eB 66 [2, 7] Tryz.f57 fun r => (uP (zK _ _) fun r1 _ => (uQ (kS Tryz.f57 [1,1,1,0] 1) fun K5 hK5 => have hJ1 : ∀ (x3 : Int), oJ p1 r1 x3 = some r → K5.p [(0, vi p1), (2, .one (.pt 0 0 0 0)), (3, vi r1), (4, vi x3)] [.box An] := fun x3 h => hK5 h (uP (lS _) fun r3 _ => (uQ (kS Tryz.f57 [1,1,1,1,1,1,0] 1) fun K16 hK16 => have hJ2 : ∀ (z2 x5 : Int), oO p1 r1 x3 z2 x5 = some r → K16.p [(0, vi p1), (2, .one (.pt 0 0 0 0)), (3, vi r1), (7, .one (.pt 1 0 0 0)), (8, vi x5)] [.box An, .box [ci x3, ci z2, ci (0 : Int), ci (0 : Int), ci (0 : Int), ci (0 : Int)]] := fun z2 x5 h => hK16 h (uY 56 vi fun y1 => (uY 58 vi fun y2 => (uY 61 vi fun y3 => (uR .ret xF)))); (uO (cd Tryz.f57 [1,1,1,1,1,1,0,0,0]) (kS Tryz.f57 [1,1,1,1,1,1,0,0] 1) fun R2 b2 => have hL2 : ∀ (k2 : Nat) (z1 x4 : Int), gL p1 r1 x3 k2 z1 x4 = some r → (R2 k2).p [(0, vi p1), (2, .one (.pt 0 0 0 0)), (3, vi r1), (4, vi x3), (7, .one (.pt 1 0 0 0)), (8, vi x4)] [.box An, .box [ci x3, ci z1, ci (0 : Int), ci (0 : Int), ci (0 : Int), ci (0 : Int)]] := by intro k2; induction k2 with | zero => intro z1 x4 h; exact lU (gL.eq_1 ..) h | succ k2 ih2 => intro z1 x4 h; exact b2 h (uU (gL.eq_2 ..) (uP (jE _ _) fun r4 _ => (uC (uP (jE _ _) fun r5 _ => (uJ (ih2 (IntKind.i64.wrap (z1 + 1)) (IntKind.i64.wrap (x4 - r5))))) (uR (.exit 2) (xM (uJ (hJ2 z1 x4)))))))
 uE (hL2 ba (1 : Int) (IntKind.i64.wrap (r1 - r3)))))); (uO (cd Tryz.f57 [1,1,1,0,0,0]) (kS Tryz.f57 [1,1,1,0,0] 1) fun R1 b1 => have hL1 : ∀ (k1 : Nat) (x1 x2 : Int), fU p1 r1 k1 x1 x2 = some r → (R1 k1).p [(0, vi p1), (2, .one (.pt 0 0 0 0)), (3, vi r1), (4, vi x1), (5, vi x2)] [.box An] := by intro k1; induction k1 with | zero => intro x1 x2 h; exact lU (fU.eq_1 ..) h | succ k1 ih1 => intro x1 x2 h; exact b1 h (uU (fU.eq_2 ..) (uC (uP (lS _) fun r2 _ => (uC (uJ (ih1 (IntKind.i64.wrap ((IntKind.i64.wrap (x1 + x2)).tdiv (2 : Int))) x2)) (uJ (ih1 x1 (IntKind.i64.wrap ((IntKind.i64.wrap (x1 + x2)).tdiv (2 : Int))))))) (uR (.exit 0) (xM (uJ (hJ1 x1))))))
 uE (hL1 ba (0 : Int) (10001 : Int)))))
def nq (p1 : ac) (x1 : Int) (x2 : ByteArray) : Option ByteArray := ay (fm x1 (IntKind.i64.wrap (p1.scale + 1))) fun r2 => bB (0 ≤ (0 : Int) ∧ (0 : Int) ≤ (IntKind.i64.wrap ((r2.size : Int) - p1.scale)) ∧ (IntKind.i64.wrap ((r2.size : Int) - p1.scale)) ≤ (r2.size : Int)) <| ay (some (r2.extract (0 : Int).toNat (IntKind.i64.wrap ((r2.size : Int) - p1.scale)).toNat)) fun y1 => bB (x2.size + y1.size ≤ 4611686018427387904) <| bB ((x2 ++ y1).size + (ByteArray.mk #[46]).size ≤ 4611686018427387904) <| bB (0 ≤ (IntKind.i64.wrap ((r2.size : Int) - p1.scale)) ∧ (IntKind.i64.wrap ((r2.size : Int) - p1.scale)) ≤ (r2.size : Int) ∧ (r2.size : Int) ≤ (r2.size : Int)) <| ay (some (r2.extract (IntKind.i64.wrap ((r2.size : Int) - p1.scale)).toNat (r2.size : Int).toNat)) fun y2 => bB (((x2 ++ y1) ++ (ByteArray.mk #[46])).size + y2.size ≤ 4611686018427387904) <| some (((x2 ++ y1) ++ (ByteArray.mk #[46])) ++ y2)
def m7 (rec1 : ByteArray → Int → Option ByteArray) (x4 : Int) (x5 : ByteArray) : Option ByteArray := rec1 x5 (IntKind.i64.wrap (x4 + 1))
def po (x6 : ByteArray) : Option ByteArray := bB (x6.size + (ByteArray.mk #[39]).size ≤ 4611686018427387904) <| some (x6 ++ (ByteArray.mk #[39]))
def ei (p1 : ac) : Nat → ByteArray → Int → Option ByteArray
 | 0, _, _ => none
 | k1 + 1, x3, x4 => ax (decide (x4 < (p1.s.size : Int))) (bB (0 ≤ x4 ∧ x4 ≤ (IntKind.i64.wrap (x4 + 1)) ∧ (IntKind.i64.wrap (x4 + 1)) ≤ (p1.s.size : Int)) <| bB (x3.size + (p1.s.extract x4.toNat (IntKind.i64.wrap (x4 + 1)).toNat).size ≤ 4611686018427387904) <| ay (some (x3 ++ (p1.s.extract x4.toNat (IntKind.i64.wrap (x4 + 1)).toNat))) fun y3 => bB (0 ≤ x4 ∧ x4 < (p1.s.size : Int)) <| ax (((p1.s.data.toList.getD x4.toNat 0).toNat : Int) == 39) (bB (y3.size + (ByteArray.mk #[39]).size ≤ 4611686018427387904) <| m7 (ei p1 k1) x4 (y3 ++ (ByteArray.mk #[39]))) (m7 (ei p1 k1) x4 y3)) (po x3)
def kV (rec2 : ByteArray → Int → Option ByteArray) (q_ref1_text : ac → Option ByteArray) (p1 : ac) (x9 : Int) (x10 : ByteArray) : Option ByteArray := ay (at? p1.items x9) fun e1 => ay (q_ref1_text e1) fun r10 => bB (x10.size + r10.size ≤ 4611686018427387904) <| rec2 (x10 ++ r10) (IntKind.i64.wrap (x9 + 1))
def pP (p1 : ac) (x11 : ByteArray) : Option ByteArray := ax (p1.kind == 6) (bB ((ByteArray.mk #[91]).size + x11.size ≤ 4611686018427387904) <| bB (((ByteArray.mk #[91]) ++ x11).size + (ByteArray.mk #[93]).size ≤ 4611686018427387904) <| some (((ByteArray.mk #[91]) ++ x11) ++ (ByteArray.mk #[93]))) (bB ((ByteArray.mk #[40]).size + x11.size ≤ 4611686018427387904) <| bB (((ByteArray.mk #[40]) ++ x11).size + (ByteArray.mk #[41]).size ≤ 4611686018427387904) <| some (((ByteArray.mk #[40]) ++ x11) ++ (ByteArray.mk #[41])))
def el (q_ref1_text : ac → Option ByteArray) (p1 : ac) : Nat → ByteArray → Int → Option ByteArray
 | 0, _, _ => none
 | k2 + 1, x8, x9 => ax (decide (x9 < (p1.items.length : Int))) (ax (decide ((0 : Int) < x9)) (bB (x8.size + (ByteArray.mk #[44, 32]).size ≤ 4611686018427387904) <| kV (el q_ref1_text p1 k2) q_ref1_text p1 x9 (x8 ++ (ByteArray.mk #[44, 32]))) (kV (el q_ref1_text p1 k2) q_ref1_text p1 x9 x8)) (pP p1 x8)
def lh (q_ref1_text : ac → Option ByteArray) (p1 : ac) (x7 : Bool) : Option ByteArray := ax x7 (el q_ref1_text p1 ba (ByteArray.mk #[]) (0 : Int)) (some (ByteArray.mk #[110, 117, 108, 108]))
def dT : Nat → ac → Option ByteArray
 | 0, _ => none
 | k0 + 1, p1 => ax (p1.kind == 1) (ax (p1.n == 1) (some (ByteArray.mk #[116, 114, 117, 101])) (some (ByteArray.mk #[102, 97, 108, 115, 101]))) (ax (p1.kind == 2) (ay (strconv_Itoa p1.n) fun r1 => some r1) (ax (p1.kind == 3) (ax (decide (p1.n < (0 : Int))) (nq p1 (IntKind.i64.wrap (0 - p1.n)) (ByteArray.mk #[45])) (nq p1 p1.n (ByteArray.mk #[]))) (ax (p1.kind == 4) (ei p1 ba (ByteArray.mk #[39]) (0 : Int)) (ax (p1.kind == 5) (ay (pI p1.n) fun r3 => ay (fm r3.year (4 : Int)) fun r4 => bB (r4.size + (ByteArray.mk #[45]).size ≤ 4611686018427387904) <| ay (fm r3.month (2 : Int)) fun r5 => bB ((r4 ++ (ByteArray.mk #[45])).size + r5.size ≤ 4611686018427387904) <| bB (((r4 ++ (ByteArray.mk #[45])) ++ r5).size + (ByteArray.mk #[45]).size ≤ 4611686018427387904) <| ay (fm r3.day (2 : Int)) fun r6 => bB ((((r4 ++ (ByteArray.mk #[45])) ++ r5) ++ (ByteArray.mk #[45])).size + r6.size ≤ 4611686018427387904) <| ay (some ((((r4 ++ (ByteArray.mk #[45])) ++ r5) ++ (ByteArray.mk #[45])) ++ r6)) fun y4 => bB (y4.size + (ByteArray.mk #[84]).size ≤ 4611686018427387904) <| ay (fm r3.hour (2 : Int)) fun r7 => bB ((y4 ++ (ByteArray.mk #[84])).size + r7.size ≤ 4611686018427387904) <| bB (((y4 ++ (ByteArray.mk #[84])) ++ r7).size + (ByteArray.mk #[58]).size ≤ 4611686018427387904) <| ay (fm r3.minute (2 : Int)) fun r8 => bB ((((y4 ++ (ByteArray.mk #[84])) ++ r7) ++ (ByteArray.mk #[58])).size + r8.size ≤ 4611686018427387904) <| ay (some ((((y4 ++ (ByteArray.mk #[84])) ++ r7) ++ (ByteArray.mk #[58])) ++ r8)) fun y5 => bB (y5.size + (ByteArray.mk #[58]).size ≤ 4611686018427387904) <| ay (fm r3.second (2 : Int)) fun r9 => bB ((y5 ++ (ByteArray.mk #[58])).size + r9.size ≤ 4611686018427387904) <| bB (((y5 ++ (ByteArray.mk #[58])) ++ r9).size + (ByteArray.mk #[90]).size ≤ 4611686018427387904) <| some (((y5 ++ (ByteArray.mk #[58])) ++ r9) ++ (ByteArray.mk #[90]))) (ax (p1.kind == 6) (lh (dT k0) p1 (p1.kind == 6)) (lh (dT k0) p1 (p1.kind == 7)))))))
theorem vN : ∀ (k0 : Nat) (p1 : ac), CT Tryz.prog 27 [.ag [ci p1.kind, ci p1.n, ci p1.scale, eG p1.s, cl ak p1.items]] (dT k0 p1) vs
  | 0, _ => wv (dT.eq_1 ..)
  | k0 + 1, p1 => eB 145 [8] Tryz.f27 fun r => (uU (dT.eq_2 ..) (uC (uC (uR .ret xF) (uR .ret xF)) (uC (uP (lf _) fun r1 _ => (uR .ret xF)) (uC (uQ (kS Tryz.f27 [1,0,1,0,1,1,1,1,1,0,1,0] 3) fun K18 hK18 => have hJ1 : ∀ (x1 : Int) (x2 : ByteArray), nq p1 x1 x2 = some r → K18.p [(1, .one (.pv (.rp [(gv p1)] 0 0))), (3, vi x1), (4, vs x2)] [] := fun x1 x2 h => hK18 h (uP (gP _ _) fun r2 _ => (nr 17 (wN 43 vs fun y1 => (uG (uG (wN 52 vs fun y2 => (uG (uR .ret xF)))))))); (uC (uJ (hJ1 (IntKind.i64.wrap (0 - p1.n)) (ByteArray.mk #[45]))) (uJ (hJ1 p1.n (ByteArray.mk #[]))))) (uC (uQ (kS Tryz.f27 [1,0,1,0,1,1,1,1,1,1,1,0,1,0] 3) fun K34 hK34 => have hJ3 : ∀ (x6 : ByteArray), po x6 = some r → K34.p [(6, vs x6)] [] := fun x6 h => hK34 h (uG (uR .ret xF)); (uO (cd Tryz.f27 [1,0,1,0,1,1,1,1,1,1,1,0,1,0,1,0,0]) (kS Tryz.f27 [1,0,1,0,1,1,1,1,1,1,1,0,1,0,1,0] 1) fun R1 b1 => have hL1 : ∀ (k1 : Nat) (x3 : ByteArray) (x4 : Int), ei p1 k1 x3 x4 = some r → (R1 k1).p [(1, .one (.pv (.rp [(gv p1)] 0 0))), (6, vs x3), (7, vi x4)] [] := by intro k1; induction k1 with | zero => intro x3 x4 h; exact lU (ei.eq_1 ..) h | succ k1 ih1 => intro x3 x4 h; exact b1 h (uU (ei.eq_2 ..) (uC (uQ (kS Tryz.f27 [1,0,1,0,1,1,1,1,1,1,1,0,1,0,1,0,0,1,0] 1) fun K39 hK39 => have hJ2 : ∀ (x5 : ByteArray), m7 (ei p1 k1) x4 x5 = some r → K39.p [(1, .one (.pv (.rp [(gv p1)] 0 0))), (6, vs x5), (7, vi x4)] [] := fun x5 h => hK39 h (uJ (ih1 x5 (IntKind.i64.wrap (x4 + 1)))); (uG (wN 70 vs fun y3 => (uG (uC (uG (uJ (hJ2 (y3 ++ (ByteArray.mk #[39]))))) (uJ (hJ2 y3))))))) (uR (.exit 1) (xM (uJ (hJ3 x3))))))
 uE (hL1 ba (ByteArray.mk #[39]) (0 : Int)))) (uC (uP (zQ _) fun r3 _ => (nr 27 (uP (gP _ _) fun r4 _ => (uG (uP (gP _ _) fun r5 _ => (uG (uG (uP (gP _ _) fun r6 _ => (wN 97 vs fun y4 => (uG (uP (gP _ _) fun r7 _ => (uG (uG (uP (gP _ _) fun r8 _ => (wN 107 vs fun y5 => (uG (uP (gP _ _) fun r9 _ => (uG (uG (uR .ret xF)))))))))))))))))))) (uQ (kS Tryz.f27 [1,0,1,0,1,1,1,1,1,1,1,1,1,1,0] 3) fun K74 hK74 => have hJ4 : ∀ (x7 : Bool), lh (dT k0) p1 x7 = some r → K74.p [(1, .one (.pv (.rp [(gv p1)] 0 0))), (114, vb x7)] [] := fun x7 h => hK74 h (uC (uQ (kS Tryz.f27 [1,0,1,0,1,1,1,1,1,1,1,1,1,1,1,0,1,0] 3) fun K79 hK79 => have hJ6 : ∀ (x11 : ByteArray), pP p1 x11 = some r → K79.p [(1, .one (.pv (.rp [(gv p1)] 0 0))), (9, vs x11)] [] := fun x11 h => hK79 h (uC (uG (uG (uR .ret xF))) (uG (uG (uR .ret xF)))); (uN ak p1.items (uO (cd Tryz.f27 [1,0,1,0,1,1,1,1,1,1,1,1,1,1,1,0,1,0,1,0,0]) (kS Tryz.f27 [1,0,1,0,1,1,1,1,1,1,1,1,1,1,1,0,1,0,1,0] 1) fun R2 b2 => have hL2 : ∀ (k2 : Nat) (x8 : ByteArray) (x9 : Int), el (dT k0) p1 k2 x8 x9 = some r → (R2 k2).p [(1, .one (.pv (.rp [(gv p1)] 0 0))), (9, vs x8), (119, vi (p1.items.length : Int)), (120, vi x9)] [] := by intro k2; induction k2 with | zero => intro x8 x9 h; exact lU (el.eq_1 ..) h | succ k2 ih2 => intro x8 x9 h; exact b2 h (uU (el.eq_2 ..) (uC (uQ (kS Tryz.f27 [1,0,1,0,1,1,1,1,1,1,1,1,1,1,1,0,1,0,1,0,0,1,1,0,0,1,0] 3) fun K86 hK86 => have hJ5 : ∀ (x10 : ByteArray), kV (el (dT k0) p1 k2) (dT k0) p1 x9 x10 = some r → K86.p [(1, .one (.pv (.rp [(gv p1)] 0 0))), (9, vs x10), (10, vi x9), (119, vi (p1.items.length : Int)), (120, vi x9)] [] := fun x10 h => hK86 h (uL ak fun e1 a90 => (uP (vN k0 _) fun r10 _ => (uG (uJ (ih2 (x10 ++ r10) (IntKind.i64.wrap (x9 + 1))))))); (uC (uG (uJ (hJ5 (x8 ++ (ByteArray.mk #[44, 32]))))) (uJ (hJ5 x8)))) (uR (.exit 3) (xM (uJ (hJ6 x8))))))
 uE (hL2 ba (ByteArray.mk #[]) (0 : Int))))) (uR .ret xF)); (uC (uJ (hJ4 (p1.kind == 6))) (uJ (hJ4 (p1.kind == 7)))))))))))
def oW (p1 : ac) : Option ByteArray := ay (iF p1) fun r1 => ax (!r1) (some (ByteArray.mk #[])) (ay (dT ba p1) fun r2 => some r2)
theorem wc (p1 : ac) : CT Tryz.prog 11 [.ag [ci p1.kind, ci p1.n, ci p1.scale, eG p1.s, cl ak p1.items]] (oW p1) vs :=
  eB 8 [] Tryz.f11 fun r => (uP (jC _) fun r1 _ => (uC (uR .ret xF) (uP (vN ba _) fun r2 _ => (uR .ret xF))))
def gV (r2 : (ac × ByteArray × Bool)) (x1 : Bool) : Option (ac × Int) := ax x1 (some ((ac.mk (0 : Int) (0 : Int) (0 : Int) ByteArray.empty []), (6 : Int))) (some (r2.1, (0 : Int)))
def cM (p1 : af) (p2 : ByteArray) : Option (ac × Int) := ay (dH p1) fun r1 => ax (r1 != 0) (some ((ac.mk (0 : Int) (0 : Int) (0 : Int) ByteArray.empty []), r1)) (ay (bZ ba p1 p2) fun r2 => ax (!r2.2.2) (gV r2 true) (ax (!(r2.2.1.toList == (ByteArray.mk #[]).toList)) (gV r2 true) (ay (nR p1 r2.1) fun r3 => ax (r3 != 0) (gV r2 true) (ay (oW r2.1) fun r4 => gV r2 (!(r4.toList == p2.toList))))))
theorem pj (p1 : af) (p2 : ByteArray) : CT Tryz.prog 8 [.ag [ci p1.kind, ci p1.scale, cl au p1.fields], vs p2] (cM p1 p2) (fun r => .tp [.ag [ci r.1.kind, ci r.1.n, ci r.1.scale, eG r.1.s, cl ak r.1.items], vi r.2]) :=
  eB 43 [4, 7] Tryz.f8 fun r => (uP (ik _) fun r1 _ => (uC (uR .ret xF) (uP (wh ba _ _) fun r2 _ => (uQ (kS Tryz.f8 [1,1,1,0,0] 2) fun K11 hK11 => have hJ1 : ∀ (x1 : Bool), gV r2 x1 = some r → K11.p [(4, .one (.pt 0 0 0 0)), (7, .one (.pt 1 0 0 0)), (40, vb x1)] [.box [ci (0 : Int), ci (0 : Int), ci (0 : Int), eG ByteArray.empty, .pv (.s (.slice none 0 0))], .box [ci r2.1.kind, ci r2.1.n, ci r2.1.scale, eG r2.1.s, cl ak r2.1.items]] := fun x1 h => hK11 h (uC (uR .ret xF) (uR .ret xF)); (uC (uJ (hJ1 true)) (uC (uJ (hJ1 true)) (uP (zF _ _) fun r3 _ => (uC (uJ (hJ1 true)) (uP (wc _) fun r4 _ => (uJ (hJ1 (!(r4.toList == p2.toList)))))))))))))
def qh : Option Bool := some true
def cO (q_law1_exactly : ac → ac → Option Bool) (p1 p2 : ac) : Nat → Int → Option Bool
 | 0, _ => none
 | k1 + 1, x2 => ax (decide (x2 < (p1.items.length : Int))) (ay (at? p1.items x2) fun e1 => ay (at? p2.items x2) fun e2 => ay (q_law1_exactly e1 e2) fun r1 => ax (!r1) (some false) ((cO q_law1_exactly p1 p2 k1) (IntKind.i64.wrap (x2 + 1)))) (qh)
def eF (q_law1_exactly : ac → ac → Option Bool) (p1 p2 : ac) (x1 : Bool) : Option Bool := ax x1 (some false) (cO q_law1_exactly p1 p2 ba (0 : Int))
def cw : Nat → ac → ac → Option Bool
 | 0, _, _ => none
 | k0 + 1, p1, p2 => ax (p1.kind != p2.kind) (eF (cw k0) p1 p2 true) (ax (p1.n != p2.n) (eF (cw k0) p1 p2 true) (ax (p1.scale != p2.scale) (eF (cw k0) p1 p2 true) (ax (!(p1.s.toList == p2.s.toList)) (eF (cw k0) p1 p2 true) (eF (cw k0) p1 p2 ((p1.items.length : Int) != (p2.items.length : Int))))))
theorem rg : ∀ (k0 : Nat) (p1 p2 : ac), CT Tryz.prog 12 [.ag [ci p1.kind, ci p1.n, ci p1.scale, eG p1.s, cl ak p1.items], .ag [ci p2.kind, ci p2.n, ci p2.scale, eG p2.s, cl ak p2.items]] (cw k0 p1 p2) vb
  | 0, _, _ => wv (cw.eq_1 ..)
  | k0 + 1, p1, p2 => eB 60 [] Tryz.f12 fun r => (uU (cw.eq_2 ..) (uQ (kS Tryz.f12 [1,0,0] 2) fun K3 hK3 => have hJ1 : ∀ (x1 : Bool), eF (cw k0) p1 p2 x1 = some r → K3.p [(2, .one (.pv (.rp [[pi p1.kind, pi p1.n, pi p1.scale, .s (.string p1.s), .ro (ak.els p1.items)]] 0 0))), (3, .one (.pv (.rp [[pi p2.kind, pi p2.n, pi p2.scale, .s (.string p2.s), .ro (ak.els p2.items)]] 0 0))), (40, vb x1)] [] := fun x1 h => hK3 h (uC (uR .ret xF) (uQ (kS Tryz.f12 [1,1,0] 1) fun K10 hK10 => have hJ2 : ∀ (_ : Unit), qh = some r → K10.p [] [] := fun _ h => hK10 h (uR .ret xF); (uN ak p1.items (uO (cd Tryz.f12 [1,1,0,1,0,0]) (kS Tryz.f12 [1,1,0,1,0] 1) fun R1 b1 => have hL1 : ∀ (k1 : Nat) (x2 : Int), cO (cw k0) p1 p2 k1 x2 = some r → (R1 k1).p [(2, .one (.pv (.rp [[pi p1.kind, pi p1.n, pi p1.scale, .s (.string p1.s), .ro (ak.els p1.items)]] 0 0))), (3, .one (.pv (.rp [[pi p2.kind, pi p2.n, pi p2.scale, .s (.string p2.s), .ro (ak.els p2.items)]] 0 0))), (43, vi (p1.items.length : Int)), (44, vi x2)] [] := by intro k1; induction k1 with | zero => intro x2 h; exact lU (cO.eq_1 ..) h | succ k1 ih1 => intro x2 h; exact b1 h (uU (cO.eq_2 ..) (uC (nr 10 (uL ak fun e1 a18 => (uL ak fun e2 a19 => (uP (rg k0 _ _) fun r1 _ => (uC (uR .ret (xN (xN xF))) (uJ (ih1 (IntKind.i64.wrap (x2 + 1))))))))) (uR (.exit 0) (xM (uJ (hJ2 ()))))))
 uE (hL1 ba (0 : Int)))))); (uC (uJ (hJ1 true)) (uC (uJ (hJ1 true)) (uC (uJ (hJ1 true)) (uC (uJ (hJ1 true)) (uN ak p1.items (uN ak p2.items (uJ (hJ1 ((p1.items.length : Int) != (p2.items.length : Int))))))))))))
def ld (x1 : Bool) : Option Bool := some x1
def lq (x2 : Bool) : Option Bool := some x2
def lF (x3 : Bool) : Option Bool := some x3
def o9 (p1 p2 : Int) : Option Bool := ax (p1 == 1) (ax (p2 == 1) (ld true) (ax (p2 == 2) (ld true) (ld (p2 == 4)))) (ax (p1 == 2) (ay (bI p2 (1 : Int) (5 : Int)) fun r1 => some r1) (ax (p1 == 3) (ax (p2 == 2) (lq true) (ax (p2 == 3) (lq true) (lq (p2 == 4)))) (ax (p1 == 4) (ay (bI p2 (1 : Int) (5 : Int)) fun r2 => some r2) (ax (p1 == 5) (ax (p2 == 2) (lF true) (ax (p2 == 5) (lF true) (lF (p2 == 4)))) (some (p1 == p2))))))
theorem vV (p1 p2 : Int) : CT Tryz.prog 63 [vi p1, vi p2] (o9 p1 p2) vb :=
  eB 53 [] Tryz.f63 fun r => (uC (uQ (kS Tryz.f63 [1,0,1,0,1,0,0] 3) fun K6 hK6 => have hJ1 : ∀ (x1 : Bool), ld x1 = some r → K6.p [(4, vb x1)] [] := fun x1 h => hK6 h (uR .ret xF); (uC (uJ (hJ1 true)) (uC (uJ (hJ1 true)) (uJ (hJ1 (p2 == 4)))))) (uC (uP (cc _ _ _) fun r1 _ => (uR .ret xF)) (uC (uQ (kS Tryz.f63 [1,0,1,0,1,1,1,1,1,0,0] 3) fun K15 hK15 => have hJ2 : ∀ (x2 : Bool), lq x2 = some r → K15.p [(4, vb x2)] [] := fun x2 h => hK15 h (uR .ret xF); (uC (uJ (hJ2 true)) (uC (uJ (hJ2 true)) (uJ (hJ2 (p2 == 4)))))) (uC (uP (cc _ _ _) fun r2 _ => (uR .ret xF)) (uC (uQ (kS Tryz.f63 [1,0,1,0,1,1,1,1,1,1,1,1,1,0,0] 3) fun K24 hK24 => have hJ3 : ∀ (x3 : Bool), lF x3 = some r → K24.p [(4, vb x3)] [] := fun x3 h => hK24 h (uR .ret xF); (uC (uJ (hJ3 true)) (uC (uJ (hJ3 true)) (uJ (hJ3 (p2 == 4)))))) (uR .ret xF))))))
def bp : Option Bool := some true
def aj (q_value_canType_1 : aL → aL → Option Bool) (p1 p2 : (List aL)) : Nat → Int → Option Bool
 | 0, _ => none
 | k1 + 1, x1 => ax (decide (x1 < (p1.length : Int))) (ay (at? p1 x1) fun e1 => ay (at? p2 x1) fun e2 => ay (q_value_canType_1 e1 e2) fun r1 => ax (!r1) (some false) ((aj q_value_canType_1 p1 p2 k1) (IntKind.i64.wrap (x1 + 1)))) (bp)
def ic (x1 : Bool) : Option Bool := some x1
mutual
def aG : Nat → (List aL) → (List aL) → Option Bool
 | 0, _, _ => none
 | k0 + 1, p1, p2 => ax ((p1.length : Int) != (p2.length : Int)) (some false) (aj (eE k0) p1 p2 ba (0 : Int))
def ga : Nat → af → af → Option Bool
 | 0, _, _ => none
 | k0 + 1, p1, p2 => ay (o9 p1.kind p2.kind) fun r1 => ax r1 (ay (lX p1) fun r2 => ax r2 (ic true) (ay ((aG k0) p1.fields p2.fields) fun r3 => ic r3)) (ic false)
def eE : Nat → aL → aL → Option Bool
 | 0, _, _ => none
 | k0 + 1, p1, p2 => ay ((ga k0) p1.type p2.type) fun r1 => some r1
end
mutual
theorem dg : ∀ (k0 : Nat) (p1 p2 : (List aL)), CT Tryz.prog 65 [vl au p1, vl au p2, .one (.pv (.fn 66 []))] (aG k0 p1 p2) vb
  | 0, _, _ => wv (aG.eq_1 ..)
  | k0 + 1, p1, p2 => eB 32 [8, 9] Tryz.f65 fun r => (uU (aG.eq_2 ..) (uN au p1 (uN au p2 (uC (uR .ret xF) (uQ (kS Tryz.f65 [1,1,0] 1) fun K6 hK6 => have hJ1 : ∀ (_ : Unit), bp = some r → K6.p [] [] := fun _ h => hK6 h (uR .ret xF); (uN au p1 (uO (cd Tryz.f65 [1,1,0,1,0,0]) (kS Tryz.f65 [1,1,0,1,0] 1) fun R1 b1 => have hL1 : ∀ (k1 : Nat) (x1 : Int), aj (eE k0) p1 p2 k1 x1 = some r → (R1 k1).p [(1, vl au p2), (2, .one (.pv (.fn 66 []))), (15, vl au p1), (16, vi (p1.length : Int)), (17, vi x1)] [] := by intro k1; induction k1 with | zero => intro x1 h; exact lU (aj.eq_1 ..) h | succ k1 ih1 => intro x1 h; exact b1 h (uU (aj.eq_2 ..) (uC (uL au fun e1 a13 => (uL au fun e2 a15 => (uP (tX k0 _ _) fun r1 _ => (uC (uR .ret (xN (xN xF))) (uJ (ih1 (IntKind.i64.wrap (x1 + 1)))))))) (uR (.exit 0) (xM (uJ (hJ1 ()))))))
 uE (hL1 ba (0 : Int)))))))))
theorem qm : ∀ (k0 : Nat) (p1 p2 : af), CT Tryz.prog 32 [.ag [ci p1.kind, ci p1.scale, cl au p1.fields], .ag [ci p2.kind, ci p2.scale, cl au p2.fields]] (ga k0 p1 p2) vb
  | 0, _, _ => wv (ga.eq_1 ..)
  | k0 + 1, p1, p2 => eB 21 [] Tryz.f32 fun r => (uU (ga.eq_2 ..) (uQ (kS Tryz.f32 [1,0] 1) fun K2 hK2 => have hJ1 : ∀ (x1 : Bool), ic x1 = some r → K2.p [(4, vb x1)] [] := fun x1 h => hK2 h (uR .ret xF); (uP (vV _ _) fun r1 _ => (uC (uP (pm _) fun r2 _ => (uC (uJ (hJ1 true)) (uP (dg k0 _ _) fun r3 _ => (uJ (hJ1 r3))))) (uJ (hJ1 false))))))
theorem tX : ∀ (k0 : Nat) (p1 p2 : aL), CT Tryz.prog 66 [.ag [ci p1.id, eG p1.name, cb p1.need, ci p1.type.kind, ci p1.type.scale, cl au p1.type.fields], .ag [ci p2.id, eG p2.name, cb p2.need, ci p2.type.kind, ci p2.type.scale, cl au p2.type.fields]] (eE k0 p1 p2) vb
  | 0, _, _ => wv (eE.eq_1 ..)
  | k0 + 1, p1, p2 => eB 10 [] Tryz.f66 fun r => (uU (eE.eq_2 ..) (uP (qm k0 _ _) fun r1 _ => (uR .ret xF)))
end
def jI (x1 : Bool) : Option Bool := some x1
def lV (p1 p2 : af) : Option Bool := ay (bR p1) fun r1 => ax (r1 == 0) (ay (bR p2) fun r2 => ax (r2 == 0) (ay (ga ba p1 p2) fun r3 => jI r3) (jI false)) (jI false)
theorem v6 (p1 p2 : af) : CT Tryz.prog 15 [.ag [ci p1.kind, ci p1.scale, cl au p1.fields], .ag [ci p2.kind, ci p2.scale, cl au p2.fields]] (lV p1 p2) vb :=
  eB 18 [] Tryz.f15 fun r => (uQ (kS Tryz.f15 [1,0] 1) fun K2 hK2 => have hJ1 : ∀ (x1 : Bool), jI x1 = some r → K2.p [(4, vb x1)] [] := fun x1 h => hK2 h (uR .ret xF); (uP (gF _) fun r1 _ => (uC (uP (gF _) fun r2 _ => (uC (uP (qm ba _ _) fun r3 _ => (uJ (hJ1 r3))) (uJ (hJ1 false)))) (uJ (hJ1 false)))))
def jH (x1 : Bool) : Option Bool := some x1
def gU (p1 : Int) : Option Bool := ax (p1 == 2) (jH true) (jH (p1 == 3))
theorem km (p1 : Int) : CT Tryz.prog 67 [vi p1] (gU p1) vb :=
  eB 9 [] Tryz.f67 fun r => (uQ (kS Tryz.f67 [1,0] 1) fun K2 hK2 => have hJ1 : ∀ (x1 : Bool), jH x1 = some r → K2.p [(2, vb x1)] [] := fun x1 h => hK2 h (uR .ret xF); (uC (uJ (hJ1 true)) (uJ (hJ1 (p1 == 3)))))
def vY : Option Bool := some true
def gg (q_ref1_can : af → af → Option Bool) (p1 p2 : af) : Nat → Int → Option Bool
 | 0, _ => none
 | k1 + 1, x3 => ax (decide (x3 < (p1.fields.length : Int))) (ay (at? p1.fields x3) fun e3 => ay (at? p2.fields x3) fun e4 => ay (q_ref1_can e3.type e4.type) fun r2 => ax (!r2) (some false) ((gg q_ref1_can p1 p2 k1) (IntKind.i64.wrap (x3 + 1)))) (vY)
def kJ (x8 : Bool) : Option Bool := ax x8 (some true) (some false)
def mC (p1 p2 : af) (x7 : Bool) : Option Bool := ax x7 (kJ x7) (ax (p2.kind == 2) (ax (p1.kind == 1) (kJ true) (kJ (p1.kind == 5))) (kJ false))
def oo (p1 p2 : af) (x6 : Bool) : Option Bool := ax x6 (some true) (ax (p1.kind == 2) (ax (p2.kind == 1) (mC p1 p2 true) (mC p1 p2 (p2.kind == 5))) (mC p1 p2 false))
def mK (p1 p2 : af) (x5 : Bool) : Option Bool := ax x5 (some true) (ax (p1.kind == 4) (oo p1 p2 (p1.kind == 4)) (oo p1 p2 (p2.kind == 4)))
def kM (p1 p2 : af) (x4 : Bool) : Option Bool := ax x4 (some false) (ax (p1.kind == p2.kind) (mK p1 p2 (p1.kind == p2.kind)) (ay (gU p1.kind) fun r5 => ax r5 (ay (gU p2.kind) fun r6 => mK p1 p2 r6) (mK p1 p2 false)))
def io (q_ref1_can : af → af → Option Bool) (p1 p2 : af) (x2 : Bool) : Option Bool := ax x2 (ax ((p1.fields.length : Int) != (p2.fields.length : Int)) (some false) (gg q_ref1_can p1 p2 ba (0 : Int))) (ay (eR p1.kind) fun r3 => ax (!r3) (kM p1 p2 true) (ay (eR p2.kind) fun r4 => kM p1 p2 (!r4)))
def gE (q_ref1_can : af → af → Option Bool) (p1 p2 : af) (x1 : Bool) : Option Bool := ax x1 (ay (at? p1.fields (0 : Int)) fun e1 => ay (at? p2.fields (0 : Int)) fun e2 => ay (q_ref1_can e1.type e2.type) fun r1 => some r1) (ax (p1.kind == 7) (io q_ref1_can p1 p2 (p2.kind == 7)) (io q_ref1_can p1 p2 false))
def eL : Nat → af → af → Option Bool
 | 0, _, _ => none
 | k0 + 1, p1, p2 => ax (p1.kind == 6) (gE (eL k0) p1 p2 (p2.kind == 6)) (gE (eL k0) p1 p2 false)
theorem qe : ∀ (k0 : Nat) (p1 p2 : af), CT Tryz.prog 33 [.ag [ci p1.kind, ci p1.scale, cl au p1.fields], .ag [ci p2.kind, ci p2.scale, cl au p2.fields]] (eL k0 p1 p2) vb
  | 0, _, _ => wv (eL.eq_1 ..)
  | k0 + 1, p1, p2 => eB 122 [] Tryz.f33 fun r => (uU (eL.eq_2 ..) (uQ (kS Tryz.f33 [1,0,0,0] 3) fun K3 hK3 => have hJ1 : ∀ (x1 : Bool), gE (eL k0) p1 p2 x1 = some r → K3.p [(2, .one (.pv (.rp [(bL p1)] 0 0))), (3, .one (.pv (.rp [(bL p2)] 0 0))), (6, vb x1)] [] := fun x1 h => hK3 h (uC (nr 10 (uL au fun e1 a7 => (uL au fun e2 a8 => (uP (qe k0 _ _) fun r1 _ => (uR .ret xF))))) (uQ (kS Tryz.f33 [1,0,0,1,1,0] 3) fun K10 hK10 => have hJ2 : ∀ (x2 : Bool), io (eL k0) p1 p2 x2 = some r → K10.p [(2, .one (.pv (.rp [(bL p1)] 0 0))), (3, .one (.pv (.rp [(bL p2)] 0 0))), (26, vb x2)] [] := fun x2 h => hK10 h (uC (uN au p1.fields (uN au p2.fields (uC (uR .ret xF) (uQ (kS Tryz.f33 [1,0,0,1,1,1,0,1,0] 3) fun K17 hK17 => have hJ3 : ∀ (_ : Unit), vY = some r → K17.p [] [] := fun _ h => hK17 h (uR .ret xF); (uN au p1.fields (uO (cd Tryz.f33 [1,0,0,1,1,1,0,1,0,1,0,0]) (kS Tryz.f33 [1,0,0,1,1,1,0,1,0,1,0] 1) fun R1 b1 => have hL1 : ∀ (k1 : Nat) (x3 : Int), gg (eL k0) p1 p2 k1 x3 = some r → (R1 k1).p [(2, .one (.pv (.rp [(bL p1)] 0 0))), (3, .one (.pv (.rp [(bL p2)] 0 0))), (44, vi (p1.fields.length : Int)), (45, vi x3)] [] := by intro k1; induction k1 with | zero => intro x3 h; exact lU (gg.eq_1 ..) h | succ k1 ih1 => intro x3 h; exact b1 h (uU (gg.eq_2 ..) (uC (nr 12 (uL au fun e3 a25 => (uL au fun e4 a26 => (uP (qe k0 _ _) fun r2 _ => (uC (uR .ret (xN (xN xF))) (uJ (ih1 (IntKind.i64.wrap (x3 + 1))))))))) (uR (.exit 1) (xM (uJ (hJ3 ()))))))
 uE (hL1 ba (0 : Int)))))))) (uQ (kS Tryz.f33 [1,0,0,1,1,1,1,0] 3) fun K31 hK31 => have hJ4 : ∀ (x4 : Bool), kM p1 p2 x4 = some r → K31.p [(2, .one (.pv (.rp [(bL p1)] 0 0))), (3, .one (.pv (.rp [(bL p2)] 0 0))), (63, vb x4)] [] := fun x4 h => hK31 h (uC (uR .ret xF) (uQ (kS Tryz.f33 [1,0,0,1,1,1,1,1,1,0] 3) fun K37 hK37 => have hJ5 : ∀ (x5 : Bool), mK p1 p2 x5 = some r → K37.p [(2, .one (.pv (.rp [(bL p1)] 0 0))), (3, .one (.pv (.rp [(bL p2)] 0 0))), (74, vb x5)] [] := fun x5 h => hK37 h (uC (uR .ret xF) (uQ (kS Tryz.f33 [1,0,0,1,1,1,1,1,1,1,1,0] 3) fun K45 hK45 => have hJ6 : ∀ (x6 : Bool), oo p1 p2 x6 = some r → K45.p [(2, .one (.pv (.rp [(bL p1)] 0 0))), (3, .one (.pv (.rp [(bL p2)] 0 0))), (88, vb x6)] [] := fun x6 h => hK45 h (uC (uR .ret xF) (uQ (kS Tryz.f33 [1,0,0,1,1,1,1,1,1,1,1,1,1,0] 3) fun K50 hK50 => have hJ8 : ∀ (x8 : Bool), kJ x8 = some r → K50.p [(95, vb x8)] [] := fun x8 h => hK50 h (uC (uR .ret xF) (uR .ret xF)); (uQ (kS Tryz.f33 [1,0,0,1,1,1,1,1,1,1,1,1,1,0,0] 1) fun K51 hK51 => have hJ7 : ∀ (x7 : Bool), mC p1 p2 x7 = some r → K51.p [(2, .one (.pv (.rp [(bL p1)] 0 0))), (3, .one (.pv (.rp [(bL p2)] 0 0))), (95, vb x7)] [] := fun x7 h => hK51 h (uC (uJ (hJ8 x7)) (uC (uC (uJ (hJ8 true)) (uJ (hJ8 (p1.kind == 5)))) (uJ (hJ8 false)))); (uC (uC (uJ (hJ7 true)) (uJ (hJ7 (p2.kind == 5)))) (uJ (hJ7 false)))))); (uC (uJ (hJ6 (p1.kind == 4))) (uJ (hJ6 (p2.kind == 4)))))); (uC (uJ (hJ5 (p1.kind == p2.kind))) (uP (km _) fun r5 _ => (uC (uP (km _) fun r6 _ => (uJ (hJ5 r6))) (uJ (hJ5 false))))))); (uP (fZ _) fun r3 _ => (uC (uJ (hJ4 true)) (uP (fZ _) fun r4 _ => (uJ (hJ4 (!r4)))))))); (uC (uJ (hJ2 (p2.kind == 7))) (uJ (hJ2 false))))); (uC (uJ (hJ1 (p2.kind == 6))) (uJ (hJ1 false)))))
def my (x1 : Bool) : Option Bool := some x1
def tA (p1 p2 : af) : Option Bool := ay (dH p1) fun r1 => ax (r1 == 0) (ay (dH p2) fun r2 => ax (r2 == 0) (ay (eL ba p1 p2) fun r3 => my r3) (my false)) (my false)
theorem CC (p1 p2 : af) : CT Tryz.prog 16 [.ag [ci p1.kind, ci p1.scale, cl au p1.fields], .ag [ci p2.kind, ci p2.scale, cl au p2.fields]] (tA p1 p2) vb :=
  eB 18 [] Tryz.f16 fun r => (uQ (kS Tryz.f16 [1,0] 1) fun K2 hK2 => have hJ1 : ∀ (x1 : Bool), my x1 = some r → K2.p [(4, vb x1)] [] := fun x1 h => hK2 h (uR .ret xF); (uP (ik _) fun r1 _ => (uC (uP (ik _) fun r2 _ => (uC (uP (qe ba _ _) fun r3 _ => (uJ (hJ1 r3))) (uJ (hJ1 false)))) (uJ (hJ1 false)))))
def oj : Option Bool := some true
def cF (q_value_canValue : ac → af → Option Bool) (p1 : ac) (p2 : af) : Nat → Int → Option Bool
 | 0, _ => none
 | k1 + 1, x2 => ax (decide (x2 < (p1.items.length : Int))) (ay (at? p1.items x2) fun e1 => ay (dq p2 x2) fun r2 => ay (q_value_canValue e1 r2.type) fun r3 => ax (!r3) (some false) ((cF q_value_canValue p1 p2 k1) (IntKind.i64.wrap (x2 + 1)))) (oj)
def bS (q_value_canValue : ac → af → Option Bool) (p1 : ac) (p2 : af) (x1 : Bool) : Option Bool := ax x1 (some false) (cF q_value_canValue p1 p2 ba (0 : Int))
def bw : Nat → ac → af → Option Bool
 | 0, _, _ => none
 | k0 + 1, p1, p2 => ax (p1.kind == 0) (some true) (ay (o9 p1.kind p2.kind) fun r1 => ax (!r1) (bS (bw k0) p1 p2 true) (ax (p1.kind == 7) (bS (bw k0) p1 p2 ((p1.items.length : Int) != (p2.fields.length : Int))) (bS (bw k0) p1 p2 false)))
theorem oX : ∀ (k0 : Nat) (p1 : ac) (p2 : af), CT Tryz.prog 34 [.ag [ci p1.kind, ci p1.n, ci p1.scale, eG p1.s, cl ak p1.items], .ag [ci p2.kind, ci p2.scale, cl au p2.fields]] (bw k0 p1 p2) vb
  | 0, _, _ => wv (bw.eq_1 ..)
  | k0 + 1, p1, p2 => eB 48 [6] Tryz.f34 fun r => (uU (bw.eq_2 ..) (uC (uR .ret xF) (uQ (kS Tryz.f34 [1,0,0,1,1,0] 3) fun K6 hK6 => have hJ1 : ∀ (x1 : Bool), bS (bw k0) p1 p2 x1 = some r → K6.p [(2, .one (.pv (.rp [[pi p1.kind, pi p1.n, pi p1.scale, .s (.string p1.s), .ro (ak.els p1.items)]] 0 0))), (3, .one (.pv (.rp [[pi p2.kind, pi p2.scale, .ro (au.els p2.fields)]] 0 0))), (11, vb x1)] [] := fun x1 h => hK6 h (uC (uR .ret xF) (uQ (kS Tryz.f34 [1,1,0] 1) fun K12 hK12 => have hJ2 : ∀ (_ : Unit), oj = some r → K12.p [] [] := fun _ h => hK12 h (uR .ret xF); (uN ak p1.items (uO (cd Tryz.f34 [1,1,0,1,0,0]) (kS Tryz.f34 [1,1,0,1,0] 1) fun R1 b1 => have hL1 : ∀ (k1 : Nat) (x2 : Int), cF (bw k0) p1 p2 k1 x2 = some r → (R1 k1).p [(3, .one (.pv (.rp [[pi p2.kind, pi p2.scale, .ro (au.els p2.fields)]] 0 0))), (33, vl ak p1.items), (34, vi (p1.items.length : Int)), (35, vi x2)] [] := by intro k1; induction k1 with | zero => intro x2 h; exact lU (cF.eq_1 ..) h | succ k1 ih1 => intro x2 h; exact b1 h (uU (cF.eq_2 ..) (uC (uL ak fun e1 a19 => (nr 5 (uP (l7 _ _) fun r2 _ => (uP (oX k0 _ _) fun r3 _ => (uC (uR .ret (xN (xN xF))) (uJ (ih1 (IntKind.i64.wrap (x2 + 1))))))))) (uR (.exit 1) (xM (uJ (hJ2 ()))))))
 uE (hL1 ba (0 : Int)))))); (uP (vV _ _) fun r1 _ => (uC (uJ (hJ1 true)) (uC (uN ak p1.items (uN au p2.fields (uJ (hJ1 ((p1.items.length : Int) != (p2.fields.length : Int)))))) (uJ (hJ1 false))))))))
def dk (p1 : (List ac)) : Option (List ac) := bB (0 ≤ (0 : Int) ∧ (0 : Int) ≤ (p1.length : Int) ∧ (p1.length : Int) ≤ (p1.length : Int) ∧ (p1.length : Int) ≤ (p1.length : Int)) <| some ((p1.drop (0 : Int).toNat).take ((p1.length : Int).toNat - (0 : Int).toNat))
theorem kO (p1 : (List ac)) : CT Tryz.prog 104 [vl ak p1] (dk p1) (vl ak) :=
  eB 9 [] Tryz.f104 fun r => (uN ak p1 (uN ak p1 (Nv ak (uR .ret xF))))
def dK (p1 p2 : Int) (p3 : ByteArray) : Option ac := ax (p3.toList == (ByteArray.mk #[110, 117, 108, 108]).toList) (some (ac.mk (0 : Int) (0 : Int) (0 : Int) ByteArray.empty [])) (ay (gb (af.mk p1 p2 []) p3) fun r1 => some r1.1)
theorem nW (p1 p2 : Int) (p3 : ByteArray) : CT Tryz.prog 105 [vi p1, vi p2, vs p3] (dK p1 p2 p3) (fun r => .ag [ci r.kind, ci r.n, ci r.scale, eG r.s, cl ak r.items]) :=
  eB 21 [6, 7] Tryz.f105 fun r => (uC (uR .ret xF) (uP (yl _ _) fun r1 _ => (uR .ret xF)))
def ff (p1 : aE) (x1 : Bool) : Option (Int × Bool) := ax x1 (some ((0 : Int), false)) (ax p1.neg (some ((IntKind.i64.wrap (0 - (IntKind.i64.wrap p1.size.1))), true)) (some ((IntKind.i64.wrap p1.size.1), true)))
def ja (p1 : aE) : Option (Int × Bool) := ay (some (IntKind.u64.wrap (BitVec.ofInt (IntKind.u64).bits p1.size.2.1 ||| BitVec.ofInt (IntKind.u64).bits p1.size.2.2.1).toNat)) fun y1 => ay (some (IntKind.u64.wrap (BitVec.ofInt (IntKind.u64).bits y1 ||| BitVec.ofInt (IntKind.u64).bits p1.size.2.2.2).toNat)) fun y2 => ax (y2 != 0) (ff p1 true) (ff p1 (decide ((9223372036854775808 : Int) ≤ p1.size.1)))
theorem si (p1 : aE) : CT Tryz.prog 106 [.ag [cb p1.neg, ck .u64 p1.size.1, ck .u64 p1.size.2.1, ck .u64 p1.size.2.2.1, ck .u64 p1.size.2.2.2]] (ja p1) (fun r => .tp [vi r.1, vb r.2]) :=
  eB 33 [] Tryz.f106 fun r => (Nu 10 (kS Tryz.f106 [1,0,0] 2) fun K3 hK3 => have hJ1 : ∀ (x1 : Bool), ff p1 x1 = some r → K3.p [(1, .one (.pv (.rp [[.s (.bool p1.neg), .s (.int .u64 p1.size.1), .s (.int .u64 p1.size.2.1), .s (.int .u64 p1.size.2.2.1), .s (.int .u64 p1.size.2.2.2)]] 0 0))), (21, vb x1)] [] := fun x1 h => hK3 h (uC (uR .ret xF) (uC (uR .ret xF) (uR .ret xF))); (uY 10 (vk .u64) fun y1 => (uY 14 (vk .u64) fun y2 => (uC (uJ (hJ1 true)) (uJ (hJ1 (decide ((9223372036854775808 : Int) ≤ p1.size.1))))))))
def l9 (p1 p3 : Int) (r1 : (Int × Bool)) (x1 : Bool) : Option ac := ax x1 (some (ac.mk (0 : Int) (0 : Int) (0 : Int) ByteArray.empty [])) (some (ac.mk p1 r1.1 p3 ByteArray.empty []))
def lZ (p1 : Int) (p2 : aE) (p3 : Int) : Option ac := ay (ja (aE.mk p2.neg (p2.size.1, p2.size.2.1, p2.size.2.2.1, p2.size.2.2.2))) fun r1 => ax (!r1.2) (l9 p1 p3 r1 true) (ay (im (ac.mk p1 r1.1 p3 ByteArray.empty [])) fun r2 => l9 p1 p3 r1 (!r2))
theorem zR (p1 : Int) (p2 : aE) (p3 : Int) : CT Tryz.prog 71 [vi p1, .ag [cb p2.neg, ck .u64 p2.size.1, ck .u64 p2.size.2.1, ck .u64 p2.size.2.2.1, ck .u64 p2.size.2.2.2], vi p3] (lZ p1 p2 p3) (fun r => .ag [ci r.kind, ci r.n, ci r.scale, eG r.s, cl ak r.items]) :=
  eB 28 [6, 9] Tryz.f71 fun r => (uP (si _) fun r1 _ => (uQ (kS Tryz.f71 [1,1,1,0,0] 2) fun K6 hK6 => have hJ1 : ∀ (x1 : Bool), l9 p1 p3 r1 x1 = some r → K6.p [(6, .one (.pt 0 0 0 0)), (9, .one (.pt 1 0 0 0)), (25, vb x1)] [.box [ci (0 : Int), ci (0 : Int), ci (0 : Int), eG ByteArray.empty, .pv (.s (.slice none 0 0))], .box [ci p1, ci r1.1, ci p3, eG ByteArray.empty, .pv (.s (.slice none 0 0))]] := fun x1 h => hK6 h (uC (uR .ret xF) (uR .ret xF)); (uC (uJ (hJ1 true)) (uP (kl _) fun r2 _ => (uJ (hJ1 (!r2)))))))
def fx (p1 p2 : Int) : Option (Int × Int) := ay (some (IntKind.u64.wrap (BitVec.ofInt (IntKind.u64).bits p1 &&& BitVec.ofInt (IntKind.u64).bits (4294967295 : Int)).toNat)) fun y1 => ay (some (IntKind.u64.wrap (BitVec.ofInt (IntKind.u64).bits p2 &&& BitVec.ofInt (IntKind.u64).bits (4294967295 : Int)).toNat)) fun y2 => ay (some (IntKind.u64.wrap ((p1.fdiv (2 ^ (min (32 : Int).toNat (IntKind.u64).bits))) * y2))) fun y3 => ay (some ((IntKind.u64.wrap (y1 * y2)).fdiv (2 ^ (min (32 : Int).toNat (IntKind.u64).bits)))) fun y4 => ay (some (IntKind.u64.wrap (BitVec.ofInt (IntKind.u64).bits (IntKind.u64.wrap (y3 + y4)) &&& BitVec.ofInt (IntKind.u64).bits (4294967295 : Int)).toNat)) fun y5 => ay (some ((IntKind.u64.wrap (y3 + y4)).fdiv (2 ^ (min (32 : Int).toNat (IntKind.u64).bits)))) fun y6 => ay (some (IntKind.u64.wrap (y1 * (p2.fdiv (2 ^ (min (32 : Int).toNat (IntKind.u64).bits)))))) fun y7 => ay (some (IntKind.u64.wrap ((p1.fdiv (2 ^ (min (32 : Int).toNat (IntKind.u64).bits))) * (p2.fdiv (2 ^ (min (32 : Int).toNat (IntKind.u64).bits)))))) fun y8 => ay (some ((IntKind.u64.wrap (y5 + y7)).fdiv (2 ^ (min (32 : Int).toNat (IntKind.u64).bits)))) fun y9 => some ((IntKind.u64.wrap ((IntKind.u64.wrap (y8 + y6)) + y9)), (IntKind.u64.wrap (p1 * p2)))
theorem i6 (p1 p2 : Int) : CT Tryz.prog 174 [vk .u64 p1, vk .u64 p2] (fx p1 p2) (fun r => .tp [vk .u64 r.1, vk .u64 r.2]) :=
  eB 51 [] Tryz.f174 fun r => (uY 15 (vk .u64) fun y1 => (uY 19 (vk .u64) fun y2 => (uY 27 (vk .u64) fun y3 => (uY 29 (vk .u64) fun y4 => (uY 32 (vk .u64) fun y5 => (uY 34 (vk .u64) fun y6 => (uY 38 (vk .u64) fun y7 => (uY 42 (vk .u64) fun y8 => (uY 46 (vk .u64) fun y9 => (uR .ret xF))))))))))
def cU (p1 : aE) (p2 : Int) : Option aE := ay (fx p1.size.1 p2) fun r1 => bB (0 ≤ r1.2 ∧ 0 ≤ (0 : Int) ∧ 0 ≤ (0 : Int) ∧ (0 : Int) ≤ 1) <| ay (some (IntKind.u64.wrap (r1.1 + ((r1.2 + 0 + (0 : Int)) / 18446744073709551616)))) fun y1 => ay (fx p1.size.2.1 p2) fun r2 => bB (0 ≤ r2.2 ∧ 0 ≤ y1 ∧ 0 ≤ (0 : Int) ∧ (0 : Int) ≤ 1) <| ay (some (IntKind.u64.wrap (r2.1 + ((r2.2 + y1 + 0) / 18446744073709551616)))) fun y2 => ay (fx p1.size.2.2.1 p2) fun r3 => bB (0 ≤ r3.2 ∧ 0 ≤ y2 ∧ 0 ≤ (0 : Int) ∧ (0 : Int) ≤ 1) <| ay (some (IntKind.u64.wrap (r3.1 + ((r3.2 + y2 + 0) / 18446744073709551616)))) fun y3 => ay (fx p1.size.2.2.2 p2) fun r4 => bB (0 ≤ r4.2 ∧ 0 ≤ y3 ∧ 0 ≤ (0 : Int) ∧ (0 : Int) ≤ 1) <| ay (some (IntKind.u64.wrap (r4.1 + ((r4.2 + y3 + 0) / 18446744073709551616)))) fun y4 => some (aE.mk p1.neg (((r1.2 + 0 + (0 : Int)) % 18446744073709551616), ((r2.2 + y1 + 0) % 18446744073709551616), ((r3.2 + y2 + 0) % 18446744073709551616), ((r4.2 + y3 + 0) % 18446744073709551616)))
theorem ky (p1 : aE) (p2 : Int) : CT Tryz.prog 140 [.ag [cb p1.neg, ck .u64 p1.size.1, ck .u64 p1.size.2.1, ck .u64 p1.size.2.2.1, ck .u64 p1.size.2.2.2], vk .u64 p2] (cU p1 p2) (fun r => .ag [cb r.neg, ck .u64 r.size.1, ck .u64 r.size.2.1, ck .u64 r.size.2.2.1, ck .u64 r.size.2.2.2]) :=
  eB 37 [2, 4] Tryz.f140 fun r => (KO 4 (uP (i6 _ _) fun r1 _ => (Bp 175 Tryz.f175 (uY 34 (vk .u64) fun y1 => (uP (i6 _ _) fun r2 _ => (Bp 175 Tryz.f175 (uY 34 (vk .u64) fun y2 => (uP (i6 _ _) fun r3 _ => (Bp 175 Tryz.f175 (uY 34 (vk .u64) fun y3 => (uP (i6 _ _) fun r4 _ => (Bp 175 Tryz.f175 (uY 34 (vk .u64) fun y4 => (uR .ret xF))))))))))))))
def lI (z6 : Bool) (z7 z8 z9 z10 : Int) : Option aE := some (aE.mk z6 (z7, z8, z9, z10))
def cp (p2 : Int) : Nat → Bool → Int → Int → Int → Int → Int → Option aE
 | 0, _, _, _, _, _, _ => none
 | k1 + 1, z1, z2, z3, z4, z5, x1 => ax (decide (x1 < p2)) (ay (cU (aE.mk z1 (z2, z3, z4, z5)) (10 : Int)) fun r1 => (cp p2 k1) r1.neg r1.size.1 r1.size.2.1 r1.size.2.2.1 r1.size.2.2.2 (IntKind.i64.wrap (x1 + 1))) (lI z1 z2 z3 z4 z5)
def iH (p1 : aE) (p2 : Int) : Option aE := cp p2 ba p1.neg p1.size.1 p1.size.2.1 p1.size.2.2.1 p1.size.2.2.2 (0 : Int)
abbrev AP : List CV := [cb false, ck .u64 (0 : Int), ck .u64 (0 : Int), ck .u64 (0 : Int), ck .u64 (0 : Int)]
theorem mB (p1 : aE) (p2 : Int) : CT Tryz.prog 107 [.ag [cb p1.neg, ck .u64 p1.size.1, ck .u64 p1.size.2.1, ck .u64 p1.size.2.2.1, ck .u64 p1.size.2.2.2], vi p2] (iH p1 p2) (fun r => .ag [cb r.neg, ck .u64 r.size.1, ck .u64 r.size.2.1, ck .u64 r.size.2.2.1, ck .u64 r.size.2.2.2]) :=
  eB 12 [2, 4] Tryz.f107 fun r => (uQ (kS Tryz.f107 [1,0] 1) fun K2 hK2 => have hJ1 : ∀ (z6 : Bool) (z7 z8 z9 z10 : Int), lI z6 z7 z8 z9 z10 = some r → K2.p [(2, .one (.pt 0 0 0 0)), (4, .one (.pt 1 0 0 0))] [.box [cb z6, ck .u64 z7, ck .u64 z8, ck .u64 z9, ck .u64 z10], .box AP] := fun z6 z7 z8 z9 z10 h => hK2 h (uR .ret xF); (uO (cd Tryz.f107 [1,0,1,0,0]) (kS Tryz.f107 [1,0,1,0] 1) fun R1 b1 => have hL1 : ∀ (k1 : Nat) (z1 : Bool) (z2 z3 z4 z5 x1 : Int), cp p2 k1 z1 z2 z3 z4 z5 x1 = some r → (R1 k1).p [(2, .one (.pt 0 0 0 0)), (4, .one (.pt 1 0 0 0)), (5, vi p2), (6, vi x1)] [.box [cb z1, ck .u64 z2, ck .u64 z3, ck .u64 z4, ck .u64 z5], .box AP] := by intro k1; induction k1 with | zero => intro z1 z2 z3 z4 z5 x1 h; exact lU (cp.eq_1 ..) h | succ k1 ih1 => intro z1 z2 z3 z4 z5 x1 h; exact b1 h (uU (cp.eq_2 ..) (uC (uP (ky _ _) fun r1 _ => (uJ (ih1 r1.neg r1.size.1 r1.size.2.1 r1.size.2.2.1 r1.size.2.2.2 (IntKind.i64.wrap (x1 + 1))))) (uR (.exit 0) (xM (uJ (hJ1 z1 z2 z3 z4 z5))))))
 uE (hL1 ba p1.neg p1.size.1 p1.size.2.1 p1.size.2.2.1 p1.size.2.2.2 (0 : Int))))
def df (p1 p2 : aE) : Option Int := ax (decide (p1.size.2.2.2 < p2.size.2.2.2)) (some (-1 : Int)) (ax (decide (p2.size.2.2.2 < p1.size.2.2.2)) (some (1 : Int)) (ax (decide (p1.size.2.2.1 < p2.size.2.2.1)) (some (-1 : Int)) (ax (decide (p2.size.2.2.1 < p1.size.2.2.1)) (some (1 : Int)) (ax (decide (p1.size.2.1 < p2.size.2.1)) (some (-1 : Int)) (ax (decide (p2.size.2.1 < p1.size.2.1)) (some (1 : Int)) (ax (decide (p1.size.1 < p2.size.1)) (some (-1 : Int)) (ax (decide (p2.size.1 < p1.size.1)) (some (1 : Int)) (some (0 : Int)))))))))
theorem jR (p1 p2 : aE) : CT Tryz.prog 142 [.ag [cb p1.neg, ck .u64 p1.size.1, ck .u64 p1.size.2.1, ck .u64 p1.size.2.2.1, ck .u64 p1.size.2.2.2], .ag [cb p2.neg, ck .u64 p2.size.1, ck .u64 p2.size.2.1, ck .u64 p2.size.2.2.1, ck .u64 p2.size.2.2.2]] (df p1 p2) vi :=
  eB 30 [] Tryz.f142 fun r => (KO 4 (nr 8 (uC (uR .ret xF) (nr 8 (uC (uR .ret xF) (nr 8 (uC (uR .ret xF) (nr 8 (uC (uR .ret xF) (nr 8 (uC (uR .ret xF) (nr 8 (uC (uR .ret xF) (nr 8 (uC (uR .ret xF) (nr 8 (uC (uR .ret xF) (uR .ret xF))))))))))))))))))
def gn (p1 : aE) : Option aE := some (aE.mk (!p1.neg) (p1.size.1, p1.size.2.1, p1.size.2.2.1, p1.size.2.2.2))
theorem jr (p1 : aE) : CT Tryz.prog 177 [.ag [cb p1.neg, ck .u64 p1.size.1, ck .u64 p1.size.2.1, ck .u64 p1.size.2.2.1, ck .u64 p1.size.2.2.2]] (gn p1) (fun r => .ag [cb r.neg, ck .u64 r.size.1, ck .u64 r.size.2.1, ck .u64 r.size.2.2.1, ck .u64 r.size.2.2.2]) :=
  eB 8 [1, 2] Tryz.f177 fun r => (uR .ret xF)
def eA (z1 : Bool) (z2 z3 z4 z5 : Int) (z6 : Bool) (z7 z8 z9 z10 : Int) : Option aE := bB (0 ≤ z2 ∧ 0 ≤ z7 ∧ z7 < 18446744073709551616 ∧ 0 ≤ (0 : Int) ∧ (0 : Int) ≤ 1) <| bB (0 ≤ z3 ∧ 0 ≤ z8 ∧ z8 < 18446744073709551616 ∧ 0 ≤ (if z2 < z7 + 0 then (1 : Int) else 0) ∧ (if z2 < z7 + 0 then (1 : Int) else 0) ≤ 1) <| ay (some ((z3 - z8 - (if z2 < z7 + 0 then (1 : Int) else 0)) % 18446744073709551616)) fun y1 => ay (some (if z3 < z8 + (if z2 < z7 + 0 then (1 : Int) else 0) then (1 : Int) else 0)) fun y2 => bB (0 ≤ z4 ∧ 0 ≤ z9 ∧ z9 < 18446744073709551616 ∧ 0 ≤ y2 ∧ y2 ≤ 1) <| bB (0 ≤ z5 ∧ 0 ≤ z10 ∧ z10 < 18446744073709551616 ∧ 0 ≤ (if z4 < z9 + y2 then (1 : Int) else 0) ∧ (if z4 < z9 + y2 then (1 : Int) else 0) ≤ 1) <| ay (some ((z5 - z10 - (if z4 < z9 + y2 then (1 : Int) else 0)) % 18446744073709551616)) fun y3 => ay (some (if z5 < z10 + (if z4 < z9 + y2 then (1 : Int) else 0) then (1 : Int) else 0)) fun y4 => some (aE.mk z1 (((z2 - z7 - 0) % 18446744073709551616), y1, ((z4 - z9 - y2) % 18446744073709551616), y3))
mutual
def dV : Nat → aE → aE → Option aE
 | 0, _, _ => none
 | k0 + 1, p1, p2 => ax (!(p1.neg == p2.neg)) (ay (gn (aE.mk p2.neg (p2.size.1, p2.size.2.1, p2.size.2.2.1, p2.size.2.2.2))) fun r1 => ay ((dM k0) (aE.mk p1.neg (p1.size.1, p1.size.2.1, p1.size.2.2.1, p1.size.2.2.2)) (aE.mk r1.neg (r1.size.1, r1.size.2.1, r1.size.2.2.1, r1.size.2.2.2))) fun r2 => some (aE.mk r2.neg (r2.size.1, r2.size.2.1, r2.size.2.2.1, r2.size.2.2.2))) (ay (df (aE.mk p1.neg (p1.size.1, p1.size.2.1, p1.size.2.2.1, p1.size.2.2.2)) (aE.mk p2.neg (p2.size.1, p2.size.2.1, p2.size.2.2.1, p2.size.2.2.2))) fun r3 => ax (decide (r3 < (0 : Int))) (ay (gn (aE.mk p2.neg (p2.size.1, p2.size.2.1, p2.size.2.2.1, p2.size.2.2.2))) fun r4 => eA r4.neg r4.size.1 r4.size.2.1 r4.size.2.2.1 r4.size.2.2.2 p1.neg p1.size.1 p1.size.2.1 p1.size.2.2.1 p1.size.2.2.2) (eA p1.neg p1.size.1 p1.size.2.1 p1.size.2.2.1 p1.size.2.2.2 p2.neg p2.size.1 p2.size.2.1 p2.size.2.2.1 p2.size.2.2.2))
def dM : Nat → aE → aE → Option aE
 | 0, _, _ => none
 | k0 + 1, p1, p2 => ax (!(p1.neg == p2.neg)) (ay (gn (aE.mk p2.neg (p2.size.1, p2.size.2.1, p2.size.2.2.1, p2.size.2.2.2))) fun r1 => ay ((dV k0) (aE.mk p1.neg (p1.size.1, p1.size.2.1, p1.size.2.2.1, p1.size.2.2.2)) (aE.mk r1.neg (r1.size.1, r1.size.2.1, r1.size.2.2.1, r1.size.2.2.2))) fun r2 => some (aE.mk r2.neg (r2.size.1, r2.size.2.1, r2.size.2.2.1, r2.size.2.2.2))) (bB (0 ≤ p1.size.1 ∧ 0 ≤ p2.size.1 ∧ 0 ≤ (0 : Int) ∧ (0 : Int) ≤ 1) <| bB (0 ≤ p1.size.2.1 ∧ 0 ≤ p2.size.2.1 ∧ 0 ≤ ((p1.size.1 + p2.size.1 + 0) / 18446744073709551616) ∧ ((p1.size.1 + p2.size.1 + 0) / 18446744073709551616) ≤ 1) <| ay (some ((p1.size.2.1 + p2.size.2.1 + ((p1.size.1 + p2.size.1 + 0) / 18446744073709551616)) % 18446744073709551616)) fun y1 => ay (some ((p1.size.2.1 + p2.size.2.1 + ((p1.size.1 + p2.size.1 + 0) / 18446744073709551616)) / 18446744073709551616)) fun y2 => bB (0 ≤ p1.size.2.2.1 ∧ 0 ≤ p2.size.2.2.1 ∧ 0 ≤ y2 ∧ y2 ≤ 1) <| bB (0 ≤ p1.size.2.2.2 ∧ 0 ≤ p2.size.2.2.2 ∧ 0 ≤ ((p1.size.2.2.1 + p2.size.2.2.1 + y2) / 18446744073709551616) ∧ ((p1.size.2.2.1 + p2.size.2.2.1 + y2) / 18446744073709551616) ≤ 1) <| ay (some ((p1.size.2.2.2 + p2.size.2.2.2 + ((p1.size.2.2.1 + p2.size.2.2.1 + y2) / 18446744073709551616)) % 18446744073709551616)) fun y3 => ay (some ((p1.size.2.2.2 + p2.size.2.2.2 + ((p1.size.2.2.1 + p2.size.2.2.1 + y2) / 18446744073709551616)) / 18446744073709551616)) fun y4 => some (aE.mk p1.neg (((p1.size.1 + p2.size.1 + 0) % 18446744073709551616), y1, ((p1.size.2.2.1 + p2.size.2.2.1 + y2) % 18446744073709551616), y3)))
end
mutual
theorem nY : ∀ (k0 : Nat) (p1 p2 : aE), CT Tryz.prog 176 [.ag [cb p1.neg, ck .u64 p1.size.1, ck .u64 p1.size.2.1, ck .u64 p1.size.2.2.1, ck .u64 p1.size.2.2.2], .ag [cb p2.neg, ck .u64 p2.size.1, ck .u64 p2.size.2.1, ck .u64 p2.size.2.2.1, ck .u64 p2.size.2.2.2]] (dV k0 p1 p2) (fun r => .ag [cb r.neg, ck .u64 r.size.1, ck .u64 r.size.2.1, ck .u64 r.size.2.2.1, ck .u64 r.size.2.2.2])
  | 0, _, _ => wv (dV.eq_1 ..)
  | k0 + 1, p1, p2 => eB 44 [2, 3, 4] Tryz.f176 fun r => (uU (dV.eq_2 ..) (uC (nr 3 (uP (jr _) fun r1 _ => (uP (ox k0 _ _) fun r2 _ => (uR .ret xF)))) (uQ (kS Tryz.f176 [1,1,0] 1) fun K8 hK8 => have hJ1 : ∀ (z1 : Bool) (z2 z3 z4 z5 : Int) (z6 : Bool) (z7 z8 z9 z10 : Int), eA z1 z2 z3 z4 z5 z6 z7 z8 z9 z10 = some r → K8.p [(2, .one (.pt 0 0 0 0)), (3, .one (.pt 1 0 0 0)), (4, .one (.pt 2 0 0 0))] [.box [cb z1, ck .u64 z2, ck .u64 z3, ck .u64 z4, ck .u64 z5], .box [cb z6, ck .u64 z7, ck .u64 z8, ck .u64 z9, ck .u64 z10], .box [cb false, ck .u64 (0 : Int), ck .u64 (0 : Int), ck .u64 (0 : Int), ck .u64 (0 : Int)]] := fun z1 z2 z3 z4 z5 z6 z7 z8 z9 z10 h => hK8 h (KO 4 (yc 17 0 [3] (IT 199 Tryz.f199 (yc 17 0 [3] (IT 199 Tryz.f199 (uY 38 (vk .u64) fun y1 => (uY 39 (vk .u64) fun y2 => (yc 17 0 [3] (IT 199 Tryz.f199 (yc 17 0 [3] (IT 199 Tryz.f199 (uY 38 (vk .u64) fun y3 => (uY 39 (vk .u64) fun y4 => (uR .ret xF)))))))))))))); (uP (jR _ _) fun r3 _ => (uC (nr 3 (uP (jr _) fun r4 _ => (uJ (hJ1 r4.neg r4.size.1 r4.size.2.1 r4.size.2.2.1 r4.size.2.2.2 p1.neg p1.size.1 p1.size.2.1 p1.size.2.2.1 p1.size.2.2.2)))) (uJ (hJ1 p1.neg p1.size.1 p1.size.2.1 p1.size.2.2.1 p1.size.2.2.2 p2.neg p2.size.1 p2.size.2.1 p2.size.2.2.1 p2.size.2.2.2)))))))
theorem ox : ∀ (k0 : Nat) (p1 p2 : aE), CT Tryz.prog 143 [.ag [cb p1.neg, ck .u64 p1.size.1, ck .u64 p1.size.2.1, ck .u64 p1.size.2.2.1, ck .u64 p1.size.2.2.2], .ag [cb p2.neg, ck .u64 p2.size.1, ck .u64 p2.size.2.1, ck .u64 p2.size.2.2.1, ck .u64 p2.size.2.2.2]] (dM k0 p1 p2) (fun r => .ag [cb r.neg, ck .u64 r.size.1, ck .u64 r.size.2.1, ck .u64 r.size.2.2.1, ck .u64 r.size.2.2.2])
  | 0, _, _ => wv (dM.eq_1 ..)
  | k0 + 1, p1, p2 => eB 37 [2, 4] Tryz.f143 fun r => (uU (dM.eq_2 ..) (uC (nr 3 (uP (jr _) fun r1 _ => (uP (nY k0 _ _) fun r2 _ => (uR .ret xF)))) (KO 4 (yc 17 0 [2] (Bp 175 Tryz.f175 (yc 17 0 [2] (Bp 175 Tryz.f175 (uY 31 (vk .u64) fun y1 => (uY 32 (vk .u64) fun y2 => (yc 17 0 [2] (Bp 175 Tryz.f175 (yc 17 0 [2] (Bp 175 Tryz.f175 (uY 31 (vk .u64) fun y3 => (uY 32 (vk .u64) fun y4 => (uR .ret xF))))))))))))))))
end
def dB (rec1 : Int → Int → Int → Int → Bool → Int → Int → Int → Int → Int → Option (aE × aE)) (x1 z11 z12 z13 z14 : Int) (z15 : Bool) (z16 z17 z18 z19 : Int) : Option (aE × aE) := rec1 z11 z12 z13 z14 z15 z16 z17 z18 z19 (IntKind.i64.wrap (x1 - 1))
def em (rec1 : Int → Int → Int → Int → Bool → Int → Int → Int → Int → Int → Option (aE × aE)) (p2 : aE) (z1 z2 z3 z4 x1 : Int) (r1 : aE) (z10 : Int) : Option (aE × aE) := ay (df (aE.mk r1.neg (z10, r1.size.2.1, r1.size.2.2.1, r1.size.2.2.2)) (aE.mk p2.neg (p2.size.1, p2.size.2.1, p2.size.2.2.1, p2.size.2.2.2))) fun r2 => ax (decide ((0 : Int) ≤ r2)) (ay (dV ba (aE.mk false (z10, r1.size.2.1, r1.size.2.2.1, r1.size.2.2.2)) (aE.mk false (p2.size.1, p2.size.2.1, p2.size.2.2.1, p2.size.2.2.2))) fun r3 => ax ((IntKind.i64.wrap (x1.tdiv (64 : Int))) == 0) (bB (0 ≤ (x1.tmod (64 : Int))) <| ay (some (IntKind.u64.wrap ((1 : Int) * 2 ^ (min (x1.tmod (64 : Int)).toNat (IntKind.u64).bits)))) fun y19 => ay (some (IntKind.u64.wrap (BitVec.ofInt (IntKind.u64).bits z1 ||| BitVec.ofInt (IntKind.u64).bits y19).toNat)) fun y20 => dB rec1 x1 y20 z2 z3 z4 r3.neg r3.size.1 r3.size.2.1 r3.size.2.2.1 r3.size.2.2.2) (ax ((IntKind.i64.wrap (x1.tdiv (64 : Int))) == 1) (bB (0 ≤ (x1.tmod (64 : Int))) <| ay (some (IntKind.u64.wrap ((1 : Int) * 2 ^ (min (x1.tmod (64 : Int)).toNat (IntKind.u64).bits)))) fun y17 => ay (some (IntKind.u64.wrap (BitVec.ofInt (IntKind.u64).bits z2 ||| BitVec.ofInt (IntKind.u64).bits y17).toNat)) fun y18 => dB rec1 x1 z1 y18 z3 z4 r3.neg r3.size.1 r3.size.2.1 r3.size.2.2.1 r3.size.2.2.2) (ax ((IntKind.i64.wrap (x1.tdiv (64 : Int))) == 2) (bB (0 ≤ (x1.tmod (64 : Int))) <| ay (some (IntKind.u64.wrap ((1 : Int) * 2 ^ (min (x1.tmod (64 : Int)).toNat (IntKind.u64).bits)))) fun y15 => ay (some (IntKind.u64.wrap (BitVec.ofInt (IntKind.u64).bits z3 ||| BitVec.ofInt (IntKind.u64).bits y15).toNat)) fun y16 => dB rec1 x1 z1 z2 y16 z4 r3.neg r3.size.1 r3.size.2.1 r3.size.2.2.1 r3.size.2.2.2) (ax ((IntKind.i64.wrap (x1.tdiv (64 : Int))) == 3) (bB (0 ≤ (x1.tmod (64 : Int))) <| ay (some (IntKind.u64.wrap ((1 : Int) * 2 ^ (min (x1.tmod (64 : Int)).toNat (IntKind.u64).bits)))) fun y13 => ay (some (IntKind.u64.wrap (BitVec.ofInt (IntKind.u64).bits z4 ||| BitVec.ofInt (IntKind.u64).bits y13).toNat)) fun y14 => dB rec1 x1 z1 z2 z3 y14 r3.neg r3.size.1 r3.size.2.1 r3.size.2.2.1 r3.size.2.2.2) (none))))) (dB rec1 x1 z1 z2 z3 z4 r1.neg z10 r1.size.2.1 r1.size.2.2.1 r1.size.2.2.2)
def om (p1 p2 : aE) (z20 z21 z22 z23 : Int) (z24 : Bool) (z25 z26 z27 z28 : Int) : Option (aE × aE) := some ((aE.mk (!(p1.neg == p2.neg)) (z20, z21, z22, z23)), (aE.mk p1.neg (z25, z26, z27, z28)))
def bc (p1 p2 : aE) : Nat → Int → Int → Int → Int → Bool → Int → Int → Int → Int → Int → Option (aE × aE)
 | 0, _, _, _, _, _, _, _, _, _, _ => none
 | k1 + 1, z1, z2, z3, z4, z5, z6, z7, z8, z9, x1 => ax (decide ((0 : Int) ≤ x1)) (ay (cU (aE.mk z5 (z6, z7, z8, z9)) (2 : Int)) fun r1 => ax ((IntKind.i64.wrap (x1.tdiv (64 : Int))) == 0) (bB (0 ≤ (x1.tmod (64 : Int))) <| ay (some (p1.size.1.fdiv (2 ^ (min (x1.tmod (64 : Int)).toNat (IntKind.u64).bits)))) fun y10 => ay (some (IntKind.u64.wrap (BitVec.ofInt (IntKind.u64).bits y10 &&& BitVec.ofInt (IntKind.u64).bits (1 : Int)).toNat)) fun y11 => ay (some (IntKind.u64.wrap (BitVec.ofInt (IntKind.u64).bits r1.size.1 ||| BitVec.ofInt (IntKind.u64).bits y11).toNat)) fun y12 => em (bc p1 p2 k1) p2 z1 z2 z3 z4 x1 r1 y12) (ax ((IntKind.i64.wrap (x1.tdiv (64 : Int))) == 1) (bB (0 ≤ (x1.tmod (64 : Int))) <| ay (some (p1.size.2.1.fdiv (2 ^ (min (x1.tmod (64 : Int)).toNat (IntKind.u64).bits)))) fun y7 => ay (some (IntKind.u64.wrap (BitVec.ofInt (IntKind.u64).bits y7 &&& BitVec.ofInt (IntKind.u64).bits (1 : Int)).toNat)) fun y8 => ay (some (IntKind.u64.wrap (BitVec.ofInt (IntKind.u64).bits r1.size.1 ||| BitVec.ofInt (IntKind.u64).bits y8).toNat)) fun y9 => em (bc p1 p2 k1) p2 z1 z2 z3 z4 x1 r1 y9) (ax ((IntKind.i64.wrap (x1.tdiv (64 : Int))) == 2) (bB (0 ≤ (x1.tmod (64 : Int))) <| ay (some (p1.size.2.2.1.fdiv (2 ^ (min (x1.tmod (64 : Int)).toNat (IntKind.u64).bits)))) fun y4 => ay (some (IntKind.u64.wrap (BitVec.ofInt (IntKind.u64).bits y4 &&& BitVec.ofInt (IntKind.u64).bits (1 : Int)).toNat)) fun y5 => ay (some (IntKind.u64.wrap (BitVec.ofInt (IntKind.u64).bits r1.size.1 ||| BitVec.ofInt (IntKind.u64).bits y5).toNat)) fun y6 => em (bc p1 p2 k1) p2 z1 z2 z3 z4 x1 r1 y6) (ax ((IntKind.i64.wrap (x1.tdiv (64 : Int))) == 3) (bB (0 ≤ (x1.tmod (64 : Int))) <| ay (some (p1.size.2.2.2.fdiv (2 ^ (min (x1.tmod (64 : Int)).toNat (IntKind.u64).bits)))) fun y1 => ay (some (IntKind.u64.wrap (BitVec.ofInt (IntKind.u64).bits y1 &&& BitVec.ofInt (IntKind.u64).bits (1 : Int)).toNat)) fun y2 => ay (some (IntKind.u64.wrap (BitVec.ofInt (IntKind.u64).bits r1.size.1 ||| BitVec.ofInt (IntKind.u64).bits y2).toNat)) fun y3 => em (bc p1 p2 k1) p2 z1 z2 z3 z4 x1 r1 y3) (none))))) (om p1 p2 z1 z2 z3 z4 z5 z6 z7 z8 z9)
def nO (p1 p2 : aE) : Option (aE × aE) := bc p1 p2 ba (0 : Int) (0 : Int) (0 : Int) (0 : Int) false (0 : Int) (0 : Int) (0 : Int) (0 : Int) (255 : Int)
abbrev zz (p1 : aE) : List PV := [.s (.bool p1.neg), .s (.int .u64 p1.size.1), .s (.int .u64 p1.size.2.1), .s (.int .u64 p1.size.2.2.1), .s (.int .u64 p1.size.2.2.2)]
abbrev CD (p1 p2 : aE) (x1 : Int) : Fr := [(2, .one (.pv (.rp [(zz p1)] 0 0))), (3, .one (.pv (.rp [(zz p2)] 0 0))), (4, .one (.pt 0 0 0 0)), (5, .one (.pt 1 0 0 0)), (6, vi x1)]
theorem vF (p1 p2 : aE) : CT Tryz.prog 141 [.ag [cb p1.neg, ck .u64 p1.size.1, ck .u64 p1.size.2.1, ck .u64 p1.size.2.2.1, ck .u64 p1.size.2.2.2], .ag [cb p2.neg, ck .u64 p2.size.1, ck .u64 p2.size.2.1, ck .u64 p2.size.2.2.1, ck .u64 p2.size.2.2.2]] (nO p1 p2) (fun r => .tp [.ag [cb r.1.neg, ck .u64 r.1.size.1, ck .u64 r.1.size.2.1, ck .u64 r.1.size.2.2.1, ck .u64 r.1.size.2.2.2], .ag [cb r.2.neg, ck .u64 r.2.size.1, ck .u64 r.2.size.2.1, ck .u64 r.2.size.2.2.1, ck .u64 r.2.size.2.2.2]]) :=
  eB 61 [4, 5] Tryz.f141 fun r => (uQ (kS Tryz.f141 [1,0] 1) fun K2 hK2 => have hJ3 : ∀ (z20 z21 z22 z23 : Int) (z24 : Bool) (z25 z26 z27 z28 : Int), om p1 p2 z20 z21 z22 z23 z24 z25 z26 z27 z28 = some r → K2.p [(2, .one (.pv (.rp [(zz p1)] 0 0))), (3, .one (.pv (.rp [(zz p2)] 0 0))), (4, .one (.pt 0 0 0 0)), (5, .one (.pt 1 0 0 0))] [.box [cb false, ck .u64 z20, ck .u64 z21, ck .u64 z22, ck .u64 z23], .box [cb z24, ck .u64 z25, ck .u64 z26, ck .u64 z27, ck .u64 z28]] := fun z20 z21 z22 z23 z24 z25 z26 z27 z28 h => hK2 h (yc 9 0 [2] (yc 3 0 [2] (uR .ret xF))); (uO (cd Tryz.f141 [1,0,1,0,0]) (kS Tryz.f141 [1,0,1,0] 1) fun R1 b1 => have hL1 : ∀ (k1 : Nat) (z1 z2 z3 z4 : Int) (z5 : Bool) (z6 z7 z8 z9 x1 : Int), bc p1 p2 k1 z1 z2 z3 z4 z5 z6 z7 z8 z9 x1 = some r → (R1 k1).p (CD p1 p2 x1) [.box [cb false, ck .u64 z1, ck .u64 z2, ck .u64 z3, ck .u64 z4], .box [cb z5, ck .u64 z6, ck .u64 z7, ck .u64 z8, ck .u64 z9]] := by intro k1; induction k1 with | zero => intro z1 z2 z3 z4 z5 z6 z7 z8 z9 x1 h; exact lU (bc.eq_1 ..) h | succ k1 ih1 => intro z1 z2 z3 z4 z5 z6 z7 z8 z9 x1 h; exact b1 h (uU (bc.eq_2 ..) (uC (uQ (kS Tryz.f141 [1,0,1,0,0,1,0] 1) fun K7 hK7 => have hJ2 : ∀ (z11 z12 z13 z14 : Int) (z15 : Bool) (z16 z17 z18 z19 : Int), dB (bc p1 p2 k1) x1 z11 z12 z13 z14 z15 z16 z17 z18 z19 = some r → K7.p (CD p1 p2 x1) [.box [cb false, ck .u64 z11, ck .u64 z12, ck .u64 z13, ck .u64 z14], .box [cb z15, ck .u64 z16, ck .u64 z17, ck .u64 z18, ck .u64 z19]] := fun z11 z12 z13 z14 z15 z16 z17 z18 z19 h => hK7 h (uJ (ih1 z11 z12 z13 z14 z15 z16 z17 z18 z19 (IntKind.i64.wrap (x1 - 1)))); (uP (ky _ _) fun r1 _ => (uQ (kS Tryz.f141 [1,0,1,0,0,1,0,0,1,0] 2) fun K10 hK10 => have hJ1 : ∀ (z10 : Int), em (bc p1 p2 k1) p2 z1 z2 z3 z4 x1 r1 z10 = some r → K10.p (CD p1 p2 x1) [.box [cb false, ck .u64 z1, ck .u64 z2, ck .u64 z3, ck .u64 z4], .box [cb r1.neg, ck .u64 z10, ck .u64 r1.size.2.1, ck .u64 r1.size.2.2.1, ck .u64 r1.size.2.2.2]] := fun z10 h => hK10 h (uP (jR _ _) fun r2 _ => (uC (uP (nY ba _ _) fun r3 _ => (nr 10 (JC .i64 (fun b48 => (wN 46 (vk .u64) fun y19 => (uY 47 (vk .u64) fun y20 => (uJ (hJ2 y20 z2 z3 z4 r3.neg r3.size.1 r3.size.2.1 r3.size.2.2.1 r3.size.2.2.2))))) (fun b48 => (JC .i64 (fun b44 => (wN 46 (vk .u64) fun y17 => (uY 47 (vk .u64) fun y18 => (uJ (hJ2 z1 y18 z3 z4 r3.neg r3.size.1 r3.size.2.1 r3.size.2.2.1 r3.size.2.2.2))))) (fun b44 => (JC .i64 (fun b40 => (wN 46 (vk .u64) fun y15 => (uY 47 (vk .u64) fun y16 => (uJ (hJ2 z1 z2 y16 z4 r3.neg r3.size.1 r3.size.2.1 r3.size.2.2.1 r3.size.2.2.2))))) (fun b40 => (JC .i64 (fun b36 => (wN 46 (vk .u64) fun y13 => (uY 47 (vk .u64) fun y14 => (uJ (hJ2 z1 z2 z3 y14 r3.neg r3.size.1 r3.size.2.1 r3.size.2.2.1 r3.size.2.2.2))))) (fun b36 => M6)))))))))) (uJ (hJ2 z1 z2 z3 z4 r1.neg z10 r1.size.2.1 r1.size.2.2.1 r1.size.2.2.2)))); (nr 14 (JC .i64 (fun b26 => (wN 23 (vk .u64) fun y10 => (uY 24 (vk .u64) fun y11 => (uY 25 (vk .u64) fun y12 => (uJ (hJ1 y12)))))) (fun b26 => (JC .i64 (fun b21 => (wN 23 (vk .u64) fun y7 => (uY 24 (vk .u64) fun y8 => (uY 25 (vk .u64) fun y9 => (uJ (hJ1 y9)))))) (fun b21 => (JC .i64 (fun b16 => (wN 23 (vk .u64) fun y4 => (uY 24 (vk .u64) fun y5 => (uY 25 (vk .u64) fun y6 => (uJ (hJ1 y6)))))) (fun b16 => (JC .i64 (fun b11 => (wN 23 (vk .u64) fun y1 => (uY 24 (vk .u64) fun y2 => (uY 25 (vk .u64) fun y3 => (uJ (hJ1 y3)))))) (fun b11 => M6)))))))))))) (uR (.exit 0) (xM (uJ (hJ3 z1 z2 z3 z4 z5 z6 z7 z8 z9))))))
 uE (hL1 ba (0 : Int) (0 : Int) (0 : Int) (0 : Int) false (0 : Int) (0 : Int) (0 : Int) (0 : Int) (255 : Int))))
def il (p1 : Int) : Option aE := ax (decide (p1 < (0 : Int))) (some (aE.mk true ((IntKind.u64.wrap (0 - (IntKind.u64.wrap p1))), (0 : Int), (0 : Int), (0 : Int)))) (some (aE.mk false ((IntKind.u64.wrap p1), (0 : Int), (0 : Int), (0 : Int))))
theorem oP (p1 : Int) : CT Tryz.prog 73 [vi p1] (il p1) (fun r => .ag [cb r.neg, ck .u64 r.size.1, ck .u64 r.size.2.1, ck .u64 r.size.2.2.1, ck .u64 r.size.2.2.2]) :=
  eB 14 [2] Tryz.f73 fun r => (uC (uR .ret xF) (uR .ret xF))
def iY (z1 : Bool) (z2 z3 z4 z5 : Int) : Option aE := some (aE.mk z1 (z2, z3, z4, z5))
def dc (r1 : (aE × aE)) (x1 : Bool) : Option aE := ax x1 (ay (il (1 : Int)) fun r4 => ay (dM ba (aE.mk r1.1.neg (r1.1.size.1, r1.1.size.2.1, r1.1.size.2.2.1, r1.1.size.2.2.2)) (aE.mk r1.1.neg (r4.size.1, r4.size.2.1, r4.size.2.2.1, r4.size.2.2.2))) fun r5 => iY r5.neg r5.size.1 r5.size.2.1 r5.size.2.2.1 r5.size.2.2.2) (iY r1.1.neg r1.1.size.1 r1.1.size.2.1 r1.1.size.2.2.1 r1.1.size.2.2.2)
def iy (p1 p2 : aE) : Option aE := ay (nO (aE.mk p1.neg (p1.size.1, p1.size.2.1, p1.size.2.2.1, p1.size.2.2.2)) (aE.mk p2.neg (p2.size.1, p2.size.2.1, p2.size.2.2.1, p2.size.2.2.2))) fun r1 => ay (cU (aE.mk r1.2.neg (r1.2.size.1, r1.2.size.2.1, r1.2.size.2.2.1, r1.2.size.2.2.2)) (2 : Int)) fun r2 => ay (df (aE.mk r2.neg (r2.size.1, r2.size.2.1, r2.size.2.2.1, r2.size.2.2.2)) (aE.mk p2.neg (p2.size.1, p2.size.2.1, p2.size.2.2.1, p2.size.2.2.2))) fun r3 => ax (decide ((0 : Int) < r3)) (dc r1 true) (ax (r3 == 0) (ay (some (IntKind.u64.wrap (BitVec.ofInt (IntKind.u64).bits r1.1.size.1 &&& BitVec.ofInt (IntKind.u64).bits (1 : Int)).toNat)) fun y1 => dc r1 (y1 == 1)) (dc r1 false))
theorem rk (p1 p2 : aE) : CT Tryz.prog 108 [.ag [cb p1.neg, ck .u64 p1.size.1, ck .u64 p1.size.2.1, ck .u64 p1.size.2.2.1, ck .u64 p1.size.2.2.2], .ag [cb p2.neg, ck .u64 p2.size.1, ck .u64 p2.size.2.1, ck .u64 p2.size.2.2.1, ck .u64 p2.size.2.2.2]] (iy p1 p2) (fun r => .ag [cb r.neg, ck .u64 r.size.1, ck .u64 r.size.2.1, ck .u64 r.size.2.2.1, ck .u64 r.size.2.2.2]) :=
  eB 40 [4, 5, 6, 8] Tryz.f108 fun r => (uP (vF _ _) fun r1 _ => (uQ (kS Tryz.f108 [1,1,0] 1) fun K4 hK4 => have hJ2 : ∀ (z1 : Bool) (z2 z3 z4 z5 : Int), iY z1 z2 z3 z4 z5 = some r → K4.p [(4, .one (.pt 0 0 0 0)), (5, .one (.pt 1 0 0 0))] [.box AP, .box [cb z1, ck .u64 z2, ck .u64 z3, ck .u64 z4, ck .u64 z5], .dead] := fun z1 z2 z3 z4 z5 h => hK4 h (uR .ret xF); (nr 3 (uP (ky _ _) fun r2 _ => (uP (jR _ _) fun r3 _ => (uQ (kS Tryz.f108 [1,1,0,1,0] 1) fun K8 hK8 => have hJ1 : ∀ (x1 : Bool), dc r1 x1 = some r → K8.p [(4, .one (.pt 0 0 0 0)), (5, .one (.pt 1 0 0 0)), (31, vb x1)] [.box AP, .box [cb r1.1.neg, ck .u64 r1.1.size.1, ck .u64 r1.1.size.2.1, ck .u64 r1.1.size.2.2.1, ck .u64 r1.1.size.2.2.2], .dead] := fun x1 h => hK8 h (uC (uP (oP _) fun r4 _ => (uP (ox ba _ _) fun r5 _ => (uJ (hJ2 r5.neg r5.size.1 r5.size.2.1 r5.size.2.2.1 r5.size.2.2.2)))) (uJ (hJ2 r1.1.neg r1.1.size.1 r1.1.size.2.1 r1.1.size.2.2.1 r1.1.size.2.2.2))); (uC (uJ (hJ1 true)) (uC (uY 28 (vk .u64) fun y1 => (uJ (hJ1 (y1 == 1)))) (uJ (hJ1 false))))))))))
def ll (p1 p2 : Int) : Option aE := ay (il p1) fun r1 => ay (iH (aE.mk r1.neg (r1.size.1, r1.size.2.1, r1.size.2.2.1, r1.size.2.2.2)) p2) fun r2 => some (aE.mk r2.neg (r2.size.1, r2.size.2.1, r2.size.2.2.1, r2.size.2.2.2))
theorem xj (p1 p2 : Int) : CT Tryz.prog 109 [vi p1, vi p2] (ll p1 p2) (fun r => .ag [cb r.neg, ck .u64 r.size.1, ck .u64 r.size.2.1, ck .u64 r.size.2.2.1, ck .u64 r.size.2.2.2]) :=
  eB 9 [4] Tryz.f109 fun r => (uP (oP _) fun r1 _ => (uP (mB _ _) fun r2 _ => (uR .ret xF)))
def jp (p1 : aE) (p2 p3 : Int) : Option aE := ax (decide (p2 ≤ p3)) (ay (iH (aE.mk p1.neg (p1.size.1, p1.size.2.1, p1.size.2.2.1, p1.size.2.2.2)) (IntKind.i64.wrap (p3 - p2))) fun r1 => some (aE.mk r1.neg (r1.size.1, r1.size.2.1, r1.size.2.2.1, r1.size.2.2.2))) (ay (ll (1 : Int) (IntKind.i64.wrap (p2 - p3))) fun r2 => ay (iy (aE.mk p1.neg (p1.size.1, p1.size.2.1, p1.size.2.2.1, p1.size.2.2.2)) (aE.mk r2.neg (r2.size.1, r2.size.2.1, r2.size.2.2.1, r2.size.2.2.2))) fun r3 => some (aE.mk r3.neg (r3.size.1, r3.size.2.1, r3.size.2.2.1, r3.size.2.2.2)))
theorem vC (p1 : aE) (p2 p3 : Int) : CT Tryz.prog 72 [.ag [cb p1.neg, ck .u64 p1.size.1, ck .u64 p1.size.2.1, ck .u64 p1.size.2.2.1, ck .u64 p1.size.2.2.2], vi p2, vi p3] (jp p1 p2 p3) (fun r => .ag [cb r.neg, ck .u64 r.size.1, ck .u64 r.size.2.1, ck .u64 r.size.2.2.1, ck .u64 r.size.2.2.2]) :=
  eB 21 [6] Tryz.f72 fun r => (uC (uP (mB _ _) fun r1 _ => (uR .ret xF)) (nr 5 (uP (xj _ _) fun r2 _ => (uP (rk _ _) fun r3 _ => (uR .ret xF)))))
end Go.Proofs.YtpmoopnkoknbeaaGreatDoor
