/- The shelf's contract of utf8.ValidString, laid at this program. Searching a byte in a text and comparing texts: by the contracts of the shelf. Printed by a program: what the functions compute, and the proofs of their contracts. -/
import Derived.Test.YtfnmbpecdjncfaaGreatDoorProg
import Derived.Shelf.Small.Strs
import Derived.Test.YtfnmbpecdjncfaaGreatDoorChecked
import Derived.Test.YtfnmbpecdjncfaaGreatDoorSxC
set_option linter.unusedVariables false
set_option linter.unusedSimpArgs false
set_option linter.unnecessarySimpa false
namespace Go.Proofs.YtfnmbpecdjncfaaGreatDoor
open Go Go.SX Go.Shelf Go.Lib
def PG : Ren where
 f := fun n => if n = 196 then 235 else if n = 259 then 245 else n
 t := fun n => if n = 0 then 0 else if n = 3 then 3 else if n = 4 then 4 else if n = 5 then 5 else if n = 9 then 9 else if n = 12 then 12 else if n = 46 then 130 else if n = 53 then 197 else if n = 119 then 236 else if n = 138 then 238 else if n = 139 then 239 else n
 g := fun n => if n = 3 then 1 else if n = 4 then 2 else n
set_option maxRecDepth 100000 in
theorem Nb : Lays.n196 Tryz.prog PG where
 mixed := by kernel_rfl
 f196 := by kernel_rfl
 f259 := by kernel_rfl
 t0 := by kernel_rfl
 a0 := fun w => by kernel_rfl
 z0 := fun w => by kernel_rfl
 v0 := fun w => by kernel_rfl
 t3 := by kernel_rfl
 a3 := fun w => by kernel_rfl
 z3 := fun w => by kernel_rfl
 v3 := fun w => by kernel_rfl
 t4 := by kernel_rfl
 a4 := fun w => by kernel_rfl
 z4 := fun w => by kernel_rfl
 v4 := fun w => by kernel_rfl
 t5 := by kernel_rfl
 a5 := fun w => by kernel_rfl
 z5 := fun w => by kernel_rfl
 v5 := fun w => by kernel_rfl
 t9 := by kernel_rfl
 a9 := fun w => by kernel_rfl
 z9 := fun w => by kernel_rfl
 v9 := fun w => by kernel_rfl
 t12 := by kernel_rfl
 a12 := fun w => by kernel_rfl
 z12 := fun w => by kernel_rfl
 v12 := fun w => by kernel_rfl
 t46 := by kernel_rfl
 a46 := fun w => by kernel_rfl
 z46 := fun w => by kernel_rfl
 v46 := fun w => by kernel_rfl
 t53 := by kernel_rfl
 a53 := fun w => by kernel_rfl
 z53 := fun w => by kernel_rfl
 v53 := fun w => by kernel_rfl
 t119 := by kernel_rfl
 a119 := fun w => by kernel_rfl
 z119 := fun w => by kernel_rfl
 t138 := by kernel_rfl
 a138 := fun w => by kernel_rfl
 z138 := fun w => by kernel_rfl
 v138 := fun w => by kernel_rfl
 t139 := by kernel_rfl
 a139 := fun w => by kernel_rfl
 z139 := fun w => by kernel_rfl
 v139 := fun w => by kernel_rfl
 g3 := by kernel_rfl
 g4 := by kernel_rfl
def utf8_ValidString (p1 : ByteArray) : Option Bool := nX (p1.size ≤ 9223372036854775807) <| some (validD p1.data.toList)
theorem uK (p1 : ByteArray) (r : Bool) (h : utf8_ValidString p1 = some r) : PC Tryz.prog 235 [vs p1] (vb r) := by
 unfold utf8_ValidString at h
 obtain ⟨g1, h⟩ := qH h
 obtain rfl := Option.some.inj h
 exact Dz Nb (by kernel_rfl) (by kernel_rfl) p1 g1
end Go.Proofs.YtfnmbpecdjncfaaGreatDoor
namespace Go.Proofs.YtfnmbpecdjncfaaGreatDoor
open Go Go.SX Go.Shelf Go.Lib Go.Proofs Go.RowKit
def UQ : Ren where
 f := fun n => if n = 106 then 43 else if n = 137 then 222 else if n = 213 then 90 else if n = 217 then 242 else if n = 265 then 140 else if n = 266 then 255 else n
 t := fun n => if n = 3 then 3 else if n = 5 then 5 else if n = 9 then 9 else n
 g := fun n => n
set_option maxRecDepth 100000 in
theorem Tz : Lays.n137 Tryz.prog UQ := by constructor <;> intros <;> kernel_rfl
set_option maxRecDepth 100000 in
theorem Ud : Lays.n106 Tryz.prog UQ := by constructor <;> intros <;> kernel_rfl
def strings_IndexByte (p1 : ByteArray) (p2 : Int) : Option Int := some (Lib.indexByte p1.data.toList p2.toNat.toUInt8)
theorem tB (p1 : ByteArray) (p2 : Int) : CT Tryz.prog 222 [vs p1, vk .u8 p2] (strings_IndexByte p1 p2) vi := by
 intro r h
 obtain rfl := Option.some.inj h
 exact PC.below (us := [.string p1, .int .u8 p2]) rfl fun w _ => (Any.strings_IndexByte Tz p1 p2 w).mono (by rintro e w' ⟨rfl, rfl⟩; exact ⟨rfl, .refl _ _⟩)
def strings_Compare (p1 p2 : ByteArray) : Option Int := some (Lib.compareBytes p1.data.toList p2.data.toList)
theorem Bu (p1 p2 : ByteArray) : CT Tryz.prog 43 [vs p1, vs p2] (strings_Compare p1 p2) vi := by
 intro r h
 obtain rfl := Option.some.inj h
 exact PC.below (us := [.string p1, .string p2]) rfl fun w _ => (Any.strings_Compare Ud p1 p2 w).mono (by rintro e w' ⟨rfl, rfl⟩; exact ⟨rfl, .refl _ _⟩)
end Go.Proofs.YtfnmbpecdjncfaaGreatDoor
namespace Go.Proofs.YtfnmbpecdjncfaaGreatDoor
open Go.SX Go
set_option maxRecDepth 100000
set_option maxHeartbeats 8000000
abbrev mM (x : ax) : AV := .ag [cl (eL af) x.schemas, cl fR x.specs, ci x.nextField, ci x.nextSeq, ci x.nextSnap, ci x.purges, cl aW x.snapshots, cl nI x.refs, cl kU x.props]
abbrev mS (x : aj) : AV := .ag [ci x.id, ci x.parent, ci x.seq, ci x.schema, ci x.time, ci x.kind, cl aF x.files, cl cw x.dat, cl bp x.dby]
abbrev mV (x : ae) : AV := .ag [ci x.kind, ci x.n, ci x.scale, xz x.s, cl am x.items]
abbrev mT (x : ap) : AV := .ag [ci x.kind, ci x.scale, cl af x.fields]
abbrev mF (x : ah) : AV := .ag [xz x.name, ci x.schema, ci x.spec, cl am x.part, ci x.rows, ci x.seq, cl dJ x.stats]
abbrev mf (x : ac) : AV := .ag [ci x.id, xz x.name, cb x.need, ci x.type.kind, ci x.type.scale, cl af x.type.fields]
abbrev mD (x : aD) : AV := .ag [ci x.schema, cl eI x.ids, cl (eL am) x.keys, ci x.seq]
abbrev mW (x : cO) : AV := .ag [cb x.neg, ck .u64 x.size.1, ck .u64 x.size.2.1, ck .u64 x.size.2.2.1, ck .u64 x.size.2.2.2]
abbrev mA (x : eN) : AV := .ag [ci x.id, ci x.nulls, ci x.min.kind, ci x.min.n, ci x.min.scale, xz x.min.s, cl am x.min.items, ci x.max.kind, ci x.max.n, ci x.max.scale, xz x.max.s, cl am x.max.items]
def nt (rec1 : Int → Bool → Int → Option Int) (x2 x4 : Int) (e1 : aj) (x5 : Bool) : Option Int := aw (some (IntKind.i64.wrap (x2 + (IntKind.i64.wrap ((e1.files.length : Int) + (e1.dby.length : Int)))))) fun y1 => rec1 y1 x5 (IntKind.i64.wrap (x4 + 1))
def pR (x8 : Bool) : Option Int := al x8 (some (7 : Int)) (some (0 : Int))
def tk (x6 : Int) (x7 : Bool) : Option Int := al x7 (pR true) (pR (decide ((4000 : Int) < x6)))
def fD (p1 : ax) : Nat → Int → Bool → Int → Option Int
 | 0, _, _, _ => none
 | k1 + 1, x2, x3, x4 => al (decide (x4 < (p1.snapshots.length : Int))) (aw (at? p1.snapshots x4) fun e1 => al x3 (nt (fD p1 k1) x2 x4 e1 true) (al (decide ((400 : Int) < (e1.files.length : Int))) (nt (fD p1 k1) x2 x4 e1 true) (nt (fD p1 k1) x2 x4 e1 (decide ((400 : Int) < (e1.dby.length : Int)))))) (tk x2 x3)
def iH (p1 : ax) (x1 : Bool) : Option Int := fD p1 aX (0 : Int) x1 (0 : Int)
def oI (p1 : ax) : Option Int := al (decide ((40 : Int) < (p1.schemas.length : Int))) (iH p1 true) (al (decide ((40 : Int) < (p1.specs.length : Int))) (iH p1 true) (al (decide ((200 : Int) < (p1.snapshots.length : Int))) (iH p1 true) (al (decide ((40 : Int) < (p1.refs.length : Int))) (iH p1 true) (iH p1 (decide ((40 : Int) < (p1.props.length : Int)))))))
theorem Dd (p1 : ax) : CT Tryz.prog 32 [mM p1] (oI p1) vi :=
  dT 70 [6] Tryz.f32 fun r => (bL Tryz.f32 14 1 fun K k => have J1 : ∀ {x1}, iH p1 x1 = some r → K.p [(1, vR [.ro ((eL af).els p1.schemas), .ro (fR.els p1.specs), pi p1.nextField, pi p1.nextSeq, pi p1.nextSnap, pi p1.purges, .ro (aW.els p1.snapshots), .ro (nI.els p1.refs), .ro (kU.els p1.props)]), (3, vi (0 : Int)), (4, vb x1)] [] := fun {x1} h => k h (bL Tryz.f32 30 1 fun K k => have J3 : ∀ {x6 x7}, tk x6 x7 = some r → K.p [(3, vi x6), (4, vb x7)] [] := fun {x6 x7} h => k h (bL Tryz.f32 124 2 fun K k => have J4 : ∀ {x8}, pR x8 = some r → K.p [(69, vb x8)] [] := fun {x8} h => k h (uC uz uz); (uC (uJ J4) (uJ J4))); (uN aW p1.snapshots (gE Tryz.f32 122 1 fun R b => have hL1 : ∀ k1 {x2 x3 x4}, fD p1 k1 x2 x3 x4 = some r → (R k1).p [(3, vi x2), (4, vb x3), (36, vl aW p1.snapshots), (37, vi p1.snapshots.length), (38, vi x4)] [] := uI (gr rfl) fun k1 ih1 {x2 x3 x4} h => b h (uU (fD.eq_2 ..) (uC (uL aW fun e1 a15 => (bL Tryz.f32 15666 3 fun K k => have J2 : ∀ {x5}, nt (fD p1 k1) x2 x4 e1 x5 = some r → K.p [(3, vi x2), (4, vb x5), (6, .one (.pt 0 0 0 0)), (36, vl aW p1.snapshots), (37, vi p1.snapshots.length), (38, vi x4)] [.box [ci e1.id, ci e1.parent, ci e1.seq, ci e1.schema, ci e1.time, ci e1.kind, cl aF e1.files, cl cw e1.dat, cl bp e1.dby]] := fun {x5} h => k h (uN aF e1.files (uN bp e1.dby (uY 63 vi fun y1 => (uJ ih1)))); (uC (uJ J2) (uN aF e1.files (uC (uJ J2) (uN bp e1.dby (uJ J2))))))) (uR (.exit 0) (xM (uJ J3))))); uE (hL1 aX)))); (uN (eL af) p1.schemas (uC (uJ J1) (uN fR p1.specs (uC (uJ J1) (uN aW p1.snapshots (uC (uJ J1) (uN nI p1.refs (uC (uJ J1) (uN kU p1.props (uJ J1)))))))))))
def pL (x1 : Bool) : Option Bool := some x1
def dt (p1 p2 p3 : Int) : Option Bool := al (decide (p2 ≤ p1)) (pL (decide (p1 ≤ p3))) (pL false)
theorem dp (p1 p2 p3 : Int) : CT Tryz.prog 33 [vi p1, vi p2, vi p3] (dt p1 p2 p3) vb :=
  dT 15 [] Tryz.f33 fun r => (bL Tryz.f33 6 1 fun K k => have J1 : ∀ {x1}, pL x1 = some r → K.p [(6, vb x1)] [] := fun {x1} h => k h uz; (uC (uJ J1) (uJ J1)))
def sr (x1 : Bool) : Option Bool := some x1
def vo (p1 : ap) : Option Bool := al (p1.kind != 6) (sr (p1.kind != 7)) (sr false)
theorem A2 (p1 : ap) : CT Tryz.prog 152 [mT p1] (vo p1) vb :=
  dT 11 [] Tryz.f152 fun r => (bL Tryz.f152 6 1 fun K k => have J1 : ∀ {x1}, sr x1 = some r → K.p [(2, vb x1)] [] := fun {x1} h => k h uz; (uC (uJ J1) (uJ J1)))
def gx (x1 : Bool) : Option Bool := some x1
def tK (p1 : Int) : Option Bool := al (decide (p1 < (97 : Int))) (al (decide (p1 < (48 : Int))) (gx (p1 != 95)) (al (decide ((57 : Int) < p1)) (gx (p1 != 95)) (gx false))) (al (decide ((122 : Int) < p1)) (al (decide (p1 < (48 : Int))) (gx (p1 != 95)) (al (decide ((57 : Int) < p1)) (gx (p1 != 95)) (gx false))) (gx false))
theorem De (p1 : Int) : CT Tryz.prog 137 [vk .i32 p1] (tK p1) vb :=
  dT 21 [] Tryz.f137 fun r => (bL Tryz.f137 6 1 fun K k => have J1 : ∀ {x1}, gx x1 = some r → K.p [(2, vb x1)] [] := fun {x1} h => k h uz; (uC (uC (uJ J1) (uC (uJ J1) (uJ J1))) (uC (uC (uJ J1) (uC (uJ J1) (uJ J1))) (uJ J1))))
def jM : Option Int := some (-1 : Int)
def cu (p1 : ByteArray) (p2 : Bool) : Nat → Nat → Option Int
 | 0, _ => none
 | k1 + 1, z1 => al (decide (z1 < p1.size)) (aw (tK (Int.ofNat (Utf8.decode p1 z1).1)) fun r1 => al (r1 == p2) (some (Int.ofNat z1)) ((cu p1 p2 k1) (z1 + (Utf8.decode p1 z1).2))) (jM)
def gV (p1 : ByteArray) (p2 : Bool) : Option Int := cu p1 p2 aX 0
theorem o9 (p1 : ByteArray) (p2 : Bool) : CT Tryz.prog 214 [vs p1, .one (.pv (.fn 137 [])), vb p2] (gV p1 p2) vi :=
  dT 21 [] Tryz.f214 fun r => (bL Tryz.f214 6 1 fun K k => have J1 : jM = some r → K.p [] [] := fun h => k h uz; (Tq p1 (gE Tryz.f214 26 1 fun R b => have hL1 : ∀ k1 {z1}, cu p1 p2 k1 z1 = some r → (R k1).p [(1, .one (.pv (.fn 137 []))), (2, vb p2), (10, .one (.pt 0 0 0 0))] [.raw (.stringIter p1 z1)] := uI (gr rfl) fun k1 ih1 {z1} h => b h (uU (cu.eq_2 ..) (Tc 0 (fun b5 => (uT (uP (De _) fun r1 _ => (uC iU (uJ ih1))))) (fun b5 => (uF (uR (.exit 0) (xM (uJ J1))))))); uE (hL1 aX))))
def gY (p1 : ByteArray) : Option Int := aw (gV p1 true) fun r1 => some r1
theorem pg (p1 : ByteArray) : CT Tryz.prog 185 [vs p1, .one (.pv (.fn 137 []))] (gY p1) vi :=
  dT 8 [] Tryz.f185 fun r => (uP (o9 _ _) fun r1 _ => uz)
def fY (p1 : ByteArray) : Option Bool := aw (gY p1) fun r1 => some (decide ((0 : Int) ≤ r1))
theorem od (p1 : ByteArray) : CT Tryz.prog 138 [vs p1, .one (.pv (.fn 137 []))] (fY p1) vb :=
  dT 9 [] Tryz.f138 fun r => (uP (pg _) fun r1 _ => uz)
def nA (p1 : ByteArray) (x1 : Bool) : Option Bool := al x1 (some false) (aw (fY p1) fun r1 => some (!r1))
def rP (p1 : ByteArray) : Option Bool := al (p1.toList == (ByteArray.mk #[]).toList) (nA p1 true) (al (decide ((24 : Int) < (p1.size : Int))) (nA p1 true) (nX (0 ≤ (0 : Int) ∧ (0 : Int) < (p1.size : Int)) <| aw (some (decide (((p1.data.toList.getD (0 : Int).toNat 0).toNat : Int) < (97 : Int)))) fun y1 => al y1 (nA p1 true) (nX (0 ≤ (0 : Int) ∧ (0 : Int) < (p1.size : Int)) <| aw (some (decide ((122 : Int) < ((p1.data.toList.getD (0 : Int).toNat 0).toNat : Int)))) fun y2 => nA p1 y2)))
theorem xm (p1 : ByteArray) : CT Tryz.prog 86 [vs p1] (rP p1) vb :=
  dT 25 [] Tryz.f86 fun r => (bL Tryz.f86 12 2 fun K k => have J1 : ∀ {x1}, nA p1 x1 = some r → K.p [(0, vs p1), (20, vb x1)] [] := fun {x1} h => k h (uC uz (uP (od _) fun r1 _ => uz)); (uC (uJ J1) (uC (uJ J1) (uG (uY 14 vb fun y1 => (uC (uJ J1) (uG (uY 19 vb fun y2 => (uJ J1)))))))))
def uh (p1 : ac) : Option Bool := aw (rP p1.name) fun r1 => some (!r1)
theorem Ce (p1 : ac) : CT Tryz.prog 193 [mf p1] (uh p1) vb :=
  dT 7 [] Tryz.f193 fun r => (uP (xm _) fun r1 _ => uz)
def eo : Option Int := some (-1 : Int)
def aK (p1 : (List ac)) : Nat → Int → Option Int
 | 0, _ => none
 | k1 + 1, x1 => al (decide (x1 < (p1.length : Int))) (aw (at? p1 x1) fun e1 => aw (uh e1) fun r1 => al r1 (some x1) ((aK p1 k1) (IntKind.i64.wrap (x1 + 1)))) (eo)
def cX (p1 : (List ac)) : Option Int := aK p1 aX (0 : Int)
theorem jl (p1 : (List ac)) : CT Tryz.prog 125 [vl af p1, .one (.pv (.fn 193 []))] (cX p1) vi :=
  dT 19 [] Tryz.f125 fun r => (bL Tryz.f125 6 1 fun K k => have J1 : eo = some r → K.p [] [] := fun h => k h uz; (uN af p1 (gE Tryz.f125 26 1 fun R b => have hL1 : ∀ k1 {x1}, aK p1 k1 x1 = some r → (R k1).p [(0, vl af p1), (1, .one (.pv (.fn 193 []))), (7, vi p1.length), (8, vi x1)] [] := uI (gr rfl) fun k1 ih1 {x1} h => b h (uU (aK.eq_2 ..) (uC (uL af fun e1 a10 => (uP (Ce _) fun r1 _ => (uC iU (uJ ih1)))) (uR (.exit 0) (xM (uJ J1))))); uE (hL1 aX))))
def bW (p1 : (List ac)) : Option Bool := aw (cX p1) fun r1 => some (decide ((0 : Int) ≤ r1))
theorem iM (p1 : (List ac)) : CT Tryz.prog 192 [vl af p1, .one (.pv (.fn 193 []))] (bW p1) vb :=
  dT 9 [] Tryz.f192 fun r => (uP (jl _) fun r1 _ => uz)
def ve (p1 p2 : ac) : Option (Bool × ac) := some ((p1.name.toList == p2.name.toList), p2)
theorem Cf (p1 p2 : ac) : CM Tryz.prog 194 [mf p1, .one (.pt 0 0 0 0)] [.box [ci p2.id, xz p2.name, cb p2.need, ci p2.type.kind, ci p2.type.scale, cl af p2.type.fields]] (ve p1 p2) (fun r => vb r.1) (fun r => [.box [ci r.2.id, xz r.2.name, cb r.2.need, ci r.2.type.kind, ci r.2.type.scale, cl af r.2.type.fields]]) :=
  rF 1 9 [] Tryz.f194 fun r => (uR .ret sk)
def cJ (z7 : Int) (z8 : ByteArray) (z9 : Bool) (z10 z11 : Int) (z12 : List ac) : Option (Int × ac) := some ((-1 : Int), (ko.mk z7 z8 z9 (ap.mk z10 z11 z12)))
def aB (p1 : (List ac)) : Nat → Int → ByteArray → Bool → Int → Int → List ac → Int → Option (Int × ac)
 | 0, _, _, _, _, _, _, _ => none
 | k1 + 1, z1, z2, z3, z4, z5, z6, x1 => al (decide (x1 < (p1.length : Int))) (aw (at? p1 x1) fun e1 => aw (ve e1 (ko.mk z1 z2 z3 (ap.mk z4 z5 z6))) fun r1 => al r1.1 (some (x1, r1.2)) ((aB p1 k1) r1.2.id r1.2.name r1.2.need r1.2.type.kind r1.2.type.scale r1.2.type.fields (IntKind.i64.wrap (x1 + 1)))) (cJ z1 z2 z3 z4 z5 z6)
def cV (p1 : (List ac)) (p2 : ac) : Option (Int × ac) := aB p1 aX p2.id p2.name p2.need p2.type.kind p2.type.scale p2.type.fields (0 : Int)
theorem jm (p1 : (List ac)) (p2 : ac) : CM Tryz.prog 125 [vl af p1, .one (.fn 194 [.pt 0 0 0 0])] [.box [ci p2.id, xz p2.name, cb p2.need, ci p2.type.kind, ci p2.type.scale, cl af p2.type.fields]] (cV p1 p2) (fun r => vi r.1) (fun r => [.box [ci r.2.id, xz r.2.name, cb r.2.need, ci r.2.type.kind, ci r.2.type.scale, cl af r.2.type.fields]]) :=
  rF 1 19 [] Tryz.f125 fun r => (bL Tryz.f125 6 1 fun K k => have J1 : ∀ {z7 z8 z9 z10 z11 z12}, cJ z7 z8 z9 z10 z11 z12 = some r → K.p [] [.box [ci z7, xz z8, cb z9, ci z10, ci z11, cl af z12]] := fun {z7 z8 z9 z10 z11 z12} h => k h (uR .ret sk); (uN af p1 (gE Tryz.f125 26 1 fun R b => have hL1 : ∀ k1 {z1 z2 z3 z4 z5 z6 x1}, aB p1 k1 z1 z2 z3 z4 z5 z6 x1 = some r → (R k1).p [(0, vl af p1), (1, .one (.fn 194 [.pt 0 0 0 0])), (7, vi p1.length), (8, vi x1)] [.box [ci z1, xz z2, cb z3, ci z4, ci z5, cl af z6]] := uI (gr rfl) fun k1 ih1 {z1 z2 z3 z4 z5 z6 x1} h => b h (uU (aB.eq_2 ..) (uC (uL af fun e1 a10 => (zW true [0] (Cf _ _) fun r1 _ => (uC (uR .ret (xN (xN sk))) (uJ ih1)))) (uR (.exit 0) (xM (uJ J1))))); uE (hL1 aX))))
def bX (p1 : (List ac)) (p2 : ac) : Option (Bool × ac) := aw (cV p1 p2) fun r1 => some ((decide ((0 : Int) ≤ r1.1)), r1.2)
theorem iN (p1 : (List ac)) (p2 : ac) : CM Tryz.prog 192 [vl af p1, .one (.fn 194 [.pt 0 0 0 0])] [.box [ci p2.id, xz p2.name, cb p2.need, ci p2.type.kind, ci p2.type.scale, cl af p2.type.fields]] (bX p1 p2) (fun r => vb r.1) (fun r => [.box [ci r.2.id, xz r.2.name, cb r.2.need, ci r.2.type.kind, ci r.2.type.scale, cl af r.2.type.fields]]) :=
  rF 1 9 [] Tryz.f192 fun r => (zW true [0] (jm _ _) fun r1 _ => (uR .ret sk))
def pT (x1 : Bool) : Option Int := al x1 (some (1 : Int)) (some (0 : Int))
def xE : Option Int := some (0 : Int)
def fE (p1 : ap) : Nat → Int → Option Int
 | 0, _ => none
 | k1 + 1, x2 => al (decide (x2 < (p1.fields.length : Int))) (aw (at? p1.fields x2) fun e2 => nX (0 ≤ (0 : Int) ∧ (0 : Int) ≤ x2 ∧ x2 ≤ (p1.fields.length : Int)) <| aw (bX ((p1.fields.drop (0 : Int).toNat).take (x2.toNat - (0 : Int).toNat)) e2) fun r2 => al r2.1 (some (5 : Int)) ((fE p1 k1) (IntKind.i64.wrap (x2 + 1)))) (xE)
def tH (p1 : ap) : Option Int := al (p1.kind == 6) (al ((p1.fields.length : Int) != 1) (pT true) (aw (at? p1.fields (0 : Int)) fun e1 => pT (!(e1.name.toList == (ByteArray.mk #[]).toList)))) (al (p1.kind != 7) (al (decide ((0 : Int) < (p1.fields.length : Int))) (some (1 : Int)) (some (0 : Int))) (al ((p1.fields.length : Int) == 0) (some (1 : Int)) (aw (bW p1.fields) fun r1 => al r1 (some (4 : Int)) (fE p1 aX (0 : Int)))))
theorem Di (p1 : ap) : CT Tryz.prog 153 [mT p1] (tH p1) vi :=
  dT 52 [4] Tryz.f153 fun r => (uC (bL Tryz.f153 200 4 fun K k => have J1 : ∀ {x1}, pT x1 = some r → K.p [(20, vb x1)] [] := fun {x1} h => k h (uC uz uz); (uN af p1.fields (uC (uJ J1) (uL af fun e1 a8 => (uJ J1))))) (uC (uN af p1.fields (uC uz uz)) (uN af p1.fields (uC uz (uP (iM _) fun r1 _ => (uC uz (bL Tryz.f153 30 1 fun K k => have J2 : xE = some r → K.p [] [] := fun h => k h uz; (uN af p1.fields (gE Tryz.f153 122 1 fun R b => have hL1 : ∀ k1 {x2}, fE p1 k1 x2 = some r → (R k1).p [(1, vR [pi p1.kind, pi p1.scale, .ro (af.els p1.fields)]), (38, vl af p1.fields), (39, vi p1.fields.length), (40, vi x2)] [] := uI (gr rfl) fun k1 ih1 {x2} h => b h (uU (fE.eq_2 ..) (uC (uL af fun e2 a34 => (uX af (zW true [0] (iN _ _) fun r2 _ => (uC iU (uJ ih1))))) (uR (.exit 1) (xM (uJ J2))))); uE (hL1 aX))))))))))
def qP (z3 : Int) : Option (Int × dF) := some ((0 : Int), (dF.mk z3))
def dO (q_value_checker_check : ap → Int → dF → Option (Int × dF)) (p1 : ap) (p2 : Int) : Nat → Int → Int → Option (Int × dF)
 | 0, _, _ => none
 | k1 + 1, z2, x4 => al (decide (x4 < (p1.fields.length : Int))) (aw (at? p1.fields x4) fun e1 => aw (q_value_checker_check e1.type (IntKind.i64.wrap (p2 + 1)) (dF.mk z2)) fun r4 => al (r4.1 != 0) (some (r4.1, r4.2)) ((dO q_value_checker_check p1 p2 k1) r4.2.leaves (IntKind.i64.wrap (x4 + 1)))) (qP z2)
def eG (q_value_checker_check : ap → Int → dF → Option (Int × dF)) (p1 : ap) (p2 z1 : Int) (x3 : Bool) : Option (Int × dF) := al x3 (some ((1 : Int), (dF.mk z1))) (aw (tH p1) fun r3 => al (r3 != 0) (some (r3, (dF.mk z1))) (dO q_value_checker_check p1 p2 aX z1 (0 : Int)))
def jY (q_value_checker_check : ap → Int → dF → Option (Int × dF)) (p1 : ap) (p2 z1 : Int) (x2 : Bool) : Option (Int × dF) := al x2 (some ((3 : Int), (dF.mk z1))) (al (p1.scale != 0) (al (p1.kind != 3) (eG q_value_checker_check p1 p2 z1 true) (al (decide (p1.scale < (0 : Int))) (eG q_value_checker_check p1 p2 z1 true) (eG q_value_checker_check p1 p2 z1 (decide ((12 : Int) < p1.scale))))) (eG q_value_checker_check p1 p2 z1 false))
def fM (q_value_checker_check : ap → Int → dF → Option (Int × dF)) (p1 : ap) (p2 z1 : Int) : Option (Int × dF) := al (decide (p1.kind < (1 : Int))) (jY q_value_checker_check p1 p2 z1 true) (jY q_value_checker_check p1 p2 z1 (decide ((7 : Int) < p1.kind)))
def fL (q_value_checker_check : ap → Int → dF → Option (Int × dF)) (p1 : ap) (p2 : Int) (p3 : dF) (x1 : Bool) : Option (Int × dF) := al x1 (some ((7 : Int), p3)) (aw (vo p1) fun r2 => al r2 (fM q_value_checker_check p1 p2 (IntKind.i64.wrap (p3.leaves + 1))) (fM q_value_checker_check p1 p2 p3.leaves))
def bG : Nat → ap → Int → dF → Option (Int × dF)
 | 0, _, _, _ => none
 | k0 + 1, p1, p2, p3 => al (decide ((4 : Int) < p2)) (fL (bG k0) p1 p2 p3 true) (aw (vo p1) fun r1 => al r1 (fL (bG k0) p1 p2 p3 (p3.leaves == 40)) (fL (bG k0) p1 p2 p3 false))
abbrev dU (p1 : ap) : List PV := [pi p1.kind, pi p1.scale, .ro (af.els p1.fields)]
theorem rB : ∀ (k0 : Nat) (p1 : ap) (p2 : Int) (p3 : dF), CM Tryz.prog 108 [.one (.pt 0 0 0 0), mT p1, vi p2] [.box [ci p3.leaves]] (bG k0 p1 p2 p3) (fun r => vi r.1) (fun r => [.box [ci r.2.leaves]])
  | 0, _, _, _ => PA (bG.eq_1 ..)
  | k0 + 1, p1, p2, p3 => rF 1 83 [9] Tryz.f108 fun r => (uU (bG.eq_2 ..) (bL Tryz.f108 12 2 fun K k => have J1 : ∀ {x1}, fL (bG k0) p1 p2 p3 x1 = some r → K.p [(0, .one (.pt 0 0 0 0)), (2, vi p2), (4, vR (dU p1)), (23, vb x1)] [.box [ci p3.leaves]] := fun {x1} h => k h (uC (uR .ret sk) (bL Tryz.f108 14 1 fun K k => have J2 : ∀ {z1}, fM (bG k0) p1 p2 z1 = some r → K.p [(0, .one (.pt 0 0 0 0)), (2, vi p2), (4, vR (dU p1))] [.box [ci z1]] := fun {z1} h => k h (bL Tryz.f108 120 3 fun K k => have J3 : ∀ {x2}, jY (bG k0) p1 p2 z1 x2 = some r → K.p [(0, .one (.pt 0 0 0 0)), (2, vi p2), (4, vR (dU p1)), (33, vb x2)] [.box [ci z1]] := fun {x2} h => k h (uC (uR .ret sk) (bL Tryz.f108 486 3 fun K k => have J4 : ∀ {x3}, eG (bG k0) p1 p2 z1 x3 = some r → K.p [(0, .one (.pt 0 0 0 0)), (2, vi p2), (4, vR (dU p1)), (42, vb x3)] [.box [ci z1]] := fun {x3} h => k h (uC (uR .ret sk) (uP (Di _) fun r3 _ => (uC (uR .ret sk) (bL Tryz.f108 126 1 fun K k => have J5 : ∀ {z3}, qP z3 = some r → K.p [] [.box [ci z3]] := fun {z3} h => k h (uR .ret sk); (uN af p1.fields (gE Tryz.f108 506 1 fun R b => have hL1 : ∀ k1 {z2 x4}, dO (bG k0) p1 p2 k1 z2 x4 = some r → (R k1).p [(0, .one (.pt 0 0 0 0)), (2, vi p2), (67, vl af p1.fields), (68, vi p1.fields.length), (69, vi x4)] [.box [ci z2]] := uI (gr rfl) fun k1 ih1 {z2 x4} h => b h (uU (dO.eq_2 ..) (uC (uL af fun e1 a37 => (zW true [0] (rB k0 _ _ _) fun r4 _ => (uC (uR .ret (xN (xN sk))) (uJ ih1)))) (uR (.exit 1) (xM (uJ J5))))); uE (hL1 aX))))))); (uC (uC (uJ J4) (uC (uJ J4) (uJ J4))) (uJ J4)))); (uC (uJ J3) (uJ J3))); (uP (A2 _) fun r2 _ => (uC (uJ J2) (uJ J2))))); (uC (uJ J1) (uP (A2 _) fun r1 _ => (uC (uJ J1) (uJ J1))))))
def fI (p1 : ap) : Option Int := aw (bG aX p1 (1 : Int) (dF.mk (0 : Int))) fun r1 => some r1.1
theorem lr (p1 : ap) : CT Tryz.prog 59 [mT p1] (fI p1) vi :=
  dT 9 [5] Tryz.f59 fun r => (zW true [0] (rB aX _ _ _) fun r1 _ => uz)
def lY (p1 : ac) (p2 : (List (Int × Int))) : Option (Int × (List (Int × Int))) := al (decide (p1.id < (1 : Int))) (some ((3 : Int), p2)) (aw (some ((iB (rq .i64) p2 p1.id).getD (0 : Int))) fun x1 => aw (some ((iB (rq .i64) (jq (rq .i64) p2 p1.id (IntKind.i64.wrap (x1 + 1))) p1.id).getD (0 : Int))) fun x2 => al (decide ((1 : Int) < x2)) (some ((5 : Int), (jq (rq .i64) p2 p1.id (IntKind.i64.wrap (x1 + 1))))) (some ((0 : Int), (jq (rq .i64) p2 p1.id (IntKind.i64.wrap (x1 + 1))))))
theorem xL (p1 : ac) (p2 : (List (Int × Int))) : CM Tryz.prog 112 [mf p1, .one (.pt 0 0 0 0)] [.box [.mp 1], q8 (rq .i64) eI false p2] (lY p1 p2) (fun r => vi r.1) (fun r => [.box [.mp 1], q8 (rq .i64) eI false r.2]) :=
  rF 2 17 [] Tryz.f112 fun r => (uC (uR .ret sk) (Ue (rq .i64) eI false 1 (0 : Int) 3 3 false fun x1 _ => (Uu (rq .i64) eI false 1 (m := p2) (k0 := p1.id) (u := (IntKind.i64.wrap (x1 + 1))) 3 (Ue (rq .i64) eI false 1 (0 : Int) 3 3 false fun x2 _ => (uC (uR .ret sk) (uR .ret sk))))))
def fT (z2 : (List (Int × Int))) : Option (Int × (List (Int × Int))) := some ((0 : Int), z2)
def bZ (q_value_Walk_of_value_CheckSchema_1 : (List ac) → (List (Int × Int)) → Option (Int × (List (Int × Int)))) (p1 : (List ac)) : Nat → (List (Int × Int)) → Int → Option (Int × (List (Int × Int)))
 | 0, _, _ => none
 | k1 + 1, z1, x1 => al (decide (x1 < (p1.length : Int))) (aw (at? p1 x1) fun e1 => aw (lY e1 z1) fun r1 => al (r1.1 != 0) (some (r1.1, r1.2)) (aw (q_value_Walk_of_value_CheckSchema_1 e1.type.fields r1.2) fun r2 => al (r2.1 != 0) (some (r2.1, r2.2)) ((bZ q_value_Walk_of_value_CheckSchema_1 p1 k1) r2.2 (IntKind.i64.wrap (x1 + 1))))) (fT z1)
def bv : Nat → (List ac) → (List (Int × Int)) → Option (Int × (List (Int × Int)))
 | 0, _, _ => none
 | k0 + 1, p1, p2 => bZ (bv k0) p1 aX p2 (0 : Int)
theorem j9 : ∀ (k0 : Nat) (p1 : (List ac)) (p2 : (List (Int × Int))), CM Tryz.prog 77 [vl af p1, .one (.fn 112 [.pt 0 0 0 0])] [.box [.mp 1], q8 (rq .i64) eI false p2] (bv k0 p1 p2) (fun r => vi r.1) (fun r => [.box [.mp 1], q8 (rq .i64) eI false r.2])
  | 0, _, _ => PA (bv.eq_1 ..)
  | k0 + 1, p1, p2 => rF 2 30 [6] Tryz.f77 fun r => (uU (bv.eq_2 ..) (bL Tryz.f77 6 1 fun K k => have J1 : ∀ {z2}, fT z2 = some r → K.p [] [.box [.mp 1], q8 (rq .i64) eI false z2] := fun {z2} h => k h (uR .ret sk); (uN af p1 (gE Tryz.f77 26 1 fun R b => have hL1 : ∀ k1 {z1 x1}, bZ (bv k0) p1 k1 z1 x1 = some r → (R k1).p [(1, .one (.fn 112 [.pt 0 0 0 0])), (9, vl af p1), (10, vi p1.length), (11, vi x1)] [.box [.mp 1], q8 (rq .i64) eI false z1] := uI (gr rfl) fun k1 ih1 {z1 x1} h => b h (uU (bZ.eq_2 ..) (uC (uL af fun e1 a9 => (zW true [0,1] (xL _ _) fun r1 _ => (uC (uR .ret (xN (xN sk))) (zW true [0,1] (j9 k0 _ _) fun r2 _ => (uC (uR .ret (xN (xN sk))) (uJ ih1)))))) (uR (.exit 0) (xM (uJ J1))))); uE (hL1 aX)))))
def gb (p1 : (List ac)) : Option Int := aw (fI (ap.mk (7 : Int) (0 : Int) p1)) fun r1 => al (r1 != 0) (some r1) (aw (bv aX p1 []) fun r2 => some r2.1)
theorem oZ (p1 : (List ac)) : CT Tryz.prog 65 [vl af p1] (gb p1) vi :=
  dT 15 [4] Tryz.f65 fun r => (uP (lr _) fun r1 _ => (uC uz (UG (rq .i64) eI false (zW true [1,0] (j9 aX _ _) fun r2 _ => uz))))
def qS (p1 : ac) (p2 : (List (List ac))) (p3 : (List dq)) (p4 p5 p6 p7 : Int) (p8 : (List aj)) (p9 : (List kN)) (gc : (List pp)) : Option Int := al (decide (p4 ≤ p1.id)) (some (3 : Int)) (some (0 : Int))
theorem zD (p1 : ac) (p2 : (List (List ac))) (p3 : (List dq)) (p4 p5 p6 p7 : Int) (p8 : (List aj)) (p9 : (List kN)) (gc : (List pp)) : CT Tryz.prog 78 [mf p1, vR [.ro ((eL af).els p2), .ro (fR.els p3), pi p4, pi p5, pi p6, pi p7, .ro (aW.els p8), .ro (nI.els p9), .ro (kU.els gc)]] (qS p1 p2 p3 p4 p5 p6 p7 p8 p9 gc) vi :=
  dT 9 [] Tryz.f78 fun r => (uC uz uz)
def lp : Option Int := some (0 : Int)
def ca (q_value_Walk_of_table_schemas_1 : (List ac) → (List (List ac)) → (List dq) → Int → Int → Int → Int → (List aj) → (List kN) → (List pp) → Option Int) (p1 : (List ac)) (p2 : (List (List ac))) (p3 : (List dq)) (p4 p5 p6 p7 : Int) (p8 : (List aj)) (p9 : (List kN)) (gc : (List pp)) : Nat → Int → Option Int
 | 0, _ => none
 | k1 + 1, x1 => al (decide (x1 < (p1.length : Int))) (aw (at? p1 x1) fun e1 => aw (qS e1 p2 p3 p4 p5 p6 p7 p8 p9 gc) fun r1 => al (r1 != 0) (some r1) (aw (q_value_Walk_of_table_schemas_1 e1.type.fields p2 p3 p4 p5 p6 p7 p8 p9 gc) fun r2 => al (r2 != 0) (some r2) ((ca q_value_Walk_of_table_schemas_1 p1 p2 p3 p4 p5 p6 p7 p8 p9 gc k1) (IntKind.i64.wrap (x1 + 1))))) (lp)
def bM : Nat → (List ac) → (List (List ac)) → (List dq) → Int → Int → Int → Int → (List aj) → (List kN) → (List pp) → Option Int
 | 0, _, _, _, _, _, _, _, _, _, _ => none
 | k0 + 1, p1, p2, p3, p4, p5, p6, p7, p8, p9, gc => ca (bM k0) p1 p2 p3 p4 p5 p6 p7 p8 p9 gc aX (0 : Int)
theorem lP : ∀ (k0 : Nat) (p1 : (List ac)) (p2 : (List (List ac))) (p3 : (List dq)) (p4 p5 p6 p7 : Int) (p8 : (List aj)) (p9 : (List kN)) (gc : (List pp)), CT Tryz.prog 77 [vl af p1, .one (.fn 78 [.pv (.rp [[.ro ((eL af).els p2), .ro (fR.els p3), pi p4, pi p5, pi p6, pi p7, .ro (aW.els p8), .ro (nI.els p9), .ro (kU.els gc)]] 0 0)])] (bM k0 p1 p2 p3 p4 p5 p6 p7 p8 p9 gc) vi
  | 0, _, _, _, _, _, _, _, _, _, _ => EN (bM.eq_1 ..)
  | k0 + 1, p1, p2, p3, p4, p5, p6, p7, p8, p9, gc => dT 30 [6] Tryz.f77 fun r => (uU (bM.eq_2 ..) (bL Tryz.f77 6 1 fun K k => have J1 : lp = some r → K.p [] [] := fun h => k h uz; (uN af p1 (gE Tryz.f77 26 1 fun R b => have hL1 : ∀ k1 {x1}, ca (bM k0) p1 p2 p3 p4 p5 p6 p7 p8 p9 gc k1 x1 = some r → (R k1).p [(1, .one (.fn 78 [.pv (.rp [[.ro ((eL af).els p2), .ro (fR.els p3), pi p4, pi p5, pi p6, pi p7, .ro (aW.els p8), .ro (nI.els p9), .ro (kU.els gc)]] 0 0)])), (9, vl af p1), (10, vi p1.length), (11, vi x1)] [] := uI (gr rfl) fun k1 ih1 {x1} h => b h (uU (ca.eq_2 ..) (uC (uL af fun e1 a9 => (uP (zD _ _ _ _ _ _ _ _ _ _) fun r1 _ => (uC iU (uP (lP k0 _ _ _ _ _ _ _ _ _ _) fun r2 _ => (uC iU (uJ ih1)))))) (uR (.exit 0) (xM (uJ J1))))); uE (hL1 aX)))))
def nH (p1 : (List ac)) : Option Int := aw (gb p1) fun r1 => al (r1 != 0) (some r1) (some (0 : Int))
theorem wR (p1 : (List ac)) : CT Tryz.prog 28 [vl af p1, .one (.pv (.s (.slice none 0 0)))] (nH p1) vi :=
  dT 59 [] Tryz.f28 fun r => (uP (oZ _) fun r1 _ => (uC uz (uF (MG 0 (uF uz)))))
def qf (p1 : ac) (p2 : Int) : Option Bool := some (p1.id == p2)
theorem yl (p1 : ac) (p2 : Int) : CT Tryz.prog 200 [mf p1, vR [pi p2]] (qf p1 p2) vb :=
  dT 8 [] Tryz.f200 fun r => uz
def dY : Option Int := some (-1 : Int)
def aY (p1 : (List ac)) (p2 : Int) : Nat → Int → Option Int
 | 0, _ => none
 | k1 + 1, x1 => al (decide (x1 < (p1.length : Int))) (aw (at? p1 x1) fun e1 => aw (qf e1 p2) fun r1 => al r1 (some x1) ((aY p1 p2 k1) (IntKind.i64.wrap (x1 + 1)))) (dY)
def cM (p1 : (List ac)) (p2 : Int) : Option Int := aY p1 p2 aX (0 : Int)
theorem iY (p1 : (List ac)) (p2 : Int) : CT Tryz.prog 125 [vl af p1, .one (.fn 200 [.pv (.rp [[pi p2]] 0 0)])] (cM p1 p2) vi :=
  dT 19 [] Tryz.f125 fun r => (bL Tryz.f125 6 1 fun K k => have J1 : dY = some r → K.p [] [] := fun h => k h uz; (uN af p1 (gE Tryz.f125 26 1 fun R b => have hL1 : ∀ k1 {x1}, aY p1 p2 k1 x1 = some r → (R k1).p [(0, vl af p1), (1, .one (.fn 200 [.pv (.rp [[pi p2]] 0 0)])), (7, vi p1.length), (8, vi x1)] [] := uI (gr rfl) fun k1 ih1 {x1} h => b h (uU (aY.eq_2 ..) (uC (uL af fun e1 a10 => (uP (yl _ _) fun r1 _ => (uC iU (uJ ih1)))) (uR (.exit 0) (xM (uJ J1))))); uE (hL1 aX))))
def qq (p1 : (List ac)) (p2 : Int) : Option Int := aw (cM p1 p2) fun r1 => some r1
theorem B8 (p1 : (List ac)) (p2 : Int) : CT Tryz.prog 168 [vl af p1, vi p2] (qq p1 p2) vi :=
  dT 8 [] Tryz.f168 fun r => (uP (iY _ _) fun r1 _ => uz)
def nM (x1 : Bool) : Option Bool := some x1
def ou (p1 : ap) : Option Bool := al (p1.kind == 6) (nM true) (nM (p1.kind == 7))
theorem wP (p1 : ap) : CT Tryz.prog 169 [mT p1] (ou p1) vb :=
  dT 11 [] Tryz.f169 fun r => (bL Tryz.f169 6 1 fun K k => have J1 : ∀ {x1}, nM x1 = some r → K.p [(2, vb x1)] [] := fun {x1} h => k h uz; (uC (uJ J1) (uJ J1)))
def m9 (x1 : Bool) : Option Int := al x1 (some (2 : Int)) (some (0 : Int))
def ns (p1 : ap) : Option Int := aw (fI p1) fun r1 => al (r1 != 0) (some r1) (al (p1.kind == 6) (m9 true) (m9 (p1.kind == 7)))
theorem vz (p1 : ap) : CT Tryz.prog 198 [mT p1] (ns p1) vi :=
  dT 17 [] Tryz.f198 fun r => (uP (lr _) fun r1 _ => (uC uz (bL Tryz.f198 28 2 fun K k => have J1 : ∀ {x1}, m9 x1 = some r → K.p [(16, vb x1)] [] := fun {x1} h => k h (uC uz uz); (uC (uJ J1) (uJ J1)))))
def iV (x4 : Bool) : Option Bool := some x4
def oE (p1 p2 : ap) (x3 : Bool) : Option Bool := al x3 (some true) (al (p1.kind == 1) (al (p2.kind == 3) (iV (p2.scale == 0)) (iV false)) (al (p1.kind == 2) (al (p2.kind == 3) (iV (p2.scale == 0)) (iV false)) (iV false)))
def oU (p1 p2 : ap) (x2 : Bool) : Option Bool := al x2 (some true) (al (p1.kind == 1) (oE p1 p2 (p2.kind == 2)) (oE p1 p2 false))
def kj (p1 p2 : ap) (x1 : Bool) : Option Bool := al x1 (some false) (al (p1.kind == p2.kind) (oU p1 p2 (p1.scale == p2.scale)) (oU p1 p2 false))
def pD (p1 p2 : ap) : Option Bool := aw (ns p1) fun r1 => al (r1 != 0) (kj p1 p2 true) (aw (ns p2) fun r2 => kj p1 p2 (r2 != 0))
theorem CI (p1 p2 : ap) : CT Tryz.prog 162 [mT p1, mT p2] (pD p1 p2) vb :=
  dT 53 [] Tryz.f162 fun r => (bL Tryz.f162 12 2 fun K k => have J1 : ∀ {x1}, kj p1 p2 x1 = some r → K.p [(2, vR (dU p1)), (3, vR (dU p2)), (12, vb x1)] [] := fun {x1} h => k h (uC uz (bL Tryz.f162 56 3 fun K k => have J2 : ∀ {x2}, oU p1 p2 x2 = some r → K.p [(2, vR (dU p1)), (3, vR (dU p2)), (13, vb x2)] [] := fun {x2} h => k h (uC uz (bL Tryz.f162 230 3 fun K k => have J3 : ∀ {x3}, oE p1 p2 x3 = some r → K.p [(2, vR (dU p1)), (3, vR (dU p2)), (26, vb x3)] [] := fun {x3} h => k h (uC uz (bL Tryz.f162 30 1 fun K k => have J4 : ∀ {x4}, iV x4 = some r → K.p [(4, vb x4)] [] := fun {x4} h => k h uz; (uC (uC (uJ J4) (uJ J4)) (uC (uC (uJ J4) (uJ J4)) (uJ J4))))); (uC (uJ J3) (uJ J3)))); (uC (uJ J2) (uJ J2)))); (uP (vz _) fun r1 _ => (uC (uJ J1) (uP (vz _) fun r2 _ => (uJ J1)))))
def jJ (rec1 : Int → Option Int) (x1 : Int) : Option Int := rec1 (IntKind.i64.wrap (x1 + 1))
def fU (q_column_adaptable : (List ac) → (List ac) → Option Int) (rec1 : Int → Option Int) (x1 : Int) (e1 e2 : ac) (x4 : Bool) : Option Int := al x4 (some (2 : Int)) (aw (q_column_adaptable e2.type.fields e1.type.fields) fun r5 => al (r5 != 0) (some r5) (jJ rec1 x1))
def lZ (q_column_adaptable : (List ac) → (List ac) → Option Int) (rec1 : Int → Option Int) (x1 : Int) (e1 e2 : ac) (x3 : Bool) : Option Int := al x3 (fU q_column_adaptable rec1 x1 e1 e2 x3) (aw (ou e2.type) fun r3 => al (!r3) (aw (pD e2.type e1.type) fun r4 => fU q_column_adaptable rec1 x1 e1 e2 (!r4)) (fU q_column_adaptable rec1 x1 e1 e2 false))
def jK (q_column_adaptable : (List ac) → (List ac) → Option Int) (rec1 : Int → Option Int) (x1 : Int) (e1 e2 : ac) (x2 : Bool) : Option Int := al x2 (some (9 : Int)) (aw (ou e2.type) fun r2 => al r2 (lZ q_column_adaptable rec1 x1 e1 e2 (e1.type.kind != e2.type.kind)) (lZ q_column_adaptable rec1 x1 e1 e2 false))
def tu : Option Int := some (0 : Int)
def bD (q_column_adaptable : (List ac) → (List ac) → Option Int) (p1 p2 : (List ac)) : Nat → Int → Option Int
 | 0, _ => none
 | k1 + 1, x1 => al (decide (x1 < (p2.length : Int))) (aw (at? p2 x1) fun e1 => aw (qq p1 e1.id) fun r1 => al (decide (r1 < (0 : Int))) (al e1.need (some (9 : Int)) (jJ (bD q_column_adaptable p1 p2 k1) x1)) (aw (at? p1 r1) fun e2 => al e1.need (jK q_column_adaptable (bD q_column_adaptable p1 p2 k1) x1 e1 e2 (!e2.need)) (jK q_column_adaptable (bD q_column_adaptable p1 p2 k1) x1 e1 e2 false))) (tu)
def bw : Nat → (List ac) → (List ac) → Option Int
 | 0, _, _ => none
 | k0 + 1, p1, p2 => bD (bw k0) p1 p2 aX (0 : Int)
abbrev wa (e1 : ac) : List CV := [ci e1.id, xz e1.name, cb e1.need, ci e1.type.kind, ci e1.type.scale, cl af e1.type.fields]
theorem u6 : ∀ (k0 : Nat) (p1 p2 : (List ac)), CT Tryz.prog 122 [vl af p1, vl af p2] (bw k0 p1 p2) vi
  | 0, _, _ => EN (bw.eq_1 ..)
  | k0 + 1, p1, p2 => dT 72 [6, 8] Tryz.f122 fun r => (uU (bw.eq_2 ..) (bL Tryz.f122 6 1 fun K k => have J5 : tu = some r → K.p [] [] := fun h => k h uz; (uN af p2 (gE Tryz.f122 26 1 fun R b => have hL1 : ∀ k1 {x1}, bD (bw k0) p1 p2 k1 x1 = some r → (R k1).p [(0, vl af p1), (10, vl af p2), (11, vi p2.length), (12, vi x1)] [] := uI (gr rfl) fun k1 ih1 {x1} h => b h (uU (bD.eq_2 ..) (uC (bL Tryz.f122 422 1 fun K k => have J4 : jJ (bD (bw k0) p1 p2 k1) x1 = some r → K.p [(0, vl af p1), (10, vl af p2), (11, vi p2.length), (12, vi x1)] [] := fun h => k h (uJ ih1); (uL af fun e1 a9 => (uP (B8 _ _) fun r1 _ => (uC (uC (uR .ret (xN (xN (xN xF)))) (uJ J4)) (uL af fun e2 a20 => (bL Tryz.f122 108152 4 fun K k => have J1 : ∀ {x2}, jK (bw k0) (bD (bw k0) p1 p2 k1) x1 e1 e2 x2 = some r → K.p [(0, vl af p1), (6, .one (.pt 0 0 0 0)), (8, .one (.pt 1 0 0 0)), (10, vl af p2), (11, vi p2.length), (12, vi x1), (28, vb x2)] [.box (wa e1), .box (wa e2)] := fun {x2} h => k h (uC (uR .ret (xN (xN (xN xF)))) (bL Tryz.f122 432614 4 fun K k => have J3 : ∀ {x4}, fU (bw k0) (bD (bw k0) p1 p2 k1) x1 e1 e2 x4 = some r → K.p [(0, vl af p1), (6, .one (.pt 0 0 0 0)), (8, .one (.pt 1 0 0 0)), (10, vl af p2), (11, vi p2.length), (12, vi x1), (36, vb x4)] [.box (wa e1), .box (wa e2)] := fun {x4} h => k h (uC (uR .ret (xN (xN (xN xF)))) (uP (u6 k0 _ _) fun r5 _ => (uC (uR .ret (xN (xN (xN xF)))) (uJ J4)))); (bL Tryz.f122 865228 1 fun K k => have J2 : ∀ {x3}, lZ (bw k0) (bD (bw k0) p1 p2 k1) x1 e1 e2 x3 = some r → K.p [(0, vl af p1), (6, .one (.pt 0 0 0 0)), (8, .one (.pt 1 0 0 0)), (10, vl af p2), (11, vi p2.length), (12, vi x1), (36, vb x3)] [.box (wa e1), .box (wa e2)] := fun {x3} h => k h (uC (uJ J3) (uP (wP _) fun r3 _ => (uC (uP (CI _ _) fun r4 _ => (uJ J3)) (uJ J3)))); (uP (wP _) fun r2 _ => (uC (uJ J2) (uJ J2)))))); (uC (uJ J1) (uJ J1)))))))) (uR (.exit 0) (xM (uJ J5))))); uE (hL1 aX)))))
def lQ (p1 : (List (List ae))) : Option (List (List ae)) := nX (0 ≤ (0 : Int) ∧ (0 : Int) ≤ (p1.length : Int) ∧ (p1.length : Int) ≤ (p1.length : Int) ∧ (p1.length : Int) ≤ (p1.length : Int)) <| some ((p1.drop (0 : Int).toNat).take ((p1.length : Int).toNat - (0 : Int).toNat))
theorem qp (p1 : (List (List ae))) : CT Tryz.prog 124 [vl (eL am) p1] (lQ p1) (fun r => vl (eL am) r) :=
  dT 9 [] Tryz.f124 fun r => (uN (eL am) p1 (uN (eL am) p1 (T7 (eL am) uz)))
def nP (p1 p2 : (List ac)) : Option ((List (List ae)) × Int) := aw (nH p1) fun r1 => al (r1 != 0) (some ([], r1)) (aw (gb p2) fun r2 => al (r2 != 0) (some ([], r2)) (aw (bw aX p1 p2) fun r3 => al (r3 != 0) (some ([], r3)) (aw (lQ []) fun r4 => some (r4, (0 : Int)))))
theorem zy (p1 p2 : (List ac)) : CT Tryz.prog 79 [vl af p1, vl af p2, .one (.pv (.s (.slice none 0 0)))] (nP p1 p2) (fun r => .tp [vl (eL am) r.1, vi r.2]) :=
  dT 47 [] Tryz.f79 fun r => (RD (wR _) fun r1 _ => (uC uz (uP (oZ _) fun r2 _ => (uC uz (uP (u6 aX _ _) fun r3 _ => (uC uz (MG 0 (uF (uP (qp _) fun r4 _ => uz)))))))))
def rN (rec1 : Int → Option Int) (x1 : Int) : Option Int := rec1 (IntKind.i64.wrap (x1 + 1))
def i4 (rec1 : Int → Option Int) (p1 : ax) (x1 : Int) (e1 : (List ac)) : Nat → Int → Option Int
 | 0, _ => none
 | k2 + 1, x2 => aw (some (decide (x2 < (((p1.schemas.drop (0 : Int).toNat).take (x1.toNat - (0 : Int).toNat)).length : Int)))) fun y1 => al y1 (aw (at? ((p1.schemas.drop (0 : Int).toNat).take (x1.toNat - (0 : Int).toNat)) x2) fun e2 => aw (nP e2 e1) fun r3 => al (r3.2 != 0) (some r3.2) ((i4 rec1 p1 x1 e1 k2) (IntKind.i64.wrap (x2 + 1)))) (rN rec1 x1)
def wM : Option Int := some (0 : Int)
def ej (p1 : ax) : Nat → Int → Option Int
 | 0, _ => none
 | k1 + 1, x1 => al (decide (x1 < (p1.schemas.length : Int))) (aw (at? p1.schemas x1) fun e1 => aw (gb e1) fun r1 => al (r1 != 0) (some r1) (aw (bM aX e1 p1.schemas p1.specs p1.nextField p1.nextSeq p1.nextSnap p1.purges p1.snapshots p1.refs p1.props) fun r2 => al (r2 != 0) (some r2) (nX (0 ≤ (0 : Int) ∧ (0 : Int) ≤ x1 ∧ x1 ≤ (p1.schemas.length : Int)) <| i4 (ej p1 k1) p1 x1 e1 aX (0 : Int)))) (wM)
def sA (p1 : ax) : Option Int := ej p1 aX (0 : Int)
abbrev b9 (p1 : ax) : List PV := [.ro ((eL af).els p1.schemas), .ro (fR.els p1.specs), pi p1.nextField, pi p1.nextSeq, pi p1.nextSnap, pi p1.purges, .ro (aW.els p1.snapshots), .ro (nI.els p1.refs), .ro (kU.els p1.props)]
abbrev LU (p1 : ax) (x1 : Int) : Fr := [(1, .one (.pv (.rp [(b9 p1)] 0 0))), (12, vl (eL af) p1.schemas), (13, vi (p1.schemas.length : Int)), (14, vi x1)]
theorem CG (p1 : ax) : CT Tryz.prog 34 [mM p1] (sA p1) vi :=
  dT 50 [] Tryz.f34 fun r => (bL Tryz.f34 6 1 fun K k => have J2 : wM = some r → K.p [] [] := fun h => k h uz; (uN (eL af) p1.schemas (gE Tryz.f34 26 1 fun R b => have hL1 : ∀ k1 {x1}, ej p1 k1 x1 = some r → (R k1).p (LU p1 x1) [] := uI (gr rfl) fun k1 ih1 {x1} h => b h (uU (ej.eq_2 ..) (uC (bL Tryz.f34 422 1 fun K k => have J1 : rN (ej p1 k1) x1 = some r → K.p (LU p1 x1) [] := fun h => k h (uJ ih1); (uL (eL af) fun e1 a9 => (uP (oZ _) fun r1 _ => (uC (uR .ret (xN (xN (xN xF)))) (uP (lP aX _ _ _ _ _ _ _ _ _ _) fun r2 _ => (uC (uR .ret (xN (xN (xN xF)))) (uX (eL af) (uN (eL af) ((p1.schemas.drop (0 : Int).toNat).take (x1.toNat - (0 : Int).toNat)) (gE Tryz.f34 54078 2 fun R b => have hL2 : ∀ k2 {x2}, i4 (ej p1 k1) p1 x1 e1 k2 x2 = some r → (R k2).p [(1, vR (b9 p1)), (4, vl af e1), (12, vl (eL af) p1.schemas), (13, vi p1.schemas.length), (14, vi x1), (33, vl (eL af) ((p1.schemas.drop (0 : Int).toNat).take (x1.toNat - (0 : Int).toNat))), (34, vi (((p1.schemas.drop (0 : Int).toNat).take (x1.toNat - (0 : Int).toNat)).length : Int)), (35, vi x2)] [] := uI (gr rfl) fun k2 ih2 {x2} h => b h (uU (i4.eq_2 ..) (uY 36 vb fun y1 => (uC (uL (eL af) fun e2 a30 => (RD (zy _ _) fun r3 _ => (uC (uR .ret (xN (xN (xN (xN xF))))) (uJ ih2)))) (uR (.exit 2) (xM (uJ J1)))))); uE (hL2 aX)))))))))) (uR (.exit 0) (xM (uJ J2))))); uE (hL1 aX))))
def pj (p1 : ac) (p2 : Int) : Option Bool := some (p1.id == p2)
theorem CQ (p1 : ac) (p2 : Int) : CT Tryz.prog 126 [mf p1, vR [pi p2]] (pj p1 p2) vb :=
  dT 8 [] Tryz.f126 fun r => uz
def eQ : Option Int := some (-1 : Int)
def aG (p1 : (List ac)) (p2 : Int) : Nat → Int → Option Int
 | 0, _ => none
 | k1 + 1, x1 => al (decide (x1 < (p1.length : Int))) (aw (at? p1 x1) fun e1 => aw (pj e1 p2) fun r1 => al r1 (some x1) ((aG p1 p2 k1) (IntKind.i64.wrap (x1 + 1)))) (eQ)
def cp (p1 : (List ac)) (p2 : Int) : Option Int := aG p1 p2 aX (0 : Int)
theorem jP (p1 : (List ac)) (p2 : Int) : CT Tryz.prog 125 [vl af p1, .one (.fn 126 [.pv (.rp [[pi p2]] 0 0)])] (cp p1 p2) vi :=
  dT 19 [] Tryz.f125 fun r => (bL Tryz.f125 6 1 fun K k => have J1 : eQ = some r → K.p [] [] := fun h => k h uz; (uN af p1 (gE Tryz.f125 26 1 fun R b => have hL1 : ∀ k1 {x1}, aG p1 p2 k1 x1 = some r → (R k1).p [(0, vl af p1), (1, .one (.fn 126 [.pv (.rp [[pi p2]] 0 0)])), (7, vi p1.length), (8, vi x1)] [] := uI (gr rfl) fun k1 ih1 {x1} h => b h (uU (aG.eq_2 ..) (uC (uL af fun e1 a10 => (uP (CQ _ _) fun r1 _ => (uC iU (uJ ih1)))) (uR (.exit 0) (xM (uJ J1))))); uE (hL1 aX))))
def kh (p1 : (List ac)) (p2 : Int) : Option Int := aw (cp p1 p2) fun r1 => some r1
theorem sM (p1 : (List ac)) (p2 : Int) : CT Tryz.prog 81 [vl af p1, vi p2] (kh p1 p2) vi :=
  dT 8 [] Tryz.f81 fun r => (uP (jP _ _) fun r1 _ => uz)
def s9 (p1 : bm) (p2 : (List (List ac))) (p3 : (List dq)) (p4 p5 p6 p7 : Int) (p8 : (List aj)) (p9 : (List kN)) (gc : (List pp)) (p11 : Int) : Option (Bool × Int) := aw (at? p2 p11) fun e1 => aw (kh e1 p1.source) fun r1 => some ((decide (r1 < (0 : Int))), p11)
theorem Bs (p1 : bm) (p2 : (List (List ac))) (p3 : (List dq)) (p4 p5 p6 p7 : Int) (p8 : (List aj)) (p9 : (List kN)) (gc : (List pp)) (p11 : Int) : CM Tryz.prog 80 [.ag [ci p1.source, ci p1.transform.kind, ci p1.transform.param], vR [.ro ((eL af).els p2), .ro (fR.els p3), pi p4, pi p5, pi p6, pi p7, .ro (aW.els p8), .ro (nI.els p9), .ro (kU.els gc)], .one (.pt 0 0 0 0)] [.box [ci p11]] (s9 p1 p2 p3 p4 p5 p6 p7 p8 p9 gc p11) (fun r => vb r.1) (fun r => [.box [ci r.2]]) :=
  rF 1 14 [] Tryz.f80 fun r => (oS 7 (uL (eL af) fun e1 a3 => (uP (sM _ _) fun r1 _ => (uR .ret sk))))
def dG (z2 : Int) : Option (Int × Int) := some ((-1 : Int), z2)
def aI (p1 : (List bm)) (p2 : (List (List ac))) (p3 : (List dq)) (p4 p5 p6 p7 : Int) (p8 : (List aj)) (p9 : (List kN)) (gc : (List pp)) : Nat → Int → Int → Option (Int × Int)
 | 0, _, _ => none
 | k1 + 1, z1, x1 => al (decide (x1 < (p1.length : Int))) (aw (at? p1 x1) fun e1 => aw (s9 e1 p2 p3 p4 p5 p6 p7 p8 p9 gc z1) fun r1 => al r1.1 (some (x1, r1.2)) ((aI p1 p2 p3 p4 p5 p6 p7 p8 p9 gc k1) r1.2 (IntKind.i64.wrap (x1 + 1)))) (dG z1)
def cx (p1 : (List bm)) (p2 : (List (List ac))) (p3 : (List dq)) (p4 p5 p6 p7 : Int) (p8 : (List aj)) (p9 : (List kN)) (gc : (List pp)) (p11 : Int) : Option (Int × Int) := aI p1 p2 p3 p4 p5 p6 p7 p8 p9 gc aX p11 (0 : Int)
theorem hI (p1 : (List bm)) (p2 : (List (List ac))) (p3 : (List dq)) (p4 p5 p6 p7 : Int) (p8 : (List aj)) (p9 : (List kN)) (gc : (List pp)) (p11 : Int) : CM Tryz.prog 127 [vl aM p1, .one (.fn 80 [.pv (.rp [[.ro ((eL af).els p2), .ro (fR.els p3), pi p4, pi p5, pi p6, pi p7, .ro (aW.els p8), .ro (nI.els p9), .ro (kU.els gc)]] 0 0), .pt 0 0 0 0])] [.box [ci p11]] (cx p1 p2 p3 p4 p5 p6 p7 p8 p9 gc p11) (fun r => vi r.1) (fun r => [.box [ci r.2]]) :=
  rF 1 19 [] Tryz.f127 fun r => (bL Tryz.f127 6 1 fun K k => have J1 : ∀ {z2}, dG z2 = some r → K.p [] [.box [ci z2]] := fun {z2} h => k h (uR .ret sk); (uN aM p1 (gE Tryz.f127 26 1 fun R b => have hL1 : ∀ k1 {z1 x1}, aI p1 p2 p3 p4 p5 p6 p7 p8 p9 gc k1 z1 x1 = some r → (R k1).p [(0, vl aM p1), (1, .one (.fn 80 [.pv (.rp [[.ro ((eL af).els p2), .ro (fR.els p3), pi p4, pi p5, pi p6, pi p7, .ro (aW.els p8), .ro (nI.els p9), .ro (kU.els gc)]] 0 0), .pt 0 0 0 0])), (7, vi p1.length), (8, vi x1)] [.box [ci z1]] := uI (gr rfl) fun k1 ih1 {z1 x1} h => b h (uU (aI.eq_2 ..) (uC (uL aM fun e1 a10 => (zW true [0] (Bs _ _ _ _ _ _ _ _ _ _ _) fun r1 _ => (uC (uR .ret (xN (xN sk))) (uJ ih1)))) (uR (.exit 0) (xM (uJ J1))))); uE (hL1 aX))))
def bB (p1 : (List bm)) (p2 : (List (List ac))) (p3 : (List dq)) (p4 p5 p6 p7 : Int) (p8 : (List aj)) (p9 : (List kN)) (gc : (List pp)) (p11 : Int) : Option (Bool × Int) := aw (cx p1 p2 p3 p4 p5 p6 p7 p8 p9 gc p11) fun r1 => some ((decide ((0 : Int) ≤ r1.1)), r1.2)
theorem gG (p1 : (List bm)) (p2 : (List (List ac))) (p3 : (List dq)) (p4 p5 p6 p7 : Int) (p8 : (List aj)) (p9 : (List kN)) (gc : (List pp)) (p11 : Int) : CM Tryz.prog 82 [vl aM p1, .one (.fn 80 [.pv (.rp [[.ro ((eL af).els p2), .ro (fR.els p3), pi p4, pi p5, pi p6, pi p7, .ro (aW.els p8), .ro (nI.els p9), .ro (kU.els gc)]] 0 0), .pt 0 0 0 0])] [.box [ci p11]] (bB p1 p2 p3 p4 p5 p6 p7 p8 p9 gc p11) (fun r => vb r.1) (fun r => [.box [ci r.2]]) :=
  rF 1 9 [] Tryz.f82 fun r => (zW true [0] (hI _ _ _ _ _ _ _ _ _ _ _) fun r1 _ => (uR .ret sk))
def sF (x1 : Bool) : Option Bool := some x1
def rM (p1 : ap) : Option Bool := al (p1.kind != 6) (sF (p1.kind != 7)) (sF false)
theorem xb (p1 : ap) : CT Tryz.prog 154 [mT p1] (rM p1) vb :=
  dT 11 [] Tryz.f154 fun r => (bL Tryz.f154 6 1 fun K k => have J1 : ∀ {x1}, sF x1 = some r → K.p [(2, vb x1)] [] := fun {x1} h => k h uz; (uC (uJ J1) (uJ J1)))
def jV (p2 : ap) (x6 : Bool) : Option (ap × Int) := al x6 (some ((ap.mk (2 : Int) (0 : Int) []), (0 : Int))) (some (p2, (0 : Int)))
def fO (p1 : cj) (p2 : ap) (x5 : Bool) : Option (ap × Int) := al x5 (some ((ap.mk (0 : Int) (0 : Int) []), (2 : Int))) (al (p1.kind == 2) (jV p2 true) (jV p2 (decide ((4 : Int) ≤ p1.kind))))
def fK (p1 : cj) (p2 : ap) (x4 : Bool) : Option (ap × Int) := al x4 (fO p1 p2 x4) (al (decide ((4 : Int) ≤ p1.kind)) (fO p1 p2 (p2.kind != 5)) (fO p1 p2 false))
def ij (p1 : cj) (p2 : ap) : Option (ap × Int) := aw (rM p2) fun r2 => al (!r2) (fO p1 p2 (!r2)) (al (p1.kind == 3) (al (p2.kind != 2) (al (p2.kind != 3) (fK p1 p2 (p2.kind != 4)) (fK p1 p2 false)) (fK p1 p2 false)) (fK p1 p2 false))
def jU (p1 : cj) (p2 : ap) (x3 : Bool) : Option (ap × Int) := al x3 (some ((ap.mk (0 : Int) (0 : Int) []), (3 : Int))) (ij p1 p2)
def jQ (p1 : cj) (p2 : ap) (x2 : Bool) : Option (ap × Int) := al x2 (al (decide (p1.param < (1 : Int))) (jU p1 p2 true) (jU p1 p2 (decide ((1000000 : Int) < p1.param)))) (al (p1.param != 0) (some ((ap.mk (0 : Int) (0 : Int) []), (3 : Int))) (ij p1 p2))
def jT (p1 : cj) (p2 : ap) (x1 : Bool) : Option (ap × Int) := al x1 (some ((ap.mk (0 : Int) (0 : Int) []), (3 : Int))) (al (p1.kind == 2) (jQ p1 p2 true) (jQ p1 p2 (p1.kind == 3)))
def fW (p1 : cj) (p2 : ap) : Option (ap × Int) := aw (fI p2) fun r1 => al (r1 != 0) (some ((ap.mk (0 : Int) (0 : Int) []), r1)) (al (decide (p1.kind < (0 : Int))) (jT p1 p2 true) (jT p1 p2 (decide ((7 : Int) < p1.kind))))
abbrev te : List CV := [ci (0 : Int), ci (0 : Int), .pv (.s (.slice none 0 0))]
theorem rA (p1 : cj) (p2 : ap) : CT Tryz.prog 110 [.ag [ci p1.kind, ci p1.param], mT p2] (fW p1 p2) (fun r => .tp [mT r.1, vi r.2]) :=
  dT 85 [4] Tryz.f110 fun r => (uP (lr _) fun r1 _ => (uC uz (bL Tryz.f110 28 2 fun K k => have J1 : ∀ {x1}, jT p1 p2 x1 = some r → K.p [(2, vR [pi p1.kind, pi p1.param]), (3, vR (dU p2)), (4, .one (.pt 0 0 0 0)), (20, vb x1)] [.box te] := fun {x1} h => k h (uC uz (bL Tryz.f110 30 1 fun K k => have J4 : ij p1 p2 = some r → K.p [(2, vR [pi p1.kind, pi p1.param]), (3, vR (dU p2)), (4, .one (.pt 0 0 0 0))] [.box te] := fun h => k h (bL Tryz.f110 248 3 fun K k => have J6 : ∀ {x5}, fO p1 p2 x5 = some r → K.p [(2, vR [pi p1.kind, pi p1.param]), (3, vR (dU p2)), (4, .one (.pt 0 0 0 0)), (43, vb x5)] [.box te] := fun {x5} h => k h (uC uz (bL Tryz.f110 998 3 fun K k => have J7 : ∀ {x6}, jV p2 x6 = some r → K.p [(3, vR (dU p2)), (4, .one (.pt 0 0 0 0)), (74, vb x6)] [.box te] := fun {x6} h => k h (uC uz uz); (uC (uJ J7) (uJ J7)))); (uP (xb _) fun r2 _ => (uC (uJ J6) (bL Tryz.f110 1990 1 fun K k => have J5 : ∀ {x4}, fK p1 p2 x4 = some r → K.p [(2, vR [pi p1.kind, pi p1.param]), (3, vR (dU p2)), (4, .one (.pt 0 0 0 0)), (43, vb x4)] [.box te] := fun {x4} h => k h (uC (uJ J6) (uC (uJ J6) (uJ J6))); (uC (uC (uC (uJ J5) (uJ J5)) (uJ J5)) (uJ J5)))))); (bL Tryz.f110 60 1 fun K k => have J2 : ∀ {x2}, jQ p1 p2 x2 = some r → K.p [(2, vR [pi p1.kind, pi p1.param]), (3, vR (dU p2)), (4, .one (.pt 0 0 0 0)), (29, vb x2)] [.box te] := fun {x2} h => k h (uC (bL Tryz.f110 244 1 fun K k => have J3 : ∀ {x3}, jU p1 p2 x3 = some r → K.p [(2, vR [pi p1.kind, pi p1.param]), (3, vR (dU p2)), (4, .one (.pt 0 0 0 0)), (37, vb x3)] [.box te] := fun {x3} h => k h (uC (uR .ret (xN xF)) (uJ J4)); (uC (uJ J3) (uJ J3))) (uC (uR .ret (xN xF)) (uJ J4))); (uC (uJ J2) (uJ J2))))); (uC (uJ J1) (uJ J1)))))
def hH : Option Int := some (-1 : Int)
def bz (p1 : (List bm)) (p2 : bm) : Nat → Int → Option Int
 | 0, _ => none
 | k1 + 1, x1 => al (decide (x1 < (p1.length : Int))) (aw (at? p1 x1) fun e1 => aw (some ((p2.source == e1.source) && (((p2.transform.kind == e1.transform.kind) && ((p2.transform.param == e1.transform.param) && true)) && true))) fun y1 => al y1 (some x1) ((bz p1 p2 k1) (IntKind.i64.wrap (x1 + 1)))) (hH)
def eW (p1 : (List bm)) (p2 : bm) : Option Int := bz p1 p2 aX (0 : Int)
theorem mU (p1 : (List bm)) (p2 : bm) : CT Tryz.prog 155 [vl aM p1, .ag [ci p2.source, ci p2.transform.kind, ci p2.transform.param]] (eW p1 p2) vi :=
  dT 19 [] Tryz.f155 fun r => (bL Tryz.f155 6 1 fun K k => have J1 : hH = some r → K.p [] [] := fun h => k h uz; (uN aM p1 (gE Tryz.f155 26 1 fun R b => have hL1 : ∀ k1 {x1}, bz p1 p2 k1 x1 = some r → (R k1).p [(0, vl aM p1), (3, vR [pi p2.source, pi p2.transform.kind, pi p2.transform.param]), (7, vi p1.length), (8, vi x1)] [] := uI (gr rfl) fun k1 ih1 {x1} h => b h (uU (bz.eq_2 ..) (uC (oS 5 (uL aM fun e1 a10 => (uY 16 vb fun y1 => (uC iU (uJ ih1))))) (uR (.exit 0) (xM (uJ J1))))); uE (hL1 aX))))
def cZ (p1 : (List bm)) (p2 : bm) : Option Bool := aw (eW p1 p2) fun r1 => some (decide ((0 : Int) ≤ r1))
theorem lR (p1 : (List bm)) (p2 : bm) : CT Tryz.prog 111 [vl aM p1, .ag [ci p2.source, ci p2.transform.kind, ci p2.transform.param]] (cZ p1 p2) vb :=
  dT 9 [] Tryz.f111 fun r => (uP (mU _ _) fun r1 _ => uz)
def yr : Option Int := some (0 : Int)
def kA (p1 : dq) (p2 : (List ac)) : Nat → Int → Option Int
 | 0, _ => none
 | k1 + 1, x1 => al (decide (x1 < (p1.fields.length : Int))) (aw (at? p1.fields x1) fun e1 => aw (kh p2 e1.source) fun r1 => al (decide (r1 < (0 : Int))) (some (9 : Int)) (aw (at? p2 r1) fun e2 => aw (fW e1.transform e2.type) fun r2 => al (r2.2 != 0) (some r2.2) (nX (0 ≤ (0 : Int) ∧ (0 : Int) ≤ x1 ∧ x1 ≤ (p1.fields.length : Int)) <| aw (cZ ((p1.fields.drop (0 : Int).toNat).take (x1.toNat - (0 : Int).toNat)) e1) fun r3 => al r3 (some (5 : Int)) ((kA p1 p2 k1) (IntKind.i64.wrap (x1 + 1)))))) (yr)
def ql (p1 : dq) (p2 : (List ac)) : Option Int := al (decide ((4 : Int) < (p1.fields.length : Int))) (some (7 : Int)) (kA p1 p2 aX (0 : Int))
theorem Ek (p1 : dq) (p2 : (List ac)) : CT Tryz.prog 62 [.ag [cl aM p1.fields], vl af p2] (ql p1 p2) vi :=
  dT 49 [6, 8] Tryz.f62 fun r => (uN aM p1.fields (uC uz (bL Tryz.f62 14 1 fun K k => have J1 : yr = some r → K.p [] [] := fun h => k h uz; (uN aM p1.fields (gE Tryz.f62 58 1 fun R b => have hL1 : ∀ k1 {x1}, kA p1 p2 k1 x1 = some r → (R k1).p [(1, vl af p2), (2, vR [.ro (aM.els p1.fields)]), (15, vl aM p1.fields), (16, vi p1.fields.length), (17, vi x1)] [] := uI (gr rfl) fun k1 ih1 {x1} h => b h (uU (kA.eq_2 ..) (uC (uL aM fun e1 a13 => (uP (sM _ _) fun r1 _ => (uC iU (Hq 13 1 [1,2] (uL af fun e2 a22 => (uP (rA _ _) fun r2 _ => (uC iU (oS 5 (uX aM (uP (lR _ _) fun r3 _ => (uC iU (uJ ih1)))))))))))) (uR (.exit 0) (xM (uJ J1))))); uE (hL1 aX))))))
def l0 (rec1 : Int → Option Int) (p1 : ax) (x1 : Int) (e1 : dq) (z3 : Int) (x3 : Bool) : Option Int := al x3 (some (9 : Int)) (aw (at? p1.schemas z3) fun e2 => aw (ql e1 e2) fun r2 => al (r2 != 0) (some r2) (rec1 (IntKind.i64.wrap (x1 + 1))))
def n7 (rec1 : Int → Option Int) (p1 : ax) (x1 : Int) (e1 : dq) (z3 : Int) : Option Int := al (decide (z3 < (0 : Int))) (l0 rec1 p1 x1 e1 z3 true) (al (x1 == (IntKind.i64.wrap ((p1.specs.length : Int) - (1 : Int)))) (aw (some (decide (z3 < (IntKind.i64.wrap ((p1.schemas.length : Int) - (1 : Int)))))) fun y1 => l0 rec1 p1 x1 e1 z3 y1) (l0 rec1 p1 x1 e1 z3 false))
def qz (rec1 rec2 : Int → Option Int) (p1 : ax) (x1 : Int) (e1 : dq) (z2 : Int) (x2 : Bool) : Option Int := al x2 (rec2 (IntKind.i64.wrap (z2 - 1))) (n7 rec1 p1 x1 e1 z2)
def gk (rec1 : Int → Option Int) (p1 : ax) (x1 : Int) (e1 : dq) : Nat → Int → Option Int
 | 0, _ => none
 | k2 + 1, z1 => al (decide ((0 : Int) ≤ z1)) (aw (bB e1.fields p1.schemas p1.specs p1.nextField p1.nextSeq p1.nextSnap p1.purges p1.snapshots p1.refs p1.props z1) fun r1 => qz rec1 (gk rec1 p1 x1 e1 k2) p1 x1 e1 r1.2 r1.1) (qz rec1 (gk rec1 p1 x1 e1 k2) p1 x1 e1 z1 false)
def ym : Option Int := some (0 : Int)
def dM (p1 : ax) : Nat → Int → Option Int
 | 0, _ => none
 | k1 + 1, x1 => al (decide (x1 < (p1.specs.length : Int))) (aw (at? p1.specs x1) fun e1 => gk (dM p1 k1) p1 x1 e1 aX (IntKind.i64.wrap ((p1.schemas.length : Int) - (1 : Int)))) (ym)
def vB (p1 : ax) : Option Int := dM p1 aX (0 : Int)
theorem Em (p1 : ax) : CT Tryz.prog 35 [mM p1] (vB p1) vi :=
  dT 60 [4, 5] Tryz.f35 fun r => (bL Tryz.f35 6 1 fun K k => have J4 : ym = some r → K.p [] [] := fun h => k h uz; (uN fR p1.specs (gE Tryz.f35 26 1 fun R b => have hL1 : ∀ k1 {x1}, dM p1 k1 x1 = some r → (R k1).p [(1, vR (b9 p1)), (9, vl fR p1.specs), (10, vi p1.specs.length), (11, vi x1)] [] := uI (gr rfl) fun k1 ih1 {x1} h => b h (uU (dM.eq_2 ..) (uC (uL fR fun e1 a9 => (uN (eL af) p1.schemas (bL Tryz.f35 13518 3 fun K k => have J2 : ∀ {z3}, n7 (dM p1 k1) p1 x1 e1 z3 = some r → K.p [(1, vR (b9 p1)), (3, vi x1), (4, .one (.pt 0 0 0 0)), (5, .one (.pt 1 0 0 0)), (9, vl fR p1.specs), (10, vi p1.specs.length), (11, vi x1)] [.box [cl aM e1.fields], .box [ci z3]] := fun {z3} h => k h (bL Tryz.f35 54076 4 fun K k => have J3 : ∀ {x3}, l0 (dM p1 k1) p1 x1 e1 z3 x3 = some r → K.p [(1, vR (b9 p1)), (4, .one (.pt 0 0 0 0)), (5, .one (.pt 1 0 0 0)), (9, vl fR p1.specs), (10, vi p1.specs.length), (11, vi x1), (48, vb x3)] [.box [cl aM e1.fields], .box [ci z3]] := fun {x3} h => k h (uC iU (oS 6 (uL (eL af) fun e2 a26 => (uP (Ek _ _) fun r2 _ => (uC iU (uJ ih1)))))); (uC (uJ J3) (uN fR p1.specs (uC (uN (eL af) p1.schemas (uY 46 vb fun y1 => (uJ J3))) (uJ J3))))); (gE Tryz.f35 27036 1 fun R b => have hL2 : ∀ k2 {z1}, gk (dM p1 k1) p1 x1 e1 k2 z1 = some r → (R k2).p [(1, vR (b9 p1)), (3, vi x1), (4, .one (.pt 0 0 0 0)), (5, .one (.pt 1 0 0 0)), (6, .one (.fn 80 [.pv (.rp [(b9 p1)] 0 0), .pt 1 0 0 0])), (9, vl fR p1.specs), (10, vi p1.specs.length), (11, vi x1)] [.box [cl aM e1.fields], .box [ci z1]] := uI (gr rfl) fun k2 ih2 {z1} h => b h (uU (gk.eq_2 ..) (bL Tryz.f35 216288 2 fun K k => have J1 : ∀ {z2 x2}, qz (dM p1 k1) (gk (dM p1 k1) p1 x1 e1 k2) p1 x1 e1 z2 x2 = some r → K.p [(1, vR (b9 p1)), (3, vi x1), (4, .one (.pt 0 0 0 0)), (5, .one (.pt 1 0 0 0)), (6, .one (.fn 80 [.pv (.rp [(b9 p1)] 0 0), .pt 1 0 0 0])), (9, vl fR p1.specs), (10, vi p1.specs.length), (11, vi x1), (28, vb x2)] [.box [cl aM e1.fields], .box [ci z2]] := fun {z2 x2} h => k h (uC (uJ ih2) (uR (.exit 2) (xM (uJ J2)))); (uC (zW true [1] (gG _ _ _ _ _ _ _ _ _ _ _) fun r1 _ => (uJ J1)) (uJ J1)))); uE (hL2 aX))))) (uR (.exit 0) (xM (uJ J4))))); uE (hL1 aX))))
def iK (x2 : Bool) : Option Bool := al x2 (some true) (some false)
def iJ (p1 : Int) (x1 : Bool) : Option Bool := al x1 (some true) (al (decide ((57343 : Int) < p1)) (iK (decide (p1 ≤ (1114111 : Int)))) (iK false))
def jZ (p1 : Int) : Option Bool := al (decide ((0 : Int) ≤ p1)) (iJ p1 (decide (p1 < (55296 : Int)))) (iJ p1 false)
theorem wh (p1 : Int) : CT Tryz.prog 223 [vk .i32 p1] (jZ p1) vb :=
  dT 17 [] Tryz.f223 fun r => (bL Tryz.f223 24 3 fun K k => have J1 : ∀ {x1}, iJ p1 x1 = some r → K.p [(0, vk .i32 p1), (3, vb x1)] [] := fun {x1} h => k h (uC uz (bL Tryz.f223 102 3 fun K k => have J2 : ∀ {x2}, iK x2 = some r → K.p [(10, vb x2)] [] := fun {x2} h => k h (uC uz uz); (uC (uJ J2) (uJ J2)))); (uC (uJ J1) (uJ J1)))
def sO : Option Int := some (-1 : Int)
def ju (p1 : ByteArray) : Nat → Nat → Option Int
 | 0, _ => none
 | k1 + 1, z1 => al (decide (z1 < p1.size)) (al (Int.ofNat (Utf8.decode p1 z1).1 == 65533) (some (Int.ofNat z1)) ((ju p1 k1) (z1 + (Utf8.decode p1 z1).2))) (sO)
def sN (p2 x2 : Int) : Option Int := aw (some (IntKind.i64.wrap (x2 - (IntKind.i64.wrap (((Utf8.encode p2).size : Int) - (1 : Int)))))) fun y9 => some y9
def lj (p1 : ByteArray) (p2 x2 : Int) : Nat → Int → Option Int
 | 0, _ => none
 | k3 + 1, x3 => al (decide (x3 < ((Utf8.encode p2).size : Int))) (nX (0 ≤ (IntKind.i64.wrap (x2 - x3)) ∧ (IntKind.i64.wrap (x2 - x3)) < (p1.size : Int)) <| aw (some ((p1.data.toList.getD (IntKind.i64.wrap (x2 - x3)).toNat 0).toNat : Int)) fun y7 => aw (some (IntKind.i64.wrap ((IntKind.i64.wrap (((Utf8.encode p2).size : Int) - (1 : Int))) - x3))) fun y8 => nX (0 ≤ y8 ∧ y8 < ((Utf8.encode p2).size : Int)) <| al (y7 != (((Utf8.encode p2).data.toList.getD y8.toNat 0).toNat : Int)) (none) ((lj p1 p2 x2 k3) (IntKind.i64.wrap (x3 + 1)))) (sN p2 x2)
def oC (p1 : ByteArray) (p2 x2 : Int) : Option Int := lj p1 p2 x2 aX (1 : Int)
def s5 : Option Int := some (-1 : Int)
def gQ (p1 : ByteArray) (p2 : Int) : Nat → Option Int
 | 0 => none
 | k2 + 1 => aw (some (decide ((IntKind.i64.wrap (((Utf8.encode p2).size : Int) - (1 : Int))) < (p1.size : Int)))) fun y1 => al y1 (nX (0 ≤ (IntKind.i64.wrap (((Utf8.encode p2).size : Int) - (1 : Int))) ∧ (IntKind.i64.wrap (((Utf8.encode p2).size : Int) - (1 : Int))) < (p1.size : Int)) <| aw (some ((p1.data.toList.getD (IntKind.i64.wrap (((Utf8.encode p2).size : Int) - (1 : Int))).toNat 0).toNat : Int)) fun y2 => nX (0 ≤ (IntKind.i64.wrap (((Utf8.encode p2).size : Int) - (1 : Int))) ∧ (IntKind.i64.wrap (((Utf8.encode p2).size : Int) - (1 : Int))) < ((Utf8.encode p2).size : Int)) <| aw (some (((Utf8.encode p2).data.toList.getD (IntKind.i64.wrap (((Utf8.encode p2).size : Int) - (1 : Int))).toNat 0).toNat : Int)) fun y3 => al (y2 != y3) (aw (some (IntKind.i64.wrap ((IntKind.i64.wrap (((Utf8.encode p2).size : Int) - (1 : Int))) + (1 : Int)))) fun y4 => nX (0 ≤ y4 ∧ y4 ≤ (p1.size : Int) ∧ (p1.size : Int) ≤ (p1.size : Int)) <| nX (0 ≤ (IntKind.i64.wrap (((Utf8.encode p2).size : Int) - (1 : Int))) ∧ (IntKind.i64.wrap (((Utf8.encode p2).size : Int) - (1 : Int))) < ((Utf8.encode p2).size : Int)) <| aw (some (((Utf8.encode p2).data.toList.getD (IntKind.i64.wrap (((Utf8.encode p2).size : Int) - (1 : Int))).toNat 0).toNat : Int)) fun y5 => aw (strings_IndexByte (p1.extract y4.toNat (p1.size : Int).toNat) y5) fun r3 => al (decide (r3 < (0 : Int))) (some (-1 : Int)) (aw (some (IntKind.i64.wrap ((IntKind.i64.wrap (((Utf8.encode p2).size : Int) - (1 : Int))) + (IntKind.i64.wrap (r3 + 1))))) fun y6 => oC p1 p2 y6)) (oC p1 p2 (IntKind.i64.wrap (((Utf8.encode p2).size : Int) - (1 : Int))))) (s5)
def jn (p1 : ByteArray) (p2 : Int) (x1 : Bool) : Option Int := al x1 (aw (strings_IndexByte p1 (IntKind.u8.wrap p2)) fun r1 => some r1) (al (p2 == 65533) (ju p1 aX 0) (aw (jZ p2) fun r2 => al (!r2) (some (-1 : Int)) (gQ p1 p2 aX)))
def ez (p1 : ByteArray) (p2 : Int) : Option Int := al (decide ((0 : Int) ≤ p2)) (jn p1 p2 (decide (p2 < (128 : Int)))) (jn p1 p2 false)
theorem lT (p1 : ByteArray) (p2 : Int) : CT Tryz.prog 203 [vs p1, vk .i32 p2] (ez p1 p2) vi :=
  dT 187 [] Tryz.f203 fun r => (bL Tryz.f203 12 2 fun K k => have J1 : ∀ {x1}, jn p1 p2 x1 = some r → K.p [(0, vs p1), (1, vk .i32 p2), (160, vb x1)] [] := fun {x1} h => k h (uC (uP (tB _ _) fun r1 _ => uz) (uC (bL Tryz.f203 220 2 fun K k => have J2 : sO = some r → K.p [] [] := fun h => k h uz; (Tq p1 (gE Tryz.f203 882 1 fun R b => have hL1 : ∀ k1 {z1}, ju p1 k1 z1 = some r → (R k1).p [(175, .one (.pt 0 0 0 0))] [.raw (.stringIter p1 z1)] := uI (gr rfl) fun k1 ih1 {z1} h => b h (uU (ju.eq_2 ..) (Tc 0 (fun b12 => (uT (uC iU (uJ ih1)))) (fun b12 => (uF (uR (.exit 9) (xM (uJ J2))))))); uE (hL1 aX)))) (uP (wh _) fun r2 _ => (uC uz (bL Tryz.f203 28638 3 fun K k => have J5 : s5 = some r → K.p [] [] := fun h => k h uz; (gE Tryz.f203 57276 1 fun R b => have hL2 : ∀ k2, gQ p1 p2 k2 = some r → (R k2).p [(0, vs p1), (7, vs (Utf8.encode p2)), (8, vi (IntKind.i64.wrap (((Utf8.encode p2).size : Int) - (1 : Int)))), (9, vi (IntKind.i64.wrap (((Utf8.encode p2).size : Int) - (1 : Int))))] [] := uI (gr rfl) fun k2 ih2 h => b h (uU (gQ.eq_2 ..) (uY 26 vb fun y1 => (uC (bL Tryz.f203 1832840 3 fun K k => have J3 : ∀ {x2}, oC p1 p2 x2 = some r → K.p [(0, vs p1), (7, vs (Utf8.encode p2)), (8, vi (IntKind.i64.wrap (((Utf8.encode p2).size : Int) - (1 : Int)))), (9, vi x2)] [] := fun {x2} h => k h (bL Tryz.f203 3665682 3 fun K k => have J4 : sN p2 x2 = some r → K.p [(8, vi (IntKind.i64.wrap (((Utf8.encode p2).size : Int) - (1 : Int)))), (9, vi x2)] [] := fun h => k h (uY 67 vi fun y9 => iU); (gE Tryz.f203 14662730 1 fun R b => have hL3 : ∀ k3 {x3}, lj p1 p2 x2 k3 x3 = some r → (R k3).p [(0, vs p1), (7, vs (Utf8.encode p2)), (8, vi (IntKind.i64.wrap (((Utf8.encode p2).size : Int) - (1 : Int)))), (9, vi x2), (12, vi x3)] [] := uI (gr rfl) fun k3 ih3 {x3} h => b h (uU (lj.eq_2 ..) (uC (oS 10 (Tn 58 (vk .u8) fun y7 => (uY 62 vi fun y8 => (uG (uC Ur (uJ ih3)))))) (uR (.exit 3) (xM (uJ J4))))); uE (hL3 aX))); (oS 6 (Tn 29 (vk .u8) fun y2 => (Tn 32 (vk .u8) fun y3 => (uC (oS 7 (uY 36 vi fun y4 => (uG (Tn 40 (vk .u8) fun y5 => (uP (tB _ _) fun r3 _ => (uC (uR .ret (xN (xN (xN xF)))) (uY 47 vi fun y6 => (uJ J3)))))))) (uJ J3)))))) (uR (.exit 1) (xM (uJ J5)))))); uE (hL2 aX))))))); (uC (uJ J1) (uJ J1)))
def dv (x1 : Bool) : Option Bool := some x1
def mL (p1 : Int) : Option Bool := al (decide (p1 < (97 : Int))) (al (decide (p1 < (48 : Int))) (aw (ez (ByteArray.mk #[95, 45, 46, 47]) p1) fun r1 => dv (decide (r1 < (0 : Int)))) (al (decide ((57 : Int) < p1)) (aw (ez (ByteArray.mk #[95, 45, 46, 47]) p1) fun r2 => dv (decide (r2 < (0 : Int)))) (dv false))) (al (decide ((122 : Int) < p1)) (al (decide (p1 < (48 : Int))) (aw (ez (ByteArray.mk #[95, 45, 46, 47]) p1) fun r3 => dv (decide (r3 < (0 : Int)))) (al (decide ((57 : Int) < p1)) (aw (ez (ByteArray.mk #[95, 45, 46, 47]) p1) fun r4 => dv (decide (r4 < (0 : Int)))) (dv false))) (dv false))
theorem yg (p1 : Int) : CT Tryz.prog 202 [vk .i32 p1] (mL p1) vb :=
  dT 22 [] Tryz.f202 fun r => (bL Tryz.f202 6 1 fun K k => have J1 : ∀ {x1}, dv x1 = some r → K.p [(2, vb x1)] [] := fun {x1} h => k h uz; (uC (uC (uP (lT _ _) fun r1 _ => (uJ J1)) (uC (uP (lT _ _) fun r2 _ => (uJ J1)) (uJ J1))) (uC (uC (uP (lT _ _) fun r3 _ => (uJ J1)) (uC (uP (lT _ _) fun r4 _ => (uJ J1)) (uJ J1))) (uJ J1))))
def il : Option Int := some (-1 : Int)
def bU (p1 : ByteArray) (p2 : Bool) : Nat → Nat → Option Int
 | 0, _ => none
 | k1 + 1, z1 => al (decide (z1 < p1.size)) (aw (mL (Int.ofNat (Utf8.decode p1 z1).1)) fun r1 => al (r1 == p2) (some (Int.ofNat z1)) ((bU p1 p2 k1) (z1 + (Utf8.decode p1 z1).2))) (il)
def fd (p1 : ByteArray) (p2 : Bool) : Option Int := bU p1 p2 aX 0
theorem nu (p1 : ByteArray) (p2 : Bool) : CT Tryz.prog 214 [vs p1, .one (.pv (.fn 202 [])), vb p2] (fd p1 p2) vi :=
  dT 21 [] Tryz.f214 fun r => (bL Tryz.f214 6 1 fun K k => have J1 : il = some r → K.p [] [] := fun h => k h uz; (Tq p1 (gE Tryz.f214 26 1 fun R b => have hL1 : ∀ k1 {z1}, bU p1 p2 k1 z1 = some r → (R k1).p [(1, .one (.pv (.fn 202 []))), (2, vb p2), (10, .one (.pt 0 0 0 0))] [.raw (.stringIter p1 z1)] := uI (gr rfl) fun k1 ih1 {z1} h => b h (uU (bU.eq_2 ..) (Tc 0 (fun b5 => (uT (uP (yg _) fun r1 _ => (uC iU (uJ ih1))))) (fun b5 => (uF (uR (.exit 0) (xM (uJ J1))))))); uE (hL1 aX))))
def fc (p1 : ByteArray) : Option Int := aw (fd p1 true) fun r1 => some r1
theorem nr (p1 : ByteArray) : CT Tryz.prog 185 [vs p1, .one (.pv (.fn 202 []))] (fc p1) vi :=
  dT 8 [] Tryz.f185 fun r => (uP (nu _ _) fun r1 _ => uz)
def eH (p1 : ByteArray) : Option Bool := aw (fc p1) fun r1 => some (decide ((0 : Int) ≤ r1))
theorem mb (p1 : ByteArray) : CT Tryz.prog 138 [vs p1, .one (.pv (.fn 202 []))] (eH p1) vb :=
  dT 9 [] Tryz.f138 fun r => (uP (nr _) fun r1 _ => uz)
def lU (p1 : ByteArray) (x1 : Bool) : Option Bool := al x1 (some false) (aw (eH p1) fun r1 => some (!r1))
def oM (p1 : ByteArray) : Option Bool := al (decide ((p1.size : Int) < (1 : Int))) (lU p1 true) (lU p1 (decide ((64 : Int) < (p1.size : Int))))
theorem Ao (p1 : ByteArray) : CT Tryz.prog 172 [vs p1] (oM p1) vb :=
  dT 14 [] Tryz.f172 fun r => (bL Tryz.f172 12 2 fun K k => have J1 : ∀ {x1}, lU p1 x1 = some r → K.p [(0, vs p1), (10, vb x1)] [] := fun {x1} h => k h (uC uz (uP (mb _) fun r1 _ => uz)); (uC (uJ J1) (uJ J1)))
def xf (p1 : bm) (p2 : (List ac)) : Option (Bool × (List ac)) := aw (kh p2 p1.source) fun r1 => some ((decide (r1 < (0 : Int))), p2)
theorem DM (p1 : bm) (p2 : (List ac)) : CM Tryz.prog 173 [.ag [ci p1.source, ci p1.transform.kind, ci p1.transform.param], .one (.pt 0 0 0 0)] [.box [cl af p2]] (xf p1 p2) (fun r => vb r.1) (fun r => [.box [cl af r.2]]) :=
  rF 1 9 [] Tryz.f173 fun r => (uP (sM _ _) fun r1 _ => (uR .ret sk))
def dL (z2 : List ac) : Option (Int × (List ac)) := some ((-1 : Int), z2)
def aL (p1 : (List bm)) : Nat → List ac → Int → Option (Int × (List ac))
 | 0, _, _ => none
 | k1 + 1, z1, x1 => al (decide (x1 < (p1.length : Int))) (aw (at? p1 x1) fun e1 => aw (xf e1 z1) fun r1 => al r1.1 (some (x1, r1.2)) ((aL p1 k1) r1.2 (IntKind.i64.wrap (x1 + 1)))) (dL z1)
def cA (p1 : (List bm)) (p2 : (List ac)) : Option (Int × (List ac)) := aL p1 aX p2 (0 : Int)
theorem iz (p1 : (List bm)) (p2 : (List ac)) : CM Tryz.prog 127 [vl aM p1, .one (.fn 173 [.pt 0 0 0 0])] [.box [cl af p2]] (cA p1 p2) (fun r => vi r.1) (fun r => [.box [cl af r.2]]) :=
  rF 1 19 [] Tryz.f127 fun r => (bL Tryz.f127 6 1 fun K k => have J1 : ∀ {z2}, dL z2 = some r → K.p [] [.box [cl af z2]] := fun {z2} h => k h (uR .ret sk); (uN aM p1 (gE Tryz.f127 26 1 fun R b => have hL1 : ∀ k1 {z1 x1}, aL p1 k1 z1 x1 = some r → (R k1).p [(0, vl aM p1), (1, .one (.fn 173 [.pt 0 0 0 0])), (7, vi p1.length), (8, vi x1)] [.box [cl af z1]] := uI (gr rfl) fun k1 ih1 {z1 x1} h => b h (uU (aL.eq_2 ..) (uC (uL aM fun e1 a10 => (zW true [0] (DM _ _) fun r1 _ => (uC (uR .ret (xN (xN sk))) (uJ ih1)))) (uR (.exit 0) (xM (uJ J1))))); uE (hL1 aX))))
def bn (p1 : (List bm)) (p2 : (List ac)) : Option (Bool × (List ac)) := aw (cA p1 p2) fun r1 => some ((decide ((0 : Int) ≤ r1.1)), r1.2)
theorem gN (p1 : (List bm)) (p2 : (List ac)) : CM Tryz.prog 82 [vl aM p1, .one (.fn 173 [.pt 0 0 0 0])] [.box [cl af p2]] (bn p1 p2) (fun r => vb r.1) (fun r => [.box [cl af r.2]]) :=
  rF 1 9 [] Tryz.f82 fun r => (zW true [0] (iz _ _) fun r1 _ => (uR .ret sk))
def np (x1 : Bool) : Option Bool := some x1
def gw (p1 p2 p3 : Int) : Option Bool := al (decide (p2 ≤ p1)) (np (decide (p1 ≤ p3))) (np false)
theorem kB (p1 p2 p3 : Int) : CT Tryz.prog 180 [vi p1, vi p2, vi p3] (gw p1 p2 p3) vb :=
  dT 15 [] Tryz.f180 fun r => (bL Tryz.f180 6 1 fun K k => have J1 : ∀ {x1}, np x1 = some r → K.p [(6, vb x1)] [] := fun {x1} h => k h uz; (uC (uJ J1) (uJ J1)))
def so (rec1 : Nat → Option Bool) (p1 : ByteArray) (z1 : Nat) (x2 : Bool) : Option Bool := al x2 (some false) (rec1 (z1 + (Utf8.decode p1 z1).2))
def vW : Option Bool := some true
def j5 (p1 : ByteArray) : Nat → Nat → Option Bool
 | 0, _ => none
 | k1 + 1, z1 => al (decide (z1 < p1.size)) (al (decide (Int.ofNat (Utf8.decode p1 z1).1 < (32 : Int))) (so (j5 p1 k1) p1 z1 true) (so (j5 p1 k1) p1 z1 (Int.ofNat (Utf8.decode p1 z1).1 == 127))) (vW)
def si (p1 : ByteArray) (x1 : Bool) : Option Bool := al x1 (some false) (j5 p1 aX 0)
def xj (p1 : ByteArray) : Option Bool := al (decide ((256 : Int) < (p1.size : Int))) (si p1 true) (aw (utf8_ValidString p1) fun r1 => si p1 (!r1))
theorem E9 (p1 : ByteArray) : CT Tryz.prog 219 [vs p1] (xj p1) vb :=
  dT 24 [] Tryz.f219 fun r => (bL Tryz.f219 12 2 fun K k => have J1 : ∀ {x1}, si p1 x1 = some r → K.p [(0, vs p1), (12, vb x1)] [] := fun {x1} h => k h (uC uz (bL Tryz.f219 14 1 fun K k => have J3 : vW = some r → K.p [] [] := fun h => k h uz; (Tq p1 (gE Tryz.f219 58 1 fun R b => have hL1 : ∀ k1 {z1}, j5 p1 k1 z1 = some r → (R k1).p [(14, .one (.pt 0 0 0 0))] [.raw (.stringIter p1 z1)] := uI (gr rfl) fun k1 ih1 {z1} h => b h (uU (j5.eq_2 ..) (Tc 0 (fun b11 => (uT (bL Tryz.f219 3738 2 fun K k => have J2 : ∀ {x2}, so (j5 p1 k1) p1 z1 x2 = some r → K.p [(14, .one (.pt 0 0 0 0)), (23, vb x2)] [.raw (.stringIter p1 (z1 + (Utf8.decode p1 z1).2))] := fun {x2} h => k h (uC iU (uJ ih1)); (uC (uJ J2) (uJ J2))))) (fun b11 => (uF (uR (.exit 0) (xM (uJ J3))))))); uE (hL1 aX))))); (uC (uJ J1) (uP (uK _) fun r1 _ => (uJ J1))))
def oh (x2 : Bool) : Option Bool := some x2
def mr (x3 : Bool) : Option Bool := some x3
def mn (x4 : Bool) : Option Bool := some x4
def ml (x5 : Bool) : Option Bool := some x5
def oq (x6 : Bool) : Option Bool := some x6
def mm (x7 : Bool) : Option Bool := some x7
def n8 (x8 : Bool) : Option Bool := some x8
def oa (x9 : Bool) : Option Bool := some x9
def oA (p1 : ae) (x1 : Bool) : Option Bool := al (p1.kind == 0) (al x1 (al (p1.s.toList == (ByteArray.mk #[]).toList) (oh ((p1.items.length : Int) == 0)) (oh false)) (oh false)) (al (p1.kind == 1) (aw (gw p1.n (0 : Int) (1 : Int)) fun r1 => al r1 (al (p1.scale == 0) (al (p1.s.toList == (ByteArray.mk #[]).toList) (mr ((p1.items.length : Int) == 0)) (mr false)) (mr false)) (mr false)) (al (p1.kind == 2) (aw (gw p1.n (-999999999999999999 : Int) (999999999999999999 : Int)) fun r2 => al r2 (al (p1.scale == 0) (al (p1.s.toList == (ByteArray.mk #[]).toList) (mn ((p1.items.length : Int) == 0)) (mn false)) (mn false)) (mn false)) (al (p1.kind == 3) (aw (gw p1.n (-999999999999999999 : Int) (999999999999999999 : Int)) fun r3 => al r3 (aw (gw p1.scale (0 : Int) (12 : Int)) fun r4 => al r4 (al (p1.s.toList == (ByteArray.mk #[]).toList) (ml ((p1.items.length : Int) == 0)) (ml false)) (ml false)) (ml false)) (al (p1.kind == 4) (al x1 (aw (xj p1.s) fun r5 => al r5 (oq ((p1.items.length : Int) == 0)) (oq false)) (oq false)) (al (p1.kind == 5) (aw (gw p1.n (-62135596800 : Int) (253402300799 : Int)) fun r6 => al r6 (al (p1.scale == 0) (al (p1.s.toList == (ByteArray.mk #[]).toList) (mm ((p1.items.length : Int) == 0)) (mm false)) (mm false)) (mm false)) (al (p1.kind == 6) (al x1 (al (p1.s.toList == (ByteArray.mk #[]).toList) (n8 (decide ((p1.items.length : Int) ≤ (64 : Int)))) (n8 false)) (n8 false)) (al (p1.kind == 7) (al x1 (al (p1.s.toList == (ByteArray.mk #[]).toList) (oa (decide ((0 : Int) < (p1.items.length : Int)))) (oa false)) (oa false)) (some false))))))))
def vw (p1 : ae) : Option Bool := al (p1.n == 0) (oA p1 (p1.scale == 0)) (oA p1 false)
theorem D7 (p1 : ae) : CT Tryz.prog 195 [mV p1] (vw p1) vb :=
  dT 154 [] Tryz.f195 fun r => (bL Tryz.f195 6 1 fun K k => have J1 : ∀ {x1}, oA p1 x1 = some r → K.p [(1, vR [pi p1.kind, pi p1.n, pi p1.scale, .s (.string p1.s), .ro (am.els p1.items)]), (3, vb x1)] [] := fun {x1} h => k h (uC (bL Tryz.f195 468 3 fun K k => have J2 : ∀ {x2}, oh x2 = some r → K.p [(2, vb x2)] [] := fun {x2} h => k h uz; (uC (uC (uN am p1.items (uJ J2)) (uJ J2)) (uJ J2))) (uC (bL Tryz.f195 1884 3 fun K k => have J3 : ∀ {x3}, mr x3 = some r → K.p [(2, vb x3)] [] := fun {x3} h => k h uz; (uP (kB _ _ _) fun r1 _ => (uC (uC (uC (uN am p1.items (uJ J3)) (uJ J3)) (uJ J3)) (uJ J3)))) (uC (bL Tryz.f195 7548 3 fun K k => have J4 : ∀ {x4}, mn x4 = some r → K.p [(2, vb x4)] [] := fun {x4} h => k h uz; (uP (kB _ _ _) fun r2 _ => (uC (uC (uC (uN am p1.items (uJ J4)) (uJ J4)) (uJ J4)) (uJ J4)))) (uC (bL Tryz.f195 30204 3 fun K k => have J5 : ∀ {x5}, ml x5 = some r → K.p [(2, vb x5)] [] := fun {x5} h => k h uz; (uP (kB _ _ _) fun r3 _ => (uC (uP (kB _ _ _) fun r4 _ => (uC (uC (uN am p1.items (uJ J5)) (uJ J5)) (uJ J5))) (uJ J5)))) (uC (bL Tryz.f195 120828 3 fun K k => have J6 : ∀ {x6}, oq x6 = some r → K.p [(2, vb x6)] [] := fun {x6} h => k h uz; (uC (uP (E9 _) fun r5 _ => (uC (uN am p1.items (uJ J6)) (uJ J6))) (uJ J6))) (uC (bL Tryz.f195 483324 3 fun K k => have J7 : ∀ {x7}, mm x7 = some r → K.p [(2, vb x7)] [] := fun {x7} h => k h uz; (uP (kB _ _ _) fun r6 _ => (uC (uC (uC (uN am p1.items (uJ J7)) (uJ J7)) (uJ J7)) (uJ J7)))) (uC (bL Tryz.f195 1933308 3 fun K k => have J8 : ∀ {x8}, n8 x8 = some r → K.p [(2, vb x8)] [] := fun {x8} h => k h uz; (uC (uC (uN am p1.items (uJ J8)) (uJ J8)) (uJ J8))) (uC (bL Tryz.f195 7733244 3 fun K k => have J9 : ∀ {x9}, oa x9 = some r → K.p [(2, vb x9)] [] := fun {x9} h => k h uz; (uC (uC (uN am p1.items (uJ J9)) (uJ J9)) (uJ J9))) uz)))))))); (uC (uJ J1) (uJ J1)))
def cN (z2 : Int) : Option (Int × Int) := some ((-1 : Int), z2)
def bi (q_value_sound_1_s : ae → Int → Int → Option (Bool × Int)) (p1 : (List ae)) (p2 : Int) : Nat → Int → Int → Option (Int × Int)
 | 0, _, _ => none
 | k1 + 1, z1, x1 => al (decide (x1 < (p1.length : Int))) (aw (at? p1 x1) fun e1 => aw (q_value_sound_1_s e1 p2 z1) fun r1 => al r1.1 (some (x1, r1.2)) ((bi q_value_sound_1_s p1 p2 k1) r1.2 (IntKind.i64.wrap (x1 + 1)))) (cN z1)
def mj (q_slices_ContainsFunc_api_Value_api_Value_of_value_sound_1 : (List ae) → Int → Int → Option (Bool × Int)) (p1 : ae) (p2 z1 : Int) (x1 : Bool) : Option (Bool × Int) := al x1 (some (false, z1)) (aw (q_slices_ContainsFunc_api_Value_api_Value_of_value_sound_1 p1.items p2 z1) fun r2 => some ((!r2.1), r2.2))
def oe (q_slices_ContainsFunc_api_Value_api_Value_of_value_sound_1 : (List ae) → Int → Int → Option (Bool × Int)) (p1 : ae) (p2 z1 : Int) : Option (Bool × Int) := al (decide ((4 : Int) < p2)) (mj q_slices_ContainsFunc_api_Value_api_Value_of_value_sound_1 p1 p2 z1 true) (al (decide ((256 : Int) < z1)) (mj q_slices_ContainsFunc_api_Value_api_Value_of_value_sound_1 p1 p2 z1 true) (aw (vw p1) fun r1 => mj q_slices_ContainsFunc_api_Value_api_Value_of_value_sound_1 p1 p2 z1 (!r1)))
mutual
def aS : Nat → (List ae) → Int → Int → Option (Bool × Int)
 | 0, _, _, _ => none
 | k0 + 1, p1, p2, p3 => aw ((bF k0) p1 p2 p3) fun r1 => some ((decide ((0 : Int) ≤ r1.1)), r1.2)
def bF : Nat → (List ae) → Int → Int → Option (Int × Int)
 | 0, _, _, _ => none
 | k0 + 1, p1, p2, p3 => bi (jH k0) p1 p2 aX p3 (0 : Int)
def mH : Nat → ae → Int → Int → Option (Bool × Int)
 | 0, _, _, _ => none
 | k0 + 1, p1, p2, p3 => al (p1.kind != 0) (oe (aS k0) p1 p2 (IntKind.i64.wrap (p3 + 1))) (oe (aS k0) p1 p2 p3)
def jH : Nat → ae → Int → Int → Option (Bool × Int)
 | 0, _, _, _ => none
 | k0 + 1, p1, p2, p3 => aw ((mH k0) p1 (IntKind.i64.wrap (p2 + 1)) p3) fun r1 => some ((!r1.1), r1.2)
end
mutual
theorem i8 : ∀ (k0 : Nat) (p1 : (List ae)) (p2 p3 : Int), CM Tryz.prog 157 [vl am p1, .one (.fn 196 [.pv (.rp [[pi p2]] 0 0), .pt 0 0 0 0])] [.box [.pt 1 0 0 0], .box [ci p3]] (aS k0 p1 p2 p3) (fun r => vb r.1) (fun r => [.box [.pt 1 0 0 0], .box [ci r.2]])
  | 0, _, _, _ => PA (aS.eq_1 ..)
  | k0 + 1, p1, p2, p3 => rF 2 9 [] Tryz.f157 fun r => (uU (aS.eq_2 ..) (zW true [0,1] (jx k0 _ _ _) fun r1 _ => (uR .ret sk)))
theorem jx : ∀ (k0 : Nat) (p1 : (List ae)) (p2 p3 : Int), CM Tryz.prog 197 [vl am p1, .one (.fn 196 [.pv (.rp [[pi p2]] 0 0), .pt 0 0 0 0])] [.box [.pt 1 0 0 0], .box [ci p3]] (bF k0 p1 p2 p3) (fun r => vi r.1) (fun r => [.box [.pt 1 0 0 0], .box [ci r.2]])
  | 0, _, _, _ => PA (bF.eq_1 ..)
  | k0 + 1, p1, p2, p3 => rF 2 19 [] Tryz.f197 fun r => (uU (bF.eq_2 ..) (bL Tryz.f197 6 1 fun K k => have J1 : ∀ {z2}, cN z2 = some r → K.p [] [.box [.pt 1 0 0 0], .box [ci z2]] := fun {z2} h => k h (uR .ret sk); (uN am p1 (gE Tryz.f197 26 1 fun R b => have hL1 : ∀ k1 {z1 x1}, bi (jH k0) p1 p2 k1 z1 x1 = some r → (R k1).p [(0, vl am p1), (1, .one (.fn 196 [.pv (.rp [[pi p2]] 0 0), .pt 0 0 0 0])), (7, vi p1.length), (8, vi x1)] [.box [.pt 1 0 0 0], .box [ci z1]] := uI (gr rfl) fun k1 ih1 {z1 x1} h => b h (uU (bi.eq_2 ..) (uC (uL am fun e1 a10 => (zW true [0,1] (Bm k0 _ _ _) fun r1 _ => (uC (uR .ret (xN (xN sk))) (uJ ih1)))) (uR (.exit 0) (xM (uJ J1))))); uE (hL1 aX)))))
theorem zN : ∀ (k0 : Nat) (p1 : ae) (p2 p3 : Int), CM Tryz.prog 156 [mV p1, vi p2, .one (.pt 0 0 0 0)] [.box [ci p3]] (mH k0 p1 p2 p3) (fun r => vb r.1) (fun r => [.box [ci r.2]])
  | 0, _, _, _ => PA (mH.eq_1 ..)
  | k0 + 1, p1, p2, p3 => rF 1 33 [5] Tryz.f156 fun r => (uU (mH.eq_2 ..) (bL Tryz.f156 6 1 fun K k => have J1 : ∀ {z1}, oe (aS k0) p1 p2 z1 = some r → K.p [(3, vR [pi p1.kind, pi p1.n, pi p1.scale, .s (.string p1.s), .ro (am.els p1.items)]), (4, vR [pi p2]), (5, .one (.pt 1 0 0 0))] [.box [ci z1], .box [.pt 0 0 0 0]] := fun {z1} h => k h (bL Tryz.f156 28 2 fun K k => have J2 : ∀ {x1}, mj (aS k0) p1 p2 z1 x1 = some r → K.p [(3, vR [pi p1.kind, pi p1.n, pi p1.scale, .s (.string p1.s), .ro (am.els p1.items)]), (4, vR [pi p2]), (5, .one (.pt 1 0 0 0)), (27, vb x1)] [.box [ci z1], .box [.pt 0 0 0 0]] := fun {x1} h => k h (uC (uR .ret sk) (zW true [1,0] (i8 k0 _ _ _) fun r2 _ => (uR .ret sk))); (uC (uJ J2) (uC (uJ J2) (uP (D7 _) fun r1 _ => (uJ J2))))); (uC (uJ J1) (uJ J1))))
theorem Bm : ∀ (k0 : Nat) (p1 : ae) (p2 p3 : Int), CM Tryz.prog 196 [mV p1, vR [pi p2], .one (.pt 0 0 0 0)] [.box [.pt 1 0 0 0], .box [ci p3]] (jH k0 p1 p2 p3) (fun r => vb r.1) (fun r => [.box [.pt 1 0 0 0], .box [ci r.2]])
  | 0, _, _, _ => PA (jH.eq_1 ..)
  | k0 + 1, p1, p2, p3 => rF 2 11 [] Tryz.f196 fun r => (uU (jH.eq_2 ..) (zW true [1] (zN k0 _ _ _) fun r1 _ => (uR .ret sk)))
end
def sQ (p1 : ae) : Option Bool := aw (mH aX p1 (1 : Int) (0 : Int)) fun r1 => some r1.1
theorem zM (p1 : ae) : CT Tryz.prog 113 [mV p1] (sQ p1) vb :=
  dT 6 [3] Tryz.f113 fun r => (zW true [0] (zN aX _ _ _) fun r1 _ => uz)
def bR : Option Bool := some true
def aH (q_value_of_2 : ac → ae → Option Bool) (p1 : (List ac)) (p2 : (List ae)) : Nat → Int → Option Bool
 | 0, _ => none
 | k1 + 1, x1 => al (decide (x1 < (p1.length : Int))) (aw (at? p1 x1) fun e1 => aw (at? p2 x1) fun e2 => aw (q_value_of_2 e1 e2) fun r1 => al (!r1) (some false) ((aH q_value_of_2 p1 p2 k1) (IntKind.i64.wrap (x1 + 1)))) (bR)
def de : Option Int := some (-1 : Int)
def bg (q_value_of_1_s : ae → Int → Int → (List ac) → Option Bool) (p1 : (List ae)) (p2 p3 : Int) (p4 : (List ac)) : Nat → Int → Option Int
 | 0, _ => none
 | k1 + 1, x1 => al (decide (x1 < (p1.length : Int))) (aw (at? p1 x1) fun e1 => aw (q_value_of_1_s e1 p2 p3 p4) fun r1 => al r1 (some x1) ((bg q_value_of_1_s p1 p2 p3 p4 k1) (IntKind.i64.wrap (x1 + 1)))) (de)
mutual
def bE : Nat → (List ae) → Int → Int → (List ac) → Option Bool
 | 0, _, _, _, _ => none
 | k0 + 1, p1, p2, p3, p4 => aw ((bQ k0) p1 p2 p3 p4) fun r1 => some (decide ((0 : Int) ≤ r1))
def aU : Nat → (List ac) → (List ae) → Option Bool
 | 0, _, _ => none
 | k0 + 1, p1, p2 => al ((p1.length : Int) != (p2.length : Int)) (some false) (aH (qa k0) p1 p2 aX (0 : Int))
def bQ : Nat → (List ae) → Int → Int → (List ac) → Option Int
 | 0, _, _, _, _ => none
 | k0 + 1, p1, p2, p3, p4 => bg (mY k0) p1 p2 p3 p4 aX (0 : Int)
def qY : Nat → ap → ae → Option Bool
 | 0, _, _ => none
 | k0 + 1, p1, p2 => al (p2.kind == 0) (some true) (al (p2.kind != p1.kind) (some false) (al (p2.kind == 3) (some (p2.scale == p1.scale)) (al (p2.kind == 6) (aw ((bE k0) p2.items p1.kind p1.scale p1.fields) fun r1 => some (!r1)) (al (p2.kind == 7) (aw ((aU k0) p1.fields p2.items) fun r2 => some r2) (some true)))))
def mY : Nat → ae → Int → Int → (List ac) → Option Bool
 | 0, _, _, _, _ => none
 | k0 + 1, p1, p2, p3, p4 => aw (at? p4 (0 : Int)) fun e1 => aw ((qY k0) e1.type p1) fun r1 => some (!r1)
def qa : Nat → ac → ae → Option Bool
 | 0, _, _ => none
 | k0 + 1, p1, p2 => aw ((qY k0) p1.type p2) fun r1 => some r1
end
mutual
theorem jv : ∀ (k0 : Nat) (p1 : (List ae)) (p2 p3 : Int) (p4 : (List ac)), CT Tryz.prog 157 [vl am p1, .one (.fn 158 [.pv (.rp [[pi p2, pi p3, .ro (af.els p4)]] 0 0)])] (bE k0 p1 p2 p3 p4) vb
  | 0, _, _, _, _ => EN (bE.eq_1 ..)
  | k0 + 1, p1, p2, p3, p4 => dT 9 [] Tryz.f157 fun r => (uU (bE.eq_2 ..) (uP (jX k0 _ _ _ _) fun r1 _ => uz))
theorem fQ : ∀ (k0 : Nat) (p1 : (List ac)) (p2 : (List ae)), CT Tryz.prog 159 [vl af p1, vl am p2, .one (.pv (.fn 160 []))] (aU k0 p1 p2) vb
  | 0, _, _ => EN (aU.eq_1 ..)
  | k0 + 1, p1, p2 => dT 32 [8, 9] Tryz.f159 fun r => (uU (aU.eq_2 ..) (uN af p1 (uN am p2 (uC uz (bL Tryz.f159 14 1 fun K k => have J1 : bR = some r → K.p [] [] := fun h => k h uz; (uN af p1 (gE Tryz.f159 58 1 fun R b => have hL1 : ∀ k1 {x1}, aH (qa k0) p1 p2 k1 x1 = some r → (R k1).p [(1, vl am p2), (2, .one (.pv (.fn 160 []))), (15, vl af p1), (16, vi p1.length), (17, vi x1)] [] := uI (gr rfl) fun k1 ih1 {x1} h => b h (uU (aH.eq_2 ..) (uC (uL af fun e1 a13 => (uL am fun e2 a15 => (uP (FU k0 _ _) fun r1 _ => (uC iU (uJ ih1))))) (uR (.exit 0) (xM (uJ J1))))); uE (hL1 aX))))))))
theorem jX : ∀ (k0 : Nat) (p1 : (List ae)) (p2 p3 : Int) (p4 : (List ac)), CT Tryz.prog 197 [vl am p1, .one (.fn 158 [.pv (.rp [[pi p2, pi p3, .ro (af.els p4)]] 0 0)])] (bQ k0 p1 p2 p3 p4) vi
  | 0, _, _, _, _ => EN (bQ.eq_1 ..)
  | k0 + 1, p1, p2, p3, p4 => dT 19 [] Tryz.f197 fun r => (uU (bQ.eq_2 ..) (bL Tryz.f197 6 1 fun K k => have J1 : de = some r → K.p [] [] := fun h => k h uz; (uN am p1 (gE Tryz.f197 26 1 fun R b => have hL1 : ∀ k1 {x1}, bg (mY k0) p1 p2 p3 p4 k1 x1 = some r → (R k1).p [(0, vl am p1), (1, .one (.fn 158 [.pv (.rp [[pi p2, pi p3, .ro (af.els p4)]] 0 0)])), (7, vi p1.length), (8, vi x1)] [] := uI (gr rfl) fun k1 ih1 {x1} h => b h (uU (bg.eq_2 ..) (uC (uL am fun e1 a10 => (uP (D1 k0 _ _ _ _) fun r1 _ => (uC iU (uJ ih1)))) (uR (.exit 0) (xM (uJ J1))))); uE (hL1 aX)))))
theorem Am : ∀ (k0 : Nat) (p1 : ap) (p2 : ae), CT Tryz.prog 114 [mT p1, mV p2] (qY k0 p1 p2) vb
  | 0, _, _ => EN (qY.eq_1 ..)
  | k0 + 1, p1, p2 => dT 42 [] Tryz.f114 fun r => (uU (qY.eq_2 ..) (uC uz (uC uz (uC uz (uC (uP (jv k0 _ _ _ _) fun r1 _ => uz) (uC (uP (fQ k0 _ _) fun r2 _ => uz) uz))))))
theorem D1 : ∀ (k0 : Nat) (p1 : ae) (p2 p3 : Int) (p4 : (List ac)), CT Tryz.prog 158 [mV p1, vR [pi p2, pi p3, .ro (af.els p4)]] (mY k0 p1 p2 p3 p4) vb
  | 0, _, _, _, _ => EN (mY.eq_1 ..)
  | k0 + 1, p1, p2, p3, p4 => dT 12 [] Tryz.f158 fun r => (uU (mY.eq_2 ..) (oS 6 (uL af fun e1 a3 => (uP (Am k0 _ _) fun r1 _ => uz))))
theorem FU : ∀ (k0 : Nat) (p1 : ac) (p2 : ae), CT Tryz.prog 160 [mf p1, mV p2] (qa k0 p1 p2) vb
  | 0, _, _ => EN (qa.eq_1 ..)
  | k0 + 1, p1, p2 => dT 9 [] Tryz.f160 fun r => (uU (qa.eq_2 ..) (uP (Am k0 _ _) fun r1 _ => uz))
end
def qA (p1 : ap) (x1 : Int) : Option ac := aw (at? p1.fields x1) fun e1 => some e1
def vD (p1 : ap) (p2 : Int) : Option ac := al (p1.kind == 6) (qA p1 (0 : Int)) (qA p1 p2)
theorem Eg (p1 : ap) (p2 : Int) : CT Tryz.prog 161 [mT p1, vi p2] (vD p1 p2) (fun r => mf r) :=
  dT 13 [4] Tryz.f161 fun r => (bL Tryz.f161 6 1 fun K k => have J1 : ∀ {x1}, qA p1 x1 = some r → K.p [(1, vi x1), (2, vR [pi p1.kind, pi p1.scale, .ro (af.els p1.fields)]), (4, .one (.pt 0 0 0 0))] [.box [ci (0 : Int), xz ByteArray.empty, cb false, ci (0 : Int), ci (0 : Int), .pv (.s (.slice none 0 0))]] := fun {x1} h => k h (uL af fun e1 a6 => uz); (uC (uJ J1) (uJ J1)))
def oj (rec1 : Int → Option Bool) (x1 : Int) (x2 : Bool) : Option Bool := al x2 (some true) (rec1 (IntKind.i64.wrap (x1 + 1)))
def tW : Option Bool := some false
def gq (q_value_lacks : ap → ae → Option Bool) (p1 : ap) (p2 : ae) : Nat → Int → Option Bool
 | 0, _ => none
 | k1 + 1, x1 => al (decide (x1 < (p2.items.length : Int))) (aw (at? p2.items x1) fun e1 => aw (vD p1 x1) fun r1 => al (e1.kind == 0) (al r1.need (oj (gq q_value_lacks p1 p2 k1) x1 true) (aw (q_value_lacks r1.type e1) fun r2 => oj (gq q_value_lacks p1 p2 k1) x1 r2)) (aw (q_value_lacks r1.type e1) fun r3 => oj (gq q_value_lacks p1 p2 k1) x1 r3)) (tW)
def jo : Nat → ap → ae → Option Bool
 | 0, _, _ => none
 | k0 + 1, p1, p2 => gq (jo k0) p1 p2 aX (0 : Int)
theorem v7 : ∀ (k0 : Nat) (p1 : ap) (p2 : ae), CT Tryz.prog 115 [mT p1, mV p2] (jo k0 p1 p2) vb
  | 0, _, _ => EN (jo.eq_1 ..)
  | k0 + 1, p1, p2 => dT 33 [6, 7] Tryz.f115 fun r => (uU (jo.eq_2 ..) (bL Tryz.f115 6 1 fun K k => have J2 : tW = some r → K.p [] [] := fun h => k h uz; (uN am p2.items (gE Tryz.f115 26 1 fun R b => have hL1 : ∀ k1 {x1}, gq (jo k0) p1 p2 k1 x1 = some r → (R k1).p [(2, vR [pi p1.kind, pi p1.scale, .ro (af.els p1.fields)]), (9, vl am p2.items), (10, vi p2.items.length), (11, vi x1)] [] := uI (gr rfl) fun k1 ih1 {x1} h => b h (uU (gq.eq_2 ..) (uC (uL am fun e1 a9 => (uP (Eg _ _) fun r1 _ => (bL Tryz.f115 6758 3 fun K k => have J1 : ∀ {x2}, oj (gq (jo k0) p1 p2 k1) x1 x2 = some r → K.p [(2, vR [pi p1.kind, pi p1.scale, .ro (af.els p1.fields)]), (9, vl am p2.items), (10, vi p2.items.length), (11, vi x1), (31, vb x2)] [.dead, .dead] := fun {x2} h => k h (uC iU (uJ ih1)); (uC (uC (uJ J1) (uP (v7 k0 _ _) fun r2 _ => (uJ J1))) (uP (v7 k0 _ _) fun r3 _ => (uJ J1)))))) (uR (.exit 0) (xM (uJ J2))))); uE (hL1 aX)))))
def jj (p1 : ap) (p2 : ae) : Option Int := aw (fI p1) fun r1 => al (r1 != 0) (some r1) (aw (sQ p2) fun r2 => al (!r2) (some (1 : Int)) (aw (qY aX p1 p2) fun r3 => al (!r3) (some (2 : Int)) (aw (jo aX p1 p2) fun r4 => al r4 (some (9 : Int)) (some (0 : Int)))))
theorem rZ (p1 : ap) (p2 : ae) : CT Tryz.prog 66 [mT p1, mV p2] (jj p1 p2) vi :=
  dT 24 [] Tryz.f66 fun r => (uP (lr _) fun r1 _ => (uC uz (uP (zM _) fun r2 _ => (uC uz (uP (Am aX _ _) fun r3 _ => (uC uz (uP (v7 aX _ _) fun r4 _ => (uC uz uz))))))))
def wq (p1 : eN) (p2 : ac) : Option Bool := some (p1.id == p2.id)
theorem CH (p1 : eN) (p2 : ac) : CT Tryz.prog 204 [mA p1, mf p2] (wq p1 p2) vb :=
  dT 10 [] Tryz.f204 fun r => uz
def cI : Option Bool := some true
def aE (p1 : (List eN)) (p2 : (List ac)) : Nat → Int → Option Bool
 | 0, _ => none
 | k1 + 1, x1 => al (decide (x1 < (p1.length : Int))) (aw (at? p1 x1) fun e1 => aw (at? p2 x1) fun e2 => aw (wq e1 e2) fun r1 => al (!r1) (some false) ((aE p1 p2 k1) (IntKind.i64.wrap (x1 + 1)))) (cI)
def bT (p1 : (List eN)) (p2 : (List ac)) : Option Bool := al ((p1.length : Int) != (p2.length : Int)) (some false) (aE p1 p2 aX (0 : Int))
theorem fi (p1 : (List eN)) (p2 : (List ac)) : CT Tryz.prog 205 [vl dJ p1, vl af p2, .one (.pv (.fn 204 []))] (bT p1 p2) vb :=
  dT 32 [8, 9] Tryz.f205 fun r => (uN dJ p1 (uN af p2 (uC uz (bL Tryz.f205 14 1 fun K k => have J1 : cI = some r → K.p [] [] := fun h => k h uz; (uN dJ p1 (gE Tryz.f205 58 1 fun R b => have hL1 : ∀ k1 {x1}, aE p1 p2 k1 x1 = some r → (R k1).p [(1, vl af p2), (2, .one (.pv (.fn 204 []))), (15, vl dJ p1), (16, vi p1.length), (17, vi x1)] [] := uI (gr rfl) fun k1 ih1 {x1} h => b h (uU (aE.eq_2 ..) (uC (uL dJ fun e1 a13 => (uL af fun e2 a15 => (uP (CH _ _) fun r1 _ => (uC iU (uJ ih1))))) (uR (.exit 0) (xM (uJ J1))))); uE (hL1 aX)))))))
def sy (p1 : Int) : Option Bool := some (p1 != p1)
theorem xA (p1 : Int) : CT Tryz.prog 208 [vi p1] (sy p1) vb :=
  dT 6 [] Tryz.f208 fun r => uz
def lh (p1 p2 : Int) : Option Int := aw (sy p1) fun r1 => aw (sy p2) fun r2 => al r1 (al r2 (some (0 : Int)) (some (-1 : Int))) (al r2 (some (1 : Int)) (al (decide (p1 < p2)) (some (-1 : Int)) (al (decide (p2 < p1)) (some (1 : Int)) (some (0 : Int)))))
theorem qQ (p1 p2 : Int) : CT Tryz.prog 179 [vi p1, vi p2] (lh p1 p2) vi :=
  dT 20 [] Tryz.f179 fun r => (uP (xA _) fun r1 _ => (uP (xA _) fun r2 _ => (uC (uC uz uz) (uC uz (uC uz (uC uz uz))))))
def yF (p1 : Int) : Option cO := al (decide (p1 < (0 : Int))) (some (cO.mk true ((IntKind.u64.wrap (0 - (IntKind.u64.wrap p1))), (0 : Int), (0 : Int), (0 : Int)))) (some (cO.mk false ((IntKind.u64.wrap p1), (0 : Int), (0 : Int), (0 : Int))))
theorem Ed (p1 : Int) : CT Tryz.prog 209 [vi p1] (yF p1) (fun r => mW r) :=
  dT 14 [2] Tryz.f209 fun r => (uC uz uz)
def jG (p1 p2 : Int) : Option (Int × Int) := aw (some (IntKind.u64.wrap (BitVec.ofInt (IntKind.u64).bits p1 &&& BitVec.ofInt (IntKind.u64).bits (4294967295 : Int)).toNat)) fun y1 => aw (some (IntKind.u64.wrap (BitVec.ofInt (IntKind.u64).bits p2 &&& BitVec.ofInt (IntKind.u64).bits (4294967295 : Int)).toNat)) fun y2 => aw (some (IntKind.u64.wrap ((p1.fdiv (2 ^ (min (32 : Int).toNat (IntKind.u64).bits))) * y2))) fun y3 => aw (some ((IntKind.u64.wrap (y1 * y2)).fdiv (2 ^ (min (32 : Int).toNat (IntKind.u64).bits)))) fun y4 => aw (some (IntKind.u64.wrap (BitVec.ofInt (IntKind.u64).bits (IntKind.u64.wrap (y3 + y4)) &&& BitVec.ofInt (IntKind.u64).bits (4294967295 : Int)).toNat)) fun y5 => aw (some ((IntKind.u64.wrap (y3 + y4)).fdiv (2 ^ (min (32 : Int).toNat (IntKind.u64).bits)))) fun y6 => aw (some (IntKind.u64.wrap (y1 * (p2.fdiv (2 ^ (min (32 : Int).toNat (IntKind.u64).bits)))))) fun y7 => aw (some (IntKind.u64.wrap ((p1.fdiv (2 ^ (min (32 : Int).toNat (IntKind.u64).bits))) * (p2.fdiv (2 ^ (min (32 : Int).toNat (IntKind.u64).bits)))))) fun y8 => aw (some ((IntKind.u64.wrap (y5 + y7)).fdiv (2 ^ (min (32 : Int).toNat (IntKind.u64).bits)))) fun y9 => some ((IntKind.u64.wrap ((IntKind.u64.wrap (y8 + y6)) + y9)), (IntKind.u64.wrap (p1 * p2)))
theorem nK (p1 p2 : Int) : CT Tryz.prog 243 [vk .u64 p1, vk .u64 p2] (jG p1 p2) (fun r => .tp [vk .u64 r.1, vk .u64 r.2]) :=
  dT 51 [] Tryz.f243 fun r => (uY 15 (vk .u64) fun y1 => (uY 19 (vk .u64) fun y2 => (uY 27 (vk .u64) fun y3 => (uY 29 (vk .u64) fun y4 => (uY 32 (vk .u64) fun y5 => (uY 34 (vk .u64) fun y6 => (uY 38 (vk .u64) fun y7 => (uY 42 (vk .u64) fun y8 => (uY 46 (vk .u64) fun y9 => uz)))))))))
def oH (p1 : cO) (p2 : Int) : Option cO := aw (jG p1.size.1 p2) fun r1 => nX (0 ≤ r1.2 ∧ 0 ≤ (0 : Int) ∧ 0 ≤ (0 : Int) ∧ (0 : Int) ≤ 1) <| aw (some (IntKind.u64.wrap (r1.1 + ((r1.2 + 0 + (0 : Int)) / 18446744073709551616)))) fun y1 => aw (jG p1.size.2.1 p2) fun r2 => nX (0 ≤ r2.2 ∧ 0 ≤ y1 ∧ 0 ≤ (0 : Int) ∧ (0 : Int) ≤ 1) <| aw (some (IntKind.u64.wrap (r2.1 + ((r2.2 + y1 + 0) / 18446744073709551616)))) fun y2 => aw (jG p1.size.2.2.1 p2) fun r3 => nX (0 ≤ r3.2 ∧ 0 ≤ y2 ∧ 0 ≤ (0 : Int) ∧ (0 : Int) ≤ 1) <| aw (some (IntKind.u64.wrap (r3.1 + ((r3.2 + y2 + 0) / 18446744073709551616)))) fun y3 => aw (jG p1.size.2.2.2 p2) fun r4 => nX (0 ≤ r4.2 ∧ 0 ≤ y3 ∧ 0 ≤ (0 : Int) ∧ (0 : Int) ≤ 1) <| aw (some (IntKind.u64.wrap (r4.1 + ((r4.2 + y3 + 0) / 18446744073709551616)))) fun y4 => some (cO.mk p1.neg (((r1.2 + 0 + (0 : Int)) % 18446744073709551616), ((r2.2 + y1 + 0) % 18446744073709551616), ((r3.2 + y2 + 0) % 18446744073709551616), ((r4.2 + y3 + 0) % 18446744073709551616)))
theorem Af (p1 : cO) (p2 : Int) : CT Tryz.prog 226 [mW p1, vk .u64 p2] (oH p1 p2) (fun r => mW r) :=
  dT 37 [2, 4] Tryz.f226 fun r => (MG 4 (uP (nK _ _) fun r1 _ => (Gu 244 Tryz.f244 (uY 34 (vk .u64) fun y1 => (uP (nK _ _) fun r2 _ => (Gu 244 Tryz.f244 (uY 34 (vk .u64) fun y2 => (uP (nK _ _) fun r3 _ => (Gu 244 Tryz.f244 (uY 34 (vk .u64) fun y3 => (uP (nK _ _) fun r4 _ => (Gu 244 Tryz.f244 (uY 34 (vk .u64) fun y4 => uz)))))))))))))
def rt (z6 : Bool) (z7 z8 z9 z10 : Int) : Option cO := some (cO.mk z6 (z7, z8, z9, z10))
def eX (p2 : Int) : Nat → Bool → Int → Int → Int → Int → Int → Option cO
 | 0, _, _, _, _, _, _ => none
 | k1 + 1, z1, z2, z3, z4, z5, x1 => al (decide (x1 < p2)) (aw (oH (cO.mk z1 (z2, z3, z4, z5)) (10 : Int)) fun r1 => (eX p2 k1) r1.neg r1.size.1 r1.size.2.1 r1.size.2.2.1 r1.size.2.2.2 (IntKind.i64.wrap (x1 + 1))) (rt z1 z2 z3 z4 z5)
def mN (p1 : cO) (p2 : Int) : Option cO := eX p2 aX p1.neg p1.size.1 p1.size.2.1 p1.size.2.2.1 p1.size.2.2.2 (0 : Int)
abbrev Nx : List CV := [cb false, ck .u64 (0 : Int), ck .u64 (0 : Int), ck .u64 (0 : Int), ck .u64 (0 : Int)]
theorem yi (p1 : cO) (p2 : Int) : CT Tryz.prog 210 [mW p1, vi p2] (mN p1 p2) (fun r => mW r) :=
  dT 12 [2, 4] Tryz.f210 fun r => (bL Tryz.f210 6 1 fun K k => have J1 : ∀ {z6 z7 z8 z9 z10}, rt z6 z7 z8 z9 z10 = some r → K.p [(2, .one (.pt 0 0 0 0)), (4, .one (.pt 1 0 0 0))] [.box [cb z6, ck .u64 z7, ck .u64 z8, ck .u64 z9, ck .u64 z10], .box Nx] := fun {z6 z7 z8 z9 z10} h => k h uz; (gE Tryz.f210 26 1 fun R b => have hL1 : ∀ k1 {z1 z2 z3 z4 z5 x1}, eX p2 k1 z1 z2 z3 z4 z5 x1 = some r → (R k1).p [(2, .one (.pt 0 0 0 0)), (4, .one (.pt 1 0 0 0)), (5, vi p2), (6, vi x1)] [.box [cb z1, ck .u64 z2, ck .u64 z3, ck .u64 z4, ck .u64 z5], .box Nx] := uI (gr rfl) fun k1 ih1 {z1 z2 z3 z4 z5 x1} h => b h (uU (eX.eq_2 ..) (uC (uP (Af _ _) fun r1 _ => (uJ ih1)) (uR (.exit 0) (xM (uJ J1))))); uE (hL1 aX)))
def qX (p1 p2 : Int) : Option cO := aw (yF p1) fun r1 => aw (mN (cO.mk r1.neg (r1.size.1, r1.size.2.1, r1.size.2.2.1, r1.size.2.2.2)) p2) fun r2 => some (cO.mk r2.neg (r2.size.1, r2.size.2.1, r2.size.2.2.1, r2.size.2.2.2))
theorem yv (p1 p2 : Int) : CT Tryz.prog 182 [vi p1, vi p2] (qX p1 p2) (fun r => mW r) :=
  dT 9 [4] Tryz.f182 fun r => (uP (Ed _) fun r1 _ => (uP (yi _ _) fun r2 _ => uz))
def iW (p1 : cO) : Option cO := some (cO.mk (!p1.neg) (p1.size.1, p1.size.2.1, p1.size.2.2.1, p1.size.2.2.2))
theorem ox (p1 : cO) : CT Tryz.prog 228 [mW p1] (iW p1) (fun r => mW r) :=
  dT 8 [1, 2] Tryz.f228 fun r => uz
def nV (p1 p2 : cO) : Option Int := al (decide (p1.size.2.2.2 < p2.size.2.2.2)) (some (-1 : Int)) (al (decide (p2.size.2.2.2 < p1.size.2.2.2)) (some (1 : Int)) (al (decide (p1.size.2.2.1 < p2.size.2.2.1)) (some (-1 : Int)) (al (decide (p2.size.2.2.1 < p1.size.2.2.1)) (some (1 : Int)) (al (decide (p1.size.2.1 < p2.size.2.1)) (some (-1 : Int)) (al (decide (p2.size.2.1 < p1.size.2.1)) (some (1 : Int)) (al (decide (p1.size.1 < p2.size.1)) (some (-1 : Int)) (al (decide (p2.size.1 < p1.size.1)) (some (1 : Int)) (some (0 : Int)))))))))
theorem zt (p1 p2 : cO) : CT Tryz.prog 229 [mW p1, mW p2] (nV p1 p2) vi :=
  dT 30 [] Tryz.f229 fun r => (MG 4 (oS 8 (uC uz (oS 8 (uC uz (oS 8 (uC uz (oS 8 (uC uz (oS 8 (uC uz (oS 8 (uC uz (oS 8 (uC uz (oS 8 (uC uz uz)))))))))))))))))
def jO (z1 : Bool) (z2 z3 z4 z5 : Int) (z6 : Bool) (z7 z8 z9 z10 : Int) : Option cO := nX (0 ≤ z2 ∧ 0 ≤ z7 ∧ z7 < 18446744073709551616 ∧ 0 ≤ (0 : Int) ∧ (0 : Int) ≤ 1) <| nX (0 ≤ z3 ∧ 0 ≤ z8 ∧ z8 < 18446744073709551616 ∧ 0 ≤ (if z2 < z7 + 0 then (1 : Int) else 0) ∧ (if z2 < z7 + 0 then (1 : Int) else 0) ≤ 1) <| aw (some ((z3 - z8 - (if z2 < z7 + 0 then (1 : Int) else 0)) % 18446744073709551616)) fun y1 => aw (some (if z3 < z8 + (if z2 < z7 + 0 then (1 : Int) else 0) then (1 : Int) else 0)) fun y2 => nX (0 ≤ z4 ∧ 0 ≤ z9 ∧ z9 < 18446744073709551616 ∧ 0 ≤ y2 ∧ y2 ≤ 1) <| nX (0 ≤ z5 ∧ 0 ≤ z10 ∧ z10 < 18446744073709551616 ∧ 0 ≤ (if z4 < z9 + y2 then (1 : Int) else 0) ∧ (if z4 < z9 + y2 then (1 : Int) else 0) ≤ 1) <| aw (some ((z5 - z10 - (if z4 < z9 + y2 then (1 : Int) else 0)) % 18446744073709551616)) fun y3 => aw (some (if z5 < z10 + (if z4 < z9 + y2 then (1 : Int) else 0) then (1 : Int) else 0)) fun y4 => some (cO.mk z1 (((z2 - z7 - 0) % 18446744073709551616), y1, ((z4 - z9 - y2) % 18446744073709551616), y3))
mutual
def kf : Nat → cO → cO → Option cO
 | 0, _, _ => none
 | k0 + 1, p1, p2 => al (!(p1.neg == p2.neg)) (aw (iW (cO.mk p2.neg (p2.size.1, p2.size.2.1, p2.size.2.2.1, p2.size.2.2.2))) fun r1 => aw ((lf k0) (cO.mk p1.neg (p1.size.1, p1.size.2.1, p1.size.2.2.1, p1.size.2.2.2)) (cO.mk r1.neg (r1.size.1, r1.size.2.1, r1.size.2.2.1, r1.size.2.2.2))) fun r2 => some (cO.mk r2.neg (r2.size.1, r2.size.2.1, r2.size.2.2.1, r2.size.2.2.2))) (aw (nV (cO.mk p1.neg (p1.size.1, p1.size.2.1, p1.size.2.2.1, p1.size.2.2.2)) (cO.mk p2.neg (p2.size.1, p2.size.2.1, p2.size.2.2.1, p2.size.2.2.2))) fun r3 => al (decide (r3 < (0 : Int))) (aw (iW (cO.mk p2.neg (p2.size.1, p2.size.2.1, p2.size.2.2.1, p2.size.2.2.2))) fun r4 => jO r4.neg r4.size.1 r4.size.2.1 r4.size.2.2.1 r4.size.2.2.2 p1.neg p1.size.1 p1.size.2.1 p1.size.2.2.1 p1.size.2.2.2) (jO p1.neg p1.size.1 p1.size.2.1 p1.size.2.2.1 p1.size.2.2.2 p2.neg p2.size.1 p2.size.2.1 p2.size.2.2.1 p2.size.2.2.2))
def lf : Nat → cO → cO → Option cO
 | 0, _, _ => none
 | k0 + 1, p1, p2 => al (!(p1.neg == p2.neg)) (aw (iW (cO.mk p2.neg (p2.size.1, p2.size.2.1, p2.size.2.2.1, p2.size.2.2.2))) fun r1 => aw ((kf k0) (cO.mk p1.neg (p1.size.1, p1.size.2.1, p1.size.2.2.1, p1.size.2.2.2)) (cO.mk r1.neg (r1.size.1, r1.size.2.1, r1.size.2.2.1, r1.size.2.2.2))) fun r2 => some (cO.mk r2.neg (r2.size.1, r2.size.2.1, r2.size.2.2.1, r2.size.2.2.2))) (nX (0 ≤ p1.size.1 ∧ 0 ≤ p2.size.1 ∧ 0 ≤ (0 : Int) ∧ (0 : Int) ≤ 1) <| nX (0 ≤ p1.size.2.1 ∧ 0 ≤ p2.size.2.1 ∧ 0 ≤ ((p1.size.1 + p2.size.1 + 0) / 18446744073709551616) ∧ ((p1.size.1 + p2.size.1 + 0) / 18446744073709551616) ≤ 1) <| aw (some ((p1.size.2.1 + p2.size.2.1 + ((p1.size.1 + p2.size.1 + 0) / 18446744073709551616)) % 18446744073709551616)) fun y1 => aw (some ((p1.size.2.1 + p2.size.2.1 + ((p1.size.1 + p2.size.1 + 0) / 18446744073709551616)) / 18446744073709551616)) fun y2 => nX (0 ≤ p1.size.2.2.1 ∧ 0 ≤ p2.size.2.2.1 ∧ 0 ≤ y2 ∧ y2 ≤ 1) <| nX (0 ≤ p1.size.2.2.2 ∧ 0 ≤ p2.size.2.2.2 ∧ 0 ≤ ((p1.size.2.2.1 + p2.size.2.2.1 + y2) / 18446744073709551616) ∧ ((p1.size.2.2.1 + p2.size.2.2.1 + y2) / 18446744073709551616) ≤ 1) <| aw (some ((p1.size.2.2.2 + p2.size.2.2.2 + ((p1.size.2.2.1 + p2.size.2.2.1 + y2) / 18446744073709551616)) % 18446744073709551616)) fun y3 => aw (some ((p1.size.2.2.2 + p2.size.2.2.2 + ((p1.size.2.2.1 + p2.size.2.2.1 + y2) / 18446744073709551616)) / 18446744073709551616)) fun y4 => some (cO.mk p1.neg (((p1.size.1 + p2.size.1 + 0) % 18446744073709551616), y1, ((p1.size.2.2.1 + p2.size.2.2.1 + y2) % 18446744073709551616), y3)))
end
mutual
theorem ut : ∀ (k0 : Nat) (p1 p2 : cO), CT Tryz.prog 211 [mW p1, mW p2] (kf k0 p1 p2) (fun r => mW r)
  | 0, _, _ => EN (kf.eq_1 ..)
  | k0 + 1, p1, p2 => dT 44 [2, 3, 4] Tryz.f211 fun r => (uU (kf.eq_2 ..) (uC (oS 3 (uP (ox _) fun r1 _ => (uP (AZ k0 _ _) fun r2 _ => uz))) (bL Tryz.f211 14 1 fun K k => have J1 : ∀ {z1 z2 z3 z4 z5 z6 z7 z8 z9 z10}, jO z1 z2 z3 z4 z5 z6 z7 z8 z9 z10 = some r → K.p [(2, .one (.pt 0 0 0 0)), (3, .one (.pt 1 0 0 0)), (4, .one (.pt 2 0 0 0))] [.box [cb z1, ck .u64 z2, ck .u64 z3, ck .u64 z4, ck .u64 z5], .box [cb z6, ck .u64 z7, ck .u64 z8, ck .u64 z9, ck .u64 z10], .box [cb false, ck .u64 (0 : Int), ck .u64 (0 : Int), ck .u64 (0 : Int), ck .u64 (0 : Int)]] := fun {z1 z2 z3 z4 z5 z6 z7 z8 z9 z10} h => k h (MG 4 (Hq 17 0 [3] (O2 230 Tryz.f230 (Hq 17 0 [3] (O2 230 Tryz.f230 (uY 38 (vk .u64) fun y1 => (uY 39 (vk .u64) fun y2 => (Hq 17 0 [3] (O2 230 Tryz.f230 (Hq 17 0 [3] (O2 230 Tryz.f230 (uY 38 (vk .u64) fun y3 => (uY 39 (vk .u64) fun y4 => uz))))))))))))); (uP (zt _ _) fun r3 _ => (uC (oS 3 (uP (ox _) fun r4 _ => (uJ J1))) (uJ J1))))))
theorem AZ : ∀ (k0 : Nat) (p1 p2 : cO), CT Tryz.prog 227 [mW p1, mW p2] (lf k0 p1 p2) (fun r => mW r)
  | 0, _, _ => EN (lf.eq_1 ..)
  | k0 + 1, p1, p2 => dT 37 [2, 4] Tryz.f227 fun r => (uU (lf.eq_2 ..) (uC (oS 3 (uP (ox _) fun r1 _ => (uP (ut k0 _ _) fun r2 _ => uz))) (MG 4 (Hq 17 0 [2] (Gu 244 Tryz.f244 (Hq 17 0 [2] (Gu 244 Tryz.f244 (uY 31 (vk .u64) fun y1 => (uY 32 (vk .u64) fun y2 => (Hq 17 0 [2] (Gu 244 Tryz.f244 (Hq 17 0 [2] (Gu 244 Tryz.f244 (uY 31 (vk .u64) fun y3 => (uY 32 (vk .u64) fun y4 => uz)))))))))))))))
end
def pP (p1 : cO) : Option Bool := aw (some ((p1.size.1 == 0) && ((p1.size.2.1 == 0) && ((p1.size.2.2.1 == 0) && ((p1.size.2.2.2 == 0) && true))))) fun y1 => some y1
theorem A6 (p1 : cO) : CT Tryz.prog 212 [mW p1] (pP p1) vb :=
  dT 7 [] Tryz.f212 fun r => (uY 6 vb fun y1 => uz)
def kC (p1 p2 : cO) : Option Int := aw (kf aX (cO.mk p1.neg (p1.size.1, p1.size.2.1, p1.size.2.2.1, p1.size.2.2.2)) (cO.mk p2.neg (p2.size.1, p2.size.2.1, p2.size.2.2.1, p2.size.2.2.2))) fun r1 => aw (pP (cO.mk r1.neg (r1.size.1, r1.size.2.1, r1.size.2.2.1, r1.size.2.2.2))) fun r2 => al r2 (some (0 : Int)) (al r1.neg (some (-1 : Int)) (some (1 : Int)))
theorem yK (p1 p2 : cO) : CT Tryz.prog 183 [mW p1, mW p2] (kC p1 p2) vi :=
  dT 15 [5] Tryz.f183 fun r => (uP (ut aX _ _) fun r1 _ => (uP (A6 _) fun r2 _ => (uC uz (uC uz uz))))
def oG (p1 : ByteArray) : Option Bool := some (!(p1.toList == p1.toList))
theorem u5 (p1 : ByteArray) : CT Tryz.prog 231 [vs p1] (oG p1) vb :=
  dT 6 [] Tryz.f231 fun r => uz
def mX (p1 p2 : ByteArray) : Option Int := aw (oG p1) fun r1 => aw (oG p2) fun r2 => al r1 (al r2 (some (0 : Int)) (some (-1 : Int))) (al r2 (some (1 : Int)) (al (Op.bytesLess p1.toList p2.toList) (some (-1 : Int)) (al (!(Op.bytesLess p1.toList p2.toList || p1.toList == p2.toList)) (some (1 : Int)) (some (0 : Int)))))
theorem yw (p1 p2 : ByteArray) : CT Tryz.prog 213 [vs p1, vs p2] (mX p1 p2) vi :=
  dT 20 [] Tryz.f213 fun r => (uP (u5 _) fun r1 _ => (uP (u5 _) fun r2 _ => (uC (uC uz uz) (uC uz (uC uz (uC uz uz))))))
def zJ : Option Int := some (0 : Int)
def je (p1 : (List Int)) : Nat → Int → Option Int
 | 0, _ => none
 | k1 + 1, x1 => al (decide (x1 < (p1.length : Int))) (aw (at? p1 x1) fun e1 => al (e1 != 0) (some e1) ((je p1 k1) (IntKind.i64.wrap (x1 + 1)))) (zJ)
def oy (p1 : (List Int)) : Option Int := je p1 aX (0 : Int)
theorem w7 (p1 : (List Int)) : CT Tryz.prog 181 [vl eI p1] (oy p1) vi :=
  dT 18 [] Tryz.f181 fun r => (bL Tryz.f181 14 1 fun K k => have J1 : zJ = some r → K.p [(3, vi (0 : Int))] [] := fun h => k h uz; (uN eI p1 (gE Tryz.f181 58 1 fun R b => have hL1 : ∀ k1 {x1}, je p1 k1 x1 = some r → (R k1).p [(3, vi (0 : Int)), (6, vl eI p1), (7, vi p1.length), (8, vi x1)] [] := uI (gr rfl) fun k1 ih1 {x1} h => b h (uU (je.eq_2 ..) (uC (uL eI fun e1 a10 => (uC iU (uJ ih1))) (uR (.exit 0) (xM (uJ J1))))); uE (hL1 aX))))
def bI (p1 p2 : (List ae)) : Option Int := al (decide ((p1.length : Int) < (p2.length : Int))) (some (-1 : Int)) (some (0 : Int))
def aP (q_value_Compare : ae → ae → Option Int) (p1 p2 : (List ae)) : Nat → Int → Option Int
 | 0, _ => none
 | k1 + 1, x1 => al (decide (x1 < (p1.length : Int))) (aw (at? p1 x1) fun e1 => al (decide ((p2.length : Int) ≤ x1)) (some (1 : Int)) (aw (at? p2 x1) fun e2 => aw (q_value_Compare e1 e2) fun r1 => al (r1 != 0) (some r1) ((aP q_value_Compare p1 p2 k1) (IntKind.i64.wrap (x1 + 1))))) (bI p1 p2)
def mh (q_value_rest : ae → ae → Option Int) (p1 p2 : ae) : Option Int := aw (lh p1.n p2.n) fun r9 => aw (q_value_rest p1 p2) fun r10 => aw (oy [r9, r10]) fun r11 => some r11
def oR (q_value_rest : ae → ae → Option Int) (p1 p2 : ae) (r2 r3 x1 : Bool) : Option Int := al x1 (aw (qX p1.n (IntKind.i64.wrap ((12 : Int) - p1.scale))) fun r4 => aw (qX p2.n (IntKind.i64.wrap ((12 : Int) - p2.scale))) fun r5 => aw (kC (cO.mk r4.neg (r4.size.1, r4.size.2.1, r4.size.2.2.1, r4.size.2.2.2)) (cO.mk r5.neg (r5.size.1, r5.size.2.1, r5.size.2.2.1, r5.size.2.2.2))) fun r6 => aw (q_value_rest p1 p2) fun r7 => aw (oy [r6, r7]) fun r8 => some r8) (al r2 (some (-1 : Int)) (al r3 (some (1 : Int)) (mh q_value_rest p1 p2)))
mutual
def az : Nat → (List ae) → (List ae) → Option Int
 | 0, _, _ => none
 | k0 + 1, p1, p2 => aP (eR k0) p1 p2 aX (0 : Int)
def eR : Nat → ae → ae → Option Int
 | 0, _, _ => none
 | k0 + 1, p1, p2 => al (p1.kind != p2.kind) (al (p1.kind == 0) (some (1 : Int)) (al (p2.kind == 0) (some (-1 : Int)) (aw (lh p1.kind p2.kind) fun r1 => some r1))) (al (p1.kind == 0) (some (0 : Int)) (al (p1.kind == 3) (aw (gw p1.scale (0 : Int) (12 : Int)) fun r2 => aw (gw p2.scale (0 : Int) (12 : Int)) fun r3 => al r2 (oR (kw k0) p1 p2 r2 r3 r3) (oR (kw k0) p1 p2 r2 r3 false)) (mh (kw k0) p1 p2)))
def kw : Nat → ae → ae → Option Int
 | 0, _, _ => none
 | k0 + 1, p1, p2 => aw (lh p1.scale p2.scale) fun r1 => aw (mX p1.s p2.s) fun r2 => aw ((az k0) p1.items p2.items) fun r3 => aw (oy [r1, r2, r3]) fun r4 => some r4
end
mutual
theorem cG : ∀ (k0 : Nat) (p1 p2 : (List ae)), CT Tryz.prog 141 [vl am p1, vl am p2, .one (.pv (.fn 133 []))] (az k0 p1 p2) vi
  | 0, _, _ => EN (az.eq_1 ..)
  | k0 + 1, p1, p2 => dT 39 [8, 9] Tryz.f141 fun r => (uU (az.eq_2 ..) (bL Tryz.f141 6 1 fun K k => have J1 : bI p1 p2 = some r → K.p [(0, vl am p1), (1, vl am p2)] [] := fun h => k h (uN am p1 (uN am p2 (uC uz uz))); (uN am p1 (gE Tryz.f141 26 1 fun R b => have hL1 : ∀ k1 {x1}, aP (eR k0) p1 p2 k1 x1 = some r → (R k1).p [(0, vl am p1), (1, vl am p2), (2, .one (.pv (.fn 133 []))), (11, vl am p1), (12, vi p1.length), (13, vi x1)] [] := uI (gr rfl) fun k1 ih1 {x1} h => b h (uU (aP.eq_2 ..) (uC (uL am fun e1 a9 => (uN am p2 (uC iU (uL am fun e2 a15 => (uP (tn k0 _ _) fun r1 _ => (uC iU (uJ ih1))))))) (uR (.exit 0) (xM (uJ J1))))); uE (hL1 aX)))))
theorem tn : ∀ (k0 : Nat) (p1 p2 : ae), CT Tryz.prog 133 [mV p1, mV p2] (eR k0 p1 p2) vi
  | 0, _, _ => EN (eR.eq_1 ..)
  | k0 + 1, p1, p2 => dT 72 [] Tryz.f133 fun r => (uU (eR.eq_2 ..) (uC (uC uz (uC uz (uP (qQ _ _) fun r1 _ => uz))) (bL Tryz.f133 14 1 fun K k => have J2 : mh (kw k0) p1 p2 = some r → K.p [(2, vR [pi p1.kind, pi p1.n, pi p1.scale, .s (.string p1.s), .ro (am.els p1.items)]), (3, vR [pi p2.kind, pi p2.n, pi p2.scale, .s (.string p2.s), .ro (am.els p2.items)])] [] := fun h => k h (oS 7 (uP (qQ _ _) fun r9 _ => (uP (Be k0 _ _) fun r10 _ => (uP (w7 _) fun r11 _ => uz)))); (uC (uR .ret (xN xF)) (uC (oS 5 (uP (kB _ _ _) fun r2 _ => (uP (kB _ _ _) fun r3 _ => (bL Tryz.f133 7540 3 fun K k => have J1 : ∀ {x1}, oR (kw k0) p1 p2 r2 r3 x1 = some r → K.p [(2, vR [pi p1.kind, pi p1.n, pi p1.scale, .s (.string p1.s), .ro (am.els p1.items)]), (3, vR [pi p2.kind, pi p2.n, pi p2.scale, .s (.string p2.s), .ro (am.els p2.items)]), (5, vb r2), (6, vb r3), (35, vb x1)] [] := fun {x1} h => k h (uC (oS 15 (uP (yv _ _) fun r4 _ => (uP (yv _ _) fun r5 _ => (uP (yK _ _) fun r6 _ => (uP (Be k0 _ _) fun r7 _ => (uP (w7 _) fun r8 _ => (uR .ret (xN xF)))))))) (uC (uR .ret (xN xF)) (uC (uR .ret (xN xF)) (uJ J2)))); (uC (uJ J1) (uJ J1)))))) (uJ J2))))))
theorem Be : ∀ (k0 : Nat) (p1 p2 : ae), CT Tryz.prog 184 [mV p1, mV p2] (kw k0 p1 p2) vi
  | 0, _, _ => EN (kw.eq_1 ..)
  | k0 + 1, p1, p2 => dT 22 [] Tryz.f184 fun r => (uU (kw.eq_2 ..) (oS 14 (uP (qQ _ _) fun r1 _ => (uP (yw _ _) fun r2 _ => (uP (cG k0 _ _) fun r3 _ => (uP (w7 _) fun r4 _ => uz))))))
end
def qI (rec1 : List ac → Int → Option Int) (x1 : Int) (l2 : List ac) : Option Int := rec1 l2 (IntKind.i64.wrap (x1 + 1))
def n9 (rec2 : Int → Option Int) (x2 : Int) (x3 : Bool) : Option Int := al x3 (some (1 : Int)) (rec2 (IntKind.i64.wrap (x2 + 1)))
def yu : Option Int := some (0 : Int)
def gj (p2 : ah) (l3 : List ac) : Nat → Int → Option Int
 | 0, _ => none
 | k2 + 1, x2 => al (decide (x2 < (p2.stats.length : Int))) (aw (at? p2.stats x2) fun e2 => aw (dt e2.nulls (0 : Int) p2.rows) fun r3 => al (!r3) (some (3 : Int)) (aw (at? [e2.min, e2.max] (0 : Int)) fun e3 => aw (at? l3 x2) fun e4 => aw (jj e4.type e3) fun r4 => al (r4 != 0) (some r4) (aw (at? [e2.min, e2.max] (1 : Int)) fun e5 => aw (jj e4.type e5) fun r5 => al (r5 != 0) (some r5) (al (!((e2.min.kind == 0) == (e2.nulls == p2.rows))) (n9 (gj p2 l3 k2) x2 true) (al (!((e2.max.kind == 0) == (e2.nulls == p2.rows))) (n9 (gj p2 l3 k2) x2 true) (aw (eR aX e2.min e2.max) fun r6 => n9 (gj p2 l3 k2) x2 (decide ((0 : Int) < r6)))))))) (yu)
def ma (p2 : ah) (l3 : List ac) : Option Int := aw (bT p2.stats l3) fun r2 => al (!r2) (some (1 : Int)) (gj p2 l3 aX (0 : Int))
def ix (p1 : (List ac)) (p2 : ah) : Nat → List ac → Int → Option Int
 | 0, _, _ => none
 | k1 + 1, l1, x1 => al (decide (x1 < (p1.length : Int))) (aw (at? p1 x1) fun e1 => aw (rM e1.type) fun r1 => al r1 (nX (l1.length + 1 ≤ 4294967296) <| qI (ix p1 p2 k1) x1 (l1 ++ [e1])) (qI (ix p1 p2 k1) x1 l1)) (ma p2 l1)
def s6 (p1 : (List ac)) (p2 : ah) : Option Int := ix p1 p2 aX [] (0 : Int)
abbrev fo (p2 : ah) : List PV := [.s (.string p2.name), pi p2.schema, pi p2.spec, .ro (am.els p2.part), pi p2.rows, pi p2.seq, .ro (dJ.els p2.stats)]
theorem En (p1 : (List ac)) (p2 : ah) : CT Tryz.prog 174 [vl af p1, mF p2] (s6 p1 p2) vi :=
  dT 98 [7, 10, 12] Tryz.f174 fun r => (bL Tryz.f174 14 1 fun K k => have J2 : ∀ {l3}, ma p2 l3 = some r → K.p [(3, vR (fo p2)), (5, .one (.sl 0 6 0 l3.length))] [.arr 6 (af.els l3)] := fun {l3} h => k h (Kj af l3 0 [5,31] (uP (fi _ _) fun r2 _ => (uC uz (bL Tryz.f174 126 1 fun K k => have J4 : yu = some r → K.p [] [.dead] := fun h => k h uz; (uN dJ p2.stats (gE Tryz.f174 506 1 fun R b => have hL2 : ∀ k2 {x2}, gj p2 l3 k2 x2 = some r → (R k2).p [(3, vR (fo p2)), (5, vl af l3), (36, vl dJ p2.stats), (37, vi p2.stats.length), (38, vi x2)] [.dead] := uI (gr rfl) fun k2 ih2 {x2} h => b h (uU (gj.eq_2 ..) (uC (uL dJ fun e2 a28 => (uP (dp _ _ _) fun r3 _ => (uC iU (uW 53 am [e2.min, e2.max] (uA (vi (2 : Int)) (MG 2 (uT (uL am fun e3 a40 => (oS 6 (uL af fun e4 a42 => (uP (rZ _ _) fun r4 _ => (uC iU (uT (uL am fun e5 a51 => (oS 6 (uM af a42 (uP (rZ _ _) fun r5 _ => (uC iU (uF (bL Tryz.f174 518558 3 fun K k => have J3 : ∀ {x3}, n9 (gj p2 l3 k2) x2 x3 = some r → K.p [(3, vR (fo p2)), (5, vl af l3), (36, vl dJ p2.stats), (37, vi p2.stats.length), (38, vi x2), (96, vb x3)] [.dead, .dead, .dead, .dead] := fun {x3} h => k h (uC iU (uJ ih2)); (uC (uJ J3) (uC (uJ J3) (uP (tn aX _ _) fun r6 _ => (uJ J3)))))))))))))))))))))))) (uR (.exit 2) (xM (uJ J4))))); uE (hL2 aX))))))); (uN af p1 (CN (.li 5 6) (gE Tryz.f174 58 1 fun R b => have hL1 : ∀ k1 {l1 x1}, ix p1 p2 k1 l1 x1 = some r → (R k1).p [(3, vR (fo p2)), (5, .one (.sl 0 6 0 l1.length)), (15, vl af p1), (16, vi p1.length), (17, vi x1)] [.arr 6 (af.els l1)] := uI (gr rfl) fun k1 ih1 {l1 x1} h => b h (uU (ix.eq_2 ..) (uC (bL Tryz.f174 934 1 fun K k => have J1 : ∀ {l2}, qI (ix p1 p2 k1) x1 l2 = some r → K.p [(3, vR (fo p2)), (5, .one (.sl 0 6 0 l2.length)), (15, vl af p1), (16, vi p1.length), (17, vi x1)] [.arr 6 (af.els l2)] := fun {l2} h => k h (uJ ih1); (uL af fun e1 a10 => (uP (xb _) fun r1 _ => (uC (uW 26 af [e1] (KB af 0 [e1] (uJ J1))) (uJ J1))))) (uR (.exit 0) (xM (uJ J2))))); uE (hL1 aX)))))
def vV (p2 : ah) (r5 : (Bool × (List ac))) : Option Int := aw (s6 r5.2 p2) fun r9 => some r9
def j4 (p2 : ah) (e2 : dq) (r5 : (Bool × (List ac))) : Nat → Int → Option Int
 | 0, _ => none
 | k1 + 1, x2 => al (decide (x2 < (e2.fields.length : Int))) (aw (at? e2.fields x2) fun e3 => aw (kh r5.2 e3.source) fun r6 => aw (at? r5.2 r6) fun e4 => aw (fW e3.transform e4.type) fun r7 => al (r7.2 != 0) (some (2 : Int)) (aw (at? p2.part x2) fun e5 => aw (jj r7.1 e5) fun r8 => al (r8 != 0) (some r8) ((j4 p2 e2 r5 k1) (IntKind.i64.wrap (x2 + 1))))) (vV p2 r5)
def lN (p1 : ax) (p2 : ah) (x1 : Bool) : Option Int := al x1 (some (3 : Int)) (aw (at? p1.schemas p2.schema) fun e1 => aw (at? p1.specs p2.spec) fun e2 => aw (bn e2.fields e1) fun r5 => al r5.1 (some (9 : Int)) (al ((p2.part.length : Int) != (e2.fields.length : Int)) (some (1 : Int)) (j4 p2 e2 r5 aX (0 : Int))))
def w3 (p1 : ax) (p2 : ah) : Option Int := aw (oM p2.name) fun r1 => al (!r1) (some (4 : Int)) (aw (dt p2.schema (0 : Int) (IntKind.i64.wrap ((p1.schemas.length : Int) - (1 : Int)))) fun r2 => al (!r2) (lN p1 p2 true) (aw (dt p2.spec (0 : Int) (IntKind.i64.wrap ((p1.specs.length : Int) - (1 : Int)))) fun r3 => al (!r3) (lN p1 p2 true) (aw (dt p2.rows (1 : Int) (2000 : Int)) fun r4 => al (!r4) (lN p1 p2 true) (lN p1 p2 (decide (p2.seq < (1 : Int)))))))
theorem F0 (p1 : ax) (p2 : ah) : CT Tryz.prog 128 [mM p1, mF p2] (w3 p1 p2) vi :=
  dT 108 [5, 6, 8, 9] Tryz.f128 fun r => (uP (Ao _) fun r1 _ => (uC uz (bL Tryz.f128 102 3 fun K k => have J1 : ∀ {x1}, lN p1 p2 x1 = some r → K.p [(2, vR [.ro ((eL af).els p1.schemas), .ro (fR.els p1.specs), pi p1.nextField, pi p1.nextSeq, pi p1.nextSnap, pi p1.purges, .ro (aW.els p1.snapshots), .ro (nI.els p1.refs), .ro (kU.els p1.props)]), (3, vR (fo p2)), (17, vb x1)] [] := fun {x1} h => k h (uC uz (Hq 15 2 [0,1,2] (uL (eL af) fun e1 a17 => (uL fR fun e2 a18 => (zW true [0] (gN _ _) fun r5 _ => (uC uz (uN am p2.part (uN aM e2.fields (uC uz (bL Tryz.f128 126 1 fun K k => have J2 : vV p2 r5 = some r → K.p [(3, vR (fo p2)), (5, .one (.pt 0 0 0 0))] [.box [cl af r5.2], .dead] := fun h => k h (uP (En _ _) fun r9 _ => uz); (uN aM e2.fields (gE Tryz.f128 506 1 fun R b => have hL1 : ∀ k1 {x2}, j4 p2 e2 r5 k1 x2 = some r → (R k1).p [(3, vR (fo p2)), (5, .one (.pt 0 0 0 0)), (71, vl aM e2.fields), (72, vi e2.fields.length), (73, vi x2)] [.box [cl af r5.2], .dead] := uI (gr rfl) fun k1 ih1 {x2} h => b h (uU (j4.eq_2 ..) (uC (uL aM fun e3 a35 => (Hq 16 1 [3,4] (uP (sM _ _) fun r6 _ => (uL af fun e4 a38 => (uP (rA _ _) fun r7 _ => (uC iU (oS 6 (uL am fun e5 a45 => (uP (rZ _ _) fun r8 _ => (uC iU (uJ ih1))))))))))) (uR (.exit 1) (xM (uJ J2))))); uE (hL1 aX))))))))))))); (uN (eL af) p1.schemas (uP (dp _ _ _) fun r2 _ => (uC (uJ J1) (uN fR p1.specs (uP (dp _ _ _) fun r3 _ => (uC (uJ J1) (uP (dp _ _ _) fun r4 _ => (uC (uJ J1) (uJ J1))))))))))))
def rf (rec1 : Int → Option Int) (x1 : Int) (x3 : Bool) : Option Int := al x3 (some (1 : Int)) (rec1 (IntKind.i64.wrap (x1 + 1)))
def qw (rec1 : Int → Option Int) (p2 : aj) (x1 : Int) (e1 : ah) (x2 : Bool) : Option Int := al x2 (some (3 : Int)) (al (decide ((0 : Int) < x1)) (aw (at? p2.files (IntKind.i64.wrap (x1 - 1))) fun e2 => aw (some (Op.bytesLess e1.name.toList e2.name.toList || e1.name.toList == e2.name.toList)) fun y1 => rf rec1 x1 y1) (rf rec1 x1 false))
def yM : Option Int := some (0 : Int)
def en (p1 : ax) (p2 : aj) : Nat → Int → Option Int
 | 0, _ => none
 | k1 + 1, x1 => al (decide (x1 < (p2.files.length : Int))) (aw (at? p2.files x1) fun e1 => aw (w3 p1 e1) fun r1 => al (r1 != 0) (some r1) (al (decide (p2.seq < e1.seq)) (qw (en p1 p2 k1) p2 x1 e1 true) (qw (en p1 p2 k1) p2 x1 e1 (decide (p2.schema < e1.schema))))) (yM)
def sK (p1 : ax) (p2 : aj) : Option Int := en p1 p2 aX (0 : Int)
abbrev jF (p2 : aj) : List PV := [pi p2.id, pi p2.parent, pi p2.seq, pi p2.schema, pi p2.time, pi p2.kind, .ro (aF.els p2.files), .ro (cw.els p2.dat), .ro (bp.els p2.dby)]
theorem Et (p1 : ax) (p2 : aj) : CT Tryz.prog 83 [mM p1, mS p2] (sK p1 p2) vi :=
  dT 51 [6] Tryz.f83 fun r => (bL Tryz.f83 6 1 fun K k => have J3 : yM = some r → K.p [] [] := fun h => k h uz; (uN aF p2.files (gE Tryz.f83 26 1 fun R b => have hL1 : ∀ k1 {x1}, en p1 p2 k1 x1 = some r → (R k1).p [(2, vR (b9 p1)), (3, vR (jF p2)), (9, vl aF p2.files), (10, vi p2.files.length), (11, vi x1)] [] := uI (gr rfl) fun k1 ih1 {x1} h => b h (uU (en.eq_2 ..) (uC (uL aF fun e1 a9 => (uP (F0 _ _) fun r1 _ => (uC iU (bL Tryz.f83 13516 4 fun K k => have J1 : ∀ {x2}, qw (en p1 p2 k1) p2 x1 e1 x2 = some r → K.p [(2, vR (b9 p1)), (3, vR (jF p2)), (5, vi x1), (6, .one (.pt 0 0 0 0)), (9, vl aF p2.files), (10, vi p2.files.length), (11, vi x1), (22, vb x2)] [.box [xz e1.name, ci e1.schema, ci e1.spec, cl am e1.part, ci e1.rows, ci e1.seq, cl dJ e1.stats]] := fun {x2} h => k h (uC iU (bL Tryz.f83 54070 4 fun K k => have J2 : ∀ {x3}, rf (en p1 p2 k1) x1 x3 = some r → K.p [(2, vR (b9 p1)), (3, vR (jF p2)), (9, vl aF p2.files), (10, vi p2.files.length), (11, vi x1), (35, vb x3)] [.dead] := fun {x3} h => k h (uC iU (uJ ih1)); (oS 12 (uC (uL aF fun e2 a22 => (uY 48 vb fun y1 => (uJ J2))) (uJ J2))))); (uC (uJ J1) (uJ J1)))))) (uR (.exit 0) (xM (uJ J3))))); uE (hL1 aX))))
def qC (p1 : ah) (p2 : ByteArray) : Option Int := aw (strings_Compare p1.name p2) fun r1 => some r1
theorem yh (p1 : ah) (p2 : ByteArray) : CT Tryz.prog 42 [mF p1, vs p2] (qC p1 p2) vi :=
  dT 9 [] Tryz.f42 fun r => (uP (Bu _ _) fun r1 _ => uz)
def bo (x3 : Int) (x4 : Bool) : Option (Int × Bool) := some (x3, x4)
def bN (p1 : (List ah)) (p2 : ByteArray) (x3 : Int) : Option (Int × Bool) := al (decide (x3 < (p1.length : Int))) (aw (at? p1 x3) fun e2 => aw (qC e2 p2) fun r2 => bo x3 (r2 == 0)) (bo x3 false)
def ay (p1 : (List ah)) (p2 : ByteArray) : Nat → Int → Int → Option (Int × Bool)
 | 0, _, _ => none
 | k1 + 1, x1, x2 => al (decide (x1 < x2)) (aw (some ((IntKind.u64.wrap (IntKind.i64.wrap (x1 + x2))).fdiv (2 ^ (min (1 : Int).toNat (IntKind.u64).bits)))) fun y1 => aw (at? p1 (IntKind.i64.wrap y1)) fun e1 => aw (qC e1 p2) fun r1 => al (decide (r1 < (0 : Int))) ((ay p1 p2 k1) (IntKind.i64.wrap ((IntKind.i64.wrap y1) + (1 : Int))) x2) ((ay p1 p2 k1) x1 (IntKind.i64.wrap y1))) (bN p1 p2 x1)
def bV (p1 : (List ah)) (p2 : ByteArray) : Option (Int × Bool) := ay p1 p2 aX (0 : Int) (p1.length : Int)
theorem fv (p1 : (List ah)) (p2 : ByteArray) : CT Tryz.prog 41 [vl aF p1, vs p2, .one (.pv (.fn 42 []))] (bV p1 p2) (fun r => .tp [vi r.1, vb r.2]) :=
  dT 49 [] Tryz.f41 fun r => (uN aF p1 (bL Tryz.f41 30 1 fun K k => have J1 : ∀ {x3}, bN p1 p2 x3 = some r → K.p [(0, vl aF p1), (1, vs p2), (2, .one (.pv (.fn 42 []))), (8, vi p1.length), (9, vi x3)] [] := fun {x3} h => k h (bL Tryz.f41 62 1 fun K k => have J2 : ∀ {x4}, bo x3 x4 = some r → K.p [(6, vi x3), (7, vb x4)] [] := fun {x4} h => k h uz; (uC (uL aF fun e2 a16 => (uP (yh _ _) fun r2 _ => (uJ J2))) (uJ J2))); (gE Tryz.f41 60 1 fun R b => have hL1 : ∀ k1 {x1 x2}, ay p1 p2 k1 x1 x2 = some r → (R k1).p [(0, vl aF p1), (1, vs p2), (2, .one (.pv (.fn 42 []))), (8, vi p1.length), (9, vi x1), (10, vi x2)] [] := uI (gr rfl) fun k1 ih1 {x1 x2} h => b h (uU (ay.eq_2 ..) (uC (uY 22 (vk .u64) fun y1 => (uL aF fun e1 a11 => (uP (yh _ _) fun r1 _ => (uC (uJ ih1) (uJ ih1))))) (uR (.exit 0) (xM (uJ J1))))); uE (hL1 aX))))
def rE (p1 : aj) (p2 : ByteArray) : Option (ah × Bool) := aw (bV p1.files p2) fun r1 => al (!r1.2) (some ((ah.mk ByteArray.empty (0 : Int) (0 : Int) [] (0 : Int) (0 : Int) []), false)) (aw (at? p1.files r1.1) fun e1 => some (e1, true))
theorem xo (p1 : aj) (p2 : ByteArray) : CT Tryz.prog 16 [mS p1, vs p2] (rE p1 p2) (fun r => .tp [mF r.1, vb r.2]) :=
  dT 23 [4] Tryz.f16 fun r => (uP (fv _ _) fun r1 _ => (uC uz (uL aF fun e1 a9 => uz)))
def xH (p1 : (List Int)) : Option Bool := some (decide ((0 : Int) < (p1.length : Int)))
def iG (p1 : (List Int)) : Nat → Int → Option Bool
 | 0, _ => none
 | k1 + 1, x1 => al (decide (x1 < (p1.length : Int))) (aw (at? p1 x1) fun e1 => aw (at? p1 (IntKind.i64.wrap (x1 - 1))) fun e2 => al (decide (e1 ≤ e2)) (some false) ((iG p1 k1) (IntKind.i64.wrap (x1 + 1)))) (xH p1)
def oP (p1 : (List Int)) : Option Bool := iG p1 aX (1 : Int)
theorem um (p1 : (List Int)) : CT Tryz.prog 129 [vl eI p1] (oP p1) vb :=
  dT 23 [] Tryz.f129 fun r => (bL Tryz.f129 6 1 fun K k => have J1 : xH p1 = some r → K.p [(0, vl eI p1)] [] := fun h => k h (uN eI p1 uz); (gE Tryz.f129 26 1 fun R b => have hL1 : ∀ k1 {x1}, iG p1 k1 x1 = some r → (R k1).p [(0, vl eI p1), (3, vi x1)] [] := uI (gr rfl) fun k1 ih1 {x1} h => b h (uU (iG.eq_2 ..) (uN eI p1 (uC (oS 9 (uL eI fun e1 a9 => (uL eI fun e2 a10 => (uC iU (uJ ih1))))) (uR (.exit 0) (xM (uJ J1)))))); uE (hL1 aX)))
def oF (p1 : (List ac)) (r1 : Int) (x1 : Bool) : Option (ap × Bool) := al x1 (some ((ap.mk (0 : Int) (0 : Int) []), false)) (aw (at? p1 r1) fun e2 => some (e2.type, true))
def pk (p1 : (List ac)) (p2 : Int) : Option (ap × Bool) := aw (kh p1 p2) fun r1 => al (decide (r1 < (0 : Int))) (oF p1 r1 true) (aw (at? p1 r1) fun e1 => aw (rM e1.type) fun r2 => oF p1 r1 (!r2))
theorem xx (p1 : (List ac)) (p2 : Int) : CT Tryz.prog 117 [vl af p1, vi p2] (pk p1 p2) (fun r => .tp [mT r.1, vb r.2]) :=
  dT 27 [4] Tryz.f117 fun r => (uP (sM _ _) fun r1 _ => (bL Tryz.f117 28 2 fun K k => have J1 : ∀ {x1}, oF p1 r1 x1 = some r → K.p [(0, vl af p1), (4, .one (.pt 0 0 0 0)), (6, vi r1), (20, vb x1)] [.box [ci (0 : Int), ci (0 : Int), .pv (.s (.slice none 0 0))]] := fun {x1} h => k h (uC uz (uL af fun e2 a12 => uz)); (uC (uJ J1) (uL af fun e1 a7 => (uP (xb _) fun r2 _ => (uJ J1))))))
def Ar (p1 : Int) (p2 : (List ac)) : Option (Bool × (List ac)) := aw (pk p2 p1) fun r1 => some ((!r1.2), p2)
theorem zFS (p1 : Int) (p2 : (List ac)) : CM Tryz.prog 175 [vi p1, .one (.pt 0 0 0 0)] [.box [cl af p2]] (Ar p1 p2) (fun r => vb r.1) (fun r => [.box [cl af r.2]]) :=
  rF 1 14 [4] Tryz.f175 fun r => (uP (xx _ _) fun r1 _ => (uR .ret sk))
def iE (z2 : List ac) : Option (Int × (List ac)) := some ((-1 : Int), z2)
def bu (p1 : (List Int)) : Nat → List ac → Int → Option (Int × (List ac))
 | 0, _, _ => none
 | k1 + 1, z1, x1 => al (decide (x1 < (p1.length : Int))) (aw (at? p1 x1) fun e1 => aw (Ar e1 z1) fun r1 => al r1.1 (some (x1, r1.2)) ((bu p1 k1) r1.2 (IntKind.i64.wrap (x1 + 1)))) (iE z1)
def fw (p1 : (List Int)) (p2 : (List ac)) : Option (Int × (List ac)) := bu p1 aX p2 (0 : Int)
theorem nG (p1 : (List Int)) (p2 : (List ac)) : CM Tryz.prog 206 [vl eI p1, .one (.fn 175 [.pt 0 0 0 0])] [.box [cl af p2]] (fw p1 p2) (fun r => vi r.1) (fun r => [.box [cl af r.2]]) :=
  rF 1 19 [] Tryz.f206 fun r => (bL Tryz.f206 6 1 fun K k => have J1 : ∀ {z2}, iE z2 = some r → K.p [] [.box [cl af z2]] := fun {z2} h => k h (uR .ret sk); (uN eI p1 (gE Tryz.f206 26 1 fun R b => have hL1 : ∀ k1 {z1 x1}, bu p1 k1 z1 x1 = some r → (R k1).p [(0, vl eI p1), (1, .one (.fn 175 [.pt 0 0 0 0])), (7, vi p1.length), (8, vi x1)] [.box [cl af z1]] := uI (gr rfl) fun k1 ih1 {z1 x1} h => b h (uU (bu.eq_2 ..) (uC (uL eI fun e1 a10 => (zW true [0] (zFS _ _) fun r1 _ => (uC (uR .ret (xN (xN sk))) (uJ ih1)))) (uR (.exit 0) (xM (uJ J1))))); uE (hL1 aX))))
def cz (p1 : (List Int)) (p2 : (List ac)) : Option (Bool × (List ac)) := aw (fw p1 p2) fun r1 => some ((decide ((0 : Int) ≤ r1.1)), r1.2)
theorem mC (p1 : (List Int)) (p2 : (List ac)) : CM Tryz.prog 176 [vl eI p1, .one (.fn 175 [.pt 0 0 0 0])] [.box [cl af p2]] (cz p1 p2) (fun r => vb r.1) (fun r => [.box [cl af r.2]]) :=
  rF 1 9 [] Tryz.f176 fun r => (zW true [0] (nG _ _) fun r1 _ => (uR .ret sk))
def lz (p1 p2 : (List ae)) : Option Int := aw (az aX p1 p2) fun r1 => some r1
theorem tD (p1 p2 : (List ae)) : CT Tryz.prog 94 [vl am p1, vl am p2] (lz p1 p2) vi :=
  dT 8 [] Tryz.f94 fun r => (uP (cG aX _ _) fun r1 _ => uz)
def sY (rec1 : Int → Option Int) (x3 : Int) (x5 : Bool) : Option Int := al x5 (some (1 : Int)) (rec1 (IntKind.i64.wrap (x3 + 1)))
def vI (rec1 : Int → Option Int) (p2 : aD) (p3 : Bool) (x3 : Int) (e2 : (List ae)) : Option Int := al p3 (al (decide ((0 : Int) < x3)) (aw (at? p2.keys (IntKind.i64.wrap (x3 - 1))) fun e5 => aw (lz e5 e2) fun r6 => sY rec1 x3 (decide ((0 : Int) ≤ r6))) (sY rec1 x3 false)) (sY rec1 x3 false)
def oi (rec1 : Int → Option Int) (p2 : aD) (p3 : Bool) (z1 : List ac) (x3 : Int) (e2 : (List ae)) : Nat → Int → Option Int
 | 0, _ => none
 | k2 + 1, x4 => al (decide (x4 < (e2.length : Int))) (aw (at? e2 x4) fun e3 => aw (at? p2.ids x4) fun e4 => aw (pk z1 e4) fun r4 => aw (jj r4.1 e3) fun r5 => al (r5 != 0) (some r5) ((oi rec1 p2 p3 z1 x3 e2 k2) (IntKind.i64.wrap (x4 + 1)))) (vI rec1 p2 p3 x3 e2)
def Cu : Option Int := some (0 : Int)
def gL (p2 : aD) (p3 : Bool) (z1 : List ac) : Nat → Int → Option Int
 | 0, _ => none
 | k1 + 1, x3 => al (decide (x3 < (p2.keys.length : Int))) (aw (at? p2.keys x3) fun e2 => al ((e2.length : Int) != (p2.ids.length : Int)) (some (1 : Int)) (oi (gL p2 p3 z1 k1) p2 p3 z1 x3 e2 aX (0 : Int))) (Cu)
def ol (p2 : aD) (p3 : Bool) (z1 : List ac) (x2 : Bool) : Option Int := al x2 (some (9 : Int)) (aw (oP p2.ids) fun r3 => al (!r3) (some (1 : Int)) (al (decide ((200 : Int) < (p2.keys.length : Int))) (some (7 : Int)) (al ((p2.keys.length : Int) == 0) (some (9 : Int)) (gL p2 p3 z1 aX (0 : Int)))))
def sP (p1 : ax) (p2 : aD) (p3 x1 : Bool) : Option Int := al x1 (some (3 : Int)) (aw (at? p1.schemas p2.schema) fun e1 => al ((p2.ids.length : Int) == 0) (ol p2 p3 e1 true) (aw (cz p2.ids e1) fun r2 => ol p2 p3 r2.2 r2.1))
def Bd (p1 : ax) (p2 : aD) (p3 : Bool) : Option Int := aw (dt p2.schema (0 : Int) (IntKind.i64.wrap ((p1.schemas.length : Int) - (1 : Int)))) fun r1 => al (!r1) (sP p1 p2 p3 true) (sP p1 p2 p3 (decide (p2.seq < (1 : Int))))
abbrev Cc (p2 : aD) : List PV := [pi p2.schema, .ro (eI.els p2.ids), .ro ((eL am).els p2.keys), pi p2.seq]
theorem Im (p1 : ax) (p2 : aD) (p3 : Bool) : CT Tryz.prog 130 [mM p1, mD p2, vb p3] (Bd p1 p2 p3) vi :=
  dT 117 [7, 12, 13] Tryz.f130 fun r => (bL Tryz.f130 12 2 fun K k => have J1 : ∀ {x1}, sP p1 p2 p3 x1 = some r → K.p [(2, vb p3), (3, vR [.ro ((eL af).els p1.schemas), .ro (fR.els p1.specs), pi p1.nextField, pi p1.nextSeq, pi p1.nextSnap, pi p1.purges, .ro (aW.els p1.snapshots), .ro (nI.els p1.refs), .ro (kU.els p1.props)]), (4, vR (Cc p2)), (28, vb x1)] [] := fun {x1} h => k h (uC uz (uL (eL af) fun e1 a9 => (bL Tryz.f130 248 3 fun K k => have J2 : ∀ {z1 x2}, ol p2 p3 z1 x2 = some r → K.p [(2, vb p3), (4, vR (Cc p2)), (7, .one (.pt 0 0 0 0)), (36, vb x2)] [.box [cl af z1]] := fun {z1 x2} h => k h (uC uz (uP (um _) fun r3 _ => (uC uz (uN (eL am) p2.keys (uC uz (uN (eL am) p2.keys (uC uz (bL Tryz.f130 126 1 fun K k => have J5 : Cu = some r → K.p [] [.dead] := fun h => k h uz; (uN (eL am) p2.keys (gE Tryz.f130 506 1 fun R b => have hL1 : ∀ k1 {x3}, gL p2 p3 z1 k1 x3 = some r → (R k1).p [(2, vb p3), (4, vR (Cc p2)), (7, .one (.pt 0 0 0 0)), (63, vl (eL am) p2.keys), (64, vi p2.keys.length), (65, vi x3)] [.box [cl af z1]] := uI (gr rfl) fun k1 ih1 {x3} h => b h (uU (gL.eq_2 ..) (uC (uL (eL am) fun e2 a34 => (uN am e2 (uN eI p2.ids (uC iU (bL Tryz.f130 129638 3 fun K k => have J3 : vI (gL p2 p3 z1 k1) p2 p3 x3 e2 = some r → K.p [(2, vb p3), (4, vR (Cc p2)), (7, .one (.pt 0 0 0 0)), (9, vi x3), (10, vl am e2), (63, vl (eL am) p2.keys), (64, vi p2.keys.length), (65, vi x3)] [.box [cl af z1]] := fun h => k h (bL Tryz.f130 259278 3 fun K k => have J4 : ∀ {x5}, sY (gL p2 p3 z1 k1) x3 x5 = some r → K.p [(2, vb p3), (4, vR (Cc p2)), (7, .one (.pt 0 0 0 0)), (63, vl (eL am) p2.keys), (64, vi p2.keys.length), (65, vi x3), (115, vb x5)] [.box [cl af z1]] := fun {x5} h => k h (uC iU (uJ ih1)); (uC (uC (uL (eL am) fun e5 a58 => (uP (tD _ _) fun r6 _ => (uJ J4))) (uJ J4)) (uJ J4))); (uN am e2 (gE Tryz.f130 518554 1 fun R b => have hL2 : ∀ k2 {x4}, oi (gL p2 p3 z1 k1) p2 p3 z1 x3 e2 k2 x4 = some r → (R k2).p [(2, vb p3), (4, vR (Cc p2)), (7, .one (.pt 0 0 0 0)), (9, vi x3), (10, vl am e2), (63, vl (eL am) p2.keys), (64, vi p2.keys.length), (65, vi x3), (76, vl am e2), (77, vi e2.length), (78, vi x4)] [.box [cl af z1]] := uI (gr rfl) fun k2 ih2 {x4} h => b h (uU (oi.eq_2 ..) (uC (uL am fun e3 a46 => (Hq 12 1 [2,3] (uL eI fun e4 a48 => (uP (xx _ _) fun r4 _ => (uP (rZ _ _) fun r5 _ => (uC (uR .ret (xN (xN (xN (xN xF))))) (uJ ih2))))))) (uR (.exit 3) (xM (uJ J3))))); uE (hL2 aX)))))))) (uR (.exit 1) (xM (uJ J5))))); uE (hL1 aX))))))))))); (uN eI p2.ids (uC (uJ J2) (zW true [0] (mC _ _) fun r2 _ => (uJ J2))))))); (uN (eL af) p1.schemas (uP (dp _ _ _) fun r1 _ => (uC (uJ J1) (uJ J1)))))
def tj (p1 : ah) (p2 : Int) (p3 : (List Int)) (p4 : (List (List ae))) (p5 : Int) : Option Bool := some (decide (p1.seq < p5))
theorem Bw (p1 : ah) (p2 : Int) (p3 : (List Int)) (p4 : (List (List ae))) (p5 : Int) : CT Tryz.prog 178 [mF p1, vR [pi p2, .ro (eI.els p3), .ro ((eL am).els p4), pi p5]] (tj p1 p2 p3 p4 p5) vb :=
  dT 9 [] Tryz.f178 fun r => uz
def dR : Option Int := some (-1 : Int)
def aT (p1 : (List ah)) (p2 : Int) (p3 : (List Int)) (p4 : (List (List ae))) (p5 : Int) : Nat → Int → Option Int
 | 0, _ => none
 | k1 + 1, x1 => al (decide (x1 < (p1.length : Int))) (aw (at? p1 x1) fun e1 => aw (tj e1 p2 p3 p4 p5) fun r1 => al r1 (some x1) ((aT p1 p2 p3 p4 p5 k1) (IntKind.i64.wrap (x1 + 1)))) (dR)
def cF (p1 : (List ah)) (p2 : Int) (p3 : (List Int)) (p4 : (List (List ae))) (p5 : Int) : Option Int := aT p1 p2 p3 p4 p5 aX (0 : Int)
theorem iC (p1 : (List ah)) (p2 : Int) (p3 : (List Int)) (p4 : (List (List ae))) (p5 : Int) : CT Tryz.prog 207 [vl aF p1, .one (.fn 178 [.pv (.rp [[pi p2, .ro (eI.els p3), .ro ((eL am).els p4), pi p5]] 0 0)])] (cF p1 p2 p3 p4 p5) vi :=
  dT 19 [] Tryz.f207 fun r => (bL Tryz.f207 6 1 fun K k => have J1 : dR = some r → K.p [] [] := fun h => k h uz; (uN aF p1 (gE Tryz.f207 26 1 fun R b => have hL1 : ∀ k1 {x1}, aT p1 p2 p3 p4 p5 k1 x1 = some r → (R k1).p [(0, vl aF p1), (1, .one (.fn 178 [.pv (.rp [[pi p2, .ro (eI.els p3), .ro ((eL am).els p4), pi p5]] 0 0)])), (7, vi p1.length), (8, vi x1)] [] := uI (gr rfl) fun k1 ih1 {x1} h => b h (uU (aT.eq_2 ..) (uC (uL aF fun e1 a10 => (uP (Bw _ _ _ _ _) fun r1 _ => (uC iU (uJ ih1)))) (uR (.exit 0) (xM (uJ J1))))); uE (hL1 aX))))
def cr (p1 : (List ah)) (p2 : Int) (p3 : (List Int)) (p4 : (List (List ae))) (p5 : Int) : Option Bool := aw (cF p1 p2 p3 p4 p5) fun r1 => some (decide ((0 : Int) ≤ r1))
theorem gU (p1 : (List ah)) (p2 : Int) (p3 : (List Int)) (p4 : (List (List ae))) (p5 : Int) : CT Tryz.prog 177 [vl aF p1, .one (.fn 178 [.pv (.rp [[pi p2, .ro (eI.els p3), .ro ((eL am).els p4), pi p5]] 0 0)])] (cr p1 p2 p3 p4 p5) vb :=
  dT 9 [] Tryz.f177 fun r => (uP (iC _ _ _ _ _) fun r1 _ => uz)
def sW (p1 : (List ah)) (p2 : aD) : Option Bool := aw (cr p1 p2.schema p2.ids p2.keys p2.seq) fun r1 => some r1
theorem zI (p1 : (List ah)) (p2 : aD) : CT Tryz.prog 131 [vl aF p1, mD p2] (sW p1 p2) vb :=
  dT 8 [] Tryz.f131 fun r => (uP (gU _ _ _ _ _) fun r1 _ => uz)
def oL (rec1 : Int → Option Int) (x1 : Int) (x3 : Bool) : Option Int := al x3 (some (3 : Int)) (rec1 (IntKind.i64.wrap (x1 + 1)))
def mq (rec1 : Int → Option Int) (x1 : Int) (e1 : eT) (r1 : (ah × Bool)) (x2 : Bool) : Option Int := al x2 (some (1 : Int)) (aw (at? e1.rows (0 : Int)) fun e3 => al (decide (e3 < (0 : Int))) (oL rec1 x1 true) (aw (at? e1.rows (IntKind.i64.wrap ((e1.rows.length : Int) - (1 : Int)))) fun e4 => oL rec1 x1 (decide (r1.1.rows ≤ e4))))
def mt (rec2 : Int → Option Int) (x4 : Int) (x5 : Bool) : Option Int := al x5 (some (1 : Int)) (rec2 (IntKind.i64.wrap (x4 + 1)))
def wI : Option Int := some (0 : Int)
def eU (p1 : ax) (p2 : aj) : Nat → Int → Option Int
 | 0, _ => none
 | k2 + 1, x4 => al (decide (x4 < (p2.dby.length : Int))) (aw (at? p2.dby x4) fun e5 => aw (Bd p1 e5 true) fun r4 => al (r4 != 0) (some r4) (al (decide (p2.seq < e5.seq)) (some (3 : Int)) (al (decide ((0 : Int) < x4)) (aw (at? p2.dby (IntKind.i64.wrap (x4 - 1))) fun e6 => al (decide (e5.seq < e6.seq)) (mt (eU p1 p2 k2) x4 true) (aw (sW p2.files e5) fun r5 => mt (eU p1 p2 k2) x4 (!r5))) (aw (sW p2.files e5) fun r6 => mt (eU p1 p2 k2) x4 (!r6))))) (wI)
def mi (p1 : ax) (p2 : aj) : Option Int := eU p1 p2 aX (0 : Int)
def cR (p1 : ax) (p2 : aj) : Nat → Int → Option Int
 | 0, _ => none
 | k1 + 1, x1 => al (decide (x1 < (p2.dat.length : Int))) (aw (at? p2.dat x1) fun e1 => aw (rE p2 e1.file) fun r1 => al (!r1.2) (some (9 : Int)) (al (decide ((0 : Int) < x1)) (aw (at? p2.dat (IntKind.i64.wrap (x1 - 1))) fun e2 => aw (some (Op.bytesLess e1.file.toList e2.file.toList || e1.file.toList == e2.file.toList)) fun y1 => al y1 (mq (cR p1 p2 k1) x1 e1 r1 true) (aw (oP e1.rows) fun r2 => mq (cR p1 p2 k1) x1 e1 r1 (!r2))) (aw (oP e1.rows) fun r3 => mq (cR p1 p2 k1) x1 e1 r1 (!r3)))) (mi p1 p2)
def pI (p1 : ax) (p2 : aj) : Option Int := cR p1 p2 aX (0 : Int)
theorem CP (p1 : ax) (p2 : aj) : CT Tryz.prog 84 [mM p1, mS p2] (pI p1 p2) vi :=
  dT 114 [6, 7, 10] Tryz.f84 fun r => (bL Tryz.f84 6 1 fun K k => have J3 : mi p1 p2 = some r → K.p [(2, vR (b9 p1)), (3, vR (jF p2))] [] := fun h => k h (bL Tryz.f84 14 1 fun K k => have J5 : wI = some r → K.p [] [] := fun h => k h uz; (uN bp p2.dby (gE Tryz.f84 58 1 fun R b => have hL2 : ∀ k2 {x4}, eU p1 p2 k2 x4 = some r → (R k2).p [(2, vR (b9 p1)), (3, vR (jF p2)), (72, vl bp p2.dby), (73, vi p2.dby.length), (74, vi x4)] [] := uI (gr rfl) fun k2 ih2 {x4} h => b h (uU (eU.eq_2 ..) (uC (uL bp fun e5 a37 => (uP (Im _ _ _) fun r4 _ => (uC iU (uC iU (bL Tryz.f84 119606 4 fun K k => have J4 : ∀ {x5}, mt (eU p1 p2 k2) x4 x5 = some r → K.p [(2, vR (b9 p1)), (3, vR (jF p2)), (72, vl bp p2.dby), (73, vi p2.dby.length), (74, vi x4), (91, vb x5)] [.dead] := fun {x5} h => k h (uC iU (uJ ih2)); (oS 18 (uC (uL bp fun e6 a49 => (uC (uJ J4) (uP (zI _ _) fun r5 _ => (uJ J4)))) (uP (zI _ _) fun r6 _ => (uJ J4))))))))) (uR (.exit 3) (xM (uJ J5))))); uE (hL2 aX)))); (uN cw p2.dat (gE Tryz.f84 26 1 fun R b => have hL1 : ∀ k1 {x1}, cR p1 p2 k1 x1 = some r → (R k1).p [(2, vR (b9 p1)), (3, vR (jF p2)), (13, vl cw p2.dat), (14, vi p2.dat.length), (15, vi x1)] [] := uI (gr rfl) fun k1 ih1 {x1} h => b h (uU (cR.eq_2 ..) (uC (uL cw fun e1 a9 => (uP (xo _ _) fun r1 _ => (uC iU (bL Tryz.f84 54070 4 fun K k => have J1 : ∀ {x2}, mq (cR p1 p2 k1) x1 e1 r1 x2 = some r → K.p [(2, vR (b9 p1)), (3, vR (jF p2)), (6, .one (.pt 0 0 0 0)), (7, .one (.pt 1 0 0 0)), (13, vl cw p2.dat), (14, vi p2.dat.length), (15, vi x1), (30, vb x2)] [.box [xz e1.file, cl eI e1.rows], .box [xz r1.1.name, ci r1.1.schema, ci r1.1.spec, cl am r1.1.part, ci r1.1.rows, ci r1.1.seq, cl dJ r1.1.stats]] := fun {x2} h => k h (uC iU (bL Tryz.f84 216286 4 fun K k => have J2 : ∀ {x3}, oL (cR p1 p2 k1) x1 x3 = some r → K.p [(2, vR (b9 p1)), (3, vR (jF p2)), (13, vl cw p2.dat), (14, vi p2.dat.length), (15, vi x1), (51, vb x3)] [.dead, .dead] := fun {x3} h => k h (uC iU (uJ ih1)); (oS 16 (uL eI fun e3 a25 => (uC (uJ J2) (uN eI e1.rows (uL eI fun e4 a27 => (uJ J2)))))))); (oS 12 (uC (uL cw fun e2 a17 => (uY 43 vb fun y1 => (uC (uJ J1) (uP (um _) fun r2 _ => (uJ J1))))) (uP (um _) fun r3 _ => (uJ J1)))))))) (uR (.exit 0) (xM (uJ J3))))); uE (hL1 aX))))
def kx (rec1 : Int → Option Int) (p1 : ax) (x1 : Int) (e1 : aj) (x5 : Bool) : Option Int := al x5 (some (5 : Int)) (aw (sK p1 e1) fun r7 => al (r7 != 0) (some r7) (aw (pI p1 e1) fun r8 => al (r8 != 0) (some r8) (rec1 (IntKind.i64.wrap (x1 + 1)))))
def gF (rec1 : Int → Option Int) (p1 : ax) (x1 : Int) (e1 : aj) (x4 : Bool) : Option Int := al x4 (some (3 : Int)) (al (decide ((0 : Int) < x1)) (aw (at? p1.snapshots (IntKind.i64.wrap (x1 - 1))) fun e2 => al (decide (e1.id ≤ e2.id)) (kx rec1 p1 x1 e1 true) (kx rec1 p1 x1 e1 (decide (e1.seq ≤ e2.seq)))) (kx rec1 p1 x1 e1 false))
def mI (rec1 : Int → Option Int) (p1 : ax) (x1 : Int) (e1 : aj) (x3 : Bool) : Option Int := al x3 (gF rec1 p1 x1 e1 x3) (aw (dt e1.kind (1 : Int) (3 : Int)) fun r6 => gF rec1 p1 x1 e1 (!r6))
def iZ (rec1 : Int → Option Int) (p1 : ax) (x1 : Int) (e1 : aj) (x2 : Bool) : Option Int := al x2 (gF rec1 p1 x1 e1 x2) (aw (dt e1.schema (0 : Int) (IntKind.i64.wrap ((p1.schemas.length : Int) - (1 : Int)))) fun r4 => al (!r4) (mI rec1 p1 x1 e1 true) (aw (dt e1.time (-62135596800 : Int) (253402300799 : Int)) fun r5 => mI rec1 p1 x1 e1 (!r5)))
def ue : Option Int := some (0 : Int)
def bP (p1 : ax) : Nat → Int → Option Int
 | 0, _ => none
 | k1 + 1, x1 => al (decide (x1 < (p1.snapshots.length : Int))) (aw (at? p1.snapshots x1) fun e1 => aw (dt e1.id (1 : Int) (IntKind.i64.wrap (p1.nextSnap - 1))) fun r1 => al (!r1) (iZ (bP p1 k1) p1 x1 e1 true) (aw (dt e1.parent (0 : Int) (IntKind.i64.wrap (e1.id - 1))) fun r2 => al (!r2) (iZ (bP p1 k1) p1 x1 e1 true) (aw (dt e1.seq (1 : Int) (IntKind.i64.wrap (p1.nextSeq - 1))) fun r3 => iZ (bP p1 k1) p1 x1 e1 (!r3)))) (ue)
def pK (p1 : ax) : Option Int := bP p1 aX (0 : Int)
abbrev wo (e1 : aj) : List CV := [ci e1.id, ci e1.parent, ci e1.seq, ci e1.schema, ci e1.time, ci e1.kind, cl aF e1.files, cl cw e1.dat, cl bp e1.dby]
theorem AR (p1 : ax) : CT Tryz.prog 36 [mM p1] (pK p1) vi :=
  dT 99 [4] Tryz.f36 fun r => (bL Tryz.f36 6 1 fun K k => have J5 : ue = some r → K.p [] [] := fun h => k h uz; (uN aW p1.snapshots (gE Tryz.f36 26 1 fun R b => have hL1 : ∀ k1 {x1}, bP p1 k1 x1 = some r → (R k1).p [(1, vR (b9 p1)), (8, vl aW p1.snapshots), (9, vi p1.snapshots.length), (10, vi x1)] [] := uI (gr rfl) fun k1 ih1 {x1} h => b h (uU (bP.eq_2 ..) (uC (uL aW fun e1 a9 => (bL Tryz.f36 13512 5 fun K k => have J3 : ∀ {x4}, gF (bP p1 k1) p1 x1 e1 x4 = some r → K.p [(1, vR (b9 p1)), (3, vi x1), (4, .one (.pt 0 0 0 0)), (8, vl aW p1.snapshots), (9, vi p1.snapshots.length), (10, vi x1), (15, vb x4)] [.box (wo e1)] := fun {x4} h => k h (uC iU (bL Tryz.f36 54054 5 fun K k => have J4 : ∀ {x5}, kx (bP p1 k1) p1 x1 e1 x5 = some r → K.p [(1, vR (b9 p1)), (4, .one (.pt 0 0 0 0)), (8, vl aW p1.snapshots), (9, vi p1.snapshots.length), (10, vi x1), (59, vb x5)] [.box (wo e1)] := fun {x5} h => k h (uC iU (uP (Et _ _) fun r7 _ => (uC iU (uP (CP _ _) fun r8 _ => (uC iU (uJ ih1)))))); (oS 23 (uC (uL aW fun e2 a29 => (uC (uJ J4) (uM aW a29 (uJ J4)))) (uJ J4))))); (bL Tryz.f36 27024 1 fun K k => have J1 : ∀ {x2}, iZ (bP p1 k1) p1 x1 e1 x2 = some r → K.p [(1, vR (b9 p1)), (3, vi x1), (4, .one (.pt 0 0 0 0)), (8, vl aW p1.snapshots), (9, vi p1.snapshots.length), (10, vi x1), (15, vb x2)] [.box (wo e1)] := fun {x2} h => k h (uC (uJ J3) (bL Tryz.f36 108102 1 fun K k => have J2 : ∀ {x3}, mI (bP p1 k1) p1 x1 e1 x3 = some r → K.p [(1, vR (b9 p1)), (3, vi x1), (4, .one (.pt 0 0 0 0)), (8, vl aW p1.snapshots), (9, vi p1.snapshots.length), (10, vi x1), (15, vb x3)] [.box (wo e1)] := fun {x3} h => k h (uC (uJ J3) (uP (dp _ _ _) fun r6 _ => (uJ J3))); (uN (eL af) p1.schemas (uP (dp _ _ _) fun r4 _ => (uC (uJ J2) (uP (dp _ _ _) fun r5 _ => (uJ J2))))))); (uP (dp _ _ _) fun r1 _ => (uC (uJ J1) (uP (dp _ _ _) fun r2 _ => (uC (uJ J1) (uP (dp _ _ _) fun r3 _ => (uJ J1))))))))) (uR (.exit 0) (xM (uJ J5))))); uE (hL1 aX))))
def kl (p1 p2 : ae) : Option Bool := aw (eR aX p1 p2) fun r1 => some (r1 == 0)
theorem qe (p1 p2 : ae) : CT Tryz.prog 132 [mV p1, mV p2] (kl p1 p2) vb :=
  dT 9 [] Tryz.f132 fun r => (uP (tn aX _ _) fun r1 _ => uz)
def cD : Option Bool := some true
def aA (p1 p2 : (List ae)) : Nat → Int → Option Bool
 | 0, _ => none
 | k1 + 1, x1 => al (decide (x1 < (p1.length : Int))) (aw (at? p1 x1) fun e1 => aw (at? p2 x1) fun e2 => aw (kl e1 e2) fun r1 => al (!r1) (some false) ((aA p1 p2 k1) (IntKind.i64.wrap (x1 + 1)))) (cD)
def bk (p1 p2 : (List ae)) : Option Bool := al ((p1.length : Int) != (p2.length : Int)) (some false) (aA p1 p2 aX (0 : Int))
theorem eY (p1 p2 : (List ae)) : CT Tryz.prog 134 [vl am p1, vl am p2, .one (.pv (.fn 132 []))] (bk p1 p2) vb :=
  dT 32 [8, 9] Tryz.f134 fun r => (uN am p1 (uN am p2 (uC uz (bL Tryz.f134 14 1 fun K k => have J1 : cD = some r → K.p [] [] := fun h => k h uz; (uN am p1 (gE Tryz.f134 58 1 fun R b => have hL1 : ∀ k1 {x1}, aA p1 p2 k1 x1 = some r → (R k1).p [(1, vl am p2), (2, .one (.pv (.fn 132 []))), (15, vl am p1), (16, vi p1.length), (17, vi x1)] [] := uI (gr rfl) fun k1 ih1 {x1} h => b h (uU (aA.eq_2 ..) (uC (uL am fun e1 a13 => (uL am fun e2 a15 => (uP (qe _ _) fun r1 _ => (uC iU (uJ ih1))))) (uR (.exit 0) (xM (uJ J1))))); uE (hL1 aX)))))))
def iA (x1 : Bool) : Option (Bool × Unit) := some (x1, ())
def oO (p1 p2 : eN) : Option (Bool × Unit) := al (p1.id == p2.id) (al (p1.nulls == p2.nulls) (aw (kl p1.min p2.min) fun r1 => al r1 (aw (kl p1.max p2.max) fun r2 => iA r2) (iA false)) (iA false)) (iA false)
theorem Al (p1 p2 : eN) : CM Tryz.prog 136 [mA p1, mA p2, .one (.pt 0 0 0 0)] [.box [.pv (.fn 132 [])]] (oO p1 p2) (fun r => vb r.1) (fun r => [.box [.pv (.fn 132 [])]]) :=
  rF 1 34 [] Tryz.f136 fun r => (bL Tryz.f136 6 1 fun K k => have J1 : ∀ {x1}, iA x1 = some r → K.p [(5, vb x1)] [.box [.pv (.fn 132 [])]] := fun {x1} h => k h (uR .ret sk); (uC (uC (uP (qe _ _) fun r1 _ => (uC (uP (qe _ _) fun r2 _ => (uJ J1)) (uJ J1))) (uJ J1)) (uJ J1)))
def bO : Option (Bool × Unit) := some (true, ())
def aq (p1 p2 : (List eN)) : Nat → Int → Option (Bool × Unit)
 | 0, _ => none
 | k1 + 1, x1 => al (decide (x1 < (p1.length : Int))) (aw (at? p1 x1) fun e1 => aw (at? p2 x1) fun e2 => aw (oO e1 e2) fun r1 => al (!r1.1) (some (false, ())) ((aq p1 p2 k1) (IntKind.i64.wrap (x1 + 1)))) (bO)
def aV (p1 p2 : (List eN)) : Option (Bool × Unit) := al ((p1.length : Int) != (p2.length : Int)) (some (false, ())) (aq p1 p2 aX (0 : Int))
abbrev E7 : St := [.box [.pv (.fn 132 [])]]
theorem dm (p1 p2 : (List eN)) : CM Tryz.prog 135 [vl dJ p1, vl dJ p2, .one (.fn 136 [.pt 0 0 0 0])] E7 (aV p1 p2) (fun r => vb r.1) (fun r => E7) :=
  rF 1 32 [8, 9] Tryz.f135 fun r => (uN dJ p1 (uN dJ p2 (uC (uR .ret sk) (bL Tryz.f135 14 1 fun K k => have J1 : bO = some r → K.p [] E7 := fun h => k h (uR .ret sk); (uN dJ p1 (gE Tryz.f135 58 1 fun R b => have hL1 : ∀ k1 {x1}, aq p1 p2 k1 x1 = some r → (R k1).p [(1, vl dJ p2), (2, .one (.fn 136 [.pt 0 0 0 0])), (15, vl dJ p1), (16, vi p1.length), (17, vi x1)] E7 := uI (gr rfl) fun k1 ih1 {x1} h => b h (uU (aq.eq_2 ..) (uC (uL dJ fun e1 a13 => (uL dJ fun e2 a15 => (zW true [0] (Al _ _) fun r1 _ => (uC (uR .ret (xN (xN sk))) (uJ ih1))))) (uR (.exit 0) (xM (uJ J1))))); uE (hL1 aX)))))))
def gd (x1 : Bool) : Option Bool := some x1
def n5 (p1 p2 : ah) : Option Bool := al (p1.name.toList == p2.name.toList) (al (p1.schema == p2.schema) (al (p1.spec == p2.spec) (al (p1.rows == p2.rows) (aw (bk p1.part p2.part) fun r1 => al r1 (aw (aV p1.stats p2.stats) fun r2 => gd r2.1) (gd false)) (gd false)) (gd false)) (gd false)) (gd false)
theorem B2 (p1 p2 : ah) : CT Tryz.prog 85 [mF p1, mF p2] (n5 p1 p2) vb :=
  dT 48 [5] Tryz.f85 fun r => (bL Tryz.f85 14 1 fun K k => have J1 : ∀ {x1}, gd x1 = some r → K.p [(4, vb x1)] [.dead] := fun {x1} h => k h uz; (uC (uC (uC (uC (uP (eY _ _) fun r1 _ => (uC (zW true [0] (dm _ _) fun r2 _ => (uJ J1)) (uJ J1))) (uJ J1)) (uJ J1)) (uJ J1)) (uJ J1)))
def qO (rec2 : (List (ByteArray × ah)) → Int → Option Int) (z2 : (List (ByteArray × ah))) (x2 : Int) (e2 : ah) (x4 : Bool) : Option Int := al x4 (some (5 : Int)) (rec2 (jq ur z2 e2.name e2) (IntKind.i64.wrap (x2 + 1)))
def vm (rec1 : (List (ByteArray × ah)) → Int → Option Int) (x1 : Int) (z3 : (List (ByteArray × ah))) : Option Int := rec1 z3 (IntKind.i64.wrap (x1 + 1))
def fq (rec1 : (List (ByteArray × ah)) → Int → Option Int) (x1 : Int) (e1 : aj) : Nat → (List (ByteArray × ah)) → Int → Option Int
 | 0, _, _ => none
 | k2 + 1, z2, x2 => al (decide (x2 < (e1.files.length : Int))) (aw (at? e1.files x2) fun e2 => aw (some ((iB ur z2 e2.name).getD (ah.mk ByteArray.empty (0 : Int) (0 : Int) [] (0 : Int) (0 : Int) []))) fun x3 => al ((iB ur z2 e2.name).isSome) (aw (n5 x3 e2) fun r1 => qO (fq rec1 x1 e1 k2) z2 x2 e2 (!r1)) (qO (fq rec1 x1 e1 k2) z2 x2 e2 false)) (vm rec1 x1 z2)
def xV : Option Int := some (0 : Int)
def ed (p1 : ax) : Nat → (List (ByteArray × ah)) → Int → Option Int
 | 0, _, _ => none
 | k1 + 1, z1, x1 => al (decide (x1 < (p1.snapshots.length : Int))) (aw (at? p1.snapshots x1) fun e1 => fq (ed p1 k1) x1 e1 aX z1 (0 : Int)) (xV)
def sI (p1 : ax) : Option Int := ed p1 aX [] (0 : Int)
abbrev LN (p1 : ax) (x1 : Int) : Fr := [(3, .one (.mp 0)), (12, vl aW p1.snapshots), (13, vi (p1.snapshots.length : Int)), (14, vi x1)]
theorem D9 (p1 : ax) : CT Tryz.prog 37 [mM p1] (sI p1) vi :=
  dT 45 [5, 7, 8] Tryz.f37 fun r => (UG ur aF true (bL Tryz.f37 14 1 fun K k => have J3 : xV = some r → K.p [] [.dead] := fun h => k h uz; (uN aW p1.snapshots (gE Tryz.f37 58 1 fun R b => have hL1 : ∀ k1 {z1 x1}, ed p1 k1 z1 x1 = some r → (R k1).p (LN p1 x1) [q8 ur aF true z1] := uI (gr rfl) fun k1 ih1 {z1 x1} h => b h (uU (ed.eq_2 ..) (uC (bL Tryz.f37 934 1 fun K k => have J2 : ∀ {z3}, vm (ed p1 k1) x1 z3 = some r → K.p (LN p1 x1) [q8 ur aF true z3] := fun {z3} h => k h (uJ ih1); (uL aW fun e1 a10 => (uN aF e1.files (gE Tryz.f37 14950 2 fun R b => have hL2 : ∀ k2 {z2 x2}, fq (ed p1 k1) x1 e1 k2 z2 x2 = some r → (R k2).p [(3, .one (.mp 0)), (12, vl aW p1.snapshots), (13, vi p1.snapshots.length), (14, vi x1), (19, vl aF e1.files), (20, vi e1.files.length), (21, vi x2)] [q8 ur aF true z2, .dead] := uI (gr rfl) fun k2 ih2 {z2 x2} h => b h (uU (fq.eq_2 ..) (uC (uL aF fun e2 a17 => (Ue ur aF true 0 (ah.mk ByteArray.empty (0 : Int) (0 : Int) [] (0 : Int) (0 : Int) []) 9 57 true fun x3 _ => (bL Tryz.f37 7654604 4 fun K k => have J1 : ∀ {x4}, qO (fq (ed p1 k1) x1 e1 k2) z2 x2 e2 x4 = some r → K.p [(3, .one (.mp 0)), (7, .one (.pt 2 0 0 0)), (12, vl aW p1.snapshots), (13, vi p1.snapshots.length), (14, vi x1), (19, vl aF e1.files), (20, vi e1.files.length), (21, vi x2), (38, vb x4)] [q8 ur aF true z2, .dead, .box [xz e2.name, ci e2.schema, ci e2.spec, cl am e2.part, ci e2.rows, ci e2.seq, cl dJ e2.stats], .dead] := fun {x4} h => k h (uC (uR .ret (xN (xN (xN (xN xF))))) (Uu ur aF true 0 (m := z2) (k0 := e2.name) (u := e2) 9 (uJ ih2))); (uC (uP (B2 _ _) fun r1 _ => (uJ J1)) (uJ J1))))) (uR (.exit 2) (xM (uJ J2))))); uE (hL2 aX))))) (uR (.exit 0) (xM (uJ J3))))); uE (hL1 aX)))))
def xp (p1 p2 : kN) : Option (Bool × kN) := some ((p1.name.toList == p2.name.toList), p2)
theorem Dr (p1 p2 : kN) : CM Tryz.prog 88 [.ag [xz p1.name, cb p1.branch, ci p1.snapshot], .one (.pt 0 0 0 0)] [.box [xz p2.name, cb p2.branch, ci p2.snapshot]] (xp p1 p2) (fun r => vb r.1) (fun r => [.box [xz r.2.name, cb r.2.branch, ci r.2.snapshot]]) :=
  rF 1 9 [] Tryz.f88 fun r => (uR .ret sk)
def fg (z4 : ByteArray) (z5 : Bool) (z6 : Int) : Option (Int × kN) := some ((-1 : Int), (kN.mk z4 z5 z6))
def aZ (p1 : (List kN)) : Nat → ByteArray → Bool → Int → Int → Option (Int × kN)
 | 0, _, _, _, _ => none
 | k1 + 1, z1, z2, z3, x1 => al (decide (x1 < (p1.length : Int))) (aw (at? p1 x1) fun e1 => aw (xp e1 (kN.mk z1 z2 z3)) fun r1 => al r1.1 (some (x1, r1.2)) ((aZ p1 k1) r1.2.name r1.2.branch r1.2.snapshot (IntKind.i64.wrap (x1 + 1)))) (fg z1 z2 z3)
def dK (p1 : (List kN)) (p2 : kN) : Option (Int × kN) := aZ p1 aX p2.name p2.branch p2.snapshot (0 : Int)
theorem ky (p1 : (List kN)) (p2 : kN) : CM Tryz.prog 139 [vl nI p1, .one (.fn 88 [.pt 0 0 0 0])] [.box [xz p2.name, cb p2.branch, ci p2.snapshot]] (dK p1 p2) (fun r => vi r.1) (fun r => [.box [xz r.2.name, cb r.2.branch, ci r.2.snapshot]]) :=
  rF 1 19 [] Tryz.f139 fun r => (bL Tryz.f139 6 1 fun K k => have J1 : ∀ {z4 z5 z6}, fg z4 z5 z6 = some r → K.p [] [.box [xz z4, cb z5, ci z6]] := fun {z4 z5 z6} h => k h (uR .ret sk); (uN nI p1 (gE Tryz.f139 26 1 fun R b => have hL1 : ∀ k1 {z1 z2 z3 x1}, aZ p1 k1 z1 z2 z3 x1 = some r → (R k1).p [(0, vl nI p1), (1, .one (.fn 88 [.pt 0 0 0 0])), (7, vi p1.length), (8, vi x1)] [.box [xz z1, cb z2, ci z3]] := uI (gr rfl) fun k1 ih1 {z1 z2 z3 x1} h => b h (uU (aZ.eq_2 ..) (uC (uL nI fun e1 a10 => (zW true [0] (Dr _ _) fun r1 _ => (uC (uR .ret (xN (xN sk))) (uJ ih1)))) (uR (.exit 0) (xM (uJ J1))))); uE (hL1 aX))))
def co (p1 : (List kN)) (p2 : kN) : Option (Bool × kN) := aw (dK p1 p2) fun r1 => some ((decide ((0 : Int) ≤ r1.1)), r1.2)
theorem jN (p1 : (List kN)) (p2 : kN) : CM Tryz.prog 87 [vl nI p1, .one (.fn 88 [.pt 0 0 0 0])] [.box [xz p2.name, cb p2.branch, ci p2.snapshot]] (co p1 p2) (fun r => vb r.1) (fun r => [.box [xz r.2.name, cb r.2.branch, ci r.2.snapshot]]) :=
  rF 1 9 [] Tryz.f87 fun r => (zW true [0] (ky _ _) fun r1 _ => (uR .ret sk))
def m7 (p1 : aj) (p2 : Int) : Option Bool := some (p1.id == p2)
theorem yS (p1 : aj) (p2 : Int) : CT Tryz.prog 40 [mS p1, vR [pi p2]] (m7 p1 p2) vb :=
  dT 8 [] Tryz.f40 fun r => uz
def dz : Option Int := some (-1 : Int)
def ak (p1 : (List aj)) (p2 : Int) : Nat → Int → Option Int
 | 0, _ => none
 | k1 + 1, x1 => al (decide (x1 < (p1.length : Int))) (aw (at? p1 x1) fun e1 => aw (m7 e1 p2) fun r1 => al r1 (some x1) ((ak p1 p2 k1) (IntKind.i64.wrap (x1 + 1)))) (dz)
def bK (p1 : (List aj)) (p2 : Int) : Option Int := ak p1 p2 aX (0 : Int)
theorem gR (p1 : (List aj)) (p2 : Int) : CT Tryz.prog 39 [vl aW p1, .one (.fn 40 [.pv (.rp [[pi p2]] 0 0)])] (bK p1 p2) vi :=
  dT 19 [] Tryz.f39 fun r => (bL Tryz.f39 6 1 fun K k => have J1 : dz = some r → K.p [] [] := fun h => k h uz; (uN aW p1 (gE Tryz.f39 26 1 fun R b => have hL1 : ∀ k1 {x1}, ak p1 p2 k1 x1 = some r → (R k1).p [(0, vl aW p1), (1, .one (.fn 40 [.pv (.rp [[pi p2]] 0 0)])), (7, vi p1.length), (8, vi x1)] [] := uI (gr rfl) fun k1 ih1 {x1} h => b h (uU (ak.eq_2 ..) (uC (uL aW fun e1 a10 => (uP (yS _ _) fun r1 _ => (uC iU (uJ ih1)))) (uR (.exit 0) (xM (uJ J1))))); uE (hL1 aX))))
def fp (p1 : ax) (p2 : Int) : Option (aj × Bool) := aw (bK p1.snapshots p2) fun r1 => al (decide (r1 < (0 : Int))) (some ((aj.mk (0 : Int) (0 : Int) (0 : Int) (0 : Int) (0 : Int) (0 : Int) [] [] []), false)) (aw (at? p1.snapshots r1) fun e1 => some (e1, true))
theorem rG (p1 : ax) (p2 : Int) : CT Tryz.prog 15 [mM p1, vi p2] (fp p1 p2) (fun r => .tp [mS r.1, vb r.2]) :=
  dT 19 [4] Tryz.f15 fun r => (uP (gR _ _) fun r1 _ => (uC uz (uL aW fun e1 a9 => uz)))
def pN (p1 : ByteArray) : Option Bool := aw (sQ (ae.mk (4 : Int) (0 : Int) (0 : Int) p1 [])) fun r1 => some r1
theorem vQ (p1 : ByteArray) : CT Tryz.prog 89 [vs p1] (pN p1) vb :=
  dT 6 [] Tryz.f89 fun r => (uP (zM _) fun r1 _ => uz)
end Go.Proofs.YtfnmbpecdjncfaaGreatDoor
