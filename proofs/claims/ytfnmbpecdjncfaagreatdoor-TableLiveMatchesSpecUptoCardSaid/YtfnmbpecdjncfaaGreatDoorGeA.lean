/- The shelf's contract of utf8.ValidString, laid at this program. Searching a byte in a text and comparing texts: by the contracts of the shelf. Printed by a program: what the functions compute, and the proofs of their contracts. Printed by a program: what the functions compute, and the proofs of their contracts. -/
import Derived.Test.YtfnmbpecdjncfaaGreatDoorProg
import Derived.Shelf.Small.Strs
import Derived.Test.YtfnmbpecdjncfaaGreatDoorChecked
import Derived.Test.YtfnmbpecdjncfaaGreatDoorSxC
set_option linter.unusedVariables false
set_option linter.unusedSimpArgs false
set_option linter.unnecessarySimpa false
namespace Go.Proofs.YtfnmbpecdjncfaaGreatDoor
open Go Go.SX Go.Shelf Go.Lib
def Rp : Ren where
 f := fun n => if n = 196 then 235 else if n = 259 then 245 else n
 t := fun n => if n = 0 then 0 else if n = 3 then 3 else if n = 4 then 4 else if n = 5 then 5 else if n = 9 then 9 else if n = 12 then 12 else if n = 46 then 130 else if n = 53 then 197 else if n = 119 then 236 else if n = 138 then 238 else if n = 139 then 239 else n
 g := fun n => if n = 3 then 1 else if n = 4 then 2 else n
set_option maxRecDepth 100000 in
theorem NQ : Lays.n196 Tryz.prog Rp where
 mixed := by kernel_rfl
 f196 := by kernel_rfl
 f259 := by kernel_rfl
 t0 := by kernel_rfl
 a0 := fun w => by kernel_rfl
 z0 := fun w => by kernel_rfl
 v0 := fun w => by kernel_rfl
 t3 := by kernel_rfl
 a3 := fun w => by kernel_rfl
 z3 := fun w => by kernel_rfl
 v3 := fun w => by kernel_rfl
 t4 := by kernel_rfl
 a4 := fun w => by kernel_rfl
 z4 := fun w => by kernel_rfl
 v4 := fun w => by kernel_rfl
 t5 := by kernel_rfl
 a5 := fun w => by kernel_rfl
 z5 := fun w => by kernel_rfl
 v5 := fun w => by kernel_rfl
 t9 := by kernel_rfl
 a9 := fun w => by kernel_rfl
 z9 := fun w => by kernel_rfl
 v9 := fun w => by kernel_rfl
 t12 := by kernel_rfl
 a12 := fun w => by kernel_rfl
 z12 := fun w => by kernel_rfl
 v12 := fun w => by kernel_rfl
 t46 := by kernel_rfl
 a46 := fun w => by kernel_rfl
 z46 := fun w => by kernel_rfl
 v46 := fun w => by kernel_rfl
 t53 := by kernel_rfl
 a53 := fun w => by kernel_rfl
 z53 := fun w => by kernel_rfl
 v53 := fun w => by kernel_rfl
 t119 := by kernel_rfl
 a119 := fun w => by kernel_rfl
 z119 := fun w => by kernel_rfl
 t138 := by kernel_rfl
 a138 := fun w => by kernel_rfl
 z138 := fun w => by kernel_rfl
 v138 := fun w => by kernel_rfl
 t139 := by kernel_rfl
 a139 := fun w => by kernel_rfl
 z139 := fun w => by kernel_rfl
 v139 := fun w => by kernel_rfl
 g3 := by kernel_rfl
 g4 := by kernel_rfl
def utf8_ValidString (p1 : ByteArray) : Option Bool := pn (p1.size ≤ 9223372036854775807) <| some (validD p1.data.toList)
theorem wl (p1 : ByteArray) (r : Bool) (h : utf8_ValidString p1 = some r) : PC Tryz.prog 235 [vs p1] (vb r) := by
 unfold utf8_ValidString at h
 obtain ⟨g1, h⟩ := rq h
 obtain rfl := Option.some.inj h
 exact Eo NQ (by kernel_rfl) (by kernel_rfl) p1 g1
end Go.Proofs.YtfnmbpecdjncfaaGreatDoor
namespace Go.Proofs.YtfnmbpecdjncfaaGreatDoor
open Go Go.SX Go.Shelf Go.Lib Go.Proofs Go.RowKit
def WE : Ren where
 f := fun n => if n = 106 then 43 else if n = 137 then 222 else if n = 213 then 90 else if n = 217 then 242 else if n = 265 then 140 else if n = 266 then 255 else n
 t := fun n => if n = 3 then 3 else if n = 5 then 5 else if n = 9 then 9 else n
 g := fun n => n
set_option maxRecDepth 100000 in
theorem VX : Lays.n137 Tryz.prog WE := by constructor <;> intros <;> kernel_rfl
set_option maxRecDepth 100000 in
theorem Wq : Lays.n106 Tryz.prog WE := by constructor <;> intros <;> kernel_rfl
def strings_IndexByte (p1 : ByteArray) (p2 : Int) : Option Int := some (Lib.indexByte p1.data.toList p2.toNat.toUInt8)
theorem ue (p1 : ByteArray) (p2 : Int) : CT Tryz.prog 222 [vs p1, vk .u8 p2] (strings_IndexByte p1 p2) vi := by
 intro r h
 obtain rfl := Option.some.inj h
 exact PC.below (us := [.string p1, .int .u8 p2]) rfl fun w _ => (Any.strings_IndexByte VX p1 p2 w).mono (by rintro e w' ⟨rfl, rfl⟩; exact ⟨rfl, .refl _ _⟩)
def strings_Compare (p1 p2 : ByteArray) : Option Int := some (Lib.compareBytes p1.data.toList p2.data.toList)
theorem BN (p1 p2 : ByteArray) : CT Tryz.prog 43 [vs p1, vs p2] (strings_Compare p1 p2) vi := by
 intro r h
 obtain rfl := Option.some.inj h
 exact PC.below (us := [.string p1, .string p2]) rfl fun w _ => (Any.strings_Compare Wq p1 p2 w).mono (by rintro e w' ⟨rfl, rfl⟩; exact ⟨rfl, .refl _ _⟩)
end Go.Proofs.YtfnmbpecdjncfaaGreatDoor
namespace Go.Proofs.YtfnmbpecdjncfaaGreatDoor
open Go.SX Go Tryz
open Go.IntKind (i64)
set_option maxRecDepth 100000
set_option maxHeartbeats 8000000
abbrev OI := Option Int
abbrev OB := Option Bool
abbrev mM (x : aw) : AV := .ag [cl (eL af) x.schemas, cl em x.specs, ci x.nextField, ci x.nextSeq, ci x.nextSnap, ci x.purges, cl aM x.snapshots, cl lg x.refs, cl ic x.props]
abbrev mS (x : al) : AV := .ag [ci x.id, ci x.parent, ci x.seq, ci x.schema, ci x.time, ci x.kind, cl aY x.files, cl cM x.dat, cl b9 x.dby]
abbrev mV (x : ac) : AV := .ag [ci x.kind, ci x.n, ci x.scale, vp x.s, cl ah x.items]
abbrev mT (x : am) : AV := .ag [ci x.kind, ci x.scale, cl af x.fields]
abbrev mF (x : aj) : AV := .ag [vp x.name, ci x.schema, ci x.spec, cl ah x.part, ci x.rows, ci x.seq, cl dP x.stats]
abbrev mf (x : ae) : AV := .ag [ci x.id, vp x.name, cb x.need, ci x.type.kind, ci x.type.scale, cl af x.type.fields]
abbrev mD (x : bc) : AV := .ag [ci x.schema, cl eI x.ids, cl (eL ah) x.keys, ci x.seq]
abbrev mW (x : bW) : AV := .ag [cb x.neg, ck .u64 x.size.1, ck .u64 x.size.2.1, ck .u64 x.size.2.2.1, ck .u64 x.size.2.2.2]
abbrev mA (x : eM) : AV := .ag [ci x.id, ci x.nulls, ci x.min.kind, ci x.min.n, ci x.min.scale, vp x.min.s, cl ah x.min.items, ci x.max.kind, ci x.max.n, ci x.max.scale, vp x.max.s, cl ah x.max.items]
def nO (rec1 : Int → Bool → Int → OI) (x2 x4 : Int) (e1 : al) (x5 : Bool) : OI := au (some (i64.wrap (x2 + (i64.wrap ((e1.files.length : Int) + (e1.dby.length : Int)))))) fun y1 => rec1 y1 x5 (i64.wrap (x4 + 1))
def qq (x8 : Bool) : OI := ak x8 (some 7) (some 0)
def tZ (x6 : Int) (x7 : Bool) : OI := ak x7 (qq true) (qq (decide (4000 < x6)))
def fI (p1 : aw) : Nat → Int → Bool → Int → OI
 | 0, _, _, _ => none
 | k1 + 1, x2, x3, x4 => ak (decide (x4 < (p1.snapshots.length : Int))) (au (at? p1.snapshots x4) fun e1 => ak x3 (nO (fI p1 k1) x2 x4 e1 true) (ak (decide (400 < (e1.files.length : Int))) (nO (fI p1 k1) x2 x4 e1 true) (nO (fI p1 k1) x2 x4 e1 (decide (400 < (e1.dby.length : Int)))))) (tZ x2 x3)
def iX (p1 : aw) (x1 : Bool) : OI := fI p1 aQ 0 x1 0
def pl (p1 : aw) : OI := ak (decide (40 < (p1.schemas.length : Int))) (iX p1 true) (ak (decide (40 < (p1.specs.length : Int))) (iX p1 true) (ak (decide (200 < (p1.snapshots.length : Int))) (iX p1 true) (ak (decide (40 < (p1.refs.length : Int))) (iX p1 true) (iX p1 (decide (40 < (p1.props.length : Int)))))))
theorem E0 (p1 : aw) : CT prog 32 [mM p1] (pl p1) vi :=
  dw 70 [6] f32 fun r => (cW f32 14 1 fun K k => have J1 : ∀ {x1}, iX p1 x1 = some r → K.p [(1, vR [.ro ((eL af).els p1.schemas), .ro (em.els p1.specs), pi p1.nextField, pi p1.nextSeq, pi p1.nextSnap, pi p1.purges, .ro (aM.els p1.snapshots), .ro (lg.els p1.refs), .ro (ic.els p1.props)]), (3, vi (0 : Int)), (4, vb x1)] [] := fun {x1} h => k h (cW f32 30 1 fun K k => have J3 : ∀ {x6 x7}, tZ x6 x7 = some r → K.p [(3, vi x6), (4, vb x7)] [] := fun {x6 x7} h => k h (cW f32 124 2 fun K k => have J4 : ∀ {x8}, qq x8 = some r → K.p [(69, vb x8)] [] := fun {x8} h => k h (uC uz uz); (uC (uJ J4) (uJ J4))); (uN aM p1.snapshots (gv f32 122 1 fun R b => have L1 : ∀ k1 {x2 x3 x4}, fI p1 k1 x2 x3 x4 = some r → (R k1).p [(3, vi x2), (4, vb x3), (36, vl aM p1.snapshots), (37, vi p1.snapshots.length), (38, vi x4)] [] := uI (gh rfl) fun k1 i1 {x2 x3 x4} h => b h (uU (fI.eq_2 ..) (uC (dR aM fun e1 => (cW f32 15666 3 fun K k => have J2 : ∀ {x5}, nO (fI p1 k1) x2 x4 e1 x5 = some r → K.p [(3, vi x2), (4, vb x5), (6, vQ 0), (36, vl aM p1.snapshots), (37, vi p1.snapshots.length), (38, vi x4)] [.box [ci e1.id, ci e1.parent, ci e1.seq, ci e1.schema, ci e1.time, ci e1.kind, cl aY e1.files, cl cM e1.dat, cl b9 e1.dby]] := fun {x5} h => k h (uN aY e1.files (uN b9 e1.dby (uY 63 vi fun y1 => (uJ i1)))); (uC (uJ J2) (uN aY e1.files (uC (uJ J2) (uN b9 e1.dby (uJ J2))))))) (uR (.exit 0) (xM (uJ J3))))); uE (L1 aQ)))); (uN (eL af) p1.schemas (uC (uJ J1) (uN em p1.specs (uC (uJ J1) (uN aM p1.snapshots (uC (uJ J1) (uN lg p1.refs (uC (uJ J1) (uN ic p1.props (uJ J1)))))))))))
def qt (x1 : Bool) : OB := some x1
def dq (p1 p2 p3 : Int) : OB := ak (decide (p2 ≤ p1)) (qt (decide (p1 ≤ p3))) (qt false)
theorem dm (p1 p2 p3 : Int) : CT prog 33 [vi p1, vi p2, vi p3] (dq p1 p2 p3) vb :=
  dw 15 [] f33 fun r => (cW f33 6 1 fun K k => have J1 : ∀ {x1}, qt x1 = some r → K.p [(6, vb x1)] [] := fun {x1} h => k h uz; (uC (uJ J1) (uJ J1)))
def sP (x1 : Bool) : OB := some x1
def vw (p1 : am) : OB := ak (p1.kind != 6) (sP (p1.kind != 7)) (sP false)
theorem Cx (p1 : am) : CT prog 152 [mT p1] (vw p1) vb :=
  dw 11 [] f152 fun r => (cW f152 6 1 fun K k => have J1 : ∀ {x1}, sP x1 = some r → K.p [(2, vb x1)] [] := fun {x1} h => k h uz; (uC (uJ J1) (uJ J1)))
def gE (x1 : Bool) : OB := some x1
def uu (p1 : Int) : OB := ak (decide (p1 < 97)) (ak (decide (p1 < 48)) (gE (p1 != 95)) (ak (decide (57 < p1)) (gE (p1 != 95)) (gE false))) (ak (decide (122 < p1)) (ak (decide (p1 < 48)) (gE (p1 != 95)) (ak (decide (57 < p1)) (gE (p1 != 95)) (gE false))) (gE false))
theorem EP (p1 : Int) : CT prog 137 [vk .i32 p1] (uu p1) vb :=
  dw 21 [] f137 fun r => (cW f137 6 1 fun K k => have J1 : ∀ {x1}, gE x1 = some r → K.p [(2, vb x1)] [] := fun {x1} h => k h uz; (uC (uC (uJ J1) (uC (uJ J1) (uJ J1))) (uC (uC (uJ J1) (uC (uJ J1) (uJ J1))) (uJ J1))))
def ki : OI := some (-1)
def co (p1 : ByteArray) (p2 : Bool) : Nat → Nat → OI
 | 0, _ => none
 | k1 + 1, z1 => ak (decide (z1 < p1.size)) (au (uu (Int.ofNat (Utf8.decode p1 z1).1)) fun r1 => ak (r1 == p2) (some (Int.ofNat z1)) ((co p1 p2 k1) (z1 + (Utf8.decode p1 z1).2))) (ki)
def gY (p1 : ByteArray) (p2 : Bool) : OI := co p1 p2 aQ 0
theorem qd (p1 : ByteArray) (p2 : Bool) : CT prog 214 [vs p1, .one (.pv (.fn 137 [])), vb p2] (gY p1 p2) vi :=
  dw 21 [] f214 fun r => (jL f214 6 1 ki [] [] uz fun K J1 => (Vy p1 (gv f214 26 1 fun R b => have L1 : ∀ k1 {z1}, co p1 p2 k1 z1 = some r → (R k1).p [(1, .one (.pv (.fn 137 []))), (2, vb p2), (10, vQ 0)] [.raw (.stringIter p1 z1)] := uI (gh rfl) fun k1 i1 {z1} h => b h (uU (co.eq_2 ..) (Vf 0 (fun b5 => (uT (bf (EP _) fun r1 => (uC jf (uJ i1))))) (fun b5 => (uF (uR (.exit 0) (xM (uJ J1))))))); uE (L1 aQ))))
def hH (p1 : ByteArray) : OI := au (gY p1 true) fun r1 => some r1
theorem qa (p1 : ByteArray) : CT prog 185 [vs p1, .one (.pv (.fn 137 []))] (hH p1) vi :=
  dw 8 [] f185 fun r => (bf (qd _ _) fun r1 => uz)
def fY (p1 : ByteArray) : OB := au (hH p1) fun r1 => some (decide (0 ≤ r1))
theorem oI (p1 : ByteArray) : CT prog 138 [vs p1, .one (.pv (.fn 137 []))] (fY p1) vb :=
  dw 9 [] f138 fun r => (bf (qa _) fun r1 => uz)
def nS (p1 : ByteArray) (x1 : Bool) : OB := ak x1 (some false) (au (fY p1) fun r1 => some (!r1))
def si (p1 : ByteArray) : OB := ak (p1.toList == (ByteArray.mk #[]).toList) (nS p1 true) (ak (decide ((24 : Int) < (p1.size : Int))) (nS p1 true) (pn (0 ≤ (0 : Int) ∧ (0 : Int) < (p1.size : Int)) <| au (some (decide (((p1.data.toList.getD (0 : Int).toNat 0).toNat : Int) < (97 : Int)))) fun y1 => ak y1 (nS p1 true) (pn (0 ≤ (0 : Int) ∧ (0 : Int) < (p1.size : Int)) <| au (some (decide ((122 : Int) < ((p1.data.toList.getD (0 : Int).toNat 0).toNat : Int)))) fun y2 => nS p1 y2)))
theorem ym (p1 : ByteArray) : CT prog 86 [vs p1] (si p1) vb :=
  dw 25 [] f86 fun r => (cW f86 12 2 fun K k => have J1 : ∀ {x1}, nS p1 x1 = some r → K.p [(0, vs p1), (20, vb x1)] [] := fun {x1} h => k h (uC uz (bf (oI _) fun r1 => uz)); (uC (uJ J1) (uC (uJ J1) (uG (uY 14 vb fun y1 => (uC (uJ J1) (uG (uY 19 vb fun y2 => (uJ J1)))))))))
def vH (p1 : ae) : OB := au (si p1.name) fun r1 => some (!r1)
theorem Dr (p1 : ae) : CT prog 193 [mf p1] (vH p1) vb :=
  dw 7 [] f193 fun r => (bf (ym _) fun r1 => uz)
def eJ : OI := some (-1)
def aI (p1 : List ae) : Nat → Int → OI
 | 0, _ => none
 | k1 + 1, x1 => ak (decide (x1 < (p1.length : Int))) (au (at? p1 x1) fun e1 => au (vH e1) fun r1 => ak r1 (some x1) ((aI p1 k1) (i64.wrap (x1 + 1)))) (eJ)
def cU (p1 : List ae) : OI := aI p1 aQ 0
theorem jR (p1 : List ae) : CT prog 125 [vl af p1, .one (.pv (.fn 193 []))] (cU p1) vi :=
  dw 19 [] f125 fun r => (jL f125 6 1 eJ [] [] uz fun K J1 => (uN af p1 (gv f125 26 1 fun R b => have L1 : ∀ k1 {x1}, aI p1 k1 x1 = some r → (R k1).p [(0, vl af p1), (1, .one (.pv (.fn 193 []))), (7, vi p1.length), (8, vi x1)] [] := uI (gh rfl) fun k1 i1 {x1} h => b h (uU (aI.eq_2 ..) (uC (dR af fun e1 => (bf (Dr _) fun r1 => (uC jf (uJ i1)))) (uR (.exit 0) (xM (uJ J1))))); uE (L1 aQ))))
def bT (p1 : List ae) : OB := au (cU p1) fun r1 => some (decide (0 ≤ r1))
theorem je (p1 : List ae) : CT prog 192 [vl af p1, .one (.pv (.fn 193 []))] (bT p1) vb :=
  dw 9 [] f192 fun r => (bf (jR _) fun r1 => uz)
def vr (p1 p2 : ae) : Option (Bool × ae) := some ((p1.name.toList == p2.name.toList), p2)
theorem Do (p1 p2 : ae) : CM prog 194 [mf p1, vQ 0] [.box [ci p2.id, vp p2.name, cb p2.need, ci p2.type.kind, ci p2.type.scale, cl af p2.type.fields]] (vr p1 p2) (fun r => vb r.1) (fun r => [.box [ci r.2.id, vp r.2.name, cb r.2.need, ci r.2.type.kind, ci r.2.type.scale, cl af r.2.type.fields]]) :=
  pw 1 9 [] f194 fun r => (uR .ret qD)
def cG (z7 : Int) (z8 : ByteArray) (z9 : Bool) (z10 z11 : Int) (z12 : List ae) : Option (Int × ae) := some ((-1), (kV.mk z7 z8 z9 (am.mk z10 z11 z12)))
def aB (p1 : List ae) : Nat → Int → ByteArray → Bool → Int → Int → List ae → Int → Option (Int × ae)
 | 0, _, _, _, _, _, _, _ => none
 | k1 + 1, z1, z2, z3, z4, z5, z6, x1 => ak (decide (x1 < (p1.length : Int))) (au (at? p1 x1) fun e1 => au (vr e1 (kV.mk z1 z2 z3 (am.mk z4 z5 z6))) fun r1 => ak r1.1 (some (x1, r1.2)) ((aB p1 k1) r1.2.id r1.2.name r1.2.need r1.2.type.kind r1.2.type.scale r1.2.type.fields (i64.wrap (x1 + 1)))) (cG z1 z2 z3 z4 z5 z6)
def cV (p1 : List ae) (p2 : ae) : Option (Int × ae) := aB p1 aQ p2.id p2.name p2.need p2.type.kind p2.type.scale p2.type.fields 0
theorem jS (p1 : List ae) (p2 : ae) : CM prog 125 [vl af p1, .one (.fn 194 [.pt 0 0 0 0])] [.box [ci p2.id, vp p2.name, cb p2.need, ci p2.type.kind, ci p2.type.scale, cl af p2.type.fields]] (cV p1 p2) (fun r => vi r.1) (fun r => [.box [ci r.2.id, vp r.2.name, cb r.2.need, ci r.2.type.kind, ci r.2.type.scale, cl af r.2.type.fields]]) :=
  pw 1 19 [] f125 fun r => (cW f125 6 1 fun K k => have J1 : ∀ {z7 z8 z9 z10 z11 z12}, cG z7 z8 z9 z10 z11 z12 = some r → K.p [] [.box [ci z7, vp z8, cb z9, ci z10, ci z11, cl af z12]] := fun {z7 z8 z9 z10 z11 z12} h => k h (uR .ret qD); (uN af p1 (gv f125 26 1 fun R b => have L1 : ∀ k1 {z1 z2 z3 z4 z5 z6 x1}, aB p1 k1 z1 z2 z3 z4 z5 z6 x1 = some r → (R k1).p [(0, vl af p1), (1, .one (.fn 194 [.pt 0 0 0 0])), (7, vi p1.length), (8, vi x1)] [.box [ci z1, vp z2, cb z3, ci z4, ci z5, cl af z6]] := uI (gh rfl) fun k1 i1 {z1 z2 z3 z4 z5 z6 x1} h => b h (uU (aB.eq_2 ..) (uC (dR af fun e1 => (yF true [0] (Do _ _) fun r1 _ => (uC (uR .ret (xN (xN qD))) (uJ i1)))) (uR (.exit 0) (xM (uJ J1))))); uE (L1 aQ))))
def bR (p1 : List ae) (p2 : ae) : Option (Bool × ae) := au (cV p1 p2) fun r1 => some ((decide (0 ≤ r1.1)), r1.2)
theorem ji (p1 : List ae) (p2 : ae) : CM prog 192 [vl af p1, .one (.fn 194 [.pt 0 0 0 0])] [.box [ci p2.id, vp p2.name, cb p2.need, ci p2.type.kind, ci p2.type.scale, cl af p2.type.fields]] (bR p1 p2) (fun r => vb r.1) (fun r => [.box [ci r.2.id, vp r.2.name, cb r.2.need, ci r.2.type.kind, ci r.2.type.scale, cl af r.2.type.fields]]) :=
  pw 1 9 [] f192 fun r => (yF true [0] (jS _ _) fun r1 _ => (uR .ret qD))
def qo (x1 : Bool) : OI := ak x1 (some 1) (some 0)
def yR : OI := some 0
def fG (p1 : am) : Nat → Int → OI
 | 0, _ => none
 | k1 + 1, x2 => ak (decide (x2 < (p1.fields.length : Int))) (au (at? p1.fields x2) fun e2 => pn (0 ≤ (0 : Int) ∧ (0 : Int) ≤ x2 ∧ x2 ≤ (p1.fields.length : Int)) <| au (bR ((p1.fields.drop (0 : Int).toNat).take (x2.toNat - (0 : Int).toNat)) e2) fun r2 => ak r2.1 (some (5 : Int)) ((fG p1 k1) (i64.wrap (x2 + 1)))) (yR)
def uK (p1 : am) : OI := ak (p1.kind == 6) (ak ((p1.fields.length : Int) != 1) (qo true) (au (at? p1.fields 0) fun e1 => qo (!(e1.name.toList == (ByteArray.mk #[]).toList)))) (ak (p1.kind != 7) (ak (decide (0 < (p1.fields.length : Int))) (some 1) (some 0)) (ak ((p1.fields.length : Int) == 0) (some 1) (au (bT p1.fields) fun r1 => ak r1 (some 4) (fG p1 aQ 0))))
theorem Ex (p1 : am) : CT prog 153 [mT p1] (uK p1) vi :=
  dw 52 [4] f153 fun r => (uC (cW f153 200 4 fun K k => have J1 : ∀ {x1}, qo x1 = some r → K.p [(20, vb x1)] [] := fun {x1} h => k h (uC uz uz); (uN af p1.fields (uC (uJ J1) (dR af fun e1 => (uJ J1))))) (uC (uN af p1.fields (uC uz uz)) (uN af p1.fields (uC uz (bf (je _) fun r1 => (uC uz (jL f153 30 1 yR [] [] uz fun K J2 => (uN af p1.fields (gv f153 122 1 fun R b => have L1 : ∀ k1 {x2}, fG p1 k1 x2 = some r → (R k1).p [(1, vR [pi p1.kind, pi p1.scale, .ro (af.els p1.fields)]), (38, vl af p1.fields), (39, vi p1.fields.length), (40, vi x2)] [] := uI (gh rfl) fun k1 i1 {x2} h => b h (uU (fG.eq_2 ..) (uC (dR af fun e2 => (uX af (yF true [0] (ji _ _) fun r2 _ => (uC jf (uJ i1))))) (uR (.exit 1) (xM (uJ J2))))); uE (L1 aQ))))))))))
def ri (z3 : Int) : Option (Int × dB) := some (0, (dB.mk z3))
def dM (q_value_checker_check : am → Int → dB → Option (Int × dB)) (p1 : am) (p2 : Int) : Nat → Int → Int → Option (Int × dB)
 | 0, _, _ => none
 | k1 + 1, z2, x4 => ak (decide (x4 < (p1.fields.length : Int))) (au (at? p1.fields x4) fun e1 => au (q_value_checker_check e1.type (i64.wrap (p2 + 1)) (dB.mk z2)) fun r4 => ak (r4.1 != 0) (some (r4.1, r4.2)) ((dM q_value_checker_check p1 p2 k1) r4.2.leaves (i64.wrap (x4 + 1)))) (ri z2)
def eV (q_value_checker_check : am → Int → dB → Option (Int × dB)) (p1 : am) (p2 z1 : Int) (x3 : Bool) : Option (Int × dB) := ak x3 (some (1, (dB.mk z1))) (au (uK p1) fun r3 => ak (r3 != 0) (some (r3, (dB.mk z1))) (dM q_value_checker_check p1 p2 aQ z1 0))
def ko (q_value_checker_check : am → Int → dB → Option (Int × dB)) (p1 : am) (p2 z1 : Int) (x2 : Bool) : Option (Int × dB) := ak x2 (some (3, (dB.mk z1))) (ak (p1.scale != 0) (ak (p1.kind != 3) (eV q_value_checker_check p1 p2 z1 true) (ak (decide (p1.scale < 0)) (eV q_value_checker_check p1 p2 z1 true) (eV q_value_checker_check p1 p2 z1 (decide (12 < p1.scale))))) (eV q_value_checker_check p1 p2 z1 false))
def fQ (q_value_checker_check : am → Int → dB → Option (Int × dB)) (p1 : am) (p2 z1 : Int) : Option (Int × dB) := ak (decide (p1.kind < 1)) (ko q_value_checker_check p1 p2 z1 true) (ko q_value_checker_check p1 p2 z1 (decide (7 < p1.kind)))
def fO (q_value_checker_check : am → Int → dB → Option (Int × dB)) (p1 : am) (p2 : Int) (p3 : dB) (x1 : Bool) : Option (Int × dB) := ak x1 (some (7, p3)) (au (vw p1) fun r2 => ak r2 (fQ q_value_checker_check p1 p2 (i64.wrap (p3.leaves + 1))) (fQ q_value_checker_check p1 p2 p3.leaves))
def bz : Nat → am → Int → dB → Option (Int × dB)
 | 0, _, _, _ => none
 | k0 + 1, p1, p2, p3 => ak (decide (4 < p2)) (fO (bz k0) p1 p2 p3 true) (au (vw p1) fun r1 => ak r1 (fO (bz k0) p1 p2 p3 (p3.leaves == 40)) (fO (bz k0) p1 p2 p3 false))
abbrev dv (p1 : am) : List PV := [pi p1.kind, pi p1.scale, .ro (af.els p1.fields)]
theorem rU : ∀ (k0 : Nat) (p1 : am) (p2 : Int) (p3 : dB), CM prog 108 [vQ 0, mT p1, vi p2] [.box [ci p3.leaves]] (bz k0 p1 p2 p3) (fun r => vi r.1) (fun r => [.box [ci r.2.leaves]])
  | 0, _, _, _ => Ry (bz.eq_1 ..)
  | k0 + 1, p1, p2, p3 => pw 1 83 [9] f108 fun r => (uU (bz.eq_2 ..) (cW f108 12 2 fun K k => have J1 : ∀ {x1}, fO (bz k0) p1 p2 p3 x1 = some r → K.p [(0, vQ 0), (2, vi p2), (4, vR (dv p1)), (23, vb x1)] [.box [ci p3.leaves]] := fun {x1} h => k h (uC (uR .ret qD) (cW f108 14 1 fun K k => have J2 : ∀ {z1}, fQ (bz k0) p1 p2 z1 = some r → K.p [(0, vQ 0), (2, vi p2), (4, vR (dv p1))] [.box [ci z1]] := fun {z1} h => k h (cW f108 120 3 fun K k => have J3 : ∀ {x2}, ko (bz k0) p1 p2 z1 x2 = some r → K.p [(0, vQ 0), (2, vi p2), (4, vR (dv p1)), (33, vb x2)] [.box [ci z1]] := fun {x2} h => k h (uC (uR .ret qD) (cW f108 486 3 fun K k => have J4 : ∀ {x3}, eV (bz k0) p1 p2 z1 x3 = some r → K.p [(0, vQ 0), (2, vi p2), (4, vR (dv p1)), (42, vb x3)] [.box [ci z1]] := fun {x3} h => k h (uC (uR .ret qD) (bf (Ex _) fun r3 => (uC (uR .ret qD) (cW f108 126 1 fun K k => have J5 : ∀ {z3}, ri z3 = some r → K.p [] [.box [ci z3]] := fun {z3} h => k h (uR .ret qD); (uN af p1.fields (gv f108 506 1 fun R b => have L1 : ∀ k1 {z2 x4}, dM (bz k0) p1 p2 k1 z2 x4 = some r → (R k1).p [(0, vQ 0), (2, vi p2), (67, vl af p1.fields), (68, vi p1.fields.length), (69, vi x4)] [.box [ci z2]] := uI (gh rfl) fun k1 i1 {z2 x4} h => b h (uU (dM.eq_2 ..) (uC (dR af fun e1 => (yF true [0] (rU k0 _ _ _) fun r4 _ => (uC (uR .ret (xN (xN qD))) (uJ i1)))) (uR (.exit 1) (xM (uJ J5))))); uE (L1 aQ))))))); (uC (uC (uJ J4) (uC (uJ J4) (uJ J4))) (uJ J4)))); (uC (uJ J3) (uJ J3))); (bf (Cx _) fun r2 => (uC (uJ J2) (uJ J2))))); (uC (uJ J1) (bf (Cx _) fun r1 => (uC (uJ J1) (uJ J1))))))
def cr (p1 : am) : OI := au (bz aQ p1 1 (dB.mk 0)) fun r1 => some r1.1
theorem jX (p1 : am) : CT prog 59 [mT p1] (cr p1) vi :=
  dw 9 [5] f59 fun r => (yF true [0] (rU aQ _ _ _) fun r1 _ => uz)
def mt (p1 : ae) (p2 : List (Int × Int)) : Option (Int × (List (Int × Int))) := ak (decide (p1.id < 1)) (some (3, p2)) (au (some ((iJ (rT .i64) p2 p1.id).getD 0)) fun x1 => au (some ((iJ (rT .i64) (jQ (rT .i64) p2 p1.id (i64.wrap (x1 + 1))) p1.id).getD 0)) fun x2 => ak (decide (1 < x2)) (some (5, (jQ (rT .i64) p2 p1.id (i64.wrap (x1 + 1))))) (some (0, (jQ (rT .i64) p2 p1.id (i64.wrap (x1 + 1))))))
theorem zb (p1 : ae) (p2 : List (Int × Int)) : CM prog 112 [mf p1, vQ 0] [.box [.mp 1], rK (rT .i64) eI false p2] (mt p1 p2) (fun r => vi r.1) (fun r => [.box [.mp 1], rK (rT .i64) eI false r.2]) :=
  pw 2 17 [] f112 fun r => (uC (uR .ret qD) (Wh (rT .i64) eI false 1 (0 : Int) 3 3 false fun x1 _ => (WX (rT .i64) eI false 1 (m := p2) (k0 := p1.id) (u := (i64.wrap (x1 + 1))) 3 (Wh (rT .i64) eI false 1 (0 : Int) 3 3 false fun x2 _ => (uC (uR .ret qD) (uR .ret qD))))))
def fZ (z2 : List (Int × Int)) : Option (Int × (List (Int × Int))) := some (0, z2)
def bV (q_value_Walk_of_value_CheckSchema_1 : (List ae) → (List (Int × Int)) → Option (Int × (List (Int × Int)))) (p1 : List ae) : Nat → (List (Int × Int)) → Int → Option (Int × (List (Int × Int)))
 | 0, _, _ => none
 | k1 + 1, z1, x1 => ak (decide (x1 < (p1.length : Int))) (au (at? p1 x1) fun e1 => au (mt e1 z1) fun r1 => ak (r1.1 != 0) (some (r1.1, r1.2)) (au (q_value_Walk_of_value_CheckSchema_1 e1.type.fields r1.2) fun r2 => ak (r2.1 != 0) (some (r2.1, r2.2)) ((bV q_value_Walk_of_value_CheckSchema_1 p1 k1) r2.2 (i64.wrap (x1 + 1))))) (fZ z1)
def bo : Nat → (List ae) → (List (Int × Int)) → Option (Int × (List (Int × Int)))
 | 0, _, _ => none
 | k0 + 1, p1, p2 => bV (bo k0) p1 aQ p2 0
theorem kz : ∀ (k0 : Nat) (p1 : List ae) (p2 : List (Int × Int)), CM prog 77 [vl af p1, .one (.fn 112 [.pt 0 0 0 0])] [.box [.mp 1], rK (rT .i64) eI false p2] (bo k0 p1 p2) (fun r => vi r.1) (fun r => [.box [.mp 1], rK (rT .i64) eI false r.2])
  | 0, _, _ => Ry (bo.eq_1 ..)
  | k0 + 1, p1, p2 => pw 2 30 [6] f77 fun r => (uU (bo.eq_2 ..) (cW f77 6 1 fun K k => have J1 : ∀ {z2}, fZ z2 = some r → K.p [] [.box [.mp 1], rK (rT .i64) eI false z2] := fun {z2} h => k h (uR .ret qD); (uN af p1 (gv f77 26 1 fun R b => have L1 : ∀ k1 {z1 x1}, bV (bo k0) p1 k1 z1 x1 = some r → (R k1).p [(1, .one (.fn 112 [.pt 0 0 0 0])), (9, vl af p1), (10, vi p1.length), (11, vi x1)] [.box [.mp 1], rK (rT .i64) eI false z1] := uI (gh rfl) fun k1 i1 {z1 x1} h => b h (uU (bV.eq_2 ..) (uC (dR af fun e1 => (yF true [0,1] (zb _ _) fun r1 _ => (uC (uR .ret (xN (xN qD))) (yF true [0,1] (kz k0 _ _) fun r2 _ => (uC (uR .ret (xN (xN qD))) (uJ i1)))))) (uR (.exit 0) (xM (uJ J1))))); uE (L1 aQ)))))
def eG (p1 : List ae) : OI := au (cr (am.mk 7 0 p1)) fun r1 => ak (r1 != 0) (some r1) (au (bo aQ p1 []) fun r2 => some r2.1)
theorem mo (p1 : List ae) : CT prog 65 [vl af p1] (eG p1) vi :=
  dw 15 [4] f65 fun r => (bf (jX _) fun r1 => (uC uz (WN (rT .i64) eI false (yF true [1,0] (kz aQ _ _) fun r2 _ => uz))))
def rF (p1 : ae) (p2 : List (List ae)) (p3 : List cm) (p4 p5 p6 p7 : Int) (p8 : List al) (p9 : List gV) (eS : List jk) : OI := ak (decide (p4 ≤ p1.id)) (some 3) (some 0)
theorem AA (p1 : ae) (p2 : List (List ae)) (p3 : List cm) (p4 p5 p6 p7 : Int) (p8 : List al) (p9 : List gV) (eS : List jk) : CT prog 78 [mf p1, vR [.ro ((eL af).els p2), .ro (em.els p3), pi p4, pi p5, pi p6, pi p7, .ro (aM.els p8), .ro (lg.els p9), .ro (ic.els eS)]] (rF p1 p2 p3 p4 p5 p6 p7 p8 p9 eS) vi :=
  dw 9 [] f78 fun r => (uC uz uz)
def lK : OI := some 0
def bX (q_value_Walk_of_table_schemas_1 : (List ae) → (List (List ae)) → (List cm) → Int → Int → Int → Int → (List al) → (List gV) → (List jk) → OI) (p1 : List ae) (p2 : List (List ae)) (p3 : List cm) (p4 p5 p6 p7 : Int) (p8 : List al) (p9 : List gV) (eS : List jk) : Nat → Int → OI
 | 0, _ => none
 | k1 + 1, x1 => ak (decide (x1 < (p1.length : Int))) (au (at? p1 x1) fun e1 => au (rF e1 p2 p3 p4 p5 p6 p7 p8 p9 eS) fun r1 => ak (r1 != 0) (some r1) (au (q_value_Walk_of_table_schemas_1 e1.type.fields p2 p3 p4 p5 p6 p7 p8 p9 eS) fun r2 => ak (r2 != 0) (some r2) ((bX q_value_Walk_of_table_schemas_1 p1 p2 p3 p4 p5 p6 p7 p8 p9 eS k1) (i64.wrap (x1 + 1))))) (lK)
def bH : Nat → (List ae) → (List (List ae)) → (List cm) → Int → Int → Int → Int → (List al) → (List gV) → (List jk) → OI
 | 0, _, _, _, _, _, _, _, _, _, _ => none
 | k0 + 1, p1, p2, p3, p4, p5, p6, p7, p8, p9, eS => bX (bH k0) p1 p2 p3 p4 p5 p6 p7 p8 p9 eS aQ 0
theorem ma : ∀ (k0 : Nat) (p1 : List ae) (p2 : List (List ae)) (p3 : List cm) (p4 p5 p6 p7 : Int) (p8 : List al) (p9 : List gV) (eS : List jk), CT prog 77 [vl af p1, .one (.fn 78 [.pv (.rp [[.ro ((eL af).els p2), .ro (em.els p3), pi p4, pi p5, pi p6, pi p7, .ro (aM.els p8), .ro (lg.els p9), .ro (ic.els eS)]] 0 0)])] (bH k0 p1 p2 p3 p4 p5 p6 p7 p8 p9 eS) vi
  | 0, _, _, _, _, _, _, _, _, _, _ => FE (bH.eq_1 ..)
  | k0 + 1, p1, p2, p3, p4, p5, p6, p7, p8, p9, eS => dw 30 [6] f77 fun r => (uU (bH.eq_2 ..) (jL f77 6 1 lK [] [] uz fun K J1 => (uN af p1 (gv f77 26 1 fun R b => have L1 : ∀ k1 {x1}, bX (bH k0) p1 p2 p3 p4 p5 p6 p7 p8 p9 eS k1 x1 = some r → (R k1).p [(1, .one (.fn 78 [.pv (.rp [[.ro ((eL af).els p2), .ro (em.els p3), pi p4, pi p5, pi p6, pi p7, .ro (aM.els p8), .ro (lg.els p9), .ro (ic.els eS)]] 0 0)])), (9, vl af p1), (10, vi p1.length), (11, vi x1)] [] := uI (gh rfl) fun k1 i1 {x1} h => b h (uU (bX.eq_2 ..) (uC (dR af fun e1 => (bf (AA _ _ _ _ _ _ _ _ _ _) fun r1 => (uC jf (bf (ma k0 _ _ _ _ _ _ _ _ _ _) fun r2 => (uC jf (uJ i1)))))) (uR (.exit 0) (xM (uJ J1))))); uE (L1 aQ)))))
def n6 (p1 : List ae) : OI := au (eG p1) fun r1 => ak (r1 != 0) (some r1) (some 0)
theorem xu (p1 : List ae) : CT prog 28 [vl af p1, .one (.pv (.s (.slice none 0 0)))] (n6 p1) vi :=
  dw 59 [] f28 fun r => (bf (mo _) fun r1 => (uC uz (uF (Nj 0 (uF uz)))))
def qF (p1 : ae) (p2 : Int) : OB := some (p1.id == p2)
theorem zk (p1 : ae) (p2 : Int) : CT prog 200 [mf p1, vR [pi p2]] (qF p1 p2) vb :=
  dw 8 [] f200 fun r => uz
def d9 : OI := some (-1)
def aX (p1 : List ae) (p2 : Int) : Nat → Int → OI
 | 0, _ => none
 | k1 + 1, x1 => ak (decide (x1 < (p1.length : Int))) (au (at? p1 x1) fun e1 => au (qF e1 p2) fun r1 => ak r1 (some x1) ((aX p1 p2 k1) (i64.wrap (x1 + 1)))) (d9)
def cK (p1 : List ae) (p2 : Int) : OI := aX p1 p2 aQ 0
theorem ju (p1 : List ae) (p2 : Int) : CT prog 125 [vl af p1, .one (.fn 200 [.pv (.rp [[pi p2]] 0 0)])] (cK p1 p2) vi :=
  dw 19 [] f125 fun r => (jL f125 6 1 d9 [] [] uz fun K J1 => (uN af p1 (gv f125 26 1 fun R b => have L1 : ∀ k1 {x1}, aX p1 p2 k1 x1 = some r → (R k1).p [(0, vl af p1), (1, .one (.fn 200 [.pv (.rp [[pi p2]] 0 0)])), (7, vi p1.length), (8, vi x1)] [] := uI (gh rfl) fun k1 i1 {x1} h => b h (uU (aX.eq_2 ..) (uC (dR af fun e1 => (bf (zk _ _) fun r1 => (uC jf (uJ i1)))) (uR (.exit 0) (xM (uJ J1))))); uE (L1 aQ))))
def rn (p1 : List ae) (p2 : Int) : OI := au (cK p1 p2) fun r1 => some r1
theorem C7 (p1 : List ae) (p2 : Int) : CT prog 168 [vl af p1, vi p2] (rn p1 p2) vi :=
  dw 8 [] f168 fun r => (bf (ju _ _) fun r1 => uz)
def oc (x1 : Bool) : OB := some x1
def oD (p1 : am) : OB := ak (p1.kind == 6) (oc true) (oc (p1.kind == 7))
theorem xY (p1 : am) : CT prog 169 [mT p1] (oD p1) vb :=
  dw 11 [] f169 fun r => (cW f169 6 1 fun K k => have J1 : ∀ {x1}, oc x1 = some r → K.p [(2, vb x1)] [] := fun {x1} h => k h uz; (uC (uJ J1) (uJ J1)))
def nk (x1 : Bool) : OI := ak x1 (some 2) (some 0)
def nJ (p1 : am) : OI := au (cr p1) fun r1 => ak (r1 != 0) (some r1) (ak (p1.kind == 6) (nk true) (nk (p1.kind == 7)))
theorem wR (p1 : am) : CT prog 198 [mT p1] (nJ p1) vi :=
  dw 17 [] f198 fun r => (bf (jX _) fun r1 => (uC uz (cW f198 28 2 fun K k => have J1 : ∀ {x1}, nk x1 = some r → K.p [(16, vb x1)] [] := fun {x1} h => k h (uC uz uz); (uC (uJ J1) (uJ J1)))))
def jA (x4 : Bool) : OB := some x4
def pB (p1 p2 : am) (x3 : Bool) : OB := ak x3 (some true) (ak (p1.kind == 1) (ak (p2.kind == 3) (jA (p2.scale == 0)) (jA false)) (ak (p1.kind == 2) (ak (p2.kind == 3) (jA (p2.scale == 0)) (jA false)) (jA false)))
def mC (p1 p2 : am) (x2 : Bool) : OB := ak x2 (some true) (ak (p1.kind == 1) (pB p1 p2 (p2.kind == 2)) (pB p1 p2 false))
def jz (p1 p2 : am) (x1 : Bool) : OB := ak x1 (some false) (ak (p1.kind == p2.kind) (mC p1 p2 (p1.scale == p2.scale)) (mC p1 p2 false))
def kG (p1 p2 : am) : OB := au (nJ p1) fun r1 => ak (r1 != 0) (jz p1 p2 true) (au (nJ p2) fun r2 => jz p1 p2 (r2 != 0))
theorem ub (p1 p2 : am) : CT prog 162 [mT p1, mT p2] (kG p1 p2) vb :=
  dw 53 [] f162 fun r => (cW f162 12 2 fun K k => have J1 : ∀ {x1}, jz p1 p2 x1 = some r → K.p [(2, vR (dv p1)), (3, vR (dv p2)), (12, vb x1)] [] := fun {x1} h => k h (uC uz (cW f162 56 3 fun K k => have J2 : ∀ {x2}, mC p1 p2 x2 = some r → K.p [(2, vR (dv p1)), (3, vR (dv p2)), (13, vb x2)] [] := fun {x2} h => k h (uC uz (cW f162 230 3 fun K k => have J3 : ∀ {x3}, pB p1 p2 x3 = some r → K.p [(2, vR (dv p1)), (3, vR (dv p2)), (26, vb x3)] [] := fun {x3} h => k h (uC uz (cW f162 30 1 fun K k => have J4 : ∀ {x4}, jA x4 = some r → K.p [(4, vb x4)] [] := fun {x4} h => k h uz; (uC (uC (uJ J4) (uJ J4)) (uC (uC (uJ J4) (uJ J4)) (uJ J4))))); (uC (uJ J3) (uJ J3)))); (uC (uJ J2) (uJ J2)))); (bf (wR _) fun r1 => (uC (uJ J1) (bf (wR _) fun r2 => (uJ J1)))))
def ke (rec1 : Int → OI) (x1 : Int) : OI := rec1 (i64.wrap (x1 + 1))
def ga (q_column_adaptable : (List ae) → (List ae) → OI) (rec1 : Int → OI) (x1 : Int) (e1 e2 : ae) (x4 : Bool) : OI := ak x4 (some 2) (au (q_column_adaptable e2.type.fields e1.type.fields) fun r5 => ak (r5 != 0) (some r5) (ke rec1 x1))
def mg (q_column_adaptable : (List ae) → (List ae) → OI) (rec1 : Int → OI) (x1 : Int) (e1 e2 : ae) (x3 : Bool) : OI := ak x3 (ga q_column_adaptable rec1 x1 e1 e2 x3) (au (oD e2.type) fun r3 => ak (!r3) (au (kG e2.type e1.type) fun r4 => ga q_column_adaptable rec1 x1 e1 e2 (!r4)) (ga q_column_adaptable rec1 x1 e1 e2 false))
def kj (q_column_adaptable : (List ae) → (List ae) → OI) (rec1 : Int → OI) (x1 : Int) (e1 e2 : ae) (x2 : Bool) : OI := ak x2 (some 9) (au (oD e2.type) fun r2 => ak r2 (mg q_column_adaptable rec1 x1 e1 e2 (e1.type.kind != e2.type.kind)) (mg q_column_adaptable rec1 x1 e1 e2 false))
def ul : OI := some 0
def bA (q_column_adaptable : (List ae) → (List ae) → OI) (p1 p2 : List ae) : Nat → Int → OI
 | 0, _ => none
 | k1 + 1, x1 => ak (decide (x1 < (p2.length : Int))) (au (at? p2 x1) fun e1 => au (rn p1 e1.id) fun r1 => ak (decide (r1 < 0)) (ak e1.need (some 9) (ke (bA q_column_adaptable p1 p2 k1) x1)) (au (at? p1 r1) fun e2 => ak e1.need (kj q_column_adaptable (bA q_column_adaptable p1 p2 k1) x1 e1 e2 (!e2.need)) (kj q_column_adaptable (bA q_column_adaptable p1 p2 k1) x1 e1 e2 false))) (ul)
def bp : Nat → (List ae) → (List ae) → OI
 | 0, _, _ => none
 | k0 + 1, p1, p2 => bA (bp k0) p1 p2 aQ 0
abbrev w9 (e1 : ae) : List CV := [ci e1.id, vp e1.name, cb e1.need, ci e1.type.kind, ci e1.type.scale, cl af e1.type.fields]
theorem vB : ∀ (k0 : Nat) (p1 p2 : List ae), CT prog 122 [vl af p1, vl af p2] (bp k0 p1 p2) vi
  | 0, _, _ => FE (bp.eq_1 ..)
  | k0 + 1, p1, p2 => dw 72 [6, 8] f122 fun r => (uU (bp.eq_2 ..) (jL f122 6 1 ul [] [] uz fun K J5 => (uN af p2 (gv f122 26 1 fun R b => have L1 : ∀ k1 {x1}, bA (bp k0) p1 p2 k1 x1 = some r → (R k1).p [(0, vl af p1), (10, vl af p2), (11, vi p2.length), (12, vi x1)] [] := uI (gh rfl) fun k1 i1 {x1} h => b h (uU (bA.eq_2 ..) (uC (jL f122 422 1 (ke (bA (bp k0) p1 p2 k1) x1) [(0, vl af p1), (10, vl af p2), (11, vi p2.length), (12, vi x1)] [] (uJ i1) fun K J4 => (dR af fun e1 => (bf (C7 _ _) fun r1 => (uC (uC (uR .ret (xN (xN (xN xF)))) (uJ J4)) (dR af fun e2 => (cW f122 108152 4 fun K k => have J1 : ∀ {x2}, kj (bp k0) (bA (bp k0) p1 p2 k1) x1 e1 e2 x2 = some r → K.p [(0, vl af p1), (6, vQ 0), (8, vQ 1), (10, vl af p2), (11, vi p2.length), (12, vi x1), (28, vb x2)] [.box (w9 e1), .box (w9 e2)] := fun {x2} h => k h (uC (uR .ret (xN (xN (xN xF)))) (cW f122 432614 4 fun K k => have J3 : ∀ {x4}, ga (bp k0) (bA (bp k0) p1 p2 k1) x1 e1 e2 x4 = some r → K.p [(0, vl af p1), (6, vQ 0), (8, vQ 1), (10, vl af p2), (11, vi p2.length), (12, vi x1), (36, vb x4)] [.box (w9 e1), .box (w9 e2)] := fun {x4} h => k h (uC (uR .ret (xN (xN (xN xF)))) (bf (vB k0 _ _) fun r5 => (uC (uR .ret (xN (xN (xN xF)))) (uJ J4)))); (cW f122 865228 1 fun K k => have J2 : ∀ {x3}, mg (bp k0) (bA (bp k0) p1 p2 k1) x1 e1 e2 x3 = some r → K.p [(0, vl af p1), (6, vQ 0), (8, vQ 1), (10, vl af p2), (11, vi p2.length), (12, vi x1), (36, vb x3)] [.box (w9 e1), .box (w9 e2)] := fun {x3} h => k h (uC (uJ J3) (bf (xY _) fun r3 => (uC (bf (ub _ _) fun r4 => (uJ J3)) (uJ J3)))); (bf (xY _) fun r2 => (uC (uJ J2) (uJ J2)))))); (uC (uJ J1) (uJ J1)))))))) (uR (.exit 0) (xM (uJ J5))))); uE (L1 aQ)))))
def md (p1 : List (List ac)) : Option (List (List ac)) := pn (0 ≤ (0 : Int) ∧ (0 : Int) ≤ (p1.length : Int) ∧ (p1.length : Int) ≤ (p1.length : Int) ∧ (p1.length : Int) ≤ (p1.length : Int)) <| some ((p1.drop (0 : Int).toNat).take ((p1.length : Int).toNat - (0 : Int).toNat))
theorem qQ (p1 : List (List ac)) : CT prog 124 [vl (eL ah) p1] (md p1) (fun r => vl (eL ah) r) :=
  dw 9 [] f124 fun r => (uN (eL ah) p1 (uN (eL ah) p1 (Wg (eL ah) uz)))
def oo (p1 p2 : List ae) : Option ((List (List ac)) × Int) := au (n6 p1) fun r1 => ak (r1 != 0) (some ([], r1)) (au (eG p2) fun r2 => ak (r2 != 0) (some ([], r2)) (au (bp aQ p1 p2) fun r3 => ak (r3 != 0) (some ([], r3)) (au (md []) fun r4 => some (r4, 0))))
theorem AD (p1 p2 : List ae) : CT prog 79 [vl af p1, vl af p2, .one (.pv (.s (.slice none 0 0)))] (oo p1 p2) (fun r => .tp [vl (eL ah) r.1, vi r.2]) :=
  dw 47 [] f79 fun r => (TM (xu _) fun r1 _ => (uC uz (bf (mo _) fun r2 => (uC uz (bf (vB aQ _ _) fun r3 => (uC uz (Nj 0 (uF (bf (qQ _) fun r4 => uz)))))))))
def sC (rec1 : Int → OI) (x1 : Int) : OI := rec1 (i64.wrap (x1 + 1))
def jm (rec1 : Int → OI) (p1 : aw) (x1 : Int) (e1 : List ae) : Nat → Int → OI
 | 0, _ => none
 | k2 + 1, x2 => au (some (decide (x2 < (((p1.schemas.drop (0 : Int).toNat).take (x1.toNat - (0 : Int).toNat)).length : Int)))) fun y1 => ak y1 (au (at? ((p1.schemas.drop (0 : Int).toNat).take (x1.toNat - (0 : Int).toNat)) x2) fun e2 => au (oo e2 e1) fun r3 => ak (r3.2 != 0) (some r3.2) ((jm rec1 p1 x1 e1 k2) (i64.wrap (x2 + 1)))) (sC rec1 x1)
def xz : OI := some 0
def eg (p1 : aw) : Nat → Int → OI
 | 0, _ => none
 | k1 + 1, x1 => ak (decide (x1 < (p1.schemas.length : Int))) (au (at? p1.schemas x1) fun e1 => au (eG e1) fun r1 => ak (r1 != 0) (some r1) (au (bH aQ e1 p1.schemas p1.specs p1.nextField p1.nextSeq p1.nextSnap p1.purges p1.snapshots p1.refs p1.props) fun r2 => ak (r2 != 0) (some r2) (pn (0 ≤ (0 : Int) ∧ (0 : Int) ≤ x1 ∧ x1 ≤ (p1.schemas.length : Int)) <| jm (eg p1 k1) p1 x1 e1 aQ (0 : Int)))) (xz)
def s9 (p1 : aw) : OI := eg p1 aQ 0
abbrev bv (p1 : aw) : List PV := [.ro ((eL af).els p1.schemas), .ro (em.els p1.specs), pi p1.nextField, pi p1.nextSeq, pi p1.nextSnap, pi p1.purges, .ro (aM.els p1.snapshots), .ro (lg.els p1.refs), .ro (ic.els p1.props)]
abbrev PP (p1 : aw) (x1 : Int) : Fr := [(1, .one (.pv (.rp [(bv p1)] 0 0))), (12, vl (eL af) p1.schemas), (13, vi (p1.schemas.length : Int)), (14, vi x1)]
theorem D2 (p1 : aw) : CT prog 34 [mM p1] (s9 p1) vi :=
  dw 50 [] f34 fun r => (jL f34 6 1 xz [] [] uz fun K J2 => (uN (eL af) p1.schemas (gv f34 26 1 fun R b => have L1 : ∀ k1 {x1}, eg p1 k1 x1 = some r → (R k1).p (PP p1 x1) [] := uI (gh rfl) fun k1 i1 {x1} h => b h (uU (eg.eq_2 ..) (uC (jL f34 422 1 (sC (eg p1 k1) x1) (PP p1 x1) [] (uJ i1) fun K J1 => (dR (eL af) fun e1 => (bf (mo _) fun r1 => (uC (uR .ret (xN (xN (xN xF)))) (bf (ma aQ _ _ _ _ _ _ _ _ _ _) fun r2 => (uC (uR .ret (xN (xN (xN xF)))) (uX (eL af) (uN (eL af) ((p1.schemas.drop (0 : Int).toNat).take (x1.toNat - (0 : Int).toNat)) (gv f34 54078 2 fun R b => have L2 : ∀ k2 {x2}, jm (eg p1 k1) p1 x1 e1 k2 x2 = some r → (R k2).p [(1, vR (bv p1)), (4, vl af e1), (12, vl (eL af) p1.schemas), (13, vi p1.schemas.length), (14, vi x1), (33, vl (eL af) ((p1.schemas.drop (0 : Int).toNat).take (x1.toNat - (0 : Int).toNat))), (34, vi (((p1.schemas.drop (0 : Int).toNat).take (x1.toNat - (0 : Int).toNat)).length : Int)), (35, vi x2)] [] := uI (gh rfl) fun k2 i2 {x2} h => b h (uU (jm.eq_2 ..) (uY 36 vb fun y1 => (uC (dR (eL af) fun e2 => (TM (AD _ _) fun r3 _ => (uC (uR .ret (xN (xN (xN (xN xF))))) (uJ i2)))) (uR (.exit 2) (xM (uJ J1)))))); uE (L2 aQ)))))))))) (uR (.exit 0) (xM (uJ J2))))); uE (L1 aQ))))
def pO (p1 : ae) (p2 : Int) : OB := some (p1.id == p2)
theorem DV (p1 : ae) (p2 : Int) : CT prog 126 [mf p1, vR [pi p2]] (pO p1 p2) vb :=
  dw 8 [] f126 fun r => uz
def eY : OI := some (-1)
def aD (p1 : List ae) (p2 : Int) : Nat → Int → OI
 | 0, _ => none
 | k1 + 1, x1 => ak (decide (x1 < (p1.length : Int))) (au (at? p1 x1) fun e1 => au (pO e1 p2) fun r1 => ak r1 (some x1) ((aD p1 p2 k1) (i64.wrap (x1 + 1)))) (eY)
def cg (p1 : List ae) (p2 : Int) : OI := aD p1 p2 aQ 0
theorem kg (p1 : List ae) (p2 : Int) : CT prog 125 [vl af p1, .one (.fn 126 [.pv (.rp [[pi p2]] 0 0)])] (cg p1 p2) vi :=
  dw 19 [] f125 fun r => (jL f125 6 1 eY [] [] uz fun K J1 => (uN af p1 (gv f125 26 1 fun R b => have L1 : ∀ k1 {x1}, aD p1 p2 k1 x1 = some r → (R k1).p [(0, vl af p1), (1, .one (.fn 126 [.pv (.rp [[pi p2]] 0 0)])), (7, vi p1.length), (8, vi x1)] [] := uI (gh rfl) fun k1 i1 {x1} h => b h (uU (aD.eq_2 ..) (uC (dR af fun e1 => (bf (DV _ _) fun r1 => (uC jf (uJ i1)))) (uR (.exit 0) (xM (uJ J1))))); uE (L1 aQ))))
def j0 (p1 : List ae) (p2 : Int) : OI := au (cg p1 p2) fun r1 => some r1
theorem qP (p1 : List ae) (p2 : Int) : CT prog 81 [vl af p1, vi p2] (j0 p1 p2) vi :=
  dw 8 [] f81 fun r => (bf (kg _ _) fun r1 => uz)
def tR (p1 : bi) (p2 : List (List ae)) (p3 : List cm) (p4 p5 p6 p7 : Int) (p8 : List al) (p9 : List gV) (eS : List jk) (p11 : Int) : Option (Bool × Int) := au (at? p2 p11) fun e1 => au (j0 e1 p1.source) fun r1 => some ((decide (r1 < 0)), p11)
theorem Cc (p1 : bi) (p2 : List (List ae)) (p3 : List cm) (p4 p5 p6 p7 : Int) (p8 : List al) (p9 : List gV) (eS : List jk) (p11 : Int) : CM prog 80 [.ag [ci p1.source, ci p1.transform.kind, ci p1.transform.param], vR [.ro ((eL af).els p2), .ro (em.els p3), pi p4, pi p5, pi p6, pi p7, .ro (aM.els p8), .ro (lg.els p9), .ro (ic.els eS)], vQ 0] [.box [ci p11]] (tR p1 p2 p3 p4 p5 p6 p7 p8 p9 eS p11) (fun r => vb r.1) (fun r => [.box [ci r.2]]) :=
  pw 1 14 [] f80 fun r => (nI 7 (dR (eL af) fun e1 => (bf (qP _ _) fun r1 => (uR .ret qD))))
def dz (z2 : Int) : Option (Int × Int) := some ((-1), z2)
def aG (p1 : List bi) (p2 : List (List ae)) (p3 : List cm) (p4 p5 p6 p7 : Int) (p8 : List al) (p9 : List gV) (eS : List jk) : Nat → Int → Int → Option (Int × Int)
 | 0, _, _ => none
 | k1 + 1, z1, x1 => ak (decide (x1 < (p1.length : Int))) (au (at? p1 x1) fun e1 => au (tR e1 p2 p3 p4 p5 p6 p7 p8 p9 eS z1) fun r1 => ak r1.1 (some (x1, r1.2)) ((aG p1 p2 p3 p4 p5 p6 p7 p8 p9 eS k1) r1.2 (i64.wrap (x1 + 1)))) (dz z1)
def cp (p1 : List bi) (p2 : List (List ae)) (p3 : List cm) (p4 p5 p6 p7 : Int) (p8 : List al) (p9 : List gV) (eS : List jk) (p11 : Int) : Option (Int × Int) := aG p1 p2 p3 p4 p5 p6 p7 p8 p9 eS aQ p11 0
theorem ij (p1 : List bi) (p2 : List (List ae)) (p3 : List cm) (p4 p5 p6 p7 : Int) (p8 : List al) (p9 : List gV) (eS : List jk) (p11 : Int) : CM prog 127 [vl aL p1, .one (.fn 80 [.pv (.rp [[.ro ((eL af).els p2), .ro (em.els p3), pi p4, pi p5, pi p6, pi p7, .ro (aM.els p8), .ro (lg.els p9), .ro (ic.els eS)]] 0 0), .pt 0 0 0 0])] [.box [ci p11]] (cp p1 p2 p3 p4 p5 p6 p7 p8 p9 eS p11) (fun r => vi r.1) (fun r => [.box [ci r.2]]) :=
  pw 1 19 [] f127 fun r => (cW f127 6 1 fun K k => have J1 : ∀ {z2}, dz z2 = some r → K.p [] [.box [ci z2]] := fun {z2} h => k h (uR .ret qD); (uN aL p1 (gv f127 26 1 fun R b => have L1 : ∀ k1 {z1 x1}, aG p1 p2 p3 p4 p5 p6 p7 p8 p9 eS k1 z1 x1 = some r → (R k1).p [(0, vl aL p1), (1, .one (.fn 80 [.pv (.rp [[.ro ((eL af).els p2), .ro (em.els p3), pi p4, pi p5, pi p6, pi p7, .ro (aM.els p8), .ro (lg.els p9), .ro (ic.els eS)]] 0 0), .pt 0 0 0 0])), (7, vi p1.length), (8, vi x1)] [.box [ci z1]] := uI (gh rfl) fun k1 i1 {z1 x1} h => b h (uU (aG.eq_2 ..) (uC (dR aL fun e1 => (yF true [0] (Cc _ _ _ _ _ _ _ _ _ _ _) fun r1 _ => (uC (uR .ret (xN (xN qD))) (uJ i1)))) (uR (.exit 0) (xM (uJ J1))))); uE (L1 aQ))))
def bt (p1 : List bi) (p2 : List (List ae)) (p3 : List cm) (p4 p5 p6 p7 : Int) (p8 : List al) (p9 : List gV) (eS : List jk) (p11 : Int) : Option (Bool × Int) := au (cp p1 p2 p3 p4 p5 p6 p7 p8 p9 eS p11) fun r1 => some ((decide (0 ≤ r1.1)), r1.2)
theorem gG (p1 : List bi) (p2 : List (List ae)) (p3 : List cm) (p4 p5 p6 p7 : Int) (p8 : List al) (p9 : List gV) (eS : List jk) (p11 : Int) : CM prog 82 [vl aL p1, .one (.fn 80 [.pv (.rp [[.ro ((eL af).els p2), .ro (em.els p3), pi p4, pi p5, pi p6, pi p7, .ro (aM.els p8), .ro (lg.els p9), .ro (ic.els eS)]] 0 0), .pt 0 0 0 0])] [.box [ci p11]] (bt p1 p2 p3 p4 p5 p6 p7 p8 p9 eS p11) (fun r => vb r.1) (fun r => [.box [ci r.2]]) :=
  pw 1 9 [] f82 fun r => (yF true [0] (ij _ _ _ _ _ _ _ _ _ _ _) fun r1 _ => (uR .ret qD))
def s7 (x1 : Bool) : OB := some x1
def sF (p1 : am) : OB := ak (p1.kind != 6) (s7 (p1.kind != 7)) (s7 false)
theorem yf (p1 : am) : CT prog 154 [mT p1] (sF p1) vb :=
  dw 11 [] f154 fun r => (cW f154 6 1 fun K k => have J1 : ∀ {x1}, s7 x1 = some r → K.p [(2, vb x1)] [] := fun {x1} h => k h uz; (uC (uJ J1) (uJ J1)))
def km (p2 : am) (x6 : Bool) : Option (am × Int) := ak x6 (some ((am.mk 2 0 []), 0)) (some (p2, 0))
def fT (p1 : ce) (p2 : am) (x5 : Bool) : Option (am × Int) := ak x5 (some ((am.mk 0 0 []), 2)) (ak (p1.kind == 2) (km p2 true) (km p2 (decide (4 ≤ p1.kind))))
def fU (p1 : ce) (p2 : am) (x4 : Bool) : Option (am × Int) := ak x4 (fT p1 p2 x4) (ak (decide (4 ≤ p1.kind)) (fT p1 p2 (p2.kind != 5)) (fT p1 p2 false))
def iL (p1 : ce) (p2 : am) : Option (am × Int) := au (sF p2) fun r2 => ak (!r2) (fT p1 p2 (!r2)) (ak (p1.kind == 3) (ak (p2.kind != 2) (ak (p2.kind != 3) (fU p1 p2 (p2.kind != 4)) (fU p1 p2 false)) (fU p1 p2 false)) (fU p1 p2 false))
def kx (p1 : ce) (p2 : am) (x3 : Bool) : Option (am × Int) := ak x3 (some ((am.mk 0 0 []), 3)) (iL p1 p2)
def ku (p1 : ce) (p2 : am) (x2 : Bool) : Option (am × Int) := ak x2 (ak (decide (p1.param < 1)) (kx p1 p2 true) (kx p1 p2 (decide (1000000 < p1.param)))) (ak (p1.param != 0) (some ((am.mk 0 0 []), 3)) (iL p1 p2))
def kr (p1 : ce) (p2 : am) (x1 : Bool) : Option (am × Int) := ak x1 (some ((am.mk 0 0 []), 3)) (ak (p1.kind == 2) (ku p1 p2 true) (ku p1 p2 (p1.kind == 3)))
def gb (p1 : ce) (p2 : am) : Option (am × Int) := au (cr p2) fun r1 => ak (r1 != 0) (some ((am.mk 0 0 []), r1)) (ak (decide (p1.kind < 0)) (kr p1 p2 true) (kr p1 p2 (decide (7 < p1.kind))))
abbrev ua : List CV := [ci (0 : Int), ci (0 : Int), .pv (.s (.slice none 0 0))]
theorem sd (p1 : ce) (p2 : am) : CT prog 110 [.ag [ci p1.kind, ci p1.param], mT p2] (gb p1 p2) (fun r => .tp [mT r.1, vi r.2]) :=
  dw 85 [4] f110 fun r => (bf (jX _) fun r1 => (uC uz (cW f110 28 2 fun K k => have J1 : ∀ {x1}, kr p1 p2 x1 = some r → K.p [(2, vR [pi p1.kind, pi p1.param]), (3, vR (dv p2)), (4, vQ 0), (20, vb x1)] [.box ua] := fun {x1} h => k h (uC uz (jL f110 30 1 (iL p1 p2) [(2, vR [pi p1.kind, pi p1.param]), (3, vR (dv p2)), (4, vQ 0)] [.box ua] (cW f110 248 3 fun K k => have J6 : ∀ {x5}, fT p1 p2 x5 = some r → K.p [(2, vR [pi p1.kind, pi p1.param]), (3, vR (dv p2)), (4, vQ 0), (43, vb x5)] [.box ua] := fun {x5} h => k h (uC uz (cW f110 998 3 fun K k => have J7 : ∀ {x6}, km p2 x6 = some r → K.p [(3, vR (dv p2)), (4, vQ 0), (74, vb x6)] [.box ua] := fun {x6} h => k h (uC uz uz); (uC (uJ J7) (uJ J7)))); (bf (yf _) fun r2 => (uC (uJ J6) (cW f110 1990 1 fun K k => have J5 : ∀ {x4}, fU p1 p2 x4 = some r → K.p [(2, vR [pi p1.kind, pi p1.param]), (3, vR (dv p2)), (4, vQ 0), (43, vb x4)] [.box ua] := fun {x4} h => k h (uC (uJ J6) (uC (uJ J6) (uJ J6))); (uC (uC (uC (uJ J5) (uJ J5)) (uJ J5)) (uJ J5)))))) fun K J4 => (cW f110 60 1 fun K k => have J2 : ∀ {x2}, ku p1 p2 x2 = some r → K.p [(2, vR [pi p1.kind, pi p1.param]), (3, vR (dv p2)), (4, vQ 0), (29, vb x2)] [.box ua] := fun {x2} h => k h (uC (cW f110 244 1 fun K k => have J3 : ∀ {x3}, kx p1 p2 x3 = some r → K.p [(2, vR [pi p1.kind, pi p1.param]), (3, vR (dv p2)), (4, vQ 0), (37, vb x3)] [.box ua] := fun {x3} h => k h (uC (uR .ret (xN xF)) (uJ J4)); (uC (uJ J3) (uJ J3))) (uC (uR .ret (xN xF)) (uJ J4))); (uC (uJ J2) (uJ J2))))); (uC (uJ J1) (uJ J1)))))
def hY : OI := some (-1)
def bq (p1 : List bi) (p2 : bi) : Nat → Int → OI
 | 0, _ => none
 | k1 + 1, x1 => ak (decide (x1 < (p1.length : Int))) (au (at? p1 x1) fun e1 => au (some ((p2.source == e1.source) && (((p2.transform.kind == e1.transform.kind) && ((p2.transform.param == e1.transform.param) && true)) && true))) fun y1 => ak y1 (some x1) ((bq p1 p2 k1) (i64.wrap (x1 + 1)))) (hY)
def fc (p1 : List bi) (p2 : bi) : OI := bq p1 p2 aQ 0
theorem ns (p1 : List bi) (p2 : bi) : CT prog 155 [vl aL p1, .ag [ci p2.source, ci p2.transform.kind, ci p2.transform.param]] (fc p1 p2) vi :=
  dw 19 [] f155 fun r => (jL f155 6 1 hY [] [] uz fun K J1 => (uN aL p1 (gv f155 26 1 fun R b => have L1 : ∀ k1 {x1}, bq p1 p2 k1 x1 = some r → (R k1).p [(0, vl aL p1), (3, vR [pi p2.source, pi p2.transform.kind, pi p2.transform.param]), (7, vi p1.length), (8, vi x1)] [] := uI (gh rfl) fun k1 i1 {x1} h => b h (uU (bq.eq_2 ..) (uC (nI 5 (dR aL fun e1 => (uY 16 vb fun y1 => (uC jf (uJ i1))))) (uR (.exit 0) (xM (uJ J1))))); uE (L1 aQ))))
def cX (p1 : List bi) (p2 : bi) : OB := au (fc p1 p2) fun r1 => some (decide (0 ≤ r1))
theorem me (p1 : List bi) (p2 : bi) : CT prog 111 [vl aL p1, .ag [ci p2.source, ci p2.transform.kind, ci p2.transform.param]] (cX p1 p2) vb :=
  dw 9 [] f111 fun r => (bf (ns _ _) fun r1 => uz)
def zx : OI := some 0
def lc (p1 : cm) (p2 : List ae) : Nat → Int → OI
 | 0, _ => none
 | k1 + 1, x1 => ak (decide (x1 < (p1.fields.length : Int))) (au (at? p1.fields x1) fun e1 => au (j0 p2 e1.source) fun r1 => ak (decide (r1 < (0 : Int))) (some (9 : Int)) (au (at? p2 r1) fun e2 => au (gb e1.transform e2.type) fun r2 => ak (r2.2 != 0) (some r2.2) (pn (0 ≤ (0 : Int) ∧ (0 : Int) ≤ x1 ∧ x1 ≤ (p1.fields.length : Int)) <| au (cX ((p1.fields.drop (0 : Int).toNat).take (x1.toNat - (0 : Int).toNat)) e1) fun r3 => ak r3 (some (5 : Int)) ((lc p1 p2 k1) (i64.wrap (x1 + 1)))))) (zx)
def qK (p1 : cm) (p2 : List ae) : OI := ak (decide (4 < (p1.fields.length : Int))) (some 7) (lc p1 p2 aQ 0)
theorem FG (p1 : cm) (p2 : List ae) : CT prog 62 [.ag [cl aL p1.fields], vl af p2] (qK p1 p2) vi :=
  dw 49 [6, 8] f62 fun r => (uN aL p1.fields (uC uz (jL f62 14 1 zx [] [] uz fun K J1 => (uN aL p1.fields (gv f62 58 1 fun R b => have L1 : ∀ k1 {x1}, lc p1 p2 k1 x1 = some r → (R k1).p [(1, vl af p2), (2, vR [.ro (aL.els p1.fields)]), (15, vl aL p1.fields), (16, vi p1.fields.length), (17, vi x1)] [] := uI (gh rfl) fun k1 i1 {x1} h => b h (uU (lc.eq_2 ..) (uC (dR aL fun e1 => (bf (qP _ _) fun r1 => (uC jf (Hp 13 1 [1,2] (dR af fun e2 => (bf (sd _ _) fun r2 => (uC jf (nI 5 (uX aL (bf (me _ _) fun r3 => (uC jf (uJ i1)))))))))))) (uR (.exit 0) (xM (uJ J1))))); uE (L1 aQ))))))
def mG (rec1 : Int → OI) (p1 : aw) (x1 : Int) (e1 : cm) (z3 : Int) (x3 : Bool) : OI := ak x3 (some 9) (au (at? p1.schemas z3) fun e2 => au (qK e1 e2) fun r2 => ak (r2 != 0) (some r2) (rec1 (i64.wrap (x1 + 1))))
def oO (rec1 : Int → OI) (p1 : aw) (x1 : Int) (e1 : cm) (z3 : Int) : OI := ak (decide (z3 < 0)) (mG rec1 p1 x1 e1 z3 true) (ak (x1 == (i64.wrap ((p1.specs.length : Int) - 1))) (au (some (decide (z3 < (i64.wrap ((p1.schemas.length : Int) - 1))))) fun y1 => mG rec1 p1 x1 e1 z3 y1) (mG rec1 p1 x1 e1 z3 false))
def rd (rec1 rec2 : Int → OI) (p1 : aw) (x1 : Int) (e1 : cm) (z2 : Int) (x2 : Bool) : OI := ak x2 (rec2 (i64.wrap (z2 - 1))) (oO rec1 p1 x1 e1 z2)
def gq (rec1 : Int → OI) (p1 : aw) (x1 : Int) (e1 : cm) : Nat → Int → OI
 | 0, _ => none
 | k2 + 1, z1 => ak (decide (0 ≤ z1)) (au (bt e1.fields p1.schemas p1.specs p1.nextField p1.nextSeq p1.nextSnap p1.purges p1.snapshots p1.refs p1.props z1) fun r1 => rd rec1 (gq rec1 p1 x1 e1 k2) p1 x1 e1 r1.2 r1.1) (rd rec1 (gq rec1 p1 x1 e1 k2) p1 x1 e1 z1 false)
def zU : OI := some 0
def dO (p1 : aw) : Nat → Int → OI
 | 0, _ => none
 | k1 + 1, x1 => ak (decide (x1 < (p1.specs.length : Int))) (au (at? p1.specs x1) fun e1 => gq (dO p1 k1) p1 x1 e1 aQ (i64.wrap ((p1.schemas.length : Int) - 1))) (zU)
def wW (p1 : aw) : OI := dO p1 aQ 0
theorem FD (p1 : aw) : CT prog 35 [mM p1] (wW p1) vi :=
  dw 60 [4, 5] f35 fun r => (jL f35 6 1 zU [] [] uz fun K J4 => (uN em p1.specs (gv f35 26 1 fun R b => have L1 : ∀ k1 {x1}, dO p1 k1 x1 = some r → (R k1).p [(1, vR (bv p1)), (9, vl em p1.specs), (10, vi p1.specs.length), (11, vi x1)] [] := uI (gh rfl) fun k1 i1 {x1} h => b h (uU (dO.eq_2 ..) (uC (dR em fun e1 => (uN (eL af) p1.schemas (cW f35 13518 3 fun K k => have J2 : ∀ {z3}, oO (dO p1 k1) p1 x1 e1 z3 = some r → K.p [(1, vR (bv p1)), (3, vi x1), (4, vQ 0), (5, vQ 1), (9, vl em p1.specs), (10, vi p1.specs.length), (11, vi x1)] [.box [cl aL e1.fields], .box [ci z3]] := fun {z3} h => k h (cW f35 54076 4 fun K k => have J3 : ∀ {x3}, mG (dO p1 k1) p1 x1 e1 z3 x3 = some r → K.p [(1, vR (bv p1)), (4, vQ 0), (5, vQ 1), (9, vl em p1.specs), (10, vi p1.specs.length), (11, vi x1), (48, vb x3)] [.box [cl aL e1.fields], .box [ci z3]] := fun {x3} h => k h (uC jf (nI 6 (dR (eL af) fun e2 => (bf (FG _ _) fun r2 => (uC jf (uJ i1)))))); (uC (uJ J3) (uN em p1.specs (uC (uN (eL af) p1.schemas (uY 46 vb fun y1 => (uJ J3))) (uJ J3))))); (gv f35 27036 1 fun R b => have L2 : ∀ k2 {z1}, gq (dO p1 k1) p1 x1 e1 k2 z1 = some r → (R k2).p [(1, vR (bv p1)), (3, vi x1), (4, vQ 0), (5, vQ 1), (6, .one (.fn 80 [.pv (.rp [(bv p1)] 0 0), .pt 1 0 0 0])), (9, vl em p1.specs), (10, vi p1.specs.length), (11, vi x1)] [.box [cl aL e1.fields], .box [ci z1]] := uI (gh rfl) fun k2 i2 {z1} h => b h (uU (gq.eq_2 ..) (cW f35 216288 2 fun K k => have J1 : ∀ {z2 x2}, rd (dO p1 k1) (gq (dO p1 k1) p1 x1 e1 k2) p1 x1 e1 z2 x2 = some r → K.p [(1, vR (bv p1)), (3, vi x1), (4, vQ 0), (5, vQ 1), (6, .one (.fn 80 [.pv (.rp [(bv p1)] 0 0), .pt 1 0 0 0])), (9, vl em p1.specs), (10, vi p1.specs.length), (11, vi x1), (28, vb x2)] [.box [cl aL e1.fields], .box [ci z2]] := fun {z2 x2} h => k h (uC (uJ i2) (uR (.exit 2) (xM (uJ J2)))); (uC (yF true [1] (gG _ _ _ _ _ _ _ _ _ _ _) fun r1 _ => (uJ J1)) (uJ J1)))); uE (L2 aQ))))) (uR (.exit 0) (xM (uJ J4))))); uE (L1 aQ))))
def jd (x2 : Bool) : OB := ak x2 (some true) (some false)
def jb (p1 : Int) (x1 : Bool) : OB := ak x1 (some true) (ak (decide (57343 < p1)) (jd (decide (p1 ≤ 1114111))) (jd false))
def kq (p1 : Int) : OB := ak (decide (0 ≤ p1)) (jb p1 (decide (p1 < 55296))) (jb p1 false)
theorem xf (p1 : Int) : CT prog 223 [vk .i32 p1] (kq p1) vb :=
  dw 17 [] f223 fun r => (cW f223 24 3 fun K k => have J1 : ∀ {x1}, jb p1 x1 = some r → K.p [(0, vk .i32 p1), (3, vb x1)] [] := fun {x1} h => k h (uC uz (cW f223 102 3 fun K k => have J2 : ∀ {x2}, jd x2 = some r → K.p [(10, vb x2)] [] := fun {x2} h => k h (uC uz uz); (uC (uJ J2) (uJ J2)))); (uC (uJ J1) (uJ J1)))
def tL : OI := some (-1)
def jN (p1 : ByteArray) : Nat → Nat → OI
 | 0, _ => none
 | k1 + 1, z1 => ak (decide (z1 < p1.size)) (ak (Int.ofNat (Utf8.decode p1 z1).1 == 65533) (some (Int.ofNat z1)) ((jN p1 k1) (z1 + (Utf8.decode p1 z1).2))) (tL)
def tA (p2 x2 : Int) : OI := au (some (i64.wrap (x2 - (i64.wrap (((Utf8.encode p2).size : Int) - 1))))) fun y9 => some y9
def lQ (p1 : ByteArray) (p2 x2 : Int) : Nat → Int → OI
 | 0, _ => none
 | k3 + 1, x3 => ak (decide (x3 < ((Utf8.encode p2).size : Int))) (pn (0 ≤ (i64.wrap (x2 - x3)) ∧ (i64.wrap (x2 - x3)) < (p1.size : Int)) <| au (some ((p1.data.toList.getD (i64.wrap (x2 - x3)).toNat 0).toNat : Int)) fun y7 => au (some (i64.wrap ((i64.wrap (((Utf8.encode p2).size : Int) - 1)) - x3))) fun y8 => pn (0 ≤ y8 ∧ y8 < ((Utf8.encode p2).size : Int)) <| ak (y7 != (((Utf8.encode p2).data.toList.getD y8.toNat 0).toNat : Int)) (none) ((lQ p1 p2 x2 k3) (i64.wrap (x3 + 1)))) (tA p2 x2)
def oz (p1 : ByteArray) (p2 x2 : Int) : OI := lQ p1 p2 x2 aQ 1
def tM : OI := some (-1)
def gM (p1 : ByteArray) (p2 : Int) : Nat → OI
 | 0 => none
 | k2 + 1 => au (some (decide ((i64.wrap (((Utf8.encode p2).size : Int) - 1)) < (p1.size : Int)))) fun y1 => ak y1 (pn (0 ≤ (i64.wrap (((Utf8.encode p2).size : Int) - 1)) ∧ (i64.wrap (((Utf8.encode p2).size : Int) - 1)) < (p1.size : Int)) <| au (some ((p1.data.toList.getD (i64.wrap (((Utf8.encode p2).size : Int) - 1)).toNat 0).toNat : Int)) fun y2 => pn (0 ≤ (i64.wrap (((Utf8.encode p2).size : Int) - 1)) ∧ (i64.wrap (((Utf8.encode p2).size : Int) - 1)) < ((Utf8.encode p2).size : Int)) <| au (some (((Utf8.encode p2).data.toList.getD (i64.wrap (((Utf8.encode p2).size : Int) - 1)).toNat 0).toNat : Int)) fun y3 => ak (y2 != y3) (au (some (i64.wrap ((i64.wrap (((Utf8.encode p2).size : Int) - 1)) + 1))) fun y4 => pn (0 ≤ y4 ∧ y4 ≤ (p1.size : Int) ∧ (p1.size : Int) ≤ (p1.size : Int)) <| pn (0 ≤ (i64.wrap (((Utf8.encode p2).size : Int) - 1)) ∧ (i64.wrap (((Utf8.encode p2).size : Int) - 1)) < ((Utf8.encode p2).size : Int)) <| au (some (((Utf8.encode p2).data.toList.getD (i64.wrap (((Utf8.encode p2).size : Int) - 1)).toNat 0).toNat : Int)) fun y5 => au (strings_IndexByte (p1.extract y4.toNat (p1.size : Int).toNat) y5) fun r3 => ak (decide (r3 < 0)) (some (-1)) (au (some (i64.wrap ((i64.wrap (((Utf8.encode p2).size : Int) - 1)) + (i64.wrap (r3 + 1))))) fun y6 => oz p1 p2 y6)) (oz p1 p2 (i64.wrap (((Utf8.encode p2).size : Int) - 1)))) (tM)
def jO (p1 : ByteArray) (p2 : Int) (x1 : Bool) : OI := ak x1 (au (strings_IndexByte p1 (IntKind.u8.wrap p2)) fun r1 => some r1) (ak (p2 == 65533) (jN p1 aQ 0) (au (kq p2) fun r2 => ak (!r2) (some (-1)) (gM p1 p2 aQ)))
def eE (p1 : ByteArray) (p2 : Int) : OI := ak (decide (0 ≤ p2)) (jO p1 p2 (decide (p2 < 128))) (jO p1 p2 false)
theorem mh (p1 : ByteArray) (p2 : Int) : CT prog 203 [vs p1, vk .i32 p2] (eE p1 p2) vi :=
  dw 187 [] f203 fun r => (cW f203 12 2 fun K k => have J1 : ∀ {x1}, jO p1 p2 x1 = some r → K.p [(0, vs p1), (1, vk .i32 p2), (160, vb x1)] [] := fun {x1} h => k h (uC (bf (ue _ _) fun r1 => uz) (uC (jL f203 220 2 tL [] [] uz fun K J2 => (Vy p1 (gv f203 882 1 fun R b => have L1 : ∀ k1 {z1}, jN p1 k1 z1 = some r → (R k1).p [(175, vQ 0)] [.raw (.stringIter p1 z1)] := uI (gh rfl) fun k1 i1 {z1} h => b h (uU (jN.eq_2 ..) (Vf 0 (fun b12 => (uT (uC jf (uJ i1)))) (fun b12 => (uF (uR (.exit 9) (xM (uJ J2))))))); uE (L1 aQ)))) (bf (xf _) fun r2 => (uC uz (jL f203 28638 3 tM [] [] uz fun K J5 => (gv f203 57276 1 fun R b => have L2 : ∀ k2, gM p1 p2 k2 = some r → (R k2).p [(0, vs p1), (7, vs (Utf8.encode p2)), (8, vi (i64.wrap (((Utf8.encode p2).size : Int) - (1 : Int)))), (9, vi (i64.wrap (((Utf8.encode p2).size : Int) - (1 : Int))))] [] := uI (gh rfl) fun k2 i2 h => b h (uU (gM.eq_2 ..) (uY 26 vb fun y1 => (uC (cW f203 1832840 3 fun K k => have J3 : ∀ {x2}, oz p1 p2 x2 = some r → K.p [(0, vs p1), (7, vs (Utf8.encode p2)), (8, vi (i64.wrap (((Utf8.encode p2).size : Int) - (1 : Int)))), (9, vi x2)] [] := fun {x2} h => k h (jL f203 3665682 3 (tA p2 x2) [(8, vi (i64.wrap (((Utf8.encode p2).size : Int) - (1 : Int)))), (9, vi x2)] [] (uY 67 vi fun y9 => jf) fun K J4 => (gv f203 14662730 1 fun R b => have L3 : ∀ k3 {x3}, lQ p1 p2 x2 k3 x3 = some r → (R k3).p [(0, vs p1), (7, vs (Utf8.encode p2)), (8, vi (i64.wrap (((Utf8.encode p2).size : Int) - (1 : Int)))), (9, vi x2), (12, vi x3)] [] := uI (gh rfl) fun k3 i3 {x3} h => b h (uU (lQ.eq_2 ..) (uC (nI 10 (Vv 58 (vk .u8) fun y7 => (uY 62 vi fun y8 => (uG (uC TK (uJ i3)))))) (uR (.exit 3) (xM (uJ J4))))); uE (L3 aQ))); (nI 6 (Vv 29 (vk .u8) fun y2 => (Vv 32 (vk .u8) fun y3 => (uC (nI 7 (uY 36 vi fun y4 => (uG (Vv 40 (vk .u8) fun y5 => (bf (ue _ _) fun r3 => (uC (uR .ret (xN (xN (xN xF)))) (uY 47 vi fun y6 => (uJ J3)))))))) (uJ J3)))))) (uR (.exit 1) (xM (uJ J5)))))); uE (L2 aQ))))))); (uC (uJ J1) (uJ J1)))
def dr (x1 : Bool) : OB := some x1
def nc (p1 : Int) : OB := ak (decide (p1 < 97)) (ak (decide (p1 < 48)) (au (eE (ByteArray.mk #[95, 45, 46, 47]) p1) fun r1 => dr (decide (r1 < 0))) (ak (decide (57 < p1)) (au (eE (ByteArray.mk #[95, 45, 46, 47]) p1) fun r2 => dr (decide (r2 < 0))) (dr false))) (ak (decide (122 < p1)) (ak (decide (p1 < 48)) (au (eE (ByteArray.mk #[95, 45, 46, 47]) p1) fun r3 => dr (decide (r3 < 0))) (ak (decide (57 < p1)) (au (eE (ByteArray.mk #[95, 45, 46, 47]) p1) fun r4 => dr (decide (r4 < 0))) (dr false))) (dr false))
theorem zP (p1 : Int) : CT prog 202 [vk .i32 p1] (nc p1) vb :=
  dw 22 [] f202 fun r => (cW f202 6 1 fun K k => have J1 : ∀ {x1}, dr x1 = some r → K.p [(2, vb x1)] [] := fun {x1} h => k h uz; (uC (uC (bf (mh _ _) fun r1 => (uJ J1)) (uC (bf (mh _ _) fun r2 => (uJ J1)) (uJ J1))) (uC (uC (bf (mh _ _) fun r3 => (uJ J1)) (uC (bf (mh _ _) fun r4 => (uJ J1)) (uJ J1))) (uJ J1))))
def iz : OI := some (-1)
def bP (p1 : ByteArray) (p2 : Bool) : Nat → Nat → OI
 | 0, _ => none
 | k1 + 1, z1 => ak (decide (z1 < p1.size)) (au (nc (Int.ofNat (Utf8.decode p1 z1).1)) fun r1 => ak (r1 == p2) (some (Int.ofNat z1)) ((bP p1 p2 k1) (z1 + (Utf8.decode p1 z1).2))) (iz)
def fk (p1 : ByteArray) (p2 : Bool) : OI := bP p1 p2 aQ 0
theorem nM (p1 : ByteArray) (p2 : Bool) : CT prog 214 [vs p1, .one (.pv (.fn 202 [])), vb p2] (fk p1 p2) vi :=
  dw 21 [] f214 fun r => (jL f214 6 1 iz [] [] uz fun K J1 => (Vy p1 (gv f214 26 1 fun R b => have L1 : ∀ k1 {z1}, bP p1 p2 k1 z1 = some r → (R k1).p [(1, .one (.pv (.fn 202 []))), (2, vb p2), (10, vQ 0)] [.raw (.stringIter p1 z1)] := uI (gh rfl) fun k1 i1 {z1} h => b h (uU (bP.eq_2 ..) (Vf 0 (fun b5 => (uT (bf (zP _) fun r1 => (uC jf (uJ i1))))) (fun b5 => (uF (uR (.exit 0) (xM (uJ J1))))))); uE (L1 aQ))))
def fj (p1 : ByteArray) : OI := au (fk p1 true) fun r1 => some r1
theorem nE (p1 : ByteArray) : CT prog 185 [vs p1, .one (.pv (.fn 202 []))] (fj p1) vi :=
  dw 8 [] f185 fun r => (bf (nM _ _) fun r1 => uz)
def eT (p1 : ByteArray) : OB := au (fj p1) fun r1 => some (decide (0 ≤ r1))
theorem mI (p1 : ByteArray) : CT prog 138 [vs p1, .one (.pv (.fn 202 []))] (eT p1) vb :=
  dw 9 [] f138 fun r => (bf (nE _) fun r1 => uz)
def ml (p1 : ByteArray) (x1 : Bool) : OB := ak x1 (some false) (au (eT p1) fun r1 => some (!r1))
def pk (p1 : ByteArray) : OB := ak (decide ((p1.size : Int) < 1)) (ml p1 true) (ml p1 (decide (64 < (p1.size : Int))))
theorem Bb (p1 : ByteArray) : CT prog 172 [vs p1] (pk p1) vb :=
  dw 14 [] f172 fun r => (cW f172 12 2 fun K k => have J1 : ∀ {x1}, ml p1 x1 = some r → K.p [(0, vs p1), (10, vb x1)] [] := fun {x1} h => k h (uC uz (bf (mI _) fun r1 => uz)); (uC (uJ J1) (uJ J1)))
def yJ (p1 : bi) (p2 : List ae) : Option (Bool × (List ae)) := au (j0 p2 p1.source) fun r1 => some ((decide (r1 < 0)), p2)
theorem Fi (p1 : bi) (p2 : List ae) : CM prog 173 [.ag [ci p1.source, ci p1.transform.kind, ci p1.transform.param], vQ 0] [.box [cl af p2]] (yJ p1 p2) (fun r => vb r.1) (fun r => [.box [cl af r.2]]) :=
  pw 1 9 [] f173 fun r => (bf (qP _ _) fun r1 => (uR .ret qD))
def dG (z2 : List ae) : Option (Int × (List ae)) := some ((-1), z2)
def aK (p1 : List bi) : Nat → List ae → Int → Option (Int × (List ae))
 | 0, _, _ => none
 | k1 + 1, z1, x1 => ak (decide (x1 < (p1.length : Int))) (au (at? p1 x1) fun e1 => au (yJ e1 z1) fun r1 => ak r1.1 (some (x1, r1.2)) ((aK p1 k1) r1.2 (i64.wrap (x1 + 1)))) (dG z1)
def cw (p1 : List bi) (p2 : List ae) : Option (Int × (List ae)) := aK p1 aQ p2 0
theorem iC (p1 : List bi) (p2 : List ae) : CM prog 127 [vl aL p1, .one (.fn 173 [.pt 0 0 0 0])] [.box [cl af p2]] (cw p1 p2) (fun r => vi r.1) (fun r => [.box [cl af r.2]]) :=
  pw 1 19 [] f127 fun r => (cW f127 6 1 fun K k => have J1 : ∀ {z2}, dG z2 = some r → K.p [] [.box [cl af z2]] := fun {z2} h => k h (uR .ret qD); (uN aL p1 (gv f127 26 1 fun R b => have L1 : ∀ k1 {z1 x1}, aK p1 k1 z1 x1 = some r → (R k1).p [(0, vl aL p1), (1, .one (.fn 173 [.pt 0 0 0 0])), (7, vi p1.length), (8, vi x1)] [.box [cl af z1]] := uI (gh rfl) fun k1 i1 {z1 x1} h => b h (uU (aK.eq_2 ..) (uC (dR aL fun e1 => (yF true [0] (Fi _ _) fun r1 _ => (uC (uR .ret (xN (xN qD))) (uJ i1)))) (uR (.exit 0) (xM (uJ J1))))); uE (L1 aQ))))
def bj (p1 : List bi) (p2 : List ae) : Option (Bool × (List ae)) := au (cw p1 p2) fun r1 => some ((decide (0 ≤ r1.1)), r1.2)
theorem gK (p1 : List bi) (p2 : List ae) : CM prog 82 [vl aL p1, .one (.fn 173 [.pt 0 0 0 0])] [.box [cl af p2]] (bj p1 p2) (fun r => vb r.1) (fun r => [.box [cl af r.2]]) :=
  pw 1 9 [] f82 fun r => (yF true [0] (iC _ _) fun r1 _ => (uR .ret qD))
def nH (x1 : Bool) : OB := some x1
def eQ (p1 p2 p3 : Int) : OB := ak (decide (p2 ≤ p1)) (nH (decide (p1 ≤ p3))) (nH false)
theorem gk (p1 p2 p3 : Int) : CT prog 180 [vi p1, vi p2, vi p3] (eQ p1 p2 p3) vb :=
  dw 15 [] f180 fun r => (cW f180 6 1 fun K k => have J1 : ∀ {x1}, nH x1 = some r → K.p [(6, vb x1)] [] := fun {x1} h => k h uz; (uC (uJ J1) (uJ J1)))
def tg (rec1 : Nat → OB) (p1 : ByteArray) (z1 : Nat) (x2 : Bool) : OB := ak x2 (some false) (rec1 (z1 + (Utf8.decode p1 z1).2))
def w8 : OB := some true
def kD (p1 : ByteArray) : Nat → Nat → OB
 | 0, _ => none
 | k1 + 1, z1 => ak (decide (z1 < p1.size)) (ak (decide (Int.ofNat (Utf8.decode p1 z1).1 < 32)) (tg (kD p1 k1) p1 z1 true) (tg (kD p1 k1) p1 z1 (Int.ofNat (Utf8.decode p1 z1).1 == 127))) (w8)
def sY (p1 : ByteArray) (x1 : Bool) : OB := ak x1 (some false) (kD p1 aQ 0)
def yv (p1 : ByteArray) : OB := ak (decide (256 < (p1.size : Int))) (sY p1 true) (au (utf8_ValidString p1) fun r1 => sY p1 (!r1))
theorem Gz (p1 : ByteArray) : CT prog 219 [vs p1] (yv p1) vb :=
  dw 24 [] f219 fun r => (cW f219 12 2 fun K k => have J1 : ∀ {x1}, sY p1 x1 = some r → K.p [(0, vs p1), (12, vb x1)] [] := fun {x1} h => k h (uC uz (jL f219 14 1 w8 [] [] uz fun K J3 => (Vy p1 (gv f219 58 1 fun R b => have L1 : ∀ k1 {z1}, kD p1 k1 z1 = some r → (R k1).p [(14, vQ 0)] [.raw (.stringIter p1 z1)] := uI (gh rfl) fun k1 i1 {z1} h => b h (uU (kD.eq_2 ..) (Vf 0 (fun b11 => (uT (cW f219 3738 2 fun K k => have J2 : ∀ {x2}, tg (kD p1 k1) p1 z1 x2 = some r → K.p [(14, vQ 0), (23, vb x2)] [.raw (.stringIter p1 (z1 + (Utf8.decode p1 z1).2))] := fun {x2} h => k h (uC jf (uJ i1)); (uC (uJ J2) (uJ J2))))) (fun b11 => (uF (uR (.exit 0) (xM (uJ J3))))))); uE (L1 aQ))))); (uC (uJ J1) (bf (wl _) fun r1 => (uJ J1))))
def oA (x2 : Bool) : OB := some x2
def mU (x3 : Bool) : OB := some x3
def mE (x4 : Bool) : OB := some x4
def mH (x5 : Bool) : OB := some x5
def oW (x6 : Bool) : OB := some x6
def my (x7 : Bool) : OB := some x7
def oH (x8 : Bool) : OB := some x8
def oK (x9 : Bool) : OB := some x9
def oC (p1 : ac) (x1 : Bool) : OB := ak (p1.kind == 0) (ak x1 (ak (p1.s.toList == (ByteArray.mk #[]).toList) (oA ((p1.items.length : Int) == 0)) (oA false)) (oA false)) (ak (p1.kind == 1) (au (eQ p1.n 0 1) fun r1 => ak r1 (ak (p1.scale == 0) (ak (p1.s.toList == (ByteArray.mk #[]).toList) (mU ((p1.items.length : Int) == 0)) (mU false)) (mU false)) (mU false)) (ak (p1.kind == 2) (au (eQ p1.n (-999999999999999999) 999999999999999999) fun r2 => ak r2 (ak (p1.scale == 0) (ak (p1.s.toList == (ByteArray.mk #[]).toList) (mE ((p1.items.length : Int) == 0)) (mE false)) (mE false)) (mE false)) (ak (p1.kind == 3) (au (eQ p1.n (-999999999999999999) 999999999999999999) fun r3 => ak r3 (au (eQ p1.scale 0 12) fun r4 => ak r4 (ak (p1.s.toList == (ByteArray.mk #[]).toList) (mH ((p1.items.length : Int) == 0)) (mH false)) (mH false)) (mH false)) (ak (p1.kind == 4) (ak x1 (au (yv p1.s) fun r5 => ak r5 (oW ((p1.items.length : Int) == 0)) (oW false)) (oW false)) (ak (p1.kind == 5) (au (eQ p1.n (-62135596800) 253402300799) fun r6 => ak r6 (ak (p1.scale == 0) (ak (p1.s.toList == (ByteArray.mk #[]).toList) (my ((p1.items.length : Int) == 0)) (my false)) (my false)) (my false)) (ak (p1.kind == 6) (ak x1 (ak (p1.s.toList == (ByteArray.mk #[]).toList) (oH (decide ((p1.items.length : Int) ≤ 64))) (oH false)) (oH false)) (ak (p1.kind == 7) (ak x1 (ak (p1.s.toList == (ByteArray.mk #[]).toList) (oK (decide (0 < (p1.items.length : Int)))) (oK false)) (oK false)) (some false))))))))
def wN (p1 : ac) : OB := ak (p1.n == 0) (oC p1 (p1.scale == 0)) (oC p1 false)
theorem Fp (p1 : ac) : CT prog 195 [mV p1] (wN p1) vb :=
  dw 154 [] f195 fun r => (cW f195 6 1 fun K k => have J1 : ∀ {x1}, oC p1 x1 = some r → K.p [(1, vR [pi p1.kind, pi p1.n, pi p1.scale, .s (.string p1.s), .ro (ah.els p1.items)]), (3, vb x1)] [] := fun {x1} h => k h (uC (cW f195 468 3 fun K k => have J2 : ∀ {x2}, oA x2 = some r → K.p [(2, vb x2)] [] := fun {x2} h => k h uz; (uC (uC (uN ah p1.items (uJ J2)) (uJ J2)) (uJ J2))) (uC (cW f195 1884 3 fun K k => have J3 : ∀ {x3}, mU x3 = some r → K.p [(2, vb x3)] [] := fun {x3} h => k h uz; (bf (gk _ _ _) fun r1 => (uC (uC (uC (uN ah p1.items (uJ J3)) (uJ J3)) (uJ J3)) (uJ J3)))) (uC (cW f195 7548 3 fun K k => have J4 : ∀ {x4}, mE x4 = some r → K.p [(2, vb x4)] [] := fun {x4} h => k h uz; (bf (gk _ _ _) fun r2 => (uC (uC (uC (uN ah p1.items (uJ J4)) (uJ J4)) (uJ J4)) (uJ J4)))) (uC (cW f195 30204 3 fun K k => have J5 : ∀ {x5}, mH x5 = some r → K.p [(2, vb x5)] [] := fun {x5} h => k h uz; (bf (gk _ _ _) fun r3 => (uC (bf (gk _ _ _) fun r4 => (uC (uC (uN ah p1.items (uJ J5)) (uJ J5)) (uJ J5))) (uJ J5)))) (uC (cW f195 120828 3 fun K k => have J6 : ∀ {x6}, oW x6 = some r → K.p [(2, vb x6)] [] := fun {x6} h => k h uz; (uC (bf (Gz _) fun r5 => (uC (uN ah p1.items (uJ J6)) (uJ J6))) (uJ J6))) (uC (cW f195 483324 3 fun K k => have J7 : ∀ {x7}, my x7 = some r → K.p [(2, vb x7)] [] := fun {x7} h => k h uz; (bf (gk _ _ _) fun r6 => (uC (uC (uC (uN ah p1.items (uJ J7)) (uJ J7)) (uJ J7)) (uJ J7)))) (uC (cW f195 1933308 3 fun K k => have J8 : ∀ {x8}, oH x8 = some r → K.p [(2, vb x8)] [] := fun {x8} h => k h uz; (uC (uC (uN ah p1.items (uJ J8)) (uJ J8)) (uJ J8))) (uC (cW f195 7733244 3 fun K k => have J9 : ∀ {x9}, oK x9 = some r → K.p [(2, vb x9)] [] := fun {x9} h => k h uz; (uC (uC (uN ah p1.items (uJ J9)) (uJ J9)) (uJ J9))) uz)))))))); (uC (uJ J1) (uJ J1)))
def cJ (z2 : Int) : Option (Int × Int) := some ((-1), z2)
def be (q_value_sound_1_s : ac → Int → Int → Option (Bool × Int)) (p1 : List ac) (p2 : Int) : Nat → Int → Int → Option (Int × Int)
 | 0, _, _ => none
 | k1 + 1, z1, x1 => ak (decide (x1 < (p1.length : Int))) (au (at? p1 x1) fun e1 => au (q_value_sound_1_s e1 p2 z1) fun r1 => ak r1.1 (some (x1, r1.2)) ((be q_value_sound_1_s p1 p2 k1) r1.2 (i64.wrap (x1 + 1)))) (cJ z1)
def mJ (q_slices_ContainsFunc_api_Value_api_Value_of_value_sound_1 : (List ac) → Int → Int → Option (Bool × Int)) (p1 : ac) (p2 z1 : Int) (x1 : Bool) : Option (Bool × Int) := ak x1 (some (false, z1)) (au (q_slices_ContainsFunc_api_Value_api_Value_of_value_sound_1 p1.items p2 z1) fun r2 => some ((!r2.1), r2.2))
def o8 (q_slices_ContainsFunc_api_Value_api_Value_of_value_sound_1 : (List ac) → Int → Int → Option (Bool × Int)) (p1 : ac) (p2 z1 : Int) : Option (Bool × Int) := ak (decide (4 < p2)) (mJ q_slices_ContainsFunc_api_Value_api_Value_of_value_sound_1 p1 p2 z1 true) (ak (decide (256 < z1)) (mJ q_slices_ContainsFunc_api_Value_api_Value_of_value_sound_1 p1 p2 z1 true) (au (wN p1) fun r1 => mJ q_slices_ContainsFunc_api_Value_api_Value_of_value_sound_1 p1 p2 z1 (!r1)))
mutual
def aP : Nat → (List ac) → Int → Int → Option (Bool × Int)
 | 0, _, _, _ => none
 | k0 + 1, p1, p2, p3 => au ((bB k0) p1 p2 p3) fun r1 => some ((decide (0 ≤ r1.1)), r1.2)
def bB : Nat → (List ac) → Int → Int → Option (Int × Int)
 | 0, _, _, _ => none
 | k0 + 1, p1, p2, p3 => be (j7 k0) p1 p2 aQ p3 0
def m9 : Nat → ac → Int → Int → Option (Bool × Int)
 | 0, _, _, _ => none
 | k0 + 1, p1, p2, p3 => ak (p1.kind != 0) (o8 (aP k0) p1 p2 (i64.wrap (p3 + 1))) (o8 (aP k0) p1 p2 p3)
def j7 : Nat → ac → Int → Int → Option (Bool × Int)
 | 0, _, _, _ => none
 | k0 + 1, p1, p2, p3 => au ((m9 k0) p1 (i64.wrap (p2 + 1)) p3) fun r1 => some ((!r1.1), r1.2)
end
mutual
theorem jC : ∀ (k0 : Nat) (p1 : List ac) (p2 p3 : Int), CM prog 157 [vl ah p1, .one (.fn 196 [.pv (.rp [[pi p2]] 0 0), .pt 0 0 0 0])] [.box [.pt 1 0 0 0], .box [ci p3]] (aP k0 p1 p2 p3) (fun r => vb r.1) (fun r => [.box [.pt 1 0 0 0], .box [ci r.2]])
  | 0, _, _, _ => Ry (aP.eq_1 ..)
  | k0 + 1, p1, p2, p3 => pw 2 9 [] f157 fun r => (uU (aP.eq_2 ..) (yF true [0,1] (jU k0 _ _ _) fun r1 _ => (uR .ret qD)))
theorem jU : ∀ (k0 : Nat) (p1 : List ac) (p2 p3 : Int), CM prog 197 [vl ah p1, .one (.fn 196 [.pv (.rp [[pi p2]] 0 0), .pt 0 0 0 0])] [.box [.pt 1 0 0 0], .box [ci p3]] (bB k0 p1 p2 p3) (fun r => vi r.1) (fun r => [.box [.pt 1 0 0 0], .box [ci r.2]])
  | 0, _, _, _ => Ry (bB.eq_1 ..)
  | k0 + 1, p1, p2, p3 => pw 2 19 [] f197 fun r => (uU (bB.eq_2 ..) (cW f197 6 1 fun K k => have J1 : ∀ {z2}, cJ z2 = some r → K.p [] [.box [.pt 1 0 0 0], .box [ci z2]] := fun {z2} h => k h (uR .ret qD); (uN ah p1 (gv f197 26 1 fun R b => have L1 : ∀ k1 {z1 x1}, be (j7 k0) p1 p2 k1 z1 x1 = some r → (R k1).p [(0, vl ah p1), (1, .one (.fn 196 [.pv (.rp [[pi p2]] 0 0), .pt 0 0 0 0])), (7, vi p1.length), (8, vi x1)] [.box [.pt 1 0 0 0], .box [ci z1]] := uI (gh rfl) fun k1 i1 {z1 x1} h => b h (uU (be.eq_2 ..) (uC (dR ah fun e1 => (yF true [0,1] (Cl k0 _ _ _) fun r1 _ => (uC (uR .ret (xN (xN qD))) (uJ i1)))) (uR (.exit 0) (xM (uJ J1))))); uE (L1 aQ)))))
theorem AL : ∀ (k0 : Nat) (p1 : ac) (p2 p3 : Int), CM prog 156 [mV p1, vi p2, vQ 0] [.box [ci p3]] (m9 k0 p1 p2 p3) (fun r => vb r.1) (fun r => [.box [ci r.2]])
  | 0, _, _, _ => Ry (m9.eq_1 ..)
  | k0 + 1, p1, p2, p3 => pw 1 33 [5] f156 fun r => (uU (m9.eq_2 ..) (cW f156 6 1 fun K k => have J1 : ∀ {z1}, o8 (aP k0) p1 p2 z1 = some r → K.p [(3, vR [pi p1.kind, pi p1.n, pi p1.scale, .s (.string p1.s), .ro (ah.els p1.items)]), (4, vR [pi p2]), (5, vQ 1)] [.box [ci z1], .box [.pt 0 0 0 0]] := fun {z1} h => k h (cW f156 28 2 fun K k => have J2 : ∀ {x1}, mJ (aP k0) p1 p2 z1 x1 = some r → K.p [(3, vR [pi p1.kind, pi p1.n, pi p1.scale, .s (.string p1.s), .ro (ah.els p1.items)]), (4, vR [pi p2]), (5, vQ 1), (27, vb x1)] [.box [ci z1], .box [.pt 0 0 0 0]] := fun {x1} h => k h (uC (uR .ret qD) (yF true [1,0] (jC k0 _ _ _) fun r2 _ => (uR .ret qD))); (uC (uJ J2) (uC (uJ J2) (bf (Fp _) fun r1 => (uJ J2))))); (uC (uJ J1) (uJ J1))))
theorem Cl : ∀ (k0 : Nat) (p1 : ac) (p2 p3 : Int), CM prog 196 [mV p1, vR [pi p2], vQ 0] [.box [.pt 1 0 0 0], .box [ci p3]] (j7 k0 p1 p2 p3) (fun r => vb r.1) (fun r => [.box [.pt 1 0 0 0], .box [ci r.2]])
  | 0, _, _, _ => Ry (j7.eq_1 ..)
  | k0 + 1, p1, p2, p3 => pw 2 11 [] f196 fun r => (uU (j7.eq_2 ..) (yF true [1] (AL k0 _ _ _) fun r1 _ => (uR .ret qD)))
end
def lU (p1 : ac) : OB := au (m9 aQ p1 1 0) fun r1 => some r1.1
theorem pV (p1 : ac) : CT prog 113 [mV p1] (lU p1) vb :=
  dw 6 [3] f113 fun r => (yF true [0] (AL aQ _ _ _) fun r1 _ => uz)
def bO : OB := some true
def aF (q_value_of_2 : ae → ac → OB) (p1 : List ae) (p2 : List ac) : Nat → Int → OB
 | 0, _ => none
 | k1 + 1, x1 => ak (decide (x1 < (p1.length : Int))) (au (at? p1 x1) fun e1 => au (at? p2 x1) fun e2 => au (q_value_of_2 e1 e2) fun r1 => ak (!r1) (some false) ((aF q_value_of_2 p1 p2 k1) (i64.wrap (x1 + 1)))) (bO)
def cY : OI := some (-1)
def a7 (q_value_of_1_s : ac → Int → Int → (List ae) → OB) (p1 : List ac) (p2 p3 : Int) (p4 : List ae) : Nat → Int → OI
 | 0, _ => none
 | k1 + 1, x1 => ak (decide (x1 < (p1.length : Int))) (au (at? p1 x1) fun e1 => au (q_value_of_1_s e1 p2 p3 p4) fun r1 => ak r1 (some x1) ((a7 q_value_of_1_s p1 p2 p3 p4 k1) (i64.wrap (x1 + 1)))) (cY)
mutual
def bw : Nat → (List ac) → Int → Int → (List ae) → OB
 | 0, _, _, _, _ => none
 | k0 + 1, p1, p2, p3, p4 => au ((bK k0) p1 p2 p3 p4) fun r1 => some (decide (0 ≤ r1))
def aS : Nat → (List ae) → (List ac) → OB
 | 0, _, _ => none
 | k0 + 1, p1, p2 => ak ((p1.length : Int) != (p2.length : Int)) (some false) (aF (qH k0) p1 p2 aQ 0)
def bK : Nat → (List ac) → Int → Int → (List ae) → OI
 | 0, _, _, _, _ => none
 | k0 + 1, p1, p2, p3, p4 => a7 (ng k0) p1 p2 p3 p4 aQ 0
def rQ : Nat → am → ac → OB
 | 0, _, _ => none
 | k0 + 1, p1, p2 => ak (p2.kind == 0) (some true) (ak (p2.kind != p1.kind) (some false) (ak (p2.kind == 3) (some (p2.scale == p1.scale)) (ak (p2.kind == 6) (au ((bw k0) p2.items p1.kind p1.scale p1.fields) fun r1 => some (!r1)) (ak (p2.kind == 7) (au ((aS k0) p1.fields p2.items) fun r2 => some r2) (some true)))))
def ng : Nat → ac → Int → Int → (List ae) → OB
 | 0, _, _, _, _ => none
 | k0 + 1, p1, p2, p3, p4 => au (at? p4 0) fun e1 => au ((rQ k0) e1.type p1) fun r1 => some (!r1)
def qH : Nat → ae → ac → OB
 | 0, _, _ => none
 | k0 + 1, p1, p2 => au ((rQ k0) p1.type p2) fun r1 => some r1
end
mutual
theorem jV : ∀ (k0 : Nat) (p1 : List ac) (p2 p3 : Int) (p4 : List ae), CT prog 157 [vl ah p1, .one (.fn 158 [.pv (.rp [[pi p2, pi p3, .ro (af.els p4)]] 0 0)])] (bw k0 p1 p2 p3 p4) vb
  | 0, _, _, _, _ => FE (bw.eq_1 ..)
  | k0 + 1, p1, p2, p3, p4 => dw 9 [] f157 fun r => (uU (bw.eq_2 ..) (bf (kw k0 _ _ _ _) fun r1 => uz))
theorem fW : ∀ (k0 : Nat) (p1 : List ae) (p2 : List ac), CT prog 159 [vl af p1, vl ah p2, .one (.pv (.fn 160 []))] (aS k0 p1 p2) vb
  | 0, _, _ => FE (aS.eq_1 ..)
  | k0 + 1, p1, p2 => dw 32 [8, 9] f159 fun r => (uU (aS.eq_2 ..) (uN af p1 (uN ah p2 (uC uz (jL f159 14 1 bO [] [] uz fun K J1 => (uN af p1 (gv f159 58 1 fun R b => have L1 : ∀ k1 {x1}, aF (qH k0) p1 p2 k1 x1 = some r → (R k1).p [(1, vl ah p2), (2, .one (.pv (.fn 160 []))), (15, vl af p1), (16, vi p1.length), (17, vi x1)] [] := uI (gh rfl) fun k1 i1 {x1} h => b h (uU (aF.eq_2 ..) (uC (dR af fun e1 => (dR ah fun e2 => (bf (GZ k0 _ _) fun r1 => (uC jf (uJ i1))))) (uR (.exit 0) (xM (uJ J1))))); uE (L1 aQ))))))))
theorem kw : ∀ (k0 : Nat) (p1 : List ac) (p2 p3 : Int) (p4 : List ae), CT prog 197 [vl ah p1, .one (.fn 158 [.pv (.rp [[pi p2, pi p3, .ro (af.els p4)]] 0 0)])] (bK k0 p1 p2 p3 p4) vi
  | 0, _, _, _, _ => FE (bK.eq_1 ..)
  | k0 + 1, p1, p2, p3, p4 => dw 19 [] f197 fun r => (uU (bK.eq_2 ..) (jL f197 6 1 cY [] [] uz fun K J1 => (uN ah p1 (gv f197 26 1 fun R b => have L1 : ∀ k1 {x1}, a7 (ng k0) p1 p2 p3 p4 k1 x1 = some r → (R k1).p [(0, vl ah p1), (1, .one (.fn 158 [.pv (.rp [[pi p2, pi p3, .ro (af.els p4)]] 0 0)])), (7, vi p1.length), (8, vi x1)] [] := uI (gh rfl) fun k1 i1 {x1} h => b h (uU (a7.eq_2 ..) (uC (dR ah fun e1 => (bf (Eu k0 _ _ _ _) fun r1 => (uC jf (uJ i1)))) (uR (.exit 0) (xM (uJ J1))))); uE (L1 aQ)))))
theorem Bg : ∀ (k0 : Nat) (p1 : am) (p2 : ac), CT prog 114 [mT p1, mV p2] (rQ k0 p1 p2) vb
  | 0, _, _ => FE (rQ.eq_1 ..)
  | k0 + 1, p1, p2 => dw 42 [] f114 fun r => (uU (rQ.eq_2 ..) (uC uz (uC uz (uC uz (uC (bf (jV k0 _ _ _ _) fun r1 => uz) (uC (bf (fW k0 _ _) fun r2 => uz) uz))))))
theorem Eu : ∀ (k0 : Nat) (p1 : ac) (p2 p3 : Int) (p4 : List ae), CT prog 158 [mV p1, vR [pi p2, pi p3, .ro (af.els p4)]] (ng k0 p1 p2 p3 p4) vb
  | 0, _, _, _, _ => FE (ng.eq_1 ..)
  | k0 + 1, p1, p2, p3, p4 => dw 12 [] f158 fun r => (uU (ng.eq_2 ..) (nI 6 (dR af fun e1 => (bf (Bg k0 _ _) fun r1 => uz))))
theorem GZ : ∀ (k0 : Nat) (p1 : ae) (p2 : ac), CT prog 160 [mf p1, mV p2] (qH k0 p1 p2) vb
  | 0, _, _ => FE (qH.eq_1 ..)
  | k0 + 1, p1, p2 => dw 9 [] f160 fun r => (uU (qH.eq_2 ..) (bf (Bg k0 _ _) fun r1 => uz))
end
def rJ (p1 : am) (x1 : Int) : Option ae := au (at? p1.fields x1) fun e1 => some e1
def tO (p1 : am) (p2 : Int) : Option ae := ak (p1.kind == 6) (rJ p1 0) (rJ p1 p2)
theorem AP (p1 : am) (p2 : Int) : CT prog 161 [mT p1, vi p2] (tO p1 p2) (fun r => mf r) :=
  dw 13 [4] f161 fun r => (cW f161 6 1 fun K k => have J1 : ∀ {x1}, rJ p1 x1 = some r → K.p [(1, vi x1), (2, vR [pi p1.kind, pi p1.scale, .ro (af.els p1.fields)]), (4, vQ 0)] [.box [ci (0 : Int), vp ByteArray.empty, cb false, ci (0 : Int), ci (0 : Int), .pv (.s (.slice none 0 0))]] := fun {x1} h => k h (dR af fun e1 => uz); (uC (uJ J1) (uJ J1)))
def oV (rec1 : Int → OB) (x1 : Int) (x2 : Bool) : OB := ak x2 (some true) (rec1 (i64.wrap (x1 + 1)))
def wb : OB := some false
def gn (q_value_lacks : am → ac → OB) (p1 : am) (p2 : ac) : Nat → Int → OB
 | 0, _ => none
 | k1 + 1, x1 => ak (decide (x1 < (p2.items.length : Int))) (au (at? p2.items x1) fun e1 => au (tO p1 x1) fun r1 => ak (e1.kind == 0) (ak r1.need (oV (gn q_value_lacks p1 p2 k1) x1 true) (au (q_value_lacks r1.type e1) fun r2 => oV (gn q_value_lacks p1 p2 k1) x1 r2)) (au (q_value_lacks r1.type e1) fun r3 => oV (gn q_value_lacks p1 p2 k1) x1 r3)) (wb)
def jT : Nat → am → ac → OB
 | 0, _, _ => none
 | k0 + 1, p1, p2 => gn (jT k0) p1 p2 aQ 0
theorem xa : ∀ (k0 : Nat) (p1 : am) (p2 : ac), CT prog 115 [mT p1, mV p2] (jT k0 p1 p2) vb
  | 0, _, _ => FE (jT.eq_1 ..)
  | k0 + 1, p1, p2 => dw 33 [6, 7] f115 fun r => (uU (jT.eq_2 ..) (jL f115 6 1 wb [] [] uz fun K J2 => (uN ah p2.items (gv f115 26 1 fun R b => have L1 : ∀ k1 {x1}, gn (jT k0) p1 p2 k1 x1 = some r → (R k1).p [(2, vR [pi p1.kind, pi p1.scale, .ro (af.els p1.fields)]), (9, vl ah p2.items), (10, vi p2.items.length), (11, vi x1)] [] := uI (gh rfl) fun k1 i1 {x1} h => b h (uU (gn.eq_2 ..) (uC (dR ah fun e1 => (bf (AP _ _) fun r1 => (cW f115 6758 3 fun K k => have J1 : ∀ {x2}, oV (gn (jT k0) p1 p2 k1) x1 x2 = some r → K.p [(2, vR [pi p1.kind, pi p1.scale, .ro (af.els p1.fields)]), (9, vl ah p2.items), (10, vi p2.items.length), (11, vi x1), (31, vb x2)] [.dead, .dead] := fun {x2} h => k h (uC jf (uJ i1)); (uC (uC (uJ J1) (bf (xa k0 _ _) fun r2 => (uJ J1))) (bf (xa k0 _ _) fun r3 => (uJ J1)))))) (uR (.exit 0) (xM (uJ J2))))); uE (L1 aQ)))))
def gQ (p1 : am) (p2 : ac) : OI := au (cr p1) fun r1 => ak (r1 != 0) (some r1) (au (lU p2) fun r2 => ak (!r2) (some 1) (au (rQ aQ p1 p2) fun r3 => ak (!r3) (some 2) (au (jT aQ p1 p2) fun r4 => ak r4 (some 9) (some 0))))
theorem pR (p1 : am) (p2 : ac) : CT prog 66 [mT p1, mV p2] (gQ p1 p2) vi :=
  dw 24 [] f66 fun r => (bf (jX _) fun r1 => (uC uz (bf (pV _) fun r2 => (uC uz (bf (Bg aQ _ _) fun r3 => (uC uz (bf (xa aQ _ _) fun r4 => (uC uz uz))))))))
def xm (p1 : eM) (p2 : ae) : OB := some (p1.id == p2.id)
theorem D6 (p1 : eM) (p2 : ae) : CT prog 204 [mA p1, mf p2] (xm p1 p2) vb :=
  dw 10 [] f204 fun r => uz
def cE : OB := some true
def aC (p1 : List eM) (p2 : List ae) : Nat → Int → OB
 | 0, _ => none
 | k1 + 1, x1 => ak (decide (x1 < (p1.length : Int))) (au (at? p1 x1) fun e1 => au (at? p2 x1) fun e2 => au (xm e1 e2) fun r1 => ak (!r1) (some false) ((aC p1 p2 k1) (i64.wrap (x1 + 1)))) (cE)
def bN (p1 : List eM) (p2 : List ae) : OB := ak ((p1.length : Int) != (p2.length : Int)) (some false) (aC p1 p2 aQ 0)
theorem fp (p1 : List eM) (p2 : List ae) : CT prog 205 [vl dP p1, vl af p2, .one (.pv (.fn 204 []))] (bN p1 p2) vb :=
  dw 32 [8, 9] f205 fun r => (uN dP p1 (uN af p2 (uC uz (jL f205 14 1 cE [] [] uz fun K J1 => (uN dP p1 (gv f205 58 1 fun R b => have L1 : ∀ k1 {x1}, aC p1 p2 k1 x1 = some r → (R k1).p [(1, vl af p2), (2, .one (.pv (.fn 204 []))), (15, vl dP p1), (16, vi p1.length), (17, vi x1)] [] := uI (gh rfl) fun k1 i1 {x1} h => b h (uU (aC.eq_2 ..) (uC (dR dP fun e1 => (dR af fun e2 => (bf (D6 _ _) fun r1 => (uC jf (uJ i1))))) (uR (.exit 0) (xM (uJ J1))))); uE (L1 aQ)))))))
def sO (p1 : Int) : OB := some (p1 != p1)
theorem yQ (p1 : Int) : CT prog 208 [vi p1] (sO p1) vb :=
  dw 6 [] f208 fun r => uz
def lD (p1 p2 : Int) : OI := au (sO p1) fun r1 => au (sO p2) fun r2 => ak r1 (ak r2 (some 0) (some (-1))) (ak r2 (some 1) (ak (decide (p1 < p2)) (some (-1)) (ak (decide (p2 < p1)) (some 1) (some 0))))
theorem rt (p1 p2 : Int) : CT prog 179 [vi p1, vi p2] (lD p1 p2) vi :=
  dw 20 [] f179 fun r => (bf (yQ _) fun r1 => (bf (yQ _) fun r2 => (uC (uC uz uz) (uC uz (uC uz (uC uz uz))))))
def qM (p1 : Int) : Option bW := ak (decide (p1 < 0)) (some (bW.mk true ((IntKind.u64.wrap (0 - (IntKind.u64.wrap p1))), 0, 0, 0))) (some (bW.mk false ((IntKind.u64.wrap p1), 0, 0, 0)))
theorem AM (p1 : Int) : CT prog 209 [vi p1] (qM p1) (fun r => mW r) :=
  dw 14 [2] f209 fun r => (uC uz uz)
def j4 (p1 p2 : Int) : Option (Int × Int) := au (some (IntKind.u64.wrap (BitVec.ofInt (IntKind.u64).bits p1 &&& BitVec.ofInt (IntKind.u64).bits 4294967295).toNat)) fun y1 => au (some (IntKind.u64.wrap (BitVec.ofInt (IntKind.u64).bits p2 &&& BitVec.ofInt (IntKind.u64).bits 4294967295).toNat)) fun y2 => au (some (IntKind.u64.wrap ((p1.fdiv (2 ^ (min (32 : Int).toNat (IntKind.u64).bits))) * y2))) fun y3 => au (some ((IntKind.u64.wrap (y1 * y2)).fdiv (2 ^ (min (32 : Int).toNat (IntKind.u64).bits)))) fun y4 => au (some (IntKind.u64.wrap (BitVec.ofInt (IntKind.u64).bits (IntKind.u64.wrap (y3 + y4)) &&& BitVec.ofInt (IntKind.u64).bits 4294967295).toNat)) fun y5 => au (some ((IntKind.u64.wrap (y3 + y4)).fdiv (2 ^ (min (32 : Int).toNat (IntKind.u64).bits)))) fun y6 => au (some (IntKind.u64.wrap (y1 * (p2.fdiv (2 ^ (min (32 : Int).toNat (IntKind.u64).bits)))))) fun y7 => au (some (IntKind.u64.wrap ((p1.fdiv (2 ^ (min (32 : Int).toNat (IntKind.u64).bits))) * (p2.fdiv (2 ^ (min (32 : Int).toNat (IntKind.u64).bits)))))) fun y8 => au (some ((IntKind.u64.wrap (y5 + y7)).fdiv (2 ^ (min (32 : Int).toNat (IntKind.u64).bits)))) fun y9 => some ((IntKind.u64.wrap ((IntKind.u64.wrap (y8 + y6)) + y9)), (IntKind.u64.wrap (p1 * p2)))
theorem og (p1 p2 : Int) : CT prog 243 [vk .u64 p1, vk .u64 p2] (j4 p1 p2) (fun r => .tp [vk .u64 r.1, vk .u64 r.2]) :=
  dw 51 [] f243 fun r => (uY 15 (vk .u64) fun y1 => (uY 19 (vk .u64) fun y2 => (uY 27 (vk .u64) fun y3 => (uY 29 (vk .u64) fun y4 => (uY 32 (vk .u64) fun y5 => (uY 34 (vk .u64) fun y6 => (uY 38 (vk .u64) fun y7 => (uY 42 (vk .u64) fun y8 => (uY 46 (vk .u64) fun y9 => uz)))))))))
def pC (p1 : bW) (p2 : Int) : Option bW := au (j4 p1.size.1 p2) fun r1 => pn (0 ≤ r1.2 ∧ 0 ≤ (0 : Int) ∧ 0 ≤ (0 : Int) ∧ (0 : Int) ≤ 1) <| au (some (IntKind.u64.wrap (r1.1 + ((r1.2 + 0 + (0 : Int)) / 18446744073709551616)))) fun y1 => au (j4 p1.size.2.1 p2) fun r2 => pn (0 ≤ r2.2 ∧ 0 ≤ y1 ∧ 0 ≤ (0 : Int) ∧ (0 : Int) ≤ 1) <| au (some (IntKind.u64.wrap (r2.1 + ((r2.2 + y1 + 0) / 18446744073709551616)))) fun y2 => au (j4 p1.size.2.2.1 p2) fun r3 => pn (0 ≤ r3.2 ∧ 0 ≤ y2 ∧ 0 ≤ (0 : Int) ∧ (0 : Int) ≤ 1) <| au (some (IntKind.u64.wrap (r3.1 + ((r3.2 + y2 + 0) / 18446744073709551616)))) fun y3 => au (j4 p1.size.2.2.2 p2) fun r4 => pn (0 ≤ r4.2 ∧ 0 ≤ y3 ∧ 0 ≤ (0 : Int) ∧ (0 : Int) ≤ 1) <| au (some (IntKind.u64.wrap (r4.1 + ((r4.2 + y3 + 0) / 18446744073709551616)))) fun y4 => some (bW.mk p1.neg (((r1.2 + 0 + (0 : Int)) % 18446744073709551616), ((r2.2 + y1 + 0) % 18446744073709551616), ((r3.2 + y2 + 0) % 18446744073709551616), ((r4.2 + y3 + 0) % 18446744073709551616)))
theorem A6 (p1 : bW) (p2 : Int) : CT prog 226 [mW p1, vk .u64 p2] (pC p1 p2) (fun r => mW r) :=
  dw 37 [2, 4] f226 fun r => (Nj 4 (bf (og _ _) fun r1 => (IP 244 f244 (uY 34 (vk .u64) fun y1 => (bf (og _ _) fun r2 => (IP 244 f244 (uY 34 (vk .u64) fun y2 => (bf (og _ _) fun r3 => (IP 244 f244 (uY 34 (vk .u64) fun y3 => (bf (og _ _) fun r4 => (IP 244 f244 (uY 34 (vk .u64) fun y4 => uz)))))))))))))
def rY (z6 : Bool) (z7 z8 z9 z10 : Int) : Option bW := some (bW.mk z6 (z7, z8, z9, z10))
def dY (p2 : Int) : Nat → Bool → Int → Int → Int → Int → Int → Option bW
 | 0, _, _, _, _, _, _ => none
 | k1 + 1, z1, z2, z3, z4, z5, x1 => ak (decide (x1 < p2)) (au (pC (bW.mk z1 (z2, z3, z4, z5)) 10) fun r1 => (dY p2 k1) r1.neg r1.size.1 r1.size.2.1 r1.size.2.2.1 r1.size.2.2.2 (i64.wrap (x1 + 1))) (rY z1 z2 z3 z4 z5)
def js (p1 : bW) (p2 : Int) : Option bW := dY p2 aQ p1.neg p1.size.1 p1.size.2.1 p1.size.2.2.1 p1.size.2.2.2 0
abbrev NY : List CV := [cb false, ck .u64 (0 : Int), ck .u64 (0 : Int), ck .u64 (0 : Int), ck .u64 (0 : Int)]
theorem tB (p1 : bW) (p2 : Int) : CT prog 210 [mW p1, vi p2] (js p1 p2) (fun r => mW r) :=
  dw 12 [2, 4] f210 fun r => (cW f210 6 1 fun K k => have J1 : ∀ {z6 z7 z8 z9 z10}, rY z6 z7 z8 z9 z10 = some r → K.p [(2, vQ 0), (4, vQ 1)] [.box [cb z6, ck .u64 z7, ck .u64 z8, ck .u64 z9, ck .u64 z10], .box NY] := fun {z6 z7 z8 z9 z10} h => k h uz; (gv f210 26 1 fun R b => have L1 : ∀ k1 {z1 z2 z3 z4 z5 x1}, dY p2 k1 z1 z2 z3 z4 z5 x1 = some r → (R k1).p [(2, vQ 0), (4, vQ 1), (5, vi p2), (6, vi x1)] [.box [cb z1, ck .u64 z2, ck .u64 z3, ck .u64 z4, ck .u64 z5], .box NY] := uI (gh rfl) fun k1 i1 {z1 z2 z3 z4 z5 x1} h => b h (uU (dY.eq_2 ..) (uC (bf (A6 _ _) fun r1 => (uJ i1)) (uR (.exit 0) (xM (uJ J1))))); uE (L1 aQ)))
def pE (p1 p2 : Int) : Option bW := au (qM p1) fun r1 => au (js (bW.mk r1.neg (r1.size.1, r1.size.2.1, r1.size.2.2.1, r1.size.2.2.2)) p2) fun r2 => some (bW.mk r2.neg (r2.size.1, r2.size.2.1, r2.size.2.2.1, r2.size.2.2.2))
theorem vu (p1 p2 : Int) : CT prog 182 [vi p1, vi p2] (pE p1 p2) (fun r => mW r) :=
  dw 9 [4] f182 fun r => (bf (AM _) fun r1 => (bf (tB _ _) fun r2 => uz))
def jn (p1 : bW) : Option bW := some (bW.mk (!p1.neg) (p1.size.1, p1.size.2.1, p1.size.2.2.1, p1.size.2.2.2))
theorem oN (p1 : bW) : CT prog 228 [mW p1] (jn p1) (fun r => mW r) :=
  dw 8 [1, 2] f228 fun r => uz
def n8 (p1 p2 : bW) : OI := ak (decide (p1.size.2.2.2 < p2.size.2.2.2)) (some (-1)) (ak (decide (p2.size.2.2.2 < p1.size.2.2.2)) (some 1) (ak (decide (p1.size.2.2.1 < p2.size.2.2.1)) (some (-1)) (ak (decide (p2.size.2.2.1 < p1.size.2.2.1)) (some 1) (ak (decide (p1.size.2.1 < p2.size.2.1)) (some (-1)) (ak (decide (p2.size.2.1 < p1.size.2.1)) (some 1) (ak (decide (p1.size.1 < p2.size.1)) (some (-1)) (ak (decide (p2.size.1 < p1.size.1)) (some 1) (some 0))))))))
theorem AE (p1 p2 : bW) : CT prog 229 [mW p1, mW p2] (n8 p1 p2) vi :=
  dw 30 [] f229 fun r => (Nj 4 (nI 8 (uC uz (nI 8 (uC uz (nI 8 (uC uz (nI 8 (uC uz (nI 8 (uC uz (nI 8 (uC uz (nI 8 (uC uz (nI 8 (uC uz uz)))))))))))))))))
def kh (z1 : Bool) (z2 z3 z4 z5 : Int) (z6 : Bool) (z7 z8 z9 z10 : Int) : Option bW := pn (0 ≤ z2 ∧ 0 ≤ z7 ∧ z7 < 18446744073709551616 ∧ 0 ≤ (0 : Int) ∧ (0 : Int) ≤ 1) <| pn (0 ≤ z3 ∧ 0 ≤ z8 ∧ z8 < 18446744073709551616 ∧ 0 ≤ (if z2 < z7 + 0 then (1 : Int) else 0) ∧ (if z2 < z7 + 0 then (1 : Int) else 0) ≤ 1) <| au (some ((z3 - z8 - (if z2 < z7 + 0 then (1 : Int) else 0)) % 18446744073709551616)) fun y1 => au (some (if z3 < z8 + (if z2 < z7 + 0 then (1 : Int) else 0) then (1 : Int) else 0)) fun y2 => pn (0 ≤ z4 ∧ 0 ≤ z9 ∧ z9 < 18446744073709551616 ∧ 0 ≤ y2 ∧ y2 ≤ 1) <| pn (0 ≤ z5 ∧ 0 ≤ z10 ∧ z10 < 18446744073709551616 ∧ 0 ≤ (if z4 < z9 + y2 then (1 : Int) else 0) ∧ (if z4 < z9 + y2 then (1 : Int) else 0) ≤ 1) <| au (some ((z5 - z10 - (if z4 < z9 + y2 then (1 : Int) else 0)) % 18446744073709551616)) fun y3 => au (some (if z5 < z10 + (if z4 < z9 + y2 then (1 : Int) else 0) then (1 : Int) else 0)) fun y4 => some (bW.mk z1 (((z2 - z7 - 0) % 18446744073709551616), y1, ((z4 - z9 - y2) % 18446744073709551616), y3))
mutual
def kQ : Nat → bW → bW → Option bW
 | 0, _, _ => none
 | k0 + 1, p1, p2 => ak (!(p1.neg == p2.neg)) (au (jn (bW.mk p2.neg (p2.size.1, p2.size.2.1, p2.size.2.2.1, p2.size.2.2.2))) fun r1 => au ((lE k0) (bW.mk p1.neg (p1.size.1, p1.size.2.1, p1.size.2.2.1, p1.size.2.2.2)) (bW.mk r1.neg (r1.size.1, r1.size.2.1, r1.size.2.2.1, r1.size.2.2.2))) fun r2 => some (bW.mk r2.neg (r2.size.1, r2.size.2.1, r2.size.2.2.1, r2.size.2.2.2))) (au (n8 (bW.mk p1.neg (p1.size.1, p1.size.2.1, p1.size.2.2.1, p1.size.2.2.2)) (bW.mk p2.neg (p2.size.1, p2.size.2.1, p2.size.2.2.1, p2.size.2.2.2))) fun r3 => ak (decide (r3 < 0)) (au (jn (bW.mk p2.neg (p2.size.1, p2.size.2.1, p2.size.2.2.1, p2.size.2.2.2))) fun r4 => kh r4.neg r4.size.1 r4.size.2.1 r4.size.2.2.1 r4.size.2.2.2 p1.neg p1.size.1 p1.size.2.1 p1.size.2.2.1 p1.size.2.2.2) (kh p1.neg p1.size.1 p1.size.2.1 p1.size.2.2.1 p1.size.2.2.2 p2.neg p2.size.1 p2.size.2.1 p2.size.2.2.1 p2.size.2.2.2))
def lE : Nat → bW → bW → Option bW
 | 0, _, _ => none
 | k0 + 1, p1, p2 => ak (!(p1.neg == p2.neg)) (au (jn (bW.mk p2.neg (p2.size.1, p2.size.2.1, p2.size.2.2.1, p2.size.2.2.2))) fun r1 => au ((kQ k0) (bW.mk p1.neg (p1.size.1, p1.size.2.1, p1.size.2.2.1, p1.size.2.2.2)) (bW.mk r1.neg (r1.size.1, r1.size.2.1, r1.size.2.2.1, r1.size.2.2.2))) fun r2 => some (bW.mk r2.neg (r2.size.1, r2.size.2.1, r2.size.2.2.1, r2.size.2.2.2))) (pn (0 ≤ p1.size.1 ∧ 0 ≤ p2.size.1 ∧ 0 ≤ (0 : Int) ∧ (0 : Int) ≤ 1) <| pn (0 ≤ p1.size.2.1 ∧ 0 ≤ p2.size.2.1 ∧ 0 ≤ ((p1.size.1 + p2.size.1 + 0) / 18446744073709551616) ∧ ((p1.size.1 + p2.size.1 + 0) / 18446744073709551616) ≤ 1) <| au (some ((p1.size.2.1 + p2.size.2.1 + ((p1.size.1 + p2.size.1 + 0) / 18446744073709551616)) % 18446744073709551616)) fun y1 => au (some ((p1.size.2.1 + p2.size.2.1 + ((p1.size.1 + p2.size.1 + 0) / 18446744073709551616)) / 18446744073709551616)) fun y2 => pn (0 ≤ p1.size.2.2.1 ∧ 0 ≤ p2.size.2.2.1 ∧ 0 ≤ y2 ∧ y2 ≤ 1) <| pn (0 ≤ p1.size.2.2.2 ∧ 0 ≤ p2.size.2.2.2 ∧ 0 ≤ ((p1.size.2.2.1 + p2.size.2.2.1 + y2) / 18446744073709551616) ∧ ((p1.size.2.2.1 + p2.size.2.2.1 + y2) / 18446744073709551616) ≤ 1) <| au (some ((p1.size.2.2.2 + p2.size.2.2.2 + ((p1.size.2.2.1 + p2.size.2.2.1 + y2) / 18446744073709551616)) % 18446744073709551616)) fun y3 => au (some ((p1.size.2.2.2 + p2.size.2.2.2 + ((p1.size.2.2.1 + p2.size.2.2.1 + y2) / 18446744073709551616)) / 18446744073709551616)) fun y4 => some (bW.mk p1.neg (((p1.size.1 + p2.size.1 + 0) % 18446744073709551616), y1, ((p1.size.2.2.1 + p2.size.2.2.1 + y2) % 18446744073709551616), y3)))
end
mutual
theorem vF : ∀ (k0 : Nat) (p1 p2 : bW), CT prog 211 [mW p1, mW p2] (kQ k0 p1 p2) (fun r => mW r)
  | 0, _, _ => FE (kQ.eq_1 ..)
  | k0 + 1, p1, p2 => dw 44 [2, 3, 4] f211 fun r => (uU (kQ.eq_2 ..) (uC (nI 3 (bf (oN _) fun r1 => (bf (Cg k0 _ _) fun r2 => uz))) (cW f211 14 1 fun K k => have J1 : ∀ {z1 z2 z3 z4 z5 z6 z7 z8 z9 z10}, kh z1 z2 z3 z4 z5 z6 z7 z8 z9 z10 = some r → K.p [(2, vQ 0), (3, vQ 1), (4, vQ 2)] [.box [cb z1, ck .u64 z2, ck .u64 z3, ck .u64 z4, ck .u64 z5], .box [cb z6, ck .u64 z7, ck .u64 z8, ck .u64 z9, ck .u64 z10], .box [cb false, ck .u64 (0 : Int), ck .u64 (0 : Int), ck .u64 (0 : Int), ck .u64 (0 : Int)]] := fun {z1 z2 z3 z4 z5 z6 z7 z8 z9 z10} h => k h (Nj 4 (Hp 17 0 [3] (QJ 230 f230 (Hp 17 0 [3] (QJ 230 f230 (uY 38 (vk .u64) fun y1 => (uY 39 (vk .u64) fun y2 => (Hp 17 0 [3] (QJ 230 f230 (Hp 17 0 [3] (QJ 230 f230 (uY 38 (vk .u64) fun y3 => (uY 39 (vk .u64) fun y4 => uz))))))))))))); (bf (AE _ _) fun r3 => (uC (nI 3 (bf (oN _) fun r4 => (uJ J1))) (uJ J1))))))
theorem Cg : ∀ (k0 : Nat) (p1 p2 : bW), CT prog 227 [mW p1, mW p2] (lE k0 p1 p2) (fun r => mW r)
  | 0, _, _ => FE (lE.eq_1 ..)
  | k0 + 1, p1, p2 => dw 37 [2, 4] f227 fun r => (uU (lE.eq_2 ..) (uC (nI 3 (bf (oN _) fun r1 => (bf (vF k0 _ _) fun r2 => uz))) (Nj 4 (Hp 17 0 [2] (IP 244 f244 (Hp 17 0 [2] (IP 244 f244 (uY 31 (vk .u64) fun y1 => (uY 32 (vk .u64) fun y2 => (Hp 17 0 [2] (IP 244 f244 (Hp 17 0 [2] (IP 244 f244 (uY 31 (vk .u64) fun y3 => (uY 32 (vk .u64) fun y4 => uz)))))))))))))))
end
def qu (p1 : bW) : OB := au (some ((p1.size.1 == 0) && ((p1.size.2.1 == 0) && ((p1.size.2.2.1 == 0) && ((p1.size.2.2.2 == 0) && true))))) fun y1 => some y1
theorem BS (p1 : bW) : CT prog 212 [mW p1] (qu p1) vb :=
  dw 7 [] f212 fun r => (uY 6 vb fun y1 => uz)
def lf (p1 p2 : bW) : OI := au (kQ aQ (bW.mk p1.neg (p1.size.1, p1.size.2.1, p1.size.2.2.1, p1.size.2.2.2)) (bW.mk p2.neg (p2.size.1, p2.size.2.1, p2.size.2.2.1, p2.size.2.2.2))) fun r1 => au (qu (bW.mk r1.neg (r1.size.1, r1.size.2.1, r1.size.2.2.1, r1.size.2.2.2))) fun r2 => ak r2 (some 0) (ak r1.neg (some (-1)) (some 1))
theorem zK (p1 p2 : bW) : CT prog 183 [mW p1, mW p2] (lf p1 p2) vi :=
  dw 15 [5] f183 fun r => (bf (vF aQ _ _) fun r1 => (bf (BS _) fun r2 => (uC uz (uC uz uz))))
def pm (p1 : ByteArray) : OB := some (!(p1.toList == p1.toList))
theorem vE (p1 : ByteArray) : CT prog 231 [vs p1] (pm p1) vb :=
  dw 6 [] f231 fun r => uz
def nj (p1 p2 : ByteArray) : OI := au (pm p1) fun r1 => au (pm p2) fun r2 => ak r1 (ak r2 (some 0) (some (-1))) (ak r2 (some 1) (ak (Op.bytesLess p1.toList p2.toList) (some (-1)) (ak (!(Op.bytesLess p1.toList p2.toList || p1.toList == p2.toList)) (some 1) (some 0))))
theorem zn (p1 p2 : ByteArray) : CT prog 213 [vs p1, vs p2] (nj p1 p2) vi :=
  dw 20 [] f213 fun r => (bf (vE _) fun r1 => (bf (vE _) fun r2 => (uC (uC uz uz) (uC uz (uC uz (uC uz uz))))))
def AU : OI := some 0
def jK (p1 : List Int) : Nat → Int → OI
 | 0, _ => none
 | k1 + 1, x1 => ak (decide (x1 < (p1.length : Int))) (au (at? p1 x1) fun e1 => ak (e1 != 0) (some e1) ((jK p1 k1) (i64.wrap (x1 + 1)))) (AU)
def oQ (p1 : List Int) : OI := jK p1 aQ 0
theorem yh (p1 : List Int) : CT prog 181 [vl eI p1] (oQ p1) vi :=
  dw 18 [] f181 fun r => (jL f181 14 1 AU [(3, vi (0 : Int))] [] uz fun K J1 => (uN eI p1 (gv f181 58 1 fun R b => have L1 : ∀ k1 {x1}, jK p1 k1 x1 = some r → (R k1).p [(3, vi (0 : Int)), (6, vl eI p1), (7, vi p1.length), (8, vi x1)] [] := uI (gh rfl) fun k1 i1 {x1} h => b h (uU (jK.eq_2 ..) (uC (dR eI fun e1 => (uC jf (uJ i1))) (uR (.exit 0) (xM (uJ J1))))); uE (L1 aQ))))
def bF (p1 p2 : List ac) : OI := ak (decide ((p1.length : Int) < (p2.length : Int))) (some (-1)) (some 0)
def aN (q_value_Compare : ac → ac → OI) (p1 p2 : List ac) : Nat → Int → OI
 | 0, _ => none
 | k1 + 1, x1 => ak (decide (x1 < (p1.length : Int))) (au (at? p1 x1) fun e1 => ak (decide ((p2.length : Int) ≤ x1)) (some 1) (au (at? p2 x1) fun e2 => au (q_value_Compare e1 e2) fun r1 => ak (r1 != 0) (some r1) ((aN q_value_Compare p1 p2 k1) (i64.wrap (x1 + 1))))) (bF p1 p2)
def mB (q_value_rest : ac → ac → OI) (p1 p2 : ac) : OI := au (lD p1.n p2.n) fun r9 => au (q_value_rest p1 p2) fun r10 => au (oQ [r9, r10]) fun r11 => some r11
def pr (q_value_rest : ac → ac → OI) (p1 p2 : ac) (r2 r3 x1 : Bool) : OI := ak x1 (au (pE p1.n (i64.wrap (12 - p1.scale))) fun r4 => au (pE p2.n (i64.wrap (12 - p2.scale))) fun r5 => au (lf (bW.mk r4.neg (r4.size.1, r4.size.2.1, r4.size.2.2.1, r4.size.2.2.2)) (bW.mk r5.neg (r5.size.1, r5.size.2.1, r5.size.2.2.1, r5.size.2.2.2))) fun r6 => au (q_value_rest p1 p2) fun r7 => au (oQ [r6, r7]) fun r8 => some r8) (ak r2 (some (-1)) (ak r3 (some 1) (mB q_value_rest p1 p2)))
mutual
def az : Nat → (List ac) → (List ac) → OI
 | 0, _, _ => none
 | k0 + 1, p1, p2 => aN (dS k0) p1 p2 aQ 0
def dS : Nat → ac → ac → OI
 | 0, _, _ => none
 | k0 + 1, p1, p2 => ak (p1.kind != p2.kind) (ak (p1.kind == 0) (some 1) (ak (p2.kind == 0) (some (-1)) (au (lD p1.kind p2.kind) fun r1 => some r1))) (ak (p1.kind == 0) (some 0) (ak (p1.kind == 3) (au (eQ p1.scale 0 12) fun r2 => au (eQ p2.scale 0 12) fun r3 => ak r2 (pr (kU k0) p1 p2 r2 r3 r3) (pr (kU k0) p1 p2 r2 r3 false)) (mB (kU k0) p1 p2)))
def kU : Nat → ac → ac → OI
 | 0, _, _ => none
 | k0 + 1, p1, p2 => au (lD p1.scale p2.scale) fun r1 => au (nj p1.s p2.s) fun r2 => au ((az k0) p1.items p2.items) fun r3 => au (oQ [r1, r2, r3]) fun r4 => some r4
end
mutual
theorem cD : ∀ (k0 : Nat) (p1 p2 : List ac), CT prog 141 [vl ah p1, vl ah p2, .one (.pv (.fn 133 []))] (az k0 p1 p2) vi
  | 0, _, _ => FE (az.eq_1 ..)
  | k0 + 1, p1, p2 => dw 39 [8, 9] f141 fun r => (uU (az.eq_2 ..) (jL f141 6 1 (bF p1 p2) [(0, vl ah p1), (1, vl ah p2)] [] (uN ah p1 (uN ah p2 (uC uz uz))) fun K J1 => (uN ah p1 (gv f141 26 1 fun R b => have L1 : ∀ k1 {x1}, aN (dS k0) p1 p2 k1 x1 = some r → (R k1).p [(0, vl ah p1), (1, vl ah p2), (2, .one (.pv (.fn 133 []))), (11, vl ah p1), (12, vi p1.length), (13, vi x1)] [] := uI (gh rfl) fun k1 i1 {x1} h => b h (uU (aN.eq_2 ..) (uC (dR ah fun e1 => (uN ah p2 (uC jf (dR ah fun e2 => (bf (nL k0 _ _) fun r1 => (uC jf (uJ i1))))))) (uR (.exit 0) (xM (uJ J1))))); uE (L1 aQ)))))
theorem nL : ∀ (k0 : Nat) (p1 p2 : ac), CT prog 133 [mV p1, mV p2] (dS k0 p1 p2) vi
  | 0, _, _ => FE (dS.eq_1 ..)
  | k0 + 1, p1, p2 => dw 72 [] f133 fun r => (uU (dS.eq_2 ..) (uC (uC uz (uC uz (bf (rt _ _) fun r1 => uz))) (jL f133 14 1 (mB (kU k0) p1 p2) [(2, vR [pi p1.kind, pi p1.n, pi p1.scale, .s (.string p1.s), .ro (ah.els p1.items)]), (3, vR [pi p2.kind, pi p2.n, pi p2.scale, .s (.string p2.s), .ro (ah.els p2.items)])] [] (nI 7 (bf (rt _ _) fun r9 => (bf (BU k0 _ _) fun r10 => (bf (yh _) fun r11 => uz)))) fun K J2 => (uC (uR .ret (xN xF)) (uC (nI 5 (bf (gk _ _ _) fun r2 => (bf (gk _ _ _) fun r3 => (cW f133 7540 3 fun K k => have J1 : ∀ {x1}, pr (kU k0) p1 p2 r2 r3 x1 = some r → K.p [(2, vR [pi p1.kind, pi p1.n, pi p1.scale, .s (.string p1.s), .ro (ah.els p1.items)]), (3, vR [pi p2.kind, pi p2.n, pi p2.scale, .s (.string p2.s), .ro (ah.els p2.items)]), (5, vb r2), (6, vb r3), (35, vb x1)] [] := fun {x1} h => k h (uC (nI 15 (bf (vu _ _) fun r4 => (bf (vu _ _) fun r5 => (bf (zK _ _) fun r6 => (bf (BU k0 _ _) fun r7 => (bf (yh _) fun r8 => (uR .ret (xN xF)))))))) (uC (uR .ret (xN xF)) (uC (uR .ret (xN xF)) (uJ J2)))); (uC (uJ J1) (uJ J1)))))) (uJ J2))))))
theorem BU : ∀ (k0 : Nat) (p1 p2 : ac), CT prog 184 [mV p1, mV p2] (kU k0 p1 p2) vi
  | 0, _, _ => FE (kU.eq_1 ..)
  | k0 + 1, p1, p2 => dw 22 [] f184 fun r => (uU (kU.eq_2 ..) (nI 14 (bf (rt _ _) fun r1 => (bf (zn _ _) fun r2 => (bf (cD k0 _ _) fun r3 => (bf (yh _) fun r4 => uz))))))
end
def rP (rec1 : List ae → Int → OI) (x1 : Int) (l2 : List ae) : OI := rec1 l2 (i64.wrap (x1 + 1))
def o9 (rec2 : Int → OI) (x2 : Int) (x3 : Bool) : OI := ak x3 (some 1) (rec2 (i64.wrap (x2 + 1)))
def zo : OI := some 0
def gp (p2 : aj) (l3 : List ae) : Nat → Int → OI
 | 0, _ => none
 | k2 + 1, x2 => ak (decide (x2 < (p2.stats.length : Int))) (au (at? p2.stats x2) fun e2 => au (dq e2.nulls 0 p2.rows) fun r3 => ak (!r3) (some 3) (au (at? [e2.min, e2.max] 0) fun e3 => au (at? l3 x2) fun e4 => au (gQ e4.type e3) fun r4 => ak (r4 != 0) (some r4) (au (at? [e2.min, e2.max] 1) fun e5 => au (gQ e4.type e5) fun r5 => ak (r5 != 0) (some r5) (ak (!((e2.min.kind == 0) == (e2.nulls == p2.rows))) (o9 (gp p2 l3 k2) x2 true) (ak (!((e2.max.kind == 0) == (e2.nulls == p2.rows))) (o9 (gp p2 l3 k2) x2 true) (au (dS aQ e2.min e2.max) fun r6 => o9 (gp p2 l3 k2) x2 (decide (0 < r6)))))))) (zo)
def mN (p2 : aj) (l3 : List ae) : OI := au (bN p2.stats l3) fun r2 => ak (!r2) (some 1) (gp p2 l3 aQ 0)
def iD (p1 : List ae) (p2 : aj) : Nat → List ae → Int → OI
 | 0, _, _ => none
 | k1 + 1, l1, x1 => ak (decide (x1 < (p1.length : Int))) (au (at? p1 x1) fun e1 => au (sF e1.type) fun r1 => ak r1 (pn (l1.length + 1 ≤ 4294967296) <| rP (iD p1 p2 k1) x1 (l1 ++ [e1])) (rP (iD p1 p2 k1) x1 l1)) (mN p2 l1)
def tN (p1 : List ae) (p2 : aj) : OI := iD p1 p2 aQ [] 0
abbrev eR (p2 : aj) : List PV := [.s (.string p2.name), pi p2.schema, pi p2.spec, .ro (ah.els p2.part), pi p2.rows, pi p2.seq, .ro (dP.els p2.stats)]
theorem Fq (p1 : List ae) (p2 : aj) : CT prog 174 [vl af p1, mF p2] (tN p1 p2) vi :=
  dw 98 [7, 10, 12] f174 fun r => (cW f174 14 1 fun K k => have J2 : ∀ {l3}, mN p2 l3 = some r → K.p [(3, vR (eR p2)), (5, .one (.sl 0 6 0 l3.length))] [.arr 6 (af.els l3)] := fun {l3} h => k h (Qf af l3 0 [5,31] (bf (fp _ _) fun r2 => (uC uz (jL f174 126 1 zo [] [.dead] uz fun K J4 => (uN dP p2.stats (gv f174 506 1 fun R b => have L2 : ∀ k2 {x2}, gp p2 l3 k2 x2 = some r → (R k2).p [(3, vR (eR p2)), (5, vl af l3), (36, vl dP p2.stats), (37, vi p2.stats.length), (38, vi x2)] [.dead] := uI (gh rfl) fun k2 i2 {x2} h => b h (uU (gp.eq_2 ..) (uC (dR dP fun e2 => (bf (dm _ _ _) fun r3 => (uC jf (uW 53 ah [e2.min, e2.max] (uA (vi (2 : Int)) (Nj 2 (uT (dR ah fun e3 => (nI 6 (uL af fun e4 a42 => (bf (pR _ _) fun r4 => (uC jf (uT (dR ah fun e5 => (nI 6 (uM af a42 (bf (pR _ _) fun r5 => (uC jf (uF (cW f174 518558 3 fun K k => have J3 : ∀ {x3}, o9 (gp p2 l3 k2) x2 x3 = some r → K.p [(3, vR (eR p2)), (5, vl af l3), (36, vl dP p2.stats), (37, vi p2.stats.length), (38, vi x2), (96, vb x3)] [.dead, .dead, .dead, .dead] := fun {x3} h => k h (uC jf (uJ i2)); (uC (uJ J3) (uC (uJ J3) (bf (nL aQ _ _) fun r6 => (uJ J3)))))))))))))))))))))))) (uR (.exit 2) (xM (uJ J4))))); uE (L2 aQ))))))); (uN af p1 (Mn (.li 5 6) (gv f174 58 1 fun R b => have L1 : ∀ k1 {l1 x1}, iD p1 p2 k1 l1 x1 = some r → (R k1).p [(3, vR (eR p2)), (5, .one (.sl 0 6 0 l1.length)), (15, vl af p1), (16, vi p1.length), (17, vi x1)] [.arr 6 (af.els l1)] := uI (gh rfl) fun k1 i1 {l1 x1} h => b h (uU (iD.eq_2 ..) (uC (cW f174 934 1 fun K k => have J1 : ∀ {l2}, rP (iD p1 p2 k1) x1 l2 = some r → K.p [(3, vR (eR p2)), (5, .one (.sl 0 6 0 l2.length)), (15, vl af p1), (16, vi p1.length), (17, vi x1)] [.arr 6 (af.els l2)] := fun {l2} h => k h (uJ i1); (dR af fun e1 => (bf (yf _) fun r1 => (uC (uW 26 af [e1] (QR af 0 [e1] (uJ J1))) (uJ J1))))) (uR (.exit 0) (xM (uJ J2))))); uE (L1 aQ)))))
def xk (p2 : aj) (r5 : (Bool × (List ae))) : OI := au (tN r5.2 p2) fun r9 => some r9
def kC (p2 : aj) (e2 : cm) (r5 : (Bool × (List ae))) : Nat → Int → OI
 | 0, _ => none
 | k1 + 1, x2 => ak (decide (x2 < (e2.fields.length : Int))) (au (at? e2.fields x2) fun e3 => au (j0 r5.2 e3.source) fun r6 => au (at? r5.2 r6) fun e4 => au (gb e3.transform e4.type) fun r7 => ak (r7.2 != 0) (some 2) (au (at? p2.part x2) fun e5 => au (gQ r7.1 e5) fun r8 => ak (r8 != 0) (some r8) ((kC p2 e2 r5 k1) (i64.wrap (x2 + 1))))) (xk p2 r5)
def l7 (p1 : aw) (p2 : aj) (x1 : Bool) : OI := ak x1 (some 3) (au (at? p1.schemas p2.schema) fun e1 => au (at? p1.specs p2.spec) fun e2 => au (bj e2.fields e1) fun r5 => ak r5.1 (some 9) (ak ((p2.part.length : Int) != (e2.fields.length : Int)) (some 1) (kC p2 e2 r5 aQ 0)))
def yG (p1 : aw) (p2 : aj) : OI := au (pk p2.name) fun r1 => ak (!r1) (some 4) (au (dq p2.schema 0 (i64.wrap ((p1.schemas.length : Int) - 1))) fun r2 => ak (!r2) (l7 p1 p2 true) (au (dq p2.spec 0 (i64.wrap ((p1.specs.length : Int) - 1))) fun r3 => ak (!r3) (l7 p1 p2 true) (au (dq p2.rows 1 2000) fun r4 => ak (!r4) (l7 p1 p2 true) (l7 p1 p2 (decide (p2.seq < 1))))))
theorem GN (p1 : aw) (p2 : aj) : CT prog 128 [mM p1, mF p2] (yG p1 p2) vi :=
  dw 108 [5, 6, 8, 9] f128 fun r => (bf (Bb _) fun r1 => (uC uz (cW f128 102 3 fun K k => have J1 : ∀ {x1}, l7 p1 p2 x1 = some r → K.p [(2, vR [.ro ((eL af).els p1.schemas), .ro (em.els p1.specs), pi p1.nextField, pi p1.nextSeq, pi p1.nextSnap, pi p1.purges, .ro (aM.els p1.snapshots), .ro (lg.els p1.refs), .ro (ic.els p1.props)]), (3, vR (eR p2)), (17, vb x1)] [] := fun {x1} h => k h (uC uz (Hp 15 2 [0,1,2] (dR (eL af) fun e1 => (dR em fun e2 => (yF true [0] (gK _ _) fun r5 _ => (uC uz (uN ah p2.part (uN aL e2.fields (uC uz (jL f128 126 1 (xk p2 r5) [(3, vR (eR p2)), (5, vQ 0)] [.box [cl af r5.2], .dead] (bf (Fq _ _) fun r9 => uz) fun K J2 => (uN aL e2.fields (gv f128 506 1 fun R b => have L1 : ∀ k1 {x2}, kC p2 e2 r5 k1 x2 = some r → (R k1).p [(3, vR (eR p2)), (5, vQ 0), (71, vl aL e2.fields), (72, vi e2.fields.length), (73, vi x2)] [.box [cl af r5.2], .dead] := uI (gh rfl) fun k1 i1 {x2} h => b h (uU (kC.eq_2 ..) (uC (dR aL fun e3 => (Hp 16 1 [3,4] (bf (qP _ _) fun r6 => (dR af fun e4 => (bf (sd _ _) fun r7 => (uC jf (nI 6 (dR ah fun e5 => (bf (pR _ _) fun r8 => (uC jf (uJ i1))))))))))) (uR (.exit 1) (xM (uJ J2))))); uE (L1 aQ))))))))))))); (uN (eL af) p1.schemas (bf (dm _ _ _) fun r2 => (uC (uJ J1) (uN em p1.specs (bf (dm _ _ _) fun r3 => (uC (uJ J1) (bf (dm _ _ _) fun r4 => (uC (uJ J1) (uJ J1))))))))))))
def rE (rec1 : Int → OI) (x1 : Int) (x3 : Bool) : OI := ak x3 (some 1) (rec1 (i64.wrap (x1 + 1)))
def rC (rec1 : Int → OI) (p2 : al) (x1 : Int) (e1 : aj) (x2 : Bool) : OI := ak x2 (some 3) (ak (decide (0 < x1)) (au (at? p2.files (i64.wrap (x1 - 1))) fun e2 => au (some (Op.bytesLess e1.name.toList e2.name.toList || e1.name.toList == e2.name.toList)) fun y1 => rE rec1 x1 y1) (rE rec1 x1 false))
def zV : OI := some 0
def eu (p1 : aw) (p2 : al) : Nat → Int → OI
 | 0, _ => none
 | k1 + 1, x1 => ak (decide (x1 < (p2.files.length : Int))) (au (at? p2.files x1) fun e1 => au (yG p1 e1) fun r1 => ak (r1 != 0) (some r1) (ak (decide (p2.seq < e1.seq)) (rC (eu p1 p2 k1) p2 x1 e1 true) (rC (eu p1 p2 k1) p2 x1 e1 (decide (p2.schema < e1.schema))))) (zV)
def tC (p1 : aw) (p2 : al) : OI := eu p1 p2 aQ 0
abbrev iM (p2 : al) : List PV := [pi p2.id, pi p2.parent, pi p2.seq, pi p2.schema, pi p2.time, pi p2.kind, .ro (aY.els p2.files), .ro (cM.els p2.dat), .ro (b9.els p2.dby)]
theorem FH (p1 : aw) (p2 : al) : CT prog 83 [mM p1, mS p2] (tC p1 p2) vi :=
  dw 51 [6] f83 fun r => (jL f83 6 1 zV [] [] uz fun K J3 => (uN aY p2.files (gv f83 26 1 fun R b => have L1 : ∀ k1 {x1}, eu p1 p2 k1 x1 = some r → (R k1).p [(2, vR (bv p1)), (3, vR (iM p2)), (9, vl aY p2.files), (10, vi p2.files.length), (11, vi x1)] [] := uI (gh rfl) fun k1 i1 {x1} h => b h (uU (eu.eq_2 ..) (uC (dR aY fun e1 => (bf (GN _ _) fun r1 => (uC jf (cW f83 13516 4 fun K k => have J1 : ∀ {x2}, rC (eu p1 p2 k1) p2 x1 e1 x2 = some r → K.p [(2, vR (bv p1)), (3, vR (iM p2)), (5, vi x1), (6, vQ 0), (9, vl aY p2.files), (10, vi p2.files.length), (11, vi x1), (22, vb x2)] [.box [vp e1.name, ci e1.schema, ci e1.spec, cl ah e1.part, ci e1.rows, ci e1.seq, cl dP e1.stats]] := fun {x2} h => k h (uC jf (cW f83 54070 4 fun K k => have J2 : ∀ {x3}, rE (eu p1 p2 k1) x1 x3 = some r → K.p [(2, vR (bv p1)), (3, vR (iM p2)), (9, vl aY p2.files), (10, vi p2.files.length), (11, vi x1), (35, vb x3)] [.dead] := fun {x3} h => k h (uC jf (uJ i1)); (nI 12 (uC (dR aY fun e2 => (uY 48 vb fun y1 => (uJ J2))) (uJ J2))))); (uC (uJ J1) (uJ J1)))))) (uR (.exit 0) (xM (uJ J3))))); uE (L1 aQ))))
def q8 (p1 : aj) (p2 : ByteArray) : OI := au (strings_Compare p1.name p2) fun r1 => some r1
theorem zj (p1 : aj) (p2 : ByteArray) : CT prog 42 [mF p1, vs p2] (q8 p1 p2) vi :=
  dw 9 [] f42 fun r => (bf (BN _ _) fun r1 => uz)
def bk (x3 : Int) (x4 : Bool) : Option (Int × Bool) := some (x3, x4)
def bI (p1 : List aj) (p2 : ByteArray) (x3 : Int) : Option (Int × Bool) := ak (decide (x3 < (p1.length : Int))) (au (at? p1 x3) fun e2 => au (q8 e2 p2) fun r2 => bk x3 (r2 == 0)) (bk x3 false)
def ay (p1 : List aj) (p2 : ByteArray) : Nat → Int → Int → Option (Int × Bool)
 | 0, _, _ => none
 | k1 + 1, x1, x2 => ak (decide (x1 < x2)) (au (some ((IntKind.u64.wrap (i64.wrap (x1 + x2))).fdiv (2 ^ (min (1 : Int).toNat (IntKind.u64).bits)))) fun y1 => au (at? p1 (i64.wrap y1)) fun e1 => au (q8 e1 p2) fun r1 => ak (decide (r1 < 0)) ((ay p1 p2 k1) (i64.wrap ((i64.wrap y1) + 1)) x2) ((ay p1 p2 k1) x1 (i64.wrap y1))) (bI p1 p2 x1)
def bQ (p1 : List aj) (p2 : ByteArray) : Option (Int × Bool) := ay p1 p2 aQ 0 (p1.length : Int)
theorem fy (p1 : List aj) (p2 : ByteArray) : CT prog 41 [vl aY p1, vs p2, .one (.pv (.fn 42 []))] (bQ p1 p2) (fun r => .tp [vi r.1, vb r.2]) :=
  dw 49 [] f41 fun r => (uN aY p1 (cW f41 30 1 fun K k => have J1 : ∀ {x3}, bI p1 p2 x3 = some r → K.p [(0, vl aY p1), (1, vs p2), (2, .one (.pv (.fn 42 []))), (8, vi p1.length), (9, vi x3)] [] := fun {x3} h => k h (cW f41 62 1 fun K k => have J2 : ∀ {x4}, bk x3 x4 = some r → K.p [(6, vi x3), (7, vb x4)] [] := fun {x4} h => k h uz; (uC (dR aY fun e2 => (bf (zj _ _) fun r2 => (uJ J2))) (uJ J2))); (gv f41 60 1 fun R b => have L1 : ∀ k1 {x1 x2}, ay p1 p2 k1 x1 x2 = some r → (R k1).p [(0, vl aY p1), (1, vs p2), (2, .one (.pv (.fn 42 []))), (8, vi p1.length), (9, vi x1), (10, vi x2)] [] := uI (gh rfl) fun k1 i1 {x1 x2} h => b h (uU (ay.eq_2 ..) (uC (uY 22 (vk .u64) fun y1 => (dR aY fun e1 => (bf (zj _ _) fun r1 => (uC (uJ i1) (uJ i1))))) (uR (.exit 0) (xM (uJ J1))))); uE (L1 aQ))))
def vP (p1 : al) (p2 : ByteArray) : Option (aj × Bool) := au (bQ p1.files p2) fun r1 => ak (!r1.2) (some ((aj.mk ByteArray.empty 0 0 [] 0 0 []), false)) (au (at? p1.files r1.1) fun e1 => some (e1, true))
theorem BP (p1 : al) (p2 : ByteArray) : CT prog 16 [mS p1, vs p2] (vP p1 p2) (fun r => .tp [mF r.1, vb r.2]) :=
  dw 23 [4] f16 fun r => (bf (fy _ _) fun r1 => (uC uz (dR aY fun e1 => uz)))
def yO (p1 : List Int) : OB := some (decide (0 < (p1.length : Int)))
def iU (p1 : List Int) : Nat → Int → OB
 | 0, _ => none
 | k1 + 1, x1 => ak (decide (x1 < (p1.length : Int))) (au (at? p1 x1) fun e1 => au (at? p1 (i64.wrap (x1 - 1))) fun e2 => ak (decide (e1 ≤ e2)) (some false) ((iU p1 k1) (i64.wrap (x1 + 1)))) (yO p1)
def pD (p1 : List Int) : OB := iU p1 aQ 1
theorem vW (p1 : List Int) : CT prog 129 [vl eI p1] (pD p1) vb :=
  dw 23 [] f129 fun r => (jL f129 6 1 (yO p1) [(0, vl eI p1)] [] (uN eI p1 uz) fun K J1 => (gv f129 26 1 fun R b => have L1 : ∀ k1 {x1}, iU p1 k1 x1 = some r → (R k1).p [(0, vl eI p1), (3, vi x1)] [] := uI (gh rfl) fun k1 i1 {x1} h => b h (uU (iU.eq_2 ..) (uN eI p1 (uC (nI 9 (dR eI fun e1 => (dR eI fun e2 => (uC jf (uJ i1))))) (uR (.exit 0) (xM (uJ J1)))))); uE (L1 aQ)))
def po (p1 : List ae) (r1 : Int) (x1 : Bool) : Option (am × Bool) := ak x1 (some ((am.mk 0 0 []), false)) (au (at? p1 r1) fun e2 => some (e2.type, true))
def nW (p1 : List ae) (p2 : Int) : Option (am × Bool) := au (j0 p1 p2) fun r1 => ak (decide (r1 < 0)) (po p1 r1 true) (au (at? p1 r1) fun e1 => au (sF e1.type) fun r2 => po p1 r1 (!r2))
theorem tW (p1 : List ae) (p2 : Int) : CT prog 117 [vl af p1, vi p2] (nW p1 p2) (fun r => .tp [mT r.1, vb r.2]) :=
  dw 27 [4] f117 fun r => (bf (qP _ _) fun r1 => (cW f117 28 2 fun K k => have J1 : ∀ {x1}, po p1 r1 x1 = some r → K.p [(0, vl af p1), (4, vQ 0), (6, vi r1), (20, vb x1)] [.box [ci (0 : Int), ci (0 : Int), .pv (.s (.slice none 0 0))]] := fun {x1} h => k h (uC uz (dR af fun e2 => uz)); (uC (uJ J1) (dR af fun e1 => (bf (yf _) fun r2 => (uJ J1))))))
def A3 (p1 : Int) (p2 : List ae) : Option (Bool × (List ae)) := au (nW p2 p1) fun r1 => some ((!r1.2), p2)
theorem Hm (p1 : Int) (p2 : List ae) : CM prog 175 [vi p1, vQ 0] [.box [cl af p2]] (A3 p1 p2) (fun r => vb r.1) (fun r => [.box [cl af r.2]]) :=
  pw 1 14 [4] f175 fun r => (bf (tW _ _) fun r1 => (uR .ret qD))
def iY (z2 : List ae) : Option (Int × (List ae)) := some ((-1), z2)
def bn (p1 : List Int) : Nat → List ae → Int → Option (Int × (List ae))
 | 0, _, _ => none
 | k1 + 1, z1, x1 => ak (decide (x1 < (p1.length : Int))) (au (at? p1 x1) fun e1 => au (A3 e1 z1) fun r1 => ak r1.1 (some (x1, r1.2)) ((bn p1 k1) r1.2 (i64.wrap (x1 + 1)))) (iY z1)
def fv (p1 : List Int) (p2 : List ae) : Option (Int × (List ae)) := bn p1 aQ p2 0
theorem n5 (p1 : List Int) (p2 : List ae) : CM prog 206 [vl eI p1, .one (.fn 175 [.pt 0 0 0 0])] [.box [cl af p2]] (fv p1 p2) (fun r => vi r.1) (fun r => [.box [cl af r.2]]) :=
  pw 1 19 [] f206 fun r => (cW f206 6 1 fun K k => have J1 : ∀ {z2}, iY z2 = some r → K.p [] [.box [cl af z2]] := fun {z2} h => k h (uR .ret qD); (uN eI p1 (gv f206 26 1 fun R b => have L1 : ∀ k1 {z1 x1}, bn p1 k1 z1 x1 = some r → (R k1).p [(0, vl eI p1), (1, .one (.fn 175 [.pt 0 0 0 0])), (7, vi p1.length), (8, vi x1)] [.box [cl af z1]] := uI (gh rfl) fun k1 i1 {z1 x1} h => b h (uU (bn.eq_2 ..) (uC (dR eI fun e1 => (yF true [0] (Hm _ _) fun r1 _ => (uC (uR .ret (xN (xN qD))) (uJ i1)))) (uR (.exit 0) (xM (uJ J1))))); uE (L1 aQ))))
def cq (p1 : List Int) (p2 : List ae) : Option (Bool × (List ae)) := au (fv p1 p2) fun r1 => some ((decide (0 ≤ r1.1)), r1.2)
theorem mY (p1 : List Int) (p2 : List ae) : CM prog 176 [vl eI p1, .one (.fn 175 [.pt 0 0 0 0])] [.box [cl af p2]] (cq p1 p2) (fun r => vb r.1) (fun r => [.box [cl af r.2]]) :=
  pw 1 9 [] f176 fun r => (yF true [0] (n5 _ _) fun r1 _ => (uR .ret qD))
def n9 (p1 p2 : List ac) : OI := au (az aQ p1 p2) fun r1 => some r1
theorem Av (p1 p2 : List ac) : CT prog 94 [vl ah p1, vl ah p2] (n9 p1 p2) vi :=
  dw 8 [] f94 fun r => (bf (cD aQ _ _) fun r1 => uz)
def tH (rec1 : Int → OI) (x3 : Int) (x5 : Bool) : OI := ak x5 (some 1) (rec1 (i64.wrap (x3 + 1)))
def wU (rec1 : Int → OI) (p2 : bc) (p3 : Bool) (x3 : Int) (e2 : List ac) : OI := ak p3 (ak (decide (0 < x3)) (au (at? p2.keys (i64.wrap (x3 - 1))) fun e5 => au (n9 e5 e2) fun r6 => tH rec1 x3 (decide (0 ≤ r6))) (tH rec1 x3 false)) (tH rec1 x3 false)
def oL (rec1 : Int → OI) (p2 : bc) (p3 : Bool) (z1 : List ae) (x3 : Int) (e2 : List ac) : Nat → Int → OI
 | 0, _ => none
 | k2 + 1, x4 => ak (decide (x4 < (e2.length : Int))) (au (at? e2 x4) fun e3 => au (at? p2.ids x4) fun e4 => au (nW z1 e4) fun r4 => au (gQ r4.1 e3) fun r5 => ak (r5 != 0) (some r5) ((oL rec1 p2 p3 z1 x3 e2 k2) (i64.wrap (x4 + 1)))) (wU rec1 p2 p3 x3 e2)
def DF : OI := some 0
def gL (p2 : bc) (p3 : Bool) (z1 : List ae) : Nat → Int → OI
 | 0, _ => none
 | k1 + 1, x3 => ak (decide (x3 < (p2.keys.length : Int))) (au (at? p2.keys x3) fun e2 => ak ((e2.length : Int) != (p2.ids.length : Int)) (some 1) (oL (gL p2 p3 z1 k1) p2 p3 z1 x3 e2 aQ 0)) (DF)
def oX (p2 : bc) (p3 : Bool) (z1 : List ae) (x2 : Bool) : OI := ak x2 (some 9) (au (pD p2.ids) fun r3 => ak (!r3) (some 1) (ak (decide (200 < (p2.keys.length : Int))) (some 7) (ak ((p2.keys.length : Int) == 0) (some 9) (gL p2 p3 z1 aQ 0))))
def tF (p1 : aw) (p2 : bc) (p3 x1 : Bool) : OI := ak x1 (some 3) (au (at? p1.schemas p2.schema) fun e1 => ak ((p2.ids.length : Int) == 0) (oX p2 p3 e1 true) (au (cq p2.ids e1) fun r2 => oX p2 p3 r2.2 r2.1))
def BC (p1 : aw) (p2 : bc) (p3 : Bool) : OI := au (dq p2.schema 0 (i64.wrap ((p1.schemas.length : Int) - 1))) fun r1 => ak (!r1) (tF p1 p2 p3 true) (tF p1 p2 p3 (decide (p2.seq < 1)))
abbrev CY (p2 : bc) : List PV := [pi p2.schema, .ro (eI.els p2.ids), .ro ((eL ah).els p2.keys), pi p2.seq]
theorem JI (p1 : aw) (p2 : bc) (p3 : Bool) : CT prog 130 [mM p1, mD p2, vb p3] (BC p1 p2 p3) vi :=
  dw 117 [7, 12, 13] f130 fun r => (cW f130 12 2 fun K k => have J1 : ∀ {x1}, tF p1 p2 p3 x1 = some r → K.p [(2, vb p3), (3, vR [.ro ((eL af).els p1.schemas), .ro (em.els p1.specs), pi p1.nextField, pi p1.nextSeq, pi p1.nextSnap, pi p1.purges, .ro (aM.els p1.snapshots), .ro (lg.els p1.refs), .ro (ic.els p1.props)]), (4, vR (CY p2)), (28, vb x1)] [] := fun {x1} h => k h (uC uz (dR (eL af) fun e1 => (cW f130 248 3 fun K k => have J2 : ∀ {z1 x2}, oX p2 p3 z1 x2 = some r → K.p [(2, vb p3), (4, vR (CY p2)), (7, vQ 0), (36, vb x2)] [.box [cl af z1]] := fun {z1 x2} h => k h (uC uz (bf (vW _) fun r3 => (uC uz (uN (eL ah) p2.keys (uC uz (uN (eL ah) p2.keys (uC uz (jL f130 126 1 DF [] [.dead] uz fun K J5 => (uN (eL ah) p2.keys (gv f130 506 1 fun R b => have L1 : ∀ k1 {x3}, gL p2 p3 z1 k1 x3 = some r → (R k1).p [(2, vb p3), (4, vR (CY p2)), (7, vQ 0), (63, vl (eL ah) p2.keys), (64, vi p2.keys.length), (65, vi x3)] [.box [cl af z1]] := uI (gh rfl) fun k1 i1 {x3} h => b h (uU (gL.eq_2 ..) (uC (dR (eL ah) fun e2 => (uN ah e2 (uN eI p2.ids (uC jf (jL f130 129638 3 (wU (gL p2 p3 z1 k1) p2 p3 x3 e2) [(2, vb p3), (4, vR (CY p2)), (7, vQ 0), (9, vi x3), (10, vl ah e2), (63, vl (eL ah) p2.keys), (64, vi p2.keys.length), (65, vi x3)] [.box [cl af z1]] (cW f130 259278 3 fun K k => have J4 : ∀ {x5}, tH (gL p2 p3 z1 k1) x3 x5 = some r → K.p [(2, vb p3), (4, vR (CY p2)), (7, vQ 0), (63, vl (eL ah) p2.keys), (64, vi p2.keys.length), (65, vi x3), (115, vb x5)] [.box [cl af z1]] := fun {x5} h => k h (uC jf (uJ i1)); (uC (uC (dR (eL ah) fun e5 => (bf (Av _ _) fun r6 => (uJ J4))) (uJ J4)) (uJ J4))) fun K J3 => (uN ah e2 (gv f130 518554 1 fun R b => have L2 : ∀ k2 {x4}, oL (gL p2 p3 z1 k1) p2 p3 z1 x3 e2 k2 x4 = some r → (R k2).p [(2, vb p3), (4, vR (CY p2)), (7, vQ 0), (9, vi x3), (10, vl ah e2), (63, vl (eL ah) p2.keys), (64, vi p2.keys.length), (65, vi x3), (76, vl ah e2), (77, vi e2.length), (78, vi x4)] [.box [cl af z1]] := uI (gh rfl) fun k2 i2 {x4} h => b h (uU (oL.eq_2 ..) (uC (dR ah fun e3 => (Hp 12 1 [2,3] (dR eI fun e4 => (bf (tW _ _) fun r4 => (bf (pR _ _) fun r5 => (uC (uR .ret (xN (xN (xN (xN xF))))) (uJ i2))))))) (uR (.exit 3) (xM (uJ J3))))); uE (L2 aQ)))))))) (uR (.exit 1) (xM (uJ J5))))); uE (L1 aQ))))))))))); (uN eI p2.ids (uC (uJ J2) (yF true [0] (mY _ _) fun r2 _ => (uJ J2))))))); (uN (eL af) p1.schemas (bf (dm _ _ _) fun r1 => (uC (uJ J1) (uJ J1)))))
def tX (p1 : aj) (p2 : Int) (p3 : List Int) (p4 : List (List ac)) (p5 : Int) : OB := some (decide (p1.seq < p5))
theorem BE (p1 : aj) (p2 : Int) (p3 : List Int) (p4 : List (List ac)) (p5 : Int) : CT prog 178 [mF p1, vR [pi p2, .ro (eI.els p3), .ro ((eL ah).els p4), pi p5]] (tX p1 p2 p3 p4 p5) vb :=
  dw 9 [] f178 fun r => uz
def dI : OI := some (-1)
def aR (p1 : List aj) (p2 : Int) (p3 : List Int) (p4 : List (List ac)) (p5 : Int) : Nat → Int → OI
 | 0, _ => none
 | k1 + 1, x1 => ak (decide (x1 < (p1.length : Int))) (au (at? p1 x1) fun e1 => au (tX e1 p2 p3 p4 p5) fun r1 => ak r1 (some x1) ((aR p1 p2 p3 p4 p5 k1) (i64.wrap (x1 + 1)))) (dI)
def cC (p1 : List aj) (p2 : Int) (p3 : List Int) (p4 : List (List ac)) (p5 : Int) : OI := aR p1 p2 p3 p4 p5 aQ 0
theorem iQ (p1 : List aj) (p2 : Int) (p3 : List Int) (p4 : List (List ac)) (p5 : Int) : CT prog 207 [vl aY p1, .one (.fn 178 [.pv (.rp [[pi p2, .ro (eI.els p3), .ro ((eL ah).els p4), pi p5]] 0 0)])] (cC p1 p2 p3 p4 p5) vi :=
  dw 19 [] f207 fun r => (jL f207 6 1 dI [] [] uz fun K J1 => (uN aY p1 (gv f207 26 1 fun R b => have L1 : ∀ k1 {x1}, aR p1 p2 p3 p4 p5 k1 x1 = some r → (R k1).p [(0, vl aY p1), (1, .one (.fn 178 [.pv (.rp [[pi p2, .ro (eI.els p3), .ro ((eL ah).els p4), pi p5]] 0 0)])), (7, vi p1.length), (8, vi x1)] [] := uI (gh rfl) fun k1 i1 {x1} h => b h (uU (aR.eq_2 ..) (uC (dR aY fun e1 => (bf (BE _ _ _ _ _) fun r1 => (uC jf (uJ i1)))) (uR (.exit 0) (xM (uJ J1))))); uE (L1 aQ))))
def cn (p1 : List aj) (p2 : Int) (p3 : List Int) (p4 : List (List ac)) (p5 : Int) : OB := au (cC p1 p2 p3 p4 p5) fun r1 => some (decide (0 ≤ r1))
theorem hJ (p1 : List aj) (p2 : Int) (p3 : List Int) (p4 : List (List ac)) (p5 : Int) : CT prog 177 [vl aY p1, .one (.fn 178 [.pv (.rp [[pi p2, .ro (eI.els p3), .ro ((eL ah).els p4), pi p5]] 0 0)])] (cn p1 p2 p3 p4 p5) vb :=
  dw 9 [] f177 fun r => (bf (iQ _ _ _ _ _) fun r1 => uz)
def tu (p1 : List aj) (p2 : bc) : OB := au (cn p1 p2.schema p2.ids p2.keys p2.seq) fun r1 => some r1
theorem AR (p1 : List aj) (p2 : bc) : CT prog 131 [vl aY p1, mD p2] (tu p1 p2) vb :=
  dw 8 [] f131 fun r => (bf (hJ _ _ _ _ _) fun r1 => uz)
def pq (rec1 : Int → OI) (x1 : Int) (x3 : Bool) : OI := ak x3 (some 3) (rec1 (i64.wrap (x1 + 1)))
def mP (rec1 : Int → OI) (x1 : Int) (e1 : iP) (r1 : (aj × Bool)) (x2 : Bool) : OI := ak x2 (some 1) (au (at? e1.rows 0) fun e3 => ak (decide (e3 < 0)) (pq rec1 x1 true) (au (at? e1.rows (i64.wrap ((e1.rows.length : Int) - 1))) fun e4 => pq rec1 x1 (decide (r1.1.rows ≤ e4))))
def mQ (rec2 : Int → OI) (x4 : Int) (x5 : Bool) : OI := ak x5 (some 1) (rec2 (i64.wrap (x4 + 1)))
def xL : OI := some 0
def fa (p1 : aw) (p2 : al) : Nat → Int → OI
 | 0, _ => none
 | k2 + 1, x4 => ak (decide (x4 < (p2.dby.length : Int))) (au (at? p2.dby x4) fun e5 => au (BC p1 e5 true) fun r4 => ak (r4 != 0) (some r4) (ak (decide (p2.seq < e5.seq)) (some 3) (ak (decide (0 < x4)) (au (at? p2.dby (i64.wrap (x4 - 1))) fun e6 => ak (decide (e5.seq < e6.seq)) (mQ (fa p1 p2 k2) x4 true) (au (tu p2.files e5) fun r5 => mQ (fa p1 p2 k2) x4 (!r5))) (au (tu p2.files e5) fun r6 => mQ (fa p1 p2 k2) x4 (!r6))))) (xL)
def mK (p1 : aw) (p2 : al) : OI := fa p1 p2 aQ 0
def cL (p1 : aw) (p2 : al) : Nat → Int → OI
 | 0, _ => none
 | k1 + 1, x1 => ak (decide (x1 < (p2.dat.length : Int))) (au (at? p2.dat x1) fun e1 => au (vP p2 e1.file) fun r1 => ak (!r1.2) (some 9) (ak (decide (0 < x1)) (au (at? p2.dat (i64.wrap (x1 - 1))) fun e2 => au (some (Op.bytesLess e1.file.toList e2.file.toList || e1.file.toList == e2.file.toList)) fun y1 => ak y1 (mP (cL p1 p2 k1) x1 e1 r1 true) (au (pD e1.rows) fun r2 => mP (cL p1 p2 k1) x1 e1 r1 (!r2))) (au (pD e1.rows) fun r3 => mP (cL p1 p2 k1) x1 e1 r1 (!r3)))) (mK p1 p2)
def pN (p1 : aw) (p2 : al) : OI := cL p1 p2 aQ 0
theorem D1 (p1 : aw) (p2 : al) : CT prog 84 [mM p1, mS p2] (pN p1 p2) vi :=
  dw 114 [6, 7, 10] f84 fun r => (jL f84 6 1 (mK p1 p2) [(2, vR (bv p1)), (3, vR (iM p2))] [] (jL f84 14 1 xL [] [] uz fun K J5 => (uN b9 p2.dby (gv f84 58 1 fun R b => have L2 : ∀ k2 {x4}, fa p1 p2 k2 x4 = some r → (R k2).p [(2, vR (bv p1)), (3, vR (iM p2)), (72, vl b9 p2.dby), (73, vi p2.dby.length), (74, vi x4)] [] := uI (gh rfl) fun k2 i2 {x4} h => b h (uU (fa.eq_2 ..) (uC (dR b9 fun e5 => (bf (JI _ _ _) fun r4 => (uC jf (uC jf (cW f84 119606 4 fun K k => have J4 : ∀ {x5}, mQ (fa p1 p2 k2) x4 x5 = some r → K.p [(2, vR (bv p1)), (3, vR (iM p2)), (72, vl b9 p2.dby), (73, vi p2.dby.length), (74, vi x4), (91, vb x5)] [.dead] := fun {x5} h => k h (uC jf (uJ i2)); (nI 18 (uC (dR b9 fun e6 => (uC (uJ J4) (bf (AR _ _) fun r5 => (uJ J4)))) (bf (AR _ _) fun r6 => (uJ J4))))))))) (uR (.exit 3) (xM (uJ J5))))); uE (L2 aQ)))) fun K J3 => (uN cM p2.dat (gv f84 26 1 fun R b => have L1 : ∀ k1 {x1}, cL p1 p2 k1 x1 = some r → (R k1).p [(2, vR (bv p1)), (3, vR (iM p2)), (13, vl cM p2.dat), (14, vi p2.dat.length), (15, vi x1)] [] := uI (gh rfl) fun k1 i1 {x1} h => b h (uU (cL.eq_2 ..) (uC (dR cM fun e1 => (bf (BP _ _) fun r1 => (uC jf (cW f84 54070 4 fun K k => have J1 : ∀ {x2}, mP (cL p1 p2 k1) x1 e1 r1 x2 = some r → K.p [(2, vR (bv p1)), (3, vR (iM p2)), (6, vQ 0), (7, vQ 1), (13, vl cM p2.dat), (14, vi p2.dat.length), (15, vi x1), (30, vb x2)] [.box [vp e1.file, cl eI e1.rows], .box [vp r1.1.name, ci r1.1.schema, ci r1.1.spec, cl ah r1.1.part, ci r1.1.rows, ci r1.1.seq, cl dP r1.1.stats]] := fun {x2} h => k h (uC jf (cW f84 216286 4 fun K k => have J2 : ∀ {x3}, pq (cL p1 p2 k1) x1 x3 = some r → K.p [(2, vR (bv p1)), (3, vR (iM p2)), (13, vl cM p2.dat), (14, vi p2.dat.length), (15, vi x1), (51, vb x3)] [.dead, .dead] := fun {x3} h => k h (uC jf (uJ i1)); (nI 16 (dR eI fun e3 => (uC (uJ J2) (uN eI e1.rows (dR eI fun e4 => (uJ J2)))))))); (nI 12 (uC (dR cM fun e2 => (uY 43 vb fun y1 => (uC (uJ J1) (bf (vW _) fun r2 => (uJ J1))))) (bf (vW _) fun r3 => (uJ J1)))))))) (uR (.exit 0) (xM (uJ J3))))); uE (L1 aQ))))
def kZ (rec1 : Int → OI) (p1 : aw) (x1 : Int) (e1 : al) (x5 : Bool) : OI := ak x5 (some 5) (au (tC p1 e1) fun r7 => ak (r7 != 0) (some r7) (au (pN p1 e1) fun r8 => ak (r8 != 0) (some r8) (rec1 (i64.wrap (x1 + 1)))))
def gI (rec1 : Int → OI) (p1 : aw) (x1 : Int) (e1 : al) (x4 : Bool) : OI := ak x4 (some 3) (ak (decide (0 < x1)) (au (at? p1.snapshots (i64.wrap (x1 - 1))) fun e2 => ak (decide (e1.id ≤ e2.id)) (kZ rec1 p1 x1 e1 true) (kZ rec1 p1 x1 e1 (decide (e1.seq ≤ e2.seq)))) (kZ rec1 p1 x1 e1 false))
def ni (rec1 : Int → OI) (p1 : aw) (x1 : Int) (e1 : al) (x3 : Bool) : OI := ak x3 (gI rec1 p1 x1 e1 x3) (au (dq e1.kind 1 3) fun r6 => gI rec1 p1 x1 e1 (!r6))
def jv (rec1 : Int → OI) (p1 : aw) (x1 : Int) (e1 : al) (x2 : Bool) : OI := ak x2 (gI rec1 p1 x1 e1 x2) (au (dq e1.schema 0 (i64.wrap ((p1.schemas.length : Int) - 1))) fun r4 => ak (!r4) (ni rec1 p1 x1 e1 true) (au (dq e1.time (-62135596800) 253402300799) fun r5 => ni rec1 p1 x1 e1 (!r5)))
def vD : OI := some 0
def bL (p1 : aw) : Nat → Int → OI
 | 0, _ => none
 | k1 + 1, x1 => ak (decide (x1 < (p1.snapshots.length : Int))) (au (at? p1.snapshots x1) fun e1 => au (dq e1.id 1 (i64.wrap (p1.nextSnap - 1))) fun r1 => ak (!r1) (jv (bL p1 k1) p1 x1 e1 true) (au (dq e1.parent 0 (i64.wrap (e1.id - 1))) fun r2 => ak (!r2) (jv (bL p1 k1) p1 x1 e1 true) (au (dq e1.seq 1 (i64.wrap (p1.nextSeq - 1))) fun r3 => jv (bL p1 k1) p1 x1 e1 (!r3)))) (vD)
def qA (p1 : aw) : OI := bL p1 aQ 0
abbrev xj (e1 : al) : List CV := [ci e1.id, ci e1.parent, ci e1.seq, ci e1.schema, ci e1.time, ci e1.kind, cl aY e1.files, cl cM e1.dat, cl b9 e1.dby]
theorem BT (p1 : aw) : CT prog 36 [mM p1] (qA p1) vi :=
  dw 99 [4] f36 fun r => (jL f36 6 1 vD [] [] uz fun K J5 => (uN aM p1.snapshots (gv f36 26 1 fun R b => have L1 : ∀ k1 {x1}, bL p1 k1 x1 = some r → (R k1).p [(1, vR (bv p1)), (8, vl aM p1.snapshots), (9, vi p1.snapshots.length), (10, vi x1)] [] := uI (gh rfl) fun k1 i1 {x1} h => b h (uU (bL.eq_2 ..) (uC (dR aM fun e1 => (cW f36 13512 5 fun K k => have J3 : ∀ {x4}, gI (bL p1 k1) p1 x1 e1 x4 = some r → K.p [(1, vR (bv p1)), (3, vi x1), (4, vQ 0), (8, vl aM p1.snapshots), (9, vi p1.snapshots.length), (10, vi x1), (15, vb x4)] [.box (xj e1)] := fun {x4} h => k h (uC jf (cW f36 54054 5 fun K k => have J4 : ∀ {x5}, kZ (bL p1 k1) p1 x1 e1 x5 = some r → K.p [(1, vR (bv p1)), (4, vQ 0), (8, vl aM p1.snapshots), (9, vi p1.snapshots.length), (10, vi x1), (59, vb x5)] [.box (xj e1)] := fun {x5} h => k h (uC jf (bf (FH _ _) fun r7 => (uC jf (bf (D1 _ _) fun r8 => (uC jf (uJ i1)))))); (nI 23 (uC (uL aM fun e2 a29 => (uC (uJ J4) (uM aM a29 (uJ J4)))) (uJ J4))))); (cW f36 27024 1 fun K k => have J1 : ∀ {x2}, jv (bL p1 k1) p1 x1 e1 x2 = some r → K.p [(1, vR (bv p1)), (3, vi x1), (4, vQ 0), (8, vl aM p1.snapshots), (9, vi p1.snapshots.length), (10, vi x1), (15, vb x2)] [.box (xj e1)] := fun {x2} h => k h (uC (uJ J3) (cW f36 108102 1 fun K k => have J2 : ∀ {x3}, ni (bL p1 k1) p1 x1 e1 x3 = some r → K.p [(1, vR (bv p1)), (3, vi x1), (4, vQ 0), (8, vl aM p1.snapshots), (9, vi p1.snapshots.length), (10, vi x1), (15, vb x3)] [.box (xj e1)] := fun {x3} h => k h (uC (uJ J3) (bf (dm _ _ _) fun r6 => (uJ J3))); (uN (eL af) p1.schemas (bf (dm _ _ _) fun r4 => (uC (uJ J2) (bf (dm _ _ _) fun r5 => (uJ J2))))))); (bf (dm _ _ _) fun r1 => (uC (uJ J1) (bf (dm _ _ _) fun r2 => (uC (uJ J1) (bf (dm _ _ _) fun r3 => (uJ J1))))))))) (uR (.exit 0) (xM (uJ J5))))); uE (L1 aQ))))
def kI (p1 p2 : ac) : OB := au (dS aQ p1 p2) fun r1 => some (r1 == 0)
theorem qG (p1 p2 : ac) : CT prog 132 [mV p1, mV p2] (kI p1 p2) vb :=
  dw 9 [] f132 fun r => (bf (nL aQ _ _) fun r1 => uz)
def cy : OB := some true
def aA (p1 p2 : List ac) : Nat → Int → OB
 | 0, _ => none
 | k1 + 1, x1 => ak (decide (x1 < (p1.length : Int))) (au (at? p1 x1) fun e1 => au (at? p2 x1) fun e2 => au (kI e1 e2) fun r1 => ak (!r1) (some false) ((aA p1 p2 k1) (i64.wrap (x1 + 1)))) (cy)
def bh (p1 p2 : List ac) : OB := ak ((p1.length : Int) != (p2.length : Int)) (some false) (aA p1 p2 aQ 0)
theorem fd (p1 p2 : List ac) : CT prog 134 [vl ah p1, vl ah p2, .one (.pv (.fn 132 []))] (bh p1 p2) vb :=
  dw 32 [8, 9] f134 fun r => (uN ah p1 (uN ah p2 (uC uz (jL f134 14 1 cy [] [] uz fun K J1 => (uN ah p1 (gv f134 58 1 fun R b => have L1 : ∀ k1 {x1}, aA p1 p2 k1 x1 = some r → (R k1).p [(1, vl ah p2), (2, .one (.pv (.fn 132 []))), (15, vl ah p1), (16, vi p1.length), (17, vi x1)] [] := uI (gh rfl) fun k1 i1 {x1} h => b h (uU (aA.eq_2 ..) (uC (dR ah fun e1 => (dR ah fun e2 => (bf (qG _ _) fun r1 => (uC jf (uJ i1))))) (uR (.exit 0) (xM (uJ J1))))); uE (L1 aQ)))))))
def iO (x1 : Bool) : Option (Bool × Unit) := some (x1, ())
def ph (p1 p2 : eM) : Option (Bool × Unit) := ak (p1.id == p2.id) (ak (p1.nulls == p2.nulls) (au (kI p1.min p2.min) fun r1 => ak r1 (au (kI p1.max p2.max) fun r2 => iO r2) (iO false)) (iO false)) (iO false)
theorem Br (p1 p2 : eM) : CM prog 136 [mA p1, mA p2, vQ 0] [.box [.pv (.fn 132 [])]] (ph p1 p2) (fun r => vb r.1) (fun r => [.box [.pv (.fn 132 [])]]) :=
  pw 1 34 [] f136 fun r => (cW f136 6 1 fun K k => have J1 : ∀ {x1}, iO x1 = some r → K.p [(5, vb x1)] [.box [.pv (.fn 132 [])]] := fun {x1} h => k h (uR .ret qD); (uC (uC (bf (qG _ _) fun r1 => (uC (bf (qG _ _) fun r2 => (uJ J1)) (uJ J1))) (uJ J1)) (uJ J1)))
def bJ : Option (Bool × Unit) := some (true, ())
def ar (p1 p2 : List eM) : Nat → Int → Option (Bool × Unit)
 | 0, _ => none
 | k1 + 1, x1 => ak (decide (x1 < (p1.length : Int))) (au (at? p1 x1) fun e1 => au (at? p2 x1) fun e2 => au (ph e1 e2) fun r1 => ak (!r1.1) (some (false, ())) ((ar p1 p2 k1) (i64.wrap (x1 + 1)))) (bJ)
def aT (p1 p2 : List eM) : Option (Bool × Unit) := ak ((p1.length : Int) != (p2.length : Int)) (some (false, ())) (ar p1 p2 aQ 0)
abbrev Gv : St := [.box [.pv (.fn 132 [])]]
theorem dl (p1 p2 : List eM) : CM prog 135 [vl dP p1, vl dP p2, .one (.fn 136 [.pt 0 0 0 0])] Gv (aT p1 p2) (fun r => vb r.1) (fun r => Gv) :=
  pw 1 32 [8, 9] f135 fun r => (uN dP p1 (uN dP p2 (uC (uR .ret qD) (jL f135 14 1 bJ [] Gv (uR .ret qD) fun K J1 => (uN dP p1 (gv f135 58 1 fun R b => have L1 : ∀ k1 {x1}, ar p1 p2 k1 x1 = some r → (R k1).p [(1, vl dP p2), (2, .one (.fn 136 [.pt 0 0 0 0])), (15, vl dP p1), (16, vi p1.length), (17, vi x1)] Gv := uI (gh rfl) fun k1 i1 {x1} h => b h (uU (ar.eq_2 ..) (uC (dR dP fun e1 => (dR dP fun e2 => (yF true [0] (Br _ _) fun r1 _ => (uC (uR .ret (xN (xN qD))) (uJ i1))))) (uR (.exit 0) (xM (uJ J1))))); uE (L1 aQ)))))))
def gi (x1 : Bool) : OB := some x1
def oM (p1 p2 : aj) : OB := ak (p1.name.toList == p2.name.toList) (ak (p1.schema == p2.schema) (ak (p1.spec == p2.spec) (ak (p1.rows == p2.rows) (au (bh p1.part p2.part) fun r1 => ak r1 (au (aT p1.stats p2.stats) fun r2 => gi r2.1) (gi false)) (gi false)) (gi false)) (gi false)) (gi false)
theorem CR (p1 p2 : aj) : CT prog 85 [mF p1, mF p2] (oM p1 p2) vb :=
  dw 48 [5] f85 fun r => (cW f85 14 1 fun K k => have J1 : ∀ {x1}, gi x1 = some r → K.p [(4, vb x1)] [.dead] := fun {x1} h => k h uz; (uC (uC (uC (uC (bf (fd _ _) fun r1 => (uC (yF true [0] (dl _ _) fun r2 _ => (uJ J1)) (uJ J1))) (uJ J1)) (uJ J1)) (uJ J1)) (uJ J1)))
def rg (rec2 : (List (ByteArray × aj)) → Int → OI) (z2 : List (ByteArray × aj)) (x2 : Int) (e2 : aj) (x4 : Bool) : OI := ak x4 (some 5) (rec2 (jQ v7 z2 e2.name e2) (i64.wrap (x2 + 1)))
def v6 (rec1 : (List (ByteArray × aj)) → Int → OI) (x1 : Int) (z3 : List (ByteArray × aj)) : OI := rec1 z3 (i64.wrap (x1 + 1))
def fx (rec1 : (List (ByteArray × aj)) → Int → OI) (x1 : Int) (e1 : al) : Nat → (List (ByteArray × aj)) → Int → OI
 | 0, _, _ => none
 | k2 + 1, z2, x2 => ak (decide (x2 < (e1.files.length : Int))) (au (at? e1.files x2) fun e2 => au (some ((iJ v7 z2 e2.name).getD (aj.mk ByteArray.empty 0 0 [] 0 0 []))) fun x3 => ak ((iJ v7 z2 e2.name).isSome) (au (oM x3 e2) fun r1 => rg (fx rec1 x1 e1 k2) z2 x2 e2 (!r1)) (rg (fx rec1 x1 e1 k2) z2 x2 e2 false)) (v6 rec1 x1 z2)
def zO : OI := some 0
def eC (p1 : aw) : Nat → (List (ByteArray × aj)) → Int → OI
 | 0, _, _ => none
 | k1 + 1, z1, x1 => ak (decide (x1 < (p1.snapshots.length : Int))) (au (at? p1.snapshots x1) fun e1 => fx (eC p1 k1) x1 e1 aQ z1 0) (zO)
def tK (p1 : aw) : OI := eC p1 aQ [] 0
abbrev Oq (p1 : aw) (x1 : Int) : Fr := [(3, .one (.mp 0)), (12, vl aM p1.snapshots), (13, vi (p1.snapshots.length : Int)), (14, vi x1)]
theorem FA (p1 : aw) : CT prog 37 [mM p1] (tK p1) vi :=
  dw 45 [5, 7, 8] f37 fun r => (WN v7 aY true (jL f37 14 1 zO [] [.dead] uz fun K J3 => (uN aM p1.snapshots (gv f37 58 1 fun R b => have L1 : ∀ k1 {z1 x1}, eC p1 k1 z1 x1 = some r → (R k1).p (Oq p1 x1) [rK v7 aY true z1] := uI (gh rfl) fun k1 i1 {z1 x1} h => b h (uU (eC.eq_2 ..) (uC (cW f37 934 1 fun K k => have J2 : ∀ {z3}, v6 (eC p1 k1) x1 z3 = some r → K.p (Oq p1 x1) [rK v7 aY true z3] := fun {z3} h => k h (uJ i1); (dR aM fun e1 => (uN aY e1.files (gv f37 14950 2 fun R b => have L2 : ∀ k2 {z2 x2}, fx (eC p1 k1) x1 e1 k2 z2 x2 = some r → (R k2).p [(3, .one (.mp 0)), (12, vl aM p1.snapshots), (13, vi p1.snapshots.length), (14, vi x1), (19, vl aY e1.files), (20, vi e1.files.length), (21, vi x2)] [rK v7 aY true z2, .dead] := uI (gh rfl) fun k2 i2 {z2 x2} h => b h (uU (fx.eq_2 ..) (uC (dR aY fun e2 => (Wh v7 aY true 0 (aj.mk ByteArray.empty (0 : Int) (0 : Int) [] (0 : Int) (0 : Int) []) 9 57 true fun x3 _ => (cW f37 7654604 4 fun K k => have J1 : ∀ {x4}, rg (fx (eC p1 k1) x1 e1 k2) z2 x2 e2 x4 = some r → K.p [(3, .one (.mp 0)), (7, vQ 2), (12, vl aM p1.snapshots), (13, vi p1.snapshots.length), (14, vi x1), (19, vl aY e1.files), (20, vi e1.files.length), (21, vi x2), (38, vb x4)] [rK v7 aY true z2, .dead, .box [vp e2.name, ci e2.schema, ci e2.spec, cl ah e2.part, ci e2.rows, ci e2.seq, cl dP e2.stats], .dead] := fun {x4} h => k h (uC (uR .ret (xN (xN (xN (xN xF))))) (WX v7 aY true 0 (m := z2) (k0 := e2.name) (u := e2) 9 (uJ i2))); (uC (bf (CR _ _) fun r1 => (uJ J1)) (uJ J1))))) (uR (.exit 2) (xM (uJ J2))))); uE (L2 aQ))))) (uR (.exit 0) (xM (uJ J3))))); uE (L1 aQ)))))
def yz (p1 p2 : gV) : Option (Bool × gV) := some ((p1.name.toList == p2.name.toList), p2)
theorem E5 (p1 p2 : gV) : CM prog 88 [.ag [vp p1.name, cb p1.branch, ci p1.snapshot], vQ 0] [.box [vp p2.name, cb p2.branch, ci p2.snapshot]] (yz p1 p2) (fun r => vb r.1) (fun r => [.box [vp r.2.name, cb r.2.branch, ci r.2.snapshot]]) :=
  pw 1 9 [] f88 fun r => (uR .ret qD)
def fo (z4 : ByteArray) (z5 : Bool) (z6 : Int) : Option (Int × gV) := some ((-1), (gV.mk z4 z5 z6))
def aZ (p1 : List gV) : Nat → ByteArray → Bool → Int → Int → Option (Int × gV)
 | 0, _, _, _, _ => none
 | k1 + 1, z1, z2, z3, x1 => ak (decide (x1 < (p1.length : Int))) (au (at? p1 x1) fun e1 => au (yz e1 (gV.mk z1 z2 z3)) fun r1 => ak r1.1 (some (x1, r1.2)) ((aZ p1 k1) r1.2.name r1.2.branch r1.2.snapshot (i64.wrap (x1 + 1)))) (fo z1 z2 z3)
def dE (p1 : List gV) (p2 : gV) : Option (Int × gV) := aZ p1 aQ p2.name p2.branch p2.snapshot 0
theorem kY (p1 : List gV) (p2 : gV) : CM prog 139 [vl lg p1, .one (.fn 88 [.pt 0 0 0 0])] [.box [vp p2.name, cb p2.branch, ci p2.snapshot]] (dE p1 p2) (fun r => vi r.1) (fun r => [.box [vp r.2.name, cb r.2.branch, ci r.2.snapshot]]) :=
  pw 1 19 [] f139 fun r => (cW f139 6 1 fun K k => have J1 : ∀ {z4 z5 z6}, fo z4 z5 z6 = some r → K.p [] [.box [vp z4, cb z5, ci z6]] := fun {z4 z5 z6} h => k h (uR .ret qD); (uN lg p1 (gv f139 26 1 fun R b => have L1 : ∀ k1 {z1 z2 z3 x1}, aZ p1 k1 z1 z2 z3 x1 = some r → (R k1).p [(0, vl lg p1), (1, .one (.fn 88 [.pt 0 0 0 0])), (7, vi p1.length), (8, vi x1)] [.box [vp z1, cb z2, ci z3]] := uI (gh rfl) fun k1 i1 {z1 z2 z3 x1} h => b h (uU (aZ.eq_2 ..) (uC (dR lg fun e1 => (yF true [0] (E5 _ _) fun r1 _ => (uC (uR .ret (xN (xN qD))) (uJ i1)))) (uR (.exit 0) (xM (uJ J1))))); uE (L1 aQ))))
def cj (p1 : List gV) (p2 : gV) : Option (Bool × gV) := au (dE p1 p2) fun r1 => some ((decide (0 ≤ r1.1)), r1.2)
theorem kl (p1 : List gV) (p2 : gV) : CM prog 87 [vl lg p1, .one (.fn 88 [.pt 0 0 0 0])] [.box [vp p2.name, cb p2.branch, ci p2.snapshot]] (cj p1 p2) (fun r => vb r.1) (fun r => [.box [vp r.2.name, cb r.2.branch, ci r.2.snapshot]]) :=
  pw 1 9 [] f87 fun r => (yF true [0] (kY _ _) fun r1 _ => (uR .ret qD))
def nw (p1 : al) (p2 : Int) : OB := some (p1.id == p2)
theorem zB (p1 : al) (p2 : Int) : CT prog 40 [mS p1, vR [pi p2]] (nw p1 p2) vb :=
  dw 8 [] f40 fun r => uz
def dt : OI := some (-1)
def ap (p1 : List al) (p2 : Int) : Nat → Int → OI
 | 0, _ => none
 | k1 + 1, x1 => ak (decide (x1 < (p1.length : Int))) (au (at? p1 x1) fun e1 => au (nw e1 p2) fun r1 => ak r1 (some x1) ((ap p1 p2 k1) (i64.wrap (x1 + 1)))) (dt)
def bG (p1 : List al) (p2 : Int) : OI := ap p1 p2 aQ 0
theorem gX (p1 : List al) (p2 : Int) : CT prog 39 [vl aM p1, .one (.fn 40 [.pv (.rp [[pi p2]] 0 0)])] (bG p1 p2) vi :=
  dw 19 [] f39 fun r => (jL f39 6 1 dt [] [] uz fun K J1 => (uN aM p1 (gv f39 26 1 fun R b => have L1 : ∀ k1 {x1}, ap p1 p2 k1 x1 = some r → (R k1).p [(0, vl aM p1), (1, .one (.fn 40 [.pv (.rp [[pi p2]] 0 0)])), (7, vi p1.length), (8, vi x1)] [] := uI (gh rfl) fun k1 i1 {x1} h => b h (uU (ap.eq_2 ..) (uC (dR aM fun e1 => (bf (zB _ _) fun r1 => (uC jf (uJ i1)))) (uR (.exit 0) (xM (uJ J1))))); uE (L1 aQ))))
def iq (p1 : aw) (p2 : Int) : Option (al × Bool) := au (bG p1.snapshots p2) fun r1 => ak (decide (r1 < 0)) (some ((al.mk 0 0 0 0 0 0 [] [] []), false)) (au (at? p1.snapshots r1) fun e1 => some (e1, true))
theorem xK (p1 : aw) (p2 : Int) : CT prog 15 [mM p1, vi p2] (iq p1 p2) (fun r => .tp [mS r.1, vb r.2]) :=
  dw 19 [4] f15 fun r => (bf (gX _ _) fun r1 => (uC uz (dR aM fun e1 => uz)))
def qp (p1 : ByteArray) : OB := au (lU (ac.mk 4 0 0 p1 [])) fun r1 => some r1
theorem wA (p1 : ByteArray) : CT prog 89 [vs p1] (qp p1) vb :=
  dw 6 [] f89 fun r => (bf (pV _) fun r1 => uz)
end Go.Proofs.YtfnmbpecdjncfaaGreatDoor
namespace Go.Proofs.YtfnmbpecdjncfaaGreatDoor
open Go.SX Go Tryz
open Go.IntKind (i64)
set_option maxRecDepth 100000
set_option maxHeartbeats 8000000
def pU (rec1 : Int → OI) (x1 : Int) (x2 : Bool) : OI := ak x2 (some 9) (rec1 (i64.wrap (x1 + 1)))
def qb (rec2 : Int → OI) (x3 : Int) (x4 : Bool) : OI := ak x4 (some 1) (rec2 (i64.wrap (x3 + 1)))
def AQ : OI := some 0
def ik (p1 : aw) : Nat → Int → OI
 | 0, _ => none
 | k2 + 1, x3 => ak (decide (x3 < (p1.props.length : Int))) (au (at? p1.props x3) fun e2 => au (si e2.name) fun r4 => ak (!r4) (some 4) (ak (decide (0 < x3)) (au (at? p1.props (i64.wrap (x3 - 1))) fun e3 => au (some (Op.bytesLess e2.name.toList e3.name.toList || e2.name.toList == e3.name.toList)) fun y1 => ak y1 (qb (ik p1 k2) x3 true) (au (qp e2.value) fun r5 => qb (ik p1 k2) x3 (!r5))) (au (qp e2.value) fun r6 => qb (ik p1 k2) x3 (!r6)))) (AQ)
def s8 (p1 : aw) : OI := ik p1 aQ 0
def im (p1 : aw) : Nat → Int → OI
 | 0, _ => none
 | k1 + 1, x1 => ak (decide (x1 < (p1.refs.length : Int))) (au (at? p1.refs x1) fun e1 => au (si e1.name) fun r1 => ak (!r1) (some (4 : Int)) (pn (0 ≤ (0 : Int) ∧ (0 : Int) ≤ x1 ∧ x1 ≤ (p1.refs.length : Int)) <| au (cj ((p1.refs.drop (0 : Int).toNat).take (x1.toNat - (0 : Int).toNat)) e1) fun r2 => ak r2.1 (some (5 : Int)) (au (iq p1 r2.2.snapshot) fun r3 => ak (!r3.2) (ak r2.2.branch (pU (im p1 k1) x1 (!(r2.2.snapshot == 0))) (pU (im p1 k1) x1 true)) (pU (im p1 k1) x1 false)))) (s8 p1)
def yA (p1 : aw) : OI := im p1 aQ 0
theorem Gm (p1 : aw) : CT prog 38 [mM p1] (yA p1) vi :=
  dw 80 [4, 5, 8] f38 fun r => (jL f38 6 1 (s8 p1) [(1, vR (bv p1))] [] (jL f38 14 1 AQ [] [] uz fun K J4 => (uN ic p1.props (gv f38 58 1 fun R b => have L2 : ∀ k2 {x3}, ik p1 k2 x3 = some r → (R k2).p [(1, vR (bv p1)), (48, vl ic p1.props), (49, vi p1.props.length), (50, vi x3)] [] := uI (gh rfl) fun k2 i2 {x3} h => b h (uU (ik.eq_2 ..) (uC (dR ic fun e2 => (bf (ym _) fun r4 => (uC jf (cW f38 14950 3 fun K k => have J3 : ∀ {x4}, qb (ik p1 k2) x3 x4 = some r → K.p [(1, vR (bv p1)), (48, vl ic p1.props), (49, vi p1.props.length), (50, vi x3), (78, vb x4)] [.dead] := fun {x4} h => k h (uC jf (uJ i2)); (nI 12 (uC (dR ic fun e3 => (uY 71 vb fun y1 => (uC (uJ J3) (bf (wA _) fun r5 => (uJ J3))))) (bf (wA _) fun r6 => (uJ J3)))))))) (uR (.exit 2) (xM (uJ J4))))); uE (L2 aQ)))) fun K J2 => (uN lg p1.refs (gv f38 26 1 fun R b => have L1 : ∀ k1 {x1}, im p1 k1 x1 = some r → (R k1).p [(1, vR (bv p1)), (10, vl lg p1.refs), (11, vi p1.refs.length), (12, vi x1)] [] := uI (gh rfl) fun k1 i1 {x1} h => b h (uU (im.eq_2 ..) (uC (dR lg fun e1 => (bf (ym _) fun r1 => (uC jf (uX lg (yF true [0] (kl _ _) fun r2 _ => (uC jf (bf (xK _ _) fun r3 => (cW f38 27038 3 fun K k => have J1 : ∀ {x2}, pU (im p1 k1) x1 x2 = some r → K.p [(1, vR (bv p1)), (10, vl lg p1.refs), (11, vi p1.refs.length), (12, vi x1), (45, vb x2)] [.dead, .dead] := fun {x2} h => k h (uC jf (uJ i1)); (uC (uC (uJ J1) (uJ J1)) (uJ J1)))))))))) (uR (.exit 0) (xM (uJ J2))))); uE (L1 aQ))))
def kT (p1 : aw) (x2 : Bool) : OI := ak x2 (some 3) (au (s9 p1) fun r6 => ak (r6 != 0) (some r6) (au (wW p1) fun r7 => ak (r7 != 0) (some r7) (au (qA p1) fun r8 => ak (r8 != 0) (some r8) (au (tK p1) fun r9 => ak (r9 != 0) (some r9) (au (yA p1) fun r10 => ak (r10 != 0) (some r10) (some 0))))))
def lh (p1 : aw) (x1 : Bool) : OI := ak x1 (some 9) (au (dq p1.nextField 1 1099511627776) fun r2 => ak (!r2) (kT p1 true) (au (dq p1.nextSeq 1 1099511627776) fun r3 => ak (!r3) (kT p1 true) (au (dq p1.nextSnap 1 1099511627776) fun r4 => ak (!r4) (kT p1 true) (au (dq p1.purges 0 1099511627776) fun r5 => kT p1 (!r5)))))
def m7 (p1 : aw) : OI := au (pl p1) fun r1 => ak (r1 != 0) (some r1) (ak ((p1.schemas.length : Int) == 0) (lh p1 true) (lh p1 ((p1.specs.length : Int) == 0)))
theorem Fo (p1 : aw) : CT prog 14 [mM p1] (m7 p1) vi :=
  dw 57 [] f14 fun r => (bf (E0 _) fun r1 => (uC uz (cW f14 28 2 fun K k => have J1 : ∀ {x1}, lh p1 x1 = some r → K.p [(1, vR (bv p1)), (21, vb x1)] [] := fun {x1} h => k h (uC uz (cW f14 60 2 fun K k => have J2 : ∀ {x2}, kT p1 x2 = some r → K.p [(1, vR (bv p1)), (43, vb x2)] [] := fun {x2} h => k h (uC uz (uA (vi (5 : Int)) (Nj 5 (uT (uM UK (show at? [(PV.fn 34 []), (PV.fn 35 []), (PV.fn 36 []), (PV.fn 37 []), (PV.fn 38 [])] (0 : Int) = some (PV.fn 34 []) from rfl) (bf (D2 _) fun r6 => (uC uz (uT (uM UK (show at? [(PV.fn 34 []), (PV.fn 35 []), (PV.fn 36 []), (PV.fn 37 []), (PV.fn 38 [])] (1 : Int) = some (PV.fn 35 []) from rfl) (bf (FD _) fun r7 => (uC uz (uT (uM UK (show at? [(PV.fn 34 []), (PV.fn 35 []), (PV.fn 36 []), (PV.fn 37 []), (PV.fn 38 [])] (2 : Int) = some (PV.fn 36 []) from rfl) (bf (BT _) fun r8 => (uC uz (uT (uM UK (show at? [(PV.fn 34 []), (PV.fn 35 []), (PV.fn 36 []), (PV.fn 37 []), (PV.fn 38 [])] (3 : Int) = some (PV.fn 37 []) from rfl) (bf (FA _) fun r9 => (uC uz (uT (uM UK (show at? [(PV.fn 34 []), (PV.fn 35 []), (PV.fn 36 []), (PV.fn 37 []), (PV.fn 38 [])] (4 : Int) = some (PV.fn 38 []) from rfl) (bf (Gm _) fun r10 => (uC uz (uF uz)))))))))))))))))))))))); (bf (dm _ _ _) fun r2 => (uC (uJ J2) (bf (dm _ _ _) fun r3 => (uC (uJ J2) (bf (dm _ _ _) fun r4 => (uC (uJ J2) (bf (dm _ _ _) fun r5 => (uJ J2)))))))))); (uN (eL af) p1.schemas (uC (uJ J1) (uN em p1.specs (uJ J1)))))))
def xO : Option (List Int) := some []
def jq (p1 : al) (p2 : ByteArray) : Nat → Int → Option (List Int)
 | 0, _ => none
 | k1 + 1, x1 => ak (decide (x1 < (p1.dat.length : Int))) (au (at? p1.dat x1) fun e1 => ak (e1.file.toList == p2.toList) (some e1.rows) ((jq p1 p2 k1) (i64.wrap (x1 + 1)))) (xO)
def xn (p1 : al) (p2 : ByteArray) : Option (List Int) := jq p1 p2 aQ 0
theorem DY (p1 : al) (p2 : ByteArray) : CT prog 18 [mS p1, vs p2] (xn p1 p2) (vl eI) :=
  dw 21 [6] f18 fun r => (jL f18 6 1 xO [] [] uz fun K J1 => (uN cM p1.dat (gv f18 26 1 fun R b => have L1 : ∀ k1 {x1}, jq p1 p2 k1 x1 = some r → (R k1).p [(1, vs p2), (8, vl cM p1.dat), (9, vi p1.dat.length), (10, vi x1)] [] := uI (gh rfl) fun k1 i1 {x1} h => b h (uU (jq.eq_2 ..) (uC (dR cM fun e1 => (uC jf (uJ i1))) (uR (.exit 0) (xM (uJ J1))))); uE (L1 aQ))))
def te (rec1 : Int → Int → OB) (x2 x3 : Int) (e1 : al) (x4 : Bool) : OB := ak x4 (some true) (au (some (i64.wrap (x2 + (i64.wrap ((e1.files.length : Int) + (e1.dby.length : Int)))))) fun y1 => rec1 y1 (i64.wrap (x3 + 1)))
def AI (x5 : Int) : OB := some (decide (4000 < x5))
def jE (p1 : aw) : Nat → Int → Int → OB
 | 0, _, _ => none
 | k1 + 1, x2, x3 => ak (decide (x3 < (p1.snapshots.length : Int))) (au (at? p1.snapshots x3) fun e1 => ak (decide (400 < (e1.files.length : Int))) (te (jE p1 k1) x2 x3 e1 true) (te (jE p1 k1) x2 x3 e1 (decide (400 < (e1.dby.length : Int))))) (AI x2)
def kH (p1 : aw) (x1 : Bool) : OB := ak x1 (some true) (jE p1 aQ 0 0)
def yB (p1 : aw) : OB := ak (decide (40 < (p1.schemas.length : Int))) (kH p1 true) (ak (decide (40 < (p1.specs.length : Int))) (kH p1 true) (ak (decide (200 < (p1.snapshots.length : Int))) (kH p1 true) (ak (decide (40 < (p1.refs.length : Int))) (kH p1 true) (kH p1 (decide (40 < (p1.props.length : Int)))))))
theorem Gy (p1 : aw) : CT prog 48 [mM p1] (yB p1) vb :=
  dw 63 [5] f48 fun r => (cW f48 12 2 fun K k => have J1 : ∀ {x1}, kH p1 x1 = some r → K.p [(1, vR [.ro ((eL af).els p1.schemas), .ro (em.els p1.specs), pi p1.nextField, pi p1.nextSeq, pi p1.nextSnap, pi p1.purges, .ro (aM.els p1.snapshots), .ro (lg.els p1.refs), .ro (ic.els p1.props)]), (33, vb x1)] [] := fun {x1} h => k h (uC uz (cW f48 30 1 fun K k => have J3 : ∀ {x5}, AI x5 = some r → K.p [(3, vi x5)] [] := fun {x5} h => k h uz; (uN aM p1.snapshots (gv f48 122 1 fun R b => have L1 : ∀ k1 {x2 x3}, jE p1 k1 x2 x3 = some r → (R k1).p [(3, vi x2), (35, vl aM p1.snapshots), (36, vi p1.snapshots.length), (37, vi x3)] [] := uI (gh rfl) fun k1 i1 {x2 x3} h => b h (uU (jE.eq_2 ..) (uC (dR aM fun e1 => (cW f48 31332 4 fun K k => have J2 : ∀ {x4}, te (jE p1 k1) x2 x3 e1 x4 = some r → K.p [(3, vi x2), (5, vQ 0), (35, vl aM p1.snapshots), (36, vi p1.snapshots.length), (37, vi x3), (50, vb x4)] [.box [ci e1.id, ci e1.parent, ci e1.seq, ci e1.schema, ci e1.time, ci e1.kind, cl aY e1.files, cl cM e1.dat, cl b9 e1.dby]] := fun {x4} h => k h (uC jf (uN aY e1.files (uN b9 e1.dby (uY 59 vi fun y1 => (uJ i1))))); (uN aY e1.files (uC (uJ J2) (uN b9 e1.dby (uJ J2)))))) (uR (.exit 0) (xM (uJ J3))))); uE (L1 aQ))))); (uN (eL af) p1.schemas (uC (uJ J1) (uN em p1.specs (uC (uJ J1) (uN aM p1.snapshots (uC (uJ J1) (uN lg p1.refs (uC (uJ J1) (uN ic p1.props (uJ J1)))))))))))
def qY (x1 : Bool) : OB := some x1
def du (p1 p2 p3 : Int) : OB := ak (decide (p2 ≤ p1)) (qY (decide (p1 ≤ p3))) (qY false)
theorem di (p1 p2 p3 : Int) : CT prog 49 [vi p1, vi p2, vi p3] (du p1 p2 p3) vb :=
  dw 15 [] f49 fun r => (cW f49 6 1 fun K k => have J1 : ∀ {x1}, qY x1 = some r → K.p [(6, vb x1)] [] := fun {x1} h => k h uz; (uC (uJ J1) (uJ J1)))
def pd (x1 : Bool) : OB := some x1
def fm (p1 : Int) : OB := ak (p1 != 6) (pd (p1 != 7)) (pd false)
theorem iS (p1 : Int) : CT prog 144 [vi p1] (fm p1) vb :=
  dw 9 [] f144 fun r => (cW f144 6 1 fun K k => have J1 : ∀ {x1}, pd x1 = some r → K.p [(2, vb x1)] [] := fun {x1} h => k h uz; (uC (uJ J1) (uJ J1)))
def oB (x1 : Bool) : OB := some x1
def gg (p1 p2 p3 : Int) : OB := ak (decide (p2 ≤ p1)) (oB (decide (p1 ≤ p3))) (oB false)
theorem jG (p1 p2 p3 : Int) : CT prog 215 [vi p1, vi p2, vi p3] (gg p1 p2 p3) vb :=
  dw 15 [] f215 fun r => (cW f215 6 1 fun K k => have J1 : ∀ {x1}, oB x1 = some r → K.p [(6, vb x1)] [] := fun {x1} h => k h uz; (uC (uJ J1) (uJ J1)))
def rf (rec1 : Int → OB) (x2 : Int) (x5 : Bool) : OB := ak x5 (some false) (rec1 (i64.wrap (x2 + 1)))
def rm (rec1 : Int → OB) (x2 : Int) (x3 x4 : Bool) : OB := ak (!x3) (ak (x2 == 0) (rf rec1 x2 true) (rf rec1 x2 (!x4))) (rf rec1 x2 false)
def u6 (rec1 : Int → OB) (p1 : ByteArray) (x2 : Int) (x3 : Bool) : OB := pn (0 ≤ x2 ∧ x2 < (p1.size : Int)) <| ak (((p1.data.toList.getD x2.toNat 0).toNat : Int) == 95) (rm rec1 x2 x3 true) (pn (0 ≤ x2 ∧ x2 < (p1.size : Int)) <| au (some (decide (48 ≤ ((p1.data.toList.getD x2.toNat 0).toNat : Int)))) fun y3 => ak y3 (pn (0 ≤ x2 ∧ x2 < (p1.size : Int)) <| au (some (decide (((p1.data.toList.getD x2.toNat 0).toNat : Int) ≤ 57))) fun y4 => rm rec1 x2 x3 y4) (rm rec1 x2 x3 false))
def Cz : OB := some true
def eU (p1 : ByteArray) : Nat → Int → OB
 | 0, _ => none
 | k1 + 1, x2 => ak (decide (x2 < (p1.size : Int))) (pn (0 ≤ x2 ∧ x2 < (p1.size : Int)) <| au (some (decide (97 ≤ ((p1.data.toList.getD x2.toNat 0).toNat : Int)))) fun y1 => ak y1 (pn (0 ≤ x2 ∧ x2 < (p1.size : Int)) <| au (some (decide (((p1.data.toList.getD x2.toNat 0).toNat : Int) ≤ 122))) fun y2 => u6 (eU p1 k1) p1 x2 y2) (u6 (eU p1 k1) p1 x2 false)) (Cz)
def uS (p1 : ByteArray) (x1 : Bool) : OB := ak x1 (some false) (eU p1 aQ 0)
def vh (p1 : ByteArray) : OB := ak (decide ((p1.size : Int) < 1)) (uS p1 true) (uS p1 (decide (24 < (p1.size : Int))))
theorem zf (p1 : ByteArray) : CT prog 56 [vs p1] (vh p1) vb :=
  dw 56 [] f56 fun r => (cW f56 12 2 fun K k => have J1 : ∀ {x1}, uS p1 x1 = some r → K.p [(0, vs p1), (13, vb x1)] [] := fun {x1} h => k h (uC uz (jL f56 14 1 Cz [] [] uz fun K J5 => (gv f56 58 1 fun R b => have L1 : ∀ k1 {x2}, eU p1 k1 x2 = some r → (R k1).p [(0, vs p1), (3, vi x2)] [] := uI (gh rfl) fun k1 i1 {x2} h => b h (uU (eU.eq_2 ..) (uC (cW f56 1864 3 fun K k => have J2 : ∀ {x3}, u6 (eU p1 k1) p1 x2 x3 = some r → K.p [(0, vs p1), (3, vi x2), (4, vb x3)] [] := fun {x3} h => k h (cW f56 3730 3 fun K k => have J3 : ∀ {x4}, rm (eU p1 k1) x2 x3 x4 = some r → K.p [(0, vs p1), (3, vi x2), (4, vb x3), (5, vb x4)] [] := fun {x4} h => k h (cW f56 7462 3 fun K k => have J4 : ∀ {x5}, rf (eU p1 k1) x2 x5 = some r → K.p [(0, vs p1), (3, vi x2), (55, vb x5)] [] := fun {x5} h => k h (uC jf (uJ i1)); (uC (uC (uJ J4) (uJ J4)) (uJ J4))); (uG (uC (uJ J3) (uG (uY 38 vb fun y3 => (uC (uG (uY 43 vb fun y4 => (uJ J3))) (uJ J3))))))); (uG (uY 23 vb fun y1 => (uC (uG (uY 28 vb fun y2 => (uJ J2))) (uJ J2))))) (uR (.exit 0) (xM (uJ J5))))); uE (L1 aQ)))); (uC (uJ J1) (uJ J1)))
def xi (rec2 : Int → OI) (x5 : Int) : OI := rec2 (i64.wrap (x5 + 1))
def gr (rec2 : Int → OI) (p1 : am) (x5 : Int) : Nat → Int → OI
 | 0, _ => none
 | k3 + 1, x6 => ak (decide (x6 < x5)) (au (at? p1.fields x6) fun e3 => au (at? p1.fields x5) fun e4 => ak (e3.name.toList == e4.name.toList) (some 5) ((gr rec2 p1 x5 k3) (i64.wrap (x6 + 1)))) (xi rec2 x5)
def AS : OI := some 0
def fK (p1 : am) : Nat → Int → OI
 | 0, _ => none
 | k2 + 1, x5 => ak (decide (x5 < (p1.fields.length : Int))) (gr (fK p1 k2) p1 x5 aQ 0) (AS)
def w5 (p1 : am) : OI := fK p1 aQ 0
def io (p1 : am) : Nat → Int → OI
 | 0, _ => none
 | k1 + 1, x4 => ak (decide (x4 < (p1.fields.length : Int))) (au (at? p1.fields x4) fun e2 => au (vh e2.name) fun r5 => ak (!r5) (some 4) ((io p1 k1) (i64.wrap (x4 + 1)))) (w5 p1)
def kB (p1 : am) (x3 : Bool) : OI := ak x3 (some 1) (ak (p1.kind != 7) (some 0) (io p1 aQ 0))
def pQ (p1 : am) (x2 : Bool) : OI := ak x2 (some 1) (ak (p1.kind == 7) (ak ((p1.fields.length : Int) == 0) (kB p1 true) (au (fm p1.kind) fun r3 => ak r3 (kB p1 (decide (0 < (p1.fields.length : Int)))) (kB p1 false))) (au (fm p1.kind) fun r4 => ak r4 (kB p1 (decide (0 < (p1.fields.length : Int)))) (kB p1 false)))
def kE (p1 : am) (x1 : Bool) : OI := ak x1 (some 1) (ak (p1.kind == 6) (ak ((p1.fields.length : Int) != 1) (pQ p1 true) (au (at? p1.fields 0) fun e1 => pQ p1 (!(e1.name.toList == (ByteArray.mk #[]).toList)))) (pQ p1 false))
def yt (p1 : am) : OI := au (gg p1.kind 1 7) fun r1 => ak (!r1) (some 3) (ak (p1.kind == 3) (au (gg p1.scale 0 12) fun r2 => ak (!r2) (kE p1 true) (ak (p1.kind != 3) (kE p1 (p1.scale != 0)) (kE p1 false))) (ak (p1.kind != 3) (kE p1 (p1.scale != 0)) (kE p1 false)))
theorem G3 (p1 : am) : CT prog 186 [mT p1] (yt p1) vi :=
  dw 109 [] f186 fun r => (bf (jG _ _ _) fun r1 => (uC uz (cW f186 28 2 fun K k => have J1 : ∀ {x1}, kE p1 x1 = some r → K.p [(1, vR (dv p1)), (28, vb x1)] [] := fun {x1} h => k h (uC uz (cW f186 60 2 fun K k => have J2 : ∀ {x2}, pQ p1 x2 = some r → K.p [(1, vR (dv p1)), (45, vb x2)] [] := fun {x2} h => k h (uC uz (cW f186 124 2 fun K k => have J3 : ∀ {x3}, kB p1 x3 = some r → K.p [(1, vR (dv p1)), (65, vb x3)] [] := fun {x3} h => k h (uC uz (uC uz (jL f186 254 1 (w5 p1) [(1, vR (dv p1))] [] (jL f186 510 1 AS [] [] uz fun K J6 => (uN af p1.fields (gv f186 2042 1 fun R b => have L2 : ∀ k2 {x5}, fK p1 k2 x5 = some r → (R k2).p [(1, vR (dv p1)), (86, vi p1.fields.length), (87, vi x5)] [] := uI (gh rfl) fun k2 i2 {x5} h => b h (uU (fK.eq_2 ..) (uC (jL f186 32678 1 (xi (fK p1 k2) x5) [(1, vR (dv p1)), (86, vi p1.fields.length), (87, vi x5)] [] (uJ i2) fun K J5 => (gv f186 522854 2 fun R b => have L3 : ∀ k3 {x6}, gr (fK p1 k2) p1 x5 k3 x6 = some r → (R k3).p [(1, vR (dv p1)), (4, vi x5), (5, vi x6), (86, vi p1.fields.length), (87, vi x5)] [] := uI (gh rfl) fun k3 i3 {x6} h => b h (uU (gr.eq_2 ..) (uC (nI 12 (dR af fun e3 => (dR af fun e4 => (uC (uR .ret (xN (xN (xN (xN xF))))) (uJ i3))))) (uR (.exit 4) (xM (uJ J5))))); uE (L3 aQ))) (uR (.exit 2) (xM (uJ J6))))); uE (L2 aQ)))) fun K J4 => (uN af p1.fields (gv f186 1018 1 fun R b => have L1 : ∀ k1 {x4}, io p1 k1 x4 = some r → (R k1).p [(1, vR (dv p1)), (71, vi p1.fields.length), (72, vi x4)] [] := uI (gh rfl) fun k1 i1 {x4} h => b h (uU (io.eq_2 ..) (uC (dR af fun e2 => (bf (zf _) fun r5 => (uC jf (uJ i1)))) (uR (.exit 0) (xM (uJ J4))))); uE (L1 aQ)))))); (uC (uN af p1.fields (uC (uJ J3) (bf (iS _) fun r3 => (uC (uN af p1.fields (uJ J3)) (uJ J3))))) (bf (iS _) fun r4 => (uC (uN af p1.fields (uJ J3)) (uJ J3)))))); (uC (uN af p1.fields (uC (uJ J2) (dR af fun e1 => (uJ J2)))) (uJ J2)))); (uC (bf (jG _ _ _) fun r2 => (uC (uJ J1) (uC (uJ J1) (uJ J1)))) (uC (uJ J1) (uJ J1))))))
def wH (z3 : Int) : Option (Int × Int) := some (0, z3)
def iy (q_ref1_checkType : am → Int → Int → Option (Int × Int)) (p1 : am) (p2 : Int) : Nat → Int → Int → Option (Int × Int)
 | 0, _, _ => none
 | k1 + 1, z2, x1 => ak (decide (x1 < (p1.fields.length : Int))) (au (at? p1.fields x1) fun e1 => au (q_ref1_checkType e1.type (i64.wrap (p2 + 1)) z2) fun r3 => ak (r3.1 != 0) (some (r3.1, r3.2)) ((iy q_ref1_checkType p1 p2 k1) r3.2 (i64.wrap (x1 + 1)))) (wH z2)
def jW (q_ref1_checkType : am → Int → Int → Option (Int × Int)) (p1 : am) (p2 z1 : Int) : Option (Int × Int) := au (yt p1) fun r2 => ak (r2 != 0) (some (r2, z1)) (iy q_ref1_checkType p1 p2 aQ z1 0)
def en : Nat → am → Int → Int → Option (Int × Int)
 | 0, _, _, _ => none
 | k0 + 1, p1, p2, p3 => ak (decide (4 < p2)) (some (7, p3)) (au (fm p1.kind) fun r1 => ak r1 (ak (p3 == 40) (some (7, p3)) (jW (en k0) p1 p2 (i64.wrap (p3 + 1)))) (jW (en k0) p1 p2 p3))
theorem xG : ∀ (k0 : Nat) (p1 : am) (p2 p3 : Int), CM prog 142 [mT p1, vi p2, vQ 0] [.box [ci p3]] (en k0 p1 p2 p3) (fun r => vi r.1) (fun r => [.box [ci r.2]])
  | 0, _, _, _ => Ry (en.eq_1 ..)
  | k0 + 1, p1, p2, p3 => pw 1 49 [] f142 fun r => (uU (en.eq_2 ..) (uC (uR .ret qD) (cW f142 14 1 fun K k => have J1 : ∀ {z1}, jW (en k0) p1 p2 z1 = some r → K.p [(1, vi p2), (2, vQ 0), (3, vR [pi p1.kind, pi p1.scale, .ro (af.els p1.fields)])] [.box [ci z1]] := fun {z1} h => k h (bf (G3 _) fun r2 => (uC (uR .ret qD) (cW f142 62 1 fun K k => have J2 : ∀ {z3}, wH z3 = some r → K.p [] [.box [ci z3]] := fun {z3} h => k h (uR .ret qD); (uN af p1.fields (gv f142 250 1 fun R b => have L1 : ∀ k1 {z2 x1}, iy (en k0) p1 p2 k1 z2 x1 = some r → (R k1).p [(1, vi p2), (2, vQ 0), (3, vR [pi p1.kind, pi p1.scale, .ro (af.els p1.fields)]), (31, vi p1.fields.length), (32, vi x1)] [.box [ci z2]] := uI (gh rfl) fun k1 i1 {z2 x1} h => b h (uU (iy.eq_2 ..) (uC (dR af fun e1 => (yF true [0] (xG k0 _ _ _) fun r3 _ => (uC (uR .ret (xN (xN qD))) (uJ i1)))) (uR (.exit 0) (xM (uJ J2))))); uE (L1 aQ)))))); (bf (iS _) fun r1 => (uC (uC (uR .ret (xN qD)) (uJ J1)) (uJ J1))))))
def jM (p1 : am) : OI := au (en aQ p1 1 0) fun r1 => some r1.1
theorem mR (p1 : am) : CT prog 95 [mT p1] (jM p1) vi :=
  dw 6 [3] f95 fun r => (yF true [0] (xG aQ _ _ _) fun r1 _ => uz)
def zE (l2 : List Int) : Option (List Int) := some l2
def oF (q_ref1_Ids : (List ae) → Option (List Int)) (p1 : List ae) : Nat → List Int → Int → Option (List Int)
 | 0, _, _ => none
 | k1 + 1, l1, x1 => ak (decide (x1 < (p1.length : Int))) (au (at? p1 x1) fun e1 => pn (l1.length + 1 ≤ 4294967296) <| au (q_ref1_Ids e1.type.fields) fun r1 => pn ((l1 ++ [e1.id]).length + r1.length ≤ 4294967296) <| (oF q_ref1_Ids p1 k1) ((l1 ++ [e1.id]) ++ r1) (i64.wrap (x1 + 1))) (zE l1)
def oS : Nat → (List ae) → Option (List Int)
 | 0, _ => none
 | k0 + 1, p1 => oF (oS k0) p1 aQ [] 0
theorem A5 : ∀ (k0 : Nat) (p1 : List ae), CT prog 51 [vl af p1] (oS k0 p1) (vl eI)
  | 0, _ => FE (oS.eq_1 ..)
  | k0 + 1, p1 => dw 29 [] f51 fun r => (uU (oS.eq_2 ..) (cW f51 14 1 fun K k => have J1 : ∀ {l2}, zE l2 = some r → K.p [(3, .one (.sl 0 1 0 l2.length))] [.arr 1 (eI.els l2)] := fun {l2} h => k h (Qf eI l2 0 [2] uz); (uN af p1 (Mn (.li 3 1) (gv f51 58 1 fun R b => have L1 : ∀ k1 {l1 x1}, oF (oS k0) p1 k1 l1 x1 = some r → (R k1).p [(0, vl af p1), (3, .one (.sl 0 1 0 l1.length)), (6, vi p1.length), (7, vi x1)] [.arr 1 (eI.els l1)] := uI (gh rfl) fun k1 i1 {l1 x1} h => b h (uU (oF.eq_2 ..) (uC (uL af fun e1 a11 => (QR eI 0 [e1.id] (uM af a11 (bf (A5 k0 _) fun r1 => (QR eI 0 r1 (uJ i1)))))) (uR (.exit 0) (xM (uJ J1))))); uE (L1 aQ))))))
def pL (rec1 : Int → OI) (x1 : Int) : OI := rec1 (i64.wrap (x1 + 1))
def cZ (rec1 : Int → OI) (r2 : List Int) (x1 e1 : Int) : Nat → Int → OI
 | 0, _ => none
 | k2 + 1, x2 => ak (decide (x2 < x1)) (au (at? r2 x2) fun e2 => ak (e2 == e1) (some 5) ((cZ rec1 r2 x1 e1 k2) (i64.wrap (x2 + 1)))) (pL rec1 x1)
def uh : OI := some 0
def ea (r2 : List Int) : Nat → Int → OI
 | 0, _ => none
 | k1 + 1, x1 => ak (decide (x1 < (r2.length : Int))) (au (at? r2 x1) fun e1 => ak (decide (e1 < 1)) (some 3) (cZ (ea r2 k1) r2 x1 e1 aQ 0)) (uh)
def gU (p1 : List ae) : OI := au (jM (am.mk 7 0 p1)) fun r1 => ak (r1 != 0) (some r1) (au (oS aQ p1) fun r2 => ea r2 aQ 0)
theorem nv (p1 : List ae) : CT prog 50 [vl af p1] (gU p1) vi :=
  dw 40 [] f50 fun r => (bf (mR _) fun r1 => (uC uz (bf (A5 aQ _) fun r2 => (jL f50 30 1 uh [] [] uz fun K J2 => (uN eI r2 (gv f50 122 1 fun R b => have L1 : ∀ k1 {x1}, ea r2 k1 x1 = some r → (R k1).p [(4, vl eI r2), (16, vi r2.length), (17, vi x1)] [] := uI (gh rfl) fun k1 i1 {x1} h => b h (uU (ea.eq_2 ..) (uC (jL f50 1958 1 (pL (ea r2 k1) x1) [(4, vl eI r2), (16, vi r2.length), (17, vi x1)] [] (uJ i1) fun K J1 => (uL eI fun e1 a19 => (uC (uR .ret (xN (xN (xN xF)))) (gv f50 62670 2 fun R b => have L2 : ∀ k2 {x2}, cZ (ea r2 k1) r2 x1 e1 k2 x2 = some r → (R k2).p [(4, vl eI r2), (5, vi x1), (6, vi x2), (16, vi r2.length), (17, vi x1)] [] := uI (gh rfl) fun k2 i2 {x2} h => b h (uU (cZ.eq_2 ..) (uC (nI 8 (dR eI fun e2 => (uM eI a19 (uC (uR .ret (xN (xN (xN (xN xF))))) (uJ i2))))) (uR (.exit 2) (xM (uJ J1))))); uE (L2 aQ))))) (uR (.exit 0) (xM (uJ J2))))); uE (L1 aQ)))))))
def pJ (p1 : List ae) : OI := au (gU p1) fun r1 => ak (r1 != 0) (some r1) (some 0)
theorem yY (p1 : List ae) : CT prog 30 [vl af p1, .one (.pv (.s (.slice none 0 0)))] (pJ p1) vi :=
  dw 30 [] f30 fun r => (bf (nv _) fun r1 => (uC uz (uF (Nj 0 (uF uz)))))
def Cq : OI := some (-1)
def np (p1 : List ae) (p2 : Int) : Nat → Int → OI
 | 0, _ => none
 | k1 + 1, x1 => ak (decide (x1 < (p1.length : Int))) (au (at? p1 x1) fun e1 => ak (e1.id == p2) (some x1) ((np p1 p2 k1) (i64.wrap (x1 + 1)))) (Cq)
def sG (p1 : List ae) (p2 : Int) : OI := np p1 p2 aQ 0
theorem IZ (p1 : List ae) (p2 : Int) : CT prog 143 [vl af p1, vi p2] (sG p1 p2) vi :=
  dw 20 [] f143 fun r => (jL f143 6 1 Cq [] [] uz fun K J1 => (uN af p1 (gv f143 26 1 fun R b => have L1 : ∀ k1 {x1}, np p1 p2 k1 x1 = some r → (R k1).p [(0, vl af p1), (1, vi p2), (7, vi p1.length), (8, vi x1)] [] := uI (gh rfl) fun k1 i1 {x1} h => b h (uU (np.eq_2 ..) (uC (dR af fun e1 => (uC jf (uJ i1))) (uR (.exit 0) (xM (uJ J1))))); uE (L1 aQ))))
def kR (x4 : Bool) : OB := some x4
def rL (p1 p2 : am) (x3 : Bool) : OB := ak (p1.kind == 1) (ak (p2.kind == 2) (kR true) (ak x3 (kR true) (kR false))) (ak x3 (kR (p1.kind == 2)) (kR false))
def qZ (p1 p2 : am) (x2 : Bool) : OB := ak x2 (some true) (ak (p2.kind == 3) (rL p1 p2 (p2.scale == 0)) (rL p1 p2 false))
def jP (p1 p2 : am) (x1 : Bool) : OB := ak x1 (some false) (ak (p1.kind == p2.kind) (qZ p1 p2 (p1.scale == p2.scale)) (qZ p1 p2 false))
def mZ (p1 p2 : am) : OB := au (jM p1) fun r1 => ak (r1 != 0) (jP p1 p2 true) (au (jM p2) fun r2 => ak (r2 != 0) (jP p1 p2 true) (au (fm p1.kind) fun r3 => ak (!r3) (jP p1 p2 true) (au (fm p2.kind) fun r4 => jP p1 p2 (!r4))))
theorem sT (p1 p2 : am) : CT prog 145 [mT p1, mT p2] (mZ p1 p2) vb :=
  dw 67 [] f145 fun r => (cW f145 12 2 fun K k => have J1 : ∀ {x1}, jP p1 p2 x1 = some r → K.p [(2, vR (dv p1)), (3, vR (dv p2)), (25, vb x1)] [] := fun {x1} h => k h (uC uz (cW f145 28 2 fun K k => have J2 : ∀ {x2}, qZ p1 p2 x2 = some r → K.p [(2, vR (dv p1)), (3, vR (dv p2)), (37, vb x2)] [] := fun {x2} h => k h (uC uz (cW f145 30 1 fun K k => have J3 : ∀ {x3}, rL p1 p2 x3 = some r → K.p [(2, vR (dv p1)), (3, vR (dv p2)), (5, vb x3)] [] := fun {x3} h => k h (cW f145 62 1 fun K k => have J4 : ∀ {x4}, kR x4 = some r → K.p [(4, vb x4)] [] := fun {x4} h => k h uz; (Uh (fun b21 => (uC (uJ J4) (uC (uH b21 (uJ J4)) (uJ J4)))) (fun b21 => (uC (uH b21 (uJ J4)) (uJ J4))))); (uC (uJ J3) (uJ J3)))); (uC (uJ J2) (uJ J2)))); (bf (mR _) fun r1 => (uC (uJ J1) (bf (mR _) fun r2 => (uC (uJ J1) (bf (iS _) fun r3 => (uC (uJ J1) (bf (iS _) fun r4 => (uJ J1)))))))))
def lT (rec1 : Int → OI) (x1 : Int) : OI := rec1 (i64.wrap (x1 + 1))
def fg (rec1 : Int → OI) (q_ref2_adaptable : (List ae) → (List ae) → OI) (x1 : Int) (e1 e2 : ae) (x3 : Bool) : OI := ak x3 (some 2) (au (q_ref2_adaptable e2.type.fields e1.type.fields) fun r7 => ak (r7 != 0) (some r7) (lT rec1 x1))
def lN (rec1 : Int → OI) (q_ref2_adaptable : (List ae) → (List ae) → OI) (x1 : Int) (e1 e2 : ae) (x2 : Bool) : OI := ak x2 (some 9) (au (fm e2.type.kind) fun r2 => ak (!r2) (ak (e2.type.kind != e1.type.kind) (fg rec1 q_ref2_adaptable x1 e1 e2 true) (au (fm e2.type.kind) fun r3 => ak r3 (au (mZ e2.type e1.type) fun r4 => fg rec1 q_ref2_adaptable x1 e1 e2 (!r4)) (fg rec1 q_ref2_adaptable x1 e1 e2 false))) (au (fm e2.type.kind) fun r5 => ak r5 (au (mZ e2.type e1.type) fun r6 => fg rec1 q_ref2_adaptable x1 e1 e2 (!r6)) (fg rec1 q_ref2_adaptable x1 e1 e2 false)))
def wX : OI := some 0
def ca (q_ref2_adaptable : (List ae) → (List ae) → OI) (p1 p2 : List ae) : Nat → Int → OI
 | 0, _ => none
 | k1 + 1, x1 => ak (decide (x1 < (p2.length : Int))) (au (at? p2 x1) fun e1 => au (sG p1 e1.id) fun r1 => ak (decide (r1 < 0)) (ak e1.need (some 9) (lT (ca q_ref2_adaptable p1 p2 k1) x1)) (au (at? p1 r1) fun e2 => ak e1.need (lN (ca q_ref2_adaptable p1 p2 k1) q_ref2_adaptable x1 e1 e2 (!e2.need)) (lN (ca q_ref2_adaptable p1 p2 k1) q_ref2_adaptable x1 e1 e2 false))) (wX)
def cc : Nat → (List ae) → (List ae) → OI
 | 0, _, _ => none
 | k0 + 1, p1, p2 => ca (cc k0) p1 p2 aQ 0
theorem xZ : ∀ (k0 : Nat) (p1 p2 : List ae), CT prog 96 [vl af p1, vl af p2] (cc k0 p1 p2) vi
  | 0, _, _ => FE (cc.eq_1 ..)
  | k0 + 1, p1, p2 => dw 74 [6, 8] f96 fun r => (uU (cc.eq_2 ..) (jL f96 6 1 wX [] [] uz fun K J4 => (uN af p2 (gv f96 26 1 fun R b => have L1 : ∀ k1 {x1}, ca (cc k0) p1 p2 k1 x1 = some r → (R k1).p [(0, vl af p1), (10, vl af p2), (11, vi p2.length), (12, vi x1)] [] := uI (gh rfl) fun k1 i1 {x1} h => b h (uU (ca.eq_2 ..) (uC (jL f96 422 1 (lT (ca (cc k0) p1 p2 k1) x1) [(0, vl af p1), (10, vl af p2), (11, vi p2.length), (12, vi x1)] [] (uJ i1) fun K J3 => (dR af fun e1 => (bf (IZ _ _) fun r1 => (uC (uC (uR .ret (xN (xN (xN xF)))) (uJ J3)) (dR af fun e2 => (cW f96 54076 3 fun K k => have J1 : ∀ {x2}, lN (ca (cc k0) p1 p2 k1) (cc k0) x1 e1 e2 x2 = some r → K.p [(0, vl af p1), (6, vQ 0), (8, vQ 1), (10, vl af p2), (11, vi p2.length), (12, vi x1), (34, vb x2)] [.box (w9 e1), .box (w9 e2)] := fun {x2} h => k h (uC (uR .ret (xN (xN (xN xF)))) (cW f96 108156 3 fun K k => have J2 : ∀ {x3}, fg (ca (cc k0) p1 p2 k1) (cc k0) x1 e1 e2 x3 = some r → K.p [(0, vl af p1), (6, vQ 0), (8, vQ 1), (10, vl af p2), (11, vi p2.length), (12, vi x1), (62, vb x3)] [.box (w9 e1), .box (w9 e2)] := fun {x3} h => k h (uC (uR .ret (xN (xN (xN xF)))) (bf (xZ k0 _ _) fun r7 => (uC (uR .ret (xN (xN (xN xF)))) (uJ J3)))); (bf (iS _) fun r2 => (uC (uC (uJ J2) (bf (iS _) fun r3 => (uC (bf (sT _ _) fun r4 => (uJ J2)) (uJ J2)))) (bf (iS _) fun r5 => (uC (bf (sT _ _) fun r6 => (uJ J2)) (uJ J2))))))); (uC (uJ J1) (uJ J1)))))))) (uR (.exit 0) (xM (uJ J4))))); uE (L1 aQ)))))
def qx (p1 p2 : List ae) : Option ((List (List ac)) × Int) := au (pJ p1) fun r1 => ak (r1 != 0) (some ([], r1)) (au (gU p2) fun r2 => ak (r2 != 0) (some ([], r2)) (au (cc aQ p1 p2) fun r3 => ak (r3 != 0) (some ([], r3)) (some ([], 0))))
theorem Cp (p1 p2 : List ae) : CT prog 52 [vl af p1, vl af p2, .one (.pv (.s (.slice none 0 0)))] (qx p1 p2) (fun r => .tp [vl (eL ah) r.1, vi r.2]) :=
  dw 46 [] f52 fun r => (TM (yY _) fun r1 _ => (uC uz (bf (nv _) fun r2 => (uC uz (bf (xZ aQ _ _) fun r3 => (uC uz (Nj 0 (uF uz))))))))
def DE : Option (ae × Bool) := some ((kV.mk 0 ByteArray.empty false (am.mk 0 0 [])), false)
def kF (p1 : List ae) (p2 : Int) : Nat → Int → Option (ae × Bool)
 | 0, _ => none
 | k1 + 1, x1 => ak (decide (x1 < (p1.length : Int))) (au (at? p1 x1) fun e1 => ak (e1.id == p2) (some (e1, true)) ((kF p1 p2 k1) (i64.wrap (x1 + 1)))) (DE)
def o5 (p1 : List ae) (p2 : Int) : Option (ae × Bool) := kF p1 p2 aQ 0
abbrev Oe : List CV := [ci (0 : Int), vp ByteArray.empty, cb false, ci (0 : Int), ci (0 : Int), .pv (.s (.slice none 0 0))]
theorem v8 (p1 : List ae) (p2 : Int) : CT prog 98 [vl af p1, vi p2] (o5 p1 p2) (fun r => .tp [mf r.1, vb r.2]) :=
  dw 25 [4] f98 fun r => (jL f98 6 1 DE [(4, vQ 0)] [.box Oe] uz fun K J1 => (uN af p1 (gv f98 26 1 fun R b => have L1 : ∀ k1 {x1}, kF p1 p2 k1 x1 = some r → (R k1).p [(0, vl af p1), (1, vi p2), (4, vQ 0), (8, vi p1.length), (9, vi x1)] [.box Oe] := uI (gh rfl) fun k1 i1 {x1} h => b h (uU (kF.eq_2 ..) (uC (uL af fun e1 a10 => (uC (uM af a10 jf) (uJ i1))) (uR (.exit 0) (xM (uJ J1))))); uE (L1 aQ))))
def lm (p2 : am) (x5 : Bool) : Option (am × Int) := ak x5 (some ((am.mk 2 0 []), 0)) (some (p2, 0))
def ll (p1 : ce) (p2 : am) (x4 : Bool) : Option (am × Int) := ak x4 (some ((am.mk 0 0 []), 2)) (ak (p1.kind == 2) (lm p2 true) (lm p2 (decide (4 ≤ p1.kind))))
def gj (p1 : ce) (p2 : am) (x3 : Bool) : Option (am × Int) := ak x3 (some ((am.mk 0 0 []), 2)) (ak (decide (4 ≤ p1.kind)) (ll p1 p2 (p2.kind != 5)) (ll p1 p2 false))
def dp (p1 : ce) (p2 : am) (x2 : Bool) : Option (am × Int) := ak x2 (some ((am.mk 0 0 []), 3)) (au (fm p2.kind) fun r4 => ak (!r4) (some ((am.mk 0 0 []), 2)) (ak (p1.kind == 3) (ak (p2.kind != 2) (ak (p2.kind != 3) (gj p1 p2 (p2.kind != 4)) (gj p1 p2 false)) (gj p1 p2 false)) (gj p1 p2 false)))
def lr (p1 : ce) (p2 : am) (x1 : Bool) : Option (am × Int) := ak x1 (au (du p1.param 1 1000000) fun r3 => ak (!r3) (dp p1 p2 true) (ak (!x1) (dp p1 p2 (p1.param != 0)) (dp p1 p2 false))) (ak (!x1) (dp p1 p2 (p1.param != 0)) (dp p1 p2 false))
def gH (p1 : ce) (p2 : am) : Option (am × Int) := au (jM p2) fun r1 => ak (r1 != 0) (some ((am.mk 0 0 []), r1)) (au (du p1.kind 0 7) fun r2 => ak (!r2) (some ((am.mk 0 0 []), 3)) (ak (p1.kind == 2) (lr p1 p2 true) (lr p1 p2 (p1.kind == 3))))
theorem tm (p1 : ce) (p2 : am) : CT prog 147 [.ag [ci p1.kind, ci p1.param], mT p2] (gH p1 p2) (fun r => .tp [mT r.1, vi r.2]) :=
  dw 87 [4] f147 fun r => (bf (mR _) fun r1 => (uC uz (bf (di _ _ _) fun r2 => (uC uz (cW f147 30 1 fun K k => have J1 : ∀ {x1}, lr p1 p2 x1 = some r → K.p [(2, vR [pi p1.kind, pi p1.param]), (3, vR (dv p2)), (4, vQ 0), (7, vb x1)] [.box ua] := fun {x1} h => k h (cW f147 124 2 fun K k => have J2 : ∀ {x2}, dp p1 p2 x2 = some r → K.p [(2, vR [pi p1.kind, pi p1.param]), (3, vR (dv p2)), (4, vQ 0), (42, vb x2)] [.box ua] := fun {x2} h => k h (uC uz (bf (iS _) fun r4 => (uC uz (cW f147 508 2 fun K k => have J3 : ∀ {x3}, gj p1 p2 x3 = some r → K.p [(2, vR [pi p1.kind, pi p1.param]), (3, vR (dv p2)), (4, vQ 0), (66, vb x3)] [.box ua] := fun {x3} h => k h (uC uz (cW f147 1020 2 fun K k => have J4 : ∀ {x4}, ll p1 p2 x4 = some r → K.p [(2, vR [pi p1.kind, pi p1.param]), (3, vR (dv p2)), (4, vQ 0), (75, vb x4)] [.box ua] := fun {x4} h => k h (uC uz (cW f147 2044 2 fun K k => have J5 : ∀ {x5}, lm p2 x5 = some r → K.p [(3, vR (dv p2)), (4, vQ 0), (84, vb x5)] [.box ua] := fun {x5} h => k h (uC uz uz); (uC (uJ J5) (uJ J5)))); (uC (uJ J4) (uJ J4)))); (uC (uC (uC (uJ J3) (uJ J3)) (uJ J3)) (uJ J3)))))); (uC (bf (di _ _ _) fun r3 => (uC (uJ J2) (uC (uJ J2) (uJ J2)))) (uC (uJ J2) (uJ J2)))); (uC (uJ J1) (uJ J1)))))))
def sZ (rec1 : Int → OI) (x1 : Int) : OI := rec1 (i64.wrap (x1 + 1))
def lX (rec1 : Int → OI) (p1 : cm) (x1 : Int) (e1 : bi) : Nat → Int → OI
 | 0, _ => none
 | k2 + 1, x2 => ak (decide (x2 < x1)) (au (at? p1.fields x2) fun e2 => au (some ((e2.source == e1.source) && (((e2.transform.kind == e1.transform.kind) && ((e2.transform.param == e1.transform.param) && true)) && true))) fun y1 => ak y1 (some 5) ((lX rec1 p1 x1 e1 k2) (i64.wrap (x2 + 1)))) (sZ rec1 x1)
def AX : OI := some 0
def il (p1 : cm) (p2 : List ae) : Nat → Int → OI
 | 0, _ => none
 | k1 + 1, x1 => ak (decide (x1 < (p1.fields.length : Int))) (au (at? p1.fields x1) fun e1 => au (o5 p2 e1.source) fun r1 => ak (!r1.2) (some 9) (au (gH e1.transform r1.1.type) fun r2 => ak (r2.2 != 0) (some r2.2) (lX (il p1 p2 k1) p1 x1 e1 aQ 0))) (AX)
def vT (p1 : cm) (p2 : List ae) : OI := ak (decide (4 < (p1.fields.length : Int))) (some 7) (il p1 p2 aQ 0)
abbrev Nv (p1 : cm) (p2 : (List ae)) (x1 : Int) : Fr := [(1, vl af p2), (2, .one (.pv (.rp [[.ro (aL.els p1.fields)]] 0 0))), (17, vl aL p1.fields), (18, vi (p1.fields.length : Int)), (19, vi x1)]
theorem Gt (p1 : cm) (p2 : List ae) : CT prog 99 [.ag [cl aL p1.fields], vl af p2] (vT p1 p2) vi :=
  dw 57 [6, 7, 9] f99 fun r => (uN aL p1.fields (uC uz (jL f99 14 1 AX [] [] uz fun K J2 => (uN aL p1.fields (gv f99 58 1 fun R b => have L1 : ∀ k1 {x1}, il p1 p2 k1 x1 = some r → (R k1).p (Nv p1 p2 x1) [] := uI (gh rfl) fun k1 i1 {x1} h => b h (uU (il.eq_2 ..) (uC (jL f99 934 1 (sZ (il p1 p2 k1) x1) (Nv p1 p2 x1) [] (uJ i1) fun K J1 => (dR aL fun e1 => (bf (v8 _ _) fun r1 => (uC (uR .ret (xN (xN (xN xF)))) (bf (tm _ _) fun r2 => (uC (uR .ret (xN (xN (xN xF)))) (gv f99 119614 2 fun R b => have L2 : ∀ k2 {x2}, lX (il p1 p2 k1) p1 x1 e1 k2 x2 = some r → (R k2).p [(1, vl af p2), (2, vR [.ro (aL.els p1.fields)]), (5, vi x1), (6, vQ 0), (11, vi x2), (17, vl aL p1.fields), (18, vi p1.fields.length), (19, vi x1)] [.box [ci e1.source, ci e1.transform.kind, ci e1.transform.param], .dead, .dead] := uI (gh rfl) fun k2 i2 {x2} h => b h (uU (lX.eq_2 ..) (uC (nI 6 (dR aL fun e2 => (uY 55 vb fun y1 => (uC (uR .ret (xN (xN (xN (xN xF))))) (uJ i2))))) (uR (.exit 2) (xM (uJ J1))))); uE (L2 aQ)))))))) (uR (.exit 0) (xM (uJ J2))))); uE (L1 aQ))))))
def nt (rec3 : Bool → Int → OI) (x5 : Int) (x6 : Bool) : OI := rec3 x6 (i64.wrap (x5 + 1))
def nr (rec2 : Int → Int → OI) (x3 x8 : Int) : OI := rec2 x8 (i64.wrap (x3 + 1))
def kX (rec2 : Int → Int → OI) (x2 x3 : Int) (x7 : Bool) : OI := ak x7 (nr rec2 x3 x3) (nr rec2 x3 x2)
def dk (rec2 : Int → Int → OI) (p1 : aw) (e1 : cm) (x2 x3 : Int) : Nat → Bool → Int → OI
 | 0, _, _ => none
 | k3 + 1, x4, x5 => ak (decide (x5 < (e1.fields.length : Int))) (au (at? e1.fields x5) fun e2 => au (at? p1.schemas x3) fun e3 => au (o5 e3 e2.source) fun r1 => ak x4 (nt (dk rec2 p1 e1 x2 x3 k3) x5 r1.2) (nt (dk rec2 p1 e1 x2 x3 k3) x5 false)) (kX rec2 x2 x3 x4)
def jp (rec1 : Int → OI) (p1 : aw) (x1 : Int) (e1 : cm) (x9 : Int) (x10 : Bool) : OI := ak x10 (some 9) (au (at? p1.schemas x9) fun e4 => au (vT e1 e4) fun r2 => ak (r2 != 0) (some r2) (rec1 (i64.wrap (x1 + 1))))
def nz (rec1 : Int → OI) (p1 : aw) (x1 : Int) (e1 : cm) (x9 : Int) : OI := ak (decide (x9 < 0)) (jp rec1 p1 x1 e1 x9 true) (ak (x1 == (i64.wrap ((p1.specs.length : Int) - 1))) (jp rec1 p1 x1 e1 x9 (x9 != (i64.wrap ((p1.schemas.length : Int) - 1)))) (jp rec1 p1 x1 e1 x9 false))
def cT (rec1 : Int → OI) (p1 : aw) (x1 : Int) (e1 : cm) : Nat → Int → Int → OI
 | 0, _, _ => none
 | k2 + 1, x2, x3 => ak (decide (x3 < (p1.schemas.length : Int))) (dk (cT rec1 p1 x1 e1 k2) p1 e1 x2 x3 aQ true 0) (nz rec1 p1 x1 e1 x2)
def vZ : OI := some 0
def bD (p1 : aw) : Nat → Int → OI
 | 0, _ => none
 | k1 + 1, x1 => ak (decide (x1 < (p1.specs.length : Int))) (au (at? p1.specs x1) fun e1 => cT (bD p1 k1) p1 x1 e1 aQ (-1) 0) (vZ)
def qr (p1 : aw) : OI := bD p1 aQ 0
abbrev Bh (e1 : cm) : List CV := [cl aL e1.fields]
theorem Ck (p1 : aw) : CT prog 53 [mM p1] (qr p1) vi :=
  dw 82 [4, 9, 10] f53 fun r => (jL f53 6 1 vZ [] [] uz fun K J6 => (uN em p1.specs (gv f53 26 1 fun R b => have L1 : ∀ k1 {x1}, bD p1 k1 x1 = some r → (R k1).p [(1, vR (bv p1)), (14, vl em p1.specs), (15, vi p1.specs.length), (16, vi x1)] [] := uI (gh rfl) fun k1 i1 {x1} h => b h (uU (bD.eq_2 ..) (uC (dR em fun e1 => (cW f53 6758 3 fun K k => have J4 : ∀ {x9}, nz (bD p1 k1) p1 x1 e1 x9 = some r → K.p [(1, vR (bv p1)), (3, vi x1), (4, vQ 0), (5, vi x9), (14, vl em p1.specs), (15, vi p1.specs.length), (16, vi x1)] [.box (Bh e1)] := fun {x9} h => k h (cW f53 27036 4 fun K k => have J5 : ∀ {x10}, jp (bD p1 k1) p1 x1 e1 x9 x10 = some r → K.p [(1, vR (bv p1)), (4, vQ 0), (5, vi x9), (14, vl em p1.specs), (15, vi p1.specs.length), (16, vi x1), (70, vb x10)] [.box (Bh e1)] := fun {x10} h => k h (uC jf (nI 6 (dR (eL af) fun e4 => (bf (Gt _ _) fun r2 => (uC jf (uJ i1)))))); (uC (uJ J5) (uN em p1.specs (uC (uN (eL af) p1.schemas (uJ J5)) (uJ J5))))); (uN (eL af) p1.schemas (gv f53 27034 1 fun R b => have L2 : ∀ k2 {x2 x3}, cT (bD p1 k1) p1 x1 e1 k2 x2 x3 = some r → (R k2).p [(1, vR (bv p1)), (3, vi x1), (4, vQ 0), (5, vi x2), (14, vl em p1.specs), (15, vi p1.specs.length), (16, vi x1), (23, vi p1.schemas.length), (24, vi x3)] [.box (Bh e1)] := uI (gh rfl) fun k2 i2 {x2 x3} h => b h (uU (cT.eq_2 ..) (uC (cW f53 432550 1 fun K k => have J3 : ∀ {x8}, nr (cT (bD p1 k1) p1 x1 e1 k2) x3 x8 = some r → K.p [(1, vR (bv p1)), (3, vi x1), (4, vQ 0), (5, vi x8), (14, vl em p1.specs), (15, vi p1.specs.length), (16, vi x1), (23, vi p1.schemas.length), (24, vi x3)] [.box (Bh e1)] := fun {x8} h => k h (uJ i2); (cW f53 6920806 2 fun K k => have J2 : ∀ {x7}, kX (cT (bD p1 k1) p1 x1 e1 k2) x2 x3 x7 = some r → K.p [(1, vR (bv p1)), (3, vi x1), (4, vQ 0), (5, vi x2), (6, vi x3), (7, vb x7), (14, vl em p1.specs), (15, vi p1.specs.length), (16, vi x1), (23, vi p1.schemas.length), (24, vi x3)] [.box (Bh e1)] := fun {x7} h => k h (uC (uJ J3) (uJ J3)); (uN aL e1.fields (gv f53 27683226 1 fun R b => have L3 : ∀ k3 {x4 x5}, dk (cT (bD p1 k1) p1 x1 e1 k2) p1 e1 x2 x3 k3 x4 x5 = some r → (R k3).p [(1, vR (bv p1)), (3, vi x1), (4, vQ 0), (5, vi x2), (6, vi x3), (7, vb x4), (14, vl em p1.specs), (15, vi p1.specs.length), (16, vi x1), (23, vi p1.schemas.length), (24, vi x3), (28, vl aL e1.fields), (29, vi e1.fields.length), (30, vi x5)] [.box (Bh e1)] := uI (gh rfl) fun k3 i3 {x4 x5} h => b h (uU (dk.eq_2 ..) (uC (cW f53 442931622 1 fun K k => have J1 : ∀ {x6}, nt (dk (cT (bD p1 k1) p1 x1 e1 k2) p1 e1 x2 x3 k3) x5 x6 = some r → K.p [(1, vR (bv p1)), (3, vi x1), (4, vQ 0), (5, vi x2), (6, vi x3), (7, vb x6), (14, vl em p1.specs), (15, vi p1.specs.length), (16, vi x1), (23, vi p1.schemas.length), (24, vi x3), (28, vl aL e1.fields), (29, vi e1.fields.length), (30, vi x5)] [.box (Bh e1)] := fun {x6} h => k h (uJ i3); (dR aL fun e2 => (Hp 13 1 [2,3] (dR (eL af) fun e3 => (bf (v8 _ _) fun r1 => (uC (uJ J1) (uJ J1))))))) (uR (.exit 4) (xM (uJ J2))))); uE (L3 aQ))))) (uR (.exit 2) (xM (uJ J4))))); uE (L2 aQ))))) (uR (.exit 0) (xM (uJ J6))))); uE (L1 aQ))))
def bZ (rec1 : Int → OB) (x2 : Int) (x3 : Bool) : OB := ak x3 (some false) (rec1 (i64.wrap (x2 + 1)))
def vt : OB := some true
def bg (p1 : ByteArray) : Nat → Int → OB
 | 0, _ => none
 | k1 + 1, x2 => ak (decide (x2 < (p1.size : Int))) (pn (0 ≤ x2 ∧ x2 < (p1.size : Int)) <| au (some (decide (97 ≤ ((p1.data.toList.getD x2.toNat 0).toNat : Int)))) fun y1 => ak y1 (au (some (decide (((p1.data.toList.getD x2.toNat 0).toNat : Int) ≤ 122))) fun y2 => ak y2 (bZ (bg p1 k1) x2 false) (au (some (decide (48 ≤ ((p1.data.toList.getD x2.toNat 0).toNat : Int)))) fun y3 => ak y3 (au (some (decide (((p1.data.toList.getD x2.toNat 0).toNat : Int) ≤ 57))) fun y4 => ak y4 (bZ (bg p1 k1) x2 false) (ak (((p1.data.toList.getD x2.toNat 0).toNat : Int) == 95) (bZ (bg p1 k1) x2 false) (ak (((p1.data.toList.getD x2.toNat 0).toNat : Int) == 46) (bZ (bg p1 k1) x2 false) (ak (((p1.data.toList.getD x2.toNat 0).toNat : Int) == 45) (bZ (bg p1 k1) x2 false) (bZ (bg p1 k1) x2 (!(((p1.data.toList.getD x2.toNat 0).toNat : Int) == 47))))))) (ak (((p1.data.toList.getD x2.toNat 0).toNat : Int) == 95) (bZ (bg p1 k1) x2 false) (ak (((p1.data.toList.getD x2.toNat 0).toNat : Int) == 46) (bZ (bg p1 k1) x2 false) (ak (((p1.data.toList.getD x2.toNat 0).toNat : Int) == 45) (bZ (bg p1 k1) x2 false) (bZ (bg p1 k1) x2 (!(((p1.data.toList.getD x2.toNat 0).toNat : Int) == 47)))))))) (au (some (decide (48 ≤ ((p1.data.toList.getD x2.toNat 0).toNat : Int)))) fun y5 => ak y5 (au (some (decide (((p1.data.toList.getD x2.toNat 0).toNat : Int) ≤ 57))) fun y6 => ak y6 (bZ (bg p1 k1) x2 false) (ak (((p1.data.toList.getD x2.toNat 0).toNat : Int) == 95) (bZ (bg p1 k1) x2 false) (ak (((p1.data.toList.getD x2.toNat 0).toNat : Int) == 46) (bZ (bg p1 k1) x2 false) (ak (((p1.data.toList.getD x2.toNat 0).toNat : Int) == 45) (bZ (bg p1 k1) x2 false) (bZ (bg p1 k1) x2 (!(((p1.data.toList.getD x2.toNat 0).toNat : Int) == 47))))))) (ak (((p1.data.toList.getD x2.toNat 0).toNat : Int) == 95) (bZ (bg p1 k1) x2 false) (ak (((p1.data.toList.getD x2.toNat 0).toNat : Int) == 46) (bZ (bg p1 k1) x2 false) (ak (((p1.data.toList.getD x2.toNat 0).toNat : Int) == 45) (bZ (bg p1 k1) x2 false) (bZ (bg p1 k1) x2 (!(((p1.data.toList.getD x2.toNat 0).toNat : Int) == 47)))))))) (vt)
def rD (p1 : ByteArray) (x1 : Bool) : OB := ak x1 (some false) (bg p1 aQ 0)
def wJ (p1 : ByteArray) : OB := ak (decide ((p1.size : Int) < 1)) (rD p1 true) (rD p1 (decide (64 < (p1.size : Int))))
theorem Fz (p1 : ByteArray) : CT prog 148 [vs p1] (wJ p1) vb :=
  dw 53 [] f148 fun r => (cW f148 12 2 fun K k => have J1 : ∀ {x1}, rD p1 x1 = some r → K.p [(0, vs p1), (12, vb x1)] [] := fun {x1} h => k h (uC uz (jL f148 14 1 vt [] [] uz fun K J3 => (gv f148 58 1 fun R b => have L1 : ∀ k1 {x2}, bg p1 k1 x2 = some r → (R k1).p [(0, vs p1), (3, vi x2)] [] := uI (gh rfl) fun k1 i1 {x2} h => b h (uU (bg.eq_2 ..) (uC (uG (WO 23 (kS f148 [1,1,0,1,0,0,1,0,0,1,0] 3) fun K k => have J2 : ∀ {x3}, bZ (bg p1 k1) x2 x3 = some r → K.p [(0, vs p1), (3, vi x2), (52, vb x3)] [] := fun {x3} h => k h (uC jf (uJ i1)); (uY 23 vb fun y1 => (uC (uY 26 vb fun y2 => (uC (uJ J2) (uY 30 vb fun y3 => (uC (uY 33 vb fun y4 => (uC (uJ J2) (uC (uJ J2) (uC (uJ J2) (uC (uJ J2) (uJ J2)))))) (uC (uJ J2) (uC (uJ J2) (uC (uJ J2) (uJ J2)))))))) (uY 30 vb fun y5 => (uC (uY 33 vb fun y6 => (uC (uJ J2) (uC (uJ J2) (uC (uJ J2) (uC (uJ J2) (uJ J2)))))) (uC (uJ J2) (uC (uJ J2) (uC (uJ J2) (uJ J2)))))))))) (uR (.exit 0) (xM (uJ J3))))); uE (L1 aQ)))); (uC (uJ J1) (uJ J1)))
def nA (rec1 : Int → OB) (x2 : Int) (x3 : Bool) : OB := ak x3 (some false) (rec1 (i64.wrap (x2 + 1)))
def qB : OB := some true
def fw (p1 : ByteArray) : Nat → Int → OB
 | 0, _ => none
 | k1 + 1, x2 => ak (decide (x2 < (p1.size : Int))) (pn (0 ≤ x2 ∧ x2 < (p1.size : Int)) <| au (some (decide (((p1.data.toList.getD x2.toNat 0).toNat : Int) < 32))) fun y1 => ak y1 (nA (fw p1 k1) x2 true) (pn (0 ≤ x2 ∧ x2 < (p1.size : Int)) <| nA (fw p1 k1) x2 (((p1.data.toList.getD x2.toNat 0).toNat : Int) == 127))) (qB)
def nh (p1 : ByteArray) (x1 : Bool) : OB := ak x1 (some false) (fw p1 aQ 0)
def qw (p1 : ByteArray) : OB := au (utf8_ValidString p1) fun r1 => ak (!r1) (nh p1 true) (nh p1 (decide (256 < (p1.size : Int))))
theorem Co (p1 : ByteArray) : CT prog 218 [vs p1] (qw p1) vb :=
  dw 28 [] f218 fun r => (cW f218 12 2 fun K k => have J1 : ∀ {x1}, nh p1 x1 = some r → K.p [(0, vs p1), (11, vb x1)] [] := fun {x1} h => k h (uC uz (jL f218 14 1 qB [] [] uz fun K J3 => (gv f218 58 1 fun R b => have L1 : ∀ k1 {x2}, fw p1 k1 x2 = some r → (R k1).p [(0, vs p1), (3, vi x2)] [] := uI (gh rfl) fun k1 i1 {x2} h => b h (uU (fw.eq_2 ..) (uC (cW f218 1864 3 fun K k => have J2 : ∀ {x3}, nA (fw p1 k1) x2 x3 = some r → K.p [(0, vs p1), (3, vi x2), (27, vb x3)] [] := fun {x3} h => k h (uC jf (uJ i1)); (uG (uY 21 vb fun y1 => (uC (uJ J2) (uG (uJ J2)))))) (uR (.exit 0) (xM (uJ J3))))); uE (L1 aQ)))); (bf (wl _) fun r1 => (uC (uJ J1) (uJ J1))))
def qe (x2 : Bool) : OB := some x2
def qj (x3 : Bool) : OB := some x3
def qf (x4 : Bool) : OB := some x4
def qh (x5 : Bool) : OB := some x5
def nZ (x6 : Bool) : OB := some x6
def ql (x7 : Bool) : OB := some x7
def nY (x8 : Bool) : OB := some x8
def nX (x9 : Bool) : OB := some x9
def qg (p1 : ac) (x1 : Bool) : OB := ak (p1.kind == 0) (ak x1 (ak (p1.n == 0) (qe (p1.scale == 0)) (qe false)) (qe false)) (ak (p1.kind == 1) (ak x1 (au (gg p1.n 0 1) fun r1 => ak r1 (qj (p1.scale == 0)) (qj false)) (qj false)) (ak (p1.kind == 2) (ak x1 (au (gg p1.n (-999999999999999999) 999999999999999999) fun r2 => ak r2 (qf (p1.scale == 0)) (qf false)) (qf false)) (ak (p1.kind == 3) (ak x1 (au (gg p1.n (-999999999999999999) 999999999999999999) fun r3 => ak r3 (au (gg p1.scale 0 12) fun r4 => qh r4) (qh false)) (qh false)) (ak (p1.kind == 4) (ak ((p1.items.length : Int) == 0) (ak (p1.n == 0) (ak (p1.scale == 0) (au (qw p1.s) fun r5 => nZ r5) (nZ false)) (nZ false)) (nZ false)) (ak (p1.kind == 5) (ak x1 (au (gg p1.n (-62135596800) 253402300799) fun r6 => ak r6 (ql (p1.scale == 0)) (ql false)) (ql false)) (ak (p1.kind == 6) (ak (p1.s.toList == (ByteArray.mk #[]).toList) (ak (p1.n == 0) (ak (p1.scale == 0) (nY (decide ((p1.items.length : Int) ≤ 64))) (nY false)) (nY false)) (nY false)) (ak (p1.kind == 7) (ak (p1.s.toList == (ByteArray.mk #[]).toList) (ak (p1.n == 0) (ak (p1.scale == 0) (nX (decide (0 < (p1.items.length : Int)))) (nX false)) (nX false)) (nX false)) (some false))))))))
def yb (p1 : ac) : OB := ak (p1.s.toList == (ByteArray.mk #[]).toList) (qg p1 ((p1.items.length : Int) == 0)) (qg p1 false)
theorem GW (p1 : ac) : CT prog 191 [mV p1] (yb p1) vb :=
  dw 143 [] f191 fun r => (cW f191 6 1 fun K k => have J1 : ∀ {x1}, qg p1 x1 = some r → K.p [(1, vR [pi p1.kind, pi p1.n, pi p1.scale, .s (.string p1.s), .ro (ah.els p1.items)]), (3, vb x1)] [] := fun {x1} h => k h (uC (cW f191 468 3 fun K k => have J2 : ∀ {x2}, qe x2 = some r → K.p [(2, vb x2)] [] := fun {x2} h => k h uz; (uC (uC (uJ J2) (uJ J2)) (uJ J2))) (uC (cW f191 1884 3 fun K k => have J3 : ∀ {x3}, qj x3 = some r → K.p [(2, vb x3)] [] := fun {x3} h => k h uz; (uC (bf (jG _ _ _) fun r1 => (uC (uJ J3) (uJ J3))) (uJ J3))) (uC (cW f191 7548 3 fun K k => have J4 : ∀ {x4}, qf x4 = some r → K.p [(2, vb x4)] [] := fun {x4} h => k h uz; (uC (bf (jG _ _ _) fun r2 => (uC (uJ J4) (uJ J4))) (uJ J4))) (uC (cW f191 30204 3 fun K k => have J5 : ∀ {x5}, qh x5 = some r → K.p [(2, vb x5)] [] := fun {x5} h => k h uz; (uC (bf (jG _ _ _) fun r3 => (uC (bf (jG _ _ _) fun r4 => (uJ J5)) (uJ J5))) (uJ J5))) (uC (cW f191 120828 3 fun K k => have J6 : ∀ {x6}, nZ x6 = some r → K.p [(2, vb x6)] [] := fun {x6} h => k h uz; (uN ah p1.items (uC (uC (uC (bf (Co _) fun r5 => (uJ J6)) (uJ J6)) (uJ J6)) (uJ J6)))) (uC (cW f191 483324 3 fun K k => have J7 : ∀ {x7}, ql x7 = some r → K.p [(2, vb x7)] [] := fun {x7} h => k h uz; (uC (bf (jG _ _ _) fun r6 => (uC (uJ J7) (uJ J7))) (uJ J7))) (uC (cW f191 1933308 3 fun K k => have J8 : ∀ {x8}, nY x8 = some r → K.p [(2, vb x8)] [] := fun {x8} h => k h uz; (uC (uC (uC (uN ah p1.items (uJ J8)) (uJ J8)) (uJ J8)) (uJ J8))) (uC (cW f191 7733244 3 fun K k => have J9 : ∀ {x9}, nX x9 = some r → K.p [(2, vb x9)] [] := fun {x9} h => k h uz; (uC (uC (uC (uN ah p1.items (uJ J9)) (uJ J9)) (uJ J9)) (uJ J9))) uz)))))))); (uC (uN ah p1.items (uJ J1)) (uJ J1)))
def w4 (z3 : Int) : Option (Bool × Int) := some (true, z3)
def nV (q_ref1_sound : ac → Int → Int → Option (Bool × Int)) (p1 : ac) (p2 : Int) : Nat → Int → Int → Option (Bool × Int)
 | 0, _, _ => none
 | k1 + 1, z2, x2 => ak (decide (x2 < (p1.items.length : Int))) (au (at? p1.items x2) fun e1 => au (q_ref1_sound e1 (i64.wrap (p2 + 1)) z2) fun r2 => ak (!r2.1) (some (false, r2.2)) ((nV q_ref1_sound p1 p2 k1) r2.2 (i64.wrap (x2 + 1)))) (w4 z2)
def nU (q_ref1_sound : ac → Int → Int → Option (Bool × Int)) (p1 : ac) (p2 z1 : Int) (x1 : Bool) : Option (Bool × Int) := ak x1 (some (false, z1)) (nV q_ref1_sound p1 p2 aQ z1 0)
def qk (q_ref1_sound : ac → Int → Int → Option (Bool × Int)) (p1 : ac) (p2 z1 : Int) : Option (Bool × Int) := ak (decide (4 < p2)) (nU q_ref1_sound p1 p2 z1 true) (ak (decide (256 < z1)) (nU q_ref1_sound p1 p2 z1 true) (au (yb p1) fun r1 => nU q_ref1_sound p1 p2 z1 (!r1)))
def jr : Nat → ac → Int → Int → Option (Bool × Int)
 | 0, _, _, _ => none
 | k0 + 1, p1, p2, p3 => ak (p1.kind != 0) (qk (jr k0) p1 p2 (i64.wrap (p3 + 1))) (qk (jr k0) p1 p2 p3)
abbrev ld (p1 : ac) : List PV := [pi p1.kind, pi p1.n, pi p1.scale, .s (.string p1.s), .ro (ah.els p1.items)]
theorem BA : ∀ (k0 : Nat) (p1 : ac) (p2 p3 : Int), CM prog 151 [mV p1, vi p2, vQ 0] [.box [ci p3]] (jr k0 p1 p2 p3) (fun r => vb r.1) (fun r => [.box [ci r.2]])
  | 0, _, _, _ => Ry (jr.eq_1 ..)
  | k0 + 1, p1, p2, p3 => pw 1 46 [] f151 fun r => (uU (jr.eq_2 ..) (cW f151 6 1 fun K k => have J1 : ∀ {z1}, qk (jr k0) p1 p2 z1 = some r → K.p [(1, vi p2), (2, vQ 0), (3, vR (ld p1))] [.box [ci z1]] := fun {z1} h => k h (cW f151 28 2 fun K k => have J2 : ∀ {x1}, nU (jr k0) p1 p2 z1 x1 = some r → K.p [(1, vi p2), (2, vQ 0), (3, vR (ld p1)), (28, vb x1)] [.box [ci z1]] := fun {x1} h => k h (uC (uR .ret qD) (cW f151 30 1 fun K k => have J3 : ∀ {z3}, w4 z3 = some r → K.p [] [.box [ci z3]] := fun {z3} h => k h (uR .ret qD); (uN ah p1.items (gv f151 122 1 fun R b => have L1 : ∀ k1 {z2 x2}, nV (jr k0) p1 p2 k1 z2 x2 = some r → (R k1).p [(1, vi p2), (2, vQ 0), (3, vR (ld p1)), (31, vi p1.items.length), (32, vi x2)] [.box [ci z2]] := uI (gh rfl) fun k1 i1 {z2 x2} h => b h (uU (nV.eq_2 ..) (uC (dR ah fun e1 => (yF true [0] (BA k0 _ _ _) fun r2 _ => (uC (uR .ret (xN (xN qD))) (uJ i1)))) (uR (.exit 0) (xM (uJ J3))))); uE (L1 aQ))))); (uC (uJ J2) (uC (uJ J2) (bf (GW _) fun r1 => (uJ J2))))); (uC (uJ J1) (uJ J1))))
def vz (p1 : ac) : OB := au (jr aQ p1 1 0) fun r1 => some r1.1
theorem Cd (p1 : ac) : CT prog 106 [mV p1] (vz p1) vb :=
  dw 6 [3] f106 fun r => (yF true [0] (BA aQ _ _ _) fun r1 _ => uz)
def yi (rec1 : Int → OB) (q_ref1_of : am → ac → OB) (p1 : am) (p2 : ac) (x3 x4 : Int) : OB := au (at? p1.fields x4) fun e1 => au (at? p2.items x3) fun e2 => au (q_ref1_of e1.type e2) fun r1 => ak (!r1) (some false) (rec1 (i64.wrap (x3 + 1)))
def Bu : OB := some true
def jx (q_ref1_of : am → ac → OB) (p1 : am) (p2 : ac) : Nat → Int → OB
 | 0, _ => none
 | k1 + 1, x3 => ak (decide (x3 < (p2.items.length : Int))) (ak (p1.kind == 6) (yi (jx q_ref1_of p1 p2 k1) q_ref1_of p1 p2 x3 0) (yi (jx q_ref1_of p1 p2 k1) q_ref1_of p1 p2 x3 x3)) (Bu)
def sx (q_ref1_of : am → ac → OB) (p1 : am) (p2 : ac) (x2 : Bool) : OB := ak x2 (some false) (jx q_ref1_of p1 p2 aQ 0)
def yx (q_ref1_of : am → ac → OB) (p1 : am) (p2 : ac) (x1 : Bool) : OB := ak x1 (some false) (ak (p1.kind == 7) (sx q_ref1_of p1 p2 ((p2.items.length : Int) != (p1.fields.length : Int))) (sx q_ref1_of p1 p2 false))
def jc : Nat → am → ac → OB
 | 0, _, _ => none
 | k0 + 1, p1, p2 => ak (p2.kind == 0) (some true) (ak (p2.kind != p1.kind) (yx (jc k0) p1 p2 true) (yx (jc k0) p1 p2 (p2.scale != p1.scale)))
theorem FX : ∀ (k0 : Nat) (p1 : am) (p2 : ac), CT prog 164 [mT p1, mV p2] (jc k0 p1 p2) vb
  | 0, _, _ => FE (jc.eq_1 ..)
  | k0 + 1, p1, p2 => dw 58 [] f164 fun r => (uU (jc.eq_2 ..) (uC uz (cW f164 28 2 fun K k => have J1 : ∀ {x1}, yx (jc k0) p1 p2 x1 = some r → K.p [(2, vR (dv p1)), (3, vR (ld p2)), (21, vb x1)] [] := fun {x1} h => k h (uC uz (cW f164 60 2 fun K k => have J2 : ∀ {x2}, sx (jc k0) p1 p2 x2 = some r → K.p [(2, vR (dv p1)), (3, vR (ld p2)), (33, vb x2)] [] := fun {x2} h => k h (uC uz (jL f164 62 1 Bu [] [] uz fun K J4 => (uN ah p2.items (gv f164 250 1 fun R b => have L1 : ∀ k1 {x3}, jx (jc k0) p1 p2 k1 x3 = some r → (R k1).p [(2, vR (dv p1)), (3, vR (ld p2)), (36, vi p2.items.length), (37, vi x3)] [] := uI (gh rfl) fun k1 i1 {x3} h => b h (uU (jx.eq_2 ..) (uC (cW f164 64102 3 fun K k => have J3 : ∀ {x4}, yi (jx (jc k0) p1 p2 k1) (jc k0) p1 p2 x3 x4 = some r → K.p [(2, vR (dv p1)), (3, vR (ld p2)), (5, vi x3), (6, vi x4), (36, vi p2.items.length), (37, vi x3)] [] := fun {x4} h => k h (nI 11 (dR af fun e1 => (dR ah fun e2 => (bf (FX k0 _ _) fun r1 => (uC jf (uJ i1)))))); (uC (uJ J3) (uJ J3))) (uR (.exit 0) (xM (uJ J4))))); uE (L1 aQ))))); (uC (uN ah p2.items (uN af p1.fields (uJ J2))) (uJ J2)))); (uC (uJ J1) (uJ J1)))))
def nF (rec1 : Int → OB) (x1 : Int) (x3 : Bool) : OB := ak x3 (some true) (rec1 (i64.wrap (x1 + 1)))
def nK (rec1 : Int → OB) (q_ref1_missing : am → ac → OB) (p1 : am) (p2 : ac) (x1 x2 : Int) : OB := au (at? p1.fields x2) fun e1 => ak e1.need (au (at? p2.items x1) fun e2 => ak (e2.kind == 0) (nF rec1 x1 true) (au (q_ref1_missing e1.type e2) fun r1 => nF rec1 x1 r1)) (au (at? p2.items x1) fun e3 => au (q_ref1_missing e1.type e3) fun r2 => nF rec1 x1 r2)
def tU : OB := some false
def ef (q_ref1_missing : am → ac → OB) (p1 : am) (p2 : ac) : Nat → Int → OB
 | 0, _ => none
 | k1 + 1, x1 => ak (decide (x1 < (p2.items.length : Int))) (ak (p1.kind == 6) (nK (ef q_ref1_missing p1 p2 k1) q_ref1_missing p1 p2 x1 0) (nK (ef q_ref1_missing p1 p2 k1) q_ref1_missing p1 p2 x1 x1)) (tU)
def eb : Nat → am → ac → OB
 | 0, _, _ => none
 | k0 + 1, p1, p2 => ef (eb k0) p1 p2 aQ 0
theorem wh : ∀ (k0 : Nat) (p1 : am) (p2 : ac), CT prog 165 [mT p1, mV p2] (eb k0 p1 p2) vb
  | 0, _, _ => FE (eb.eq_1 ..)
  | k0 + 1, p1, p2 => dw 45 [7] f165 fun r => (uU (eb.eq_2 ..) (jL f165 6 1 tU [] [] uz fun K J3 => (uN ah p2.items (gv f165 26 1 fun R b => have L1 : ∀ k1 {x1}, ef (eb k0) p1 p2 k1 x1 = some r → (R k1).p [(2, vR (dv p1)), (3, vR (ld p2)), (10, vi p2.items.length), (11, vi x1)] [] := uI (gh rfl) fun k1 i1 {x1} h => b h (uU (ef.eq_2 ..) (uC (cW f165 6758 3 fun K k => have J1 : ∀ {x2}, nK (ef (eb k0) p1 p2 k1) (eb k0) p1 p2 x1 x2 = some r → K.p [(2, vR (dv p1)), (3, vR (ld p2)), (5, vi x1), (6, vi x2), (10, vi p2.items.length), (11, vi x1)] [] := fun {x2} h => k h (dR af fun e1 => (cW f165 27038 3 fun K k => have J2 : ∀ {x3}, nF (ef (eb k0) p1 p2 k1) x1 x3 = some r → K.p [(2, vR (dv p1)), (3, vR (ld p2)), (10, vi p2.items.length), (11, vi x1), (43, vb x3)] [.dead] := fun {x3} h => k h (uC jf (uJ i1)); (nI 19 (uC (uL ah fun e2 a17 => (uC (uJ J2) (uM ah a17 (bf (wh k0 _ _) fun r1 => (uJ J2))))) (dR ah fun e3 => (bf (wh k0 _ _) fun r2 => (uJ J2))))))); (uC (uJ J1) (uJ J1))) (uR (.exit 0) (xM (uJ J3))))); uE (L1 aQ)))))
def l4 (p1 : am) (p2 : ac) : OI := au (jM p1) fun r1 => ak (r1 != 0) (some r1) (au (vz p2) fun r2 => ak (!r2) (some 1) (au (jc aQ p1 p2) fun r3 => ak (!r3) (some 2) (au (eb aQ p1 p2) fun r4 => ak r4 (some 9) (some 0))))
theorem rO (p1 : am) (p2 : ac) : CT prog 120 [mT p1, mV p2] (l4 p1 p2) vi :=
  dw 21 [] f120 fun r => (bf (mR _) fun r1 => (uC uz (bf (Cd _) fun r2 => (uC uz (bf (FX aQ _ _) fun r3 => (uC uz (bf (wh aQ _ _) fun r4 => (uC uz uz))))))))
def kd (p1 p2 : Int) : OI := ak (decide (p1 < p2)) (some (-1)) (ak (decide (p2 < p1)) (some 1) (some 0))
theorem kv (p1 p2 : Int) : CT prog 188 [vi p1, vi p2] (kd p1 p2) vi :=
  dw 11 [] f188 fun r => (uC uz (uC uz uz))
def oy (rec1 : List Int → Int → Option rZ) (l1 : List Int) (x1 x2 : Int) : Option rZ := pn (l1.length + 1 ≤ 4294967296) <| rec1 (l1 ++ [x2]) (i64.wrap (x1.tdiv 10))
def zI (p1 : Int) (l2 : List Int) : Option rZ := some (rZ.mk (decide (p1 < 0)) l2)
def eZ (p1 : Int) : Nat → List Int → Int → Option rZ
 | 0, _, _ => none
 | k1 + 1, l1, x1 => ak (x1 != 0) (ak (decide ((x1.tmod 10) < 0)) (oy (eZ p1 k1) l1 x1 (i64.wrap (0 - (x1.tmod 10)))) (oy (eZ p1 k1) l1 x1 (x1.tmod 10))) (zI p1 l1)
def zC (p1 : Int) : Option rZ := eZ p1 aQ [] p1
abbrev Jk : List CV := [cb false, .pv (.s (.slice none 0 0))]
theorem Fy (p1 : Int) : CT prog 234 [vi p1] (zC p1) (fun r => .ag [cb r.below, cl eI r.d]) :=
  dw 25 [2] f234 fun r => (cW f234 14 1 fun K k => have J2 : ∀ {l2}, zI p1 l2 = some r → K.p [(0, vi p1), (2, vQ 0), (3, .one (.sl 1 1 0 l2.length))] [.box Jk, .arr 1 (eI.els l2)] := fun {l2} h => k h (Qf eI l2 1 [] uz); (Mn (.li 3 1) (gv f234 58 1 fun R b => have L1 : ∀ k1 {l1 x1}, eZ p1 k1 l1 x1 = some r → (R k1).p [(0, vi p1), (2, vQ 0), (3, .one (.sl 1 1 0 l1.length)), (4, vi x1)] [.box Jk, .arr 1 (eI.els l1)] := uI (gh rfl) fun k1 i1 {l1 x1} h => b h (uU (eZ.eq_2 ..) (uC (cW f234 3730 3 fun K k => have J1 : ∀ {x2}, oy (eZ p1 k1) l1 x1 x2 = some r → K.p [(0, vi p1), (2, vQ 0), (3, .one (.sl 1 1 0 l1.length)), (4, vi x1), (5, vi x2)] [.box Jk, .arr 1 (eI.els l1)] := fun {x2} h => k h (QR eI 1 [x2] (uJ i1)); (uC (uJ J1) (uJ J1))) (uR (.exit 0) (xM (uJ J2))))); uE (L1 aQ))))
def C5 (p1 : rZ) (p2 : Int) : Option rZ := ak ((p1.d.length : Int) == 0) (some p1) (pn (0 ≤ p2 ∧ p2 ≤ p2 ∧ p2 ≤ 4294967296) <| pn ((List.replicate p2.toNat (0 : Int)).length + p1.d.length ≤ 4294967296) <| some (rZ.mk p1.below ((List.replicate p2.toNat (0 : Int)) ++ p1.d)))
theorem Ii (p1 : rZ) (p2 : Int) : CT prog 233 [.ag [cb p1.below, cl eI p1.d], vi p2] (C5 p1 p2) (fun r => .ag [cb r.below, cl eI r.d]) :=
  dw 18 [4] f233 fun r => (uN eI p1.d (uC uz (Hp 7 1 [1,2] (Xj eI (0 : Int) (QR (L := p2.toNat) (hL := by simp) eI 1 p1.d (Qf eI ((List.replicate p2.toNat (0 : Int)) ++ p1.d) 1 [] uz))))))
def tG (p1 : ac) : Option rZ := au (zC p1.n) fun r1 => au (C5 r1 (i64.wrap (12 - p1.scale))) fun r2 => some r2
theorem AZ (p1 : ac) : CT prog 217 [mV p1] (tG p1) (fun r => .ag [cb r.below, cl eI r.d]) :=
  dw 10 [2] f217 fun r => (nI 6 (bf (Fy _) fun r1 => (bf (Ii _ _) fun r2 => uz)))
def CC : OI := some 0
def pA (p1 p2 : List Int) : Nat → Int → OI
 | 0, _ => none
 | k1 + 1, x1 => ak (decide (0 ≤ x1)) (au (at? p1 x1) fun e1 => au (at? p2 x1) fun e2 => ak (e1 != e2) (some (i64.wrap (e1 - e2))) ((pA p1 p2 k1) (i64.wrap (x1 - 1)))) (CC)
def Ap (p1 p2 : List Int) : OI := ak ((p1.length : Int) != (p2.length : Int)) (some (i64.wrap ((p1.length : Int) - (p2.length : Int)))) (pA p1 p2 aQ (i64.wrap ((p1.length : Int) - 1)))
theorem IJ (p1 p2 : List Int) : CT prog 232 [vl eI p1, vl eI p2] (Ap p1 p2) vi :=
  dw 41 [] f232 fun r => (uN eI p1 (uN eI p2 (uC (uN eI p1 (uN eI p2 uz)) (jL f232 14 1 CC [] [] uz fun K J1 => (uN eI p1 (gv f232 58 1 fun R b => have L1 : ∀ k1 {x1}, pA p1 p2 k1 x1 = some r → (R k1).p [(0, vl eI p1), (1, vl eI p2), (5, vi x1)] [] := uI (gh rfl) fun k1 i1 {x1} h => b h (uU (pA.eq_2 ..) (uC (nI 8 (uL eI fun e1 a13 => (uL eI fun e2 a14 => (uC (nI 8 (uM eI a13 (uM eI a14 jf))) (uJ i1))))) (uR (.exit 0) (xM (uJ J1))))); uE (L1 aQ)))))))
def kf (x1 : Int) : OI := ak (decide (x1 < 0)) (some (-1)) (ak (decide (0 < x1)) (some 1) (some 0))
def pf (p1 p2 : rZ) : OI := ak (!(p1.below == p2.below)) (ak p1.below (some (-1)) (some 1)) (au (Ap p1.d p2.d) fun r1 => ak p1.below (kf (i64.wrap (0 - r1))) (kf r1))
theorem A4 (p1 p2 : rZ) : CT prog 216 [.ag [cb p1.below, cl eI p1.d], .ag [cb p2.below, cl eI p2.d]] (pf p1 p2) vi :=
  dw 26 [] f216 fun r => (uC (uC uz uz) (bf (IJ _ _) fun r1 => (cW f216 30 1 fun K k => have J1 : ∀ {x1}, kf x1 = some r → K.p [(5, vi x1)] [] := fun {x1} h => k h (uC uz (uC uz uz)); (uC (uJ J1) (uJ J1)))))
def w7 (p1 p2 : ac) : OI := au (gg p1.scale 0 12) fun r1 => au (gg p2.scale 0 12) fun r2 => ak (!(r1 == r2)) (ak r1 (some (-1)) (some 1)) (ak r1 (au (tG p1) fun r3 => au (tG p2) fun r4 => au (pf r3 r4) fun r5 => ak (r5 != 0) (some r5) (au (kd p1.scale p2.scale) fun r6 => some r6)) (ak (p1.n != p2.n) (au (kd p1.n p2.n) fun r7 => some r7) (au (kd p1.scale p2.scale) fun r8 => some r8)))
theorem DW (p1 p2 : ac) : CT prog 189 [mV p1, mV p2] (w7 p1 p2) vi :=
  dw 47 [] f189 fun r => (nI 5 (bf (jG _ _ _) fun r1 => (bf (jG _ _ _) fun r2 => (uC (uC uz uz) (uC (nI 3 (bf (AZ _) fun r3 => (bf (AZ _) fun r4 => (bf (A4 _ _) fun r5 => (uC uz (bf (kv _ _) fun r6 => uz)))))) (uC (bf (kv _ _) fun r7 => uz) (bf (kv _ _) fun r8 => uz)))))))
def xp (p1 p2 : ByteArray) : OI := au (kd (p1.size : Int) (p2.size : Int)) fun r2 => some r2
def td (rec1 : Int → OI) (p1 p2 : ByteArray) (x1 : Int) (x2 : Bool) : OI := ak x2 (pn (0 ≤ x1 ∧ x1 < (p1.size : Int)) <| pn (0 ≤ x1 ∧ x1 < (p2.size : Int)) <| au (some (((p1.data.toList.getD x1.toNat 0).toNat : Int) != ((p2.data.toList.getD x1.toNat 0).toNat : Int))) fun y1 => ak y1 (pn (0 ≤ x1 ∧ x1 < (p1.size : Int)) <| pn (0 ≤ x1 ∧ x1 < (p2.size : Int)) <| au (kd (i64.wrap ((p1.data.toList.getD x1.toNat 0).toNat : Int)) (i64.wrap ((p2.data.toList.getD x1.toNat 0).toNat : Int))) fun r1 => some r1) (rec1 (i64.wrap (x1 + 1)))) (xp p1 p2)
def ky (p1 p2 : ByteArray) : Nat → Int → OI
 | 0, _ => none
 | k1 + 1, x1 => ak (decide (x1 < (p1.size : Int))) (td (ky p1 p2 k1) p1 p2 x1 (decide (x1 < (p2.size : Int)))) (td (ky p1 p2 k1) p1 p2 x1 false)
def vV (p1 p2 : ByteArray) : OI := ky p1 p2 aQ 0
theorem Gk (p1 p2 : ByteArray) : CT prog 190 [vs p1, vs p2] (vV p1 p2) vi :=
  dw 39 [] f190 fun r => (jL f190 6 1 (xp p1 p2) [(0, vs p1), (1, vs p2)] [] (bf (kv _ _) fun r2 => uz) fun K J2 => (gv f190 26 1 fun R b => have L1 : ∀ k1 {x1}, ky p1 p2 k1 x1 = some r → (R k1).p [(0, vs p1), (1, vs p2), (5, vi x1)] [] := uI (gh rfl) fun k1 i1 {x1} h => b h (uU (ky.eq_2 ..) (cW f190 208 2 fun K k => have J1 : ∀ {x2}, td (ky p1 p2 k1) p1 p2 x1 x2 = some r → K.p [(0, vs p1), (1, vs p2), (5, vi x1), (15, vb x2)] [] := fun {x2} h => k h (uC (nI 6 (uG (uG (uY 24 vb fun y1 => (uC (nI 8 (uG (uG (bf (kv _ _) fun r1 => jf)))) (uJ i1)))))) (uR (.exit 0) (xM (uJ J2)))); (uC (uJ J1) (uJ J1)))); uE (L1 aQ)))
def uc (p1 p2 : ac) : OI := au (kd (p1.items.length : Int) (p2.items.length : Int)) fun r7 => some r7
def qn (rec1 : Int → OI) (q_ref1_Compare : ac → ac → OI) (p1 p2 : ac) (x2 : Int) (x3 : Bool) : OI := ak x3 (au (at? p1.items x2) fun e1 => au (at? p2.items x2) fun e2 => au (q_ref1_Compare e1 e2) fun r6 => ak (r6 != 0) (some r6) (rec1 (i64.wrap (x2 + 1)))) (uc p1 p2)
def gx (q_ref1_Compare : ac → ac → OI) (p1 p2 : ac) : Nat → Int → OI
 | 0, _ => none
 | k1 + 1, x2 => ak (decide (x2 < (p1.items.length : Int))) (qn (gx q_ref1_Compare p1 p2 k1) q_ref1_Compare p1 p2 x2 (decide (x2 < (p2.items.length : Int)))) (qn (gx q_ref1_Compare p1 p2 k1) q_ref1_Compare p1 p2 x2 false)
def lA (q_ref1_Compare : ac → ac → OI) (p1 p2 : ac) (x1 : Bool) : OI := ak x1 (au (kd p1.n p2.n) fun r3 => some r3) (ak (p1.scale != p2.scale) (au (kd p1.scale p2.scale) fun r4 => some r4) (au (vV p1.s p2.s) fun r5 => ak (r5 != 0) (some r5) (gx q_ref1_Compare p1 p2 aQ 0)))
def lF (q_ref1_Compare : ac → ac → OI) (p1 p2 : ac) : OI := ak (p1.n != p2.n) (lA q_ref1_Compare p1 p2 (p1.kind != 3)) (lA q_ref1_Compare p1 p2 false)
def cF : Nat → ac → ac → OI
 | 0, _, _ => none
 | k0 + 1, p1, p2 => ak (!((p1.kind == 0) == (p2.kind == 0))) (ak (p1.kind == 0) (some 1) (some (-1))) (ak (p1.kind == 0) (some 0) (ak (p1.kind != p2.kind) (au (kd p1.kind p2.kind) fun r1 => some r1) (ak (p1.kind == 3) (au (w7 p1 p2) fun r2 => ak (r2 != 0) (some r2) (lF (cF k0) p1 p2)) (lF (cF k0) p1 p2))))
theorem oZ : ∀ (k0 : Nat) (p1 p2 : ac), CT prog 149 [mV p1, mV p2] (cF k0 p1 p2) vi
  | 0, _, _ => FE (cF.eq_1 ..)
  | k0 + 1, p1, p2 => dw 109 [] f149 fun r => (uU (cF.eq_2 ..) (uC (uC uz uz) (uC uz (uC (bf (kv _ _) fun r1 => uz) (jL f149 62 1 (lF (cF k0) p1 p2) [(2, vR (ld p1)), (3, vR (ld p2))] [] (cW f149 252 2 fun K k => have J2 : ∀ {x1}, lA (cF k0) p1 p2 x1 = some r → K.p [(2, vR (ld p1)), (3, vR (ld p2)), (50, vb x1)] [] := fun {x1} h => k h (uC (bf (kv _ _) fun r3 => uz) (uC (bf (kv _ _) fun r4 => uz) (bf (Gk _ _) fun r5 => (uC uz (jL f149 1022 1 (uc p1 p2) [(2, vR (ld p1)), (3, vR (ld p2))] [] (uN ah p1.items (uN ah p2.items (bf (kv _ _) fun r7 => uz))) fun K J4 => (gv f149 4090 1 fun R b => have L1 : ∀ k1 {x2}, gx (cF k0) p1 p2 k1 x2 = some r → (R k1).p [(2, vR (ld p1)), (3, vR (ld p2)), (7, vi x2)] [] := uI (gh rfl) fun k1 i1 {x2} h => b h (uU (gx.eq_2 ..) (cW f149 32720 2 fun K k => have J3 : ∀ {x3}, qn (gx (cF k0) p1 p2 k1) (cF k0) p1 p2 x2 x3 = some r → K.p [(2, vR (ld p1)), (3, vR (ld p2)), (7, vi x2), (85, vb x3)] [] := fun {x3} h => k h (uC (nI 10 (dR ah fun e1 => (dR ah fun e2 => (bf (oZ k0 _ _) fun r6 => (uC jf (uJ i1)))))) (uR (.exit 0) (xM (uJ J4)))); (uN ah p1.items (uC (uN ah p2.items (uJ J3)) (uJ J3))))); uE (L1 aQ))))))); (uC (uJ J2) (uJ J2))) fun K J1 => (uC (bf (DW _ _) fun r2 => (uC (uR .ret (xN xF)) (uJ J1))) (uJ J1)))))))
def oe (rec3 : List ae → Int → OI) (x4 : Int) (l2 : List ae) : OI := rec3 l2 (i64.wrap (x4 + 1))
def lM (rec5 : Int → OI) (x6 : Int) (x7 : Bool) : OI := ak x7 (some 1) (rec5 (i64.wrap (x6 + 1)))
def wE : OI := some 0
def eK (p2 : aj) (l3 : List ae) : Nat → Int → OI
 | 0, _ => none
 | k5 + 1, x6 => ak (decide (x6 < (p2.stats.length : Int))) (au (at? p2.stats x6) fun e9 => au (du e9.nulls 0 p2.rows) fun r10 => ak (!r10) (some 3) (au (at? l3 x6) fun e10 => au (l4 e10.type e9.min) fun r11 => ak (r11 != 0) (some r11) (au (l4 e10.type e9.max) fun r12 => ak (r12 != 0) (some r12) (ak (!((e9.min.kind == 0) == (e9.nulls == p2.rows))) (lM (eK p2 l3 k5) x6 true) (ak (!((e9.max.kind == 0) == (e9.nulls == p2.rows))) (lM (eK p2 l3 k5) x6 true) (au (cF aQ e9.min e9.max) fun r13 => lM (eK p2 l3 k5) x6 (decide (0 < r13)))))))) (wE)
def oi (p2 : aj) (l3 : List ae) : OI := eK p2 l3 aQ 0
def ip (p2 : aj) (l3 : List ae) : Nat → Int → OI
 | 0, _ => none
 | k4 + 1, x5 => ak (decide (x5 < ((l3.length : Nat) : Int))) (au (at? l3 x5) fun e7 => au (at? p2.stats x5) fun e8 => ak (e7.id != e8.id) (some 1) ((ip p2 l3 k4) (i64.wrap (x5 + 1)))) (oi p2 l3)
def j2 (p2 : aj) (l3 : List ae) : OI := ak (((l3.length : Nat) : Int) != (p2.stats.length : Int)) (some 1) (ip p2 l3 aQ 0)
def fi (p2 : aj) (e1 : List ae) : Nat → List ae → Int → OI
 | 0, _, _ => none
 | k3 + 1, l1, x4 => ak (decide (x4 < (e1.length : Int))) (au (at? e1 x4) fun e6 => au (fm e6.type.kind) fun r9 => ak r9 (pn (l1.length + 1 ≤ 4294967296) <| oe (fi p2 e1 k3) x4 (l1 ++ [e6])) (oe (fi p2 e1 k3) x4 l1)) (j2 p2 l1)
def oj (p2 : aj) (e1 : List ae) : OI := fi p2 e1 aQ [] 0
def iB (p2 : aj) (e1 : List ae) (e2 : cm) : Nat → Int → OI
 | 0, _ => none
 | k2 + 1, x3 => ak (decide (x3 < (e2.fields.length : Int))) (au (at? e2.fields x3) fun e4 => au (o5 e1 e4.source) fun r6 => au (gH e4.transform r6.1.type) fun r7 => ak (r7.2 != 0) (some 2) (au (at? p2.part x3) fun e5 => au (l4 r7.1 e5) fun r8 => ak (r8 != 0) (some r8) ((iB p2 e1 e2 k2) (i64.wrap (x3 + 1))))) (oj p2 e1)
def oq (p2 : aj) (e1 : List ae) (e2 : cm) : OI := ak ((p2.part.length : Int) != (e2.fields.length : Int)) (some 1) (iB p2 e1 e2 aQ 0)
def gf (p2 : aj) (e1 : List ae) (e2 : cm) : Nat → Int → OI
 | 0, _ => none
 | k1 + 1, x2 => ak (decide (x2 < (e2.fields.length : Int))) (au (at? e2.fields x2) fun e3 => au (o5 e1 e3.source) fun r5 => ak (!r5.2) (some 9) ((gf p2 e1 e2 k1) (i64.wrap (x2 + 1)))) (oq p2 e1 e2)
def iI (p1 : aw) (p2 : aj) (x1 : Bool) : OI := ak x1 (some 3) (au (at? p1.schemas p2.schema) fun e1 => au (at? p1.specs p2.spec) fun e2 => gf p2 e1 e2 aQ 0)
def rB (p1 : aw) (p2 : aj) : OI := au (wJ p2.name) fun r1 => ak (!r1) (some 4) (au (du p2.schema 0 (i64.wrap ((p1.schemas.length : Int) - 1))) fun r2 => ak (!r2) (iI p1 p2 true) (au (du p2.spec 0 (i64.wrap ((p1.specs.length : Int) - 1))) fun r3 => ak (!r3) (iI p1 p2 true) (au (du p2.rows 1 2000) fun r4 => ak (!r4) (iI p1 p2 true) (iI p1 p2 (decide (p2.seq < 1))))))
theorem Dk (p1 : aw) (p2 : aj) : CT prog 100 [mM p1, mF p2] (rB p1 p2) vi :=
  dw 235 [6, 8, 9, 12, 13, 15, 20, 23] f100 fun r => (bf (Fz _) fun r1 => (Uh (fun b5 => uz) (fun b5 => (cW f100 28 2 fun K k => have J1 : ∀ {x1}, iI p1 p2 x1 = some r → K.p [(2, vR [.ro ((eL af).els p1.schemas), .ro (em.els p1.specs), pi p1.nextField, pi p1.nextSeq, pi p1.nextSnap, pi p1.purges, .ro (aM.els p1.snapshots), .ro (lg.els p1.refs), .ro (ic.els p1.props)]), (3, vR (eR p2)), (59, vb x1)] [] := fun {x1} h => k h (uC uz (Hp 14 1 [0,1] (dR (eL af) fun e1 => (dR em fun e2 => (jL f100 62 1 (oq p2 e1 e2) [(3, vR (eR p2)), (5, vl af e1), (6, vQ 0)] [.box [cl aL e2.fields]] (uN ah p2.part (uN aL e2.fields (uC uz (jL f100 254 1 (oj p2 e1) [(3, vR (eR p2)), (5, vl af e1)] [.dead] (cW f100 1022 1 fun K k => have J5 : ∀ {l3}, j2 p2 l3 = some r → K.p [(3, vR (eR p2)), (18, .one (.sl 1 6 0 l3.length))] [.dead, .arr 6 (af.els l3)] := fun {l3} h => k h (uN dP p2.stats (uC uz (jL f100 4094 1 (oi p2 l3) [(3, vR (eR p2)), (18, .one (.sl 1 6 0 l3.length))] [.dead, .arr 6 (af.els l3)] (jL f100 8190 1 wE [] [.dead, .dead] uz fun K J8 => (uN dP p2.stats (gv f100 32762 1 fun R b => have L5 : ∀ k5 {x6}, eK p2 l3 k5 x6 = some r → (R k5).p [(3, vR (eR p2)), (18, .one (.sl 1 6 0 l3.length)), (172, vl dP p2.stats), (173, vi p2.stats.length), (174, vi x6)] [.dead, .arr 6 (af.els l3)] := uI (gh rfl) fun k5 i5 {x6} h => b h (uU (eK.eq_2 ..) (uC (dR dP fun e9 => (bf (di _ _ _) fun r10 => (uC jf (nI 7 (VA af 1 fun e10 a103 => (Vz af a103 (bf (rO _ _) fun r11 => (uC jf (nI 7 (Xb af 1 a103 (Vz af a103 (bf (rO _ _) fun r12 => (uC jf (cW f100 67097406 3 fun K k => have J7 : ∀ {x7}, lM (eK p2 l3 k5) x6 x7 = some r → K.p [(3, vR (eR p2)), (18, .one (.sl 1 6 0 l3.length)), (172, vl dP p2.stats), (173, vi p2.stats.length), (174, vi x6), (233, vb x7)] [.dead, .arr 6 (af.els l3), .dead] := fun {x7} h => k h (uC jf (uJ i5)); (uC (uJ J7) (uC (uJ J7) (bf (oZ aQ _ _) fun r13 => (uJ J7)))))))))))))))))) (uR (.exit 8) (xM (uJ J8))))); uE (L5 aQ)))) fun K J6 => (gv f100 16378 1 fun R b => have L4 : ∀ k4 {x5}, ip p2 l3 k4 x5 = some r → (R k4).p [(3, vR (eR p2)), (18, .one (.sl 1 6 0 l3.length)), (154, vi ((l3.length : Nat) : Int)), (155, vi x5)] [.dead, .arr 6 (af.els l3)] := uI (gh rfl) fun k4 i4 {x5} h => b h (uU (ip.eq_2 ..) (uC (nI 11 (VA af 1 fun e7 a84 => (Vz af a84 (dR dP fun e8 => (uC jf (uJ i4)))))) (uR (.exit 6) (xM (uJ J6))))); uE (L4 aQ))))); (uN af e1 (Mn (.li 18 6) (gv f100 4090 1 fun R b => have L3 : ∀ k3 {l1 x4}, fi p2 e1 k3 l1 x4 = some r → (R k3).p [(3, vR (eR p2)), (18, .one (.sl 1 6 0 l1.length)), (132, vl af e1), (133, vi e1.length), (134, vi x4)] [.dead, .arr 6 (af.els l1)] := uI (gh rfl) fun k3 i3 {l1 x4} h => b h (uU (fi.eq_2 ..) (uC (cW f100 65446 1 fun K k => have J4 : ∀ {l2}, oe (fi p2 e1 k3) x4 l2 = some r → K.p [(3, vR (eR p2)), (18, .one (.sl 1 6 0 l2.length)), (132, vl af e1), (133, vi e1.length), (134, vi x4)] [.dead, .arr 6 (af.els l2)] := fun {l2} h => k h (uJ i3); (dR af fun e6 => (bf (iS _) fun r9 => (uC (uW 144 af [e6] (QR af 1 [e6] (uJ J4))) (uJ J4))))) (uR (.exit 4) (xM (uJ J5))))); uE (L3 aQ))))) fun K J3 => (uN aL e2.fields (gv f100 1018 1 fun R b => have L2 : ∀ k2 {x3}, iB p2 e1 e2 k2 x3 = some r → (R k2).p [(3, vR (eR p2)), (5, vl af e1), (97, vl aL e2.fields), (98, vi e2.fields.length), (99, vi x3)] [.dead] := uI (gh rfl) fun k2 i2 {x3} h => b h (uU (iB.eq_2 ..) (uC (dR aL fun e4 => (bf (v8 _ _) fun r6 => (bf (tm _ _) fun r7 => (uC jf (nI 6 (dR ah fun e5 => (bf (rO _ _) fun r8 => (uC jf (uJ i2))))))))) (uR (.exit 2) (xM (uJ J3))))); uE (L2 aQ))))))) fun K J2 => (uN aL e2.fields (gv f100 250 1 fun R b => have L1 : ∀ k1 {x2}, gf p2 e1 e2 k1 x2 = some r → (R k1).p [(3, vR (eR p2)), (5, vl af e1), (6, vQ 0), (73, vl aL e2.fields), (74, vi e2.fields.length), (75, vi x2)] [.box [cl aL e2.fields]] := uI (gh rfl) fun k1 i1 {x2} h => b h (uU (gf.eq_2 ..) (uC (dR aL fun e3 => (bf (v8 _ _) fun r5 => (uC jf (uJ i1)))) (uR (.exit 0) (xM (uJ J2))))); uE (L1 aQ)))))))); (uN (eL af) p1.schemas (bf (di _ _ _) fun r2 => (uC (uJ J1) (uN em p1.specs (bf (di _ _ _) fun r3 => (uC (uJ J1) (bf (di _ _ _) fun r4 => (uC (uJ J1) (uJ J1)))))))))))))
def BB : Option (aj × Bool) := some ((aj.mk ByteArray.empty 0 0 [] 0 0 []), false)
def nm (p1 : al) (p2 : ByteArray) : Nat → Int → Option (aj × Bool)
 | 0, _ => none
 | k1 + 1, x1 => ak (decide (x1 < (p1.files.length : Int))) (au (at? p1.files x1) fun e1 => ak (e1.name.toList == p2.toList) (some (e1, true)) ((nm p1 p2 k1) (i64.wrap (x1 + 1)))) (BB)
def vg (p1 : al) (p2 : ByteArray) : Option (aj × Bool) := nm p1 p2 aQ 0
abbrev NC : List CV := [vp ByteArray.empty, ci (0 : Int), ci (0 : Int), .pv (.s (.slice none 0 0)), ci (0 : Int), ci (0 : Int), .pv (.s (.slice none 0 0))]
theorem zX (p1 : al) (p2 : ByteArray) : CT prog 23 [mS p1, vs p2] (vg p1 p2) (fun r => .tp [mF r.1, vb r.2]) :=
  dw 22 [4, 7] f23 fun r => (jL f23 6 1 BB [(4, vQ 0)] [.box NC] uz fun K J1 => (uN aY p1.files (gv f23 26 1 fun R b => have L1 : ∀ k1 {x1}, nm p1 p2 k1 x1 = some r → (R k1).p [(1, vs p2), (4, vQ 0), (9, vl aY p1.files), (10, vi p1.files.length), (11, vi x1)] [.box NC] := uI (gh rfl) fun k1 i1 {x1} h => b h (uU (nm.eq_2 ..) (uC (dR aY fun e1 => (uC jf (uJ i1))) (uR (.exit 0) (xM (uJ J1))))); uE (L1 aQ))))
def vC (p1 : List Int) : OB := some (decide (0 < (p1.length : Int)))
def fE (p1 : List Int) : Nat → Int → OB
 | 0, _ => none
 | k1 + 1, x1 => ak (decide (x1 < (p1.length : Int))) (au (at? p1 x1) fun e1 => au (at? p1 (i64.wrap (x1 - 1))) fun e2 => ak (decide (e1 ≤ e2)) (some false) ((fE p1 k1) (i64.wrap (x1 + 1)))) (vC p1)
def nN (p1 : List Int) : OB := fE p1 aQ 1
theorem wS (p1 : List Int) : CT prog 101 [vl eI p1] (nN p1) vb :=
  dw 23 [] f101 fun r => (jL f101 6 1 (vC p1) [(0, vl eI p1)] [] (uN eI p1 uz) fun K J1 => (gv f101 26 1 fun R b => have L1 : ∀ k1 {x1}, fE p1 k1 x1 = some r → (R k1).p [(0, vl eI p1), (3, vi x1)] [] := uI (gh rfl) fun k1 i1 {x1} h => b h (uU (fE.eq_2 ..) (uN eI p1 (uC (nI 9 (dR eI fun e1 => (dR eI fun e2 => (uC jf (uJ i1))))) (uR (.exit 0) (xM (uJ J1)))))); uE (L1 aQ)))
def nu (rec1 : Int → OB) (x1 : Int) (x2 : Bool) : OB := ak x2 (some false) (rec1 (i64.wrap (x1 + 1)))
def wm : OB := some true
def eX (p1 : List Int) (p2 : Int) : Nat → Int → OB
 | 0, _ => none
 | k1 + 1, x1 => ak (decide (x1 < (p1.length : Int))) (au (at? p1 x1) fun e1 => ak (decide (e1 < 0)) (nu (eX p1 p2 k1) x1 true) (nu (eX p1 p2 k1) x1 (decide (p2 ≤ e1)))) (wm)
def nQ (p1 : List Int) (p2 : Int) : OB := eX p1 p2 aQ 0
theorem CE (p1 : List Int) (p2 : Int) : CT prog 102 [vl eI p1, vi p2] (nQ p1 p2) vb :=
  dw 21 [] f102 fun r => (jL f102 6 1 wm [] [] uz fun K J2 => (uN eI p1 (gv f102 26 1 fun R b => have L1 : ∀ k1 {x1}, eX p1 p2 k1 x1 = some r → (R k1).p [(1, vi p2), (7, vl eI p1), (8, vi p1.length), (9, vi x1)] [] := uI (gh rfl) fun k1 i1 {x1} h => b h (uU (eX.eq_2 ..) (uC (dR eI fun e1 => (cW f102 3378 3 fun K k => have J1 : ∀ {x2}, nu (eX p1 p2 k1) x1 x2 = some r → K.p [(1, vi p2), (7, vl eI p1), (8, vi p1.length), (9, vi x1), (19, vb x2)] [] := fun {x2} h => k h (uC jf (uJ i1)); (uC (uJ J1) (uJ J1)))) (uR (.exit 0) (xM (uJ J2))))); uE (L1 aQ))))
def tQ (r1 : (ae × Bool)) (x1 : Bool) : Option (ae × Bool) := some (r1.1, x1)
def pg (p1 : List ae) (p2 : Int) : Option (ae × Bool) := au (o5 p1 p2) fun r1 => ak r1.2 (au (fm r1.1.type.kind) fun r2 => tQ r1 r2) (tQ r1 false)
theorem vU (p1 : List ae) (p2 : Int) : CT prog 166 [vl af p1, vi p2] (pg p1 p2) (fun r => .tp [mf r.1, vb r.2]) :=
  dw 22 [4, 6] f166 fun r => (bf (v8 _ _) fun r1 => (cW f166 14 1 fun K k => have J1 : ∀ {x1}, tQ r1 x1 = some r → K.p [(4, vQ 0), (5, vb x1)] [.box [ci r1.1.id, vp r1.1.name, cb r1.1.need, ci r1.1.type.kind, ci r1.1.type.scale, cl af r1.1.type.fields], .dead] := fun {x1} h => k h uz; (Hp 9 0 [2] (uC (bf (iS _) fun r2 => (uJ J1)) (uJ J1)))))
def pe (p1 p2 : List ac) : OI := au (cF aQ (ac.mk 6 0 0 ByteArray.empty p1) (ac.mk 6 0 0 ByteArray.empty p2)) fun r1 => some r1
theorem Ba (p1 p2 : List ac) : CT prog 107 [vl ah p1, vl ah p2] (pe p1 p2) vi :=
  dw 10 [] f107 fun r => (bf (oZ aQ _ _) fun r1 => uz)
def lV (rec3 : Int → OI) (x3 : Int) (x5 : Bool) : OI := ak x5 (some 1) (rec3 (i64.wrap (x3 + 1)))
def od (rec3 : Int → OI) (p3 : List (List ac)) (p4 : Bool) (x3 : Int) (e4 : List ac) : OI := ak p4 (ak (decide (0 < x3)) (au (at? p3 (i64.wrap (x3 - 1))) fun e7 => au (pe e7 e4) fun r4 => lV rec3 x3 (decide (0 ≤ r4))) (lV rec3 x3 false)) (lV rec3 x3 false)
def iw (rec3 : Int → OI) (p1 : List ae) (p2 : List Int) (p3 : List (List ac)) (p4 : Bool) (x3 : Int) (e4 : List ac) : Nat → Int → OI
 | 0, _ => none
 | k4 + 1, x4 => ak (decide (x4 < (p2.length : Int))) (au (at? p2 x4) fun e5 => au (pg p1 e5) fun r2 => au (at? e4 x4) fun e6 => au (l4 r2.1.type e6) fun r3 => ak (r3 != 0) (some r3) ((iw rec3 p1 p2 p3 p4 x3 e4 k4) (i64.wrap (x4 + 1)))) (od rec3 p3 p4 x3 e4)
def wC : OI := some 0
def cN (p1 : List ae) (p2 : List Int) (p3 : List (List ac)) (p4 : Bool) : Nat → Int → OI
 | 0, _ => none
 | k3 + 1, x3 => ak (decide (x3 < (p3.length : Int))) (au (at? p3 x3) fun e4 => ak ((e4.length : Int) != (p2.length : Int)) (some 1) (iw (cN p1 p2 p3 p4 k3) p1 p2 p3 p4 x3 e4 aQ 0)) (wC)
def ol (p1 : List ae) (p2 : List Int) (p3 : List (List ac)) (p4 : Bool) : OI := ak (decide (200 < (p3.length : Int))) (some 7) (ak ((p3.length : Int) == 0) (some 9) (cN p1 p2 p3 p4 aQ 0))
def iH (p1 : List ae) (p2 : List Int) (p3 : List (List ac)) (p4 : Bool) : Nat → Int → OI
 | 0, _ => none
 | k2 + 1, x2 => ak (decide (x2 < (p2.length : Int))) (au (at? p2 x2) fun e2 => au (at? p2 (i64.wrap (x2 - 1))) fun e3 => ak (decide (e2 ≤ e3)) (some 1) ((iH p1 p2 p3 p4 k2) (i64.wrap (x2 + 1)))) (ol p1 p2 p3 p4)
def oa (p1 : List ae) (p2 : List Int) (p3 : List (List ac)) (p4 : Bool) : OI := iH p1 p2 p3 p4 aQ 1
def iu (p1 : List ae) (p2 : List Int) (p3 : List (List ac)) (p4 : Bool) : Nat → Int → OI
 | 0, _ => none
 | k1 + 1, x1 => ak (decide (x1 < (p2.length : Int))) (au (at? p2 x1) fun e1 => au (pg p1 e1) fun r1 => ak (!r1.2) (some 9) ((iu p1 p2 p3 p4 k1) (i64.wrap (x1 + 1)))) (oa p1 p2 p3 p4)
def rM (p1 : List ae) (p2 : List Int) (p3 : List (List ac)) (p4 : Bool) : OI := ak ((p2.length : Int) == 0) (some 9) (iu p1 p2 p3 p4 aQ 0)
theorem De (p1 : List ae) (p2 : List Int) (p3 : List (List ac)) (p4 : Bool) : CT prog 150 [vl af p1, vl eI p2, vl (eL ah) p3, vb p4] (rM p1 p2 p3 p4) vi :=
  dw 113 [11, 18] f150 fun r => (uN eI p2 (Uh (fun b4 => uz) (fun b4 => (jL f150 14 1 (oa p1 p2 p3 p4) [(0, vl af p1), (1, vl eI p2), (2, vl (eL ah) p3), (3, vb p4)] [] (jL f150 30 1 (ol p1 p2 p3 p4) [(0, vl af p1), (1, vl eI p2), (2, vl (eL ah) p3), (3, vb p4)] [] (uN (eL ah) p3 (uC uz (uN (eL ah) p3 (uC uz (jL f150 254 1 wC [] [] uz fun K J5 => (uN (eL ah) p3 (gv f150 1018 1 fun R b => have L3 : ∀ k3 {x3}, cN p1 p2 p3 p4 k3 x3 = some r → (R k3).p [(0, vl af p1), (1, vl eI p2), (2, vl (eL ah) p3), (3, vb p4), (61, vl (eL ah) p3), (62, vi p3.length), (63, vi x3)] [] := uI (gh rfl) fun k3 i3 {x3} h => b h (uU (cN.eq_2 ..) (uC (dR (eL ah) fun e4 => (uN ah e4 (uN eI p2 (uC jf (jL f150 260710 3 (od (cN p1 p2 p3 p4 k3) p3 p4 x3 e4) [(0, vl af p1), (1, vl eI p2), (2, vl (eL ah) p3), (3, vb p4), (14, vi x3), (15, vl ah e4), (61, vl (eL ah) p3), (62, vi p3.length), (63, vi x3)] [] (cW f150 521422 3 fun K k => have J4 : ∀ {x5}, lV (cN p1 p2 p3 p4 k3) x3 x5 = some r → K.p [(0, vl af p1), (1, vl eI p2), (2, vl (eL ah) p3), (3, vb p4), (61, vl (eL ah) p3), (62, vi p3.length), (63, vi x3), (111, vb x5)] [] := fun {x5} h => k h (uC jf (uJ i3)); (uC (uC (dR (eL ah) fun e7 => (bf (Ba _ _) fun r4 => (uJ J4))) (uJ J4)) (uJ J4))) fun K J3 => (uN eI p2 (gv f150 1042842 1 fun R b => have L4 : ∀ k4 {x4}, iw (cN p1 p2 p3 p4 k3) p1 p2 p3 p4 x3 e4 k4 x4 = some r → (R k4).p [(0, vl af p1), (1, vl eI p2), (2, vl (eL ah) p3), (3, vb p4), (14, vi x3), (15, vl ah e4), (61, vl (eL ah) p3), (62, vi p3.length), (63, vi x3), (73, vl eI p2), (74, vi p2.length), (75, vi x4)] [] := uI (gh rfl) fun k4 i4 {x4} h => b h (uU (iw.eq_2 ..) (uC (dR eI fun e5 => (bf (vU _ _) fun r2 => (nI 6 (dR ah fun e6 => (bf (rO _ _) fun r3 => (uC (uR .ret (xN (xN (xN (xN xF))))) (uJ i4))))))) (uR (.exit 6) (xM (uJ J3))))); uE (L4 aQ)))))))) (uR (.exit 4) (xM (uJ J5))))); uE (L3 aQ)))))))) fun K J2 => (gv f150 122 1 fun R b => have L2 : ∀ k2 {x2}, iH p1 p2 p3 p4 k2 x2 = some r → (R k2).p [(0, vl af p1), (1, vl eI p2), (2, vl (eL ah) p3), (3, vb p4), (13, vi x2)] [] := uI (gh rfl) fun k2 i2 {x2} h => b h (uU (iH.eq_2 ..) (uN eI p2 (uC (nI 9 (dR eI fun e2 => (dR eI fun e3 => (uC jf (uJ i2))))) (uR (.exit 2) (xM (uJ J2)))))); uE (L2 aQ))) fun K J1 => (uN eI p2 (gv f150 58 1 fun R b => have L1 : ∀ k1 {x1}, iu p1 p2 p3 p4 k1 x1 = some r → (R k1).p [(0, vl af p1), (1, vl eI p2), (2, vl (eL ah) p3), (3, vb p4), (24, vl eI p2), (25, vi p2.length), (26, vi x1)] [] := uI (gh rfl) fun k1 i1 {x1} h => b h (uU (iu.eq_2 ..) (uC (dR eI fun e1 => (bf (vU _ _) fun r1 => (uC jf (uJ i1)))) (uR (.exit 0) (xM (uJ J1))))); uE (L1 aQ)))))))
def nP (p1 : aw) (p2 : bc) (x1 : Bool) : OI := ak x1 (some 3) (au (at? p1.schemas p2.schema) fun e1 => au (rM e1 p2.ids p2.keys true) fun r2 => some r2)
def uZ (p1 : aw) (p2 : bc) : OI := au (du p2.schema 0 (i64.wrap ((p1.schemas.length : Int) - 1))) fun r1 => ak (!r1) (nP p1 p2 true) (nP p1 p2 (decide (p2.seq < 1)))
theorem EQ (p1 : aw) (p2 : bc) : CT prog 103 [mM p1, mD p2] (uZ p1 p2) vi :=
  dw 29 [] f103 fun r => (cW f103 12 2 fun K k => have J1 : ∀ {x1}, nP p1 p2 x1 = some r → K.p [(2, vR [.ro ((eL af).els p1.schemas), .ro (em.els p1.specs), pi p1.nextField, pi p1.nextSeq, pi p1.nextSnap, pi p1.purges, .ro (aM.els p1.snapshots), .ro (lg.els p1.refs), .ro (ic.els p1.props)]), (3, vR [pi p2.schema, .ro (eI.els p2.ids), .ro ((eL ah).els p2.keys), pi p2.seq]), (17, vb x1)] [] := fun {x1} h => k h (uC uz (nI 10 (dR (eL af) fun e1 => (bf (De _ _ _ _) fun r2 => uz)))); (uN (eL af) p1.schemas (bf (di _ _ _) fun r1 => (uC (uJ J1) (uJ J1)))))
def wZ : OB := some false
def l9 (p1 : List aj) (p2 : Int) : Nat → Int → OB
 | 0, _ => none
 | k1 + 1, x1 => ak (decide (x1 < (p1.length : Int))) (au (at? p1 x1) fun e1 => ak (decide (e1.seq < p2)) (some true) ((l9 p1 p2 k1) (i64.wrap (x1 + 1)))) (wZ)
def wj (p1 : List aj) (p2 : Int) : OB := l9 p1 p2 aQ 0
theorem Cj (p1 : List aj) (p2 : Int) : CT prog 104 [vl aY p1, vi p2] (wj p1 p2) vb :=
  dw 18 [6] f104 fun r => (jL f104 6 1 wZ [] [] uz fun K J1 => (uN aY p1 (gv f104 26 1 fun R b => have L1 : ∀ k1 {x1}, l9 p1 p2 k1 x1 = some r → (R k1).p [(1, vi p2), (7, vl aY p1), (8, vi p1.length), (9, vi x1)] [] := uI (gh rfl) fun k1 i1 {x1} h => b h (uU (l9.eq_2 ..) (uC (dR aY fun e1 => (uC jf (uJ i1))) (uR (.exit 0) (xM (uJ J1))))); uE (L1 aQ))))
def lj (rec1 : Int → OI) (x3 : Int) (x5 : Bool) : OI := ak x5 (some 1) (rec1 (i64.wrap (x3 + 1)))
def lq (rec1 : Int → OI) (p2 : al) (x3 : Int) (e1 : aj) (x4 : Bool) : OI := ak x4 (some 3) (ak (decide (0 < x3)) (au (at? p2.files (i64.wrap (x3 - 1))) fun e2 => au (some (Op.bytesLess e1.name.toList e2.name.toList || e1.name.toList == e2.name.toList)) fun y1 => lj rec1 x3 y1) (lj rec1 x3 false))
def jl (rec2 : Int → OI) (x6 : Int) (e3 : iP) (r8 : (aj × Bool)) (x7 : Bool) : OI := ak x7 (some 1) (au (nQ e3.rows r8.1.rows) fun r11 => ak (!r11) (some 3) (rec2 (i64.wrap (x6 + 1))))
def jj (rec3 : Int → OI) (x8 : Int) (x9 : Bool) : OI := ak x9 (some 1) (rec3 (i64.wrap (x8 + 1)))
def se : OI := some 0
def cR (p1 : aw) (p2 : al) : Nat → Int → OI
 | 0, _ => none
 | k3 + 1, x8 => ak (decide (x8 < (p2.dby.length : Int))) (au (at? p2.dby x8) fun e5 => au (uZ p1 e5) fun r12 => ak (r12 != 0) (some r12) (ak (decide (p2.seq < e5.seq)) (some 3) (ak (decide (0 < x8)) (au (at? p2.dby (i64.wrap (x8 - 1))) fun e6 => ak (decide (e5.seq < e6.seq)) (jj (cR p1 p2 k3) x8 true) (au (wj p2.files e5.seq) fun r13 => jj (cR p1 p2 k3) x8 (!r13))) (au (wj p2.files e5.seq) fun r14 => jj (cR p1 p2 k3) x8 (!r14))))) (se)
def jh (p1 : aw) (p2 : al) : OI := cR p1 p2 aQ 0
def cf (p1 : aw) (p2 : al) : Nat → Int → OI
 | 0, _ => none
 | k2 + 1, x6 => ak (decide (x6 < (p2.dat.length : Int))) (au (at? p2.dat x6) fun e3 => au (vg p2 e3.file) fun r8 => ak (!r8.2) (some 9) (ak (decide (0 < x6)) (au (at? p2.dat (i64.wrap (x6 - 1))) fun e4 => au (some (Op.bytesLess e3.file.toList e4.file.toList || e3.file.toList == e4.file.toList)) fun y2 => ak y2 (jl (cf p1 p2 k2) x6 e3 r8 true) (au (nN e3.rows) fun r9 => jl (cf p1 p2 k2) x6 e3 r8 (!r9))) (au (nN e3.rows) fun r10 => jl (cf p1 p2 k2) x6 e3 r8 (!r10)))) (jh p1 p2)
def jg (p1 : aw) (p2 : al) : OI := cf p1 p2 aQ 0
def bE (p1 : aw) (p2 : al) : Nat → Int → OI
 | 0, _ => none
 | k1 + 1, x3 => ak (decide (x3 < (p2.files.length : Int))) (au (at? p2.files x3) fun e1 => au (rB p1 e1) fun r7 => ak (r7 != 0) (some r7) (ak (decide (p2.seq < e1.seq)) (lq (bE p1 p2 k1) p2 x3 e1 true) (lq (bE p1 p2 k1) p2 x3 e1 (decide (p2.schema < e1.schema))))) (jg p1 p2)
def lp (p1 : aw) (p2 : al) (x2 : Bool) : OI := ak x2 (some 5) (bE p1 p2 aQ 0)
def dn (p1 : aw) (p2 p3 : al) (x1 : Bool) : OI := ak x1 (some 3) (ak (decide (p2.id ≤ p3.id)) (lp p1 p2 true) (lp p1 p2 (decide (p2.seq ≤ p3.seq))))
def kW (p1 : aw) (p2 p3 : al) : OI := au (du p2.id 1 (i64.wrap (p1.nextSnap - 1))) fun r1 => ak (!r1) (dn p1 p2 p3 true) (au (du p2.parent 0 (i64.wrap (p2.id - 1))) fun r2 => ak (!r2) (dn p1 p2 p3 true) (au (du p2.seq 1 (i64.wrap (p1.nextSeq - 1))) fun r3 => ak (!r3) (dn p1 p2 p3 true) (au (du p2.schema 0 (i64.wrap ((p1.schemas.length : Int) - 1))) fun r4 => ak (!r4) (dn p1 p2 p3 true) (au (du p2.time (-62135596800) 253402300799) fun r5 => ak (!r5) (dn p1 p2 p3 true) (au (du p2.kind 1 3) fun r6 => dn p1 p2 p3 (!r6))))))
theorem zy (p1 : aw) (p2 p3 : al) : CT prog 54 [mM p1, mS p2, mS p3] (kW p1 p2 p3) vi :=
  dw 203 [8, 11, 12, 15] f54 fun r => (cW f54 12 2 fun K k => have J1 : ∀ {x1}, dn p1 p2 p3 x1 = some r → K.p [(3, vR (bv p1)), (4, vR (iM p2)), (5, vR [pi p3.id, pi p3.parent, pi p3.seq, pi p3.schema, pi p3.time, pi p3.kind, .ro (aY.els p3.files), .ro (cM.els p3.dat), .ro (b9.els p3.dby)]), (63, vb x1)] [] := fun {x1} h => k h (uC uz (cW f54 28 2 fun K k => have J2 : ∀ {x2}, lp p1 p2 x2 = some r → K.p [(3, vR (bv p1)), (4, vR (iM p2)), (75, vb x2)] [] := fun {x2} h => k h (uC uz (jL f54 30 1 (jg p1 p2) [(3, vR (bv p1)), (4, vR (iM p2))] [] (jL f54 62 1 (jh p1 p2) [(3, vR (bv p1)), (4, vR (iM p2))] [] (jL f54 126 1 se [] [] uz fun K J9 => (uN b9 p2.dby (gv f54 506 1 fun R b => have L3 : ∀ k3 {x8}, cR p1 p2 k3 x8 = some r → (R k3).p [(3, vR (bv p1)), (4, vR (iM p2)), (162, vl b9 p2.dby), (163, vi p2.dby.length), (164, vi x8)] [] := uI (gh rfl) fun k3 i3 {x8} h => b h (uU (cR.eq_2 ..) (uC (dR b9 fun e5 => (bf (EQ _ _) fun r12 => (uC jf (uC jf (cW f54 259278 3 fun K k => have J8 : ∀ {x9}, jj (cR p1 p2 k3) x8 x9 = some r → K.p [(3, vR (bv p1)), (4, vR (iM p2)), (162, vl b9 p2.dby), (163, vi p2.dby.length), (164, vi x8), (201, vb x9)] [.dead] := fun {x9} h => k h (uC jf (uJ i3)); (nI 19 (uC (dR b9 fun e6 => (uC (uJ J8) (bf (Cj _ _) fun r13 => (uJ J8)))) (bf (Cj _ _) fun r14 => (uJ J8))))))))) (uR (.exit 4) (xM (uJ J9))))); uE (L3 aQ)))) fun K J7 => (uN cM p2.dat (gv f54 250 1 fun R b => have L2 : ∀ k2 {x6}, cf p1 p2 k2 x6 = some r → (R k2).p [(3, vR (bv p1)), (4, vR (iM p2)), (118, vl cM p2.dat), (119, vi p2.dat.length), (120, vi x6)] [] := uI (gh rfl) fun k2 i2 {x6} h => b h (uU (cf.eq_2 ..) (uC (dR cM fun e3 => (bf (zX _ _) fun r8 => (uC jf (cW f54 256412 4 fun K k => have J6 : ∀ {x7}, jl (cf p1 p2 k2) x6 e3 r8 x7 = some r → K.p [(3, vR (bv p1)), (4, vR (iM p2)), (11, vQ 0), (12, vQ 1), (118, vl cM p2.dat), (119, vi p2.dat.length), (120, vi x6), (153, vb x7)] [.box [vp e3.file, cl eI e3.rows], .box [vp r8.1.name, ci r8.1.schema, ci r8.1.spec, cl ah r8.1.part, ci r8.1.rows, ci r8.1.seq, cl dP r8.1.stats]] := fun {x7} h => k h (uC jf (bf (CE _ _) fun r11 => (uC jf (uJ i2)))); (nI 12 (uC (dR cM fun e4 => (uY 146 vb fun y2 => (uC (uJ J6) (bf (wS _) fun r9 => (uJ J6))))) (bf (wS _) fun r10 => (uJ J6)))))))) (uR (.exit 2) (xM (uJ J7))))); uE (L2 aQ)))) fun K J5 => (uN aY p2.files (gv f54 122 1 fun R b => have L1 : ∀ k1 {x3}, bE p1 p2 k1 x3 = some r → (R k1).p [(3, vR (bv p1)), (4, vR (iM p2)), (77, vl aY p2.files), (78, vi p2.files.length), (79, vi x3)] [] := uI (gh rfl) fun k1 i1 {x3} h => b h (uU (bE.eq_2 ..) (uC (dR aY fun e1 => (bf (Dk _ _) fun r7 => (uC jf (cW f54 62668 4 fun K k => have J3 : ∀ {x4}, lq (bE p1 p2 k1) p2 x3 e1 x4 = some r → K.p [(3, vR (bv p1)), (4, vR (iM p2)), (7, vi x3), (8, vQ 0), (77, vl aY p2.files), (78, vi p2.files.length), (79, vi x3), (101, vb x4)] [.box [vp e1.name, ci e1.schema, ci e1.spec, cl ah e1.part, ci e1.rows, ci e1.seq, cl dP e1.stats]] := fun {x4} h => k h (uC jf (cW f54 62670 3 fun K k => have J4 : ∀ {x5}, lj (bE p1 p2 k1) x3 x5 = some r → K.p [(3, vR (bv p1)), (4, vR (iM p2)), (77, vl aY p2.files), (78, vi p2.files.length), (79, vi x3), (115, vb x5)] [.dead] := fun {x5} h => k h (uC jf (uJ i1)); (nI 12 (uC (dR aY fun e2 => (uY 114 vb fun y1 => (uJ J4))) (uJ J4))))); (uC (uJ J3) (uJ J3)))))) (uR (.exit 0) (xM (uJ J5))))); uE (L1 aQ))))); (uC (uJ J2) (uJ J2)))); (bf (di _ _ _) fun r1 => (uC (uJ J1) (bf (di _ _ _) fun r2 => (uC (uJ J1) (bf (di _ _ _) fun r3 => (uC (uJ J1) (uN (eL af) p1.schemas (bf (di _ _ _) fun r4 => (uC (uJ J1) (bf (di _ _ _) fun r5 => (uC (uJ J1) (bf (di _ _ _) fun r6 => (uJ J1))))))))))))))
def yU : OB := some true
def lB (q_ref3_exactly : ac → ac → OB) (p1 p2 : ac) : Nat → Int → OB
 | 0, _ => none
 | k1 + 1, x2 => ak (decide (x2 < (p1.items.length : Int))) (au (at? p1.items x2) fun e1 => au (at? p2.items x2) fun e2 => au (q_ref3_exactly e1 e2) fun r1 => ak (!r1) (some false) ((lB q_ref3_exactly p1 p2 k1) (i64.wrap (x2 + 1)))) (yU)
def iW (q_ref3_exactly : ac → ac → OB) (p1 p2 : ac) (x1 : Bool) : OB := ak x1 (some false) (lB q_ref3_exactly p1 p2 aQ 0)
def ed : Nat → ac → ac → OB
 | 0, _, _ => none
 | k0 + 1, p1, p2 => ak (p1.kind != p2.kind) (iW (ed k0) p1 p2 true) (ak (p1.n != p2.n) (iW (ed k0) p1 p2 true) (ak (p1.scale != p2.scale) (iW (ed k0) p1 p2 true) (ak (!(p1.s.toList == p2.s.toList)) (iW (ed k0) p1 p2 true) (iW (ed k0) p1 p2 ((p1.items.length : Int) != (p2.items.length : Int))))))
theorem re : ∀ (k0 : Nat) (p1 p2 : ac), CT prog 105 [mV p1, mV p2] (ed k0 p1 p2) vb
  | 0, _, _ => FE (ed.eq_1 ..)
  | k0 + 1, p1, p2 => dw 60 [] f105 fun r => (uU (ed.eq_2 ..) (cW f105 12 2 fun K k => have J1 : ∀ {x1}, iW (ed k0) p1 p2 x1 = some r → K.p [(2, vR [pi p1.kind, pi p1.n, pi p1.scale, .s (.string p1.s), .ro (ah.els p1.items)]), (3, vR [pi p2.kind, pi p2.n, pi p2.scale, .s (.string p2.s), .ro (ah.els p2.items)]), (40, vb x1)] [] := fun {x1} h => k h (uC uz (jL f105 14 1 yU [] [] uz fun K J2 => (uN ah p1.items (gv f105 58 1 fun R b => have L1 : ∀ k1 {x2}, lB (ed k0) p1 p2 k1 x2 = some r → (R k1).p [(2, vR [pi p1.kind, pi p1.n, pi p1.scale, .s (.string p1.s), .ro (ah.els p1.items)]), (3, vR [pi p2.kind, pi p2.n, pi p2.scale, .s (.string p2.s), .ro (ah.els p2.items)]), (43, vi p1.items.length), (44, vi x2)] [] := uI (gh rfl) fun k1 i1 {x2} h => b h (uU (lB.eq_2 ..) (uC (nI 10 (dR ah fun e1 => (dR ah fun e2 => (bf (re k0 _ _) fun r1 => (uC jf (uJ i1)))))) (uR (.exit 0) (xM (uJ J2))))); uE (L1 aQ))))); (uC (uJ J1) (uC (uJ J1) (uC (uJ J1) (uC (uJ J1) (uN ah p1.items (uN ah p2.items (uJ J1)))))))))
def kN (rec2 : Int → OB) (x3 : Int) (x4 : Bool) : OB := ak x4 (some false) (rec2 (i64.wrap (x3 + 1)))
def xH : OB := some true
def ew (p1 p2 : aj) : Nat → Int → OB
 | 0, _ => none
 | k2 + 1, x3 => ak (decide (x3 < (p1.stats.length : Int))) (au (at? p1.stats x3) fun e3 => au (at? p2.stats x3) fun e4 => ak (e3.id != e4.id) (kN (ew p1 p2 k2) x3 true) (ak (e3.nulls != e4.nulls) (kN (ew p1 p2 k2) x3 true) (au (ed aQ e3.min e4.min) fun r2 => ak (!r2) (kN (ew p1 p2 k2) x3 true) (au (ed aQ e3.max e4.max) fun r3 => kN (ew p1 p2 k2) x3 (!r3))))) (xH)
def pz (p1 p2 : aj) : OB := ew p1 p2 aQ 0
def jB (p1 p2 : aj) : Nat → Int → OB
 | 0, _ => none
 | k1 + 1, x2 => ak (decide (x2 < (p1.part.length : Int))) (au (at? p1.part x2) fun e1 => au (at? p2.part x2) fun e2 => au (ed aQ e1 e2) fun r1 => ak (!r1) (some false) ((jB p1 p2 k1) (i64.wrap (x2 + 1)))) (pz p1 p2)
def ez (p1 p2 : aj) (x1 : Bool) : OB := ak x1 (some false) (jB p1 p2 aQ 0)
def pY (p1 p2 : aj) : OB := ak (!(p1.name.toList == p2.name.toList)) (ez p1 p2 true) (ak (p1.schema != p2.schema) (ez p1 p2 true) (ak (p1.spec != p2.spec) (ez p1 p2 true) (ak (p1.rows != p2.rows) (ez p1 p2 true) (ak ((p1.part.length : Int) != (p2.part.length : Int)) (ez p1 p2 true) (ez p1 p2 ((p1.stats.length : Int) != (p2.stats.length : Int)))))))
theorem D7 (p1 p2 : aj) : CT prog 55 [mF p1, mF p2] (pY p1 p2) vb :=
  dw 117 [7, 8] f55 fun r => (cW f55 12 2 fun K k => have J1 : ∀ {x1}, ez p1 p2 x1 = some r → K.p [(2, vR (eR p1)), (3, vR (eR p2)), (52, vb x1)] [] := fun {x1} h => k h (uC uz (jL f55 14 1 (pz p1 p2) [(2, vR (eR p1)), (3, vR (eR p2))] [] (jL f55 30 1 xH [] [] uz fun K J4 => (uN dP p1.stats (gv f55 122 1 fun R b => have L2 : ∀ k2 {x3}, ew p1 p2 k2 x3 = some r → (R k2).p [(2, vR (eR p1)), (3, vR (eR p2)), (74, vi p1.stats.length), (75, vi x3)] [] := uI (gh rfl) fun k2 i2 {x3} h => b h (uU (ew.eq_2 ..) (uC (Hp 13 2 [0,1,2] (dR dP fun e3 => (dR dP fun e4 => (cW f55 31334 3 fun K k => have J3 : ∀ {x4}, kN (ew p1 p2 k2) x3 x4 = some r → K.p [(2, vR (eR p1)), (3, vR (eR p2)), (74, vi p1.stats.length), (75, vi x3), (115, vb x4)] [.dead, .dead] := fun {x4} h => k h (uC jf (uJ i2)); (uC (uJ J3) (uC (uJ J3) (bf (re aQ _ _) fun r2 => (uC (uJ J3) (bf (re aQ _ _) fun r3 => (uJ J3)))))))))) (uR (.exit 2) (xM (uJ J4))))); uE (L2 aQ)))) fun K J2 => (uN ah p1.part (gv f55 58 1 fun R b => have L1 : ∀ k1 {x2}, jB p1 p2 k1 x2 = some r → (R k1).p [(2, vR (eR p1)), (3, vR (eR p2)), (55, vi p1.part.length), (56, vi x2)] [] := uI (gh rfl) fun k1 i1 {x2} h => b h (uU (jB.eq_2 ..) (uC (nI 10 (dR ah fun e1 => (dR ah fun e2 => (bf (re aQ _ _) fun r1 => (uC jf (uJ i1)))))) (uR (.exit 0) (xM (uJ J2))))); uE (L1 aQ))))); (uC (uJ J1) (uC (uJ J1) (uC (uJ J1) (uC (uJ J1) (uN ah p1.part (uN ah p2.part (uC (uJ J1) (uN dP p1.stats (uN dP p2.stats (uJ J1)))))))))))
def qU (rec1 : Int → Option (al × Bool)) (x1 : Int) (e1 : al) (x2 : Bool) : Option (al × Bool) := ak x2 (some (e1, true)) (rec1 (i64.wrap (x1 + 1)))
def B0 : Option (al × Bool) := some ((al.mk 0 0 0 0 0 0 [] [] []), false)
def eW (p1 : aw) (p2 : Int) : Nat → Int → Option (al × Bool)
 | 0, _ => none
 | k1 + 1, x1 => ak (decide (x1 < (p1.snapshots.length : Int))) (au (at? p1.snapshots x1) fun e1 => ak (e1.id == p2) (qU (eW p1 p2 k1) x1 e1 (decide (0 < p2))) (qU (eW p1 p2 k1) x1 e1 false)) (B0)
def sr (p1 : aw) (p2 : Int) : Option (al × Bool) := eW p1 p2 aQ 0
abbrev Kc : List CV := [ci (0 : Int), ci (0 : Int), ci (0 : Int), ci (0 : Int), ci (0 : Int), ci (0 : Int), .pv (.s (.slice none 0 0)), .pv (.s (.slice none 0 0)), .pv (.s (.slice none 0 0))]
theorem DG (p1 : aw) (p2 : Int) : CT prog 22 [mM p1, vi p2] (sr p1 p2) (fun r => .tp [mS r.1, vb r.2]) :=
  dw 26 [4, 7] f22 fun r => (jL f22 6 1 B0 [(4, vQ 0)] [.box Kc] uz fun K J2 => (uN aM p1.snapshots (gv f22 26 1 fun R b => have L1 : ∀ k1 {x1}, eW p1 p2 k1 x1 = some r → (R k1).p [(1, vi p2), (4, vQ 0), (9, vl aM p1.snapshots), (10, vi p1.snapshots.length), (11, vi x1)] [.box Kc] := uI (gh rfl) fun k1 i1 {x1} h => b h (uU (eW.eq_2 ..) (uC (dR aM fun e1 => (cW f22 3378 3 fun K k => have J1 : ∀ {x2}, qU (eW p1 p2 k1) x1 e1 x2 = some r → K.p [(1, vi p2), (4, vQ 0), (7, vQ 1), (9, vl aM p1.snapshots), (10, vi p1.snapshots.length), (11, vi x1), (22, vb x2)] [.box Kc, .box [ci e1.id, ci e1.parent, ci e1.seq, ci e1.schema, ci e1.time, ci e1.kind, cl aY e1.files, cl cM e1.dat, cl b9 e1.dby]] := fun {x2} h => k h (uC jf (uJ i1)); (uC (uJ J1) (uJ J1)))) (uR (.exit 0) (xM (uJ J2))))); uE (L1 aQ))))
def Ad (p1 : ByteArray) : OB := au (vz (ac.mk 4 0 0 p1 [])) fun r1 => some r1
theorem DJ (p1 : ByteArray) : CT prog 57 [vs p1] (Ad p1) vb :=
  dw 6 [] f57 fun r => (bf (Cd _) fun r1 => uz)
def w6 (rec1 : Int → OI) (x3 : Int) : OI := rec1 (i64.wrap (x3 + 1))
def lZ (rec1 : Int → OI) (p1 : aw) (x3 : Int) (e1 : List ae) : Nat → Int → OI
 | 0, _ => none
 | k3 + 1, x5 => ak (decide (x5 < x3)) (au (at? p1.schemas x5) fun e3 => au (qx e3 e1) fun r8 => ak (r8.2 != 0) (some r8.2) ((lZ rec1 p1 x3 e1 k3) (i64.wrap (x5 + 1)))) (w6 rec1 x3)
def sQ (rec1 : Int → OI) (p1 : aw) (x3 : Int) (e1 : List ae) : OI := lZ rec1 p1 x3 e1 aQ 0
def l5 (rec1 : Int → OI) (p1 : aw) (x3 : Int) (e1 : List ae) (r7 : List Int) : Nat → Int → OI
 | 0, _ => none
 | k2 + 1, x4 => ak (decide (x4 < (r7.length : Int))) (au (at? r7 x4) fun e2 => ak (decide (p1.nextField ≤ e2)) (some 3) ((l5 rec1 p1 x3 e1 r7 k2) (i64.wrap (x4 + 1)))) (sQ rec1 p1 x3 e1)
def sX (rec7 : Int → OI) (x9 : Int) (x10 : Bool) : OI := ak x10 (some 5) (rec7 (i64.wrap (x9 + 1)))
def xh (rec6 : Int → OI) (x8 : Int) : OI := rec6 (i64.wrap (x8 + 1))
def jF (rec6 : Int → OI) (e5 : al) (x8 : Int) (e6 : al) : Nat → Int → OI
 | 0, _ => none
 | k7 + 1, x9 => ak (decide (x9 < (e5.files.length : Int))) (au (at? e5.files x9) fun e7 => au (vg e6 e7.name) fun r11 => ak r11.2 (au (pY e7 r11.1) fun r12 => sX (jF rec6 e5 x8 e6 k7) x9 (!r12)) (sX (jF rec6 e5 x8 e6 k7) x9 false)) (xh rec6 x8)
def xd (rec5 : Int → OI) (x7 : Int) : OI := rec5 (i64.wrap (x7 + 1))
def fJ (rec5 : Int → OI) (p1 : aw) (x7 : Int) (e5 : al) : Nat → Int → OI
 | 0, _ => none
 | k6 + 1, x8 => au (some (decide (x8 < (((p1.snapshots.drop (0 : Int).toNat).take (x7.toNat - (0 : Int).toNat)).length : Int)))) fun y1 => ak y1 (au (at? ((p1.snapshots.drop (0 : Int).toNat).take (x7.toNat - (0 : Int).toNat)) x8) fun e6 => jF (fJ rec5 p1 x7 e5 k6) e5 x8 e6 aQ 0) (xd rec5 x7)
def oE (rec8 : Int → OI) (x11 : Int) (x13 : Bool) : OI := ak x13 (some 9) (rec8 (i64.wrap (x11 + 1)))
def q9 (rec8 : Int → OI) (p1 : aw) (x11 : Int) (e8 : gV) : OI := au (sr p1 e8.snapshot) fun r14 => ak (!r14.2) (ak e8.branch (oE rec8 x11 (!(e8.snapshot == 0))) (oE rec8 x11 true)) (oE rec8 x11 false)
def l8 (rec8 : Int → OI) (p1 : aw) (x11 : Int) (e8 : gV) : Nat → Int → OI
 | 0, _ => none
 | k9 + 1, x12 => ak (decide (x12 < x11)) (au (at? p1.refs x12) fun e9 => ak (e9.name.toList == e8.name.toList) (some 5) ((l8 rec8 p1 x11 e8 k9) (i64.wrap (x12 + 1)))) (q9 rec8 p1 x11 e8)
def oR (rec10 : Int → OI) (x14 : Int) (x15 : Bool) : OI := ak x15 (some 1) (rec10 (i64.wrap (x14 + 1)))
def zW : OI := some 0
def gm (p1 : aw) : Nat → Int → OI
 | 0, _ => none
 | k10 + 1, x14 => ak (decide (x14 < (p1.props.length : Int))) (au (at? p1.props x14) fun e10 => au (vh e10.name) fun r15 => ak (!r15) (some 4) (ak (decide (0 < x14)) (au (at? p1.props (i64.wrap (x14 - 1))) fun e11 => au (some (Op.bytesLess e10.name.toList e11.name.toList || e10.name.toList == e11.name.toList)) fun y2 => ak y2 (oR (gm p1 k10) x14 true) (au (Ad e10.value) fun r16 => oR (gm p1 k10) x14 (!r16))) (au (Ad e10.value) fun r17 => oR (gm p1 k10) x14 (!r17)))) (zW)
def rA (p1 : aw) : OI := gm p1 aQ 0
def fH (p1 : aw) : Nat → Int → OI
 | 0, _ => none
 | k8 + 1, x11 => ak (decide (x11 < (p1.refs.length : Int))) (au (at? p1.refs x11) fun e8 => au (vh e8.name) fun r13 => ak (!r13) (some 4) (l8 (fH p1 k8) p1 x11 e8 aQ 0)) (rA p1)
def mO (p1 : aw) : OI := fH p1 aQ 0
def dx (p1 : aw) : Nat → Int → OI
 | 0, _ => none
 | k5 + 1, x7 => ak (decide (x7 < (p1.snapshots.length : Int))) (au (at? p1.snapshots x7) fun e5 => pn (0 ≤ (0 : Int) ∧ (0 : Int) ≤ x7 ∧ x7 ≤ (p1.snapshots.length : Int)) <| fJ (dx p1 k5) p1 x7 e5 aQ (0 : Int)) (mO p1)
def pX (p1 : aw) : OI := dx p1 aQ 0
def kA (p1 : aw) : Nat → Int → Int → Int → Int → Int → Int → List aj → List iP → List bc → Int → OI
 | 0, _, _, _, _, _, _, _, _, _, _ => none
 | k4 + 1, z1, z2, z3, z4, z5, z6, z7, z8, z9, x6 => ak (decide (x6 < (p1.snapshots.length : Int))) (au (at? p1.snapshots x6) fun e4 => au (kW p1 e4 (al.mk z1 z2 z3 z4 z5 z6 z7 z8 z9)) fun r10 => ak (r10 != 0) (some r10) ((kA p1 k4) e4.id e4.parent e4.seq e4.schema e4.time e4.kind e4.files e4.dat e4.dby (i64.wrap (x6 + 1)))) (pX p1)
def sV (p1 : aw) : OI := au (qr p1) fun r9 => ak (r9 != 0) (some r9) (kA p1 aQ 0 0 0 0 0 0 [] [] [] 0)
def dy (p1 : aw) : Nat → Int → OI
 | 0, _ => none
 | k1 + 1, x3 => ak (decide (x3 < (p1.schemas.length : Int))) (au (at? p1.schemas x3) fun e1 => au (gU e1) fun r6 => ak (r6 != 0) (some r6) (au (oS aQ e1) fun r7 => l5 (dy p1 k1) p1 x3 e1 r7 aQ 0)) (sV p1)
def l0 (p1 : aw) (x2 : Bool) : OI := ak x2 (some 3) (dy p1 aQ 0)
def pW (p1 : aw) (x1 : Bool) : OI := ak x1 (some 9) (au (du p1.nextField 1 1099511627776) fun r2 => ak (!r2) (l0 p1 true) (au (du p1.nextSeq 1 1099511627776) fun r3 => ak (!r3) (l0 p1 true) (au (du p1.nextSnap 1 1099511627776) fun r4 => ak (!r4) (l0 p1 true) (au (du p1.purges 0 1099511627776) fun r5 => l0 p1 (!r5)))))
def wo (p1 : aw) : OI := au (yB p1) fun r1 => ak r1 (some 7) (ak ((p1.schemas.length : Int) == 0) (pW p1 true) (pW p1 ((p1.specs.length : Int) == 0)))
abbrev GL (p1 : aw) : Fr := [(1, .one (.pv (.rp [(bv p1)] 0 0)))]
abbrev O6 (p1 : aw) (x7 : Int) : Fr := [(1, .one (.pv (.rp [(bv p1)] 0 0))), (132, vl aM p1.snapshots), (133, vi (p1.snapshots.length : Int)), (134, vi x7)]
abbrev NX (p1 : aw) (x7 x8 : Int) : Fr := [(1, .one (.pv (.rp [(bv p1)] 0 0))), (17, .one (.pt 1 0 0 0)), (132, vl aM p1.snapshots), (133, vi (p1.snapshots.length : Int)), (134, vi x7), (142, vl aM ((p1.snapshots.drop (0 : Int).toNat).take (x7.toNat - (0 : Int).toNat))), (143, vi (((p1.snapshots.drop (0 : Int).toNat).take (x7.toNat - (0 : Int).toNat)).length : Int)), (144, vi x8)]
abbrev Pt (p1 : aw) (x3 : Int) : Fr := [(1, .one (.pv (.rp [(bv p1)] 0 0))), (66, vl (eL af) p1.schemas), (67, vi (p1.schemas.length : Int)), (68, vi x3)]
theorem Gr (p1 : aw) : CT prog 21 [mM p1] (wo p1) vi :=
  dw 251 [12, 14, 17, 19, 21, 22, 25, 27, 30] f21 fun r => (bf (Gy _) fun r1 => (Uh (fun b5 => uz) (fun b5 => (cW f21 28 2 fun K k => have J1 : ∀ {x1}, pW p1 x1 = some r → K.p [(1, vR (bv p1)), (42, vb x1)] [] := fun {x1} h => k h (Uh (fun b10 => uz) (fun b10 => (cW f21 60 2 fun K k => have J2 : ∀ {x2}, l0 p1 x2 = some r → K.p [(1, vR (bv p1)), (64, vb x2)] [] := fun {x2} h => k h (uC uz (jL f21 62 1 (sV p1) (GL p1) [] (bf (Ck _) fun r9 => (uC uz (jL f21 510 1 (pX p1) (GL p1) [.dead] (jL f21 1022 1 (mO p1) (GL p1) [.dead] (jL f21 2046 1 (rA p1) (GL p1) [.dead] (jL f21 4094 1 zW [] [.dead] uz fun K J15 => (uN ic p1.props (gv f21 16378 1 fun R b => have L10 : ∀ k10 {x14}, gm p1 k10 x14 = some r → (R k10).p [(1, vR (bv p1)), (219, vl ic p1.props), (220, vi p1.props.length), (221, vi x14)] [.dead] := uI (gh rfl) fun k10 i10 {x14} h => b h (uU (gm.eq_2 ..) (uC (dR ic fun e10 => (bf (zf _) fun r15 => (uC jf (cW f21 4192870 3 fun K k => have J14 : ∀ {x15}, oR (gm p1 k10) x14 x15 = some r → K.p [(1, vR (bv p1)), (219, vl ic p1.props), (220, vi p1.props.length), (221, vi x14), (249, vb x15)] [.dead, .dead] := fun {x15} h => k h (uC jf (uJ i10)); (nI 12 (uC (dR ic fun e11 => (uY 242 vb fun y2 => (uC (uJ J14) (bf (DJ _) fun r16 => (uJ J14))))) (bf (DJ _) fun r17 => (uJ J14)))))))) (uR (.exit 18) (xM (uJ J15))))); uE (L10 aQ)))) fun K J13 => (uN lg p1.refs (gv f21 8186 1 fun R b => have L8 : ∀ k8 {x11}, fH p1 k8 x11 = some r → (R k8).p [(1, vR (bv p1)), (173, vl lg p1.refs), (174, vi p1.refs.length), (175, vi x11)] [.dead] := uI (gh rfl) fun k8 i8 {x11} h => b h (uU (fH.eq_2 ..) (uC (dR lg fun e8 => (bf (zf _) fun r13 => (uC jf (jL f21 2095718 3 (q9 (fH p1 k8) p1 x11 e8) [(1, vR (bv p1)), (25, vQ 1), (173, vl lg p1.refs), (174, vi p1.refs.length), (175, vi x11)] [.dead, .box [vp e8.name, cb e8.branch, ci e8.snapshot]] (bf (DG _ _) fun r14 => (cW f21 8382878 3 fun K k => have J12 : ∀ {x13}, oE (fH p1 k8) x11 x13 = some r → K.p [(1, vR (bv p1)), (173, vl lg p1.refs), (174, vi p1.refs.length), (175, vi x11), (216, vb x13)] [.dead, .dead, .dead] := fun {x13} h => k h (uC jf (uJ i8)); (uC (uC (uJ J12) (uJ J12)) (uJ J12)))) fun K J11 => (gv f21 8382874 1 fun R b => have L9 : ∀ k9 {x12}, l8 (fH p1 k8) p1 x11 e8 k9 x12 = some r → (R k9).p [(1, vR (bv p1)), (24, vi x11), (25, vQ 1), (26, vi x12), (173, vl lg p1.refs), (174, vi p1.refs.length), (175, vi x11)] [.dead, .box [vp e8.name, cb e8.branch, ci e8.snapshot]] := uI (gh rfl) fun k9 i9 {x12} h => b h (uU (l8.eq_2 ..) (uC (nI 8 (dR lg fun e9 => (uC (uR .ret (xN (xN (xN (xN xF))))) (uJ i9)))) (uR (.exit 16) (xM (uJ J11))))); uE (L9 aQ)))))) (uR (.exit 14) (xM (uJ J13))))); uE (L8 aQ)))) fun K J10 => (uN aM p1.snapshots (gv f21 4090 1 fun R b => have L5 : ∀ k5 {x7}, dx p1 k5 x7 = some r → (R k5).p (O6 p1 x7) [.dead] := uI (gh rfl) fun k5 i5 {x7} h => b h (uU (dx.eq_2 ..) (uC (jL f21 65446 1 (xd (dx p1 k5) x7) (O6 p1 x7) [.dead] (uJ i5) fun K J9 => (dR aM fun e5 => (uX aM (uN aM ((p1.snapshots.drop (0 : Int).toNat).take (x7.toNat - (0 : Int).toNat)) (gv f21 1047142 2 fun R b => have L6 : ∀ k6 {x8}, fJ (dx p1 k5) p1 x7 e5 k6 x8 = some r → (R k6).p (NX p1 x7 x8) [.dead, .box (xj e5)] := uI (gh rfl) fun k6 i6 {x8} h => b h (uU (fJ.eq_2 ..) (uY 145 vb fun y1 => (uC (jL f21 16754278 1 (xh (fJ (dx p1 k5) p1 x7 e5 k6) x8) (NX p1 x7 x8) [.dead, .box (xj e5)] (uJ i6) fun K J8 => (dR aM fun e6 => (uN aY e5.files (gv f21 268068454 2 fun R b => have L7 : ∀ k7 {x9}, jF (fJ (dx p1 k5) p1 x7 e5 k6) e5 x8 e6 k7 x9 = some r → (R k7).p [(1, vR (bv p1)), (17, vQ 1), (19, vQ 2), (132, vl aM p1.snapshots), (133, vi p1.snapshots.length), (134, vi x7), (142, vl aM ((p1.snapshots.drop (0 : Int).toNat).take (x7.toNat - (0 : Int).toNat))), (143, vi (((p1.snapshots.drop (0 : Int).toNat).take (x7.toNat - (0 : Int).toNat)).length : Int)), (144, vi x8), (149, vl aY e5.files), (150, vi e5.files.length), (151, vi x9)] [.dead, .box (xj e5), .box (xj e6)] := uI (gh rfl) fun k7 i7 {x9} h => b h (uU (jF.eq_2 ..) (uC (dR aY fun e7 => (bf (zX _ _) fun r11 => (cW f21 68625524326 3 fun K k => have J7 : ∀ {x10}, sX (jF (fJ (dx p1 k5) p1 x7 e5 k6) e5 x8 e6 k7) x9 x10 = some r → K.p [(1, vR (bv p1)), (17, vQ 1), (19, vQ 2), (132, vl aM p1.snapshots), (133, vi p1.snapshots.length), (134, vi x7), (142, vl aM ((p1.snapshots.drop (0 : Int).toNat).take (x7.toNat - (0 : Int).toNat))), (143, vi (((p1.snapshots.drop (0 : Int).toNat).take (x7.toNat - (0 : Int).toNat)).length : Int)), (144, vi x8), (149, vl aY e5.files), (150, vi e5.files.length), (151, vi x9), (168, vb x10)] [.dead, .box (xj e5), .box (xj e6), .dead, .dead] := fun {x10} h => k h (uC (uR .ret (xN (xN (xN (xN (xN (xN xF))))))) (uJ i7)); (uC (bf (D7 _ _) fun r12 => (uJ J7)) (uJ J7))))) (uR (.exit 12) (xM (uJ J8))))); uE (L7 aQ))))) (uR (.exit 10) (xM (uJ J9)))))); uE (L6 aQ)))))) (uR (.exit 8) (xM (uJ J10))))); uE (L5 aQ)))) fun K J6 => (uN aM p1.snapshots (Mn (.sb 0 6) (Mn (.sb 0 7) (Mn (.sb 0 8) (gv f21 2042 1 fun R b => have L4 : ∀ k4 {z1 z2 z3 z4 z5 z6 z7 z8 z9 x6}, kA p1 k4 z1 z2 z3 z4 z5 z6 z7 z8 z9 x6 = some r → (R k4).p [(1, vR (bv p1)), (12, vQ 0), (116, vl aM p1.snapshots), (117, vi p1.snapshots.length), (118, vi x6)] [.box [ci z1, ci z2, ci z3, ci z4, ci z5, ci z6, cl aY z7, cl cM z8, cl b9 z9]] := uI (gh rfl) fun k4 i4 {z1 z2 z3 z4 z5 z6 z7 z8 z9 x6} h => b h (uU (kA.eq_2 ..) (uC (dR aM fun e4 => (bf (zy _ _ _) fun r10 => (uC jf (uJ i4)))) (uR (.exit 6) (xM (uJ J6))))); uE (L4 aQ))))))))) fun K J5 => (uN (eL af) p1.schemas (gv f21 250 1 fun R b => have L1 : ∀ k1 {x3}, dy p1 k1 x3 = some r → (R k1).p (Pt p1 x3) [] := uI (gh rfl) fun k1 i1 {x3} h => b h (uU (dy.eq_2 ..) (uC (jL f21 4006 1 (w6 (dy p1 k1) x3) (Pt p1 x3) [] (uJ i1) fun K J4 => (dR (eL af) fun e1 => (bf (nv _) fun r6 => (uC (uR .ret (xN (xN (xN xF)))) (jL f21 64102 2 (sQ (dy p1 k1) p1 x3 e1) [(1, vR (bv p1)), (3, vi x3), (4, vl af e1), (66, vl (eL af) p1.schemas), (67, vi p1.schemas.length), (68, vi x3)] [] (gv f21 256414 2 fun R b => have L3 : ∀ k3 {x5}, lZ (dy p1 k1) p1 x3 e1 k3 x5 = some r → (R k3).p [(1, vR (bv p1)), (3, vi x3), (4, vl af e1), (8, vi x5), (66, vl (eL af) p1.schemas), (67, vi p1.schemas.length), (68, vi x3)] [] := uI (gh rfl) fun k3 i3 {x5} h => b h (uU (lZ.eq_2 ..) (uC (dR (eL af) fun e3 => (TM (Cp _ _) fun r8 _ => (uC (uR .ret (xN (xN (xN (xN xF))))) (uJ i3)))) (uR (.exit 4) (xM (uJ J4))))); uE (L3 aQ)) fun K J3 => (bf (A5 aQ _) fun r7 => (uN eI r7 (gv f21 256410 1 fun R b => have L2 : ∀ k2 {x4}, l5 (dy p1 k1) p1 x3 e1 r7 k2 x4 = some r → (R k2).p [(1, vR (bv p1)), (3, vi x3), (4, vl af e1), (66, vl (eL af) p1.schemas), (67, vi p1.schemas.length), (68, vi x3), (79, vl eI r7), (80, vi r7.length), (81, vi x4)] [] := uI (gh rfl) fun k2 i2 {x4} h => b h (uU (l5.eq_2 ..) (uC (dR eI fun e2 => (uC (uR .ret (xN (xN (xN (xN (xN xF)))))) (uJ i2))) (uR (.exit 2) (xM (uJ J3))))); uE (L2 aQ))))))))) (uR (.exit 0) (xM (uJ J5))))); uE (L1 aQ))))); (bf (di _ _ _) fun r2 => (uC (uJ J2) (bf (di _ _ _) fun r3 => (uC (uJ J2) (bf (di _ _ _) fun r4 => (uC (uJ J2) (bf (di _ _ _) fun r5 => (uJ J2))))))))))); (uN (eL af) p1.schemas (uC (uJ J1) (uN em p1.specs (uJ J1))))))))
def B9 : Option (List Int) := some []
def nn (p1 : al) (p2 : ByteArray) : Nat → Int → Option (List Int)
 | 0, _ => none
 | k1 + 1, x1 => ak (decide (x1 < (p1.dat.length : Int))) (au (at? p1.dat x1) fun e1 => ak (e1.file.toList == p2.toList) (some e1.rows) ((nn p1 p2 k1) (i64.wrap (x1 + 1)))) (B9)
def CW (p1 : al) (p2 : ByteArray) : Option (List Int) := nn p1 p2 aQ 0
theorem H4 (p1 : al) (p2 : ByteArray) : CT prog 25 [mS p1, vs p2] (CW p1 p2) (vl eI) :=
  dw 21 [6] f25 fun r => (jL f25 6 1 B9 [] [] uz fun K J1 => (uN cM p1.dat (gv f25 26 1 fun R b => have L1 : ∀ k1 {x1}, nn p1 p2 k1 x1 = some r → (R k1).p [(1, vs p2), (8, vl cM p1.dat), (9, vi p1.dat.length), (10, vi x1)] [] := uI (gh rfl) fun k1 i1 {x1} h => b h (uU (nn.eq_2 ..) (uC (dR cM fun e1 => (uC jf (uJ i1))) (uR (.exit 0) (xM (uJ J1))))); uE (L1 aQ))))
end Go.Proofs.YtfnmbpecdjncfaaGreatDoor
