/- The shelf's contract of utf8.ValidString, laid at this program. Searching a byte in a text and comparing texts: by the contracts of the shelf. Printed by a program: what the functions compute, and the proofs of their contracts. -/
import Derived.Test.YtikbfjpcmalmlaaGreatDoorProg
import Derived.Shelf.Small.Strs
import Derived.Test.YtikbfjpcmalmlaaGreatDoorChecked
import Derived.Test.YtikbfjpcmalmlaaGreatDoorSxC
set_option linter.unusedVariables false
set_option linter.unusedSimpArgs false
set_option linter.unnecessarySimpa false
namespace Go.Proofs.YtikbfjpcmalmlaaGreatDoor
open Go Go.SX Go.Shelf Go.Lib
def Mk : Ren where
 f := fun n => if n = 196 then 201 else if n = 259 then 207 else n
 t := fun n => if n = 0 then 0 else if n = 3 then 3 else if n = 4 then 4 else if n = 5 then 5 else if n = 9 then 9 else if n = 12 then 12 else if n = 46 then 176 else if n = 53 then 163 else if n = 119 then 205 else if n = 138 then 207 else if n = 139 then 208 else n
 g := fun n => if n = 3 then 1 else if n = 4 then 2 else n
set_option maxRecDepth 100000 in
theorem JF : Lays.n196 Tryz.prog Mk where
 mixed := by kernel_rfl
 f196 := by kernel_rfl
 f259 := by kernel_rfl
 t0 := by kernel_rfl
 a0 := fun w => by kernel_rfl
 z0 := fun w => by kernel_rfl
 v0 := fun w => by kernel_rfl
 t3 := by kernel_rfl
 a3 := fun w => by kernel_rfl
 z3 := fun w => by kernel_rfl
 v3 := fun w => by kernel_rfl
 t4 := by kernel_rfl
 a4 := fun w => by kernel_rfl
 z4 := fun w => by kernel_rfl
 v4 := fun w => by kernel_rfl
 t5 := by kernel_rfl
 a5 := fun w => by kernel_rfl
 z5 := fun w => by kernel_rfl
 v5 := fun w => by kernel_rfl
 t9 := by kernel_rfl
 a9 := fun w => by kernel_rfl
 z9 := fun w => by kernel_rfl
 v9 := fun w => by kernel_rfl
 t12 := by kernel_rfl
 a12 := fun w => by kernel_rfl
 z12 := fun w => by kernel_rfl
 v12 := fun w => by kernel_rfl
 t46 := by kernel_rfl
 a46 := fun w => by kernel_rfl
 z46 := fun w => by kernel_rfl
 v46 := fun w => by kernel_rfl
 t53 := by kernel_rfl
 a53 := fun w => by kernel_rfl
 z53 := fun w => by kernel_rfl
 v53 := fun w => by kernel_rfl
 t119 := by kernel_rfl
 a119 := fun w => by kernel_rfl
 z119 := fun w => by kernel_rfl
 t138 := by kernel_rfl
 a138 := fun w => by kernel_rfl
 z138 := fun w => by kernel_rfl
 v138 := fun w => by kernel_rfl
 t139 := by kernel_rfl
 a139 := fun w => by kernel_rfl
 z139 := fun w => by kernel_rfl
 v139 := fun w => by kernel_rfl
 g3 := by kernel_rfl
 g4 := by kernel_rfl
def utf8_ValidString (p1 : ByteArray) : Option Bool := nC (p1.size ≤ 9223372036854775807) <| some (validD p1.data.toList)
theorem sk (p1 : ByteArray) (r : Bool) (h : utf8_ValidString p1 = some r) : PC Tryz.prog 201 [vs p1] (vb r) := by
 unfold utf8_ValidString at h
 obtain ⟨g1, h⟩ := oN h
 obtain rfl := Option.some.inj h
 exact Bc JF (by kernel_rfl) (by kernel_rfl) p1 g1
end Go.Proofs.YtikbfjpcmalmlaaGreatDoor
namespace Go.Proofs.YtikbfjpcmalmlaaGreatDoor
open Go Go.SX Go.Shelf Go.Lib Go.Proofs Go.RowKit
def RL : Ren where
 f := fun n => if n = 106 then 127 else if n = 137 then 185 else if n = 213 then 163 else if n = 217 then 204 else if n = 265 then 189 else if n = 266 then 214 else n
 t := fun n => if n = 3 then 3 else if n = 5 then 5 else if n = 9 then 9 else n
 g := fun n => n
set_option maxRecDepth 100000 in
theorem Qr : Lays.n137 Tryz.prog RL := by constructor <;> intros <;> kernel_rfl
set_option maxRecDepth 100000 in
theorem Rc : Lays.n106 Tryz.prog RL := by constructor <;> intros <;> kernel_rfl
def strings_IndexByte (p1 : ByteArray) (p2 : Int) : Option Int := some (Lib.indexByte p1.data.toList p2.toNat.toUInt8)
theorem qV (p1 : ByteArray) (p2 : Int) : CT Tryz.prog 185 [vs p1, vk .u8 p2] (strings_IndexByte p1 p2) vi := by
 intro r h
 obtain rfl := Option.some.inj h
 exact PC.below (us := [.string p1, .int .u8 p2]) rfl fun w _ => (Any.strings_IndexByte Qr p1 p2 w).mono (by rintro e w' ⟨rfl, rfl⟩; exact ⟨rfl, .refl _ _⟩)
def strings_Compare (p1 p2 : ByteArray) : Option Int := some (Lib.compareBytes p1.data.toList p2.data.toList)
theorem zp (p1 p2 : ByteArray) : CT Tryz.prog 127 [vs p1, vs p2] (strings_Compare p1 p2) vi := by
 intro r h
 obtain rfl := Option.some.inj h
 exact PC.below (us := [.string p1, .string p2]) rfl fun w _ => (Any.strings_Compare Rc p1 p2 w).mono (by rintro e w' ⟨rfl, rfl⟩; exact ⟨rfl, .refl _ _⟩)
end Go.Proofs.YtikbfjpcmalmlaaGreatDoor
namespace Go.Proofs.YtikbfjpcmalmlaaGreatDoor
open Go.SX Go
set_option maxRecDepth 100000
set_option maxHeartbeats 8000000
def qh (x1 : Bool) : Option Bool := some x1
def rE (p1 : am) : Option Bool := al (p1.kind != 6) (qh (p1.kind != 7)) (qh false)
theorem ze (p1 : am) : CT Tryz.prog 110 [.ag [ci p1.kind, ci p1.scale, cl ae p1.fields]] (rE p1) vb :=
  ej 11 [] Tryz.f110 fun r => (uQ (kS Tryz.f110 [1,0] 1) fun K2 hK2 => have hJ1 : ∀ (x1 : Bool), qh x1 = some r → K2.p [(2, vb x1)] [] := fun x1 h => hK2 h (uR .ret xF); (uC (uJ (hJ1 (p1.kind != 7))) (uJ (hJ1 false))))
def gc (x1 : Bool) : Option Bool := some x1
def rj (p1 : Int) : Option Bool := al (decide (p1 < (97 : Int))) (al (decide (p1 < (48 : Int))) (gc (p1 != 95)) (al (decide ((57 : Int) < p1)) (gc (p1 != 95)) (gc false))) (al (decide ((122 : Int) < p1)) (al (decide (p1 < (48 : Int))) (gc (p1 != 95)) (al (decide ((57 : Int) < p1)) (gc (p1 != 95)) (gc false))) (gc false))
theorem Bs (p1 : Int) : CT Tryz.prog 94 [vk .i32 p1] (rj p1) vb :=
  ej 21 [] Tryz.f94 fun r => (uQ (kS Tryz.f94 [1,0] 1) fun K2 hK2 => have hJ1 : ∀ (x1 : Bool), gc x1 = some r → K2.p [(2, vb x1)] [] := fun x1 h => hK2 h (uR .ret xF); (uC (uC (uJ (hJ1 (p1 != 95))) (uC (uJ (hJ1 (p1 != 95))) (uJ (hJ1 false)))) (uC (uC (uJ (hJ1 (p1 != 95))) (uC (uJ (hJ1 (p1 != 95))) (uJ (hJ1 false)))) (uJ (hJ1 false)))))
def jj : Option Int := some (-1 : Int)
def bR (p1 : ByteArray) (p2 : Bool) : Nat → Nat → Option Int
 | 0, _ => none
 | k1 + 1, z1 => al (decide (z1 < p1.size)) (aB (rj (Int.ofNat (Utf8.decode p1 z1).1)) fun r1 => al (r1 == p2) (some (Int.ofNat z1)) ((bR p1 p2 k1) (z1 + (Utf8.decode p1 z1).2))) (jj)
def gA (p1 : ByteArray) (p2 : Bool) : Option Int := bR p1 p2 aY 0
theorem nR (p1 : ByteArray) (p2 : Bool) : CT Tryz.prog 173 [vs p1, .one (.pv (.fn 94 [])), vb p2] (gA p1 p2) vi :=
  ej 21 [] Tryz.f173 fun r => (uQ (kS Tryz.f173 [1,0] 1) fun K2 hK2 => have hJ1 : ∀ (_ : Unit), jj = some r → K2.p [] [] := fun _ h => hK2 h (uR .ret xF); (P8 p1 (uO (cd Tryz.f173 [1,0,1,0,0]) (kS Tryz.f173 [1,0,1,0] 1) fun R1 b1 => have hL1 : ∀ (k1 z1 : Nat), bR p1 p2 k1 z1 = some r → (R1 k1).p [(1, .one (.pv (.fn 94 []))), (2, vb p2), (10, .one (.pt 0 0 0 0))] [.raw (.stringIter p1 z1)] := by intro k1; induction k1 with | zero => intro z1 h; exact hH (bR.eq_1 ..) h | succ k1 ih1 => intro z1 h; exact b1 h (uU (bR.eq_2 ..) (Qm 0 (fun b5 => (uT (uP (Bs _) fun r1 _ => (uC (uR .ret (xN (xN xF))) (uJ (ih1 (z1 + (Utf8.decode p1 z1).2))))))) (fun b5 => (uF (uR (.exit 0) (xM (uJ (hJ1 ()))))))))
 uE (hL1 aY 0))))
def gx (p1 : ByteArray) : Option Int := aB (gA p1 true) fun r1 => some r1
theorem nT (p1 : ByteArray) : CT Tryz.prog 140 [vs p1, .one (.pv (.fn 94 []))] (gx p1) vi :=
  ej 8 [] Tryz.f140 fun r => (uP (nR _ _) fun r1 _ => (uR .ret xF))
def fp (p1 : ByteArray) : Option Bool := aB (gx p1) fun r1 => some (decide ((0 : Int) ≤ r1))
theorem mU (p1 : ByteArray) : CT Tryz.prog 95 [vs p1, .one (.pv (.fn 94 []))] (fp p1) vb :=
  ej 9 [] Tryz.f95 fun r => (uP (nT _) fun r1 _ => (uR .ret xF))
def l4 (p1 : ByteArray) (x1 : Bool) : Option Bool := al x1 (some false) (aB (fp p1) fun r1 => some (!r1))
def pI (p1 : ByteArray) : Option Bool := al (p1.toList == (ByteArray.mk #[]).toList) (l4 p1 true) (al (decide ((24 : Int) < (p1.size : Int))) (l4 p1 true) (nC (0 ≤ (0 : Int) ∧ (0 : Int) < (p1.size : Int)) <| aB (some (decide (((p1.data.toList.getD (0 : Int).toNat 0).toNat : Int) < (97 : Int)))) fun y1 => al y1 (l4 p1 true) (nC (0 ≤ (0 : Int) ∧ (0 : Int) < (p1.size : Int)) <| aB (some (decide ((122 : Int) < ((p1.data.toList.getD (0 : Int).toNat 0).toNat : Int)))) fun y2 => l4 p1 y2)))
theorem u5 (p1 : ByteArray) : CT Tryz.prog 52 [vs p1] (pI p1) vb :=
  ej 25 [] Tryz.f52 fun r => (uQ (kS Tryz.f52 [1,0,0] 2) fun K3 hK3 => have hJ1 : ∀ (x1 : Bool), l4 p1 x1 = some r → K3.p [(0, vs p1), (20, vb x1)] [] := fun x1 h => hK3 h (uC (uR .ret xF) (uP (mU _) fun r1 _ => (uR .ret xF))); (uC (uJ (hJ1 true)) (uC (uJ (hJ1 true)) (uG (uY 14 vb fun y1 => (uC (uJ (hJ1 true)) (uG (uY 19 vb fun y2 => (uJ (hJ1 y2))))))))))
def sr (p1 : ac) : Option Bool := aB (pI p1.name) fun r1 => some (!r1)
theorem zO (p1 : ac) : CT Tryz.prog 151 [.ag [ci p1.id, kE p1.name, cb p1.need, ci p1.type.kind, ci p1.type.scale, cl ae p1.type.fields]] (sr p1) vb :=
  ej 7 [] Tryz.f151 fun r => (uP (u5 _) fun r1 _ => (uR .ret xF))
def eb : Option Int := some (-1 : Int)
def aJ (p1 : (List ac)) : Nat → Int → Option Int
 | 0, _ => none
 | k1 + 1, x1 => al (decide (x1 < (p1.length : Int))) (aB (at? p1 x1) fun e1 => aB (sr e1) fun r1 => al r1 (some x1) ((aJ p1 k1) (IntKind.i64.wrap (x1 + 1)))) (eb)
def cK (p1 : (List ac)) : Option Int := aJ p1 aY (0 : Int)
theorem iV (p1 : (List ac)) : CT Tryz.prog 81 [vl ae p1, .one (.pv (.fn 151 []))] (cK p1) vi :=
  ej 19 [] Tryz.f81 fun r => (uQ (kS Tryz.f81 [1,0] 1) fun K2 hK2 => have hJ1 : ∀ (_ : Unit), eb = some r → K2.p [] [] := fun _ h => hK2 h (uR .ret xF); (uN ae p1 (uO (cd Tryz.f81 [1,0,1,0,0]) (kS Tryz.f81 [1,0,1,0] 1) fun R1 b1 => have hL1 : ∀ (k1 : Nat) (x1 : Int), aJ p1 k1 x1 = some r → (R1 k1).p [(0, vl ae p1), (1, .one (.pv (.fn 151 []))), (7, vi (p1.length : Int)), (8, vi x1)] [] := by intro k1; induction k1 with | zero => intro x1 h; exact hH (aJ.eq_1 ..) h | succ k1 ih1 => intro x1 h; exact b1 h (uU (aJ.eq_2 ..) (uC (uL ae fun e1 a10 => (uP (zO _) fun r1 _ => (uC (uR .ret (xN (xN xF))) (uJ (ih1 (IntKind.i64.wrap (x1 + 1))))))) (uR (.exit 0) (xM (uJ (hJ1 ()))))))
 uE (hL1 aY (0 : Int)))))
def bO (p1 : (List ac)) : Option Bool := aB (cK p1) fun r1 => some (decide ((0 : Int) ≤ r1))
theorem ic (p1 : (List ac)) : CT Tryz.prog 150 [vl ae p1, .one (.pv (.fn 151 []))] (bO p1) vb :=
  ej 9 [] Tryz.f150 fun r => (uP (iV _) fun r1 _ => (uR .ret xF))
def rJ (p1 p2 : ac) : Option (Bool × ac) := some ((p1.name.toList == p2.name.toList), p2)
theorem zX (p1 p2 : ac) : CM Tryz.prog 152 [.ag [ci p1.id, kE p1.name, cb p1.need, ci p1.type.kind, ci p1.type.scale, cl ae p1.type.fields], .one (.pt 0 0 0 0)] [.box [ci p2.id, kE p2.name, cb p2.need, ci p2.type.kind, ci p2.type.scale, cl ae p2.type.fields]] (rJ p1 p2) (fun r => vb r.1) (fun r => [.box [ci r.2.id, kE r.2.name, cb r.2.need, ci r.2.type.kind, ci r.2.type.scale, cl ae r.2.type.fields]]) :=
  pH 1 9 [] Tryz.f152 fun r => (uR .ret qn)
def cD (z7 : Int) (z8 : ByteArray) (z9 : Bool) (z10 z11 : Int) (z12 : List ac) : Option (Int × ac) := some ((-1 : Int), (jc.mk z7 z8 z9 (am.mk z10 z11 z12)))
def ax (p1 : (List ac)) : Nat → Int → ByteArray → Bool → Int → Int → List ac → Int → Option (Int × ac)
 | 0, _, _, _, _, _, _, _ => none
 | k1 + 1, z1, z2, z3, z4, z5, z6, x1 => al (decide (x1 < (p1.length : Int))) (aB (at? p1 x1) fun e1 => aB (rJ e1 (jc.mk z1 z2 z3 (am.mk z4 z5 z6))) fun r1 => al r1.1 (some (x1, r1.2)) ((ax p1 k1) r1.2.id r1.2.name r1.2.need r1.2.type.kind r1.2.type.scale r1.2.type.fields (IntKind.i64.wrap (x1 + 1)))) (cD z1 z2 z3 z4 z5 z6)
def cL (p1 : (List ac)) (p2 : ac) : Option (Int × ac) := ax p1 aY p2.id p2.name p2.need p2.type.kind p2.type.scale p2.type.fields (0 : Int)
theorem iP (p1 : (List ac)) (p2 : ac) : CM Tryz.prog 81 [vl ae p1, .one (.fn 152 [.pt 0 0 0 0])] [.box [ci p2.id, kE p2.name, cb p2.need, ci p2.type.kind, ci p2.type.scale, cl ae p2.type.fields]] (cL p1 p2) (fun r => vi r.1) (fun r => [.box [ci r.2.id, kE r.2.name, cb r.2.need, ci r.2.type.kind, ci r.2.type.scale, cl ae r.2.type.fields]]) :=
  pH 1 19 [] Tryz.f81 fun r => (uQ (kS Tryz.f81 [1,0] 1) fun K2 hK2 => have hJ1 : ∀ (z7 : Int) (z8 : ByteArray) (z9 : Bool) (z10 z11 : Int) (z12 : List ac), cD z7 z8 z9 z10 z11 z12 = some r → K2.p [] [.box [ci z7, kE z8, cb z9, ci z10, ci z11, cl ae z12]] := fun z7 z8 z9 z10 z11 z12 h => hK2 h (uR .ret qn); (uN ae p1 (uO (cd Tryz.f81 [1,0,1,0,0]) (kS Tryz.f81 [1,0,1,0] 1) fun R1 b1 => have hL1 : ∀ (k1 : Nat) (z1 : Int) (z2 : ByteArray) (z3 : Bool) (z4 z5 : Int) (z6 : List ac) (x1 : Int), ax p1 k1 z1 z2 z3 z4 z5 z6 x1 = some r → (R1 k1).p [(0, vl ae p1), (1, .one (.fn 152 [.pt 0 0 0 0])), (7, vi (p1.length : Int)), (8, vi x1)] [.box [ci z1, kE z2, cb z3, ci z4, ci z5, cl ae z6]] := by intro k1; induction k1 with | zero => intro z1 z2 z3 z4 z5 z6 x1 h; exact hH (ax.eq_1 ..) h | succ k1 ih1 => intro z1 z2 z3 z4 z5 z6 x1 h; exact b1 h (uU (ax.eq_2 ..) (uC (uL ae fun e1 a10 => (xx true [0] (zX _ _) fun r1 _ => (uC (uR .ret (xN (xN qn))) (uJ (ih1 r1.2.id r1.2.name r1.2.need r1.2.type.kind r1.2.type.scale r1.2.type.fields (IntKind.i64.wrap (x1 + 1))))))) (uR (.exit 0) (xM (uJ (hJ1 z1 z2 z3 z4 z5 z6))))))
 uE (hL1 aY p2.id p2.name p2.need p2.type.kind p2.type.scale p2.type.fields (0 : Int)))))
def bP (p1 : (List ac)) (p2 : ac) : Option (Bool × ac) := aB (cL p1 p2) fun r1 => some ((decide ((0 : Int) ≤ r1.1)), r1.2)
theorem ij (p1 : (List ac)) (p2 : ac) : CM Tryz.prog 150 [vl ae p1, .one (.fn 152 [.pt 0 0 0 0])] [.box [ci p2.id, kE p2.name, cb p2.need, ci p2.type.kind, ci p2.type.scale, cl ae p2.type.fields]] (bP p1 p2) (fun r => vb r.1) (fun r => [.box [ci r.2.id, kE r.2.name, cb r.2.need, ci r.2.type.kind, ci r.2.type.scale, cl ae r.2.type.fields]]) :=
  pH 1 9 [] Tryz.f150 fun r => (xx true [0] (iP _ _) fun r1 _ => (uR .ret qn))
def od (x1 : Bool) : Option Int := al x1 (some (1 : Int)) (some (0 : Int))
def vr : Option Int := some (0 : Int)
def em (p1 : am) : Nat → Int → Option Int
 | 0, _ => none
 | k1 + 1, x2 => al (decide (x2 < (p1.fields.length : Int))) (aB (at? p1.fields x2) fun e2 => nC (0 ≤ (0 : Int) ∧ (0 : Int) ≤ x2 ∧ x2 ≤ (p1.fields.length : Int)) <| aB (bP ((p1.fields.drop (0 : Int).toNat).take (x2.toNat - (0 : Int).toNat)) e2) fun r2 => al r2.1 (some (5 : Int)) ((em p1 k1) (IntKind.i64.wrap (x2 + 1)))) (vr)
def rl (p1 : am) : Option Int := al (p1.kind == 6) (al ((p1.fields.length : Int) != 1) (od true) (aB (at? p1.fields (0 : Int)) fun e1 => od (!(e1.name.toList == (ByteArray.mk #[]).toList)))) (al (p1.kind != 7) (al (decide ((0 : Int) < (p1.fields.length : Int))) (some (1 : Int)) (some (0 : Int))) (al ((p1.fields.length : Int) == 0) (some (1 : Int)) (aB (bO p1.fields) fun r1 => al r1 (some (4 : Int)) (em p1 aY (0 : Int)))))
theorem BH (p1 : am) : CT Tryz.prog 111 [.ag [ci p1.kind, ci p1.scale, cl ae p1.fields]] (rl p1) vi :=
  ej 52 [4] Tryz.f111 fun r => (uC (uQ (kS Tryz.f111 [1,0,0,1,0,0,0] 4) fun K6 hK6 => have hJ1 : ∀ (x1 : Bool), od x1 = some r → K6.p [(20, vb x1)] [] := fun x1 h => hK6 h (uC (uR .ret xF) (uR .ret xF)); (uN ae p1.fields (uC (uJ (hJ1 true)) (uL ae fun e1 a8 => (uJ (hJ1 (!(e1.name.toList == (ByteArray.mk #[]).toList)))))))) (uC (uN ae p1.fields (uC (uR .ret xF) (uR .ret xF))) (uN ae p1.fields (uC (uR .ret xF) (uP (ic _) fun r1 _ => (uC (uR .ret xF) (uQ (kS Tryz.f111 [1,1,1,0] 1) fun K27 hK27 => have hJ2 : ∀ (_ : Unit), vr = some r → K27.p [] [] := fun _ h => hK27 h (uR .ret xF); (uN ae p1.fields (uO (cd Tryz.f111 [1,1,1,0,1,0,0]) (kS Tryz.f111 [1,1,1,0,1,0] 1) fun R1 b1 => have hL1 : ∀ (k1 : Nat) (x2 : Int), em p1 k1 x2 = some r → (R1 k1).p [(1, .one (.pv (.rp [[pi p1.kind, pi p1.scale, .ro (ae.els p1.fields)]] 0 0))), (38, vl ae p1.fields), (39, vi (p1.fields.length : Int)), (40, vi x2)] [] := by intro k1; induction k1 with | zero => intro x2 h; exact hH (em.eq_1 ..) h | succ k1 ih1 => intro x2 h; exact b1 h (uU (em.eq_2 ..) (uC (uL ae fun e2 a34 => (uX ae (xx true [0] (ij _ _) fun r2 _ => (uC (uR .ret (xN (xN xF))) (uJ (ih1 (IntKind.i64.wrap (x2 + 1)))))))) (uR (.exit 1) (xM (uJ (hJ2 ()))))))
 uE (hL1 aY (0 : Int)))))))))))
def oI (z3 : Int) : Option (Int × dt) := some ((0 : Int), (dt.mk z3))
def cT (q_value_checker_check : am → Int → dt → Option (Int × dt)) (p1 : am) (p2 : Int) : Nat → Int → Int → Option (Int × dt)
 | 0, _, _ => none
 | k1 + 1, z2, x4 => al (decide (x4 < (p1.fields.length : Int))) (aB (at? p1.fields x4) fun e1 => aB (q_value_checker_check e1.type (IntKind.i64.wrap (p2 + 1)) (dt.mk z2)) fun r4 => al (r4.1 != 0) (some (r4.1, r4.2)) ((cT q_value_checker_check p1 p2 k1) r4.2.leaves (IntKind.i64.wrap (x4 + 1)))) (oI z2)
def ei (q_value_checker_check : am → Int → dt → Option (Int × dt)) (p1 : am) (p2 z1 : Int) (x3 : Bool) : Option (Int × dt) := al x3 (some ((1 : Int), (dt.mk z1))) (aB (rl p1) fun r3 => al (r3 != 0) (some (r3, (dt.mk z1))) (cT q_value_checker_check p1 p2 aY z1 (0 : Int)))
def js (q_value_checker_check : am → Int → dt → Option (Int × dt)) (p1 : am) (p2 z1 : Int) (x2 : Bool) : Option (Int × dt) := al x2 (some ((3 : Int), (dt.mk z1))) (al (p1.scale != 0) (al (p1.kind != 3) (ei q_value_checker_check p1 p2 z1 true) (al (decide (p1.scale < (0 : Int))) (ei q_value_checker_check p1 p2 z1 true) (ei q_value_checker_check p1 p2 z1 (decide ((12 : Int) < p1.scale))))) (ei q_value_checker_check p1 p2 z1 false))
def fm (q_value_checker_check : am → Int → dt → Option (Int × dt)) (p1 : am) (p2 z1 : Int) : Option (Int × dt) := al (decide (p1.kind < (1 : Int))) (js q_value_checker_check p1 p2 z1 true) (js q_value_checker_check p1 p2 z1 (decide ((7 : Int) < p1.kind)))
def fi (q_value_checker_check : am → Int → dt → Option (Int × dt)) (p1 : am) (p2 : Int) (p3 : dt) (x1 : Bool) : Option (Int × dt) := al x1 (some ((7 : Int), p3)) (aB (rE p1) fun r2 => al r2 (fm q_value_checker_check p1 p2 (IntKind.i64.wrap (p3.leaves + 1))) (fm q_value_checker_check p1 p2 p3.leaves))
def bC : Nat → am → Int → dt → Option (Int × dt)
 | 0, _, _, _ => none
 | k0 + 1, p1, p2, p3 => al (decide ((4 : Int) < p2)) (fi (bC k0) p1 p2 p3 true) (aB (rE p1) fun r1 => al r1 (fi (bC k0) p1 p2 p3 (p3.leaves == 40)) (fi (bC k0) p1 p2 p3 false))
abbrev fQ (p1 : am) : List PV := [pi p1.kind, pi p1.scale, .ro (ae.els p1.fields)]
theorem pz : ∀ (k0 : Nat) (p1 : am) (p2 : Int) (p3 : dt), CM Tryz.prog 68 [.one (.pt 0 0 0 0), .ag [ci p1.kind, ci p1.scale, cl ae p1.fields], vi p2] [.box [ci p3.leaves]] (bC k0 p1 p2 p3) (fun r => vi r.1) (fun r => [.box [ci r.2.leaves]])
  | 0, _, _, _ => Mr (bC.eq_1 ..)
  | k0 + 1, p1, p2, p3 => pH 1 83 [9] Tryz.f68 fun r => (uU (bC.eq_2 ..) (uQ (kS Tryz.f68 [1,0,0] 2) fun K3 hK3 => have hJ1 : ∀ (x1 : Bool), fi (bC k0) p1 p2 p3 x1 = some r → K3.p [(0, .one (.pt 0 0 0 0)), (2, vi p2), (4, .one (.pv (.rp [(fQ p1)] 0 0))), (23, vb x1)] [.box [ci p3.leaves]] := fun x1 h => hK3 h (uC (uR .ret qn) (uQ (kS Tryz.f68 [1,1,0] 1) fun K9 hK9 => have hJ2 : ∀ (z1 : Int), fm (bC k0) p1 p2 z1 = some r → K9.p [(0, .one (.pt 0 0 0 0)), (2, vi p2), (4, .one (.pv (.rp [(fQ p1)] 0 0)))] [.box [ci z1]] := fun z1 h => hK9 h (uQ (kS Tryz.f68 [1,1,1,0,0,0] 3) fun K14 hK14 => have hJ3 : ∀ (x2 : Bool), js (bC k0) p1 p2 z1 x2 = some r → K14.p [(0, .one (.pt 0 0 0 0)), (2, vi p2), (4, .one (.pv (.rp [(fQ p1)] 0 0))), (33, vb x2)] [.box [ci z1]] := fun x2 h => hK14 h (uC (uR .ret qn) (uQ (kS Tryz.f68 [1,1,1,0,0,1,1,0] 3) fun K18 hK18 => have hJ4 : ∀ (x3 : Bool), ei (bC k0) p1 p2 z1 x3 = some r → K18.p [(0, .one (.pt 0 0 0 0)), (2, vi p2), (4, .one (.pv (.rp [(fQ p1)] 0 0))), (42, vb x3)] [.box [ci z1]] := fun x3 h => hK18 h (uC (uR .ret qn) (uP (BH _) fun r3 _ => (uC (uR .ret qn) (uQ (kS Tryz.f68 [1,1,1,1,1,0] 1) fun K30 hK30 => have hJ5 : ∀ (z3 : Int), oI z3 = some r → K30.p [] [.box [ci z3]] := fun z3 h => hK30 h (uR .ret qn); (uN ae p1.fields (uO (cd Tryz.f68 [1,1,1,1,1,0,1,0,0]) (kS Tryz.f68 [1,1,1,1,1,0,1,0] 1) fun R1 b1 => have hL1 : ∀ (k1 : Nat) (z2 x4 : Int), cT (bC k0) p1 p2 k1 z2 x4 = some r → (R1 k1).p [(0, .one (.pt 0 0 0 0)), (2, vi p2), (67, vl ae p1.fields), (68, vi (p1.fields.length : Int)), (69, vi x4)] [.box [ci z2]] := by intro k1; induction k1 with | zero => intro z2 x4 h; exact hH (cT.eq_1 ..) h | succ k1 ih1 => intro z2 x4 h; exact b1 h (uU (cT.eq_2 ..) (uC (uL ae fun e1 a37 => (xx true [0] (pz k0 _ _ _) fun r4 _ => (uC (uR .ret (xN (xN qn))) (uJ (ih1 r4.2.leaves (IntKind.i64.wrap (x4 + 1))))))) (uR (.exit 1) (xM (uJ (hJ5 z2))))))
 uE (hL1 aY z1 (0 : Int)))))))); (uC (uC (uJ (hJ4 true)) (uC (uJ (hJ4 true)) (uJ (hJ4 (decide ((12 : Int) < p1.scale)))))) (uJ (hJ4 false))))); (uC (uJ (hJ3 true)) (uJ (hJ3 (decide ((7 : Int) < p1.kind)))))); (uP (ze _) fun r2 _ => (uC (uJ (hJ2 (IntKind.i64.wrap (p3.leaves + 1)))) (uJ (hJ2 p3.leaves)))))); (uC (uJ (hJ1 true)) (uP (ze _) fun r1 _ => (uC (uJ (hJ1 (p3.leaves == 40))) (uJ (hJ1 false)))))))
def fc (p1 : am) : Option Int := aB (bC aY p1 (1 : Int) (dt.mk (0 : Int))) fun r1 => some r1.1
theorem kv (p1 : am) : CT Tryz.prog 30 [.ag [ci p1.kind, ci p1.scale, cl ae p1.fields]] (fc p1) vi :=
  ej 9 [5] Tryz.f30 fun r => (xx true [0] (pz aY _ _ _) fun r1 _ => (uR .ret xF))
def kd (p1 : (List ac)) : Option (Unit × (List ac)) := some ((), p1)
theorem nL (p1 : (List ac)) : CX Tryz.prog 69 [.one (.sl 0 6 0 p1.length)] [.arr 6 (ae.els p1)] [0] (kd p1) (fun r => .one (.sl 0 6 0 r.2.length)) (fun r => [.arr 6 (ae.els r.2)]) :=
  N9 1 1 9 [] Tryz.f69 fun r => (Si 0 6 p1.length (uR .ret qn))
def qU (l2 : List ac) : Option (List ac) := aB (kd l2) fun r2 => some r2.2
def ji (q_table_copyFields : (List ac) → Option (List ac)) (p1 : (List ac)) : Nat → List ac → Int → Option (List ac)
 | 0, _, _ => none
 | k1 + 1, l1, x1 => al (decide (x1 < (p1.length : Int))) (aB (at? p1 x1) fun e1 => aB (q_table_copyFields e1.type.fields) fun r1 => nC (l1.length + 1 ≤ 4294967296) <| (ji q_table_copyFields p1 k1) (l1 ++ [(jc.mk e1.id e1.name e1.need (am.mk e1.type.kind e1.type.scale r1))]) (IntKind.i64.wrap (x1 + 1))) (qU l1)
def jM : Nat → (List ac) → Option (List ac)
 | 0, _ => none
 | k0 + 1, p1 => ji (jM k0) p1 aY [] (0 : Int)
theorem sE : ∀ (k0 : Nat) (p1 : (List ac)), CX Tryz.prog 31 [vl ae p1] [] [] (jM k0 p1) (fun r => .one (.sl 0 6 0 r.length)) (fun r => [.arr 6 (ae.els r)])
  | 0, _ => Sl (jM.eq_1 ..)
  | k0 + 1, p1 => N9 0 1 25 [5] Tryz.f31 fun r => (uU (jM.eq_2 ..) (uQ (kS Tryz.f31 [1,1,0] 1) fun K3 hK3 => have hJ1 : ∀ (l2 : List ac), qU l2 = some r → K3.p [(3, .one (.sl 0 6 0 l2.length))] [.arr 6 (ae.els l2)] := fun l2 h => hK3 h (P6 true [0] (nL _) fun r2 _ => (uR .ret qn)); (uN ae p1 (KN (.li 3 6) (uO (cd Tryz.f31 [1,1,0,1,0,0]) (kS Tryz.f31 [1,1,0,1,0] 1) fun R1 b1 => have hL1 : ∀ (k1 : Nat) (l1 : List ac) (x1 : Int), ji (jM k0) p1 k1 l1 x1 = some r → (R1 k1).p [(3, .one (.sl 0 6 0 l1.length)), (6, vl ae p1), (7, vi (p1.length : Int)), (8, vi x1)] [.arr 6 (ae.els l1)] := by intro k1; induction k1 with | zero => intro l1 x1 h; exact hH (ji.eq_1 ..) h | succ k1 ih1 => intro l1 x1 h; exact b1 h (uU (ji.eq_2 ..) (uC (uL ae fun e1 a10 => (P6 true [] (sE k0 _) fun r1 _ => (KN (.stl 1 5) (Og ae r1 2 [19] (uW 20 ae [(jc.mk e1.id e1.name e1.need (am.mk e1.type.kind e1.type.scale r1))] (Ob ae 0 [(jc.mk e1.id e1.name e1.need (am.mk e1.type.kind e1.type.scale r1))] (uJ (ih1 (l1 ++ [(jc.mk e1.id e1.name e1.need (am.mk e1.type.kind e1.type.scale r1))]) (IntKind.i64.wrap (x1 + 1)))))))))) (uR (.exit 0) (xM (uJ (hJ1 l1))))))
 uE (hL1 aY [] (0 : Int)))))))
def sW (p2 : Int) : Option Int := some p2
def mw (p1 : (List ac)) (p2 : Int) : Nat → Option Int
 | 0 => none
 | k1 + 1 => al (decide ((0 : Int) < (p1.length : Int))) (aB (at? p1 (0 : Int)) fun e1 => none) (sW p2)
def vJ (p1 : (List ac)) (p2 : Int) : Option Int := mw p1 p2 aY
theorem zB (p1 : (List ac)) (p2 : Int) : CT Tryz.prog 32 [vl ae p1, vi p2] (vJ p1 p2) vi :=
  ej 27 [] Tryz.f32 fun r => (uQ (kS Tryz.f32 [1,0] 1) fun K2 hK2 => have hJ1 : ∀ (_ : Unit), sW p2 = some r → K2.p [(1, vi p2)] [] := fun _ h => hK2 h (uR .ret xF); (uN ae p1 (uO (cd Tryz.f32 [1,0,1,0,0]) (kS Tryz.f32 [1,0,1,0] 1) fun R1 b1 => have hL1 : ∀ (k1 : Nat) (_ : Unit), mw p1 p2 k1 = some r → (R1 k1).p [(0, vl ae p1), (1, vi p2), (7, vi (p1.length : Int)), (8, vi (0 : Int))] [] := by intro k1; induction k1 with | zero => intro _ h; exact hH (mw.eq_1 ..) h | succ k1 ih1 => intro _ h; exact b1 h (uU (mw.eq_2 ..) (uC (uL ae fun e1 a10 => RJ) (uR (.exit 0) (xM (uJ (hJ1 ()))))))
 uE (hL1 aY ()))))
def qW (l2 : List ac) (x3 : Int) : Option (Int × (List ac)) := some (x3, l2)
def jq (p2 : (List ac)) : Nat → List ac → Int → Int → Option (Int × (List ac))
 | 0, _, _, _ => none
 | k1 + 1, l1, x1, x2 => al (decide (x2 < ((p2.length : Nat) : Int))) (aB (at? l1 x2) fun e1 => aB (at? (l1.set x2.toNat (jc.mk x1 e1.name e1.need e1.type)) x2) fun e2 => aB (vJ e2.type.fields (IntKind.i64.wrap (x1 + 1))) fun r1 => (jq p2 k1) (l1.set x2.toNat (jc.mk x1 e1.name e1.need e1.type)) r1 (IntKind.i64.wrap (x2 + 1))) (qW l1 x1)
def tK (p1 : Int) (p2 : (List ac)) : Option (Int × (List ac)) := jq p2 aY p2 p1 (0 : Int)
theorem xV (p1 : Int) (p2 : (List ac)) : CM Tryz.prog 32 [.one (.sl 0 6 0 p2.length), vi p1] [.arr 6 (ae.els p2)] (tK p1 p2) (fun r => vi r.1) (fun r => [.arr 6 (ae.els r.2)]) :=
  pH 1 27 [] Tryz.f32 fun r => (uQ (kS Tryz.f32 [1,0] 1) fun K2 hK2 => have hJ1 : ∀ (l2 : List ac) (x3 : Int), qW l2 x3 = some r → K2.p [(1, vi x3)] [.arr 6 (ae.els l2)] := fun l2 x3 h => hK2 h (uR .ret qn); (uO (cd Tryz.f32 [1,0,1,0,0]) (kS Tryz.f32 [1,0,1,0] 1) fun R1 b1 => have hL1 : ∀ (k1 : Nat) (l1 : List ac) (x1 x2 : Int), jq p2 k1 l1 x1 x2 = some r → (R1 k1).p [(0, .one (.sl 0 6 0 l1.length)), (1, vi x1), (7, vi ((p2.length : Nat) : Int)), (8, vi x2)] [.arr 6 (ae.els l1)] := by intro k1; induction k1 with | zero => intro l1 x1 x2 h; exact hH (jq.eq_1 ..) h | succ k1 ih1 => intro l1 x1 x2 h; exact b1 h (uU (jq.eq_2 ..) (uC (PZ ae 0 fun e1 a10 => (Sa ae 0 a10 (jc.mk x1 e1.name e1.need e1.type) (PZ (L := l1.length) (hL := by simp) ae 0 fun e2 a11 => (Qd ae a11 (uP (zB _ _) fun r1 _ => (RQ 0 (show l1.length = (l1.set x2.toNat (jc.mk x1 e1.name e1.need e1.type)).length by simp) (uJ (ih1 (l1.set x2.toNat (jc.mk x1 e1.name e1.need e1.type)) r1 (IntKind.i64.wrap (x2 + 1)))))))))) (uR (.exit 0) (xM (uJ (hJ1 l1 x1))))))
 uE (hL1 aY p2 p1 (0 : Int))))
def tV (p1 : (List ac)) : Option Int := some (0 : Int)
theorem yb (p1 : (List ac)) : CT Tryz.prog 33 [.ag [.pv (.s (.slice none 0 0))], vl ae p1] (tV p1) vi :=
  ej 49 [] Tryz.f33 fun r => (uF (IC 0 (uF (uR .ret xF))))
def gf : Option (List bj) := some []
theorem ko : CX Tryz.prog 35 [.one (.pv (.s (.slice none 0 0)))] [] [] (gf) (fun r => .one (.sl 0 3 0 r.length)) (fun r => [.arr 3 (aL.els r)]) :=
  N9 0 1 8 [] Tryz.f35 fun r => (uT (KN (.li 2 3) (uR .ret qn)))
def iA (p1 : (List bj)) : Option (List bj) := nC (0 ≤ (0 : Int) ∧ (0 : Int) ≤ (p1.length : Int) ∧ (p1.length : Int) ≤ (p1.length : Int) ∧ (p1.length : Int) ≤ (p1.length : Int)) <| some ((p1.drop (0 : Int).toNat).take ((p1.length : Int).toNat - (0 : Int).toNat))
theorem l0 (p1 : (List bj)) : CT Tryz.prog 34 [vl aL p1] (iA p1) (vl aL) :=
  ej 9 [] Tryz.f34 fun r => (uN aL p1 (uN aL p1 (Rv aL (uR .ret xF))))
def vH (p1 : (List ac)) : Option (aF × Int) := aB (fc (am.mk (7 : Int) (0 : Int) p1)) fun r1 => al (r1 != 0) (some ((aF.mk [] [] (0 : Int) (0 : Int) (0 : Int) (0 : Int) [] [] []), r1)) (aB (jM aY p1) fun r2 => aB (tK (1 : Int) r2) fun r3 => nC (r3.2.length = r2.length) <| aB (tV r3.2) fun r4 => al (r4 != 0) (some ((aF.mk [] [] (0 : Int) (0 : Int) (0 : Int) (0 : Int) [] [] []), r4)) (aB (gf) fun r5 => aB (iA r5) fun r6 => some ((aF.mk [r3.2] [(di.mk r6)] r3.1 (1 : Int) (1 : Int) (0 : Int) [] ([(j9.mk (ByteArray.mk #[109, 97, 105, 110]) true (0 : Int))]) []), (0 : Int))))
theorem zW (p1 : (List ac)) : CT Tryz.prog 8 [vl ae p1, .ag [.pv (.s (.slice none 0 0))]] (vH p1) (fun r => .tp [.ag [cl (eL ae) r.1.schemas, cl cX r.1.specs, ci r.1.nextField, ci r.1.nextSeq, ci r.1.nextSnap, ci r.1.purges, cl aH r.1.snapshots, cl gY r.1.refs, cl eF r.1.props], vi r.2]) :=
  ej 40 [4] Tryz.f8 fun r => (uP (kv _) fun r1 _ => (uC (uR .ret xF) (P6 true [] (sE aY _) fun r2 _ => (xx true [1] (xV _ _) fun r3 _ => (Se 1 (Og ae r3.2 1 [7,22] (Oz (yb _) fun r4 _ => (uC (uR .ret xF) (P6 false [] ko fun r5 _ => (Og aL r5 2 [32] (uP (l0 _) fun r6 _ => (uR .ret xF))))))))))))
def oQ (x1 : Bool) : Option Bool := some x1
def vM : Option Bool := aB (vH ([(jc.mk (0 : Int) (ByteArray.mk #[97]) false (am.mk (2 : Int) (0 : Int) []))])) fun r1 => al (r1.2 == 0) (al (r1.1.nextField == 2) (oQ ((r1.1.schemas.length : Int) == 1)) (oQ false)) (oQ false)
theorem B9 : CT Tryz.prog 5 [] (vM) vb :=
  ej 24 [1] Tryz.f5 fun r => (Oz (zW _) fun r1 _ => (uQ (kS Tryz.f5 [1,1,0] 1) fun K4 hK4 => have hJ1 : ∀ (x1 : Bool), oQ x1 = some r → K4.p [(0, vb x1)] [.dead] := fun x1 h => hK4 h (uR .ret xF); (uC (uC (uN (eL ae) r1.1.schemas (uJ (hJ1 ((r1.1.schemas.length : Int) == 1)))) (uJ (hJ1 false))) (uJ (hJ1 false)))))
def lV (rec1 : Int → Bool → Int → Option Int) (x2 x4 : Int) (e1 : au) (x5 : Bool) : Option Int := aB (some (IntKind.i64.wrap (x2 + (IntKind.i64.wrap ((e1.files.length : Int) + (e1.dby.length : Int)))))) fun y1 => rec1 y1 x5 (IntKind.i64.wrap (x4 + 1))
def oh (x8 : Bool) : Option Int := al x8 (some (7 : Int)) (some (0 : Int))
def qN (x6 : Int) (x7 : Bool) : Option Int := al x7 (oh true) (oh (decide ((4000 : Int) < x6)))
def ew (p1 : aF) : Nat → Int → Bool → Int → Option Int
 | 0, _, _, _ => none
 | k1 + 1, x2, x3, x4 => al (decide (x4 < (p1.snapshots.length : Int))) (aB (at? p1.snapshots x4) fun e1 => al x3 (lV (ew p1 k1) x2 x4 e1 true) (al (decide ((400 : Int) < (e1.files.length : Int))) (lV (ew p1 k1) x2 x4 e1 true) (lV (ew p1 k1) x2 x4 e1 (decide ((400 : Int) < (e1.dby.length : Int)))))) (qN x2 x3)
def ja (p1 : aF) (x1 : Bool) : Option Int := ew p1 aY (0 : Int) x1 (0 : Int)
def re (p1 : aF) : Option Int := al (decide ((40 : Int) < (p1.schemas.length : Int))) (ja p1 true) (al (decide ((40 : Int) < (p1.specs.length : Int))) (ja p1 true) (al (decide ((200 : Int) < (p1.snapshots.length : Int))) (ja p1 true) (al (decide ((40 : Int) < (p1.refs.length : Int))) (ja p1 true) (ja p1 (decide ((40 : Int) < (p1.props.length : Int)))))))
theorem Bu (p1 : aF) : CT Tryz.prog 11 [.ag [cl (eL ae) p1.schemas, cl cX p1.specs, ci p1.nextField, ci p1.nextSeq, ci p1.nextSnap, ci p1.purges, cl aH p1.snapshots, cl gY p1.refs, cl eF p1.props]] (re p1) vi :=
  ej 70 [6] Tryz.f11 fun r => (uQ (kS Tryz.f11 [1,1,0] 1) fun K3 hK3 => have hJ1 : ∀ (x1 : Bool), ja p1 x1 = some r → K3.p [(1, .one (.pv (.rp [[.ro ((eL ae).els p1.schemas), .ro (cX.els p1.specs), pi p1.nextField, pi p1.nextSeq, pi p1.nextSnap, pi p1.purges, .ro (aH.els p1.snapshots), .ro (gY.els p1.refs), .ro (eF.els p1.props)]] 0 0))), (3, vi (0 : Int)), (4, vb x1)] [] := fun x1 h => hK3 h (uQ (kS Tryz.f11 [1,1,1,0] 1) fun K8 hK8 => have hJ3 : ∀ (x6 : Int) (x7 : Bool), qN x6 x7 = some r → K8.p [(3, vi x6), (4, vb x7)] [] := fun x6 x7 h => hK8 h (uQ (kS Tryz.f11 [1,1,1,1,0,0] 2) fun K21 hK21 => have hJ4 : ∀ (x8 : Bool), oh x8 = some r → K21.p [(69, vb x8)] [] := fun x8 h => hK21 h (uC (uR .ret xF) (uR .ret xF)); (uC (uJ (hJ4 true)) (uJ (hJ4 (decide ((4000 : Int) < x6)))))); (uN aH p1.snapshots (uO (cd Tryz.f11 [1,1,1,0,1,0,0]) (kS Tryz.f11 [1,1,1,0,1,0] 1) fun R1 b1 => have hL1 : ∀ (k1 : Nat) (x2 : Int) (x3 : Bool) (x4 : Int), ew p1 k1 x2 x3 x4 = some r → (R1 k1).p [(3, vi x2), (4, vb x3), (36, vl aH p1.snapshots), (37, vi (p1.snapshots.length : Int)), (38, vi x4)] [] := by intro k1; induction k1 with | zero => intro x2 x3 x4 h; exact hH (ew.eq_1 ..) h | succ k1 ih1 => intro x2 x3 x4 h; exact b1 h (uU (ew.eq_2 ..) (uC (uL aH fun e1 a15 => (uQ (kS Tryz.f11 [1,1,1,0,1,0,0,1,1,0,0,1,0] 3) fun K16 hK16 => have hJ2 : ∀ (x5 : Bool), lV (ew p1 k1) x2 x4 e1 x5 = some r → K16.p [(3, vi x2), (4, vb x5), (6, .one (.pt 0 0 0 0)), (36, vl aH p1.snapshots), (37, vi (p1.snapshots.length : Int)), (38, vi x4)] [.box [ci e1.id, ci e1.parent, ci e1.seq, ci e1.schema, ci e1.time, ci e1.kind, cl aP e1.files, cl cF e1.dat, cl cf e1.dby]] := fun x5 h => hK16 h (uN aP e1.files (uN cf e1.dby (uY 63 vi fun y1 => (uJ (ih1 y1 x5 (IntKind.i64.wrap (x4 + 1))))))); (uC (uJ (hJ2 true)) (uN aP e1.files (uC (uJ (hJ2 true)) (uN cf e1.dby (uJ (hJ2 (decide ((400 : Int) < (e1.dby.length : Int))))))))))) (uR (.exit 0) (xM (uJ (hJ3 x2 x3))))))
 uE (hL1 aY (0 : Int) x1 (0 : Int))))); (uN (eL ae) p1.schemas (uC (uJ (hJ1 true)) (uN cX p1.specs (uC (uJ (hJ1 true)) (uN aH p1.snapshots (uC (uJ (hJ1 true)) (uN gY p1.refs (uC (uJ (hJ1 true)) (uN eF p1.props (uJ (hJ1 (decide ((40 : Int) < (p1.props.length : Int)))))))))))))))
def oc (x1 : Bool) : Option Bool := some x1
def dk (p1 p2 p3 : Int) : Option Bool := al (decide (p2 ≤ p1)) (oc (decide (p1 ≤ p3))) (oc false)
theorem de (p1 p2 p3 : Int) : CT Tryz.prog 12 [vi p1, vi p2, vi p3] (dk p1 p2 p3) vb :=
  ej 15 [] Tryz.f12 fun r => (uQ (kS Tryz.f12 [1,0] 1) fun K2 hK2 => have hJ1 : ∀ (x1 : Bool), oc x1 = some r → K2.p [(6, vb x1)] [] := fun x1 h => hK2 h (uR .ret xF); (uC (uJ (hJ1 (decide (p1 ≤ p3)))) (uJ (hJ1 false))))
def kP (p1 : ac) (p2 : (List (Int × Int))) : Option (Int × (List (Int × Int))) := al (decide (p1.id < (1 : Int))) (some ((3 : Int), p2)) (aB (some ((gU (pw .i64) p2 p1.id).getD (0 : Int))) fun x1 => aB (some ((gU (pw .i64) (iD (pw .i64) p2 p1.id (IntKind.i64.wrap (x1 + 1))) p1.id).getD (0 : Int))) fun x2 => al (decide ((1 : Int) < x2)) (some ((5 : Int), (iD (pw .i64) p2 p1.id (IntKind.i64.wrap (x1 + 1))))) (some ((0 : Int), (iD (pw .i64) p2 p1.id (IntKind.i64.wrap (x1 + 1))))))
theorem vB (p1 : ac) (p2 : (List (Int × Int))) : CM Tryz.prog 76 [.ag [ci p1.id, kE p1.name, cb p1.need, ci p1.type.kind, ci p1.type.scale, cl ae p1.type.fields], .one (.pt 0 0 0 0)] [.box [.mp 1], oL (pw .i64) eI false p2] (kP p1 p2) (fun r => vi r.1) (fun r => [.box [.mp 1], oL (pw .i64) eI false r.2]) :=
  pH 2 17 [] Tryz.f76 fun r => (uC (uR .ret qn) (Qq (pw .i64) eI false 1 (0 : Int) 3 3 false fun x1 _ => (RI (pw .i64) eI false 1 (m := p2) (k0 := p1.id) (u := (IntKind.i64.wrap (x1 + 1))) 3 (Qq (pw .i64) eI false 1 (0 : Int) 3 3 false fun x2 _ => (uC (uR .ret qn) (uR .ret qn))))))
def fq (z2 : (List (Int × Int))) : Option (Int × (List (Int × Int))) := some ((0 : Int), z2)
def bB (q_value_Walk_of_value_CheckSchema_1 : (List ac) → (List (Int × Int)) → Option (Int × (List (Int × Int)))) (p1 : (List ac)) : Nat → (List (Int × Int)) → Int → Option (Int × (List (Int × Int)))
 | 0, _, _ => none
 | k1 + 1, z1, x1 => al (decide (x1 < (p1.length : Int))) (aB (at? p1 x1) fun e1 => aB (kP e1 z1) fun r1 => al (r1.1 != 0) (some (r1.1, r1.2)) (aB (q_value_Walk_of_value_CheckSchema_1 e1.type.fields r1.2) fun r2 => al (r2.1 != 0) (some (r2.1, r2.2)) ((bB q_value_Walk_of_value_CheckSchema_1 p1 k1) r2.2 (IntKind.i64.wrap (x1 + 1))))) (fq z1)
def bo : Nat → (List ac) → (List (Int × Int)) → Option (Int × (List (Int × Int)))
 | 0, _, _ => none
 | k0 + 1, p1, p2 => bB (bo k0) p1 aY p2 (0 : Int)
theorem jI : ∀ (k0 : Nat) (p1 : (List ac)) (p2 : (List (Int × Int))), CM Tryz.prog 43 [vl ae p1, .one (.fn 76 [.pt 0 0 0 0])] [.box [.mp 1], oL (pw .i64) eI false p2] (bo k0 p1 p2) (fun r => vi r.1) (fun r => [.box [.mp 1], oL (pw .i64) eI false r.2])
  | 0, _, _ => Mr (bo.eq_1 ..)
  | k0 + 1, p1, p2 => pH 2 30 [6] Tryz.f43 fun r => (uU (bo.eq_2 ..) (uQ (kS Tryz.f43 [1,0] 1) fun K2 hK2 => have hJ1 : ∀ (z2 : (List (Int × Int))), fq z2 = some r → K2.p [] [.box [.mp 1], oL (pw .i64) eI false z2] := fun z2 h => hK2 h (uR .ret qn); (uN ae p1 (uO (cd Tryz.f43 [1,0,1,0,0]) (kS Tryz.f43 [1,0,1,0] 1) fun R1 b1 => have hL1 : ∀ (k1 : Nat) (z1 : (List (Int × Int))) (x1 : Int), bB (bo k0) p1 k1 z1 x1 = some r → (R1 k1).p [(1, .one (.fn 76 [.pt 0 0 0 0])), (9, vl ae p1), (10, vi (p1.length : Int)), (11, vi x1)] [.box [.mp 1], oL (pw .i64) eI false z1] := by intro k1; induction k1 with | zero => intro z1 x1 h; exact hH (bB.eq_1 ..) h | succ k1 ih1 => intro z1 x1 h; exact b1 h (uU (bB.eq_2 ..) (uC (uL ae fun e1 a9 => (xx true [0,1] (vB _ _) fun r1 _ => (uC (uR .ret (xN (xN qn))) (xx true [0,1] (jI k0 _ _) fun r2 _ => (uC (uR .ret (xN (xN qn))) (uJ (ih1 r2.2 (IntKind.i64.wrap (x1 + 1))))))))) (uR (.exit 0) (xM (uJ (hJ1 z1))))))
 uE (hL1 aY p2 (0 : Int))))))
def fy (p1 : (List ac)) : Option Int := aB (fc (am.mk (7 : Int) (0 : Int) p1)) fun r1 => al (r1 != 0) (some r1) (aB (bo aY p1 []) fun r2 => some r2.1)
theorem ny (p1 : (List ac)) : CT Tryz.prog 42 [vl ae p1] (fy p1) vi :=
  ej 15 [4] Tryz.f42 fun r => (uP (kv _) fun r1 _ => (uC (uR .ret xF) (Rr (pw .i64) eI false (xx true [1,0] (jI aY _ _) fun r2 _ => (uR .ret xF)))))
def pf (p1 : ac) (p2 : (List (List ac))) (p3 : (List di)) (p4 p5 p6 p7 : Int) (p8 : (List au)) (p9 : (List j9)) (hI : (List nK)) : Option Int := al (decide (p4 ≤ p1.id)) (some (3 : Int)) (some (0 : Int))
theorem w4 (p1 : ac) (p2 : (List (List ac))) (p3 : (List di)) (p4 p5 p6 p7 : Int) (p8 : (List au)) (p9 : (List j9)) (hI : (List nK)) : CT Tryz.prog 44 [.ag [ci p1.id, kE p1.name, cb p1.need, ci p1.type.kind, ci p1.type.scale, cl ae p1.type.fields], .one (.pv (.rp [[.ro ((eL ae).els p2), .ro (cX.els p3), pi p4, pi p5, pi p6, pi p7, .ro (aH.els p8), .ro (gY.els p9), .ro (eF.els hI)]] 0 0))] (pf p1 p2 p3 p4 p5 p6 p7 p8 p9 hI) vi :=
  ej 9 [] Tryz.f44 fun r => (uC (uR .ret xF) (uR .ret xF))
def kr : Option Int := some (0 : Int)
def bG (q_value_Walk_of_table_schemas_1 : (List ac) → (List (List ac)) → (List di) → Int → Int → Int → Int → (List au) → (List j9) → (List nK) → Option Int) (p1 : (List ac)) (p2 : (List (List ac))) (p3 : (List di)) (p4 p5 p6 p7 : Int) (p8 : (List au)) (p9 : (List j9)) (hI : (List nK)) : Nat → Int → Option Int
 | 0, _ => none
 | k1 + 1, x1 => al (decide (x1 < (p1.length : Int))) (aB (at? p1 x1) fun e1 => aB (pf e1 p2 p3 p4 p5 p6 p7 p8 p9 hI) fun r1 => al (r1 != 0) (some r1) (aB (q_value_Walk_of_table_schemas_1 e1.type.fields p2 p3 p4 p5 p6 p7 p8 p9 hI) fun r2 => al (r2 != 0) (some r2) ((bG q_value_Walk_of_table_schemas_1 p1 p2 p3 p4 p5 p6 p7 p8 p9 hI k1) (IntKind.i64.wrap (x1 + 1))))) (kr)
def bH : Nat → (List ac) → (List (List ac)) → (List di) → Int → Int → Int → Int → (List au) → (List j9) → (List nK) → Option Int
 | 0, _, _, _, _, _, _, _, _, _, _ => none
 | k0 + 1, p1, p2, p3, p4, p5, p6, p7, p8, p9, hI => bG (bH k0) p1 p2 p3 p4 p5 p6 p7 p8 p9 hI aY (0 : Int)
theorem kJ : ∀ (k0 : Nat) (p1 : (List ac)) (p2 : (List (List ac))) (p3 : (List di)) (p4 p5 p6 p7 : Int) (p8 : (List au)) (p9 : (List j9)) (hI : (List nK)), CT Tryz.prog 43 [vl ae p1, .one (.fn 44 [.pv (.rp [[.ro ((eL ae).els p2), .ro (cX.els p3), pi p4, pi p5, pi p6, pi p7, .ro (aH.els p8), .ro (gY.els p9), .ro (eF.els hI)]] 0 0)])] (bH k0 p1 p2 p3 p4 p5 p6 p7 p8 p9 hI) vi
  | 0, _, _, _, _, _, _, _, _, _, _ => CI (bH.eq_1 ..)
  | k0 + 1, p1, p2, p3, p4, p5, p6, p7, p8, p9, hI => ej 30 [6] Tryz.f43 fun r => (uU (bH.eq_2 ..) (uQ (kS Tryz.f43 [1,0] 1) fun K2 hK2 => have hJ1 : ∀ (_ : Unit), kr = some r → K2.p [] [] := fun _ h => hK2 h (uR .ret xF); (uN ae p1 (uO (cd Tryz.f43 [1,0,1,0,0]) (kS Tryz.f43 [1,0,1,0] 1) fun R1 b1 => have hL1 : ∀ (k1 : Nat) (x1 : Int), bG (bH k0) p1 p2 p3 p4 p5 p6 p7 p8 p9 hI k1 x1 = some r → (R1 k1).p [(1, .one (.fn 44 [.pv (.rp [[.ro ((eL ae).els p2), .ro (cX.els p3), pi p4, pi p5, pi p6, pi p7, .ro (aH.els p8), .ro (gY.els p9), .ro (eF.els hI)]] 0 0)])), (9, vl ae p1), (10, vi (p1.length : Int)), (11, vi x1)] [] := by intro k1; induction k1 with | zero => intro x1 h; exact hH (bG.eq_1 ..) h | succ k1 ih1 => intro x1 h; exact b1 h (uU (bG.eq_2 ..) (uC (uL ae fun e1 a9 => (uP (w4 _ _ _ _ _ _ _ _ _ _) fun r1 _ => (uC (uR .ret (xN (xN xF))) (uP (kJ k0 _ _ _ _ _ _ _ _ _ _) fun r2 _ => (uC (uR .ret (xN (xN xF))) (uJ (ih1 (IntKind.i64.wrap (x1 + 1))))))))) (uR (.exit 0) (xM (uJ (hJ1 ()))))))
 uE (hL1 aY (0 : Int))))))
def mc (p1 : (List ac)) : Option Int := aB (fy p1) fun r1 => al (r1 != 0) (some r1) (some (0 : Int))
theorem tW (p1 : (List ac)) : CT Tryz.prog 77 [vl ae p1, .one (.pv (.s (.slice none 0 0)))] (mc p1) vi :=
  ej 59 [] Tryz.f77 fun r => (uP (ny _) fun r1 _ => (uC (uR .ret xF) (uF (IC 0 (uF (uR .ret xF))))))
def oj (p1 : ac) (p2 : Int) : Option Bool := some (p1.id == p2)
theorem vV (p1 : ac) (p2 : Int) : CT Tryz.prog 156 [.ag [ci p1.id, kE p1.name, cb p1.need, ci p1.type.kind, ci p1.type.scale, cl ae p1.type.fields], .one (.pv (.rp [[pi p2]] 0 0))] (oj p1 p2) vb :=
  ej 8 [] Tryz.f156 fun r => (uR .ret xF)
def dP : Option Int := some (-1 : Int)
def aO (p1 : (List ac)) (p2 : Int) : Nat → Int → Option Int
 | 0, _ => none
 | k1 + 1, x1 => al (decide (x1 < (p1.length : Int))) (aB (at? p1 x1) fun e1 => aB (oj e1 p2) fun r1 => al r1 (some x1) ((aO p1 p2 k1) (IntKind.i64.wrap (x1 + 1)))) (dP)
def cI (p1 : (List ac)) (p2 : Int) : Option Int := aO p1 p2 aY (0 : Int)
theorem ix (p1 : (List ac)) (p2 : Int) : CT Tryz.prog 81 [vl ae p1, .one (.fn 156 [.pv (.rp [[pi p2]] 0 0)])] (cI p1 p2) vi :=
  ej 19 [] Tryz.f81 fun r => (uQ (kS Tryz.f81 [1,0] 1) fun K2 hK2 => have hJ1 : ∀ (_ : Unit), dP = some r → K2.p [] [] := fun _ h => hK2 h (uR .ret xF); (uN ae p1 (uO (cd Tryz.f81 [1,0,1,0,0]) (kS Tryz.f81 [1,0,1,0] 1) fun R1 b1 => have hL1 : ∀ (k1 : Nat) (x1 : Int), aO p1 p2 k1 x1 = some r → (R1 k1).p [(0, vl ae p1), (1, .one (.fn 156 [.pv (.rp [[pi p2]] 0 0)])), (7, vi (p1.length : Int)), (8, vi x1)] [] := by intro k1; induction k1 with | zero => intro x1 h; exact hH (aO.eq_1 ..) h | succ k1 ih1 => intro x1 h; exact b1 h (uU (aO.eq_2 ..) (uC (uL ae fun e1 a10 => (uP (vV _ _) fun r1 _ => (uC (uR .ret (xN (xN xF))) (uJ (ih1 (IntKind.i64.wrap (x1 + 1))))))) (uR (.exit 0) (xM (uJ (hJ1 ()))))))
 uE (hL1 aY (0 : Int)))))
def pc (p1 : (List ac)) (p2 : Int) : Option Int := aB (cI p1 p2) fun r1 => some r1
theorem Ai (p1 : (List ac)) (p2 : Int) : CT Tryz.prog 117 [vl ae p1, vi p2] (pc p1 p2) vi :=
  ej 8 [] Tryz.f117 fun r => (uP (ix _ _) fun r1 _ => (uR .ret xF))
def ml (x1 : Bool) : Option Bool := some x1
def mX (p1 : am) : Option Bool := al (p1.kind == 6) (ml true) (ml (p1.kind == 7))
theorem tN (p1 : am) : CT Tryz.prog 118 [.ag [ci p1.kind, ci p1.scale, cl ae p1.fields]] (mX p1) vb :=
  ej 11 [] Tryz.f118 fun r => (uQ (kS Tryz.f118 [1,0] 1) fun K2 hK2 => have hJ1 : ∀ (x1 : Bool), ml x1 = some r → K2.p [(2, vb x1)] [] := fun x1 h => hK2 h (uR .ret xF); (uC (uJ (hJ1 true)) (uJ (hJ1 (p1.kind == 7)))))
def lJ (x1 : Bool) : Option Int := al x1 (some (2 : Int)) (some (0 : Int))
def lR (p1 : am) : Option Int := aB (fc p1) fun r1 => al (r1 != 0) (some r1) (al (p1.kind == 6) (lJ true) (lJ (p1.kind == 7)))
theorem sV (p1 : am) : CT Tryz.prog 157 [.ag [ci p1.kind, ci p1.scale, cl ae p1.fields]] (lR p1) vi :=
  ej 17 [] Tryz.f157 fun r => (uP (kv _) fun r1 _ => (uC (uR .ret xF) (uQ (kS Tryz.f157 [1,1,0,0] 2) fun K9 hK9 => have hJ1 : ∀ (x1 : Bool), lJ x1 = some r → K9.p [(16, vb x1)] [] := fun x1 h => hK9 h (uC (uR .ret xF) (uR .ret xF)); (uC (uJ (hJ1 true)) (uJ (hJ1 (p1.kind == 7)))))))
def iw (x4 : Bool) : Option Bool := some x4
def nm (p1 p2 : am) (x3 : Bool) : Option Bool := al x3 (some true) (al (p1.kind == 1) (al (p2.kind == 3) (iw (p2.scale == 0)) (iw false)) (al (p1.kind == 2) (al (p2.kind == 3) (iw (p2.scale == 0)) (iw false)) (iw false)))
def nu (p1 p2 : am) (x2 : Bool) : Option Bool := al x2 (some true) (al (p1.kind == 1) (nm p1 p2 (p2.kind == 2)) (nm p1 p2 false))
def jL (p1 p2 : am) (x1 : Bool) : Option Bool := al x1 (some false) (al (p1.kind == p2.kind) (nu p1 p2 (p1.scale == p2.scale)) (nu p1 p2 false))
def n4 (p1 p2 : am) : Option Bool := aB (lR p1) fun r1 => al (r1 != 0) (jL p1 p2 true) (aB (lR p2) fun r2 => jL p1 p2 (r2 != 0))
theorem AB (p1 p2 : am) : CT Tryz.prog 119 [.ag [ci p1.kind, ci p1.scale, cl ae p1.fields], .ag [ci p2.kind, ci p2.scale, cl ae p2.fields]] (n4 p1 p2) vb :=
  ej 53 [] Tryz.f119 fun r => (uQ (kS Tryz.f119 [1,0,0] 2) fun K3 hK3 => have hJ1 : ∀ (x1 : Bool), jL p1 p2 x1 = some r → K3.p [(2, .one (.pv (.rp [(fQ p1)] 0 0))), (3, .one (.pv (.rp [(fQ p2)] 0 0))), (12, vb x1)] [] := fun x1 h => hK3 h (uC (uR .ret xF) (uQ (kS Tryz.f119 [1,1,0,0,0] 3) fun K10 hK10 => have hJ2 : ∀ (x2 : Bool), nu p1 p2 x2 = some r → K10.p [(2, .one (.pv (.rp [(fQ p1)] 0 0))), (3, .one (.pv (.rp [(fQ p2)] 0 0))), (13, vb x2)] [] := fun x2 h => hK10 h (uC (uR .ret xF) (uQ (kS Tryz.f119 [1,1,0,0,1,1,0] 3) fun K14 hK14 => have hJ3 : ∀ (x3 : Bool), nm p1 p2 x3 = some r → K14.p [(2, .one (.pv (.rp [(fQ p1)] 0 0))), (3, .one (.pv (.rp [(fQ p2)] 0 0))), (26, vb x3)] [] := fun x3 h => hK14 h (uC (uR .ret xF) (uQ (kS Tryz.f119 [1,1,1,0] 1) fun K18 hK18 => have hJ4 : ∀ (x4 : Bool), iw x4 = some r → K18.p [(4, vb x4)] [] := fun x4 h => hK18 h (uR .ret xF); (uC (uC (uJ (hJ4 (p2.scale == 0))) (uJ (hJ4 false))) (uC (uC (uJ (hJ4 (p2.scale == 0))) (uJ (hJ4 false))) (uJ (hJ4 false)))))); (uC (uJ (hJ3 (p2.kind == 2))) (uJ (hJ3 false))))); (uC (uJ (hJ2 (p1.scale == p2.scale))) (uJ (hJ2 false))))); (uP (sV _) fun r1 _ => (uC (uJ (hJ1 true)) (uP (sV _) fun r2 _ => (uJ (hJ1 (r2 != 0)))))))
def jn (rec1 : Int → Option Int) (x1 : Int) : Option Int := rec1 (IntKind.i64.wrap (x1 + 1))
def fv (q_column_adaptable : (List ac) → (List ac) → Option Int) (rec1 : Int → Option Int) (x1 : Int) (e1 e2 : ac) (x4 : Bool) : Option Int := al x4 (some (2 : Int)) (aB (q_column_adaptable e2.type.fields e1.type.fields) fun r5 => al (r5 != 0) (some r5) (jn rec1 x1))
def kN (q_column_adaptable : (List ac) → (List ac) → Option Int) (rec1 : Int → Option Int) (x1 : Int) (e1 e2 : ac) (x3 : Bool) : Option Int := al x3 (fv q_column_adaptable rec1 x1 e1 e2 x3) (aB (mX e2.type) fun r3 => al (!r3) (aB (n4 e2.type e1.type) fun r4 => fv q_column_adaptable rec1 x1 e1 e2 (!r4)) (fv q_column_adaptable rec1 x1 e1 e2 false))
def jh (q_column_adaptable : (List ac) → (List ac) → Option Int) (rec1 : Int → Option Int) (x1 : Int) (e1 e2 : ac) (x2 : Bool) : Option Int := al x2 (some (9 : Int)) (aB (mX e2.type) fun r2 => al r2 (kN q_column_adaptable rec1 x1 e1 e2 (e1.type.kind != e2.type.kind)) (kN q_column_adaptable rec1 x1 e1 e2 false))
def qY : Option Int := some (0 : Int)
def bq (q_column_adaptable : (List ac) → (List ac) → Option Int) (p1 p2 : (List ac)) : Nat → Int → Option Int
 | 0, _ => none
 | k1 + 1, x1 => al (decide (x1 < (p2.length : Int))) (aB (at? p2 x1) fun e1 => aB (pc p1 e1.id) fun r1 => al (decide (r1 < (0 : Int))) (al e1.need (some (9 : Int)) (jn (bq q_column_adaptable p1 p2 k1) x1)) (aB (at? p1 r1) fun e2 => al e1.need (jh q_column_adaptable (bq q_column_adaptable p1 p2 k1) x1 e1 e2 (!e2.need)) (jh q_column_adaptable (bq q_column_adaptable p1 p2 k1) x1 e1 e2 false))) (qY)
def bp : Nat → (List ac) → (List ac) → Option Int
 | 0, _, _ => none
 | k0 + 1, p1, p2 => bq (bp k0) p1 p2 aY (0 : Int)
abbrev xh (e1 : ac) : List CV := [ci e1.id, kE e1.name, cb e1.need, ci e1.type.kind, ci e1.type.scale, cl ae e1.type.fields]
theorem rO : ∀ (k0 : Nat) (p1 p2 : (List ac)), CT Tryz.prog 78 [vl ae p1, vl ae p2] (bp k0 p1 p2) vi
  | 0, _, _ => CI (bp.eq_1 ..)
  | k0 + 1, p1, p2 => ej 72 [6, 8] Tryz.f78 fun r => (uU (bp.eq_2 ..) (uQ (kS Tryz.f78 [1,0] 1) fun K2 hK2 => have hJ5 : ∀ (_ : Unit), qY = some r → K2.p [] [] := fun _ h => hK2 h (uR .ret xF); (uN ae p2 (uO (cd Tryz.f78 [1,0,1,0,0]) (kS Tryz.f78 [1,0,1,0] 1) fun R1 b1 => have hL1 : ∀ (k1 : Nat) (x1 : Int), bq (bp k0) p1 p2 k1 x1 = some r → (R1 k1).p [(0, vl ae p1), (10, vl ae p2), (11, vi (p2.length : Int)), (12, vi x1)] [] := by intro k1; induction k1 with | zero => intro x1 h; exact hH (bq.eq_1 ..) h | succ k1 ih1 => intro x1 h; exact b1 h (uU (bq.eq_2 ..) (uC (uQ (kS Tryz.f78 [1,0,1,0,0,1,1,0] 1) fun K7 hK7 => have hJ4 : ∀ (_ : Unit), jn (bq (bp k0) p1 p2 k1) x1 = some r → K7.p [(0, vl ae p1), (10, vl ae p2), (11, vi (p2.length : Int)), (12, vi x1)] [] := fun _ h => hK7 h (uJ (ih1 (IntKind.i64.wrap (x1 + 1)))); (uL ae fun e1 a9 => (uP (Ai _ _) fun r1 _ => (uC (uC (uR .ret (xN (xN (xN xF)))) (uJ (hJ4 ()))) (uL ae fun e2 a20 => (uQ (kS Tryz.f78 [1,0,1,0,0,1,1,0,0,1,1,1,1,0,0,0] 4) fun K22 hK22 => have hJ1 : ∀ (x2 : Bool), jh (bp k0) (bq (bp k0) p1 p2 k1) x1 e1 e2 x2 = some r → K22.p [(0, vl ae p1), (6, .one (.pt 0 0 0 0)), (8, .one (.pt 1 0 0 0)), (10, vl ae p2), (11, vi (p2.length : Int)), (12, vi x1), (28, vb x2)] [.box (xh e1), .box (xh e2)] := fun x2 h => hK22 h (uC (uR .ret (xN (xN (xN xF)))) (uQ (kS Tryz.f78 [1,0,1,0,0,1,1,0,0,1,1,1,1,0,0,1,1,0] 4) fun K26 hK26 => have hJ3 : ∀ (x4 : Bool), fv (bp k0) (bq (bp k0) p1 p2 k1) x1 e1 e2 x4 = some r → K26.p [(0, vl ae p1), (6, .one (.pt 0 0 0 0)), (8, .one (.pt 1 0 0 0)), (10, vl ae p2), (11, vi (p2.length : Int)), (12, vi x1), (36, vb x4)] [.box (xh e1), .box (xh e2)] := fun x4 h => hK26 h (uC (uR .ret (xN (xN (xN xF)))) (uP (rO k0 _ _) fun r5 _ => (uC (uR .ret (xN (xN (xN xF)))) (uJ (hJ4 ()))))); (uQ (kS Tryz.f78 [1,0,1,0,0,1,1,0,0,1,1,1,1,0,0,1,1,0,0] 1) fun K27 hK27 => have hJ2 : ∀ (x3 : Bool), kN (bp k0) (bq (bp k0) p1 p2 k1) x1 e1 e2 x3 = some r → K27.p [(0, vl ae p1), (6, .one (.pt 0 0 0 0)), (8, .one (.pt 1 0 0 0)), (10, vl ae p2), (11, vi (p2.length : Int)), (12, vi x1), (36, vb x3)] [.box (xh e1), .box (xh e2)] := fun x3 h => hK27 h (uC (uJ (hJ3 x3)) (uP (tN _) fun r3 _ => (uC (uP (AB _ _) fun r4 _ => (uJ (hJ3 (!r4)))) (uJ (hJ3 false))))); (uP (tN _) fun r2 _ => (uC (uJ (hJ2 (e1.type.kind != e2.type.kind))) (uJ (hJ2 false))))))); (uC (uJ (hJ1 (!e2.need))) (uJ (hJ1 false))))))))) (uR (.exit 0) (xM (uJ (hJ5 ()))))))
 uE (hL1 aY (0 : Int))))))
def kL (p1 : (List (List af))) : Option (List (List af)) := nC (0 ≤ (0 : Int) ∧ (0 : Int) ≤ (p1.length : Int) ∧ (p1.length : Int) ≤ (p1.length : Int) ∧ (p1.length : Int) ≤ (p1.length : Int)) <| some ((p1.drop (0 : Int).toNat).take ((p1.length : Int).toNat - (0 : Int).toNat))
theorem oC (p1 : (List (List af))) : CT Tryz.prog 80 [vl (eL ak) p1] (kL p1) (fun r => vl (eL ak) r) :=
  ej 9 [] Tryz.f80 fun r => (uN (eL ak) p1 (uN (eL ak) p1 (Rv (eL ak) (uR .ret xF))))
def mo (p1 p2 : (List ac)) : Option ((List (List af)) × Int) := aB (mc p1) fun r1 => al (r1 != 0) (some ([], r1)) (aB (fy p2) fun r2 => al (r2 != 0) (some ([], r2)) (aB (bp aY p1 p2) fun r3 => al (r3 != 0) (some ([], r3)) (aB (kL []) fun r4 => some (r4, (0 : Int)))))
theorem w8 (p1 p2 : (List ac)) : CT Tryz.prog 45 [vl ae p1, vl ae p2, .one (.pv (.s (.slice none 0 0)))] (mo p1 p2) (fun r => .tp [vl (eL ak) r.1, vi r.2]) :=
  ej 47 [] Tryz.f45 fun r => (Oz (tW _) fun r1 _ => (uC (uR .ret xF) (uP (ny _) fun r2 _ => (uC (uR .ret xF) (uP (rO aY _ _) fun r3 _ => (uC (uR .ret xF) (IC 0 (uF (uP (oC _) fun r4 _ => (uR .ret xF))))))))))
def pR (rec1 : Int → Option Int) (x1 : Int) : Option Int := rec1 (IntKind.i64.wrap (x1 + 1))
def gj (rec1 : Int → Option Int) (p1 : aF) (x1 : Int) (e1 : (List ac)) : Nat → Int → Option Int
 | 0, _ => none
 | k2 + 1, x2 => aB (some (decide (x2 < (((p1.schemas.drop (0 : Int).toNat).take (x1.toNat - (0 : Int).toNat)).length : Int)))) fun y1 => al y1 (aB (at? ((p1.schemas.drop (0 : Int).toNat).take (x1.toNat - (0 : Int).toNat)) x2) fun e2 => aB (mo e2 e1) fun r3 => al (r3.2 != 0) (some r3.2) ((gj rec1 p1 x1 e1 k2) (IntKind.i64.wrap (x2 + 1)))) (pR rec1 x1)
def tQ : Option Int := some (0 : Int)
def dz (p1 : aF) : Nat → Int → Option Int
 | 0, _ => none
 | k1 + 1, x1 => al (decide (x1 < (p1.schemas.length : Int))) (aB (at? p1.schemas x1) fun e1 => aB (fy e1) fun r1 => al (r1 != 0) (some r1) (aB (bH aY e1 p1.schemas p1.specs p1.nextField p1.nextSeq p1.nextSnap p1.purges p1.snapshots p1.refs p1.props) fun r2 => al (r2 != 0) (some r2) (nC (0 ≤ (0 : Int) ∧ (0 : Int) ≤ x1 ∧ x1 ≤ (p1.schemas.length : Int)) <| gj (dz p1 k1) p1 x1 e1 aY (0 : Int)))) (tQ)
def qe (p1 : aF) : Option Int := dz p1 aY (0 : Int)
abbrev cO (p1 : aF) : List PV := [.ro ((eL ae).els p1.schemas), .ro (cX.els p1.specs), pi p1.nextField, pi p1.nextSeq, pi p1.nextSnap, pi p1.purges, .ro (aH.els p1.snapshots), .ro (gY.els p1.refs), .ro (eF.els p1.props)]
abbrev Mj (p1 : aF) (x1 : Int) : Fr := [(1, .one (.pv (.rp [(cO p1)] 0 0))), (12, vl (eL ae) p1.schemas), (13, vi (p1.schemas.length : Int)), (14, vi x1)]
theorem AD (p1 : aF) : CT Tryz.prog 13 [.ag [cl (eL ae) p1.schemas, cl cX p1.specs, ci p1.nextField, ci p1.nextSeq, ci p1.nextSnap, ci p1.purges, cl aH p1.snapshots, cl gY p1.refs, cl eF p1.props]] (qe p1) vi :=
  ej 50 [] Tryz.f13 fun r => (uQ (kS Tryz.f13 [1,0] 1) fun K2 hK2 => have hJ2 : ∀ (_ : Unit), tQ = some r → K2.p [] [] := fun _ h => hK2 h (uR .ret xF); (uN (eL ae) p1.schemas (uO (cd Tryz.f13 [1,0,1,0,0]) (kS Tryz.f13 [1,0,1,0] 1) fun R1 b1 => have hL1 : ∀ (k1 : Nat) (x1 : Int), dz p1 k1 x1 = some r → (R1 k1).p (Mj p1 x1) [] := by intro k1; induction k1 with | zero => intro x1 h; exact hH (dz.eq_1 ..) h | succ k1 ih1 => intro x1 h; exact b1 h (uU (dz.eq_2 ..) (uC (uQ (kS Tryz.f13 [1,0,1,0,0,1,1,0] 1) fun K7 hK7 => have hJ1 : ∀ (_ : Unit), pR (dz p1 k1) x1 = some r → K7.p (Mj p1 x1) [] := fun _ h => hK7 h (uJ (ih1 (IntKind.i64.wrap (x1 + 1)))); (uL (eL ae) fun e1 a9 => (uP (ny _) fun r1 _ => (uC (uR .ret (xN (xN (xN xF)))) (uP (kJ aY _ _ _ _ _ _ _ _ _ _) fun r2 _ => (uC (uR .ret (xN (xN (xN xF)))) (uX (eL ae) (uN (eL ae) ((p1.schemas.drop (0 : Int).toNat).take (x1.toNat - (0 : Int).toNat)) (uO (cd Tryz.f13 [1,0,1,0,0,1,1,0,0,1,1,1,1,1,0,0]) (kS Tryz.f13 [1,0,1,0,0,1,1,0,0,1,1,1,1,1,0] 2) fun R2 b2 => have hL2 : ∀ (k2 : Nat) (x2 : Int), gj (dz p1 k1) p1 x1 e1 k2 x2 = some r → (R2 k2).p [(1, .one (.pv (.rp [(cO p1)] 0 0))), (4, vl ae e1), (12, vl (eL ae) p1.schemas), (13, vi (p1.schemas.length : Int)), (14, vi x1), (33, vl (eL ae) ((p1.schemas.drop (0 : Int).toNat).take (x1.toNat - (0 : Int).toNat))), (34, vi (((p1.schemas.drop (0 : Int).toNat).take (x1.toNat - (0 : Int).toNat)).length : Int)), (35, vi x2)] [] := by intro k2; induction k2 with | zero => intro x2 h; exact hH (gj.eq_1 ..) h | succ k2 ih2 => intro x2 h; exact b2 h (uU (gj.eq_2 ..) (uY 36 vb fun y1 => (uC (uL (eL ae) fun e2 a30 => (Oz (w8 _ _) fun r3 _ => (uC (uR .ret (xN (xN (xN (xN xF))))) (uJ (ih2 (IntKind.i64.wrap (x2 + 1))))))) (uR (.exit 2) (xM (uJ (hJ1 ())))))))
 uE (hL2 aY (0 : Int))))))))))) (uR (.exit 0) (xM (uJ (hJ2 ()))))))
 uE (hL1 aY (0 : Int)))))
def nN (p1 : ac) (p2 : Int) : Option Bool := some (p1.id == p2)
theorem AJ (p1 : ac) (p2 : Int) : CT Tryz.prog 82 [.ag [ci p1.id, kE p1.name, cb p1.need, ci p1.type.kind, ci p1.type.scale, cl ae p1.type.fields], .one (.pv (.rp [[pi p2]] 0 0))] (nN p1 p2) vb :=
  ej 8 [] Tryz.f82 fun r => (uR .ret xF)
def eo : Option Int := some (-1 : Int)
def aD (p1 : (List ac)) (p2 : Int) : Nat → Int → Option Int
 | 0, _ => none
 | k1 + 1, x1 => al (decide (x1 < (p1.length : Int))) (aB (at? p1 x1) fun e1 => aB (nN e1 p2) fun r1 => al r1 (some x1) ((aD p1 p2 k1) (IntKind.i64.wrap (x1 + 1)))) (eo)
def bZ (p1 : (List ac)) (p2 : Int) : Option Int := aD p1 p2 aY (0 : Int)
theorem jp (p1 : (List ac)) (p2 : Int) : CT Tryz.prog 81 [vl ae p1, .one (.fn 82 [.pv (.rp [[pi p2]] 0 0)])] (bZ p1 p2) vi :=
  ej 19 [] Tryz.f81 fun r => (uQ (kS Tryz.f81 [1,0] 1) fun K2 hK2 => have hJ1 : ∀ (_ : Unit), eo = some r → K2.p [] [] := fun _ h => hK2 h (uR .ret xF); (uN ae p1 (uO (cd Tryz.f81 [1,0,1,0,0]) (kS Tryz.f81 [1,0,1,0] 1) fun R1 b1 => have hL1 : ∀ (k1 : Nat) (x1 : Int), aD p1 p2 k1 x1 = some r → (R1 k1).p [(0, vl ae p1), (1, .one (.fn 82 [.pv (.rp [[pi p2]] 0 0)])), (7, vi (p1.length : Int)), (8, vi x1)] [] := by intro k1; induction k1 with | zero => intro x1 h; exact hH (aD.eq_1 ..) h | succ k1 ih1 => intro x1 h; exact b1 h (uU (aD.eq_2 ..) (uC (uL ae fun e1 a10 => (uP (AJ _ _) fun r1 _ => (uC (uR .ret (xN (xN xF))) (uJ (ih1 (IntKind.i64.wrap (x1 + 1))))))) (uR (.exit 0) (xM (uJ (hJ1 ()))))))
 uE (hL1 aY (0 : Int)))))
def jP (p1 : (List ac)) (p2 : Int) : Option Int := aB (bZ p1 p2) fun r1 => some r1
theorem qC (p1 : (List ac)) (p2 : Int) : CT Tryz.prog 47 [vl ae p1, vi p2] (jP p1 p2) vi :=
  ej 8 [] Tryz.f47 fun r => (uP (jp _ _) fun r1 _ => (uR .ret xF))
def qO (p1 : bj) (p2 : (List (List ac))) (p3 : (List di)) (p4 p5 p6 p7 : Int) (p8 : (List au)) (p9 : (List j9)) (hI : (List nK)) (p11 : Int) : Option (Bool × Int) := aB (at? p2 p11) fun e1 => aB (jP e1 p1.source) fun r1 => some ((decide (r1 < (0 : Int))), p11)
theorem yU (p1 : bj) (p2 : (List (List ac))) (p3 : (List di)) (p4 p5 p6 p7 : Int) (p8 : (List au)) (p9 : (List j9)) (hI : (List nK)) (p11 : Int) : CM Tryz.prog 46 [.ag [ci p1.source, ci p1.transform.kind, ci p1.transform.param], .one (.pv (.rp [[.ro ((eL ae).els p2), .ro (cX.els p3), pi p4, pi p5, pi p6, pi p7, .ro (aH.els p8), .ro (gY.els p9), .ro (eF.els hI)]] 0 0)), .one (.pt 0 0 0 0)] [.box [ci p11]] (qO p1 p2 p3 p4 p5 p6 p7 p8 p9 hI p11) (fun r => vb r.1) (fun r => [.box [ci r.2]]) :=
  pH 1 14 [] Tryz.f46 fun r => (om 7 (uL (eL ae) fun e1 a3 => (uP (qC _ _) fun r1 _ => (uR .ret qn))))
def dr (z2 : Int) : Option (Int × Int) := some ((-1 : Int), z2)
def aE (p1 : (List bj)) (p2 : (List (List ac))) (p3 : (List di)) (p4 p5 p6 p7 : Int) (p8 : (List au)) (p9 : (List j9)) (hI : (List nK)) : Nat → Int → Int → Option (Int × Int)
 | 0, _, _ => none
 | k1 + 1, z1, x1 => al (decide (x1 < (p1.length : Int))) (aB (at? p1 x1) fun e1 => aB (qO e1 p2 p3 p4 p5 p6 p7 p8 p9 hI z1) fun r1 => al r1.1 (some (x1, r1.2)) ((aE p1 p2 p3 p4 p5 p6 p7 p8 p9 hI k1) r1.2 (IntKind.i64.wrap (x1 + 1)))) (dr z1)
def cg (p1 : (List bj)) (p2 : (List (List ac))) (p3 : (List di)) (p4 p5 p6 p7 : Int) (p8 : (List au)) (p9 : (List j9)) (hI : (List nK)) (p11 : Int) : Option (Int × Int) := aE p1 p2 p3 p4 p5 p6 p7 p8 p9 hI aY p11 (0 : Int)
theorem gE (p1 : (List bj)) (p2 : (List (List ac))) (p3 : (List di)) (p4 p5 p6 p7 : Int) (p8 : (List au)) (p9 : (List j9)) (hI : (List nK)) (p11 : Int) : CM Tryz.prog 83 [vl aL p1, .one (.fn 46 [.pv (.rp [[.ro ((eL ae).els p2), .ro (cX.els p3), pi p4, pi p5, pi p6, pi p7, .ro (aH.els p8), .ro (gY.els p9), .ro (eF.els hI)]] 0 0), .pt 0 0 0 0])] [.box [ci p11]] (cg p1 p2 p3 p4 p5 p6 p7 p8 p9 hI p11) (fun r => vi r.1) (fun r => [.box [ci r.2]]) :=
  pH 1 19 [] Tryz.f83 fun r => (uQ (kS Tryz.f83 [1,0] 1) fun K2 hK2 => have hJ1 : ∀ (z2 : Int), dr z2 = some r → K2.p [] [.box [ci z2]] := fun z2 h => hK2 h (uR .ret qn); (uN aL p1 (uO (cd Tryz.f83 [1,0,1,0,0]) (kS Tryz.f83 [1,0,1,0] 1) fun R1 b1 => have hL1 : ∀ (k1 : Nat) (z1 x1 : Int), aE p1 p2 p3 p4 p5 p6 p7 p8 p9 hI k1 z1 x1 = some r → (R1 k1).p [(0, vl aL p1), (1, .one (.fn 46 [.pv (.rp [[.ro ((eL ae).els p2), .ro (cX.els p3), pi p4, pi p5, pi p6, pi p7, .ro (aH.els p8), .ro (gY.els p9), .ro (eF.els hI)]] 0 0), .pt 0 0 0 0])), (7, vi (p1.length : Int)), (8, vi x1)] [.box [ci z1]] := by intro k1; induction k1 with | zero => intro z1 x1 h; exact hH (aE.eq_1 ..) h | succ k1 ih1 => intro z1 x1 h; exact b1 h (uU (aE.eq_2 ..) (uC (uL aL fun e1 a10 => (xx true [0] (yU _ _ _ _ _ _ _ _ _ _ _) fun r1 _ => (uC (uR .ret (xN (xN qn))) (uJ (ih1 r1.2 (IntKind.i64.wrap (x1 + 1))))))) (uR (.exit 0) (xM (uJ (hJ1 z1))))))
 uE (hL1 aY p11 (0 : Int)))))
def bw (p1 : (List bj)) (p2 : (List (List ac))) (p3 : (List di)) (p4 p5 p6 p7 : Int) (p8 : (List au)) (p9 : (List j9)) (hI : (List nK)) (p11 : Int) : Option (Bool × Int) := aB (cg p1 p2 p3 p4 p5 p6 p7 p8 p9 hI p11) fun r1 => some ((decide ((0 : Int) ≤ r1.1)), r1.2)
theorem gg (p1 : (List bj)) (p2 : (List (List ac))) (p3 : (List di)) (p4 p5 p6 p7 : Int) (p8 : (List au)) (p9 : (List j9)) (hI : (List nK)) (p11 : Int) : CM Tryz.prog 48 [vl aL p1, .one (.fn 46 [.pv (.rp [[.ro ((eL ae).els p2), .ro (cX.els p3), pi p4, pi p5, pi p6, pi p7, .ro (aH.els p8), .ro (gY.els p9), .ro (eF.els hI)]] 0 0), .pt 0 0 0 0])] [.box [ci p11]] (bw p1 p2 p3 p4 p5 p6 p7 p8 p9 hI p11) (fun r => vb r.1) (fun r => [.box [ci r.2]]) :=
  pH 1 9 [] Tryz.f48 fun r => (xx true [0] (gE _ _ _ _ _ _ _ _ _ _ _) fun r1 _ => (uR .ret qn))
def pX (x1 : Bool) : Option Bool := some x1
def pP (p1 : am) : Option Bool := al (p1.kind != 6) (pX (p1.kind != 7)) (pX false)
theorem ul (p1 : am) : CT Tryz.prog 112 [.ag [ci p1.kind, ci p1.scale, cl ae p1.fields]] (pP p1) vb :=
  ej 11 [] Tryz.f112 fun r => (uQ (kS Tryz.f112 [1,0] 1) fun K2 hK2 => have hJ1 : ∀ (x1 : Bool), pX x1 = some r → K2.p [(2, vb x1)] [] := fun x1 h => hK2 h (uR .ret xF); (uC (uJ (hJ1 (p1.kind != 7))) (uJ (hJ1 false))))
def jy (p2 : am) (x6 : Bool) : Option (am × Int) := al x6 (some ((am.mk (2 : Int) (0 : Int) []), (0 : Int))) (some (p2, (0 : Int)))
def fh (p1 : bY) (p2 : am) (x5 : Bool) : Option (am × Int) := al x5 (some ((am.mk (0 : Int) (0 : Int) []), (2 : Int))) (al (p1.kind == 2) (jy p2 true) (jy p2 (decide ((4 : Int) ≤ p1.kind))))
def fj (p1 : bY) (p2 : am) (x4 : Bool) : Option (am × Int) := al x4 (fh p1 p2 x4) (al (decide ((4 : Int) ≤ p1.kind)) (fh p1 p2 (p2.kind != 5)) (fh p1 p2 false))
def gO (p1 : bY) (p2 : am) : Option (am × Int) := aB (pP p2) fun r2 => al (!r2) (fh p1 p2 (!r2)) (al (p1.kind == 3) (al (p2.kind != 2) (al (p2.kind != 3) (fj p1 p2 (p2.kind != 4)) (fj p1 p2 false)) (fj p1 p2 false)) (fj p1 p2 false))
def jv (p1 : bY) (p2 : am) (x3 : Bool) : Option (am × Int) := al x3 (some ((am.mk (0 : Int) (0 : Int) []), (3 : Int))) (gO p1 p2)
def ju (p1 : bY) (p2 : am) (x2 : Bool) : Option (am × Int) := al x2 (al (decide (p1.param < (1 : Int))) (jv p1 p2 true) (jv p1 p2 (decide ((1000000 : Int) < p1.param)))) (al (p1.param != 0) (some ((am.mk (0 : Int) (0 : Int) []), (3 : Int))) (gO p1 p2))
def jz (p1 : bY) (p2 : am) (x1 : Bool) : Option (am × Int) := al x1 (some ((am.mk (0 : Int) (0 : Int) []), (3 : Int))) (al (p1.kind == 2) (ju p1 p2 true) (ju p1 p2 (p1.kind == 3)))
def fo (p1 : bY) (p2 : am) : Option (am × Int) := aB (fc p2) fun r1 => al (r1 != 0) (some ((am.mk (0 : Int) (0 : Int) []), r1)) (al (decide (p1.kind < (0 : Int))) (jz p1 p2 true) (jz p1 p2 (decide ((7 : Int) < p1.kind))))
abbrev vv : List CV := [ci (0 : Int), ci (0 : Int), .pv (.s (.slice none 0 0))]
theorem pC (p1 : bY) (p2 : am) : CT Tryz.prog 70 [.ag [ci p1.kind, ci p1.param], .ag [ci p2.kind, ci p2.scale, cl ae p2.fields]] (fo p1 p2) (fun r => .tp [.ag [ci r.1.kind, ci r.1.scale, cl ae r.1.fields], vi r.2]) :=
  ej 85 [4] Tryz.f70 fun r => (uP (kv _) fun r1 _ => (uC (uR .ret xF) (uQ (kS Tryz.f70 [1,1,0,0] 2) fun K9 hK9 => have hJ1 : ∀ (x1 : Bool), jz p1 p2 x1 = some r → K9.p [(2, .one (.pv (.rp [[pi p1.kind, pi p1.param]] 0 0))), (3, .one (.pv (.rp [(fQ p2)] 0 0))), (4, .one (.pt 0 0 0 0)), (20, vb x1)] [.box vv] := fun x1 h => hK9 h (uC (uR .ret xF) (uQ (kS Tryz.f70 [1,1,1,0] 1) fun K13 hK13 => have hJ4 : ∀ (_ : Unit), gO p1 p2 = some r → K13.p [(2, .one (.pv (.rp [[pi p1.kind, pi p1.param]] 0 0))), (3, .one (.pv (.rp [(fQ p2)] 0 0))), (4, .one (.pt 0 0 0 0))] [.box vv] := fun _ h => hK13 h (uQ (kS Tryz.f70 [1,1,1,1,0,0,0] 3) fun K25 hK25 => have hJ6 : ∀ (x5 : Bool), fh p1 p2 x5 = some r → K25.p [(2, .one (.pv (.rp [[pi p1.kind, pi p1.param]] 0 0))), (3, .one (.pv (.rp [(fQ p2)] 0 0))), (4, .one (.pt 0 0 0 0)), (43, vb x5)] [.box vv] := fun x5 h => hK25 h (uC (uR .ret xF) (uQ (kS Tryz.f70 [1,1,1,1,0,0,1,1,0] 3) fun K37 hK37 => have hJ7 : ∀ (x6 : Bool), jy p2 x6 = some r → K37.p [(3, .one (.pv (.rp [(fQ p2)] 0 0))), (4, .one (.pt 0 0 0 0)), (74, vb x6)] [.box vv] := fun x6 h => hK37 h (uC (uR .ret xF) (uR .ret xF)); (uC (uJ (hJ7 true)) (uJ (hJ7 (decide ((4 : Int) ≤ p1.kind))))))); (uP (ul _) fun r2 _ => (uC (uJ (hJ6 (!r2))) (uQ (kS Tryz.f70 [1,1,1,1,0,0,0,1,1,0] 1) fun K29 hK29 => have hJ5 : ∀ (x4 : Bool), fj p1 p2 x4 = some r → K29.p [(2, .one (.pv (.rp [[pi p1.kind, pi p1.param]] 0 0))), (3, .one (.pv (.rp [(fQ p2)] 0 0))), (4, .one (.pt 0 0 0 0)), (43, vb x4)] [.box vv] := fun x4 h => hK29 h (uC (uJ (hJ6 x4)) (uC (uJ (hJ6 (p2.kind != 5))) (uJ (hJ6 false)))); (uC (uC (uC (uJ (hJ5 (p2.kind != 4))) (uJ (hJ5 false))) (uJ (hJ5 false))) (uJ (hJ5 false))))))); (uQ (kS Tryz.f70 [1,1,1,0,0] 1) fun K14 hK14 => have hJ2 : ∀ (x2 : Bool), ju p1 p2 x2 = some r → K14.p [(2, .one (.pv (.rp [[pi p1.kind, pi p1.param]] 0 0))), (3, .one (.pv (.rp [(fQ p2)] 0 0))), (4, .one (.pt 0 0 0 0)), (29, vb x2)] [.box vv] := fun x2 h => hK14 h (uC (uQ (kS Tryz.f70 [1,1,1,0,1,0,0] 1) fun K17 hK17 => have hJ3 : ∀ (x3 : Bool), jv p1 p2 x3 = some r → K17.p [(2, .one (.pv (.rp [[pi p1.kind, pi p1.param]] 0 0))), (3, .one (.pv (.rp [(fQ p2)] 0 0))), (4, .one (.pt 0 0 0 0)), (37, vb x3)] [.box vv] := fun x3 h => hK17 h (uC (uR .ret (xN xF)) (uJ (hJ4 ()))); (uC (uJ (hJ3 true)) (uJ (hJ3 (decide ((1000000 : Int) < p1.param)))))) (uC (uR .ret (xN xF)) (uJ (hJ4 ())))); (uC (uJ (hJ2 true)) (uJ (hJ2 (p1.kind == 3))))))); (uC (uJ (hJ1 true)) (uJ (hJ1 (decide ((7 : Int) < p1.kind))))))))
def gC : Option Int := some (-1 : Int)
def bi (p1 : (List bj)) (p2 : bj) : Nat → Int → Option Int
 | 0, _ => none
 | k1 + 1, x1 => al (decide (x1 < (p1.length : Int))) (aB (at? p1 x1) fun e1 => aB (some ((p2.source == e1.source) && (((p2.transform.kind == e1.transform.kind) && ((p2.transform.param == e1.transform.param) && true)) && true))) fun y1 => al y1 (some x1) ((bi p1 p2 k1) (IntKind.i64.wrap (x1 + 1)))) (gC)
def eH (p1 : (List bj)) (p2 : bj) : Option Int := bi p1 p2 aY (0 : Int)
theorem lH (p1 : (List bj)) (p2 : bj) : CT Tryz.prog 113 [vl aL p1, .ag [ci p2.source, ci p2.transform.kind, ci p2.transform.param]] (eH p1 p2) vi :=
  ej 19 [] Tryz.f113 fun r => (uQ (kS Tryz.f113 [1,0] 1) fun K2 hK2 => have hJ1 : ∀ (_ : Unit), gC = some r → K2.p [] [] := fun _ h => hK2 h (uR .ret xF); (uN aL p1 (uO (cd Tryz.f113 [1,0,1,0,0]) (kS Tryz.f113 [1,0,1,0] 1) fun R1 b1 => have hL1 : ∀ (k1 : Nat) (x1 : Int), bi p1 p2 k1 x1 = some r → (R1 k1).p [(0, vl aL p1), (3, .one (.pv (.rp [[pi p2.source, pi p2.transform.kind, pi p2.transform.param]] 0 0))), (7, vi (p1.length : Int)), (8, vi x1)] [] := by intro k1; induction k1 with | zero => intro x1 h; exact hH (bi.eq_1 ..) h | succ k1 ih1 => intro x1 h; exact b1 h (uU (bi.eq_2 ..) (uC (om 5 (uL aL fun e1 a10 => (uY 16 vb fun y1 => (uC (uR .ret (xN (xN xF))) (uJ (ih1 (IntKind.i64.wrap (x1 + 1)))))))) (uR (.exit 0) (xM (uJ (hJ1 ()))))))
 uE (hL1 aY (0 : Int)))))
def cN (p1 : (List bj)) (p2 : bj) : Option Bool := aB (eH p1 p2) fun r1 => some (decide ((0 : Int) ≤ r1))
theorem kM (p1 : (List bj)) (p2 : bj) : CT Tryz.prog 71 [vl aL p1, .ag [ci p2.source, ci p2.transform.kind, ci p2.transform.param]] (cN p1 p2) vb :=
  ej 9 [] Tryz.f71 fun r => (uP (lH _ _) fun r1 _ => (uR .ret xF))
def wv : Option Int := some (0 : Int)
def iN (p1 : di) (p2 : (List ac)) : Nat → Int → Option Int
 | 0, _ => none
 | k1 + 1, x1 => al (decide (x1 < (p1.fields.length : Int))) (aB (at? p1.fields x1) fun e1 => aB (jP p2 e1.source) fun r1 => al (decide (r1 < (0 : Int))) (some (9 : Int)) (aB (at? p2 r1) fun e2 => aB (fo e1.transform e2.type) fun r2 => al (r2.2 != 0) (some r2.2) (nC (0 ≤ (0 : Int) ∧ (0 : Int) ≤ x1 ∧ x1 ≤ (p1.fields.length : Int)) <| aB (cN ((p1.fields.drop (0 : Int).toNat).take (x1.toNat - (0 : Int).toNat)) e1) fun r3 => al r3 (some (5 : Int)) ((iN p1 p2 k1) (IntKind.i64.wrap (x1 + 1)))))) (wv)
def ox (p1 : di) (p2 : (List ac)) : Option Int := al (decide ((4 : Int) < (p1.fields.length : Int))) (some (7 : Int)) (iN p1 p2 aY (0 : Int))
theorem B2 (p1 : di) (p2 : (List ac)) : CT Tryz.prog 33 [.ag [cl aL p1.fields], vl ae p2] (ox p1 p2) vi :=
  ej 49 [6, 8] Tryz.f33 fun r => (uN aL p1.fields (uC (uR .ret xF) (uQ (kS Tryz.f33 [1,1,0] 1) fun K6 hK6 => have hJ1 : ∀ (_ : Unit), wv = some r → K6.p [] [] := fun _ h => hK6 h (uR .ret xF); (uN aL p1.fields (uO (cd Tryz.f33 [1,1,0,1,0,0]) (kS Tryz.f33 [1,1,0,1,0] 1) fun R1 b1 => have hL1 : ∀ (k1 : Nat) (x1 : Int), iN p1 p2 k1 x1 = some r → (R1 k1).p [(1, vl ae p2), (2, .one (.pv (.rp [[.ro (aL.els p1.fields)]] 0 0))), (15, vl aL p1.fields), (16, vi (p1.fields.length : Int)), (17, vi x1)] [] := by intro k1; induction k1 with | zero => intro x1 h; exact hH (iN.eq_1 ..) h | succ k1 ih1 => intro x1 h; exact b1 h (uU (iN.eq_2 ..) (uC (uL aL fun e1 a13 => (uP (qC _ _) fun r1 _ => (uC (uR .ret (xN (xN xF))) (Ew 13 1 [1,2] (uL ae fun e2 a22 => (uP (pC _ _) fun r2 _ => (uC (uR .ret (xN (xN xF))) (om 5 (uX aL (uP (kM _ _) fun r3 _ => (uC (uR .ret (xN (xN xF))) (uJ (ih1 (IntKind.i64.wrap (x1 + 1))))))))))))))) (uR (.exit 0) (xM (uJ (hJ1 ()))))))
 uE (hL1 aY (0 : Int)))))))
def lh (rec1 : Int → Option Int) (p1 : aF) (x1 : Int) (e1 : di) (z3 : Int) (x3 : Bool) : Option Int := al x3 (some (9 : Int)) (aB (at? p1.schemas z3) fun e2 => aB (ox e1 e2) fun r2 => al (r2 != 0) (some r2) (rec1 (IntKind.i64.wrap (x1 + 1))))
def mC (rec1 : Int → Option Int) (p1 : aF) (x1 : Int) (e1 : di) (z3 : Int) : Option Int := al (decide (z3 < (0 : Int))) (lh rec1 p1 x1 e1 z3 true) (al (x1 == (IntKind.i64.wrap ((p1.specs.length : Int) - (1 : Int)))) (aB (some (decide (z3 < (IntKind.i64.wrap ((p1.schemas.length : Int) - (1 : Int)))))) fun y1 => lh rec1 p1 x1 e1 z3 y1) (lh rec1 p1 x1 e1 z3 false))
def oS (rec1 rec2 : Int → Option Int) (p1 : aF) (x1 : Int) (e1 : di) (z2 : Int) (x2 : Bool) : Option Int := al x2 (rec2 (IntKind.i64.wrap (z2 - 1))) (mC rec1 p1 x1 e1 z2)
def eV (rec1 : Int → Option Int) (p1 : aF) (x1 : Int) (e1 : di) : Nat → Int → Option Int
 | 0, _ => none
 | k2 + 1, z1 => al (decide ((0 : Int) ≤ z1)) (aB (bw e1.fields p1.schemas p1.specs p1.nextField p1.nextSeq p1.nextSnap p1.purges p1.snapshots p1.refs p1.props z1) fun r1 => oS rec1 (eV rec1 p1 x1 e1 k2) p1 x1 e1 r1.2 r1.1) (oS rec1 (eV rec1 p1 x1 e1 k2) p1 x1 e1 z1 false)
def vF : Option Int := some (0 : Int)
def dh (p1 : aF) : Nat → Int → Option Int
 | 0, _ => none
 | k1 + 1, x1 => al (decide (x1 < (p1.specs.length : Int))) (aB (at? p1.specs x1) fun e1 => eV (dh p1 k1) p1 x1 e1 aY (IntKind.i64.wrap ((p1.schemas.length : Int) - (1 : Int)))) (vF)
def sI (p1 : aF) : Option Int := dh p1 aY (0 : Int)
theorem BX (p1 : aF) : CT Tryz.prog 14 [.ag [cl (eL ae) p1.schemas, cl cX p1.specs, ci p1.nextField, ci p1.nextSeq, ci p1.nextSnap, ci p1.purges, cl aH p1.snapshots, cl gY p1.refs, cl eF p1.props]] (sI p1) vi :=
  ej 60 [4, 5] Tryz.f14 fun r => (uQ (kS Tryz.f14 [1,0] 1) fun K2 hK2 => have hJ4 : ∀ (_ : Unit), vF = some r → K2.p [] [] := fun _ h => hK2 h (uR .ret xF); (uN cX p1.specs (uO (cd Tryz.f14 [1,0,1,0,0]) (kS Tryz.f14 [1,0,1,0] 1) fun R1 b1 => have hL1 : ∀ (k1 : Nat) (x1 : Int), dh p1 k1 x1 = some r → (R1 k1).p [(1, .one (.pv (.rp [(cO p1)] 0 0))), (9, vl cX p1.specs), (10, vi (p1.specs.length : Int)), (11, vi x1)] [] := by intro k1; induction k1 with | zero => intro x1 h; exact hH (dh.eq_1 ..) h | succ k1 ih1 => intro x1 h; exact b1 h (uU (dh.eq_2 ..) (uC (uL cX fun e1 a9 => (uN (eL ae) p1.schemas (uQ (kS Tryz.f14 [1,0,1,0,0,1,1,0,0,1,1,1,0] 3) fun K12 hK12 => have hJ2 : ∀ (z3 : Int), mC (dh p1 k1) p1 x1 e1 z3 = some r → K12.p [(1, .one (.pv (.rp [(cO p1)] 0 0))), (3, vi x1), (4, .one (.pt 0 0 0 0)), (5, .one (.pt 1 0 0 0)), (9, vl cX p1.specs), (10, vi (p1.specs.length : Int)), (11, vi x1)] [.box [cl aL e1.fields], .box [ci z3]] := fun z3 h => hK12 h (uQ (kS Tryz.f14 [1,0,1,0,0,1,1,0,0,1,1,1,1,0,0] 4) fun K19 hK19 => have hJ3 : ∀ (x3 : Bool), lh (dh p1 k1) p1 x1 e1 z3 x3 = some r → K19.p [(1, .one (.pv (.rp [(cO p1)] 0 0))), (4, .one (.pt 0 0 0 0)), (5, .one (.pt 1 0 0 0)), (9, vl cX p1.specs), (10, vi (p1.specs.length : Int)), (11, vi x1), (48, vb x3)] [.box [cl aL e1.fields], .box [ci z3]] := fun x3 h => hK19 h (uC (uR .ret (xN (xN xF))) (om 6 (uL (eL ae) fun e2 a26 => (uP (B2 _ _) fun r2 _ => (uC (uR .ret (xN (xN xF))) (uJ (ih1 (IntKind.i64.wrap (x1 + 1))))))))); (uC (uJ (hJ3 true)) (uN cX p1.specs (uC (uN (eL ae) p1.schemas (uY 46 vb fun y1 => (uJ (hJ3 y1)))) (uJ (hJ3 false)))))); (uO (cd Tryz.f14 [1,0,1,0,0,1,1,0,0,1,1,1,0,0,0]) (kS Tryz.f14 [1,0,1,0,0,1,1,0,0,1,1,1,0,0] 1) fun R2 b2 => have hL2 : ∀ (k2 : Nat) (z1 : Int), eV (dh p1 k1) p1 x1 e1 k2 z1 = some r → (R2 k2).p [(1, .one (.pv (.rp [(cO p1)] 0 0))), (3, vi x1), (4, .one (.pt 0 0 0 0)), (5, .one (.pt 1 0 0 0)), (6, .one (.fn 46 [.pv (.rp [(cO p1)] 0 0), .pt 1 0 0 0])), (9, vl cX p1.specs), (10, vi (p1.specs.length : Int)), (11, vi x1)] [.box [cl aL e1.fields], .box [ci z1]] := by intro k2; induction k2 with | zero => intro z1 h; exact hH (eV.eq_1 ..) h | succ k2 ih2 => intro z1 h; exact b2 h (uU (eV.eq_2 ..) (uQ (kS Tryz.f14 [1,0,1,0,0,1,1,0,0,1,1,1,0,0,0,0,0] 2) fun K14 hK14 => have hJ1 : ∀ (z2 : Int) (x2 : Bool), oS (dh p1 k1) (eV (dh p1 k1) p1 x1 e1 k2) p1 x1 e1 z2 x2 = some r → K14.p [(1, .one (.pv (.rp [(cO p1)] 0 0))), (3, vi x1), (4, .one (.pt 0 0 0 0)), (5, .one (.pt 1 0 0 0)), (6, .one (.fn 46 [.pv (.rp [(cO p1)] 0 0), .pt 1 0 0 0])), (9, vl cX p1.specs), (10, vi (p1.specs.length : Int)), (11, vi x1), (28, vb x2)] [.box [cl aL e1.fields], .box [ci z2]] := fun z2 x2 h => hK14 h (uC (uJ (ih2 (IntKind.i64.wrap (z2 - 1)))) (uR (.exit 2) (xM (uJ (hJ2 z2))))); (uC (xx true [1] (gg _ _ _ _ _ _ _ _ _ _ _) fun r1 _ => (uJ (hJ1 r1.2 r1.1))) (uJ (hJ1 z1 false)))))
 uE (hL2 aY (IntKind.i64.wrap ((p1.schemas.length : Int) - (1 : Int)))))))) (uR (.exit 0) (xM (uJ (hJ4 ()))))))
 uE (hL1 aY (0 : Int)))))
def hU (x2 : Bool) : Option Bool := al x2 (some true) (some false)
def hJ (p1 : Int) (x1 : Bool) : Option Bool := al x1 (some true) (al (decide ((57343 : Int) < p1)) (hU (decide (p1 ≤ (1114111 : Int)))) (hU false))
def jA (p1 : Int) : Option Bool := al (decide ((0 : Int) ≤ p1)) (hJ p1 (decide (p1 < (55296 : Int)))) (hJ p1 false)
theorem s8 (p1 : Int) : CT Tryz.prog 186 [vk .i32 p1] (jA p1) vb :=
  ej 17 [] Tryz.f186 fun r => (uQ (kS Tryz.f186 [1,0,0,0] 3) fun K3 hK3 => have hJ1 : ∀ (x1 : Bool), hJ p1 x1 = some r → K3.p [(0, vk .i32 p1), (3, vb x1)] [] := fun x1 h => hK3 h (uC (uR .ret xF) (uQ (kS Tryz.f186 [1,0,0,1,1,0] 3) fun K7 hK7 => have hJ2 : ∀ (x2 : Bool), hU x2 = some r → K7.p [(10, vb x2)] [] := fun x2 h => hK7 h (uC (uR .ret xF) (uR .ret xF)); (uC (uJ (hJ2 (decide (p1 ≤ (1114111 : Int))))) (uJ (hJ2 false))))); (uC (uJ (hJ1 (decide (p1 < (55296 : Int))))) (uJ (hJ1 false))))
def qo : Option Int := some (-1 : Int)
def gq (p1 : ByteArray) : Nat → Nat → Option Int
 | 0, _ => none
 | k1 + 1, z1 => al (decide (z1 < p1.size)) (al (Int.ofNat (Utf8.decode p1 z1).1 == 65533) (some (Int.ofNat z1)) ((gq p1 k1) (z1 + (Utf8.decode p1 z1).2))) (qo)
def qr (p2 x2 : Int) : Option Int := aB (some (IntKind.i64.wrap (x2 - (IntKind.i64.wrap (((Utf8.encode p2).size : Int) - (1 : Int)))))) fun y9 => some y9
def iQ (p1 : ByteArray) (p2 x2 : Int) : Nat → Int → Option Int
 | 0, _ => none
 | k3 + 1, x3 => al (decide (x3 < ((Utf8.encode p2).size : Int))) (nC (0 ≤ (IntKind.i64.wrap (x2 - x3)) ∧ (IntKind.i64.wrap (x2 - x3)) < (p1.size : Int)) <| aB (some ((p1.data.toList.getD (IntKind.i64.wrap (x2 - x3)).toNat 0).toNat : Int)) fun y7 => aB (some (IntKind.i64.wrap ((IntKind.i64.wrap (((Utf8.encode p2).size : Int) - (1 : Int))) - x3))) fun y8 => nC (0 ≤ y8 ∧ y8 < ((Utf8.encode p2).size : Int)) <| al (y7 != (((Utf8.encode p2).data.toList.getD y8.toNat 0).toNat : Int)) (none) ((iQ p1 p2 x2 k3) (IntKind.i64.wrap (x3 + 1)))) (qr p2 x2)
def mB (p1 : ByteArray) (p2 x2 : Int) : Option Int := iQ p1 p2 x2 aY (1 : Int)
def qy : Option Int := some (-1 : Int)
def fa (p1 : ByteArray) (p2 : Int) : Nat → Option Int
 | 0 => none
 | k2 + 1 => aB (some (decide ((IntKind.i64.wrap (((Utf8.encode p2).size : Int) - (1 : Int))) < (p1.size : Int)))) fun y1 => al y1 (nC (0 ≤ (IntKind.i64.wrap (((Utf8.encode p2).size : Int) - (1 : Int))) ∧ (IntKind.i64.wrap (((Utf8.encode p2).size : Int) - (1 : Int))) < (p1.size : Int)) <| aB (some ((p1.data.toList.getD (IntKind.i64.wrap (((Utf8.encode p2).size : Int) - (1 : Int))).toNat 0).toNat : Int)) fun y2 => nC (0 ≤ (IntKind.i64.wrap (((Utf8.encode p2).size : Int) - (1 : Int))) ∧ (IntKind.i64.wrap (((Utf8.encode p2).size : Int) - (1 : Int))) < ((Utf8.encode p2).size : Int)) <| aB (some (((Utf8.encode p2).data.toList.getD (IntKind.i64.wrap (((Utf8.encode p2).size : Int) - (1 : Int))).toNat 0).toNat : Int)) fun y3 => al (y2 != y3) (aB (some (IntKind.i64.wrap ((IntKind.i64.wrap (((Utf8.encode p2).size : Int) - (1 : Int))) + (1 : Int)))) fun y4 => nC (0 ≤ y4 ∧ y4 ≤ (p1.size : Int) ∧ (p1.size : Int) ≤ (p1.size : Int)) <| nC (0 ≤ (IntKind.i64.wrap (((Utf8.encode p2).size : Int) - (1 : Int))) ∧ (IntKind.i64.wrap (((Utf8.encode p2).size : Int) - (1 : Int))) < ((Utf8.encode p2).size : Int)) <| aB (some (((Utf8.encode p2).data.toList.getD (IntKind.i64.wrap (((Utf8.encode p2).size : Int) - (1 : Int))).toNat 0).toNat : Int)) fun y5 => aB (strings_IndexByte (p1.extract y4.toNat (p1.size : Int).toNat) y5) fun r3 => al (decide (r3 < (0 : Int))) (some (-1 : Int)) (aB (some (IntKind.i64.wrap ((IntKind.i64.wrap (((Utf8.encode p2).size : Int) - (1 : Int))) + (IntKind.i64.wrap (r3 + 1))))) fun y6 => mB p1 p2 y6)) (mB p1 p2 (IntKind.i64.wrap (((Utf8.encode p2).size : Int) - (1 : Int))))) (qy)
def iW (p1 : ByteArray) (p2 : Int) (x1 : Bool) : Option Int := al x1 (aB (strings_IndexByte p1 (IntKind.u8.wrap p2)) fun r1 => some r1) (al (p2 == 65533) (gq p1 aY 0) (aB (jA p2) fun r2 => al (!r2) (some (-1 : Int)) (fa p1 p2 aY)))
def d9 (p1 : ByteArray) (p2 : Int) : Option Int := al (decide ((0 : Int) ≤ p2)) (iW p1 p2 (decide (p2 < (128 : Int)))) (iW p1 p2 false)
theorem kQ (p1 : ByteArray) (p2 : Int) : CT Tryz.prog 160 [vs p1, vk .i32 p2] (d9 p1 p2) vi :=
  ej 187 [] Tryz.f160 fun r => (uQ (kS Tryz.f160 [1,0,0] 2) fun K2 hK2 => have hJ1 : ∀ (x1 : Bool), iW p1 p2 x1 = some r → K2.p [(0, vs p1), (1, vk .i32 p2), (160, vb x1)] [] := fun x1 h => hK2 h (uC (uP (qV _ _) fun r1 _ => (uR .ret xF)) (uC (uQ (kS Tryz.f160 [1,0,1,1,1,0,0] 2) fun K9 hK9 => have hJ2 : ∀ (_ : Unit), qo = some r → K9.p [] [] := fun _ h => hK9 h (uR .ret xF); (P8 p1 (uO (cd Tryz.f160 [1,0,1,1,1,0,0,1,0,0]) (kS Tryz.f160 [1,0,1,1,1,0,0,1,0] 1) fun R1 b1 => have hL1 : ∀ (k1 z1 : Nat), gq p1 k1 z1 = some r → (R1 k1).p [(175, .one (.pt 0 0 0 0))] [.raw (.stringIter p1 z1)] := by intro k1; induction k1 with | zero => intro z1 h; exact hH (gq.eq_1 ..) h | succ k1 ih1 => intro z1 h; exact b1 h (uU (gq.eq_2 ..) (Qm 0 (fun b12 => (uT (uC (uR .ret (xN (xN xF))) (uJ (ih1 (z1 + (Utf8.decode p1 z1).2)))))) (fun b12 => (uF (uR (.exit 9) (xM (uJ (hJ2 ()))))))))
 uE (hL1 aY 0)))) (uP (s8 _) fun r2 _ => (uC (uR .ret xF) (uQ (kS Tryz.f160 [1,0,1,1,1,1,1,1,0,1,1,1,1,0] 3) fun K28 hK28 => have hJ5 : ∀ (_ : Unit), qy = some r → K28.p [] [] := fun _ h => hK28 h (uR .ret xF); (uO (cd Tryz.f160 [1,0,1,1,1,1,1,1,0,1,1,1,1,0,0,0]) (kS Tryz.f160 [1,0,1,1,1,1,1,1,0,1,1,1,1,0,0] 1) fun R2 b2 => have hL2 : ∀ (k2 : Nat) (_ : Unit), fa p1 p2 k2 = some r → (R2 k2).p [(0, vs p1), (7, vs (Utf8.encode p2)), (8, vi (IntKind.i64.wrap (((Utf8.encode p2).size : Int) - (1 : Int)))), (9, vi (IntKind.i64.wrap (((Utf8.encode p2).size : Int) - (1 : Int))))] [] := by intro k2; induction k2 with | zero => intro _ h; exact hH (fa.eq_1 ..) h | succ k2 ih2 => intro _ h; exact b2 h (uU (fa.eq_2 ..) (uY 26 vb fun y1 => (uC (uQ (kS Tryz.f160 [1,0,1,1,1,1,1,1,0,1,1,1,1,0,0,0,1,0,0,0] 3) fun K33 hK33 => have hJ3 : ∀ (x2 : Int), mB p1 p2 x2 = some r → K33.p [(0, vs p1), (7, vs (Utf8.encode p2)), (8, vi (IntKind.i64.wrap (((Utf8.encode p2).size : Int) - (1 : Int)))), (9, vi x2)] [] := fun x2 h => hK33 h (uQ (kS Tryz.f160 [1,0,1,1,1,1,1,1,0,1,1,1,1,0,0,0,1,0,0,1,0] 3) fun K51 hK51 => have hJ4 : ∀ (_ : Unit), qr p2 x2 = some r → K51.p [(8, vi (IntKind.i64.wrap (((Utf8.encode p2).size : Int) - (1 : Int)))), (9, vi x2)] [] := fun _ h => hK51 h (uY 67 vi fun y9 => (uR .ret (xN (xN xF)))); (uO (cd Tryz.f160 [1,0,1,1,1,1,1,1,0,1,1,1,1,0,0,0,1,0,0,1,0,1,0,0]) (kS Tryz.f160 [1,0,1,1,1,1,1,1,0,1,1,1,1,0,0,0,1,0,0,1,0,1,0] 1) fun R3 b3 => have hL3 : ∀ (k3 : Nat) (x3 : Int), iQ p1 p2 x2 k3 x3 = some r → (R3 k3).p [(0, vs p1), (7, vs (Utf8.encode p2)), (8, vi (IntKind.i64.wrap (((Utf8.encode p2).size : Int) - (1 : Int)))), (9, vi x2), (12, vi x3)] [] := by intro k3; induction k3 with | zero => intro x3 h; exact hH (iQ.eq_1 ..) h | succ k3 ih3 => intro x3 h; exact b3 h (uU (iQ.eq_2 ..) (uC (om 10 (Ql 58 (vk .u8) fun y7 => (uY 62 vi fun y8 => (uG (uC RJ (uJ (ih3 (IntKind.i64.wrap (x3 + 1))))))))) (uR (.exit 3) (xM (uJ (hJ4 ()))))))
 uE (hL3 aY (1 : Int)))); (om 6 (Ql 29 (vk .u8) fun y2 => (Ql 32 (vk .u8) fun y3 => (uC (om 7 (uY 36 vi fun y4 => (uG (Ql 40 (vk .u8) fun y5 => (uP (qV _ _) fun r3 _ => (uC (uR .ret (xN (xN (xN xF)))) (uY 47 vi fun y6 => (uJ (hJ3 y6))))))))) (uJ (hJ3 (IntKind.i64.wrap (((Utf8.encode p2).size : Int) - (1 : Int)))))))))) (uR (.exit 1) (xM (uJ (hJ5 ())))))))
 uE (hL2 aY ()))))))); (uC (uJ (hJ1 (decide (p2 < (128 : Int))))) (uJ (hJ1 false))))
def dl (x1 : Bool) : Option Bool := some x1
def lE (p1 : Int) : Option Bool := al (decide (p1 < (97 : Int))) (al (decide (p1 < (48 : Int))) (aB (d9 (ByteArray.mk #[95, 45, 46, 47]) p1) fun r1 => dl (decide (r1 < (0 : Int)))) (al (decide ((57 : Int) < p1)) (aB (d9 (ByteArray.mk #[95, 45, 46, 47]) p1) fun r2 => dl (decide (r2 < (0 : Int)))) (dl false))) (al (decide ((122 : Int) < p1)) (al (decide (p1 < (48 : Int))) (aB (d9 (ByteArray.mk #[95, 45, 46, 47]) p1) fun r3 => dl (decide (r3 < (0 : Int)))) (al (decide ((57 : Int) < p1)) (aB (d9 (ByteArray.mk #[95, 45, 46, 47]) p1) fun r4 => dl (decide (r4 < (0 : Int)))) (dl false))) (dl false))
theorem vT (p1 : Int) : CT Tryz.prog 159 [vk .i32 p1] (lE p1) vb :=
  ej 22 [] Tryz.f159 fun r => (uQ (kS Tryz.f159 [1,0] 1) fun K2 hK2 => have hJ1 : ∀ (x1 : Bool), dl x1 = some r → K2.p [(2, vb x1)] [] := fun x1 h => hK2 h (uR .ret xF); (uC (uC (uP (kQ _ _) fun r1 _ => (uJ (hJ1 (decide (r1 < (0 : Int)))))) (uC (uP (kQ _ _) fun r2 _ => (uJ (hJ1 (decide (r2 < (0 : Int)))))) (uJ (hJ1 false)))) (uC (uC (uP (kQ _ _) fun r3 _ => (uJ (hJ1 (decide (r3 < (0 : Int)))))) (uC (uP (kQ _ _) fun r4 _ => (uJ (hJ1 (decide (r4 < (0 : Int)))))) (uJ (hJ1 false)))) (uJ (hJ1 false)))))
def gN : Option Int := some (-1 : Int)
def bu (p1 : ByteArray) (p2 : Bool) : Nat → Nat → Option Int
 | 0, _ => none
 | k1 + 1, z1 => al (decide (z1 < p1.size)) (aB (lE (Int.ofNat (Utf8.decode p1 z1).1)) fun r1 => al (r1 == p2) (some (Int.ofNat z1)) ((bu p1 p2 k1) (z1 + (Utf8.decode p1 z1).2))) (gN)
def eO (p1 : ByteArray) (p2 : Bool) : Option Int := bu p1 p2 aY 0
theorem lT (p1 : ByteArray) (p2 : Bool) : CT Tryz.prog 173 [vs p1, .one (.pv (.fn 159 [])), vb p2] (eO p1 p2) vi :=
  ej 21 [] Tryz.f173 fun r => (uQ (kS Tryz.f173 [1,0] 1) fun K2 hK2 => have hJ1 : ∀ (_ : Unit), gN = some r → K2.p [] [] := fun _ h => hK2 h (uR .ret xF); (P8 p1 (uO (cd Tryz.f173 [1,0,1,0,0]) (kS Tryz.f173 [1,0,1,0] 1) fun R1 b1 => have hL1 : ∀ (k1 z1 : Nat), bu p1 p2 k1 z1 = some r → (R1 k1).p [(1, .one (.pv (.fn 159 []))), (2, vb p2), (10, .one (.pt 0 0 0 0))] [.raw (.stringIter p1 z1)] := by intro k1; induction k1 with | zero => intro z1 h; exact hH (bu.eq_1 ..) h | succ k1 ih1 => intro z1 h; exact b1 h (uU (bu.eq_2 ..) (Qm 0 (fun b5 => (uT (uP (vT _) fun r1 _ => (uC (uR .ret (xN (xN xF))) (uJ (ih1 (z1 + (Utf8.decode p1 z1).2))))))) (fun b5 => (uF (uR (.exit 0) (xM (uJ (hJ1 ()))))))))
 uE (hL1 aY 0))))
def eP (p1 : ByteArray) : Option Int := aB (eO p1 true) fun r1 => some r1
theorem lU (p1 : ByteArray) : CT Tryz.prog 140 [vs p1, .one (.pv (.fn 159 []))] (eP p1) vi :=
  ej 8 [] Tryz.f140 fun r => (uP (lT _ _) fun r1 _ => (uR .ret xF))
def eh (p1 : ByteArray) : Option Bool := aB (eP p1) fun r1 => some (decide ((0 : Int) ≤ r1))
theorem lr (p1 : ByteArray) : CT Tryz.prog 95 [vs p1, .one (.pv (.fn 159 []))] (eh p1) vb :=
  ej 9 [] Tryz.f95 fun r => (uP (lU _) fun r1 _ => (uR .ret xF))
def kR (p1 : ByteArray) (x1 : Bool) : Option Bool := al x1 (some false) (aB (eh p1) fun r1 => some (!r1))
def nn (p1 : ByteArray) : Option Bool := al (decide ((p1.size : Int) < (1 : Int))) (kR p1 true) (kR p1 (decide ((64 : Int) < (p1.size : Int))))
theorem xQ (p1 : ByteArray) : CT Tryz.prog 122 [vs p1] (nn p1) vb :=
  ej 14 [] Tryz.f122 fun r => (uQ (kS Tryz.f122 [1,0,0] 2) fun K3 hK3 => have hJ1 : ∀ (x1 : Bool), kR p1 x1 = some r → K3.p [(0, vs p1), (10, vb x1)] [] := fun x1 h => hK3 h (uC (uR .ret xF) (uP (lr _) fun r1 _ => (uR .ret xF))); (uC (uJ (hJ1 true)) (uJ (hJ1 (decide ((64 : Int) < (p1.size : Int)))))))
def uB (p1 : bj) (p2 : (List ac)) : Option (Bool × (List ac)) := aB (jP p2 p1.source) fun r1 => some ((decide (r1 < (0 : Int))), p2)
theorem BK (p1 : bj) (p2 : (List ac)) : CM Tryz.prog 123 [.ag [ci p1.source, ci p1.transform.kind, ci p1.transform.param], .one (.pt 0 0 0 0)] [.box [cl ae p2]] (uB p1 p2) (fun r => vb r.1) (fun r => [.box [cl ae r.2]]) :=
  pH 1 9 [] Tryz.f123 fun r => (uP (qC _ _) fun r1 _ => (uR .ret qn))
def dw (z2 : List ac) : Option (Int × (List ac)) := some ((-1 : Int), z2)
def aG (p1 : (List bj)) : Nat → List ac → Int → Option (Int × (List ac))
 | 0, _, _ => none
 | k1 + 1, z1, x1 => al (decide (x1 < (p1.length : Int))) (aB (at? p1 x1) fun e1 => aB (uB e1 z1) fun r1 => al r1.1 (some (x1, r1.2)) ((aG p1 k1) r1.2 (IntKind.i64.wrap (x1 + 1)))) (dw z1)
def cn (p1 : (List bj)) (p2 : (List ac)) : Option (Int × (List ac)) := aG p1 aY p2 (0 : Int)
theorem gQ (p1 : (List bj)) (p2 : (List ac)) : CM Tryz.prog 83 [vl aL p1, .one (.fn 123 [.pt 0 0 0 0])] [.box [cl ae p2]] (cn p1 p2) (fun r => vi r.1) (fun r => [.box [cl ae r.2]]) :=
  pH 1 19 [] Tryz.f83 fun r => (uQ (kS Tryz.f83 [1,0] 1) fun K2 hK2 => have hJ1 : ∀ (z2 : List ac), dw z2 = some r → K2.p [] [.box [cl ae z2]] := fun z2 h => hK2 h (uR .ret qn); (uN aL p1 (uO (cd Tryz.f83 [1,0,1,0,0]) (kS Tryz.f83 [1,0,1,0] 1) fun R1 b1 => have hL1 : ∀ (k1 : Nat) (z1 : List ac) (x1 : Int), aG p1 k1 z1 x1 = some r → (R1 k1).p [(0, vl aL p1), (1, .one (.fn 123 [.pt 0 0 0 0])), (7, vi (p1.length : Int)), (8, vi x1)] [.box [cl ae z1]] := by intro k1; induction k1 with | zero => intro z1 x1 h; exact hH (aG.eq_1 ..) h | succ k1 ih1 => intro z1 x1 h; exact b1 h (uU (aG.eq_2 ..) (uC (uL aL fun e1 a10 => (xx true [0] (BK _ _) fun r1 _ => (uC (uR .ret (xN (xN qn))) (uJ (ih1 r1.2 (IntKind.i64.wrap (x1 + 1))))))) (uR (.exit 0) (xM (uJ (hJ1 z1))))))
 uE (hL1 aY p2 (0 : Int)))))
def bk (p1 : (List bj)) (p2 : (List ac)) : Option (Bool × (List ac)) := aB (cn p1 p2) fun r1 => some ((decide ((0 : Int) ≤ r1.1)), r1.2)
theorem gm (p1 : (List bj)) (p2 : (List ac)) : CM Tryz.prog 48 [vl aL p1, .one (.fn 123 [.pt 0 0 0 0])] [.box [cl ae p2]] (bk p1 p2) (fun r => vb r.1) (fun r => [.box [cl ae r.2]]) :=
  pH 1 9 [] Tryz.f48 fun r => (xx true [0] (gQ _ _) fun r1 _ => (uR .ret qn))
def lY (x1 : Bool) : Option Bool := some x1
def ga (p1 p2 p3 : Int) : Option Bool := al (decide (p2 ≤ p1)) (lY (decide (p1 ≤ p3))) (lY false)
theorem jY (p1 p2 p3 : Int) : CT Tryz.prog 135 [vi p1, vi p2, vi p3] (ga p1 p2 p3) vb :=
  ej 15 [] Tryz.f135 fun r => (uQ (kS Tryz.f135 [1,0] 1) fun K2 hK2 => have hJ1 : ∀ (x1 : Bool), lY x1 = some r → K2.p [(6, vb x1)] [] := fun x1 h => hK2 h (uR .ret xF); (uC (uJ (hJ1 (decide (p1 ≤ p3)))) (uJ (hJ1 false))))
def pY (rec1 : Nat → Option Bool) (p1 : ByteArray) (z1 : Nat) (x2 : Bool) : Option Bool := al x2 (some false) (rec1 (z1 + (Utf8.decode p1 z1).2))
def th : Option Bool := some true
def iG (p1 : ByteArray) : Nat → Nat → Option Bool
 | 0, _ => none
 | k1 + 1, z1 => al (decide (z1 < p1.size)) (al (decide (Int.ofNat (Utf8.decode p1 z1).1 < (32 : Int))) (pY (iG p1 k1) p1 z1 true) (pY (iG p1 k1) p1 z1 (Int.ofNat (Utf8.decode p1 z1).1 == 127))) (th)
def qm (p1 : ByteArray) (x1 : Bool) : Option Bool := al x1 (some false) (iG p1 aY 0)
def uD (p1 : ByteArray) : Option Bool := al (decide ((256 : Int) < (p1.size : Int))) (qm p1 true) (aB (utf8_ValidString p1) fun r1 => qm p1 (!r1))
theorem C0 (p1 : ByteArray) : CT Tryz.prog 196 [vs p1] (uD p1) vb :=
  ej 24 [] Tryz.f196 fun r => (uQ (kS Tryz.f196 [1,0,0] 2) fun K3 hK3 => have hJ1 : ∀ (x1 : Bool), qm p1 x1 = some r → K3.p [(0, vs p1), (12, vb x1)] [] := fun x1 h => hK3 h (uC (uR .ret xF) (uQ (kS Tryz.f196 [1,1,0] 1) fun K8 hK8 => have hJ3 : ∀ (_ : Unit), th = some r → K8.p [] [] := fun _ h => hK8 h (uR .ret xF); (P8 p1 (uO (cd Tryz.f196 [1,1,0,1,0,0]) (kS Tryz.f196 [1,1,0,1,0] 1) fun R1 b1 => have hL1 : ∀ (k1 z1 : Nat), iG p1 k1 z1 = some r → (R1 k1).p [(14, .one (.pt 0 0 0 0))] [.raw (.stringIter p1 z1)] := by intro k1; induction k1 with | zero => intro z1 h; exact hH (iG.eq_1 ..) h | succ k1 ih1 => intro z1 h; exact b1 h (uU (iG.eq_2 ..) (Qm 0 (fun b11 => (uT (uQ (kS Tryz.f196 [1,1,0,1,0,0,1,1,0,1,0] 2) fun K14 hK14 => have hJ2 : ∀ (x2 : Bool), pY (iG p1 k1) p1 z1 x2 = some r → K14.p [(14, .one (.pt 0 0 0 0)), (23, vb x2)] [.raw (.stringIter p1 (z1 + (Utf8.decode p1 z1).2))] := fun x2 h => hK14 h (uC (uR .ret (xN (xN xF))) (uJ (ih1 (z1 + (Utf8.decode p1 z1).2)))); (uC (uJ (hJ2 true)) (uJ (hJ2 (Int.ofNat (Utf8.decode p1 z1).1 == 127))))))) (fun b11 => (uF (uR (.exit 0) (xM (uJ (hJ3 ()))))))))
 uE (hL1 aY 0))))); (uC (uJ (hJ1 true)) (uP (sk _) fun r1 _ => (uJ (hJ1 (!r1))))))
def mW (x2 : Bool) : Option Bool := some x2
def lm (x3 : Bool) : Option Bool := some x3
def ld (x4 : Bool) : Option Bool := some x4
def lj (x5 : Bool) : Option Bool := some x5
def mQ (x6 : Bool) : Option Bool := some x6
def lq (x7 : Bool) : Option Bool := some x7
def mZ (x8 : Bool) : Option Bool := some x8
def mS (x9 : Bool) : Option Bool := some x9
def m7 (p1 : af) (x1 : Bool) : Option Bool := al (p1.kind == 0) (al x1 (al (p1.s.toList == (ByteArray.mk #[]).toList) (mW ((p1.items.length : Int) == 0)) (mW false)) (mW false)) (al (p1.kind == 1) (aB (ga p1.n (0 : Int) (1 : Int)) fun r1 => al r1 (al (p1.scale == 0) (al (p1.s.toList == (ByteArray.mk #[]).toList) (lm ((p1.items.length : Int) == 0)) (lm false)) (lm false)) (lm false)) (al (p1.kind == 2) (aB (ga p1.n (-999999999999999999 : Int) (999999999999999999 : Int)) fun r2 => al r2 (al (p1.scale == 0) (al (p1.s.toList == (ByteArray.mk #[]).toList) (ld ((p1.items.length : Int) == 0)) (ld false)) (ld false)) (ld false)) (al (p1.kind == 3) (aB (ga p1.n (-999999999999999999 : Int) (999999999999999999 : Int)) fun r3 => al r3 (aB (ga p1.scale (0 : Int) (12 : Int)) fun r4 => al r4 (al (p1.s.toList == (ByteArray.mk #[]).toList) (lj ((p1.items.length : Int) == 0)) (lj false)) (lj false)) (lj false)) (al (p1.kind == 4) (al x1 (aB (uD p1.s) fun r5 => al r5 (mQ ((p1.items.length : Int) == 0)) (mQ false)) (mQ false)) (al (p1.kind == 5) (aB (ga p1.n (-62135596800 : Int) (253402300799 : Int)) fun r6 => al r6 (al (p1.scale == 0) (al (p1.s.toList == (ByteArray.mk #[]).toList) (lq ((p1.items.length : Int) == 0)) (lq false)) (lq false)) (lq false)) (al (p1.kind == 6) (al x1 (al (p1.s.toList == (ByteArray.mk #[]).toList) (mZ (decide ((p1.items.length : Int) ≤ (64 : Int)))) (mZ false)) (mZ false)) (al (p1.kind == 7) (al x1 (al (p1.s.toList == (ByteArray.mk #[]).toList) (mS (decide ((0 : Int) < (p1.items.length : Int)))) (mS false)) (mS false)) (some false))))))))
def sQ (p1 : af) : Option Bool := al (p1.n == 0) (m7 p1 (p1.scale == 0)) (m7 p1 false)
theorem B5 (p1 : af) : CT Tryz.prog 174 [.ag [ci p1.kind, ci p1.n, ci p1.scale, kE p1.s, cl ak p1.items]] (sQ p1) vb :=
  ej 154 [] Tryz.f174 fun r => (uQ (kS Tryz.f174 [1,0] 1) fun K2 hK2 => have hJ1 : ∀ (x1 : Bool), m7 p1 x1 = some r → K2.p [(1, .one (.pv (.rp [[pi p1.kind, pi p1.n, pi p1.scale, .s (.string p1.s), .ro (ak.els p1.items)]] 0 0))), (3, vb x1)] [] := fun x1 h => hK2 h (uC (uQ (kS Tryz.f174 [1,1,0,1,0,1,0,0] 3) fun K8 hK8 => have hJ2 : ∀ (x2 : Bool), mW x2 = some r → K8.p [(2, vb x2)] [] := fun x2 h => hK8 h (uR .ret xF); (uC (uC (uN ak p1.items (uJ (hJ2 ((p1.items.length : Int) == 0)))) (uJ (hJ2 false))) (uJ (hJ2 false)))) (uC (uQ (kS Tryz.f174 [1,1,0,1,0,1,1,1,0,0] 3) fun K13 hK13 => have hJ3 : ∀ (x3 : Bool), lm x3 = some r → K13.p [(2, vb x3)] [] := fun x3 h => hK13 h (uR .ret xF); (uP (jY _ _ _) fun r1 _ => (uC (uC (uC (uN ak p1.items (uJ (hJ3 ((p1.items.length : Int) == 0)))) (uJ (hJ3 false))) (uJ (hJ3 false))) (uJ (hJ3 false))))) (uC (uQ (kS Tryz.f174 [1,1,0,1,0,1,1,1,1,1,0,0] 3) fun K20 hK20 => have hJ4 : ∀ (x4 : Bool), ld x4 = some r → K20.p [(2, vb x4)] [] := fun x4 h => hK20 h (uR .ret xF); (uP (jY _ _ _) fun r2 _ => (uC (uC (uC (uN ak p1.items (uJ (hJ4 ((p1.items.length : Int) == 0)))) (uJ (hJ4 false))) (uJ (hJ4 false))) (uJ (hJ4 false))))) (uC (uQ (kS Tryz.f174 [1,1,0,1,0,1,1,1,1,1,1,1,0,0] 3) fun K27 hK27 => have hJ5 : ∀ (x5 : Bool), lj x5 = some r → K27.p [(2, vb x5)] [] := fun x5 h => hK27 h (uR .ret xF); (uP (jY _ _ _) fun r3 _ => (uC (uP (jY _ _ _) fun r4 _ => (uC (uC (uN ak p1.items (uJ (hJ5 ((p1.items.length : Int) == 0)))) (uJ (hJ5 false))) (uJ (hJ5 false)))) (uJ (hJ5 false))))) (uC (uQ (kS Tryz.f174 [1,1,0,1,0,1,1,1,1,1,1,1,1,1,0,0] 3) fun K35 hK35 => have hJ6 : ∀ (x6 : Bool), mQ x6 = some r → K35.p [(2, vb x6)] [] := fun x6 h => hK35 h (uR .ret xF); (uC (uP (C0 _) fun r5 _ => (uC (uN ak p1.items (uJ (hJ6 ((p1.items.length : Int) == 0)))) (uJ (hJ6 false)))) (uJ (hJ6 false)))) (uC (uQ (kS Tryz.f174 [1,1,0,1,0,1,1,1,1,1,1,1,1,1,1,1,0,0] 3) fun K41 hK41 => have hJ7 : ∀ (x7 : Bool), lq x7 = some r → K41.p [(2, vb x7)] [] := fun x7 h => hK41 h (uR .ret xF); (uP (jY _ _ _) fun r6 _ => (uC (uC (uC (uN ak p1.items (uJ (hJ7 ((p1.items.length : Int) == 0)))) (uJ (hJ7 false))) (uJ (hJ7 false))) (uJ (hJ7 false))))) (uC (uQ (kS Tryz.f174 [1,1,0,1,0,1,1,1,1,1,1,1,1,1,1,1,1,1,0,0] 3) fun K48 hK48 => have hJ8 : ∀ (x8 : Bool), mZ x8 = some r → K48.p [(2, vb x8)] [] := fun x8 h => hK48 h (uR .ret xF); (uC (uC (uN ak p1.items (uJ (hJ8 (decide ((p1.items.length : Int) ≤ (64 : Int)))))) (uJ (hJ8 false))) (uJ (hJ8 false)))) (uC (uQ (kS Tryz.f174 [1,1,0,1,0,1,1,1,1,1,1,1,1,1,1,1,1,1,1,1,0,0] 3) fun K53 hK53 => have hJ9 : ∀ (x9 : Bool), mS x9 = some r → K53.p [(2, vb x9)] [] := fun x9 h => hK53 h (uR .ret xF); (uC (uC (uN ak p1.items (uJ (hJ9 (decide ((0 : Int) < (p1.items.length : Int)))))) (uJ (hJ9 false))) (uJ (hJ9 false)))) (uR .ret xF))))))))); (uC (uJ (hJ1 (p1.scale == 0))) (uJ (hJ1 false))))
def cH (z2 : Int) : Option (Int × Int) := some ((-1 : Int), z2)
def aW (q_value_sound_1_s : af → Int → Int → Option (Bool × Int)) (p1 : (List af)) (p2 : Int) : Nat → Int → Int → Option (Int × Int)
 | 0, _, _ => none
 | k1 + 1, z1, x1 => al (decide (x1 < (p1.length : Int))) (aB (at? p1 x1) fun e1 => aB (q_value_sound_1_s e1 p2 z1) fun r1 => al r1.1 (some (x1, r1.2)) ((aW q_value_sound_1_s p1 p2 k1) r1.2 (IntKind.i64.wrap (x1 + 1)))) (cH z1)
def lc (q_slices_ContainsFunc_api_Value_api_Value_of_value_sound_1 : (List af) → Int → Int → Option (Bool × Int)) (p1 : af) (p2 z1 : Int) (x1 : Bool) : Option (Bool × Int) := al x1 (some (false, z1)) (aB (q_slices_ContainsFunc_api_Value_api_Value_of_value_sound_1 p1.items p2 z1) fun r2 => some ((!r2.1), r2.2))
def mG (q_slices_ContainsFunc_api_Value_api_Value_of_value_sound_1 : (List af) → Int → Int → Option (Bool × Int)) (p1 : af) (p2 z1 : Int) : Option (Bool × Int) := al (decide ((4 : Int) < p2)) (lc q_slices_ContainsFunc_api_Value_api_Value_of_value_sound_1 p1 p2 z1 true) (al (decide ((256 : Int) < z1)) (lc q_slices_ContainsFunc_api_Value_api_Value_of_value_sound_1 p1 p2 z1 true) (aB (sQ p1) fun r1 => lc q_slices_ContainsFunc_api_Value_api_Value_of_value_sound_1 p1 p2 z1 (!r1)))
mutual
def aR : Nat → (List af) → Int → Int → Option (Bool × Int)
 | 0, _, _, _ => none
 | k0 + 1, p1, p2, p3 => aB ((bD k0) p1 p2 p3) fun r1 => some ((decide ((0 : Int) ≤ r1.1)), r1.2)
def bD : Nat → (List af) → Int → Int → Option (Int × Int)
 | 0, _, _, _ => none
 | k0 + 1, p1, p2, p3 => aW (jf k0) p1 p2 aY p3 (0 : Int)
def lx : Nat → af → Int → Int → Option (Bool × Int)
 | 0, _, _, _ => none
 | k0 + 1, p1, p2, p3 => al (p1.kind != 0) (mG (aR k0) p1 p2 (IntKind.i64.wrap (p3 + 1))) (mG (aR k0) p1 p2 p3)
def jf : Nat → af → Int → Int → Option (Bool × Int)
 | 0, _, _, _ => none
 | k0 + 1, p1, p2, p3 => aB ((lx k0) p1 (IntKind.i64.wrap (p2 + 1)) p3) fun r1 => some ((!r1.1), r1.2)
end
mutual
theorem iu : ∀ (k0 : Nat) (p1 : (List af)) (p2 p3 : Int), CM Tryz.prog 175 [vl ak p1, .one (.fn 176 [.pv (.rp [[pi p2]] 0 0), .pt 0 0 0 0])] [.box [.pt 1 0 0 0], .box [ci p3]] (aR k0 p1 p2 p3) (fun r => vb r.1) (fun r => [.box [.pt 1 0 0 0], .box [ci r.2]])
  | 0, _, _, _ => Mr (aR.eq_1 ..)
  | k0 + 1, p1, p2, p3 => pH 2 9 [] Tryz.f175 fun r => (uU (aR.eq_2 ..) (xx true [0,1] (i0 k0 _ _ _) fun r1 _ => (uR .ret qn)))
theorem i0 : ∀ (k0 : Nat) (p1 : (List af)) (p2 p3 : Int), CM Tryz.prog 197 [vl ak p1, .one (.fn 176 [.pv (.rp [[pi p2]] 0 0), .pt 0 0 0 0])] [.box [.pt 1 0 0 0], .box [ci p3]] (bD k0 p1 p2 p3) (fun r => vi r.1) (fun r => [.box [.pt 1 0 0 0], .box [ci r.2]])
  | 0, _, _, _ => Mr (bD.eq_1 ..)
  | k0 + 1, p1, p2, p3 => pH 2 19 [] Tryz.f197 fun r => (uU (bD.eq_2 ..) (uQ (kS Tryz.f197 [1,0] 1) fun K2 hK2 => have hJ1 : ∀ (z2 : Int), cH z2 = some r → K2.p [] [.box [.pt 1 0 0 0], .box [ci z2]] := fun z2 h => hK2 h (uR .ret qn); (uN ak p1 (uO (cd Tryz.f197 [1,0,1,0,0]) (kS Tryz.f197 [1,0,1,0] 1) fun R1 b1 => have hL1 : ∀ (k1 : Nat) (z1 x1 : Int), aW (jf k0) p1 p2 k1 z1 x1 = some r → (R1 k1).p [(0, vl ak p1), (1, .one (.fn 176 [.pv (.rp [[pi p2]] 0 0), .pt 0 0 0 0])), (7, vi (p1.length : Int)), (8, vi x1)] [.box [.pt 1 0 0 0], .box [ci z1]] := by intro k1; induction k1 with | zero => intro z1 x1 h; exact hH (aW.eq_1 ..) h | succ k1 ih1 => intro z1 x1 h; exact b1 h (uU (aW.eq_2 ..) (uC (uL ak fun e1 a10 => (xx true [0,1] (yM k0 _ _ _) fun r1 _ => (uC (uR .ret (xN (xN qn))) (uJ (ih1 r1.2 (IntKind.i64.wrap (x1 + 1))))))) (uR (.exit 0) (xM (uJ (hJ1 z1))))))
 uE (hL1 aY p3 (0 : Int))))))
theorem xl : ∀ (k0 : Nat) (p1 : af) (p2 p3 : Int), CM Tryz.prog 141 [.ag [ci p1.kind, ci p1.n, ci p1.scale, kE p1.s, cl ak p1.items], vi p2, .one (.pt 0 0 0 0)] [.box [ci p3]] (lx k0 p1 p2 p3) (fun r => vb r.1) (fun r => [.box [ci r.2]])
  | 0, _, _, _ => Mr (lx.eq_1 ..)
  | k0 + 1, p1, p2, p3 => pH 1 33 [5] Tryz.f141 fun r => (uU (lx.eq_2 ..) (uQ (kS Tryz.f141 [1,0] 1) fun K2 hK2 => have hJ1 : ∀ (z1 : Int), mG (aR k0) p1 p2 z1 = some r → K2.p [(3, .one (.pv (.rp [[pi p1.kind, pi p1.n, pi p1.scale, .s (.string p1.s), .ro (ak.els p1.items)]] 0 0))), (4, .one (.pv (.rp [[pi p2]] 0 0))), (5, .one (.pt 1 0 0 0))] [.box [ci z1], .box [.pt 0 0 0 0]] := fun z1 h => hK2 h (uQ (kS Tryz.f141 [1,1,0,0] 2) fun K6 hK6 => have hJ2 : ∀ (x1 : Bool), lc (aR k0) p1 p2 z1 x1 = some r → K6.p [(3, .one (.pv (.rp [[pi p1.kind, pi p1.n, pi p1.scale, .s (.string p1.s), .ro (ak.els p1.items)]] 0 0))), (4, .one (.pv (.rp [[pi p2]] 0 0))), (5, .one (.pt 1 0 0 0)), (27, vb x1)] [.box [ci z1], .box [.pt 0 0 0 0]] := fun x1 h => hK6 h (uC (uR .ret qn) (xx true [1,0] (iu k0 _ _ _) fun r2 _ => (uR .ret qn))); (uC (uJ (hJ2 true)) (uC (uJ (hJ2 true)) (uP (B5 _) fun r1 _ => (uJ (hJ2 (!r1))))))); (uC (uJ (hJ1 (IntKind.i64.wrap (p3 + 1)))) (uJ (hJ1 p3)))))
theorem yM : ∀ (k0 : Nat) (p1 : af) (p2 p3 : Int), CM Tryz.prog 176 [.ag [ci p1.kind, ci p1.n, ci p1.scale, kE p1.s, cl ak p1.items], .one (.pv (.rp [[pi p2]] 0 0)), .one (.pt 0 0 0 0)] [.box [.pt 1 0 0 0], .box [ci p3]] (jf k0 p1 p2 p3) (fun r => vb r.1) (fun r => [.box [.pt 1 0 0 0], .box [ci r.2]])
  | 0, _, _, _ => Mr (jf.eq_1 ..)
  | k0 + 1, p1, p2, p3 => pH 2 11 [] Tryz.f176 fun r => (uU (jf.eq_2 ..) (xx true [1] (xl k0 _ _ _) fun r1 _ => (uR .ret qn)))
end
def qB (p1 : af) : Option Bool := aB (lx aY p1 (1 : Int) (0 : Int)) fun r1 => some r1.1
theorem xf (p1 : af) : CT Tryz.prog 99 [.ag [ci p1.kind, ci p1.n, ci p1.scale, kE p1.s, cl ak p1.items]] (qB p1) vb :=
  ej 6 [3] Tryz.f99 fun r => (xx true [0] (xl aY _ _ _) fun r1 _ => (uR .ret xF))
def bM : Option Bool := some true
def aA (q_value_of_2 : ac → af → Option Bool) (p1 : (List ac)) (p2 : (List af)) : Nat → Int → Option Bool
 | 0, _ => none
 | k1 + 1, x1 => al (decide (x1 < (p1.length : Int))) (aB (at? p1 x1) fun e1 => aB (at? p2 x1) fun e2 => aB (q_value_of_2 e1 e2) fun r1 => al (!r1) (some false) ((aA q_value_of_2 p1 p2 k1) (IntKind.i64.wrap (x1 + 1)))) (bM)
def cP : Option Int := some (-1 : Int)
def aV (q_value_of_1_s : af → Int → Int → (List ac) → Option Bool) (p1 : (List af)) (p2 p3 : Int) (p4 : (List ac)) : Nat → Int → Option Int
 | 0, _ => none
 | k1 + 1, x1 => al (decide (x1 < (p1.length : Int))) (aB (at? p1 x1) fun e1 => aB (q_value_of_1_s e1 p2 p3 p4) fun r1 => al r1 (some x1) ((aV q_value_of_1_s p1 p2 p3 p4 k1) (IntKind.i64.wrap (x1 + 1)))) (cP)
mutual
def bA : Nat → (List af) → Int → Int → (List ac) → Option Bool
 | 0, _, _, _, _ => none
 | k0 + 1, p1, p2, p3, p4 => aB ((bK k0) p1 p2 p3 p4) fun r1 => some (decide ((0 : Int) ≤ r1))
def aS : Nat → (List ac) → (List af) → Option Bool
 | 0, _, _ => none
 | k0 + 1, p1, p2 => al ((p1.length : Int) != (p2.length : Int)) (some false) (aA (ou k0) p1 p2 aY (0 : Int))
def bK : Nat → (List af) → Int → Int → (List ac) → Option Int
 | 0, _, _, _, _ => none
 | k0 + 1, p1, p2, p3, p4 => aV (lO k0) p1 p2 p3 p4 aY (0 : Int)
def pl : Nat → am → af → Option Bool
 | 0, _, _ => none
 | k0 + 1, p1, p2 => al (p2.kind == 0) (some true) (al (p2.kind != p1.kind) (some false) (al (p2.kind == 3) (some (p2.scale == p1.scale)) (al (p2.kind == 6) (aB ((bA k0) p2.items p1.kind p1.scale p1.fields) fun r1 => some (!r1)) (al (p2.kind == 7) (aB ((aS k0) p1.fields p2.items) fun r2 => some r2) (some true)))))
def lO : Nat → af → Int → Int → (List ac) → Option Bool
 | 0, _, _, _, _ => none
 | k0 + 1, p1, p2, p3, p4 => aB (at? p4 (0 : Int)) fun e1 => aB ((pl k0) e1.type p1) fun r1 => some (!r1)
def ou : Nat → ac → af → Option Bool
 | 0, _, _ => none
 | k0 + 1, p1, p2 => aB ((pl k0) p1.type p2) fun r1 => some r1
end
mutual
theorem iZ : ∀ (k0 : Nat) (p1 : (List af)) (p2 p3 : Int) (p4 : (List ac)), CT Tryz.prog 175 [vl ak p1, .one (.fn 180 [.pv (.rp [[pi p2, pi p3, .ro (ae.els p4)]] 0 0)])] (bA k0 p1 p2 p3 p4) vb
  | 0, _, _, _, _ => CI (bA.eq_1 ..)
  | k0 + 1, p1, p2, p3, p4 => ej 9 [] Tryz.f175 fun r => (uU (bA.eq_2 ..) (uP (jx k0 _ _ _ _) fun r1 _ => (uR .ret xF)))
theorem fk : ∀ (k0 : Nat) (p1 : (List ac)) (p2 : (List af)), CT Tryz.prog 181 [vl ae p1, vl ak p2, .one (.pv (.fn 182 []))] (aS k0 p1 p2) vb
  | 0, _, _ => CI (aS.eq_1 ..)
  | k0 + 1, p1, p2 => ej 32 [8, 9] Tryz.f181 fun r => (uU (aS.eq_2 ..) (uN ae p1 (uN ak p2 (uC (uR .ret xF) (uQ (kS Tryz.f181 [1,1,0] 1) fun K6 hK6 => have hJ1 : ∀ (_ : Unit), bM = some r → K6.p [] [] := fun _ h => hK6 h (uR .ret xF); (uN ae p1 (uO (cd Tryz.f181 [1,1,0,1,0,0]) (kS Tryz.f181 [1,1,0,1,0] 1) fun R1 b1 => have hL1 : ∀ (k1 : Nat) (x1 : Int), aA (ou k0) p1 p2 k1 x1 = some r → (R1 k1).p [(1, vl ak p2), (2, .one (.pv (.fn 182 []))), (15, vl ae p1), (16, vi (p1.length : Int)), (17, vi x1)] [] := by intro k1; induction k1 with | zero => intro x1 h; exact hH (aA.eq_1 ..) h | succ k1 ih1 => intro x1 h; exact b1 h (uU (aA.eq_2 ..) (uC (uL ae fun e1 a13 => (uL ak fun e2 a15 => (uP (Dy k0 _ _) fun r1 _ => (uC (uR .ret (xN (xN xF))) (uJ (ih1 (IntKind.i64.wrap (x1 + 1)))))))) (uR (.exit 0) (xM (uJ (hJ1 ()))))))
 uE (hL1 aY (0 : Int)))))))))
theorem jx : ∀ (k0 : Nat) (p1 : (List af)) (p2 p3 : Int) (p4 : (List ac)), CT Tryz.prog 197 [vl ak p1, .one (.fn 180 [.pv (.rp [[pi p2, pi p3, .ro (ae.els p4)]] 0 0)])] (bK k0 p1 p2 p3 p4) vi
  | 0, _, _, _, _ => CI (bK.eq_1 ..)
  | k0 + 1, p1, p2, p3, p4 => ej 19 [] Tryz.f197 fun r => (uU (bK.eq_2 ..) (uQ (kS Tryz.f197 [1,0] 1) fun K2 hK2 => have hJ1 : ∀ (_ : Unit), cP = some r → K2.p [] [] := fun _ h => hK2 h (uR .ret xF); (uN ak p1 (uO (cd Tryz.f197 [1,0,1,0,0]) (kS Tryz.f197 [1,0,1,0] 1) fun R1 b1 => have hL1 : ∀ (k1 : Nat) (x1 : Int), aV (lO k0) p1 p2 p3 p4 k1 x1 = some r → (R1 k1).p [(0, vl ak p1), (1, .one (.fn 180 [.pv (.rp [[pi p2, pi p3, .ro (ae.els p4)]] 0 0)])), (7, vi (p1.length : Int)), (8, vi x1)] [] := by intro k1; induction k1 with | zero => intro x1 h; exact hH (aV.eq_1 ..) h | succ k1 ih1 => intro x1 h; exact b1 h (uU (aV.eq_2 ..) (uC (uL ak fun e1 a10 => (uP (BQ k0 _ _ _ _) fun r1 _ => (uC (uR .ret (xN (xN xF))) (uJ (ih1 (IntKind.i64.wrap (x1 + 1))))))) (uR (.exit 0) (xM (uJ (hJ1 ()))))))
 uE (hL1 aY (0 : Int))))))
theorem xZ : ∀ (k0 : Nat) (p1 : am) (p2 : af), CT Tryz.prog 154 [.ag [ci p1.kind, ci p1.scale, cl ae p1.fields], .ag [ci p2.kind, ci p2.n, ci p2.scale, kE p2.s, cl ak p2.items]] (pl k0 p1 p2) vb
  | 0, _, _ => CI (pl.eq_1 ..)
  | k0 + 1, p1, p2 => ej 42 [] Tryz.f154 fun r => (uU (pl.eq_2 ..) (uC (uR .ret xF) (uC (uR .ret xF) (uC (uR .ret xF) (uC (uP (iZ k0 _ _ _ _) fun r1 _ => (uR .ret xF)) (uC (uP (fk k0 _ _) fun r2 _ => (uR .ret xF)) (uR .ret xF)))))))
theorem BQ : ∀ (k0 : Nat) (p1 : af) (p2 p3 : Int) (p4 : (List ac)), CT Tryz.prog 180 [.ag [ci p1.kind, ci p1.n, ci p1.scale, kE p1.s, cl ak p1.items], .one (.pv (.rp [[pi p2, pi p3, .ro (ae.els p4)]] 0 0))] (lO k0 p1 p2 p3 p4) vb
  | 0, _, _, _, _ => CI (lO.eq_1 ..)
  | k0 + 1, p1, p2, p3, p4 => ej 12 [] Tryz.f180 fun r => (uU (lO.eq_2 ..) (om 6 (uL ae fun e1 a3 => (uP (xZ k0 _ _) fun r1 _ => (uR .ret xF)))))
theorem Dy : ∀ (k0 : Nat) (p1 : ac) (p2 : af), CT Tryz.prog 182 [.ag [ci p1.id, kE p1.name, cb p1.need, ci p1.type.kind, ci p1.type.scale, cl ae p1.type.fields], .ag [ci p2.kind, ci p2.n, ci p2.scale, kE p2.s, cl ak p2.items]] (ou k0 p1 p2) vb
  | 0, _, _ => CI (ou.eq_1 ..)
  | k0 + 1, p1, p2 => ej 9 [] Tryz.f182 fun r => (uU (ou.eq_2 ..) (uP (xZ k0 _ _) fun r1 _ => (uR .ret xF)))
end
def pj (p1 : am) (x1 : Int) : Option ac := aB (at? p1.fields x1) fun e1 => some e1
def sL (p1 : am) (p2 : Int) : Option ac := al (p1.kind == 6) (pj p1 (0 : Int)) (pj p1 p2)
theorem B7 (p1 : am) (p2 : Int) : CT Tryz.prog 183 [.ag [ci p1.kind, ci p1.scale, cl ae p1.fields], vi p2] (sL p1 p2) (fun r => .ag [ci r.id, kE r.name, cb r.need, ci r.type.kind, ci r.type.scale, cl ae r.type.fields]) :=
  ej 13 [4] Tryz.f183 fun r => (uQ (kS Tryz.f183 [1,0] 1) fun K2 hK2 => have hJ1 : ∀ (x1 : Int), pj p1 x1 = some r → K2.p [(1, vi x1), (2, .one (.pv (.rp [[pi p1.kind, pi p1.scale, .ro (ae.els p1.fields)]] 0 0))), (4, .one (.pt 0 0 0 0))] [.box [ci (0 : Int), kE ByteArray.empty, cb false, ci (0 : Int), ci (0 : Int), .pv (.s (.slice none 0 0))]] := fun x1 h => hK2 h (uL ae fun e1 a6 => (uR .ret xF)); (uC (uJ (hJ1 (0 : Int))) (uJ (hJ1 p2))))
def mR (rec1 : Int → Option Bool) (x1 : Int) (x2 : Bool) : Option Bool := al x2 (some true) (rec1 (IntKind.i64.wrap (x1 + 1)))
def rQ : Option Bool := some false
def eY (q_value_lacks : am → af → Option Bool) (p1 : am) (p2 : af) : Nat → Int → Option Bool
 | 0, _ => none
 | k1 + 1, x1 => al (decide (x1 < (p2.items.length : Int))) (aB (at? p2.items x1) fun e1 => aB (sL p1 x1) fun r1 => al (e1.kind == 0) (al r1.need (mR (eY q_value_lacks p1 p2 k1) x1 true) (aB (q_value_lacks r1.type e1) fun r2 => mR (eY q_value_lacks p1 p2 k1) x1 r2)) (aB (q_value_lacks r1.type e1) fun r3 => mR (eY q_value_lacks p1 p2 k1) x1 r3)) (rQ)
def iO : Nat → am → af → Option Bool
 | 0, _, _ => none
 | k0 + 1, p1, p2 => eY (iO k0) p1 p2 aY (0 : Int)
theorem tq : ∀ (k0 : Nat) (p1 : am) (p2 : af), CT Tryz.prog 155 [.ag [ci p1.kind, ci p1.scale, cl ae p1.fields], .ag [ci p2.kind, ci p2.n, ci p2.scale, kE p2.s, cl ak p2.items]] (iO k0 p1 p2) vb
  | 0, _, _ => CI (iO.eq_1 ..)
  | k0 + 1, p1, p2 => ej 33 [6, 7] Tryz.f155 fun r => (uU (iO.eq_2 ..) (uQ (kS Tryz.f155 [1,0] 1) fun K2 hK2 => have hJ2 : ∀ (_ : Unit), rQ = some r → K2.p [] [] := fun _ h => hK2 h (uR .ret xF); (uN ak p2.items (uO (cd Tryz.f155 [1,0,1,0,0]) (kS Tryz.f155 [1,0,1,0] 1) fun R1 b1 => have hL1 : ∀ (k1 : Nat) (x1 : Int), eY (iO k0) p1 p2 k1 x1 = some r → (R1 k1).p [(2, .one (.pv (.rp [[pi p1.kind, pi p1.scale, .ro (ae.els p1.fields)]] 0 0))), (9, vl ak p2.items), (10, vi (p2.items.length : Int)), (11, vi x1)] [] := by intro k1; induction k1 with | zero => intro x1 h; exact hH (eY.eq_1 ..) h | succ k1 ih1 => intro x1 h; exact b1 h (uU (eY.eq_2 ..) (uC (uL ak fun e1 a9 => (uP (B7 _ _) fun r1 _ => (uQ (kS Tryz.f155 [1,0,1,0,0,1,1,0,0,1,1,0] 3) fun K12 hK12 => have hJ1 : ∀ (x2 : Bool), mR (eY (iO k0) p1 p2 k1) x1 x2 = some r → K12.p [(2, .one (.pv (.rp [[pi p1.kind, pi p1.scale, .ro (ae.els p1.fields)]] 0 0))), (9, vl ak p2.items), (10, vi (p2.items.length : Int)), (11, vi x1), (31, vb x2)] [.dead, .dead] := fun x2 h => hK12 h (uC (uR .ret (xN (xN xF))) (uJ (ih1 (IntKind.i64.wrap (x1 + 1))))); (uC (uC (uJ (hJ1 true)) (uP (tq k0 _ _) fun r2 _ => (uJ (hJ1 r2)))) (uP (tq k0 _ _) fun r3 _ => (uJ (hJ1 r3))))))) (uR (.exit 0) (xM (uJ (hJ2 ()))))))
 uE (hL1 aY (0 : Int))))))
def iU (p1 : am) (p2 : af) : Option Int := aB (fc p1) fun r1 => al (r1 != 0) (some r1) (aB (qB p2) fun r2 => al (!r2) (some (1 : Int)) (aB (pl aY p1 p2) fun r3 => al (!r3) (some (2 : Int)) (aB (iO aY p1 p2) fun r4 => al r4 (some (9 : Int)) (some (0 : Int)))))
theorem qd (p1 : am) (p2 : af) : CT Tryz.prog 116 [.ag [ci p1.kind, ci p1.scale, cl ae p1.fields], .ag [ci p2.kind, ci p2.n, ci p2.scale, kE p2.s, cl ak p2.items]] (iU p1 p2) vi :=
  ej 24 [] Tryz.f116 fun r => (uP (kv _) fun r1 _ => (uC (uR .ret xF) (uP (xf _) fun r2 _ => (uC (uR .ret xF) (uP (xZ aY _ _) fun r3 _ => (uC (uR .ret xF) (uP (tq aY _ _) fun r4 _ => (uC (uR .ret xF) (uR .ret xF)))))))))
def tF (p1 : gv) (p2 : ac) : Option Bool := some (p1.id == p2.id)
theorem AH (p1 : gv) (p2 : ac) : CT Tryz.prog 161 [.ag [ci p1.id, ci p1.nulls, ci p1.min.kind, ci p1.min.n, ci p1.min.scale, kE p1.min.s, cl ak p1.min.items, ci p1.max.kind, ci p1.max.n, ci p1.max.scale, kE p1.max.s, cl ak p1.max.items], .ag [ci p2.id, kE p2.name, cb p2.need, ci p2.type.kind, ci p2.type.scale, cl ae p2.type.fields]] (tF p1 p2) vb :=
  ej 10 [] Tryz.f161 fun r => (uR .ret xF)
def cA : Option Bool := some true
def aw (p1 : (List gv)) (p2 : (List ac)) : Nat → Int → Option Bool
 | 0, _ => none
 | k1 + 1, x1 => al (decide (x1 < (p1.length : Int))) (aB (at? p1 x1) fun e1 => aB (at? p2 x1) fun e2 => aB (tF e1 e2) fun r1 => al (!r1) (some false) ((aw p1 p2 k1) (IntKind.i64.wrap (x1 + 1)))) (cA)
def bL (p1 : (List gv)) (p2 : (List ac)) : Option Bool := al ((p1.length : Int) != (p2.length : Int)) (some false) (aw p1 p2 aY (0 : Int))
theorem eR (p1 : (List gv)) (p2 : (List ac)) : CT Tryz.prog 162 [vl cV p1, vl ae p2, .one (.pv (.fn 161 []))] (bL p1 p2) vb :=
  ej 32 [8, 9] Tryz.f162 fun r => (uN cV p1 (uN ae p2 (uC (uR .ret xF) (uQ (kS Tryz.f162 [1,1,0] 1) fun K6 hK6 => have hJ1 : ∀ (_ : Unit), cA = some r → K6.p [] [] := fun _ h => hK6 h (uR .ret xF); (uN cV p1 (uO (cd Tryz.f162 [1,1,0,1,0,0]) (kS Tryz.f162 [1,1,0,1,0] 1) fun R1 b1 => have hL1 : ∀ (k1 : Nat) (x1 : Int), aw p1 p2 k1 x1 = some r → (R1 k1).p [(1, vl ae p2), (2, .one (.pv (.fn 161 []))), (15, vl cV p1), (16, vi (p1.length : Int)), (17, vi x1)] [] := by intro k1; induction k1 with | zero => intro x1 h; exact hH (aw.eq_1 ..) h | succ k1 ih1 => intro x1 h; exact b1 h (uU (aw.eq_2 ..) (uC (uL cV fun e1 a13 => (uL ae fun e2 a15 => (uP (AH _ _) fun r1 _ => (uC (uR .ret (xN (xN xF))) (uJ (ih1 (IntKind.i64.wrap (x1 + 1)))))))) (uR (.exit 0) (xM (uJ (hJ1 ()))))))
 uE (hL1 aY (0 : Int))))))))
def qg (p1 : Int) : Option Bool := some (p1 != p1)
theorem vp (p1 : Int) : CT Tryz.prog 167 [vi p1] (qg p1) vb :=
  ej 6 [] Tryz.f167 fun r => (uR .ret xF)
def kf (p1 p2 : Int) : Option Int := aB (qg p1) fun r1 => aB (qg p2) fun r2 => al r1 (al r2 (some (0 : Int)) (some (-1 : Int))) (al r2 (some (1 : Int)) (al (decide (p1 < p2)) (some (-1 : Int)) (al (decide (p2 < p1)) (some (1 : Int)) (some (0 : Int)))))
theorem oW (p1 p2 : Int) : CT Tryz.prog 134 [vi p1, vi p2] (kf p1 p2) vi :=
  ej 20 [] Tryz.f134 fun r => (uP (vp _) fun r1 _ => (uP (vp _) fun r2 _ => (uC (uC (uR .ret xF) (uR .ret xF)) (uC (uR .ret xF) (uC (uR .ret xF) (uC (uR .ret xF) (uR .ret xF)))))))
def vO (p1 : Int) : Option cJ := al (decide (p1 < (0 : Int))) (some (cJ.mk true ((IntKind.u64.wrap (0 - (IntKind.u64.wrap p1))), (0 : Int), (0 : Int), (0 : Int)))) (some (cJ.mk false ((IntKind.u64.wrap p1), (0 : Int), (0 : Int), (0 : Int))))
theorem BW (p1 : Int) : CT Tryz.prog 168 [vi p1] (vO p1) (fun r => .ag [cb r.neg, ck .u64 r.size.1, ck .u64 r.size.2.1, ck .u64 r.size.2.2.1, ck .u64 r.size.2.2.2]) :=
  ej 14 [2] Tryz.f168 fun r => (uC (uR .ret xF) (uR .ret xF))
def jg (p1 p2 : Int) : Option (Int × Int) := aB (some (IntKind.u64.wrap (BitVec.ofInt (IntKind.u64).bits p1 &&& BitVec.ofInt (IntKind.u64).bits (4294967295 : Int)).toNat)) fun y1 => aB (some (IntKind.u64.wrap (BitVec.ofInt (IntKind.u64).bits p2 &&& BitVec.ofInt (IntKind.u64).bits (4294967295 : Int)).toNat)) fun y2 => aB (some (IntKind.u64.wrap ((p1.fdiv (2 ^ (min (32 : Int).toNat (IntKind.u64).bits))) * y2))) fun y3 => aB (some ((IntKind.u64.wrap (y1 * y2)).fdiv (2 ^ (min (32 : Int).toNat (IntKind.u64).bits)))) fun y4 => aB (some (IntKind.u64.wrap (BitVec.ofInt (IntKind.u64).bits (IntKind.u64.wrap (y3 + y4)) &&& BitVec.ofInt (IntKind.u64).bits (4294967295 : Int)).toNat)) fun y5 => aB (some ((IntKind.u64.wrap (y3 + y4)).fdiv (2 ^ (min (32 : Int).toNat (IntKind.u64).bits)))) fun y6 => aB (some (IntKind.u64.wrap (y1 * (p2.fdiv (2 ^ (min (32 : Int).toNat (IntKind.u64).bits)))))) fun y7 => aB (some (IntKind.u64.wrap ((p1.fdiv (2 ^ (min (32 : Int).toNat (IntKind.u64).bits))) * (p2.fdiv (2 ^ (min (32 : Int).toNat (IntKind.u64).bits)))))) fun y8 => aB (some ((IntKind.u64.wrap (y5 + y7)).fdiv (2 ^ (min (32 : Int).toNat (IntKind.u64).bits)))) fun y9 => some ((IntKind.u64.wrap ((IntKind.u64.wrap (y8 + y6)) + y9)), (IntKind.u64.wrap (p1 * p2)))
theorem mj (p1 p2 : Int) : CT Tryz.prog 205 [vk .u64 p1, vk .u64 p2] (jg p1 p2) (fun r => .tp [vk .u64 r.1, vk .u64 r.2]) :=
  ej 51 [] Tryz.f205 fun r => (uY 15 (vk .u64) fun y1 => (uY 19 (vk .u64) fun y2 => (uY 27 (vk .u64) fun y3 => (uY 29 (vk .u64) fun y4 => (uY 32 (vk .u64) fun y5 => (uY 34 (vk .u64) fun y6 => (uY 38 (vk .u64) fun y7 => (uY 42 (vk .u64) fun y8 => (uY 46 (vk .u64) fun y9 => (uR .ret xF))))))))))
def nf (p1 : cJ) (p2 : Int) : Option cJ := aB (jg p1.size.1 p2) fun r1 => nC (0 ≤ r1.2 ∧ 0 ≤ (0 : Int) ∧ 0 ≤ (0 : Int) ∧ (0 : Int) ≤ 1) <| aB (some (IntKind.u64.wrap (r1.1 + ((r1.2 + 0 + (0 : Int)) / 18446744073709551616)))) fun y1 => aB (jg p1.size.2.1 p2) fun r2 => nC (0 ≤ r2.2 ∧ 0 ≤ y1 ∧ 0 ≤ (0 : Int) ∧ (0 : Int) ≤ 1) <| aB (some (IntKind.u64.wrap (r2.1 + ((r2.2 + y1 + 0) / 18446744073709551616)))) fun y2 => aB (jg p1.size.2.2.1 p2) fun r3 => nC (0 ≤ r3.2 ∧ 0 ≤ y2 ∧ 0 ≤ (0 : Int) ∧ (0 : Int) ≤ 1) <| aB (some (IntKind.u64.wrap (r3.1 + ((r3.2 + y2 + 0) / 18446744073709551616)))) fun y3 => aB (jg p1.size.2.2.2 p2) fun r4 => nC (0 ≤ r4.2 ∧ 0 ≤ y3 ∧ 0 ≤ (0 : Int) ∧ (0 : Int) ≤ 1) <| aB (some (IntKind.u64.wrap (r4.1 + ((r4.2 + y3 + 0) / 18446744073709551616)))) fun y4 => some (cJ.mk p1.neg (((r1.2 + 0 + (0 : Int)) % 18446744073709551616), ((r2.2 + y1 + 0) % 18446744073709551616), ((r3.2 + y2 + 0) % 18446744073709551616), ((r4.2 + y3 + 0) % 18446744073709551616)))
theorem xG (p1 : cJ) (p2 : Int) : CT Tryz.prog 190 [.ag [cb p1.neg, ck .u64 p1.size.1, ck .u64 p1.size.2.1, ck .u64 p1.size.2.2.1, ck .u64 p1.size.2.2.2], vk .u64 p2] (nf p1 p2) (fun r => .ag [cb r.neg, ck .u64 r.size.1, ck .u64 r.size.2.1, ck .u64 r.size.2.2.1, ck .u64 r.size.2.2.2]) :=
  ej 37 [2, 4] Tryz.f190 fun r => (IC 4 (uP (mj _ _) fun r1 _ => (EE 206 Tryz.f206 (uY 34 (vk .u64) fun y1 => (uP (mj _ _) fun r2 _ => (EE 206 Tryz.f206 (uY 34 (vk .u64) fun y2 => (uP (mj _ _) fun r3 _ => (EE 206 Tryz.f206 (uY 34 (vk .u64) fun y3 => (uP (mj _ _) fun r4 _ => (EE 206 Tryz.f206 (uY 34 (vk .u64) fun y4 => (uR .ret xF))))))))))))))
def pA (z6 : Bool) (z7 z8 z9 z10 : Int) : Option cJ := some (cJ.mk z6 (z7, z8, z9, z10))
def dO (p2 : Int) : Nat → Bool → Int → Int → Int → Int → Int → Option cJ
 | 0, _, _, _, _, _, _ => none
 | k1 + 1, z1, z2, z3, z4, z5, x1 => al (decide (x1 < p2)) (aB (nf (cJ.mk z1 (z2, z3, z4, z5)) (10 : Int)) fun r1 => (dO p2 k1) r1.neg r1.size.1 r1.size.2.1 r1.size.2.2.1 r1.size.2.2.2 (IntKind.i64.wrap (x1 + 1))) (pA z1 z2 z3 z4 z5)
def lA (p1 : cJ) (p2 : Int) : Option cJ := dO p2 aY p1.neg p1.size.1 p1.size.2.1 p1.size.2.2.1 p1.size.2.2.2 (0 : Int)
abbrev Jm : List CV := [cb false, ck .u64 (0 : Int), ck .u64 (0 : Int), ck .u64 (0 : Int), ck .u64 (0 : Int)]
theorem wd (p1 : cJ) (p2 : Int) : CT Tryz.prog 169 [.ag [cb p1.neg, ck .u64 p1.size.1, ck .u64 p1.size.2.1, ck .u64 p1.size.2.2.1, ck .u64 p1.size.2.2.2], vi p2] (lA p1 p2) (fun r => .ag [cb r.neg, ck .u64 r.size.1, ck .u64 r.size.2.1, ck .u64 r.size.2.2.1, ck .u64 r.size.2.2.2]) :=
  ej 12 [2, 4] Tryz.f169 fun r => (uQ (kS Tryz.f169 [1,0] 1) fun K2 hK2 => have hJ1 : ∀ (z6 : Bool) (z7 z8 z9 z10 : Int), pA z6 z7 z8 z9 z10 = some r → K2.p [(2, .one (.pt 0 0 0 0)), (4, .one (.pt 1 0 0 0))] [.box [cb z6, ck .u64 z7, ck .u64 z8, ck .u64 z9, ck .u64 z10], .box Jm] := fun z6 z7 z8 z9 z10 h => hK2 h (uR .ret xF); (uO (cd Tryz.f169 [1,0,1,0,0]) (kS Tryz.f169 [1,0,1,0] 1) fun R1 b1 => have hL1 : ∀ (k1 : Nat) (z1 : Bool) (z2 z3 z4 z5 x1 : Int), dO p2 k1 z1 z2 z3 z4 z5 x1 = some r → (R1 k1).p [(2, .one (.pt 0 0 0 0)), (4, .one (.pt 1 0 0 0)), (5, vi p2), (6, vi x1)] [.box [cb z1, ck .u64 z2, ck .u64 z3, ck .u64 z4, ck .u64 z5], .box Jm] := by intro k1; induction k1 with | zero => intro z1 z2 z3 z4 z5 x1 h; exact hH (dO.eq_1 ..) h | succ k1 ih1 => intro z1 z2 z3 z4 z5 x1 h; exact b1 h (uU (dO.eq_2 ..) (uC (uP (xG _ _) fun r1 _ => (uJ (ih1 r1.neg r1.size.1 r1.size.2.1 r1.size.2.2.1 r1.size.2.2.2 (IntKind.i64.wrap (x1 + 1))))) (uR (.exit 0) (xM (uJ (hJ1 z1 z2 z3 z4 z5))))))
 uE (hL1 aY p1.neg p1.size.1 p1.size.2.1 p1.size.2.2.1 p1.size.2.2.2 (0 : Int))))
def o9 (p1 p2 : Int) : Option cJ := aB (vO p1) fun r1 => aB (lA (cJ.mk r1.neg (r1.size.1, r1.size.2.1, r1.size.2.2.1, r1.size.2.2.2)) p2) fun r2 => some (cJ.mk r2.neg (r2.size.1, r2.size.2.1, r2.size.2.2.1, r2.size.2.2.2))
theorem v6 (p1 p2 : Int) : CT Tryz.prog 137 [vi p1, vi p2] (o9 p1 p2) (fun r => .ag [cb r.neg, ck .u64 r.size.1, ck .u64 r.size.2.1, ck .u64 r.size.2.2.1, ck .u64 r.size.2.2.2]) :=
  ej 9 [4] Tryz.f137 fun r => (uP (BW _) fun r1 _ => (uP (wd _ _) fun r2 _ => (uR .ret xF)))
def io (p1 : cJ) : Option cJ := some (cJ.mk (!p1.neg) (p1.size.1, p1.size.2.1, p1.size.2.2.1, p1.size.2.2.2))
theorem mF (p1 : cJ) : CT Tryz.prog 192 [.ag [cb p1.neg, ck .u64 p1.size.1, ck .u64 p1.size.2.1, ck .u64 p1.size.2.2.1, ck .u64 p1.size.2.2.2]] (io p1) (fun r => .ag [cb r.neg, ck .u64 r.size.1, ck .u64 r.size.2.1, ck .u64 r.size.2.2.1, ck .u64 r.size.2.2.2]) :=
  ej 8 [1, 2] Tryz.f192 fun r => (uR .ret xF)
def my (p1 p2 : cJ) : Option Int := al (decide (p1.size.2.2.2 < p2.size.2.2.2)) (some (-1 : Int)) (al (decide (p2.size.2.2.2 < p1.size.2.2.2)) (some (1 : Int)) (al (decide (p1.size.2.2.1 < p2.size.2.2.1)) (some (-1 : Int)) (al (decide (p2.size.2.2.1 < p1.size.2.2.1)) (some (1 : Int)) (al (decide (p1.size.2.1 < p2.size.2.1)) (some (-1 : Int)) (al (decide (p2.size.2.1 < p1.size.2.1)) (some (1 : Int)) (al (decide (p1.size.1 < p2.size.1)) (some (-1 : Int)) (al (decide (p2.size.1 < p1.size.1)) (some (1 : Int)) (some (0 : Int)))))))))
theorem xd (p1 p2 : cJ) : CT Tryz.prog 193 [.ag [cb p1.neg, ck .u64 p1.size.1, ck .u64 p1.size.2.1, ck .u64 p1.size.2.2.1, ck .u64 p1.size.2.2.2], .ag [cb p2.neg, ck .u64 p2.size.1, ck .u64 p2.size.2.1, ck .u64 p2.size.2.2.1, ck .u64 p2.size.2.2.2]] (my p1 p2) vi :=
  ej 30 [] Tryz.f193 fun r => (IC 4 (om 8 (uC (uR .ret xF) (om 8 (uC (uR .ret xF) (om 8 (uC (uR .ret xF) (om 8 (uC (uR .ret xF) (om 8 (uC (uR .ret xF) (om 8 (uC (uR .ret xF) (om 8 (uC (uR .ret xF) (om 8 (uC (uR .ret xF) (uR .ret xF))))))))))))))))))
def jk (z1 : Bool) (z2 z3 z4 z5 : Int) (z6 : Bool) (z7 z8 z9 z10 : Int) : Option cJ := nC (0 ≤ z2 ∧ 0 ≤ z7 ∧ z7 < 18446744073709551616 ∧ 0 ≤ (0 : Int) ∧ (0 : Int) ≤ 1) <| nC (0 ≤ z3 ∧ 0 ≤ z8 ∧ z8 < 18446744073709551616 ∧ 0 ≤ (if z2 < z7 + 0 then (1 : Int) else 0) ∧ (if z2 < z7 + 0 then (1 : Int) else 0) ≤ 1) <| aB (some ((z3 - z8 - (if z2 < z7 + 0 then (1 : Int) else 0)) % 18446744073709551616)) fun y1 => aB (some (if z3 < z8 + (if z2 < z7 + 0 then (1 : Int) else 0) then (1 : Int) else 0)) fun y2 => nC (0 ≤ z4 ∧ 0 ≤ z9 ∧ z9 < 18446744073709551616 ∧ 0 ≤ y2 ∧ y2 ≤ 1) <| nC (0 ≤ z5 ∧ 0 ≤ z10 ∧ z10 < 18446744073709551616 ∧ 0 ≤ (if z4 < z9 + y2 then (1 : Int) else 0) ∧ (if z4 < z9 + y2 then (1 : Int) else 0) ≤ 1) <| aB (some ((z5 - z10 - (if z4 < z9 + y2 then (1 : Int) else 0)) % 18446744073709551616)) fun y3 => aB (some (if z5 < z10 + (if z4 < z9 + y2 then (1 : Int) else 0) then (1 : Int) else 0)) fun y4 => some (cJ.mk z1 (((z2 - z7 - 0) % 18446744073709551616), y1, ((z4 - z9 - y2) % 18446744073709551616), y3))
mutual
def jN : Nat → cJ → cJ → Option cJ
 | 0, _, _ => none
 | k0 + 1, p1, p2 => al (!(p1.neg == p2.neg)) (aB (io (cJ.mk p2.neg (p2.size.1, p2.size.2.1, p2.size.2.2.1, p2.size.2.2.2))) fun r1 => aB ((ki k0) (cJ.mk p1.neg (p1.size.1, p1.size.2.1, p1.size.2.2.1, p1.size.2.2.2)) (cJ.mk r1.neg (r1.size.1, r1.size.2.1, r1.size.2.2.1, r1.size.2.2.2))) fun r2 => some (cJ.mk r2.neg (r2.size.1, r2.size.2.1, r2.size.2.2.1, r2.size.2.2.2))) (aB (my (cJ.mk p1.neg (p1.size.1, p1.size.2.1, p1.size.2.2.1, p1.size.2.2.2)) (cJ.mk p2.neg (p2.size.1, p2.size.2.1, p2.size.2.2.1, p2.size.2.2.2))) fun r3 => al (decide (r3 < (0 : Int))) (aB (io (cJ.mk p2.neg (p2.size.1, p2.size.2.1, p2.size.2.2.1, p2.size.2.2.2))) fun r4 => jk r4.neg r4.size.1 r4.size.2.1 r4.size.2.2.1 r4.size.2.2.2 p1.neg p1.size.1 p1.size.2.1 p1.size.2.2.1 p1.size.2.2.2) (jk p1.neg p1.size.1 p1.size.2.1 p1.size.2.2.1 p1.size.2.2.2 p2.neg p2.size.1 p2.size.2.1 p2.size.2.2.1 p2.size.2.2.2))
def ki : Nat → cJ → cJ → Option cJ
 | 0, _, _ => none
 | k0 + 1, p1, p2 => al (!(p1.neg == p2.neg)) (aB (io (cJ.mk p2.neg (p2.size.1, p2.size.2.1, p2.size.2.2.1, p2.size.2.2.2))) fun r1 => aB ((jN k0) (cJ.mk p1.neg (p1.size.1, p1.size.2.1, p1.size.2.2.1, p1.size.2.2.2)) (cJ.mk r1.neg (r1.size.1, r1.size.2.1, r1.size.2.2.1, r1.size.2.2.2))) fun r2 => some (cJ.mk r2.neg (r2.size.1, r2.size.2.1, r2.size.2.2.1, r2.size.2.2.2))) (nC (0 ≤ p1.size.1 ∧ 0 ≤ p2.size.1 ∧ 0 ≤ (0 : Int) ∧ (0 : Int) ≤ 1) <| nC (0 ≤ p1.size.2.1 ∧ 0 ≤ p2.size.2.1 ∧ 0 ≤ ((p1.size.1 + p2.size.1 + 0) / 18446744073709551616) ∧ ((p1.size.1 + p2.size.1 + 0) / 18446744073709551616) ≤ 1) <| aB (some ((p1.size.2.1 + p2.size.2.1 + ((p1.size.1 + p2.size.1 + 0) / 18446744073709551616)) % 18446744073709551616)) fun y1 => aB (some ((p1.size.2.1 + p2.size.2.1 + ((p1.size.1 + p2.size.1 + 0) / 18446744073709551616)) / 18446744073709551616)) fun y2 => nC (0 ≤ p1.size.2.2.1 ∧ 0 ≤ p2.size.2.2.1 ∧ 0 ≤ y2 ∧ y2 ≤ 1) <| nC (0 ≤ p1.size.2.2.2 ∧ 0 ≤ p2.size.2.2.2 ∧ 0 ≤ ((p1.size.2.2.1 + p2.size.2.2.1 + y2) / 18446744073709551616) ∧ ((p1.size.2.2.1 + p2.size.2.2.1 + y2) / 18446744073709551616) ≤ 1) <| aB (some ((p1.size.2.2.2 + p2.size.2.2.2 + ((p1.size.2.2.1 + p2.size.2.2.1 + y2) / 18446744073709551616)) % 18446744073709551616)) fun y3 => aB (some ((p1.size.2.2.2 + p2.size.2.2.2 + ((p1.size.2.2.1 + p2.size.2.2.1 + y2) / 18446744073709551616)) / 18446744073709551616)) fun y4 => some (cJ.mk p1.neg (((p1.size.1 + p2.size.1 + 0) % 18446744073709551616), y1, ((p1.size.2.2.1 + p2.size.2.2.1 + y2) % 18446744073709551616), y3)))
end
mutual
theorem sB : ∀ (k0 : Nat) (p1 p2 : cJ), CT Tryz.prog 170 [.ag [cb p1.neg, ck .u64 p1.size.1, ck .u64 p1.size.2.1, ck .u64 p1.size.2.2.1, ck .u64 p1.size.2.2.2], .ag [cb p2.neg, ck .u64 p2.size.1, ck .u64 p2.size.2.1, ck .u64 p2.size.2.2.1, ck .u64 p2.size.2.2.2]] (jN k0 p1 p2) (fun r => .ag [cb r.neg, ck .u64 r.size.1, ck .u64 r.size.2.1, ck .u64 r.size.2.2.1, ck .u64 r.size.2.2.2])
  | 0, _, _ => CI (jN.eq_1 ..)
  | k0 + 1, p1, p2 => ej 44 [2, 3, 4] Tryz.f170 fun r => (uU (jN.eq_2 ..) (uC (om 3 (uP (mF _) fun r1 _ => (uP (yN k0 _ _) fun r2 _ => (uR .ret xF)))) (uQ (kS Tryz.f170 [1,1,0] 1) fun K8 hK8 => have hJ1 : ∀ (z1 : Bool) (z2 z3 z4 z5 : Int) (z6 : Bool) (z7 z8 z9 z10 : Int), jk z1 z2 z3 z4 z5 z6 z7 z8 z9 z10 = some r → K8.p [(2, .one (.pt 0 0 0 0)), (3, .one (.pt 1 0 0 0)), (4, .one (.pt 2 0 0 0))] [.box [cb z1, ck .u64 z2, ck .u64 z3, ck .u64 z4, ck .u64 z5], .box [cb z6, ck .u64 z7, ck .u64 z8, ck .u64 z9, ck .u64 z10], .box [cb false, ck .u64 (0 : Int), ck .u64 (0 : Int), ck .u64 (0 : Int), ck .u64 (0 : Int)]] := fun z1 z2 z3 z4 z5 z6 z7 z8 z9 z10 h => hK8 h (IC 4 (Ew 17 0 [3] (LG 194 Tryz.f194 (Ew 17 0 [3] (LG 194 Tryz.f194 (uY 38 (vk .u64) fun y1 => (uY 39 (vk .u64) fun y2 => (Ew 17 0 [3] (LG 194 Tryz.f194 (Ew 17 0 [3] (LG 194 Tryz.f194 (uY 38 (vk .u64) fun y3 => (uY 39 (vk .u64) fun y4 => (uR .ret xF)))))))))))))); (uP (xd _ _) fun r3 _ => (uC (om 3 (uP (mF _) fun r4 _ => (uJ (hJ1 r4.neg r4.size.1 r4.size.2.1 r4.size.2.2.1 r4.size.2.2.2 p1.neg p1.size.1 p1.size.2.1 p1.size.2.2.1 p1.size.2.2.2)))) (uJ (hJ1 p1.neg p1.size.1 p1.size.2.1 p1.size.2.2.1 p1.size.2.2.2 p2.neg p2.size.1 p2.size.2.1 p2.size.2.2.1 p2.size.2.2.2)))))))
theorem yN : ∀ (k0 : Nat) (p1 p2 : cJ), CT Tryz.prog 191 [.ag [cb p1.neg, ck .u64 p1.size.1, ck .u64 p1.size.2.1, ck .u64 p1.size.2.2.1, ck .u64 p1.size.2.2.2], .ag [cb p2.neg, ck .u64 p2.size.1, ck .u64 p2.size.2.1, ck .u64 p2.size.2.2.1, ck .u64 p2.size.2.2.2]] (ki k0 p1 p2) (fun r => .ag [cb r.neg, ck .u64 r.size.1, ck .u64 r.size.2.1, ck .u64 r.size.2.2.1, ck .u64 r.size.2.2.2])
  | 0, _, _ => CI (ki.eq_1 ..)
  | k0 + 1, p1, p2 => ej 37 [2, 4] Tryz.f191 fun r => (uU (ki.eq_2 ..) (uC (om 3 (uP (mF _) fun r1 _ => (uP (sB k0 _ _) fun r2 _ => (uR .ret xF)))) (IC 4 (Ew 17 0 [2] (EE 206 Tryz.f206 (Ew 17 0 [2] (EE 206 Tryz.f206 (uY 31 (vk .u64) fun y1 => (uY 32 (vk .u64) fun y2 => (Ew 17 0 [2] (EE 206 Tryz.f206 (Ew 17 0 [2] (EE 206 Tryz.f206 (uY 31 (vk .u64) fun y3 => (uY 32 (vk .u64) fun y4 => (uR .ret xF))))))))))))))))
end
def n6 (p1 : cJ) : Option Bool := aB (some ((p1.size.1 == 0) && ((p1.size.2.1 == 0) && ((p1.size.2.2.1 == 0) && ((p1.size.2.2.2 == 0) && true))))) fun y1 => some y1
theorem zm (p1 : cJ) : CT Tryz.prog 171 [.ag [cb p1.neg, ck .u64 p1.size.1, ck .u64 p1.size.2.1, ck .u64 p1.size.2.2.1, ck .u64 p1.size.2.2.2]] (n6 p1) vb :=
  ej 7 [] Tryz.f171 fun r => (uY 6 vb fun y1 => (uR .ret xF))
def jS (p1 p2 : cJ) : Option Int := aB (jN aY (cJ.mk p1.neg (p1.size.1, p1.size.2.1, p1.size.2.2.1, p1.size.2.2.2)) (cJ.mk p2.neg (p2.size.1, p2.size.2.1, p2.size.2.2.1, p2.size.2.2.2))) fun r1 => aB (n6 (cJ.mk r1.neg (r1.size.1, r1.size.2.1, r1.size.2.2.1, r1.size.2.2.2))) fun r2 => al r2 (some (0 : Int)) (al r1.neg (some (-1 : Int)) (some (1 : Int)))
theorem vP (p1 p2 : cJ) : CT Tryz.prog 138 [.ag [cb p1.neg, ck .u64 p1.size.1, ck .u64 p1.size.2.1, ck .u64 p1.size.2.2.1, ck .u64 p1.size.2.2.2], .ag [cb p2.neg, ck .u64 p2.size.1, ck .u64 p2.size.2.1, ck .u64 p2.size.2.2.1, ck .u64 p2.size.2.2.2]] (jS p1 p2) vi :=
  ej 15 [5] Tryz.f138 fun r => (uP (sB aY _ _) fun r1 _ => (uP (zm _) fun r2 _ => (uC (uR .ret xF) (uC (uR .ret xF) (uR .ret xF)))))
def nk (p1 : ByteArray) : Option Bool := some (!(p1.toList == p1.toList))
theorem so (p1 : ByteArray) : CT Tryz.prog 195 [vs p1] (nk p1) vb :=
  ej 6 [] Tryz.f195 fun r => (uR .ret xF)
def lK (p1 p2 : ByteArray) : Option Int := aB (nk p1) fun r1 => aB (nk p2) fun r2 => al r1 (al r2 (some (0 : Int)) (some (-1 : Int))) (al r2 (some (1 : Int)) (al (Op.bytesLess p1.toList p2.toList) (some (-1 : Int)) (al (!(Op.bytesLess p1.toList p2.toList || p1.toList == p2.toList)) (some (1 : Int)) (some (0 : Int)))))
theorem v8 (p1 p2 : ByteArray) : CT Tryz.prog 172 [vs p1, vs p2] (lK p1 p2) vi :=
  ej 20 [] Tryz.f172 fun r => (uP (so _) fun r1 _ => (uP (so _) fun r2 _ => (uC (uC (uR .ret xF) (uR .ret xF)) (uC (uR .ret xF) (uC (uR .ret xF) (uC (uR .ret xF) (uR .ret xF)))))))
def xk : Option Int := some (0 : Int)
def gG (p1 : (List Int)) : Nat → Int → Option Int
 | 0, _ => none
 | k1 + 1, x1 => al (decide (x1 < (p1.length : Int))) (aB (at? p1 x1) fun e1 => al (e1 != 0) (some e1) ((gG p1 k1) (IntKind.i64.wrap (x1 + 1)))) (xk)
def mO (p1 : (List Int)) : Option Int := gG p1 aY (0 : Int)
theorem uo (p1 : (List Int)) : CT Tryz.prog 136 [vl eI p1] (mO p1) vi :=
  ej 18 [] Tryz.f136 fun r => (uQ (kS Tryz.f136 [1,1,0] 1) fun K3 hK3 => have hJ1 : ∀ (_ : Unit), xk = some r → K3.p [(3, vi (0 : Int))] [] := fun _ h => hK3 h (uR .ret xF); (uN eI p1 (uO (cd Tryz.f136 [1,1,0,1,0,0]) (kS Tryz.f136 [1,1,0,1,0] 1) fun R1 b1 => have hL1 : ∀ (k1 : Nat) (x1 : Int), gG p1 k1 x1 = some r → (R1 k1).p [(3, vi (0 : Int)), (6, vl eI p1), (7, vi (p1.length : Int)), (8, vi x1)] [] := by intro k1; induction k1 with | zero => intro x1 h; exact hH (gG.eq_1 ..) h | succ k1 ih1 => intro x1 h; exact b1 h (uU (gG.eq_2 ..) (uC (uL eI fun e1 a10 => (uC (uR .ret (xN (xN xF))) (uJ (ih1 (IntKind.i64.wrap (x1 + 1)))))) (uR (.exit 0) (xM (uJ (hJ1 ()))))))
 uE (hL1 aY (0 : Int)))))
def bF (p1 p2 : (List af)) : Option Int := al (decide ((p1.length : Int) < (p2.length : Int))) (some (-1 : Int)) (some (0 : Int))
def aI (q_value_Compare : af → af → Option Int) (p1 p2 : (List af)) : Nat → Int → Option Int
 | 0, _ => none
 | k1 + 1, x1 => al (decide (x1 < (p1.length : Int))) (aB (at? p1 x1) fun e1 => al (decide ((p2.length : Int) ≤ x1)) (some (1 : Int)) (aB (at? p2 x1) fun e2 => aB (q_value_Compare e1 e2) fun r1 => al (r1 != 0) (some r1) ((aI q_value_Compare p1 p2 k1) (IntKind.i64.wrap (x1 + 1))))) (bF p1 p2)
def kW (q_value_rest : af → af → Option Int) (p1 p2 : af) : Option Int := aB (kf p1.n p2.n) fun r9 => aB (q_value_rest p1 p2) fun r10 => aB (mO [r9, r10]) fun r11 => some r11
def nv (q_value_rest : af → af → Option Int) (p1 p2 : af) (r2 r3 x1 : Bool) : Option Int := al x1 (aB (o9 p1.n (IntKind.i64.wrap ((12 : Int) - p1.scale))) fun r4 => aB (o9 p2.n (IntKind.i64.wrap ((12 : Int) - p2.scale))) fun r5 => aB (jS (cJ.mk r4.neg (r4.size.1, r4.size.2.1, r4.size.2.2.1, r4.size.2.2.2)) (cJ.mk r5.neg (r5.size.1, r5.size.2.1, r5.size.2.2.1, r5.size.2.2.2))) fun r6 => aB (q_value_rest p1 p2) fun r7 => aB (mO [r6, r7]) fun r8 => some r8) (al r2 (some (-1 : Int)) (al r3 (some (1 : Int)) (kW q_value_rest p1 p2)))
mutual
def ay : Nat → (List af) → (List af) → Option Int
 | 0, _, _ => none
 | k0 + 1, p1, p2 => aI (eC k0) p1 p2 aY (0 : Int)
def eC : Nat → af → af → Option Int
 | 0, _, _ => none
 | k0 + 1, p1, p2 => al (p1.kind != p2.kind) (al (p1.kind == 0) (some (1 : Int)) (al (p2.kind == 0) (some (-1 : Int)) (aB (kf p1.kind p2.kind) fun r1 => some r1))) (al (p1.kind == 0) (some (0 : Int)) (al (p1.kind == 3) (aB (ga p1.scale (0 : Int) (12 : Int)) fun r2 => aB (ga p2.scale (0 : Int) (12 : Int)) fun r3 => al r2 (nv (jT k0) p1 p2 r2 r3 r3) (nv (jT k0) p1 p2 r2 r3 false)) (kW (jT k0) p1 p2)))
def jT : Nat → af → af → Option Int
 | 0, _, _ => none
 | k0 + 1, p1, p2 => aB (kf p1.scale p2.scale) fun r1 => aB (lK p1.s p2.s) fun r2 => aB ((ay k0) p1.items p2.items) fun r3 => aB (mO [r1, r2, r3]) fun r4 => some r4
end
mutual
theorem cw : ∀ (k0 : Nat) (p1 p2 : (List af)), CT Tryz.prog 165 [vl ak p1, vl ak p2, .one (.pv (.fn 90 []))] (ay k0 p1 p2) vi
  | 0, _, _ => CI (ay.eq_1 ..)
  | k0 + 1, p1, p2 => ej 39 [8, 9] Tryz.f165 fun r => (uU (ay.eq_2 ..) (uQ (kS Tryz.f165 [1,0] 1) fun K2 hK2 => have hJ1 : ∀ (_ : Unit), bF p1 p2 = some r → K2.p [(0, vl ak p1), (1, vl ak p2)] [] := fun _ h => hK2 h (uN ak p1 (uN ak p2 (uC (uR .ret xF) (uR .ret xF)))); (uN ak p1 (uO (cd Tryz.f165 [1,0,1,0,0]) (kS Tryz.f165 [1,0,1,0] 1) fun R1 b1 => have hL1 : ∀ (k1 : Nat) (x1 : Int), aI (eC k0) p1 p2 k1 x1 = some r → (R1 k1).p [(0, vl ak p1), (1, vl ak p2), (2, .one (.pv (.fn 90 []))), (11, vl ak p1), (12, vi (p1.length : Int)), (13, vi x1)] [] := by intro k1; induction k1 with | zero => intro x1 h; exact hH (aI.eq_1 ..) h | succ k1 ih1 => intro x1 h; exact b1 h (uU (aI.eq_2 ..) (uC (uL ak fun e1 a9 => (uN ak p2 (uC (uR .ret (xN (xN xF))) (uL ak fun e2 a15 => (uP (qS k0 _ _) fun r1 _ => (uC (uR .ret (xN (xN xF))) (uJ (ih1 (IntKind.i64.wrap (x1 + 1)))))))))) (uR (.exit 0) (xM (uJ (hJ1 ()))))))
 uE (hL1 aY (0 : Int))))))
theorem qS : ∀ (k0 : Nat) (p1 p2 : af), CT Tryz.prog 90 [.ag [ci p1.kind, ci p1.n, ci p1.scale, kE p1.s, cl ak p1.items], .ag [ci p2.kind, ci p2.n, ci p2.scale, kE p2.s, cl ak p2.items]] (eC k0 p1 p2) vi
  | 0, _, _ => CI (eC.eq_1 ..)
  | k0 + 1, p1, p2 => ej 72 [] Tryz.f90 fun r => (uU (eC.eq_2 ..) (uC (uC (uR .ret xF) (uC (uR .ret xF) (uP (oW _ _) fun r1 _ => (uR .ret xF)))) (uQ (kS Tryz.f90 [1,1,0] 1) fun K15 hK15 => have hJ2 : ∀ (_ : Unit), kW (jT k0) p1 p2 = some r → K15.p [(2, .one (.pv (.rp [[pi p1.kind, pi p1.n, pi p1.scale, .s (.string p1.s), .ro (ak.els p1.items)]] 0 0))), (3, .one (.pv (.rp [[pi p2.kind, pi p2.n, pi p2.scale, .s (.string p2.s), .ro (ak.els p2.items)]] 0 0)))] [] := fun _ h => hK15 h (om 7 (uP (oW _ _) fun r9 _ => (uP (yC k0 _ _) fun r10 _ => (uP (uo _) fun r11 _ => (uR .ret xF))))); (uC (uR .ret (xN xF)) (uC (om 5 (uP (jY _ _ _) fun r2 _ => (uP (jY _ _ _) fun r3 _ => (uQ (kS Tryz.f90 [1,1,0,1,0,1,1,1,0,1,0,0] 3) fun K25 hK25 => have hJ1 : ∀ (x1 : Bool), nv (jT k0) p1 p2 r2 r3 x1 = some r → K25.p [(2, .one (.pv (.rp [[pi p1.kind, pi p1.n, pi p1.scale, .s (.string p1.s), .ro (ak.els p1.items)]] 0 0))), (3, .one (.pv (.rp [[pi p2.kind, pi p2.n, pi p2.scale, .s (.string p2.s), .ro (ak.els p2.items)]] 0 0))), (5, vb r2), (6, vb r3), (35, vb x1)] [] := fun x1 h => hK25 h (uC (om 15 (uP (v6 _ _) fun r4 _ => (uP (v6 _ _) fun r5 _ => (uP (vP _ _) fun r6 _ => (uP (yC k0 _ _) fun r7 _ => (uP (uo _) fun r8 _ => (uR .ret (xN xF)))))))) (uC (uR .ret (xN xF)) (uC (uR .ret (xN xF)) (uJ (hJ2 ()))))); (uC (uJ (hJ1 r3)) (uJ (hJ1 false))))))) (uJ (hJ2 ())))))))
theorem yC : ∀ (k0 : Nat) (p1 p2 : af), CT Tryz.prog 139 [.ag [ci p1.kind, ci p1.n, ci p1.scale, kE p1.s, cl ak p1.items], .ag [ci p2.kind, ci p2.n, ci p2.scale, kE p2.s, cl ak p2.items]] (jT k0 p1 p2) vi
  | 0, _, _ => CI (jT.eq_1 ..)
  | k0 + 1, p1, p2 => ej 22 [] Tryz.f139 fun r => (uU (jT.eq_2 ..) (om 14 (uP (oW _ _) fun r1 _ => (uP (v8 _ _) fun r2 _ => (uP (cw k0 _ _) fun r3 _ => (uP (uo _) fun r4 _ => (uR .ret xF)))))))
end
def o8 (rec1 : List ac → Int → Option Int) (x1 : Int) (l2 : List ac) : Option Int := rec1 l2 (IntKind.i64.wrap (x1 + 1))
def mH (rec2 : Int → Option Int) (x2 : Int) (x3 : Bool) : Option Int := al x3 (some (1 : Int)) (rec2 (IntKind.i64.wrap (x2 + 1)))
def v7 : Option Int := some (0 : Int)
def fb (p2 : ah) (l3 : List ac) : Nat → Int → Option Int
 | 0, _ => none
 | k2 + 1, x2 => al (decide (x2 < (p2.stats.length : Int))) (aB (at? p2.stats x2) fun e2 => aB (dk e2.nulls (0 : Int) p2.rows) fun r3 => al (!r3) (some (3 : Int)) (aB (at? [e2.min, e2.max] (0 : Int)) fun e3 => aB (at? l3 x2) fun e4 => aB (iU e4.type e3) fun r4 => al (r4 != 0) (some r4) (aB (at? [e2.min, e2.max] (1 : Int)) fun e5 => aB (iU e4.type e5) fun r5 => al (r5 != 0) (some r5) (al (!((e2.min.kind == 0) == (e2.nulls == p2.rows))) (mH (fb p2 l3 k2) x2 true) (al (!((e2.max.kind == 0) == (e2.nulls == p2.rows))) (mH (fb p2 l3 k2) x2 true) (aB (eC aY e2.min e2.max) fun r6 => mH (fb p2 l3 k2) x2 (decide ((0 : Int) < r6)))))))) (v7)
def lg (p2 : ah) (l3 : List ac) : Option Int := aB (bL p2.stats l3) fun r2 => al (!r2) (some (1 : Int)) (fb p2 l3 aY (0 : Int))
def fW (p1 : (List ac)) (p2 : ah) : Nat → List ac → Int → Option Int
 | 0, _, _ => none
 | k1 + 1, l1, x1 => al (decide (x1 < (p1.length : Int))) (aB (at? p1 x1) fun e1 => aB (pP e1.type) fun r1 => al r1 (nC (l1.length + 1 ≤ 4294967296) <| o8 (fW p1 p2 k1) x1 (l1 ++ [e1])) (o8 (fW p1 p2 k1) x1 l1)) (lg p2 l1)
def qw (p1 : (List ac)) (p2 : ah) : Option Int := fW p1 p2 aY [] (0 : Int)
abbrev gw (p2 : ah) : List PV := [.s (.string p2.name), pi p2.schema, pi p2.spec, .ro (ak.els p2.part), pi p2.rows, pi p2.seq, .ro (cV.els p2.stats)]
theorem Ce (p1 : (List ac)) (p2 : ah) : CT Tryz.prog 124 [vl ae p1, .ag [kE p2.name, ci p2.schema, ci p2.spec, cl ak p2.part, ci p2.rows, ci p2.seq, cl cV p2.stats]] (qw p1 p2) vi :=
  ej 98 [7, 10, 12] Tryz.f124 fun r => (uQ (kS Tryz.f124 [1,1,0] 1) fun K3 hK3 => have hJ2 : ∀ (l3 : List ac), lg p2 l3 = some r → K3.p [(3, .one (.pv (.rp [(gw p2)] 0 0))), (5, .one (.sl 0 6 0 l3.length))] [.arr 6 (ae.els l3)] := fun l3 h => hK3 h (Og ae l3 0 [5,31] (uP (eR _ _) fun r2 _ => (uC (uR .ret xF) (uQ (kS Tryz.f124 [1,1,1,1,1,0] 1) fun K21 hK21 => have hJ4 : ∀ (_ : Unit), v7 = some r → K21.p [] [.dead] := fun _ h => hK21 h (uR .ret xF); (uN cV p2.stats (uO (cd Tryz.f124 [1,1,1,1,1,0,1,0,0]) (kS Tryz.f124 [1,1,1,1,1,0,1,0] 1) fun R2 b2 => have hL2 : ∀ (k2 : Nat) (x2 : Int), fb p2 l3 k2 x2 = some r → (R2 k2).p [(3, .one (.pv (.rp [(gw p2)] 0 0))), (5, vl ae l3), (36, vl cV p2.stats), (37, vi (p2.stats.length : Int)), (38, vi x2)] [.dead] := by intro k2; induction k2 with | zero => intro x2 h; exact hH (fb.eq_1 ..) h | succ k2 ih2 => intro x2 h; exact b2 h (uU (fb.eq_2 ..) (uC (uL cV fun e2 a28 => (uP (de _ _ _) fun r3 _ => (uC (uR .ret (xN (xN xF))) (uW 53 ak [e2.min, e2.max] (uA (vi (2 : Int)) (IC 2 (uT (uL ak fun e3 a40 => (om 6 (uL ae fun e4 a42 => (uP (qd _ _) fun r4 _ => (uC (uR .ret (xN (xN xF))) (uT (uL ak fun e5 a51 => (om 6 (uM ae a42 (uP (qd _ _) fun r5 _ => (uC (uR .ret (xN (xN xF))) (uF (uQ (kS Tryz.f124 [1,1,1,1,1,0,1,0,0,1,1,0,0,1,1,1,1,0] 3) fun K60 hK60 => have hJ3 : ∀ (x3 : Bool), mH (fb p2 l3 k2) x2 x3 = some r → K60.p [(3, .one (.pv (.rp [(gw p2)] 0 0))), (5, vl ae l3), (36, vl cV p2.stats), (37, vi (p2.stats.length : Int)), (38, vi x2), (96, vb x3)] [.dead, .dead, .dead, .dead] := fun x3 h => hK60 h (uC (uR .ret (xN (xN xF))) (uJ (ih2 (IntKind.i64.wrap (x2 + 1))))); (uC (uJ (hJ3 true)) (uC (uJ (hJ3 true)) (uP (qS aY _ _) fun r6 _ => (uJ (hJ3 (decide ((0 : Int) < r6))))))))))))))))))))))))))) (uR (.exit 2) (xM (uJ (hJ4 ()))))))
 uE (hL2 aY (0 : Int)))))))); (uN ae p1 (KN (.li 5 6) (uO (cd Tryz.f124 [1,1,0,1,0,0]) (kS Tryz.f124 [1,1,0,1,0] 1) fun R1 b1 => have hL1 : ∀ (k1 : Nat) (l1 : List ac) (x1 : Int), fW p1 p2 k1 l1 x1 = some r → (R1 k1).p [(3, .one (.pv (.rp [(gw p2)] 0 0))), (5, .one (.sl 0 6 0 l1.length)), (15, vl ae p1), (16, vi (p1.length : Int)), (17, vi x1)] [.arr 6 (ae.els l1)] := by intro k1; induction k1 with | zero => intro l1 x1 h; exact hH (fW.eq_1 ..) h | succ k1 ih1 => intro l1 x1 h; exact b1 h (uU (fW.eq_2 ..) (uC (uQ (kS Tryz.f124 [1,1,0,1,0,0,1,1,0] 1) fun K8 hK8 => have hJ1 : ∀ (l2 : List ac), o8 (fW p1 p2 k1) x1 l2 = some r → K8.p [(3, .one (.pv (.rp [(gw p2)] 0 0))), (5, .one (.sl 0 6 0 l2.length)), (15, vl ae p1), (16, vi (p1.length : Int)), (17, vi x1)] [.arr 6 (ae.els l2)] := fun l2 h => hK8 h (uJ (ih1 l2 (IntKind.i64.wrap (x1 + 1)))); (uL ae fun e1 a10 => (uP (ul _) fun r1 _ => (uC (uW 26 ae [e1] (Ob ae 0 [e1] (uJ (hJ1 (l1 ++ [e1]))))) (uJ (hJ1 l1)))))) (uR (.exit 0) (xM (uJ (hJ2 l1))))))
 uE (hL1 aY [] (0 : Int))))))
def tn (p2 : ah) (r5 : (Bool × (List ac))) : Option Int := aB (qw r5.2 p2) fun r9 => some r9
def iH (p2 : ah) (e2 : di) (r5 : (Bool × (List ac))) : Nat → Int → Option Int
 | 0, _ => none
 | k1 + 1, x2 => al (decide (x2 < (e2.fields.length : Int))) (aB (at? e2.fields x2) fun e3 => aB (jP r5.2 e3.source) fun r6 => aB (at? r5.2 r6) fun e4 => aB (fo e3.transform e4.type) fun r7 => al (r7.2 != 0) (some (2 : Int)) (aB (at? p2.part x2) fun e5 => aB (iU r7.1 e5) fun r8 => al (r8 != 0) (some r8) ((iH p2 e2 r5 k1) (IntKind.i64.wrap (x2 + 1))))) (tn p2 r5)
def kI (p1 : aF) (p2 : ah) (x1 : Bool) : Option Int := al x1 (some (3 : Int)) (aB (at? p1.schemas p2.schema) fun e1 => aB (at? p1.specs p2.spec) fun e2 => aB (bk e2.fields e1) fun r5 => al r5.1 (some (9 : Int)) (al ((p2.part.length : Int) != (e2.fields.length : Int)) (some (1 : Int)) (iH p2 e2 r5 aY (0 : Int))))
def un (p1 : aF) (p2 : ah) : Option Int := aB (nn p2.name) fun r1 => al (!r1) (some (4 : Int)) (aB (dk p2.schema (0 : Int) (IntKind.i64.wrap ((p1.schemas.length : Int) - (1 : Int)))) fun r2 => al (!r2) (kI p1 p2 true) (aB (dk p2.spec (0 : Int) (IntKind.i64.wrap ((p1.specs.length : Int) - (1 : Int)))) fun r3 => al (!r3) (kI p1 p2 true) (aB (dk p2.rows (1 : Int) (2000 : Int)) fun r4 => al (!r4) (kI p1 p2 true) (kI p1 p2 (decide (p2.seq < (1 : Int)))))))
theorem C9 (p1 : aF) (p2 : ah) : CT Tryz.prog 84 [.ag [cl (eL ae) p1.schemas, cl cX p1.specs, ci p1.nextField, ci p1.nextSeq, ci p1.nextSnap, ci p1.purges, cl aH p1.snapshots, cl gY p1.refs, cl eF p1.props], .ag [kE p2.name, ci p2.schema, ci p2.spec, cl ak p2.part, ci p2.rows, ci p2.seq, cl cV p2.stats]] (un p1 p2) vi :=
  ej 108 [5, 6, 8, 9] Tryz.f84 fun r => (uP (xQ _) fun r1 _ => (uC (uR .ret xF) (uQ (kS Tryz.f84 [1,0,0,1,1,0] 3) fun K7 hK7 => have hJ1 : ∀ (x1 : Bool), kI p1 p2 x1 = some r → K7.p [(2, .one (.pv (.rp [[.ro ((eL ae).els p1.schemas), .ro (cX.els p1.specs), pi p1.nextField, pi p1.nextSeq, pi p1.nextSnap, pi p1.purges, .ro (aH.els p1.snapshots), .ro (gY.els p1.refs), .ro (eF.els p1.props)]] 0 0))), (3, .one (.pv (.rp [(gw p2)] 0 0))), (17, vb x1)] [] := fun x1 h => hK7 h (uC (uR .ret xF) (Ew 15 2 [0,1,2] (uL (eL ae) fun e1 a17 => (uL cX fun e2 a18 => (xx true [0] (gm _ _) fun r5 _ => (uC (uR .ret xF) (uN ak p2.part (uN aL e2.fields (uC (uR .ret xF) (uQ (kS Tryz.f84 [1,1,1,1,1,0] 1) fun K28 hK28 => have hJ2 : ∀ (_ : Unit), tn p2 r5 = some r → K28.p [(3, .one (.pv (.rp [(gw p2)] 0 0))), (5, .one (.pt 0 0 0 0))] [.box [cl ae r5.2], .dead] := fun _ h => hK28 h (uP (Ce _ _) fun r9 _ => (uR .ret xF)); (uN aL e2.fields (uO (cd Tryz.f84 [1,1,1,1,1,0,1,0,0]) (kS Tryz.f84 [1,1,1,1,1,0,1,0] 1) fun R1 b1 => have hL1 : ∀ (k1 : Nat) (x2 : Int), iH p2 e2 r5 k1 x2 = some r → (R1 k1).p [(3, .one (.pv (.rp [(gw p2)] 0 0))), (5, .one (.pt 0 0 0 0)), (71, vl aL e2.fields), (72, vi (e2.fields.length : Int)), (73, vi x2)] [.box [cl ae r5.2], .dead] := by intro k1; induction k1 with | zero => intro x2 h; exact hH (iH.eq_1 ..) h | succ k1 ih1 => intro x2 h; exact b1 h (uU (iH.eq_2 ..) (uC (uL aL fun e3 a35 => (Ew 16 1 [3,4] (uP (qC _ _) fun r6 _ => (uL ae fun e4 a38 => (uP (pC _ _) fun r7 _ => (uC (uR .ret (xN (xN xF))) (om 6 (uL ak fun e5 a45 => (uP (qd _ _) fun r8 _ => (uC (uR .ret (xN (xN xF))) (uJ (ih1 (IntKind.i64.wrap (x2 + 1)))))))))))))) (uR (.exit 1) (xM (uJ (hJ2 ()))))))
 uE (hL1 aY (0 : Int)))))))))))))); (uN (eL ae) p1.schemas (uP (de _ _ _) fun r2 _ => (uC (uJ (hJ1 true)) (uN cX p1.specs (uP (de _ _ _) fun r3 _ => (uC (uJ (hJ1 true)) (uP (de _ _ _) fun r4 _ => (uC (uJ (hJ1 true)) (uJ (hJ1 (decide (p2.seq < (1 : Int))))))))))))))))
def oO (rec1 : Int → Option Int) (x1 : Int) (x3 : Bool) : Option Int := al x3 (some (1 : Int)) (rec1 (IntKind.i64.wrap (x1 + 1)))
def oM (rec1 : Int → Option Int) (p2 : au) (x1 : Int) (e1 : ah) (x2 : Bool) : Option Int := al x2 (some (3 : Int)) (al (decide ((0 : Int) < x1)) (aB (at? p2.files (IntKind.i64.wrap (x1 - 1))) fun e2 => aB (some (Op.bytesLess e1.name.toList e2.name.toList || e1.name.toList == e2.name.toList)) fun y1 => oO rec1 x1 y1) (oO rec1 x1 false))
def wl : Option Int := some (0 : Int)
def dH (p1 : aF) (p2 : au) : Nat → Int → Option Int
 | 0, _ => none
 | k1 + 1, x1 => al (decide (x1 < (p2.files.length : Int))) (aB (at? p2.files x1) fun e1 => aB (un p1 e1) fun r1 => al (r1 != 0) (some r1) (al (decide (p2.seq < e1.seq)) (oM (dH p1 p2 k1) p2 x1 e1 true) (oM (dH p1 p2 k1) p2 x1 e1 (decide (p2.schema < e1.schema))))) (wl)
def qI (p1 : aF) (p2 : au) : Option Int := dH p1 p2 aY (0 : Int)
abbrev kZ (p2 : au) : List PV := [pi p2.id, pi p2.parent, pi p2.seq, pi p2.schema, pi p2.time, pi p2.kind, .ro (aP.els p2.files), .ro (cF.els p2.dat), .ro (cf.els p2.dby)]
theorem Ca (p1 : aF) (p2 : au) : CT Tryz.prog 49 [.ag [cl (eL ae) p1.schemas, cl cX p1.specs, ci p1.nextField, ci p1.nextSeq, ci p1.nextSnap, ci p1.purges, cl aH p1.snapshots, cl gY p1.refs, cl eF p1.props], .ag [ci p2.id, ci p2.parent, ci p2.seq, ci p2.schema, ci p2.time, ci p2.kind, cl aP p2.files, cl cF p2.dat, cl cf p2.dby]] (qI p1 p2) vi :=
  ej 51 [6] Tryz.f49 fun r => (uQ (kS Tryz.f49 [1,0] 1) fun K2 hK2 => have hJ3 : ∀ (_ : Unit), wl = some r → K2.p [] [] := fun _ h => hK2 h (uR .ret xF); (uN aP p2.files (uO (cd Tryz.f49 [1,0,1,0,0]) (kS Tryz.f49 [1,0,1,0] 1) fun R1 b1 => have hL1 : ∀ (k1 : Nat) (x1 : Int), dH p1 p2 k1 x1 = some r → (R1 k1).p [(2, .one (.pv (.rp [(cO p1)] 0 0))), (3, .one (.pv (.rp [(kZ p2)] 0 0))), (9, vl aP p2.files), (10, vi (p2.files.length : Int)), (11, vi x1)] [] := by intro k1; induction k1 with | zero => intro x1 h; exact hH (dH.eq_1 ..) h | succ k1 ih1 => intro x1 h; exact b1 h (uU (dH.eq_2 ..) (uC (uL aP fun e1 a9 => (uP (C9 _ _) fun r1 _ => (uC (uR .ret (xN (xN xF))) (uQ (kS Tryz.f49 [1,0,1,0,0,1,1,0,0,1,1,0,0] 4) fun K16 hK16 => have hJ1 : ∀ (x2 : Bool), oM (dH p1 p2 k1) p2 x1 e1 x2 = some r → K16.p [(2, .one (.pv (.rp [(cO p1)] 0 0))), (3, .one (.pv (.rp [(kZ p2)] 0 0))), (5, vi x1), (6, .one (.pt 0 0 0 0)), (9, vl aP p2.files), (10, vi (p2.files.length : Int)), (11, vi x1), (22, vb x2)] [.box [kE e1.name, ci e1.schema, ci e1.spec, cl ak e1.part, ci e1.rows, ci e1.seq, cl cV e1.stats]] := fun x2 h => hK16 h (uC (uR .ret (xN (xN xF))) (uQ (kS Tryz.f49 [1,0,1,0,0,1,1,0,0,1,1,0,1,1,0] 4) fun K20 hK20 => have hJ2 : ∀ (x3 : Bool), oO (dH p1 p2 k1) x1 x3 = some r → K20.p [(2, .one (.pv (.rp [(cO p1)] 0 0))), (3, .one (.pv (.rp [(kZ p2)] 0 0))), (9, vl aP p2.files), (10, vi (p2.files.length : Int)), (11, vi x1), (35, vb x3)] [.dead] := fun x3 h => hK20 h (uC (uR .ret (xN (xN xF))) (uJ (ih1 (IntKind.i64.wrap (x1 + 1))))); (om 12 (uC (uL aP fun e2 a22 => (uY 48 vb fun y1 => (uJ (hJ2 y1)))) (uJ (hJ2 false)))))); (uC (uJ (hJ1 true)) (uJ (hJ1 (decide (p2.schema < e1.schema))))))))) (uR (.exit 0) (xM (uJ (hJ3 ()))))))
 uE (hL1 aY (0 : Int)))))
def o6 (p1 : ah) (p2 : ByteArray) : Option Int := aB (strings_Compare p1.name p2) fun r1 => some r1
theorem vK (p1 : ah) (p2 : ByteArray) : CT Tryz.prog 126 [.ag [kE p1.name, ci p1.schema, ci p1.spec, cl ak p1.part, ci p1.rows, ci p1.seq, cl cV p1.stats], vs p2] (o6 p1 p2) vi :=
  ej 9 [] Tryz.f126 fun r => (uP (zp _ _) fun r1 _ => (uR .ret xF))
def bm (x3 : Int) (x4 : Bool) : Option (Int × Bool) := some (x3, x4)
def bI (p1 : (List ah)) (p2 : ByteArray) (x3 : Int) : Option (Int × Bool) := al (decide (x3 < (p1.length : Int))) (aB (at? p1 x3) fun e2 => aB (o6 e2 p2) fun r2 => bm x3 (r2 == 0)) (bm x3 false)
def aq (p1 : (List ah)) (p2 : ByteArray) : Nat → Int → Int → Option (Int × Bool)
 | 0, _, _ => none
 | k1 + 1, x1, x2 => al (decide (x1 < x2)) (aB (some ((IntKind.u64.wrap (IntKind.i64.wrap (x1 + x2))).fdiv (2 ^ (min (1 : Int).toNat (IntKind.u64).bits)))) fun y1 => aB (at? p1 (IntKind.i64.wrap y1)) fun e1 => aB (o6 e1 p2) fun r1 => al (decide (r1 < (0 : Int))) ((aq p1 p2 k1) (IntKind.i64.wrap ((IntKind.i64.wrap y1) + (1 : Int))) x2) ((aq p1 p2 k1) x1 (IntKind.i64.wrap y1))) (bI p1 p2 x1)
def bN (p1 : (List ah)) (p2 : ByteArray) : Option (Int × Bool) := aq p1 p2 aY (0 : Int) (p1.length : Int)
theorem eX (p1 : (List ah)) (p2 : ByteArray) : CT Tryz.prog 125 [vl aP p1, vs p2, .one (.pv (.fn 126 []))] (bN p1 p2) (fun r => .tp [vi r.1, vb r.2]) :=
  ej 49 [] Tryz.f125 fun r => (uN aP p1 (uQ (kS Tryz.f125 [1,1,1,0] 1) fun K4 hK4 => have hJ1 : ∀ (x3 : Int), bI p1 p2 x3 = some r → K4.p [(0, vl aP p1), (1, vs p2), (2, .one (.pv (.fn 126 []))), (8, vi (p1.length : Int)), (9, vi x3)] [] := fun x3 h => hK4 h (uQ (kS Tryz.f125 [1,1,1,1,0] 1) fun K14 hK14 => have hJ2 : ∀ (x4 : Bool), bm x3 x4 = some r → K14.p [(6, vi x3), (7, vb x4)] [] := fun x4 h => hK14 h (uR .ret xF); (uC (uL aP fun e2 a16 => (uP (vK _ _) fun r2 _ => (uJ (hJ2 (r2 == 0))))) (uJ (hJ2 false)))); (uO (cd Tryz.f125 [1,1,1,0,0,0]) (kS Tryz.f125 [1,1,1,0,0] 1) fun R1 b1 => have hL1 : ∀ (k1 : Nat) (x1 x2 : Int), aq p1 p2 k1 x1 x2 = some r → (R1 k1).p [(0, vl aP p1), (1, vs p2), (2, .one (.pv (.fn 126 []))), (8, vi (p1.length : Int)), (9, vi x1), (10, vi x2)] [] := by intro k1; induction k1 with | zero => intro x1 x2 h; exact hH (aq.eq_1 ..) h | succ k1 ih1 => intro x1 x2 h; exact b1 h (uU (aq.eq_2 ..) (uC (uY 22 (vk .u64) fun y1 => (uL aP fun e1 a11 => (uP (vK _ _) fun r1 _ => (uC (uJ (ih1 (IntKind.i64.wrap ((IntKind.i64.wrap y1) + (1 : Int))) x2)) (uJ (ih1 x1 (IntKind.i64.wrap y1))))))) (uR (.exit 0) (xM (uJ (hJ1 x1))))))
 uE (hL1 aY (0 : Int) (p1.length : Int)))))
def uk (p1 : au) (p2 : ByteArray) : Option (ah × Bool) := aB (bN p1.files p2) fun r1 => al (!r1.2) (some ((ah.mk ByteArray.empty (0 : Int) (0 : Int) [] (0 : Int) (0 : Int) []), false)) (aB (at? p1.files r1.1) fun e1 => some (e1, true))
theorem Dd (p1 : au) (p2 : ByteArray) : CT Tryz.prog 85 [.ag [ci p1.id, ci p1.parent, ci p1.seq, ci p1.schema, ci p1.time, ci p1.kind, cl aP p1.files, cl cF p1.dat, cl cf p1.dby], vs p2] (uk p1 p2) (fun r => .tp [.ag [kE r.1.name, ci r.1.schema, ci r.1.spec, cl ak r.1.part, ci r.1.rows, ci r.1.seq, cl cV r.1.stats], vb r.2]) :=
  ej 23 [4] Tryz.f85 fun r => (uP (eX _ _) fun r1 _ => (uC (uR .ret xF) (uL aP fun e1 a9 => (uR .ret xF))))
def vt (p1 : (List Int)) : Option Bool := some (decide ((0 : Int) < (p1.length : Int)))
def gd (p1 : (List Int)) : Nat → Int → Option Bool
 | 0, _ => none
 | k1 + 1, x1 => al (decide (x1 < (p1.length : Int))) (aB (at? p1 x1) fun e1 => aB (at? p1 (IntKind.i64.wrap (x1 - 1))) fun e2 => al (decide (e1 ≤ e2)) (some false) ((gd p1 k1) (IntKind.i64.wrap (x1 + 1)))) (vt p1)
def ng (p1 : (List Int)) : Option Bool := gd p1 aY (1 : Int)
theorem rD (p1 : (List Int)) : CT Tryz.prog 86 [vl eI p1] (ng p1) vb :=
  ej 23 [] Tryz.f86 fun r => (uQ (kS Tryz.f86 [1,0] 1) fun K2 hK2 => have hJ1 : ∀ (_ : Unit), vt p1 = some r → K2.p [(0, vl eI p1)] [] := fun _ h => hK2 h (uN eI p1 (uR .ret xF)); (uO (cd Tryz.f86 [1,0,1,0,0]) (kS Tryz.f86 [1,0,1,0] 1) fun R1 b1 => have hL1 : ∀ (k1 : Nat) (x1 : Int), gd p1 k1 x1 = some r → (R1 k1).p [(0, vl eI p1), (3, vi x1)] [] := by intro k1; induction k1 with | zero => intro x1 h; exact hH (gd.eq_1 ..) h | succ k1 ih1 => intro x1 h; exact b1 h (uU (gd.eq_2 ..) (uN eI p1 (uC (om 9 (uL eI fun e1 a9 => (uL eI fun e2 a10 => (uC (uR .ret (xN (xN xF))) (uJ (ih1 (IntKind.i64.wrap (x1 + 1)))))))) (uR (.exit 0) (xM (uJ (hJ1 ())))))))
 uE (hL1 aY (1 : Int))))
def ns (p1 : (List ac)) (r1 : Int) (x1 : Bool) : Option (am × Bool) := al x1 (some ((am.mk (0 : Int) (0 : Int) []), false)) (aB (at? p1 r1) fun e2 => some (e2.type, true))
def nS (p1 : (List ac)) (p2 : Int) : Option (am × Bool) := aB (jP p1 p2) fun r1 => al (decide (r1 < (0 : Int))) (ns p1 r1 true) (aB (at? p1 r1) fun e1 => aB (pP e1.type) fun r2 => ns p1 r1 (!r2))
theorem vu (p1 : (List ac)) (p2 : Int) : CT Tryz.prog 129 [vl ae p1, vi p2] (nS p1 p2) (fun r => .tp [.ag [ci r.1.kind, ci r.1.scale, cl ae r.1.fields], vb r.2]) :=
  ej 27 [4] Tryz.f129 fun r => (uP (qC _ _) fun r1 _ => (uQ (kS Tryz.f129 [1,1,0,0] 2) fun K5 hK5 => have hJ1 : ∀ (x1 : Bool), ns p1 r1 x1 = some r → K5.p [(0, vl ae p1), (4, .one (.pt 0 0 0 0)), (6, vi r1), (20, vb x1)] [.box [ci (0 : Int), ci (0 : Int), .pv (.s (.slice none 0 0))]] := fun x1 h => hK5 h (uC (uR .ret xF) (uL ae fun e2 a12 => (uR .ret xF))); (uC (uJ (hJ1 true)) (uL ae fun e1 a7 => (uP (ul _) fun r2 _ => (uJ (hJ1 (!r2))))))))
def xR (p1 : Int) (p2 : (List ac)) : Option (Bool × (List ac)) := aB (nS p2 p1) fun r1 => some ((!r1.2), p2)
theorem Dp (p1 : Int) (p2 : (List ac)) : CM Tryz.prog 128 [vi p1, .one (.pt 0 0 0 0)] [.box [cl ae p2]] (xR p1 p2) (fun r => vb r.1) (fun r => [.box [cl ae r.2]]) :=
  pH 1 14 [4] Tryz.f128 fun r => (uP (vu _ _) fun r1 _ => (uR .ret qn))
def gX (z2 : List ac) : Option (Int × (List ac)) := some ((-1 : Int), z2)
def be (p1 : (List Int)) : Nat → List ac → Int → Option (Int × (List ac))
 | 0, _, _ => none
 | k1 + 1, z1, x1 => al (decide (x1 < (p1.length : Int))) (aB (at? p1 x1) fun e1 => aB (xR e1 z1) fun r1 => al r1.1 (some (x1, r1.2)) ((be p1 k1) r1.2 (IntKind.i64.wrap (x1 + 1)))) (gX z1)
def eU (p1 : (List Int)) (p2 : (List ac)) : Option (Int × (List ac)) := be p1 aY p2 (0 : Int)
theorem mb (p1 : (List Int)) (p2 : (List ac)) : CM Tryz.prog 164 [vl eI p1, .one (.fn 128 [.pt 0 0 0 0])] [.box [cl ae p2]] (eU p1 p2) (fun r => vi r.1) (fun r => [.box [cl ae r.2]]) :=
  pH 1 19 [] Tryz.f164 fun r => (uQ (kS Tryz.f164 [1,0] 1) fun K2 hK2 => have hJ1 : ∀ (z2 : List ac), gX z2 = some r → K2.p [] [.box [cl ae z2]] := fun z2 h => hK2 h (uR .ret qn); (uN eI p1 (uO (cd Tryz.f164 [1,0,1,0,0]) (kS Tryz.f164 [1,0,1,0] 1) fun R1 b1 => have hL1 : ∀ (k1 : Nat) (z1 : List ac) (x1 : Int), be p1 k1 z1 x1 = some r → (R1 k1).p [(0, vl eI p1), (1, .one (.fn 128 [.pt 0 0 0 0])), (7, vi (p1.length : Int)), (8, vi x1)] [.box [cl ae z1]] := by intro k1; induction k1 with | zero => intro z1 x1 h; exact hH (be.eq_1 ..) h | succ k1 ih1 => intro z1 x1 h; exact b1 h (uU (be.eq_2 ..) (uC (uL eI fun e1 a10 => (xx true [0] (Dp _ _) fun r1 _ => (uC (uR .ret (xN (xN qn))) (uJ (ih1 r1.2 (IntKind.i64.wrap (x1 + 1))))))) (uR (.exit 0) (xM (uJ (hJ1 z1))))))
 uE (hL1 aY p2 (0 : Int)))))
def cj (p1 : (List Int)) (p2 : (List ac)) : Option (Bool × (List ac)) := aB (eU p1 p2) fun r1 => some ((decide ((0 : Int) ≤ r1.1)), r1.2)
theorem lu (p1 : (List Int)) (p2 : (List ac)) : CM Tryz.prog 130 [vl eI p1, .one (.fn 128 [.pt 0 0 0 0])] [.box [cl ae p2]] (cj p1 p2) (fun r => vb r.1) (fun r => [.box [cl ae r.2]]) :=
  pH 1 9 [] Tryz.f130 fun r => (xx true [0] (mb _ _) fun r1 _ => (uR .ret qn))
def mh (p1 p2 : (List af)) : Option Int := aB (ay aY p1 p2) fun r1 => some r1
theorem w7 (p1 p2 : (List af)) : CT Tryz.prog 131 [vl ak p1, vl ak p2] (mh p1 p2) vi :=
  ej 8 [] Tryz.f131 fun r => (uP (cw aY _ _) fun r1 _ => (uR .ret xF))
def qx (rec1 : Int → Option Int) (x3 : Int) (x5 : Bool) : Option Int := al x5 (some (1 : Int)) (rec1 (IntKind.i64.wrap (x3 + 1)))
def sU (rec1 : Int → Option Int) (p2 : cp) (p3 : Bool) (x3 : Int) (e2 : (List af)) : Option Int := al p3 (al (decide ((0 : Int) < x3)) (aB (at? p2.keys (IntKind.i64.wrap (x3 - 1))) fun e5 => aB (mh e5 e2) fun r6 => qx rec1 x3 (decide ((0 : Int) ≤ r6))) (qx rec1 x3 false)) (qx rec1 x3 false)
def lw (rec1 : Int → Option Int) (p2 : cp) (p3 : Bool) (z1 : List ac) (x3 : Int) (e2 : (List af)) : Nat → Int → Option Int
 | 0, _ => none
 | k2 + 1, x4 => al (decide (x4 < (e2.length : Int))) (aB (at? e2 x4) fun e3 => aB (at? p2.ids x4) fun e4 => aB (nS z1 e4) fun r4 => aB (iU r4.1 e3) fun r5 => al (r5 != 0) (some r5) ((lw rec1 p2 p3 z1 x3 e2 k2) (IntKind.i64.wrap (x4 + 1)))) (sU rec1 p2 p3 x3 e2)
def Ao : Option Int := some (0 : Int)
def fx (p2 : cp) (p3 : Bool) (z1 : List ac) : Nat → Int → Option Int
 | 0, _ => none
 | k1 + 1, x3 => al (decide (x3 < (p2.keys.length : Int))) (aB (at? p2.keys x3) fun e2 => al ((e2.length : Int) != (p2.ids.length : Int)) (some (1 : Int)) (lw (fx p2 p3 z1 k1) p2 p3 z1 x3 e2 aY (0 : Int))) (Ao)
def mM (p2 : cp) (p3 : Bool) (z1 : List ac) (x2 : Bool) : Option Int := al x2 (some (9 : Int)) (aB (ng p2.ids) fun r3 => al (!r3) (some (1 : Int)) (al (decide ((200 : Int) < (p2.keys.length : Int))) (some (7 : Int)) (al ((p2.keys.length : Int) == 0) (some (9 : Int)) (fx p2 p3 z1 aY (0 : Int)))))
def qu (p1 : aF) (p2 : cp) (p3 x1 : Bool) : Option Int := al x1 (some (3 : Int)) (aB (at? p1.schemas p2.schema) fun e1 => al ((p2.ids.length : Int) == 0) (mM p2 p3 e1 true) (aB (cj p2.ids e1) fun r2 => mM p2 p3 r2.2 r2.1))
def zn (p1 : aF) (p2 : cp) (p3 : Bool) : Option Int := aB (dk p2.schema (0 : Int) (IntKind.i64.wrap ((p1.schemas.length : Int) - (1 : Int)))) fun r1 => al (!r1) (qu p1 p2 p3 true) (qu p1 p2 p3 (decide (p2.seq < (1 : Int))))
abbrev Af (p2 : cp) : List PV := [pi p2.schema, .ro (eI.els p2.ids), .ro ((eL ak).els p2.keys), pi p2.seq]
theorem F3 (p1 : aF) (p2 : cp) (p3 : Bool) : CT Tryz.prog 87 [.ag [cl (eL ae) p1.schemas, cl cX p1.specs, ci p1.nextField, ci p1.nextSeq, ci p1.nextSnap, ci p1.purges, cl aH p1.snapshots, cl gY p1.refs, cl eF p1.props], .ag [ci p2.schema, cl eI p2.ids, cl (eL ak) p2.keys, ci p2.seq], vb p3] (zn p1 p2 p3) vi :=
  ej 117 [7, 12, 13] Tryz.f87 fun r => (uQ (kS Tryz.f87 [1,0,0] 2) fun K3 hK3 => have hJ1 : ∀ (x1 : Bool), qu p1 p2 p3 x1 = some r → K3.p [(2, vb p3), (3, .one (.pv (.rp [[.ro ((eL ae).els p1.schemas), .ro (cX.els p1.specs), pi p1.nextField, pi p1.nextSeq, pi p1.nextSnap, pi p1.purges, .ro (aH.els p1.snapshots), .ro (gY.els p1.refs), .ro (eF.els p1.props)]] 0 0))), (4, .one (.pv (.rp [(Af p2)] 0 0))), (28, vb x1)] [] := fun x1 h => hK3 h (uC (uR .ret xF) (uL (eL ae) fun e1 a9 => (uQ (kS Tryz.f87 [1,1,1,1,0,0,0] 3) fun K12 hK12 => have hJ2 : ∀ (z1 : List ac) (x2 : Bool), mM p2 p3 z1 x2 = some r → K12.p [(2, vb p3), (4, .one (.pv (.rp [(Af p2)] 0 0))), (7, .one (.pt 0 0 0 0)), (36, vb x2)] [.box [cl ae z1]] := fun z1 x2 h => hK12 h (uC (uR .ret xF) (uP (rD _) fun r3 _ => (uC (uR .ret xF) (uN (eL ak) p2.keys (uC (uR .ret xF) (uN (eL ak) p2.keys (uC (uR .ret xF) (uQ (kS Tryz.f87 [1,1,1,1,1,0] 1) fun K27 hK27 => have hJ5 : ∀ (_ : Unit), Ao = some r → K27.p [] [.dead] := fun _ h => hK27 h (uR .ret xF); (uN (eL ak) p2.keys (uO (cd Tryz.f87 [1,1,1,1,1,0,1,0,0]) (kS Tryz.f87 [1,1,1,1,1,0,1,0] 1) fun R1 b1 => have hL1 : ∀ (k1 : Nat) (x3 : Int), fx p2 p3 z1 k1 x3 = some r → (R1 k1).p [(2, vb p3), (4, .one (.pv (.rp [(Af p2)] 0 0))), (7, .one (.pt 0 0 0 0)), (63, vl (eL ak) p2.keys), (64, vi (p2.keys.length : Int)), (65, vi x3)] [.box [cl ae z1]] := by intro k1; induction k1 with | zero => intro x3 h; exact hH (fx.eq_1 ..) h | succ k1 ih1 => intro x3 h; exact b1 h (uU (fx.eq_2 ..) (uC (uL (eL ak) fun e2 a34 => (uN ak e2 (uN eI p2.ids (uC (uR .ret (xN (xN xF))) (uQ (kS Tryz.f87 [1,1,1,1,1,0,1,0,0,1,1,0,0,1,1,0] 3) fun K39 hK39 => have hJ3 : ∀ (_ : Unit), sU (fx p2 p3 z1 k1) p2 p3 x3 e2 = some r → K39.p [(2, vb p3), (4, .one (.pv (.rp [(Af p2)] 0 0))), (7, .one (.pt 0 0 0 0)), (9, vi x3), (10, vl ak e2), (63, vl (eL ak) p2.keys), (64, vi (p2.keys.length : Int)), (65, vi x3)] [.box [cl ae z1]] := fun _ h => hK39 h (uQ (kS Tryz.f87 [1,1,1,1,1,0,1,0,0,1,1,0,0,1,1,1,0] 3) fun K55 hK55 => have hJ4 : ∀ (x5 : Bool), qx (fx p2 p3 z1 k1) x3 x5 = some r → K55.p [(2, vb p3), (4, .one (.pv (.rp [(Af p2)] 0 0))), (7, .one (.pt 0 0 0 0)), (63, vl (eL ak) p2.keys), (64, vi (p2.keys.length : Int)), (65, vi x3), (115, vb x5)] [.box [cl ae z1]] := fun x5 h => hK55 h (uC (uR .ret (xN (xN xF))) (uJ (ih1 (IntKind.i64.wrap (x3 + 1))))); (uC (uC (uL (eL ak) fun e5 a58 => (uP (w7 _ _) fun r6 _ => (uJ (hJ4 (decide ((0 : Int) ≤ r6)))))) (uJ (hJ4 false))) (uJ (hJ4 false)))); (uN ak e2 (uO (cd Tryz.f87 [1,1,1,1,1,0,1,0,0,1,1,0,0,1,1,0,1,0,0]) (kS Tryz.f87 [1,1,1,1,1,0,1,0,0,1,1,0,0,1,1,0,1,0] 1) fun R2 b2 => have hL2 : ∀ (k2 : Nat) (x4 : Int), lw (fx p2 p3 z1 k1) p2 p3 z1 x3 e2 k2 x4 = some r → (R2 k2).p [(2, vb p3), (4, .one (.pv (.rp [(Af p2)] 0 0))), (7, .one (.pt 0 0 0 0)), (9, vi x3), (10, vl ak e2), (63, vl (eL ak) p2.keys), (64, vi (p2.keys.length : Int)), (65, vi x3), (76, vl ak e2), (77, vi (e2.length : Int)), (78, vi x4)] [.box [cl ae z1]] := by intro k2; induction k2 with | zero => intro x4 h; exact hH (lw.eq_1 ..) h | succ k2 ih2 => intro x4 h; exact b2 h (uU (lw.eq_2 ..) (uC (uL ak fun e3 a46 => (Ew 12 1 [2,3] (uL eI fun e4 a48 => (uP (vu _ _) fun r4 _ => (uP (qd _ _) fun r5 _ => (uC (uR .ret (xN (xN (xN (xN xF))))) (uJ (ih2 (IntKind.i64.wrap (x4 + 1)))))))))) (uR (.exit 3) (xM (uJ (hJ3 ()))))))
 uE (hL2 aY (0 : Int))))))))) (uR (.exit 1) (xM (uJ (hJ5 ()))))))
 uE (hL1 aY (0 : Int)))))))))))); (uN eI p2.ids (uC (uJ (hJ2 e1 true)) (xx true [0] (lu _ _) fun r2 _ => (uJ (hJ2 r2.2 r2.1)))))))); (uN (eL ae) p1.schemas (uP (de _ _ _) fun r1 _ => (uC (uJ (hJ1 true)) (uJ (hJ1 (decide (p2.seq < (1 : Int)))))))))
def qJ (p1 : ah) (p2 : Int) (p3 : (List Int)) (p4 : (List (List af))) (p5 : Int) : Option Bool := some (decide (p1.seq < p5))
theorem yk (p1 : ah) (p2 : Int) (p3 : (List Int)) (p4 : (List (List af))) (p5 : Int) : CT Tryz.prog 133 [.ag [kE p1.name, ci p1.schema, ci p1.spec, cl ak p1.part, ci p1.rows, ci p1.seq, cl cV p1.stats], .one (.pv (.rp [[pi p2, .ro (eI.els p3), .ro ((eL ak).els p4), pi p5]] 0 0))] (qJ p1 p2 p3 p4 p5) vb :=
  ej 9 [] Tryz.f133 fun r => (uR .ret xF)
def dG : Option Int := some (-1 : Int)
def aN (p1 : (List ah)) (p2 : Int) (p3 : (List Int)) (p4 : (List (List af))) (p5 : Int) : Nat → Int → Option Int
 | 0, _ => none
 | k1 + 1, x1 => al (decide (x1 < (p1.length : Int))) (aB (at? p1 x1) fun e1 => aB (qJ e1 p2 p3 p4 p5) fun r1 => al r1 (some x1) ((aN p1 p2 p3 p4 p5 k1) (IntKind.i64.wrap (x1 + 1)))) (dG)
def cr (p1 : (List ah)) (p2 : Int) (p3 : (List Int)) (p4 : (List (List af))) (p5 : Int) : Option Int := aN p1 p2 p3 p4 p5 aY (0 : Int)
theorem gS (p1 : (List ah)) (p2 : Int) (p3 : (List Int)) (p4 : (List (List af))) (p5 : Int) : CT Tryz.prog 166 [vl aP p1, .one (.fn 133 [.pv (.rp [[pi p2, .ro (eI.els p3), .ro ((eL ak).els p4), pi p5]] 0 0)])] (cr p1 p2 p3 p4 p5) vi :=
  ej 19 [] Tryz.f166 fun r => (uQ (kS Tryz.f166 [1,0] 1) fun K2 hK2 => have hJ1 : ∀ (_ : Unit), dG = some r → K2.p [] [] := fun _ h => hK2 h (uR .ret xF); (uN aP p1 (uO (cd Tryz.f166 [1,0,1,0,0]) (kS Tryz.f166 [1,0,1,0] 1) fun R1 b1 => have hL1 : ∀ (k1 : Nat) (x1 : Int), aN p1 p2 p3 p4 p5 k1 x1 = some r → (R1 k1).p [(0, vl aP p1), (1, .one (.fn 133 [.pv (.rp [[pi p2, .ro (eI.els p3), .ro ((eL ak).els p4), pi p5]] 0 0)])), (7, vi (p1.length : Int)), (8, vi x1)] [] := by intro k1; induction k1 with | zero => intro x1 h; exact hH (aN.eq_1 ..) h | succ k1 ih1 => intro x1 h; exact b1 h (uU (aN.eq_2 ..) (uC (uL aP fun e1 a10 => (uP (yk _ _ _ _ _) fun r1 _ => (uC (uR .ret (xN (xN xF))) (uJ (ih1 (IntKind.i64.wrap (x1 + 1))))))) (uR (.exit 0) (xM (uJ (hJ1 ()))))))
 uE (hL1 aY (0 : Int)))))
def cc (p1 : (List ah)) (p2 : Int) (p3 : (List Int)) (p4 : (List (List af))) (p5 : Int) : Option Bool := aB (cr p1 p2 p3 p4 p5) fun r1 => some (decide ((0 : Int) ≤ r1))
theorem gz (p1 : (List ah)) (p2 : Int) (p3 : (List Int)) (p4 : (List (List af))) (p5 : Int) : CT Tryz.prog 132 [vl aP p1, .one (.fn 133 [.pv (.rp [[pi p2, .ro (eI.els p3), .ro ((eL ak).els p4), pi p5]] 0 0)])] (cc p1 p2 p3 p4 p5) vb :=
  ej 9 [] Tryz.f132 fun r => (uP (gS _ _ _ _ _) fun r1 _ => (uR .ret xF))
def qE (p1 : (List ah)) (p2 : cp) : Option Bool := aB (cc p1 p2.schema p2.ids p2.keys p2.seq) fun r1 => some r1
theorem xA (p1 : (List ah)) (p2 : cp) : CT Tryz.prog 88 [vl aP p1, .ag [ci p2.schema, cl eI p2.ids, cl (eL ak) p2.keys, ci p2.seq]] (qE p1 p2) vb :=
  ej 8 [] Tryz.f88 fun r => (uP (gz _ _ _ _ _) fun r1 _ => (uR .ret xF))
def nq (rec1 : Int → Option Int) (x1 : Int) (x3 : Bool) : Option Int := al x3 (some (3 : Int)) (rec1 (IntKind.i64.wrap (x1 + 1)))
def kV (rec1 : Int → Option Int) (x1 : Int) (e1 : i8) (r1 : (ah × Bool)) (x2 : Bool) : Option Int := al x2 (some (1 : Int)) (aB (at? e1.rows (0 : Int)) fun e3 => al (decide (e3 < (0 : Int))) (nq rec1 x1 true) (aB (at? e1.rows (IntKind.i64.wrap ((e1.rows.length : Int) - (1 : Int)))) fun e4 => nq rec1 x1 (decide (r1.1.rows ≤ e4))))
def kY (rec2 : Int → Option Int) (x4 : Int) (x5 : Bool) : Option Int := al x5 (some (1 : Int)) (rec2 (IntKind.i64.wrap (x4 + 1)))
def tR : Option Int := some (0 : Int)
def dT (p1 : aF) (p2 : au) : Nat → Int → Option Int
 | 0, _ => none
 | k2 + 1, x4 => al (decide (x4 < (p2.dby.length : Int))) (aB (at? p2.dby x4) fun e5 => aB (zn p1 e5 true) fun r4 => al (r4 != 0) (some r4) (al (decide (p2.seq < e5.seq)) (some (3 : Int)) (al (decide ((0 : Int) < x4)) (aB (at? p2.dby (IntKind.i64.wrap (x4 - 1))) fun e6 => al (decide (e5.seq < e6.seq)) (kY (dT p1 p2 k2) x4 true) (aB (qE p2.files e5) fun r5 => kY (dT p1 p2 k2) x4 (!r5))) (aB (qE p2.files e5) fun r6 => kY (dT p1 p2 k2) x4 (!r6))))) (tR)
def ll (p1 : aF) (p2 : au) : Option Int := dT p1 p2 aY (0 : Int)
def cy (p1 : aF) (p2 : au) : Nat → Int → Option Int
 | 0, _ => none
 | k1 + 1, x1 => al (decide (x1 < (p2.dat.length : Int))) (aB (at? p2.dat x1) fun e1 => aB (uk p2 e1.file) fun r1 => al (!r1.2) (some (9 : Int)) (al (decide ((0 : Int) < x1)) (aB (at? p2.dat (IntKind.i64.wrap (x1 - 1))) fun e2 => aB (some (Op.bytesLess e1.file.toList e2.file.toList || e1.file.toList == e2.file.toList)) fun y1 => al y1 (kV (cy p1 p2 k1) x1 e1 r1 true) (aB (ng e1.rows) fun r2 => kV (cy p1 p2 k1) x1 e1 r1 (!r2))) (aB (ng e1.rows) fun r3 => kV (cy p1 p2 k1) x1 e1 r1 (!r3)))) (ll p1 p2)
def nW (p1 : aF) (p2 : au) : Option Int := cy p1 p2 aY (0 : Int)
theorem AI (p1 : aF) (p2 : au) : CT Tryz.prog 50 [.ag [cl (eL ae) p1.schemas, cl cX p1.specs, ci p1.nextField, ci p1.nextSeq, ci p1.nextSnap, ci p1.purges, cl aH p1.snapshots, cl gY p1.refs, cl eF p1.props], .ag [ci p2.id, ci p2.parent, ci p2.seq, ci p2.schema, ci p2.time, ci p2.kind, cl aP p2.files, cl cF p2.dat, cl cf p2.dby]] (nW p1 p2) vi :=
  ej 114 [6, 7, 10] Tryz.f50 fun r => (uQ (kS Tryz.f50 [1,0] 1) fun K2 hK2 => have hJ3 : ∀ (_ : Unit), ll p1 p2 = some r → K2.p [(2, .one (.pv (.rp [(cO p1)] 0 0))), (3, .one (.pv (.rp [(kZ p2)] 0 0)))] [] := fun _ h => hK2 h (uQ (kS Tryz.f50 [1,1,0] 1) fun K30 hK30 => have hJ5 : ∀ (_ : Unit), tR = some r → K30.p [] [] := fun _ h => hK30 h (uR .ret xF); (uN cf p2.dby (uO (cd Tryz.f50 [1,1,0,1,0,0]) (kS Tryz.f50 [1,1,0,1,0] 1) fun R2 b2 => have hL2 : ∀ (k2 : Nat) (x4 : Int), dT p1 p2 k2 x4 = some r → (R2 k2).p [(2, .one (.pv (.rp [(cO p1)] 0 0))), (3, .one (.pv (.rp [(kZ p2)] 0 0))), (72, vl cf p2.dby), (73, vi (p2.dby.length : Int)), (74, vi x4)] [] := by intro k2; induction k2 with | zero => intro x4 h; exact hH (dT.eq_1 ..) h | succ k2 ih2 => intro x4 h; exact b2 h (uU (dT.eq_2 ..) (uC (uL cf fun e5 a37 => (uP (F3 _ _ _) fun r4 _ => (uC (uR .ret (xN (xN xF))) (uC (uR .ret (xN (xN xF))) (uQ (kS Tryz.f50 [1,1,0,1,0,0,1,1,0,0,1,1,0,1,1,0] 4) fun K47 hK47 => have hJ4 : ∀ (x5 : Bool), kY (dT p1 p2 k2) x4 x5 = some r → K47.p [(2, .one (.pv (.rp [(cO p1)] 0 0))), (3, .one (.pv (.rp [(kZ p2)] 0 0))), (72, vl cf p2.dby), (73, vi (p2.dby.length : Int)), (74, vi x4), (91, vb x5)] [.dead] := fun x5 h => hK47 h (uC (uR .ret (xN (xN xF))) (uJ (ih2 (IntKind.i64.wrap (x4 + 1))))); (om 18 (uC (uL cf fun e6 a49 => (uC (uJ (hJ4 true)) (uP (xA _ _) fun r5 _ => (uJ (hJ4 (!r5)))))) (uP (xA _ _) fun r6 _ => (uJ (hJ4 (!r6))))))))))) (uR (.exit 3) (xM (uJ (hJ5 ()))))))
 uE (hL2 aY (0 : Int))))); (uN cF p2.dat (uO (cd Tryz.f50 [1,0,1,0,0]) (kS Tryz.f50 [1,0,1,0] 1) fun R1 b1 => have hL1 : ∀ (k1 : Nat) (x1 : Int), cy p1 p2 k1 x1 = some r → (R1 k1).p [(2, .one (.pv (.rp [(cO p1)] 0 0))), (3, .one (.pv (.rp [(kZ p2)] 0 0))), (13, vl cF p2.dat), (14, vi (p2.dat.length : Int)), (15, vi x1)] [] := by intro k1; induction k1 with | zero => intro x1 h; exact hH (cy.eq_1 ..) h | succ k1 ih1 => intro x1 h; exact b1 h (uU (cy.eq_2 ..) (uC (uL cF fun e1 a9 => (uP (Dd _ _) fun r1 _ => (uC (uR .ret (xN (xN xF))) (uQ (kS Tryz.f50 [1,0,1,0,0,1,1,0,0,1,1,0,1,1,0] 4) fun K15 hK15 => have hJ1 : ∀ (x2 : Bool), kV (cy p1 p2 k1) x1 e1 r1 x2 = some r → K15.p [(2, .one (.pv (.rp [(cO p1)] 0 0))), (3, .one (.pv (.rp [(kZ p2)] 0 0))), (6, .one (.pt 0 0 0 0)), (7, .one (.pt 1 0 0 0)), (13, vl cF p2.dat), (14, vi (p2.dat.length : Int)), (15, vi x1), (30, vb x2)] [.box [kE e1.file, cl eI e1.rows], .box [kE r1.1.name, ci r1.1.schema, ci r1.1.spec, cl ak r1.1.part, ci r1.1.rows, ci r1.1.seq, cl cV r1.1.stats]] := fun x2 h => hK15 h (uC (uR .ret (xN (xN xF))) (uQ (kS Tryz.f50 [1,0,1,0,0,1,1,0,0,1,1,0,1,1,1,1,0] 4) fun K24 hK24 => have hJ2 : ∀ (x3 : Bool), nq (cy p1 p2 k1) x1 x3 = some r → K24.p [(2, .one (.pv (.rp [(cO p1)] 0 0))), (3, .one (.pv (.rp [(kZ p2)] 0 0))), (13, vl cF p2.dat), (14, vi (p2.dat.length : Int)), (15, vi x1), (51, vb x3)] [.dead, .dead] := fun x3 h => hK24 h (uC (uR .ret (xN (xN xF))) (uJ (ih1 (IntKind.i64.wrap (x1 + 1))))); (om 16 (uL eI fun e3 a25 => (uC (uJ (hJ2 true)) (uN eI e1.rows (uL eI fun e4 a27 => (uJ (hJ2 (decide (r1.1.rows ≤ e4))))))))))); (om 12 (uC (uL cF fun e2 a17 => (uY 43 vb fun y1 => (uC (uJ (hJ1 true)) (uP (rD _) fun r2 _ => (uJ (hJ1 (!r2))))))) (uP (rD _) fun r3 _ => (uJ (hJ1 (!r3)))))))))) (uR (.exit 0) (xM (uJ (hJ3 ()))))))
 uE (hL1 aY (0 : Int)))))
def jQ (rec1 : Int → Option Int) (p1 : aF) (x1 : Int) (e1 : au) (x5 : Bool) : Option Int := al x5 (some (5 : Int)) (aB (qI p1 e1) fun r7 => al (r7 != 0) (some r7) (aB (nW p1 e1) fun r8 => al (r8 != 0) (some r8) (rec1 (IntKind.i64.wrap (x1 + 1)))))
def gh (rec1 : Int → Option Int) (p1 : aF) (x1 : Int) (e1 : au) (x4 : Bool) : Option Int := al x4 (some (3 : Int)) (al (decide ((0 : Int) < x1)) (aB (at? p1.snapshots (IntKind.i64.wrap (x1 - 1))) fun e2 => al (decide (e1.id ≤ e2.id)) (jQ rec1 p1 x1 e1 true) (jQ rec1 p1 x1 e1 (decide (e1.seq ≤ e2.seq)))) (jQ rec1 p1 x1 e1 false))
def lF (rec1 : Int → Option Int) (p1 : aF) (x1 : Int) (e1 : au) (x3 : Bool) : Option Int := al x3 (gh rec1 p1 x1 e1 x3) (aB (dk e1.kind (1 : Int) (3 : Int)) fun r6 => gh rec1 p1 x1 e1 (!r6))
def iy (rec1 : Int → Option Int) (p1 : aF) (x1 : Int) (e1 : au) (x2 : Bool) : Option Int := al x2 (gh rec1 p1 x1 e1 x2) (aB (dk e1.schema (0 : Int) (IntKind.i64.wrap ((p1.schemas.length : Int) - (1 : Int)))) fun r4 => al (!r4) (lF rec1 p1 x1 e1 true) (aB (dk e1.time (-62135596800 : Int) (253402300799 : Int)) fun r5 => lF rec1 p1 x1 e1 (!r5)))
def rZ : Option Int := some (0 : Int)
def bE (p1 : aF) : Nat → Int → Option Int
 | 0, _ => none
 | k1 + 1, x1 => al (decide (x1 < (p1.snapshots.length : Int))) (aB (at? p1.snapshots x1) fun e1 => aB (dk e1.id (1 : Int) (IntKind.i64.wrap (p1.nextSnap - 1))) fun r1 => al (!r1) (iy (bE p1 k1) p1 x1 e1 true) (aB (dk e1.parent (0 : Int) (IntKind.i64.wrap (e1.id - 1))) fun r2 => al (!r2) (iy (bE p1 k1) p1 x1 e1 true) (aB (dk e1.seq (1 : Int) (IntKind.i64.wrap (p1.nextSeq - 1))) fun r3 => iy (bE p1 k1) p1 x1 e1 (!r3)))) (rZ)
def oe (p1 : aF) : Option Int := bE p1 aY (0 : Int)
abbrev td (e1 : au) : List CV := [ci e1.id, ci e1.parent, ci e1.seq, ci e1.schema, ci e1.time, ci e1.kind, cl aP e1.files, cl cF e1.dat, cl cf e1.dby]
theorem zc (p1 : aF) : CT Tryz.prog 15 [.ag [cl (eL ae) p1.schemas, cl cX p1.specs, ci p1.nextField, ci p1.nextSeq, ci p1.nextSnap, ci p1.purges, cl aH p1.snapshots, cl gY p1.refs, cl eF p1.props]] (oe p1) vi :=
  ej 99 [4] Tryz.f15 fun r => (uQ (kS Tryz.f15 [1,0] 1) fun K2 hK2 => have hJ5 : ∀ (_ : Unit), rZ = some r → K2.p [] [] := fun _ h => hK2 h (uR .ret xF); (uN aH p1.snapshots (uO (cd Tryz.f15 [1,0,1,0,0]) (kS Tryz.f15 [1,0,1,0] 1) fun R1 b1 => have hL1 : ∀ (k1 : Nat) (x1 : Int), bE p1 k1 x1 = some r → (R1 k1).p [(1, .one (.pv (.rp [(cO p1)] 0 0))), (8, vl aH p1.snapshots), (9, vi (p1.snapshots.length : Int)), (10, vi x1)] [] := by intro k1; induction k1 with | zero => intro x1 h; exact hH (bE.eq_1 ..) h | succ k1 ih1 => intro x1 h; exact b1 h (uU (bE.eq_2 ..) (uC (uL aH fun e1 a9 => (uQ (kS Tryz.f15 [1,0,1,0,0,1,1,0,0,1,0,0,0] 5) fun K11 hK11 => have hJ3 : ∀ (x4 : Bool), gh (bE p1 k1) p1 x1 e1 x4 = some r → K11.p [(1, .one (.pv (.rp [(cO p1)] 0 0))), (3, vi x1), (4, .one (.pt 0 0 0 0)), (8, vl aH p1.snapshots), (9, vi (p1.snapshots.length : Int)), (10, vi x1), (15, vb x4)] [.box (td e1)] := fun x4 h => hK11 h (uC (uR .ret (xN (xN xF))) (uQ (kS Tryz.f15 [1,0,1,0,0,1,1,0,0,1,0,0,1,1,0] 5) fun K27 hK27 => have hJ4 : ∀ (x5 : Bool), jQ (bE p1 k1) p1 x1 e1 x5 = some r → K27.p [(1, .one (.pv (.rp [(cO p1)] 0 0))), (4, .one (.pt 0 0 0 0)), (8, vl aH p1.snapshots), (9, vi (p1.snapshots.length : Int)), (10, vi x1), (59, vb x5)] [.box (td e1)] := fun x5 h => hK27 h (uC (uR .ret (xN (xN xF))) (uP (Ca _ _) fun r7 _ => (uC (uR .ret (xN (xN xF))) (uP (AI _ _) fun r8 _ => (uC (uR .ret (xN (xN xF))) (uJ (ih1 (IntKind.i64.wrap (x1 + 1))))))))); (om 23 (uC (uL aH fun e2 a29 => (uC (uJ (hJ4 true)) (uM aH a29 (uJ (hJ4 (decide (e1.seq ≤ e2.seq))))))) (uJ (hJ4 false)))))); (uQ (kS Tryz.f15 [1,0,1,0,0,1,1,0,0,1,0,0,0,0] 1) fun K12 hK12 => have hJ1 : ∀ (x2 : Bool), iy (bE p1 k1) p1 x1 e1 x2 = some r → K12.p [(1, .one (.pv (.rp [(cO p1)] 0 0))), (3, vi x1), (4, .one (.pt 0 0 0 0)), (8, vl aH p1.snapshots), (9, vi (p1.snapshots.length : Int)), (10, vi x1), (15, vb x2)] [.box (td e1)] := fun x2 h => hK12 h (uC (uJ (hJ3 x2)) (uQ (kS Tryz.f15 [1,0,1,0,0,1,1,0,0,1,0,0,0,1,1,0] 1) fun K19 hK19 => have hJ2 : ∀ (x3 : Bool), lF (bE p1 k1) p1 x1 e1 x3 = some r → K19.p [(1, .one (.pv (.rp [(cO p1)] 0 0))), (3, vi x1), (4, .one (.pt 0 0 0 0)), (8, vl aH p1.snapshots), (9, vi (p1.snapshots.length : Int)), (10, vi x1), (15, vb x3)] [.box (td e1)] := fun x3 h => hK19 h (uC (uJ (hJ3 x3)) (uP (de _ _ _) fun r6 _ => (uJ (hJ3 (!r6))))); (uN (eL ae) p1.schemas (uP (de _ _ _) fun r4 _ => (uC (uJ (hJ2 true)) (uP (de _ _ _) fun r5 _ => (uJ (hJ2 (!r5))))))))); (uP (de _ _ _) fun r1 _ => (uC (uJ (hJ1 true)) (uP (de _ _ _) fun r2 _ => (uC (uJ (hJ1 true)) (uP (de _ _ _) fun r3 _ => (uJ (hJ1 (!r3))))))))))) (uR (.exit 0) (xM (uJ (hJ5 ()))))))
 uE (hL1 aY (0 : Int)))))
def jK (p1 p2 : af) : Option Bool := aB (eC aY p1 p2) fun r1 => some (r1 == 0)
theorem oo (p1 p2 : af) : CT Tryz.prog 89 [.ag [ci p1.kind, ci p1.n, ci p1.scale, kE p1.s, cl ak p1.items], .ag [ci p2.kind, ci p2.n, ci p2.scale, kE p2.s, cl ak p2.items]] (jK p1 p2) vb :=
  ej 9 [] Tryz.f89 fun r => (uP (qS aY _ _) fun r1 _ => (uR .ret xF))
def co : Option Bool := some true
def ar (p1 p2 : (List af)) : Nat → Int → Option Bool
 | 0, _ => none
 | k1 + 1, x1 => al (decide (x1 < (p1.length : Int))) (aB (at? p1 x1) fun e1 => aB (at? p2 x1) fun e2 => aB (jK e1 e2) fun r1 => al (!r1) (some false) ((ar p1 p2 k1) (IntKind.i64.wrap (x1 + 1)))) (co)
def bh (p1 p2 : (List af)) : Option Bool := al ((p1.length : Int) != (p2.length : Int)) (some false) (ar p1 p2 aY (0 : Int))
theorem eJ (p1 p2 : (List af)) : CT Tryz.prog 91 [vl ak p1, vl ak p2, .one (.pv (.fn 89 []))] (bh p1 p2) vb :=
  ej 32 [8, 9] Tryz.f91 fun r => (uN ak p1 (uN ak p2 (uC (uR .ret xF) (uQ (kS Tryz.f91 [1,1,0] 1) fun K6 hK6 => have hJ1 : ∀ (_ : Unit), co = some r → K6.p [] [] := fun _ h => hK6 h (uR .ret xF); (uN ak p1 (uO (cd Tryz.f91 [1,1,0,1,0,0]) (kS Tryz.f91 [1,1,0,1,0] 1) fun R1 b1 => have hL1 : ∀ (k1 : Nat) (x1 : Int), ar p1 p2 k1 x1 = some r → (R1 k1).p [(1, vl ak p2), (2, .one (.pv (.fn 89 []))), (15, vl ak p1), (16, vi (p1.length : Int)), (17, vi x1)] [] := by intro k1; induction k1 with | zero => intro x1 h; exact hH (ar.eq_1 ..) h | succ k1 ih1 => intro x1 h; exact b1 h (uU (ar.eq_2 ..) (uC (uL ak fun e1 a13 => (uL ak fun e2 a15 => (uP (oo _ _) fun r1 _ => (uC (uR .ret (xN (xN xF))) (uJ (ih1 (IntKind.i64.wrap (x1 + 1)))))))) (uR (.exit 0) (xM (uJ (hJ1 ()))))))
 uE (hL1 aY (0 : Int))))))))
def gR (x1 : Bool) : Option (Bool × Unit) := some (x1, ())
def nt (p1 p2 : gv) : Option (Bool × Unit) := al (p1.id == p2.id) (al (p1.nulls == p2.nulls) (aB (jK p1.min p2.min) fun r1 => al r1 (aB (jK p1.max p2.max) fun r2 => gR r2) (gR false)) (gR false)) (gR false)
theorem xJ (p1 p2 : gv) : CM Tryz.prog 93 [.ag [ci p1.id, ci p1.nulls, ci p1.min.kind, ci p1.min.n, ci p1.min.scale, kE p1.min.s, cl ak p1.min.items, ci p1.max.kind, ci p1.max.n, ci p1.max.scale, kE p1.max.s, cl ak p1.max.items], .ag [ci p2.id, ci p2.nulls, ci p2.min.kind, ci p2.min.n, ci p2.min.scale, kE p2.min.s, cl ak p2.min.items, ci p2.max.kind, ci p2.max.n, ci p2.max.scale, kE p2.max.s, cl ak p2.max.items], .one (.pt 0 0 0 0)] [.box [.pv (.fn 89 [])]] (nt p1 p2) (fun r => vb r.1) (fun r => [.box [.pv (.fn 89 [])]]) :=
  pH 1 34 [] Tryz.f93 fun r => (uQ (kS Tryz.f93 [1,0] 1) fun K2 hK2 => have hJ1 : ∀ (x1 : Bool), gR x1 = some r → K2.p [(5, vb x1)] [.box [.pv (.fn 89 [])]] := fun x1 h => hK2 h (uR .ret qn); (uC (uC (uP (oo _ _) fun r1 _ => (uC (uP (oo _ _) fun r2 _ => (uJ (hJ1 r2))) (uJ (hJ1 false)))) (uJ (hJ1 false))) (uJ (hJ1 false))))
def bJ : Option (Bool × Unit) := some (true, ())
def aj (p1 p2 : (List gv)) : Nat → Int → Option (Bool × Unit)
 | 0, _ => none
 | k1 + 1, x1 => al (decide (x1 < (p1.length : Int))) (aB (at? p1 x1) fun e1 => aB (at? p2 x1) fun e2 => aB (nt e1 e2) fun r1 => al (!r1.1) (some (false, ())) ((aj p1 p2 k1) (IntKind.i64.wrap (x1 + 1)))) (bJ)
def aT (p1 p2 : (List gv)) : Option (Bool × Unit) := al ((p1.length : Int) != (p2.length : Int)) (some (false, ())) (aj p1 p2 aY (0 : Int))
abbrev DF : St := [.box [.pv (.fn 89 [])]]
theorem df (p1 p2 : (List gv)) : CM Tryz.prog 92 [vl cV p1, vl cV p2, .one (.fn 93 [.pt 0 0 0 0])] DF (aT p1 p2) (fun r => vb r.1) (fun r => DF) :=
  pH 1 32 [8, 9] Tryz.f92 fun r => (uN cV p1 (uN cV p2 (uC (uR .ret qn) (uQ (kS Tryz.f92 [1,1,0] 1) fun K6 hK6 => have hJ1 : ∀ (_ : Unit), bJ = some r → K6.p [] DF := fun _ h => hK6 h (uR .ret qn); (uN cV p1 (uO (cd Tryz.f92 [1,1,0,1,0,0]) (kS Tryz.f92 [1,1,0,1,0] 1) fun R1 b1 => have hL1 : ∀ (k1 : Nat) (x1 : Int), aj p1 p2 k1 x1 = some r → (R1 k1).p [(1, vl cV p2), (2, .one (.fn 93 [.pt 0 0 0 0])), (15, vl cV p1), (16, vi (p1.length : Int)), (17, vi x1)] DF := by intro k1; induction k1 with | zero => intro x1 h; exact hH (aj.eq_1 ..) h | succ k1 ih1 => intro x1 h; exact b1 h (uU (aj.eq_2 ..) (uC (uL cV fun e1 a13 => (uL cV fun e2 a15 => (xx true [0] (xJ _ _) fun r1 _ => (uC (uR .ret (xN (xN qn))) (uJ (ih1 (IntKind.i64.wrap (x1 + 1)))))))) (uR (.exit 0) (xM (uJ (hJ1 ()))))))
 uE (hL1 aY (0 : Int))))))))
def fD (x1 : Bool) : Option Bool := some x1
def mE (p1 p2 : ah) : Option Bool := al (p1.name.toList == p2.name.toList) (al (p1.schema == p2.schema) (al (p1.spec == p2.spec) (al (p1.rows == p2.rows) (aB (bh p1.part p2.part) fun r1 => al r1 (aB (aT p1.stats p2.stats) fun r2 => fD r2.1) (fD false)) (fD false)) (fD false)) (fD false)) (fD false)
theorem zM (p1 p2 : ah) : CT Tryz.prog 51 [.ag [kE p1.name, ci p1.schema, ci p1.spec, cl ak p1.part, ci p1.rows, ci p1.seq, cl cV p1.stats], .ag [kE p2.name, ci p2.schema, ci p2.spec, cl ak p2.part, ci p2.rows, ci p2.seq, cl cV p2.stats]] (mE p1 p2) vb :=
  ej 48 [5] Tryz.f51 fun r => (uQ (kS Tryz.f51 [1,1,0] 1) fun K3 hK3 => have hJ1 : ∀ (x1 : Bool), fD x1 = some r → K3.p [(4, vb x1)] [.dead] := fun x1 h => hK3 h (uR .ret xF); (uC (uC (uC (uC (uP (eJ _ _) fun r1 _ => (uC (xx true [0] (df _ _) fun r2 _ => (uJ (hJ1 r2.1))) (uJ (hJ1 false)))) (uJ (hJ1 false))) (uJ (hJ1 false))) (uJ (hJ1 false))) (uJ (hJ1 false))))
end Go.Proofs.YtikbfjpcmalmlaaGreatDoor
