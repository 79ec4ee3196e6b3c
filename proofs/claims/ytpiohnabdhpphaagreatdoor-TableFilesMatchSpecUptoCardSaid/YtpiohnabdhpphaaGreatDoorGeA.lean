/- The shelf's contract of utf8.ValidString, laid at this program. Searching a byte in a text and comparing texts: by the contracts of the shelf. slices.Clone at numbers and at statistics, whether the list is nil, empty or more. Printed by a program: what the functions compute, and the proofs of their contracts. Printed by a program: what the functions compute, and the proofs of their contracts. -/
import Derived.Test.YtpiohnabdhpphaaGreatDoorProg
import Derived.Shelf.Small.Strs
import Derived.Test.YtpiohnabdhpphaaGreatDoorChecked
import Derived.Test.YtpiohnabdhpphaaGreatDoorSxC
set_option linter.unusedVariables false
set_option linter.unusedSimpArgs false
set_option linter.unnecessarySimpa false
namespace Go.Proofs.YtpiohnabdhpphaaGreatDoor
open Go Go.SX Go.Shelf Go.Lib
def Yj:Ren where
 f:=fun n=>if n=196 then 264 else if n=259 then 290 else n
 t:=fun n=>if n=0 then 0 else if n=3 then 3 else if n=4 then 4 else if n=5 then 5 else if n=9 then 9 else if n=12 then 12 else if n=46 then 205 else if n=53 then 188 else if n=119 then 282 else if n=138 then 284 else if n=139 then 285 else n
 g:=fun n=>if n=3 then 1 else if n=4 then 2 else n
set_option maxRecDepth 100000 in
theorem Vw:Lays.n196 Tryz.prog Yj where
 mixed:=by kernel_rfl
 f196:=by kernel_rfl
 f259:=by kernel_rfl
 t0:=by kernel_rfl
 a0:=fun w=>by kernel_rfl
 z0:=fun w=>by kernel_rfl
 v0:=fun w=>by kernel_rfl
 t3:=by kernel_rfl
 a3:=fun w=>by kernel_rfl
 z3:=fun w=>by kernel_rfl
 v3:=fun w=>by kernel_rfl
 t4:=by kernel_rfl
 a4:=fun w=>by kernel_rfl
 z4:=fun w=>by kernel_rfl
 v4:=fun w=>by kernel_rfl
 t5:=by kernel_rfl
 a5:=fun w=>by kernel_rfl
 z5:=fun w=>by kernel_rfl
 v5:=fun w=>by kernel_rfl
 t9:=by kernel_rfl
 a9:=fun w=>by kernel_rfl
 z9:=fun w=>by kernel_rfl
 v9:=fun w=>by kernel_rfl
 t12:=by kernel_rfl
 a12:=fun w=>by kernel_rfl
 z12:=fun w=>by kernel_rfl
 v12:=fun w=>by kernel_rfl
 t46:=by kernel_rfl
 a46:=fun w=>by kernel_rfl
 z46:=fun w=>by kernel_rfl
 v46:=fun w=>by kernel_rfl
 t53:=by kernel_rfl
 a53:=fun w=>by kernel_rfl
 z53:=fun w=>by kernel_rfl
 v53:=fun w=>by kernel_rfl
 t119:=by kernel_rfl
 a119:=fun w=>by kernel_rfl
 z119:=fun w=>by kernel_rfl
 t138:=by kernel_rfl
 a138:=fun w=>by kernel_rfl
 z138:=fun w=>by kernel_rfl
 v138:=fun w=>by kernel_rfl
 t139:=by kernel_rfl
 a139:=fun w=>by kernel_rfl
 z139:=fun w=>by kernel_rfl
 v139:=fun w=>by kernel_rfl
 g3:=by kernel_rfl
 g4:=by kernel_rfl
def utf8_ValidString(p1:ByteArray):Option Bool:=gX (p1.size≤9223372036854775807)<|some (validD p1.data.toList)
theorem zn(p1:ByteArray)(r:Bool)(h:utf8_ValidString p1=some r):PC Tryz.prog 264 [vs p1] (vb r):=by
 unfold utf8_ValidString at h
 obtain⟨g1,h⟩:=pL h
 obtain rfl:=Option.some.inj h
 exact JW Vw (by kernel_rfl) (by kernel_rfl) p1 g1
end Go.Proofs.YtpiohnabdhpphaaGreatDoor
namespace Go.Proofs.YtpiohnabdhpphaaGreatDoor
open Go Go.SX Go.Shelf Go.Lib Go.Proofs Go.RowKit
def lrm:Ren where
 f:=fun n=>if n=106 then 205 else if n=137 then 168 else if n=213 then 242 else if n=217 then 212 else if n=265 then 271 else if n=266 then 245 else n
 t:=fun n=>if n=3 then 3 else if n=5 then 5 else if n=9 then 9 else n
 g:=fun n=>n
set_option maxRecDepth 100000 in
theorem aei:Lays.n137 Tryz.prog lrm:=by constructor<;>intros<;>kernel_rfl
set_option maxRecDepth 100000 in
theorem adl:Lays.n106 Tryz.prog lrm:=by constructor<;>intros<;>kernel_rfl
def strings_IndexByte(p1:ByteArray)(p2:Int):Option Int:=some (Lib.indexByte p1.data.toList p2.toNat.toUInt8)
theorem yf(p1:ByteArray)(p2:Int):CT Tryz.prog 168 [vs p1,vk .u8 p2] (strings_IndexByte p1 p2) vi:=by
 intro r h
 obtain rfl:=Option.some.inj h
 exact PC.below (us:=[.string p1,.int .u8 p2]) rfl fun w _=>(Any.strings_IndexByte aei p1 p2 w).mono (by rintro e w' ⟨rfl,rfl⟩;exact⟨rfl,.refl _ _⟩)
def strings_Compare(p1 p2:ByteArray):Option Int:=some (Lib.compareBytes p1.data.toList p2.data.toList)
theorem Fv(p1 p2:ByteArray):CT Tryz.prog 205 [vs p1,vs p2] (strings_Compare p1 p2) vi:=by
 intro r h
 obtain rfl:=Option.some.inj h
 exact PC.below (us:=[.string p1,.string p2]) rfl fun w _=>(Any.strings_Compare adl p1 p2 w).mono (by rintro e w' ⟨rfl,rfl⟩;exact⟨rfl,.refl _ _⟩)
end Go.Proofs.YtpiohnabdhpphaaGreatDoor
namespace Go.Proofs.YtpiohnabdhpphaaGreatDoor
open Go Go.SX
set_option maxRecDepth 100000
def sR(p1:List Int):Option (List Int):=gX (([]:List Int).length+p1.length≤4294967296) (some (([]:List Int)++p1))
theorem Qi:CT Tryz.prog 30 [.one (.pv (.s (.slice none 0 0)))] (some ([]:List Int)) (vl eI):=cu 8 [5] Tryz.f30 fun r=>(uT (uR .ret xF))
theorem Pl(a:Addr)(m:Nat):CT Tryz.prog 30 [.one (.pv (.s (.slice (some a) 0 m)))] (sR []) (vl eI):=
 cu 8 [5] Tryz.f30 fun r=>(uNs (uF (aa4 6 (Bk eI 0 [] (Ks eI (([]:List Int)++[]) 0 [2] (uR .ret xF))))))
theorem OX(p1:List Int):CT Tryz.prog 30 [vl eI p1] (gX (p1≠[]) (sR p1)) (vl eI):=
 cu 8 [5] Tryz.f30 fun r=>(uNe eI (uF (Bk eI 0 p1 (Ks eI (([]:List Int)++p1) 0 [2] (uR .ret xF)))))
theorem Iq(p1:List Int):CT Tryz.prog 30 [vl eI p1] (sR p1) (vl eI):=by
 intro r h
 by_cases hne:p1=[]
 ·subst hne
  exact PC.split0 (Qi r h) fun a m=>Pl a m r h
 ·exact OX p1 r (by rw[gX,if_pos hne];exact h)
def qO(p1:List cc):Option (List cc):=gX (([]:List cc).length+p1.length≤4294967296) (some (([]:List cc)++p1))
theorem QL:CX Tryz.prog 85 [.one (.pv (.s (.slice none 0 0)))] [] [] (some ([]:List cc)) (fun r=> .one (.sl 0 12 0 r.length)) (fun r=>[.arr 12 (bD.els r)]):=KD 0 1 8 [5] Tryz.f85 fun r=>(uT (LC (.li 2 12) (uR .ret sE)))
theorem PH(a:Addr)(m:Nat):CX Tryz.prog 85 [.one (.pv (.s (.slice (some a) 0 m)))] [] [] (qO []) (fun r=> .one (.sl 0 12 0 r.length)) (fun r=>[.arr 12 (bD.els r)]):=
 KD 0 1 8 [5] Tryz.f85 fun r=>(uNs (uF (aa4 6 (Bk bD 0 [] (uR .ret sE)))))
theorem OP(p1:List cc):CX Tryz.prog 85 [vl bD p1] [] [] (gX (p1≠[]) (qO p1)) (fun r=> .one (.sl 0 12 0 r.length)) (fun r=>[.arr 12 (bD.els r)]):=
 KD 0 1 8 [5] Tryz.f85 fun r=>(uNe bD (uF (Bk bD 0 p1 (uR .ret sE))))
theorem Hu(p1:List cc):CX Tryz.prog 85 [vl bD p1] [] [] (qO p1) (fun r=> .one (.sl 0 12 0 r.length)) (fun r=>[.arr 12 (bD.els r)]):=by
 intro r h
 by_cases hne:p1=[]
 ·subst hne
  exact MX.split0 (QL r h) fun a m=>PH a m r h
 ·exact OP p1 r (by rw[gX,if_pos hne];exact h)
end Go.Proofs.YtpiohnabdhpphaaGreatDoor
namespace Go.Proofs.YtpiohnabdhpphaaGreatDoor
open Go.SX Go Tryz
open Go.IntKind (i64)
set_option maxRecDepth 100000
set_option maxHeartbeats 8000000
abbrev OI:=Option Int
abbrev OB:=Option Bool
abbrev mM(x:ay):AV:= .ag [cl (eL af) x.schemas,cl fk x.specs,ci x.nextField,ci x.nextSeq,ci x.nextSnap,ci x.purges,cl aT x.snapshots,cl nT x.refs,cl ku x.props]
abbrev mS(x:ar):AV:= .ag [ci x.id,ci x.parent,ci x.seq,ci x.schema,ci x.time,ci x.kind,cl aU x.files,cl dj x.dat,cl dT x.dby]
abbrev mV(x:ac):AV:= .ag [ci x.kind,ci x.n,ci x.scale,rX x.s,cl ak x.items]
abbrev mT(x:am):AV:= .ag [ci x.kind,ci x.scale,cl af x.fields]
abbrev mF(x:ai):AV:= .ag [rX x.name,ci x.schema,ci x.spec,cl ak x.part,ci x.rows,ci x.seq,cl bD x.stats]
abbrev mf(x:ae):AV:= .ag [ci x.id,rX x.name,cb x.need,ci x.type.kind,ci x.type.scale,cl af x.type.fields]
abbrev mD(x:cz):AV:= .ag [ci x.schema,cl eI x.ids,cl (eL ak) x.keys,ci x.seq]
abbrev mW(x:bq):AV:= .ag [cb x.neg,ck .u64 x.size.1,ck .u64 x.size.2.1,ck .u64 x.size.2.2.1,ck .u64 x.size.2.2.2]
abbrev mA(x:cc):AV:= .ag [ci x.id,ci x.nulls,ci x.min.kind,ci x.min.n,ci x.min.scale,rX x.min.s,cl ak x.min.items,ci x.max.kind,ci x.max.n,ci x.max.scale,rX x.max.s,cl ak x.max.items]
def pP(rec1:Int→Bool→Int→OI)(x2 x4:Int)(e1:ar)(x5:Bool):OI:=al (some (i64.wrap (x2+(i64.wrap ((e1.files.length:Int)+(e1.dby.length:Int)))))) fun y1=>rec1 y1 x5 (i64.wrap (x4+1))
def tH(x8:Bool):OI:=aj x8 (some 7) (some 0)
def xQ(x6:Int)(x7:Bool):OI:=aj x7 (tH true) (tH (decide (4000<x6)))
def gF(p1:ay):Nat→Int→Bool→Int→OI
 |0,_,_,_=>none
 |k1+1,x2,x3,x4=>aj (decide (x4<(p1.snapshots.length:Int))) (al (at? p1.snapshots x4) fun e1=>aj x3 (pP (gF p1 k1) x2 x4 e1 true) (aj (decide (400<(e1.files.length:Int))) (pP (gF p1 k1) x2 x4 e1 true) (pP (gF p1 k1) x2 x4 e1 (decide (400<(e1.dby.length:Int)))))) (xQ x2 x3)
def jN(p1:ay)(x1:Bool):OI:=gF p1 aH 0 x1 0
def rW(p1:ay):OI:=aj (decide (40<(p1.schemas.length:Int))) (jN p1 true) (aj (decide (40<(p1.specs.length:Int))) (jN p1 true) (aj (decide (200<(p1.snapshots.length:Int))) (jN p1 true) (aj (decide (40<(p1.refs.length:Int))) (jN p1 true) (jN p1 (decide (40<(p1.props.length:Int)))))))
theorem Ji(p1:ay):CT prog 52 [mM p1] (rW p1) vi:=
  cu 70 [6] f52 fun r=>(co f52 14 1 fun K k=>have J1:∀{x1},jN p1 x1=some r→K.p [(1,vR [.ro ((eL af).els p1.schemas),.ro (fk.els p1.specs),pi p1.nextField,pi p1.nextSeq,pi p1.nextSnap,pi p1.purges,.ro (aT.els p1.snapshots),.ro (nT.els p1.refs),.ro (ku.els p1.props)]),(3,vi (0:Int)),(4,vb x1)] []:=fun{x1} h=>k h (co f52 30 1 fun K k=>have J3:∀{x6 x7},xQ x6 x7=some r→K.p [(3,vi x6),(4,vb x7)] []:=fun{x6 x7} h=>k h (co f52 124 2 fun K k=>have J4:∀{x8},tH x8=some r→K.p [(69,vb x8)] []:=fun{x8} h=>k h (uC uz uz);(uC (uJ J4) (uJ J4)));(uN aT p1.snapshots (fJ f52 122 1 fun R b=>have L1:∀k1 {x2 x3 x4},gF p1 k1 x2 x3 x4=some r→(R k1).p [(3,vi x2),(4,vb x3),(36,vl aT p1.snapshots),(37,vi p1.snapshots.length),(38,vi x4)] []:=uI (fD rfl) fun k1 i1 {x2 x3 x4} h=>b h (uU (gF.eq_2 ..) (uC (dL aT fun e1=>(co f52 15666 3 fun K k=>have J2:∀{x5},pP (gF p1 k1) x2 x4 e1 x5=some r→K.p [(3,vi x2),(4,vb x5),(6,vQ 0),(36,vl aT p1.snapshots),(37,vi p1.snapshots.length),(38,vi x4)] [.box [ci e1.id,ci e1.parent,ci e1.seq,ci e1.schema,ci e1.time,ci e1.kind,cl aU e1.files,cl dj e1.dat,cl dT e1.dby]]:=fun{x5} h=>k h (uN aU e1.files (uN dT e1.dby (uY 63 vi fun y1=>(uJ i1))));(uC (uJ J2) (uN aU e1.files (uC (uJ J2) (uN dT e1.dby (uJ J2))))))) (uR (.exit 0) (xM (uJ J3)))));uE (L1 aH))));(uN (eL af) p1.schemas (uC (uJ J1) (uN fk p1.specs (uC (uJ J1) (uN aT p1.snapshots (uC (uJ J1) (uN nT p1.refs (uC (uJ J1) (uN ku p1.props (uJ J1)))))))))))
def tN(x1:Bool):OB:=some x1
def dF(p1 p2 p3:Int):OB:=aj (decide (p2≤p1)) (tN (decide (p1≤p3))) (tN false)
theorem dy(p1 p2 p3:Int):CT prog 18 [vi p1,vi p2,vi p3] (dF p1 p2 p3) vb:=
  cu 15 [] f18 fun r=>(co f18 6 1 fun K k=>have J1:∀{x1},tN x1=some r→K.p [(6,vb x1)] []:=fun{x1} h=>k h uz;(uC (uJ J1) (uJ J1)))
def wK(x1:Bool):OB:=some x1
def zy(p1:am):OB:=aj (p1.kind != 6) (wK (p1.kind != 7)) (wK false)
theorem GL(p1:am):CT prog 187 [mT p1] (zy p1) vb:=
  cu 11 [] f187 fun r=>(co f187 6 1 fun K k=>have J1:∀{x1},wK x1=some r→K.p [(2,vb x1)] []:=fun{x1} h=>k h uz;(uC (uJ J1) (uJ J1)))
def iB(x1:Bool):OB:=some x1
def yD(p1:Int):OB:=aj (decide (p1<97)) (aj (decide (p1<48)) (iB (p1 != 95)) (aj (decide (57<p1)) (iB (p1 != 95)) (iB false))) (aj (decide (122<p1)) (aj (decide (p1<48)) (iB (p1 != 95)) (aj (decide (57<p1)) (iB (p1 != 95)) (iB false))) (iB false))
theorem Jm(p1:Int):CT prog 165 [vk .i32 p1] (yD p1) vb:=
  cu 21 [] f165 fun r=>(co f165 6 1 fun K k=>have J1:∀{x1},iB x1=some r→K.p [(2,vb x1)] []:=fun{x1} h=>k h uz;(uC (uC (uJ J1) (uC (uJ J1) (uJ J1))) (uC (uC (uJ J1) (uC (uJ J1) (uJ J1))) (uJ J1))))
def lH:OI:=some (-1)
def cC(p1:ByteArray)(p2:Bool):Nat→Nat→OI
 |0,_=>none
 |k1+1,z1=>aj (decide (z1<p1.size)) (al (yD (Int.ofNat (Utf8.decode p1 z1).1)) fun r1=>aj (r1==p2) (some (Int.ofNat z1)) ((cC p1 p2 k1) (z1+(Utf8.decode p1 z1).2))) (lH)
def jd(p1:ByteArray)(p2:Bool):OI:=cC p1 p2 aH 0
theorem tn(p1:ByteArray)(p2:Bool):CT prog 211 [vs p1,.one (.pv (.fn 165 [])),vb p2] (jd p1 p2) vi:=
  cu 21 [] f211 fun r=>(kd f211 6 1 lH [] [] uz fun K J1=>(uRg p1 (fJ f211 26 1 fun R b=>have L1:∀k1 {z1},cC p1 p2 k1 z1=some r→(R k1).p [(1,.one (.pv (.fn 165 []))),(2,vb p2),(10,vQ 0)] [.raw (.stringIter p1 z1)]:=uI (fD rfl) fun k1 i1 {z1} h=>b h (uU (cC.eq_2 ..) (uNx 0 (fun b5=>(uT (aS (Jm _) fun r1=>(uC jh (uJ i1))))) (fun b5=>(uF (uR (.exit 0) (xM (uJ J1)))))));uE (L1 aH))))
def je(p1:ByteArray):OI:=al (jd p1 true) fun r1=>some r1
theorem sG(p1:ByteArray):CT prog 167 [vs p1,.one (.pv (.fn 165 []))] (je p1) vi:=
  cu 8 [] f167 fun r=>(aS (tn _ _) fun r1=>uz)
def hI(p1:ByteArray):OB:=al (je p1) fun r1=>some (decide (0≤r1))
theorem qV(p1:ByteArray):CT prog 114 [vs p1,.one (.pv (.fn 165 []))] (hI p1) vb:=
  cu 9 [] f114 fun r=>(aS (sG _) fun r1=>uz)
def pY(p1:ByteArray)(x1:Bool):OB:=aj x1 (some false) (al (hI p1) fun r1=>some (!r1))
def wG(p1:ByteArray):OB:=aj (p1.toList==(ByteArray.mk #[]).toList) (pY p1 true) (aj (decide ((24:Int)<(p1.size:Int))) (pY p1 true) (gX (0≤(0:Int)∧(0:Int)<(p1.size:Int))<|al (some (decide (((p1.data.toList.getD (0:Int).toNat 0).toNat:Int)<(97:Int)))) fun y1=>aj y1 (pY p1 true) (gX (0≤(0:Int)∧(0:Int)<(p1.size:Int))<|al (some (decide ((122:Int)<((p1.data.toList.getD (0:Int).toNat 0).toNat:Int)))) fun y2=>pY p1 y2)))
theorem Cm(p1:ByteArray):CT prog 110 [vs p1] (wG p1) vb:=
  cu 25 [] f110 fun r=>(co f110 12 2 fun K k=>have J1:∀{x1},pY p1 x1=some r→K.p [(0,vs p1),(20,vb x1)] []:=fun{x1} h=>k h (uC uz (aS (qV _) fun r1=>uz));(uC (uJ J1) (uC (uJ J1) (uG (uY 14 vb fun y1=>(uC (uJ J1) (uG (uY 19 vb fun y2=>(uJ J1)))))))))
def zm(p1:ae):OB:=al (wG p1.name) fun r1=>some (!r1)
theorem HR(p1:ae):CT prog 231 [mf p1] (zm p1) vb:=
  cu 7 [] f231 fun r=>(aS (Cm _) fun r1=>uz)
def ff:OI:=some (-1)
def aP(p1:List ae):Nat→Int→OI
 |0,_=>none
 |k1+1,x1=>aj (decide (x1<(p1.length:Int))) (al (at? p1 x1) fun e1=>al (zm e1) fun r1=>aj r1 (some x1) ((aP p1 k1) (i64.wrap (x1+1)))) (ff)
def du(p1:List ae):OI:=aP p1 aH 0
theorem kW(p1:List ae):CT prog 118 [vl af p1,.one (.pv (.fn 231 []))] (du p1) vi:=
  cu 19 [] f118 fun r=>(kd f118 6 1 ff [] [] uz fun K J1=>(uN af p1 (fJ f118 26 1 fun R b=>have L1:∀k1 {x1},aP p1 k1 x1=some r→(R k1).p [(0,vl af p1),(1,.one (.pv (.fn 231 []))),(7,vi p1.length),(8,vi x1)] []:=uI (fD rfl) fun k1 i1 {x1} h=>b h (uU (aP.eq_2 ..) (uC (dL af fun e1=>(aS (HR _) fun r1=>(uC jh (uJ i1)))) (uR (.exit 0) (xM (uJ J1)))));uE (L1 aH))))
def ca(p1:List ae):OB:=al (du p1) fun r1=>some (decide (0≤r1))
theorem j5(p1:List ae):CT prog 230 [vl af p1,.one (.pv (.fn 231 []))] (ca p1) vb:=
  cu 9 [] f230 fun r=>(aS (kW _) fun r1=>uz)
def zW(p1 p2:ae):Option (Bool×ae):=some ((p1.name.toList==p2.name.toList),p2)
theorem HQ(p1 p2:ae):CM prog 232 [mf p1,vQ 0] [.box [ci p2.id,rX p2.name,cb p2.need,ci p2.type.kind,ci p2.type.scale,cl af p2.type.fields]] (zW p1 p2) (fun r=>vb r.1) (fun r=>[.box [ci r.2.id,rX r.2.name,cb r.2.need,ci r.2.type.kind,ci r.2.type.scale,cl af r.2.type.fields]]):=
  ww 1 9 [] f232 fun r=>(uR .ret sE)
def cX(z7:Int)(z8:ByteArray)(z9:Bool)(z10 z11:Int)(z12:List ae):Option (Int×ae):=some ((-1),(mI.mk z7 z8 z9 (am.mk z10 z11 z12)))
def aG(p1:List ae):Nat→Int→ByteArray→Bool→Int→Int→List ae→Int→Option (Int×ae)
 |0,_,_,_,_,_,_,_=>none
 |k1+1,z1,z2,z3,z4,z5,z6,x1=>aj (decide (x1<(p1.length:Int))) (al (at? p1 x1) fun e1=>al (zW e1 (mI.mk z1 z2 z3 (am.mk z4 z5 z6))) fun r1=>aj r1.1 (some (x1,r1.2)) ((aG p1 k1) r1.2.id r1.2.name r1.2.need r1.2.type.kind r1.2.type.scale r1.2.type.fields (i64.wrap (x1+1)))) (cX z1 z2 z3 z4 z5 z6)
def dr(p1:List ae)(p2:ae):Option (Int×ae):=aG p1 aH p2.id p2.name p2.need p2.type.kind p2.type.scale p2.type.fields 0
theorem kK(p1:List ae)(p2:ae):CM prog 118 [vl af p1,.one (.fn 232 [.pt 0 0 0 0])] [.box [ci p2.id,rX p2.name,cb p2.need,ci p2.type.kind,ci p2.type.scale,cl af p2.type.fields]] (dr p1 p2) (fun r=>vi r.1) (fun r=>[.box [ci r.2.id,rX r.2.name,cb r.2.need,ci r.2.type.kind,ci r.2.type.scale,cl af r.2.type.fields]]):=
  ww 1 19 [] f118 fun r=>(co f118 6 1 fun K k=>have J1:∀{z7 z8 z9 z10 z11 z12},cX z7 z8 z9 z10 z11 z12=some r→K.p [] [.box [ci z7,rX z8,cb z9,ci z10,ci z11,cl af z12]]:=fun{z7 z8 z9 z10 z11 z12} h=>k h (uR .ret sE);(uN af p1 (fJ f118 26 1 fun R b=>have L1:∀k1 {z1 z2 z3 z4 z5 z6 x1},aG p1 k1 z1 z2 z3 z4 z5 z6 x1=some r→(R k1).p [(0,vl af p1),(1,.one (.fn 232 [.pt 0 0 0 0])),(7,vi p1.length),(8,vi x1)] [.box [ci z1,rX z2,cb z3,ci z4,ci z5,cl af z6]]:=uI (fD rfl) fun k1 i1 {z1 z2 z3 z4 z5 z6 x1} h=>b h (uU (aG.eq_2 ..) (uC (dL af fun e1=>(EG true [0] (HQ _ _) fun r1 _=>(uC (uR .ret (xN (xN sE))) (uJ i1)))) (uR (.exit 0) (xM (uJ J1)))));uE (L1 aH))))
def bY(p1:List ae)(p2:ae):Option (Bool×ae):=al (dr p1 p2) fun r1=>some ((decide (0≤r1.1)),r1.2)
theorem jZ(p1:List ae)(p2:ae):CM prog 230 [vl af p1,.one (.fn 232 [.pt 0 0 0 0])] [.box [ci p2.id,rX p2.name,cb p2.need,ci p2.type.kind,ci p2.type.scale,cl af p2.type.fields]] (bY p1 p2) (fun r=>vb r.1) (fun r=>[.box [ci r.2.id,rX r.2.name,cb r.2.need,ci r.2.type.kind,ci r.2.type.scale,cl af r.2.type.fields]]):=
  ww 1 9 [] f230 fun r=>(EG true [0] (kK _ _) fun r1 _=>(uR .ret sE))
def tJ(x1:Bool):OI:=aj x1 (some 1) (some 0)
def CB:OI:=some 0
def gB(p1:am):Nat→Int→OI
 |0,_=>none
 |k1+1,x2=>aj (decide (x2<(p1.fields.length:Int))) (al (at? p1.fields x2) fun e2=>gX (0≤(0:Int)∧(0:Int)≤x2∧x2≤(p1.fields.length:Int))<|al (bY ((p1.fields.drop (0:Int).toNat).take (x2.toNat-(0:Int).toNat)) e2) fun r2=>aj r2.1 (some (5:Int)) ((gB p1 k1) (i64.wrap (x2+1)))) (CB)
def yG(p1:am):OI:=aj (p1.kind==6) (aj ((p1.fields.length:Int) != 1) (tJ true) (al (at? p1.fields 0) fun e1=>tJ (!(e1.name.toList==(ByteArray.mk #[]).toList)))) (aj (p1.kind != 7) (aj (decide (0<(p1.fields.length:Int))) (some 1) (some 0)) (aj ((p1.fields.length:Int)==0) (some 1) (al (ca p1.fields) fun r1=>aj r1 (some 4) (gB p1 aH 0))))
theorem Kg(p1:am):CT prog 188 [mT p1] (yG p1) vi:=
  cu 52 [4] f188 fun r=>(uC (co f188 200 4 fun K k=>have J1:∀{x1},tJ x1=some r→K.p [(20,vb x1)] []:=fun{x1} h=>k h (uC uz uz);(uN af p1.fields (uC (uJ J1) (dL af fun e1=>(uJ J1))))) (uC (uN af p1.fields (uC uz uz)) (uN af p1.fields (uC uz (aS (j5 _) fun r1=>(uC uz (kd f188 30 1 CB [] [] uz fun K J2=>(uN af p1.fields (fJ f188 122 1 fun R b=>have L1:∀k1 {x2},gB p1 k1 x2=some r→(R k1).p [(1,vR [pi p1.kind,pi p1.scale,.ro (af.els p1.fields)]),(38,vl af p1.fields),(39,vi p1.fields.length),(40,vi x2)] []:=uI (fD rfl) fun k1 i1 {x2} h=>b h (uU (gB.eq_2 ..) (uC (dL af fun e2=>(uX af (EG true [0] (jZ _ _) fun r2 _=>(uC jh (uJ i1))))) (uR (.exit 1) (xM (uJ J2)))));uE (L1 aH))))))))))
def vH(z3:Int):Option (Int×d9):=some (0,(d9.mk z3))
def ew(q_value_checker_check:am→Int→d9→Option (Int×d9))(p1:am)(p2:Int):Nat→Int→Int→Option (Int×d9)
 |0,_,_=>none
 |k1+1,z2,x4=>aj (decide (x4<(p1.fields.length:Int))) (al (at? p1.fields x4) fun e1=>al (q_value_checker_check e1.type (i64.wrap (p2+1)) (d9.mk z2)) fun r4=>aj (r4.1 != 0) (some (r4.1,r4.2)) ((ew q_value_checker_check p1 p2 k1) r4.2.leaves (i64.wrap (x4+1)))) (vH z2)
def fy(q_value_checker_check:am→Int→d9→Option (Int×d9))(p1:am)(p2 z1:Int)(x3:Bool):Option (Int×d9):=aj x3 (some (1,(d9.mk z1))) (al (yG p1) fun r3=>aj (r3 != 0) (some (r3,(d9.mk z1))) (ew q_value_checker_check p1 p2 aH z1 0))
def lU(q_value_checker_check:am→Int→d9→Option (Int×d9))(p1:am)(p2 z1:Int)(x2:Bool):Option (Int×d9):=aj x2 (some (3,(d9.mk z1))) (aj (p1.scale != 0) (aj (p1.kind != 3) (fy q_value_checker_check p1 p2 z1 true) (aj (decide (p1.scale<0)) (fy q_value_checker_check p1 p2 z1 true) (fy q_value_checker_check p1 p2 z1 (decide (12<p1.scale))))) (fy q_value_checker_check p1 p2 z1 false))
def gR(q_value_checker_check:am→Int→d9→Option (Int×d9))(p1:am)(p2 z1:Int):Option (Int×d9):=aj (decide (p1.kind<1)) (lU q_value_checker_check p1 p2 z1 true) (lU q_value_checker_check p1 p2 z1 (decide (7<p1.kind)))
def gQ(q_value_checker_check:am→Int→d9→Option (Int×d9))(p1:am)(p2:Int)(p3:d9)(x1:Bool):Option (Int×d9):=aj x1 (some (7,p3)) (al (zy p1) fun r2=>aj r2 (gR q_value_checker_check p1 p2 (i64.wrap (p3.leaves+1))) (gR q_value_checker_check p1 p2 p3.leaves))
def bF:Nat→am→Int→d9→Option (Int×d9)
 |0,_,_,_=>none
 |k0+1,p1,p2,p3=>aj (decide (4<p2)) (gQ (bF k0) p1 p2 p3 true) (al (zy p1) fun r1=>aj r1 (gQ (bF k0) p1 p2 p3 (p3.leaves==40)) (gQ (bF k0) p1 p2 p3 false))
abbrev dV(p1:am):List PV:=[pi p1.kind,pi p1.scale,.ro (af.els p1.fields)]
theorem vZ:∀(k0:Nat) (p1:am) (p2:Int) (p3:d9),CM prog 139 [vQ 0,mT p1,vi p2] [.box [ci p3.leaves]] (bF k0 p1 p2 p3) (fun r=>vi r.1) (fun r=>[.box [ci r.2.leaves]])
  |0,_,_,_=>YQ (bF.eq_1 ..)
  |k0+1,p1,p2,p3=>ww 1 83 [9] f139 fun r=>(uU (bF.eq_2 ..) (co f139 12 2 fun K k=>have J1:∀{x1},gQ (bF k0) p1 p2 p3 x1=some r→K.p [(0,vQ 0),(2,vi p2),(4,vR (dV p1)),(23,vb x1)] [.box [ci p3.leaves]]:=fun{x1} h=>k h (uC (uR .ret sE) (co f139 14 1 fun K k=>have J2:∀{z1},gR (bF k0) p1 p2 z1=some r→K.p [(0,vQ 0),(2,vi p2),(4,vR (dV p1))] [.box [ci z1]]:=fun{z1} h=>k h (co f139 120 3 fun K k=>have J3:∀{x2},lU (bF k0) p1 p2 z1 x2=some r→K.p [(0,vQ 0),(2,vi p2),(4,vR (dV p1)),(33,vb x2)] [.box [ci z1]]:=fun{x2} h=>k h (uC (uR .ret sE) (co f139 486 3 fun K k=>have J4:∀{x3},fy (bF k0) p1 p2 z1 x3=some r→K.p [(0,vQ 0),(2,vi p2),(4,vR (dV p1)),(42,vb x3)] [.box [ci z1]]:=fun{x3} h=>k h (uC (uR .ret sE) (aS (Kg _) fun r3=>(uC (uR .ret sE) (co f139 126 1 fun K k=>have J5:∀{z3},vH z3=some r→K.p [] [.box [ci z3]]:=fun{z3} h=>k h (uR .ret sE);(uN af p1.fields (fJ f139 506 1 fun R b=>have L1:∀k1 {z2 x4},ew (bF k0) p1 p2 k1 z2 x4=some r→(R k1).p [(0,vQ 0),(2,vi p2),(67,vl af p1.fields),(68,vi p1.fields.length),(69,vi x4)] [.box [ci z2]]:=uI (fD rfl) fun k1 i1 {z2 x4} h=>b h (uU (ew.eq_2 ..) (uC (dL af fun e1=>(EG true [0] (vZ k0 _ _ _) fun r4 _=>(uC (uR .ret (xN (xN sE))) (uJ i1)))) (uR (.exit 1) (xM (uJ J5)))));uE (L1 aH)))))));(uC (uC (uJ J4) (uC (uJ J4) (uJ J4))) (uJ J4))));(uC (uJ J3) (uJ J3)));(aS (GL _) fun r2=>(uC (uJ J2) (uJ J2)))));(uC (uJ J1) (aS (GL _) fun r1=>(uC (uJ J1) (uJ J1))))))
def cW(p1:am):OI:=al (bF aH p1 1 (d9.mk 0)) fun r1=>some r1.1
theorem lm(p1:am):CT prog 75 [mT p1] (cW p1) vi:=
  cu 9 [5] f75 fun r=>(EG true [0] (vZ aH _ _ _) fun r1 _=>uz)
def om(p1:ae)(p2:List (Int×Int)):Option (Int×(List (Int×Int))):=aj (decide (p1.id<1)) (some (3,p2)) (al (some ((jB (vW .i64) p2 p1.id).getD 0)) fun x1=>al (some ((jB (vW .i64) (kT (vW .i64) p2 p1.id (i64.wrap (x1+1))) p1.id).getD 0)) fun x2=>aj (decide (1<x2)) (some (5,(kT (vW .i64) p2 p1.id (i64.wrap (x1+1))))) (some (0,(kT (vW .i64) p2 p1.id (i64.wrap (x1+1))))))
theorem CL(p1:ae)(p2:List (Int×Int)):CM prog 152 [mf p1,vQ 0] [.box [.mp 1],un (vW .i64) eI false p2] (om p1 p2) (fun r=>vi r.1) (fun r=>[.box [.mp 1],un (vW .i64) eI false r.2]):=
  ww 2 17 [] f152 fun r=>(uC (uR .ret sE) (uMl (vW .i64) eI false 1 (0:Int) 3 3 false fun x1 _=>(uMu (vW .i64) eI false 1 (m:=p2) (k0:=p1.id) (u:=(i64.wrap (x1+1))) 3 (uMl (vW .i64) eI false 1 (0:Int) 3 3 false fun x2 _=>(uC (uR .ret sE) (uR .ret sE))))))
def hH(z2:List (Int×Int)):Option (Int×(List (Int×Int))):=some (0,z2)
def ce(q_value_Walk_of_value_CheckSchema_1:(List ae)→(List (Int×Int))→Option (Int×(List (Int×Int))))(p1:List ae):Nat→(List (Int×Int))→Int→Option (Int×(List (Int×Int)))
 |0,_,_=>none
 |k1+1,z1,x1=>aj (decide (x1<(p1.length:Int))) (al (at? p1 x1) fun e1=>al (om e1 z1) fun r1=>aj (r1.1 != 0) (some (r1.1,r1.2)) (al (q_value_Walk_of_value_CheckSchema_1 e1.type.fields r1.2) fun r2=>aj (r2.1 != 0) (some (r2.1,r2.2)) ((ce q_value_Walk_of_value_CheckSchema_1 p1 k1) r2.2 (i64.wrap (x1+1))))) (hH z1)
def bu:Nat→(List ae)→(List (Int×Int))→Option (Int×(List (Int×Int)))
 |0,_,_=>none
 |k0+1,p1,p2=>ce (bu k0) p1 aH p2 0
theorem l8:∀(k0:Nat) (p1:List ae) (p2:List (Int×Int)),CM prog 103 [vl af p1,.one (.fn 152 [.pt 0 0 0 0])] [.box [.mp 1],un (vW .i64) eI false p2] (bu k0 p1 p2) (fun r=>vi r.1) (fun r=>[.box [.mp 1],un (vW .i64) eI false r.2])
  |0,_,_=>YQ (bu.eq_1 ..)
  |k0+1,p1,p2=>ww 2 30 [6] f103 fun r=>(uU (bu.eq_2 ..) (co f103 6 1 fun K k=>have J1:∀{z2},hH z2=some r→K.p [] [.box [.mp 1],un (vW .i64) eI false z2]:=fun{z2} h=>k h (uR .ret sE);(uN af p1 (fJ f103 26 1 fun R b=>have L1:∀k1 {z1 x1},ce (bu k0) p1 k1 z1 x1=some r→(R k1).p [(1,.one (.fn 152 [.pt 0 0 0 0])),(9,vl af p1),(10,vi p1.length),(11,vi x1)] [.box [.mp 1],un (vW .i64) eI false z1]:=uI (fD rfl) fun k1 i1 {z1 x1} h=>b h (uU (ce.eq_2 ..) (uC (dL af fun e1=>(EG true [0,1] (CL _ _) fun r1 _=>(uC (uR .ret (xN (xN sE))) (EG true [0,1] (l8 k0 _ _) fun r2 _=>(uC (uR .ret (xN (xN sE))) (uJ i1)))))) (uR (.exit 0) (xM (uJ J1)))));uE (L1 aH)))))
def fZ(p1:List ae):OI:=al (cW (am.mk 7 0 p1)) fun r1=>aj (r1 != 0) (some r1) (al (bu aH p1 []) fun r2=>some r2.1)
theorem sA(p1:List ae):CT prog 102 [vl af p1] (fZ p1) vi:=
  cu 15 [4] f102 fun r=>(aS (lm _) fun r1=>(uC uz (uMm (vW .i64) eI false (EG true [1,0] (l8 aH _ _) fun r2 _=>uz))))
def ve(p1:ae)(p2:List (List ae))(p3:List cD)(p4 p5 p6 p7:Int)(p8:List ar)(p9:List kV)(cj:List oa):OI:=aj (decide (p4≤p1.id)) (some 3) (some 0)
theorem D9(p1:ae)(p2:List (List ae))(p3:List cD)(p4 p5 p6 p7:Int)(p8:List ar)(p9:List kV)(cj:List oa):CT prog 104 [mf p1,vR [.ro ((eL af).els p2),.ro (fk.els p3),pi p4,pi p5,pi p6,pi p7,.ro (aT.els p8),.ro (nT.els p9),.ro (ku.els cj)]] (ve p1 p2 p3 p4 p5 p6 p7 p8 p9 cj) vi:=
  cu 9 [] f104 fun r=>(uC uz uz)
def nz:OI:=some 0
def cf(q_value_Walk_of_table_schemas_1:(List ae)→(List (List ae))→(List cD)→Int→Int→Int→Int→(List ar)→(List kV)→(List oa)→OI)(p1:List ae)(p2:List (List ae))(p3:List cD)(p4 p5 p6 p7:Int)(p8:List ar)(p9:List kV)(cj:List oa):Nat→Int→OI
 |0,_=>none
 |k1+1,x1=>aj (decide (x1<(p1.length:Int))) (al (at? p1 x1) fun e1=>al (ve e1 p2 p3 p4 p5 p6 p7 p8 p9 cj) fun r1=>aj (r1 != 0) (some r1) (al (q_value_Walk_of_table_schemas_1 e1.type.fields p2 p3 p4 p5 p6 p7 p8 p9 cj) fun r2=>aj (r2 != 0) (some r2) ((cf q_value_Walk_of_table_schemas_1 p1 p2 p3 p4 p5 p6 p7 p8 p9 cj k1) (i64.wrap (x1+1))))) (nz)
def bM:Nat→(List ae)→(List (List ae))→(List cD)→Int→Int→Int→Int→(List ar)→(List kV)→(List oa)→OI
 |0,_,_,_,_,_,_,_,_,_,_=>none
 |k0+1,p1,p2,p3,p4,p5,p6,p7,p8,p9,cj=>cf (bM k0) p1 p2 p3 p4 p5 p6 p7 p8 p9 cj aH 0
theorem n8:∀(k0:Nat) (p1:List ae) (p2:List (List ae)) (p3:List cD) (p4 p5 p6 p7:Int) (p8:List ar) (p9:List kV) (cj:List oa),CT prog 103 [vl af p1,.one (.fn 104 [.pv (.rp [[.ro ((eL af).els p2),.ro (fk.els p3),pi p4,pi p5,pi p6,pi p7,.ro (aT.els p8),.ro (nT.els p9),.ro (ku.els cj)]] 0 0)])] (bM k0 p1 p2 p3 p4 p5 p6 p7 p8 p9 cj) vi
  |0,_,_,_,_,_,_,_,_,_,_=>Jw (bM.eq_1 ..)
  |k0+1,p1,p2,p3,p4,p5,p6,p7,p8,p9,cj=>cu 30 [6] f103 fun r=>(uU (bM.eq_2 ..) (kd f103 6 1 nz [] [] uz fun K J1=>(uN af p1 (fJ f103 26 1 fun R b=>have L1:∀k1 {x1},cf (bM k0) p1 p2 p3 p4 p5 p6 p7 p8 p9 cj k1 x1=some r→(R k1).p [(1,.one (.fn 104 [.pv (.rp [[.ro ((eL af).els p2),.ro (fk.els p3),pi p4,pi p5,pi p6,pi p7,.ro (aT.els p8),.ro (nT.els p9),.ro (ku.els cj)]] 0 0)])),(9,vl af p1),(10,vi p1.length),(11,vi x1)] []:=uI (fD rfl) fun k1 i1 {x1} h=>b h (uU (cf.eq_2 ..) (uC (dL af fun e1=>(aS (D9 _ _ _ _ _ _ _ _ _ _) fun r1=>(uC jh (aS (n8 k0 _ _ _ _ _ _ _ _ _ _) fun r2=>(uC jh (uJ i1)))))) (uR (.exit 0) (xM (uJ J1)))));uE (L1 aH)))))
def qf(p1:List ae):OI:=al (fZ p1) fun r1=>aj (r1 != 0) (some r1) (some 0)
theorem Bs(p1:List ae):CT prog 153 [vl af p1,.one (.pv (.s (.slice none 0 0)))] (qf p1) vi:=
  cu 59 [] f153 fun r=>(aS (sA _) fun r1=>(uC uz (uF (Rt 0 (uF uz)))))
def tV(p1:ae)(p2:Int):OB:=some (p1.id==p2)
theorem C8(p1:ae)(p2:Int):CT prog 240 [mf p1,vR [pi p2]] (tV p1 p2) vb:=
  cu 8 [] f240 fun r=>uz
def eM:OI:=some (-1)
def a7(p1:List ae)(p2:Int):Nat→Int→OI
 |0,_=>none
 |k1+1,x1=>aj (decide (x1<(p1.length:Int))) (al (at? p1 x1) fun e1=>al (tV e1 p2) fun r1=>aj r1 (some x1) ((a7 p1 p2 k1) (i64.wrap (x1+1)))) (eM)
def cY(p1:List ae)(p2:Int):OI:=a7 p1 p2 aH 0
theorem kf(p1:List ae)(p2:Int):CT prog 118 [vl af p1,.one (.fn 240 [.pv (.rp [[pi p2]] 0 0)])] (cY p1 p2) vi:=
  cu 19 [] f118 fun r=>(kd f118 6 1 eM [] [] uz fun K J1=>(uN af p1 (fJ f118 26 1 fun R b=>have L1:∀k1 {x1},a7 p1 p2 k1 x1=some r→(R k1).p [(0,vl af p1),(1,.one (.fn 240 [.pv (.rp [[pi p2]] 0 0)])),(7,vi p1.length),(8,vi x1)] []:=uI (fD rfl) fun k1 i1 {x1} h=>b h (uU (a7.eq_2 ..) (uC (dL af fun e1=>(aS (C8 _ _) fun r1=>(uC jh (uJ i1)))) (uR (.exit 0) (xM (uJ J1)))));uE (L1 aH))))
def vT(p1:List ae)(p2:Int):OI:=al (cY p1 p2) fun r1=>some r1
theorem HB(p1:List ae)(p2:Int):CT prog 200 [vl af p1,vi p2] (vT p1 p2) vi:=
  cu 8 [] f200 fun r=>(aS (kf _ _) fun r1=>uz)
def qs(x1:Bool):OB:=some x1
def rn(p1:am):OB:=aj (p1.kind==6) (qs true) (qs (p1.kind==7))
theorem BT(p1:am):CT prog 201 [mT p1] (rn p1) vb:=
  cu 11 [] f201 fun r=>(co f201 6 1 fun K k=>have J1:∀{x1},qs x1=some r→K.p [(2,vb x1)] []:=fun{x1} h=>k h uz;(uC (uJ J1) (uJ J1)))
def o7(x1:Bool):OI:=aj x1 (some 2) (some 0)
def pM(p1:am):OI:=al (cW p1) fun r1=>aj (r1 != 0) (some r1) (aj (p1.kind==6) (o7 true) (o7 (p1.kind==7)))
theorem AJ(p1:am):CT prog 184 [mT p1] (pM p1) vi:=
  cu 17 [] f184 fun r=>(aS (lm _) fun r1=>(uC uz (co f184 28 2 fun K k=>have J1:∀{x1},o7 x1=some r→K.p [(16,vb x1)] []:=fun{x1} h=>k h (uC uz uz);(uC (uJ J1) (uJ J1)))))
def j9(x4:Bool):OB:=some x4
def rQ(p1 p2:am)(x3:Bool):OB:=aj x3 (some true) (aj (p1.kind==1) (aj (p2.kind==3) (j9 (p2.scale==0)) (j9 false)) (aj (p1.kind==2) (aj (p2.kind==3) (j9 (p2.scale==0)) (j9 false)) (j9 false)))
def rD(p1 p2:am)(x2:Bool):OB:=aj x2 (some true) (aj (p1.kind==1) (rQ p1 p2 (p2.kind==2)) (rQ p1 p2 false))
def ml(p1 p2:am)(x1:Bool):OB:=aj x1 (some false) (aj (p1.kind==p2.kind) (rD p1 p2 (p1.scale==p2.scale)) (rD p1 p2 false))
def kx(p1 p2:am):OB:=al (pM p1) fun r1=>aj (r1 != 0) (ml p1 p2 true) (al (pM p2) fun r2=>ml p1 p2 (r2 != 0))
theorem CE(p1 p2:am):CT prog 130 [mT p1,mT p2] (kx p1 p2) vb:=
  cu 53 [] f130 fun r=>(co f130 12 2 fun K k=>have J1:∀{x1},ml p1 p2 x1=some r→K.p [(2,vR (dV p1)),(3,vR (dV p2)),(12,vb x1)] []:=fun{x1} h=>k h (uC uz (co f130 56 3 fun K k=>have J2:∀{x2},rD p1 p2 x2=some r→K.p [(2,vR (dV p1)),(3,vR (dV p2)),(13,vb x2)] []:=fun{x2} h=>k h (uC uz (co f130 230 3 fun K k=>have J3:∀{x3},rQ p1 p2 x3=some r→K.p [(2,vR (dV p1)),(3,vR (dV p2)),(26,vb x3)] []:=fun{x3} h=>k h (uC uz (co f130 30 1 fun K k=>have J4:∀{x4},j9 x4=some r→K.p [(4,vb x4)] []:=fun{x4} h=>k h uz;(uC (uC (uJ J4) (uJ J4)) (uC (uC (uJ J4) (uJ J4)) (uJ J4)))));(uC (uJ J3) (uJ J3))));(uC (uJ J2) (uJ J2))));(aS (AJ _) fun r1=>(uC (uJ J1) (aS (AJ _) fun r2=>(uJ J1)))))
def lC(rec1:Int→OI)(x1:Int):OI:=rec1 (i64.wrap (x1+1))
def gZ(q_column_adaptable:(List ae)→(List ae)→OI)(rec1:Int→OI)(x1:Int)(e1 e2:ae)(x4:Bool):OI:=aj x4 (some 2) (al (q_column_adaptable e2.type.fields e1.type.fields) fun r5=>aj (r5 != 0) (some r5) (lC rec1 x1))
def oj(q_column_adaptable:(List ae)→(List ae)→OI)(rec1:Int→OI)(x1:Int)(e1 e2:ae)(x3:Bool):OI:=aj x3 (gZ q_column_adaptable rec1 x1 e1 e2 x3) (al (rn e2.type) fun r3=>aj (!r3) (al (kx e2.type e1.type) fun r4=>gZ q_column_adaptable rec1 x1 e1 e2 (!r4)) (gZ q_column_adaptable rec1 x1 e1 e2 false))
def lD(q_column_adaptable:(List ae)→(List ae)→OI)(rec1:Int→OI)(x1:Int)(e1 e2:ae)(x2:Bool):OI:=aj x2 (some 9) (al (rn e2.type) fun r2=>aj r2 (oj q_column_adaptable rec1 x1 e1 e2 (e1.type.kind != e2.type.kind)) (oj q_column_adaptable rec1 x1 e1 e2 false))
def ye:OI:=some 0
def bG(q_column_adaptable:(List ae)→(List ae)→OI)(p1 p2:List ae):Nat→Int→OI
 |0,_=>none
 |k1+1,x1=>aj (decide (x1<(p2.length:Int))) (al (at? p2 x1) fun e1=>al (vT p1 e1.id) fun r1=>aj (decide (r1<0)) (aj e1.need (some 9) (lC (bG q_column_adaptable p1 p2 k1) x1)) (al (at? p1 r1) fun e2=>aj e1.need (lD q_column_adaptable (bG q_column_adaptable p1 p2 k1) x1 e1 e2 (!e2.need)) (lD q_column_adaptable (bG q_column_adaptable p1 p2 k1) x1 e1 e2 false))) (ye)
def bv:Nat→(List ae)→(List ae)→OI
 |0,_,_=>none
 |k0+1,p1,p2=>bG (bv k0) p1 p2 aH 0
abbrev Bg(e1:ae):List CV:=[ci e1.id,rX e1.name,cb e1.need,ci e1.type.kind,ci e1.type.scale,cl af e1.type.fields]
theorem zu:∀(k0:Nat) (p1 p2:List ae),CT prog 154 [vl af p1,vl af p2] (bv k0 p1 p2) vi
  |0,_,_=>Jw (bv.eq_1 ..)
  |k0+1,p1,p2=>cu 72 [6,8] f154 fun r=>(uU (bv.eq_2 ..) (kd f154 6 1 ye [] [] uz fun K J5=>(uN af p2 (fJ f154 26 1 fun R b=>have L1:∀k1 {x1},bG (bv k0) p1 p2 k1 x1=some r→(R k1).p [(0,vl af p1),(10,vl af p2),(11,vi p2.length),(12,vi x1)] []:=uI (fD rfl) fun k1 i1 {x1} h=>b h (uU (bG.eq_2 ..) (uC (kd f154 422 1 (lC (bG (bv k0) p1 p2 k1) x1) [(0,vl af p1),(10,vl af p2),(11,vi p2.length),(12,vi x1)] [] (uJ i1) fun K J4=>(dL af fun e1=>(aS (HB _ _) fun r1=>(uC (uC (uR .ret (xN (xN (xN xF)))) (uJ J4)) (dL af fun e2=>(co f154 108152 4 fun K k=>have J1:∀{x2},lD (bv k0) (bG (bv k0) p1 p2 k1) x1 e1 e2 x2=some r→K.p [(0,vl af p1),(6,vQ 0),(8,vQ 1),(10,vl af p2),(11,vi p2.length),(12,vi x1),(28,vb x2)] [.box (Bg e1),.box (Bg e2)]:=fun{x2} h=>k h (uC (uR .ret (xN (xN (xN xF)))) (co f154 432614 4 fun K k=>have J3:∀{x4},gZ (bv k0) (bG (bv k0) p1 p2 k1) x1 e1 e2 x4=some r→K.p [(0,vl af p1),(6,vQ 0),(8,vQ 1),(10,vl af p2),(11,vi p2.length),(12,vi x1),(36,vb x4)] [.box (Bg e1),.box (Bg e2)]:=fun{x4} h=>k h (uC (uR .ret (xN (xN (xN xF)))) (aS (zu k0 _ _) fun r5=>(uC (uR .ret (xN (xN (xN xF)))) (uJ J4))));(co f154 865228 1 fun K k=>have J2:∀{x3},oj (bv k0) (bG (bv k0) p1 p2 k1) x1 e1 e2 x3=some r→K.p [(0,vl af p1),(6,vQ 0),(8,vQ 1),(10,vl af p2),(11,vi p2.length),(12,vi x1),(36,vb x3)] [.box (Bg e1),.box (Bg e2)]:=fun{x3} h=>k h (uC (uJ J3) (aS (BT _) fun r3=>(uC (aS (CE _ _) fun r4=>(uJ J3)) (uJ J3))));(aS (BT _) fun r2=>(uC (uJ J2) (uJ J2))))));(uC (uJ J1) (uJ J1)))))))) (uR (.exit 0) (xM (uJ J5)))));uE (L1 aH)))))
def od(p1:List (List ac)):Option (List (List ac)):=gX (0≤(0:Int)∧(0:Int)≤(p1.length:Int)∧(p1.length:Int)≤(p1.length:Int)∧(p1.length:Int)≤(p1.length:Int))<|some ((p1.drop (0:Int).toNat).take ((p1.length:Int).toNat-(0:Int).toNat))
theorem uj(p1:List (List ac)):CT prog 156 [vl (eL ak) p1] (od p1) (fun r=>vl (eL ak) r):=
  cu 9 [] f156 fun r=>(uN (eL ak) p1 (uN (eL ak) p1 (uXm (eL ak) uz)))
def qu(p1 p2:List ae):Option ((List (List ac))×Int):=al (qf p1) fun r1=>aj (r1 != 0) (some ([],r1)) (al (fZ p2) fun r2=>aj (r2 != 0) (some ([],r2)) (al (bv aH p1 p2) fun r3=>aj (r3 != 0) (some ([],r3)) (al (od []) fun r4=>some (r4,0))))
theorem Ec(p1 p2:List ae):CT prog 105 [vl af p1,vl af p2,.one (.pv (.s (.slice none 0 0)))] (qu p1 p2) (fun r=> .tp [vl (eL ak) r.1,vi r.2]):=
  cu 47 [] f105 fun r=>(uPn (Bs _) fun r1 _=>(uC uz (aS (sA _) fun r2=>(uC uz (aS (zu aH _ _) fun r3=>(uC uz (Rt 0 (uF (aS (uj _) fun r4=>uz)))))))))
def wq(rec1:Int→OI)(x1:Int):OI:=rec1 (i64.wrap (x1+1))
def j6(rec1:Int→OI)(p1:ay)(x1:Int)(e1:List ae):Nat→Int→OI
 |0,_=>none
 |k2+1,x2=>al (some (decide (x2<(((p1.schemas.drop (0:Int).toNat).take (x1.toNat-(0:Int).toNat)).length:Int)))) fun y1=>aj y1 (al (at? ((p1.schemas.drop (0:Int).toNat).take (x1.toNat-(0:Int).toNat)) x2) fun e2=>al (qu e2 e1) fun r3=>aj (r3.2 != 0) (some r3.2) ((j6 rec1 p1 x1 e1 k2) (i64.wrap (x2+1)))) (wq rec1 x1)
def Bu:OI:=some 0
def eU(p1:ay):Nat→Int→OI
 |0,_=>none
 |k1+1,x1=>aj (decide (x1<(p1.schemas.length:Int))) (al (at? p1.schemas x1) fun e1=>al (fZ e1) fun r1=>aj (r1 != 0) (some r1) (al (bM aH e1 p1.schemas p1.specs p1.nextField p1.nextSeq p1.nextSnap p1.purges p1.snapshots p1.refs p1.props) fun r2=>aj (r2 != 0) (some r2) (gX (0≤(0:Int)∧(0:Int)≤x1∧x1≤(p1.schemas.length:Int))<|j6 (eU p1 k1) p1 x1 e1 aH (0:Int)))) (Bu)
def wP(p1:ay):OI:=eU p1 aH 0
abbrev bB(p1:ay):List PV:=[.ro ((eL af).els p1.schemas),.ro (fk.els p1.specs),pi p1.nextField,pi p1.nextSeq,pi p1.nextSnap,pi p1.purges,.ro (aT.els p1.snapshots),.ro (nT.els p1.refs),.ro (ku.els p1.props)]
abbrev Vv(p1:ay)(x1:Int):Fr:=[(1,.one (.pv (.rp [(bB p1)] 0 0))),(12,vl (eL af) p1.schemas),(13,vi (p1.schemas.length:Int)),(14,vi x1)]
theorem Iu(p1:ay):CT prog 53 [mM p1] (wP p1) vi:=
  cu 50 [] f53 fun r=>(kd f53 6 1 Bu [] [] uz fun K J2=>(uN (eL af) p1.schemas (fJ f53 26 1 fun R b=>have L1:∀k1 {x1},eU p1 k1 x1=some r→(R k1).p (Vv p1 x1) []:=uI (fD rfl) fun k1 i1 {x1} h=>b h (uU (eU.eq_2 ..) (uC (kd f53 422 1 (wq (eU p1 k1) x1) (Vv p1 x1) [] (uJ i1) fun K J1=>(dL (eL af) fun e1=>(aS (sA _) fun r1=>(uC (uR .ret (xN (xN (xN xF)))) (aS (n8 aH _ _ _ _ _ _ _ _ _ _) fun r2=>(uC (uR .ret (xN (xN (xN xF)))) (uX (eL af) (uN (eL af) ((p1.schemas.drop (0:Int).toNat).take (x1.toNat-(0:Int).toNat)) (fJ f53 54078 2 fun R b=>have L2:∀k2 {x2},j6 (eU p1 k1) p1 x1 e1 k2 x2=some r→(R k2).p [(1,vR (bB p1)),(4,vl af e1),(12,vl (eL af) p1.schemas),(13,vi p1.schemas.length),(14,vi x1),(33,vl (eL af) ((p1.schemas.drop (0:Int).toNat).take (x1.toNat-(0:Int).toNat))),(34,vi (((p1.schemas.drop (0:Int).toNat).take (x1.toNat-(0:Int).toNat)).length:Int)),(35,vi x2)] []:=uI (fD rfl) fun k2 i2 {x2} h=>b h (uU (j6.eq_2 ..) (uY 36 vb fun y1=>(uC (dL (eL af) fun e2=>(uPn (Ec _ _) fun r3 _=>(uC (uR .ret (xN (xN (xN (xN xF))))) (uJ i2)))) (uR (.exit 2) (xM (uJ J1))))));uE (L2 aH)))))))))) (uR (.exit 0) (xM (uJ J2)))));uE (L1 aH))))
def tk(p1:ae)(p2:Int):OB:=some (p1.id==p2)
theorem Iz(p1:ae)(p2:Int):CT prog 119 [mf p1,vR [pi p2]] (tk p1 p2) vb:=
  cu 8 [] f119 fun r=>uz
def fH:OI:=some (-1)
def aL(p1:List ae)(p2:Int):Nat→Int→OI
 |0,_=>none
 |k1+1,x1=>aj (decide (x1<(p1.length:Int))) (al (at? p1 x1) fun e1=>al (tk e1 p2) fun r1=>aj r1 (some x1) ((aL p1 p2 k1) (i64.wrap (x1+1)))) (fH)
def cx(p1:List ae)(p2:Int):OI:=aL p1 p2 aH 0
theorem lF(p1:List ae)(p2:Int):CT prog 118 [vl af p1,.one (.fn 119 [.pv (.rp [[pi p2]] 0 0)])] (cx p1 p2) vi:=
  cu 19 [] f118 fun r=>(kd f118 6 1 fH [] [] uz fun K J1=>(uN af p1 (fJ f118 26 1 fun R b=>have L1:∀k1 {x1},aL p1 p2 k1 x1=some r→(R k1).p [(0,vl af p1),(1,.one (.fn 119 [.pv (.rp [[pi p2]] 0 0)])),(7,vi p1.length),(8,vi x1)] []:=uI (fD rfl) fun k1 i1 {x1} h=>b h (uU (aL.eq_2 ..) (uC (dL af fun e1=>(aS (Iz _ _) fun r1=>(uC jh (uJ i1)))) (uR (.exit 0) (xM (uJ J1)))));uE (L1 aH))))
def me(p1:List ae)(p2:Int):OI:=al (cx p1 p2) fun r1=>some r1
theorem xC(p1:List ae)(p2:Int):CT prog 61 [vl af p1,vi p2] (me p1 p2) vi:=
  cu 8 [] f61 fun r=>(aS (lF _ _) fun r1=>uz)
def xS(p1:bm)(p2:List (List ae))(p3:List cD)(p4 p5 p6 p7:Int)(p8:List ar)(p9:List kV)(cj:List oa)(p11:Int):Option (Bool×Int):=al (at? p2 p11) fun e1=>al (me e1 p1.source) fun r1=>some ((decide (r1<0)),p11)
theorem F3(p1:bm)(p2:List (List ae))(p3:List cD)(p4 p5 p6 p7:Int)(p8:List ar)(p9:List kV)(cj:List oa)(p11:Int):CM prog 106 [.ag [ci p1.source,ci p1.transform.kind,ci p1.transform.param],vR [.ro ((eL af).els p2),.ro (fk.els p3),pi p4,pi p5,pi p6,pi p7,.ro (aT.els p8),.ro (nT.els p9),.ro (ku.els cj)],vQ 0] [.box [ci p11]] (xS p1 p2 p3 p4 p5 p6 p7 p8 p9 cj p11) (fun r=>vb r.1) (fun r=>[.box [ci r.2]]):=
  ww 1 14 [] f106 fun r=>(mZ 7 (dL (eL af) fun e1=>(aS (xC _ _) fun r1=>(uR .ret sE))))
def d8(z2:Int):Option (Int×Int):=some ((-1),z2)
def aO(p1:List bm)(p2:List (List ae))(p3:List cD)(p4 p5 p6 p7:Int)(p8:List ar)(p9:List kV)(cj:List oa):Nat→Int→Int→Option (Int×Int)
 |0,_,_=>none
 |k1+1,z1,x1=>aj (decide (x1<(p1.length:Int))) (al (at? p1 x1) fun e1=>al (xS e1 p2 p3 p4 p5 p6 p7 p8 p9 cj z1) fun r1=>aj r1.1 (some (x1,r1.2)) ((aO p1 p2 p3 p4 p5 p6 p7 p8 p9 cj k1) r1.2 (i64.wrap (x1+1)))) (d8 z1)
def cF(p1:List bm)(p2:List (List ae))(p3:List cD)(p4 p5 p6 p7:Int)(p8:List ar)(p9:List kV)(cj:List oa)(p11:Int):Option (Int×Int):=aO p1 p2 p3 p4 p5 p6 p7 p8 p9 cj aH p11 0
theorem ji(p1:List bm)(p2:List (List ae))(p3:List cD)(p4 p5 p6 p7:Int)(p8:List ar)(p9:List kV)(cj:List oa)(p11:Int):CM prog 117 [vl aF p1,.one (.fn 106 [.pv (.rp [[.ro ((eL af).els p2),.ro (fk.els p3),pi p4,pi p5,pi p6,pi p7,.ro (aT.els p8),.ro (nT.els p9),.ro (ku.els cj)]] 0 0),.pt 0 0 0 0])] [.box [ci p11]] (cF p1 p2 p3 p4 p5 p6 p7 p8 p9 cj p11) (fun r=>vi r.1) (fun r=>[.box [ci r.2]]):=
  ww 1 19 [] f117 fun r=>(co f117 6 1 fun K k=>have J1:∀{z2},d8 z2=some r→K.p [] [.box [ci z2]]:=fun{z2} h=>k h (uR .ret sE);(uN aF p1 (fJ f117 26 1 fun R b=>have L1:∀k1 {z1 x1},aO p1 p2 p3 p4 p5 p6 p7 p8 p9 cj k1 z1 x1=some r→(R k1).p [(0,vl aF p1),(1,.one (.fn 106 [.pv (.rp [[.ro ((eL af).els p2),.ro (fk.els p3),pi p4,pi p5,pi p6,pi p7,.ro (aT.els p8),.ro (nT.els p9),.ro (ku.els cj)]] 0 0),.pt 0 0 0 0])),(7,vi p1.length),(8,vi x1)] [.box [ci z1]]:=uI (fD rfl) fun k1 i1 {z1 x1} h=>b h (uU (aO.eq_2 ..) (uC (dL aF fun e1=>(EG true [0] (F3 _ _ _ _ _ _ _ _ _ _ _) fun r1 _=>(uC (uR .ret (xN (xN sE))) (uJ i1)))) (uR (.exit 0) (xM (uJ J1)))));uE (L1 aH))))
def bC(p1:List bm)(p2:List (List ae))(p3:List cD)(p4 p5 p6 p7:Int)(p8:List ar)(p9:List kV)(cj:List oa)(p11:Int):Option (Bool×Int):=al (cF p1 p2 p3 p4 p5 p6 p7 p8 p9 cj p11) fun r1=>some ((decide (0≤r1.1)),r1.2)
theorem iN(p1:List bm)(p2:List (List ae))(p3:List cD)(p4 p5 p6 p7:Int)(p8:List ar)(p9:List kV)(cj:List oa)(p11:Int):CM prog 59 [vl aF p1,.one (.fn 106 [.pv (.rp [[.ro ((eL af).els p2),.ro (fk.els p3),pi p4,pi p5,pi p6,pi p7,.ro (aT.els p8),.ro (nT.els p9),.ro (ku.els cj)]] 0 0),.pt 0 0 0 0])] [.box [ci p11]] (bC p1 p2 p3 p4 p5 p6 p7 p8 p9 cj p11) (fun r=>vb r.1) (fun r=>[.box [ci r.2]]):=
  ww 1 9 [] f59 fun r=>(EG true [0] (ji _ _ _ _ _ _ _ _ _ _ _) fun r1 _=>(uR .ret sE))
def xc(x1:Bool):OB:=some x1
def wE(p1:am):OB:=aj (p1.kind != 6) (xc (p1.kind != 7)) (xc false)
theorem Ck(p1:am):CT prog 120 [mT p1] (wE p1) vb:=
  cu 11 [] f120 fun r=>(co f120 6 1 fun K k=>have J1:∀{x1},xc x1=some r→K.p [(2,vb x1)] []:=fun{x1} h=>k h uz;(uC (uJ J1) (uJ J1)))
def lT(p2:am)(x6:Bool):Option (am×Int):=aj x6 (some ((am.mk 2 0 []),0)) (some (p2,0))
def gN(p1:aZ)(p2:am)(x5:Bool):Option (am×Int):=aj x5 (some ((am.mk 0 0 []),2)) (aj (p1.kind==2) (lT p2 true) (lT p2 (decide (4≤p1.kind))))
def gO(p1:aZ)(p2:am)(x4:Bool):Option (am×Int):=aj x4 (gN p1 p2 x4) (aj (decide (4≤p1.kind)) (gN p1 p2 (p2.kind != 5)) (gN p1 p2 false))
def jy(p1:aZ)(p2:am):Option (am×Int):=al (wE p2) fun r2=>aj (!r2) (gN p1 p2 (!r2)) (aj (p1.kind==3) (aj (p2.kind != 2) (aj (p2.kind != 3) (gO p1 p2 (p2.kind != 4)) (gO p1 p2 false)) (gO p1 p2 false)) (gO p1 p2 false))
def lL(p1:aZ)(p2:am)(x3:Bool):Option (am×Int):=aj x3 (some ((am.mk 0 0 []),3)) (jy p1 p2)
def lO(p1:aZ)(p2:am)(x2:Bool):Option (am×Int):=aj x2 (aj (decide (p1.param<1)) (lL p1 p2 true) (lL p1 p2 (decide (1000000<p1.param)))) (aj (p1.param != 0) (some ((am.mk 0 0 []),3)) (jy p1 p2))
def lN(p1:aZ)(p2:am)(x1:Bool):Option (am×Int):=aj x1 (some ((am.mk 0 0 []),3)) (aj (p1.kind==2) (lO p1 p2 true) (lO p1 p2 (p1.kind==3)))
def dz(p1:aZ)(p2:am):Option (am×Int):=al (cW p2) fun r1=>aj (r1 != 0) (some ((am.mk 0 0 []),r1)) (aj (decide (p1.kind<0)) (lN p1 p2 true) (lN p1 p2 (decide (7<p1.kind))))
abbrev xT:List CV:=[ci (0:Int),ci (0:Int),.pv (.s (.slice none 0 0))]
theorem qj(p1:aZ)(p2:am):CT prog 62 [.ag [ci p1.kind,ci p1.param],mT p2] (dz p1 p2) (fun r=> .tp [mT r.1,vi r.2]):=
  cu 85 [4] f62 fun r=>(aS (lm _) fun r1=>(uC uz (co f62 28 2 fun K k=>have J1:∀{x1},lN p1 p2 x1=some r→K.p [(2,vR [pi p1.kind,pi p1.param]),(3,vR (dV p2)),(4,vQ 0),(20,vb x1)] [.box xT]:=fun{x1} h=>k h (uC uz (kd f62 30 1 (jy p1 p2) [(2,vR [pi p1.kind,pi p1.param]),(3,vR (dV p2)),(4,vQ 0)] [.box xT] (co f62 248 3 fun K k=>have J6:∀{x5},gN p1 p2 x5=some r→K.p [(2,vR [pi p1.kind,pi p1.param]),(3,vR (dV p2)),(4,vQ 0),(43,vb x5)] [.box xT]:=fun{x5} h=>k h (uC uz (co f62 998 3 fun K k=>have J7:∀{x6},lT p2 x6=some r→K.p [(3,vR (dV p2)),(4,vQ 0),(74,vb x6)] [.box xT]:=fun{x6} h=>k h (uC uz uz);(uC (uJ J7) (uJ J7))));(aS (Ck _) fun r2=>(uC (uJ J6) (co f62 1990 1 fun K k=>have J5:∀{x4},gO p1 p2 x4=some r→K.p [(2,vR [pi p1.kind,pi p1.param]),(3,vR (dV p2)),(4,vQ 0),(43,vb x4)] [.box xT]:=fun{x4} h=>k h (uC (uJ J6) (uC (uJ J6) (uJ J6)));(uC (uC (uC (uJ J5) (uJ J5)) (uJ J5)) (uJ J5)))))) fun K J4=>(co f62 60 1 fun K k=>have J2:∀{x2},lO p1 p2 x2=some r→K.p [(2,vR [pi p1.kind,pi p1.param]),(3,vR (dV p2)),(4,vQ 0),(29,vb x2)] [.box xT]:=fun{x2} h=>k h (uC (co f62 244 1 fun K k=>have J3:∀{x3},lL p1 p2 x3=some r→K.p [(2,vR [pi p1.kind,pi p1.param]),(3,vR (dV p2)),(4,vQ 0),(37,vb x3)] [.box xT]:=fun{x3} h=>k h (uC (uR .ret (xN xF)) (uJ J4));(uC (uJ J3) (uJ J3))) (uC (uR .ret (xN xF)) (uJ J4)));(uC (uJ J2) (uJ J2)))));(uC (uJ J1) (uJ J1)))))
def jg:OI:=some (-1)
def bz(p1:List bm)(p2:bm):Nat→Int→OI
 |0,_=>none
 |k1+1,x1=>aj (decide (x1<(p1.length:Int))) (al (at? p1 x1) fun e1=>al (some ((p2.source==e1.source)&&(((p2.transform.kind==e1.transform.kind)&&((p2.transform.param==e1.transform.param)&&true))&&true))) fun y1=>aj y1 (some x1) ((bz p1 p2 k1) (i64.wrap (x1+1)))) (jg)
def fT(p1:List bm)(p2:bm):OI:=bz p1 p2 aH 0
theorem pz(p1:List bm)(p2:bm):CT prog 189 [vl aF p1,.ag [ci p2.source,ci p2.transform.kind,ci p2.transform.param]] (fT p1 p2) vi:=
  cu 19 [] f189 fun r=>(kd f189 6 1 jg [] [] uz fun K J1=>(uN aF p1 (fJ f189 26 1 fun R b=>have L1:∀k1 {x1},bz p1 p2 k1 x1=some r→(R k1).p [(0,vl aF p1),(3,vR [pi p2.source,pi p2.transform.kind,pi p2.transform.param]),(7,vi p1.length),(8,vi x1)] []:=uI (fD rfl) fun k1 i1 {x1} h=>b h (uU (bz.eq_2 ..) (uC (mZ 5 (dL aF fun e1=>(uY 16 vb fun y1=>(uC jh (uJ i1))))) (uR (.exit 0) (xM (uJ J1)))));uE (L1 aH))))
def dv(p1:List bm)(p2:bm):OB:=al (fT p1 p2) fun r1=>some (decide (0≤r1))
theorem oe(p1:List bm)(p2:bm):CT prog 141 [vl aF p1,.ag [ci p2.source,ci p2.transform.kind,ci p2.transform.param]] (dv p1 p2) vb:=
  cu 9 [] f141 fun r=>(aS (pz _ _) fun r1=>uz)
def DB:OI:=some 0
def mn(p1:cD)(p2:List ae):Nat→Int→OI
 |0,_=>none
 |k1+1,x1=>aj (decide (x1<(p1.fields.length:Int))) (al (at? p1.fields x1) fun e1=>al (me p2 e1.source) fun r1=>aj (decide (r1<(0:Int))) (some (9:Int)) (al (at? p2 r1) fun e2=>al (dz e1.transform e2.type) fun r2=>aj (r2.2 != 0) (some r2.2) (gX (0≤(0:Int)∧(0:Int)≤x1∧x1≤(p1.fields.length:Int))<|al (dv ((p1.fields.drop (0:Int).toNat).take (x1.toNat-(0:Int).toNat)) e1) fun r3=>aj r3 (some (5:Int)) ((mn p1 p2 k1) (i64.wrap (x1+1)))))) (DB)
def ud(p1:cD)(p2:List ae):OI:=aj (decide (4<(p1.fields.length:Int))) (some 7) (mn p1 p2 aH 0)
theorem Ku(p1:cD)(p2:List ae):CT prog 78 [.ag [cl aF p1.fields],vl af p2] (ud p1 p2) vi:=
  cu 49 [6,8] f78 fun r=>(uN aF p1.fields (uC uz (kd f78 14 1 DB [] [] uz fun K J1=>(uN aF p1.fields (fJ f78 58 1 fun R b=>have L1:∀k1 {x1},mn p1 p2 k1 x1=some r→(R k1).p [(1,vl af p2),(2,vR [.ro (aF.els p1.fields)]),(15,vl aF p1.fields),(16,vi p1.fields.length),(17,vi x1)] []:=uI (fD rfl) fun k1 i1 {x1} h=>b h (uU (mn.eq_2 ..) (uC (dL aF fun e1=>(aS (xC _ _) fun r1=>(uC jh (Im 13 1 [1,2] (dL af fun e2=>(aS (qj _ _) fun r2=>(uC jh (mZ 5 (uX aF (aS (oe _ _) fun r3=>(uC jh (uJ i1)))))))))))) (uR (.exit 0) (xM (uJ J1)))));uE (L1 aH))))))
def oC(rec1:Int→OI)(p1:ay)(x1:Int)(e1:cD)(z3:Int)(x3:Bool):OI:=aj x3 (some 9) (al (at? p1.schemas z3) fun e2=>al (ud e1 e2) fun r2=>aj (r2 != 0) (some r2) (rec1 (i64.wrap (x1+1))))
def qW(rec1:Int→OI)(p1:ay)(x1:Int)(e1:cD)(z3:Int):OI:=aj (decide (z3<0)) (oC rec1 p1 x1 e1 z3 true) (aj (x1==(i64.wrap ((p1.specs.length:Int)-1))) (al (some (decide (z3<(i64.wrap ((p1.schemas.length:Int)-1))))) fun y1=>oC rec1 p1 x1 e1 z3 y1) (oC rec1 p1 x1 e1 z3 false))
def vG(rec1 rec2:Int→OI)(p1:ay)(x1:Int)(e1:cD)(z2:Int)(x2:Bool):OI:=aj x2 (rec2 (i64.wrap (z2-1))) (qW rec1 p1 x1 e1 z2)
def iy(rec1:Int→OI)(p1:ay)(x1:Int)(e1:cD):Nat→Int→OI
 |0,_=>none
 |k2+1,z1=>aj (decide (0≤z1)) (al (bC e1.fields p1.schemas p1.specs p1.nextField p1.nextSeq p1.nextSnap p1.purges p1.snapshots p1.refs p1.props z1) fun r1=>vG rec1 (iy rec1 p1 x1 e1 k2) p1 x1 e1 r1.2 r1.1) (vG rec1 (iy rec1 p1 x1 e1 k2) p1 x1 e1 z1 false)
def Dx:OI:=some 0
def eu(p1:ay):Nat→Int→OI
 |0,_=>none
 |k1+1,x1=>aj (decide (x1<(p1.specs.length:Int))) (al (at? p1.specs x1) fun e1=>iy (eu p1 k1) p1 x1 e1 aH (i64.wrap ((p1.schemas.length:Int)-1))) (Dx)
def Al(p1:ay):OI:=eu p1 aH 0
theorem KQ(p1:ay):CT prog 54 [mM p1] (Al p1) vi:=
  cu 60 [4,5] f54 fun r=>(kd f54 6 1 Dx [] [] uz fun K J4=>(uN fk p1.specs (fJ f54 26 1 fun R b=>have L1:∀k1 {x1},eu p1 k1 x1=some r→(R k1).p [(1,vR (bB p1)),(9,vl fk p1.specs),(10,vi p1.specs.length),(11,vi x1)] []:=uI (fD rfl) fun k1 i1 {x1} h=>b h (uU (eu.eq_2 ..) (uC (dL fk fun e1=>(uN (eL af) p1.schemas (co f54 13518 3 fun K k=>have J2:∀{z3},qW (eu p1 k1) p1 x1 e1 z3=some r→K.p [(1,vR (bB p1)),(3,vi x1),(4,vQ 0),(5,vQ 1),(9,vl fk p1.specs),(10,vi p1.specs.length),(11,vi x1)] [.box [cl aF e1.fields],.box [ci z3]]:=fun{z3} h=>k h (co f54 54076 4 fun K k=>have J3:∀{x3},oC (eu p1 k1) p1 x1 e1 z3 x3=some r→K.p [(1,vR (bB p1)),(4,vQ 0),(5,vQ 1),(9,vl fk p1.specs),(10,vi p1.specs.length),(11,vi x1),(48,vb x3)] [.box [cl aF e1.fields],.box [ci z3]]:=fun{x3} h=>k h (uC jh (mZ 6 (dL (eL af) fun e2=>(aS (Ku _ _) fun r2=>(uC jh (uJ i1))))));(uC (uJ J3) (uN fk p1.specs (uC (uN (eL af) p1.schemas (uY 46 vb fun y1=>(uJ J3))) (uJ J3)))));(fJ f54 27036 1 fun R b=>have L2:∀k2 {z1},iy (eu p1 k1) p1 x1 e1 k2 z1=some r→(R k2).p [(1,vR (bB p1)),(3,vi x1),(4,vQ 0),(5,vQ 1),(6,.one (.fn 106 [.pv (.rp [(bB p1)] 0 0),.pt 1 0 0 0])),(9,vl fk p1.specs),(10,vi p1.specs.length),(11,vi x1)] [.box [cl aF e1.fields],.box [ci z1]]:=uI (fD rfl) fun k2 i2 {z1} h=>b h (uU (iy.eq_2 ..) (co f54 216288 2 fun K k=>have J1:∀{z2 x2},vG (eu p1 k1) (iy (eu p1 k1) p1 x1 e1 k2) p1 x1 e1 z2 x2=some r→K.p [(1,vR (bB p1)),(3,vi x1),(4,vQ 0),(5,vQ 1),(6,.one (.fn 106 [.pv (.rp [(bB p1)] 0 0),.pt 1 0 0 0])),(9,vl fk p1.specs),(10,vi p1.specs.length),(11,vi x1),(28,vb x2)] [.box [cl aF e1.fields],.box [ci z2]]:=fun{z2 x2} h=>k h (uC (uJ i2) (uR (.exit 2) (xM (uJ J2))));(uC (EG true [1] (iN _ _ _ _ _ _ _ _ _ _ _) fun r1 _=>(uJ J1)) (uJ J1))));uE (L2 aH))))) (uR (.exit 0) (xM (uJ J4)))));uE (L1 aH))))
def jU(x2:Bool):OB:=aj x2 (some true) (some false)
def jS(p1:Int)(x1:Bool):OB:=aj x1 (some true) (aj (decide (57343<p1)) (jU (decide (p1≤1114111))) (jU false))
def lM(p1:Int):OB:=aj (decide (0≤p1)) (jS p1 (decide (p1<55296))) (jS p1 false)
theorem AL(p1:Int):CT prog 169 [vk .i32 p1] (lM p1) vb:=
  cu 17 [] f169 fun r=>(co f169 24 3 fun K k=>have J1:∀{x1},jS p1 x1=some r→K.p [(0,vk .i32 p1),(3,vb x1)] []:=fun{x1} h=>k h (uC uz (co f169 102 3 fun K k=>have J2:∀{x2},jU x2=some r→K.p [(10,vb x2)] []:=fun{x2} h=>k h (uC uz uz);(uC (uJ J2) (uJ J2))));(uC (uJ J1) (uJ J1)))
def xE:OI:=some (-1)
def kQ(p1:ByteArray):Nat→Nat→OI
 |0,_=>none
 |k1+1,z1=>aj (decide (z1<p1.size)) (aj (Int.ofNat (Utf8.decode p1 z1).1==65533) (some (Int.ofNat z1)) ((kQ p1 k1) (z1+(Utf8.decode p1 z1).2))) (xE)
def xu(p2 x2:Int):OI:=al (some (i64.wrap (x2-(i64.wrap (((Utf8.encode p2).size:Int)-1))))) fun y9=>some y9
def nG(p1:ByteArray)(p2 x2:Int):Nat→Int→OI
 |0,_=>none
 |k3+1,x3=>aj (decide (x3<((Utf8.encode p2).size:Int))) (gX (0≤(i64.wrap (x2-x3))∧(i64.wrap (x2-x3))<(p1.size:Int))<|al (some ((p1.data.toList.getD (i64.wrap (x2-x3)).toNat 0).toNat:Int)) fun y7=>al (some (i64.wrap ((i64.wrap (((Utf8.encode p2).size:Int)-1))-x3))) fun y8=>gX (0≤y8∧y8<((Utf8.encode p2).size:Int))<|aj (y7 != (((Utf8.encode p2).data.toList.getD y8.toNat 0).toNat:Int)) (none) ((nG p1 p2 x2 k3) (i64.wrap (x3+1)))) (xu p2 x2)
def qS(p1:ByteArray)(p2 x2:Int):OI:=nG p1 p2 x2 aH 1
def xA:OI:=some (-1)
def iW(p1:ByteArray)(p2:Int):Nat→OI
 |0=>none
 |k2+1=>al (some (decide ((i64.wrap (((Utf8.encode p2).size:Int)-1))<(p1.size:Int)))) fun y1=>aj y1 (gX (0≤(i64.wrap (((Utf8.encode p2).size:Int)-1))∧(i64.wrap (((Utf8.encode p2).size:Int)-1))<(p1.size:Int))<|al (some ((p1.data.toList.getD (i64.wrap (((Utf8.encode p2).size:Int)-1)).toNat 0).toNat:Int)) fun y2=>gX (0≤(i64.wrap (((Utf8.encode p2).size:Int)-1))∧(i64.wrap (((Utf8.encode p2).size:Int)-1))<((Utf8.encode p2).size:Int))<|al (some (((Utf8.encode p2).data.toList.getD (i64.wrap (((Utf8.encode p2).size:Int)-1)).toNat 0).toNat:Int)) fun y3=>aj (y2 != y3) (al (some (i64.wrap ((i64.wrap (((Utf8.encode p2).size:Int)-1))+1))) fun y4=>gX (0≤y4∧y4≤(p1.size:Int)∧(p1.size:Int)≤(p1.size:Int))<|gX (0≤(i64.wrap (((Utf8.encode p2).size:Int)-1))∧(i64.wrap (((Utf8.encode p2).size:Int)-1))<((Utf8.encode p2).size:Int))<|al (some (((Utf8.encode p2).data.toList.getD (i64.wrap (((Utf8.encode p2).size:Int)-1)).toNat 0).toNat:Int)) fun y5=>al (strings_IndexByte (p1.extract y4.toNat (p1.size:Int).toNat) y5) fun r3=>aj (decide (r3<0)) (some (-1)) (al (some (i64.wrap ((i64.wrap (((Utf8.encode p2).size:Int)-1))+(i64.wrap (r3+1))))) fun y6=>qS p1 p2 y6)) (qS p1 p2 (i64.wrap (((Utf8.encode p2).size:Int)-1)))) (xA)
def kM(p1:ByteArray)(p2:Int)(x1:Bool):OI:=aj x1 (al (strings_IndexByte p1 (IntKind.u8.wrap p2)) fun r1=>some r1) (aj (p2==65533) (kQ p1 aH 0) (al (lM p2) fun r2=>aj (!r2) (some (-1)) (iW p1 p2 aH)))
def fi(p1:ByteArray)(p2:Int):OI:=aj (decide (0≤p2)) (kM p1 p2 (decide (p2<128))) (kM p1 p2 false)
theorem oi(p1:ByteArray)(p2:Int):CT prog 116 [vs p1,vk .i32 p2] (fi p1 p2) vi:=
  cu 187 [] f116 fun r=>(co f116 12 2 fun K k=>have J1:∀{x1},kM p1 p2 x1=some r→K.p [(0,vs p1),(1,vk .i32 p2),(160,vb x1)] []:=fun{x1} h=>k h (uC (aS (yf _ _) fun r1=>uz) (uC (kd f116 220 2 xE [] [] uz fun K J2=>(uRg p1 (fJ f116 882 1 fun R b=>have L1:∀k1 {z1},kQ p1 k1 z1=some r→(R k1).p [(175,vQ 0)] [.raw (.stringIter p1 z1)]:=uI (fD rfl) fun k1 i1 {z1} h=>b h (uU (kQ.eq_2 ..) (uNx 0 (fun b12=>(uT (uC jh (uJ i1)))) (fun b12=>(uF (uR (.exit 9) (xM (uJ J2)))))));uE (L1 aH)))) (aS (AL _) fun r2=>(uC uz (kd f116 28638 3 xA [] [] uz fun K J5=>(fJ f116 57276 1 fun R b=>have L2:∀k2,iW p1 p2 k2=some r→(R k2).p [(0,vs p1),(7,vs (Utf8.encode p2)),(8,vi (i64.wrap (((Utf8.encode p2).size:Int)-(1:Int)))),(9,vi (i64.wrap (((Utf8.encode p2).size:Int)-(1:Int))))] []:=uI (fD rfl) fun k2 i2 h=>b h (uU (iW.eq_2 ..) (uY 26 vb fun y1=>(uC (co f116 1832840 3 fun K k=>have J3:∀{x2},qS p1 p2 x2=some r→K.p [(0,vs p1),(7,vs (Utf8.encode p2)),(8,vi (i64.wrap (((Utf8.encode p2).size:Int)-(1:Int)))),(9,vi x2)] []:=fun{x2} h=>k h (kd f116 3665682 3 (xu p2 x2) [(8,vi (i64.wrap (((Utf8.encode p2).size:Int)-(1:Int)))),(9,vi x2)] [] (uY 67 vi fun y9=>jh) fun K J4=>(fJ f116 14662730 1 fun R b=>have L3:∀k3 {x3},nG p1 p2 x2 k3 x3=some r→(R k3).p [(0,vs p1),(7,vs (Utf8.encode p2)),(8,vi (i64.wrap (((Utf8.encode p2).size:Int)-(1:Int)))),(9,vi x2),(12,vi x3)] []:=uI (fD rfl) fun k3 i3 {x3} h=>b h (uU (nG.eq_2 ..) (uC (mZ 10 (uYg 58 (vk .u8) fun y7=>(uY 62 vi fun y8=>(uG (uC uNo (uJ i3)))))) (uR (.exit 3) (xM (uJ J4)))));uE (L3 aH)));(mZ 6 (uYg 29 (vk .u8) fun y2=>(uYg 32 (vk .u8) fun y3=>(uC (mZ 7 (uY 36 vi fun y4=>(uG (uYg 40 (vk .u8) fun y5=>(aS (yf _ _) fun r3=>(uC (uR .ret (xN (xN (xN xF)))) (uY 47 vi fun y6=>(uJ J3)))))))) (uJ J3)))))) (uR (.exit 1) (xM (uJ J5))))));uE (L2 aH)))))));(uC (uJ J1) (uJ J1)))
def dS(x1:Bool):OB:=some x1
def o6(p1:Int):OB:=aj (decide (p1<97)) (aj (decide (p1<48)) (al (fi (ByteArray.mk #[95,45,46,47]) p1) fun r1=>dS (decide (r1<0))) (aj (decide (57<p1)) (al (fi (ByteArray.mk #[95,45,46,47]) p1) fun r2=>dS (decide (r2<0))) (dS false))) (aj (decide (122<p1)) (aj (decide (p1<48)) (al (fi (ByteArray.mk #[95,45,46,47]) p1) fun r3=>dS (decide (r3<0))) (aj (decide (57<p1)) (al (fi (ByteArray.mk #[95,45,46,47]) p1) fun r4=>dS (decide (r4<0))) (dS false))) (dS false))
theorem Du(p1:Int):CT prog 115 [vk .i32 p1] (o6 p1) vb:=
  cu 22 [] f115 fun r=>(co f115 6 1 fun K k=>have J1:∀{x1},dS x1=some r→K.p [(2,vb x1)] []:=fun{x1} h=>k h uz;(uC (uC (aS (oi _ _) fun r1=>(uJ J1)) (uC (aS (oi _ _) fun r2=>(uJ J1)) (uJ J1))) (uC (uC (aS (oi _ _) fun r3=>(uJ J1)) (uC (aS (oi _ _) fun r4=>(uJ J1)) (uJ J1))) (uJ J1))))
def js:OI:=some (-1)
def bX(p1:ByteArray)(p2:Bool):Nat→Nat→OI
 |0,_=>none
 |k1+1,z1=>aj (decide (z1<p1.size)) (al (o6 (Int.ofNat (Utf8.decode p1 z1).1)) fun r1=>aj (r1==p2) (some (Int.ofNat z1)) ((bX p1 p2 k1) (z1+(Utf8.decode p1 z1).2))) (js)
def gh(p1:ByteArray)(p2:Bool):OI:=bX p1 p2 aH 0
theorem pD(p1:ByteArray)(p2:Bool):CT prog 211 [vs p1,.one (.pv (.fn 115 [])),vb p2] (gh p1 p2) vi:=
  cu 21 [] f211 fun r=>(kd f211 6 1 js [] [] uz fun K J1=>(uRg p1 (fJ f211 26 1 fun R b=>have L1:∀k1 {z1},bX p1 p2 k1 z1=some r→(R k1).p [(1,.one (.pv (.fn 115 []))),(2,vb p2),(10,vQ 0)] [.raw (.stringIter p1 z1)]:=uI (fD rfl) fun k1 i1 {z1} h=>b h (uU (bX.eq_2 ..) (uNx 0 (fun b5=>(uT (aS (Du _) fun r1=>(uC jh (uJ i1))))) (fun b5=>(uF (uR (.exit 0) (xM (uJ J1)))))));uE (L1 aH))))
def gi(p1:ByteArray):OI:=al (gh p1 true) fun r1=>some r1
theorem pH(p1:ByteArray):CT prog 167 [vs p1,.one (.pv (.fn 115 []))] (gi p1) vi:=
  cu 8 [] f167 fun r=>(aS (pD _ _) fun r1=>uz)
def fw(p1:ByteArray):OB:=al (gi p1) fun r1=>some (decide (0≤r1))
theorem ow(p1:ByteArray):CT prog 114 [vs p1,.one (.pv (.fn 115 []))] (fw p1) vb:=
  cu 9 [] f114 fun r=>(aS (pH _) fun r1=>uz)
def og(p1:ByteArray)(x1:Bool):OB:=aj x1 (some false) (al (fw p1) fun r1=>some (!r1))
def rN(p1:ByteArray):OB:=aj (decide ((p1.size:Int)<1)) (og p1 true) (og p1 (decide (64<(p1.size:Int))))
theorem E3(p1:ByteArray):CT prog 58 [vs p1] (rN p1) vb:=
  cu 14 [] f58 fun r=>(co f58 12 2 fun K k=>have J1:∀{x1},og p1 x1=some r→K.p [(0,vs p1),(10,vb x1)] []:=fun{x1} h=>k h (uC uz (aS (ow _) fun r1=>uz));(uC (uJ J1) (uJ J1)))
def Cw(p1:bm)(p2:List ae):Option (Bool×(List ae)):=al (me p2 p1.source) fun r1=>some ((decide (r1<0)),p2)
theorem JO(p1:bm)(p2:List ae):CM prog 60 [.ag [ci p1.source,ci p1.transform.kind,ci p1.transform.param],vQ 0] [.box [cl af p2]] (Cw p1 p2) (fun r=>vb r.1) (fun r=>[.box [cl af r.2]]):=
  ww 1 9 [] f60 fun r=>(aS (xC _ _) fun r1=>(uR .ret sE))
def eg(z2:List ae):Option (Int×(List ae)):=some ((-1),z2)
def aQ(p1:List bm):Nat→List ae→Int→Option (Int×(List ae))
 |0,_,_=>none
 |k1+1,z1,x1=>aj (decide (x1<(p1.length:Int))) (al (at? p1 x1) fun e1=>al (Cw e1 z1) fun r1=>aj r1.1 (some (x1,r1.2)) ((aQ p1 k1) r1.2 (i64.wrap (x1+1)))) (eg z1)
def cI(p1:List bm)(p2:List ae):Option (Int×(List ae)):=aQ p1 aH p2 0
theorem ju(p1:List bm)(p2:List ae):CM prog 117 [vl aF p1,.one (.fn 60 [.pt 0 0 0 0])] [.box [cl af p2]] (cI p1 p2) (fun r=>vi r.1) (fun r=>[.box [cl af r.2]]):=
  ww 1 19 [] f117 fun r=>(co f117 6 1 fun K k=>have J1:∀{z2},eg z2=some r→K.p [] [.box [cl af z2]]:=fun{z2} h=>k h (uR .ret sE);(uN aF p1 (fJ f117 26 1 fun R b=>have L1:∀k1 {z1 x1},aQ p1 k1 z1 x1=some r→(R k1).p [(0,vl aF p1),(1,.one (.fn 60 [.pt 0 0 0 0])),(7,vi p1.length),(8,vi x1)] [.box [cl af z1]]:=uI (fD rfl) fun k1 i1 {z1 x1} h=>b h (uU (aQ.eq_2 ..) (uC (dL aF fun e1=>(EG true [0] (JO _ _) fun r1 _=>(uC (uR .ret (xN (xN sE))) (uJ i1)))) (uR (.exit 0) (xM (uJ J1)))));uE (L1 aH))))
def bo(p1:List bm)(p2:List ae):Option (Bool×(List ae)):=al (cI p1 p2) fun r1=>some ((decide (0≤r1.1)),r1.2)
theorem iX(p1:List bm)(p2:List ae):CM prog 59 [vl aF p1,.one (.fn 60 [.pt 0 0 0 0])] [.box [cl af p2]] (bo p1 p2) (fun r=>vb r.1) (fun r=>[.box [cl af r.2]]):=
  ww 1 9 [] f59 fun r=>(EG true [0] (ju _ _) fun r1 _=>(uR .ret sE))
def nf(x1:Bool):OB:=some x1
def dR(p1 p2 p3:Int):OB:=aj (decide (p2≤p1)) (nf (decide (p1≤p3))) (nf false)
theorem gy(p1 p2 p3:Int):CT prog 179 [vi p1,vi p2,vi p3] (dR p1 p2 p3) vb:=
  cu 15 [] f179 fun r=>(co f179 6 1 fun K k=>have J1:∀{x1},nf x1=some r→K.p [(6,vb x1)] []:=fun{x1} h=>k h uz;(uC (uJ J1) (uJ J1)))
def wM(rec1:Nat→OB)(p1:ByteArray)(z1:Nat)(x2:Bool):OB:=aj x2 (some false) (rec1 (z1+(Utf8.decode p1 z1).2))
def A7:OB:=some true
def mb(p1:ByteArray):Nat→Nat→OB
 |0,_=>none
 |k1+1,z1=>aj (decide (z1<p1.size)) (aj (decide (Int.ofNat (Utf8.decode p1 z1).1<32)) (wM (mb p1 k1) p1 z1 true) (wM (mb p1 k1) p1 z1 (Int.ofNat (Utf8.decode p1 z1).1==127))) (A7)
def wQ(p1:ByteArray)(x1:Bool):OB:=aj x1 (some false) (mb p1 aH 0)
def B0(p1:ByteArray):OB:=aj (decide (256<(p1.size:Int))) (wQ p1 true) (al (utf8_ValidString p1) fun r1=>wQ p1 (!r1))
theorem Mp(p1:ByteArray):CT prog 246 [vs p1] (B0 p1) vb:=
  cu 24 [] f246 fun r=>(co f246 12 2 fun K k=>have J1:∀{x1},wQ p1 x1=some r→K.p [(0,vs p1),(12,vb x1)] []:=fun{x1} h=>k h (uC uz (kd f246 14 1 A7 [] [] uz fun K J3=>(uRg p1 (fJ f246 58 1 fun R b=>have L1:∀k1 {z1},mb p1 k1 z1=some r→(R k1).p [(14,vQ 0)] [.raw (.stringIter p1 z1)]:=uI (fD rfl) fun k1 i1 {z1} h=>b h (uU (mb.eq_2 ..) (uNx 0 (fun b11=>(uT (co f246 3738 2 fun K k=>have J2:∀{x2},wM (mb p1 k1) p1 z1 x2=some r→K.p [(14,vQ 0),(23,vb x2)] [.raw (.stringIter p1 (z1+(Utf8.decode p1 z1).2))]:=fun{x2} h=>k h (uC jh (uJ i1));(uC (uJ J2) (uJ J2))))) (fun b11=>(uF (uR (.exit 0) (xM (uJ J3)))))));uE (L1 aH)))));(uC (uJ J1) (aS (zn _) fun r1=>(uJ J1))))
def rh(x2:Bool):OB:=some x2
def ov(x3:Bool):OB:=some x3
def oz(x4:Bool):OB:=some x4
def oJ(x5:Bool):OB:=some x5
def rc(x6:Bool):OB:=some x6
def oF(x7:Bool):OB:=some x7
def rj(x8:Bool):OB:=some x8
def rA(x9:Bool):OB:=some x9
def ri(p1:ac)(x1:Bool):OB:=aj (p1.kind==0) (aj x1 (aj (p1.s.toList==(ByteArray.mk #[]).toList) (rh ((p1.items.length:Int)==0)) (rh false)) (rh false)) (aj (p1.kind==1) (al (dR p1.n 0 1) fun r1=>aj r1 (aj (p1.scale==0) (aj (p1.s.toList==(ByteArray.mk #[]).toList) (ov ((p1.items.length:Int)==0)) (ov false)) (ov false)) (ov false)) (aj (p1.kind==2) (al (dR p1.n (-999999999999999999) 999999999999999999) fun r2=>aj r2 (aj (p1.scale==0) (aj (p1.s.toList==(ByteArray.mk #[]).toList) (oz ((p1.items.length:Int)==0)) (oz false)) (oz false)) (oz false)) (aj (p1.kind==3) (al (dR p1.n (-999999999999999999) 999999999999999999) fun r3=>aj r3 (al (dR p1.scale 0 12) fun r4=>aj r4 (aj (p1.s.toList==(ByteArray.mk #[]).toList) (oJ ((p1.items.length:Int)==0)) (oJ false)) (oJ false)) (oJ false)) (aj (p1.kind==4) (aj x1 (al (B0 p1.s) fun r5=>aj r5 (rc ((p1.items.length:Int)==0)) (rc false)) (rc false)) (aj (p1.kind==5) (al (dR p1.n (-62135596800) 253402300799) fun r6=>aj r6 (aj (p1.scale==0) (aj (p1.s.toList==(ByteArray.mk #[]).toList) (oF ((p1.items.length:Int)==0)) (oF false)) (oF false)) (oF false)) (aj (p1.kind==6) (aj x1 (aj (p1.s.toList==(ByteArray.mk #[]).toList) (rj (decide ((p1.items.length:Int)≤64))) (rj false)) (rj false)) (aj (p1.kind==7) (aj x1 (aj (p1.s.toList==(ByteArray.mk #[]).toList) (rA (decide (0<(p1.items.length:Int)))) (rA false)) (rA false)) (some false))))))))
def Ac(p1:ac):OB:=aj (p1.n==0) (ri p1 (p1.scale==0)) (ri p1 false)
theorem KT(p1:ac):CT prog 213 [mV p1] (Ac p1) vb:=
  cu 154 [] f213 fun r=>(co f213 6 1 fun K k=>have J1:∀{x1},ri p1 x1=some r→K.p [(1,vR [pi p1.kind,pi p1.n,pi p1.scale,.s (.string p1.s),.ro (ak.els p1.items)]),(3,vb x1)] []:=fun{x1} h=>k h (uC (co f213 468 3 fun K k=>have J2:∀{x2},rh x2=some r→K.p [(2,vb x2)] []:=fun{x2} h=>k h uz;(uC (uC (uN ak p1.items (uJ J2)) (uJ J2)) (uJ J2))) (uC (co f213 1884 3 fun K k=>have J3:∀{x3},ov x3=some r→K.p [(2,vb x3)] []:=fun{x3} h=>k h uz;(aS (gy _ _ _) fun r1=>(uC (uC (uC (uN ak p1.items (uJ J3)) (uJ J3)) (uJ J3)) (uJ J3)))) (uC (co f213 7548 3 fun K k=>have J4:∀{x4},oz x4=some r→K.p [(2,vb x4)] []:=fun{x4} h=>k h uz;(aS (gy _ _ _) fun r2=>(uC (uC (uC (uN ak p1.items (uJ J4)) (uJ J4)) (uJ J4)) (uJ J4)))) (uC (co f213 30204 3 fun K k=>have J5:∀{x5},oJ x5=some r→K.p [(2,vb x5)] []:=fun{x5} h=>k h uz;(aS (gy _ _ _) fun r3=>(uC (aS (gy _ _ _) fun r4=>(uC (uC (uN ak p1.items (uJ J5)) (uJ J5)) (uJ J5))) (uJ J5)))) (uC (co f213 120828 3 fun K k=>have J6:∀{x6},rc x6=some r→K.p [(2,vb x6)] []:=fun{x6} h=>k h uz;(uC (aS (Mp _) fun r5=>(uC (uN ak p1.items (uJ J6)) (uJ J6))) (uJ J6))) (uC (co f213 483324 3 fun K k=>have J7:∀{x7},oF x7=some r→K.p [(2,vb x7)] []:=fun{x7} h=>k h uz;(aS (gy _ _ _) fun r6=>(uC (uC (uC (uN ak p1.items (uJ J7)) (uJ J7)) (uJ J7)) (uJ J7)))) (uC (co f213 1933308 3 fun K k=>have J8:∀{x8},rj x8=some r→K.p [(2,vb x8)] []:=fun{x8} h=>k h uz;(uC (uC (uN ak p1.items (uJ J8)) (uJ J8)) (uJ J8))) (uC (co f213 7733244 3 fun K k=>have J9:∀{x9},rA x9=some r→K.p [(2,vb x9)] []:=fun{x9} h=>k h uz;(uC (uC (uN ak p1.items (uJ J9)) (uJ J9)) (uJ J9))) uz))))))));(uC (uJ J1) (uJ J1)))
def dc(z2:Int):Option (Int×Int):=some ((-1),z2)
def bi(q_value_sound_1_s:ac→Int→Int→Option (Bool×Int))(p1:List ac)(p2:Int):Nat→Int→Int→Option (Int×Int)
 |0,_,_=>none
 |k1+1,z1,x1=>aj (decide (x1<(p1.length:Int))) (al (at? p1 x1) fun e1=>al (q_value_sound_1_s e1 p2 z1) fun r1=>aj r1.1 (some (x1,r1.2)) ((bi q_value_sound_1_s p1 p2 k1) r1.2 (i64.wrap (x1+1)))) (dc z1)
def oG(q_slices_ContainsFunc_api_Value_api_Value_of_value_sound_1:(List ac)→Int→Int→Option (Bool×Int))(p1:ac)(p2 z1:Int)(x1:Bool):Option (Bool×Int):=aj x1 (some (false,z1)) (al (q_slices_ContainsFunc_api_Value_api_Value_of_value_sound_1 p1.items p2 z1) fun r2=>some ((!r2.1),r2.2))
def qH(q_slices_ContainsFunc_api_Value_api_Value_of_value_sound_1:(List ac)→Int→Int→Option (Bool×Int))(p1:ac)(p2 z1:Int):Option (Bool×Int):=aj (decide (4<p2)) (oG q_slices_ContainsFunc_api_Value_api_Value_of_value_sound_1 p1 p2 z1 true) (aj (decide (256<z1)) (oG q_slices_ContainsFunc_api_Value_api_Value_of_value_sound_1 p1 p2 z1 true) (al (Ac p1) fun r1=>oG q_slices_ContainsFunc_api_Value_api_Value_of_value_sound_1 p1 p2 z1 (!r1)))
mutual
def aW:Nat→(List ac)→Int→Int→Option (Bool×Int)
 |0,_,_,_=>none
 |k0+1,p1,p2,p3=>al ((bH k0) p1 p2 p3) fun r1=>some ((decide (0≤r1.1)),r1.2)
def bH:Nat→(List ac)→Int→Int→Option (Int×Int)
 |0,_,_,_=>none
 |k0+1,p1,p2,p3=>bi (lu k0) p1 p2 aH p3 0
def oT:Nat→ac→Int→Int→Option (Bool×Int)
 |0,_,_,_=>none
 |k0+1,p1,p2,p3=>aj (p1.kind != 0) (qH (aW k0) p1 p2 (i64.wrap (p3+1))) (qH (aW k0) p1 p2 p3)
def lu:Nat→ac→Int→Int→Option (Bool×Int)
 |0,_,_,_=>none
 |k0+1,p1,p2,p3=>al ((oT k0) p1 (i64.wrap (p2+1)) p3) fun r1=>some ((!r1.1),r1.2)
end
mutual
theorem kh:∀(k0:Nat) (p1:List ac) (p2 p3:Int),CM prog 173 [vl ak p1,.one (.fn 214 [.pv (.rp [[pi p2]] 0 0),.pt 0 0 0 0])] [.box [.pt 1 0 0 0],.box [ci p3]] (aW k0 p1 p2 p3) (fun r=>vb r.1) (fun r=>[.box [.pt 1 0 0 0],.box [ci r.2]])
  |0,_,_,_=>YQ (aW.eq_1 ..)
  |k0+1,p1,p2,p3=>ww 2 9 [] f173 fun r=>(uU (aW.eq_2 ..) (EG true [0,1] (kZ k0 _ _ _) fun r1 _=>(uR .ret sE)))
theorem kZ:∀(k0:Nat) (p1:List ac) (p2 p3:Int),CM prog 215 [vl ak p1,.one (.fn 214 [.pv (.rp [[pi p2]] 0 0),.pt 0 0 0 0])] [.box [.pt 1 0 0 0],.box [ci p3]] (bH k0 p1 p2 p3) (fun r=>vi r.1) (fun r=>[.box [.pt 1 0 0 0],.box [ci r.2]])
  |0,_,_,_=>YQ (bH.eq_1 ..)
  |k0+1,p1,p2,p3=>ww 2 19 [] f215 fun r=>(uU (bH.eq_2 ..) (co f215 6 1 fun K k=>have J1:∀{z2},dc z2=some r→K.p [] [.box [.pt 1 0 0 0],.box [ci z2]]:=fun{z2} h=>k h (uR .ret sE);(uN ak p1 (fJ f215 26 1 fun R b=>have L1:∀k1 {z1 x1},bi (lu k0) p1 p2 k1 z1 x1=some r→(R k1).p [(0,vl ak p1),(1,.one (.fn 214 [.pv (.rp [[pi p2]] 0 0),.pt 0 0 0 0])),(7,vi p1.length),(8,vi x1)] [.box [.pt 1 0 0 0],.box [ci z1]]:=uI (fD rfl) fun k1 i1 {z1 x1} h=>b h (uU (bi.eq_2 ..) (uC (dL ak fun e1=>(EG true [0,1] (Gs k0 _ _ _) fun r1 _=>(uC (uR .ret (xN (xN sE))) (uJ i1)))) (uR (.exit 0) (xM (uJ J1)))));uE (L1 aH)))))
theorem Et:∀(k0:Nat) (p1:ac) (p2 p3:Int),CM prog 172 [mV p1,vi p2,vQ 0] [.box [ci p3]] (oT k0 p1 p2 p3) (fun r=>vb r.1) (fun r=>[.box [ci r.2]])
  |0,_,_,_=>YQ (oT.eq_1 ..)
  |k0+1,p1,p2,p3=>ww 1 33 [5] f172 fun r=>(uU (oT.eq_2 ..) (co f172 6 1 fun K k=>have J1:∀{z1},qH (aW k0) p1 p2 z1=some r→K.p [(3,vR [pi p1.kind,pi p1.n,pi p1.scale,.s (.string p1.s),.ro (ak.els p1.items)]),(4,vR [pi p2]),(5,vQ 1)] [.box [ci z1],.box [.pt 0 0 0 0]]:=fun{z1} h=>k h (co f172 28 2 fun K k=>have J2:∀{x1},oG (aW k0) p1 p2 z1 x1=some r→K.p [(3,vR [pi p1.kind,pi p1.n,pi p1.scale,.s (.string p1.s),.ro (ak.els p1.items)]),(4,vR [pi p2]),(5,vQ 1),(27,vb x1)] [.box [ci z1],.box [.pt 0 0 0 0]]:=fun{x1} h=>k h (uC (uR .ret sE) (EG true [1,0] (kh k0 _ _ _) fun r2 _=>(uR .ret sE)));(uC (uJ J2) (uC (uJ J2) (aS (KT _) fun r1=>(uJ J2)))));(uC (uJ J1) (uJ J1))))
theorem Gs:∀(k0:Nat) (p1:ac) (p2 p3:Int),CM prog 214 [mV p1,vR [pi p2],vQ 0] [.box [.pt 1 0 0 0],.box [ci p3]] (lu k0 p1 p2 p3) (fun r=>vb r.1) (fun r=>[.box [.pt 1 0 0 0],.box [ci r.2]])
  |0,_,_,_=>YQ (lu.eq_1 ..)
  |k0+1,p1,p2,p3=>ww 2 11 [] f214 fun r=>(uU (lu.eq_2 ..) (EG true [1] (Et k0 _ _ _) fun r1 _=>(uR .ret sE)))
end
def kO(p1:ac):OB:=al (oT aH p1 1 0) fun r1=>some r1.1
theorem n6(p1:ac):CT prog 121 [mV p1] (kO p1) vb:=
  cu 6 [3] f121 fun r=>(EG true [0] (Et aH _ _ _) fun r1 _=>uz)
def bV:OB:=some true
def aN(q_value_of_2:ae→ac→OB)(p1:List ae)(p2:List ac):Nat→Int→OB
 |0,_=>none
 |k1+1,x1=>aj (decide (x1<(p1.length:Int))) (al (at? p1 x1) fun e1=>al (at? p2 x1) fun e2=>al (q_value_of_2 e1 e2) fun r1=>aj (!r1) (some false) ((aN q_value_of_2 p1 p2 k1) (i64.wrap (x1+1)))) (bV)
def dD:OI:=some (-1)
def be(q_value_of_1_s:ac→Int→Int→(List ae)→OB)(p1:List ac)(p2 p3:Int)(p4:List ae):Nat→Int→OI
 |0,_=>none
 |k1+1,x1=>aj (decide (x1<(p1.length:Int))) (al (at? p1 x1) fun e1=>al (q_value_of_1_s e1 p2 p3 p4) fun r1=>aj r1 (some x1) ((be q_value_of_1_s p1 p2 p3 p4 k1) (i64.wrap (x1+1)))) (dD)
mutual
def bE:Nat→(List ac)→Int→Int→(List ae)→OB
 |0,_,_,_,_=>none
 |k0+1,p1,p2,p3,p4=>al ((bQ k0) p1 p2 p3 p4) fun r1=>some (decide (0≤r1))
def aY:Nat→(List ae)→(List ac)→OB
 |0,_,_=>none
 |k0+1,p1,p2=>aj ((p1.length:Int) != (p2.length:Int)) (some false) (aN (tX k0) p1 p2 aH 0)
def bQ:Nat→(List ac)→Int→Int→(List ae)→OI
 |0,_,_,_,_=>none
 |k0+1,p1,p2,p3,p4=>be (pq k0) p1 p2 p3 p4 aH 0
def uD:Nat→am→ac→OB
 |0,_,_=>none
 |k0+1,p1,p2=>aj (p2.kind==0) (some true) (aj (p2.kind != p1.kind) (some false) (aj (p2.kind==3) (some (p2.scale==p1.scale)) (aj (p2.kind==6) (al ((bE k0) p2.items p1.kind p1.scale p1.fields) fun r1=>some (!r1)) (aj (p2.kind==7) (al ((aY k0) p1.fields p2.items) fun r2=>some r2) (some true)))))
def pq:Nat→ac→Int→Int→(List ae)→OB
 |0,_,_,_,_=>none
 |k0+1,p1,p2,p3,p4=>al (at? p4 0) fun e1=>al ((uD k0) e1.type p1) fun r1=>some (!r1)
def tX:Nat→ae→ac→OB
 |0,_,_=>none
 |k0+1,p1,p2=>al ((uD k0) p1.type p2) fun r1=>some r1
end
mutual
theorem kY:∀(k0:Nat) (p1:List ac) (p2 p3:Int) (p4:List ae),CT prog 173 [vl ak p1,.one (.fn 174 [.pv (.rp [[pi p2,pi p3,.ro (af.els p4)]] 0 0)])] (bE k0 p1 p2 p3 p4) vb
  |0,_,_,_,_=>Jw (bE.eq_1 ..)
  |k0+1,p1,p2,p3,p4=>cu 9 [] f173 fun r=>(uU (bE.eq_2 ..) (aS (lR k0 _ _ _ _) fun r1=>uz))
theorem gK:∀(k0:Nat) (p1:List ae) (p2:List ac),CT prog 175 [vl af p1,vl ak p2,.one (.pv (.fn 176 []))] (aY k0 p1 p2) vb
  |0,_,_=>Jw (aY.eq_1 ..)
  |k0+1,p1,p2=>cu 32 [8,9] f175 fun r=>(uU (aY.eq_2 ..) (uN af p1 (uN ak p2 (uC uz (kd f175 14 1 bV [] [] uz fun K J1=>(uN af p1 (fJ f175 58 1 fun R b=>have L1:∀k1 {x1},aN (tX k0) p1 p2 k1 x1=some r→(R k1).p [(1,vl ak p2),(2,.one (.pv (.fn 176 []))),(15,vl af p1),(16,vi p1.length),(17,vi x1)] []:=uI (fD rfl) fun k1 i1 {x1} h=>b h (uU (aN.eq_2 ..) (uC (dL af fun e1=>(dL ak fun e2=>(aS (LP k0 _ _) fun r1=>(uC jh (uJ i1))))) (uR (.exit 0) (xM (uJ J1)))));uE (L1 aH))))))))
theorem lR:∀(k0:Nat) (p1:List ac) (p2 p3:Int) (p4:List ae),CT prog 215 [vl ak p1,.one (.fn 174 [.pv (.rp [[pi p2,pi p3,.ro (af.els p4)]] 0 0)])] (bQ k0 p1 p2 p3 p4) vi
  |0,_,_,_,_=>Jw (bQ.eq_1 ..)
  |k0+1,p1,p2,p3,p4=>cu 19 [] f215 fun r=>(uU (bQ.eq_2 ..) (kd f215 6 1 dD [] [] uz fun K J1=>(uN ak p1 (fJ f215 26 1 fun R b=>have L1:∀k1 {x1},be (pq k0) p1 p2 p3 p4 k1 x1=some r→(R k1).p [(0,vl ak p1),(1,.one (.fn 174 [.pv (.rp [[pi p2,pi p3,.ro (af.els p4)]] 0 0)])),(7,vi p1.length),(8,vi x1)] []:=uI (fD rfl) fun k1 i1 {x1} h=>b h (uU (be.eq_2 ..) (uC (dL ak fun e1=>(aS (IW k0 _ _ _ _) fun r1=>(uC jh (uJ i1)))) (uR (.exit 0) (xM (uJ J1)))));uE (L1 aH)))))
theorem E6:∀(k0:Nat) (p1:am) (p2:ac),CT prog 122 [mT p1,mV p2] (uD k0 p1 p2) vb
  |0,_,_=>Jw (uD.eq_1 ..)
  |k0+1,p1,p2=>cu 42 [] f122 fun r=>(uU (uD.eq_2 ..) (uC uz (uC uz (uC uz (uC (aS (kY k0 _ _ _ _) fun r1=>uz) (uC (aS (gK k0 _ _) fun r2=>uz) uz))))))
theorem IW:∀(k0:Nat) (p1:ac) (p2 p3:Int) (p4:List ae),CT prog 174 [mV p1,vR [pi p2,pi p3,.ro (af.els p4)]] (pq k0 p1 p2 p3 p4) vb
  |0,_,_,_,_=>Jw (pq.eq_1 ..)
  |k0+1,p1,p2,p3,p4=>cu 12 [] f174 fun r=>(uU (pq.eq_2 ..) (mZ 6 (dL af fun e1=>(aS (E6 k0 _ _) fun r1=>uz))))
theorem LP:∀(k0:Nat) (p1:ae) (p2:ac),CT prog 176 [mf p1,mV p2] (tX k0 p1 p2) vb
  |0,_,_=>Jw (tX.eq_1 ..)
  |k0+1,p1,p2=>cu 9 [] f176 fun r=>(uU (tX.eq_2 ..) (aS (E6 k0 _ _) fun r1=>uz))
end
def vq(p1:am)(x1:Int):Option ae:=al (at? p1.fields x1) fun e1=>some e1
def xz(p1:am)(p2:Int):Option ae:=aj (p1.kind==6) (vq p1 0) (vq p1 p2)
theorem Ez(p1:am)(p2:Int):CT prog 177 [mT p1,vi p2] (xz p1 p2) (fun r=>mf r):=
  cu 13 [4] f177 fun r=>(co f177 6 1 fun K k=>have J1:∀{x1},vq p1 x1=some r→K.p [(1,vi x1),(2,vR [pi p1.kind,pi p1.scale,.ro (af.els p1.fields)]),(4,vQ 0)] [.box [ci (0:Int),rX ByteArray.empty,cb false,ci (0:Int),ci (0:Int),.pv (.s (.slice none 0 0))]]:=fun{x1} h=>k h (dL af fun e1=>uz);(uC (uJ J1) (uJ J1)))
def rm(rec1:Int→OB)(x1:Int)(x2:Bool):OB:=aj x2 (some true) (rec1 (i64.wrap (x1+1)))
def zY:OB:=some false
def iq(q_value_lacks:am→ac→OB)(p1:am)(p2:ac):Nat→Int→OB
 |0,_=>none
 |k1+1,x1=>aj (decide (x1<(p2.items.length:Int))) (al (at? p2.items x1) fun e1=>al (xz p1 x1) fun r1=>aj (e1.kind==0) (aj r1.need (rm (iq q_value_lacks p1 p2 k1) x1 true) (al (q_value_lacks r1.type e1) fun r2=>rm (iq q_value_lacks p1 p2 k1) x1 r2)) (al (q_value_lacks r1.type e1) fun r3=>rm (iq q_value_lacks p1 p2 k1) x1 r3)) (zY)
def kU:Nat→am→ac→OB
 |0,_,_=>none
 |k0+1,p1,p2=>iq (kU k0) p1 p2 aH 0
theorem Bj:∀(k0:Nat) (p1:am) (p2:ac),CT prog 123 [mT p1,mV p2] (kU k0 p1 p2) vb
  |0,_,_=>Jw (kU.eq_1 ..)
  |k0+1,p1,p2=>cu 33 [6,7] f123 fun r=>(uU (kU.eq_2 ..) (kd f123 6 1 zY [] [] uz fun K J2=>(uN ak p2.items (fJ f123 26 1 fun R b=>have L1:∀k1 {x1},iq (kU k0) p1 p2 k1 x1=some r→(R k1).p [(2,vR [pi p1.kind,pi p1.scale,.ro (af.els p1.fields)]),(9,vl ak p2.items),(10,vi p2.items.length),(11,vi x1)] []:=uI (fD rfl) fun k1 i1 {x1} h=>b h (uU (iq.eq_2 ..) (uC (dL ak fun e1=>(aS (Ez _ _) fun r1=>(co f123 6758 3 fun K k=>have J1:∀{x2},rm (iq (kU k0) p1 p2 k1) x1 x2=some r→K.p [(2,vR [pi p1.kind,pi p1.scale,.ro (af.els p1.fields)]),(9,vl ak p2.items),(10,vi p2.items.length),(11,vi x1),(31,vb x2)] [.dead,.dead]:=fun{x2} h=>k h (uC jh (uJ i1));(uC (uC (uJ J1) (aS (Bj k0 _ _) fun r2=>(uJ J1))) (aS (Bj k0 _ _) fun r3=>(uJ J1)))))) (uR (.exit 0) (xM (uJ J2)))));uE (L1 aH)))))
def gw(p1:am)(p2:ac):OI:=al (cW p1) fun r1=>aj (r1 != 0) (some r1) (al (kO p2) fun r2=>aj (!r2) (some 1) (al (uD aH p1 p2) fun r3=>aj (!r3) (some 2) (al (kU aH p1 p2) fun r4=>aj r4 (some 9) (some 0))))
theorem qd(p1:am)(p2:ac):CT prog 63 [mT p1,mV p2] (gw p1 p2) vi:=
  cu 24 [] f63 fun r=>(aS (lm _) fun r1=>(uC uz (aS (n6 _) fun r2=>(uC uz (aS (E6 aH _ _) fun r3=>(uC uz (aS (Bj aH _ _) fun r4=>(uC uz uz))))))))
def Ba(p1:cc)(p2:ae):OB:=some (p1.id==p2.id)
theorem Io(p1:cc)(p2:ae):CT prog 124 [mA p1,mf p2] (Ba p1 p2) vb:=
  cu 10 [] f124 fun r=>uz
def cV:OB:=some true
def aI(p1:List cc)(p2:List ae):Nat→Int→OB
 |0,_=>none
 |k1+1,x1=>aj (decide (x1<(p1.length:Int))) (al (at? p1 x1) fun e1=>al (at? p2 x1) fun e2=>al (Ba e1 e2) fun r1=>aj (!r1) (some false) ((aI p1 p2 k1) (i64.wrap (x1+1)))) (cV)
def bU(p1:List cc)(p2:List ae):OB:=aj ((p1.length:Int) != (p2.length:Int)) (some false) (aI p1 p2 aH 0)
theorem gk(p1:List cc)(p2:List ae):CT prog 125 [vl bD p1,vl af p2,.one (.pv (.fn 124 []))] (bU p1 p2) vb:=
  cu 32 [8,9] f125 fun r=>(uN bD p1 (uN af p2 (uC uz (kd f125 14 1 cV [] [] uz fun K J1=>(uN bD p1 (fJ f125 58 1 fun R b=>have L1:∀k1 {x1},aI p1 p2 k1 x1=some r→(R k1).p [(1,vl af p2),(2,.one (.pv (.fn 124 []))),(15,vl bD p1),(16,vi p1.length),(17,vi x1)] []:=uI (fD rfl) fun k1 i1 {x1} h=>b h (uU (aI.eq_2 ..) (uC (dL bD fun e1=>(dL af fun e2=>(aS (Io _ _) fun r1=>(uC jh (uJ i1))))) (uR (.exit 0) (xM (uJ J1)))));uE (L1 aH)))))))
def w5(p1:Int):OB:=some (p1 != p1)
theorem CH(p1:Int):CT prog 216 [vi p1] (w5 p1) vb:=
  cu 6 [] f216 fun r=>uz
def nj(p1 p2:Int):OI:=al (w5 p1) fun r1=>al (w5 p2) fun r2=>aj r1 (aj r2 (some 0) (some (-1))) (aj r2 (some 1) (aj (decide (p1<p2)) (some (-1)) (aj (decide (p2<p1)) (some 1) (some 0))))
theorem ur(p1 p2:Int):CT prog 178 [vi p1,vi p2] (nj p1 p2) vi:=
  cu 20 [] f178 fun r=>(aS (CH _) fun r1=>(aS (CH _) fun r2=>(uC (uC uz uz) (uC uz (uC uz (uC uz uz))))))
def nL(p1:Int):Option bq:=aj (decide (p1<0)) (some (bq.mk true ((IntKind.u64.wrap (0-(IntKind.u64.wrap p1))),0,0,0))) (some (bq.mk false ((IntKind.u64.wrap p1),0,0,0)))
theorem Bf(p1:Int):CT prog 217 [vi p1] (nL p1) (fun r=>mW r):=
  cu 14 [2] f217 fun r=>(uC uz uz)
def iE(p1 p2:Int):Option (Int×Int):=al (some (IntKind.u64.wrap (BitVec.ofInt (IntKind.u64).bits p1 &&& BitVec.ofInt (IntKind.u64).bits 4294967295).toNat)) fun y1=>al (some (IntKind.u64.wrap (BitVec.ofInt (IntKind.u64).bits p2 &&& BitVec.ofInt (IntKind.u64).bits 4294967295).toNat)) fun y2=>al (some (IntKind.u64.wrap ((p1.fdiv (2^(min (32:Int).toNat (IntKind.u64).bits)))*y2))) fun y3=>al (some ((IntKind.u64.wrap (y1*y2)).fdiv (2^(min (32:Int).toNat (IntKind.u64).bits)))) fun y4=>al (some (IntKind.u64.wrap (BitVec.ofInt (IntKind.u64).bits (IntKind.u64.wrap (y3+y4)) &&& BitVec.ofInt (IntKind.u64).bits 4294967295).toNat)) fun y5=>al (some ((IntKind.u64.wrap (y3+y4)).fdiv (2^(min (32:Int).toNat (IntKind.u64).bits)))) fun y6=>al (some (IntKind.u64.wrap (y1*(p2.fdiv (2^(min (32:Int).toNat (IntKind.u64).bits)))))) fun y7=>al (some (IntKind.u64.wrap ((p1.fdiv (2^(min (32:Int).toNat (IntKind.u64).bits)))*(p2.fdiv (2^(min (32:Int).toNat (IntKind.u64).bits)))))) fun y8=>al (some ((IntKind.u64.wrap (y5+y7)).fdiv (2^(min (32:Int).toNat (IntKind.u64).bits)))) fun y9=>some ((IntKind.u64.wrap ((IntKind.u64.wrap (y8+y6))+y9)),(IntKind.u64.wrap (p1*p2)))
theorem qw(p1 p2:Int):CT prog 272 [vk .u64 p1,vk .u64 p2] (iE p1 p2) (fun r=> .tp [vk .u64 r.1,vk .u64 r.2]):=
  cu 51 [] f272 fun r=>(uY 15 (vk .u64) fun y1=>(uY 19 (vk .u64) fun y2=>(uY 27 (vk .u64) fun y3=>(uY 29 (vk .u64) fun y4=>(uY 32 (vk .u64) fun y5=>(uY 34 (vk .u64) fun y6=>(uY 38 (vk .u64) fun y7=>(uY 42 (vk .u64) fun y8=>(uY 46 (vk .u64) fun y9=>uz)))))))))
def dk(p1:bq)(p2:Int):Option bq:=al (iE p1.size.1 p2) fun r1=>gX (0≤r1.2∧0≤(0:Int)∧0≤(0:Int)∧(0:Int)≤1)<|al (some (IntKind.u64.wrap (r1.1+((r1.2+0+(0:Int))/18446744073709551616)))) fun y1=>al (iE p1.size.2.1 p2) fun r2=>gX (0≤r2.2∧0≤y1∧0≤(0:Int)∧(0:Int)≤1)<|al (some (IntKind.u64.wrap (r2.1+((r2.2+y1+0)/18446744073709551616)))) fun y2=>al (iE p1.size.2.2.1 p2) fun r3=>gX (0≤r3.2∧0≤y2∧0≤(0:Int)∧(0:Int)≤1)<|al (some (IntKind.u64.wrap (r3.1+((r3.2+y2+0)/18446744073709551616)))) fun y3=>al (iE p1.size.2.2.2 p2) fun r4=>gX (0≤r4.2∧0≤y3∧0≤(0:Int)∧(0:Int)≤1)<|al (some (IntKind.u64.wrap (r4.1+((r4.2+y3+0)/18446744073709551616)))) fun y4=>some (bq.mk p1.neg (((r1.2+0+(0:Int))%18446744073709551616),((r2.2+y1+0)%18446744073709551616),((r3.2+y2+0)%18446744073709551616),((r4.2+y3+0)%18446744073709551616)))
theorem oX(p1:bq)(p2:Int):CT prog 247 [mW p1,vk .u64 p2] (dk p1 p2) (fun r=>mW r):=
  cu 37 [2,4] f247 fun r=>(Rt 4 (aS (qw _ _) fun r1=>(Ny 273 f273 (uY 34 (vk .u64) fun y1=>(aS (qw _ _) fun r2=>(Ny 273 f273 (uY 34 (vk .u64) fun y2=>(aS (qw _ _) fun r3=>(Ny 273 f273 (uY 34 (vk .u64) fun y3=>(aS (qw _ _) fun r4=>(Ny 273 f273 (uY 34 (vk .u64) fun y4=>uz)))))))))))))
def v7(z6:Bool)(z7 z8 z9 z10:Int):Option bq:=some (bq.mk z6 (z7,z8,z9,z10))
def cN(p2:Int):Nat→Bool→Int→Int→Int→Int→Int→Option bq
 |0,_,_,_,_,_,_=>none
 |k1+1,z1,z2,z3,z4,z5,x1=>aj (decide (x1<p2)) (al (dk (bq.mk z1 (z2,z3,z4,z5)) 10) fun r1=>(cN p2 k1) r1.neg r1.size.1 r1.size.2.1 r1.size.2.2.1 r1.size.2.2.2 (i64.wrap (x1+1))) (v7 z1 z2 z3 z4 z5)
def iQ(p1:bq)(p2:Int):Option bq:=cN p2 aH p1.neg p1.size.1 p1.size.2.1 p1.size.2.2.1 p1.size.2.2.2 0
abbrev U8:List CV:=[cb false,ck .u64 (0:Int),ck .u64 (0:Int),ck .u64 (0:Int),ck .u64 (0:Int)]
theorem xo(p1:bq)(p2:Int):CT prog 218 [mW p1,vi p2] (iQ p1 p2) (fun r=>mW r):=
  cu 12 [2,4] f218 fun r=>(co f218 6 1 fun K k=>have J1:∀{z6 z7 z8 z9 z10},v7 z6 z7 z8 z9 z10=some r→K.p [(2,vQ 0),(4,vQ 1)] [.box [cb z6,ck .u64 z7,ck .u64 z8,ck .u64 z9,ck .u64 z10],.box U8]:=fun{z6 z7 z8 z9 z10} h=>k h uz;(fJ f218 26 1 fun R b=>have L1:∀k1 {z1 z2 z3 z4 z5 x1},cN p2 k1 z1 z2 z3 z4 z5 x1=some r→(R k1).p [(2,vQ 0),(4,vQ 1),(5,vi p2),(6,vi x1)] [.box [cb z1,ck .u64 z2,ck .u64 z3,ck .u64 z4,ck .u64 z5],.box U8]:=uI (fD rfl) fun k1 i1 {z1 z2 z3 z4 z5 x1} h=>b h (uU (cN.eq_2 ..) (uC (aS (oX _ _) fun r1=>(uJ i1)) (uR (.exit 0) (xM (uJ J1)))));uE (L1 aH)))
def lQ(p1 p2:Int):Option bq:=al (nL p1) fun r1=>al (iQ (bq.mk r1.neg (r1.size.1,r1.size.2.1,r1.size.2.2.1,r1.size.2.2.2)) p2) fun r2=>some (bq.mk r2.neg (r2.size.1,r2.size.2.1,r2.size.2.2.1,r2.size.2.2.2))
theorem vj(p1 p2:Int):CT prog 181 [vi p1,vi p2] (lQ p1 p2) (fun r=>mW r):=
  cu 9 [4] f181 fun r=>(aS (Bf _) fun r1=>(aS (xo _ _) fun r2=>uz))
def gA(p1:bq):Option bq:=some (bq.mk (!p1.neg) (p1.size.1,p1.size.2.1,p1.size.2.2.1,p1.size.2.2.2))
theorem qI(p1:bq):CT prog 249 [mW p1] (gA p1) (fun r=>mW r):=
  cu 8 [1,2] f249 fun r=>uz
def hU(p1 p2:bq):OI:=aj (decide (p1.size.2.2.2<p2.size.2.2.2)) (some (-1)) (aj (decide (p2.size.2.2.2<p1.size.2.2.2)) (some 1) (aj (decide (p1.size.2.2.1<p2.size.2.2.1)) (some (-1)) (aj (decide (p2.size.2.2.1<p1.size.2.2.1)) (some 1) (aj (decide (p1.size.2.1<p2.size.2.1)) (some (-1)) (aj (decide (p2.size.2.1<p1.size.2.1)) (some 1) (aj (decide (p1.size.1<p2.size.1)) (some (-1)) (aj (decide (p2.size.1<p1.size.1)) (some 1) (some 0))))))))
theorem Ea(p1 p2:bq):CT prog 250 [mW p1,mW p2] (hU p1 p2) vi:=
  cu 30 [] f250 fun r=>(Rt 4 (mZ 8 (uC uz (mZ 8 (uC uz (mZ 8 (uC uz (mZ 8 (uC uz (mZ 8 (uC uz (mZ 8 (uC uz (mZ 8 (uC uz (mZ 8 (uC uz uz)))))))))))))))))
def fR(z1:Bool)(z2 z3 z4 z5:Int)(z6:Bool)(z7 z8 z9 z10:Int):Option bq:=gX (0≤z2∧0≤z7∧z7<18446744073709551616∧0≤(0:Int)∧(0:Int)≤1)<|gX (0≤z3∧0≤z8∧z8<18446744073709551616∧0≤(if z2<z7+0 then(1:Int)else 0)∧(if z2<z7+0 then(1:Int)else 0)≤1)<|al (some ((z3-z8-(if z2<z7+0 then(1:Int)else 0))%18446744073709551616)) fun y1=>al (some (if z3<z8+(if z2<z7+0 then(1:Int)else 0)then(1:Int)else 0)) fun y2=>gX (0≤z4∧0≤z9∧z9<18446744073709551616∧0≤y2∧y2≤1)<|gX (0≤z5∧0≤z10∧z10<18446744073709551616∧0≤(if z4<z9+y2 then(1:Int)else 0)∧(if z4<z9+y2 then(1:Int)else 0)≤1)<|al (some ((z5-z10-(if z4<z9+y2 then(1:Int)else 0))%18446744073709551616)) fun y3=>al (some (if z5<z10+(if z4<z9+y2 then(1:Int)else 0)then(1:Int)else 0)) fun y4=>some (bq.mk z1 (((z2-z7-0)%18446744073709551616),y1,((z4-z9-y2)%18446744073709551616),y3))
mutual
def gI:Nat→bq→bq→Option bq
 |0,_,_=>none
 |k0+1,p1,p2=>aj (!(p1.neg==p2.neg)) (al (gA (bq.mk p2.neg (p2.size.1,p2.size.2.1,p2.size.2.2.1,p2.size.2.2.2))) fun r1=>al ((eT k0) (bq.mk p1.neg (p1.size.1,p1.size.2.1,p1.size.2.2.1,p1.size.2.2.2)) (bq.mk r1.neg (r1.size.1,r1.size.2.1,r1.size.2.2.1,r1.size.2.2.2))) fun r2=>some (bq.mk r2.neg (r2.size.1,r2.size.2.1,r2.size.2.2.1,r2.size.2.2.2))) (al (hU (bq.mk p1.neg (p1.size.1,p1.size.2.1,p1.size.2.2.1,p1.size.2.2.2)) (bq.mk p2.neg (p2.size.1,p2.size.2.1,p2.size.2.2.1,p2.size.2.2.2))) fun r3=>aj (decide (r3<0)) (al (gA (bq.mk p2.neg (p2.size.1,p2.size.2.1,p2.size.2.2.1,p2.size.2.2.2))) fun r4=>fR r4.neg r4.size.1 r4.size.2.1 r4.size.2.2.1 r4.size.2.2.2 p1.neg p1.size.1 p1.size.2.1 p1.size.2.2.1 p1.size.2.2.2) (fR p1.neg p1.size.1 p1.size.2.1 p1.size.2.2.1 p1.size.2.2.2 p2.neg p2.size.1 p2.size.2.1 p2.size.2.2.1 p2.size.2.2.2))
def eT:Nat→bq→bq→Option bq
 |0,_,_=>none
 |k0+1,p1,p2=>aj (!(p1.neg==p2.neg)) (al (gA (bq.mk p2.neg (p2.size.1,p2.size.2.1,p2.size.2.2.1,p2.size.2.2.2))) fun r1=>al ((gI k0) (bq.mk p1.neg (p1.size.1,p1.size.2.1,p1.size.2.2.1,p1.size.2.2.2)) (bq.mk r1.neg (r1.size.1,r1.size.2.1,r1.size.2.2.1,r1.size.2.2.2))) fun r2=>some (bq.mk r2.neg (r2.size.1,r2.size.2.1,r2.size.2.2.1,r2.size.2.2.2))) (gX (0≤p1.size.1∧0≤p2.size.1∧0≤(0:Int)∧(0:Int)≤1)<|gX (0≤p1.size.2.1∧0≤p2.size.2.1∧0≤((p1.size.1+p2.size.1+0)/18446744073709551616)∧((p1.size.1+p2.size.1+0)/18446744073709551616)≤1)<|al (some ((p1.size.2.1+p2.size.2.1+((p1.size.1+p2.size.1+0)/18446744073709551616))%18446744073709551616)) fun y1=>al (some ((p1.size.2.1+p2.size.2.1+((p1.size.1+p2.size.1+0)/18446744073709551616))/18446744073709551616)) fun y2=>gX (0≤p1.size.2.2.1∧0≤p2.size.2.2.1∧0≤y2∧y2≤1)<|gX (0≤p1.size.2.2.2∧0≤p2.size.2.2.2∧0≤((p1.size.2.2.1+p2.size.2.2.1+y2)/18446744073709551616)∧((p1.size.2.2.1+p2.size.2.2.1+y2)/18446744073709551616)≤1)<|al (some ((p1.size.2.2.2+p2.size.2.2.2+((p1.size.2.2.1+p2.size.2.2.1+y2)/18446744073709551616))%18446744073709551616)) fun y3=>al (some ((p1.size.2.2.2+p2.size.2.2.2+((p1.size.2.2.1+p2.size.2.2.1+y2)/18446744073709551616))/18446744073709551616)) fun y4=>some (bq.mk p1.neg (((p1.size.1+p2.size.1+0)%18446744073709551616),y1,((p1.size.2.2.1+p2.size.2.2.1+y2)%18446744073709551616),y3)))
end
mutual
theorem yP:∀(k0:Nat) (p1 p2:bq),CT prog 219 [mW p1,mW p2] (gI k0 p1 p2) (fun r=>mW r)
  |0,_,_=>Jw (gI.eq_1 ..)
  |k0+1,p1,p2=>cu 44 [2,3,4] f219 fun r=>(uU (gI.eq_2 ..) (uC (mZ 3 (aS (qI _) fun r1=>(aS (Ai k0 _ _) fun r2=>uz))) (co f219 14 1 fun K k=>have J1:∀{z1 z2 z3 z4 z5 z6 z7 z8 z9 z10},fR z1 z2 z3 z4 z5 z6 z7 z8 z9 z10=some r→K.p [(2,vQ 0),(3,vQ 1),(4,vQ 2)] [.box [cb z1,ck .u64 z2,ck .u64 z3,ck .u64 z4,ck .u64 z5],.box [cb z6,ck .u64 z7,ck .u64 z8,ck .u64 z9,ck .u64 z10],.box [cb false,ck .u64 (0:Int),ck .u64 (0:Int),ck .u64 (0:Int),ck .u64 (0:Int)]]:=fun{z1 z2 z3 z4 z5 z6 z7 z8 z9 z10} h=>k h (Rt 4 (Im 17 0 [3] (XD 251 f251 (Im 17 0 [3] (XD 251 f251 (uY 38 (vk .u64) fun y1=>(uY 39 (vk .u64) fun y2=>(Im 17 0 [3] (XD 251 f251 (Im 17 0 [3] (XD 251 f251 (uY 38 (vk .u64) fun y3=>(uY 39 (vk .u64) fun y4=>uz)))))))))))));(aS (Ea _ _) fun r3=>(uC (mZ 3 (aS (qI _) fun r4=>(uJ J1))) (uJ J1))))))
theorem Ai:∀(k0:Nat) (p1 p2:bq),CT prog 248 [mW p1,mW p2] (eT k0 p1 p2) (fun r=>mW r)
  |0,_,_=>Jw (eT.eq_1 ..)
  |k0+1,p1,p2=>cu 37 [2,4] f248 fun r=>(uU (eT.eq_2 ..) (uC (mZ 3 (aS (qI _) fun r1=>(aS (yP k0 _ _) fun r2=>uz))) (Rt 4 (Im 17 0 [2] (Ny 273 f273 (Im 17 0 [2] (Ny 273 f273 (uY 31 (vk .u64) fun y1=>(uY 32 (vk .u64) fun y2=>(Im 17 0 [2] (Ny 273 f273 (Im 17 0 [2] (Ny 273 f273 (uY 31 (vk .u64) fun y3=>(uY 32 (vk .u64) fun y4=>uz)))))))))))))))
end
def tB(p1:bq):OB:=al (some ((p1.size.1==0)&&((p1.size.2.1==0)&&((p1.size.2.2.1==0)&&((p1.size.2.2.2==0)&&true))))) fun y1=>some y1
theorem F4(p1:bq):CT prog 220 [mW p1] (tB p1) vb:=
  cu 7 [] f220 fun r=>(uY 6 vb fun y1=>uz)
def mw(p1 p2:bq):OI:=al (gI aH (bq.mk p1.neg (p1.size.1,p1.size.2.1,p1.size.2.2.1,p1.size.2.2.2)) (bq.mk p2.neg (p2.size.1,p2.size.2.1,p2.size.2.2.1,p2.size.2.2.2))) fun r1=>al (tB (bq.mk r1.neg (r1.size.1,r1.size.2.1,r1.size.2.2.1,r1.size.2.2.2))) fun r2=>aj r2 (some 0) (aj r1.neg (some (-1)) (some 1))
theorem DD(p1 p2:bq):CT prog 182 [mW p1,mW p2] (mw p1 p2) vi:=
  cu 15 [5] f182 fun r=>(aS (yP aH _ _) fun r1=>(aS (F4 _) fun r2=>(uC uz (uC uz uz))))
def rZ(p1:ByteArray):OB:=some (!(p1.toList==p1.toList))
theorem zp(p1:ByteArray):CT prog 252 [vs p1] (rZ p1) vb:=
  cu 6 [] f252 fun r=>uz
def oW(p1 p2:ByteArray):OI:=al (rZ p1) fun r1=>al (rZ p2) fun r2=>aj r1 (aj r2 (some 0) (some (-1))) (aj r2 (some 1) (aj (Op.bytesLess p1.toList p2.toList) (some (-1)) (aj (!(Op.bytesLess p1.toList p2.toList||p1.toList==p2.toList)) (some 1) (some 0))))
theorem C3(p1 p2:ByteArray):CT prog 221 [vs p1,vs p2] (oW p1 p2) vi:=
  cu 20 [] f221 fun r=>(aS (zp _) fun r1=>(aS (zp _) fun r2=>(uC (uC uz uz) (uC uz (uC uz (uC uz uz))))))
def EE:OI:=some 0
def kw(p1:List Int):Nat→Int→OI
 |0,_=>none
 |k1+1,x1=>aj (decide (x1<(p1.length:Int))) (al (at? p1 x1) fun e1=>aj (e1 != 0) (some e1) ((kw p1 k1) (i64.wrap (x1+1)))) (EE)
def rr(p1:List Int):OI:=kw p1 aH 0
theorem BZ(p1:List Int):CT prog 180 [vl eI p1] (rr p1) vi:=
  cu 18 [] f180 fun r=>(kd f180 14 1 EE [(3,vi (0:Int))] [] uz fun K J1=>(uN eI p1 (fJ f180 58 1 fun R b=>have L1:∀k1 {x1},kw p1 k1 x1=some r→(R k1).p [(3,vi (0:Int)),(6,vl eI p1),(7,vi p1.length),(8,vi x1)] []:=uI (fD rfl) fun k1 i1 {x1} h=>b h (uU (kw.eq_2 ..) (uC (dL eI fun e1=>(uC jh (uJ i1))) (uR (.exit 0) (xM (uJ J1)))));uE (L1 aH))))
def bK(p1 p2:List ac):OI:=aj (decide ((p1.length:Int)<(p2.length:Int))) (some (-1)) (some 0)
def aR(q_value_Compare:ac→ac→OI)(p1 p2:List ac):Nat→Int→OI
 |0,_=>none
 |k1+1,x1=>aj (decide (x1<(p1.length:Int))) (al (at? p1 x1) fun e1=>aj (decide ((p2.length:Int)≤x1)) (some 1) (al (at? p2 x1) fun e2=>al (q_value_Compare e1 e2) fun r1=>aj (r1 != 0) (some r1) ((aR q_value_Compare p1 p2 k1) (i64.wrap (x1+1))))) (bK p1 p2)
def oq(q_value_rest:ac→ac→OI)(p1 p2:ac):OI:=al (nj p1.n p2.n) fun r9=>al (q_value_rest p1 p2) fun r10=>al (rr [r9,r10]) fun r11=>some r11
def rJ(q_value_rest:ac→ac→OI)(p1 p2:ac)(r2 r3 x1:Bool):OI:=aj x1 (al (lQ p1.n (i64.wrap (12-p1.scale))) fun r4=>al (lQ p2.n (i64.wrap (12-p2.scale))) fun r5=>al (mw (bq.mk r4.neg (r4.size.1,r4.size.2.1,r4.size.2.2.1,r4.size.2.2.2)) (bq.mk r5.neg (r5.size.1,r5.size.2.1,r5.size.2.2.1,r5.size.2.2.2))) fun r6=>al (q_value_rest p1 p2) fun r7=>al (rr [r6,r7]) fun r8=>some r8) (aj r2 (some (-1)) (aj r3 (some 1) (oq q_value_rest p1 p2)))
mutual
def aB:Nat→(List ac)→(List ac)→OI
 |0,_,_=>none
 |k0+1,p1,p2=>aR (dm k0) p1 p2 aH 0
def dm:Nat→ac→ac→OI
 |0,_,_=>none
 |k0+1,p1,p2=>aj (p1.kind != p2.kind) (aj (p1.kind==0) (some 1) (aj (p2.kind==0) (some (-1)) (al (nj p1.kind p2.kind) fun r1=>some r1))) (aj (p1.kind==0) (some 0) (aj (p1.kind==3) (al (dR p1.scale 0 12) fun r2=>al (dR p2.scale 0 12) fun r3=>aj r2 (rJ (mN k0) p1 p2 r2 r3 r3) (rJ (mN k0) p1 p2 r2 r3 false)) (oq (mN k0) p1 p2)))
def mN:Nat→ac→ac→OI
 |0,_,_=>none
 |k0+1,p1,p2=>al (nj p1.scale p2.scale) fun r1=>al (oW p1.s p2.s) fun r2=>al ((aB k0) p1.items p2.items) fun r3=>al (rr [r1,r2,r3]) fun r4=>some r4
end
mutual
theorem cT:∀(k0:Nat) (p1 p2:List ac),CT prog 222 [vl ak p1,vl ak p2,.one (.pv (.fn 126 []))] (aB k0 p1 p2) vi
  |0,_,_=>Jw (aB.eq_1 ..)
  |k0+1,p1,p2=>cu 39 [8,9] f222 fun r=>(uU (aB.eq_2 ..) (kd f222 6 1 (bK p1 p2) [(0,vl ak p1),(1,vl ak p2)] [] (uN ak p1 (uN ak p2 (uC uz uz))) fun K J1=>(uN ak p1 (fJ f222 26 1 fun R b=>have L1:∀k1 {x1},aR (dm k0) p1 p2 k1 x1=some r→(R k1).p [(0,vl ak p1),(1,vl ak p2),(2,.one (.pv (.fn 126 []))),(11,vl ak p1),(12,vi p1.length),(13,vi x1)] []:=uI (fD rfl) fun k1 i1 {x1} h=>b h (uU (aR.eq_2 ..) (uC (dL ak fun e1=>(uN ak p2 (uC jh (dL ak fun e2=>(aS (lB k0 _ _) fun r1=>(uC jh (uJ i1))))))) (uR (.exit 0) (xM (uJ J1)))));uE (L1 aH)))))
theorem lB:∀(k0:Nat) (p1 p2:ac),CT prog 126 [mV p1,mV p2] (dm k0 p1 p2) vi
  |0,_,_=>Jw (dm.eq_1 ..)
  |k0+1,p1,p2=>cu 72 [] f126 fun r=>(uU (dm.eq_2 ..) (uC (uC uz (uC uz (aS (ur _ _) fun r1=>uz))) (kd f126 14 1 (oq (mN k0) p1 p2) [(2,vR [pi p1.kind,pi p1.n,pi p1.scale,.s (.string p1.s),.ro (ak.els p1.items)]),(3,vR [pi p2.kind,pi p2.n,pi p2.scale,.s (.string p2.s),.ro (ak.els p2.items)])] [] (mZ 7 (aS (ur _ _) fun r9=>(aS (GB k0 _ _) fun r10=>(aS (BZ _) fun r11=>uz)))) fun K J2=>(uC (uR .ret (xN xF)) (uC (mZ 5 (aS (gy _ _ _) fun r2=>(aS (gy _ _ _) fun r3=>(co f126 7540 3 fun K k=>have J1:∀{x1},rJ (mN k0) p1 p2 r2 r3 x1=some r→K.p [(2,vR [pi p1.kind,pi p1.n,pi p1.scale,.s (.string p1.s),.ro (ak.els p1.items)]),(3,vR [pi p2.kind,pi p2.n,pi p2.scale,.s (.string p2.s),.ro (ak.els p2.items)]),(5,vb r2),(6,vb r3),(35,vb x1)] []:=fun{x1} h=>k h (uC (mZ 15 (aS (vj _ _) fun r4=>(aS (vj _ _) fun r5=>(aS (DD _ _) fun r6=>(aS (GB k0 _ _) fun r7=>(aS (BZ _) fun r8=>(uR .ret (xN xF)))))))) (uC (uR .ret (xN xF)) (uC (uR .ret (xN xF)) (uJ J2))));(uC (uJ J1) (uJ J1)))))) (uJ J2))))))
theorem GB:∀(k0:Nat) (p1 p2:ac),CT prog 183 [mV p1,mV p2] (mN k0 p1 p2) vi
  |0,_,_=>Jw (mN.eq_1 ..)
  |k0+1,p1,p2=>cu 22 [] f183 fun r=>(uU (mN.eq_2 ..) (mZ 14 (aS (ur _ _) fun r1=>(aS (C3 _ _) fun r2=>(aS (cT k0 _ _) fun r3=>(aS (BZ _) fun r4=>uz))))))
end
def vy(rec1:List ae→Int→OI)(x1:Int)(l2:List ae):OI:=rec1 l2 (i64.wrap (x1+1))
def qL(rec2:Int→OI)(x2:Int)(x3:Bool):OI:=aj x3 (some 1) (rec2 (i64.wrap (x2+1)))
def Dt:OI:=some 0
def ix(p2:ai)(l3:List ae):Nat→Int→OI
 |0,_=>none
 |k2+1,x2=>aj (decide (x2<(p2.stats.length:Int))) (al (at? p2.stats x2) fun e2=>al (dF e2.nulls 0 p2.rows) fun r3=>aj (!r3) (some 3) (al (at? [e2.min,e2.max] 0) fun e3=>al (at? l3 x2) fun e4=>al (gw e4.type e3) fun r4=>aj (r4 != 0) (some r4) (al (at? [e2.min,e2.max] 1) fun e5=>al (gw e4.type e5) fun r5=>aj (r5 != 0) (some r5) (aj (!((e2.min.kind==0)==(e2.nulls==p2.rows))) (qL (ix p2 l3 k2) x2 true) (aj (!((e2.max.kind==0)==(e2.nulls==p2.rows))) (qL (ix p2 l3 k2) x2 true) (al (dm aH e2.min e2.max) fun r6=>qL (ix p2 l3 k2) x2 (decide (0<r6)))))))) (Dt)
def ox(p2:ai)(l3:List ae):OI:=al (bU p2.stats l3) fun r2=>aj (!r2) (some 1) (ix p2 l3 aH 0)
def jz(p1:List ae)(p2:ai):Nat→List ae→Int→OI
 |0,_,_=>none
 |k1+1,l1,x1=>aj (decide (x1<(p1.length:Int))) (al (at? p1 x1) fun e1=>al (wE e1.type) fun r1=>aj r1 (gX (l1.length+1≤4294967296)<|vy (jz p1 p2 k1) x1 (l1++[e1])) (vy (jz p1 p2 k1) x1 l1)) (ox p2 l1)
def xp(p1:List ae)(p2:ai):OI:=jz p1 p2 aH [] 0
abbrev eJ(p2:ai):List PV:=[.s (.string p2.name),pi p2.schema,pi p2.spec,.ro (ak.els p2.part),pi p2.rows,pi p2.seq,.ro (bD.els p2.stats)]
theorem KH(p1:List ae)(p2:ai):CT prog 64 [vl af p1,mF p2] (xp p1 p2) vi:=
  cu 98 [7,10,12] f64 fun r=>(co f64 14 1 fun K k=>have J2:∀{l3},ox p2 l3=some r→K.p [(3,vR (eJ p2)),(5,.one (.sl 0 6 0 l3.length))] [.arr 6 (af.els l3)]:=fun{l3} h=>k h (Ks af l3 0 [5,31] (aS (gk _ _) fun r2=>(uC uz (kd f64 126 1 Dt [] [.dead] uz fun K J4=>(uN bD p2.stats (fJ f64 506 1 fun R b=>have L2:∀k2 {x2},ix p2 l3 k2 x2=some r→(R k2).p [(3,vR (eJ p2)),(5,vl af l3),(36,vl bD p2.stats),(37,vi p2.stats.length),(38,vi x2)] [.dead]:=uI (fD rfl) fun k2 i2 {x2} h=>b h (uU (ix.eq_2 ..) (uC (dL bD fun e2=>(aS (dy _ _ _) fun r3=>(uC jh (uW 53 ak [e2.min,e2.max] (uA (vi (2:Int)) (Rt 2 (uT (dL ak fun e3=>(mZ 6 (uL af fun e4 a42=>(aS (qd _ _) fun r4=>(uC jh (uT (dL ak fun e5=>(mZ 6 (uM af a42 (aS (qd _ _) fun r5=>(uC jh (uF (co f64 518558 3 fun K k=>have J3:∀{x3},qL (ix p2 l3 k2) x2 x3=some r→K.p [(3,vR (eJ p2)),(5,vl af l3),(36,vl bD p2.stats),(37,vi p2.stats.length),(38,vi x2),(96,vb x3)] [.dead,.dead,.dead,.dead]:=fun{x3} h=>k h (uC jh (uJ i2));(uC (uJ J3) (uC (uJ J3) (aS (lB aH _ _) fun r6=>(uJ J3)))))))))))))))))))))))) (uR (.exit 2) (xM (uJ J4)))));uE (L2 aH)))))));(uN af p1 (LC (.li 5 6) (fJ f64 58 1 fun R b=>have L1:∀k1 {l1 x1},jz p1 p2 k1 l1 x1=some r→(R k1).p [(3,vR (eJ p2)),(5,.one (.sl 0 6 0 l1.length)),(15,vl af p1),(16,vi p1.length),(17,vi x1)] [.arr 6 (af.els l1)]:=uI (fD rfl) fun k1 i1 {l1 x1} h=>b h (uU (jz.eq_2 ..) (uC (co f64 934 1 fun K k=>have J1:∀{l2},vy (jz p1 p2 k1) x1 l2=some r→K.p [(3,vR (eJ p2)),(5,.one (.sl 0 6 0 l2.length)),(15,vl af p1),(16,vi p1.length),(17,vi x1)] [.arr 6 (af.els l2)]:=fun{l2} h=>k h (uJ i1);(dL af fun e1=>(aS (Ck _) fun r1=>(uC (uW 26 af [e1] (Bk af 0 [e1] (uJ J1))) (uJ J1))))) (uR (.exit 0) (xM (uJ J2)))));uE (L1 aH)))))
def Be(p2:ai)(r5:(Bool×(List ae))):OI:=al (xp r5.2 p2) fun r9=>some r9
def lX(p2:ai)(e2:cD)(r5:(Bool×(List ae))):Nat→Int→OI
 |0,_=>none
 |k1+1,x2=>aj (decide (x2<(e2.fields.length:Int))) (al (at? e2.fields x2) fun e3=>al (me r5.2 e3.source) fun r6=>al (at? r5.2 r6) fun e4=>al (dz e3.transform e4.type) fun r7=>aj (r7.2 != 0) (some 2) (al (at? p2.part x2) fun e5=>al (gw r7.1 e5) fun r8=>aj (r8 != 0) (some r8) ((lX p2 e2 r5 k1) (i64.wrap (x2+1))))) (Be p2 r5)
def n7(p1:ay)(p2:ai)(x1:Bool):OI:=aj x1 (some 3) (al (at? p1.schemas p2.schema) fun e1=>al (at? p1.specs p2.spec) fun e2=>al (bo e2.fields e1) fun r5=>aj r5.1 (some 9) (aj ((p2.part.length:Int) != (e2.fields.length:Int)) (some 1) (lX p2 e2 r5 aH 0)))
def zr(p1:ay)(p2:ai):OI:=al (rN p2.name) fun r1=>aj (!r1) (some 4) (al (dF p2.schema 0 (i64.wrap ((p1.schemas.length:Int)-1))) fun r2=>aj (!r2) (n7 p1 p2 true) (al (dF p2.spec 0 (i64.wrap ((p1.specs.length:Int)-1))) fun r3=>aj (!r3) (n7 p1 p2 true) (al (dF p2.rows 1 2000) fun r4=>aj (!r4) (n7 p1 p2 true) (n7 p1 p2 (decide (p2.seq<1))))))
theorem FI(p1:ay)(p2:ai):CT prog 19 [mM p1,mF p2] (zr p1 p2) vi:=
  cu 108 [5,6,8,9] f19 fun r=>(aS (E3 _) fun r1=>(uC uz (co f19 102 3 fun K k=>have J1:∀{x1},n7 p1 p2 x1=some r→K.p [(2,vR [.ro ((eL af).els p1.schemas),.ro (fk.els p1.specs),pi p1.nextField,pi p1.nextSeq,pi p1.nextSnap,pi p1.purges,.ro (aT.els p1.snapshots),.ro (nT.els p1.refs),.ro (ku.els p1.props)]),(3,vR (eJ p2)),(17,vb x1)] []:=fun{x1} h=>k h (uC uz (Im 15 2 [0,1,2] (dL (eL af) fun e1=>(dL fk fun e2=>(EG true [0] (iX _ _) fun r5 _=>(uC uz (uN ak p2.part (uN aF e2.fields (uC uz (kd f19 126 1 (Be p2 r5) [(3,vR (eJ p2)),(5,vQ 0)] [.box [cl af r5.2],.dead] (aS (KH _ _) fun r9=>uz) fun K J2=>(uN aF e2.fields (fJ f19 506 1 fun R b=>have L1:∀k1 {x2},lX p2 e2 r5 k1 x2=some r→(R k1).p [(3,vR (eJ p2)),(5,vQ 0),(71,vl aF e2.fields),(72,vi e2.fields.length),(73,vi x2)] [.box [cl af r5.2],.dead]:=uI (fD rfl) fun k1 i1 {x2} h=>b h (uU (lX.eq_2 ..) (uC (dL aF fun e3=>(Im 16 1 [3,4] (aS (xC _ _) fun r6=>(dL af fun e4=>(aS (qj _ _) fun r7=>(uC jh (mZ 6 (dL ak fun e5=>(aS (qd _ _) fun r8=>(uC jh (uJ i1))))))))))) (uR (.exit 1) (xM (uJ J2)))));uE (L1 aH)))))))))))));(uN (eL af) p1.schemas (aS (dy _ _ _) fun r2=>(uC (uJ J1) (uN fk p1.specs (aS (dy _ _ _) fun r3=>(uC (uJ J1) (aS (dy _ _ _) fun r4=>(uC (uJ J1) (uJ J1))))))))))))
def vu(rec1:Int→OI)(x1:Int)(x3:Bool):OI:=aj x3 (some 1) (rec1 (i64.wrap (x1+1)))
def vr(rec1:Int→OI)(p2:ar)(x1:Int)(e1:ai)(x2:Bool):OI:=aj x2 (some 3) (aj (decide (0<x1)) (al (at? p2.files (i64.wrap (x1-1))) fun e2=>al (some (Op.bytesLess e1.name.toList e2.name.toList||e1.name.toList==e2.name.toList)) fun y1=>vu rec1 x1 y1) (vu rec1 x1 false))
def DG:OI:=some 0
def eZ(p1:ay)(p2:ar):Nat→Int→OI
 |0,_=>none
 |k1+1,x1=>aj (decide (x1<(p2.files.length:Int))) (al (at? p2.files x1) fun e1=>al (zr p1 e1) fun r1=>aj (r1 != 0) (some r1) (aj (decide (p2.seq<e1.seq)) (vr (eZ p1 p2 k1) p2 x1 e1 true) (vr (eZ p1 p2 k1) p2 x1 e1 (decide (p2.schema<e1.schema))))) (DG)
def xx(p1:ay)(p2:ar):OI:=eZ p1 p2 aH 0
abbrev oB(p2:ar):List PV:=[pi p2.id,pi p2.parent,pi p2.seq,pi p2.schema,pi p2.time,pi p2.kind,.ro (aU.els p2.files),.ro (dj.els p2.dat),.ro (dT.els p2.dby)]
theorem KR(p1:ay)(p2:ar):CT prog 107 [mM p1,mS p2] (xx p1 p2) vi:=
  cu 51 [6] f107 fun r=>(kd f107 6 1 DG [] [] uz fun K J3=>(uN aU p2.files (fJ f107 26 1 fun R b=>have L1:∀k1 {x1},eZ p1 p2 k1 x1=some r→(R k1).p [(2,vR (bB p1)),(3,vR (oB p2)),(9,vl aU p2.files),(10,vi p2.files.length),(11,vi x1)] []:=uI (fD rfl) fun k1 i1 {x1} h=>b h (uU (eZ.eq_2 ..) (uC (dL aU fun e1=>(aS (FI _ _) fun r1=>(uC jh (co f107 13516 4 fun K k=>have J1:∀{x2},vr (eZ p1 p2 k1) p2 x1 e1 x2=some r→K.p [(2,vR (bB p1)),(3,vR (oB p2)),(5,vi x1),(6,vQ 0),(9,vl aU p2.files),(10,vi p2.files.length),(11,vi x1),(22,vb x2)] [.box [rX e1.name,ci e1.schema,ci e1.spec,cl ak e1.part,ci e1.rows,ci e1.seq,cl bD e1.stats]]:=fun{x2} h=>k h (uC jh (co f107 54070 4 fun K k=>have J2:∀{x3},vu (eZ p1 p2 k1) x1 x3=some r→K.p [(2,vR (bB p1)),(3,vR (oB p2)),(9,vl aU p2.files),(10,vi p2.files.length),(11,vi x1),(35,vb x3)] [.dead]:=fun{x3} h=>k h (uC jh (uJ i1));(mZ 12 (uC (dL aU fun e2=>(uY 48 vb fun y1=>(uJ J2))) (uJ J2)))));(uC (uJ J1) (uJ J1)))))) (uR (.exit 0) (xM (uJ J3)))));uE (L1 aH))))
def vF(p1:ai)(p2:ByteArray):OI:=al (strings_Compare p1.name p2) fun r1=>some r1
theorem Db(p1:ai)(p2:ByteArray):CT prog 204 [mF p1,vs p2] (vF p1 p2) vi:=
  cu 9 [] f204 fun r=>(aS (Fv _ _) fun r1=>uz)
def bp(x3:Int)(x4:Bool):Option (Int×Bool):=some (x3,x4)
def bN(p1:List ai)(p2:ByteArray)(x3:Int):Option (Int×Bool):=aj (decide (x3<(p1.length:Int))) (al (at? p1 x3) fun e2=>al (vF e2 p2) fun r2=>bp x3 (r2==0)) (bp x3 false)
def aA(p1:List ai)(p2:ByteArray):Nat→Int→Int→Option (Int×Bool)
 |0,_,_=>none
 |k1+1,x1,x2=>aj (decide (x1<x2)) (al (some ((IntKind.u64.wrap (i64.wrap (x1+x2))).fdiv (2^(min (1:Int).toNat (IntKind.u64).bits)))) fun y1=>al (at? p1 (i64.wrap y1)) fun e1=>al (vF e1 p2) fun r1=>aj (decide (r1<0)) ((aA p1 p2 k1) (i64.wrap ((i64.wrap y1)+1)) x2) ((aA p1 p2 k1) x1 (i64.wrap y1))) (bN p1 p2 x1)
def bW(p1:List ai)(p2:ByteArray):Option (Int×Bool):=aA p1 p2 aH 0 (p1.length:Int)
theorem gp(p1:List ai)(p2:ByteArray):CT prog 203 [vl aU p1,vs p2,.one (.pv (.fn 204 []))] (bW p1 p2) (fun r=> .tp [vi r.1,vb r.2]):=
  cu 49 [] f203 fun r=>(uN aU p1 (co f203 30 1 fun K k=>have J1:∀{x3},bN p1 p2 x3=some r→K.p [(0,vl aU p1),(1,vs p2),(2,.one (.pv (.fn 204 []))),(8,vi p1.length),(9,vi x3)] []:=fun{x3} h=>k h (co f203 62 1 fun K k=>have J2:∀{x4},bp x3 x4=some r→K.p [(6,vi x3),(7,vb x4)] []:=fun{x4} h=>k h uz;(uC (dL aU fun e2=>(aS (Db _ _) fun r2=>(uJ J2))) (uJ J2)));(fJ f203 60 1 fun R b=>have L1:∀k1 {x1 x2},aA p1 p2 k1 x1 x2=some r→(R k1).p [(0,vl aU p1),(1,vs p2),(2,.one (.pv (.fn 204 []))),(8,vi p1.length),(9,vi x1),(10,vi x2)] []:=uI (fD rfl) fun k1 i1 {x1 x2} h=>b h (uU (aA.eq_2 ..) (uC (uY 22 (vk .u64) fun y1=>(dL aU fun e1=>(aS (Db _ _) fun r1=>(uC (uJ i1) (uJ i1))))) (uR (.exit 0) (xM (uJ J1)))));uE (L1 aH))))
def BY(p1:ar)(p2:ByteArray):Option (ai×Bool):=al (bW p1.files p2) fun r1=>aj (!r1.2) (some ((ai.mk ByteArray.empty 0 0 [] 0 0 []),false)) (al (at? p1.files r1.1) fun e1=>some (e1,true))
theorem Md(p1:ar)(p2:ByteArray):CT prog 157 [mS p1,vs p2] (BY p1 p2) (fun r=> .tp [mF r.1,vb r.2]):=
  cu 23 [4] f157 fun r=>(aS (gp _ _) fun r1=>(uC uz (dL aU fun e1=>uz)))
def Cx(p1:List Int):OB:=some (decide (0<(p1.length:Int)))
def jM(p1:List Int):Nat→Int→OB
 |0,_=>none
 |k1+1,x1=>aj (decide (x1<(p1.length:Int))) (al (at? p1 x1) fun e1=>al (at? p1 (i64.wrap (x1-1))) fun e2=>aj (decide (e1≤e2)) (some false) ((jM p1 k1) (i64.wrap (x1+1)))) (Cx p1)
def sk(p1:List Int):OB:=jM p1 aH 1
theorem zt(p1:List Int):CT prog 158 [vl eI p1] (sk p1) vb:=
  cu 23 [] f158 fun r=>(kd f158 6 1 (Cx p1) [(0,vl eI p1)] [] (uN eI p1 uz) fun K J1=>(fJ f158 26 1 fun R b=>have L1:∀k1 {x1},jM p1 k1 x1=some r→(R k1).p [(0,vl eI p1),(3,vi x1)] []:=uI (fD rfl) fun k1 i1 {x1} h=>b h (uU (jM.eq_2 ..) (uN eI p1 (uC (mZ 9 (dL eI fun e1=>(dL eI fun e2=>(uC jh (uJ i1))))) (uR (.exit 0) (xM (uJ J1))))));uE (L1 aH)))
def rG(p1:List ae)(r1:Int)(x1:Bool):Option (am×Bool):=aj x1 (some ((am.mk 0 0 []),false)) (al (at? p1 r1) fun e2=>some (e2.type,true))
def l7(p1:List ae)(p2:Int):Option (am×Bool):=al (me p1 p2) fun r1=>aj (decide (r1<0)) (rG p1 r1 true) (al (at? p1 r1) fun e1=>al (wE e1.type) fun r2=>rG p1 r1 (!r2))
theorem pR(p1:List ae)(p2:Int):CT prog 65 [vl af p1,vi p2] (l7 p1 p2) (fun r=> .tp [mT r.1,vb r.2]):=
  cu 27 [4] f65 fun r=>(aS (xC _ _) fun r1=>(co f65 28 2 fun K k=>have J1:∀{x1},rG p1 r1 x1=some r→K.p [(0,vl af p1),(4,vQ 0),(6,vi r1),(20,vb x1)] [.box [ci (0:Int),ci (0:Int),.pv (.s (.slice none 0 0))]]:=fun{x1} h=>k h (uC uz (dL af fun e2=>uz));(uC (uJ J1) (dL af fun e1=>(aS (Ck _) fun r2=>(uJ J1))))))
def EQ(p1:Int)(p2:List ae):Option (Bool×(List ae)):=al (l7 p2 p1) fun r1=>some ((!r1.2),p2)
theorem LV(p1:Int)(p2:List ae):CM prog 206 [vi p1,vQ 0] [.box [cl af p2]] (EQ p1 p2) (fun r=>vb r.1) (fun r=>[.box [cl af r.2]]):=
  ww 1 14 [4] f206 fun r=>(aS (pR _ _) fun r1=>(uR .ret sE))
def jJ(z2:List ae):Option (Int×(List ae)):=some ((-1),z2)
def bt(p1:List Int):Nat→List ae→Int→Option (Int×(List ae))
 |0,_,_=>none
 |k1+1,z1,x1=>aj (decide (x1<(p1.length:Int))) (al (at? p1 x1) fun e1=>al (EQ e1 z1) fun r1=>aj r1.1 (some (x1,r1.2)) ((bt p1 k1) r1.2 (i64.wrap (x1+1)))) (jJ z1)
def gu(p1:List Int)(p2:List ae):Option (Int×(List ae)):=bt p1 aH p2 0
theorem qh(p1:List Int)(p2:List ae):CM prog 243 [vl eI p1,.one (.fn 206 [.pt 0 0 0 0])] [.box [cl af p2]] (gu p1 p2) (fun r=>vi r.1) (fun r=>[.box [cl af r.2]]):=
  ww 1 19 [] f243 fun r=>(co f243 6 1 fun K k=>have J1:∀{z2},jJ z2=some r→K.p [] [.box [cl af z2]]:=fun{z2} h=>k h (uR .ret sE);(uN eI p1 (fJ f243 26 1 fun R b=>have L1:∀k1 {z1 x1},bt p1 k1 z1 x1=some r→(R k1).p [(0,vl eI p1),(1,.one (.fn 206 [.pt 0 0 0 0])),(7,vi p1.length),(8,vi x1)] [.box [cl af z1]]:=uI (fD rfl) fun k1 i1 {z1 x1} h=>b h (uU (bt.eq_2 ..) (uC (dL eI fun e1=>(EG true [0] (LV _ _) fun r1 _=>(uC (uR .ret (xN (xN sE))) (uJ i1)))) (uR (.exit 0) (xM (uJ J1)))));uE (L1 aH))))
def cH(p1:List Int)(p2:List ae):Option (Bool×(List ae)):=al (gu p1 p2) fun r1=>some ((decide (0≤r1.1)),r1.2)
theorem oN(p1:List Int)(p2:List ae):CM prog 207 [vl eI p1,.one (.fn 206 [.pt 0 0 0 0])] [.box [cl af p2]] (cH p1 p2) (fun r=>vb r.1) (fun r=>[.box [cl af r.2]]):=
  ww 1 9 [] f207 fun r=>(EG true [0] (qh _ _) fun r1 _=>(uR .ret sE))
def qr(p1 p2:List ac):OI:=al (aB aH p1 p2) fun r1=>some r1
theorem Eh(p1 p2:List ac):CT prog 208 [vl ak p1,vl ak p2] (qr p1 p2) vi:=
  cu 8 [] f208 fun r=>(aS (cT aH _ _) fun r1=>uz)
def xy(rec1:Int→OI)(x3:Int)(x5:Bool):OI:=aj x5 (some 1) (rec1 (i64.wrap (x3+1)))
def Au(rec1:Int→OI)(p2:cz)(p3:Bool)(x3:Int)(e2:List ac):OI:=aj p3 (aj (decide (0<x3)) (al (at? p2.keys (i64.wrap (x3-1))) fun e5=>al (qr e5 e2) fun r6=>xy rec1 x3 (decide (0≤r6))) (xy rec1 x3 false)) (xy rec1 x3 false)
def rq(rec1:Int→OI)(p2:cz)(p3:Bool)(z1:List ae)(x3:Int)(e2:List ac):Nat→Int→OI
 |0,_=>none
 |k2+1,x4=>aj (decide (x4<(e2.length:Int))) (al (at? e2 x4) fun e3=>al (at? p2.ids x4) fun e4=>al (l7 z1 e4) fun r4=>al (gw r4.1 e3) fun r5=>aj (r5 != 0) (some r5) ((rq rec1 p2 p3 z1 x3 e2 k2) (i64.wrap (x4+1)))) (Au rec1 p2 p3 x3 e2)
def H0:OI:=some 0
def iV(p2:cz)(p3:Bool)(z1:List ae):Nat→Int→OI
 |0,_=>none
 |k1+1,x3=>aj (decide (x3<(p2.keys.length:Int))) (al (at? p2.keys x3) fun e2=>aj ((e2.length:Int) != (p2.ids.length:Int)) (some 1) (rq (iV p2 p3 z1 k1) p2 p3 z1 x3 e2 aH 0)) (H0)
def ry(p2:cz)(p3:Bool)(z1:List ae)(x2:Bool):OI:=aj x2 (some 9) (al (sk p2.ids) fun r3=>aj (!r3) (some 1) (aj (decide (200<(p2.keys.length:Int))) (some 7) (aj ((p2.keys.length:Int)==0) (some 9) (iV p2 p3 z1 aH 0))))
def xr(p1:ay)(p2:cz)(p3 x1:Bool):OI:=aj x1 (some 3) (al (at? p1.schemas p2.schema) fun e1=>aj ((p2.ids.length:Int)==0) (ry p2 p3 e1 true) (al (cH p2.ids e1) fun r2=>ry p2 p3 r2.2 r2.1))
def GA(p1:ay)(p2:cz)(p3:Bool):OI:=al (dF p2.schema 0 (i64.wrap ((p1.schemas.length:Int)-1))) fun r1=>aj (!r1) (xr p1 p2 p3 true) (xr p1 p2 p3 (decide (p2.seq<1)))
abbrev HE(p2:cz):List PV:=[pi p2.schema,.ro (eI.els p2.ids),.ro ((eL ak).els p2.keys),pi p2.seq]
theorem QI(p1:ay)(p2:cz)(p3:Bool):CT prog 159 [mM p1,mD p2,vb p3] (GA p1 p2 p3) vi:=
  cu 117 [7,12,13] f159 fun r=>(co f159 12 2 fun K k=>have J1:∀{x1},xr p1 p2 p3 x1=some r→K.p [(2,vb p3),(3,vR [.ro ((eL af).els p1.schemas),.ro (fk.els p1.specs),pi p1.nextField,pi p1.nextSeq,pi p1.nextSnap,pi p1.purges,.ro (aT.els p1.snapshots),.ro (nT.els p1.refs),.ro (ku.els p1.props)]),(4,vR (HE p2)),(28,vb x1)] []:=fun{x1} h=>k h (uC uz (dL (eL af) fun e1=>(co f159 248 3 fun K k=>have J2:∀{z1 x2},ry p2 p3 z1 x2=some r→K.p [(2,vb p3),(4,vR (HE p2)),(7,vQ 0),(36,vb x2)] [.box [cl af z1]]:=fun{z1 x2} h=>k h (uC uz (aS (zt _) fun r3=>(uC uz (uN (eL ak) p2.keys (uC uz (uN (eL ak) p2.keys (uC uz (kd f159 126 1 H0 [] [.dead] uz fun K J5=>(uN (eL ak) p2.keys (fJ f159 506 1 fun R b=>have L1:∀k1 {x3},iV p2 p3 z1 k1 x3=some r→(R k1).p [(2,vb p3),(4,vR (HE p2)),(7,vQ 0),(63,vl (eL ak) p2.keys),(64,vi p2.keys.length),(65,vi x3)] [.box [cl af z1]]:=uI (fD rfl) fun k1 i1 {x3} h=>b h (uU (iV.eq_2 ..) (uC (dL (eL ak) fun e2=>(uN ak e2 (uN eI p2.ids (uC jh (kd f159 129638 3 (Au (iV p2 p3 z1 k1) p2 p3 x3 e2) [(2,vb p3),(4,vR (HE p2)),(7,vQ 0),(9,vi x3),(10,vl ak e2),(63,vl (eL ak) p2.keys),(64,vi p2.keys.length),(65,vi x3)] [.box [cl af z1]] (co f159 259278 3 fun K k=>have J4:∀{x5},xy (iV p2 p3 z1 k1) x3 x5=some r→K.p [(2,vb p3),(4,vR (HE p2)),(7,vQ 0),(63,vl (eL ak) p2.keys),(64,vi p2.keys.length),(65,vi x3),(115,vb x5)] [.box [cl af z1]]:=fun{x5} h=>k h (uC jh (uJ i1));(uC (uC (dL (eL ak) fun e5=>(aS (Eh _ _) fun r6=>(uJ J4))) (uJ J4)) (uJ J4))) fun K J3=>(uN ak e2 (fJ f159 518554 1 fun R b=>have L2:∀k2 {x4},rq (iV p2 p3 z1 k1) p2 p3 z1 x3 e2 k2 x4=some r→(R k2).p [(2,vb p3),(4,vR (HE p2)),(7,vQ 0),(9,vi x3),(10,vl ak e2),(63,vl (eL ak) p2.keys),(64,vi p2.keys.length),(65,vi x3),(76,vl ak e2),(77,vi e2.length),(78,vi x4)] [.box [cl af z1]]:=uI (fD rfl) fun k2 i2 {x4} h=>b h (uU (rq.eq_2 ..) (uC (dL ak fun e3=>(Im 12 1 [2,3] (dL eI fun e4=>(aS (pR _ _) fun r4=>(aS (qd _ _) fun r5=>(uC (uR .ret (xN (xN (xN (xN xF))))) (uJ i2))))))) (uR (.exit 3) (xM (uJ J3)))));uE (L2 aH)))))))) (uR (.exit 1) (xM (uJ J5)))));uE (L1 aH)))))))))));(uN eI p2.ids (uC (uJ J2) (EG true [0] (oN _ _) fun r2 _=>(uJ J2)))))));(uN (eL af) p1.schemas (aS (dy _ _ _) fun r1=>(uC (uJ J1) (uJ J1)))))
def xR(p1:ai)(p2:Int)(p3:List Int)(p4:List (List ac))(p5:Int):OB:=some (decide (p1.seq<p5))
theorem F9(p1:ai)(p2:Int)(p3:List Int)(p4:List (List ac))(p5:Int):CT prog 210 [mF p1,vR [pi p2,.ro (eI.els p3),.ro ((eL ak).els p4),pi p5]] (xR p1 p2 p3 p4 p5) vb:=
  cu 9 [] f210 fun r=>uz
def eo:OI:=some (-1)
def aX(p1:List ai)(p2:Int)(p3:List Int)(p4:List (List ac))(p5:Int):Nat→Int→OI
 |0,_=>none
 |k1+1,x1=>aj (decide (x1<(p1.length:Int))) (al (at? p1 x1) fun e1=>al (xR e1 p2 p3 p4 p5) fun r1=>aj r1 (some x1) ((aX p1 p2 p3 p4 p5 k1) (i64.wrap (x1+1)))) (eo)
def cO(p1:List ai)(p2:Int)(p3:List Int)(p4:List (List ac))(p5:Int):OI:=aX p1 p2 p3 p4 p5 aH 0
theorem jI(p1:List ai)(p2:Int)(p3:List Int)(p4:List (List ac))(p5:Int):CT prog 244 [vl aU p1,.one (.fn 210 [.pv (.rp [[pi p2,.ro (eI.els p3),.ro ((eL ak).els p4),pi p5]] 0 0)])] (cO p1 p2 p3 p4 p5) vi:=
  cu 19 [] f244 fun r=>(kd f244 6 1 eo [] [] uz fun K J1=>(uN aU p1 (fJ f244 26 1 fun R b=>have L1:∀k1 {x1},aX p1 p2 p3 p4 p5 k1 x1=some r→(R k1).p [(0,vl aU p1),(1,.one (.fn 210 [.pv (.rp [[pi p2,.ro (eI.els p3),.ro ((eL ak).els p4),pi p5]] 0 0)])),(7,vi p1.length),(8,vi x1)] []:=uI (fD rfl) fun k1 i1 {x1} h=>b h (uU (aX.eq_2 ..) (uC (dL aU fun e1=>(aS (F9 _ _ _ _ _) fun r1=>(uC jh (uJ i1)))) (uR (.exit 0) (xM (uJ J1)))));uE (L1 aH))))
def cA(p1:List ai)(p2:Int)(p3:List Int)(p4:List (List ac))(p5:Int):OB:=al (cO p1 p2 p3 p4 p5) fun r1=>some (decide (0≤r1))
theorem jb(p1:List ai)(p2:Int)(p3:List Int)(p4:List (List ac))(p5:Int):CT prog 209 [vl aU p1,.one (.fn 210 [.pv (.rp [[pi p2,.ro (eI.els p3),.ro ((eL ak).els p4),pi p5]] 0 0)])] (cA p1 p2 p3 p4 p5) vb:=
  cu 9 [] f209 fun r=>(aS (jI _ _ _ _ _) fun r1=>uz)
def xH(p1:List ai)(p2:cz):OB:=al (cA p1 p2.schema p2.ids p2.keys p2.seq) fun r1=>some r1
theorem Eo(p1:List ai)(p2:cz):CT prog 160 [vl aU p1,mD p2] (xH p1 p2) vb:=
  cu 8 [] f160 fun r=>(aS (jb _ _ _ _ _) fun r1=>uz)
def rP(rec1:Int→OI)(x1:Int)(x3:Bool):OI:=aj x3 (some 3) (rec1 (i64.wrap (x1+1)))
def oK(rec1:Int→OI)(x1:Int)(e1:lj)(r1:(ai×Bool))(x2:Bool):OI:=aj x2 (some 1) (al (at? e1.rows 0) fun e3=>aj (decide (e3<0)) (rP rec1 x1 true) (al (at? e1.rows (i64.wrap ((e1.rows.length:Int)-1))) fun e4=>rP rec1 x1 (decide (r1.1.rows≤e4))))
def oA(rec2:Int→OI)(x4:Int)(x5:Bool):OI:=aj x5 (some 1) (rec2 (i64.wrap (x4+1)))
def Bm:OI:=some 0
def fK(p1:ay)(p2:ar):Nat→Int→OI
 |0,_=>none
 |k2+1,x4=>aj (decide (x4<(p2.dby.length:Int))) (al (at? p2.dby x4) fun e5=>al (GA p1 e5 true) fun r4=>aj (r4 != 0) (some r4) (aj (decide (p2.seq<e5.seq)) (some 3) (aj (decide (0<x4)) (al (at? p2.dby (i64.wrap (x4-1))) fun e6=>aj (decide (e5.seq<e6.seq)) (oA (fK p1 p2 k2) x4 true) (al (xH p2.files e5) fun r5=>oA (fK p1 p2 k2) x4 (!r5))) (al (xH p2.files e5) fun r6=>oA (fK p1 p2 k2) x4 (!r6))))) (Bm)
def oM(p1:ay)(p2:ar):OI:=fK p1 p2 aH 0
def dh(p1:ay)(p2:ar):Nat→Int→OI
 |0,_=>none
 |k1+1,x1=>aj (decide (x1<(p2.dat.length:Int))) (al (at? p2.dat x1) fun e1=>al (BY p2 e1.file) fun r1=>aj (!r1.2) (some 9) (aj (decide (0<x1)) (al (at? p2.dat (i64.wrap (x1-1))) fun e2=>al (some (Op.bytesLess e1.file.toList e2.file.toList||e1.file.toList==e2.file.toList)) fun y1=>aj y1 (oK (dh p1 p2 k1) x1 e1 r1 true) (al (sk e1.rows) fun r2=>oK (dh p1 p2 k1) x1 e1 r1 (!r2))) (al (sk e1.rows) fun r3=>oK (dh p1 p2 k1) x1 e1 r1 (!r3)))) (oM p1 p2)
def sT(p1:ay)(p2:ar):OI:=dh p1 p2 aH 0
theorem Iv(p1:ay)(p2:ar):CT prog 108 [mM p1,mS p2] (sT p1 p2) vi:=
  cu 114 [6,7,10] f108 fun r=>(kd f108 6 1 (oM p1 p2) [(2,vR (bB p1)),(3,vR (oB p2))] [] (kd f108 14 1 Bm [] [] uz fun K J5=>(uN dT p2.dby (fJ f108 58 1 fun R b=>have L2:∀k2 {x4},fK p1 p2 k2 x4=some r→(R k2).p [(2,vR (bB p1)),(3,vR (oB p2)),(72,vl dT p2.dby),(73,vi p2.dby.length),(74,vi x4)] []:=uI (fD rfl) fun k2 i2 {x4} h=>b h (uU (fK.eq_2 ..) (uC (dL dT fun e5=>(aS (QI _ _ _) fun r4=>(uC jh (uC jh (co f108 119606 4 fun K k=>have J4:∀{x5},oA (fK p1 p2 k2) x4 x5=some r→K.p [(2,vR (bB p1)),(3,vR (oB p2)),(72,vl dT p2.dby),(73,vi p2.dby.length),(74,vi x4),(91,vb x5)] [.dead]:=fun{x5} h=>k h (uC jh (uJ i2));(mZ 18 (uC (dL dT fun e6=>(uC (uJ J4) (aS (Eo _ _) fun r5=>(uJ J4)))) (aS (Eo _ _) fun r6=>(uJ J4))))))))) (uR (.exit 3) (xM (uJ J5)))));uE (L2 aH)))) fun K J3=>(uN dj p2.dat (fJ f108 26 1 fun R b=>have L1:∀k1 {x1},dh p1 p2 k1 x1=some r→(R k1).p [(2,vR (bB p1)),(3,vR (oB p2)),(13,vl dj p2.dat),(14,vi p2.dat.length),(15,vi x1)] []:=uI (fD rfl) fun k1 i1 {x1} h=>b h (uU (dh.eq_2 ..) (uC (dL dj fun e1=>(aS (Md _ _) fun r1=>(uC jh (co f108 54070 4 fun K k=>have J1:∀{x2},oK (dh p1 p2 k1) x1 e1 r1 x2=some r→K.p [(2,vR (bB p1)),(3,vR (oB p2)),(6,vQ 0),(7,vQ 1),(13,vl dj p2.dat),(14,vi p2.dat.length),(15,vi x1),(30,vb x2)] [.box [rX e1.file,cl eI e1.rows],.box [rX r1.1.name,ci r1.1.schema,ci r1.1.spec,cl ak r1.1.part,ci r1.1.rows,ci r1.1.seq,cl bD r1.1.stats]]:=fun{x2} h=>k h (uC jh (co f108 216286 4 fun K k=>have J2:∀{x3},rP (dh p1 p2 k1) x1 x3=some r→K.p [(2,vR (bB p1)),(3,vR (oB p2)),(13,vl dj p2.dat),(14,vi p2.dat.length),(15,vi x1),(51,vb x3)] [.dead,.dead]:=fun{x3} h=>k h (uC jh (uJ i1));(mZ 16 (dL eI fun e3=>(uC (uJ J2) (uN eI e1.rows (dL eI fun e4=>(uJ J2))))))));(mZ 12 (uC (dL dj fun e2=>(uY 43 vb fun y1=>(uC (uJ J1) (aS (zt _) fun r2=>(uJ J1))))) (aS (zt _) fun r3=>(uJ J1)))))))) (uR (.exit 0) (xM (uJ J3)))));uE (L1 aH))))
def mJ(rec1:Int→OI)(p1:ay)(x1:Int)(e1:ar)(x5:Bool):OI:=aj x5 (some 5) (al (xx p1 e1) fun r7=>aj (r7 != 0) (some r7) (al (sT p1 e1) fun r8=>aj (r8 != 0) (some r8) (rec1 (i64.wrap (x1+1)))))
def iS(rec1:Int→OI)(p1:ay)(x1:Int)(e1:ar)(x4:Bool):OI:=aj x4 (some 3) (aj (decide (0<x1)) (al (at? p1.snapshots (i64.wrap (x1-1))) fun e2=>aj (decide (e1.id≤e2.id)) (mJ rec1 p1 x1 e1 true) (mJ rec1 p1 x1 e1 (decide (e1.seq≤e2.seq)))) (mJ rec1 p1 x1 e1 false))
def pA(rec1:Int→OI)(p1:ay)(x1:Int)(e1:ar)(x3:Bool):OI:=aj x3 (iS rec1 p1 x1 e1 x3) (al (dF e1.kind 1 3) fun r6=>iS rec1 p1 x1 e1 (!r6))
def ko(rec1:Int→OI)(p1:ay)(x1:Int)(e1:ar)(x2:Bool):OI:=aj x2 (iS rec1 p1 x1 e1 x2) (al (dF e1.schema 0 (i64.wrap ((p1.schemas.length:Int)-1))) fun r4=>aj (!r4) (pA rec1 p1 x1 e1 true) (al (dF e1.time (-62135596800) 253402300799) fun r5=>pA rec1 p1 x1 e1 (!r5)))
def zK:OI:=some 0
def bR(p1:ay):Nat→Int→OI
 |0,_=>none
 |k1+1,x1=>aj (decide (x1<(p1.snapshots.length:Int))) (al (at? p1.snapshots x1) fun e1=>al (dF e1.id 1 (i64.wrap (p1.nextSnap-1))) fun r1=>aj (!r1) (ko (bR p1 k1) p1 x1 e1 true) (al (dF e1.parent 0 (i64.wrap (e1.id-1))) fun r2=>aj (!r2) (ko (bR p1 k1) p1 x1 e1 true) (al (dF e1.seq 1 (i64.wrap (p1.nextSeq-1))) fun r3=>ko (bR p1 k1) p1 x1 e1 (!r3)))) (zK)
def tL(p1:ay):OI:=bR p1 aH 0
abbrev Bc(e1:ar):List CV:=[ci e1.id,ci e1.parent,ci e1.seq,ci e1.schema,ci e1.time,ci e1.kind,cl aU e1.files,cl dj e1.dat,cl dT e1.dby]
theorem GP(p1:ay):CT prog 55 [mM p1] (tL p1) vi:=
  cu 99 [4] f55 fun r=>(kd f55 6 1 zK [] [] uz fun K J5=>(uN aT p1.snapshots (fJ f55 26 1 fun R b=>have L1:∀k1 {x1},bR p1 k1 x1=some r→(R k1).p [(1,vR (bB p1)),(8,vl aT p1.snapshots),(9,vi p1.snapshots.length),(10,vi x1)] []:=uI (fD rfl) fun k1 i1 {x1} h=>b h (uU (bR.eq_2 ..) (uC (dL aT fun e1=>(co f55 13512 5 fun K k=>have J3:∀{x4},iS (bR p1 k1) p1 x1 e1 x4=some r→K.p [(1,vR (bB p1)),(3,vi x1),(4,vQ 0),(8,vl aT p1.snapshots),(9,vi p1.snapshots.length),(10,vi x1),(15,vb x4)] [.box (Bc e1)]:=fun{x4} h=>k h (uC jh (co f55 54054 5 fun K k=>have J4:∀{x5},mJ (bR p1 k1) p1 x1 e1 x5=some r→K.p [(1,vR (bB p1)),(4,vQ 0),(8,vl aT p1.snapshots),(9,vi p1.snapshots.length),(10,vi x1),(59,vb x5)] [.box (Bc e1)]:=fun{x5} h=>k h (uC jh (aS (KR _ _) fun r7=>(uC jh (aS (Iv _ _) fun r8=>(uC jh (uJ i1))))));(mZ 23 (uC (uL aT fun e2 a29=>(uC (uJ J4) (uM aT a29 (uJ J4)))) (uJ J4)))));(co f55 27024 1 fun K k=>have J1:∀{x2},ko (bR p1 k1) p1 x1 e1 x2=some r→K.p [(1,vR (bB p1)),(3,vi x1),(4,vQ 0),(8,vl aT p1.snapshots),(9,vi p1.snapshots.length),(10,vi x1),(15,vb x2)] [.box (Bc e1)]:=fun{x2} h=>k h (uC (uJ J3) (co f55 108102 1 fun K k=>have J2:∀{x3},pA (bR p1 k1) p1 x1 e1 x3=some r→K.p [(1,vR (bB p1)),(3,vi x1),(4,vQ 0),(8,vl aT p1.snapshots),(9,vi p1.snapshots.length),(10,vi x1),(15,vb x3)] [.box (Bc e1)]:=fun{x3} h=>k h (uC (uJ J3) (aS (dy _ _ _) fun r6=>(uJ J3)));(uN (eL af) p1.schemas (aS (dy _ _ _) fun r4=>(uC (uJ J2) (aS (dy _ _ _) fun r5=>(uJ J2)))))));(aS (dy _ _ _) fun r1=>(uC (uJ J1) (aS (dy _ _ _) fun r2=>(uC (uJ J1) (aS (dy _ _ _) fun r3=>(uJ J1))))))))) (uR (.exit 0) (xM (uJ J5)))));uE (L1 aH))))
def mh(p1 p2:ac):OB:=al (dm aH p1 p2) fun r1=>some (r1==0)
theorem tR(p1 p2:ac):CT prog 161 [mV p1,mV p2] (mh p1 p2) vb:=
  cu 9 [] f161 fun r=>(aS (lB aH _ _) fun r1=>uz)
def cK:OB:=some true
def aE(p1 p2:List ac):Nat→Int→OB
 |0,_=>none
 |k1+1,x1=>aj (decide (x1<(p1.length:Int))) (al (at? p1 x1) fun e1=>al (at? p2 x1) fun e2=>al (mh e1 e2) fun r1=>aj (!r1) (some false) ((aE p1 p2 k1) (i64.wrap (x1+1)))) (cK)
def bk(p1 p2:List ac):OB:=aj ((p1.length:Int) != (p2.length:Int)) (some false) (aE p1 p2 aH 0)
theorem fU(p1 p2:List ac):CT prog 162 [vl ak p1,vl ak p2,.one (.pv (.fn 161 []))] (bk p1 p2) vb:=
  cu 32 [8,9] f162 fun r=>(uN ak p1 (uN ak p2 (uC uz (kd f162 14 1 cK [] [] uz fun K J1=>(uN ak p1 (fJ f162 58 1 fun R b=>have L1:∀k1 {x1},aE p1 p2 k1 x1=some r→(R k1).p [(1,vl ak p2),(2,.one (.pv (.fn 161 []))),(15,vl ak p1),(16,vi p1.length),(17,vi x1)] []:=uI (fD rfl) fun k1 i1 {x1} h=>b h (uU (aE.eq_2 ..) (uC (dL ak fun e1=>(dL ak fun e2=>(aS (tR _ _) fun r1=>(uC jh (uJ i1))))) (uR (.exit 0) (xM (uJ J1)))));uE (L1 aH)))))))
def jG(x1:Bool):Option (Bool×Unit):=some (x1,())
def sd(p1 p2:cc):Option (Bool×Unit):=aj (p1.id==p2.id) (aj (p1.nulls==p2.nulls) (al (mh p1.min p2.min) fun r1=>aj r1 (al (mh p1.max p2.max) fun r2=>jG r2) (jG false)) (jG false)) (jG false)
theorem E2(p1 p2:cc):CM prog 164 [mA p1,mA p2,vQ 0] [.box [.pv (.fn 161 [])]] (sd p1 p2) (fun r=>vb r.1) (fun r=>[.box [.pv (.fn 161 [])]]):=
  ww 1 34 [] f164 fun r=>(co f164 6 1 fun K k=>have J1:∀{x1},jG x1=some r→K.p [(5,vb x1)] [.box [.pv (.fn 161 [])]]:=fun{x1} h=>k h (uR .ret sE);(uC (uC (aS (tR _ _) fun r1=>(uC (aS (tR _ _) fun r2=>(uJ J1)) (uJ J1))) (uJ J1)) (uJ J1)))
def bO:Option (Bool×Unit):=some (true,())
def aw(p1 p2:List cc):Nat→Int→Option (Bool×Unit)
 |0,_=>none
 |k1+1,x1=>aj (decide (x1<(p1.length:Int))) (al (at? p1 x1) fun e1=>al (at? p2 x1) fun e2=>al (sd e1 e2) fun r1=>aj (!r1.1) (some (false,())) ((aw p1 p2 k1) (i64.wrap (x1+1)))) (bO)
def a6(p1 p2:List cc):Option (Bool×Unit):=aj ((p1.length:Int) != (p2.length:Int)) (some (false,())) (aw p1 p2 aH 0)
abbrev Ml:St:=[.box [.pv (.fn 161 [])]]
theorem dM(p1 p2:List cc):CM prog 163 [vl bD p1,vl bD p2,.one (.fn 164 [.pt 0 0 0 0])] Ml (a6 p1 p2) (fun r=>vb r.1) (fun r=>Ml):=
  ww 1 32 [8,9] f163 fun r=>(uN bD p1 (uN bD p2 (uC (uR .ret sE) (kd f163 14 1 bO [] Ml (uR .ret sE) fun K J1=>(uN bD p1 (fJ f163 58 1 fun R b=>have L1:∀k1 {x1},aw p1 p2 k1 x1=some r→(R k1).p [(1,vl bD p2),(2,.one (.fn 164 [.pt 0 0 0 0])),(15,vl bD p1),(16,vi p1.length),(17,vi x1)] Ml:=uI (fD rfl) fun k1 i1 {x1} h=>b h (uU (aw.eq_2 ..) (uC (dL bD fun e1=>(dL bD fun e2=>(EG true [0] (E2 _ _) fun r1 _=>(uC (uR .ret (xN (xN sE))) (uJ i1))))) (uR (.exit 0) (xM (uJ J1)))));uE (L1 aH)))))))
def hJ(x1:Bool):OB:=some x1
def q9(p1 p2:ai):OB:=aj (p1.name.toList==p2.name.toList) (aj (p1.schema==p2.schema) (aj (p1.spec==p2.spec) (aj (p1.rows==p2.rows) (al (bk p1.part p2.part) fun r1=>aj r1 (al (a6 p1.stats p2.stats) fun r2=>hJ r2.1) (hJ false)) (hJ false)) (hJ false)) (hJ false)) (hJ false)
theorem Hn(p1 p2:ai):CT prog 109 [mF p1,mF p2] (q9 p1 p2) vb:=
  cu 48 [5] f109 fun r=>(co f109 14 1 fun K k=>have J1:∀{x1},hJ x1=some r→K.p [(4,vb x1)] [.dead]:=fun{x1} h=>k h uz;(uC (uC (uC (uC (aS (fU _ _) fun r1=>(uC (EG true [0] (dM _ _) fun r2 _=>(uJ J1)) (uJ J1))) (uJ J1)) (uJ J1)) (uJ J1)) (uJ J1)))
def u9(rec2:(List (ByteArray×ai))→Int→OI)(z2:List (ByteArray×ai))(x2:Int)(e2:ai)(x4:Bool):OI:=aj x4 (some 5) (rec2 (kT zg z2 e2.name e2) (i64.wrap (x2+1)))
def zV(rec1:(List (ByteArray×ai))→Int→OI)(x1:Int)(z3:List (ByteArray×ai)):OI:=rec1 z3 (i64.wrap (x1+1))
def gq(rec1:(List (ByteArray×ai))→Int→OI)(x1:Int)(e1:ar):Nat→(List (ByteArray×ai))→Int→OI
 |0,_,_=>none
 |k2+1,z2,x2=>aj (decide (x2<(e1.files.length:Int))) (al (at? e1.files x2) fun e2=>al (some ((jB zg z2 e2.name).getD (ai.mk ByteArray.empty 0 0 [] 0 0 []))) fun x3=>aj ((jB zg z2 e2.name).isSome) (al (q9 x3 e2) fun r1=>u9 (gq rec1 x1 e1 k2) z2 x2 e2 (!r1)) (u9 (gq rec1 x1 e1 k2) z2 x2 e2 false)) (zV rec1 x1 z2)
def Df:OI:=some 0
def eY(p1:ay):Nat→(List (ByteArray×ai))→Int→OI
 |0,_,_=>none
 |k1+1,z1,x1=>aj (decide (x1<(p1.snapshots.length:Int))) (al (at? p1.snapshots x1) fun e1=>gq (eY p1 k1) x1 e1 aH z1 0) (Df)
def xt(p1:ay):OI:=eY p1 aH [] 0
abbrev UH(p1:ay)(x1:Int):Fr:=[(3,.one (.mp 0)),(12,vl aT p1.snapshots),(13,vi (p1.snapshots.length:Int)),(14,vi x1)]
theorem KX(p1:ay):CT prog 56 [mM p1] (xt p1) vi:=
  cu 45 [5,7,8] f56 fun r=>(uMm zg aU true (kd f56 14 1 Df [] [.dead] uz fun K J3=>(uN aT p1.snapshots (fJ f56 58 1 fun R b=>have L1:∀k1 {z1 x1},eY p1 k1 z1 x1=some r→(R k1).p (UH p1 x1) [un zg aU true z1]:=uI (fD rfl) fun k1 i1 {z1 x1} h=>b h (uU (eY.eq_2 ..) (uC (co f56 934 1 fun K k=>have J2:∀{z3},zV (eY p1 k1) x1 z3=some r→K.p (UH p1 x1) [un zg aU true z3]:=fun{z3} h=>k h (uJ i1);(dL aT fun e1=>(uN aU e1.files (fJ f56 14950 2 fun R b=>have L2:∀k2 {z2 x2},gq (eY p1 k1) x1 e1 k2 z2 x2=some r→(R k2).p [(3,.one (.mp 0)),(12,vl aT p1.snapshots),(13,vi p1.snapshots.length),(14,vi x1),(19,vl aU e1.files),(20,vi e1.files.length),(21,vi x2)] [un zg aU true z2,.dead]:=uI (fD rfl) fun k2 i2 {z2 x2} h=>b h (uU (gq.eq_2 ..) (uC (dL aU fun e2=>(uMl zg aU true 0 (ai.mk ByteArray.empty (0:Int) (0:Int) [] (0:Int) (0:Int) []) 9 32 true fun x3 _=>(co f56 7654604 4 fun K k=>have J1:∀{x4},u9 (gq (eY p1 k1) x1 e1 k2) z2 x2 e2 x4=some r→K.p [(3,.one (.mp 0)),(7,vQ 2),(12,vl aT p1.snapshots),(13,vi p1.snapshots.length),(14,vi x1),(19,vl aU e1.files),(20,vi e1.files.length),(21,vi x2),(38,vb x4)] [un zg aU true z2,.dead,.box [rX e2.name,ci e2.schema,ci e2.spec,cl ak e2.part,ci e2.rows,ci e2.seq,cl bD e2.stats],.dead]:=fun{x4} h=>k h (uC (uR .ret (xN (xN (xN (xN xF))))) (uMu zg aU true 0 (m:=z2) (k0:=e2.name) (u:=e2) 9 (uJ i2)));(uC (aS (Hn _ _) fun r1=>(uJ J1)) (uJ J1))))) (uR (.exit 2) (xM (uJ J2)))));uE (L2 aH))))) (uR (.exit 0) (xM (uJ J3)))));uE (L1 aH)))))
def Cc(p1 p2:kV):Option (Bool×kV):=some ((p1.name.toList==p2.name.toList),p2)
theorem IX(p1 p2:kV):CM prog 112 [.ag [rX p1.name,cb p1.branch,ci p1.snapshot],vQ 0] [.box [rX p2.name,cb p2.branch,ci p2.snapshot]] (Cc p1 p2) (fun r=>vb r.1) (fun r=>[.box [rX r.2.name,cb r.2.branch,ci r.2.snapshot]]):=
  ww 1 9 [] f112 fun r=>(uR .ret sE)
def gj(z4:ByteArray)(z5:Bool)(z6:Int):Option (Int×kV):=some ((-1),(kV.mk z4 z5 z6))
def a8(p1:List kV):Nat→ByteArray→Bool→Int→Int→Option (Int×kV)
 |0,_,_,_,_=>none
 |k1+1,z1,z2,z3,x1=>aj (decide (x1<(p1.length:Int))) (al (at? p1 x1) fun e1=>al (Cc e1 (kV.mk z1 z2 z3)) fun r1=>aj r1.1 (some (x1,r1.2)) ((a8 p1 k1) r1.2.name r1.2.branch r1.2.snapshot (i64.wrap (x1+1)))) (gj z1 z2 z3)
def ef(p1:List kV)(p2:kV):Option (Int×kV):=a8 p1 aH p2.name p2.branch p2.snapshot 0
theorem mm(p1:List kV)(p2:kV):CM prog 166 [vl nT p1,.one (.fn 112 [.pt 0 0 0 0])] [.box [rX p2.name,cb p2.branch,ci p2.snapshot]] (ef p1 p2) (fun r=>vi r.1) (fun r=>[.box [rX r.2.name,cb r.2.branch,ci r.2.snapshot]]):=
  ww 1 19 [] f166 fun r=>(co f166 6 1 fun K k=>have J1:∀{z4 z5 z6},gj z4 z5 z6=some r→K.p [] [.box [rX z4,cb z5,ci z6]]:=fun{z4 z5 z6} h=>k h (uR .ret sE);(uN nT p1 (fJ f166 26 1 fun R b=>have L1:∀k1 {z1 z2 z3 x1},a8 p1 k1 z1 z2 z3 x1=some r→(R k1).p [(0,vl nT p1),(1,.one (.fn 112 [.pt 0 0 0 0])),(7,vi p1.length),(8,vi x1)] [.box [rX z1,cb z2,ci z3]]:=uI (fD rfl) fun k1 i1 {z1 z2 z3 x1} h=>b h (uU (a8.eq_2 ..) (uC (dL nT fun e1=>(EG true [0] (IX _ _) fun r1 _=>(uC (uR .ret (xN (xN sE))) (uJ i1)))) (uR (.exit 0) (xM (uJ J1)))));uE (L1 aH))))
def cy(p1:List kV)(p2:kV):Option (Bool×kV):=al (ef p1 p2) fun r1=>some ((decide (0≤r1.1)),r1.2)
theorem lJ(p1:List kV)(p2:kV):CM prog 111 [vl nT p1,.one (.fn 112 [.pt 0 0 0 0])] [.box [rX p2.name,cb p2.branch,ci p2.snapshot]] (cy p1 p2) (fun r=>vb r.1) (fun r=>[.box [rX r.2.name,cb r.2.branch,ci r.2.snapshot]]):=
  ww 1 9 [] f111 fun r=>(EG true [0] (mm _ _) fun r1 _=>(uR .ret sE))
def ph(p1:ar)(p2:Int):OB:=some (p1.id==p2)
theorem C9(p1:ar)(p2:Int):CT prog 82 [mS p1,vR [pi p2]] (ph p1 p2) vb:=
  cu 8 [] f82 fun r=>uz
def dU:OI:=some (-1)
def aq(p1:List ar)(p2:Int):Nat→Int→OI
 |0,_=>none
 |k1+1,x1=>aj (decide (x1<(p1.length:Int))) (al (at? p1 x1) fun e1=>al (ph e1 p2) fun r1=>aj r1 (some x1) ((aq p1 p2 k1) (i64.wrap (x1+1)))) (dU)
def bL(p1:List ar)(p2:Int):OI:=aq p1 p2 aH 0
theorem jc(p1:List ar)(p2:Int):CT prog 81 [vl aT p1,.one (.fn 82 [.pv (.rp [[pi p2]] 0 0)])] (bL p1 p2) vi:=
  cu 19 [] f81 fun r=>(kd f81 6 1 dU [] [] uz fun K J1=>(uN aT p1 (fJ f81 26 1 fun R b=>have L1:∀k1 {x1},aq p1 p2 k1 x1=some r→(R k1).p [(0,vl aT p1),(1,.one (.fn 82 [.pv (.rp [[pi p2]] 0 0)])),(7,vi p1.length),(8,vi x1)] []:=uI (fD rfl) fun k1 i1 {x1} h=>b h (uU (aq.eq_2 ..) (uC (dL aT fun e1=>(aS (C9 _ _) fun r1=>(uC jh (uJ i1)))) (uR (.exit 0) (xM (uJ J1)))));uE (L1 aH))))
def kI(p1:ay)(p2:Int):Option (ar×Bool):=al (bL p1.snapshots p2) fun r1=>aj (decide (r1<0)) (some ((ar.mk 0 0 0 0 0 0 [] [] []),false)) (al (at? p1.snapshots r1) fun e1=>some (e1,true))
theorem Bl(p1:ay)(p2:Int):CT prog 27 [mM p1,vi p2] (kI p1 p2) (fun r=> .tp [mS r.1,vb r.2]):=
  cu 19 [4] f27 fun r=>(aS (jc _ _) fun r1=>(uC uz (dL aT fun e1=>uz)))
def tu(p1:ByteArray):OB:=al (kO (ac.mk 4 0 0 p1 [])) fun r1=>some r1
theorem Ax(p1:ByteArray):CT prog 113 [vs p1] (tu p1) vb:=
  cu 6 [] f113 fun r=>(aS (n6 _) fun r1=>uz)
end Go.Proofs.YtpiohnabdhpphaaGreatDoor
namespace Go.Proofs.YtpiohnabdhpphaaGreatDoor
open Go.SX Go Tryz
open Go.IntKind (i64)
set_option maxRecDepth 100000
set_option maxHeartbeats 8000000
def tj(rec1:Int→OI)(x1:Int)(x2:Bool):OI:=aj x2 (some 9) (rec1 (i64.wrap (x1+1)))
def sW(rec2:Int→OI)(x3:Int)(x4:Bool):OI:=aj x4 (some 1) (rec2 (i64.wrap (x3+1)))
def ED:OI:=some 0
def jo(p1:ay):Nat→Int→OI
 |0,_=>none
 |k2+1,x3=>aj (decide (x3<(p1.props.length:Int))) (al (at? p1.props x3) fun e2=>al (wG e2.name) fun r4=>aj (!r4) (some 4) (aj (decide (0<x3)) (al (at? p1.props (i64.wrap (x3-1))) fun e3=>al (some (Op.bytesLess e2.name.toList e3.name.toList||e2.name.toList==e3.name.toList)) fun y1=>aj y1 (sW (jo p1 k2) x3 true) (al (tu e2.value) fun r5=>sW (jo p1 k2) x3 (!r5))) (al (tu e2.value) fun r6=>sW (jo p1 k2) x3 (!r6)))) (ED)
def wW(p1:ay):OI:=jo p1 aH 0
def jm(p1:ay):Nat→Int→OI
 |0,_=>none
 |k1+1,x1=>aj (decide (x1<(p1.refs.length:Int))) (al (at? p1.refs x1) fun e1=>al (wG e1.name) fun r1=>aj (!r1) (some (4:Int)) (gX (0≤(0:Int)∧(0:Int)≤x1∧x1≤(p1.refs.length:Int))<|al (cy ((p1.refs.drop (0:Int).toNat).take (x1.toNat-(0:Int).toNat)) e1) fun r2=>aj r2.1 (some (5:Int)) (al (kI p1 r2.2.snapshot) fun r3=>aj (!r3.2) (aj r2.2.branch (tj (jm p1 k1) x1 (!(r2.2.snapshot==0))) (tj (jm p1 k1) x1 true)) (tj (jm p1 k1) x1 false)))) (wW p1)
def Cp(p1:ay):OI:=jm p1 aH 0
theorem MM(p1:ay):CT prog 57 [mM p1] (Cp p1) vi:=
  cu 80 [4,5,8] f57 fun r=>(kd f57 6 1 (wW p1) [(1,vR (bB p1))] [] (kd f57 14 1 ED [] [] uz fun K J4=>(uN ku p1.props (fJ f57 58 1 fun R b=>have L2:∀k2 {x3},jo p1 k2 x3=some r→(R k2).p [(1,vR (bB p1)),(48,vl ku p1.props),(49,vi p1.props.length),(50,vi x3)] []:=uI (fD rfl) fun k2 i2 {x3} h=>b h (uU (jo.eq_2 ..) (uC (dL ku fun e2=>(aS (Cm _) fun r4=>(uC jh (co f57 14950 3 fun K k=>have J3:∀{x4},sW (jo p1 k2) x3 x4=some r→K.p [(1,vR (bB p1)),(48,vl ku p1.props),(49,vi p1.props.length),(50,vi x3),(78,vb x4)] [.dead]:=fun{x4} h=>k h (uC jh (uJ i2));(mZ 12 (uC (dL ku fun e3=>(uY 71 vb fun y1=>(uC (uJ J3) (aS (Ax _) fun r5=>(uJ J3))))) (aS (Ax _) fun r6=>(uJ J3)))))))) (uR (.exit 2) (xM (uJ J4)))));uE (L2 aH)))) fun K J2=>(uN nT p1.refs (fJ f57 26 1 fun R b=>have L1:∀k1 {x1},jm p1 k1 x1=some r→(R k1).p [(1,vR (bB p1)),(10,vl nT p1.refs),(11,vi p1.refs.length),(12,vi x1)] []:=uI (fD rfl) fun k1 i1 {x1} h=>b h (uU (jm.eq_2 ..) (uC (dL nT fun e1=>(aS (Cm _) fun r1=>(uC jh (uX nT (EG true [0] (lJ _ _) fun r2 _=>(uC jh (aS (Bl _ _) fun r3=>(co f57 27038 3 fun K k=>have J1:∀{x2},tj (jm p1 k1) x1 x2=some r→K.p [(1,vR (bB p1)),(10,vl nT p1.refs),(11,vi p1.refs.length),(12,vi x1),(45,vb x2)] [.dead,.dead]:=fun{x2} h=>k h (uC jh (uJ i1));(uC (uC (uJ J1) (uJ J1)) (uJ J1)))))))))) (uR (.exit 0) (xM (uJ J2)))));uE (L1 aH))))
def mE(p1:ay)(x2:Bool):OI:=aj x2 (some 3) (al (wP p1) fun r6=>aj (r6 != 0) (some r6) (al (Al p1) fun r7=>aj (r7 != 0) (some r7) (al (tL p1) fun r8=>aj (r8 != 0) (some r8) (al (xt p1) fun r9=>aj (r9 != 0) (some r9) (al (Cp p1) fun r10=>aj (r10 != 0) (some r10) (some 0))))))
def mC(p1:ay)(x1:Bool):OI:=aj x1 (some 9) (al (dF p1.nextField 1 1099511627776) fun r2=>aj (!r2) (mE p1 true) (al (dF p1.nextSeq 1 1099511627776) fun r3=>aj (!r3) (mE p1 true) (al (dF p1.nextSnap 1 1099511627776) fun r4=>aj (!r4) (mE p1 true) (al (dF p1.purges 0 1099511627776) fun r5=>mE p1 (!r5)))))
def oP(p1:ay):OI:=al (rW p1) fun r1=>aj (r1 != 0) (some r1) (aj ((p1.schemas.length:Int)==0) (mC p1 true) (mC p1 ((p1.specs.length:Int)==0)))
theorem EC(p1:ay):CT prog 17 [mM p1] (oP p1) vi:=
  cu 57 [] f17 fun r=>(aS (Ji _) fun r1=>(uC uz (co f17 28 2 fun K k=>have J1:∀{x1},mC p1 x1=some r→K.p [(1,vR (bB p1)),(21,vb x1)] []:=fun{x1} h=>k h (uC uz (co f17 60 2 fun K k=>have J2:∀{x2},mE p1 x2=some r→K.p [(1,vR (bB p1)),(43,vb x2)] []:=fun{x2} h=>k h (uC uz (uA (vi (5:Int)) (Rt 5 (uT (uM eFn (show at? [(PV.fn 53 []),(PV.fn 54 []),(PV.fn 55 []),(PV.fn 56 []),(PV.fn 57 [])] (0:Int)=some (PV.fn 53 [])from rfl) (aS (Iu _) fun r6=>(uC uz (uT (uM eFn (show at? [(PV.fn 53 []),(PV.fn 54 []),(PV.fn 55 []),(PV.fn 56 []),(PV.fn 57 [])] (1:Int)=some (PV.fn 54 [])from rfl) (aS (KQ _) fun r7=>(uC uz (uT (uM eFn (show at? [(PV.fn 53 []),(PV.fn 54 []),(PV.fn 55 []),(PV.fn 56 []),(PV.fn 57 [])] (2:Int)=some (PV.fn 55 [])from rfl) (aS (GP _) fun r8=>(uC uz (uT (uM eFn (show at? [(PV.fn 53 []),(PV.fn 54 []),(PV.fn 55 []),(PV.fn 56 []),(PV.fn 57 [])] (3:Int)=some (PV.fn 56 [])from rfl) (aS (KX _) fun r9=>(uC uz (uT (uM eFn (show at? [(PV.fn 53 []),(PV.fn 54 []),(PV.fn 55 []),(PV.fn 56 []),(PV.fn 57 [])] (4:Int)=some (PV.fn 57 [])from rfl) (aS (MM _) fun r10=>(uC uz (uF uz))))))))))))))))))))))));(aS (dy _ _ _) fun r2=>(uC (uJ J2) (aS (dy _ _ _) fun r3=>(uC (uJ J2) (aS (dy _ _ _) fun r4=>(uC (uJ J2) (aS (dy _ _ _) fun r5=>(uJ J2))))))))));(uN (eL af) p1.schemas (uC (uJ J1) (uN fk p1.specs (uJ J1)))))))
def yY:OI:=some 0
def iL(p1:List ae)(p2:List bw):Nat→Int→OI
 |0,_=>none
 |k1+1,x1=>aj (decide (x1<(p2.length:Int))) (al (at? p2 x1) fun e1=>al (l7 p1 e1.id) fun r1=>aj (!r1.2) (some 9) (al (at? [e1.low,e1.high] 0) fun e2=>al (gw r1.1 e2) fun r2=>aj (r2 != 0) (some r2) (al (at? [e1.low,e1.high] 1) fun e3=>al (gw r1.1 e3) fun r3=>aj (r3 != 0) (some r3) ((iL p1 p2 k1) (i64.wrap (x1+1)))))) (yY)
def pC(p1:List ae)(p2:List bw):OI:=aj (decide (40<(p2.length:Int))) (some 7) (iL p1 p2 aH 0)
theorem Am(p1:List ae)(p2:List bw):CT prog 20 [vl af p1,vl gS p2] (pC p1 p2) vi:=
  cu 48 [6,7,10] f20 fun r=>(uN gS p2 (uC uz (kd f20 14 1 yY [] [] uz fun K J1=>(uN gS p2 (fJ f20 58 1 fun R b=>have L1:∀k1 {x1},iL p1 p2 k1 x1=some r→(R k1).p [(0,vl af p1),(15,vl gS p2),(16,vi p2.length),(17,vi x1)] []:=uI (fD rfl) fun k1 i1 {x1} h=>b h (uU (iL.eq_2 ..) (uC (dL gS fun e1=>(aS (pR _ _) fun r1=>(uC jh (uW 34 ak [e1.low,e1.high] (uA (vi (2:Int)) (Rt 2 (uT (dL ak fun e2=>(aS (qd _ _) fun r2=>(uC jh (uT (dL ak fun e3=>(aS (qd _ _) fun r3=>(uC jh (uF (uJ i1)))))))))))))))) (uR (.exit 0) (xM (uJ J1)))));uE (L1 aH))))))
def tQ(p1:cc)(p2 p3 p4 p5:Int)(p6:ByteArray)(p7:List ac)(p8 p9 cj:Int)(p11:ByteArray)(p12:List ac):OB:=some (p1.id==p2)
theorem C0(p1:cc)(p2 p3 p4 p5:Int)(p6:ByteArray)(p7:List ac)(p8 p9 cj:Int)(p11:ByteArray)(p12:List ac):CT prog 129 [mA p1,vR [pi p2,pi p3,pi p4,pi p5,.s (.string p6),.ro (ak.els p7),pi p8,pi p9,pi cj,.s (.string p11),.ro (ak.els p12)]] (tQ p1 p2 p3 p4 p5 p6 p7 p8 p9 cj p11 p12) vb:=
  cu 9 [] f129 fun r=>uz
def eN:OI:=some (-1)
def aM(p1:List cc)(p2 p3 p4 p5:Int)(p6:ByteArray)(p7:List ac)(p8 p9 cj:Int)(p11:ByteArray)(p12:List ac):Nat→Int→OI
 |0,_=>none
 |k1+1,x1=>aj (decide (x1<(p1.length:Int))) (al (at? p1 x1) fun e1=>al (tQ e1 p2 p3 p4 p5 p6 p7 p8 p9 cj p11 p12) fun r1=>aj r1 (some x1) ((aM p1 p2 p3 p4 p5 p6 p7 p8 p9 cj p11 p12 k1) (i64.wrap (x1+1)))) (eN)
def cZ(p1:List cc)(p2 p3 p4 p5:Int)(p6:ByteArray)(p7:List ac)(p8 p9 cj:Int)(p11:ByteArray)(p12:List ac):OI:=aM p1 p2 p3 p4 p5 p6 p7 p8 p9 cj p11 p12 aH 0
theorem j7(p1:List cc)(p2 p3 p4 p5:Int)(p6:ByteArray)(p7:List ac)(p8 p9 cj:Int)(p11:ByteArray)(p12:List ac):CT prog 128 [vl bD p1,.one (.fn 129 [.pv (.rp [[pi p2,pi p3,pi p4,pi p5,.s (.string p6),.ro (ak.els p7),pi p8,pi p9,pi cj,.s (.string p11),.ro (ak.els p12)]] 0 0)])] (cZ p1 p2 p3 p4 p5 p6 p7 p8 p9 cj p11 p12) vi:=
  cu 19 [] f128 fun r=>(kd f128 6 1 eN [] [] uz fun K J1=>(uN bD p1 (fJ f128 26 1 fun R b=>have L1:∀k1 {x1},aM p1 p2 p3 p4 p5 p6 p7 p8 p9 cj p11 p12 k1 x1=some r→(R k1).p [(0,vl bD p1),(1,.one (.fn 129 [.pv (.rp [[pi p2,pi p3,pi p4,pi p5,.s (.string p6),.ro (ak.els p7),pi p8,pi p9,pi cj,.s (.string p11),.ro (ak.els p12)]] 0 0)])),(7,vi p1.length),(8,vi x1)] []:=uI (fD rfl) fun k1 i1 {x1} h=>b h (uU (aM.eq_2 ..) (uC (dL bD fun e1=>(aS (C0 _ _ _ _ _ _ _ _ _ _ _ _) fun r1=>(uC jh (uJ i1)))) (uR (.exit 0) (xM (uJ J1)))));uE (L1 aH))))
def yy(x1:Bool):OB:=some x1
def yE(x2:Bool):OB:=some x2
def yv(x3:Bool):OB:=some x3
def DX(p1 p2:Int):OB:=aj (p1==1) (aj (p2==1) (yy true) (aj (p2==2) (yy true) (yy (p2==4)))) (aj (p1==2) (al (dR p2 1 5) fun r1=>some r1) (aj (p1==3) (aj (p2==2) (yE true) (aj (p2==3) (yE true) (yE (p2==4)))) (aj (p1==4) (al (dR p2 1 5) fun r2=>some r2) (aj (p1==5) (aj (p2==2) (yv true) (aj (p2==5) (yv true) (yv (p2==4)))) (some (p1==p2))))))
theorem N3(p1 p2:Int):CT prog 253 [vi p1,vi p2] (DX p1 p2) vb:=
  cu 53 [] f253 fun r=>(uC (co f253 212 3 fun K k=>have J1:∀{x1},yy x1=some r→K.p [(4,vb x1)] []:=fun{x1} h=>k h uz;(uC (uJ J1) (uC (uJ J1) (uJ J1)))) (uC (aS (gy _ _ _) fun r1=>uz) (uC (co f253 3452 3 fun K k=>have J2:∀{x2},yE x2=some r→K.p [(4,vb x2)] []:=fun{x2} h=>k h uz;(uC (uJ J2) (uC (uJ J2) (uJ J2)))) (uC (aS (gy _ _ _) fun r2=>uz) (uC (co f253 55292 3 fun K k=>have J3:∀{x3},yv x3=some r→K.p [(4,vb x3)] []:=fun{x3} h=>k h uz;(uC (uJ J3) (uC (uJ J3) (uJ J3)))) uz)))))
def AD:OB:=some true
def nw(q_value_canValue:ac→am→OB)(p1:ac)(p2:am):Nat→Int→OB
 |0,_=>none
 |k1+1,x2=>aj (decide (x2<(p1.items.length:Int))) (al (at? p1.items x2) fun e1=>al (xz p2 x2) fun r2=>al (q_value_canValue e1 r2.type) fun r3=>aj (!r3) (some false) ((nw q_value_canValue p1 p2 k1) (i64.wrap (x2+1)))) (AD)
def ny(q_value_canValue:ac→am→OB)(p1:ac)(p2:am)(x1:Bool):OB:=aj x1 (some false) (nw q_value_canValue p1 p2 aH 0)
def eX:Nat→ac→am→OB
 |0,_,_=>none
 |k0+1,p1,p2=>aj (p1.kind==0) (some true) (al (DX p1.kind p2.kind) fun r1=>aj (!r1) (ny (eX k0) p1 p2 true) (aj (p1.kind==7) (ny (eX k0) p1 p2 ((p1.items.length:Int) != (p2.fields.length:Int))) (ny (eX k0) p1 p2 false)))
theorem By:∀(k0:Nat) (p1:ac) (p2:am),CT prog 223 [mV p1,mT p2] (eX k0 p1 p2) vb
  |0,_,_=>Jw (eX.eq_1 ..)
  |k0+1,p1,p2=>cu 48 [6] f223 fun r=>(uU (eX.eq_2 ..) (uC uz (co f223 102 3 fun K k=>have J1:∀{x1},ny (eX k0) p1 p2 x1=some r→K.p [(2,vR [pi p1.kind,pi p1.n,pi p1.scale,.s (.string p1.s),.ro (ak.els p1.items)]),(3,vR [pi p2.kind,pi p2.scale,.ro (af.els p2.fields)]),(11,vb x1)] []:=fun{x1} h=>k h (uC uz (kd f223 14 1 AD [] [] uz fun K J2=>(uN ak p1.items (fJ f223 58 1 fun R b=>have L1:∀k1 {x2},nw (eX k0) p1 p2 k1 x2=some r→(R k1).p [(3,vR [pi p2.kind,pi p2.scale,.ro (af.els p2.fields)]),(33,vl ak p1.items),(34,vi p1.items.length),(35,vi x2)] []:=uI (fD rfl) fun k1 i1 {x2} h=>b h (uU (nw.eq_2 ..) (uC (dL ak fun e1=>(mZ 5 (aS (Ez _ _) fun r2=>(aS (By k0 _ _) fun r3=>(uC jh (uJ i1)))))) (uR (.exit 1) (xM (uJ J2)))));uE (L1 aH)))));(aS (N3 _ _) fun r1=>(uC (uJ J1) (uC (uN ak p1.items (uN af p2.fields (uJ J1))) (uJ J1)))))))
def rf(p1:bq)(p2 p3:Int):Option bq:=aj (decide (p2≤p3)) (al (iQ (bq.mk p1.neg (p1.size.1,p1.size.2.1,p1.size.2.2.1,p1.size.2.2.2)) (i64.wrap (p3-p2))) fun r1=>some (bq.mk r1.neg (r1.size.1,r1.size.2.1,r1.size.2.2.1,r1.size.2.2.2))) (al (lQ 1 (i64.wrap (p2-p3))) fun r2=>none)
theorem Hg(p1:bq)(p2 p3:Int):CT prog 258 [mW p1,vi p2,vi p3] (rf p1 p2 p3) (fun r=>mW r):=
  cu 21 [6] f258 fun r=>(uC (aS (xo _ _) fun r1=>uz) (mZ 5 (aS (vj _ _) fun r2=>uNo)))
def nM(p1:bq)(x1:Bool):Option (Int×Bool):=aj x1 (some (0,false)) (aj p1.neg (some ((i64.wrap (0-(i64.wrap p1.size.1))),true)) (some ((i64.wrap p1.size.1),true)))
def ql(p1:bq):Option (Int×Bool):=al (some (IntKind.u64.wrap (BitVec.ofInt (IntKind.u64).bits p1.size.2.1 ||| BitVec.ofInt (IntKind.u64).bits p1.size.2.2.1).toNat)) fun y1=>al (some (IntKind.u64.wrap (BitVec.ofInt (IntKind.u64).bits y1 ||| BitVec.ofInt (IntKind.u64).bits p1.size.2.2.2).toNat)) fun y2=>aj (y2 != 0) (nM p1 true) (nM p1 (decide (9223372036854775808≤p1.size.1)))
theorem Ej(p1:bq):CT prog 281 [mW p1] (ql p1) (fun r=> .tp [vi r.1,vb r.2]):=
  cu 33 [] f281 fun r=>(WS 10 (kS f281 [1,0,0] 2) fun K k=>have J1:∀{x1},nM p1 x1=some r→K.p [(1,vR [.s (.bool p1.neg),.s (.int .u64 p1.size.1),.s (.int .u64 p1.size.2.1),.s (.int .u64 p1.size.2.2.1),.s (.int .u64 p1.size.2.2.2)]),(21,vb x1)] []:=fun{x1} h=>k h (uC uz (uC uz uz));(uY 10 (vk .u64) fun y1=>(uY 14 (vk .u64) fun y2=>(uC (uJ J1) (uJ J1)))))
def wL(p1 p3:Int)(r1:(Int×Bool))(x1:Bool):Option ac:=aj x1 (some (ac.mk 0 0 0 ByteArray.empty [])) (some (ac.mk p1 r1.1 p3 ByteArray.empty []))
def zh(p1:Int)(p2:bq)(p3:Int):Option ac:=al (ql (bq.mk p2.neg (p2.size.1,p2.size.2.1,p2.size.2.2.1,p2.size.2.2.2))) fun r1=>aj (!r1.2) (wL p1 p3 r1 true) (al (kO (ac.mk p1 r1.1 p3 ByteArray.empty [])) fun r2=>wL p1 p3 r1 (!r2))
theorem LS(p1:Int)(p2:bq)(p3:Int):CT prog 257 [vi p1,mW p2,vi p3] (zh p1 p2 p3) (fun r=>mV r):=
  cu 28 [6,9] f257 fun r=>(aS (Ej _) fun r1=>(co f257 60 2 fun K k=>have J1:∀{x1},wL p1 p3 r1 x1=some r→K.p [(6,vQ 0),(9,vQ 1),(25,vb x1)] [.box [ci (0:Int),ci (0:Int),ci (0:Int),rX ByteArray.empty,.pv (.s (.slice none 0 0))],.box [ci p1,ci r1.1,ci p3,rX ByteArray.empty,.pv (.s (.slice none 0 0))]]:=fun{x1} h=>k h (uC uz uz);(uC (uJ J1) (aS (n6 _) fun r2=>(uJ J1)))))
def w9(p1:ac)(p2:am)(x3:Bool):Option ac:=aj x3 (some (ac.mk 0 0 0 ByteArray.empty [])) (al (nL p1.n) fun r2=>al (rf (bq.mk r2.neg (r2.size.1,r2.size.2.1,r2.size.2.2.1,r2.size.2.2.2)) p1.scale p2.scale) fun r3=>al (zh p2.kind (bq.mk r3.neg (r3.size.1,r3.size.2.1,r3.size.2.2.1,r3.size.2.2.2)) p2.scale) fun r4=>some r4)
def pX(p1:ac)(p2:am)(x2:Bool):Option ac:=aj x2 (some p1) (aj (p2.kind==4) (none) (aj (p1.kind==4) (none) (aj (p2.kind==1) (al (dR p1.n 0 1) fun r1=>w9 p1 p2 (!r1)) (w9 p1 p2 false))))
def sV(p1:ac)(p2:am)(x1:Bool):Option ac:=aj x1 (none) (aj (p1.kind==p2.kind) (pX p1 p2 (p2.kind != 3)) (pX p1 p2 false))
def qZ(p1:ac)(p2:am):Option ac:=aj (p1.kind==0) (some (ac.mk 0 0 0 ByteArray.empty [])) (aj (p1.kind==6) (sV p1 p2 true) (sV p1 p2 (p1.kind==7)))
abbrev mq(p1:ac):List PV:=[pi p1.kind,pi p1.n,pi p1.scale,.s (.string p1.s),.ro (ak.els p1.items)]
abbrev uo:List CV:=[ci (0:Int),ci (0:Int),ci (0:Int),rX ByteArray.empty,.pv (.s (.slice none 0 0))]
theorem Mc(p1:ac)(p2:am):CT prog 224 [mV p1,mT p2] (qZ p1 p2) (fun r=>mV r):=
  cu 73 [4] f224 fun r=>(uC uz (co f224 102 3 fun K k=>have J1:∀{x1},sV p1 p2 x1=some r→K.p [(2,vR (mq p1)),(3,vR (dV p2)),(4,vQ 0),(10,vb x1)] [.box uo]:=fun{x1} h=>k h (uC uNo (co f224 414 3 fun K k=>have J2:∀{x2},pX p1 p2 x2=some r→K.p [(2,vR (mq p1)),(3,vR (dV p2)),(4,vQ 0),(22,vb x2)] [.box uo]:=fun{x2} h=>k h (uC uz (uC uNo (uC uNo (co f224 26622 3 fun K k=>have J3:∀{x3},w9 p1 p2 x3=some r→K.p [(2,vR (mq p1)),(3,vR (dV p2)),(4,vQ 0),(49,vb x3)] [.box uo]:=fun{x3} h=>k h (uC uz (mZ 12 (aS (Bf _) fun r2=>(aS (Hg _ _ _) fun r3=>(aS (LS _ _ _) fun r4=>uz)))));(uC (aS (gy _ _ _) fun r1=>(uJ J3)) (uJ J3))))));(uC (uJ J2) (uJ J2))));(uC (uJ J1) (uJ J1))))
def qc(p1:ac)(p2:am)(x1:Bool):Option ac:=aj x1 (some (ac.mk 0 0 0 ByteArray.empty [])) (al (qZ p1 p2) fun r4=>al (kO r4) fun r5=>aj (!r5) (some (ac.mk 0 0 0 ByteArray.empty [])) (some r4))
def lA(p1:ac)(p2:am):Option ac:=al (kO p1) fun r1=>aj (!r1) (qc p1 p2 true) (al (cW p2) fun r2=>aj (r2 != 0) (qc p1 p2 true) (al (eX aH p1 p2) fun r3=>qc p1 p2 (!r3)))
theorem Gk(p1:ac)(p2:am):CT prog 185 [mV p1,mT p2] (lA p1 p2) (fun r=>mV r):=
  cu 29 [4,5] f185 fun r=>(co f185 12 2 fun K k=>have J1:∀{x1},qc p1 p2 x1=some r→K.p [(2,vR [pi p1.kind,pi p1.n,pi p1.scale,.s (.string p1.s),.ro (ak.els p1.items)]),(3,vR [pi p2.kind,pi p2.scale,.ro (af.els p2.fields)]),(4,vQ 0),(19,vb x1)] [.box [ci (0:Int),ci (0:Int),ci (0:Int),rX ByteArray.empty,.pv (.s (.slice none 0 0))]]:=fun{x1} h=>k h (uC uz (aS (Mc _ _) fun r4=>(aS (n6 _) fun r5=>(uC uz uz))));(aS (n6 _) fun r1=>(uC (uJ J1) (aS (lm _) fun r2=>(uC (uJ J1) (aS (By aH _ _) fun r3=>(uJ J1)))))))
def md(p2:am)(z1 z2 z3:Int)(z4:ByteArray)(z5:List ac):Option ac:=al (lA (ac.mk z1 z2 z3 z4 z5) p2) fun r2=>some r2
def mc(p1:ac)(p2:am)(x1:Bool):Option ac:=aj x1 (al (lA p1 (am.mk 2 0 [])) fun r1=>md p2 r1.kind r1.n r1.scale r1.s r1.items) (md p2 p1.kind p1.n p1.scale p1.s p1.items)
def ip(p1:ac)(p2:am):Option ac:=aj (p1.kind==1) (mc p1 p2 (p2.kind==3)) (mc p1 p2 false)
theorem CG(p1:ac)(p2:am):CT prog 132 [mV p1,mT p2] (ip p1 p2) (fun r=>mV r):=
  cu 19 [2,4] f132 fun r=>(co f132 6 1 fun K k=>have J2:∀{z1 z2 z3 z4 z5},md p2 z1 z2 z3 z4 z5=some r→K.p [(2,vQ 0),(3,vR [pi p2.kind,pi p2.scale,.ro (af.els p2.fields)]),(4,vQ 1)] [.box [ci z1,ci z2,ci z3,rX z4,cl ak z5],.box uo]:=fun{z1 z2 z3 z4 z5} h=>k h (aS (Gk _ _) fun r2=>uz);(co f132 12 1 fun K k=>have J1:∀{x1},mc p1 p2 x1=some r→K.p [(2,vQ 0),(3,vR [pi p2.kind,pi p2.scale,.ro (af.els p2.fields)]),(4,vQ 1),(12,vb x1)] [.box [ci p1.kind,ci p1.n,ci p1.scale,rX p1.s,cl ak p1.items],.box uo]:=fun{x1} h=>k h (uC (aS (Gk _ _) fun r1=>(uJ J2)) (uJ J2));(uC (uJ J1) (uJ J1))))
def uq(x1:Bool):OB:=some x1
def xD(p1 p2:ac):OB:=aj (p2.kind != 0) (al (dm aH p1 p2) fun r1=>uq (decide (r1<0))) (uq false)
theorem Er(p1 p2:ac):CT prog 131 [mV p1,mV p2] (xD p1 p2) vb:=
  cu 14 [] f131 fun r=>(co f131 6 1 fun K k=>have J1:∀{x1},uq x1=some r→K.p [(4,vb x1)] []:=fun{x1} h=>k h uz;(uC (aS (lB aH _ _) fun r1=>(uJ J1)) (uJ J1)))
def vM(x1:Bool):OB:=some x1
def xI(p1 p2:ac):OB:=aj (p2.kind != 0) (al (dm aH p1 p2) fun r1=>vM (decide (0<r1))) (vM false)
theorem Em(p1 p2:ac):CT prog 133 [mV p1,mV p2] (xI p1 p2) vb:=
  cu 14 [] f133 fun r=>(co f133 6 1 fun K k=>have J1:∀{x1},vM x1=some r→K.p [(4,vb x1)] []:=fun{x1} h=>k h uz;(uC (aS (lB aH _ _) fun r1=>(uJ J1)) (uJ J1)))
def Hd:Option (List iJ):=some ([(iJ.mk (ByteArray.mk #[117,116,99]) 0 0 (kF.mk 0 0 0 0) (kF.mk 0 0 0 0)),(iJ.mk (ByteArray.mk #[109,105,100]) 60 60 (kF.mk 3 5 7 120) (kF.mk 10 5 7 180)),(iJ.mk (ByteArray.mk #[101,97,115,116]) 330 0 (kF.mk 0 0 0 0) (kF.mk 0 0 0 0)),(iJ.mk (ByteArray.mk #[115,111,117,116,104]) 600 60 (kF.mk 10 1 7 120) (kF.mk 4 1 7 180)),(iJ.mk (ByteArray.mk #[119,101,115,116]) (-480) 60 (kF.mk 3 2 7 120) (kF.mk 11 1 7 120)),(iJ.mk (ByteArray.mk #[105,115,108,101]) 630 30 (kF.mk 10 1 7 120) (kF.mk 4 1 7 120))])
theorem Ij:CT prog 235 [] (Hd) (vl EI):=
  cu 16 [] f235 fun r=>uz
def Dw(p1:iJ)(p2:ByteArray):OB:=some (p1.name.toList==p2.toList)
theorem HO(p1:iJ)(p2:ByteArray):CT prog 305 [.ag [rX p1.name,ci p1.offset,ci p1.summer,ci p1.start.month,ci p1.start.week,ci p1.start.weekday,ci p1.start.minute,ci p1.stop.month,ci p1.stop.week,ci p1.stop.weekday,ci p1.stop.minute],vR [.s (.string p2)]] (Dw p1 p2) vb:=
  cu 8 [] f305 fun r=>uz
def fL:OI:=some (-1)
def cp(p1:List iJ)(p2:ByteArray):Nat→Int→OI
 |0,_=>none
 |k1+1,x1=>aj (decide (x1<(p1.length:Int))) (al (at? p1 x1) fun e1=>al (Dw e1 p2) fun r1=>aj r1 (some x1) ((cp p1 p2 k1) (i64.wrap (x1+1)))) (fL)
def gz(p1:List iJ)(p2:ByteArray):OI:=cp p1 p2 aH 0
theorem lS(p1:List iJ)(p2:ByteArray):CT prog 304 [vl EI p1,.one (.fn 305 [.pv (.rp [[.s (.string p2)]] 0 0)])] (gz p1 p2) vi:=
  cu 19 [] f304 fun r=>(kd f304 6 1 fL [] [] uz fun K J1=>(uN EI p1 (fJ f304 26 1 fun R b=>have L1:∀k1 {x1},cp p1 p2 k1 x1=some r→(R k1).p [(0,vl EI p1),(1,.one (.fn 305 [.pv (.rp [[.s (.string p2)]] 0 0)])),(7,vi p1.length),(8,vi x1)] []:=uI (fD rfl) fun k1 i1 {x1} h=>b h (uU (cp.eq_2 ..) (uC (dL EI fun e1=>(aS (HO _ _) fun r1=>(uC jh (uJ i1)))) (uR (.exit 0) (xM (uJ J1)))));uE (L1 aH))))
def EU(p1:ByteArray):Option (iJ×Bool):=al (Hd) fun r1=>al (gz r1 p1) fun r2=>aj (decide (r2<0)) (some ((iJ.mk ByteArray.empty 0 0 (kF.mk 0 0 0 0) (kF.mk 0 0 0 0)),false)) (al (at? r1 r2) fun e1=>some (e1,true))
theorem Mh(p1:ByteArray):CT prog 283 [vs p1] (EU p1) (fun r=> .tp [.ag [rX r.1.name,ci r.1.offset,ci r.1.summer,ci r.1.start.month,ci r.1.start.week,ci r.1.start.weekday,ci r.1.start.minute,ci r.1.stop.month,ci r.1.stop.week,ci r.1.stop.weekday,ci r.1.stop.minute],vb r.2]):=
  cu 17 [2] f283 fun r=>(aS Ij fun r1=>(aS (lS _ _) fun r2=>(uC uz (dL EI fun e1=>uz))))
def rB(x1 x2:Int):Option (Int×Int):=some (x1,x2)
def oQ(p1 p2:Int):Option (Int×Int):=gX (p2≠0)<|gX (p2≠0)<|aj (decide ((p1.tmod p2)<0)) (rB (i64.wrap ((i64.wrap (p1.tdiv p2))-1)) (i64.wrap ((p1.tmod p2)+p2))) (rB (i64.wrap (p1.tdiv p2)) (p1.tmod p2))
theorem wZ(p1 p2:Int):CT prog 286 [vi p1,vi p2] (oQ p1 p2) (fun r=> .tp [vi r.1,vi r.2]):=
  cu 23 [] f286 fun r=>(mZ 7 (uG (uG (co f286 14 1 fun K k=>have J1:∀{x1 x2},rB x1 x2=some r→K.p [(6,vi x1),(7,vi x2)] []:=fun{x1 x2} h=>k h uz;(uC (uJ J1) (uJ J1))))))
def xf(y10 x1 x2:Int):Option (Int×Int×Int):=some (x1,x2,y10)
def B9(p1:Int):Option (Int×Int×Int):=al (oQ (i64.wrap (p1+719468)) 146097) fun r1=>al (some (i64.wrap (r1.2-(i64.wrap (r1.2.tdiv 1460))))) fun y1=>al (some (i64.wrap (y1+(i64.wrap (r1.2.tdiv 36524))))) fun y2=>al (some (i64.wrap (y2-(i64.wrap (r1.2.tdiv 146096))))) fun y3=>al (some (i64.wrap ((i64.wrap (y3.tdiv 365))*365))) fun y4=>al (some (i64.wrap ((i64.wrap (y3.tdiv 365)).tdiv 4))) fun y5=>al (some (i64.wrap ((i64.wrap (y3.tdiv 365)).tdiv 100))) fun y6=>al (some (i64.wrap (r1.2-(i64.wrap ((i64.wrap (y4+y5))-y6))))) fun y7=>al (some (i64.wrap ((i64.wrap ((i64.wrap (5*y7))+2)).tdiv 153))) fun y8=>al (some (i64.wrap ((i64.wrap (153*y8))+2))) fun y9=>al (some (i64.wrap ((i64.wrap (y7-(i64.wrap (y9.tdiv 5))))+1))) fun y10=>al (some (i64.wrap ((i64.wrap (r1.1*400))+(i64.wrap (y3.tdiv 365))))) fun y11=>aj (decide (12<(i64.wrap (y8+3)))) (xf y10 (i64.wrap (y11+1)) (i64.wrap ((i64.wrap (y8+3))-12))) (xf y10 y11 (i64.wrap (y8+3)))
theorem My(p1:Int):CT prog 306 [vi p1] (B9 p1) (fun r=> .tp [vi r.1,vi r.2.1,vi r.2.2]):=
  cu 61 [] f306 fun r=>(aS (wZ _ _) fun r1=>(uY 17 vi fun y1=>(uY 20 vi fun y2=>(uY 23 vi fun y3=>(uY 27 vi fun y4=>(uY 29 vi fun y5=>(uY 32 vi fun y6=>(uY 34 vi fun y7=>(uY 38 vi fun y8=>(uY 42 vi fun y9=>(uY 45 vi fun y10=>(uY 49 vi fun y11=>(co f306 510 1 fun K k=>have J1:∀{x1 x2},xf y10 x1 x2=some r→K.p [(2,vi x1),(3,vi x2),(4,vi y10)] []:=fun{x1 x2} h=>k h uz;(uC (uJ J1) (uJ J1)))))))))))))))
def xB(p1:Int):Option oY:=al (oQ p1 86400) fun r1=>al (B9 r1.1) fun r2=>some (oY.mk r2.1 r2.2.1 r2.2.2 (i64.wrap (r1.2.tdiv 3600)) (i64.wrap ((r1.2.tmod 3600).tdiv 60)) (r1.2.tmod 60))
theorem EF(p1:Int):CT prog 284 [vi p1] (xB p1) (fun r=> .ag [ci r.year,ci r.month,ci r.day,ci r.hour,ci r.minute,ci r.second]):=
  cu 30 [2] f284 fun r=>(aS (wZ _ _) fun r1=>(aS (My _) fun r2=>uz))
def sP(p3 x1 x2:Int):OI:=al (oQ x1 400) fun r1=>al (some (i64.wrap ((i64.wrap (r1.1*146097))+(i64.wrap (r1.2*365))))) fun y1=>al (some (i64.wrap ((i64.wrap (y1+(i64.wrap (r1.2.tdiv 4))))-(i64.wrap (r1.2.tdiv 100))))) fun y2=>al (some (i64.wrap (153*(i64.wrap (x2-3))))) fun y3=>al (some (i64.wrap ((i64.wrap (y3+2)).tdiv 5))) fun y4=>al (some (i64.wrap ((i64.wrap ((i64.wrap (y2+y4))+p3))-1))) fun y5=>some (i64.wrap (y5-719468))
def tU(p1 p2 p3:Int):OI:=aj (decide (p2≤2)) (sP p3 (i64.wrap (p1-1)) (i64.wrap (p2+12))) (sP p3 p1 p2)
theorem Cf(p1 p2 p3:Int):CT prog 260 [vi p1,vi p2,vi p3] (tU p1 p2 p3) vi:=
  cu 41 [] f260 fun r=>(co f260 6 1 fun K k=>have J1:∀{x1 x2},sP p3 x1 x2=some r→K.p [(0,vi x1),(1,vi x2),(2,vi p3)] []:=fun{x1 x2} h=>k h (aS (wZ _ _) fun r1=>(uY 24 vi fun y1=>(uY 30 vi fun y2=>(uY 33 vi fun y3=>(uY 35 vi fun y4=>(uY 39 vi fun y5=>uz))))));(uC (uJ J1) (uJ J1)))
def AM(p1:Int):OI:=al (oQ (i64.wrap (p1+3)) 7) fun r1=>some (i64.wrap (r1.2+1))
theorem CD(p1:Int):CT prog 261 [vi p1] (AM p1) vi:=
  cu 13 [] f261 fun r=>(aS (wZ _ _) fun r1=>uz)
def s6(x1:Bool):OB:=some x1
def BX(p1:Int):OB:=aj ((p1.tmod 4)==0) (aj ((p1.tmod 100) != 0) (s6 true) (s6 ((p1.tmod 400)==0))) (s6 false)
theorem MB(p1:Int):CT prog 340 [vi p1] (BX p1) vb:=
  cu 16 [] f340 fun r=>(co f340 6 1 fun K k=>have J1:∀{x1},s6 x1=some r→K.p [(2,vb x1)] []:=fun{x1} h=>k h uz;(uC (uC (uJ J1) (uJ J1)) (uJ J1)))
def ni(x1:Bool):OI:=aj x1 (some 30) (some 31)
def yA(p1 p2:Int):OI:=aj (p2==2) (al (BX p1) fun r1=>aj r1 (some 29) (some 28)) (aj (p2==4) (ni (p2==4)) (aj (p2==6) (ni (p2==6)) (aj (p2==9) (ni (p2==9)) (ni (p2==11)))))
theorem JY(p1 p2:Int):CT prog 319 [vi p1,vi p2] (yA p1 p2) vi:=
  cu 15 [] f319 fun r=>(uC (aS (MB _) fun r1=>(uC uz uz)) (co f319 214 3 fun K k=>have J1:∀{x1},ni x1=some r→K.p [(10,vb x1)] []:=fun{x1} h=>k h (uC uz uz);(uC (uJ J1) (uC (uJ J1) (uC (uJ J1) (uJ J1))))))
def DK(p1:kF)(x2:Int):OI:=al (some (i64.wrap ((i64.wrap (x2*86400))+(i64.wrap (p1.minute*60))))) fun y4=>some y4
def At(p1:kF)(r1 r3:Int):Nat→Int→OI
 |0,_=>none
 |k1+1,x1=>al (some (decide ((i64.wrap (x1+7))<(i64.wrap (r1+r3))))) fun y3=>aj y3 ((At p1 r1 r3 k1) (i64.wrap (x1+7))) (DK p1 x1)
def Jp(p1:kF)(p2:Int):OI:=al (tU p2 p1.month 1) fun r1=>al (AM r1) fun r2=>al (some ((i64.wrap ((i64.wrap (p1.weekday-r2))+7)).tmod 7)) fun y1=>aj (decide (p1.week<5)) (al (some (i64.wrap ((i64.wrap (p1.week-1))*7))) fun y2=>DK p1 (i64.wrap ((i64.wrap (r1+y1))+y2))) (al (yA p2 p1.month) fun r3=>At p1 r1 r3 aH (i64.wrap (r1+y1)))
theorem Kj(p1:kF)(p2:Int):CT prog 307 [.ag [ci p1.month,ci p1.week,ci p1.weekday,ci p1.minute],vi p2] (Jp p1 p2) vi:=
  cu 48 [] f307 fun r=>(aS (Cf _ _ _) fun r1=>(mZ 8 (aS (CD _) fun r2=>(uY 19 vi fun y1=>(co f307 30 1 fun K k=>have J1:∀{x2},DK p1 x2=some r→K.p [(2,vR [pi p1.month,pi p1.week,pi p1.weekday,pi p1.minute]),(6,vi x2)] []:=fun{x2} h=>k h (uY 47 vi fun y4=>uz);(uC (uY 28 vi fun y2=>(uJ J1)) (aS (JY _ _) fun r3=>(fJ f307 494 1 fun R b=>have L1:∀k1 {x1},At p1 r1 r3 k1 x1=some r→(R k1).p [(2,vR [pi p1.month,pi p1.week,pi p1.weekday,pi p1.minute]),(6,vi x1),(7,vi (i64.wrap (r1+r3)))] []:=uI (fD rfl) fun k1 i1 {x1} h=>b h (uU (At.eq_2 ..) (uY 39 vb fun y3=>(uC (uJ i1) (uR (.exit 0) (xM (uJ J1))))));uE (L1 aH)))))))))
def vE(p1:iJ)(x2:Bool):OI:=aj x2 (al (some (i64.wrap ((i64.wrap (p1.offset*60))+(i64.wrap (p1.summer*60))))) fun y5=>some y5) (some (i64.wrap (p1.offset*60)))
def zQ(p1:iJ)(p2 r2 y1:Int)(x1:Bool):OI:=al (some (decide (y1≤(i64.wrap (r2-(i64.wrap (p1.offset*60))))))) fun y3=>aj y3 (aj (decide (p2<y1)) (vE p1 true) (al (some (decide ((i64.wrap (r2-(i64.wrap (p1.offset*60))))≤p2))) fun y4=>vE p1 y4)) (vE p1 x1)
def Dk(p1:iJ)(p2:Int):OI:=aj ((i64.wrap (p1.summer*60))==0) (some (i64.wrap (p1.offset*60))) (al (xB (i64.wrap (p2+(i64.wrap (p1.offset*60))))) fun r1=>al (Jp p1.start r1.year) fun r2=>al (Jp p1.stop r1.year) fun r3=>al (some (i64.wrap ((i64.wrap (r3-(i64.wrap (p1.offset*60))))-(i64.wrap (p1.summer*60))))) fun y1=>al (some (decide ((i64.wrap (r2-(i64.wrap (p1.offset*60))))≤p2))) fun y2=>aj y2 (zQ p1 p2 r2 y1 (decide (p2<y1))) (zQ p1 p2 r2 y1 false))
theorem Kx(p1:iJ)(p2:Int):CT prog 285 [.ag [rX p1.name,ci p1.offset,ci p1.summer,ci p1.start.month,ci p1.start.week,ci p1.start.weekday,ci p1.start.minute,ci p1.stop.month,ci p1.stop.week,ci p1.stop.weekday,ci p1.stop.minute],vi p2] (Dk p1 p2) vi:=
  cu 63 [] f285 fun r=>(mZ 7 (uC uz (aS (EF _) fun r1=>(mZ 15 (aS (Kj _ _) fun r2=>(aS (Kj _ _) fun r3=>(uY 38 vi fun y1=>(WS 41 (kS f285 [1,1,1,1,1,0] 1) fun K k=>have J1:∀{x1},zQ p1 p2 r2 y1 x1=some r→K.p [(1,vi p2),(5,vi (i64.wrap (p1.offset*60))),(6,vi (i64.wrap (p1.summer*60))),(8,vi (i64.wrap (r2-(i64.wrap (p1.offset*60))))),(9,vi y1),(10,vb x1)] []:=fun{x1} h=>k h (WS 49 (kS f285 [1,1,1,1,1,1,0] 1) fun K k=>have J2:∀{x2},vE p1 x2=some r→K.p [(5,vi (i64.wrap (p1.offset*60))),(6,vi (i64.wrap (p1.summer*60))),(10,vb x2)] []:=fun{x2} h=>k h (uC (uY 61 vi fun y5=>uz) uz);(uY 49 vb fun y3=>(uC (uC (uJ J2) (uY 56 vb fun y4=>(uJ J2))) (uJ J2))));(uY 41 vb fun y2=>(uC (uJ J1) (uJ J1)))))))))))
def Aj(p1:Int)(p2:ByteArray):Option (oY×Int):=al (EU p2) fun r1=>aj (!r1.2) (some ((oY.mk 0 0 0 0 0 0),4)) (al (dR p1 (-62135596800) 253402300799) fun r2=>aj (!r2) (some ((oY.mk 0 0 0 0 0 0),3)) (al (Dk r1.1 p1) fun r3=>al (xB (i64.wrap (p1+r3))) fun r4=>some (r4,0)))
theorem KA(p1:Int)(p2:ByteArray):CT prog 259 [vi p1,vs p2] (Aj p1 p2) (fun r=> .tp [.ag [ci r.1.year,ci r.1.month,ci r.1.day,ci r.1.hour,ci r.1.minute,ci r.1.second],vi r.2]):=
  cu 26 [4,6] f259 fun r=>(aS (Mh _) fun r1=>(uC uz (aS (gy _ _ _) fun r2=>(uC uz (aS (Kx _ _) fun r3=>(aS (EF _) fun r4=>uz))))))
def wc(p1 p2:Int)(p3:ByteArray):Option (Int×Int):=al (Aj p1 p3) fun r1=>aj (r1.2 != 0) (some (0,r1.2)) (al (tU r1.1.year r1.1.month r1.1.day) fun r2=>aj (p2==1) (some (r1.1.year,0)) (aj (p2==2) (some (r1.1.month,0)) (aj (p2==3) (some (r1.1.day,0)) (aj (p2==4) (some (r1.1.hour,0)) (aj (p2==5) (some (r1.1.minute,0)) (aj (p2==6) (some (r1.1.second,0)) (aj (p2==7) (al (AM r2) fun r3=>some (r3,0)) (aj (p2==8) (al (tU r1.1.year 1 1) fun r4=>some ((i64.wrap ((i64.wrap (r2-r4))+1)),0)) (some (0,3))))))))))
theorem FX(p1 p2:Int)(p3:ByteArray):CT prog 225 [vi p1,vi p2,vs p3] (wc p1 p2 p3) (fun r=> .tp [vi r.1,vi r.2]):=
  cu 64 [8] f225 fun r=>(aS (KA _ _) fun r1=>(uC uz (aS (Cf _ _ _) fun r2=>(uC uz (uC uz (uC uz (uC uz (uC uz (uC uz (uC (aS (CD _) fun r3=>uz) (uC (aS (Cf _ _ _) fun r4=>uz) uz)))))))))))
def C5(p1:ac):OB:=al (kO p1) fun r1=>some (!r1)
theorem KW(p1:ac):CT prog 287 [mV p1] (C5 p1) vb:=
  cu 6 [] f287 fun r=>(aS (n6 _) fun r1=>uz)
def fE:OI:=some (-1)
def aK(p1:List ac):Nat→Int→OI
 |0,_=>none
 |k1+1,x1=>aj (decide (x1<(p1.length:Int))) (al (at? p1 x1) fun e1=>al (C5 e1) fun r1=>aj r1 (some x1) ((aK p1 k1) (i64.wrap (x1+1)))) (fE)
def dI(p1:List ac):OI:=aK p1 aH 0
theorem lE(p1:List ac):CT prog 215 [vl ak p1,.one (.pv (.fn 287 []))] (dI p1) vi:=
  cu 19 [] f215 fun r=>(kd f215 6 1 fE [] [] uz fun K J1=>(uN ak p1 (fJ f215 26 1 fun R b=>have L1:∀k1 {x1},aK p1 k1 x1=some r→(R k1).p [(0,vl ak p1),(1,.one (.pv (.fn 287 []))),(7,vi p1.length),(8,vi x1)] []:=uI (fD rfl) fun k1 i1 {x1} h=>b h (uU (aK.eq_2 ..) (uC (dL ak fun e1=>(aS (KW _) fun r1=>(uC jh (uJ i1)))) (uR (.exit 0) (xM (uJ J1)))));uE (L1 aH))))
def cn(p1:List ac):OB:=al (dI p1) fun r1=>some (decide (0≤r1))
theorem kJ(p1:List ac):CT prog 173 [vl ak p1,.one (.pv (.fn 287 []))] (cn p1) vb:=
  cu 9 [] f173 fun r=>(aS (lE _) fun r1=>uz)
def rR(p1:Int)(p2:List Int):Option (Unit×(List Int)):=al (some (IntKind.u8.wrap (p1.fdiv (2^(min (56:Int).toNat (IntKind.u64).bits))))) fun y1=>gX (p2.length+1≤4294967296)<|al (some (IntKind.u8.wrap (p1.fdiv (2^(min (48:Int).toNat (IntKind.u64).bits))))) fun y2=>gX ((p2++[y1]).length+1≤4294967296)<|al (some (IntKind.u8.wrap (p1.fdiv (2^(min (40:Int).toNat (IntKind.u64).bits))))) fun y3=>gX (((p2++[y1])++[y2]).length+1≤4294967296)<|al (some (IntKind.u8.wrap (p1.fdiv (2^(min (32:Int).toNat (IntKind.u64).bits))))) fun y4=>gX ((((p2++[y1])++[y2])++[y3]).length+1≤4294967296)<|al (some (IntKind.u8.wrap (p1.fdiv (2^(min (24:Int).toNat (IntKind.u64).bits))))) fun y5=>gX (((((p2++[y1])++[y2])++[y3])++[y4]).length+1≤4294967296)<|al (some (IntKind.u8.wrap (p1.fdiv (2^(min (16:Int).toNat (IntKind.u64).bits))))) fun y6=>gX ((((((p2++[y1])++[y2])++[y3])++[y4])++[y5]).length+1≤4294967296)<|al (some (IntKind.u8.wrap (p1.fdiv (2^(min (8:Int).toNat (IntKind.u64).bits))))) fun y7=>gX (((((((p2++[y1])++[y2])++[y3])++[y4])++[y5])++[y6]).length+1≤4294967296)<|al (some (IntKind.u8.wrap (p1.fdiv (2^(min (0:Int).toNat (IntKind.u64).bits))))) fun y8=>gX ((((((((p2++[y1])++[y2])++[y3])++[y4])++[y5])++[y6])++[y7]).length+1≤4294967296)<|some ((),((((((((p2++[y1])++[y2])++[y3])++[y4])++[y5])++[y6])++[y7])++[y8]))
theorem zN(p1:Int)(p2:List Int):CX prog 308 [.one (.sl 0 1 0 p2.length),vk .u64 p1] [.arr 1 ((eK .u8).els p2)] [0] (rR p1 p2) (fun r=> .one (.sl 0 1 0 r.2.length)) (fun r=>[.arr 1 ((eK .u8).els r.2)]):=
  KD 1 1 18 [] f308 fun r=>(Rt 8 (uY 14 (vk .u8) fun y1=>(Bk (eK .u8) 0 [y1] (uY 14 (vk .u8) fun y2=>(Bk (eK .u8) 0 [y2] (uY 14 (vk .u8) fun y3=>(Bk (eK .u8) 0 [y3] (uY 14 (vk .u8) fun y4=>(Bk (eK .u8) 0 [y4] (uY 14 (vk .u8) fun y5=>(Bk (eK .u8) 0 [y5] (uY 14 (vk .u8) fun y6=>(Bk (eK .u8) 0 [y6] (uY 14 (vk .u8) fun y7=>(Bk (eK .u8) 0 [y7] (uY 14 (vk .u8) fun y8=>(Bk (eK .u8) 0 [y8] (uR .ret sE))))))))))))))))))
def pf(p1:bq)(p2:List Int):Option (Unit×(List Int)):=al (nL 1) fun r1=>al (dk (bq.mk r1.neg (r1.size.1,r1.size.2.1,r1.size.2.2.1,r1.size.2.2.2)) 9223372036854775808) fun r2=>al (dk (bq.mk r2.neg (r2.size.1,r2.size.2.1,r2.size.2.2.1,r2.size.2.2.2)) 9223372036854775808) fun r3=>al (dk (bq.mk r3.neg (r3.size.1,r3.size.2.1,r3.size.2.2.1,r3.size.2.2.2)) 2) fun r4=>al (eT aH (bq.mk r4.neg (r4.size.1,r4.size.2.1,r4.size.2.2.1,r4.size.2.2.2)) (bq.mk p1.neg (p1.size.1,p1.size.2.1,p1.size.2.2.1,p1.size.2.2.2))) fun r5=>al (rR r5.size.2.1 p2) fun r6=>al (rR r5.size.1 r6.2) fun r7=>some ((),r7.2)
theorem DL(p1:bq)(p2:List Int):CX prog 309 [mW p1,.one (.sl 0 1 0 p2.length)] [.arr 1 ((eK .u8).els p2)] [0] (pf p1 p2) (fun r=> .one (.sl 0 1 0 r.2.length)) (fun r=>[.arr 1 ((eK .u8).els r.2)]):=
  KD 1 1 24 [5] f309 fun r=>(Im 7 1 [1,2] (aS (Bf _) fun r1=>(aS (oX _ _) fun r2=>(aS (oX _ _) fun r3=>(aS (oX _ _) fun r4=>(aS (Ai aH _ _) fun r5=>(Rt 2 (Wa true [0] (zN _ _) fun r6 _=>(Wa true [0] (zN _ _) fun r7 _=>(uR .ret sE))))))))))
def zT(l2:List Int):Option (Unit×(List Int)):=gX (l2.length+1≤4294967296)<|some ((),(l2++[0]))
def my(q_value_key_s:ac→(List Int)→Option (Unit×(List Int)))(p1:ac):Nat→List Int→Int→Option (Unit×(List Int))
 |0,_,_=>none
 |k1+1,l1,x2=>aj (decide (x2<(p1.items.length:Int))) (al (at? p1.items x2) fun e1=>gX (l1.length+1≤4294967296)<|al (q_value_key_s e1 (l1++[1])) fun r4=>(my q_value_key_s p1 k1) r4.2 (i64.wrap (x2+1))) (zT l1)
def mH(q_value_key_s:ac→(List Int)→Option (Unit×(List Int)))(p1:ac)(p2:List Int)(x1:Bool):Option (Unit×(List Int)):=aj x1 (al (some (IntKind.u64.wrap ((IntKind.u64.wrap p1.n)+9223372036854775808))) fun y1=>al (rR y1 (p2++[(IntKind.u8.wrap p1.kind)])) fun r1=>some ((),r1.2)) (aj (p1.kind==3) (al (lQ p1.n (i64.wrap (12-p1.scale))) fun r2=>al (pf (bq.mk r2.neg (r2.size.1,r2.size.2.1,r2.size.2.2.1,r2.size.2.2.2)) (p2++[(IntKind.u8.wrap p1.kind)])) fun r3=>gX (r3.2.length+1≤4294967296)<|some ((),(r3.2++[(IntKind.u8.wrap p1.scale)]))) (aj (p1.kind==4) (gX ((p2++[(IntKind.u8.wrap p1.kind)]).length+(nW p1.s).length≤4294967296)<|gX (((p2++[(IntKind.u8.wrap p1.kind)])++(nW p1.s)).length+1≤4294967296)<|some ((),(((p2++[(IntKind.u8.wrap p1.kind)])++(nW p1.s))++[0]))) (my q_value_key_s p1 aH (p2++[(IntKind.u8.wrap p1.kind)]) 0)))
def ig:Nat→ac→(List Int)→Option (Unit×(List Int))
 |0,_,_=>none
 |k0+1,p1,p2=>aj (p1.kind==0) (gX (p2.length+1≤4294967296)<|some ((),(p2++[8]))) (gX (p2.length+1≤4294967296)<|aj (p1.kind==1) (gX ((p2++[(IntKind.u8.wrap p1.kind)]).length+1≤4294967296)<|some ((),((p2++[(IntKind.u8.wrap p1.kind)])++[(IntKind.u8.wrap p1.n)]))) (aj (p1.kind==2) (mH (ig k0) p1 p2 (p1.kind==2)) (mH (ig k0) p1 p2 (p1.kind==5))))
theorem EH:∀(k0:Nat) (p1:ac) (p2:List Int),CX prog 288 [.one (.sl 0 1 0 p2.length),mV p1] [.arr 1 ((eK .u8).els p2)] [0] (ig k0 p1 p2) (fun r=> .one (.sl 0 1 0 r.2.length)) (fun r=>[.arr 1 ((eK .u8).els r.2)])
  |0,_,_=>uX0 (ig.eq_1 ..)
  |k0+1,p1,p2=>KD 1 1 77 [6] f288 fun r=>(uU (ig.eq_2 ..) (uC (Bk (eK .u8) 0 [(8:Int)] (uR .ret sE)) (Bk (eK .u8) 0 [(IntKind.u8.wrap p1.kind)] (uC (Bk (eK .u8) 0 [(IntKind.u8.wrap p1.n)] (uR .ret sE)) (co f288 982 3 fun K k=>have J1:∀{x1},mH (ig k0) p1 p2 x1=some r→K.p [(0,.one (.sl 0 1 0 ((p2++[(IntKind.u8.wrap p1.kind)]).length))),(3,vR [pi p1.kind,pi p1.n,pi p1.scale,.s (.string p1.s),.ro (ak.els p1.items)]),(20,vi p1.kind),(29,vb x1)] [.arr 1 ((eK .u8).els (p2++[(IntKind.u8.wrap p1.kind)]))]:=fun{x1} h=>k h (uC (uY 36 (vk .u64) fun y1=>(Wa true [0] (zN _ _) fun r1 _=>(uR .ret sE))) (uC (Im 12 0 [0,1] (aS (vj _ _) fun r2=>(aeh [0] (DL _ _) fun r3 _=>(Bk (eK .u8) 0 [(IntKind.u8.wrap p1.scale)] (uR .ret sE))))) (uC (uAs 0 p1.s (Bk (eK .u8) 0 [(0:Int)] (uR .ret sE))) (co f288 62 1 fun K k=>have J2:∀{l2},zT l2=some r→K.p [(0,.one (.sl 0 1 0 l2.length))] [.arr 1 ((eK .u8).els l2)]:=fun{l2} h=>k h (Bk (eK .u8) 0 [(0:Int)] (uR .ret sE));(uN ak p1.items (fJ f288 250 1 fun R b=>have L1:∀k1 {l1 x2},my (ig k0) p1 k1 l1 x2=some r→(R k1).p [(0,.one (.sl 0 1 0 l1.length)),(62,vl ak p1.items),(63,vi p1.items.length),(64,vi x2)] [.arr 1 ((eK .u8).els l1)]:=uI (fD rfl) fun k1 i1 {l1 x2} h=>b h (uU (my.eq_2 ..) (uC (dL ak fun e1=>(Im 4 0 [0,2] (Bk (eK .u8) 0 [(1:Int)] (Wa true [0] (EH k0 _ _) fun r4 _=>(uJ i1))))) (uR (.exit 1) (xM (uJ J2)))));uE (L1 aH)))))));(uC (uJ J1) (uJ J1)))))))
def qe(p1:List Int):Option (List Int):=gX (0≤(0:Int)∧(0:Int)≤(p1.length:Int)∧(p1.length:Int)≤(p1.length:Int)∧(p1.length:Int)≤(p1.length:Int))<|some ((p1.drop (0:Int).toNat).take ((p1.length:Int).toNat-(0:Int).toNat))
theorem BU(p1:List Int):CT prog 289 [vl (eK .u8) p1] (qe p1) (fun r=>vl (eK .u8) r):=
  cu 9 [] f289 fun r=>(uN (eK .u8) p1 (uN (eK .u8) p1 (uXm (eK .u8) uz)))
def B4(l2:List Int):Option (List Int):=al (qe l2) fun r3=>some r3
def o5(p1:List ac):Nat→List Int→Int→Option (List Int)
 |0,_,_=>none
 |k1+1,l1,x1=>aj (decide (x1<(p1.length:Int))) (al (at? p1 x1) fun e1=>al (ig aH e1 l1) fun r2=>(o5 p1 k1) r2.2 (i64.wrap (x1+1))) (B4 l1)
def DV(p1:List ac):Option (List Int):=al (cn p1) fun r1=>aj r1 (some []) (o5 p1 aH [] 0)
theorem Oc(p1:List ac):CT prog 263 [vl ak p1] (DV p1) (fun r=>vl (eK .u8) r):=
  cu 20 [5] f263 fun r=>(aS (kJ _) fun r1=>(uC uz (co f263 30 1 fun K k=>have J1:∀{l2},B4 l2=some r→K.p [(3,.one (.sl 0 1 0 l2.length))] [.arr 1 ((eK .u8).els l2)]:=fun{l2} h=>k h (Ks (eK .u8) l2 0 [18] (aS (BU _) fun r3=>uz));(uN ak p1 (LC (.li 3 1) (fJ f263 122 1 fun R b=>have L1:∀k1 {l1 x1},o5 p1 k1 l1 x1=some r→(R k1).p [(3,.one (.sl 0 1 0 l1.length)),(8,vl ak p1),(9,vi p1.length),(10,vi x1)] [.arr 1 ((eK .u8).els l1)]:=uI (fD rfl) fun k1 i1 {l1 x1} h=>b h (uU (o5.eq_2 ..) (uC (dL ak fun e1=>(Wa true [0] (EH aH _ _) fun r2 _=>(uJ i1))) (uR (.exit 0) (xM (uJ J1)))));uE (L1 aH)))))))
def zD(x3:Int):OI:=some x3
def iP(p1:List Int):Nat→Int→Int→OI
 |0,_,_=>none
 |k1+1,x1,x2=>aj (decide (x2<(p1.length:Int))) (al (at? p1 x2) fun e1=>al (some (IntKind.u64.wrap (BitVec.ofInt (IntKind.u64).bits x1 ^^^ BitVec.ofInt (IntKind.u64).bits (IntKind.u64.wrap e1)).toNat)) fun y1=>(iP p1 k1) (IntKind.u64.wrap (y1*1099511628211)) (i64.wrap (x2+1))) (zD x1)
def xL(p1:List Int):OI:=iP p1 aH 14695981039346656037 0
theorem GM(p1:List Int):CT prog 262 [vl (eK .u8) p1] (xL p1) (vk .u64):=
  cu 19 [] f262 fun r=>(co f262 14 1 fun K k=>have J1:∀{x3},zD x3=some r→K.p [(3,vk .u64 x3)] []:=fun{x3} h=>k h uz;(uN (eK .u8) p1 (fJ f262 58 1 fun R b=>have L1:∀k1 {x1 x2},iP p1 k1 x1 x2=some r→(R k1).p [(3,vk .u64 x1),(6,vl (eK .u8) p1),(7,vi p1.length),(8,vi x2)] []:=uI (fD rfl) fun k1 i1 {x1 x2} h=>b h (uU (iP.eq_2 ..) (uC (dL (eK .u8) fun e1=>(uY 15 (vk .u64) fun y1=>(uJ i1))) (uR (.exit 0) (xM (uJ J1)))));uE (L1 aH))))
def yW(p1:ac):OI:=al (DV [p1]) fun r1=>al (xL r1) fun r2=>some r2
theorem Nf(p1:ac):CT prog 227 [mV p1] (yW p1) (vk .u64):=
  cu 7 [] f227 fun r=>(uW 4 ak [p1] (aS (Oc _) fun r1=>(aS (GM _) fun r2=>uz)))
def iH(p1:Int):Option ac:=some (ac.mk 2 p1 0 ByteArray.empty [])
theorem qN(p1:Int):CT prog 226 [vi p1] (iH p1) (fun r=>mV r):=
  cu 5 [2] f226 fun r=>uz
def vo(x1:Int):OI:=some x1
def oV(p1 p2:Int):OI:=gX (p2≠0)<|gX (p2≠0)<|aj (decide ((p1.tmod p2)<0)) (vo (i64.wrap ((i64.wrap (p1.tdiv p2))-1))) (vo (i64.wrap (p1.tdiv p2)))
theorem A6(p1 p2:Int):CT prog 229 [vi p1,vi p2] (oV p1 p2) vi:=
  cu 16 [] f229 fun r=>(uG (co f229 14 1 fun K k=>have J1:∀{x1},vo x1=some r→K.p [(5,vi x1)] []:=fun{x1} h=>k h uz;(uG (uC (uJ J1) (uJ J1)))))
def gD(p1:ac)(p2:Int):Option ac:=aj (p1.kind==4) (gX (p1.s.size≤4294967296)<|al (some (if((gY p1.s).length:Int)<p2 then((gY p1.s).length:Int)else p2)) fun y1=>gX (0≤(0:Int)∧(0:Int)≤y1∧y1≤((gY p1.s).length:Int))<|some (ac.mk p1.kind p1.n p1.scale (runesBytes (((gY p1.s).drop (0:Int).toNat).take (y1.toNat-(0:Int).toNat))) p1.items)) (al (oV p1.n p2) fun r1=>al (some (if(-999999999999999999:Int)>(i64.wrap (r1*p2))then(-999999999999999999:Int)else(i64.wrap (r1*p2)))) fun y2=>some (ac.mk p1.kind y2 p1.scale p1.s p1.items))
theorem GN(p1:ac)(p2:Int):CT prog 228 [mV p1,vi p2] (gD p1 p2) (fun r=>mV r):=
  cu 30 [2,4] f228 fun r=>(uC (uBs (uN (eK .i32) (gY p1.s) (uY 16 vi fun y1=>(uX (eK .i32) (uBr (((gY p1.s).drop (0:Int).toNat).take (y1.toNat-(0:Int).toNat)) uz))))) (aS (A6 _ _) fun r1=>(uY 27 vi fun y2=>uz)))
def mB(p1:aZ)(p2:ac)(x2 x3:Int):Option ac:=aj (p1.kind==1) (some p2) (aj (p1.kind==2) (al (yW p2) fun r5=>gX ((IntKind.u64.wrap p1.param)≠0)<|al (iH (i64.wrap (r5.tmod (IntKind.u64.wrap p1.param)))) fun r6=>some r6) (aj (p1.kind==3) (al (gD p2 p1.param) fun r7=>some r7) (aj (p1.kind==4) (al (iH (i64.wrap (x2-1970))) fun r8=>some r8) (aj (p1.kind==5) (al (some (i64.wrap (12*(i64.wrap (x2-1970))))) fun y1=>al (iH (i64.wrap ((i64.wrap (y1+x3))-1))) fun r9=>some r9) (aj (p1.kind==6) (al (oV p2.n 86400) fun r10=>al (iH r10) fun r11=>some r11) (aj (p1.kind==7) (al (oV p2.n 3600) fun r12=>al (iH r12) fun r13=>some r13) (some (ac.mk 0 0 0 ByteArray.empty []))))))))
def iR(p1:aZ)(p2:ac)(x1:Bool):Option ac:=aj x1 (some (ac.mk 0 0 0 ByteArray.empty [])) (aj (p2.kind==5) (al (wc p2.n 1 (ByteArray.mk #[117,116,99])) fun r3=>al (wc p2.n 2 (ByteArray.mk #[117,116,99])) fun r4=>mB p1 p2 r3.1 r4.1) (mB p1 p2 0 0))
def fG(p1:aZ)(p2:ac):Option ac:=al (dz p1 (am.mk p2.kind p2.scale [])) fun r1=>aj (r1.2 != 0) (iR p1 p2 true) (al (kO p2) fun r2=>iR p1 p2 (!r2))
theorem uK(p1:aZ)(p2:ac):CT prog 186 [.ag [ci p1.kind,ci p1.param],mV p2] (fG p1 p2) (fun r=>mV r):=
  cu 90 [4,5] f186 fun r=>(aS (qj _ _) fun r1=>(co f186 28 2 fun K k=>have J1:∀{x1},iR p1 p2 x1=some r→K.p [(2,vR [pi p1.kind,pi p1.param]),(3,vR [pi p2.kind,pi p2.n,pi p2.scale,.s (.string p2.s),.ro (ak.els p2.items)]),(4,vQ 0),(25,vb x1)] [.box uo,.dead]:=fun{x1} h=>k h (uC uz (co f186 62 1 fun K k=>have J2:∀{x2 x3},mB p1 p2 x2 x3=some r→K.p [(2,vR [pi p1.kind,pi p1.param]),(3,vR [pi p2.kind,pi p2.n,pi p2.scale,.s (.string p2.s),.ro (ak.els p2.items)]),(4,vQ 0),(7,vi x2),(8,vi x3)] [.box uo,.dead]:=fun{x2 x3} h=>k h (uC uz (uC (mZ 5 (aS (Nf _) fun r5=>(uG (aS (qN _) fun r6=>uz)))) (uC (aS (GN _ _) fun r7=>uz) (uC (aS (qN _) fun r8=>uz) (uC (uY 72 vi fun y1=>(aS (qN _) fun r9=>uz)) (uC (aS (A6 _ _) fun r10=>(aS (qN _) fun r11=>uz)) (uC (aS (A6 _ _) fun r12=>(aS (qN _) fun r13=>uz)) uz)))))));(uC (aS (FX _ _ _) fun r3=>(aS (FX _ _ _) fun r4=>(uJ J2))) (uJ J2))));(uC (uJ J1) (aS (n6 _) fun r2=>(uJ J1)))))
def pO(x1:Bool):OB:=some x1
def tI(x2:Bool):OB:=some x2
def se(p1:aZ)(p2:ac)(p3:bw):OB:=aj (p1.kind==0) (some false) (aj (p2.kind==0) (some true) (aj (p1.kind==2) (aj (p3.low.kind != 0) (al (dm aH p3.low p3.high) fun r1=>aj (r1==0) (al (fG p1 p3.low) fun r2=>al (dm aH p2 r2) fun r3=>pO (r3 != 0)) (pO false)) (pO false)) (al (fG p1 p3.low) fun r4=>al (xD p2 r4) fun r5=>aj r5 (tI true) (al (fG p1 p3.high) fun r6=>al (xI p2 r6) fun r7=>tI r7))))
theorem I1(p1:aZ)(p2:ac)(p3:bw):CT prog 134 [.ag [ci p1.kind,ci p1.param],mV p2,.ag [ci p3.id,ci p3.low.kind,ci p3.low.n,ci p3.low.scale,rX p3.low.s,cl ak p3.low.items,ci p3.high.kind,ci p3.high.n,ci p3.high.scale,rX p3.high.s,cl ak p3.high.items]] (se p1 p2 p3) vb:=
  cu 54 [] f134 fun r=>(uC uz (uC uz (uC (co f134 1660 3 fun K k=>have J1:∀{x1},pO x1=some r→K.p [(6,vb x1)] []:=fun{x1} h=>k h uz;(mZ 18 (uC (aS (lB aH _ _) fun r1=>(uC (aS (uK _ _) fun r2=>(aS (lB aH _ _) fun r3=>(uJ J1))) (uJ J1))) (uJ J1)))) (co f134 14 1 fun K k=>have J2:∀{x2},tI x2=some r→K.p [(6,vb x2)] []:=fun{x2} h=>k h uz;(mZ 12 (aS (uK _ _) fun r4=>(aS (Er _ _) fun r5=>(uC (uJ J2) (aS (uK _ _) fun r6=>(aS (Em _ _) fun r7=>(uJ J2)))))))))))
def qo(rec1:Int→OB)(x4:Int)(x5:Bool):OB:=aj x5 (some false) (rec1 (i64.wrap (x4+1)))
def uu:OB:=some true
def ez(p3:ai)(p4:bw)(e4:cD):Nat→Int→OB
 |0,_=>none
 |k1+1,x4=>aj (decide (x4<(e4.fields.length:Int))) (al (at? e4.fields x4) fun e5=>aj (e5.source==p4.id) (al (at? p3.part x4) fun e6=>al (se e5.transform e6 p4) fun r9=>qo (ez p3 p4 e4 k1) x4 r9) (qo (ez p3 p4 e4 k1) x4 false)) (uu)
def qD(p1:ay)(p3:ai)(p4:bw)(x3:Bool):OB:=aj x3 (al (at? p1.specs p3.spec) fun e4=>ez p3 p4 e4 aH 0) (uu)
def nv(p1:ay)(p3:ai)(p4:bw)(r2 r3:(am×Bool)):OB:=aj (r2.1.kind==r3.1.kind) (qD p1 p3 p4 (r2.1.scale==r3.1.scale)) (qD p1 p3 p4 false)
def qA(p1:ay)(p3:ai)(p4:bw)(r2 r3:(am×Bool))(x2:Bool):OB:=aj x2 (some false) (nv p1 p3 p4 r2 r3)
def qp(p1:ay)(p2:List ae)(p3:ai)(p4:bw)(e1:List ae)(r1:Int)(x1:Bool):OB:=aj x1 (some false) (al (l7 e1 p4.id) fun r2=>al (l7 p2 p4.id) fun r3=>al (kx r2.1 r3.1) fun r4=>aj r4 (al (at? p3.stats r1) fun e3=>al (ip e3.max r3.1) fun r5=>al (xD r5 p4.low) fun r6=>aj r6 (qA p1 p3 p4 r2 r3 true) (al (ip e3.min r3.1) fun r7=>al (xI r7 p4.high) fun r8=>qA p1 p3 p4 r2 r3 r8)) (nv p1 p3 p4 r2 r3))
def oI(p1:ay)(p2:List ae)(p3:ai)(p4:bw):OB:=al (at? p1.schemas p3.schema) fun e1=>al (cZ p3.stats p4.id p4.low.kind p4.low.n p4.low.scale p4.low.s p4.low.items p4.high.kind p4.high.n p4.high.scale p4.high.s p4.high.items) fun r1=>aj (decide (r1<0)) (qp p1 p2 p3 p4 e1 r1 true) (al (at? p3.stats r1) fun e2=>qp p1 p2 p3 p4 e1 r1 (e2.nulls==p3.rows))
abbrev xP(p4:bw):List PV:=[pi p4.id,pi p4.low.kind,pi p4.low.n,pi p4.low.scale,.s (.string p4.low.s),.ro (ak.els p4.low.items),pi p4.high.kind,pi p4.high.n,pi p4.high.scale,.s (.string p4.high.s),.ro (ak.els p4.high.items)]
theorem Hz(p1:ay)(p2:List ae)(p3:ai)(p4:bw):CT prog 68 [mM p1,vl af p2,mF p3,.ag [ci p4.id,ci p4.low.kind,ci p4.low.n,ci p4.low.scale,rX p4.low.s,cl ak p4.low.items,ci p4.high.kind,ci p4.high.n,ci p4.high.scale,rX p4.high.s,cl ak p4.high.items]] (oI p1 p2 p3 p4) vb:=
  cu 121 [11,13,15,17] f68 fun r=>(dL (eL af) fun e1=>(aS (j7 _ _ _ _ _ _ _ _ _ _ _ _) fun r1=>(co f68 60 2 fun K k=>have J1:∀{x1},qp p1 p2 p3 p4 e1 r1 x1=some r→K.p [(1,vl af p2),(4,vR (bB p1)),(6,vR (eJ p3)),(7,vR (xP p4)),(9,vl af e1),(10,vi r1),(40,vb x1)] []:=fun{x1} h=>k h (uC uz (aS (pR _ _) fun r2=>(aS (pR _ _) fun r3=>(kd f68 254 1 (nv p1 p3 p4 r2 r3) [(4,vR (bB p1)),(6,vR (eJ p3)),(7,vR (xP p4)),(11,vQ 0),(13,vQ 1)] [.box [ci r2.1.kind,ci r2.1.scale,cl af r2.1.fields],.box [ci r3.1.kind,ci r3.1.scale,cl af r3.1.fields]] (kd f68 510 1 uu [] [.dead,.dead] uz fun K J6=>(co f68 1020 1 fun K k=>have J4:∀{x3},qD p1 p3 p4 x3=some r→K.p [(4,vR (bB p1)),(6,vR (eJ p3)),(7,vR (xP p4)),(90,vb x3)] [.dead,.dead]:=fun{x3} h=>k h (uC (dL fk fun e4=>(uN aF e4.fields (fJ f68 8170 1 fun R b=>have L1:∀k1 {x4},ez p3 p4 e4 k1 x4=some r→(R k1).p [(6,vR (eJ p3)),(7,vR (xP p4)),(97,vl aF e4.fields),(98,vi e4.fields.length),(99,vi x4)] [.dead,.dead]:=uI (fD rfl) fun k1 i1 {x4} h=>b h (uU (ez.eq_2 ..) (uC (dL aF fun e5=>(co f68 1045810 3 fun K k=>have J5:∀{x5},qo (ez p3 p4 e4 k1) x4 x5=some r→K.p [(6,vR (eJ p3)),(7,vR (xP p4)),(97,vl aF e4.fields),(98,vi e4.fields.length),(99,vi x4),(119,vb x5)] [.dead,.dead,.dead]:=fun{x5} h=>k h (uC jh (uJ i1));(mZ 14 (uC (dL ak fun e6=>(aS (I1 _ _ _) fun r9=>(uJ J5))) (uJ J5))))) (uR (.exit 0) (xM (uJ J6)))));uE (L1 aH)))) (uJ J6));(uC (uJ J4) (uJ J4)))) fun K J3=>(aS (CE _ _) fun r4=>(uC (dL bD fun e3=>(co f68 4074 1 fun K k=>have J2:∀{x2},qA p1 p3 p4 r2 r3 x2=some r→K.p [(4,vR (bB p1)),(6,vR (eJ p3)),(7,vR (xP p4)),(11,vQ 0),(13,vQ 1),(78,vb x2)] [.box [ci r2.1.kind,ci r2.1.scale,cl af r2.1.fields],.box [ci r3.1.kind,ci r3.1.scale,cl af r3.1.fields],.dead]:=fun{x2} h=>k h (uC (uR .ret (xN xF)) (uJ J3));(mZ 14 (aS (CG _ _) fun r5=>(aS (Er _ _) fun r6=>(uC (uJ J2) (aS (CG _ _) fun r7=>(aS (Em _ _) fun r8=>(uJ J2))))))))) (uJ J3)))))));(mZ 11 (uC (uJ J1) (dL bD fun e2=>(uJ J1)))))))
def A4(p1:bw)(p2:List (List ae))(p3:List cD)(p4 p5 p6 p7:Int)(p8:List ar)(p9:List kV)(cj:List oa)(p11:List ae)(p12:ByteArray)(p13 p14:Int)(p15:List ac)(p16 p17:Int)(p18:List cc):OB:=al (oI (ay.mk p2 p3 p4 p5 p6 p7 p8 p9 cj) p11 (ai.mk p12 p13 p14 p15 p16 p17 p18) p1) fun r1=>some (!r1)
theorem Ip(p1:bw)(p2:List (List ae))(p3:List cD)(p4 p5 p6 p7:Int)(p8:List ar)(p9:List kV)(cj:List oa)(p11:List ae)(p12:ByteArray)(p13 p14:Int)(p15:List ac)(p16 p17:Int)(p18:List cc):CT prog 67 [.ag [ci p1.id,ci p1.low.kind,ci p1.low.n,ci p1.low.scale,rX p1.low.s,cl ak p1.low.items,ci p1.high.kind,ci p1.high.n,ci p1.high.scale,rX p1.high.s,cl ak p1.high.items],vR [.ro ((eL af).els p2),.ro (fk.els p3),pi p4,pi p5,pi p6,pi p7,.ro (aT.els p8),.ro (nT.els p9),.ro (ku.els cj)],vR [.ro (af.els p11)],vR [.s (.string p12),pi p13,pi p14,.ro (ak.els p15),pi p16,pi p17,.ro (bD.els p18)]] (A4 p1 p2 p3 p4 p5 p6 p7 p8 p9 cj p11 p12 p13 p14 p15 p16 p17 p18) vb:=
  cu 12 [] f67 fun r=>(aS (Hz _ _ _ _) fun r1=>uz)
def fI:OI:=some (-1)
def bc(p1:List bw)(p2:List (List ae))(p3:List cD)(p4 p5 p6 p7:Int)(p8:List ar)(p9:List kV)(cj:List oa)(p11:List ae)(p12:ByteArray)(p13 p14:Int)(p15:List ac)(p16 p17:Int)(p18:List cc):Nat→Int→OI
 |0,_=>none
 |k1+1,x1=>aj (decide (x1<(p1.length:Int))) (al (at? p1 x1) fun e1=>al (A4 e1 p2 p3 p4 p5 p6 p7 p8 p9 cj p11 p12 p13 p14 p15 p16 p17 p18) fun r1=>aj r1 (some x1) ((bc p1 p2 p3 p4 p5 p6 p7 p8 p9 cj p11 p12 p13 p14 p15 p16 p17 p18 k1) (i64.wrap (x1+1)))) (fI)
def dH(p1:List bw)(p2:List (List ae))(p3:List cD)(p4 p5 p6 p7:Int)(p8:List ar)(p9:List kV)(cj:List oa)(p11:List ae)(p12:ByteArray)(p13 p14:Int)(p15:List ac)(p16 p17:Int)(p18:List cc):OI:=bc p1 p2 p3 p4 p5 p6 p7 p8 p9 cj p11 p12 p13 p14 p15 p16 p17 p18 aH 0
theorem lK(p1:List bw)(p2:List (List ae))(p3:List cD)(p4 p5 p6 p7:Int)(p8:List ar)(p9:List kV)(cj:List oa)(p11:List ae)(p12:ByteArray)(p13 p14:Int)(p15:List ac)(p16 p17:Int)(p18:List cc):CT prog 127 [vl gS p1,.one (.fn 67 [.pv (.rp [[.ro ((eL af).els p2),.ro (fk.els p3),pi p4,pi p5,pi p6,pi p7,.ro (aT.els p8),.ro (nT.els p9),.ro (ku.els cj)]] 0 0),.pv (.rp [[.ro (af.els p11)]] 0 0),.pv (.rp [[.s (.string p12),pi p13,pi p14,.ro (ak.els p15),pi p16,pi p17,.ro (bD.els p18)]] 0 0)])] (dH p1 p2 p3 p4 p5 p6 p7 p8 p9 cj p11 p12 p13 p14 p15 p16 p17 p18) vi:=
  cu 19 [] f127 fun r=>(kd f127 6 1 fI [] [] uz fun K J1=>(uN gS p1 (fJ f127 26 1 fun R b=>have L1:∀k1 {x1},bc p1 p2 p3 p4 p5 p6 p7 p8 p9 cj p11 p12 p13 p14 p15 p16 p17 p18 k1 x1=some r→(R k1).p [(0,vl gS p1),(1,.one (.fn 67 [.pv (.rp [[.ro ((eL af).els p2),.ro (fk.els p3),pi p4,pi p5,pi p6,pi p7,.ro (aT.els p8),.ro (nT.els p9),.ro (ku.els cj)]] 0 0),.pv (.rp [[.ro (af.els p11)]] 0 0),.pv (.rp [[.s (.string p12),pi p13,pi p14,.ro (ak.els p15),pi p16,pi p17,.ro (bD.els p18)]] 0 0)])),(7,vi p1.length),(8,vi x1)] []:=uI (fD rfl) fun k1 i1 {x1} h=>b h (uU (bc.eq_2 ..) (uC (dL gS fun e1=>(aS (Ip _ _ _ _ _ _ _ _ _ _ _ _ _ _ _ _ _ _) fun r1=>(uC jh (uJ i1)))) (uR (.exit 0) (xM (uJ J1)))));uE (L1 aH))))
def dt(p1:List bw)(p2:List (List ae))(p3:List cD)(p4 p5 p6 p7:Int)(p8:List ar)(p9:List kV)(cj:List oa)(p11:List ae)(p12:ByteArray)(p13 p14:Int)(p15:List ac)(p16 p17:Int)(p18:List cc):OB:=al (dH p1 p2 p3 p4 p5 p6 p7 p8 p9 cj p11 p12 p13 p14 p15 p16 p17 p18) fun r1=>some (decide (0≤r1))
theorem kE(p1:List bw)(p2:List (List ae))(p3:List cD)(p4 p5 p6 p7:Int)(p8:List ar)(p9:List kV)(cj:List oa)(p11:List ae)(p12:ByteArray)(p13 p14:Int)(p15:List ac)(p16 p17:Int)(p18:List cc):CT prog 66 [vl gS p1,.one (.fn 67 [.pv (.rp [[.ro ((eL af).els p2),.ro (fk.els p3),pi p4,pi p5,pi p6,pi p7,.ro (aT.els p8),.ro (nT.els p9),.ro (ku.els cj)]] 0 0),.pv (.rp [[.ro (af.els p11)]] 0 0),.pv (.rp [[.s (.string p12),pi p13,pi p14,.ro (ak.els p15),pi p16,pi p17,.ro (bD.els p18)]] 0 0)])] (dt p1 p2 p3 p4 p5 p6 p7 p8 p9 cj p11 p12 p13 p14 p15 p16 p17 p18) vb:=
  cu 9 [] f66 fun r=>(aS (lK _ _ _ _ _ _ _ _ _ _ _ _ _ _ _ _ _ _) fun r1=>uz)
def BB(p1:ay)(p2:List ae)(p3:ai)(p4:List bw):OB:=al (dt p4 p1.schemas p1.specs p1.nextField p1.nextSeq p1.nextSnap p1.purges p1.snapshots p1.refs p1.props p2 p3.name p3.schema p3.spec p3.part p3.rows p3.seq p3.stats) fun r1=>some (!r1)
theorem H9(p1:ay)(p2:List ae)(p3:ai)(p4:List bw):CT prog 21 [mM p1,vl af p2,mF p3,vl gS p4] (BB p1 p2 p3 p4) vb:=
  cu 13 [] f21 fun r=>(aS (kE _ _ _ _ _ _ _ _ _ _ _ _ _ _ _ _ _ _) fun r1=>uz)
def D3(p1:ay)(p2:Int)(p3:ai)(p4:List bw):Option (Bool×Int):=al (oP p1) fun r1=>aj (r1 != 0) (some (false,r1)) (al (dF p2 0 (i64.wrap ((p1.schemas.length:Int)-1))) fun r2=>aj (!r2) (some (false,3)) (al (zr p1 p3) fun r3=>aj (r3 != 0) (some (false,r3)) (al (at? p1.schemas p2) fun e1=>al (pC e1 p4) fun r4=>aj (r4 != 0) (some (false,r4)) (al (BB p1 e1 p3 p4) fun r5=>some (r5,0)))))
theorem O3(p1:ay)(p2:Int)(p3:ai)(p4:List bw):CT prog 5 [mM p1,vi p2,mF p3,vl gS p4] (D3 p1 p2 p3 p4) (fun r=> .tp [vb r.1,vi r.2]):=
  cu 50 [] f5 fun r=>(aS (EC _) fun r1=>(uC uz (uN (eL af) p1.schemas (aS (dy _ _ _) fun r2=>(uC uz (aS (FI _ _) fun r3=>(uC uz (uL (eL af) fun e1 a21=>(aS (Am _ _) fun r4=>(uC uz (mZ 8 (uM (eL af) a21 (aS (H9 _ _ _ _) fun r5=>uz)))))))))))))
def wR(rec1:Int→Int→OB)(x2 x3:Int)(e1:ar)(x4:Bool):OB:=aj x4 (some true) (al (some (i64.wrap (x2+(i64.wrap ((e1.files.length:Int)+(e1.dby.length:Int)))))) fun y1=>rec1 y1 (i64.wrap (x3+1)))
def En(x5:Int):OB:=some (decide (4000<x5))
def kz(p1:ay):Nat→Int→Int→OB
 |0,_,_=>none
 |k1+1,x2,x3=>aj (decide (x3<(p1.snapshots.length:Int))) (al (at? p1.snapshots x3) fun e1=>aj (decide (400<(e1.files.length:Int))) (wR (kz p1 k1) x2 x3 e1 true) (wR (kz p1 k1) x2 x3 e1 (decide (400<(e1.dby.length:Int))))) (En x2)
def lV(p1:ay)(x1:Bool):OB:=aj x1 (some true) (kz p1 aH 0 0)
def Ch(p1:ay):OB:=aj (decide (40<(p1.schemas.length:Int))) (lV p1 true) (aj (decide (40<(p1.specs.length:Int))) (lV p1 true) (aj (decide (200<(p1.snapshots.length:Int))) (lV p1 true) (aj (decide (40<(p1.refs.length:Int))) (lV p1 true) (lV p1 (decide (40<(p1.props.length:Int)))))))
theorem M0(p1:ay):CT prog 35 [mM p1] (Ch p1) vb:=
  cu 63 [5] f35 fun r=>(co f35 12 2 fun K k=>have J1:∀{x1},lV p1 x1=some r→K.p [(1,vR [.ro ((eL af).els p1.schemas),.ro (fk.els p1.specs),pi p1.nextField,pi p1.nextSeq,pi p1.nextSnap,pi p1.purges,.ro (aT.els p1.snapshots),.ro (nT.els p1.refs),.ro (ku.els p1.props)]),(33,vb x1)] []:=fun{x1} h=>k h (uC uz (co f35 30 1 fun K k=>have J3:∀{x5},En x5=some r→K.p [(3,vi x5)] []:=fun{x5} h=>k h uz;(uN aT p1.snapshots (fJ f35 122 1 fun R b=>have L1:∀k1 {x2 x3},kz p1 k1 x2 x3=some r→(R k1).p [(3,vi x2),(35,vl aT p1.snapshots),(36,vi p1.snapshots.length),(37,vi x3)] []:=uI (fD rfl) fun k1 i1 {x2 x3} h=>b h (uU (kz.eq_2 ..) (uC (dL aT fun e1=>(co f35 31332 4 fun K k=>have J2:∀{x4},wR (kz p1 k1) x2 x3 e1 x4=some r→K.p [(3,vi x2),(5,vQ 0),(35,vl aT p1.snapshots),(36,vi p1.snapshots.length),(37,vi x3),(50,vb x4)] [.box [ci e1.id,ci e1.parent,ci e1.seq,ci e1.schema,ci e1.time,ci e1.kind,cl aU e1.files,cl dj e1.dat,cl dT e1.dby]]:=fun{x4} h=>k h (uC jh (uN aU e1.files (uN dT e1.dby (uY 59 vi fun y1=>(uJ i1)))));(uN aU e1.files (uC (uJ J2) (uN dT e1.dby (uJ J2)))))) (uR (.exit 0) (xM (uJ J3)))));uE (L1 aH)))));(uN (eL af) p1.schemas (uC (uJ J1) (uN fk p1.specs (uC (uJ J1) (uN aT p1.snapshots (uC (uJ J1) (uN nT p1.refs (uC (uJ J1) (uN ku p1.props (uJ J1)))))))))))
def vO(x1:Bool):OB:=some x1
def dG(p1 p2 p3:Int):OB:=aj (decide (p2≤p1)) (vO (decide (p1≤p3))) (vO false)
theorem dp(p1 p2 p3:Int):CT prog 22 [vi p1,vi p2,vi p3] (dG p1 p2 p3) vb:=
  cu 15 [] f22 fun r=>(co f22 6 1 fun K k=>have J1:∀{x1},vO x1=some r→K.p [(6,vb x1)] []:=fun{x1} h=>k h uz;(uC (uJ J1) (uJ J1)))
def vA(x1:Bool):OB:=some x1
def io(p1:Int):OB:=aj (p1 != 6) (vA (p1 != 7)) (vA false)
theorem jK(p1:Int):CT prog 45 [vi p1] (io p1) vb:=
  cu 9 [] f45 fun r=>(co f45 6 1 fun K k=>have J1:∀{x1},vA x1=some r→K.p [(2,vb x1)] []:=fun{x1} h=>k h uz;(uC (uJ J1) (uJ J1)))
def qY(x1:Bool):OB:=some x1
def fM(p1 p2 p3:Int):OB:=aj (decide (p2≤p1)) (qY (decide (p1≤p3))) (qY false)
theorem jn(p1 p2 p3:Int):CT prog 146 [vi p1,vi p2,vi p3] (fM p1 p2 p3) vb:=
  cu 15 [] f146 fun r=>(co f146 6 1 fun K k=>have J1:∀{x1},qY x1=some r→K.p [(6,vb x1)] []:=fun{x1} h=>k h uz;(uC (uJ J1) (uJ J1)))
def vm(rec1:Int→OB)(x2:Int)(x5:Bool):OB:=aj x5 (some false) (rec1 (i64.wrap (x2+1)))
def vw(rec1:Int→OB)(x2:Int)(x3 x4:Bool):OB:=aj (!x3) (aj (x2==0) (vm rec1 x2 true) (vm rec1 x2 (!x4))) (vm rec1 x2 false)
def yn(rec1:Int→OB)(p1:ByteArray)(x2:Int)(x3:Bool):OB:=gX (0≤x2∧x2<(p1.size:Int))<|aj (((p1.data.toList.getD x2.toNat 0).toNat:Int)==95) (vw rec1 x2 x3 true) (gX (0≤x2∧x2<(p1.size:Int))<|al (some (decide (48≤((p1.data.toList.getD x2.toNat 0).toNat:Int)))) fun y3=>aj y3 (gX (0≤x2∧x2<(p1.size:Int))<|al (some (decide (((p1.data.toList.getD x2.toNat 0).toNat:Int)≤57))) fun y4=>vw rec1 x2 x3 y4) (vw rec1 x2 x3 false))
def FA:OB:=some true
def fx(p1:ByteArray):Nat→Int→OB
 |0,_=>none
 |k1+1,x2=>aj (decide (x2<(p1.size:Int))) (gX (0≤x2∧x2<(p1.size:Int))<|al (some (decide (97≤((p1.data.toList.getD x2.toNat 0).toNat:Int)))) fun y1=>aj y1 (gX (0≤x2∧x2<(p1.size:Int))<|al (some (decide (((p1.data.toList.getD x2.toNat 0).toNat:Int)≤122))) fun y2=>yn (fx p1 k1) p1 x2 y2) (yn (fx p1 k1) p1 x2 false)) (FA)
def yx(p1:ByteArray)(x1:Bool):OB:=aj x1 (some false) (fx p1 aH 0)
def yI(p1:ByteArray):OB:=aj (decide ((p1.size:Int)<1)) (yx p1 true) (yx p1 (decide (24<(p1.size:Int))))
theorem DH(p1:ByteArray):CT prog 42 [vs p1] (yI p1) vb:=
  cu 56 [] f42 fun r=>(co f42 12 2 fun K k=>have J1:∀{x1},yx p1 x1=some r→K.p [(0,vs p1),(13,vb x1)] []:=fun{x1} h=>k h (uC uz (kd f42 14 1 FA [] [] uz fun K J5=>(fJ f42 58 1 fun R b=>have L1:∀k1 {x2},fx p1 k1 x2=some r→(R k1).p [(0,vs p1),(3,vi x2)] []:=uI (fD rfl) fun k1 i1 {x2} h=>b h (uU (fx.eq_2 ..) (uC (co f42 1864 3 fun K k=>have J2:∀{x3},yn (fx p1 k1) p1 x2 x3=some r→K.p [(0,vs p1),(3,vi x2),(4,vb x3)] []:=fun{x3} h=>k h (co f42 3730 3 fun K k=>have J3:∀{x4},vw (fx p1 k1) x2 x3 x4=some r→K.p [(0,vs p1),(3,vi x2),(4,vb x3),(5,vb x4)] []:=fun{x4} h=>k h (co f42 7462 3 fun K k=>have J4:∀{x5},vm (fx p1 k1) x2 x5=some r→K.p [(0,vs p1),(3,vi x2),(55,vb x5)] []:=fun{x5} h=>k h (uC jh (uJ i1));(uC (uC (uJ J4) (uJ J4)) (uJ J4)));(uG (uC (uJ J3) (uG (uY 38 vb fun y3=>(uC (uG (uY 43 vb fun y4=>(uJ J3))) (uJ J3)))))));(uG (uY 23 vb fun y1=>(uC (uG (uY 28 vb fun y2=>(uJ J2))) (uJ J2))))) (uR (.exit 0) (xM (uJ J5)))));uE (L1 aH))));(uC (uJ J1) (uJ J1)))
def AW(rec2:Int→OI)(x5:Int):OI:=rec2 (i64.wrap (x5+1))
def ir(rec2:Int→OI)(p1:am)(x5:Int):Nat→Int→OI
 |0,_=>none
 |k3+1,x6=>aj (decide (x6<x5)) (al (at? p1.fields x6) fun e3=>al (at? p1.fields x5) fun e4=>aj (e3.name.toList==e4.name.toList) (some 5) ((ir rec2 p1 x5 k3) (i64.wrap (x6+1)))) (AW rec2 x5)
def EJ:OI:=some 0
def gE(p1:am):Nat→Int→OI
 |0,_=>none
 |k2+1,x5=>aj (decide (x5<(p1.fields.length:Int))) (ir (gE p1 k2) p1 x5 aH 0) (EJ)
def AY(p1:am):OI:=gE p1 aH 0
def jl(p1:am):Nat→Int→OI
 |0,_=>none
 |k1+1,x4=>aj (decide (x4<(p1.fields.length:Int))) (al (at? p1.fields x4) fun e2=>al (yI e2.name) fun r5=>aj (!r5) (some 4) ((jl p1 k1) (i64.wrap (x4+1)))) (AY p1)
def l9(p1:am)(x3:Bool):OI:=aj x3 (some 1) (aj (p1.kind != 7) (some 0) (jl p1 aH 0))
def sX(p1:am)(x2:Bool):OI:=aj x2 (some 1) (aj (p1.kind==7) (aj ((p1.fields.length:Int)==0) (l9 p1 true) (al (io p1.kind) fun r3=>aj r3 (l9 p1 (decide (0<(p1.fields.length:Int)))) (l9 p1 false))) (al (io p1.kind) fun r4=>aj r4 (l9 p1 (decide (0<(p1.fields.length:Int)))) (l9 p1 false)))
def ma(p1:am)(x1:Bool):OI:=aj x1 (some 1) (aj (p1.kind==6) (aj ((p1.fields.length:Int) != 1) (sX p1 true) (al (at? p1.fields 0) fun e1=>sX p1 (!(e1.name.toList==(ByteArray.mk #[]).toList)))) (sX p1 false))
def B7(p1:am):OI:=al (fM p1.kind 1 7) fun r1=>aj (!r1) (some 3) (aj (p1.kind==3) (al (fM p1.scale 0 12) fun r2=>aj (!r2) (ma p1 true) (aj (p1.kind != 3) (ma p1 (p1.scale != 0)) (ma p1 false))) (aj (p1.kind != 3) (ma p1 (p1.scale != 0)) (ma p1 false)))
theorem Mq(p1:am):CT prog 190 [mT p1] (B7 p1) vi:=
  cu 109 [] f190 fun r=>(aS (jn _ _ _) fun r1=>(uC uz (co f190 28 2 fun K k=>have J1:∀{x1},ma p1 x1=some r→K.p [(1,vR (dV p1)),(28,vb x1)] []:=fun{x1} h=>k h (uC uz (co f190 60 2 fun K k=>have J2:∀{x2},sX p1 x2=some r→K.p [(1,vR (dV p1)),(45,vb x2)] []:=fun{x2} h=>k h (uC uz (co f190 124 2 fun K k=>have J3:∀{x3},l9 p1 x3=some r→K.p [(1,vR (dV p1)),(65,vb x3)] []:=fun{x3} h=>k h (uC uz (uC uz (kd f190 254 1 (AY p1) [(1,vR (dV p1))] [] (kd f190 510 1 EJ [] [] uz fun K J6=>(uN af p1.fields (fJ f190 2042 1 fun R b=>have L2:∀k2 {x5},gE p1 k2 x5=some r→(R k2).p [(1,vR (dV p1)),(86,vi p1.fields.length),(87,vi x5)] []:=uI (fD rfl) fun k2 i2 {x5} h=>b h (uU (gE.eq_2 ..) (uC (kd f190 32678 1 (AW (gE p1 k2) x5) [(1,vR (dV p1)),(86,vi p1.fields.length),(87,vi x5)] [] (uJ i2) fun K J5=>(fJ f190 522854 2 fun R b=>have L3:∀k3 {x6},ir (gE p1 k2) p1 x5 k3 x6=some r→(R k3).p [(1,vR (dV p1)),(4,vi x5),(5,vi x6),(86,vi p1.fields.length),(87,vi x5)] []:=uI (fD rfl) fun k3 i3 {x6} h=>b h (uU (ir.eq_2 ..) (uC (mZ 12 (dL af fun e3=>(dL af fun e4=>(uC (uR .ret (xN (xN (xN (xN xF))))) (uJ i3))))) (uR (.exit 4) (xM (uJ J5)))));uE (L3 aH))) (uR (.exit 2) (xM (uJ J6)))));uE (L2 aH)))) fun K J4=>(uN af p1.fields (fJ f190 1018 1 fun R b=>have L1:∀k1 {x4},jl p1 k1 x4=some r→(R k1).p [(1,vR (dV p1)),(71,vi p1.fields.length),(72,vi x4)] []:=uI (fD rfl) fun k1 i1 {x4} h=>b h (uU (jl.eq_2 ..) (uC (dL af fun e2=>(aS (DH _) fun r5=>(uC jh (uJ i1)))) (uR (.exit 0) (xM (uJ J4)))));uE (L1 aH))))));(uC (uN af p1.fields (uC (uJ J3) (aS (jK _) fun r3=>(uC (uN af p1.fields (uJ J3)) (uJ J3))))) (aS (jK _) fun r4=>(uC (uN af p1.fields (uJ J3)) (uJ J3))))));(uC (uN af p1.fields (uC (uJ J2) (dL af fun e1=>(uJ J2)))) (uJ J2))));(uC (aS (jn _ _ _) fun r2=>(uC (uJ J1) (uC (uJ J1) (uJ J1)))) (uC (uJ J1) (uJ J1))))))
def Ab(z3:Int):Option (Int×Int):=some (0,z3)
def jE(q_ref1_checkType:am→Int→Int→Option (Int×Int))(p1:am)(p2:Int):Nat→Int→Int→Option (Int×Int)
 |0,_,_=>none
 |k1+1,z2,x1=>aj (decide (x1<(p1.fields.length:Int))) (al (at? p1.fields x1) fun e1=>al (q_ref1_checkType e1.type (i64.wrap (p2+1)) z2) fun r3=>aj (r3.1 != 0) (some (r3.1,r3.2)) ((jE q_ref1_checkType p1 p2 k1) r3.2 (i64.wrap (x1+1)))) (Ab z2)
def lf(q_ref1_checkType:am→Int→Int→Option (Int×Int))(p1:am)(p2 z1:Int):Option (Int×Int):=al (B7 p1) fun r2=>aj (r2 != 0) (some (r2,z1)) (jE q_ref1_checkType p1 p2 aH z1 0)
def eV:Nat→am→Int→Int→Option (Int×Int)
 |0,_,_,_=>none
 |k0+1,p1,p2,p3=>aj (decide (4<p2)) (some (7,p3)) (al (io p1.kind) fun r1=>aj r1 (aj (p3==40) (some (7,p3)) (lf (eV k0) p1 p2 (i64.wrap (p3+1)))) (lf (eV k0) p1 p2 p3))
theorem BM:∀(k0:Nat) (p1:am) (p2 p3:Int),CM prog 143 [mT p1,vi p2,vQ 0] [.box [ci p3]] (eV k0 p1 p2 p3) (fun r=>vi r.1) (fun r=>[.box [ci r.2]])
  |0,_,_,_=>YQ (eV.eq_1 ..)
  |k0+1,p1,p2,p3=>ww 1 49 [] f143 fun r=>(uU (eV.eq_2 ..) (uC (uR .ret sE) (co f143 14 1 fun K k=>have J1:∀{z1},lf (eV k0) p1 p2 z1=some r→K.p [(1,vi p2),(2,vQ 0),(3,vR [pi p1.kind,pi p1.scale,.ro (af.els p1.fields)])] [.box [ci z1]]:=fun{z1} h=>k h (aS (Mq _) fun r2=>(uC (uR .ret sE) (co f143 62 1 fun K k=>have J2:∀{z3},Ab z3=some r→K.p [] [.box [ci z3]]:=fun{z3} h=>k h (uR .ret sE);(uN af p1.fields (fJ f143 250 1 fun R b=>have L1:∀k1 {z2 x1},jE (eV k0) p1 p2 k1 z2 x1=some r→(R k1).p [(1,vi p2),(2,vQ 0),(3,vR [pi p1.kind,pi p1.scale,.ro (af.els p1.fields)]),(31,vi p1.fields.length),(32,vi x1)] [.box [ci z2]]:=uI (fD rfl) fun k1 i1 {z2 x1} h=>b h (uU (jE.eq_2 ..) (uC (dL af fun e1=>(EG true [0] (BM k0 _ _ _) fun r3 _=>(uC (uR .ret (xN (xN sE))) (uJ i1)))) (uR (.exit 0) (xM (uJ J2)))));uE (L1 aH))))));(aS (jK _) fun r1=>(uC (uC (uR .ret (xN sE)) (uJ J1)) (uJ J1))))))
def kR(p1:am):OI:=al (eV aH p1 1 0) fun r1=>some r1.1
theorem oL(p1:am):CT prog 87 [mT p1] (kR p1) vi:=
  cu 6 [3] f87 fun r=>(EG true [0] (BM aH _ _ _) fun r1 _=>uz)
def Ds(l2:List Int):Option (List Int):=some l2
def qK(q_ref1_Ids:(List ae)→Option (List Int))(p1:List ae):Nat→List Int→Int→Option (List Int)
 |0,_,_=>none
 |k1+1,l1,x1=>aj (decide (x1<(p1.length:Int))) (al (at? p1 x1) fun e1=>gX (l1.length+1≤4294967296)<|al (q_ref1_Ids e1.type.fields) fun r1=>gX ((l1++[e1.id]).length+r1.length≤4294967296)<|(qK q_ref1_Ids p1 k1) ((l1++[e1.id])++r1) (i64.wrap (x1+1))) (Ds l1)
def qQ:Nat→(List ae)→Option (List Int)
 |0,_=>none
 |k0+1,p1=>qK (qQ k0) p1 aH [] 0
theorem E7:∀(k0:Nat) (p1:List ae),CT prog 37 [vl af p1] (qQ k0 p1) (vl eI)
  |0,_=>Jw (qQ.eq_1 ..)
  |k0+1,p1=>cu 29 [] f37 fun r=>(uU (qQ.eq_2 ..) (co f37 14 1 fun K k=>have J1:∀{l2},Ds l2=some r→K.p [(3,.one (.sl 0 1 0 l2.length))] [.arr 1 (eI.els l2)]:=fun{l2} h=>k h (Ks eI l2 0 [2] uz);(uN af p1 (LC (.li 3 1) (fJ f37 58 1 fun R b=>have L1:∀k1 {l1 x1},qK (qQ k0) p1 k1 l1 x1=some r→(R k1).p [(0,vl af p1),(3,.one (.sl 0 1 0 l1.length)),(6,vi p1.length),(7,vi x1)] [.arr 1 (eI.els l1)]:=uI (fD rfl) fun k1 i1 {l1 x1} h=>b h (uU (qK.eq_2 ..) (uC (uL af fun e1 a11=>(Bk eI 0 [e1.id] (uM af a11 (aS (E7 k0 _) fun r1=>(Bk eI 0 r1 (uJ i1)))))) (uR (.exit 0) (xM (uJ J1)))));uE (L1 aH))))))
def sy(rec1:Int→OI)(x1:Int):OI:=rec1 (i64.wrap (x1+1))
def dB(rec1:Int→OI)(r2:List Int)(x1 e1:Int):Nat→Int→OI
 |0,_=>none
 |k2+1,x2=>aj (decide (x2<x1)) (al (at? r2 x2) fun e2=>aj (e2==e1) (some 5) ((dB rec1 r2 x1 e1 k2) (i64.wrap (x2+1)))) (sy rec1 x1)
def yh:OI:=some 0
def eO(r2:List Int):Nat→Int→OI
 |0,_=>none
 |k1+1,x1=>aj (decide (x1<(r2.length:Int))) (al (at? r2 x1) fun e1=>aj (decide (e1<1)) (some 3) (dB (eO r2 k1) r2 x1 e1 aH 0)) (yh)
def kg(p1:List ae):OI:=al (kR (am.mk 7 0 p1)) fun r1=>aj (r1 != 0) (some r1) (al (qQ aH p1) fun r2=>eO r2 aH 0)
theorem tS(p1:List ae):CT prog 36 [vl af p1] (kg p1) vi:=
  cu 40 [] f36 fun r=>(aS (oL _) fun r1=>(uC uz (aS (E7 aH _) fun r2=>(kd f36 30 1 yh [] [] uz fun K J2=>(uN eI r2 (fJ f36 122 1 fun R b=>have L1:∀k1 {x1},eO r2 k1 x1=some r→(R k1).p [(4,vl eI r2),(16,vi r2.length),(17,vi x1)] []:=uI (fD rfl) fun k1 i1 {x1} h=>b h (uU (eO.eq_2 ..) (uC (kd f36 1958 1 (sy (eO r2 k1) x1) [(4,vl eI r2),(16,vi r2.length),(17,vi x1)] [] (uJ i1) fun K J1=>(uL eI fun e1 a19=>(uC (uR .ret (xN (xN (xN xF)))) (fJ f36 62670 2 fun R b=>have L2:∀k2 {x2},dB (eO r2 k1) r2 x1 e1 k2 x2=some r→(R k2).p [(4,vl eI r2),(5,vi x1),(6,vi x2),(16,vi r2.length),(17,vi x1)] []:=uI (fD rfl) fun k2 i2 {x2} h=>b h (uU (dB.eq_2 ..) (uC (mZ 8 (dL eI fun e2=>(uM eI a19 (uC (uR .ret (xN (xN (xN (xN xF))))) (uJ i2))))) (uR (.exit 2) (xM (uJ J1)))));uE (L2 aH))))) (uR (.exit 0) (xM (uJ J2)))));uE (L1 aH)))))))
def su(p1:List ae):OI:=al (kg p1) fun r1=>aj (r1 != 0) (some r1) (some 0)
theorem CI(p1:List ae):CT prog 44 [vl af p1,.one (.pv (.s (.slice none 0 0)))] (su p1) vi:=
  cu 30 [] f44 fun r=>(aS (tS _) fun r1=>(uC uz (uF (Rt 0 (uF uz)))))
def FZ:OI:=some (-1)
def pm(p1:List ae)(p2:Int):Nat→Int→OI
 |0,_=>none
 |k1+1,x1=>aj (decide (x1<(p1.length:Int))) (al (at? p1 x1) fun e1=>aj (e1.id==p2) (some x1) ((pm p1 p2 k1) (i64.wrap (x1+1)))) (FZ)
def wC(p1:List ae)(p2:Int):OI:=pm p1 p2 aH 0
theorem NV(p1:List ae)(p2:Int):CT prog 99 [vl af p1,vi p2] (wC p1 p2) vi:=
  cu 20 [] f99 fun r=>(kd f99 6 1 FZ [] [] uz fun K J1=>(uN af p1 (fJ f99 26 1 fun R b=>have L1:∀k1 {x1},pm p1 p2 k1 x1=some r→(R k1).p [(0,vl af p1),(1,vi p2),(7,vi p1.length),(8,vi x1)] []:=uI (fD rfl) fun k1 i1 {x1} h=>b h (uU (pm.eq_2 ..) (uC (dL af fun e1=>(uC jh (uJ i1))) (uR (.exit 0) (xM (uJ J1)))));uE (L1 aH))))
def mO(x4:Bool):OB:=some x4
def ut(p1 p2:am)(x3:Bool):OB:=aj (p1.kind==1) (aj (p2.kind==2) (mO true) (aj x3 (mO true) (mO false))) (aj x3 (mO (p1.kind==2)) (mO false))
def vK(p1 p2:am)(x2:Bool):OB:=aj x2 (some true) (aj (p2.kind==3) (ut p1 p2 (p2.scale==0)) (ut p1 p2 false))
def kH(p1 p2:am)(x1:Bool):OB:=aj x1 (some false) (aj (p1.kind==p2.kind) (vK p1 p2 (p1.scale==p2.scale)) (vK p1 p2 false))
def oO(p1 p2:am):OB:=al (kR p1) fun r1=>aj (r1 != 0) (kH p1 p2 true) (al (kR p2) fun r2=>aj (r2 != 0) (kH p1 p2 true) (al (io p1.kind) fun r3=>aj (!r3) (kH p1 p2 true) (al (io p2.kind) fun r4=>kH p1 p2 (!r4))))
theorem AO(p1 p2:am):CT prog 100 [mT p1,mT p2] (oO p1 p2) vb:=
  cu 67 [] f100 fun r=>(co f100 12 2 fun K k=>have J1:∀{x1},kH p1 p2 x1=some r→K.p [(2,vR (dV p1)),(3,vR (dV p2)),(25,vb x1)] []:=fun{x1} h=>k h (uC uz (co f100 28 2 fun K k=>have J2:∀{x2},vK p1 p2 x2=some r→K.p [(2,vR (dV p1)),(3,vR (dV p2)),(37,vb x2)] []:=fun{x2} h=>k h (uC uz (co f100 30 1 fun K k=>have J3:∀{x3},ut p1 p2 x3=some r→K.p [(2,vR (dV p1)),(3,vR (dV p2)),(5,vb x3)] []:=fun{x3} h=>k h (co f100 62 1 fun K k=>have J4:∀{x4},mO x4=some r→K.p [(4,vb x4)] []:=fun{x4} h=>k h uz;(uC' (fun b21=>(uC (uJ J4) (uC (uH b21 (uJ J4)) (uJ J4)))) (fun b21=>(uC (uH b21 (uJ J4)) (uJ J4)))));(uC (uJ J3) (uJ J3))));(uC (uJ J2) (uJ J2))));(aS (oL _) fun r1=>(uC (uJ J1) (aS (oL _) fun r2=>(uC (uJ J1) (aS (jK _) fun r3=>(uC (uJ J1) (aS (jK _) fun r4=>(uJ J1)))))))))
def nD(rec1:Int→OI)(x1:Int):OI:=rec1 (i64.wrap (x1+1))
def fW(rec1:Int→OI)(q_ref2_adaptable:(List ae)→(List ae)→OI)(x1:Int)(e1 e2:ae)(x3:Bool):OI:=aj x3 (some 2) (al (q_ref2_adaptable e2.type.fields e1.type.fields) fun r7=>aj (r7 != 0) (some r7) (nD rec1 x1))
def nK(rec1:Int→OI)(q_ref2_adaptable:(List ae)→(List ae)→OI)(x1:Int)(e1 e2:ae)(x2:Bool):OI:=aj x2 (some 9) (al (io e2.type.kind) fun r2=>aj (!r2) (aj (e2.type.kind != e1.type.kind) (fW rec1 q_ref2_adaptable x1 e1 e2 true) (al (io e2.type.kind) fun r3=>aj r3 (al (oO e2.type e1.type) fun r4=>fW rec1 q_ref2_adaptable x1 e1 e2 (!r4)) (fW rec1 q_ref2_adaptable x1 e1 e2 false))) (al (io e2.type.kind) fun r5=>aj r5 (al (oO e2.type e1.type) fun r6=>fW rec1 q_ref2_adaptable x1 e1 e2 (!r6)) (fW rec1 q_ref2_adaptable x1 e1 e2 false)))
def Az:OI:=some 0
def cq(q_ref2_adaptable:(List ae)→(List ae)→OI)(p1 p2:List ae):Nat→Int→OI
 |0,_=>none
 |k1+1,x1=>aj (decide (x1<(p2.length:Int))) (al (at? p2 x1) fun e1=>al (wC p1 e1.id) fun r1=>aj (decide (r1<0)) (aj e1.need (some 9) (nD (cq q_ref2_adaptable p1 p2 k1) x1)) (al (at? p1 r1) fun e2=>aj e1.need (nK (cq q_ref2_adaptable p1 p2 k1) q_ref2_adaptable x1 e1 e2 (!e2.need)) (nK (cq q_ref2_adaptable p1 p2 k1) q_ref2_adaptable x1 e1 e2 false))) (Az)
def cr:Nat→(List ae)→(List ae)→OI
 |0,_,_=>none
 |k0+1,p1,p2=>cq (cr k0) p1 p2 aH 0
theorem Bq:∀(k0:Nat) (p1 p2:List ae),CT prog 49 [vl af p1,vl af p2] (cr k0 p1 p2) vi
  |0,_,_=>Jw (cr.eq_1 ..)
  |k0+1,p1,p2=>cu 74 [6,8] f49 fun r=>(uU (cr.eq_2 ..) (kd f49 6 1 Az [] [] uz fun K J4=>(uN af p2 (fJ f49 26 1 fun R b=>have L1:∀k1 {x1},cq (cr k0) p1 p2 k1 x1=some r→(R k1).p [(0,vl af p1),(10,vl af p2),(11,vi p2.length),(12,vi x1)] []:=uI (fD rfl) fun k1 i1 {x1} h=>b h (uU (cq.eq_2 ..) (uC (kd f49 422 1 (nD (cq (cr k0) p1 p2 k1) x1) [(0,vl af p1),(10,vl af p2),(11,vi p2.length),(12,vi x1)] [] (uJ i1) fun K J3=>(dL af fun e1=>(aS (NV _ _) fun r1=>(uC (uC (uR .ret (xN (xN (xN xF)))) (uJ J3)) (dL af fun e2=>(co f49 54076 3 fun K k=>have J1:∀{x2},nK (cq (cr k0) p1 p2 k1) (cr k0) x1 e1 e2 x2=some r→K.p [(0,vl af p1),(6,vQ 0),(8,vQ 1),(10,vl af p2),(11,vi p2.length),(12,vi x1),(34,vb x2)] [.box (Bg e1),.box (Bg e2)]:=fun{x2} h=>k h (uC (uR .ret (xN (xN (xN xF)))) (co f49 108156 3 fun K k=>have J2:∀{x3},fW (cq (cr k0) p1 p2 k1) (cr k0) x1 e1 e2 x3=some r→K.p [(0,vl af p1),(6,vQ 0),(8,vQ 1),(10,vl af p2),(11,vi p2.length),(12,vi x1),(62,vb x3)] [.box (Bg e1),.box (Bg e2)]:=fun{x3} h=>k h (uC (uR .ret (xN (xN (xN xF)))) (aS (Bq k0 _ _) fun r7=>(uC (uR .ret (xN (xN (xN xF)))) (uJ J3))));(aS (jK _) fun r2=>(uC (uC (uJ J2) (aS (jK _) fun r3=>(uC (aS (AO _ _) fun r4=>(uJ J2)) (uJ J2)))) (aS (jK _) fun r5=>(uC (aS (AO _ _) fun r6=>(uJ J2)) (uJ J2)))))));(uC (uJ J1) (uJ J1)))))))) (uR (.exit 0) (xM (uJ J4)))));uE (L1 aH)))))
def tG(p1 p2:List ae):Option ((List (List ac))×Int):=al (su p1) fun r1=>aj (r1 != 0) (some ([],r1)) (al (kg p2) fun r2=>aj (r2 != 0) (some ([],r2)) (al (cr aH p1 p2) fun r3=>aj (r3 != 0) (some ([],r3)) (some ([],0))))
theorem Gl(p1 p2:List ae):CT prog 15 [vl af p1,vl af p2,.one (.pv (.s (.slice none 0 0)))] (tG p1 p2) (fun r=> .tp [vl (eL ak) r.1,vi r.2]):=
  cu 46 [] f15 fun r=>(uPn (CI _) fun r1 _=>(uC uz (aS (tS _) fun r2=>(uC uz (aS (Bq aH _ _) fun r3=>(uC uz (Rt 0 (uF uz))))))))
def Ig:Option (ae×Bool):=some ((mI.mk 0 ByteArray.empty false (am.mk 0 0 [])),false)
def l0(p1:List ae)(p2:Int):Nat→Int→Option (ae×Bool)
 |0,_=>none
 |k1+1,x1=>aj (decide (x1<(p1.length:Int))) (al (at? p1 x1) fun e1=>aj (e1.id==p2) (some (e1,true)) ((l0 p1 p2 k1) (i64.wrap (x1+1)))) (Ig)
def qX(p1:List ae)(p2:Int):Option (ae×Bool):=l0 p1 p2 aH 0
abbrev Ul:List CV:=[ci (0:Int),rX ByteArray.empty,cb false,ci (0:Int),ci (0:Int),.pv (.s (.slice none 0 0))]
theorem zc(p1:List ae)(p2:Int):CT prog 70 [vl af p1,vi p2] (qX p1 p2) (fun r=> .tp [mf r.1,vb r.2]):=
  cu 25 [4] f70 fun r=>(kd f70 6 1 Ig [(4,vQ 0)] [.box Ul] uz fun K J1=>(uN af p1 (fJ f70 26 1 fun R b=>have L1:∀k1 {x1},l0 p1 p2 k1 x1=some r→(R k1).p [(0,vl af p1),(1,vi p2),(4,vQ 0),(8,vi p1.length),(9,vi x1)] [.box Ul]:=uI (fD rfl) fun k1 i1 {x1} h=>b h (uU (l0.eq_2 ..) (uC (uL af fun e1 a10=>(uC (uM af a10 jh) (uJ i1))) (uR (.exit 0) (xM (uJ J1)))));uE (L1 aH))))
def mQ(p2:am)(x5:Bool):Option (am×Int):=aj x5 (some ((am.mk 2 0 []),0)) (some (p2,0))
def mY(p1:aZ)(p2:am)(x4:Bool):Option (am×Int):=aj x4 (some ((am.mk 0 0 []),2)) (aj (p1.kind==2) (mQ p2 true) (mQ p2 (decide (4≤p1.kind))))
def im(p1:aZ)(p2:am)(x3:Bool):Option (am×Int):=aj x3 (some ((am.mk 0 0 []),2)) (aj (decide (4≤p1.kind)) (mY p1 p2 (p2.kind != 5)) (mY p1 p2 false))
def dQ(p1:aZ)(p2:am)(x2:Bool):Option (am×Int):=aj x2 (some ((am.mk 0 0 []),3)) (al (io p2.kind) fun r4=>aj (!r4) (some ((am.mk 0 0 []),2)) (aj (p1.kind==3) (aj (p2.kind != 2) (aj (p2.kind != 3) (im p1 p2 (p2.kind != 4)) (im p1 p2 false)) (im p1 p2 false)) (im p1 p2 false)))
def mR(p1:aZ)(p2:am)(x1:Bool):Option (am×Int):=aj x1 (al (dG p1.param 1 1000000) fun r3=>aj (!r3) (dQ p1 p2 true) (aj (!x1) (dQ p1 p2 (p1.param != 0)) (dQ p1 p2 false))) (aj (!x1) (dQ p1 p2 (p1.param != 0)) (dQ p1 p2 false))
def fp(p1:aZ)(p2:am):Option (am×Int):=al (kR p2) fun r1=>aj (r1 != 0) (some ((am.mk 0 0 []),r1)) (al (dG p1.kind 0 7) fun r2=>aj (!r2) (some ((am.mk 0 0 []),3)) (aj (p1.kind==2) (mR p1 p2 true) (mR p1 p2 (p1.kind==3))))
theorem qR(p1:aZ)(p2:am):CT prog 71 [.ag [ci p1.kind,ci p1.param],mT p2] (fp p1 p2) (fun r=> .tp [mT r.1,vi r.2]):=
  cu 87 [4] f71 fun r=>(aS (oL _) fun r1=>(uC uz (aS (dp _ _ _) fun r2=>(uC uz (co f71 30 1 fun K k=>have J1:∀{x1},mR p1 p2 x1=some r→K.p [(2,vR [pi p1.kind,pi p1.param]),(3,vR (dV p2)),(4,vQ 0),(7,vb x1)] [.box xT]:=fun{x1} h=>k h (co f71 124 2 fun K k=>have J2:∀{x2},dQ p1 p2 x2=some r→K.p [(2,vR [pi p1.kind,pi p1.param]),(3,vR (dV p2)),(4,vQ 0),(42,vb x2)] [.box xT]:=fun{x2} h=>k h (uC uz (aS (jK _) fun r4=>(uC uz (co f71 508 2 fun K k=>have J3:∀{x3},im p1 p2 x3=some r→K.p [(2,vR [pi p1.kind,pi p1.param]),(3,vR (dV p2)),(4,vQ 0),(66,vb x3)] [.box xT]:=fun{x3} h=>k h (uC uz (co f71 1020 2 fun K k=>have J4:∀{x4},mY p1 p2 x4=some r→K.p [(2,vR [pi p1.kind,pi p1.param]),(3,vR (dV p2)),(4,vQ 0),(75,vb x4)] [.box xT]:=fun{x4} h=>k h (uC uz (co f71 2044 2 fun K k=>have J5:∀{x5},mQ p2 x5=some r→K.p [(3,vR (dV p2)),(4,vQ 0),(84,vb x5)] [.box xT]:=fun{x5} h=>k h (uC uz uz);(uC (uJ J5) (uJ J5))));(uC (uJ J4) (uJ J4))));(uC (uC (uC (uJ J3) (uJ J3)) (uJ J3)) (uJ J3))))));(uC (aS (dp _ _ _) fun r3=>(uC (uJ J2) (uC (uJ J2) (uJ J2)))) (uC (uJ J2) (uJ J2))));(uC (uJ J1) (uJ J1)))))))
def wN(rec1:Int→OI)(x1:Int):OI:=rec1 (i64.wrap (x1+1))
def n4(rec1:Int→OI)(p1:cD)(x1:Int)(e1:bm):Nat→Int→OI
 |0,_=>none
 |k2+1,x2=>aj (decide (x2<x1)) (al (at? p1.fields x2) fun e2=>al (some ((e2.source==e1.source)&&(((e2.transform.kind==e1.transform.kind)&&((e2.transform.param==e1.transform.param)&&true))&&true))) fun y1=>aj y1 (some 5) ((n4 rec1 p1 x1 e1 k2) (i64.wrap (x2+1)))) (wN rec1 x1)
def Ep:OI:=some 0
def jk(p1:cD)(p2:List ae):Nat→Int→OI
 |0,_=>none
 |k1+1,x1=>aj (decide (x1<(p1.fields.length:Int))) (al (at? p1.fields x1) fun e1=>al (qX p2 e1.source) fun r1=>aj (!r1.2) (some 9) (al (fp e1.transform r1.1.type) fun r2=>aj (r2.2 != 0) (some r2.2) (n4 (jk p1 p2 k1) p1 x1 e1 aH 0))) (Ep)
def zf(p1:cD)(p2:List ae):OI:=aj (decide (4<(p1.fields.length:Int))) (some 7) (jk p1 p2 aH 0)
abbrev U6(p1:cD)(p2:(List ae))(x1:Int):Fr:=[(1,vl af p2),(2,.one (.pv (.rp [[.ro (aF.els p1.fields)]] 0 0))),(17,vl aF p1.fields),(18,vi (p1.fields.length:Int)),(19,vi x1)]
theorem LU(p1:cD)(p2:List ae):CT prog 47 [.ag [cl aF p1.fields],vl af p2] (zf p1 p2) vi:=
  cu 57 [6,7,9] f47 fun r=>(uN aF p1.fields (uC uz (kd f47 14 1 Ep [] [] uz fun K J2=>(uN aF p1.fields (fJ f47 58 1 fun R b=>have L1:∀k1 {x1},jk p1 p2 k1 x1=some r→(R k1).p (U6 p1 p2 x1) []:=uI (fD rfl) fun k1 i1 {x1} h=>b h (uU (jk.eq_2 ..) (uC (kd f47 934 1 (wN (jk p1 p2 k1) x1) (U6 p1 p2 x1) [] (uJ i1) fun K J1=>(dL aF fun e1=>(aS (zc _ _) fun r1=>(uC (uR .ret (xN (xN (xN xF)))) (aS (qR _ _) fun r2=>(uC (uR .ret (xN (xN (xN xF)))) (fJ f47 119614 2 fun R b=>have L2:∀k2 {x2},n4 (jk p1 p2 k1) p1 x1 e1 k2 x2=some r→(R k2).p [(1,vl af p2),(2,vR [.ro (aF.els p1.fields)]),(5,vi x1),(6,vQ 0),(11,vi x2),(17,vl aF p1.fields),(18,vi p1.fields.length),(19,vi x1)] [.box [ci e1.source,ci e1.transform.kind,ci e1.transform.param],.dead,.dead]:=uI (fD rfl) fun k2 i2 {x2} h=>b h (uU (n4.eq_2 ..) (uC (mZ 6 (dL aF fun e2=>(uY 55 vb fun y1=>(uC (uR .ret (xN (xN (xN (xN xF))))) (uJ i2))))) (uR (.exit 2) (xM (uJ J1)))));uE (L2 aH)))))))) (uR (.exit 0) (xM (uJ J2)))));uE (L1 aH))))))
def pc(rec3:Bool→Int→OI)(x5:Int)(x6:Bool):OI:=rec3 x6 (i64.wrap (x5+1))
def pd(rec2:Int→Int→OI)(x3 x8:Int):OI:=rec2 x8 (i64.wrap (x3+1))
def mz(rec2:Int→Int→OI)(x2 x3:Int)(x7:Bool):OI:=aj x7 (pd rec2 x3 x3) (pd rec2 x3 x2)
def dO(rec2:Int→Int→OI)(p1:ay)(e1:cD)(x2 x3:Int):Nat→Bool→Int→OI
 |0,_,_=>none
 |k3+1,x4,x5=>aj (decide (x5<(e1.fields.length:Int))) (al (at? e1.fields x5) fun e2=>al (at? p1.schemas x3) fun e3=>al (qX e3 e2.source) fun r1=>aj x4 (pc (dO rec2 p1 e1 x2 x3 k3) x5 r1.2) (pc (dO rec2 p1 e1 x2 x3 k3) x5 false)) (mz rec2 x2 x3 x4)
def kq(rec1:Int→OI)(p1:ay)(x1:Int)(e1:cD)(x9:Int)(x10:Bool):OI:=aj x10 (some 9) (al (at? p1.schemas x9) fun e4=>al (zf e1 e4) fun r2=>aj (r2 != 0) (some r2) (rec1 (i64.wrap (x1+1))))
def pk(rec1:Int→OI)(p1:ay)(x1:Int)(e1:cD)(x9:Int):OI:=aj (decide (x9<0)) (kq rec1 p1 x1 e1 x9 true) (aj (x1==(i64.wrap ((p1.specs.length:Int)-1))) (kq rec1 p1 x1 e1 x9 (x9 != (i64.wrap ((p1.schemas.length:Int)-1)))) (kq rec1 p1 x1 e1 x9 false))
def dq(rec1:Int→OI)(p1:ay)(x1:Int)(e1:cD):Nat→Int→Int→OI
 |0,_,_=>none
 |k2+1,x2,x3=>aj (decide (x3<(p1.schemas.length:Int))) (dO (dq rec1 p1 x1 e1 k2) p1 e1 x2 x3 aH true 0) (pk rec1 p1 x1 e1 x2)
def zb:OI:=some 0
def bI(p1:ay):Nat→Int→OI
 |0,_=>none
 |k1+1,x1=>aj (decide (x1<(p1.specs.length:Int))) (al (at? p1.specs x1) fun e1=>dq (bI p1 k1) p1 x1 e1 aH (-1) 0) (zb)
def tK(p1:ay):OI:=bI p1 aH 0
abbrev Fj(e1:cD):List CV:=[cl aF e1.fields]
theorem FK(p1:ay):CT prog 38 [mM p1] (tK p1) vi:=
  cu 82 [4,9,10] f38 fun r=>(kd f38 6 1 zb [] [] uz fun K J6=>(uN fk p1.specs (fJ f38 26 1 fun R b=>have L1:∀k1 {x1},bI p1 k1 x1=some r→(R k1).p [(1,vR (bB p1)),(14,vl fk p1.specs),(15,vi p1.specs.length),(16,vi x1)] []:=uI (fD rfl) fun k1 i1 {x1} h=>b h (uU (bI.eq_2 ..) (uC (dL fk fun e1=>(co f38 6758 3 fun K k=>have J4:∀{x9},pk (bI p1 k1) p1 x1 e1 x9=some r→K.p [(1,vR (bB p1)),(3,vi x1),(4,vQ 0),(5,vi x9),(14,vl fk p1.specs),(15,vi p1.specs.length),(16,vi x1)] [.box (Fj e1)]:=fun{x9} h=>k h (co f38 27036 4 fun K k=>have J5:∀{x10},kq (bI p1 k1) p1 x1 e1 x9 x10=some r→K.p [(1,vR (bB p1)),(4,vQ 0),(5,vi x9),(14,vl fk p1.specs),(15,vi p1.specs.length),(16,vi x1),(70,vb x10)] [.box (Fj e1)]:=fun{x10} h=>k h (uC jh (mZ 6 (dL (eL af) fun e4=>(aS (LU _ _) fun r2=>(uC jh (uJ i1))))));(uC (uJ J5) (uN fk p1.specs (uC (uN (eL af) p1.schemas (uJ J5)) (uJ J5)))));(uN (eL af) p1.schemas (fJ f38 27034 1 fun R b=>have L2:∀k2 {x2 x3},dq (bI p1 k1) p1 x1 e1 k2 x2 x3=some r→(R k2).p [(1,vR (bB p1)),(3,vi x1),(4,vQ 0),(5,vi x2),(14,vl fk p1.specs),(15,vi p1.specs.length),(16,vi x1),(23,vi p1.schemas.length),(24,vi x3)] [.box (Fj e1)]:=uI (fD rfl) fun k2 i2 {x2 x3} h=>b h (uU (dq.eq_2 ..) (uC (co f38 432550 1 fun K k=>have J3:∀{x8},pd (dq (bI p1 k1) p1 x1 e1 k2) x3 x8=some r→K.p [(1,vR (bB p1)),(3,vi x1),(4,vQ 0),(5,vi x8),(14,vl fk p1.specs),(15,vi p1.specs.length),(16,vi x1),(23,vi p1.schemas.length),(24,vi x3)] [.box (Fj e1)]:=fun{x8} h=>k h (uJ i2);(co f38 6920806 2 fun K k=>have J2:∀{x7},mz (dq (bI p1 k1) p1 x1 e1 k2) x2 x3 x7=some r→K.p [(1,vR (bB p1)),(3,vi x1),(4,vQ 0),(5,vi x2),(6,vi x3),(7,vb x7),(14,vl fk p1.specs),(15,vi p1.specs.length),(16,vi x1),(23,vi p1.schemas.length),(24,vi x3)] [.box (Fj e1)]:=fun{x7} h=>k h (uC (uJ J3) (uJ J3));(uN aF e1.fields (fJ f38 27683226 1 fun R b=>have L3:∀k3 {x4 x5},dO (dq (bI p1 k1) p1 x1 e1 k2) p1 e1 x2 x3 k3 x4 x5=some r→(R k3).p [(1,vR (bB p1)),(3,vi x1),(4,vQ 0),(5,vi x2),(6,vi x3),(7,vb x4),(14,vl fk p1.specs),(15,vi p1.specs.length),(16,vi x1),(23,vi p1.schemas.length),(24,vi x3),(28,vl aF e1.fields),(29,vi e1.fields.length),(30,vi x5)] [.box (Fj e1)]:=uI (fD rfl) fun k3 i3 {x4 x5} h=>b h (uU (dO.eq_2 ..) (uC (co f38 442931622 1 fun K k=>have J1:∀{x6},pc (dO (dq (bI p1 k1) p1 x1 e1 k2) p1 e1 x2 x3 k3) x5 x6=some r→K.p [(1,vR (bB p1)),(3,vi x1),(4,vQ 0),(5,vi x2),(6,vi x3),(7,vb x6),(14,vl fk p1.specs),(15,vi p1.specs.length),(16,vi x1),(23,vi p1.schemas.length),(24,vi x3),(28,vl aF e1.fields),(29,vi e1.fields.length),(30,vi x5)] [.box (Fj e1)]:=fun{x6} h=>k h (uJ i3);(dL aF fun e2=>(Im 13 1 [2,3] (dL (eL af) fun e3=>(aS (zc _ _) fun r1=>(uC (uJ J1) (uJ J1))))))) (uR (.exit 4) (xM (uJ J2)))));uE (L3 aH))))) (uR (.exit 2) (xM (uJ J4)))));uE (L2 aH))))) (uR (.exit 0) (xM (uJ J6)))));uE (L1 aH))))
def cg(rec1:Int→OB)(x2:Int)(x3:Bool):OB:=aj x3 (some false) (rec1 (i64.wrap (x2+1)))
def zX:OB:=some true
def bj(p1:ByteArray):Nat→Int→OB
 |0,_=>none
 |k1+1,x2=>aj (decide (x2<(p1.size:Int))) (gX (0≤x2∧x2<(p1.size:Int))<|al (some (decide (97≤((p1.data.toList.getD x2.toNat 0).toNat:Int)))) fun y1=>aj y1 (al (some (decide (((p1.data.toList.getD x2.toNat 0).toNat:Int)≤122))) fun y2=>aj y2 (cg (bj p1 k1) x2 false) (al (some (decide (48≤((p1.data.toList.getD x2.toNat 0).toNat:Int)))) fun y3=>aj y3 (al (some (decide (((p1.data.toList.getD x2.toNat 0).toNat:Int)≤57))) fun y4=>aj y4 (cg (bj p1 k1) x2 false) (aj (((p1.data.toList.getD x2.toNat 0).toNat:Int)==95) (cg (bj p1 k1) x2 false) (aj (((p1.data.toList.getD x2.toNat 0).toNat:Int)==46) (cg (bj p1 k1) x2 false) (aj (((p1.data.toList.getD x2.toNat 0).toNat:Int)==45) (cg (bj p1 k1) x2 false) (cg (bj p1 k1) x2 (!(((p1.data.toList.getD x2.toNat 0).toNat:Int)==47))))))) (aj (((p1.data.toList.getD x2.toNat 0).toNat:Int)==95) (cg (bj p1 k1) x2 false) (aj (((p1.data.toList.getD x2.toNat 0).toNat:Int)==46) (cg (bj p1 k1) x2 false) (aj (((p1.data.toList.getD x2.toNat 0).toNat:Int)==45) (cg (bj p1 k1) x2 false) (cg (bj p1 k1) x2 (!(((p1.data.toList.getD x2.toNat 0).toNat:Int)==47)))))))) (al (some (decide (48≤((p1.data.toList.getD x2.toNat 0).toNat:Int)))) fun y5=>aj y5 (al (some (decide (((p1.data.toList.getD x2.toNat 0).toNat:Int)≤57))) fun y6=>aj y6 (cg (bj p1 k1) x2 false) (aj (((p1.data.toList.getD x2.toNat 0).toNat:Int)==95) (cg (bj p1 k1) x2 false) (aj (((p1.data.toList.getD x2.toNat 0).toNat:Int)==46) (cg (bj p1 k1) x2 false) (aj (((p1.data.toList.getD x2.toNat 0).toNat:Int)==45) (cg (bj p1 k1) x2 false) (cg (bj p1 k1) x2 (!(((p1.data.toList.getD x2.toNat 0).toNat:Int)==47))))))) (aj (((p1.data.toList.getD x2.toNat 0).toNat:Int)==95) (cg (bj p1 k1) x2 false) (aj (((p1.data.toList.getD x2.toNat 0).toNat:Int)==46) (cg (bj p1 k1) x2 false) (aj (((p1.data.toList.getD x2.toNat 0).toNat:Int)==45) (cg (bj p1 k1) x2 false) (cg (bj p1 k1) x2 (!(((p1.data.toList.getD x2.toNat 0).toNat:Int)==47)))))))) (zX)
def vB(p1:ByteArray)(x1:Bool):OB:=aj x1 (some false) (bj p1 aH 0)
def AH(p1:ByteArray):OB:=aj (decide ((p1.size:Int)<1)) (vB p1 true) (vB p1 (decide (64<(p1.size:Int))))
theorem KE(p1:ByteArray):CT prog 69 [vs p1] (AH p1) vb:=
  cu 53 [] f69 fun r=>(co f69 12 2 fun K k=>have J1:∀{x1},vB p1 x1=some r→K.p [(0,vs p1),(12,vb x1)] []:=fun{x1} h=>k h (uC uz (kd f69 14 1 zX [] [] uz fun K J3=>(fJ f69 58 1 fun R b=>have L1:∀k1 {x2},bj p1 k1 x2=some r→(R k1).p [(0,vs p1),(3,vi x2)] []:=uI (fD rfl) fun k1 i1 {x2} h=>b h (uU (bj.eq_2 ..) (uC (uG (WS 23 (kS f69 [1,1,0,1,0,0,1,0,0,1,0] 3) fun K k=>have J2:∀{x3},cg (bj p1 k1) x2 x3=some r→K.p [(0,vs p1),(3,vi x2),(52,vb x3)] []:=fun{x3} h=>k h (uC jh (uJ i1));(uY 23 vb fun y1=>(uC (uY 26 vb fun y2=>(uC (uJ J2) (uY 30 vb fun y3=>(uC (uY 33 vb fun y4=>(uC (uJ J2) (uC (uJ J2) (uC (uJ J2) (uC (uJ J2) (uJ J2)))))) (uC (uJ J2) (uC (uJ J2) (uC (uJ J2) (uJ J2)))))))) (uY 30 vb fun y5=>(uC (uY 33 vb fun y6=>(uC (uJ J2) (uC (uJ J2) (uC (uJ J2) (uC (uJ J2) (uJ J2)))))) (uC (uJ J2) (uC (uJ J2) (uC (uJ J2) (uJ J2)))))))))) (uR (.exit 0) (xM (uJ J3)))));uE (L1 aH))));(uC (uJ J1) (uJ J1)))
def pg(rec1:Int→OB)(x2:Int)(x3:Bool):OB:=aj x3 (some false) (rec1 (i64.wrap (x2+1)))
def tZ:OB:=some true
def gx(p1:ByteArray):Nat→Int→OB
 |0,_=>none
 |k1+1,x2=>aj (decide (x2<(p1.size:Int))) (gX (0≤x2∧x2<(p1.size:Int))<|al (some (decide (((p1.data.toList.getD x2.toNat 0).toNat:Int)<32))) fun y1=>aj y1 (pg (gx p1 k1) x2 true) (gX (0≤x2∧x2<(p1.size:Int))<|pg (gx p1 k1) x2 (((p1.data.toList.getD x2.toNat 0).toNat:Int)==127))) (tZ)
def o8(p1:ByteArray)(x1:Bool):OB:=aj x1 (some false) (gx p1 aH 0)
def tD(p1:ByteArray):OB:=al (utf8_ValidString p1) fun r1=>aj (!r1) (o8 p1 true) (o8 p1 (decide (256<(p1.size:Int))))
theorem Gv(p1:ByteArray):CT prog 233 [vs p1] (tD p1) vb:=
  cu 28 [] f233 fun r=>(co f233 12 2 fun K k=>have J1:∀{x1},o8 p1 x1=some r→K.p [(0,vs p1),(11,vb x1)] []:=fun{x1} h=>k h (uC uz (kd f233 14 1 tZ [] [] uz fun K J3=>(fJ f233 58 1 fun R b=>have L1:∀k1 {x2},gx p1 k1 x2=some r→(R k1).p [(0,vs p1),(3,vi x2)] []:=uI (fD rfl) fun k1 i1 {x2} h=>b h (uU (gx.eq_2 ..) (uC (co f233 1864 3 fun K k=>have J2:∀{x3},pg (gx p1 k1) x2 x3=some r→K.p [(0,vs p1),(3,vi x2),(27,vb x3)] []:=fun{x3} h=>k h (uC jh (uJ i1));(uG (uY 21 vb fun y1=>(uC (uJ J2) (uG (uJ J2)))))) (uR (.exit 0) (xM (uJ J3)))));uE (L1 aH))));(aS (zn _) fun r1=>(uC (uJ J1) (uJ J1))))
def s8(x2:Bool):OB:=some x2
def sO(x3:Bool):OB:=some x3
def sH(x4:Bool):OB:=some x4
def td(x5:Bool):OB:=some x5
def pT(x6:Bool):OB:=some x6
def sQ(x7:Bool):OB:=some x7
def qb(x8:Bool):OB:=some x8
def pU(x9:Bool):OB:=some x9
def sI(p1:ac)(x1:Bool):OB:=aj (p1.kind==0) (aj x1 (aj (p1.n==0) (s8 (p1.scale==0)) (s8 false)) (s8 false)) (aj (p1.kind==1) (aj x1 (al (fM p1.n 0 1) fun r1=>aj r1 (sO (p1.scale==0)) (sO false)) (sO false)) (aj (p1.kind==2) (aj x1 (al (fM p1.n (-999999999999999999) 999999999999999999) fun r2=>aj r2 (sH (p1.scale==0)) (sH false)) (sH false)) (aj (p1.kind==3) (aj x1 (al (fM p1.n (-999999999999999999) 999999999999999999) fun r3=>aj r3 (al (fM p1.scale 0 12) fun r4=>td r4) (td false)) (td false)) (aj (p1.kind==4) (aj ((p1.items.length:Int)==0) (aj (p1.n==0) (aj (p1.scale==0) (al (tD p1.s) fun r5=>pT r5) (pT false)) (pT false)) (pT false)) (aj (p1.kind==5) (aj x1 (al (fM p1.n (-62135596800) 253402300799) fun r6=>aj r6 (sQ (p1.scale==0)) (sQ false)) (sQ false)) (aj (p1.kind==6) (aj (p1.s.toList==(ByteArray.mk #[]).toList) (aj (p1.n==0) (aj (p1.scale==0) (qb (decide ((p1.items.length:Int)≤64))) (qb false)) (qb false)) (qb false)) (aj (p1.kind==7) (aj (p1.s.toList==(ByteArray.mk #[]).toList) (aj (p1.n==0) (aj (p1.scale==0) (pU (decide (0<(p1.items.length:Int)))) (pU false)) (pU false)) (pU false)) (some false))))))))
def Cu(p1:ac):OB:=aj (p1.s.toList==(ByteArray.mk #[]).toList) (sI p1 ((p1.items.length:Int)==0)) (sI p1 false)
theorem MU(p1:ac):CT prog 191 [mV p1] (Cu p1) vb:=
  cu 143 [] f191 fun r=>(co f191 6 1 fun K k=>have J1:∀{x1},sI p1 x1=some r→K.p [(1,vR [pi p1.kind,pi p1.n,pi p1.scale,.s (.string p1.s),.ro (ak.els p1.items)]),(3,vb x1)] []:=fun{x1} h=>k h (uC (co f191 468 3 fun K k=>have J2:∀{x2},s8 x2=some r→K.p [(2,vb x2)] []:=fun{x2} h=>k h uz;(uC (uC (uJ J2) (uJ J2)) (uJ J2))) (uC (co f191 1884 3 fun K k=>have J3:∀{x3},sO x3=some r→K.p [(2,vb x3)] []:=fun{x3} h=>k h uz;(uC (aS (jn _ _ _) fun r1=>(uC (uJ J3) (uJ J3))) (uJ J3))) (uC (co f191 7548 3 fun K k=>have J4:∀{x4},sH x4=some r→K.p [(2,vb x4)] []:=fun{x4} h=>k h uz;(uC (aS (jn _ _ _) fun r2=>(uC (uJ J4) (uJ J4))) (uJ J4))) (uC (co f191 30204 3 fun K k=>have J5:∀{x5},td x5=some r→K.p [(2,vb x5)] []:=fun{x5} h=>k h uz;(uC (aS (jn _ _ _) fun r3=>(uC (aS (jn _ _ _) fun r4=>(uJ J5)) (uJ J5))) (uJ J5))) (uC (co f191 120828 3 fun K k=>have J6:∀{x6},pT x6=some r→K.p [(2,vb x6)] []:=fun{x6} h=>k h uz;(uN ak p1.items (uC (uC (uC (aS (Gv _) fun r5=>(uJ J6)) (uJ J6)) (uJ J6)) (uJ J6)))) (uC (co f191 483324 3 fun K k=>have J7:∀{x7},sQ x7=some r→K.p [(2,vb x7)] []:=fun{x7} h=>k h uz;(uC (aS (jn _ _ _) fun r6=>(uC (uJ J7) (uJ J7))) (uJ J7))) (uC (co f191 1933308 3 fun K k=>have J8:∀{x8},qb x8=some r→K.p [(2,vb x8)] []:=fun{x8} h=>k h uz;(uC (uC (uC (uN ak p1.items (uJ J8)) (uJ J8)) (uJ J8)) (uJ J8))) (uC (co f191 7733244 3 fun K k=>have J9:∀{x9},pU x9=some r→K.p [(2,vb x9)] []:=fun{x9} h=>k h uz;(uC (uC (uC (uN ak p1.items (uJ J9)) (uJ J9)) (uJ J9)) (uJ J9))) uz))))))));(uC (uN ak p1.items (uJ J1)) (uJ J1)))
def AK(z3:Int):Option (Bool×Int):=some (true,z3)
def pZ(q_ref1_sound:ac→Int→Int→Option (Bool×Int))(p1:ac)(p2:Int):Nat→Int→Int→Option (Bool×Int)
 |0,_,_=>none
 |k1+1,z2,x2=>aj (decide (x2<(p1.items.length:Int))) (al (at? p1.items x2) fun e1=>al (q_ref1_sound e1 (i64.wrap (p2+1)) z2) fun r2=>aj (!r2.1) (some (false,r2.2)) ((pZ q_ref1_sound p1 p2 k1) r2.2 (i64.wrap (x2+1)))) (AK z2)
def pV(q_ref1_sound:ac→Int→Int→Option (Bool×Int))(p1:ac)(p2 z1:Int)(x1:Bool):Option (Bool×Int):=aj x1 (some (false,z1)) (pZ q_ref1_sound p1 p2 aH z1 0)
def tc(q_ref1_sound:ac→Int→Int→Option (Bool×Int))(p1:ac)(p2 z1:Int):Option (Bool×Int):=aj (decide (4<p2)) (pV q_ref1_sound p1 p2 z1 true) (aj (decide (256<z1)) (pV q_ref1_sound p1 p2 z1 true) (al (Cu p1) fun r1=>pV q_ref1_sound p1 p2 z1 (!r1)))
def ke:Nat→ac→Int→Int→Option (Bool×Int)
 |0,_,_,_=>none
 |k0+1,p1,p2,p3=>aj (p1.kind != 0) (tc (ke k0) p1 p2 (i64.wrap (p3+1))) (tc (ke k0) p1 p2 p3)
theorem FT:∀(k0:Nat) (p1:ac) (p2 p3:Int),CM prog 145 [mV p1,vi p2,vQ 0] [.box [ci p3]] (ke k0 p1 p2 p3) (fun r=>vb r.1) (fun r=>[.box [ci r.2]])
  |0,_,_,_=>YQ (ke.eq_1 ..)
  |k0+1,p1,p2,p3=>ww 1 46 [] f145 fun r=>(uU (ke.eq_2 ..) (co f145 6 1 fun K k=>have J1:∀{z1},tc (ke k0) p1 p2 z1=some r→K.p [(1,vi p2),(2,vQ 0),(3,vR (mq p1))] [.box [ci z1]]:=fun{z1} h=>k h (co f145 28 2 fun K k=>have J2:∀{x1},pV (ke k0) p1 p2 z1 x1=some r→K.p [(1,vi p2),(2,vQ 0),(3,vR (mq p1)),(28,vb x1)] [.box [ci z1]]:=fun{x1} h=>k h (uC (uR .ret sE) (co f145 30 1 fun K k=>have J3:∀{z3},AK z3=some r→K.p [] [.box [ci z3]]:=fun{z3} h=>k h (uR .ret sE);(uN ak p1.items (fJ f145 122 1 fun R b=>have L1:∀k1 {z2 x2},pZ (ke k0) p1 p2 k1 z2 x2=some r→(R k1).p [(1,vi p2),(2,vQ 0),(3,vR (mq p1)),(31,vi p1.items.length),(32,vi x2)] [.box [ci z2]]:=uI (fD rfl) fun k1 i1 {z2 x2} h=>b h (uU (pZ.eq_2 ..) (uC (dL ak fun e1=>(EG true [0] (FT k0 _ _ _) fun r2 _=>(uC (uR .ret (xN (xN sE))) (uJ i1)))) (uR (.exit 0) (xM (uJ J3)))));uE (L1 aH)))));(uC (uJ J2) (uC (uJ J2) (aS (MU _) fun r1=>(uJ J2)))));(uC (uJ J1) (uJ J1))))
def tT(p1:ac):OB:=al (ke aH p1 1 0) fun r1=>some r1.1
theorem ym(p1:ac):CT prog 93 [mV p1] (tT p1) vb:=
  cu 6 [3] f93 fun r=>(EG true [0] (FT aH _ _ _) fun r1 _=>uz)
def Cs(rec1:Int→OB)(q_ref1_of:am→ac→OB)(p1:am)(p2:ac)(x3 x4:Int):OB:=al (at? p1.fields x4) fun e1=>al (at? p2.items x3) fun e2=>al (q_ref1_of e1.type e2) fun r1=>aj (!r1) (some false) (rec1 (i64.wrap (x3+1)))
def ET:OB:=some true
def j8(q_ref1_of:am→ac→OB)(p1:am)(p2:ac):Nat→Int→OB
 |0,_=>none
 |k1+1,x3=>aj (decide (x3<(p2.items.length:Int))) (aj (p1.kind==6) (Cs (j8 q_ref1_of p1 p2 k1) q_ref1_of p1 p2 x3 0) (Cs (j8 q_ref1_of p1 p2 k1) q_ref1_of p1 p2 x3 x3)) (ET)
def we(q_ref1_of:am→ac→OB)(p1:am)(p2:ac)(x2:Bool):OB:=aj x2 (some false) (j8 q_ref1_of p1 p2 aH 0)
def Cn(q_ref1_of:am→ac→OB)(p1:am)(p2:ac)(x1:Bool):OB:=aj x1 (some false) (aj (p1.kind==7) (we q_ref1_of p1 p2 ((p2.items.length:Int) != (p1.fields.length:Int))) (we q_ref1_of p1 p2 false))
def jT:Nat→am→ac→OB
 |0,_,_=>none
 |k0+1,p1,p2=>aj (p2.kind==0) (some true) (aj (p2.kind != p1.kind) (Cn (jT k0) p1 p2 true) (Cn (jT k0) p1 p2 (p2.scale != p1.scale)))
theorem Le:∀(k0:Nat) (p1:am) (p2:ac),CT prog 135 [mT p1,mV p2] (jT k0 p1 p2) vb
  |0,_,_=>Jw (jT.eq_1 ..)
  |k0+1,p1,p2=>cu 58 [] f135 fun r=>(uU (jT.eq_2 ..) (uC uz (co f135 28 2 fun K k=>have J1:∀{x1},Cn (jT k0) p1 p2 x1=some r→K.p [(2,vR (dV p1)),(3,vR (mq p2)),(21,vb x1)] []:=fun{x1} h=>k h (uC uz (co f135 60 2 fun K k=>have J2:∀{x2},we (jT k0) p1 p2 x2=some r→K.p [(2,vR (dV p1)),(3,vR (mq p2)),(33,vb x2)] []:=fun{x2} h=>k h (uC uz (kd f135 62 1 ET [] [] uz fun K J4=>(uN ak p2.items (fJ f135 250 1 fun R b=>have L1:∀k1 {x3},j8 (jT k0) p1 p2 k1 x3=some r→(R k1).p [(2,vR (dV p1)),(3,vR (mq p2)),(36,vi p2.items.length),(37,vi x3)] []:=uI (fD rfl) fun k1 i1 {x3} h=>b h (uU (j8.eq_2 ..) (uC (co f135 64102 3 fun K k=>have J3:∀{x4},Cs (j8 (jT k0) p1 p2 k1) (jT k0) p1 p2 x3 x4=some r→K.p [(2,vR (dV p1)),(3,vR (mq p2)),(5,vi x3),(6,vi x4),(36,vi p2.items.length),(37,vi x3)] []:=fun{x4} h=>k h (mZ 11 (dL af fun e1=>(dL ak fun e2=>(aS (Le k0 _ _) fun r1=>(uC jh (uJ i1))))));(uC (uJ J3) (uJ J3))) (uR (.exit 0) (xM (uJ J4)))));uE (L1 aH)))));(uC (uN ak p2.items (uN af p1.fields (uJ J2))) (uJ J2))));(uC (uJ J1) (uJ J1)))))
def pE(rec1:Int→OB)(x1:Int)(x3:Bool):OB:=aj x3 (some true) (rec1 (i64.wrap (x1+1)))
def pN(rec1:Int→OB)(q_ref1_missing:am→ac→OB)(p1:am)(p2:ac)(x1 x2:Int):OB:=al (at? p1.fields x2) fun e1=>aj e1.need (al (at? p2.items x1) fun e2=>aj (e2.kind==0) (pE rec1 x1 true) (al (q_ref1_missing e1.type e2) fun r1=>pE rec1 x1 r1)) (al (at? p2.items x1) fun e3=>al (q_ref1_missing e1.type e3) fun r2=>pE rec1 x1 r2)
def xO:OB:=some false
def eS(q_ref1_missing:am→ac→OB)(p1:am)(p2:ac):Nat→Int→OB
 |0,_=>none
 |k1+1,x1=>aj (decide (x1<(p2.items.length:Int))) (aj (p1.kind==6) (pN (eS q_ref1_missing p1 p2 k1) q_ref1_missing p1 p2 x1 0) (pN (eS q_ref1_missing p1 p2 k1) q_ref1_missing p1 p2 x1 x1)) (xO)
def eQ:Nat→am→ac→OB
 |0,_,_=>none
 |k0+1,p1,p2=>eS (eQ k0) p1 p2 aH 0
theorem zj:∀(k0:Nat) (p1:am) (p2:ac),CT prog 136 [mT p1,mV p2] (eQ k0 p1 p2) vb
  |0,_,_=>Jw (eQ.eq_1 ..)
  |k0+1,p1,p2=>cu 45 [7] f136 fun r=>(uU (eQ.eq_2 ..) (kd f136 6 1 xO [] [] uz fun K J3=>(uN ak p2.items (fJ f136 26 1 fun R b=>have L1:∀k1 {x1},eS (eQ k0) p1 p2 k1 x1=some r→(R k1).p [(2,vR (dV p1)),(3,vR (mq p2)),(10,vi p2.items.length),(11,vi x1)] []:=uI (fD rfl) fun k1 i1 {x1} h=>b h (uU (eS.eq_2 ..) (uC (co f136 6758 3 fun K k=>have J1:∀{x2},pN (eS (eQ k0) p1 p2 k1) (eQ k0) p1 p2 x1 x2=some r→K.p [(2,vR (dV p1)),(3,vR (mq p2)),(5,vi x1),(6,vi x2),(10,vi p2.items.length),(11,vi x1)] []:=fun{x2} h=>k h (dL af fun e1=>(co f136 27038 3 fun K k=>have J2:∀{x3},pE (eS (eQ k0) p1 p2 k1) x1 x3=some r→K.p [(2,vR (dV p1)),(3,vR (mq p2)),(10,vi p2.items.length),(11,vi x1),(43,vb x3)] [.dead]:=fun{x3} h=>k h (uC jh (uJ i1));(mZ 19 (uC (uL ak fun e2 a17=>(uC (uJ J2) (uM ak a17 (aS (zj k0 _ _) fun r1=>(uJ J2))))) (dL ak fun e3=>(aS (zj k0 _ _) fun r2=>(uJ J2)))))));(uC (uJ J1) (uJ J1))) (uR (.exit 0) (xM (uJ J3)))));uE (L1 aH)))))
def mr(p1:am)(p2:ac):OI:=al (kR p1) fun r1=>aj (r1 != 0) (some r1) (al (tT p2) fun r2=>aj (!r2) (some 1) (al (jT aH p1 p2) fun r3=>aj (!r3) (some 2) (al (eQ aH p1 p2) fun r4=>aj r4 (some 9) (some 0))))
theorem rM(p1:am)(p2:ac):CT prog 72 [mT p1,mV p2] (mr p1 p2) vi:=
  cu 21 [] f72 fun r=>(aS (oL _) fun r1=>(uC uz (aS (ym _) fun r2=>(uC uz (aS (Le aH _ _) fun r3=>(uC uz (aS (zj aH _ _) fun r4=>(uC uz uz))))))))
def ly(p1 p2:Int):OI:=aj (decide (p1<p2)) (some (-1)) (aj (decide (p2<p1)) (some 1) (some 0))
theorem lP(p1 p2:Int):CT prog 95 [vi p1,vi p2] (ly p1 p2) vi:=
  cu 11 [] f95 fun r=>(uC uz (uC uz uz))
def mG(rec1:List Int→Int→Option cU)(l1:List Int)(x1 x2:Int):Option cU:=gX (l1.length+1≤4294967296)<|rec1 (l1++[x2]) (i64.wrap (x1.tdiv 10))
def CZ(p1:Int)(l2:List Int):Option cU:=some (cU.mk (decide (p1<0)) l2)
def cM(p1:Int):Nat→List Int→Int→Option cU
 |0,_,_=>none
 |k1+1,l1,x1=>aj (x1 != 0) (aj (decide ((x1.tmod 10)<0)) (mG (cM p1 k1) l1 x1 (i64.wrap (0-(x1.tmod 10)))) (mG (cM p1 k1) l1 x1 (x1.tmod 10))) (CZ p1 l1)
def oU(p1:Int):Option cU:=cM p1 aH [] p1
abbrev HJ:List CV:=[cb false,.pv (.s (.slice none 0 0))]
theorem xi(p1:Int):CT prog 194 [vi p1] (oU p1) (fun r=> .ag [cb r.below,cl eI r.d]):=
  cu 25 [2] f194 fun r=>(co f194 14 1 fun K k=>have J2:∀{l2},CZ p1 l2=some r→K.p [(0,vi p1),(2,vQ 0),(3,.one (.sl 1 1 0 l2.length))] [.box HJ,.arr 1 (eI.els l2)]:=fun{l2} h=>k h (Ks eI l2 1 [] uz);(LC (.li 3 1) (fJ f194 58 1 fun R b=>have L1:∀k1 {l1 x1},cM p1 k1 l1 x1=some r→(R k1).p [(0,vi p1),(2,vQ 0),(3,.one (.sl 1 1 0 l1.length)),(4,vi x1)] [.box HJ,.arr 1 (eI.els l1)]:=uI (fD rfl) fun k1 i1 {l1 x1} h=>b h (uU (cM.eq_2 ..) (uC (co f194 3730 3 fun K k=>have J1:∀{x2},mG (cM p1 k1) l1 x1 x2=some r→K.p [(0,vi p1),(2,vQ 0),(3,.one (.sl 1 1 0 l1.length)),(4,vi x1),(5,vi x2)] [.box HJ,.arr 1 (eI.els l1)]:=fun{x2} h=>k h (Bk eI 1 [x2] (uJ i1));(uC (uJ J1) (uJ J1))) (uR (.exit 0) (xM (uJ J2)))));uE (L1 aH))))
def BS(p1:cU)(p2:Int):Option cU:=aj ((p1.d.length:Int)==0) (some p1) (gX (0≤p2∧p2≤p2∧p2≤4294967296)<|gX ((List.replicate p2.toNat (0:Int)).length+p1.d.length≤4294967296)<|some (cU.mk p1.below ((List.replicate p2.toNat (0:Int))++p1.d)))
theorem N7(p1:cU)(p2:Int):CT prog 193 [.ag [cb p1.below,cl eI p1.d],vi p2] (BS p1 p2) (fun r=> .ag [cb r.below,cl eI r.d]):=
  cu 18 [4] f193 fun r=>(uN eI p1.d (uC uz (Im 7 1 [1,2] (uMk eI (0:Int) (Bk (L:=p2.toNat) (hL:=by simp) eI 1 p1.d (Ks eI ((List.replicate p2.toNat (0:Int))++p1.d) 1 [] uz))))))
def q8(p1:ac):Option cU:=al (oU p1.n) fun r1=>al (BS r1 (i64.wrap (12-p1.scale))) fun r2=>some r2
theorem A1(p1:ac):CT prog 148 [mV p1] (q8 p1) (fun r=> .ag [cb r.below,cl eI r.d]):=
  cu 10 [2] f148 fun r=>(mZ 6 (aS (xi _) fun r1=>(aS (N7 _ _) fun r2=>uz)))
def Gn:OI:=some 0
def nu(p1 p2:List Int):Nat→Int→OI
 |0,_=>none
 |k1+1,x1=>aj (decide (0≤x1)) (al (at? p1 x1) fun e1=>al (at? p2 x1) fun e2=>aj (e1 != e2) (some (i64.wrap (e1-e2))) ((nu p1 p2 k1) (i64.wrap (x1-1)))) (Gn)
def wH(p1 p2:List Int):OI:=aj ((p1.length:Int) != (p2.length:Int)) (some (i64.wrap ((p1.length:Int)-(p2.length:Int)))) (nu p1 p2 aH (i64.wrap ((p1.length:Int)-1)))
theorem Ii(p1 p2:List Int):CT prog 192 [vl eI p1,vl eI p2] (wH p1 p2) vi:=
  cu 41 [] f192 fun r=>(uN eI p1 (uN eI p2 (uC (uN eI p1 (uN eI p2 uz)) (kd f192 14 1 Gn [] [] uz fun K J1=>(uN eI p1 (fJ f192 58 1 fun R b=>have L1:∀k1 {x1},nu p1 p2 k1 x1=some r→(R k1).p [(0,vl eI p1),(1,vl eI p2),(5,vi x1)] []:=uI (fD rfl) fun k1 i1 {x1} h=>b h (uU (nu.eq_2 ..) (uC (mZ 8 (uL eI fun e1 a13=>(uL eI fun e2 a14=>(uC (mZ 8 (uM eI a13 (uM eI a14 jh))) (uJ i1))))) (uR (.exit 0) (xM (uJ J1)))));uE (L1 aH)))))))
def lG(x1:Int):OI:=aj (decide (x1<0)) (some (-1)) (aj (decide (0<x1)) (some 1) (some 0))
def rT(p1 p2:cU):OI:=aj (!(p1.below==p2.below)) (aj p1.below (some (-1)) (some 1)) (al (wH p1.d p2.d) fun r1=>aj p1.below (lG (i64.wrap (0-r1))) (lG r1))
theorem EP(p1 p2:cU):CT prog 147 [.ag [cb p1.below,cl eI p1.d],.ag [cb p2.below,cl eI p2.d]] (rT p1 p2) vi:=
  cu 26 [] f147 fun r=>(uC (uC uz uz) (aS (Ii _ _) fun r1=>(co f147 30 1 fun K k=>have J1:∀{x1},lG x1=some r→K.p [(5,vi x1)] []:=fun{x1} h=>k h (uC uz (uC uz uz));(uC (uJ J1) (uJ J1)))))
def A2(p1 p2:ac):OI:=al (fM p1.scale 0 12) fun r1=>al (fM p2.scale 0 12) fun r2=>aj (!(r1==r2)) (aj r1 (some (-1)) (some 1)) (aj r1 (al (q8 p1) fun r3=>al (q8 p2) fun r4=>al (rT r3 r4) fun r5=>aj (r5 != 0) (some r5) (al (ly p1.scale p2.scale) fun r6=>some r6)) (aj (p1.n != p2.n) (al (ly p1.n p2.n) fun r7=>some r7) (al (ly p1.scale p2.scale) fun r8=>some r8)))
theorem In(p1 p2:ac):CT prog 96 [mV p1,mV p2] (A2 p1 p2) vi:=
  cu 47 [] f96 fun r=>(mZ 5 (aS (jn _ _ _) fun r1=>(aS (jn _ _ _) fun r2=>(uC (uC uz uz) (uC (mZ 3 (aS (A1 _) fun r3=>(aS (A1 _) fun r4=>(aS (EP _ _) fun r5=>(uC uz (aS (lP _ _) fun r6=>uz)))))) (uC (aS (lP _ _) fun r7=>uz) (aS (lP _ _) fun r8=>uz)))))))
def Bh(p1 p2:ByteArray):OI:=al (ly (p1.size:Int) (p2.size:Int)) fun r2=>some r2
def wX(rec1:Int→OI)(p1 p2:ByteArray)(x1:Int)(x2:Bool):OI:=aj x2 (gX (0≤x1∧x1<(p1.size:Int))<|gX (0≤x1∧x1<(p2.size:Int))<|al (some (((p1.data.toList.getD x1.toNat 0).toNat:Int) != ((p2.data.toList.getD x1.toNat 0).toNat:Int))) fun y1=>aj y1 (gX (0≤x1∧x1<(p1.size:Int))<|gX (0≤x1∧x1<(p2.size:Int))<|al (ly (i64.wrap ((p1.data.toList.getD x1.toNat 0).toNat:Int)) (i64.wrap ((p2.data.toList.getD x1.toNat 0).toNat:Int))) fun r1=>some r1) (rec1 (i64.wrap (x1+1)))) (Bh p1 p2)
def lZ(p1 p2:ByteArray):Nat→Int→OI
 |0,_=>none
 |k1+1,x1=>aj (decide (x1<(p1.size:Int))) (wX (lZ p1 p2 k1) p1 p2 x1 (decide (x1<(p2.size:Int)))) (wX (lZ p1 p2 k1) p1 p2 x1 false)
def yX(p1 p2:ByteArray):OI:=lZ p1 p2 aH 0
theorem Nb(p1 p2:ByteArray):CT prog 97 [vs p1,vs p2] (yX p1 p2) vi:=
  cu 39 [] f97 fun r=>(kd f97 6 1 (Bh p1 p2) [(0,vs p1),(1,vs p2)] [] (aS (lP _ _) fun r2=>uz) fun K J2=>(fJ f97 26 1 fun R b=>have L1:∀k1 {x1},lZ p1 p2 k1 x1=some r→(R k1).p [(0,vs p1),(1,vs p2),(5,vi x1)] []:=uI (fD rfl) fun k1 i1 {x1} h=>b h (uU (lZ.eq_2 ..) (co f97 208 2 fun K k=>have J1:∀{x2},wX (lZ p1 p2 k1) p1 p2 x1 x2=some r→K.p [(0,vs p1),(1,vs p2),(5,vi x1),(15,vb x2)] []:=fun{x2} h=>k h (uC (mZ 6 (uG (uG (uY 24 vb fun y1=>(uC (mZ 8 (uG (uG (aS (lP _ _) fun r1=>jh)))) (uJ i1)))))) (uR (.exit 0) (xM (uJ J2))));(uC (uJ J1) (uJ J1))));uE (L1 aH)))
def xV(p1 p2:ac):OI:=al (ly (p1.items.length:Int) (p2.items.length:Int)) fun r7=>some r7
def tP(rec1:Int→OI)(q_ref1_Compare:ac→ac→OI)(p1 p2:ac)(x2:Int)(x3:Bool):OI:=aj x3 (al (at? p1.items x2) fun e1=>al (at? p2.items x2) fun e2=>al (q_ref1_Compare e1 e2) fun r6=>aj (r6 != 0) (some r6) (rec1 (i64.wrap (x2+1)))) (xV p1 p2)
def iG(q_ref1_Compare:ac→ac→OI)(p1 p2:ac):Nat→Int→OI
 |0,_=>none
 |k1+1,x2=>aj (decide (x2<(p1.items.length:Int))) (tP (iG q_ref1_Compare p1 p2 k1) q_ref1_Compare p1 p2 x2 (decide (x2<(p2.items.length:Int)))) (tP (iG q_ref1_Compare p1 p2 k1) q_ref1_Compare p1 p2 x2 false)
def nm(q_ref1_Compare:ac→ac→OI)(p1 p2:ac)(x1:Bool):OI:=aj x1 (al (ly p1.n p2.n) fun r3=>some r3) (aj (p1.scale != p2.scale) (al (ly p1.scale p2.scale) fun r4=>some r4) (al (yX p1.s p2.s) fun r5=>aj (r5 != 0) (some r5) (iG q_ref1_Compare p1 p2 aH 0)))
def nh(q_ref1_Compare:ac→ac→OI)(p1 p2:ac):OI:=aj (p1.n != p2.n) (nm q_ref1_Compare p1 p2 (p1.kind != 3)) (nm q_ref1_Compare p1 p2 false)
def bP:Nat→ac→ac→OI
 |0,_,_=>none
 |k0+1,p1,p2=>aj (!((p1.kind==0)==(p2.kind==0))) (aj (p1.kind==0) (some 1) (some (-1))) (aj (p1.kind==0) (some 0) (aj (p1.kind != p2.kind) (al (ly p1.kind p2.kind) fun r1=>some r1) (aj (p1.kind==3) (al (A2 p1 p2) fun r2=>aj (r2 != 0) (some r2) (nh (bP k0) p1 p2)) (nh (bP k0) p1 p2))))
theorem gv:∀(k0:Nat) (p1 p2:ac),CT prog 46 [mV p1,mV p2] (bP k0 p1 p2) vi
  |0,_,_=>Jw (bP.eq_1 ..)
  |k0+1,p1,p2=>cu 109 [] f46 fun r=>(uU (bP.eq_2 ..) (uC (uC uz uz) (uC uz (uC (aS (lP _ _) fun r1=>uz) (kd f46 62 1 (nh (bP k0) p1 p2) [(2,vR (mq p1)),(3,vR (mq p2))] [] (co f46 252 2 fun K k=>have J2:∀{x1},nm (bP k0) p1 p2 x1=some r→K.p [(2,vR (mq p1)),(3,vR (mq p2)),(50,vb x1)] []:=fun{x1} h=>k h (uC (aS (lP _ _) fun r3=>uz) (uC (aS (lP _ _) fun r4=>uz) (aS (Nb _ _) fun r5=>(uC uz (kd f46 1022 1 (xV p1 p2) [(2,vR (mq p1)),(3,vR (mq p2))] [] (uN ak p1.items (uN ak p2.items (aS (lP _ _) fun r7=>uz))) fun K J4=>(fJ f46 4090 1 fun R b=>have L1:∀k1 {x2},iG (bP k0) p1 p2 k1 x2=some r→(R k1).p [(2,vR (mq p1)),(3,vR (mq p2)),(7,vi x2)] []:=uI (fD rfl) fun k1 i1 {x2} h=>b h (uU (iG.eq_2 ..) (co f46 32720 2 fun K k=>have J3:∀{x3},tP (iG (bP k0) p1 p2 k1) (bP k0) p1 p2 x2 x3=some r→K.p [(2,vR (mq p1)),(3,vR (mq p2)),(7,vi x2),(85,vb x3)] []:=fun{x3} h=>k h (uC (mZ 10 (dL ak fun e1=>(dL ak fun e2=>(aS (gv k0 _ _) fun r6=>(uC jh (uJ i1)))))) (uR (.exit 0) (xM (uJ J4))));(uN ak p1.items (uC (uN ak p2.items (uJ J3)) (uJ J3)))));uE (L1 aH)))))));(uC (uJ J2) (uJ J2))) fun K J1=>(uC (aS (In _ _) fun r2=>(uC (uR .ret (xN xF)) (uJ J1))) (uJ J1)))))))
def qz(rec3:List ae→Int→OI)(x4:Int)(l2:List ae):OI:=rec3 l2 (i64.wrap (x4+1))
def nI(rec5:Int→OI)(x6:Int)(x7:Bool):OI:=aj x7 (some 1) (rec5 (i64.wrap (x6+1)))
def AE:OI:=some 0
def fc(p2:ai)(l3:List ae):Nat→Int→OI
 |0,_=>none
 |k5+1,x6=>aj (decide (x6<(p2.stats.length:Int))) (al (at? p2.stats x6) fun e9=>al (dG e9.nulls 0 p2.rows) fun r10=>aj (!r10) (some 3) (al (at? l3 x6) fun e10=>al (mr e10.type e9.min) fun r11=>aj (r11 != 0) (some r11) (al (mr e10.type e9.max) fun r12=>aj (r12 != 0) (some r12) (aj (!((e9.min.kind==0)==(e9.nulls==p2.rows))) (nI (fc p2 l3 k5) x6 true) (aj (!((e9.max.kind==0)==(e9.nulls==p2.rows))) (nI (fc p2 l3 k5) x6 true) (al (bP aH e9.min e9.max) fun r13=>nI (fc p2 l3 k5) x6 (decide (0<r13)))))))) (AE)
def qn(p2:ai)(l3:List ae):OI:=fc p2 l3 aH 0
def jq(p2:ai)(l3:List ae):Nat→Int→OI
 |0,_=>none
 |k4+1,x5=>aj (decide (x5<((l3.length:Nat):Int))) (al (at? l3 x5) fun e7=>al (at? p2.stats x5) fun e8=>aj (e7.id != e8.id) (some 1) ((jq p2 l3 k4) (i64.wrap (x5+1)))) (qn p2 l3)
def lp(p2:ai)(l3:List ae):OI:=aj (((l3.length:Nat):Int) != (p2.stats.length:Int)) (some 1) (jq p2 l3 aH 0)
def fY(p2:ai)(e1:List ae):Nat→List ae→Int→OI
 |0,_,_=>none
 |k3+1,l1,x4=>aj (decide (x4<(e1.length:Int))) (al (at? e1 x4) fun e6=>al (io e6.type.kind) fun r9=>aj r9 (gX (l1.length+1≤4294967296)<|qz (fY p2 e1 k3) x4 (l1++[e6])) (qz (fY p2 e1 k3) x4 l1)) (lp p2 l1)
def qC(p2:ai)(e1:List ae):OI:=fY p2 e1 aH [] 0
def jC(p2:ai)(e1:List ae)(e2:cD):Nat→Int→OI
 |0,_=>none
 |k2+1,x3=>aj (decide (x3<(e2.fields.length:Int))) (al (at? e2.fields x3) fun e4=>al (qX e1 e4.source) fun r6=>al (fp e4.transform r6.1.type) fun r7=>aj (r7.2 != 0) (some 2) (al (at? p2.part x3) fun e5=>al (mr r7.1 e5) fun r8=>aj (r8 != 0) (some r8) ((jC p2 e1 e2 k2) (i64.wrap (x3+1))))) (qC p2 e1)
def qt(p2:ai)(e1:List ae)(e2:cD):OI:=aj ((p2.part.length:Int) != (e2.fields.length:Int)) (some 1) (jC p2 e1 e2 aH 0)
def ic(p2:ai)(e1:List ae)(e2:cD):Nat→Int→OI
 |0,_=>none
 |k1+1,x2=>aj (decide (x2<(e2.fields.length:Int))) (al (at? e2.fields x2) fun e3=>al (qX e1 e3.source) fun r5=>aj (!r5.2) (some 9) ((ic p2 e1 e2 k1) (i64.wrap (x2+1)))) (qt p2 e1 e2)
def jv(p1:ay)(p2:ai)(x1:Bool):OI:=aj x1 (some 3) (al (at? p1.schemas p2.schema) fun e1=>al (at? p1.specs p2.spec) fun e2=>ic p2 e1 e2 aH 0)
def qU(p1:ay)(p2:ai):OI:=al (AH p2.name) fun r1=>aj (!r1) (some 4) (al (dG p2.schema 0 (i64.wrap ((p1.schemas.length:Int)-1))) fun r2=>aj (!r2) (jv p1 p2 true) (al (dG p2.spec 0 (i64.wrap ((p1.specs.length:Int)-1))) fun r3=>aj (!r3) (jv p1 p2 true) (al (dG p2.rows 1 2000) fun r4=>aj (!r4) (jv p1 p2 true) (jv p1 p2 (decide (p2.seq<1))))))
theorem BG(p1:ay)(p2:ai):CT prog 23 [mM p1,mF p2] (qU p1 p2) vi:=
  cu 235 [6,8,9,12,13,15,20,23] f23 fun r=>(aS (KE _) fun r1=>(uC' (fun b5=>uz) (fun b5=>(co f23 28 2 fun K k=>have J1:∀{x1},jv p1 p2 x1=some r→K.p [(2,vR [.ro ((eL af).els p1.schemas),.ro (fk.els p1.specs),pi p1.nextField,pi p1.nextSeq,pi p1.nextSnap,pi p1.purges,.ro (aT.els p1.snapshots),.ro (nT.els p1.refs),.ro (ku.els p1.props)]),(3,vR (eJ p2)),(59,vb x1)] []:=fun{x1} h=>k h (uC uz (Im 14 1 [0,1] (dL (eL af) fun e1=>(dL fk fun e2=>(kd f23 62 1 (qt p2 e1 e2) [(3,vR (eJ p2)),(5,vl af e1),(6,vQ 0)] [.box [cl aF e2.fields]] (uN ak p2.part (uN aF e2.fields (uC uz (kd f23 254 1 (qC p2 e1) [(3,vR (eJ p2)),(5,vl af e1)] [.dead] (co f23 1022 1 fun K k=>have J5:∀{l3},lp p2 l3=some r→K.p [(3,vR (eJ p2)),(18,.one (.sl 1 6 0 l3.length))] [.dead,.arr 6 (af.els l3)]:=fun{l3} h=>k h (uN bD p2.stats (uC uz (kd f23 4094 1 (qn p2 l3) [(3,vR (eJ p2)),(18,.one (.sl 1 6 0 l3.length))] [.dead,.arr 6 (af.els l3)] (kd f23 8190 1 AE [] [.dead,.dead] uz fun K J8=>(uN bD p2.stats (fJ f23 32762 1 fun R b=>have L5:∀k5 {x6},fc p2 l3 k5 x6=some r→(R k5).p [(3,vR (eJ p2)),(18,.one (.sl 1 6 0 l3.length)),(172,vl bD p2.stats),(173,vi p2.stats.length),(174,vi x6)] [.dead,.arr 6 (af.els l3)]:=uI (fD rfl) fun k5 i5 {x6} h=>b h (uU (fc.eq_2 ..) (uC (dL bD fun e9=>(aS (dp _ _ _) fun r10=>(uC jh (mZ 7 (Tp af 1 fun e10 a103=>(Wq af a103 (aS (rM _ _) fun r11=>(uC jh (mZ 7 (uIb af 1 a103 (Wq af a103 (aS (rM _ _) fun r12=>(uC jh (co f23 67097406 3 fun K k=>have J7:∀{x7},nI (fc p2 l3 k5) x6 x7=some r→K.p [(3,vR (eJ p2)),(18,.one (.sl 1 6 0 l3.length)),(172,vl bD p2.stats),(173,vi p2.stats.length),(174,vi x6),(233,vb x7)] [.dead,.arr 6 (af.els l3),.dead]:=fun{x7} h=>k h (uC jh (uJ i5));(uC (uJ J7) (uC (uJ J7) (aS (gv aH _ _) fun r13=>(uJ J7)))))))))))))))))) (uR (.exit 8) (xM (uJ J8)))));uE (L5 aH)))) fun K J6=>(fJ f23 16378 1 fun R b=>have L4:∀k4 {x5},jq p2 l3 k4 x5=some r→(R k4).p [(3,vR (eJ p2)),(18,.one (.sl 1 6 0 l3.length)),(154,vi ((l3.length:Nat):Int)),(155,vi x5)] [.dead,.arr 6 (af.els l3)]:=uI (fD rfl) fun k4 i4 {x5} h=>b h (uU (jq.eq_2 ..) (uC (mZ 11 (Tp af 1 fun e7 a84=>(Wq af a84 (dL bD fun e8=>(uC jh (uJ i4)))))) (uR (.exit 6) (xM (uJ J6)))));uE (L4 aH)))));(uN af e1 (LC (.li 18 6) (fJ f23 4090 1 fun R b=>have L3:∀k3 {l1 x4},fY p2 e1 k3 l1 x4=some r→(R k3).p [(3,vR (eJ p2)),(18,.one (.sl 1 6 0 l1.length)),(132,vl af e1),(133,vi e1.length),(134,vi x4)] [.dead,.arr 6 (af.els l1)]:=uI (fD rfl) fun k3 i3 {l1 x4} h=>b h (uU (fY.eq_2 ..) (uC (co f23 65446 1 fun K k=>have J4:∀{l2},qz (fY p2 e1 k3) x4 l2=some r→K.p [(3,vR (eJ p2)),(18,.one (.sl 1 6 0 l2.length)),(132,vl af e1),(133,vi e1.length),(134,vi x4)] [.dead,.arr 6 (af.els l2)]:=fun{l2} h=>k h (uJ i3);(dL af fun e6=>(aS (jK _) fun r9=>(uC (uW 144 af [e6] (Bk af 1 [e6] (uJ J4))) (uJ J4))))) (uR (.exit 4) (xM (uJ J5)))));uE (L3 aH))))) fun K J3=>(uN aF e2.fields (fJ f23 1018 1 fun R b=>have L2:∀k2 {x3},jC p2 e1 e2 k2 x3=some r→(R k2).p [(3,vR (eJ p2)),(5,vl af e1),(97,vl aF e2.fields),(98,vi e2.fields.length),(99,vi x3)] [.dead]:=uI (fD rfl) fun k2 i2 {x3} h=>b h (uU (jC.eq_2 ..) (uC (dL aF fun e4=>(aS (zc _ _) fun r6=>(aS (qR _ _) fun r7=>(uC jh (mZ 6 (dL ak fun e5=>(aS (rM _ _) fun r8=>(uC jh (uJ i2))))))))) (uR (.exit 2) (xM (uJ J3)))));uE (L2 aH))))))) fun K J2=>(uN aF e2.fields (fJ f23 250 1 fun R b=>have L1:∀k1 {x2},ic p2 e1 e2 k1 x2=some r→(R k1).p [(3,vR (eJ p2)),(5,vl af e1),(6,vQ 0),(73,vl aF e2.fields),(74,vi e2.fields.length),(75,vi x2)] [.box [cl aF e2.fields]]:=uI (fD rfl) fun k1 i1 {x2} h=>b h (uU (ic.eq_2 ..) (uC (dL aF fun e3=>(aS (zc _ _) fun r5=>(uC jh (uJ i1)))) (uR (.exit 0) (xM (uJ J2)))));uE (L1 aH))))))));(uN (eL af) p1.schemas (aS (dp _ _ _) fun r2=>(uC (uJ J1) (uN fk p1.specs (aS (dp _ _ _) fun r3=>(uC (uJ J1) (aS (dp _ _ _) fun r4=>(uC (uJ J1) (uJ J1)))))))))))))
def Fq:Option (ai×Bool):=some ((ai.mk ByteArray.empty 0 0 [] 0 0 []),false)
def pj(p1:ar)(p2:ByteArray):Nat→Int→Option (ai×Bool)
 |0,_=>none
 |k1+1,x1=>aj (decide (x1<(p1.files.length:Int))) (al (at? p1.files x1) fun e1=>aj (e1.name.toList==p2.toList) (some (e1,true)) ((pj p1 p2 k1) (i64.wrap (x1+1)))) (Fq)
def BH(p1:ar)(p2:ByteArray):Option (ai×Bool):=pj p1 p2 aH 0
abbrev VJ:List CV:=[rX ByteArray.empty,ci (0:Int),ci (0:Int),.pv (.s (.slice none 0 0)),ci (0:Int),ci (0:Int),.pv (.s (.slice none 0 0))]
theorem Ih(p1:ar)(p2:ByteArray):CT prog 40 [mS p1,vs p2] (BH p1 p2) (fun r=> .tp [mF r.1,vb r.2]):=
  cu 22 [4,7] f40 fun r=>(kd f40 6 1 Fq [(4,vQ 0)] [.box VJ] uz fun K J1=>(uN aU p1.files (fJ f40 26 1 fun R b=>have L1:∀k1 {x1},pj p1 p2 k1 x1=some r→(R k1).p [(1,vs p2),(4,vQ 0),(9,vl aU p1.files),(10,vi p1.files.length),(11,vi x1)] [.box VJ]:=uI (fD rfl) fun k1 i1 {x1} h=>b h (uU (pj.eq_2 ..) (uC (dL aU fun e1=>(uC jh (uJ i1))) (uR (.exit 0) (xM (uJ J1)))));uE (L1 aH))))
def zq(p1:List Int):OB:=some (decide (0<(p1.length:Int)))
def gn(p1:List Int):Nat→Int→OB
 |0,_=>none
 |k1+1,x1=>aj (decide (x1<(p1.length:Int))) (al (at? p1 x1) fun e1=>al (at? p1 (i64.wrap (x1-1))) fun e2=>aj (decide (e1≤e2)) (some false) ((gn p1 k1) (i64.wrap (x1+1)))) (zq p1)
def pQ(p1:List Int):OB:=gn p1 aH 1
theorem Ae(p1:List Int):CT prog 88 [vl eI p1] (pQ p1) vb:=
  cu 23 [] f88 fun r=>(kd f88 6 1 (zq p1) [(0,vl eI p1)] [] (uN eI p1 uz) fun K J1=>(fJ f88 26 1 fun R b=>have L1:∀k1 {x1},gn p1 k1 x1=some r→(R k1).p [(0,vl eI p1),(3,vi x1)] []:=uI (fD rfl) fun k1 i1 {x1} h=>b h (uU (gn.eq_2 ..) (uN eI p1 (uC (mZ 9 (dL eI fun e1=>(dL eI fun e2=>(uC jh (uJ i1))))) (uR (.exit 0) (xM (uJ J1))))));uE (L1 aH)))
def pe(rec1:Int→OB)(x1:Int)(x2:Bool):OB:=aj x2 (some false) (rec1 (i64.wrap (x1+1)))
def yZ:OB:=some true
def fq(p1:List Int)(p2:Int):Nat→Int→OB
 |0,_=>none
 |k1+1,x1=>aj (decide (x1<(p1.length:Int))) (al (at? p1 x1) fun e1=>aj (decide (e1<0)) (pe (fq p1 p2 k1) x1 true) (pe (fq p1 p2 k1) x1 (decide (p2≤e1)))) (yZ)
def pI(p1:List Int)(p2:Int):OB:=fq p1 p2 aH 0
theorem GE(p1:List Int)(p2:Int):CT prog 89 [vl eI p1,vi p2] (pI p1 p2) vb:=
  cu 21 [] f89 fun r=>(kd f89 6 1 yZ [] [] uz fun K J2=>(uN eI p1 (fJ f89 26 1 fun R b=>have L1:∀k1 {x1},fq p1 p2 k1 x1=some r→(R k1).p [(1,vi p2),(7,vl eI p1),(8,vi p1.length),(9,vi x1)] []:=uI (fD rfl) fun k1 i1 {x1} h=>b h (uU (fq.eq_2 ..) (uC (dL eI fun e1=>(co f89 3378 3 fun K k=>have J1:∀{x2},pe (fq p1 p2 k1) x1 x2=some r→K.p [(1,vi p2),(7,vl eI p1),(8,vi p1.length),(9,vi x1),(19,vb x2)] []:=fun{x2} h=>k h (uC jh (uJ i1));(uC (uJ J1) (uJ J1)))) (uR (.exit 0) (xM (uJ J2)))));uE (L1 aH))))
def xU(r1:(ae×Bool))(x1:Bool):Option (ae×Bool):=some (r1.1,x1)
def nE(p1:List ae)(p2:Int):Option (ae×Bool):=al (qX p1 p2) fun r1=>aj r1.2 (al (io r1.1.type.kind) fun r2=>xU r1 r2) (xU r1 false)
theorem qG(p1:List ae)(p2:Int):CT prog 73 [vl af p1,vi p2] (nE p1 p2) (fun r=> .tp [mf r.1,vb r.2]):=
  cu 22 [4,6] f73 fun r=>(aS (zc _ _) fun r1=>(co f73 14 1 fun K k=>have J1:∀{x1},xU r1 x1=some r→K.p [(4,vQ 0),(5,vb x1)] [.box [ci r1.1.id,rX r1.1.name,cb r1.1.need,ci r1.1.type.kind,ci r1.1.type.scale,cl af r1.1.type.fields],.dead]:=fun{x1} h=>k h uz;(Im 9 0 [2] (uC (aS (jK _) fun r2=>(uJ J1)) (uJ J1)))))
def sj(p1 p2:List ac):OI:=al (bP aH (ac.mk 6 0 0 ByteArray.empty p1) (ac.mk 6 0 0 ByteArray.empty p2)) fun r1=>some r1
theorem E5(p1 p2:List ac):CT prog 14 [vl ak p1,vl ak p2] (sj p1 p2) vi:=
  cu 10 [] f14 fun r=>(aS (gv aH _ _) fun r1=>uz)
def nH(rec3:Int→OI)(x3:Int)(x5:Bool):OI:=aj x5 (some 1) (rec3 (i64.wrap (x3+1)))
def qE(rec3:Int→OI)(p3:List (List ac))(p4:Bool)(x3:Int)(e4:List ac):OI:=aj p4 (aj (decide (0<x3)) (al (at? p3 (i64.wrap (x3-1))) fun e7=>al (sj e7 e4) fun r4=>nH rec3 x3 (decide (0≤r4))) (nH rec3 x3 false)) (nH rec3 x3 false)
def jA(rec3:Int→OI)(p1:List ae)(p2:List Int)(p3:List (List ac))(p4:Bool)(x3:Int)(e4:List ac):Nat→Int→OI
 |0,_=>none
 |k4+1,x4=>aj (decide (x4<(p2.length:Int))) (al (at? p2 x4) fun e5=>al (nE p1 e5) fun r2=>al (at? e4 x4) fun e6=>al (mr r2.1.type e6) fun r3=>aj (r3 != 0) (some r3) ((jA rec3 p1 p2 p3 p4 x3 e4 k4) (i64.wrap (x4+1)))) (qE rec3 p3 p4 x3 e4)
def Ar:OI:=some 0
def di(p1:List ae)(p2:List Int)(p3:List (List ac))(p4:Bool):Nat→Int→OI
 |0,_=>none
 |k3+1,x3=>aj (decide (x3<(p3.length:Int))) (al (at? p3 x3) fun e4=>aj ((e4.length:Int) != (p2.length:Int)) (some 1) (jA (di p1 p2 p3 p4 k3) p1 p2 p3 p4 x3 e4 aH 0)) (Ar)
def qB(p1:List ae)(p2:List Int)(p3:List (List ac))(p4:Bool):OI:=aj (decide (200<(p3.length:Int))) (some 7) (aj ((p3.length:Int)==0) (some 9) (di p1 p2 p3 p4 aH 0))
def jp(p1:List ae)(p2:List Int)(p3:List (List ac))(p4:Bool):Nat→Int→OI
 |0,_=>none
 |k2+1,x2=>aj (decide (x2<(p2.length:Int))) (al (at? p2 x2) fun e2=>al (at? p2 (i64.wrap (x2-1))) fun e3=>aj (decide (e2≤e3)) (some 1) ((jp p1 p2 p3 p4 k2) (i64.wrap (x2+1)))) (qB p1 p2 p3 p4)
def qq(p1:List ae)(p2:List Int)(p3:List (List ac))(p4:Bool):OI:=jp p1 p2 p3 p4 aH 1
def jD(p1:List ae)(p2:List Int)(p3:List (List ac))(p4:Bool):Nat→Int→OI
 |0,_=>none
 |k1+1,x1=>aj (decide (x1<(p2.length:Int))) (al (at? p2 x1) fun e1=>al (nE p1 e1) fun r1=>aj (!r1.2) (some 9) ((jD p1 p2 p3 p4 k1) (i64.wrap (x1+1)))) (qq p1 p2 p3 p4)
def vh(p1:List ae)(p2:List Int)(p3:List (List ac))(p4:Bool):OI:=aj ((p2.length:Int)==0) (some 9) (jD p1 p2 p3 p4 aH 0)
theorem HK(p1:List ae)(p2:List Int)(p3:List (List ac))(p4:Bool):CT prog 144 [vl af p1,vl eI p2,vl (eL ak) p3,vb p4] (vh p1 p2 p3 p4) vi:=
  cu 113 [11,18] f144 fun r=>(uN eI p2 (uC' (fun b4=>uz) (fun b4=>(kd f144 14 1 (qq p1 p2 p3 p4) [(0,vl af p1),(1,vl eI p2),(2,vl (eL ak) p3),(3,vb p4)] [] (kd f144 30 1 (qB p1 p2 p3 p4) [(0,vl af p1),(1,vl eI p2),(2,vl (eL ak) p3),(3,vb p4)] [] (uN (eL ak) p3 (uC uz (uN (eL ak) p3 (uC uz (kd f144 254 1 Ar [] [] uz fun K J5=>(uN (eL ak) p3 (fJ f144 1018 1 fun R b=>have L3:∀k3 {x3},di p1 p2 p3 p4 k3 x3=some r→(R k3).p [(0,vl af p1),(1,vl eI p2),(2,vl (eL ak) p3),(3,vb p4),(61,vl (eL ak) p3),(62,vi p3.length),(63,vi x3)] []:=uI (fD rfl) fun k3 i3 {x3} h=>b h (uU (di.eq_2 ..) (uC (dL (eL ak) fun e4=>(uN ak e4 (uN eI p2 (uC jh (kd f144 260710 3 (qE (di p1 p2 p3 p4 k3) p3 p4 x3 e4) [(0,vl af p1),(1,vl eI p2),(2,vl (eL ak) p3),(3,vb p4),(14,vi x3),(15,vl ak e4),(61,vl (eL ak) p3),(62,vi p3.length),(63,vi x3)] [] (co f144 521422 3 fun K k=>have J4:∀{x5},nH (di p1 p2 p3 p4 k3) x3 x5=some r→K.p [(0,vl af p1),(1,vl eI p2),(2,vl (eL ak) p3),(3,vb p4),(61,vl (eL ak) p3),(62,vi p3.length),(63,vi x3),(111,vb x5)] []:=fun{x5} h=>k h (uC jh (uJ i3));(uC (uC (dL (eL ak) fun e7=>(aS (E5 _ _) fun r4=>(uJ J4))) (uJ J4)) (uJ J4))) fun K J3=>(uN eI p2 (fJ f144 1042842 1 fun R b=>have L4:∀k4 {x4},jA (di p1 p2 p3 p4 k3) p1 p2 p3 p4 x3 e4 k4 x4=some r→(R k4).p [(0,vl af p1),(1,vl eI p2),(2,vl (eL ak) p3),(3,vb p4),(14,vi x3),(15,vl ak e4),(61,vl (eL ak) p3),(62,vi p3.length),(63,vi x3),(73,vl eI p2),(74,vi p2.length),(75,vi x4)] []:=uI (fD rfl) fun k4 i4 {x4} h=>b h (uU (jA.eq_2 ..) (uC (dL eI fun e5=>(aS (qG _ _) fun r2=>(mZ 6 (dL ak fun e6=>(aS (rM _ _) fun r3=>(uC (uR .ret (xN (xN (xN (xN xF))))) (uJ i4))))))) (uR (.exit 6) (xM (uJ J3)))));uE (L4 aH)))))))) (uR (.exit 4) (xM (uJ J5)))));uE (L3 aH)))))))) fun K J2=>(fJ f144 122 1 fun R b=>have L2:∀k2 {x2},jp p1 p2 p3 p4 k2 x2=some r→(R k2).p [(0,vl af p1),(1,vl eI p2),(2,vl (eL ak) p3),(3,vb p4),(13,vi x2)] []:=uI (fD rfl) fun k2 i2 {x2} h=>b h (uU (jp.eq_2 ..) (uN eI p2 (uC (mZ 9 (dL eI fun e2=>(dL eI fun e3=>(uC jh (uJ i2))))) (uR (.exit 2) (xM (uJ J2))))));uE (L2 aH))) fun K J1=>(uN eI p2 (fJ f144 58 1 fun R b=>have L1:∀k1 {x1},jD p1 p2 p3 p4 k1 x1=some r→(R k1).p [(0,vl af p1),(1,vl eI p2),(2,vl (eL ak) p3),(3,vb p4),(24,vl eI p2),(25,vi p2.length),(26,vi x1)] []:=uI (fD rfl) fun k1 i1 {x1} h=>b h (uU (jD.eq_2 ..) (uC (dL eI fun e1=>(aS (qG _ _) fun r1=>(uC jh (uJ i1)))) (uR (.exit 0) (xM (uJ J1)))));uE (L1 aH)))))))
def pB(p1:ay)(p2:cz)(x1:Bool):OI:=aj x1 (some 3) (al (at? p1.schemas p2.schema) fun e1=>al (vh e1 p2.ids p2.keys true) fun r2=>some r2)
def yp(p1:ay)(p2:cz):OI:=al (dG p2.schema 0 (i64.wrap ((p1.schemas.length:Int)-1))) fun r1=>aj (!r1) (pB p1 p2 true) (pB p1 p2 (decide (p2.seq<1)))
theorem I6(p1:ay)(p2:cz):CT prog 90 [mM p1,mD p2] (yp p1 p2) vi:=
  cu 29 [] f90 fun r=>(co f90 12 2 fun K k=>have J1:∀{x1},pB p1 p2 x1=some r→K.p [(2,vR [.ro ((eL af).els p1.schemas),.ro (fk.els p1.specs),pi p1.nextField,pi p1.nextSeq,pi p1.nextSnap,pi p1.purges,.ro (aT.els p1.snapshots),.ro (nT.els p1.refs),.ro (ku.els p1.props)]),(3,vR [pi p2.schema,.ro (eI.els p2.ids),.ro ((eL ak).els p2.keys),pi p2.seq]),(17,vb x1)] []:=fun{x1} h=>k h (uC uz (mZ 10 (dL (eL af) fun e1=>(aS (HK _ _ _ _) fun r2=>uz))));(uN (eL af) p1.schemas (aS (dp _ _ _) fun r1=>(uC (uJ J1) (uJ J1)))))
def AU:OB:=some false
def nV(p1:List ai)(p2:Int):Nat→Int→OB
 |0,_=>none
 |k1+1,x1=>aj (decide (x1<(p1.length:Int))) (al (at? p1 x1) fun e1=>aj (decide (e1.seq<p2)) (some true) ((nV p1 p2 k1) (i64.wrap (x1+1)))) (AU)
def zE(p1:List ai)(p2:Int):OB:=nV p1 p2 aH 0
theorem GW(p1:List ai)(p2:Int):CT prog 91 [vl aU p1,vi p2] (zE p1 p2) vb:=
  cu 18 [6] f91 fun r=>(kd f91 6 1 AU [] [] uz fun K J1=>(uN aU p1 (fJ f91 26 1 fun R b=>have L1:∀k1 {x1},nV p1 p2 k1 x1=some r→(R k1).p [(1,vi p2),(7,vl aU p1),(8,vi p1.length),(9,vi x1)] []:=uI (fD rfl) fun k1 i1 {x1} h=>b h (uU (nV.eq_2 ..) (uC (dL aU fun e1=>(uC jh (uJ i1))) (uR (.exit 0) (xM (uJ J1)))));uE (L1 aH))))
end Go.Proofs.YtpiohnabdhpphaaGreatDoor
