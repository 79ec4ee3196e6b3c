/- Printed by a program: what the functions compute, and the proofs of their contracts. -/
import Derived.Test.YtpiohnabdhpphaaGreatDoorGeA
set_option linter.unusedVariables false
set_option linter.unusedSimpArgs false
set_option linter.unnecessarySimpa false
namespace Go.Proofs.YtpiohnabdhpphaaGreatDoor
open Go.SX Go Tryz
open Go.IntKind (i64)
set_option maxRecDepth 100000
set_option maxHeartbeats 8000000
def mU(rec1:Int→OI)(x3:Int)(x5:Bool):OI:=aj x5 (some 1) (rec1 (i64.wrap (x3+1)))
def mX(rec1:Int→OI)(p2:ar)(x3:Int)(e1:ai)(x4:Bool):OI:=aj x4 (some 3) (aj (decide (0<x3)) (al (at? p2.files (i64.wrap (x3-1))) fun e2=>al (some (Op.bytesLess e1.name.toList e2.name.toList||e1.name.toList==e2.name.toList)) fun y1=>mU rec1 x3 y1) (mU rec1 x3 false))
def j4(rec2:Int→OI)(x6:Int)(e3:lj)(r8:(ai×Bool))(x7:Bool):OI:=aj x7 (some 1) (al (pI e3.rows r8.1.rows) fun r11=>aj (!r11) (some 3) (rec2 (i64.wrap (x6+1))))
def j0(rec3:Int→OI)(x8:Int)(x9:Bool):OI:=aj x9 (some 1) (rec3 (i64.wrap (x8+1)))
def v8:OI:=some 0
def dn(p1:ay)(p2:ar):Nat→Int→OI
 |0,_=>none
 |k3+1,x8=>aj (decide (x8<(p2.dby.length:Int))) (al (at? p2.dby x8) fun e5=>al (yp p1 e5) fun r12=>aj (r12 != 0) (some r12) (aj (decide (p2.seq<e5.seq)) (some 3) (aj (decide (0<x8)) (al (at? p2.dby (i64.wrap (x8-1))) fun e6=>aj (decide (e5.seq<e6.seq)) (j0 (dn p1 p2 k3) x8 true) (al (zE p2.files e5.seq) fun r13=>j0 (dn p1 p2 k3) x8 (!r13))) (al (zE p2.files e5.seq) fun r14=>j0 (dn p1 p2 k3) x8 (!r14))))) (v8)
def jW(p1:ay)(p2:ar):OI:=dn p1 p2 aH 0
def cw(p1:ay)(p2:ar):Nat→Int→OI
 |0,_=>none
 |k2+1,x6=>aj (decide (x6<(p2.dat.length:Int))) (al (at? p2.dat x6) fun e3=>al (BH p2 e3.file) fun r8=>aj (!r8.2) (some 9) (aj (decide (0<x6)) (al (at? p2.dat (i64.wrap (x6-1))) fun e4=>al (some (Op.bytesLess e3.file.toList e4.file.toList||e3.file.toList==e4.file.toList)) fun y2=>aj y2 (j4 (cw p1 p2 k2) x6 e3 r8 true) (al (pQ e3.rows) fun r9=>j4 (cw p1 p2 k2) x6 e3 r8 (!r9))) (al (pQ e3.rows) fun r10=>j4 (cw p1 p2 k2) x6 e3 r8 (!r10)))) (jW p1 p2)
def jV(p1:ay)(p2:ar):OI:=cw p1 p2 aH 0
def bJ(p1:ay)(p2:ar):Nat→Int→OI
 |0,_=>none
 |k1+1,x3=>aj (decide (x3<(p2.files.length:Int))) (al (at? p2.files x3) fun e1=>al (qU p1 e1) fun r7=>aj (r7 != 0) (some r7) (aj (decide (p2.seq<e1.seq)) (mX (bJ p1 p2 k1) p2 x3 e1 true) (mX (bJ p1 p2 k1) p2 x3 e1 (decide (p2.schema<e1.schema))))) (jV p1 p2)
def mP(p1:ay)(p2:ar)(x2:Bool):OI:=aj x2 (some 5) (bJ p1 p2 aH 0)
def dP(p1:ay)(p2 p3:ar)(x1:Bool):OI:=aj x1 (some 3) (aj (decide (p2.id≤p3.id)) (mP p1 p2 true) (mP p1 p2 (decide (p2.seq≤p3.seq))))
def mL(p1:ay)(p2 p3:ar):OI:=al (dG p2.id 1 (i64.wrap (p1.nextSnap-1))) fun r1=>aj (!r1) (dP p1 p2 p3 true) (al (dG p2.parent 0 (i64.wrap (p2.id-1))) fun r2=>aj (!r2) (dP p1 p2 p3 true) (al (dG p2.seq 1 (i64.wrap (p1.nextSeq-1))) fun r3=>aj (!r3) (dP p1 p2 p3 true) (al (dG p2.schema 0 (i64.wrap ((p1.schemas.length:Int)-1))) fun r4=>aj (!r4) (dP p1 p2 p3 true) (al (dG p2.time (-62135596800) 253402300799) fun r5=>aj (!r5) (dP p1 p2 p3 true) (al (dG p2.kind 1 3) fun r6=>dP p1 p2 p3 (!r6))))))
theorem Dq(p1:ay)(p2 p3:ar):CT prog 39 [mM p1,mS p2,mS p3] (mL p1 p2 p3) vi:=
  cu 203 [8,11,12,15] f39 fun r=>(co f39 12 2 fun K k=>have J1:∀{x1},dP p1 p2 p3 x1=some r→K.p [(3,vR (bB p1)),(4,vR (oB p2)),(5,vR [pi p3.id,pi p3.parent,pi p3.seq,pi p3.schema,pi p3.time,pi p3.kind,.ro (aU.els p3.files),.ro (dj.els p3.dat),.ro (dT.els p3.dby)]),(63,vb x1)] []:=fun{x1} h=>k h (uC uz (co f39 28 2 fun K k=>have J2:∀{x2},mP p1 p2 x2=some r→K.p [(3,vR (bB p1)),(4,vR (oB p2)),(75,vb x2)] []:=fun{x2} h=>k h (uC uz (kd f39 30 1 (jV p1 p2) [(3,vR (bB p1)),(4,vR (oB p2))] [] (kd f39 62 1 (jW p1 p2) [(3,vR (bB p1)),(4,vR (oB p2))] [] (kd f39 126 1 v8 [] [] uz fun K J9=>(uN dT p2.dby (fJ f39 506 1 fun R b=>have L3:∀k3 {x8},dn p1 p2 k3 x8=some r→(R k3).p [(3,vR (bB p1)),(4,vR (oB p2)),(162,vl dT p2.dby),(163,vi p2.dby.length),(164,vi x8)] []:=uI (fD rfl) fun k3 i3 {x8} h=>b h (uU (dn.eq_2 ..) (uC (dL dT fun e5=>(aS (I6 _ _) fun r12=>(uC jh (uC jh (co f39 259278 3 fun K k=>have J8:∀{x9},j0 (dn p1 p2 k3) x8 x9=some r→K.p [(3,vR (bB p1)),(4,vR (oB p2)),(162,vl dT p2.dby),(163,vi p2.dby.length),(164,vi x8),(201,vb x9)] [.dead]:=fun{x9} h=>k h (uC jh (uJ i3));(mZ 19 (uC (dL dT fun e6=>(uC (uJ J8) (aS (GW _ _) fun r13=>(uJ J8)))) (aS (GW _ _) fun r14=>(uJ J8))))))))) (uR (.exit 4) (xM (uJ J9)))));uE (L3 aH)))) fun K J7=>(uN dj p2.dat (fJ f39 250 1 fun R b=>have L2:∀k2 {x6},cw p1 p2 k2 x6=some r→(R k2).p [(3,vR (bB p1)),(4,vR (oB p2)),(118,vl dj p2.dat),(119,vi p2.dat.length),(120,vi x6)] []:=uI (fD rfl) fun k2 i2 {x6} h=>b h (uU (cw.eq_2 ..) (uC (dL dj fun e3=>(aS (Ih _ _) fun r8=>(uC jh (co f39 256412 4 fun K k=>have J6:∀{x7},j4 (cw p1 p2 k2) x6 e3 r8 x7=some r→K.p [(3,vR (bB p1)),(4,vR (oB p2)),(11,vQ 0),(12,vQ 1),(118,vl dj p2.dat),(119,vi p2.dat.length),(120,vi x6),(153,vb x7)] [.box [rX e3.file,cl eI e3.rows],.box [rX r8.1.name,ci r8.1.schema,ci r8.1.spec,cl ak r8.1.part,ci r8.1.rows,ci r8.1.seq,cl bD r8.1.stats]]:=fun{x7} h=>k h (uC jh (aS (GE _ _) fun r11=>(uC jh (uJ i2))));(mZ 12 (uC (dL dj fun e4=>(uY 146 vb fun y2=>(uC (uJ J6) (aS (Ae _) fun r9=>(uJ J6))))) (aS (Ae _) fun r10=>(uJ J6)))))))) (uR (.exit 2) (xM (uJ J7)))));uE (L2 aH)))) fun K J5=>(uN aU p2.files (fJ f39 122 1 fun R b=>have L1:∀k1 {x3},bJ p1 p2 k1 x3=some r→(R k1).p [(3,vR (bB p1)),(4,vR (oB p2)),(77,vl aU p2.files),(78,vi p2.files.length),(79,vi x3)] []:=uI (fD rfl) fun k1 i1 {x3} h=>b h (uU (bJ.eq_2 ..) (uC (dL aU fun e1=>(aS (BG _ _) fun r7=>(uC jh (co f39 62668 4 fun K k=>have J3:∀{x4},mX (bJ p1 p2 k1) p2 x3 e1 x4=some r→K.p [(3,vR (bB p1)),(4,vR (oB p2)),(7,vi x3),(8,vQ 0),(77,vl aU p2.files),(78,vi p2.files.length),(79,vi x3),(101,vb x4)] [.box [rX e1.name,ci e1.schema,ci e1.spec,cl ak e1.part,ci e1.rows,ci e1.seq,cl bD e1.stats]]:=fun{x4} h=>k h (uC jh (co f39 62670 3 fun K k=>have J4:∀{x5},mU (bJ p1 p2 k1) x3 x5=some r→K.p [(3,vR (bB p1)),(4,vR (oB p2)),(77,vl aU p2.files),(78,vi p2.files.length),(79,vi x3),(115,vb x5)] [.dead]:=fun{x5} h=>k h (uC jh (uJ i1));(mZ 12 (uC (dL aU fun e2=>(uY 114 vb fun y1=>(uJ J4))) (uJ J4)))));(uC (uJ J3) (uJ J3)))))) (uR (.exit 0) (xM (uJ J5)))));uE (L1 aH)))));(uC (uJ J2) (uJ J2))));(aS (dp _ _ _) fun r1=>(uC (uJ J1) (aS (dp _ _ _) fun r2=>(uC (uJ J1) (aS (dp _ _ _) fun r3=>(uC (uJ J1) (uN (eL af) p1.schemas (aS (dp _ _ _) fun r4=>(uC (uJ J1) (aS (dp _ _ _) fun r5=>(uC (uJ J1) (aS (dp _ _ _) fun r6=>(uJ J1))))))))))))))
def CC:OB:=some true
def nk(q_ref3_exactly:ac→ac→OB)(p1 p2:ac):Nat→Int→OB
 |0,_=>none
 |k1+1,x2=>aj (decide (x2<(p1.items.length:Int))) (al (at? p1.items x2) fun e1=>al (at? p2.items x2) fun e2=>al (q_ref3_exactly e1 e2) fun r1=>aj (!r1) (some false) ((nk q_ref3_exactly p1 p2 k1) (i64.wrap (x2+1)))) (CC)
def jL(q_ref3_exactly:ac→ac→OB)(p1 p2:ac)(x1:Bool):OB:=aj x1 (some false) (nk q_ref3_exactly p1 p2 aH 0)
def eR:Nat→ac→ac→OB
 |0,_,_=>none
 |k0+1,p1,p2=>aj (p1.kind != p2.kind) (jL (eR k0) p1 p2 true) (aj (p1.n != p2.n) (jL (eR k0) p1 p2 true) (aj (p1.scale != p2.scale) (jL (eR k0) p1 p2 true) (aj (!(p1.s.toList==p2.s.toList)) (jL (eR k0) p1 p2 true) (jL (eR k0) p1 p2 ((p1.items.length:Int) != (p2.items.length:Int))))))
theorem u5:∀(k0:Nat) (p1 p2:ac),CT prog 92 [mV p1,mV p2] (eR k0 p1 p2) vb
  |0,_,_=>Jw (eR.eq_1 ..)
  |k0+1,p1,p2=>cu 60 [] f92 fun r=>(uU (eR.eq_2 ..) (co f92 12 2 fun K k=>have J1:∀{x1},jL (eR k0) p1 p2 x1=some r→K.p [(2,vR [pi p1.kind,pi p1.n,pi p1.scale,.s (.string p1.s),.ro (ak.els p1.items)]),(3,vR [pi p2.kind,pi p2.n,pi p2.scale,.s (.string p2.s),.ro (ak.els p2.items)]),(40,vb x1)] []:=fun{x1} h=>k h (uC uz (kd f92 14 1 CC [] [] uz fun K J2=>(uN ak p1.items (fJ f92 58 1 fun R b=>have L1:∀k1 {x2},nk (eR k0) p1 p2 k1 x2=some r→(R k1).p [(2,vR [pi p1.kind,pi p1.n,pi p1.scale,.s (.string p1.s),.ro (ak.els p1.items)]),(3,vR [pi p2.kind,pi p2.n,pi p2.scale,.s (.string p2.s),.ro (ak.els p2.items)]),(43,vi p1.items.length),(44,vi x2)] []:=uI (fD rfl) fun k1 i1 {x2} h=>b h (uU (nk.eq_2 ..) (uC (mZ 10 (dL ak fun e1=>(dL ak fun e2=>(aS (u5 k0 _ _) fun r1=>(uC jh (uJ i1)))))) (uR (.exit 0) (xM (uJ J2)))));uE (L1 aH)))));(uC (uJ J1) (uC (uJ J1) (uC (uJ J1) (uC (uJ J1) (uN ak p1.items (uN ak p2.items (uJ J1)))))))))
def mi(rec2:Int→OB)(x3:Int)(x4:Bool):OB:=aj x4 (some false) (rec2 (i64.wrap (x3+1)))
def Bx:OB:=some true
def eW(p1 p2:ai):Nat→Int→OB
 |0,_=>none
 |k2+1,x3=>aj (decide (x3<(p1.stats.length:Int))) (al (at? p1.stats x3) fun e3=>al (at? p2.stats x3) fun e4=>aj (e3.id != e4.id) (mi (eW p1 p2 k2) x3 true) (aj (e3.nulls != e4.nulls) (mi (eW p1 p2 k2) x3 true) (al (eR aH e3.min e4.min) fun r2=>aj (!r2) (mi (eW p1 p2 k2) x3 true) (al (eR aH e3.max e4.max) fun r3=>mi (eW p1 p2 k2) x3 (!r3))))) (Bx)
def rH(p1 p2:ai):OB:=eW p1 p2 aH 0
def kj(p1 p2:ai):Nat→Int→OB
 |0,_=>none
 |k1+1,x2=>aj (decide (x2<(p1.part.length:Int))) (al (at? p1.part x2) fun e1=>al (at? p2.part x2) fun e2=>al (eR aH e1 e2) fun r1=>aj (!r1) (some false) ((kj p1 p2 k1) (i64.wrap (x2+1)))) (rH p1 p2)
def fb(p1 p2:ai)(x1:Bool):OB:=aj x1 (some false) (kj p1 p2 aH 0)
def sL(p1 p2:ai):OB:=aj (!(p1.name.toList==p2.name.toList)) (fb p1 p2 true) (aj (p1.schema != p2.schema) (fb p1 p2 true) (aj (p1.spec != p2.spec) (fb p1 p2 true) (aj (p1.rows != p2.rows) (fb p1 p2 true) (aj ((p1.part.length:Int) != (p2.part.length:Int)) (fb p1 p2 true) (fb p1 p2 ((p1.stats.length:Int) != (p2.stats.length:Int)))))))
theorem Ir(p1 p2:ai):CT prog 41 [mF p1,mF p2] (sL p1 p2) vb:=
  cu 117 [7,8] f41 fun r=>(co f41 12 2 fun K k=>have J1:∀{x1},fb p1 p2 x1=some r→K.p [(2,vR (eJ p1)),(3,vR (eJ p2)),(52,vb x1)] []:=fun{x1} h=>k h (uC uz (kd f41 14 1 (rH p1 p2) [(2,vR (eJ p1)),(3,vR (eJ p2))] [] (kd f41 30 1 Bx [] [] uz fun K J4=>(uN bD p1.stats (fJ f41 122 1 fun R b=>have L2:∀k2 {x3},eW p1 p2 k2 x3=some r→(R k2).p [(2,vR (eJ p1)),(3,vR (eJ p2)),(74,vi p1.stats.length),(75,vi x3)] []:=uI (fD rfl) fun k2 i2 {x3} h=>b h (uU (eW.eq_2 ..) (uC (Im 13 2 [0,1,2] (dL bD fun e3=>(dL bD fun e4=>(co f41 31334 3 fun K k=>have J3:∀{x4},mi (eW p1 p2 k2) x3 x4=some r→K.p [(2,vR (eJ p1)),(3,vR (eJ p2)),(74,vi p1.stats.length),(75,vi x3),(115,vb x4)] [.dead,.dead]:=fun{x4} h=>k h (uC jh (uJ i2));(uC (uJ J3) (uC (uJ J3) (aS (u5 aH _ _) fun r2=>(uC (uJ J3) (aS (u5 aH _ _) fun r3=>(uJ J3)))))))))) (uR (.exit 2) (xM (uJ J4)))));uE (L2 aH)))) fun K J2=>(uN ak p1.part (fJ f41 58 1 fun R b=>have L1:∀k1 {x2},kj p1 p2 k1 x2=some r→(R k1).p [(2,vR (eJ p1)),(3,vR (eJ p2)),(55,vi p1.part.length),(56,vi x2)] []:=uI (fD rfl) fun k1 i1 {x2} h=>b h (uU (kj.eq_2 ..) (uC (mZ 10 (dL ak fun e1=>(dL ak fun e2=>(aS (u5 aH _ _) fun r1=>(uC jh (uJ i1)))))) (uR (.exit 0) (xM (uJ J2)))));uE (L1 aH)))));(uC (uJ J1) (uC (uJ J1) (uC (uJ J1) (uC (uJ J1) (uN ak p1.part (uN ak p2.part (uC (uJ J1) (uN bD p1.stats (uN bD p2.stats (uJ J1)))))))))))
def vg(rec1:Int→Option (ar×Bool))(x1:Int)(e1:ar)(x2:Bool):Option (ar×Bool):=aj x2 (some (e1,true)) (rec1 (i64.wrap (x1+1)))
def FL:Option (ar×Bool):=some ((ar.mk 0 0 0 0 0 0 [] [] []),false)
def fv(p1:ay)(p2:Int):Nat→Int→Option (ar×Bool)
 |0,_=>none
 |k1+1,x1=>aj (decide (x1<(p1.snapshots.length:Int))) (al (at? p1.snapshots x1) fun e1=>aj (e1.id==p2) (vg (fv p1 p2 k1) x1 e1 (decide (0<p2))) (vg (fv p1 p2 k1) x1 e1 false)) (FL)
def wz(p1:ay)(p2:Int):Option (ar×Bool):=fv p1 p2 aH 0
abbrev P4:List CV:=[ci (0:Int),ci (0:Int),ci (0:Int),ci (0:Int),ci (0:Int),ci (0:Int),.pv (.s (.slice none 0 0)),.pv (.s (.slice none 0 0)),.pv (.s (.slice none 0 0))]
theorem H4(p1:ay)(p2:Int):CT prog 33 [mM p1,vi p2] (wz p1 p2) (fun r=> .tp [mS r.1,vb r.2]):=
  cu 26 [4,7] f33 fun r=>(kd f33 6 1 FL [(4,vQ 0)] [.box P4] uz fun K J2=>(uN aT p1.snapshots (fJ f33 26 1 fun R b=>have L1:∀k1 {x1},fv p1 p2 k1 x1=some r→(R k1).p [(1,vi p2),(4,vQ 0),(9,vl aT p1.snapshots),(10,vi p1.snapshots.length),(11,vi x1)] [.box P4]:=uI (fD rfl) fun k1 i1 {x1} h=>b h (uU (fv.eq_2 ..) (uC (dL aT fun e1=>(co f33 3378 3 fun K k=>have J1:∀{x2},vg (fv p1 p2 k1) x1 e1 x2=some r→K.p [(1,vi p2),(4,vQ 0),(7,vQ 1),(9,vl aT p1.snapshots),(10,vi p1.snapshots.length),(11,vi x1),(22,vb x2)] [.box P4,.box [ci e1.id,ci e1.parent,ci e1.seq,ci e1.schema,ci e1.time,ci e1.kind,cl aU e1.files,cl dj e1.dat,cl dT e1.dby]]:=fun{x2} h=>k h (uC jh (uJ i1));(uC (uJ J1) (uJ J1)))) (uR (.exit 0) (xM (uJ J2)))));uE (L1 aH))))
def DY(p1:ByteArray):OB:=al (tT (ac.mk 4 0 0 p1 [])) fun r1=>some r1
theorem HV(p1:ByteArray):CT prog 43 [vs p1] (DY p1) vb:=
  cu 6 [] f43 fun r=>(aS (ym _) fun r1=>uz)
def A9(rec1:Int→OI)(x3:Int):OI:=rec1 (i64.wrap (x3+1))
def nO(rec1:Int→OI)(p1:ay)(x3:Int)(e1:List ae):Nat→Int→OI
 |0,_=>none
 |k3+1,x5=>aj (decide (x5<x3)) (al (at? p1.schemas x5) fun e3=>al (tG e3 e1) fun r8=>aj (r8.2 != 0) (some r8.2) ((nO rec1 p1 x3 e1 k3) (i64.wrap (x5+1)))) (A9 rec1 x3)
def xg(rec1:Int→OI)(p1:ay)(x3:Int)(e1:List ae):OI:=nO rec1 p1 x3 e1 aH 0
def n5(rec1:Int→OI)(p1:ay)(x3:Int)(e1:List ae)(r7:List Int):Nat→Int→OI
 |0,_=>none
 |k2+1,x4=>aj (decide (x4<(r7.length:Int))) (al (at? r7 x4) fun e2=>aj (decide (p1.nextField≤e2)) (some 3) ((n5 rec1 p1 x3 e1 r7 k2) (i64.wrap (x4+1)))) (xg rec1 p1 x3 e1)
def wV(rec7:Int→OI)(x9:Int)(x10:Bool):OI:=aj x10 (some 5) (rec7 (i64.wrap (x9+1)))
def A5(rec6:Int→OI)(x8:Int):OI:=rec6 (i64.wrap (x8+1))
def kC(rec6:Int→OI)(e5:ar)(x8:Int)(e6:ar):Nat→Int→OI
 |0,_=>none
 |k7+1,x9=>aj (decide (x9<(e5.files.length:Int))) (al (at? e5.files x9) fun e7=>al (BH e6 e7.name) fun r11=>aj r11.2 (al (sL e7 r11.1) fun r12=>wV (kC rec6 e5 x8 e6 k7) x9 (!r12)) (wV (kC rec6 e5 x8 e6 k7) x9 false)) (A5 rec6 x8)
def AP(rec5:Int→OI)(x7:Int):OI:=rec5 (i64.wrap (x7+1))
def gG(rec5:Int→OI)(p1:ay)(x7:Int)(e5:ar):Nat→Int→OI
 |0,_=>none
 |k6+1,x8=>al (some (decide (x8<(((p1.snapshots.drop (0:Int).toNat).take (x7.toNat-(0:Int).toNat)).length:Int)))) fun y1=>aj y1 (al (at? ((p1.snapshots.drop (0:Int).toNat).take (x7.toNat-(0:Int).toNat)) x8) fun e6=>kC (gG rec5 p1 x7 e5 k6) e5 x8 e6 aH 0) (AP rec5 x7)
def qF(rec8:Int→OI)(x11:Int)(x13:Bool):OI:=aj x13 (some 9) (rec8 (i64.wrap (x11+1)))
def vD(rec8:Int→OI)(p1:ay)(x11:Int)(e8:kV):OI:=al (wz p1 e8.snapshot) fun r14=>aj (!r14.2) (aj e8.branch (qF rec8 x11 (!(e8.snapshot==0))) (qF rec8 x11 true)) (qF rec8 x11 false)
def nN(rec8:Int→OI)(p1:ay)(x11:Int)(e8:kV):Nat→Int→OI
 |0,_=>none
 |k9+1,x12=>aj (decide (x12<x11)) (al (at? p1.refs x12) fun e9=>aj (e9.name.toList==e8.name.toList) (some 5) ((nN rec8 p1 x11 e8 k9) (i64.wrap (x12+1)))) (vD rec8 p1 x11 e8)
def qP(rec10:Int→OI)(x14:Int)(x15:Bool):OI:=aj x15 (some 1) (rec10 (i64.wrap (x14+1)))
def CW:OI:=some 0
def iu(p1:ay):Nat→Int→OI
 |0,_=>none
 |k10+1,x14=>aj (decide (x14<(p1.props.length:Int))) (al (at? p1.props x14) fun e10=>al (yI e10.name) fun r15=>aj (!r15) (some 4) (aj (decide (0<x14)) (al (at? p1.props (i64.wrap (x14-1))) fun e11=>al (some (Op.bytesLess e10.name.toList e11.name.toList||e10.name.toList==e11.name.toList)) fun y2=>aj y2 (qP (iu p1 k10) x14 true) (al (DY e10.value) fun r16=>qP (iu p1 k10) x14 (!r16))) (al (DY e10.value) fun r17=>qP (iu p1 k10) x14 (!r17)))) (CW)
def u6(p1:ay):OI:=iu p1 aH 0
def gH(p1:ay):Nat→Int→OI
 |0,_=>none
 |k8+1,x11=>aj (decide (x11<(p1.refs.length:Int))) (al (at? p1.refs x11) fun e8=>al (yI e8.name) fun r13=>aj (!r13) (some 4) (nN (gH p1 k8) p1 x11 e8 aH 0)) (u6 p1)
def oD(p1:ay):OI:=gH p1 aH 0
def dX(p1:ay):Nat→Int→OI
 |0,_=>none
 |k5+1,x7=>aj (decide (x7<(p1.snapshots.length:Int))) (al (at? p1.snapshots x7) fun e5=>gX (0≤(0:Int)∧(0:Int)≤x7∧x7≤(p1.snapshots.length:Int))<|gG (dX p1 k5) p1 x7 e5 aH (0:Int)) (oD p1)
def th(p1:ay):OI:=dX p1 aH 0
def lW(p1:ay):Nat→Int→Int→Int→Int→Int→Int→List ai→List lj→List cz→Int→OI
 |0,_,_,_,_,_,_,_,_,_,_=>none
 |k4+1,z1,z2,z3,z4,z5,z6,z7,z8,z9,x6=>aj (decide (x6<(p1.snapshots.length:Int))) (al (at? p1.snapshots x6) fun e4=>al (mL p1 e4 (ar.mk z1 z2 z3 z4 z5 z6 z7 z8 z9)) fun r10=>aj (r10 != 0) (some r10) ((lW p1 k4) e4.id e4.parent e4.seq e4.schema e4.time e4.kind e4.files e4.dat e4.dby (i64.wrap (x6+1)))) (th p1)
def xd(p1:ay):OI:=al (tK p1) fun r9=>aj (r9 != 0) (some r9) (lW p1 aH 0 0 0 0 0 0 [] [] [] 0)
def dZ(p1:ay):Nat→Int→OI
 |0,_=>none
 |k1+1,x3=>aj (decide (x3<(p1.schemas.length:Int))) (al (at? p1.schemas x3) fun e1=>al (kg e1) fun r6=>aj (r6 != 0) (some r6) (al (qQ aH e1) fun r7=>n5 (dZ p1 k1) p1 x3 e1 r7 aH 0)) (xd p1)
def nR(p1:ay)(x2:Bool):OI:=aj x2 (some 3) (dZ p1 aH 0)
def s9(p1:ay)(x1:Bool):OI:=aj x1 (some 9) (al (dG p1.nextField 1 1099511627776) fun r2=>aj (!r2) (nR p1 true) (al (dG p1.nextSeq 1 1099511627776) fun r3=>aj (!r3) (nR p1 true) (al (dG p1.nextSnap 1 1099511627776) fun r4=>aj (!r4) (nR p1 true) (al (dG p1.purges 0 1099511627776) fun r5=>nR p1 (!r5)))))
def wl(p1:ay):OI:=al (Ch p1) fun r1=>aj r1 (some 7) (aj ((p1.schemas.length:Int)==0) (s9 p1 true) (s9 p1 ((p1.specs.length:Int)==0)))
abbrev MD(p1:ay):Fr:=[(1,.one (.pv (.rp [(bB p1)] 0 0)))]
abbrev Uq(p1:ay)(x7:Int):Fr:=[(1,.one (.pv (.rp [(bB p1)] 0 0))),(132,vl aT p1.snapshots),(133,vi (p1.snapshots.length:Int)),(134,vi x7)]
abbrev Wf(p1:ay)(x7 x8:Int):Fr:=[(1,.one (.pv (.rp [(bB p1)] 0 0))),(17,.one (.pt 1 0 0 0)),(132,vl aT p1.snapshots),(133,vi (p1.snapshots.length:Int)),(134,vi x7),(142,vl aT ((p1.snapshots.drop (0:Int).toNat).take (x7.toNat-(0:Int).toNat))),(143,vi (((p1.snapshots.drop (0:Int).toNat).take (x7.toNat-(0:Int).toNat)).length:Int)),(144,vi x8)]
abbrev TR(p1:ay)(x3:Int):Fr:=[(1,.one (.pv (.rp [(bB p1)] 0 0))),(66,vl (eL af) p1.schemas),(67,vi (p1.schemas.length:Int)),(68,vi x3)]
theorem GD(p1:ay):CT prog 11 [mM p1] (wl p1) vi:=
  cu 251 [12,14,17,19,21,22,25,27,30] f11 fun r=>(aS (M0 _) fun r1=>(uC' (fun b5=>uz) (fun b5=>(co f11 28 2 fun K k=>have J1:∀{x1},s9 p1 x1=some r→K.p [(1,vR (bB p1)),(42,vb x1)] []:=fun{x1} h=>k h (uC' (fun b10=>uz) (fun b10=>(co f11 60 2 fun K k=>have J2:∀{x2},nR p1 x2=some r→K.p [(1,vR (bB p1)),(64,vb x2)] []:=fun{x2} h=>k h (uC uz (kd f11 62 1 (xd p1) (MD p1) [] (aS (FK _) fun r9=>(uC uz (kd f11 510 1 (th p1) (MD p1) [.dead] (kd f11 1022 1 (oD p1) (MD p1) [.dead] (kd f11 2046 1 (u6 p1) (MD p1) [.dead] (kd f11 4094 1 CW [] [.dead] uz fun K J15=>(uN ku p1.props (fJ f11 16378 1 fun R b=>have L10:∀k10 {x14},iu p1 k10 x14=some r→(R k10).p [(1,vR (bB p1)),(219,vl ku p1.props),(220,vi p1.props.length),(221,vi x14)] [.dead]:=uI (fD rfl) fun k10 i10 {x14} h=>b h (uU (iu.eq_2 ..) (uC (dL ku fun e10=>(aS (DH _) fun r15=>(uC jh (co f11 4192870 3 fun K k=>have J14:∀{x15},qP (iu p1 k10) x14 x15=some r→K.p [(1,vR (bB p1)),(219,vl ku p1.props),(220,vi p1.props.length),(221,vi x14),(249,vb x15)] [.dead,.dead]:=fun{x15} h=>k h (uC jh (uJ i10));(mZ 12 (uC (dL ku fun e11=>(uY 242 vb fun y2=>(uC (uJ J14) (aS (HV _) fun r16=>(uJ J14))))) (aS (HV _) fun r17=>(uJ J14)))))))) (uR (.exit 18) (xM (uJ J15)))));uE (L10 aH)))) fun K J13=>(uN nT p1.refs (fJ f11 8186 1 fun R b=>have L8:∀k8 {x11},gH p1 k8 x11=some r→(R k8).p [(1,vR (bB p1)),(173,vl nT p1.refs),(174,vi p1.refs.length),(175,vi x11)] [.dead]:=uI (fD rfl) fun k8 i8 {x11} h=>b h (uU (gH.eq_2 ..) (uC (dL nT fun e8=>(aS (DH _) fun r13=>(uC jh (kd f11 2095718 3 (vD (gH p1 k8) p1 x11 e8) [(1,vR (bB p1)),(25,vQ 1),(173,vl nT p1.refs),(174,vi p1.refs.length),(175,vi x11)] [.dead,.box [rX e8.name,cb e8.branch,ci e8.snapshot]] (aS (H4 _ _) fun r14=>(co f11 8382878 3 fun K k=>have J12:∀{x13},qF (gH p1 k8) x11 x13=some r→K.p [(1,vR (bB p1)),(173,vl nT p1.refs),(174,vi p1.refs.length),(175,vi x11),(216,vb x13)] [.dead,.dead,.dead]:=fun{x13} h=>k h (uC jh (uJ i8));(uC (uC (uJ J12) (uJ J12)) (uJ J12)))) fun K J11=>(fJ f11 8382874 1 fun R b=>have L9:∀k9 {x12},nN (gH p1 k8) p1 x11 e8 k9 x12=some r→(R k9).p [(1,vR (bB p1)),(24,vi x11),(25,vQ 1),(26,vi x12),(173,vl nT p1.refs),(174,vi p1.refs.length),(175,vi x11)] [.dead,.box [rX e8.name,cb e8.branch,ci e8.snapshot]]:=uI (fD rfl) fun k9 i9 {x12} h=>b h (uU (nN.eq_2 ..) (uC (mZ 8 (dL nT fun e9=>(uC (uR .ret (xN (xN (xN (xN xF))))) (uJ i9)))) (uR (.exit 16) (xM (uJ J11)))));uE (L9 aH)))))) (uR (.exit 14) (xM (uJ J13)))));uE (L8 aH)))) fun K J10=>(uN aT p1.snapshots (fJ f11 4090 1 fun R b=>have L5:∀k5 {x7},dX p1 k5 x7=some r→(R k5).p (Uq p1 x7) [.dead]:=uI (fD rfl) fun k5 i5 {x7} h=>b h (uU (dX.eq_2 ..) (uC (kd f11 65446 1 (AP (dX p1 k5) x7) (Uq p1 x7) [.dead] (uJ i5) fun K J9=>(dL aT fun e5=>(uX aT (uN aT ((p1.snapshots.drop (0:Int).toNat).take (x7.toNat-(0:Int).toNat)) (fJ f11 1047142 2 fun R b=>have L6:∀k6 {x8},gG (dX p1 k5) p1 x7 e5 k6 x8=some r→(R k6).p (Wf p1 x7 x8) [.dead,.box (Bc e5)]:=uI (fD rfl) fun k6 i6 {x8} h=>b h (uU (gG.eq_2 ..) (uY 145 vb fun y1=>(uC (kd f11 16754278 1 (A5 (gG (dX p1 k5) p1 x7 e5 k6) x8) (Wf p1 x7 x8) [.dead,.box (Bc e5)] (uJ i6) fun K J8=>(dL aT fun e6=>(uN aU e5.files (fJ f11 268068454 2 fun R b=>have L7:∀k7 {x9},kC (gG (dX p1 k5) p1 x7 e5 k6) e5 x8 e6 k7 x9=some r→(R k7).p [(1,vR (bB p1)),(17,vQ 1),(19,vQ 2),(132,vl aT p1.snapshots),(133,vi p1.snapshots.length),(134,vi x7),(142,vl aT ((p1.snapshots.drop (0:Int).toNat).take (x7.toNat-(0:Int).toNat))),(143,vi (((p1.snapshots.drop (0:Int).toNat).take (x7.toNat-(0:Int).toNat)).length:Int)),(144,vi x8),(149,vl aU e5.files),(150,vi e5.files.length),(151,vi x9)] [.dead,.box (Bc e5),.box (Bc e6)]:=uI (fD rfl) fun k7 i7 {x9} h=>b h (uU (kC.eq_2 ..) (uC (dL aU fun e7=>(aS (Ih _ _) fun r11=>(co f11 68625524326 3 fun K k=>have J7:∀{x10},wV (kC (gG (dX p1 k5) p1 x7 e5 k6) e5 x8 e6 k7) x9 x10=some r→K.p [(1,vR (bB p1)),(17,vQ 1),(19,vQ 2),(132,vl aT p1.snapshots),(133,vi p1.snapshots.length),(134,vi x7),(142,vl aT ((p1.snapshots.drop (0:Int).toNat).take (x7.toNat-(0:Int).toNat))),(143,vi (((p1.snapshots.drop (0:Int).toNat).take (x7.toNat-(0:Int).toNat)).length:Int)),(144,vi x8),(149,vl aU e5.files),(150,vi e5.files.length),(151,vi x9),(168,vb x10)] [.dead,.box (Bc e5),.box (Bc e6),.dead,.dead]:=fun{x10} h=>k h (uC (uR .ret (xN (xN (xN (xN (xN (xN xF))))))) (uJ i7));(uC (aS (Ir _ _) fun r12=>(uJ J7)) (uJ J7))))) (uR (.exit 12) (xM (uJ J8)))));uE (L7 aH))))) (uR (.exit 10) (xM (uJ J9))))));uE (L6 aH)))))) (uR (.exit 8) (xM (uJ J10)))));uE (L5 aH)))) fun K J6=>(uN aT p1.snapshots (LC (.sb 0 6) (LC (.sb 0 7) (LC (.sb 0 8) (fJ f11 2042 1 fun R b=>have L4:∀k4 {z1 z2 z3 z4 z5 z6 z7 z8 z9 x6},lW p1 k4 z1 z2 z3 z4 z5 z6 z7 z8 z9 x6=some r→(R k4).p [(1,vR (bB p1)),(12,vQ 0),(116,vl aT p1.snapshots),(117,vi p1.snapshots.length),(118,vi x6)] [.box [ci z1,ci z2,ci z3,ci z4,ci z5,ci z6,cl aU z7,cl dj z8,cl dT z9]]:=uI (fD rfl) fun k4 i4 {z1 z2 z3 z4 z5 z6 z7 z8 z9 x6} h=>b h (uU (lW.eq_2 ..) (uC (dL aT fun e4=>(aS (Dq _ _ _) fun r10=>(uC jh (uJ i4)))) (uR (.exit 6) (xM (uJ J6)))));uE (L4 aH))))))))) fun K J5=>(uN (eL af) p1.schemas (fJ f11 250 1 fun R b=>have L1:∀k1 {x3},dZ p1 k1 x3=some r→(R k1).p (TR p1 x3) []:=uI (fD rfl) fun k1 i1 {x3} h=>b h (uU (dZ.eq_2 ..) (uC (kd f11 4006 1 (A9 (dZ p1 k1) x3) (TR p1 x3) [] (uJ i1) fun K J4=>(dL (eL af) fun e1=>(aS (tS _) fun r6=>(uC (uR .ret (xN (xN (xN xF)))) (kd f11 64102 2 (xg (dZ p1 k1) p1 x3 e1) [(1,vR (bB p1)),(3,vi x3),(4,vl af e1),(66,vl (eL af) p1.schemas),(67,vi p1.schemas.length),(68,vi x3)] [] (fJ f11 256414 2 fun R b=>have L3:∀k3 {x5},nO (dZ p1 k1) p1 x3 e1 k3 x5=some r→(R k3).p [(1,vR (bB p1)),(3,vi x3),(4,vl af e1),(8,vi x5),(66,vl (eL af) p1.schemas),(67,vi p1.schemas.length),(68,vi x3)] []:=uI (fD rfl) fun k3 i3 {x5} h=>b h (uU (nO.eq_2 ..) (uC (dL (eL af) fun e3=>(uPn (Gl _ _) fun r8 _=>(uC (uR .ret (xN (xN (xN (xN xF))))) (uJ i3)))) (uR (.exit 4) (xM (uJ J4)))));uE (L3 aH)) fun K J3=>(aS (E7 aH _) fun r7=>(uN eI r7 (fJ f11 256410 1 fun R b=>have L2:∀k2 {x4},n5 (dZ p1 k1) p1 x3 e1 r7 k2 x4=some r→(R k2).p [(1,vR (bB p1)),(3,vi x3),(4,vl af e1),(66,vl (eL af) p1.schemas),(67,vi p1.schemas.length),(68,vi x3),(79,vl eI r7),(80,vi r7.length),(81,vi x4)] []:=uI (fD rfl) fun k2 i2 {x4} h=>b h (uU (n5.eq_2 ..) (uC (dL eI fun e2=>(uC (uR .ret (xN (xN (xN (xN (xN xF)))))) (uJ i2))) (uR (.exit 2) (xM (uJ J3)))));uE (L2 aH))))))))) (uR (.exit 0) (xM (uJ J5)))));uE (L1 aH)))));(aS (dp _ _ _) fun r2=>(uC (uJ J2) (aS (dp _ _ _) fun r3=>(uC (uJ J2) (aS (dp _ _ _) fun r4=>(uC (uJ J2) (aS (dp _ _ _) fun r5=>(uJ J2)))))))))));(uN (eL af) p1.schemas (uC (uJ J1) (uN fk p1.specs (uJ J1))))))))
def zw:OI:=some 0
def iM(p1:List bw)(p2:List ae):Nat→Int→OI
 |0,_=>none
 |k1+1,x1=>aj (decide (x1<(p1.length:Int))) (al (at? p1 x1) fun e1=>al (nE p2 e1.id) fun r1=>aj (!r1.2) (some 9) (al (mr r1.1.type e1.low) fun r2=>aj (r2 != 0) (some r2) (al (mr r1.1.type e1.high) fun r3=>aj (r3 != 0) (some r3) ((iM p1 p2 k1) (i64.wrap (x1+1)))))) (zw)
def pJ(p1:List bw)(p2:List ae):OI:=aj (decide (40<(p1.length:Int))) (some 7) (iM p1 p2 aH 0)
theorem Af(p1:List bw)(p2:List ae):CT prog 24 [vl gS p1,vl af p2] (pJ p1 p2) vi:=
  cu 46 [6,7] f24 fun r=>(uN gS p1 (uC uz (kd f24 14 1 zw [] [] uz fun K J1=>(uN gS p1 (fJ f24 58 1 fun R b=>have L1:∀k1 {x1},iM p1 p2 k1 x1=some r→(R k1).p [(1,vl af p2),(14,vl gS p1),(15,vi p1.length),(16,vi x1)] []:=uI (fD rfl) fun k1 i1 {x1} h=>b h (uU (iM.eq_2 ..) (uC (dL gS fun e1=>(aS (qG _ _) fun r1=>(uC jh (aS (rM _ _) fun r2=>(uC jh (aS (rM _ _) fun r3=>(uC jh (uJ i1)))))))) (uR (.exit 0) (xM (uJ J1)))));uE (L1 aH))))))
def w7(p1:ac)(z1:Int):Option ac:=some (ac.mk z1 p1.n p1.scale p1.s p1.items)
def tY(p1:ac)(p2:am):Option ac:=aj (p1.kind != 0) (w7 p1 p2.kind) (w7 p1 p1.kind)
theorem GC(p1:ac)(p2:am):CT prog 137 [mV p1,mT p2] (tY p1 p2) (fun r=>mV r):=
  cu 12 [2,4] f137 fun r=>(co f137 6 1 fun K k=>have J1:∀{z1},w7 p1 z1=some r→K.p [(2,vQ 0),(4,vQ 1)] [.box [ci z1,ci p1.n,ci p1.scale,rX p1.s,cl ak p1.items],.box [ci (0:Int),ci (0:Int),ci (0:Int),rX ByteArray.empty,.pv (.s (.slice none 0 0))]]:=fun{z1} h=>k h uz;(uC (uJ J1) (uJ J1)))
def Ah(x3:List Int)(z1:Bool):Option cU:=some (cU.mk z1 x3)
def Dn(p1:Bool)(x3:List Int):Option cU:=aj p1 (Ah x3 (decide (0<(x3.length:Int)))) (Ah x3 false)
def uc(rec1:List Int→Option cU)(p1:Bool)(x1:List Int)(x2:Bool):Option cU:=aj x2 (gX (0≤(0:Int)∧(0:Int)≤(i64.wrap ((x1.length:Int)-(1:Int)))∧(i64.wrap ((x1.length:Int)-(1:Int)))≤(x1.length:Int))<|rec1 ((x1.drop (0:Int).toNat).take ((i64.wrap ((x1.length:Int)-(1:Int))).toNat-(0:Int).toNat))) (Dn p1 x1)
def nC(p1:Bool):Nat→List Int→Option cU
 |0,_=>none
 |k1+1,x1=>aj (decide (0<(x1.length:Int))) (al (at? x1 (i64.wrap ((x1.length:Int)-1))) fun e1=>uc (nC p1 k1) p1 x1 (e1==0)) (uc (nC p1 k1) p1 x1 false)
def sS(p1:Bool)(p2:List Int):Option cU:=nC p1 aH p2
theorem wg(p1:Bool)(p2:List Int):CT prog 291 [vb p1,vl eI p2] (sS p1 p2) (fun r=> .ag [cb r.below,cl eI r.d]):=
  cu 30 [4] f291 fun r=>(co f291 6 1 fun K k=>have J2:∀{x3},Dn p1 x3=some r→K.p [(0,vb p1),(1,vl eI x3),(4,vQ 0)] [.box HJ]:=fun{x3} h=>k h (co f291 14 1 fun K k=>have J3:∀{z1},Ah x3 z1=some r→K.p [(4,vQ 0)] [.box [cb z1,cl eI x3]]:=fun{z1} h=>k h uz;(uC (uN eI x3 (uJ J3)) (uJ J3)));(fJ f291 12 1 fun R b=>have L1:∀k1 {x1},nC p1 k1 x1=some r→(R k1).p [(0,vb p1),(1,vl eI x1),(4,vQ 0)] [.box HJ]:=uI (fD rfl) fun k1 i1 {x1} h=>b h (uU (nC.eq_2 ..) (co f291 96 2 fun K k=>have J1:∀{x2},uc (nC p1 k1) p1 x1 x2=some r→K.p [(0,vb p1),(1,vl eI x1),(4,vQ 0),(16,vb x2)] [.box HJ]:=fun{x2} h=>k h (uC (uN eI x1 (uX eI (uJ i1))) (uR (.exit 0) (xM (uJ J2))));(uN eI x1 (uC (uN eI x1 (dL eI fun e1=>(uJ J1))) (uJ J1)))));uE (L1 aH)))
def xK(rec1:List Int→Int→Option cU)(x1:Int)(l3:List Int):Option cU:=rec1 l3 (i64.wrap (x1+1))
def lw(rec1:List Int→Int→Option cU)(p2:cU)(x1 e1:Int):Nat→List Int→Int→Option cU
 |0,_,_=>none
 |k2+1,l2,x2=>aj (decide (x2<(p2.d.length:Int))) (al (at? p2.d x2) fun e2=>al (at? l2 (i64.wrap (x1+x2))) fun e3=>(lw rec1 p2 x1 e1 k2) (l2.set (i64.wrap (x1+x2)).toNat (i64.wrap (e3+(i64.wrap (e1*e2))))) (i64.wrap (x2+1))) (xK rec1 x1 l2)
def tC(p1 p2:cU)(l6:List Int):Option cU:=al (sS (!(p1.below==p2.below)) l6) fun r1=>some r1
def lv(p1 p2:cU):Nat→List Int→Int→Option cU
 |0,_,_=>none
 |k3+1,l5,x3=>al (some (decide ((i64.wrap (x3+1))<((l5.length:Nat):Int)))) fun y2=>aj y2 (al (at? l5 (i64.wrap (x3+1))) fun e4=>al (at? l5 x3) fun e5=>al (at? (l5.set (i64.wrap (x3+1)).toNat (i64.wrap (e4+(i64.wrap (e5.tdiv 10))))) x3) fun e6=>(lv p1 p2 k3) ((l5.set (i64.wrap (x3+1)).toNat (i64.wrap (e4+(i64.wrap (e5.tdiv 10))))).set x3.toNat (e6.tmod 10)) (i64.wrap (x3+1))) (tC p1 p2 l5)
def tM(p1 p2:cU)(l4:List Int):Option cU:=lv p1 p2 aH l4 0
def gC(p1 p2:cU):Nat→List Int→Int→Option cU
 |0,_,_=>none
 |k1+1,l1,x1=>aj (decide (x1<(p1.d.length:Int))) (al (at? p1.d x1) fun e1=>lw (gC p1 p2 k1) p2 x1 e1 aH l1 0) (tM p1 p2 l1)
def yq(p1 p2:cU):Option cU:=al (some (i64.wrap ((i64.wrap ((p1.d.length:Int)+(p2.d.length:Int)))+1))) fun y1=>gX (0≤y1∧y1≤y1∧y1≤4294967296)<|gC p1 p2 aH (List.replicate y1.toNat (0:Int)) 0
theorem Jc(p1 p2:cU):CT prog 294 [.ag [cb p1.below,cl eI p1.d],.ag [cb p2.below,cl eI p2.d]] (yq p1 p2) (fun r=> .ag [cb r.below,cl eI r.d]):=
  cu 81 [4] f294 fun r=>(uN eI p1.d (uN eI p2.d (uY 18 vi fun y1=>(uMk eI (0:Int) (co f294 14 1 fun K k=>have J2:∀{l4},tM p1 p2 l4=some r→K.p [(2,vR [.s (.bool p1.below),.ro (eI.els p1.d)]),(3,vR [.s (.bool p2.below),.ro (eI.els p2.d)]),(4,vQ 0),(5,.one (.sl 1 1 0 l4.length))] [.box [cb false,.pv (.s (.slice none 0 0))],.arr 1 (eI.els l4)]:=fun{l4} h=>k h (co f294 30 1 fun K k=>have J3:∀{l6},tC p1 p2 l6=some r→K.p [(2,vR [.s (.bool p1.below),.ro (eI.els p1.d)]),(3,vR [.s (.bool p2.below),.ro (eI.els p2.d)]),(4,vQ 0),(5,.one (.sl 1 1 0 l6.length))] [.box [cb false,.pv (.s (.slice none 0 0))],.arr 1 (eI.els l6)]:=fun{l6} h=>k h (Ks eI l6 1 [79] (aS (wg _ _) fun r1=>uz));(fJ f294 122 1 fun R b=>have L3:∀k3 {l5 x3},lv p1 p2 k3 l5 x3=some r→(R k3).p [(2,vR [.s (.bool p1.below),.ro (eI.els p1.d)]),(3,vR [.s (.bool p2.below),.ro (eI.els p2.d)]),(4,vQ 0),(5,.one (.sl 1 1 0 l5.length)),(10,vi x3)] [.box [cb false,.pv (.s (.slice none 0 0))],.arr 1 (eI.els l5)]:=uI (fD rfl) fun k3 i3 {l5 x3} h=>b h (uU (lv.eq_2 ..) (uY 53 vb fun y2=>(uC (mZ 10 (Tp eI 1 fun e4 a30=>(Wq eI a30 (Tp eI 1 fun e5 a31=>(Wq eI a31 (uIb eI 1 a30 (Ya eI 1 a30 (i64.wrap (e4+(i64.wrap (e5.tdiv (10:Int))))) (Tp (L:=l5.length) (hL:=by simp) eI 1 fun e6 a32=>(Wq eI a32 (uIb (L:=l5.length) (hL:=by simp) eI 1 a32 (Ya eI 1 a32 (e6.tmod (10:Int)) (Wr 1 (show l5.length=((l5.set (i64.wrap (x3+1)).toNat (i64.wrap (e4+(i64.wrap (e5.tdiv (10:Int)))))).set x3.toNat (e6.tmod (10:Int))).length by simp) (uJ i3))))))))))))) (uR (.exit 4) (xM (uJ J3))))));uE (L3 aH)));(uN eI p1.d (Wr 1 (show y1.toNat=(List.replicate y1.toNat (0:Int)).length by simp) (fJ f294 58 1 fun R b=>have L1:∀k1 {l1 x1},gC p1 p2 k1 l1 x1=some r→(R k1).p [(2,vR [.s (.bool p1.below),.ro (eI.els p1.d)]),(3,vR [.s (.bool p2.below),.ro (eI.els p2.d)]),(4,vQ 0),(5,.one (.sl 1 1 0 l1.length)),(21,vl eI p1.d),(22,vi p1.d.length),(23,vi x1)] [.box [cb false,.pv (.s (.slice none 0 0))],.arr 1 (eI.els l1)]:=uI (fD rfl) fun k1 i1 {l1 x1} h=>b h (uU (gC.eq_2 ..) (uC (co f294 934 1 fun K k=>have J1:∀{l3},xK (gC p1 p2 k1) x1 l3=some r→K.p [(2,vR [.s (.bool p1.below),.ro (eI.els p1.d)]),(3,vR [.s (.bool p2.below),.ro (eI.els p2.d)]),(4,vQ 0),(5,.one (.sl 1 1 0 l3.length)),(21,vl eI p1.d),(22,vi p1.d.length),(23,vi x1)] [.box [cb false,.pv (.s (.slice none 0 0))],.arr 1 (eI.els l3)]:=fun{l3} h=>k h (uJ i1);(dL eI fun e1=>(uN eI p2.d (fJ f294 14950 2 fun R b=>have L2:∀k2 {l2 x2},lw (gC p1 p2 k1) p2 x1 e1 k2 l2 x2=some r→(R k2).p [(2,vR [.s (.bool p1.below),.ro (eI.els p1.d)]),(3,vR [.s (.bool p2.below),.ro (eI.els p2.d)]),(4,vQ 0),(5,.one (.sl 1 1 0 l2.length)),(6,vi x1),(7,vi e1),(21,vl eI p1.d),(22,vi p1.d.length),(23,vi x1),(29,vl eI p2.d),(30,vi p2.d.length),(31,vi x2)] [.box [cb false,.pv (.s (.slice none 0 0))],.arr 1 (eI.els l2)]:=uI (fD rfl) fun k2 i2 {l2 x2} h=>b h (uU (lw.eq_2 ..) (uC (dL eI fun e2=>(Tp eI 1 fun e3 a21=>(Wq eI a21 (uIb eI 1 a21 (Ya eI 1 a21 (i64.wrap (e3+(i64.wrap (e1*e2)))) (Wr 1 (show l2.length=(l2.set (i64.wrap (x1+x2)).toNat (i64.wrap (e3+(i64.wrap (e1*e2))))).length by simp) (uJ i2))))))) (uR (.exit 2) (xM (uJ J1)))));uE (L2 aH))))) (uR (.exit 0) (xM (uJ J2)))));uE (L1 aH)))))))))
def FN(z3:Bool)(z4:List Int):Option cU:=some (cU.mk z3 z4)
def po(p1:Int):Nat→Bool→List Int→Int→Option cU
 |0,_,_,_=>none
 |k1+1,z1,z2,x1=>aj (decide (x1<p1)) (al (oU 256) fun r2=>al (yq (cU.mk z1 z2) r2) fun r3=>(po p1 k1) r3.below r3.d (i64.wrap (x1+1))) (FN z1 z2)
def BQ(p1:Int):Option cU:=al (oU 128) fun r1=>po p1 aH r1.below r1.d 1
theorem H8(p1:Int):CT prog 267 [vi p1] (BQ p1) (fun r=> .ag [cb r.below,cl eI r.d]):=
  cu 15 [2,3] f267 fun r=>(aS (xi _) fun r1=>(co f267 14 1 fun K k=>have J1:∀{z3 z4},FN z3 z4=some r→K.p [(2,vQ 0),(3,vQ 1)] [.box [cb false,.pv (.s (.slice none 0 0))],.box [cb z3,cl eI z4]]:=fun{z3 z4} h=>k h uz;(fJ f267 58 1 fun R b=>have L1:∀k1 {z1 z2 x1},po p1 k1 z1 z2 x1=some r→(R k1).p [(0,vi p1),(2,vQ 0),(3,vQ 1),(4,vi x1)] [.box [cb false,.pv (.s (.slice none 0 0))],.box [cb z1,cl eI z2]]:=uI (fD rfl) fun k1 i1 {z1 z2 x1} h=>b h (uU (po.eq_2 ..) (uC (mZ 2 (aS (xi _) fun r2=>(aS (Jc _ _) fun r3=>(uJ i1)))) (uR (.exit 0) (xM (uJ J1)))));uE (L1 aH))))
def vS(rec1:List Int→Int→Int→Option (List Int))(l1:List Int)(x2 x5:Int):Option (List Int):=gX (l1.length+1≤4294967296)<|rec1 (l1++[(x5.tmod 10)]) (i64.wrap (x5.tdiv 10)) (i64.wrap (x2+1))
def vt(rec1:List Int→Int→Int→Option (List Int))(p2 l1:List Int)(x2 x4:Int):Option (List Int):=aj (decide (x2<(p2.length:Int))) (al (at? p2 x2) fun e2=>vS rec1 l1 x2 (i64.wrap (x4+e2))) (vS rec1 l1 x2 x4)
def FW(l2:List Int):Option (List Int):=some l2
def si(rec1:List Int→Int→Int→Option (List Int))(p1 p2 l1:List Int)(x1 x2:Int)(x3:Bool):Option (List Int):=aj x3 (aj (decide (x2<(p1.length:Int))) (al (at? p1 x2) fun e1=>vt rec1 p2 l1 x2 (i64.wrap (x1+e1))) (vt rec1 p2 l1 x2 x1)) (FW l1)
def df(p1 p2:List Int):Nat→List Int→Int→Int→Option (List Int)
 |0,_,_,_=>none
 |k1+1,l1,x1,x2=>aj (decide (x2<(p1.length:Int))) (si (df p1 p2 k1) p1 p2 l1 x1 x2 true) (aj (decide (x2<(p2.length:Int))) (si (df p1 p2 k1) p1 p2 l1 x1 x2 true) (si (df p1 p2 k1) p1 p2 l1 x1 x2 (decide (0<x1))))
def D1(p1 p2:List Int):Option (List Int):=df p1 p2 aH [] 0 0
theorem Nk(p1 p2:List Int):CT prog 292 [vl eI p1,vl eI p2] (D1 p1 p2) (vl eI):=
  cu 54 [] f292 fun r=>(co f292 30 1 fun K k=>have J4:∀{l2},FW l2=some r→K.p [(5,.one (.sl 0 1 0 l2.length))] [.arr 1 (eI.els l2)]:=fun{l2} h=>k h (Ks eI l2 0 [4] uz);(LC (.li 5 1) (fJ f292 122 1 fun R b=>have L1:∀k1 {l1 x1 x2},df p1 p2 k1 l1 x1 x2=some r→(R k1).p [(0,vl eI p1),(1,vl eI p2),(5,.one (.sl 0 1 0 l1.length)),(6,vi x1),(7,vi x2)] [.arr 1 (eI.els l1)]:=uI (fD rfl) fun k1 i1 {l1 x1 x2} h=>b h (uU (df.eq_2 ..) (co f292 976 2 fun K k=>have J1:∀{x3},si (df p1 p2 k1) p1 p2 l1 x1 x2 x3=some r→K.p [(0,vl eI p1),(1,vl eI p2),(5,.one (.sl 0 1 0 l1.length)),(6,vi x1),(7,vi x2),(22,vb x3)] [.arr 1 (eI.els l1)]:=fun{x3} h=>k h (uC (co f292 7826 3 fun K k=>have J2:∀{x4},vt (df p1 p2 k1) p2 l1 x2 x4=some r→K.p [(0,vl eI p1),(1,vl eI p2),(5,.one (.sl 0 1 0 l1.length)),(7,vi x2),(8,vi x4)] [.arr 1 (eI.els l1)]:=fun{x4} h=>k h (co f292 15654 3 fun K k=>have J3:∀{x5},vS (df p1 p2 k1) l1 x2 x5=some r→K.p [(0,vl eI p1),(1,vl eI p2),(5,.one (.sl 0 1 0 l1.length)),(7,vi x2),(8,vi x5)] [.arr 1 (eI.els l1)]:=fun{x5} h=>k h (Bk eI 0 [(x5.tmod (10:Int))] (uJ i1));(uN eI p2 (uC (dL eI fun e2=>(uJ J3)) (uJ J3))));(uN eI p1 (uC (dL eI fun e1=>(uJ J2)) (uJ J2)))) (uR (.exit 0) (xM (uJ J4))));(uN eI p1 (uC (uJ J1) (uN eI p2 (uC (uJ J1) (uJ J1)))))));uE (L1 aH))))
def w8(rec1:List Int→Int→Int→Option (List Int))(l1:List Int)(x2 x4 x5:Int):Option (List Int):=gX (l1.length+1≤4294967296)<|rec1 (l1++[x5]) x4 (i64.wrap (x2+1))
def sZ(rec1:List Int→Int→Int→Option (List Int))(l1:List Int)(x2 x3:Int):Option (List Int):=aj (decide (x3<0)) (w8 rec1 l1 x2 1 (i64.wrap (x3+10))) (w8 rec1 l1 x2 0 x3)
def AN(l2:List Int):Option (List Int):=al (sS false l2) fun r1=>some r1.d
def dY(p1 p2:List Int):Nat→List Int→Int→Int→Option (List Int)
 |0,_,_,_=>none
 |k1+1,l1,x1,x2=>aj (decide (x2<(p1.length:Int))) (al (at? p1 x2) fun e1=>aj (decide (x2<(p2.length:Int))) (al (at? p2 x2) fun e2=>sZ (dY p1 p2 k1) l1 x2 (i64.wrap ((i64.wrap (e1-x1))-e2))) (sZ (dY p1 p2 k1) l1 x2 (i64.wrap (e1-x1)))) (AN l1)
def yS(p1 p2:List Int):Option (List Int):=dY p1 p2 aH [] 0 0
theorem Gq(p1 p2:List Int):CT prog 293 [vl eI p1,vl eI p2] (yS p1 p2) (vl eI):=
  cu 42 [] f293 fun r=>(co f293 30 1 fun K k=>have J3:∀{l2},AN l2=some r→K.p [(5,.one (.sl 0 1 0 l2.length))] [.arr 1 (eI.els l2)]:=fun{l2} h=>k h (Ks eI l2 0 [39] (aS (wg _ _) fun r1=>uz));(uN eI p1 (LC (.li 5 1) (fJ f293 122 1 fun R b=>have L1:∀k1 {l1 x1 x2},dY p1 p2 k1 l1 x1 x2=some r→(R k1).p [(0,vl eI p1),(1,vl eI p2),(5,.one (.sl 0 1 0 l1.length)),(6,vi x1),(10,vi p1.length),(11,vi x2)] [.arr 1 (eI.els l1)]:=uI (fD rfl) fun k1 i1 {l1 x1 x2} h=>b h (uU (dY.eq_2 ..) (uC (dL eI fun e1=>(co f293 31334 3 fun K k=>have J1:∀{x3},sZ (dY p1 p2 k1) l1 x2 x3=some r→K.p [(0,vl eI p1),(1,vl eI p2),(5,.one (.sl 0 1 0 l1.length)),(8,vi x3),(10,vi p1.length),(11,vi x2)] [.arr 1 (eI.els l1)]:=fun{x3} h=>k h (co f293 125342 3 fun K k=>have J2:∀{x4 x5},w8 (dY p1 p2 k1) l1 x2 x4 x5=some r→K.p [(0,vl eI p1),(1,vl eI p2),(5,.one (.sl 0 1 0 l1.length)),(6,vi x4),(8,vi x5),(10,vi p1.length),(11,vi x2)] [.arr 1 (eI.els l1)]:=fun{x4 x5} h=>k h (Bk eI 0 [x5] (uJ i1));(uC (uJ J2) (uJ J2)));(uN eI p2 (uC (dL eI fun e2=>(uJ J1)) (uJ J1))))) (uR (.exit 0) (xM (uJ J3)))));uE (L1 aH)))))
def vI(p1 p2:cU):Option cU:=aj (p1.below==p2.below) (al (D1 p1.d p2.d) fun r1=>al (sS p1.below r1) fun r2=>some r2) (al (wH p1.d p2.d) fun r3=>aj (decide (0≤r3)) (al (yS p1.d p2.d) fun r4=>al (sS p1.below r4) fun r5=>some r5) (al (yS p2.d p1.d) fun r6=>al (sS p2.below r6) fun r7=>some r7))
theorem DP(p1 p2:cU):CT prog 266 [.ag [cb p1.below,cl eI p1.d],.ag [cb p2.below,cl eI p2.d]] (vI p1 p2) (fun r=> .ag [cb r.below,cl eI r.d]):=
  cu 40 [4] f266 fun r=>(uC (mZ 7 (aS (Nk _ _) fun r1=>(aS (wg _ _) fun r2=>uz))) (aS (Ii _ _) fun r3=>(uC (mZ 7 (aS (Gq _ _) fun r4=>(aS (wg _ _) fun r5=>uz))) (mZ 7 (aS (Gq _ _) fun r6=>(aS (wg _ _) fun r7=>uz))))))
def xb(rec1:List Int→Bool→List Int→Int→Option (List Int))(l1:List Int)(x1:Int)(l3:List Int)(x4:Int):Option (List Int):=al (at? l1 x1) fun e3=>al (sS false l3) fun r1=>rec1 (l1.set x1.toNat (IntKind.u8.wrap x4)) r1.below r1.d (i64.wrap (x1-1))
def nP(rec1:List Int→Bool→List Int→Int→Option (List Int))(l1 z2:List Int)(x1:Int):Nat→List Int→Int→Int→Option (List Int)
 |0,_,_,_=>none
 |k2+1,l2,x2,x3=>aj (decide (0≤x3)) (al (at? z2 x3) fun e1=>al (some (i64.wrap ((i64.wrap ((i64.wrap (10*x2))+e1)).tdiv 256))) fun y1=>al (some ((i64.wrap ((i64.wrap (10*x2))+e1)).tmod 256)) fun y2=>al (at? l2 x3) fun e2=>(nP rec1 l1 z2 x1 k2) (l2.set x3.toNat y1) y2 (i64.wrap (x3-1))) (xb rec1 l1 x1 l2 x2)
def Eu(l4:List Int):Option (List Int):=some l4
def jj:Nat→List Int→Bool→List Int→Int→Option (List Int)
 |0,_,_,_,_=>none
 |k1+1,l1,z1,z2,x1=>aj (decide (0≤x1)) (gX (0≤(z2.length:Int)∧(z2.length:Int)≤(z2.length:Int)∧(z2.length:Int)≤4294967296)<|nP (jj k1) l1 z2 x1 aH (List.replicate (z2.length:Int).toNat (0:Int)) 0 (i64.wrap ((z2.length:Int)-1))) (Eu l1)
def zB(p1:cU)(p2:Int):Option (List Int):=gX (0≤p2∧p2≤p2∧p2≤4294967296)<|jj aH (List.replicate p2.toNat (0:Int)) p1.below p1.d (i64.wrap (p2-1))
theorem Gb(p1:cU)(p2:Int):CT prog 265 [.ag [cb p1.below,cl eI p1.d],vi p2] (zB p1 p2) (fun r=>vl (eK .u8) r):=
  cu 54 [2] f265 fun r=>(uMk (eK .u8) (0:Int) (co f265 14 1 fun K k=>have J2:∀{l4},Eu l4=some r→K.p [(5,.one (.sl 1 1 0 l4.length))] [.dead,.arr 1 ((eK .u8).els l4)]:=fun{l4} h=>k h (Ks (eK .u8) l4 1 [4] uz);(Wr 1 (show p2.toNat=(List.replicate p2.toNat (0:Int)).length by simp) (fJ f265 58 1 fun R b=>have L1:∀k1 {l1 z1 z2 x1},jj k1 l1 z1 z2 x1=some r→(R k1).p [(2,vQ 0),(5,.one (.sl 1 1 0 l1.length)),(6,vi x1)] [.box [cb z1,cl eI z2],.arr 1 ((eK .u8).els l1)]:=uI (fD rfl) fun k1 i1 {l1 z1 z2 x1} h=>b h (uU (jj.eq_2 ..) (uC (uN eI z2 (uMk eI (0:Int) (co f265 7462 3 fun K k=>have J1:∀{l3 x4},xb (jj k1) l1 x1 l3 x4=some r→K.p [(2,vQ 0),(5,.one (.sl 1 1 0 l1.length)),(6,vi x1),(7,vi x4),(8,.one (.sl 2 1 0 l3.length))] [.box [cb z1,cl eI z2],.arr 1 ((eK .u8).els l1),.arr 1 (eI.els l3)]:=fun{l3 x4} h=>k h (Tp (eK .u8) 1 fun e3 a27=>(Ya (eK .u8) 1 a27 (IntKind.u8.wrap x4) (Ks eI l3 2 [51] (aS (wg _ _) fun r1=>(Wr 1 (show l1.length=(l1.set x1.toNat (IntKind.u8.wrap x4)).length by simp) (uJ i1))))));(uN eI z2 (Wr 2 (show(z2.length:Int).toNat=(List.replicate (z2.length:Int).toNat (0:Int)).length by simp) (fJ f265 29850 1 fun R b=>have L2:∀k2 {l2 x2 x3},nP (jj k1) l1 z2 x1 k2 l2 x2 x3=some r→(R k2).p [(2,vQ 0),(5,.one (.sl 1 1 0 l1.length)),(6,vi x1),(7,vi x2),(8,.one (.sl 2 1 0 l2.length)),(9,vi x3)] [.box [cb z1,cl eI z2],.arr 1 ((eK .u8).els l1),.arr 1 (eI.els l2)]:=uI (fD rfl) fun k2 i2 {l2 x2 x3} h=>b h (uU (nP.eq_2 ..) (uC (dL eI fun e1=>(uY 42 vi fun y1=>(uY 44 vi fun y2=>(Tp eI 2 fun e2 a25=>(Ya eI 2 a25 y1 (Wr 2 (show l2.length=(l2.set x3.toNat y1).length by simp) (uJ i2))))))) (uR (.exit 2) (xM (uJ J1)))));uE (L2 aH))))))) (uR (.exit 0) (xM (uJ J2)))));uE (L1 aH)))))
def nF(l3:List Int):Option (List Int):=some l3
def C4(l2:List Int):Option (List Int):=gX (l2.length+1≤4294967296)<|nF (l2++[0])
def rz(q_ref1_key:ac→Option (List Int))(p1:ac):Nat→List Int→Int→Option (List Int)
 |0,_,_=>none
 |k1+1,l1,x2=>aj (decide (x2<(p1.items.length:Int))) (gX (l1.length+1≤4294967296)<|al (at? p1.items x2) fun e1=>al (q_ref1_key e1) fun r9=>gX ((l1++[1]).length+r9.length≤4294967296)<|(rz q_ref1_key p1 k1) ((l1++[1])++r9) (i64.wrap (x2+1))) (C4 l1)
def qJ(q_ref1_key:ac→Option (List Int))(p1:ac)(x1:Bool):Option (List Int):=aj x1 (al (oU p1.n) fun r1=>al (BQ 8) fun r2=>al (vI r1 r2) fun r3=>al (zB r3 8) fun r4=>gX ([(IntKind.u8.wrap p1.kind)].length+r4.length≤4294967296)<|nF ([(IntKind.u8.wrap p1.kind)]++r4)) (aj (p1.kind==3) (al (q8 p1) fun r5=>al (BQ 16) fun r6=>al (vI r5 r6) fun r7=>al (zB r7 16) fun r8=>gX ([(IntKind.u8.wrap p1.kind)].length+r8.length≤4294967296)<|gX (([(IntKind.u8.wrap p1.kind)]++r8).length+1≤4294967296)<|nF (([(IntKind.u8.wrap p1.kind)]++r8)++[(IntKind.u8.wrap p1.scale)])) (aj (p1.kind==4) (gX ([(IntKind.u8.wrap p1.kind)].length+(nW p1.s).length≤4294967296)<|gX (([(IntKind.u8.wrap p1.kind)]++(nW p1.s)).length+1≤4294967296)<|nF (([(IntKind.u8.wrap p1.kind)]++(nW p1.s))++[0])) (rz q_ref1_key p1 aH [(IntKind.u8.wrap p1.kind)] 0)))
def nt:Nat→ac→Option (List Int)
 |0,_=>none
 |k0+1,p1=>aj (p1.kind==0) (some [8]) (aj (p1.kind==1) (gX ([(IntKind.u8.wrap p1.kind)].length+1≤4294967296)<|nF ([(IntKind.u8.wrap p1.kind)]++[(IntKind.u8.wrap p1.n)])) (aj (p1.kind==2) (qJ (nt k0) p1 (p1.kind==2)) (qJ (nt k0) p1 (p1.kind==5))))
theorem Kh:∀(k0:Nat) (p1:ac),CT prog 234 [mV p1] (nt k0 p1) (fun r=>vl (eK .u8) r)
  |0,_=>Jw (nt.eq_1 ..)
  |k0+1,p1=>cu 80 [12] f234 fun r=>(uU (nt.eq_2 ..) (uC uz (co f234 30 1 fun K k=>have J3:∀{l3},nF l3=some r→K.p [(3,.one (.sl 0 1 0 l3.length))] [.arr 1 ((eK .u8).els l3)]:=fun{l3} h=>k h (Ks (eK .u8) l3 0 [2] uz);(uC (Bk (eK .u8) 0 [(IntKind.u8.wrap p1.n)] (uJ J3)) (co f234 982 2 fun K k=>have J1:∀{x1},qJ (nt k0) p1 x1=some r→K.p [(1,vR [pi p1.kind,pi p1.n,pi p1.scale,.s (.string p1.s),.ro (ak.els p1.items)]),(3,.one (.sl 0 1 0 1)),(14,vi p1.kind),(44,vb x1)] [.arr 1 ((eK .u8).els [(IntKind.u8.wrap p1.kind)])]:=fun{x1} h=>k h (uC (aS (xi _) fun r1=>(aS (H8 _) fun r2=>(aS (DP _ _) fun r3=>(aS (Gb _ _) fun r4=>(Bk (eK .u8) 0 r4 (uJ J3)))))) (uC (aS (A1 _) fun r5=>(aS (H8 _) fun r6=>(aS (DP _ _) fun r7=>(aS (Gb _ _) fun r8=>(Bk (eK .u8) 0 r8 (Bk (eK .u8) 0 [(IntKind.u8.wrap p1.scale)] (uJ J3))))))) (uC (uAs 0 p1.s (Bk (eK .u8) 0 [(0:Int)] (uJ J3))) (co f234 62974 2 fun K k=>have J2:∀{l2},C4 l2=some r→K.p [(3,.one (.sl 0 1 0 l2.length))] [.arr 1 ((eK .u8).els l2)]:=fun{l2} h=>k h (Bk (eK .u8) 0 [(0:Int)] (uJ J3));(uN ak p1.items (fJ f234 251898 1 fun R b=>have L1:∀k1 {l1 x2},rz (nt k0) p1 k1 l1 x2=some r→(R k1).p [(1,vR [pi p1.kind,pi p1.n,pi p1.scale,.s (.string p1.s),.ro (ak.els p1.items)]),(3,.one (.sl 0 1 0 l1.length)),(17,vi p1.items.length),(18,vi x2)] [.arr 1 ((eK .u8).els l1)]:=uI (fD rfl) fun k1 i1 {l1 x2} h=>b h (uU (rz.eq_2 ..) (uC (Bk (eK .u8) 0 [(1:Int)] (dL ak fun e1=>(aS (Kh k0 _) fun r9=>(Bk (eK .u8) 0 r9 (uJ i1))))) (uR (.exit 1) (xM (uJ J2)))));uE (L1 aH)))))));(uC (uJ J1) (uJ J1)))))))
def C2(l2:List Int):Option (List Int):=some l2
def rt(p1:List ac):Nat→List Int→Int→Option (List Int)
 |0,_,_=>none
 |k1+1,l1,x1=>aj (decide (x1<(p1.length:Int))) (al (at? p1 x1) fun e1=>al (tT e1) fun r1=>aj (!r1) (some []) (al (nt aH e1) fun r2=>gX (l1.length+r2.length≤4294967296)<|(rt p1 k1) (l1++r2) (i64.wrap (x1+1)))) (C2 l1)
def F2(p1:List ac):Option (List Int):=rt p1 aH [] 0
theorem P5(p1:List ac):CT prog 196 [vl ak p1] (F2 p1) (fun r=>vl (eK .u8) r):=
  cu 25 [] f196 fun r=>(co f196 14 1 fun K k=>have J1:∀{l2},C2 l2=some r→K.p [(3,.one (.sl 0 1 0 l2.length))] [.arr 1 ((eK .u8).els l2)]:=fun{l2} h=>k h (Ks (eK .u8) l2 0 [2] uz);(uN ak p1 (LC (.li 3 1) (fJ f196 58 1 fun R b=>have L1:∀k1 {l1 x1},rt p1 k1 l1 x1=some r→(R k1).p [(0,vl ak p1),(3,.one (.sl 0 1 0 l1.length)),(6,vi p1.length),(7,vi x1)] [.arr 1 ((eK .u8).els l1)]:=uI (fD rfl) fun k1 i1 {l1 x1} h=>b h (uU (rt.eq_2 ..) (uC (uL ak fun e1 a12=>(aS (ym _) fun r1=>(uC jh (uM ak a12 (aS (Kh aH _) fun r2=>(Bk (eK .u8) 0 r2 (uJ i1))))))) (uR (.exit 0) (xM (uJ J1)))));uE (L1 aH)))))
def Id(x3:Int):OI:=some x3
def rx(p1:List Int):Nat→Int→Int→OI
 |0,_,_=>none
 |k1+1,x1,x2=>aj (decide (x2<(p1.length:Int))) (al (at? p1 x2) fun e1=>al (some (IntKind.u64.wrap (BitVec.ofInt (IntKind.u64).bits x1 ^^^ BitVec.ofInt (IntKind.u64).bits (IntKind.u64.wrap e1)).toNat)) fun y1=>(rx p1 k1) (IntKind.u64.wrap (y1*1099511628211)) (i64.wrap (x2+1))) (Id x1)
def JV(p1:List Int):OI:=rx p1 aH 14695981039346656037 0
theorem Qy(p1:List Int):CT prog 195 [vl (eK .u8) p1] (JV p1) (vk .u64):=
  cu 19 [] f195 fun r=>(co f195 14 1 fun K k=>have J1:∀{x3},Id x3=some r→K.p [(3,vk .u64 x3)] []:=fun{x3} h=>k h uz;(uN (eK .u8) p1 (fJ f195 58 1 fun R b=>have L1:∀k1 {x1 x2},rx p1 k1 x1 x2=some r→(R k1).p [(3,vk .u64 x1),(6,vl (eK .u8) p1),(7,vi p1.length),(8,vi x2)] []:=uI (fD rfl) fun k1 i1 {x1 x2} h=>b h (uU (rx.eq_2 ..) (uC (dL (eK .u8) fun e1=>(uY 15 (vk .u64) fun y1=>(uJ i1))) (uR (.exit 0) (xM (uJ J1)))));uE (L1 aH))))
def Bt(p1:ac):OI:=al (F2 [p1]) fun r1=>al (JV r1) fun r2=>some r2
theorem Oi(p1:ac):CT prog 149 [mV p1] (Bt p1) (vk .u64):=
  cu 7 [] f149 fun r=>(uW 4 ak [p1] (aS (P5 _) fun r1=>(aS (Qy _) fun r2=>uz)))
def yo(x1:Int):OI:=some x1
def so(p1 p2:Int):OI:=gX (p2≠0)<|al (some (decide (p1<(i64.wrap ((i64.wrap (p1.tdiv p2))*p2))))) fun y1=>aj y1 (yo (i64.wrap ((i64.wrap (p1.tdiv p2))-1))) (yo (i64.wrap (p1.tdiv p2)))
theorem Di(p1 p2:Int):CT prog 150 [vi p1,vi p2] (so p1 p2) vi:=
  cu 17 [] f150 fun r=>(uG (WS 13 (kS f150 [1,1,0] 1) fun K k=>have J1:∀{x1},yo x1=some r→K.p [(5,vi x1)] []:=fun{x1} h=>k h uz;(uY 13 vb fun y1=>(uC (uJ J1) (uJ J1)))))
def C6:Option (iJ×Bool):=some ((iJ.mk ByteArray.empty 0 0 (kF.mk 0 0 0 0) (kF.mk 0 0 0 0)),false)
def vN(p1:ByteArray)(r1:List iJ):Nat→Int→Option (iJ×Bool)
 |0,_=>none
 |k1+1,x1=>aj (decide (x1<(r1.length:Int))) (al (at? r1 x1) fun e1=>aj (e1.name.toList==p1.toList) (some (e1,true)) ((vN p1 r1 k1) (i64.wrap (x1+1)))) (C6)
def Dv(p1:ByteArray):Option (iJ×Bool):=al (Hd) fun r1=>vN p1 r1 aH 0
abbrev Ut:List CV:=[rX ByteArray.empty,ci (0:Int),ci (0:Int),ci (0:Int),ci (0:Int),ci (0:Int),ci (0:Int),ci (0:Int),ci (0:Int),ci (0:Int),ci (0:Int)]
theorem Kv(p1:ByteArray):CT prog 197 [vs p1] (Dv p1) (fun r=> .tp [.ag [rX r.1.name,ci r.1.offset,ci r.1.summer,ci r.1.start.month,ci r.1.start.week,ci r.1.start.weekday,ci r.1.start.minute,ci r.1.stop.month,ci r.1.stop.week,ci r.1.stop.weekday,ci r.1.stop.minute],vb r.2]):=
  cu 25 [2] f197 fun r=>(aS Ij fun r1=>(kd f197 14 1 C6 [(2,vQ 0)] [.box Ut] uz fun K J1=>(uN EI r1 (fJ f197 58 1 fun R b=>have L1:∀k1 {x1},vN p1 r1 k1 x1=some r→(R k1).p [(0,vs p1),(2,vQ 0),(4,vl EI r1),(8,vi r1.length),(9,vi x1)] [.box Ut]:=uI (fD rfl) fun k1 i1 {x1} h=>b h (uU (vN.eq_2 ..) (uC (uL EI fun e1 a12=>(uC (uM EI a12 jh) (uJ i1))) (uR (.exit 0) (xM (uJ J1)))));uE (L1 aH)))))
def wJ(x2:Int):OI:=some x2
def wY(p1 p2:Int)(x1:Bool):OI:=aj x1 (wJ (i64.wrap ((i64.wrap (p1.tdiv p2))-1))) (wJ (i64.wrap (p1.tdiv p2)))
def zL(p1 p2:Int):OI:=gX (p2≠0)<|gX (p2≠0)<|aj ((p1.tmod p2) != 0) (wY p1 p2 (!((decide (p1<0))==(decide (p2<0))))) (wY p1 p2 false)
theorem FU(p1 p2:Int):CT prog 236 [vi p1,vi p2] (zL p1 p2) vi:=
  cu 23 [] f236 fun r=>(uG (co f236 14 1 fun K k=>have J2:∀{x2},wJ x2=some r→K.p [(5,vi x2)] []:=fun{x2} h=>k h uz;(co f236 28 1 fun K k=>have J1:∀{x1},wY p1 p2 x1=some r→K.p [(5,vi (i64.wrap (p1.tdiv p2))),(19,vb x1)] []:=fun{x1} h=>k h (uC (uJ J2) (uJ J2));(uG (uC (uJ J1) (uJ J1))))))
def qk(x1:Int):OI:=some (i64.wrap (x1-719528))
def ou(p1:Int):OI:=aj (decide (0<p1)) (al (some (i64.wrap ((i64.wrap (p1-1)).tdiv 4))) fun y1=>al (some (i64.wrap ((i64.wrap (p1-1)).tdiv 100))) fun y2=>al (some (i64.wrap ((i64.wrap (p1-1)).tdiv 400))) fun y3=>al (some (i64.wrap ((i64.wrap ((i64.wrap (y1-y2))+y3))+1))) fun y4=>qk (i64.wrap ((i64.wrap (365*p1))+y4))) (qk (i64.wrap (365*p1)))
theorem wb(p1:Int):CT prog 237 [vi p1] (ou p1) vi:=
  cu 24 [] f237 fun r=>(co f237 14 1 fun K k=>have J1:∀{x1},qk x1=some r→K.p [(3,vi x1)] []:=fun{x1} h=>k h uz;(uC (uY 11 vi fun y1=>(uY 14 vi fun y2=>(uY 18 vi fun y3=>(uY 20 vi fun y4=>(uJ J1))))) (uJ J1)))
def yC(x1:Bool):OB:=some x1
def Lc(p1:Int):OB:=aj ((p1.tmod 4)==0) (aj ((p1.tmod 100) != 0) (yC true) (yC ((p1.tmod 400)==0))) (yC false)
theorem Oq(p1:Int):CT prog 268 [vi p1] (Lc p1) vb:=
  cu 16 [] f268 fun r=>(co f268 6 1 fun K k=>have J1:∀{x1},yC x1=some r→K.p [(2,vb x1)] []:=fun{x1} h=>k h uz;(uC (uC (uJ J1) (uJ J1)) (uJ J1)))
def nB(x1:Bool):OI:=aj x1 (some 30) (some 31)
def oH(p1 p2:Int):OI:=aj (p2==2) (al (Lc p1) fun r1=>aj r1 (some 29) (some 28)) (aj (p2==4) (nB (p2==4)) (aj (p2==6) (nB (p2==6)) (aj (p2==9) (nB (p2==9)) (nB (p2==11)))))
theorem rO(p1 p2:Int):CT prog 238 [vi p1,vi p2] (oH p1 p2) vi:=
  cu 15 [] f238 fun r=>(uC (aS (Oq _) fun r1=>(uC uz uz)) (co f238 214 3 fun K k=>have J1:∀{x1},nB x1=some r→K.p [(10,vb x1)] []:=fun{x1} h=>k h (uC uz uz);(uC (uJ J1) (uC (uJ J1) (uC (uJ J1) (uJ J1))))))
def AX(p1 r1 x3 z2 x5:Int):Option oY:=al (some (i64.wrap ((i64.wrap (p1-(i64.wrap (86400*r1)))).tdiv 3600))) fun y1=>al (some (i64.wrap ((i64.wrap (p1-(i64.wrap (86400*r1)))).tdiv 60))) fun y2=>al (some ((i64.wrap (p1-(i64.wrap (86400*r1)))).tmod 60)) fun y3=>some (oY.mk x3 z2 (i64.wrap (x5+1)) y1 (y2.tmod 60) y3)
def pW(p1 r1 x3:Int):Nat→Int→Int→Option oY
 |0,_,_=>none
 |k2+1,z1,x4=>al (oH x3 z1) fun r4=>aj (decide (r4≤x4)) (al (oH x3 z1) fun r5=>(pW p1 r1 x3 k2) (i64.wrap (z1+1)) (i64.wrap (x4-r5))) (AX p1 r1 x3 z1 x4)
def AZ(p1 r1 x3:Int):Option oY:=al (ou x3) fun r3=>pW p1 r1 x3 aH 1 (i64.wrap (r1-r3))
def nY(p1 r1:Int):Nat→Int→Int→Option oY
 |0,_,_=>none
 |k1+1,x1,x2=>aj (decide (1<(i64.wrap (x2-x1)))) (al (ou (i64.wrap ((i64.wrap (x1+x2)).tdiv 2))) fun r2=>aj (decide (r2≤r1)) ((nY p1 r1 k1) (i64.wrap ((i64.wrap (x1+x2)).tdiv 2)) x2) ((nY p1 r1 k1) x1 (i64.wrap ((i64.wrap (x1+x2)).tdiv 2)))) (AZ p1 r1 x1)
def yU(p1:Int):Option oY:=al (zL p1 86400) fun r1=>nY p1 r1 aH 0 10001
abbrev M7:List CV:=[ci (0:Int),ci (0:Int),ci (0:Int),ci (0:Int),ci (0:Int),ci (0:Int)]
theorem Ge(p1:Int):CT prog 198 [vi p1] (yU p1) (fun r=> .ag [ci r.year,ci r.month,ci r.day,ci r.hour,ci r.minute,ci r.second]):=
  cu 66 [2,7] f198 fun r=>(aS (FU _ _) fun r1=>(co f198 30 1 fun K k=>have J1:∀{x3},AZ p1 r1 x3=some r→K.p [(0,vi p1),(2,vQ 0),(3,vi r1),(4,vi x3)] [.box M7]:=fun{x3} h=>k h (aS (wb _) fun r3=>(co f198 254 1 fun K k=>have J2:∀{z2 x5},AX p1 r1 x3 z2 x5=some r→K.p [(0,vi p1),(2,vQ 0),(3,vi r1),(7,vQ 1),(8,vi x5)] [.box M7,.box [ci x3,ci z2,ci (0:Int),ci (0:Int),ci (0:Int),ci (0:Int)]]:=fun{z2 x5} h=>k h (uY 56 vi fun y1=>(uY 58 vi fun y2=>(uY 61 vi fun y3=>uz)));(fJ f198 508 1 fun R b=>have L2:∀k2 {z1 x4},pW p1 r1 x3 k2 z1 x4=some r→(R k2).p [(0,vi p1),(2,vQ 0),(3,vi r1),(4,vi x3),(7,vQ 1),(8,vi x4)] [.box M7,.box [ci x3,ci z1,ci (0:Int),ci (0:Int),ci (0:Int),ci (0:Int)]]:=uI (fD rfl) fun k2 i2 {z1 x4} h=>b h (uU (pW.eq_2 ..) (aS (rO _ _) fun r4=>(uC (aS (rO _ _) fun r5=>(uJ i2)) (uR (.exit 2) (xM (uJ J2))))));uE (L2 aH))));(fJ f198 60 1 fun R b=>have L1:∀k1 {x1 x2},nY p1 r1 k1 x1 x2=some r→(R k1).p [(0,vi p1),(2,vQ 0),(3,vi r1),(4,vi x1),(5,vi x2)] [.box M7]:=uI (fD rfl) fun k1 i1 {x1 x2} h=>b h (uU (nY.eq_2 ..) (uC (aS (wb _) fun r2=>(uC (uJ i1) (uJ i1))) (uR (.exit 0) (xM (uJ J1)))));uE (L1 aH))))
def Gt(p3 x3:Int):OI:=some (i64.wrap ((i64.wrap (x3+p3))-1))
def yu(p1 p2 p3:Int):Nat→Int→Int→OI
 |0,_,_=>none
 |k1+1,x1,x2=>aj (decide (x2<p2)) (al (oH p1 x2) fun r2=>(yu p1 p2 p3 k1) (i64.wrap (x1+r2)) (i64.wrap (x2+1))) (Gt p3 x1)
def G9(p1 p2 p3:Int):OI:=al (ou p1) fun r1=>yu p1 p2 p3 aH r1 1
theorem HX(p1 p2 p3:Int):CT prog 270 [vi p1,vi p2,vi p3] (G9 p1 p2 p3) vi:=
  cu 25 [] f270 fun r=>(aS (wb _) fun r1=>(co f270 14 1 fun K k=>have J1:∀{x3},Gt p3 x3=some r→K.p [(2,vi p3),(7,vi x3)] []:=fun{x3} h=>k h uz;(fJ f270 58 1 fun R b=>have L1:∀k1 {x1 x2},yu p1 p2 p3 k1 x1 x2=some r→(R k1).p [(0,vi p1),(1,vi p2),(2,vi p3),(7,vi x1),(8,vi x2)] []:=uI (fD rfl) fun k1 i1 {x1 x2} h=>b h (uU (yu.eq_2 ..) (uC (aS (rO _ _) fun r2=>(uJ i1)) (uR (.exit 0) (xM (uJ J1)))));uE (L1 aH))))
def F0(p1:Int):OI:=al (zL (i64.wrap (p1+3)) 7) fun r1=>al (some (i64.wrap ((i64.wrap (p1-(i64.wrap (7*r1))))+4))) fun y1=>some y1
theorem Kn(p1:Int):CT prog 269 [vi p1] (F0 p1) vi:=
  cu 10 [] f269 fun r=>(aS (FU _ _) fun r1=>(uY 9 vi fun y1=>uz))
def Ca(rec1:List Int→Int→OI)(x1:Int)(l2:List Int):OI:=rec1 l2 (i64.wrap (x1+1))
def B6(p1:Int)(p2:kF)(l3:List Int)(x2:Int):OI:=al (at? l3 x2) fun e1=>al (G9 p1 p2.month e1) fun r4=>al (some (i64.wrap ((i64.wrap (86400*r4))+(i64.wrap (60*p2.minute))))) fun y2=>some y2
def FP(p1:Int)(p2:kF)(l3:List Int):OI:=al (some (decide (((l3.length:Nat):Int)≤(i64.wrap (p2.week-1))))) fun y1=>aj y1 (B6 p1 p2 l3 (i64.wrap (((l3.length:Nat):Int)-1))) (B6 p1 p2 l3 (i64.wrap (p2.week-1)))
def sq(p1:Int)(p2:kF):Nat→List Int→Int→OI
 |0,_,_=>none
 |k1+1,l1,x1=>al (oH p1 p2.month) fun r1=>aj (decide (x1≤r1)) (al (G9 p1 p2.month x1) fun r2=>al (F0 r2) fun r3=>aj (r3==p2.weekday) (gX (l1.length+1≤4294967296)<|Ca (sq p1 p2 k1) x1 (l1++[x1])) (Ca (sq p1 p2 k1) x1 l1)) (FP p1 p2 l1)
def G7(p1:Int)(p2:kF):OI:=sq p1 p2 aH [] 1
abbrev MS(p2:kF):List PV:=[pi p2.month,pi p2.week,pi p2.weekday,pi p2.minute]
theorem Ia(p1:Int)(p2:kF):CT prog 239 [vi p1,.ag [ci p2.month,ci p2.week,ci p2.weekday,ci p2.minute]] (G7 p1 p2) vi:=
  cu 52 [] f239 fun r=>(co f239 14 1 fun K k=>have J2:∀{l3},FP p1 p2 l3=some r→K.p [(0,vi p1),(3,vR (MS p2)),(5,.one (.sl 0 1 0 l3.length))] [.arr 1 (eI.els l3)]:=fun{l3} h=>k h (WS 35 (kS f239 [1,1,1,1,0] 1) fun K k=>have J3:∀{x2},B6 p1 p2 l3 x2=some r→K.p [(0,vi p1),(3,vR (MS p2)),(5,.one (.sl 0 1 0 l3.length)),(7,vi x2)] [.arr 1 (eI.els l3)]:=fun{x2} h=>k h (mZ 12 (Tp eI 0 fun e1 a21=>(Wq eI a21 (aS (HX _ _ _) fun r4=>(uY 51 vi fun y2=>uz)))));(uY 35 vb fun y1=>(uC (uJ J3) (uJ J3))));(LC (.li 5 1) (fJ f239 58 1 fun R b=>have L1:∀k1 {l1 x1},sq p1 p2 k1 l1 x1=some r→(R k1).p [(0,vi p1),(3,vR (MS p2)),(5,.one (.sl 0 1 0 l1.length)),(6,vi x1)] [.arr 1 (eI.els l1)]:=uI (fD rfl) fun k1 i1 {l1 x1} h=>b h (uU (sq.eq_2 ..) (aS (rO _ _) fun r1=>(uC (co f239 466 1 fun K k=>have J1:∀{l2},Ca (sq p1 p2 k1) x1 l2=some r→K.p [(0,vi p1),(3,vR (MS p2)),(5,.one (.sl 0 1 0 l2.length)),(6,vi x1)] [.arr 1 (eI.els l2)]:=fun{l2} h=>k h (uJ i1);(mZ 8 (aS (HX _ _ _) fun r2=>(aS (Kn _) fun r3=>(uC (Bk eI 0 [x1] (uJ J1)) (uJ J1)))))) (uR (.exit 0) (xM (uJ J2))))));uE (L1 aH))))
def wO(p1:iJ)(x2:Bool):OI:=aj x2 (al (some (i64.wrap ((i64.wrap (60*p1.offset))+(i64.wrap (60*p1.summer))))) fun y5=>some y5) (some (i64.wrap (60*p1.offset)))
def A0(p1:iJ)(p2 r2 y1:Int)(x1:Bool):OI:=al (some (decide (y1≤(i64.wrap (r2-(i64.wrap (60*p1.offset))))))) fun y3=>aj y3 (aj (decide (p2<y1)) (wO p1 true) (al (some (decide ((i64.wrap (r2-(i64.wrap (60*p1.offset))))≤p2))) fun y4=>wO p1 y4)) (wO p1 x1)
def Fb(p1:iJ)(p2:Int):OI:=aj (p1.summer==0) (some (i64.wrap (60*p1.offset))) (al (yU (i64.wrap (p2+(i64.wrap (60*p1.offset))))) fun r1=>al (G7 r1.year p1.start) fun r2=>al (G7 r1.year p1.stop) fun r3=>al (some (i64.wrap ((i64.wrap (r3-(i64.wrap (60*p1.offset))))-(i64.wrap (60*p1.summer))))) fun y1=>al (some (decide ((i64.wrap (r2-(i64.wrap (60*p1.offset))))≤p2))) fun y2=>aj y2 (A0 p1 p2 r2 y1 (decide (p2<y1))) (A0 p1 p2 r2 y1 false))
abbrev VM(p1:iJ):List PV:=[.s (.string p1.name),pi p1.offset,pi p1.summer,pi p1.start.month,pi p1.start.week,pi p1.start.weekday,pi p1.start.minute,pi p1.stop.month,pi p1.stop.week,pi p1.stop.weekday,pi p1.stop.minute]
theorem ML(p1:iJ)(p2:Int):CT prog 199 [.ag [rX p1.name,ci p1.offset,ci p1.summer,ci p1.start.month,ci p1.start.week,ci p1.start.weekday,ci p1.start.minute,ci p1.stop.month,ci p1.stop.week,ci p1.stop.weekday,ci p1.stop.minute],vi p2] (Fb p1 p2) vi:=
  cu 64 [] f199 fun r=>(uC uz (aS (Ge _) fun r1=>(mZ 17 (aS (Ia _ _) fun r2=>(aS (Ia _ _) fun r3=>(uY 37 vi fun y1=>(WS 40 (kS f199 [1,1,1,1,1,0] 1) fun K k=>have J1:∀{x1},A0 p1 p2 r2 y1 x1=some r→K.p [(1,vi p2),(2,vR (VM p1)),(5,vi (i64.wrap ((60:Int)*p1.offset))),(7,vi (i64.wrap (r2-(i64.wrap ((60:Int)*p1.offset))))),(8,vi y1),(9,vb x1)] []:=fun{x1} h=>k h (WS 48 (kS f199 [1,1,1,1,1,1,0] 1) fun K k=>have J2:∀{x2},wO p1 x2=some r→K.p [(2,vR (VM p1)),(5,vi (i64.wrap ((60:Int)*p1.offset))),(9,vb x2)] []:=fun{x2} h=>k h (uC (uY 62 vi fun y5=>uz) uz);(uY 48 vb fun y3=>(uC (uC (uJ J2) (uY 55 vb fun y4=>(uJ J2))) (uJ J2))));(uY 40 vb fun y2=>(uC (uJ J1) (uJ J1))))))))))
def wA(p1:Int)(p2:ByteArray):Option (oY×Int):=al (Dv p2) fun r1=>aj (!r1.2) (some ((oY.mk 0 0 0 0 0 0),4)) (al (fM p1 (-62135596800) 253402300799) fun r2=>aj (!r2) (some ((oY.mk 0 0 0 0 0 0),3)) (al (Fb r1.1 p1) fun r3=>al (yU (i64.wrap (p1+r3))) fun r4=>some (r4,0)))
theorem MW(p1:Int)(p2:ByteArray):CT prog 151 [vi p1,vs p2] (wA p1 p2) (fun r=> .tp [.ag [ci r.1.year,ci r.1.month,ci r.1.day,ci r.1.hour,ci r.1.minute,ci r.1.second],vi r.2]):=
  cu 26 [4,6] f151 fun r=>(aS (Kv _) fun r1=>(uC uz (aS (jn _ _ _) fun r2=>(uC uz (aS (ML _ _) fun r3=>(aS (Ge _) fun r4=>uz))))))
def dK(z4:Int):Option ac:=some (ac.mk 2 z4 0 ByteArray.empty [])
def nn(p2:ac)(z2:ByteArray):Option ac:=some (ac.mk p2.kind p2.n p2.scale z2 p2.items)
def fg(p1:aZ)(p2:ac):Nat→Nat→Int→Option ac
 |0,_,_=>none
 |k1+1,z1,x2=>aj (decide (z1<p2.s.size)) (aj (x2==p1.param) (gX (0≤(0:Int)∧(0:Int)≤Int.ofNat z1∧Int.ofNat z1≤(p2.s.size:Int))<|nn p2 (p2.s.extract (0:Int).toNat (Int.ofNat z1).toNat)) ((fg p1 p2 k1) (z1+(Utf8.decode p2.s z1).2) (i64.wrap (x2+1)))) (nn p2 p2.s)
def lq(p2:ac)(z3:Int):Option ac:=some (ac.mk p2.kind z3 p2.scale p2.s p2.items)
def gc(p1:aZ)(p2:ac)(x1:Bool):Option ac:=aj x1 (some (ac.mk 0 0 0 ByteArray.empty [])) (al (fp p1 (am.mk p2.kind p2.scale [])) fun r3=>aj (r3.2 != 0) (some (ac.mk 0 0 0 ByteArray.empty [])) (aj (p1.kind==0) (some (ac.mk 0 0 0 ByteArray.empty [])) (aj (p1.kind==1) (some p2) (aj (p1.kind==2) (al (Bt p2) fun r4=>gX ((IntKind.u64.wrap p1.param)≠0)<|dK (i64.wrap (r4.tmod (IntKind.u64.wrap p1.param)))) (aj (p1.kind==3) (aj (p2.kind==4) (fg p1 p2 aH 0 0) (al (so p2.n p1.param) fun r5=>al (some (decide ((i64.wrap (p1.param*r5))<(-999999999999999999)))) fun y1=>aj y1 (lq p2 (-999999999999999999)) (lq p2 (i64.wrap (p1.param*r5))))) (aj (p1.kind==6) (al (so p2.n 86400) fun r6=>dK r6) (aj (p1.kind==7) (al (so p2.n 3600) fun r7=>dK r7) (al (wA p2.n (ByteArray.mk #[117,116,99])) fun r8=>aj (p1.kind==5) (al (some (i64.wrap (12*(i64.wrap (r8.1.year-1970))))) fun y2=>dK (i64.wrap ((i64.wrap (y2+r8.1.month))-1))) (dK (i64.wrap (r8.1.year-1970)))))))))))
def kX(p1:aZ)(p2:ac):Option ac:=aj (p2.kind==0) (gc p1 p2 true) (al (tT p2) fun r1=>aj (!r1) (gc p1 p2 true) (al (io p2.kind) fun r2=>gc p1 p2 (!r2)))
abbrev HI(p2:ac):List CV:=[ci p2.kind,ci p2.n,ci p2.scale,rX p2.s,cl ak p2.items]
theorem rL(p1:aZ)(p2:ac):CT prog 98 [.ag [ci p1.kind,ci p1.param],.ag (HI p2)] (kX p1 p2) (fun r=>mV r):=
  cu 131 [3,4,5,7,10] f98 fun r=>(co f98 12 2 fun K k=>have J1:∀{x1},gc p1 p2 x1=some r→K.p [(2,vR [pi p1.kind,pi p1.param]),(3,vQ 0),(4,vQ 1),(25,vb x1)] [.box (HI p2),.box uo]:=fun{x1} h=>k h (uC uz (aS (qR _ _) fun r3=>(uC uz (co f98 62 1 fun K k=>have J4:∀{z4},dK z4=some r→K.p [(4,vQ 1),(7,vQ 3)] [.dead,.box uo,.dead,.box [ci (2:Int),ci z4,ci (0:Int),rX ByteArray.empty,.pv (.s (.slice none 0 0))]]:=fun{z4} h=>k h uz;(uC (uR .ret (xN xF)) (uC (uR .ret (xN xF)) (uC (mZ 5 (aS (Oi _) fun r4=>(uG (uJ J4)))) (uC (uC (co f98 2056138 3 fun K k=>have J2:∀{z2},nn p2 z2=some r→K.p [(3,vQ 0),(4,vQ 1)] [.box [ci p2.kind,ci p2.n,ci p2.scale,rX z2,cl ak p2.items],.box uo,.dead,.dead]:=fun{z2} h=>k h (uR .ret (xN xF));(uRg p2.s (fJ f98 8224554 1 fun R b=>have L1:∀k1 {z1 x2},fg p1 p2 k1 z1 x2=some r→(R k1).p [(2,vR [pi p1.kind,pi p1.param]),(3,vQ 0),(4,vQ 1),(8,vi x2),(88,vQ 4)] [.box (HI p2),.box uo,.dead,.dead,.raw (.stringIter p2.s z1)]:=uI (fD rfl) fun k1 i1 {z1 x2} h=>b h (uU (fg.eq_2 ..) (uNx 4 (fun b38=>(uT (uC (uG (uR (.exit 1) (xM (uJ J2)))) (uJ i1)))) (fun b38=>(uF (uR (.exit 1) (xM (uJ J2)))))));uE (L1 aH)))) (mZ 7 (aS (Di _ _) fun r5=>(WS 115 (kS f98 [1,1,1,1,0,1,0,1,1,1,1,1,1,1,0,1,1,0] 2) fun K k=>have J3:∀{z3},lq p2 z3=some r→K.p [(3,vQ 0),(4,vQ 1)] [.box [ci p2.kind,ci z3,ci p2.scale,rX p2.s,cl ak p2.items],.box uo,.dead,.dead]:=fun{z3} h=>k h (uR .ret (xN xF));(uY 115 vb fun y1=>(uC (uJ J3) (uJ J3))))))) (uC (aS (Di _ _) fun r6=>(uJ J4)) (uC (aS (Di _ _) fun r7=>(uJ J4)) (aS (MW _ _) fun r8=>(uC (uY 59 vi fun y2=>(uJ J4)) (uJ J4)))))))))))));(uC (uJ J1) (aS (ym _) fun r1=>(uC (uJ J1) (aS (jK _) fun r2=>(uJ J1))))))
def oE(x1:Bool):OB:=some x1
def mK(x2:Bool):OB:=some x2
def xG(p1:aZ)(p2:ac)(p3:bw):OB:=aj (p1.kind==0) (some false) (aj (p1.kind==2) (aj (p2.kind==0) (oE true) (aj (p3.low.kind != 0) (al (bP aH p3.low p3.high) fun r1=>aj (r1==0) (al (kX p1 p3.low) fun r2=>al (bP aH p2 r2) fun r3=>oE (r3 != 0)) (oE false)) (oE false))) (aj (p2.kind==0) (some true) (aj (p3.low.kind != 0) (al (kX p1 p3.low) fun r4=>al (bP aH p2 r4) fun r5=>aj (decide (r5<0)) (mK true) (aj (p3.high.kind != 0) (al (kX p1 p3.high) fun r6=>al (bP aH p2 r6) fun r7=>mK (decide (0<r7))) (mK false))) (aj (p3.high.kind != 0) (al (kX p1 p3.high) fun r8=>al (bP aH p2 r8) fun r9=>mK (decide (0<r9))) (mK false)))))
theorem KN(p1:aZ)(p2:ac)(p3:bw):CT prog 138 [.ag [ci p1.kind,ci p1.param],mV p2,.ag [ci p3.id,ci p3.low.kind,ci p3.low.n,ci p3.low.scale,rX p3.low.s,cl ak p3.low.items,ci p3.high.kind,ci p3.high.n,ci p3.high.scale,rX p3.high.s,cl ak p3.high.items]] (xG p1 p2 p3) vb:=
  cu 70 [] f138 fun r=>(uC uz (uC (co f138 860 3 fun K k=>have J1:∀{x1},oE x1=some r→K.p [(6,vb x1)] []:=fun{x1} h=>k h uz;(mZ 22 (uC (uJ J1) (uC (aS (gv aH _ _) fun r1=>(uC (aS (rL _ _) fun r2=>(aS (gv aH _ _) fun r3=>(uJ J1))) (uJ J1))) (uJ J1))))) (uC uz (co f138 30 1 fun K k=>have J2:∀{x2},mK x2=some r→K.p [(6,vb x2)] []:=fun{x2} h=>k h uz;(mZ 24 (uC (aS (rL _ _) fun r4=>(aS (gv aH _ _) fun r5=>(uC (uJ J2) (uC (aS (rL _ _) fun r6=>(aS (gv aH _ _) fun r7=>(uJ J2))) (uJ J2))))) (uC (aS (rL _ _) fun r8=>(aS (gv aH _ _) fun r9=>(uJ J2))) (uJ J2))))))))
def te(rec1:Int→OB)(x1:Int):OB:=rec1 (i64.wrap (x1+1))
def nX(rec1:Int→OB)(x1:Int)(x2:Bool):OB:=aj x2 (some true) (te rec1 x1)
def xa(rec2:Int→OB)(x4:Int)(x5:Bool):OB:=aj x5 (some true) (rec2 (i64.wrap (x4+1)))
def Es:OB:=some false
def iz(p3:ai)(p4:bw)(e4:cD):Nat→Int→OB
 |0,_=>none
 |k2+1,x4=>aj (decide (x4<(e4.fields.length:Int))) (al (at? e4.fields x4) fun e5=>aj (e5.source==p4.id) (al (at? p3.part x4) fun e6=>al (xG e5.transform e6 p4) fun r9=>xa (iz p3 p4 e4 k2) x4 r9) (xa (iz p3 p4 e4 k2) x4 false)) (Es)
def wU(p1:ay)(p3:ai)(p4:bw)(x3:Bool):OB:=aj x3 (some false) (al (at? p1.specs p3.spec) fun e4=>iz p3 p4 e4 aH 0)
def wS(p1:ay)(p3:ai)(p4:bw)(r1 r2:(ae×Bool)):OB:=aj (r1.1.type.kind != r2.1.type.kind) (wU p1 p3 p4 true) (wU p1 p3 p4 (r1.1.type.scale != r2.1.type.scale))
def eD(p1:ay)(p3:ai)(p4:bw)(r1 r2:(ae×Bool)):Nat→Int→OB
 |0,_=>none
 |k1+1,x1=>aj (decide (x1<(p3.stats.length:Int))) (al (at? p3.stats x1) fun e3=>aj (e3.id != p4.id) (te (eD p1 p3 p4 r1 r2 k1) x1) (aj (e3.nulls==p3.rows) (some true) (al (oO r1.1.type r2.1.type) fun r3=>aj r3 (al (tY e3.min r2.1.type) fun r4=>al (tY e3.max r2.1.type) fun r5=>aj (p4.low.kind != 0) (al (bP aH r5 p4.low) fun r6=>aj (decide (r6<0)) (nX (eD p1 p3 p4 r1 r2 k1) x1 true) (aj (p4.high.kind != 0) (al (bP aH r4 p4.high) fun r7=>nX (eD p1 p3 p4 r1 r2 k1) x1 (decide (0<r7))) (nX (eD p1 p3 p4 r1 r2 k1) x1 false))) (aj (p4.high.kind != 0) (al (bP aH r4 p4.high) fun r8=>nX (eD p1 p3 p4 r1 r2 k1) x1 (decide (0<r8))) (nX (eD p1 p3 p4 r1 r2 k1) x1 false))) (te (eD p1 p3 p4 r1 r2 k1) x1)))) (wS p1 p3 p4 r1 r2)
def Cr(p1:ay)(p2:Int)(p3:ai)(p4:bw):OB:=al (at? p1.schemas p3.schema) fun e1=>al (nE e1 p4.id) fun r1=>aj (!r1.2) (some true) (al (at? p1.schemas p2) fun e2=>al (nE e2 p4.id) fun r2=>eD p1 p3 p4 r1 r2 aH 0)
abbrev Dd(r1:(ae×Bool)):List CV:=[ci r1.1.id,rX r1.1.name,cb r1.1.need,ci r1.1.type.kind,ci r1.1.type.scale,cl af r1.1.type.fields]
abbrev UK(p1:ay)(p3:ai)(p4:bw)(x1:Int):Fr:=[(4,.one (.pv (.rp [(bB p1)] 0 0))),(6,.one (.pv (.rp [(eJ p3)] 0 0))),(7,.one (.pv (.rp [(xP p4)] 0 0))),(9,.one (.pt 0 0 0 0)),(11,.one (.pt 1 0 0 0)),(45,vl bD p3.stats),(46,vi (p3.stats.length:Int)),(47,vi x1)]
theorem Ms(p1:ay)(p2:Int)(p3:ai)(p4:bw):CT prog 74 [mM p1,vi p2,mF p3,.ag [ci p4.id,ci p4.low.kind,ci p4.low.n,ci p4.low.scale,rX p4.low.s,cl ak p4.low.items,ci p4.high.kind,ci p4.high.n,ci p4.high.scale,rX p4.high.s,cl ak p4.high.items]] (Cr p1 p2 p3 p4) vb:=
  cu 147 [9,11,14,15,16,18] f74 fun r=>(Im 14 1 [0,1] (dL (eL af) fun e1=>(aS (qG _ _) fun r1=>(uC uz (Im 13 1 [1,2] (dL (eL af) fun e2=>(aS (qG _ _) fun r2=>(kd f74 62 1 (wS p1 p3 p4 r1 r2) [(4,vR (bB p1)),(6,vR (eJ p3)),(7,vR (xP p4)),(9,vQ 0),(11,vQ 1)] [.box (Dd r1),.box (Dd r2)] (co f74 252 2 fun K k=>have J4:∀{x3},wU p1 p3 p4 x3=some r→K.p [(4,vR (bB p1)),(6,vR (eJ p3)),(7,vR (xP p4)),(116,vb x3)] [.dead,.dead]:=fun{x3} h=>k h (uC uz (kd f74 254 1 Es [] [.dead,.dead] uz fun K J6=>(dL fk fun e4=>(uN aF e4.fields (fJ f74 1018 1 fun R b=>have L2:∀k2 {x4},iz p3 p4 e4 k2 x4=some r→(R k2).p [(6,vR (eJ p3)),(7,vR (xP p4)),(123,vl aF e4.fields),(124,vi e4.fields.length),(125,vi x4)] [.dead,.dead]:=uI (fD rfl) fun k2 i2 {x4} h=>b h (uU (iz.eq_2 ..) (uC (dL aF fun e5=>(co f74 130354 3 fun K k=>have J5:∀{x5},xa (iz p3 p4 e4 k2) x4 x5=some r→K.p [(6,vR (eJ p3)),(7,vR (xP p4)),(123,vl aF e4.fields),(124,vi e4.fields.length),(125,vi x4),(145,vb x5)] [.dead,.dead,.dead]:=fun{x5} h=>k h (uC jh (uJ i2));(mZ 14 (uC (dL ak fun e6=>(aS (KN _ _ _) fun r9=>(uJ J5))) (uJ J5))))) (uR (.exit 2) (xM (uJ J6)))));uE (L2 aH))))));(uC (uJ J4) (uJ J4))) fun K J3=>(uN bD p3.stats (fJ f74 250 1 fun R b=>have L1:∀k1 {x1},eD p1 p3 p4 r1 r2 k1 x1=some r→(R k1).p (UK p1 p3 p4 x1) [.box (Dd r1),.box (Dd r2)]:=uI (fD rfl) fun k1 i1 {x1} h=>b h (uU (eD.eq_2 ..) (uC (kd f74 4006 1 (te (eD p1 p3 p4 r1 r2 k1) x1) (UK p1 p3 p4 x1) [.box (Dd r1),.box (Dd r2)] (uJ i1) fun K J2=>(dL bD fun e3=>(uC (uJ J2) (uC (uR .ret (xN (xN (xN xF)))) (aS (AO _ _) fun r3=>(uC (Im 12 2 [3,4,5] (aS (GC _ _) fun r4=>(aS (GC _ _) fun r5=>(co f74 1025658 2 fun K k=>have J1:∀{x2},nX (eD p1 p3 p4 r1 r2 k1) x1 x2=some r→K.p [(4,vR (bB p1)),(6,vR (eJ p3)),(7,vR (xP p4)),(9,vQ 0),(11,vQ 1),(45,vl bD p3.stats),(46,vi p3.stats.length),(47,vi x1),(99,vb x2)] [.box (Dd r1),.box (Dd r2),.dead,.dead,.dead]:=fun{x2} h=>k h (uC (uR .ret (xN (xN (xN xF)))) (uJ J2));(uC (aS (gv aH _ _) fun r6=>(uC (uJ J1) (uC (aS (gv aH _ _) fun r7=>(uJ J1)) (uJ J1)))) (uC (aS (gv aH _ _) fun r8=>(uJ J1)) (uJ J1))))))) (uJ J2))))))) (uR (.exit 0) (xM (uJ J3)))));uE (L1 aH)))))))))))
def Ik:OB:=some true
def rk(p1:ay)(p2:Int)(p3:ai)(p4:List bw):Nat→Int→OB
 |0,_=>none
 |k1+1,x1=>aj (decide (x1<(p4.length:Int))) (al (at? p4 x1) fun e1=>al (Cr p1 p2 p3 e1) fun r1=>aj r1 (some false) ((rk p1 p2 p3 p4 k1) (i64.wrap (x1+1)))) (Ik)
def Bn(p1:ay)(p2:Int)(p3:ai)(p4:List bw):OB:=rk p1 p2 p3 p4 aH 0
theorem JL(p1:ay)(p2:Int)(p3:ai)(p4:List bw):CT prog 25 [mM p1,vi p2,mF p3,vl gS p4] (Bn p1 p2 p3 p4) vb:=
  cu 23 [10] f25 fun r=>(kd f25 6 1 Ik [] [] uz fun K J1=>(uN gS p4 (fJ f25 26 1 fun R b=>have L1:∀k1 {x1},rk p1 p2 p3 p4 k1 x1=some r→(R k1).p [(1,vi p2),(4,vR [.ro ((eL af).els p1.schemas),.ro (fk.els p1.specs),pi p1.nextField,pi p1.nextSeq,pi p1.nextSnap,pi p1.purges,.ro (aT.els p1.snapshots),.ro (nT.els p1.refs),.ro (ku.els p1.props)]),(6,vR [.s (.string p3.name),pi p3.schema,pi p3.spec,.ro (ak.els p3.part),pi p3.rows,pi p3.seq,.ro (bD.els p3.stats)]),(11,vl gS p4),(12,vi p4.length),(13,vi x1)] []:=uI (fD rfl) fun k1 i1 {x1} h=>b h (uU (rk.eq_2 ..) (uC (dL gS fun e1=>(aS (Ms _ _ _ _) fun r1=>(uC jh (uJ i1)))) (uR (.exit 0) (xM (uJ J1)))));uE (L1 aH))))
def GH(p1:ay)(p2:Int)(p3:ai)(p4:List bw):Option (Bool×Int):=al (wl p1) fun r1=>aj (r1 != 0) (some (false,r1)) (al (dG p2 0 (i64.wrap ((p1.schemas.length:Int)-1))) fun r2=>aj (!r2) (some (false,3)) (al (qU p1 p3) fun r3=>aj (r3 != 0) (some (false,r3)) (al (at? p1.schemas p2) fun e1=>al (pJ p4 e1) fun r4=>aj (r4 != 0) (some (false,r4)) (al (Bn p1 p2 p3 p4) fun r5=>some (r5,0)))))
theorem P6(p1:ay)(p2:Int)(p3:ai)(p4:List bw):CT prog 6 [mM p1,vi p2,mF p3,vl gS p4] (GH p1 p2 p3 p4) (fun r=> .tp [vb r.1,vi r.2]):=
  cu 46 [] f6 fun r=>(aS (GD _) fun r1=>(uC uz (uN (eL af) p1.schemas (aS (dp _ _ _) fun r2=>(uC uz (aS (BG _ _) fun r3=>(uC uz (dL (eL af) fun e1=>(aS (Af _ _) fun r4=>(uC uz (aS (JL _ _ _ _) fun r5=>uz)))))))))))
def m8(p1:List ae):Option (Unit×(List ae)):=some ((),p1)
theorem tg(p1:List ae):CX prog 140 [.one (.sl 0 6 0 p1.length)] [.arr 6 (af.els p1)] [0] (m8 p1) (fun r=> .one (.sl 0 6 0 r.2.length)) (fun r=>[.arr 6 (af.els r.2)]):=
  KD 1 1 9 [] f140 fun r=>(uXs 0 6 p1.length (uR .ret sE))
def yi(l2:List ae):Option (List ae):=al (m8 l2) fun r2=>some r2.2
def ol(q_table_copyFields:(List ae)→Option (List ae))(p1:List ae):Nat→List ae→Int→Option (List ae)
 |0,_,_=>none
 |k1+1,l1,x1=>aj (decide (x1<(p1.length:Int))) (al (at? p1 x1) fun e1=>al (q_table_copyFields e1.type.fields) fun r1=>gX (l1.length+1≤4294967296)<|(ol q_table_copyFields p1 k1) (l1++[(mI.mk e1.id e1.name e1.need (am.mk e1.type.kind e1.type.scale r1))]) (i64.wrap (x1+1))) (yi l1)
def mj:Nat→(List ae)→Option (List ae)
 |0,_=>none
 |k0+1,p1=>ol (mj k0) p1 aH [] 0
theorem zU:∀(k0:Nat) (p1:List ae),CX prog 76 [vl af p1] [] [] (mj k0 p1) (fun r=> .one (.sl 0 6 0 r.length)) (fun r=>[.arr 6 (af.els r)])
  |0,_=>uX0 (mj.eq_1 ..)
  |k0+1,p1=>KD 0 1 25 [5] f76 fun r=>(uU (mj.eq_2 ..) (co f76 14 1 fun K k=>have J1:∀{l2},yi l2=some r→K.p [(3,.one (.sl 0 6 0 l2.length))] [.arr 6 (af.els l2)]:=fun{l2} h=>k h (Wa true [0] (tg _) fun r2 _=>(uR .ret sE));(uN af p1 (LC (.li 3 6) (fJ f76 58 1 fun R b=>have L1:∀k1 {l1 x1},ol (mj k0) p1 k1 l1 x1=some r→(R k1).p [(3,.one (.sl 0 6 0 l1.length)),(6,vl af p1),(7,vi p1.length),(8,vi x1)] [.arr 6 (af.els l1)]:=uI (fD rfl) fun k1 i1 {l1 x1} h=>b h (uU (ol.eq_2 ..) (uC (dL af fun e1=>(Wa true [] (zU k0 _) fun r1 _=>(LC (.stl 1 5) (Ks af r1 2 [19] (uW 20 af [(mI.mk e1.id e1.name e1.need (am.mk e1.type.kind e1.type.scale r1))] (Bk af 0 [(mI.mk e1.id e1.name e1.need (am.mk e1.type.kind e1.type.scale r1))] (uJ i1))))))) (uR (.exit 0) (xM (uJ J1)))));uE (L1 aH))))))
def AG(p2:Int):OI:=some p2
def vv(p1:List ae)(p2:Int):Nat→OI
 |0=>none
 |k1+1=>aj (decide (0<(p1.length:Int))) (al (at? p1 0) fun e1=>none) (AG p2)
def Dg(p1:List ae)(p2:Int):OI:=vv p1 p2 aH
theorem Hm(p1:List ae)(p2:Int):CT prog 77 [vl af p1,vi p2] (Dg p1 p2) vi:=
  cu 27 [] f77 fun r=>(kd f77 6 1 (AG p2) [(1,vi p2)] [] uz fun K J1=>(uN af p1 (fJ f77 26 1 fun R b=>have L1:∀k1,vv p1 p2 k1=some r→(R k1).p [(0,vl af p1),(1,vi p2),(7,vi p1.length),(8,vi (0:Int))] []:=uI (fD rfl) fun k1 i1 h=>b h (uU (vv.eq_2 ..) (uC (dL af fun e1=>uNo) (uR (.exit 0) (xM (uJ J1)))));uE (L1 aH))))
def yk(l2:List ae)(x3:Int):Option (Int×(List ae)):=some (x3,l2)
def oh(p2:List ae):Nat→List ae→Int→Int→Option (Int×(List ae))
 |0,_,_,_=>none
 |k1+1,l1,x1,x2=>aj (decide (x2<((p2.length:Nat):Int))) (al (at? l1 x2) fun e1=>al (at? (l1.set x2.toNat (mI.mk x1 e1.name e1.need e1.type)) x2) fun e2=>al (Dg e2.type.fields (i64.wrap (x1+1))) fun r1=>(oh p2 k1) (l1.set x2.toNat (mI.mk x1 e1.name e1.need e1.type)) r1 (i64.wrap (x2+1))) (yk l1 x1)
def BO(p1:Int)(p2:List ae):Option (Int×(List ae)):=oh p2 aH p2 p1 0
theorem E0(p1:Int)(p2:List ae):CM prog 77 [.one (.sl 0 6 0 p2.length),vi p1] [.arr 6 (af.els p2)] (BO p1 p2) (fun r=>vi r.1) (fun r=>[.arr 6 (af.els r.2)]):=
  ww 1 27 [] f77 fun r=>(co f77 6 1 fun K k=>have J1:∀{l2 x3},yk l2 x3=some r→K.p [(1,vi x3)] [.arr 6 (af.els l2)]:=fun{l2 x3} h=>k h (uR .ret sE);(fJ f77 26 1 fun R b=>have L1:∀k1 {l1 x1 x2},oh p2 k1 l1 x1 x2=some r→(R k1).p [(0,.one (.sl 0 6 0 l1.length)),(1,vi x1),(7,vi ((p2.length:Nat):Int)),(8,vi x2)] [.arr 6 (af.els l1)]:=uI (fD rfl) fun k1 i1 {l1 x1 x2} h=>b h (uU (oh.eq_2 ..) (uC (Tp af 0 fun e1 a10=>(Ya af 0 a10 (mI.mk x1 e1.name e1.need e1.type) (Tp (L:=l1.length) (hL:=by simp) af 0 fun e2 a11=>(Wq af a11 (aS (Hm _ _) fun r1=>(Wr 0 (show l1.length=(l1.set x2.toNat (mI.mk x1 e1.name e1.need e1.type)).length by simp) (uJ i1))))))) (uR (.exit 0) (xM (uJ J1)))));uE (L1 aH)))
def BA(p1:List ae):OI:=some 0
theorem E1(p1:List ae):CT prog 78 [.ag [.pv (.s (.slice none 0 0))],vl af p1] (BA p1) vi:=
  cu 49 [] f78 fun r=>(uF (Rt 0 (uF uz)))
def iI:Option (List bm):=some []
theorem nA:CX prog 80 [.one (.pv (.s (.slice none 0 0)))] [] [] (iI) (fun r=> .one (.sl 0 3 0 r.length)) (fun r=>[.arr 3 (aF.els r)]):=
  KD 0 1 8 [] f80 fun r=>(uT (LC (.li 2 3) (uR .ret sE)))
def kv(p1:List bm):Option (List bm):=gX (0≤(0:Int)∧(0:Int)≤(p1.length:Int)∧(p1.length:Int)≤(p1.length:Int)∧(p1.length:Int)≤(p1.length:Int))<|some ((p1.drop (0:Int).toNat).take ((p1.length:Int).toNat-(0:Int).toNat))
theorem pK(p1:List bm):CT prog 79 [vl aF p1] (kv p1) (vl aF):=
  cu 9 [] f79 fun r=>(uN aF p1 (uN aF p1 (uXm aF uz)))
def DS(p1:List ae):Option (ay×Int):=al (cW (am.mk 7 0 p1)) fun r1=>aj (r1 != 0) (some ((ay.mk [] [] 0 0 0 0 [] [] []),r1)) (al (mj aH p1) fun r2=>al (BO 1 r2) fun r3=>gX (r3.2.length=r2.length)<|al (BA r3.2) fun r4=>aj (r4 != 0) (some ((ay.mk [] [] 0 0 0 0 [] [] []),r4)) (al (iI) fun r5=>al (kv r5) fun r6=>some ((ay.mk [r3.2] [(cD.mk r6)] r3.1 1 1 0 [] ([(kV.mk (ByteArray.mk #[109,97,105,110]) true 0)]) []),0)))
theorem Hy(p1:List ae):CT prog 26 [vl af p1,.ag [.pv (.s (.slice none 0 0))]] (DS p1) (fun r=> .tp [mM r.1,vi r.2]):=
  cu 40 [4] f26 fun r=>(aS (lm _) fun r1=>(uC uz (Wa true [] (zU aH _) fun r2 _=>(EG true [1] (E0 _ _) fun r3 _=>(uLg 1 (Ks af r3.2 1 [7,22] (uPn (E1 _) fun r4 _=>(uC uz (Wa false [] nA fun r5 _=>(Ks aF r5 2 [32] (aS (pK _) fun r6=>uz)))))))))))
def vL(x1:Bool):OB:=some x1
def DO:OB:=al (DS ([(mI.mk 0 (ByteArray.mk #[97]) false (am.mk 2 0 []))])) fun r1=>aj (r1.2==0) (aj (r1.1.nextField==2) (vL ((r1.1.schemas.length:Int)==1)) (vL false)) (vL false)
theorem KG:CT prog 7 [] (DO) vb:=
  cu 24 [1] f7 fun r=>(uPn (Hy _) fun r1 _=>(co f7 14 1 fun K k=>have J1:∀{x1},vL x1=some r→K.p [(0,vb x1)] [.dead]:=fun{x1} h=>k h uz;(uC (uC (uN (eL af) r1.1.schemas (uJ J1)) (uJ J1)) (uJ J1))))
def dw(p1:List ac):Option (List ac):=gX (0≤(0:Int)∧(0:Int)≤(p1.length:Int)∧(p1.length:Int)≤(p1.length:Int)∧(p1.length:Int)≤(p1.length:Int))<|some ((p1.drop (0:Int).toNat).take ((p1.length:Int).toNat-(0:Int).toNat))
theorem kL(p1:List ac):CT prog 142 [vl ak p1] (dw p1) (vl ak):=
  cu 9 [] f142 fun r=>(uN ak p1 (uN ak p1 (uXm ak uz)))
def xe(p1:ac)(l2:List ac):Option ac:=al (dw l2) fun r2=>some (ac.mk p1.kind p1.n p1.scale p1.s r2)
def sN(q_value_Copy:ac→Option ac)(p1:ac):Nat→List ac→Int→Option ac
 |0,_,_=>none
 |k1+1,l1,x1=>aj (decide (x1<(p1.items.length:Int))) (al (at? p1.items x1) fun e1=>al (q_value_Copy e1) fun r1=>gX (l1.length+1≤4294967296)<|(sN q_value_Copy p1 k1) (l1++[r1]) (i64.wrap (x1+1))) (xe p1 l1)
def nZ:Nat→ac→Option ac
 |0,_=>none
 |k0+1,p1=>sN (nZ k0) p1 aH [] 0
theorem yl:∀(k0:Nat) (p1:ac),CT prog 86 [.ag (HI p1)] (nZ k0 p1) (fun r=>mV r)
  |0,_=>Jw (nZ.eq_1 ..)
  |k0+1,p1=>cu 23 [1,2,5] f86 fun r=>(uU (nZ.eq_2 ..) (co f86 14 1 fun K k=>have J1:∀{l2},xe p1 l2=some r→K.p [(1,vQ 0),(2,vQ 1),(3,.one (.sl 2 5 0 l2.length))] [.box (HI p1),.box uo,.arr 5 (ak.els l2)]:=fun{l2} h=>k h (Ks ak l2 2 [19] (aS (kL _) fun r2=>uz));(uN ak p1.items (LC (.li 3 5) (fJ f86 58 1 fun R b=>have L1:∀k1 {l1 x1},sN (nZ k0) p1 k1 l1 x1=some r→(R k1).p [(1,vQ 0),(2,vQ 1),(3,.one (.sl 2 5 0 l1.length)),(7,vl ak p1.items),(8,vi p1.items.length),(9,vi x1)] [.box (HI p1),.box uo,.arr 5 (ak.els l1)]:=uI (fD rfl) fun k1 i1 {l1 x1} h=>b h (uU (sN.eq_2 ..) (uC (dL ak fun e1=>(aS (yl k0 _) fun r1=>(uW 16 ak [r1] (Bk ak 2 [r1] (uJ i1))))) (uR (.exit 0) (xM (uJ J1)))));uE (L1 aH))))))
def wa(l2:List ac):Option (List ac):=al (dw l2) fun r2=>some r2
def ki(p1:List ac):Nat→List ac→Int→Option (List ac)
 |0,_,_=>none
 |k1+1,l1,x1=>aj (decide (x1<(p1.length:Int))) (al (at? p1 x1) fun e1=>al (nZ aH e1) fun r1=>gX (l1.length+1≤4294967296)<|(ki p1 k1) (l1++[r1]) (i64.wrap (x1+1))) (wa l1)
def xh(p1:List ac):Option (List ac):=ki p1 aH [] 0
theorem Ix(p1:List ac):CT prog 83 [vl ak p1] (xh p1) (vl ak):=
  cu 20 [5] f83 fun r=>(co f83 14 1 fun K k=>have J1:∀{l2},wa l2=some r→K.p [(3,.one (.sl 0 5 0 l2.length))] [.arr 5 (ak.els l2)]:=fun{l2} h=>k h (Ks ak l2 0 [18] (aS (kL _) fun r2=>uz));(uN ak p1 (LC (.li 3 5) (fJ f83 58 1 fun R b=>have L1:∀k1 {l1 x1},ki p1 k1 l1 x1=some r→(R k1).p [(3,.one (.sl 0 5 0 l1.length)),(6,vl ak p1),(7,vi p1.length),(8,vi x1)] [.arr 5 (ak.els l1)]:=uI (fD rfl) fun k1 i1 {l1 x1} h=>b h (uU (ki.eq_2 ..) (uC (dL ak fun e1=>(aS (yl aH _) fun r1=>(uW 15 ak [r1] (Bk ak 0 [r1] (uJ i1))))) (uR (.exit 0) (xM (uJ J1)))));uE (L1 aH)))))
def ja(p1:List cc):Option (Unit×(List cc)):=some ((),p1)
theorem sU(p1:List cc):CX prog 84 [.one (.sl 0 12 0 p1.length)] [.arr 12 (bD.els p1)] [0] (ja p1) (fun r=> .one (.sl 0 12 0 r.2.length)) (fun r=>[.arr 12 (bD.els r.2)]):=
  KD 1 1 9 [] f84 fun r=>(uXs 0 12 p1.length (uR .ret sE))
def Ag(p1:ai)(r1:List ac)(l2:List cc):Option ai:=some (ai.mk p1.name p1.schema p1.spec r1 p1.rows p1.seq l2)
def jF(p1:ai)(r1:List ac)(r3:(Unit×(List cc))):Nat→List cc→Int→Option ai
 |0,_,_=>none
 |k1+1,l1,x1=>aj (decide (x1<((r3.2.length:Nat):Int))) (al (at? l1 x1) fun e1=>al (nZ aH e1.min) fun r4=>al (nZ aH e1.max) fun r5=>al (at? (l1.set x1.toNat (cc.mk e1.id e1.nulls r4 e1.max)) x1) fun e2=>(jF p1 r1 r3 k1) ((l1.set x1.toNat (cc.mk e1.id e1.nulls r4 e1.max)).set x1.toNat (cc.mk e2.id e2.nulls e2.min r5)) (i64.wrap (x1+1))) (Ag p1 r1 l1)
def vJ(p1:ai):Option ai:=al (xh p1.part) fun r1=>al (qO p1.stats) fun r2=>al (ja r2) fun r3=>jF p1 r1 r3 aH r3.2 0
theorem Ht(p1:ai):CT prog 28 [mF p1] (vJ p1) (fun r=>mF r):=
  cu 39 [1,2,5] f28 fun r=>(aS (Ix _) fun r1=>(Wa true [] (Hu _) fun r2 _=>(Wa true [2] (sU _) fun r3 _=>(co f28 30 1 fun K k=>have J1:∀{l2},Ag p1 r1 l2=some r→K.p [(1,vQ 0),(2,vQ 1),(3,.one (.sl 2 12 0 l2.length))] [.box [rX p1.name,ci p1.schema,ci p1.spec,cl ak r1,ci p1.rows,ci p1.seq,cl bD p1.stats],.box [rX ByteArray.empty,ci (0:Int),ci (0:Int),.pv (.s (.slice none 0 0)),ci (0:Int),ci (0:Int),.pv (.s (.slice none 0 0))],.arr 12 (bD.els l2)]:=fun{l2} h=>k h (Ks bD l2 2 [] uz);(fJ f28 122 1 fun R b=>have L1:∀k1 {l1 x1},jF p1 r1 r3 k1 l1 x1=some r→(R k1).p [(1,vQ 0),(2,vQ 1),(3,.one (.sl 2 12 0 l1.length)),(14,.one (.sl 2 12 0 l1.length)),(15,vi ((r3.2.length:Nat):Int)),(16,vi x1)] [.box [rX p1.name,ci p1.schema,ci p1.spec,cl ak r1,ci p1.rows,ci p1.seq,cl bD p1.stats],.box [rX ByteArray.empty,ci (0:Int),ci (0:Int),.pv (.s (.slice none 0 0)),ci (0:Int),ci (0:Int),.pv (.s (.slice none 0 0))],.arr 12 (bD.els l1)]:=uI (fD rfl) fun k1 i1 {l1 x1} h=>b h (uU (jF.eq_2 ..) (uC (Tp bD 2 fun e1 a14=>(Wq bD a14 (Im 13 0 [4] (aS (yl aH _) fun r4=>(aS (yl aH _) fun r5=>(uIb bD 2 a14 (Ya bD 2 a14 (cc.mk e1.id e1.nulls r4 e1.max) (Tp (L:=l1.length) (hL:=by simp) bD 2 fun e2 a17=>(Ya bD 2 a17 (cc.mk e2.id e2.nulls e2.min r5) (Wr 2 (show l1.length=((l1.set x1.toNat (cc.mk e1.id e1.nulls r4 e1.max)).set x1.toNat (cc.mk e2.id e2.nulls e2.min r5)).length by simp) (uJ i1))))))))))) (uR (.exit 0) (xM (uJ J1)))));uE (L1 aH))))))
def Bz:Option (List Int):=some []
def kl(p1:ar)(p2:ByteArray):Nat→Int→Option (List Int)
 |0,_=>none
 |k1+1,x1=>aj (decide (x1<(p1.dat.length:Int))) (al (at? p1.dat x1) fun e1=>aj (e1.file.toList==p2.toList) (some e1.rows) ((kl p1 p2 k1) (i64.wrap (x1+1)))) (Bz)
def wT(p1:ar)(p2:ByteArray):Option (List Int):=kl p1 p2 aH 0
theorem IA(p1:ar)(p2:ByteArray):CT prog 31 [mS p1,vs p2] (wT p1 p2) (vl eI):=
  cu 21 [6] f31 fun r=>(kd f31 6 1 Bz [] [] uz fun K J1=>(uN dj p1.dat (fJ f31 26 1 fun R b=>have L1:∀k1 {x1},kl p1 p2 k1 x1=some r→(R k1).p [(1,vs p2),(8,vl dj p1.dat),(9,vi p1.dat.length),(10,vi x1)] []:=uI (fD rfl) fun k1 i1 {x1} h=>b h (uU (kl.eq_2 ..) (uC (dL dj fun e1=>(uC jh (uJ i1))) (uR (.exit 0) (xM (uJ J1)))));uE (L1 aH))))
def oo(p1:List Int):Option (List Int):=gX (0≤(0:Int)∧(0:Int)≤(p1.length:Int)∧(p1.length:Int)≤(p1.length:Int)∧(p1.length:Int)≤(p1.length:Int))<|some ((p1.drop (0:Int).toNat).take ((p1.length:Int).toNat-(0:Int).toNat))
theorem CJ(p1:List Int):CT prog 29 [vl eI p1] (oo p1) (vl eI):=
  cu 9 [] f29 fun r=>(uN eI p1 (uN eI p1 (uXm eI uz)))
def il(p1:List lr):Option (List lr):=gX (0≤(0:Int)∧(0:Int)≤(p1.length:Int)∧(p1.length:Int)≤(p1.length:Int)∧(p1.length:Int)≤(p1.length:Int))<|some ((p1.drop (0:Int).toNat).take ((p1.length:Int).toNat-(0:Int).toNat))
theorem vV(p1:List lr):CT prog 32 [vl lY p1] (il p1) (vl lY):=
  cu 9 [] f32 fun r=>(uN lY p1 (uN lY p1 (uXm lY uz)))
def uS(rec1:List lr→Int→Option ((List lr)×Int))(x1:Int)(l2:List lr):Option ((List lr)×Int):=rec1 l2 (i64.wrap (x1+1))
def zk(l3:List lr):Option ((List lr)×Int):=al (il l3) fun r9=>some (r9,0)
def jx(p1:ay)(p3:List bw)(r2:(ar×Bool))(e1:List ae):Nat→List lr→Int→Option ((List lr)×Int)
 |0,_,_=>none
 |k1+1,l1,x1=>aj (decide (x1<(r2.1.files.length:Int))) (al (at? r2.1.files x1) fun e2=>al (BB p1 e1 e2 p3) fun r4=>aj r4 (al (vJ e2) fun r5=>al (wT r2.1 e2.name) fun r6=>al (sR r6) fun r7=>al (oo r7) fun r8=>gX (l1.length+1≤4294967296)<|uS (jx p1 p3 r2 e1 k1) x1 (l1++[(lr.mk r5 r8)])) (uS (jx p1 p3 r2 e1 k1) x1 l1)) (zk l1)
def Ap(p1:ay)(p2:Int)(p3:List bw):Option ((List lr)×Int):=al (oP p1) fun r1=>aj (r1 != 0) (some ([],r1)) (al (kI p1 p2) fun r2=>aj (!r2.2) (some ([],9)) (al (at? p1.schemas r2.1.schema) fun e1=>al (pC e1 p3) fun r3=>aj (r3 != 0) (some ([],r3)) (jx p1 p3 r2 e1 aH [] 0)))
abbrev M2(r2:(ar×Bool)):List CV:=[ci r2.1.id,ci r2.1.parent,ci r2.1.seq,ci r2.1.schema,ci r2.1.time,ci r2.1.kind,cl aU r2.1.files,cl dj r2.1.dat,cl dT r2.1.dby]
theorem KJ(p1:ay)(p2:Int)(p3:List bw):CT prog 8 [mM p1,vi p2,vl gS p3] (Ap p1 p2 p3) (fun r=> .tp [vl lY r.1,vi r.2]):=
  cu 71 [9,14] f8 fun r=>(aS (EC _) fun r1=>(uC uz (aS (Bl _ _) fun r2=>(uC uz (uL (eL af) fun e1 a16=>(aS (Am _ _) fun r3=>(uC uz (co f8 254 1 fun K k=>have J2:∀{l3},zk l3=some r→K.p [(12,.one (.sl 1 8 0 l3.length))] [.dead,.arr 8 (lY.els l3)]:=fun{l3} h=>k h (Ks lY l3 1 [69] (aS (vV _) fun r9=>uz));(uN aU r2.1.files (LC (.li 12 8) (fJ f8 1018 1 fun R b=>have L1:∀k1 {l1 x1},jx p1 p3 r2 e1 k1 l1 x1=some r→(R k1).p [(2,vl gS p3),(3,vR (bB p1)),(9,vQ 0),(12,.one (.sl 1 8 0 l1.length)),(40,vl aU r2.1.files),(41,vi r2.1.files.length),(42,vi x1)] [.box (M2 r2),.arr 8 (lY.els l1)]:=uI (fD rfl) fun k1 i1 {l1 x1} h=>b h (uU (jx.eq_2 ..) (uC (co f8 16294 1 fun K k=>have J1:∀{l2},uS (jx p1 p3 r2 e1 k1) x1 l2=some r→K.p [(2,vl gS p3),(3,vR (bB p1)),(9,vQ 0),(12,.one (.sl 1 8 0 l2.length)),(40,vl aU r2.1.files),(41,vi r2.1.files.length),(42,vi x1)] [.box (M2 r2),.arr 8 (lY.els l2)]:=fun{l2} h=>k h (uJ i1);(dL aU fun e2=>(mZ 9 (uM (eL af) a16 (aS (H9 _ _ _ _) fun r4=>(uC (mZ 11 (aS (Ht _) fun r5=>(aS (IA _ _) fun r6=>(aS (Iq _) fun r7=>(aS (CJ _) fun r8=>(Bk lY 1 [(lr.mk r5 r8)] (uJ J1))))))) (uJ J1))))))) (uR (.exit 0) (xM (uJ J2)))));uE (L1 aH))))))))))))
def GF:Option (List Int):=some []
def pn(p1:ar)(p2:ByteArray):Nat→Int→Option (List Int)
 |0,_=>none
 |k1+1,x1=>aj (decide (x1<(p1.dat.length:Int))) (al (at? p1.dat x1) fun e1=>aj (e1.file.toList==p2.toList) (some e1.rows) ((pn p1 p2 k1) (i64.wrap (x1+1)))) (GF)
def D7(p1:ar)(p2:ByteArray):Option (List Int):=pn p1 p2 aH 0
theorem NL(p1:ar)(p2:ByteArray):CT prog 34 [mS p1,vs p2] (D7 p1 p2) (vl eI):=
  cu 21 [6] f34 fun r=>(kd f34 6 1 GF [] [] uz fun K J1=>(uN dj p1.dat (fJ f34 26 1 fun R b=>have L1:∀k1 {x1},pn p1 p2 k1 x1=some r→(R k1).p [(1,vs p2),(8,vl dj p1.dat),(9,vi p1.dat.length),(10,vi x1)] []:=uI (fD rfl) fun k1 i1 {x1} h=>b h (uU (pn.eq_2 ..) (uC (dL dj fun e1=>(uC jh (uJ i1))) (uR (.exit 0) (xM (uJ J1)))));uE (L1 aH))))
def w6(rec1:List lr→Int→Option ((List lr)×Int))(x1:Int)(l2:List lr):Option ((List lr)×Int):=rec1 l2 (i64.wrap (x1+1))
def Ey(l3:List lr):Option ((List lr)×Int):=some (l3,0)
def kA(p1:ay)(p3:List bw)(r2:(ar×Bool)):Nat→List lr→Int→Option ((List lr)×Int)
 |0,_,_=>none
 |k1+1,l1,x1=>aj (decide (x1<(r2.1.files.length:Int))) (al (at? r2.1.files x1) fun e2=>al (Bn p1 r2.1.schema e2 p3) fun r4=>aj r4 (al (D7 r2.1 e2.name) fun r5=>gX (l1.length+1≤4294967296)<|w6 (kA p1 p3 r2 k1) x1 (l1++[(lr.mk e2 r5)])) (w6 (kA p1 p3 r2 k1) x1 l1)) (Ey l1)
def Cq(p1:ay)(p2:Int)(p3:List bw):Option ((List lr)×Int):=al (wl p1) fun r1=>aj (r1 != 0) (some ([],r1)) (al (wz p1 p2) fun r2=>aj (!r2.2) (some ([],9)) (al (at? p1.schemas r2.1.schema) fun e1=>al (pJ p3 e1) fun r3=>aj (r3 != 0) (some ([],r3)) (kA p1 p3 r2 aH [] 0)))
theorem MG(p1:ay)(p2:Int)(p3:List bw):CT prog 9 [mM p1,vi p2,vl gS p3] (Cq p1 p2 p3) (fun r=> .tp [vl lY r.1,vi r.2]):=
  cu 63 [9,14] f9 fun r=>(aS (GD _) fun r1=>(uC uz (aS (H4 _ _) fun r2=>(uC uz (dL (eL af) fun e1=>(aS (Af _ _) fun r3=>(uC uz (co f9 254 1 fun K k=>have J2:∀{l3},Ey l3=some r→K.p [(12,.one (.sl 1 8 0 l3.length))] [.dead,.arr 8 (lY.els l3)]:=fun{l3} h=>k h (Ks lY l3 1 [6] uz);(uN aU r2.1.files (LC (.li 12 8) (fJ f9 1018 1 fun R b=>have L1:∀k1 {l1 x1},kA p1 p3 r2 k1 l1 x1=some r→(R k1).p [(2,vl gS p3),(3,vR (bB p1)),(9,vQ 0),(12,.one (.sl 1 8 0 l1.length)),(40,vl aU r2.1.files),(41,vi r2.1.files.length),(42,vi x1)] [.box (M2 r2),.arr 8 (lY.els l1)]:=uI (fD rfl) fun k1 i1 {l1 x1} h=>b h (uU (kA.eq_2 ..) (uC (co f9 16294 1 fun K k=>have J1:∀{l2},w6 (kA p1 p3 r2 k1) x1 l2=some r→K.p [(2,vl gS p3),(3,vR (bB p1)),(9,vQ 0),(12,.one (.sl 1 8 0 l2.length)),(40,vl aU r2.1.files),(41,vi r2.1.files.length),(42,vi x1)] [.box (M2 r2),.arr 8 (lY.els l2)]:=fun{l2} h=>k h (uJ i1);(dL aU fun e2=>(aS (JL _ _ _ _) fun r4=>(uC (mZ 8 (aS (NL _ _) fun r5=>(Bk lY 1 [(lr.mk e2 r5)] (uJ J1)))) (uJ J1))))) (uR (.exit 0) (xM (uJ J2)))));uE (L1 aH))))))))))))
def Gu:OB:=some true
def o9(p1 p2:List Int):Nat→Int→OB
 |0,_=>none
 |k1+1,x1=>aj (decide (x1<(p1.length:Int))) (al (at? p1 x1) fun e1=>al (at? p2 x1) fun e2=>aj (e1 != e2) (some false) ((o9 p1 p2 k1) (i64.wrap (x1+1)))) (Gu)
def D4(p1 p2:List Int):OB:=aj ((p1.length:Int) != (p2.length:Int)) (some false) (o9 p1 p2 aH 0)
theorem Ns(p1 p2:List Int):CT prog 10 [vl eI p1,vl eI p2] (D4 p1 p2) vb:=
  cu 26 [] f10 fun r=>(uN eI p1 (uN eI p2 (uC uz (kd f10 14 1 Gu [] [] uz fun K J1=>(uN eI p1 (fJ f10 58 1 fun R b=>have L1:∀k1 {x1},o9 p1 p2 k1 x1=some r→(R k1).p [(0,vl eI p1),(1,vl eI p2),(12,vi p1.length),(13,vi x1)] []:=uI (fD rfl) fun k1 i1 {x1} h=>b h (uU (o9.eq_2 ..) (uC (mZ 8 (dL eI fun e1=>(dL eI fun e2=>(uC jh (uJ i1))))) (uR (.exit 0) (xM (uJ J1)))));uE (L1 aH)))))))
def ga(rec1:Int→OB)(x3:Int)(x4:Bool):OB:=aj x4 (some false) (rec1 (i64.wrap (x3+1)))
def qx:OB:=some true
def bZ(r4 r5:((List lr)×Int)):Nat→Int→OB
 |0,_=>none
 |k1+1,x3=>aj (decide (x3<(r4.1.length:Int))) (al (at? r4.1 x3) fun e1=>al (at? r5.1 x3) fun e2=>aj (!(e1.file.name.toList==e2.file.name.toList)) (ga (bZ r4 r5 k1) x3 true) (aj (e1.file.seq != e2.file.seq) (ga (bZ r4 r5 k1) x3 true) (al (D4 e1.rows e2.rows) fun r6=>ga (bZ r4 r5 k1) x3 (!r6)))) (qx)
def iZ(r4 r5:((List lr)×Int))(x2:Bool):OB:=aj x2 (some false) (bZ r4 r5 aH 0)
def gb(p1:ay)(p3:Int)(p5:List bw)(x1:Bool):OB:=aj x1 (some false) (al (Ap p1 p3 p5) fun r4=>al (Cq p1 p3 p5) fun r5=>aj (r4.2 != r5.2) (iZ r4 r5 true) (iZ r4 r5 ((r4.1.length:Int) != (r5.1.length:Int))))
def ky(p1:ay)(p2 p3:Int)(p4:ai)(p5:List bw):OB:=al (D3 p1 p2 p4 p5) fun r1=>al (GH p1 p2 p4 p5) fun r2=>al (DO) fun r3=>aj (!r3) (gb p1 p3 p5 true) (aj (r1.2 != r2.2) (gb p1 p3 p5 true) (gb p1 p3 p5 (!(r1.1==r2.1))))
theorem zM(p1:ay)(p2 p3:Int)(p4:ai)(p5:List bw):CT prog 3 [mM p1,vi p2,vi p3,mF p4,vl gS p5] (ky p1 p2 p3 p4 p5) vb:=
  cu 118 [] f3 fun r=>(aS (O3 _ _ _ _) fun r1=>(aS (P6 _ _ _ _) fun r2=>(co f3 60 2 fun K k=>have J1:∀{x1},gb p1 p3 p5 x1=some r→K.p [(2,vi p3),(4,vl gS p5),(5,vR [.ro ((eL af).els p1.schemas),.ro (fk.els p1.specs),pi p1.nextField,pi p1.nextSeq,pi p1.nextSnap,pi p1.purges,.ro (aT.els p1.snapshots),.ro (nT.els p1.refs),.ro (ku.els p1.props)]),(45,vb x1)] []:=fun{x1} h=>k h (uC uz (aS (KJ _ _ _) fun r4=>(aS (MG _ _ _) fun r5=>(co f3 508 2 fun K k=>have J2:∀{x2},iZ r4 r5 x2=some r→K.p [(15,vl lY r4.1),(16,vl lY r5.1),(69,vb x2)] []:=fun{x2} h=>k h (uC uz (kd f3 510 1 qx [] [] uz fun K J4=>(uN lY r4.1 (fJ f3 2042 1 fun R b=>have L1:∀k1 {x3},bZ r4 r5 k1 x3=some r→(R k1).p [(15,vl lY r4.1),(16,vl lY r5.1),(71,vi r4.1.length),(72,vi x3)] []:=uI (fD rfl) fun k1 i1 {x3} h=>b h (uU (bZ.eq_2 ..) (uC (co f3 261426 3 fun K k=>have J3:∀{x4},ga (bZ r4 r5 k1) x3 x4=some r→K.p [(15,vl lY r4.1),(16,vl lY r5.1),(71,vi r4.1.length),(72,vi x3),(116,vb x4)] []:=fun{x4} h=>k h (uC jh (uJ i1));(mZ 39 (uL lY fun e1 a30=>(uL lY fun e2 a31=>(uC (uJ J3) (uM lY a30 (uM lY a31 (uC (uJ J3) (uM lY a30 (uM lY a31 (aS (Ns _ _) fun r6=>(uJ J3)))))))))))) (uR (.exit 0) (xM (uJ J4)))));uE (L1 aH)))));(uC (uJ J2) (uN lY r4.1 (uN lY r5.1 (uJ J2))))))));(aS KG fun r3=>(uC (uJ J1) (uC (uJ J1) (uJ J1)))))))
end Go.Proofs.YtpiohnabdhpphaaGreatDoor
