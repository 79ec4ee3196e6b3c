/- Printed by a program: what the functions compute, and the proofs of their contracts. -/
import Derived.Test.YtpiohnabdhpphaaGreatDoorGeA
set_option linter.unusedVariables false
set_option linter.unusedSimpArgs false
set_option linter.unnecessarySimpa false
namespace Go.Proofs.YtpiohnabdhpphaaGreatDoor
open Go.SX Go Tryz
open Go.IntKind (i64)
set_option maxRecDepth 100000
set_option maxHeartbeats 8000000
def nr(rec1:Int→OI)(x3:Int)(x5:Bool):OI:=ak x5 (some 1) (rec1 (i64.wrap (x3+1)))
def nj(rec1:Int→OI)(p2:aw)(x3:Int)(e1:aj)(x4:Bool):OI:=ak x4 (some 3) (ak (decide (0<x3)) (am (at? p2.files (i64.wrap (x3-1))) fun e2=>am (some (Op.bytesLess e1.name.toList e2.name.toList||e1.name.toList==e2.name.toList)) fun y1=>nr rec1 x3 y1) (nr rec1 x3 false))
def kj(rec2:Int→OI)(x6:Int)(e3:mI)(r8:(aj×Bool))(x7:Bool):OI:=ak x7 (some 1) (am (pW e3.rows r8.1.rows) fun r11=>ak (!r11) (some 3) (rec2 (i64.wrap (x6+1))))
def ku(rec3:Int→OI)(x8:Int)(x9:Bool):OI:=ak x9 (some 1) (rec3 (i64.wrap (x8+1)))
def wv:OI:=some 0
def dy(p1:ax)(p2:aw):Nat→Int→OI
 |0,_=>none
 |k3+1,x8=>ak (decide (x8<(p2.dby.length:Int))) (am (at? p2.dby x8) fun e5=>am (yy p1 e5) fun r12=>ak (r12 != 0) (some r12) (ak (decide (p2.seq<e5.seq)) (some 3) (ak (decide (0<x8)) (am (at? p2.dby (i64.wrap (x8-1))) fun e6=>ak (decide (e5.seq<e6.seq)) (ku (dy p1 p2 k3) x8 true) (am (Ad p2.files e5.seq) fun r13=>ku (dy p1 p2 k3) x8 (!r13))) (am (Ad p2.files e5.seq) fun r14=>ku (dy p1 p2 k3) x8 (!r14))))) (wv)
def kq(p1:ax)(p2:aw):OI:=dy p1 p2 aH 0
def cC(p1:ax)(p2:aw):Nat→Int→OI
 |0,_=>none
 |k2+1,x6=>ak (decide (x6<(p2.dat.length:Int))) (am (at? p2.dat x6) fun e3=>am (BQ p2 e3.file) fun r8=>ak (!r8.2) (some 9) (ak (decide (0<x6)) (am (at? p2.dat (i64.wrap (x6-1))) fun e4=>am (some (Op.bytesLess e3.file.toList e4.file.toList||e3.file.toList==e4.file.toList)) fun y2=>ak y2 (kj (cC p1 p2 k2) x6 e3 r8 true) (am (pX e3.rows) fun r9=>kj (cC p1 p2 k2) x6 e3 r8 (!r9))) (am (pX e3.rows) fun r10=>kj (cC p1 p2 k2) x6 e3 r8 (!r10)))) (kq p1 p2)
def kr(p1:ax)(p2:aw):OI:=cC p1 p2 aH 0
def bQ(p1:ax)(p2:aw):Nat→Int→OI
 |0,_=>none
 |k1+1,x3=>ak (decide (x3<(p2.files.length:Int))) (am (at? p2.files x3) fun e1=>am (vW p1 e1) fun r7=>ak (r7 != 0) (some r7) (ak (decide (p2.seq<e1.seq)) (nj (bQ p1 p2 k1) p2 x3 e1 true) (nj (bQ p1 p2 k1) p2 x3 e1 (decide (p2.schema<e1.schema))))) (kr p1 p2)
def nn(p1:ax)(p2:aw)(x2:Bool):OI:=ak x2 (some 5) (bQ p1 p2 aH 0)
def dY(p1:ax)(p2 p3:aw)(x1:Bool):OI:=ak x1 (some 3) (ak (decide (p2.id≤p3.id)) (nn p1 p2 true) (nn p1 p2 (decide (p2.seq≤p3.seq))))
def ng(p1:ax)(p2 p3:aw):OI:=am (eg p2.id 1 (i64.wrap (p1.nextSnap-1))) fun r1=>ak (!r1) (dY p1 p2 p3 true) (am (eg p2.parent 0 (i64.wrap (p2.id-1))) fun r2=>ak (!r2) (dY p1 p2 p3 true) (am (eg p2.seq 1 (i64.wrap (p1.nextSeq-1))) fun r3=>ak (!r3) (dY p1 p2 p3 true) (am (eg p2.schema 0 (i64.wrap ((p1.schemas.length:Int)-1))) fun r4=>ak (!r4) (dY p1 p2 p3 true) (am (eg p2.time (-62135596800) 253402300799) fun r5=>ak (!r5) (dY p1 p2 p3 true) (am (eg p2.kind 1 3) fun r6=>dY p1 p2 p3 (!r6))))))
theorem CZ(p1:ax)(p2 p3:aw):CT prog 39 [mM p1,mS p2,mS p3] (ng p1 p2 p3) vi:=
  cI 203 [8,11,12,15] f39 fun r=>(cu f39 12 2 fun K k=>have J1:∀{x1},dY p1 p2 p3 x1=some r→K.p [(3,vR (bH p1)),(4,vR (oQ p2)),(5,vR [pi p3.id,pi p3.parent,pi p3.seq,pi p3.schema,pi p3.time,pi p3.kind,.ro (be.els p3.files),.ro (fL.els p3.dat),.ro (eH.els p3.dby)]),(63,vb x1)] []:=fun{x1} h=>k h (uC uz (cu f39 28 2 fun K k=>have J2:∀{x2},nn p1 p2 x2=some r→K.p [(3,vR (bH p1)),(4,vR (oQ p2)),(75,vb x2)] []:=fun{x2} h=>k h (uC uz (kT f39 30 1 (kr p1 p2) [(3,vR (bH p1)),(4,vR (oQ p2))] [] (kT f39 62 1 (kq p1 p2) [(3,vR (bH p1)),(4,vR (oQ p2))] [] (kT f39 126 1 wv [] [] uz fun K J9=>(uN eH p2.dby (gc f39 506 1 fun R b=>have L3:∀k3 {x8},dy p1 p2 k3 x8=some r→(R k3).p [(3,vR (bH p1)),(4,vR (oQ p2)),(162,vl eH p2.dby),(163,vi p2.dby.length),(164,vi x8)] []:=uI (fW rfl) fun k3 i3 {x8} h=>b h (uU (dy.eq_2 ..) (uC (dS eH fun e5=>(aV (JI _ _) fun r12=>(uC jX (uC jX (cu f39 259278 3 fun K k=>have J8:∀{x9},ku (dy p1 p2 k3) x8 x9=some r→K.p [(3,vR (bH p1)),(4,vR (oQ p2)),(162,vl eH p2.dby),(163,vi p2.dby.length),(164,vi x8),(201,vb x9)] [.dead]:=fun{x9} h=>k h (uC jX (uJ i3));(nt 19 (uC (dS eH fun e6=>(uC (uJ J8) (aV (FN _ _) fun r13=>(uJ J8)))) (aV (FN _ _) fun r14=>(uJ J8))))))))) (uR (.exit 4) (xM (uJ J9)))));uE (L3 aH)))) fun K J7=>(uN fL p2.dat (gc f39 250 1 fun R b=>have L2:∀k2 {x6},cC p1 p2 k2 x6=some r→(R k2).p [(3,vR (bH p1)),(4,vR (oQ p2)),(118,vl fL p2.dat),(119,vi p2.dat.length),(120,vi x6)] []:=uI (fW rfl) fun k2 i2 {x6} h=>b h (uU (cC.eq_2 ..) (uC (dS fL fun e3=>(aV (Ip _ _) fun r8=>(uC jX (cu f39 256412 4 fun K k=>have J6:∀{x7},kj (cC p1 p2 k2) x6 e3 r8 x7=some r→K.p [(3,vR (bH p1)),(4,vR (oQ p2)),(11,vQ 0),(12,vQ 1),(118,vl fL p2.dat),(119,vi p2.dat.length),(120,vi x6),(153,vb x7)] [.box [qm e3.file,cl eI e3.rows],.box [qm r8.1.name,ci r8.1.schema,ci r8.1.spec,cl ah r8.1.part,ci r8.1.rows,ci r8.1.seq,cl cA r8.1.stats]]:=fun{x7} h=>k h (uC jX (aV (G3 _ _) fun r11=>(uC jX (uJ i2))));(nt 12 (uC (dS fL fun e4=>(uY 146 vb fun y2=>(uC (uJ J6) (aV (As _) fun r9=>(uJ J6))))) (aV (As _) fun r10=>(uJ J6)))))))) (uR (.exit 2) (xM (uJ J7)))));uE (L2 aH)))) fun K J5=>(uN be p2.files (gc f39 122 1 fun R b=>have L1:∀k1 {x3},bQ p1 p2 k1 x3=some r→(R k1).p [(3,vR (bH p1)),(4,vR (oQ p2)),(77,vl be p2.files),(78,vi p2.files.length),(79,vi x3)] []:=uI (fW rfl) fun k1 i1 {x3} h=>b h (uU (bQ.eq_2 ..) (uC (dS be fun e1=>(aV (H7 _ _) fun r7=>(uC jX (cu f39 62668 4 fun K k=>have J3:∀{x4},nj (bQ p1 p2 k1) p2 x3 e1 x4=some r→K.p [(3,vR (bH p1)),(4,vR (oQ p2)),(7,vi x3),(8,vQ 0),(77,vl be p2.files),(78,vi p2.files.length),(79,vi x3),(101,vb x4)] [.box [qm e1.name,ci e1.schema,ci e1.spec,cl ah e1.part,ci e1.rows,ci e1.seq,cl cA e1.stats]]:=fun{x4} h=>k h (uC jX (cu f39 62670 3 fun K k=>have J4:∀{x5},nr (bQ p1 p2 k1) x3 x5=some r→K.p [(3,vR (bH p1)),(4,vR (oQ p2)),(77,vl be p2.files),(78,vi p2.files.length),(79,vi x3),(115,vb x5)] [.dead]:=fun{x5} h=>k h (uC jX (uJ i1));(nt 12 (uC (dS be fun e2=>(uY 114 vb fun y1=>(uJ J4))) (uJ J4)))));(uC (uJ J3) (uJ J3)))))) (uR (.exit 0) (xM (uJ J5)))));uE (L1 aH)))));(uC (uJ J2) (uJ J2))));(aV (dP _ _ _) fun r1=>(uC (uJ J1) (aV (dP _ _ _) fun r2=>(uC (uJ J1) (aV (dP _ _ _) fun r3=>(uC (uJ J1) (uN (eL af) p1.schemas (aV (dP _ _ _) fun r4=>(uC (uJ J1) (aV (dP _ _ _) fun r5=>(uC (uJ J1) (aV (dP _ _ _) fun r6=>(uJ J1))))))))))))))
def CP:OB:=some true
def nF(q_ref3_exactly:ac→ac→OB)(p1 p2:ac):Nat→Int→OB
 |0,_=>none
 |k1+1,x2=>ak (decide (x2<(p1.items.length:Int))) (am (at? p1.items x2) fun e1=>am (at? p2.items x2) fun e2=>am (q_ref3_exactly e1 e2) fun r1=>ak (!r1) (some false) ((nF q_ref3_exactly p1 p2 k1) (i64.wrap (x2+1)))) (CP)
def j6(q_ref3_exactly:ac→ac→OB)(p1 p2:ac)(x1:Bool):OB:=ak x1 (some false) (nF q_ref3_exactly p1 p2 aH 0)
def fc:Nat→ac→ac→OB
 |0,_,_=>none
 |k0+1,p1,p2=>ak (p1.kind != p2.kind) (j6 (fc k0) p1 p2 true) (ak (p1.n != p2.n) (j6 (fc k0) p1 p2 true) (ak (p1.scale != p2.scale) (j6 (fc k0) p1 p2 true) (ak (!(p1.s.toList==p2.s.toList)) (j6 (fc k0) p1 p2 true) (j6 (fc k0) p1 p2 ((p1.items.length:Int) != (p2.items.length:Int))))))
theorem vj:∀(k0:Nat) (p1 p2:ac),CT prog 92 [mV p1,mV p2] (fc k0 p1 p2) vb
  |0,_,_=>Jd (fc.eq_1 ..)
  |k0+1,p1,p2=>cI 60 [] f92 fun r=>(uU (fc.eq_2 ..) (cu f92 12 2 fun K k=>have J1:∀{x1},j6 (fc k0) p1 p2 x1=some r→K.p [(2,vR [pi p1.kind,pi p1.n,pi p1.scale,.s (.string p1.s),.ro (ah.els p1.items)]),(3,vR [pi p2.kind,pi p2.n,pi p2.scale,.s (.string p2.s),.ro (ah.els p2.items)]),(40,vb x1)] []:=fun{x1} h=>k h (uC uz (kT f92 14 1 CP [] [] uz fun K J2=>(uN ah p1.items (gc f92 58 1 fun R b=>have L1:∀k1 {x2},nF (fc k0) p1 p2 k1 x2=some r→(R k1).p [(2,vR [pi p1.kind,pi p1.n,pi p1.scale,.s (.string p1.s),.ro (ah.els p1.items)]),(3,vR [pi p2.kind,pi p2.n,pi p2.scale,.s (.string p2.s),.ro (ah.els p2.items)]),(43,vi p1.items.length),(44,vi x2)] []:=uI (fW rfl) fun k1 i1 {x2} h=>b h (uU (nF.eq_2 ..) (uC (nt 10 (dS ah fun e1=>(dS ah fun e2=>(aV (vj k0 _ _) fun r1=>(uC jX (uJ i1)))))) (uR (.exit 0) (xM (uJ J2)))));uE (L1 aH)))));(uC (uJ J1) (uC (uJ J1) (uC (uJ J1) (uC (uJ J1) (uN ah p1.items (uN ah p2.items (uJ J1)))))))))
def mH(rec2:Int→OB)(x3:Int)(x4:Bool):OB:=ak x4 (some false) (rec2 (i64.wrap (x3+1)))
def BU:OB:=some true
def fo(p1 p2:aj):Nat→Int→OB
 |0,_=>none
 |k2+1,x3=>ak (decide (x3<(p1.stats.length:Int))) (am (at? p1.stats x3) fun e3=>am (at? p2.stats x3) fun e4=>ak (e3.id != e4.id) (mH (fo p1 p2 k2) x3 true) (ak (e3.nulls != e4.nulls) (mH (fo p1 p2 k2) x3 true) (am (fc aH e3.min e4.min) fun r2=>ak (!r2) (mH (fo p1 p2 k2) x3 true) (am (fc aH e3.max e4.max) fun r3=>mH (fo p1 p2 k2) x3 (!r3))))) (BU)
def rZ(p1 p2:aj):OB:=fo p1 p2 aH 0
def kz(p1 p2:aj):Nat→Int→OB
 |0,_=>none
 |k1+1,x2=>ak (decide (x2<(p1.part.length:Int))) (am (at? p1.part x2) fun e1=>am (at? p2.part x2) fun e2=>am (fc aH e1 e2) fun r1=>ak (!r1) (some false) ((kz p1 p2 k1) (i64.wrap (x2+1)))) (rZ p1 p2)
def fj(p1 p2:aj)(x1:Bool):OB:=ak x1 (some false) (kz p1 p2 aH 0)
def tF(p1 p2:aj):OB:=ak (!(p1.name.toList==p2.name.toList)) (fj p1 p2 true) (ak (p1.schema != p2.schema) (fj p1 p2 true) (ak (p1.spec != p2.spec) (fj p1 p2 true) (ak (p1.rows != p2.rows) (fj p1 p2 true) (ak ((p1.part.length:Int) != (p2.part.length:Int)) (fj p1 p2 true) (fj p1 p2 ((p1.stats.length:Int) != (p2.stats.length:Int)))))))
theorem IY(p1 p2:aj):CT prog 41 [mF p1,mF p2] (tF p1 p2) vb:=
  cI 117 [7,8] f41 fun r=>(cu f41 12 2 fun K k=>have J1:∀{x1},fj p1 p2 x1=some r→K.p [(2,vR (gv p1)),(3,vR (gv p2)),(52,vb x1)] []:=fun{x1} h=>k h (uC uz (kT f41 14 1 (rZ p1 p2) [(2,vR (gv p1)),(3,vR (gv p2))] [] (kT f41 30 1 BU [] [] uz fun K J4=>(uN cA p1.stats (gc f41 122 1 fun R b=>have L2:∀k2 {x3},fo p1 p2 k2 x3=some r→(R k2).p [(2,vR (gv p1)),(3,vR (gv p2)),(74,vi p1.stats.length),(75,vi x3)] []:=uI (fW rfl) fun k2 i2 {x3} h=>b h (uU (fo.eq_2 ..) (uC (KJ 13 2 [0,1,2] (dS cA fun e3=>(dS cA fun e4=>(cu f41 31334 3 fun K k=>have J3:∀{x4},mH (fo p1 p2 k2) x3 x4=some r→K.p [(2,vR (gv p1)),(3,vR (gv p2)),(74,vi p1.stats.length),(75,vi x3),(115,vb x4)] [.dead,.dead]:=fun{x4} h=>k h (uC jX (uJ i2));(uC (uJ J3) (uC (uJ J3) (aV (vj aH _ _) fun r2=>(uC (uJ J3) (aV (vj aH _ _) fun r3=>(uJ J3)))))))))) (uR (.exit 2) (xM (uJ J4)))));uE (L2 aH)))) fun K J2=>(uN ah p1.part (gc f41 58 1 fun R b=>have L1:∀k1 {x2},kz p1 p2 k1 x2=some r→(R k1).p [(2,vR (gv p1)),(3,vR (gv p2)),(55,vi p1.part.length),(56,vi x2)] []:=uI (fW rfl) fun k1 i1 {x2} h=>b h (uU (kz.eq_2 ..) (uC (nt 10 (dS ah fun e1=>(dS ah fun e2=>(aV (vj aH _ _) fun r1=>(uC jX (uJ i1)))))) (uR (.exit 0) (xM (uJ J2)))));uE (L1 aH)))));(uC (uJ J1) (uC (uJ J1) (uC (uJ J1) (uC (uJ J1) (uN ah p1.part (uN ah p2.part (uC (uJ J1) (uN cA p1.stats (uN cA p2.stats (uJ J1)))))))))))
def yz(rec1:Int→Option (aw×Bool))(x1:Int)(e1:aw)(x2:Bool):Option (aw×Bool):=ak x2 (some (e1,true)) (rec1 (i64.wrap (x1+1)))
def F4:Option (aw×Bool):=some ((aw.mk 0 0 0 0 0 0 [] [] []),false)
def lY(p1:ax)(p2:Int):Nat→Int→Option (aw×Bool)
 |0,_=>none
 |k1+1,x1=>ak (decide (x1<(p1.snapshots.length:Int))) (am (at? p1.snapshots x1) fun e1=>ak (e1.id==p2) (yz (lY p1 p2 k1) x1 e1 (decide (0<p2))) (yz (lY p1 p2 k1) x1 e1 false)) (F4)
def Ee(p1:ax)(p2:Int):Option (aw×Bool):=lY p1 p2 aH 0
abbrev QS:List CV:=[ci (0:Int),ci (0:Int),ci (0:Int),ci (0:Int),ci (0:Int),ci (0:Int),.pv (.s (.slice none 0 0)),.pv (.s (.slice none 0 0)),.pv (.s (.slice none 0 0))]
theorem OT(p1:ax)(p2:Int):CT prog 33 [mM p1,vi p2] (Ee p1 p2) (fun r=> .tp [mS r.1,vb r.2]):=
  cI 26 [4,7] f33 fun r=>(kT f33 6 1 F4 [(4,vQ 0)] [.box QS] uz fun K J2=>(uN aU p1.snapshots (gc f33 26 1 fun R b=>have L1:∀k1 {x1},lY p1 p2 k1 x1=some r→(R k1).p [(1,vi p2),(4,vQ 0),(9,vl aU p1.snapshots),(10,vi p1.snapshots.length),(11,vi x1)] [.box QS]:=uI (fW rfl) fun k1 i1 {x1} h=>b h (uU (lY.eq_2 ..) (uC (dS aU fun e1=>(cu f33 3378 3 fun K k=>have J1:∀{x2},yz (lY p1 p2 k1) x1 e1 x2=some r→K.p [(1,vi p2),(4,vQ 0),(7,vQ 1),(9,vl aU p1.snapshots),(10,vi p1.snapshots.length),(11,vi x1),(22,vb x2)] [.box QS,.box [ci e1.id,ci e1.parent,ci e1.seq,ci e1.schema,ci e1.time,ci e1.kind,cl be e1.files,cl fL e1.dat,cl eH e1.dby]]:=fun{x2} h=>k h (uC jX (uJ i1));(uC (uJ J1) (uJ J1)))) (uR (.exit 0) (xM (uJ J2)))));uE (L1 aH))))
def D6(p1:ByteArray):OB:=am (uf (ac.mk 4 0 0 p1 [])) fun r1=>some r1
theorem Iy(p1:ByteArray):CT prog 43 [vs p1] (D6 p1) vb:=
  cI 6 [] f43 fun r=>(aV (yN _) fun r1=>uz)
def Bc(rec1:Int→OI)(x3:Int):OI:=rec1 (i64.wrap (x3+1))
def oq(rec1:Int→OI)(p1:ax)(x3:Int)(e1:List ae):Nat→Int→OI
 |0,_=>none
 |k3+1,x5=>ak (decide (x5<x3)) (am (at? p1.schemas x5) fun e3=>am (tV e3 e1) fun r8=>ak (r8.2 != 0) (some r8.2) ((oq rec1 p1 x3 e1 k3) (i64.wrap (x5+1)))) (Bc rec1 x3)
def xi(rec1:Int→OI)(p1:ax)(x3:Int)(e1:List ae):OI:=oq rec1 p1 x3 e1 aH 0
def oe(rec1:Int→OI)(p1:ax)(x3:Int)(e1:List ae)(r7:List Int):Nat→Int→OI
 |0,_=>none
 |k2+1,x4=>ak (decide (x4<(r7.length:Int))) (am (at? r7 x4) fun e2=>ak (decide (p1.nextField≤e2)) (some 3) ((oe rec1 p1 x3 e1 r7 k2) (i64.wrap (x4+1)))) (xi rec1 p1 x3 e1)
def xg(rec7:Int→OI)(x9:Int)(x10:Bool):OI:=ak x10 (some 5) (rec7 (i64.wrap (x9+1)))
def AY(rec6:Int→OI)(x8:Int):OI:=rec6 (i64.wrap (x8+1))
def kK(rec6:Int→OI)(e5:aw)(x8:Int)(e6:aw):Nat→Int→OI
 |0,_=>none
 |k7+1,x9=>ak (decide (x9<(e5.files.length:Int))) (am (at? e5.files x9) fun e7=>am (BQ e6 e7.name) fun r11=>ak r11.2 (am (tF e7 r11.1) fun r12=>xg (kK rec6 e5 x8 e6 k7) x9 (!r12)) (xg (kK rec6 e5 x8 e6 k7) x9 false)) (AY rec6 x8)
def A6(rec5:Int→OI)(x7:Int):OI:=rec5 (i64.wrap (x7+1))
def gZ(rec5:Int→OI)(p1:ax)(x7:Int)(e5:aw):Nat→Int→OI
 |0,_=>none
 |k6+1,x8=>am (some (decide (x8<(((p1.snapshots.drop (0:Int).toNat).take (x7.toNat-(0:Int).toNat)).length:Int)))) fun y1=>ak y1 (am (at? ((p1.snapshots.drop (0:Int).toNat).take (x7.toNat-(0:Int).toNat)) x8) fun e6=>kK (gZ rec5 p1 x7 e5 k6) e5 x8 e6 aH 0) (A6 rec5 x7)
def qW(rec8:Int→OI)(x11:Int)(x13:Bool):OI:=ak x13 (some 9) (rec8 (i64.wrap (x11+1)))
def v8(rec8:Int→OI)(p1:ax)(x11:Int)(e8:lq):OI:=am (Ee p1 e8.snapshot) fun r14=>ak (!r14.2) (ak e8.branch (qW rec8 x11 (!(e8.snapshot==0))) (qW rec8 x11 true)) (qW rec8 x11 false)
def oa(rec8:Int→OI)(p1:ax)(x11:Int)(e8:lq):Nat→Int→OI
 |0,_=>none
 |k9+1,x12=>ak (decide (x12<x11)) (am (at? p1.refs x12) fun e9=>ak (e9.name.toList==e8.name.toList) (some 5) ((oa rec8 p1 x11 e8 k9) (i64.wrap (x12+1)))) (v8 rec8 p1 x11 e8)
def rq(rec10:Int→OI)(x14:Int)(x15:Bool):OI:=ak x15 (some 1) (rec10 (i64.wrap (x14+1)))
def D1:OI:=some 0
def iK(p1:ax):Nat→Int→OI
 |0,_=>none
 |k10+1,x14=>ak (decide (x14<(p1.props.length:Int))) (am (at? p1.props x14) fun e10=>am (yR e10.name) fun r15=>ak (!r15) (some 4) (ak (decide (0<x14)) (am (at? p1.props (i64.wrap (x14-1))) fun e11=>am (some (Op.bytesLess e10.name.toList e11.name.toList||e10.name.toList==e11.name.toList)) fun y2=>ak y2 (rq (iK p1 k10) x14 true) (am (D6 e10.value) fun r16=>rq (iK p1 k10) x14 (!r16))) (am (D6 e10.value) fun r17=>rq (iK p1 k10) x14 (!r17)))) (D1)
def wa(p1:ax):OI:=iK p1 aH 0
def gU(p1:ax):Nat→Int→OI
 |0,_=>none
 |k8+1,x11=>ak (decide (x11<(p1.refs.length:Int))) (am (at? p1.refs x11) fun e8=>am (yR e8.name) fun r13=>ak (!r13) (some 4) (oa (gU p1 k8) p1 x11 e8 aH 0)) (wa p1)
def o6(p1:ax):OI:=gU p1 aH 0
def eo(p1:ax):Nat→Int→OI
 |0,_=>none
 |k5+1,x7=>ak (decide (x7<(p1.snapshots.length:Int))) (am (at? p1.snapshots x7) fun e5=>iN (0≤(0:Int)∧(0:Int)≤x7∧x7≤(p1.snapshots.length:Int))<|gZ (eo p1 k5) p1 x7 e5 aH (0:Int)) (o6 p1)
def tq(p1:ax):OI:=eo p1 aH 0
def ml(p1:ax):Nat→Int→Int→Int→Int→Int→Int→List aj→List mI→List cX→Int→OI
 |0,_,_,_,_,_,_,_,_,_,_=>none
 |k4+1,z1,z2,z3,z4,z5,z6,z7,z8,z9,x6=>ak (decide (x6<(p1.snapshots.length:Int))) (am (at? p1.snapshots x6) fun e4=>am (ng p1 e4 (aw.mk z1 z2 z3 z4 z5 z6 z7 z8 z9)) fun r10=>ak (r10 != 0) (some r10) ((ml p1 k4) e4.id e4.parent e4.seq e4.schema e4.time e4.kind e4.files e4.dat e4.dby (i64.wrap (x6+1)))) (tq p1)
def xn(p1:ax):OI:=am (tP p1) fun r9=>ak (r9 != 0) (some r9) (ml p1 aH 0 0 0 0 0 0 [] [] [] 0)
def eu(p1:ax):Nat→Int→OI
 |0,_=>none
 |k1+1,x3=>ak (decide (x3<(p1.schemas.length:Int))) (am (at? p1.schemas x3) fun e1=>am (ic e1) fun r6=>ak (r6 != 0) (some r6) (am (rx aH e1) fun r7=>oe (eu p1 k1) p1 x3 e1 r7 aH 0)) (xn p1)
def om(p1:ax)(x2:Bool):OI:=ak x2 (some 3) (eu p1 aH 0)
def tC(p1:ax)(x1:Bool):OI:=ak x1 (some 9) (am (eg p1.nextField 1 1099511627776) fun r2=>ak (!r2) (om p1 true) (am (eg p1.nextSeq 1 1099511627776) fun r3=>ak (!r3) (om p1 true) (am (eg p1.nextSnap 1 1099511627776) fun r4=>ak (!r4) (om p1 true) (am (eg p1.purges 0 1099511627776) fun r5=>om p1 (!r5)))))
def zW(p1:ax):OI:=am (Cx p1) fun r1=>ak r1 (some 7) (ak ((p1.schemas.length:Int)==0) (tC p1 true) (tC p1 ((p1.specs.length:Int)==0)))
abbrev M1(p1:ax):Fr:=[(1,.one (.pv (.rp [(bH p1)] 0 0)))]
abbrev Wr(p1:ax)(x7:Int):Fr:=[(1,.one (.pv (.rp [(bH p1)] 0 0))),(132,vl aU p1.snapshots),(133,vi (p1.snapshots.length:Int)),(134,vi x7)]
abbrev Vv(p1:ax)(x7 x8:Int):Fr:=[(1,.one (.pv (.rp [(bH p1)] 0 0))),(17,.one (.pt 1 0 0 0)),(132,vl aU p1.snapshots),(133,vi (p1.snapshots.length:Int)),(134,vi x7),(142,vl aU ((p1.snapshots.drop (0:Int).toNat).take (x7.toNat-(0:Int).toNat))),(143,vi (((p1.snapshots.drop (0:Int).toNat).take (x7.toNat-(0:Int).toNat)).length:Int)),(144,vi x8)]
abbrev UP(p1:ax)(x3:Int):Fr:=[(1,.one (.pv (.rp [(bH p1)] 0 0))),(66,vl (eL af) p1.schemas),(67,vi (p1.schemas.length:Int)),(68,vi x3)]
theorem Nm(p1:ax):CT prog 11 [mM p1] (zW p1) vi:=
  cI 251 [12,14,17,19,21,22,25,27,30] f11 fun r=>(aV (Mw _) fun r1=>(uC' (fun b5=>uz) (fun b5=>(cu f11 28 2 fun K k=>have J1:∀{x1},tC p1 x1=some r→K.p [(1,vR (bH p1)),(42,vb x1)] []:=fun{x1} h=>k h (uC' (fun b10=>uz) (fun b10=>(cu f11 60 2 fun K k=>have J2:∀{x2},om p1 x2=some r→K.p [(1,vR (bH p1)),(64,vb x2)] []:=fun{x2} h=>k h (uC uz (kT f11 62 1 (xn p1) (M1 p1) [] (aV (FY _) fun r9=>(uC uz (kT f11 510 1 (tq p1) (M1 p1) [.dead] (kT f11 1022 1 (o6 p1) (M1 p1) [.dead] (kT f11 2046 1 (wa p1) (M1 p1) [.dead] (kT f11 4094 1 D1 [] [.dead] uz fun K J15=>(uN lE p1.props (gc f11 16378 1 fun R b=>have L10:∀k10 {x14},iK p1 k10 x14=some r→(R k10).p [(1,vR (bH p1)),(219,vl lE p1.props),(220,vi p1.props.length),(221,vi x14)] [.dead]:=uI (fW rfl) fun k10 i10 {x14} h=>b h (uU (iK.eq_2 ..) (uC (dS lE fun e10=>(aV (Dk _) fun r15=>(uC jX (cu f11 4192870 3 fun K k=>have J14:∀{x15},rq (iK p1 k10) x14 x15=some r→K.p [(1,vR (bH p1)),(219,vl lE p1.props),(220,vi p1.props.length),(221,vi x14),(249,vb x15)] [.dead,.dead]:=fun{x15} h=>k h (uC jX (uJ i10));(nt 12 (uC (dS lE fun e11=>(uY 242 vb fun y2=>(uC (uJ J14) (aV (Iy _) fun r16=>(uJ J14))))) (aV (Iy _) fun r17=>(uJ J14)))))))) (uR (.exit 18) (xM (uJ J15)))));uE (L10 aH)))) fun K J13=>(uN oS p1.refs (gc f11 8186 1 fun R b=>have L8:∀k8 {x11},gU p1 k8 x11=some r→(R k8).p [(1,vR (bH p1)),(173,vl oS p1.refs),(174,vi p1.refs.length),(175,vi x11)] [.dead]:=uI (fW rfl) fun k8 i8 {x11} h=>b h (uU (gU.eq_2 ..) (uC (dS oS fun e8=>(aV (Dk _) fun r13=>(uC jX (kT f11 2095718 3 (v8 (gU p1 k8) p1 x11 e8) [(1,vR (bH p1)),(25,vQ 1),(173,vl oS p1.refs),(174,vi p1.refs.length),(175,vi x11)] [.dead,.box [qm e8.name,cb e8.branch,ci e8.snapshot]] (aV (OT _ _) fun r14=>(cu f11 8382878 3 fun K k=>have J12:∀{x13},qW (gU p1 k8) x11 x13=some r→K.p [(1,vR (bH p1)),(173,vl oS p1.refs),(174,vi p1.refs.length),(175,vi x11),(216,vb x13)] [.dead,.dead,.dead]:=fun{x13} h=>k h (uC jX (uJ i8));(uC (uC (uJ J12) (uJ J12)) (uJ J12)))) fun K J11=>(gc f11 8382874 1 fun R b=>have L9:∀k9 {x12},oa (gU p1 k8) p1 x11 e8 k9 x12=some r→(R k9).p [(1,vR (bH p1)),(24,vi x11),(25,vQ 1),(26,vi x12),(173,vl oS p1.refs),(174,vi p1.refs.length),(175,vi x11)] [.dead,.box [qm e8.name,cb e8.branch,ci e8.snapshot]]:=uI (fW rfl) fun k9 i9 {x12} h=>b h (uU (oa.eq_2 ..) (uC (nt 8 (dS oS fun e9=>(uC (uR .ret (xN (xN (xN (xN xF))))) (uJ i9)))) (uR (.exit 16) (xM (uJ J11)))));uE (L9 aH)))))) (uR (.exit 14) (xM (uJ J13)))));uE (L8 aH)))) fun K J10=>(uN aU p1.snapshots (gc f11 4090 1 fun R b=>have L5:∀k5 {x7},eo p1 k5 x7=some r→(R k5).p (Wr p1 x7) [.dead]:=uI (fW rfl) fun k5 i5 {x7} h=>b h (uU (eo.eq_2 ..) (uC (kT f11 65446 1 (A6 (eo p1 k5) x7) (Wr p1 x7) [.dead] (uJ i5) fun K J9=>(dS aU fun e5=>(uX aU (uN aU ((p1.snapshots.drop (0:Int).toNat).take (x7.toNat-(0:Int).toNat)) (gc f11 1047142 2 fun R b=>have L6:∀k6 {x8},gZ (eo p1 k5) p1 x7 e5 k6 x8=some r→(R k6).p (Vv p1 x7 x8) [.dead,.box (Be e5)]:=uI (fW rfl) fun k6 i6 {x8} h=>b h (uU (gZ.eq_2 ..) (uY 145 vb fun y1=>(uC (kT f11 16754278 1 (AY (gZ (eo p1 k5) p1 x7 e5 k6) x8) (Vv p1 x7 x8) [.dead,.box (Be e5)] (uJ i6) fun K J8=>(dS aU fun e6=>(uN be e5.files (gc f11 268068454 2 fun R b=>have L7:∀k7 {x9},kK (gZ (eo p1 k5) p1 x7 e5 k6) e5 x8 e6 k7 x9=some r→(R k7).p [(1,vR (bH p1)),(17,vQ 1),(19,vQ 2),(132,vl aU p1.snapshots),(133,vi p1.snapshots.length),(134,vi x7),(142,vl aU ((p1.snapshots.drop (0:Int).toNat).take (x7.toNat-(0:Int).toNat))),(143,vi (((p1.snapshots.drop (0:Int).toNat).take (x7.toNat-(0:Int).toNat)).length:Int)),(144,vi x8),(149,vl be e5.files),(150,vi e5.files.length),(151,vi x9)] [.dead,.box (Be e5),.box (Be e6)]:=uI (fW rfl) fun k7 i7 {x9} h=>b h (uU (kK.eq_2 ..) (uC (dS be fun e7=>(aV (Ip _ _) fun r11=>(cu f11 68625524326 3 fun K k=>have J7:∀{x10},xg (kK (gZ (eo p1 k5) p1 x7 e5 k6) e5 x8 e6 k7) x9 x10=some r→K.p [(1,vR (bH p1)),(17,vQ 1),(19,vQ 2),(132,vl aU p1.snapshots),(133,vi p1.snapshots.length),(134,vi x7),(142,vl aU ((p1.snapshots.drop (0:Int).toNat).take (x7.toNat-(0:Int).toNat))),(143,vi (((p1.snapshots.drop (0:Int).toNat).take (x7.toNat-(0:Int).toNat)).length:Int)),(144,vi x8),(149,vl be e5.files),(150,vi e5.files.length),(151,vi x9),(168,vb x10)] [.dead,.box (Be e5),.box (Be e6),.dead,.dead]:=fun{x10} h=>k h (uC (uR .ret (xN (xN (xN (xN (xN (xN xF))))))) (uJ i7));(uC (aV (IY _ _) fun r12=>(uJ J7)) (uJ J7))))) (uR (.exit 12) (xM (uJ J8)))));uE (L7 aH))))) (uR (.exit 10) (xM (uJ J9))))));uE (L6 aH)))))) (uR (.exit 8) (xM (uJ J10)))));uE (L5 aH)))) fun K J6=>(uN aU p1.snapshots (Jw (.sb 0 6) (Jw (.sb 0 7) (Jw (.sb 0 8) (gc f11 2042 1 fun R b=>have L4:∀k4 {z1 z2 z3 z4 z5 z6 z7 z8 z9 x6},ml p1 k4 z1 z2 z3 z4 z5 z6 z7 z8 z9 x6=some r→(R k4).p [(1,vR (bH p1)),(12,vQ 0),(116,vl aU p1.snapshots),(117,vi p1.snapshots.length),(118,vi x6)] [.box [ci z1,ci z2,ci z3,ci z4,ci z5,ci z6,cl be z7,cl fL z8,cl eH z9]]:=uI (fW rfl) fun k4 i4 {z1 z2 z3 z4 z5 z6 z7 z8 z9 x6} h=>b h (uU (ml.eq_2 ..) (uC (dS aU fun e4=>(aV (CZ _ _ _) fun r10=>(uC jX (uJ i4)))) (uR (.exit 6) (xM (uJ J6)))));uE (L4 aH))))))))) fun K J5=>(uN (eL af) p1.schemas (gc f11 250 1 fun R b=>have L1:∀k1 {x3},eu p1 k1 x3=some r→(R k1).p (UP p1 x3) []:=uI (fW rfl) fun k1 i1 {x3} h=>b h (uU (eu.eq_2 ..) (uC (kT f11 4006 1 (Bc (eu p1 k1) x3) (UP p1 x3) [] (uJ i1) fun K J4=>(dS (eL af) fun e1=>(aV (ni _) fun r6=>(uC (uR .ret (xN (xN (xN xF)))) (kT f11 64102 2 (xi (eu p1 k1) p1 x3 e1) [(1,vR (bH p1)),(3,vi x3),(4,vl af e1),(66,vl (eL af) p1.schemas),(67,vi p1.schemas.length),(68,vi x3)] [] (gc f11 256414 2 fun R b=>have L3:∀k3 {x5},oq (eu p1 k1) p1 x3 e1 k3 x5=some r→(R k3).p [(1,vR (bH p1)),(3,vi x3),(4,vl af e1),(8,vi x5),(66,vl (eL af) p1.schemas),(67,vi p1.schemas.length),(68,vi x3)] []:=uI (fW rfl) fun k3 i3 {x5} h=>b h (uU (oq.eq_2 ..) (uC (dS (eL af) fun e3=>(uPn (FT _ _) fun r8 _=>(uC (uR .ret (xN (xN (xN (xN xF))))) (uJ i3)))) (uR (.exit 4) (xM (uJ J4)))));uE (L3 aH)) fun K J3=>(aV (Fm aH _) fun r7=>(uN eI r7 (gc f11 256410 1 fun R b=>have L2:∀k2 {x4},oe (eu p1 k1) p1 x3 e1 r7 k2 x4=some r→(R k2).p [(1,vR (bH p1)),(3,vi x3),(4,vl af e1),(66,vl (eL af) p1.schemas),(67,vi p1.schemas.length),(68,vi x3),(79,vl eI r7),(80,vi r7.length),(81,vi x4)] []:=uI (fW rfl) fun k2 i2 {x4} h=>b h (uU (oe.eq_2 ..) (uC (dS eI fun e2=>(uC (uR .ret (xN (xN (xN (xN (xN xF)))))) (uJ i2))) (uR (.exit 2) (xM (uJ J3)))));uE (L2 aH))))))))) (uR (.exit 0) (xM (uJ J5)))));uE (L1 aH)))));(aV (dP _ _ _) fun r2=>(uC (uJ J2) (aV (dP _ _ _) fun r3=>(uC (uJ J2) (aV (dP _ _ _) fun r4=>(uC (uJ J2) (aV (dP _ _ _) fun r5=>(uJ J2)))))))))));(uN (eL af) p1.schemas (uC (uJ J1) (uN fU p1.specs (uJ J1))))))))
def xh(p1:ac)(z1:Int):Option ac:=some (ac.mk z1 p1.n p1.scale p1.s p1.items)
def ry(p1:ac)(p2:al):Option ac:=ak (p1.kind != 0) (xh p1 p2.kind) (xh p1 p1.kind)
theorem My(p1:ac)(p2:al):CT prog 137 [mV p1,mT p2] (ry p1 p2) (fun r=>mV r):=
  cI 12 [2,4] f137 fun r=>(cu f137 6 1 fun K k=>have J1:∀{z1},xh p1 z1=some r→K.p [(2,vQ 0),(4,vQ 1)] [.box [ci z1,ci p1.n,ci p1.scale,qm p1.s,cl ah p1.items],.box [ci (0:Int),ci (0:Int),ci (0:Int),qm ByteArray.empty,.pv (.s (.slice none 0 0))]]:=fun{z1} h=>k h uz;(uC (uJ J1) (uJ J1)))
def AR(x3:List Int)(z1:Bool):Option dj:=some (dj.mk z1 x3)
def Du(p1:Bool)(x3:List Int):Option dj:=ak p1 (AR x3 (decide (0<(x3.length:Int)))) (AR x3 false)
def uw(rec1:List Int→Option dj)(p1:Bool)(x1:List Int)(x2:Bool):Option dj:=ak x2 (iN (0≤(0:Int)∧(0:Int)≤(i64.wrap ((x1.length:Int)-(1:Int)))∧(i64.wrap ((x1.length:Int)-(1:Int)))≤(x1.length:Int))<|rec1 ((x1.drop (0:Int).toNat).take ((i64.wrap ((x1.length:Int)-(1:Int))).toNat-(0:Int).toNat))) (Du p1 x1)
def nO(p1:Bool):Nat→List Int→Option dj
 |0,_=>none
 |k1+1,x1=>ak (decide (0<(x1.length:Int))) (am (at? x1 (i64.wrap ((x1.length:Int)-1))) fun e1=>uw (nO p1 k1) p1 x1 (e1==0)) (uw (nO p1 k1) p1 x1 false)
def sV(p1:Bool)(p2:List Int):Option dj:=nO p1 aH p2
theorem wF(p1:Bool)(p2:List Int):CT prog 291 [vb p1,vl eI p2] (sV p1 p2) (fun r=> .ag [cb r.below,cl eI r.d]):=
  cI 30 [4] f291 fun r=>(cu f291 6 1 fun K k=>have J2:∀{x3},Du p1 x3=some r→K.p [(0,vb p1),(1,vl eI x3),(4,vQ 0)] [.box Hj]:=fun{x3} h=>k h (cu f291 14 1 fun K k=>have J3:∀{z1},AR x3 z1=some r→K.p [(4,vQ 0)] [.box [cb z1,cl eI x3]]:=fun{z1} h=>k h uz;(uC (uN eI x3 (uJ J3)) (uJ J3)));(gc f291 12 1 fun R b=>have L1:∀k1 {x1},nO p1 k1 x1=some r→(R k1).p [(0,vb p1),(1,vl eI x1),(4,vQ 0)] [.box Hj]:=uI (fW rfl) fun k1 i1 {x1} h=>b h (uU (nO.eq_2 ..) (cu f291 96 2 fun K k=>have J1:∀{x2},uw (nO p1 k1) p1 x1 x2=some r→K.p [(0,vb p1),(1,vl eI x1),(4,vQ 0),(16,vb x2)] [.box Hj]:=fun{x2} h=>k h (uC (uN eI x1 (uX eI (uJ i1))) (uR (.exit 0) (xM (uJ J2))));(uN eI x1 (uC (uN eI x1 (dS eI fun e1=>(uJ J1))) (uJ J1)))));uE (L1 aH)))
def xT(rec1:List Int→Int→Option dj)(x1:Int)(l3:List Int):Option dj:=rec1 l3 (i64.wrap (x1+1))
def lG(rec1:List Int→Int→Option dj)(p2:dj)(x1 e1:Int):Nat→List Int→Int→Option dj
 |0,_,_=>none
 |k2+1,l2,x2=>ak (decide (x2<(p2.d.length:Int))) (am (at? p2.d x2) fun e2=>am (at? l2 (i64.wrap (x1+x2))) fun e3=>(lG rec1 p2 x1 e1 k2) (l2.set (i64.wrap (x1+x2)).toNat (i64.wrap (e3+(i64.wrap (e1*e2))))) (i64.wrap (x2+1))) (xT rec1 x1 l2)
def tJ(p1 p2:dj)(l6:List Int):Option dj:=am (sV (!(p1.below==p2.below)) l6) fun r1=>some r1
def lM(p1 p2:dj):Nat→List Int→Int→Option dj
 |0,_,_=>none
 |k3+1,l5,x3=>am (some (decide ((i64.wrap (x3+1))<((l5.length:Nat):Int)))) fun y2=>ak y2 (am (at? l5 (i64.wrap (x3+1))) fun e4=>am (at? l5 x3) fun e5=>am (at? (l5.set (i64.wrap (x3+1)).toNat (i64.wrap (e4+(i64.wrap (e5.tdiv 10))))) x3) fun e6=>(lM p1 p2 k3) ((l5.set (i64.wrap (x3+1)).toNat (i64.wrap (e4+(i64.wrap (e5.tdiv 10))))).set x3.toNat (e6.tmod 10)) (i64.wrap (x3+1))) (tJ p1 p2 l5)
def tL(p1 p2:dj)(l4:List Int):Option dj:=lM p1 p2 aH l4 0
def gR(p1 p2:dj):Nat→List Int→Int→Option dj
 |0,_,_=>none
 |k1+1,l1,x1=>ak (decide (x1<(p1.d.length:Int))) (am (at? p1.d x1) fun e1=>lG (gR p1 p2 k1) p2 x1 e1 aH l1 0) (tL p1 p2 l1)
def yA(p1 p2:dj):Option dj:=am (some (i64.wrap ((i64.wrap ((p1.d.length:Int)+(p2.d.length:Int)))+1))) fun y1=>iN (0≤y1∧y1≤y1∧y1≤4294967296)<|gR p1 p2 aH (List.replicate y1.toNat (0:Int)) 0
theorem JC(p1 p2:dj):CT prog 294 [.ag [cb p1.below,cl eI p1.d],.ag [cb p2.below,cl eI p2.d]] (yA p1 p2) (fun r=> .ag [cb r.below,cl eI r.d]):=
  cI 81 [4] f294 fun r=>(uN eI p1.d (uN eI p2.d (uY 18 vi fun y1=>(uMk eI (0:Int) (cu f294 14 1 fun K k=>have J2:∀{l4},tL p1 p2 l4=some r→K.p [(2,vR [.s (.bool p1.below),.ro (eI.els p1.d)]),(3,vR [.s (.bool p2.below),.ro (eI.els p2.d)]),(4,vQ 0),(5,.one (.sl 1 1 0 l4.length))] [.box [cb false,.pv (.s (.slice none 0 0))],.arr 1 (eI.els l4)]:=fun{l4} h=>k h (cu f294 30 1 fun K k=>have J3:∀{l6},tJ p1 p2 l6=some r→K.p [(2,vR [.s (.bool p1.below),.ro (eI.els p1.d)]),(3,vR [.s (.bool p2.below),.ro (eI.els p2.d)]),(4,vQ 0),(5,.one (.sl 1 1 0 l6.length))] [.box [cb false,.pv (.s (.slice none 0 0))],.arr 1 (eI.els l6)]:=fun{l6} h=>k h (LY eI l6 1 [79] (aV (wF _ _) fun r1=>uz));(gc f294 122 1 fun R b=>have L3:∀k3 {l5 x3},lM p1 p2 k3 l5 x3=some r→(R k3).p [(2,vR [.s (.bool p1.below),.ro (eI.els p1.d)]),(3,vR [.s (.bool p2.below),.ro (eI.els p2.d)]),(4,vQ 0),(5,.one (.sl 1 1 0 l5.length)),(10,vi x3)] [.box [cb false,.pv (.s (.slice none 0 0))],.arr 1 (eI.els l5)]:=uI (fW rfl) fun k3 i3 {l5 x3} h=>b h (uU (lM.eq_2 ..) (uY 53 vb fun y2=>(uC (nt 10 (VH eI 1 fun e4 a30=>(Yq eI a30 (VH eI 1 fun e5 a31=>(Yq eI a31 (uIb eI 1 a30 (uSt eI 1 a30 (i64.wrap (e4+(i64.wrap (e5.tdiv (10:Int))))) (VH (L:=l5.length) (hL:=by simp) eI 1 fun e6 a32=>(Yq eI a32 (uIb (L:=l5.length) (hL:=by simp) eI 1 a32 (uSt eI 1 a32 (e6.tmod (10:Int)) (Ya 1 (show l5.length=((l5.set (i64.wrap (x3+1)).toNat (i64.wrap (e4+(i64.wrap (e5.tdiv (10:Int)))))).set x3.toNat (e6.tmod (10:Int))).length by simp) (uJ i3))))))))))))) (uR (.exit 4) (xM (uJ J3))))));uE (L3 aH)));(uN eI p1.d (Ya 1 (show y1.toNat=(List.replicate y1.toNat (0:Int)).length by simp) (gc f294 58 1 fun R b=>have L1:∀k1 {l1 x1},gR p1 p2 k1 l1 x1=some r→(R k1).p [(2,vR [.s (.bool p1.below),.ro (eI.els p1.d)]),(3,vR [.s (.bool p2.below),.ro (eI.els p2.d)]),(4,vQ 0),(5,.one (.sl 1 1 0 l1.length)),(21,vl eI p1.d),(22,vi p1.d.length),(23,vi x1)] [.box [cb false,.pv (.s (.slice none 0 0))],.arr 1 (eI.els l1)]:=uI (fW rfl) fun k1 i1 {l1 x1} h=>b h (uU (gR.eq_2 ..) (uC (cu f294 934 1 fun K k=>have J1:∀{l3},xT (gR p1 p2 k1) x1 l3=some r→K.p [(2,vR [.s (.bool p1.below),.ro (eI.els p1.d)]),(3,vR [.s (.bool p2.below),.ro (eI.els p2.d)]),(4,vQ 0),(5,.one (.sl 1 1 0 l3.length)),(21,vl eI p1.d),(22,vi p1.d.length),(23,vi x1)] [.box [cb false,.pv (.s (.slice none 0 0))],.arr 1 (eI.els l3)]:=fun{l3} h=>k h (uJ i1);(dS eI fun e1=>(uN eI p2.d (gc f294 14950 2 fun R b=>have L2:∀k2 {l2 x2},lG (gR p1 p2 k1) p2 x1 e1 k2 l2 x2=some r→(R k2).p [(2,vR [.s (.bool p1.below),.ro (eI.els p1.d)]),(3,vR [.s (.bool p2.below),.ro (eI.els p2.d)]),(4,vQ 0),(5,.one (.sl 1 1 0 l2.length)),(6,vi x1),(7,vi e1),(21,vl eI p1.d),(22,vi p1.d.length),(23,vi x1),(29,vl eI p2.d),(30,vi p2.d.length),(31,vi x2)] [.box [cb false,.pv (.s (.slice none 0 0))],.arr 1 (eI.els l2)]:=uI (fW rfl) fun k2 i2 {l2 x2} h=>b h (uU (lG.eq_2 ..) (uC (dS eI fun e2=>(VH eI 1 fun e3 a21=>(Yq eI a21 (uIb eI 1 a21 (uSt eI 1 a21 (i64.wrap (e3+(i64.wrap (e1*e2)))) (Ya 1 (show l2.length=(l2.set (i64.wrap (x1+x2)).toNat (i64.wrap (e3+(i64.wrap (e1*e2))))).length by simp) (uJ i2))))))) (uR (.exit 2) (xM (uJ J1)))));uE (L2 aH))))) (uR (.exit 0) (xM (uJ J2)))));uE (L1 aH)))))))))
def Gt(z3:Bool)(z4:List Int):Option dj:=some (dj.mk z3 z4)
def pp(p1:Int):Nat→Bool→List Int→Int→Option dj
 |0,_,_,_=>none
 |k1+1,z1,z2,x1=>ak (decide (x1<p1)) (am (pf 256) fun r2=>am (yA (dj.mk z1 z2) r2) fun r3=>(pp p1 k1) r3.below r3.d (i64.wrap (x1+1))) (Gt z1 z2)
def BC(p1:Int):Option dj:=am (pf 128) fun r1=>pp p1 aH r1.below r1.d 1
theorem Iz(p1:Int):CT prog 267 [vi p1] (BC p1) (fun r=> .ag [cb r.below,cl eI r.d]):=
  cI 15 [2,3] f267 fun r=>(aV (xo _) fun r1=>(cu f267 14 1 fun K k=>have J1:∀{z3 z4},Gt z3 z4=some r→K.p [(2,vQ 0),(3,vQ 1)] [.box [cb false,.pv (.s (.slice none 0 0))],.box [cb z3,cl eI z4]]:=fun{z3 z4} h=>k h uz;(gc f267 58 1 fun R b=>have L1:∀k1 {z1 z2 x1},pp p1 k1 z1 z2 x1=some r→(R k1).p [(0,vi p1),(2,vQ 0),(3,vQ 1),(4,vi x1)] [.box [cb false,.pv (.s (.slice none 0 0))],.box [cb z1,cl eI z2]]:=uI (fW rfl) fun k1 i1 {z1 z2 x1} h=>b h (uU (pp.eq_2 ..) (uC (nt 2 (aV (xo _) fun r2=>(aV (JC _ _) fun r3=>(uJ i1)))) (uR (.exit 0) (xM (uJ J1)))));uE (L1 aH))))
def vC(rec1:List Int→Int→Int→Option (List Int))(l1:List Int)(x2 x5:Int):Option (List Int):=iN (l1.length+1≤4294967296)<|rec1 (l1++[(x5.tmod 10)]) (i64.wrap (x5.tdiv 10)) (i64.wrap (x2+1))
def vo(rec1:List Int→Int→Int→Option (List Int))(p2 l1:List Int)(x2 x4:Int):Option (List Int):=ak (decide (x2<(p2.length:Int))) (am (at? p2 x2) fun e2=>vC rec1 l1 x2 (i64.wrap (x4+e2))) (vC rec1 l1 x2 x4)
def GW(l2:List Int):Option (List Int):=some l2
def sF(rec1:List Int→Int→Int→Option (List Int))(p1 p2 l1:List Int)(x1 x2:Int)(x3:Bool):Option (List Int):=ak x3 (ak (decide (x2<(p1.length:Int))) (am (at? p1 x2) fun e1=>vo rec1 p2 l1 x2 (i64.wrap (x1+e1))) (vo rec1 p2 l1 x2 x1)) (GW l1)
def du(p1 p2:List Int):Nat→List Int→Int→Int→Option (List Int)
 |0,_,_,_=>none
 |k1+1,l1,x1,x2=>ak (decide (x2<(p1.length:Int))) (sF (du p1 p2 k1) p1 p2 l1 x1 x2 true) (ak (decide (x2<(p2.length:Int))) (sF (du p1 p2 k1) p1 p2 l1 x1 x2 true) (sF (du p1 p2 k1) p1 p2 l1 x1 x2 (decide (0<x1))))
def D3(p1 p2:List Int):Option (List Int):=du p1 p2 aH [] 0 0
theorem NG(p1 p2:List Int):CT prog 292 [vl eI p1,vl eI p2] (D3 p1 p2) (vl eI):=
  cI 54 [] f292 fun r=>(cu f292 30 1 fun K k=>have J4:∀{l2},GW l2=some r→K.p [(5,.one (.sl 0 1 0 l2.length))] [.arr 1 (eI.els l2)]:=fun{l2} h=>k h (LY eI l2 0 [4] uz);(Jw (.li 5 1) (gc f292 122 1 fun R b=>have L1:∀k1 {l1 x1 x2},du p1 p2 k1 l1 x1 x2=some r→(R k1).p [(0,vl eI p1),(1,vl eI p2),(5,.one (.sl 0 1 0 l1.length)),(6,vi x1),(7,vi x2)] [.arr 1 (eI.els l1)]:=uI (fW rfl) fun k1 i1 {l1 x1 x2} h=>b h (uU (du.eq_2 ..) (cu f292 976 2 fun K k=>have J1:∀{x3},sF (du p1 p2 k1) p1 p2 l1 x1 x2 x3=some r→K.p [(0,vl eI p1),(1,vl eI p2),(5,.one (.sl 0 1 0 l1.length)),(6,vi x1),(7,vi x2),(22,vb x3)] [.arr 1 (eI.els l1)]:=fun{x3} h=>k h (uC (cu f292 7826 3 fun K k=>have J2:∀{x4},vo (du p1 p2 k1) p2 l1 x2 x4=some r→K.p [(0,vl eI p1),(1,vl eI p2),(5,.one (.sl 0 1 0 l1.length)),(7,vi x2),(8,vi x4)] [.arr 1 (eI.els l1)]:=fun{x4} h=>k h (cu f292 15654 3 fun K k=>have J3:∀{x5},vC (du p1 p2 k1) l1 x2 x5=some r→K.p [(0,vl eI p1),(1,vl eI p2),(5,.one (.sl 0 1 0 l1.length)),(7,vi x2),(8,vi x5)] [.arr 1 (eI.els l1)]:=fun{x5} h=>k h (BY eI 0 [(x5.tmod (10:Int))] (uJ i1));(uN eI p2 (uC (dS eI fun e2=>(uJ J3)) (uJ J3))));(uN eI p1 (uC (dS eI fun e1=>(uJ J2)) (uJ J2)))) (uR (.exit 0) (xM (uJ J4))));(uN eI p1 (uC (uJ J1) (uN eI p2 (uC (uJ J1) (uJ J1)))))));uE (L1 aH))))
def wX(rec1:List Int→Int→Int→Option (List Int))(l1:List Int)(x2 x4 x5:Int):Option (List Int):=iN (l1.length+1≤4294967296)<|rec1 (l1++[x5]) x4 (i64.wrap (x2+1))
def tG(rec1:List Int→Int→Int→Option (List Int))(l1:List Int)(x2 x3:Int):Option (List Int):=ak (decide (x3<0)) (wX rec1 l1 x2 1 (i64.wrap (x3+10))) (wX rec1 l1 x2 0 x3)
def A1(l2:List Int):Option (List Int):=am (sV false l2) fun r1=>some r1.d
def ew(p1 p2:List Int):Nat→List Int→Int→Int→Option (List Int)
 |0,_,_,_=>none
 |k1+1,l1,x1,x2=>ak (decide (x2<(p1.length:Int))) (am (at? p1 x2) fun e1=>ak (decide (x2<(p2.length:Int))) (am (at? p2 x2) fun e2=>tG (ew p1 p2 k1) l1 x2 (i64.wrap ((i64.wrap (e1-x1))-e2))) (tG (ew p1 p2 k1) l1 x2 (i64.wrap (e1-x1)))) (A1 l1)
def ze(p1 p2:List Int):Option (List Int):=ew p1 p2 aH [] 0 0
theorem GZ(p1 p2:List Int):CT prog 293 [vl eI p1,vl eI p2] (ze p1 p2) (vl eI):=
  cI 42 [] f293 fun r=>(cu f293 30 1 fun K k=>have J3:∀{l2},A1 l2=some r→K.p [(5,.one (.sl 0 1 0 l2.length))] [.arr 1 (eI.els l2)]:=fun{l2} h=>k h (LY eI l2 0 [39] (aV (wF _ _) fun r1=>uz));(uN eI p1 (Jw (.li 5 1) (gc f293 122 1 fun R b=>have L1:∀k1 {l1 x1 x2},ew p1 p2 k1 l1 x1 x2=some r→(R k1).p [(0,vl eI p1),(1,vl eI p2),(5,.one (.sl 0 1 0 l1.length)),(6,vi x1),(10,vi p1.length),(11,vi x2)] [.arr 1 (eI.els l1)]:=uI (fW rfl) fun k1 i1 {l1 x1 x2} h=>b h (uU (ew.eq_2 ..) (uC (dS eI fun e1=>(cu f293 31334 3 fun K k=>have J1:∀{x3},tG (ew p1 p2 k1) l1 x2 x3=some r→K.p [(0,vl eI p1),(1,vl eI p2),(5,.one (.sl 0 1 0 l1.length)),(8,vi x3),(10,vi p1.length),(11,vi x2)] [.arr 1 (eI.els l1)]:=fun{x3} h=>k h (cu f293 125342 3 fun K k=>have J2:∀{x4 x5},wX (ew p1 p2 k1) l1 x2 x4 x5=some r→K.p [(0,vl eI p1),(1,vl eI p2),(5,.one (.sl 0 1 0 l1.length)),(6,vi x4),(8,vi x5),(10,vi p1.length),(11,vi x2)] [.arr 1 (eI.els l1)]:=fun{x4 x5} h=>k h (BY eI 0 [x5] (uJ i1));(uC (uJ J2) (uJ J2)));(uN eI p2 (uC (dS eI fun e2=>(uJ J1)) (uJ J1))))) (uR (.exit 0) (xM (uJ J3)))));uE (L1 aH)))))
def vI(p1 p2:dj):Option dj:=ak (p1.below==p2.below) (am (D3 p1.d p2.d) fun r1=>am (sV p1.below r1) fun r2=>some r2) (am (wH p1.d p2.d) fun r3=>ak (decide (0≤r3)) (am (ze p1.d p2.d) fun r4=>am (sV p1.below r4) fun r5=>some r5) (am (ze p2.d p1.d) fun r6=>am (sV p2.below r6) fun r7=>some r7))
theorem DW(p1 p2:dj):CT prog 266 [.ag [cb p1.below,cl eI p1.d],.ag [cb p2.below,cl eI p2.d]] (vI p1 p2) (fun r=> .ag [cb r.below,cl eI r.d]):=
  cI 40 [4] f266 fun r=>(uC (nt 7 (aV (NG _ _) fun r1=>(aV (wF _ _) fun r2=>uz))) (aV (Io _ _) fun r3=>(uC (nt 7 (aV (GZ _ _) fun r4=>(aV (wF _ _) fun r5=>uz))) (nt 7 (aV (GZ _ _) fun r6=>(aV (wF _ _) fun r7=>uz))))))
def wW(rec1:List Int→Bool→List Int→Int→Option (List Int))(l1:List Int)(x1:Int)(l3:List Int)(x4:Int):Option (List Int):=am (at? l1 x1) fun e3=>am (sV false l3) fun r1=>rec1 (l1.set x1.toNat (IntKind.u8.wrap x4)) r1.below r1.d (i64.wrap (x1-1))
def n9(rec1:List Int→Bool→List Int→Int→Option (List Int))(l1 z2:List Int)(x1:Int):Nat→List Int→Int→Int→Option (List Int)
 |0,_,_,_=>none
 |k2+1,l2,x2,x3=>ak (decide (0≤x3)) (am (at? z2 x3) fun e1=>am (some (i64.wrap ((i64.wrap ((i64.wrap (10*x2))+e1)).tdiv 256))) fun y1=>am (some ((i64.wrap ((i64.wrap (10*x2))+e1)).tmod 256)) fun y2=>am (at? l2 x3) fun e2=>(n9 rec1 l1 z2 x1 k2) (l2.set x3.toNat y1) y2 (i64.wrap (x3-1))) (wW rec1 l1 x1 l2 x2)
def Ez(l4:List Int):Option (List Int):=some l4
def jG:Nat→List Int→Bool→List Int→Int→Option (List Int)
 |0,_,_,_,_=>none
 |k1+1,l1,z1,z2,x1=>ak (decide (0≤x1)) (iN (0≤(z2.length:Int)∧(z2.length:Int)≤(z2.length:Int)∧(z2.length:Int)≤4294967296)<|n9 (jG k1) l1 z2 x1 aH (List.replicate (z2.length:Int).toNat (0:Int)) 0 (i64.wrap ((z2.length:Int)-1))) (Ez l1)
def zR(p1:dj)(p2:Int):Option (List Int):=iN (0≤p2∧p2≤p2∧p2≤4294967296)<|jG aH (List.replicate p2.toNat (0:Int)) p1.below p1.d (i64.wrap (p2-1))
theorem Gd(p1:dj)(p2:Int):CT prog 265 [.ag [cb p1.below,cl eI p1.d],vi p2] (zR p1 p2) (fun r=>vl (eK .u8) r):=
  cI 54 [2] f265 fun r=>(uMk (eK .u8) (0:Int) (cu f265 14 1 fun K k=>have J2:∀{l4},Ez l4=some r→K.p [(5,.one (.sl 1 1 0 l4.length))] [.dead,.arr 1 ((eK .u8).els l4)]:=fun{l4} h=>k h (LY (eK .u8) l4 1 [4] uz);(Ya 1 (show p2.toNat=(List.replicate p2.toNat (0:Int)).length by simp) (gc f265 58 1 fun R b=>have L1:∀k1 {l1 z1 z2 x1},jG k1 l1 z1 z2 x1=some r→(R k1).p [(2,vQ 0),(5,.one (.sl 1 1 0 l1.length)),(6,vi x1)] [.box [cb z1,cl eI z2],.arr 1 ((eK .u8).els l1)]:=uI (fW rfl) fun k1 i1 {l1 z1 z2 x1} h=>b h (uU (jG.eq_2 ..) (uC (uN eI z2 (uMk eI (0:Int) (cu f265 7462 3 fun K k=>have J1:∀{l3 x4},wW (jG k1) l1 x1 l3 x4=some r→K.p [(2,vQ 0),(5,.one (.sl 1 1 0 l1.length)),(6,vi x1),(7,vi x4),(8,.one (.sl 2 1 0 l3.length))] [.box [cb z1,cl eI z2],.arr 1 ((eK .u8).els l1),.arr 1 (eI.els l3)]:=fun{l3 x4} h=>k h (VH (eK .u8) 1 fun e3 a27=>(uSt (eK .u8) 1 a27 (IntKind.u8.wrap x4) (LY eI l3 2 [51] (aV (wF _ _) fun r1=>(Ya 1 (show l1.length=(l1.set x1.toNat (IntKind.u8.wrap x4)).length by simp) (uJ i1))))));(uN eI z2 (Ya 2 (show(z2.length:Int).toNat=(List.replicate (z2.length:Int).toNat (0:Int)).length by simp) (gc f265 29850 1 fun R b=>have L2:∀k2 {l2 x2 x3},n9 (jG k1) l1 z2 x1 k2 l2 x2 x3=some r→(R k2).p [(2,vQ 0),(5,.one (.sl 1 1 0 l1.length)),(6,vi x1),(7,vi x2),(8,.one (.sl 2 1 0 l2.length)),(9,vi x3)] [.box [cb z1,cl eI z2],.arr 1 ((eK .u8).els l1),.arr 1 (eI.els l2)]:=uI (fW rfl) fun k2 i2 {l2 x2 x3} h=>b h (uU (n9.eq_2 ..) (uC (dS eI fun e1=>(uY 42 vi fun y1=>(uY 44 vi fun y2=>(VH eI 2 fun e2 a25=>(uSt eI 2 a25 y1 (Ya 2 (show l2.length=(l2.set x3.toNat y1).length by simp) (uJ i2))))))) (uR (.exit 2) (xM (uJ J1)))));uE (L2 aH))))))) (uR (.exit 0) (xM (uJ J2)))));uE (L1 aH)))))
def nS(l3:List Int):Option (List Int):=some l3
def C0(l2:List Int):Option (List Int):=iN (l2.length+1≤4294967296)<|nS (l2++[0])
def rJ(q_ref1_key:ac→Option (List Int))(p1:ac):Nat→List Int→Int→Option (List Int)
 |0,_,_=>none
 |k1+1,l1,x2=>ak (decide (x2<(p1.items.length:Int))) (iN (l1.length+1≤4294967296)<|am (at? p1.items x2) fun e1=>am (q_ref1_key e1) fun r9=>iN ((l1++[1]).length+r9.length≤4294967296)<|(rJ q_ref1_key p1 k1) ((l1++[1])++r9) (i64.wrap (x2+1))) (C0 l1)
def qU(q_ref1_key:ac→Option (List Int))(p1:ac)(x1:Bool):Option (List Int):=ak x1 (am (pf p1.n) fun r1=>am (BC 8) fun r2=>am (vI r1 r2) fun r3=>am (zR r3 8) fun r4=>iN ([(IntKind.u8.wrap p1.kind)].length+r4.length≤4294967296)<|nS ([(IntKind.u8.wrap p1.kind)]++r4)) (ak (p1.kind==3) (am (rG p1) fun r5=>am (BC 16) fun r6=>am (vI r5 r6) fun r7=>am (zR r7 16) fun r8=>iN ([(IntKind.u8.wrap p1.kind)].length+r8.length≤4294967296)<|iN (([(IntKind.u8.wrap p1.kind)]++r8).length+1≤4294967296)<|nS (([(IntKind.u8.wrap p1.kind)]++r8)++[(IntKind.u8.wrap p1.scale)])) (ak (p1.kind==4) (iN ([(IntKind.u8.wrap p1.kind)].length+(oj p1.s).length≤4294967296)<|iN (([(IntKind.u8.wrap p1.kind)]++(oj p1.s)).length+1≤4294967296)<|nS (([(IntKind.u8.wrap p1.kind)]++(oj p1.s))++[0])) (rJ q_ref1_key p1 aH [(IntKind.u8.wrap p1.kind)] 0)))
def nT:Nat→ac→Option (List Int)
 |0,_=>none
 |k0+1,p1=>ak (p1.kind==0) (some [8]) (ak (p1.kind==1) (iN ([(IntKind.u8.wrap p1.kind)].length+1≤4294967296)<|nS ([(IntKind.u8.wrap p1.kind)]++[(IntKind.u8.wrap p1.n)])) (ak (p1.kind==2) (qU (nT k0) p1 (p1.kind==2)) (qU (nT k0) p1 (p1.kind==5))))
theorem JK:∀(k0:Nat) (p1:ac),CT prog 234 [mV p1] (nT k0 p1) (fun r=>vl (eK .u8) r)
  |0,_=>Jd (nT.eq_1 ..)
  |k0+1,p1=>cI 80 [12] f234 fun r=>(uU (nT.eq_2 ..) (uC uz (cu f234 30 1 fun K k=>have J3:∀{l3},nS l3=some r→K.p [(3,.one (.sl 0 1 0 l3.length))] [.arr 1 ((eK .u8).els l3)]:=fun{l3} h=>k h (LY (eK .u8) l3 0 [2] uz);(uC (BY (eK .u8) 0 [(IntKind.u8.wrap p1.n)] (uJ J3)) (cu f234 982 2 fun K k=>have J1:∀{x1},qU (nT k0) p1 x1=some r→K.p [(1,vR [pi p1.kind,pi p1.n,pi p1.scale,.s (.string p1.s),.ro (ah.els p1.items)]),(3,.one (.sl 0 1 0 1)),(14,vi p1.kind),(44,vb x1)] [.arr 1 ((eK .u8).els [(IntKind.u8.wrap p1.kind)])]:=fun{x1} h=>k h (uC (aV (xo _) fun r1=>(aV (Iz _) fun r2=>(aV (DW _ _) fun r3=>(aV (Gd _ _) fun r4=>(BY (eK .u8) 0 r4 (uJ J3)))))) (uC (aV (Bj _) fun r5=>(aV (Iz _) fun r6=>(aV (DW _ _) fun r7=>(aV (Gd _ _) fun r8=>(BY (eK .u8) 0 r8 (BY (eK .u8) 0 [(IntKind.u8.wrap p1.scale)] (uJ J3))))))) (uC (uAs 0 p1.s (BY (eK .u8) 0 [(0:Int)] (uJ J3))) (cu f234 62974 2 fun K k=>have J2:∀{l2},C0 l2=some r→K.p [(3,.one (.sl 0 1 0 l2.length))] [.arr 1 ((eK .u8).els l2)]:=fun{l2} h=>k h (BY (eK .u8) 0 [(0:Int)] (uJ J3));(uN ah p1.items (gc f234 251898 1 fun R b=>have L1:∀k1 {l1 x2},rJ (nT k0) p1 k1 l1 x2=some r→(R k1).p [(1,vR [pi p1.kind,pi p1.n,pi p1.scale,.s (.string p1.s),.ro (ah.els p1.items)]),(3,.one (.sl 0 1 0 l1.length)),(17,vi p1.items.length),(18,vi x2)] [.arr 1 ((eK .u8).els l1)]:=uI (fW rfl) fun k1 i1 {l1 x2} h=>b h (uU (rJ.eq_2 ..) (uC (BY (eK .u8) 0 [(1:Int)] (dS ah fun e1=>(aV (JK k0 _) fun r9=>(BY (eK .u8) 0 r9 (uJ i1))))) (uR (.exit 1) (xM (uJ J2)))));uE (L1 aH)))))));(uC (uJ J1) (uJ J1)))))))
def DE(l2:List Int):Option (List Int):=some l2
def rP(p1:List ac):Nat→List Int→Int→Option (List Int)
 |0,_,_=>none
 |k1+1,l1,x1=>ak (decide (x1<(p1.length:Int))) (am (at? p1 x1) fun e1=>am (uf e1) fun r1=>ak (!r1) (some []) (am (nT aH e1) fun r2=>iN (l1.length+r2.length≤4294967296)<|(rP p1 k1) (l1++r2) (i64.wrap (x1+1)))) (DE l1)
def GD(p1:List ac):Option (List Int):=rP p1 aH [] 0
theorem Qi(p1:List ac):CT prog 196 [vl ah p1] (GD p1) (fun r=>vl (eK .u8) r):=
  cI 25 [] f196 fun r=>(cu f196 14 1 fun K k=>have J1:∀{l2},DE l2=some r→K.p [(3,.one (.sl 0 1 0 l2.length))] [.arr 1 ((eK .u8).els l2)]:=fun{l2} h=>k h (LY (eK .u8) l2 0 [2] uz);(uN ah p1 (Jw (.li 3 1) (gc f196 58 1 fun R b=>have L1:∀k1 {l1 x1},rP p1 k1 l1 x1=some r→(R k1).p [(0,vl ah p1),(3,.one (.sl 0 1 0 l1.length)),(6,vi p1.length),(7,vi x1)] [.arr 1 ((eK .u8).els l1)]:=uI (fW rfl) fun k1 i1 {l1 x1} h=>b h (uU (rP.eq_2 ..) (uC (uL ah fun e1 a12=>(aV (yN _) fun r1=>(uC jX (uM ah a12 (aV (JK aH _) fun r2=>(BY (eK .u8) 0 r2 (uJ i1))))))) (uR (.exit 0) (xM (uJ J1)))));uE (L1 aH)))))
def Il(x3:Int):OI:=some x3
def ri(p1:List Int):Nat→Int→Int→OI
 |0,_,_=>none
 |k1+1,x1,x2=>ak (decide (x2<(p1.length:Int))) (am (at? p1 x2) fun e1=>am (some (IntKind.u64.wrap (BitVec.ofInt (IntKind.u64).bits x1 ^^^ BitVec.ofInt (IntKind.u64).bits (IntKind.u64.wrap e1)).toNat)) fun y1=>(ri p1 k1) (IntKind.u64.wrap (y1*1099511628211)) (i64.wrap (x2+1))) (Il x1)
def JN(p1:List Int):OI:=ri p1 aH 14695981039346656037 0
theorem Qd(p1:List Int):CT prog 195 [vl (eK .u8) p1] (JN p1) (vk .u64):=
  cI 19 [] f195 fun r=>(cu f195 14 1 fun K k=>have J1:∀{x3},Il x3=some r→K.p [(3,vk .u64 x3)] []:=fun{x3} h=>k h uz;(uN (eK .u8) p1 (gc f195 58 1 fun R b=>have L1:∀k1 {x1 x2},ri p1 k1 x1 x2=some r→(R k1).p [(3,vk .u64 x1),(6,vl (eK .u8) p1),(7,vi p1.length),(8,vi x2)] []:=uI (fW rfl) fun k1 i1 {x1 x2} h=>b h (uU (ri.eq_2 ..) (uC (dS (eK .u8) fun e1=>(uY 15 (vk .u64) fun y1=>(uJ i1))) (uR (.exit 0) (xM (uJ J1)))));uE (L1 aH))))
def BA(p1:ac):OI:=am (GD [p1]) fun r1=>am (JN r1) fun r2=>some r2
theorem Oi(p1:ac):CT prog 149 [mV p1] (BA p1) (vk .u64):=
  cI 7 [] f149 fun r=>(uW 4 ah [p1] (aV (Qi _) fun r1=>(aV (Qd _) fun r2=>uz)))
def yO(x1:Int):OI:=some x1
def sx(p1 p2:Int):OI:=iN (p2≠0)<|am (some (decide (p1<(i64.wrap ((i64.wrap (p1.tdiv p2))*p2))))) fun y1=>ak y1 (yO (i64.wrap ((i64.wrap (p1.tdiv p2))-1))) (yO (i64.wrap (p1.tdiv p2)))
theorem Dd(p1 p2:Int):CT prog 150 [vi p1,vi p2] (sx p1 p2) vi:=
  cI 17 [] f150 fun r=>(uG (X1 13 (kS f150 [1,1,0] 1) fun K k=>have J1:∀{x1},yO x1=some r→K.p [(5,vi x1)] []:=fun{x1} h=>k h uz;(uY 13 vb fun y1=>(uC (uJ J1) (uJ J1)))))
def Dp:Option (iY×Bool):=some ((iY.mk ByteArray.empty 0 0 (lr.mk 0 0 0 0) (lr.mk 0 0 0 0)),false)
def v6(p1:ByteArray)(r1:List iY):Nat→Int→Option (iY×Bool)
 |0,_=>none
 |k1+1,x1=>ak (decide (x1<(r1.length:Int))) (am (at? r1 x1) fun e1=>ak (e1.name.toList==p1.toList) (some (e1,true)) ((v6 p1 r1 k1) (i64.wrap (x1+1)))) (Dp)
def DF(p1:ByteArray):Option (iY×Bool):=am (HM) fun r1=>v6 p1 r1 aH 0
abbrev Vx:List CV:=[qm ByteArray.empty,ci (0:Int),ci (0:Int),ci (0:Int),ci (0:Int),ci (0:Int),ci (0:Int),ci (0:Int),ci (0:Int),ci (0:Int),ci (0:Int)]
theorem Le(p1:ByteArray):CT prog 197 [vs p1] (DF p1) (fun r=> .tp [.ag [qm r.1.name,ci r.1.offset,ci r.1.summer,ci r.1.start.month,ci r.1.start.week,ci r.1.start.weekday,ci r.1.start.minute,ci r.1.stop.month,ci r.1.stop.week,ci r.1.stop.weekday,ci r.1.stop.minute],vb r.2]):=
  cI 25 [2] f197 fun r=>(aV IA fun r1=>(kT f197 14 1 Dp [(2,vQ 0)] [.box Vx] uz fun K J1=>(uN EB r1 (gc f197 58 1 fun R b=>have L1:∀k1 {x1},v6 p1 r1 k1 x1=some r→(R k1).p [(0,vs p1),(2,vQ 0),(4,vl EB r1),(8,vi r1.length),(9,vi x1)] [.box Vx]:=uI (fW rfl) fun k1 i1 {x1} h=>b h (uU (v6.eq_2 ..) (uC (uL EB fun e1 a12=>(uC (uM EB a12 jX) (uJ i1))) (uR (.exit 0) (xM (uJ J1)))));uE (L1 aH)))))
def xb(x2:Int):OI:=some x2
def wY(p1 p2:Int)(x1:Bool):OI:=ak x1 (xb (i64.wrap ((i64.wrap (p1.tdiv p2))-1))) (xb (i64.wrap (p1.tdiv p2)))
def zB(p1 p2:Int):OI:=iN (p2≠0)<|iN (p2≠0)<|ak ((p1.tmod p2) != 0) (wY p1 p2 (!((decide (p1<0))==(decide (p2<0))))) (wY p1 p2 false)
theorem GA(p1 p2:Int):CT prog 236 [vi p1,vi p2] (zB p1 p2) vi:=
  cI 23 [] f236 fun r=>(uG (cu f236 14 1 fun K k=>have J2:∀{x2},xb x2=some r→K.p [(5,vi x2)] []:=fun{x2} h=>k h uz;(cu f236 28 1 fun K k=>have J1:∀{x1},wY p1 p2 x1=some r→K.p [(5,vi (i64.wrap (p1.tdiv p2))),(19,vb x1)] []:=fun{x1} h=>k h (uC (uJ J2) (uJ J2));(uG (uC (uJ J1) (uJ J1))))))
def qM(x1:Int):OI:=some (i64.wrap (x1-719528))
def oP(p1:Int):OI:=ak (decide (0<p1)) (am (some (i64.wrap ((i64.wrap (p1-1)).tdiv 4))) fun y1=>am (some (i64.wrap ((i64.wrap (p1-1)).tdiv 100))) fun y2=>am (some (i64.wrap ((i64.wrap (p1-1)).tdiv 400))) fun y3=>am (some (i64.wrap ((i64.wrap ((i64.wrap (y1-y2))+y3))+1))) fun y4=>qM (i64.wrap ((i64.wrap (365*p1))+y4))) (qM (i64.wrap (365*p1)))
theorem wR(p1:Int):CT prog 237 [vi p1] (oP p1) vi:=
  cI 24 [] f237 fun r=>(cu f237 14 1 fun K k=>have J1:∀{x1},qM x1=some r→K.p [(3,vi x1)] []:=fun{x1} h=>k h uz;(uC (uY 11 vi fun y1=>(uY 14 vi fun y2=>(uY 18 vi fun y3=>(uY 20 vi fun y4=>(uJ J1))))) (uJ J1)))
def yv(x1:Bool):OB:=some x1
def Lu(p1:Int):OB:=ak ((p1.tmod 4)==0) (ak ((p1.tmod 100) != 0) (yv true) (yv ((p1.tmod 400)==0))) (yv false)
theorem O6(p1:Int):CT prog 268 [vi p1] (Lu p1) vb:=
  cI 16 [] f268 fun r=>(cu f268 6 1 fun K k=>have J1:∀{x1},yv x1=some r→K.p [(2,vb x1)] []:=fun{x1} h=>k h uz;(uC (uC (uJ J1) (uJ J1)) (uJ J1)))
def nY(x1:Bool):OI:=ak x1 (some 30) (some 31)
def oW(p1 p2:Int):OI:=ak (p2==2) (am (Lu p1) fun r1=>ak r1 (some 29) (some 28)) (ak (p2==4) (nY (p2==4)) (ak (p2==6) (nY (p2==6)) (ak (p2==9) (nY (p2==9)) (nY (p2==11)))))
theorem sy(p1 p2:Int):CT prog 238 [vi p1,vi p2] (oW p1 p2) vi:=
  cI 15 [] f238 fun r=>(uC (aV (O6 _) fun r1=>(uC uz uz)) (cu f238 214 3 fun K k=>have J1:∀{x1},nY x1=some r→K.p [(10,vb x1)] []:=fun{x1} h=>k h (uC uz uz);(uC (uJ J1) (uC (uJ J1) (uC (uJ J1) (uJ J1))))))
def Bb(p1 r1 x3 z2 x5:Int):Option pM:=am (some (i64.wrap ((i64.wrap (p1-(i64.wrap (86400*r1)))).tdiv 3600))) fun y1=>am (some (i64.wrap ((i64.wrap (p1-(i64.wrap (86400*r1)))).tdiv 60))) fun y2=>am (some ((i64.wrap (p1-(i64.wrap (86400*r1)))).tmod 60)) fun y3=>some (pM.mk x3 z2 (i64.wrap (x5+1)) y1 (y2.tmod 60) y3)
def qo(p1 r1 x3:Int):Nat→Int→Int→Option pM
 |0,_,_=>none
 |k2+1,z1,x4=>am (oW x3 z1) fun r4=>ak (decide (r4≤x4)) (am (oW x3 z1) fun r5=>(qo p1 r1 x3 k2) (i64.wrap (z1+1)) (i64.wrap (x4-r5))) (Bb p1 r1 x3 z1 x4)
def Bk(p1 r1 x3:Int):Option pM:=am (oP x3) fun r3=>qo p1 r1 x3 aH 1 (i64.wrap (r1-r3))
def oi(p1 r1:Int):Nat→Int→Int→Option pM
 |0,_,_=>none
 |k1+1,x1,x2=>ak (decide (1<(i64.wrap (x2-x1)))) (am (oP (i64.wrap ((i64.wrap (x1+x2)).tdiv 2))) fun r2=>ak (decide (r2≤r1)) ((oi p1 r1 k1) (i64.wrap ((i64.wrap (x1+x2)).tdiv 2)) x2) ((oi p1 r1 k1) x1 (i64.wrap ((i64.wrap (x1+x2)).tdiv 2)))) (Bk p1 r1 x1)
def yX(p1:Int):Option pM:=am (zB p1 86400) fun r1=>oi p1 r1 aH 0 10001
abbrev Mp:List CV:=[ci (0:Int),ci (0:Int),ci (0:Int),ci (0:Int),ci (0:Int),ci (0:Int)]
theorem G9(p1:Int):CT prog 198 [vi p1] (yX p1) (fun r=> .ag [ci r.year,ci r.month,ci r.day,ci r.hour,ci r.minute,ci r.second]):=
  cI 66 [2,7] f198 fun r=>(aV (GA _ _) fun r1=>(cu f198 30 1 fun K k=>have J1:∀{x3},Bk p1 r1 x3=some r→K.p [(0,vi p1),(2,vQ 0),(3,vi r1),(4,vi x3)] [.box Mp]:=fun{x3} h=>k h (aV (wR _) fun r3=>(cu f198 254 1 fun K k=>have J2:∀{z2 x5},Bb p1 r1 x3 z2 x5=some r→K.p [(0,vi p1),(2,vQ 0),(3,vi r1),(7,vQ 1),(8,vi x5)] [.box Mp,.box [ci x3,ci z2,ci (0:Int),ci (0:Int),ci (0:Int),ci (0:Int)]]:=fun{z2 x5} h=>k h (uY 56 vi fun y1=>(uY 58 vi fun y2=>(uY 61 vi fun y3=>uz)));(gc f198 508 1 fun R b=>have L2:∀k2 {z1 x4},qo p1 r1 x3 k2 z1 x4=some r→(R k2).p [(0,vi p1),(2,vQ 0),(3,vi r1),(4,vi x3),(7,vQ 1),(8,vi x4)] [.box Mp,.box [ci x3,ci z1,ci (0:Int),ci (0:Int),ci (0:Int),ci (0:Int)]]:=uI (fW rfl) fun k2 i2 {z1 x4} h=>b h (uU (qo.eq_2 ..) (aV (sy _ _) fun r4=>(uC (aV (sy _ _) fun r5=>(uJ i2)) (uR (.exit 2) (xM (uJ J2))))));uE (L2 aH))));(gc f198 60 1 fun R b=>have L1:∀k1 {x1 x2},oi p1 r1 k1 x1 x2=some r→(R k1).p [(0,vi p1),(2,vQ 0),(3,vi r1),(4,vi x1),(5,vi x2)] [.box Mp]:=uI (fW rfl) fun k1 i1 {x1 x2} h=>b h (uU (oi.eq_2 ..) (uC (aV (wR _) fun r2=>(uC (uJ i1) (uJ i1))) (uR (.exit 0) (xM (uJ J1)))));uE (L1 aH))))
def G2(p3 x3:Int):OI:=some (i64.wrap ((i64.wrap (x3+p3))-1))
def yJ(p1 p2 p3:Int):Nat→Int→Int→OI
 |0,_,_=>none
 |k1+1,x1,x2=>ak (decide (x2<p2)) (am (oW p1 x2) fun r2=>(yJ p1 p2 p3 k1) (i64.wrap (x1+r2)) (i64.wrap (x2+1))) (G2 p3 x1)
def Hy(p1 p2 p3:Int):OI:=am (oP p1) fun r1=>yJ p1 p2 p3 aH r1 1
theorem IB(p1 p2 p3:Int):CT prog 270 [vi p1,vi p2,vi p3] (Hy p1 p2 p3) vi:=
  cI 25 [] f270 fun r=>(aV (wR _) fun r1=>(cu f270 14 1 fun K k=>have J1:∀{x3},G2 p3 x3=some r→K.p [(2,vi p3),(7,vi x3)] []:=fun{x3} h=>k h uz;(gc f270 58 1 fun R b=>have L1:∀k1 {x1 x2},yJ p1 p2 p3 k1 x1 x2=some r→(R k1).p [(0,vi p1),(1,vi p2),(2,vi p3),(7,vi x1),(8,vi x2)] []:=uI (fW rfl) fun k1 i1 {x1 x2} h=>b h (uU (yJ.eq_2 ..) (uC (aV (sy _ _) fun r2=>(uJ i1)) (uR (.exit 0) (xM (uJ J1)))));uE (L1 aH))))
def G5(p1:Int):OI:=am (zB (i64.wrap (p1+3)) 7) fun r1=>am (some (i64.wrap ((i64.wrap (p1-(i64.wrap (7*r1))))+4))) fun y1=>some y1
theorem JH(p1:Int):CT prog 269 [vi p1] (G5 p1) vi:=
  cI 10 [] f269 fun r=>(aV (GA _ _) fun r1=>(uY 9 vi fun y1=>uz))
def Cj(rec1:List Int→Int→OI)(x1:Int)(l2:List Int):OI:=rec1 l2 (i64.wrap (x1+1))
def B0(p1:Int)(p2:lr)(l3:List Int)(x2:Int):OI:=am (at? l3 x2) fun e1=>am (Hy p1 p2.month e1) fun r4=>am (some (i64.wrap ((i64.wrap (86400*r4))+(i64.wrap (60*p2.minute))))) fun y2=>some y2
def FP(p1:Int)(p2:lr)(l3:List Int):OI:=am (some (decide (((l3.length:Nat):Int)≤(i64.wrap (p2.week-1))))) fun y1=>ak y1 (B0 p1 p2 l3 (i64.wrap (((l3.length:Nat):Int)-1))) (B0 p1 p2 l3 (i64.wrap (p2.week-1)))
def sB(p1:Int)(p2:lr):Nat→List Int→Int→OI
 |0,_,_=>none
 |k1+1,l1,x1=>am (oW p1 p2.month) fun r1=>ak (decide (x1≤r1)) (am (Hy p1 p2.month x1) fun r2=>am (G5 r2) fun r3=>ak (r3==p2.weekday) (iN (l1.length+1≤4294967296)<|Cj (sB p1 p2 k1) x1 (l1++[x1])) (Cj (sB p1 p2 k1) x1 l1)) (FP p1 p2 l1)
def H4(p1:Int)(p2:lr):OI:=sB p1 p2 aH [] 1
abbrev Ms(p2:lr):List PV:=[pi p2.month,pi p2.week,pi p2.weekday,pi p2.minute]
theorem IG(p1:Int)(p2:lr):CT prog 239 [vi p1,.ag [ci p2.month,ci p2.week,ci p2.weekday,ci p2.minute]] (H4 p1 p2) vi:=
  cI 52 [] f239 fun r=>(cu f239 14 1 fun K k=>have J2:∀{l3},FP p1 p2 l3=some r→K.p [(0,vi p1),(3,vR (Ms p2)),(5,.one (.sl 0 1 0 l3.length))] [.arr 1 (eI.els l3)]:=fun{l3} h=>k h (X1 35 (kS f239 [1,1,1,1,0] 1) fun K k=>have J3:∀{x2},B0 p1 p2 l3 x2=some r→K.p [(0,vi p1),(3,vR (Ms p2)),(5,.one (.sl 0 1 0 l3.length)),(7,vi x2)] [.arr 1 (eI.els l3)]:=fun{x2} h=>k h (nt 12 (VH eI 0 fun e1 a21=>(Yq eI a21 (aV (IB _ _ _) fun r4=>(uY 51 vi fun y2=>uz)))));(uY 35 vb fun y1=>(uC (uJ J3) (uJ J3))));(Jw (.li 5 1) (gc f239 58 1 fun R b=>have L1:∀k1 {l1 x1},sB p1 p2 k1 l1 x1=some r→(R k1).p [(0,vi p1),(3,vR (Ms p2)),(5,.one (.sl 0 1 0 l1.length)),(6,vi x1)] [.arr 1 (eI.els l1)]:=uI (fW rfl) fun k1 i1 {l1 x1} h=>b h (uU (sB.eq_2 ..) (aV (sy _ _) fun r1=>(uC (cu f239 466 1 fun K k=>have J1:∀{l2},Cj (sB p1 p2 k1) x1 l2=some r→K.p [(0,vi p1),(3,vR (Ms p2)),(5,.one (.sl 0 1 0 l2.length)),(6,vi x1)] [.arr 1 (eI.els l2)]:=fun{l2} h=>k h (uJ i1);(nt 8 (aV (IB _ _ _) fun r2=>(aV (JH _) fun r3=>(uC (BY eI 0 [x1] (uJ J1)) (uJ J1)))))) (uR (.exit 0) (xM (uJ J2))))));uE (L1 aH))))
def xa(p1:iY)(x2:Bool):OI:=ak x2 (am (some (i64.wrap ((i64.wrap (60*p1.offset))+(i64.wrap (60*p1.summer))))) fun y5=>some y5) (some (i64.wrap (60*p1.offset)))
def Bl(p1:iY)(p2 r2 y1:Int)(x1:Bool):OI:=am (some (decide (y1≤(i64.wrap (r2-(i64.wrap (60*p1.offset))))))) fun y3=>ak y3 (ak (decide (p2<y1)) (xa p1 true) (am (some (decide ((i64.wrap (r2-(i64.wrap (60*p1.offset))))≤p2))) fun y4=>xa p1 y4)) (xa p1 x1)
def Fg(p1:iY)(p2:Int):OI:=ak (p1.summer==0) (some (i64.wrap (60*p1.offset))) (am (yX (i64.wrap (p2+(i64.wrap (60*p1.offset))))) fun r1=>am (H4 r1.year p1.start) fun r2=>am (H4 r1.year p1.stop) fun r3=>am (some (i64.wrap ((i64.wrap (r3-(i64.wrap (60*p1.offset))))-(i64.wrap (60*p1.summer))))) fun y1=>am (some (decide ((i64.wrap (r2-(i64.wrap (60*p1.offset))))≤p2))) fun y2=>ak y2 (Bl p1 p2 r2 y1 (decide (p2<y1))) (Bl p1 p2 r2 y1 false))
abbrev UN(p1:iY):List PV:=[.s (.string p1.name),pi p1.offset,pi p1.summer,pi p1.start.month,pi p1.start.week,pi p1.start.weekday,pi p1.start.minute,pi p1.stop.month,pi p1.stop.week,pi p1.stop.weekday,pi p1.stop.minute]
theorem MK(p1:iY)(p2:Int):CT prog 199 [.ag [qm p1.name,ci p1.offset,ci p1.summer,ci p1.start.month,ci p1.start.week,ci p1.start.weekday,ci p1.start.minute,ci p1.stop.month,ci p1.stop.week,ci p1.stop.weekday,ci p1.stop.minute],vi p2] (Fg p1 p2) vi:=
  cI 64 [] f199 fun r=>(uC uz (aV (G9 _) fun r1=>(nt 17 (aV (IG _ _) fun r2=>(aV (IG _ _) fun r3=>(uY 37 vi fun y1=>(X1 40 (kS f199 [1,1,1,1,1,0] 1) fun K k=>have J1:∀{x1},Bl p1 p2 r2 y1 x1=some r→K.p [(1,vi p2),(2,vR (UN p1)),(5,vi (i64.wrap ((60:Int)*p1.offset))),(7,vi (i64.wrap (r2-(i64.wrap ((60:Int)*p1.offset))))),(8,vi y1),(9,vb x1)] []:=fun{x1} h=>k h (X1 48 (kS f199 [1,1,1,1,1,1,0] 1) fun K k=>have J2:∀{x2},xa p1 x2=some r→K.p [(2,vR (UN p1)),(5,vi (i64.wrap ((60:Int)*p1.offset))),(9,vb x2)] []:=fun{x2} h=>k h (uC (uY 62 vi fun y5=>uz) uz);(uY 48 vb fun y3=>(uC (uC (uJ J2) (uY 55 vb fun y4=>(uJ J2))) (uJ J2))));(uY 40 vb fun y2=>(uC (uJ J1) (uJ J1))))))))))
def wN(p1:Int)(p2:ByteArray):Option (pM×Int):=am (DF p2) fun r1=>ak (!r1.2) (some ((pM.mk 0 0 0 0 0 0),4)) (am (gi p1 (-62135596800) 253402300799) fun r2=>ak (!r2) (some ((pM.mk 0 0 0 0 0 0),3)) (am (Fg r1.1 p1) fun r3=>am (yX (i64.wrap (p1+r3))) fun r4=>some (r4,0)))
theorem M7(p1:Int)(p2:ByteArray):CT prog 151 [vi p1,vs p2] (wN p1 p2) (fun r=> .tp [.ag [ci r.1.year,ci r.1.month,ci r.1.day,ci r.1.hour,ci r.1.minute,ci r.1.second],vi r.2]):=
  cI 26 [4,6] f151 fun r=>(aV (Le _) fun r1=>(uC uz (aV (jC _ _ _) fun r2=>(uC uz (aV (MK _ _) fun r3=>(aV (G9 _) fun r4=>uz))))))
def dU(z4:Int):Option ac:=some (ac.mk 2 z4 0 ByteArray.empty [])
def n6(p2:ac)(z2:ByteArray):Option ac:=some (ac.mk p2.kind p2.n p2.scale z2 p2.items)
def fH(p1:aT)(p2:ac):Nat→Nat→Int→Option ac
 |0,_,_=>none
 |k1+1,z1,x2=>ak (decide (z1<p2.s.size)) (ak (x2==p1.param) (iN (0≤(0:Int)∧(0:Int)≤Int.ofNat z1∧Int.ofNat z1≤(p2.s.size:Int))<|n6 p2 (p2.s.extract (0:Int).toNat (Int.ofNat z1).toNat)) ((fH p1 p2 k1) (z1+(Utf8.decode p2.s z1).2) (i64.wrap (x2+1)))) (n6 p2 p2.s)
def lF(p2:ac)(z3:Int):Option ac:=some (ac.mk p2.kind z3 p2.scale p2.s p2.items)
def gp(p1:aT)(p2:ac)(x1:Bool):Option ac:=ak x1 (some (ac.mk 0 0 0 ByteArray.empty [])) (am (fR p1 (al.mk p2.kind p2.scale [])) fun r3=>ak (r3.2 != 0) (some (ac.mk 0 0 0 ByteArray.empty [])) (ak (p1.kind==0) (some (ac.mk 0 0 0 ByteArray.empty [])) (ak (p1.kind==1) (some p2) (ak (p1.kind==2) (am (BA p2) fun r4=>iN ((IntKind.u64.wrap p1.param)≠0)<|dU (i64.wrap (r4.tmod (IntKind.u64.wrap p1.param)))) (ak (p1.kind==3) (ak (p2.kind==4) (fH p1 p2 aH 0 0) (am (sx p2.n p1.param) fun r5=>am (some (decide ((i64.wrap (p1.param*r5))<(-999999999999999999)))) fun y1=>ak y1 (lF p2 (-999999999999999999)) (lF p2 (i64.wrap (p1.param*r5))))) (ak (p1.kind==6) (am (sx p2.n 86400) fun r6=>dU r6) (ak (p1.kind==7) (am (sx p2.n 3600) fun r7=>dU r7) (am (wN p2.n (ByteArray.mk #[117,116,99])) fun r8=>ak (p1.kind==5) (am (some (i64.wrap (12*(i64.wrap (r8.1.year-1970))))) fun y2=>dU (i64.wrap ((i64.wrap (y2+r8.1.month))-1))) (dU (i64.wrap (r8.1.year-1970)))))))))))
def gK(p1:aT)(p2:ac):Option ac:=ak (p2.kind==0) (gp p1 p2 true) (am (uf p2) fun r1=>ak (!r1) (gp p1 p2 true) (am (gz p2.kind) fun r2=>gp p1 p2 (!r2)))
abbrev P4(p2:ac):List CV:=[ci p2.kind,ci p2.n,ci p2.scale,qm p2.s,cl ah p2.items]
theorem H2(p1:aT)(p2:ac):CT prog 98 [.ag [ci p1.kind,ci p1.param],.ag (P4 p2)] (gK p1 p2) (fun r=>mV r):=
  cI 131 [3,4,5,7,10] f98 fun r=>(cu f98 12 2 fun K k=>have J1:∀{x1},gp p1 p2 x1=some r→K.p [(2,vR [pi p1.kind,pi p1.param]),(3,vQ 0),(4,vQ 1),(25,vb x1)] [.box (P4 p2),.box u6]:=fun{x1} h=>k h (uC uz (aV (rW _ _) fun r3=>(uC uz (cu f98 62 1 fun K k=>have J4:∀{z4},dU z4=some r→K.p [(4,vQ 1),(7,vQ 3)] [.dead,.box u6,.dead,.box [ci (2:Int),ci z4,ci (0:Int),qm ByteArray.empty,.pv (.s (.slice none 0 0))]]:=fun{z4} h=>k h uz;(uC (uR .ret (xN xF)) (uC (uR .ret (xN xF)) (uC (nt 5 (aV (Oi _) fun r4=>(uG (uJ J4)))) (uC (uC (cu f98 2056138 3 fun K k=>have J2:∀{z2},n6 p2 z2=some r→K.p [(3,vQ 0),(4,vQ 1)] [.box [ci p2.kind,ci p2.n,ci p2.scale,qm z2,cl ah p2.items],.box u6,.dead,.dead]:=fun{z2} h=>k h (uR .ret (xN xF));(uRg p2.s (gc f98 8224554 1 fun R b=>have L1:∀k1 {z1 x2},fH p1 p2 k1 z1 x2=some r→(R k1).p [(2,vR [pi p1.kind,pi p1.param]),(3,vQ 0),(4,vQ 1),(8,vi x2),(88,vQ 4)] [.box (P4 p2),.box u6,.dead,.dead,.raw (.stringIter p2.s z1)]:=uI (fW rfl) fun k1 i1 {z1 x2} h=>b h (uU (fH.eq_2 ..) (uNx 4 (fun b38=>(uT (uC (uG (uR (.exit 1) (xM (uJ J2)))) (uJ i1)))) (fun b38=>(uF (uR (.exit 1) (xM (uJ J2)))))));uE (L1 aH)))) (nt 7 (aV (Dd _ _) fun r5=>(X1 115 (kS f98 [1,1,1,1,0,1,0,1,1,1,1,1,1,1,0,1,1,0] 2) fun K k=>have J3:∀{z3},lF p2 z3=some r→K.p [(3,vQ 0),(4,vQ 1)] [.box [ci p2.kind,ci z3,ci p2.scale,qm p2.s,cl ah p2.items],.box u6,.dead,.dead]:=fun{z3} h=>k h (uR .ret (xN xF));(uY 115 vb fun y1=>(uC (uJ J3) (uJ J3))))))) (uC (aV (Dd _ _) fun r6=>(uJ J4)) (uC (aV (Dd _ _) fun r7=>(uJ J4)) (aV (M7 _ _) fun r8=>(uC (uY 59 vi fun y2=>(uJ J4)) (uJ J4)))))))))))));(uC (uJ J1) (aV (yN _) fun r1=>(uC (uJ J1) (aV (iI _) fun r2=>(uJ J1))))))
def rl(x1:Bool):OB:=some x1
def oV(x2:Bool):OB:=some x2
def Iv(p1:aT)(p2:ac)(p3:bA):OB:=ak (p1.kind==0) (some false) (ak (p1.kind==2) (ak (p2.kind==0) (rl true) (ak (p3.low.kind != 0) (am (bJ aH p3.low p3.high) fun r1=>ak (r1==0) (am (gK p1 p3.low) fun r2=>am (bJ aH p2 r2) fun r3=>rl (r3 != 0)) (rl false)) (rl false))) (ak (p2.kind==0) (some true) (ak (p3.low.kind != 0) (am (gK p1 p3.low) fun r4=>am (bJ aH p2 r4) fun r5=>ak (decide (r5<0)) (oV true) (ak (p3.high.kind != 0) (am (gK p1 p3.high) fun r6=>am (bJ aH p2 r6) fun r7=>oV (decide (0<r7))) (oV false))) (ak (p3.high.kind != 0) (am (gK p1 p3.high) fun r8=>am (bJ aH p2 r8) fun r9=>oV (decide (0<r9))) (oV false)))))
def nv(p1:List ae):Option (Unit×(List ae)):=some ((),p1)
theorem s6(p1:List ae):CX prog 140 [.one (.sl 0 6 0 p1.length)] [.arr 6 (af.els p1)] [0] (nv p1) (fun r=> .one (.sl 0 6 0 r.2.length)) (fun r=>[.arr 6 (af.els r.2)]):=
  SY 1 1 9 [] f140 fun r=>(uXs 0 6 p1.length (uR .ret ut))
def yl(l2:List ae):Option (List ae):=am (nv l2) fun r2=>some r2.2
def oD(q_table_copyFields:(List ae)→Option (List ae))(p1:List ae):Nat→List ae→Int→Option (List ae)
 |0,_,_=>none
 |k1+1,l1,x1=>ak (decide (x1<(p1.length:Int))) (am (at? p1 x1) fun e1=>am (q_table_copyFields e1.type.fields) fun r1=>iN (l1.length+1≤4294967296)<|(oD q_table_copyFields p1 k1) (l1++[(mR.mk e1.id e1.name e1.need (al.mk e1.type.kind e1.type.scale r1))]) (i64.wrap (x1+1))) (yl l1)
def mG:Nat→(List ae)→Option (List ae)
 |0,_=>none
 |k0+1,p1=>oD (mG k0) p1 aH [] 0
theorem zQ:∀(k0:Nat) (p1:List ae),CX prog 76 [vl af p1] [] [] (mG k0 p1) (fun r=> .one (.sl 0 6 0 r.length)) (fun r=>[.arr 6 (af.els r)])
  |0,_=>uX0 (mG.eq_1 ..)
  |k0+1,p1=>SY 0 1 25 [5] f76 fun r=>(uU (mG.eq_2 ..) (cu f76 14 1 fun K k=>have J1:∀{l2},yl l2=some r→K.p [(3,.one (.sl 0 6 0 l2.length))] [.arr 6 (af.els l2)]:=fun{l2} h=>k h (Yv true [0] (s6 _) fun r2 _=>(uR .ret ut));(uN af p1 (Jw (.li 3 6) (gc f76 58 1 fun R b=>have L1:∀k1 {l1 x1},oD (mG k0) p1 k1 l1 x1=some r→(R k1).p [(3,.one (.sl 0 6 0 l1.length)),(6,vl af p1),(7,vi p1.length),(8,vi x1)] [.arr 6 (af.els l1)]:=uI (fW rfl) fun k1 i1 {l1 x1} h=>b h (uU (oD.eq_2 ..) (uC (dS af fun e1=>(Yv true [] (zQ k0 _) fun r1 _=>(Jw (.stl 1 5) (LY af r1 2 [19] (uW 20 af [(mR.mk e1.id e1.name e1.need (al.mk e1.type.kind e1.type.scale r1))] (BY af 0 [(mR.mk e1.id e1.name e1.need (al.mk e1.type.kind e1.type.scale r1))] (uJ i1))))))) (uR (.exit 0) (xM (uJ J1)))));uE (L1 aH))))))
def Az(p2:Int):OI:=some p2
def vt(p1:List ae)(p2:Int):Nat→OI
 |0=>none
 |k1+1=>ak (decide (0<(p1.length:Int))) (am (at? p1 0) fun e1=>none) (Az p2)
def Dl(p1:List ae)(p2:Int):OI:=vt p1 p2 aH
theorem Hm(p1:List ae)(p2:Int):CT prog 77 [vl af p1,vi p2] (Dl p1 p2) vi:=
  cI 27 [] f77 fun r=>(kT f77 6 1 (Az p2) [(1,vi p2)] [] uz fun K J1=>(uN af p1 (gc f77 26 1 fun R b=>have L1:∀k1,vt p1 p2 k1=some r→(R k1).p [(0,vl af p1),(1,vi p2),(7,vi p1.length),(8,vi (0:Int))] []:=uI (fW rfl) fun k1 i1 h=>b h (uU (vt.eq_2 ..) (uC (dS af fun e1=>uNo) (uR (.exit 0) (xM (uJ J1)))));uE (L1 aH))))
def yj(l2:List ae)(x3:Int):Option (Int×(List ae)):=some (x3,l2)
def oA(p2:List ae):Nat→List ae→Int→Int→Option (Int×(List ae))
 |0,_,_,_=>none
 |k1+1,l1,x1,x2=>ak (decide (x2<((p2.length:Nat):Int))) (am (at? l1 x2) fun e1=>am (at? (l1.set x2.toNat (mR.mk x1 e1.name e1.need e1.type)) x2) fun e2=>am (Dl e2.type.fields (i64.wrap (x1+1))) fun r1=>(oA p2 k1) (l1.set x2.toNat (mR.mk x1 e1.name e1.need e1.type)) r1 (i64.wrap (x2+1))) (yj l1 x1)
def BW(p1:Int)(p2:List ae):Option (Int×(List ae)):=oA p2 aH p2 p1 0
theorem E7(p1:Int)(p2:List ae):CM prog 77 [.one (.sl 0 6 0 p2.length),vi p1] [.arr 6 (af.els p2)] (BW p1 p2) (fun r=>vi r.1) (fun r=>[.arr 6 (af.els r.2)]):=
  wP 1 27 [] f77 fun r=>(cu f77 6 1 fun K k=>have J1:∀{l2 x3},yj l2 x3=some r→K.p [(1,vi x3)] [.arr 6 (af.els l2)]:=fun{l2 x3} h=>k h (uR .ret ut);(gc f77 26 1 fun R b=>have L1:∀k1 {l1 x1 x2},oA p2 k1 l1 x1 x2=some r→(R k1).p [(0,.one (.sl 0 6 0 l1.length)),(1,vi x1),(7,vi ((p2.length:Nat):Int)),(8,vi x2)] [.arr 6 (af.els l1)]:=uI (fW rfl) fun k1 i1 {l1 x1 x2} h=>b h (uU (oA.eq_2 ..) (uC (VH af 0 fun e1 a10=>(uSt af 0 a10 (mR.mk x1 e1.name e1.need e1.type) (VH (L:=l1.length) (hL:=by simp) af 0 fun e2 a11=>(Yq af a11 (aV (Hm _ _) fun r1=>(Ya 0 (show l1.length=(l1.set x2.toNat (mR.mk x1 e1.name e1.need e1.type)).length by simp) (uJ i1))))))) (uR (.exit 0) (xM (uJ J1)))));uE (L1 aH)))
def BM(p1:List ae):OI:=some 0
theorem Fp(p1:List ae):CT prog 78 [.ag [.pv (.s (.slice none 0 0))],vl af p1] (BM p1) vi:=
  cI 49 [] f78 fun r=>(uF (Ro 0 (uF uz)))
def iZ:Option (List bi):=some []
theorem nM:CX prog 80 [.one (.pv (.s (.slice none 0 0)))] [] [] (iZ) (fun r=> .one (.sl 0 3 0 r.length)) (fun r=>[.arr 3 (aC.els r)]):=
  SY 0 1 8 [] f80 fun r=>(uT (Jw (.li 2 3) (uR .ret ut)))
def kI(p1:List bi):Option (List bi):=iN (0≤(0:Int)∧(0:Int)≤(p1.length:Int)∧(p1.length:Int)≤(p1.length:Int)∧(p1.length:Int)≤(p1.length:Int))<|some ((p1.drop (0:Int).toNat).take ((p1.length:Int).toNat-(0:Int).toNat))
theorem pO(p1:List bi):CT prog 79 [vl aC p1] (kI p1) (vl aC):=
  cI 9 [] f79 fun r=>(uN aC p1 (uN aC p1 (uXm aC uz)))
def DM(p1:List ae):Option (ax×Int):=am (dk (al.mk 7 0 p1)) fun r1=>ak (r1 != 0) (some ((ax.mk [] [] 0 0 0 0 [] [] []),r1)) (am (mG aH p1) fun r2=>am (BW 1 r2) fun r3=>iN (r3.2.length=r2.length)<|am (BM r3.2) fun r4=>ak (r4 != 0) (some ((ax.mk [] [] 0 0 0 0 [] [] []),r4)) (am (iZ) fun r5=>am (kI r5) fun r6=>some ((ax.mk [r3.2] [(cg.mk r6)] r3.1 1 1 0 [] ([(lq.mk (ByteArray.mk #[109,97,105,110]) true 0)]) []),0)))
theorem Ht(p1:List ae):CT prog 26 [vl af p1,.ag [.pv (.s (.slice none 0 0))]] (DM p1) (fun r=> .tp [mM r.1,vi r.2]):=
  cI 40 [4] f26 fun r=>(aV (lC _) fun r1=>(uC uz (Yv true [] (zQ aH _) fun r2 _=>(EJ true [1] (E7 _ _) fun r3 _=>(uLg 1 (LY af r3.2 1 [7,22] (uPn (Fp _) fun r4 _=>(uC uz (Yv false [] nM fun r5 _=>(LY aC r5 2 [32] (aV (pO _) fun r6=>uz)))))))))))
def vF(x1:Bool):OB:=some x1
def DP:OB:=am (DM ([(mR.mk 0 (ByteArray.mk #[97]) false (al.mk 2 0 []))])) fun r1=>ak (r1.2==0) (ak (r1.1.nextField==2) (vF ((r1.1.schemas.length:Int)==1)) (vF false)) (vF false)
theorem KT:CT prog 7 [] (DP) vb:=
  cI 24 [1] f7 fun r=>(uPn (Ht _) fun r1 _=>(cu f7 14 1 fun K k=>have J1:∀{x1},vF x1=some r→K.p [(0,vb x1)] [.dead]:=fun{x1} h=>k h uz;(uC (uC (uN (eL af) r1.1.schemas (uJ J1)) (uJ J1)) (uJ J1))))
def sO(p1:List ac):Option (List ac):=iN (0≤(0:Int)∧(0:Int)≤(p1.length:Int)∧(p1.length:Int)≤(p1.length:Int)∧(p1.length:Int)≤(p1.length:Int))<|some ((p1.drop (0:Int).toNat).take ((p1.length:Int).toNat-(0:Int).toNat))
def KN(p1:ac)(l2:List ac):Option ac:=am (sO l2) fun r2=>some (ac.mk p1.kind p1.n p1.scale p1.s r2)
def EQ(q_value_Copy:ac→Option ac)(p1:ac):Nat→List ac→Int→Option ac
 |0,_,_=>none
 |k1+1,l1,x1=>ak (decide (x1<(p1.items.length:Int))) (am (at? p1.items x1) fun e1=>am (q_value_Copy e1) fun r1=>iN (l1.length+1≤4294967296)<|(EQ q_value_Copy p1 k1) (l1++[r1]) (i64.wrap (x1+1))) (KN p1 l1)
def Fk:Nat→ac→Option ac
 |0,_=>none
 |k0+1,p1=>EQ (Fk k0) p1 aH [] 0
def GB(p1:aj)(r1:List ac)(l2:List bB):Option aj:=some (aj.mk p1.name p1.schema p1.spec r1 p1.rows p1.seq l2)
def GV(p1:aj)(r1:List ac)(r3:(Unit×(List bB))):Nat→List bB→Int→Option aj
 |0,_,_=>none
 |k1+1,l1,x1=>ak (decide (x1<((r3.2.length:Nat):Int))) (am (at? l1 x1) fun e1=>am (Fk aH e1.min) fun r4=>am (Fk aH e1.max) fun r5=>am (at? (l1.set x1.toNat (bB.mk e1.id e1.nulls r4 e1.max)) x1) fun e2=>(GV p1 r1 r3 k1) ((l1.set x1.toNat (bB.mk e1.id e1.nulls r4 e1.max)).set x1.toNat (bB.mk e2.id e2.nulls e2.min r5)) (i64.wrap (x1+1))) (GB p1 r1 l1)
def su(rec1:Int→OI)(x1:Int)(x2:Bool):OI:=ak x2 (some 9) (rec1 (i64.wrap (x1+1)))
def wK:OI:=some 0
def hU(p1:List ae)(p2:List ac):Nat→Int→OI
 |0,_=>none
 |k1+1,x1=>ak (decide (x1<(p1.length:Int))) (am (at? p1 x1) fun e1=>am (at? p2 x1) fun e2=>am (oc e1.type e2) fun r1=>ak (r1 != 0) (some r1) (ak e1.need (su (hU p1 p2 k1) x1 (e2.kind==0)) (su (hU p1 p2 k1) x1 false))) (wK)
def A5(p1:List ae)(p2:List ac):OI:=ak ((p2.length:Int) != (p1.length:Int)) (some 1) (hU p1 p2 aH 0)
theorem IQ(p1:List ae)(p2:List ac):CT prog 94 [vl af p1,vl ah p2] (A5 p1 p2) vi:=
  cI 44 [] f94 fun r=>(uN ah p2 (uN af p1 (uC uz (kT f94 14 1 wK [] [] uz fun K J2=>(uN af p1 (gc f94 58 1 fun R b=>have L1:∀k1 {x1},hU p1 p2 k1 x1=some r→(R k1).p [(0,vl af p1),(1,vl ah p2),(13,vi p1.length),(14,vi x1)] []:=uI (fW rfl) fun k1 i1 {x1} h=>b h (uU (hU.eq_2 ..) (uC (nt 9 (uL af fun e1 a15=>(uL ah fun e2 a16=>(aV (vN _ _) fun r1=>(uC jX (cu f94 14950 3 fun K k=>have J1:∀{x2},su (hU p1 p2 k1) x1 x2=some r→K.p [(0,vl af p1),(1,vl ah p2),(13,vi p1.length),(14,vi x1),(42,vb x2)] []:=fun{x2} h=>k h (uC jX (uJ i1));(uM af a15 (uC (uM ah a16 (uJ J1)) (uJ J1))))))))) (uR (.exit 0) (xM (uJ J2)))));uE (L1 aH)))))))
def Ao:OI:=some 0
def jR(p1:List ae)(p2:List (List ac)):Nat→Int→OI
 |0,_=>none
 |k1+1,x1=>ak (decide (x1<(p2.length:Int))) (am (at? p2 x1) fun e1=>am (A5 p1 e1) fun r2=>ak (r2 != 0) (some r2) ((jR p1 p2 k1) (i64.wrap (x1+1)))) (Ao)
def oG(p1:List ae)(p2:List (List ac)):OI:=am (ic p1) fun r1=>ak (r1 != 0) (some r1) (ak (decide (2000<(p2.length:Int))) (some 7) (jR p1 p2 aH 0))
theorem wQ(p1:List ae)(p2:List (List ac)):CT prog 44 [vl af p1,vl (eL ah) p2] (oG p1 p2) vi:=
  cI 30 [] f44 fun r=>(aV (ni _) fun r1=>(uC uz (uN (eL ah) p2 (uC uz (kT f44 30 1 Ao [] [] uz fun K J1=>(uN (eL ah) p2 (gc f44 122 1 fun R b=>have L1:∀k1 {x1},jR p1 p2 k1 x1=some r→(R k1).p [(0,vl af p1),(17,vl (eL ah) p2),(18,vi p2.length),(19,vi x1)] []:=uI (fW rfl) fun k1 i1 {x1} h=>b h (uU (jR.eq_2 ..) (uC (dS (eL ah) fun e1=>(aV (IQ _ _) fun r2=>(uC jX (uJ i1)))) (uR (.exit 0) (xM (uJ J1)))));uE (L1 aH))))))))
def lL(rec2:Int→Int→Int→Int→ByteArray→List ac→Int→Int→Int→ByteArray→List ac→Int→Option ((List bB)×Int))(x2 z12 z13 z14 z15:Int)(z16:ByteArray)(z17:List ac)(z18 z19 z20:Int)(z21:ByteArray)(z22:List ac):Option ((List bB)×Int):=rec2 z12 z13 z14 z15 z16 z17 z18 z19 z20 z21 z22 (i64.wrap (x2+1))
def qb(rec1:List bB→Int→Option ((List bB)×Int))(x1:Int)(l2:List bB):Option ((List bB)×Int):=rec1 l2 (i64.wrap (x1+1))
def tY(rec1:List bB→Int→Option ((List bB)×Int))(l1:List bB)(x1:Int)(e1:ae)(z23 z24 z25 z26:Int)(z27:ByteArray)(z28:List ac)(z29 z30 z31:Int)(z32:ByteArray)(z33:List ac):Option ((List bB)×Int):=iN (l1.length+1≤4294967296)<|qb rec1 x1 (l1++[(bB.mk e1.id z23 (ac.mk z24 z25 z26 z27 z28) (ac.mk z29 z30 z31 z32 z33))])
def dV(rec1:List bB→Int→Option ((List bB)×Int))(p2:List (List ac))(l1:List bB)(x1:Int)(e1:ae):Nat→Int→Int→Int→Int→ByteArray→List ac→Int→Int→Int→ByteArray→List ac→Int→Option ((List bB)×Int)
 |0,_,_,_,_,_,_,_,_,_,_,_,_=>none
 |k2+1,z1,z2,z3,z4,z5,z6,z7,z8,z9,z10,z11,x2=>ak (decide (x2<(p2.length:Int))) (am (at? p2 x2) fun e2=>am (at? e2 x1) fun e3=>ak (e3.kind==0) (lL (dV rec1 p2 l1 x1 e1 k2) x2 (i64.wrap (z1+1)) z2 z3 z4 z5 z6 z7 z8 z9 z10 z11) (ak (z2==0) (lL (dV rec1 p2 l1 x1 e1 k2) x2 z1 e3.kind e3.n e3.scale e3.s e3.items e3.kind e3.n e3.scale e3.s e3.items) (am (bJ aH e3 (ac.mk z2 z3 z4 z5 z6)) fun r3=>ak (decide (r3<0)) (lL (dV rec1 p2 l1 x1 e1 k2) x2 z1 e3.kind e3.n e3.scale e3.s e3.items z7 z8 z9 z10 z11) (am (bJ aH e3 (ac.mk z7 z8 z9 z10 z11)) fun r4=>ak (decide (0<r4)) (lL (dV rec1 p2 l1 x1 e1 k2) x2 z1 z2 z3 z4 z5 z6 e3.kind e3.n e3.scale e3.s e3.items) (lL (dV rec1 p2 l1 x1 e1 k2) x2 z1 z2 z3 z4 z5 z6 z7 z8 z9 z10 z11))))) (tY rec1 l1 x1 e1 z1 z2 z3 z4 z5 z6 z7 z8 z9 z10 z11)
def CK(l3:List bB):Option ((List bB)×Int):=some (l3,0)
def eG(p1:List ae)(p2:List (List ac)):Nat→List bB→Int→Option ((List bB)×Int)
 |0,_,_=>none
 |k1+1,l1,x1=>ak (decide (x1<(p1.length:Int))) (am (at? p1 x1) fun e1=>am (gz e1.type.kind) fun r2=>ak (!r2) (qb (eG p1 p2 k1) x1 l1) (dV (eG p1 p2 k1) p2 l1 x1 e1 aH 0 0 0 0 ByteArray.empty [] 0 0 0 ByteArray.empty [] 0)) (CK l1)
def yF(p1:List ae)(p2:List (List ac)):Option ((List bB)×Int):=am (oG p1 p2) fun r1=>ak (r1 != 0) (some ([],r1)) (eG p1 p2 aH [] 0)
abbrev Vo(p1:(List ae))(p2:(List (List ac)))(l1:List bB)(x1 x2:Int):Fr:=[(1,vl (eL ah) p2),(7,.one (.sl 0 12 0 l1.length)),(8,vi x1),(10,.one (.pt 2 0 0 0)),(20,vl af p1),(21,vi (p1.length:Int)),(22,vi x1),(35,vl (eL ah) p2),(36,vi (p2.length:Int)),(37,vi x2)]
theorem Ku(p1:List ae)(p2:List (List ac)):CT prog 12 [vl af p1,vl (eL ah) p2] (yF p1 p2) (fun r=> .tp [vl cA r.1,vi r.2]):=
  cI 85 [9,10,13] f12 fun r=>(aV (wQ _ _) fun r1=>(uC uz (cu f12 30 1 fun K k=>have J4:∀{l3},CK l3=some r→K.p [(7,.one (.sl 0 12 0 l3.length))] [.arr 12 (cA.els l3)]:=fun{l3} h=>k h (LY cA l3 0 [4] uz);(uN af p1 (Jw (.li 7 12) (gc f12 122 1 fun R b=>have L1:∀k1 {l1 x1},eG p1 p2 k1 l1 x1=some r→(R k1).p [(1,vl (eL ah) p2),(7,.one (.sl 0 12 0 l1.length)),(20,vl af p1),(21,vi p1.length),(22,vi x1)] [.arr 12 (cA.els l1)]:=uI (fW rfl) fun k1 i1 {l1 x1} h=>b h (uU (eG.eq_2 ..) (uC (cu f12 1958 1 fun K k=>have J3:∀{l2},qb (eG p1 p2 k1) x1 l2=some r→K.p [(1,vl (eL ah) p2),(7,.one (.sl 0 12 0 l2.length)),(20,vl af p1),(21,vi p1.length),(22,vi x1)] [.arr 12 (cA.els l2)]:=fun{l2} h=>k h (uJ i1);(dS af fun e1=>(aV (iI _) fun r2=>(uC (uJ J3) (cu f12 62670 2 fun K k=>have J2:∀{z23 z24 z25 z26 z27 z28 z29 z30 z31 z32 z33},tY (eG p1 p2 k1) l1 x1 e1 z23 z24 z25 z26 z27 z28 z29 z30 z31 z32 z33=some r→K.p [(1,vl (eL ah) p2),(7,.one (.sl 0 12 0 l1.length)),(10,vQ 2),(20,vl af p1),(21,vi p1.length),(22,vi x1)] [.arr 12 (cA.els l1),.dead,.box [ci e1.id,ci z23,ci z24,ci z25,ci z26,qm z27,cl ah z28,ci z29,ci z30,ci z31,qm z32,cl ah z33]]:=fun{z23 z24 z25 z26 z27 z28 z29 z30 z31 z32 z33} h=>k h (BY cA 0 [(bB.mk e1.id z23 (ac.mk z24 z25 z26 z27 z28) (ac.mk z29 z30 z31 z32 z33))] (uJ J3));(uN (eL ah) p2 (Jw (.sb 2 6) (Jw (.sb 2 11) (gc f12 250682 1 fun R b=>have L2:∀k2 {z1 z2 z3 z4 z5 z6 z7 z8 z9 z10 z11 x2},dV (eG p1 p2 k1) p2 l1 x1 e1 k2 z1 z2 z3 z4 z5 z6 z7 z8 z9 z10 z11 x2=some r→(R k2).p (Vo p1 p2 l1 x1 x2) [.arr 12 (cA.els l1),.dead,.box [ci e1.id,ci z1,ci z2,ci z3,ci z4,qm z5,cl ah z6,ci z7,ci z8,ci z9,qm z10,cl ah z11]]:=uI (fW rfl) fun k2 i2 {z1 z2 z3 z4 z5 z6 z7 z8 z9 z10 z11 x2} h=>b h (uU (dV.eq_2 ..) (uC (cu f12 4010918 1 fun K k=>have J1:∀{z12 z13 z14 z15 z16 z17 z18 z19 z20 z21 z22},lL (dV (eG p1 p2 k1) p2 l1 x1 e1 k2) x2 z12 z13 z14 z15 z16 z17 z18 z19 z20 z21 z22=some r→K.p (Vo p1 p2 l1 x1 x2) [.arr 12 (cA.els l1),.dead,.box [ci e1.id,ci z12,ci z13,ci z14,ci z15,qm z16,cl ah z17,ci z18,ci z19,ci z20,qm z21,cl ah z22]]:=fun{z12 z13 z14 z15 z16 z17 z18 z19 z20 z21 z22} h=>k h (uJ i2);(dS (eL ah) fun e2=>(dS ah fun e3=>(uC (uJ J1) (uC (KJ 4 0 [4] (uJ J1)) (aV (kV aH _ _) fun r3=>(uC (uJ J1) (aV (kV aH _ _) fun r4=>(uC (uJ J1) (uJ J1)))))))))) (uR (.exit 2) (xM (uJ J2)))));uE (L2 aH)))))))))) (uR (.exit 0) (xM (uJ J4)))));uE (L1 aH)))))))
def lB(rec2:List ac→Int→Option (List ac))(x2:Int)(l3:List ac):Option (List ac):=rec2 l3 (i64.wrap (x2+1))
def nU(rec1:List ac→Int→Option (List ac))(x1:Int)(l4:List ac):Option (List ac):=rec1 l4 (i64.wrap (x1+1))
def dT(rec1:List ac→Int→Option (List ac))(p1:List ae)(p3:List ac)(x1:Int)(e1:bi):Nat→List ac→Int→Option (List ac)
 |0,_,_=>none
 |k2+1,l2,x2=>ak (decide (x2<(p1.length:Int))) (am (at? p1 x2) fun e2=>ak (e2.id==e1.source) (am (at? p3 x2) fun e3=>am (gK e1.transform e3) fun r1=>iN (l2.length+1≤4294967296)<|lB (dT rec1 p1 p3 x1 e1 k2) x2 (l2++[r1])) (lB (dT rec1 p1 p3 x1 e1 k2) x2 l2)) (nU rec1 x1 l2)
def AH(l5:List ac):Option (List ac):=some l5
def eS(p1:List ae)(p2:cg)(p3:List ac):Nat→List ac→Int→Option (List ac)
 |0,_,_=>none
 |k1+1,l1,x1=>ak (decide (x1<(p2.fields.length:Int))) (am (at? p2.fields x1) fun e1=>dT (eS p1 p2 p3 k1) p1 p3 x1 e1 aH l1 0) (AH l1)
def zG(p1:List ae)(p2:cg)(p3:List ac):Option (List ac):=eS p1 p2 p3 aH [] 0
theorem Ih(p1:List ae)(p2:cg)(p3:List ac):CT prog 48 [vl af p1,.ag [cl aC p2.fields],vl ah p3] (zG p1 p2 p3) (vl ah):=
  cI 44 [9] f48 fun r=>(cu f48 14 1 fun K k=>have J3:∀{l5},AH l5=some r→K.p [(7,.one (.sl 0 5 0 l5.length))] [.arr 5 (ah.els l5)]:=fun{l5} h=>k h (LY ah l5 0 [6] uz);(uN aC p2.fields (Jw (.li 7 5) (gc f48 58 1 fun R b=>have L1:∀k1 {l1 x1},eS p1 p2 p3 k1 l1 x1=some r→(R k1).p [(0,vl af p1),(2,vl ah p3),(7,.one (.sl 0 5 0 l1.length)),(12,vl aC p2.fields),(13,vi p2.fields.length),(14,vi x1)] [.arr 5 (ah.els l1)]:=uI (fW rfl) fun k1 i1 {l1 x1} h=>b h (uU (eS.eq_2 ..) (uC (cu f48 934 1 fun K k=>have J2:∀{l4},nU (eS p1 p2 p3 k1) x1 l4=some r→K.p [(0,vl af p1),(2,vl ah p3),(7,.one (.sl 0 5 0 l4.length)),(12,vl aC p2.fields),(13,vi p2.fields.length),(14,vi x1)] [.arr 5 (ah.els l4)]:=fun{l4} h=>k h (uJ i1);(dS aC fun e1=>(uN af p1 (gc f48 14950 2 fun R b=>have L2:∀k2 {l2 x2},dT (eS p1 p2 p3 k1) p1 p3 x1 e1 k2 l2 x2=some r→(R k2).p [(0,vl af p1),(2,vl ah p3),(7,.one (.sl 0 5 0 l2.length)),(9,vQ 1),(12,vl aC p2.fields),(13,vi p2.fields.length),(14,vi x1),(19,vi p1.length),(20,vi x2)] [.arr 5 (ah.els l2),.box [ci e1.source,ci e1.transform.kind,ci e1.transform.param]]:=uI (fW rfl) fun k2 i2 {l2 x2} h=>b h (uU (dT.eq_2 ..) (uC (cu f48 239206 1 fun K k=>have J1:∀{l3},lB (dT (eS p1 p2 p3 k1) p1 p3 x1 e1 k2) x2 l3=some r→K.p [(0,vl af p1),(2,vl ah p3),(7,.one (.sl 0 5 0 l3.length)),(9,vQ 1),(12,vl aC p2.fields),(13,vi p2.fields.length),(14,vi x1),(19,vi p1.length),(20,vi x2)] [.arr 5 (ah.els l3),.box [ci e1.source,ci e1.transform.kind,ci e1.transform.param]]:=fun{l3} h=>k h (uJ i2);(nt 7 (dS af fun e2=>(uC (nt 9 (dS ah fun e3=>(aV (H2 _ _) fun r1=>(uW 39 ah [r1] (BY ah 0 [r1] (uJ J1)))))) (uJ J1))))) (uR (.exit 2) (xM (uJ J2)))));uE (L2 aH))))) (uR (.exit 0) (xM (uJ J3)))));uE (L1 aH)))))
def sK(p1:List ae)(p2:cg)(p3:List ac):Option ((List ac)×Int):=am (oG p1 [p3]) fun r1=>ak (r1 != 0) (some ([],r1)) (am (rL p2 p1) fun r2=>ak (r2 != 0) (some ([],r2)) (am (zG p1 p2 p3) fun r3=>some (r3,0)))
theorem E1(p1:List ae)(p2:cg)(p3:List ac):CT prog 13 [vl af p1,.ag [cl aC p2.fields],vl ah p3] (sK p1 p2 p3) (fun r=> .tp [vl ah r.1,vi r.2]):=
  cI 27 [] f13 fun r=>(aV (wQ _ _) fun r1=>(uC uz (aV (Hf _ _) fun r2=>(uC uz (aV (Ih _ _ _) fun r3=>uz)))))
def yh(p2:al)(l2:List ac):Option ac:=some (ac.mk p2.kind 0 0 ByteArray.empty l2)
def j7(q_ref2_adaptedRow:(List ae)→(List ae)→(List ac)→Option (List ac))(p1 p2:al)(p3:ac):Nat→List ac→Int→Option ac
 |0,_,_=>none
 |k1+1,l1,x1=>ak (decide (x1<(p3.items.length:Int))) (iN (0≤x1∧x1≤(i64.wrap (x1+1))∧(i64.wrap (x1+1))≤(p3.items.length:Int))<|am (q_ref2_adaptedRow p1.fields p2.fields ((p3.items.drop x1.toNat).take ((i64.wrap (x1+1)).toNat-x1.toNat))) fun r4=>iN (l1.length+r4.length≤4294967296)<|(j7 q_ref2_adaptedRow p1 p2 p3 k1) (l1++r4) (i64.wrap (x1+1))) (yh p2 l1)
def pL(rec1:List ac→Int→Option (List ac))(x1:Int)(l2:List ac):Option (List ac):=rec1 l2 (i64.wrap (x1+1))
def uj(l3:List ac):Option (List ac):=some l3
def eU(q_ref2_adapted:al→al→ac→Option ac)(p1 p2:List ae)(p3:List ac):Nat→List ac→Int→Option (List ac)
 |0,_,_=>none
 |k1+1,l1,x1=>ak (decide (x1<(p2.length:Int))) (am (at? p2 x1) fun e1=>am (kD p1 e1.id) fun r1=>ak (decide (r1<0)) (iN (l1.length+1≤4294967296)<|pL (eU q_ref2_adapted p1 p2 p3 k1) x1 (l1++[(ac.mk 0 0 0 ByteArray.empty [])])) (am (at? p1 r1) fun e2=>am (at? p3 r1) fun e3=>am (q_ref2_adapted e2.type e1.type e3) fun r2=>iN (l1.length+1≤4294967296)<|pL (eU q_ref2_adapted p1 p2 p3 k1) x1 (l1++[r2]))) (uj l1)
mutual
def jP:Nat→al→al→ac→Option ac
 |0,_,_,_=>none
 |k0+1,p1,p2,p3=>ak (p3.kind==0) (some p3) (am (gz p2.kind) fun r1=>ak r1 (am (ry p3 p2) fun r2=>some r2) (ak (p2.kind==7) (am ((fi k0) p1.fields p2.fields p3.items) fun r3=>some (ac.mk p2.kind 0 0 ByteArray.empty r3)) (j7 (fi k0) p1 p2 p3 aH [] 0)))
def fi:Nat→(List ae)→(List ae)→(List ac)→Option (List ac)
 |0,_,_,_=>none
 |k0+1,p1,p2,p3=>eU (jP k0) p1 p2 p3 aH [] 0
end
mutual
theorem Js:∀(k0:Nat) (p1 p2:al) (p3:ac),CT prog 101 [mT p1,mT p2,mV p3] (jP k0 p1 p2 p3) (fun r=>mV r)
  |0,_,_,_=>Jd (jP.eq_1 ..)
  |k0+1,p1,p2,p3=>cI 57 [6,7] f101 fun r=>(uU (jP.eq_2 ..) (uC uz (aV (iI _) fun r1=>(uC (aV (My _ _) fun r2=>uz) (uC (aV (vy k0 _ _ _) fun r3=>uz) (cu f101 126 1 fun K k=>have J1:∀{l2},yh p2 l2=some r→K.p [(6,vQ 0),(7,vQ 1)] [.box u6,.box [ci p2.kind,ci (0:Int),ci (0:Int),qm ByteArray.empty,.sl 2 5 0 l2.length],.arr 5 (ah.els l2)]:=fun{l2} h=>k h (LY ah l2 2 [] uz);(uN ah p3.items (Jw (.lb 1 4 5) (gc f101 506 1 fun R b=>have L1:∀k1 {l1 x1},j7 (fi k0) p1 p2 p3 k1 l1 x1=some r→(R k1).p [(3,vR [pi p1.kind,pi p1.scale,.ro (af.els p1.fields)]),(4,vR [pi p2.kind,pi p2.scale,.ro (af.els p2.fields)]),(5,vR [pi p3.kind,pi p3.n,pi p3.scale,.s (.string p3.s),.ro (ah.els p3.items)]),(6,vQ 0),(7,vQ 1),(36,vi p3.items.length),(37,vi x1)] [.box u6,.box [ci p2.kind,ci (0:Int),ci (0:Int),qm ByteArray.empty,.sl 2 5 0 l1.length],.arr 5 (ah.els l1)]:=uI (fW rfl) fun k1 i1 {l1 x1} h=>b h (uU (j7.eq_2 ..) (uC (nt 13 (uX ah (aV (vy k0 _ _ _) fun r4=>(Jw (.stl 1 4) (BY ah 2 r4 (uJ i1)))))) (uR (.exit 0) (xM (uJ J1)))));uE (L1 aH))))))))))
theorem vy:∀(k0:Nat) (p1 p2:List ae) (p3:List ac),CT prog 50 [vl af p1,vl af p2,vl ah p3] (fi k0 p1 p2 p3) (vl ah)
  |0,_,_,_=>Jd (fi.eq_1 ..)
  |k0+1,p1,p2,p3=>cI 44 [9] f50 fun r=>(uU (fi.eq_2 ..) (cu f50 14 1 fun K k=>have J2:∀{l3},uj l3=some r→K.p [(7,.one (.sl 0 5 0 l3.length))] [.arr 5 (ah.els l3)]:=fun{l3} h=>k h (LY ah l3 0 [6] uz);(uN af p2 (Jw (.li 7 5) (gc f50 58 1 fun R b=>have L1:∀k1 {l1 x1},eU (jP k0) p1 p2 p3 k1 l1 x1=some r→(R k1).p [(0,vl af p1),(2,vl ah p3),(7,.one (.sl 0 5 0 l1.length)),(11,vl af p2),(12,vi p2.length),(13,vi x1)] [.arr 5 (ah.els l1)]:=uI (fW rfl) fun k1 i1 {l1 x1} h=>b h (uU (eU.eq_2 ..) (uC (cu f50 934 1 fun K k=>have J1:∀{l2},pL (eU (jP k0) p1 p2 p3 k1) x1 l2=some r→K.p [(0,vl af p1),(2,vl ah p3),(7,.one (.sl 0 5 0 l2.length)),(11,vl af p2),(12,vi p2.length),(13,vi x1)] [.arr 5 (ah.els l2)]:=fun{l2} h=>k h (uJ i1);(dS af fun e1=>(aV (IE _ _) fun r1=>(uC (BY ah 0 ([(ac.mk (0:Int) (0:Int) (0:Int) ByteArray.empty [])]) (uJ J1)) (nt 14 (dS af fun e2=>(dS ah fun e3=>(aV (Js k0 _ _ _) fun r2=>(uW 40 ah [r2] (BY ah 0 [r2] (uJ J1))))))))))) (uR (.exit 0) (xM (uJ J2)))));uE (L1 aH))))))
end
def A7(l2:List (List ac)):Option ((List (List ac))×Int):=some (l2,0)
def ol(p1 p2:List ae)(p3:List (List ac)):Nat→List (List ac)→Int→Option ((List (List ac))×Int)
 |0,_,_=>none
 |k1+1,l1,x1=>ak (decide (x1<(p3.length:Int))) (am (at? p3 x1) fun e1=>am (fi aH p1 p2 e1) fun r4=>iN (l1.length+1≤4294967296)<|(ol p1 p2 p3 k1) (l1++[r4]) (i64.wrap (x1+1))) (A7 l1)
def Cl(p1 p2:List ae)(p3:List (List ac)):Option ((List (List ac))×Int):=am (oG p1 p3) fun r1=>ak (r1 != 0) (some ([],r1)) (am (ic p2) fun r2=>ak (r2 != 0) (some ([],r2)) (am (cq aH p1 p2) fun r3=>ak (r3 != 0) (some ([],r3)) (ol p1 p2 p3 aH [] 0)))
theorem Nh(p1 p2:List ae)(p3:List (List ac)):CT prog 15 [vl af p1,vl af p2,vl (eL ah) p3] (Cl p1 p2 p3) (fun r=> .tp [vl (eL ah) r.1,vi r.2]):=
  cI 46 [] f15 fun r=>(aV (wQ _ _) fun r1=>(uC uz (aV (ni _) fun r2=>(uC uz (aV (wB aH _ _) fun r3=>(uC uz (cu f15 126 1 fun K k=>have J1:∀{l2},A7 l2=some r→K.p [(11,.one (.sl 0 1 0 l2.length))] [.arr 1 ((eL ah).els l2)]:=fun{l2} h=>k h (LY (eL ah) l2 0 [6] uz);(uN (eL ah) p3 (Jw (.li 11 1) (gc f15 506 1 fun R b=>have L1:∀k1 {l1 x1},ol p1 p2 p3 k1 l1 x1=some r→(R k1).p [(0,vl af p1),(1,vl af p2),(11,.one (.sl 0 1 0 l1.length)),(31,vl (eL ah) p3),(32,vi p3.length),(33,vi x1)] [.arr 1 ((eL ah).els l1)]:=uI (fW rfl) fun k1 i1 {l1 x1} h=>b h (uU (ol.eq_2 ..) (uC (dS (eL ah) fun e1=>(aV (vy aH _ _ _) fun r4=>(BY (eL ah) 0 [r4] (uJ i1)))) (uR (.exit 0) (xM (uJ J1)))));uE (L1 aH)))))))))))
def rc(x1:Bool):OB:=some x1
def yu(p1:bA)(p2:ac):OB:=ak (p2.kind != 0) (ak (p1.low.kind==0) (ak (p1.high.kind==0) (rc true) (am (bJ aH p2 p1.high) fun r1=>rc (decide (r1≤(0:Int))))) (am (bJ aH p2 p1.low) fun r2=>ak (decide ((0:Int)≤r2)) (ak (p1.high.kind==0) (rc true) (am (bJ aH p2 p1.high) fun r3=>rc (decide (r3≤(0:Int))))) (rc false))) (rc false)
theorem Tf(p1:bA)(p2:ac):CT prog 51 [.ag [ci p1.id,ci p1.low.kind,ci p1.low.n,ci p1.low.scale,qm p1.low.s,cl ah p1.low.items,ci p1.high.kind,ci p1.high.n,ci p1.high.scale,qm p1.high.s,cl ah p1.high.items],mV p2] (yu p1 p2) vb:=
  cI 34 [] f51 fun r=>(cu f51 6 1 fun K k=>have J1:∀{x1},rc x1=some r→K.p [(4,vb x1)] []:=fun{x1} h=>k h uz;(uC (uC (uC (uJ J1) (aV (kV aH _ _) fun r1=>(uJ J1))) (aV (kV aH _ _) fun r2=>(uC (uC (uJ J1) (aV (kV aH _ _) fun r3=>(uJ J1))) (uJ J1)))) (uJ J1)))
def wZ(rec2:Int→OB)(x2:Int)(x3:Bool):OB:=ak x3 (some false) (rec2 (i64.wrap (x2+1)))
def Bg(rec1:Int→OB)(x1:Int):OB:=rec1 (i64.wrap (x1+1))
def kQ(rec1:Int→OB)(p2:List ae)(p3:List ac)(x1:Int)(e1:bA):Nat→Int→OB
 |0,_=>none
 |k2+1,x2=>ak (decide (x2<(p2.length:Int))) (am (at? p2 x2) fun e2=>ak (e2.id==e1.id) (am (at? p3 x2) fun e3=>am (yu e1 e3) fun r1=>wZ (kQ rec1 p2 p3 x1 e1 k2) x2 (!r1)) (wZ (kQ rec1 p2 p3 x1 e1 k2) x2 false)) (Bg rec1 x1)
def EL:OB:=some true
def gX(p1:List bA)(p2:List ae)(p3:List ac):Nat→Int→OB
 |0,_=>none
 |k1+1,x1=>ak (decide (x1<(p1.length:Int))) (am (at? p1 x1) fun e1=>kQ (gX p1 p2 p3 k1) p2 p3 x1 e1 aH 0) (EL)
def Co(p1:List bA)(p2:List ae)(p3:List ac):OB:=gX p1 p2 p3 aH 0
abbrev UC(e1:bA):List CV:=[ci e1.id,ci e1.low.kind,ci e1.low.n,ci e1.low.scale,qm e1.low.s,cl ah e1.low.items,ci e1.high.kind,ci e1.high.n,ci e1.high.scale,qm e1.high.s,cl ah e1.high.items]
theorem Mo(p1:List bA)(p2:List ae)(p3:List ac):CT prog 16 [vl ju p1,vl af p2,vl ah p3] (Co p1 p2 p3) vb:=
  cI 40 [8] f16 fun r=>(kT f16 6 1 EL [] [] uz fun K J3=>(uN ju p1 (gc f16 26 1 fun R b=>have L1:∀k1 {x1},gX p1 p2 p3 k1 x1=some r→(R k1).p [(1,vl af p2),(2,vl ah p3),(10,vl ju p1),(11,vi p1.length),(12,vi x1)] []:=uI (fW rfl) fun k1 i1 {x1} h=>b h (uU (gX.eq_2 ..) (uC (kT f16 422 1 (Bg (gX p1 p2 p3 k1) x1) [(1,vl af p2),(2,vl ah p3),(10,vl ju p1),(11,vi p1.length),(12,vi x1)] [] (uJ i1) fun K J2=>(dS ju fun e1=>(uN af p2 (gc f16 6758 2 fun R b=>have L2:∀k2 {x2},kQ (gX p1 p2 p3 k1) p2 p3 x1 e1 k2 x2=some r→(R k2).p [(1,vl af p2),(2,vl ah p3),(8,vQ 0),(10,vl ju p1),(11,vi p1.length),(12,vi x1),(17,vi p2.length),(18,vi x2)] [.box (UC e1)]:=uI (fW rfl) fun k2 i2 {x2} h=>b h (uU (kQ.eq_2 ..) (uC (cu f16 865074 3 fun K k=>have J1:∀{x3},wZ (kQ (gX p1 p2 p3 k1) p2 p3 x1 e1 k2) x2 x3=some r→K.p [(1,vl af p2),(2,vl ah p3),(8,vQ 0),(10,vl ju p1),(11,vi p1.length),(12,vi x1),(17,vi p2.length),(18,vi x2),(37,vb x3)] [.box (UC e1)]:=fun{x3} h=>k h (uC (uR .ret (xN (xN (xN (xN xF))))) (uJ i2));(nt 14 (dS af fun e2=>(uC (dS ah fun e3=>(aV (Tf _ _) fun r1=>(uJ J1))) (uJ J1))))) (uR (.exit 2) (xM (uJ J2)))));uE (L2 aH))))) (uR (.exit 0) (xM (uJ J3)))));uE (L1 aH))))
def eM(rec1:List ac→Int→OB)(x2:Int)(r4:((List ac)×Int))(x3:Bool):OB:=ak x3 (some true) (rec1 r4.1 (i64.wrap (x2+1)))
def nW:OB:=some true
def cF(p5:List bA)(e4:List ae)(r7:((List (List ac))×Int)):Nat→Int→OB
 |0,_=>none
 |k2+1,x5=>ak (decide (x5<(r7.1.length:Int))) (am (at? r7.1 x5) fun e5=>am (Co p5 e4 e5) fun r8=>ak r8 (some false) ((cF p5 e4 r7 k2) (i64.wrap (x5+1)))) (nW)
def cJ(p1:ax)(p2:Int)(p4:List (List ac))(p5:List bA)(e1:List ae)(x4:Bool):OB:=ak x4 (some true) (am (at? p1.schemas p2) fun e4=>am (Cl e1 e4 p4) fun r7=>ak (r7.2 != 0) (some true) (cF p5 e4 r7 aH 0))
def jV(p1:ax)(p2:Int)(p3:aj)(p4:List (List ac))(p5:List bA)(e1:List ae)(r3:((List bB)×Int))(z2:List ac):OB:=am (Bx p1 p2 (aj.mk p3.name p3.schema p3.spec z2 (p4.length:Int) p3.seq r3.1) p5) fun r6=>ak (r6.2 != 0) (cJ p1 p2 p4 p5 e1 true) (cJ p1 p2 p4 p5 e1 r6.1)
def bv(p1:ax)(p2:Int)(p3:aj)(p4:List (List ac))(p5:List bA)(e1:List ae)(r3:((List bB)×Int)):Nat→List ac→Int→OB
 |0,_,_=>none
 |k1+1,z1,x2=>ak (decide (x2<(p4.length:Int))) (am (at? p4 x2) fun e2=>am (at? p1.specs p3.spec) fun e3=>am (sK e1 e3 e2) fun r4=>ak (r4.2 != 0) (eM (bv p1 p2 p3 p4 p5 e1 r3 k1) x2 r4 true) (ak (decide (0<x2)) (am (jj r4.1 z1) fun r5=>eM (bv p1 p2 p3 p4 p5 e1 r3 k1) x2 r4 (r5 != 0)) (eM (bv p1 p2 p3 p4 p5 e1 r3 k1) x2 r4 false))) (jV p1 p2 p3 p4 p5 e1 r3 z1)
def bj(p1:ax)(p2:Int)(p3:aj)(p4:List (List ac))(p5:List bA)(x1:Bool):OB:=ak x1 (some true) (am (at? p1.schemas p3.schema) fun e1=>am (yF e1 p4) fun r3=>ak (r3.2 != 0) (some true) (bv p1 p2 p3 p4 p5 e1 r3 aH p3.part 0))
def iH(p1:ax)(p2:Int)(p3:aj)(p4:List (List ac))(p5:List bA):OB:=am (DP) fun r1=>ak (!r1) (some false) (am (zW p1) fun r2=>ak (r2 != 0) (bj p1 p2 p3 p4 p5 true) (ak (decide (p3.schema<0)) (bj p1 p2 p3 p4 p5 true) (ak (decide ((p1.schemas.length:Int)≤p3.schema)) (bj p1 p2 p3 p4 p5 true) (ak (decide (p3.spec<0)) (bj p1 p2 p3 p4 p5 true) (ak (decide ((p1.specs.length:Int)≤p3.spec)) (bj p1 p2 p3 p4 p5 true) (ak (decide (p2<p3.schema)) (bj p1 p2 p3 p4 p5 true) (ak (decide ((p1.schemas.length:Int)≤p2)) (bj p1 p2 p3 p4 p5 true) (bj p1 p2 p3 p4 p5 ((p4.length:Int)==0)))))))))
abbrev U6(p3:aj):List CV:=[qm p3.name,ci p3.schema,ci p3.spec,cl ah p3.part,ci p3.rows,ci p3.seq,cl cA p3.stats]
theorem wc(p1:ax)(p2:Int)(p3:aj)(p4:List (List ac))(p5:List bA):CT prog 4 [mM p1,vi p2,.ag (U6 p3),vl (eL ah) p4,vl ju p5] (iH p1 p2 p3 p4 p5) vb:=
  cI 166 [7] f4 fun r=>(aV KT fun r1=>(uC uz (cu f4 28 2 fun K k=>have J1:∀{x1},bj p1 p2 p3 p4 p5 x1=some r→K.p [(1,vi p2),(3,vl (eL ah) p4),(4,vl ju p5),(5,vR (bH p1)),(7,vQ 0),(70,vb x1)] [.box (U6 p3)]:=fun{x1} h=>k h (uC uz (dS (eL af) fun e1=>(aV (Ku _ _) fun r3=>(uC uz (uN (eL ah) p4 (cu f4 510 1 fun K k=>have J3:∀{z2},jV p1 p2 p3 p4 p5 e1 r3 z2=some r→K.p [(1,vi p2),(3,vl (eL ah) p4),(4,vl ju p5),(5,vR (bH p1)),(7,vQ 0),(11,vl af e1)] [.box [qm p3.name,ci p3.schema,ci p3.spec,cl ah z2,ci (p4.length:Int),ci p3.seq,cl cA r3.1]]:=fun{z2} h=>k h (aV (N6 _ _ _ _) fun r6=>(cu f4 4092 2 fun K k=>have J4:∀{x4},cJ p1 p2 p4 p5 e1 x4=some r→K.p [(1,vi p2),(3,vl (eL ah) p4),(4,vl ju p5),(5,vR (bH p1)),(11,vl af e1),(137,vb x4)] [.dead]:=fun{x4} h=>k h (uC uz (uL (eL af) fun e4 a54=>(aV (Nh _ _ _) fun r7=>(uC uz (kT f4 16382 1 nW [] [.dead] uz fun K J5=>(uN (eL ah) r7.1 (gc f4 65530 1 fun R b=>have L2:∀k2 {x5},cF p5 e4 r7 k2 x5=some r→(R k2).p [(1,vi p2),(4,vl ju p5),(5,vR (bH p1)),(151,vl (eL ah) r7.1),(152,vi r7.1.length),(153,vi x5)] [.dead]:=uI (fW rfl) fun k2 i2 {x5} h=>b h (uU (cF.eq_2 ..) (uC (dS (eL ah) fun e5=>(uM (eL af) a54 (aV (Mo _ _ _) fun r8=>(uC jX (uJ i2))))) (uR (.exit 2) (xM (uJ J5)))));uE (L2 aH))))))));(uC (uJ J4) (uJ J4))));(uN (eL ah) p4 (gc f4 2042 1 fun R b=>have L1:∀k1 {z1 x2},bv p1 p2 p3 p4 p5 e1 r3 k1 z1 x2=some r→(R k1).p [(1,vi p2),(3,vl (eL ah) p4),(4,vl ju p5),(5,vR (bH p1)),(7,vQ 0),(11,vl af e1),(90,vl (eL ah) p4),(91,vi p4.length),(92,vi x2)] [.box [qm p3.name,ci p3.schema,ci p3.spec,cl ah z1,ci (p4.length:Int),ci p3.seq,cl cA r3.1]]:=uI (fW rfl) fun k1 i1 {z1 x2} h=>b h (uU (bv.eq_2 ..) (uC (dS (eL ah) fun e2=>(dS fU fun e3=>(aV (E1 _ _ _) fun r4=>(cu f4 1045708 4 fun K k=>have J2:∀{x3},eM (bv p1 p2 p3 p4 p5 e1 r3 k1) x2 r4 x3=some r→K.p [(1,vi p2),(3,vl (eL ah) p4),(4,vl ju p5),(5,vR (bH p1)),(7,vQ 0),(11,vl af e1),(16,vl ah r4.1),(90,vl (eL ah) p4),(91,vi p4.length),(92,vi x2),(121,vb x3)] [.box [qm p3.name,ci p3.schema,ci p3.spec,cl ah z1,ci (p4.length:Int),ci p3.seq,cl cA r3.1]]:=fun{x3} h=>k h (uC jX (uJ i1));(uC (uJ J2) (uC (aV (zL _ _) fun r5=>(uJ J2)) (uJ J2))))))) (uR (.exit 0) (xM (uJ J3)))));uE (L1 aH)))))))));(aV (Nm _) fun r2=>(uC (uJ J1) (uC (uJ J1) (uN (eL af) p1.schemas (uC (uJ J1) (uC (uJ J1) (uN fU p1.specs (uC (uJ J1) (uC (uJ J1) (uN (eL af) p1.schemas (uC (uJ J1) (uN (eL ah) p4 (uJ J1))))))))))))))))
end Go.Proofs.YtpiohnabdhpphaaGreatDoor
