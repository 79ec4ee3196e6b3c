/- The shelf's contract of utf8.ValidString, laid at this program. Searching a byte in a text and comparing texts: by the contracts of the shelf. slices. And what it needs. -/
import Derived.Test.YtpiohnabdhpphaaGreatDoorProg
import Derived.Shelf.Small.Strs
import Derived.Test.YtpiohnabdhpphaaGreatDoorChecked
import Derived.Test.YtpiohnabdhpphaaGreatDoorSxC
set_option linter.unusedVariables false
set_option linter.unusedSimpArgs false
set_option linter.unnecessarySimpa false
namespace Go.Proofs.YtpiohnabdhpphaaGreatDoor
open Go Go.SX Go.Shelf Go.Lib
def Zx:Ren where
 f:=fun n=>if n=196 then 264 else if n=259 then 290 else n
 t:=fun n=>if n=0 then 0 else if n=3 then 3 else if n=4 then 4 else if n=5 then 5 else if n=9 then 9 else if n=12 then 12 else if n=46 then 205 else if n=53 then 188 else if n=119 then 282 else if n=138 then 284 else if n=139 then 285 else n
 g:=fun n=>if n=3 then 1 else if n=4 then 2 else n
set_option maxRecDepth 100000 in
theorem WY:Lays.n196 Tryz.prog Zx where
 mixed:=by kernel_rfl
 f196:=by kernel_rfl
 f259:=by kernel_rfl
 t0:=by kernel_rfl
 a0:=fun w=>by kernel_rfl
 z0:=fun w=>by kernel_rfl
 v0:=fun w=>by kernel_rfl
 t3:=by kernel_rfl
 a3:=fun w=>by kernel_rfl
 z3:=fun w=>by kernel_rfl
 v3:=fun w=>by kernel_rfl
 t4:=by kernel_rfl
 a4:=fun w=>by kernel_rfl
 z4:=fun w=>by kernel_rfl
 v4:=fun w=>by kernel_rfl
 t5:=by kernel_rfl
 a5:=fun w=>by kernel_rfl
 z5:=fun w=>by kernel_rfl
 v5:=fun w=>by kernel_rfl
 t9:=by kernel_rfl
 a9:=fun w=>by kernel_rfl
 z9:=fun w=>by kernel_rfl
 v9:=fun w=>by kernel_rfl
 t12:=by kernel_rfl
 a12:=fun w=>by kernel_rfl
 z12:=fun w=>by kernel_rfl
 v12:=fun w=>by kernel_rfl
 t46:=by kernel_rfl
 a46:=fun w=>by kernel_rfl
 z46:=fun w=>by kernel_rfl
 v46:=fun w=>by kernel_rfl
 t53:=by kernel_rfl
 a53:=fun w=>by kernel_rfl
 z53:=fun w=>by kernel_rfl
 v53:=fun w=>by kernel_rfl
 t119:=by kernel_rfl
 a119:=fun w=>by kernel_rfl
 z119:=fun w=>by kernel_rfl
 t138:=by kernel_rfl
 a138:=fun w=>by kernel_rfl
 z138:=fun w=>by kernel_rfl
 v138:=fun w=>by kernel_rfl
 t139:=by kernel_rfl
 a139:=fun w=>by kernel_rfl
 z139:=fun w=>by kernel_rfl
 v139:=fun w=>by kernel_rfl
 g3:=by kernel_rfl
 g4:=by kernel_rfl
def utf8_ValidString(p1:ByteArray):Option Bool:=iN (p1.size≤9223372036854775807)<|some (validD p1.data.toList)
theorem zK(p1:ByteArray)(r:Bool)(h:utf8_ValidString p1=some r):PC Tryz.prog 264 [vs p1] (vb r):=by
 unfold utf8_ValidString at h;obtain⟨g1,h⟩:=rj h;obtain rfl:=Option.some.inj h;exact Kx WY (by kernel_rfl) (by kernel_rfl) p1 g1
end Go.Proofs.YtpiohnabdhpphaaGreatDoor
namespace Go.Proofs.YtpiohnabdhpphaaGreatDoor
open Go Go.SX Go.Shelf Go.Lib Go.Proofs Go.RowKit
def lrm:Ren where
 f:=fun n=>if n=106 then 205 else if n=137 then 168 else if n=213 then 242 else if n=217 then 212 else if n=265 then 271 else if n=266 then 245 else n
 t:=fun n=>if n=3 then 3 else if n=5 then 5 else if n=9 then 9 else n
 g:=fun n=>n
set_option maxRecDepth 100000 in
theorem ae8:Lays.n137 Tryz.prog lrm:=by constructor<;>intros<;>kernel_rfl
set_option maxRecDepth 100000 in
theorem aeH:Lays.n106 Tryz.prog lrm:=by constructor<;>intros<;>kernel_rfl
def strings_IndexByte(p1:ByteArray)(p2:Int):Option Int:=some (Lib.indexByte p1.data.toList p2.toNat.toUInt8)
theorem yt(p1:ByteArray)(p2:Int):CT Tryz.prog 168 [vs p1,vk .u8 p2] (strings_IndexByte p1 p2) vi:=by
 intro r h;obtain rfl:=Option.some.inj h;exact PC.below (us:=[.string p1,.int .u8 p2]) rfl fun w _=>(Any.strings_IndexByte ae8 p1 p2 w).mono (by rintro e w' ⟨rfl,rfl⟩;exact⟨rfl,.refl _ _⟩)
def strings_Compare(p1 p2:ByteArray):Option Int:=some (Lib.compareBytes p1.data.toList p2.data.toList)
theorem Gr(p1 p2:ByteArray):CT Tryz.prog 205 [vs p1,vs p2] (strings_Compare p1 p2) vi:=by
 intro r h;obtain rfl:=Option.some.inj h;exact PC.below (us:=[.string p1,.string p2]) rfl fun w _=>(Any.strings_Compare aeH p1 p2 w).mono (by rintro e w' ⟨rfl,rfl⟩;exact⟨rfl,.refl _ _⟩)
end Go.Proofs.YtpiohnabdhpphaaGreatDoor
namespace Go.Proofs.YtpiohnabdhpphaaGreatDoor
open Go Go.SX
set_option maxRecDepth 100000
end Go.Proofs.YtpiohnabdhpphaaGreatDoor
namespace Go.Proofs.YtpiohnabdhpphaaGreatDoor
open Go.SX Go Tryz
open Go.IntKind (i64)
set_option maxRecDepth 100000
set_option maxHeartbeats 8000000
abbrev OI:=Option Int
abbrev OB:=Option Bool
abbrev mM(x:ax):AV:= .ag [cl (eL af) x.schemas,cl fU x.specs,ci x.nextField,ci x.nextSeq,ci x.nextSnap,ci x.purges,cl aU x.snapshots,cl oS x.refs,cl lE x.props]
abbrev mS(x:aw):AV:= .ag [ci x.id,ci x.parent,ci x.seq,ci x.schema,ci x.time,ci x.kind,cl be x.files,cl fL x.dat,cl eH x.dby]
abbrev mV(x:ac):AV:= .ag [ci x.kind,ci x.n,ci x.scale,qm x.s,cl ah x.items]
abbrev mT(x:al):AV:= .ag [ci x.kind,ci x.scale,cl af x.fields]
abbrev mF(x:aj):AV:= .ag [qm x.name,ci x.schema,ci x.spec,cl ah x.part,ci x.rows,ci x.seq,cl cA x.stats]
abbrev mf(x:ae):AV:= .ag [ci x.id,qm x.name,cb x.need,ci x.type.kind,ci x.type.scale,cl af x.type.fields]
abbrev mD(x:cX):AV:= .ag [ci x.schema,cl eI x.ids,cl (eL ah) x.keys,ci x.seq]
abbrev mW(x:bw):AV:= .ag [cb x.neg,ck .u64 x.size.1,ck .u64 x.size.2.1,ck .u64 x.size.2.2.1,ck .u64 x.size.2.2.2]
abbrev mA(x:bB):AV:= .ag [ci x.id,ci x.nulls,ci x.min.kind,ci x.min.n,ci x.min.scale,qm x.min.s,cl ah x.min.items,ci x.max.kind,ci x.max.n,ci x.max.scale,qm x.max.s,cl ah x.max.items]
def pR(rec1:Int→Bool→Int→OI)(x2 x4:Int)(e1:aw)(x5:Bool):OI:=am (some (i64.wrap (x2+(i64.wrap ((e1.files.length:Int)+(e1.dby.length:Int)))))) fun y1=>rec1 y1 x5 (i64.wrap (x4+1))
def tQ(x8:Bool):OI:=ak x8 (some 7) (some 0)
def xU(x6:Int)(x7:Bool):OI:=ak x7 (tQ true) (tQ (decide (4000<x6)))
def hH(p1:ax):Nat→Int→Bool→Int→OI
 |0,_,_,_=>none
 |k1+1,x2,x3,x4=>ak (decide (x4<(p1.snapshots.length:Int))) (am (at? p1.snapshots x4) fun e1=>ak x3 (pR (hH p1 k1) x2 x4 e1 true) (ak (decide (400<(e1.files.length:Int))) (pR (hH p1 k1) x2 x4 e1 true) (pR (hH p1 k1) x2 x4 e1 (decide (400<(e1.dby.length:Int)))))) (xU x2 x3)
def j4(p1:ax)(x1:Bool):OI:=hH p1 aH 0 x1 0
def sC(p1:ax):OI:=ak (decide (40<(p1.schemas.length:Int))) (j4 p1 true) (ak (decide (40<(p1.specs.length:Int))) (j4 p1 true) (ak (decide (200<(p1.snapshots.length:Int))) (j4 p1 true) (ak (decide (40<(p1.refs.length:Int))) (j4 p1 true) (j4 p1 (decide (40<(p1.props.length:Int)))))))
theorem JG(p1:ax):CT prog 52 [mM p1] (sC p1) vi:=
  cI 70 [6] f52 fun r=>(cu f52 14 1 fun K k=>have J1:∀{x1},j4 p1 x1=some r→K.p [(1,vR [.ro ((eL af).els p1.schemas),.ro (fU.els p1.specs),pi p1.nextField,pi p1.nextSeq,pi p1.nextSnap,pi p1.purges,.ro (aU.els p1.snapshots),.ro (oS.els p1.refs),.ro (lE.els p1.props)]),(3,vi (0:Int)),(4,vb x1)] []:=fun{x1} h=>k h (cu f52 30 1 fun K k=>have J3:∀{x6 x7},xU x6 x7=some r→K.p [(3,vi x6),(4,vb x7)] []:=fun{x6 x7} h=>k h (cu f52 124 2 fun K k=>have J4:∀{x8},tQ x8=some r→K.p [(69,vb x8)] []:=fun{x8} h=>k h (uC uz uz);(uC (uJ J4) (uJ J4)));(uN aU p1.snapshots (gc f52 122 1 fun R b=>have L1:∀k1 {x2 x3 x4},hH p1 k1 x2 x3 x4=some r→(R k1).p [(3,vi x2),(4,vb x3),(36,vl aU p1.snapshots),(37,vi p1.snapshots.length),(38,vi x4)] []:=uI (fW rfl) fun k1 i1 {x2 x3 x4} h=>b h (uU (hH.eq_2 ..) (uC (dS aU fun e1=>(cu f52 15666 3 fun K k=>have J2:∀{x5},pR (hH p1 k1) x2 x4 e1 x5=some r→K.p [(3,vi x2),(4,vb x5),(6,vQ 0),(36,vl aU p1.snapshots),(37,vi p1.snapshots.length),(38,vi x4)] [.box [ci e1.id,ci e1.parent,ci e1.seq,ci e1.schema,ci e1.time,ci e1.kind,cl be e1.files,cl fL e1.dat,cl eH e1.dby]]:=fun{x5} h=>k h (uN be e1.files (uN eH e1.dby (uY 63 vi fun y1=>(uJ i1))));(uC (uJ J2) (uN be e1.files (uC (uJ J2) (uN eH e1.dby (uJ J2))))))) (uR (.exit 0) (xM (uJ J3)))));uE (L1 aH))));(uN (eL af) p1.schemas (uC (uJ J1) (uN fU p1.specs (uC (uJ J1) (uN aU p1.snapshots (uC (uJ J1) (uN oS p1.refs (uC (uJ J1) (uN lE p1.props (uJ J1)))))))))))
def tU(x1:Bool):OB:=some x1
def dM(p1 p2 p3:Int):OB:=ak (decide (p2≤p1)) (tU (decide (p1≤p3))) (tU false)
theorem dI(p1 p2 p3:Int):CT prog 18 [vi p1,vi p2,vi p3] (dM p1 p2 p3) vb:=
  cI 15 [] f18 fun r=>(cu f18 6 1 fun K k=>have J1:∀{x1},tU x1=some r→K.p [(6,vb x1)] []:=fun{x1} h=>k h uz;(uC (uJ J1) (uJ J1)))
def xl(x1:Bool):OB:=some x1
def zX(p1:al):OB:=ak (p1.kind != 6) (xl (p1.kind != 7)) (xl false)
theorem Hb(p1:al):CT prog 187 [mT p1] (zX p1) vb:=
  cI 11 [] f187 fun r=>(cu f187 6 1 fun K k=>have J1:∀{x1},xl x1=some r→K.p [(2,vb x1)] []:=fun{x1} h=>k h uz;(uC (uJ J1) (uJ J1)))
def iW(x1:Bool):OB:=some x1
def yE(p1:Int):OB:=ak (decide (p1<97)) (ak (decide (p1<48)) (iW (p1 != 95)) (ak (decide (57<p1)) (iW (p1 != 95)) (iW false))) (ak (decide (122<p1)) (ak (decide (p1<48)) (iW (p1 != 95)) (ak (decide (57<p1)) (iW (p1 != 95)) (iW false))) (iW false))
theorem JJ(p1:Int):CT prog 165 [vk .i32 p1] (yE p1) vb:=
  cI 21 [] f165 fun r=>(cu f165 6 1 fun K k=>have J1:∀{x1},iW x1=some r→K.p [(2,vb x1)] []:=fun{x1} h=>k h uz;(uC (uC (uJ J1) (uC (uJ J1) (uJ J1))) (uC (uC (uJ J1) (uC (uJ J1) (uJ J1))) (uJ J1))))
def lO:OI:=some (-1)
def cL(p1:ByteArray)(p2:Bool):Nat→Nat→OI
 |0,_=>none
 |k1+1,z1=>ak (decide (z1<p1.size)) (am (yE (Int.ofNat (Utf8.decode p1 z1).1)) fun r1=>ak (r1==p2) (some (Int.ofNat z1)) ((cL p1 p2 k1) (z1+(Utf8.decode p1 z1).2))) (lO)
def jq(p1:ByteArray)(p2:Bool):OI:=cL p1 p2 aH 0
theorem sU(p1:ByteArray)(p2:Bool):CT prog 211 [vs p1,.one (.pv (.fn 165 [])),vb p2] (jq p1 p2) vi:=
  cI 21 [] f211 fun r=>(kT f211 6 1 lO [] [] uz fun K J1=>(uRg p1 (gc f211 26 1 fun R b=>have L1:∀k1 {z1},cL p1 p2 k1 z1=some r→(R k1).p [(1,.one (.pv (.fn 165 []))),(2,vb p2),(10,vQ 0)] [.raw (.stringIter p1 z1)]:=uI (fW rfl) fun k1 i1 {z1} h=>b h (uU (cL.eq_2 ..) (uNx 0 (fun b5=>(uT (aV (JJ _) fun r1=>(uC jX (uJ i1))))) (fun b5=>(uF (uR (.exit 0) (xM (uJ J1)))))));uE (L1 aH))))
def jv(p1:ByteArray):OI:=am (jq p1 true) fun r1=>some r1
theorem tj(p1:ByteArray):CT prog 167 [vs p1,.one (.pv (.fn 165 []))] (jv p1) vi:=
  cI 8 [] f167 fun r=>(aV (sU _ _) fun r1=>uz)
def ix(p1:ByteArray):OB:=am (jv p1) fun r1=>some (decide (0≤r1))
theorem rU(p1:ByteArray):CT prog 114 [vs p1,.one (.pv (.fn 165 []))] (ix p1) vb:=
  cI 9 [] f114 fun r=>(aV (tj _) fun r1=>uz)
def ql(p1:ByteArray)(x1:Bool):OB:=ak x1 (some false) (am (ix p1) fun r1=>some (!r1))
def wI(p1:ByteArray):OB:=ak (p1.toList==(ByteArray.mk #[]).toList) (ql p1 true) (ak (decide ((24:Int)<(p1.size:Int))) (ql p1 true) (iN (0≤(0:Int)∧(0:Int)<(p1.size:Int))<|am (some (decide (((p1.data.toList.getD (0:Int).toNat 0).toNat:Int)<(97:Int)))) fun y1=>ak y1 (ql p1 true) (iN (0≤(0:Int)∧(0:Int)<(p1.size:Int))<|am (some (decide ((122:Int)<((p1.data.toList.getD (0:Int).toNat 0).toNat:Int)))) fun y2=>ql p1 y2)))
theorem Cn(p1:ByteArray):CT prog 110 [vs p1] (wI p1) vb:=
  cI 25 [] f110 fun r=>(cu f110 12 2 fun K k=>have J1:∀{x1},ql p1 x1=some r→K.p [(0,vs p1),(20,vb x1)] []:=fun{x1} h=>k h (uC uz (aV (rU _) fun r1=>uz));(uC (uJ J1) (uC (uJ J1) (uG (uY 14 vb fun y1=>(uC (uJ J1) (uG (uY 19 vb fun y2=>(uJ J1)))))))))
def zd(p1:ae):OB:=am (wI p1.name) fun r1=>some (!r1)
theorem HR(p1:ae):CT prog 231 [mf p1] (zd p1) vb:=
  cI 7 [] f231 fun r=>(aV (Cn _) fun r1=>uz)
def fw:OI:=some (-1)
def aP(p1:List ae):Nat→Int→OI
 |0,_=>none
 |k1+1,x1=>ak (decide (x1<(p1.length:Int))) (am (at? p1 x1) fun e1=>am (zd e1) fun r1=>ak r1 (some x1) ((aP p1 k1) (i64.wrap (x1+1)))) (fw)
def dD(p1:List ae):OI:=aP p1 aH 0
theorem ld(p1:List ae):CT prog 118 [vl af p1,.one (.pv (.fn 231 []))] (dD p1) vi:=
  cI 19 [] f118 fun r=>(kT f118 6 1 fw [] [] uz fun K J1=>(uN af p1 (gc f118 26 1 fun R b=>have L1:∀k1 {x1},aP p1 k1 x1=some r→(R k1).p [(0,vl af p1),(1,.one (.pv (.fn 231 []))),(7,vi p1.length),(8,vi x1)] []:=uI (fW rfl) fun k1 i1 {x1} h=>b h (uU (aP.eq_2 ..) (uC (dS af fun e1=>(aV (HR _) fun r1=>(uC jX (uJ i1)))) (uR (.exit 0) (xM (uJ J1)))));uE (L1 aH))))
def cm(p1:List ae):OB:=am (dD p1) fun r1=>some (decide (0≤r1))
theorem ko(p1:List ae):CT prog 230 [vl af p1,.one (.pv (.fn 231 []))] (cm p1) vb:=
  cI 9 [] f230 fun r=>(aV (ld _) fun r1=>uz)
def zU(p1 p2:ae):Option (Bool×ae):=some ((p1.name.toList==p2.name.toList),p2)
theorem HJ(p1 p2:ae):CM prog 232 [mf p1,vQ 0] [.box [ci p2.id,qm p2.name,cb p2.need,ci p2.type.kind,ci p2.type.scale,cl af p2.type.fields]] (zU p1 p2) (fun r=>vb r.1) (fun r=>[.box [ci r.2.id,qm r.2.name,cb r.2.need,ci r.2.type.kind,ci r.2.type.scale,cl af r.2.type.fields]]):=
  wP 1 9 [] f232 fun r=>(uR .ret ut)
def dm(z7:Int)(z8:ByteArray)(z9:Bool)(z10 z11:Int)(z12:List ae):Option (Int×ae):=some ((-1),(mR.mk z7 z8 z9 (al.mk z10 z11 z12)))
def aG(p1:List ae):Nat→Int→ByteArray→Bool→Int→Int→List ae→Int→Option (Int×ae)
 |0,_,_,_,_,_,_,_=>none
 |k1+1,z1,z2,z3,z4,z5,z6,x1=>ak (decide (x1<(p1.length:Int))) (am (at? p1 x1) fun e1=>am (zU e1 (mR.mk z1 z2 z3 (al.mk z4 z5 z6))) fun r1=>ak r1.1 (some (x1,r1.2)) ((aG p1 k1) r1.2.id r1.2.name r1.2.need r1.2.type.kind r1.2.type.scale r1.2.type.fields (i64.wrap (x1+1)))) (dm z1 z2 z3 z4 z5 z6)
def dB(p1:List ae)(p2:ae):Option (Int×ae):=aG p1 aH p2.id p2.name p2.need p2.type.kind p2.type.scale p2.type.fields 0
theorem kZ(p1:List ae)(p2:ae):CM prog 118 [vl af p1,.one (.fn 232 [.pt 0 0 0 0])] [.box [ci p2.id,qm p2.name,cb p2.need,ci p2.type.kind,ci p2.type.scale,cl af p2.type.fields]] (dB p1 p2) (fun r=>vi r.1) (fun r=>[.box [ci r.2.id,qm r.2.name,cb r.2.need,ci r.2.type.kind,ci r.2.type.scale,cl af r.2.type.fields]]):=
  wP 1 19 [] f118 fun r=>(cu f118 6 1 fun K k=>have J1:∀{z7 z8 z9 z10 z11 z12},dm z7 z8 z9 z10 z11 z12=some r→K.p [] [.box [ci z7,qm z8,cb z9,ci z10,ci z11,cl af z12]]:=fun{z7 z8 z9 z10 z11 z12} h=>k h (uR .ret ut);(uN af p1 (gc f118 26 1 fun R b=>have L1:∀k1 {z1 z2 z3 z4 z5 z6 x1},aG p1 k1 z1 z2 z3 z4 z5 z6 x1=some r→(R k1).p [(0,vl af p1),(1,.one (.fn 232 [.pt 0 0 0 0])),(7,vi p1.length),(8,vi x1)] [.box [ci z1,qm z2,cb z3,ci z4,ci z5,cl af z6]]:=uI (fW rfl) fun k1 i1 {z1 z2 z3 z4 z5 z6 x1} h=>b h (uU (aG.eq_2 ..) (uC (dS af fun e1=>(EJ true [0] (HJ _ _) fun r1 _=>(uC (uR .ret (xN (xN ut))) (uJ i1)))) (uR (.exit 0) (xM (uJ J1)))));uE (L1 aH))))
def cj(p1:List ae)(p2:ae):Option (Bool×ae):=am (dB p1 p2) fun r1=>some ((decide (0≤r1.1)),r1.2)
theorem kv(p1:List ae)(p2:ae):CM prog 230 [vl af p1,.one (.fn 232 [.pt 0 0 0 0])] [.box [ci p2.id,qm p2.name,cb p2.need,ci p2.type.kind,ci p2.type.scale,cl af p2.type.fields]] (cj p1 p2) (fun r=>vb r.1) (fun r=>[.box [ci r.2.id,qm r.2.name,cb r.2.need,ci r.2.type.kind,ci r.2.type.scale,cl af r.2.type.fields]]):=
  wP 1 9 [] f230 fun r=>(EJ true [0] (kZ _ _) fun r1 _=>(uR .ret ut))
def tS(x1:Bool):OI:=ak x1 (some 1) (some 0)
def CE:OI:=some 0
def gS(p1:al):Nat→Int→OI
 |0,_=>none
 |k1+1,x2=>ak (decide (x2<(p1.fields.length:Int))) (am (at? p1.fields x2) fun e2=>iN (0≤(0:Int)∧(0:Int)≤x2∧x2≤(p1.fields.length:Int))<|am (cj ((p1.fields.drop (0:Int).toNat).take (x2.toNat-(0:Int).toNat)) e2) fun r2=>ak r2.1 (some (5:Int)) ((gS p1 k1) (i64.wrap (x2+1)))) (CE)
def yM(p1:al):OI:=ak (p1.kind==6) (ak ((p1.fields.length:Int) != 1) (tS true) (am (at? p1.fields 0) fun e1=>tS (!(e1.name.toList==(ByteArray.mk #[]).toList)))) (ak (p1.kind != 7) (ak (decide (0<(p1.fields.length:Int))) (some 1) (some 0)) (ak ((p1.fields.length:Int)==0) (some 1) (am (cm p1.fields) fun r1=>ak r1 (some 4) (gS p1 aH 0))))
theorem Kb(p1:al):CT prog 188 [mT p1] (yM p1) vi:=
  cI 52 [4] f188 fun r=>(uC (cu f188 200 4 fun K k=>have J1:∀{x1},tS x1=some r→K.p [(20,vb x1)] []:=fun{x1} h=>k h (uC uz uz);(uN af p1.fields (uC (uJ J1) (dS af fun e1=>(uJ J1))))) (uC (uN af p1.fields (uC uz uz)) (uN af p1.fields (uC uz (aV (ko _) fun r1=>(uC uz (kT f188 30 1 CE [] [] uz fun K J2=>(uN af p1.fields (gc f188 122 1 fun R b=>have L1:∀k1 {x2},gS p1 k1 x2=some r→(R k1).p [(1,vR [pi p1.kind,pi p1.scale,.ro (af.els p1.fields)]),(38,vl af p1.fields),(39,vi p1.fields.length),(40,vi x2)] []:=uI (fW rfl) fun k1 i1 {x2} h=>b h (uU (gS.eq_2 ..) (uC (dS af fun e2=>(uX af (EJ true [0] (kv _ _) fun r2 _=>(uC jX (uJ i1))))) (uR (.exit 1) (xM (uJ J2)))));uE (L1 aH))))))))))
def vz(z3:Int):Option (Int×eC):=some (0,(eC.mk z3))
def eN(q_value_checker_check:al→Int→eC→Option (Int×eC))(p1:al)(p2:Int):Nat→Int→Int→Option (Int×eC)
 |0,_,_=>none
 |k1+1,z2,x4=>ak (decide (x4<(p1.fields.length:Int))) (am (at? p1.fields x4) fun e1=>am (q_value_checker_check e1.type (i64.wrap (p2+1)) (eC.mk z2)) fun r4=>ak (r4.1 != 0) (some (r4.1,r4.2)) ((eN q_value_checker_check p1 p2 k1) r4.2.leaves (i64.wrap (x4+1)))) (vz z2)
def fM(q_value_checker_check:al→Int→eC→Option (Int×eC))(p1:al)(p2 z1:Int)(x3:Bool):Option (Int×eC):=ak x3 (some (1,(eC.mk z1))) (am (yM p1) fun r3=>ak (r3 != 0) (some (r3,(eC.mk z1))) (eN q_value_checker_check p1 p2 aH z1 0))
def mc(q_value_checker_check:al→Int→eC→Option (Int×eC))(p1:al)(p2 z1:Int)(x2:Bool):Option (Int×eC):=ak x2 (some (3,(eC.mk z1))) (ak (p1.scale != 0) (ak (p1.kind != 3) (fM q_value_checker_check p1 p2 z1 true) (ak (decide (p1.scale<0)) (fM q_value_checker_check p1 p2 z1 true) (fM q_value_checker_check p1 p2 z1 (decide (12<p1.scale))))) (fM q_value_checker_check p1 p2 z1 false))
def im(q_value_checker_check:al→Int→eC→Option (Int×eC))(p1:al)(p2 z1:Int):Option (Int×eC):=ak (decide (p1.kind<1)) (mc q_value_checker_check p1 p2 z1 true) (mc q_value_checker_check p1 p2 z1 (decide (7<p1.kind)))
def ir(q_value_checker_check:al→Int→eC→Option (Int×eC))(p1:al)(p2:Int)(p3:eC)(x1:Bool):Option (Int×eC):=ak x1 (some (7,p3)) (am (zX p1) fun r2=>ak r2 (im q_value_checker_check p1 p2 (i64.wrap (p3.leaves+1))) (im q_value_checker_check p1 p2 p3.leaves))
def bN:Nat→al→Int→eC→Option (Int×eC)
 |0,_,_,_=>none
 |k0+1,p1,p2,p3=>ak (decide (4<p2)) (ir (bN k0) p1 p2 p3 true) (am (zX p1) fun r1=>ak r1 (ir (bN k0) p1 p2 p3 (p3.leaves==40)) (ir (bN k0) p1 p2 p3 false))
abbrev eh(p1:al):List PV:=[pi p1.kind,pi p1.scale,.ro (af.els p1.fields)]
theorem wo:∀(k0:Nat) (p1:al) (p2:Int) (p3:eC),CM prog 139 [vQ 0,mT p1,vi p2] [.box [ci p3.leaves]] (bN k0 p1 p2 p3) (fun r=>vi r.1) (fun r=>[.box [ci r.2.leaves]])
  |0,_,_,_=>Zq (bN.eq_1 ..)
  |k0+1,p1,p2,p3=>wP 1 83 [9] f139 fun r=>(uU (bN.eq_2 ..) (cu f139 12 2 fun K k=>have J1:∀{x1},ir (bN k0) p1 p2 p3 x1=some r→K.p [(0,vQ 0),(2,vi p2),(4,vR (eh p1)),(23,vb x1)] [.box [ci p3.leaves]]:=fun{x1} h=>k h (uC (uR .ret ut) (cu f139 14 1 fun K k=>have J2:∀{z1},im (bN k0) p1 p2 z1=some r→K.p [(0,vQ 0),(2,vi p2),(4,vR (eh p1))] [.box [ci z1]]:=fun{z1} h=>k h (cu f139 120 3 fun K k=>have J3:∀{x2},mc (bN k0) p1 p2 z1 x2=some r→K.p [(0,vQ 0),(2,vi p2),(4,vR (eh p1)),(33,vb x2)] [.box [ci z1]]:=fun{x2} h=>k h (uC (uR .ret ut) (cu f139 486 3 fun K k=>have J4:∀{x3},fM (bN k0) p1 p2 z1 x3=some r→K.p [(0,vQ 0),(2,vi p2),(4,vR (eh p1)),(42,vb x3)] [.box [ci z1]]:=fun{x3} h=>k h (uC (uR .ret ut) (aV (Kb _) fun r3=>(uC (uR .ret ut) (cu f139 126 1 fun K k=>have J5:∀{z3},vz z3=some r→K.p [] [.box [ci z3]]:=fun{z3} h=>k h (uR .ret ut);(uN af p1.fields (gc f139 506 1 fun R b=>have L1:∀k1 {z2 x4},eN (bN k0) p1 p2 k1 z2 x4=some r→(R k1).p [(0,vQ 0),(2,vi p2),(67,vl af p1.fields),(68,vi p1.fields.length),(69,vi x4)] [.box [ci z2]]:=uI (fW rfl) fun k1 i1 {z2 x4} h=>b h (uU (eN.eq_2 ..) (uC (dS af fun e1=>(EJ true [0] (wo k0 _ _ _) fun r4 _=>(uC (uR .ret (xN (xN ut))) (uJ i1)))) (uR (.exit 1) (xM (uJ J5)))));uE (L1 aH)))))));(uC (uC (uJ J4) (uC (uJ J4) (uJ J4))) (uJ J4))));(uC (uJ J3) (uJ J3)));(aV (Hb _) fun r2=>(uC (uJ J2) (uJ J2)))));(uC (uJ J1) (aV (Hb _) fun r1=>(uC (uJ J1) (uJ J1))))))
def dk(p1:al):OI:=am (bN aH p1 1 (eC.mk 0)) fun r1=>some r1.1
theorem lC(p1:al):CT prog 75 [mT p1] (dk p1) vi:=
  cI 9 [5] f75 fun r=>(EJ true [0] (wo aH _ _ _) fun r1 _=>uz)
def oC(p1:ae)(p2:List (Int×Int)):Option (Int×(List (Int×Int))):=ak (decide (p1.id<1)) (some (3,p2)) (am (some ((jQ (wg .i64) p2 p1.id).getD 0)) fun x1=>am (some ((jQ (wg .i64) (lj (wg .i64) p2 p1.id (i64.wrap (x1+1))) p1.id).getD 0)) fun x2=>ak (decide (1<x2)) (some (5,(lj (wg .i64) p2 p1.id (i64.wrap (x1+1))))) (some (0,(lj (wg .i64) p2 p1.id (i64.wrap (x1+1))))))
theorem CU(p1:ae)(p2:List (Int×Int)):CM prog 152 [mf p1,vQ 0] [.box [.mp 1],vM (wg .i64) eI false p2] (oC p1 p2) (fun r=>vi r.1) (fun r=>[.box [.mp 1],vM (wg .i64) eI false r.2]):=
  wP 2 17 [] f152 fun r=>(uC (uR .ret ut) (uMl (wg .i64) eI false 1 (0:Int) 3 3 false fun x1 _=>(uMu (wg .i64) eI false 1 (m:=p2) (k0:=p1.id) (u:=(i64.wrap (x1+1))) 3 (uMl (wg .i64) eI false 1 (0:Int) 3 3 false fun x2 _=>(uC (uR .ret ut) (uR .ret ut))))))
def iw(z2:List (Int×Int)):Option (Int×(List (Int×Int))):=some (0,z2)
def co(q_value_Walk_of_value_CheckSchema_1:(List ae)→(List (Int×Int))→Option (Int×(List (Int×Int))))(p1:List ae):Nat→(List (Int×Int))→Int→Option (Int×(List (Int×Int)))
 |0,_,_=>none
 |k1+1,z1,x1=>ak (decide (x1<(p1.length:Int))) (am (at? p1 x1) fun e1=>am (oC e1 z1) fun r1=>ak (r1.1 != 0) (some (r1.1,r1.2)) (am (q_value_Walk_of_value_CheckSchema_1 e1.type.fields r1.2) fun r2=>ak (r2.1 != 0) (some (r2.1,r2.2)) ((co q_value_Walk_of_value_CheckSchema_1 p1 k1) r2.2 (i64.wrap (x1+1))))) (iw z1)
def bC:Nat→(List ae)→(List (Int×Int))→Option (Int×(List (Int×Int)))
 |0,_,_=>none
 |k0+1,p1,p2=>co (bC k0) p1 aH p2 0
theorem mh:∀(k0:Nat) (p1:List ae) (p2:List (Int×Int)),CM prog 103 [vl af p1,.one (.fn 152 [.pt 0 0 0 0])] [.box [.mp 1],vM (wg .i64) eI false p2] (bC k0 p1 p2) (fun r=>vi r.1) (fun r=>[.box [.mp 1],vM (wg .i64) eI false r.2])
  |0,_,_=>Zq (bC.eq_1 ..)
  |k0+1,p1,p2=>wP 2 30 [6] f103 fun r=>(uU (bC.eq_2 ..) (cu f103 6 1 fun K k=>have J1:∀{z2},iw z2=some r→K.p [] [.box [.mp 1],vM (wg .i64) eI false z2]:=fun{z2} h=>k h (uR .ret ut);(uN af p1 (gc f103 26 1 fun R b=>have L1:∀k1 {z1 x1},co (bC k0) p1 k1 z1 x1=some r→(R k1).p [(1,.one (.fn 152 [.pt 0 0 0 0])),(9,vl af p1),(10,vi p1.length),(11,vi x1)] [.box [.mp 1],vM (wg .i64) eI false z1]:=uI (fW rfl) fun k1 i1 {z1 x1} h=>b h (uU (co.eq_2 ..) (uC (dS af fun e1=>(EJ true [0,1] (CU _ _) fun r1 _=>(uC (uR .ret (xN (xN ut))) (EJ true [0,1] (mh k0 _ _) fun r2 _=>(uC (uR .ret (xN (xN ut))) (uJ i1)))))) (uR (.exit 0) (xM (uJ J1)))));uE (L1 aH)))))
def fI(p1:List ae):OI:=am (dk (al.mk 7 0 p1)) fun r1=>ak (r1 != 0) (some r1) (am (bC aH p1 []) fun r2=>some r2.1)
theorem sL(p1:List ae):CT prog 102 [vl af p1] (fI p1) vi:=
  cI 15 [4] f102 fun r=>(aV (lC _) fun r1=>(uC uz (uMm (wg .i64) eI false (EJ true [1,0] (mh aH _ _) fun r2 _=>uz))))
def vU(p1:ae)(p2:List (List ae))(p3:List cg)(p4 p5 p6 p7:Int)(p8:List aw)(p9:List lq)(cw:List ow):OI:=ak (decide (p4≤p1.id)) (some 3) (some 0)
theorem Eo(p1:ae)(p2:List (List ae))(p3:List cg)(p4 p5 p6 p7:Int)(p8:List aw)(p9:List lq)(cw:List ow):CT prog 104 [mf p1,vR [.ro ((eL af).els p2),.ro (fU.els p3),pi p4,pi p5,pi p6,pi p7,.ro (aU.els p8),.ro (oS.els p9),.ro (lE.els cw)]] (vU p1 p2 p3 p4 p5 p6 p7 p8 p9 cw) vi:=
  cI 9 [] f104 fun r=>(uC uz uz)
def nP:OI:=some 0
def cp(q_value_Walk_of_table_schemas_1:(List ae)→(List (List ae))→(List cg)→Int→Int→Int→Int→(List aw)→(List lq)→(List ow)→OI)(p1:List ae)(p2:List (List ae))(p3:List cg)(p4 p5 p6 p7:Int)(p8:List aw)(p9:List lq)(cw:List ow):Nat→Int→OI
 |0,_=>none
 |k1+1,x1=>ak (decide (x1<(p1.length:Int))) (am (at? p1 x1) fun e1=>am (vU e1 p2 p3 p4 p5 p6 p7 p8 p9 cw) fun r1=>ak (r1 != 0) (some r1) (am (q_value_Walk_of_table_schemas_1 e1.type.fields p2 p3 p4 p5 p6 p7 p8 p9 cw) fun r2=>ak (r2 != 0) (some r2) ((cp q_value_Walk_of_table_schemas_1 p1 p2 p3 p4 p5 p6 p7 p8 p9 cw k1) (i64.wrap (x1+1))))) (nP)
def bR:Nat→(List ae)→(List (List ae))→(List cg)→Int→Int→Int→Int→(List aw)→(List lq)→(List ow)→OI
 |0,_,_,_,_,_,_,_,_,_,_=>none
 |k0+1,p1,p2,p3,p4,p5,p6,p7,p8,p9,cw=>cp (bR k0) p1 p2 p3 p4 p5 p6 p7 p8 p9 cw aH 0
theorem ox:∀(k0:Nat) (p1:List ae) (p2:List (List ae)) (p3:List cg) (p4 p5 p6 p7:Int) (p8:List aw) (p9:List lq) (cw:List ow),CT prog 103 [vl af p1,.one (.fn 104 [.pv (.rp [[.ro ((eL af).els p2),.ro (fU.els p3),pi p4,pi p5,pi p6,pi p7,.ro (aU.els p8),.ro (oS.els p9),.ro (lE.els cw)]] 0 0)])] (bR k0 p1 p2 p3 p4 p5 p6 p7 p8 p9 cw) vi
  |0,_,_,_,_,_,_,_,_,_,_=>Jd (bR.eq_1 ..)
  |k0+1,p1,p2,p3,p4,p5,p6,p7,p8,p9,cw=>cI 30 [6] f103 fun r=>(uU (bR.eq_2 ..) (kT f103 6 1 nP [] [] uz fun K J1=>(uN af p1 (gc f103 26 1 fun R b=>have L1:∀k1 {x1},cp (bR k0) p1 p2 p3 p4 p5 p6 p7 p8 p9 cw k1 x1=some r→(R k1).p [(1,.one (.fn 104 [.pv (.rp [[.ro ((eL af).els p2),.ro (fU.els p3),pi p4,pi p5,pi p6,pi p7,.ro (aU.els p8),.ro (oS.els p9),.ro (lE.els cw)]] 0 0)])),(9,vl af p1),(10,vi p1.length),(11,vi x1)] []:=uI (fW rfl) fun k1 i1 {x1} h=>b h (uU (cp.eq_2 ..) (uC (dS af fun e1=>(aV (Eo _ _ _ _ _ _ _ _ _ _) fun r1=>(uC jX (aV (ox k0 _ _ _ _ _ _ _ _ _ _) fun r2=>(uC jX (uJ i1)))))) (uR (.exit 0) (xM (uJ J1)))));uE (L1 aH)))))
def qu(p1:List ae):OI:=am (fI p1) fun r1=>ak (r1 != 0) (some r1) (some 0)
theorem BO(p1:List ae):CT prog 153 [vl af p1,.one (.pv (.s (.slice none 0 0)))] (qu p1) vi:=
  cI 59 [] f153 fun r=>(aV (sL _) fun r1=>(uC uz (uF (Ro 0 (uF uz)))))
def ue(p1:ae)(p2:Int):OB:=some (p1.id==p2)
theorem C6(p1:ae)(p2:Int):CT prog 240 [mf p1,vR [pi p2]] (ue p1 p2) vb:=
  cI 8 [] f240 fun r=>uz
def eY:OI:=some (-1)
def a8(p1:List ae)(p2:Int):Nat→Int→OI
 |0,_=>none
 |k1+1,x1=>ak (decide (x1<(p1.length:Int))) (am (at? p1 x1) fun e1=>am (ue e1 p2) fun r1=>ak r1 (some x1) ((a8 p1 p2 k1) (i64.wrap (x1+1)))) (eY)
def dr(p1:List ae)(p2:Int):OI:=a8 p1 p2 aH 0
theorem ky(p1:List ae)(p2:Int):CT prog 118 [vl af p1,.one (.fn 240 [.pv (.rp [[pi p2]] 0 0)])] (dr p1 p2) vi:=
  cI 19 [] f118 fun r=>(kT f118 6 1 eY [] [] uz fun K J1=>(uN af p1 (gc f118 26 1 fun R b=>have L1:∀k1 {x1},a8 p1 p2 k1 x1=some r→(R k1).p [(0,vl af p1),(1,.one (.fn 240 [.pv (.rp [[pi p2]] 0 0)])),(7,vi p1.length),(8,vi x1)] []:=uI (fW rfl) fun k1 i1 {x1} h=>b h (uU (a8.eq_2 ..) (uC (dS af fun e1=>(aV (C6 _ _) fun r1=>(uC jX (uJ i1)))) (uR (.exit 0) (xM (uJ J1)))));uE (L1 aH))))
def vA(p1:List ae)(p2:Int):OI:=am (dr p1 p2) fun r1=>some r1
theorem H3(p1:List ae)(p2:Int):CT prog 200 [vl af p1,vi p2] (vA p1 p2) vi:=
  cI 8 [] f200 fun r=>(aV (ky _ _) fun r1=>uz)
def qD(x1:Bool):OB:=some x1
def rT(p1:al):OB:=ak (p1.kind==6) (qD true) (qD (p1.kind==7))
theorem BS(p1:al):CT prog 201 [mT p1] (rT p1) vb:=
  cI 11 [] f201 fun r=>(cu f201 6 1 fun K k=>have J1:∀{x1},qD x1=some r→K.p [(2,vb x1)] []:=fun{x1} h=>k h uz;(uC (uJ J1) (uJ J1)))
def pr(x1:Bool):OI:=ak x1 (some 2) (some 0)
def pQ(p1:al):OI:=am (dk p1) fun r1=>ak (r1 != 0) (some r1) (ak (p1.kind==6) (pr true) (pr (p1.kind==7)))
theorem An(p1:al):CT prog 184 [mT p1] (pQ p1) vi:=
  cI 17 [] f184 fun r=>(aV (lC _) fun r1=>(uC uz (cu f184 28 2 fun K k=>have J1:∀{x1},pr x1=some r→K.p [(16,vb x1)] []:=fun{x1} h=>k h (uC uz uz);(uC (uJ J1) (uJ J1)))))
def kC(x4:Bool):OB:=some x4
def sk(p1 p2:al)(x3:Bool):OB:=ak x3 (some true) (ak (p1.kind==1) (ak (p2.kind==3) (kC (p2.scale==0)) (kC false)) (ak (p1.kind==2) (ak (p2.kind==3) (kC (p2.scale==0)) (kC false)) (kC false)))
def sG(p1 p2:al)(x2:Bool):OB:=ak x2 (some true) (ak (p1.kind==1) (sk p1 p2 (p2.kind==2)) (sk p1 p2 false))
def mE(p1 p2:al)(x1:Bool):OB:=ak x1 (some false) (ak (p1.kind==p2.kind) (sG p1 p2 (p1.scale==p2.scale)) (sG p1 p2 false))
def kN(p1 p2:al):OB:=am (pQ p1) fun r1=>ak (r1 != 0) (mE p1 p2 true) (am (pQ p2) fun r2=>mE p1 p2 (r2 != 0))
theorem CN(p1 p2:al):CT prog 130 [mT p1,mT p2] (kN p1 p2) vb:=
  cI 53 [] f130 fun r=>(cu f130 12 2 fun K k=>have J1:∀{x1},mE p1 p2 x1=some r→K.p [(2,vR (eh p1)),(3,vR (eh p2)),(12,vb x1)] []:=fun{x1} h=>k h (uC uz (cu f130 56 3 fun K k=>have J2:∀{x2},sG p1 p2 x2=some r→K.p [(2,vR (eh p1)),(3,vR (eh p2)),(13,vb x2)] []:=fun{x2} h=>k h (uC uz (cu f130 230 3 fun K k=>have J3:∀{x3},sk p1 p2 x3=some r→K.p [(2,vR (eh p1)),(3,vR (eh p2)),(26,vb x3)] []:=fun{x3} h=>k h (uC uz (cu f130 30 1 fun K k=>have J4:∀{x4},kC x4=some r→K.p [(4,vb x4)] []:=fun{x4} h=>k h uz;(uC (uC (uJ J4) (uJ J4)) (uC (uC (uJ J4) (uJ J4)) (uJ J4)))));(uC (uJ J3) (uJ J3))));(uC (uJ J2) (uJ J2))));(aV (An _) fun r1=>(uC (uJ J1) (aV (An _) fun r2=>(uJ J1)))))
def lR(rec1:Int→OI)(x1:Int):OI:=rec1 (i64.wrap (x1+1))
def iy(q_column_adaptable:(List ae)→(List ae)→OI)(rec1:Int→OI)(x1:Int)(e1 e2:ae)(x4:Bool):OI:=ak x4 (some 2) (am (q_column_adaptable e2.type.fields e1.type.fields) fun r5=>ak (r5 != 0) (some r5) (lR rec1 x1))
def oF(q_column_adaptable:(List ae)→(List ae)→OI)(rec1:Int→OI)(x1:Int)(e1 e2:ae)(x3:Bool):OI:=ak x3 (iy q_column_adaptable rec1 x1 e1 e2 x3) (am (rT e2.type) fun r3=>ak (!r3) (am (kN e2.type e1.type) fun r4=>iy q_column_adaptable rec1 x1 e1 e2 (!r4)) (iy q_column_adaptable rec1 x1 e1 e2 false))
def lS(q_column_adaptable:(List ae)→(List ae)→OI)(rec1:Int→OI)(x1:Int)(e1 e2:ae)(x2:Bool):OI:=ak x2 (some 9) (am (rT e2.type) fun r2=>ak r2 (oF q_column_adaptable rec1 x1 e1 e2 (e1.type.kind != e2.type.kind)) (oF q_column_adaptable rec1 x1 e1 e2 false))
def yi:OI:=some 0
def bK(q_column_adaptable:(List ae)→(List ae)→OI)(p1 p2:List ae):Nat→Int→OI
 |0,_=>none
 |k1+1,x1=>ak (decide (x1<(p2.length:Int))) (am (at? p2 x1) fun e1=>am (vA p1 e1.id) fun r1=>ak (decide (r1<0)) (ak e1.need (some 9) (lR (bK q_column_adaptable p1 p2 k1) x1)) (am (at? p1 r1) fun e2=>ak e1.need (lS q_column_adaptable (bK q_column_adaptable p1 p2 k1) x1 e1 e2 (!e2.need)) (lS q_column_adaptable (bK q_column_adaptable p1 p2 k1) x1 e1 e2 false))) (yi)
def bD:Nat→(List ae)→(List ae)→OI
 |0,_,_=>none
 |k0+1,p1,p2=>bK (bD k0) p1 p2 aH 0
abbrev Bp(e1:ae):List CV:=[ci e1.id,qm e1.name,cb e1.need,ci e1.type.kind,ci e1.type.scale,cl af e1.type.fields]
theorem zz:∀(k0:Nat) (p1 p2:List ae),CT prog 154 [vl af p1,vl af p2] (bD k0 p1 p2) vi
  |0,_,_=>Jd (bD.eq_1 ..)
  |k0+1,p1,p2=>cI 72 [6,8] f154 fun r=>(uU (bD.eq_2 ..) (kT f154 6 1 yi [] [] uz fun K J5=>(uN af p2 (gc f154 26 1 fun R b=>have L1:∀k1 {x1},bK (bD k0) p1 p2 k1 x1=some r→(R k1).p [(0,vl af p1),(10,vl af p2),(11,vi p2.length),(12,vi x1)] []:=uI (fW rfl) fun k1 i1 {x1} h=>b h (uU (bK.eq_2 ..) (uC (kT f154 422 1 (lR (bK (bD k0) p1 p2 k1) x1) [(0,vl af p1),(10,vl af p2),(11,vi p2.length),(12,vi x1)] [] (uJ i1) fun K J4=>(dS af fun e1=>(aV (H3 _ _) fun r1=>(uC (uC (uR .ret (xN (xN (xN xF)))) (uJ J4)) (dS af fun e2=>(cu f154 108152 4 fun K k=>have J1:∀{x2},lS (bD k0) (bK (bD k0) p1 p2 k1) x1 e1 e2 x2=some r→K.p [(0,vl af p1),(6,vQ 0),(8,vQ 1),(10,vl af p2),(11,vi p2.length),(12,vi x1),(28,vb x2)] [.box (Bp e1),.box (Bp e2)]:=fun{x2} h=>k h (uC (uR .ret (xN (xN (xN xF)))) (cu f154 432614 4 fun K k=>have J3:∀{x4},iy (bD k0) (bK (bD k0) p1 p2 k1) x1 e1 e2 x4=some r→K.p [(0,vl af p1),(6,vQ 0),(8,vQ 1),(10,vl af p2),(11,vi p2.length),(12,vi x1),(36,vb x4)] [.box (Bp e1),.box (Bp e2)]:=fun{x4} h=>k h (uC (uR .ret (xN (xN (xN xF)))) (aV (zz k0 _ _) fun r5=>(uC (uR .ret (xN (xN (xN xF)))) (uJ J4))));(cu f154 865228 1 fun K k=>have J2:∀{x3},oF (bD k0) (bK (bD k0) p1 p2 k1) x1 e1 e2 x3=some r→K.p [(0,vl af p1),(6,vQ 0),(8,vQ 1),(10,vl af p2),(11,vi p2.length),(12,vi x1),(36,vb x3)] [.box (Bp e1),.box (Bp e2)]:=fun{x3} h=>k h (uC (uJ J3) (aV (BS _) fun r3=>(uC (aV (CN _ _) fun r4=>(uJ J3)) (uJ J3))));(aV (BS _) fun r2=>(uC (uJ J2) (uJ J2))))));(uC (uJ J1) (uJ J1)))))))) (uR (.exit 0) (xM (uJ J5)))));uE (L1 aH)))))
def ov(p1:List (List ac)):Option (List (List ac)):=iN (0≤(0:Int)∧(0:Int)≤(p1.length:Int)∧(p1.length:Int)≤(p1.length:Int)∧(p1.length:Int)≤(p1.length:Int))<|some ((p1.drop (0:Int).toNat).take ((p1.length:Int).toNat-(0:Int).toNat))
theorem uB(p1:List (List ac)):CT prog 156 [vl (eL ah) p1] (ov p1) (fun r=>vl (eL ah) r):=
  cI 9 [] f156 fun r=>(uN (eL ah) p1 (uN (eL ah) p1 (uXm (eL ah) uz)))
def qB(p1 p2:List ae):Option ((List (List ac))×Int):=am (qu p1) fun r1=>ak (r1 != 0) (some ([],r1)) (am (fI p2) fun r2=>ak (r2 != 0) (some ([],r2)) (am (bD aH p1 p2) fun r3=>ak (r3 != 0) (some ([],r3)) (am (ov []) fun r4=>some (r4,0))))
theorem En(p1 p2:List ae):CT prog 105 [vl af p1,vl af p2,.one (.pv (.s (.slice none 0 0)))] (qB p1 p2) (fun r=> .tp [vl (eL ah) r.1,vi r.2]):=
  cI 47 [] f105 fun r=>(uPn (BO _) fun r1 _=>(uC uz (aV (sL _) fun r2=>(uC uz (aV (zz aH _ _) fun r3=>(uC uz (Ro 0 (uF (aV (uB _) fun r4=>uz)))))))))
def wO(rec1:Int→OI)(x1:Int):OI:=rec1 (i64.wrap (x1+1))
def kG(rec1:Int→OI)(p1:ax)(x1:Int)(e1:List ae):Nat→Int→OI
 |0,_=>none
 |k2+1,x2=>am (some (decide (x2<(((p1.schemas.drop (0:Int).toNat).take (x1.toNat-(0:Int).toNat)).length:Int)))) fun y1=>ak y1 (am (at? ((p1.schemas.drop (0:Int).toNat).take (x1.toNat-(0:Int).toNat)) x2) fun e2=>am (qB e2 e1) fun r3=>ak (r3.2 != 0) (some r3.2) ((kG rec1 p1 x1 e1 k2) (i64.wrap (x2+1)))) (wO rec1 x1)
def BI:OI:=some 0
def fq(p1:ax):Nat→Int→OI
 |0,_=>none
 |k1+1,x1=>ak (decide (x1<(p1.schemas.length:Int))) (am (at? p1.schemas x1) fun e1=>am (fI e1) fun r1=>ak (r1 != 0) (some r1) (am (bR aH e1 p1.schemas p1.specs p1.nextField p1.nextSeq p1.nextSnap p1.purges p1.snapshots p1.refs p1.props) fun r2=>ak (r2 != 0) (some r2) (iN (0≤(0:Int)∧(0:Int)≤x1∧x1≤(p1.schemas.length:Int))<|kG (fq p1 k1) p1 x1 e1 aH (0:Int)))) (BI)
def xj(p1:ax):OI:=fq p1 aH 0
abbrev bH(p1:ax):List PV:=[.ro ((eL af).els p1.schemas),.ro (fU.els p1.specs),pi p1.nextField,pi p1.nextSeq,pi p1.nextSnap,pi p1.purges,.ro (aU.els p1.snapshots),.ro (oS.els p1.refs),.ro (lE.els p1.props)]
abbrev W8(p1:ax)(x1:Int):Fr:=[(1,.one (.pv (.rp [(bH p1)] 0 0))),(12,vl (eL af) p1.schemas),(13,vi (p1.schemas.length:Int)),(14,vi x1)]
theorem IN(p1:ax):CT prog 53 [mM p1] (xj p1) vi:=
  cI 50 [] f53 fun r=>(kT f53 6 1 BI [] [] uz fun K J2=>(uN (eL af) p1.schemas (gc f53 26 1 fun R b=>have L1:∀k1 {x1},fq p1 k1 x1=some r→(R k1).p (W8 p1 x1) []:=uI (fW rfl) fun k1 i1 {x1} h=>b h (uU (fq.eq_2 ..) (uC (kT f53 422 1 (wO (fq p1 k1) x1) (W8 p1 x1) [] (uJ i1) fun K J1=>(dS (eL af) fun e1=>(aV (sL _) fun r1=>(uC (uR .ret (xN (xN (xN xF)))) (aV (ox aH _ _ _ _ _ _ _ _ _ _) fun r2=>(uC (uR .ret (xN (xN (xN xF)))) (uX (eL af) (uN (eL af) ((p1.schemas.drop (0:Int).toNat).take (x1.toNat-(0:Int).toNat)) (gc f53 54078 2 fun R b=>have L2:∀k2 {x2},kG (fq p1 k1) p1 x1 e1 k2 x2=some r→(R k2).p [(1,vR (bH p1)),(4,vl af e1),(12,vl (eL af) p1.schemas),(13,vi p1.schemas.length),(14,vi x1),(33,vl (eL af) ((p1.schemas.drop (0:Int).toNat).take (x1.toNat-(0:Int).toNat))),(34,vi (((p1.schemas.drop (0:Int).toNat).take (x1.toNat-(0:Int).toNat)).length:Int)),(35,vi x2)] []:=uI (fW rfl) fun k2 i2 {x2} h=>b h (uU (kG.eq_2 ..) (uY 36 vb fun y1=>(uC (dS (eL af) fun e2=>(uPn (En _ _) fun r3 _=>(uC (uR .ret (xN (xN (xN (xN xF))))) (uJ i2)))) (uR (.exit 2) (xM (uJ J1))))));uE (L2 aH)))))))))) (uR (.exit 0) (xM (uJ J2)))));uE (L1 aH))))
def tn(p1:ae)(p2:Int):OB:=some (p1.id==p2)
theorem IR(p1:ae)(p2:Int):CT prog 119 [mf p1,vR [pi p2]] (tn p1 p2) vb:=
  cI 8 [] f119 fun r=>uz
def ga:OI:=some (-1)
def aK(p1:List ae)(p2:Int):Nat→Int→OI
 |0,_=>none
 |k1+1,x1=>ak (decide (x1<(p1.length:Int))) (am (at? p1 x1) fun e1=>am (tn e1 p2) fun r1=>ak r1 (some x1) ((aK p1 p2 k1) (i64.wrap (x1+1)))) (ga)
def cD(p1:List ae)(p2:Int):OI:=aK p1 p2 aH 0
theorem lN(p1:List ae)(p2:Int):CT prog 118 [vl af p1,.one (.fn 119 [.pv (.rp [[pi p2]] 0 0)])] (cD p1 p2) vi:=
  cI 19 [] f118 fun r=>(kT f118 6 1 ga [] [] uz fun K J1=>(uN af p1 (gc f118 26 1 fun R b=>have L1:∀k1 {x1},aK p1 p2 k1 x1=some r→(R k1).p [(0,vl af p1),(1,.one (.fn 119 [.pv (.rp [[pi p2]] 0 0)])),(7,vi p1.length),(8,vi x1)] []:=uI (fW rfl) fun k1 i1 {x1} h=>b h (uU (aK.eq_2 ..) (uC (dS af fun e1=>(aV (IR _ _) fun r1=>(uC jX (uJ i1)))) (uR (.exit 0) (xM (uJ J1)))));uE (L1 aH))))
def my(p1:List ae)(p2:Int):OI:=am (cD p1 p2) fun r1=>some r1
theorem xJ(p1:List ae)(p2:Int):CT prog 61 [vl af p1,vi p2] (my p1 p2) vi:=
  cI 8 [] f61 fun r=>(aV (lN _ _) fun r1=>uz)
def xY(p1:bi)(p2:List (List ae))(p3:List cg)(p4 p5 p6 p7:Int)(p8:List aw)(p9:List lq)(cw:List ow)(p11:Int):Option (Bool×Int):=am (at? p2 p11) fun e1=>am (my e1 p1.source) fun r1=>some ((decide (r1<0)),p11)
theorem F9(p1:bi)(p2:List (List ae))(p3:List cg)(p4 p5 p6 p7:Int)(p8:List aw)(p9:List lq)(cw:List ow)(p11:Int):CM prog 106 [.ag [ci p1.source,ci p1.transform.kind,ci p1.transform.param],vR [.ro ((eL af).els p2),.ro (fU.els p3),pi p4,pi p5,pi p6,pi p7,.ro (aU.els p8),.ro (oS.els p9),.ro (lE.els cw)],vQ 0] [.box [ci p11]] (xY p1 p2 p3 p4 p5 p6 p7 p8 p9 cw p11) (fun r=>vb r.1) (fun r=>[.box [ci r.2]]):=
  wP 1 14 [] f106 fun r=>(nt 7 (dS (eL af) fun e1=>(aV (xJ _ _) fun r1=>(uR .ret ut))))
def ez(z2:Int):Option (Int×Int):=some ((-1),z2)
def aO(p1:List bi)(p2:List (List ae))(p3:List cg)(p4 p5 p6 p7:Int)(p8:List aw)(p9:List lq)(cw:List ow):Nat→Int→Int→Option (Int×Int)
 |0,_,_=>none
 |k1+1,z1,x1=>ak (decide (x1<(p1.length:Int))) (am (at? p1 x1) fun e1=>am (xY e1 p2 p3 p4 p5 p6 p7 p8 p9 cw z1) fun r1=>ak r1.1 (some (x1,r1.2)) ((aO p1 p2 p3 p4 p5 p6 p7 p8 p9 cw k1) r1.2 (i64.wrap (x1+1)))) (ez z1)
def cO(p1:List bi)(p2:List (List ae))(p3:List cg)(p4 p5 p6 p7:Int)(p8:List aw)(p9:List lq)(cw:List ow)(p11:Int):Option (Int×Int):=aO p1 p2 p3 p4 p5 p6 p7 p8 p9 cw aH p11 0
theorem jA(p1:List bi)(p2:List (List ae))(p3:List cg)(p4 p5 p6 p7:Int)(p8:List aw)(p9:List lq)(cw:List ow)(p11:Int):CM prog 117 [vl aC p1,.one (.fn 106 [.pv (.rp [[.ro ((eL af).els p2),.ro (fU.els p3),pi p4,pi p5,pi p6,pi p7,.ro (aU.els p8),.ro (oS.els p9),.ro (lE.els cw)]] 0 0),.pt 0 0 0 0])] [.box [ci p11]] (cO p1 p2 p3 p4 p5 p6 p7 p8 p9 cw p11) (fun r=>vi r.1) (fun r=>[.box [ci r.2]]):=
  wP 1 19 [] f117 fun r=>(cu f117 6 1 fun K k=>have J1:∀{z2},ez z2=some r→K.p [] [.box [ci z2]]:=fun{z2} h=>k h (uR .ret ut);(uN aC p1 (gc f117 26 1 fun R b=>have L1:∀k1 {z1 x1},aO p1 p2 p3 p4 p5 p6 p7 p8 p9 cw k1 z1 x1=some r→(R k1).p [(0,vl aC p1),(1,.one (.fn 106 [.pv (.rp [[.ro ((eL af).els p2),.ro (fU.els p3),pi p4,pi p5,pi p6,pi p7,.ro (aU.els p8),.ro (oS.els p9),.ro (lE.els cw)]] 0 0),.pt 0 0 0 0])),(7,vi p1.length),(8,vi x1)] [.box [ci z1]]:=uI (fW rfl) fun k1 i1 {z1 x1} h=>b h (uU (aO.eq_2 ..) (uC (dS aC fun e1=>(EJ true [0] (F9 _ _ _ _ _ _ _ _ _ _ _) fun r1 _=>(uC (uR .ret (xN (xN ut))) (uJ i1)))) (uR (.exit 0) (xM (uJ J1)))));uE (L1 aH))))
def bI(p1:List bi)(p2:List (List ae))(p3:List cg)(p4 p5 p6 p7:Int)(p8:List aw)(p9:List lq)(cw:List ow)(p11:Int):Option (Bool×Int):=am (cO p1 p2 p3 p4 p5 p6 p7 p8 p9 cw p11) fun r1=>some ((decide (0≤r1.1)),r1.2)
theorem jb(p1:List bi)(p2:List (List ae))(p3:List cg)(p4 p5 p6 p7:Int)(p8:List aw)(p9:List lq)(cw:List ow)(p11:Int):CM prog 59 [vl aC p1,.one (.fn 106 [.pv (.rp [[.ro ((eL af).els p2),.ro (fU.els p3),pi p4,pi p5,pi p6,pi p7,.ro (aU.els p8),.ro (oS.els p9),.ro (lE.els cw)]] 0 0),.pt 0 0 0 0])] [.box [ci p11]] (bI p1 p2 p3 p4 p5 p6 p7 p8 p9 cw p11) (fun r=>vb r.1) (fun r=>[.box [ci r.2]]):=
  wP 1 9 [] f59 fun r=>(EJ true [0] (jA _ _ _ _ _ _ _ _ _ _ _) fun r1 _=>(uR .ret ut))
def wV(x1:Bool):OB:=some x1
def wJ(p1:al):OB:=ak (p1.kind != 6) (wV (p1.kind != 7)) (wV false)
theorem CB(p1:al):CT prog 120 [mT p1] (wJ p1) vb:=
  cI 11 [] f120 fun r=>(cu f120 6 1 fun K k=>have J1:∀{x1},wV x1=some r→K.p [(2,vb x1)] []:=fun{x1} h=>k h uz;(uC (uJ J1) (uJ J1)))
def l8(p2:al)(x6:Bool):Option (al×Int):=ak x6 (some ((al.mk 2 0 []),0)) (some (p2,0))
def il(p1:aT)(p2:al)(x5:Bool):Option (al×Int):=ak x5 (some ((al.mk 0 0 []),2)) (ak (p1.kind==2) (l8 p2 true) (l8 p2 (decide (4≤p1.kind))))
def hJ(p1:aT)(p2:al)(x4:Bool):Option (al×Int):=ak x4 (il p1 p2 x4) (ak (decide (4≤p1.kind)) (il p1 p2 (p2.kind != 5)) (il p1 p2 false))
def jT(p1:aT)(p2:al):Option (al×Int):=am (wJ p2) fun r2=>ak (!r2) (il p1 p2 (!r2)) (ak (p1.kind==3) (ak (p2.kind != 2) (ak (p2.kind != 3) (hJ p1 p2 (p2.kind != 4)) (hJ p1 p2 false)) (hJ p1 p2 false)) (hJ p1 p2 false))
def l7(p1:aT)(p2:al)(x3:Bool):Option (al×Int):=ak x3 (some ((al.mk 0 0 []),3)) (jT p1 p2)
def lX(p1:aT)(p2:al)(x2:Bool):Option (al×Int):=ak x2 (ak (decide (p1.param<1)) (l7 p1 p2 true) (l7 p1 p2 (decide (1000000<p1.param)))) (ak (p1.param != 0) (some ((al.mk 0 0 []),3)) (jT p1 p2))
def lV(p1:aT)(p2:al)(x1:Bool):Option (al×Int):=ak x1 (some ((al.mk 0 0 []),3)) (ak (p1.kind==2) (lX p1 p2 true) (lX p1 p2 (p1.kind==3)))
def cM(p1:aT)(p2:al):Option (al×Int):=am (dk p2) fun r1=>ak (r1 != 0) (some ((al.mk 0 0 []),r1)) (ak (decide (p1.kind<0)) (lV p1 p2 true) (lV p1 p2 (decide (7<p1.kind))))
abbrev xZ:List CV:=[ci (0:Int),ci (0:Int),.pv (.s (.slice none 0 0))]
theorem qw(p1:aT)(p2:al):CT prog 62 [.ag [ci p1.kind,ci p1.param],mT p2] (cM p1 p2) (fun r=> .tp [mT r.1,vi r.2]):=
  cI 85 [4] f62 fun r=>(aV (lC _) fun r1=>(uC uz (cu f62 28 2 fun K k=>have J1:∀{x1},lV p1 p2 x1=some r→K.p [(2,vR [pi p1.kind,pi p1.param]),(3,vR (eh p2)),(4,vQ 0),(20,vb x1)] [.box xZ]:=fun{x1} h=>k h (uC uz (kT f62 30 1 (jT p1 p2) [(2,vR [pi p1.kind,pi p1.param]),(3,vR (eh p2)),(4,vQ 0)] [.box xZ] (cu f62 248 3 fun K k=>have J6:∀{x5},il p1 p2 x5=some r→K.p [(2,vR [pi p1.kind,pi p1.param]),(3,vR (eh p2)),(4,vQ 0),(43,vb x5)] [.box xZ]:=fun{x5} h=>k h (uC uz (cu f62 998 3 fun K k=>have J7:∀{x6},l8 p2 x6=some r→K.p [(3,vR (eh p2)),(4,vQ 0),(74,vb x6)] [.box xZ]:=fun{x6} h=>k h (uC uz uz);(uC (uJ J7) (uJ J7))));(aV (CB _) fun r2=>(uC (uJ J6) (cu f62 1990 1 fun K k=>have J5:∀{x4},hJ p1 p2 x4=some r→K.p [(2,vR [pi p1.kind,pi p1.param]),(3,vR (eh p2)),(4,vQ 0),(43,vb x4)] [.box xZ]:=fun{x4} h=>k h (uC (uJ J6) (uC (uJ J6) (uJ J6)));(uC (uC (uC (uJ J5) (uJ J5)) (uJ J5)) (uJ J5)))))) fun K J4=>(cu f62 60 1 fun K k=>have J2:∀{x2},lX p1 p2 x2=some r→K.p [(2,vR [pi p1.kind,pi p1.param]),(3,vR (eh p2)),(4,vQ 0),(29,vb x2)] [.box xZ]:=fun{x2} h=>k h (uC (cu f62 244 1 fun K k=>have J3:∀{x3},l7 p1 p2 x3=some r→K.p [(2,vR [pi p1.kind,pi p1.param]),(3,vR (eh p2)),(4,vQ 0),(37,vb x3)] [.box xZ]:=fun{x3} h=>k h (uC (uR .ret (xN xF)) (uJ J4));(uC (uJ J3) (uJ J3))) (uC (uR .ret (xN xF)) (uJ J4)));(uC (uJ J2) (uJ J2)))));(uC (uJ J1) (uJ J1)))))
def jz:OI:=some (-1)
def bF(p1:List bi)(p2:bi):Nat→Int→OI
 |0,_=>none
 |k1+1,x1=>ak (decide (x1<(p1.length:Int))) (am (at? p1 x1) fun e1=>am (some ((p2.source==e1.source)&&(((p2.transform.kind==e1.transform.kind)&&((p2.transform.param==e1.transform.param)&&true))&&true))) fun y1=>ak y1 (some x1) ((bF p1 p2 k1) (i64.wrap (x1+1)))) (jz)
def gk(p1:List bi)(p2:bi):OI:=bF p1 p2 aH 0
theorem pH(p1:List bi)(p2:bi):CT prog 189 [vl aC p1,.ag [ci p2.source,ci p2.transform.kind,ci p2.transform.param]] (gk p1 p2) vi:=
  cI 19 [] f189 fun r=>(kT f189 6 1 jz [] [] uz fun K J1=>(uN aC p1 (gc f189 26 1 fun R b=>have L1:∀k1 {x1},bF p1 p2 k1 x1=some r→(R k1).p [(0,vl aC p1),(3,vR [pi p2.source,pi p2.transform.kind,pi p2.transform.param]),(7,vi p1.length),(8,vi x1)] []:=uI (fW rfl) fun k1 i1 {x1} h=>b h (uU (bF.eq_2 ..) (uC (nt 5 (dS aC fun e1=>(uY 16 vb fun y1=>(uC jX (uJ i1))))) (uR (.exit 0) (xM (uJ J1)))));uE (L1 aH))))
def dG(p1:List bi)(p2:bi):OB:=am (gk p1 p2) fun r1=>some (decide (0≤r1))
theorem oz(p1:List bi)(p2:bi):CT prog 141 [vl aC p1,.ag [ci p2.source,ci p2.transform.kind,ci p2.transform.param]] (dG p1 p2) vb:=
  cI 9 [] f141 fun r=>(aV (pH _ _) fun r1=>uz)
def DO:OI:=some 0
def mP(p1:cg)(p2:List ae):Nat→Int→OI
 |0,_=>none
 |k1+1,x1=>ak (decide (x1<(p1.fields.length:Int))) (am (at? p1.fields x1) fun e1=>am (my p2 e1.source) fun r1=>ak (decide (r1<(0:Int))) (some (9:Int)) (am (at? p2 r1) fun e2=>am (cM e1.transform e2.type) fun r2=>ak (r2.2 != 0) (some r2.2) (iN (0≤(0:Int)∧(0:Int)≤x1∧x1≤(p1.fields.length:Int))<|am (dG ((p1.fields.drop (0:Int).toNat).take (x1.toNat-(0:Int).toNat)) e1) fun r3=>ak r3 (some (5:Int)) ((mP p1 p2 k1) (i64.wrap (x1+1)))))) (DO)
def ux(p1:cg)(p2:List ae):OI:=ak (decide (4<(p1.fields.length:Int))) (some 7) (mP p1 p2 aH 0)
theorem KM(p1:cg)(p2:List ae):CT prog 78 [.ag [cl aC p1.fields],vl af p2] (ux p1 p2) vi:=
  cI 49 [6,8] f78 fun r=>(uN aC p1.fields (uC uz (kT f78 14 1 DO [] [] uz fun K J1=>(uN aC p1.fields (gc f78 58 1 fun R b=>have L1:∀k1 {x1},mP p1 p2 k1 x1=some r→(R k1).p [(1,vl af p2),(2,vR [.ro (aC.els p1.fields)]),(15,vl aC p1.fields),(16,vi p1.fields.length),(17,vi x1)] []:=uI (fW rfl) fun k1 i1 {x1} h=>b h (uU (mP.eq_2 ..) (uC (dS aC fun e1=>(aV (xJ _ _) fun r1=>(uC jX (KJ 13 1 [1,2] (dS af fun e2=>(aV (qw _ _) fun r2=>(uC jX (nt 5 (uX aC (aV (oz _ _) fun r3=>(uC jX (uJ i1)))))))))))) (uR (.exit 0) (xM (uJ J1)))));uE (L1 aH))))))
def oU(rec1:Int→OI)(p1:ax)(x1:Int)(e1:cg)(z3:Int)(x3:Bool):OI:=ak x3 (some 9) (am (at? p1.schemas z3) fun e2=>am (ux e1 e2) fun r2=>ak (r2 != 0) (some r2) (rec1 (i64.wrap (x1+1))))
def rr(rec1:Int→OI)(p1:ax)(x1:Int)(e1:cg)(z3:Int):OI:=ak (decide (z3<0)) (oU rec1 p1 x1 e1 z3 true) (ak (x1==(i64.wrap ((p1.specs.length:Int)-1))) (am (some (decide (z3<(i64.wrap ((p1.schemas.length:Int)-1))))) fun y1=>oU rec1 p1 x1 e1 z3 y1) (oU rec1 p1 x1 e1 z3 false))
def u7(rec1 rec2:Int→OI)(p1:ax)(x1:Int)(e1:cg)(z2:Int)(x2:Bool):OI:=ak x2 (rec2 (i64.wrap (z2-1))) (rr rec1 p1 x1 e1 z2)
def iQ(rec1:Int→OI)(p1:ax)(x1:Int)(e1:cg):Nat→Int→OI
 |0,_=>none
 |k2+1,z1=>ak (decide (0≤z1)) (am (bI e1.fields p1.schemas p1.specs p1.nextField p1.nextSeq p1.nextSnap p1.purges p1.snapshots p1.refs p1.props z1) fun r1=>u7 rec1 (iQ rec1 p1 x1 e1 k2) p1 x1 e1 r1.2 r1.1) (u7 rec1 (iQ rec1 p1 x1 e1 k2) p1 x1 e1 z1 false)
def Dy:OI:=some 0
def eO(p1:ax):Nat→Int→OI
 |0,_=>none
 |k1+1,x1=>ak (decide (x1<(p1.specs.length:Int))) (am (at? p1.specs x1) fun e1=>iQ (eO p1 k1) p1 x1 e1 aH (i64.wrap ((p1.schemas.length:Int)-1))) (Dy)
def AE(p1:ax):OI:=eO p1 aH 0
theorem KY(p1:ax):CT prog 54 [mM p1] (AE p1) vi:=
  cI 60 [4,5] f54 fun r=>(kT f54 6 1 Dy [] [] uz fun K J4=>(uN fU p1.specs (gc f54 26 1 fun R b=>have L1:∀k1 {x1},eO p1 k1 x1=some r→(R k1).p [(1,vR (bH p1)),(9,vl fU p1.specs),(10,vi p1.specs.length),(11,vi x1)] []:=uI (fW rfl) fun k1 i1 {x1} h=>b h (uU (eO.eq_2 ..) (uC (dS fU fun e1=>(uN (eL af) p1.schemas (cu f54 13518 3 fun K k=>have J2:∀{z3},rr (eO p1 k1) p1 x1 e1 z3=some r→K.p [(1,vR (bH p1)),(3,vi x1),(4,vQ 0),(5,vQ 1),(9,vl fU p1.specs),(10,vi p1.specs.length),(11,vi x1)] [.box [cl aC e1.fields],.box [ci z3]]:=fun{z3} h=>k h (cu f54 54076 4 fun K k=>have J3:∀{x3},oU (eO p1 k1) p1 x1 e1 z3 x3=some r→K.p [(1,vR (bH p1)),(4,vQ 0),(5,vQ 1),(9,vl fU p1.specs),(10,vi p1.specs.length),(11,vi x1),(48,vb x3)] [.box [cl aC e1.fields],.box [ci z3]]:=fun{x3} h=>k h (uC jX (nt 6 (dS (eL af) fun e2=>(aV (KM _ _) fun r2=>(uC jX (uJ i1))))));(uC (uJ J3) (uN fU p1.specs (uC (uN (eL af) p1.schemas (uY 46 vb fun y1=>(uJ J3))) (uJ J3)))));(gc f54 27036 1 fun R b=>have L2:∀k2 {z1},iQ (eO p1 k1) p1 x1 e1 k2 z1=some r→(R k2).p [(1,vR (bH p1)),(3,vi x1),(4,vQ 0),(5,vQ 1),(6,.one (.fn 106 [.pv (.rp [(bH p1)] 0 0),.pt 1 0 0 0])),(9,vl fU p1.specs),(10,vi p1.specs.length),(11,vi x1)] [.box [cl aC e1.fields],.box [ci z1]]:=uI (fW rfl) fun k2 i2 {z1} h=>b h (uU (iQ.eq_2 ..) (cu f54 216288 2 fun K k=>have J1:∀{z2 x2},u7 (eO p1 k1) (iQ (eO p1 k1) p1 x1 e1 k2) p1 x1 e1 z2 x2=some r→K.p [(1,vR (bH p1)),(3,vi x1),(4,vQ 0),(5,vQ 1),(6,.one (.fn 106 [.pv (.rp [(bH p1)] 0 0),.pt 1 0 0 0])),(9,vl fU p1.specs),(10,vi p1.specs.length),(11,vi x1),(28,vb x2)] [.box [cl aC e1.fields],.box [ci z2]]:=fun{z2 x2} h=>k h (uC (uJ i2) (uR (.exit 2) (xM (uJ J2))));(uC (EJ true [1] (jb _ _ _ _ _ _ _ _ _ _ _) fun r1 _=>(uJ J1)) (uJ J1))));uE (L2 aH))))) (uR (.exit 0) (xM (uJ J4)))));uE (L1 aH))))
def ki(x2:Bool):OB:=ak x2 (some true) (some false)
def kg(p1:Int)(x1:Bool):OB:=ak x1 (some true) (ak (decide (57343<p1)) (ki (decide (p1≤1114111))) (ki false))
def l9(p1:Int):OB:=ak (decide (0≤p1)) (kg p1 (decide (p1<55296))) (kg p1 false)
theorem A0(p1:Int):CT prog 169 [vk .i32 p1] (l9 p1) vb:=
  cI 17 [] f169 fun r=>(cu f169 24 3 fun K k=>have J1:∀{x1},kg p1 x1=some r→K.p [(0,vk .i32 p1),(3,vb x1)] []:=fun{x1} h=>k h (uC uz (cu f169 102 3 fun K k=>have J2:∀{x2},ki x2=some r→K.p [(10,vb x2)] []:=fun{x2} h=>k h (uC uz uz);(uC (uJ J2) (uJ J2))));(uC (uJ J1) (uJ J1)))
def xR:OI:=some (-1)
def lg(p1:ByteArray):Nat→Nat→OI
 |0,_=>none
 |k1+1,z1=>ak (decide (z1<p1.size)) (ak (Int.ofNat (Utf8.decode p1 z1).1==65533) (some (Int.ofNat z1)) ((lg p1 k1) (z1+(Utf8.decode p1 z1).2))) (xR)
def xK(p2 x2:Int):OI:=am (some (i64.wrap (x2-(i64.wrap (((Utf8.encode p2).size:Int)-1))))) fun y9=>some y9
def nH(p1:ByteArray)(p2 x2:Int):Nat→Int→OI
 |0,_=>none
 |k3+1,x3=>ak (decide (x3<((Utf8.encode p2).size:Int))) (iN (0≤(i64.wrap (x2-x3))∧(i64.wrap (x2-x3))<(p1.size:Int))<|am (some ((p1.data.toList.getD (i64.wrap (x2-x3)).toNat 0).toNat:Int)) fun y7=>am (some (i64.wrap ((i64.wrap (((Utf8.encode p2).size:Int)-1))-x3))) fun y8=>iN (0≤y8∧y8<((Utf8.encode p2).size:Int))<|ak (y7 != (((Utf8.encode p2).data.toList.getD y8.toNat 0).toNat:Int)) (none) ((nH p1 p2 x2 k3) (i64.wrap (x3+1)))) (xK p2 x2)
def rQ(p1:ByteArray)(p2 x2:Int):OI:=nH p1 p2 x2 aH 1
def xC:OI:=some (-1)
def jn(p1:ByteArray)(p2:Int):Nat→OI
 |0=>none
 |k2+1=>am (some (decide ((i64.wrap (((Utf8.encode p2).size:Int)-1))<(p1.size:Int)))) fun y1=>ak y1 (iN (0≤(i64.wrap (((Utf8.encode p2).size:Int)-1))∧(i64.wrap (((Utf8.encode p2).size:Int)-1))<(p1.size:Int))<|am (some ((p1.data.toList.getD (i64.wrap (((Utf8.encode p2).size:Int)-1)).toNat 0).toNat:Int)) fun y2=>iN (0≤(i64.wrap (((Utf8.encode p2).size:Int)-1))∧(i64.wrap (((Utf8.encode p2).size:Int)-1))<((Utf8.encode p2).size:Int))<|am (some (((Utf8.encode p2).data.toList.getD (i64.wrap (((Utf8.encode p2).size:Int)-1)).toNat 0).toNat:Int)) fun y3=>ak (y2 != y3) (am (some (i64.wrap ((i64.wrap (((Utf8.encode p2).size:Int)-1))+1))) fun y4=>iN (0≤y4∧y4≤(p1.size:Int)∧(p1.size:Int)≤(p1.size:Int))<|iN (0≤(i64.wrap (((Utf8.encode p2).size:Int)-1))∧(i64.wrap (((Utf8.encode p2).size:Int)-1))<((Utf8.encode p2).size:Int))<|am (some (((Utf8.encode p2).data.toList.getD (i64.wrap (((Utf8.encode p2).size:Int)-1)).toNat 0).toNat:Int)) fun y5=>am (strings_IndexByte (p1.extract y4.toNat (p1.size:Int).toNat) y5) fun r3=>ak (decide (r3<0)) (some (-1)) (am (some (i64.wrap ((i64.wrap (((Utf8.encode p2).size:Int)-1))+(i64.wrap (r3+1))))) fun y6=>rQ p1 p2 y6)) (rQ p1 p2 (i64.wrap (((Utf8.encode p2).size:Int)-1)))) (xC)
def lf(p1:ByteArray)(p2:Int)(x1:Bool):OI:=ak x1 (am (strings_IndexByte p1 (IntKind.u8.wrap p2)) fun r1=>some r1) (ak (p2==65533) (lg p1 aH 0) (am (l9 p2) fun r2=>ak (!r2) (some (-1)) (jn p1 p2 aH)))
def fJ(p1:ByteArray)(p2:Int):OI:=ak (decide (0≤p2)) (lf p1 p2 (decide (p2<128))) (lf p1 p2 false)
theorem oE(p1:ByteArray)(p2:Int):CT prog 116 [vs p1,vk .i32 p2] (fJ p1 p2) vi:=
  cI 187 [] f116 fun r=>(cu f116 12 2 fun K k=>have J1:∀{x1},lf p1 p2 x1=some r→K.p [(0,vs p1),(1,vk .i32 p2),(160,vb x1)] []:=fun{x1} h=>k h (uC (aV (yt _ _) fun r1=>uz) (uC (kT f116 220 2 xR [] [] uz fun K J2=>(uRg p1 (gc f116 882 1 fun R b=>have L1:∀k1 {z1},lg p1 k1 z1=some r→(R k1).p [(175,vQ 0)] [.raw (.stringIter p1 z1)]:=uI (fW rfl) fun k1 i1 {z1} h=>b h (uU (lg.eq_2 ..) (uNx 0 (fun b12=>(uT (uC jX (uJ i1)))) (fun b12=>(uF (uR (.exit 9) (xM (uJ J2)))))));uE (L1 aH)))) (aV (A0 _) fun r2=>(uC uz (kT f116 28638 3 xC [] [] uz fun K J5=>(gc f116 57276 1 fun R b=>have L2:∀k2,jn p1 p2 k2=some r→(R k2).p [(0,vs p1),(7,vs (Utf8.encode p2)),(8,vi (i64.wrap (((Utf8.encode p2).size:Int)-(1:Int)))),(9,vi (i64.wrap (((Utf8.encode p2).size:Int)-(1:Int))))] []:=uI (fW rfl) fun k2 i2 h=>b h (uU (jn.eq_2 ..) (uY 26 vb fun y1=>(uC (cu f116 1832840 3 fun K k=>have J3:∀{x2},rQ p1 p2 x2=some r→K.p [(0,vs p1),(7,vs (Utf8.encode p2)),(8,vi (i64.wrap (((Utf8.encode p2).size:Int)-(1:Int)))),(9,vi x2)] []:=fun{x2} h=>k h (kT f116 3665682 3 (xK p2 x2) [(8,vi (i64.wrap (((Utf8.encode p2).size:Int)-(1:Int)))),(9,vi x2)] [] (uY 67 vi fun y9=>jX) fun K J4=>(gc f116 14662730 1 fun R b=>have L3:∀k3 {x3},nH p1 p2 x2 k3 x3=some r→(R k3).p [(0,vs p1),(7,vs (Utf8.encode p2)),(8,vi (i64.wrap (((Utf8.encode p2).size:Int)-(1:Int)))),(9,vi x2),(12,vi x3)] []:=uI (fW rfl) fun k3 i3 {x3} h=>b h (uU (nH.eq_2 ..) (uC (nt 10 (uYg 58 (vk .u8) fun y7=>(uY 62 vi fun y8=>(uG (uC uNo (uJ i3)))))) (uR (.exit 3) (xM (uJ J4)))));uE (L3 aH)));(nt 6 (uYg 29 (vk .u8) fun y2=>(uYg 32 (vk .u8) fun y3=>(uC (nt 7 (uY 36 vi fun y4=>(uG (uYg 40 (vk .u8) fun y5=>(aV (yt _ _) fun r3=>(uC (uR .ret (xN (xN (xN xF)))) (uY 47 vi fun y6=>(uJ J3)))))))) (uJ J3)))))) (uR (.exit 1) (xM (uJ J5))))));uE (L2 aH)))))));(uC (uJ J1) (uJ J1)))
def d9(x1:Bool):OB:=some x1
def pq(p1:Int):OB:=ak (decide (p1<97)) (ak (decide (p1<48)) (am (fJ (ByteArray.mk #[95,45,46,47]) p1) fun r1=>d9 (decide (r1<0))) (ak (decide (57<p1)) (am (fJ (ByteArray.mk #[95,45,46,47]) p1) fun r2=>d9 (decide (r2<0))) (d9 false))) (ak (decide (122<p1)) (ak (decide (p1<48)) (am (fJ (ByteArray.mk #[95,45,46,47]) p1) fun r3=>d9 (decide (r3<0))) (ak (decide (57<p1)) (am (fJ (ByteArray.mk #[95,45,46,47]) p1) fun r4=>d9 (decide (r4<0))) (d9 false))) (d9 false))
theorem DC(p1:Int):CT prog 115 [vk .i32 p1] (pq p1) vb:=
  cI 22 [] f115 fun r=>(cu f115 6 1 fun K k=>have J1:∀{x1},d9 x1=some r→K.p [(2,vb x1)] []:=fun{x1} h=>k h uz;(uC (uC (aV (oE _ _) fun r1=>(uJ J1)) (uC (aV (oE _ _) fun r2=>(uJ J1)) (uJ J1))) (uC (uC (aV (oE _ _) fun r3=>(uJ J1)) (uC (aV (oE _ _) fun r4=>(uJ J1)) (uJ J1))) (uJ J1))))
def jO:OI:=some (-1)
def cf(p1:ByteArray)(p2:Bool):Nat→Nat→OI
 |0,_=>none
 |k1+1,z1=>ak (decide (z1<p1.size)) (am (pq (Int.ofNat (Utf8.decode p1 z1).1)) fun r1=>ak (r1==p2) (some (Int.ofNat z1)) ((cf p1 p2 k1) (z1+(Utf8.decode p1 z1).2))) (jO)
def gr(p1:ByteArray)(p2:Bool):OI:=cf p1 p2 aH 0
theorem qc(p1:ByteArray)(p2:Bool):CT prog 211 [vs p1,.one (.pv (.fn 115 [])),vb p2] (gr p1 p2) vi:=
  cI 21 [] f211 fun r=>(kT f211 6 1 jO [] [] uz fun K J1=>(uRg p1 (gc f211 26 1 fun R b=>have L1:∀k1 {z1},cf p1 p2 k1 z1=some r→(R k1).p [(1,.one (.pv (.fn 115 []))),(2,vb p2),(10,vQ 0)] [.raw (.stringIter p1 z1)]:=uI (fW rfl) fun k1 i1 {z1} h=>b h (uU (cf.eq_2 ..) (uNx 0 (fun b5=>(uT (aV (DC _) fun r1=>(uC jX (uJ i1))))) (fun b5=>(uF (uR (.exit 0) (xM (uJ J1)))))));uE (L1 aH))))
def gw(p1:ByteArray):OI:=am (gr p1 true) fun r1=>some r1
theorem pZ(p1:ByteArray):CT prog 167 [vs p1,.one (.pv (.fn 115 []))] (gw p1) vi:=
  cI 8 [] f167 fun r=>(aV (qc _ _) fun r1=>uz)
def fO(p1:ByteArray):OB:=am (gw p1) fun r1=>some (decide (0≤r1))
theorem oL(p1:ByteArray):CT prog 114 [vs p1,.one (.pv (.fn 115 []))] (fO p1) vb:=
  cI 9 [] f114 fun r=>(aV (pZ _) fun r1=>uz)
def oB(p1:ByteArray)(x1:Bool):OB:=ak x1 (some false) (am (fO p1) fun r1=>some (!r1))
def si(p1:ByteArray):OB:=ak (decide ((p1.size:Int)<1)) (oB p1 true) (oB p1 (decide (64<(p1.size:Int))))
theorem Fx(p1:ByteArray):CT prog 58 [vs p1] (si p1) vb:=
  cI 14 [] f58 fun r=>(cu f58 12 2 fun K k=>have J1:∀{x1},oB p1 x1=some r→K.p [(0,vs p1),(10,vb x1)] []:=fun{x1} h=>k h (uC uz (aV (oL _) fun r1=>uz));(uC (uJ J1) (uJ J1)))
def Ce(p1:bi)(p2:List ae):Option (Bool×(List ae)):=am (my p2 p1.source) fun r1=>some ((decide (r1<0)),p2)
theorem Kf(p1:bi)(p2:List ae):CM prog 60 [.ag [ci p1.source,ci p1.transform.kind,ci p1.transform.param],vQ 0] [.box [cl af p2]] (Ce p1 p2) (fun r=>vb r.1) (fun r=>[.box [cl af r.2]]):=
  wP 1 9 [] f60 fun r=>(aV (xJ _ _) fun r1=>(uR .ret ut))
def eE(z2:List ae):Option (Int×(List ae)):=some ((-1),z2)
def aQ(p1:List bi):Nat→List ae→Int→Option (Int×(List ae))
 |0,_,_=>none
 |k1+1,z1,x1=>ak (decide (x1<(p1.length:Int))) (am (at? p1 x1) fun e1=>am (Ce e1 z1) fun r1=>ak r1.1 (some (x1,r1.2)) ((aQ p1 k1) r1.2 (i64.wrap (x1+1)))) (eE z1)
def cU(p1:List bi)(p2:List ae):Option (Int×(List ae)):=aQ p1 aH p2 0
theorem jJ(p1:List bi)(p2:List ae):CM prog 117 [vl aC p1,.one (.fn 60 [.pt 0 0 0 0])] [.box [cl af p2]] (cU p1 p2) (fun r=>vi r.1) (fun r=>[.box [cl af r.2]]):=
  wP 1 19 [] f117 fun r=>(cu f117 6 1 fun K k=>have J1:∀{z2},eE z2=some r→K.p [] [.box [cl af z2]]:=fun{z2} h=>k h (uR .ret ut);(uN aC p1 (gc f117 26 1 fun R b=>have L1:∀k1 {z1 x1},aQ p1 k1 z1 x1=some r→(R k1).p [(0,vl aC p1),(1,.one (.fn 60 [.pt 0 0 0 0])),(7,vi p1.length),(8,vi x1)] [.box [cl af z1]]:=uI (fW rfl) fun k1 i1 {z1 x1} h=>b h (uU (aQ.eq_2 ..) (uC (dS aC fun e1=>(EJ true [0] (Kf _ _) fun r1 _=>(uC (uR .ret (xN (xN ut))) (uJ i1)))) (uR (.exit 0) (xM (uJ J1)))));uE (L1 aH))))
def bt(p1:List bi)(p2:List ae):Option (Bool×(List ae)):=am (cU p1 p2) fun r1=>some ((decide (0≤r1.1)),r1.2)
theorem jl(p1:List bi)(p2:List ae):CM prog 59 [vl aC p1,.one (.fn 60 [.pt 0 0 0 0])] [.box [cl af p2]] (bt p1 p2) (fun r=>vb r.1) (fun r=>[.box [cl af r.2]]):=
  wP 1 9 [] f59 fun r=>(EJ true [0] (jJ _ _) fun r1 _=>(uR .ret ut))
def nE(x1:Bool):OB:=some x1
def dZ(p1 p2 p3:Int):OB:=ak (decide (p2≤p1)) (nE (decide (p1≤p3))) (nE false)
theorem gF(p1 p2 p3:Int):CT prog 179 [vi p1,vi p2,vi p3] (dZ p1 p2 p3) vb:=
  cI 15 [] f179 fun r=>(cu f179 6 1 fun K k=>have J1:∀{x1},nE x1=some r→K.p [(6,vb x1)] []:=fun{x1} h=>k h uz;(uC (uJ J1) (uJ J1)))
def xf(rec1:Nat→OB)(p1:ByteArray)(z1:Nat)(x2:Bool):OB:=ak x2 (some false) (rec1 (z1+(Utf8.decode p1 z1).2))
def Bf:OB:=some true
def me(p1:ByteArray):Nat→Nat→OB
 |0,_=>none
 |k1+1,z1=>ak (decide (z1<p1.size)) (ak (decide (Int.ofNat (Utf8.decode p1 z1).1<32)) (xf (me p1 k1) p1 z1 true) (xf (me p1 k1) p1 z1 (Int.ofNat (Utf8.decode p1 z1).1==127))) (Bf)
def xc(p1:ByteArray)(x1:Bool):OB:=ak x1 (some false) (me p1 aH 0)
def Cq(p1:ByteArray):OB:=ak (decide (256<(p1.size:Int))) (xc p1 true) (am (utf8_ValidString p1) fun r1=>xc p1 (!r1))
theorem ME(p1:ByteArray):CT prog 246 [vs p1] (Cq p1) vb:=
  cI 24 [] f246 fun r=>(cu f246 12 2 fun K k=>have J1:∀{x1},xc p1 x1=some r→K.p [(0,vs p1),(12,vb x1)] []:=fun{x1} h=>k h (uC uz (kT f246 14 1 Bf [] [] uz fun K J3=>(uRg p1 (gc f246 58 1 fun R b=>have L1:∀k1 {z1},me p1 k1 z1=some r→(R k1).p [(14,vQ 0)] [.raw (.stringIter p1 z1)]:=uI (fW rfl) fun k1 i1 {z1} h=>b h (uU (me.eq_2 ..) (uNx 0 (fun b11=>(uT (cu f246 3738 2 fun K k=>have J2:∀{x2},xf (me p1 k1) p1 z1 x2=some r→K.p [(14,vQ 0),(23,vb x2)] [.raw (.stringIter p1 (z1+(Utf8.decode p1 z1).2))]:=fun{x2} h=>k h (uC jX (uJ i1));(uC (uJ J2) (uJ J2))))) (fun b11=>(uF (uR (.exit 0) (xM (uJ J3)))))));uE (L1 aH)))));(uC (uJ J1) (aV (zK _) fun r1=>(uJ J1))))
def q9(x2:Bool):OB:=some x2
def oR(x3:Bool):OB:=some x3
def oO(x4:Bool):OB:=some x4
def oJ(x5:Bool):OB:=some x5
def rN(x6:Bool):OB:=some x6
def oH(x7:Bool):OB:=some x7
def rO(x8:Bool):OB:=some x8
def rf(x9:Bool):OB:=some x9
def q8(p1:ac)(x1:Bool):OB:=ak (p1.kind==0) (ak x1 (ak (p1.s.toList==(ByteArray.mk #[]).toList) (q9 ((p1.items.length:Int)==0)) (q9 false)) (q9 false)) (ak (p1.kind==1) (am (dZ p1.n 0 1) fun r1=>ak r1 (ak (p1.scale==0) (ak (p1.s.toList==(ByteArray.mk #[]).toList) (oR ((p1.items.length:Int)==0)) (oR false)) (oR false)) (oR false)) (ak (p1.kind==2) (am (dZ p1.n (-999999999999999999) 999999999999999999) fun r2=>ak r2 (ak (p1.scale==0) (ak (p1.s.toList==(ByteArray.mk #[]).toList) (oO ((p1.items.length:Int)==0)) (oO false)) (oO false)) (oO false)) (ak (p1.kind==3) (am (dZ p1.n (-999999999999999999) 999999999999999999) fun r3=>ak r3 (am (dZ p1.scale 0 12) fun r4=>ak r4 (ak (p1.s.toList==(ByteArray.mk #[]).toList) (oJ ((p1.items.length:Int)==0)) (oJ false)) (oJ false)) (oJ false)) (ak (p1.kind==4) (ak x1 (am (Cq p1.s) fun r5=>ak r5 (rN ((p1.items.length:Int)==0)) (rN false)) (rN false)) (ak (p1.kind==5) (am (dZ p1.n (-62135596800) 253402300799) fun r6=>ak r6 (ak (p1.scale==0) (ak (p1.s.toList==(ByteArray.mk #[]).toList) (oH ((p1.items.length:Int)==0)) (oH false)) (oH false)) (oH false)) (ak (p1.kind==6) (ak x1 (ak (p1.s.toList==(ByteArray.mk #[]).toList) (rO (decide ((p1.items.length:Int)≤64))) (rO false)) (rO false)) (ak (p1.kind==7) (ak x1 (ak (p1.s.toList==(ByteArray.mk #[]).toList) (rf (decide (0<(p1.items.length:Int)))) (rf false)) (rf false)) (some false))))))))
def Ak(p1:ac):OB:=ak (p1.n==0) (q8 p1 (p1.scale==0)) (q8 p1 false)
theorem Lb(p1:ac):CT prog 213 [mV p1] (Ak p1) vb:=
  cI 154 [] f213 fun r=>(cu f213 6 1 fun K k=>have J1:∀{x1},q8 p1 x1=some r→K.p [(1,vR [pi p1.kind,pi p1.n,pi p1.scale,.s (.string p1.s),.ro (ah.els p1.items)]),(3,vb x1)] []:=fun{x1} h=>k h (uC (cu f213 468 3 fun K k=>have J2:∀{x2},q9 x2=some r→K.p [(2,vb x2)] []:=fun{x2} h=>k h uz;(uC (uC (uN ah p1.items (uJ J2)) (uJ J2)) (uJ J2))) (uC (cu f213 1884 3 fun K k=>have J3:∀{x3},oR x3=some r→K.p [(2,vb x3)] []:=fun{x3} h=>k h uz;(aV (gF _ _ _) fun r1=>(uC (uC (uC (uN ah p1.items (uJ J3)) (uJ J3)) (uJ J3)) (uJ J3)))) (uC (cu f213 7548 3 fun K k=>have J4:∀{x4},oO x4=some r→K.p [(2,vb x4)] []:=fun{x4} h=>k h uz;(aV (gF _ _ _) fun r2=>(uC (uC (uC (uN ah p1.items (uJ J4)) (uJ J4)) (uJ J4)) (uJ J4)))) (uC (cu f213 30204 3 fun K k=>have J5:∀{x5},oJ x5=some r→K.p [(2,vb x5)] []:=fun{x5} h=>k h uz;(aV (gF _ _ _) fun r3=>(uC (aV (gF _ _ _) fun r4=>(uC (uC (uN ah p1.items (uJ J5)) (uJ J5)) (uJ J5))) (uJ J5)))) (uC (cu f213 120828 3 fun K k=>have J6:∀{x6},rN x6=some r→K.p [(2,vb x6)] []:=fun{x6} h=>k h uz;(uC (aV (ME _) fun r5=>(uC (uN ah p1.items (uJ J6)) (uJ J6))) (uJ J6))) (uC (cu f213 483324 3 fun K k=>have J7:∀{x7},oH x7=some r→K.p [(2,vb x7)] []:=fun{x7} h=>k h uz;(aV (gF _ _ _) fun r6=>(uC (uC (uC (uN ah p1.items (uJ J7)) (uJ J7)) (uJ J7)) (uJ J7)))) (uC (cu f213 1933308 3 fun K k=>have J8:∀{x8},rO x8=some r→K.p [(2,vb x8)] []:=fun{x8} h=>k h uz;(uC (uC (uN ah p1.items (uJ J8)) (uJ J8)) (uJ J8))) (uC (cu f213 7733244 3 fun K k=>have J9:∀{x9},rf x9=some r→K.p [(2,vb x9)] []:=fun{x9} h=>k h uz;(uC (uC (uN ah p1.items (uJ J9)) (uJ J9)) (uJ J9))) uz))))))));(uC (uJ J1) (uJ J1)))
def dp(z2:Int):Option (Int×Int):=some ((-1),z2)
def bn(q_value_sound_1_s:ac→Int→Int→Option (Bool×Int))(p1:List ac)(p2:Int):Nat→Int→Int→Option (Int×Int)
 |0,_,_=>none
 |k1+1,z1,x1=>ak (decide (x1<(p1.length:Int))) (am (at? p1 x1) fun e1=>am (q_value_sound_1_s e1 p2 z1) fun r1=>ak r1.1 (some (x1,r1.2)) ((bn q_value_sound_1_s p1 p2 k1) r1.2 (i64.wrap (x1+1)))) (dp z1)
def oX(q_slices_ContainsFunc_api_Value_api_Value_of_value_sound_1:(List ac)→Int→Int→Option (Bool×Int))(p1:ac)(p2 z1:Int)(x1:Bool):Option (Bool×Int):=ak x1 (some (false,z1)) (am (q_slices_ContainsFunc_api_Value_api_Value_of_value_sound_1 p1.items p2 z1) fun r2=>some ((!r2.1),r2.2))
def rn(q_slices_ContainsFunc_api_Value_api_Value_of_value_sound_1:(List ac)→Int→Int→Option (Bool×Int))(p1:ac)(p2 z1:Int):Option (Bool×Int):=ak (decide (4<p2)) (oX q_slices_ContainsFunc_api_Value_api_Value_of_value_sound_1 p1 p2 z1 true) (ak (decide (256<z1)) (oX q_slices_ContainsFunc_api_Value_api_Value_of_value_sound_1 p1 p2 z1 true) (am (Ak p1) fun r1=>oX q_slices_ContainsFunc_api_Value_api_Value_of_value_sound_1 p1 p2 z1 (!r1)))
mutual
def aW:Nat→(List ac)→Int→Int→Option (Bool×Int)
 |0,_,_,_=>none
 |k0+1,p1,p2,p3=>am ((bM k0) p1 p2 p3) fun r1=>some ((decide (0≤r1.1)),r1.2)
def bM:Nat→(List ac)→Int→Int→Option (Int×Int)
 |0,_,_,_=>none
 |k0+1,p1,p2,p3=>bn (lH k0) p1 p2 aH p3 0
def o9:Nat→ac→Int→Int→Option (Bool×Int)
 |0,_,_,_=>none
 |k0+1,p1,p2,p3=>ak (p1.kind != 0) (rn (aW k0) p1 p2 (i64.wrap (p3+1))) (rn (aW k0) p1 p2 p3)
def lH:Nat→ac→Int→Int→Option (Bool×Int)
 |0,_,_,_=>none
 |k0+1,p1,p2,p3=>am ((o9 k0) p1 (i64.wrap (p2+1)) p3) fun r1=>some ((!r1.1),r1.2)
end
mutual
theorem kE:∀(k0:Nat) (p1:List ac) (p2 p3:Int),CM prog 173 [vl ah p1,.one (.fn 214 [.pv (.rp [[pi p2]] 0 0),.pt 0 0 0 0])] [.box [.pt 1 0 0 0],.box [ci p3]] (aW k0 p1 p2 p3) (fun r=>vb r.1) (fun r=>[.box [.pt 1 0 0 0],.box [ci r.2]])
  |0,_,_,_=>Zq (aW.eq_1 ..)
  |k0+1,p1,p2,p3=>wP 2 9 [] f173 fun r=>(uU (aW.eq_2 ..) (EJ true [0,1] (lw k0 _ _ _) fun r1 _=>(uR .ret ut)))
theorem lw:∀(k0:Nat) (p1:List ac) (p2 p3:Int),CM prog 215 [vl ah p1,.one (.fn 214 [.pv (.rp [[pi p2]] 0 0),.pt 0 0 0 0])] [.box [.pt 1 0 0 0],.box [ci p3]] (bM k0 p1 p2 p3) (fun r=>vi r.1) (fun r=>[.box [.pt 1 0 0 0],.box [ci r.2]])
  |0,_,_,_=>Zq (bM.eq_1 ..)
  |k0+1,p1,p2,p3=>wP 2 19 [] f215 fun r=>(uU (bM.eq_2 ..) (cu f215 6 1 fun K k=>have J1:∀{z2},dp z2=some r→K.p [] [.box [.pt 1 0 0 0],.box [ci z2]]:=fun{z2} h=>k h (uR .ret ut);(uN ah p1 (gc f215 26 1 fun R b=>have L1:∀k1 {z1 x1},bn (lH k0) p1 p2 k1 z1 x1=some r→(R k1).p [(0,vl ah p1),(1,.one (.fn 214 [.pv (.rp [[pi p2]] 0 0),.pt 0 0 0 0])),(7,vi p1.length),(8,vi x1)] [.box [.pt 1 0 0 0],.box [ci z1]]:=uI (fW rfl) fun k1 i1 {z1 x1} h=>b h (uU (bn.eq_2 ..) (uC (dS ah fun e1=>(EJ true [0,1] (Gh k0 _ _ _) fun r1 _=>(uC (uR .ret (xN (xN ut))) (uJ i1)))) (uR (.exit 0) (xM (uJ J1)))));uE (L1 aH)))))
theorem EE:∀(k0:Nat) (p1:ac) (p2 p3:Int),CM prog 172 [mV p1,vi p2,vQ 0] [.box [ci p3]] (o9 k0 p1 p2 p3) (fun r=>vb r.1) (fun r=>[.box [ci r.2]])
  |0,_,_,_=>Zq (o9.eq_1 ..)
  |k0+1,p1,p2,p3=>wP 1 33 [5] f172 fun r=>(uU (o9.eq_2 ..) (cu f172 6 1 fun K k=>have J1:∀{z1},rn (aW k0) p1 p2 z1=some r→K.p [(3,vR [pi p1.kind,pi p1.n,pi p1.scale,.s (.string p1.s),.ro (ah.els p1.items)]),(4,vR [pi p2]),(5,vQ 1)] [.box [ci z1],.box [.pt 0 0 0 0]]:=fun{z1} h=>k h (cu f172 28 2 fun K k=>have J2:∀{x1},oX (aW k0) p1 p2 z1 x1=some r→K.p [(3,vR [pi p1.kind,pi p1.n,pi p1.scale,.s (.string p1.s),.ro (ah.els p1.items)]),(4,vR [pi p2]),(5,vQ 1),(27,vb x1)] [.box [ci z1],.box [.pt 0 0 0 0]]:=fun{x1} h=>k h (uC (uR .ret ut) (EJ true [1,0] (kE k0 _ _ _) fun r2 _=>(uR .ret ut)));(uC (uJ J2) (uC (uJ J2) (aV (Lb _) fun r1=>(uJ J2)))));(uC (uJ J1) (uJ J1))))
theorem Gh:∀(k0:Nat) (p1:ac) (p2 p3:Int),CM prog 214 [mV p1,vR [pi p2],vQ 0] [.box [.pt 1 0 0 0],.box [ci p3]] (lH k0 p1 p2 p3) (fun r=>vb r.1) (fun r=>[.box [.pt 1 0 0 0],.box [ci r.2]])
  |0,_,_,_=>Zq (lH.eq_1 ..)
  |k0+1,p1,p2,p3=>wP 2 11 [] f214 fun r=>(uU (lH.eq_2 ..) (EJ true [1] (EE k0 _ _ _) fun r1 _=>(uR .ret ut)))
end
def kX(p1:ac):OB:=am (o9 aH p1 1 0) fun r1=>some r1.1
theorem od(p1:ac):CT prog 121 [mV p1] (kX p1) vb:=
  cI 6 [3] f121 fun r=>(EJ true [0] (EE aH _ _ _) fun r1 _=>uz)
def bZ:OB:=some true
def aM(q_value_of_2:ae→ac→OB)(p1:List ae)(p2:List ac):Nat→Int→OB
 |0,_=>none
 |k1+1,x1=>ak (decide (x1<(p1.length:Int))) (am (at? p1 x1) fun e1=>am (at? p2 x1) fun e2=>am (q_value_of_2 e1 e2) fun r1=>ak (!r1) (some false) ((aM q_value_of_2 p1 p2 k1) (i64.wrap (x1+1)))) (bZ)
def dJ:OI:=some (-1)
def bg(q_value_of_1_s:ac→Int→Int→(List ae)→OB)(p1:List ac)(p2 p3:Int)(p4:List ae):Nat→Int→OI
 |0,_=>none
 |k1+1,x1=>ak (decide (x1<(p1.length:Int))) (am (at? p1 x1) fun e1=>am (q_value_of_1_s e1 p2 p3 p4) fun r1=>ak r1 (some x1) ((bg q_value_of_1_s p1 p2 p3 p4 k1) (i64.wrap (x1+1)))) (dJ)
mutual
def bL:Nat→(List ac)→Int→Int→(List ae)→OB
 |0,_,_,_,_=>none
 |k0+1,p1,p2,p3,p4=>am ((bV k0) p1 p2 p3 p4) fun r1=>some (decide (0≤r1))
def aY:Nat→(List ae)→(List ac)→OB
 |0,_,_=>none
 |k0+1,p1,p2=>ak ((p1.length:Int) != (p2.length:Int)) (some false) (aM (ui k0) p1 p2 aH 0)
def bV:Nat→(List ac)→Int→Int→(List ae)→OI
 |0,_,_,_,_=>none
 |k0+1,p1,p2,p3,p4=>bg (pD k0) p1 p2 p3 p4 aH 0
def vr:Nat→al→ac→OB
 |0,_,_=>none
 |k0+1,p1,p2=>ak (p2.kind==0) (some true) (ak (p2.kind != p1.kind) (some false) (ak (p2.kind==3) (some (p2.scale==p1.scale)) (ak (p2.kind==6) (am ((bL k0) p2.items p1.kind p1.scale p1.fields) fun r1=>some (!r1)) (ak (p2.kind==7) (am ((aY k0) p1.fields p2.items) fun r2=>some r2) (some true)))))
def pD:Nat→ac→Int→Int→(List ae)→OB
 |0,_,_,_,_=>none
 |k0+1,p1,p2,p3,p4=>am (at? p4 0) fun e1=>am ((vr k0) e1.type p1) fun r1=>some (!r1)
def ui:Nat→ae→ac→OB
 |0,_,_=>none
 |k0+1,p1,p2=>am ((vr k0) p1.type p2) fun r1=>some r1
end
mutual
theorem lx:∀(k0:Nat) (p1:List ac) (p2 p3:Int) (p4:List ae),CT prog 173 [vl ah p1,.one (.fn 174 [.pv (.rp [[pi p2,pi p3,.ro (af.els p4)]] 0 0)])] (bL k0 p1 p2 p3 p4) vb
  |0,_,_,_,_=>Jd (bL.eq_1 ..)
  |k0+1,p1,p2,p3,p4=>cI 9 [] f173 fun r=>(uU (bL.eq_2 ..) (aV (ma k0 _ _ _ _) fun r1=>uz))
theorem ij:∀(k0:Nat) (p1:List ae) (p2:List ac),CT prog 175 [vl af p1,vl ah p2,.one (.pv (.fn 176 []))] (aY k0 p1 p2) vb
  |0,_,_=>Jd (aY.eq_1 ..)
  |k0+1,p1,p2=>cI 32 [8,9] f175 fun r=>(uU (aY.eq_2 ..) (uN af p1 (uN ah p2 (uC uz (kT f175 14 1 bZ [] [] uz fun K J1=>(uN af p1 (gc f175 58 1 fun R b=>have L1:∀k1 {x1},aM (ui k0) p1 p2 k1 x1=some r→(R k1).p [(1,vl ah p2),(2,.one (.pv (.fn 176 []))),(15,vl af p1),(16,vi p1.length),(17,vi x1)] []:=uI (fW rfl) fun k1 i1 {x1} h=>b h (uU (aM.eq_2 ..) (uC (dS af fun e1=>(dS ah fun e2=>(aV (Na k0 _ _) fun r1=>(uC jX (uJ i1))))) (uR (.exit 0) (xM (uJ J1)))));uE (L1 aH))))))))
theorem ma:∀(k0:Nat) (p1:List ac) (p2 p3:Int) (p4:List ae),CT prog 215 [vl ah p1,.one (.fn 174 [.pv (.rp [[pi p2,pi p3,.ro (af.els p4)]] 0 0)])] (bV k0 p1 p2 p3 p4) vi
  |0,_,_,_,_=>Jd (bV.eq_1 ..)
  |k0+1,p1,p2,p3,p4=>cI 19 [] f215 fun r=>(uU (bV.eq_2 ..) (kT f215 6 1 dJ [] [] uz fun K J1=>(uN ah p1 (gc f215 26 1 fun R b=>have L1:∀k1 {x1},bg (pD k0) p1 p2 p3 p4 k1 x1=some r→(R k1).p [(0,vl ah p1),(1,.one (.fn 174 [.pv (.rp [[pi p2,pi p3,.ro (af.els p4)]] 0 0)])),(7,vi p1.length),(8,vi x1)] []:=uI (fW rfl) fun k1 i1 {x1} h=>b h (uU (bg.eq_2 ..) (uC (dS ah fun e1=>(aV (Kr k0 _ _ _ _) fun r1=>(uC jX (uJ i1)))) (uR (.exit 0) (xM (uJ J1)))));uE (L1 aH)))))
theorem Ff:∀(k0:Nat) (p1:al) (p2:ac),CT prog 122 [mT p1,mV p2] (vr k0 p1 p2) vb
  |0,_,_=>Jd (vr.eq_1 ..)
  |k0+1,p1,p2=>cI 42 [] f122 fun r=>(uU (vr.eq_2 ..) (uC uz (uC uz (uC uz (uC (aV (lx k0 _ _ _ _) fun r1=>uz) (uC (aV (ij k0 _ _) fun r2=>uz) uz))))))
theorem Kr:∀(k0:Nat) (p1:ac) (p2 p3:Int) (p4:List ae),CT prog 174 [mV p1,vR [pi p2,pi p3,.ro (af.els p4)]] (pD k0 p1 p2 p3 p4) vb
  |0,_,_,_,_=>Jd (pD.eq_1 ..)
  |k0+1,p1,p2,p3,p4=>cI 12 [] f174 fun r=>(uU (pD.eq_2 ..) (nt 6 (dS af fun e1=>(aV (Ff k0 _ _) fun r1=>uz))))
theorem Na:∀(k0:Nat) (p1:ae) (p2:ac),CT prog 176 [mf p1,mV p2] (ui k0 p1 p2) vb
  |0,_,_=>Jd (ui.eq_1 ..)
  |k0+1,p1,p2=>cI 9 [] f176 fun r=>(uU (ui.eq_2 ..) (aV (Ff k0 _ _) fun r1=>uz))
end
def vm(p1:al)(x1:Int):Option ae:=am (at? p1.fields x1) fun e1=>some e1
def xP(p1:al)(p2:Int):Option ae:=ak (p1.kind==6) (vm p1 0) (vm p1 p2)
theorem ET(p1:al)(p2:Int):CT prog 177 [mT p1,vi p2] (xP p1 p2) (fun r=>mf r):=
  cI 13 [4] f177 fun r=>(cu f177 6 1 fun K k=>have J1:∀{x1},vm p1 x1=some r→K.p [(1,vi x1),(2,vR [pi p1.kind,pi p1.scale,.ro (af.els p1.fields)]),(4,vQ 0)] [.box [ci (0:Int),qm ByteArray.empty,cb false,ci (0:Int),ci (0:Int),.pv (.s (.slice none 0 0))]]:=fun{x1} h=>k h (dS af fun e1=>uz);(uC (uJ J1) (uJ J1)))
def rH(rec1:Int→OB)(x1:Int)(x2:Bool):OB:=ak x2 (some true) (rec1 (i64.wrap (x1+1)))
def Aa:OB:=some false
def iR(q_value_lacks:al→ac→OB)(p1:al)(p2:ac):Nat→Int→OB
 |0,_=>none
 |k1+1,x1=>ak (decide (x1<(p2.items.length:Int))) (am (at? p2.items x1) fun e1=>am (xP p1 x1) fun r1=>ak (e1.kind==0) (ak r1.need (rH (iR q_value_lacks p1 p2 k1) x1 true) (am (q_value_lacks r1.type e1) fun r2=>rH (iR q_value_lacks p1 p2 k1) x1 r2)) (am (q_value_lacks r1.type e1) fun r3=>rH (iR q_value_lacks p1 p2 k1) x1 r3)) (Aa)
def kY:Nat→al→ac→OB
 |0,_,_=>none
 |k0+1,p1,p2=>iR (kY k0) p1 p2 aH 0
theorem Br:∀(k0:Nat) (p1:al) (p2:ac),CT prog 123 [mT p1,mV p2] (kY k0 p1 p2) vb
  |0,_,_=>Jd (kY.eq_1 ..)
  |k0+1,p1,p2=>cI 33 [6,7] f123 fun r=>(uU (kY.eq_2 ..) (kT f123 6 1 Aa [] [] uz fun K J2=>(uN ah p2.items (gc f123 26 1 fun R b=>have L1:∀k1 {x1},iR (kY k0) p1 p2 k1 x1=some r→(R k1).p [(2,vR [pi p1.kind,pi p1.scale,.ro (af.els p1.fields)]),(9,vl ah p2.items),(10,vi p2.items.length),(11,vi x1)] []:=uI (fW rfl) fun k1 i1 {x1} h=>b h (uU (iR.eq_2 ..) (uC (dS ah fun e1=>(aV (ET _ _) fun r1=>(cu f123 6758 3 fun K k=>have J1:∀{x2},rH (iR (kY k0) p1 p2 k1) x1 x2=some r→K.p [(2,vR [pi p1.kind,pi p1.scale,.ro (af.els p1.fields)]),(9,vl ah p2.items),(10,vi p2.items.length),(11,vi x1),(31,vb x2)] [.dead,.dead]:=fun{x2} h=>k h (uC jX (uJ i1));(uC (uC (uJ J1) (aV (Br k0 _ _) fun r2=>(uJ J1))) (aV (Br k0 _ _) fun r3=>(uJ J1)))))) (uR (.exit 0) (xM (uJ J2)))));uE (L1 aH)))))
def gN(p1:al)(p2:ac):OI:=am (dk p1) fun r1=>ak (r1 != 0) (some r1) (am (kX p2) fun r2=>ak (!r2) (some 1) (am (vr aH p1 p2) fun r3=>ak (!r3) (some 2) (am (kY aH p1 p2) fun r4=>ak r4 (some 9) (some 0))))
theorem qj(p1:al)(p2:ac):CT prog 63 [mT p1,mV p2] (gN p1 p2) vi:=
  cI 24 [] f63 fun r=>(aV (lC _) fun r1=>(uC uz (aV (od _) fun r2=>(uC uz (aV (Ff aH _ _) fun r3=>(uC uz (aV (Br aH _ _) fun r4=>(uC uz uz))))))))
def Bi(p1:bB)(p2:ae):OB:=some (p1.id==p2.id)
theorem IW(p1:bB)(p2:ae):CT prog 124 [mA p1,mf p2] (Bi p1 p2) vb:=
  cI 10 [] f124 fun r=>uz
def di:OB:=some true
def aI(p1:List bB)(p2:List ae):Nat→Int→OB
 |0,_=>none
 |k1+1,x1=>ak (decide (x1<(p1.length:Int))) (am (at? p1 x1) fun e1=>am (at? p2 x1) fun e2=>am (Bi e1 e2) fun r1=>ak (!r1) (some false) ((aI p1 p2 k1) (i64.wrap (x1+1)))) (di)
def cc(p1:List bB)(p2:List ae):OB:=ak ((p1.length:Int) != (p2.length:Int)) (some false) (aI p1 p2 aH 0)
theorem gC(p1:List bB)(p2:List ae):CT prog 125 [vl cA p1,vl af p2,.one (.pv (.fn 124 []))] (cc p1 p2) vb:=
  cI 32 [8,9] f125 fun r=>(uN cA p1 (uN af p2 (uC uz (kT f125 14 1 di [] [] uz fun K J1=>(uN cA p1 (gc f125 58 1 fun R b=>have L1:∀k1 {x1},aI p1 p2 k1 x1=some r→(R k1).p [(1,vl af p2),(2,.one (.pv (.fn 124 []))),(15,vl cA p1),(16,vi p1.length),(17,vi x1)] []:=uI (fW rfl) fun k1 i1 {x1} h=>b h (uU (aI.eq_2 ..) (uC (dS cA fun e1=>(dS af fun e2=>(aV (IW _ _) fun r1=>(uC jX (uJ i1))))) (uR (.exit 0) (xM (uJ J1)))));uE (L1 aH)))))))
def w8(p1:Int):OB:=some (p1 != p1)
theorem CL(p1:Int):CT prog 216 [vi p1] (w8 p1) vb:=
  cI 6 [] f216 fun r=>uz
def nA(p1 p2:Int):OI:=am (w8 p1) fun r1=>am (w8 p2) fun r2=>ak r1 (ak r2 (some 0) (some (-1))) (ak r2 (some 1) (ak (decide (p1<p2)) (some (-1)) (ak (decide (p2<p1)) (some 1) (some 0))))
theorem vu(p1 p2:Int):CT prog 178 [vi p1,vi p2] (nA p1 p2) vi:=
  cI 20 [] f178 fun r=>(aV (CL _) fun r1=>(aV (CL _) fun r2=>(uC (uC uz uz) (uC uz (uC uz (uC uz uz))))))
def nG(p1:Int):Option bw:=ak (decide (p1<0)) (some (bw.mk true ((IntKind.u64.wrap (0-(IntKind.u64.wrap p1))),0,0,0))) (some (bw.mk false ((IntKind.u64.wrap p1),0,0,0)))
theorem AW(p1:Int):CT prog 217 [vi p1] (nG p1) (fun r=>mW r):=
  cI 14 [2] f217 fun r=>(uC uz uz)
def iX(p1 p2:Int):Option (Int×Int):=am (some (IntKind.u64.wrap (BitVec.ofInt (IntKind.u64).bits p1 &&& BitVec.ofInt (IntKind.u64).bits 4294967295).toNat)) fun y1=>am (some (IntKind.u64.wrap (BitVec.ofInt (IntKind.u64).bits p2 &&& BitVec.ofInt (IntKind.u64).bits 4294967295).toNat)) fun y2=>am (some (IntKind.u64.wrap ((p1.fdiv (2^(min (32:Int).toNat (IntKind.u64).bits)))*y2))) fun y3=>am (some ((IntKind.u64.wrap (y1*y2)).fdiv (2^(min (32:Int).toNat (IntKind.u64).bits)))) fun y4=>am (some (IntKind.u64.wrap (BitVec.ofInt (IntKind.u64).bits (IntKind.u64.wrap (y3+y4)) &&& BitVec.ofInt (IntKind.u64).bits 4294967295).toNat)) fun y5=>am (some ((IntKind.u64.wrap (y3+y4)).fdiv (2^(min (32:Int).toNat (IntKind.u64).bits)))) fun y6=>am (some (IntKind.u64.wrap (y1*(p2.fdiv (2^(min (32:Int).toNat (IntKind.u64).bits)))))) fun y7=>am (some (IntKind.u64.wrap ((p1.fdiv (2^(min (32:Int).toNat (IntKind.u64).bits)))*(p2.fdiv (2^(min (32:Int).toNat (IntKind.u64).bits)))))) fun y8=>am (some ((IntKind.u64.wrap (y5+y7)).fdiv (2^(min (32:Int).toNat (IntKind.u64).bits)))) fun y9=>some ((IntKind.u64.wrap ((IntKind.u64.wrap (y8+y6))+y9)),(IntKind.u64.wrap (p1*p2)))
theorem qI(p1 p2:Int):CT prog 272 [vk .u64 p1,vk .u64 p2] (iX p1 p2) (fun r=> .tp [vk .u64 r.1,vk .u64 r.2]):=
  cI 51 [] f272 fun r=>(uY 15 (vk .u64) fun y1=>(uY 19 (vk .u64) fun y2=>(uY 27 (vk .u64) fun y3=>(uY 29 (vk .u64) fun y4=>(uY 32 (vk .u64) fun y5=>(uY 34 (vk .u64) fun y6=>(uY 38 (vk .u64) fun y7=>(uY 42 (vk .u64) fun y8=>(uY 46 (vk .u64) fun y9=>uz)))))))))
def dx(p1:bw)(p2:Int):Option bw:=am (iX p1.size.1 p2) fun r1=>iN (0≤r1.2∧0≤(0:Int)∧0≤(0:Int)∧(0:Int)≤1)<|am (some (IntKind.u64.wrap (r1.1+((r1.2+0+(0:Int))/18446744073709551616)))) fun y1=>am (iX p1.size.2.1 p2) fun r2=>iN (0≤r2.2∧0≤y1∧0≤(0:Int)∧(0:Int)≤1)<|am (some (IntKind.u64.wrap (r2.1+((r2.2+y1+0)/18446744073709551616)))) fun y2=>am (iX p1.size.2.2.1 p2) fun r3=>iN (0≤r3.2∧0≤y2∧0≤(0:Int)∧(0:Int)≤1)<|am (some (IntKind.u64.wrap (r3.1+((r3.2+y2+0)/18446744073709551616)))) fun y3=>am (iX p1.size.2.2.2 p2) fun r4=>iN (0≤r4.2∧0≤y3∧0≤(0:Int)∧(0:Int)≤1)<|am (some (IntKind.u64.wrap (r4.1+((r4.2+y3+0)/18446744073709551616)))) fun y4=>some (bw.mk p1.neg (((r1.2+0+(0:Int))%18446744073709551616),((r2.2+y1+0)%18446744073709551616),((r3.2+y2+0)%18446744073709551616),((r4.2+y3+0)%18446744073709551616)))
theorem po(p1:bw)(p2:Int):CT prog 247 [mW p1,vk .u64 p2] (dx p1 p2) (fun r=>mW r):=
  cI 37 [2,4] f247 fun r=>(Ro 4 (aV (qI _ _) fun r1=>(NL 273 f273 (uY 34 (vk .u64) fun y1=>(aV (qI _ _) fun r2=>(NL 273 f273 (uY 34 (vk .u64) fun y2=>(aV (qI _ _) fun r3=>(NL 273 f273 (uY 34 (vk .u64) fun y3=>(aV (qI _ _) fun r4=>(NL 273 f273 (uY 34 (vk .u64) fun y4=>uz)))))))))))))
def wm(z6:Bool)(z7 z8 z9 z10:Int):Option bw:=some (bw.mk z6 (z7,z8,z9,z10))
def de(p2:Int):Nat→Bool→Int→Int→Int→Int→Int→Option bw
 |0,_,_,_,_,_,_=>none
 |k1+1,z1,z2,z3,z4,z5,x1=>ak (decide (x1<p2)) (am (dx (bw.mk z1 (z2,z3,z4,z5)) 10) fun r1=>(de p2 k1) r1.neg r1.size.1 r1.size.2.1 r1.size.2.2.1 r1.size.2.2.2 (i64.wrap (x1+1))) (wm z1 z2 z3 z4 z5)
def je(p1:bw)(p2:Int):Option bw:=de p2 aH p1.neg p1.size.1 p1.size.2.1 p1.size.2.2.1 p1.size.2.2.2 0
abbrev VZ:List CV:=[cb false,ck .u64 (0:Int),ck .u64 (0:Int),ck .u64 (0:Int),ck .u64 (0:Int)]
theorem xu(p1:bw)(p2:Int):CT prog 218 [mW p1,vi p2] (je p1 p2) (fun r=>mW r):=
  cI 12 [2,4] f218 fun r=>(cu f218 6 1 fun K k=>have J1:∀{z6 z7 z8 z9 z10},wm z6 z7 z8 z9 z10=some r→K.p [(2,vQ 0),(4,vQ 1)] [.box [cb z6,ck .u64 z7,ck .u64 z8,ck .u64 z9,ck .u64 z10],.box VZ]:=fun{z6 z7 z8 z9 z10} h=>k h uz;(gc f218 26 1 fun R b=>have L1:∀k1 {z1 z2 z3 z4 z5 x1},de p2 k1 z1 z2 z3 z4 z5 x1=some r→(R k1).p [(2,vQ 0),(4,vQ 1),(5,vi p2),(6,vi x1)] [.box [cb z1,ck .u64 z2,ck .u64 z3,ck .u64 z4,ck .u64 z5],.box VZ]:=uI (fW rfl) fun k1 i1 {z1 z2 z3 z4 z5 x1} h=>b h (uU (de.eq_2 ..) (uC (aV (po _ _) fun r1=>(uJ i1)) (uR (.exit 0) (xM (uJ J1)))));uE (L1 aH)))
def lZ(p1 p2:Int):Option bw:=am (nG p1) fun r1=>am (je (bw.mk r1.neg (r1.size.1,r1.size.2.1,r1.size.2.2.1,r1.size.2.2.2)) p2) fun r2=>some (bw.mk r2.neg (r2.size.1,r2.size.2.1,r2.size.2.2.1,r2.size.2.2.2))
theorem vH(p1 p2:Int):CT prog 181 [vi p1,vi p2] (lZ p1 p2) (fun r=>mW r):=
  cI 9 [4] f181 fun r=>(aV (AW _) fun r1=>(aV (xu _ _) fun r2=>uz))
def gG(p1:bw):Option bw:=some (bw.mk (!p1.neg) (p1.size.1,p1.size.2.1,p1.size.2.2.1,p1.size.2.2.2))
theorem qV(p1:bw):CT prog 249 [mW p1] (gG p1) (fun r=>mW r):=
  cI 8 [1,2] f249 fun r=>uz
def iB(p1 p2:bw):OI:=ak (decide (p1.size.2.2.2<p2.size.2.2.2)) (some (-1)) (ak (decide (p2.size.2.2.2<p1.size.2.2.2)) (some 1) (ak (decide (p1.size.2.2.1<p2.size.2.2.1)) (some (-1)) (ak (decide (p2.size.2.2.1<p1.size.2.2.1)) (some 1) (ak (decide (p1.size.2.1<p2.size.2.1)) (some (-1)) (ak (decide (p2.size.2.1<p1.size.2.1)) (some 1) (ak (decide (p1.size.1<p2.size.1)) (some (-1)) (ak (decide (p2.size.1<p1.size.1)) (some 1) (some 0))))))))
theorem Ek(p1 p2:bw):CT prog 250 [mW p1,mW p2] (iB p1 p2) vi:=
  cI 30 [] f250 fun r=>(Ro 4 (nt 8 (uC uz (nt 8 (uC uz (nt 8 (uC uz (nt 8 (uC uz (nt 8 (uC uz (nt 8 (uC uz (nt 8 (uC uz (nt 8 (uC uz uz)))))))))))))))))
def gg(z1:Bool)(z2 z3 z4 z5:Int)(z6:Bool)(z7 z8 z9 z10:Int):Option bw:=iN (0≤z2∧0≤z7∧z7<18446744073709551616∧0≤(0:Int)∧(0:Int)≤1)<|iN (0≤z3∧0≤z8∧z8<18446744073709551616∧0≤(if z2<z7+0 then(1:Int)else 0)∧(if z2<z7+0 then(1:Int)else 0)≤1)<|am (some ((z3-z8-(if z2<z7+0 then(1:Int)else 0))%18446744073709551616)) fun y1=>am (some (if z3<z8+(if z2<z7+0 then(1:Int)else 0)then(1:Int)else 0)) fun y2=>iN (0≤z4∧0≤z9∧z9<18446744073709551616∧0≤y2∧y2≤1)<|iN (0≤z5∧0≤z10∧z10<18446744073709551616∧0≤(if z4<z9+y2 then(1:Int)else 0)∧(if z4<z9+y2 then(1:Int)else 0)≤1)<|am (some ((z5-z10-(if z4<z9+y2 then(1:Int)else 0))%18446744073709551616)) fun y3=>am (some (if z5<z10+(if z4<z9+y2 then(1:Int)else 0)then(1:Int)else 0)) fun y4=>some (bw.mk z1 (((z2-z7-0)%18446744073709551616),y1,((z4-z9-y2)%18446744073709551616),y3))
mutual
def ik:Nat→bw→bw→Option bw
 |0,_,_=>none
 |k0+1,p1,p2=>ak (!(p1.neg==p2.neg)) (am (gG (bw.mk p2.neg (p2.size.1,p2.size.2.1,p2.size.2.2.1,p2.size.2.2.2))) fun r1=>am ((fh k0) (bw.mk p1.neg (p1.size.1,p1.size.2.1,p1.size.2.2.1,p1.size.2.2.2)) (bw.mk r1.neg (r1.size.1,r1.size.2.1,r1.size.2.2.1,r1.size.2.2.2))) fun r2=>some (bw.mk r2.neg (r2.size.1,r2.size.2.1,r2.size.2.2.1,r2.size.2.2.2))) (am (iB (bw.mk p1.neg (p1.size.1,p1.size.2.1,p1.size.2.2.1,p1.size.2.2.2)) (bw.mk p2.neg (p2.size.1,p2.size.2.1,p2.size.2.2.1,p2.size.2.2.2))) fun r3=>ak (decide (r3<0)) (am (gG (bw.mk p2.neg (p2.size.1,p2.size.2.1,p2.size.2.2.1,p2.size.2.2.2))) fun r4=>gg r4.neg r4.size.1 r4.size.2.1 r4.size.2.2.1 r4.size.2.2.2 p1.neg p1.size.1 p1.size.2.1 p1.size.2.2.1 p1.size.2.2.2) (gg p1.neg p1.size.1 p1.size.2.1 p1.size.2.2.1 p1.size.2.2.2 p2.neg p2.size.1 p2.size.2.1 p2.size.2.2.1 p2.size.2.2.2))
def fh:Nat→bw→bw→Option bw
 |0,_,_=>none
 |k0+1,p1,p2=>ak (!(p1.neg==p2.neg)) (am (gG (bw.mk p2.neg (p2.size.1,p2.size.2.1,p2.size.2.2.1,p2.size.2.2.2))) fun r1=>am ((ik k0) (bw.mk p1.neg (p1.size.1,p1.size.2.1,p1.size.2.2.1,p1.size.2.2.2)) (bw.mk r1.neg (r1.size.1,r1.size.2.1,r1.size.2.2.1,r1.size.2.2.2))) fun r2=>some (bw.mk r2.neg (r2.size.1,r2.size.2.1,r2.size.2.2.1,r2.size.2.2.2))) (iN (0≤p1.size.1∧0≤p2.size.1∧0≤(0:Int)∧(0:Int)≤1)<|iN (0≤p1.size.2.1∧0≤p2.size.2.1∧0≤((p1.size.1+p2.size.1+0)/18446744073709551616)∧((p1.size.1+p2.size.1+0)/18446744073709551616)≤1)<|am (some ((p1.size.2.1+p2.size.2.1+((p1.size.1+p2.size.1+0)/18446744073709551616))%18446744073709551616)) fun y1=>am (some ((p1.size.2.1+p2.size.2.1+((p1.size.1+p2.size.1+0)/18446744073709551616))/18446744073709551616)) fun y2=>iN (0≤p1.size.2.2.1∧0≤p2.size.2.2.1∧0≤y2∧y2≤1)<|iN (0≤p1.size.2.2.2∧0≤p2.size.2.2.2∧0≤((p1.size.2.2.1+p2.size.2.2.1+y2)/18446744073709551616)∧((p1.size.2.2.1+p2.size.2.2.1+y2)/18446744073709551616)≤1)<|am (some ((p1.size.2.2.2+p2.size.2.2.2+((p1.size.2.2.1+p2.size.2.2.1+y2)/18446744073709551616))%18446744073709551616)) fun y3=>am (some ((p1.size.2.2.2+p2.size.2.2.2+((p1.size.2.2.1+p2.size.2.2.1+y2)/18446744073709551616))/18446744073709551616)) fun y4=>some (bw.mk p1.neg (((p1.size.1+p2.size.1+0)%18446744073709551616),y1,((p1.size.2.2.1+p2.size.2.2.1+y2)%18446744073709551616),y3)))
end
mutual
theorem zT:∀(k0:Nat) (p1 p2:bw),CT prog 219 [mW p1,mW p2] (ik k0 p1 p2) (fun r=>mW r)
  |0,_,_=>Jd (ik.eq_1 ..)
  |k0+1,p1,p2=>cI 44 [2,3,4] f219 fun r=>(uU (ik.eq_2 ..) (uC (nt 3 (aV (qV _) fun r1=>(aV (AN k0 _ _) fun r2=>uz))) (cu f219 14 1 fun K k=>have J1:∀{z1 z2 z3 z4 z5 z6 z7 z8 z9 z10},gg z1 z2 z3 z4 z5 z6 z7 z8 z9 z10=some r→K.p [(2,vQ 0),(3,vQ 1),(4,vQ 2)] [.box [cb z1,ck .u64 z2,ck .u64 z3,ck .u64 z4,ck .u64 z5],.box [cb z6,ck .u64 z7,ck .u64 z8,ck .u64 z9,ck .u64 z10],.box [cb false,ck .u64 (0:Int),ck .u64 (0:Int),ck .u64 (0:Int),ck .u64 (0:Int)]]:=fun{z1 z2 z3 z4 z5 z6 z7 z8 z9 z10} h=>k h (Ro 4 (KJ 17 0 [3] (YW 251 f251 (KJ 17 0 [3] (YW 251 f251 (uY 38 (vk .u64) fun y1=>(uY 39 (vk .u64) fun y2=>(KJ 17 0 [3] (YW 251 f251 (KJ 17 0 [3] (YW 251 f251 (uY 38 (vk .u64) fun y3=>(uY 39 (vk .u64) fun y4=>uz)))))))))))));(aV (Ek _ _) fun r3=>(uC (nt 3 (aV (qV _) fun r4=>(uJ J1))) (uJ J1))))))
theorem AN:∀(k0:Nat) (p1 p2:bw),CT prog 248 [mW p1,mW p2] (fh k0 p1 p2) (fun r=>mW r)
  |0,_,_=>Jd (fh.eq_1 ..)
  |k0+1,p1,p2=>cI 37 [2,4] f248 fun r=>(uU (fh.eq_2 ..) (uC (nt 3 (aV (qV _) fun r1=>(aV (zT k0 _ _) fun r2=>uz))) (Ro 4 (KJ 17 0 [2] (NL 273 f273 (KJ 17 0 [2] (NL 273 f273 (uY 31 (vk .u64) fun y1=>(uY 32 (vk .u64) fun y2=>(KJ 17 0 [2] (NL 273 f273 (KJ 17 0 [2] (NL 273 f273 (uY 31 (vk .u64) fun y3=>(uY 32 (vk .u64) fun y4=>uz)))))))))))))))
end
def tN(p1:bw):OB:=am (some ((p1.size.1==0)&&((p1.size.2.1==0)&&((p1.size.2.2.1==0)&&((p1.size.2.2.2==0)&&true))))) fun y1=>some y1
theorem F5(p1:bw):CT prog 220 [mW p1] (tN p1) vb:=
  cI 7 [] f220 fun r=>(uY 6 vb fun y1=>uz)
def m9(p1 p2:bw):OI:=am (ik aH (bw.mk p1.neg (p1.size.1,p1.size.2.1,p1.size.2.2.1,p1.size.2.2.2)) (bw.mk p2.neg (p2.size.1,p2.size.2.1,p2.size.2.2.1,p2.size.2.2.2))) fun r1=>am (tN (bw.mk r1.neg (r1.size.1,r1.size.2.1,r1.size.2.2.1,r1.size.2.2.2))) fun r2=>ak r2 (some 0) (ak r1.neg (some (-1)) (some 1))
theorem C1(p1 p2:bw):CT prog 182 [mW p1,mW p2] (m9 p1 p2) vi:=
  cI 15 [5] f182 fun r=>(aV (zT aH _ _) fun r1=>(aV (F5 _) fun r2=>(uC uz (uC uz uz))))
def rX(p1:ByteArray):OB:=some (!(p1.toList==p1.toList))
theorem zi(p1:ByteArray):CT prog 252 [vs p1] (rX p1) vb:=
  cI 6 [] f252 fun r=>uz
def pz(p1 p2:ByteArray):OI:=am (rX p1) fun r1=>am (rX p2) fun r2=>ak r1 (ak r2 (some 0) (some (-1))) (ak r2 (some 1) (ak (Op.bytesLess p1.toList p2.toList) (some (-1)) (ak (!(Op.bytesLess p1.toList p2.toList||p1.toList==p2.toList)) (some 1) (some 0))))
theorem DX(p1 p2:ByteArray):CT prog 221 [vs p1,vs p2] (pz p1 p2) vi:=
  cI 20 [] f221 fun r=>(aV (zi _) fun r1=>(aV (zi _) fun r2=>(uC (uC uz uz) (uC uz (uC uz (uC uz uz))))))
def Eu:OI:=some 0
def kL(p1:List Int):Nat→Int→OI
 |0,_=>none
 |k1+1,x1=>ak (decide (x1<(p1.length:Int))) (am (at? p1 x1) fun e1=>ak (e1 != 0) (some e1) ((kL p1 k1) (i64.wrap (x1+1)))) (Eu)
def qZ(p1:List Int):OI:=kL p1 aH 0
theorem B2(p1:List Int):CT prog 180 [vl eI p1] (qZ p1) vi:=
  cI 18 [] f180 fun r=>(kT f180 14 1 Eu [(3,vi (0:Int))] [] uz fun K J1=>(uN eI p1 (gc f180 58 1 fun R b=>have L1:∀k1 {x1},kL p1 k1 x1=some r→(R k1).p [(3,vi (0:Int)),(6,vl eI p1),(7,vi p1.length),(8,vi x1)] []:=uI (fW rfl) fun k1 i1 {x1} h=>b h (uU (kL.eq_2 ..) (uC (dS eI fun e1=>(uC jX (uJ i1))) (uR (.exit 0) (xM (uJ J1)))));uE (L1 aH))))
def bO(p1 p2:List ac):OI:=ak (decide ((p1.length:Int)<(p2.length:Int))) (some (-1)) (some 0)
def aR(q_value_Compare:ac→ac→OI)(p1 p2:List ac):Nat→Int→OI
 |0,_=>none
 |k1+1,x1=>ak (decide (x1<(p1.length:Int))) (am (at? p1 x1) fun e1=>ak (decide ((p2.length:Int)≤x1)) (some 1) (am (at? p2 x1) fun e2=>am (q_value_Compare e1 e2) fun r1=>ak (r1 != 0) (some r1) ((aR q_value_Compare p1 p2 k1) (i64.wrap (x1+1))))) (bO p1 p2)
def oZ(q_value_rest:ac→ac→OI)(p1 p2:ac):OI:=am (nA p1.n p2.n) fun r9=>am (q_value_rest p1 p2) fun r10=>am (qZ [r9,r10]) fun r11=>some r11
def sr(q_value_rest:ac→ac→OI)(p1 p2:ac)(r2 r3 x1:Bool):OI:=ak x1 (am (lZ p1.n (i64.wrap (12-p1.scale))) fun r4=>am (lZ p2.n (i64.wrap (12-p2.scale))) fun r5=>am (m9 (bw.mk r4.neg (r4.size.1,r4.size.2.1,r4.size.2.2.1,r4.size.2.2.2)) (bw.mk r5.neg (r5.size.1,r5.size.2.1,r5.size.2.2.1,r5.size.2.2.2))) fun r6=>am (q_value_rest p1 p2) fun r7=>am (qZ [r6,r7]) fun r8=>some r8) (ak r2 (some (-1)) (ak r3 (some 1) (oZ q_value_rest p1 p2)))
mutual
def aA:Nat→(List ac)→(List ac)→OI
 |0,_,_=>none
 |k0+1,p1,p2=>aR (dz k0) p1 p2 aH 0
def dz:Nat→ac→ac→OI
 |0,_,_=>none
 |k0+1,p1,p2=>ak (p1.kind != p2.kind) (ak (p1.kind==0) (some 1) (ak (p2.kind==0) (some (-1)) (am (nA p1.kind p2.kind) fun r1=>some r1))) (ak (p1.kind==0) (some 0) (ak (p1.kind==3) (am (dZ p1.scale 0 12) fun r2=>am (dZ p2.scale 0 12) fun r3=>ak r2 (sr (mQ k0) p1 p2 r2 r3 r3) (sr (mQ k0) p1 p2 r2 r3 false)) (oZ (mQ k0) p1 p2)))
def mQ:Nat→ac→ac→OI
 |0,_,_=>none
 |k0+1,p1,p2=>am (nA p1.scale p2.scale) fun r1=>am (pz p1.s p2.s) fun r2=>am ((aA k0) p1.items p2.items) fun r3=>am (qZ [r1,r2,r3]) fun r4=>some r4
end
mutual
theorem dh:∀(k0:Nat) (p1 p2:List ac),CT prog 222 [vl ah p1,vl ah p2,.one (.pv (.fn 126 []))] (aA k0 p1 p2) vi
  |0,_,_=>Jd (aA.eq_1 ..)
  |k0+1,p1,p2=>cI 39 [8,9] f222 fun r=>(uU (aA.eq_2 ..) (kT f222 6 1 (bO p1 p2) [(0,vl ah p1),(1,vl ah p2)] [] (uN ah p1 (uN ah p2 (uC uz uz))) fun K J1=>(uN ah p1 (gc f222 26 1 fun R b=>have L1:∀k1 {x1},aR (dz k0) p1 p2 k1 x1=some r→(R k1).p [(0,vl ah p1),(1,vl ah p2),(2,.one (.pv (.fn 126 []))),(11,vl ah p1),(12,vi p1.length),(13,vi x1)] []:=uI (fW rfl) fun k1 i1 {x1} h=>b h (uU (aR.eq_2 ..) (uC (dS ah fun e1=>(uN ah p2 (uC jX (dS ah fun e2=>(aV (lJ k0 _ _) fun r1=>(uC jX (uJ i1))))))) (uR (.exit 0) (xM (uJ J1)))));uE (L1 aH)))))
theorem lJ:∀(k0:Nat) (p1 p2:ac),CT prog 126 [mV p1,mV p2] (dz k0 p1 p2) vi
  |0,_,_=>Jd (dz.eq_1 ..)
  |k0+1,p1,p2=>cI 72 [] f126 fun r=>(uU (dz.eq_2 ..) (uC (uC uz (uC uz (aV (vu _ _) fun r1=>uz))) (kT f126 14 1 (oZ (mQ k0) p1 p2) [(2,vR [pi p1.kind,pi p1.n,pi p1.scale,.s (.string p1.s),.ro (ah.els p1.items)]),(3,vR [pi p2.kind,pi p2.n,pi p2.scale,.s (.string p2.s),.ro (ah.els p2.items)])] [] (nt 7 (aV (vu _ _) fun r9=>(aV (F2 k0 _ _) fun r10=>(aV (B2 _) fun r11=>uz)))) fun K J2=>(uC (uR .ret (xN xF)) (uC (nt 5 (aV (gF _ _ _) fun r2=>(aV (gF _ _ _) fun r3=>(cu f126 7540 3 fun K k=>have J1:∀{x1},sr (mQ k0) p1 p2 r2 r3 x1=some r→K.p [(2,vR [pi p1.kind,pi p1.n,pi p1.scale,.s (.string p1.s),.ro (ah.els p1.items)]),(3,vR [pi p2.kind,pi p2.n,pi p2.scale,.s (.string p2.s),.ro (ah.els p2.items)]),(5,vb r2),(6,vb r3),(35,vb x1)] []:=fun{x1} h=>k h (uC (nt 15 (aV (vH _ _) fun r4=>(aV (vH _ _) fun r5=>(aV (C1 _ _) fun r6=>(aV (F2 k0 _ _) fun r7=>(aV (B2 _) fun r8=>(uR .ret (xN xF)))))))) (uC (uR .ret (xN xF)) (uC (uR .ret (xN xF)) (uJ J2))));(uC (uJ J1) (uJ J1)))))) (uJ J2))))))
theorem F2:∀(k0:Nat) (p1 p2:ac),CT prog 183 [mV p1,mV p2] (mQ k0 p1 p2) vi
  |0,_,_=>Jd (mQ.eq_1 ..)
  |k0+1,p1,p2=>cI 22 [] f183 fun r=>(uU (mQ.eq_2 ..) (nt 14 (aV (vu _ _) fun r1=>(aV (DX _ _) fun r2=>(aV (dh k0 _ _) fun r3=>(aV (B2 _) fun r4=>uz))))))
end
def ve(rec1:List ae→Int→OI)(x1:Int)(l2:List ae):OI:=rec1 l2 (i64.wrap (x1+1))
def rR(rec2:Int→OI)(x2:Int)(x3:Bool):OI:=ak x3 (some 1) (rec2 (i64.wrap (x2+1)))
def DJ:OI:=some 0
def iL(p2:aj)(l3:List ae):Nat→Int→OI
 |0,_=>none
 |k2+1,x2=>ak (decide (x2<(p2.stats.length:Int))) (am (at? p2.stats x2) fun e2=>am (dM e2.nulls 0 p2.rows) fun r3=>ak (!r3) (some 3) (am (at? [e2.min,e2.max] 0) fun e3=>am (at? l3 x2) fun e4=>am (gN e4.type e3) fun r4=>ak (r4 != 0) (some r4) (am (at? [e2.min,e2.max] 1) fun e5=>am (gN e4.type e5) fun r5=>ak (r5 != 0) (some r5) (ak (!((e2.min.kind==0)==(e2.nulls==p2.rows))) (rR (iL p2 l3 k2) x2 true) (ak (!((e2.max.kind==0)==(e2.nulls==p2.rows))) (rR (iL p2 l3 k2) x2 true) (am (dz aH e2.min e2.max) fun r6=>rR (iL p2 l3 k2) x2 (decide (0<r6)))))))) (DJ)
def oM(p2:aj)(l3:List ae):OI:=am (cc p2.stats l3) fun r2=>ak (!r2) (some 1) (iL p2 l3 aH 0)
def jU(p1:List ae)(p2:aj):Nat→List ae→Int→OI
 |0,_,_=>none
 |k1+1,l1,x1=>ak (decide (x1<(p1.length:Int))) (am (at? p1 x1) fun e1=>am (wJ e1.type) fun r1=>ak r1 (iN (l1.length+1≤4294967296)<|ve (jU p1 p2 k1) x1 (l1++[e1])) (ve (jU p1 p2 k1) x1 l1)) (oM p2 l1)
def xO(p1:List ae)(p2:aj):OI:=jU p1 p2 aH [] 0
abbrev gv(p2:aj):List PV:=[.s (.string p2.name),pi p2.schema,pi p2.spec,.ro (ah.els p2.part),pi p2.rows,pi p2.seq,.ro (cA.els p2.stats)]
theorem Lg(p1:List ae)(p2:aj):CT prog 64 [vl af p1,mF p2] (xO p1 p2) vi:=
  cI 98 [7,10,12] f64 fun r=>(cu f64 14 1 fun K k=>have J2:∀{l3},oM p2 l3=some r→K.p [(3,vR (gv p2)),(5,.one (.sl 0 6 0 l3.length))] [.arr 6 (af.els l3)]:=fun{l3} h=>k h (LY af l3 0 [5,31] (aV (gC _ _) fun r2=>(uC uz (kT f64 126 1 DJ [] [.dead] uz fun K J4=>(uN cA p2.stats (gc f64 506 1 fun R b=>have L2:∀k2 {x2},iL p2 l3 k2 x2=some r→(R k2).p [(3,vR (gv p2)),(5,vl af l3),(36,vl cA p2.stats),(37,vi p2.stats.length),(38,vi x2)] [.dead]:=uI (fW rfl) fun k2 i2 {x2} h=>b h (uU (iL.eq_2 ..) (uC (dS cA fun e2=>(aV (dI _ _ _) fun r3=>(uC jX (uW 53 ah [e2.min,e2.max] (uA (vi (2:Int)) (Ro 2 (uT (dS ah fun e3=>(nt 6 (uL af fun e4 a42=>(aV (qj _ _) fun r4=>(uC jX (uT (dS ah fun e5=>(nt 6 (uM af a42 (aV (qj _ _) fun r5=>(uC jX (uF (cu f64 518558 3 fun K k=>have J3:∀{x3},rR (iL p2 l3 k2) x2 x3=some r→K.p [(3,vR (gv p2)),(5,vl af l3),(36,vl cA p2.stats),(37,vi p2.stats.length),(38,vi x2),(96,vb x3)] [.dead,.dead,.dead,.dead]:=fun{x3} h=>k h (uC jX (uJ i2));(uC (uJ J3) (uC (uJ J3) (aV (lJ aH _ _) fun r6=>(uJ J3)))))))))))))))))))))))) (uR (.exit 2) (xM (uJ J4)))));uE (L2 aH)))))));(uN af p1 (Jw (.li 5 6) (gc f64 58 1 fun R b=>have L1:∀k1 {l1 x1},jU p1 p2 k1 l1 x1=some r→(R k1).p [(3,vR (gv p2)),(5,.one (.sl 0 6 0 l1.length)),(15,vl af p1),(16,vi p1.length),(17,vi x1)] [.arr 6 (af.els l1)]:=uI (fW rfl) fun k1 i1 {l1 x1} h=>b h (uU (jU.eq_2 ..) (uC (cu f64 934 1 fun K k=>have J1:∀{l2},ve (jU p1 p2 k1) x1 l2=some r→K.p [(3,vR (gv p2)),(5,.one (.sl 0 6 0 l2.length)),(15,vl af p1),(16,vi p1.length),(17,vi x1)] [.arr 6 (af.els l2)]:=fun{l2} h=>k h (uJ i1);(dS af fun e1=>(aV (CB _) fun r1=>(uC (uW 26 af [e1] (BY af 0 [e1] (uJ J1))) (uJ J1))))) (uR (.exit 0) (xM (uJ J2)))));uE (L1 aH)))))
def A8(p2:aj)(r5:(Bool×(List ae))):OI:=am (xO r5.2 p2) fun r9=>some r9
def mm(p2:aj)(e2:cg)(r5:(Bool×(List ae))):Nat→Int→OI
 |0,_=>none
 |k1+1,x2=>ak (decide (x2<(e2.fields.length:Int))) (am (at? e2.fields x2) fun e3=>am (my r5.2 e3.source) fun r6=>am (at? r5.2 r6) fun e4=>am (cM e3.transform e4.type) fun r7=>ak (r7.2 != 0) (some 2) (am (at? p2.part x2) fun e5=>am (gN r7.1 e5) fun r8=>ak (r8 != 0) (some r8) ((mm p2 e2 r5 k1) (i64.wrap (x2+1))))) (A8 p2 r5)
def oh(p1:ax)(p2:aj)(x1:Bool):OI:=ak x1 (some 3) (am (at? p1.schemas p2.schema) fun e1=>am (at? p1.specs p2.spec) fun e2=>am (bt e2.fields e1) fun r5=>ak r5.1 (some 9) (ak ((p2.part.length:Int) != (e2.fields.length:Int)) (some 1) (mm p2 e2 r5 aH 0)))
def zx(p1:ax)(p2:aj):OI:=am (si p2.name) fun r1=>ak (!r1) (some 4) (am (dM p2.schema 0 (i64.wrap ((p1.schemas.length:Int)-1))) fun r2=>ak (!r2) (oh p1 p2 true) (am (dM p2.spec 0 (i64.wrap ((p1.specs.length:Int)-1))) fun r3=>ak (!r3) (oh p1 p2 true) (am (dM p2.rows 1 2000) fun r4=>ak (!r4) (oh p1 p2 true) (oh p1 p2 (decide (p2.seq<1))))))
theorem GF(p1:ax)(p2:aj):CT prog 19 [mM p1,mF p2] (zx p1 p2) vi:=
  cI 108 [5,6,8,9] f19 fun r=>(aV (Fx _) fun r1=>(uC uz (cu f19 102 3 fun K k=>have J1:∀{x1},oh p1 p2 x1=some r→K.p [(2,vR [.ro ((eL af).els p1.schemas),.ro (fU.els p1.specs),pi p1.nextField,pi p1.nextSeq,pi p1.nextSnap,pi p1.purges,.ro (aU.els p1.snapshots),.ro (oS.els p1.refs),.ro (lE.els p1.props)]),(3,vR (gv p2)),(17,vb x1)] []:=fun{x1} h=>k h (uC uz (KJ 15 2 [0,1,2] (dS (eL af) fun e1=>(dS fU fun e2=>(EJ true [0] (jl _ _) fun r5 _=>(uC uz (uN ah p2.part (uN aC e2.fields (uC uz (kT f19 126 1 (A8 p2 r5) [(3,vR (gv p2)),(5,vQ 0)] [.box [cl af r5.2],.dead] (aV (Lg _ _) fun r9=>uz) fun K J2=>(uN aC e2.fields (gc f19 506 1 fun R b=>have L1:∀k1 {x2},mm p2 e2 r5 k1 x2=some r→(R k1).p [(3,vR (gv p2)),(5,vQ 0),(71,vl aC e2.fields),(72,vi e2.fields.length),(73,vi x2)] [.box [cl af r5.2],.dead]:=uI (fW rfl) fun k1 i1 {x2} h=>b h (uU (mm.eq_2 ..) (uC (dS aC fun e3=>(KJ 16 1 [3,4] (aV (xJ _ _) fun r6=>(dS af fun e4=>(aV (qw _ _) fun r7=>(uC jX (nt 6 (dS ah fun e5=>(aV (qj _ _) fun r8=>(uC jX (uJ i1))))))))))) (uR (.exit 1) (xM (uJ J2)))));uE (L1 aH)))))))))))));(uN (eL af) p1.schemas (aV (dI _ _ _) fun r2=>(uC (uJ J1) (uN fU p1.specs (aV (dI _ _ _) fun r3=>(uC (uJ J1) (aV (dI _ _ _) fun r4=>(uC (uJ J1) (uJ J1))))))))))))
def vO(rec1:Int→OI)(x1:Int)(x3:Bool):OI:=ak x3 (some 1) (rec1 (i64.wrap (x1+1)))
def vp(rec1:Int→OI)(p2:aw)(x1:Int)(e1:aj)(x2:Bool):OI:=ak x2 (some 3) (ak (decide (0<x1)) (am (at? p2.files (i64.wrap (x1-1))) fun e2=>am (some (Op.bytesLess e1.name.toList e2.name.toList||e1.name.toList==e2.name.toList)) fun y1=>vO rec1 x1 y1) (vO rec1 x1 false))
def Dx:OI:=some 0
def fv(p1:ax)(p2:aw):Nat→Int→OI
 |0,_=>none
 |k1+1,x1=>ak (decide (x1<(p2.files.length:Int))) (am (at? p2.files x1) fun e1=>am (zx p1 e1) fun r1=>ak (r1 != 0) (some r1) (ak (decide (p2.seq<e1.seq)) (vp (fv p1 p2 k1) p2 x1 e1 true) (vp (fv p1 p2 k1) p2 x1 e1 (decide (p2.schema<e1.schema))))) (Dx)
def xr(p1:ax)(p2:aw):OI:=fv p1 p2 aH 0
abbrev oQ(p2:aw):List PV:=[pi p2.id,pi p2.parent,pi p2.seq,pi p2.schema,pi p2.time,pi p2.kind,.ro (be.els p2.files),.ro (fL.els p2.dat),.ro (eH.els p2.dby)]
theorem Ll(p1:ax)(p2:aw):CT prog 107 [mM p1,mS p2] (xr p1 p2) vi:=
  cI 51 [6] f107 fun r=>(kT f107 6 1 Dx [] [] uz fun K J3=>(uN be p2.files (gc f107 26 1 fun R b=>have L1:∀k1 {x1},fv p1 p2 k1 x1=some r→(R k1).p [(2,vR (bH p1)),(3,vR (oQ p2)),(9,vl be p2.files),(10,vi p2.files.length),(11,vi x1)] []:=uI (fW rfl) fun k1 i1 {x1} h=>b h (uU (fv.eq_2 ..) (uC (dS be fun e1=>(aV (GF _ _) fun r1=>(uC jX (cu f107 13516 4 fun K k=>have J1:∀{x2},vp (fv p1 p2 k1) p2 x1 e1 x2=some r→K.p [(2,vR (bH p1)),(3,vR (oQ p2)),(5,vi x1),(6,vQ 0),(9,vl be p2.files),(10,vi p2.files.length),(11,vi x1),(22,vb x2)] [.box [qm e1.name,ci e1.schema,ci e1.spec,cl ah e1.part,ci e1.rows,ci e1.seq,cl cA e1.stats]]:=fun{x2} h=>k h (uC jX (cu f107 54070 4 fun K k=>have J2:∀{x3},vO (fv p1 p2 k1) x1 x3=some r→K.p [(2,vR (bH p1)),(3,vR (oQ p2)),(9,vl be p2.files),(10,vi p2.files.length),(11,vi x1),(35,vb x3)] [.dead]:=fun{x3} h=>k h (uC jX (uJ i1));(nt 12 (uC (dS be fun e2=>(uY 48 vb fun y1=>(uJ J2))) (uJ J2)))));(uC (uJ J1) (uJ J1)))))) (uR (.exit 0) (xM (uJ J3)))));uE (L1 aH))))
def vg(p1:aj)(p2:ByteArray):OI:=am (strings_Compare p1.name p2) fun r1=>some r1
theorem Dv(p1:aj)(p2:ByteArray):CT prog 204 [mF p1,vs p2] (vg p1 p2) vi:=
  cI 9 [] f204 fun r=>(aV (Gr _ _) fun r1=>uz)
def bu(x3:Int)(x4:Bool):Option (Int×Bool):=some (x3,x4)
def bT(p1:List aj)(p2:ByteArray)(x3:Int):Option (Int×Bool):=ak (decide (x3<(p1.length:Int))) (am (at? p1 x3) fun e2=>am (vg e2 p2) fun r2=>bu x3 (r2==0)) (bu x3 false)
def az(p1:List aj)(p2:ByteArray):Nat→Int→Int→Option (Int×Bool)
 |0,_,_=>none
 |k1+1,x1,x2=>ak (decide (x1<x2)) (am (some ((IntKind.u64.wrap (i64.wrap (x1+x2))).fdiv (2^(min (1:Int).toNat (IntKind.u64).bits)))) fun y1=>am (at? p1 (i64.wrap y1)) fun e1=>am (vg e1 p2) fun r1=>ak (decide (r1<0)) ((az p1 p2 k1) (i64.wrap ((i64.wrap y1)+1)) x2) ((az p1 p2 k1) x1 (i64.wrap y1))) (bT p1 p2 x1)
def ce(p1:List aj)(p2:ByteArray):Option (Int×Bool):=az p1 p2 aH 0 (p1.length:Int)
theorem gM(p1:List aj)(p2:ByteArray):CT prog 203 [vl be p1,vs p2,.one (.pv (.fn 204 []))] (ce p1 p2) (fun r=> .tp [vi r.1,vb r.2]):=
  cI 49 [] f203 fun r=>(uN be p1 (cu f203 30 1 fun K k=>have J1:∀{x3},bT p1 p2 x3=some r→K.p [(0,vl be p1),(1,vs p2),(2,.one (.pv (.fn 204 []))),(8,vi p1.length),(9,vi x3)] []:=fun{x3} h=>k h (cu f203 62 1 fun K k=>have J2:∀{x4},bu x3 x4=some r→K.p [(6,vi x3),(7,vb x4)] []:=fun{x4} h=>k h uz;(uC (dS be fun e2=>(aV (Dv _ _) fun r2=>(uJ J2))) (uJ J2)));(gc f203 60 1 fun R b=>have L1:∀k1 {x1 x2},az p1 p2 k1 x1 x2=some r→(R k1).p [(0,vl be p1),(1,vs p2),(2,.one (.pv (.fn 204 []))),(8,vi p1.length),(9,vi x1),(10,vi x2)] []:=uI (fW rfl) fun k1 i1 {x1 x2} h=>b h (uU (az.eq_2 ..) (uC (uY 22 (vk .u64) fun y1=>(dS be fun e1=>(aV (Dv _ _) fun r1=>(uC (uJ i1) (uJ i1))))) (uR (.exit 0) (xM (uJ J1)))));uE (L1 aH))))
def B5(p1:aw)(p2:ByteArray):Option (aj×Bool):=am (ce p1.files p2) fun r1=>ak (!r1.2) (some ((aj.mk ByteArray.empty 0 0 [] 0 0 []),false)) (am (at? p1.files r1.1) fun e1=>some (e1,true))
theorem M6(p1:aw)(p2:ByteArray):CT prog 157 [mS p1,vs p2] (B5 p1 p2) (fun r=> .tp [mF r.1,vb r.2]):=
  cI 23 [4] f157 fun r=>(aV (gM _ _) fun r1=>(uC uz (dS be fun e1=>uz)))
def CD(p1:List Int):OB:=some (decide (0<(p1.length:Int)))
def j5(p1:List Int):Nat→Int→OB
 |0,_=>none
 |k1+1,x1=>ak (decide (x1<(p1.length:Int))) (am (at? p1 x1) fun e1=>am (at? p1 (i64.wrap (x1-1))) fun e2=>ak (decide (e1≤e2)) (some false) ((j5 p1 k1) (i64.wrap (x1+1)))) (CD p1)
def so(p1:List Int):OB:=j5 p1 aH 1
theorem zC(p1:List Int):CT prog 158 [vl eI p1] (so p1) vb:=
  cI 23 [] f158 fun r=>(kT f158 6 1 (CD p1) [(0,vl eI p1)] [] (uN eI p1 uz) fun K J1=>(gc f158 26 1 fun R b=>have L1:∀k1 {x1},j5 p1 k1 x1=some r→(R k1).p [(0,vl eI p1),(3,vi x1)] []:=uI (fW rfl) fun k1 i1 {x1} h=>b h (uU (j5.eq_2 ..) (uN eI p1 (uC (nt 9 (dS eI fun e1=>(dS eI fun e2=>(uC jX (uJ i1))))) (uR (.exit 0) (xM (uJ J1))))));uE (L1 aH)))
def sE(p1:List ae)(r1:Int)(x1:Bool):Option (al×Bool):=ak x1 (some ((al.mk 0 0 []),false)) (am (at? p1 r1) fun e2=>some (e2.type,true))
def mg(p1:List ae)(p2:Int):Option (al×Bool):=am (my p1 p2) fun r1=>ak (decide (r1<0)) (sE p1 r1 true) (am (at? p1 r1) fun e1=>am (wJ e1.type) fun r2=>sE p1 r1 (!r2))
theorem pP(p1:List ae)(p2:Int):CT prog 65 [vl af p1,vi p2] (mg p1 p2) (fun r=> .tp [mT r.1,vb r.2]):=
  cI 27 [4] f65 fun r=>(aV (xJ _ _) fun r1=>(cu f65 28 2 fun K k=>have J1:∀{x1},sE p1 r1 x1=some r→K.p [(0,vl af p1),(4,vQ 0),(6,vi r1),(20,vb x1)] [.box [ci (0:Int),ci (0:Int),.pv (.s (.slice none 0 0))]]:=fun{x1} h=>k h (uC uz (dS af fun e2=>uz));(uC (uJ J1) (dS af fun e1=>(aV (CB _) fun r2=>(uJ J1))))))
def EX(p1:Int)(p2:List ae):Option (Bool×(List ae)):=am (mg p2 p1) fun r1=>some ((!r1.2),p2)
theorem Nv(p1:Int)(p2:List ae):CM prog 206 [vi p1,vQ 0] [.box [cl af p2]] (EX p1 p2) (fun r=>vb r.1) (fun r=>[.box [cl af r.2]]):=
  wP 1 14 [4] f206 fun r=>(aV (pP _ _) fun r1=>(uR .ret ut))
def j8(z2:List ae):Option (Int×(List ae)):=some ((-1),z2)
def bz(p1:List Int):Nat→List ae→Int→Option (Int×(List ae))
 |0,_,_=>none
 |k1+1,z1,x1=>ak (decide (x1<(p1.length:Int))) (am (at? p1 x1) fun e1=>am (EX e1 z1) fun r1=>ak r1.1 (some (x1,r1.2)) ((bz p1 k1) r1.2 (i64.wrap (x1+1)))) (j8 z1)
def gH(p1:List Int)(p2:List ae):Option (Int×(List ae)):=bz p1 aH p2 0
theorem qr(p1:List Int)(p2:List ae):CM prog 243 [vl eI p1,.one (.fn 206 [.pt 0 0 0 0])] [.box [cl af p2]] (gH p1 p2) (fun r=>vi r.1) (fun r=>[.box [cl af r.2]]):=
  wP 1 19 [] f243 fun r=>(cu f243 6 1 fun K k=>have J1:∀{z2},j8 z2=some r→K.p [] [.box [cl af z2]]:=fun{z2} h=>k h (uR .ret ut);(uN eI p1 (gc f243 26 1 fun R b=>have L1:∀k1 {z1 x1},bz p1 k1 z1 x1=some r→(R k1).p [(0,vl eI p1),(1,.one (.fn 206 [.pt 0 0 0 0])),(7,vi p1.length),(8,vi x1)] [.box [cl af z1]]:=uI (fW rfl) fun k1 i1 {z1 x1} h=>b h (uU (bz.eq_2 ..) (uC (dS eI fun e1=>(EJ true [0] (Nv _ _) fun r1 _=>(uC (uR .ret (xN (xN ut))) (uJ i1)))) (uR (.exit 0) (xM (uJ J1)))));uE (L1 aH))))
def cR(p1:List Int)(p2:List ae):Option (Bool×(List ae)):=am (gH p1 p2) fun r1=>some ((decide (0≤r1.1)),r1.2)
theorem o8(p1:List Int)(p2:List ae):CM prog 207 [vl eI p1,.one (.fn 206 [.pt 0 0 0 0])] [.box [cl af p2]] (cR p1 p2) (fun r=>vb r.1) (fun r=>[.box [cl af r.2]]):=
  wP 1 9 [] f207 fun r=>(EJ true [0] (qr _ _) fun r1 _=>(uR .ret ut))
def qy(p1 p2:List ac):OI:=am (aA aH p1 p2) fun r1=>some r1
theorem Ei(p1 p2:List ac):CT prog 208 [vl ah p1,vl ah p2] (qy p1 p2) vi:=
  cI 8 [] f208 fun r=>(aV (dh aH _ _) fun r1=>uz)
def xI(rec1:Int→OI)(x3:Int)(x5:Bool):OI:=ak x5 (some 1) (rec1 (i64.wrap (x3+1)))
def AJ(rec1:Int→OI)(p2:cX)(p3:Bool)(x3:Int)(e2:List ac):OI:=ak p3 (ak (decide (0<x3)) (am (at? p2.keys (i64.wrap (x3-1))) fun e5=>am (qy e5 e2) fun r6=>xI rec1 x3 (decide (0≤r6))) (xI rec1 x3 false)) (xI rec1 x3 false)
def rz(rec1:Int→OI)(p2:cX)(p3:Bool)(z1:List ae)(x3:Int)(e2:List ac):Nat→Int→OI
 |0,_=>none
 |k2+1,x4=>ak (decide (x4<(e2.length:Int))) (am (at? e2 x4) fun e3=>am (at? p2.ids x4) fun e4=>am (mg z1 e4) fun r4=>am (gN r4.1 e3) fun r5=>ak (r5 != 0) (some r5) ((rz rec1 p2 p3 z1 x3 e2 k2) (i64.wrap (x4+1)))) (AJ rec1 p2 p3 x3 e2)
def Ik:OI:=some 0
def jp(p2:cX)(p3:Bool)(z1:List ae):Nat→Int→OI
 |0,_=>none
 |k1+1,x3=>ak (decide (x3<(p2.keys.length:Int))) (am (at? p2.keys x3) fun e2=>ak ((e2.length:Int) != (p2.ids.length:Int)) (some 1) (rz (jp p2 p3 z1 k1) p2 p3 z1 x3 e2 aH 0)) (Ik)
def rE(p2:cX)(p3:Bool)(z1:List ae)(x2:Bool):OI:=ak x2 (some 9) (am (so p2.ids) fun r3=>ak (!r3) (some 1) (ak (decide (200<(p2.keys.length:Int))) (some 7) (ak ((p2.keys.length:Int)==0) (some 9) (jp p2 p3 z1 aH 0))))
def xq(p1:ax)(p2:cX)(p3 x1:Bool):OI:=ak x1 (some 3) (am (at? p1.schemas p2.schema) fun e1=>ak ((p2.ids.length:Int)==0) (rE p2 p3 e1 true) (am (cR p2.ids e1) fun r2=>rE p2 p3 r2.2 r2.1))
def G1(p1:ax)(p2:cX)(p3:Bool):OI:=am (dM p2.schema 0 (i64.wrap ((p1.schemas.length:Int)-1))) fun r1=>ak (!r1) (xq p1 p2 p3 true) (xq p1 p2 p3 (decide (p2.seq<1)))
abbrev Hv(p2:cX):List PV:=[pi p2.schema,.ro (eI.els p2.ids),.ro ((eL ah).els p2.keys),pi p2.seq]
theorem Rj(p1:ax)(p2:cX)(p3:Bool):CT prog 159 [mM p1,mD p2,vb p3] (G1 p1 p2 p3) vi:=
  cI 117 [7,12,13] f159 fun r=>(cu f159 12 2 fun K k=>have J1:∀{x1},xq p1 p2 p3 x1=some r→K.p [(2,vb p3),(3,vR [.ro ((eL af).els p1.schemas),.ro (fU.els p1.specs),pi p1.nextField,pi p1.nextSeq,pi p1.nextSnap,pi p1.purges,.ro (aU.els p1.snapshots),.ro (oS.els p1.refs),.ro (lE.els p1.props)]),(4,vR (Hv p2)),(28,vb x1)] []:=fun{x1} h=>k h (uC uz (dS (eL af) fun e1=>(cu f159 248 3 fun K k=>have J2:∀{z1 x2},rE p2 p3 z1 x2=some r→K.p [(2,vb p3),(4,vR (Hv p2)),(7,vQ 0),(36,vb x2)] [.box [cl af z1]]:=fun{z1 x2} h=>k h (uC uz (aV (zC _) fun r3=>(uC uz (uN (eL ah) p2.keys (uC uz (uN (eL ah) p2.keys (uC uz (kT f159 126 1 Ik [] [.dead] uz fun K J5=>(uN (eL ah) p2.keys (gc f159 506 1 fun R b=>have L1:∀k1 {x3},jp p2 p3 z1 k1 x3=some r→(R k1).p [(2,vb p3),(4,vR (Hv p2)),(7,vQ 0),(63,vl (eL ah) p2.keys),(64,vi p2.keys.length),(65,vi x3)] [.box [cl af z1]]:=uI (fW rfl) fun k1 i1 {x3} h=>b h (uU (jp.eq_2 ..) (uC (dS (eL ah) fun e2=>(uN ah e2 (uN eI p2.ids (uC jX (kT f159 129638 3 (AJ (jp p2 p3 z1 k1) p2 p3 x3 e2) [(2,vb p3),(4,vR (Hv p2)),(7,vQ 0),(9,vi x3),(10,vl ah e2),(63,vl (eL ah) p2.keys),(64,vi p2.keys.length),(65,vi x3)] [.box [cl af z1]] (cu f159 259278 3 fun K k=>have J4:∀{x5},xI (jp p2 p3 z1 k1) x3 x5=some r→K.p [(2,vb p3),(4,vR (Hv p2)),(7,vQ 0),(63,vl (eL ah) p2.keys),(64,vi p2.keys.length),(65,vi x3),(115,vb x5)] [.box [cl af z1]]:=fun{x5} h=>k h (uC jX (uJ i1));(uC (uC (dS (eL ah) fun e5=>(aV (Ei _ _) fun r6=>(uJ J4))) (uJ J4)) (uJ J4))) fun K J3=>(uN ah e2 (gc f159 518554 1 fun R b=>have L2:∀k2 {x4},rz (jp p2 p3 z1 k1) p2 p3 z1 x3 e2 k2 x4=some r→(R k2).p [(2,vb p3),(4,vR (Hv p2)),(7,vQ 0),(9,vi x3),(10,vl ah e2),(63,vl (eL ah) p2.keys),(64,vi p2.keys.length),(65,vi x3),(76,vl ah e2),(77,vi e2.length),(78,vi x4)] [.box [cl af z1]]:=uI (fW rfl) fun k2 i2 {x4} h=>b h (uU (rz.eq_2 ..) (uC (dS ah fun e3=>(KJ 12 1 [2,3] (dS eI fun e4=>(aV (pP _ _) fun r4=>(aV (qj _ _) fun r5=>(uC (uR .ret (xN (xN (xN (xN xF))))) (uJ i2))))))) (uR (.exit 3) (xM (uJ J3)))));uE (L2 aH)))))))) (uR (.exit 1) (xM (uJ J5)))));uE (L1 aH)))))))))));(uN eI p2.ids (uC (uJ J2) (EJ true [0] (o8 _ _) fun r2 _=>(uJ J2)))))));(uN (eL af) p1.schemas (aV (dI _ _ _) fun r1=>(uC (uJ J1) (uJ J1)))))
def yb(p1:aj)(p2:Int)(p3:List Int)(p4:List (List ac))(p5:Int):OB:=some (decide (p1.seq<p5))
theorem Gj(p1:aj)(p2:Int)(p3:List Int)(p4:List (List ac))(p5:Int):CT prog 210 [mF p1,vR [pi p2,.ro (eI.els p3),.ro ((eL ah).els p4),pi p5]] (yb p1 p2 p3 p4 p5) vb:=
  cI 9 [] f210 fun r=>uz
def eP:OI:=some (-1)
def aX(p1:List aj)(p2:Int)(p3:List Int)(p4:List (List ac))(p5:Int):Nat→Int→OI
 |0,_=>none
 |k1+1,x1=>ak (decide (x1<(p1.length:Int))) (am (at? p1 x1) fun e1=>am (yb e1 p2 p3 p4 p5) fun r1=>ak r1 (some x1) ((aX p1 p2 p3 p4 p5 k1) (i64.wrap (x1+1)))) (eP)
def dc(p1:List aj)(p2:Int)(p3:List Int)(p4:List (List ac))(p5:Int):OI:=aX p1 p2 p3 p4 p5 aH 0
theorem j0(p1:List aj)(p2:Int)(p3:List Int)(p4:List (List ac))(p5:Int):CT prog 244 [vl be p1,.one (.fn 210 [.pv (.rp [[pi p2,.ro (eI.els p3),.ro ((eL ah).els p4),pi p5]] 0 0)])] (dc p1 p2 p3 p4 p5) vi:=
  cI 19 [] f244 fun r=>(kT f244 6 1 eP [] [] uz fun K J1=>(uN be p1 (gc f244 26 1 fun R b=>have L1:∀k1 {x1},aX p1 p2 p3 p4 p5 k1 x1=some r→(R k1).p [(0,vl be p1),(1,.one (.fn 210 [.pv (.rp [[pi p2,.ro (eI.els p3),.ro ((eL ah).els p4),pi p5]] 0 0)])),(7,vi p1.length),(8,vi x1)] []:=uI (fW rfl) fun k1 i1 {x1} h=>b h (uU (aX.eq_2 ..) (uC (dS be fun e1=>(aV (Gj _ _ _ _ _) fun r1=>(uC jX (uJ i1)))) (uR (.exit 0) (xM (uJ J1)))));uE (L1 aH))))
def cH(p1:List aj)(p2:Int)(p3:List Int)(p4:List (List ac))(p5:Int):OB:=am (dc p1 p2 p3 p4 p5) fun r1=>some (decide (0≤r1))
theorem jx(p1:List aj)(p2:Int)(p3:List Int)(p4:List (List ac))(p5:Int):CT prog 209 [vl be p1,.one (.fn 210 [.pv (.rp [[pi p2,.ro (eI.els p3),.ro ((eL ah).els p4),pi p5]] 0 0)])] (cH p1 p2 p3 p4 p5) vb:=
  cI 9 [] f209 fun r=>(aV (j0 _ _ _ _ _) fun r1=>uz)
def xD(p1:List aj)(p2:cX):OB:=am (cH p1 p2.schema p2.ids p2.keys p2.seq) fun r1=>some r1
theorem EI(p1:List aj)(p2:cX):CT prog 160 [vl be p1,mD p2] (xD p1 p2) vb:=
  cI 8 [] f160 fun r=>(aV (jx _ _ _ _ _) fun r1=>uz)
def se(rec1:Int→OI)(x1:Int)(x3:Bool):OI:=ak x3 (some 3) (rec1 (i64.wrap (x1+1)))
def oT(rec1:Int→OI)(x1:Int)(e1:mI)(r1:(aj×Bool))(x2:Bool):OI:=ak x2 (some 1) (am (at? e1.rows 0) fun e3=>ak (decide (e3<0)) (se rec1 x1 true) (am (at? e1.rows (i64.wrap ((e1.rows.length:Int)-1))) fun e4=>se rec1 x1 (decide (r1.1.rows≤e4))))
def oY(rec2:Int→OI)(x4:Int)(x5:Bool):OI:=ak x5 (some 1) (rec2 (i64.wrap (x4+1)))
def Bu:OI:=some 0
def gf(p1:ax)(p2:aw):Nat→Int→OI
 |0,_=>none
 |k2+1,x4=>ak (decide (x4<(p2.dby.length:Int))) (am (at? p2.dby x4) fun e5=>am (G1 p1 e5 true) fun r4=>ak (r4 != 0) (some r4) (ak (decide (p2.seq<e5.seq)) (some 3) (ak (decide (0<x4)) (am (at? p2.dby (i64.wrap (x4-1))) fun e6=>ak (decide (e5.seq<e6.seq)) (oY (gf p1 p2 k2) x4 true) (am (xD p2.files e5) fun r5=>oY (gf p1 p2 k2) x4 (!r5))) (am (xD p2.files e5) fun r6=>oY (gf p1 p2 k2) x4 (!r6))))) (Bu)
def oN(p1:ax)(p2:aw):OI:=gf p1 p2 aH 0
def dw(p1:ax)(p2:aw):Nat→Int→OI
 |0,_=>none
 |k1+1,x1=>ak (decide (x1<(p2.dat.length:Int))) (am (at? p2.dat x1) fun e1=>am (B5 p2 e1.file) fun r1=>ak (!r1.2) (some 9) (ak (decide (0<x1)) (am (at? p2.dat (i64.wrap (x1-1))) fun e2=>am (some (Op.bytesLess e1.file.toList e2.file.toList||e1.file.toList==e2.file.toList)) fun y1=>ak y1 (oT (dw p1 p2 k1) x1 e1 r1 true) (am (so e1.rows) fun r2=>oT (dw p1 p2 k1) x1 e1 r1 (!r2))) (am (so e1.rows) fun r3=>oT (dw p1 p2 k1) x1 e1 r1 (!r3)))) (oN p1 p2)
def td(p1:ax)(p2:aw):OI:=dw p1 p2 aH 0
theorem IP(p1:ax)(p2:aw):CT prog 108 [mM p1,mS p2] (td p1 p2) vi:=
  cI 114 [6,7,10] f108 fun r=>(kT f108 6 1 (oN p1 p2) [(2,vR (bH p1)),(3,vR (oQ p2))] [] (kT f108 14 1 Bu [] [] uz fun K J5=>(uN eH p2.dby (gc f108 58 1 fun R b=>have L2:∀k2 {x4},gf p1 p2 k2 x4=some r→(R k2).p [(2,vR (bH p1)),(3,vR (oQ p2)),(72,vl eH p2.dby),(73,vi p2.dby.length),(74,vi x4)] []:=uI (fW rfl) fun k2 i2 {x4} h=>b h (uU (gf.eq_2 ..) (uC (dS eH fun e5=>(aV (Rj _ _ _) fun r4=>(uC jX (uC jX (cu f108 119606 4 fun K k=>have J4:∀{x5},oY (gf p1 p2 k2) x4 x5=some r→K.p [(2,vR (bH p1)),(3,vR (oQ p2)),(72,vl eH p2.dby),(73,vi p2.dby.length),(74,vi x4),(91,vb x5)] [.dead]:=fun{x5} h=>k h (uC jX (uJ i2));(nt 18 (uC (dS eH fun e6=>(uC (uJ J4) (aV (EI _ _) fun r5=>(uJ J4)))) (aV (EI _ _) fun r6=>(uJ J4))))))))) (uR (.exit 3) (xM (uJ J5)))));uE (L2 aH)))) fun K J3=>(uN fL p2.dat (gc f108 26 1 fun R b=>have L1:∀k1 {x1},dw p1 p2 k1 x1=some r→(R k1).p [(2,vR (bH p1)),(3,vR (oQ p2)),(13,vl fL p2.dat),(14,vi p2.dat.length),(15,vi x1)] []:=uI (fW rfl) fun k1 i1 {x1} h=>b h (uU (dw.eq_2 ..) (uC (dS fL fun e1=>(aV (M6 _ _) fun r1=>(uC jX (cu f108 54070 4 fun K k=>have J1:∀{x2},oT (dw p1 p2 k1) x1 e1 r1 x2=some r→K.p [(2,vR (bH p1)),(3,vR (oQ p2)),(6,vQ 0),(7,vQ 1),(13,vl fL p2.dat),(14,vi p2.dat.length),(15,vi x1),(30,vb x2)] [.box [qm e1.file,cl eI e1.rows],.box [qm r1.1.name,ci r1.1.schema,ci r1.1.spec,cl ah r1.1.part,ci r1.1.rows,ci r1.1.seq,cl cA r1.1.stats]]:=fun{x2} h=>k h (uC jX (cu f108 216286 4 fun K k=>have J2:∀{x3},se (dw p1 p2 k1) x1 x3=some r→K.p [(2,vR (bH p1)),(3,vR (oQ p2)),(13,vl fL p2.dat),(14,vi p2.dat.length),(15,vi x1),(51,vb x3)] [.dead,.dead]:=fun{x3} h=>k h (uC jX (uJ i1));(nt 16 (dS eI fun e3=>(uC (uJ J2) (uN eI e1.rows (dS eI fun e4=>(uJ J2))))))));(nt 12 (uC (dS fL fun e2=>(uY 43 vb fun y1=>(uC (uJ J1) (aV (zC _) fun r2=>(uJ J1))))) (aV (zC _) fun r3=>(uJ J1)))))))) (uR (.exit 0) (xM (uJ J3)))));uE (L1 aH))))
def nc(rec1:Int→OI)(p1:ax)(x1:Int)(e1:aw)(x5:Bool):OI:=ak x5 (some 5) (am (xr p1 e1) fun r7=>ak (r7 != 0) (some r7) (am (td p1 e1) fun r8=>ak (r8 != 0) (some r8) (rec1 (i64.wrap (x1+1)))))
def jd(rec1:Int→OI)(p1:ax)(x1:Int)(e1:aw)(x4:Bool):OI:=ak x4 (some 3) (ak (decide (0<x1)) (am (at? p1.snapshots (i64.wrap (x1-1))) fun e2=>ak (decide (e1.id≤e2.id)) (nc rec1 p1 x1 e1 true) (nc rec1 p1 x1 e1 (decide (e1.seq≤e2.seq)))) (nc rec1 p1 x1 e1 false))
def pw(rec1:Int→OI)(p1:ax)(x1:Int)(e1:aw)(x3:Bool):OI:=ak x3 (jd rec1 p1 x1 e1 x3) (am (dM e1.kind 1 3) fun r6=>jd rec1 p1 x1 e1 (!r6))
def kH(rec1:Int→OI)(p1:ax)(x1:Int)(e1:aw)(x2:Bool):OI:=ak x2 (jd rec1 p1 x1 e1 x2) (am (dM e1.schema 0 (i64.wrap ((p1.schemas.length:Int)-1))) fun r4=>ak (!r4) (pw rec1 p1 x1 e1 true) (am (dM e1.time (-62135596800) 253402300799) fun r5=>pw rec1 p1 x1 e1 (!r5)))
def zy:OI:=some 0
def bW(p1:ax):Nat→Int→OI
 |0,_=>none
 |k1+1,x1=>ak (decide (x1<(p1.snapshots.length:Int))) (am (at? p1.snapshots x1) fun e1=>am (dM e1.id 1 (i64.wrap (p1.nextSnap-1))) fun r1=>ak (!r1) (kH (bW p1 k1) p1 x1 e1 true) (am (dM e1.parent 0 (i64.wrap (e1.id-1))) fun r2=>ak (!r2) (kH (bW p1 k1) p1 x1 e1 true) (am (dM e1.seq 1 (i64.wrap (p1.nextSeq-1))) fun r3=>kH (bW p1 k1) p1 x1 e1 (!r3)))) (zy)
def tX(p1:ax):OI:=bW p1 aH 0
abbrev Be(e1:aw):List CV:=[ci e1.id,ci e1.parent,ci e1.seq,ci e1.schema,ci e1.time,ci e1.kind,cl be e1.files,cl fL e1.dat,cl eH e1.dby]
theorem FJ(p1:ax):CT prog 55 [mM p1] (tX p1) vi:=
  cI 99 [4] f55 fun r=>(kT f55 6 1 zy [] [] uz fun K J5=>(uN aU p1.snapshots (gc f55 26 1 fun R b=>have L1:∀k1 {x1},bW p1 k1 x1=some r→(R k1).p [(1,vR (bH p1)),(8,vl aU p1.snapshots),(9,vi p1.snapshots.length),(10,vi x1)] []:=uI (fW rfl) fun k1 i1 {x1} h=>b h (uU (bW.eq_2 ..) (uC (dS aU fun e1=>(cu f55 13512 5 fun K k=>have J3:∀{x4},jd (bW p1 k1) p1 x1 e1 x4=some r→K.p [(1,vR (bH p1)),(3,vi x1),(4,vQ 0),(8,vl aU p1.snapshots),(9,vi p1.snapshots.length),(10,vi x1),(15,vb x4)] [.box (Be e1)]:=fun{x4} h=>k h (uC jX (cu f55 54054 5 fun K k=>have J4:∀{x5},nc (bW p1 k1) p1 x1 e1 x5=some r→K.p [(1,vR (bH p1)),(4,vQ 0),(8,vl aU p1.snapshots),(9,vi p1.snapshots.length),(10,vi x1),(59,vb x5)] [.box (Be e1)]:=fun{x5} h=>k h (uC jX (aV (Ll _ _) fun r7=>(uC jX (aV (IP _ _) fun r8=>(uC jX (uJ i1))))));(nt 23 (uC (uL aU fun e2 a29=>(uC (uJ J4) (uM aU a29 (uJ J4)))) (uJ J4)))));(cu f55 27024 1 fun K k=>have J1:∀{x2},kH (bW p1 k1) p1 x1 e1 x2=some r→K.p [(1,vR (bH p1)),(3,vi x1),(4,vQ 0),(8,vl aU p1.snapshots),(9,vi p1.snapshots.length),(10,vi x1),(15,vb x2)] [.box (Be e1)]:=fun{x2} h=>k h (uC (uJ J3) (cu f55 108102 1 fun K k=>have J2:∀{x3},pw (bW p1 k1) p1 x1 e1 x3=some r→K.p [(1,vR (bH p1)),(3,vi x1),(4,vQ 0),(8,vl aU p1.snapshots),(9,vi p1.snapshots.length),(10,vi x1),(15,vb x3)] [.box (Be e1)]:=fun{x3} h=>k h (uC (uJ J3) (aV (dI _ _ _) fun r6=>(uJ J3)));(uN (eL af) p1.schemas (aV (dI _ _ _) fun r4=>(uC (uJ J2) (aV (dI _ _ _) fun r5=>(uJ J2)))))));(aV (dI _ _ _) fun r1=>(uC (uJ J1) (aV (dI _ _ _) fun r2=>(uC (uJ J1) (aV (dI _ _ _) fun r3=>(uJ J1))))))))) (uR (.exit 0) (xM (uJ J5)))));uE (L1 aH))))
def mB(p1 p2:ac):OB:=am (dz aH p1 p2) fun r1=>some (r1==0)
theorem uh(p1 p2:ac):CT prog 161 [mV p1,mV p2] (mB p1 p2) vb:=
  cI 9 [] f161 fun r=>(aV (lJ aH _ _) fun r1=>uz)
def cW:OB:=some true
def aE(p1 p2:List ac):Nat→Int→OB
 |0,_=>none
 |k1+1,x1=>ak (decide (x1<(p1.length:Int))) (am (at? p1 x1) fun e1=>am (at? p2 x1) fun e2=>am (mB e1 e2) fun r1=>ak (!r1) (some false) ((aE p1 p2 k1) (i64.wrap (x1+1)))) (cW)
def bp(p1 p2:List ac):OB:=ak ((p1.length:Int) != (p2.length:Int)) (some false) (aE p1 p2 aH 0)
theorem gm(p1 p2:List ac):CT prog 162 [vl ah p1,vl ah p2,.one (.pv (.fn 161 []))] (bp p1 p2) vb:=
  cI 32 [8,9] f162 fun r=>(uN ah p1 (uN ah p2 (uC uz (kT f162 14 1 cW [] [] uz fun K J1=>(uN ah p1 (gc f162 58 1 fun R b=>have L1:∀k1 {x1},aE p1 p2 k1 x1=some r→(R k1).p [(1,vl ah p2),(2,.one (.pv (.fn 161 []))),(15,vl ah p1),(16,vi p1.length),(17,vi x1)] []:=uI (fW rfl) fun k1 i1 {x1} h=>b h (uU (aE.eq_2 ..) (uC (dS ah fun e1=>(dS ah fun e2=>(aV (uh _ _) fun r1=>(uC jX (uJ i1))))) (uR (.exit 0) (xM (uJ J1)))));uE (L1 aH)))))))
def jZ(x1:Bool):Option (Bool×Unit):=some (x1,())
def sH(p1 p2:bB):Option (Bool×Unit):=ak (p1.id==p2.id) (ak (p1.nulls==p2.nulls) (am (mB p1.min p2.min) fun r1=>ak r1 (am (mB p1.max p2.max) fun r2=>jZ r2) (jZ false)) (jZ false)) (jZ false)
theorem Fw(p1 p2:bB):CM prog 164 [mA p1,mA p2,vQ 0] [.box [.pv (.fn 161 [])]] (sH p1 p2) (fun r=>vb r.1) (fun r=>[.box [.pv (.fn 161 [])]]):=
  wP 1 34 [] f164 fun r=>(cu f164 6 1 fun K k=>have J1:∀{x1},jZ x1=some r→K.p [(5,vb x1)] [.box [.pv (.fn 161 [])]]:=fun{x1} h=>k h (uR .ret ut);(uC (uC (aV (uh _ _) fun r1=>(uC (aV (uh _ _) fun r2=>(uJ J1)) (uJ J1))) (uJ J1)) (uJ J1)))
def bU:Option (Bool×Unit):=some (true,())
def ar(p1 p2:List bB):Nat→Int→Option (Bool×Unit)
 |0,_=>none
 |k1+1,x1=>ak (decide (x1<(p1.length:Int))) (am (at? p1 x1) fun e1=>am (at? p2 x1) fun e2=>am (sH e1 e2) fun r1=>ak (!r1.1) (some (false,())) ((ar p1 p2 k1) (i64.wrap (x1+1)))) (bU)
def aZ(p1 p2:List bB):Option (Bool×Unit):=ak ((p1.length:Int) != (p2.length:Int)) (some (false,())) (ar p1 p2 aH 0)
abbrev Mj:St:=[.box [.pv (.fn 161 [])]]
theorem dW(p1 p2:List bB):CM prog 163 [vl cA p1,vl cA p2,.one (.fn 164 [.pt 0 0 0 0])] Mj (aZ p1 p2) (fun r=>vb r.1) (fun r=>Mj):=
  wP 1 32 [8,9] f163 fun r=>(uN cA p1 (uN cA p2 (uC (uR .ret ut) (kT f163 14 1 bU [] Mj (uR .ret ut) fun K J1=>(uN cA p1 (gc f163 58 1 fun R b=>have L1:∀k1 {x1},ar p1 p2 k1 x1=some r→(R k1).p [(1,vl cA p2),(2,.one (.fn 164 [.pt 0 0 0 0])),(15,vl cA p1),(16,vi p1.length),(17,vi x1)] Mj:=uI (fW rfl) fun k1 i1 {x1} h=>b h (uU (ar.eq_2 ..) (uC (dS cA fun e1=>(dS cA fun e2=>(EJ true [0] (Fw _ _) fun r1 _=>(uC (uR .ret (xN (xN ut))) (uJ i1))))) (uR (.exit 0) (xM (uJ J1)))));uE (L1 aH)))))))
def iG(x1:Bool):OB:=some x1
def rC(p1 p2:aj):OB:=ak (p1.name.toList==p2.name.toList) (ak (p1.schema==p2.schema) (ak (p1.spec==p2.spec) (ak (p1.rows==p2.rows) (am (bp p1.part p2.part) fun r1=>ak r1 (am (aZ p1.stats p2.stats) fun r2=>iG r2.1) (iG false)) (iG false)) (iG false)) (iG false)) (iG false)
theorem Hr(p1 p2:aj):CT prog 109 [mF p1,mF p2] (rC p1 p2) vb:=
  cI 48 [5] f109 fun r=>(cu f109 14 1 fun K k=>have J1:∀{x1},iG x1=some r→K.p [(4,vb x1)] [.dead]:=fun{x1} h=>k h uz;(uC (uC (uC (uC (aV (gm _ _) fun r1=>(uC (EJ true [0] (dW _ _) fun r2 _=>(uJ J1)) (uJ J1))) (uJ J1)) (uJ J1)) (uJ J1)) (uJ J1)))
def vT(rec2:(List (ByteArray×aj))→Int→OI)(z2:List (ByteArray×aj))(x2:Int)(e2:aj)(x4:Bool):OI:=ak x4 (some 5) (rec2 (lj Ae z2 e2.name e2) (i64.wrap (x2+1)))
def Af(rec1:(List (ByteArray×aj))→Int→OI)(x1:Int)(z3:List (ByteArray×aj)):OI:=rec1 z3 (i64.wrap (x1+1))
def gE(rec1:(List (ByteArray×aj))→Int→OI)(x1:Int)(e1:aw):Nat→(List (ByteArray×aj))→Int→OI
 |0,_,_=>none
 |k2+1,z2,x2=>ak (decide (x2<(e1.files.length:Int))) (am (at? e1.files x2) fun e2=>am (some ((jQ Ae z2 e2.name).getD (aj.mk ByteArray.empty 0 0 [] 0 0 []))) fun x3=>ak ((jQ Ae z2 e2.name).isSome) (am (rC x3 e2) fun r1=>vT (gE rec1 x1 e1 k2) z2 x2 e2 (!r1)) (vT (gE rec1 x1 e1 k2) z2 x2 e2 false)) (Af rec1 x1 z2)
def DG:OI:=some 0
def fk(p1:ax):Nat→(List (ByteArray×aj))→Int→OI
 |0,_,_=>none
 |k1+1,z1,x1=>ak (decide (x1<(p1.snapshots.length:Int))) (am (at? p1.snapshots x1) fun e1=>gE (fk p1 k1) x1 e1 aH z1 0) (DG)
def xz(p1:ax):OI:=fk p1 aH [] 0
abbrev Vt(p1:ax)(x1:Int):Fr:=[(3,.one (.mp 0)),(12,vl aU p1.snapshots),(13,vi (p1.snapshots.length:Int)),(14,vi x1)]
theorem KV(p1:ax):CT prog 56 [mM p1] (xz p1) vi:=
  cI 45 [5,7,8] f56 fun r=>(uMm Ae be true (kT f56 14 1 DG [] [.dead] uz fun K J3=>(uN aU p1.snapshots (gc f56 58 1 fun R b=>have L1:∀k1 {z1 x1},fk p1 k1 z1 x1=some r→(R k1).p (Vt p1 x1) [vM Ae be true z1]:=uI (fW rfl) fun k1 i1 {z1 x1} h=>b h (uU (fk.eq_2 ..) (uC (cu f56 934 1 fun K k=>have J2:∀{z3},Af (fk p1 k1) x1 z3=some r→K.p (Vt p1 x1) [vM Ae be true z3]:=fun{z3} h=>k h (uJ i1);(dS aU fun e1=>(uN be e1.files (gc f56 14950 2 fun R b=>have L2:∀k2 {z2 x2},gE (fk p1 k1) x1 e1 k2 z2 x2=some r→(R k2).p [(3,.one (.mp 0)),(12,vl aU p1.snapshots),(13,vi p1.snapshots.length),(14,vi x1),(19,vl be e1.files),(20,vi e1.files.length),(21,vi x2)] [vM Ae be true z2,.dead]:=uI (fW rfl) fun k2 i2 {z2 x2} h=>b h (uU (gE.eq_2 ..) (uC (dS be fun e2=>(uMl Ae be true 0 (aj.mk ByteArray.empty (0:Int) (0:Int) [] (0:Int) (0:Int) []) 9 32 true fun x3 _=>(cu f56 7654604 4 fun K k=>have J1:∀{x4},vT (gE (fk p1 k1) x1 e1 k2) z2 x2 e2 x4=some r→K.p [(3,.one (.mp 0)),(7,vQ 2),(12,vl aU p1.snapshots),(13,vi p1.snapshots.length),(14,vi x1),(19,vl be e1.files),(20,vi e1.files.length),(21,vi x2),(38,vb x4)] [vM Ae be true z2,.dead,.box [qm e2.name,ci e2.schema,ci e2.spec,cl ah e2.part,ci e2.rows,ci e2.seq,cl cA e2.stats],.dead]:=fun{x4} h=>k h (uC (uR .ret (xN (xN (xN (xN xF))))) (uMu Ae be true 0 (m:=z2) (k0:=e2.name) (u:=e2) 9 (uJ i2)));(uC (aV (Hr _ _) fun r1=>(uJ J1)) (uJ J1))))) (uR (.exit 2) (xM (uJ J2)))));uE (L2 aH))))) (uR (.exit 0) (xM (uJ J3)))));uE (L1 aH)))))
def Cs(p1 p2:lq):Option (Bool×lq):=some ((p1.name.toList==p2.name.toList),p2)
theorem Jx(p1 p2:lq):CM prog 112 [.ag [qm p1.name,cb p1.branch,ci p1.snapshot],vQ 0] [.box [qm p2.name,cb p2.branch,ci p2.snapshot]] (Cs p1 p2) (fun r=>vb r.1) (fun r=>[.box [qm r.2.name,cb r.2.branch,ci r.2.snapshot]]):=
  wP 1 9 [] f112 fun r=>(uR .ret ut)
def gB(z4:ByteArray)(z5:Bool)(z6:Int):Option (Int×lq):=some ((-1),(lq.mk z4 z5 z6))
def bc(p1:List lq):Nat→ByteArray→Bool→Int→Int→Option (Int×lq)
 |0,_,_,_,_=>none
 |k1+1,z1,z2,z3,x1=>ak (decide (x1<(p1.length:Int))) (am (at? p1 x1) fun e1=>am (Cs e1 (lq.mk z1 z2 z3)) fun r1=>ak r1.1 (some (x1,r1.2)) ((bc p1 k1) r1.2.name r1.2.branch r1.2.snapshot (i64.wrap (x1+1)))) (gB z1 z2 z3)
def eD(p1:List lq)(p2:lq):Option (Int×lq):=bc p1 aH p2.name p2.branch p2.snapshot 0
theorem mN(p1:List lq)(p2:lq):CM prog 166 [vl oS p1,.one (.fn 112 [.pt 0 0 0 0])] [.box [qm p2.name,cb p2.branch,ci p2.snapshot]] (eD p1 p2) (fun r=>vi r.1) (fun r=>[.box [qm r.2.name,cb r.2.branch,ci r.2.snapshot]]):=
  wP 1 19 [] f166 fun r=>(cu f166 6 1 fun K k=>have J1:∀{z4 z5 z6},gB z4 z5 z6=some r→K.p [] [.box [qm z4,cb z5,ci z6]]:=fun{z4 z5 z6} h=>k h (uR .ret ut);(uN oS p1 (gc f166 26 1 fun R b=>have L1:∀k1 {z1 z2 z3 x1},bc p1 k1 z1 z2 z3 x1=some r→(R k1).p [(0,vl oS p1),(1,.one (.fn 112 [.pt 0 0 0 0])),(7,vi p1.length),(8,vi x1)] [.box [qm z1,cb z2,ci z3]]:=uI (fW rfl) fun k1 i1 {z1 z2 z3 x1} h=>b h (uU (bc.eq_2 ..) (uC (dS oS fun e1=>(EJ true [0] (Jx _ _) fun r1 _=>(uC (uR .ret (xN (xN ut))) (uJ i1)))) (uR (.exit 0) (xM (uJ J1)))));uE (L1 aH))))
def cE(p1:List lq)(p2:lq):Option (Bool×lq):=am (eD p1 p2) fun r1=>some ((decide (0≤r1.1)),r1.2)
theorem lT(p1:List lq)(p2:lq):CM prog 111 [vl oS p1,.one (.fn 112 [.pt 0 0 0 0])] [.box [qm p2.name,cb p2.branch,ci p2.snapshot]] (cE p1 p2) (fun r=>vb r.1) (fun r=>[.box [qm r.2.name,cb r.2.branch,ci r.2.snapshot]]):=
  wP 1 9 [] f111 fun r=>(EJ true [0] (mN _ _) fun r1 _=>(uR .ret ut))
def um(p1:aw)(p2:Int):OB:=some (p1.id==p2)
theorem Dz(p1:aw)(p2:Int):CT prog 82 [mS p1,vR [pi p2]] (um p1 p2) vb:=
  cI 8 [] f82 fun r=>uz
def ef:OI:=some (-1)
def aN(p1:List aw)(p2:Int):Nat→Int→OI
 |0,_=>none
 |k1+1,x1=>ak (decide (x1<(p1.length:Int))) (am (at? p1 x1) fun e1=>am (um e1 p2) fun r1=>ak r1 (some x1) ((aN p1 p2 k1) (i64.wrap (x1+1)))) (ef)
def cK(p1:List aw)(p2:Int):OI:=aN p1 p2 aH 0
theorem jy(p1:List aw)(p2:Int):CT prog 81 [vl aU p1,.one (.fn 82 [.pv (.rp [[pi p2]] 0 0)])] (cK p1 p2) vi:=
  cI 19 [] f81 fun r=>(kT f81 6 1 ef [] [] uz fun K J1=>(uN aU p1 (gc f81 26 1 fun R b=>have L1:∀k1 {x1},aN p1 p2 k1 x1=some r→(R k1).p [(0,vl aU p1),(1,.one (.fn 82 [.pv (.rp [[pi p2]] 0 0)])),(7,vi p1.length),(8,vi x1)] []:=uI (fW rfl) fun k1 i1 {x1} h=>b h (uU (aN.eq_2 ..) (uC (dS aU fun e1=>(aV (Dz _ _) fun r1=>(uC jX (uJ i1)))) (uR (.exit 0) (xM (uJ J1)))));uE (L1 aH))))
def rt(p1:ax)(p2:Int):Option (aw×Bool):=am (cK p1.snapshots p2) fun r1=>ak (decide (r1<0)) (some ((aw.mk 0 0 0 0 0 0 [] [] []),false)) (am (at? p1.snapshots r1) fun e1=>some (e1,true))
theorem H9(p1:ax)(p2:Int):CT prog 27 [mM p1,vi p2] (rt p1 p2) (fun r=> .tp [mS r.1,vb r.2]):=
  cI 19 [4] f27 fun r=>(aV (jy _ _) fun r1=>(uC uz (dS aU fun e1=>uz)))
def tK(p1:ByteArray):OB:=am (kX (ac.mk 4 0 0 p1 [])) fun r1=>some r1
theorem AK(p1:ByteArray):CT prog 113 [vs p1] (tK p1) vb:=
  cI 6 [] f113 fun r=>(aV (od _) fun r1=>uz)
end Go.Proofs.YtpiohnabdhpphaaGreatDoor
namespace Go.Proofs.YtpiohnabdhpphaaGreatDoor
open Go.SX Go Tryz
open Go.IntKind (i64)
set_option maxRecDepth 100000
set_option maxHeartbeats 8000000
def sY(rec1:Int→OI)(x1:Int)(x2:Bool):OI:=ak x2 (some 9) (rec1 (i64.wrap (x1+1)))
def tc(rec2:Int→OI)(x3:Int)(x4:Bool):OI:=ak x4 (some 1) (rec2 (i64.wrap (x3+1)))
def EA:OI:=some 0
def jD(p1:ax):Nat→Int→OI
 |0,_=>none
 |k2+1,x3=>ak (decide (x3<(p1.props.length:Int))) (am (at? p1.props x3) fun e2=>am (wI e2.name) fun r4=>ak (!r4) (some 4) (ak (decide (0<x3)) (am (at? p1.props (i64.wrap (x3-1))) fun e3=>am (some (Op.bytesLess e2.name.toList e3.name.toList||e2.name.toList==e3.name.toList)) fun y1=>ak y1 (tc (jD p1 k2) x3 true) (am (tK e2.value) fun r5=>tc (jD p1 k2) x3 (!r5))) (am (tK e2.value) fun r6=>tc (jD p1 k2) x3 (!r6)))) (EA)
def w9(p1:ax):OI:=jD p1 aH 0
def jB(p1:ax):Nat→Int→OI
 |0,_=>none
 |k1+1,x1=>ak (decide (x1<(p1.refs.length:Int))) (am (at? p1.refs x1) fun e1=>am (wI e1.name) fun r1=>ak (!r1) (some (4:Int)) (iN (0≤(0:Int)∧(0:Int)≤x1∧x1≤(p1.refs.length:Int))<|am (cE ((p1.refs.drop (0:Int).toNat).take (x1.toNat-(0:Int).toNat)) e1) fun r2=>ak r2.1 (some (5:Int)) (am (rt p1 r2.2.snapshot) fun r3=>ak (!r3.2) (ak r2.2.branch (sY (jB p1 k1) x1 (!(r2.2.snapshot==0))) (sY (jB p1 k1) x1 true)) (sY (jB p1 k1) x1 false)))) (w9 p1)
def Cg(p1:ax):OI:=jB p1 aH 0
theorem Nl(p1:ax):CT prog 57 [mM p1] (Cg p1) vi:=
  cI 80 [4,5,8] f57 fun r=>(kT f57 6 1 (w9 p1) [(1,vR (bH p1))] [] (kT f57 14 1 EA [] [] uz fun K J4=>(uN lE p1.props (gc f57 58 1 fun R b=>have L2:∀k2 {x3},jD p1 k2 x3=some r→(R k2).p [(1,vR (bH p1)),(48,vl lE p1.props),(49,vi p1.props.length),(50,vi x3)] []:=uI (fW rfl) fun k2 i2 {x3} h=>b h (uU (jD.eq_2 ..) (uC (dS lE fun e2=>(aV (Cn _) fun r4=>(uC jX (cu f57 14950 3 fun K k=>have J3:∀{x4},tc (jD p1 k2) x3 x4=some r→K.p [(1,vR (bH p1)),(48,vl lE p1.props),(49,vi p1.props.length),(50,vi x3),(78,vb x4)] [.dead]:=fun{x4} h=>k h (uC jX (uJ i2));(nt 12 (uC (dS lE fun e3=>(uY 71 vb fun y1=>(uC (uJ J3) (aV (AK _) fun r5=>(uJ J3))))) (aV (AK _) fun r6=>(uJ J3)))))))) (uR (.exit 2) (xM (uJ J4)))));uE (L2 aH)))) fun K J2=>(uN oS p1.refs (gc f57 26 1 fun R b=>have L1:∀k1 {x1},jB p1 k1 x1=some r→(R k1).p [(1,vR (bH p1)),(10,vl oS p1.refs),(11,vi p1.refs.length),(12,vi x1)] []:=uI (fW rfl) fun k1 i1 {x1} h=>b h (uU (jB.eq_2 ..) (uC (dS oS fun e1=>(aV (Cn _) fun r1=>(uC jX (uX oS (EJ true [0] (lT _ _) fun r2 _=>(uC jX (aV (H9 _ _) fun r3=>(cu f57 27038 3 fun K k=>have J1:∀{x2},sY (jB p1 k1) x1 x2=some r→K.p [(1,vR (bH p1)),(10,vl oS p1.refs),(11,vi p1.refs.length),(12,vi x1),(45,vb x2)] [.dead,.dead]:=fun{x2} h=>k h (uC jX (uJ i1));(uC (uC (uJ J1) (uJ J1)) (uJ J1)))))))))) (uR (.exit 0) (xM (uJ J2)))));uE (L1 aH))))
def mX(p1:ax)(x2:Bool):OI:=ak x2 (some 3) (am (xj p1) fun r6=>ak (r6 != 0) (some r6) (am (AE p1) fun r7=>ak (r7 != 0) (some r7) (am (tX p1) fun r8=>ak (r8 != 0) (some r8) (am (xz p1) fun r9=>ak (r9 != 0) (some r9) (am (Cg p1) fun r10=>ak (r10 != 0) (some r10) (some 0))))))
def nh(p1:ax)(x1:Bool):OI:=ak x1 (some 9) (am (dM p1.nextField 1 1099511627776) fun r2=>ak (!r2) (mX p1 true) (am (dM p1.nextSeq 1 1099511627776) fun r3=>ak (!r3) (mX p1 true) (am (dM p1.nextSnap 1 1099511627776) fun r4=>ak (!r4) (mX p1 true) (am (dM p1.purges 0 1099511627776) fun r5=>mX p1 (!r5)))))
def nV(p1:ax):OI:=am (sC p1) fun r1=>ak (r1 != 0) (some r1) (ak ((p1.schemas.length:Int)==0) (nh p1 true) (nh p1 ((p1.specs.length:Int)==0)))
theorem KU(p1:ax):CT prog 17 [mM p1] (nV p1) vi:=
  cI 57 [] f17 fun r=>(aV (JG _) fun r1=>(uC uz (cu f17 28 2 fun K k=>have J1:∀{x1},nh p1 x1=some r→K.p [(1,vR (bH p1)),(21,vb x1)] []:=fun{x1} h=>k h (uC uz (cu f17 60 2 fun K k=>have J2:∀{x2},mX p1 x2=some r→K.p [(1,vR (bH p1)),(43,vb x2)] []:=fun{x2} h=>k h (uC uz (uA (vi (5:Int)) (Ro 5 (uT (uM eFn (show at? [(PV.fn 53 []),(PV.fn 54 []),(PV.fn 55 []),(PV.fn 56 []),(PV.fn 57 [])] (0:Int)=some (PV.fn 53 [])from rfl) (aV (IN _) fun r6=>(uC uz (uT (uM eFn (show at? [(PV.fn 53 []),(PV.fn 54 []),(PV.fn 55 []),(PV.fn 56 []),(PV.fn 57 [])] (1:Int)=some (PV.fn 54 [])from rfl) (aV (KY _) fun r7=>(uC uz (uT (uM eFn (show at? [(PV.fn 53 []),(PV.fn 54 []),(PV.fn 55 []),(PV.fn 56 []),(PV.fn 57 [])] (2:Int)=some (PV.fn 55 [])from rfl) (aV (FJ _) fun r8=>(uC uz (uT (uM eFn (show at? [(PV.fn 53 []),(PV.fn 54 []),(PV.fn 55 []),(PV.fn 56 []),(PV.fn 57 [])] (3:Int)=some (PV.fn 56 [])from rfl) (aV (KV _) fun r9=>(uC uz (uT (uM eFn (show at? [(PV.fn 53 []),(PV.fn 54 []),(PV.fn 55 []),(PV.fn 56 []),(PV.fn 57 [])] (4:Int)=some (PV.fn 57 [])from rfl) (aV (Nl _) fun r10=>(uC uz (uF uz))))))))))))))))))))))));(aV (dI _ _ _) fun r2=>(uC (uJ J2) (aV (dI _ _ _) fun r3=>(uC (uJ J2) (aV (dI _ _ _) fun r4=>(uC (uJ J2) (aV (dI _ _ _) fun r5=>(uJ J2))))))))));(uN (eL af) p1.schemas (uC (uJ J1) (uN fU p1.specs (uJ J1)))))))
def Ah:OI:=some 0
def ji(p1:List ae)(p2:List bA):Nat→Int→OI
 |0,_=>none
 |k1+1,x1=>ak (decide (x1<(p2.length:Int))) (am (at? p2 x1) fun e1=>am (mg p1 e1.id) fun r1=>ak (!r1.2) (some 9) (am (at? [e1.low,e1.high] 0) fun e2=>am (gN r1.1 e2) fun r2=>ak (r2 != 0) (some r2) (am (at? [e1.low,e1.high] 1) fun e3=>am (gN r1.1 e3) fun r3=>ak (r3 != 0) (some r3) ((ji p1 p2 k1) (i64.wrap (x1+1)))))) (Ah)
def tT(p1:List ae)(p2:List bA):OI:=ak (decide (40<(p2.length:Int))) (some 7) (ji p1 p2 aH 0)
theorem FZ(p1:List ae)(p2:List bA):CT prog 20 [vl af p1,vl ju p2] (tT p1 p2) vi:=
  cI 48 [6,7,10] f20 fun r=>(uN ju p2 (uC uz (kT f20 14 1 Ah [] [] uz fun K J1=>(uN ju p2 (gc f20 58 1 fun R b=>have L1:∀k1 {x1},ji p1 p2 k1 x1=some r→(R k1).p [(0,vl af p1),(15,vl ju p2),(16,vi p2.length),(17,vi x1)] []:=uI (fW rfl) fun k1 i1 {x1} h=>b h (uU (ji.eq_2 ..) (uC (dS ju fun e1=>(aV (pP _ _) fun r1=>(uC jX (uW 34 ah [e1.low,e1.high] (uA (vi (2:Int)) (Ro 2 (uT (dS ah fun e2=>(aV (qj _ _) fun r2=>(uC jX (uT (dS ah fun e3=>(aV (qj _ _) fun r3=>(uC jX (uF (uJ i1)))))))))))))))) (uR (.exit 0) (xM (uJ J1)))));uE (L1 aH))))))
def ug(p1:bB)(p2 p3 p4 p5:Int)(p6:ByteArray)(p7:List ac)(p8 p9 cw:Int)(p11:ByteArray)(p12:List ac):OB:=some (p1.id==p2)
theorem DY(p1:bB)(p2 p3 p4 p5:Int)(p6:ByteArray)(p7:List ac)(p8 p9 cw:Int)(p11:ByteArray)(p12:List ac):CT prog 129 [mA p1,vR [pi p2,pi p3,pi p4,pi p5,.s (.string p6),.ro (ah.els p7),pi p8,pi p9,pi cw,.s (.string p11),.ro (ah.els p12)]] (ug p1 p2 p3 p4 p5 p6 p7 p8 p9 cw p11 p12) vb:=
  cI 9 [] f129 fun r=>uz
def eZ:OI:=some (-1)
def aL(p1:List bB)(p2 p3 p4 p5:Int)(p6:ByteArray)(p7:List ac)(p8 p9 cw:Int)(p11:ByteArray)(p12:List ac):Nat→Int→OI
 |0,_=>none
 |k1+1,x1=>ak (decide (x1<(p1.length:Int))) (am (at? p1 x1) fun e1=>am (ug e1 p2 p3 p4 p5 p6 p7 p8 p9 cw p11 p12) fun r1=>ak r1 (some x1) ((aL p1 p2 p3 p4 p5 p6 p7 p8 p9 cw p11 p12 k1) (i64.wrap (x1+1)))) (eZ)
def dq(p1:List bB)(p2 p3 p4 p5:Int)(p6:ByteArray)(p7:List ac)(p8 p9 cw:Int)(p11:ByteArray)(p12:List ac):OI:=aL p1 p2 p3 p4 p5 p6 p7 p8 p9 cw p11 p12 aH 0
theorem kA(p1:List bB)(p2 p3 p4 p5:Int)(p6:ByteArray)(p7:List ac)(p8 p9 cw:Int)(p11:ByteArray)(p12:List ac):CT prog 128 [vl cA p1,.one (.fn 129 [.pv (.rp [[pi p2,pi p3,pi p4,pi p5,.s (.string p6),.ro (ah.els p7),pi p8,pi p9,pi cw,.s (.string p11),.ro (ah.els p12)]] 0 0)])] (dq p1 p2 p3 p4 p5 p6 p7 p8 p9 cw p11 p12) vi:=
  cI 19 [] f128 fun r=>(kT f128 6 1 eZ [] [] uz fun K J1=>(uN cA p1 (gc f128 26 1 fun R b=>have L1:∀k1 {x1},aL p1 p2 p3 p4 p5 p6 p7 p8 p9 cw p11 p12 k1 x1=some r→(R k1).p [(0,vl cA p1),(1,.one (.fn 129 [.pv (.rp [[pi p2,pi p3,pi p4,pi p5,.s (.string p6),.ro (ah.els p7),pi p8,pi p9,pi cw,.s (.string p11),.ro (ah.els p12)]] 0 0)])),(7,vi p1.length),(8,vi x1)] []:=uI (fW rfl) fun k1 i1 {x1} h=>b h (uU (aL.eq_2 ..) (uC (dS cA fun e1=>(aV (DY _ _ _ _ _ _ _ _ _ _ _ _) fun r1=>(uC jX (uJ i1)))) (uR (.exit 0) (xM (uJ J1)))));uE (L1 aH))))
def yB(x1:Bool):OB:=some x1
def yK(x2:Bool):OB:=some x2
def yG(x3:Bool):OB:=some x3
def D8(p1 p2:Int):OB:=ak (p1==1) (ak (p2==1) (yB true) (ak (p2==2) (yB true) (yB (p2==4)))) (ak (p1==2) (am (dZ p2 1 5) fun r1=>some r1) (ak (p1==3) (ak (p2==2) (yK true) (ak (p2==3) (yK true) (yK (p2==4)))) (ak (p1==4) (am (dZ p2 1 5) fun r2=>some r2) (ak (p1==5) (ak (p2==2) (yG true) (ak (p2==5) (yG true) (yG (p2==4)))) (some (p1==p2))))))
theorem OA(p1 p2:Int):CT prog 253 [vi p1,vi p2] (D8 p1 p2) vb:=
  cI 53 [] f253 fun r=>(uC (cu f253 212 3 fun K k=>have J1:∀{x1},yB x1=some r→K.p [(4,vb x1)] []:=fun{x1} h=>k h uz;(uC (uJ J1) (uC (uJ J1) (uJ J1)))) (uC (aV (gF _ _ _) fun r1=>uz) (uC (cu f253 3452 3 fun K k=>have J2:∀{x2},yK x2=some r→K.p [(4,vb x2)] []:=fun{x2} h=>k h uz;(uC (uJ J2) (uC (uJ J2) (uJ J2)))) (uC (aV (gF _ _ _) fun r2=>uz) (uC (cu f253 55292 3 fun K k=>have J3:∀{x3},yG x3=some r→K.p [(4,vb x3)] []:=fun{x3} h=>k h uz;(uC (uJ J3) (uC (uJ J3) (uJ J3)))) uz)))))
def Ax:OB:=some true
def n8(q_value_canValue:ac→al→OB)(p1:ac)(p2:al):Nat→Int→OB
 |0,_=>none
 |k1+1,x2=>ak (decide (x2<(p1.items.length:Int))) (am (at? p1.items x2) fun e1=>am (xP p2 x2) fun r2=>am (q_value_canValue e1 r2.type) fun r3=>ak (!r3) (some false) ((n8 q_value_canValue p1 p2 k1) (i64.wrap (x2+1)))) (Ax)
def nX(q_value_canValue:ac→al→OB)(p1:ac)(p2:al)(x1:Bool):OB:=ak x1 (some false) (n8 q_value_canValue p1 p2 aH 0)
def fm:Nat→ac→al→OB
 |0,_,_=>none
 |k0+1,p1,p2=>ak (p1.kind==0) (some true) (am (D8 p1.kind p2.kind) fun r1=>ak (!r1) (nX (fm k0) p1 p2 true) (ak (p1.kind==7) (nX (fm k0) p1 p2 ((p1.items.length:Int) != (p2.fields.length:Int))) (nX (fm k0) p1 p2 false)))
theorem BN:∀(k0:Nat) (p1:ac) (p2:al),CT prog 223 [mV p1,mT p2] (fm k0 p1 p2) vb
  |0,_,_=>Jd (fm.eq_1 ..)
  |k0+1,p1,p2=>cI 48 [6] f223 fun r=>(uU (fm.eq_2 ..) (uC uz (cu f223 102 3 fun K k=>have J1:∀{x1},nX (fm k0) p1 p2 x1=some r→K.p [(2,vR [pi p1.kind,pi p1.n,pi p1.scale,.s (.string p1.s),.ro (ah.els p1.items)]),(3,vR [pi p2.kind,pi p2.scale,.ro (af.els p2.fields)]),(11,vb x1)] []:=fun{x1} h=>k h (uC uz (kT f223 14 1 Ax [] [] uz fun K J2=>(uN ah p1.items (gc f223 58 1 fun R b=>have L1:∀k1 {x2},n8 (fm k0) p1 p2 k1 x2=some r→(R k1).p [(3,vR [pi p2.kind,pi p2.scale,.ro (af.els p2.fields)]),(33,vl ah p1.items),(34,vi p1.items.length),(35,vi x2)] []:=uI (fW rfl) fun k1 i1 {x2} h=>b h (uU (n8.eq_2 ..) (uC (dS ah fun e1=>(nt 5 (aV (ET _ _) fun r2=>(aV (BN k0 _ _) fun r3=>(uC jX (uJ i1)))))) (uR (.exit 1) (xM (uJ J2)))));uE (L1 aH)))));(aV (OA _ _) fun r1=>(uC (uJ J1) (uC (uN ah p1.items (uN af p2.fields (uJ J1))) (uJ J1)))))))
def qY(p1:bw)(p2 p3:Int):Option bw:=ak (decide (p2≤p3)) (am (je (bw.mk p1.neg (p1.size.1,p1.size.2.1,p1.size.2.2.1,p1.size.2.2.2)) (i64.wrap (p3-p2))) fun r1=>some (bw.mk r1.neg (r1.size.1,r1.size.2.1,r1.size.2.2.1,r1.size.2.2.2))) (am (lZ 1 (i64.wrap (p2-p3))) fun r2=>none)
theorem Hu(p1:bw)(p2 p3:Int):CT prog 258 [mW p1,vi p2,vi p3] (qY p1 p2 p3) (fun r=>mW r):=
  cI 21 [6] f258 fun r=>(uC (aV (xu _ _) fun r1=>uz) (nt 5 (aV (vH _ _) fun r2=>uNo)))
def n7(p1:bw)(x1:Bool):Option (Int×Bool):=ak x1 (some (0,false)) (ak p1.neg (some ((i64.wrap (0-(i64.wrap p1.size.1))),true)) (some ((i64.wrap p1.size.1),true)))
def qz(p1:bw):Option (Int×Bool):=am (some (IntKind.u64.wrap (BitVec.ofInt (IntKind.u64).bits p1.size.2.1 ||| BitVec.ofInt (IntKind.u64).bits p1.size.2.2.1).toNat)) fun y1=>am (some (IntKind.u64.wrap (BitVec.ofInt (IntKind.u64).bits y1 ||| BitVec.ofInt (IntKind.u64).bits p1.size.2.2.2).toNat)) fun y2=>ak (y2 != 0) (n7 p1 true) (n7 p1 (decide (9223372036854775808≤p1.size.1)))
theorem Em(p1:bw):CT prog 281 [mW p1] (qz p1) (fun r=> .tp [vi r.1,vb r.2]):=
  cI 33 [] f281 fun r=>(X1 10 (kS f281 [1,0,0] 2) fun K k=>have J1:∀{x1},n7 p1 x1=some r→K.p [(1,vR [.s (.bool p1.neg),.s (.int .u64 p1.size.1),.s (.int .u64 p1.size.2.1),.s (.int .u64 p1.size.2.2.1),.s (.int .u64 p1.size.2.2.2)]),(21,vb x1)] []:=fun{x1} h=>k h (uC uz (uC uz uz));(uY 10 (vk .u64) fun y1=>(uY 14 (vk .u64) fun y2=>(uC (uJ J1) (uJ J1)))))
def xk(p1 p3:Int)(r1:(Int×Bool))(x1:Bool):Option ac:=ak x1 (some (ac.mk 0 0 0 ByteArray.empty [])) (some (ac.mk p1 r1.1 p3 ByteArray.empty []))
def Ai(p1:Int)(p2:bw)(p3:Int):Option ac:=am (qz (bw.mk p2.neg (p2.size.1,p2.size.2.1,p2.size.2.2.1,p2.size.2.2.2))) fun r1=>ak (!r1.2) (xk p1 p3 r1 true) (am (kX (ac.mk p1 r1.1 p3 ByteArray.empty [])) fun r2=>xk p1 p3 r1 (!r2))
theorem Nn(p1:Int)(p2:bw)(p3:Int):CT prog 257 [vi p1,mW p2,vi p3] (Ai p1 p2 p3) (fun r=>mV r):=
  cI 28 [6,9] f257 fun r=>(aV (Em _) fun r1=>(cu f257 60 2 fun K k=>have J1:∀{x1},xk p1 p3 r1 x1=some r→K.p [(6,vQ 0),(9,vQ 1),(25,vb x1)] [.box [ci (0:Int),ci (0:Int),ci (0:Int),qm ByteArray.empty,.pv (.s (.slice none 0 0))],.box [ci p1,ci r1.1,ci p3,qm ByteArray.empty,.pv (.s (.slice none 0 0))]]:=fun{x1} h=>k h (uC uz uz);(uC (uJ J1) (aV (od _) fun r2=>(uJ J1)))))
def w7(p1:ac)(p2:al)(x3:Bool):Option ac:=ak x3 (some (ac.mk 0 0 0 ByteArray.empty [])) (am (nG p1.n) fun r2=>am (qY (bw.mk r2.neg (r2.size.1,r2.size.2.1,r2.size.2.2.1,r2.size.2.2.2)) p1.scale p2.scale) fun r3=>am (Ai p2.kind (bw.mk r3.neg (r3.size.1,r3.size.2.1,r3.size.2.2.1,r3.size.2.2.2)) p2.scale) fun r4=>some r4)
def qk(p1:ac)(p2:al)(x2:Bool):Option ac:=ak x2 (some p1) (ak (p2.kind==4) (none) (ak (p1.kind==4) (none) (ak (p2.kind==1) (am (dZ p1.n 0 1) fun r1=>w7 p1 p2 (!r1)) (w7 p1 p2 false))))
def tB(p1:ac)(p2:al)(x1:Bool):Option ac:=ak x1 (none) (ak (p1.kind==p2.kind) (qk p1 p2 (p2.kind != 3)) (qk p1 p2 false))
def qR(p1:ac)(p2:al):Option ac:=ak (p1.kind==0) (some (ac.mk 0 0 0 ByteArray.empty [])) (ak (p1.kind==6) (tB p1 p2 true) (tB p1 p2 (p1.kind==7)))
abbrev mL(p1:ac):List PV:=[pi p1.kind,pi p1.n,pi p1.scale,.s (.string p1.s),.ro (ah.els p1.items)]
abbrev u6:List CV:=[ci (0:Int),ci (0:Int),ci (0:Int),qm ByteArray.empty,.pv (.s (.slice none 0 0))]
theorem Mq(p1:ac)(p2:al):CT prog 224 [mV p1,mT p2] (qR p1 p2) (fun r=>mV r):=
  cI 73 [4] f224 fun r=>(uC uz (cu f224 102 3 fun K k=>have J1:∀{x1},tB p1 p2 x1=some r→K.p [(2,vR (mL p1)),(3,vR (eh p2)),(4,vQ 0),(10,vb x1)] [.box u6]:=fun{x1} h=>k h (uC uNo (cu f224 414 3 fun K k=>have J2:∀{x2},qk p1 p2 x2=some r→K.p [(2,vR (mL p1)),(3,vR (eh p2)),(4,vQ 0),(22,vb x2)] [.box u6]:=fun{x2} h=>k h (uC uz (uC uNo (uC uNo (cu f224 26622 3 fun K k=>have J3:∀{x3},w7 p1 p2 x3=some r→K.p [(2,vR (mL p1)),(3,vR (eh p2)),(4,vQ 0),(49,vb x3)] [.box u6]:=fun{x3} h=>k h (uC uz (nt 12 (aV (AW _) fun r2=>(aV (Hu _ _ _) fun r3=>(aV (Nn _ _ _) fun r4=>uz)))));(uC (aV (gF _ _ _) fun r1=>(uJ J3)) (uJ J3))))));(uC (uJ J2) (uJ J2))));(uC (uJ J1) (uJ J1))))
def qg(p1:ac)(p2:al)(x1:Bool):Option ac:=ak x1 (some (ac.mk 0 0 0 ByteArray.empty [])) (am (qR p1 p2) fun r4=>am (kX r4) fun r5=>ak (!r5) (some (ac.mk 0 0 0 ByteArray.empty [])) (some r4))
def lK(p1:ac)(p2:al):Option ac:=am (kX p1) fun r1=>ak (!r1) (qg p1 p2 true) (am (dk p2) fun r2=>ak (r2 != 0) (qg p1 p2 true) (am (fm aH p1 p2) fun r3=>qg p1 p2 (!r3)))
theorem Ge(p1:ac)(p2:al):CT prog 185 [mV p1,mT p2] (lK p1 p2) (fun r=>mV r):=
  cI 29 [4,5] f185 fun r=>(cu f185 12 2 fun K k=>have J1:∀{x1},qg p1 p2 x1=some r→K.p [(2,vR [pi p1.kind,pi p1.n,pi p1.scale,.s (.string p1.s),.ro (ah.els p1.items)]),(3,vR [pi p2.kind,pi p2.scale,.ro (af.els p2.fields)]),(4,vQ 0),(19,vb x1)] [.box [ci (0:Int),ci (0:Int),ci (0:Int),qm ByteArray.empty,.pv (.s (.slice none 0 0))]]:=fun{x1} h=>k h (uC uz (aV (Mq _ _) fun r4=>(aV (od _) fun r5=>(uC uz uz))));(aV (od _) fun r1=>(uC (uJ J1) (aV (lC _) fun r2=>(uC (uJ J1) (aV (BN aH _ _) fun r3=>(uJ J1)))))))
def mw(p2:al)(z1 z2 z3:Int)(z4:ByteArray)(z5:List ac):Option ac:=am (lK (ac.mk z1 z2 z3 z4 z5) p2) fun r2=>some r2
def mJ(p1:ac)(p2:al)(x1:Bool):Option ac:=ak x1 (am (lK p1 (al.mk 2 0 [])) fun r1=>mw p2 r1.kind r1.n r1.scale r1.s r1.items) (mw p2 p1.kind p1.n p1.scale p1.s p1.items)
def iP(p1:ac)(p2:al):Option ac:=ak (p1.kind==1) (mJ p1 p2 (p2.kind==3)) (mJ p1 p2 false)
theorem CI(p1:ac)(p2:al):CT prog 132 [mV p1,mT p2] (iP p1 p2) (fun r=>mV r):=
  cI 19 [2,4] f132 fun r=>(cu f132 6 1 fun K k=>have J2:∀{z1 z2 z3 z4 z5},mw p2 z1 z2 z3 z4 z5=some r→K.p [(2,vQ 0),(3,vR [pi p2.kind,pi p2.scale,.ro (af.els p2.fields)]),(4,vQ 1)] [.box [ci z1,ci z2,ci z3,qm z4,cl ah z5],.box u6]:=fun{z1 z2 z3 z4 z5} h=>k h (aV (Ge _ _) fun r2=>uz);(cu f132 12 1 fun K k=>have J1:∀{x1},mJ p1 p2 x1=some r→K.p [(2,vQ 0),(3,vR [pi p2.kind,pi p2.scale,.ro (af.els p2.fields)]),(4,vQ 1),(12,vb x1)] [.box [ci p1.kind,ci p1.n,ci p1.scale,qm p1.s,cl ah p1.items],.box u6]:=fun{x1} h=>k h (uC (aV (Ge _ _) fun r1=>(uJ J2)) (uJ J2));(uC (uJ J1) (uJ J1))))
def vX(x1:Bool):OB:=some x1
def xt(p1 p2:ac):OB:=ak (p2.kind != 0) (am (dz aH p1 p2) fun r1=>vX (decide (r1<0))) (vX false)
theorem EG(p1 p2:ac):CT prog 131 [mV p1,mV p2] (xt p1 p2) vb:=
  cI 14 [] f131 fun r=>(cu f131 6 1 fun K k=>have J1:∀{x1},vX x1=some r→K.p [(4,vb x1)] []:=fun{x1} h=>k h uz;(uC (aV (lJ aH _ _) fun r1=>(uJ J1)) (uJ J1)))
def vB(x1:Bool):OB:=some x1
def xp(p1 p2:ac):OB:=ak (p2.kind != 0) (am (dz aH p1 p2) fun r1=>vB (decide (0<r1))) (vB false)
theorem EN(p1 p2:ac):CT prog 133 [mV p1,mV p2] (xp p1 p2) vb:=
  cI 14 [] f133 fun r=>(cu f133 6 1 fun K k=>have J1:∀{x1},vB x1=some r→K.p [(4,vb x1)] []:=fun{x1} h=>k h uz;(uC (aV (lJ aH _ _) fun r1=>(uJ J1)) (uJ J1)))
def HM:Option (List iY):=some ([(iY.mk (ByteArray.mk #[117,116,99]) 0 0 (lr.mk 0 0 0 0) (lr.mk 0 0 0 0)),(iY.mk (ByteArray.mk #[109,105,100]) 60 60 (lr.mk 3 5 7 120) (lr.mk 10 5 7 180)),(iY.mk (ByteArray.mk #[101,97,115,116]) 330 0 (lr.mk 0 0 0 0) (lr.mk 0 0 0 0)),(iY.mk (ByteArray.mk #[115,111,117,116,104]) 600 60 (lr.mk 10 1 7 120) (lr.mk 4 1 7 180)),(iY.mk (ByteArray.mk #[119,101,115,116]) (-480) 60 (lr.mk 3 2 7 120) (lr.mk 11 1 7 120)),(iY.mk (ByteArray.mk #[105,115,108,101]) 630 30 (lr.mk 10 1 7 120) (lr.mk 4 1 7 120))])
theorem IA:CT prog 235 [] (HM) (vl EB):=
  cI 16 [] f235 fun r=>uz
def DA(p1:iY)(p2:ByteArray):OB:=some (p1.name.toList==p2.toList)
theorem HC(p1:iY)(p2:ByteArray):CT prog 305 [.ag [qm p1.name,ci p1.offset,ci p1.summer,ci p1.start.month,ci p1.start.week,ci p1.start.weekday,ci p1.start.minute,ci p1.stop.month,ci p1.stop.week,ci p1.stop.weekday,ci p1.stop.minute],vR [.s (.string p2)]] (DA p1 p2) vb:=
  cI 8 [] f305 fun r=>uz
def gh:OI:=some (-1)
def cz(p1:List iY)(p2:ByteArray):Nat→Int→OI
 |0,_=>none
 |k1+1,x1=>ak (decide (x1<(p1.length:Int))) (am (at? p1 x1) fun e1=>am (DA e1 p2) fun r1=>ak r1 (some x1) ((cz p1 p2 k1) (i64.wrap (x1+1)))) (gh)
def gI(p1:List iY)(p2:ByteArray):OI:=cz p1 p2 aH 0
theorem lW(p1:List iY)(p2:ByteArray):CT prog 304 [vl EB p1,.one (.fn 305 [.pv (.rp [[.s (.string p2)]] 0 0)])] (gI p1 p2) vi:=
  cI 19 [] f304 fun r=>(kT f304 6 1 gh [] [] uz fun K J1=>(uN EB p1 (gc f304 26 1 fun R b=>have L1:∀k1 {x1},cz p1 p2 k1 x1=some r→(R k1).p [(0,vl EB p1),(1,.one (.fn 305 [.pv (.rp [[.s (.string p2)]] 0 0)])),(7,vi p1.length),(8,vi x1)] []:=uI (fW rfl) fun k1 i1 {x1} h=>b h (uU (cz.eq_2 ..) (uC (dS EB fun e1=>(aV (HC _ _) fun r1=>(uC jX (uJ i1)))) (uR (.exit 0) (xM (uJ J1)))));uE (L1 aH))))
def E6(p1:ByteArray):Option (iY×Bool):=am (HM) fun r1=>am (gI r1 p1) fun r2=>ak (decide (r2<0)) (some ((iY.mk ByteArray.empty 0 0 (lr.mk 0 0 0 0) (lr.mk 0 0 0 0)),false)) (am (at? r1 r2) fun e1=>some (e1,true))
theorem MS(p1:ByteArray):CT prog 283 [vs p1] (E6 p1) (fun r=> .tp [.ag [qm r.1.name,ci r.1.offset,ci r.1.summer,ci r.1.start.month,ci r.1.start.week,ci r.1.start.weekday,ci r.1.start.minute,ci r.1.stop.month,ci r.1.stop.week,ci r.1.stop.weekday,ci r.1.stop.minute],vb r.2]):=
  cI 17 [2] f283 fun r=>(aV IA fun r1=>(aV (lW _ _) fun r2=>(uC uz (dS EB fun e1=>uz))))
def rA(x1 x2:Int):Option (Int×Int):=some (x1,x2)
def pg(p1 p2:Int):Option (Int×Int):=iN (p2≠0)<|iN (p2≠0)<|ak (decide ((p1.tmod p2)<0)) (rA (i64.wrap ((i64.wrap (p1.tdiv p2))-1)) (i64.wrap ((p1.tmod p2)+p2))) (rA (i64.wrap (p1.tdiv p2)) (p1.tmod p2))
theorem xd(p1 p2:Int):CT prog 286 [vi p1,vi p2] (pg p1 p2) (fun r=> .tp [vi r.1,vi r.2]):=
  cI 23 [] f286 fun r=>(nt 7 (uG (uG (cu f286 14 1 fun K k=>have J1:∀{x1 x2},rA x1 x2=some r→K.p [(6,vi x1),(7,vi x2)] []:=fun{x1 x2} h=>k h uz;(uC (uJ J1) (uJ J1))))))
def w6(y10 x1 x2:Int):Option (Int×Int×Int):=some (x1,x2,y10)
def Cz(p1:Int):Option (Int×Int×Int):=am (pg (i64.wrap (p1+719468)) 146097) fun r1=>am (some (i64.wrap (r1.2-(i64.wrap (r1.2.tdiv 1460))))) fun y1=>am (some (i64.wrap (y1+(i64.wrap (r1.2.tdiv 36524))))) fun y2=>am (some (i64.wrap (y2-(i64.wrap (r1.2.tdiv 146096))))) fun y3=>am (some (i64.wrap ((i64.wrap (y3.tdiv 365))*365))) fun y4=>am (some (i64.wrap ((i64.wrap (y3.tdiv 365)).tdiv 4))) fun y5=>am (some (i64.wrap ((i64.wrap (y3.tdiv 365)).tdiv 100))) fun y6=>am (some (i64.wrap (r1.2-(i64.wrap ((i64.wrap (y4+y5))-y6))))) fun y7=>am (some (i64.wrap ((i64.wrap ((i64.wrap (5*y7))+2)).tdiv 153))) fun y8=>am (some (i64.wrap ((i64.wrap (153*y8))+2))) fun y9=>am (some (i64.wrap ((i64.wrap (y7-(i64.wrap (y9.tdiv 5))))+1))) fun y10=>am (some (i64.wrap ((i64.wrap (r1.1*400))+(i64.wrap (y3.tdiv 365))))) fun y11=>ak (decide (12<(i64.wrap (y8+3)))) (w6 y10 (i64.wrap (y11+1)) (i64.wrap ((i64.wrap (y8+3))-12))) (w6 y10 y11 (i64.wrap (y8+3)))
theorem MR(p1:Int):CT prog 306 [vi p1] (Cz p1) (fun r=> .tp [vi r.1,vi r.2.1,vi r.2.2]):=
  cI 61 [] f306 fun r=>(aV (xd _ _) fun r1=>(uY 17 vi fun y1=>(uY 20 vi fun y2=>(uY 23 vi fun y3=>(uY 27 vi fun y4=>(uY 29 vi fun y5=>(uY 32 vi fun y6=>(uY 34 vi fun y7=>(uY 38 vi fun y8=>(uY 42 vi fun y9=>(uY 45 vi fun y10=>(uY 49 vi fun y11=>(cu f306 510 1 fun K k=>have J1:∀{x1 x2},w6 y10 x1 x2=some r→K.p [(2,vi x1),(3,vi x2),(4,vi y10)] []:=fun{x1 x2} h=>k h uz;(uC (uJ J1) (uJ J1)))))))))))))))
def xQ(p1:Int):Option pM:=am (pg p1 86400) fun r1=>am (Cz r1.1) fun r2=>some (pM.mk r2.1 r2.2.1 r2.2.2 (i64.wrap (r1.2.tdiv 3600)) (i64.wrap ((r1.2.tmod 3600).tdiv 60)) (r1.2.tmod 60))
theorem EH(p1:Int):CT prog 284 [vi p1] (xQ p1) (fun r=> .ag [ci r.year,ci r.month,ci r.day,ci r.hour,ci r.minute,ci r.second]):=
  cI 30 [2] f284 fun r=>(aV (xd _ _) fun r1=>(aV (MR _) fun r2=>uz))
def sZ(p3 x1 x2:Int):OI:=am (pg x1 400) fun r1=>am (some (i64.wrap ((i64.wrap (r1.1*146097))+(i64.wrap (r1.2*365))))) fun y1=>am (some (i64.wrap ((i64.wrap (y1+(i64.wrap (r1.2.tdiv 4))))-(i64.wrap (r1.2.tdiv 100))))) fun y2=>am (some (i64.wrap (153*(i64.wrap (x2-3))))) fun y3=>am (some (i64.wrap ((i64.wrap (y3+2)).tdiv 5))) fun y4=>am (some (i64.wrap ((i64.wrap ((i64.wrap (y2+y4))+p3))-1))) fun y5=>some (i64.wrap (y5-719468))
def ud(p1 p2 p3:Int):OI:=ak (decide (p2≤2)) (sZ p3 (i64.wrap (p1-1)) (i64.wrap (p2+12))) (sZ p3 p1 p2)
theorem Cc(p1 p2 p3:Int):CT prog 260 [vi p1,vi p2,vi p3] (ud p1 p2 p3) vi:=
  cI 41 [] f260 fun r=>(cu f260 6 1 fun K k=>have J1:∀{x1 x2},sZ p3 x1 x2=some r→K.p [(0,vi x1),(1,vi x2),(2,vi p3)] []:=fun{x1 x2} h=>k h (aV (xd _ _) fun r1=>(uY 24 vi fun y1=>(uY 30 vi fun y2=>(uY 33 vi fun y3=>(uY 35 vi fun y4=>(uY 39 vi fun y5=>uz))))));(uC (uJ J1) (uJ J1)))
def Bq(p1:Int):OI:=am (pg (i64.wrap (p1+3)) 7) fun r1=>some (i64.wrap (r1.2+1))
theorem CG(p1:Int):CT prog 261 [vi p1] (Bq p1) vi:=
  cI 13 [] f261 fun r=>(aV (xd _ _) fun r1=>uz)
def te(x1:Bool):OB:=some x1
def Cy(p1:Int):OB:=ak ((p1.tmod 4)==0) (ak ((p1.tmod 100) != 0) (te true) (te ((p1.tmod 400)==0))) (te false)
theorem Md(p1:Int):CT prog 340 [vi p1] (Cy p1) vb:=
  cI 16 [] f340 fun r=>(cu f340 6 1 fun K k=>have J1:∀{x1},te x1=some r→K.p [(2,vb x1)] []:=fun{x1} h=>k h uz;(uC (uC (uJ J1) (uJ J1)) (uJ J1)))
def nC(x1:Bool):OI:=ak x1 (some 30) (some 31)
def yw(p1 p2:Int):OI:=ak (p2==2) (am (Cy p1) fun r1=>ak r1 (some 29) (some 28)) (ak (p2==4) (nC (p2==4)) (ak (p2==6) (nC (p2==6)) (ak (p2==9) (nC (p2==9)) (nC (p2==11)))))
theorem JX(p1 p2:Int):CT prog 319 [vi p1,vi p2] (yw p1 p2) vi:=
  cI 15 [] f319 fun r=>(uC (aV (Md _) fun r1=>(uC uz uz)) (cu f319 214 3 fun K k=>have J1:∀{x1},nC x1=some r→K.p [(10,vb x1)] []:=fun{x1} h=>k h (uC uz uz);(uC (uJ J1) (uC (uJ J1) (uC (uJ J1) (uJ J1))))))
def DB(p1:lr)(x2:Int):OI:=am (some (i64.wrap ((i64.wrap (x2*86400))+(i64.wrap (p1.minute*60))))) fun y4=>some y4
def Ay(p1:lr)(r1 r3:Int):Nat→Int→OI
 |0,_=>none
 |k1+1,x1=>am (some (decide ((i64.wrap (x1+7))<(i64.wrap (r1+r3))))) fun y3=>ak y3 ((Ay p1 r1 r3 k1) (i64.wrap (x1+7))) (DB p1 x1)
def Kg(p1:lr)(p2:Int):OI:=am (ud p2 p1.month 1) fun r1=>am (Bq r1) fun r2=>am (some ((i64.wrap ((i64.wrap (p1.weekday-r2))+7)).tmod 7)) fun y1=>ak (decide (p1.week<5)) (am (some (i64.wrap ((i64.wrap (p1.week-1))*7))) fun y2=>DB p1 (i64.wrap ((i64.wrap (r1+y1))+y2))) (am (yw p2 p1.month) fun r3=>Ay p1 r1 r3 aH (i64.wrap (r1+y1)))
theorem Jr(p1:lr)(p2:Int):CT prog 307 [.ag [ci p1.month,ci p1.week,ci p1.weekday,ci p1.minute],vi p2] (Kg p1 p2) vi:=
  cI 48 [] f307 fun r=>(aV (Cc _ _ _) fun r1=>(nt 8 (aV (CG _) fun r2=>(uY 19 vi fun y1=>(cu f307 30 1 fun K k=>have J1:∀{x2},DB p1 x2=some r→K.p [(2,vR [pi p1.month,pi p1.week,pi p1.weekday,pi p1.minute]),(6,vi x2)] []:=fun{x2} h=>k h (uY 47 vi fun y4=>uz);(uC (uY 28 vi fun y2=>(uJ J1)) (aV (JX _ _) fun r3=>(gc f307 494 1 fun R b=>have L1:∀k1 {x1},Ay p1 r1 r3 k1 x1=some r→(R k1).p [(2,vR [pi p1.month,pi p1.week,pi p1.weekday,pi p1.minute]),(6,vi x1),(7,vi (i64.wrap (r1+r3)))] []:=uI (fW rfl) fun k1 i1 {x1} h=>b h (uU (Ay.eq_2 ..) (uY 39 vb fun y3=>(uC (uJ i1) (uR (.exit 0) (xM (uJ J1))))));uE (L1 aH)))))))))
def vP(p1:iY)(x2:Bool):OI:=ak x2 (am (some (i64.wrap ((i64.wrap (p1.offset*60))+(i64.wrap (p1.summer*60))))) fun y5=>some y5) (some (i64.wrap (p1.offset*60)))
def zj(p1:iY)(p2 r2 y1:Int)(x1:Bool):OI:=am (some (decide (y1≤(i64.wrap (r2-(i64.wrap (p1.offset*60))))))) fun y3=>ak y3 (ak (decide (p2<y1)) (vP p1 true) (am (some (decide ((i64.wrap (r2-(i64.wrap (p1.offset*60))))≤p2))) fun y4=>vP p1 y4)) (vP p1 x1)
def DN(p1:iY)(p2:Int):OI:=ak ((i64.wrap (p1.summer*60))==0) (some (i64.wrap (p1.offset*60))) (am (xQ (i64.wrap (p2+(i64.wrap (p1.offset*60))))) fun r1=>am (Kg p1.start r1.year) fun r2=>am (Kg p1.stop r1.year) fun r3=>am (some (i64.wrap ((i64.wrap (r3-(i64.wrap (p1.offset*60))))-(i64.wrap (p1.summer*60))))) fun y1=>am (some (decide ((i64.wrap (r2-(i64.wrap (p1.offset*60))))≤p2))) fun y2=>ak y2 (zj p1 p2 r2 y1 (decide (p2<y1))) (zj p1 p2 r2 y1 false))
theorem KQ(p1:iY)(p2:Int):CT prog 285 [.ag [qm p1.name,ci p1.offset,ci p1.summer,ci p1.start.month,ci p1.start.week,ci p1.start.weekday,ci p1.start.minute,ci p1.stop.month,ci p1.stop.week,ci p1.stop.weekday,ci p1.stop.minute],vi p2] (DN p1 p2) vi:=
  cI 63 [] f285 fun r=>(nt 7 (uC uz (aV (EH _) fun r1=>(nt 15 (aV (Jr _ _) fun r2=>(aV (Jr _ _) fun r3=>(uY 38 vi fun y1=>(X1 41 (kS f285 [1,1,1,1,1,0] 1) fun K k=>have J1:∀{x1},zj p1 p2 r2 y1 x1=some r→K.p [(1,vi p2),(5,vi (i64.wrap (p1.offset*60))),(6,vi (i64.wrap (p1.summer*60))),(8,vi (i64.wrap (r2-(i64.wrap (p1.offset*60))))),(9,vi y1),(10,vb x1)] []:=fun{x1} h=>k h (X1 49 (kS f285 [1,1,1,1,1,1,0] 1) fun K k=>have J2:∀{x2},vP p1 x2=some r→K.p [(5,vi (i64.wrap (p1.offset*60))),(6,vi (i64.wrap (p1.summer*60))),(10,vb x2)] []:=fun{x2} h=>k h (uC (uY 61 vi fun y5=>uz) uz);(uY 49 vb fun y3=>(uC (uC (uJ J2) (uY 56 vb fun y4=>(uJ J2))) (uJ J2))));(uY 41 vb fun y2=>(uC (uJ J1) (uJ J1)))))))))))
def AI(p1:Int)(p2:ByteArray):Option (pM×Int):=am (E6 p2) fun r1=>ak (!r1.2) (some ((pM.mk 0 0 0 0 0 0),4)) (am (dZ p1 (-62135596800) 253402300799) fun r2=>ak (!r2) (some ((pM.mk 0 0 0 0 0 0),3)) (am (DN r1.1 p1) fun r3=>am (xQ (i64.wrap (p1+r3))) fun r4=>some (r4,0)))
theorem KR(p1:Int)(p2:ByteArray):CT prog 259 [vi p1,vs p2] (AI p1 p2) (fun r=> .tp [.ag [ci r.1.year,ci r.1.month,ci r.1.day,ci r.1.hour,ci r.1.minute,ci r.1.second],vi r.2]):=
  cI 26 [4,6] f259 fun r=>(aV (MS _) fun r1=>(uC uz (aV (gF _ _ _) fun r2=>(uC uz (aV (KQ _ _) fun r3=>(aV (EH _) fun r4=>uz))))))
def wU(p1 p2:Int)(p3:ByteArray):Option (Int×Int):=am (AI p1 p3) fun r1=>ak (r1.2 != 0) (some (0,r1.2)) (am (ud r1.1.year r1.1.month r1.1.day) fun r2=>ak (p2==1) (some (r1.1.year,0)) (ak (p2==2) (some (r1.1.month,0)) (ak (p2==3) (some (r1.1.day,0)) (ak (p2==4) (some (r1.1.hour,0)) (ak (p2==5) (some (r1.1.minute,0)) (ak (p2==6) (some (r1.1.second,0)) (ak (p2==7) (am (Bq r2) fun r3=>some (r3,0)) (ak (p2==8) (am (ud r1.1.year 1 1) fun r4=>some ((i64.wrap ((i64.wrap (r2-r4))+1)),0)) (some (0,3))))))))))
theorem Gv(p1 p2:Int)(p3:ByteArray):CT prog 225 [vi p1,vi p2,vs p3] (wU p1 p2 p3) (fun r=> .tp [vi r.1,vi r.2]):=
  cI 64 [8] f225 fun r=>(aV (KR _ _) fun r1=>(uC uz (aV (Cc _ _ _) fun r2=>(uC uz (uC uz (uC uz (uC uz (uC uz (uC uz (uC (aV (CG _) fun r3=>uz) (uC (aV (Cc _ _ _) fun r4=>uz) uz)))))))))))
def Dj(p1:ac):OB:=am (kX p1) fun r1=>some (!r1)
theorem Lc(p1:ac):CT prog 287 [mV p1] (Dj p1) vb:=
  cI 6 [] f287 fun r=>(aV (od _) fun r1=>uz)
def gb:OI:=some (-1)
def aJ(p1:List ac):Nat→Int→OI
 |0,_=>none
 |k1+1,x1=>ak (decide (x1<(p1.length:Int))) (am (at? p1 x1) fun e1=>am (Dj e1) fun r1=>ak r1 (some x1) ((aJ p1 k1) (i64.wrap (x1+1)))) (gb)
def dQ(p1:List ac):OI:=aJ p1 aH 0
theorem lU(p1:List ac):CT prog 215 [vl ah p1,.one (.pv (.fn 287 []))] (dQ p1) vi:=
  cI 19 [] f215 fun r=>(kT f215 6 1 gb [] [] uz fun K J1=>(uN ah p1 (gc f215 26 1 fun R b=>have L1:∀k1 {x1},aJ p1 k1 x1=some r→(R k1).p [(0,vl ah p1),(1,.one (.pv (.fn 287 []))),(7,vi p1.length),(8,vi x1)] []:=uI (fW rfl) fun k1 i1 {x1} h=>b h (uU (aJ.eq_2 ..) (uC (dS ah fun e1=>(aV (Lc _) fun r1=>(uC jX (uJ i1)))) (uR (.exit 0) (xM (uJ J1)))));uE (L1 aH))))
def cx(p1:List ac):OB:=am (dQ p1) fun r1=>some (decide (0≤r1))
theorem kW(p1:List ac):CT prog 173 [vl ah p1,.one (.pv (.fn 287 []))] (cx p1) vb:=
  cI 9 [] f173 fun r=>(aV (lU _) fun r1=>uz)
def sd(p1:Int)(p2:List Int):Option (Unit×(List Int)):=am (some (IntKind.u8.wrap (p1.fdiv (2^(min (56:Int).toNat (IntKind.u64).bits))))) fun y1=>iN (p2.length+1≤4294967296)<|am (some (IntKind.u8.wrap (p1.fdiv (2^(min (48:Int).toNat (IntKind.u64).bits))))) fun y2=>iN ((p2++[y1]).length+1≤4294967296)<|am (some (IntKind.u8.wrap (p1.fdiv (2^(min (40:Int).toNat (IntKind.u64).bits))))) fun y3=>iN (((p2++[y1])++[y2]).length+1≤4294967296)<|am (some (IntKind.u8.wrap (p1.fdiv (2^(min (32:Int).toNat (IntKind.u64).bits))))) fun y4=>iN ((((p2++[y1])++[y2])++[y3]).length+1≤4294967296)<|am (some (IntKind.u8.wrap (p1.fdiv (2^(min (24:Int).toNat (IntKind.u64).bits))))) fun y5=>iN (((((p2++[y1])++[y2])++[y3])++[y4]).length+1≤4294967296)<|am (some (IntKind.u8.wrap (p1.fdiv (2^(min (16:Int).toNat (IntKind.u64).bits))))) fun y6=>iN ((((((p2++[y1])++[y2])++[y3])++[y4])++[y5]).length+1≤4294967296)<|am (some (IntKind.u8.wrap (p1.fdiv (2^(min (8:Int).toNat (IntKind.u64).bits))))) fun y7=>iN (((((((p2++[y1])++[y2])++[y3])++[y4])++[y5])++[y6]).length+1≤4294967296)<|am (some (IntKind.u8.wrap (p1.fdiv (2^(min (0:Int).toNat (IntKind.u64).bits))))) fun y8=>iN ((((((((p2++[y1])++[y2])++[y3])++[y4])++[y5])++[y6])++[y7]).length+1≤4294967296)<|some ((),((((((((p2++[y1])++[y2])++[y3])++[y4])++[y5])++[y6])++[y7])++[y8]))
theorem zn(p1:Int)(p2:List Int):CX prog 308 [.one (.sl 0 1 0 p2.length),vk .u64 p1] [.arr 1 ((eK .u8).els p2)] [0] (sd p1 p2) (fun r=> .one (.sl 0 1 0 r.2.length)) (fun r=>[.arr 1 ((eK .u8).els r.2)]):=
  SY 1 1 18 [] f308 fun r=>(Ro 8 (uY 14 (vk .u8) fun y1=>(BY (eK .u8) 0 [y1] (uY 14 (vk .u8) fun y2=>(BY (eK .u8) 0 [y2] (uY 14 (vk .u8) fun y3=>(BY (eK .u8) 0 [y3] (uY 14 (vk .u8) fun y4=>(BY (eK .u8) 0 [y4] (uY 14 (vk .u8) fun y5=>(BY (eK .u8) 0 [y5] (uY 14 (vk .u8) fun y6=>(BY (eK .u8) 0 [y6] (uY 14 (vk .u8) fun y7=>(BY (eK .u8) 0 [y7] (uY 14 (vk .u8) fun y8=>(BY (eK .u8) 0 [y8] (uR .ret ut))))))))))))))))))
def pm(p1:bw)(p2:List Int):Option (Unit×(List Int)):=am (nG 1) fun r1=>am (dx (bw.mk r1.neg (r1.size.1,r1.size.2.1,r1.size.2.2.1,r1.size.2.2.2)) 9223372036854775808) fun r2=>am (dx (bw.mk r2.neg (r2.size.1,r2.size.2.1,r2.size.2.2.1,r2.size.2.2.2)) 9223372036854775808) fun r3=>am (dx (bw.mk r3.neg (r3.size.1,r3.size.2.1,r3.size.2.2.1,r3.size.2.2.2)) 2) fun r4=>am (fh aH (bw.mk r4.neg (r4.size.1,r4.size.2.1,r4.size.2.2.1,r4.size.2.2.2)) (bw.mk p1.neg (p1.size.1,p1.size.2.1,p1.size.2.2.1,p1.size.2.2.2))) fun r5=>am (sd r5.size.2.1 p2) fun r6=>am (sd r5.size.1 r6.2) fun r7=>some ((),r7.2)
theorem Dg(p1:bw)(p2:List Int):CX prog 309 [mW p1,.one (.sl 0 1 0 p2.length)] [.arr 1 ((eK .u8).els p2)] [0] (pm p1 p2) (fun r=> .one (.sl 0 1 0 r.2.length)) (fun r=>[.arr 1 ((eK .u8).els r.2)]):=
  SY 1 1 24 [5] f309 fun r=>(KJ 7 1 [1,2] (aV (AW _) fun r1=>(aV (po _ _) fun r2=>(aV (po _ _) fun r3=>(aV (po _ _) fun r4=>(aV (AN aH _ _) fun r5=>(Ro 2 (Yv true [0] (zn _ _) fun r6 _=>(Yv true [0] (zn _ _) fun r7 _=>(uR .ret ut))))))))))
def zc(l2:List Int):Option (Unit×(List Int)):=iN (l2.length+1≤4294967296)<|some ((),(l2++[0]))
def mO(q_value_key_s:ac→(List Int)→Option (Unit×(List Int)))(p1:ac):Nat→List Int→Int→Option (Unit×(List Int))
 |0,_,_=>none
 |k1+1,l1,x2=>ak (decide (x2<(p1.items.length:Int))) (am (at? p1.items x2) fun e1=>iN (l1.length+1≤4294967296)<|am (q_value_key_s e1 (l1++[1])) fun r4=>(mO q_value_key_s p1 k1) r4.2 (i64.wrap (x2+1))) (zc l1)
def m8(q_value_key_s:ac→(List Int)→Option (Unit×(List Int)))(p1:ac)(p2:List Int)(x1:Bool):Option (Unit×(List Int)):=ak x1 (am (some (IntKind.u64.wrap ((IntKind.u64.wrap p1.n)+9223372036854775808))) fun y1=>am (sd y1 (p2++[(IntKind.u8.wrap p1.kind)])) fun r1=>some ((),r1.2)) (ak (p1.kind==3) (am (lZ p1.n (i64.wrap (12-p1.scale))) fun r2=>am (pm (bw.mk r2.neg (r2.size.1,r2.size.2.1,r2.size.2.2.1,r2.size.2.2.2)) (p2++[(IntKind.u8.wrap p1.kind)])) fun r3=>iN (r3.2.length+1≤4294967296)<|some ((),(r3.2++[(IntKind.u8.wrap p1.scale)]))) (ak (p1.kind==4) (iN ((p2++[(IntKind.u8.wrap p1.kind)]).length+(oj p1.s).length≤4294967296)<|iN (((p2++[(IntKind.u8.wrap p1.kind)])++(oj p1.s)).length+1≤4294967296)<|some ((),(((p2++[(IntKind.u8.wrap p1.kind)])++(oj p1.s))++[0]))) (mO q_value_key_s p1 aH (p2++[(IntKind.u8.wrap p1.kind)]) 0)))
def iA:Nat→ac→(List Int)→Option (Unit×(List Int))
 |0,_,_=>none
 |k0+1,p1,p2=>ak (p1.kind==0) (iN (p2.length+1≤4294967296)<|some ((),(p2++[8]))) (iN (p2.length+1≤4294967296)<|ak (p1.kind==1) (iN ((p2++[(IntKind.u8.wrap p1.kind)]).length+1≤4294967296)<|some ((),((p2++[(IntKind.u8.wrap p1.kind)])++[(IntKind.u8.wrap p1.n)]))) (ak (p1.kind==2) (m8 (iA k0) p1 p2 (p1.kind==2)) (m8 (iA k0) p1 p2 (p1.kind==5))))
theorem ED:∀(k0:Nat) (p1:ac) (p2:List Int),CX prog 288 [.one (.sl 0 1 0 p2.length),mV p1] [.arr 1 ((eK .u8).els p2)] [0] (iA k0 p1 p2) (fun r=> .one (.sl 0 1 0 r.2.length)) (fun r=>[.arr 1 ((eK .u8).els r.2)])
  |0,_,_=>uX0 (iA.eq_1 ..)
  |k0+1,p1,p2=>SY 1 1 77 [6] f288 fun r=>(uU (iA.eq_2 ..) (uC (BY (eK .u8) 0 [(8:Int)] (uR .ret ut)) (BY (eK .u8) 0 [(IntKind.u8.wrap p1.kind)] (uC (BY (eK .u8) 0 [(IntKind.u8.wrap p1.n)] (uR .ret ut)) (cu f288 982 3 fun K k=>have J1:∀{x1},m8 (iA k0) p1 p2 x1=some r→K.p [(0,.one (.sl 0 1 0 ((p2++[(IntKind.u8.wrap p1.kind)]).length))),(3,vR [pi p1.kind,pi p1.n,pi p1.scale,.s (.string p1.s),.ro (ah.els p1.items)]),(20,vi p1.kind),(29,vb x1)] [.arr 1 ((eK .u8).els (p2++[(IntKind.u8.wrap p1.kind)]))]:=fun{x1} h=>k h (uC (uY 36 (vk .u64) fun y1=>(Yv true [0] (zn _ _) fun r1 _=>(uR .ret ut))) (uC (KJ 12 0 [0,1] (aV (vH _ _) fun r2=>(aeY [0] (Dg _ _) fun r3 _=>(BY (eK .u8) 0 [(IntKind.u8.wrap p1.scale)] (uR .ret ut))))) (uC (uAs 0 p1.s (BY (eK .u8) 0 [(0:Int)] (uR .ret ut))) (cu f288 62 1 fun K k=>have J2:∀{l2},zc l2=some r→K.p [(0,.one (.sl 0 1 0 l2.length))] [.arr 1 ((eK .u8).els l2)]:=fun{l2} h=>k h (BY (eK .u8) 0 [(0:Int)] (uR .ret ut));(uN ah p1.items (gc f288 250 1 fun R b=>have L1:∀k1 {l1 x2},mO (iA k0) p1 k1 l1 x2=some r→(R k1).p [(0,.one (.sl 0 1 0 l1.length)),(62,vl ah p1.items),(63,vi p1.items.length),(64,vi x2)] [.arr 1 ((eK .u8).els l1)]:=uI (fW rfl) fun k1 i1 {l1 x2} h=>b h (uU (mO.eq_2 ..) (uC (dS ah fun e1=>(KJ 4 0 [0,2] (BY (eK .u8) 0 [(1:Int)] (Yv true [0] (ED k0 _ _) fun r4 _=>(uJ i1))))) (uR (.exit 1) (xM (uJ J2)))));uE (L1 aH)))))));(uC (uJ J1) (uJ J1)))))))
def qx(p1:List Int):Option (List Int):=iN (0≤(0:Int)∧(0:Int)≤(p1.length:Int)∧(p1.length:Int)≤(p1.length:Int)∧(p1.length:Int)≤(p1.length:Int))<|some ((p1.drop (0:Int).toNat).take ((p1.length:Int).toNat-(0:Int).toNat))
theorem BT(p1:List Int):CT prog 289 [vl (eK .u8) p1] (qx p1) (fun r=>vl (eK .u8) r):=
  cI 9 [] f289 fun r=>(uN (eK .u8) p1 (uN (eK .u8) p1 (uXm (eK .u8) uz)))
def B8(l2:List Int):Option (List Int):=am (qx l2) fun r3=>some r3
def pn(p1:List ac):Nat→List Int→Int→Option (List Int)
 |0,_,_=>none
 |k1+1,l1,x1=>ak (decide (x1<(p1.length:Int))) (am (at? p1 x1) fun e1=>am (iA aH e1 l1) fun r2=>(pn p1 k1) r2.2 (i64.wrap (x1+1))) (B8 l1)
def Eb(p1:List ac):Option (List Int):=am (cx p1) fun r1=>ak r1 (some []) (pn p1 aH [] 0)
theorem O1(p1:List ac):CT prog 263 [vl ah p1] (Eb p1) (fun r=>vl (eK .u8) r):=
  cI 20 [5] f263 fun r=>(aV (kW _) fun r1=>(uC uz (cu f263 30 1 fun K k=>have J1:∀{l2},B8 l2=some r→K.p [(3,.one (.sl 0 1 0 l2.length))] [.arr 1 ((eK .u8).els l2)]:=fun{l2} h=>k h (LY (eK .u8) l2 0 [18] (aV (BT _) fun r3=>uz));(uN ah p1 (Jw (.li 3 1) (gc f263 122 1 fun R b=>have L1:∀k1 {l1 x1},pn p1 k1 l1 x1=some r→(R k1).p [(3,.one (.sl 0 1 0 l1.length)),(8,vl ah p1),(9,vi p1.length),(10,vi x1)] [.arr 1 ((eK .u8).els l1)]:=uI (fW rfl) fun k1 i1 {l1 x1} h=>b h (uU (pn.eq_2 ..) (uC (dS ah fun e1=>(Yv true [0] (ED aH _ _) fun r2 _=>(uJ i1))) (uR (.exit 0) (xM (uJ J1)))));uE (L1 aH)))))))
def zO(x3:Int):OI:=some x3
def jh(p1:List Int):Nat→Int→Int→OI
 |0,_,_=>none
 |k1+1,x1,x2=>ak (decide (x2<(p1.length:Int))) (am (at? p1 x2) fun e1=>am (some (IntKind.u64.wrap (BitVec.ofInt (IntKind.u64).bits x1 ^^^ BitVec.ofInt (IntKind.u64).bits (IntKind.u64.wrap e1)).toNat)) fun y1=>(jh p1 k1) (IntKind.u64.wrap (y1*1099511628211)) (i64.wrap (x2+1))) (zO x1)
def xW(p1:List Int):OI:=jh p1 aH 14695981039346656037 0
theorem FV(p1:List Int):CT prog 262 [vl (eK .u8) p1] (xW p1) (vk .u64):=
  cI 19 [] f262 fun r=>(cu f262 14 1 fun K k=>have J1:∀{x3},zO x3=some r→K.p [(3,vk .u64 x3)] []:=fun{x3} h=>k h uz;(uN (eK .u8) p1 (gc f262 58 1 fun R b=>have L1:∀k1 {x1 x2},jh p1 k1 x1 x2=some r→(R k1).p [(3,vk .u64 x1),(6,vl (eK .u8) p1),(7,vi p1.length),(8,vi x2)] []:=uI (fW rfl) fun k1 i1 {x1 x2} h=>b h (uU (jh.eq_2 ..) (uC (dS (eK .u8) fun e1=>(uY 15 (vk .u64) fun y1=>(uJ i1))) (uR (.exit 0) (xM (uJ J1)))));uE (L1 aH))))
def zF(p1:ac):OI:=am (Eb [p1]) fun r1=>am (xW r1) fun r2=>some r2
theorem Nc(p1:ac):CT prog 227 [mV p1] (zF p1) (vk .u64):=
  cI 7 [] f227 fun r=>(uW 4 ah [p1] (aV (O1 _) fun r1=>(aV (FV _) fun r2=>uz)))
def iV(p1:Int):Option ac:=some (ac.mk 2 p1 0 ByteArray.empty [])
theorem rM(p1:Int):CT prog 226 [vi p1] (iV p1) (fun r=>mV r):=
  cI 5 [2] f226 fun r=>uz
def vJ(x1:Int):OI:=some x1
def pd(p1 p2:Int):OI:=iN (p2≠0)<|iN (p2≠0)<|ak (decide ((p1.tmod p2)<0)) (vJ (i64.wrap ((i64.wrap (p1.tdiv p2))-1))) (vJ (i64.wrap (p1.tdiv p2)))
theorem A3(p1 p2:Int):CT prog 229 [vi p1,vi p2] (pd p1 p2) vi:=
  cI 16 [] f229 fun r=>(uG (cu f229 14 1 fun K k=>have J1:∀{x1},vJ x1=some r→K.p [(5,vi x1)] []:=fun{x1} h=>k h uz;(uG (uC (uJ J1) (uJ J1)))))
def gY(p1:ac)(p2:Int):Option ac:=ak (p1.kind==4) (iN (p1.s.size≤4294967296)<|am (some (if((ig p1.s).length:Int)<p2 then((ig p1.s).length:Int)else p2)) fun y1=>iN (0≤(0:Int)∧(0:Int)≤y1∧y1≤((ig p1.s).length:Int))<|some (ac.mk p1.kind p1.n p1.scale (runesBytes (((ig p1.s).drop (0:Int).toNat).take (y1.toNat-(0:Int).toNat))) p1.items)) (am (pd p1.n p2) fun r1=>am (some (if(-999999999999999999:Int)>(i64.wrap (r1*p2))then(-999999999999999999:Int)else(i64.wrap (r1*p2)))) fun y2=>some (ac.mk p1.kind y2 p1.scale p1.s p1.items))
theorem FG(p1:ac)(p2:Int):CT prog 228 [mV p1,vi p2] (gY p1 p2) (fun r=>mV r):=
  cI 30 [2,4] f228 fun r=>(uC (uBs (uN (eK .i32) (ig p1.s) (uY 16 vi fun y1=>(uX (eK .i32) (uBr (((ig p1.s).drop (0:Int).toNat).take (y1.toNat-(0:Int).toNat)) uz))))) (aV (A3 _ _) fun r1=>(uY 27 vi fun y2=>uz)))
def mU(p1:aT)(p2:ac)(x2 x3:Int):Option ac:=ak (p1.kind==1) (some p2) (ak (p1.kind==2) (am (zF p2) fun r5=>iN ((IntKind.u64.wrap p1.param)≠0)<|am (iV (i64.wrap (r5.tmod (IntKind.u64.wrap p1.param)))) fun r6=>some r6) (ak (p1.kind==3) (am (gY p2 p1.param) fun r7=>some r7) (ak (p1.kind==4) (am (iV (i64.wrap (x2-1970))) fun r8=>some r8) (ak (p1.kind==5) (am (some (i64.wrap (12*(i64.wrap (x2-1970))))) fun y1=>am (iV (i64.wrap ((i64.wrap (y1+x3))-1))) fun r9=>some r9) (ak (p1.kind==6) (am (pd p2.n 86400) fun r10=>am (iV r10) fun r11=>some r11) (ak (p1.kind==7) (am (pd p2.n 3600) fun r12=>am (iV r12) fun r13=>some r13) (some (ac.mk 0 0 0 ByteArray.empty []))))))))
def jc(p1:aT)(p2:ac)(x1:Bool):Option ac:=ak x1 (some (ac.mk 0 0 0 ByteArray.empty [])) (ak (p2.kind==5) (am (wU p2.n 1 (ByteArray.mk #[117,116,99])) fun r3=>am (wU p2.n 2 (ByteArray.mk #[117,116,99])) fun r4=>mU p1 p2 r3.1 r4.1) (mU p1 p2 0 0))
def bY(p1:aT)(p2:ac):Option ac:=am (cM p1 (al.mk p2.kind p2.scale [])) fun r1=>ak (r1.2 != 0) (jc p1 p2 true) (am (kX p2) fun r2=>jc p1 p2 (!r2))
theorem uZ(p1:aT)(p2:ac):CT prog 186 [.ag [ci p1.kind,ci p1.param],mV p2] (bY p1 p2) (fun r=>mV r):=
  cI 90 [4,5] f186 fun r=>(aV (qw _ _) fun r1=>(cu f186 28 2 fun K k=>have J1:∀{x1},jc p1 p2 x1=some r→K.p [(2,vR [pi p1.kind,pi p1.param]),(3,vR [pi p2.kind,pi p2.n,pi p2.scale,.s (.string p2.s),.ro (ah.els p2.items)]),(4,vQ 0),(25,vb x1)] [.box u6,.dead]:=fun{x1} h=>k h (uC uz (cu f186 62 1 fun K k=>have J2:∀{x2 x3},mU p1 p2 x2 x3=some r→K.p [(2,vR [pi p1.kind,pi p1.param]),(3,vR [pi p2.kind,pi p2.n,pi p2.scale,.s (.string p2.s),.ro (ah.els p2.items)]),(4,vQ 0),(7,vi x2),(8,vi x3)] [.box u6,.dead]:=fun{x2 x3} h=>k h (uC uz (uC (nt 5 (aV (Nc _) fun r5=>(uG (aV (rM _) fun r6=>uz)))) (uC (aV (FG _ _) fun r7=>uz) (uC (aV (rM _) fun r8=>uz) (uC (uY 72 vi fun y1=>(aV (rM _) fun r9=>uz)) (uC (aV (A3 _ _) fun r10=>(aV (rM _) fun r11=>uz)) (uC (aV (A3 _ _) fun r12=>(aV (rM _) fun r13=>uz)) uz)))))));(uC (aV (Gv _ _ _) fun r3=>(aV (Gv _ _ _) fun r4=>(uJ J2))) (uJ J2))));(uC (uJ J1) (aV (od _) fun r2=>(uJ J1)))))
def nz(x1:Bool):OB:=some x1
def pY(x2:Bool):OB:=some x2
def pA(p1:aT)(p2:ac)(p3:bA):OB:=ak (p1.kind==0) (some false) (ak (p2.kind==0) (some true) (ak (p1.kind==2) (ak (p3.low.kind != 0) (am (dz aH p3.low p3.high) fun r1=>ak (r1==0) (am (bY p1 p3.low) fun r2=>am (dz aH p2 r2) fun r3=>nz (r3 != 0)) (nz false)) (nz false)) (am (bY p1 p3.low) fun r4=>am (xt p2 r4) fun r5=>ak r5 (pY true) (am (bY p1 p3.high) fun r6=>am (xp p2 r6) fun r7=>pY r7))))
theorem KH(p1:aT)(p2:ac)(p3:bA):CT prog 134 [.ag [ci p1.kind,ci p1.param],mV p2,.ag [ci p3.id,ci p3.low.kind,ci p3.low.n,ci p3.low.scale,qm p3.low.s,cl ah p3.low.items,ci p3.high.kind,ci p3.high.n,ci p3.high.scale,qm p3.high.s,cl ah p3.high.items]] (pA p1 p2 p3) vb:=
  cI 54 [] f134 fun r=>(uC uz (uC uz (uC (cu f134 1660 3 fun K k=>have J1:∀{x1},nz x1=some r→K.p [(6,vb x1)] []:=fun{x1} h=>k h uz;(nt 18 (uC (aV (lJ aH _ _) fun r1=>(uC (aV (uZ _ _) fun r2=>(aV (lJ aH _ _) fun r3=>(uJ J1))) (uJ J1))) (uJ J1)))) (cu f134 14 1 fun K k=>have J2:∀{x2},pY x2=some r→K.p [(6,vb x2)] []:=fun{x2} h=>k h uz;(nt 12 (aV (uZ _ _) fun r4=>(aV (EG _ _) fun r5=>(uC (uJ J2) (aV (uZ _ _) fun r6=>(aV (EN _ _) fun r7=>(uJ J2)))))))))))
def qC(rec1:Int→OB)(x4:Int)(x5:Bool):OB:=ak x5 (some false) (rec1 (i64.wrap (x4+1)))
def u9:OB:=some true
def eR(p3:aj)(p4:bA)(e4:cg):Nat→Int→OB
 |0,_=>none
 |k1+1,x4=>ak (decide (x4<(e4.fields.length:Int))) (am (at? e4.fields x4) fun e5=>ak (e5.source==p4.id) (am (at? p3.part x4) fun e6=>am (pA e5.transform e6 p4) fun r9=>qC (eR p3 p4 e4 k1) x4 r9) (qC (eR p3 p4 e4 k1) x4 false)) (u9)
def qJ(p1:ax)(p3:aj)(p4:bA)(x3:Bool):OB:=ak x3 (am (at? p1.specs p3.spec) fun e4=>eR p3 p4 e4 aH 0) (u9)
def n5(p1:ax)(p3:aj)(p4:bA)(r2 r3:(al×Bool)):OB:=ak (r2.1.kind==r3.1.kind) (qJ p1 p3 p4 (r2.1.scale==r3.1.scale)) (qJ p1 p3 p4 false)
def qG(p1:ax)(p3:aj)(p4:bA)(r2 r3:(al×Bool))(x2:Bool):OB:=ak x2 (some false) (n5 p1 p3 p4 r2 r3)
def qN(p1:ax)(p2:List ae)(p3:aj)(p4:bA)(e1:List ae)(r1:Int)(x1:Bool):OB:=ak x1 (some false) (am (mg e1 p4.id) fun r2=>am (mg p2 p4.id) fun r3=>am (kN r2.1 r3.1) fun r4=>ak r4 (am (at? p3.stats r1) fun e3=>am (iP e3.max r3.1) fun r5=>am (xt r5 p4.low) fun r6=>ak r6 (qG p1 p3 p4 r2 r3 true) (am (iP e3.min r3.1) fun r7=>am (xp r7 p4.high) fun r8=>qG p1 p3 p4 r2 r3 r8)) (n5 p1 p3 p4 r2 r3))
def o7(p1:ax)(p2:List ae)(p3:aj)(p4:bA):OB:=am (at? p1.schemas p3.schema) fun e1=>am (dq p3.stats p4.id p4.low.kind p4.low.n p4.low.scale p4.low.s p4.low.items p4.high.kind p4.high.n p4.high.scale p4.high.s p4.high.items) fun r1=>ak (decide (r1<0)) (qN p1 p2 p3 p4 e1 r1 true) (am (at? p3.stats r1) fun e2=>qN p1 p2 p3 p4 e1 r1 (e2.nulls==p3.rows))
abbrev Hp(p4:bA):List PV:=[pi p4.id,pi p4.low.kind,pi p4.low.n,pi p4.low.scale,.s (.string p4.low.s),.ro (ah.els p4.low.items),pi p4.high.kind,pi p4.high.n,pi p4.high.scale,.s (.string p4.high.s),.ro (ah.els p4.high.items)]
theorem HA(p1:ax)(p2:List ae)(p3:aj)(p4:bA):CT prog 68 [mM p1,vl af p2,mF p3,.ag [ci p4.id,ci p4.low.kind,ci p4.low.n,ci p4.low.scale,qm p4.low.s,cl ah p4.low.items,ci p4.high.kind,ci p4.high.n,ci p4.high.scale,qm p4.high.s,cl ah p4.high.items]] (o7 p1 p2 p3 p4) vb:=
  cI 121 [11,13,15,17] f68 fun r=>(dS (eL af) fun e1=>(aV (kA _ _ _ _ _ _ _ _ _ _ _ _) fun r1=>(cu f68 60 2 fun K k=>have J1:∀{x1},qN p1 p2 p3 p4 e1 r1 x1=some r→K.p [(1,vl af p2),(4,vR (bH p1)),(6,vR (gv p3)),(7,vR (Hp p4)),(9,vl af e1),(10,vi r1),(40,vb x1)] []:=fun{x1} h=>k h (uC uz (aV (pP _ _) fun r2=>(aV (pP _ _) fun r3=>(kT f68 254 1 (n5 p1 p3 p4 r2 r3) [(4,vR (bH p1)),(6,vR (gv p3)),(7,vR (Hp p4)),(11,vQ 0),(13,vQ 1)] [.box [ci r2.1.kind,ci r2.1.scale,cl af r2.1.fields],.box [ci r3.1.kind,ci r3.1.scale,cl af r3.1.fields]] (kT f68 510 1 u9 [] [.dead,.dead] uz fun K J6=>(cu f68 1020 1 fun K k=>have J4:∀{x3},qJ p1 p3 p4 x3=some r→K.p [(4,vR (bH p1)),(6,vR (gv p3)),(7,vR (Hp p4)),(90,vb x3)] [.dead,.dead]:=fun{x3} h=>k h (uC (dS fU fun e4=>(uN aC e4.fields (gc f68 8170 1 fun R b=>have L1:∀k1 {x4},eR p3 p4 e4 k1 x4=some r→(R k1).p [(6,vR (gv p3)),(7,vR (Hp p4)),(97,vl aC e4.fields),(98,vi e4.fields.length),(99,vi x4)] [.dead,.dead]:=uI (fW rfl) fun k1 i1 {x4} h=>b h (uU (eR.eq_2 ..) (uC (dS aC fun e5=>(cu f68 1045810 3 fun K k=>have J5:∀{x5},qC (eR p3 p4 e4 k1) x4 x5=some r→K.p [(6,vR (gv p3)),(7,vR (Hp p4)),(97,vl aC e4.fields),(98,vi e4.fields.length),(99,vi x4),(119,vb x5)] [.dead,.dead,.dead]:=fun{x5} h=>k h (uC jX (uJ i1));(nt 14 (uC (dS ah fun e6=>(aV (KH _ _ _) fun r9=>(uJ J5))) (uJ J5))))) (uR (.exit 0) (xM (uJ J6)))));uE (L1 aH)))) (uJ J6));(uC (uJ J4) (uJ J4)))) fun K J3=>(aV (CN _ _) fun r4=>(uC (dS cA fun e3=>(cu f68 4074 1 fun K k=>have J2:∀{x2},qG p1 p3 p4 r2 r3 x2=some r→K.p [(4,vR (bH p1)),(6,vR (gv p3)),(7,vR (Hp p4)),(11,vQ 0),(13,vQ 1),(78,vb x2)] [.box [ci r2.1.kind,ci r2.1.scale,cl af r2.1.fields],.box [ci r3.1.kind,ci r3.1.scale,cl af r3.1.fields],.dead]:=fun{x2} h=>k h (uC (uR .ret (xN xF)) (uJ J3));(nt 14 (aV (CI _ _) fun r5=>(aV (EG _ _) fun r6=>(uC (uJ J2) (aV (CI _ _) fun r7=>(aV (EN _ _) fun r8=>(uJ J2))))))))) (uJ J3)))))));(nt 11 (uC (uJ J1) (dS cA fun e2=>(uJ J1)))))))
def AT(p1:bA)(p2:List (List ae))(p3:List cg)(p4 p5 p6 p7:Int)(p8:List aw)(p9:List lq)(cw:List ow)(p11:List ae)(p12:ByteArray)(p13 p14:Int)(p15:List ac)(p16 p17:Int)(p18:List bB):OB:=am (o7 (ax.mk p2 p3 p4 p5 p6 p7 p8 p9 cw) p11 (aj.mk p12 p13 p14 p15 p16 p17 p18) p1) fun r1=>some (!r1)
theorem IT(p1:bA)(p2:List (List ae))(p3:List cg)(p4 p5 p6 p7:Int)(p8:List aw)(p9:List lq)(cw:List ow)(p11:List ae)(p12:ByteArray)(p13 p14:Int)(p15:List ac)(p16 p17:Int)(p18:List bB):CT prog 67 [.ag [ci p1.id,ci p1.low.kind,ci p1.low.n,ci p1.low.scale,qm p1.low.s,cl ah p1.low.items,ci p1.high.kind,ci p1.high.n,ci p1.high.scale,qm p1.high.s,cl ah p1.high.items],vR [.ro ((eL af).els p2),.ro (fU.els p3),pi p4,pi p5,pi p6,pi p7,.ro (aU.els p8),.ro (oS.els p9),.ro (lE.els cw)],vR [.ro (af.els p11)],vR [.s (.string p12),pi p13,pi p14,.ro (ah.els p15),pi p16,pi p17,.ro (cA.els p18)]] (AT p1 p2 p3 p4 p5 p6 p7 p8 p9 cw p11 p12 p13 p14 p15 p16 p17 p18) vb:=
  cI 12 [] f67 fun r=>(aV (HA _ _ _ _) fun r1=>uz)
def fZ:OI:=some (-1)
def bf(p1:List bA)(p2:List (List ae))(p3:List cg)(p4 p5 p6 p7:Int)(p8:List aw)(p9:List lq)(cw:List ow)(p11:List ae)(p12:ByteArray)(p13 p14:Int)(p15:List ac)(p16 p17:Int)(p18:List bB):Nat→Int→OI
 |0,_=>none
 |k1+1,x1=>ak (decide (x1<(p1.length:Int))) (am (at? p1 x1) fun e1=>am (AT e1 p2 p3 p4 p5 p6 p7 p8 p9 cw p11 p12 p13 p14 p15 p16 p17 p18) fun r1=>ak r1 (some x1) ((bf p1 p2 p3 p4 p5 p6 p7 p8 p9 cw p11 p12 p13 p14 p15 p16 p17 p18 k1) (i64.wrap (x1+1)))) (fZ)
def dR(p1:List bA)(p2:List (List ae))(p3:List cg)(p4 p5 p6 p7:Int)(p8:List aw)(p9:List lq)(cw:List ow)(p11:List ae)(p12:ByteArray)(p13 p14:Int)(p15:List ac)(p16 p17:Int)(p18:List bB):OI:=bf p1 p2 p3 p4 p5 p6 p7 p8 p9 cw p11 p12 p13 p14 p15 p16 p17 p18 aH 0
theorem lP(p1:List bA)(p2:List (List ae))(p3:List cg)(p4 p5 p6 p7:Int)(p8:List aw)(p9:List lq)(cw:List ow)(p11:List ae)(p12:ByteArray)(p13 p14:Int)(p15:List ac)(p16 p17:Int)(p18:List bB):CT prog 127 [vl ju p1,.one (.fn 67 [.pv (.rp [[.ro ((eL af).els p2),.ro (fU.els p3),pi p4,pi p5,pi p6,pi p7,.ro (aU.els p8),.ro (oS.els p9),.ro (lE.els cw)]] 0 0),.pv (.rp [[.ro (af.els p11)]] 0 0),.pv (.rp [[.s (.string p12),pi p13,pi p14,.ro (ah.els p15),pi p16,pi p17,.ro (cA.els p18)]] 0 0)])] (dR p1 p2 p3 p4 p5 p6 p7 p8 p9 cw p11 p12 p13 p14 p15 p16 p17 p18) vi:=
  cI 19 [] f127 fun r=>(kT f127 6 1 fZ [] [] uz fun K J1=>(uN ju p1 (gc f127 26 1 fun R b=>have L1:∀k1 {x1},bf p1 p2 p3 p4 p5 p6 p7 p8 p9 cw p11 p12 p13 p14 p15 p16 p17 p18 k1 x1=some r→(R k1).p [(0,vl ju p1),(1,.one (.fn 67 [.pv (.rp [[.ro ((eL af).els p2),.ro (fU.els p3),pi p4,pi p5,pi p6,pi p7,.ro (aU.els p8),.ro (oS.els p9),.ro (lE.els cw)]] 0 0),.pv (.rp [[.ro (af.els p11)]] 0 0),.pv (.rp [[.s (.string p12),pi p13,pi p14,.ro (ah.els p15),pi p16,pi p17,.ro (cA.els p18)]] 0 0)])),(7,vi p1.length),(8,vi x1)] []:=uI (fW rfl) fun k1 i1 {x1} h=>b h (uU (bf.eq_2 ..) (uC (dS ju fun e1=>(aV (IT _ _ _ _ _ _ _ _ _ _ _ _ _ _ _ _ _ _) fun r1=>(uC jX (uJ i1)))) (uR (.exit 0) (xM (uJ J1)))));uE (L1 aH))))
def dF(p1:List bA)(p2:List (List ae))(p3:List cg)(p4 p5 p6 p7:Int)(p8:List aw)(p9:List lq)(cw:List ow)(p11:List ae)(p12:ByteArray)(p13 p14:Int)(p15:List ac)(p16 p17:Int)(p18:List bB):OB:=am (dR p1 p2 p3 p4 p5 p6 p7 p8 p9 cw p11 p12 p13 p14 p15 p16 p17 p18) fun r1=>some (decide (0≤r1))
theorem kU(p1:List bA)(p2:List (List ae))(p3:List cg)(p4 p5 p6 p7:Int)(p8:List aw)(p9:List lq)(cw:List ow)(p11:List ae)(p12:ByteArray)(p13 p14:Int)(p15:List ac)(p16 p17:Int)(p18:List bB):CT prog 66 [vl ju p1,.one (.fn 67 [.pv (.rp [[.ro ((eL af).els p2),.ro (fU.els p3),pi p4,pi p5,pi p6,pi p7,.ro (aU.els p8),.ro (oS.els p9),.ro (lE.els cw)]] 0 0),.pv (.rp [[.ro (af.els p11)]] 0 0),.pv (.rp [[.s (.string p12),pi p13,pi p14,.ro (ah.els p15),pi p16,pi p17,.ro (cA.els p18)]] 0 0)])] (dF p1 p2 p3 p4 p5 p6 p7 p8 p9 cw p11 p12 p13 p14 p15 p16 p17 p18) vb:=
  cI 9 [] f66 fun r=>(aV (lP _ _ _ _ _ _ _ _ _ _ _ _ _ _ _ _ _ _) fun r1=>uz)
def Ec(p1:ax)(p2:List ae)(p3:aj)(p4:List bA):OB:=am (dF p4 p1.schemas p1.specs p1.nextField p1.nextSeq p1.nextSnap p1.purges p1.snapshots p1.refs p1.props p2 p3.name p3.schema p3.spec p3.part p3.rows p3.seq p3.stats) fun r1=>some (!r1)
theorem NJ(p1:ax)(p2:List ae)(p3:aj)(p4:List bA):CT prog 21 [mM p1,vl af p2,mF p3,vl ju p4] (Ec p1 p2 p3 p4) vb:=
  cI 13 [] f21 fun r=>(aV (kU _ _ _ _ _ _ _ _ _ _ _ _ _ _ _ _ _ _) fun r1=>uz)
def Bx(p1:ax)(p2:Int)(p3:aj)(p4:List bA):Option (Bool×Int):=am (nV p1) fun r1=>ak (r1 != 0) (some (false,r1)) (am (dM p2 0 (i64.wrap ((p1.schemas.length:Int)-1))) fun r2=>ak (!r2) (some (false,3)) (am (zx p1 p3) fun r3=>ak (r3 != 0) (some (false,r3)) (am (at? p1.schemas p2) fun e1=>am (tT e1 p4) fun r4=>ak (r4 != 0) (some (false,r4)) (am (Ec p1 e1 p3 p4) fun r5=>some (r5,0)))))
theorem N6(p1:ax)(p2:Int)(p3:aj)(p4:List bA):CT prog 5 [mM p1,vi p2,mF p3,vl ju p4] (Bx p1 p2 p3 p4) (fun r=> .tp [vb r.1,vi r.2]):=
  cI 50 [] f5 fun r=>(aV (KU _) fun r1=>(uC uz (uN (eL af) p1.schemas (aV (dI _ _ _) fun r2=>(uC uz (aV (GF _ _) fun r3=>(uC uz (uL (eL af) fun e1 a21=>(aV (FZ _ _) fun r4=>(uC uz (nt 8 (uM (eL af) a21 (aV (NJ _ _ _ _) fun r5=>uz)))))))))))))
def w5(rec1:Int→Int→OB)(x2 x3:Int)(e1:aw)(x4:Bool):OB:=ak x4 (some true) (am (some (i64.wrap (x2+(i64.wrap ((e1.files.length:Int)+(e1.dby.length:Int)))))) fun y1=>rec1 y1 (i64.wrap (x3+1)))
def Ey(x5:Int):OB:=some (decide (4000<x5))
def kJ(p1:ax):Nat→Int→Int→OB
 |0,_,_=>none
 |k1+1,x2,x3=>ak (decide (x3<(p1.snapshots.length:Int))) (am (at? p1.snapshots x3) fun e1=>ak (decide (400<(e1.files.length:Int))) (w5 (kJ p1 k1) x2 x3 e1 true) (w5 (kJ p1 k1) x2 x3 e1 (decide (400<(e1.dby.length:Int))))) (Ey x2)
def mr(p1:ax)(x1:Bool):OB:=ak x1 (some true) (kJ p1 aH 0 0)
def Cx(p1:ax):OB:=ak (decide (40<(p1.schemas.length:Int))) (mr p1 true) (ak (decide (40<(p1.specs.length:Int))) (mr p1 true) (ak (decide (200<(p1.snapshots.length:Int))) (mr p1 true) (ak (decide (40<(p1.refs.length:Int))) (mr p1 true) (mr p1 (decide (40<(p1.props.length:Int)))))))
theorem Mw(p1:ax):CT prog 35 [mM p1] (Cx p1) vb:=
  cI 63 [5] f35 fun r=>(cu f35 12 2 fun K k=>have J1:∀{x1},mr p1 x1=some r→K.p [(1,vR [.ro ((eL af).els p1.schemas),.ro (fU.els p1.specs),pi p1.nextField,pi p1.nextSeq,pi p1.nextSnap,pi p1.purges,.ro (aU.els p1.snapshots),.ro (oS.els p1.refs),.ro (lE.els p1.props)]),(33,vb x1)] []:=fun{x1} h=>k h (uC uz (cu f35 30 1 fun K k=>have J3:∀{x5},Ey x5=some r→K.p [(3,vi x5)] []:=fun{x5} h=>k h uz;(uN aU p1.snapshots (gc f35 122 1 fun R b=>have L1:∀k1 {x2 x3},kJ p1 k1 x2 x3=some r→(R k1).p [(3,vi x2),(35,vl aU p1.snapshots),(36,vi p1.snapshots.length),(37,vi x3)] []:=uI (fW rfl) fun k1 i1 {x2 x3} h=>b h (uU (kJ.eq_2 ..) (uC (dS aU fun e1=>(cu f35 31332 4 fun K k=>have J2:∀{x4},w5 (kJ p1 k1) x2 x3 e1 x4=some r→K.p [(3,vi x2),(5,vQ 0),(35,vl aU p1.snapshots),(36,vi p1.snapshots.length),(37,vi x3),(50,vb x4)] [.box [ci e1.id,ci e1.parent,ci e1.seq,ci e1.schema,ci e1.time,ci e1.kind,cl be e1.files,cl fL e1.dat,cl eH e1.dby]]:=fun{x4} h=>k h (uC jX (uN be e1.files (uN eH e1.dby (uY 59 vi fun y1=>(uJ i1)))));(uN be e1.files (uC (uJ J2) (uN eH e1.dby (uJ J2)))))) (uR (.exit 0) (xM (uJ J3)))));uE (L1 aH)))));(uN (eL af) p1.schemas (uC (uJ J1) (uN fU p1.specs (uC (uJ J1) (uN aU p1.snapshots (uC (uJ J1) (uN oS p1.refs (uC (uJ J1) (uN lE p1.props (uJ J1)))))))))))
def uS(x1:Bool):OB:=some x1
def eg(p1 p2 p3:Int):OB:=ak (decide (p2≤p1)) (uS (decide (p1≤p3))) (uS false)
theorem dP(p1 p2 p3:Int):CT prog 22 [vi p1,vi p2,vi p3] (eg p1 p2 p3) vb:=
  cI 15 [] f22 fun r=>(cu f22 6 1 fun K k=>have J1:∀{x1},uS x1=some r→K.p [(6,vb x1)] []:=fun{x1} h=>k h uz;(uC (uJ J1) (uJ J1)))
def vq(x1:Bool):OB:=some x1
def gz(p1:Int):OB:=ak (p1 != 6) (vq (p1 != 7)) (vq false)
theorem iI(p1:Int):CT prog 45 [vi p1] (gz p1) vb:=
  cI 9 [] f45 fun r=>(cu f45 6 1 fun K k=>have J1:∀{x1},vq x1=some r→K.p [(2,vb x1)] []:=fun{x1} h=>k h uz;(uC (uJ J1) (uJ J1)))
def qX(x1:Bool):OB:=some x1
def gi(p1 p2 p3:Int):OB:=ak (decide (p2≤p1)) (qX (decide (p1≤p3))) (qX false)
theorem jC(p1 p2 p3:Int):CT prog 146 [vi p1,vi p2,vi p3] (gi p1 p2 p3) vb:=
  cI 15 [] f146 fun r=>(cu f146 6 1 fun K k=>have J1:∀{x1},qX x1=some r→K.p [(6,vb x1)] []:=fun{x1} h=>k h uz;(uC (uJ J1) (uJ J1)))
def vD(rec1:Int→OB)(x2:Int)(x5:Bool):OB:=ak x5 (some false) (rec1 (i64.wrap (x2+1)))
def vS(rec1:Int→OB)(x2:Int)(x3 x4:Bool):OB:=ak (!x3) (ak (x2==0) (vD rec1 x2 true) (vD rec1 x2 (!x4))) (vD rec1 x2 false)
def yC(rec1:Int→OB)(p1:ByteArray)(x2:Int)(x3:Bool):OB:=iN (0≤x2∧x2<(p1.size:Int))<|ak (((p1.data.toList.getD x2.toNat 0).toNat:Int)==95) (vS rec1 x2 x3 true) (iN (0≤x2∧x2<(p1.size:Int))<|am (some (decide (48≤((p1.data.toList.getD x2.toNat 0).toNat:Int)))) fun y3=>ak y3 (iN (0≤x2∧x2<(p1.size:Int))<|am (some (decide (((p1.data.toList.getD x2.toNat 0).toNat:Int)≤57))) fun y4=>vS rec1 x2 x3 y4) (vS rec1 x2 x3 false))
def Gq:OB:=some true
def fQ(p1:ByteArray):Nat→Int→OB
 |0,_=>none
 |k1+1,x2=>ak (decide (x2<(p1.size:Int))) (iN (0≤x2∧x2<(p1.size:Int))<|am (some (decide (97≤((p1.data.toList.getD x2.toNat 0).toNat:Int)))) fun y1=>ak y1 (iN (0≤x2∧x2<(p1.size:Int))<|am (some (decide (((p1.data.toList.getD x2.toNat 0).toNat:Int)≤122))) fun y2=>yC (fQ p1 k1) p1 x2 y2) (yC (fQ p1 k1) p1 x2 false)) (Gq)
def yH(p1:ByteArray)(x1:Bool):OB:=ak x1 (some false) (fQ p1 aH 0)
def yR(p1:ByteArray):OB:=ak (decide ((p1.size:Int)<1)) (yH p1 true) (yH p1 (decide (24<(p1.size:Int))))
theorem Dk(p1:ByteArray):CT prog 42 [vs p1] (yR p1) vb:=
  cI 56 [] f42 fun r=>(cu f42 12 2 fun K k=>have J1:∀{x1},yH p1 x1=some r→K.p [(0,vs p1),(13,vb x1)] []:=fun{x1} h=>k h (uC uz (kT f42 14 1 Gq [] [] uz fun K J5=>(gc f42 58 1 fun R b=>have L1:∀k1 {x2},fQ p1 k1 x2=some r→(R k1).p [(0,vs p1),(3,vi x2)] []:=uI (fW rfl) fun k1 i1 {x2} h=>b h (uU (fQ.eq_2 ..) (uC (cu f42 1864 3 fun K k=>have J2:∀{x3},yC (fQ p1 k1) p1 x2 x3=some r→K.p [(0,vs p1),(3,vi x2),(4,vb x3)] []:=fun{x3} h=>k h (cu f42 3730 3 fun K k=>have J3:∀{x4},vS (fQ p1 k1) x2 x3 x4=some r→K.p [(0,vs p1),(3,vi x2),(4,vb x3),(5,vb x4)] []:=fun{x4} h=>k h (cu f42 7462 3 fun K k=>have J4:∀{x5},vD (fQ p1 k1) x2 x5=some r→K.p [(0,vs p1),(3,vi x2),(55,vb x5)] []:=fun{x5} h=>k h (uC jX (uJ i1));(uC (uC (uJ J4) (uJ J4)) (uJ J4)));(uG (uC (uJ J3) (uG (uY 38 vb fun y3=>(uC (uG (uY 43 vb fun y4=>(uJ J3))) (uJ J3)))))));(uG (uY 23 vb fun y1=>(uC (uG (uY 28 vb fun y2=>(uJ J2))) (uJ J2))))) (uR (.exit 0) (xM (uJ J5)))));uE (L1 aH))));(uC (uJ J1) (uJ J1)))
def Bd(rec2:Int→OI)(x5:Int):OI:=rec2 (i64.wrap (x5+1))
def iM(rec2:Int→OI)(p1:al)(x5:Int):Nat→Int→OI
 |0,_=>none
 |k3+1,x6=>ak (decide (x6<x5)) (am (at? p1.fields x6) fun e3=>am (at? p1.fields x5) fun e4=>ak (e3.name.toList==e4.name.toList) (some 5) ((iM rec2 p1 x5 k3) (i64.wrap (x6+1)))) (Bd rec2 x5)
def EM:OI:=some 0
def gV(p1:al):Nat→Int→OI
 |0,_=>none
 |k2+1,x5=>ak (decide (x5<(p1.fields.length:Int))) (iM (gV p1 k2) p1 x5 aH 0) (EM)
def AZ(p1:al):OI:=gV p1 aH 0
def jF(p1:al):Nat→Int→OI
 |0,_=>none
 |k1+1,x4=>ak (decide (x4<(p1.fields.length:Int))) (am (at? p1.fields x4) fun e2=>am (yR e2.name) fun r5=>ak (!r5) (some 4) ((jF p1 k1) (i64.wrap (x4+1)))) (AZ p1)
def mi(p1:al)(x3:Bool):OI:=ak x3 (some 1) (ak (p1.kind != 7) (some 0) (jF p1 aH 0))
def tA(p1:al)(x2:Bool):OI:=ak x2 (some 1) (ak (p1.kind==7) (ak ((p1.fields.length:Int)==0) (mi p1 true) (am (gz p1.kind) fun r3=>ak r3 (mi p1 (decide (0<(p1.fields.length:Int)))) (mi p1 false))) (am (gz p1.kind) fun r4=>ak r4 (mi p1 (decide (0<(p1.fields.length:Int)))) (mi p1 false)))
def mq(p1:al)(x1:Bool):OI:=ak x1 (some 1) (ak (p1.kind==6) (ak ((p1.fields.length:Int) != 1) (tA p1 true) (am (at? p1.fields 0) fun e1=>tA p1 (!(e1.name.toList==(ByteArray.mk #[]).toList)))) (tA p1 false))
def Ct(p1:al):OI:=am (gi p1.kind 1 7) fun r1=>ak (!r1) (some 3) (ak (p1.kind==3) (am (gi p1.scale 0 12) fun r2=>ak (!r2) (mq p1 true) (ak (p1.kind != 3) (mq p1 (p1.scale != 0)) (mq p1 false))) (ak (p1.kind != 3) (mq p1 (p1.scale != 0)) (mq p1 false)))
theorem MU(p1:al):CT prog 190 [mT p1] (Ct p1) vi:=
  cI 109 [] f190 fun r=>(aV (jC _ _ _) fun r1=>(uC uz (cu f190 28 2 fun K k=>have J1:∀{x1},mq p1 x1=some r→K.p [(1,vR (eh p1)),(28,vb x1)] []:=fun{x1} h=>k h (uC uz (cu f190 60 2 fun K k=>have J2:∀{x2},tA p1 x2=some r→K.p [(1,vR (eh p1)),(45,vb x2)] []:=fun{x2} h=>k h (uC uz (cu f190 124 2 fun K k=>have J3:∀{x3},mi p1 x3=some r→K.p [(1,vR (eh p1)),(65,vb x3)] []:=fun{x3} h=>k h (uC uz (uC uz (kT f190 254 1 (AZ p1) [(1,vR (eh p1))] [] (kT f190 510 1 EM [] [] uz fun K J6=>(uN af p1.fields (gc f190 2042 1 fun R b=>have L2:∀k2 {x5},gV p1 k2 x5=some r→(R k2).p [(1,vR (eh p1)),(86,vi p1.fields.length),(87,vi x5)] []:=uI (fW rfl) fun k2 i2 {x5} h=>b h (uU (gV.eq_2 ..) (uC (kT f190 32678 1 (Bd (gV p1 k2) x5) [(1,vR (eh p1)),(86,vi p1.fields.length),(87,vi x5)] [] (uJ i2) fun K J5=>(gc f190 522854 2 fun R b=>have L3:∀k3 {x6},iM (gV p1 k2) p1 x5 k3 x6=some r→(R k3).p [(1,vR (eh p1)),(4,vi x5),(5,vi x6),(86,vi p1.fields.length),(87,vi x5)] []:=uI (fW rfl) fun k3 i3 {x6} h=>b h (uU (iM.eq_2 ..) (uC (nt 12 (dS af fun e3=>(dS af fun e4=>(uC (uR .ret (xN (xN (xN (xN xF))))) (uJ i3))))) (uR (.exit 4) (xM (uJ J5)))));uE (L3 aH))) (uR (.exit 2) (xM (uJ J6)))));uE (L2 aH)))) fun K J4=>(uN af p1.fields (gc f190 1018 1 fun R b=>have L1:∀k1 {x4},jF p1 k1 x4=some r→(R k1).p [(1,vR (eh p1)),(71,vi p1.fields.length),(72,vi x4)] []:=uI (fW rfl) fun k1 i1 {x4} h=>b h (uU (jF.eq_2 ..) (uC (dS af fun e2=>(aV (Dk _) fun r5=>(uC jX (uJ i1)))) (uR (.exit 0) (xM (uJ J4)))));uE (L1 aH))))));(uC (uN af p1.fields (uC (uJ J3) (aV (iI _) fun r3=>(uC (uN af p1.fields (uJ J3)) (uJ J3))))) (aV (iI _) fun r4=>(uC (uN af p1.fields (uJ J3)) (uJ J3))))));(uC (uN af p1.fields (uC (uJ J2) (dS af fun e1=>(uJ J2)))) (uJ J2))));(uC (aV (jC _ _ _) fun r2=>(uC (uJ J1) (uC (uJ J1) (uJ J1)))) (uC (uJ J1) (uJ J1))))))
def AL(z3:Int):Option (Int×Int):=some (0,z3)
def jL(q_ref1_checkType:al→Int→Int→Option (Int×Int))(p1:al)(p2:Int):Nat→Int→Int→Option (Int×Int)
 |0,_,_=>none
 |k1+1,z2,x1=>ak (decide (x1<(p1.fields.length:Int))) (am (at? p1.fields x1) fun e1=>am (q_ref1_checkType e1.type (i64.wrap (p2+1)) z2) fun r3=>ak (r3.1 != 0) (some (r3.1,r3.2)) ((jL q_ref1_checkType p1 p2 k1) r3.2 (i64.wrap (x1+1)))) (AL z2)
def ly(q_ref1_checkType:al→Int→Int→Option (Int×Int))(p1:al)(p2 z1:Int):Option (Int×Int):=am (Ct p1) fun r2=>ak (r2 != 0) (some (r2,z1)) (jL q_ref1_checkType p1 p2 aH z1 0)
def fp:Nat→al→Int→Int→Option (Int×Int)
 |0,_,_,_=>none
 |k0+1,p1,p2,p3=>ak (decide (4<p2)) (some (7,p3)) (am (gz p1.kind) fun r1=>ak r1 (ak (p3==40) (some (7,p3)) (ly (fp k0) p1 p2 (i64.wrap (p3+1)))) (ly (fp k0) p1 p2 p3))
theorem BR:∀(k0:Nat) (p1:al) (p2 p3:Int),CM prog 143 [mT p1,vi p2,vQ 0] [.box [ci p3]] (fp k0 p1 p2 p3) (fun r=>vi r.1) (fun r=>[.box [ci r.2]])
  |0,_,_,_=>Zq (fp.eq_1 ..)
  |k0+1,p1,p2,p3=>wP 1 49 [] f143 fun r=>(uU (fp.eq_2 ..) (uC (uR .ret ut) (cu f143 14 1 fun K k=>have J1:∀{z1},ly (fp k0) p1 p2 z1=some r→K.p [(1,vi p2),(2,vQ 0),(3,vR [pi p1.kind,pi p1.scale,.ro (af.els p1.fields)])] [.box [ci z1]]:=fun{z1} h=>k h (aV (MU _) fun r2=>(uC (uR .ret ut) (cu f143 62 1 fun K k=>have J2:∀{z3},AL z3=some r→K.p [] [.box [ci z3]]:=fun{z3} h=>k h (uR .ret ut);(uN af p1.fields (gc f143 250 1 fun R b=>have L1:∀k1 {z2 x1},jL (fp k0) p1 p2 k1 z2 x1=some r→(R k1).p [(1,vi p2),(2,vQ 0),(3,vR [pi p1.kind,pi p1.scale,.ro (af.els p1.fields)]),(31,vi p1.fields.length),(32,vi x1)] [.box [ci z2]]:=uI (fW rfl) fun k1 i1 {z2 x1} h=>b h (uU (jL.eq_2 ..) (uC (dS af fun e1=>(EJ true [0] (BR k0 _ _ _) fun r3 _=>(uC (uR .ret (xN (xN ut))) (uJ i1)))) (uR (.exit 0) (xM (uJ J2)))));uE (L1 aH))))));(aV (iI _) fun r1=>(uC (uC (uR .ret (xN ut)) (uJ J1)) (uJ J1))))))
def lc(p1:al):OI:=am (fp aH p1 1 0) fun r1=>some r1.1
theorem oK(p1:al):CT prog 87 [mT p1] (lc p1) vi:=
  cI 6 [3] f87 fun r=>(EJ true [0] (BR aH _ _ _) fun r1 _=>uz)
def Ds(l2:List Int):Option (List Int):=some l2
def rK(q_ref1_Ids:(List ae)→Option (List Int))(p1:List ae):Nat→List Int→Int→Option (List Int)
 |0,_,_=>none
 |k1+1,l1,x1=>ak (decide (x1<(p1.length:Int))) (am (at? p1 x1) fun e1=>iN (l1.length+1≤4294967296)<|am (q_ref1_Ids e1.type.fields) fun r1=>iN ((l1++[e1.id]).length+r1.length≤4294967296)<|(rK q_ref1_Ids p1 k1) ((l1++[e1.id])++r1) (i64.wrap (x1+1))) (Ds l1)
def rx:Nat→(List ae)→Option (List Int)
 |0,_=>none
 |k0+1,p1=>rK (rx k0) p1 aH [] 0
theorem Fm:∀(k0:Nat) (p1:List ae),CT prog 37 [vl af p1] (rx k0 p1) (vl eI)
  |0,_=>Jd (rx.eq_1 ..)
  |k0+1,p1=>cI 29 [] f37 fun r=>(uU (rx.eq_2 ..) (cu f37 14 1 fun K k=>have J1:∀{l2},Ds l2=some r→K.p [(3,.one (.sl 0 1 0 l2.length))] [.arr 1 (eI.els l2)]:=fun{l2} h=>k h (LY eI l2 0 [2] uz);(uN af p1 (Jw (.li 3 1) (gc f37 58 1 fun R b=>have L1:∀k1 {l1 x1},rK (rx k0) p1 k1 l1 x1=some r→(R k1).p [(0,vl af p1),(3,.one (.sl 0 1 0 l1.length)),(6,vi p1.length),(7,vi x1)] [.arr 1 (eI.els l1)]:=uI (fW rfl) fun k1 i1 {l1 x1} h=>b h (uU (rK.eq_2 ..) (uC (uL af fun e1 a11=>(BY eI 0 [e1.id] (uM af a11 (aV (Fm k0 _) fun r1=>(BY eI 0 r1 (uJ i1)))))) (uR (.exit 0) (xM (uJ J1)))));uE (L1 aH))))))
def sQ(rec1:Int→OI)(x1:Int):OI:=rec1 (i64.wrap (x1+1))
def dH(rec1:Int→OI)(r2:List Int)(x1 e1:Int):Nat→Int→OI
 |0,_=>none
 |k2+1,x2=>ak (decide (x2<x1)) (am (at? r2 x2) fun e2=>ak (e2==e1) (some 5) ((dH rec1 r2 x1 e1 k2) (i64.wrap (x2+1)))) (sQ rec1 x1)
def yk:OI:=some 0
def fb(r2:List Int):Nat→Int→OI
 |0,_=>none
 |k1+1,x1=>ak (decide (x1<(r2.length:Int))) (am (at? r2 x1) fun e1=>ak (decide (e1<1)) (some 3) (dH (fb r2 k1) r2 x1 e1 aH 0)) (yk)
def ic(p1:List ae):OI:=am (lc (al.mk 7 0 p1)) fun r1=>ak (r1 != 0) (some r1) (am (rx aH p1) fun r2=>fb r2 aH 0)
theorem ni(p1:List ae):CT prog 36 [vl af p1] (ic p1) vi:=
  cI 40 [] f36 fun r=>(aV (oK _) fun r1=>(uC uz (aV (Fm aH _) fun r2=>(kT f36 30 1 yk [] [] uz fun K J2=>(uN eI r2 (gc f36 122 1 fun R b=>have L1:∀k1 {x1},fb r2 k1 x1=some r→(R k1).p [(4,vl eI r2),(16,vi r2.length),(17,vi x1)] []:=uI (fW rfl) fun k1 i1 {x1} h=>b h (uU (fb.eq_2 ..) (uC (kT f36 1958 1 (sQ (fb r2 k1) x1) [(4,vl eI r2),(16,vi r2.length),(17,vi x1)] [] (uJ i1) fun K J1=>(uL eI fun e1 a19=>(uC (uR .ret (xN (xN (xN xF)))) (gc f36 62670 2 fun R b=>have L2:∀k2 {x2},dH (fb r2 k1) r2 x1 e1 k2 x2=some r→(R k2).p [(4,vl eI r2),(5,vi x1),(6,vi x2),(16,vi r2.length),(17,vi x1)] []:=uI (fW rfl) fun k2 i2 {x2} h=>b h (uU (dH.eq_2 ..) (uC (nt 8 (dS eI fun e2=>(uM eI a19 (uC (uR .ret (xN (xN (xN (xN xF))))) (uJ i2))))) (uR (.exit 2) (xM (uJ J1)))));uE (L2 aH))))) (uR (.exit 0) (xM (uJ J2)))));uE (L1 aH)))))))
def sS(p1:List ae):OI:=am (ic p1) fun r1=>ak (r1 != 0) (some r1) (some 0)
theorem CW(p1:List ae):CT prog 44 [vl af p1,.one (.pv (.s (.slice none 0 0)))] (sS p1) vi:=
  cI 30 [] f44 fun r=>(aV (ni _) fun r1=>(uC uz (uF (Ro 0 (uF uz)))))
def GP:OI:=some (-1)
def kO(p1:List ae)(p2:Int):Nat→Int→OI
 |0,_=>none
 |k1+1,x1=>ak (decide (x1<(p1.length:Int))) (am (at? p1 x1) fun e1=>ak (e1.id==p2) (some x1) ((kO p1 p2 k1) (i64.wrap (x1+1)))) (GP)
def kD(p1:List ae)(p2:Int):OI:=kO p1 p2 aH 0
theorem IE(p1:List ae)(p2:Int):CT prog 99 [vl af p1,vi p2] (kD p1 p2) vi:=
  cI 20 [] f99 fun r=>(kT f99 6 1 GP [] [] uz fun K J1=>(uN af p1 (gc f99 26 1 fun R b=>have L1:∀k1 {x1},kO p1 p2 k1 x1=some r→(R k1).p [(0,vl af p1),(1,vi p2),(7,vi p1.length),(8,vi x1)] []:=uI (fW rfl) fun k1 i1 {x1} h=>b h (uU (kO.eq_2 ..) (uC (dS af fun e1=>(uC jX (uJ i1))) (uR (.exit 0) (xM (uJ J1)))));uE (L1 aH))))
def mK(x4:Bool):OB:=some x4
def v7(p1 p2:al)(x3:Bool):OB:=ak (p1.kind==1) (ak (p2.kind==2) (mK true) (ak x3 (mK true) (mK false))) (ak x3 (mK (p1.kind==2)) (mK false))
def vv(p1 p2:al)(x2:Bool):OB:=ak x2 (some true) (ak (p2.kind==3) (v7 p1 p2 (p2.scale==0)) (v7 p1 p2 false))
def lp(p1 p2:al)(x1:Bool):OB:=ak x1 (some false) (ak (p1.kind==p2.kind) (vv p1 p2 (p1.scale==p2.scale)) (vv p1 p2 false))
def rD(p1 p2:al):OB:=am (lc p1) fun r1=>ak (r1 != 0) (lp p1 p2 true) (am (lc p2) fun r2=>ak (r2 != 0) (lp p1 p2 true) (am (gz p1.kind) fun r3=>ak (!r3) (lp p1 p2 true) (am (gz p2.kind) fun r4=>lp p1 p2 (!r4))))
theorem Ex(p1 p2:al):CT prog 100 [mT p1,mT p2] (rD p1 p2) vb:=
  cI 67 [] f100 fun r=>(cu f100 12 2 fun K k=>have J1:∀{x1},lp p1 p2 x1=some r→K.p [(2,vR (eh p1)),(3,vR (eh p2)),(25,vb x1)] []:=fun{x1} h=>k h (uC uz (cu f100 28 2 fun K k=>have J2:∀{x2},vv p1 p2 x2=some r→K.p [(2,vR (eh p1)),(3,vR (eh p2)),(37,vb x2)] []:=fun{x2} h=>k h (uC uz (cu f100 30 1 fun K k=>have J3:∀{x3},v7 p1 p2 x3=some r→K.p [(2,vR (eh p1)),(3,vR (eh p2)),(5,vb x3)] []:=fun{x3} h=>k h (cu f100 62 1 fun K k=>have J4:∀{x4},mK x4=some r→K.p [(4,vb x4)] []:=fun{x4} h=>k h uz;(uC' (fun b21=>(uC (uJ J4) (uC (uH b21 (uJ J4)) (uJ J4)))) (fun b21=>(uC (uH b21 (uJ J4)) (uJ J4)))));(uC (uJ J3) (uJ J3))));(uC (uJ J2) (uJ J2))));(aV (oK _) fun r1=>(uC (uJ J1) (aV (oK _) fun r2=>(uC (uJ J1) (aV (iI _) fun r3=>(uC (uJ J1) (aV (iI _) fun r4=>(uJ J1)))))))))
def nR(rec1:Int→OI)(x1:Int):OI:=rec1 (i64.wrap (x1+1))
def gn(rec1:Int→OI)(q_ref2_adaptable:(List ae)→(List ae)→OI)(x1:Int)(e1 e2:ae)(x3:Bool):OI:=ak x3 (some 2) (am (q_ref2_adaptable e2.type.fields e1.type.fields) fun r7=>ak (r7 != 0) (some r7) (nR rec1 x1))
def nN(rec1:Int→OI)(q_ref2_adaptable:(List ae)→(List ae)→OI)(x1:Int)(e1 e2:ae)(x2:Bool):OI:=ak x2 (some 9) (am (gz e2.type.kind) fun r2=>ak (!r2) (ak (e2.type.kind != e1.type.kind) (gn rec1 q_ref2_adaptable x1 e1 e2 true) (am (gz e2.type.kind) fun r3=>ak r3 (am (rD e2.type e1.type) fun r4=>gn rec1 q_ref2_adaptable x1 e1 e2 (!r4)) (gn rec1 q_ref2_adaptable x1 e1 e2 false))) (am (gz e2.type.kind) fun r5=>ak r5 (am (rD e2.type e1.type) fun r6=>gn rec1 q_ref2_adaptable x1 e1 e2 (!r6)) (gn rec1 q_ref2_adaptable x1 e1 e2 false)))
def Ar:OI:=some 0
def cy(q_ref2_adaptable:(List ae)→(List ae)→OI)(p1 p2:List ae):Nat→Int→OI
 |0,_=>none
 |k1+1,x1=>ak (decide (x1<(p2.length:Int))) (am (at? p2 x1) fun e1=>am (kD p1 e1.id) fun r1=>ak (decide (r1<0)) (ak e1.need (some 9) (nR (cy q_ref2_adaptable p1 p2 k1) x1)) (am (at? p1 r1) fun e2=>ak e1.need (nN (cy q_ref2_adaptable p1 p2 k1) q_ref2_adaptable x1 e1 e2 (!e2.need)) (nN (cy q_ref2_adaptable p1 p2 k1) q_ref2_adaptable x1 e1 e2 false))) (Ar)
def cq:Nat→(List ae)→(List ae)→OI
 |0,_,_=>none
 |k0+1,p1,p2=>cy (cq k0) p1 p2 aH 0
theorem wB:∀(k0:Nat) (p1 p2:List ae),CT prog 49 [vl af p1,vl af p2] (cq k0 p1 p2) vi
  |0,_,_=>Jd (cq.eq_1 ..)
  |k0+1,p1,p2=>cI 74 [6,8] f49 fun r=>(uU (cq.eq_2 ..) (kT f49 6 1 Ar [] [] uz fun K J4=>(uN af p2 (gc f49 26 1 fun R b=>have L1:∀k1 {x1},cy (cq k0) p1 p2 k1 x1=some r→(R k1).p [(0,vl af p1),(10,vl af p2),(11,vi p2.length),(12,vi x1)] []:=uI (fW rfl) fun k1 i1 {x1} h=>b h (uU (cy.eq_2 ..) (uC (kT f49 422 1 (nR (cy (cq k0) p1 p2 k1) x1) [(0,vl af p1),(10,vl af p2),(11,vi p2.length),(12,vi x1)] [] (uJ i1) fun K J3=>(dS af fun e1=>(aV (IE _ _) fun r1=>(uC (uC (uR .ret (xN (xN (xN xF)))) (uJ J3)) (dS af fun e2=>(cu f49 54076 3 fun K k=>have J1:∀{x2},nN (cy (cq k0) p1 p2 k1) (cq k0) x1 e1 e2 x2=some r→K.p [(0,vl af p1),(6,vQ 0),(8,vQ 1),(10,vl af p2),(11,vi p2.length),(12,vi x1),(34,vb x2)] [.box (Bp e1),.box (Bp e2)]:=fun{x2} h=>k h (uC (uR .ret (xN (xN (xN xF)))) (cu f49 108156 3 fun K k=>have J2:∀{x3},gn (cy (cq k0) p1 p2 k1) (cq k0) x1 e1 e2 x3=some r→K.p [(0,vl af p1),(6,vQ 0),(8,vQ 1),(10,vl af p2),(11,vi p2.length),(12,vi x1),(62,vb x3)] [.box (Bp e1),.box (Bp e2)]:=fun{x3} h=>k h (uC (uR .ret (xN (xN (xN xF)))) (aV (wB k0 _ _) fun r7=>(uC (uR .ret (xN (xN (xN xF)))) (uJ J3))));(aV (iI _) fun r2=>(uC (uC (uJ J2) (aV (iI _) fun r3=>(uC (aV (Ex _ _) fun r4=>(uJ J2)) (uJ J2)))) (aV (iI _) fun r5=>(uC (aV (Ex _ _) fun r6=>(uJ J2)) (uJ J2)))))));(uC (uJ J1) (uJ J1)))))))) (uR (.exit 0) (xM (uJ J4)))));uE (L1 aH)))))
def tV(p1 p2:List ae):Option ((List (List ac))×Int):=am (sS p1) fun r1=>ak (r1 != 0) (some ([],r1)) (am (ic p2) fun r2=>ak (r2 != 0) (some ([],r2)) (am (cq aH p1 p2) fun r3=>ak (r3 != 0) (some ([],r3)) (some ([],0))))
theorem FT(p1 p2:List ae):CT prog 15 [vl af p1,vl af p2,.one (.pv (.s (.slice none 0 0)))] (tV p1 p2) (fun r=> .tp [vl (eL ah) r.1,vi r.2]):=
  cI 46 [] f15 fun r=>(uPn (CW _) fun r1 _=>(uC uz (aV (ni _) fun r2=>(uC uz (aV (wB aH _ _) fun r3=>(uC uz (Ro 0 (uF uz))))))))
def Im:Option (ae×Bool):=some ((mR.mk 0 ByteArray.empty false (al.mk 0 0 [])),false)
def mj(p1:List ae)(p2:Int):Nat→Int→Option (ae×Bool)
 |0,_=>none
 |k1+1,x1=>ak (decide (x1<(p1.length:Int))) (am (at? p1 x1) fun e1=>ak (e1.id==p2) (some (e1,true)) ((mj p1 p2 k1) (i64.wrap (x1+1)))) (Im)
def rk(p1:List ae)(p2:Int):Option (ae×Bool):=mj p1 p2 aH 0
abbrev VJ:List CV:=[ci (0:Int),qm ByteArray.empty,cb false,ci (0:Int),ci (0:Int),.pv (.s (.slice none 0 0))]
theorem zr(p1:List ae)(p2:Int):CT prog 70 [vl af p1,vi p2] (rk p1 p2) (fun r=> .tp [mf r.1,vb r.2]):=
  cI 25 [4] f70 fun r=>(kT f70 6 1 Im [(4,vQ 0)] [.box VJ] uz fun K J1=>(uN af p1 (gc f70 26 1 fun R b=>have L1:∀k1 {x1},mj p1 p2 k1 x1=some r→(R k1).p [(0,vl af p1),(1,vi p2),(4,vQ 0),(8,vi p1.length),(9,vi x1)] [.box VJ]:=uI (fW rfl) fun k1 i1 {x1} h=>b h (uU (mj.eq_2 ..) (uC (uL af fun e1 a10=>(uC (uM af a10 jX) (uJ i1))) (uR (.exit 0) (xM (uJ J1)))));uE (L1 aH))))
def nk(p2:al)(x5:Bool):Option (al×Int):=ak x5 (some ((al.mk 2 0 []),0)) (some (p2,0))
def nm(p1:aT)(p2:al)(x4:Bool):Option (al×Int):=ak x4 (some ((al.mk 0 0 []),2)) (ak (p1.kind==2) (nk p2 true) (nk p2 (decide (4≤p1.kind))))
def iJ(p1:aT)(p2:al)(x3:Bool):Option (al×Int):=ak x3 (some ((al.mk 0 0 []),2)) (ak (decide (4≤p1.kind)) (nm p1 p2 (p2.kind != 5)) (nm p1 p2 false))
def d8(p1:aT)(p2:al)(x2:Bool):Option (al×Int):=ak x2 (some ((al.mk 0 0 []),3)) (am (gz p2.kind) fun r4=>ak (!r4) (some ((al.mk 0 0 []),2)) (ak (p1.kind==3) (ak (p2.kind != 2) (ak (p2.kind != 3) (iJ p1 p2 (p2.kind != 4)) (iJ p1 p2 false)) (iJ p1 p2 false)) (iJ p1 p2 false)))
def nq(p1:aT)(p2:al)(x1:Bool):Option (al×Int):=ak x1 (am (eg p1.param 1 1000000) fun r3=>ak (!r3) (d8 p1 p2 true) (ak (!x1) (d8 p1 p2 (p1.param != 0)) (d8 p1 p2 false))) (ak (!x1) (d8 p1 p2 (p1.param != 0)) (d8 p1 p2 false))
def fR(p1:aT)(p2:al):Option (al×Int):=am (lc p2) fun r1=>ak (r1 != 0) (some ((al.mk 0 0 []),r1)) (am (eg p1.kind 0 7) fun r2=>ak (!r2) (some ((al.mk 0 0 []),3)) (ak (p1.kind==2) (nq p1 p2 true) (nq p1 p2 (p1.kind==3))))
theorem rW(p1:aT)(p2:al):CT prog 71 [.ag [ci p1.kind,ci p1.param],mT p2] (fR p1 p2) (fun r=> .tp [mT r.1,vi r.2]):=
  cI 87 [4] f71 fun r=>(aV (oK _) fun r1=>(uC uz (aV (dP _ _ _) fun r2=>(uC uz (cu f71 30 1 fun K k=>have J1:∀{x1},nq p1 p2 x1=some r→K.p [(2,vR [pi p1.kind,pi p1.param]),(3,vR (eh p2)),(4,vQ 0),(7,vb x1)] [.box xZ]:=fun{x1} h=>k h (cu f71 124 2 fun K k=>have J2:∀{x2},d8 p1 p2 x2=some r→K.p [(2,vR [pi p1.kind,pi p1.param]),(3,vR (eh p2)),(4,vQ 0),(42,vb x2)] [.box xZ]:=fun{x2} h=>k h (uC uz (aV (iI _) fun r4=>(uC uz (cu f71 508 2 fun K k=>have J3:∀{x3},iJ p1 p2 x3=some r→K.p [(2,vR [pi p1.kind,pi p1.param]),(3,vR (eh p2)),(4,vQ 0),(66,vb x3)] [.box xZ]:=fun{x3} h=>k h (uC uz (cu f71 1020 2 fun K k=>have J4:∀{x4},nm p1 p2 x4=some r→K.p [(2,vR [pi p1.kind,pi p1.param]),(3,vR (eh p2)),(4,vQ 0),(75,vb x4)] [.box xZ]:=fun{x4} h=>k h (uC uz (cu f71 2044 2 fun K k=>have J5:∀{x5},nk p2 x5=some r→K.p [(3,vR (eh p2)),(4,vQ 0),(84,vb x5)] [.box xZ]:=fun{x5} h=>k h (uC uz uz);(uC (uJ J5) (uJ J5))));(uC (uJ J4) (uJ J4))));(uC (uC (uC (uJ J3) (uJ J3)) (uJ J3)) (uJ J3))))));(uC (aV (dP _ _ _) fun r3=>(uC (uJ J2) (uC (uJ J2) (uJ J2)))) (uC (uJ J2) (uJ J2))));(uC (uJ J1) (uJ J1)))))))
def xm(rec1:Int→OI)(x1:Int):OI:=rec1 (i64.wrap (x1+1))
def og(rec1:Int→OI)(p1:cg)(x1:Int)(e1:bi):Nat→Int→OI
 |0,_=>none
 |k2+1,x2=>ak (decide (x2<x1)) (am (at? p1.fields x2) fun e2=>am (some ((e2.source==e1.source)&&(((e2.transform.kind==e1.transform.kind)&&((e2.transform.param==e1.transform.param)&&true))&&true))) fun y1=>ak y1 (some 5) ((og rec1 p1 x1 e1 k2) (i64.wrap (x2+1)))) (xm rec1 x1)
def EK:OI:=some 0
def jE(p1:cg)(p2:List ae):Nat→Int→OI
 |0,_=>none
 |k1+1,x1=>ak (decide (x1<(p1.fields.length:Int))) (am (at? p1.fields x1) fun e1=>am (rk p2 e1.source) fun r1=>ak (!r1.2) (some 9) (am (fR e1.transform r1.1.type) fun r2=>ak (r2.2 != 0) (some r2.2) (og (jE p1 p2 k1) p1 x1 e1 aH 0))) (EK)
def rL(p1:cg)(p2:List ae):OI:=ak (decide (4<(p1.fields.length:Int))) (some 7) (jE p1 p2 aH 0)
abbrev Vr(p1:cg)(p2:(List ae))(x1:Int):Fr:=[(1,vl af p2),(2,.one (.pv (.rp [[.ro (aC.els p1.fields)]] 0 0))),(17,vl aC p1.fields),(18,vi (p1.fields.length:Int)),(19,vi x1)]
theorem Hf(p1:cg)(p2:List ae):CT prog 47 [.ag [cl aC p1.fields],vl af p2] (rL p1 p2) vi:=
  cI 57 [6,7,9] f47 fun r=>(uN aC p1.fields (uC uz (kT f47 14 1 EK [] [] uz fun K J2=>(uN aC p1.fields (gc f47 58 1 fun R b=>have L1:∀k1 {x1},jE p1 p2 k1 x1=some r→(R k1).p (Vr p1 p2 x1) []:=uI (fW rfl) fun k1 i1 {x1} h=>b h (uU (jE.eq_2 ..) (uC (kT f47 934 1 (xm (jE p1 p2 k1) x1) (Vr p1 p2 x1) [] (uJ i1) fun K J1=>(dS aC fun e1=>(aV (zr _ _) fun r1=>(uC (uR .ret (xN (xN (xN xF)))) (aV (rW _ _) fun r2=>(uC (uR .ret (xN (xN (xN xF)))) (gc f47 119614 2 fun R b=>have L2:∀k2 {x2},og (jE p1 p2 k1) p1 x1 e1 k2 x2=some r→(R k2).p [(1,vl af p2),(2,vR [.ro (aC.els p1.fields)]),(5,vi x1),(6,vQ 0),(11,vi x2),(17,vl aC p1.fields),(18,vi p1.fields.length),(19,vi x1)] [.box [ci e1.source,ci e1.transform.kind,ci e1.transform.param],.dead,.dead]:=uI (fW rfl) fun k2 i2 {x2} h=>b h (uU (og.eq_2 ..) (uC (nt 6 (dS aC fun e2=>(uY 55 vb fun y1=>(uC (uR .ret (xN (xN (xN (xN xF))))) (uJ i2))))) (uR (.exit 2) (xM (uJ J1)))));uE (L2 aH)))))))) (uR (.exit 0) (xM (uJ J2)))));uE (L1 aH))))))
def pB(rec3:Bool→Int→OI)(x5:Int)(x6:Bool):OI:=rec3 x6 (i64.wrap (x5+1))
def pC(rec2:Int→Int→OI)(x3 x8:Int):OI:=rec2 x8 (i64.wrap (x3+1))
def mY(rec2:Int→Int→OI)(x2 x3:Int)(x7:Bool):OI:=ak x7 (pC rec2 x3 x3) (pC rec2 x3 x2)
def dX(rec2:Int→Int→OI)(p1:ax)(e1:cg)(x2 x3:Int):Nat→Bool→Int→OI
 |0,_,_=>none
 |k3+1,x4,x5=>ak (decide (x5<(e1.fields.length:Int))) (am (at? e1.fields x5) fun e2=>am (at? p1.schemas x3) fun e3=>am (rk e3 e2.source) fun r1=>ak x4 (pB (dX rec2 p1 e1 x2 x3 k3) x5 r1.2) (pB (dX rec2 p1 e1 x2 x3 k3) x5 false)) (mY rec2 x2 x3 x4)
def kF(rec1:Int→OI)(p1:ax)(x1:Int)(e1:cg)(x9:Int)(x10:Bool):OI:=ak x10 (some 9) (am (at? p1.schemas x9) fun e4=>am (rL e1 e4) fun r2=>ak (r2 != 0) (some r2) (rec1 (i64.wrap (x1+1))))
def pG(rec1:Int→OI)(p1:ax)(x1:Int)(e1:cg)(x9:Int):OI:=ak (decide (x9<0)) (kF rec1 p1 x1 e1 x9 true) (ak (x1==(i64.wrap ((p1.specs.length:Int)-1))) (kF rec1 p1 x1 e1 x9 (x9 != (i64.wrap ((p1.schemas.length:Int)-1)))) (kF rec1 p1 x1 e1 x9 false))
def dE(rec1:Int→OI)(p1:ax)(x1:Int)(e1:cg):Nat→Int→Int→OI
 |0,_,_=>none
 |k2+1,x2,x3=>ak (decide (x3<(p1.schemas.length:Int))) (dX (dE rec1 p1 x1 e1 k2) p1 e1 x2 x3 aH true 0) (pG rec1 p1 x1 e1 x2)
def zA:OI:=some 0
def bP(p1:ax):Nat→Int→OI
 |0,_=>none
 |k1+1,x1=>ak (decide (x1<(p1.specs.length:Int))) (am (at? p1.specs x1) fun e1=>dE (bP p1 k1) p1 x1 e1 aH (-1) 0) (zA)
def tP(p1:ax):OI:=bP p1 aH 0
abbrev E3(e1:cg):List CV:=[cl aC e1.fields]
theorem FY(p1:ax):CT prog 38 [mM p1] (tP p1) vi:=
  cI 82 [4,9,10] f38 fun r=>(kT f38 6 1 zA [] [] uz fun K J6=>(uN fU p1.specs (gc f38 26 1 fun R b=>have L1:∀k1 {x1},bP p1 k1 x1=some r→(R k1).p [(1,vR (bH p1)),(14,vl fU p1.specs),(15,vi p1.specs.length),(16,vi x1)] []:=uI (fW rfl) fun k1 i1 {x1} h=>b h (uU (bP.eq_2 ..) (uC (dS fU fun e1=>(cu f38 6758 3 fun K k=>have J4:∀{x9},pG (bP p1 k1) p1 x1 e1 x9=some r→K.p [(1,vR (bH p1)),(3,vi x1),(4,vQ 0),(5,vi x9),(14,vl fU p1.specs),(15,vi p1.specs.length),(16,vi x1)] [.box (E3 e1)]:=fun{x9} h=>k h (cu f38 27036 4 fun K k=>have J5:∀{x10},kF (bP p1 k1) p1 x1 e1 x9 x10=some r→K.p [(1,vR (bH p1)),(4,vQ 0),(5,vi x9),(14,vl fU p1.specs),(15,vi p1.specs.length),(16,vi x1),(70,vb x10)] [.box (E3 e1)]:=fun{x10} h=>k h (uC jX (nt 6 (dS (eL af) fun e4=>(aV (Hf _ _) fun r2=>(uC jX (uJ i1))))));(uC (uJ J5) (uN fU p1.specs (uC (uN (eL af) p1.schemas (uJ J5)) (uJ J5)))));(uN (eL af) p1.schemas (gc f38 27034 1 fun R b=>have L2:∀k2 {x2 x3},dE (bP p1 k1) p1 x1 e1 k2 x2 x3=some r→(R k2).p [(1,vR (bH p1)),(3,vi x1),(4,vQ 0),(5,vi x2),(14,vl fU p1.specs),(15,vi p1.specs.length),(16,vi x1),(23,vi p1.schemas.length),(24,vi x3)] [.box (E3 e1)]:=uI (fW rfl) fun k2 i2 {x2 x3} h=>b h (uU (dE.eq_2 ..) (uC (cu f38 432550 1 fun K k=>have J3:∀{x8},pC (dE (bP p1 k1) p1 x1 e1 k2) x3 x8=some r→K.p [(1,vR (bH p1)),(3,vi x1),(4,vQ 0),(5,vi x8),(14,vl fU p1.specs),(15,vi p1.specs.length),(16,vi x1),(23,vi p1.schemas.length),(24,vi x3)] [.box (E3 e1)]:=fun{x8} h=>k h (uJ i2);(cu f38 6920806 2 fun K k=>have J2:∀{x7},mY (dE (bP p1 k1) p1 x1 e1 k2) x2 x3 x7=some r→K.p [(1,vR (bH p1)),(3,vi x1),(4,vQ 0),(5,vi x2),(6,vi x3),(7,vb x7),(14,vl fU p1.specs),(15,vi p1.specs.length),(16,vi x1),(23,vi p1.schemas.length),(24,vi x3)] [.box (E3 e1)]:=fun{x7} h=>k h (uC (uJ J3) (uJ J3));(uN aC e1.fields (gc f38 27683226 1 fun R b=>have L3:∀k3 {x4 x5},dX (dE (bP p1 k1) p1 x1 e1 k2) p1 e1 x2 x3 k3 x4 x5=some r→(R k3).p [(1,vR (bH p1)),(3,vi x1),(4,vQ 0),(5,vi x2),(6,vi x3),(7,vb x4),(14,vl fU p1.specs),(15,vi p1.specs.length),(16,vi x1),(23,vi p1.schemas.length),(24,vi x3),(28,vl aC e1.fields),(29,vi e1.fields.length),(30,vi x5)] [.box (E3 e1)]:=uI (fW rfl) fun k3 i3 {x4 x5} h=>b h (uU (dX.eq_2 ..) (uC (cu f38 442931622 1 fun K k=>have J1:∀{x6},pB (dX (dE (bP p1 k1) p1 x1 e1 k2) p1 e1 x2 x3 k3) x5 x6=some r→K.p [(1,vR (bH p1)),(3,vi x1),(4,vQ 0),(5,vi x2),(6,vi x3),(7,vb x6),(14,vl fU p1.specs),(15,vi p1.specs.length),(16,vi x1),(23,vi p1.schemas.length),(24,vi x3),(28,vl aC e1.fields),(29,vi e1.fields.length),(30,vi x5)] [.box (E3 e1)]:=fun{x6} h=>k h (uJ i3);(dS aC fun e2=>(KJ 13 1 [2,3] (dS (eL af) fun e3=>(aV (zr _ _) fun r1=>(uC (uJ J1) (uJ J1))))))) (uR (.exit 4) (xM (uJ J2)))));uE (L3 aH))))) (uR (.exit 2) (xM (uJ J4)))));uE (L2 aH))))) (uR (.exit 0) (xM (uJ J6)))));uE (L1 aH))))
def cr(rec1:Int→OB)(x2:Int)(x3:Bool):OB:=ak x3 (some false) (rec1 (i64.wrap (x2+1)))
def zg:OB:=some true
def bo(p1:ByteArray):Nat→Int→OB
 |0,_=>none
 |k1+1,x2=>ak (decide (x2<(p1.size:Int))) (iN (0≤x2∧x2<(p1.size:Int))<|am (some (decide (97≤((p1.data.toList.getD x2.toNat 0).toNat:Int)))) fun y1=>ak y1 (am (some (decide (((p1.data.toList.getD x2.toNat 0).toNat:Int)≤122))) fun y2=>ak y2 (cr (bo p1 k1) x2 false) (am (some (decide (48≤((p1.data.toList.getD x2.toNat 0).toNat:Int)))) fun y3=>ak y3 (am (some (decide (((p1.data.toList.getD x2.toNat 0).toNat:Int)≤57))) fun y4=>ak y4 (cr (bo p1 k1) x2 false) (ak (((p1.data.toList.getD x2.toNat 0).toNat:Int)==95) (cr (bo p1 k1) x2 false) (ak (((p1.data.toList.getD x2.toNat 0).toNat:Int)==46) (cr (bo p1 k1) x2 false) (ak (((p1.data.toList.getD x2.toNat 0).toNat:Int)==45) (cr (bo p1 k1) x2 false) (cr (bo p1 k1) x2 (!(((p1.data.toList.getD x2.toNat 0).toNat:Int)==47))))))) (ak (((p1.data.toList.getD x2.toNat 0).toNat:Int)==95) (cr (bo p1 k1) x2 false) (ak (((p1.data.toList.getD x2.toNat 0).toNat:Int)==46) (cr (bo p1 k1) x2 false) (ak (((p1.data.toList.getD x2.toNat 0).toNat:Int)==45) (cr (bo p1 k1) x2 false) (cr (bo p1 k1) x2 (!(((p1.data.toList.getD x2.toNat 0).toNat:Int)==47)))))))) (am (some (decide (48≤((p1.data.toList.getD x2.toNat 0).toNat:Int)))) fun y5=>ak y5 (am (some (decide (((p1.data.toList.getD x2.toNat 0).toNat:Int)≤57))) fun y6=>ak y6 (cr (bo p1 k1) x2 false) (ak (((p1.data.toList.getD x2.toNat 0).toNat:Int)==95) (cr (bo p1 k1) x2 false) (ak (((p1.data.toList.getD x2.toNat 0).toNat:Int)==46) (cr (bo p1 k1) x2 false) (ak (((p1.data.toList.getD x2.toNat 0).toNat:Int)==45) (cr (bo p1 k1) x2 false) (cr (bo p1 k1) x2 (!(((p1.data.toList.getD x2.toNat 0).toNat:Int)==47))))))) (ak (((p1.data.toList.getD x2.toNat 0).toNat:Int)==95) (cr (bo p1 k1) x2 false) (ak (((p1.data.toList.getD x2.toNat 0).toNat:Int)==46) (cr (bo p1 k1) x2 false) (ak (((p1.data.toList.getD x2.toNat 0).toNat:Int)==45) (cr (bo p1 k1) x2 false) (cr (bo p1 k1) x2 (!(((p1.data.toList.getD x2.toNat 0).toNat:Int)==47)))))))) (zg)
def vG(p1:ByteArray)(x1:Bool):OB:=ak x1 (some false) (bo p1 aH 0)
def Av(p1:ByteArray):OB:=ak (decide ((p1.size:Int)<1)) (vG p1 true) (vG p1 (decide (64<(p1.size:Int))))
theorem Lm(p1:ByteArray):CT prog 69 [vs p1] (Av p1) vb:=
  cI 53 [] f69 fun r=>(cu f69 12 2 fun K k=>have J1:∀{x1},vG p1 x1=some r→K.p [(0,vs p1),(12,vb x1)] []:=fun{x1} h=>k h (uC uz (kT f69 14 1 zg [] [] uz fun K J3=>(gc f69 58 1 fun R b=>have L1:∀k1 {x2},bo p1 k1 x2=some r→(R k1).p [(0,vs p1),(3,vi x2)] []:=uI (fW rfl) fun k1 i1 {x2} h=>b h (uU (bo.eq_2 ..) (uC (uG (X1 23 (kS f69 [1,1,0,1,0,0,1,0,0,1,0] 3) fun K k=>have J2:∀{x3},cr (bo p1 k1) x2 x3=some r→K.p [(0,vs p1),(3,vi x2),(52,vb x3)] []:=fun{x3} h=>k h (uC jX (uJ i1));(uY 23 vb fun y1=>(uC (uY 26 vb fun y2=>(uC (uJ J2) (uY 30 vb fun y3=>(uC (uY 33 vb fun y4=>(uC (uJ J2) (uC (uJ J2) (uC (uJ J2) (uC (uJ J2) (uJ J2)))))) (uC (uJ J2) (uC (uJ J2) (uC (uJ J2) (uJ J2)))))))) (uY 30 vb fun y5=>(uC (uY 33 vb fun y6=>(uC (uJ J2) (uC (uJ J2) (uC (uJ J2) (uC (uJ J2) (uJ J2)))))) (uC (uJ J2) (uC (uJ J2) (uC (uJ J2) (uJ J2)))))))))) (uR (.exit 0) (xM (uJ J3)))));uE (L1 aH))));(uC (uJ J1) (uJ J1)))
def pN(rec1:Int→OB)(x2:Int)(x3:Bool):OB:=ak x3 (some false) (rec1 (i64.wrap (x2+1)))
def uk:OB:=some true
def gL(p1:ByteArray):Nat→Int→OB
 |0,_=>none
 |k1+1,x2=>ak (decide (x2<(p1.size:Int))) (iN (0≤x2∧x2<(p1.size:Int))<|am (some (decide (((p1.data.toList.getD x2.toNat 0).toNat:Int)<32))) fun y1=>ak y1 (pN (gL p1 k1) x2 true) (iN (0≤x2∧x2<(p1.size:Int))<|pN (gL p1 k1) x2 (((p1.data.toList.getD x2.toNat 0).toNat:Int)==127))) (uk)
def pE(p1:ByteArray)(x1:Bool):OB:=ak x1 (some false) (gL p1 aH 0)
def tM(p1:ByteArray):OB:=am (utf8_ValidString p1) fun r1=>ak (!r1) (pE p1 true) (pE p1 (decide (256<(p1.size:Int))))
theorem FU(p1:ByteArray):CT prog 233 [vs p1] (tM p1) vb:=
  cI 28 [] f233 fun r=>(cu f233 12 2 fun K k=>have J1:∀{x1},pE p1 x1=some r→K.p [(0,vs p1),(11,vb x1)] []:=fun{x1} h=>k h (uC uz (kT f233 14 1 uk [] [] uz fun K J3=>(gc f233 58 1 fun R b=>have L1:∀k1 {x2},gL p1 k1 x2=some r→(R k1).p [(0,vs p1),(3,vi x2)] []:=uI (fW rfl) fun k1 i1 {x2} h=>b h (uU (gL.eq_2 ..) (uC (cu f233 1864 3 fun K k=>have J2:∀{x3},pN (gL p1 k1) x2 x3=some r→K.p [(0,vs p1),(3,vi x2),(27,vb x3)] []:=fun{x3} h=>k h (uC jX (uJ i1));(uG (uY 21 vb fun y1=>(uC (uJ J2) (uG (uJ J2)))))) (uR (.exit 0) (xM (uJ J3)))));uE (L1 aH))));(aV (zK _) fun r1=>(uC (uJ J1) (uJ J1))))
def sX(x2:Bool):OB:=some x2
def tH(x3:Bool):OB:=some x3
def tu(x4:Bool):OB:=some x4
def tk(x5:Bool):OB:=some x5
def qn(x6:Bool):OB:=some x6
def tg(x7:Bool):OB:=some x7
def qq(x8:Bool):OB:=some x8
def qh(x9:Bool):OB:=some x9
def tI(p1:ac)(x1:Bool):OB:=ak (p1.kind==0) (ak x1 (ak (p1.n==0) (sX (p1.scale==0)) (sX false)) (sX false)) (ak (p1.kind==1) (ak x1 (am (gi p1.n 0 1) fun r1=>ak r1 (tH (p1.scale==0)) (tH false)) (tH false)) (ak (p1.kind==2) (ak x1 (am (gi p1.n (-999999999999999999) 999999999999999999) fun r2=>ak r2 (tu (p1.scale==0)) (tu false)) (tu false)) (ak (p1.kind==3) (ak x1 (am (gi p1.n (-999999999999999999) 999999999999999999) fun r3=>ak r3 (am (gi p1.scale 0 12) fun r4=>tk r4) (tk false)) (tk false)) (ak (p1.kind==4) (ak ((p1.items.length:Int)==0) (ak (p1.n==0) (ak (p1.scale==0) (am (tM p1.s) fun r5=>qn r5) (qn false)) (qn false)) (qn false)) (ak (p1.kind==5) (ak x1 (am (gi p1.n (-62135596800) 253402300799) fun r6=>ak r6 (tg (p1.scale==0)) (tg false)) (tg false)) (ak (p1.kind==6) (ak (p1.s.toList==(ByteArray.mk #[]).toList) (ak (p1.n==0) (ak (p1.scale==0) (qq (decide ((p1.items.length:Int)≤64))) (qq false)) (qq false)) (qq false)) (ak (p1.kind==7) (ak (p1.s.toList==(ByteArray.mk #[]).toList) (ak (p1.n==0) (ak (p1.scale==0) (qh (decide (0<(p1.items.length:Int)))) (qh false)) (qh false)) (qh false)) (some false))))))))
def B7(p1:ac):OB:=ak (p1.s.toList==(ByteArray.mk #[]).toList) (tI p1 ((p1.items.length:Int)==0)) (tI p1 false)
theorem Nb(p1:ac):CT prog 191 [mV p1] (B7 p1) vb:=
  cI 143 [] f191 fun r=>(cu f191 6 1 fun K k=>have J1:∀{x1},tI p1 x1=some r→K.p [(1,vR [pi p1.kind,pi p1.n,pi p1.scale,.s (.string p1.s),.ro (ah.els p1.items)]),(3,vb x1)] []:=fun{x1} h=>k h (uC (cu f191 468 3 fun K k=>have J2:∀{x2},sX x2=some r→K.p [(2,vb x2)] []:=fun{x2} h=>k h uz;(uC (uC (uJ J2) (uJ J2)) (uJ J2))) (uC (cu f191 1884 3 fun K k=>have J3:∀{x3},tH x3=some r→K.p [(2,vb x3)] []:=fun{x3} h=>k h uz;(uC (aV (jC _ _ _) fun r1=>(uC (uJ J3) (uJ J3))) (uJ J3))) (uC (cu f191 7548 3 fun K k=>have J4:∀{x4},tu x4=some r→K.p [(2,vb x4)] []:=fun{x4} h=>k h uz;(uC (aV (jC _ _ _) fun r2=>(uC (uJ J4) (uJ J4))) (uJ J4))) (uC (cu f191 30204 3 fun K k=>have J5:∀{x5},tk x5=some r→K.p [(2,vb x5)] []:=fun{x5} h=>k h uz;(uC (aV (jC _ _ _) fun r3=>(uC (aV (jC _ _ _) fun r4=>(uJ J5)) (uJ J5))) (uJ J5))) (uC (cu f191 120828 3 fun K k=>have J6:∀{x6},qn x6=some r→K.p [(2,vb x6)] []:=fun{x6} h=>k h uz;(uN ah p1.items (uC (uC (uC (aV (FU _) fun r5=>(uJ J6)) (uJ J6)) (uJ J6)) (uJ J6)))) (uC (cu f191 483324 3 fun K k=>have J7:∀{x7},tg x7=some r→K.p [(2,vb x7)] []:=fun{x7} h=>k h uz;(uC (aV (jC _ _ _) fun r6=>(uC (uJ J7) (uJ J7))) (uJ J7))) (uC (cu f191 1933308 3 fun K k=>have J8:∀{x8},qq x8=some r→K.p [(2,vb x8)] []:=fun{x8} h=>k h uz;(uC (uC (uC (uN ah p1.items (uJ J8)) (uJ J8)) (uJ J8)) (uJ J8))) (uC (cu f191 7733244 3 fun K k=>have J9:∀{x9},qh x9=some r→K.p [(2,vb x9)] []:=fun{x9} h=>k h uz;(uC (uC (uC (uN ah p1.items (uJ J9)) (uJ J9)) (uJ J9)) (uJ J9))) uz))))))));(uC (uN ah p1.items (uJ J1)) (uJ J1)))
def Bm(z3:Int):Option (Bool×Int):=some (true,z3)
def qp(q_ref1_sound:ac→Int→Int→Option (Bool×Int))(p1:ac)(p2:Int):Nat→Int→Int→Option (Bool×Int)
 |0,_,_=>none
 |k1+1,z2,x2=>ak (decide (x2<(p1.items.length:Int))) (am (at? p1.items x2) fun e1=>am (q_ref1_sound e1 (i64.wrap (p2+1)) z2) fun r2=>ak (!r2.1) (some (false,r2.2)) ((qp q_ref1_sound p1 p2 k1) r2.2 (i64.wrap (x2+1)))) (Bm z2)
def qf(q_ref1_sound:ac→Int→Int→Option (Bool×Int))(p1:ac)(p2 z1:Int)(x1:Bool):Option (Bool×Int):=ak x1 (some (false,z1)) (qp q_ref1_sound p1 p2 aH z1 0)
def sW(q_ref1_sound:ac→Int→Int→Option (Bool×Int))(p1:ac)(p2 z1:Int):Option (Bool×Int):=ak (decide (4<p2)) (qf q_ref1_sound p1 p2 z1 true) (ak (decide (256<z1)) (qf q_ref1_sound p1 p2 z1 true) (am (B7 p1) fun r1=>qf q_ref1_sound p1 p2 z1 (!r1)))
def kB:Nat→ac→Int→Int→Option (Bool×Int)
 |0,_,_,_=>none
 |k0+1,p1,p2,p3=>ak (p1.kind != 0) (sW (kB k0) p1 p2 (i64.wrap (p3+1))) (sW (kB k0) p1 p2 p3)
theorem Gw:∀(k0:Nat) (p1:ac) (p2 p3:Int),CM prog 145 [mV p1,vi p2,vQ 0] [.box [ci p3]] (kB k0 p1 p2 p3) (fun r=>vb r.1) (fun r=>[.box [ci r.2]])
  |0,_,_,_=>Zq (kB.eq_1 ..)
  |k0+1,p1,p2,p3=>wP 1 46 [] f145 fun r=>(uU (kB.eq_2 ..) (cu f145 6 1 fun K k=>have J1:∀{z1},sW (kB k0) p1 p2 z1=some r→K.p [(1,vi p2),(2,vQ 0),(3,vR (mL p1))] [.box [ci z1]]:=fun{z1} h=>k h (cu f145 28 2 fun K k=>have J2:∀{x1},qf (kB k0) p1 p2 z1 x1=some r→K.p [(1,vi p2),(2,vQ 0),(3,vR (mL p1)),(28,vb x1)] [.box [ci z1]]:=fun{x1} h=>k h (uC (uR .ret ut) (cu f145 30 1 fun K k=>have J3:∀{z3},Bm z3=some r→K.p [] [.box [ci z3]]:=fun{z3} h=>k h (uR .ret ut);(uN ah p1.items (gc f145 122 1 fun R b=>have L1:∀k1 {z2 x2},qp (kB k0) p1 p2 k1 z2 x2=some r→(R k1).p [(1,vi p2),(2,vQ 0),(3,vR (mL p1)),(31,vi p1.items.length),(32,vi x2)] [.box [ci z2]]:=uI (fW rfl) fun k1 i1 {z2 x2} h=>b h (uU (qp.eq_2 ..) (uC (dS ah fun e1=>(EJ true [0] (Gw k0 _ _ _) fun r2 _=>(uC (uR .ret (xN (xN ut))) (uJ i1)))) (uR (.exit 0) (xM (uJ J3)))));uE (L1 aH)))));(uC (uJ J2) (uC (uJ J2) (aV (Nb _) fun r1=>(uJ J2)))));(uC (uJ J1) (uJ J1))))
def uf(p1:ac):OB:=am (kB aH p1 1 0) fun r1=>some r1.1
theorem yN(p1:ac):CT prog 93 [mV p1] (uf p1) vb:=
  cI 6 [3] f93 fun r=>(EJ true [0] (Gw aH _ _ _) fun r1 _=>uz)
def B3(rec1:Int→OB)(q_ref1_of:al→ac→OB)(p1:al)(p2:ac)(x3 x4:Int):OB:=am (at? p1.fields x4) fun e1=>am (at? p2.items x3) fun e2=>am (q_ref1_of e1.type e2) fun r1=>ak (!r1) (some false) (rec1 (i64.wrap (x3+1)))
def EU:OB:=some true
def kw(q_ref1_of:al→ac→OB)(p1:al)(p2:ac):Nat→Int→OB
 |0,_=>none
 |k1+1,x3=>ak (decide (x3<(p2.items.length:Int))) (ak (p1.kind==6) (B3 (kw q_ref1_of p1 p2 k1) q_ref1_of p1 p2 x3 0) (B3 (kw q_ref1_of p1 p2 k1) q_ref1_of p1 p2 x3 x3)) (EU)
def wG(q_ref1_of:al→ac→OB)(p1:al)(p2:ac)(x2:Bool):OB:=ak x2 (some false) (kw q_ref1_of p1 p2 aH 0)
def Cf(q_ref1_of:al→ac→OB)(p1:al)(p2:ac)(x1:Bool):OB:=ak x1 (some false) (ak (p1.kind==7) (wG q_ref1_of p1 p2 ((p2.items.length:Int) != (p1.fields.length:Int))) (wG q_ref1_of p1 p2 false))
def ke:Nat→al→ac→OB
 |0,_,_=>none
 |k0+1,p1,p2=>ak (p2.kind==0) (some true) (ak (p2.kind != p1.kind) (Cf (ke k0) p1 p2 true) (Cf (ke k0) p1 p2 (p2.scale != p1.scale)))
theorem LH:∀(k0:Nat) (p1:al) (p2:ac),CT prog 135 [mT p1,mV p2] (ke k0 p1 p2) vb
  |0,_,_=>Jd (ke.eq_1 ..)
  |k0+1,p1,p2=>cI 58 [] f135 fun r=>(uU (ke.eq_2 ..) (uC uz (cu f135 28 2 fun K k=>have J1:∀{x1},Cf (ke k0) p1 p2 x1=some r→K.p [(2,vR (eh p1)),(3,vR (mL p2)),(21,vb x1)] []:=fun{x1} h=>k h (uC uz (cu f135 60 2 fun K k=>have J2:∀{x2},wG (ke k0) p1 p2 x2=some r→K.p [(2,vR (eh p1)),(3,vR (mL p2)),(33,vb x2)] []:=fun{x2} h=>k h (uC uz (kT f135 62 1 EU [] [] uz fun K J4=>(uN ah p2.items (gc f135 250 1 fun R b=>have L1:∀k1 {x3},kw (ke k0) p1 p2 k1 x3=some r→(R k1).p [(2,vR (eh p1)),(3,vR (mL p2)),(36,vi p2.items.length),(37,vi x3)] []:=uI (fW rfl) fun k1 i1 {x3} h=>b h (uU (kw.eq_2 ..) (uC (cu f135 64102 3 fun K k=>have J3:∀{x4},B3 (kw (ke k0) p1 p2 k1) (ke k0) p1 p2 x3 x4=some r→K.p [(2,vR (eh p1)),(3,vR (mL p2)),(5,vi x3),(6,vi x4),(36,vi p2.items.length),(37,vi x3)] []:=fun{x4} h=>k h (nt 11 (dS af fun e1=>(dS ah fun e2=>(aV (LH k0 _ _) fun r1=>(uC jX (uJ i1))))));(uC (uJ J3) (uJ J3))) (uR (.exit 0) (xM (uJ J4)))));uE (L1 aH)))));(uC (uN ah p2.items (uN af p1.fields (uJ J2))) (uJ J2))));(uC (uJ J1) (uJ J1)))))
def qd(rec1:Int→OB)(x1:Int)(x3:Bool):OB:=ak x3 (some true) (rec1 (i64.wrap (x1+1)))
def qe(rec1:Int→OB)(q_ref1_missing:al→ac→OB)(p1:al)(p2:ac)(x1 x2:Int):OB:=am (at? p1.fields x2) fun e1=>ak e1.need (am (at? p2.items x1) fun e2=>ak (e2.kind==0) (qd rec1 x1 true) (am (q_ref1_missing e1.type e2) fun r1=>qd rec1 x1 r1)) (am (at? p2.items x1) fun e3=>am (q_ref1_missing e1.type e3) fun r2=>qd rec1 x1 r2)
def xX:OB:=some false
def fg(q_ref1_missing:al→ac→OB)(p1:al)(p2:ac):Nat→Int→OB
 |0,_=>none
 |k1+1,x1=>ak (decide (x1<(p2.items.length:Int))) (ak (p1.kind==6) (qe (fg q_ref1_missing p1 p2 k1) q_ref1_missing p1 p2 x1 0) (qe (fg q_ref1_missing p1 p2 k1) q_ref1_missing p1 p2 x1 x1)) (xX)
def fa:Nat→al→ac→OB
 |0,_,_=>none
 |k0+1,p1,p2=>fg (fa k0) p1 p2 aH 0
theorem zm:∀(k0:Nat) (p1:al) (p2:ac),CT prog 136 [mT p1,mV p2] (fa k0 p1 p2) vb
  |0,_,_=>Jd (fa.eq_1 ..)
  |k0+1,p1,p2=>cI 45 [7] f136 fun r=>(uU (fa.eq_2 ..) (kT f136 6 1 xX [] [] uz fun K J3=>(uN ah p2.items (gc f136 26 1 fun R b=>have L1:∀k1 {x1},fg (fa k0) p1 p2 k1 x1=some r→(R k1).p [(2,vR (eh p1)),(3,vR (mL p2)),(10,vi p2.items.length),(11,vi x1)] []:=uI (fW rfl) fun k1 i1 {x1} h=>b h (uU (fg.eq_2 ..) (uC (cu f136 6758 3 fun K k=>have J1:∀{x2},qe (fg (fa k0) p1 p2 k1) (fa k0) p1 p2 x1 x2=some r→K.p [(2,vR (eh p1)),(3,vR (mL p2)),(5,vi x1),(6,vi x2),(10,vi p2.items.length),(11,vi x1)] []:=fun{x2} h=>k h (dS af fun e1=>(cu f136 27038 3 fun K k=>have J2:∀{x3},qd (fg (fa k0) p1 p2 k1) x1 x3=some r→K.p [(2,vR (eh p1)),(3,vR (mL p2)),(10,vi p2.items.length),(11,vi x1),(43,vb x3)] [.dead]:=fun{x3} h=>k h (uC jX (uJ i1));(nt 19 (uC (uL ah fun e2 a17=>(uC (uJ J2) (uM ah a17 (aV (zm k0 _ _) fun r1=>(uJ J2))))) (dS ah fun e3=>(aV (zm k0 _ _) fun r2=>(uJ J2)))))));(uC (uJ J1) (uJ J1))) (uR (.exit 0) (xM (uJ J3)))));uE (L1 aH)))))
def oc(p1:al)(p2:ac):OI:=am (lc p1) fun r1=>ak (r1 != 0) (some r1) (am (uf p2) fun r2=>ak (!r2) (some 1) (am (ke aH p1 p2) fun r3=>ak (!r3) (some 2) (am (fa aH p1 p2) fun r4=>ak r4 (some 9) (some 0))))
theorem vN(p1:al)(p2:ac):CT prog 72 [mT p1,mV p2] (oc p1 p2) vi:=
  cI 21 [] f72 fun r=>(aV (oK _) fun r1=>(uC uz (aV (yN _) fun r2=>(uC uz (aV (LH aH _ _) fun r3=>(uC uz (aV (zm aH _ _) fun r4=>(uC uz uz))))))))
def lI(p1 p2:Int):OI:=ak (decide (p1<p2)) (some (-1)) (ak (decide (p2<p1)) (some 1) (some 0))
theorem mb(p1 p2:Int):CT prog 95 [vi p1,vi p2] (lI p1 p2) vi:=
  cI 11 [] f95 fun r=>(uC uz (uC uz uz))
def mZ(rec1:List Int→Int→Option dj)(l1:List Int)(x1 x2:Int):Option dj:=iN (l1.length+1≤4294967296)<|rec1 (l1++[x2]) (i64.wrap (x1.tdiv 10))
def Df(p1:Int)(l2:List Int):Option dj:=some (dj.mk (decide (p1<0)) l2)
def cZ(p1:Int):Nat→List Int→Int→Option dj
 |0,_,_=>none
 |k1+1,l1,x1=>ak (x1 != 0) (ak (decide ((x1.tmod 10)<0)) (mZ (cZ p1 k1) l1 x1 (i64.wrap (0-(x1.tmod 10)))) (mZ (cZ p1 k1) l1 x1 (x1.tmod 10))) (Df p1 l1)
def pf(p1:Int):Option dj:=cZ p1 aH [] p1
abbrev Hj:List CV:=[cb false,.pv (.s (.slice none 0 0))]
theorem xo(p1:Int):CT prog 194 [vi p1] (pf p1) (fun r=> .ag [cb r.below,cl eI r.d]):=
  cI 25 [2] f194 fun r=>(cu f194 14 1 fun K k=>have J2:∀{l2},Df p1 l2=some r→K.p [(0,vi p1),(2,vQ 0),(3,.one (.sl 1 1 0 l2.length))] [.box Hj,.arr 1 (eI.els l2)]:=fun{l2} h=>k h (LY eI l2 1 [] uz);(Jw (.li 3 1) (gc f194 58 1 fun R b=>have L1:∀k1 {l1 x1},cZ p1 k1 l1 x1=some r→(R k1).p [(0,vi p1),(2,vQ 0),(3,.one (.sl 1 1 0 l1.length)),(4,vi x1)] [.box Hj,.arr 1 (eI.els l1)]:=uI (fW rfl) fun k1 i1 {l1 x1} h=>b h (uU (cZ.eq_2 ..) (uC (cu f194 3730 3 fun K k=>have J1:∀{x2},mZ (cZ p1 k1) l1 x1 x2=some r→K.p [(0,vi p1),(2,vQ 0),(3,.one (.sl 1 1 0 l1.length)),(4,vi x1),(5,vi x2)] [.box Hj,.arr 1 (eI.els l1)]:=fun{x2} h=>k h (BY eI 1 [x2] (uJ i1));(uC (uJ J1) (uJ J1))) (uR (.exit 0) (xM (uJ J2)))));uE (L1 aH))))
def BG(p1:dj)(p2:Int):Option dj:=ak ((p1.d.length:Int)==0) (some p1) (iN (0≤p2∧p2≤p2∧p2≤4294967296)<|iN ((List.replicate p2.toNat (0:Int)).length+p1.d.length≤4294967296)<|some (dj.mk p1.below ((List.replicate p2.toNat (0:Int))++p1.d)))
theorem Oo(p1:dj)(p2:Int):CT prog 193 [.ag [cb p1.below,cl eI p1.d],vi p2] (BG p1 p2) (fun r=> .ag [cb r.below,cl eI r.d]):=
  cI 18 [4] f193 fun r=>(uN eI p1.d (uC uz (KJ 7 1 [1,2] (uMk eI (0:Int) (BY (L:=p2.toNat) (hL:=by simp) eI 1 p1.d (LY eI ((List.replicate p2.toNat (0:Int))++p1.d) 1 [] uz))))))
def rG(p1:ac):Option dj:=am (pf p1.n) fun r1=>am (BG r1 (i64.wrap (12-p1.scale))) fun r2=>some r2
theorem Bj(p1:ac):CT prog 148 [mV p1] (rG p1) (fun r=> .ag [cb r.below,cl eI r.d]):=
  cI 10 [2] f148 fun r=>(nt 6 (aV (xo _) fun r1=>(aV (Oo _ _) fun r2=>uz)))
def G4:OI:=some 0
def nI(p1 p2:List Int):Nat→Int→OI
 |0,_=>none
 |k1+1,x1=>ak (decide (0≤x1)) (am (at? p1 x1) fun e1=>am (at? p2 x1) fun e2=>ak (e1 != e2) (some (i64.wrap (e1-e2))) ((nI p1 p2 k1) (i64.wrap (x1-1)))) (G4)
def wH(p1 p2:List Int):OI:=ak ((p1.length:Int) != (p2.length:Int)) (some (i64.wrap ((p1.length:Int)-(p2.length:Int)))) (nI p1 p2 aH (i64.wrap ((p1.length:Int)-1)))
theorem Io(p1 p2:List Int):CT prog 192 [vl eI p1,vl eI p2] (wH p1 p2) vi:=
  cI 41 [] f192 fun r=>(uN eI p1 (uN eI p2 (uC (uN eI p1 (uN eI p2 uz)) (kT f192 14 1 G4 [] [] uz fun K J1=>(uN eI p1 (gc f192 58 1 fun R b=>have L1:∀k1 {x1},nI p1 p2 k1 x1=some r→(R k1).p [(0,vl eI p1),(1,vl eI p2),(5,vi x1)] []:=uI (fW rfl) fun k1 i1 {x1} h=>b h (uU (nI.eq_2 ..) (uC (nt 8 (uL eI fun e1 a13=>(uL eI fun e2 a14=>(uC (nt 8 (uM eI a13 (uM eI a14 jX))) (uJ i1))))) (uR (.exit 0) (xM (uJ J1)))));uE (L1 aH)))))))
def lQ(x1:Int):OI:=ak (decide (x1<0)) (some (-1)) (ak (decide (0<x1)) (some 1) (some 0))
def sI(p1 p2:dj):OI:=ak (!(p1.below==p2.below)) (ak p1.below (some (-1)) (some 1)) (am (wH p1.d p2.d) fun r1=>ak p1.below (lQ (i64.wrap (0-r1))) (lQ r1))
theorem Fd(p1 p2:dj):CT prog 147 [.ag [cb p1.below,cl eI p1.d],.ag [cb p2.below,cl eI p2.d]] (sI p1 p2) vi:=
  cI 26 [] f147 fun r=>(uC (uC uz uz) (aV (Io _ _) fun r1=>(cu f147 30 1 fun K k=>have J1:∀{x1},lQ x1=some r→K.p [(5,vi x1)] []:=fun{x1} h=>k h (uC uz (uC uz uz));(uC (uJ J1) (uJ J1)))))
def Bn(p1 p2:ac):OI:=am (gi p1.scale 0 12) fun r1=>am (gi p2.scale 0 12) fun r2=>ak (!(r1==r2)) (ak r1 (some (-1)) (some 1)) (ak r1 (am (rG p1) fun r3=>am (rG p2) fun r4=>am (sI r3 r4) fun r5=>ak (r5 != 0) (some r5) (am (lI p1.scale p2.scale) fun r6=>some r6)) (ak (p1.n != p2.n) (am (lI p1.n p2.n) fun r7=>some r7) (am (lI p1.scale p2.scale) fun r8=>some r8)))
theorem IU(p1 p2:ac):CT prog 96 [mV p1,mV p2] (Bn p1 p2) vi:=
  cI 47 [] f96 fun r=>(nt 5 (aV (jC _ _ _) fun r1=>(aV (jC _ _ _) fun r2=>(uC (uC uz uz) (uC (nt 3 (aV (Bj _) fun r3=>(aV (Bj _) fun r4=>(aV (Fd _ _) fun r5=>(uC uz (aV (mb _ _) fun r6=>uz)))))) (uC (aV (mb _ _) fun r7=>uz) (aV (mb _ _) fun r8=>uz)))))))
def AX(p1 p2:ByteArray):OI:=am (lI (p1.size:Int) (p2.size:Int)) fun r2=>some r2
def xe(rec1:Int→OI)(p1 p2:ByteArray)(x1:Int)(x2:Bool):OI:=ak x2 (iN (0≤x1∧x1<(p1.size:Int))<|iN (0≤x1∧x1<(p2.size:Int))<|am (some (((p1.data.toList.getD x1.toNat 0).toNat:Int) != ((p2.data.toList.getD x1.toNat 0).toNat:Int))) fun y1=>ak y1 (iN (0≤x1∧x1<(p1.size:Int))<|iN (0≤x1∧x1<(p2.size:Int))<|am (lI (i64.wrap ((p1.data.toList.getD x1.toNat 0).toNat:Int)) (i64.wrap ((p2.data.toList.getD x1.toNat 0).toNat:Int))) fun r1=>some r1) (rec1 (i64.wrap (x1+1)))) (AX p1 p2)
def md(p1 p2:ByteArray):Nat→Int→OI
 |0,_=>none
 |k1+1,x1=>ak (decide (x1<(p1.size:Int))) (xe (md p1 p2 k1) p1 p2 x1 (decide (x1<(p2.size:Int)))) (xe (md p1 p2 k1) p1 p2 x1 false)
def zt(p1 p2:ByteArray):OI:=md p1 p2 aH 0
theorem Mt(p1 p2:ByteArray):CT prog 97 [vs p1,vs p2] (zt p1 p2) vi:=
  cI 39 [] f97 fun r=>(kT f97 6 1 (AX p1 p2) [(0,vs p1),(1,vs p2)] [] (aV (mb _ _) fun r2=>uz) fun K J2=>(gc f97 26 1 fun R b=>have L1:∀k1 {x1},md p1 p2 k1 x1=some r→(R k1).p [(0,vs p1),(1,vs p2),(5,vi x1)] []:=uI (fW rfl) fun k1 i1 {x1} h=>b h (uU (md.eq_2 ..) (cu f97 208 2 fun K k=>have J1:∀{x2},xe (md p1 p2 k1) p1 p2 x1 x2=some r→K.p [(0,vs p1),(1,vs p2),(5,vi x1),(15,vb x2)] []:=fun{x2} h=>k h (uC (nt 6 (uG (uG (uY 24 vb fun y1=>(uC (nt 8 (uG (uG (aV (mb _ _) fun r1=>jX)))) (uJ i1)))))) (uR (.exit 0) (xM (uJ J2))));(uC (uJ J1) (uJ J1))));uE (L1 aH)))
def ye(p1 p2:ac):OI:=am (lI (p1.items.length:Int) (p2.items.length:Int)) fun r7=>some r7
def tZ(rec1:Int→OI)(q_ref1_Compare:ac→ac→OI)(p1 p2:ac)(x2:Int)(x3:Bool):OI:=ak x3 (am (at? p1.items x2) fun e1=>am (at? p2.items x2) fun e2=>am (q_ref1_Compare e1 e2) fun r6=>ak (r6 != 0) (some r6) (rec1 (i64.wrap (x2+1)))) (ye p1 p2)
def iS(q_ref1_Compare:ac→ac→OI)(p1 p2:ac):Nat→Int→OI
 |0,_=>none
 |k1+1,x2=>ak (decide (x2<(p1.items.length:Int))) (tZ (iS q_ref1_Compare p1 p2 k1) q_ref1_Compare p1 p2 x2 (decide (x2<(p2.items.length:Int)))) (tZ (iS q_ref1_Compare p1 p2 k1) q_ref1_Compare p1 p2 x2 false)
def nB(q_ref1_Compare:ac→ac→OI)(p1 p2:ac)(x1:Bool):OI:=ak x1 (am (lI p1.n p2.n) fun r3=>some r3) (ak (p1.scale != p2.scale) (am (lI p1.scale p2.scale) fun r4=>some r4) (am (zt p1.s p2.s) fun r5=>ak (r5 != 0) (some r5) (iS q_ref1_Compare p1 p2 aH 0)))
def ny(q_ref1_Compare:ac→ac→OI)(p1 p2:ac):OI:=ak (p1.n != p2.n) (nB q_ref1_Compare p1 p2 (p1.kind != 3)) (nB q_ref1_Compare p1 p2 false)
def bJ:Nat→ac→ac→OI
 |0,_,_=>none
 |k0+1,p1,p2=>ak (!((p1.kind==0)==(p2.kind==0))) (ak (p1.kind==0) (some 1) (some (-1))) (ak (p1.kind==0) (some 0) (ak (p1.kind != p2.kind) (am (lI p1.kind p2.kind) fun r1=>some r1) (ak (p1.kind==3) (am (Bn p1 p2) fun r2=>ak (r2 != 0) (some r2) (ny (bJ k0) p1 p2)) (ny (bJ k0) p1 p2))))
theorem kV:∀(k0:Nat) (p1 p2:ac),CT prog 46 [mV p1,mV p2] (bJ k0 p1 p2) vi
  |0,_,_=>Jd (bJ.eq_1 ..)
  |k0+1,p1,p2=>cI 109 [] f46 fun r=>(uU (bJ.eq_2 ..) (uC (uC uz uz) (uC uz (uC (aV (mb _ _) fun r1=>uz) (kT f46 62 1 (ny (bJ k0) p1 p2) [(2,vR (mL p1)),(3,vR (mL p2))] [] (cu f46 252 2 fun K k=>have J2:∀{x1},nB (bJ k0) p1 p2 x1=some r→K.p [(2,vR (mL p1)),(3,vR (mL p2)),(50,vb x1)] []:=fun{x1} h=>k h (uC (aV (mb _ _) fun r3=>uz) (uC (aV (mb _ _) fun r4=>uz) (aV (Mt _ _) fun r5=>(uC uz (kT f46 1022 1 (ye p1 p2) [(2,vR (mL p1)),(3,vR (mL p2))] [] (uN ah p1.items (uN ah p2.items (aV (mb _ _) fun r7=>uz))) fun K J4=>(gc f46 4090 1 fun R b=>have L1:∀k1 {x2},iS (bJ k0) p1 p2 k1 x2=some r→(R k1).p [(2,vR (mL p1)),(3,vR (mL p2)),(7,vi x2)] []:=uI (fW rfl) fun k1 i1 {x2} h=>b h (uU (iS.eq_2 ..) (cu f46 32720 2 fun K k=>have J3:∀{x3},tZ (iS (bJ k0) p1 p2 k1) (bJ k0) p1 p2 x2 x3=some r→K.p [(2,vR (mL p1)),(3,vR (mL p2)),(7,vi x2),(85,vb x3)] []:=fun{x3} h=>k h (uC (nt 10 (dS ah fun e1=>(dS ah fun e2=>(aV (kV k0 _ _) fun r6=>(uC jX (uJ i1)))))) (uR (.exit 0) (xM (uJ J4))));(uN ah p1.items (uC (uN ah p2.items (uJ J3)) (uJ J3)))));uE (L1 aH)))))));(uC (uJ J2) (uJ J2))) fun K J1=>(uC (aV (IU _ _) fun r2=>(uC (uR .ret (xN xF)) (uJ J1))) (uJ J1)))))))
def qH(rec3:List ae→Int→OI)(x4:Int)(l2:List ae):OI:=rec3 l2 (i64.wrap (x4+1))
def nZ(rec5:Int→OI)(x6:Int)(x7:Bool):OI:=ak x7 (some 1) (rec5 (i64.wrap (x6+1)))
def AO:OI:=some 0
def fy(p2:aj)(l3:List ae):Nat→Int→OI
 |0,_=>none
 |k5+1,x6=>ak (decide (x6<(p2.stats.length:Int))) (am (at? p2.stats x6) fun e9=>am (eg e9.nulls 0 p2.rows) fun r10=>ak (!r10) (some 3) (am (at? l3 x6) fun e10=>am (oc e10.type e9.min) fun r11=>ak (r11 != 0) (some r11) (am (oc e10.type e9.max) fun r12=>ak (r12 != 0) (some r12) (ak (!((e9.min.kind==0)==(e9.nulls==p2.rows))) (nZ (fy p2 l3 k5) x6 true) (ak (!((e9.max.kind==0)==(e9.nulls==p2.rows))) (nZ (fy p2 l3 k5) x6 true) (am (bJ aH e9.min e9.max) fun r13=>nZ (fy p2 l3 k5) x6 (decide (0<r13)))))))) (AO)
def qP(p2:aj)(l3:List ae):OI:=fy p2 l3 aH 0
def jS(p2:aj)(l3:List ae):Nat→Int→OI
 |0,_=>none
 |k4+1,x5=>ak (decide (x5<((l3.length:Nat):Int))) (am (at? l3 x5) fun e7=>am (at? p2.stats x5) fun e8=>ak (e7.id != e8.id) (some 1) ((jS p2 l3 k4) (i64.wrap (x5+1)))) (qP p2 l3)
def lD(p2:aj)(l3:List ae):OI:=ak (((l3.length:Nat):Int) != (p2.stats.length:Int)) (some 1) (jS p2 l3 aH 0)
def gq(p2:aj)(e1:List ae):Nat→List ae→Int→OI
 |0,_,_=>none
 |k3+1,l1,x4=>ak (decide (x4<(e1.length:Int))) (am (at? e1 x4) fun e6=>am (gz e6.type.kind) fun r9=>ak r9 (iN (l1.length+1≤4294967296)<|qH (gq p2 e1 k3) x4 (l1++[e6])) (qH (gq p2 e1 k3) x4 l1)) (lD p2 l1)
def qL(p2:aj)(e1:List ae):OI:=gq p2 e1 aH [] 0
def jM(p2:aj)(e1:List ae)(e2:cg):Nat→Int→OI
 |0,_=>none
 |k2+1,x3=>ak (decide (x3<(e2.fields.length:Int))) (am (at? e2.fields x3) fun e4=>am (rk e1 e4.source) fun r6=>am (fR e4.transform r6.1.type) fun r7=>ak (r7.2 != 0) (some 2) (am (at? p2.part x3) fun e5=>am (oc r7.1 e5) fun r8=>ak (r8 != 0) (some r8) ((jM p2 e1 e2 k2) (i64.wrap (x3+1))))) (qL p2 e1)
def qQ(p2:aj)(e1:List ae)(e2:cg):OI:=ak ((p2.part.length:Int) != (e2.fields.length:Int)) (some 1) (jM p2 e1 e2 aH 0)
def iC(p2:aj)(e1:List ae)(e2:cg):Nat→Int→OI
 |0,_=>none
 |k1+1,x2=>ak (decide (x2<(e2.fields.length:Int))) (am (at? e2.fields x2) fun e3=>am (rk e1 e3.source) fun r5=>ak (!r5.2) (some 9) ((iC p2 e1 e2 k1) (i64.wrap (x2+1)))) (qQ p2 e1 e2)
def jN(p1:ax)(p2:aj)(x1:Bool):OI:=ak x1 (some 3) (am (at? p1.schemas p2.schema) fun e1=>am (at? p1.specs p2.spec) fun e2=>iC p2 e1 e2 aH 0)
def vW(p1:ax)(p2:aj):OI:=am (Av p2.name) fun r1=>ak (!r1) (some 4) (am (eg p2.schema 0 (i64.wrap ((p1.schemas.length:Int)-1))) fun r2=>ak (!r2) (jN p1 p2 true) (am (eg p2.spec 0 (i64.wrap ((p1.specs.length:Int)-1))) fun r3=>ak (!r3) (jN p1 p2 true) (am (eg p2.rows 1 2000) fun r4=>ak (!r4) (jN p1 p2 true) (jN p1 p2 (decide (p2.seq<1))))))
theorem H7(p1:ax)(p2:aj):CT prog 23 [mM p1,mF p2] (vW p1 p2) vi:=
  cI 235 [6,8,9,12,13,15,20,23] f23 fun r=>(aV (Lm _) fun r1=>(uC' (fun b5=>uz) (fun b5=>(cu f23 28 2 fun K k=>have J1:∀{x1},jN p1 p2 x1=some r→K.p [(2,vR [.ro ((eL af).els p1.schemas),.ro (fU.els p1.specs),pi p1.nextField,pi p1.nextSeq,pi p1.nextSnap,pi p1.purges,.ro (aU.els p1.snapshots),.ro (oS.els p1.refs),.ro (lE.els p1.props)]),(3,vR (gv p2)),(59,vb x1)] []:=fun{x1} h=>k h (uC uz (KJ 14 1 [0,1] (dS (eL af) fun e1=>(dS fU fun e2=>(kT f23 62 1 (qQ p2 e1 e2) [(3,vR (gv p2)),(5,vl af e1),(6,vQ 0)] [.box [cl aC e2.fields]] (uN ah p2.part (uN aC e2.fields (uC uz (kT f23 254 1 (qL p2 e1) [(3,vR (gv p2)),(5,vl af e1)] [.dead] (cu f23 1022 1 fun K k=>have J5:∀{l3},lD p2 l3=some r→K.p [(3,vR (gv p2)),(18,.one (.sl 1 6 0 l3.length))] [.dead,.arr 6 (af.els l3)]:=fun{l3} h=>k h (uN cA p2.stats (uC uz (kT f23 4094 1 (qP p2 l3) [(3,vR (gv p2)),(18,.one (.sl 1 6 0 l3.length))] [.dead,.arr 6 (af.els l3)] (kT f23 8190 1 AO [] [.dead,.dead] uz fun K J8=>(uN cA p2.stats (gc f23 32762 1 fun R b=>have L5:∀k5 {x6},fy p2 l3 k5 x6=some r→(R k5).p [(3,vR (gv p2)),(18,.one (.sl 1 6 0 l3.length)),(172,vl cA p2.stats),(173,vi p2.stats.length),(174,vi x6)] [.dead,.arr 6 (af.els l3)]:=uI (fW rfl) fun k5 i5 {x6} h=>b h (uU (fy.eq_2 ..) (uC (dS cA fun e9=>(aV (dP _ _ _) fun r10=>(uC jX (nt 7 (VH af 1 fun e10 a103=>(Yq af a103 (aV (vN _ _) fun r11=>(uC jX (nt 7 (uIb af 1 a103 (Yq af a103 (aV (vN _ _) fun r12=>(uC jX (cu f23 67097406 3 fun K k=>have J7:∀{x7},nZ (fy p2 l3 k5) x6 x7=some r→K.p [(3,vR (gv p2)),(18,.one (.sl 1 6 0 l3.length)),(172,vl cA p2.stats),(173,vi p2.stats.length),(174,vi x6),(233,vb x7)] [.dead,.arr 6 (af.els l3),.dead]:=fun{x7} h=>k h (uC jX (uJ i5));(uC (uJ J7) (uC (uJ J7) (aV (kV aH _ _) fun r13=>(uJ J7)))))))))))))))))) (uR (.exit 8) (xM (uJ J8)))));uE (L5 aH)))) fun K J6=>(gc f23 16378 1 fun R b=>have L4:∀k4 {x5},jS p2 l3 k4 x5=some r→(R k4).p [(3,vR (gv p2)),(18,.one (.sl 1 6 0 l3.length)),(154,vi ((l3.length:Nat):Int)),(155,vi x5)] [.dead,.arr 6 (af.els l3)]:=uI (fW rfl) fun k4 i4 {x5} h=>b h (uU (jS.eq_2 ..) (uC (nt 11 (VH af 1 fun e7 a84=>(Yq af a84 (dS cA fun e8=>(uC jX (uJ i4)))))) (uR (.exit 6) (xM (uJ J6)))));uE (L4 aH)))));(uN af e1 (Jw (.li 18 6) (gc f23 4090 1 fun R b=>have L3:∀k3 {l1 x4},gq p2 e1 k3 l1 x4=some r→(R k3).p [(3,vR (gv p2)),(18,.one (.sl 1 6 0 l1.length)),(132,vl af e1),(133,vi e1.length),(134,vi x4)] [.dead,.arr 6 (af.els l1)]:=uI (fW rfl) fun k3 i3 {l1 x4} h=>b h (uU (gq.eq_2 ..) (uC (cu f23 65446 1 fun K k=>have J4:∀{l2},qH (gq p2 e1 k3) x4 l2=some r→K.p [(3,vR (gv p2)),(18,.one (.sl 1 6 0 l2.length)),(132,vl af e1),(133,vi e1.length),(134,vi x4)] [.dead,.arr 6 (af.els l2)]:=fun{l2} h=>k h (uJ i3);(dS af fun e6=>(aV (iI _) fun r9=>(uC (uW 144 af [e6] (BY af 1 [e6] (uJ J4))) (uJ J4))))) (uR (.exit 4) (xM (uJ J5)))));uE (L3 aH))))) fun K J3=>(uN aC e2.fields (gc f23 1018 1 fun R b=>have L2:∀k2 {x3},jM p2 e1 e2 k2 x3=some r→(R k2).p [(3,vR (gv p2)),(5,vl af e1),(97,vl aC e2.fields),(98,vi e2.fields.length),(99,vi x3)] [.dead]:=uI (fW rfl) fun k2 i2 {x3} h=>b h (uU (jM.eq_2 ..) (uC (dS aC fun e4=>(aV (zr _ _) fun r6=>(aV (rW _ _) fun r7=>(uC jX (nt 6 (dS ah fun e5=>(aV (vN _ _) fun r8=>(uC jX (uJ i2))))))))) (uR (.exit 2) (xM (uJ J3)))));uE (L2 aH))))))) fun K J2=>(uN aC e2.fields (gc f23 250 1 fun R b=>have L1:∀k1 {x2},iC p2 e1 e2 k1 x2=some r→(R k1).p [(3,vR (gv p2)),(5,vl af e1),(6,vQ 0),(73,vl aC e2.fields),(74,vi e2.fields.length),(75,vi x2)] [.box [cl aC e2.fields]]:=uI (fW rfl) fun k1 i1 {x2} h=>b h (uU (iC.eq_2 ..) (uC (dS aC fun e3=>(aV (zr _ _) fun r5=>(uC jX (uJ i1)))) (uR (.exit 0) (xM (uJ J2)))));uE (L1 aH))))))));(uN (eL af) p1.schemas (aV (dP _ _ _) fun r2=>(uC (uJ J1) (uN fU p1.specs (aV (dP _ _ _) fun r3=>(uC (uJ J1) (aV (dP _ _ _) fun r4=>(uC (uJ J1) (uJ J1)))))))))))))
def FA:Option (aj×Bool):=some ((aj.mk ByteArray.empty 0 0 [] 0 0 []),false)
def pj(p1:aw)(p2:ByteArray):Nat→Int→Option (aj×Bool)
 |0,_=>none
 |k1+1,x1=>ak (decide (x1<(p1.files.length:Int))) (am (at? p1.files x1) fun e1=>ak (e1.name.toList==p2.toList) (some (e1,true)) ((pj p1 p2 k1) (i64.wrap (x1+1)))) (FA)
def BQ(p1:aw)(p2:ByteArray):Option (aj×Bool):=pj p1 p2 aH 0
abbrev Wo:List CV:=[qm ByteArray.empty,ci (0:Int),ci (0:Int),.pv (.s (.slice none 0 0)),ci (0:Int),ci (0:Int),.pv (.s (.slice none 0 0))]
theorem Ip(p1:aw)(p2:ByteArray):CT prog 40 [mS p1,vs p2] (BQ p1 p2) (fun r=> .tp [mF r.1,vb r.2]):=
  cI 22 [4,7] f40 fun r=>(kT f40 6 1 FA [(4,vQ 0)] [.box Wo] uz fun K J1=>(uN be p1.files (gc f40 26 1 fun R b=>have L1:∀k1 {x1},pj p1 p2 k1 x1=some r→(R k1).p [(1,vs p2),(4,vQ 0),(9,vl be p1.files),(10,vi p1.files.length),(11,vi x1)] [.box Wo]:=uI (fW rfl) fun k1 i1 {x1} h=>b h (uU (pj.eq_2 ..) (uC (dS be fun e1=>(uC jX (uJ i1))) (uR (.exit 0) (xM (uJ J1)))));uE (L1 aH))))
def zM(p1:List Int):OB:=some (decide (0<(p1.length:Int)))
def gQ(p1:List Int):Nat→Int→OB
 |0,_=>none
 |k1+1,x1=>ak (decide (x1<(p1.length:Int))) (am (at? p1 x1) fun e1=>am (at? p1 (i64.wrap (x1-1))) fun e2=>ak (decide (e1≤e2)) (some false) ((gQ p1 k1) (i64.wrap (x1+1)))) (zM p1)
def pX(p1:List Int):OB:=gQ p1 aH 1
theorem As(p1:List Int):CT prog 88 [vl eI p1] (pX p1) vb:=
  cI 23 [] f88 fun r=>(kT f88 6 1 (zM p1) [(0,vl eI p1)] [] (uN eI p1 uz) fun K J1=>(gc f88 26 1 fun R b=>have L1:∀k1 {x1},gQ p1 k1 x1=some r→(R k1).p [(0,vl eI p1),(3,vi x1)] []:=uI (fW rfl) fun k1 i1 {x1} h=>b h (uU (gQ.eq_2 ..) (uN eI p1 (uC (nt 9 (dS eI fun e1=>(dS eI fun e2=>(uC jX (uJ i1))))) (uR (.exit 0) (xM (uJ J1))))));uE (L1 aH)))
def pK(rec1:Int→OB)(x1:Int)(x2:Bool):OB:=ak x2 (some false) (rec1 (i64.wrap (x1+1)))
def zI:OB:=some true
def fT(p1:List Int)(p2:Int):Nat→Int→OB
 |0,_=>none
 |k1+1,x1=>ak (decide (x1<(p1.length:Int))) (am (at? p1 x1) fun e1=>ak (decide (e1<0)) (pK (fT p1 p2 k1) x1 true) (pK (fT p1 p2 k1) x1 (decide (p2≤e1)))) (zI)
def pW(p1:List Int)(p2:Int):OB:=fT p1 p2 aH 0
theorem G3(p1:List Int)(p2:Int):CT prog 89 [vl eI p1,vi p2] (pW p1 p2) vb:=
  cI 21 [] f89 fun r=>(kT f89 6 1 zI [] [] uz fun K J2=>(uN eI p1 (gc f89 26 1 fun R b=>have L1:∀k1 {x1},fT p1 p2 k1 x1=some r→(R k1).p [(1,vi p2),(7,vl eI p1),(8,vi p1.length),(9,vi x1)] []:=uI (fW rfl) fun k1 i1 {x1} h=>b h (uU (fT.eq_2 ..) (uC (dS eI fun e1=>(cu f89 3378 3 fun K k=>have J1:∀{x2},pK (fT p1 p2 k1) x1 x2=some r→K.p [(1,vi p2),(7,vl eI p1),(8,vi p1.length),(9,vi x1),(19,vb x2)] []:=fun{x2} h=>k h (uC jX (uJ i1));(uC (uJ J1) (uJ J1)))) (uR (.exit 0) (xM (uJ J2)))));uE (L1 aH))))
def xV(r1:(ae×Bool))(x1:Bool):Option (ae×Bool):=some (r1.1,x1)
def vh(p1:List ae)(p2:Int):Option (ae×Bool):=am (rk p1 p2) fun r1=>ak r1.2 (am (gz r1.1.type.kind) fun r2=>xV r1 r2) (xV r1 false)
theorem C8(p1:List ae)(p2:Int):CT prog 73 [vl af p1,vi p2] (vh p1 p2) (fun r=> .tp [mf r.1,vb r.2]):=
  cI 22 [4,6] f73 fun r=>(aV (zr _ _) fun r1=>(cu f73 14 1 fun K k=>have J1:∀{x1},xV r1 x1=some r→K.p [(4,vQ 0),(5,vb x1)] [.box [ci r1.1.id,qm r1.1.name,cb r1.1.need,ci r1.1.type.kind,ci r1.1.type.scale,cl af r1.1.type.fields],.dead]:=fun{x1} h=>k h uz;(KJ 9 0 [2] (uC (aV (iI _) fun r2=>(uJ J1)) (uJ J1)))))
def jj(p1 p2:List ac):OI:=am (bJ aH (ac.mk 6 0 0 ByteArray.empty p1) (ac.mk 6 0 0 ByteArray.empty p2)) fun r1=>some r1
theorem zL(p1 p2:List ac):CT prog 14 [vl ah p1,vl ah p2] (jj p1 p2) vi:=
  cI 10 [] f14 fun r=>(aV (kV aH _ _) fun r1=>uz)
def nK(rec3:Int→OI)(x3:Int)(x5:Bool):OI:=ak x5 (some 1) (rec3 (i64.wrap (x3+1)))
def qK(rec3:Int→OI)(p3:List (List ac))(p4:Bool)(x3:Int)(e4:List ac):OI:=ak p4 (ak (decide (0<x3)) (am (at? p3 (i64.wrap (x3-1))) fun e7=>am (jj e7 e4) fun r4=>nK rec3 x3 (decide (0≤r4))) (nK rec3 x3 false)) (nK rec3 x3 false)
def jI(rec3:Int→OI)(p1:List ae)(p2:List Int)(p3:List (List ac))(p4:Bool)(x3:Int)(e4:List ac):Nat→Int→OI
 |0,_=>none
 |k4+1,x4=>ak (decide (x4<(p2.length:Int))) (am (at? p2 x4) fun e5=>am (vh p1 e5) fun r2=>am (at? e4 x4) fun e6=>am (oc r2.1.type e6) fun r3=>ak (r3 != 0) (some r3) ((jI rec3 p1 p2 p3 p4 x3 e4 k4) (i64.wrap (x4+1)))) (qK rec3 p3 p4 x3 e4)
def AB:OI:=some 0
def dv(p1:List ae)(p2:List Int)(p3:List (List ac))(p4:Bool):Nat→Int→OI
 |0,_=>none
 |k3+1,x3=>ak (decide (x3<(p3.length:Int))) (am (at? p3 x3) fun e4=>ak ((e4.length:Int) != (p2.length:Int)) (some 1) (jI (dv p1 p2 p3 p4 k3) p1 p2 p3 p4 x3 e4 aH 0)) (AB)
def qE(p1:List ae)(p2:List Int)(p3:List (List ac))(p4:Bool):OI:=ak (decide (200<(p3.length:Int))) (some 7) (ak ((p3.length:Int)==0) (some 9) (dv p1 p2 p3 p4 aH 0))
def jK(p1:List ae)(p2:List Int)(p3:List (List ac))(p4:Bool):Nat→Int→OI
 |0,_=>none
 |k2+1,x2=>ak (decide (x2<(p2.length:Int))) (am (at? p2 x2) fun e2=>am (at? p2 (i64.wrap (x2-1))) fun e3=>ak (decide (e2≤e3)) (some 1) ((jK p1 p2 p3 p4 k2) (i64.wrap (x2+1)))) (qE p1 p2 p3 p4)
def qA(p1:List ae)(p2:List Int)(p3:List (List ac))(p4:Bool):OI:=jK p1 p2 p3 p4 aH 1
def jH(p1:List ae)(p2:List Int)(p3:List (List ac))(p4:Bool):Nat→Int→OI
 |0,_=>none
 |k1+1,x1=>ak (decide (x1<(p2.length:Int))) (am (at? p2 x1) fun e1=>am (vh p1 e1) fun r1=>ak (!r1.2) (some 9) ((jH p1 p2 p3 p4 k1) (i64.wrap (x1+1)))) (qA p1 p2 p3 p4)
def vL(p1:List ae)(p2:List Int)(p3:List (List ac))(p4:Bool):OI:=ak ((p2.length:Int)==0) (some 9) (jH p1 p2 p3 p4 aH 0)
theorem HE(p1:List ae)(p2:List Int)(p3:List (List ac))(p4:Bool):CT prog 144 [vl af p1,vl eI p2,vl (eL ah) p3,vb p4] (vL p1 p2 p3 p4) vi:=
  cI 113 [11,18] f144 fun r=>(uN eI p2 (uC' (fun b4=>uz) (fun b4=>(kT f144 14 1 (qA p1 p2 p3 p4) [(0,vl af p1),(1,vl eI p2),(2,vl (eL ah) p3),(3,vb p4)] [] (kT f144 30 1 (qE p1 p2 p3 p4) [(0,vl af p1),(1,vl eI p2),(2,vl (eL ah) p3),(3,vb p4)] [] (uN (eL ah) p3 (uC uz (uN (eL ah) p3 (uC uz (kT f144 254 1 AB [] [] uz fun K J5=>(uN (eL ah) p3 (gc f144 1018 1 fun R b=>have L3:∀k3 {x3},dv p1 p2 p3 p4 k3 x3=some r→(R k3).p [(0,vl af p1),(1,vl eI p2),(2,vl (eL ah) p3),(3,vb p4),(61,vl (eL ah) p3),(62,vi p3.length),(63,vi x3)] []:=uI (fW rfl) fun k3 i3 {x3} h=>b h (uU (dv.eq_2 ..) (uC (dS (eL ah) fun e4=>(uN ah e4 (uN eI p2 (uC jX (kT f144 260710 3 (qK (dv p1 p2 p3 p4 k3) p3 p4 x3 e4) [(0,vl af p1),(1,vl eI p2),(2,vl (eL ah) p3),(3,vb p4),(14,vi x3),(15,vl ah e4),(61,vl (eL ah) p3),(62,vi p3.length),(63,vi x3)] [] (cu f144 521422 3 fun K k=>have J4:∀{x5},nK (dv p1 p2 p3 p4 k3) x3 x5=some r→K.p [(0,vl af p1),(1,vl eI p2),(2,vl (eL ah) p3),(3,vb p4),(61,vl (eL ah) p3),(62,vi p3.length),(63,vi x3),(111,vb x5)] []:=fun{x5} h=>k h (uC jX (uJ i3));(uC (uC (dS (eL ah) fun e7=>(aV (zL _ _) fun r4=>(uJ J4))) (uJ J4)) (uJ J4))) fun K J3=>(uN eI p2 (gc f144 1042842 1 fun R b=>have L4:∀k4 {x4},jI (dv p1 p2 p3 p4 k3) p1 p2 p3 p4 x3 e4 k4 x4=some r→(R k4).p [(0,vl af p1),(1,vl eI p2),(2,vl (eL ah) p3),(3,vb p4),(14,vi x3),(15,vl ah e4),(61,vl (eL ah) p3),(62,vi p3.length),(63,vi x3),(73,vl eI p2),(74,vi p2.length),(75,vi x4)] []:=uI (fW rfl) fun k4 i4 {x4} h=>b h (uU (jI.eq_2 ..) (uC (dS eI fun e5=>(aV (C8 _ _) fun r2=>(nt 6 (dS ah fun e6=>(aV (vN _ _) fun r3=>(uC (uR .ret (xN (xN (xN (xN xF))))) (uJ i4))))))) (uR (.exit 6) (xM (uJ J3)))));uE (L4 aH)))))))) (uR (.exit 4) (xM (uJ J5)))));uE (L3 aH)))))))) fun K J2=>(gc f144 122 1 fun R b=>have L2:∀k2 {x2},jK p1 p2 p3 p4 k2 x2=some r→(R k2).p [(0,vl af p1),(1,vl eI p2),(2,vl (eL ah) p3),(3,vb p4),(13,vi x2)] []:=uI (fW rfl) fun k2 i2 {x2} h=>b h (uU (jK.eq_2 ..) (uN eI p2 (uC (nt 9 (dS eI fun e2=>(dS eI fun e3=>(uC jX (uJ i2))))) (uR (.exit 2) (xM (uJ J2))))));uE (L2 aH))) fun K J1=>(uN eI p2 (gc f144 58 1 fun R b=>have L1:∀k1 {x1},jH p1 p2 p3 p4 k1 x1=some r→(R k1).p [(0,vl af p1),(1,vl eI p2),(2,vl (eL ah) p3),(3,vb p4),(24,vl eI p2),(25,vi p2.length),(26,vi x1)] []:=uI (fW rfl) fun k1 i1 {x1} h=>b h (uU (jH.eq_2 ..) (uC (dS eI fun e1=>(aV (C8 _ _) fun r1=>(uC jX (uJ i1)))) (uR (.exit 0) (xM (uJ J1)))));uE (L1 aH)))))))
def pS(p1:ax)(p2:cX)(x1:Bool):OI:=ak x1 (some 3) (am (at? p1.schemas p2.schema) fun e1=>am (vL e1 p2.ids p2.keys true) fun r2=>some r2)
def yy(p1:ax)(p2:cX):OI:=am (eg p2.schema 0 (i64.wrap ((p1.schemas.length:Int)-1))) fun r1=>ak (!r1) (pS p1 p2 true) (pS p1 p2 (decide (p2.seq<1)))
theorem JI(p1:ax)(p2:cX):CT prog 90 [mM p1,mD p2] (yy p1 p2) vi:=
  cI 29 [] f90 fun r=>(cu f90 12 2 fun K k=>have J1:∀{x1},pS p1 p2 x1=some r→K.p [(2,vR [.ro ((eL af).els p1.schemas),.ro (fU.els p1.specs),pi p1.nextField,pi p1.nextSeq,pi p1.nextSnap,pi p1.purges,.ro (aU.els p1.snapshots),.ro (oS.els p1.refs),.ro (lE.els p1.props)]),(3,vR [pi p2.schema,.ro (eI.els p2.ids),.ro ((eL ah).els p2.keys),pi p2.seq]),(17,vb x1)] []:=fun{x1} h=>k h (uC uz (nt 10 (dS (eL af) fun e1=>(aV (HE _ _ _ _) fun r2=>uz))));(uN (eL af) p1.schemas (aV (dP _ _ _) fun r1=>(uC (uJ J1) (uJ J1)))))
def Bh:OB:=some false
def ou(p1:List aj)(p2:Int):Nat→Int→OB
 |0,_=>none
 |k1+1,x1=>ak (decide (x1<(p1.length:Int))) (am (at? p1 x1) fun e1=>ak (decide (e1.seq<p2)) (some true) ((ou p1 p2 k1) (i64.wrap (x1+1)))) (Bh)
def Ad(p1:List aj)(p2:Int):OB:=ou p1 p2 aH 0
theorem FN(p1:List aj)(p2:Int):CT prog 91 [vl be p1,vi p2] (Ad p1 p2) vb:=
  cI 18 [6] f91 fun r=>(kT f91 6 1 Bh [] [] uz fun K J1=>(uN be p1 (gc f91 26 1 fun R b=>have L1:∀k1 {x1},ou p1 p2 k1 x1=some r→(R k1).p [(1,vi p2),(7,vl be p1),(8,vi p1.length),(9,vi x1)] []:=uI (fW rfl) fun k1 i1 {x1} h=>b h (uU (ou.eq_2 ..) (uC (dS be fun e1=>(uC jX (uJ i1))) (uR (.exit 0) (xM (uJ J1)))));uE (L1 aH))))
end Go.Proofs.YtpiohnabdhpphaaGreatDoor
