/- The shelf's contract of utf8.ValidString, laid at this program. A part of the proof. Printed by a program: what the functions compute, and the proofs of their contracts. The reference's list: the loop that cuts all parts and gathers them by groups. -/
import Derived.Test.YtnecojeemmnnaaaGreatDoorProg
import Derived.Test.YtnecojeemmnnaaaGreatDoorChecked
import Derived.Test.YtnecojeemmnnaaaGreatDoorSxC
set_option linter.unusedVariables false
set_option linter.unusedSimpArgs false
set_option linter.unnecessarySimpa false
namespace Go.Proofs.YtnecojeemmnnaaaGreatDoor
open Go Go.SX Go.Shelf Go.Lib
def KR:Ren where
 f:=fun n=>if n=196 then 202 else if n=259 then 227 else n
 t:=fun n=>if n=0 then 0 else if n=3 then 3 else if n=4 then 4 else if n=5 then 5 else if n=9 then 9 else if n=12 then 12 else if n=46 then 180 else if n=53 then 142 else if n=119 then 236 else if n=138 then 238 else if n=139 then 239 else n
 g:=fun n=>if n=3 then 1 else if n=4 then 2 else n
set_option maxRecDepth 100000 in
theorem HE:Lays.n196 Tryz.prog KR where
 mixed:=by kernel_rfl
 f196:=by kernel_rfl
 f259:=by kernel_rfl
 t0:=by kernel_rfl
 a0:=fun w=>by kernel_rfl
 z0:=fun w=>by kernel_rfl
 v0:=fun w=>by kernel_rfl
 t3:=by kernel_rfl
 a3:=fun w=>by kernel_rfl
 z3:=fun w=>by kernel_rfl
 v3:=fun w=>by kernel_rfl
 t4:=by kernel_rfl
 a4:=fun w=>by kernel_rfl
 z4:=fun w=>by kernel_rfl
 v4:=fun w=>by kernel_rfl
 t5:=by kernel_rfl
 a5:=fun w=>by kernel_rfl
 z5:=fun w=>by kernel_rfl
 v5:=fun w=>by kernel_rfl
 t9:=by kernel_rfl
 a9:=fun w=>by kernel_rfl
 z9:=fun w=>by kernel_rfl
 v9:=fun w=>by kernel_rfl
 t12:=by kernel_rfl
 a12:=fun w=>by kernel_rfl
 z12:=fun w=>by kernel_rfl
 v12:=fun w=>by kernel_rfl
 t46:=by kernel_rfl
 a46:=fun w=>by kernel_rfl
 z46:=fun w=>by kernel_rfl
 v46:=fun w=>by kernel_rfl
 t53:=by kernel_rfl
 a53:=fun w=>by kernel_rfl
 z53:=fun w=>by kernel_rfl
 v53:=fun w=>by kernel_rfl
 t119:=by kernel_rfl
 a119:=fun w=>by kernel_rfl
 z119:=fun w=>by kernel_rfl
 t138:=by kernel_rfl
 a138:=fun w=>by kernel_rfl
 z138:=fun w=>by kernel_rfl
 v138:=fun w=>by kernel_rfl
 t139:=by kernel_rfl
 a139:=fun w=>by kernel_rfl
 z139:=fun w=>by kernel_rfl
 v139:=fun w=>by kernel_rfl
 g3:=by kernel_rfl
 g4:=by kernel_rfl
def utf8_ValidString(p1:ByteArray):Option Bool:=eh (p1.size≤9223372036854775807)<|some (validD p1.data.toList)
theorem oE(p1:ByteArray)(r:Bool)(h:utf8_ValidString p1=some r):PC Tryz.prog 202 [vs p1] (vb r):=by
 unfold utf8_ValidString at h
 obtain⟨g1,h⟩:=iq h
 obtain rfl:=Option.some.inj h
 exact xH HE (by kernel_rfl) (by kernel_rfl) p1 g1
end Go.Proofs.YtnecojeemmnnaaaGreatDoor
namespace Go.Proofs.YtnecojeemmnnaaaGreatDoor
open Go Go.SX
open Go.IntKind (i64)
structure aJ where
 reps:List Int
 defs:List Int
def ak:lD aJ:=lD.of 2 (fun p=>[.ro (eI.els p.reps),.ro (eI.els p.defs)]) (fun _=>rfl)
def iZ(rec1:List aJ→List Int→List Int→Int→Option (List aJ))(p1:aJ)(xs:List aJ)(a b:List Int)(i:Int):Option (List aJ):=
 aK (at? p1.reps i) fun e1=>
 eh (a.length+1≤4294967296)<|
 aK (at? p1.defs i) fun e2=>
 eh (b.length+1≤4294967296)<|
 rec1 xs (a++[e1]) (b++[e2]) (i64.wrap (i+(1:Int)))
def rH(rec1:List aJ→List Int→List Int→Int→Option (List aJ))(p1:aJ)(xs:List aJ)(a b:List Int)(i:Int)(x1:Bool):Option (List aJ):=
 aF x1
  (eh ((xs++[aJ.mk a b]).length+1≤4294967296)<|
   iZ rec1 p1 (xs++[aJ.mk a b]) [] [] i)
  (iZ rec1 p1 xs a b i)
def fa(p1:aJ)(p2:Int):Nat→List aJ→List Int→List Int→Int→Option (List aJ)
 |0,_,_,_,_=>none
 |k1+1,xs,a,b,i=>
  aF (decide (i<(p1.reps.length:Int)))
   (aF (decide (i=(0:Int)))
    (rH (fa p1 p2 k1) p1 xs a b i true)
    (aK (at? p1.reps i) fun e1=>rH (fa p1 p2 k1) p1 xs a b i (decide (e1≤p2))))
   (some (xs++[aJ.mk a b]))
def iY(p1:aJ)(p2:Int):Option (List aJ):=
 aF (decide ((0:Int)<(p1.reps.length:Int)))
  (iZ (fa p1 p2 1152921504606846975) p1 [] [] [] (0:Int))
  (some [])
theorem Lj{m:Nat}(h:m+1≤4294967296):i64.wrap (((m+1:Nat):Int)-1)=(m:Int):=by
 have e:((m+1:Nat):Int)-1=(m:Int):=by omega
 rw[e]
 unfold IntKind.wrap
 simp[IntKind.signed,IntKind.bits]
 omega
set_option maxRecDepth 100000
theorem qd(p1:aJ)(p2:Int):CT Tryz.prog 35 [.ag [cl eI p1.reps,cl eI p1.defs],vi p2] (iY p1 p2) (vl ak):=by
 refine hJ 66 [47,59] Tryz.f35 fun r=> ?_
 refine uQ (kS Tryz.f35 [1,1,0] 1) fun K1 hK1=> ?_
 have hJ0:∀(_:Unit),some []=some r→K1.p [(5,.one (.pv (.s (.slice none 0 0))))] []:=fun _ h=>hK1 h (by
  refine vq (.sf 4) ?_
  exact uR .ret xF)
 have hJf:∀(xs:List aJ) (a b:List Int),some (xs++[aJ.mk a b])=some r→K1.p [(5,.one (.sl 0 2 0 (xs.length+1)))] [.win 2 (ak.els xs).length (ak.els xs).flatten [.sl 1 1 0 a.length,.sl 2 1 0 b.length] [],.arr 1 (eI.els a),.arr 1 (eI.els b)]:=fun xs a b h=>hK1 h (by
  refine wd eI a 1 [] ?_
  refine wd eI b 2 [] ?_
  refine OF ak xs ⟨a,b⟩ 0 [.ro (eI.els a),.ro (eI.els b)] ?_ rfl (ak.els xs).length
  refine MU 0 (L:=xs.length+1) (m:=(xs++[aJ.mk a b]).length) (by simp) ?_
  refine wd ak (xs++[aJ.mk a b]) 0 [4] ?_
  exact uR .ret xF)
 refine uN eI p1.reps ?_
 refine uO (cd Tryz.f35 [1,1,0,1,0,0]) (kS Tryz.f35 [1,1,0,1,0] 1) fun R1 b1=> ?_
 have hL1:∀(k1:Nat) (xs:List aJ) (a b:List Int) (i:Int),xs.length+1≤4294967296→fa p1 p2 k1 xs a b i=some r→(R1 k1).p [(1,vi p2),(2,.one (.pv (.rp [[.ro (eI.els p1.reps),.ro (eI.els p1.defs)]] 0 0))),(5,.one (.sl 0 2 0 (xs.length+1))),(10,vi (p1.reps.length:Int)),(11,vi i)] [.win 2 (ak.els xs).length (ak.els xs).flatten [.sl 1 1 0 a.length,.sl 2 1 0 b.length] [],.arr 1 (eI.els a),.arr 1 (eI.els b)]:=by
  intro k1
  induction k1 with
  |zero=>intro xs a b i hx h;exact lK (fa.eq_1 ..) h
  |succ k1 ih1=>
   intro xs a b i hx h
   refine b1 h (uU (fa.eq_2 ..) (uC ?_ ?_))
   ·refine uQ (kS Tryz.f35 [1,1,0,1,0,0,1,1,0,0,1,0] 3) fun K7 hK7=> ?_
    have hJ2:∀(xs:List aJ) (a b:List Int),xs.length+1≤4294967296→iZ (fa p1 p2 k1) p1 xs a b i=some r→K7.p [(1,vi p2),(2,.one (.pv (.rp [[.ro (eI.els p1.reps),.ro (eI.els p1.defs)]] 0 0))),(5,.one (.sl 0 2 0 (xs.length+1))),(6,vi i),(10,vi (p1.reps.length:Int)),(11,vi i)] [.win 2 (ak.els xs).length (ak.els xs).flatten [.sl 1 1 0 a.length,.sl 2 1 0 b.length] [],.arr 1 (eI.els a),.arr 1 (eI.els b)]:=fun xs a b hx h=>hK7 h (by
     refine B9 34 2 [3,4,5] ?_
     have hkk:=Lj hx
     refine uD (p:=0≤i64.wrap (((xs.length+1:Nat):Int)-1)∧i64.wrap (((xs.length+1:Nat):Int)-1)<((xs.length+1:Nat):Int)) (by rw[hkk];omega) ?_
     refine uD (p:=0+(i64.wrap (((xs.length+1:Nat):Int)-1)).toNat=(ak.els xs).length) (by rw[hkk,lD.len];omega) ?_
     refine uL eI fun e1 a1=> ?_
     refine HU eI 1 [e1] ?_
     refine uD (p:=0≤i64.wrap (((xs.length+1:Nat):Int)-1)∧i64.wrap (((xs.length+1:Nat):Int)-1)<((xs.length+1:Nat):Int)) (by rw[hkk];omega) ?_
     refine uD (p:=0+(i64.wrap (((xs.length+1:Nat):Int)-1)).toNat=(ak.els xs).length) (by rw[hkk,lD.len];omega) ?_
     refine uL eI fun e2 a2=> ?_
     refine HU eI 2 [e2] ?_
     refine uD (p:=0≤i64.wrap (((xs.length+1:Nat):Int)-1)∧i64.wrap (((xs.length+1:Nat):Int)-1)<((xs.length+1:Nat):Int)) (by rw[hkk];omega) ?_
     refine Hz [0,3] 0 (.win 2 (ak.els xs).length (ak.els xs).flatten [.sl 3 1 0 (a++[e1]).length,.sl 2 1 0 b.length] []) (p:=0+(i64.wrap (((xs.length+1:Nat):Int)-1)).toNat=(ak.els xs).length) (by rw[hkk,lD.len];omega) ?_
     refine uD (p:=0≤i64.wrap (((xs.length+1:Nat):Int)-1)∧i64.wrap (((xs.length+1:Nat):Int)-1)<((xs.length+1:Nat):Int)) (by rw[hkk];omega) ?_
     refine Hz [0,4,3] 0 (.win 2 (ak.els xs).length (ak.els xs).flatten [.sl 3 1 0 (a++[e1]).length,.sl 4 1 0 (b++[e2]).length] []) (p:=0+(i64.wrap (((xs.length+1:Nat):Int)-1)).toNat=(ak.els xs).length) (by rw[hkk,lD.len];omega) ?_
     refine zy (.sw 1 3) ?_
     refine zy (.sw 2 4) ?_
     exact uJ (ih1 xs (a++[e1]) (b++[e2]) (i64.wrap (i+(1:Int))) hx))
    refine uC ?_ (uL eI fun e1 a1=> ?_)
    ·refine uU rfl ?_
     refine O5 27 (.one (.pv (.ro [[.s (.slice none 0 0),.s (.slice none 0 0)]]))) ?_
     refine wd eI a 1 [] ?_
     refine wd eI b 2 [] ?_
     refine OF ak xs ⟨a,b⟩ 0 [.ro (eI.els a),.ro (eI.els b)] ?_ rfl (ak.els xs).length
     refine Pb ak 0 [.s (.slice none 0 0),.s (.slice none 0 0)] (ys:=xs++[aJ.mk a b]) (L:=xs.length+1) (fun hx2=> ?_) (by simp)
     refine IE 2 0 (ak.els (xs++[aJ.mk a b])) [.s (.slice none 0 0),.s (.slice none 0 0)] ?_
     refine Gz 0 0 1 2 (ak.els (xs++[aJ.mk a b])).length (ak.els (xs++[aJ.mk a b])).flatten [.pv (.s (.slice none 0 0)),.pv (.s (.slice none 0 0))] [] ?_
     refine Gz 0 1 1 2 (ak.els (xs++[aJ.mk a b])).length (ak.els (xs++[aJ.mk a b])).flatten [.sl 3 1 0 0,.pv (.s (.slice none 0 0))] [] ?_
     refine zy (.sw 1 3) ?_
     refine zy (.sw 2 4) ?_
     exact uJ (hJ2 (xs++[aJ.mk a b]) [] [] hx2)
    ·refine uU rfl (uC ?_ ?_)
     ·refine O5 27 (.one (.pv (.ro [[.s (.slice none 0 0),.s (.slice none 0 0)]]))) ?_
      refine wd eI a 1 [] ?_
      refine wd eI b 2 [] ?_
      refine OF ak xs ⟨a,b⟩ 0 [.ro (eI.els a),.ro (eI.els b)] ?_ rfl (ak.els xs).length
      refine Pb ak 0 [.s (.slice none 0 0),.s (.slice none 0 0)] (ys:=xs++[aJ.mk a b]) (L:=xs.length+1) (fun hx2=> ?_) (by simp)
      refine IE 2 0 (ak.els (xs++[aJ.mk a b])) [.s (.slice none 0 0),.s (.slice none 0 0)] ?_
      refine Gz 0 0 1 2 (ak.els (xs++[aJ.mk a b])).length (ak.els (xs++[aJ.mk a b])).flatten [.pv (.s (.slice none 0 0)),.pv (.s (.slice none 0 0))] [] ?_
      refine Gz 0 1 1 2 (ak.els (xs++[aJ.mk a b])).length (ak.els (xs++[aJ.mk a b])).flatten [.sl 3 1 0 0,.pv (.s (.slice none 0 0))] [] ?_
      refine zy (.sw 1 3) ?_
      refine zy (.sw 2 4) ?_
      exact uJ (hJ2 (xs++[aJ.mk a b]) [] [] hx2)
     ·exact uJ (hJ2 xs a b hx)
   ·refine uR (.exit 0) (xM (uJ (hJf xs a b)))
 have hF:iY p1 p2=some r→(R1 aO).p [(1,vi p2),(2,.one (.pv (.rp [[.ro (eI.els p1.reps),.ro (eI.els p1.defs)]] 0 0))),(5,.one (.pv (.s (.slice none 0 0)))),(10,vi (p1.reps.length:Int)),(11,vi (0:Int))] []:=fun h=>by
   refine b1 (j:=1152921504606846975) h ?_
   refine uU rfl (uC ?_ ?_)
   ·refine uQ (kS Tryz.f35 [1,1,0,1,0,0,1,1,0,0,1,0] 3) fun K7 hK7=> ?_
    have hJ2:∀(xs:List aJ) (a b:List Int),xs.length+1≤4294967296→iZ (fa p1 p2 1152921504606846975) p1 xs a b (0:Int)=some r→K7.p [(1,vi p2),(2,.one (.pv (.rp [[.ro (eI.els p1.reps),.ro (eI.els p1.defs)]] 0 0))),(5,.one (.sl 0 2 0 (xs.length+1))),(6,vi (0:Int)),(10,vi (p1.reps.length:Int)),(11,vi (0:Int))] [.win 2 (ak.els xs).length (ak.els xs).flatten [.sl 1 1 0 a.length,.sl 2 1 0 b.length] [],.arr 1 (eI.els a),.arr 1 (eI.els b)]:=fun xs a b hx h=>hK7 h (by
     refine B9 34 2 [3,4,5] ?_
     have hkk:=Lj hx
     refine uD (p:=0≤i64.wrap (((xs.length+1:Nat):Int)-1)∧i64.wrap (((xs.length+1:Nat):Int)-1)<((xs.length+1:Nat):Int)) (by rw[hkk];omega) ?_
     refine uD (p:=0+(i64.wrap (((xs.length+1:Nat):Int)-1)).toNat=(ak.els xs).length) (by rw[hkk,lD.len];omega) ?_
     refine uL eI fun e1 a1=> ?_
     refine HU eI 1 [e1] ?_
     refine uD (p:=0≤i64.wrap (((xs.length+1:Nat):Int)-1)∧i64.wrap (((xs.length+1:Nat):Int)-1)<((xs.length+1:Nat):Int)) (by rw[hkk];omega) ?_
     refine uD (p:=0+(i64.wrap (((xs.length+1:Nat):Int)-1)).toNat=(ak.els xs).length) (by rw[hkk,lD.len];omega) ?_
     refine uL eI fun e2 a2=> ?_
     refine HU eI 2 [e2] ?_
     refine uD (p:=0≤i64.wrap (((xs.length+1:Nat):Int)-1)∧i64.wrap (((xs.length+1:Nat):Int)-1)<((xs.length+1:Nat):Int)) (by rw[hkk];omega) ?_
     refine Hz [0,3] 0 (.win 2 (ak.els xs).length (ak.els xs).flatten [.sl 3 1 0 (a++[e1]).length,.sl 2 1 0 b.length] []) (p:=0+(i64.wrap (((xs.length+1:Nat):Int)-1)).toNat=(ak.els xs).length) (by rw[hkk,lD.len];omega) ?_
     refine uD (p:=0≤i64.wrap (((xs.length+1:Nat):Int)-1)∧i64.wrap (((xs.length+1:Nat):Int)-1)<((xs.length+1:Nat):Int)) (by rw[hkk];omega) ?_
     refine Hz [0,4,3] 0 (.win 2 (ak.els xs).length (ak.els xs).flatten [.sl 3 1 0 (a++[e1]).length,.sl 4 1 0 (b++[e2]).length] []) (p:=0+(i64.wrap (((xs.length+1:Nat):Int)-1)).toNat=(ak.els xs).length) (by rw[hkk,lD.len];omega) ?_
     refine zy (.sw 1 3) ?_
     refine zy (.sw 2 4) ?_
     exact uJ (hL1 1152921504606846975 xs (a++[e1]) (b++[e2]) (i64.wrap ((0:Int)+(1:Int))) hx))
    refine uT ?_
    refine O5 27 (.one (.pv (.ro [[.s (.slice none 0 0),.s (.slice none 0 0)]]))) ?_
    refine OS 2 [.s (.slice none 0 0),.s (.slice none 0 0)] ?_
    refine IE 2 0 [] [.s (.slice none 0 0),.s (.slice none 0 0)] ?_
    refine Gz 0 0 1 2 0 [] [.pv (.s (.slice none 0 0)),.pv (.s (.slice none 0 0))] [] ?_
    refine Gz 0 1 1 2 0 [] [.sl 1 1 0 0,.pv (.s (.slice none 0 0))] [] ?_
    exact uJ (hJ2 [] [] [] (by decide))
   ·refine uR (.exit 0) (xM (uJ (hJ0 ())))
 exact uE hF
end Go.Proofs.YtnecojeemmnnaaaGreatDoor
namespace Go.Proofs.YtnecojeemmnnaaaGreatDoor
open Go.SX Go Tryz
open Go.IntKind (i64)
set_option maxRecDepth 100000
set_option maxHeartbeats 8000000
abbrev OI:=Option Int
abbrev OB:=Option Bool
abbrev mV(x:aa):AV:= .ag [ci x.kind,ci x.n,ci x.scale,lL x.s,cl ac x.items]
abbrev mT(x:aq):AV:= .ag [ci x.kind,ci x.scale,cl ab x.fields]
abbrev mf(x:af):AV:= .ag [ci x.id,lL x.name,cb x.need,ci x.type.kind,ci x.type.scale,cl ab x.type.fields]
abbrev mW(x:cy):AV:= .ag [cb x.neg,ck .u64 x.size.1,ck .u64 x.size.2.1,ck .u64 x.size.2.2.1,ck .u64 x.size.2.2.2]
def yJ:Option (List af):=some ([(jU.mk 1 (ByteArray.mk #[97]) false (aq.mk 2 0 []))])
theorem AS:CT prog 28 [] (yJ) (vl ab):=
  hJ 4 [] f28 fun r=>uz
def wq(p1:Int):Option aa:=some (aa.mk 2 p1 0 ByteArray.empty [])
theorem zi(p1:Int):CT prog 29 [vi p1] (wq p1) (fun r=>mV r):=
  hJ 5 [2] f29 fun r=>uz
def nh(x1:Bool):OB:=some x1
def ov(p1:aq):OB:=aF (p1.kind != 6) (nh (p1.kind != 7)) (nh false)
theorem u5(p1:aq):CT prog 143 [mT p1] (ov p1) vb:=
  hJ 11 [] f143 fun r=>(gr f143 6 1 fun K k=>have J1:∀{x1},nh x1=some r→K.p [(2,vb x1)] []:=fun{x1} h=>k h uz;(uC (uJ J1) (uJ J1)))
def eE(x1:Bool):OB:=some x1
def nS(p1:Int):OB:=aF (decide (p1<97)) (aF (decide (p1<48)) (eE (p1 != 95)) (aF (decide (57<p1)) (eE (p1 != 95)) (eE false))) (aF (decide (122<p1)) (aF (decide (p1<48)) (eE (p1 != 95)) (aF (decide (57<p1)) (eE (p1 != 95)) (eE false))) (eE false))
theorem xU(p1:Int):CT prog 200 [vk .i32 p1] (nS p1) vb:=
  hJ 21 [] f200 fun r=>(gr f200 6 1 fun K k=>have J1:∀{x1},eE x1=some r→K.p [(2,vb x1)] []:=fun{x1} h=>k h uz;(uC (uC (uJ J1) (uC (uJ J1) (uJ J1))) (uC (uC (uJ J1) (uC (uJ J1) (uJ J1))) (uJ J1))))
def gq:OI:=some (-1)
def bJ(p1:ByteArray)(p2:Bool):Nat→Nat→OI
 |0,_=>none
 |k1+1,z1=>aF (decide (z1<p1.size)) (aK (nS (Int.ofNat (Utf8.decode p1 z1).1)) fun r1=>aF (r1==p2) (some (Int.ofNat z1)) ((bJ p1 p2 k1) (z1+(Utf8.decode p1 z1).2))) (gq)
def eR(p1:ByteArray)(p2:Bool):OI:=bJ p1 p2 aO 0
theorem kI(p1:ByteArray)(p2:Bool):CT prog 238 [vs p1,.one (.pv (.fn 200 [])),vb p2] (eR p1 p2) vi:=
  hJ 21 [] f238 fun r=>(sM f238 6 1 gq [] [] uz fun K J1=>(Pa p1 (mC f238 26 1 fun R b=>have L1:∀k1 {z1},bJ p1 p2 k1 z1=some r→(R k1).p [(1,.one (.pv (.fn 200 []))),(2,vb p2),(10,vQ 0)] [.raw (.stringIter p1 z1)]:=uI (lK rfl) fun k1 i1 {z1} h=>b h (uU (bJ.eq_2 ..) (Pg 0 (fun b5=>(uT (dp (xU _) fun r1=>(uC wj (uJ i1))))) (fun b5=>(uF (uR (.exit 0) (xM (uJ J1)))))));uE (L1 aO))))
def eQ(p1:ByteArray):OI:=aK (eR p1 true) fun r1=>some r1
theorem kG(p1:ByteArray):CT prog 226 [vs p1,.one (.pv (.fn 200 []))] (eQ p1) vi:=
  hJ 8 [] f226 fun r=>(dp (kI _ _) fun r1=>uz)
def ei(p1:ByteArray):OB:=aK (eQ p1) fun r1=>some (decide (0≤r1))
theorem ka(p1:ByteArray):CT prog 201 [vs p1,.one (.pv (.fn 200 []))] (ei p1) vb:=
  hJ 9 [] f201 fun r=>(dp (kG _) fun r1=>uz)
def jx(p1:ByteArray)(x1:Bool):OB:=aF x1 (some false) (aK (ei p1) fun r1=>some (!r1))
def qE(p1:ByteArray):OB:=aF (p1.toList==(ByteArray.mk #[]).toList) (jx p1 true) (aF (decide ((24:Int)<(p1.size:Int))) (jx p1 true) (eh (0≤(0:Int)∧(0:Int)<(p1.size:Int))<|aK (some (decide (((p1.data.toList.getD (0:Int).toNat 0).toNat:Int)<(97:Int)))) fun y1=>aF y1 (jx p1 true) (eh (0≤(0:Int)∧(0:Int)<(p1.size:Int))<|aK (some (decide ((122:Int)<((p1.data.toList.getD (0:Int).toNat 0).toNat:Int)))) fun y2=>jx p1 y2)))
theorem Bv(p1:ByteArray):CT prog 183 [vs p1] (qE p1) vb:=
  hJ 25 [] f183 fun r=>(gr f183 12 2 fun K k=>have J1:∀{x1},jx p1 x1=some r→K.p [(0,vs p1),(20,vb x1)] []:=fun{x1} h=>k h (uC uz (dp (ka _) fun r1=>uz));(uC (uJ J1) (uC (uJ J1) (uG (uY 14 vb fun y1=>(uC (uJ J1) (uG (uY 19 vb fun y2=>(uJ J1)))))))))
def oJ(p1:af):OB:=aK (qE p1.name) fun r1=>some (!r1)
theorem vE(p1:af):CT prog 182 [mf p1] (oJ p1) vb:=
  hJ 7 [] f182 fun r=>(dp (Bv _) fun r1=>uz)
def dc:OI:=some (-1)
def aw(p1:List af):Nat→Int→OI
 |0,_=>none
 |k1+1,x1=>aF (decide (x1<(p1.length:Int))) (aK (at? p1 x1) fun e1=>aK (oJ e1) fun r1=>aF r1 (some x1) ((aw p1 k1) (i64.wrap (x1+1)))) (dc)
def cg(p1:List af):OI:=aw p1 aO 0
theorem fR(p1:List af):CT prog 199 [vl ab p1,.one (.pv (.fn 182 []))] (cg p1) vi:=
  hJ 19 [] f199 fun r=>(sM f199 6 1 dc [] [] uz fun K J1=>(uN ab p1 (mC f199 26 1 fun R b=>have L1:∀k1 {x1},aw p1 k1 x1=some r→(R k1).p [(0,vl ab p1),(1,.one (.pv (.fn 182 []))),(7,vi p1.length),(8,vi x1)] []:=uI (lK rfl) fun k1 i1 {x1} h=>b h (uU (aw.eq_2 ..) (uC (jO ab fun e1=>(dp (vE _) fun r1=>(uC wj (uJ i1)))) (uR (.exit 0) (xM (uJ J1)))));uE (L1 aO))))
def bt(p1:List af):OB:=aK (cg p1) fun r1=>some (decide (0≤r1))
theorem fi(p1:List af):CT prog 181 [vl ab p1,.one (.pv (.fn 182 []))] (bt p1) vb:=
  hJ 9 [] f181 fun r=>(dp (fR _) fun r1=>uz)
def oB(p1 p2:af):Option (Bool×af):=some ((p1.name.toList==p2.name.toList),p2)
theorem vN(p1 p2:af):CM prog 184 [mf p1,vQ 0] [.box [ci p2.id,lL p2.name,cb p2.need,ci p2.type.kind,ci p2.type.scale,cl ab p2.type.fields]] (oB p1 p2) (fun r=>vb r.1) (fun r=>[.box [ci r.2.id,lL r.2.name,cb r.2.need,ci r.2.type.kind,ci r.2.type.scale,cl ab r.2.type.fields]]):=
  q9 1 9 [] f184 fun r=>(uR .ret oj)
def bZ(z7:Int)(z8:ByteArray)(z9:Bool)(z10 z11:Int)(z12:List af):Option (Int×af):=some ((-1),(jU.mk z7 z8 z9 (aq.mk z10 z11 z12)))
def am(p1:List af):Nat→Int→ByteArray→Bool→Int→Int→List af→Int→Option (Int×af)
 |0,_,_,_,_,_,_,_=>none
 |k1+1,z1,z2,z3,z4,z5,z6,x1=>aF (decide (x1<(p1.length:Int))) (aK (at? p1 x1) fun e1=>aK (oB e1 (jU.mk z1 z2 z3 (aq.mk z4 z5 z6))) fun r1=>aF r1.1 (some (x1,r1.2)) ((am p1 k1) r1.2.id r1.2.name r1.2.need r1.2.type.kind r1.2.type.scale r1.2.type.fields (i64.wrap (x1+1)))) (bZ z1 z2 z3 z4 z5 z6)
def ce(p1:List af)(p2:af):Option (Int×af):=am p1 aO p2.id p2.name p2.need p2.type.kind p2.type.scale p2.type.fields 0
theorem fT(p1:List af)(p2:af):CM prog 199 [vl ab p1,.one (.fn 184 [.pt 0 0 0 0])] [.box [ci p2.id,lL p2.name,cb p2.need,ci p2.type.kind,ci p2.type.scale,cl ab p2.type.fields]] (ce p1 p2) (fun r=>vi r.1) (fun r=>[.box [ci r.2.id,lL r.2.name,cb r.2.need,ci r.2.type.kind,ci r.2.type.scale,cl ab r.2.type.fields]]):=
  q9 1 19 [] f199 fun r=>(gr f199 6 1 fun K k=>have J1:∀{z7 z8 z9 z10 z11 z12},bZ z7 z8 z9 z10 z11 z12=some r→K.p [] [.box [ci z7,lL z8,cb z9,ci z10,ci z11,cl ab z12]]:=fun{z7 z8 z9 z10 z11 z12} h=>k h (uR .ret oj);(uN ab p1 (mC f199 26 1 fun R b=>have L1:∀k1 {z1 z2 z3 z4 z5 z6 x1},am p1 k1 z1 z2 z3 z4 z5 z6 x1=some r→(R k1).p [(0,vl ab p1),(1,.one (.fn 184 [.pt 0 0 0 0])),(7,vi p1.length),(8,vi x1)] [.box [ci z1,lL z2,cb z3,ci z4,ci z5,cl ab z6]]:=uI (lK rfl) fun k1 i1 {z1 z2 z3 z4 z5 z6 x1} h=>b h (uU (am.eq_2 ..) (uC (jO ab fun e1=>(wP true [0] (vN _ _) fun r1 _=>(uC (uR .ret (xN (xN oj))) (uJ i1)))) (uR (.exit 0) (xM (uJ J1)))));uE (L1 aO))))
def bu(p1:List af)(p2:af):Option (Bool×af):=aK (ce p1 p2) fun r1=>some ((decide (0≤r1.1)),r1.2)
theorem fh(p1:List af)(p2:af):CM prog 181 [vl ab p1,.one (.fn 184 [.pt 0 0 0 0])] [.box [ci p2.id,lL p2.name,cb p2.need,ci p2.type.kind,ci p2.type.scale,cl ab p2.type.fields]] (bu p1 p2) (fun r=>vb r.1) (fun r=>[.box [ci r.2.id,lL r.2.name,cb r.2.need,ci r.2.type.kind,ci r.2.type.scale,cl ab r.2.type.fields]]):=
  q9 1 9 [] f181 fun r=>(wP true [0] (fT _ _) fun r1 _=>(uR .ret oj))
def lc(x1:Bool):OI:=aF x1 (some 1) (some 0)
def qF:OI:=some 0
def dX(p1:aq):Nat→Int→OI
 |0,_=>none
 |k1+1,x2=>aF (decide (x2<(p1.fields.length:Int))) (aK (at? p1.fields x2) fun e2=>eh (0≤(0:Int)∧(0:Int)≤x2∧x2≤(p1.fields.length:Int))<|aK (bu ((p1.fields.drop (0:Int).toNat).take (x2.toNat-(0:Int).toNat)) e2) fun r2=>aF r2.1 (some (5:Int)) ((dX p1 k1) (i64.wrap (x2+1)))) (qF)
def nW(p1:aq):OI:=aF (p1.kind==6) (aF ((p1.fields.length:Int) != 1) (lc true) (aK (at? p1.fields 0) fun e1=>lc (!(e1.name.toList==(ByteArray.mk #[]).toList)))) (aF (p1.kind != 7) (aF (decide (0<(p1.fields.length:Int))) (some 1) (some 0)) (aF ((p1.fields.length:Int)==0) (some 1) (aK (bt p1.fields) fun r1=>aF r1 (some 4) (dX p1 aO 0))))
theorem xm(p1:aq):CT prog 144 [mT p1] (nW p1) vi:=
  hJ 52 [4] f144 fun r=>(uC (gr f144 200 4 fun K k=>have J1:∀{x1},lc x1=some r→K.p [(20,vb x1)] []:=fun{x1} h=>k h (uC uz uz);(uN ab p1.fields (uC (uJ J1) (jO ab fun e1=>(uJ J1))))) (uC (uN ab p1.fields (uC uz uz)) (uN ab p1.fields (uC uz (dp (fi _) fun r1=>(uC uz (sM f144 30 1 qF [] [] uz fun K J2=>(uN ab p1.fields (mC f144 122 1 fun R b=>have L1:∀k1 {x2},dX p1 k1 x2=some r→(R k1).p [(1,vR [pi p1.kind,pi p1.scale,.ro (ab.els p1.fields)]),(38,vl ab p1.fields),(39,vi p1.fields.length),(40,vi x2)] []:=uI (lK rfl) fun k1 i1 {x2} h=>b h (uU (dX.eq_2 ..) (uC (jO ab fun e2=>(uX ab (wP true [0] (fh _ _) fun r2 _=>(uC wj (uJ i1))))) (uR (.exit 1) (xM (uJ J2)))));uE (L1 aO))))))))))
def lS(z3:Int):Option (Int×cH):=some (0,(cH.mk z3))
def cR(q_value_checker_check:aq→Int→cH→Option (Int×cH))(p1:aq)(p2:Int):Nat→Int→Int→Option (Int×cH)
 |0,_,_=>none
 |k1+1,z2,x4=>aF (decide (x4<(p1.fields.length:Int))) (aK (at? p1.fields x4) fun e1=>aK (q_value_checker_check e1.type (i64.wrap (p2+1)) (cH.mk z2)) fun r4=>aF (r4.1 != 0) (some (r4.1,r4.2)) ((cR q_value_checker_check p1 p2 k1) r4.2.leaves (i64.wrap (x4+1)))) (lS z2)
def dk(q_value_checker_check:aq→Int→cH→Option (Int×cH))(p1:aq)(p2 z1:Int)(x3:Bool):Option (Int×cH):=aF x3 (some (1,(cH.mk z1))) (aK (nW p1) fun r3=>aF (r3 != 0) (some (r3,(cH.mk z1))) (cR q_value_checker_check p1 p2 aO z1 0))
def gx(q_value_checker_check:aq→Int→cH→Option (Int×cH))(p1:aq)(p2 z1:Int)(x2:Bool):Option (Int×cH):=aF x2 (some (3,(cH.mk z1))) (aF (p1.scale != 0) (aF (p1.kind != 3) (dk q_value_checker_check p1 p2 z1 true) (aF (decide (p1.scale<0)) (dk q_value_checker_check p1 p2 z1 true) (dk q_value_checker_check p1 p2 z1 (decide (12<p1.scale))))) (dk q_value_checker_check p1 p2 z1 false))
def ea(q_value_checker_check:aq→Int→cH→Option (Int×cH))(p1:aq)(p2 z1:Int):Option (Int×cH):=aF (decide (p1.kind<1)) (gx q_value_checker_check p1 p2 z1 true) (gx q_value_checker_check p1 p2 z1 (decide (7<p1.kind)))
def d8(q_value_checker_check:aq→Int→cH→Option (Int×cH))(p1:aq)(p2:Int)(p3:cH)(x1:Bool):Option (Int×cH):=aF x1 (some (7,p3)) (aK (ov p1) fun r2=>aF r2 (ea q_value_checker_check p1 p2 (i64.wrap (p3.leaves+1))) (ea q_value_checker_check p1 p2 p3.leaves))
def bc:Nat→aq→Int→cH→Option (Int×cH)
 |0,_,_,_=>none
 |k0+1,p1,p2,p3=>aF (decide (4<p2)) (d8 (bc k0) p1 p2 p3 true) (aK (ov p1) fun r1=>aF r1 (d8 (bc k0) p1 p2 p3 (p3.leaves==40)) (d8 (bc k0) p1 p2 p3 false))
abbrev lQ(p1:aq):List PV:=[pi p1.kind,pi p1.scale,.ro (ab.els p1.fields)]
theorem mL:∀(k0:Nat) (p1:aq) (p2:Int) (p3:cH),CM prog 89 [vQ 0,mT p1,vi p2] [.box [ci p3.leaves]] (bc k0 p1 p2 p3) (fun r=>vi r.1) (fun r=>[.box [ci r.2.leaves]])
  |0,_,_,_=>HI (bc.eq_1 ..)
  |k0+1,p1,p2,p3=>q9 1 83 [9] f89 fun r=>(uU (bc.eq_2 ..) (gr f89 12 2 fun K k=>have J1:∀{x1},d8 (bc k0) p1 p2 p3 x1=some r→K.p [(0,vQ 0),(2,vi p2),(4,vR (lQ p1)),(23,vb x1)] [.box [ci p3.leaves]]:=fun{x1} h=>k h (uC (uR .ret oj) (gr f89 14 1 fun K k=>have J2:∀{z1},ea (bc k0) p1 p2 z1=some r→K.p [(0,vQ 0),(2,vi p2),(4,vR (lQ p1))] [.box [ci z1]]:=fun{z1} h=>k h (gr f89 120 3 fun K k=>have J3:∀{x2},gx (bc k0) p1 p2 z1 x2=some r→K.p [(0,vQ 0),(2,vi p2),(4,vR (lQ p1)),(33,vb x2)] [.box [ci z1]]:=fun{x2} h=>k h (uC (uR .ret oj) (gr f89 486 3 fun K k=>have J4:∀{x3},dk (bc k0) p1 p2 z1 x3=some r→K.p [(0,vQ 0),(2,vi p2),(4,vR (lQ p1)),(42,vb x3)] [.box [ci z1]]:=fun{x3} h=>k h (uC (uR .ret oj) (dp (xm _) fun r3=>(uC (uR .ret oj) (gr f89 126 1 fun K k=>have J5:∀{z3},lS z3=some r→K.p [] [.box [ci z3]]:=fun{z3} h=>k h (uR .ret oj);(uN ab p1.fields (mC f89 506 1 fun R b=>have L1:∀k1 {z2 x4},cR (bc k0) p1 p2 k1 z2 x4=some r→(R k1).p [(0,vQ 0),(2,vi p2),(67,vl ab p1.fields),(68,vi p1.fields.length),(69,vi x4)] [.box [ci z2]]:=uI (lK rfl) fun k1 i1 {z2 x4} h=>b h (uU (cR.eq_2 ..) (uC (jO ab fun e1=>(wP true [0] (mL k0 _ _ _) fun r4 _=>(uC (uR .ret (xN (xN oj))) (uJ i1)))) (uR (.exit 1) (xM (uJ J5)))));uE (L1 aO)))))));(uC (uC (uJ J4) (uC (uJ J4) (uJ J4))) (uJ J4))));(uC (uJ J3) (uJ J3)));(dp (u5 _) fun r2=>(uC (uJ J2) (uJ J2)))));(uC (uJ J1) (dp (u5 _) fun r1=>(uC (uJ J1) (uJ J1))))))
def gf(p1:aq):OI:=aK (bc aO p1 1 (cH.mk 0)) fun r1=>some r1.1
theorem o9(p1:aq):CT prog 40 [mT p1] (gf p1) vi:=
  hJ 9 [5] f40 fun r=>(wP true [0] (mL aO _ _ _) fun r1 _=>uz)
def iH(p1:af)(p2:List (Int×Int)):Option (Int×(List (Int×Int))):=aF (decide (p1.id<1)) (some (3,p2)) (aK (some ((iC (mD .i64) p2 p1.id).getD 0)) fun x1=>aK (some ((iC (mD .i64) (iy (mD .i64) p2 p1.id (i64.wrap (x1+1))) p1.id).getD 0)) fun x2=>aF (decide (1<x2)) (some (5,(iy (mD .i64) p2 p1.id (i64.wrap (x1+1))))) (some (0,(iy (mD .i64) p2 p1.id (i64.wrap (x1+1))))))
theorem qN(p1:af)(p2:List (Int×Int)):CM prog 76 [mf p1,vQ 0] [.box [.mp 1],nH (mD .i64) eI false p2] (iH p1 p2) (fun r=>vi r.1) (fun r=>[.box [.mp 1],nH (mD .i64) eI false r.2]):=
  q9 2 17 [] f76 fun r=>(uC (uR .ret oj) (O7 (mD .i64) eI false 1 (0:Int) 3 3 false fun x1 _=>(Pv (mD .i64) eI false 1 (m:=p2) (k0:=p1.id) (u:=(i64.wrap (x1+1))) 3 (O7 (mD .i64) eI false 1 (0:Int) 3 3 false fun x2 _=>(uC (uR .ret oj) (uR .ret oj))))))
def ej(z2:List (Int×Int)):Option (Int×(List (Int×Int))):=some (0,z2)
def bw(q_value_Walk_of_value_CheckSchema_1:(List af)→(List (Int×Int))→Option (Int×(List (Int×Int))))(p1:List af):Nat→(List (Int×Int))→Int→Option (Int×(List (Int×Int)))
 |0,_,_=>none
 |k1+1,z1,x1=>aF (decide (x1<(p1.length:Int))) (aK (at? p1 x1) fun e1=>aK (iH e1 z1) fun r1=>aF (r1.1 != 0) (some (r1.1,r1.2)) (aK (q_value_Walk_of_value_CheckSchema_1 e1.type.fields r1.2) fun r2=>aF (r2.1 != 0) (some (r2.1,r2.2)) ((bw q_value_Walk_of_value_CheckSchema_1 p1 k1) r2.2 (i64.wrap (x1+1))))) (ej z1)
def aS:Nat→(List af)→(List (Int×Int))→Option (Int×(List (Int×Int)))
 |0,_,_=>none
 |k0+1,p1,p2=>bw (aS k0) p1 aO p2 0
theorem gH:∀(k0:Nat) (p1:List af) (p2:List (Int×Int)),CM prog 75 [vl ab p1,.one (.fn 76 [.pt 0 0 0 0])] [.box [.mp 1],nH (mD .i64) eI false p2] (aS k0 p1 p2) (fun r=>vi r.1) (fun r=>[.box [.mp 1],nH (mD .i64) eI false r.2])
  |0,_,_=>HI (aS.eq_1 ..)
  |k0+1,p1,p2=>q9 2 30 [6] f75 fun r=>(uU (aS.eq_2 ..) (gr f75 6 1 fun K k=>have J1:∀{z2},ej z2=some r→K.p [] [.box [.mp 1],nH (mD .i64) eI false z2]:=fun{z2} h=>k h (uR .ret oj);(uN ab p1 (mC f75 26 1 fun R b=>have L1:∀k1 {z1 x1},bw (aS k0) p1 k1 z1 x1=some r→(R k1).p [(1,.one (.fn 76 [.pt 0 0 0 0])),(9,vl ab p1),(10,vi p1.length),(11,vi x1)] [.box [.mp 1],nH (mD .i64) eI false z1]:=uI (lK rfl) fun k1 i1 {z1 x1} h=>b h (uU (bw.eq_2 ..) (uC (jO ab fun e1=>(wP true [0,1] (qN _ _) fun r1 _=>(uC (uR .ret (xN (xN oj))) (wP true [0,1] (gH k0 _ _) fun r2 _=>(uC (uR .ret (xN (xN oj))) (uJ i1)))))) (uR (.exit 0) (xM (uJ J1)))));uE (L1 aO)))))
def dL(p1:List af):OI:=aK (gf (aq.mk 7 0 p1)) fun r1=>aF (r1 != 0) (some r1) (aK (aS aO p1 []) fun r2=>some r2.1)
theorem nL(p1:List af):CT prog 30 [vl ab p1] (dL p1) vi:=
  hJ 15 [4] f30 fun r=>(dp (o9 _) fun r1=>(uC uz (PD (mD .i64) eI false (wP true [1,0] (gH aO _ _) fun r2 _=>uz))))
def jr(x1:Bool):OB:=some x1
def eF(p1 p2 p3:Int):OB:=aF (decide (p2≤p1)) (jr (decide (p1≤p3))) (jr false)
theorem gV(p1 p2 p3:Int):CT prog 176 [vi p1,vi p2,vi p3] (eF p1 p2 p3) vb:=
  hJ 15 [] f176 fun r=>(gr f176 6 1 fun K k=>have J1:∀{x1},jr x1=some r→K.p [(6,vb x1)] []:=fun{x1} h=>k h uz;(uC (uJ J1) (uJ J1)))
def nm(rec1:Nat→OB)(p1:ByteArray)(z1:Nat)(x2:Bool):OB:=aF x2 (some false) (rec1 (z1+(Utf8.decode p1 z1).2))
def ph:OB:=some true
def gC(p1:ByteArray):Nat→Nat→OB
 |0,_=>none
 |k1+1,z1=>aF (decide (z1<p1.size)) (aF (decide (Int.ofNat (Utf8.decode p1 z1).1<32)) (nm (gC p1 k1) p1 z1 true) (nm (gC p1 k1) p1 z1 (Int.ofNat (Utf8.decode p1 z1).1==127))) (ph)
def nj(p1:ByteArray)(x1:Bool):OB:=aF x1 (some false) (gC p1 aO 0)
def qm(p1:ByteArray):OB:=aF (decide (256<(p1.size:Int))) (nj p1 true) (aK (utf8_ValidString p1) fun r1=>nj p1 (!r1))
theorem AD(p1:ByteArray):CT prog 185 [vs p1] (qm p1) vb:=
  hJ 24 [] f185 fun r=>(gr f185 12 2 fun K k=>have J1:∀{x1},nj p1 x1=some r→K.p [(0,vs p1),(12,vb x1)] []:=fun{x1} h=>k h (uC uz (sM f185 14 1 ph [] [] uz fun K J3=>(Pa p1 (mC f185 58 1 fun R b=>have L1:∀k1 {z1},gC p1 k1 z1=some r→(R k1).p [(14,vQ 0)] [.raw (.stringIter p1 z1)]:=uI (lK rfl) fun k1 i1 {z1} h=>b h (uU (gC.eq_2 ..) (Pg 0 (fun b11=>(uT (gr f185 3738 2 fun K k=>have J2:∀{x2},nm (gC p1 k1) p1 z1 x2=some r→K.p [(14,vQ 0),(23,vb x2)] [.raw (.stringIter p1 (z1+(Utf8.decode p1 z1).2))]:=fun{x2} h=>k h (uC wj (uJ i1));(uC (uJ J2) (uJ J2))))) (fun b11=>(uF (uR (.exit 0) (xM (uJ J3)))))));uE (L1 aO)))));(uC (uJ J1) (dp (oE _) fun r1=>(uJ J1))))
def jS(x2:Bool):OB:=some x2
def iN(x3:Bool):OB:=some x3
def iP(x4:Bool):OB:=some x4
def iW(x5:Bool):OB:=some x5
def ke(x6:Bool):OB:=some x6
def iQ(x7:Bool):OB:=some x7
def jZ(x8:Bool):OB:=some x8
def jY(x9:Bool):OB:=some x9
def jR(p1:aa)(x1:Bool):OB:=aF (p1.kind==0) (aF x1 (aF (p1.s.toList==(ByteArray.mk #[]).toList) (jS ((p1.items.length:Int)==0)) (jS false)) (jS false)) (aF (p1.kind==1) (aK (eF p1.n 0 1) fun r1=>aF r1 (aF (p1.scale==0) (aF (p1.s.toList==(ByteArray.mk #[]).toList) (iN ((p1.items.length:Int)==0)) (iN false)) (iN false)) (iN false)) (aF (p1.kind==2) (aK (eF p1.n (-999999999999999999) 999999999999999999) fun r2=>aF r2 (aF (p1.scale==0) (aF (p1.s.toList==(ByteArray.mk #[]).toList) (iP ((p1.items.length:Int)==0)) (iP false)) (iP false)) (iP false)) (aF (p1.kind==3) (aK (eF p1.n (-999999999999999999) 999999999999999999) fun r3=>aF r3 (aK (eF p1.scale 0 12) fun r4=>aF r4 (aF (p1.s.toList==(ByteArray.mk #[]).toList) (iW ((p1.items.length:Int)==0)) (iW false)) (iW false)) (iW false)) (aF (p1.kind==4) (aF x1 (aK (qm p1.s) fun r5=>aF r5 (ke ((p1.items.length:Int)==0)) (ke false)) (ke false)) (aF (p1.kind==5) (aK (eF p1.n (-62135596800) 253402300799) fun r6=>aF r6 (aF (p1.scale==0) (aF (p1.s.toList==(ByteArray.mk #[]).toList) (iQ ((p1.items.length:Int)==0)) (iQ false)) (iQ false)) (iQ false)) (aF (p1.kind==6) (aF x1 (aF (p1.s.toList==(ByteArray.mk #[]).toList) (jZ (decide ((p1.items.length:Int)≤64))) (jZ false)) (jZ false)) (aF (p1.kind==7) (aF x1 (aF (p1.s.toList==(ByteArray.mk #[]).toList) (jY (decide (0<(p1.items.length:Int)))) (jY false)) (jY false)) (some false))))))))
def o5(p1:aa):OB:=aF (p1.n==0) (jR p1 (p1.scale==0)) (jR p1 false)
theorem zc(p1:aa):CT prog 145 [mV p1] (o5 p1) vb:=
  hJ 154 [] f145 fun r=>(gr f145 6 1 fun K k=>have J1:∀{x1},jR p1 x1=some r→K.p [(1,vR [pi p1.kind,pi p1.n,pi p1.scale,.s (.string p1.s),.ro (ac.els p1.items)]),(3,vb x1)] []:=fun{x1} h=>k h (uC (gr f145 468 3 fun K k=>have J2:∀{x2},jS x2=some r→K.p [(2,vb x2)] []:=fun{x2} h=>k h uz;(uC (uC (uN ac p1.items (uJ J2)) (uJ J2)) (uJ J2))) (uC (gr f145 1884 3 fun K k=>have J3:∀{x3},iN x3=some r→K.p [(2,vb x3)] []:=fun{x3} h=>k h uz;(dp (gV _ _ _) fun r1=>(uC (uC (uC (uN ac p1.items (uJ J3)) (uJ J3)) (uJ J3)) (uJ J3)))) (uC (gr f145 7548 3 fun K k=>have J4:∀{x4},iP x4=some r→K.p [(2,vb x4)] []:=fun{x4} h=>k h uz;(dp (gV _ _ _) fun r2=>(uC (uC (uC (uN ac p1.items (uJ J4)) (uJ J4)) (uJ J4)) (uJ J4)))) (uC (gr f145 30204 3 fun K k=>have J5:∀{x5},iW x5=some r→K.p [(2,vb x5)] []:=fun{x5} h=>k h uz;(dp (gV _ _ _) fun r3=>(uC (dp (gV _ _ _) fun r4=>(uC (uC (uN ac p1.items (uJ J5)) (uJ J5)) (uJ J5))) (uJ J5)))) (uC (gr f145 120828 3 fun K k=>have J6:∀{x6},ke x6=some r→K.p [(2,vb x6)] []:=fun{x6} h=>k h uz;(uC (dp (AD _) fun r5=>(uC (uN ac p1.items (uJ J6)) (uJ J6))) (uJ J6))) (uC (gr f145 483324 3 fun K k=>have J7:∀{x7},iQ x7=some r→K.p [(2,vb x7)] []:=fun{x7} h=>k h uz;(dp (gV _ _ _) fun r6=>(uC (uC (uC (uN ac p1.items (uJ J7)) (uJ J7)) (uJ J7)) (uJ J7)))) (uC (gr f145 1933308 3 fun K k=>have J8:∀{x8},jZ x8=some r→K.p [(2,vb x8)] []:=fun{x8} h=>k h uz;(uC (uC (uN ac p1.items (uJ J8)) (uJ J8)) (uJ J8))) (uC (gr f145 7733244 3 fun K k=>have J9:∀{x9},jY x9=some r→K.p [(2,vb x9)] []:=fun{x9} h=>k h uz;(uC (uC (uN ac p1.items (uJ J9)) (uJ J9)) (uJ J9))) uz))))))));(uC (uJ J1) (uJ J1)))
def b8(z2:Int):Option (Int×Int):=some ((-1),z2)
def aP(q_value_sound_1_s:aa→Int→Int→Option (Bool×Int))(p1:List aa)(p2:Int):Nat→Int→Int→Option (Int×Int)
 |0,_,_=>none
 |k1+1,z1,x1=>aF (decide (x1<(p1.length:Int))) (aK (at? p1 x1) fun e1=>aK (q_value_sound_1_s e1 p2 z1) fun r1=>aF r1.1 (some (x1,r1.2)) ((aP q_value_sound_1_s p1 p2 k1) r1.2 (i64.wrap (x1+1)))) (b8 z1)
def iR(q_slices_ContainsFunc_api_Value_api_Value_of_value_sound_1:(List aa)→Int→Int→Option (Bool×Int))(p1:aa)(p2 z1:Int)(x1:Bool):Option (Bool×Int):=aF x1 (some (false,z1)) (aK (q_slices_ContainsFunc_api_Value_api_Value_of_value_sound_1 p1.items p2 z1) fun r2=>some ((!r2.1),r2.2))
def j0(q_slices_ContainsFunc_api_Value_api_Value_of_value_sound_1:(List aa)→Int→Int→Option (Bool×Int))(p1:aa)(p2 z1:Int):Option (Bool×Int):=aF (decide (4<p2)) (iR q_slices_ContainsFunc_api_Value_api_Value_of_value_sound_1 p1 p2 z1 true) (aF (decide (256<z1)) (iR q_slices_ContainsFunc_api_Value_api_Value_of_value_sound_1 p1 p2 z1 true) (aK (o5 p1) fun r1=>iR q_slices_ContainsFunc_api_Value_api_Value_of_value_sound_1 p1 p2 z1 (!r1)))
mutual
def az:Nat→(List aa)→Int→Int→Option (Bool×Int)
 |0,_,_,_=>none
 |k0+1,p1,p2,p3=>aK ((a7 k0) p1 p2 p3) fun r1=>some ((decide (0≤r1.1)),r1.2)
def a7:Nat→(List aa)→Int→Int→Option (Int×Int)
 |0,_,_,_=>none
 |k0+1,p1,p2,p3=>aP (gm k0) p1 p2 aO p3 0
def jc:Nat→aa→Int→Int→Option (Bool×Int)
 |0,_,_,_=>none
 |k0+1,p1,p2,p3=>aF (p1.kind != 0) (j0 (az k0) p1 p2 (i64.wrap (p3+1))) (j0 (az k0) p1 p2 p3)
def gm:Nat→aa→Int→Int→Option (Bool×Int)
 |0,_,_,_=>none
 |k0+1,p1,p2,p3=>aK ((jc k0) p1 (i64.wrap (p2+1)) p3) fun r1=>some ((!r1.1),r1.2)
end
mutual
theorem fk:∀(k0:Nat) (p1:List aa) (p2 p3:Int),CM prog 60 [vl ac p1,.one (.fn 146 [.pv (.rp [[pi p2]] 0 0),.pt 0 0 0 0])] [.box [.pt 1 0 0 0],.box [ci p3]] (az k0 p1 p2 p3) (fun r=>vb r.1) (fun r=>[.box [.pt 1 0 0 0],.box [ci r.2]])
  |0,_,_,_=>HI (az.eq_1 ..)
  |k0+1,p1,p2,p3=>q9 2 9 [] f60 fun r=>(uU (az.eq_2 ..) (wP true [0,1] (fY k0 _ _ _) fun r1 _=>(uR .ret oj)))
theorem fY:∀(k0:Nat) (p1:List aa) (p2 p3:Int),CM prog 126 [vl ac p1,.one (.fn 146 [.pv (.rp [[pi p2]] 0 0),.pt 0 0 0 0])] [.box [.pt 1 0 0 0],.box [ci p3]] (a7 k0 p1 p2 p3) (fun r=>vi r.1) (fun r=>[.box [.pt 1 0 0 0],.box [ci r.2]])
  |0,_,_,_=>HI (a7.eq_1 ..)
  |k0+1,p1,p2,p3=>q9 2 19 [] f126 fun r=>(uU (a7.eq_2 ..) (gr f126 6 1 fun K k=>have J1:∀{z2},b8 z2=some r→K.p [] [.box [.pt 1 0 0 0],.box [ci z2]]:=fun{z2} h=>k h (uR .ret oj);(uN ac p1 (mC f126 26 1 fun R b=>have L1:∀k1 {z1 x1},aP (gm k0) p1 p2 k1 z1 x1=some r→(R k1).p [(0,vl ac p1),(1,.one (.fn 146 [.pv (.rp [[pi p2]] 0 0),.pt 0 0 0 0])),(7,vi p1.length),(8,vi x1)] [.box [.pt 1 0 0 0],.box [ci z1]]:=uI (lK rfl) fun k1 i1 {z1 x1} h=>b h (uU (aP.eq_2 ..) (uC (jO ac fun e1=>(wP true [0,1] (tW k0 _ _ _) fun r1 _=>(uC (uR .ret (xN (xN oj))) (uJ i1)))) (uR (.exit 0) (xM (uJ J1)))));uE (L1 aO)))))
theorem sU:∀(k0:Nat) (p1:aa) (p2 p3:Int),CM prog 90 [mV p1,vi p2,vQ 0] [.box [ci p3]] (jc k0 p1 p2 p3) (fun r=>vb r.1) (fun r=>[.box [ci r.2]])
  |0,_,_,_=>HI (jc.eq_1 ..)
  |k0+1,p1,p2,p3=>q9 1 33 [5] f90 fun r=>(uU (jc.eq_2 ..) (gr f90 6 1 fun K k=>have J1:∀{z1},j0 (az k0) p1 p2 z1=some r→K.p [(3,vR [pi p1.kind,pi p1.n,pi p1.scale,.s (.string p1.s),.ro (ac.els p1.items)]),(4,vR [pi p2]),(5,vQ 1)] [.box [ci z1],.box [.pt 0 0 0 0]]:=fun{z1} h=>k h (gr f90 28 2 fun K k=>have J2:∀{x1},iR (az k0) p1 p2 z1 x1=some r→K.p [(3,vR [pi p1.kind,pi p1.n,pi p1.scale,.s (.string p1.s),.ro (ac.els p1.items)]),(4,vR [pi p2]),(5,vQ 1),(27,vb x1)] [.box [ci z1],.box [.pt 0 0 0 0]]:=fun{x1} h=>k h (uC (uR .ret oj) (wP true [1,0] (fk k0 _ _ _) fun r2 _=>(uR .ret oj)));(uC (uJ J2) (uC (uJ J2) (dp (zc _) fun r1=>(uJ J2)))));(uC (uJ J1) (uJ J1))))
theorem tW:∀(k0:Nat) (p1:aa) (p2 p3:Int),CM prog 146 [mV p1,vR [pi p2],vQ 0] [.box [.pt 1 0 0 0],.box [ci p3]] (gm k0 p1 p2 p3) (fun r=>vb r.1) (fun r=>[.box [.pt 1 0 0 0],.box [ci r.2]])
  |0,_,_,_=>HI (gm.eq_1 ..)
  |k0+1,p1,p2,p3=>q9 2 11 [] f146 fun r=>(uU (gm.eq_2 ..) (wP true [1] (sU k0 _ _ _) fun r1 _=>(uR .ret oj)))
end
def nB(p1:aa):OB:=aK (jc aO p1 1 0) fun r1=>some r1.1
theorem s6(p1:aa):CT prog 41 [mV p1] (nB p1) vb:=
  hJ 6 [3] f41 fun r=>(wP true [0] (sU aO _ _ _) fun r1 _=>uz)
def bm:OB:=some true
def au(q_value_of_2:af→aa→OB)(p1:List af)(p2:List aa):Nat→Int→OB
 |0,_=>none
 |k1+1,x1=>aF (decide (x1<(p1.length:Int))) (aK (at? p1 x1) fun e1=>aK (at? p2 x1) fun e2=>aK (q_value_of_2 e1 e2) fun r1=>aF (!r1) (some false) ((au q_value_of_2 p1 p2 k1) (i64.wrap (x1+1)))) (bm)
def cn:OI:=some (-1)
def aM(q_value_of_1_s:aa→Int→Int→(List af)→OB)(p1:List aa)(p2 p3:Int)(p4:List af):Nat→Int→OI
 |0,_=>none
 |k1+1,x1=>aF (decide (x1<(p1.length:Int))) (aK (at? p1 x1) fun e1=>aK (q_value_of_1_s e1 p2 p3 p4) fun r1=>aF r1 (some x1) ((aM q_value_of_1_s p1 p2 p3 p4 k1) (i64.wrap (x1+1)))) (cn)
mutual
def ba:Nat→(List aa)→Int→Int→(List af)→OB
 |0,_,_,_,_=>none
 |k0+1,p1,p2,p3,p4=>aK ((bh k0) p1 p2 p3 p4) fun r1=>some (decide (0≤r1))
def aA:Nat→(List af)→(List aa)→OB
 |0,_,_=>none
 |k0+1,p1,p2=>aF ((p1.length:Int) != (p2.length:Int)) (some false) (au (lr k0) p1 p2 aO 0)
def bh:Nat→(List aa)→Int→Int→(List af)→OI
 |0,_,_,_,_=>none
 |k0+1,p1,p2,p3,p4=>aM (jn k0) p1 p2 p3 p4 aO 0
def lN:Nat→aq→aa→OB
 |0,_,_=>none
 |k0+1,p1,p2=>aF (p2.kind==0) (some true) (aF (p2.kind != p1.kind) (some false) (aF (p2.kind==3) (some (p2.scale==p1.scale)) (aF (p2.kind==6) (aK ((ba k0) p2.items p1.kind p1.scale p1.fields) fun r1=>some (!r1)) (aF (p2.kind==7) (aK ((aA k0) p1.fields p2.items) fun r2=>some r2) (some true)))))
def jn:Nat→aa→Int→Int→(List af)→OB
 |0,_,_,_,_=>none
 |k0+1,p1,p2,p3,p4=>aK (at? p4 0) fun e1=>aK ((lN k0) e1.type p1) fun r1=>some (!r1)
def lr:Nat→af→aa→OB
 |0,_,_=>none
 |k0+1,p1,p2=>aK ((lN k0) p1.type p2) fun r1=>some r1
end
mutual
theorem fW:∀(k0:Nat) (p1:List aa) (p2 p3:Int) (p4:List af),CT prog 60 [vl ac p1,.one (.fn 91 [.pv (.rp [[pi p2,pi p3,.ro (ab.els p4)]] 0 0)])] (ba k0 p1 p2 p3 p4) vb
  |0,_,_,_,_=>AK (ba.eq_1 ..)
  |k0+1,p1,p2,p3,p4=>hJ 9 [] f60 fun r=>(uU (ba.eq_2 ..) (dp (gz k0 _ _ _ _) fun r1=>uz))
theorem eg:∀(k0:Nat) (p1:List af) (p2:List aa),CT prog 92 [vl ab p1,vl ac p2,.one (.pv (.fn 93 []))] (aA k0 p1 p2) vb
  |0,_,_=>AK (aA.eq_1 ..)
  |k0+1,p1,p2=>hJ 32 [8,9] f92 fun r=>(uU (aA.eq_2 ..) (uN ab p1 (uN ac p2 (uC uz (sM f92 14 1 bm [] [] uz fun K J1=>(uN ab p1 (mC f92 58 1 fun R b=>have L1:∀k1 {x1},au (lr k0) p1 p2 k1 x1=some r→(R k1).p [(1,vl ac p2),(2,.one (.pv (.fn 93 []))),(15,vl ab p1),(16,vi p1.length),(17,vi x1)] []:=uI (lK rfl) fun k1 i1 {x1} h=>b h (uU (au.eq_2 ..) (uC (jO ab fun e1=>(jO ac fun e2=>(dp (Bn k0 _ _) fun r1=>(uC wj (uJ i1))))) (uR (.exit 0) (xM (uJ J1)))));uE (L1 aO))))))))
theorem gz:∀(k0:Nat) (p1:List aa) (p2 p3:Int) (p4:List af),CT prog 126 [vl ac p1,.one (.fn 91 [.pv (.rp [[pi p2,pi p3,.ro (ab.els p4)]] 0 0)])] (bh k0 p1 p2 p3 p4) vi
  |0,_,_,_,_=>AK (bh.eq_1 ..)
  |k0+1,p1,p2,p3,p4=>hJ 19 [] f126 fun r=>(uU (bh.eq_2 ..) (sM f126 6 1 cn [] [] uz fun K J1=>(uN ac p1 (mC f126 26 1 fun R b=>have L1:∀k1 {x1},aM (jn k0) p1 p2 p3 p4 k1 x1=some r→(R k1).p [(0,vl ac p1),(1,.one (.fn 91 [.pv (.rp [[pi p2,pi p3,.ro (ab.els p4)]] 0 0)])),(7,vi p1.length),(8,vi x1)] []:=uI (lK rfl) fun k1 i1 {x1} h=>b h (uU (aM.eq_2 ..) (uC (jO ac fun e1=>(dp (yP k0 _ _ _ _) fun r1=>(uC wj (uJ i1)))) (uR (.exit 0) (xM (uJ J1)))));uE (L1 aO)))))
theorem s9:∀(k0:Nat) (p1:aq) (p2:aa),CT prog 42 [mT p1,mV p2] (lN k0 p1 p2) vb
  |0,_,_=>AK (lN.eq_1 ..)
  |k0+1,p1,p2=>hJ 42 [] f42 fun r=>(uU (lN.eq_2 ..) (uC uz (uC uz (uC uz (uC (dp (fW k0 _ _ _ _) fun r1=>uz) (uC (dp (eg k0 _ _) fun r2=>uz) uz))))))
theorem yP:∀(k0:Nat) (p1:aa) (p2 p3:Int) (p4:List af),CT prog 91 [mV p1,vR [pi p2,pi p3,.ro (ab.els p4)]] (jn k0 p1 p2 p3 p4) vb
  |0,_,_,_,_=>AK (jn.eq_1 ..)
  |k0+1,p1,p2,p3,p4=>hJ 12 [] f91 fun r=>(uU (jn.eq_2 ..) (pX 6 (jO ab fun e1=>(dp (s9 k0 _ _) fun r1=>uz))))
theorem Bn:∀(k0:Nat) (p1:af) (p2:aa),CT prog 93 [mf p1,mV p2] (lr k0 p1 p2) vb
  |0,_,_=>AK (lr.eq_1 ..)
  |k0+1,p1,p2=>hJ 9 [] f93 fun r=>(uU (lr.eq_2 ..) (dp (s9 k0 _ _) fun r1=>uz))
end
def mj(p1:aq)(x1:Int):Option af:=aK (at? p1.fields x1) fun e1=>some e1
def o8(p1:aq)(p2:Int):Option af:=aF (p1.kind==6) (mj p1 0) (mj p1 p2)
theorem yY(p1:aq)(p2:Int):CT prog 94 [mT p1,vi p2] (o8 p1 p2) (fun r=>mf r):=
  hJ 13 [4] f94 fun r=>(gr f94 6 1 fun K k=>have J1:∀{x1},mj p1 x1=some r→K.p [(1,vi x1),(2,vR [pi p1.kind,pi p1.scale,.ro (ab.els p1.fields)]),(4,vQ 0)] [.box [ci (0:Int),lL ByteArray.empty,cb false,ci (0:Int),ci (0:Int),.pv (.s (.slice none 0 0))]]:=fun{x1} h=>k h (jO ab fun e1=>uz);(uC (uJ J1) (uJ J1)))
def j4(rec1:Int→OB)(x1:Int)(x2:Bool):OB:=aF x2 (some true) (rec1 (i64.wrap (x1+1)))
def og:OB:=some false
def ew(q_value_lacks:aq→aa→OB)(p1:aq)(p2:aa):Nat→Int→OB
 |0,_=>none
 |k1+1,x1=>aF (decide (x1<(p2.items.length:Int))) (aK (at? p2.items x1) fun e1=>aK (o8 p1 x1) fun r1=>aF (e1.kind==0) (aF r1.need (j4 (ew q_value_lacks p1 p2 k1) x1 true) (aK (q_value_lacks r1.type e1) fun r2=>j4 (ew q_value_lacks p1 p2 k1) x1 r2)) (aK (q_value_lacks r1.type e1) fun r3=>j4 (ew q_value_lacks p1 p2 k1) x1 r3)) (og)
def fO:Nat→aq→aa→OB
 |0,_,_=>none
 |k0+1,p1,p2=>ew (fO k0) p1 p2 aO 0
theorem pw:∀(k0:Nat) (p1:aq) (p2:aa),CT prog 43 [mT p1,mV p2] (fO k0 p1 p2) vb
  |0,_,_=>AK (fO.eq_1 ..)
  |k0+1,p1,p2=>hJ 33 [6,7] f43 fun r=>(uU (fO.eq_2 ..) (sM f43 6 1 og [] [] uz fun K J2=>(uN ac p2.items (mC f43 26 1 fun R b=>have L1:∀k1 {x1},ew (fO k0) p1 p2 k1 x1=some r→(R k1).p [(2,vR [pi p1.kind,pi p1.scale,.ro (ab.els p1.fields)]),(9,vl ac p2.items),(10,vi p2.items.length),(11,vi x1)] []:=uI (lK rfl) fun k1 i1 {x1} h=>b h (uU (ew.eq_2 ..) (uC (jO ac fun e1=>(dp (yY _ _) fun r1=>(gr f43 6758 3 fun K k=>have J1:∀{x2},j4 (ew (fO k0) p1 p2 k1) x1 x2=some r→K.p [(2,vR [pi p1.kind,pi p1.scale,.ro (ab.els p1.fields)]),(9,vl ac p2.items),(10,vi p2.items.length),(11,vi x1),(31,vb x2)] [.dead,.dead]:=fun{x2} h=>k h (uC wj (uJ i1));(uC (uC (uJ J1) (dp (pw k0 _ _) fun r2=>(uJ J1))) (dp (pw k0 _ _) fun r3=>(uJ J1)))))) (uR (.exit 0) (xM (uJ J2)))));uE (L1 aO)))))
def j3(p1:aq)(p2:aa):OI:=aK (gf p1) fun r1=>aF (r1 != 0) (some r1) (aK (nB p2) fun r2=>aF (!r2) (some 1) (aK (lN aO p1 p2) fun r3=>aF (!r3) (some 2) (aK (fO aO p1 p2) fun r4=>aF r4 (some 9) (some 0))))
theorem y0(p1:aq)(p2:aa):CT prog 17 [mT p1,mV p2] (j3 p1 p2) vi:=
  hJ 24 [] f17 fun r=>(dp (o9 _) fun r1=>(uC uz (dp (s6 _) fun r2=>(uC uz (dp (s9 aO _ _) fun r3=>(uC uz (dp (pw aO _ _) fun r4=>(uC uz uz))))))))
def iF(rec2:Int→OI)(x2:Int)(x3:Bool):OI:=aF x3 (some 9) (rec2 (i64.wrap (x2+1)))
def iG(rec1:Int→OI)(x1:Int):OI:=rec1 (i64.wrap (x1+1))
def cY(rec1:Int→OI)(p1:List af)(x1:Int)(e1:List aa):Nat→Int→OI
 |0,_=>none
 |k2+1,x2=>aF (decide (x2<(p1.length:Int))) (aK (at? p1 x2) fun e2=>aK (at? e1 x2) fun e3=>aK (j3 e2.type e3) fun r2=>aF (r2 != 0) (some r2) (aF (e3.kind==0) (iF (cY rec1 p1 x1 e1 k2) x2 e2.need) (iF (cY rec1 p1 x1 e1 k2) x2 false))) (iG rec1 x1)
def nM:OI:=some 0
def co(p1:List af)(p2:List (List aa)):Nat→Int→OI
 |0,_=>none
 |k1+1,x1=>aF (decide (x1<(p2.length:Int))) (aK (at? p2 x1) fun e1=>aF ((e1.length:Int) != (p1.length:Int)) (some 1) (cY (co p1 p2 k1) p1 x1 e1 aO 0)) (nM)
def iU(p1:List af)(p2:List (List aa)):OI:=aK (dL p1) fun r1=>aF (r1 != 0) (some r1) (aF (decide (2000<(p2.length:Int))) (some 7) (co p1 p2 aO 0))
theorem oL(p1:List af)(p2:List (List aa)):CT prog 72 [vl ab p1,vl (eL ac) p2] (iU p1 p2) vi:=
  hJ 59 [9] f72 fun r=>(dp (nL _) fun r1=>(uC uz (uN (eL ac) p2 (uC uz (sM f72 30 1 nM [] [] uz fun K J3=>(uN (eL ac) p2 (mC f72 122 1 fun R b=>have L1:∀k1 {x1},co p1 p2 k1 x1=some r→(R k1).p [(0,vl ab p1),(19,vl (eL ac) p2),(20,vi p2.length),(21,vi x1)] []:=uI (lK rfl) fun k1 i1 {x1} h=>b h (uU (co.eq_2 ..) (uC (sM f72 1958 1 (iG (co p1 p2 k1) x1) [(0,vl ab p1),(19,vl (eL ac) p2),(20,vi p2.length),(21,vi x1)] [] (uJ i1) fun K J2=>(jO (eL ac) fun e1=>(uN ac e1 (uN ab p1 (uC (uR .ret (xN (xN (xN xF)))) (uN ab p1 (mC f72 62670 2 fun R b=>have L2:∀k2 {x2},cY (co p1 p2 k1) p1 x1 e1 k2 x2=some r→(R k2).p [(0,vl ab p1),(7,vl ac e1),(19,vl (eL ac) p2),(20,vi p2.length),(21,vi x1),(30,vl ab p1),(31,vi p1.length),(32,vi x2)] []:=uI (lK rfl) fun k2 i2 {x2} h=>b h (uU (cY.eq_2 ..) (uC (jO ab fun e2=>(pX 6 (uL ac fun e3 a33=>(dp (y0 _ _) fun r2=>(uC (uR .ret (xN (xN (xN (xN xF))))) (gr f72 16043622 3 fun K k=>have J1:∀{x3},iF (cY (co p1 p2 k1) p1 x1 e1 k2) x2 x3=some r→K.p [(0,vl ab p1),(7,vl ac e1),(19,vl (eL ac) p2),(20,vi p2.length),(21,vi x1),(30,vl ab p1),(31,vi p1.length),(32,vi x2),(56,vb x3)] [.dead]:=fun{x3} h=>k h (uC (uR .ret (xN (xN (xN (xN xF))))) (uJ i2));(uM ac a33 (uC (uJ J1) (uJ J1))))))))) (uR (.exit 2) (xM (uJ J2)))));uE (L2 aO)))))))) (uR (.exit 0) (xM (uJ J3)))));uE (L1 aO))))))))
def dx(p1:List af):Option (List af):=some p1
theorem kA(p1 r:(List af))(h:dx p1=some r):PC prog 78 [vl ab p1] (.one (.cl (ab.els r))):=by
 unfold dx at h
 refine zF 9 f78 (zq fun K1 hK1=>zr (zg [8] 1 [0] (zd (hK1 _ _ (zq fun K2 hK2=>zr ?_)))))
 refine zv [8] 3 [0,3,5] [] [(0,vl ab p1),(3,vl ab p1),(5,vi ((ab.els p1).length:Int))] [] ?_
 rw[ab.len p1]
 refine zv [8] 2 [3,5,7] [] [(3,vl ab p1),(5,vi p1.length),(7,vi ((ab.els p1).length:Int))] [] ?_
 rw[ab.len p1]
 refine zo [8] 2 [2] [] [(0:Int)=(0:Int)∧(p1.length:Int)=((ab.els p1).length:Int)∧(p1.length:Int)=((ab.els p1).length:Int)] (⟨⟨rfl,by rw[ab.len],by rw[ab.len]⟩,trivial⟩) (zd (hK2 _ _ (ze ?_)))
 obtain rfl:=Option.some.inj h
 exact zf [.one (.cl (ab.els p1))] (.one (.rfl _ rfl))
def ff(p1:List Int):Option (List Int):=some p1
theorem lG(p1 r:(List Int))(h:ff p1=some r):PC prog 79 [vl eI p1] (.one (.cl (eI.els r))):=by
 unfold ff at h
 refine zF 9 f79 (zq fun K1 hK1=>zr (zg [8] 1 [0] (zd (hK1 _ _ (zq fun K2 hK2=>zr ?_)))))
 refine zv [8] 3 [0,3,5] [] [(0,vl eI p1),(3,vl eI p1),(5,vi ((eI.els p1).length:Int))] [] ?_
 rw[eI.len p1]
 refine zv [8] 2 [3,5,7] [] [(3,vl eI p1),(5,vi p1.length),(7,vi ((eI.els p1).length:Int))] [] ?_
 rw[eI.len p1]
 refine zo [8] 2 [2] [] [(0:Int)=(0:Int)∧(p1.length:Int)=((eI.els p1).length:Int)∧(p1.length:Int)=((eI.els p1).length:Int)] (⟨⟨rfl,by rw[eI.len],by rw[eI.len]⟩,trivial⟩) (zd (hK2 _ _ (ze ?_)))
 obtain rfl:=Option.some.inj h
 exact zf [.one (.cl (eI.els p1))] (.one (.rfl _ rfl))
def ga(rec1:List bk→Int→Option (Unit×(List bk)))(x1:Int)(l2:List bk):Option (Unit×(List bk)):=rec1 l2 (i64.wrap (x1+1))
def fZ(q_column_paths_1:(List af)→bk→(List bk)→Option (Unit×(List bk)))(rec1:List bk→Int→Option (Unit×(List bk)))(p2:bk)(l1:List bk)(x1:Int)(e1:af)(r1:List af)(r2 r3:List Int)(z1:Int):Option (Unit×(List bk)):=aF (e1.type.kind==6) (aK (q_column_paths_1 e1.type.fields (bk.mk (jI.mk (r3++[e1.id]) p2.leaf.type (i64.wrap (z1+1)) (i64.wrap (p2.leaf.rep+1))) (r1++[e1]) (r2++[x1])) l1) fun r4=>ga rec1 x1 r4.2) (aF (e1.type.kind==7) (aK (q_column_paths_1 e1.type.fields (bk.mk (jI.mk (r3++[e1.id]) p2.leaf.type z1 p2.leaf.rep) (r1++[e1]) (r2++[x1])) l1) fun r5=>ga rec1 x1 r5.2) (eh (l1.length+1≤4294967296)<|ga rec1 x1 (l1++[(bk.mk (jI.mk (r3++[e1.id]) e1.type z1 p2.leaf.rep) (r1++[e1]) (r2++[x1]))])))
def cz(q_column_paths_1:(List af)→bk→(List bk)→Option (Unit×(List bk)))(p1:List af)(p2:bk):Nat→List bk→Int→Option (Unit×(List bk))
 |0,_,_=>none
 |k1+1,l1,x1=>aF (decide (x1<(p1.length:Int))) (aK (at? p1 x1) fun e1=>aK (dx p2.fields) fun r1=>eh (r1.length+1≤4294967296)<|aK (ff p2.pos) fun r2=>eh (r2.length+1≤4294967296)<|aK (ff p2.leaf.path) fun r3=>eh (r3.length+1≤4294967296)<|aF (!e1.need) (fZ q_column_paths_1 (cz q_column_paths_1 p1 p2 k1) p2 l1 x1 e1 r1 r2 r3 (i64.wrap (p2.leaf.df+1))) (fZ q_column_paths_1 (cz q_column_paths_1 p1 p2 k1) p2 l1 x1 e1 r1 r2 r3 p2.leaf.df)) (some ((),l1))
def cN:Nat→(List af)→bk→(List bk)→Option (Unit×(List bk))
 |0,_,_,_=>none
 |k0+1,p1,p2,p3=>cz (cN k0) p1 p2 aO p3 0
abbrev iA:List CV:=[.fn 77 [.pt 0 0 0 0,.pt 1 0 0 0]]
abbrev dt(p2:bk):List PV:=[.ro (eI.els p2.leaf.path),pi p2.leaf.type.kind,pi p2.leaf.type.scale,.ro (ab.els p2.leaf.type.fields),pi p2.leaf.df,pi p2.leaf.rep,.ro (ab.els p2.fields),.ro (eI.els p2.pos)]
abbrev kN(l1:List bk):List CV:=[.sl 2 8 0 l1.length]
abbrev jN(e1:af):List PV:=[pi e1.id,.s (.string e1.name),.s (.bool e1.need),pi e1.type.kind,pi e1.type.scale,.ro (ab.els e1.type.fields)]
abbrev cq(e1:af):List CV:=[ci e1.id,lL e1.name,cb e1.need,ci e1.type.kind,ci e1.type.scale,cl ab e1.type.fields]
abbrev KJ(p2:bk)(x1:Int)(e1:af)(r1:(List af))(r2:(List Int)):List CV:=[cl eI p2.leaf.path,ci p2.leaf.type.kind,ci p2.leaf.type.scale,cl ab p2.leaf.type.fields,ci p2.leaf.df,ci p2.leaf.rep,.sl 4 6 0 ((r1++[e1]).length),.sl 5 1 0 ((r2++[x1]).length)]
abbrev yF(p2:bk):List CV:=[cl eI p2.leaf.path,ci p2.leaf.type.kind,ci p2.leaf.type.scale,cl ab p2.leaf.type.fields,ci p2.leaf.df,ci p2.leaf.rep]
abbrev Lu:List CV:=[.pv (.s (.slice none 0 0)),ci (0:Int),ci (0:Int),.pv (.s (.slice none 0 0)),ci (0:Int),ci (0:Int),.pv (.s (.slice none 0 0)),.pv (.s (.slice none 0 0))]
abbrev EW(p2:bk)(x1:Int)(e1:af)(r1:(List af))(r2 r3:(List Int))(z1:Int):List CV:=[.sl 7 1 0 ((r3++[e1.id]).length),ci p2.leaf.type.kind,ci p2.leaf.type.scale,cl ab p2.leaf.type.fields,ci z1,ci p2.leaf.rep,.sl 4 6 0 ((r1++[e1]).length),.sl 5 1 0 ((r2++[x1]).length)]
abbrev H2(p2:bk)(x1:Int)(e1:af)(r1:(List af))(r2 r3:(List Int))(z1:Int):List CV:=[.sl 7 1 0 ((r3++[e1.id]).length),ci p2.leaf.type.kind,ci p2.leaf.type.scale,cl ab p2.leaf.type.fields,ci (i64.wrap (z1+1)),ci (i64.wrap (p2.leaf.rep+1)),.sl 4 6 0 ((r1++[e1]).length),.sl 5 1 0 ((r2++[x1]).length)]
abbrev Lg(p2:bk)(x1:Int)(e1:af)(r1:(List af))(r2 r3:(List Int))(z1:Int):List CV:=[.sl 8 1 0 ((r3++[e1.id]).length),ci p2.leaf.type.kind,ci p2.leaf.type.scale,cl ab p2.leaf.type.fields,ci (i64.wrap (z1+1)),ci (i64.wrap (p2.leaf.rep+1)),.sl 4 6 0 ((r1++[e1]).length),.sl 5 1 0 ((r2++[x1]).length)]
abbrev KK(p2:bk)(x1:Int)(e1:af)(r1:(List af))(r2 r3:(List Int))(z1:Int):List CV:=[.sl 8 1 0 ((r3++[e1.id]).length),ci p2.leaf.type.kind,ci p2.leaf.type.scale,cl ab p2.leaf.type.fields,ci (i64.wrap (z1+1)),ci (i64.wrap (p2.leaf.rep+1)),.sl 9 6 0 ((r1++[e1]).length),.sl 5 1 0 ((r2++[x1]).length)]
abbrev Ll(p2:bk)(x1:Int)(e1:af)(r1:(List af))(r2 r3:(List Int))(z1:Int):List CV:=[.sl 8 1 0 ((r3++[e1.id]).length),ci p2.leaf.type.kind,ci p2.leaf.type.scale,cl ab p2.leaf.type.fields,ci (i64.wrap (z1+1)),ci (i64.wrap (p2.leaf.rep+1)),.sl 9 6 0 ((r1++[e1]).length),.sl 10 1 0 ((r2++[x1]).length)]
abbrev Jc(p2:bk)(x1:Int)(e1:af)(r1:(List af))(r2 r3:(List Int))(z1:Int):List CV:=[cl eI (r3++[e1.id]),ci p2.leaf.type.kind,ci p2.leaf.type.scale,cl ab p2.leaf.type.fields,ci (i64.wrap (z1+1)),ci (i64.wrap (p2.leaf.rep+1)),cl ab (r1++[e1]),cl eI (r2++[x1])]
abbrev HJ(p2:bk)(x1:Int)(e1:af)(r1:(List af))(r2 r3:(List Int))(z1:Int):List CV:=[cl eI (r3++[e1.id]),ci p2.leaf.type.kind,ci p2.leaf.type.scale,cl ab p2.leaf.type.fields,ci z1,ci p2.leaf.rep,cl ab (r1++[e1]),cl eI (r2++[x1])]
abbrev Hg(p2:bk)(x1:Int)(e1:af)(r1:(List af))(r2 r3:(List Int))(z1:Int):List CV:=[.sl 7 1 0 ((r3++[e1.id]).length),ci e1.type.kind,ci e1.type.scale,cl ab e1.type.fields,ci z1,ci p2.leaf.rep,.sl 4 6 0 ((r1++[e1]).length),.sl 5 1 0 ((r2++[x1]).length)]
abbrev IJ(p2:bk)(x1:Int)(e1:af)(r1:(List af))(r2 r3:(List Int))(z1:Int):List CV:=[.sl 8 1 0 ((r3++[e1.id]).length),ci e1.type.kind,ci e1.type.scale,cl ab e1.type.fields,ci z1,ci p2.leaf.rep,.sl 9 6 0 ((r1++[e1]).length),.sl 10 1 0 ((r2++[x1]).length)]
abbrev ra(p1:(List af))(p2:bk)(x1:Int):Fr:=[(2,.one (.pt 0 0 0 0)),(3,.one (.pt 1 0 0 0)),(5,.one (.pv (.rp [(dt p2)] 0 0))),(9,vl ab p1),(10,vi (p1.length:Int)),(11,vi x1)]
abbrev DA(l1:List bk):St:=[.box iA,.box (kN l1),.arr 8 (cm.els l1)]
abbrev HW(p1:(List af))(p2:bk)(x1:Int)(e1:af)(r1:(List af))(r2:(List Int)):Fr:=[(8,.one (.pt 6 0 0 0)),(30,.ag (KJ p2 x1 e1 r1 r2)),(29,.one (.sl 5 1 0 ((r2++[x1]).length))),(28,vl eI [x1]),(27,vi x1),(26,.one (.cl (eI.els r2))),(25,vl eI p2.pos),(24,.one (.pv (.rp [(dt p2)] 0 7))),(23,.one (.sl 4 6 0 ((r1++[e1]).length))),(22,vl ab [e1]),(21,.ag (cq e1)),(20,.one (.cl (ab.els r1))),(19,vl ab p2.fields),(18,.one (.pv (.rp [(dt p2)] 0 6))),(17,.ag (yF p2)),(16,.one (.pv (.rp [(dt p2)] 0 0))),(2,.one (.pt 0 0 0 0)),(3,.one (.pt 1 0 0 0)),(5,.one (.pv (.rp [(dt p2)] 0 0))),(6,vi x1),(7,.one (.pt 3 0 0 0)),(9,vl ab p1),(10,vi (p1.length:Int)),(11,vi x1)]
abbrev D5(p1:(List af))(p2:bk)(x1:Int):Fr:=[(2,.one (.pt 0 0 0 0)),(3,.one (.pt 1 0 0 0)),(5,.one (.pv (.rp [(dt p2)] 0 0))),(7,.one (.pt 3 0 0 0)),(8,.one (.pt 6 0 0 0)),(9,vl ab p1),(10,vi (p1.length:Int)),(11,vi x1)]
theorem m8:∀(k0:Nat) (p1:(List af)) (p2:bk) (p3:(List bk)) (r:(Unit×(List bk))),cN k0 p1 p2 p3=some r→MX prog 77 [vl ab p1,.ag [cl eI p2.leaf.path,ci p2.leaf.type.kind,ci p2.leaf.type.scale,cl ab p2.leaf.type.fields,ci p2.leaf.df,ci p2.leaf.rep,cl ab p2.fields,cl eI p2.pos],vQ 0,vQ 1] [.box iA,.box [.sl 2 8 0 p3.length],.arr 8 (cm.els p3)] [2] (.tp []) [.box iA,.box [.sl 2 8 0 r.2.length],.arr 8 (cm.els r.2)]
 |0,_,_,_,r,h=>by rw[cN.eq_1]at h;cases h
 |k0+1,p1,p2,p3,r,h=>by
  rw[cN.eq_2]at h
  refine MX.of 3 3 rfl (n:=90) (fn:=f77) (c:=cd f77 []) (by kernel_rfl) (by kernel_rfl) (by kernel_rfl) (n4 rfl) rfl (zq fun K1 hK1=>zr (zg [7,8] 1 [0,2,3,5] (zd (hK1 _ _ (zq fun K2 hK2=>zr ?_)))))
  refine zv [7,8] 2 [2,3,5,9,10] [] [(2,vQ 0),(3,vQ 1),(5,vR [.ro (eI.els p2.leaf.path),pi p2.leaf.type.kind,pi p2.leaf.type.scale,.ro (ab.els p2.leaf.type.fields),pi p2.leaf.df,pi p2.leaf.rep,.ro (ab.els p2.fields),.ro (eI.els p2.pos)]),(9,vl ab p1),(10,vi ((ab.els p1).length:Int))] [.box [.fn 77 [.pt 0 0 0 0,.pt 1 0 0 0]],.box [.sl 2 8 0 p3.length],.arr 8 (cm.els p3)] ?_
  rw[ab.len p1]
  refine zg [7,8] 1 [2,3,5,9,10,11] (zd (hK2 _ _ (zb 0 (XW.rounds' aO (x:=cd f77 [1,1,0,0]) (by kernel_rfl) fun Q1 hQ1=> ?_))))
  have hL1:∀(k1:Nat) (l1:List bk) (x1:Int),cz (cN k0) p1 p2 k1 l1 x1=some r→XR prog 90 3 [2] (cd f77 [1,1,0,0]) Q1 k1 (ra p1 p2 x1) (DA l1):=by
   intro k1
   induction k1 with
   |zero=>intro l1 x1 h;rw[cz.eq_1]at h;cases h
   |succ k1 ih1=>
    intro l1 x1 h
    rw[cz.eq_2]at h
    refine zq fun K3 hK3=>zr (zg [7,8] 1 [2,3,5,9,10,11,12] (zd (hK3 _ _ (zq fun K4 hK4=>zC h (fun b5 h=> ?_) (fun b5 h=> ?_)))))
    ·refine zs (hK4 _ _ (zq fun K6 hK6=> ?_))
     have hJ2:∀(l2:List bk),ga (cz (cN k0) p1 p2 k1) x1 l2=some r→∀fr1 st1,bW 90 3 [2] fr1 st1 (ra p1 p2 x1) [.box iA,.box [.sl 2 8 0 l2.length],.arr 8 (cm.els l2)]→K6 fr1 st1:=by
      intro l2 h fr1 st1 hS
      unfold ga at h
      refine hK6 _ _ (XW.sub hS ?_)
      exact zr (zg [7,8] 2 [2,3,5,9,10,11] (zd (XR.sub (zk [2,3,5,9,10,11]) (ih1 l2 (i64.wrap (x1+1)) h))))
     refine zb 1 (zq fun K7 hK7=> ?_)
     obtain⟨e1,a8,h⟩:=zB h
     refine zr ?_
     refine zp [7,8] 6 [2,3,5,6,7,9,10,11] [(jN e1)] [(2,vQ 0),(3,vQ 1),(5,vR (dt p2)),(6,vi x1),(7,vQ 3),(9,vl ab p1),(10,vi p1.length),(11,vi x1)] [.box iA,.box (kN l1),.arr 8 (cm.els l1),.box (cq e1)] [0≤x1∧x1<((ab.els p1).length:Int)∧aT 6 (ab.els p1),(ab.els p1)[x1.toNat]? =some (jN e1)] (⟨ab.inb a8,((ab.get a8).trans (by rcases e1 with⟨_,_,_,⟨_,_,_⟩⟩;rfl)),trivial⟩) ?_
     refine zd (hK7 _ _ (zq fun K9 hK9=> ?_))
     obtain⟨r1,c10,h⟩:=zB h
     obtain⟨g11,h⟩:=zG h
     obtain⟨r2,c12,h⟩:=zB h
     obtain⟨g13,h⟩:=zG h
     refine XW.sub (bW.dead 3) ?_
     refine XW.drwG 16 [4,5,6,7] [([],[]),([],[]),([],[]),([],[]),([],[]),([3],[]),([],[]),([4,1004],[4,1004]),([],[]),([],[]),([],[]),([],[]),([],[]),([5,1005],[5,1005]),([1004,1005],[]),([6,1006],[6,1006])] (HW p1 p2 x1 e1 r1 r2) [.box iA,.box (kN l1),.arr 8 (cm.els l1),.box (cq e1),.arr 6 (ab.els (r1++[e1])),.arr 1 (eI.els (r2++[x1])),.box Lu] (by kernel_rfl) (by kernel_rfl) ?_ ?_
     ·refine xz 4 [(dt p2),(dt p2)] [(19,vl ab p2.fields),(18,.one (.pv (.rp [(dt p2)] 0 6))),(17,.ag (yF p2)),(16,vR (dt p2)),(2,vQ 0),(3,vQ 1),(5,vR (dt p2)),(6,vi x1),(7,vQ 3),(9,vl ab p1),(10,vi p1.length),(11,vi x1)] ?_
      refine GY.cal 78 [vl ab p2.fields] (.one (.cl (ab.els r1))) [(20,.one (.cl (ab.els r1))),(19,vl ab p2.fields),(18,.one (.pv (.rp [(dt p2)] 0 6))),(17,.ag (yF p2)),(16,vR (dt p2)),(2,vQ 0),(3,vQ 1),(5,vR (dt p2)),(6,vi x1),(7,vQ 3),(9,vl ab p1),(10,vi p1.length),(11,vi x1)] [] (by kernel_rfl) (by kernel_rfl) (kA _ _ c10) rfl rfl (by kernel_rfl) (by kernel_rfl) ?_
      refine xz 2 [] [(22,.one (.pv (.ro [[pi e1.id,.s (.string e1.name),.s (.bool e1.need),pi e1.type.kind,pi e1.type.scale,.ro (ab.els e1.type.fields)]]))),(21,mf e1),(20,.one (.cl (ab.els r1))),(19,vl ab p2.fields),(18,.one (.pv (.rp [[.ro (eI.els p2.leaf.path),pi p2.leaf.type.kind,pi p2.leaf.type.scale,.ro (ab.els p2.leaf.type.fields),pi p2.leaf.df,pi p2.leaf.rep,.ro (ab.els p2.fields),.ro (eI.els p2.pos)]] 0 6))),(17,.ag [cl eI p2.leaf.path,ci p2.leaf.type.kind,ci p2.leaf.type.scale,cl ab p2.leaf.type.fields,ci p2.leaf.df,ci p2.leaf.rep]),(16,vR [.ro (eI.els p2.leaf.path),pi p2.leaf.type.kind,pi p2.leaf.type.scale,.ro (ab.els p2.leaf.type.fields),pi p2.leaf.df,pi p2.leaf.rep,.ro (ab.els p2.fields),.ro (eI.els p2.pos)]),(2,vQ 0),(3,vQ 1),(5,vR [.ro (eI.els p2.leaf.path),pi p2.leaf.type.kind,pi p2.leaf.type.scale,.ro (ab.els p2.leaf.type.fields),pi p2.leaf.df,pi p2.leaf.rep,.ro (ab.els p2.fields),.ro (eI.els p2.pos)]),(6,vi x1),(7,vQ 3),(9,vl ab p1),(10,vi p1.length),(11,vi x1)] ?_
      rw[show([[pi e1.id,.s (.string e1.name),.s (.bool e1.need),pi e1.type.kind,pi e1.type.scale,.ro (ab.els e1.type.fields)]]:List (List PV))=ab.els [e1]from by rcases e1 with⟨_,_,_,⟨_,_,_⟩⟩;rfl]
      refine GY.new false 4 [] [(23,.one (.sl 4 6 0 ((ab.els r1).length+(ab.els [e1]).length))),(22,vl ab [e1]),(21,mf e1),(20,.one (.cl (ab.els r1))),(19,vl ab p2.fields),(18,.one (.pv (.rp [[.ro (eI.els p2.leaf.path),pi p2.leaf.type.kind,pi p2.leaf.type.scale,.ro (ab.els p2.leaf.type.fields),pi p2.leaf.df,pi p2.leaf.rep,.ro (ab.els p2.fields),.ro (eI.els p2.pos)]] 0 6))),(17,.ag [cl eI p2.leaf.path,ci p2.leaf.type.kind,ci p2.leaf.type.scale,cl ab p2.leaf.type.fields,ci p2.leaf.df,ci p2.leaf.rep]),(16,vR [.ro (eI.els p2.leaf.path),pi p2.leaf.type.kind,pi p2.leaf.type.scale,.ro (ab.els p2.leaf.type.fields),pi p2.leaf.df,pi p2.leaf.rep,.ro (ab.els p2.fields),.ro (eI.els p2.pos)]),(2,vQ 0),(3,vQ 1),(5,vR [.ro (eI.els p2.leaf.path),pi p2.leaf.type.kind,pi p2.leaf.type.scale,.ro (ab.els p2.leaf.type.fields),pi p2.leaf.df,pi p2.leaf.rep,.ro (ab.els p2.fields),.ro (eI.els p2.pos)]),(6,vi x1),(7,vQ 3),(9,vl ab p1),(10,vi p1.length),(11,vi x1)] [4] [.box [.fn 77 [.pt 0 0 0 0,.pt 1 0 0 0]],.box [.sl 2 8 0 l1.length],.arr 8 (cm.els l1),.box [ci e1.id,lL e1.name,cb e1.need,ci e1.type.kind,ci e1.type.scale,cl ab e1.type.fields],.arr 6 (ab.els r1++ab.els [e1]),.dead,.dead] [aT 6 (ab.els r1),aT 6 (ab.els [e1]),0<(ab.els [e1]).length,(ab.els r1).length+(ab.els [e1]).length≤4294967296] (by kernel_rfl) (by kernel_rfl) (⟨ab.ok _,ab.ok _,(by rw[ab.len];exact Nat.zero_lt_succ _),(by rw[ab.len];exact g11),trivial⟩) (by kernel_rfl) ?_
      rw[show(ab.els r1).length+(ab.els [e1]).length=(r1++[e1]).length from by rw[ab.len];exact ab.lapp _ _]
      rw[show ab.els r1++ab.els [e1]=ab.els (r1++[e1])from ab.app2 _ _]
      refine xz 2 [(dt p2)] [(25,vl eI p2.pos),(24,.one (.pv (.rp [(dt p2)] 0 7))),(23,.one (.sl 4 6 0 ((r1++[e1]).length))),(22,vl ab [e1]),(21,.ag (cq e1)),(20,.one (.cl (ab.els r1))),(19,vl ab p2.fields),(18,.one (.pv (.rp [(dt p2)] 0 6))),(17,.ag (yF p2)),(16,vR (dt p2)),(2,vQ 0),(3,vQ 1),(5,vR (dt p2)),(6,vi x1),(7,vQ 3),(9,vl ab p1),(10,vi p1.length),(11,vi x1)] ?_
      refine GY.cal 79 [vl eI p2.pos] (.one (.cl (eI.els r2))) [(26,.one (.cl (eI.els r2))),(25,vl eI p2.pos),(24,.one (.pv (.rp [(dt p2)] 0 7))),(23,.one (.sl 4 6 0 ((r1++[e1]).length))),(22,vl ab [e1]),(21,.ag (cq e1)),(20,.one (.cl (ab.els r1))),(19,vl ab p2.fields),(18,.one (.pv (.rp [(dt p2)] 0 6))),(17,.ag (yF p2)),(16,vR (dt p2)),(2,vQ 0),(3,vQ 1),(5,vR (dt p2)),(6,vi x1),(7,vQ 3),(9,vl ab p1),(10,vi p1.length),(11,vi x1)] [] (by kernel_rfl) (by kernel_rfl) (lG _ _ c12) rfl rfl (by kernel_rfl) (by kernel_rfl) ?_
      refine xz 2 [] [(28,vl eI [x1]),(27,vi x1),(26,.one (.cl (eI.els r2))),(25,vl eI p2.pos),(24,.one (.pv (.rp [(dt p2)] 0 7))),(23,.one (.sl 4 6 0 ((r1++[e1]).length))),(22,vl ab [e1]),(21,.ag (cq e1)),(20,.one (.cl (ab.els r1))),(19,vl ab p2.fields),(18,.one (.pv (.rp [(dt p2)] 0 6))),(17,.ag (yF p2)),(16,vR (dt p2)),(2,vQ 0),(3,vQ 1),(5,vR (dt p2)),(6,vi x1),(7,vQ 3),(9,vl ab p1),(10,vi p1.length),(11,vi x1)] ?_
      refine GY.new false 5 [] [(29,.one (.sl 5 1 0 ((eI.els r2).length+(eI.els [x1]).length))),(28,vl eI [x1]),(27,vi x1),(26,.one (.cl (eI.els r2))),(25,vl eI p2.pos),(24,.one (.pv (.rp [[.ro (eI.els p2.leaf.path),pi p2.leaf.type.kind,pi p2.leaf.type.scale,.ro (ab.els p2.leaf.type.fields),pi p2.leaf.df,pi p2.leaf.rep,.ro (ab.els p2.fields),.ro (eI.els p2.pos)]] 0 7))),(23,.one (.sl 4 6 0 ((r1++[e1]).length))),(22,vl ab [e1]),(21,mf e1),(20,.one (.cl (ab.els r1))),(19,vl ab p2.fields),(18,.one (.pv (.rp [[.ro (eI.els p2.leaf.path),pi p2.leaf.type.kind,pi p2.leaf.type.scale,.ro (ab.els p2.leaf.type.fields),pi p2.leaf.df,pi p2.leaf.rep,.ro (ab.els p2.fields),.ro (eI.els p2.pos)]] 0 6))),(17,.ag [cl eI p2.leaf.path,ci p2.leaf.type.kind,ci p2.leaf.type.scale,cl ab p2.leaf.type.fields,ci p2.leaf.df,ci p2.leaf.rep]),(16,vR [.ro (eI.els p2.leaf.path),pi p2.leaf.type.kind,pi p2.leaf.type.scale,.ro (ab.els p2.leaf.type.fields),pi p2.leaf.df,pi p2.leaf.rep,.ro (ab.els p2.fields),.ro (eI.els p2.pos)]),(2,vQ 0),(3,vQ 1),(5,vR [.ro (eI.els p2.leaf.path),pi p2.leaf.type.kind,pi p2.leaf.type.scale,.ro (ab.els p2.leaf.type.fields),pi p2.leaf.df,pi p2.leaf.rep,.ro (ab.els p2.fields),.ro (eI.els p2.pos)]),(6,vi x1),(7,vQ 3),(9,vl ab p1),(10,vi p1.length),(11,vi x1)] [5] [.box [.fn 77 [.pt 0 0 0 0,.pt 1 0 0 0]],.box [.sl 2 8 0 l1.length],.arr 8 (cm.els l1),.box [ci e1.id,lL e1.name,cb e1.need,ci e1.type.kind,ci e1.type.scale,cl ab e1.type.fields],.arr 6 (ab.els (r1++[e1])),.arr 1 (eI.els r2++eI.els [x1]),.dead] [aT 1 (eI.els r2),aT 1 (eI.els [x1]),0<(eI.els [x1]).length,(eI.els r2).length+(eI.els [x1]).length≤4294967296] (by kernel_rfl) (by kernel_rfl) (⟨eI.ok _,eI.ok _,(by rw[eI.len];exact Nat.zero_lt_succ _),(by rw[eI.len];exact g13),trivial⟩) (by kernel_rfl) ?_
      rw[show(eI.els r2).length+(eI.els [x1]).length=(r2++[x1]).length from by rw[eI.len];exact eI.lapp _ _]
      rw[show eI.els r2++eI.els [x1]=eI.els (r2++[x1])from eI.app2 _ _]
      refine xz 1 [] [(30,.ag (KJ p2 x1 e1 r1 r2)),(29,.one (.sl 5 1 0 ((r2++[x1]).length))),(28,vl eI [x1]),(27,vi x1),(26,.one (.cl (eI.els r2))),(25,vl eI p2.pos),(24,.one (.pv (.rp [(dt p2)] 0 7))),(23,.one (.sl 4 6 0 ((r1++[e1]).length))),(22,vl ab [e1]),(21,.ag (cq e1)),(20,.one (.cl (ab.els r1))),(19,vl ab p2.fields),(18,.one (.pv (.rp [(dt p2)] 0 6))),(17,.ag (yF p2)),(16,vR (dt p2)),(2,vQ 0),(3,vQ 1),(5,vR (dt p2)),(6,vi x1),(7,vQ 3),(9,vl ab p1),(10,vi p1.length),(11,vi x1)] ?_
      refine GY.new true 6 [] (HW p1 p2 x1 e1 r1 r2) [6] [.box iA,.box (kN l1),.arr 8 (cm.els l1),.box (cq e1),.arr 6 (ab.els (r1++[e1])),.arr 1 (eI.els (r2++[x1])),.box Lu] [] (by kernel_rfl) (by kernel_rfl) trivial (by kernel_rfl) ?_
      exact GY.done (by kernel_rfl) (by kernel_rfl)
     refine zg [7,8] 1 [2,3,5,7,8,9,10,11] (zd (hK9 _ _ (zq fun K14 hK14=> ?_)))
     obtain⟨r3,c15,h⟩:=zB h
     obtain⟨g16,h⟩:=zG h
     refine zw 7 [(37,vl eI [e1.id]),(36,vi e1.id),(35,vQ 3),(34,.one (.cl (eI.els r3))),(33,vl eI p2.leaf.path),(32,vQ 6),(31,vQ 6),(2,vQ 0),(3,vQ 1),(5,vR (dt p2)),(7,vQ 3),(8,vQ 6),(9,vl ab p1),(10,vi p1.length),(11,vi x1)] ?_ ?_
     ·refine OQ 3 ?_
      refine DX.cal 79 [vl eI p2.leaf.path] (.one (.cl (eI.els r3))) [(34,.one (.cl (eI.els r3))),(33,vl eI p2.leaf.path),(32,vQ 6),(31,vQ 6),(2,vQ 0),(3,vQ 1),(5,vR (dt p2)),(7,vQ 3),(8,vQ 6),(9,vl ab p1),(10,vi p1.length),(11,vi x1)] (by kernel_rfl) (lG _ _ c15) rfl rfl (by kernel_rfl) ?_
      exact OQ 3 Km
     refine zp [7,8] 1 [2,3,5,7,8,9,10,11,38] [] [(2,vQ 0),(3,vQ 1),(5,vR [.ro (eI.els p2.leaf.path),pi p2.leaf.type.kind,pi p2.leaf.type.scale,.ro (ab.els p2.leaf.type.fields),pi p2.leaf.df,pi p2.leaf.rep,.ro (ab.els p2.fields),.ro (eI.els p2.pos)]),(7,vQ 3),(8,vQ 6),(9,vl ab p1),(10,vi p1.length),(11,vi x1),(38,.one (.sl 7 1 0 ((eI.els r3).length+(eI.els [e1.id]).length)))] [.box [.fn 77 [.pt 0 0 0 0,.pt 1 0 0 0]],.box [.sl 2 8 0 l1.length],.arr 8 (cm.els l1),.box [ci e1.id,lL e1.name,cb e1.need,ci e1.type.kind,ci e1.type.scale,cl ab e1.type.fields],.arr 6 (ab.els (r1++[e1])),.arr 1 (eI.els (r2++[x1])),.box [cl eI p2.leaf.path,ci p2.leaf.type.kind,ci p2.leaf.type.scale,cl ab p2.leaf.type.fields,ci p2.leaf.df,ci p2.leaf.rep,.sl 4 6 0 ((r1++[e1]).length),.sl 5 1 0 ((r2++[x1]).length)],.arr 1 (eI.els r3++eI.els [e1.id])] [aT 1 (eI.els r3),aT 1 (eI.els [e1.id]),0<(eI.els [e1.id]).length,(eI.els r3).length+(eI.els [e1.id]).length≤4294967296] (⟨eI.ok _,eI.ok _,(by rw[eI.len];exact Nat.zero_lt_succ _),(by rw[eI.len];exact g16),trivial⟩) ?_
     rw[show(eI.els r3).length+(eI.els [e1.id]).length=(r3++[e1.id]).length from by rw[eI.len];exact eI.lapp _ _]
     rw[show eI.els r3++eI.els [e1.id]=eI.els (r3++[e1.id])from eI.app2 _ _]
     refine zg [7,8] 3 [2,3,5,7,8,9,10,11] (zd (hK14 _ _ (zq fun K17 hK17=> ?_)))
     have hJ1:∀(z1:Int),fZ (cN k0) (cz (cN k0) p1 p2 k1) p2 l1 x1 e1 r1 r2 r3 z1=some r→∀fr1 st1,bW 90 3 [2] fr1 st1 (D5 p1 p2 x1) [.box iA,.box (kN l1),.arr 8 (cm.els l1),.box (cq e1),.arr 6 (ab.els (r1++[e1])),.arr 1 (eI.els (r2++[x1])),.box (EW p2 x1 e1 r1 r2 r3 z1),.arr 1 (eI.els (r3++[e1.id]))]→K17 fr1 st1:=by
      intro z1 h fr1 st1 hS
      unfold fZ at h
      refine hK17 _ _ (XW.sub hS ?_)
      refine zq fun K20 hK20=>zr (zg [7,8] 3 [2,3,5,7,8,9,10,11,52] (zd (hK20 _ _ (zb 2 (zq fun K21 hK21=>zr ?_)))))
      refine zg [7,8] 2 [2,3,5,7,8,9,10,11,52,61] (zd (hK21 _ _ (zC h (fun b22 h=> ?_) (fun b22 h=> ?_))))
      ·refine zq fun K23 hK23=>zr ?_
       refine zv [7,8] 7 [2,3,5,7,8,9,10,11] [] (D5 p1 p2 x1) [.box iA,.box (kN l1),.arr 8 (cm.els l1),.box (cq e1),.arr 6 (ab.els (r1++[e1])),.arr 1 (eI.els (r2++[x1])),.box [.sl 7 1 0 ((r3++[e1.id]).length),ci p2.leaf.type.kind,ci p2.leaf.type.scale,cl ab p2.leaf.type.fields,ci (i64.wrap (z1+1)),ci p2.leaf.rep,.sl 4 6 0 ((r1++[e1]).length),.sl 5 1 0 ((r2++[x1]).length)],.arr 1 (eI.els (r3++[e1.id]))] ?_
       refine zd (hK23 _ _ (zq fun K24 hK24=>zr (zg [7,8] 7 [2,3,5,7,8,9,10,11] (zd (hK24 _ _ ?_)))))
       obtain⟨r4,c25,h⟩:=zB h
       refine zr ?_
       refine zv [7,8] 5 [2,3,5,9,10,11,75,78,79] [] [(2,vQ 0),(3,vQ 1),(5,vR (dt p2)),(9,vl ab p1),(10,vi p1.length),(11,vi x1),(75,.one (.fn 77 [.pt 0 0 0 0,.pt 1 0 0 0])),(78,vl ab e1.type.fields),(79,.ag (H2 p2 x1 e1 r1 r2 r3 z1))] [.box iA,.box (kN l1),.arr 8 (cm.els l1),.box (cq e1),.arr 6 (ab.els (r1++[e1])),.arr 1 (eI.els (r2++[x1])),.box (H2 p2 x1 e1 r1 r2 r3 z1),.arr 1 (eI.els (r3++[e1.id]))] ?_
       refine XO.sub (bW.trans (bW.stale 6 0 7 1 0 ((r3++[e1.id]).length) (H2 p2 x1 e1 r1 r2 r3 z1) rfl rfl [.box iA,.box (kN l1),.arr 8 (cm.els l1),.box (cq e1),.arr 6 (ab.els (r1++[e1])),.arr 1 (eI.els (r2++[x1])),.box (Lg p2 x1 e1 r1 r2 r3 z1),.arr 1 (eI.els (r3++[e1.id])),.dead] rfl) (bW.kill (fr':=[(2,vQ 0),(3,vQ 1),(5,vR (dt p2)),(9,vl ab p1),(10,vi p1.length),(11,vi x1),(75,.one (.fn 77 [.pt 0 0 0 0,.pt 1 0 0 0])),(78,vl ab e1.type.fields),(79,.ag [cl eI (r3++[e1.id]),ci p2.leaf.type.kind,ci p2.leaf.type.scale,cl ab p2.leaf.type.fields,ci (i64.wrap (z1+1)),ci (i64.wrap (p2.leaf.rep+1)),.sl 4 6 0 ((r1++[e1]).length),.sl 5 1 0 ((r2++[x1]).length)])]) 7 (by decide) (by kernel_rfl) ⟨.one (.rfl _ rfl),.one (.rfl _ rfl),.one (.rfl _ rfl),.one (.rfl _ rfl),.one (.rfl _ rfl),.one (.rfl _ rfl),.one (.rfl _ rfl),.one (.rfl _ rfl),.ag (.cons (kT eI (r3++[e1.id]) rfl rfl rfl) (.cons (.rfl _ rfl) (.cons (.rfl _ rfl) (.cons (.rfl _ rfl) (.cons (.rfl _ rfl) (.cons (.rfl _ rfl) (.cons (.rfl _ rfl) (.cons (.rfl _ rfl) .nil)))))))),trivial⟩)) ?_
       refine XO.sub (bW.trans (bW.stale 6 6 4 6 0 ((r1++[e1]).length) (Lg p2 x1 e1 r1 r2 r3 z1) rfl rfl [.box iA,.box (kN l1),.arr 8 (cm.els l1),.box (cq e1),.arr 6 (ab.els (r1++[e1])),.arr 1 (eI.els (r2++[x1])),.box (KK p2 x1 e1 r1 r2 r3 z1),.dead,.dead,.dead] rfl) (bW.kill (fr':=[(2,vQ 0),(3,vQ 1),(5,vR (dt p2)),(9,vl ab p1),(10,vi p1.length),(11,vi x1),(75,.one (.fn 77 [.pt 0 0 0 0,.pt 1 0 0 0])),(78,vl ab e1.type.fields),(79,.ag [cl eI (r3++[e1.id]),ci p2.leaf.type.kind,ci p2.leaf.type.scale,cl ab p2.leaf.type.fields,ci (i64.wrap (z1+1)),ci (i64.wrap (p2.leaf.rep+1)),cl ab (r1++[e1]),.sl 5 1 0 ((r2++[x1]).length)])]) 4 (by decide) (by kernel_rfl) ⟨.one (.rfl _ rfl),.one (.rfl _ rfl),.one (.rfl _ rfl),.one (.rfl _ rfl),.one (.rfl _ rfl),.one (.rfl _ rfl),.one (.rfl _ rfl),.one (.rfl _ rfl),.ag (.cons (.rfl _ rfl) (.cons (.rfl _ rfl) (.cons (.rfl _ rfl) (.cons (.rfl _ rfl) (.cons (.rfl _ rfl) (.cons (.rfl _ rfl) (.cons (kT ab (r1++[e1]) rfl rfl rfl) (.cons (.rfl _ rfl) .nil)))))))),trivial⟩)) ?_
       refine XO.sub (bW.trans (bW.stale 6 7 5 1 0 ((r2++[x1]).length) (KK p2 x1 e1 r1 r2 r3 z1) rfl rfl [.box iA,.box (kN l1),.arr 8 (cm.els l1),.box (cq e1),.dead,.arr 1 (eI.els (r2++[x1])),.box (Ll p2 x1 e1 r1 r2 r3 z1),.dead,.dead,.dead,.dead] rfl) (bW.kill (fr':=[(2,vQ 0),(3,vQ 1),(5,vR (dt p2)),(9,vl ab p1),(10,vi p1.length),(11,vi x1),(75,.one (.fn 77 [.pt 0 0 0 0,.pt 1 0 0 0])),(78,vl ab e1.type.fields),(79,.ag (Jc p2 x1 e1 r1 r2 r3 z1))]) 5 (by decide) (by kernel_rfl) ⟨.one (.rfl _ rfl),.one (.rfl _ rfl),.one (.rfl _ rfl),.one (.rfl _ rfl),.one (.rfl _ rfl),.one (.rfl _ rfl),.one (.rfl _ rfl),.one (.rfl _ rfl),.ag (.cons (.rfl _ rfl) (.cons (.rfl _ rfl) (.cons (.rfl _ rfl) (.cons (.rfl _ rfl) (.cons (.rfl _ rfl) (.cons (.rfl _ rfl) (.cons (.rfl _ rfl) (.cons (kT eI (r2++[x1]) rfl rfl rfl) .nil)))))))),trivial⟩)) ?_
       refine XO.calx 77 [vl ab e1.type.fields,.ag (Jc p2 x1 e1 r1 r2 r3 z1),vQ 0,vQ 1] (DA l1) [.box iA,.box [.sl 2 8 0 r4.2.length],.arr 8 (cm.els r4.2)] [2] (.tp []) [0,1,2] [2] [(80,.tp []),(2,vQ 0),(3,vQ 1),(5,vR (dt p2)),(9,vl ab p1),(10,vi p1.length),(11,vi x1),(75,.one (.fn 77 [.pt 0 0 0 0,.pt 1 0 0 0])),(78,vl ab e1.type.fields),(79,.ag (Jc p2 x1 e1 r1 r2 r3 z1))] [.box iA,.box [.sl 2 8 0 r4.2.length],.arr 8 (cm.els r4.2),.box (cq e1),.dead,.dead,.box (Ll p2 x1 e1 r1 r2 r3 z1),.dead,.dead,.dead,.dead] (by kernel_rfl) (m8 k0 _ _ _ _ c25) (by kernel_rfl) (by kernel_rfl) (by kernel_rfl) (by kernel_rfl) (by kernel_rfl) (by kernel_rfl) (by kernel_rfl) ?_
       refine zd ?_
       exact hJ2 r4.2 h _ _ (bW.trans (bW.pick (fr':=(ra p1 p2 x1)) [2,3,5,9,10,11] (by kernel_rfl)) (bW.take (fr':=(ra p1 p2 x1)) 3 (by decide) (by kernel_rfl) (by kernel_rfl)))
      ·refine zq fun K26 hK26=>zr (zg [7,8] 2 [2,3,5,7,8,9,10,11,81] (zd (hK26 _ _ (zC h (fun b27 h=> ?_) (fun b27 h=> ?_)))))
       ·obtain⟨r5,c28,h⟩:=zB h
        refine zr ?_
        refine zv [7,8] 5 [2,3,5,9,10,11,83,86,87] [] [(2,vQ 0),(3,vQ 1),(5,vR (dt p2)),(9,vl ab p1),(10,vi p1.length),(11,vi x1),(83,.one (.fn 77 [.pt 0 0 0 0,.pt 1 0 0 0])),(86,vl ab e1.type.fields),(87,.ag (EW p2 x1 e1 r1 r2 r3 z1))] [.box iA,.box (kN l1),.arr 8 (cm.els l1),.box (cq e1),.arr 6 (ab.els (r1++[e1])),.arr 1 (eI.els (r2++[x1])),.box (EW p2 x1 e1 r1 r2 r3 z1),.arr 1 (eI.els (r3++[e1.id]))] ?_
        refine XO.sub (bW.trans (bW.stale 6 0 7 1 0 ((r3++[e1.id]).length) (EW p2 x1 e1 r1 r2 r3 z1) rfl rfl [.box iA,.box (kN l1),.arr 8 (cm.els l1),.box (cq e1),.arr 6 (ab.els (r1++[e1])),.arr 1 (eI.els (r2++[x1])),.box [.sl 8 1 0 ((r3++[e1.id]).length),ci p2.leaf.type.kind,ci p2.leaf.type.scale,cl ab p2.leaf.type.fields,ci z1,ci p2.leaf.rep,.sl 4 6 0 ((r1++[e1]).length),.sl 5 1 0 ((r2++[x1]).length)],.arr 1 (eI.els (r3++[e1.id])),.dead] rfl) (bW.kill (fr':=[(2,vQ 0),(3,vQ 1),(5,vR (dt p2)),(9,vl ab p1),(10,vi p1.length),(11,vi x1),(83,.one (.fn 77 [.pt 0 0 0 0,.pt 1 0 0 0])),(86,vl ab e1.type.fields),(87,.ag [cl eI (r3++[e1.id]),ci p2.leaf.type.kind,ci p2.leaf.type.scale,cl ab p2.leaf.type.fields,ci z1,ci p2.leaf.rep,.sl 4 6 0 ((r1++[e1]).length),.sl 5 1 0 ((r2++[x1]).length)])]) 7 (by decide) (by kernel_rfl) ⟨.one (.rfl _ rfl),.one (.rfl _ rfl),.one (.rfl _ rfl),.one (.rfl _ rfl),.one (.rfl _ rfl),.one (.rfl _ rfl),.one (.rfl _ rfl),.one (.rfl _ rfl),.ag (.cons (kT eI (r3++[e1.id]) rfl rfl rfl) (.cons (.rfl _ rfl) (.cons (.rfl _ rfl) (.cons (.rfl _ rfl) (.cons (.rfl _ rfl) (.cons (.rfl _ rfl) (.cons (.rfl _ rfl) (.cons (.rfl _ rfl) .nil)))))))),trivial⟩)) ?_
        refine XO.sub (bW.trans (bW.stale 6 6 4 6 0 ((r1++[e1]).length) [.sl 8 1 0 ((r3++[e1.id]).length),ci p2.leaf.type.kind,ci p2.leaf.type.scale,cl ab p2.leaf.type.fields,ci z1,ci p2.leaf.rep,.sl 4 6 0 ((r1++[e1]).length),.sl 5 1 0 ((r2++[x1]).length)] rfl rfl [.box iA,.box (kN l1),.arr 8 (cm.els l1),.box (cq e1),.arr 6 (ab.els (r1++[e1])),.arr 1 (eI.els (r2++[x1])),.box [.sl 8 1 0 ((r3++[e1.id]).length),ci p2.leaf.type.kind,ci p2.leaf.type.scale,cl ab p2.leaf.type.fields,ci z1,ci p2.leaf.rep,.sl 9 6 0 ((r1++[e1]).length),.sl 5 1 0 ((r2++[x1]).length)],.dead,.dead,.dead] rfl) (bW.kill (fr':=[(2,vQ 0),(3,vQ 1),(5,vR (dt p2)),(9,vl ab p1),(10,vi p1.length),(11,vi x1),(83,.one (.fn 77 [.pt 0 0 0 0,.pt 1 0 0 0])),(86,vl ab e1.type.fields),(87,.ag [cl eI (r3++[e1.id]),ci p2.leaf.type.kind,ci p2.leaf.type.scale,cl ab p2.leaf.type.fields,ci z1,ci p2.leaf.rep,cl ab (r1++[e1]),.sl 5 1 0 ((r2++[x1]).length)])]) 4 (by decide) (by kernel_rfl) ⟨.one (.rfl _ rfl),.one (.rfl _ rfl),.one (.rfl _ rfl),.one (.rfl _ rfl),.one (.rfl _ rfl),.one (.rfl _ rfl),.one (.rfl _ rfl),.one (.rfl _ rfl),.ag (.cons (.rfl _ rfl) (.cons (.rfl _ rfl) (.cons (.rfl _ rfl) (.cons (.rfl _ rfl) (.cons (.rfl _ rfl) (.cons (.rfl _ rfl) (.cons (kT ab (r1++[e1]) rfl rfl rfl) (.cons (.rfl _ rfl) .nil)))))))),trivial⟩)) ?_
        refine XO.sub (bW.trans (bW.stale 6 7 5 1 0 ((r2++[x1]).length) [.sl 8 1 0 ((r3++[e1.id]).length),ci p2.leaf.type.kind,ci p2.leaf.type.scale,cl ab p2.leaf.type.fields,ci z1,ci p2.leaf.rep,.sl 9 6 0 ((r1++[e1]).length),.sl 5 1 0 ((r2++[x1]).length)] rfl rfl [.box iA,.box (kN l1),.arr 8 (cm.els l1),.box (cq e1),.dead,.arr 1 (eI.els (r2++[x1])),.box [.sl 8 1 0 ((r3++[e1.id]).length),ci p2.leaf.type.kind,ci p2.leaf.type.scale,cl ab p2.leaf.type.fields,ci z1,ci p2.leaf.rep,.sl 9 6 0 ((r1++[e1]).length),.sl 10 1 0 ((r2++[x1]).length)],.dead,.dead,.dead,.dead] rfl) (bW.kill (fr':=[(2,vQ 0),(3,vQ 1),(5,vR (dt p2)),(9,vl ab p1),(10,vi p1.length),(11,vi x1),(83,.one (.fn 77 [.pt 0 0 0 0,.pt 1 0 0 0])),(86,vl ab e1.type.fields),(87,.ag (HJ p2 x1 e1 r1 r2 r3 z1))]) 5 (by decide) (by kernel_rfl) ⟨.one (.rfl _ rfl),.one (.rfl _ rfl),.one (.rfl _ rfl),.one (.rfl _ rfl),.one (.rfl _ rfl),.one (.rfl _ rfl),.one (.rfl _ rfl),.one (.rfl _ rfl),.ag (.cons (.rfl _ rfl) (.cons (.rfl _ rfl) (.cons (.rfl _ rfl) (.cons (.rfl _ rfl) (.cons (.rfl _ rfl) (.cons (.rfl _ rfl) (.cons (.rfl _ rfl) (.cons (kT eI (r2++[x1]) rfl rfl rfl) .nil)))))))),trivial⟩)) ?_
        refine XO.calx 77 [vl ab e1.type.fields,.ag (HJ p2 x1 e1 r1 r2 r3 z1),vQ 0,vQ 1] (DA l1) [.box iA,.box [.sl 2 8 0 r5.2.length],.arr 8 (cm.els r5.2)] [2] (.tp []) [0,1,2] [2] [(88,.tp []),(2,vQ 0),(3,vQ 1),(5,vR (dt p2)),(9,vl ab p1),(10,vi p1.length),(11,vi x1),(83,.one (.fn 77 [.pt 0 0 0 0,.pt 1 0 0 0])),(86,vl ab e1.type.fields),(87,.ag (HJ p2 x1 e1 r1 r2 r3 z1))] [.box iA,.box [.sl 2 8 0 r5.2.length],.arr 8 (cm.els r5.2),.box (cq e1),.dead,.dead,.box [.sl 8 1 0 ((r3++[e1.id]).length),ci p2.leaf.type.kind,ci p2.leaf.type.scale,cl ab p2.leaf.type.fields,ci z1,ci p2.leaf.rep,.sl 9 6 0 ((r1++[e1]).length),.sl 10 1 0 ((r2++[x1]).length)],.dead,.dead,.dead,.dead] (by kernel_rfl) (m8 k0 _ _ _ _ c28) (by kernel_rfl) (by kernel_rfl) (by kernel_rfl) (by kernel_rfl) (by kernel_rfl) (by kernel_rfl) (by kernel_rfl) ?_
        refine zd ?_
        exact hJ2 r5.2 h _ _ (bW.trans (bW.pick (fr':=(ra p1 p2 x1)) [2,3,5,9,10,11] (by kernel_rfl)) (bW.take (fr':=(ra p1 p2 x1)) 3 (by decide) (by kernel_rfl) (by kernel_rfl)))
       ·refine zq fun K29 hK29=>zr (zg [7,8] 5 [2,3,5,8,9,10,11] (zd (hK29 _ _ ?_)))
        obtain⟨g30,h⟩:=zG h
        refine zr ?_
        refine zv [7,8] 2 [2,3,5,9,10,11,57,58] [] [(2,vQ 0),(3,vQ 1),(5,vR (dt p2)),(9,vl ab p1),(10,vi p1.length),(11,vi x1),(57,.one (.sl 2 8 0 l1.length)),(58,.ag (Hg p2 x1 e1 r1 r2 r3 z1))] [.box iA,.box (kN l1),.arr 8 (cm.els l1),.box (cq e1),.arr 6 (ab.els (r1++[e1])),.arr 1 (eI.els (r2++[x1])),.box (Hg p2 x1 e1 r1 r2 r3 z1),.arr 1 (eI.els (r3++[e1.id]))] ?_
        refine XO.sub (bW.trans (bW.stale 6 0 7 1 0 ((r3++[e1.id]).length) (Hg p2 x1 e1 r1 r2 r3 z1) rfl rfl [.box iA,.box (kN l1),.arr 8 (cm.els l1),.box (cq e1),.arr 6 (ab.els (r1++[e1])),.arr 1 (eI.els (r2++[x1])),.box [.sl 8 1 0 ((r3++[e1.id]).length),ci e1.type.kind,ci e1.type.scale,cl ab e1.type.fields,ci z1,ci p2.leaf.rep,.sl 4 6 0 ((r1++[e1]).length),.sl 5 1 0 ((r2++[x1]).length)],.arr 1 (eI.els (r3++[e1.id])),.dead] rfl) (bW.kill (fr':=[(2,vQ 0),(3,vQ 1),(5,vR (dt p2)),(9,vl ab p1),(10,vi p1.length),(11,vi x1),(57,.one (.sl 2 8 0 l1.length)),(58,.ag [cl eI (r3++[e1.id]),ci e1.type.kind,ci e1.type.scale,cl ab e1.type.fields,ci z1,ci p2.leaf.rep,.sl 4 6 0 ((r1++[e1]).length),.sl 5 1 0 ((r2++[x1]).length)])]) 7 (by decide) (by kernel_rfl) ⟨.one (.rfl _ rfl),.one (.rfl _ rfl),.one (.rfl _ rfl),.one (.rfl _ rfl),.one (.rfl _ rfl),.one (.rfl _ rfl),.one (.rfl _ rfl),.ag (.cons (kT eI (r3++[e1.id]) rfl rfl rfl) (.cons (.rfl _ rfl) (.cons (.rfl _ rfl) (.cons (.rfl _ rfl) (.cons (.rfl _ rfl) (.cons (.rfl _ rfl) (.cons (.rfl _ rfl) (.cons (.rfl _ rfl) .nil)))))))),trivial⟩)) ?_
        refine XO.sub (bW.trans (bW.stale 6 6 4 6 0 ((r1++[e1]).length) [.sl 8 1 0 ((r3++[e1.id]).length),ci e1.type.kind,ci e1.type.scale,cl ab e1.type.fields,ci z1,ci p2.leaf.rep,.sl 4 6 0 ((r1++[e1]).length),.sl 5 1 0 ((r2++[x1]).length)] rfl rfl [.box iA,.box (kN l1),.arr 8 (cm.els l1),.box (cq e1),.arr 6 (ab.els (r1++[e1])),.arr 1 (eI.els (r2++[x1])),.box [.sl 8 1 0 ((r3++[e1.id]).length),ci e1.type.kind,ci e1.type.scale,cl ab e1.type.fields,ci z1,ci p2.leaf.rep,.sl 9 6 0 ((r1++[e1]).length),.sl 5 1 0 ((r2++[x1]).length)],.dead,.dead,.dead] rfl) (bW.kill (fr':=[(2,vQ 0),(3,vQ 1),(5,vR (dt p2)),(9,vl ab p1),(10,vi p1.length),(11,vi x1),(57,.one (.sl 2 8 0 l1.length)),(58,.ag [cl eI (r3++[e1.id]),ci e1.type.kind,ci e1.type.scale,cl ab e1.type.fields,ci z1,ci p2.leaf.rep,cl ab (r1++[e1]),.sl 5 1 0 ((r2++[x1]).length)])]) 4 (by decide) (by kernel_rfl) ⟨.one (.rfl _ rfl),.one (.rfl _ rfl),.one (.rfl _ rfl),.one (.rfl _ rfl),.one (.rfl _ rfl),.one (.rfl _ rfl),.one (.rfl _ rfl),.ag (.cons (.rfl _ rfl) (.cons (.rfl _ rfl) (.cons (.rfl _ rfl) (.cons (.rfl _ rfl) (.cons (.rfl _ rfl) (.cons (.rfl _ rfl) (.cons (kT ab (r1++[e1]) rfl rfl rfl) (.cons (.rfl _ rfl) .nil)))))))),trivial⟩)) ?_
        refine XO.sub (bW.trans (bW.stale 6 7 5 1 0 ((r2++[x1]).length) [.sl 8 1 0 ((r3++[e1.id]).length),ci e1.type.kind,ci e1.type.scale,cl ab e1.type.fields,ci z1,ci p2.leaf.rep,.sl 9 6 0 ((r1++[e1]).length),.sl 5 1 0 ((r2++[x1]).length)] rfl rfl [.box iA,.box (kN l1),.arr 8 (cm.els l1),.box (cq e1),.dead,.arr 1 (eI.els (r2++[x1])),.box (IJ p2 x1 e1 r1 r2 r3 z1),.dead,.dead,.dead,.dead] rfl) (bW.kill (fr':=[(2,vQ 0),(3,vQ 1),(5,vR (dt p2)),(9,vl ab p1),(10,vi p1.length),(11,vi x1),(57,.one (.sl 2 8 0 l1.length)),(58,.ag [cl eI (r3++[e1.id]),ci e1.type.kind,ci e1.type.scale,cl ab e1.type.fields,ci z1,ci p2.leaf.rep,cl ab (r1++[e1]),cl eI (r2++[x1])])]) 5 (by decide) (by kernel_rfl) ⟨.one (.rfl _ rfl),.one (.rfl _ rfl),.one (.rfl _ rfl),.one (.rfl _ rfl),.one (.rfl _ rfl),.one (.rfl _ rfl),.one (.rfl _ rfl),.ag (.cons (.rfl _ rfl) (.cons (.rfl _ rfl) (.cons (.rfl _ rfl) (.cons (.rfl _ rfl) (.cons (.rfl _ rfl) (.cons (.rfl _ rfl) (.cons (.rfl _ rfl) (.cons (kT eI (r2++[x1]) rfl rfl rfl) .nil)))))))),trivial⟩)) ?_
        refine zv [7,8] 1 [2,3,5,9,10,11,57,59] [] [(2,vQ 0),(3,vQ 1),(5,vR (dt p2)),(9,vl ab p1),(10,vi p1.length),(11,vi x1),(57,.one (.sl 2 8 0 l1.length)),(59,vl cm ([(bk.mk (jI.mk (r3++[e1.id]) e1.type z1 p2.leaf.rep) (r1++[e1]) (r2++[x1]))]))] [.box iA,.box (kN l1),.arr 8 (cm.els l1),.box (cq e1),.dead,.dead,.box (IJ p2 x1 e1 r1 r2 r3 z1),.dead,.dead,.dead,.dead] ?_
        refine XO.sub (bW.stale 1 0 2 8 0 l1.length (kN l1) rfl rfl [.box iA,.box [.sl 11 8 0 l1.length],.arr 8 (cm.els l1),.box (cq e1),.dead,.dead,.box (IJ p2 x1 e1 r1 r2 r3 z1),.dead,.dead,.dead,.dead,.dead] rfl) ?_
        refine zp [7,8] 1 [2,3,5,9,10,11,60] [] [(2,vQ 0),(3,vQ 1),(5,vR [.ro (eI.els p2.leaf.path),pi p2.leaf.type.kind,pi p2.leaf.type.scale,.ro (ab.els p2.leaf.type.fields),pi p2.leaf.df,pi p2.leaf.rep,.ro (ab.els p2.fields),.ro (eI.els p2.pos)]),(9,vl ab p1),(10,vi p1.length),(11,vi x1),(60,.one (.sl 2 8 0 (l1.length+(cm.els ([(bk.mk (jI.mk (r3++[e1.id]) e1.type z1 p2.leaf.rep) (r1++[e1]) (r2++[x1]))])).length)))] [.box [.fn 77 [.pt 0 0 0 0,.pt 1 0 0 0]],.box [.sl 11 8 0 l1.length],.arr 8 (cm.els l1++cm.els ([(bk.mk (jI.mk (r3++[e1.id]) e1.type z1 p2.leaf.rep) (r1++[e1]) (r2++[x1]))])),.box [ci e1.id,lL e1.name,cb e1.need,ci e1.type.kind,ci e1.type.scale,cl ab e1.type.fields],.dead,.dead,.box [.sl 8 1 0 ((r3++[e1.id]).length),ci e1.type.kind,ci e1.type.scale,cl ab e1.type.fields,ci z1,ci p2.leaf.rep,.sl 9 6 0 ((r1++[e1]).length),.sl 10 1 0 ((r2++[x1]).length)],.dead,.dead,.dead,.dead,.dead] [aT 8 (cm.els ([(bk.mk (jI.mk (r3++[e1.id]) e1.type z1 p2.leaf.rep) (r1++[e1]) (r2++[x1]))])),l1.length=(cm.els l1).length,l1.length+(cm.els ([(bk.mk (jI.mk (r3++[e1.id]) e1.type z1 p2.leaf.rep) (r1++[e1]) (r2++[x1]))])).length≤4294967296] (⟨cm.ok _,(cm.len l1).symm,g30,trivial⟩) ?_
        rw[show l1.length+(cm.els ([(bk.mk (jI.mk (r3++[e1.id]) e1.type z1 p2.leaf.rep) (r1++[e1]) (r2++[x1]))])).length=(l1++[(bk.mk (jI.mk (r3++[e1.id]) e1.type z1 p2.leaf.rep) (r1++[e1]) (r2++[x1]))]).length from cm.lapp _ _]
        rw[show cm.els l1++cm.els ([(bk.mk (jI.mk (r3++[e1.id]) e1.type z1 p2.leaf.rep) (r1++[e1]) (r2++[x1]))])=cm.els (l1++[(bk.mk (jI.mk (r3++[e1.id]) e1.type z1 p2.leaf.rep) (r1++[e1]) (r2++[x1]))])from cm.app2 _ _]
        refine zg [7,8] 1 [2,3,5,9,10,11] (zd ?_)
        exact hJ2 (l1++[(bk.mk (jI.mk (r3++[e1.id]) e1.type z1 p2.leaf.rep) (r1++[e1]) (r2++[x1]))]) h _ _ (bW.trans (bW.pick (fr':=(ra p1 p2 x1)) [2,3,5,9,10,11] (by kernel_rfl)) (bW.take (fr':=(ra p1 p2 x1)) 3 (by decide) (by kernel_rfl) (by kernel_rfl)))
     refine zq fun K18 hK18=>zr (zg [7,8] 3 [2,3,5,7,8,9,10,11,43] (zd (hK18 _ _ (zC h (fun b19 h=> ?_) (fun b19 h=> ?_)))))
     ·refine zr ?_
      refine zv [7,8] 7 [2,3,5,7,8,9,10,11] [] (D5 p1 p2 x1) [.box iA,.box (kN l1),.arr 8 (cm.els l1),.box (cq e1),.arr 6 (ab.els (r1++[e1])),.arr 1 (eI.els (r2++[x1])),.box [.sl 7 1 0 ((r3++[e1.id]).length),ci p2.leaf.type.kind,ci p2.leaf.type.scale,cl ab p2.leaf.type.fields,ci (i64.wrap (p2.leaf.df+1)),ci p2.leaf.rep,.sl 4 6 0 ((r1++[e1]).length),.sl 5 1 0 ((r2++[x1]).length)],.arr 1 (eI.els (r3++[e1.id]))] ?_
      exact zd (hJ1 (i64.wrap (p2.leaf.df+1)) h _ _ (zk [2,3,5,7,8,9,10,11]))
     ·exact zs (hJ1 p2.leaf.df h _ _ (zk [2,3,5,7,8,9,10,11]))
    ·refine zx 0 (hQ1 _ _ _ ?_)
     obtain rfl:=Option.some.inj h
     exact qO.fin (.inl rfl) [] [] [] (by kernel_rfl) trivial (by kernel_rfl) (by kernel_rfl) (.tp0)
  exact XR.sub (zk [2,3,5,9,10,11]) (hL1 aO p3 (0:Int) h)
def jl(p1:List af):Option (List bk):=aK (cN aO p1 (bk.mk (jI.mk [] (aq.mk 0 0 []) 0 0) [] []) []) fun r1=>some r1.2
theorem oh(p1:List af):CT prog 31 [vl ab p1] (jl p1) (vl cm):=
  hJ 11 [3,4] f31 fun r=>(vq (.lb 0 0 8) (OD true [1,0,2] (m8 aO _ _ _) fun r1 _=>(wd cm r1.2 2 [2] uz)))
def dI(p1 p2:Int)(p3:bz):Option (Unit×bz):=eh (p3.c.reps.length+1≤4294967296)<|eh (p3.c.defs.length+1≤4294967296)<|some ((),(bz.mk p3.p (ae.mk (p3.c.reps++[p1]) (p3.c.defs++[p2]) p3.c.values)))
abbrev Dn(p1 p2:Int)(p3:bz):Fr:=[(26,.one (.pt 0 0 0 8)),(25,.one (.pt 0 0 0 8)),(24,.one (.pt 0 0 0 0)),(23,.one (.sl 5 1 0 ((p3.c.defs++[p2]).length))),(22,vl eI [p2]),(21,vi p2),(20,.one (.sl 2 1 0 p3.c.defs.length)),(19,.one (.pt 0 0 0 9)),(18,.one (.pt 0 0 0 8)),(17,.one (.pt 0 0 0 0)),(16,.one (.pt 0 0 0 0)),(15,.one (.sl 4 1 0 ((p3.c.reps++[p1]).length))),(14,vl eI [p1]),(13,vi p1),(12,.one (.sl 1 1 0 p3.c.reps.length)),(11,.one (.pt 0 0 0 8)),(10,.one (.pt 0 0 0 8)),(9,.one (.pt 0 0 0 0)),(8,.one (.pt 0 0 0 0)),(7,.one (.pt 0 0 0 0)),(6,.one (.pt 0 0 0 0)),(0,.one (.pt 0 0 0 0)),(1,vi p1),(2,vi p2)]
abbrev LO(p1:Int)(p3:bz):List CV:=[cl eI p3.p.leaf.path,ci p3.p.leaf.type.kind,ci p3.p.leaf.type.scale,cl ab p3.p.leaf.type.fields,ci p3.p.leaf.df,ci p3.p.leaf.rep,cl ab p3.p.fields,cl eI p3.p.pos,.sl 4 1 0 ((p3.c.reps++[p1]).length),.sl 2 1 0 p3.c.defs.length,.sl 3 5 0 p3.c.values.length]
abbrev Hw(p1 p2:Int)(p3:bz):St:=[.box (LO p1 p3),.dead,.dead,.arr 5 (ac.els p3.c.values),.arr 1 (eI.els (p3.c.reps++[p1])),.arr 1 (eI.els (p3.c.defs++[p2]))]
theorem iM(p1 p2:Int)(p3:bz)(r:(Unit×bz))(h:dI p1 p2 p3=some r):MX prog 174 [vQ 0,vi p1,vi p2] [.box [cl eI p3.p.leaf.path,ci p3.p.leaf.type.kind,ci p3.p.leaf.type.scale,cl ab p3.p.leaf.type.fields,ci p3.p.leaf.df,ci p3.p.leaf.rep,cl ab p3.p.fields,cl eI p3.p.pos,.sl 1 1 0 p3.c.reps.length,.sl 2 1 0 p3.c.defs.length,.sl 3 5 0 p3.c.values.length],.arr 1 (eI.els p3.c.reps),.arr 1 (eI.els p3.c.defs),.arr 5 (ac.els p3.c.values)] [1,2,3] (.tp []) [.box [cl eI r.2.p.leaf.path,ci r.2.p.leaf.type.kind,ci r.2.p.leaf.type.scale,cl ab r.2.p.leaf.type.fields,ci r.2.p.leaf.df,ci r.2.p.leaf.rep,cl ab r.2.p.fields,cl eI r.2.p.pos,.sl 1 1 0 r.2.c.reps.length,.sl 2 1 0 r.2.c.defs.length,.sl 3 5 0 r.2.c.values.length],.arr 1 (eI.els r.2.c.reps),.arr 1 (eI.els r.2.c.defs),.arr 5 (ac.els r.2.c.values)]:=by
 unfold dI at h
 refine MX.of 4 4 rfl (n:=30) (fn:=f174) (c:=cd f174 []) (by kernel_rfl) (by kernel_rfl) (by kernel_rfl) (n4 rfl) rfl ?_
 obtain⟨g1,h⟩:=zG h
 obtain⟨g2,h⟩:=zG h
 refine XW.sub (bW.dead 2) ?_
 refine XW.drwG 22 [4,5,6] [([],[]),([],[]),([],[]),([],[]),([],[]),([],[]),([0],[]),([],[]),([],[]),([4,1,1004],[4,1,1004]),([],[]),([],[]),([],[]),([],[]),([0],[]),([],[]),([],[]),([5,2,1005],[5,2,1005]),([],[]),([],[]),([],[]),([0,1004],[0])] (Dn p1 p2 p3) (Hw p1 p2 p3) (by kernel_rfl) (by kernel_rfl) ?_ ?_
 ·refine xz 9 [] [(14,vl eI [p1]),(13,vi p1),(12,.one (.sl 1 1 0 p3.c.reps.length)),(11,.one (.pt 0 0 0 8)),(10,.one (.pt 0 0 0 8)),(9,vQ 0),(8,vQ 0),(7,vQ 0),(6,vQ 0),(0,vQ 0),(1,vi p1),(2,vi p2)] ?_
  refine GY.new true 4 [] [(15,.one (.sl 4 1 0 (p3.c.reps.length+(eI.els [p1]).length))),(14,vl eI [p1]),(13,vi p1),(12,.one (.sl 1 1 0 p3.c.reps.length)),(11,.one (.pt 0 0 0 8)),(10,.one (.pt 0 0 0 8)),(9,vQ 0),(8,vQ 0),(7,vQ 0),(6,vQ 0),(0,vQ 0),(1,vi p1),(2,vi p2)] [4,1] [.box [cl eI p3.p.leaf.path,ci p3.p.leaf.type.kind,ci p3.p.leaf.type.scale,cl ab p3.p.leaf.type.fields,ci p3.p.leaf.df,ci p3.p.leaf.rep,cl ab p3.p.fields,cl eI p3.p.pos,.sl 1 1 0 p3.c.reps.length,.sl 2 1 0 p3.c.defs.length,.sl 3 5 0 p3.c.values.length],.dead,.arr 1 (eI.els p3.c.defs),.arr 5 (ac.els p3.c.values),.arr 1 (eI.els p3.c.reps++eI.els [p1]),.dead] [aT 1 (eI.els [p1]),p3.c.reps.length=(eI.els p3.c.reps).length,p3.c.reps.length+(eI.els [p1]).length≤4294967296] (by kernel_rfl) (by kernel_rfl) (⟨eI.ok _,(eI.len p3.c.reps).symm,g1,trivial⟩) (by kernel_rfl) ?_
  rw[show p3.c.reps.length+(eI.els [p1]).length=(p3.c.reps++[p1]).length from eI.lapp _ _]
  rw[show eI.els p3.c.reps++eI.els [p1]=eI.els (p3.c.reps++[p1])from eI.app2 _ _]
  refine xz 7 [] [(22,vl eI [p2]),(21,vi p2),(20,.one (.sl 2 1 0 p3.c.defs.length)),(19,.one (.pt 0 0 0 9)),(18,.one (.pt 0 0 0 8)),(17,vQ 0),(16,vQ 0),(15,.one (.sl 4 1 0 ((p3.c.reps++[p1]).length))),(14,vl eI [p1]),(13,vi p1),(12,.one (.sl 1 1 0 p3.c.reps.length)),(11,.one (.pt 0 0 0 8)),(10,.one (.pt 0 0 0 8)),(9,vQ 0),(8,vQ 0),(7,vQ 0),(6,vQ 0),(0,vQ 0),(1,vi p1),(2,vi p2)] ?_
  refine GY.new true 5 [] [(23,.one (.sl 5 1 0 (p3.c.defs.length+(eI.els [p2]).length))),(22,vl eI [p2]),(21,vi p2),(20,.one (.sl 2 1 0 p3.c.defs.length)),(19,.one (.pt 0 0 0 9)),(18,.one (.pt 0 0 0 8)),(17,vQ 0),(16,vQ 0),(15,.one (.sl 4 1 0 ((p3.c.reps++[p1]).length))),(14,vl eI [p1]),(13,vi p1),(12,.one (.sl 1 1 0 p3.c.reps.length)),(11,.one (.pt 0 0 0 8)),(10,.one (.pt 0 0 0 8)),(9,vQ 0),(8,vQ 0),(7,vQ 0),(6,vQ 0),(0,vQ 0),(1,vi p1),(2,vi p2)] [5,2] [.box [cl eI p3.p.leaf.path,ci p3.p.leaf.type.kind,ci p3.p.leaf.type.scale,cl ab p3.p.leaf.type.fields,ci p3.p.leaf.df,ci p3.p.leaf.rep,cl ab p3.p.fields,cl eI p3.p.pos,.sl 1 1 0 p3.c.reps.length,.sl 2 1 0 p3.c.defs.length,.sl 3 5 0 p3.c.values.length],.dead,.dead,.arr 5 (ac.els p3.c.values),.arr 1 (eI.els (p3.c.reps++[p1])),.arr 1 (eI.els p3.c.defs++eI.els [p2])] [aT 1 (eI.els [p2]),p3.c.defs.length=(eI.els p3.c.defs).length,p3.c.defs.length+(eI.els [p2]).length≤4294967296] (by kernel_rfl) (by kernel_rfl) (⟨eI.ok _,(eI.len p3.c.defs).symm,g2,trivial⟩) (by kernel_rfl) ?_
  rw[show p3.c.defs.length+(eI.els [p2]).length=(p3.c.defs++[p2]).length from eI.lapp _ _]
  rw[show eI.els p3.c.defs++eI.els [p2]=eI.els (p3.c.defs++[p2])from eI.app2 _ _]
  refine xz 3 [] (Dn p1 p2 p3) ?_
  refine GY.sto [0] [] (Dn p1 p2 p3) ([0]++[1004]) (Hw p1 p2 p3) [] (by kernel_rfl) (by kernel_rfl) trivial (by kernel_rfl) ?_
  exact GY.done (by kernel_rfl) (by kernel_rfl)
 refine zv [15,23] 4 [] [] [] [.box [cl eI p3.p.leaf.path,ci p3.p.leaf.type.kind,ci p3.p.leaf.type.scale,cl ab p3.p.leaf.type.fields,ci p3.p.leaf.df,ci p3.p.leaf.rep,cl ab p3.p.fields,cl eI p3.p.pos,.sl 4 1 0 ((p3.c.reps++[p1]).length),.sl 5 1 0 ((p3.c.defs++[p2]).length),.sl 3 5 0 p3.c.values.length],.dead,.dead,.arr 5 (ac.els p3.c.values),.arr 1 (eI.els (p3.c.reps++[p1])),.arr 1 (eI.els (p3.c.defs++[p2]))] ?_
 refine XO.sub (bW.swap 1 4 [] [.box [cl eI p3.p.leaf.path,ci p3.p.leaf.type.kind,ci p3.p.leaf.type.scale,cl ab p3.p.leaf.type.fields,ci p3.p.leaf.df,ci p3.p.leaf.rep,cl ab p3.p.fields,cl eI p3.p.pos,.sl 1 1 0 ((p3.c.reps++[p1]).length),.sl 5 1 0 ((p3.c.defs++[p2]).length),.sl 3 5 0 p3.c.values.length],.arr 1 (eI.els (p3.c.reps++[p1])),.dead,.arr 5 (ac.els p3.c.values),.dead,.arr 1 (eI.els (p3.c.defs++[p2]))] (by kernel_rfl) (by kernel_rfl) (by kernel_rfl) (by kernel_rfl)) ?_
 refine XO.sub (bW.swap 2 5 [] [.box [cl eI p3.p.leaf.path,ci p3.p.leaf.type.kind,ci p3.p.leaf.type.scale,cl ab p3.p.leaf.type.fields,ci p3.p.leaf.df,ci p3.p.leaf.rep,cl ab p3.p.fields,cl eI p3.p.pos,.sl 1 1 0 ((p3.c.reps++[p1]).length),.sl 2 1 0 ((p3.c.defs++[p2]).length),.sl 3 5 0 p3.c.values.length],.arr 1 (eI.els (p3.c.reps++[p1])),.arr 1 (eI.els (p3.c.defs++[p2])),.arr 5 (ac.els p3.c.values),.dead,.dead] (by kernel_rfl) (by kernel_rfl) (by kernel_rfl) (by kernel_rfl)) (zd ?_)
 obtain rfl:=Option.some.inj h
 exact qO.fin (.inl rfl) [] [] [] (by kernel_rfl) trivial (by kernel_rfl) (by kernel_rfl) (.tp0)
def ef(q_column_shredder_put:aa→Int→Int→Int→Int→bz→Option (Unit×bz))(rec1:List Int→List Int→List aa→List Int→Int→Int→List af→Int→Int→List af→List Int→Int→Int→Option (Unit×bz))(p2 p5 x1:Int)(l1 l2:List Int)(l3:List aa)(z1:List Int)(z2 z3:Int)(z4:List af)(z5 z6:Int)(z7:List af)(z8:List Int)(x3:Int)(e2:aa)(x4:Int):Option (Unit×bz):=aK (q_column_shredder_put e2 (i64.wrap (p2+1)) x4 (i64.wrap (x1+1)) (i64.wrap (p5+1)) (bz.mk (bk.mk (jI.mk z1 (aq.mk z2 z3 z4) z5 z6) z7 z8) (ae.mk l1 l2 l3))) fun r3=>rec1 r3.2.c.reps r3.2.c.defs r3.2.c.values r3.2.p.leaf.path r3.2.p.leaf.type.kind r3.2.p.leaf.type.scale r3.2.p.leaf.type.fields r3.2.p.leaf.df r3.2.p.leaf.rep r3.2.p.fields r3.2.p.pos x4 (i64.wrap (x3+1))
def bI(q_column_shredder_put:aa→Int→Int→Int→Int→bz→Option (Unit×bz))(p1:aa)(p2 p5 x1:Int):Nat→List Int→List Int→List aa→List Int→Int→Int→List af→Int→Int→List af→List Int→Int→Int→Option (Unit×bz)
 |0,_,_,_,_,_,_,_,_,_,_,_,_,_=>none
 |k1+1,l1,l2,l3,z1,z2,z3,z4,z5,z6,z7,z8,x2,x3=>aF (decide (x3<(p1.items.length:Int))) (aK (at? p1.items x3) fun e2=>aF (decide (0<x3)) (ef q_column_shredder_put (bI q_column_shredder_put p1 p2 p5 x1 k1) p2 p5 x1 l1 l2 l3 z1 z2 z3 z4 z5 z6 z7 z8 x3 e2 (i64.wrap (p5+1))) (ef q_column_shredder_put (bI q_column_shredder_put p1 p2 p5 x1 k1) p2 p5 x1 l1 l2 l3 z1 z2 z3 z4 z5 z6 z7 z8 x3 e2 x2)) (some ((),(bz.mk (bk.mk (jI.mk z1 (aq.mk z2 z3 z4) z5 z6) z7 z8) (ae.mk l1 l2 l3))))
def dZ(q_column_shredder_put:aa→Int→Int→Int→Int→bz→Option (Unit×bz))(p1:aa)(p2 p3 p5:Int)(p6:bz)(e1:af)(x1:Int):Option (Unit×bz):=aF (e1.type.kind==6) (aF ((p1.items.length:Int)==0) (aK (dI p3 x1 p6) fun r2=>some ((),r2.2)) (bI q_column_shredder_put p1 p2 p5 x1 aO p6.c.reps p6.c.defs p6.c.values p6.p.leaf.path p6.p.leaf.type.kind p6.p.leaf.type.scale p6.p.leaf.type.fields p6.p.leaf.df p6.p.leaf.rep p6.p.fields p6.p.pos p3 0)) (aF (e1.type.kind==7) (aK (at? p6.p.pos (i64.wrap (p2+1))) fun e3=>aK (at? p1.items e3) fun e4=>aK (q_column_shredder_put e4 (i64.wrap (p2+1)) p3 x1 p5 p6) fun r4=>some ((),r4.2)) (aK (dI p3 x1 p6) fun r5=>eh (r5.2.c.values.length+1≤4294967296)<|aK (at? (r5.2.c.values++[(aa.mk 0 0 0 (ByteArray.mk #[]) [])]) ((r5.2.c.values.length:Nat):Int)) fun e5=>some ((),(bz.mk r5.2.p (ae.mk r5.2.c.reps r5.2.c.defs ((r5.2.c.values++[(aa.mk 0 0 0 (ByteArray.mk #[]) [])]).set ((r5.2.c.values.length:Nat):Int).toNat p1))))))
def aW:Nat→aa→Int→Int→Int→Int→bz→Option (Unit×bz)
 |0,_,_,_,_,_,_=>none
 |k0+1,p1,p2,p3,p4,p5,p6=>aK (at? p6.p.fields p2) fun e1=>aF (!e1.need) (aF (p1.kind==0) (aK (dI p3 p4 p6) fun r1=>some ((),r1.2)) (dZ (aW k0) p1 p2 p3 p5 p6 e1 (i64.wrap (p4+1)))) (dZ (aW k0) p1 p2 p3 p5 p6 e1 p4)
abbrev fv(p1:aa):List CV:=[ci p1.kind,ci p1.n,ci p1.scale,lL p1.s,cl ac p1.items]
abbrev Dc(p6:bz):List CV:=[cl eI p6.p.leaf.path,ci p6.p.leaf.type.kind,ci p6.p.leaf.type.scale,cl ab p6.p.leaf.type.fields,ci p6.p.leaf.df,ci p6.p.leaf.rep,cl ab p6.p.fields,cl eI p6.p.pos,.sl 1 1 0 p6.c.reps.length,.sl 2 1 0 p6.c.defs.length,.sl 3 5 0 p6.c.values.length]
abbrev bg(p1:aa):List PV:=[pi p1.kind,pi p1.n,pi p1.scale,.s (.string p1.s),.ro (ac.els p1.items)]
abbrev pA(r2:(Unit×bz)):List CV:=[cl eI r2.2.p.leaf.path,ci r2.2.p.leaf.type.kind,ci r2.2.p.leaf.type.scale,cl ab r2.2.p.leaf.type.fields,ci r2.2.p.leaf.df,ci r2.2.p.leaf.rep,cl ab r2.2.p.fields,cl eI r2.2.p.pos,.sl 1 1 0 r2.2.c.reps.length,.sl 2 1 0 r2.2.c.defs.length,.sl 3 5 0 r2.2.c.values.length]
abbrev yw(l1 l2:List Int)(l3:List aa)(z1:List Int)(z2 z3:Int)(z4:List af)(z5 z6:Int)(z7:List af)(z8:List Int):List CV:=[cl eI z1,ci z2,ci z3,cl ab z4,ci z5,ci z6,cl ab z7,cl eI z8,.sl 1 1 0 l1.length,.sl 2 1 0 l2.length,.sl 3 5 0 l3.length]
abbrev Ig(p1:aa)(p2 p5 x1 x3 x4:Int):Fr:=[(0,.one (.pt 0 0 0 0)),(2,vi p2),(3,vi x4),(4,vi x1),(5,vi p5),(66,vl ac p1.items),(67,vi (p1.items.length:Int)),(68,vi (i64.wrap (x3+1)))]
abbrev IQ(p1:aa)(p2 p3 p5 x1:Int):Fr:=[(0,.one (.pt 0 0 0 0)),(2,vi p2),(3,vi p3),(4,vi x1),(5,vi p5),(66,vl ac p1.items),(67,vi (p1.items.length:Int)),(68,vi (0:Int))]
abbrev Mu(r5:(Unit×bz)):List CV:=[cl eI r5.2.p.leaf.path,ci r5.2.p.leaf.type.kind,ci r5.2.p.leaf.type.scale,cl ab r5.2.p.leaf.type.fields,ci r5.2.p.leaf.df,ci r5.2.p.leaf.rep,cl ab r5.2.p.fields,cl eI r5.2.p.pos,.sl 1 1 0 r5.2.c.reps.length,.sl 2 1 0 r5.2.c.defs.length,.sl 5 5 0 ((r5.2.c.values++[(aa.mk (0:Int) (0:Int) (0:Int) (ByteArray.mk #[]) [])]).length)]
abbrev yf(p6:bz):St:=[.box (Dc p6),.arr 1 (eI.els p6.c.reps),.arr 1 (eI.els p6.c.defs),.arr 5 (ac.els p6.c.values)]
abbrev xi(p6:bz)(e1:af):St:=[.box (Dc p6),.arr 1 (eI.els p6.c.reps),.arr 1 (eI.els p6.c.defs),.arr 5 (ac.els p6.c.values),.box (cq e1)]
abbrev Is(p1:aa)(p2 p3 p5:Int)(p6:bz)(e1:af)(x1 e3:Int)(e4:aa):Fr:=[(108,vi p5),(107,vi x1),(106,vi p3),(105,vi (i64.wrap (p2+1))),(104,vi p2),(103,.ag (fv e4)),(102,.one (.pv (.rp (ac.els p1.items) e3.toNat 0))),(101,vi e3),(100,.one (.pv (.rp (eI.els p6.p.pos) ((i64.wrap (p2+1)).toNat) 0))),(99,vi (i64.wrap (p2+1))),(98,vi p2),(97,vl eI p6.p.pos),(96,.one (.pt 0 0 0 7)),(95,.one (.pt 0 0 0 0)),(94,.one (.pt 0 0 0 0)),(93,.one (.pt 0 0 0 0)),(92,vl ac p1.items),(91,.one (.pv (.rp [(bg p1)] 0 4))),(90,.one (.pt 0 0 0 0)),(0,.one (.pt 0 0 0 0)),(2,vi p2),(3,vi p3),(4,vi x1),(5,vi p5),(7,.one (.pv (.rp [(bg p1)] 0 0))),(88,vb (e1.type.kind==7))]
abbrev De(p1:aa)(p3 x1:Int)(r5:(Unit×bz)):Fr:=[(54,.one (.pt 0 0 0 10)),(53,.one (.pt 0 0 0 8)),(52,.one (.pt 0 0 0 0)),(51,.one (.pt 5 5 (0+((r5.2.c.values.length:Nat):Int).toNat) 0)),(50,.one (.sl 5 5 0 ((r5.2.c.values++[(aa.mk (0:Int) (0:Int) (0:Int) (ByteArray.mk #[]) [])]).length))),(49,vl ac ([(aa.mk (0:Int) (0:Int) (0:Int) (ByteArray.mk #[]) [])])),(48,vi ((r5.2.c.values.length:Nat):Int)),(47,.ag (fv p1)),(46,.one (.sl 3 5 0 r5.2.c.values.length)),(45,.one (.pt 0 0 0 10)),(44,.one (.pt 0 0 0 8)),(43,.one (.pt 0 0 0 0)),(42,.one (.pt 0 0 0 0)),(41,.tp []),(0,.one (.pt 0 0 0 0)),(7,.one (.pv (.rp [(bg p1)] 0 0))),(38,.one (.pt 0 0 0 0)),(39,vi p3),(40,vi x1)]
abbrev IX(p1:aa)(e1:af)(r5:(Unit×bz)):St:=[.box (Mu r5),.arr 1 (eI.els r5.2.c.reps),.arr 1 (eI.els r5.2.c.defs),.dead,.box (cq e1),.arr 5 (ac.els ((r5.2.c.values++[(aa.mk (0:Int) (0:Int) (0:Int) (ByteArray.mk #[]) [])]).set ((r5.2.c.values.length:Nat):Int).toNat p1))]
theorem jG:∀(k0:Nat) (p1:aa) (p2 p3 p4 p5:Int) (p6:bz) (r:(Unit×bz)),aW k0 p1 p2 p3 p4 p5 p6=some r→MX prog 135 [vQ 0,.ag (fv p1),vi p2,vi p3,vi p4,vi p5] (yf p6) [1,2,3] (.tp []) [.box [cl eI r.2.p.leaf.path,ci r.2.p.leaf.type.kind,ci r.2.p.leaf.type.scale,cl ab r.2.p.leaf.type.fields,ci r.2.p.leaf.df,ci r.2.p.leaf.rep,cl ab r.2.p.fields,cl eI r.2.p.pos,.sl 1 1 0 r.2.c.reps.length,.sl 2 1 0 r.2.c.defs.length,.sl 3 5 0 r.2.c.values.length],.arr 1 (eI.els r.2.c.reps),.arr 1 (eI.els r.2.c.defs),.arr 5 (ac.els r.2.c.values)]
 |0,_,_,_,_,_,_,r,h=>by rw[aW.eq_1]at h;cases h
 |k0+1,p1,p2,p3,p4,p5,p6,r,h=>by
  rw[aW.eq_2]at h
  refine MX.of 4 4 rfl (n:=110) (fn:=f135) (c:=cd f135 []) (by kernel_rfl) (by kernel_rfl) (by kernel_rfl) (n4 rfl) rfl (zq fun K1 hK1=>zr (zg [12,14,50] 1 [0,2,3,4,5,7] (zd (hK1 _ _ (zq fun K2 hK2=> ?_)))))
  obtain⟨e1,a3,h⟩:=zB h
  refine zr (zo [12,14,50] 10 [0,2,3,4,5,7,12] [(jN e1)] [0≤p2∧p2<((ab.els p6.p.fields).length:Int)∧aT 6 (ab.els p6.p.fields),(ab.els p6.p.fields)[p2.toNat]? =some (jN e1)] (⟨ab.inb a3,((ab.get a3).trans (by rcases e1 with⟨_,_,_,⟨_,_,_⟩⟩;rfl)),trivial⟩) (zd (hK2 _ _ (zq fun K4 hK4=> ?_))))
  have hJ1:∀(x1:Int),dZ (aW k0) p1 p2 p3 p5 p6 e1 x1=some r→∀fr1 st1,bW 110 4 [1,2,3] fr1 st1 [(0,vQ 0),(2,vi p2),(3,vi p3),(4,vi x1),(5,vi p5),(7,vR (bg p1)),(12,vQ 4)] (xi p6 e1)→K4 fr1 st1:=by
   intro x1 h fr1 st1 hS
   unfold dZ at h
   refine hK4 _ _ (XW.sub hS ?_)
   refine zq fun K12 hK12=>zr (zg [12,14,50] 3 [0,2,3,4,5,7,37] (zd (hK12 _ _ (zb 0 (zq fun K13 hK13=>zr ?_)))))
   refine zg [12,14,50] 2 [0,2,3,4,5,7,37,55] (zd (hK13 _ _ (zC h (fun b14 h=> ?_) (fun b14 h=> ?_))))
   ·refine zq fun K15 hK15=>zq fun K16 hK16=>zr ?_
    refine zv [12,14,50] 3 [0,2,3,4,5,7,59] [[pi p1.kind,pi p1.n,pi p1.scale,.s (.string p1.s),.ro (ac.els p1.items)]] [(0,vQ 0),(2,vi p2),(3,vi p3),(4,vi x1),(5,vi p5),(7,vR [pi p1.kind,pi p1.n,pi p1.scale,.s (.string p1.s),.ro (ac.els p1.items)]),(59,vi ((ac.els p1.items).length:Int))] [.box [cl eI p6.p.leaf.path,ci p6.p.leaf.type.kind,ci p6.p.leaf.type.scale,cl ab p6.p.leaf.type.fields,ci p6.p.leaf.df,ci p6.p.leaf.rep,cl ab p6.p.fields,cl eI p6.p.pos,.sl 1 1 0 p6.c.reps.length,.sl 2 1 0 p6.c.defs.length,.sl 3 5 0 p6.c.values.length],.arr 1 (eI.els p6.c.reps),.arr 1 (eI.els p6.c.defs),.arr 5 (ac.els p6.c.values),.box [ci e1.id,lL e1.name,cb e1.need,ci e1.type.kind,ci e1.type.scale,cl ab e1.type.fields]] ?_
    rw[ac.len p1.items]
    refine zg [12,14,50] 1 [0,2,3,4,5,7,60] (zd (hK16 _ _ (zC h (fun b17 h=> ?_) (fun b17 h=> ?_))))
    ·refine zq fun K18 hK18=> ?_
     obtain⟨r2,c19,h⟩:=zB h
     refine zr (zv [12,14,50] 3 [61,62,63] [] [(61,vQ 0),(62,vi p3),(63,vi x1)] (xi p6 e1) ?_)
     refine XO.calx 174 [vQ 0,vi p3,vi x1] (yf p6) [.box (pA r2),.arr 1 (eI.els r2.2.c.reps),.arr 1 (eI.els r2.2.c.defs),.arr 5 (ac.els r2.2.c.values)] [1,2,3] (.tp []) [0,1,2,3] [1,2,3] [(64,.tp []),(61,vQ 0),(62,vi p3),(63,vi x1)] [.box (pA r2),.arr 1 (eI.els r2.2.c.reps),.arr 1 (eI.els r2.2.c.defs),.arr 5 (ac.els r2.2.c.values),.box (cq e1)] (by kernel_rfl) (iM _ _ _ _ c19) (by kernel_rfl) (by kernel_rfl) (by kernel_rfl) (by kernel_rfl) (by kernel_rfl) (by kernel_rfl) (by kernel_rfl) ?_
     refine zd (hK18 _ _ (ze ?_))
     obtain rfl:=Option.some.inj h
     exact qO.fin (.inr rfl) [] [] [] (by kernel_rfl) trivial (by kernel_rfl) (by kernel_rfl) (.tp0)
    ·refine zs (hK15 _ _ (zq fun K20 hK20=>zr ?_))
     refine zv [12,14,50] 3 [0,2,3,4,5,66,67] [[pi p1.kind,pi p1.n,pi p1.scale,.s (.string p1.s),.ro (ac.els p1.items)]] [(0,vQ 0),(2,vi p2),(3,vi p3),(4,vi x1),(5,vi p5),(66,vl ac p1.items),(67,vi ((ac.els p1.items).length:Int))] [.box [cl eI p6.p.leaf.path,ci p6.p.leaf.type.kind,ci p6.p.leaf.type.scale,cl ab p6.p.leaf.type.fields,ci p6.p.leaf.df,ci p6.p.leaf.rep,cl ab p6.p.fields,cl eI p6.p.pos,.sl 1 1 0 p6.c.reps.length,.sl 2 1 0 p6.c.defs.length,.sl 3 5 0 p6.c.values.length],.arr 1 (eI.els p6.c.reps),.arr 1 (eI.els p6.c.defs),.arr 5 (ac.els p6.c.values),.box [ci e1.id,lL e1.name,cb e1.need,ci e1.type.kind,ci e1.type.scale,cl ab e1.type.fields]] ?_
     rw[ac.len p1.items]
     refine zg [12,14,50] 1 [0,2,3,4,5,66,67,68] (zd (hK20 _ _ (zb 1 (XW.rounds' aO (x:=cd f135 [1,1,1,1,0,1,0,1,1,0,0]) (by kernel_rfl) fun Q1 hQ1=> ?_))))
     have hL1:∀(k1:Nat) (l1 l2:List Int) (l3:List aa) (z1:List Int) (z2 z3:Int) (z4:List af) (z5 z6:Int) (z7:List af) (z8:List Int) (x2 x3:Int),bI (aW k0) p1 p2 p5 x1 k1 l1 l2 l3 z1 z2 z3 z4 z5 z6 z7 z8 x2 x3=some r→XR prog 110 4 [1,2,3] (cd f135 [1,1,1,1,0,1,0,1,1,0,0]) Q1 k1 [(0,vQ 0),(2,vi p2),(3,vi x2),(4,vi x1),(5,vi p5),(66,vl ac p1.items),(67,vi p1.items.length),(68,vi x3)] [.box (yw l1 l2 l3 z1 z2 z3 z4 z5 z6 z7 z8),.arr 1 (eI.els l1),.arr 1 (eI.els l2),.arr 5 (ac.els l3),.dead]:=by
      intro k1
      induction k1 with
      |zero=>intro l1 l2 l3 z1 z2 z3 z4 z5 z6 z7 z8 x2 x3 h;rw[bI.eq_1]at h;cases h
      |succ k1 ih1=>
       intro l1 l2 l3 z1 z2 z3 z4 z5 z6 z7 z8 x2 x3 h
       rw[bI.eq_2]at h
       refine zq fun K21 hK21=>zr (zg [12,14,50] 1 [0,2,3,4,5,66,67,68,69] (zd (hK21 _ _ (zq fun K22 hK22=>zC h (fun b23 h=> ?_) (fun b23 h=> ?_)))))
       ·refine zs (hK22 _ _ (zq fun K24 hK24=>zb 2 (zq fun K25 hK25=> ?_)))
        obtain⟨e2,a26,h⟩:=zB h
        refine zr (zo [12,14,50] 6 [0,2,3,4,5,13,14,66,67,68] [[pi e2.kind,pi e2.n,pi e2.scale,.s (.string e2.s),.ro (ac.els e2.items)]] [0≤x3∧x3<((ac.els p1.items).length:Int)∧aT 5 (ac.els p1.items),(ac.els p1.items)[x3.toNat]? =some [pi e2.kind,pi e2.n,pi e2.scale,.s (.string e2.s),.ro (ac.els e2.items)]] (⟨ac.inb a26,((ac.get a26).trans (by cases e2;rfl)),trivial⟩) (zd (hK25 _ _ (zq fun K27 hK27=> ?_))))
        have hJ2:∀(x4:Int),ef (aW k0) (bI (aW k0) p1 p2 p5 x1 k1) p2 p5 x1 l1 l2 l3 z1 z2 z3 z4 z5 z6 z7 z8 x3 e2 x4=some r→∀fr1 st1,bW 110 4 [1,2,3] fr1 st1 [(0,vQ 0),(2,vi p2),(3,vi x4),(4,vi x1),(5,vi p5),(14,vQ 5),(66,vl ac p1.items),(67,vi p1.items.length),(68,vi x3)] [.box (yw l1 l2 l3 z1 z2 z3 z4 z5 z6 z7 z8),.arr 1 (eI.els l1),.arr 1 (eI.els l2),.arr 5 (ac.els l3),.dead,.box (fv e2)]→K27 fr1 st1:=by
         intro x4 h fr1 st1 hS
         unfold ef at h
         refine hK27 _ _ (XW.sub hS ?_)
         obtain⟨r3,c30,h⟩:=zB h
         refine zr ?_
         refine zv [12,14,50] 9 [0,2,3,4,5,66,67,68,77,78,80,81,83,85] [] [(0,vQ 0),(2,vi p2),(3,vi x4),(4,vi x1),(5,vi p5),(66,vl ac p1.items),(67,vi p1.items.length),(68,vi x3),(77,vQ 0),(78,.ag (fv e2)),(80,vi (i64.wrap (p2+1))),(81,vi x4),(83,vi (i64.wrap (x1+1))),(85,vi (i64.wrap (p5+1)))] [.box (yw l1 l2 l3 z1 z2 z3 z4 z5 z6 z7 z8),.arr 1 (eI.els l1),.arr 1 (eI.els l2),.arr 5 (ac.els l3),.dead,.box (fv e2)] ?_
         refine XO.calx 135 [vQ 0,.ag (fv e2),vi (i64.wrap (p2+1)),vi x4,vi (i64.wrap (x1+1)),vi (i64.wrap (p5+1))] [.box (yw l1 l2 l3 z1 z2 z3 z4 z5 z6 z7 z8),.arr 1 (eI.els l1),.arr 1 (eI.els l2),.arr 5 (ac.els l3)] [.box (pA r3),.arr 1 (eI.els r3.2.c.reps),.arr 1 (eI.els r3.2.c.defs),.arr 5 (ac.els r3.2.c.values)] [1,2,3] (.tp []) [0,1,2,3] [1,2,3] [(86,.tp []),(0,vQ 0),(2,vi p2),(3,vi x4),(4,vi x1),(5,vi p5),(66,vl ac p1.items),(67,vi p1.items.length),(68,vi x3),(77,vQ 0),(78,.ag (fv e2)),(80,vi (i64.wrap (p2+1))),(81,vi x4),(83,vi (i64.wrap (x1+1))),(85,vi (i64.wrap (p5+1)))] [.box (pA r3),.arr 1 (eI.els r3.2.c.reps),.arr 1 (eI.els r3.2.c.defs),.arr 5 (ac.els r3.2.c.values),.dead,.box (fv e2)] (by kernel_rfl) (jG k0 _ _ _ _ _ _ _ c30) (by kernel_rfl) (by kernel_rfl) (by kernel_rfl) (by kernel_rfl) (by kernel_rfl) (by kernel_rfl) (by kernel_rfl) ?_
         refine zd (hK24 _ _ (zr (zg [12,14,50] 2 [0,2,3,4,5,66,67,68] (zd ?_))))
         exact XR.sub (bW.trans (bW.pick (fr':=(Ig p1 p2 p5 x1 x3 x4)) [0,2,3,4,5,66,67,68] (by kernel_rfl)) (bW.take (fr':=(Ig p1 p2 p5 x1 x3 x4)) 5 (by decide) (by kernel_rfl) (by kernel_rfl))) (ih1 r3.2.c.reps r3.2.c.defs r3.2.c.values r3.2.p.leaf.path r3.2.p.leaf.type.kind r3.2.p.leaf.type.scale r3.2.p.leaf.type.fields r3.2.p.leaf.df r3.2.p.leaf.rep r3.2.p.fields r3.2.p.pos x4 (i64.wrap (x3+1)) h)
        refine zq fun K28 hK28=>zr (zv [12,14,50] 2 [0,2,3,4,5,14,66,67,68,74] [] [(0,vQ 0),(2,vi p2),(3,vi x2),(4,vi x1),(5,vi p5),(14,vQ 5),(66,vl ac p1.items),(67,vi p1.items.length),(68,vi x3),(74,vb (decide ((0:Int)<x3)))] [.box (yw l1 l2 l3 z1 z2 z3 z4 z5 z6 z7 z8),.arr 1 (eI.els l1),.arr 1 (eI.els l2),.arr 5 (ac.els l3),.dead,.box (fv e2)] (zd (hK28 _ _ ?_)))
        refine zC h (fun b29 h=> ?_) (fun b29 h=> ?_)
        ·exact zr (zg [12,14,50] 3 [0,2,3,4,5,14,66,67,68] (zd (hJ2 (i64.wrap (p5+1)) h _ _ (zk [0,2,3,4,5,14,66,67,68]))))
        ·exact zs (hJ2 x2 h _ _ (zk [0,2,3,4,5,14,66,67,68]))
       ·refine zx 1 (hQ1 _ _ _ ?_)
        obtain rfl:=Option.some.inj h
        exact qO.fin (.inl rfl) [] [] [] (by kernel_rfl) trivial (by kernel_rfl) (by kernel_rfl) (.tp0)
     exact XR.sub (bW.trans (bW.pick (fr':=(IQ p1 p2 p3 p5 x1)) [0,2,3,4,5,66,67,68] (by kernel_rfl)) (bW.only (fr':=(IQ p1 p2 p3 p5 x1)) (st':=[.box (Dc p6),.arr 1 (eI.els p6.c.reps),.arr 1 (eI.els p6.c.defs),.arr 5 (ac.els p6.c.values),.dead]) [0,1,2,3] 5 (by kernel_rfl) (by kernel_rfl) (by kernel_rfl) (by kernel_rfl))) (hL1 aO p6.c.reps p6.c.defs p6.c.values p6.p.leaf.path p6.p.leaf.type.kind p6.p.leaf.type.scale p6.p.leaf.type.fields p6.p.leaf.df p6.p.leaf.rep p6.p.fields p6.p.pos p3 (0:Int) h)
   ·refine zq fun K31 hK31=>zr (zg [12,14,50] 2 [0,2,3,4,5,7,88] (zd (hK31 _ _ (zC h (fun b32 h=> ?_) (fun b32 h=> ?_)))))
    ·obtain⟨e3,a33,h⟩:=zB h
     obtain⟨e4,a34,h⟩:=zB h
     obtain⟨r4,c35,h⟩:=zB h
     refine zw 19 (Is p1 p2 p3 p5 p6 e1 x1 e3 e4) ?_ ?_
     ·refine ME 19 [(bg p1),[pi e3],[pi e4.kind,pi e4.n,pi e4.scale,.s (.string e4.s),.ro (ac.els e4.items)]] (Is p1 p2 p3 p5 p6 e1 x1 e3 e4) [([(bg p1)]:List (List PV))[0]? =some (bg p1),0≤(i64.wrap (p2+1))∧(i64.wrap (p2+1))<((eI.els p6.p.pos).length:Int)∧aT 1 (eI.els p6.p.pos),(eI.els p6.p.pos)[(i64.wrap (p2+1)).toNat]? =some [pi e3],0≤e3∧e3<((ac.els p1.items).length:Int)∧aT 5 (ac.els p1.items),(ac.els p1.items)[e3.toNat]? =some [pi e4.kind,pi e4.n,pi e4.scale,.s (.string e4.s),.ro (ac.els e4.items)]] (⟨rfl,eI.inb a33,(eI.get a33),ac.inb a34,((ac.get a34).trans (by cases e4;rfl)),trivial⟩) ?_
      exact Km
     refine XO.calx 135 [vQ 0,.ag (fv e4),vi (i64.wrap (p2+1)),vi p3,vi x1,vi p5] (yf p6) [.box (pA r4),.arr 1 (eI.els r4.2.c.reps),.arr 1 (eI.els r4.2.c.defs),.arr 5 (ac.els r4.2.c.values)] [1,2,3] (.tp []) [0,1,2,3] [1,2,3] [(109,.tp []),(108,vi p5),(107,vi x1),(106,vi p3),(105,vi (i64.wrap (p2+1))),(104,vi p2),(103,.ag (fv e4)),(102,.one (.pv (.rp (ac.els p1.items) e3.toNat 0))),(101,vi e3),(100,.one (.pv (.rp (eI.els p6.p.pos) ((i64.wrap (p2+1)).toNat) 0))),(99,vi (i64.wrap (p2+1))),(98,vi p2),(97,vl eI p6.p.pos),(96,.one (.pt 0 0 0 7)),(95,vQ 0),(94,vQ 0),(93,vQ 0),(92,vl ac p1.items),(91,.one (.pv (.rp [(bg p1)] 0 4))),(90,vQ 0),(0,vQ 0),(2,vi p2),(3,vi p3),(4,vi x1),(5,vi p5),(7,vR (bg p1)),(88,vb (e1.type.kind==7))] [.box (pA r4),.arr 1 (eI.els r4.2.c.reps),.arr 1 (eI.els r4.2.c.defs),.arr 5 (ac.els r4.2.c.values),.box (cq e1)] (by kernel_rfl) (jG k0 _ _ _ _ _ _ _ c35) (by kernel_rfl) (by kernel_rfl) (by kernel_rfl) (by kernel_rfl) (by kernel_rfl) (by kernel_rfl) (by kernel_rfl) ?_
     refine zd ?_
     obtain rfl:=Option.some.inj h
     exact qO.fin (.inl rfl) [] [] [] (by kernel_rfl) trivial (by kernel_rfl) (by kernel_rfl) (.tp0)
    ·refine zq fun K36 hK36=> ?_
     obtain⟨r5,c37,h⟩:=zB h
     refine zr ?_
     refine zv [12,14,50] 3 [0,7,38,39,40] [] [(0,vQ 0),(7,vR (bg p1)),(38,vQ 0),(39,vi p3),(40,vi x1)] (xi p6 e1) ?_
     refine XO.calx 174 [vQ 0,vi p3,vi x1] (yf p6) [.box (pA r5),.arr 1 (eI.els r5.2.c.reps),.arr 1 (eI.els r5.2.c.defs),.arr 5 (ac.els r5.2.c.values)] [1,2,3] (.tp []) [0,1,2,3] [1,2,3] [(41,.tp []),(0,vQ 0),(7,vR (bg p1)),(38,vQ 0),(39,vi p3),(40,vi x1)] [.box (pA r5),.arr 1 (eI.els r5.2.c.reps),.arr 1 (eI.els r5.2.c.defs),.arr 5 (ac.els r5.2.c.values),.box (cq e1)] (by kernel_rfl) (iM _ _ _ _ c37) (by kernel_rfl) (by kernel_rfl) (by kernel_rfl) (by kernel_rfl) (by kernel_rfl) (by kernel_rfl) (by kernel_rfl) ?_
     refine zd (hK36 _ _ ?_)
     obtain⟨g38,h⟩:=zG h
     obtain⟨e5,a39,h⟩:=zB h
     refine XW.sub (bW.dead 1) ?_
     refine XW.drwG 15 [5,6] [([],[]),([],[]),([],[]),([],[]),([0],[]),([],[]),([],[]),([],[]),([5,3,1005],[5,3,1005]),([1005],[]),([5,1005],[5]),([],[]),([],[]),([],[]),([0,1005],[0])] (De p1 p3 x1 r5) (IX p1 e1 r5) (by kernel_rfl) (by kernel_rfl) ?_ ?_
     ·refine xz 8 [(bg p1)] [(49,vl ac ([(aa.mk (0:Int) (0:Int) (0:Int) (ByteArray.mk #[]) [])])),(48,vi ((r5.2.c.values.length:Nat):Int)),(47,.ag (fv p1)),(46,.one (.sl 3 5 0 r5.2.c.values.length)),(45,.one (.pt 0 0 0 10)),(44,.one (.pt 0 0 0 8)),(43,vQ 0),(42,vQ 0),(41,.tp []),(0,vQ 0),(7,vR (bg p1)),(38,vQ 0),(39,vi p3),(40,vi x1)] ?_
      refine GY.new true 5 [] [(50,.one (.sl 5 5 0 (r5.2.c.values.length+(ac.els ([(aa.mk (0:Int) (0:Int) (0:Int) (ByteArray.mk #[]) [])])).length))),(49,vl ac ([(aa.mk (0:Int) (0:Int) (0:Int) (ByteArray.mk #[]) [])])),(48,vi ((r5.2.c.values.length:Nat):Int)),(47,mV p1),(46,.one (.sl 3 5 0 r5.2.c.values.length)),(45,.one (.pt 0 0 0 10)),(44,.one (.pt 0 0 0 8)),(43,vQ 0),(42,vQ 0),(41,.tp []),(0,vQ 0),(7,vR [pi p1.kind,pi p1.n,pi p1.scale,.s (.string p1.s),.ro (ac.els p1.items)]),(38,vQ 0),(39,vi p3),(40,vi x1)] [5,3] [.box [cl eI r5.2.p.leaf.path,ci r5.2.p.leaf.type.kind,ci r5.2.p.leaf.type.scale,cl ab r5.2.p.leaf.type.fields,ci r5.2.p.leaf.df,ci r5.2.p.leaf.rep,cl ab r5.2.p.fields,cl eI r5.2.p.pos,.sl 1 1 0 r5.2.c.reps.length,.sl 2 1 0 r5.2.c.defs.length,.sl 3 5 0 r5.2.c.values.length],.arr 1 (eI.els r5.2.c.reps),.arr 1 (eI.els r5.2.c.defs),.dead,.box [ci e1.id,lL e1.name,cb e1.need,ci e1.type.kind,ci e1.type.scale,cl ab e1.type.fields],.arr 5 (ac.els r5.2.c.values++ac.els ([(aa.mk (0:Int) (0:Int) (0:Int) (ByteArray.mk #[]) [])]))] [aT 5 (ac.els ([(aa.mk (0:Int) (0:Int) (0:Int) (ByteArray.mk #[]) [])])),r5.2.c.values.length=(ac.els r5.2.c.values).length,r5.2.c.values.length+(ac.els ([(aa.mk (0:Int) (0:Int) (0:Int) (ByteArray.mk #[]) [])])).length≤4294967296] (by kernel_rfl) (by kernel_rfl) (⟨ac.ok _,(ac.len r5.2.c.values).symm,g38,trivial⟩) (by kernel_rfl) ?_
      rw[show r5.2.c.values.length+(ac.els ([(aa.mk (0:Int) (0:Int) (0:Int) (ByteArray.mk #[]) [])])).length=(r5.2.c.values++[(aa.mk (0:Int) (0:Int) (0:Int) (ByteArray.mk #[]) [])]).length from ac.lapp _ _]
      rw[show ac.els r5.2.c.values++ac.els ([(aa.mk (0:Int) (0:Int) (0:Int) (ByteArray.mk #[]) [])])=ac.els (r5.2.c.values++[(aa.mk (0:Int) (0:Int) (0:Int) (ByteArray.mk #[]) [])])from ac.app2 _ _]
      refine GY.go 1 [] [(51,.one (.pt 5 5 (0+((r5.2.c.values.length:Nat):Int).toNat) 0)),(50,.one (.sl 5 5 0 ((r5.2.c.values++[(aa.mk (0:Int) (0:Int) (0:Int) (ByteArray.mk #[]) [])]).length))),(49,vl ac ([(aa.mk (0:Int) (0:Int) (0:Int) (ByteArray.mk #[]) [])])),(48,vi ((r5.2.c.values.length:Nat):Int)),(47,.ag (fv p1)),(46,.one (.sl 3 5 0 r5.2.c.values.length)),(45,.one (.pt 0 0 0 10)),(44,.one (.pt 0 0 0 8)),(43,vQ 0),(42,vQ 0),(41,.tp []),(0,vQ 0),(7,vR (bg p1)),(38,vQ 0),(39,vi p3),(40,vi x1)] [0≤((r5.2.c.values.length:Nat):Int)∧((r5.2.c.values.length:Nat):Int)<(((r5.2.c.values++[(aa.mk (0:Int) (0:Int) (0:Int) (ByteArray.mk #[]) [])]).length:Nat):Int)] (by kernel_rfl) (⟨lD.inb' a39,trivial⟩) ?_
      refine GY.wr [[pi e5.kind,pi e5.n,pi e5.scale,.s (.string e5.s),.ro (ac.els e5.items)]] [(51,.one (.pt 5 5 (0+((r5.2.c.values.length:Nat):Int).toNat) 0)),(50,.one (.sl 5 5 0 ((r5.2.c.values++[(aa.mk (0:Int) (0:Int) (0:Int) (ByteArray.mk #[]) [])]).length))),(49,vl ac ([(aa.mk (0:Int) (0:Int) (0:Int) (ByteArray.mk #[]) [])])),(48,vi ((r5.2.c.values.length:Nat):Int)),(47,mV p1),(46,.one (.sl 3 5 0 r5.2.c.values.length)),(45,.one (.pt 0 0 0 10)),(44,.one (.pt 0 0 0 8)),(43,vQ 0),(42,vQ 0),(41,.tp []),(0,vQ 0),(7,vR [pi p1.kind,pi p1.n,pi p1.scale,.s (.string p1.s),.ro (ac.els p1.items)]),(38,vQ 0),(39,vi p3),(40,vi x1)] [5] [] [.box [cl eI r5.2.p.leaf.path,ci r5.2.p.leaf.type.kind,ci r5.2.p.leaf.type.scale,cl ab r5.2.p.leaf.type.fields,ci r5.2.p.leaf.df,ci r5.2.p.leaf.rep,cl ab r5.2.p.fields,cl eI r5.2.p.pos,.sl 1 1 0 r5.2.c.reps.length,.sl 2 1 0 r5.2.c.defs.length,.sl 3 5 0 r5.2.c.values.length],.arr 1 (eI.els r5.2.c.reps),.arr 1 (eI.els r5.2.c.defs),.dead,.box [ci e1.id,lL e1.name,cb e1.need,ci e1.type.kind,ci e1.type.scale,cl ab e1.type.fields],.arr 5 ((ac.els (r5.2.c.values++[(aa.mk (0:Int) (0:Int) (0:Int) (ByteArray.mk #[]) [])])).set (0+((r5.2.c.values.length:Nat):Int).toNat) [pi p1.kind,pi p1.n,pi p1.scale,.s (.string p1.s),.ro (ac.els p1.items)])] [(ac.els (r5.2.c.values++[(aa.mk (0:Int) (0:Int) (0:Int) (ByteArray.mk #[]) [])]))[(0+((r5.2.c.values.length:Nat):Int).toNat)]? =some [pi e5.kind,pi e5.n,pi e5.scale,.s (.string e5.s),.ro (ac.els e5.items)]] (by kernel_rfl) (by kernel_rfl) (⟨((ac.get0 a39).trans (by cases e5;rfl)),trivial⟩) (by kernel_rfl) ?_
      rw[show(ac.els (r5.2.c.values++[(aa.mk (0:Int) (0:Int) (0:Int) (ByteArray.mk #[]) [])])).set (0+((r5.2.c.values.length:Nat):Int).toNat) [pi p1.kind,pi p1.n,pi p1.scale,.s (.string p1.s),.ro (ac.els p1.items)]=ac.els ((r5.2.c.values++[(aa.mk (0:Int) (0:Int) (0:Int) (ByteArray.mk #[]) [])]).set ((r5.2.c.values.length:Nat):Int).toNat p1)from by have hq:([pi p1.kind,pi p1.n,pi p1.scale,.s (.string p1.s),.ro (ac.els p1.items)]:List PV)=ac.cells p1:=(by cases p1;rfl);rw[hq];exact ac.set0 _ _ _]
      refine xz 3 [] (De p1 p3 x1 r5) ?_
      refine GY.sto [0] [] (De p1 p3 x1 r5) ([0]++[1005]) (IX p1 e1 r5) [] (by kernel_rfl) (by kernel_rfl) trivial (by kernel_rfl) ?_
      exact GY.done (by kernel_rfl) (by kernel_rfl)
     refine XO.sub (bW.swap 3 5 [(54,.one (.pt 0 0 0 10)),(53,.one (.pt 0 0 0 8)),(52,vQ 0),(51,.one (.pt 3 5 (0+((r5.2.c.values.length:Nat):Int).toNat) 0)),(50,.one (.sl 3 5 0 ((r5.2.c.values++[(aa.mk (0:Int) (0:Int) (0:Int) (ByteArray.mk #[]) [])]).length))),(49,vl ac ([(aa.mk (0:Int) (0:Int) (0:Int) (ByteArray.mk #[]) [])])),(48,vi ((r5.2.c.values.length:Nat):Int)),(47,.ag (fv p1)),(46,.one (.sl 5 5 0 r5.2.c.values.length)),(45,.one (.pt 0 0 0 10)),(44,.one (.pt 0 0 0 8)),(43,vQ 0),(42,vQ 0),(41,.tp []),(0,vQ 0),(7,vR (bg p1)),(38,vQ 0),(39,vi p3),(40,vi x1)] [.box [cl eI r5.2.p.leaf.path,ci r5.2.p.leaf.type.kind,ci r5.2.p.leaf.type.scale,cl ab r5.2.p.leaf.type.fields,ci r5.2.p.leaf.df,ci r5.2.p.leaf.rep,cl ab r5.2.p.fields,cl eI r5.2.p.pos,.sl 1 1 0 r5.2.c.reps.length,.sl 2 1 0 r5.2.c.defs.length,.sl 3 5 0 ((r5.2.c.values++[(aa.mk (0:Int) (0:Int) (0:Int) (ByteArray.mk #[]) [])]).length)],.arr 1 (eI.els r5.2.c.reps),.arr 1 (eI.els r5.2.c.defs),.arr 5 (ac.els ((r5.2.c.values++[(aa.mk (0:Int) (0:Int) (0:Int) (ByteArray.mk #[]) [])]).set ((r5.2.c.values.length:Nat):Int).toNat p1)),.box (cq e1),.dead] (by kernel_rfl) (by kernel_rfl) (by kernel_rfl) (by kernel_rfl)) ?_
     refine XO.sub (bW.eq (fr':=[(54,.one (.pt 0 0 0 10)),(53,.one (.pt 0 0 0 8)),(52,vQ 0),(51,.one (.pt 3 5 (0+((r5.2.c.values.length:Nat):Int).toNat) 0)),(50,.one (.sl 3 5 0 ((r5.2.c.values++[(aa.mk (0:Int) (0:Int) (0:Int) (ByteArray.mk #[]) [])]).length))),(49,vl ac ([(aa.mk (0:Int) (0:Int) (0:Int) (ByteArray.mk #[]) [])])),(48,vi ((r5.2.c.values.length:Nat):Int)),(47,mV p1),(46,.one (.sl 5 5 0 r5.2.c.values.length)),(45,.one (.pt 0 0 0 10)),(44,.one (.pt 0 0 0 8)),(43,vQ 0),(42,vQ 0),(41,.tp []),(0,vQ 0),(7,vR [pi p1.kind,pi p1.n,pi p1.scale,.s (.string p1.s),.ro (ac.els p1.items)]),(38,vQ 0),(39,vi p3),(40,vi x1)]) (st':=[.box [cl eI r5.2.p.leaf.path,ci r5.2.p.leaf.type.kind,ci r5.2.p.leaf.type.scale,cl ab r5.2.p.leaf.type.fields,ci r5.2.p.leaf.df,ci r5.2.p.leaf.rep,cl ab r5.2.p.fields,cl eI r5.2.p.pos,.sl 1 1 0 r5.2.c.reps.length,.sl 2 1 0 r5.2.c.defs.length,.sl 3 5 0 (((r5.2.c.values++[(aa.mk (0:Int) (0:Int) (0:Int) (ByteArray.mk #[]) [])]).set ((r5.2.c.values.length:Nat):Int).toNat p1).length)],.arr 1 (eI.els r5.2.c.reps),.arr 1 (eI.els r5.2.c.defs),.arr 5 (ac.els ((r5.2.c.values++[(aa.mk (0:Int) (0:Int) (0:Int) (ByteArray.mk #[]) [])]).set ((r5.2.c.values.length:Nat):Int).toNat p1)),.box [ci e1.id,lL e1.name,cb e1.need,ci e1.type.kind,ci e1.type.scale,cl ab e1.type.fields],.dead]) rfl (show([.box [cl eI r5.2.p.leaf.path,ci r5.2.p.leaf.type.kind,ci r5.2.p.leaf.type.scale,cl ab r5.2.p.leaf.type.fields,ci r5.2.p.leaf.df,ci r5.2.p.leaf.rep,cl ab r5.2.p.fields,cl eI r5.2.p.pos,.sl 1 1 0 r5.2.c.reps.length,.sl 2 1 0 r5.2.c.defs.length,.sl 3 5 0 ((r5.2.c.values++[(aa.mk (0:Int) (0:Int) (0:Int) (ByteArray.mk #[]) [])]).length)],.arr 1 (eI.els r5.2.c.reps),.arr 1 (eI.els r5.2.c.defs),.arr 5 (ac.els ((r5.2.c.values++[(aa.mk (0:Int) (0:Int) (0:Int) (ByteArray.mk #[]) [])]).set ((r5.2.c.values.length:Nat):Int).toNat p1)),.box [ci e1.id,lL e1.name,cb e1.need,ci e1.type.kind,ci e1.type.scale,cl ab e1.type.fields],.dead]:St)=[.box [cl eI r5.2.p.leaf.path,ci r5.2.p.leaf.type.kind,ci r5.2.p.leaf.type.scale,cl ab r5.2.p.leaf.type.fields,ci r5.2.p.leaf.df,ci r5.2.p.leaf.rep,cl ab r5.2.p.fields,cl eI r5.2.p.pos,.sl 1 1 0 r5.2.c.reps.length,.sl 2 1 0 r5.2.c.defs.length,.sl 3 5 0 (((r5.2.c.values++[(aa.mk (0:Int) (0:Int) (0:Int) (ByteArray.mk #[]) [])]).set ((r5.2.c.values.length:Nat):Int).toNat p1).length)],.arr 1 (eI.els r5.2.c.reps),.arr 1 (eI.els r5.2.c.defs),.arr 5 (ac.els ((r5.2.c.values++[(aa.mk (0:Int) (0:Int) (0:Int) (ByteArray.mk #[]) [])]).set ((r5.2.c.values.length:Nat):Int).toNat p1)),.box [ci e1.id,lL e1.name,cb e1.need,ci e1.type.kind,ci e1.type.scale,cl ab e1.type.fields],.dead]from by rw[show(r5.2.c.values++[(aa.mk (0:Int) (0:Int) (0:Int) (ByteArray.mk #[]) [])]).length=((r5.2.c.values++[(aa.mk (0:Int) (0:Int) (0:Int) (ByteArray.mk #[]) [])]).set ((r5.2.c.values.length:Nat):Int).toNat p1).length from by simp])) ?_
     refine zd ?_
     obtain rfl:=Option.some.inj h
     exact qO.fin (.inl rfl) [] [] [] (by kernel_rfl) trivial (by kernel_rfl) (by kernel_rfl) (.tp0)
  refine zq fun K5 hK5=>zr ?_
  refine zv [12,14,50] 3 [0,2,3,4,5,7,12,25] [] [(0,vQ 0),(2,vi p2),(3,vi p3),(4,vi p4),(5,vi p5),(7,vR (bg p1)),(12,vQ 4),(25,vb (!e1.need))] (xi p6 e1) ?_
  refine zd (hK5 _ _ (zC h (fun b6 h=> ?_) (fun b6 h=> ?_)))
  ·refine zq fun K7 hK7=>zq fun K8 hK8=>zr (zu [12,14,50] 3 [0,2,3,4,5,7,12,28] [(bg p1)] (zd (hK8 _ _ (zC h (fun b9 h=> ?_) (fun b9 h=> ?_)))))
   ·refine zq fun K10 hK10=> ?_
    obtain⟨r1,c11,h⟩:=zB h
    refine zr (zv [12,14,50] 3 [29,30,31] [] [(29,vQ 0),(30,vi p3),(31,vi p4)] (xi p6 e1) ?_)
    refine XO.calx 174 [vQ 0,vi p3,vi p4] (yf p6) [.box (pA r1),.arr 1 (eI.els r1.2.c.reps),.arr 1 (eI.els r1.2.c.defs),.arr 5 (ac.els r1.2.c.values)] [1,2,3] (.tp []) [0,1,2,3] [1,2,3] [(32,.tp []),(29,vQ 0),(30,vi p3),(31,vi p4)] [.box (pA r1),.arr 1 (eI.els r1.2.c.reps),.arr 1 (eI.els r1.2.c.defs),.arr 5 (ac.els r1.2.c.values),.box (cq e1)] (by kernel_rfl) (iM _ _ _ _ c11) (by kernel_rfl) (by kernel_rfl) (by kernel_rfl) (by kernel_rfl) (by kernel_rfl) (by kernel_rfl) (by kernel_rfl) ?_
    refine zd (hK10 _ _ (ze ?_))
    obtain rfl:=Option.some.inj h
    exact qO.fin (.inr rfl) [] [] [] (by kernel_rfl) trivial (by kernel_rfl) (by kernel_rfl) (.tp0)
   ·exact zs (hK7 _ _ (zr (zg [12,14,50] 3 [0,2,3,4,5,7,12] (zd (hJ1 (i64.wrap (p4+1)) h _ _ (zk [0,2,3,4,5,7,12]))))))
  ·exact zs (hJ1 p4 h _ _ (zk [0,2,3,4,5,7,12]))
def gp(p1:List Int):Option (List Int):=eh (0≤(0:Int)∧(0:Int)≤(p1.length:Int)∧(p1.length:Int)≤(p1.length:Int)∧(p1.length:Int)≤(p1.length:Int))<|some ((p1.drop (0:Int).toNat).take ((p1.length:Int).toNat-(0:Int).toNat))
theorem mF(p1:List Int):CT prog 79 [vl eI p1] (gp p1) (vl eI):=
  hJ 9 [] f79 fun r=>(uN eI p1 (uN eI p1 (N6 eI uz)))
def bL(p1:List aa):Option (List aa):=eh (0≤(0:Int)∧(0:Int)≤(p1.length:Int)∧(p1.length:Int)≤(p1.length:Int)∧(p1.length:Int)≤(p1.length:Int))<|some ((p1.drop (0:Int).toNat).take ((p1.length:Int).toNat-(0:Int).toNat))
theorem dw(p1:List aa):CT prog 61 [vl ac p1] (bL p1) (vl ac):=
  hJ 9 [] f61 fun r=>(uN ac p1 (uN ac p1 (N6 ac uz)))
def nD(l4 l5:List Int)(l6:List aa)(z9:List Int)(z10 z11:Int)(z12:List af)(z13 z14:Int)(z15:List af)(z16:List Int):Option ae:=aK (gp l4) fun r3=>aK (gp l5) fun r4=>aK (bL l6) fun r5=>some (ae.mk r3 r4 r5)
def gh(p1:bk)(p2:List (List aa)):Nat→List Int→List Int→List aa→List Int→Int→Int→List af→Int→Int→List af→List Int→Int→Option ae
 |0,_,_,_,_,_,_,_,_,_,_,_,_=>none
 |k1+1,l1,l2,l3,z1,z2,z3,z4,z5,z6,z7,z8,x1=>aF (decide (x1<(p2.length:Int))) (aK (at? p2 x1) fun e1=>aK (at? p1.pos 0) fun e2=>aK (at? e1 e2) fun e3=>aK (aW aO e3 0 0 0 0 (bz.mk (bk.mk (jI.mk z1 (aq.mk z2 z3 z4) z5 z6) z7 z8) (ae.mk l1 l2 l3))) fun r1=>(gh p1 p2 k1) r1.2.c.reps r1.2.c.defs r1.2.c.values r1.2.p.leaf.path r1.2.p.leaf.type.kind r1.2.p.leaf.type.scale r1.2.p.leaf.type.fields r1.2.p.leaf.df r1.2.p.leaf.rep r1.2.p.fields r1.2.p.pos (i64.wrap (x1+1))) (nD l1 l2 l3 z1 z2 z3 z4 z5 z6 z7 z8)
def nX(p1:bk)(p2:List (List aa)):Option ae:=gh p1 p2 aO [] [] [] p1.leaf.path p1.leaf.type.kind p1.leaf.type.scale p1.leaf.type.fields p1.leaf.df p1.leaf.rep p1.fields p1.pos 0
abbrev IB:List CV:=[.pv (.s (.slice none 0 0)),.pv (.s (.slice none 0 0)),.pv (.s (.slice none 0 0))]
theorem ri(p1:bk)(p2:List (List aa)):CT prog 73 [.ag [cl eI p1.leaf.path,ci p1.leaf.type.kind,ci p1.leaf.type.scale,cl ab p1.leaf.type.fields,ci p1.leaf.df,ci p1.leaf.rep,cl ab p1.fields,cl eI p1.pos],vl (eL ac) p2] (nX p1 p2) (fun r=> .ag [cl eI r.reps,cl eI r.defs,cl ac r.values]):=
  hJ 46 [4,10] f73 fun r=>(gr f73 14 1 fun K k=>have J1:∀{l4 l5 l6 z9 z10 z11 z12 z13 z14 z15 z16},nD l4 l5 l6 z9 z10 z11 z12 z13 z14 z15 z16=some r→K.p [(4,vQ 0),(5,vQ 1)] [.box IB,.box [cl eI z9,ci z10,ci z11,cl ab z12,ci z13,ci z14,cl ab z15,cl eI z16,.sl 2 1 0 l4.length,.sl 3 1 0 l5.length,.sl 4 5 0 l6.length],.arr 1 (eI.els l4),.arr 1 (eI.els l5),.arr 5 (ac.els l6)]:=fun{l4 l5 l6 z9 z10 z11 z12 z13 z14 z15 z16} h=>k h (wd eI l4 2 [] (vq (.dd 1) (wd eI l5 3 [] (vq (.dd 1) (pX 17 (dp (mF _) fun r3=>(dp (mF _) fun r4=>(vq (.stl 1 10) (wd ac l6 4 [43] (dp (dw _) fun r5=>uz))))))))));(uN (eL ac) p2 (vq (.lb 1 8 1) (vq (.lb 1 9 1) (vq (.lb 1 10 5) (mC f73 58 1 fun R b=>have L1:∀k1 {l1 l2 l3 z1 z2 z3 z4 z5 z6 z7 z8 x1},gh p1 p2 k1 l1 l2 l3 z1 z2 z3 z4 z5 z6 z7 z8 x1=some r→(R k1).p [(2,vR [.ro (eI.els p1.leaf.path),pi p1.leaf.type.kind,pi p1.leaf.type.scale,.ro (ab.els p1.leaf.type.fields),pi p1.leaf.df,pi p1.leaf.rep,.ro (ab.els p1.fields),.ro (eI.els p1.pos)]),(4,vQ 0),(5,vQ 1),(11,vl (eL ac) p2),(12,vi p2.length),(13,vi x1)] [.box IB,.box [cl eI z1,ci z2,ci z3,cl ab z4,ci z5,ci z6,cl ab z7,cl eI z8,.sl 2 1 0 l1.length,.sl 3 1 0 l2.length,.sl 4 5 0 l3.length],.arr 1 (eI.els l1),.arr 1 (eI.els l2),.arr 5 (ac.els l3)]:=uI (lK rfl) fun k1 i1 {l1 l2 l3 z1 z2 z3 z4 z5 z6 z7 z8 x1} h=>b h (uU (gh.eq_2 ..) (uC (jO (eL ac) fun e1=>(jO eI fun e2=>(jO ac fun e3=>(OD true [1,2,3,4] (jG aO _ _ _ _ _ _) fun r1 _=>(uJ i1))))) (uR (.exit 0) (xM (uJ J1)))));uE (L1 aO)))))))
def ib(p1:List ae):Option (List ae):=eh (0≤(0:Int)∧(0:Int)≤(p1.length:Int)∧(p1.length:Int)≤(p1.length:Int)∧(p1.length:Int)≤(p1.length:Int))<|some ((p1.drop (0:Int).toNat).take ((p1.length:Int).toNat-(0:Int).toNat))
theorem kB(p1:List ae):CT prog 74 [vl ah p1] (ib p1) (vl ah):=
  hJ 9 [] f74 fun r=>(uN ah p1 (uN ah p1 (N6 ah uz)))
def qH(l2:List ae):Option ((List ae)×Int):=aK (ib l2) fun r4=>some (r4,0)
def lf(p2:List (List aa))(r2:List bk):Nat→List ae→Int→Option ((List ae)×Int)
 |0,_,_=>none
 |k1+1,l1,x1=>aF (decide (x1<(r2.length:Int))) (aK (at? r2 x1) fun e1=>aK (nX e1 p2) fun r3=>eh (l1.length+1≤4294967296)<|(lf p2 r2 k1) (l1++[r3]) (i64.wrap (x1+1))) (qH l1)
def uv(p1:List af)(p2:List (List aa)):Option ((List ae)×Int):=aK (iU p1 p2) fun r1=>aF (r1 != 0) (some ([],r1)) (aK (jl p1) fun r2=>lf p2 r2 aO [] 0)
theorem yB(p1:List af)(p2:List (List aa)):CT prog 27 [vl ab p1,vl (eL ac) p2] (uv p1 p2) (fun r=> .tp [vl ah r.1,vi r.2]):=
  hJ 32 [9] f27 fun r=>(dp (oL _ _) fun r1=>(uC uz (gr f27 30 1 fun K k=>have J1:∀{l2},qH l2=some r→K.p [(7,.one (.sl 0 3 0 l2.length))] [.arr 3 (ah.els l2)]:=fun{l2} h=>k h (wd ah l2 0 [30] (dp (kB _) fun r4=>uz));(dp (oh _) fun r2=>(uN cm r2 (vq (.li 7 3) (mC f27 122 1 fun R b=>have L1:∀k1 {l1 x1},lf p2 r2 k1 l1 x1=some r→(R k1).p [(1,vl (eL ac) p2),(7,.one (.sl 0 3 0 l1.length)),(17,vl cm r2),(18,vi r2.length),(19,vi x1)] [.arr 3 (ah.els l1)]:=uI (lK rfl) fun k1 i1 {l1 x1} h=>b h (uU (lf.eq_2 ..) (uC (jO cm fun e1=>(dp (ri _ _) fun r3=>(Fs ah 0 [r3] (uJ i1)))) (uR (.exit 0) (xM (uJ J1)))));uE (L1 aO))))))))
def mb(x1:Bool):OB:=some x1
def rn:OB:=aK (yJ) fun r1=>aK (wq 5) fun r2=>aK (uv r1 ([[r2]])) fun r3=>aF (r3.2==0) (aF ((r3.1.length:Int)==1) (aK (at? r3.1 0) fun e1=>mb ((e1.values.length:Int)==1)) (mb false)) (mb false)
theorem yW:CT prog 12 [] (rn) vb:=
  hJ 26 [] f12 fun r=>(dp AS fun r1=>(dp (zi _) fun r2=>(uW 6 ac [r2] (dp (yB _ _) fun r3=>(gr f12 14 1 fun K k=>have J1:∀{x1},mb x1=some r→K.p [(0,vb x1)] []:=fun{x1} h=>k h uz;(uC (uN ah r3.1 (uC (jO ah fun e1=>(uN ac e1.values (uJ J1))) (uJ J1))) (uJ J1)))))))
def m0(x3:Int):OI:=some x3
def fD(q_column_leaves:aq→OI)(p1:aq):Nat→Int→Int→OI
 |0,_,_=>none
 |k1+1,x1,x2=>aF (decide (x2<(p1.fields.length:Int))) (aK (at? p1.fields x2) fun e1=>aK (q_column_leaves e1.type) fun r1=>(fD q_column_leaves p1 k1) (i64.wrap (x1+r1)) (i64.wrap (x2+1))) (m0 x1)
def dW:Nat→aq→OI
 |0,_=>none
 |k0+1,p1=>aF ((p1.fields.length:Int)==0) (some 1) (fD (dW k0) p1 aO 0 0)
theorem lj:∀(k0:Nat) (p1:aq),CT prog 81 [mT p1] (dW k0 p1) vi
  |0,_=>AK (dW.eq_1 ..)
  |k0+1,p1=>hJ 24 [5] f81 fun r=>(uU (dW.eq_2 ..) (uN ab p1.fields (uC uz (gr f81 30 1 fun K k=>have J1:∀{x3},m0 x3=some r→K.p [(3,vi x3)] []:=fun{x3} h=>k h uz;(uN ab p1.fields (mC f81 122 1 fun R b=>have L1:∀k1 {x1 x2},fD (dW k0) p1 k1 x1 x2=some r→(R k1).p [(3,vi x1),(11,vl ab p1.fields),(12,vi p1.fields.length),(13,vi x2)] []:=uI (lK rfl) fun k1 i1 {x1 x2} h=>b h (uU (fD.eq_2 ..) (uC (jO ab fun e1=>(dp (lj k0 _) fun r1=>(uJ i1))) (uR (.exit 0) (xM (uJ J1)))));uE (L1 aO)))))))
def cD(p1:Int)(p2:List ae)(p3:Bool)(p4 p5:List Int)(e1:ae)(x1:Bool):Option (Int×(List ae)×Bool×(List Int)×(List Int)):=aF x1 (aK (at? p4 p1) fun e3=>aK (at? e1.defs e3) fun e4=>some (e4,p2,p3,p4,p5)) (some ((-1),p2,true,p4,p5))
def cx(p1:Int)(p2:List ae)(p3:Bool)(p4 p5:List Int):Option (Int×(List ae)×Bool×(List Int)×(List Int)):=aK (at? p2 p1) fun e1=>aK (at? p4 p1) fun e2=>aF (decide (e2<(e1.defs.length:Int))) (cD p1 p2 p3 p4 p5 e1 (decide (e2<(e1.reps.length:Int)))) (cD p1 p2 p3 p4 p5 e1 false)
theorem jf(p1:Int)(p2:List ae)(p3:Bool)(p4 p5:List Int):CM prog 136 [vQ 0,vi p1] [.box [cl ah p2,.sl 1 1 0 p4.length,.sl 2 1 0 p5.length,cb p3],.arr 1 (eI.els p4),.arr 1 (eI.els p5)] (cx p1 p2 p3 p4 p5) (fun r=>vi r.1) (fun r=>[.box [cl ah r.2.1,.sl 1 1 0 p4.length,.sl 2 1 0 p5.length,cb r.2.2.1],.arr 1 (eI.els r.2.2.2.1),.arr 1 (eI.els r.2.2.2.2)]):=
  q9 3 51 [5] f136 fun r=>(jO ah fun e1=>(gr f136 26 2 fun K k=>have J1:∀{x1},cD p1 p2 p3 p4 p5 e1 x1=some r→K.p [(0,vQ 0),(1,vi p1),(5,vQ 3),(36,vb x1)] [.box [cl ah p2,.sl 1 1 0 p4.length,.sl 2 1 0 p5.length,cb p3],.arr 1 (eI.els p4),.arr 1 (eI.els p5),.box [cl eI e1.reps,cl eI e1.defs,cl ac e1.values]]:=fun{x1} h=>k h (uC (pX 9 (Ld eI 1 fun e3 a10=>(Jz eI a10 (jO eI fun e4=>(uR .ret oj))))) (uR .ret oj));(pX 22 (Ld eI 1 fun e2 a6=>(Jz eI a6 (uN eI e1.defs (uC (NC eI 1 a6 (Jz eI a6 (uN eI e1.reps (uJ J1)))) (uJ J1))))))))
def bj(p1 p2:Int)(p5 p6:List Int):Nat→List Int→List Int→List ae→Bool→Int→Option (Unit×(List ae)×Bool×(List Int)×(List Int))
 |0,_,_,_,_,_=>none
 |k1+1,l1,l2,z1,z2,x1=>aF (decide (x1<(i64.wrap (p1+p2)))) (aK (cx x1 z1 z2 l1 l2) fun r1=>eh (r1.2.2.2.1.length=l1.length)<|eh (r1.2.2.2.2.length=l2.length)<|aK (at? r1.2.2.2.1 x1) fun e1=>(bj p1 p2 p5 p6 k1) (r1.2.2.2.1.set x1.toNat (i64.wrap (e1+1))) r1.2.2.2.2 r1.2.1 r1.2.2.1 (i64.wrap (x1+1))) (eh (l1.length=p5.length)<|eh (l2.length=p6.length)<|some ((),z1,z2,l1,l2))
def bF(p1 p2:Int)(p3:List ae)(p4:Bool)(p5 p6:List Int):Option (Unit×(List ae)×Bool×(List Int)×(List Int)):=bj p1 p2 p5 p6 aO p5 p6 p3 p4 p1
theorem iS(p1 p2:Int)(p3:List ae)(p4:Bool)(p5 p6:List Int):CM prog 137 [vQ 0,vi p1,vi p2] [.box [cl ah p3,.sl 1 1 0 p5.length,.sl 2 1 0 p6.length,cb p4],.arr 1 (eI.els p5),.arr 1 (eI.els p6)] (bF p1 p2 p3 p4 p5 p6) (fun r=> .tp []) (fun r=>[.box [cl ah r.2.1,.sl 1 1 0 p5.length,.sl 2 1 0 p6.length,cb r.2.2.1],.arr 1 (eI.els r.2.2.2.1),.arr 1 (eI.els r.2.2.2.2)]):=
  q9 3 27 [] f137 fun r=>(mC f137 6 1 fun R b=>have L1:∀k1 {l1 l2 z1 z2 x1},bj p1 p2 p5 p6 k1 l1 l2 z1 z2 x1=some r→(R k1).p [(0,vQ 0),(1,vi p1),(2,vi p2),(6,vi x1)] [.box [cl ah z1,.sl 1 1 0 l1.length,.sl 2 1 0 l2.length,cb z2],.arr 1 (eI.els l1),.arr 1 (eI.els l2)]:=uI (lK rfl) fun k1 i1 {l1 l2 z1 z2 x1} h=>b h (uU (bj.eq_2 ..) (uC (wP true [0,1,2] (jf _ _ _ _ _) fun r1 _=>(AU 1 (AU 2 (Ld eI 1 fun e1 a12=>(Jz eI a12 (NC eI 1 a12 (OA eI 1 a12 (i64.wrap (e1+1)) (MU 1 (show r1.2.2.2.1.length=(r1.2.2.2.1.set x1.toNat (i64.wrap (e1+1))).length by simp) (uJ i1))))))))) (uR (.exit 0) (xM (CN 1 (CN 2 Pw))))));uE (L1 aO))
def ng(p1:aa)(l2:List aa):Option aa:=aK (bL l2) fun r2=>some (aa.mk p1.kind p1.n p1.scale p1.s r2)
def gE(q_value_Copy:aa→Option aa)(p1:aa):Nat→List aa→Int→Option aa
 |0,_,_=>none
 |k1+1,l1,x1=>aF (decide (x1<(p1.items.length:Int))) (aK (at? p1.items x1) fun e1=>aK (q_value_Copy e1) fun r1=>eh (l1.length+1≤4294967296)<|(gE q_value_Copy p1 k1) (l1++[r1]) (i64.wrap (x1+1))) (ng p1 l1)
def gS:Nat→aa→Option aa
 |0,_=>none
 |k0+1,p1=>gE (gS k0) p1 aO [] 0
abbrev lO:List CV:=[ci (0:Int),ci (0:Int),ci (0:Int),lL ByteArray.empty,.pv (.s (.slice none 0 0))]
theorem uh:∀(k0:Nat) (p1:aa),CT prog 138 [.ag (fv p1)] (gS k0 p1) (fun r=>mV r)
  |0,_=>AK (gS.eq_1 ..)
  |k0+1,p1=>hJ 23 [1,2,5] f138 fun r=>(uU (gS.eq_2 ..) (gr f138 14 1 fun K k=>have J1:∀{l2},ng p1 l2=some r→K.p [(1,vQ 0),(2,vQ 1),(3,.one (.sl 2 5 0 l2.length))] [.box (fv p1),.box lO,.arr 5 (ac.els l2)]:=fun{l2} h=>k h (wd ac l2 2 [19] (dp (dw _) fun r2=>uz));(uN ac p1.items (vq (.li 3 5) (mC f138 58 1 fun R b=>have L1:∀k1 {l1 x1},gE (gS k0) p1 k1 l1 x1=some r→(R k1).p [(1,vQ 0),(2,vQ 1),(3,.one (.sl 2 5 0 l1.length)),(7,vl ac p1.items),(8,vi p1.items.length),(9,vi x1)] [.box (fv p1),.box lO,.arr 5 (ac.els l1)]:=uI (lK rfl) fun k1 i1 {l1 x1} h=>b h (uU (gE.eq_2 ..) (uC (jO ac fun e1=>(dp (uh k0 _) fun r1=>(uW 16 ac [r1] (Fs ac 2 [r1] (uJ i1))))) (uR (.exit 0) (xM (uJ J1)))));uE (L1 aO))))))
def cj(p1:af)(p7 p8 l9 l10:List Int)(l11:List aa)(z7:List ae)(z8:Bool):Option (aa×(List ae)×Bool×(List Int)×(List Int)):=aK (bL l11) fun r11=>eh (l9.length=p7.length)<|eh (l10.length=p8.length)<|some ((aa.mk p1.type.kind 0 0 ByteArray.empty r11),z7,z8,l9,l10)
def bQ(q_column_assembler_field:af→Int→Int→Int→(List ae)→Bool→(List Int)→(List Int)→Option (aa×(List ae)×Bool×(List Int)×(List Int)))(rec1:List Int→List Int→List aa→List ae→Bool→Bool→Option (aa×(List ae)×Bool×(List Int)×(List Int)))(p1:af)(p2 p4:Int)(p7 p8:List Int)(x1:Int)(l3 l4:List Int)(l5:List aa)(z3:List ae)(z4 x3:Bool):Option (aa×(List ae)×Bool×(List Int)×(List Int)):=aF x3 (aK (at? p1.type.fields 0) fun e1=>aK (q_column_assembler_field e1 p2 (i64.wrap (x1+1)) (i64.wrap (p4+1)) z3 z4 l3 l4) fun r6=>eh (r6.2.2.2.1.length=l3.length)<|eh (r6.2.2.2.2.length=l4.length)<|eh (l5.length+1≤4294967296)<|aK (at? r6.2.2.2.1 p2) fun e2=>aK (at? r6.2.1 p2) fun e3=>aF (decide (e2<(e3.reps.length:Int))) (aK (at? e3.reps e2) fun e4=>rec1 r6.2.2.2.1 r6.2.2.2.2 (l5++[r6.1]) r6.2.1 r6.2.2.1 (decide (p4<e4))) (rec1 r6.2.2.2.1 r6.2.2.2.2 (l5++[r6.1]) r6.2.1 r6.2.2.1 false)) (cj p1 p7 p8 l3 l4 l5 z3 z4)
def aL(q_column_assembler_field:af→Int→Int→Int→(List ae)→Bool→(List Int)→(List Int)→Option (aa×(List ae)×Bool×(List Int)×(List Int)))(p1:af)(p2 p4:Int)(p7 p8:List Int)(x1:Int):Nat→List Int→List Int→List aa→List ae→Bool→Bool→Option (aa×(List ae)×Bool×(List Int)×(List Int))
 |0,_,_,_,_,_,_=>none
 |k1+1,l3,l4,l5,z3,z4,x2=>aF x2 (bQ q_column_assembler_field (aL q_column_assembler_field p1 p2 p4 p7 p8 x1 k1) p1 p2 p4 p7 p8 x1 l3 l4 l5 z3 z4 (!z4)) (bQ q_column_assembler_field (aL q_column_assembler_field p1 p2 p4 p7 p8 x1 k1) p1 p2 p4 p7 p8 x1 l3 l4 l5 z3 z4 false)
def bq(q_column_assembler_field:af→Int→Int→Int→(List ae)→Bool→(List Int)→(List Int)→Option (aa×(List ae)×Bool×(List Int)×(List Int)))(p1:af)(p4:Int)(p7 p8:List Int)(x1:Int):Nat→List Int→List Int→List aa→List ae→Bool→Int→Int→Option (aa×(List ae)×Bool×(List Int)×(List Int))
 |0,_,_,_,_,_,_,_=>none
 |k2+1,l6,l7,l8,z5,z6,x4,x5=>aF (decide (x5<(p1.type.fields.length:Int))) (aK (at? p1.type.fields x5) fun e5=>aK (q_column_assembler_field e5 x4 x1 p4 z5 z6 l6 l7) fun r7=>eh (r7.2.2.2.1.length=l6.length)<|eh (r7.2.2.2.2.length=l7.length)<|eh (l8.length+1≤4294967296)<|aK (dW aO e5.type) fun r8=>(bq q_column_assembler_field p1 p4 p7 p8 x1 k2) r7.2.2.2.1 r7.2.2.2.2 (l8++[r7.1]) r7.2.1 r7.2.2.1 (i64.wrap (x4+r8)) (i64.wrap (x5+1))) (cj p1 p7 p8 l6 l7 l8 z5 z6)
def cJ(q_column_assembler_field:af→Int→Int→Int→(List ae)→Bool→(List Int)→(List Int)→Option (aa×(List ae)×Bool×(List Int)×(List Int)))(p1:af)(p2 p4:Int)(p7 p8:List Int)(r1:Int)(l1 l2:List Int)(z1:List ae)(z2:Bool)(x1:Int):Option (aa×(List ae)×Bool×(List Int)×(List Int)):=aF (p1.type.kind==6) (aK (cx p2 z1 z2 l1 l2) fun r4=>eh (r4.2.2.2.1.length=l1.length)<|eh (r4.2.2.2.2.length=l2.length)<|aF (decide (r4.1≤x1)) (aK (bF p2 r1 r4.2.1 r4.2.2.1 r4.2.2.2.1 r4.2.2.2.2) fun r5=>eh (r5.2.2.2.1.length=r4.2.2.2.1.length)<|eh (r5.2.2.2.2.length=r4.2.2.2.2.length)<|eh (r5.2.2.2.1.length=p7.length)<|eh (r5.2.2.2.2.length=p8.length)<|some ((aa.mk p1.type.kind 0 0 ByteArray.empty []),r5.2.1,r5.2.2.1,r5.2.2.2.1,r5.2.2.2.2)) (aL q_column_assembler_field p1 p2 p4 p7 p8 x1 aO r4.2.2.2.1 r4.2.2.2.2 [] r4.2.1 r4.2.2.1 true)) (aF (p1.type.kind==7) (bq q_column_assembler_field p1 p4 p7 p8 x1 aO l1 l2 [] z1 z2 p2 0) (aK (bF p2 1 z1 z2 l1 l2) fun r9=>eh (r9.2.2.2.1.length=l1.length)<|eh (r9.2.2.2.2.length=l2.length)<|aK (at? r9.2.2.2.2 p2) fun e6=>aK (at? r9.2.1 p2) fun e7=>aF (e6==(e7.values.length:Int)) (eh (r9.2.2.2.1.length=p7.length)<|eh (r9.2.2.2.2.length=p8.length)<|some ((aa.mk 0 0 0 ByteArray.empty []),r9.2.1,true,r9.2.2.2.1,r9.2.2.2.2)) (aK (at? e7.values e6) fun e8=>aK (gS aO e8) fun r10=>eh (r9.2.2.2.1.length=p7.length)<|eh ((r9.2.2.2.2.set p2.toNat (i64.wrap (e6+1))).length=p8.length)<|some (r10,r9.2.1,r9.2.2.1,r9.2.2.2.1,(r9.2.2.2.2.set p2.toNat (i64.wrap (e6+1)))))))
def aE:Nat→af→Int→Int→Int→(List ae)→Bool→(List Int)→(List Int)→Option (aa×(List ae)×Bool×(List Int)×(List Int))
 |0,_,_,_,_,_,_,_,_=>none
 |k0+1,p1,p2,p3,p4,p5,p6,p7,p8=>aF p6 (some ((aa.mk 0 0 0 ByteArray.empty []),p5,p6,p7,p8)) (aK (dW aO p1.type) fun r1=>aF (!p1.need) (aK (cx p2 p5 p6 p7 p8) fun r2=>eh (r2.2.2.2.1.length=p7.length)<|eh (r2.2.2.2.2.length=p8.length)<|aF (decide (r2.1≤p3)) (aK (bF p2 r1 r2.2.1 r2.2.2.1 r2.2.2.2.1 r2.2.2.2.2) fun r3=>eh (r3.2.2.2.1.length=r2.2.2.2.1.length)<|eh (r3.2.2.2.2.length=r2.2.2.2.2.length)<|eh (r3.2.2.2.1.length=p7.length)<|eh (r3.2.2.2.2.length=p8.length)<|some ((aa.mk 0 0 0 ByteArray.empty []),r3.2.1,r3.2.2.1,r3.2.2.2.1,r3.2.2.2.2)) (cJ (aE k0) p1 p2 p4 p7 p8 r1 r2.2.2.2.1 r2.2.2.2.2 r2.2.1 r2.2.2.1 (i64.wrap (p3+1)))) (cJ (aE k0) p1 p2 p4 p7 p8 r1 p7 p8 p5 p6 p3))
abbrev Hy(p1:af)(l3 l4:List Int)(l5:List aa)(z3:List ae)(z4:Bool):St:=[.box [cl ah z3,.sl 1 1 0 l3.length,.sl 2 1 0 l4.length,cb z4],.arr 1 (eI.els l3),.arr 1 (eI.els l4),.box lO,.box [ci p1.type.kind,ci (0:Int),ci (0:Int),lL ByteArray.empty,.sl 5 5 0 l5.length],.arr 5 (ac.els l5)]
theorem iw:∀(k0:Nat) (p1:af) (p2 p3 p4:Int) (p5:List ae) (p6:Bool) (p7 p8:List Int),CM prog 80 [vQ 0,mf p1,vi p2,vi p3,vi p4] [.box [cl ah p5,.sl 1 1 0 p7.length,.sl 2 1 0 p8.length,cb p6],.arr 1 (eI.els p7),.arr 1 (eI.els p8)] (aE k0 p1 p2 p3 p4 p5 p6 p7 p8) (fun r=>mV r.1) (fun r=>[.box [cl ah r.2.1,.sl 1 1 0 p7.length,.sl 2 1 0 p8.length,cb r.2.2.1],.arr 1 (eI.els r.2.2.2.1),.arr 1 (eI.els r.2.2.2.2)])
  |0,_,_,_,_,_,_,_,_=>HI (aE.eq_1 ..)
  |k0+1,p1,p2,p3,p4,p5,p6,p7,p8=>q9 3 196 [10,12,16] f80 fun r=>(uU (aE.eq_2 ..) (uC (uR .ret oj) (dp (lj aO _) fun r1=>(gr f80 30 1 fun K k=>have J1:∀{l1 l2 z1 z2 x1},cJ (aE k0) p1 p2 p4 p7 p8 r1 l1 l2 z1 z2 x1=some r→K.p [(0,vQ 0),(2,vi p2),(3,vi x1),(4,vi p4),(6,vR (jN p1)),(10,vQ 3),(11,vi r1)] [.box [cl ah z1,.sl 1 1 0 l1.length,.sl 2 1 0 l2.length,cb z2],.arr 1 (eI.els l1),.arr 1 (eI.els l2),.box lO]:=fun{l1 l2 z1 z2 x1} h=>k h (gr f80 126 1 fun K k=>have J3:∀{l9 l10 l11 z7 z8},cj p1 p7 p8 l9 l10 l11 z7 z8=some r→K.p [(10,vQ 3),(12,vQ 4)] [.box [cl ah z7,.sl 1 1 0 l9.length,.sl 2 1 0 l10.length,cb z8],.arr 1 (eI.els l9),.arr 1 (eI.els l10),.box lO,.box [ci p1.type.kind,ci (0:Int),ci (0:Int),lL ByteArray.empty,.sl 5 5 0 l11.length],.arr 5 (ac.els l11)]:=fun{l9 l10 l11 z7 z8} h=>k h (vq (.stl 4 4) (wd ac l11 5 [192] (dp (dw _) fun r11=>(CN 1 (CN 2 (uR .ret oj))))));(uC (wP true [0,1,2] (jf _ _ _ _ _) fun r4 _=>(AU 1 (AU 2 (uC (wP true [0,1,2] (iS _ _ _ _ _ _) fun r5 _=>(AU 1 (AU 2 (CN 1 (CN 2 (uR .ret (xN oj))))))) (vq (.lb 4 4 5) (mC f80 16214 2 fun R b=>have L1:∀k1 {l3 l4 l5 z3 z4 x2},aL (aE k0) p1 p2 p4 p7 p8 x1 k1 l3 l4 l5 z3 z4 x2=some r→(R k1).p [(0,vQ 0),(2,vi p2),(3,vi x1),(4,vi p4),(6,vR (jN p1)),(10,vQ 3),(12,vQ 4),(13,vb x2)] (Hy p1 l3 l4 l5 z3 z4):=uI (lK rfl) fun k1 i1 {l3 l4 l5 z3 z4 x2} h=>b h (uU (aL.eq_2 ..) (gr f80 129712 2 fun K k=>have J2:∀{x3},bQ (aE k0) (aL (aE k0) p1 p2 p4 p7 p8 x1 k1) p1 p2 p4 p7 p8 x1 l3 l4 l5 z3 z4 x3=some r→K.p [(0,vQ 0),(2,vi p2),(3,vi x1),(4,vi p4),(6,vR (jN p1)),(10,vQ 3),(12,vQ 4),(113,vb x3)] (Hy p1 l3 l4 l5 z3 z4):=fun{x3} h=>k h (uC (B9 15 0 [6] (jO ab fun e1=>(N8 [0,1,2] (iw k0 _ _ _ _ _ _ _ _) fun r6 _=>(uW 128 ac [r6.1] (AU 1 (AU 2 (vq (.stl 4 4) (Fs ac 5 [r6.1] (Ld eI 1 fun e2 a54=>(Jz eI a54 (uL ah fun e3 a55=>(uN eI e3.reps (uC (uM ah a55 (jO eI fun e4=>(uJ i1))) (uJ i1)))))))))))))) (uR (.exit 1) (xM (uJ J3))));(uC (uJ J2) (uJ J2))));uE (L1 aO))))))) (uC (uN ab p1.type.fields (vq (.lb 4 4 5) (mC f80 32442 2 fun R b=>have L2:∀k2 {l6 l7 l8 z5 z6 x4 x5},bq (aE k0) p1 p4 p7 p8 x1 k2 l6 l7 l8 z5 z6 x4 x5=some r→(R k2).p [(0,vQ 0),(2,vi x4),(3,vi x1),(4,vi p4),(10,vQ 3),(12,vQ 4),(168,vl ab p1.type.fields),(169,vi p1.type.fields.length),(170,vi x5)] [.box [cl ah z5,.sl 1 1 0 l6.length,.sl 2 1 0 l7.length,cb z6],.arr 1 (eI.els l6),.arr 1 (eI.els l7),.box lO,.box [ci p1.type.kind,ci (0:Int),ci (0:Int),lL ByteArray.empty,.sl 5 5 0 l8.length],.arr 5 (ac.els l8)]:=uI (lK rfl) fun k2 i2 {l6 l7 l8 z5 z6 x4 x5} h=>b h (uU (bq.eq_2 ..) (uC (jO ab fun e5=>(B9 9 0 [7] (N8 [0,1,2] (iw k0 _ _ _ _ _ _ _ _) fun r7 _=>(uW 182 ac [r7.1] (AU 1 (AU 2 (vq (.stl 4 4) (Fs ac 5 [r7.1] (dp (lj aO _) fun r8=>(uJ i2)))))))))) (uR (.exit 3) (xM (uJ J3)))));uE (L2 aO)))) (wP true [0,1,2] (iS _ _ _ _ _ _) fun r9 _=>(AU 1 (AU 2 (Ld eI 2 fun e6 a78=>(Jz eI a78 (uL ah fun e7 a81=>(uN ac e7.values (uC (CN 1 (CN 2 (uR .ret (xN oj)))) (NC eI 2 a78 (Jz eI a78 (NC eI 2 a78 (OA eI 2 a78 (i64.wrap (e6+1)) (MU 2 (show r9.2.2.2.2.length=(r9.2.2.2.2.set p2.toNat (i64.wrap (e6+1))).length by simp) (uM ah a81 (jO ac fun e8=>(dp (uh aO _) fun r10=>(CN 1 (CN 2 (uR .ret (xN oj)))))))))))))))))))))));(uC (wP true [0,1,2] (jf _ _ _ _ _) fun r2 _=>(AU 1 (AU 2 (uC (wP true [0,1,2] (iS _ _ _ _ _ _) fun r3 _=>(AU 1 (AU 2 (CN 1 (CN 2 (uR .ret (xN oj))))))) (uJ J1))))) (uJ J1))))))
def lH:OB:=some true
def bP(p1 p2:List Int):Nat→Int→OB
 |0,_=>none
 |k1+1,x1=>aF (decide (x1<(p1.length:Int))) (aK (at? p1 x1) fun e1=>aK (at? p2 x1) fun e2=>aF (e1 != e2) (some false) ((bP p1 p2 k1) (i64.wrap (x1+1)))) (lH)
def dQ(p1 p2:List Int):OB:=aF ((p1.length:Int) != (p2.length:Int)) (some false) (bP p1 p2 aO 0)
theorem lW(p1 p2:List Int):CT prog 141 [vl eI p1,vl eI p2] (dQ p1 p2) vb:=
  hJ 26 [] f141 fun r=>(uN eI p1 (uN eI p2 (uC uz (sM f141 14 1 lH [] [] uz fun K J1=>(uN eI p1 (mC f141 58 1 fun R b=>have L1:∀k1 {x1},bP p1 p2 k1 x1=some r→(R k1).p [(0,vl eI p1),(1,vl eI p2),(12,vi p1.length),(13,vi x1)] []:=uI (lK rfl) fun k1 i1 {x1} h=>b h (uU (bP.eq_2 ..) (uC (pX 8 (jO eI fun e1=>(jO eI fun e2=>(uC wj (uJ i1))))) (uR (.exit 0) (xM (uJ J1)))));uE (L1 aO)))))))
def nf(p1:Int):OB:=some (p1 != p1)
theorem qG(p1:Int):CT prog 192 [vi p1] (nf p1) vb:=
  hJ 6 [] f192 fun r=>uz
def im(p1 p2:Int):OI:=aK (nf p1) fun r1=>aK (nf p2) fun r2=>aF r1 (aF r2 (some 0) (some (-1))) (aF r2 (some 1) (aF (decide (p1<p2)) (some (-1)) (aF (decide (p2<p1)) (some 1) (some 0))))
theorem mq(p1 p2:Int):CT prog 175 [vi p1,vi p2] (im p1 p2) vi:=
  hJ 20 [] f175 fun r=>(dp (qG _) fun r1=>(dp (qG _) fun r2=>(uC (uC uz uz) (uC uz (uC uz (uC uz uz))))))
def oR(p1:Int):Option cy:=aF (decide (p1<0)) (some (cy.mk true ((IntKind.u64.wrap (0-(IntKind.u64.wrap p1))),0,0,0))) (some (cy.mk false ((IntKind.u64.wrap p1),0,0,0)))
theorem yZ(p1:Int):CT prog 193 [vi p1] (oR p1) (fun r=>mW r):=
  hJ 14 [2] f193 fun r=>(uC uz uz)
def gj(p1 p2:Int):Option (Int×Int):=aK (some (IntKind.u64.wrap (BitVec.ofInt (IntKind.u64).bits p1 &&& BitVec.ofInt (IntKind.u64).bits 4294967295).toNat)) fun y1=>aK (some (IntKind.u64.wrap (BitVec.ofInt (IntKind.u64).bits p2 &&& BitVec.ofInt (IntKind.u64).bits 4294967295).toNat)) fun y2=>aK (some (IntKind.u64.wrap ((p1.fdiv (2^(min (32:Int).toNat (IntKind.u64).bits)))*y2))) fun y3=>aK (some ((IntKind.u64.wrap (y1*y2)).fdiv (2^(min (32:Int).toNat (IntKind.u64).bits)))) fun y4=>aK (some (IntKind.u64.wrap (BitVec.ofInt (IntKind.u64).bits (IntKind.u64.wrap (y3+y4)) &&& BitVec.ofInt (IntKind.u64).bits 4294967295).toNat)) fun y5=>aK (some ((IntKind.u64.wrap (y3+y4)).fdiv (2^(min (32:Int).toNat (IntKind.u64).bits)))) fun y6=>aK (some (IntKind.u64.wrap (y1*(p2.fdiv (2^(min (32:Int).toNat (IntKind.u64).bits)))))) fun y7=>aK (some (IntKind.u64.wrap ((p1.fdiv (2^(min (32:Int).toNat (IntKind.u64).bits)))*(p2.fdiv (2^(min (32:Int).toNat (IntKind.u64).bits)))))) fun y8=>aK (some ((IntKind.u64.wrap (y5+y7)).fdiv (2^(min (32:Int).toNat (IntKind.u64).bits)))) fun y9=>some ((IntKind.u64.wrap ((IntKind.u64.wrap (y8+y6))+y9)),(IntKind.u64.wrap (p1*p2)))
theorem jM(p1 p2:Int):CT prog 236 [vk .u64 p1,vk .u64 p2] (gj p1 p2) (fun r=> .tp [vk .u64 r.1,vk .u64 r.2]):=
  hJ 51 [] f236 fun r=>(uY 15 (vk .u64) fun y1=>(uY 19 (vk .u64) fun y2=>(uY 27 (vk .u64) fun y3=>(uY 29 (vk .u64) fun y4=>(uY 32 (vk .u64) fun y5=>(uY 34 (vk .u64) fun y6=>(uY 38 (vk .u64) fun y7=>(uY 42 (vk .u64) fun y8=>(uY 46 (vk .u64) fun y9=>uz)))))))))
def ko(p1:cy)(p2:Int):Option cy:=aK (gj p1.size.1 p2) fun r1=>eh (0≤r1.2∧0≤(0:Int)∧0≤(0:Int)∧(0:Int)≤1)<|aK (some (IntKind.u64.wrap (r1.1+((r1.2+0+(0:Int))/18446744073709551616)))) fun y1=>aK (gj p1.size.2.1 p2) fun r2=>eh (0≤r2.2∧0≤y1∧0≤(0:Int)∧(0:Int)≤1)<|aK (some (IntKind.u64.wrap (r2.1+((r2.2+y1+0)/18446744073709551616)))) fun y2=>aK (gj p1.size.2.2.1 p2) fun r3=>eh (0≤r3.2∧0≤y2∧0≤(0:Int)∧(0:Int)≤1)<|aK (some (IntKind.u64.wrap (r3.1+((r3.2+y2+0)/18446744073709551616)))) fun y3=>aK (gj p1.size.2.2.2 p2) fun r4=>eh (0≤r4.2∧0≤y3∧0≤(0:Int)∧(0:Int)≤1)<|aK (some (IntKind.u64.wrap (r4.1+((r4.2+y3+0)/18446744073709551616)))) fun y4=>some (cy.mk p1.neg (((r1.2+0+(0:Int))%18446744073709551616),((r2.2+y1+0)%18446744073709551616),((r3.2+y2+0)%18446744073709551616),((r4.2+y3+0)%18446744073709551616)))
theorem tL(p1:cy)(p2:Int):CT prog 220 [mW p1,vk .u64 p2] (ko p1 p2) (fun r=>mW r):=
  hJ 37 [2,4] f220 fun r=>(On 4 (dp (jM _ _) fun r1=>(Cf 237 f237 (uY 34 (vk .u64) fun y1=>(dp (jM _ _) fun r2=>(Cf 237 f237 (uY 34 (vk .u64) fun y2=>(dp (jM _ _) fun r3=>(Cf 237 f237 (uY 34 (vk .u64) fun y3=>(dp (jM _ _) fun r4=>(Cf 237 f237 (uY 34 (vk .u64) fun y4=>uz)))))))))))))
def mH(z6:Bool)(z7 z8 z9 z10:Int):Option cy:=some (cy.mk z6 (z7,z8,z9,z10))
def cV(p2:Int):Nat→Bool→Int→Int→Int→Int→Int→Option cy
 |0,_,_,_,_,_,_=>none
 |k1+1,z1,z2,z3,z4,z5,x1=>aF (decide (x1<p2)) (aK (ko (cy.mk z1 (z2,z3,z4,z5)) 10) fun r1=>(cV p2 k1) r1.neg r1.size.1 r1.size.2.1 r1.size.2.2.1 r1.size.2.2.2 (i64.wrap (x1+1))) (mH z1 z2 z3 z4 z5)
def lA(p1:cy)(p2:Int):Option cy:=cV p2 aO p1.neg p1.size.1 p1.size.2.1 p1.size.2.2.1 p1.size.2.2.2 0
abbrev H0:List CV:=[cb false,ck .u64 (0:Int),ck .u64 (0:Int),ck .u64 (0:Int),ck .u64 (0:Int)]
theorem rq(p1:cy)(p2:Int):CT prog 194 [mW p1,vi p2] (lA p1 p2) (fun r=>mW r):=
  hJ 12 [2,4] f194 fun r=>(gr f194 6 1 fun K k=>have J1:∀{z6 z7 z8 z9 z10},mH z6 z7 z8 z9 z10=some r→K.p [(2,vQ 0),(4,vQ 1)] [.box [cb z6,ck .u64 z7,ck .u64 z8,ck .u64 z9,ck .u64 z10],.box H0]:=fun{z6 z7 z8 z9 z10} h=>k h uz;(mC f194 26 1 fun R b=>have L1:∀k1 {z1 z2 z3 z4 z5 x1},cV p2 k1 z1 z2 z3 z4 z5 x1=some r→(R k1).p [(2,vQ 0),(4,vQ 1),(5,vi p2),(6,vi x1)] [.box [cb z1,ck .u64 z2,ck .u64 z3,ck .u64 z4,ck .u64 z5],.box H0]:=uI (lK rfl) fun k1 i1 {z1 z2 z3 z4 z5 x1} h=>b h (uU (cV.eq_2 ..) (uC (dp (tL _ _) fun r1=>(uJ i1)) (uR (.exit 0) (xM (uJ J1)))));uE (L1 aO)))
def lM(p1 p2:Int):Option cy:=aK (oR p1) fun r1=>aK (lA (cy.mk r1.neg (r1.size.1,r1.size.2.1,r1.size.2.2.1,r1.size.2.2.2)) p2) fun r2=>some (cy.mk r2.neg (r2.size.1,r2.size.2.1,r2.size.2.2.1,r2.size.2.2.2))
theorem rQ(p1 p2:Int):CT prog 178 [vi p1,vi p2] (lM p1 p2) (fun r=>mW r):=
  hJ 9 [4] f178 fun r=>(dp (yZ _) fun r1=>(dp (rq _ _) fun r2=>uz))
def jk(p1:cy):Option cy:=some (cy.mk (!p1.neg) (p1.size.1,p1.size.2.1,p1.size.2.2.1,p1.size.2.2.2))
theorem j9(p1:cy):CT prog 222 [mW p1] (jk p1) (fun r=>mW r):=
  hJ 8 [1,2] f222 fun r=>uz
def jK(p1 p2:cy):OI:=aF (decide (p1.size.2.2.2<p2.size.2.2.2)) (some (-1)) (aF (decide (p2.size.2.2.2<p1.size.2.2.2)) (some 1) (aF (decide (p1.size.2.2.1<p2.size.2.2.1)) (some (-1)) (aF (decide (p2.size.2.2.1<p1.size.2.2.1)) (some 1) (aF (decide (p1.size.2.1<p2.size.2.1)) (some (-1)) (aF (decide (p2.size.2.1<p1.size.2.1)) (some 1) (aF (decide (p1.size.1<p2.size.1)) (some (-1)) (aF (decide (p2.size.1<p1.size.1)) (some 1) (some 0))))))))
theorem sK(p1 p2:cy):CT prog 223 [mW p1,mW p2] (jK p1 p2) vi:=
  hJ 30 [] f223 fun r=>(On 4 (pX 8 (uC uz (pX 8 (uC uz (pX 8 (uC uz (pX 8 (uC uz (pX 8 (uC uz (pX 8 (uC uz (pX 8 (uC uz (pX 8 (uC uz uz)))))))))))))))))
def iE(z1:Bool)(z2 z3 z4 z5:Int)(z6:Bool)(z7 z8 z9 z10:Int):Option cy:=eh (0≤z2∧0≤z7∧z7<18446744073709551616∧0≤(0:Int)∧(0:Int)≤1)<|eh (0≤z3∧0≤z8∧z8<18446744073709551616∧0≤(if z2<z7+0 then(1:Int)else 0)∧(if z2<z7+0 then(1:Int)else 0)≤1)<|aK (some ((z3-z8-(if z2<z7+0 then(1:Int)else 0))%18446744073709551616)) fun y1=>aK (some (if z3<z8+(if z2<z7+0 then(1:Int)else 0)then(1:Int)else 0)) fun y2=>eh (0≤z4∧0≤z9∧z9<18446744073709551616∧0≤y2∧y2≤1)<|eh (0≤z5∧0≤z10∧z10<18446744073709551616∧0≤(if z4<z9+y2 then(1:Int)else 0)∧(if z4<z9+y2 then(1:Int)else 0)≤1)<|aK (some ((z5-z10-(if z4<z9+y2 then(1:Int)else 0))%18446744073709551616)) fun y3=>aK (some (if z5<z10+(if z4<z9+y2 then(1:Int)else 0)then(1:Int)else 0)) fun y4=>some (cy.mk z1 (((z2-z7-0)%18446744073709551616),y1,((z4-z9-y2)%18446744073709551616),y3))
mutual
def gO:Nat→cy→cy→Option cy
 |0,_,_=>none
 |k0+1,p1,p2=>aF (!(p1.neg==p2.neg)) (aK (jk (cy.mk p2.neg (p2.size.1,p2.size.2.1,p2.size.2.2.1,p2.size.2.2.2))) fun r1=>aK ((lm k0) (cy.mk p1.neg (p1.size.1,p1.size.2.1,p1.size.2.2.1,p1.size.2.2.2)) (cy.mk r1.neg (r1.size.1,r1.size.2.1,r1.size.2.2.1,r1.size.2.2.2))) fun r2=>some (cy.mk r2.neg (r2.size.1,r2.size.2.1,r2.size.2.2.1,r2.size.2.2.2))) (aK (jK (cy.mk p1.neg (p1.size.1,p1.size.2.1,p1.size.2.2.1,p1.size.2.2.2)) (cy.mk p2.neg (p2.size.1,p2.size.2.1,p2.size.2.2.1,p2.size.2.2.2))) fun r3=>aF (decide (r3<0)) (aK (jk (cy.mk p2.neg (p2.size.1,p2.size.2.1,p2.size.2.2.1,p2.size.2.2.2))) fun r4=>iE r4.neg r4.size.1 r4.size.2.1 r4.size.2.2.1 r4.size.2.2.2 p1.neg p1.size.1 p1.size.2.1 p1.size.2.2.1 p1.size.2.2.2) (iE p1.neg p1.size.1 p1.size.2.1 p1.size.2.2.1 p1.size.2.2.2 p2.neg p2.size.1 p2.size.2.1 p2.size.2.2.1 p2.size.2.2.2))
def lm:Nat→cy→cy→Option cy
 |0,_,_=>none
 |k0+1,p1,p2=>aF (!(p1.neg==p2.neg)) (aK (jk (cy.mk p2.neg (p2.size.1,p2.size.2.1,p2.size.2.2.1,p2.size.2.2.2))) fun r1=>aK ((gO k0) (cy.mk p1.neg (p1.size.1,p1.size.2.1,p1.size.2.2.1,p1.size.2.2.2)) (cy.mk r1.neg (r1.size.1,r1.size.2.1,r1.size.2.2.1,r1.size.2.2.2))) fun r2=>some (cy.mk r2.neg (r2.size.1,r2.size.2.1,r2.size.2.2.1,r2.size.2.2.2))) (eh (0≤p1.size.1∧0≤p2.size.1∧0≤(0:Int)∧(0:Int)≤1)<|eh (0≤p1.size.2.1∧0≤p2.size.2.1∧0≤((p1.size.1+p2.size.1+0)/18446744073709551616)∧((p1.size.1+p2.size.1+0)/18446744073709551616)≤1)<|aK (some ((p1.size.2.1+p2.size.2.1+((p1.size.1+p2.size.1+0)/18446744073709551616))%18446744073709551616)) fun y1=>aK (some ((p1.size.2.1+p2.size.2.1+((p1.size.1+p2.size.1+0)/18446744073709551616))/18446744073709551616)) fun y2=>eh (0≤p1.size.2.2.1∧0≤p2.size.2.2.1∧0≤y2∧y2≤1)<|eh (0≤p1.size.2.2.2∧0≤p2.size.2.2.2∧0≤((p1.size.2.2.1+p2.size.2.2.1+y2)/18446744073709551616)∧((p1.size.2.2.1+p2.size.2.2.1+y2)/18446744073709551616)≤1)<|aK (some ((p1.size.2.2.2+p2.size.2.2.2+((p1.size.2.2.1+p2.size.2.2.1+y2)/18446744073709551616))%18446744073709551616)) fun y3=>aK (some ((p1.size.2.2.2+p2.size.2.2.2+((p1.size.2.2.1+p2.size.2.2.1+y2)/18446744073709551616))/18446744073709551616)) fun y4=>some (cy.mk p1.neg (((p1.size.1+p2.size.1+0)%18446744073709551616),y1,((p1.size.2.2.1+p2.size.2.2.1+y2)%18446744073709551616),y3)))
end
mutual
theorem oi:∀(k0:Nat) (p1 p2:cy),CT prog 195 [mW p1,mW p2] (gO k0 p1 p2) (fun r=>mW r)
  |0,_,_=>AK (gO.eq_1 ..)
  |k0+1,p1,p2=>hJ 44 [2,3,4] f195 fun r=>(uU (gO.eq_2 ..) (uC (pX 3 (dp (j9 _) fun r1=>(dp (uj k0 _ _) fun r2=>uz))) (gr f195 14 1 fun K k=>have J1:∀{z1 z2 z3 z4 z5 z6 z7 z8 z9 z10},iE z1 z2 z3 z4 z5 z6 z7 z8 z9 z10=some r→K.p [(2,vQ 0),(3,vQ 1),(4,vQ 2)] [.box [cb z1,ck .u64 z2,ck .u64 z3,ck .u64 z4,ck .u64 z5],.box [cb z6,ck .u64 z7,ck .u64 z8,ck .u64 z9,ck .u64 z10],.box [cb false,ck .u64 (0:Int),ck .u64 (0:Int),ck .u64 (0:Int),ck .u64 (0:Int)]]:=fun{z1 z2 z3 z4 z5 z6 z7 z8 z9 z10} h=>k h (On 4 (B9 17 0 [3] (KB 224 f224 (B9 17 0 [3] (KB 224 f224 (uY 38 (vk .u64) fun y1=>(uY 39 (vk .u64) fun y2=>(B9 17 0 [3] (KB 224 f224 (B9 17 0 [3] (KB 224 f224 (uY 38 (vk .u64) fun y3=>(uY 39 (vk .u64) fun y4=>uz)))))))))))));(dp (sK _ _) fun r3=>(uC (pX 3 (dp (j9 _) fun r4=>(uJ J1))) (uJ J1))))))
theorem uj:∀(k0:Nat) (p1 p2:cy),CT prog 221 [mW p1,mW p2] (lm k0 p1 p2) (fun r=>mW r)
  |0,_,_=>AK (lm.eq_1 ..)
  |k0+1,p1,p2=>hJ 37 [2,4] f221 fun r=>(uU (lm.eq_2 ..) (uC (pX 3 (dp (j9 _) fun r1=>(dp (oi k0 _ _) fun r2=>uz))) (On 4 (B9 17 0 [2] (Cf 237 f237 (B9 17 0 [2] (Cf 237 f237 (uY 31 (vk .u64) fun y1=>(uY 32 (vk .u64) fun y2=>(B9 17 0 [2] (Cf 237 f237 (B9 17 0 [2] (Cf 237 f237 (uY 31 (vk .u64) fun y3=>(uY 32 (vk .u64) fun y4=>uz)))))))))))))))
end
def nF(p1:cy):OB:=aK (some ((p1.size.1==0)&&((p1.size.2.1==0)&&((p1.size.2.2.1==0)&&((p1.size.2.2.2==0)&&true))))) fun y1=>some y1
theorem vo(p1:cy):CT prog 196 [mW p1] (nF p1) vb:=
  hJ 7 [] f196 fun r=>(uY 6 vb fun y1=>uz)
def jg(p1 p2:cy):OI:=aK (gO aO (cy.mk p1.neg (p1.size.1,p1.size.2.1,p1.size.2.2.1,p1.size.2.2.2)) (cy.mk p2.neg (p2.size.1,p2.size.2.1,p2.size.2.2.1,p2.size.2.2.2))) fun r1=>aK (nF (cy.mk r1.neg (r1.size.1,r1.size.2.1,r1.size.2.2.1,r1.size.2.2.2))) fun r2=>aF r2 (some 0) (aF r1.neg (some (-1)) (some 1))
theorem rO(p1 p2:cy):CT prog 179 [mW p1,mW p2] (jg p1 p2) vi:=
  hJ 15 [5] f179 fun r=>(dp (oi aO _ _) fun r1=>(dp (vo _) fun r2=>(uC uz (uC uz uz))))
def kl(p1:ByteArray):OB:=some (!(p1.toList==p1.toList))
theorem ot(p1:ByteArray):CT prog 225 [vs p1] (kl p1) vb:=
  hJ 6 [] f225 fun r=>uz
def jm(p1 p2:ByteArray):OI:=aK (kl p1) fun r1=>aK (kl p2) fun r2=>aF r1 (aF r2 (some 0) (some (-1))) (aF r2 (some 1) (aF (Op.bytesLess p1.toList p2.toList) (some (-1)) (aF (!(Op.bytesLess p1.toList p2.toList||p1.toList==p2.toList)) (some 1) (some 0))))
theorem rA(p1 p2:ByteArray):CT prog 197 [vs p1,vs p2] (jm p1 p2) vi:=
  hJ 20 [] f197 fun r=>(dp (ot _) fun r1=>(dp (ot _) fun r2=>(uC (uC uz uz) (uC uz (uC uz (uC uz uz))))))
def sZ:OI:=some 0
def nr(p1:List Int):Nat→Int→OI
 |0,_=>none
 |k1+1,x1=>aF (decide (x1<(p1.length:Int))) (aK (at? p1 x1) fun e1=>aF (e1 != 0) (some e1) ((nr p1 k1) (i64.wrap (x1+1)))) (sZ)
def mQ(p1:List Int):OI:=nr p1 aO 0
theorem qh(p1:List Int):CT prog 177 [vl eI p1] (mQ p1) vi:=
  hJ 18 [] f177 fun r=>(sM f177 14 1 sZ [(3,vi (0:Int))] [] uz fun K J1=>(uN eI p1 (mC f177 58 1 fun R b=>have L1:∀k1 {x1},nr p1 k1 x1=some r→(R k1).p [(3,vi (0:Int)),(6,vl eI p1),(7,vi p1.length),(8,vi x1)] []:=uI (lK rfl) fun k1 i1 {x1} h=>b h (uU (nr.eq_2 ..) (uC (jO eI fun e1=>(uC wj (uJ i1))) (uR (.exit 0) (xM (uJ J1)))));uE (L1 aO))))
def be(p1 p2:List aa):OI:=aF (decide ((p1.length:Int)<(p2.length:Int))) (some (-1)) (some 0)
def aC(q_value_Compare:aa→aa→OI)(p1 p2:List aa):Nat→Int→OI
 |0,_=>none
 |k1+1,x1=>aF (decide (x1<(p1.length:Int))) (aK (at? p1 x1) fun e1=>aF (decide ((p2.length:Int)≤x1)) (some 1) (aK (at? p2 x1) fun e2=>aK (q_value_Compare e1 e2) fun r1=>aF (r1 != 0) (some r1) ((aC q_value_Compare p1 p2 k1) (i64.wrap (x1+1))))) (be p1 p2)
def iL(q_value_rest:aa→aa→OI)(p1 p2:aa):OI:=aK (im p1.n p2.n) fun r9=>aK (q_value_rest p1 p2) fun r10=>aK (mQ [r9,r10]) fun r11=>some r11
def kh(q_value_rest:aa→aa→OI)(p1 p2:aa)(r2 r3 x1:Bool):OI:=aF x1 (aK (lM p1.n (i64.wrap (12-p1.scale))) fun r4=>aK (lM p2.n (i64.wrap (12-p2.scale))) fun r5=>aK (jg (cy.mk r4.neg (r4.size.1,r4.size.2.1,r4.size.2.2.1,r4.size.2.2.2)) (cy.mk r5.neg (r5.size.1,r5.size.2.1,r5.size.2.2.1,r5.size.2.2.2))) fun r6=>aK (q_value_rest p1 p2) fun r7=>aK (mQ [r6,r7]) fun r8=>some r8) (aF r2 (some (-1)) (aF r3 (some 1) (iL q_value_rest p1 p2)))
mutual
def aG:Nat→(List aa)→(List aa)→OI
 |0,_,_=>none
 |k0+1,p1,p2=>aC (gB k0) p1 p2 aO 0
def gB:Nat→aa→aa→OI
 |0,_,_=>none
 |k0+1,p1,p2=>aF (p1.kind != p2.kind) (aF (p1.kind==0) (some 1) (aF (p2.kind==0) (some (-1)) (aK (im p1.kind p2.kind) fun r1=>some r1))) (aF (p1.kind==0) (some 0) (aF (p1.kind==3) (aK (eF p1.scale 0 12) fun r2=>aK (eF p2.scale 0 12) fun r3=>aF r2 (kh (gU k0) p1 p2 r2 r3 r3) (kh (gU k0) p1 p2 r2 r3 false)) (iL (gU k0) p1 p2)))
def gU:Nat→aa→aa→OI
 |0,_,_=>none
 |k0+1,p1,p2=>aK (im p1.scale p2.scale) fun r1=>aK (jm p1.s p2.s) fun r2=>aK ((aG k0) p1.items p2.items) fun r3=>aK (mQ [r1,r2,r3]) fun r4=>some r4
end
mutual
theorem dK:∀(k0:Nat) (p1 p2:List aa),CT prog 198 [vl ac p1,vl ac p2,.one (.pv (.fn 140 []))] (aG k0 p1 p2) vi
  |0,_,_=>AK (aG.eq_1 ..)
  |k0+1,p1,p2=>hJ 39 [8,9] f198 fun r=>(uU (aG.eq_2 ..) (sM f198 6 1 (be p1 p2) [(0,vl ac p1),(1,vl ac p2)] [] (uN ac p1 (uN ac p2 (uC uz uz))) fun K J1=>(uN ac p1 (mC f198 26 1 fun R b=>have L1:∀k1 {x1},aC (gB k0) p1 p2 k1 x1=some r→(R k1).p [(0,vl ac p1),(1,vl ac p2),(2,.one (.pv (.fn 140 []))),(11,vl ac p1),(12,vi p1.length),(13,vi x1)] []:=uI (lK rfl) fun k1 i1 {x1} h=>b h (uU (aC.eq_2 ..) (uC (jO ac fun e1=>(uN ac p2 (uC wj (jO ac fun e2=>(dp (qJ k0 _ _) fun r1=>(uC wj (uJ i1))))))) (uR (.exit 0) (xM (uJ J1)))));uE (L1 aO)))))
theorem qJ:∀(k0:Nat) (p1 p2:aa),CT prog 140 [mV p1,mV p2] (gB k0 p1 p2) vi
  |0,_,_=>AK (gB.eq_1 ..)
  |k0+1,p1,p2=>hJ 72 [] f140 fun r=>(uU (gB.eq_2 ..) (uC (uC uz (uC uz (dp (mq _ _) fun r1=>uz))) (sM f140 14 1 (iL (gU k0) p1 p2) [(2,vR [pi p1.kind,pi p1.n,pi p1.scale,.s (.string p1.s),.ro (ac.els p1.items)]),(3,vR [pi p2.kind,pi p2.n,pi p2.scale,.s (.string p2.s),.ro (ac.els p2.items)])] [] (pX 7 (dp (mq _ _) fun r9=>(dp (ua k0 _ _) fun r10=>(dp (qh _) fun r11=>uz)))) fun K J2=>(uC (uR .ret (xN xF)) (uC (pX 5 (dp (gV _ _ _) fun r2=>(dp (gV _ _ _) fun r3=>(gr f140 7540 3 fun K k=>have J1:∀{x1},kh (gU k0) p1 p2 r2 r3 x1=some r→K.p [(2,vR [pi p1.kind,pi p1.n,pi p1.scale,.s (.string p1.s),.ro (ac.els p1.items)]),(3,vR [pi p2.kind,pi p2.n,pi p2.scale,.s (.string p2.s),.ro (ac.els p2.items)]),(5,vb r2),(6,vb r3),(35,vb x1)] []:=fun{x1} h=>k h (uC (pX 15 (dp (rQ _ _) fun r4=>(dp (rQ _ _) fun r5=>(dp (rO _ _) fun r6=>(dp (ua k0 _ _) fun r7=>(dp (qh _) fun r8=>(uR .ret (xN xF)))))))) (uC (uR .ret (xN xF)) (uC (uR .ret (xN xF)) (uJ J2))));(uC (uJ J1) (uJ J1)))))) (uJ J2))))))
theorem ua:∀(k0:Nat) (p1 p2:aa),CT prog 180 [mV p1,mV p2] (gU k0 p1 p2) vi
  |0,_,_=>AK (gU.eq_1 ..)
  |k0+1,p1,p2=>hJ 22 [] f180 fun r=>(uU (gU.eq_2 ..) (pX 14 (dp (mq _ _) fun r1=>(dp (rA _ _) fun r2=>(dp (dK k0 _ _) fun r3=>(dp (qh _) fun r4=>uz))))))
end
def jJ(x1:Bool):OB:=some x1
def mt(p1 p2:aa):OB:=aK (gB aO p1 p2) fun r1=>aF (r1==0) (aK (nB p2) fun r2=>jJ r2) (jJ false)
theorem vA(p1 p2:aa):CT prog 139 [mV p1,mV p2] (mt p1 p2) vb:=
  hJ 13 [] f139 fun r=>(gr f139 6 1 fun K k=>have J1:∀{x1},jJ x1=some r→K.p [(4,vb x1)] []:=fun{x1} h=>k h uz;(dp (qJ aO _ _) fun r1=>(uC (dp (s6 _) fun r2=>(uJ J1)) (uJ J1))))
def bU:OB:=some true
def ap(p1 p2:List aa):Nat→Int→OB
 |0,_=>none
 |k1+1,x1=>aF (decide (x1<(p1.length:Int))) (aK (at? p1 x1) fun e1=>aK (at? p2 x1) fun e2=>aK (mt e1 e2) fun r1=>aF (!r1) (some false) ((ap p1 p2 k1) (i64.wrap (x1+1)))) (bU)
def aH(p1 p2:List aa):OB:=aF ((p1.length:Int) != (p2.length:Int)) (some false) (ap p1 p2 aO 0)
theorem dM(p1 p2:List aa):CT prog 142 [vl ac p1,vl ac p2,.one (.pv (.fn 139 []))] (aH p1 p2) vb:=
  hJ 32 [8,9] f142 fun r=>(uN ac p1 (uN ac p2 (uC uz (sM f142 14 1 bU [] [] uz fun K J1=>(uN ac p1 (mC f142 58 1 fun R b=>have L1:∀k1 {x1},ap p1 p2 k1 x1=some r→(R k1).p [(1,vl ac p2),(2,.one (.pv (.fn 139 []))),(15,vl ac p1),(16,vi p1.length),(17,vi x1)] []:=uI (lK rfl) fun k1 i1 {x1} h=>b h (uU (ap.eq_2 ..) (uC (jO ac fun e1=>(jO ac fun e2=>(dp (vA _ _) fun r1=>(uC wj (uJ i1))))) (uR (.exit 0) (xM (uJ J1)))));uE (L1 aO)))))))
def ik(x1:Bool):OB:=some x1
def kj(p1 p2:ae):OB:=aK (dQ p1.reps p2.reps) fun r1=>aF r1 (aK (dQ p1.defs p2.defs) fun r2=>aF r2 (aK (aH p1.values p2.values) fun r3=>ik r3) (ik false)) (ik false)
theorem yG(p1 p2:ae):CT prog 82 [.ag [cl eI p1.reps,cl eI p1.defs,cl ac p1.values],.ag [cl eI p2.reps,cl eI p2.defs,cl ac p2.values]] (kj p1 p2) vb:=
  hJ 26 [] f82 fun r=>(gr f82 14 1 fun K k=>have J1:∀{x1},ik x1=some r→K.p [(4,vb x1)] []:=fun{x1} h=>k h uz;(dp (lW _ _) fun r1=>(uC (dp (lW _ _) fun r2=>(uC (dp (dM _ _) fun r3=>(uJ J1)) (uJ J1))) (uJ J1))))
def de(p1:List (List aa)):Option (List (List aa)):=eh (0≤(0:Int)∧(0:Int)≤(p1.length:Int)∧(p1.length:Int)≤(p1.length:Int)∧(p1.length:Int)≤(p1.length:Int))<|some ((p1.drop (0:Int).toNat).take ((p1.length:Int).toNat-(0:Int).toNat))
theorem km(p1:List (List aa)):CT prog 83 [vl (eL ac) p1] (de p1) (fun r=>vl (eL ac) r):=
  hJ 9 [] f83 fun r=>(uN (eL ac) p1 (uN (eL ac) p1 (N6 (eL ac) uz)))
end Go.Proofs.YtnecojeemmnnaaaGreatDoor
namespace Go.Proofs.YtnecojeemmnnaaaGreatDoor
open Go Go.SX
open Go.IntKind (i64)
set_option maxRecDepth 100000
set_option maxHeartbeats 4000000
def ww(rep:Int):List aJ→List (List aJ)→Option (Option (List (List aJ)))
 |[],xs=>some (some xs)
 |p::ps,xs=>aK (iY p rep) fun l=>bif l.length==xs.length then ww rep ps (List.zipWith (fun x y=>x++[y]) xs l)else some none
def xx(ps:List aJ)(rep:Int):Option (Option (List (List aJ))):=
 eh (ps.length+1≤4294967296)<|
 match ps with
 |[]=>none
 |p::ps=>aK (iY p rep) fun l=>eh (l.length≤4294967296)<|ww rep ps (l.map fun y=>[y])
def qf(ps:List aJ)(rep:Int):Option Bool:=aK (xx ps rep) fun o=>some o.isSome
def kb(ps:List aJ)(rep:Int):Option (List (List aJ)):=aK (xx ps rep) fun o=>o
namespace Ls
noncomputable abbrev P:=Tryz.prog
noncomputable abbrev C(p:List Nat):Code:=cd Tryz.f85 ([1,1,1,1,0]++p)
noncomputable abbrev B(p:List Nat):Code:=C ([1,0,0]++p)
noncomputable abbrev M(p:List Nat):Code:=B ([1,1,0,0]++p)
noncomputable abbrev L(p:List Nat):Code:=M ([1,1,1,1,1,0,0]++p)
theorem eB:B []= .seq (B [0]) (.seq (B [1,0]) (.seq (.block 3 (M [])) (B [1,1,1]))):=by kernel_rfl
theorem eM:M []= .seq (M [0]) (.seq (M [1,0]) (.seq (M [1,1,0]) (.seq (M [1,1,1,0]) (.seq (M [1,1,1,1,0]) (.block 4 (.loop (L []))))))):=by kernel_rfl
theorem qL:L []= .seq (L [0]) (.seq (L [1,0]) (.seq (.block 5 (.seq (L [1,1,0,0,0]) (L [1,1,0,0,1]))) (L [1,1,1]))):=by kernel_rfl
abbrev fp(p1:af):AV:= .one (.pv (.rp [[pi p1.id,.s (.string p1.name),.s (.bool p1.need),pi p1.type.kind,pi p1.type.scale,.ro (ab.els p1.type.fields)]] 0 0))
abbrev Bs(p1:af)(p2 p4 p5:Int)(l:Fr):Fr:=(0,.one (.pt 0 0 0 0))::(2,vi p2)::(4,vi p4)::(5,vi p5)::(7,fp p1)::(12,.one (.pt 2 0 0 0))::(13,.one (.pt 3 0 0 0))::l
abbrev v0:List CV:=[ci (0:Int),ci (0:Int),ci (0:Int),lL ByteArray.empty,.pv (.s (.slice none 0 0))]
abbrev v6:List CV:=[ci (6:Int),ci (0:Int),ci (0:Int),lL ByteArray.empty,.pv (.s (.slice none 0 0))]
abbrev S0(p6:List ae)(p7:Bool)(p8:List Int):St:=[.box [cl ah p6,.sl 1 1 0 p8.length,cb p7],.arr 1 (eI.els p8),.box v0,.box v6]
abbrev S1(p6:List ae)(p7:Bool)(p8:List Int)(V:List Value):St:=[.box [cl ah p6,.sl 1 1 0 p8.length,cb p7],.arr 1 (eI.els p8),.box v0,.box v6,.arr 1 (cW.els V)]
abbrev sN:AV:= .one (.pv (.s (.slice none 0 0)))
abbrev sI(m:Nat):AV:= .one (.sl 4 1 0 m)
abbrev F(p1:af)(p2 p4 p5:Int)(ps:List aJ)(it:AV)(k:Int):Fr:=Bs p1 p2 p4 p5 [(16,it),(62,vl ak ps),(63,vi (ps.length:Int)),(64,vi k)]
abbrev F'(p1:af)(p2 p4 p5:Int)(ps:List aJ)(it:AV)(k:Int)(b:Bool):Fr:=Bs p1 p2 p4 p5 [(16,it),(62,vl ak ps),(63,vi (ps.length:Int)),(64,vi k),(65,vb b)]
abbrev G(p1:af)(p2 p4 p5:Int)(ps:List aJ)(m:Nat)(k:Int)(l:List aJ)(i:Int):Fr:=Bs p1 p2 p4 p5 [(16,sI m),(19,vl ak l),(62,vl ak ps),(63,vi (ps.length:Int)),(64,vi k),(88,vi (l.length:Int)),(89,vi i)]
abbrev G'(p1:af)(p2 p4 p5:Int)(ps:List aJ)(m:Nat)(k:Int)(l:List aJ)(i:Int)(b:Bool):Fr:=Bs p1 p2 p4 p5 [(16,sI m),(19,vl ak l),(62,vl ak ps),(63,vi (ps.length:Int)),(64,vi k),(88,vi (l.length:Int)),(89,vi i),(90,vb b)]
section
variable (p1:af) (p2 p4 p5:Int) (ps:List aJ) (p6:List ae) (p7:Bool) (p8:List Int) (V:List Value)
theorem a1:XW P 155 2 [] (C [0]) (pU 155 2 .normal (F p1 p2 p4 p5 ps sN 0) (S0 p6 p7 p8)) ((0,.one (.pt 0 0 0 0))::(2,vi p2)::(3,vl ak ps)::(4,vi p4)::(5,vi p5)::(7,fp p1)::(12,.one (.pt 2 0 0 0))::(13,.one (.pt 3 0 0 0))::[(16,sN)]) (S0 p6 p7 p8):=Ax (an:=[12,13,15,23]) (uN ak ps GR)
theorem PB(k:Int):XW P 155 2 [] (B [0]) (pU 155 2 .normal (F' p1 p2 p4 p5 ps sN k (decide (k<(ps.length:Int)))) (S0 p6 p7 p8)) (F p1 p2 p4 p5 ps sN k) (S0 p6 p7 p8):=Ax (an:=[12,13,15,23]) GR
theorem b0(m:Nat)(k:Int):XW P 155 2 [] (B [0]) (pU 155 2 .normal (F' p1 p2 p4 p5 ps (sI m) k (decide (k<(ps.length:Int)))) (S1 p6 p7 p8 V)) (F p1 p2 p4 p5 ps (sI m) k) (S1 p6 p7 p8 V):=Ax (an:=[12,13,15,23]) GR
theorem PG(k:Int):XW P 155 2 [] (B [1,0]) (pU 155 2 .normal (F p1 p2 p4 p5 ps sN k) (S0 p6 p7 p8)) (F' p1 p2 p4 p5 ps sN k true) (S0 p6 p7 p8):=Ax (an:=[12,13,15,23]) (uT GR)
theorem b1(m:Nat)(k:Int):XW P 155 2 [] (B [1,0]) (pU 155 2 .normal (F p1 p2 p4 p5 ps (sI m) k) (S1 p6 p7 p8 V)) (F' p1 p2 p4 p5 ps (sI m) k true) (S1 p6 p7 p8 V):=Ax (an:=[12,13,15,23]) (uT GR)
theorem Px(m:Nat)(k:Int):XW P 155 2 [] (B [1,0]) (pU 155 2 (.exit 2) (F p1 p2 p4 p5 ps (sI m) k) (S1 p6 p7 p8 V)) (F' p1 p2 p4 p5 ps (sI m) k false) (S1 p6 p7 p8 V):=KW (an:=[12,13,15,23]) (uF (uR (.exit 2) Ow))
theorem b3(m:Nat)(k:Int)(l:List aJ)(i:Int):XW P 155 2 [] (B [1,1,1]) (pU 155 2 .normal (F p1 p2 p4 p5 ps (sI m) (i64.wrap (k+1))) (S1 p6 p7 p8 V)) (G p1 p2 p4 p5 ps m k l i) (S1 p6 p7 p8 V):=Ax (an:=[12,13,15,23]) GR
theorem l0(m:Nat)(k:Int)(l:List aJ)(i:Int):XW P 155 2 [] (L [0]) (pU 155 2 .normal (G' p1 p2 p4 p5 ps m k l i (decide (i<(l.length:Int)))) (S1 p6 p7 p8 V)) (G p1 p2 p4 p5 ps m k l i) (S1 p6 p7 p8 V):=Ax (an:=[12,13,15,23]) GR
theorem l1(m:Nat)(k:Int)(l:List aJ)(i:Int):XW P 155 2 [] (L [1,0]) (pU 155 2 .normal (G p1 p2 p4 p5 ps m k l i) (S1 p6 p7 p8 V)) (G' p1 p2 p4 p5 ps m k l i true) (S1 p6 p7 p8 V):=Ax (an:=[12,13,15,23]) (uT GR)
theorem Pz(m:Nat)(k:Int)(l:List aJ)(i:Int):XW P 155 2 [] (L [1,0]) (pU 155 2 (.exit 4) (G p1 p2 p4 p5 ps m k l i) (S1 p6 p7 p8 V)) (G' p1 p2 p4 p5 ps m k l i false) (S1 p6 p7 p8 V):=KW (an:=[12,13,15,23]) (uF (uR (.exit 4) Ow))
theorem l3(m:Nat)(k:Int)(l:List aJ)(i:Int):XW P 155 2 [] (L [1,1,1]) (pU 155 2 .normal (G p1 p2 p4 p5 ps m k l (i64.wrap (i+1))) (S1 p6 p7 p8 V)) (G p1 p2 p4 p5 ps m k l i) (S1 p6 p7 p8 V):=Ax (an:=[12,13,15,23]) GR
theorem mA(k:Int)(p:aJ)(l:List aJ)(hp:at? ps k=some p)(hl:iY p (i64.wrap (p5+1))=some l)(hk:k=0)(hn:l.length≤4294967296):
  Sq P 155 2 [M [0],M [1,0],M [1,1,0],M [1,1,1,0],M [1,1,1,1,0]] (F p1 p2 p4 p5 ps sN k) (S0 p6 p7 p8) (G p1 p2 p4 p5 ps l.length k l 0) (S1 p6 p7 p8 (List.replicate l.length (.slice none 0 0))):=by
 refine Mr (an:=[18,77,103]) ?_
 subst hk
 refine uM ak hp ?_
 refine uU (T:=aK (iY p (i64.wrap (p5+1))) fun _=>some ()) (by rw[hl];rfl) (uP (qd p _) fun v hv=> ?_)
 obtain rfl:v=l:=Option.some.inj (hv.symm.trans hl)
 refine uH (B:=(0:Int)==0) (b:=true) rfl ?_
 refine uN ak v ?_
 refine OC v.length v.length ?_ (by omega)
 refine uN ak v ?_
 refine uH (B:=(v.length:Int) != (v.length:Int)) (b:=false) (by simp) ?_
 refine uN ak v ?_
 refine zy (.sw 4 5) ?_
 exact GR
theorem mB(k:Int)(p:aJ)(l:List aJ)(m:Nat)(hp:at? ps k=some p)(hl:iY p (i64.wrap (p5+1))=some l)(hk:(k==0)=false)(hn:l.length=m):
  Sq P 155 2 [M [0],M [1,0],M [1,1,0],M [1,1,1,0],M [1,1,1,1,0]] (F p1 p2 p4 p5 ps (sI m) k) (S1 p6 p7 p8 V) (G p1 p2 p4 p5 ps m k l 0) (S1 p6 p7 p8 V):=by
 refine Mr (an:=[18,77,103]) ?_
 refine uM ak hp ?_
 refine uU (T:=aK (iY p (i64.wrap (p5+1))) fun _=>some ()) (by rw[hl];rfl) (uP (qd p _) fun v hv=> ?_)
 obtain rfl:v=l:=Option.some.inj (hv.symm.trans hl)
 refine uH (B:=k==0) (b:=false) hk ?_
 refine uN ak v ?_
 refine uH (B:=(v.length:Int) != (m:Int)) (b:=false) (by simp[hn]) ?_
 refine uN ak v ?_
 exact GR
theorem mX(k:Int)(p:aJ)(l:List aJ)(m:Nat)(hp:at? ps k=some p)(hl:iY p (i64.wrap (p5+1))=some l)(hk:(k==0)=false)(hn:l.length≠m)(c:Code):
  XK P 155 2 [] (pU 155 2 .ret [(12,.one (.pt 2 0 0 0))] [.box [cl ah p6,.sl 1 1 0 p8.length,cb true],.arr 1 (eI.els p8),.box v6,.box v6]) ⟨[.c (M [0]),.c (M [1,0]),.c (M [1,1,0]),.c (M [1,1,1,0]),.c c],F p1 p2 p4 p5 ps (sI m) k,S1 p6 p7 p8 V,[]⟩:=by
 refine GG.go (T:=some ()) (r:=()) (an:=[18,77,103]) ?_ rfl
 refine uM ak hp ?_
 refine uU (T:=aK (iY p (i64.wrap (p5+1))) fun _=>some ()) (by rw[hl];rfl) (uP (qd p _) fun v hv=> ?_)
 obtain rfl:v=l:=Option.some.inj (hv.symm.trans hl)
 refine uH (B:=k==0) (b:=false) hk ?_
 refine uN ak v ?_
 refine uH (B:=(v.length:Int) != (m:Int)) (b:=true) (by simp;omega) ?_
 exact uR .ret Ow
end
section
variable (p1:af) (p2 p4 p5:Int) (ps:List aJ) (p6:List ae) (p7:Bool) (p8:List Int)
abbrev S2(p6:List ae)(p7:Bool)(p8:List Int)(i:Nat)(pre post:List PV)(xs:List aJ):St:=[.box [cl ah p6,.sl 1 1 0 p8.length,cb p7],.arr 1 (eI.els p8),.box v0,.box v6,.win 1 i pre [.sl 5 2 0 xs.length] post,.arr 2 (ak.els xs)]
theorem lR(m:Nat)(k:Int)(l:List aJ)(i:Int)(n:Nat)(hi:i=(n:Int))(hm:n<m)(hl:l.length=m)(hm2:(m:Int)≤4294967296)(pre post:List PV)(hpre:pre.length=n)(xs:List aJ)(y:aJ)(hy:at? l i=some y)(hx:xs.length+1≤4294967296):
  Sq P 155 2 [L [1,1,0,0,0],L [1,1,0,0,1]] (G p1 p2 p4 p5 ps m k l i) (S2 p6 p7 p8 n pre post xs) (G p1 p2 p4 p5 ps m k l i) (S2 p6 p7 p8 n pre post (xs++[y])):=by
 refine Mr (an:=[18,77,103]) ?_
 refine B9 14 1 [6,7] ?_
 refine uD (p:=0≤i∧i<(m:Int)) (by omega) ?_
 refine uD (p:=0+i.toNat=n) (by omega) ?_
 refine uM ak hy ?_
 refine uU (T:=eh (xs.length+1≤4294967296) (some ())) (by rw[eh,if_pos hx]) ?_
 refine HU ak 5 [y] ?_
 refine uD (p:=0≤i∧i<(m:Int)) (by omega) ?_
 refine Hz [4,6] 4 (.win 1 n pre [.sl 6 2 0 (xs++[y]).length] post) (p:=0+i.toNat=n) (by omega) ?_
 refine zy (.sw 5 6) ?_
 exact GR
theorem Lq{i N:Nat}(h:i<N)(hN:N≤4294967296):i64.wrap ((i:Int)+1)=((i+1:Nat):Int):=by
 simp only[IntKind.wrap,IntKind.bits,IntKind.signed]
 simp only[Bool.true_and,decide_eq_true_eq,ge_iff_le]
 split<;>omega
theorem Jp{α:Type}(l:List α)(x:α)(m:List α):at? (l++x::m) (l.length:Int)=some x:=by
 simp[at?]
theorem II{ι0:IM}{w0:World}{st0:St}(k:Int)(l:List aJ){m:Nat}(hl:l.length=m)(hm:m≤4294967296):
  ∀(rest:List (List aJ)) (lrest ldone:List aJ) (done:List (List aJ)) (V:List Value) (β:Nat→Option Nat) (a:Act) (w:World),l=ldone++lrest→ldone.length=done.length→lrest.length=rest.length→(∀x∈rest,x.length+1≤4294967296)→
   At 155 (mz 2 2 ι0 w0 st0 ((done++rest).map ak.els) V β) (G p1 p2 p4 p5 ps m k l (done.length:Int)) (S1 p6 p7 p8 V) a w→
   rnd P (L []) (fun e a' w'=>e= .exit 4∧∃V' β',At 155 (mz 2 2 ι0 w0 st0 ((done++List.zipWith (fun x y=>x++[y]) rest lrest).map ak.els) V' β') (G p1 p2 p4 p5 ps m k l (m:Int)) (S1 p6 p7 p8 V') a' w') (rest.length+1) a w
 |[],lrest,ldone,done,V,β,a,w,h1,h2,h3,h4,hA=>by
  have e0:lrest=[]:=List.eq_nil_of_length_eq_zero h3
  subst e0
  have hd:done.length=m:=by rw[←h2,←hl,h1];simp
  unfold rnd
  refine nu qL ?_
  refine Go.wp_seq (Go.wp_mono (hA.seg mz.stab (l0 p1 p2 p4 p5 ps p6 p7 p8 V m k l _)) ?_)
  rintro e a w ⟨rfl,hA⟩
  rw[show decide ((done.length:Int)<(l.length:Int))=false from decide_eq_false (by omega)]at hA
  refine Go.wp_seq (Go.wp_mono (hA.seg mz.stab (Pz p1 p2 p4 p5 ps p6 p7 p8 V m k l _)) ?_)
  rintro e a w ⟨rfl,hA⟩
  rw[hd]at hA
  exact⟨rfl,V,β,by simpa using hA⟩
 |x::rest,lrest,ldone,done,V,β,a,w,h1,h2,h3,h4,hA=>by
  obtain⟨y,lrest,rfl⟩:∃y l,lrest=y::l:=by cases lrest with
   |nil=>simp at h3
   |cons y l=>exact⟨y,l,rfl⟩
  have hlt:done.length<m:=by rw[←h2,←hl,h1];simp
  unfold rnd
  refine nu qL ?_
  refine Go.wp_seq (Go.wp_mono (hA.seg mz.stab (l0 p1 p2 p4 p5 ps p6 p7 p8 V m k l _)) ?_)
  rintro e a w ⟨rfl,hA⟩
  rw[show decide ((done.length:Int)<(l.length:Int))=true from decide_eq_true (by omega)]at hA
  refine Go.wp_seq (Go.wp_mono (hA.seg mz.stab (l1 p1 p2 p4 p5 ps p6 p7 p8 V m k l _)) ?_)
  rintro e a w ⟨rfl,hA⟩
  have hx:((done++x::rest).map ak.els)[done.length]? =some (ak.els x):=by simp
  obtain⟨β1,hβ,hA⟩:=mz.opn (S:=S0 p6 p7 p8) hA hx
  have hy:at? l (done.length:Int)=some y:=by rw[h1,←h2];exact Jp _ _ _
  have hpre:(cW.els (V.take done.length)).flatten.length=done.length:=by
   have hVl:=hA.choose_spec.2.2.len
   simp only[List.length_set,List.length_map,List.length_append,List.length_cons]at hVl
   rw[ul (sz:=1) yc,xS,List.length_take];omega
  have hS:=lR p1 p2 p4 p5 ps p6 p7 p8 m k l (done.length:Int) done.length rfl hlt hl (by omega) _ (cW.els (V.drop (done.length+1))).flatten hpre x y hy (h4 x (by simp))
  rw[ak.len]at hA
  show(Code.seq (.block 5 (.seq (L [1,1,0,0,0]) (L [1,1,0,0,1]))) (L [1,1,1])).wp _ _ _ _
  refine Go.wp_seq (Go.wp_block (Go.wp_seq (Go.wp_mono (hS.nx mz.stab hA) ?_)))
  rintro e a w ⟨rfl,fr',st',hA,hS⟩
  refine Go.wp_mono (hS.nx mz.stab hA) ?_
  rintro e a w ⟨rfl,fr',st',hA,hS⟩
  have hA:=hA.sub mz.stab hS
  obtain⟨V',β',hA⟩:=mz.clo (S:=S0 p6 p7 p8) (els':=ak.els (x++[y])) (xss:=(done++x::rest).map ak.els) (by rw[ak.len];exact hA) (by simp) hβ (fun V=>sd (by kernel_rfl))
  show(L [1,1,1]).wp _ _ _ _
  refine Go.wp_mono (hA.seg mz.stab (l3 p1 p2 p4 p5 ps p6 p7 p8 V' m k l _)) ?_
  rintro e a w ⟨rfl,hA⟩
  show rnd _ _ _ _ _ _
  rw[Lq hlt hm]at hA
  have:=II k l hl hm rest lrest (ldone++[y]) (done++[x++[y]]) V' β' a w (by rw[h1];simp) (by simp[h2]) (by simpa using h3) (fun z hz=>h4 z (by simp[hz])) (by simpa using hA)
  simpa using this
theorem Lh{ι0:IM}{w0:World}{st0:St}(hps:ps.length+1≤4294967296){m:Nat}(hm:m≤4294967296):
  ∀(rest pd:List aJ) (xss:List (List aJ)) (o:Option (List (List aJ))) (V:List Value) (β:Nat→Option Nat) (a:Act) (w:World),ps=pd++rest→pd≠[]→xss.length=m→(∀x∈xss,x.length=pd.length)→ww (i64.wrap (p5+1)) rest xss=some o→
   At 155 (mz 2 2 ι0 w0 st0 (xss.map ak.els) V β) (F p1 p2 p4 p5 ps (sI m) (pd.length:Int)) (S1 p6 p7 p8 V) a w→
   rnd P (B []) (fun e a' w'=>(∃r V' β',o=some r∧r.length=m∧e= .exit 2∧At 155 (mz 2 2 ι0 w0 st0 (r.map ak.els) V' β') (F p1 p2 p4 p5 ps (sI m) (ps.length:Int)) (S1 p6 p7 p8 V') a' w')∨
    (∃xss' V' β',o=none∧e= .ret∧At 155 (mz 2 2 ι0 w0 st0 xss' V' β') [(12,.one (.pt 2 0 0 0))] [.box [cl ah p6,.sl 1 1 0 p8.length,cb true],.arr 1 (eI.els p8),.box v6,.box v6] a' w')) (rest.length+1) a w
 |[],pd,xss,o,V,β,a,w,h1,h2,h3,h4,ho,hA=>by
  rw[List.append_nil]at h1
  subst h1
  simp only[ww,cA]at ho
  subst ho
  unfold rnd
  refine nu eB ?_
  refine Go.wp_seq (Go.wp_mono (hA.seg mz.stab (b0 p1 p2 p4 p5 ps p6 p7 p8 V m _)) ?_)
  rintro e a w ⟨rfl,hA⟩
  rw[show decide ((ps.length:Int)<(ps.length:Int))=false by simp]at hA
  refine Go.wp_seq (Go.wp_mono (hA.seg mz.stab (Px p1 p2 p4 p5 ps p6 p7 p8 V m _)) ?_)
  rintro e a w ⟨rfl,hA⟩
  exact .inl ⟨xss,V,β,rfl,h3,rfl,hA⟩
 |p::rest,pd,xss,o,V,β,a,w,h1,h2,h3,h4,ho,hA=>by
  have hlen:ps.length=pd.length+(rest.length+1):=by rw[h1];simp
  have hp:at? ps (pd.length:Int)=some p:=by rw[h1];exact Jp _ _ _
  have hk:((pd.length:Int)==0)=false:=by
   have:pd.length≠0:=fun e=>h2 (List.eq_nil_of_length_eq_zero e)
   simp;exact h2
  rw[ww]at ho
  obtain⟨l,hl,ho⟩:=jV ho
  unfold rnd
  refine nu eB ?_
  refine Go.wp_seq (Go.wp_mono (hA.seg mz.stab (b0 p1 p2 p4 p5 ps p6 p7 p8 V m _)) ?_)
  rintro e a w ⟨rfl,hA⟩
  rw[show decide ((pd.length:Int)<(ps.length:Int))=true from decide_eq_true (by omega)]at hA
  refine Go.wp_seq (Go.wp_mono (hA.seg mz.stab (b1 p1 p2 p4 p5 ps p6 p7 p8 V m _)) ?_)
  rintro e a w ⟨rfl,hA⟩
  show(Code.seq (.block 3 (M [])) (B [1,1,1])).wp _ _ _ _
  by_cases hlm:l.length=m
  ·rw[show(l.length==xss.length)=true by simp[hlm,h3],cond_true]at ho
   refine Go.wp_seq (Go.wp_block (nu eM ?_))
   have hS:=mB p1 p2 p4 p5 ps p6 p7 p8 V (pd.length:Int) p l m hp hl hk hlm
   refine Go.wp_seq (Go.wp_mono (hS.nx mz.stab hA) ?_)
   rintro e a w ⟨rfl,fr',st',hA,hS⟩
   refine Go.wp_seq (Go.wp_mono (hS.nx mz.stab hA) ?_)
   rintro e a w ⟨rfl,fr',st',hA,hS⟩
   refine Go.wp_seq (Go.wp_mono (hS.nx mz.stab hA) ?_)
   rintro e a w ⟨rfl,fr',st',hA,hS⟩
   refine Go.wp_seq (Go.wp_mono (hS.nx mz.stab hA) ?_)
   rintro e a w ⟨rfl,fr',st',hA,hS⟩
   refine Go.wp_seq (Go.wp_mono (hS.nx mz.stab hA) ?_)
   rintro e a w ⟨rfl,fr',st',hA,hS⟩
   have hA:=hA.sub mz.stab hS
   have hin:=II p1 p2 p4 p5 ps p6 p7 p8 (ι0:=ι0) (w0:=w0) (st0:=st0) (pd.length:Int) l hlm hm xss l [] [] V β a w rfl rfl (by omega) (fun x hx=>by rw[h4 x hx];omega) hA
   refine Go.wp_block (yz _ (qP ?_ hin))
   rintro e a w ⟨rfl,V',β',hA⟩
   show(B [1,1,1]).wp _ _ _ _
   refine Go.wp_mono (hA.seg mz.stab (b3 p1 p2 p4 p5 ps p6 p7 p8 V' m _ l _)) ?_
   rintro e a w ⟨rfl,hA⟩
   show rnd _ _ _ _ _ _
   rw[Lq (N:=ps.length) (by omega) (by omega)]at hA
   have hz:∀x∈List.zipWith (fun x y=>x++[y]) xss l,x.length=(pd++[p]).length:=by
    intro x hx
    obtain⟨i,hi,rfl⟩:=List.mem_iff_getElem.1 hx
    rw[List.getElem_zipWith]
    have:=h4 (xss[i]'(by simp at hi;omega)) (kf _)
    simp[this]
   have:=Lh hps hm rest (pd++[p]) (List.zipWith (fun x y=>x++[y]) xss l) o V' β' a w (by rw[h1];simp) (by simp) (by simp;omega) hz ho (by simpa using hA)
   simpa using this
  ·rw[show(l.length==xss.length)=false by simp[h3,hlm],cond_false]at ho
   obtain rfl:=Option.some.inj ho
   have hX:=mX p1 p2 p4 p5 ps p6 p7 p8 V (pd.length:Int) p l m hp hl hk hlm (M [1,1,1,1,0])
   have eM':M []=Mm [M [0],M [1,0],M [1,1,0],M [1,1,1,0],M [1,1,1,1,0]] (.block 4 (.loop (L []))):=eM
   refine Go.wp_seq (Go.wp_block (nu eM' (Go.wp_mono (KL mz.stab [M [0],M [1,0],M [1,1,0],M [1,1,1,0],M [1,1,1,1,0]] _ _ _ _ hX hA) ?_)))
   rintro e a w ⟨rfl,hA⟩
   exact .inr ⟨_,V,β,rfl,rfl,hA⟩
abbrev SB(p6:List ae)(p8:List Int):St:=[.box [cl ah p6,.sl 1 1 0 p8.length,cb true],.arr 1 (eI.els p8),.box v6,.box v6]
theorem Nr{o:Option (List (List aJ))}(h:xx ps (i64.wrap (p5+1))=some o):
  XW P 155 2 [] (.loop (B [])) (fun e f s=>(∃r,o=some r∧e= .exit 2∧f=Bs p1 p2 p4 p5 [(16,vl (eL ak) r)]∧s=S0 p6 p7 p8)∨(o=none∧e= .ret∧f=[(12,.one (.pt 2 0 0 0))]∧s=SB p6 p8))
   (F p1 p2 p4 p5 ps sN 0) (S0 p6 p7 p8):=by
 obtain⟨hps,h⟩:=iq h
 cases ps with
 |nil=>cases h
 |cons p ps'=>
  obtain⟨l,hl,h⟩:=jV h
  obtain⟨hm,h⟩:=iq h
  intro ι w a hR hF
  have hst:Ch 2 (fun ι' w' st'=>bo (tA 2 []) ι w (S0 p6 p7 p8) ι' w' st'):=bo.stab
  have hA:At 155 (fun ι' w' st'=>bo (tA 2 []) ι w (S0 p6 p7 p8) ι' w' st') _ _ a w:=⟨ι,hR,hF,.refl⟩
  refine yz (ps'.length+1+1) ?_
  unfold rnd
  refine nu eB ?_
  refine Go.wp_seq (Go.wp_mono (hA.seg hst (PB p1 p2 p4 p5 (p::ps') p6 p7 p8 _)) ?_)
  rintro e a w2 ⟨rfl,hA⟩
  rw[show decide ((0:Int)<((p::ps').length:Int))=true from decide_eq_true (by simp)]at hA
  refine Go.wp_seq (Go.wp_mono (hA.seg hst (PG p1 p2 p4 p5 (p::ps') p6 p7 p8 _)) ?_)
  rintro e a w3 ⟨rfl,hA⟩
  show(Code.seq (.block 3 (M [])) (B [1,1,1])).wp _ _ _ _
  refine Go.wp_seq (Go.wp_block (nu eM ?_))
  have hS:=mA p1 p2 p4 p5 (p::ps') p6 p7 p8 0 p l rfl hl rfl hm
  refine Go.wp_seq (Go.wp_mono (hS.nx hst hA) ?_)
  rintro e a w4 ⟨rfl,fr',st',hA,hS⟩
  refine Go.wp_seq (Go.wp_mono (hS.nx hst hA) ?_)
  rintro e a w5 ⟨rfl,fr',st',hA,hS⟩
  refine Go.wp_seq (Go.wp_mono (hS.nx hst hA) ?_)
  rintro e a w6 ⟨rfl,fr',st',hA,hS⟩
  refine Go.wp_seq (Go.wp_mono (hS.nx hst hA) ?_)
  rintro e a w7 ⟨rfl,fr',st',hA,hS⟩
  refine Go.wp_seq (Go.wp_mono (hS.nx hst hA) ?_)
  rintro e a w8 ⟨rfl,fr',st',hA,hS⟩
  obtain⟨ι1,hR1,hF1,k1⟩:=hA.sub hst hS
  have hA:At 155 (mz 2 2 ι1 w8 (S1 p6 p7 p8 (List.replicate l.length (.slice none 0 0))) ((List.replicate l.length ([]:List aJ)).map ak.els) (List.replicate l.length (.slice none 0 0)) (fun _=>none)) (G p1 p2 p4 p5 (p::ps') l.length 0 l 0) (S1 p6 p7 p8 (List.replicate l.length (.slice none 0 0))) a w8:=
   ⟨ι1,hR1,hF1,by rw[List.map_replicate];exact mz.zero l.length⟩
  have hin:=II p1 p2 p4 p5 (p::ps') p6 p7 p8 0 l rfl hm (List.replicate l.length []) l [] [] _ _ a w8 rfl rfl (by simp) (fun x hx=>by rw[(List.mem_replicate.1 hx).2];simp) hA
  refine Go.wp_block (yz _ (qP ?_ hin))
  rintro e a w9 ⟨rfl,V1,β1,hA⟩
  show(B [1,1,1]).wp _ _ _ _
  refine Go.wp_mono (hA.seg mz.stab (b3 p1 p2 p4 p5 (p::ps') p6 p7 p8 V1 l.length 0 l _)) ?_
  rintro e a w10 ⟨rfl,hA⟩
  show rnd _ _ _ _ _ _
  have hz:List.zipWith (fun x y=>x++[y]) (List.replicate l.length ([]:List aJ)) l=l.map fun y=>[y]:=by
   apply List.ext_getElem
   ·simp
   ·intro i h1 h2;simp
  rw[List.nil_append,hz]at hA
  have hout:=Lh p1 p2 p4 p5 (p::ps') p6 p7 p8 hps (m:=l.length) hm ps' [p] (l.map fun y=>[y]) o V1 β1 a w10 rfl (by simp) (by simp) (fun x hx=>by
   obtain⟨y,_,rfl⟩:=List.mem_map.1 hx
   rfl) h hA
  refine qP ?_ hout
  rintro e a w11 (⟨r,V',β',rfl,hr,rfl,hA⟩ |⟨xss',V',β',rfl,rfl,hA⟩)
  ·obtain⟨ι2,hR2,hF2,k2⟩:=mz.fin (S:=S0 p6 p7 p8) (d:=16) hA (by rw[List.length_map,hr];rfl)
   obtain⟨ι3,hR3,hF3,k3⟩:=(sd (n:=155) (n0:=2) (lz:=[]) (fr0:=Bs p1 p2 p4 p5 [(16,vl (eL ak) r)]) (st0:=S0 p6 p7 p8) (by
    rw[show((r.map ak.els).map fun els=>[PV.ro els])=(eL ak).els r by rw[(eL ak).hels,List.map_map];rfl]
    kernel_rfl)) ι2 w11 a hR2 hF2
   exact⟨ι3,_,_,.inl ⟨r,rfl,rfl,rfl,rfl⟩,hR3,hF3,k1.trans (k2.trans k3)⟩
  ·obtain⟨ι2,hR2,hF2,k2⟩:=mz.drop hA
   exact⟨ι2,_,_,.inr ⟨rfl,rfl,rfl,rfl⟩,hR2,hF2,k1.trans k2⟩
theorem uCut{β:Type}{r:β}{an:List Nat}{Q:QT}{X:List (List aJ)→Option β}{Y:Option β}{s:SS}(k1:∀r2,GG P 155 2 [] an r Q (X r2) ⟨(run P 155 an s).ks.drop 2,Bs p1 p2 p4 p5 [(16,vl (eL ak) r2)],S0 p6 p7 p8,[]⟩)(k2:RE P 155 2 [] an r .ret Q Y ⟨[],[(12,.one (.pt 2 0 0 0))],SB p6 p8,[]⟩)
  (hk:(run P 155 an s).ks= .c (.loop (B [])):: .b 2::(run P 155 an s).ks.drop 2:=by kernel_rfl)(hj:MW 2 (F p1 p2 p4 p5 ps sN 0) (S0 p6 p7 p8) (run P 155 an s).fr (run P 155 an s).st=some (F p1 p2 p4 p5 ps sN 0,S0 p6 p7 p8):=by kernel_rfl):
  GG P 155 2 [] an r Q (aK (qf ps (i64.wrap (p5+1))) fun r1=>aF r1 (aK (kb ps (i64.wrap (p5+1))) X) Y) s:=by
 refine⟨fun h=>bH (an:=an) ?_⟩
 obtain⟨r1,c1,h⟩:=jV h
 obtain⟨o,c2,c1⟩:=jV c1
 obtain rfl:=Option.some.inj c1
 generalize run P 155 an s=s' at*
 obtain⟨ks,fr,st,kn⟩:=s'
 simp only at hk hj k1
 generalize ks.drop 2=kk at*
 subst hk
 show XW P 155 2 [] (.loop (B [])) (QK P 155 2 [] (.b 2::kk) Q) fr st
 refine XW.sub (sd hj) (XW.mono (Nr p1 p2 p4 p5 ps p6 p7 p8 c2) ?_)
 rintro e f s (⟨r2,rfl,rfl,rfl,rfl⟩ |⟨rfl,rfl,rfl,rfl⟩)
 ·have e:kb ps (i64.wrap (p5+1))=some r2:=by unfold kb;rw[c2];rfl
  have h:aK (kb ps (i64.wrap (p5+1))) X=some r:=h
  rw[e]at h
  exact k1 r2 h
 ·exact qr (k2 h)
end
end Ls
end Go.Proofs.YtnecojeemmnnaaaGreatDoor
