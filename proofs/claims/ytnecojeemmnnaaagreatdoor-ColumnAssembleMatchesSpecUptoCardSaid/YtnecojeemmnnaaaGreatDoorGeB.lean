/- Printed by a program: what the functions compute, and the proofs of their contracts. Printed by a program: what the functions compute, and the proofs of their contracts. -/
import Derived.Test.YtnecojeemmnnaaaGreatDoorGeA
set_option linter.unusedVariables false
set_option linter.unusedSimpArgs false
set_option linter.unnecessarySimpa false
namespace Go.Proofs.YtnecojeemmnnaaaGreatDoor
open Go.SX Go Tryz
open Go.IntKind (i64)
set_option maxRecDepth 100000
set_option maxHeartbeats 8000000
def gY(rec1:List Int→List Int→List (List aa)→List ae→Bool→Option ((List (List aa))×Bool))(l3:List (List aa))(l7 l8:List Int)(l9:List aa)(z5:List ae)(z6:Bool):Option ((List (List aa))×Bool):=aK (bL l9) fun r3=>eh (l3.length+1≤4294967296)<|rec1 l7 l8 (l3++[r3]) z5 z6
def bV(rec1:List Int→List Int→List (List aa)→List ae→Bool→Option ((List (List aa))×Bool))(p1:List af)(l3:List (List aa)):Nat→List Int→List Int→List aa→List ae→Bool→Int→Int→Option ((List (List aa))×Bool)
 |0,_,_,_,_,_,_,_=>none
 |k2+1,l4,l5,l6,z3,z4,x2,x3=>aF (decide (x3<(p1.length:Int))) (aK (at? p1 x3) fun e3=>aK (aE aO e3 x2 0 0 z3 z4 l4 l5) fun r1=>eh (r1.2.2.2.1.length=l4.length)<|eh (r1.2.2.2.2.length=l5.length)<|eh (l6.length+1≤4294967296)<|aK (dW aO e3.type) fun r2=>(bV rec1 p1 l3 k2) r1.2.2.2.1 r1.2.2.2.2 (l6++[r1.1]) r1.2.1 r1.2.2.1 (i64.wrap (x2+r2)) (i64.wrap (x3+1))) (gY rec1 l3 l4 l5 l6 z3 z4)
def gQ(l12:List (List aa)):Option ((List (List aa))×Bool):=aK (de l12) fun r8=>some (r8,true)
def cB(p2:List ae)(l12:List (List aa))(r5:List bk):Nat→Int→Option ((List (List aa))×Bool)
 |0,_=>none
 |k3+1,x5=>aF (decide (x5<(r5.length:Int))) (aK (at? r5 x5) fun e4=>aK (nX e4 l12) fun r6=>aK (at? p2 x5) fun e5=>aK (kj r6 e5) fun r7=>aF (!r7) (some ([],false)) ((cB p2 l12 r5 k3) (i64.wrap (x5+1)))) (gQ l12)
def eJ(p1:List af)(p2:List ae)(l12:List (List aa))(x4:Bool):Option ((List (List aa))×Bool):=aF x4 (some ([],false)) (aK (jl p1) fun r5=>cB p2 l12 r5 aO 0)
def eK(p1:List af)(p2:List ae)(l10 l11:List Int)(l12:List (List aa))(z7:List ae)(z8:Bool):Option ((List (List aa))×Bool):=aF z8 (eJ p1 p2 l12 true) (aK (iU p1 l12) fun r4=>eJ p1 p2 l12 (r4 != 0))
def dS(rec1:List Int→List Int→List (List aa)→List ae→Bool→Option ((List (List aa))×Bool))(p1:List af)(p2:List ae)(l1 l2:List Int)(l3:List (List aa))(z1:List ae)(z2 x1:Bool):Option ((List (List aa))×Bool):=aF x1 (bV rec1 p1 l3 aO l1 l2 [] z1 z2 0 0) (eK p1 p2 l1 l2 l3 z1 z2)
def aU(p1:List af)(p2:List ae):Nat→List Int→List Int→List (List aa)→List ae→Bool→Option ((List (List aa))×Bool)
 |0,_,_,_,_,_=>none
 |k1+1,l1,l2,l3,z1,z2=>aF (!z2) (aK (at? l1 0) fun e1=>aK (at? p2 0) fun e2=>dS (aU p1 p2 k1) p1 p2 l1 l2 l3 z1 z2 (decide (e1<(e2.reps.length:Int)))) (dS (aU p1 p2 k1) p1 p2 l1 l2 l3 z1 z2 false)
def gg(p1:List af)(p2:List ae):Option ((List (List aa))×Bool):=eh (0≤(p2.length:Int)∧(p2.length:Int)≤(p2.length:Int)∧(p2.length:Int)≤4294967296)<|eh (0≤(p2.length:Int)∧(p2.length:Int)≤(p2.length:Int)∧(p2.length:Int)≤4294967296)<|aU p1 p2 aO (List.replicate (p2.length:Int).toNat (0:Int)) (List.replicate (p2.length:Int).toNat (0:Int)) [] p2 false
abbrev pg:St:=[.dead,.dead,.dead,.dead]
abbrev vX(e5:ae):List CV:=[cl eI e5.reps,cl eI e5.defs,cl ac e5.values]
abbrev AJ(e4:bk):List CV:=[cl eI e4.leaf.path,ci e4.leaf.type.kind,ci e4.leaf.type.scale,cl ab e4.leaf.type.fields,ci e4.leaf.df,ci e4.leaf.rep,cl ab e4.fields,cl eI e4.pos]
abbrev DW(p2:(List ae))(l12:List (List aa))(r5:(List bk))(x5:Int):Fr:=[(1,vl ah p2),(7,vl (eL ac) l12),(77,vl cm r5),(78,vi (r5.length:Int)),(79,vi (i64.wrap (x5+1)))]
abbrev EB(l10 l11:List Int)(l12:List (List aa))(z7:List ae)(z8:Bool):St:=[.arr 1 (eI.els l10),.arr 1 (eI.els l11),.box [cl ah z7,.sl 0 1 0 l10.length,.sl 1 1 0 l11.length,cb z8],.arr 1 ((eL ac).els l12)]
theorem ub(p1:(List af))(p2:(List ae))(r:((List (List aa))×Bool))(h:gg p1 p2=some r):PC prog 32 [vl ab p1,vl ah p2] (.tp [vl (eL ac) r.1,vb r.2]):=by
 unfold gg at h
 refine zF 96 f32 (zq fun K1 hK1=>zr (zv [11,13,22] 2 [0,1] [] [(0,vl ab p1),(1,vl ah p2)] [] (zd (hK1 _ _ (zq fun K2 hK2=> ?_)))))
 obtain⟨g4,h⟩:=zG h
 obtain⟨g6,h⟩:=zG h
 refine XW.sub (bW.dead 2) (XW.drwG 7 [0,1,2] [([],[]),([],[]),([],[]),([0,1000],[0,1000]),([],[]),([],[]),([1,1001],[1,1001])] [(20,.one (.sl 1 1 0 ((p2.length:Int).toNat))),(19,vi p2.length),(18,vl ah p2),(17,.one (.sl 0 1 0 ((p2.length:Int).toNat))),(16,vi p2.length),(15,vl ah p2),(14,vl ah p2),(0,vl ab p1),(1,vl ah p2)] [.arr 1 (eI.els (List.replicate (p2.length:Int).toNat (0:Int))),.arr 1 (eI.els (List.replicate (p2.length:Int).toNat (0:Int)))] (by kernel_rfl) (by kernel_rfl) ?_ ?_)
 ·refine xz 3 [] [(16,vi ((ah.els p2).length:Int)),(15,vl ah p2),(14,vl ah p2),(0,vl ab p1),(1,vl ah p2)] ?_
  rw[ah.len p2]
  refine GY.new false 0 [] [(17,.one (.sl 0 1 0 ((p2.length:Int).toNat))),(16,vi p2.length),(15,vl ah p2),(14,vl ah p2),(0,vl ab p1),(1,vl ah p2)] [0] [.arr 1 (List.replicate (p2.length:Int).toNat [pi (0:Int)]),.dead] [0≤(p2.length:Int),(p2.length:Int)≤(p2.length:Int),(p2.length:Int)≤4294967296] (by kernel_rfl) (by kernel_rfl) (⟨g4.1,g4.2.1,g4.2.2,trivial⟩) (by kernel_rfl) ?_
  rw[show List.replicate (p2.length:Int).toNat [pi (0:Int)]=eI.els (List.replicate (p2.length:Int).toNat (0:Int))from eI.rep _ (0:Int)]
  refine xz 2 [] [(19,vi ((ah.els p2).length:Int)),(18,vl ah p2),(17,.one (.sl 0 1 0 ((p2.length:Int).toNat))),(16,vi p2.length),(15,vl ah p2),(14,vl ah p2),(0,vl ab p1),(1,vl ah p2)] ?_
  rw[ah.len p2]
  refine GY.new false 1 [] [(20,.one (.sl 1 1 0 ((p2.length:Int).toNat))),(19,vi p2.length),(18,vl ah p2),(17,.one (.sl 0 1 0 ((p2.length:Int).toNat))),(16,vi p2.length),(15,vl ah p2),(14,vl ah p2),(0,vl ab p1),(1,vl ah p2)] [1] [.arr 1 (eI.els (List.replicate (p2.length:Int).toNat (0:Int))),.arr 1 (List.replicate (p2.length:Int).toNat [pi (0:Int)])] [0≤(p2.length:Int),(p2.length:Int)≤(p2.length:Int),(p2.length:Int)≤4294967296] (by kernel_rfl) (by kernel_rfl) (⟨g6.1,g6.2.1,g6.2.2,trivial⟩) (by kernel_rfl) ?_
  rw[show List.replicate (p2.length:Int).toNat [pi (0:Int)]=eI.els (List.replicate (p2.length:Int).toNat (0:Int))from eI.rep _ (0:Int)]
  exact GY.done (by kernel_rfl) (by kernel_rfl)
 refine zv [11,13,22] 3 [0,1,6] [] [(0,vl ab p1),(1,vl ah p2),(6,vQ 2)] [.arr 1 (eI.els (List.replicate (p2.length:Int).toNat (0:Int))),.arr 1 (eI.els (List.replicate (p2.length:Int).toNat (0:Int))),.box [cl ah p2,.sl 0 1 0 ((p2.length:Int).toNat),.sl 1 1 0 ((p2.length:Int).toNat),cb false]] ?_
 refine XO.sub (bW.eq (fr':=[(0,vl ab p1),(1,vl ah p2),(6,vQ 2)]) (st':=[.arr 1 (eI.els (List.replicate (p2.length:Int).toNat (0:Int))),.arr 1 (eI.els (List.replicate (p2.length:Int).toNat (0:Int))),.box [cl ah p2,.sl 0 1 0 ((List.replicate (p2.length:Int).toNat (0:Int)).length),.sl 1 1 0 ((p2.length:Int).toNat),cb false]]) rfl (show([.arr 1 (eI.els (List.replicate (p2.length:Int).toNat (0:Int))),.arr 1 (eI.els (List.replicate (p2.length:Int).toNat (0:Int))),.box [cl ah p2,.sl 0 1 0 ((p2.length:Int).toNat),.sl 1 1 0 ((p2.length:Int).toNat),cb false]]:St)=[.arr 1 (eI.els (List.replicate (p2.length:Int).toNat (0:Int))),.arr 1 (eI.els (List.replicate (p2.length:Int).toNat (0:Int))),.box [cl ah p2,.sl 0 1 0 ((List.replicate (p2.length:Int).toNat (0:Int)).length),.sl 1 1 0 ((p2.length:Int).toNat),cb false]]from by simp only[List.length_replicate])) ?_
 refine XO.sub (bW.eq (fr':=[(0,vl ab p1),(1,vl ah p2),(6,vQ 2)]) (st':=[.arr 1 (eI.els (List.replicate (p2.length:Int).toNat (0:Int))),.arr 1 (eI.els (List.replicate (p2.length:Int).toNat (0:Int))),.box [cl ah p2,.sl 0 1 0 ((List.replicate (p2.length:Int).toNat (0:Int)).length),.sl 1 1 0 ((List.replicate (p2.length:Int).toNat (0:Int)).length),cb false]]) rfl (show([.arr 1 (eI.els (List.replicate (p2.length:Int).toNat (0:Int))),.arr 1 (eI.els (List.replicate (p2.length:Int).toNat (0:Int))),.box [cl ah p2,.sl 0 1 0 ((List.replicate (p2.length:Int).toNat (0:Int)).length),.sl 1 1 0 ((p2.length:Int).toNat),cb false]]:St)=[.arr 1 (eI.els (List.replicate (p2.length:Int).toNat (0:Int))),.arr 1 (eI.els (List.replicate (p2.length:Int).toNat (0:Int))),.box [cl ah p2,.sl 0 1 0 ((List.replicate (p2.length:Int).toNat (0:Int)).length),.sl 1 1 0 ((List.replicate (p2.length:Int).toNat (0:Int)).length),cb false]]from by simp only[List.length_replicate])) ?_
 refine zd (hK2 _ _ (zq fun K7 hK7=>zr (zg [11,13,22] 1 [0,1,6,7] (zd (hK7 _ _ (zq fun K8 hK8=> ?_))))))
 have hJ3:∀(l10 l11:List Int) (l12:List (List aa)) (z7:List ae) (z8:Bool),eK p1 p2 l10 l11 l12 z7 z8=some r→∀fr1 st1,bW 96 0 [] fr1 st1 [(0,vl ab p1),(1,vl ah p2),(6,vQ 2),(7,.one (.sl 3 1 0 l12.length))] (EB l10 l11 l12 z7 z8)→K8 fr1 st1:=by
  intro l10 l11 l12 z7 z8 h fr1 st1 hS
  unfold eK at h
  refine hK8 _ _ (XW.sub hS ?_)
  refine zq fun K33 hK33=>zq fun K34 hK34=> ?_
  have hJ4:∀(x4:Bool),eJ p1 p2 l12 x4=some r→∀fr1 st1,bW 96 0 [] fr1 st1 [(0,vl ab p1),(1,vl ah p2),(7,vl (eL ac) l12),(75,vb x4)] pg→K34 fr1 st1:=by
   intro x4 h fr1 st1 hS
   unfold eJ at h
   refine hK34 _ _ (XW.sub hS ?_)
   refine zC h (fun b37 h=> ?_) (fun b37 h=> ?_)
   ·refine zq fun K38 hK38=>zr (zg [11,13,22] 2 [4,5] (zd (hK38 _ _ (ze ?_))))
    obtain rfl:=Option.some.inj h
    exact zf [.one (.pv (.s (.slice none 0 0))),vb false] (.tpc (.one (.nl)) (.tpc (.one (.rfl _ rfl)) (.tp0)))
   ·refine zs (hK33 _ _ (zq fun K39 hK39=> ?_))
    have hJ5:∀(_:Unit),gQ l12=some r→∀fr1 st1,bW 96 0 [] fr1 st1 [(7,vl (eL ac) l12)] pg→K39 fr1 st1:=by
     intro _ h fr1 st1 hS
     unfold gQ at h
     refine hK39 _ _ (XW.sub hS ?_)
     refine zq fun K54 hK54=> ?_
     obtain⟨r8,c55,h⟩:=zB h
     refine zr (zg [11,13,22] 1 [94] (za (km _ _ c55) (zv [11,13,22] 2 [4,5] [] [(4,vl (eL ac) r8),(5,vb true)] pg (zd (hK54 _ _ (ze ?_))))))
     obtain rfl:=Option.some.inj h
     exact zf [vl (eL ac) r8,vb true] (.tpc (.one (.rfl _ rfl)) (.tpc (.one (.rfl _ rfl)) (.tp0)))
    refine zq fun K40 hK40=> ?_
    obtain⟨r5,c41,h⟩:=zB h
    refine zr (zg [11,13,22] 1 [1,7,76] (zl 31 [vl ab p1] (vl cm r5) [(77,vl cm r5),(1,vl ah p2),(7,vl (eL ac) l12),(76,vl ab p1)] (oh _ _ c41) (zv [11,13,22] 1 [1,7,77,78] [] [(1,vl ah p2),(7,vl (eL ac) l12),(77,vl cm r5),(78,vi ((cm.els r5).length:Int))] [.dead,.dead,.dead,.dead] ?_)))
    rw[cm.len r5]
    refine zg [11,13,22] 1 [1,7,77,78,79] (zd (hK40 _ _ (zb 4 (XW.rounds' aO (x:=cd f32 [1,1,1,1,1,0,1,0,0]) (by kernel_rfl) fun Q3 hQ3=> ?_))))
    have hL3:∀(k3:Nat) (x5:Int),cB p2 l12 r5 k3 x5=some r→XR prog 96 0 [] (cd f32 [1,1,1,1,1,0,1,0,0]) Q3 k3 [(1,vl ah p2),(7,vl (eL ac) l12),(77,vl cm r5),(78,vi r5.length),(79,vi x5)] pg:=by
     intro k3
     induction k3 with
     |zero=>intro x5 h;rw[cB.eq_1]at h;cases h
     |succ k3 ih3=>
      intro x5 h
      rw[cB.eq_2]at h
      refine zq fun K42 hK42=>zr (zg [11,13,22] 1 [1,7,77,78,79,80] (zd (hK42 _ _ (zq fun K43 hK43=>zC h (fun b44 h=> ?_) (fun b44 h=> ?_)))))
      ·refine zs (hK43 _ _ (zq fun K45 hK45=>zb 5 (zq fun K46 hK46=> ?_)))
       obtain⟨e4,a47,h⟩:=zB h
       refine zr (zo [11,13,22] 6 [1,7,12,13,77,78,79] [(dt e4)] [0≤x5∧x5<((cm.els r5).length:Int)∧aT 8 (cm.els r5),(cm.els r5)[x5.toNat]? =some (dt e4)] (⟨cm.inb a47,(cm.get a47),trivial⟩) (zd ?_))
       refine hK46 _ _ (zq fun K48 hK48=> ?_)
       obtain⟨r6,c49,h⟩:=zB h
       obtain⟨e5,a50,h⟩:=zB h
       obtain⟨r7,c51,h⟩:=zB h
       refine zw 7 [(90,.ag (vX e5)),(89,.one (.pv (.rp (ah.els p2) x5.toNat 0))),(88,vi x5),(87,vl ah p2),(86,.ag (vX r6)),(85,vl (eL ac) l12),(84,.ag (AJ e4)),(1,vl ah p2),(7,vl (eL ac) l12),(12,vi x5),(13,vQ 4),(77,vl cm r5),(78,vi r5.length),(79,vi x5)] ?_ ?_
       ·refine OR 2 [] [(85,vl (eL ac) l12),(84,.ag (AJ e4)),(1,vl ah p2),(7,vl (eL ac) l12),(12,vi x5),(13,vQ 4),(77,vl cm r5),(78,vi r5.length),(79,vi x5)] (PI (ri _ _ _ c49) ?_)
        exact Oh 4 [[.ro (eI.els e5.reps),.ro (eI.els e5.defs),.ro (ac.els e5.values)]] [0≤x5∧x5<((ah.els p2).length:Int)∧aT 3 (ah.els p2),(ah.els p2)[x5.toNat]? =some [.ro (eI.els e5.reps),.ro (eI.els e5.defs),.ro (ac.els e5.values)]] (⟨ah.inb a50,(ah.get a50),trivial⟩) Km
       refine zl 82 [.ag (vX r6),.ag (vX e5)] (vb r7) [(91,vb r7),(90,.ag (vX e5)),(89,.one (.pv (.rp (ah.els p2) x5.toNat 0))),(88,vi x5),(87,vl ah p2),(86,.ag (vX r6)),(85,vl (eL ac) l12),(84,.ag (AJ e4)),(1,vl ah p2),(7,vl (eL ac) l12),(12,vi x5),(13,vQ 4),(77,vl cm r5),(78,vi r5.length),(79,vi x5)] (yG _ _ _ c51) ?_
       refine zg [11,13,22] 1 [1,7,77,78,79,92] (zd (hK48 _ _ (zC h (fun b52 h=> ?_) (fun b52 h=> ?_))))
       ·refine zq fun K53 hK53=>zr (zg [11,13,22] 2 [4,5] (zd (hK53 _ _ (ze (hQ3 _ _ _ ?_)))))
        obtain rfl:=Option.some.inj h
        exact zf [.one (.pv (.s (.slice none 0 0))),vb false] (.tpc (.one (.nl)) (.tpc (.one (.rfl _ rfl)) (.tp0)))
       ·refine zs (hK45 _ _ (zr (zv [11,13,22] 2 [1,7,77,78,79] [] (DW p2 l12 r5 x5) [.dead,.dead,.dead,.dead,.box (AJ e4)] (zd ?_))))
        exact XR.sub (bW.trans (bW.pick (fr':=(DW p2 l12 r5 x5)) [1,7,77,78,79] (by kernel_rfl)) (bW.take (fr':=(DW p2 l12 r5 x5)) 4 (Nat.zero_le _) (by kernel_rfl) (by kernel_rfl))) (ih3 (i64.wrap (x5+1)) h)
      ·exact zx 4 (hQ3 _ _ _ (hJ5 () h _ _ (zk [7])))
    exact XR.sub (zk [1,7,77,78,79]) (hL3 aO (0:Int) h)
  rcases zW h with⟨b35,h⟩ |⟨b35,h⟩
  ·refine zr (zg [11,13,22] 5 [0,1,7,70] (zt 70 b35 (zv [11,13,22] 5 [0,1,7,75] [] [(0,vl ab p1),(1,vl ah p2),(7,.one (.sl 3 1 0 l12.length)),(75,vb true)] (EB l10 l11 l12 z7 z8) (zd ?_))))
   exact hJ4 true h _ _ (bW.trans (bW.kill (fr':=[(0,vl ab p1),(1,vl ah p2),(7,vl (eL ac) l12),(75,vb true)]) 3 (Nat.zero_le _) (by kernel_rfl) ⟨.one (.rfl _ rfl),.one (.rfl _ rfl),.one (kT (eL ac) l12 rfl rfl rfl),.one (.rfl _ rfl),trivial⟩) (bW.trans (bW.pick (fr':=[(0,vl ab p1),(1,vl ah p2),(7,vl (eL ac) l12),(75,vb true)]) [0,1,7,75] (by kernel_rfl)) (bW.only (fr':=[(0,vl ab p1),(1,vl ah p2),(7,vl (eL ac) l12),(75,vb true)]) (st':=pg) [] 4 (by kernel_rfl) (by kernel_rfl) (by kernel_rfl) (by kernel_rfl))))
  ·obtain⟨r4,c36,h⟩:=zB h
   refine zr (zg [11,13,22] 5 [0,1,7,70] (zt 70 b35 (zv [11,13,22] 2 [0,1,7,70,71,72] [] [(0,vl ab p1),(1,vl ah p2),(7,.one (.sl 3 1 0 l12.length)),(70,vb false),(71,vl ab p1),(72,.one (.sl 3 1 0 l12.length))] (EB l10 l11 l12 z7 z8) ?_)))
   refine XO.sub (bW.kill (fr':=[(0,vl ab p1),(1,vl ah p2),(7,vl (eL ac) l12),(70,vb false),(71,vl ab p1),(72,vl (eL ac) l12)]) 3 (Nat.zero_le _) (by kernel_rfl) ⟨.one (.rfl _ rfl),.one (.rfl _ rfl),.one (kT (eL ac) l12 rfl rfl rfl),.one (.rfl _ rfl),.one (.rfl _ rfl),.one (kT (eL ac) l12 rfl rfl rfl),trivial⟩) (za (oL _ _ _ c36) (zg [11,13,22] 2 [0,1,7,75] (zd ?_)))
   exact hJ4 (r4 != 0) h _ _ (bW.trans (bW.pick (fr':=[(0,vl ab p1),(1,vl ah p2),(7,vl (eL ac) l12),(75,vb (r4 != 0))]) [0,1,7,75] (by kernel_rfl)) (bW.only (fr':=[(0,vl ab p1),(1,vl ah p2),(7,vl (eL ac) l12),(75,vb (r4 != 0))]) (st':=pg) [] 4 (by kernel_rfl) (by kernel_rfl) (by kernel_rfl) (by kernel_rfl)))
 refine zb 0 (XW.sub (bW.list (t:=7) (sz:=1) rfl) (XW.rounds' aO (x:=cd f32 [1,1,1,0,0,0]) (by kernel_rfl) fun Q1 hQ1=> ?_))
 have hL1:∀(k1:Nat) (l1 l2:List Int) (l3:List (List aa)) (z1:List ae) (z2:Bool),aU p1 p2 k1 l1 l2 l3 z1 z2=some r→XR prog 96 0 [] (cd f32 [1,1,1,0,0,0]) Q1 k1 [(0,vl ab p1),(1,vl ah p2),(6,vQ 2),(7,.one (.sl 3 1 0 l3.length))] [.arr 1 (eI.els l1),.arr 1 (eI.els l2),.box [cl ah z1,.sl 0 1 0 l1.length,.sl 1 1 0 l2.length,cb z2],.arr 1 ((eL ac).els l3)]:=by
  intro k1
  induction k1 with
  |zero=>intro l1 l2 l3 z1 z2 h;rw[aU.eq_1]at h;cases h
  |succ k1 ih1=>
   intro l1 l2 l3 z1 z2 h
   rw[aU.eq_2]at h
   refine zq fun K9 hK9=>zq fun K10 hK10=> ?_
   have hJ1:∀(x1:Bool),dS (aU p1 p2 k1) p1 p2 l1 l2 l3 z1 z2 x1=some r→∀fr1 st1,bW 96 0 [] fr1 st1 [(0,vl ab p1),(1,vl ah p2),(6,vQ 2),(7,.one (.sl 3 1 0 l3.length)),(41,vb x1)] [.arr 1 (eI.els l1),.arr 1 (eI.els l2),.box [cl ah z1,.sl 0 1 0 l1.length,.sl 1 1 0 l2.length,cb z2],.arr 1 ((eL ac).els l3)]→K10 fr1 st1:=by
    intro x1 h fr1 st1 hS
    unfold dS at h
    refine hK10 _ _ (XW.sub hS ?_)
    refine zC h (fun b14 h=> ?_) (fun b14 h=> ?_)
    ·refine zs (hK9 _ _ (zb 1 (zq fun K15 hK15=>zr (zg [11,13,22] 1 [0,1,6,7,8] (zd (hK15 _ _ ?_))))))
     refine zq fun K16 hK16=>zr (zg [11,13,22] 1 [0,1,6,7,8,9] (zd (hK16 _ _ (zq fun K17 hK17=> ?_))))
     have hJ2:∀(l7 l8:List Int) (l9:List aa) (z5:List ae) (z6:Bool),gY (aU p1 p2 k1) l3 l7 l8 l9 z5 z6=some r→∀fr1 st1,bW 96 0 [] fr1 st1 [(0,vl ab p1),(1,vl ah p2),(6,vQ 2),(7,.one (.sl 3 1 0 l3.length)),(8,.one (.sl 4 5 0 l9.length))] [.arr 1 (eI.els l7),.arr 1 (eI.els l8),.box [cl ah z5,.sl 0 1 0 l7.length,.sl 1 1 0 l8.length,cb z6],.arr 1 ((eL ac).els l3),.arr 5 (ac.els l9)]→K17 fr1 st1:=by
      intro l7 l8 l9 z5 z6 h fr1 st1 hS
      unfold gY at h
      refine hK17 _ _ (XW.sub hS ?_)
      obtain⟨r3,c31,h⟩:=zB h
      obtain⟨g32,h⟩:=zG h
      refine zr (zv [11,13,22] 2 [0,1,6,61,62] [] [(0,vl ab p1),(1,vl ah p2),(6,vQ 2),(61,.one (.sl 3 1 0 l3.length)),(62,.one (.sl 4 5 0 l9.length))] [.arr 1 (eI.els l7),.arr 1 (eI.els l8),.box [cl ah z5,.sl 0 1 0 l7.length,.sl 1 1 0 l8.length,cb z6],.arr 1 ((eL ac).els l3),.arr 5 (ac.els l9)] ?_)
      refine XO.sub (bW.kill (fr':=[(0,vl ab p1),(1,vl ah p2),(6,vQ 2),(61,.one (.sl 3 1 0 l3.length)),(62,vl ac l9)]) 4 (Nat.zero_le _) (by kernel_rfl) ⟨.one (.rfl _ rfl),.one (.rfl _ rfl),.one (.rfl _ rfl),.one (.rfl _ rfl),.one (kT ac l9 rfl rfl rfl),trivial⟩) (za (dw _ _ c31) ?_)
      refine zp [11,13,22] 2 [0,1,6,65] [] [(0,vl ab p1),(1,vl ah p2),(6,vQ 2),(65,.one (.sl 3 1 0 (l3.length+((eL ac).els [r3]).length)))] [.arr 1 (eI.els l7),.arr 1 (eI.els l8),.box [cl ah z5,.sl 0 1 0 l7.length,.sl 1 1 0 l8.length,cb z6],.arr 1 ((eL ac).els l3++(eL ac).els [r3]),.dead] [aT 1 ((eL ac).els [r3]),l3.length=((eL ac).els l3).length,l3.length+((eL ac).els [r3]).length≤4294967296] (⟨(eL ac).ok _,((eL ac).len l3).symm,g32,trivial⟩) ?_
      rw[show l3.length+((eL ac).els [r3]).length=(l3++[r3]).length from(eL ac).lapp _ _]
      rw[show(eL ac).els l3++(eL ac).els [r3]=(eL ac).els (l3++[r3])from(eL ac).app2 _ _]
      exact zg [11,13,22] 1 [0,1,6,7] (zd (XR.sub (bW.trans (bW.pick (fr':=[(0,vl ab p1),(1,vl ah p2),(6,vQ 2),(7,.one (.sl 3 1 0 ((l3++[r3]).length)))]) [0,1,6,7] (by kernel_rfl)) (bW.take (fr':=[(0,vl ab p1),(1,vl ah p2),(6,vQ 2),(7,.one (.sl 3 1 0 ((l3++[r3]).length)))]) 4 (Nat.zero_le _) (by kernel_rfl) (by kernel_rfl))) (ih1 l7 l8 (l3++[r3]) z5 z6 h)))
     refine zq fun K18 hK18=>zr (zv [11,13,22] 2 [0,1,6,7,8,9,42,43] [] [(0,vl ab p1),(1,vl ah p2),(6,vQ 2),(7,.one (.sl 3 1 0 l3.length)),(8,.one (.pv (.s (.slice none 0 0)))),(9,vi (0:Int)),(42,vl ab p1),(43,vi ((ab.els p1).length:Int))] [.arr 1 (eI.els l1),.arr 1 (eI.els l2),.box [cl ah z1,.sl 0 1 0 l1.length,.sl 1 1 0 l2.length,cb z2],.arr 1 ((eL ac).els l3)] ?_)
     rw[ab.len p1]
     refine zv [11,13,22] 1 [0,1,6,7,8,9,42,43,44] [] [(0,vl ab p1),(1,vl ah p2),(6,vQ 2),(7,.one (.sl 3 1 0 l3.length)),(8,.one (.pv (.s (.slice none 0 0)))),(9,vi (0:Int)),(42,vl ab p1),(43,vi p1.length),(44,vi (0:Int))] [.arr 1 (eI.els l1),.arr 1 (eI.els l2),.box [cl ah z1,.sl 0 1 0 l1.length,.sl 1 1 0 l2.length,cb z2],.arr 1 ((eL ac).els l3)] (zd (hK18 _ _ (zb 2 (XW.sub (bW.list (t:=8) (sz:=5) rfl) (XW.rounds' aO (x:=cd f32 [1,1,1,0,0,0,1,0,1,1,0,1,0,0]) (by kernel_rfl) fun Q2 hQ2=> ?_)))))
     have hL2:∀(k2:Nat) (l4 l5:List Int) (l6:List aa) (z3:List ae) (z4:Bool) (x2 x3:Int),bV (aU p1 p2 k1) p1 l3 k2 l4 l5 l6 z3 z4 x2 x3=some r→XR prog 96 0 [] (cd f32 [1,1,1,0,0,0,1,0,1,1,0,1,0,0]) Q2 k2 [(0,vl ab p1),(1,vl ah p2),(6,vQ 2),(7,.one (.sl 3 1 0 l3.length)),(8,.one (.sl 4 5 0 l6.length)),(9,vi x2),(42,vl ab p1),(43,vi p1.length),(44,vi x3)] [.arr 1 (eI.els l4),.arr 1 (eI.els l5),.box [cl ah z3,.sl 0 1 0 l4.length,.sl 1 1 0 l5.length,cb z4],.arr 1 ((eL ac).els l3),.arr 5 (ac.els l6)]:=by
      intro k2
      induction k2 with
      |zero=>intro l4 l5 l6 z3 z4 x2 x3 h;rw[bV.eq_1]at h;cases h
      |succ k2 ih2=>
       intro l4 l5 l6 z3 z4 x2 x3 h
       rw[bV.eq_2]at h
       refine zq fun K19 hK19=>zr (zg [11,13,22] 1 [0,1,6,7,8,9,42,43,44,45] (zd (hK19 _ _ (zq fun K20 hK20=>zC h (fun b21 h=> ?_) (fun b21 h=> ?_)))))
       ·refine zs (hK20 _ _ (zq fun K22 hK22=>zb 3 (zq fun K23 hK23=> ?_)))
        obtain⟨e3,a24,h⟩:=zB h
        refine zr (zo [11,13,22] 4 [0,1,6,7,8,9,11,42,43,44] [(jN e3)] [0≤x3∧x3<((ab.els p1).length:Int)∧aT 6 (ab.els p1),(ab.els p1)[x3.toNat]? =some (jN e3)] (⟨ab.inb a24,((ab.get a24).trans (by rcases e3 with⟨_,_,_,⟨_,_,_⟩⟩;rfl)),trivial⟩) (zd (hK23 _ _ (zq fun K25 hK25=> ?_))))
        obtain⟨r1,c26,h⟩:=zB h
        obtain⟨g27,h⟩:=zG h
        obtain⟨g28,h⟩:=zG h
        obtain⟨g29,h⟩:=zG h
        refine zr ?_
        refine zv [11,13,22] 4 [0,1,6,7,9,11,42,43,44,48,49,50,51] [] [(0,vl ab p1),(1,vl ah p2),(6,vQ 2),(7,.one (.sl 3 1 0 l3.length)),(9,vi x2),(11,vQ 5),(42,vl ab p1),(43,vi p1.length),(44,vi x3),(48,.one (.sl 4 5 0 l6.length)),(49,vQ 2),(50,.ag (cq e3)),(51,vi x2)] [.arr 1 (eI.els l4),.arr 1 (eI.els l5),.box [cl ah z3,.sl 0 1 0 l4.length,.sl 1 1 0 l5.length,cb z4],.arr 1 ((eL ac).els l3),.arr 5 (ac.els l6),.box (cq e3)] ?_
        refine XO.calm 80 [vQ 0,.ag (cq e3),vi x2,vi (0:Int),vi (0:Int)] [.box [cl ah z3,.sl 1 1 0 l4.length,.sl 2 1 0 l5.length,cb z4],.arr 1 (eI.els l4),.arr 1 (eI.els l5)] [.box [cl ah r1.2.1,.sl 1 1 0 l4.length,.sl 2 1 0 l5.length,cb r1.2.2.1],.arr 1 (eI.els r1.2.2.2.1),.arr 1 (eI.els r1.2.2.2.2)] (mV r1.1) [2,0,1] [(52,mV r1.1),(0,vl ab p1),(1,vl ah p2),(6,vQ 2),(7,.one (.sl 3 1 0 l3.length)),(9,vi x2),(11,vQ 5),(42,vl ab p1),(43,vi p1.length),(44,vi x3),(48,.one (.sl 4 5 0 l6.length)),(49,vQ 2),(50,.ag (cq e3)),(51,vi x2)] [.arr 1 (eI.els r1.2.2.2.1),.arr 1 (eI.els r1.2.2.2.2),.box [cl ah r1.2.1,.sl 0 1 0 l4.length,.sl 1 1 0 l5.length,cb r1.2.2.1],.arr 1 ((eL ac).els l3),.arr 5 (ac.els l6),.box (cq e3)] (by kernel_rfl) (iw aO _ _ _ _ _ _ _ _ _ c26) (by kernel_rfl) (by kernel_rfl) (by kernel_rfl) (by kernel_rfl) ?_
        refine XO.sub (bW.eq (fr':=[(52,mV r1.1),(0,vl ab p1),(1,vl ah p2),(6,vQ 2),(7,.one (.sl 3 1 0 l3.length)),(9,vi x2),(11,vQ 5),(42,vl ab p1),(43,vi p1.length),(44,vi x3),(48,.one (.sl 4 5 0 l6.length)),(49,vQ 2),(50,mf e3),(51,vi x2)]) (st':=[.arr 1 (eI.els r1.2.2.2.1),.arr 1 (eI.els r1.2.2.2.2),.box [cl ah r1.2.1,.sl 0 1 0 r1.2.2.2.1.length,.sl 1 1 0 l5.length,cb r1.2.2.1],.arr 1 ((eL ac).els l3),.arr 5 (ac.els l6),.box [ci e3.id,lL e3.name,cb e3.need,ci e3.type.kind,ci e3.type.scale,cl ab e3.type.fields]]) rfl (by rw[g27])) ?_
        refine XO.sub (bW.eq (fr':=[(52,mV r1.1),(0,vl ab p1),(1,vl ah p2),(6,vQ 2),(7,.one (.sl 3 1 0 l3.length)),(9,vi x2),(11,vQ 5),(42,vl ab p1),(43,vi p1.length),(44,vi x3),(48,.one (.sl 4 5 0 l6.length)),(49,vQ 2),(50,mf e3),(51,vi x2)]) (st':=[.arr 1 (eI.els r1.2.2.2.1),.arr 1 (eI.els r1.2.2.2.2),.box [cl ah r1.2.1,.sl 0 1 0 r1.2.2.2.1.length,.sl 1 1 0 r1.2.2.2.2.length,cb r1.2.2.1],.arr 1 ((eL ac).els l3),.arr 5 (ac.els l6),.box [ci e3.id,lL e3.name,cb e3.need,ci e3.type.kind,ci e3.type.scale,cl ab e3.type.fields]]) rfl (by rw[g28])) ?_
        refine zv [11,13,22] 1 [0,1,6,7,9,11,42,43,44,48,53] [] [(0,vl ab p1),(1,vl ah p2),(6,vQ 2),(7,.one (.sl 3 1 0 l3.length)),(9,vi x2),(11,vQ 5),(42,vl ab p1),(43,vi p1.length),(44,vi x3),(48,.one (.sl 4 5 0 l6.length)),(53,.one (.pv (.ro [[pi r1.1.kind,pi r1.1.n,pi r1.1.scale,.s (.string r1.1.s),.ro (ac.els r1.1.items)]])))] [.arr 1 (eI.els r1.2.2.2.1),.arr 1 (eI.els r1.2.2.2.2),.box [cl ah r1.2.1,.sl 0 1 0 r1.2.2.2.1.length,.sl 1 1 0 r1.2.2.2.2.length,cb r1.2.2.1],.arr 1 ((eL ac).els l3),.arr 5 (ac.els l6),.box [ci e3.id,lL e3.name,cb e3.need,ci e3.type.kind,ci e3.type.scale,cl ab e3.type.fields]] ?_
        rw[show([[pi r1.1.kind,pi r1.1.n,pi r1.1.scale,.s (.string r1.1.s),.ro (ac.els r1.1.items)]]:List (List PV))=ac.els [r1.1]from by rcases r1 with⟨⟨_,_,_,_,_⟩,_,_,_,_⟩;rfl]
        refine zp [11,13,22] 1 [0,1,6,7,9,11,42,43,44,54] [] [(0,vl ab p1),(1,vl ah p2),(6,vQ 2),(7,.one (.sl 3 1 0 l3.length)),(9,vi x2),(11,vQ 5),(42,vl ab p1),(43,vi p1.length),(44,vi x3),(54,.one (.sl 4 5 0 (l6.length+(ac.els [r1.1]).length)))] [.arr 1 (eI.els r1.2.2.2.1),.arr 1 (eI.els r1.2.2.2.2),.box [cl ah r1.2.1,.sl 0 1 0 r1.2.2.2.1.length,.sl 1 1 0 r1.2.2.2.2.length,cb r1.2.2.1],.arr 1 ((eL ac).els l3),.arr 5 (ac.els l6++ac.els [r1.1]),.box [ci e3.id,lL e3.name,cb e3.need,ci e3.type.kind,ci e3.type.scale,cl ab e3.type.fields]] [aT 5 (ac.els [r1.1]),l6.length=(ac.els l6).length,l6.length+(ac.els [r1.1]).length≤4294967296] (⟨ac.ok _,(ac.len l6).symm,g29,trivial⟩) ?_
        rw[show l6.length+(ac.els [r1.1]).length=(l6++[r1.1]).length from ac.lapp _ _]
        rw[show ac.els l6++ac.els [r1.1]=ac.els (l6++[r1.1])from ac.app2 _ _]
        refine zg [11,13,22] 1 [0,1,6,7,8,9,11,42,43,44] (zd (hK25 _ _ ?_))
        obtain⟨r2,c30,h⟩:=zB h
        refine zr (zg [11,13,22] 3 [0,1,6,7,8,42,43,44,55,57] (zl 81 [mT e3.type] (vi r2) [(58,vi r2),(0,vl ab p1),(1,vl ah p2),(6,vQ 2),(7,.one (.sl 3 1 0 l3.length)),(8,.one (.sl 4 5 0 ((l6++[r1.1]).length))),(42,vl ab p1),(43,vi p1.length),(44,vi x3),(55,vi x2),(57,mT e3.type)] (lj aO _ _ c30) (zg [11,13,22] 2 [0,1,6,7,8,9,42,43,44] (zd (hK22 _ _ (zr (zg [11,13,22] 2 [0,1,6,7,8,9,42,43,44] ?_)))))))
        refine zd ?_
        exact XR.sub (bW.trans (bW.pick (fr':=[(0,vl ab p1),(1,vl ah p2),(6,vQ 2),(7,.one (.sl 3 1 0 l3.length)),(8,.one (.sl 4 5 0 ((l6++[r1.1]).length))),(9,vi (i64.wrap (x2+r2))),(42,vl ab p1),(43,vi p1.length),(44,vi (i64.wrap (x3+1)))]) [0,1,6,7,8,9,42,43,44] (by kernel_rfl)) (bW.take (fr':=[(0,vl ab p1),(1,vl ah p2),(6,vQ 2),(7,.one (.sl 3 1 0 l3.length)),(8,.one (.sl 4 5 0 ((l6++[r1.1]).length))),(9,vi (i64.wrap (x2+r2))),(42,vl ab p1),(43,vi p1.length),(44,vi (i64.wrap (x3+1)))]) 5 (Nat.zero_le _) (by kernel_rfl) (by kernel_rfl))) (ih2 r1.2.2.2.1 r1.2.2.2.2 (l6++[r1.1]) r1.2.1 r1.2.2.1 (i64.wrap (x2+r2)) (i64.wrap (x3+1)) h)
       ·exact zx 2 (hQ2 _ _ _ (hJ2 l4 l5 l6 z3 z4 h _ _ (zk [0,1,6,7,8])))
     exact XR.sub (zk [0,1,6,7,8,9,42,43,44]) (hL2 aO l1 l2 [] z1 z2 (0:Int) (0:Int) h)
    ·exact zx 0 (hQ1 _ _ _ (hJ3 l1 l2 l3 z1 z2 h _ _ (zk [0,1,6,7])))
   rcases zW h with⟨b11,h⟩ |⟨b11,h⟩
   ·obtain⟨e1,a12,h⟩:=zB h
    obtain⟨e2,a13,h⟩:=zB h
    refine zw 17 [(39,vi e2.reps.length),(38,vl eI e2.reps),(37,.one (.pv (.rp (ah.els p2) ((0:Int).toNat) 0))),(36,.one (.pv (.rp (ah.els p2) ((0:Int).toNat) 0))),(35,vl ah p2),(34,vi e1),(33,.one (.pt 0 1 (0+(0:Int).toNat) 0)),(32,.one (.sl 0 1 0 l1.length)),(31,.one (.pt 2 0 0 1)),(30,vQ 2),(29,vQ 2),(28,vb true),(27,vb (!z2)),(26,vb z2),(25,.one (.pt 2 0 0 3)),(24,vQ 2),(23,vQ 2),(0,vl ab p1),(1,vl ah p2),(6,vQ 2),(7,.one (.sl 3 1 0 l3.length))] ?_ ?_
    ·refine OR 6 [] [(28,vb (!z2)),(27,vb (!z2)),(26,vb z2),(25,.one (.pt 2 0 0 3)),(24,vQ 2),(23,vQ 2),(0,vl ab p1),(1,vl ah p2),(6,vQ 2),(7,.one (.sl 3 1 0 l3.length))] ?_
     refine DX.eq (fr1:=[(28,vb true),(27,vb (!z2)),(26,vb z2),(25,.one (.pt 2 0 0 3)),(24,vQ 2),(23,vQ 2),(0,vl ab p1),(1,vl ah p2),(6,vQ 2),(7,.one (.sl 3 1 0 l3.length))]) (by rw[b11]) ?_
     refine ME 11 [[pi e1],[.ro (eI.els e2.reps),.ro (eI.els e2.defs),.ro (ac.els e2.values)]] [(39,vi ((eI.els e2.reps).length:Int)),(38,vl eI e2.reps),(37,.one (.pv (.rp (ah.els p2) ((0:Int).toNat) 0))),(36,.one (.pv (.rp (ah.els p2) ((0:Int).toNat) 0))),(35,vl ah p2),(34,vi e1),(33,.one (.pt 0 1 (0+(0:Int).toNat) 0)),(32,.one (.sl 0 1 0 l1.length)),(31,.one (.pt 2 0 0 1)),(30,vQ 2),(29,vQ 2),(28,vb true),(27,vb (!z2)),(26,vb z2),(25,.one (.pt 2 0 0 3)),(24,vQ 2),(23,vQ 2),(0,vl ab p1),(1,vl ah p2),(6,vQ 2),(7,.one (.sl 3 1 0 l3.length))] [0≤(0:Int)∧(0:Int)<((l1.length:Nat):Int),(eI.els l1)[(0+(0:Int).toNat)]? =some [pi e1],0≤(0:Int)∧(0:Int)<((ah.els p2).length:Int)∧aT 3 (ah.els p2),(ah.els p2)[(0:Int).toNat]? =some [.ro (eI.els e2.reps),.ro (eI.els e2.defs),.ro (ac.els e2.values)]] (⟨lD.inb' a12,(eI.get0 a12),ah.inb a13,(ah.get a13),trivial⟩) ?_
     rw[eI.len e2.reps]
     exact Km
    exact zg [11,13,22] 2 [0,1,6,7,41] (zd (hJ1 (decide (e1<(e2.reps.length:Int))) h _ _ (zk [0,1,6,7,41])))
   ·refine zw 17 [(39,.tp []),(38,.tp []),(37,.tp []),(36,.tp []),(35,.tp []),(34,.tp []),(33,.tp []),(32,.tp []),(31,.tp []),(30,.tp []),(29,.tp []),(28,vb false),(27,vb (!z2)),(26,vb z2),(25,.one (.pt 2 0 0 3)),(24,vQ 2),(23,vQ 2),(0,vl ab p1),(1,vl ah p2),(6,vQ 2),(7,.one (.sl 3 1 0 l3.length))] ?_ ?_
    ·refine OR 6 [] [(28,vb (!z2)),(27,vb (!z2)),(26,vb z2),(25,.one (.pt 2 0 0 3)),(24,vQ 2),(23,vQ 2),(0,vl ab p1),(1,vl ah p2),(6,vQ 2),(7,.one (.sl 3 1 0 l3.length))] ?_
     exact DX.eq (fr1:=[(28,vb false),(27,vb (!z2)),(26,vb z2),(25,.one (.pt 2 0 0 3)),(24,vQ 2),(23,vQ 2),(0,vl ab p1),(1,vl ah p2),(6,vQ 2),(7,.one (.sl 3 1 0 l3.length))]) (by rw[b11]) (OQ 11 Km)
    exact zg [11,13,22] 2 [0,1,6,7,41] (zd (hJ1 false h _ _ (zk [0,1,6,7,41])))
 exact XR.sub (zk [0,1,6,7]) (hL1 aO (List.replicate (p2.length:Int).toNat (0:Int)) (List.replicate (p2.length:Int).toNat (0:Int)) [] p2 false h)
def dT(p1:List af)(p2:List ae):Option ((List (List aa))×Int):=aK (dL p1) fun r1=>aF (r1 != 0) (some ([],r1)) (aK (jl p1) fun r2=>aF ((p2.length:Int) != (r2.length:Int)) (some ([],1)) (aK (gg p1 p2) fun r3=>aF (!r3.2) (some ([],1)) (some (r3.1,0))))
theorem vh(p1:List af)(p2:List ae):CT prog 13 [vl ab p1,vl ah p2] (dT p1 p2) (fun r=> .tp [vl (eL ac) r.1,vi r.2]):=
  hJ 29 [] f13 fun r=>(dp (nL _) fun r1=>(uC uz (uN ah p2 (dp (oh _) fun r2=>(uN cm r2 (uC uz (dp (ub _ _) fun r3=>(uC uz uz))))))))
def ml(x1:Bool):OB:=some x1
def jB(p1:Int):OB:=aF (p1 != 6) (ml (p1 != 7)) (ml false)
theorem oY(p1:Int):CT prog 50 [vi p1] (jB p1) vb:=
  hJ 9 [] f50 fun r=>(gr f50 6 1 fun K k=>have J1:∀{x1},ml x1=some r→K.p [(2,vb x1)] []:=fun{x1} h=>k h uz;(uC (uJ J1) (uJ J1)))
def jT(x1:Bool):OB:=some x1
def eN(p1 p2 p3:Int):OB:=aF (decide (p2≤p1)) (jT (decide (p1≤p3))) (jT false)
theorem fG(p1 p2 p3:Int):CT prog 132 [vi p1,vi p2,vi p3] (eN p1 p2 p3) vb:=
  hJ 15 [] f132 fun r=>(gr f132 6 1 fun K k=>have J1:∀{x1},jT x1=some r→K.p [(6,vb x1)] []:=fun{x1} h=>k h uz;(uC (uJ J1) (uJ J1)))
def lU(rec1:Int→OB)(x2:Int)(x5:Bool):OB:=aF x5 (some false) (rec1 (i64.wrap (x2+1)))
def md(rec1:Int→OB)(x2:Int)(x3 x4:Bool):OB:=aF (!x3) (aF (x2==0) (lU rec1 x2 true) (lU rec1 x2 (!x4))) (lU rec1 x2 false)
def nT(rec1:Int→OB)(p1:ByteArray)(x2:Int)(x3:Bool):OB:=eh (0≤x2∧x2<(p1.size:Int))<|aF (((p1.data.toList.getD x2.toNat 0).toNat:Int)==95) (md rec1 x2 x3 true) (eh (0≤x2∧x2<(p1.size:Int))<|aK (some (decide (48≤((p1.data.toList.getD x2.toNat 0).toNat:Int)))) fun y3=>aF y3 (eh (0≤x2∧x2<(p1.size:Int))<|aK (some (decide (((p1.data.toList.getD x2.toNat 0).toNat:Int)≤57))) fun y4=>md rec1 x2 x3 y4) (md rec1 x2 x3 false))
def u7:OB:=some true
def dm(p1:ByteArray):Nat→Int→OB
 |0,_=>none
 |k1+1,x2=>aF (decide (x2<(p1.size:Int))) (eh (0≤x2∧x2<(p1.size:Int))<|aK (some (decide (97≤((p1.data.toList.getD x2.toNat 0).toNat:Int)))) fun y1=>aF y1 (eh (0≤x2∧x2<(p1.size:Int))<|aK (some (decide (((p1.data.toList.getD x2.toNat 0).toNat:Int)≤122))) fun y2=>nT (dm p1 k1) p1 x2 y2) (nT (dm p1 k1) p1 x2 false)) (u7)
def nU(p1:ByteArray)(x1:Bool):OB:=aF x1 (some false) (dm p1 aO 0)
def sk(p1:ByteArray):OB:=aF (decide ((p1.size:Int)<1)) (nU p1 true) (nU p1 (decide (24<(p1.size:Int))))
theorem CI(p1:ByteArray):CT prog 189 [vs p1] (sk p1) vb:=
  hJ 56 [] f189 fun r=>(gr f189 12 2 fun K k=>have J1:∀{x1},nU p1 x1=some r→K.p [(0,vs p1),(13,vb x1)] []:=fun{x1} h=>k h (uC uz (sM f189 14 1 u7 [] [] uz fun K J5=>(mC f189 58 1 fun R b=>have L1:∀k1 {x2},dm p1 k1 x2=some r→(R k1).p [(0,vs p1),(3,vi x2)] []:=uI (lK rfl) fun k1 i1 {x2} h=>b h (uU (dm.eq_2 ..) (uC (gr f189 1864 3 fun K k=>have J2:∀{x3},nT (dm p1 k1) p1 x2 x3=some r→K.p [(0,vs p1),(3,vi x2),(4,vb x3)] []:=fun{x3} h=>k h (gr f189 3730 3 fun K k=>have J3:∀{x4},md (dm p1 k1) x2 x3 x4=some r→K.p [(0,vs p1),(3,vi x2),(4,vb x3),(5,vb x4)] []:=fun{x4} h=>k h (gr f189 7462 3 fun K k=>have J4:∀{x5},lU (dm p1 k1) x2 x5=some r→K.p [(0,vs p1),(3,vi x2),(55,vb x5)] []:=fun{x5} h=>k h (uC wj (uJ i1));(uC (uC (uJ J4) (uJ J4)) (uJ J4)));(uG (uC (uJ J3) (uG (uY 38 vb fun y3=>(uC (uG (uY 43 vb fun y4=>(uJ J3))) (uJ J3)))))));(uG (uY 23 vb fun y1=>(uC (uG (uY 28 vb fun y2=>(uJ J2))) (uJ J2))))) (uR (.exit 0) (xM (uJ J5)))));uE (L1 aO))));(uC (uJ J1) (uJ J1)))
def pl(rec2:Int→OI)(x5:Int):OI:=rec2 (i64.wrap (x5+1))
def eA(rec2:Int→OI)(p1:aq)(x5:Int):Nat→Int→OI
 |0,_=>none
 |k3+1,x6=>aF (decide (x6<x5)) (aK (at? p1.fields x6) fun e3=>aK (at? p1.fields x5) fun e4=>aF (e3.name.toList==e4.name.toList) (some 5) ((eA rec2 p1 x5 k3) (i64.wrap (x6+1)))) (pl rec2 x5)
def sQ:OI:=some 0
def dY(p1:aq):Nat→Int→OI
 |0,_=>none
 |k2+1,x5=>aF (decide (x5<(p1.fields.length:Int))) (eA (dY p1 k2) p1 x5 aO 0) (sQ)
def pc(p1:aq):OI:=dY p1 aO 0
def eT(p1:aq):Nat→Int→OI
 |0,_=>none
 |k1+1,x4=>aF (decide (x4<(p1.fields.length:Int))) (aK (at? p1.fields x4) fun e2=>aK (sk e2.name) fun r5=>aF (!r5) (some 4) ((eT p1 k1) (i64.wrap (x4+1)))) (pc p1)
def gF(p1:aq)(x3:Bool):OI:=aF x3 (some 1) (aF (p1.kind != 7) (some 0) (eT p1 aO 0))
def kO(p1:aq)(x2:Bool):OI:=aF x2 (some 1) (aF (p1.kind==7) (aF ((p1.fields.length:Int)==0) (gF p1 true) (aK (jB p1.kind) fun r3=>aF r3 (gF p1 (decide (0<(p1.fields.length:Int)))) (gF p1 false))) (aK (jB p1.kind) fun r4=>aF r4 (gF p1 (decide (0<(p1.fields.length:Int)))) (gF p1 false)))
def gG(p1:aq)(x1:Bool):OI:=aF x1 (some 1) (aF (p1.kind==6) (aF ((p1.fields.length:Int) != 1) (kO p1 true) (aK (at? p1.fields 0) fun e1=>kO p1 (!(e1.name.toList==(ByteArray.mk #[]).toList)))) (kO p1 false))
def qA(p1:aq):OI:=aK (eN p1.kind 1 7) fun r1=>aF (!r1) (some 3) (aF (p1.kind==3) (aK (eN p1.scale 0 12) fun r2=>aF (!r2) (gG p1 true) (aF (p1.kind != 3) (gG p1 (p1.scale != 0)) (gG p1 false))) (aF (p1.kind != 3) (gG p1 (p1.scale != 0)) (gG p1 false)))
theorem Be(p1:aq):CT prog 163 [mT p1] (qA p1) vi:=
  hJ 109 [] f163 fun r=>(dp (fG _ _ _) fun r1=>(uC uz (gr f163 28 2 fun K k=>have J1:∀{x1},gG p1 x1=some r→K.p [(1,vR (lQ p1)),(28,vb x1)] []:=fun{x1} h=>k h (uC uz (gr f163 60 2 fun K k=>have J2:∀{x2},kO p1 x2=some r→K.p [(1,vR (lQ p1)),(45,vb x2)] []:=fun{x2} h=>k h (uC uz (gr f163 124 2 fun K k=>have J3:∀{x3},gF p1 x3=some r→K.p [(1,vR (lQ p1)),(65,vb x3)] []:=fun{x3} h=>k h (uC uz (uC uz (sM f163 254 1 (pc p1) [(1,vR (lQ p1))] [] (sM f163 510 1 sQ [] [] uz fun K J6=>(uN ab p1.fields (mC f163 2042 1 fun R b=>have L2:∀k2 {x5},dY p1 k2 x5=some r→(R k2).p [(1,vR (lQ p1)),(86,vi p1.fields.length),(87,vi x5)] []:=uI (lK rfl) fun k2 i2 {x5} h=>b h (uU (dY.eq_2 ..) (uC (sM f163 32678 1 (pl (dY p1 k2) x5) [(1,vR (lQ p1)),(86,vi p1.fields.length),(87,vi x5)] [] (uJ i2) fun K J5=>(mC f163 522854 2 fun R b=>have L3:∀k3 {x6},eA (dY p1 k2) p1 x5 k3 x6=some r→(R k3).p [(1,vR (lQ p1)),(4,vi x5),(5,vi x6),(86,vi p1.fields.length),(87,vi x5)] []:=uI (lK rfl) fun k3 i3 {x6} h=>b h (uU (eA.eq_2 ..) (uC (pX 12 (jO ab fun e3=>(jO ab fun e4=>(uC (uR .ret (xN (xN (xN (xN xF))))) (uJ i3))))) (uR (.exit 4) (xM (uJ J5)))));uE (L3 aO))) (uR (.exit 2) (xM (uJ J6)))));uE (L2 aO)))) fun K J4=>(uN ab p1.fields (mC f163 1018 1 fun R b=>have L1:∀k1 {x4},eT p1 k1 x4=some r→(R k1).p [(1,vR (lQ p1)),(71,vi p1.fields.length),(72,vi x4)] []:=uI (lK rfl) fun k1 i1 {x4} h=>b h (uU (eT.eq_2 ..) (uC (jO ab fun e2=>(dp (CI _) fun r5=>(uC wj (uJ i1)))) (uR (.exit 0) (xM (uJ J4)))));uE (L1 aO))))));(uC (uN ab p1.fields (uC (uJ J3) (dp (oY _) fun r3=>(uC (uN ab p1.fields (uJ J3)) (uJ J3))))) (dp (oY _) fun r4=>(uC (uN ab p1.fields (uJ J3)) (uJ J3))))));(uC (uN ab p1.fields (uC (uJ J2) (jO ab fun e1=>(uJ J2)))) (uJ J2))));(uC (dp (fG _ _ _) fun r2=>(uC (uJ J1) (uC (uJ J1) (uJ J1)))) (uC (uJ J1) (uJ J1))))))
def o7(z3:Int):Option (Int×Int):=some (0,z3)
def eY(q_ref1_checkType:aq→Int→Int→Option (Int×Int))(p1:aq)(p2:Int):Nat→Int→Int→Option (Int×Int)
 |0,_,_=>none
 |k1+1,z2,x1=>aF (decide (x1<(p1.fields.length:Int))) (aK (at? p1.fields x1) fun e1=>aK (q_ref1_checkType e1.type (i64.wrap (p2+1)) z2) fun r3=>aF (r3.1 != 0) (some (r3.1,r3.2)) ((eY q_ref1_checkType p1 p2 k1) r3.2 (i64.wrap (x1+1)))) (o7 z2)
def gc(q_ref1_checkType:aq→Int→Int→Option (Int×Int))(p1:aq)(p2 z1:Int):Option (Int×Int):=aK (qA p1) fun r2=>aF (r2 != 0) (some (r2,z1)) (eY q_ref1_checkType p1 p2 aO z1 0)
def db:Nat→aq→Int→Int→Option (Int×Int)
 |0,_,_,_=>none
 |k0+1,p1,p2,p3=>aF (decide (4<p2)) (some (7,p3)) (aK (jB p1.kind) fun r1=>aF r1 (aF (p3==40) (some (7,p3)) (gc (db k0) p1 p2 (i64.wrap (p3+1)))) (gc (db k0) p1 p2 p3))
theorem pG:∀(k0:Nat) (p1:aq) (p2 p3:Int),CM prog 108 [mT p1,vi p2,vQ 0] [.box [ci p3]] (db k0 p1 p2 p3) (fun r=>vi r.1) (fun r=>[.box [ci r.2]])
  |0,_,_,_=>HI (db.eq_1 ..)
  |k0+1,p1,p2,p3=>q9 1 49 [] f108 fun r=>(uU (db.eq_2 ..) (uC (uR .ret oj) (gr f108 14 1 fun K k=>have J1:∀{z1},gc (db k0) p1 p2 z1=some r→K.p [(1,vi p2),(2,vQ 0),(3,vR [pi p1.kind,pi p1.scale,.ro (ab.els p1.fields)])] [.box [ci z1]]:=fun{z1} h=>k h (dp (Be _) fun r2=>(uC (uR .ret oj) (gr f108 62 1 fun K k=>have J2:∀{z3},o7 z3=some r→K.p [] [.box [ci z3]]:=fun{z3} h=>k h (uR .ret oj);(uN ab p1.fields (mC f108 250 1 fun R b=>have L1:∀k1 {z2 x1},eY (db k0) p1 p2 k1 z2 x1=some r→(R k1).p [(1,vi p2),(2,vQ 0),(3,vR [pi p1.kind,pi p1.scale,.ro (ab.els p1.fields)]),(31,vi p1.fields.length),(32,vi x1)] [.box [ci z2]]:=uI (lK rfl) fun k1 i1 {z2 x1} h=>b h (uU (eY.eq_2 ..) (uC (jO ab fun e1=>(wP true [0] (pG k0 _ _ _) fun r3 _=>(uC (uR .ret (xN (xN oj))) (uJ i1)))) (uR (.exit 0) (xM (uJ J2)))));uE (L1 aO))))));(dp (oY _) fun r1=>(uC (uC (uR .ret (xN oj)) (uJ J1)) (uJ J1))))))
def j6(p1:aq):OI:=aK (db aO p1 1 0) fun r1=>some r1.1
theorem pE(p1:aq):CT prog 49 [mT p1] (j6 p1) vi:=
  hJ 6 [3] f49 fun r=>(wP true [0] (pG aO _ _ _) fun r1 _=>uz)
def rD(l2:List Int):Option (List Int):=some l2
def jQ(q_ref1_Ids:(List af)→Option (List Int))(p1:List af):Nat→List Int→Int→Option (List Int)
 |0,_,_=>none
 |k1+1,l1,x1=>aF (decide (x1<(p1.length:Int))) (aK (at? p1 x1) fun e1=>eh (l1.length+1≤4294967296)<|aK (q_ref1_Ids e1.type.fields) fun r1=>eh ((l1++[e1.id]).length+r1.length≤4294967296)<|(jQ q_ref1_Ids p1 k1) ((l1++[e1.id])++r1) (i64.wrap (x1+1))) (rD l1)
def kJ:Nat→(List af)→Option (List Int)
 |0,_=>none
 |k0+1,p1=>jQ (kJ k0) p1 aO [] 0
theorem yH:∀(k0:Nat) (p1:List af),CT prog 84 [vl ab p1] (kJ k0 p1) (vl eI)
  |0,_=>AK (kJ.eq_1 ..)
  |k0+1,p1=>hJ 29 [] f84 fun r=>(uU (kJ.eq_2 ..) (gr f84 14 1 fun K k=>have J1:∀{l2},rD l2=some r→K.p [(3,.one (.sl 0 1 0 l2.length))] [.arr 1 (eI.els l2)]:=fun{l2} h=>k h (wd eI l2 0 [2] uz);(uN ab p1 (vq (.li 3 1) (mC f84 58 1 fun R b=>have L1:∀k1 {l1 x1},jQ (kJ k0) p1 k1 l1 x1=some r→(R k1).p [(0,vl ab p1),(3,.one (.sl 0 1 0 l1.length)),(6,vi p1.length),(7,vi x1)] [.arr 1 (eI.els l1)]:=uI (lK rfl) fun k1 i1 {l1 x1} h=>b h (uU (jQ.eq_2 ..) (uC (uL ab fun e1 a11=>(Fs eI 0 [e1.id] (uM ab a11 (dp (yH k0 _) fun r1=>(Fs eI 0 r1 (uJ i1)))))) (uR (.exit 0) (xM (uJ J1)))));uE (L1 aO))))))
def ky(rec1:Int→OI)(x1:Int):OI:=rec1 (i64.wrap (x1+1))
def cp(rec1:Int→OI)(r2:List Int)(x1 e1:Int):Nat→Int→OI
 |0,_=>none
 |k2+1,x2=>aF (decide (x2<x1)) (aK (at? r2 x2) fun e2=>aF (e2==e1) (some 5) ((cp rec1 r2 x1 e1 k2) (i64.wrap (x2+1)))) (ky rec1 x1)
def nR:OI:=some 0
def cZ(r2:List Int):Nat→Int→OI
 |0,_=>none
 |k1+1,x1=>aF (decide (x1<(r2.length:Int))) (aK (at? r2 x1) fun e1=>aF (decide (e1<1)) (some 3) (cp (cZ r2 k1) r2 x1 e1 aO 0)) (nR)
def gM(p1:List af):OI:=aK (j6 (aq.mk 7 0 p1)) fun r1=>aF (r1 != 0) (some r1) (aK (kJ aO p1) fun r2=>cZ r2 aO 0)
theorem oF(p1:List af):CT prog 33 [vl ab p1] (gM p1) vi:=
  hJ 40 [] f33 fun r=>(dp (pE _) fun r1=>(uC uz (dp (yH aO _) fun r2=>(sM f33 30 1 nR [] [] uz fun K J2=>(uN eI r2 (mC f33 122 1 fun R b=>have L1:∀k1 {x1},cZ r2 k1 x1=some r→(R k1).p [(4,vl eI r2),(16,vi r2.length),(17,vi x1)] []:=uI (lK rfl) fun k1 i1 {x1} h=>b h (uU (cZ.eq_2 ..) (uC (sM f33 1958 1 (ky (cZ r2 k1) x1) [(4,vl eI r2),(16,vi r2.length),(17,vi x1)] [] (uJ i1) fun K J1=>(uL eI fun e1 a19=>(uC (uR .ret (xN (xN (xN xF)))) (mC f33 62670 2 fun R b=>have L2:∀k2 {x2},cp (cZ r2 k1) r2 x1 e1 k2 x2=some r→(R k2).p [(4,vl eI r2),(5,vi x1),(6,vi x2),(16,vi r2.length),(17,vi x1)] []:=uI (lK rfl) fun k2 i2 {x2} h=>b h (uU (cp.eq_2 ..) (uC (pX 8 (jO eI fun e2=>(uM eI a19 (uC (uR .ret (xN (xN (xN (xN xF))))) (uJ i2))))) (uR (.exit 2) (xM (uJ J1)))));uE (L2 aO))))) (uR (.exit 0) (xM (uJ J2)))));uE (L1 aO)))))))
def lP(rec1:List (List af)→Int→Option (List (List af)))(x1:Int)(l3:List (List af)):Option (List (List af)):=rec1 l3 (i64.wrap (x1+1))
def jd(rec1:List (List af)→Int→Option (List (List af)))(x1:Int)(e1:af)(r2:List (List af)):Nat→List (List af)→Int→Option (List (List af))
 |0,_,_=>none
 |k2+1,l2,x2=>aF (decide (x2<(r2.length:Int))) (aK (at? r2 x2) fun e2=>eh ([e1].length+e2.length≤4294967296)<|eh (l2.length+1≤4294967296)<|(jd rec1 x1 e1 r2 k2) (l2++[([e1]++e2)]) (i64.wrap (x2+1))) (lP rec1 x1 l2)
def qD(l4:List (List af)):Option (List (List af)):=some l4
def eW(q_ref2_ways:(List af)→Option (List (List af)))(p1:List af):Nat→List (List af)→Int→Option (List (List af))
 |0,_,_=>none
 |k1+1,l1,x1=>aF (decide (x1<(p1.length:Int))) (aK (at? p1 x1) fun e1=>aK (jB e1.type.kind) fun r1=>aF r1 (eh (l1.length+1≤4294967296)<|lP (eW q_ref2_ways p1 k1) x1 (l1++[[e1]])) (aK (q_ref2_ways e1.type.fields) fun r2=>jd (eW q_ref2_ways p1 k1) x1 e1 r2 aO l1 0)) (qD l1)
def dB:Nat→(List af)→Option (List (List af))
 |0,_=>none
 |k0+1,p1=>eW (dB k0) p1 aO [] 0
theorem nw:∀(k0:Nat) (p1:List af),CT prog 34 [vl ab p1] (dB k0 p1) (fun r=>vl (eL ab) r)
  |0,_=>AK (dB.eq_1 ..)
  |k0+1,p1=>hJ 42 [5,34] f34 fun r=>(uU (dB.eq_2 ..) (gr f34 14 1 fun K k=>have J2:∀{l4},qD l4=some r→K.p [(3,.one (.sl 0 1 0 l4.length))] [.arr 1 ((eL ab).els l4)]:=fun{l4} h=>k h (wd (eL ab) l4 0 [2] uz);(uN ab p1 (vq (.li 3 1) (mC f34 58 1 fun R b=>have L1:∀k1 {l1 x1},eW (dB k0) p1 k1 l1 x1=some r→(R k1).p [(3,.one (.sl 0 1 0 l1.length)),(8,vl ab p1),(9,vi p1.length),(10,vi x1)] [.arr 1 ((eL ab).els l1)]:=uI (lK rfl) fun k1 i1 {l1 x1} h=>b h (uU (eW.eq_2 ..) (uC (gr f34 934 1 fun K k=>have J1:∀{l3},lP (eW (dB k0) p1 k1) x1 l3=some r→K.p [(3,.one (.sl 0 1 0 l3.length)),(8,vl ab p1),(9,vi p1.length),(10,vi x1)] [.arr 1 ((eL ab).els l3)]:=fun{l3} h=>k h (uJ i1);(jO ab fun e1=>(dp (oY _) fun r1=>(uC (uW 20 ab [e1] (Fs (eL ab) 0 ([[e1]]) (uJ J1))) (dp (nw k0 _) fun r2=>(uN (eL ab) r2 (mC f34 29902 2 fun R b=>have L2:∀k2 {l2 x2},jd (eW (dB k0) p1 k1) x1 e1 r2 k2 l2 x2=some r→(R k2).p [(3,.one (.sl 0 1 0 l2.length)),(5,vQ 1),(8,vl ab p1),(9,vi p1.length),(10,vi x1),(26,vl (eL ab) r2),(27,vi r2.length),(28,vi x2)] [.arr 1 ((eL ab).els l2),.box [ci e1.id,lL e1.name,cb e1.need,ci e1.type.kind,ci e1.type.scale,cl ab e1.type.fields]]:=uI (lK rfl) fun k2 i2 {l2 x2} h=>b h (uU (jd.eq_2 ..) (uC (jO (eL ab) fun e2=>(PF 34 ab [e1] (Fs ab 2 e2 (wd ab ([e1]++e2) 2 [36] (Fs (eL ab) 0 ([([e1]++e2)]) (uJ i2)))))) (uR (.exit 2) (xM (uJ J1)))));uE (L2 aO)))))))) (uR (.exit 0) (xM (uJ J2)))));uE (L1 aO))))))
def fJ(rec1:Bool→Int→Option (aa×(List ae)×Bool×(List Int)))(x1:Int)(z2:Bool):Option (aa×(List ae)×Bool×(List Int)):=rec1 z2 (i64.wrap (x1+1))
def jW(p6:List ae)(p8:List Int)(z3:Bool):Option (aa×(List ae)×Bool×(List Int)):=some ((aa.mk 6 0 0 ByteArray.empty []),p6,z3,p8)
def bK(p3:List aJ)(p4:Int)(p6:List ae)(p8:List Int):Nat→Bool→Int→Option (aa×(List ae)×Bool×(List Int))
 |0,_,_=>none
 |k1+1,z1,x1=>aF (decide (x1<(p3.length:Int))) (aK (at? p3 x1) fun e3=>aF z1 (fJ (bK p3 p4 p6 p8 k1) x1 true) (aF ((e3.reps.length:Int) != 1) (fJ (bK p3 p4 p6 p8 k1) x1 true) (aK (at? e3.defs 0) fun e4=>fJ (bK p3 p4 p6 p8 k1) x1 (e4 != p4)))) (jW p6 p8 z1)
def fQ(rec2:List Int→List aa→List ae→Bool→Int→Option (aa×(List ae)×Bool×(List Int)))(q_ref2_builder_value:af→Int→(List aJ)→Int→Int→(List ae)→Bool→(List Int)→Option (aa×(List ae)×Bool×(List Int)))(p1:af)(p2 p4 p5:Int)(r2:List (List aJ))(l1:List Int)(l2:List aa)(z4:List ae)(z5:Bool)(x2:Int):Option (aa×(List ae)×Bool×(List Int)):=aK (at? p1.type.fields 0) fun e8=>aK (at? r2 x2) fun e9=>aK (q_ref2_builder_value e8 p2 e9 (i64.wrap (p4+1)) (i64.wrap (p5+1)) z4 z5 l1) fun r3=>eh (r3.2.2.2.length=l1.length)<|eh (l2.length+1≤4294967296)<|rec2 r3.2.2.2 (l2++[r3.1]) r3.2.1 r3.2.2.1 (i64.wrap (x2+1))
def cM(rec2:List Int→List aa→List ae→Bool→Int→Option (aa×(List ae)×Bool×(List Int)))(q_ref2_builder_value:af→Int→(List aJ)→Int→Int→(List ae)→Bool→(List Int)→Option (aa×(List ae)×Bool×(List Int)))(p1:af)(p2 p4 p5:Int)(p8:List Int)(r2:List (List aJ))(l1:List Int)(l2:List aa)(z4:List ae)(z5:Bool)(x2:Int)(e5:List aJ):Nat→Int→Option (aa×(List ae)×Bool×(List Int))
 |0,_=>none
 |k3+1,x3=>aF (decide (x3<(e5.length:Int))) (aK (at? e5 x3) fun e6=>aK (at? e6.defs 0) fun e7=>aF (decide (e7≤p4)) (eh (l1.length=p8.length)<|some ((aa.mk 6 0 0 ByteArray.empty l2),z4,true,l1)) ((cM rec2 q_ref2_builder_value p1 p2 p4 p5 p8 r2 l1 l2 z4 z5 x2 e5 k3) (i64.wrap (x3+1)))) (fQ rec2 q_ref2_builder_value p1 p2 p4 p5 r2 l1 l2 z4 z5 x2)
def ip(p8 l3:List Int)(l4:List aa)(z6:List ae)(z7:Bool):Option (aa×(List ae)×Bool×(List Int)):=eh (l3.length=p8.length)<|some ((aa.mk 6 0 0 ByteArray.empty l4),z6,z7,l3)
def aR(q_ref2_builder_value:af→Int→(List aJ)→Int→Int→(List ae)→Bool→(List Int)→Option (aa×(List ae)×Bool×(List Int)))(p1:af)(p2 p4 p5:Int)(p8:List Int)(r2:List (List aJ)):Nat→List Int→List aa→List ae→Bool→Int→Option (aa×(List ae)×Bool×(List Int))
 |0,_,_,_,_,_=>none
 |k2+1,l1,l2,z4,z5,x2=>aF (decide (x2<(r2.length:Int))) (aK (at? r2 x2) fun e5=>cM (aR q_ref2_builder_value p1 p2 p4 p5 p8 r2 k2) q_ref2_builder_value p1 p2 p4 p5 p8 r2 l1 l2 z4 z5 x2 e5 aO 0) (ip p8 l1 l2 z4 z5)
def gZ(rec1:Int→Int→Option (aa×(List ae)×Bool×(List Int)))(x2 x3:Int):Option (aa×(List ae)×Bool×(List Int)):=rec1 x3 (i64.wrap (x2+1))
def fe(rec2:Bool→Int→Option (aa×(List ae)×Bool×(List Int)))(x5:Int)(z2:Bool):Option (aa×(List ae)×Bool×(List Int)):=rec2 z2 (i64.wrap (x5+1))
def jF(p6:List ae)(p8:List Int)(z3:Bool):Option (aa×(List ae)×Bool×(List Int)):=some ((aa.mk 0 0 0 ByteArray.empty []),p6,z3,p8)
def bG(p3:List aJ)(p4:Int)(p6:List ae)(p8:List Int):Nat→Bool→Int→Option (aa×(List ae)×Bool×(List Int))
 |0,_,_=>none
 |k2+1,z1,x5=>aF (decide (x5<(p3.length:Int))) (aK (at? p3 x5) fun e5=>aF z1 (fe (bG p3 p4 p6 p8 k2) x5 true) (aF ((e5.reps.length:Int) != 1) (fe (bG p3 p4 p6 p8 k2) x5 true) (aK (at? e5.defs 0) fun e6=>fe (bG p3 p4 p6 p8 k2) x5 (e6 != p4)))) (jF p6 p8 z1)
def hI(p8 l3:List Int)(l4:List aa)(z6:List ae)(z7:Bool):Option (aa×(List ae)×Bool×(List Int)):=eh (l3.length=p8.length)<|some ((aa.mk 7 0 0 ByteArray.empty l4),z6,z7,l3)
def bE(q_ref2_builder_value:af→Int→(List aJ)→Int→Int→(List ae)→Bool→(List Int)→Option (aa×(List ae)×Bool×(List Int)))(p1:af)(p2:Int)(p3:List aJ)(p5:Int)(p8:List Int)(x6:Int):Nat→List Int→List aa→List ae→Bool→Int→Int→Option (aa×(List ae)×Bool×(List Int))
 |0,_,_,_,_,_,_=>none
 |k3+1,l1,l2,z4,z5,x7,x8=>aF (decide (x8<(p1.type.fields.length:Int))) (aK (at? p1.type.fields x8) fun e7=>aK (dB aO [e7]) fun r2=>eh (0≤x7∧x7≤(i64.wrap (x7+(r2.length:Int)))∧(i64.wrap (x7+(r2.length:Int)))≤(p3.length:Int))<|aK (q_ref2_builder_value e7 (i64.wrap (p2+x7)) ((p3.drop x7.toNat).take ((i64.wrap (x7+(r2.length:Int))).toNat-x7.toNat)) x6 p5 z4 z5 l1) fun r3=>eh (r3.2.2.2.length=l1.length)<|eh (l2.length+1≤4294967296)<|(bE q_ref2_builder_value p1 p2 p3 p5 p8 x6 k3) r3.2.2.2 (l2++[r3.1]) r3.2.1 r3.2.2.1 (i64.wrap (x7+(r2.length:Int))) (i64.wrap (x8+1))) (hI p8 l1 l2 z4 z5)
def dJ(p2:Int)(p6:List ae)(p7:Bool)(p8:List Int)(e8:ae)(x9:Bool):Option (aa×(List ae)×Bool×(List Int)):=aF x9 (some ((aa.mk 0 0 0 ByteArray.empty []),p6,true,p8)) (aK (at? p8 p2) fun e10=>aK (at? (p8.set p2.toNat (i64.wrap (e10+1))) p2) fun e11=>aK (at? e8.values (i64.wrap (e11-1))) fun e12=>eh ((p8.set p2.toNat (i64.wrap (e10+1))).length=p8.length)<|some (e12,p6,p7,(p8.set p2.toNat (i64.wrap (e10+1)))))
def dH(q_ref2_builder_list q_ref2_builder_value:af→Int→(List aJ)→Int→Int→(List ae)→Bool→(List Int)→Option (aa×(List ae)×Bool×(List Int)))(p1:af)(p2:Int)(p3:List aJ)(p5:Int)(p6:List ae)(p7:Bool)(p8:List Int)(e1:aJ)(e2 x6:Int):Option (aa×(List ae)×Bool×(List Int)):=aF (p1.type.kind==6) (aK (q_ref2_builder_list p1 p2 p3 x6 p5 p6 p7 p8) fun r1=>eh (r1.2.2.2.length=p8.length)<|eh (r1.2.2.2.length=p8.length)<|some (r1.1,r1.2.1,r1.2.2.1,r1.2.2.2)) (aF (p1.type.kind==7) (bE q_ref2_builder_value p1 p2 p3 p5 p8 x6 aO p8 [] p6 p7 0 0) (aK (at? p6 p2) fun e8=>aF ((e1.reps.length:Int) != 1) (dJ p2 p6 p7 p8 e8 true) (aF (e2 != x6) (dJ p2 p6 p7 p8 e8 true) (aK (at? p8 p2) fun e9=>dJ p2 p6 p7 p8 e8 (decide ((e8.values.length:Int)≤e9))))))
def fd(q_ref2_builder_list q_ref2_builder_value:af→Int→(List aJ)→Int→Int→(List ae)→Bool→(List Int)→Option (aa×(List ae)×Bool×(List Int)))(p1:af)(p2:Int)(p3:List aJ)(p4 p5:Int)(p6:List ae)(p7:Bool)(p8:List Int)(e1:aJ)(e2 x4:Int):Option (aa×(List ae)×Bool×(List Int)):=aF (!p1.need) (aF (decide (x4≤p4)) (bG p3 p4 p6 p8 aO p7 0) (dH q_ref2_builder_list q_ref2_builder_value p1 p2 p3 p5 p6 p7 p8 e1 e2 (i64.wrap (p4+1)))) (dH q_ref2_builder_list q_ref2_builder_value p1 p2 p3 p5 p6 p7 p8 e1 e2 p4)
def bT(q_ref2_builder_list q_ref2_builder_value:af→Int→(List aJ)→Int→Int→(List ae)→Bool→(List Int)→Option (aa×(List ae)×Bool×(List Int)))(p1:af)(p2:Int)(p3:List aJ)(p4 p5:Int)(p6:List ae)(p7:Bool)(p8:List Int)(e1:aJ)(e2:Int):Nat→Int→Int→Option (aa×(List ae)×Bool×(List Int))
 |0,_,_=>none
 |k1+1,x1,x2=>aF (decide (x2<(p3.length:Int))) (aK (at? p3 x2) fun e3=>aK (at? e3.defs 0) fun e4=>aF (decide (e4<x1)) (gZ (bT q_ref2_builder_list q_ref2_builder_value p1 p2 p3 p4 p5 p6 p7 p8 e1 e2 k1) x2 e4) (gZ (bT q_ref2_builder_list q_ref2_builder_value p1 p2 p3 p4 p5 p6 p7 p8 e1 e2 k1) x2 x1)) (fd q_ref2_builder_list q_ref2_builder_value p1 p2 p3 p4 p5 p6 p7 p8 e1 e2 x1)
mutual
def bl:Nat→af→Int→(List aJ)→Int→Int→(List ae)→Bool→(List Int)→Option (aa×(List ae)×Bool×(List Int))
 |0,_,_,_,_,_,_,_,_=>none
 |k0+1,p1,p2,p3,p4,p5,p6,p7,p8=>aK (at? p3 0) fun e1=>aK (at? e1.defs 0) fun e2=>aF (decide (e2≤p4)) (bK p3 p4 p6 p8 aO p7 0) (aK (qf p3 (i64.wrap (p5+1))) fun r1=>aF r1 (aK (kb p3 (i64.wrap (p5+1))) fun r2=>aR (ax k0) p1 p2 p4 p5 p8 r2 aO p8 [] p6 p7 0) (some ((aa.mk 6 0 0 ByteArray.empty []),p6,true,p8)))
def ax:Nat→af→Int→(List aJ)→Int→Int→(List ae)→Bool→(List Int)→Option (aa×(List ae)×Bool×(List Int))
 |0,_,_,_,_,_,_,_,_=>none
 |k0+1,p1,p2,p3,p4,p5,p6,p7,p8=>aK (at? p3 0) fun e1=>aK (at? e1.defs 0) fun e2=>bT (bl k0) (ax k0) p1 p2 p3 p4 p5 p6 p7 p8 e1 e2 aO e2 0
end
abbrev Da:List CV:=[ci (6:Int),ci (0:Int),ci (0:Int),lL ByteArray.empty,.pv (.s (.slice none 0 0))]
abbrev IH(p3:(List aJ))(p4 x1:Int):Fr:=[(0,.one (.pt 0 0 0 0)),(4,vi p4),(12,.one (.pt 2 0 0 0)),(13,.one (.pt 3 0 0 0)),(33,vl ak p3),(34,vi (p3.length:Int)),(35,vi x1)]
abbrev LY(l2:List aa):List CV:=[ci (6:Int),ci (0:Int),ci (0:Int),lL ByteArray.empty,.sl 4 5 0 l2.length]
abbrev D1(l1:List Int)(l2:List aa)(z4:List ae)(z5:Bool):St:=[.box [cl ah z4,.sl 1 1 0 l1.length,cb z5],.arr 1 (eI.els l1),.box lO,.box (LY l2),.arr 5 (ac.els l2)]
abbrev AZ(p6:(List ae))(p7:Bool)(p8:(List Int)):St:=[.box [cl ah p6,.sl 1 1 0 p8.length,cb p7],.arr 1 (eI.els p8),.box lO]
mutual
theorem sO:∀(k0:Nat) (p1:af) (p2:Int) (p3:List aJ) (p4 p5:Int) (p6:List ae) (p7:Bool) (p8:List Int),CM prog 85 [vQ 0,mf p1,vi p2,vl ak p3,vi p4,vi p5] [.box [cl ah p6,.sl 1 1 0 p8.length,cb p7],.arr 1 (eI.els p8)] (bl k0 p1 p2 p3 p4 p5 p6 p7 p8) (fun r=>mV r.1) (fun r=>[.box [cl ah r.2.1,.sl 1 1 0 p8.length,cb r.2.2.1],.arr 1 (eI.els r.2.2.2)])
  |0,_,_,_,_,_,_,_,_=>HI (bl.eq_1 ..)
  |k0+1,p1,p2,p3,p4,p5,p6,p7,p8=>q9 2 155 [12,13,15,23] f85 fun r=>(uU (bl.eq_2 ..) (jO ak fun e1=>(jO eI fun e2=>(uC (gr f85 116 2 fun K k=>have J2:∀{z3},jW p6 p8 z3=some r→K.p [(12,vQ 2),(13,vQ 3)] [.box [cl ah p6,.sl 1 1 0 p8.length,cb z3],.arr 1 (eI.els p8),.box lO,.box Da]:=fun{z3} h=>k h (uR .ret oj);(uN ak p3 (mC f85 466 1 fun R b=>have L1:∀k1 {z1 x1},bK p3 p4 p6 p8 k1 z1 x1=some r→(R k1).p (IH p3 p4 x1) [.box [cl ah p6,.sl 1 1 0 p8.length,cb z1],.arr 1 (eI.els p8),.box lO,.box Da]:=uI (lK rfl) fun k1 i1 {z1 x1} h=>b h (uU (bK.eq_2 ..) (uC (gr f85 7462 1 fun K k=>have J1:∀{z2},fJ (bK p3 p4 p6 p8 k1) x1 z2=some r→K.p (IH p3 p4 x1) [.box [cl ah p6,.sl 1 1 0 p8.length,cb z2],.arr 1 (eI.els p8),.box lO,.box Da]:=fun{z2} h=>k h (uJ i1);(jO ak fun e3=>(uC (uJ J1) (uN eI e3.reps (uC (uJ J1) (jO eI fun e4=>(uJ J1))))))) (uR (.exit 0) (xM (uJ J2)))));uE (L1 aO)))) (uN ak p3 (Ls.uCut p1 p2 p4 p5 p3 p6 p7 p8 (fun r2=>(gr f85 126 1 fun K k=>have J4:∀{l3 l4 z6 z7},ip p8 l3 l4 z6 z7=some r→K.p [(12,vQ 2),(13,vQ 3)] [.box [cl ah z6,.sl 1 1 0 l3.length,cb z7],.arr 1 (eI.els l3),.box lO,.box [ci (6:Int),ci (0:Int),ci (0:Int),lL ByteArray.empty,.sl 4 5 0 l4.length],.arr 5 (ac.els l4)]:=fun{l3 l4 z6 z7} h=>k h (wd ac l4 4 [] (CN 1 (uR .ret oj)));(uN (eL ak) r2 (vq (.lb 3 4 5) (mC f85 506 1 fun R b=>have L2:∀k2 {l1 l2 z4 z5 x2},aR (ax k0) p1 p2 p4 p5 p8 r2 k2 l1 l2 z4 z5 x2=some r→(R k2).p [(0,vQ 0),(2,vi p2),(4,vi p4),(5,vi p5),(7,vR (jN p1)),(12,vQ 2),(13,vQ 3),(16,vl (eL ak) r2),(108,vi r2.length),(109,vi x2)] (D1 l1 l2 z4 z5):=uI (lK rfl) fun k2 i2 {l1 l2 z4 z5 x2} h=>b h (uU (aR.eq_2 ..) (uC (sM f85 64818 3 (fQ (aR (ax k0) p1 p2 p4 p5 p8 r2 k2) (ax k0) p1 p2 p4 p5 r2 l1 l2 z4 z5 x2) [(0,vQ 0),(2,vi p2),(4,vi p4),(5,vi p5),(7,vR (jN p1)),(12,vQ 2),(13,vQ 3),(16,vl (eL ak) r2),(21,vi x2),(108,vi r2.length),(109,vi x2)] (D1 l1 l2 z4 z5) (B9 19 0 [5] (jO ab fun e8=>(jO (eL ak) fun e9=>(N8 [0,1] (jX k0 _ _ _ _ _ _ _ _) fun r3 _=>(uW 150 ac [r3.1] (AU 1 (vq (.stl 3 4) (Fs ac 4 [r3.1] (uJ i2))))))))) fun K J3=>(jO (eL ak) fun e5=>(uN ak e5 (mC f85 259274 1 fun R b=>have L3:∀k3 {x3},cM (aR (ax k0) p1 p2 p4 p5 p8 r2 k2) (ax k0) p1 p2 p4 p5 p8 r2 l1 l2 z4 z5 x2 e5 k3 x3=some r→(R k3).p [(0,vQ 0),(2,vi p2),(4,vi p4),(5,vi p5),(7,vR (jN p1)),(12,vQ 2),(13,vQ 3),(16,vl (eL ak) r2),(21,vi x2),(108,vi r2.length),(109,vi x2),(115,vl ak e5),(116,vi e5.length),(117,vi x3)] (D1 l1 l2 z4 z5):=uI (lK rfl) fun k3 i3 {x3} h=>b h (uU (cM.eq_2 ..) (uC (jO ak fun e6=>(jO eI fun e7=>(uC (wd ac l2 4 [] (CN 1 (uR .ret (xN (xN (xN (xN oj))))))) (uJ i3)))) (uR (.exit 8) (xM (uJ J3)))));uE (L3 aO))))) (uR (.exit 6) (xM (uJ J4)))));uE (L2 aO)))))) oj))))))
theorem jX:∀(k0:Nat) (p1:af) (p2:Int) (p3:List aJ) (p4 p5:Int) (p6:List ae) (p7:Bool) (p8:List Int),CM prog 36 [vQ 0,mf p1,vi p2,vl ak p3,vi p4,vi p5] [.box [cl ah p6,.sl 1 1 0 p8.length,cb p7],.arr 1 (eI.els p8)] (ax k0 p1 p2 p3 p4 p5 p6 p7 p8) (fun r=>mV r.1) (fun r=>[.box [cl ah r.2.1,.sl 1 1 0 p8.length,cb r.2.2.1],.arr 1 (eI.els r.2.2.2)])
  |0,_,_,_,_,_,_,_,_=>HI (ax.eq_1 ..)
  |k0+1,p1,p2,p3,p4,p5,p6,p7,p8=>q9 2 196 [12,15,17,18,21,23] f36 fun r=>(uU (ax.eq_2 ..) (uL ak fun e1 a3=>(uL eI fun e2 a4=>(gr f36 14 1 fun K k=>have J2:∀{x4},fd (bl k0) (ax k0) p1 p2 p3 p4 p5 p6 p7 p8 e1 e2 x4=some r→K.p [(0,vQ 0),(2,vi p2),(3,vl ak p3),(4,vi p4),(5,vi p5),(7,vR (jN p1)),(12,vQ 2),(13,vi x4)] (AZ p6 p7 p8):=fun{x4} h=>k h (gr f36 30 1 fun K k=>have J5:∀{x6},dH (bl k0) (ax k0) p1 p2 p3 p5 p6 p7 p8 e1 e2 x6=some r→K.p [(0,vQ 0),(2,vi p2),(3,vl ak p3),(4,vi x6),(5,vi p5),(7,vR (jN p1)),(12,vQ 2)] (AZ p6 p7 p8):=fun{x6} h=>k h (uC (wP true [0,1] (sO k0 _ _ _ _ _ _ _ _) fun r1 _=>(AU 1 (CN 1 (uR .ret oj)))) (uC (gr f36 32118 3 fun K k=>have J6:∀{l3 l4 z6 z7},hI p8 l3 l4 z6 z7=some r→K.p [(12,vQ 2),(18,vQ 3)] [.box [cl ah z6,.sl 1 1 0 l3.length,cb z7],.arr 1 (eI.els l3),.box lO,.box [ci (7:Int),ci (0:Int),ci (0:Int),lL ByteArray.empty,.sl 4 5 0 l4.length],.arr 5 (ac.els l4)]:=fun{l3 l4 z6 z7} h=>k h (wd ac l4 4 [] (CN 1 (uR .ret oj)));(uN ab p1.type.fields (vq (.lb 3 4 5) (mC f36 128474 1 fun R b=>have L3:∀k3 {l1 l2 z4 z5 x7 x8},bE (ax k0) p1 p2 p3 p5 p8 x6 k3 l1 l2 z4 z5 x7 x8=some r→(R k3).p [(0,vQ 0),(2,vi p2),(3,vl ak p3),(4,vi x6),(5,vi p5),(12,vQ 2),(18,vQ 3),(19,vi x7),(101,vl ab p1.type.fields),(102,vi p1.type.fields.length),(103,vi x8)] [.box [cl ah z4,.sl 1 1 0 l1.length,cb z5],.arr 1 (eI.els l1),.box lO,.box [ci (7:Int),ci (0:Int),ci (0:Int),lL ByteArray.empty,.sl 4 5 0 l2.length],.arr 5 (ac.els l2)]:=uI (lK rfl) fun k3 i3 {l1 l2 z4 z5 x7 x8} h=>b h (uU (bE.eq_2 ..) (uC (jO ab fun e7=>(uW 108 ab [e7] (dp (nw aO _) fun r2=>(uN (eL ab) r2 (B9 17 0 [6] (uX ak (N8 [0,1] (jX k0 _ _ _ _ _ _ _ _) fun r3 _=>(uW 127 ac [r3.1] (AU 1 (vq (.stl 3 4) (Fs ac 4 [r3.1] (uJ i3)))))))))))) (uR (.exit 5) (xM (uJ J6)))));uE (L3 aO))))) (jO ah fun e8=>(gr f36 508 2 fun K k=>have J7:∀{x9},dJ p2 p6 p7 p8 e8 x9=some r→K.p [(0,vQ 0),(2,vi p2),(12,vQ 2),(23,vQ 3),(170,vb x9)] [.box [cl ah p6,.sl 1 1 0 p8.length,cb p7],.arr 1 (eI.els p8),.box [ci (0:Int),ci (0:Int),ci (0:Int),lL ByteArray.empty,.pv (.s (.slice none 0 0))],.box [cl eI e8.reps,cl eI e8.defs,cl ac e8.values]]:=fun{x9} h=>k h (uC (uR .ret oj) (Ld eI 1 fun e10 a74=>(Jz eI a74 (NC eI 1 a74 (OA eI 1 a74 (i64.wrap (e10+1)) (MU 1 (show p8.length=(p8.set p2.toNat (i64.wrap (e10+1))).length by simp) (pX 10 (Ld eI 1 fun e11 a76=>(Jz eI a76 (jO ac fun e12=>(CN 1 (uR .ret oj))))))))))));(pX 27 (uM ak a3 (uN eI e1.reps (uC (uJ J7) (uM ak a3 (uM eI a4 (uC (uJ J7) (Ld eI 1 fun e9 a69=>(Jz eI a69 (uN ac e8.values (uJ J7)))))))))))))));(uC (uC (gr f36 1956 2 fun K k=>have J4:∀{z3},jF p6 p8 z3=some r→K.p [(12,vQ 2)] [.box [cl ah p6,.sl 1 1 0 p8.length,cb z3],.arr 1 (eI.els p8),.box [ci (0:Int),ci (0:Int),ci (0:Int),lL ByteArray.empty,.pv (.s (.slice none 0 0))]]:=fun{z3} h=>k h (uR .ret (xN oj));(uN ak p3 (mC f36 7826 1 fun R b=>have L2:∀k2 {z1 x5},bG p3 p4 p6 p8 k2 z1 x5=some r→(R k2).p [(0,vQ 0),(4,vi p4),(12,vQ 2),(53,vl ak p3),(54,vi p3.length),(55,vi x5)] [.box [cl ah p6,.sl 1 1 0 p8.length,cb z1],.arr 1 (eI.els p8),.box [ci (0:Int),ci (0:Int),ci (0:Int),lL ByteArray.empty,.pv (.s (.slice none 0 0))]]:=uI (lK rfl) fun k2 i2 {z1 x5} h=>b h (uU (bG.eq_2 ..) (uC (gr f36 125222 1 fun K k=>have J3:∀{z2},fe (bG p3 p4 p6 p8 k2) x5 z2=some r→K.p [(0,vQ 0),(4,vi p4),(12,vQ 2),(53,vl ak p3),(54,vi p3.length),(55,vi x5)] [.box [cl ah p6,.sl 1 1 0 p8.length,cb z2],.arr 1 (eI.els p8),.box [ci (0:Int),ci (0:Int),ci (0:Int),lL ByteArray.empty,.pv (.s (.slice none 0 0))]]:=fun{z2} h=>k h (uJ i2);(jO ak fun e5=>(uC (uJ J3) (uN eI e5.reps (uC (uJ J3) (jO eI fun e6=>(uJ J3))))))) (uR (.exit 2) (xM (uJ J4)))));uE (L2 aO)))) (uJ J5)) (uJ J5)));(uN ak p3 (mC f36 58 1 fun R b=>have L1:∀k1 {x1 x2},bT (bl k0) (ax k0) p1 p2 p3 p4 p5 p6 p7 p8 e1 e2 k1 x1 x2=some r→(R k1).p [(0,vQ 0),(2,vi p2),(3,vl ak p3),(4,vi p4),(5,vi p5),(7,vR (jN p1)),(12,vQ 2),(13,vi x1),(30,vl ak p3),(31,vi p3.length),(32,vi x2)] (AZ p6 p7 p8):=uI (lK rfl) fun k1 i1 {x1 x2} h=>b h (uU (bT.eq_2 ..) (uC (gr f36 934 1 fun K k=>have J1:∀{x3},gZ (bT (bl k0) (ax k0) p1 p2 p3 p4 p5 p6 p7 p8 e1 e2 k1) x2 x3=some r→K.p [(0,vQ 0),(2,vi p2),(3,vl ak p3),(4,vi p4),(5,vi p5),(7,vR (jN p1)),(12,vQ 2),(13,vi x3),(30,vl ak p3),(31,vi p3.length),(32,vi x2)] (AZ p6 p7 p8):=fun{x3} h=>k h (uJ i1);(jO ak fun e3=>(uL eI fun e4 a14=>(uC (uM eI a14 (uJ J1)) (uJ J1))))) (uR (.exit 0) (xM (uJ J2)))));uE (L1 aO)))))))
end
def jh(rec1:Int→OB)(x2:Int)(x3:Bool):OB:=aF x3 (some false) (rec1 (i64.wrap (x2+1)))
def lq:OB:=some true
def dR(p1:ByteArray):Nat→Int→OB
 |0,_=>none
 |k1+1,x2=>aF (decide (x2<(p1.size:Int))) (eh (0≤x2∧x2<(p1.size:Int))<|aK (some (decide (((p1.data.toList.getD x2.toNat 0).toNat:Int)<32))) fun y1=>aF y1 (jh (dR p1 k1) x2 true) (eh (0≤x2∧x2<(p1.size:Int))<|jh (dR p1 k1) x2 (((p1.data.toList.getD x2.toNat 0).toNat:Int)==127))) (lq)
def je(p1:ByteArray)(x1:Bool):OB:=aF x1 (some false) (dR p1 aO 0)
def kZ(p1:ByteArray):OB:=aK (utf8_ValidString p1) fun r1=>aF (!r1) (je p1 true) (je p1 (decide (256<(p1.size:Int))))
theorem ui(p1:ByteArray):CT prog 190 [vs p1] (kZ p1) vb:=
  hJ 28 [] f190 fun r=>(gr f190 12 2 fun K k=>have J1:∀{x1},je p1 x1=some r→K.p [(0,vs p1),(11,vb x1)] []:=fun{x1} h=>k h (uC uz (sM f190 14 1 lq [] [] uz fun K J3=>(mC f190 58 1 fun R b=>have L1:∀k1 {x2},dR p1 k1 x2=some r→(R k1).p [(0,vs p1),(3,vi x2)] []:=uI (lK rfl) fun k1 i1 {x2} h=>b h (uU (dR.eq_2 ..) (uC (gr f190 1864 3 fun K k=>have J2:∀{x3},jh (dR p1 k1) x2 x3=some r→K.p [(0,vs p1),(3,vi x2),(27,vb x3)] []:=fun{x3} h=>k h (uC wj (uJ i1));(uG (uY 21 vb fun y1=>(uC (uJ J2) (uG (uJ J2)))))) (uR (.exit 0) (xM (uJ J3)))));uE (L1 aO))));(dp (oE _) fun r1=>(uC (uJ J1) (uJ J1))))
def kz(x2:Bool):OB:=some x2
def kV(x3:Bool):OB:=some x3
def kX(x4:Bool):OB:=some x4
def kF(x5:Bool):OB:=some x5
def jv(x6:Bool):OB:=some x6
def kL(x7:Bool):OB:=some x7
def jz(x8:Bool):OB:=some x8
def jy(x9:Bool):OB:=some x9
def kU(p1:aa)(x1:Bool):OB:=aF (p1.kind==0) (aF x1 (aF (p1.n==0) (kz (p1.scale==0)) (kz false)) (kz false)) (aF (p1.kind==1) (aF x1 (aK (eN p1.n 0 1) fun r1=>aF r1 (kV (p1.scale==0)) (kV false)) (kV false)) (aF (p1.kind==2) (aF x1 (aK (eN p1.n (-999999999999999999) 999999999999999999) fun r2=>aF r2 (kX (p1.scale==0)) (kX false)) (kX false)) (aF (p1.kind==3) (aF x1 (aK (eN p1.n (-999999999999999999) 999999999999999999) fun r3=>aF r3 (aK (eN p1.scale 0 12) fun r4=>kF r4) (kF false)) (kF false)) (aF (p1.kind==4) (aF ((p1.items.length:Int)==0) (aF (p1.n==0) (aF (p1.scale==0) (aK (kZ p1.s) fun r5=>jv r5) (jv false)) (jv false)) (jv false)) (aF (p1.kind==5) (aF x1 (aK (eN p1.n (-62135596800) 253402300799) fun r6=>aF r6 (kL (p1.scale==0)) (kL false)) (kL false)) (aF (p1.kind==6) (aF (p1.s.toList==(ByteArray.mk #[]).toList) (aF (p1.n==0) (aF (p1.scale==0) (jz (decide ((p1.items.length:Int)≤64))) (jz false)) (jz false)) (jz false)) (aF (p1.kind==7) (aF (p1.s.toList==(ByteArray.mk #[]).toList) (aF (p1.n==0) (aF (p1.scale==0) (jy (decide (0<(p1.items.length:Int)))) (jy false)) (jy false)) (jy false)) (some false))))))))
def qx(p1:aa):OB:=aF (p1.s.toList==(ByteArray.mk #[]).toList) (kU p1 ((p1.items.length:Int)==0)) (kU p1 false)
theorem A5(p1:aa):CT prog 164 [mV p1] (qx p1) vb:=
  hJ 143 [] f164 fun r=>(gr f164 6 1 fun K k=>have J1:∀{x1},kU p1 x1=some r→K.p [(1,vR [pi p1.kind,pi p1.n,pi p1.scale,.s (.string p1.s),.ro (ac.els p1.items)]),(3,vb x1)] []:=fun{x1} h=>k h (uC (gr f164 468 3 fun K k=>have J2:∀{x2},kz x2=some r→K.p [(2,vb x2)] []:=fun{x2} h=>k h uz;(uC (uC (uJ J2) (uJ J2)) (uJ J2))) (uC (gr f164 1884 3 fun K k=>have J3:∀{x3},kV x3=some r→K.p [(2,vb x3)] []:=fun{x3} h=>k h uz;(uC (dp (fG _ _ _) fun r1=>(uC (uJ J3) (uJ J3))) (uJ J3))) (uC (gr f164 7548 3 fun K k=>have J4:∀{x4},kX x4=some r→K.p [(2,vb x4)] []:=fun{x4} h=>k h uz;(uC (dp (fG _ _ _) fun r2=>(uC (uJ J4) (uJ J4))) (uJ J4))) (uC (gr f164 30204 3 fun K k=>have J5:∀{x5},kF x5=some r→K.p [(2,vb x5)] []:=fun{x5} h=>k h uz;(uC (dp (fG _ _ _) fun r3=>(uC (dp (fG _ _ _) fun r4=>(uJ J5)) (uJ J5))) (uJ J5))) (uC (gr f164 120828 3 fun K k=>have J6:∀{x6},jv x6=some r→K.p [(2,vb x6)] []:=fun{x6} h=>k h uz;(uN ac p1.items (uC (uC (uC (dp (ui _) fun r5=>(uJ J6)) (uJ J6)) (uJ J6)) (uJ J6)))) (uC (gr f164 483324 3 fun K k=>have J7:∀{x7},kL x7=some r→K.p [(2,vb x7)] []:=fun{x7} h=>k h uz;(uC (dp (fG _ _ _) fun r6=>(uC (uJ J7) (uJ J7))) (uJ J7))) (uC (gr f164 1933308 3 fun K k=>have J8:∀{x8},jz x8=some r→K.p [(2,vb x8)] []:=fun{x8} h=>k h uz;(uC (uC (uC (uN ac p1.items (uJ J8)) (uJ J8)) (uJ J8)) (uJ J8))) (uC (gr f164 7733244 3 fun K k=>have J9:∀{x9},jy x9=some r→K.p [(2,vb x9)] []:=fun{x9} h=>k h uz;(uC (uC (uC (uN ac p1.items (uJ J9)) (uJ J9)) (uJ J9)) (uJ J9))) uz))))))));(uC (uN ac p1.items (uJ J1)) (uJ J1)))
def pf(z3:Int):Option (Bool×Int):=some (true,z3)
def jE(q_ref1_sound:aa→Int→Int→Option (Bool×Int))(p1:aa)(p2:Int):Nat→Int→Int→Option (Bool×Int)
 |0,_,_=>none
 |k1+1,z2,x2=>aF (decide (x2<(p1.items.length:Int))) (aK (at? p1.items x2) fun e1=>aK (q_ref1_sound e1 (i64.wrap (p2+1)) z2) fun r2=>aF (!r2.1) (some (false,r2.2)) ((jE q_ref1_sound p1 p2 k1) r2.2 (i64.wrap (x2+1)))) (pf z2)
def jD(q_ref1_sound:aa→Int→Int→Option (Bool×Int))(p1:aa)(p2 z1:Int)(x1:Bool):Option (Bool×Int):=aF x1 (some (false,z1)) (jE q_ref1_sound p1 p2 aO z1 0)
def kH(q_ref1_sound:aa→Int→Int→Option (Bool×Int))(p1:aa)(p2 z1:Int):Option (Bool×Int):=aF (decide (4<p2)) (jD q_ref1_sound p1 p2 z1 true) (aF (decide (256<z1)) (jD q_ref1_sound p1 p2 z1 true) (aK (qx p1) fun r1=>jD q_ref1_sound p1 p2 z1 (!r1)))
def fq:Nat→aa→Int→Int→Option (Bool×Int)
 |0,_,_,_=>none
 |k0+1,p1,p2,p3=>aF (p1.kind != 0) (kH (fq k0) p1 p2 (i64.wrap (p3+1))) (kH (fq k0) p1 p2 p3)
theorem uA:∀(k0:Nat) (p1:aa) (p2 p3:Int),CM prog 109 [mV p1,vi p2,vQ 0] [.box [ci p3]] (fq k0 p1 p2 p3) (fun r=>vb r.1) (fun r=>[.box [ci r.2]])
  |0,_,_,_=>HI (fq.eq_1 ..)
  |k0+1,p1,p2,p3=>q9 1 46 [] f109 fun r=>(uU (fq.eq_2 ..) (gr f109 6 1 fun K k=>have J1:∀{z1},kH (fq k0) p1 p2 z1=some r→K.p [(1,vi p2),(2,vQ 0),(3,vR (bg p1))] [.box [ci z1]]:=fun{z1} h=>k h (gr f109 28 2 fun K k=>have J2:∀{x1},jD (fq k0) p1 p2 z1 x1=some r→K.p [(1,vi p2),(2,vQ 0),(3,vR (bg p1)),(28,vb x1)] [.box [ci z1]]:=fun{x1} h=>k h (uC (uR .ret oj) (gr f109 30 1 fun K k=>have J3:∀{z3},pf z3=some r→K.p [] [.box [ci z3]]:=fun{z3} h=>k h (uR .ret oj);(uN ac p1.items (mC f109 122 1 fun R b=>have L1:∀k1 {z2 x2},jE (fq k0) p1 p2 k1 z2 x2=some r→(R k1).p [(1,vi p2),(2,vQ 0),(3,vR (bg p1)),(31,vi p1.items.length),(32,vi x2)] [.box [ci z2]]:=uI (lK rfl) fun k1 i1 {z2 x2} h=>b h (uU (jE.eq_2 ..) (uC (jO ac fun e1=>(wP true [0] (uA k0 _ _ _) fun r2 _=>(uC (uR .ret (xN (xN oj))) (uJ i1)))) (uR (.exit 0) (xM (uJ J3)))));uE (L1 aO)))));(uC (uJ J2) (uC (uJ J2) (dp (A5 _) fun r1=>(uJ J2)))));(uC (uJ J1) (uJ J1))))
def p9(p1:aa):OB:=aK (fq aO p1 1 0) fun r1=>some r1.1
theorem AH(p1:aa):CT prog 51 [mV p1] (p9 p1) vb:=
  hJ 6 [3] f51 fun r=>(wP true [0] (uA aO _ _ _) fun r1 _=>uz)
def qk(rec1:Int→OB)(q_ref1_of:aq→aa→OB)(p1:aq)(p2:aa)(x3 x4:Int):OB:=aK (at? p1.fields x4) fun e1=>aK (at? p2.items x3) fun e2=>aK (q_ref1_of e1.type e2) fun r1=>aF (!r1) (some false) (rec1 (i64.wrap (x3+1)))
def tD:OB:=some true
def fo(q_ref1_of:aq→aa→OB)(p1:aq)(p2:aa):Nat→Int→OB
 |0,_=>none
 |k1+1,x3=>aF (decide (x3<(p2.items.length:Int))) (aF (p1.kind==6) (qk (fo q_ref1_of p1 p2 k1) q_ref1_of p1 p2 x3 0) (qk (fo q_ref1_of p1 p2 k1) q_ref1_of p1 p2 x3 x3)) (tD)
def mO(q_ref1_of:aq→aa→OB)(p1:aq)(p2:aa)(x2:Bool):OB:=aF x2 (some false) (fo q_ref1_of p1 p2 aO 0)
def pY(q_ref1_of:aq→aa→OB)(p1:aq)(p2:aa)(x1:Bool):OB:=aF x1 (some false) (aF (p1.kind==7) (mO q_ref1_of p1 p2 ((p2.items.length:Int) != (p1.fields.length:Int))) (mO q_ref1_of p1 p2 false))
def fc:Nat→aq→aa→OB
 |0,_,_=>none
 |k0+1,p1,p2=>aF (p2.kind==0) (some true) (aF (p2.kind != p1.kind) (pY (fc k0) p1 p2 true) (pY (fc k0) p1 p2 (p2.scale != p1.scale)))
theorem Aa:∀(k0:Nat) (p1:aq) (p2:aa),CT prog 52 [mT p1,mV p2] (fc k0 p1 p2) vb
  |0,_,_=>AK (fc.eq_1 ..)
  |k0+1,p1,p2=>hJ 58 [] f52 fun r=>(uU (fc.eq_2 ..) (uC uz (gr f52 28 2 fun K k=>have J1:∀{x1},pY (fc k0) p1 p2 x1=some r→K.p [(2,vR (lQ p1)),(3,vR (bg p2)),(21,vb x1)] []:=fun{x1} h=>k h (uC uz (gr f52 60 2 fun K k=>have J2:∀{x2},mO (fc k0) p1 p2 x2=some r→K.p [(2,vR (lQ p1)),(3,vR (bg p2)),(33,vb x2)] []:=fun{x2} h=>k h (uC uz (sM f52 62 1 tD [] [] uz fun K J4=>(uN ac p2.items (mC f52 250 1 fun R b=>have L1:∀k1 {x3},fo (fc k0) p1 p2 k1 x3=some r→(R k1).p [(2,vR (lQ p1)),(3,vR (bg p2)),(36,vi p2.items.length),(37,vi x3)] []:=uI (lK rfl) fun k1 i1 {x3} h=>b h (uU (fo.eq_2 ..) (uC (gr f52 64102 3 fun K k=>have J3:∀{x4},qk (fo (fc k0) p1 p2 k1) (fc k0) p1 p2 x3 x4=some r→K.p [(2,vR (lQ p1)),(3,vR (bg p2)),(5,vi x3),(6,vi x4),(36,vi p2.items.length),(37,vi x3)] []:=fun{x4} h=>k h (pX 11 (jO ab fun e1=>(jO ac fun e2=>(dp (Aa k0 _ _) fun r1=>(uC wj (uJ i1))))));(uC (uJ J3) (uJ J3))) (uR (.exit 0) (xM (uJ J4)))));uE (L1 aO)))));(uC (uN ac p2.items (uN ab p1.fields (uJ J2))) (uJ J2))));(uC (uJ J1) (uJ J1)))))
def jq(rec1:Int→OB)(x1:Int)(x3:Bool):OB:=aF x3 (some true) (rec1 (i64.wrap (x1+1)))
def jt(rec1:Int→OB)(q_ref1_missing:aq→aa→OB)(p1:aq)(p2:aa)(x1 x2:Int):OB:=aK (at? p1.fields x2) fun e1=>aF e1.need (aK (at? p2.items x1) fun e2=>aF (e2.kind==0) (jq rec1 x1 true) (aK (q_ref1_missing e1.type e2) fun r1=>jq rec1 x1 r1)) (aK (at? p2.items x1) fun e3=>aK (q_ref1_missing e1.type e3) fun r2=>jq rec1 x1 r2)
def nJ:OB:=some false
def da(q_ref1_missing:aq→aa→OB)(p1:aq)(p2:aa):Nat→Int→OB
 |0,_=>none
 |k1+1,x1=>aF (decide (x1<(p2.items.length:Int))) (aF (p1.kind==6) (jt (da q_ref1_missing p1 p2 k1) q_ref1_missing p1 p2 x1 0) (jt (da q_ref1_missing p1 p2 k1) q_ref1_missing p1 p2 x1 x1)) (nJ)
def cX:Nat→aq→aa→OB
 |0,_,_=>none
 |k0+1,p1,p2=>da (cX k0) p1 p2 aO 0
theorem oK:∀(k0:Nat) (p1:aq) (p2:aa),CT prog 53 [mT p1,mV p2] (cX k0 p1 p2) vb
  |0,_,_=>AK (cX.eq_1 ..)
  |k0+1,p1,p2=>hJ 45 [7] f53 fun r=>(uU (cX.eq_2 ..) (sM f53 6 1 nJ [] [] uz fun K J3=>(uN ac p2.items (mC f53 26 1 fun R b=>have L1:∀k1 {x1},da (cX k0) p1 p2 k1 x1=some r→(R k1).p [(2,vR (lQ p1)),(3,vR (bg p2)),(10,vi p2.items.length),(11,vi x1)] []:=uI (lK rfl) fun k1 i1 {x1} h=>b h (uU (da.eq_2 ..) (uC (gr f53 6758 3 fun K k=>have J1:∀{x2},jt (da (cX k0) p1 p2 k1) (cX k0) p1 p2 x1 x2=some r→K.p [(2,vR (lQ p1)),(3,vR (bg p2)),(5,vi x1),(6,vi x2),(10,vi p2.items.length),(11,vi x1)] []:=fun{x2} h=>k h (jO ab fun e1=>(gr f53 27038 3 fun K k=>have J2:∀{x3},jq (da (cX k0) p1 p2 k1) x1 x3=some r→K.p [(2,vR (lQ p1)),(3,vR (bg p2)),(10,vi p2.items.length),(11,vi x1),(43,vb x3)] [.dead]:=fun{x3} h=>k h (uC wj (uJ i1));(pX 19 (uC (uL ac fun e2 a17=>(uC (uJ J2) (uM ac a17 (dp (oK k0 _ _) fun r1=>(uJ J2))))) (jO ac fun e3=>(dp (oK k0 _ _) fun r2=>(uJ J2)))))));(uC (uJ J1) (uJ J1))) (uR (.exit 0) (xM (uJ J3)))));uE (L1 aO)))))
def oG(p1:aq)(p2:aa):OI:=aK (j6 p1) fun r1=>aF (r1 != 0) (some r1) (aK (p9 p2) fun r2=>aF (!r2) (some 1) (aK (fc aO p1 p2) fun r3=>aF (!r3) (some 2) (aK (cX aO p1 p2) fun r4=>aF r4 (some 9) (some 0))))
theorem Az(p1:aq)(p2:aa):CT prog 21 [mT p1,mV p2] (oG p1 p2) vi:=
  hJ 21 [] f21 fun r=>(dp (pE _) fun r1=>(uC uz (dp (AH _) fun r2=>(uC uz (dp (Aa aO _ _) fun r3=>(uC uz (dp (oK aO _ _) fun r4=>(uC uz uz))))))))
def kg(rec1:Int→OI)(x1:Int)(x2:Bool):OI:=aF x2 (some 9) (rec1 (i64.wrap (x1+1)))
def nc:OI:=some 0
def ed(p1:List af)(p2:List aa):Nat→Int→OI
 |0,_=>none
 |k1+1,x1=>aF (decide (x1<(p1.length:Int))) (aK (at? p1 x1) fun e1=>aK (at? p2 x1) fun e2=>aK (oG e1.type e2) fun r1=>aF (r1 != 0) (some r1) (aF e1.need (kg (ed p1 p2 k1) x1 (e2.kind==0)) (kg (ed p1 p2 k1) x1 false))) (nc)
def pr(p1:List af)(p2:List aa):OI:=aF ((p2.length:Int) != (p1.length:Int)) (some 1) (ed p1 p2 aO 0)
theorem wJ(p1:List af)(p2:List aa):CT prog 86 [vl ab p1,vl ac p2] (pr p1 p2) vi:=
  hJ 44 [] f86 fun r=>(uN ac p2 (uN ab p1 (uC uz (sM f86 14 1 nc [] [] uz fun K J2=>(uN ab p1 (mC f86 58 1 fun R b=>have L1:∀k1 {x1},ed p1 p2 k1 x1=some r→(R k1).p [(0,vl ab p1),(1,vl ac p2),(13,vi p1.length),(14,vi x1)] []:=uI (lK rfl) fun k1 i1 {x1} h=>b h (uU (ed.eq_2 ..) (uC (pX 9 (uL ab fun e1 a15=>(uL ac fun e2 a16=>(dp (Az _ _) fun r1=>(uC wj (gr f86 14950 3 fun K k=>have J1:∀{x2},kg (ed p1 p2 k1) x1 x2=some r→K.p [(0,vl ab p1),(1,vl ac p2),(13,vi p1.length),(14,vi x1),(42,vb x2)] []:=fun{x2} h=>k h (uC wj (uJ i1));(uM ab a15 (uC (uM ac a16 (uJ J1)) (uJ J1))))))))) (uR (.exit 0) (xM (uJ J2)))));uE (L1 aO)))))))
def pa:OI:=some 0
def eV(p1:List af)(p2:List (List aa)):Nat→Int→OI
 |0,_=>none
 |k1+1,x1=>aF (decide (x1<(p2.length:Int))) (aK (at? p2 x1) fun e1=>aK (pr p1 e1) fun r2=>aF (r2 != 0) (some r2) ((eV p1 p2 k1) (i64.wrap (x1+1)))) (pa)
def mg(p1:List af)(p2:List (List aa)):OI:=aK (gM p1) fun r1=>aF (r1 != 0) (some r1) (aF (decide (2000<(p2.length:Int))) (some 7) (eV p1 p2 aO 0))
theorem pJ(p1:List af)(p2:List (List aa)):CT prog 37 [vl ab p1,vl (eL ac) p2] (mg p1 p2) vi:=
  hJ 30 [] f37 fun r=>(dp (oF _) fun r1=>(uC uz (uN (eL ac) p2 (uC uz (sM f37 30 1 pa [] [] uz fun K J1=>(uN (eL ac) p2 (mC f37 122 1 fun R b=>have L1:∀k1 {x1},eV p1 p2 k1 x1=some r→(R k1).p [(0,vl ab p1),(17,vl (eL ac) p2),(18,vi p2.length),(19,vi x1)] []:=uI (lK rfl) fun k1 i1 {x1} h=>b h (uU (eV.eq_2 ..) (uC (jO (eL ac) fun e1=>(dp (wJ _ _) fun r2=>(uC wj (uJ i1)))) (uR (.exit 0) (xM (uJ J1)))));uE (L1 aO))))))))
def il(rec1:List Int→List Int→List aa→Int→Option (Unit×ae))(q_ref2_entries:(List af)→aa→Int→Int→Int→ae→Option (Unit×ae))(p1:List af)(p2:aa)(p5 x1:Int)(l1 l2:List Int)(l3:List aa)(x2 x3:Int):Option (Unit×ae):=eh (0≤(1:Int)∧1≤(p1.length:Int))<|aK (at? p2.items x2) fun e2=>aK (q_ref2_entries (p1.drop (1:Int).toNat) e2 x3 (i64.wrap (x1+1)) (i64.wrap (p5+1)) (ae.mk l1 l2 l3)) fun r1=>rec1 r1.2.reps r1.2.defs r1.2.values (i64.wrap (x2+1))
def du(q_ref2_entries:(List af)→aa→Int→Int→Int→ae→Option (Unit×ae))(p1:List af)(p2:aa)(p3 p5 x1:Int):Nat→List Int→List Int→List aa→Int→Option (Unit×ae)
 |0,_,_,_,_=>none
 |k1+1,l1,l2,l3,x2=>aF (decide (x2<(p2.items.length:Int))) (aF (decide (0<x2)) (il (du q_ref2_entries p1 p2 p3 p5 x1 k1) q_ref2_entries p1 p2 p5 x1 l1 l2 l3 x2 (i64.wrap (p5+1))) (il (du q_ref2_entries p1 p2 p3 p5 x1 k1) q_ref2_entries p1 p2 p5 x1 l1 l2 l3 x2 p3)) (some ((),(ae.mk l1 l2 l3)))
def ju(rec2:List Int→List Int→List aa→Int→Option (Unit×ae))(x4:Int)(l7 l8:List Int)(l9:List aa):Option (Unit×ae):=rec2 l7 l8 l9 (i64.wrap (x4+1))
def dV(q_ref2_entries:(List af)→aa→Int→Int→Int→ae→Option (Unit×ae))(p1:List af)(p2:aa)(p3 p5:Int)(e1:af)(x1:Int):Nat→List Int→List Int→List aa→Int→Option (Unit×ae)
 |0,_,_,_,_=>none
 |k2+1,l4,l5,l6,x4=>aF (decide (x4<(e1.type.fields.length:Int))) (aK (at? e1.type.fields x4) fun e3=>aK (at? p1 1) fun e4=>aF (e3.id==e4.id) (eh (0≤(1:Int)∧1≤(p1.length:Int))<|aK (at? p2.items x4) fun e5=>aK (q_ref2_entries (p1.drop (1:Int).toNat) e5 p3 x1 p5 (ae.mk l4 l5 l6)) fun r2=>ju (dV q_ref2_entries p1 p2 p3 p5 e1 x1 k2) x4 r2.2.reps r2.2.defs r2.2.values) (ju (dV q_ref2_entries p1 p2 p3 p5 e1 x1 k2) x4 l4 l5 l6)) (some ((),(ae.mk l4 l5 l6)))
def ii(q_ref2_entries:(List af)→aa→Int→Int→Int→ae→Option (Unit×ae))(p1:List af)(p2:aa)(p3 p5:Int)(p6:ae)(e1:af)(x1:Int):Option (Unit×ae):=aF (e1.type.kind==6) (aF ((p2.items.length:Int)==0) (eh (p6.reps.length+1≤4294967296)<|eh (p6.defs.length+1≤4294967296)<|some ((),(ae.mk (p6.reps++[p3]) (p6.defs++[x1]) p6.values))) (du q_ref2_entries p1 p2 p3 p5 x1 aO p6.reps p6.defs p6.values 0)) (aF (e1.type.kind==7) (dV q_ref2_entries p1 p2 p3 p5 e1 x1 aO p6.reps p6.defs p6.values 0) (eh (p6.reps.length+1≤4294967296)<|eh (p6.defs.length+1≤4294967296)<|eh (p6.values.length+1≤4294967296)<|some ((),(ae.mk (p6.reps++[p3]) (p6.defs++[x1]) (p6.values++[p2])))))
def bR:Nat→(List af)→aa→Int→Int→Int→ae→Option (Unit×ae)
 |0,_,_,_,_,_,_=>none
 |k0+1,p1,p2,p3,p4,p5,p6=>aK (at? p1 0) fun e1=>aF (!e1.need) (aF (p2.kind==0) (eh (p6.reps.length+1≤4294967296)<|eh (p6.defs.length+1≤4294967296)<|some ((),(ae.mk (p6.reps++[p3]) (p6.defs++[p4]) p6.values))) (ii (bR k0) p1 p2 p3 p5 p6 e1 (i64.wrap (p4+1)))) (ii (bR k0) p1 p2 p3 p5 p6 e1 p4)
abbrev D2(p6:ae):List CV:=[.sl 1 1 0 p6.reps.length,.sl 2 1 0 p6.defs.length,.sl 3 5 0 p6.values.length]
abbrev DH(p3:Int)(p6:ae):List CV:=[.sl 5 1 0 ((p6.reps++[p3]).length),.sl 2 1 0 p6.defs.length,.sl 3 5 0 p6.values.length]
abbrev IR(p3:Int)(p6:ae)(x1:Int):List CV:=[.sl 5 1 0 ((p6.reps++[p3]).length),.sl 6 1 0 ((p6.defs++[x1]).length),.sl 3 5 0 p6.values.length]
abbrev In(l1 l2:List Int)(l3:List aa):List CV:=[.sl 1 1 0 l1.length,.sl 2 1 0 l2.length,.sl 3 5 0 l3.length]
abbrev I2(p6:ae)(e1:af):St:=[.box (D2 p6),.arr 1 (eI.els p6.reps),.arr 1 (eI.els p6.defs),.arr 5 (ac.els p6.values),.box (cq e1)]
abbrev Ed(p1:(List af))(p2:aa)(p3 p5:Int)(p6:ae)(x1:Int):Fr:=[(104,.one (.pt 0 0 0 0)),(103,.one (.pt 0 0 0 0)),(102,.one (.sl 6 1 0 ((p6.defs++[x1]).length))),(101,vl eI [x1]),(100,vi x1),(99,.one (.sl 2 1 0 p6.defs.length)),(98,.one (.pt 0 0 0 1)),(97,.one (.pt 0 0 0 0)),(96,.one (.pt 0 0 0 0)),(95,.one (.sl 5 1 0 ((p6.reps++[p3]).length))),(94,vl eI [p3]),(93,vi p3),(92,.one (.sl 1 1 0 p6.reps.length)),(91,.one (.pt 0 0 0 0)),(90,.one (.pt 0 0 0 0)),(89,.one (.pt 0 0 0 0)),(88,.one (.pt 0 0 0 0)),(87,.one (.pt 0 0 0 0)),(0,.one (.pt 0 0 0 0)),(1,vl ab p1),(3,vi p3),(4,vi x1),(5,vi p5),(8,.one (.pv (.rp [(bg p2)] 0 0))),(86,vb ((p2.items.length:Int)==0))]
abbrev Jb(p3:Int)(p6:ae)(e1:af)(x1:Int):St:=[.box (DH p3 p6),.dead,.dead,.arr 5 (ac.els p6.values),.box (cq e1),.arr 1 (eI.els (p6.reps++[p3])),.arr 1 (eI.els (p6.defs++[x1]))]
abbrev EA(l1 l2:List Int)(l3:List aa):St:=[.box (In l1 l2 l3),.arr 1 (eI.els l1),.arr 1 (eI.els l2),.arr 5 (ac.els l3),.dead]
abbrev HZ(p1:(List af))(p2:aa)(p3 p5 x1:Int):Fr:=[(0,.one (.pt 0 0 0 0)),(1,vl ab p1),(3,vi p3),(4,vi x1),(5,vi p5),(8,.one (.pv (.rp [(bg p2)] 0 0))),(109,vi (p2.items.length:Int)),(110,vi (0:Int))]
abbrev IL(p6:ae):St:=[.box (D2 p6),.arr 1 (eI.els p6.reps),.arr 1 (eI.els p6.defs),.arr 5 (ac.els p6.values),.dead]
abbrev vJ(p1:(List af))(p2:aa)(p3 p5:Int)(e1:af)(x1 x4:Int):Fr:=[(0,.one (.pt 0 0 0 0)),(1,vl ab p1),(3,vi p3),(4,vi x1),(5,vi p5),(8,.one (.pv (.rp [(bg p2)] 0 0))),(137,vl ab e1.type.fields),(138,vi (e1.type.fields.length:Int)),(139,vi x4)]
abbrev Hs(p1:(List af))(p2:aa)(p3 p5:Int)(e1:af)(x1 x4:Int)(e3 e4:af):Fr:=[(149,vi e4.id),(148,.one (.pv (.rp (ab.els p1) ((1:Int).toNat) 0))),(147,.one (.pv (.rp (ab.els p1) ((1:Int).toNat) 0))),(146,vl ab p1),(145,vi e3.id),(144,.one (.pt 5 0 0 0)),(0,.one (.pt 0 0 0 0)),(1,vl ab p1),(3,vi p3),(4,vi x1),(5,vi p5),(8,.one (.pv (.rp [(bg p2)] 0 0))),(15,vi x4),(16,.one (.pt 5 0 0 0)),(137,vl ab e1.type.fields),(138,vi (e1.type.fields.length:Int)),(139,vi x4)]
abbrev HT(p1:(List af))(p2:aa)(p3 p5:Int)(e1:af)(x1:Int):Fr:=[(0,.one (.pt 0 0 0 0)),(1,vl ab p1),(3,vi p3),(4,vi x1),(5,vi p5),(8,.one (.pv (.rp [(bg p2)] 0 0))),(137,vl ab e1.type.fields),(138,vi (e1.type.fields.length:Int)),(139,vi (0:Int))]
abbrev Ez(p1:(List af))(p2:aa)(p3 p5:Int)(p6:ae)(e1:af)(x1:Int):Fr:=[(78,.one (.pt 0 0 0 1)),(77,.one (.pt 0 0 0 0)),(76,.one (.pt 0 0 0 0)),(75,.one (.pt 0 0 0 0)),(74,.one (.sl 7 5 0 ((p6.values++[p2]).length))),(73,vl ac [p2]),(72,.ag (fv p2)),(71,.one (.sl 3 5 0 p6.values.length)),(70,.one (.pt 0 0 0 2)),(69,.one (.pt 0 0 0 0)),(68,.one (.pt 0 0 0 0)),(67,.one (.sl 6 1 0 ((p6.defs++[x1]).length))),(66,vl eI [x1]),(65,vi x1),(64,.one (.sl 2 1 0 p6.defs.length)),(63,.one (.pt 0 0 0 1)),(62,.one (.pt 0 0 0 0)),(61,.one (.pt 0 0 0 0)),(60,.one (.sl 5 1 0 ((p6.reps++[p3]).length))),(59,vl eI [p3]),(58,vi p3),(57,.one (.sl 1 1 0 p6.reps.length)),(56,.one (.pt 0 0 0 0)),(55,.one (.pt 0 0 0 0)),(54,.one (.pt 0 0 0 0)),(53,.one (.pt 0 0 0 0)),(52,.one (.pt 0 0 0 0)),(51,.one (.pt 0 0 0 0)),(0,.one (.pt 0 0 0 0)),(1,vl ab p1),(3,vi p3),(4,vi x1),(5,vi p5),(8,.one (.pv (.rp [(bg p2)] 0 0))),(12,.one (.pt 4 0 0 0)),(133,vb (e1.type.kind==7))]
abbrev Jw(p2:aa)(p3:Int)(p6:ae)(e1:af)(x1:Int):St:=[.box (IR p3 p6 x1),.dead,.dead,.dead,.box (cq e1),.arr 1 (eI.els (p6.reps++[p3])),.arr 1 (eI.els (p6.defs++[x1])),.arr 5 (ac.els (p6.values++[p2]))]
abbrev I9(p1:(List af))(p2:aa)(p3 p5:Int)(p6:ae)(e1:af)(x1:Int):Fr:=[(76,.one (.pt 0 0 0 0)),(75,.one (.pt 0 0 0 0)),(74,.one (.sl 7 5 0 ((p6.values++[p2]).length))),(73,vl ac [p2]),(72,.ag (fv p2)),(71,.one (.sl 3 5 0 p6.values.length)),(70,.one (.pt 0 0 0 2)),(69,.one (.pt 0 0 0 0)),(68,.one (.pt 0 0 0 0)),(67,.one (.sl 6 1 0 ((p6.defs++[x1]).length))),(66,vl eI [x1]),(65,vi x1),(64,.one (.sl 2 1 0 p6.defs.length)),(63,.one (.pt 0 0 0 1)),(62,.one (.pt 0 0 0 0)),(61,.one (.pt 0 0 0 0)),(60,.one (.sl 5 1 0 ((p6.reps++[p3]).length))),(59,vl eI [p3]),(58,vi p3),(57,.one (.sl 1 1 0 p6.reps.length)),(56,.one (.pt 0 0 0 0)),(55,.one (.pt 0 0 0 0)),(54,.one (.pt 0 0 0 0)),(53,.one (.pt 0 0 0 0)),(52,.one (.pt 0 0 0 0)),(51,.one (.pt 0 0 0 0)),(0,.one (.pt 0 0 0 0)),(1,vl ab p1),(3,vi p3),(4,vi x1),(5,vi p5),(8,.one (.pv (.rp [(bg p2)] 0 0))),(12,.one (.pt 4 0 0 0)),(133,vb (e1.type.kind==7))]
abbrev Ei(p1:(List af))(p2:aa)(p3 p4 p5:Int)(p6:ae):Fr:=[(43,.one (.pt 0 0 0 0)),(42,.one (.pt 0 0 0 0)),(41,.one (.sl 6 1 0 ((p6.defs++[p4]).length))),(40,vl eI [p4]),(39,vi p4),(38,.one (.sl 2 1 0 p6.defs.length)),(37,.one (.pt 0 0 0 1)),(36,.one (.pt 0 0 0 0)),(35,.one (.pt 0 0 0 0)),(34,.one (.sl 5 1 0 ((p6.reps++[p3]).length))),(33,vl eI [p3]),(32,vi p3),(31,.one (.sl 1 1 0 p6.reps.length)),(30,.one (.pt 0 0 0 0)),(29,.one (.pt 0 0 0 0)),(28,.one (.pt 0 0 0 0)),(27,.one (.pt 0 0 0 0)),(26,.one (.pt 0 0 0 0)),(0,.one (.pt 0 0 0 0)),(1,vl ab p1),(3,vi p3),(4,vi p4),(5,vi p5),(8,.one (.pv (.rp [(bg p2)] 0 0))),(12,.one (.pt 4 0 0 0)),(25,vb (p2.kind==0))]
abbrev H9(p3 p4:Int)(p6:ae)(e1:af):St:=[.box (DH p3 p6),.dead,.dead,.arr 5 (ac.els p6.values),.box (cq e1),.arr 1 (eI.els (p6.reps++[p3])),.arr 1 (eI.els (p6.defs++[p4]))]
theorem oy:∀(k0:Nat) (p1:(List af)) (p2:aa) (p3 p4 p5:Int) (p6:ae) (r:(Unit×ae)),bR k0 p1 p2 p3 p4 p5 p6=some r→MX prog 88 [vQ 0,vl ab p1,.ag (fv p2),vi p3,vi p4,vi p5] [.box (D2 p6),.arr 1 (eI.els p6.reps),.arr 1 (eI.els p6.defs),.arr 5 (ac.els p6.values)] [1,2,3] (.tp []) [.box [.sl 1 1 0 r.2.reps.length,.sl 2 1 0 r.2.defs.length,.sl 3 5 0 r.2.values.length],.arr 1 (eI.els r.2.reps),.arr 1 (eI.els r.2.defs),.arr 5 (ac.els r.2.values)]
 |0,_,_,_,_,_,_,r,h=>by rw[bR.eq_1]at h;cases h
 |k0+1,p1,p2,p3,p4,p5,p6,r,h=>by
  rw[bR.eq_2]at h
  refine MX.of 4 4 rfl (n:=164) (fn:=f88) (c:=cd f88 []) (by kernel_rfl) (by kernel_rfl) (by kernel_rfl) (n4 rfl) rfl (zq fun K1 hK1=>zr (zg [12,16,34,41,60,67,74,95,102] 1 [0,1,3,4,5,8] (zd (hK1 _ _ (zq fun K2 hK2=> ?_)))))
  obtain⟨e1,a3,h⟩:=zB h
  refine zr (zo [12,16,34,41,60,67,74,95,102] 5 [0,1,3,4,5,8,12] [(jN e1)] [0≤(0:Int)∧(0:Int)<((ab.els p1).length:Int)∧aT 6 (ab.els p1),(ab.els p1)[(0:Int).toNat]? =some (jN e1)] (⟨ab.inb a3,((ab.get a3).trans (by rcases e1 with⟨_,_,_,⟨_,_,_⟩⟩;rfl)),trivial⟩) (zd (hK2 _ _ (zq fun K4 hK4=> ?_))))
  have hJ1:∀(x1:Int),ii (bR k0) p1 p2 p3 p5 p6 e1 x1=some r→∀fr1 st1,bW 164 4 [1,2,3] fr1 st1 [(0,vQ 0),(1,vl ab p1),(3,vi p3),(4,vi x1),(5,vi p5),(8,vR (bg p2)),(12,vQ 4)] (I2 p6 e1)→K4 fr1 st1:=by
   intro x1 h fr1 st1 hS
   unfold ii at h
   refine hK4 _ _ (XW.sub hS ?_)
   refine zq fun K13 hK13=>zr (zg [12,16,34,41,60,67,74,95,102] 3 [0,1,3,4,5,8,12,50] (zd (hK13 _ _ (zb 0 (zq fun K14 hK14=>zr ?_)))))
   refine zg [12,16,34,41,60,67,74,95,102] 2 [0,1,3,4,5,8,12,50,81] (zd (hK14 _ _ (zC h (fun b15 h=> ?_) (fun b15 h=> ?_))))
   ·refine zq fun K16 hK16=>zq fun K17 hK17=>zr ?_
    refine zv [12,16,34,41,60,67,74,95,102] 3 [0,1,3,4,5,8,85] [[pi p2.kind,pi p2.n,pi p2.scale,.s (.string p2.s),.ro (ac.els p2.items)]] [(0,vQ 0),(1,vl ab p1),(3,vi p3),(4,vi x1),(5,vi p5),(8,vR [pi p2.kind,pi p2.n,pi p2.scale,.s (.string p2.s),.ro (ac.els p2.items)]),(85,vi ((ac.els p2.items).length:Int))] [.box [.sl 1 1 0 p6.reps.length,.sl 2 1 0 p6.defs.length,.sl 3 5 0 p6.values.length],.arr 1 (eI.els p6.reps),.arr 1 (eI.els p6.defs),.arr 5 (ac.els p6.values),.box [ci e1.id,lL e1.name,cb e1.need,ci e1.type.kind,ci e1.type.scale,cl ab e1.type.fields]] ?_
    rw[ac.len p2.items]
    refine zg [12,16,34,41,60,67,74,95,102] 1 [0,1,3,4,5,8,86] (zd (hK17 _ _ (zC h (fun b18 h=> ?_) (fun b18 h=> ?_))))
    ·refine zq fun K19 hK19=> ?_
     obtain⟨g20,h⟩:=zG h
     obtain⟨g21,h⟩:=zG h
     refine XW.sub (bW.dead 2) ?_
     refine XW.drwG 19 [5,6,7] [([],[]),([],[]),([],[]),([],[]),([],[]),([0],[]),([],[]),([],[]),([5,1,1005],[5,1,1005]),([],[]),([],[]),([],[]),([0],[]),([],[]),([],[]),([6,2,1006],[6,2,1006]),([],[]),([],[]),([0,1005],[0])] (Ed p1 p2 p3 p5 p6 x1) (Jb p3 p6 e1 x1) (by kernel_rfl) (by kernel_rfl) ?_ ?_
     ·refine xz 8 [] [(94,vl eI [p3]),(93,vi p3),(92,.one (.sl 1 1 0 p6.reps.length)),(91,vQ 0),(90,vQ 0),(89,vQ 0),(88,vQ 0),(87,vQ 0),(0,vQ 0),(1,vl ab p1),(3,vi p3),(4,vi x1),(5,vi p5),(8,vR (bg p2)),(86,vb ((p2.items.length:Int)==0))] ?_
      refine GY.new true 5 [] [(95,.one (.sl 5 1 0 (p6.reps.length+(eI.els [p3]).length))),(94,vl eI [p3]),(93,vi p3),(92,.one (.sl 1 1 0 p6.reps.length)),(91,vQ 0),(90,vQ 0),(89,vQ 0),(88,vQ 0),(87,vQ 0),(0,vQ 0),(1,vl ab p1),(3,vi p3),(4,vi x1),(5,vi p5),(8,vR [pi p2.kind,pi p2.n,pi p2.scale,.s (.string p2.s),.ro (ac.els p2.items)]),(86,vb ((p2.items.length:Int)==0))] [5,1] [.box [.sl 1 1 0 p6.reps.length,.sl 2 1 0 p6.defs.length,.sl 3 5 0 p6.values.length],.dead,.arr 1 (eI.els p6.defs),.arr 5 (ac.els p6.values),.box [ci e1.id,lL e1.name,cb e1.need,ci e1.type.kind,ci e1.type.scale,cl ab e1.type.fields],.arr 1 (eI.els p6.reps++eI.els [p3]),.dead] [aT 1 (eI.els [p3]),p6.reps.length=(eI.els p6.reps).length,p6.reps.length+(eI.els [p3]).length≤4294967296] (by kernel_rfl) (by kernel_rfl) (⟨eI.ok _,(eI.len p6.reps).symm,g20,trivial⟩) (by kernel_rfl) ?_
      rw[show p6.reps.length+(eI.els [p3]).length=(p6.reps++[p3]).length from eI.lapp _ _]
      rw[show eI.els p6.reps++eI.els [p3]=eI.els (p6.reps++[p3])from eI.app2 _ _]
      refine xz 6 [] [(101,vl eI [x1]),(100,vi x1),(99,.one (.sl 2 1 0 p6.defs.length)),(98,.one (.pt 0 0 0 1)),(97,vQ 0),(96,vQ 0),(95,.one (.sl 5 1 0 ((p6.reps++[p3]).length))),(94,vl eI [p3]),(93,vi p3),(92,.one (.sl 1 1 0 p6.reps.length)),(91,vQ 0),(90,vQ 0),(89,vQ 0),(88,vQ 0),(87,vQ 0),(0,vQ 0),(1,vl ab p1),(3,vi p3),(4,vi x1),(5,vi p5),(8,vR (bg p2)),(86,vb ((p2.items.length:Int)==0))] ?_
      refine GY.new true 6 [] [(102,.one (.sl 6 1 0 (p6.defs.length+(eI.els [x1]).length))),(101,vl eI [x1]),(100,vi x1),(99,.one (.sl 2 1 0 p6.defs.length)),(98,.one (.pt 0 0 0 1)),(97,vQ 0),(96,vQ 0),(95,.one (.sl 5 1 0 ((p6.reps++[p3]).length))),(94,vl eI [p3]),(93,vi p3),(92,.one (.sl 1 1 0 p6.reps.length)),(91,vQ 0),(90,vQ 0),(89,vQ 0),(88,vQ 0),(87,vQ 0),(0,vQ 0),(1,vl ab p1),(3,vi p3),(4,vi x1),(5,vi p5),(8,vR [pi p2.kind,pi p2.n,pi p2.scale,.s (.string p2.s),.ro (ac.els p2.items)]),(86,vb ((p2.items.length:Int)==0))] [6,2] [.box [.sl 1 1 0 p6.reps.length,.sl 2 1 0 p6.defs.length,.sl 3 5 0 p6.values.length],.dead,.dead,.arr 5 (ac.els p6.values),.box [ci e1.id,lL e1.name,cb e1.need,ci e1.type.kind,ci e1.type.scale,cl ab e1.type.fields],.arr 1 (eI.els (p6.reps++[p3])),.arr 1 (eI.els p6.defs++eI.els [x1])] [aT 1 (eI.els [x1]),p6.defs.length=(eI.els p6.defs).length,p6.defs.length+(eI.els [x1]).length≤4294967296] (by kernel_rfl) (by kernel_rfl) (⟨eI.ok _,(eI.len p6.defs).symm,g21,trivial⟩) (by kernel_rfl) ?_
      rw[show p6.defs.length+(eI.els [x1]).length=(p6.defs++[x1]).length from eI.lapp _ _]
      rw[show eI.els p6.defs++eI.els [x1]=eI.els (p6.defs++[x1])from eI.app2 _ _]
      refine xz 2 [] (Ed p1 p2 p3 p5 p6 x1) ?_
      refine GY.sto [0] [] (Ed p1 p2 p3 p5 p6 x1) ([0]++[1005]) (Jb p3 p6 e1 x1) [] (by kernel_rfl) (by kernel_rfl) trivial (by kernel_rfl) ?_
      exact GY.done (by kernel_rfl) (by kernel_rfl)
     refine zv [12,16,34,41,60,67,74,95,102] 3 [] [] [] [.box (IR p3 p6 x1),.dead,.dead,.arr 5 (ac.els p6.values),.box (cq e1),.arr 1 (eI.els (p6.reps++[p3])),.arr 1 (eI.els (p6.defs++[x1]))] ?_
     refine XO.sub (bW.swap 1 5 [] [.box [.sl 1 1 0 ((p6.reps++[p3]).length),.sl 6 1 0 ((p6.defs++[x1]).length),.sl 3 5 0 p6.values.length],.arr 1 (eI.els (p6.reps++[p3])),.dead,.arr 5 (ac.els p6.values),.box (cq e1),.dead,.arr 1 (eI.els (p6.defs++[x1]))] (by kernel_rfl) (by kernel_rfl) (by kernel_rfl) (by kernel_rfl)) ?_
     refine XO.sub (bW.swap 2 6 [] [.box [.sl 1 1 0 ((p6.reps++[p3]).length),.sl 2 1 0 ((p6.defs++[x1]).length),.sl 3 5 0 p6.values.length],.arr 1 (eI.els (p6.reps++[p3])),.arr 1 (eI.els (p6.defs++[x1])),.arr 5 (ac.els p6.values),.box (cq e1),.dead,.dead] (by kernel_rfl) (by kernel_rfl) (by kernel_rfl) (by kernel_rfl)) (zd (hK19 _ _ (ze ?_)))
     obtain rfl:=Option.some.inj h
     exact qO.fin (.inr rfl) [] [] [] (by kernel_rfl) trivial (by kernel_rfl) (by kernel_rfl) (.tp0)
    ·refine zs (hK16 _ _ (zq fun K22 hK22=>zr ?_))
     refine zv [12,16,34,41,60,67,74,95,102] 3 [0,1,3,4,5,8,109] [[pi p2.kind,pi p2.n,pi p2.scale,.s (.string p2.s),.ro (ac.els p2.items)]] [(0,vQ 0),(1,vl ab p1),(3,vi p3),(4,vi x1),(5,vi p5),(8,vR [pi p2.kind,pi p2.n,pi p2.scale,.s (.string p2.s),.ro (ac.els p2.items)]),(109,vi ((ac.els p2.items).length:Int))] [.box [.sl 1 1 0 p6.reps.length,.sl 2 1 0 p6.defs.length,.sl 3 5 0 p6.values.length],.arr 1 (eI.els p6.reps),.arr 1 (eI.els p6.defs),.arr 5 (ac.els p6.values),.box [ci e1.id,lL e1.name,cb e1.need,ci e1.type.kind,ci e1.type.scale,cl ab e1.type.fields]] ?_
     rw[ac.len p2.items]
     refine zg [12,16,34,41,60,67,74,95,102] 1 [0,1,3,4,5,8,109,110] (zd (hK22 _ _ (zb 1 (XW.rounds' aO (x:=cd f88 [1,1,1,1,0,1,0,1,1,0,0]) (by kernel_rfl) fun Q1 hQ1=> ?_))))
     have hL1:∀(k1:Nat) (l1 l2:List Int) (l3:List aa) (x2:Int),du (bR k0) p1 p2 p3 p5 x1 k1 l1 l2 l3 x2=some r→XR prog 164 4 [1,2,3] (cd f88 [1,1,1,1,0,1,0,1,1,0,0]) Q1 k1 [(0,vQ 0),(1,vl ab p1),(3,vi p3),(4,vi x1),(5,vi p5),(8,vR (bg p2)),(109,vi p2.items.length),(110,vi x2)] (EA l1 l2 l3):=by
      intro k1
      induction k1 with
      |zero=>intro l1 l2 l3 x2 h;rw[du.eq_1]at h;cases h
      |succ k1 ih1=>
       intro l1 l2 l3 x2 h
       rw[du.eq_2]at h
       refine zq fun K23 hK23=>zr (zg [12,16,34,41,60,67,74,95,102] 1 [0,1,3,4,5,8,109,110,111] (zd (hK23 _ _ (zq fun K24 hK24=>zC h (fun b25 h=> ?_) (fun b25 h=> ?_)))))
       ·refine zs (hK24 _ _ (zq fun K26 hK26=>zb 2 (zq fun K27 hK27=>zr (zg [12,16,34,41,60,67,74,95,102] 2 [0,1,3,4,5,8,13,109,110] (zd ?_)))))
        refine hK27 _ _ (zq fun K28 hK28=>zr (zv [12,16,34,41,60,67,74,95,102] 2 [0,1,3,4,5,8,13,14,109,110] [] [(0,vQ 0),(1,vl ab p1),(3,vi p3),(4,vi x1),(5,vi p5),(8,vR (bg p2)),(13,vi x2),(14,vi p3),(109,vi p2.items.length),(110,vi x2)] (EA l1 l2 l3) (zd (hK28 _ _ (zq fun K29 hK29=> ?_)))))
        have hJ2:∀(x3:Int),il (du (bR k0) p1 p2 p3 p5 x1 k1) (bR k0) p1 p2 p5 x1 l1 l2 l3 x2 x3=some r→∀fr1 st1,bW 164 4 [1,2,3] fr1 st1 [(0,vQ 0),(1,vl ab p1),(3,vi p3),(4,vi x1),(5,vi p5),(8,vR (bg p2)),(13,vi x2),(14,vi x3),(109,vi p2.items.length),(110,vi x2)] (EA l1 l2 l3)→K29 fr1 st1:=by
         intro x3 h fr1 st1 hS
         unfold il at h
         refine hK29 _ _ (XW.sub hS ?_)
         obtain⟨g32,h⟩:=zG h
         obtain⟨e2,a33,h⟩:=zB h
         obtain⟨r1,c34,h⟩:=zB h
         refine zw 13 [(130,vi (i64.wrap (p5+1))),(129,vi p5),(128,vi (i64.wrap (x1+1))),(127,vi x1),(126,vi x3),(125,.ag (fv e2)),(124,.one (.pv (.rp (ac.els p2.items) x2.toNat 0))),(123,vi x2),(122,vl ac p2.items),(121,.one (.pv (.rp [(bg p2)] 0 4))),(120,vl ab (p1.drop (1:Int).toNat)),(119,vl ab p1),(118,vQ 0),(0,vQ 0),(1,vl ab p1),(3,vi p3),(4,vi x1),(5,vi p5),(8,vR (bg p2)),(13,vi x2),(14,vi x3),(109,vi p2.items.length),(110,vi x2)] ?_ ?_
         ·refine ME 3 [] [(120,.one (.pv (.ro (((ab.els p1).drop (1:Int).toNat).take ((ab.els p1).length-(1:Int).toNat))))),(119,vl ab p1),(118,vQ 0),(0,vQ 0),(1,vl ab p1),(3,vi p3),(4,vi x1),(5,vi p5),(8,vR [pi p2.kind,pi p2.n,pi p2.scale,.s (.string p2.s),.ro (ac.els p2.items)]),(13,vi x2),(14,vi x3),(109,vi p2.items.length),(110,vi x2)] [(0≤(1:Int)∧(1:Int)≤((ab.els p1).length:Int)∧((ab.els p1).length:Int)≤((ab.els p1).length:Int))∧aT 6 (ab.els p1)] (⟨ab.cutHiOk g32,trivial⟩) ?_
          rw[show((ab.els p1).drop (1:Int).toNat).take ((ab.els p1).length-(1:Int).toNat)=ab.els (p1.drop (1:Int).toNat)from ab.cutHi _ _]
          refine Oh 10 [(bg p2),[pi e2.kind,pi e2.n,pi e2.scale,.s (.string e2.s),.ro (ac.els e2.items)]] [([(bg p2)]:List (List PV))[0]? =some (bg p2),0≤x2∧x2<((ac.els p2.items).length:Int)∧aT 5 (ac.els p2.items),(ac.els p2.items)[x2.toNat]? =some [pi e2.kind,pi e2.n,pi e2.scale,.s (.string e2.s),.ro (ac.els e2.items)]] (⟨rfl,ac.inb a33,((ac.get a33).trans (by cases e2;rfl)),trivial⟩) ?_
          exact Km
         refine XO.calx 88 [vQ 0,vl ab (p1.drop (1:Int).toNat),.ag (fv e2),vi x3,vi (i64.wrap (x1+1)),vi (i64.wrap (p5+1))] [.box (In l1 l2 l3),.arr 1 (eI.els l1),.arr 1 (eI.els l2),.arr 5 (ac.els l3)] [.box [.sl 1 1 0 r1.2.reps.length,.sl 2 1 0 r1.2.defs.length,.sl 3 5 0 r1.2.values.length],.arr 1 (eI.els r1.2.reps),.arr 1 (eI.els r1.2.defs),.arr 5 (ac.els r1.2.values)] [1,2,3] (.tp []) [0,1,2,3] [1,2,3] [(131,.tp []),(130,vi (i64.wrap (p5+1))),(129,vi p5),(128,vi (i64.wrap (x1+1))),(127,vi x1),(126,vi x3),(125,.ag (fv e2)),(124,.one (.pv (.rp (ac.els p2.items) x2.toNat 0))),(123,vi x2),(122,vl ac p2.items),(121,.one (.pv (.rp [(bg p2)] 0 4))),(120,vl ab (p1.drop (1:Int).toNat)),(119,vl ab p1),(118,vQ 0),(0,vQ 0),(1,vl ab p1),(3,vi p3),(4,vi x1),(5,vi p5),(8,vR (bg p2)),(13,vi x2),(14,vi x3),(109,vi p2.items.length),(110,vi x2)] [.box [.sl 1 1 0 r1.2.reps.length,.sl 2 1 0 r1.2.defs.length,.sl 3 5 0 r1.2.values.length],.arr 1 (eI.els r1.2.reps),.arr 1 (eI.els r1.2.defs),.arr 5 (ac.els r1.2.values),.dead] (by kernel_rfl) (oy k0 _ _ _ _ _ _ _ c34) (by kernel_rfl) (by kernel_rfl) (by kernel_rfl) (by kernel_rfl) (by kernel_rfl) (by kernel_rfl) (by kernel_rfl) ?_
         exact zd (hK26 _ _ (zr (zg [12,16,34,41,60,67,74,95,102] 2 [0,1,3,4,5,8,109,110] (zd (XR.sub (zk [0,1,3,4,5,8,109,110]) (ih1 r1.2.reps r1.2.defs r1.2.values (i64.wrap (x2+1)) h))))))
        refine zq fun K30 hK30=>zr (zg [12,16,34,41,60,67,74,95,102] 2 [0,1,3,4,5,8,13,14,109,110,115] (zd (hK30 _ _ (zC h (fun b31 h=> ?_) (fun b31 h=> ?_)))))
        ·exact zr (zg [12,16,34,41,60,67,74,95,102] 3 [0,1,3,4,5,8,13,14,109,110] (zd (hJ2 (i64.wrap (p5+1)) h _ _ (zk [0,1,3,4,5,8,13,14,109,110]))))
        ·exact zs (hJ2 p3 h _ _ (zk [0,1,3,4,5,8,13,14,109,110]))
       ·refine zx 1 (hQ1 _ _ _ ?_)
        obtain rfl:=Option.some.inj h
        exact qO.fin (.inl rfl) [] [] [] (by kernel_rfl) trivial (by kernel_rfl) (by kernel_rfl) (.tp0)
     exact XR.sub (bW.trans (bW.pick (fr':=(HZ p1 p2 p3 p5 x1)) [0,1,3,4,5,8,109,110] (by kernel_rfl)) (bW.only (fr':=(HZ p1 p2 p3 p5 x1)) (st':=(IL p6)) [0,1,2,3] 5 (by kernel_rfl) (by kernel_rfl) (by kernel_rfl) (by kernel_rfl))) (hL1 aO p6.reps p6.defs p6.values (0:Int) h)
   ·refine zq fun K35 hK35=>zr (zg [12,16,34,41,60,67,74,95,102] 2 [0,1,3,4,5,8,12,133] (zd (hK35 _ _ (zC h (fun b36 h=> ?_) (fun b36 h=> ?_)))))
    ·refine zq fun K37 hK37=>zr ?_
     refine zv [12,16,34,41,60,67,74,95,102] 4 [0,1,3,4,5,8,137,138] [] [(0,vQ 0),(1,vl ab p1),(3,vi p3),(4,vi x1),(5,vi p5),(8,vR [pi p2.kind,pi p2.n,pi p2.scale,.s (.string p2.s),.ro (ac.els p2.items)]),(137,vl ab e1.type.fields),(138,vi ((ab.els e1.type.fields).length:Int))] [.box [.sl 1 1 0 p6.reps.length,.sl 2 1 0 p6.defs.length,.sl 3 5 0 p6.values.length],.arr 1 (eI.els p6.reps),.arr 1 (eI.els p6.defs),.arr 5 (ac.els p6.values),.box [ci e1.id,lL e1.name,cb e1.need,ci e1.type.kind,ci e1.type.scale,cl ab e1.type.fields]] ?_
     rw[ab.len e1.type.fields]
     refine zg [12,16,34,41,60,67,74,95,102] 1 [0,1,3,4,5,8,137,138,139] (zd (hK37 _ _ (zb 3 (XW.rounds' aO (x:=cd f88 [1,1,1,1,0,1,1,1,0,1,0,0]) (by kernel_rfl) fun Q2 hQ2=> ?_))))
     have hL2:∀(k2:Nat) (l4 l5:List Int) (l6:List aa) (x4:Int),dV (bR k0) p1 p2 p3 p5 e1 x1 k2 l4 l5 l6 x4=some r→XR prog 164 4 [1,2,3] (cd f88 [1,1,1,1,0,1,1,1,0,1,0,0]) Q2 k2 (vJ p1 p2 p3 p5 e1 x1 x4) [.box [.sl 1 1 0 l4.length,.sl 2 1 0 l5.length,.sl 3 5 0 l6.length],.arr 1 (eI.els l4),.arr 1 (eI.els l5),.arr 5 (ac.els l6),.dead]:=by
      intro k2
      induction k2 with
      |zero=>intro l4 l5 l6 x4 h;rw[dV.eq_1]at h;cases h
      |succ k2 ih2=>
       intro l4 l5 l6 x4 h
       rw[dV.eq_2]at h
       refine zq fun K38 hK38=>zr (zg [12,16,34,41,60,67,74,95,102] 1 [0,1,3,4,5,8,137,138,139,140] (zd (hK38 _ _ (zq fun K39 hK39=>zC h (fun b40 h=> ?_) (fun b40 h=> ?_)))))
       ·refine zs (hK39 _ _ (zq fun K41 hK41=> ?_))
        have hJ3:∀(l7 l8:List Int) (l9:List aa),ju (dV (bR k0) p1 p2 p3 p5 e1 x1 k2) x4 l7 l8 l9=some r→∀fr1 st1,bW 164 4 [1,2,3] fr1 st1 (vJ p1 p2 p3 p5 e1 x1 x4) [.box [.sl 1 1 0 l7.length,.sl 2 1 0 l8.length,.sl 3 5 0 l9.length],.arr 1 (eI.els l7),.arr 1 (eI.els l8),.arr 5 (ac.els l9),.dead]→K41 fr1 st1:=by
         intro l7 l8 l9 h fr1 st1 hS
         unfold ju at h
         refine hK41 _ _ (XW.sub hS ?_)
         exact zr (zg [12,16,34,41,60,67,74,95,102] 2 [0,1,3,4,5,8,137,138,139] (zd (XR.sub (zk [0,1,3,4,5,8,137,138,139]) (ih2 l7 l8 l9 (i64.wrap (x4+1)) h))))
        refine zb 4 (zq fun K42 hK42=> ?_)
        obtain⟨e3,a43,h⟩:=zB h
        refine zr (zo [12,16,34,41,60,67,74,95,102] 6 [0,1,3,4,5,8,15,16,137,138,139] [(jN e3)] [0≤x4∧x4<((ab.els e1.type.fields).length:Int)∧aT 6 (ab.els e1.type.fields),(ab.els e1.type.fields)[x4.toNat]? =some (jN e3)] (⟨ab.inb a43,((ab.get a43).trans (by rcases e3 with⟨_,_,_,⟨_,_,_⟩⟩;rfl)),trivial⟩) (zd (hK42 _ _ ?_)))
        refine zq fun K44 hK44=> ?_
        obtain⟨e4,a45,h⟩:=zB h
        refine zw 6 (Hs p1 p2 p3 p5 e1 x1 x4 e3 e4) ?_ ?_
        ·refine ME 6 [(jN e4)] (Hs p1 p2 p3 p5 e1 x1 x4 e3 e4) [0≤(1:Int)∧(1:Int)<((ab.els p1).length:Int)∧aT 6 (ab.els p1),(ab.els p1)[(1:Int).toNat]? =some (jN e4)] (⟨ab.inb a45,((ab.get a45).trans (by rcases e4 with⟨_,_,_,⟨_,_,_⟩⟩;rfl)),trivial⟩) ?_
         exact Km
        refine zv [12,16,34,41,60,67,74,95,102] 1 [0,1,3,4,5,8,15,137,138,139,150] [] [(0,vQ 0),(1,vl ab p1),(3,vi p3),(4,vi x1),(5,vi p5),(8,vR (bg p2)),(15,vi x4),(137,vl ab e1.type.fields),(138,vi e1.type.fields.length),(139,vi x4),(150,vb (e3.id==e4.id))] [.box [.sl 1 1 0 l4.length,.sl 2 1 0 l5.length,.sl 3 5 0 l6.length],.arr 1 (eI.els l4),.arr 1 (eI.els l5),.arr 5 (ac.els l6),.dead,.box (cq e3)] ?_
        refine zd (hK44 _ _ (zC h (fun b46 h=> ?_) (fun b46 h=> ?_)))
        ·obtain⟨g47,h⟩:=zG h
         obtain⟨e5,a48,h⟩:=zB h
         obtain⟨r2,c49,h⟩:=zB h
         refine zw 11 [(161,vi p5),(160,vi x1),(159,vi p3),(158,.ag (fv e5)),(157,.one (.pv (.rp (ac.els p2.items) x4.toNat 0))),(156,vi x4),(155,vl ac p2.items),(154,.one (.pv (.rp [(bg p2)] 0 4))),(153,vl ab (p1.drop (1:Int).toNat)),(152,vl ab p1),(151,vQ 0),(0,vQ 0),(1,vl ab p1),(3,vi p3),(4,vi x1),(5,vi p5),(8,vR (bg p2)),(15,vi x4),(137,vl ab e1.type.fields),(138,vi e1.type.fields.length),(139,vi x4),(150,vb (e3.id==e4.id))] ?_ ?_
         ·refine ME 3 [] [(153,.one (.pv (.ro (((ab.els p1).drop (1:Int).toNat).take ((ab.els p1).length-(1:Int).toNat))))),(152,vl ab p1),(151,vQ 0),(0,vQ 0),(1,vl ab p1),(3,vi p3),(4,vi x1),(5,vi p5),(8,vR [pi p2.kind,pi p2.n,pi p2.scale,.s (.string p2.s),.ro (ac.els p2.items)]),(15,vi x4),(137,vl ab e1.type.fields),(138,vi e1.type.fields.length),(139,vi x4),(150,vb (e3.id==e4.id))] [(0≤(1:Int)∧(1:Int)≤((ab.els p1).length:Int)∧((ab.els p1).length:Int)≤((ab.els p1).length:Int))∧aT 6 (ab.els p1)] (⟨ab.cutHiOk g47,trivial⟩) ?_
          rw[show((ab.els p1).drop (1:Int).toNat).take ((ab.els p1).length-(1:Int).toNat)=ab.els (p1.drop (1:Int).toNat)from ab.cutHi _ _]
          refine Oh 8 [(bg p2),[pi e5.kind,pi e5.n,pi e5.scale,.s (.string e5.s),.ro (ac.els e5.items)]] [([(bg p2)]:List (List PV))[0]? =some (bg p2),0≤x4∧x4<((ac.els p2.items).length:Int)∧aT 5 (ac.els p2.items),(ac.els p2.items)[x4.toNat]? =some [pi e5.kind,pi e5.n,pi e5.scale,.s (.string e5.s),.ro (ac.els e5.items)]] (⟨rfl,ac.inb a48,((ac.get a48).trans (by cases e5;rfl)),trivial⟩) ?_
          exact Km
         refine XO.calx 88 [vQ 0,vl ab (p1.drop (1:Int).toNat),.ag (fv e5),vi p3,vi x1,vi p5] [.box [.sl 1 1 0 l4.length,.sl 2 1 0 l5.length,.sl 3 5 0 l6.length],.arr 1 (eI.els l4),.arr 1 (eI.els l5),.arr 5 (ac.els l6)] [.box [.sl 1 1 0 r2.2.reps.length,.sl 2 1 0 r2.2.defs.length,.sl 3 5 0 r2.2.values.length],.arr 1 (eI.els r2.2.reps),.arr 1 (eI.els r2.2.defs),.arr 5 (ac.els r2.2.values)] [1,2,3] (.tp []) [0,1,2,3] [1,2,3] [(162,.tp []),(161,vi p5),(160,vi x1),(159,vi p3),(158,.ag (fv e5)),(157,.one (.pv (.rp (ac.els p2.items) x4.toNat 0))),(156,vi x4),(155,vl ac p2.items),(154,.one (.pv (.rp [(bg p2)] 0 4))),(153,vl ab (p1.drop (1:Int).toNat)),(152,vl ab p1),(151,vQ 0),(0,vQ 0),(1,vl ab p1),(3,vi p3),(4,vi x1),(5,vi p5),(8,vR (bg p2)),(15,vi x4),(137,vl ab e1.type.fields),(138,vi e1.type.fields.length),(139,vi x4),(150,vb (e3.id==e4.id))] [.box [.sl 1 1 0 r2.2.reps.length,.sl 2 1 0 r2.2.defs.length,.sl 3 5 0 r2.2.values.length],.arr 1 (eI.els r2.2.reps),.arr 1 (eI.els r2.2.defs),.arr 5 (ac.els r2.2.values),.dead,.box (cq e3)] (by kernel_rfl) (oy k0 _ _ _ _ _ _ _ c49) (by kernel_rfl) (by kernel_rfl) (by kernel_rfl) (by kernel_rfl) (by kernel_rfl) (by kernel_rfl) (by kernel_rfl) ?_
         refine zd ?_
         exact hJ3 r2.2.reps r2.2.defs r2.2.values h _ _ (bW.trans (bW.pick (fr':=(vJ p1 p2 p3 p5 e1 x1 x4)) [0,1,3,4,5,8,137,138,139] (by kernel_rfl)) (bW.take (fr':=(vJ p1 p2 p3 p5 e1 x1 x4)) 5 (by decide) (by kernel_rfl) (by kernel_rfl)))
        ·refine zs ?_
         exact hJ3 l4 l5 l6 h _ _ (bW.trans (bW.pick (fr':=(vJ p1 p2 p3 p5 e1 x1 x4)) [0,1,3,4,5,8,137,138,139] (by kernel_rfl)) (bW.take (fr':=(vJ p1 p2 p3 p5 e1 x1 x4)) 5 (by decide) (by kernel_rfl) (by kernel_rfl)))
       ·refine zx 3 (hQ2 _ _ _ ?_)
        obtain rfl:=Option.some.inj h
        exact qO.fin (.inl rfl) [] [] [] (by kernel_rfl) trivial (by kernel_rfl) (by kernel_rfl) (.tp0)
     exact XR.sub (bW.trans (bW.pick (fr':=(HT p1 p2 p3 p5 e1 x1)) [0,1,3,4,5,8,137,138,139] (by kernel_rfl)) (bW.only (fr':=(HT p1 p2 p3 p5 e1 x1)) (st':=(IL p6)) [0,1,2,3] 5 (by kernel_rfl) (by kernel_rfl) (by kernel_rfl) (by kernel_rfl))) (hL2 aO p6.reps p6.defs p6.values (0:Int) h)
    ·obtain⟨g50,h⟩:=zG h
     obtain⟨g51,h⟩:=zG h
     obtain⟨g52,h⟩:=zG h
     refine XW.sub (bW.dead 3) ?_
     refine XW.drwG 30 [5,6,7,8] [([],[]),([],[]),([],[]),([],[]),([],[]),([],[]),([0],[]),([],[]),([],[]),([5,1,1005],[5,1,1005]),([],[]),([],[]),([],[]),([0],[]),([],[]),([],[]),([6,2,1006],[6,2,1006]),([],[]),([],[]),([],[]),([0],[]),([],[]),([],[]),([7,3,1007],[7,3,1007]),([],[]),([],[]),([0,1005],[0]),([],[]),([],[]),([0,1006,1005],[0])] (Ez p1 p2 p3 p5 p6 e1 x1) (Jw p2 p3 p6 e1 x1) (by kernel_rfl) (by kernel_rfl) ?_ ?_
     ·refine xz 9 [] [(59,vl eI [p3]),(58,vi p3),(57,.one (.sl 1 1 0 p6.reps.length)),(56,vQ 0),(55,vQ 0),(54,vQ 0),(53,vQ 0),(52,vQ 0),(51,vQ 0),(0,vQ 0),(1,vl ab p1),(3,vi p3),(4,vi x1),(5,vi p5),(8,vR (bg p2)),(12,vQ 4),(133,vb (e1.type.kind==7))] ?_
      refine GY.new true 5 [] [(60,.one (.sl 5 1 0 (p6.reps.length+(eI.els [p3]).length))),(59,vl eI [p3]),(58,vi p3),(57,.one (.sl 1 1 0 p6.reps.length)),(56,vQ 0),(55,vQ 0),(54,vQ 0),(53,vQ 0),(52,vQ 0),(51,vQ 0),(0,vQ 0),(1,vl ab p1),(3,vi p3),(4,vi x1),(5,vi p5),(8,vR [pi p2.kind,pi p2.n,pi p2.scale,.s (.string p2.s),.ro (ac.els p2.items)]),(12,vQ 4),(133,vb (e1.type.kind==7))] [5,1] [.box [.sl 1 1 0 p6.reps.length,.sl 2 1 0 p6.defs.length,.sl 3 5 0 p6.values.length],.dead,.arr 1 (eI.els p6.defs),.arr 5 (ac.els p6.values),.box [ci e1.id,lL e1.name,cb e1.need,ci e1.type.kind,ci e1.type.scale,cl ab e1.type.fields],.arr 1 (eI.els p6.reps++eI.els [p3]),.dead,.dead] [aT 1 (eI.els [p3]),p6.reps.length=(eI.els p6.reps).length,p6.reps.length+(eI.els [p3]).length≤4294967296] (by kernel_rfl) (by kernel_rfl) (⟨eI.ok _,(eI.len p6.reps).symm,g50,trivial⟩) (by kernel_rfl) ?_
      rw[show p6.reps.length+(eI.els [p3]).length=(p6.reps++[p3]).length from eI.lapp _ _]
      rw[show eI.els p6.reps++eI.els [p3]=eI.els (p6.reps++[p3])from eI.app2 _ _]
      refine xz 6 [] [(66,vl eI [x1]),(65,vi x1),(64,.one (.sl 2 1 0 p6.defs.length)),(63,.one (.pt 0 0 0 1)),(62,vQ 0),(61,vQ 0),(60,.one (.sl 5 1 0 ((p6.reps++[p3]).length))),(59,vl eI [p3]),(58,vi p3),(57,.one (.sl 1 1 0 p6.reps.length)),(56,vQ 0),(55,vQ 0),(54,vQ 0),(53,vQ 0),(52,vQ 0),(51,vQ 0),(0,vQ 0),(1,vl ab p1),(3,vi p3),(4,vi x1),(5,vi p5),(8,vR (bg p2)),(12,vQ 4),(133,vb (e1.type.kind==7))] ?_
      refine GY.new true 6 [] [(67,.one (.sl 6 1 0 (p6.defs.length+(eI.els [x1]).length))),(66,vl eI [x1]),(65,vi x1),(64,.one (.sl 2 1 0 p6.defs.length)),(63,.one (.pt 0 0 0 1)),(62,vQ 0),(61,vQ 0),(60,.one (.sl 5 1 0 ((p6.reps++[p3]).length))),(59,vl eI [p3]),(58,vi p3),(57,.one (.sl 1 1 0 p6.reps.length)),(56,vQ 0),(55,vQ 0),(54,vQ 0),(53,vQ 0),(52,vQ 0),(51,vQ 0),(0,vQ 0),(1,vl ab p1),(3,vi p3),(4,vi x1),(5,vi p5),(8,vR [pi p2.kind,pi p2.n,pi p2.scale,.s (.string p2.s),.ro (ac.els p2.items)]),(12,vQ 4),(133,vb (e1.type.kind==7))] [6,2] [.box [.sl 1 1 0 p6.reps.length,.sl 2 1 0 p6.defs.length,.sl 3 5 0 p6.values.length],.dead,.dead,.arr 5 (ac.els p6.values),.box [ci e1.id,lL e1.name,cb e1.need,ci e1.type.kind,ci e1.type.scale,cl ab e1.type.fields],.arr 1 (eI.els (p6.reps++[p3])),.arr 1 (eI.els p6.defs++eI.els [x1]),.dead] [aT 1 (eI.els [x1]),p6.defs.length=(eI.els p6.defs).length,p6.defs.length+(eI.els [x1]).length≤4294967296] (by kernel_rfl) (by kernel_rfl) (⟨eI.ok _,(eI.len p6.defs).symm,g51,trivial⟩) (by kernel_rfl) ?_
      rw[show p6.defs.length+(eI.els [x1]).length=(p6.defs++[x1]).length from eI.lapp _ _]
      rw[show eI.els p6.defs++eI.els [x1]=eI.els (p6.defs++[x1])from eI.app2 _ _]
      refine xz 6 [[pi p2.kind,pi p2.n,pi p2.scale,.s (.string p2.s),.ro (ac.els p2.items)]] [(73,.one (.pv (.ro [[pi p2.kind,pi p2.n,pi p2.scale,.s (.string p2.s),.ro (ac.els p2.items)]]))),(72,mV p2),(71,.one (.sl 3 5 0 p6.values.length)),(70,.one (.pt 0 0 0 2)),(69,vQ 0),(68,vQ 0),(67,.one (.sl 6 1 0 ((p6.defs++[x1]).length))),(66,vl eI [x1]),(65,vi x1),(64,.one (.sl 2 1 0 p6.defs.length)),(63,.one (.pt 0 0 0 1)),(62,vQ 0),(61,vQ 0),(60,.one (.sl 5 1 0 ((p6.reps++[p3]).length))),(59,vl eI [p3]),(58,vi p3),(57,.one (.sl 1 1 0 p6.reps.length)),(56,vQ 0),(55,vQ 0),(54,vQ 0),(53,vQ 0),(52,vQ 0),(51,vQ 0),(0,vQ 0),(1,vl ab p1),(3,vi p3),(4,vi x1),(5,vi p5),(8,vR [pi p2.kind,pi p2.n,pi p2.scale,.s (.string p2.s),.ro (ac.els p2.items)]),(12,vQ 4),(133,vb (e1.type.kind==7))] ?_
      refine GX.eq (fr1:=[(73,vl ac [p2]),(72,mV p2),(71,.one (.sl 3 5 0 p6.values.length)),(70,.one (.pt 0 0 0 2)),(69,vQ 0),(68,vQ 0),(67,.one (.sl 6 1 0 ((p6.defs++[x1]).length))),(66,vl eI [x1]),(65,vi x1),(64,.one (.sl 2 1 0 p6.defs.length)),(63,.one (.pt 0 0 0 1)),(62,vQ 0),(61,vQ 0),(60,.one (.sl 5 1 0 ((p6.reps++[p3]).length))),(59,vl eI [p3]),(58,vi p3),(57,.one (.sl 1 1 0 p6.reps.length)),(56,vQ 0),(55,vQ 0),(54,vQ 0),(53,vQ 0),(52,vQ 0),(51,vQ 0),(0,vQ 0),(1,vl ab p1),(3,vi p3),(4,vi x1),(5,vi p5),(8,vR [pi p2.kind,pi p2.n,pi p2.scale,.s (.string p2.s),.ro (ac.els p2.items)]),(12,vQ 4),(133,vb (e1.type.kind==7))]) (by rw[show([[pi p2.kind,pi p2.n,pi p2.scale,.s (.string p2.s),.ro (ac.els p2.items)]]:List (List PV))=ac.els [p2]from by cases p2;rfl]) ?_
      refine GY.new true 7 [] [(74,.one (.sl 7 5 0 (p6.values.length+(ac.els [p2]).length))),(73,vl ac [p2]),(72,mV p2),(71,.one (.sl 3 5 0 p6.values.length)),(70,.one (.pt 0 0 0 2)),(69,vQ 0),(68,vQ 0),(67,.one (.sl 6 1 0 ((p6.defs++[x1]).length))),(66,vl eI [x1]),(65,vi x1),(64,.one (.sl 2 1 0 p6.defs.length)),(63,.one (.pt 0 0 0 1)),(62,vQ 0),(61,vQ 0),(60,.one (.sl 5 1 0 ((p6.reps++[p3]).length))),(59,vl eI [p3]),(58,vi p3),(57,.one (.sl 1 1 0 p6.reps.length)),(56,vQ 0),(55,vQ 0),(54,vQ 0),(53,vQ 0),(52,vQ 0),(51,vQ 0),(0,vQ 0),(1,vl ab p1),(3,vi p3),(4,vi x1),(5,vi p5),(8,vR [pi p2.kind,pi p2.n,pi p2.scale,.s (.string p2.s),.ro (ac.els p2.items)]),(12,vQ 4),(133,vb (e1.type.kind==7))] [7,3] [.box [.sl 1 1 0 p6.reps.length,.sl 2 1 0 p6.defs.length,.sl 3 5 0 p6.values.length],.dead,.dead,.dead,.box [ci e1.id,lL e1.name,cb e1.need,ci e1.type.kind,ci e1.type.scale,cl ab e1.type.fields],.arr 1 (eI.els (p6.reps++[p3])),.arr 1 (eI.els (p6.defs++[x1])),.arr 5 (ac.els p6.values++ac.els [p2])] [aT 5 (ac.els [p2]),p6.values.length=(ac.els p6.values).length,p6.values.length+(ac.els [p2]).length≤4294967296] (by kernel_rfl) (by kernel_rfl) (⟨ac.ok _,(ac.len p6.values).symm,g52,trivial⟩) (by kernel_rfl) ?_
      rw[show p6.values.length+(ac.els [p2]).length=(p6.values++[p2]).length from ac.lapp _ _]
      rw[show ac.els p6.values++ac.els [p2]=ac.els (p6.values++[p2])from ac.app2 _ _]
      refine xz 2 [] (I9 p1 p2 p3 p5 p6 e1 x1) ?_
      refine GY.sto [0] [] (I9 p1 p2 p3 p5 p6 e1 x1) ([0]++[1005]) [.box (DH p3 p6),.dead,.dead,.dead,.box (cq e1),.arr 1 (eI.els (p6.reps++[p3])),.arr 1 (eI.els (p6.defs++[x1])),.arr 5 (ac.els (p6.values++[p2]))] [] (by kernel_rfl) (by kernel_rfl) trivial (by kernel_rfl) ?_
      refine xz 2 [] (Ez p1 p2 p3 p5 p6 e1 x1) ?_
      refine GY.sto [0] [] (Ez p1 p2 p3 p5 p6 e1 x1) ([0]++[1006,1005]) (Jw p2 p3 p6 e1 x1) [] (by kernel_rfl) (by kernel_rfl) trivial (by kernel_rfl) ?_
      exact GY.done (by kernel_rfl) (by kernel_rfl)
     refine zv [12,16,34,41,60,67,74,95,102] 3 [] [] [] [.box [.sl 5 1 0 ((p6.reps++[p3]).length),.sl 6 1 0 ((p6.defs++[x1]).length),.sl 7 5 0 ((p6.values++[p2]).length)],.dead,.dead,.dead,.box (cq e1),.arr 1 (eI.els (p6.reps++[p3])),.arr 1 (eI.els (p6.defs++[x1])),.arr 5 (ac.els (p6.values++[p2]))] ?_
     refine XO.sub (bW.swap 1 5 [] [.box [.sl 1 1 0 ((p6.reps++[p3]).length),.sl 6 1 0 ((p6.defs++[x1]).length),.sl 7 5 0 ((p6.values++[p2]).length)],.arr 1 (eI.els (p6.reps++[p3])),.dead,.dead,.box (cq e1),.dead,.arr 1 (eI.els (p6.defs++[x1])),.arr 5 (ac.els (p6.values++[p2]))] (by kernel_rfl) (by kernel_rfl) (by kernel_rfl) (by kernel_rfl)) ?_
     refine XO.sub (bW.swap 2 6 [] [.box [.sl 1 1 0 ((p6.reps++[p3]).length),.sl 2 1 0 ((p6.defs++[x1]).length),.sl 7 5 0 ((p6.values++[p2]).length)],.arr 1 (eI.els (p6.reps++[p3])),.arr 1 (eI.els (p6.defs++[x1])),.dead,.box (cq e1),.dead,.dead,.arr 5 (ac.els (p6.values++[p2]))] (by kernel_rfl) (by kernel_rfl) (by kernel_rfl) (by kernel_rfl)) ?_
     refine XO.sub (bW.swap 3 7 [] [.box [.sl 1 1 0 ((p6.reps++[p3]).length),.sl 2 1 0 ((p6.defs++[x1]).length),.sl 3 5 0 ((p6.values++[p2]).length)],.arr 1 (eI.els (p6.reps++[p3])),.arr 1 (eI.els (p6.defs++[x1])),.arr 5 (ac.els (p6.values++[p2])),.box (cq e1),.dead,.dead,.dead] (by kernel_rfl) (by kernel_rfl) (by kernel_rfl) (by kernel_rfl)) (zd ?_)
     obtain rfl:=Option.some.inj h
     exact qO.fin (.inl rfl) [] [] [] (by kernel_rfl) trivial (by kernel_rfl) (by kernel_rfl) (.tp0)
  refine zq fun K5 hK5=>zr ?_
  refine zv [12,16,34,41,60,67,74,95,102] 3 [0,1,3,4,5,8,12,22] [] [(0,vQ 0),(1,vl ab p1),(3,vi p3),(4,vi p4),(5,vi p5),(8,vR (bg p2)),(12,vQ 4),(22,vb (!e1.need))] (I2 p6 e1) (zd (hK5 _ _ ?_))
  refine zC h (fun b6 h=> ?_) (fun b6 h=> ?_)
  ·refine zq fun K7 hK7=>zq fun K8 hK8=>zr (zu [12,16,34,41,60,67,74,95,102] 3 [0,1,3,4,5,8,12,25] [(bg p2)] (zd (hK8 _ _ (zC h (fun b9 h=> ?_) (fun b9 h=> ?_)))))
   ·refine zq fun K10 hK10=> ?_
    obtain⟨g11,h⟩:=zG h
    obtain⟨g12,h⟩:=zG h
    refine XW.sub (bW.dead 2) ?_
    refine XW.drwG 19 [5,6,7] [([],[]),([],[]),([],[]),([],[]),([],[]),([0],[]),([],[]),([],[]),([5,1,1005],[5,1,1005]),([],[]),([],[]),([],[]),([0],[]),([],[]),([],[]),([6,2,1006],[6,2,1006]),([],[]),([],[]),([0,1005],[0])] (Ei p1 p2 p3 p4 p5 p6) (H9 p3 p4 p6 e1) (by kernel_rfl) (by kernel_rfl) ?_ ?_
    ·refine xz 8 [] [(33,vl eI [p3]),(32,vi p3),(31,.one (.sl 1 1 0 p6.reps.length)),(30,vQ 0),(29,vQ 0),(28,vQ 0),(27,vQ 0),(26,vQ 0),(0,vQ 0),(1,vl ab p1),(3,vi p3),(4,vi p4),(5,vi p5),(8,vR (bg p2)),(12,vQ 4),(25,vb (p2.kind==0))] ?_
     refine GY.new true 5 [] [(34,.one (.sl 5 1 0 (p6.reps.length+(eI.els [p3]).length))),(33,vl eI [p3]),(32,vi p3),(31,.one (.sl 1 1 0 p6.reps.length)),(30,vQ 0),(29,vQ 0),(28,vQ 0),(27,vQ 0),(26,vQ 0),(0,vQ 0),(1,vl ab p1),(3,vi p3),(4,vi p4),(5,vi p5),(8,vR [pi p2.kind,pi p2.n,pi p2.scale,.s (.string p2.s),.ro (ac.els p2.items)]),(12,vQ 4),(25,vb (p2.kind==0))] [5,1] [.box [.sl 1 1 0 p6.reps.length,.sl 2 1 0 p6.defs.length,.sl 3 5 0 p6.values.length],.dead,.arr 1 (eI.els p6.defs),.arr 5 (ac.els p6.values),.box [ci e1.id,lL e1.name,cb e1.need,ci e1.type.kind,ci e1.type.scale,cl ab e1.type.fields],.arr 1 (eI.els p6.reps++eI.els [p3]),.dead] [aT 1 (eI.els [p3]),p6.reps.length=(eI.els p6.reps).length,p6.reps.length+(eI.els [p3]).length≤4294967296] (by kernel_rfl) (by kernel_rfl) (⟨eI.ok _,(eI.len p6.reps).symm,g11,trivial⟩) (by kernel_rfl) ?_
     rw[show p6.reps.length+(eI.els [p3]).length=(p6.reps++[p3]).length from eI.lapp _ _]
     rw[show eI.els p6.reps++eI.els [p3]=eI.els (p6.reps++[p3])from eI.app2 _ _]
     refine xz 6 [] [(40,vl eI [p4]),(39,vi p4),(38,.one (.sl 2 1 0 p6.defs.length)),(37,.one (.pt 0 0 0 1)),(36,vQ 0),(35,vQ 0),(34,.one (.sl 5 1 0 ((p6.reps++[p3]).length))),(33,vl eI [p3]),(32,vi p3),(31,.one (.sl 1 1 0 p6.reps.length)),(30,vQ 0),(29,vQ 0),(28,vQ 0),(27,vQ 0),(26,vQ 0),(0,vQ 0),(1,vl ab p1),(3,vi p3),(4,vi p4),(5,vi p5),(8,vR (bg p2)),(12,vQ 4),(25,vb (p2.kind==0))] ?_
     refine GY.new true 6 [] [(41,.one (.sl 6 1 0 (p6.defs.length+(eI.els [p4]).length))),(40,vl eI [p4]),(39,vi p4),(38,.one (.sl 2 1 0 p6.defs.length)),(37,.one (.pt 0 0 0 1)),(36,vQ 0),(35,vQ 0),(34,.one (.sl 5 1 0 ((p6.reps++[p3]).length))),(33,vl eI [p3]),(32,vi p3),(31,.one (.sl 1 1 0 p6.reps.length)),(30,vQ 0),(29,vQ 0),(28,vQ 0),(27,vQ 0),(26,vQ 0),(0,vQ 0),(1,vl ab p1),(3,vi p3),(4,vi p4),(5,vi p5),(8,vR [pi p2.kind,pi p2.n,pi p2.scale,.s (.string p2.s),.ro (ac.els p2.items)]),(12,vQ 4),(25,vb (p2.kind==0))] [6,2] [.box [.sl 1 1 0 p6.reps.length,.sl 2 1 0 p6.defs.length,.sl 3 5 0 p6.values.length],.dead,.dead,.arr 5 (ac.els p6.values),.box [ci e1.id,lL e1.name,cb e1.need,ci e1.type.kind,ci e1.type.scale,cl ab e1.type.fields],.arr 1 (eI.els (p6.reps++[p3])),.arr 1 (eI.els p6.defs++eI.els [p4])] [aT 1 (eI.els [p4]),p6.defs.length=(eI.els p6.defs).length,p6.defs.length+(eI.els [p4]).length≤4294967296] (by kernel_rfl) (by kernel_rfl) (⟨eI.ok _,(eI.len p6.defs).symm,g12,trivial⟩) (by kernel_rfl) ?_
     rw[show p6.defs.length+(eI.els [p4]).length=(p6.defs++[p4]).length from eI.lapp _ _]
     rw[show eI.els p6.defs++eI.els [p4]=eI.els (p6.defs++[p4])from eI.app2 _ _]
     refine xz 2 [] (Ei p1 p2 p3 p4 p5 p6) ?_
     refine GY.sto [0] [] (Ei p1 p2 p3 p4 p5 p6) ([0]++[1005]) (H9 p3 p4 p6 e1) [] (by kernel_rfl) (by kernel_rfl) trivial (by kernel_rfl) ?_
     exact GY.done (by kernel_rfl) (by kernel_rfl)
    refine zv [12,16,34,41,60,67,74,95,102] 3 [] [] [] [.box [.sl 5 1 0 ((p6.reps++[p3]).length),.sl 6 1 0 ((p6.defs++[p4]).length),.sl 3 5 0 p6.values.length],.dead,.dead,.arr 5 (ac.els p6.values),.box (cq e1),.arr 1 (eI.els (p6.reps++[p3])),.arr 1 (eI.els (p6.defs++[p4]))] ?_
    refine XO.sub (bW.swap 1 5 [] [.box [.sl 1 1 0 ((p6.reps++[p3]).length),.sl 6 1 0 ((p6.defs++[p4]).length),.sl 3 5 0 p6.values.length],.arr 1 (eI.els (p6.reps++[p3])),.dead,.arr 5 (ac.els p6.values),.box (cq e1),.dead,.arr 1 (eI.els (p6.defs++[p4]))] (by kernel_rfl) (by kernel_rfl) (by kernel_rfl) (by kernel_rfl)) ?_
    refine XO.sub (bW.swap 2 6 [] [.box [.sl 1 1 0 ((p6.reps++[p3]).length),.sl 2 1 0 ((p6.defs++[p4]).length),.sl 3 5 0 p6.values.length],.arr 1 (eI.els (p6.reps++[p3])),.arr 1 (eI.els (p6.defs++[p4])),.arr 5 (ac.els p6.values),.box (cq e1),.dead,.dead] (by kernel_rfl) (by kernel_rfl) (by kernel_rfl) (by kernel_rfl)) (zd (hK10 _ _ (ze ?_)))
    obtain rfl:=Option.some.inj h
    exact qO.fin (.inr rfl) [] [] [] (by kernel_rfl) trivial (by kernel_rfl) (by kernel_rfl) (.tp0)
   ·exact zs (hK7 _ _ (zr (zg [12,16,34,41,60,67,74,95,102] 3 [0,1,3,4,5,8,12] (zd (hJ1 (i64.wrap (p4+1)) h _ _ (zk [0,1,3,4,5,8,12]))))))
  ·exact zs (hJ1 p4 h _ _ (zk [0,1,3,4,5,8,12]))
def nk(rec3:List Int→List Int→List aa→Int→Option (List ae))(x3:Int)(l8 l9:List Int)(l10:List aa):Option (List ae):=rec3 l8 l9 l10 (i64.wrap (x3+1))
def jA(rec2:List Int→List Int→List aa→Int→Option (List ae))(x2:Int)(l11 l12:List Int)(l13:List aa):Option (List ae):=rec2 l11 l12 l13 (i64.wrap (x2+1))
def eU(rec2:List Int→List Int→List aa→Int→Option (List ae))(p1 e1:List af)(x2:Int)(e2:List aa):Nat→List Int→List Int→List aa→Int→Option (List ae)
 |0,_,_,_,_=>none
 |k3+1,l5,l6,l7,x3=>aF (decide (x3<(p1.length:Int))) (aK (at? p1 x3) fun e3=>aK (at? e1 0) fun e4=>aF (e3.id==e4.id) (aK (at? e2 x3) fun e5=>aK (bR aO e1 e5 0 0 0 (ae.mk l5 l6 l7)) fun r2=>nk (eU rec2 p1 e1 x2 e2 k3) x3 r2.2.reps r2.2.defs r2.2.values) (nk (eU rec2 p1 e1 x2 e2 k3) x3 l5 l6 l7)) (jA rec2 x2 l5 l6 l7)
def kR(rec1:List ae→Int→Option (List ae))(l1:List ae)(x1:Int)(l14 l15:List Int)(l16:List aa):Option (List ae):=eh (l1.length+1≤4294967296)<|rec1 (l1++[(ae.mk l14 l15 l16)]) (i64.wrap (x1+1))
def eC(rec1:List ae→Int→Option (List ae))(p1:List af)(p2:List (List aa))(l1:List ae)(x1:Int)(e1:List af):Nat→List Int→List Int→List aa→Int→Option (List ae)
 |0,_,_,_,_=>none
 |k2+1,l2,l3,l4,x2=>aF (decide (x2<(p2.length:Int))) (aK (at? p2 x2) fun e2=>eU (eC rec1 p1 p2 l1 x1 e1 k2) p1 e1 x2 e2 aO l2 l3 l4 0) (kR rec1 l1 x1 l2 l3 l4)
def pp(l17:List ae):Option (List ae):=some l17
def dU(p1:List af)(p2:List (List aa))(r1:List (List af)):Nat→List ae→Int→Option (List ae)
 |0,_,_=>none
 |k1+1,l1,x1=>aF (decide (x1<(r1.length:Int))) (aK (at? r1 x1) fun e1=>eC (dU p1 p2 r1 k1) p1 p2 l1 x1 e1 aO [] [] [] 0) (pp l1)
def pZ(p1:List af)(p2:List (List aa)):Option (List ae):=aK (dB aO p1) fun r1=>dU p1 p2 r1 aO [] 0
abbrev IV(p1:(List af))(p2:(List (List aa)))(r1:(List (List af)))(l1:List ae)(x1:Int)(e1:(List af))(x2:Int):Fr:=[(0,vl ab p1),(1,vl (eL ac) p2),(5,.one (.sl 0 3 0 l1.length)),(7,vl ab e1),(8,.one (.pt 1 0 0 0)),(14,vl (eL ab) r1),(15,vi (r1.length:Int)),(16,vi x1),(20,vl (eL ac) p2),(21,vi (p2.length:Int)),(22,vi x2)]
abbrev Jr(p1:(List af))(p2:(List (List aa)))(r1:(List (List af)))(l1:List ae)(x1:Int)(e1:(List af))(x2:Int)(e2:(List aa))(x3:Int):Fr:=[(0,vl ab p1),(1,vl (eL ac) p2),(5,.one (.sl 0 3 0 l1.length)),(7,vl ab e1),(8,.one (.pt 1 0 0 0)),(10,vl ac e2),(14,vl (eL ab) r1),(15,vi (r1.length:Int)),(16,vi x1),(20,vl (eL ac) p2),(21,vi (p2.length:Int)),(22,vi x2),(26,vl ab p1),(27,vi (p1.length:Int)),(28,vi x3)]
theorem Bi(p1:List af)(p2:List (List aa)):CT prog 39 [vl ab p1,vl (eL ac) p2] (pZ p1 p2) (vl ah):=
  hJ 54 [8,12] f39 fun r=>(gr f39 14 1 fun K k=>have J4:∀{l17},pp l17=some r→K.p [(5,.one (.sl 0 3 0 l17.length))] [.arr 3 (ah.els l17)]:=fun{l17} h=>k h (wd ah l17 0 [4] uz);(dp (nw aO _) fun r1=>(uN (eL ab) r1 (vq (.li 5 3) (mC f39 58 1 fun R b=>have L1:∀k1 {l1 x1},dU p1 p2 r1 k1 l1 x1=some r→(R k1).p [(0,vl ab p1),(1,vl (eL ac) p2),(5,.one (.sl 0 3 0 l1.length)),(14,vl (eL ab) r1),(15,vi r1.length),(16,vi x1)] [.arr 3 (ah.els l1)]:=uI (lK rfl) fun k1 i1 {l1 x1} h=>b h (uU (dU.eq_2 ..) (uC (jO (eL ab) fun e1=>(gr f39 14950 3 fun K k=>have J3:∀{l14 l15 l16},kR (dU p1 p2 r1 k1) l1 x1 l14 l15 l16=some r→K.p [(0,vl ab p1),(1,vl (eL ac) p2),(5,.one (.sl 0 3 0 l1.length)),(8,vQ 1),(14,vl (eL ab) r1),(15,vi r1.length),(16,vi x1)] [.arr 3 (ah.els l1),.box [.sl 2 1 0 l14.length,.sl 3 1 0 l15.length,.sl 4 5 0 l16.length],.arr 1 (eI.els l14),.arr 1 (eI.els l15),.arr 5 (ac.els l16)]:=fun{l14 l15 l16} h=>k h (vq (.stl 1 0) (wd eI l14 2 [49] (vq (.stl 1 1) (wd eI l15 3 [49] (vq (.stl 1 2) (wd ac l16 4 [49] (Fs ah 0 [(ae.mk l14 l15 l16)] (uJ i1))))))));(uN (eL ac) p2 (vq (.lb 1 0 1) (vq (.lb 1 1 1) (vq (.lb 1 2 5) (mC f39 59802 1 fun R b=>have L2:∀k2 {l2 l3 l4 x2},eC (dU p1 p2 r1 k1) p1 p2 l1 x1 e1 k2 l2 l3 l4 x2=some r→(R k2).p (IV p1 p2 r1 l1 x1 e1 x2) [.arr 3 (ah.els l1),.box [.sl 2 1 0 l2.length,.sl 3 1 0 l3.length,.sl 4 5 0 l4.length],.arr 1 (eI.els l2),.arr 1 (eI.els l3),.arr 5 (ac.els l4)]:=uI (lK rfl) fun k2 i2 {l2 l3 l4 x2} h=>b h (uU (eC.eq_2 ..) (uC (gr f39 956838 1 fun K k=>have J2:∀{l11 l12 l13},jA (eC (dU p1 p2 r1 k1) p1 p2 l1 x1 e1 k2) x2 l11 l12 l13=some r→K.p (IV p1 p2 r1 l1 x1 e1 x2) [.arr 3 (ah.els l1),.box [.sl 2 1 0 l11.length,.sl 3 1 0 l12.length,.sl 4 5 0 l13.length],.arr 1 (eI.els l11),.arr 1 (eI.els l12),.arr 5 (ac.els l13)]:=fun{l11 l12 l13} h=>k h (uJ i2);(jO (eL ac) fun e2=>(uN ab p1 (mC f39 15309414 2 fun R b=>have L3:∀k3 {l5 l6 l7 x3},eU (eC (dU p1 p2 r1 k1) p1 p2 l1 x1 e1 k2) p1 e1 x2 e2 k3 l5 l6 l7 x3=some r→(R k3).p (Jr p1 p2 r1 l1 x1 e1 x2 e2 x3) [.arr 3 (ah.els l1),.box [.sl 2 1 0 l5.length,.sl 3 1 0 l6.length,.sl 4 5 0 l7.length],.arr 1 (eI.els l5),.arr 1 (eI.els l6),.arr 5 (ac.els l7)]:=uI (lK rfl) fun k3 i3 {l5 l6 l7 x3} h=>b h (uU (eU.eq_2 ..) (uC (gr f39 244950630 1 fun K k=>have J1:∀{l8 l9 l10},nk (eU (eC (dU p1 p2 r1 k1) p1 p2 l1 x1 e1 k2) p1 e1 x2 e2 k3) x3 l8 l9 l10=some r→K.p (Jr p1 p2 r1 l1 x1 e1 x2 e2 x3) [.arr 3 (ah.els l1),.box [.sl 2 1 0 l8.length,.sl 3 1 0 l9.length,.sl 4 5 0 l10.length],.arr 1 (eI.els l8),.arr 1 (eI.els l9),.arr 5 (ac.els l10)]:=fun{l8 l9 l10} h=>k h (uJ i3);(jO ab fun e3=>(pX 6 (jO ab fun e4=>(uC (jO ac fun e5=>(OD true [1,2,3,4] (oy aO _ _ _ _ _ _) fun r2 _=>(uJ J1))) (uJ J1)))))) (uR (.exit 4) (xM (uJ J2)))));uE (L3 aO))))) (uR (.exit 2) (xM (uJ J3)))));uE (L2 aO)))))))) (uR (.exit 0) (xM (uJ J4)))));uE (L1 aO))))))
def pW:OB:=some true
def dD(p1 p2:List Int):Nat→Int→OB
 |0,_=>none
 |k1+1,x1=>aF (decide (x1<(p1.length:Int))) (aK (at? p1 x1) fun e1=>aK (at? p2 x1) fun e2=>aF (e1 != e2) (some false) ((dD p1 p2 k1) (i64.wrap (x1+1)))) (pW)
def ir(p1 p2:List Int):OB:=aF ((p1.length:Int) != (p2.length:Int)) (some false) (dD p1 p2 aO 0)
theorem qK(p1 p2:List Int):CT prog 87 [vl eI p1,vl eI p2] (ir p1 p2) vb:=
  hJ 26 [] f87 fun r=>(uN eI p1 (uN eI p2 (uC uz (sM f87 14 1 pW [] [] uz fun K J1=>(uN eI p1 (mC f87 58 1 fun R b=>have L1:∀k1 {x1},dD p1 p2 k1 x1=some r→(R k1).p [(0,vl eI p1),(1,vl eI p2),(12,vi p1.length),(13,vi x1)] []:=uI (lK rfl) fun k1 i1 {x1} h=>b h (uU (dD.eq_2 ..) (uC (pX 8 (jO eI fun e1=>(jO eI fun e2=>(uC wj (uJ i1))))) (uR (.exit 0) (xM (uJ J1)))));uE (L1 aO)))))))
def gi(p1 p2:Int):OI:=aF (decide (p1<p2)) (some (-1)) (aF (decide (p2<p1)) (some 1) (some 0))
theorem gv(p1 p2:Int):CT prog 69 [vi p1,vi p2] (gi p1 p2) vi:=
  hJ 11 [] f69 fun r=>(uC uz (uC uz uz))
def mr(rec1:List Int→Int→Option lF)(l1:List Int)(x1 x2:Int):Option lF:=eh (l1.length+1≤4294967296)<|rec1 (l1++[x2]) (i64.wrap (x1.tdiv 10))
def rB(p1:Int)(l2:List Int):Option lF:=some (lF.mk (decide (p1<0)) l2)
def ez(p1:Int):Nat→List Int→Int→Option lF
 |0,_,_=>none
 |k1+1,l1,x1=>aF (x1 != 0) (aF (decide ((x1.tmod 10)<0)) (mr (ez p1 k1) l1 x1 (i64.wrap (0-(x1.tmod 10)))) (mr (ez p1 k1) l1 x1 (x1.tmod 10))) (rB p1 l1)
def rE(p1:Int):Option lF:=ez p1 aO [] p1
abbrev DY:List CV:=[cb false,.pv (.s (.slice none 0 0))]
theorem yX(p1:Int):CT prog 173 [vi p1] (rE p1) (fun r=> .ag [cb r.below,cl eI r.d]):=
  hJ 25 [2] f173 fun r=>(gr f173 14 1 fun K k=>have J2:∀{l2},rB p1 l2=some r→K.p [(0,vi p1),(2,vQ 0),(3,.one (.sl 1 1 0 l2.length))] [.box DY,.arr 1 (eI.els l2)]:=fun{l2} h=>k h (wd eI l2 1 [] uz);(vq (.li 3 1) (mC f173 58 1 fun R b=>have L1:∀k1 {l1 x1},ez p1 k1 l1 x1=some r→(R k1).p [(0,vi p1),(2,vQ 0),(3,.one (.sl 1 1 0 l1.length)),(4,vi x1)] [.box DY,.arr 1 (eI.els l1)]:=uI (lK rfl) fun k1 i1 {l1 x1} h=>b h (uU (ez.eq_2 ..) (uC (gr f173 3730 3 fun K k=>have J1:∀{x2},mr (ez p1 k1) l1 x1 x2=some r→K.p [(0,vi p1),(2,vQ 0),(3,.one (.sl 1 1 0 l1.length)),(4,vi x1),(5,vi x2)] [.box DY,.arr 1 (eI.els l1)]:=fun{x2} h=>k h (Fs eI 1 [x2] (uJ i1));(uC (uJ J1) (uJ J1))) (uR (.exit 0) (xM (uJ J2)))));uE (L1 aO))))
def vv(p1:lF)(p2:Int):Option lF:=aF ((p1.d.length:Int)==0) (some p1) (eh (0≤p2∧p2≤p2∧p2≤4294967296)<|eh ((List.replicate p2.toNat (0:Int)).length+p1.d.length≤4294967296)<|some (lF.mk p1.below ((List.replicate p2.toNat (0:Int))++p1.d)))
theorem BW(p1:lF)(p2:Int):CT prog 172 [.ag [cb p1.below,cl eI p1.d],vi p2] (vv p1 p2) (fun r=> .ag [cb r.below,cl eI r.d]):=
  hJ 18 [4] f172 fun r=>(uN eI p1.d (uC uz (B9 7 1 [1,2] (PA eI (0:Int) (Fs (L:=p2.toNat) (hL:=by simp) eI 1 p1.d (wd eI ((List.replicate p2.toNat (0:Int))++p1.d) 1 [] uz))))))
def nv(p1:aa):Option lF:=aK (rE p1.n) fun r1=>aK (vv r1 (i64.wrap (12-p1.scale))) fun r2=>some r2
theorem sR(p1:aa):CT prog 134 [mV p1] (nv p1) (fun r=> .ag [cb r.below,cl eI r.d]):=
  hJ 10 [2] f134 fun r=>(pX 6 (dp (yX _) fun r1=>(dp (BW _ _) fun r2=>uz)))
def uk:OI:=some 0
def ji(p1 p2:List Int):Nat→Int→OI
 |0,_=>none
 |k1+1,x1=>aF (decide (0≤x1)) (aK (at? p1 x1) fun e1=>aK (at? p2 x1) fun e2=>aF (e1 != e2) (some (i64.wrap (e1-e2))) ((ji p1 p2 k1) (i64.wrap (x1-1)))) (uk)
def sq(p1 p2:List Int):OI:=aF ((p1.length:Int) != (p2.length:Int)) (some (i64.wrap ((p1.length:Int)-(p2.length:Int)))) (ji p1 p2 aO (i64.wrap ((p1.length:Int)-1)))
theorem Ca(p1 p2:List Int):CT prog 171 [vl eI p1,vl eI p2] (sq p1 p2) vi:=
  hJ 41 [] f171 fun r=>(uN eI p1 (uN eI p2 (uC (uN eI p1 (uN eI p2 uz)) (sM f171 14 1 uk [] [] uz fun K J1=>(uN eI p1 (mC f171 58 1 fun R b=>have L1:∀k1 {x1},ji p1 p2 k1 x1=some r→(R k1).p [(0,vl eI p1),(1,vl eI p2),(5,vi x1)] []:=uI (lK rfl) fun k1 i1 {x1} h=>b h (uU (ji.eq_2 ..) (uC (pX 8 (uL eI fun e1 a13=>(uL eI fun e2 a14=>(uC (pX 8 (uM eI a13 (uM eI a14 wj))) (uJ i1))))) (uR (.exit 0) (xM (uJ J1)))));uE (L1 aO)))))))
def kv(x1:Int):OI:=aF (decide (x1<0)) (some (-1)) (aF (decide (0<x1)) (some 1) (some 0))
def ki(p1 p2:lF):OI:=aF (!(p1.below==p2.below)) (aF p1.below (some (-1)) (some 1)) (aK (sq p1.d p2.d) fun r1=>aF p1.below (kv (i64.wrap (0-r1))) (kv r1))
theorem tE(p1 p2:lF):CT prog 133 [.ag [cb p1.below,cl eI p1.d],.ag [cb p2.below,cl eI p2.d]] (ki p1 p2) vi:=
  hJ 26 [] f133 fun r=>(uC (uC uz uz) (dp (Ca _ _) fun r1=>(gr f133 30 1 fun K k=>have J1:∀{x1},kv x1=some r→K.p [(5,vi x1)] []:=fun{x1} h=>k h (uC uz (uC uz uz));(uC (uJ J1) (uJ J1)))))
def np(p1 p2:aa):OI:=aK (eN p1.scale 0 12) fun r1=>aK (eN p2.scale 0 12) fun r2=>aF (!(r1==r2)) (aF r1 (some (-1)) (some 1)) (aF r1 (aK (nv p1) fun r3=>aK (nv p2) fun r4=>aK (ki r3 r4) fun r5=>aF (r5 != 0) (some r5) (aK (gi p1.scale p2.scale) fun r6=>some r6)) (aF (p1.n != p2.n) (aK (gi p1.n p2.n) fun r7=>some r7) (aK (gi p1.scale p2.scale) fun r8=>some r8)))
theorem wH(p1 p2:aa):CT prog 70 [mV p1,mV p2] (np p1 p2) vi:=
  hJ 47 [] f70 fun r=>(pX 5 (dp (fG _ _ _) fun r1=>(dp (fG _ _ _) fun r2=>(uC (uC uz uz) (uC (pX 3 (dp (sR _) fun r3=>(dp (sR _) fun r4=>(dp (tE _ _) fun r5=>(uC uz (dp (gv _ _) fun r6=>uz)))))) (uC (dp (gv _ _) fun r7=>uz) (dp (gv _ _) fun r8=>uz)))))))
def pq(p1 p2:ByteArray):OI:=aK (gi (p1.size:Int) (p2.size:Int)) fun r2=>some r2
def kD(rec1:Int→OI)(p1 p2:ByteArray)(x1:Int)(x2:Bool):OI:=aF x2 (eh (0≤x1∧x1<(p1.size:Int))<|eh (0≤x1∧x1<(p2.size:Int))<|aK (some (((p1.data.toList.getD x1.toNat 0).toNat:Int) != ((p2.data.toList.getD x1.toNat 0).toNat:Int))) fun y1=>aF y1 (eh (0≤x1∧x1<(p1.size:Int))<|eh (0≤x1∧x1<(p2.size:Int))<|aK (gi (i64.wrap ((p1.data.toList.getD x1.toNat 0).toNat:Int)) (i64.wrap ((p2.data.toList.getD x1.toNat 0).toNat:Int))) fun r1=>some r1) (rec1 (i64.wrap (x1+1)))) (pq p1 p2)
def fI(p1 p2:ByteArray):Nat→Int→OI
 |0,_=>none
 |k1+1,x1=>aF (decide (x1<(p1.size:Int))) (kD (fI p1 p2 k1) p1 p2 x1 (decide (x1<(p2.size:Int)))) (kD (fI p1 p2 k1) p1 p2 x1 false)
def tK(p1 p2:ByteArray):OI:=fI p1 p2 aO 0
theorem A2(p1 p2:ByteArray):CT prog 71 [vs p1,vs p2] (tK p1 p2) vi:=
  hJ 39 [] f71 fun r=>(sM f71 6 1 (pq p1 p2) [(0,vs p1),(1,vs p2)] [] (dp (gv _ _) fun r2=>uz) fun K J2=>(mC f71 26 1 fun R b=>have L1:∀k1 {x1},fI p1 p2 k1 x1=some r→(R k1).p [(0,vs p1),(1,vs p2),(5,vi x1)] []:=uI (lK rfl) fun k1 i1 {x1} h=>b h (uU (fI.eq_2 ..) (gr f71 208 2 fun K k=>have J1:∀{x2},kD (fI p1 p2 k1) p1 p2 x1 x2=some r→K.p [(0,vs p1),(1,vs p2),(5,vi x1),(15,vb x2)] []:=fun{x2} h=>k h (uC (pX 6 (uG (uG (uY 24 vb fun y1=>(uC (pX 8 (uG (uG (dp (gv _ _) fun r1=>wj)))) (uJ i1)))))) (uR (.exit 0) (xM (uJ J2))));(uC (uJ J1) (uJ J1))));uE (L1 aO)))
def nG(p1 p2:aa):OI:=aK (gi (p1.items.length:Int) (p2.items.length:Int)) fun r7=>some r7
def jp(rec1:Int→OI)(q_ref1_Compare:aa→aa→OI)(p1 p2:aa)(x2:Int)(x3:Bool):OI:=aF x3 (aK (at? p1.items x2) fun e1=>aK (at? p2.items x2) fun e2=>aK (q_ref1_Compare e1 e2) fun r6=>aF (r6 != 0) (some r6) (rec1 (i64.wrap (x2+1)))) (nG p1 p2)
def eG(q_ref1_Compare:aa→aa→OI)(p1 p2:aa):Nat→Int→OI
 |0,_=>none
 |k1+1,x2=>aF (decide (x2<(p1.items.length:Int))) (jp (eG q_ref1_Compare p1 p2 k1) q_ref1_Compare p1 p2 x2 (decide (x2<(p2.items.length:Int)))) (jp (eG q_ref1_Compare p1 p2 k1) q_ref1_Compare p1 p2 x2 false)
def kY(q_ref1_Compare:aa→aa→OI)(p1 p2:aa)(x1:Bool):OI:=aF x1 (aK (gi p1.n p2.n) fun r3=>some r3) (aF (p1.scale != p2.scale) (aK (gi p1.scale p2.scale) fun r4=>some r4) (aK (tK p1.s p2.s) fun r5=>aF (r5 != 0) (some r5) (eG q_ref1_Compare p1 p2 aO 0)))
def js(q_ref1_Compare:aa→aa→OI)(p1 p2:aa):OI:=aF (p1.n != p2.n) (kY q_ref1_Compare p1 p2 (p1.kind != 3)) (kY q_ref1_Compare p1 p2 false)
def bY:Nat→aa→aa→OI
 |0,_,_=>none
 |k0+1,p1,p2=>aF (!((p1.kind==0)==(p2.kind==0))) (aF (p1.kind==0) (some 1) (some (-1))) (aF (p1.kind==0) (some 0) (aF (p1.kind != p2.kind) (aK (gi p1.kind p2.kind) fun r1=>some r1) (aF (p1.kind==3) (aK (np p1 p2) fun r2=>aF (r2 != 0) (some r2) (js (bY k0) p1 p2)) (js (bY k0) p1 p2))))
theorem rk:∀(k0:Nat) (p1 p2:aa),CT prog 26 [mV p1,mV p2] (bY k0 p1 p2) vi
  |0,_,_=>AK (bY.eq_1 ..)
  |k0+1,p1,p2=>hJ 109 [] f26 fun r=>(uU (bY.eq_2 ..) (uC (uC uz uz) (uC uz (uC (dp (gv _ _) fun r1=>uz) (sM f26 62 1 (js (bY k0) p1 p2) [(2,vR (bg p1)),(3,vR (bg p2))] [] (gr f26 252 2 fun K k=>have J2:∀{x1},kY (bY k0) p1 p2 x1=some r→K.p [(2,vR (bg p1)),(3,vR (bg p2)),(50,vb x1)] []:=fun{x1} h=>k h (uC (dp (gv _ _) fun r3=>uz) (uC (dp (gv _ _) fun r4=>uz) (dp (A2 _ _) fun r5=>(uC uz (sM f26 1022 1 (nG p1 p2) [(2,vR (bg p1)),(3,vR (bg p2))] [] (uN ac p1.items (uN ac p2.items (dp (gv _ _) fun r7=>uz))) fun K J4=>(mC f26 4090 1 fun R b=>have L1:∀k1 {x2},eG (bY k0) p1 p2 k1 x2=some r→(R k1).p [(2,vR (bg p1)),(3,vR (bg p2)),(7,vi x2)] []:=uI (lK rfl) fun k1 i1 {x2} h=>b h (uU (eG.eq_2 ..) (gr f26 32720 2 fun K k=>have J3:∀{x3},jp (eG (bY k0) p1 p2 k1) (bY k0) p1 p2 x2 x3=some r→K.p [(2,vR (bg p1)),(3,vR (bg p2)),(7,vi x2),(85,vb x3)] []:=fun{x3} h=>k h (uC (pX 10 (jO ac fun e1=>(jO ac fun e2=>(dp (rk k0 _ _) fun r6=>(uC wj (uJ i1)))))) (uR (.exit 0) (xM (uJ J4))));(uN ac p1.items (uC (uN ac p2.items (uJ J3)) (uJ J3)))));uE (L1 aO)))))));(uC (uJ J2) (uJ J2))) fun K J1=>(uC (dp (wH _ _) fun r2=>(uC (uR .ret (xN xF)) (uJ J1))) (uJ J1)))))))
def fx(p1 p2:List aa):OI:=aK (bY aO (aa.mk 6 0 0 ByteArray.empty p1) (aa.mk 6 0 0 ByteArray.empty p2)) fun r1=>some r1
theorem ou(p1 p2:List aa):CT prog 11 [vl ac p1,vl ac p2] (fx p1 p2) vi:=
  hJ 10 [] f11 fun r=>(dp (rk aO _ _) fun r1=>uz)
def dG(rec1:Int→OB)(x1:Int)(x2:Bool):OB:=aF x2 (some false) (rec1 (i64.wrap (x1+1)))
def nK:OB:=some true
def bv(p1 p2:List ae):Nat→Int→OB
 |0,_=>none
 |k1+1,x1=>aF (decide (x1<(p1.length:Int))) (aK (at? p1 x1) fun e1=>aK (at? p2 x1) fun e2=>aK (ir e1.reps e2.reps) fun r1=>aF (!r1) (dG (bv p1 p2 k1) x1 true) (aK (ir e1.defs e2.defs) fun r2=>aF (!r2) (dG (bv p1 p2 k1) x1 true) (aF ((e1.values.length:Int) != (e2.values.length:Int)) (dG (bv p1 p2 k1) x1 true) (aK (fx e1.values e2.values) fun r3=>dG (bv p1 p2 k1) x1 (r3 != 0))))) (nK)
def fm(p1 p2:List ae):OB:=aF ((p1.length:Int) != (p2.length:Int)) (some false) (bv p1 p2 aO 0)
theorem th(p1 p2:List ae):CT prog 38 [vl ah p1,vl ah p2] (fm p1 p2) vb:=
  hJ 72 [] f38 fun r=>(uN ah p1 (uN ah p2 (uC uz (sM f38 14 1 nK [] [] uz fun K J2=>(uN ah p1 (mC f38 58 1 fun R b=>have L1:∀k1 {x1},bv p1 p2 k1 x1=some r→(R k1).p [(0,vl ah p1),(1,vl ah p2),(12,vi p1.length),(13,vi x1)] []:=uI (lK rfl) fun k1 i1 {x1} h=>b h (uU (bv.eq_2 ..) (uC (gr f38 7474 3 fun K k=>have J1:∀{x2},dG (bv p1 p2 k1) x1 x2=some r→K.p [(0,vl ah p1),(1,vl ah p2),(12,vi p1.length),(13,vi x1),(70,vb x2)] []:=fun{x2} h=>k h (uC wj (uJ i1));(pX 52 (uL ah fun e1 a14=>(uL ah fun e2 a15=>(dp (qK _ _) fun r1=>(uC (uJ J1) (uM ah a14 (uM ah a15 (dp (qK _ _) fun r2=>(uC (uJ J1) (uM ah a14 (uN ac e1.values (uM ah a15 (uN ac e2.values (uC (uJ J1) (uM ah a14 (uM ah a15 (dp (ou _ _) fun r3=>(uJ J1))))))))))))))))))) (uR (.exit 0) (xM (uJ J2)))));uE (L1 aO)))))))
end Go.Proofs.YtnecojeemmnnaaaGreatDoor
namespace Go.Proofs.YtnecojeemmnnaaaGreatDoor
open Go.SX Go Tryz
open Go.IntKind (i64)
set_option maxRecDepth 100000
set_option maxHeartbeats 8000000
def dz(rec1:List (List aJ)→Int→Option ((List (List aa))×Int))(l1:List (List aJ))(x1:Int)(e1:ae)(x2:Bool):Option ((List (List aa))×Int):=aF x2 (some ([],1)) (aK (iY (aJ.mk e1.reps e1.defs) 0) fun r3=>eh (l1.length+1≤4294967296)<|aK (at? (l1++[r3]) (i64.wrap ((((l1++[r3]).length:Nat):Int)-1))) fun e3=>aK (at? (l1++[r3]) 0) fun e4=>aF ((e3.length:Int) != (e4.length:Int)) (some ([],1)) (rec1 (l1++[r3]) (i64.wrap (x1+1))))
def gL(rec3:List Int→List aa→List ae→Bool→Int→Int→Option ((List (List aa))×Int))(l5:List Int)(l6:List aa)(z3:List ae)(z4:Bool)(x4 x5:Int)(e6:af)(r4:List (List af))(l8:List aJ):Option ((List (List aa))×Int):=aK (ax aO e6 x4 l8 0 0 z3 z4 l5) fun r5=>eh (r5.2.2.2.length=l5.length)<|eh (l6.length+1≤4294967296)<|rec3 r5.2.2.2 (l6++[r5.1]) r5.2.1 r5.2.2.1 (i64.wrap (x4+(r4.length:Int))) (i64.wrap (x5+1))
def eO(rec3:List Int→List aa→List ae→Bool→Int→Int→Option ((List (List aa))×Int))(l2:List (List aJ))(x3:Int)(l5:List Int)(l6:List aa)(z3:List ae)(z4:Bool)(x4 x5:Int)(e6:af)(r4:List (List af)):Nat→List aJ→Int→Option ((List (List aa))×Int)
 |0,_,_=>none
 |k4+1,l7,x6=>aF (decide (x6<(i64.wrap (x4+(r4.length:Int))))) (aK (at? l2 x6) fun e7=>aK (at? e7 x3) fun e8=>eh (l7.length+1≤4294967296)<|(eO rec3 l2 x3 l5 l6 z3 z4 x4 x5 e6 r4 k4) (l7++[e8]) (i64.wrap (x6+1))) (gL rec3 l5 l6 z3 z4 x4 x5 e6 r4 l7)
def iT(rec2:List Int→List (List aa)→List ae→Bool→Int→Option ((List (List aa))×Int))(l4:List (List aa))(x3:Int)(l9:List Int)(l10:List aa)(z5:List ae)(z6:Bool):Option ((List (List aa))×Int):=eh (l4.length+1≤4294967296)<|rec2 l9 (l4++[l10]) z5 z6 (i64.wrap (x3+1))
def bD(rec2:List Int→List (List aa)→List ae→Bool→Int→Option ((List (List aa))×Int))(p1:List af)(l2:List (List aJ))(l4:List (List aa))(x3:Int):Nat→List Int→List aa→List ae→Bool→Int→Int→Option ((List (List aa))×Int)
 |0,_,_,_,_,_,_=>none
 |k3+1,l5,l6,z3,z4,x4,x5=>aF (decide (x5<(p1.length:Int))) (aK (at? p1 x5) fun e6=>aK (dB aO [e6]) fun r4=>eO (bD rec2 p1 l2 l4 x3 k3) l2 x3 l5 l6 z3 z4 x4 x5 e6 r4 aO [] x4) (iT rec2 l4 x3 l5 l6 z3 z4)
def eP(l12:List (List aa))(x7:Bool):Option ((List (List aa))×Int):=aF x7 (some ([],1)) (some (l12,0))
def fy(p1:List af)(p2:List ae)(l11:List Int)(l12:List (List aa))(z7:List ae)(z8:Bool):Option ((List (List aa))×Int):=aF z8 (eP l12 true) (aK (mg p1 l12) fun r6=>aF (r6 != 0) (eP l12 true) (aK (pZ p1 l12) fun r7=>aK (fm r7 p2) fun r8=>eP l12 (!r8)))
def aY(p1:List af)(p2:List ae)(l2:List (List aJ))(e5:List aJ):Nat→List Int→List (List aa)→List ae→Bool→Int→Option ((List (List aa))×Int)
 |0,_,_,_,_,_=>none
 |k2+1,l3,l4,z1,z2,x3=>aF (decide (x3<(e5.length:Int))) (bD (aY p1 p2 l2 e5 k2) p1 l2 l4 x3 aO l3 [] z1 z2 0 0) (fy p1 p2 l3 l4 z1 z2)
def fj(p1:List af)(p2:List ae)(l2:List (List aJ)):Option ((List (List aa))×Int):=aK (at? l2 0) fun e5=>aY p1 p2 l2 e5 aO (List.replicate (p2.length:Int).toNat (0:Int)) [] p2 false 0
def bC(p1:List af)(p2:List ae):Nat→List (List aJ)→Int→Option ((List (List aa))×Int)
 |0,_,_=>none
 |k1+1,l1,x1=>aF (decide (x1<(p2.length:Int))) (aK (at? p2 x1) fun e1=>aF ((e1.reps.length:Int) != (e1.defs.length:Int)) (dz (bC p1 p2 k1) l1 x1 e1 true) (aF (decide (0<(e1.reps.length:Int))) (aK (at? e1.reps 0) fun e2=>dz (bC p1 p2 k1) l1 x1 e1 (e2 != 0)) (dz (bC p1 p2 k1) l1 x1 e1 false))) (fj p1 p2 l1)
def er(p1:List af)(p2:List ae):Option ((List (List aa))×Int):=aK (gM p1) fun r1=>aF (r1 != 0) (some ([],r1)) (aK (dB aO p1) fun r2=>aF ((p2.length:Int) != (r2.length:Int)) (some ([],1)) (eh (0≤(p2.length:Int)∧(p2.length:Int)≤(p2.length:Int)∧(p2.length:Int)≤4294967296)<|bC p1 p2 aO [] 0))
abbrev AX(p2:(List ae)):List CV:=[cl ah p2,.sl 0 1 0 ((List.replicate (p2.length:Int).toNat (0:Int)).length),cb false]
abbrev Dx(l11:List Int)(z7:List ae)(z8:Bool):List CV:=[cl ah z7,.sl 0 1 0 l11.length,cb z8]
abbrev vG(l12:List (List aa)):Fr:=[(11,vl (eL ac) l12),(154,vb true)]
abbrev D6(p1:(List af))(p2:(List ae))(l2:List (List aJ))(e5:(List aJ))(l4:List (List aa))(x3:Int)(l6:List aa)(x4 x5:Int)(r4:(List (List af)))(r5:(aa×(List ae)×Bool×(List Int))):Fr:=[(0,vl ab p1),(1,vl ah p2),(7,.one (.pt 1 0 0 0)),(8,.one (.sl 2 1 0 l2.length)),(11,.one (.sl 3 1 0 l4.length)),(12,vi x3),(13,.one (.sl 4 5 0 ((l6++[r5.1]).length))),(14,vi (i64.wrap (x4+(r4.length:Int)))),(88,vi (e5.length:Int)),(89,vi x3),(92,vl ab p1),(93,vi (p1.length:Int)),(94,vi (i64.wrap (x5+1)))]
abbrev GZ(p1:(List af))(p2:(List ae))(l1:List (List aJ))(x1:Int)(r3:(List aJ)):Fr:=[(0,vl ab p1),(1,vl ah p2),(7,.one (.pt 1 0 0 0)),(8,.one (.sl 2 1 0 ((l1++[r3]).length))),(37,vl ah p2),(38,vi (p2.length:Int)),(39,vi (i64.wrap (x1+1)))]
abbrev AP(l11:List Int)(l12:List (List aa))(z7:List ae)(z8:Bool):St:=[.arr 1 (eI.els l11),.box (Dx l11 z7 z8),.dead,.arr 1 ((eL ac).els l12)]
abbrev Et(l2:List (List aJ))(l3:List Int)(l4:List (List aa))(z1:List ae)(z2:Bool):St:=[.arr 1 (eI.els l3),.box [cl ah z1,.sl 0 1 0 l3.length,cb z2],.arr 1 ((eL ak).els l2),.arr 1 ((eL ac).els l4)]
theorem wI(p1:(List af))(p2:(List ae))(r:((List (List aa))×Int))(h:er p1 p2=some r):PC prog 14 [vl ab p1,vl ah p2] (.tp [vl (eL ac) r.1,vi r.2]):=by
 unfold er at h
 refine zF 156 f14 (zq fun K1 hK1=>zr (zg [10,16,36] 2 [0,1] (zd (hK1 _ _ (zq fun K2 hK2=>zq fun K3 hK3=> ?_)))))
 obtain⟨r1,c4,h⟩:=zB h
 refine zr (zg [10,16,36] 1 [0,1,20] (zl 33 [vl ab p1] (vi r1) [(21,vi r1),(0,vl ab p1),(1,vl ah p2),(20,vl ab p1)] (oF _ _ c4) (zg [10,16,36] 1 [0,1,6] (zd (hK3 _ _ (zq fun K5 hK5=>zr ?_))))))
 refine zg [10,16,36] 2 [0,1,6,23] (zd (hK5 _ _ (zC h (fun b6 h=> ?_) (fun b6 h=> ?_))))
 ·refine zq fun K7 hK7=>zr (zv [10,16,36] 3 [4,5] [] [(4,.one (.pv (.s (.slice none 0 0)))),(5,vi r1)] [] (zd (hK7 _ _ (ze ?_))))
  obtain rfl:=Option.some.inj h
  exact zf [.one (.pv (.s (.slice none 0 0))),vi r1] (.tpc (.one (.nl)) (.tpc (.one (.rfl _ rfl)) (.tp0)))
 ·refine zs (hK2 _ _ (zq fun K8 hK8=>zq fun K9 hK9=> ?_))
  obtain⟨r2,c10,h⟩:=zB h
  refine zr (zv [10,16,36] 2 [0,1,26] [] [(0,vl ab p1),(1,vl ah p2),(26,vi ((ah.els p2).length:Int))] [] ?_)
  rw[ah.len p2]
  refine zg [10,16,36] 1 [0,1,26,27] (za (nw aO _ _ c10) (zv [10,16,36] 1 [0,1,26,29] [] [(0,vl ab p1),(1,vl ah p2),(26,vi p2.length),(29,vi (((eL ab).els r2).length:Int))] [] ?_))
  rw[(eL ab).len r2]
  refine zg [10,16,36] 1 [0,1,30] (zd (hK9 _ _ (zC h (fun b11 h=> ?_) (fun b11 h=> ?_))))
  ·refine zq fun K12 hK12=>zr (zg [10,16,36] 2 [4,5] (zd (hK12 _ _ (ze ?_))))
   obtain rfl:=Option.some.inj h
   exact zf [.one (.pv (.s (.slice none 0 0))),vi (1:Int)] (.tpc (.one (.nl)) (.tpc (.one (.rfl _ rfl)) (.tp0)))
  ·refine zs (hK8 _ _ (zq fun K13 hK13=> ?_))
   obtain⟨g15,h⟩:=zG h
   refine zr (zv [10,16,36] 3 [0,1,31,33] [] [(0,vl ab p1),(1,vl ah p2),(31,vl ah p2),(33,vi ((ah.els p2).length:Int))] [] ?_)
   rw[ah.len p2]
   refine zp [10,16,36] 1 [0,1,31,34] [] [(0,vl ab p1),(1,vl ah p2),(31,vl ah p2),(34,.one (.sl 0 1 0 ((p2.length:Int).toNat)))] [.arr 1 (List.replicate (p2.length:Int).toNat [pi (0:Int)])] [0≤(p2.length:Int),(p2.length:Int)≤(p2.length:Int),(p2.length:Int)≤4294967296] (⟨g15.1,g15.2.1,g15.2.2,trivial⟩) ?_
   rw[show List.replicate (p2.length:Int).toNat [pi (0:Int)]=eI.els (List.replicate (p2.length:Int).toNat (0:Int))from eI.rep _ (0:Int)]
   refine zv [10,16,36] 3 [0,1,7] [] [(0,vl ab p1),(1,vl ah p2),(7,vQ 1)] [.arr 1 (eI.els (List.replicate (p2.length:Int).toNat (0:Int))),.box [cl ah p2,.sl 0 1 0 ((p2.length:Int).toNat),cb false]] ?_
   refine XO.sub (bW.eq (fr':=[(0,vl ab p1),(1,vl ah p2),(7,vQ 1)]) (st':=[.arr 1 (eI.els (List.replicate (p2.length:Int).toNat (0:Int))),.box [cl ah p2,.sl 0 1 0 ((List.replicate (p2.length:Int).toNat (0:Int)).length),cb false]]) rfl (show([.arr 1 (eI.els (List.replicate (p2.length:Int).toNat (0:Int))),.box [cl ah p2,.sl 0 1 0 ((p2.length:Int).toNat),cb false]]:St)=[.arr 1 (eI.els (List.replicate (p2.length:Int).toNat (0:Int))),.box [cl ah p2,.sl 0 1 0 ((List.replicate (p2.length:Int).toNat (0:Int)).length),cb false]]from by simp only[List.length_replicate])) ?_
   refine zd (hK13 _ _ (zq fun K16 hK16=>zr (zg [10,16,36] 1 [0,1,7,8] (zd (hK16 _ _ (zq fun K17 hK17=> ?_))))))
   have hJ2:∀(l2:List (List aJ)),fj p1 p2 l2=some r→∀fr1 st1,bW 156 0 [] fr1 st1 [(0,vl ab p1),(1,vl ah p2),(7,vQ 1),(8,.one (.sl 2 1 0 l2.length))] [.arr 1 (eI.els (List.replicate (p2.length:Int).toNat (0:Int))),.box (AX p2),.arr 1 ((eL ak).els l2)]→K17 fr1 st1:=by
    intro l2 h fr1 st1 hS
    unfold fj at h
    refine hK17 _ _ (XW.sub hS ?_)
    refine zq fun K40 hK40=>zr (zg [10,16,36] 1 [0,1,7,8,11] (zd (hK40 _ _ (zq fun K41 hK41=> ?_))))
    have hJ5:∀(l11:List Int) (l12:List (List aa)) (z7:List ae) (z8:Bool),fy p1 p2 l11 l12 z7 z8=some r→∀fr1 st1,bW 156 0 [] fr1 st1 [(0,vl ab p1),(1,vl ah p2),(7,vQ 1),(11,.one (.sl 3 1 0 l12.length))] (AP l11 l12 z7 z8)→K41 fr1 st1:=by
     intro l11 l12 z7 z8 h fr1 st1 hS
     unfold fy at h
     refine hK41 _ _ (XW.sub hS ?_)
     refine zq fun K76 hK76=>zq fun K77 hK77=> ?_
     have hJ6:∀(x7:Bool),eP l12 x7=some r→∀fr1 st1,bW 156 0 [] fr1 st1 [(11,vl (eL ac) l12),(154,vb x7)] pg→K77 fr1 st1:=by
      intro x7 h fr1 st1 hS
      unfold eP at h
      refine hK77 _ _ (XW.sub hS ?_)
      refine zC h (fun b83 h=> ?_) (fun b83 h=> ?_)
      ·refine zq fun K84 hK84=>zr (zg [10,16,36] 2 [4,5] (zd (hK84 _ _ (ze ?_))))
       obtain rfl:=Option.some.inj h
       exact zf [.one (.pv (.s (.slice none 0 0))),vi (1:Int)] (.tpc (.one (.nl)) (.tpc (.one (.rfl _ rfl)) (.tp0)))
      ·refine zs (hK76 _ _ (zq fun K85 hK85=>zr (zg [10,16,36] 3 [4,5] (zd (hK85 _ _ (ze ?_))))))
       obtain rfl:=Option.some.inj h
       exact zf [vl (eL ac) l12,vi (0:Int)] (.tpc (.one (.rfl _ rfl)) (.tpc (.one (.rfl _ rfl)) (.tp0)))
     rcases zW h with⟨b78,h⟩ |⟨b78,h⟩
     ·refine zr (zg [10,16,36] 5 [0,1,11,141] (zt 141 b78 (zv [10,16,36] 13 [11,154] [] [(11,.one (.sl 3 1 0 l12.length)),(154,vb true)] (AP l11 l12 z7 z8) (zd ?_))))
      exact hJ6 true h _ _ (bW.trans (bW.kill (fr':=(vG l12)) 3 (Nat.zero_le _) (by kernel_rfl) ⟨.one (kT (eL ac) l12 rfl rfl rfl),.one (.rfl _ rfl),trivial⟩) (bW.trans (bW.pick (fr':=(vG l12)) [11,154] (by kernel_rfl)) (bW.only (fr':=(vG l12)) (st':=pg) [] 4 (by kernel_rfl) (by kernel_rfl) (by kernel_rfl) (by kernel_rfl))))
     ·obtain⟨r6,c79,h⟩:=zB h
      rcases zW h with⟨b80,h⟩ |⟨b80,h⟩
      ·refine zr (zg [10,16,36] 5 [0,1,11,141] (zt 141 b78 (zv [10,16,36] 2 [0,1,11,141,142,143] [] [(0,vl ab p1),(1,vl ah p2),(11,.one (.sl 3 1 0 l12.length)),(141,vb false),(142,vl ab p1),(143,.one (.sl 3 1 0 l12.length))] (AP l11 l12 z7 z8) ?_)))
       refine XO.sub (bW.kill (fr':=[(0,vl ab p1),(1,vl ah p2),(11,vl (eL ac) l12),(141,vb false),(142,vl ab p1),(143,vl (eL ac) l12)]) 3 (Nat.zero_le _) (by kernel_rfl) ⟨.one (.rfl _ rfl),.one (.rfl _ rfl),.one (kT (eL ac) l12 rfl rfl rfl),.one (.rfl _ rfl),.one (.rfl _ rfl),.one (kT (eL ac) l12 rfl rfl rfl),trivial⟩) (za (pJ _ _ _ c79) (zg [10,16,36] 3 [0,1,11,147] (zt 147 b80 ?_)))
       exact zv [10,16,36] 7 [11,154] [] (vG l12) [.arr 1 (eI.els l11),.box (Dx l11 z7 z8),.dead,.dead] (zd (hJ6 true h _ _ (bW.trans (bW.pick (fr':=(vG l12)) [11,154] (by kernel_rfl)) (bW.only (fr':=(vG l12)) (st':=pg) [] 4 (by kernel_rfl) (by kernel_rfl) (by kernel_rfl) (by kernel_rfl)))))
      ·obtain⟨r7,c81,h⟩:=zB h
       obtain⟨r8,c82,h⟩:=zB h
       refine zr (zg [10,16,36] 5 [0,1,11,141] (zt 141 b78 (zv [10,16,36] 2 [0,1,11,141,142,143] [] [(0,vl ab p1),(1,vl ah p2),(11,.one (.sl 3 1 0 l12.length)),(141,vb false),(142,vl ab p1),(143,.one (.sl 3 1 0 l12.length))] (AP l11 l12 z7 z8) ?_)))
       refine XO.sub (bW.kill (fr':=[(0,vl ab p1),(1,vl ah p2),(11,vl (eL ac) l12),(141,vb false),(142,vl ab p1),(143,vl (eL ac) l12)]) 3 (Nat.zero_le _) (by kernel_rfl) ⟨.one (.rfl _ rfl),.one (.rfl _ rfl),.one (kT (eL ac) l12 rfl rfl rfl),.one (.rfl _ rfl),.one (.rfl _ rfl),.one (kT (eL ac) l12 rfl rfl rfl),trivial⟩) (za (pJ _ _ _ c79) (zg [10,16,36] 3 [0,1,11,147] (zt 147 b80 ?_)))
       refine zv [10,16,36] 2 [1,11,147,148,149] [] [(1,vl ah p2),(11,vl (eL ac) l12),(147,vb false),(148,vl ab p1),(149,vl (eL ac) l12)] [.arr 1 (eI.els l11),.box (Dx l11 z7 z8),.dead,.dead] (za (Bi _ _ _ c81) (zg [10,16,36] 1 [11,147,150,151] (zl 38 [vl ah r7,vl ah p2] (vb r8) [(152,vb r8),(11,vl (eL ac) l12),(147,vb false),(150,vl ah r7),(151,vl ah p2)] (th _ _ _ c82) (zg [10,16,36] 2 [11,154] (zd ?_)))))
       exact hJ6 (!r8) h _ _ (bW.trans (bW.pick (fr':=[(11,vl (eL ac) l12),(154,vb (!r8))]) [11,154] (by kernel_rfl)) (bW.only (fr':=[(11,vl (eL ac) l12),(154,vb (!r8))]) (st':=pg) [] 4 (by kernel_rfl) (by kernel_rfl) (by kernel_rfl) (by kernel_rfl)))
    refine zq fun K42 hK42=> ?_
    obtain⟨e5,a43,h⟩:=zB h
    refine zr ?_
    refine zp [10,16,36] 4 [0,1,7,8,11,88] [[.ro (ak.els e5)]] [(0,vl ab p1),(1,vl ah p2),(7,vQ 1),(8,.one (.sl 2 1 0 l2.length)),(11,.one (.pv (.s (.slice none 0 0)))),(88,vi ((ak.els e5).length:Int))] [.arr 1 (eI.els (List.replicate (p2.length:Int).toNat (0:Int))),.box [cl ah p2,.sl 0 1 0 ((List.replicate (p2.length:Int).toNat (0:Int)).length),cb false],.arr 1 ((eL ak).els l2)] [0≤(0:Int)∧(0:Int)<((l2.length:Nat):Int),((eL ak).els l2)[(0+(0:Int).toNat)]? =some [.ro (ak.els e5)]] (⟨lD.inb' a43,((eL ak).get0 a43),trivial⟩) ?_
    rw[ak.len e5]
    refine zv [10,16,36] 1 [0,1,7,8,11,88,89] [] [(0,vl ab p1),(1,vl ah p2),(7,vQ 1),(8,.one (.sl 2 1 0 l2.length)),(11,.one (.pv (.s (.slice none 0 0)))),(88,vi e5.length),(89,vi (0:Int))] [.arr 1 (eI.els (List.replicate (p2.length:Int).toNat (0:Int))),.box [cl ah p2,.sl 0 1 0 ((List.replicate (p2.length:Int).toNat (0:Int)).length),cb false],.arr 1 ((eL ak).els l2)] (zd (hK42 _ _ (zb 2 (XW.sub (bW.list (t:=11) (sz:=1) rfl) (XW.rounds' aO (x:=cd f14 [1,1,1,1,1,1,1,0,1,0,0]) (by kernel_rfl) fun Q2 hQ2=> ?_)))))
    have hL2:∀(k2:Nat) (l3:List Int) (l4:List (List aa)) (z1:List ae) (z2:Bool) (x3:Int),aY p1 p2 l2 e5 k2 l3 l4 z1 z2 x3=some r→XR prog 156 0 [] (cd f14 [1,1,1,1,1,1,1,0,1,0,0]) Q2 k2 [(0,vl ab p1),(1,vl ah p2),(7,vQ 1),(8,.one (.sl 2 1 0 l2.length)),(11,.one (.sl 3 1 0 l4.length)),(88,vi e5.length),(89,vi x3)] (Et l2 l3 l4 z1 z2):=by
     intro k2
     induction k2 with
     |zero=>intro l3 l4 z1 z2 x3 h;rw[aY.eq_1]at h;cases h
     |succ k2 ih2=>
      intro l3 l4 z1 z2 x3 h
      rw[aY.eq_2]at h
      refine zq fun K44 hK44=>zr (zg [10,16,36] 1 [0,1,7,8,11,88,89,90] (zd (hK44 _ _ (zq fun K45 hK45=>zC h (fun b46 h=> ?_) (fun b46 h=> ?_)))))
      ·refine zs (hK45 _ _ (zq fun K47 hK47=>zb 3 (zq fun K48 hK48=>zr (zg [10,16,36] 2 [0,1,7,8,11,12,88,89] (zd ?_)))))
       refine hK48 _ _ (zq fun K49 hK49=>zr (zv [10,16,36] 1 [0,1,7,8,11,12,13,88,89] [] [(0,vl ab p1),(1,vl ah p2),(7,vQ 1),(8,.one (.sl 2 1 0 l2.length)),(11,.one (.sl 3 1 0 l4.length)),(12,vi x3),(13,.one (.pv (.s (.slice none 0 0)))),(88,vi e5.length),(89,vi x3)] (Et l2 l3 l4 z1 z2) (zd (hK49 _ _ (zq fun K50 hK50=>zr ?_)))))
       refine zg [10,16,36] 1 [0,1,7,8,11,12,13,14,88,89] (zd (hK50 _ _ (zq fun K51 hK51=> ?_)))
       have hJ4:∀(l9:List Int) (l10:List aa) (z5:List ae) (z6:Bool),iT (aY p1 p2 l2 e5 k2) l4 x3 l9 l10 z5 z6=some r→∀fr1 st1,bW 156 0 [] fr1 st1 [(0,vl ab p1),(1,vl ah p2),(7,vQ 1),(8,.one (.sl 2 1 0 l2.length)),(11,.one (.sl 3 1 0 l4.length)),(13,.one (.sl 4 5 0 l10.length)),(88,vi e5.length),(89,vi x3)] [.arr 1 (eI.els l9),.box [cl ah z5,.sl 0 1 0 l9.length,cb z6],.arr 1 ((eL ak).els l2),.arr 1 ((eL ac).els l4),.arr 5 (ac.els l10)]→K51 fr1 st1:=by
        intro l9 l10 z5 z6 h fr1 st1 hS
        unfold iT at h
        refine hK51 _ _ (XW.sub hS ?_)
        obtain⟨g75,h⟩:=zG h
        refine zr (zv [10,16,36] 2 [0,1,7,8,88,89,132,133] [] [(0,vl ab p1),(1,vl ah p2),(7,vQ 1),(8,.one (.sl 2 1 0 l2.length)),(88,vi e5.length),(89,vi x3),(132,.one (.sl 3 1 0 l4.length)),(133,.one (.sl 4 5 0 l10.length))] [.arr 1 (eI.els l9),.box [cl ah z5,.sl 0 1 0 l9.length,cb z6],.arr 1 ((eL ak).els l2),.arr 1 ((eL ac).els l4),.arr 5 (ac.els l10)] ?_)
        refine XO.sub (bW.kill (fr':=[(0,vl ab p1),(1,vl ah p2),(7,vQ 1),(8,.one (.sl 2 1 0 l2.length)),(88,vi e5.length),(89,vi x3),(132,.one (.sl 3 1 0 l4.length)),(133,vl ac l10)]) 4 (Nat.zero_le _) (by kernel_rfl) ⟨.one (.rfl _ rfl),.one (.rfl _ rfl),.one (.rfl _ rfl),.one (.rfl _ rfl),.one (.rfl _ rfl),.one (.rfl _ rfl),.one (.rfl _ rfl),.one (kT ac l10 rfl rfl rfl),trivial⟩) ?_
        refine zp [10,16,36] 2 [0,1,7,8,88,89,135] [] [(0,vl ab p1),(1,vl ah p2),(7,vQ 1),(8,.one (.sl 2 1 0 l2.length)),(88,vi e5.length),(89,vi x3),(135,.one (.sl 3 1 0 (l4.length+((eL ac).els [l10]).length)))] [.arr 1 (eI.els l9),.box [cl ah z5,.sl 0 1 0 l9.length,cb z6],.arr 1 ((eL ak).els l2),.arr 1 ((eL ac).els l4++(eL ac).els [l10]),.dead] [aT 1 ((eL ac).els [l10]),l4.length=((eL ac).els l4).length,l4.length+((eL ac).els [l10]).length≤4294967296] (⟨(eL ac).ok _,((eL ac).len l4).symm,g75,trivial⟩) ?_
        rw[show l4.length+((eL ac).els [l10]).length=(l4++[l10]).length from(eL ac).lapp _ _]
        rw[show(eL ac).els l4++(eL ac).els [l10]=(eL ac).els (l4++[l10])from(eL ac).app2 _ _]
        refine zg [10,16,36] 1 [0,1,7,8,11,88,89] (zd (hK47 _ _ (zr (zg [10,16,36] 2 [0,1,7,8,11,88,89] (zd ?_)))))
        exact XR.sub (bW.trans (bW.pick (fr':=[(0,vl ab p1),(1,vl ah p2),(7,vQ 1),(8,.one (.sl 2 1 0 l2.length)),(11,.one (.sl 3 1 0 ((l4++[l10]).length))),(88,vi e5.length),(89,vi (i64.wrap (x3+1)))]) [0,1,7,8,11,88,89] (by kernel_rfl)) (bW.take (fr':=[(0,vl ab p1),(1,vl ah p2),(7,vQ 1),(8,.one (.sl 2 1 0 l2.length)),(11,.one (.sl 3 1 0 ((l4++[l10]).length))),(88,vi e5.length),(89,vi (i64.wrap (x3+1)))]) 4 (Nat.zero_le _) (by kernel_rfl) (by kernel_rfl))) (ih2 l9 (l4++[l10]) z5 z6 (i64.wrap (x3+1)) h)
       refine zq fun K52 hK52=>zr (zv [10,16,36] 2 [0,1,7,8,11,12,13,14,88,89,92,93] [] [(0,vl ab p1),(1,vl ah p2),(7,vQ 1),(8,.one (.sl 2 1 0 l2.length)),(11,.one (.sl 3 1 0 l4.length)),(12,vi x3),(13,.one (.pv (.s (.slice none 0 0)))),(14,vi (0:Int)),(88,vi e5.length),(89,vi x3),(92,vl ab p1),(93,vi ((ab.els p1).length:Int))] [.arr 1 (eI.els l3),.box [cl ah z1,.sl 0 1 0 l3.length,cb z2],.arr 1 ((eL ak).els l2),.arr 1 ((eL ac).els l4)] ?_)
       rw[ab.len p1]
       refine zv [10,16,36] 1 [0,1,7,8,11,12,13,14,88,89,92,93,94] [] [(0,vl ab p1),(1,vl ah p2),(7,vQ 1),(8,.one (.sl 2 1 0 l2.length)),(11,.one (.sl 3 1 0 l4.length)),(12,vi x3),(13,.one (.pv (.s (.slice none 0 0)))),(14,vi (0:Int)),(88,vi e5.length),(89,vi x3),(92,vl ab p1),(93,vi p1.length),(94,vi (0:Int))] (Et l2 l3 l4 z1 z2) (zd (hK52 _ _ (zb 4 (XW.sub (bW.list (t:=13) (sz:=5) rfl) ?_))))
       refine XW.rounds' aO (x:=cd f14 [1,1,1,1,1,1,1,0,1,0,0,1,1,0,0,1,1,1,0,1,0,0]) (by kernel_rfl) fun Q3 hQ3=> ?_
       have hL3:∀(k3:Nat) (l5:List Int) (l6:List aa) (z3:List ae) (z4:Bool) (x4 x5:Int),bD (aY p1 p2 l2 e5 k2) p1 l2 l4 x3 k3 l5 l6 z3 z4 x4 x5=some r→XR prog 156 0 [] (cd f14 [1,1,1,1,1,1,1,0,1,0,0,1,1,0,0,1,1,1,0,1,0,0]) Q3 k3 [(0,vl ab p1),(1,vl ah p2),(7,vQ 1),(8,.one (.sl 2 1 0 l2.length)),(11,.one (.sl 3 1 0 l4.length)),(12,vi x3),(13,.one (.sl 4 5 0 l6.length)),(14,vi x4),(88,vi e5.length),(89,vi x3),(92,vl ab p1),(93,vi p1.length),(94,vi x5)] [.arr 1 (eI.els l5),.box [cl ah z3,.sl 0 1 0 l5.length,cb z4],.arr 1 ((eL ak).els l2),.arr 1 ((eL ac).els l4),.arr 5 (ac.els l6)]:=by
        intro k3
        induction k3 with
        |zero=>intro l5 l6 z3 z4 x4 x5 h;rw[bD.eq_1]at h;cases h
        |succ k3 ih3=>
         intro l5 l6 z3 z4 x4 x5 h
         rw[bD.eq_2]at h
         refine zq fun K53 hK53=>zr (zg [10,16,36] 1 [0,1,7,8,11,12,13,14,88,89,92,93,94,95] (zd (hK53 _ _ (zq fun K54 hK54=>zC h (fun b55 h=> ?_) (fun b55 h=> ?_)))))
         ·refine zs (hK54 _ _ (zq fun K56 hK56=>zb 5 (zq fun K57 hK57=> ?_)))
          obtain⟨e6,a58,h⟩:=zB h
          refine zr (zo [10,16,36] 4 [0,1,7,8,11,12,13,14,16,88,89,92,93,94] [(jN e6)] [0≤x5∧x5<((ab.els p1).length:Int)∧aT 6 (ab.els p1),(ab.els p1)[x5.toNat]? =some (jN e6)] (⟨ab.inb a58,((ab.get a58).trans (by rcases e6 with⟨_,_,_,⟨_,_,_⟩⟩;rfl)),trivial⟩) (zd (hK57 _ _ (zq fun K59 hK59=> ?_))))
          obtain⟨r4,c60,h⟩:=zB h
          refine zr ?_
          refine zv [10,16,36] 2 [0,1,7,8,11,12,13,14,16,88,89,92,93,94,99] [] [(0,vl ab p1),(1,vl ah p2),(7,vQ 1),(8,.one (.sl 2 1 0 l2.length)),(11,.one (.sl 3 1 0 l4.length)),(12,vi x3),(13,.one (.sl 4 5 0 l6.length)),(14,vi x4),(16,vQ 5),(88,vi e5.length),(89,vi x3),(92,vl ab p1),(93,vi p1.length),(94,vi x5),(99,.one (.pv (.ro [[pi e6.id,.s (.string e6.name),.s (.bool e6.need),pi e6.type.kind,pi e6.type.scale,.ro (ab.els e6.type.fields)]])))] [.arr 1 (eI.els l5),.box [cl ah z3,.sl 0 1 0 l5.length,cb z4],.arr 1 ((eL ak).els l2),.arr 1 ((eL ac).els l4),.arr 5 (ac.els l6),.box [ci e6.id,lL e6.name,cb e6.need,ci e6.type.kind,ci e6.type.scale,cl ab e6.type.fields]] ?_
          rw[show([[pi e6.id,.s (.string e6.name),.s (.bool e6.need),pi e6.type.kind,pi e6.type.scale,.ro (ab.els e6.type.fields)]]:List (List PV))=ab.els [e6]from by rcases e6 with⟨_,_,_,⟨_,_,_⟩⟩;rfl]
          refine za (nw aO _ _ c60) ?_
          refine zv [10,16,36] 1 [0,1,7,8,11,12,13,14,16,88,89,92,93,94,101] [] [(0,vl ab p1),(1,vl ah p2),(7,vQ 1),(8,.one (.sl 2 1 0 l2.length)),(11,.one (.sl 3 1 0 l4.length)),(12,vi x3),(13,.one (.sl 4 5 0 l6.length)),(14,vi x4),(16,vQ 5),(88,vi e5.length),(89,vi x3),(92,vl ab p1),(93,vi p1.length),(94,vi x5),(101,vi (((eL ab).els r4).length:Int))] [.arr 1 (eI.els l5),.box [cl ah z3,.sl 0 1 0 l5.length,cb z4],.arr 1 ((eL ak).els l2),.arr 1 ((eL ac).els l4),.arr 5 (ac.els l6),.box [ci e6.id,lL e6.name,cb e6.need,ci e6.type.kind,ci e6.type.scale,cl ab e6.type.fields]] ?_
          rw[(eL ab).len r4]
          refine zg [10,16,36] 1 [0,1,7,8,11,12,13,14,16,17,88,89,92,93,94] (zd (hK59 _ _ (zq fun K61 hK61=>zr (zg [10,16,36] 1 [0,1,7,8,11,12,13,14,16,17,18,88,89,92,93,94] (zd (hK61 _ _ ?_))))))
          refine zq fun K62 hK62=> ?_
          have hJ3:∀(l8:List aJ),gL (bD (aY p1 p2 l2 e5 k2) p1 l2 l4 x3 k3) l5 l6 z3 z4 x4 x5 e6 r4 l8=some r→∀fr1 st1,bW 156 0 [] fr1 st1 [(0,vl ab p1),(1,vl ah p2),(7,vQ 1),(8,.one (.sl 2 1 0 l2.length)),(11,.one (.sl 3 1 0 l4.length)),(12,vi x3),(13,.one (.sl 4 5 0 l6.length)),(14,vi x4),(16,vQ 5),(17,vi r4.length),(18,.one (.sl 6 2 0 l8.length)),(88,vi e5.length),(89,vi x3),(92,vl ab p1),(93,vi p1.length),(94,vi x5)] [.arr 1 (eI.els l5),.box [cl ah z3,.sl 0 1 0 l5.length,cb z4],.arr 1 ((eL ak).els l2),.arr 1 ((eL ac).els l4),.arr 5 (ac.els l6),.box (cq e6),.arr 2 (ak.els l8)]→K62 fr1 st1:=by
           intro l8 h fr1 st1 hS
           unfold gL at h
           refine hK62 _ _ (XW.sub hS ?_)
           refine zq fun K71 hK71=> ?_
           obtain⟨r5,c72,h⟩:=zB h
           obtain⟨g73,h⟩:=zG h
           obtain⟨g74,h⟩:=zG h
           refine zr ?_
           refine zv [10,16,36] 5 [0,1,7,8,11,12,14,17,88,89,92,93,94,120,121,122,123,124] [] [(0,vl ab p1),(1,vl ah p2),(7,vQ 1),(8,.one (.sl 2 1 0 l2.length)),(11,.one (.sl 3 1 0 l4.length)),(12,vi x3),(14,vi x4),(17,vi r4.length),(88,vi e5.length),(89,vi x3),(92,vl ab p1),(93,vi p1.length),(94,vi x5),(120,.one (.sl 4 5 0 l6.length)),(121,vQ 1),(122,.ag (cq e6)),(123,vi x4),(124,.one (.sl 6 2 0 l8.length))] [.arr 1 (eI.els l5),.box [cl ah z3,.sl 0 1 0 l5.length,cb z4],.arr 1 ((eL ak).els l2),.arr 1 ((eL ac).els l4),.arr 5 (ac.els l6),.box (cq e6),.arr 2 (ak.els l8)] ?_
           refine XO.sub (bW.kill (fr':=[(0,vl ab p1),(1,vl ah p2),(7,vQ 1),(8,.one (.sl 2 1 0 l2.length)),(11,.one (.sl 3 1 0 l4.length)),(12,vi x3),(14,vi x4),(17,vi r4.length),(88,vi e5.length),(89,vi x3),(92,vl ab p1),(93,vi p1.length),(94,vi x5),(120,.one (.sl 4 5 0 l6.length)),(121,vQ 1),(122,.ag (cq e6)),(123,vi x4),(124,vl ak l8)]) 6 (Nat.zero_le _) (by kernel_rfl) ⟨.one (.rfl _ rfl),.one (.rfl _ rfl),.one (.rfl _ rfl),.one (.rfl _ rfl),.one (.rfl _ rfl),.one (.rfl _ rfl),.one (.rfl _ rfl),.one (.rfl _ rfl),.one (.rfl _ rfl),.one (.rfl _ rfl),.one (.rfl _ rfl),.one (.rfl _ rfl),.one (.rfl _ rfl),.one (.rfl _ rfl),.one (.rfl _ rfl),.ag (.cons (.rfl _ rfl) (.cons (.rfl _ rfl) (.cons (.rfl _ rfl) (.cons (.rfl _ rfl) (.cons (.rfl _ rfl) (.cons (.rfl _ rfl) .nil)))))),.one (.rfl _ rfl),.one (kT ak l8 rfl rfl rfl),trivial⟩) ?_
           refine XO.calm 36 [vQ 0,.ag (cq e6),vi x4,vl ak l8,vi (0:Int),vi (0:Int)] [.box [cl ah z3,.sl 1 1 0 l5.length,cb z4],.arr 1 (eI.els l5)] [.box [cl ah r5.2.1,.sl 1 1 0 l5.length,cb r5.2.2.1],.arr 1 (eI.els r5.2.2.2)] (mV r5.1) [1,0] [(125,mV r5.1),(0,vl ab p1),(1,vl ah p2),(7,vQ 1),(8,.one (.sl 2 1 0 l2.length)),(11,.one (.sl 3 1 0 l4.length)),(12,vi x3),(14,vi x4),(17,vi r4.length),(88,vi e5.length),(89,vi x3),(92,vl ab p1),(93,vi p1.length),(94,vi x5),(120,.one (.sl 4 5 0 l6.length)),(121,vQ 1),(122,.ag (cq e6)),(123,vi x4),(124,vl ak l8)] [.arr 1 (eI.els r5.2.2.2),.box [cl ah r5.2.1,.sl 0 1 0 l5.length,cb r5.2.2.1],.arr 1 ((eL ak).els l2),.arr 1 ((eL ac).els l4),.arr 5 (ac.els l6),.box (cq e6),.dead] (by kernel_rfl) (jX aO _ _ _ _ _ _ _ _ _ c72) (by kernel_rfl) (by kernel_rfl) (by kernel_rfl) (by kernel_rfl) ?_
           refine XO.sub (bW.eq (fr':=[(125,mV r5.1),(0,vl ab p1),(1,vl ah p2),(7,vQ 1),(8,.one (.sl 2 1 0 l2.length)),(11,.one (.sl 3 1 0 l4.length)),(12,vi x3),(14,vi x4),(17,vi r4.length),(88,vi e5.length),(89,vi x3),(92,vl ab p1),(93,vi p1.length),(94,vi x5),(120,.one (.sl 4 5 0 l6.length)),(121,vQ 1),(122,mf e6),(123,vi x4),(124,vl ak l8)]) (st':=[.arr 1 (eI.els r5.2.2.2),.box [cl ah r5.2.1,.sl 0 1 0 r5.2.2.2.length,cb r5.2.2.1],.arr 1 ((eL ak).els l2),.arr 1 ((eL ac).els l4),.arr 5 (ac.els l6),.box [ci e6.id,lL e6.name,cb e6.need,ci e6.type.kind,ci e6.type.scale,cl ab e6.type.fields],.dead]) rfl (by rw[g73])) ?_
           refine zv [10,16,36] 1 [0,1,7,8,11,12,14,17,88,89,92,93,94,120,126] [] [(0,vl ab p1),(1,vl ah p2),(7,vQ 1),(8,.one (.sl 2 1 0 l2.length)),(11,.one (.sl 3 1 0 l4.length)),(12,vi x3),(14,vi x4),(17,vi r4.length),(88,vi e5.length),(89,vi x3),(92,vl ab p1),(93,vi p1.length),(94,vi x5),(120,.one (.sl 4 5 0 l6.length)),(126,.one (.pv (.ro [[pi r5.1.kind,pi r5.1.n,pi r5.1.scale,.s (.string r5.1.s),.ro (ac.els r5.1.items)]])))] [.arr 1 (eI.els r5.2.2.2),.box [cl ah r5.2.1,.sl 0 1 0 r5.2.2.2.length,cb r5.2.2.1],.arr 1 ((eL ak).els l2),.arr 1 ((eL ac).els l4),.arr 5 (ac.els l6),.box [ci e6.id,lL e6.name,cb e6.need,ci e6.type.kind,ci e6.type.scale,cl ab e6.type.fields],.dead] ?_
           rw[show([[pi r5.1.kind,pi r5.1.n,pi r5.1.scale,.s (.string r5.1.s),.ro (ac.els r5.1.items)]]:List (List PV))=ac.els [r5.1]from by rcases r5 with⟨⟨_,_,_,_,_⟩,_,_,_⟩;rfl]
           refine zp [10,16,36] 1 [0,1,7,8,11,12,14,17,88,89,92,93,94,127] [] [(0,vl ab p1),(1,vl ah p2),(7,vQ 1),(8,.one (.sl 2 1 0 l2.length)),(11,.one (.sl 3 1 0 l4.length)),(12,vi x3),(14,vi x4),(17,vi r4.length),(88,vi e5.length),(89,vi x3),(92,vl ab p1),(93,vi p1.length),(94,vi x5),(127,.one (.sl 4 5 0 (l6.length+(ac.els [r5.1]).length)))] [.arr 1 (eI.els r5.2.2.2),.box [cl ah r5.2.1,.sl 0 1 0 r5.2.2.2.length,cb r5.2.2.1],.arr 1 ((eL ak).els l2),.arr 1 ((eL ac).els l4),.arr 5 (ac.els l6++ac.els [r5.1]),.box [ci e6.id,lL e6.name,cb e6.need,ci e6.type.kind,ci e6.type.scale,cl ab e6.type.fields],.dead] [aT 5 (ac.els [r5.1]),l6.length=(ac.els l6).length,l6.length+(ac.els [r5.1]).length≤4294967296] (⟨ac.ok _,(ac.len l6).symm,g74,trivial⟩) ?_
           rw[show l6.length+(ac.els [r5.1]).length=(l6++[r5.1]).length from ac.lapp _ _]
           rw[show ac.els l6++ac.els [r5.1]=ac.els (l6++[r5.1])from ac.app2 _ _]
           refine zg [10,16,36] 1 [0,1,7,8,11,12,13,14,17,88,89,92,93,94] (zd (hK71 _ _ (zr (zg [10,16,36] 4 [0,1,7,8,11,12,13,14,88,89,92,93,94] (zd (hK56 _ _ (zr ?_)))))))
           refine zv [10,16,36] 2 [0,1,7,8,11,12,13,14,88,89,92,93,94] [] (D6 p1 p2 l2 e5 l4 x3 l6 x4 x5 r4 r5) [.arr 1 (eI.els r5.2.2.2),.box [cl ah r5.2.1,.sl 0 1 0 r5.2.2.2.length,cb r5.2.2.1],.arr 1 ((eL ak).els l2),.arr 1 ((eL ac).els l4),.arr 5 (ac.els (l6++[r5.1])),.box (cq e6),.dead] ?_
           refine zd ?_
           exact XR.sub (bW.trans (bW.pick (fr':=(D6 p1 p2 l2 e5 l4 x3 l6 x4 x5 r4 r5)) [0,1,7,8,11,12,13,14,88,89,92,93,94] (by kernel_rfl)) (bW.take (fr':=(D6 p1 p2 l2 e5 l4 x3 l6 x4 x5 r4 r5)) 5 (Nat.zero_le _) (by kernel_rfl) (by kernel_rfl))) (ih3 r5.2.2.2 (l6++[r5.1]) r5.2.1 r5.2.2.1 (i64.wrap (x4+(r4.length:Int))) (i64.wrap (x5+1)) h)
          refine zq fun K63 hK63=>zr ?_
          refine zv [10,16,36] 2 [0,1,7,8,11,12,13,14,16,17,18,19,88,89,92,93,94] [] [(0,vl ab p1),(1,vl ah p2),(7,vQ 1),(8,.one (.sl 2 1 0 l2.length)),(11,.one (.sl 3 1 0 l4.length)),(12,vi x3),(13,.one (.sl 4 5 0 l6.length)),(14,vi x4),(16,vQ 5),(17,vi r4.length),(18,.one (.pv (.s (.slice none 0 0)))),(19,vi x4),(88,vi e5.length),(89,vi x3),(92,vl ab p1),(93,vi p1.length),(94,vi x5)] [.arr 1 (eI.els l5),.box [cl ah z3,.sl 0 1 0 l5.length,cb z4],.arr 1 ((eL ak).els l2),.arr 1 ((eL ac).els l4),.arr 5 (ac.els l6),.box (cq e6)] ?_
          refine zd (hK63 _ _ (zb 6 (XW.sub (bW.list (t:=18) (sz:=2) rfl) (XW.rounds' aO (x:=cd f14 [1,1,1,1,1,1,1,0,1,0,0,1,1,0,0,1,1,1,0,1,0,0,1,1,0,0,1,1,1,0,1,0,0]) (by kernel_rfl) fun Q4 hQ4=> ?_))))
          have hL4:∀(k4:Nat) (l7:List aJ) (x6:Int),eO (bD (aY p1 p2 l2 e5 k2) p1 l2 l4 x3 k3) l2 x3 l5 l6 z3 z4 x4 x5 e6 r4 k4 l7 x6=some r→XR prog 156 0 [] (cd f14 [1,1,1,1,1,1,1,0,1,0,0,1,1,0,0,1,1,1,0,1,0,0,1,1,0,0,1,1,1,0,1,0,0]) Q4 k4 [(0,vl ab p1),(1,vl ah p2),(7,vQ 1),(8,.one (.sl 2 1 0 l2.length)),(11,.one (.sl 3 1 0 l4.length)),(12,vi x3),(13,.one (.sl 4 5 0 l6.length)),(14,vi x4),(16,vQ 5),(17,vi r4.length),(18,.one (.sl 6 2 0 l7.length)),(19,vi x6),(88,vi e5.length),(89,vi x3),(92,vl ab p1),(93,vi p1.length),(94,vi x5)] [.arr 1 (eI.els l5),.box [cl ah z3,.sl 0 1 0 l5.length,cb z4],.arr 1 ((eL ak).els l2),.arr 1 ((eL ac).els l4),.arr 5 (ac.els l6),.box (cq e6),.arr 2 (ak.els l7)]:=by
           intro k4
           induction k4 with
           |zero=>intro l7 x6 h;rw[eO.eq_1]at h;cases h
           |succ k4 ih4=>
            intro l7 x6 h
            rw[eO.eq_2]at h
            refine zq fun K64 hK64=>zq fun K65 hK65=>zr (zg [10,16,36] 5 [0,1,7,8,11,12,13,14,16,17,18,19,88,89,92,93,94,107] (zd (hK65 _ _ (zC h (fun b66 h=> ?_) (fun b66 h=> ?_)))))
            ·refine zs (hK64 _ _ (zq fun K67 hK67=>zb 7 ?_))
             obtain⟨e7,a68,h⟩:=zB h
             obtain⟨e8,a69,h⟩:=zB h
             obtain⟨g70,h⟩:=zG h
             refine zr ?_
             refine zp [10,16,36] 10 [0,1,7,8,11,12,13,14,16,17,19,88,89,92,93,94,119] [[.ro (ak.els e7)],[.ro (eI.els e8.reps),.ro (eI.els e8.defs)]] [(0,vl ab p1),(1,vl ah p2),(7,vQ 1),(8,.one (.sl 2 1 0 l2.length)),(11,.one (.sl 3 1 0 l4.length)),(12,vi x3),(13,.one (.sl 4 5 0 l6.length)),(14,vi x4),(16,vQ 5),(17,vi r4.length),(19,vi x6),(88,vi e5.length),(89,vi x3),(92,vl ab p1),(93,vi p1.length),(94,vi x5),(119,.one (.sl 6 2 0 (l7.length+(ak.els [e8]).length)))] [.arr 1 (eI.els l5),.box [cl ah z3,.sl 0 1 0 l5.length,cb z4],.arr 1 ((eL ak).els l2),.arr 1 ((eL ac).els l4),.arr 5 (ac.els l6),.box [ci e6.id,lL e6.name,cb e6.need,ci e6.type.kind,ci e6.type.scale,cl ab e6.type.fields],.arr 2 (ak.els l7++ak.els [e8])] [0≤x6∧x6<((l2.length:Nat):Int),((eL ak).els l2)[(0+x6.toNat)]? =some [.ro (ak.els e7)],0≤x3∧x3<((ak.els e7).length:Int)∧aT 2 (ak.els e7),(ak.els e7)[x3.toNat]? =some [.ro (eI.els e8.reps),.ro (eI.els e8.defs)],aT 2 (ak.els [e8]),l7.length=(ak.els l7).length,l7.length+(ak.els [e8]).length≤4294967296] (⟨lD.inb' a68,((eL ak).get0 a68),ak.inb a69,(ak.get a69),ak.ok _,(ak.len l7).symm,g70,trivial⟩) ?_
             rw[show l7.length+(ak.els [e8]).length=(l7++[e8]).length from ak.lapp _ _]
             rw[show ak.els l7++ak.els [e8]=ak.els (l7++[e8])from ak.app2 _ _]
             exact zg [10,16,36] 1 [0,1,7,8,11,12,13,14,16,17,18,19,88,89,92,93,94] (zd (hK67 _ _ (zr (zg [10,16,36] 3 [0,1,7,8,11,12,13,14,16,17,18,19,88,89,92,93,94] (zd (XR.sub (zk [0,1,7,8,11,12,13,14,16,17,18,19,88,89,92,93,94]) (ih4 (l7++[e8]) (i64.wrap (x6+1)) h)))))))
            ·exact zx 6 (hQ4 _ _ _ (hJ3 l7 h _ _ (zk [0,1,7,8,11,12,13,14,16,17,18,88,89,92,93,94])))
          exact XR.sub (zk [0,1,7,8,11,12,13,14,16,17,18,19,88,89,92,93,94]) (hL4 aO [] x4 h)
         ·exact zx 4 (hQ3 _ _ _ (hJ4 l5 l6 z3 z4 h _ _ (zk [0,1,7,8,11,13,88,89])))
       exact XR.sub (zk [0,1,7,8,11,12,13,14,88,89,92,93,94]) (hL3 aO l3 [] z1 z2 (0:Int) (0:Int) h)
      ·exact zx 2 (hQ2 _ _ _ (hJ5 l3 l4 z1 z2 h _ _ (bW.trans (bW.pick (fr':=[(0,vl ab p1),(1,vl ah p2),(7,vQ 1),(11,.one (.sl 3 1 0 l4.length))]) [0,1,7,11] (by kernel_rfl)) (bW.only (fr':=[(0,vl ab p1),(1,vl ah p2),(7,vQ 1),(11,.one (.sl 3 1 0 l4.length))]) (st':=[.arr 1 (eI.els l3),.box [cl ah z1,.sl 0 1 0 l3.length,cb z2],.dead,.arr 1 ((eL ac).els l4)]) [0,1,3] 4 (by kernel_rfl) (by kernel_rfl) (by kernel_rfl) (by kernel_rfl)))))
    exact XR.sub (zk [0,1,7,8,11,88,89]) (hL2 aO (List.replicate (p2.length:Int).toNat (0:Int)) [] p2 false (0:Int) h)
   refine zq fun K18 hK18=>zr (zv [10,16,36] 2 [0,1,7,8,37,38] [] [(0,vl ab p1),(1,vl ah p2),(7,vQ 1),(8,.one (.pv (.s (.slice none 0 0)))),(37,vl ah p2),(38,vi ((ah.els p2).length:Int))] [.arr 1 (eI.els (List.replicate (p2.length:Int).toNat (0:Int))),.box [cl ah p2,.sl 0 1 0 ((List.replicate (p2.length:Int).toNat (0:Int)).length),cb false]] ?_)
   rw[ah.len p2]
   refine zv [10,16,36] 1 [0,1,7,8,37,38,39] [] [(0,vl ab p1),(1,vl ah p2),(7,vQ 1),(8,.one (.pv (.s (.slice none 0 0)))),(37,vl ah p2),(38,vi p2.length),(39,vi (0:Int))] [.arr 1 (eI.els (List.replicate (p2.length:Int).toNat (0:Int))),.box [cl ah p2,.sl 0 1 0 ((List.replicate (p2.length:Int).toNat (0:Int)).length),cb false]] (zd (hK18 _ _ (zb 0 (XW.sub (bW.list (t:=8) (sz:=1) rfl) (XW.rounds' aO (x:=cd f14 [1,1,1,1,1,0,1,0,0]) (by kernel_rfl) fun Q1 hQ1=> ?_)))))
   have hL1:∀(k1:Nat) (l1:List (List aJ)) (x1:Int),bC p1 p2 k1 l1 x1=some r→XR prog 156 0 [] (cd f14 [1,1,1,1,1,0,1,0,0]) Q1 k1 [(0,vl ab p1),(1,vl ah p2),(7,vQ 1),(8,.one (.sl 2 1 0 l1.length)),(37,vl ah p2),(38,vi p2.length),(39,vi x1)] [.arr 1 (eI.els (List.replicate (p2.length:Int).toNat (0:Int))),.box (AX p2),.arr 1 ((eL ak).els l1)]:=by
    intro k1
    induction k1 with
    |zero=>intro l1 x1 h;rw[bC.eq_1]at h;cases h
    |succ k1 ih1=>
     intro l1 x1 h
     rw[bC.eq_2]at h
     refine zq fun K19 hK19=>zr (zg [10,16,36] 1 [0,1,7,8,37,38,39,40] (zd (hK19 _ _ (zq fun K20 hK20=>zC h (fun b21 h=> ?_) (fun b21 h=> ?_)))))
     ·refine zs (hK20 _ _ (zq fun K22 hK22=>zb 1 (zq fun K23 hK23=> ?_)))
      obtain⟨e1,a24,h⟩:=zB h
      refine zr (zo [10,16,36] 4 [0,1,7,8,10,37,38,39] [[.ro (eI.els e1.reps),.ro (eI.els e1.defs),.ro (ac.els e1.values)]] [0≤x1∧x1<((ah.els p2).length:Int)∧aT 3 (ah.els p2),(ah.els p2)[x1.toNat]? =some [.ro (eI.els e1.reps),.ro (eI.els e1.defs),.ro (ac.els e1.values)]] (⟨ah.inb a24,(ah.get a24),trivial⟩) (zd (hK23 _ _ (zq fun K25 hK25=>zq fun K26 hK26=> ?_))))
      have hJ1:∀(x2:Bool),dz (bC p1 p2 k1) l1 x1 e1 x2=some r→∀fr1 st1,bW 156 0 [] fr1 st1 [(0,vl ab p1),(1,vl ah p2),(7,vQ 1),(8,.one (.sl 2 1 0 l1.length)),(10,vQ 3),(37,vl ah p2),(38,vi p2.length),(39,vi x1),(62,vb x2)] [.arr 1 (eI.els (List.replicate (p2.length:Int).toNat (0:Int))),.box (AX p2),.arr 1 ((eL ak).els l1),.box [cl eI e1.reps,cl eI e1.defs,cl ac e1.values]]→K26 fr1 st1:=by
       intro x2 h fr1 st1 hS
       unfold dz at h
       refine hK26 _ _ (XW.sub hS ?_)
       refine zC h (fun b30 h=> ?_) (fun b30 h=> ?_)
       ·refine zq fun K31 hK31=>zr (zg [10,16,36] 2 [4,5] (zd (hK31 _ _ (ze (hQ1 _ _ _ ?_)))))
        obtain rfl:=Option.some.inj h
        exact zf [.one (.pv (.s (.slice none 0 0))),vi (1:Int)] (.tpc (.one (.nl)) (.tpc (.one (.rfl _ rfl)) (.tp0)))
       ·refine zs (hK25 _ _ (zq fun K32 hK32=> ?_))
        obtain⟨r3,c33,h⟩:=zB h
        obtain⟨g34,h⟩:=zG h
        refine zr (zg [10,16,36] 6 [0,1,7,37,38,39,63,68] (zl 35 [.ag [cl eI e1.reps,cl eI e1.defs],vi (0:Int)] (vl ak r3) [(69,vl ak r3),(0,vl ab p1),(1,vl ah p2),(7,vQ 1),(37,vl ah p2),(38,vi p2.length),(39,vi x1),(63,.one (.sl 2 1 0 l1.length)),(68,.ag [cl eI e1.reps,cl eI e1.defs])] (qd _ _ _ c33) ?_))
        refine zp [10,16,36] 2 [0,1,7,37,38,39,71] [] [(0,vl ab p1),(1,vl ah p2),(7,vQ 1),(37,vl ah p2),(38,vi p2.length),(39,vi x1),(71,.one (.sl 2 1 0 (l1.length+((eL ak).els [r3]).length)))] [.arr 1 (eI.els (List.replicate (p2.length:Int).toNat (0:Int))),.box [cl ah p2,.sl 0 1 0 ((List.replicate (p2.length:Int).toNat (0:Int)).length),cb false],.arr 1 ((eL ak).els l1++(eL ak).els [r3]),.box [cl eI e1.reps,cl eI e1.defs,cl ac e1.values]] [aT 1 ((eL ak).els [r3]),l1.length=((eL ak).els l1).length,l1.length+((eL ak).els [r3]).length≤4294967296] (⟨(eL ak).ok _,((eL ak).len l1).symm,g34,trivial⟩) ?_
        rw[show l1.length+((eL ak).els [r3]).length=(l1++[r3]).length from(eL ak).lapp _ _]
        rw[show(eL ak).els l1++(eL ak).els [r3]=(eL ak).els (l1++[r3])from(eL ak).app2 _ _]
        refine zg [10,16,36] 1 [0,1,7,8,37,38,39] (zd (hK32 _ _ (zq fun K35 hK35=> ?_)))
        obtain⟨e3,a36,h⟩:=zB h
        obtain⟨e4,a37,h⟩:=zB h
        refine zw 11 [(82,vi e4.length),(81,vl ak e4),(80,.one (.pt 2 1 (0+(0:Int).toNat) 0)),(79,.one (.sl 2 1 0 ((l1++[r3]).length))),(78,vi e3.length),(77,vl ak e3),(76,.one (.pt 2 1 (0+(i64.wrap ((((l1++[r3]).length:Nat):Int)-(1:Int))).toNat) 0)),(75,vi (i64.wrap ((((l1++[r3]).length:Nat):Int)-(1:Int)))),(74,vi (((l1++[r3]).length:Nat):Int)),(73,.one (.sl 2 1 0 ((l1++[r3]).length))),(72,.one (.sl 2 1 0 ((l1++[r3]).length))),(0,vl ab p1),(1,vl ah p2),(7,vQ 1),(8,.one (.sl 2 1 0 ((l1++[r3]).length))),(37,vl ah p2),(38,vi p2.length),(39,vi x1)] ?_ ?_
        ·refine ME 7 [[.ro (ak.els e3)]] [(78,vi ((ak.els e3).length:Int)),(77,vl ak e3),(76,.one (.pt 2 1 (0+(i64.wrap ((((l1++[r3]).length:Nat):Int)-(1:Int))).toNat) 0)),(75,vi (i64.wrap ((((l1++[r3]).length:Nat):Int)-(1:Int)))),(74,vi (((l1++[r3]).length:Nat):Int)),(73,.one (.sl 2 1 0 ((l1++[r3]).length))),(72,.one (.sl 2 1 0 ((l1++[r3]).length))),(0,vl ab p1),(1,vl ah p2),(7,vQ 1),(8,.one (.sl 2 1 0 ((l1++[r3]).length))),(37,vl ah p2),(38,vi p2.length),(39,vi x1)] [0≤(i64.wrap ((((l1++[r3]).length:Nat):Int)-(1:Int)))∧(i64.wrap ((((l1++[r3]).length:Nat):Int)-(1:Int)))<(((l1++[r3]).length:Nat):Int),((eL ak).els (l1++[r3]))[(0+(i64.wrap ((((l1++[r3]).length:Nat):Int)-(1:Int))).toNat)]? =some [.ro (ak.els e3)]] (⟨lD.inb' a36,((eL ak).get0 a36),trivial⟩) ?_
         rw[ak.len e3]
         refine ME 4 [[.ro (ak.els e4)]] [(82,vi ((ak.els e4).length:Int)),(81,vl ak e4),(80,.one (.pt 2 1 (0+(0:Int).toNat) 0)),(79,.one (.sl 2 1 0 ((l1++[r3]).length))),(78,vi e3.length),(77,vl ak e3),(76,.one (.pt 2 1 (0+(i64.wrap ((((l1++[r3]).length:Nat):Int)-(1:Int))).toNat) 0)),(75,vi (i64.wrap ((((l1++[r3]).length:Nat):Int)-(1:Int)))),(74,vi (((l1++[r3]).length:Nat):Int)),(73,.one (.sl 2 1 0 ((l1++[r3]).length))),(72,.one (.sl 2 1 0 ((l1++[r3]).length))),(0,vl ab p1),(1,vl ah p2),(7,vQ 1),(8,.one (.sl 2 1 0 ((l1++[r3]).length))),(37,vl ah p2),(38,vi p2.length),(39,vi x1)] [0≤(0:Int)∧(0:Int)<(((l1++[r3]).length:Nat):Int),((eL ak).els (l1++[r3]))[(0+(0:Int).toNat)]? =some [.ro (ak.els e4)]] (⟨lD.inb' a37,((eL ak).get0 a37),trivial⟩) ?_
         rw[ak.len e4]
         exact Km
        refine zg [10,16,36] 1 [0,1,7,8,37,38,39,83] (zd (hK35 _ _ (zC h (fun b38 h=> ?_) (fun b38 h=> ?_))))
        ·refine zq fun K39 hK39=>zr (zv [10,16,36] 2 [4,5] [] [(4,.one (.pv (.s (.slice none 0 0)))),(5,vi (1:Int))] [.arr 1 (eI.els (List.replicate (p2.length:Int).toNat (0:Int))),.box (AX p2),.arr 1 ((eL ak).els (l1++[r3])),.box [cl eI e1.reps,cl eI e1.defs,cl ac e1.values]] (zd (hK39 _ _ (ze (hQ1 _ _ _ ?_)))))
         obtain rfl:=Option.some.inj h
         exact zf [.one (.pv (.s (.slice none 0 0))),vi (1:Int)] (.tpc (.one (.nl)) (.tpc (.one (.rfl _ rfl)) (.tp0)))
        ·refine zs (hK22 _ _ (zr (zg [10,16,36] 2 [0,1,7,8,37,38,39] (zd ?_))))
         exact XR.sub (bW.trans (bW.pick (fr':=(GZ p1 p2 l1 x1 r3)) [0,1,7,8,37,38,39] (by kernel_rfl)) (bW.take (fr':=(GZ p1 p2 l1 x1 r3)) 3 (Nat.zero_le _) (by kernel_rfl) (by kernel_rfl))) (ih1 (l1++[r3]) (i64.wrap (x1+1)) h)
      rcases zW h with⟨b27,h⟩ |⟨b27,h⟩
      ·refine zr (zv [10,16,36] 3 [0,1,7,8,10,37,38,39,45] [] [(0,vl ab p1),(1,vl ah p2),(7,vQ 1),(8,.one (.sl 2 1 0 l1.length)),(10,vQ 3),(37,vl ah p2),(38,vi p2.length),(39,vi x1),(45,vi ((eI.els e1.reps).length:Int))] [.arr 1 (eI.els (List.replicate (p2.length:Int).toNat (0:Int))),.box [cl ah p2,.sl 0 1 0 ((List.replicate (p2.length:Int).toNat (0:Int)).length),cb false],.arr 1 ((eL ak).els l1),.box [cl eI e1.reps,cl eI e1.defs,cl ac e1.values]] ?_)
       rw[eI.len e1.reps]
       refine zv [10,16,36] 3 [0,1,7,8,10,37,38,39,45,48] [] [(0,vl ab p1),(1,vl ah p2),(7,vQ 1),(8,.one (.sl 2 1 0 l1.length)),(10,vQ 3),(37,vl ah p2),(38,vi p2.length),(39,vi x1),(45,vi e1.reps.length),(48,vi ((eI.els e1.defs).length:Int))] [.arr 1 (eI.els (List.replicate (p2.length:Int).toNat (0:Int))),.box [cl ah p2,.sl 0 1 0 ((List.replicate (p2.length:Int).toNat (0:Int)).length),cb false],.arr 1 ((eL ak).els l1),.box [cl eI e1.reps,cl eI e1.defs,cl ac e1.values]] ?_
       rw[eI.len e1.defs]
       exact zg [10,16,36] 2 [0,1,7,8,10,37,38,39,50] (zt 50 b27 (zg [10,16,36] 12 [0,1,7,8,10,37,38,39,62] (zd (hJ1 true h _ _ (zk [0,1,7,8,10,37,38,39,62])))))
      ·rcases zW h with⟨b28,h⟩ |⟨b28,h⟩
       ·obtain⟨e2,a29,h⟩:=zB h
        refine zr (zv [10,16,36] 3 [0,1,7,8,10,37,38,39,45] [] [(0,vl ab p1),(1,vl ah p2),(7,vQ 1),(8,.one (.sl 2 1 0 l1.length)),(10,vQ 3),(37,vl ah p2),(38,vi p2.length),(39,vi x1),(45,vi ((eI.els e1.reps).length:Int))] [.arr 1 (eI.els (List.replicate (p2.length:Int).toNat (0:Int))),.box [cl ah p2,.sl 0 1 0 ((List.replicate (p2.length:Int).toNat (0:Int)).length),cb false],.arr 1 ((eL ak).els l1),.box [cl eI e1.reps,cl eI e1.defs,cl ac e1.values]] ?_)
        rw[eI.len e1.reps]
        refine zv [10,16,36] 3 [0,1,7,8,10,37,38,39,45,48] [] [(0,vl ab p1),(1,vl ah p2),(7,vQ 1),(8,.one (.sl 2 1 0 l1.length)),(10,vQ 3),(37,vl ah p2),(38,vi p2.length),(39,vi x1),(45,vi e1.reps.length),(48,vi ((eI.els e1.defs).length:Int))] [.arr 1 (eI.els (List.replicate (p2.length:Int).toNat (0:Int))),.box [cl ah p2,.sl 0 1 0 ((List.replicate (p2.length:Int).toNat (0:Int)).length),cb false],.arr 1 ((eL ak).els l1),.box [cl eI e1.reps,cl eI e1.defs,cl ac e1.values]] ?_
        rw[eI.len e1.defs]
        refine zg [10,16,36] 2 [0,1,7,8,10,37,38,39,50] (zt 50 b27 ?_)
        refine zv [10,16,36] 3 [0,1,7,8,10,37,38,39,50,53] [] [(0,vl ab p1),(1,vl ah p2),(7,vQ 1),(8,.one (.sl 2 1 0 l1.length)),(10,vQ 3),(37,vl ah p2),(38,vi p2.length),(39,vi x1),(50,vb false),(53,vi ((eI.els e1.reps).length:Int))] [.arr 1 (eI.els (List.replicate (p2.length:Int).toNat (0:Int))),.box [cl ah p2,.sl 0 1 0 ((List.replicate (p2.length:Int).toNat (0:Int)).length),cb false],.arr 1 ((eL ak).els l1),.box [cl eI e1.reps,cl eI e1.defs,cl ac e1.values]] ?_
        rw[eI.len e1.reps]
        exact zg [10,16,36] 2 [0,1,7,8,10,37,38,39,50,55] (zt 55 b28 (zo [10,16,36] 7 [0,1,7,8,10,37,38,39,62] [[pi e2]] [0≤(0:Int)∧(0:Int)<((eI.els e1.reps).length:Int)∧aT 1 (eI.els e1.reps),(eI.els e1.reps)[(0:Int).toNat]? =some [pi e2]] (⟨eI.inb a29,(eI.get a29),trivial⟩) (zd (hJ1 (e2 != 0) h _ _ (zk [0,1,7,8,10,37,38,39,62])))))
       ·refine zr (zv [10,16,36] 3 [0,1,7,8,10,37,38,39,45] [] [(0,vl ab p1),(1,vl ah p2),(7,vQ 1),(8,.one (.sl 2 1 0 l1.length)),(10,vQ 3),(37,vl ah p2),(38,vi p2.length),(39,vi x1),(45,vi ((eI.els e1.reps).length:Int))] [.arr 1 (eI.els (List.replicate (p2.length:Int).toNat (0:Int))),.box [cl ah p2,.sl 0 1 0 ((List.replicate (p2.length:Int).toNat (0:Int)).length),cb false],.arr 1 ((eL ak).els l1),.box [cl eI e1.reps,cl eI e1.defs,cl ac e1.values]] ?_)
        rw[eI.len e1.reps]
        refine zv [10,16,36] 3 [0,1,7,8,10,37,38,39,45,48] [] [(0,vl ab p1),(1,vl ah p2),(7,vQ 1),(8,.one (.sl 2 1 0 l1.length)),(10,vQ 3),(37,vl ah p2),(38,vi p2.length),(39,vi x1),(45,vi e1.reps.length),(48,vi ((eI.els e1.defs).length:Int))] [.arr 1 (eI.els (List.replicate (p2.length:Int).toNat (0:Int))),.box [cl ah p2,.sl 0 1 0 ((List.replicate (p2.length:Int).toNat (0:Int)).length),cb false],.arr 1 ((eL ak).els l1),.box [cl eI e1.reps,cl eI e1.defs,cl ac e1.values]] ?_
        rw[eI.len e1.defs]
        refine zg [10,16,36] 2 [0,1,7,8,10,37,38,39,50] (zt 50 b27 ?_)
        refine zv [10,16,36] 3 [0,1,7,8,10,37,38,39,50,53] [] [(0,vl ab p1),(1,vl ah p2),(7,vQ 1),(8,.one (.sl 2 1 0 l1.length)),(10,vQ 3),(37,vl ah p2),(38,vi p2.length),(39,vi x1),(50,vb false),(53,vi ((eI.els e1.reps).length:Int))] [.arr 1 (eI.els (List.replicate (p2.length:Int).toNat (0:Int))),.box [cl ah p2,.sl 0 1 0 ((List.replicate (p2.length:Int).toNat (0:Int)).length),cb false],.arr 1 ((eL ak).els l1),.box [cl eI e1.reps,cl eI e1.defs,cl ac e1.values]] ?_
        rw[eI.len e1.reps]
        exact zg [10,16,36] 2 [0,1,7,8,10,37,38,39,50,55] (zt 55 b28 (zg [10,16,36] 7 [0,1,7,8,10,37,38,39,62] (zd (hJ1 false h _ _ (zk [0,1,7,8,10,37,38,39,62])))))
     ·exact zx 0 (hQ1 _ _ _ (hJ2 l1 h _ _ (zk [0,1,7,8])))
   exact XR.sub (zk [0,1,7,8,37,38,39]) (hL1 aO [] (0:Int) h)
def nY(rec1:Int→OB)(x1:Int)(x2:Bool):OB:=aF x2 (some false) (rec1 (i64.wrap (x1+1)))
def un:OB:=some true
def gy(p1 p2:List (List aa)):Nat→Int→OB
 |0,_=>none
 |k1+1,x1=>aF (decide (x1<(p1.length:Int))) (aK (at? p1 x1) fun e1=>aK (at? p2 x1) fun e2=>aF ((e1.length:Int) != (e2.length:Int)) (nY (gy p1 p2 k1) x1 true) (aK (fx e1 e2) fun r1=>nY (gy p1 p2 k1) x1 (r1 != 0))) (un)
def mP(p1 p2:List (List aa)):OB:=aF ((p1.length:Int) != (p2.length:Int)) (some false) (gy p1 p2 aO 0)
theorem BM(p1 p2:List (List aa)):CT prog 15 [vl (eL ac) p1,vl (eL ac) p2] (mP p1 p2) vb:=
  hJ 40 [] f15 fun r=>(uN (eL ac) p1 (uN (eL ac) p2 (uC uz (sM f15 14 1 un [] [] uz fun K J2=>(uN (eL ac) p1 (mC f15 58 1 fun R b=>have L1:∀k1 {x1},gy p1 p2 k1 x1=some r→(R k1).p [(0,vl (eL ac) p1),(1,vl (eL ac) p2),(12,vi p1.length),(13,vi x1)] []:=uI (lK rfl) fun k1 i1 {x1} h=>b h (uU (gy.eq_2 ..) (uC (gr f15 7474 3 fun K k=>have J1:∀{x2},nY (gy p1 p2 k1) x1 x2=some r→K.p [(0,vl (eL ac) p1),(1,vl (eL ac) p2),(12,vi p1.length),(13,vi x1),(38,vb x2)] []:=fun{x2} h=>k h (uC wj (uJ i1));(pX 20 (uL (eL ac) fun e1 a14=>(uN ac e1 (uL (eL ac) fun e2 a15=>(uN ac e2 (uC (uJ J1) (uM (eL ac) a14 (uM (eL ac) a15 (dp (ou _ _) fun r1=>(uJ J1))))))))))) (uR (.exit 0) (xM (uJ J2)))));uE (L1 aO)))))))
def dy(x1:Bool):OB:=some x1
def eb(p1:List af)(p2:List ae):OB:=aK (rn) fun r1=>aF (!r1) (some false) (aK (dT p1 p2) fun r2=>aK (er p1 p2) fun r3=>aF (r2.2==r3.2) (aK (mP r2.1 r3.1) fun r4=>dy r4) (dy false))
theorem mc(p1:List af)(p2:List ae):CT prog 4 [vl ab p1,vl ah p2] (eb p1 p2) vb:=
  hJ 31 [] f4 fun r=>(dp yW fun r1=>(uC uz (dp (vh _ _) fun r2=>(dp (wI _ _) fun r3=>(gr f4 62 1 fun K k=>have J1:∀{x1},dy x1=some r→K.p [(4,vb x1)] []:=fun{x1} h=>k h uz;(uC (dp (BM _ _) fun r4=>(uJ J1)) (uJ J1)))))))
end Go.Proofs.YtnecojeemmnnaaaGreatDoor
