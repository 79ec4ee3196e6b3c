/- All snapshots: both sides find the same error. Files with one name: both sides find whether they differ. Files with one name in different snapshots: both sides find the same error. And what it needs. -/
import Derived.Lib.ValidU
import Derived.Lib.ValidLaws
import Derived.Test.YtpiohnabdhpphaaGreatDoorLaA
set_option linter.unusedVariables false
set_option linter.unusedSimpArgs false
set_option linter.unnecessarySimpa false
namespace Go.Proofs.YtpiohnabdhpphaaGreatDoor
open Go Go.SX Go.SX.Cal
open Go.IntKind (i64)
def wi(a b c:Int):Bool:=decide (b≤a∧a≤c)
def Fe(m:ax)(s:aw):Bool:=
 !wi s.id 1 (i64.wrap (m.nextSnap-1))||(!wi s.parent 0 (i64.wrap (s.id-1))||(!wi s.seq 1 (i64.wrap (m.nextSeq-1))||(!wi s.schema 0 (i64.wrap ((m.schemas.length:Int)-1))||(!wi s.time (-62135596800) 253402300799|| !wi s.kind 1 3))))
noncomputable def Xw(m:ax)(s:aw):Int:=qF (fe (Yz m s) s.files.length 0) (qF (fe (Q7 s) s.dat.length 0) (fe (QE m s) s.dby.length 0))
noncomputable def Zj(m:ax)(j:Nat):Int:=match m.snapshots[j]? with
 |some s=>qF (er (Fe m s) 3) (qF (er (decide (0<j)&&(match m.snapshots[j-1]? with|some p=>decide (s.id≤p.id)||decide (s.seq≤p.seq) |none=>false)) 5) (Xw m s))
 |none=>0
theorem Re{m:ax}{j:Nat}(hj:j<m.snapshots.length):Zj m j=qF (er (Fe m m.snapshots[j]) 3) (qF (er (decide (0<j)&&(match m.snapshots[j-1]? with|some p=>decide (m.snapshots[j].id≤p.id)||decide (m.snapshots[j].seq≤p.seq) |none=>false)) 5) (Xw m m.snapshots[j])):=by
 unfold Zj;rw[dK hj]
theorem afk{m:ax}{s:aw}(hm:wj m)(hs:RB s)(X:Option Int):
  (am (xr m s) fun r7=>ak (r7 != (0:Int)) (some r7) (am (td m s) fun r8=>ak (r8 != (0:Int)) (some r8) X))=ee (Xw m s) X:=by
 rw[YB hm hs,bS,js];unfold Xw;rw[←bG];refine fG fun e=> ?_
 obtain⟨ho,_⟩:=N0 hm hs e;rw[acY hs ho,adl hm hs,Aq,bS,js]
theorem aal{m:ax}(hm:wj m):tX m=some (fe (Zj m) m.snapshots.length 0):=by
 unfold tX;rw[jg (L:=bW m) (n:=m.snapshots.length) (fin:=some 0) (c:=Zj m) hm.snaps.1
  (fun k=>by rw[bW,wl,iF];rfl)
  (fun k i hi=>by
   have hs:=hm.snaps.2 _ (gd hi);rw[bW,aS hi,iT,aB hi,bS,Re hi];generalize hsn:m.snapshots[i]=s at hs;have hj:∀x,x=Fe m s→jd (bW m k) m (i:Int) s x=
     ee (qF (er (Fe m s) 3) (qF (er (decide (0<i)&&(match m.snapshots[i-1]? with|some p=>decide (s.id≤p.id)||decide (s.seq≤p.seq) |none=>false)) 5) (Xw m s))) (bW m k ((i+1:Nat):Int)):=by
    rintro x rfl;unfold jd nc;rw[eF (by decide),←bG,←bG];refine fG fun _=> ?_
    rw[afk hm hs,aq hi hm.snaps.1];by_cases h0:0<i
    ·have hi1:i-1<m.snapshots.length:=by omega
     rw[decide_eq_true (show(0:Int)<(i:Int) by omega),iT,tO hi h0 hm.snaps.1,bS,decide_eq_true h0,dK hi1,Bool.true_and];simp only;cases decide (s.id≤m.snapshots[i-1].id)with
     |true=>rfl
     |false=>rw[iF,eF (by decide),Bool.false_or]
    ·rw[decide_eq_false (show¬(0:Int)<(i:Int) by omega),iF,decide_eq_false h0];rfl
   have hj1:∀x,kH (bW m k) m (i:Int) s x=jd (bW m k) m (i:Int) s (x||(!wi s.schema 0 (i64.wrap ((m.schemas.length:Int)-1))||(!wi s.time (-62135596800) 253402300799|| !wi s.kind 1 3))):=by
    intro x;unfold kH pw;cases x with
    |true=>rfl
    |false=>
     rw[iF,lA,bS,Bool.false_or];show ak (!wi s.schema _ _) _ _=_;cases wi s.schema 0 (i64.wrap ((m.schemas.length:Int)-1))with
     |false=>rfl
     |true=>
      rw[Bool.not_true,iF,lA,bS,Bool.false_or];rw[show decide (-62135596800≤s.time∧s.time≤253402300799)=wi s.time (-62135596800) 253402300799 from rfl];cases wi s.time (-62135596800) 253402300799 with
      |false=>rfl
      |true=>rw[Bool.not_true,iF,lA,bS];rfl
   rw[lA,bS];show ak (!wi s.id _ _) _ _=_;have hr:Fe m s=Fe m s:=rfl
   conv at hr=>rhs;unfold Fe
   cases a:wi s.id 1 (i64.wrap (m.nextSnap-1))with
   |false=>rw[a]at hr;rw[Bool.not_false,iT,hj1];exact hj _ (by rw[hr];rfl)
   |true=>
    rw[a]at hr;rw[Bool.not_true,iF,lA,bS];show ak (!wi s.parent _ _) _ _=_;cases b:wi s.parent 0 (i64.wrap (s.id-1))with
    |false=>rw[b]at hr;rw[Bool.not_false,iT,hj1];exact hj _ (by rw[hr];rfl)
    |true=>rw[b]at hr;rw[Bool.not_true,iF,lA,bS,hj1];exact hj _ (by rw[hr];rfl))]
 exact eQ _
theorem WH{m:ax}{s:aw}(h:Fe m s=false):1≤s.id∧1≤s.seq:=by
 unfold Fe wi at h;simp only[Bool.or_eq_false_iff,Bool.not_eq_false',decide_eq_true_eq]at h;exact⟨h.1.1,h.2.2.1.1⟩
theorem Yb{m:ax}{s p:aw}(hm:wj m)(hs:RB s):ng m s p=some (qF (er (Fe m s) 3) (qF (er (decide (s.id≤p.id)||decide (s.seq≤p.seq)) 5) (Xw m s))):=by
 have hj:∀x,x=Fe m s→dY m s p x=some (qF (er (Fe m s) 3) (qF (er (decide (s.id≤p.id)||decide (s.seq≤p.seq)) 5) (Xw m s))):=by
  rintro x rfl;unfold dY nn;refine Eq.trans ?_ (eQ _);rw[eF (by decide),←bG,←bG];refine fG fun _=> ?_
  have hin:bQ m s aH (0:Int)=ee (Xw m s) (some 0):=by
   rw[XZ hm hs,ade hs,ab9 hm hs,Aq,Aq,eQ];rfl
  rw[hin];cases decide (s.id≤p.id)with
  |true=>rfl
  |false=>rw[iF,eF (by decide),Bool.false_or]
 unfold ng;have hr:Fe m s=Fe m s:=rfl
 conv at hr=>rhs;unfold Fe
 rw[qO,bS];show ak (!wi s.id _ _) _ _=_;cases a:wi s.id 1 (i64.wrap (m.nextSnap-1))with
 |false=>rw[a]at hr;rw[Bool.not_false,iT];exact hj _ (by rw[hr];rfl)
 |true=>
  rw[a]at hr;rw[Bool.not_true,iF,qO,bS];show ak (!wi s.parent _ _) _ _=_;cases b:wi s.parent 0 (i64.wrap (s.id-1))with
  |false=>rw[b]at hr;rw[Bool.not_false,iT];exact hj _ (by rw[hr];rfl)
  |true=>
   rw[b]at hr;rw[Bool.not_true,iF,qO,bS];show ak (!wi s.seq _ _) _ _=_;cases c:wi s.seq 1 (i64.wrap (m.nextSeq-1))with
   |false=>rw[c]at hr;rw[Bool.not_false,iT];exact hj _ (by rw[hr];rfl)
   |true=>
    rw[c]at hr;rw[Bool.not_true,iF,qO,bS];show ak (!wi s.schema _ _) _ _=_;cases d:wi s.schema 0 (i64.wrap ((m.schemas.length:Int)-1))with
    |false=>rw[d]at hr;rw[Bool.not_false,iT];exact hj _ (by rw[hr];rfl)
    |true=>
     rw[d]at hr;rw[Bool.not_true,iF,qO,bS];show ak (!wi s.time _ _) _ _=_;cases e:wi s.time (-62135596800) 253402300799 with
     |false=>rw[e]at hr;rw[Bool.not_false,iT];exact hj _ (by rw[hr];rfl)
     |true=>rw[e]at hr;rw[Bool.not_true,iF,qO,bS];exact hj _ (by rw[hr];rfl)
def zS:aw:=⟨0,0,0,0,0,0,[],[],[]⟩
def Qp(m:ax)(i:Int):aw:=if i≤0 then zS else(m.snapshots[(i-1).toNat]?).getD zS
theorem abk{m:ax}(hm:wj m):ml m aH (0:Int) (0:Int) (0:Int) (0:Int) (0:Int) (0:Int) [] [] [] (0:Int)=ee (fe (Zj m) m.snapshots.length 0) (tq m):=by
 exact jg (L:=fun k i=>ml m k (Qp m i).id (Qp m i).parent (Qp m i).seq (Qp m i).schema (Qp m i).time (Qp m i).kind (Qp m i).files (Qp m i).dat (Qp m i).dby i) (n:=m.snapshots.length) (c:=Zj m) hm.snaps.1
  (fun k=>by rw[ml,wl,iF])
  (fun k i hi=>by
   have hs:=hm.snaps.2 _ (gd hi);rw[ml,aS hi,iT,aB hi,bS];show am (ng m m.snapshots[i] (Qp m i)) _=_;rw[Yb hm hs,bS,js,aq hi hm.snaps.1];have hp:Qp m ((i+1:Nat):Int)=m.snapshots[i]:=by
    unfold Qp;rw[if_neg (by omega),show(((i+1:Nat):Int)-1).toNat=i by omega,dK hi];rfl
   rw[hp,Re hi,←bG,←bG,←bG,←bG];refine fG fun e=> ?_
   obtain⟨r1,r2⟩:=WH ((Hh (by decide)).1 e);congr 2;by_cases h0:0<i
   ·have hi1:i-1<m.snapshots.length:=by omega
    rw[decide_eq_true h0,dK hi1,Bool.true_and];have:Qp m (i:Int)=m.snapshots[i-1]:=by
     unfold Qp;rw[if_neg (by omega),show((i:Int)-1).toNat=i-1 by omega,dK hi1];rfl
    rw[this]
   ·have:i=0:=by omega
    subst this;have hz:Qp m ((0:Nat):Int)=zS:=rfl;rw[hz,decide_eq_false h0,Bool.false_and];show(decide (m.snapshots[0].id≤0)||decide (m.snapshots[0].seq≤0))=false;rw[decide_eq_false (by omega),decide_eq_false (by omega)];rfl)
theorem M5{m:ax}(hm:wj m)(h:fe (Zj m) m.snapshots.length 0=0):∀s∈m.snapshots,1≤s.id∧IC s.files∧∀f∈s.files,Ws f:=by
 intro s hs;obtain⟨i,hi,rfl⟩:=NA.1 hs;have:=Xh.1 h i (Nat.zero_le _) (by omega);rw[Re hi,sM,sM]at this;have hh:=this.2.2;unfold Xw at hh;rw[sM]at hh;obtain⟨a,b⟩:=N0 hm (hm.snaps.2 _ hs) hh.1;exact⟨(WH ((Hh (by decide)).1 this.1)).1,a,b⟩
theorem Ly{R:Type}{e fin:Option R}{n:Nat}{L:Nat→Int→Option R}{p:Nat→Bool}(h0:∀k,L (k+1) (n:Int)=fin)(h1:∀k i,i<n→L (k+1) (i:Int)=ak (p i) e (L k ((i+1:Nat):Int))):
  ∀m k i,i+m=n→m<k→∃b,L k (i:Int)=ak b e fin∧(b=true↔∃j,i≤j∧j<n∧p j=true)
 |0,k,i,hi,hk=>by
  obtain⟨k,rfl⟩:=fu hk;have:i=n:=by omega
  subst this;exact⟨false,h0 k,by simp;intro j h1 h2;omega⟩
 |m+1,k,i,hi,hk=>by
  obtain⟨k,rfl⟩:=fu hk;rw[h1 k i (by omega)];cases hp:p i with
  |true=>exact⟨true,rfl,by simp;exact⟨i,iO _,by omega,hp⟩⟩
  |false=>
   obtain⟨b,e1,e2⟩:=Ly h0 h1 m k (i+1) (by omega) (by omega);refine⟨b,e1,e2.trans ⟨fun⟨j,a,b,c⟩=>⟨j,by omega,b,c⟩,fun⟨j,a,b,c⟩=>⟨j,?_,b,c⟩⟩⟩;by_cases e:j=i
   ·subst e;rw[hp]at c;cases c
   ·omega
theorem s7{R:Type}{e fin:Option R}{n:Nat}{L:Nat→Int→Option R}{p:Nat→Bool}(hn:n<1000000000)(h0:∀k,L (k+1) (n:Int)=fin)(h1:∀k i,i<n→L (k+1) (i:Int)=ak (p i) e (L k ((i+1:Nat):Int))):
  L aH (0:Int)=ak (lu p n) e fin:=by
 obtain⟨b,e1,e2⟩:=Ly h0 h1 n aH 0 (by omega) (by rw[aF];omega);have:b=lu p n:=lm (e2.trans (Iff.trans ⟨fun⟨j,_,b,c⟩=>⟨j,b,c⟩,fun⟨j,b,c⟩=>⟨j,Nat.zero_le _,b,c⟩⟩ dO.symm));rw[←this];exact e1
def UJ(l m:List ac)(j:Nat):Bool:=match l[j]?,m[j]? with|some x,some y=> !Xk x y|_,_=>false
def Tu(s t:bB):Bool:=s.id==t.id&&(s.nulls==t.nulls&&(Xk s.min t.min&&Xk s.max t.max))
def Kh(l m:List bB)(j:Nat):Bool:=match l[j]?,m[j]? with|some x,some y=> !Tu x y|_,_=>false
def Zy(l m:List ac):Bool:=decide (l.length=m.length)&& !lu (UJ l m) l.length
def seB(l m:List bB):Bool:=decide (l.length=m.length)&& !lu (Kh l m) l.length
def PK(a b:aj):Bool:=decide (a.name=b.name)&&(a.schema==b.schema&&(a.spec==b.spec&&(a.rows==b.rows&&(Zy a.part b.part&&seB a.stats b.stats))))
theorem Xv{l m:List ac}(hl:∀v∈l,Lv v)(hm:∀v∈m,Lv v):Zy l m=true↔l=m:=by
 unfold Zy;rw[iu,decide_eq_true_iff,Bool.not_eq_true',←Bool.not_eq_true,dO];constructor
 ·rintro⟨h1,h2⟩;refine List.ext_getElem h1 fun i hi hi'=> ?_
  have:UJ l m i=false:=by
   cases h:UJ l m i with
   |false=>rfl
   |true=>exact absurd ⟨i,hi,h⟩ h2
  unfold UJ at this;rw[dK hi,dK hi']at this;exact(GO (hl _ (gd hi)) (hm _ (gd hi'))).1 (by simpa using this)
 ·rintro rfl;refine⟨rfl,?_⟩;rintro⟨j,hj,h⟩;unfold UJ at h;rw[dK hj]at h;simp only[Bool.not_eq_true']at h;rw[(GO (hl _ (gd hj)) (hl _ (gd hj))).2 rfl]at h;cases h
theorem N7{s t:bB}(hs:Lv s.min∧Lv s.max)(ht:Lv t.min∧Lv t.max):Tu s t=true↔s=t:=by
 unfold Tu;rw[iu,iu,iu,GO hs.1 ht.1,GO hs.2 ht.2,beq_iff_eq,beq_iff_eq];obtain⟨a,b,c,d⟩:=s;obtain⟨a',b',c',d'⟩:=t;simp
theorem Yj{l m:List bB}(hl:∀v∈l,Lv v.min∧Lv v.max)(hm:∀v∈m,Lv v.min∧Lv v.max):seB l m=true↔l=m:=by
 unfold seB;rw[iu,decide_eq_true_iff,Bool.not_eq_true',←Bool.not_eq_true,dO];constructor
 ·rintro⟨h1,h2⟩;refine List.ext_getElem h1 fun i hi hi'=> ?_
  have:Kh l m i=false:=by
   cases h:Kh l m i with
   |false=>rfl
   |true=>exact absurd ⟨i,hi,h⟩ h2
  unfold Kh at this;rw[dK hi,dK hi']at this;exact(N7 (hl _ (gd hi)) (hm _ (gd hi'))).1 (by simpa using this)
 ·rintro rfl;refine⟨rfl,?_⟩;rintro⟨j,hj,h⟩;unfold Kh at h;rw[dK hj]at h;simp only[Bool.not_eq_true']at h;rw[(N7 (hl _ (gd hj)) (hl _ (gd hj))).2 rfl]at h;cases h
def Sf(a b:aj):Prop:=a.name=b.name∧a.schema=b.schema∧a.spec=b.spec∧a.rows=b.rows∧a.part=b.part∧a.stats=b.stats
theorem I7{a b:aj}(ha:Ws a)(hb:Ws b):PK a b=true↔Sf a b:=by
 unfold PK Sf;rw[iu,iu,iu,iu,iu,decide_eq_true_iff,beq_iff_eq,beq_iff_eq,beq_iff_eq,Xv ha.part hb.part,Yj ha.stats hb.stats]
theorem Sf.symm{a b:aj}(h:Sf a b):Sf b a:=⟨h.1.symm,h.2.1.symm,h.2.2.1.symm,h.2.2.2.1.symm,h.2.2.2.2.1.symm,h.2.2.2.2.2.symm⟩
theorem Sf.trans{a b c:aj}(h:Sf a b)(k:Sf b c):Sf a c:=⟨h.1.trans k.1,h.2.1.trans k.2.1,h.2.2.1.trans k.2.2.1,h.2.2.2.1.trans k.2.2.2.1,h.2.2.2.2.1.trans k.2.2.2.2.1,h.2.2.2.2.2.trans k.2.2.2.2.2⟩
theorem aaO{a b:ac}(ha:Lv a)(hb:Lv b):mB a b=some (Xk a b):=by
 unfold mB;rw[Mz ha hb,bS];rfl
theorem aeD{l m:List ac}(hn:l.length<1000000000)(hl:∀v∈l,Lv v)(hm:∀v∈m,Lv v):bp l m=some (Zy l m):=by
 unfold bp Zy;by_cases h:l.length=m.length
 ·rw[show((l.length:Int) != (m.length:Int))=false by simp[h],iF,decide_eq_true h,Bool.true_and];rw[s7 (L:=aE l m) (n:=l.length) (e:=some false) (fin:=some true) (p:=UJ l m) hn
   (fun k=>by rw[aE,wl,iF];rfl)
   (fun k i hi=>by
    have hi':i<m.length:=by omega
    rw[aE,aS hi,iT,aB hi,bS,aB hi',bS,aaO (hl _ (gd hi)) (hm _ (gd hi')),bS,aq hi hn];unfold UJ;rw[dK hi,dK hi'])]
  cases lu (UJ l m) l.length<;>rfl
 ·rw[show((l.length:Int) != (m.length:Int))=true by simp;omega,iT,decide_eq_false h];rfl
theorem acd{s t:bB}(hs:Lv s.min∧Lv s.max)(ht:Lv t.min∧Lv t.max):sH s t=some (Tu s t,()):=by
 unfold sH jZ Tu;rw[aaO hs.1 ht.1,aaO hs.2 ht.2,bS,bS];cases(s.id==t.id)<;>cases(s.nulls==t.nulls)<;>cases Xk s.min t.min<;>rfl
theorem aej{l m:List bB}(hn:l.length<1000000000)(hl:∀v∈l,Lv v.min∧Lv v.max)(hm:∀v∈m,Lv v.min∧Lv v.max):aZ l m=some (seB l m,()):=by
 unfold aZ seB;by_cases h:l.length=m.length
 ·rw[show((l.length:Int) != (m.length:Int))=false by simp[h],iF,decide_eq_true h,Bool.true_and];rw[s7 (L:=ar l m) (n:=l.length) (e:=some (false,())) (fin:=some (true,())) (p:=Kh l m) hn
   (fun k=>by rw[ar,wl,iF];rfl)
   (fun k i hi=>by
    have hi':i<m.length:=by omega
    rw[ar,aS hi,iT,aB hi,bS,aB hi',bS,acd (hl _ (gd hi)) (hm _ (gd hi')),bS,aq hi hn];unfold Kh;rw[dK hi,dK hi'])]
  cases lu (Kh l m) l.length<;>rfl
 ·rw[show((l.length:Int) != (m.length:Int))=true by simp;omega,iT,decide_eq_false h];rfl
theorem ae0{a b:aj}(ha:Ws a)(hb:Ws b)(za:Np a):rC a b=some (PK a b):=by
 unfold rC iG PK;rw[Td,aeD za.part.1 ha.part hb.part,aej za.stats.1 ha.stats hb.stats,bS,bS];cases decide (a.name=b.name)<;>cases(a.schema==b.schema)<;>cases(a.spec==b.spec)<;>cases(a.rows==b.rows)<;>cases Zy a.part b.part<;>rfl
theorem afi{a b:aj}(ha:Ws a)(hb:Ws b)(za:Np a):tF a b=some (PK a b):=by
 have h1:∀x,x=(!decide (a.part.length=b.part.length)|| !decide (a.stats.length=b.stats.length))→fj a b x=some (Zy a.part b.part&&seB a.stats b.stats):=by
  intro x hx;unfold fj Zy seB;cases x with
  |true=>
   rw[iT];by_cases h:a.part.length=b.part.length
   ·rw[decide_eq_true h]at hx;have h2:decide (a.stats.length=b.stats.length)=false:=by simpa using hx.symm
    rw[h2,Bool.false_and,Bool.and_false]
   ·rw[decide_eq_false h];rfl
  |false=>
   have hx:=hx.symm;rw[Bool.or_eq_false_iff,Bool.not_eq_false',Bool.not_eq_false',decide_eq_true_iff,decide_eq_true_iff]at hx;obtain⟨hp,hs⟩:=hx;rw[iF,decide_eq_true hp,decide_eq_true hs,Bool.true_and,Bool.true_and];rw[s7 (L:=kz a b) (n:=a.part.length) (e:=some false) (fin:=rZ a b) (p:=UJ a.part b.part) za.part.1
    (fun k=>by rw[kz,wl,iF])
    (fun k i hi=>by
     have hi':i<b.part.length:=by omega
     rw[kz,aS hi,iT,aB hi,bS,aB hi',bS,JT (ha.part _ (gd hi)) (hb.part _ (gd hi')),bS,aq hi za.part.1];unfold UJ;rw[dK hi,dK hi'])]
   unfold rZ;rw[s7 (L:=fo a b) (n:=a.stats.length) (e:=some false) (fin:=some true) (p:=Kh a.stats b.stats) za.stats.1
    (fun k=>by rw[fo,wl,iF];rfl)
    (fun k i hi=>by
     have hi':i<b.stats.length:=by omega
     obtain⟨u1,u2⟩:=ha.stats _ (gd hi);obtain⟨w1,w2⟩:=hb.stats _ (gd hi');rw[fo,aS hi,iT,aB hi,bS,aB hi',bS,JT u1 w1,JT u2 w2,bS,bS];unfold mH;rw[aq hi za.stats.1];unfold Kh;rw[dK hi,dK hi'];simp only;unfold Tu bne;cases(a.stats[i].id==b.stats[i].id)<;>cases(a.stats[i].nulls==b.stats[i].nulls)<;>cases Xk a.stats[i].min b.stats[i].min<;>rfl)]
   cases lu (UJ a.part b.part) a.part.length<;>cases lu (Kh a.stats b.stats) a.stats.length<;>rfl
 have ht:∀y,fj a b true=some y→y=false:=fun y h=>by cases h;rfl
 unfold tF PK;rw[Td];have hb2:fj a b true=some false:=rfl;unfold bne;cases decide (a.name=b.name)with
 |false=>rfl
 |true=>
  cases(a.schema==b.schema)with
  |false=>rfl
  |true=>
   cases(a.spec==b.spec)with
   |false=>rfl
   |true=>
    cases(a.rows==b.rows)with
    |false=>rfl
    |true=>
     have e1:((a.part.length:Int)==(b.part.length:Int))=decide (a.part.length=b.part.length):=lm (by rw[beq_iff_eq,decide_eq_true_iff];omega);have e2:((a.stats.length:Int)==(b.stats.length:Int))=decide (a.stats.length=b.stats.length):=lm (by rw[beq_iff_eq,decide_eq_true_iff];omega);rw[e1,e2];cases hp:decide (a.part.length=b.part.length)with
     |false=>
      rw[hp]at h1;exact h1 true rfl
     |true=>
      rw[hp]at h1;exact h1 _ rfl
theorem Lr(a b:ByteArray):Ae.eq a b=decide (a=b):=by
 refine lm ?_;rw[decide_eq_true_iff];constructor
 ·intro h;have h':(a.data==b.data)=true:=h;exact ByteArray.ext (by simpa using h')
 ·rintro rfl;show(a.data==a.data)=true;simp
theorem I8{α:Type}:∀(m:List (ByteArray×α)) (k:ByteArray) (v:α),jQ Ae (lj Ae m k v) k=some v
 |[],k,v=>by simp only[lj,jQ,Lr,decide_true,if_true]
 |(k',v')::l,k,v=>by
  by_cases h:k=k'
  ·simp only[lj,jQ,Lr,decide_eq_true h,if_true,decide_true]
  ·simp only[lj,jQ,Lr,decide_eq_false h,Bool.false_eq_true,if_false];exact I8 l k v
theorem Gc{α:Type}:∀(m:List (ByteArray×α)) (k:ByteArray) (v:α) (x:ByteArray),x≠k→jQ Ae (lj Ae m k v) x=jQ Ae m x
 |[],k,v,x,hx=>by simp only[lj,jQ,Lr,decide_eq_false hx,Bool.false_eq_true,if_false]
 |(k',v')::l,k,v,x,hx=>by
  by_cases h:k=k'
  ·subst h;simp only[lj,jQ,Lr,decide_true,if_true,decide_eq_false hx,Bool.false_eq_true,if_false]
  ·simp only[lj,jQ,Lr,decide_eq_false h,Bool.false_eq_true,if_false];rw[Gc l k v x hx]
def Zk(m:ax):Prop:=∀s∈m.snapshots,1≤s.id∧IC s.files∧∀f∈s.files,Ws f
def Bad(m:ax)(i:Nat):Prop:=∃(hi:i<m.snapshots.length) (x:Nat) (hx:x<i) (f g:aj),f∈m.snapshots[i].files∧g∈(m.snapshots[x]'(by omega)).files∧g.name=f.name∧¬Sf g f
structure abE(m:ax)(i:Nat)(z:List (ByteArray×aj)):Prop where
 a:∀n g,jQ Ae z n=some g→g.name=n∧∃(x:Nat) (hx:x<i) (hl:x<m.snapshots.length),g∈m.snapshots[x].files
 b:∀(x:Nat) (hl:x<m.snapshots.length),x<i→∀f∈m.snapshots[x].files,∃g,jQ Ae z f.name=some g∧Sf g f
structure acM(m:ax)(i:Nat)(fs:List aj)(j:Nat)(z:List (ByteArray×aj)):Prop where
 a:∀n g,jQ Ae z n=some g→g.name=n∧((∃(x:Nat) (hx:x<i) (hl:x<m.snapshots.length),g∈m.snapshots[x].files)∨∃(q:Nat) (hq:q<j) (hl:q<fs.length),g=fs[q])
 b:∀(x:Nat) (hl:x<m.snapshots.length),x<i→∀f∈m.snapshots[x].files,∃g,jQ Ae z f.name=some g∧Sf g f
 c:∀(q:Nat) (hl:q<fs.length),q<j→jQ Ae z fs[q].name=some fs[q]
def XB(m:ax)(i:Nat)(rec1:List (ByteArray×aj)→Int→Option Int)(e:Option Int):Prop:=
 (e=some 5∧Bad m i)∨(∃z',abE m (i+1) z'∧e=rec1 z' ((i+1:Nat):Int)∧¬Bad m i)
theorem W3{m:ax}(hm:wj m)(ho:Zk m)(rec1:List (ByteArray×aj)→Int→Option Int){i:Nat}(hi:i<m.snapshots.length):∀(d k j:Nat) (z:List (ByteArray×aj)),j+d=m.snapshots[i].files.length→d<k→acM m i m.snapshots[i].files j z→
  (∀(q:Nat) (hq:q<m.snapshots[i].files.length),q<j→∀(x:Nat) (hx:x<i),∀g∈(m.snapshots[x]'(by omega)).files,g.name=m.snapshots[i].files[q].name→Sf g m.snapshots[i].files[q])→
  XB m i rec1 (gE rec1 (i:Int) m.snapshots[i] k z (j:Int)):=by
 have hsi:=ho _ (gd hi);have hzi:=hm.snaps.2 _ (gd hi);intro d;induction d with
 |zero=>
  intro k j z hj hk hz hg;obtain⟨k,rfl⟩:=fu hk;right;refine⟨z,⟨fun n g h=> ?_,fun x hl hx f hf=> ?_⟩,?_,?_⟩
  ·obtain⟨h1,h2⟩:=hz.a n g h;refine⟨h1,?_⟩;rcases h2 with⟨x,hx,hl,h2⟩ |⟨q,hq,hl,rfl⟩
   ·exact⟨x,by omega,hl,h2⟩
   ·exact⟨i,by omega,hi,gd hl⟩
  ·by_cases e:x=i
   ·subst e;obtain⟨q,hq,rfl⟩:=NA.1 hf;exact⟨_,hz.c q hq (by omega),⟨rfl,rfl,rfl,rfl,rfl,rfl⟩⟩
   ·exact hz.b x hl (by omega) f hf
  ·rw[gE,FE (by omega),iF];unfold Af;rw[aq hi hm.snaps.1]
  ·rintro⟨_,x,hx,f,g,hf,hg',hn,hs⟩;obtain⟨q,hq,rfl⟩:=NA.1 hf;exact hs (hg q hq (by omega) x hx g hg' hn)
 |succ d ih=>
  intro k j z hj hk hz hg;obtain⟨k,rfl⟩:=fu hk;have h1:j<m.snapshots[i].files.length:=by omega
  have hfj:=hsi.2.2 _ (gd h1);rw[gE,aS h1,iT,aB h1,bS,bS];unfold vT;rw[aq h1 hzi.files.1]
  have hgo:(∀(x:Nat) (hx:x<i),∀g∈(m.snapshots[x]'(by omega)).files,g.name=m.snapshots[i].files[j].name→Sf g m.snapshots[i].files[j])→
    XB m i rec1 (gE rec1 (i:Int) m.snapshots[i] k (lj Ae z m.snapshots[i].files[j].name m.snapshots[i].files[j]) ((j+1:Nat):Int)):=by
   intro hag;refine ih k (j+1) _ (by omega) (by omega) ⟨fun n g h=> ?_,fun x hl hx f hf=> ?_,fun q hl hq=> ?_⟩ (fun q hq hqj x hx g hg' hn=> ?_)
   ·by_cases e:n=m.snapshots[i].files[j].name
    ·subst e;rw[I8]at h;cases h;exact⟨rfl,.inr ⟨j,by omega,h1,rfl⟩⟩
    ·rw[Gc _ _ _ _ e]at h;obtain⟨a,b⟩:=hz.a n g h;refine⟨a,?_⟩;rcases b with b|⟨q,hq,hl,rfl⟩
     ·exact .inl b
     ·exact .inr ⟨q,by omega,hl,rfl⟩
   ·by_cases e:f.name=m.snapshots[i].files[j].name
    ·rw[e,I8];exact⟨_,rfl,(hag x hx f hf e).symm⟩
    ·rw[Gc _ _ _ _ e];exact hz.b x hl hx f hf
   ·by_cases e:q=j
    ·subst e;exact I8 _ _ _
    ·have hlt:=hsi.2.1 q j h1 (by omega);rw[Gc _ _ _ _ (fun e=>by rw[e,wS]at hlt;omega)];exact hz.c q hl (by omega)
   ·by_cases e:q=j
    ·subst e;exact hag x hx g hg' hn
    ·exact hg q hq (by omega) x hx g hg' hn
  cases hm':jQ Ae z m.snapshots[i].files[j].name with
  |none=>
   show XB m i rec1 (ak false _ (ak false _ _));rw[iF,iF];refine hgo fun x hx g hg' hn=> ?_
   obtain⟨g',h2,_⟩:=hz.b x (by omega) hx g hg';rw[hn,hm']at h2;cases h2
  |some g=>
   obtain⟨hgn,hgp⟩:=hz.a _ g hm';have hgx:∃(x:Nat) (hx:x<i) (hl:x<m.snapshots.length),g∈m.snapshots[x].files:=by
    rcases hgp with h|⟨q,hq,hl,rfl⟩
    ·exact h
    ·have hlt:=hsi.2.1 q j h1 hq;rw[hgn,wS]at hlt;omega
   obtain⟨x0,hx0,hl0,hg0⟩:=hgx;have hgo':=(ho _ (gd hl0)).2.2 _ hg0;show XB m i rec1 (ak true (am (rC g m.snapshots[i].files[j]) _) _);rw[iT,ae0 hgo' hfj ((hm.snaps.2 _ (gd hl0)).files.2 _ hg0),bS];cases hsf:PK g m.snapshots[i].files[j]with
   |false=>
    left;refine⟨rfl,hi,x0,hx0,_,g,gd h1,hg0,hgn,fun h=> ?_⟩;rw[(I7 hgo' hfj).2 h]at hsf;cases hsf
   |true=>
    rw[Bool.not_true,iF];have hs:=(I7 hgo' hfj).1 hsf;refine hgo fun x hx g' hg' hn=> ?_
    obtain⟨g2,h2,h3⟩:=hz.b x (by omega) hx g' hg';rw[hn,hm']at h2;cases h2;exact h3.symm.trans hs
theorem Tl{m:ax}(hm:wj m)(ho:Zk m):∀(d k i:Nat) (z:List (ByteArray×aj)),i+d=m.snapshots.length→d<k→abE m i z→
  (fk m k z (i:Int)=some 5∧∃q,i≤q∧Bad m q)∨(fk m k z (i:Int)=some 0∧∀q,i≤q→¬Bad m q):=by
 intro d;induction d with
 |zero=>
  intro k i z hi hk hz;obtain⟨k,rfl⟩:=fu hk;right;rw[fk,FE (by omega),iF];exact⟨rfl,fun q hq ⟨h,_⟩=>by omega⟩
 |succ d ih=>
  intro k i z hi hk hz;obtain⟨k,rfl⟩:=fu hk;have h1:i<m.snapshots.length:=by omega
  rw[fk,aS h1,iT,aB h1,bS];have h3:acM m i m.snapshots[i].files 0 z:=⟨fun n g h=>⟨(hz.a n g h).1,.inl (hz.a n g h).2⟩,hz.b,fun q _ hq=>by omega⟩
  rcases W3 hm ho (fk m k) h1 m.snapshots[i].files.length aH 0 z (by omega) (by rw[aF];have:=(hm.snaps.2 _ (gd h1)).files.1;omega) h3 (fun q hq h=>by omega)with⟨a,b⟩ |⟨z',a,b,c⟩
  ·exact .inl ⟨a,i,iO _,b⟩
  ·have b:gE (fk m k) (i:Int) m.snapshots[i] aH z (0:Int)=_:=b;rw[b];rcases ih k (i+1) z' (by omega) (by omega) a with⟨e1,q,e2,e3⟩ |⟨e1,e2⟩
   ·exact .inl ⟨e1,q,by omega,e3⟩
   ·refine .inr ⟨e1,fun q hq=> ?_⟩;by_cases e:q=i
    ·subst e;exact c
    ·exact e2 q (by omega)
theorem YG{m:ax}(hm:wj m)(ho:Zk m):(xz m=some 5∧∃q,Bad m q)∨(xz m=some 0∧∀q,¬Bad m q):=by
 have h0:abE m 0 []:=⟨(fun n g h=>by cases h),fun x _ hx=>by omega⟩
 rcases Tl hm ho m.snapshots.length aH 0 [] (by omega) (by rw[aF];have:=hm.snaps.1;omega) h0 with⟨a,q,_,b⟩ |⟨a,b⟩
 ·exact .inl ⟨a,q,b⟩
 ·exact .inr ⟨a,fun q=>b q (Nat.zero_le _)⟩
def ON(s x:aw)(j:Nat):Bool:=match s.files[j]? with
 |some f=>(match uo x.files f.name with|some g=> !PK f g|none=>false)
 |none=>false
def VD(m:ax)(i x:Nat):Bool:=match m.snapshots[i]?,m.snapshots[x]? with
 |some s,some y=>lu (ON s y) s.files.length
 |_,_=>false
def Q3(m:ax)(i:Nat):Bool:=lu (VD m i) i
theorem MP{α:Type}{l:List α}{i x:Nat}(hx:x<i)(hi:i≤l.length):at? (List.take ((i:Int).toNat-(0:Int).toNat) (List.drop (0:Int).toNat l)) (x:Int)=some (l[x]'(by omega)):=by
 have h:x<(List.take ((i:Int).toNat-(0:Int).toNat) (List.drop (0:Int).toNat l)).length:=by simp;omega
 rw[aB h];simp
theorem Bs{α:Type}{l:List α}{i:Nat}(hi:i≤l.length):(List.take ((i:Int).toNat-(0:Int).toNat) (List.drop (0:Int).toNat l)).length=i:=by simp;omega
theorem YN{m:ax}(hm:wj m)(ho:Zk m):tq m=ee (er (lu (Q3 m) m.snapshots.length) 5) (o6 m):=by
 unfold tq;rw[jg (L:=eo m) (n:=m.snapshots.length) (fin:=o6 m) (c:=fun i=>er (Q3 m i) 5) hm.snaps.1
  (fun k=>by rw[eo,wl,iF])
  (fun k i hi=>by
   rw[eo,aS hi,iT,aB hi,bS,gP ⟨by omega,by omega,by omega⟩];have hil:i≤m.snapshots.length:=by omega
   rw[jg (L:=gZ (eo m k) m (i:Int) m.snapshots[i]) (n:=i) (fin:=eo m k ((i+1:Nat):Int)) (c:=fun x=>er (VD m i x) 5) (by have:=hm.snaps.1;omega)
    (fun q=>by
     rw[gZ,bS,Bs hil,wl,iF];unfold A6;rw[aq hi hm.snaps.1])
    (fun q x hx=>by
     have hxl:x<m.snapshots.length:=by omega
     have hzi:=hm.snaps.2 _ (gd hi);rw[gZ,bS,Bs hil,aS hx,iT,MP hx hil,bS];rw[jg (L:=kK (gZ (eo m k) m (i:Int) m.snapshots[i] q) m.snapshots[i] (x:Int) m.snapshots[x]) (n:=m.snapshots[i].files.length) (fin:=gZ (eo m k) m (i:Int) m.snapshots[i] q ((x+1:Nat):Int)) (c:=fun j=>er (ON m.snapshots[i] m.snapshots[x] j) 5) hzi.files.1
      (fun q'=>by
       rw[kK,wl,iF];unfold AY;rw[aq hxl hm.snaps.1])
      (fun q' j hj=>by
       have hxo:=ho _ (gd hxl);have hio:=ho _ (gd hi);rw[kK,aS hj,iT,aB hj,bS,LD (hm.snaps.2 _ (gd hxl)).files.1,bS];unfold xg ON;rw[aq hj hzi.files.1,dK hj];simp only;cases hf:uo m.snapshots[x].files m.snapshots[i].files[j].name with
       |none=>rfl
       |some g=>
        have hgm:g∈m.snapshots[x].files:=List.mem_of_find?_eq_some hf;show ak true (am (tF m.snapshots[i].files[j] g) _) _=_;rw[iT,afi (hio.2.2 _ (gd hj)) (hxo.2.2 _ hgm) (hzi.files.2 _ (gd hj)),bS,eF (by decide)])]
     rw[HN (by decide)];unfold VD;rw[dK hi,dK hxl])]
   rw[HN (by decide)];rfl)]
 rw[HN (by decide)]
theorem Ox{m:ax}(ho:Zk m){i:Nat}(hi:i<m.snapshots.length):Q3 m i=true↔Bad m i:=by
 unfold Q3;rw[dO];constructor
 ·rintro⟨x,hx,h⟩;have hxl:x<m.snapshots.length:=by omega
  unfold VD at h;rw[dK hi,dK hxl]at h;simp only at h;obtain⟨j,hj,h⟩:=dO.1 h;unfold ON at h;rw[dK hj]at h;simp only at h;cases hf:uo m.snapshots[x].files m.snapshots[i].files[j].name with
  |none=>rw[hf]at h;cases h
  |some g=>
   rw[hf]at h;simp only at h;have hgm:g∈m.snapshots[x].files:=List.mem_of_find?_eq_some hf;have hgn:g.name=m.snapshots[i].files[j].name:=by simpa using List.find?_some hf
   refine⟨hi,x,hx,_,g,gd hj,hgm,hgn,fun hs=> ?_⟩;rw[(I7 ((ho _ (gd hi)).2.2 _ (gd hj)) ((ho _ (gd hxl)).2.2 _ hgm)).2 hs.symm]at h;cases h
 ·rintro⟨_,x,hx,f,g,hf,hg,hn,hs⟩;have hxl:x<m.snapshots.length:=by omega
  refine⟨x,hx,?_⟩;unfold VD;rw[dK hi,dK hxl];obtain⟨j,hj,rfl⟩:=NA.1 hf;refine dO.2 ⟨j,hj,?_⟩;unfold ON;rw[dK hj];obtain⟨q,hq,rfl⟩:=NA.1 hg;have:=KE (ho _ (gd hxl)).2.1 hq;rw[hn]at this;simp only[this];cases hb:PK m.snapshots[i].files[j] m.snapshots[x].files[q]with
  |false=>rfl
  |true=>exact absurd ((I7 ((ho _ (gd hi)).2.2 _ hf) ((ho _ (gd hxl)).2.2 _ hg)).1 hb).symm hs
def alE(m:ax):Int:=er (lu (Q3 m) m.snapshots.length) 5
theorem UX{m:ax}(hm:wj m)(ho:Zk m):xz m=some (alE m):=by
 unfold alE;rcases YG hm ho with⟨a,q,b⟩ |⟨a,b⟩
 ·have hb:lu (Q3 m) m.snapshots.length=true:=by
   have hq:q<m.snapshots.length:=b.1;exact dO.2 ⟨q,hq,(Ox ho hq).2 b⟩
  rw[a,hb];rfl
 ·have hb:lu (Q3 m) m.snapshots.length=false:=by
   rw[←Bool.not_eq_true,dO];rintro⟨q,hq,h⟩;exact b q ((Ox ho hq).1 h)
  rw[a,hb];rfl
def Ki(m:ax)(id:Int):Bool:=lu (fun q=>match m.snapshots[q]? with|some s=>s.id==id|none=>false) m.snapshots.length
theorem aeX{m:ax}(hm:wj m)(id:Int):∃s,rt m id=some (s,Ki m id):=by
 unfold rt cK;have key:∀d k i,i+d=m.snapshots.length→d<k→∃r,aN m.snapshots id k (i:Int)=some r∧((r= -1∧∀j,i≤j→∀(h:j<m.snapshots.length),m.snapshots[j].id≠id)∨∃(j:Nat) (h:j<m.snapshots.length),r=(j:Int)∧m.snapshots[j].id=id):=by
  intro d;induction d with
  |zero=>
   intro k i hi hk;obtain⟨k,rfl⟩:=fu hk;rw[aN,FE (by omega),iF];exact⟨-1,rfl,.inl ⟨rfl,fun j h1 h2=>by omega⟩⟩
  |succ d ih=>
   intro k i hi hk;obtain⟨k,rfl⟩:=fu hk;have h1:i<m.snapshots.length:=by omega
   rw[aN,aS h1,iT,aB h1,bS,um,bS,aq h1 hm.snaps.1];cases he:(m.snapshots[i].id==id)with
   |true=>exact⟨i,rfl,.inr ⟨i,h1,rfl,by simpa using he⟩⟩
   |false=>
    obtain⟨r,e1,e2⟩:=ih k (i+1) (by omega) (by omega);refine⟨r,e1,e2.imp (fun⟨a,b⟩=>⟨a,fun j hj h=> ?_⟩) fun h=>h⟩;by_cases e:j=i
    ·subst e;simpa using he
    ·exact b j (by omega) h
 obtain⟨r,r1,r2⟩:=key m.snapshots.length aH 0 (by omega) (by rw[aF];have:=hm.snaps.1;omega);have r1:aN m.snapshots id aH (0:Int)=_:=r1;rw[r1,bS];rcases r2 with⟨rfl,h⟩ |⟨j,hj,rfl,h⟩
 ·refine⟨⟨0,0,0,0,0,0,[],[],[]⟩,?_⟩;have hb:Ki m id=false:=by
   unfold Ki;rw[←Bool.not_eq_true,dO];rintro⟨q,hq,e⟩;rw[dK hq]at e;exact h q (Nat.zero_le _) hq (by simpa using e)
  rw[hb];rfl
 ·refine⟨m.snapshots[j],?_⟩;have hb:Ki m id=true:=dO.2 ⟨j,hj,by rw[dK hj];simpa using h⟩;rw[decide_eq_false (show¬(j:Int)<0 by omega),iF,aB hj,bS,hb]
theorem aex{m:ax}(hm:wj m)(ho:Zk m)(id:Int):∃s,Ee m id=some (s,Ki m id):=by
 have key:∀d k i,i+d=m.snapshots.length→d<k→∃s b,lY m id k (i:Int)=some (s,b)∧(b=true↔∃j,i≤j∧∃(h:j<m.snapshots.length),m.snapshots[j].id=id):=by
  intro d;induction d with
  |zero=>
   intro k i hi hk;obtain⟨k,rfl⟩:=fu hk;rw[lY,FE (by omega),iF];exact⟨_,_,rfl,by simp;intro j h1 h2;omega⟩
  |succ d ih=>
   intro k i hi hk;obtain⟨k,rfl⟩:=fu hk;have h1:i<m.snapshots.length:=by omega
   have hid:=(ho _ (gd h1)).1;rw[lY,aS h1,iT,aB h1,bS];unfold yz;rw[aq h1 hm.snaps.1];cases he:(m.snapshots[i].id==id)with
   |true=>
    have he:m.snapshots[i].id=id:=by simpa using he
    rw[iT,decide_eq_true (by omega),iT];exact⟨_,_,rfl,fun _=>⟨i,iO _,h1,he⟩,fun _=>rfl⟩
   |false=>
    rw[iF,iF];obtain⟨s,b,e1,e2⟩:=ih k (i+1) (by omega) (by omega);refine⟨s,b,e1,e2.trans ⟨fun⟨j,a,h,c⟩=>⟨j,by omega,h,c⟩,fun⟨j,a,h,c⟩=>⟨j,?_,h,c⟩⟩⟩;by_cases e:j=i
    ·subst e;rw[c]at he;simp at he
    ·omega
 obtain⟨s,b,e1,e2⟩:=key m.snapshots.length aH 0 (by omega) (by rw[aF];have:=hm.snaps.1;omega);refine⟨s,?_⟩;unfold Ee;rw[show((0:Nat):Int)=0 from rfl]at e1;rw[e1];congr 2;refine lm (e2.trans ?_);unfold Ki;rw[dO];constructor
 ·rintro⟨j,_,h,c⟩;exact⟨j,h,by rw[dK h];simpa using c⟩
 ·rintro⟨j,h,c⟩;rw[dK h]at c;exact⟨j,Nat.zero_le _,h,by simpa using c⟩
def aaG(m:ax)(r:lq)(j:Nat):Bool:=lu (fun q=>match m.refs[q]? with|some p=>decide (p.name=r.name) |none=>false) j
def QQ(m:ax)(j:Nat):Int:=match m.refs[j]? with
 |some r=>qF (er (!wx r.name) 4) (qF (er (aaG m r j) 5) (er (!Ki m r.snapshot&& !(r.branch&&r.snapshot==0)) 9))
 |none=>0
def RU(s:ByteArray):Bool:=qt ⟨4,0,0,s,[]⟩
theorem ZL{s:ByteArray}(h:s.size<100000000):bE ⟨4,0,0,s,[]⟩<1000000000:=by simp only[bE,cN];omega
def DT(m:ax)(j:Nat):Int:=match m.props[j]? with
 |some p=>qF (er (!wx p.name) 4) (er ((decide (0<j)&&(match m.props[j-1]? with|some q=>NB p.name q.name|none=>false))|| !RU p.value) 1)
 |none=>0
theorem NO{m:ax}(hm:wj m){i:Nat}(hi:i<m.props.length)(X:Option Int)(O:Option Bool)(ho:O=some (RU m.props[i].value)):
  ak (decide ((0:Int)<(i:Int))) (am (at? m.props (i64.wrap ((i:Int)-(1:Int)))) fun e3=>am (some (Op.bytesLess m.props[i].name.toList e3.name.toList||m.props[i].name.toList==e3.name.toList)) fun y1=>ak y1 (ak true (some (1:Int)) X) (am O fun r5=>ak (!r5) (some (1:Int)) X)) (am O fun r6=>ak (!r6) (some (1:Int)) X)=
   ee (er ((decide (0<i)&&(match m.props[i-1]? with|some q=>NB m.props[i].name q.name|none=>false))|| !RU m.props[i].value) 1) X:=by
 subst ho;by_cases h0:0<i
 ·have hi1:i-1<m.props.length:=by omega
  rw[decide_eq_true (show(0:Int)<(i:Int) by omega),iT,tO hi h0 hm.props.1,bS,bS,decide_eq_true h0,dK hi1,Bool.true_and,bS];show ak (NB m.props[i].name m.props[i-1].name) _ _=ee (er (NB m.props[i].name m.props[i-1].name|| !RU m.props[i].value) 1) X;cases NB m.props[i].name m.props[i-1].name with
  |true=>rfl
  |false=>rw[iF,eF (by decide),Bool.false_or]
 ·rw[decide_eq_false (show¬(0:Int)<(i:Int) by omega),iF,decide_eq_false h0,Bool.false_and,Bool.false_or,bS,eF (by decide)]
theorem aa1{m:ax}(hm:wj m):w9 m=some (fe (DT m) m.props.length 0):=by
 unfold w9;rw[jg (L:=jD m) (n:=m.props.length) (fin:=some 0) (c:=DT m) hm.props.1
  (fun k=>by rw[jD,wl,iF];rfl)
  (fun k i hi=>by
   obtain⟨z1,z2⟩:=hm.props.2 _ (gd hi);rw[jD,aS hi,iT,aB hi,bS,US _ z1,bS,eF (by decide)];unfold DT;rw[dK hi];simp only;rw[←bG];refine fG fun _=> ?_
   unfold tc;rw[aq hi hm.props.1];refine NO hm hi _ _ ?_;unfold tK;rw[A9 _ (ZL z2),bS];rfl)]
 exact eQ _
theorem aaQ{m:ax}(hm:wj m):wa m=some (fe (DT m) m.props.length 0):=by
 unfold wa;rw[jg (L:=iK m) (n:=m.props.length) (fin:=some 0) (c:=DT m) hm.props.1
  (fun k=>by rw[iK,wl,iF];rfl)
  (fun k i hi=>by
   obtain⟨z1,z2⟩:=hm.props.2 _ (gd hi);rw[iK,aS hi,iT,aB hi,bS,WA _ z1,bS,eF (by decide)];unfold DT;rw[dK hi];simp only;rw[←bG];refine fG fun _=> ?_
   unfold rq;rw[aq hi hm.props.1];refine NO hm hi _ _ ?_;unfold D6;rw[Mn _ (ZL z2),bS];rfl)]
 exact eQ _
theorem ac7{m:ax}(hm:wj m){i:Nat}(hi:i<m.refs.length)(r:lq):
  cE (List.take ((i:Int).toNat-(0:Int).toNat) (List.drop (0:Int).toNat m.refs)) r=some (aaG m r i,r):=by
 unfold cE eD;have hil:i≤m.refs.length:=by omega
 obtain⟨q,q1,q2⟩:=FX (z:=r) (L:=fun k j=>bc (List.take ((i:Int).toNat-(0:Int).toNat) (List.drop (0:Int).toNat m.refs)) k r.name r.branch r.snapshot j) (n:=i) (p:=fun q=>match m.refs[q]? with|some p=>decide (p.name=r.name) |none=>false) (by have:=hm.refs.1;omega)
  (fun k=>by rw[bc,Bs hil,wl,iF];rfl)
  (fun k j hj=>by
   have hjl:j<m.refs.length:=by omega
   rw[bc,Bs hil,aS hj,iT,MP hj hil,bS,Cs,bS,Td,aq hjl hm.refs.1,dK hjl])
 have q1:bc (List.take ((i:Int).toNat-(0:Int).toNat) (List.drop (0:Int).toNat m.refs)) aH r.name r.branch r.snapshot (0:Int)=some (q,r):=q1;rw[q1,bS];show some (decide (0≤q),r)=_;rw[q2];rfl
theorem SI{b:Bool}(br:Bool)(s:Int)(X:Option Int):ak (!b) (ak br (ak (!(s==0)) (some (9:Int)) X) (ak true (some 9) X)) (ak false (some 9) X)=ee (er (!b&& !(br&&s==0)) 9) X:=by
 cases b<;>cases br<;>cases(s==0)<;>rfl
theorem abt{m:ax}(hm:wj m):Cg m=some (qF (fe (QQ m) m.refs.length 0) (fe (DT m) m.props.length 0)):=by
 unfold Cg;rw[jg (L:=jB m) (n:=m.refs.length) (fin:=some (fe (DT m) m.props.length 0)) (c:=QQ m) hm.refs.1
  (fun k=>by rw[jB,wl,iF,aa1 hm])
  (fun k i hi=>by
   obtain⟨s,hs⟩:=aeX hm m.refs[i].snapshot;rw[jB,aS hi,iT,aB hi,bS,US _ (hm.refs.2 _ (gd hi)),bS,eF (by decide),gP ⟨by omega,by omega,by omega⟩,ac7 hm hi,bS];show ee _ (ak (aaG m m.refs[i] i) _ (am (rt m m.refs[i].snapshot) _))=_;rw[hs,bS,eF (by decide)];unfold QQ sY;rw[dK hi,aq hi hm.refs.1];simp only;rw[←bG,←bG,SI])]
 exact Aq _ _
theorem abj{m:ax}(hm:wj m)(ho:Zk m):o6 m=some (qF (fe (QQ m) m.refs.length 0) (fe (DT m) m.props.length 0)):=by
 unfold o6;rw[jg (L:=gU m) (n:=m.refs.length) (fin:=some (fe (DT m) m.props.length 0)) (c:=QQ m) hm.refs.1
  (fun k=>by rw[gU,wl,iF,aaQ hm])
  (fun k i hi=>by
   obtain⟨s,hs⟩:=aex hm ho m.refs[i].snapshot;rw[gU,aS hi,iT,aB hi,bS,WA _ (hm.refs.2 _ (gd hi)),bS,eF (by decide)];rw[s7 (L:=oa (gU m k) m (i:Int) m.refs[i]) (n:=i) (e:=some 5) (fin:=v8 (gU m k) m (i:Int) m.refs[i]) (p:=fun q=>match m.refs[q]? with|some p=>decide (p.name=m.refs[i].name) |none=>false) (by have:=hm.refs.1;omega)
    (fun q=>by rw[oa,wl,iF])
    (fun q j hj=>by
     have hjl:j<m.refs.length:=by omega
     rw[oa,aS hj,iT,aB hjl,bS,Td,aq hjl hm.refs.1,dK hjl])]
   unfold QQ v8 qW;rw[dK hi,aq hi hm.refs.1,hs,bS,eF (by decide)];simp only;rw[←bG,←bG,SI];rfl)]
 exact Aq _ _
def ovB(m:ax)(i:Nat):Bool:=match m.snapshots[i]? with|some s=>decide ((400:Int)<(s.files.length:Int))||decide ((400:Int)<(s.dby.length:Int)) |none=>false
def cnS(m:ax)(i:Nat):Int:=match m.snapshots[i]? with|some s=>i64.wrap ((s.files.length:Int)+(s.dby.length:Int)) |none=>0
def YA(m:ax):Nat→Nat→Bool
 |0,_=>false
 |d+1,i=>ovB m i||YA m d (i+1)
def XH(m:ax):Nat→Nat→Int→Int
 |0,_,x=>x
 |d+1,i,x=>XH m d (i+1) (i64.wrap (x+cnS m i))
theorem OX{m:ax}(hm:wj m):∀(d k i:Nat) (x:Int) (b:Bool),i+d=m.snapshots.length→d<k→hH m k x b (i:Int)=some (er (b||(YA m d i||decide (4000<XH m d i x))) 7)
 |0,k,i,x,b,hi,hk=>by
  obtain⟨k,rfl⟩:=fu hk;rw[hH,FE (by omega),iF];unfold xU tQ YA XH;cases b with
  |true=>rfl
  |false=>rw[iF];cases decide (4000<x)<;>rfl
 |d+1,k,i,x,b,hi,hk=>by
  obtain⟨k,rfl⟩:=fu hk;have h1:i<m.snapshots.length:=by omega
  rw[hH,aS h1,iT,aB h1,bS];unfold pR YA XH ovB cnS;rw[bS,aq h1 hm.snaps.1,dK h1];simp only;cases b with
  |true=>rw[iT,OX hm d k (i+1) _ true (by omega) (by omega)];rfl
  |false=>
   rw[iF];cases decide ((400:Int)<(m.snapshots[i].files.length:Int))with
   |true=>rw[iT,OX hm d k (i+1) _ true (by omega) (by omega)];rfl
   |false=>
    rw[iF,bS,OX hm d k (i+1) _ _ (by omega) (by omega)];cases decide ((400:Int)<(m.snapshots[i].dby.length:Int))<;>rfl
theorem Y5{m:ax}(hm:wj m):∀(d k i:Nat) (x:Int),i+d=m.snapshots.length→d<k→kJ m k x (i:Int)=some (YA m d i||decide (4000<XH m d i x))
 |0,k,i,x,hi,hk=>by
  obtain⟨k,rfl⟩:=fu hk;rw[kJ,FE (by omega),iF];rfl
 |d+1,k,i,x,hi,hk=>by
  obtain⟨k,rfl⟩:=fu hk;have h1:i<m.snapshots.length:=by omega
  rw[kJ,aS h1,iT,aB h1,bS];unfold w5 YA XH ovB cnS;rw[bS,aq h1 hm.snaps.1,dK h1];simp only;cases decide ((400:Int)<(m.snapshots[i].files.length:Int))with
  |true=>rfl
  |false=>
   rw[iF];cases decide ((400:Int)<(m.snapshots[i].dby.length:Int))with
   |true=>rfl
   |false=>rw[iF,Y5 hm d k (i+1) _ (by omega) (by omega)];rfl
theorem TU{m:ax}(hm:wj m):∃b,sC m=some (er b 7)∧Cx m=some b:=by
 have hc:∀x,j4 m x=some (er (x||(YA m m.snapshots.length 0||decide (4000<XH m m.snapshots.length 0 0))) 7):=fun x=>OX hm m.snapshots.length aH 0 0 x (by omega) (by rw[aF];have:=hm.snaps.1;omega)
 have hr:∀x,mr m x=some (x||(YA m m.snapshots.length 0||decide (4000<XH m m.snapshots.length 0 0))):=fun x=>by
  unfold mr;have:=Y5 hm m.snapshots.length aH 0 0 (by omega) (by rw[aF];have:=hm.snaps.1;omega);rw[show((0:Nat):Int)=0 from rfl]at this;rw[this];cases x<;>rfl
 unfold sC Cx;simp only[hc,hr];cases decide ((40:Int)<(m.schemas.length:Int))with
 |true=>exact⟨_,rfl,rfl⟩
 |false=>
  cases decide ((40:Int)<(m.specs.length:Int))with
  |true=>exact⟨_,rfl,rfl⟩
  |false=>
   cases decide ((200:Int)<(m.snapshots.length:Int))with
   |true=>exact⟨_,rfl,rfl⟩
   |false=>
    cases decide ((40:Int)<(m.refs.length:Int))with
    |true=>exact⟨_,rfl,rfl⟩
    |false=>exact⟨_,rfl,rfl⟩
def G7(n:Int)(l:List Int):Bool:=l.any fun x=>decide (n≤x)
theorem Wg(n:Int)(a b:List Int):G7 n (a++b)=(G7 n a||G7 n b):=by unfold G7;rw[List.any_append]
theorem aaJ(m:ax):∀(N k:Nat) (fs:List ae),dt fs≤N→N<k→dt fs<1000000000→bR k fs m.schemas m.specs m.nextField m.nextSeq m.nextSnap m.purges m.snapshots m.refs m.props=some (er (G7 m.nextField (fD fs)) 3):=by
 intro N;induction N with
 |zero=>
  intro k fs h hk _;obtain⟨k,rfl⟩:=fu hk;have hl:=bX fs;have:fs=[]:=List.eq_nil_of_length_eq_zero (by omega);subst this;rw[bR,Hl,cp];rfl
 |succ N ih=>
  intro k fs hN hk hs;obtain⟨k,rfl⟩:=fu hk;have hl:=bX fs;rw[bR];have loop:∀(d kk i:Nat),i+d=fs.length→d<kk→cp (bR k) fs m.schemas m.specs m.nextField m.nextSeq m.nextSnap m.purges m.snapshots m.refs m.props kk (i:Int)=some (er (G7 m.nextField (fD (fs.drop i))) 3):=by
   intro d;induction d with
   |zero=>
    intro kk i hi hk2;obtain⟨kk,rfl⟩:=fu hk2;rw[cp,FE (by omega),iF,List.drop_of_length_le (by omega)];rfl
   |succ d ihd=>
    intro kk i hi hk2;obtain⟨kk,rfl⟩:=fu hk2;have h1:i<fs.length:=by omega
    have m1:=io (gd h1);have m2:=gy fs[i];have m3:=pV fs[i].type;rw[cp,aS h1,iT,aB h1,bS,ih k _ (by omega) (by omega) (by omega),bS,aq h1 (by omega),ihd kk (i+1) (by omega) (by omega),E8 h1,Da];unfold vU;have hb:G7 m.nextField (fs[i].id::fD fs[i].type.fields++fD (fs.drop (i+1)))=(decide (m.nextField≤fs[i].id)||(G7 m.nextField (fD fs[i].type.fields)||G7 m.nextField (fD (fs.drop (i+1))))):=by
     rw[Wg];unfold G7;rw[List.any_cons,Bool.or_assoc]
    rw[hb];cases decide (m.nextField≤fs[i].id)with
    |true=>rfl
    |false=>
     rw[iF,bS];show ak false _ _=_;rw[iF];cases G7 m.nextField (fD fs[i].type.fields)<;>rfl
  have:=loop fs.length aH 0 (by omega) (by rw[aF];omega);rw[show((0:Nat):Int)=0 from rfl,List.drop_zero]at this;exact this
noncomputable def adE(p q:List ae):Int:=qF (sc p) (qF (sc q) ((bD aH p q).getD 0))
theorem ZB{p q:List ae}(hp:dt p<1000000000-1)(hq:dt q<1000000000-1):(∃r,qB p q=some (r,adE p q))∧∃r,tV p q=some (r,adE p q):=by
 obtain⟨e,e1,e2,_⟩:=Gs (dt q) aH aH p q (iO _) (by rw[aF];omega) (by rw[aF];omega) (by omega) (by omega);unfold qB tV qu sS adE;rw[VB hp,Wq hp,VB hq,Wq hq,e1,e2];simp only[bS];show(∃r,am (ak (sc p != 0) _ _) _=some (r,qF (sc p) (qF (sc q) e)))∧∃r,am (ak (sc p != 0) _ _) _=some (r,qF (sc p) (qF (sc q) e));by_cases h1:sc p=0
 ·rw[h1];show(∃r,ak (sc q != 0) _ _=some (r,qF (sc q) e))∧∃r,ak (sc q != 0) _ _=some (r,qF (sc q) e);by_cases h2:sc q=0
  ·rw[h2];show(∃r,ak (e != 0) _ _=some (r,e))∧∃r,ak (e != 0) _ _=some (r,e);by_cases h3:e=0
   ·subst h3;exact⟨⟨[],rfl⟩,⟨[],rfl⟩⟩
   ·rw[show(e != 0)=true by simp[h3]];exact⟨⟨[],rfl⟩,⟨[],rfl⟩⟩
  ·rw[show(sc q != 0)=true by simp[h2],Ql h2];exact⟨⟨[],rfl⟩,⟨[],rfl⟩⟩
 ·rw[show(sc p != 0)=true by simp[h1],Ql h1,iT,bS,bS,show(sc p != 0)=true by simp[h1]];exact⟨⟨[],rfl⟩,⟨[],rfl⟩⟩
noncomputable def adJ(m:ax)(l:List ae)(q:Nat):Int:=match m.schemas[q]? with|some o=>adE o l|none=>0
noncomputable def NQ(m:ax)(j:Nat):Int:=match m.schemas[j]? with
 |some l=>qF (sc l) (qF (er (G7 m.nextField (fD l)) 3) (fe (adJ m l) j 0))
 |none=>0
theorem acK{m:ax}(hm:wj m):xj m=some (fe (NQ m) m.schemas.length 0):=by
 unfold xj;rw[jg (L:=fq m) (n:=m.schemas.length) (fin:=some 0) (c:=NQ m) hm.schemas.1
  (fun k=>by rw[fq,wl,iF];rfl)
  (fun k i hi=>by
   have hs:=hm.schemas.2 _ (gd hi);have hil:i≤m.schemas.length:=by omega
   rw[fq,aS hi,iT,aB hi,bS,VB hs,bS,js,aaJ m _ aH _ (iO _) (by rw[aF];omega) (by omega),bS,js,gP ⟨by omega,by omega,by omega⟩];rw[jg (L:=kG (fq m k) m (i:Int) m.schemas[i]) (n:=i) (fin:=fq m k ((i+1:Nat):Int)) (c:=adJ m m.schemas[i]) (by have:=hm.schemas.1;omega)
    (fun q=>by
     rw[kG,bS,Bs hil,wl,iF];unfold wO;rw[aq hi hm.schemas.1])
    (fun q x hx=>by
     have hxl:x<m.schemas.length:=by omega
     obtain⟨⟨r,hr⟩,_⟩:=ZB (hm.schemas.2 _ (gd hxl)) hs;rw[kG,bS,Bs hil,aS hx,iT,MP hx hil,bS,hr,bS];show ak (adE m.schemas[x] m.schemas[i] != 0) _ _=_;rw[js,aq hxl hm.schemas.1];unfold adJ;rw[dK hxl])]
   unfold NQ;rw[dK hi];simp only;rw[←bG,←bG])]
 exact eQ _
theorem acD{m:ax}(hm:wj m):eu m aH (0:Int)=ee (fe (NQ m) m.schemas.length 0) (xn m):=
 jg (L:=eu m) (n:=m.schemas.length) (c:=NQ m) hm.schemas.1
  (fun k=>by rw[eu,wl,iF])
  (fun k i hi=>by
   have hs:=hm.schemas.2 _ (gd hi);have hids:=BD m.schemas[i];rw[eu,aS hi,iT,aB hi,bS,Wq hs,bS,js,VE _ aH _ (iO _) (by rw[aF];omega) (by omega),bS];rw[s7 (L:=oe (eu m k) m (i:Int) m.schemas[i] (fD m.schemas[i])) (n:=(fD m.schemas[i]).length) (e:=some 3) (fin:=xi (eu m k) m (i:Int) m.schemas[i]) (p:=fun j=>match(fD m.schemas[i])[j]? with|some x=>decide (m.nextField≤x) |none=>false) (by omega)
    (fun q=>by rw[oe,wl,iF])
    (fun q j hj=>by rw[oe,aS hj,iT,aB hj,bS,aq hj (by omega),dK hj])]
   have hb:lu (fun j=>match(fD m.schemas[i])[j]? with|some x=>decide (m.nextField≤x) |none=>false) (fD m.schemas[i]).length=G7 m.nextField (fD m.schemas[i]):=by
    refine lm ?_;unfold G7;rw[dO,List.any_eq_true];constructor
    ·rintro⟨j,hj,h⟩;rw[dK hj]at h;exact⟨_,gd hj,h⟩
    ·rintro⟨x,hx,h⟩;obtain⟨j,hj,rfl⟩:=NA.1 hx;exact⟨j,hj,by rw[dK hj];exact h⟩
   rw[hb,eF (by decide)];unfold xi;rw[jg (L:=oq (eu m k) m (i:Int) m.schemas[i]) (n:=i) (fin:=eu m k ((i+1:Nat):Int)) (c:=adJ m m.schemas[i]) (by have:=hm.schemas.1;omega)
    (fun q=>by
     rw[oq,wl,iF];unfold Bc;rw[aq hi hm.schemas.1])
    (fun q x hx=>by
     have hxl:x<m.schemas.length:=by omega
     obtain⟨_,⟨r,hr⟩⟩:=ZB (hm.schemas.2 _ (gd hxl)) hs;rw[oq,aS hx,iT,aB hxl,bS,hr,bS];show ak (adE m.schemas[x] m.schemas[i] != 0) _ _=_;rw[js,aq hxl hm.schemas.1];unfold adJ;rw[dK hxl])]
   unfold NQ;rw[dK hi];simp only;rw[←bG,←bG])
def Ni(m:ax)(sp:cg)(d:Nat):Bool:=match m.schemas[d]? with|some fs=> !lu (uu fs sp) sp.fields.length|none=>false
def yp(m:ax)(sp:cg):Nat→Int
 |0=> -1
 |d+1=>if Ni m sp d then(d:Int)else yp m sp d
theorem H8(m:ax)(sp:cg):∀d,-1≤yp m sp d∧yp m sp d<d
 |0=>by simp[yp]
 |d+1=>by
  unfold yp;have:=H8 m sp d;split<;>constructor<;>omega
noncomputable def suE(sp:cg)(fs:List ae):Int:=(ux sp fs).getD 0
noncomputable def spE(m:ax)(j:Nat):Int:=match m.specs[j]? with
 |some sp=>qF (er (decide (yp m sp m.schemas.length<0)||(decide (j+1=m.specs.length)&&decide (yp m sp m.schemas.length<(m.schemas.length:Int)-1))) 9)
  (match m.schemas[(yp m sp m.schemas.length).toNat]? with|some fs=>suE sp fs|none=>0)
 |none=>0
theorem acI{m:ax}(hm:wj m){sp:cg}(hsp:sp.fields.length<1000000000){d:Nat}(hd:d<m.schemas.length):
  bI sp.fields m.schemas m.specs m.nextField m.nextSeq m.nextSnap m.purges m.snapshots m.refs m.props (d:Int)=some (!Ni m sp d,(d:Int)):=by
 have hfs:=hm.schemas.2 _ (gd hd);have hn:m.schemas[d].length<1000000000:=by have:=bX m.schemas[d];omega
 unfold bI cO;obtain⟨r,r1,r2⟩:=FX (z:=(d:Int)) (L:=fun k i=>aO sp.fields m.schemas m.specs m.nextField m.nextSeq m.nextSnap m.purges m.snapshots m.refs m.props k (d:Int) i) (n:=sp.fields.length) (p:=uu m.schemas[d] sp) hsp
  (fun k=>by rw[aO,wl,iF];rfl)
  (fun k i hi=>by
   obtain⟨t1,_,t3,_⟩:=zD hn sp.fields[i].source;rw[aO,aS hi,iT,aB hi,bS];unfold xY;rw[aB hd,bS,t1,bS,bS,t3,aq hi hsp];unfold uu;rw[dK hi])
 have r1:aO sp.fields m.schemas m.specs m.nextField m.nextSeq m.nextSnap m.purges m.snapshots m.refs m.props aH (d:Int) (0:Int)=some (r,(d:Int)):=r1;rw[r1,bS];show some (decide (0≤r),(d:Int))=_;rw[r2];unfold Ni;rw[dK hd,Bool.not_not]
theorem Vs{m:ax}(hm:wj m){sp:cg}(hsp:sp.fields.length<1000000000)(rec1:Int→Option Int)(x1:Int):∀(d k:Nat),d≤m.schemas.length→d<k→iQ rec1 m x1 sp k ((d:Int)-1)=rr rec1 m x1 sp (yp m sp d)
 |0,k,hd,hk=>by
  obtain⟨k,rfl⟩:=fu hk;rw[iQ];show ak (decide ((0:Int)≤-1)) _ _=_;rw[decide_eq_false (by decide),iF];rfl
 |d+1,k,hd,hk=>by
  obtain⟨k,rfl⟩:=fu hk;have h1:d<m.schemas.length:=by omega
  rw[iQ,show(((d+1:Nat):Int)-1)=(d:Int) by omega,decide_eq_true (show(0:Int)≤(d:Int) by omega),iT,acI hm hsp h1,bS];unfold u7 yp;show ak (!Ni m sp d) (iQ rec1 m x1 sp k (i64.wrap ((d:Int)-1))) (rr rec1 m x1 sp (d:Int))=_;cases Ni m sp d with
  |true=>rfl
  |false=>
   rw[Bool.not_false,iT,j9 (by have:=hm.schemas.1;omega) (by have:=hm.schemas.1;omega),Vs hm hsp rec1 x1 d k (by omega) (by omega)];rfl
theorem Y9{m:ax}(hm:wj m){sp:cg}(hsp:sp.fields.length<1000000000){fs:List ae}(hfs:fs∈m.schemas):ux sp fs=some (suE sp fs)∧rL sp fs=some (suE sp fs):=by
 have:=hm.schemas.2 _ hfs;obtain⟨c,h1,h2,_⟩:=Pv sp hsp (fs:=fs) (by omega);unfold suE;rw[h1,h2];exact⟨rfl,rfl⟩
theorem Z9{m:ax}(hm:wj m):AE m=some (fe (spE m) m.specs.length 0):=by
 unfold AE;rw[jg (L:=eO m) (n:=m.specs.length) (fin:=some 0) (c:=spE m) hm.specs.1
  (fun k=>by rw[eO,wl,iF];rfl)
  (fun k i hi=>by
   have hsp:=hm.specs.2 _ (gd hi);obtain⟨l1,l2⟩:=H8 m m.specs[i] m.schemas.length;rw[eO,aS hi,iT,aB hi,bS,mz hm.schemas.1,Vs hm hsp _ _ m.schemas.length aH (iO _) (by rw[aF];have:=hm.schemas.1;omega)];unfold spE;rw[dK hi];simp only;generalize hK:yp m m.specs[i] m.schemas.length=K at l1 l2;have hj:∀x,x=(decide (K<0)||(decide (i+1=m.specs.length)&&decide (K<(m.schemas.length:Int)-1)))→oU (eO m k) m (i:Int) m.specs[i] K x=
     ee (qF (er (decide (K<0)||(decide (i+1=m.specs.length)&&decide (K<(m.schemas.length:Int)-1))) 9) (match m.schemas[K.toNat]? with|some fs=>suE m.specs[i] fs|none=>0)) (eO m k ((i+1:Nat):Int)):=by
    rintro x rfl;unfold oU;rw[eF (by decide),←bG];refine fG fun e=> ?_
    have e:=(Hh (by decide)).1 e;rw[Bool.or_eq_false_iff,decide_eq_false_iff_not]at e;obtain⟨h1,h2,h3⟩:=Dc (l:=m.schemas) (x:=K) (by omega) (by omega);rw[h2,h3,bS,(Y9 hm hsp (gd h1)).1,bS,js,aq hi hm.specs.1]
   generalize hB:(decide (K<0)||(decide (i+1=m.specs.length)&&decide (K<(m.schemas.length:Int)-1)))=B at hj⊢;unfold rr;by_cases h0:K<0
   ·rw[decide_eq_true h0,iT];exact hj true (by rw[←hB,decide_eq_true h0];rfl)
   ·rw[decide_eq_false h0,iF,mz hm.specs.1];by_cases hl:i+1=m.specs.length
    ·rw[show((i:Int)==(m.specs.length:Int)-1)=true from beq_iff_eq.2 (by omega),iT,mz hm.schemas.1,bS];exact hj _ (by rw[←hB,decide_eq_false h0,decide_eq_true hl];rfl)
    ·rw[show((i:Int)==(m.specs.length:Int)-1)=false from beq_eq_false_iff_ne.2 (by omega),iF];exact hj false (by rw[←hB,decide_eq_false h0,decide_eq_false hl];rfl))]
 exact eQ _
theorem ace{m:ax}(hm:wj m){sp:cg}(hsp:sp.fields.length<1000000000)(rec2:Int→Int→Option Int)(x2:Int){d:Nat}(hd:d<m.schemas.length):
  dX rec2 m sp x2 (d:Int) aH true (0:Int)=mY rec2 x2 (d:Int) (Ni m sp d):=by
 have hfs:=hm.schemas.2 _ (gd hd);have hn:m.schemas[d].length<1000000000:=by have:=bX m.schemas[d];omega
 have key:∀(q k i:Nat) (b:Bool),i+q=sp.fields.length→q<k→dX rec2 m sp x2 (d:Int) k b (i:Int)=mY rec2 x2 (d:Int) (b&& !decide (∃j,j<q∧uu m.schemas[d] sp (i+j)=true)):=by
  intro q;induction q with
  |zero=>
   intro k i b hi hk;obtain⟨k,rfl⟩:=fu hk;rw[dX,FE (by omega),iF];simp
  |succ q ih=>
   intro k i b hi hk;obtain⟨k,rfl⟩:=fu hk;have h1:i<sp.fields.length:=by omega
   obtain⟨_,t2,_,_⟩:=zD hn sp.fields[i].source;rw[dX,aS h1,iT,aB h1,bS,aB hd,bS,t2,bS];unfold pB;rw[aq h1 hsp];have hl:uu m.schemas[d] sp i= !Hc m.schemas[d] sp.fields[i].source:=by unfold uu;rw[dK h1]
   have hx:(!decide (∃j,j<q+1∧uu m.schemas[d] sp (i+j)=true))=(Hc m.schemas[d] sp.fields[i].source&& !decide (∃j,j<q∧uu m.schemas[d] sp (i+1+j)=true)):=by
    refine lm ?_;rw[iu,Bool.not_eq_true',Bool.not_eq_true',decide_eq_false_iff_not,decide_eq_false_iff_not];constructor
    ·intro h;refine⟨?_,fun⟨j,a,b⟩=>h ⟨j+1,by omega,by rw[←b];congr 1;omega⟩⟩;cases hb:Hc m.schemas[d] sp.fields[i].source with
     |true=>rfl
     |false=>exact absurd ⟨0,by omega,by rw[Nat.add_zero,hl,hb];rfl⟩ h
    ·rintro⟨h1,h2⟩ ⟨j,a,b⟩;cases j with
     |zero=>rw[Nat.add_zero,hl,h1]at b;cases b
     |succ j=>exact h2 ⟨j,by omega,by rw[←b];congr 1;omega⟩
   rw[hx];cases b with
   |true=>
    rw[iT];show dX rec2 m sp x2 (d:Int) k (Hc m.schemas[d] sp.fields[i].source) ((i+1:Nat):Int)=_;rw[ih k (i+1) _ (by omega) (by omega),Bool.true_and]
   |false=>rw[iF,ih k (i+1) _ (by omega) (by omega),Bool.false_and,Bool.false_and]
 have:=key sp.fields.length aH 0 true (by omega) (by rw[aF];omega);rw[show((0:Nat):Int)=0 from rfl]at this;rw[this,Bool.true_and];congr 1;unfold Ni;rw[dK hd];congr 1;refine lm ?_;rw[decide_eq_true_iff,dO];simp
theorem adr{m:ax}(hm:wj m){sp:cg}(hsp:sp.fields.length<1000000000)(rec1:Int→Option Int)(x1:Int):∀(d k i:Nat),i+d=m.schemas.length→d<k→dE rec1 m x1 sp k (yp m sp i) (i:Int)=pG rec1 m x1 sp (yp m sp m.schemas.length)
 |0,k,i,hi,hk=>by
  obtain⟨k,rfl⟩:=fu hk;have:i=m.schemas.length:=by omega
  rw[dE,FE (by omega),iF,this]
 |d+1,k,i,hi,hk=>by
  obtain⟨k,rfl⟩:=fu hk;have h1:i<m.schemas.length:=by omega
  rw[dE,aS h1,iT,ace hm hsp _ _ h1];unfold mY pC;rw[aq h1 hm.schemas.1,←adr hm hsp rec1 x1 d k (i+1) (by omega) (by omega)];rw[show yp m sp (i+1)=if Ni m sp i then(i:Int)else yp m sp i from rfl];cases Ni m sp i<;>rfl
theorem aa0{m:ax}(hm:wj m):tP m=some (fe (spE m) m.specs.length 0):=by
 unfold tP;rw[jg (L:=bP m) (n:=m.specs.length) (fin:=some 0) (c:=spE m) hm.specs.1
  (fun k=>by rw[bP,wl,iF];rfl)
  (fun k i hi=>by
   have hsp:=hm.specs.2 _ (gd hi);obtain⟨l1,l2⟩:=H8 m m.specs[i] m.schemas.length;have hu:=adr hm hsp (bP m k) (i:Int) m.schemas.length aH 0 (by omega) (by rw[aF];have:=hm.schemas.1;omega);have hu:dE (bP m k) m (i:Int) m.specs[i] aH (-1:Int) (0:Int)=_:=hu;rw[bP,aS hi,iT,aB hi,bS,hu];unfold spE;rw[dK hi];simp only;generalize hK:yp m m.specs[i] m.schemas.length=K at l1 l2;have hj:∀x,x=(decide (K<0)||(decide (i+1=m.specs.length)&&decide (K<(m.schemas.length:Int)-1)))→kF (bP m k) m (i:Int) m.specs[i] K x=
     ee (qF (er (decide (K<0)||(decide (i+1=m.specs.length)&&decide (K<(m.schemas.length:Int)-1))) 9) (match m.schemas[K.toNat]? with|some fs=>suE m.specs[i] fs|none=>0)) (bP m k ((i+1:Nat):Int)):=by
    rintro x rfl;unfold kF;rw[eF (by decide),←bG];refine fG fun e=> ?_
    have e:=(Hh (by decide)).1 e;rw[Bool.or_eq_false_iff,decide_eq_false_iff_not]at e;obtain⟨h1,h2,h3⟩:=Dc (l:=m.schemas) (x:=K) (by omega) (by omega);rw[h2,h3,bS,(Y9 hm hsp (gd h1)).2,bS,js,aq hi hm.specs.1]
   generalize hB:(decide (K<0)||(decide (i+1=m.specs.length)&&decide (K<(m.schemas.length:Int)-1)))=B at hj⊢;unfold pG;by_cases h0:K<0
   ·rw[decide_eq_true h0,iT];exact hj true (by rw[←hB,decide_eq_true h0];rfl)
   ·rw[decide_eq_false h0,iF,mz hm.specs.1];by_cases hl:i+1=m.specs.length
    ·rw[show((i:Int)==(m.specs.length:Int)-1)=true from beq_iff_eq.2 (by omega),iT,mz hm.schemas.1];refine hj _ ?_;rw[←hB,decide_eq_false h0,decide_eq_true hl,Bool.true_and,Bool.false_or];refine lm ?_;rw[bne_iff_ne,decide_eq_true_iff];omega
    ·rw[show((i:Int)==(m.specs.length:Int)-1)=false from beq_eq_false_iff_ne.2 (by omega),iF];exact hj false (by rw[←hB,decide_eq_false h0,decide_eq_false hl];rfl))]
 exact eQ _
noncomputable def HI(m:ax):Int:=qF (fe (NQ m) m.schemas.length 0) (qF (fe (spE m) m.specs.length 0) (qF (fe (Zj m) m.snapshots.length 0) (qF (alE m) (qF (fe (QQ m) m.refs.length 0) (fe (DT m) m.props.length 0)))))
theorem acP{m:ax}(hm:wj m)(x:Bool):mX m x=some (qF (er x 3) (HI m)):=by
 unfold mX HI;rw[eF (by decide),acK hm,bS,js,Z9 hm,bS,js,aal hm,bS,js];refine Eq.trans ?_ (eQ _);rw[←bG,←bG,←bG,←bG];refine fG fun _=>fG fun _=>fG fun _=>fG fun e=> ?_
 rw[UX hm (M5 hm e),bS,js,abt hm,bS,js,bG]
theorem aeJ{m:ax}(hm:wj m)(x:Bool):om m x=some (qF (er x 3) (HI m)):=by
 unfold om HI;rw[eF (by decide),acD hm];unfold xn;rw[aa0 hm,bS,js,abk hm];refine Eq.trans ?_ (eQ _);rw[←bG,←bG,←bG,←bG];refine fG fun _=>fG fun _=>fG fun _=>fG fun e=> ?_
 rw[YN hm (M5 hm e),abj hm (M5 hm e),eQ];exact Aq _ _
theorem ZG{m:ax}(hm:wj m)(x:Bool):∃e,nh m x=some e∧tC m x=some e:=by
 unfold nh tC;simp only[lA,qO,acP hm,aeJ hm,bS];cases x with
 |true=>exact⟨9,rfl,rfl⟩
 |false=>
  cases decide (1≤m.nextField∧m.nextField≤1099511627776)with
  |false=>exact⟨_,rfl,rfl⟩
  |true=>
   cases decide (1≤m.nextSeq∧m.nextSeq≤1099511627776)with
   |false=>exact⟨_,rfl,rfl⟩
   |true=>
    cases decide (1≤m.nextSnap∧m.nextSnap≤1099511627776)with
    |false=>exact⟨_,rfl,rfl⟩
    |true=>exact⟨_,rfl,rfl⟩
theorem To{m:ax}(hm:wj m):∃e,nV m=some e∧zW m=some e:=by
 obtain⟨b,h1,h2⟩:=TU hm;unfold nV zW;rw[h1,h2,bS,bS];cases b with
 |true=>exact⟨7,rfl,rfl⟩
 |false=>
  show∃e,ak false _ _=_∧ak false _ _=_;rw[iF,iF];cases((m.schemas.length:Int)==0)with
  |true=>exact ZG hm true
  |false=>exact ZG hm _
theorem O8:DP=some true:=by decide+kernel
theorem acA{m:ax}(hm:wj m)(x:Bool):∃e,nh m x=some e∧(e=0→HI m=0):=by
 unfold nh;simp only[lA,acP hm,bS];cases x with
 |true=>exact⟨9,rfl,fun h=>absurd h (by decide)⟩
 |false=>
  cases decide (1≤m.nextField∧m.nextField≤1099511627776)with
  |false=>exact⟨_,rfl,fun h=>(sM.1 h).2⟩
  |true=>
   cases decide (1≤m.nextSeq∧m.nextSeq≤1099511627776)with
   |false=>exact⟨_,rfl,fun h=>(sM.1 h).2⟩
   |true=>
    cases decide (1≤m.nextSnap∧m.nextSnap≤1099511627776)with
    |false=>exact⟨_,rfl,fun h=>(sM.1 h).2⟩
    |true=>exact⟨_,rfl,fun h=>(sM.1 h).2⟩
theorem Wy{m:ax}(hm:wj m):∃b,sC m=some (er b 7):=by
 have hc:∀x,j4 m x=some (er (x||(YA m m.snapshots.length 0||decide (4000<XH m m.snapshots.length 0 0))) 7):=fun x=>OX hm m.snapshots.length aH 0 0 x (by omega) (by rw[aF];have:=hm.snaps.1;omega)
 unfold sC;simp only[hc];cases decide ((40:Int)<(m.schemas.length:Int))with
 |true=>exact⟨_,rfl⟩
 |false=>
  cases decide ((40:Int)<(m.specs.length:Int))with
  |true=>exact⟨_,rfl⟩
  |false=>
   cases decide ((200:Int)<(m.snapshots.length:Int))with
   |true=>exact⟨_,rfl⟩
   |false=>
    cases decide ((40:Int)<(m.refs.length:Int))with
    |true=>exact⟨_,rfl⟩
    |false=>exact⟨_,rfl⟩
theorem X0{m:ax}(hm:wj m):∃e,nV m=some e∧(e=0→HI m=0):=by
 obtain⟨b,h1⟩:=Wy hm;unfold nV;rw[h1,bS];cases b with
 |true=>exact⟨7,rfl,fun h=>absurd h (by decide)⟩
 |false=>
  show∃e,ak false _ _=_∧_;rw[iF];cases((m.schemas.length:Int)==0)with
  |true=>exact acA hm true
  |false=>exact acA hm _
theorem Id{m:ax}(hm:wj m)(h:HI m=0):∀fs∈m.schemas,sc fs=0:=by
 unfold HI at h;simp only[sM]at h;intro fs hfs;obtain⟨i,hi,rfl⟩:=NA.1 hfs;have h1:=Xh.1 h.1 i (Nat.zero_le _) (by omega);unfold NQ at h1;rw[dK hi]at h1;simp only[sM]at h1;exact h1.1
theorem QD{m:ax}(hm:wj m):∃e,nV m=some e∧zW m=some e∧(e=0→HI m=0):=by
 obtain⟨e,h1,h2⟩:=To hm;obtain⟨e',k1,k2⟩:=X0 hm;rw[h1]at k1;cases k1;exact⟨e,h1,h2,k2⟩
end Go.Proofs.YtpiohnabdhpphaaGreatDoor
namespace Go.Proofs.YtpiohnabdhpphaaGreatDoor
open Go Go.SX Go.SX.Cal Go.Lib
open Go.IntKind (i64)
theorem wu(x:Int):IntKind.u64.wrap x=x%18446744073709551616:=rfl
theorem yZ{v:ac}(h:v.items=[]):qt v=df v:=by
 unfold qt kd;have hc:¬256<Ia v 0:=by unfold Ia;split<;>omega
 cases hp:df v
 ·rw[if_pos (.inr rfl)]
 ·rw[if_neg (by simp[hc]),h];rfl
theorem Ow:∀v:ac,ac.mk v.kind v.n v.scale v.s v.items=v
 |⟨_,_,_,_,_⟩=>rfl
theorem Wj{s:ByteArray}(h:s.size=0):s=ByteArray.empty:=ByteArray.size_eq_zero_iff.1 h
theorem Bw{v:ac}(h:df v=true)(hk:v.kind=1∨v.kind=2∨v.kind=3):v.s=ByteArray.empty∧v.items=[]∧-999999999999999999≤v.n∧v.n≤999999999999999999:=by
 refine⟨?_,pc h (by omega) (by omega),?_⟩
 ·unfold df at h;rcases hk with hk|hk|hk<;>simp[hk]at h
  ·exact h.2.2.1
  ·exact h.2.2.1
  ·exact h.2.2.1
 ·unfold df at h;rcases hk with hk|hk|hk<;>simp[hk]at h<;>omega
theorem wA{k n s:Int}:bE ⟨k,n,s,ByteArray.empty,[]⟩<1000000000:=by
 rw[qS];simp only[cN,Cr];omega
theorem Uz{k n sc:Int}(h: -999999999999999999≤n∧n≤999999999999999999)(hp:df ⟨k,n,sc,ByteArray.empty,[]⟩=true):
  (am (nG n) fun r2=>am (qY (bw.mk r2.neg (r2.size.1,r2.size.2.1,r2.size.2.2.1,r2.size.2.2.2)) sc sc) fun r3=>
   am (Ai k (bw.mk r3.neg (r3.size.1,r3.size.2.1,r3.size.2.2.1,r3.size.2.2.2)) sc) fun r4=>some r4)=some ⟨k,n,sc,ByteArray.empty,[]⟩:=by
 have hs:∀(b:Bool) (a:Int),qY (bw.mk b (a,0,0,0)) sc sc=some (bw.mk b (a,0,0,0)):=by
  intro b a;unfold qY je;rw[decide_eq_true (Int.le_refl _),pI,Int.sub_self,show i64.wrap 0=0 from rfl,xG,de,decide_eq_false (by omega),iq];rfl
 have hm:∀(b:Bool) (a:Int),0≤a→a≤999999999999999999→(if b=true then -a else a)=n→Ai k (bw.mk b (a,0,0,0)) sc=some ⟨k,n,sc,ByteArray.empty,[]⟩:=by
  intro b a h0 h1 he;have hnum:qz (bw.mk b (a,0,0,0))=some (n,true):=by
   unfold qz n7;simp only[fY];rw[show(IntKind.u64.wrap ((BitVec.ofInt IntKind.u64.bits 0 ||| BitVec.ofInt IntKind.u64.bits 0).toNat:Int))=0 from by decide,show(IntKind.u64.wrap ((BitVec.ofInt IntKind.u64.bits 0 ||| BitVec.ofInt IntKind.u64.bits 0).toNat:Int) != 0)=false from by decide,iq,decide_eq_false (by omega),iq,j9 (x:=a) (by omega) (by omega),j9 (by omega) (by omega)];cases b
   ·rw[iq,←he];rfl
   ·rw[pI,←he,Int.zero_sub];rfl
  unfold Ai xk;rw[hnum,fY];simp only[Bool.not_true,iq];rw[A9 _ wA,fY,yZ rfl,hp];rfl
 unfold nG;by_cases h0:n<0
 ·rw[decide_eq_true h0,pI,fY];simp only;rw[hs,fY];simp only;rw[hm _ _ (by rw[wu,wu];omega) (by rw[wu,wu];omega) (by rw[if_pos rfl,wu,wu];omega),fY]
 ·rw[decide_eq_false h0,iq,fY];simp only;rw[hs,fY];simp only;rw[hm _ _ (by rw[wu];omega) (by rw[wu];omega) (by rw[if_neg (by decide),wu];omega),fY]
theorem Gy{v:ac}{u:al}(h:df v=true)(hk:v.kind=1∨v.kind=2∨v.kind=3)(hu:u.kind=2∨u.kind=3)(hne:v.kind≠u.kind∨u.kind=3)(hsc:v.scale=u.scale)
  (hp:df ⟨u.kind,v.n,v.scale,ByteArray.empty,[]⟩=true):qR v u=some ⟨u.kind,v.n,v.scale,ByteArray.empty,[]⟩:=by
 obtain⟨_,_,hn⟩:=Bw h hk;have hj2:qk v u false=some ⟨u.kind,v.n,v.scale,ByteArray.empty,[]⟩:=by
  unfold qk w7;rw[iq,show(u.kind==4)=false by simp;omega,iq,show(v.kind==4)=false by simp;omega,iq,show(u.kind==1)=false by simp;omega,iq,iq,←hsc];exact Uz hn hp
 unfold qR tB;rw[show(v.kind==0)=false by simp;omega,iq,show(v.kind==6)=false by simp;omega,iq,show(v.kind==7)=false by simp;omega,iq];by_cases he:v.kind=u.kind
 ·rw[show(v.kind==u.kind)=true by simp[he],pI,show(u.kind != 3)=false by simp;omega,hj2]
 ·rw[show(v.kind==u.kind)=false by simp[he],iq,hj2]
theorem I5{v r:ac}{u:al}(hv:bE v<1000000000)(hr:bE r<1000000000)(h:qR v u=some r)(hi:v.items=[])(hk7:v.kind≠7)(hp:df v=true)(ht:dk u=some 0)(hc:D8 v.kind u.kind=some true)(hri:r.items=[])(hrp:df r=true):
  lK v u=some r:=by
 have hcv:fm aH v u=some true:=by
  rw[xG,fm];by_cases h0:v.kind=0
  ·rw[show(v.kind==0)=true by simp[h0],pI]
  ·rw[show(v.kind==0)=false by simp[h0],iq,hc,fY,Bool.not_true,iq,show(v.kind==7)=false by simp[hk7],iq];unfold nX;rw[iq,xG,n8,hi];rfl
 unfold lK qg;rw[A9 v hv,fY,yZ hi,hp,Bool.not_true,iq,ht,fY,bne_self_eq_false,iq,hcv,fY,Bool.not_true,iq,h,fY,A9 r hr,fY,yZ hri,hrp,Bool.not_true,iq]
def Ep(v:ac)(u:al):ac:=⟨u.kind,v.n,v.scale,v.s,v.items⟩
theorem S7:dk ⟨2,0,[]⟩=some 0:=by
 unfold dk;rw[xG];rfl
theorem WM{k:Int}(h:1≤k∧k≤5):D8 k k=some true:=by
 have:k=1∨k=2∨k=3∨k=4∨k=5:=by omega
 rcases this with rfl|rfl|rfl|rfl|rfl<;>rfl
theorem YD{v:ac}(h:df v=true)(h0:v.kind≠0)(h6:v.kind≠6)(h7:v.kind≠7):1≤v.kind∧v.kind≤5:=by
 unfold df at h;simp only at h;by_cases h1:v.kind=1
 ·omega
 by_cases h2:v.kind=2
 ·omega
 by_cases h3:v.kind=3
 ·omega
 by_cases h4:v.kind=4
 ·omega
 by_cases h5:v.kind=5
 ·omega
 rw[if_neg h0,if_neg h1,if_neg h2,if_neg h3,if_neg h4,if_neg h5,if_neg h6,if_neg h7]at h;cases h
theorem H5{v:ac}{u:al}(hp:df v=true)(hs:v.kind=1∨v.kind=2)(hu:u.kind=2∨u.kind=3):df ⟨u.kind,v.n,v.scale,ByteArray.empty,[]⟩=true:=by
 obtain⟨_,_,h1,h2⟩:=Bw hp (by omega);have h3:=Am hp (by omega);unfold df;rcases hu with hu|hu<;>simp[hu,h3,h1,h2]
theorem Q0{v:ac}{u:al}(hs:v.s=ByteArray.empty)(hi:v.items=[]):Ep v u=⟨u.kind,v.n,v.scale,ByteArray.empty,[]⟩:=by
 unfold Ep;rw[hs,hi]
theorem PM{v:ac}{t u:al}(hv:bE v<1000000000)(hp:df v=true)(h0:v.kind≠0)(h6:v.kind≠6)(h7:v.kind≠7)(hk:v.kind=t.kind)(h3:v.kind=3→v.scale=t.scale)(hw:Wd t u)(hV:V u)(hc:dk u=some 0):
  iP v u=some (Ep v u)∧df (Ep v u)=true:=by
 have hkl:=YD hp h0 h6 h7;have hi:=pc hp h6 h7;have hcast:∀w,lK v u=some w→(v.kind=1∧u.kind=3→False)→iP v u=some w:=by
  intro w hw hn;unfold iP mJ mw;have hx:ac.mk v.kind v.n v.scale v.s v.items=v:=Ow v;by_cases h1:v.kind=1
  ·rw[show(v.kind==1)=true by simp[h1],pI,show(u.kind==3)=false by simp;intro h;exact hn ⟨h1,h⟩,iq,hx,hw,fY]
  ·rw[show(v.kind==1)=false by simp[h1],iq,iq,hx,hw,fY]
 have hnum:(v.kind=1∧u.kind=2)∨(v.kind=2∧u.kind=3∧u.scale=0)→lK v u=some (Ep v u)∧df (Ep v u)=true:=by
  intro h;have hs:v.scale=u.scale:=by
   rw[Am hp (by omega)];rcases h with h|h
   ·rw[hV.scale (by omega)]
   ·exact h.2.2.symm
  obtain⟨ha,hb,_⟩:=Bw hp (by omega);have hpp:=H5 (u:=u) hp (by omega) (by omega);rw[Q0 ha hb];refine⟨I5 hv wA (Gy hp (by omega) (by omega) (by omega) hs hpp) hb h7 hp hc ?_ rfl hpp,hpp⟩;rcases h with⟨h,h'⟩ |⟨h,h',_⟩<;>rw[h,h']<;>rfl
 rcases hw with⟨hw,hw2⟩ |⟨hw,hw2⟩ |⟨hw,hw2,hw3⟩
 ·have hke:v.kind=u.kind:=by omega
  have he:Ep v u=v:=by unfold Ep;rw[←hke];exact Ow v
  rw[he];refine⟨hcast v ?_ (by omega),hp⟩;refine I5 hv hv ?_ hi h7 hp hc (by rw[←hke];exact WM hkl) hi hp;by_cases hk3:u.kind=3
  ·obtain⟨ha,hb,_⟩:=Bw hp (by omega);have hx:(⟨u.kind,v.n,v.scale,ByteArray.empty,[]⟩:ac)=v:=by rw[←Q0 ha hb,he]
   rw[Gy (u:=u) hp (by omega) (by omega) (by omega) (by rw[h3 (by omega)];exact hw2) (by rw[hx];exact hp),hx]
  ·unfold qR tB qk;rw[show(v.kind==0)=false by simp[h0],iq,show(v.kind==6)=false by simp[h6],iq,show(v.kind==7)=false by simp[h7],iq,show(v.kind==u.kind)=true by simp[hke],pI,show(u.kind != 3)=true by simp[hk3],pI]
 ·obtain⟨a,b⟩:=hnum (.inl ⟨by omega,hw2⟩);exact⟨hcast _ a (by omega),b⟩
 ·by_cases h1:v.kind=1
  ·obtain⟨ha,hb,_⟩:=Bw hp (by omega);have hsc:=Am hp (by omega);have hpp:=H5 (v:=v) (u:=⟨2,0,[]⟩) hp (by omega) (.inl rfl);have hc1:lK v ⟨2,0,[]⟩=some ⟨2,v.n,v.scale,ByteArray.empty,[]⟩:=
    I5 hv wA (Gy (u:=⟨2,0,[]⟩) hp (by omega) (.inl rfl) (by left;rw[h1];decide) hsc hpp) hb h7 hp S7 (by rw[h1];rfl) rfl hpp
   have hp3:=H5 (u:=u) hp (.inl h1) (.inr hw2);have hc2:lK ⟨2,v.n,v.scale,ByteArray.empty,[]⟩ u=some ⟨u.kind,v.n,v.scale,ByteArray.empty,[]⟩:=
    I5 wA wA (Gy (v:=⟨2,v.n,v.scale,ByteArray.empty,[]⟩) (u:=u) hpp (.inr (.inl rfl)) (.inr hw2) (.inr hw2) (by show v.scale=u.scale;omega) hp3) rfl (show(2:Int)≠7 by decide) hpp hc (by rw[hw2];rfl) rfl hp3
   rw[Q0 ha hb];refine⟨?_,hp3⟩;unfold iP mJ mw;rw[show(v.kind==1)=true by simp[h1],pI,show(u.kind==3)=true by simp[hw2],pI,hc1,fY];simp only;rw[hc2,fY]
  ·obtain⟨a,b⟩:=hnum (.inr ⟨by omega,hw2,hw3⟩);exact⟨hcast _ a (by omega),b⟩
theorem HB{v:ac}{u:al}(h0:v.kind≠0):ry v u=some (Ep v u):=by
 unfold ry xh;rw[show(v.kind != 0)=true by simp[h0],pI];rfl
end Go.Proofs.YtpiohnabdhpphaaGreatDoor
namespace Go.Proofs.YtpiohnabdhpphaaGreatDoor
open Go Go.SX Go.SX.Cal
open Go.IntKind (i64)
def zh:ac:=⟨0,0,0,ByteArray.empty,[]⟩
theorem XM{v:ac}(h:Lv v)(h0:v.kind=0):v=zh:=by
 obtain⟨k,n,sc,s,it⟩:=v;obtain⟨h1,h2,h3⟩:=h.nul h0;have h4:=h.it;simp only at h0 h1 h2 h3 h4;subst h0;subst h1;subst h2;subst h4;rw[Wj h3];rfl
theorem Qq:Lv zh:=⟨by decide,by decide,rfl,by decide,by decide,fun _=>by decide⟩
theorem Ud{u:al}(ht:dk u=some 0):lK zh u=some zh:=by
 have hs:kX zh=some true:=by
  rw[A9 _ (by show bE ⟨0,0,0,ByteArray.empty,[]⟩<_;exact wA),yZ rfl];rfl
 have hcv:fm aH zh u=some true:=by rw[xG,fm];rfl
 have hca:qR zh u=some zh:=by unfold qR;rfl
 unfold lK qg;rw[hs,fY,Bool.not_true,iq,ht,fY,bne_self_eq_false,iq,hcv,fY,Bool.not_true,iq,hca,fY,hs,fY,Bool.not_true,iq]
structure Ty(t:al)(v:ac):Prop where
 sv:bE v<1000000000
 st:jm t<1000000000
 ck:ck t v=0
theorem adw{t u:al}{v:ac}(h:Ty t v)(hw:Wp t u):∃w,iP v u=some w∧ry v u=some w∧Lv w:=by
 have hl:=th h.sv h.st hw.l.1 hw.l.2 h.ck;obtain⟨ht,hS,ho⟩:=Ph h.sv h.st h.ck;by_cases h0:v.kind=0
 ·have hn:=XM hl h0;subst hn;refine⟨zh,?_,rfl,Qq⟩;unfold iP mJ mw;rw[show(zh.kind==1)=false by decide,iq,iq];have:=Ud hw.c;unfold zh at this;show am (lK ⟨0,0,0,ByteArray.empty,[]⟩ u) _=_;rw[this];rfl
 ·obtain⟨hp,_⟩:=hS.succ;have hk:v.kind=t.kind∧(v.kind=3→v.scale=t.scale):=by
   rw[Hg,if_neg h0]at ho;by_cases e:v.kind=t.kind
   ·rw[if_neg (fun h=>h e)]at ho;refine⟨e,fun h3=> ?_⟩;rw[if_pos h3]at ho;exact beq_iff_eq.1 ho
   ·rw[if_pos e]at ho;cases ho
  have h6:v.kind≠6:=by rw[hk.1];exact hw.l.1
  have h7:v.kind≠7:=by rw[hk.1];exact hw.l.2
  obtain⟨a,b⟩:=PM h.sv hp h0 h6 h7 hk.1 hk.2 hw.w hw.b hw.c;exact⟨_,a,HB h0,Ov b hw.m.1 hw.m.2⟩
end Go.Proofs.YtpiohnabdhpphaaGreatDoor
namespace Go.SX.Cal
open Go Go.SX Go.Lib
open Go.IntKind (i64)
theorem wu{x:Int}:IntKind.u64.wrap x=x%18446744073709551616:=by
 simp only[IntKind.wrap,IntKind.bits,IntKind.signed];simp
structure W4(w:bw):Prop where
 a0:0≤w.size.1
 a1:w.size.1<18446744073709551616
 b0:0≤w.size.2.1
 b1:w.size.2.1<18446744073709551616
 c0:0≤w.size.2.2.1
 c1:w.size.2.2.1<18446744073709551616
 d0:0≤w.size.2.2.2
 d1:w.size.2.2.2<18446744073709551616
def val(w:bw):Int:=w.size.1+w.size.2.1*18446744073709551616+w.size.2.2.1*340282366920938463463374607431768211456+w.size.2.2.2*6277101735386680763835789423207666416102355444464034512896
theorem Fc{x:Int}(h0:0≤x)(h1:x<18446744073709551616):((BitVec.ofInt (IntKind.u64).bits x &&& BitVec.ofInt (IntKind.u64).bits (4294967295:Int)).toNat:Int)=x%4294967296:=by
 have e:(BitVec.ofInt 64 x).toNat=x.toNat:=by
  rw[BitVec.toNat_ofInt];have:x%((2^64:Nat):Int)=x:=by omega
  rw[this]
 have hand:(BitVec.ofInt 64 x &&& BitVec.ofInt 64 (4294967295:Int)).toNat=x.toNat%4294967296:=by
  rw[BitVec.toNat_and,e];have:(BitVec.ofInt 64 (4294967295:Int)).toNat=2^32-1:=by decide
  rw[this,Nat.and_two_pow_sub_one_eq_mod]
 show((BitVec.ofInt 64 x &&& BitVec.ofInt 64 (4294967295:Int)).toNat:Int)=_;rw[hand];omega
theorem aaf(x:Int):x.fdiv (2^(min (32:Int).toNat (IntKind.u64).bits))=x/4294967296:=by
 have:(2:Int)^(min (32:Int).toNat (IntKind.u64).bits)=4294967296:=by decide
 rw[this,Int.fdiv_eq_ediv_of_nonneg _ (by decide)]
theorem Je{x:Int}(h0:0≤x)(h1:x<18446744073709551616):x%18446744073709551616=x:=Int.emod_eq_of_lt h0 h1
theorem prod_bound{a b:Int}(a0:0≤a)(a1:a<4294967296)(b0:0≤b)(b1:b<4294967296):0≤a*b∧a*b≤18446744065119617025:=by
 refine⟨Int.mul_nonneg a0 b0,?_⟩;have h1:a*b≤4294967295*b:=Int.mul_le_mul_of_nonneg_right (by omega) b0;omega
theorem sj{x n c:Int}(h0:0≤x)(h1:x<18446744073709551616)(n0:0≤n)(n1:n<18446744073709551616)(c0:0≤c)(c1:c<18446744073709551616):
  (x*n/18446744073709551616+(x*n%18446744073709551616+c)/18446744073709551616)%18446744073709551616=(x*n+c)/18446744073709551616∧(x*n%18446744073709551616+c)%18446744073709551616=(x*n+c)%18446744073709551616∧0≤(x*n+c)/18446744073709551616∧(x*n+c)/18446744073709551616<18446744073709551616:=by
 have hp:0≤x*n:=Int.mul_nonneg h0 n0;have hq:x*n≤18446744073709551615*n:=Int.mul_le_mul_of_nonneg_right (by omega) n0;have hq2:(18446744073709551615:Int)*n≤18446744073709551615*18446744073709551615:=Int.mul_le_mul_of_nonneg_left (by omega) (by decide);have hb:x*n≤340282366920938463426481119284349108225:=by
  refine Int.le_trans hq (Int.le_trans hq2 (by decide))
 generalize x*n=p at*;omega
def cw:Nat→Int
 |0=>1
 |k+1=>cw k*10
theorem u5:∀k,1≤cw k
 |0=>by decide
 |k+1=>by have:=u5 k;simp only[cw];omega
def c3(a b:Int):Int:=if a<b then -1 else if b<a then 1 else 0
def sv(w:bw):Int:=if w.neg=true then -val w else val w
def xE(w:bw):Prop:=w.size.1=0∧w.size.2.1=0∧w.size.2.2.1=0∧w.size.2.2.2=0
theorem Gi(n m:Bool)(h:¬n=m):(!(n==m))=true∧(!m)=n:=by revert h;cases n<;>cases m<;>simp
def bm:List Int→Int
 |[]=>0
 |d::l=>d+10*bm l
def gu(l:List Int):Prop:=∀d∈l,0≤d∧d≤9
def E0(l:List Int):Prop:=∀d,l.getLast? =some d→d≠0
theorem jo:∀{l:List Int},gu l→0≤bm l
 |[],_=>by simp[bm]
 |d::l,h=>by
  have h1:=h d (by simp);have h2:=jo (l:=l) (fun x hx=>h x (by simp[hx]));simp only[bm];omega
theorem p10n:∀n,0<cw n:=fun n=>by have:=u5 n;omega
theorem pJ:∀{l:List Int},gu l→bm l<cw l.length
 |[],_=>by simp[bm,cw]
 |d::l,h=>by
  have h1:=h d (by simp);have h2:=pJ (l:=l) (fun x hx=>h x (by simp[hx]));simp only[bm,List.length_cons,cw];omega
theorem vZ:∀{l:List Int},gu l→E0 l→l≠[]→cw (l.length-1)≤bm l
 |[],_,_,h=>absurd rfl h
 |[d],h,ht,_=>by
  have h1:=h d (by simp);have h2:=ht d (by simp);simp[bm,cw];omega
 |d::e::l,h,ht,_=>by
  have h1:=h d (by simp);have h2:=vZ (l:=e::l) (fun x hx=>h x (by simp[hx])) (fun x hx=>ht x (by simpa using hx)) (by simp);simp only[List.length_cons]at h2⊢;rw[show l.length+1+1-1=(l.length+1-1)+1 by omega];simp only[cw];rw[bm];omega
theorem xy{m n:Nat}(h:m≤n):cw m≤cw n:=by
 induction n with
 |zero=>
   have:m=0:=by omega
   subst this;exact Int.le_refl _
 |succ n ih=>
  by_cases e:m=n+1
  ·subst e;exact Int.le_refl _
  ·have h1:=ih (by omega);have h2:=p10n n;simp only[cw];omega
theorem fK:∀(l m:List Int),bm (l++m)=bm l+cw l.length*bm m
 |[],m=>by simp[bm,cw]
 |d::l,m=>by
  simp only[List.cons_append,bm,fK l m,List.length_cons,cw];rw[Int.mul_add,←Int.mul_assoc,Int.mul_comm 10 (cw l.length)];omega
theorem wL(k:Nat):bm (List.replicate k 0)=0:=by
 induction k with
 |zero=>rfl
 |succ k ih=>simp[List.replicate_succ,bm,ih]
end Go.SX.Cal
namespace Go.Proofs.YtpiohnabdhpphaaGreatDoor
open Go Go.SX Go.SX.Cal Go.Lib
theorem c3_self(a:Int):c3 a a=0:=by unfold c3;rw[if_neg (by omega),if_neg (by omega)]
theorem HZ{a b:List Int}(ha:gu a)(hb:gu b)(hl:a.length=b.length)(hbig:a.length<1000000):∀(k i:Nat),i≤a.length→i<k→bm (a.drop i)=bm (b.drop i)→
  ∃r,nI a b k ((i:Int)-1)=some r∧-9≤r∧r≤9∧c3 r 0=c3 (bm a) (bm b):=by
 intro k;induction k with
 |zero=>intro i h1 h2;omega
 |succ k ih=>
  intro i h1 h2 he;rw[nI];cases i with
  |zero=>
   rw[show decide ((0:Int)≤((0:Nat):Int)-1)=false from rfl,ai];simp only[List.drop_zero]at he;exact⟨0,rfl,by omega,by omega,by rw[he,c3_self,c3_self]⟩
  |succ i=>
   have hia:i<a.length:=by omega
   have hib:i<b.length:=by omega
   have e1:((i+1:Nat):Int)-1=(i:Int):=by omega
   have aa:at? a (i:Int)=some a[i]:=by unfold at?;simp[hia]
   have bb:at? b (i:Int)=some b[i]:=by unfold at?;simp[hib]
   rw[e1,show decide ((0:Int)≤(i:Int))=true by simp,ap,aa,bb];simp only[ay];have da:a.drop i=a[i]::a.drop (i+1):=List.drop_eq_getElem_cons hia;have db:b.drop i=b[i]::b.drop (i+1):=List.drop_eq_getElem_cons hib;have ra:=ha a[i] (gd hia);have rb:=hb b[i] (gd hib);by_cases hne:a[i]=b[i]
   ·rw[show(a[i] != b[i])=false by simp[hne],ai,j9 (by omega) (by omega)];refine ih i (by omega) (by omega) ?_;rw[da,db];simp only[bm];omega
   ·rw[show(a[i] != b[i])=true by simp[hne],ap,j9 (by omega) (by omega)];refine⟨_,rfl,by omega,by omega,?_⟩;have va:bm a=bm (a.take i)+cw i*bm (a.drop i):=by
     have:=fK (a.take i) (a.drop i);rw[List.take_append_drop,List.length_take,Nat.min_eq_left (by omega)]at this;exact this
    have vb:bm b=bm (b.take i)+cw i*bm (b.drop i):=by
     have:=fK (b.take i) (b.drop i);rw[List.take_append_drop,List.length_take,Nat.min_eq_left (by omega)]at this;exact this
    have la:=pJ (l:=a.take i) (fun x hx=>ha x (List.mem_of_mem_take hx));have lb:=pJ (l:=b.take i) (fun x hx=>hb x (List.mem_of_mem_take hx));have na:=jo (l:=a.take i) (fun x hx=>ha x (List.mem_of_mem_take hx));have nb:=jo (l:=b.take i) (fun x hx=>hb x (List.mem_of_mem_take hx));rw[List.length_take,Nat.min_eq_left (by omega)]at la lb;rw[da]at va;rw[db]at vb;simp only[bm]at va vb;have hp:=p10n i;have key:cw i*(a[i]+10*bm (a.drop (i+1)))-cw i*(b[i]+10*bm (b.drop (i+1)))=cw i*(a[i]-b[i]):=by
     rw[←Int.mul_sub,he];congr 1;omega
    unfold c3;rcases Int.lt_or_gt_of_ne hne with hlt|hgt
    ·have:cw i*(a[i]-b[i])≤cw i*(-1):=Int.mul_le_mul_of_nonneg_left (by omega) (by omega);rw[if_pos (by omega),if_pos (by omega)]
    ·have:cw i*1≤cw i*(a[i]-b[i]):=Int.mul_le_mul_of_nonneg_left (by omega) (by omega);rw[if_neg (by omega),if_pos (by omega),if_neg (by omega),if_pos (by omega)]
theorem MH{a b:List Int}(ha:gu a)(hb:gu b)(ta:E0 a)(tb:E0 b)(la:a.length<1000)(lb:b.length<1000):∃r,wH a b=some r∧-1000≤r∧r≤1000∧c3 r 0=c3 (bm a) (bm b):=by
 unfold wH;by_cases hl:a.length=b.length
 ·rw[show((a.length:Int) != (b.length:Int))=false by simp[hl],ai,j9 (by omega) (by omega)];obtain⟨r,h1,h2,h3,h4⟩:=HZ ha hb hl (by omega) aH a.length (iO _) (by rw[aF];omega) (by rw[List.drop_length,hl,List.drop_length]);exact⟨r,h1,by omega,by omega,h4⟩
 ·have hne:((a.length:Int) != (b.length:Int))=true:=by simp;omega
  rw[hne,ap,j9 (by omega) (by omega)];refine⟨_,rfl,by omega,by omega,?_⟩;have l1:=pJ ha;have l2:=pJ hb;rcases Nat.lt_or_gt_of_ne hl with h|h
  ·have g:=vZ hb tb (by rintro rfl;simp at h);have:=xy (show a.length≤b.length-1 by omega);unfold c3;rw[if_pos (by omega),if_pos (by omega)]
  ·have g:=vZ ha ta (by rintro rfl;simp at h);have:=xy (show b.length≤a.length-1 by omega);unfold c3;rw[if_neg (by omega),if_pos (by omega),if_neg (by omega),if_pos (by omega)]
structure RW(r:dj)(n:Int):Prop where
 dg:gu r.d
 tp:E0 r.d
 ln:r.d.length<100
 vl:(if r.below=true then -bm r.d else bm r.d)=n
 bl:r.below=true→0<bm r.d
theorem F6:gu []:=fun _ h=>by cases h
theorem MO:E0 []:=fun _ h=>by cases h
theorem D9{l:List Int}{x:Int}(h:gu l)(h0:0≤x)(h1:x≤9):gu (l++[x]):=by
 intro d hd;rcases List.mem_append.1 hd with hd|hd
 ·exact h d hd
 ·simp at hd;subst hd;exact⟨h0,h1⟩
theorem Mk{l:List Int}{x:Int}(h:gu (l++[x])):gu l∧0≤x∧x≤9:=
 ⟨fun d hd=>h d (List.mem_append.2 (.inl hd)),h x (by simp)⟩
theorem Pi{l:List Int}{x:Int}(h:x≠0):E0 (l++[x]):=by
 intro d hd;simp at hd;subst hd;exact h
theorem TN{l:List Int}{x:Int}(h:gu l)(h0:0≤x)(h1:x≤9):gu (x::l):=by
 intro d hd;rcases List.mem_cons.1 hd with rfl|hd
 ·exact⟨h0,h1⟩
 ·exact h d hd
theorem WF(b:Bool):∀(k:Nat) (d:List Int),d.length<k→d.length<1000000→gu d→
  ∃d',nO b k d=some ⟨b&&decide (0<d'.length),d'⟩∧gu d'∧E0 d'∧bm d'=bm d∧d'.length≤d.length:=by
 intro k;induction k with
 |zero=>intro d h;omega
 |succ k ih=>
  intro d hk hl hd;rw[nO];have fin:∀x:List Int,uw (nO b k) b x false=some ⟨b&&decide (0<x.length),x⟩:=by
   intro x;unfold uw Du AR;cases b<;>simp[aD]
  rcases List.eq_nil_or_concat d with rfl|⟨l,x,rfl⟩
  ·rw[show decide ((0:Int)<(([]:List Int).length:Int))=false from rfl,ai,fin];exact⟨[],rfl,F6,MO,rfl,iO _⟩
  ·rw[List.concat_eq_append]at*;have hlen:(l++[x]).length=l.length+1:=by simp
   have e1:IntKind.i64.wrap (((l++[x]).length:Int)-1)=(l.length:Int):=by rw[hlen,j9 (by omega) (by omega)];omega
   have e2:at? (l++[x]) (l.length:Int)=some x:=by unfold at?;simp
   obtain⟨dl,x0,x9⟩:=Mk hd;rw[show decide ((0:Int)<((l++[x]).length:Int))=true by simp,ap,e1,e2,au];by_cases hx:x=0
   ·subst hx;rw[show((0:Int)==0)=true from rfl];unfold uw;rw[ap,e1];unfold iN;rw[if_pos (by omega)];have e3:((l++[(0:Int)]).drop (0:Int).toNat).take ((l.length:Int).toNat-(0:Int).toNat)=l:=by simp
    rw[e3];obtain⟨d',h1,h2,h3,h4,h5⟩:=ih l (by omega) (by omega) dl;refine⟨d',h1,h2,h3,?_,by omega⟩;rw[h4,fK];simp[bm]
   ·rw[show(x==0)=false by simp[hx],fin];exact⟨_,rfl,hd,Pi hx,rfl,iO _⟩
theorem Rh(b:Bool)(d:List Int)(hl:d.length<1000000)(hd:gu d):
  ∃d',sV b d=some ⟨b&&decide (0<d'.length),d'⟩∧gu d'∧E0 d'∧bm d'=bm d∧d'.length≤d.length:=by
 unfold sV;exact WF b aH d (by rw[aF];omega) hl hd
def rB(a:List Int)(i:Nat):Int:=a.getD i 0
theorem Fo{a:List Int}{i:Nat}(h:i<a.length):a[i]=rB a i:=by simp[rB,h]
theorem Ck{a:List Int}{i:Nat}(h:a.length≤i):rB a i=0:=by simp[rB,h]
theorem ur{a:List Int}(ha:gu a)(i:Nat):0≤rB a i∧rB a i≤9:=by
 by_cases h:i<a.length
 ·rw[←Fo h];exact ha _ (gd h)
 ·rw[Ck (by omega)];omega
theorem Sr{a:List Int}(ta:E0 a){i:Nat}(h:i+1=a.length):rB a i≠0:=by
 have hi:i<a.length:=by omega
 rw[←Fo hi];refine ta _ ?_;rw[List.getLast?_eq_getElem?,show a.length-1=i by omega,dK hi]
theorem BH(a:List Int)(i:Nat):bm (a.take (i+1))=bm (a.take i)+cw i*rB a i:=by
 by_cases h:i<a.length
 ·rw[List.take_succ_eq_append_getElem h,fK,List.length_take,Nat.min_eq_left (by omega),Fo h];simp[bm]
 ·rw[Ck (by omega),List.take_of_length_le (by omega),List.take_of_length_le (by omega)];simp
theorem W9{n:Int}(h0:0≤n):n.tdiv 10=n/10:=Int.tdiv_eq_ediv_of_nonneg h0
theorem UE{n:Int}(h0:0≤n):n.tmod 10=n%10:=Int.tmod_eq_emod_of_nonneg h0
theorem Te{a b:List Int}(ha:gu a)(hb:gu b)(la:a.length<1000000)(lb:b.length<1000000)(k i:Nat)(l:List Int)(c:Int)(hl:l.length=i)(hi:i<1000002)(c0:0≤c)(c1:c≤1)
  (hc:i<a.length∨i<b.length∨0<c):
  du a b (k+1) l c (i:Int)=du a b k (l++[(c+rB a i+rB b i)%10]) ((c+rB a i+rB b i)/10) ((i+1:Nat):Int):=by
 obtain⟨a0,a9⟩:=ur ha i;obtain⟨b0,b9⟩:=ur hb i;have j3:∀n:Int,n=c+rB a i+rB b i→vC (du a b k) l (i:Int) n=du a b k (l++[(c+rB a i+rB b i)%10]) ((c+rB a i+rB b i)/10) ((i+1:Nat):Int):=by
  rintro n rfl;unfold vC iN;rw[if_pos (by omega),W9 (by omega),UE (by omega),j9 (x:=(c+rB a i+rB b i)/10) (by omega) (by omega),j9 (by omega) (by omega),show(i:Int)+1=((i+1:Nat):Int) by omega]
 have j2:vo (du a b k) b l (i:Int) (c+rB a i)=du a b k (l++[(c+rB a i+rB b i)%10]) ((c+rB a i+rB b i)/10) ((i+1:Nat):Int):=by
  unfold vo;by_cases h:i<b.length
  ·rw[aS h,ap,aB h,au,Fo h,j9 (by omega) (by omega)];exact j3 _ rfl
  ·rw[show decide ((i:Int)<(b.length:Int))=false by simp;omega,ai];exact j3 _ (by rw[Ck (a:=b) (by omega)];omega)
 have j1:sF (du a b k) a b l c (i:Int) true=du a b k (l++[(c+rB a i+rB b i)%10]) ((c+rB a i+rB b i)/10) ((i+1:Nat):Int):=by
  unfold sF;rw[ap];by_cases h:i<a.length
  ·rw[aS h,ap,aB h,au,Fo h,j9 (by omega) (by omega)];exact j2
  ·rw[show decide ((i:Int)<(a.length:Int))=false by simp;omega,ai];have e:c+rB a i=c:=by rw[Ck (by omega)];omega
   rw[e]at j2⊢;exact j2
 rw[du];by_cases h:i<a.length
 ·rw[aS h,ap];exact j1
 ·rw[show decide ((i:Int)<(a.length:Int))=false by simp;omega,ai];by_cases h':i<b.length
  ·rw[aS h',ap];exact j1
  ·rw[show decide ((i:Int)<(b.length:Int))=false by simp;omega,ai,show decide ((0:Int)<c)=true by simp;omega];exact j1
theorem S1{a b:List Int}(ha:gu a)(hb:gu b)(ta:E0 a)(tb:E0 b)(la:a.length<1000)(lb:b.length<1000):∀(k i:Nat) (l:List Int) (c:Int),
  l.length=i→gu l→0≤c→c≤1→i≤max a.length b.length+1→(i=max a.length b.length+1→c=0)→max a.length b.length+1-i<k→
  bm l+cw i*c=bm (a.take i)+bm (b.take i)→(i<a.length∨i<b.length∨0<c∨E0 l)→
  ∃r,du a b k l c (i:Int)=some r∧gu r∧E0 r∧bm r=bm a+bm b∧r.length≤max a.length b.length+1:=by
 intro k;induction k with
 |zero=>intro i l c _ _ _ _ _ _ h;omega
 |succ k ih=>
  intro i l c hl dl c0 c1 hi hlast hk hv ht;by_cases hc:i<a.length∨i<b.length∨0<c
  ·rw[Te ha hb (by omega) (by omega) k i l c hl (by omega) c0 c1 hc];obtain⟨a0,a9⟩:=ur ha i;obtain⟨b0,b9⟩:=ur hb i;have hi':i≤max a.length b.length:=by
    by_cases e:i=max a.length b.length+1
    ·have:=hlast e;omega
    ·omega
   refine ih (i+1) _ _ (by simp[hl]) (D9 dl (by omega) (by omega)) (by omega) (by omega) (by omega) (fun e=> ?_) (by omega) ?_ ?_
   ·have e1:rB a i=0:=Ck (by omega);have e2:rB b i=0:=Ck (by omega);omega
   ·rw[BH,BH,fK,hl];simp only[bm,cw];have e:cw i*((c+rB a i+rB b i)%10+10*0)+cw i*10*((c+rB a i+rB b i)/10)=cw i*(c+rB a i+rB b i):=by
     rw[Int.mul_assoc,←Int.mul_add];congr 1;omega
    have e2:cw i*(c+rB a i+rB b i)=cw i*c+cw i*rB a i+cw i*rB b i:=by rw[Int.mul_add,Int.mul_add]
    omega
   ·by_cases h1:i+1<a.length∨i+1<b.length∨0<(c+rB a i+rB b i)/10
    ·rcases h1 with h1|h1|h1
     ·exact .inl h1
     ·exact .inr (.inl h1)
     ·exact .inr (.inr (.inl h1))
    ·refine .inr (.inr (.inr (Pi ?_)));rcases hc with hc|hc|hc
     ·have:=Sr ta (i:=i) (by omega);omega
     ·have:=Sr tb (i:=i) (by omega);omega
     ·omega
  ·have hc0:c=0:=by omega
   subst hc0;rw[du,show decide ((i:Int)<(a.length:Int))=false by simp;omega,show decide ((i:Int)<(b.length:Int))=false by simp;omega,ai,ai];refine⟨l,rfl,dl,?_,?_,by omega⟩
   ·rcases ht with h|h|h|h
    ·omega
    ·omega
    ·omega
    ·exact h
   ·rw[List.take_of_length_le (by omega),List.take_of_length_le (by omega)]at hv;simpa using hv
theorem Xt{a b:List Int}(ha:gu a)(hb:gu b)(ta:E0 a)(tb:E0 b)(la:a.length<1000)(lb:b.length<1000):
  ∃r,D3 a b=some r∧gu r∧E0 r∧bm r=bm a+bm b∧r.length≤max a.length b.length+1:=by
 unfold D3;exact S1 ha hb ta tb la lb aH 0 [] 0 rfl F6 (by omega) (by omega) (by omega) (fun _=>rfl) (by rw[aF];omega) (by simp[bm]) (.inr (.inr (.inr MO)))
theorem bh{β:Type}{p:Prop}[Decidable p]{x:Option β}(h:p):iN p x=x:=if_pos h
def ab(n:Int):Int:=if n<0 then -n else n
theorem JP{l:List Int}{x:Int}(h:gu l)(hx:0≤x∧x≤9):gu (l++[x]):=by
 intro d hd;rcases List.mem_append.1 hd with h1|h1
 ·exact h d h1
 ·simp at h1;subst h1;exact hx
theorem Do{n:Int}(hn0: -9223372036854775808≤n)(hn1:n≤9223372036854775807):∀(k:Nat) (l:List Int) (m:Int),l.length≤19→19-l.length<k→gu l→(m=0→E0 l)→ab m<cw (19-l.length)→-9223372036854775808≤m→m≤9223372036854775807→ab n=bm l+cw l.length*ab m→
  ∃d,cZ n k l m=some ⟨decide (n<0),d⟩∧gu d∧E0 d∧d.length≤19∧bm d=ab n:=by
 intro k;induction k with
 |zero=>intro l m h1 h2;omega
 |succ k ih=>
  intro l m hl hk hd ht hm m0 m1 hv;rw[cZ];by_cases h0:m=0
  ·subst h0;rw[show((0:Int) != 0)=false from rfl,ai];exact⟨l,rfl,hd,ht rfl,hl,by simp[ab]at hv⊢;omega⟩
  ·have hlen:l.length<19:=by
    apply Classical.byContradiction;intro hn;have:l.length=19:=by omega
    rw[this]at hm;simp only[Nat.sub_self,cw]at hm;unfold ab at hm;split at hm<;>omega
   rw[show(m != 0)=true by simp[h0],ap];have hq:m.tdiv 10=if m<0 then -((-m)/10)else m/10:=by
    by_cases hneg:m<0
    ·rw[if_pos hneg];have:m= -(-m):=by omega
     rw[this,Int.neg_tdiv,Int.neg_neg,Int.tdiv_eq_ediv_of_nonneg (by omega)]
    ·rw[if_neg hneg,Int.tdiv_eq_ediv_of_nonneg (by omega)]
   have hr:m.tmod 10=if m<0 then -((-m)%10)else m%10:=by
    by_cases hneg:m<0
    ·rw[if_pos hneg];have:m= -(-m):=by omega
     rw[this,Int.neg_tmod,Int.neg_neg,Int.tmod_eq_emod_of_nonneg (by omega)]
    ·rw[if_neg hneg,Int.tmod_eq_emod_of_nonneg (by omega)]
   have step:∀x,x=ab m%10→mZ (cZ n k) l m x=cZ n k (l++[ab m%10]) (m.tdiv 10):=by
    intro x hx;unfold mZ;rw[bh (by omega),hx,j9 (by rw[hq];split<;>omega) (by rw[hq];split<;>omega)]
   have hgo:cZ n k (l++[ab m%10]) (m.tdiv 10)=cZ n k (l++[ab m%10]) (m.tdiv 10):=rfl;have habq:ab (m.tdiv 10)=ab m/10:=by
    rw[hq];unfold ab;by_cases hneg:m<0
    ·simp only[hneg,if_true];split<;>omega
    ·simp only[hneg,if_false];split<;>omega
   have hab0:0≤ab m:=by unfold ab;split<;>omega
   have hp:cw (19-l.length)=cw (19-(l++[ab m%10]).length)*10:=by
    rw[show 19-l.length=(19-(l++[ab m%10]).length)+1 by simp;omega];rfl
   have nxt:=ih (l++[ab m%10]) (m.tdiv 10) (by simp;omega) (by simp;omega) (JP hd (by omega)) (fun hz=>by
     intro d hdl;simp at hdl;subst hdl;have h1:ab m/10=0:=by rw[←habq,hz];rfl
     have h2:ab m≠0:=by unfold ab;split<;>omega
     omega) (by rw[habq];rw[hp]at hm;omega) (by rw[hq];split<;>omega) (by rw[hq];split<;>omega) (by
     rw[fK,List.length_append,List.length_singleton,habq,hv];simp only[bm,cw];have e:ab m=ab m%10+10*(ab m/10):=by omega
     have e2:cw l.length*ab m=cw l.length*(ab m%10)+cw l.length*10*(ab m/10):=by
      rw[Int.mul_assoc,←Int.mul_add,←e]
     rw[e2];simp only[Int.mul_zero,Int.add_zero];omega)
   by_cases hneg:m.tmod 10<0
   ·rw[show decide (m.tmod 10<0)=true by simpa using hneg,ap];have hx:IntKind.i64.wrap (0-m.tmod 10)=ab m%10:=by
     rw[j9 (by rw[hr];split<;>omega) (by rw[hr];split<;>omega)];rw[hr]at hneg⊢;unfold ab;by_cases h:m<0
     ·simp only[h,if_true];omega
     ·simp only[h,if_false]at hneg;omega
    rw[step _ hx];exact nxt
   ·rw[show decide (m.tmod 10<0)=false by simpa using hneg,ai];have hx:m.tmod 10=ab m%10:=by
     rw[hr]at hneg⊢;unfold ab;by_cases h:m<0
     ·simp only[h,if_true]at hneg⊢;omega
     ·simp only[h,if_false]
    rw[step _ hx];exact nxt
theorem PS{a b:List Int}(ha:gu a)(hb:gu b)(la:a.length<1000000)(k i:Nat)(l:List Int)(c:Int)(hl:l.length=i)(c0:0≤c)(c1:c≤1)(hi:i<a.length):
  ew a b (k+1) l c (i:Int)=if rB a i-c-rB b i<0 then ew a b k (l++[rB a i-c-rB b i+10]) 1 ((i+1:Nat):Int)else ew a b k (l++[rB a i-c-rB b i]) 0 ((i+1:Nat):Int):=by
 obtain⟨a0,a9⟩:=ur ha i;obtain⟨b0,b9⟩:=ur hb i;have j1:∀n:Int,n=rB a i-c-rB b i→tG (ew a b k) l (i:Int) n=if rB a i-c-rB b i<0 then ew a b k (l++[rB a i-c-rB b i+10]) 1 ((i+1:Nat):Int)else ew a b k (l++[rB a i-c-rB b i]) 0 ((i+1:Nat):Int):=by
  rintro n rfl;unfold tG wX;rw[bh (by omega),bh (by omega),j9 (x:=(i:Int)+1) (by omega) (by omega),show(i:Int)+1=((i+1:Nat):Int) by omega];by_cases h:rB a i-c-rB b i<0
  ·rw[show decide (rB a i-c-rB b i<0)=true by simpa using h,ap,if_pos h,j9 (by omega) (by omega)]
  ·rw[show decide (rB a i-c-rB b i<0)=false by simpa using h,ai,if_neg h]
 rw[ew,aS hi,ap,aB hi,au,Fo hi,j9 (x:=rB a i-c) (by omega) (by omega)];by_cases h:i<b.length
 ·rw[aS h,ap,aB h,au,Fo h,j9 (by omega) (by omega)];exact j1 _ rfl
 ·rw[show decide ((i:Int)<(b.length:Int))=false by simp;omega,ai];exact j1 _ (by rw[Ck (a:=b) (by omega)];omega)
theorem Qw{a b:List Int}(ha:gu a)(hb:gu b)(la:a.length<1000)(lb:b.length≤a.length)(hab:bm b≤bm a):∀(k i:Nat) (l:List Int) (c:Int),
  l.length=i→gu l→0≤c→c≤1→i≤a.length→a.length-i<k→bm l=bm (a.take i)-bm (b.take i)+cw i*c→
  ∃r,ew a b k l c (i:Int)=some r∧gu r∧E0 r∧bm r=bm a-bm b∧r.length≤a.length:=by
 intro k;induction k with
 |zero=>intro i l c _ _ _ _ _ h;omega
 |succ k ih=>
  intro i l c hl dl c0 c1 hi hk hv;by_cases he:i=a.length
  ·subst he;rw[ew,show decide ((a.length:Int)<(a.length:Int))=false by simp,ai];unfold A1;rw[List.take_of_length_le (iO _),List.take_of_length_le lb]at hv;have hlt:=pJ dl;rw[hl]at hlt;have hc:c=0:=by
    by_cases h:c=0
    ·exact h
    ·have:c=1:=by omega
     subst this;omega
   subst hc;obtain⟨d',h1,h2,h3,h4,h5⟩:=Rh false l (by omega) dl;rw[h1,au];exact⟨d',rfl,h2,h3,by rw[h4,hv];omega,by omega⟩
  ·obtain⟨a0,a9⟩:=ur ha i;obtain⟨b0,b9⟩:=ur hb i;rw[PS ha hb (by omega) k i l c hl c0 c1 (by omega)];have hp:cw i*(rB a i-c-rB b i)=cw i*rB a i-cw i*c-cw i*rB b i:=by rw[Int.mul_sub,Int.mul_sub]
   by_cases h:rB a i-c-rB b i<0
   ·rw[if_pos h];refine ih (i+1) _ 1 (by simp[hl]) (D9 dl (by omega) (by omega)) (by omega) (by omega) (by omega) (by omega) ?_;rw[BH,BH,fK,hl];simp only[bm,cw];rw[Int.mul_add,Int.mul_add,hp];omega
   ·rw[if_neg h];refine ih (i+1) _ 0 (by simp[hl]) (D9 dl (by omega) (by omega)) (by omega) (by omega) (by omega) (by omega) ?_;rw[BH,BH,fK,hl];simp only[bm,cw];rw[Int.mul_add,hp];omega
theorem abL{a b:List Int}(ha:gu a)(hb:gu b)(tb:E0 b)(hab:bm b≤bm a):b.length≤a.length:=by
 by_cases h:b.length≤a.length
 ·exact h
 ·have h1:=pJ ha;have h2:=vZ hb tb (by rintro rfl;simp at h);have:=xy (show a.length≤b.length-1 by omega);omega
theorem Om{a b:List Int}(ha:gu a)(hb:gu b)(tb:E0 b)(la:a.length<1000)(hab:bm b≤bm a):
  ∃r,ze a b=some r∧gu r∧E0 r∧bm r=bm a-bm b∧r.length≤a.length:=by
 unfold ze;exact Qw ha hb la (abL ha hb tb hab) hab aH 0 [] 0 rfl F6 (by omega) (by omega) (by omega) (by rw[aF];omega) (by simp[bm])
end Go.Proofs.YtpiohnabdhpphaaGreatDoor
namespace Go.Proofs.YtpiohnabdhpphaaGreatDoor
open Go Go.SX Go.SX.Cal
theorem Nf(p11 cw p01 p00:Int)(h11:0≤p11∧p11≤18446744065119617025)(h10:0≤cw∧cw≤18446744065119617025)(h01:0≤p01∧p01≤18446744065119617025)(h00:0≤p00∧p00≤18446744065119617025):
  p11+(cw+p00/4294967296)/4294967296+((cw+p00/4294967296)%4294967296+p01)/4294967296=(p11*18446744073709551616+(cw+p01)*4294967296+p00)/18446744073709551616:=by
 omega
theorem B9{x y:Int}(h0:0≤x)(h1:x<18446744073709551616)(k0:0≤y)(k1:y<18446744073709551616):iX x y=some (x*y/18446744073709551616,x*y%18446744073709551616):=by
 unfold iX;simp only[ay,aaf];rw[Fc h0 h1,Fc k0 k1];simp only[wu];have hx0:0≤x%4294967296∧x%4294967296<4294967296:=by omega
 have hx1:0≤x/4294967296∧x/4294967296<4294967296:=by omega
 have hy0:0≤y%4294967296∧y%4294967296<4294967296:=by omega
 have hy1:0≤y/4294967296∧y/4294967296<4294967296:=by omega
 have ex:x=x/4294967296*4294967296+x%4294967296:=by omega
 have ey:y=y/4294967296*4294967296+y%4294967296:=by omega
 have exy:x*y=(x/4294967296*(y/4294967296))*18446744073709551616+(x/4294967296*(y%4294967296)+x%4294967296*(y/4294967296))*4294967296+x%4294967296*(y%4294967296):=by
  generalize x/4294967296=x1 at*;generalize x%4294967296=x0 at*;generalize y/4294967296=y1 at*;generalize y%4294967296=y0 at*;rw[ex,ey];simp only[Int.add_mul,Int.mul_add];have e1:x1*4294967296*(y1*4294967296)=x1*y1*18446744073709551616:=by
   rw[Int.mul_assoc,Int.mul_left_comm 4294967296 y1,←Int.mul_assoc];rfl
  have e2:x1*4294967296*y0=x1*y0*4294967296:=by rw[Int.mul_assoc,Int.mul_comm 4294967296,←Int.mul_assoc]
  have e3:x0*(y1*4294967296)=x0*y1*4294967296:=by rw[Int.mul_assoc]
  rw[e1,e2,e3];omega
 have b11:=Go.SX.Cal.prod_bound hx1.1 hx1.2 hy1.1 hy1.2;have b10:=Go.SX.Cal.prod_bound hx1.1 hx1.2 hy0.1 hy0.2;have b01:=Go.SX.Cal.prod_bound hx0.1 hx0.2 hy1.1 hy1.2;have b00:=Go.SX.Cal.prod_bound hx0.1 hx0.2 hy0.1 hy0.2;rw[Je (x:=x%4294967296) (by omega) (by omega),Je (x:=y%4294967296) (by omega) (by omega)];have L:=Nf _ _ _ _ b11 b10 b01 b00;rw[exy];generalize x/4294967296*(y/4294967296)=p11 at*;generalize x/4294967296*(y%4294967296)=cw at*;generalize x%4294967296*(y/4294967296)=p01 at*;generalize x%4294967296*(y%4294967296)=p00 at*;rw[Je (x:=cw) (by omega) (by omega),Je (x:=p00) (by omega) (by omega),Je (x:=p01) (by omega) (by omega),Je (x:=p11) (by omega) (by omega),Je (x:=cw+p00/4294967296) (by omega) (by omega)];rw[Fc (x:=cw+p00/4294967296) (by omega) (by omega)];rw[Je (x:=(cw+p00/4294967296)%4294967296) (by omega) (by omega),Je (x:=(cw+p00/4294967296)%4294967296+p01) (by omega) (by omega)];rw[Je (x:=p11+(cw+p00/4294967296)/4294967296) (by omega) (by omega),Je (x:=p11+(cw+p00/4294967296)/4294967296+((cw+p00/4294967296)%4294967296+p01)/4294967296) (by omega) (by omega),L]
theorem JQ{w:bw}{n:Int}(h:W4 w)(n0:0≤n)(n1:n<18446744073709551616)(hv:val w*n<115792089237316195423570985008687907853269984665640564039457584007913129639936):
  ∃w',dx w n=some w'∧W4 w'∧val w'=val w*n∧w'.neg=w.neg:=by
 obtain⟨neg,x0,x1,x2,x3⟩:=w;obtain⟨a0,a1,b0,b1,c0,c1,d0,d1⟩:=h;simp only at a0 a1 b0 b1 c0 c1 d0 d1;unfold dx;simp only;rw[B9 a0 a1 n0 n1,B9 b0 b1 n0 n1,B9 c0 c1 n0 n1,B9 d0 d1 n0 n1];simp only[ay,wu];have hval:val ⟨neg,x0,x1,x2,x3⟩*n=x0*n+x1*n*18446744073709551616+x2*n*340282366920938463463374607431768211456+x3*n*6277101735386680763835789423207666416102355444464034512896:=by
  unfold val;simp only[Int.add_mul];rw[Int.mul_right_comm x1,Int.mul_right_comm x2,Int.mul_right_comm x3]
 rw[hval]at hv⊢;obtain⟨p1,p2,p3,p4⟩:=sj (c:=0) a0 a1 n0 n1 (by decide) (by decide);simp only[Int.add_zero]at p1 p2 p3 p4⊢;rw[p1,p2];generalize hc1:x0*n/18446744073709551616=k1 at*;obtain⟨q1,q2,q3,q4⟩:=sj (c:=k1) b0 b1 n0 n1 p3 p4;rw[q1,q2];generalize hc2:(x1*n+k1)/18446744073709551616=k2 at*;obtain⟨r1,r2,r3,r4⟩:=sj (c:=k2) c0 c1 n0 n1 q3 q4;rw[r1,r2];generalize hc3:(x2*n+k2)/18446744073709551616=k3 at*;obtain⟨s1,s2,s3,s4⟩:=sj (c:=k3) d0 d1 n0 n1 r3 r4;rw[s2];have e0:=Int.mul_nonneg a0 n0;have e1:=Int.mul_nonneg b0 n0;have e2:=Int.mul_nonneg c0 n0;have e3:=Int.mul_nonneg d0 n0;clear p1 p2 q1 q2 r1 r2 s1 s2;generalize x0*n=P0 at*;generalize x1*n=P1 at*;generalize x2*n=P2 at*;generalize x3*n=P3 at*;rw[bh (by omega),bh (by omega),bh (by omega),bh (by omega)];refine⟨_,rfl,⟨by simp only;omega,by simp only;omega,by simp only;omega,by simp only;omega,by simp only;omega,by simp only;omega,by simp only;omega,by simp only;omega⟩,?_,rfl⟩;simp only[val];have f0:P0=k1*18446744073709551616+P0%18446744073709551616:=by omega
 have f1:P1+k1=k2*18446744073709551616+(P1+k1)%18446744073709551616:=by omega
 have f2:P2+k2=k3*18446744073709551616+(P2+k2)%18446744073709551616:=by omega
 have f3:P3+k3=(P3+k3)/18446744073709551616*18446744073709551616+(P3+k3)%18446744073709551616:=by omega
 have z:(P3+k3)/18446744073709551616=0:=by
  generalize P0%18446744073709551616=m0 at*;generalize (P1+k1)%18446744073709551616=m1 at*;generalize (P2+k2)%18446744073709551616=m2 at*;omega
 rw[z]at f3;generalize P0%18446744073709551616=m0 at*;generalize (P1+k1)%18446744073709551616=m1 at*;generalize (P2+k2)%18446744073709551616=m2 at*;generalize (P3+k3)%18446744073709551616=m3 at*;omega
theorem Ks{a b:bw}(ha:W4 a)(hb:W4 b):iB a b=some (c3 (val a) (val b)):=by
 obtain⟨n,x0,x1,x2,x3⟩:=a;obtain⟨m,y0,y1,y2,y3⟩:=b;obtain⟨a0,a1,b0,b1,c0,c1,d0,d1⟩:=ha;obtain⟨e0,e1,f0,f1,g0,g1,h0,h1⟩:=hb;simp only at*;unfold iB;simp only[aD,decide_eq_true_eq];unfold c3 val;simp only;by_cases q3:x3<y3
 ·rw[if_pos q3,if_pos (by omega)]
 rw[if_neg q3];by_cases q3':y3<x3
 ·rw[if_pos q3',if_neg (by omega),if_pos (by omega)]
 rw[if_neg q3'];by_cases q2:x2<y2
 ·rw[if_pos q2,if_pos (by omega)]
 rw[if_neg q2];by_cases q2':y2<x2
 ·rw[if_pos q2',if_neg (by omega),if_pos (by omega)]
 rw[if_neg q2'];by_cases q1:x1<y1
 ·rw[if_pos q1,if_pos (by omega)]
 rw[if_neg q1];by_cases q1':y1<x1
 ·rw[if_pos q1',if_neg (by omega),if_pos (by omega)]
 rw[if_neg q1'];by_cases q0:x0<y0
 ·rw[if_pos q0,if_pos (by omega)]
 rw[if_neg q0];by_cases q0':y0<x0
 ·rw[if_pos q0',if_neg (by omega),if_pos (by omega)]
 rw[if_neg q0',if_neg (by omega),if_neg (by omega)]
def wd(A j:Nat):Nat:=A/2^(64*j)%2^64
def uK(s:Bool)(A:Nat):bw:=⟨s,(wd A 0:Int),(wd A 1:Int),(wd A 2:Int),(wd A 3:Int)⟩
theorem IK(w:bw):bw.mk w.neg (w.size.1,w.size.2.1,w.size.2.2.1,w.size.2.2.2)=w:=rfl
theorem wd0(A:Nat):wd A 0=A%18446744073709551616:=by unfold wd;simp
theorem wd1(A:Nat):wd A 1=A/18446744073709551616%18446744073709551616:=by unfold wd;simp
theorem wd2(A:Nat):wd A 2=A/340282366920938463463374607431768211456%18446744073709551616:=by unfold wd;simp
theorem wd3(A:Nat):wd A 3=A/6277101735386680763835789423207666416102355444464034512896%18446744073709551616:=by unfold wd;simp
theorem Ci(s:Bool)(A:Nat):W4 (uK s A):=by
 have h:∀j,(0:Int)≤(wd A j:Int)∧(wd A j:Int)<18446744073709551616:=fun j=>by
  have:wd A j<2^64:=Nat.mod_lt _ (by decide);omega
 exact⟨(h 0).1,(h 0).2,(h 1).1,(h 1).2,(h 2).1,(h 2).2,(h 3).1,(h 3).2⟩
theorem yP(s:Bool)(A:Nat)(h:A<115792089237316195423570985008687907853269984665640564039457584007913129639936):val (uK s A)=A:=by
 unfold val uK;simp only[wd0,wd1,wd2,wd3];omega
theorem Y4{w:bw}(h:W4 w):w=uK w.neg (val w).toNat:=by
 obtain⟨neg,x0,x1,x2,x3⟩:=w;obtain⟨a0,a1,b0,b1,c0,c1,d0,d1⟩:=h;simp only at a0 a1 b0 b1 c0 c1 d0 d1;unfold uK val;simp only[wd0,wd1,wd2,wd3,bw.mk.injEq,sT,true_and];refine⟨?_,?_,?_,?_⟩<;>omega
theorem Y2{w:bw}{s:Bool}{A:Nat}(h:W4 w)(hs:w.neg=s)(hv:val w=A):w=uK s A:=by
 rw[Y4 h,hs,hv];rfl
theorem Gp(s:Bool)(A m:Nat)(hm:m<18446744073709551616)(h:A*m<115792089237316195423570985008687907853269984665640564039457584007913129639936)(hA:A<115792089237316195423570985008687907853269984665640564039457584007913129639936):dx (uK s A) (m:Int)=some (uK s (A*m)):=by
 have hv:=yP s A hA;obtain⟨w,h1,h2,h3,h4⟩:=JQ (n:=(m:Int)) (Ci s A) (by omega) (by omega) (by rw[hv];omega);rw[h1,Y2 h2 (s:=s) (A:=A*m) h4 (by rw[h3,hv];push_cast;rfl)]
theorem Vl(s t:Bool)(A B:Nat)(hA:A<115792089237316195423570985008687907853269984665640564039457584007913129639936)(hB:B<115792089237316195423570985008687907853269984665640564039457584007913129639936):iB (uK s A) (uK t B)=some (c3 (A:Int) (B:Int)):=by
 rw[Ks (Ci s A) (Ci t B),yP s A hA,yP t B hB]
theorem NW(n:Int)(h0: -9223372036854775808≤n)(h1:n≤9223372036854775807):nG n=some (uK (decide (n<0)) n.natAbs):=by
 unfold nG;by_cases h:n<0
 ·rw[show decide (n<0)=true by simpa using h,ap];congr 1;unfold uK;simp only[wd0,wd1,wd2,wd3,bw.mk.injEq,sT,true_and,wu];refine⟨?_,?_,?_,?_⟩<;>omega
 ·rw[show decide (n<0)=false by simpa using h,ai];congr 1;unfold uK;simp only[wd0,wd1,wd2,wd3,bw.mk.injEq,sT,true_and,wu];refine⟨?_,?_,?_,?_⟩<;>omega
theorem T6(s:Bool)(d:Nat)(hd:d≤1000):∀(j k A i:Nat),i+j=d→j<k→A*10^j<115792089237316195423570985008687907853269984665640564039457584007913129639936→
  de (d:Int) k s (wd A 0) (wd A 1) (wd A 2) (wd A 3) (i:Int)=some (uK s (A*10^j)):=by
 intro j;induction j with
 |zero=>
  intro k A i hi hk hA;obtain⟨k,rfl⟩:∃q,k=q+1:=⟨k-1,by omega⟩
  rw[de,show decide ((i:Int)<(d:Int))=false by simp;omega,ai,Nat.pow_zero,Nat.mul_one];rfl
 |succ j ih=>
  intro k A i hi hk hA;obtain⟨k,rfl⟩:∃q,k=q+1:=⟨k-1,by omega⟩
  have e:A*10^(j+1)=A*10*10^j:=by rw[Nat.pow_succ,Nat.mul_comm (10^j) 10,Nat.mul_assoc]
  have hp:0<10^j:=Nat.pow_pos (by decide);have hle:A*10*1≤A*10*10^j:=Nat.mul_le_mul_left _ hp;rw[e]at hA⊢;have ht:=Gp s A 10 (by decide) (by omega) (by omega);rw[de,show decide ((i:Int)<(d:Int))=true by simp;omega,ap];have ht':dx (bw.mk s ((wd A 0:Int),(wd A 1:Int),(wd A 2:Int),(wd A 3:Int))) (10:Int)=some (uK s (A*10)):=ht;rw[ht',au,j9 (by omega) (by omega),show(i:Int)+1=((i+1:Nat):Int) by omega];exact ih k (A*10) (i+1) (by omega) (by omega) hA
theorem QP(s:Bool)(A d:Nat)(hd:d≤1000)(h:A*10^d<115792089237316195423570985008687907853269984665640564039457584007913129639936):je (uK s A) (d:Int)=some (uK s (A*10^d)):=
 T6 s d hd d aH A 0 (by omega) (by rw[aF];omega) h
theorem Tx(n:Int)(d:Nat)(h0: -9223372036854775808≤n)(h1:n≤9223372036854775807)(hd:d≤1000)(h:n.natAbs*10^d<115792089237316195423570985008687907853269984665640564039457584007913129639936):
  lZ n (d:Int)=some (uK (decide (n<0)) (n.natAbs*10^d)):=by
 unfold lZ;rw[NW n h0 h1,au,IK,QP _ _ d hd h,au]
theorem TW{s t:Bool}{x0 x1 x2 x3 y0 y1 y2 y3:Int}(ha:W4 ⟨s,x0,x1,x2,x3⟩)(hb:W4 ⟨t,y0,y1,y2,y3⟩)(hle:val ⟨t,y0,y1,y2,y3⟩≤val ⟨s,x0,x1,x2,x3⟩):
  ∃w,gg s x0 x1 x2 x3 t y0 y1 y2 y3=some w∧W4 w∧w.neg=s∧val w=val ⟨s,x0,x1,x2,x3⟩-val ⟨t,y0,y1,y2,y3⟩:=by
 obtain⟨a0,a1,b0,b1,c0,c1,d0,d1⟩:=ha;obtain⟨e0,e1,f0,f1,g0,g1,h0,h1⟩:=hb;simp only at a0 a1 b0 b1 c0 c1 d0 d1 e0 e1 f0 f1 g0 g1 h0 h1;simp only[val]at hle⊢;unfold gg;simp only[ay,Int.add_zero,Int.sub_zero];have k1:∃u,(if x0<y0 then(1:Int)else 0)=u∧0≤u∧u≤1∧(x0-y0)%18446744073709551616=x0-y0+u*18446744073709551616:=by
  split
  ·exact⟨1,rfl,by omega,by omega,by omega⟩
  ·exact⟨0,rfl,by omega,by omega,by omega⟩
 obtain⟨u1,p1,p2,p3,p4⟩:=k1;rw[p1,p4];have k2:∃u,(if x1<y1+u1 then(1:Int)else 0)=u∧0≤u∧u≤1∧(x1-y1-u1)%18446744073709551616=x1-y1-u1+u*18446744073709551616:=by
  split
  ·exact⟨1,rfl,by omega,by omega,by omega⟩
  ·exact⟨0,rfl,by omega,by omega,by omega⟩
 obtain⟨u2,q1,q2,q3,q4⟩:=k2;rw[q1,q4];have k3:∃u,(if x2<y2+u2 then(1:Int)else 0)=u∧0≤u∧u≤1∧(x2-y2-u2)%18446744073709551616=x2-y2-u2+u*18446744073709551616:=by
  split
  ·exact⟨1,rfl,by omega,by omega,by omega⟩
  ·exact⟨0,rfl,by omega,by omega,by omega⟩
 obtain⟨u3,r1,r2,r3,r4⟩:=k3;rw[r1,r4];rw[bh (by omega),bh (by omega),bh (by omega),bh (by omega)];have p5:0≤x0-y0+u1*18446744073709551616∧x0-y0+u1*18446744073709551616<18446744073709551616:=by omega
 have q5:0≤x1-y1-u1+u2*18446744073709551616∧x1-y1-u1+u2*18446744073709551616<18446744073709551616:=by omega
 have r5:0≤x2-y2-u2+u3*18446744073709551616∧x2-y2-u2+u3*18446744073709551616<18446744073709551616:=by omega
 clear p1 p4 q1 q4 r1 r4;have s5:(x3-y3-u3)%18446744073709551616=x3-y3-u3:=by omega
 rw[s5];refine⟨_,rfl,⟨p5.1,p5.2,q5.1,q5.2,r5.1,r5.2,by simp only;omega,by simp only;omega⟩,rfl,?_⟩;simp only;omega
theorem Oq{k:Nat}{b:Bool}{x0 x1 x2 x3 y0 y1 y2 y3:Int}(ha:W4 ⟨b,x0,x1,x2,x3⟩)(hb:W4 ⟨b,y0,y1,y2,y3⟩)(hv:val ⟨b,x0,x1,x2,x3⟩+val ⟨b,y0,y1,y2,y3⟩<115792089237316195423570985008687907853269984665640564039457584007913129639936):
  ∃w,fh (k+1) ⟨b,x0,x1,x2,x3⟩ ⟨b,y0,y1,y2,y3⟩=some w∧W4 w∧w.neg=b∧val w=val ⟨b,x0,x1,x2,x3⟩+val ⟨b,y0,y1,y2,y3⟩:=by
 obtain⟨a0,a1,b0,b1',c0,c1,d0,d1⟩:=ha;obtain⟨e0,e1,f0,f1,g0,g1,h0,h1⟩:=hb;simp only at a0 a1 b0 b1' c0 c1 d0 d1 e0 e1 f0 f1 g0 g1 h0 h1;rw[fh];simp only[beq_self_eq_true,Bool.not_true,ai,ay,Int.add_zero];simp only[val]at hv⊢;have m0:x0+y0=(x0+y0)/18446744073709551616*18446744073709551616+(x0+y0)%18446744073709551616:=by omega
 have u0:0≤(x0+y0)/18446744073709551616∧(x0+y0)/18446744073709551616≤1:=by omega
 have v0:0≤(x0+y0)%18446744073709551616∧(x0+y0)%18446744073709551616<18446744073709551616:=by omega
 generalize (x0+y0)/18446744073709551616=t0 at*;generalize (x0+y0)%18446744073709551616=r0 at*;have m1:x1+y1+t0=(x1+y1+t0)/18446744073709551616*18446744073709551616+(x1+y1+t0)%18446744073709551616:=by omega
 have u1:0≤(x1+y1+t0)/18446744073709551616∧(x1+y1+t0)/18446744073709551616≤1:=by omega
 have v1:0≤(x1+y1+t0)%18446744073709551616∧(x1+y1+t0)%18446744073709551616<18446744073709551616:=by omega
 generalize (x1+y1+t0)/18446744073709551616=t1 at*;generalize (x1+y1+t0)%18446744073709551616=r1 at*;have m2:x2+y2+t1=(x2+y2+t1)/18446744073709551616*18446744073709551616+(x2+y2+t1)%18446744073709551616:=by omega
 have u2:0≤(x2+y2+t1)/18446744073709551616∧(x2+y2+t1)/18446744073709551616≤1:=by omega
 have v2:0≤(x2+y2+t1)%18446744073709551616∧(x2+y2+t1)%18446744073709551616<18446744073709551616:=by omega
 generalize (x2+y2+t1)/18446744073709551616=t2 at*;generalize (x2+y2+t1)%18446744073709551616=r2 at*;have m3:x3+y3+t2=(x3+y3+t2)/18446744073709551616*18446744073709551616+(x3+y3+t2)%18446744073709551616:=by omega
 have u3:0≤(x3+y3+t2)/18446744073709551616∧(x3+y3+t2)/18446744073709551616≤1:=by omega
 have v3:0≤(x3+y3+t2)%18446744073709551616∧(x3+y3+t2)%18446744073709551616<18446744073709551616:=by omega
 generalize (x3+y3+t2)/18446744073709551616=t3 at*;generalize (x3+y3+t2)%18446744073709551616=r3 at*;rw[bh (by omega),bh (by omega),bh (by omega),bh (by omega)];have z:t3=0:=by omega
 subst z;refine⟨_,rfl,⟨v0.1,v0.2,v1.1,v1.2,v2.1,v2.2,v3.1,v3.2⟩,rfl,?_⟩;simp only;omega
theorem Ka(a b:bw)(ha:W4 a)(hb:W4 b)(hle:val b≤val a):
  gg a.neg a.size.1 a.size.2.1 a.size.2.2.1 a.size.2.2.2 b.neg b.size.1 b.size.2.1 b.size.2.2.1 b.size.2.2.2=some (uK a.neg (val a-val b).toNat):=by
 obtain⟨w,h1,h2,h3,h4⟩:=TW ha hb hle;rw[h1,Y4 h2,h3,h4]
theorem Nq(k:Nat)(s:Bool)(A B:Nat)(hv:A+B<115792089237316195423570985008687907853269984665640564039457584007913129639936):
  fh (k+1) (uK s A) (uK s B)=some (uK s (A+B)):=by
 have va:=yP s A (by omega);have vb:=yP s B (by omega);have hv':val (uK s A)+val (uK s B)<115792089237316195423570985008687907853269984665640564039457584007913129639936:=by rw[va,vb];omega
 obtain⟨w,h1,h2,h3,h4⟩:=Oq (k:=k) (Ci s A) (Ci s B) hv';have h5:val w=((A+B:Nat):Int):=by
  have:val w=val (uK s A)+val (uK s B):=h4;rw[this,va,vb];omega
 have h6:=Y2 h2 h3 h5;rw[h6]at h1;exact h1
def PI(s:Bool)(A:Nat):Int:=if s=true then -(A:Int)else(A:Int)
theorem aaz{a b:Int}:decide (c3 a b<0)=decide (a<b):=by
 unfold c3;by_cases h:a<b
 ·simp[h]
 ·rw[if_neg h];split<;>simp[h]
theorem KL(k:Nat)(s:Bool)(A B:Nat)(hA:A<115792089237316195423570985008687907853269984665640564039457584007913129639936)(hB:B<115792089237316195423570985008687907853269984665640564039457584007913129639936):
  ik (k+1) (uK s A) (uK s B)=some (if A<B then uK (!s) (B-A)else uK s (A-B)):=by
 rw[ik,show(uK s A).neg=s from rfl,show(uK s B).neg=s from rfl];simp only[beq_self_eq_true,Bool.not_true,ai];have e:=Vl s s A B hA hB;have e':iB (bw.mk s ((uK s A).size.1,(uK s A).size.2.1,(uK s A).size.2.2.1,(uK s A).size.2.2.2)) (bw.mk s ((uK s B).size.1,(uK s B).size.2.1,(uK s B).size.2.2.1,(uK s B).size.2.2.2))=some (c3 (A:Int) (B:Int)):=e;rw[e',au,aaz];by_cases h:A<B
 ·rw[show decide ((A:Int)<(B:Int))=true by simpa using h,ap,if_pos h];unfold gG;rw[au];have va:=yP s A hA;have vb:=yP (!s) B hB;have q:=Ka (uK (!s) B) (uK s A) (Ci _ _) (Ci _ _) (by rw[va,vb];omega);rw[va,vb,show((B:Int)-(A:Int)).toNat=B-A by omega]at q;exact q
 ·rw[show decide ((A:Int)<(B:Int))=false by simpa using h,ai,if_neg h];have va:=yP s A hA;have vb:=yP s B hB;have q:=Ka (uK s A) (uK s B) (Ci _ _) (Ci _ _) (by rw[va,vb];omega);rw[va,vb,show((A:Int)-(B:Int)).toNat=A-B by omega]at q;exact q
theorem Xy(s t:Bool)(A B:Nat)(hv:A+B<115792089237316195423570985008687907853269984665640564039457584007913129639936):
  ∃u C,fh aH (uK s A) (uK t B)=some (uK u C)∧PI u C=PI s A+PI t B∧C≤A+B:=by
 have hB:aH=1152921504606846974+1+1:=rfl;by_cases h:s=t
 ·subst h;rw[hB,Nq _ s A B hv];refine⟨s,A+B,rfl,?_,iO _⟩;unfold PI;cases s<;>simp<;>omega
 ·rw[hB,fh,show(uK s A).neg=s from rfl,show(uK t B).neg=t from rfl];have hb:=Gi s t h;rw[hb.1,ap];unfold gG;rw[au];show∃u C,am (ik (1152921504606846974+1) (uK s A) (uK (!t) B)) _=_∧_;rw[hb.2,KL _ s A B (by omega) (by omega),au,IK];by_cases hlt:A<B
  ·rw[if_pos hlt];refine⟨!s,B-A,rfl,?_,by omega⟩;unfold PI;revert h;cases s<;>cases t<;>simp<;>omega
  ·rw[if_neg hlt];refine⟨s,A-B,rfl,?_,by omega⟩;unfold PI;revert h;cases s<;>cases t<;>simp<;>omega
theorem fd(x s:Nat):(x:Int).fdiv (2^s)=((x/2^s:Nat):Int):=by
 rw[Int.fdiv_eq_ediv_of_nonneg _ (Int.le_of_lt (Int.pow_pos (by decide)))]
 push_cast;rfl
abbrev QT:=Int→Int→Int→Int→Bool→Int→Int→Int→Int→Int→Option (bw×bw)
end Go.Proofs.YtpiohnabdhpphaaGreatDoor
namespace Go.Proofs.YtpiohnabdhpphaaGreatDoor
open Go Go.SX Go.SX.Cal Go.Lib
def sg(b:Bool)(z:Int):Int:=if b=true then -z else z
structure I3(w:dj)(z:Int)(N:Nat):Prop where
 d:gu w.d
 t:E0 w.d
 l:w.d.length≤N
 b:w.below=true→w.d≠[]
 v:z=sg w.below (bm w.d)
theorem TF{l:List Int}(h:gu l)(t:E0 l):bm l=0↔l=[]:=by
 constructor
 ·intro e;cases hl:l with
  |nil=>rfl
  |cons x m=>
   have h1:=vZ h t (by simp[hl]);have h2:=u5 (l.length-1);omega
 ·rintro rfl;rfl
theorem YU(b:Bool)(d:List Int)(N:Nat)(hl:d.length≤N)(hN:N<1000000)(hd:gu d):∃w,sV b d=some w∧I3 w (sg b (bm d)) N:=by
 obtain⟨d',h1,h2,h3,h4,h5⟩:=Rh b d (by omega) hd;refine⟨_,h1,h2,h3,by show d'.length≤N;omega,?_,?_⟩
 ·intro hb e;have hb:(b&&decide (0<d'.length))=true:=hb;have e:d'=[]:=e;simp[e]at hb
 ·show sg b (bm d)=sg (b&&decide (0<d'.length)) (bm d');cases hz:d' with
  |nil=>rw[hz]at h4;simp[bm]at h4;simp[←h4,sg,bm]
  |cons x m=>rw[←hz,h4];simp[hz]
theorem I4(n:Int)(h0: -9223372036854775808≤n)(h1:n≤9223372036854775807):∃w,pf n=some w∧I3 w n 19:=by
 unfold pf;obtain⟨d,e1,e2,e3,e4,e5⟩:=Do h0 h1 aH [] n (by simp) (by rw[aF];simp) F6 (fun _=>MO) (by
  simp only[List.length_nil];have:cw (19-0)=10000000000000000000:=by decide
  rw[this];unfold ab;split<;>omega) h0 h1 (by simp[bm,cw])
 refine⟨_,e1,e2,e3,e4,?_,?_⟩
 ·intro hb e;simp at hb e;rw[e]at e5;simp[bm,ab,hb]at e5;omega
 ·show n=sg (decide (n<0)) (bm d);rw[e5];unfold sg ab;by_cases h:n<0
  ·simp[h]
  ·simp[h]
theorem Gg:∀{l:List Int} {j:Nat} {e c:Int},l[j]? =some e→bm (l.set j (e+c))=bm l+cw j*c
 |[],j,e,c,h=>by simp at h
 |x::l,0,e,c,h=>by
  simp at h;subst h;simp only[List.set_cons_zero,bm,cw];omega
 |x::l,j+1,e,c,h=>by
  have ih:=Gg (l:=l) (j:=j) (e:=e) (c:=c) (by simpa using h);simp only[List.set_cons_succ,bm,cw,ih];rw[Int.mul_add,Int.mul_assoc (cw j),Int.mul_left_comm 10 (cw j) c];omega
theorem Sq(a:Nat):∀b,cw (a+b)=cw a*cw b
 |0=>by simp[cw]
 |b+1=>by rw[←Nat.add_assoc];simp only[cw];rw[Sq a b,Int.mul_assoc]
theorem Rv:∀n,cw n=((10^n:Nat):Int)
 |0=>rfl
 |n+1=>by simp only[cw,Rv n,Nat.pow_succ];push_cast;rfl
theorem I3.mono{w:dj}{z:Int}{N M:Nat}(h:I3 w z N)(hm:N≤M):I3 w z M:=⟨h.d,h.t,Nat.le_trans h.l hm,h.b,h.v⟩
theorem I3.abs{w:dj}{z:Int}{N:Nat}(h:I3 w z N):bm w.d=(z.natAbs:Int):=by
 have h0:=jo h.d;have hv:=h.v;unfold sg at hv;split at hv<;>omega
theorem I3.nil{w:dj}{z:Int}{N:Nat}(h:I3 w z N):(w.d.length=0)↔z=0:=by
 have:=h.abs;have h2:=TF h.d h.t;rw[List.length_eq_zero_iff,←h2];omega
theorem I3.tight{w:dj}{z:Int}{N M:Nat}(h:I3 w z N)(hz:(z.natAbs:Int)<cw M):I3 w z M:=by
 refine⟨h.d,h.t,?_,h.b,h.v⟩;by_cases hn:w.d=[]
 ·simp[hn]
 ·have h1:=vZ h.d h.t hn;rw[h.abs]at h1;apply Classical.byContradiction;intro hc;have:=xy (show M≤w.d.length-1 by omega);omega
theorem ab8{a b:dj}{x y:Int}{N M:Nat}(ha:I3 a x N)(hb:I3 b y M)(hN:N<900)(hM:M<900):∃w,vI a b=some w∧I3 w (x+y) (max N M+1):=by
 have hla:=ha.l;have hlb:=hb.l;have hva:=ha.v;have hvb:=hb.v;unfold vI;by_cases he:a.below=b.below
 ·rw[show(a.below==b.below)=true by simp[he],ap];obtain⟨r,h1,h2,h3,h4,h5⟩:=Xt ha.d hb.d ha.t hb.t (by omega) (by omega);rw[h1,au];obtain⟨w,g1,g2⟩:=YU a.below r (max N M+1) (by omega) (by omega) h2;rw[g1,au];refine⟨w,rfl,?_⟩;have e:sg a.below (bm r)=x+y:=by
   rw[h4,hva,hvb,←he];unfold sg;split<;>omega
  rw[←e];exact g2
 ·rw[show(a.below==b.below)=false by simp[he],ai];obtain⟨r,h1,h2,h3,h4⟩:=MH ha.d hb.d ha.t hb.t (by omega) (by omega);rw[h1,au];have hs:∀z:Int,sg b.below z= - sg a.below z:=fun z=>by
   revert he;unfold sg;cases a.below<;>cases b.below<;>simp
  by_cases hr:0≤r
  ·have hle:bm b.d≤bm a.d:=by
    unfold c3 at h4;rw[if_neg (by omega)]at h4;by_cases h:bm a.d<bm b.d
    ·rw[if_pos h]at h4;split at h4<;>omega
    ·omega
   rw[show decide ((0:Int)≤r)=true by simpa using hr,ap];obtain⟨q,g1,g2,g3,g4,g5⟩:=Om ha.d hb.d hb.t (by omega) hle;rw[g1,au];obtain⟨w,k1,k2⟩:=YU a.below q (max N M+1) (by omega) (by omega) g2;rw[k1,au];refine⟨w,rfl,?_⟩;have e:sg a.below (bm q)=x+y:=by
    rw[g4,hva,hvb,hs];unfold sg;split<;>omega
   rw[←e];exact k2
  ·have hle:bm a.d≤bm b.d:=by
    unfold c3 at h4;rw[if_pos (by omega)]at h4;by_cases h:bm a.d<bm b.d
    ·omega
    ·rw[if_neg h]at h4;split at h4<;>omega
   rw[show decide ((0:Int)≤r)=false by simp;omega,ai];obtain⟨q,g1,g2,g3,g4,g5⟩:=Om hb.d ha.d ha.t (by omega) hle;rw[g1,au];obtain⟨w,k1,k2⟩:=YU b.below q (max N M+1) (by omega) (by omega) g2;rw[k1,au];refine⟨w,rfl,?_⟩;have e:sg b.below (bm q)=x+y:=by
    rw[g4,hva,hvb,hs,hs];unfold sg;split<;>omega
   rw[←e];exact k2
theorem wL:∀k,bm (List.replicate k 0)=0
 |0=>rfl
 |k+1=>by rw[List.replicate_succ];simp[bm,wL k]
theorem acr{a:dj}{x:Int}{N k:Nat}(ha:I3 a x N)(hN:N<900)(hk:k<900):∃w,BG a (k:Int)=some w∧I3 w (x*cw k) (N+k):=by
 unfold BG;by_cases h:a.d.length=0
 ·rw[show((a.d.length:Int)==0)=true by simp[h],ap];have hx:=ha.nil.1 h;subst hx;exact⟨a,rfl,by rw[Int.zero_mul];exact ha.mono (by omega)⟩
 ·have hl:=ha.l;rw[show((a.d.length:Int)==0)=false by simpa using h,ai,bh (by omega),bh (by simp;omega)];refine⟨_,rfl,⟨?_,?_,?_,?_,?_⟩⟩
  ·intro d hd;rcases List.mem_append.1 hd with h1|h1
   ·have:=List.eq_of_mem_replicate h1;omega
   ·exact ha.d d h1
  ·intro d hd;have hne:a.d≠[]:=by rintro e;simp[e]at h
   simp only at hd;cases hq:a.d.getLast? with
   |none=>exact absurd (List.getLast?_eq_none_iff.1 hq) hne
   |some z=>
    rw[List.getLast?_append,hq]at hd;simp at hd;exact ha.t d (by rw[hq,hd])
  ·simp;omega
  ·intro hb e;simp at e;exact ha.b hb e.2
  ·simp only;rw[fK,wL,List.length_replicate,ha.v,show((k:Int)).toNat=k by omega];unfold sg;split
   ·rw[Int.neg_mul,Int.mul_comm,Int.zero_add]
   ·rw[Int.mul_comm,Int.zero_add]
theorem VA{l:List Int}{j:Nat}{v B:Int}(h:∀e∈l,0≤e∧e≤B)(hv:0≤v∧v≤B):∀e∈l.set j v,0≤e∧e≤B:=by
 intro e he;rcases List.mem_or_eq_of_mem_set he with h1|h1
 ·exact h e h1
 ·subst h1;exact hv
theorem Uf{b:dj}(hb:gu b.d)(lb:b.d.length<400)(rec1:List Int→Int→Option dj)(i:Nat)(hi:i<400)(e1:Int)(h0:0≤e1)(h9:e1≤9):∀(m f k:Nat) (l:List Int) (B:Int),
  k+m=b.d.length→m<f→i+b.d.length<l.length→0≤B→(∀e∈l,0≤e∧e≤B)→B+81*m≤100000000→
  ∃l',lG rec1 b (i:Int) e1 f l (k:Int)=rec1 l' ((i+1:Nat):Int)∧l'.length=l.length∧(∀e∈l',0≤e∧e≤B+81*m)∧bm l'=bm l+cw (i+k)*(e1*bm (b.d.drop k)):=by
 intro m;induction m with
 |zero=>
  intro f k l B hk hf hl hB hb' hbd;obtain⟨f,rfl⟩:∃q,f=q+1:=⟨f-1,by omega⟩
  rw[lG,show decide ((k:Int)<(b.d.length:Int))=false by simp;omega,ai];unfold xT;rw[j9 (by omega) (by omega)];refine⟨l,rfl,rfl,by simpa using hb',?_⟩;rw[List.drop_of_length_le (by omega)];simp[bm]
 |succ m ih=>
  intro f k l B hk hf hl hB hb' hbd;obtain⟨f,rfl⟩:∃q,f=q+1:=⟨f-1,by omega⟩
  have hkb:k<b.d.length:=by omega
  have rb:=hb b.d[k] (gd hkb);have hik:i+k<l.length:=by omega
  have re:=hb' l[i+k] (gd hik);have hpr:0≤e1*b.d[k]∧e1*b.d[k]≤81:=by
   refine⟨Int.mul_nonneg h0 rb.1,?_⟩;have h1:e1*b.d[k]≤9*b.d[k]:=Int.mul_le_mul_of_nonneg_right h9 rb.1;omega
  rw[lG,aS hkb,ap,aB hkb,au,j9 (x:=(i:Int)+(k:Int)) (by omega) (by omega),show(i:Int)+(k:Int)=((i+k:Nat):Int) by omega,aB hik,au,j9 (x:=e1*b.d[k]) (by omega) (by omega),j9 (by omega) (by omega),j9 (x:=(k:Int)+1) (by omega) (by omega),show((i+k:Nat):Int).toNat=i+k by omega,show(k:Int)+1=((k+1:Nat):Int) by omega];obtain⟨l',q1,q2,q3,q4⟩:=ih f (k+1) (l.set (i+k) (l[i+k]+e1*b.d[k])) (B+81) (by omega) (by omega) (by simpa using hl) (by omega) (VA (fun e he=>by have:=hb' e he;omega) (by omega)) (by omega);refine⟨l',q1,by simpa using q2,fun e he=>by have:=q3 e he;omega,?_⟩;rw[q4,Gg (e:=l[i+k]) (by simp[hik]),List.drop_eq_getElem_cons hkb];simp only[bm];rw[show i+(k+1)=(i+k)+1 by omega];simp only[cw];rw[Int.mul_add e1,Int.mul_add,Int.mul_assoc (cw (i+k)),Int.mul_left_comm e1 10];omega
theorem S3{a b:dj}(ha:gu a.d)(hb:gu b.d)(la:a.d.length<400)(lb:b.d.length<400):∀(m f i:Nat) (l:List Int) (B:Int),
  i+m=a.d.length→m<f→l.length=a.d.length+b.d.length+1→0≤B→(∀e∈l,0≤e∧e≤B)→B+32400*m≤100000000→
  ∃l',gR a b f l (i:Int)=tL a b l'∧l'.length=l.length∧(∀e∈l',0≤e∧e≤B+32400*m)∧bm l'=bm l+cw i*(bm (a.d.drop i)*bm b.d):=by
 intro m;induction m with
 |zero=>
  intro f i l B hi hf hl hB hb' hbd;obtain⟨f,rfl⟩:∃q,f=q+1:=⟨f-1,by omega⟩
  rw[gR,show decide ((i:Int)<(a.d.length:Int))=false by simp;omega,ai];refine⟨l,rfl,rfl,by simpa using hb',?_⟩;rw[List.drop_of_length_le (by omega)];simp[bm]
 |succ m ih=>
  intro f i l B hi hf hl hB hb' hbd;obtain⟨f,rfl⟩:∃q,f=q+1:=⟨f-1,by omega⟩
  have hia:i<a.d.length:=by omega
  have ra:=ha a.d[i] (gd hia);rw[gR,aS hia,ap,aB hia,au];obtain⟨l1,q1,q2,q3,q4⟩:=Uf hb lb (gR a b f) i (by omega) a.d[i] ra.1 ra.2 b.d.length aH 0 l B (by omega) (by rw[aF];omega) (by omega) hB hb' (by omega);rw[show((0:Nat):Int)=0 from rfl]at q1;rw[q1];obtain⟨l',k1,k2,k3,k4⟩:=ih f (i+1) l1 (B+32400) (by omega) (by omega) (by omega) (by omega) (fun e he=>by have:=q3 e he;omega) (by omega);refine⟨l',k1,by omega,fun e he=>by have:=k3 e he;omega,?_⟩;rw[k4,q4,List.drop_eq_getElem_cons hia];simp only[bm,List.drop_zero,Nat.add_zero,cw];rw[Int.add_mul,Int.mul_add,Int.mul_assoc (cw i),Int.mul_assoc 10];omega
theorem Tw{a b:dj}:∀(m f i:Nat) (l:List Int),
  i+m+1=l.length→m<f→l.length<1000→(∀e∈l,0≤e)→gu (l.take i)→(∀e,l[i]? =some e→e≤100000000)→(∀e∈l.drop (i+1),e≤50000000)→
  ∃l',lM a b f l (i:Int)=tJ a b l'∧l'.length=l.length∧(∀e∈l',0≤e)∧gu (l'.take (l.length-1))∧bm l'=bm l:=by
 intro m;induction m with
 |zero=>
  intro f i l hi hf hl h0 hd hA hB;obtain⟨f,rfl⟩:∃q,f=q+1:=⟨f-1,by omega⟩
  rw[lM,au,j9 (by omega) (by omega),show decide ((i:Int)+1<((l.length:Nat):Int))=false by simp;omega,ai];exact⟨l,rfl,rfl,h0,by rw[show l.length-1=i by omega];exact hd,rfl⟩
 |succ m ih=>
  intro f i l hi hf hl h0 hd hA hB;obtain⟨f,rfl⟩:∃q,f=q+1:=⟨f-1,by omega⟩
  have hi0:i<l.length:=by omega
  have hi1:i+1<l.length:=by omega
  have ei:l[i]? =some l[i]:=dK hi0;have ei1:l[i+1]? =some l[i+1]:=dK hi1;have b0:=h0 l[i] (gd hi0);have b1:=h0 l[i+1] (gd hi1);have c0:=hA _ ei;have c1:=hB l[i+1] (by rw[List.drop_eq_getElem_cons hi1];exact List.mem_cons_self);have hdv:IntKind.i64.wrap (l[i].tdiv 10)=l[i]/10:=by rw[W9 b0,j9 (by omega) (by omega)]
  have s1:(l.set (i+1) (l[i+1]+l[i]/10))[i]? =some l[i]:=by rw[List.getElem?_set_ne (by omega),ei]
  have at6:at? (l.set (i+1) (l[i+1]+l[i]/10)) (i:Int)=some l[i]:=by unfold at?;simp only[Int.toNat_natCast,s1];simp
  rw[lM,au,j9 (x:=(i:Int)+1) (by omega) (by omega),show(i:Int)+1=((i+1:Nat):Int) by omega,aS hi1,ap,aB hi1,au,aB hi0,au,hdv,j9 (by omega) (by omega),show((i+1:Nat):Int).toNat=i+1 by omega,at6,au,show((i:Nat):Int).toNat=i by omega,UE b0];have hv:bm ((l.set (i+1) (l[i+1]+l[i]/10)).set i (l[i]%10))=bm l:=by
   have h1:=Gg (c:=l[i]%10-l[i]) s1;rw[show l[i]+(l[i]%10-l[i])=l[i]%10 by omega,Gg ei1]at h1;rw[h1];simp only[cw];have:cw i*(l[i]%10-l[i])= -(cw i*10*(l[i]/10)):=by
    rw[Int.mul_assoc,←Int.mul_neg];congr 1;omega
   omega
  have p1:∀e∈(l.set (i+1) (l[i+1]+l[i]/10)).set i (l[i]%10),0≤e:=by
   intro e he;rcases List.mem_or_eq_of_mem_set he with h1|h1
   ·rcases List.mem_or_eq_of_mem_set h1 with h2|h2
    ·exact h0 e h2
    ·omega
   ·omega
  have p2:gu (((l.set (i+1) (l[i+1]+l[i]/10)).set i (l[i]%10)).take (i+1)):=by
   intro d hdm;rw[List.take_succ_eq_append_getElem (by simpa using hi0)]at hdm;rcases List.mem_append.1 hdm with h1|h1
   ·rw[List.take_set_of_le (by omega),List.take_set_of_le (by omega)]at h1;exact hd d h1
   ·simp at h1;subst h1;omega
  have p3:∀e,((l.set (i+1) (l[i+1]+l[i]/10)).set i (l[i]%10))[i+1]? =some e→e≤100000000:=by
   intro e he;rw[List.getElem?_set_ne (by omega),List.getElem?_set_self hi1]at he;have:=Option.some.inj he;omega
  have p4:∀e∈((l.set (i+1) (l[i+1]+l[i]/10)).set i (l[i]%10)).drop (i+1+1),e≤50000000:=by
   intro e he;rw[List.drop_set_of_lt (by omega),List.drop_set_of_lt (by omega)]at he;refine hB e ?_;rw[List.drop_eq_getElem_cons hi1];exact List.mem_cons_of_mem _ he
  obtain⟨l',k1,k2,k3,k4,k5⟩:=ih f (i+1) ((l.set (i+1) (l[i+1]+l[i]/10)).set i (l[i]%10)) (by simp;omega) (by omega) (by simpa using hl) p1 p2 p3 p4;exact⟨l',k1,by simpa using k2,k3,by simpa using k4,by rw[k5,hv]⟩
theorem aaF(s t:Bool)(a b:Int):sg (!(s==t)) (a*b)=sg s a*sg t b:=by
 unfold sg;cases s<;>cases t<;>simp[Int.neg_mul,Int.mul_neg]
theorem ae5{a b:dj}{x y:Int}{N M:Nat}(ha:I3 a x N)(hb:I3 b y M)(hN:N<400)(hM:M<400):∃w,yA a b=some w∧I3 w (x*y) (N+M+1):=by
 have hla:=ha.l;have hlb:=hb.l;unfold yA;rw[j9 (x:=(a.d.length:Int)+(b.d.length:Int)) (by omega) (by omega),j9 (by omega) (by omega),au,bh (by omega),show((a.d.length:Int)+(b.d.length:Int)+1).toNat=a.d.length+b.d.length+1 by omega];obtain⟨l,h1,h2,h3,h4⟩:=S3 ha.d hb.d (by omega) (by omega) a.d.length aH 0 (List.replicate (a.d.length+b.d.length+1) 0) 0 (by omega) (by rw[aF];omega) (by simp) (by omega) (fun e he=>by have:=List.eq_of_mem_replicate he;omega) (by omega);rw[show((0:Nat):Int)=0 from rfl]at h1;rw[h1];unfold tL;have hl:l.length=a.d.length+b.d.length+1:=by simpa using h2
 have hB:∀e∈l,0≤e∧e≤50000000:=fun e he=>by have:=h3 e he;omega
 obtain⟨l',g1,g2,g3,g4,g5⟩:=Tw (a:=a) (b:=b) (a.d.length+b.d.length) aH 0 l (by omega) (by rw[aF];omega) (by omega) (fun e he=>(hB e he).1) (by simp[gu]) (fun e he=>by have:=hB e (List.mem_of_getElem? he);omega) (fun e he=>(hB e (List.mem_of_mem_drop he)).2);rw[show((0:Nat):Int)=0 from rfl]at g1;rw[g1];unfold tJ;have hv:bm l'=bm a.d*bm b.d:=by
  rw[g5,h4,wL];simp[cw]
 have hd:gu l':=by
  have hne:a.d.length+b.d.length<l'.length:=by omega
  have e:l'=l'.take (a.d.length+b.d.length)++[l'[a.d.length+b.d.length]]:=by
   rw[←List.take_succ_eq_append_getElem hne,List.take_of_length_le (by omega)]
  rw[hl,show a.d.length+b.d.length+1-1=a.d.length+b.d.length by omega]at g4;have p1:=pJ ha.d;have p2:=pJ hb.d;have n1:=jo ha.d;have n2:=jo hb.d;have hlt:bm a.d*bm b.d<cw (a.d.length+b.d.length):=by
   rw[Sq];have q1:bm a.d*bm b.d≤cw a.d.length*bm b.d:=Int.mul_le_mul_of_nonneg_right (by omega) n2;have q2:cw a.d.length*bm b.d<cw a.d.length*cw b.d.length:=Int.mul_lt_mul_of_pos_left p2 (p10n _);omega
  have hlast:=g3 l'[a.d.length+b.d.length] (gd hne);have hval:=fK (l'.take (a.d.length+b.d.length)) [l'[a.d.length+b.d.length]];rw[←e,List.length_take,Nat.min_eq_left (by omega),hv]at hval;simp only[bm,Int.mul_zero,Int.add_zero]at hval;have n3:=jo g4;have hz:l'[a.d.length+b.d.length]=0:=by
   apply Classical.byContradiction;intro hc;have:cw (a.d.length+b.d.length)*1≤cw (a.d.length+b.d.length)*l'[a.d.length+b.d.length]:=Int.mul_le_mul_of_nonneg_left (by omega) (Int.le_of_lt (p10n _));omega
  rw[e,hz];exact D9 g4 (by omega) (by omega)
 obtain⟨w,k1,k2⟩:=YU (!(a.below==b.below)) l' (N+M+1) (by omega) (by omega) hd;rw[k1,au];refine⟨w,rfl,?_⟩;have e:sg (!(a.below==b.below)) (bm l')=x*y:=by rw[hv,aaF,←ha.v,←hb.v]
 rw[←e];exact k2
def adL:ac:=⟨0,0,0,ByteArray.empty,[]⟩
end Go.Proofs.YtpiohnabdhpphaaGreatDoor
namespace Go.Proofs.YtpiohnabdhpphaaGreatDoor
open Go Go.SX Go.SX.Cal Go.Lib
open Go.IntKind (i64)
def IL:Nat→Nat→List Int
 |0,_=>[]
 |k+1,N=>IL k (N/256)++[((N%256:Nat):Int)]
theorem Al:∀k N,(IL k N).length=k
 |0,N=>rfl
 |k+1,N=>by simp[IL,Al k]
theorem R4(a:Nat):∀b N,IL (a+b) N=IL a (N/256^b)++IL b N
 |0,N=>by simp[IL]
 |b+1,N=>by
  rw[←Nat.add_assoc];simp only[IL];rw[R4 a b (N/256),List.append_assoc,Nat.div_div_eq_div_mul,Nat.pow_succ,Nat.mul_comm 256]
theorem aaa(N:Nat):IL 8 N=[((N/72057594037927936%256:Nat):Int),((N/281474976710656%256:Nat):Int),((N/1099511627776%256:Nat):Int),((N/4294967296%256:Nat):Int),((N/16777216%256:Nat):Int),((N/65536%256:Nat):Int),((N/256%256:Nat):Int),((N%256:Nat):Int)]:=by
 simp only[IL,Nat.div_div_eq_div_mul,List.nil_append,List.cons_append]
theorem OL(N:Nat):IL 8 (N%18446744073709551616)=IL 8 N:=by
 rw[aaa,aaa];congr 1
 ·congr 1;omega
 congr 1
 ·congr 1;omega
 congr 1
 ·congr 1;omega
 congr 1
 ·congr 1;omega
 congr 1
 ·congr 1;omega
 congr 1
 ·congr 1;omega
 congr 1
 ·congr 1;omega
 congr 1;congr 1;omega
theorem Zg(N s:Nat)(hs:s≤64):IntKind.u8.wrap (((N:Nat):Int).fdiv (2^s))=((N/2^s%256:Nat):Int):=by
 rw[fd];have:∀x:Int,IntKind.u8.wrap x=x%256:=by
  intro x;simp only[IntKind.wrap,IntKind.bits,IntKind.signed];simp
 rw[this];generalize N/2^s=q;omega
theorem U5(N:Nat)(b:List Int)(hb:b.length≤4294967000):sd (N:Int) b=some ((),b++IL 8 N):=by
 unfold sd;have e56:min (56:Int).toNat (IntKind.u64).bits=56:=rfl;have e48:min (48:Int).toNat (IntKind.u64).bits=48:=rfl;have e40:min (40:Int).toNat (IntKind.u64).bits=40:=rfl;have e32:min (32:Int).toNat (IntKind.u64).bits=32:=rfl;have e24:min (24:Int).toNat (IntKind.u64).bits=24:=rfl;have e16:min (16:Int).toNat (IntKind.u64).bits=16:=rfl;have e8:min (8:Int).toNat (IntKind.u64).bits=8:=rfl;have e0:min (0:Int).toNat (IntKind.u64).bits=0:=rfl;simp only[e56,e48,e40,e32,e24,e16,e8,e0,au];rw[Zg N 56 (by omega),Zg N 48 (by omega),Zg N 40 (by omega),Zg N 32 (by omega),Zg N 24 (by omega),Zg N 16 (by omega),Zg N 8 (by omega),Zg N 0 (by omega)];rw[bh (by omega),bh (by simp;omega),bh (by simp;omega),bh (by simp;omega),bh (by simp;omega),bh (by simp;omega),bh (by simp;omega),bh (by simp;omega)];rw[aaa];simp
theorem PA(rec1:List Int→Bool→List Int→Int→Option (List Int))(l1:List Int)(i:Nat){d:List Int}(hd:gu d)(hl:d.length<1000):∀(m f:Nat) (q:List Int) (r:Int),m≤d.length→m<f→q.length=d.length→gu (q.drop m)→0≤r→r<256→bm (d.drop m)=256*bm (q.drop m)+r→
  ∃q' r',n9 rec1 l1 d (i:Int) f q r ((m:Int)-1)=wW rec1 l1 (i:Int) q' r'∧q'.length=d.length∧gu q'∧0≤r'∧r'<256∧bm d=256*bm q'+r':=by
 intro m;induction m with
 |zero=>
  intro f q r hm hf hq hdq r0 r1 hv;obtain⟨f,rfl⟩:∃q,f=q+1:=⟨f-1,by omega⟩
  rw[n9,show decide ((0:Int)≤((0:Nat):Int)-1)=false from rfl,ai];simp only[List.drop_zero]at hdq hv;exact⟨q,r,rfl,hq,hdq,r0,r1,hv⟩
 |succ m ih=>
  intro f q r hm hf hq hdq r0 r1 hv;obtain⟨f,rfl⟩:∃q,f=q+1:=⟨f-1,by omega⟩
  have hmd:m<d.length:=by omega
  have hmq:m<q.length:=by omega
  have rd:=hd d[m] (gd hmd);have e10:i64.wrap (10*r)=10*r:=j9 (by omega) (by omega);have en:i64.wrap (10*r+d[m])=10*r+d[m]:=j9 (by omega) (by omega);have ed:i64.wrap ((10*r+d[m]).tdiv 256)=(10*r+d[m])/256:=by
   rw[Int.tdiv_eq_ediv_of_nonneg (by omega),j9 (by omega) (by omega)]
  have em:(10*r+d[m]).tmod 256=(10*r+d[m])%256:=Int.tmod_eq_emod_of_nonneg (by omega);rw[n9,show((m+1:Nat):Int)-1=(m:Int) by omega,show decide ((0:Int)≤(m:Int))=true by simp,ap,aB hmd,au,e10,en,ed,em,au,au,aB hmq,au,j9 (x:=(m:Int)-1) (by omega) (by omega),Int.toNat_natCast];have hdrop:(q.set m ((10*r+d[m])/256)).drop m=((10*r+d[m])/256)::q.drop (m+1):=by
   rw[List.drop_eq_getElem_cons (by simpa using hmq)];congr 1
   ·simp
   ·rw[List.drop_set_of_lt (by omega)]
  refine ih f _ _ (by omega) (by omega) (by simpa using hq) ?_ (by omega) (by omega) ?_
  ·rw[hdrop];exact TN hdq (by omega) (by omega)
  ·rw[hdrop,List.drop_eq_getElem_cons hmd];simp only[bm];rw[hv];omega
theorem acW{x:Int}(h0:0≤x)(h1:x<256):IntKind.u8.wrap x=x:=by
 simp only[IntKind.wrap,IntKind.bits,IntKind.signed];simp;omega
theorem PE:∀(j f:Nat) (b:Bool) (d S:List Int) (N:Nat),j<1000→j<f→gu d→d.length<900→bm d=(N:Int)→
  jG f (List.replicate j 0++S) b d ((j:Int)-1)=some (IL j N++S):=by
 intro j;induction j with
 |zero=>
  intro f b d S N hj hf hd hl hv;obtain⟨f,rfl⟩:∃q,f=q+1:=⟨f-1,by omega⟩
  rw[jG,show decide ((0:Int)≤((0:Nat):Int)-1)=false from rfl,ai];rfl
 |succ j ih=>
  intro f b d S N hj hf hd hl hv;obtain⟨f,rfl⟩:∃q,f=q+1:=⟨f-1,by omega⟩
  rw[jG,show((j+1:Nat):Int)-1=(j:Int) by omega,show decide ((0:Int)≤(j:Int))=true by simp,ap,bh (by omega),j9 (by omega) (by omega),Int.toNat_natCast];obtain⟨q',r',h1,h2,h3,h4,h5,h6⟩:=PA (jG f) (List.replicate (j+1) 0++S) j hd (by omega) d.length aH (List.replicate d.length 0) 0 (iO _) (by rw[aF];omega) (by simp) (by simp[gu]) (by omega) (by omega) (by simp[bm]);rw[h1];unfold wW;have hlt:j<(List.replicate (j+1) (0:Int)++S).length:=by simp;omega
  obtain⟨d',g1,g2,g3,g4,g5⟩:=Rh false q' (by omega) h3;rw[aB hlt,au,g1,au,acW h4 h5,j9 (by omega) (by omega),Int.toNat_natCast];have hset:(List.replicate (j+1) (0:Int)++S).set j r'=List.replicate j 0++(r'::S):=by
   rw[List.replicate_succ',List.append_assoc,List.set_append_right _ _ (by simp)];simp
  have hr:r'=((N%256:Nat):Int):=by rw[hv]at h6;omega
  have hd':bm d'=((N/256:Nat):Int):=by rw[g4];rw[hv]at h6;omega
  rw[hset,ih f _ d' (r'::S) (N/256) (by omega) (by omega) g2 (by omega) hd'];simp only[IL];rw[hr,List.append_assoc];rfl
theorem Wh{w:dj}{z:Int}{N:Nat}(h:I3 w z N)(hN:N<900)(hz:0≤z)(k:Nat)(hk:k<1000):zR w (k:Int)=some (IL k z.toNat):=by
 have hl:=h.l;have ha:=h.abs;unfold zR;rw[bh (by omega),j9 (by omega) (by omega),Int.toNat_natCast];have:=PE k aH w.below w.d [] z.toNat hk (by rw[aF];omega) h.d (by omega) (by omega);rw[List.append_nil,List.append_nil]at this;exact this
theorem p40:cw 40=10000000000000000000000000000000000000000:=by decide
theorem PN(n:Nat)(hn:n≤16):∀(m f i:Nat) (b:Bool) (d:List Int),i+m=n→m<f→1≤i→I3 ⟨b,d⟩ ((128*256^(i-1):Nat):Int) 40→∃w,pp (n:Int) f b d (i:Int)=some w∧I3 w ((128*256^(n-1):Nat):Int) 40:=by
 intro m;induction m with
 |zero=>
  intro f i b d hi hf h1 hA;obtain⟨f,rfl⟩:∃q,f=q+1:=⟨f-1,by omega⟩
  rw[pp,show decide ((i:Int)<(n:Int))=false by simp;omega,ai];exact⟨⟨b,d⟩,rfl,by rw[show n=i by omega];exact hA⟩
 |succ m ih=>
  intro f i b d hi hf h1 hA;obtain⟨f,rfl⟩:∃q,f=q+1:=⟨f-1,by omega⟩
  obtain⟨u,u1,u2⟩:=I4 256 (by decide) (by decide);obtain⟨v,v1,v2⟩:=ae5 hA u2 (by omega) (by omega);rw[pp,show decide ((i:Int)<(n:Int))=true by simp;omega,ap,u1,au,v1,au,j9 (by omega) (by omega),show(i:Int)+1=((i+1:Nat):Int) by omega];have e:((128*256^(i-1):Nat):Int)*256=((128*256^(i+1-1):Nat):Int):=by
   rw[show i+1-1=(i-1)+1 by omega,Nat.pow_succ,←Nat.mul_assoc,Int.natCast_mul (128*256^(i-1)) 256];rfl
  rw[e]at v2;have hp:(256:Nat)^(i+1-1)≤256^15:=Nat.pow_le_pow_right (by decide) (by omega);have hp2:(256:Nat)^15=1329227995784915872903807060280344576:=by decide
  exact ih f (i+1) v.below v.d (by omega) (by omega) (by omega) (v2.tight (by rw[p40];omega))
theorem Zm(n:Nat)(h1:1≤n)(hn:n≤16):∃w,BC (n:Int)=some w∧I3 w ((128*256^(n-1):Nat):Int) 40:=by
 unfold BC;obtain⟨u,u1,u2⟩:=I4 128 (by decide) (by decide);rw[u1,au];exact PN n hn (n-1) aH 1 u.below u.d (by omega) (by rw[aF];omega) (iO _) (u2.mono (by omega))
mutual
def GL:ac→List Int
 |⟨k,n,sc,s,it⟩=>
  if k=0 then[8]
  else if k=1 then[IntKind.u8.wrap k,IntKind.u8.wrap n]
  else if k=2∨k=5 then IntKind.u8.wrap k::IL 8 (n+9223372036854775808).toNat
  else if k=3 then IntKind.u8.wrap k::(IL 16 (n*cw (12-sc).toNat+170141183460469231731687303715884105728).toNat++[IntKind.u8.wrap sc])
  else if k=4 then IntKind.u8.wrap k::(oj s++[0])
  else IntKind.u8.wrap k::(H1 it++[0])
def H1:List ac→List Int
 |[]=>[]
 |x::l=>(1::GL x)++H1 l
end
inductive Sn:ac→Prop where
 |mk (v:ac) (h:df v=true) (hi:∀x∈v.items,Sn x):Sn v
theorem Sn.pl{v:ac}(h:Sn v):df v=true:=by cases h;assumption
theorem Sn.it{v:ac}(h:Sn v):∀x∈v.items,Sn x:=by cases h;assumption
theorem Jp{f:ac→Int→Bool×Int}:∀{l:List ac} {z:Int},(pk f l z).1=true→∀x∈l,∃z',(f x z').1=true
 |[],z,_,x,hx=>by cases hx
 |v::l,z,h,x,hx=>by
  simp only[pk]at h;by_cases hv:(f v z).1=true
  ·rw[if_pos hv]at h;rcases List.mem_cons.1 hx with rfl|hx
   ·exact⟨z,hv⟩
   ·exact Jp h x hx
  ·rw[if_neg hv]at h;cases h
theorem LJ:∀(d:Nat) (v:ac) (z:Int),(kd d v z).1=true→Sn v
 |0,v,z,h=>by simp[kd]at h
 |d+1,v,z,h=>by
  simp only[kd]at h;by_cases hc:256<Ia v z∨df v=false
  ·rw[if_pos hc]at h;cases h
  ·rw[if_neg hc]at h;rw[not_or]at hc;exact .mk v (by simpa using hc.2) (fun x hx=>by
    obtain⟨z',hz⟩:=Jp h x hx;exact LJ d x z' hz)
theorem R9{v:ac}(h:qt v=true):Sn v:=LJ 4 v 0 h
theorem JE{v:ac}(h:df v=true):(v.kind=2∨v.kind=3∨v.kind=5→v.n.natAbs<1000000000000000000)∧(v.kind=3→0≤v.scale∧v.scale≤12)∧0≤v.kind∧v.kind≤7:=by
 unfold df at h;simp only at h;by_cases h0:v.kind=0
 ·exact⟨by omega,by omega,by omega,by omega⟩
 by_cases h1:v.kind=1
 ·exact⟨by omega,by omega,by omega,by omega⟩
 by_cases h2:v.kind=2
 ·simp[h2]at h;exact⟨by omega,by omega,by omega,by omega⟩
 by_cases h3:v.kind=3
 ·simp[h3]at h;exact⟨by omega,by omega,by omega,by omega⟩
 by_cases h4:v.kind=4
 ·exact⟨by omega,by omega,by omega,by omega⟩
 by_cases h5:v.kind=5
 ·simp[h5]at h;exact⟨by omega,by omega,by omega,by omega⟩
 by_cases h6:v.kind=6
 ·exact⟨by omega,by omega,by omega,by omega⟩
 by_cases h7:v.kind=7
 ·exact⟨by omega,by omega,by omega,by omega⟩
 ·simp[h0,h1,h2,h3,h4,h5,h6,h7]at h
theorem Fu(s:ByteArray):(oj s).length=s.size:=by
 unfold oj;rw[List.length_map,Array.length_toList];rfl
mutual
theorem Bv:∀v,(GL v).length+5≤30*bE v
 |⟨k,n,sc,s,it⟩=>by
  have h1:=NK it;have h3:=gx it;have h2:=Fu s;simp only[GL,bE];split
  ·simp;omega
  split
  ·simp;omega
  split
  ·simp[Al];omega
  split
  ·simp[Al];omega
  split
  ·simp;omega
  ·simp;omega
theorem NK:∀l,(H1 l).length≤30*cN l
 |[]=>by simp[H1]
 |x::l=>by
  have h1:=Bv x;have h2:=NK l;simp only[H1,cN,List.length_append,List.length_cons];omega
end
theorem aeq{x:Int}(h0:0≤x)(h1:x<18446744073709551616):IntKind.u64.wrap x=x:=by rw[wu];omega
theorem abw(n:Int)(h0: -9223372036854775808≤n)(h1:n≤9223372036854775807):IntKind.u64.wrap ((IntKind.u64.wrap n)+(9223372036854775808:Int))=(((n+9223372036854775808).toNat:Nat):Int):=by
 rw[wu,wu];omega
theorem aax{s:Bool}{A:Nat}(hA:A<1000000000000000000000000000000)(b:List Int)(hb:b.length≤4294966000):pm (uK s A) b=some ((),b++IL 16 (PI s A+170141183460469231731687303715884105728).toNat):=by
 unfold pm;have e1:dx (uK (decide ((1:Int)<0)) (Int.natAbs 1)) (9223372036854775808:Int)=some (uK false 9223372036854775808):=Gp false 1 9223372036854775808 (by decide) (by decide) (by decide);have e2:dx (uK false 9223372036854775808) (9223372036854775808:Int)=some (uK false 85070591730234615865843651857942052864):=Gp false 9223372036854775808 9223372036854775808 (by decide) (by decide) (by decide);have e3:dx (uK false 85070591730234615865843651857942052864) (2:Int)=some (uK false 170141183460469231731687303715884105728):=Gp false 85070591730234615865843651857942052864 2 (by decide) (by decide) (by decide);obtain⟨u,C,p1,p2,p3⟩:=Xy false s 170141183460469231731687303715884105728 A (by omega);rw[NW 1 (by decide) (by decide),au,IK,e1,au,IK,e2,au,IK,e3,au,IK,IK,p1,au];have hs:PI false 170141183460469231731687303715884105728=170141183460469231731687303715884105728:=rfl;rw[hs]at p2;have hsA: -1000000000000000000000000000000<PI s A∧PI s A<1000000000000000000000000000000:=by unfold PI;split<;>omega
 have hu:u=false∧(C:Int)=PI s A+170141183460469231731687303715884105728:=by
  unfold PI at p2 hsA⊢;cases u
  ·simp at p2;exact⟨rfl,by omega⟩
  ·simp at p2;exfalso;omega
 obtain⟨rfl,hC⟩:=hu;have hCn:(PI s A+170141183460469231731687303715884105728).toNat=C:=by omega
 rw[hCn,show(uK false C).size.2.1=((wd C 1:Nat):Int)from rfl,show(uK false C).size.1=((wd C 0:Nat):Int)from rfl,U5 _ _ (by omega),au];simp only;rw[U5 _ _ (by rw[List.length_append,Al];omega),au];simp only;rw[List.append_assoc,show(16:Nat)=8+8 from rfl,R4 8 8,wd0,wd1,OL,OL,show(256:Nat)^8=18446744073709551616 from by decide]
theorem OW(v:ac):GL v=if v.kind=0 then[8]else if v.kind=1 then[IntKind.u8.wrap v.kind,IntKind.u8.wrap v.n]else if v.kind=2∨v.kind=5 then IntKind.u8.wrap v.kind::IL 8 (v.n+9223372036854775808).toNat
  else if v.kind=3 then IntKind.u8.wrap v.kind::(IL 16 (v.n*cw (12-v.scale).toNat+170141183460469231731687303715884105728).toNat++[IntKind.u8.wrap v.scale])
  else if v.kind=4 then IntKind.u8.wrap v.kind::(oj v.s++[0])else IntKind.u8.wrap v.kind::(H1 v.items++[0]):=by
 cases v;simp only[GL]
theorem Lz{l:List ac}{i:Nat}(h:i<l.length):H1 (l.drop i)=(1::GL l[i])++H1 (l.drop (i+1)):=by
 rw[List.drop_eq_getElem_cons h];simp only[H1]
theorem S8(q:ac→List Int→Option (Unit×List Int))(v:ac)(hl:cN v.items<100000000)(hq:∀x∈v.items,∀b:List Int,b.length+30*bE x≤4294960000→q x b=some ((),b++GL x)):∀(m f i:Nat) (b:List Int),i+m=v.items.length→m<f→b.length+30*cN (v.items.drop i)+10≤4294960000→
  mO q v f b (i:Int)=some ((),b++(H1 (v.items.drop i)++[0])):=by
 have hlen:=gx v.items;intro m;induction m with
 |zero=>
  intro f i b hi hf hb;obtain⟨f,rfl⟩:∃q,f=q+1:=⟨f-1,by omega⟩
  rw[mO,show decide ((i:Int)<(v.items.length:Int))=false by simp;omega,ai,List.drop_of_length_le (by omega)];unfold zc;rw[bh (by omega)];rfl
 |succ m ih=>
  intro f i b hi hf hb;obtain⟨f,rfl⟩:∃q,f=q+1:=⟨f-1,by omega⟩
  have hil:i<v.items.length:=by omega
  have hsz:cN (v.items.drop i)=bE v.items[i]+cN (v.items.drop (i+1)):=by rw[List.drop_eq_getElem_cons hil];simp only[cN]
  have hkl:=Bv v.items[i];have hpos:=rY v.items[i];rw[mO,aS hil,ap,aB hil,au,bh (by omega),hq _ (gd hil) _ (by simp;omega),au,aq hil (by omega)];simp only;rw[ih f (i+1) _ (by omega) (by omega) (by simp;omega),Lz hil];simp
theorem aeR:∀(k:Nat) (v:ac) (b:List Int),Sn v→bE v<k→bE v<100000000→b.length+30*bE v≤4294960000→iA k v b=some ((),b++GL v):=by
 intro k;induction k with
 |zero=>intro v b _ h;omega
 |succ k ih=>
  intro v b hs hk hv hb;obtain⟨p1,p2,p3⟩:=JE hs.pl;have hpos:=rY v;have hsz:=qS v;have hbl:=Fu v.s;rw[iA,OW];by_cases h0:v.kind=0
  ·rw[show(v.kind==0)=true by simpa using h0,ap,bh (by omega),if_pos h0]
  rw[show(v.kind==0)=false by simpa using h0,ai,if_neg h0,bh (by omega)];by_cases h1:v.kind=1
  ·rw[show(v.kind==1)=true by simpa using h1,ap,bh (by simp;omega),if_pos h1];simp
  rw[show(v.kind==1)=false by simpa using h1,ai,if_neg h1];have j25:v.kind=2∨v.kind=5→m8 (iA k) v b true=some ((),b++(IntKind.u8.wrap v.kind::IL 8 (v.n+9223372036854775808).toNat)):=by
   intro h25;have hn:=p1 (by omega);unfold m8;rw[ap,abw v.n (by omega) (by omega),au,U5 _ _ (by simp;omega),au];simp
  have jno:v.kind≠2→v.kind≠5→m8 (iA k) v b false=some ((),b++(if v.kind=3 then IntKind.u8.wrap v.kind::(IL 16 (v.n*cw (12-v.scale).toNat+170141183460469231731687303715884105728).toNat++[IntKind.u8.wrap v.scale])
    else if v.kind=4 then IntKind.u8.wrap v.kind::(oj v.s++[0])else IntKind.u8.wrap v.kind::(H1 v.items++[0]))):=by
   intro h2 h5;unfold m8;rw[ai];by_cases h3:v.kind=3
   ·have hn:=p1 (by omega);obtain⟨s0,s12⟩:=p2 h3;obtain⟨d,hd⟩:∃d:Nat,12-v.scale=(d:Int):=⟨(12-v.scale).toNat,by omega⟩
    have hpd:(10:Nat)^d≤10^12:=Nat.pow_le_pow_right (by decide) (by omega);have hA:v.n.natAbs*10^d≤999999999999999999*10^12:=Nat.mul_le_mul (by omega) hpd;have hA':v.n.natAbs*10^d<1000000000000000000000000000000:=Nat.lt_of_le_of_lt hA (by decide);rw[show(v.kind==3)=true by simpa using h3,ap,if_pos h3,j9 (by omega) (by omega),hd,Tx v.n d (by omega) (by omega) (by omega) (Nat.lt_trans hA' (by decide)),au,IK,aax hA' _ (by simp;omega),au];simp only;have hsg:PI (decide (v.n<0)) (v.n.natAbs*10^d)=v.n*cw d:=by
     unfold PI;rw[Rv,Int.natCast_mul];by_cases h:v.n<0
     ·rw[if_pos (by simpa using h),show((v.n.natAbs:Nat):Int)= -v.n by omega,Int.neg_mul,Int.neg_neg]
     ·rw[if_neg (by simpa using h),show((v.n.natAbs:Nat):Int)=v.n by omega]
    rw[bh (by simp[Al];omega),hsg,Int.toNat_natCast];simp
   rw[show(v.kind==3)=false by simpa using h3,ai,if_neg h3];by_cases h4:v.kind=4
   ·rw[show(v.kind==4)=true by simpa using h4,ap,if_pos h4,bh (by simp;omega),bh (by simp;omega)];simp
   rw[show(v.kind==4)=false by simpa using h4,ai,if_neg h4];have hq:∀x∈v.items,∀b:List Int,b.length+30*bE x≤4294960000→iA k x b=some ((),b++GL x):=fun x hx b hb=>by
    have:=gA hx;exact ih x b (hs.it x hx) (by omega) (by omega) hb
   have:=S8 (iA k) v (by omega) hq v.items.length aH 0 (b++[IntKind.u8.wrap v.kind]) (by omega) (by have:=gx v.items;rw[aF];omega) (by simp;omega);rw[show((0:Nat):Int)=0 from rfl,List.drop_zero]at this;rw[this];simp
  by_cases h2:v.kind=2
  ·rw[show(v.kind==2)=true by simpa using h2,ap,j25 (.inl h2),if_pos (.inl h2)]
  rw[show(v.kind==2)=false by simpa using h2,ai];by_cases h5:v.kind=5
  ·rw[show(v.kind==5)=true by simpa using h5,j25 (.inr h5),if_pos (.inr h5)]
  rw[show(v.kind==5)=false by simpa using h5,jno h2 h5,if_neg (show¬(v.kind=2∨v.kind=5) by omega)]
theorem TH(q:ac→Option (List Int))(v:ac)(hl:cN v.items<100000000)(hq:∀x∈v.items,q x=some (GL x)):∀(m f i:Nat) (b:List Int),i+m=v.items.length→m<f→b.length+30*cN (v.items.drop i)+10≤4294960000→
  rJ q v f b (i:Int)=some (b++(H1 (v.items.drop i)++[0])):=by
 have hlen:=gx v.items;intro m;induction m with
 |zero=>
  intro f i b hi hf hb;obtain⟨f,rfl⟩:∃q,f=q+1:=⟨f-1,by omega⟩
  rw[rJ,show decide ((i:Int)<(v.items.length:Int))=false by simp;omega,ai,List.drop_of_length_le (by omega)];unfold C0 nS;rw[bh (by omega)];rfl
 |succ m ih=>
  intro f i b hi hf hb;obtain⟨f,rfl⟩:∃q,f=q+1:=⟨f-1,by omega⟩
  have hil:i<v.items.length:=by omega
  have hsz:cN (v.items.drop i)=bE v.items[i]+cN (v.items.drop (i+1)):=by rw[List.drop_eq_getElem_cons hil];simp only[cN]
  have hkl:=Bv v.items[i];have hpos:=rY v.items[i];rw[rJ,aS hil,ap,bh (by omega),aB hil,au,hq _ (gd hil),au,bh (by simp;omega),aq hil (by omega)];rw[ih f (i+1) _ (by omega) (by omega) (by simp;omega),Lz hil];simp
theorem aeT:∀(k:Nat) (v:ac),Sn v→bE v<k→bE v<100000000→nT k v=some (GL v):=by
 intro k;induction k with
 |zero=>intro v _ h;omega
 |succ k ih=>
  intro v hs hk hv;obtain⟨p1,p2,p3⟩:=JE hs.pl;have hpos:=rY v;have hsz:=qS v;have hbl:=Fu v.s;rw[nT,OW];by_cases h0:v.kind=0
  ·rw[show(v.kind==0)=true by simpa using h0,ap,if_pos h0]
  rw[show(v.kind==0)=false by simpa using h0,ai,if_neg h0];by_cases h1:v.kind=1
  ·rw[show(v.kind==1)=true by simpa using h1,ap,bh (by simp),if_pos h1];rfl
  rw[show(v.kind==1)=false by simpa using h1,ai,if_neg h1];have j25:v.kind=2∨v.kind=5→qU (nT k) v true=some (IntKind.u8.wrap v.kind::IL 8 (v.n+9223372036854775808).toNat):=by
   intro h25;have hn:=p1 (by omega);unfold qU nS;obtain⟨a,a1,a2⟩:=I4 v.n (by omega) (by omega);obtain⟨h,hh1,hh2⟩:=Zm 8 (by decide) (by decide);obtain⟨c,c1,c2⟩:=ab8 a2 hh2 (by omega) (by omega);have e:((128*256^(8-1):Nat):Int)=9223372036854775808:=by decide
   rw[e]at c2;have hf:=Wh c2 (by omega) (by omega) 8 (by omega);rw[ap,a1,au,show((8:Int))=((8:Nat):Int)from rfl,hh1,au,c1,au,hf,au,bh (by simp[Al])];rfl
  have jno:v.kind≠2→v.kind≠5→qU (nT k) v false=some (if v.kind=3 then IntKind.u8.wrap v.kind::(IL 16 (v.n*cw (12-v.scale).toNat+170141183460469231731687303715884105728).toNat++[IntKind.u8.wrap v.scale])
    else if v.kind=4 then IntKind.u8.wrap v.kind::(oj v.s++[0])else IntKind.u8.wrap v.kind::(H1 v.items++[0])):=by
   intro h2 h5;unfold qU nS;rw[ai];by_cases h3:v.kind=3
   ·have hn:=p1 (by omega);obtain⟨s0,s12⟩:=p2 h3;obtain⟨d,hd⟩:∃d:Nat,12-v.scale=(d:Int):=⟨(12-v.scale).toNat,by omega⟩
    obtain⟨a,a1,a2⟩:=I4 v.n (by omega) (by omega);obtain⟨t,t1,t2⟩:=acr a2 (k:=d) (by omega) (by omega);obtain⟨h,hh1,hh2⟩:=Zm 16 (by decide) (by decide);obtain⟨c,c1,c2⟩:=ab8 t2 hh2 (by omega) (by omega);have e:((128*256^(16-1):Nat):Int)=170141183460469231731687303715884105728:=by decide
    rw[e]at c2;have hp12:=xy (show d≤12 by omega);have hp0:=p10n d;have e12:cw 12=1000000000000:=by decide
    have hz:0≤v.n*cw d+170141183460469231731687303715884105728:=by
     have hb1: -(1000000000000000000*cw d)≤v.n*cw d:=by
      rw[←Int.neg_mul];exact Int.mul_le_mul_of_nonneg_right (by omega) (by omega)
     omega
    have hf:=Wh c2 (by omega) hz 16 (by omega);unfold rG;rw[show(v.kind==3)=true by simpa using h3,ap,if_pos h3,a1,au,j9 (by omega) (by omega),hd,t1,au,au,show((16:Int))=((16:Nat):Int)from rfl,hh1,au,c1,au,hf,au,bh (by simp[Al]),bh (by simp[Al]),Int.toNat_natCast];simp
   rw[show(v.kind==3)=false by simpa using h3,ai,if_neg h3];by_cases h4:v.kind=4
   ·rw[show(v.kind==4)=true by simpa using h4,ap,if_pos h4,bh (by simp;omega),bh (by simp;omega)];simp
   rw[show(v.kind==4)=false by simpa using h4,ai,if_neg h4];have hq:∀x∈v.items,nT k x=some (GL x):=fun x hx=>by
    have:=gA hx;exact ih x (hs.it x hx) (by omega) (by omega)
   have:=TH (nT k) v (by omega) hq v.items.length aH 0 [IntKind.u8.wrap v.kind] (by omega) (by have:=gx v.items;rw[aF];omega) (by simp;omega);rw[show((0:Nat):Int)=0 from rfl,List.drop_zero]at this;rw[this];simp
  by_cases h2:v.kind=2
  ·rw[show(v.kind==2)=true by simpa using h2,ap,j25 (.inl h2),if_pos (.inl h2)]
  rw[show(v.kind==2)=false by simpa using h2,ai];by_cases h5:v.kind=5
  ·rw[show(v.kind==5)=true by simpa using h5,j25 (.inr h5),if_pos (.inr h5)]
  rw[show(v.kind==5)=false by simpa using h5,jno h2 h5,if_neg (show¬(v.kind=2∨v.kind=5) by omega)]
def Yp(l:List ac)(i:Nat):Bool:= !qt (l.getD i adL)
theorem Qj{l:List ac}{i:Nat}(h:i<l.length):Yp l i= !qt l[i]:=by unfold Yp;simp[List.getD,dK h]
def yc:List ac→List Int
 |[]=>[]
 |x::l=>GL x++yc l
def Pd(l:List ac):List Int:=if(first (Yp l) 0 l.length).isSome=true then[]else yc l
theorem Is{l:List ac}{i:Nat}(h:i<l.length):yc (l.drop i)=GL l[i]++yc (l.drop (i+1)):=by
 rw[List.drop_eq_getElem_cons h];simp only[yc]
theorem LX{l:List ac}{i:Nat}(h:i<l.length):cN (l.drop i)=bE l[i]+cN (l.drop (i+1)):=by rw[List.drop_eq_getElem_cons h];simp only[cN]
theorem adk(l:List ac)(hl:cN l<100000000):cx l=some (first (Yp l) 0 l.length).isSome:=by
 have hlen:=gx l;unfold cx dQ;have h:=ul (f:=fun k i=>aJ l k (i:Int)) (n:=l.length) (P:=Yp l) (A:=fun i=>some (i:Int)) (B:=some (-1))
  (fun k i hi=>by
   have:=gA (gd hi);show aJ l (k+1) (i:Int)=_;rw[aJ];unfold Dj;rw[aS hi,ap,aB hi,au,A9 _ (by omega),au,au,Qj hi,aq hi (by omega),aD])
  (fun k=>by
   show aJ l (k+1) (l.length:Int)=_;rw[aJ,show decide ((l.length:Int)<(l.length:Int))=false by simp,ai];rfl)
  aH 0 (by omega) (by rw[aF];omega)
 have h':aJ l aH 0=(first (Yp l) 0 l.length).elim (some (-1)) (fun i=>some (i:Int)):=h;rw[h'];cases first (Yp l) 0 l.length with
 |none=>rfl
 |some i=>simp[Option.elim,au]
theorem SZ{l:List ac}(hl:cN l<100000000)(hs:∀x∈l,Sn x):∀(m f i:Nat) (b:List Int),i+m=l.length→m<f→b.length+30*cN (l.drop i)≤4294960000→pn l f b (i:Int)=some (b++yc (l.drop i)):=by
 have hlen:=gx l;intro m;induction m with
 |zero=>
  intro f i b hi hf hb;obtain⟨f,rfl⟩:∃q,f=q+1:=⟨f-1,by omega⟩
  rw[pn,show decide ((i:Int)<(l.length:Int))=false by simp;omega,ai,List.drop_of_length_le (by omega)];unfold B8 qx;rw[bh (by omega)];simp[au,yc]
 |succ m ih=>
  intro f i b hi hf hb;obtain⟨f,rfl⟩:∃q,f=q+1:=⟨f-1,by omega⟩
  have hil:i<l.length:=by omega
  have hsz:=LX hil;have hkl:=Bv l[i];have:=gA (gd hil);rw[pn,aS hil,ap,aB hil,au,aeR aH _ _ (hs _ (gd hil)) (by rw[aF];omega) (by omega) (by omega),au,aq hil (by omega)];simp only;rw[ih f (i+1) _ (by omega) (by omega) (by simp;omega),Is hil,List.append_assoc]
theorem T8{l:List ac}(hl:cN l<100000000):∀(m f i:Nat) (b:List Int),i+m=l.length→m<f→b.length+30*cN (l.drop i)≤4294960000→rP l f b (i:Int)=some (if(first (Yp l) i l.length).isSome=true then[]else b++yc (l.drop i)):=by
 have hlen:=gx l;intro m;induction m with
 |zero=>
  intro f i b hi hf hb;obtain⟨f,rfl⟩:∃q,f=q+1:=⟨f-1,by omega⟩
  have:i=l.length:=by omega
  subst this;rw[rP,show decide ((l.length:Int)<(l.length:Int))=false by simp,ai,uq,List.drop_length];simp[yc,DE]
 |succ m ih=>
  intro f i b hi hf hb;obtain⟨f,rfl⟩:∃q,f=q+1:=⟨f-1,by omega⟩
  have hil:i<l.length:=by omega
  have hsz:=LX hil;have hkl:=Bv l[i];have:=gA (gd hil);rw[rP,aS hil,ap,aB hil,au,Mn _ (by omega),au,uc hil,Qj hil];cases hs:qt l[i]
  ·rw[Bool.not_false,ap];simp
  ·rw[Bool.not_true,ai,aeT aH _ (R9 hs) (by rw[aF];omega) (by omega),au,bh (by omega),aq hil (by omega)];rw[ih f (i+1) _ (by omega) (by omega) (by simp;omega),Is hil,List.append_assoc];simp
theorem aeZ(l:List ac)(hl:cN l<100000000):Eb l=some (Pd l):=by
 have hlen:=gx l;unfold Eb Pd;rw[adk l hl,au];cases hf:first (Yp l) 0 l.length with
 |some i=>rfl
 |none=>
  have hg:=zp.1 hf;have hs:∀x∈l,Sn x:=fun x hx=>by
   obtain⟨i,hi,rfl⟩:=List.getElem_of_mem hx;have:=hg i (Nat.zero_le _) hi;rw[Qj hi]at this;exact R9 (by simpa using this)
  have:=SZ hl hs l.length aH 0 [] (by omega) (by rw[aF];omega) (by simp;omega);rw[List.drop_zero,List.nil_append]at this;simp only[Option.isSome_none,ai,Bool.false_eq_true,if_false];exact this
theorem aeI(l:List ac)(hl:cN l<100000000):GD l=some (Pd l):=by
 have hlen:=gx l;unfold GD Pd;have:=T8 hl l.length aH 0 [] (by omega) (by rw[aF];omega) (by simp;omega);rw[List.drop_zero,List.nil_append]at this;exact this
theorem JW:∀l,(yc l).length≤30*cN l
 |[]=>by simp[yc]
 |x::l=>by
  have:=Bv x;have:=JW l;simp only[yc,cN,List.length_append];omega
theorem Wb(l:List ac):(Pd l).length≤30*cN l:=by
 unfold Pd;split
 ·simp
 ·exact JW l
theorem aa5(b:List Int)(hb:b.length<1000000000):∀(m f i:Nat) (x:Int),i+m=b.length→m<f→∃h,jh b f x (i:Int)=some h∧ri b f x (i:Int)=some h:=by
 intro m;induction m with
 |zero=>
  intro f i x hi hf;obtain⟨f,rfl⟩:∃q,f=q+1:=⟨f-1,by omega⟩
  rw[jh,ri,show decide ((i:Int)<(b.length:Int))=false by simp;omega,ai,ai];exact⟨x,rfl,rfl⟩
 |succ m ih=>
  intro f i x hi hf;obtain⟨f,rfl⟩:∃q,f=q+1:=⟨f-1,by omega⟩
  have hil:i<b.length:=by omega
  rw[jh,ri,aS hil,ap,ap,aB hil];simp only[au];rw[aq hil hb];exact ih f (i+1) _ (by omega) (by omega)
theorem XD(v:ac)(hv:bE v<10000000):∃h,zF v=some h∧BA v=some h:=by
 have hl:cN [v]<100000000:=by simp only[cN];omega
 have hk:=Wb [v];simp only[cN]at hk;obtain⟨h,h1,h2⟩:=aa5 (Pd [v]) (by omega) (Pd [v]).length aH 0 14695981039346656037 (by omega) (by rw[aF];omega);refine⟨h,?_,?_⟩
 ·unfold zF xW;rw[aeZ _ hl,au,show((0:Int))=((0:Nat):Int)from rfl,h1];rfl
 ·unfold BA JN;rw[aeI _ hl,au,show((0:Int))=((0:Nat):Int)from rfl,h2];rfl
end Go.Proofs.YtpiohnabdhpphaaGreatDoor
namespace Go.Proofs.YtpiohnabdhpphaaGreatDoor.Tm
open Go Go.SX Go.SX.Cal
open Go.IntKind (i64)
theorem ap{β:Type}(x y:Option β):ak true x y=x:=rfl
theorem ai{β:Type}(x y:Option β):ak false x y=y:=rfl
theorem aD{β:Type}(b:Bool)(x y:Option β):ak b x y=if b=true then x else y:=by cases b<;>rfl
theorem xB{a b:Int}(hb:0<b)(hb2:b≤1000000)(h1: -1000000000000000≤a)(h2:a≤1000000000000000):pg a b=some (a/b,a%b):=by
 unfold pg rA;rw[bh (by omega),bh (by omega)];have hq: -1000000000000000≤a/b∧a/b≤1000000000000000:=by
  have e:a=b*(a/b)+a%b:=(Int.mul_ediv_add_emod a b).symm;have r0:=Int.emod_nonneg a (show b≠0 by omega);have r1:=Int.emod_lt_of_pos a hb;constructor
  ·apply Int.le_ediv_of_mul_le hb;have: -1000000000000000*b≤-1000000000000000*1:=by apply Int.mul_le_mul_of_nonpos_left<;>omega
   omega
  ·apply Int.ediv_le_of_le_mul hb;have:1000000000000000*1≤1000000000000000*b:=by apply Int.mul_le_mul_of_nonneg_left<;>omega
   omega
 have r0:=Int.emod_nonneg a (show b≠0 by omega);have r1:=Int.emod_lt_of_pos a hb;rw[Int.tdiv_eq_ediv,Int.tmod_eq_emod];have hs:b.sign=1:=Int.sign_eq_one_of_pos hb;have hn:(b.natAbs:Int)=b:=by omega
 by_cases hc:0≤a∨b∣a
 ·simp only[hc,if_true,Int.natCast_zero,Int.ofNat_zero,Int.cast_ofNat_Int,Int.sub_zero,Int.add_zero];rw[show decide (a%b<0)=false by simp;omega,ai,j9 (by omega) (by omega)]
 ·simp only[hc,if_false,hs,hn];have hne:a%b≠0:=fun h=>hc (.inr (Int.dvd_of_emod_eq_zero h))
  rw[show decide (a%b-b<0)=true by simp;omega,ap];simp(disch:=omega) only[j9];rw[show a/b+1-1=a/b by omega,show a%b-b+b=a%b by omega]
theorem days_eq{y m d:Int}(h1: -1000000≤y)(h2:y≤1000000)(h3:1≤m)(h4:m≤12)(h5: -100≤d)(h6:d≤100):ud y m d=some (Cal.days y m d):=by
 have key:∀y' m',-1000001≤y'→y'≤1000001→3≤m'→m'≤14→sZ d y' m'=some (y'/400*146097+S (y'%400)+s8 (m'-3)+d-1-719468):=by
  intro y' m' a1 a2 a3 a4;unfold sZ;rw[xB (by decide) (by decide) (by omega) (by omega)];simp only[ay];have hr:0≤y'%400∧y'%400≤399:=by omega
  simp(disch:=omega) only[j9,Int.tdiv_eq_ediv_of_nonneg];unfold S s8;congr 1;omega
 unfold ud Cal.days;by_cases hm:m≤2
 ·simp only[hm,decide_true,ap,if_true];simp(disch:=omega) only[j9];rw[key _ _ (by omega) (by omega) (by omega) (by omega),show m+12-3=m+9 by omega]
 ·simp only[hm,decide_false,ai,if_false];rw[key _ _ (by omega) (by omega) (by omega) (by omega)]
theorem YF{y:Int}(h0:0≤y)(h1:y≤399):0≤S y∧S y≤146096:=by unfold S;omega
theorem Yf{n:Int}(h1: -1000000000≤n)(h2:n≤1000000000):Cz n=some (Cal.date n):=by
 unfold Cz w6;rw[j9 (by omega) (by omega),xB (by decide) (by decide) (by omega) (by omega)];simp only[ay];have hr0:0≤(n+719468)%146097:=by omega
 have hr1:(n+719468)%146097≤146096:=by omega
 have he: -10000≤(n+719468)/146097∧(n+719468)/146097≤10000:=by omega
 obtain⟨b0,b1⟩:=Gn hr0 hr1;obtain⟨s0,s1,_⟩:=Zb hr0 hr1;unfold Cal.date;simp only;generalize (n+719468)%146097=r at*;generalize (n+719468)/146097=era at*;have e1:i64.wrap (i64.wrap (i64.wrap (r-i64.wrap (r.tdiv 1460))+i64.wrap (r.tdiv 36524))-i64.wrap (r.tdiv 146096))=r-r/1460+r/36524-r/146096:=by
  simp(disch:=omega) only[j9,Int.tdiv_eq_ediv_of_nonneg]
 rw[e1];have e2:i64.wrap ((r-r/1460+r/36524-r/146096).tdiv 365)=yr r:=by
  rw[Int.tdiv_eq_ediv_of_nonneg (by omega)];exact j9 (by unfold yr at*;omega) (by unfold yr at*;omega)
 rw[e2];generalize yr r=y at*;have hS:=YF b0 b1;have e3:i64.wrap (i64.wrap (i64.wrap (y*365)+i64.wrap (y.tdiv 4))-i64.wrap (y.tdiv 100))=S y:=by
  simp(disch:=omega) only[j9,Int.tdiv_eq_ediv_of_nonneg];unfold S;omega
 rw[e3];have hk:0≤r-S y∧r-S y≤365:=by omega
 rw[j9 (x:=r-S y) (by omega) (by omega)];generalize r-S y=k at*;have e4:i64.wrap ((i64.wrap (i64.wrap (5*k)+2)).tdiv 153)=(5*k+2)/153:=by
  simp(disch:=omega) only[j9,Int.tdiv_eq_ediv_of_nonneg]
 rw[e4];have hm:0≤(5*k+2)/153∧(5*k+2)/153≤11:=by omega
 generalize (5*k+2)/153=m at*;unfold s8;simp(disch:=omega) only[j9,Int.tdiv_eq_ediv_of_nonneg];by_cases hc:(12:Int)<m+3
 ·simp only[hc,decide_true,ap,if_true,gt_iff_lt]
 ·simp only[hc,decide_false,ai,if_false,gt_iff_lt]
def civ(s:Int):pM:=⟨(Cal.date (s/86400)).1,(Cal.date (s/86400)).2.1,(Cal.date (s/86400)).2.2,s%86400/3600,s%86400%3600/60,s%86400%60⟩
theorem civil_eq{s:Int}(h1: -1000000000000≤s)(h2:s≤1000000000000):xQ s=some (civ s):=by
 unfold xQ;rw[xB (by decide) (by decide) (by omega) (by omega)];simp only[ay];rw[Yf (by omega) (by omega)];simp only[ay];have:0≤s%86400∧s%86400<86400:=by omega
 unfold civ;generalize s%86400=t at*;simp(disch:=omega) only[j9,Int.tdiv_eq_ediv_of_nonneg,Int.tmod_eq_emod_of_nonneg]
theorem Jo{y m d:Int}(h1: -20000≤y)(h2:y≤20000)(h3:1≤m)(h4:m≤12)(h5: -100≤d)(h6:d≤100): -10000000≤Cal.days y m d∧Cal.days y m d≤10000000:=by
 unfold Cal.days S s8;split<;>omega
def sec(c:pM):Int:=Cal.days c.year c.month c.day*86400+c.hour*3600+c.minute*60+c.second
structure afe(c:pM):Prop where
 y0: -20000≤c.year
 y1:c.year≤20000
 m0:1≤c.month
 m1:c.month≤12
 d0: -100≤c.day
 d1:c.day≤100
 h0:0≤c.hour
 h1:c.hour≤23
 i0:0≤c.minute
 i1:c.minute≤59
 s0:0≤c.second
 s1:c.second≤59
theorem Ig(a b:Int):(a.tmod b==0)=(a%b==0):=by
 have:a.tmod b=0↔a%b=0:=by
  rw[←Int.dvd_iff_tmod_eq_zero,←Int.dvd_iff_emod_eq_zero]
 by_cases h:a%b=0
 ·rw[h,this.2 h]
 ·have h2:a.tmod b≠0:=fun e=>h (this.1 e)
  rw[beq_eq_false_iff_ne.2 h2,beq_eq_false_iff_ne.2 h]
theorem Yk(y:Int):Cy y=some (decide (Cm y)):=by
 unfold Cy te;have e2:((y.tmod 100) != 0)= !(y%100==0):=by rw[bne,Ig]
 rw[Ig,Ig,e2];unfold Cm;by_cases a:y%4=0
 ·by_cases b:y%100=0
  ·by_cases c:y%400=0
   ·simp[a,b,c,aD]
   ·simp[a,b,c,aD]
  ·simp[a,b,aD]
 ·simp[a,aD]
theorem Tp{y m:Int}:yw y m=some (KO y m):=by
 unfold yw nC KO;rw[Yk];simp only[ay];by_cases h2:m=2
 ·subst h2;by_cases hl:Cm y<;>simp[hl,aD]
 by_cases h4:m=4
 ·subst h4;simp[aD]
 by_cases h6:m=6
 ·subst h6;simp[aD]
 by_cases h9:m=9
 ·subst h9;simp[aD]
 by_cases h11:m=11
 ·subst h11;simp[aD]
 simp[h2,h4,h6,h9,h11,aD]
theorem dim_bound(y m:Int):28≤KO y m∧KO y m≤31:=by
 unfold KO;split<;>(try split)<;>(try split)<;>omega
theorem within_eq(a b c:Int):dZ a b c=some (decide (b≤a∧a≤c)):=by
 unfold dZ nE;by_cases h:b≤a<;>by_cases k:a≤c<;>simp[h,k,aD]
theorem aF:aH=1152921504606846976:=rfl
structure Xn(t:lr):Prop where
 m0:1≤t.month
 m1:t.month≤12
 w0:1≤t.week
 w1:t.week≤5
 d0:1≤t.weekday
 d1:t.weekday≤7
 i0:0≤t.minute
 i1:t.minute≤1440
def atN(t:lr)(y:Int):Int:=Cal.days y t.month 1+(t.weekday-((Cal.days y t.month 1+3)%7+1)+7)%7
def Pn(t:lr)(y:Int):Int:=
 if t.week<5 then atN t y+(t.week-1)*7 else atN t y+7*((Cal.days y t.month 1+KO y t.month-1-atN t y)/7)
theorem Ul{t:lr}(y:Int):Cal.days y t.month 1≤atN t y∧atN t y≤Cal.days y t.month 1+6:=by unfold atN;omega
theorem AM{t:lr}(ht:Xn t)(y:Int):Cal.days y t.month 1≤Pn t y∧Pn t y≤Cal.days y t.month 1+30:=by
 have:=Ul (t:=t) y;have hd:=dim_bound y t.month;have:=ht.w0;unfold Pn;split<;>omega
structure ZOk(z:iY):Prop where
 o0: -720≤z.offset
 o1:z.offset≤720
 s:z.summer=0∨(Xn z.start∧Xn z.stop∧(z.summer=30∨z.summer=60)∧z.start.minute=120∧((z.start.month=3∧10≤z.stop.month∧z.stop.month≤11)∨(z.start.month=10∧z.stop.month=4)))
def Xg(z:iY)(m:Int):Int:=(Cal.date ((m+z.offset*60)/86400)).1
def bgn(z:iY)(y:Int):Int:=Pn z.start y*86400+z.start.minute*60-z.offset*60
def fin(z:iY)(y:Int):Int:=Pn z.stop y*86400+z.stop.minute*60-z.offset*60-z.summer*60
def Tr(z:iY)(m:Int):Prop:=if fin z (Xg z m)≤bgn z (Xg z m)then m<fin z (Xg z m)∨bgn z (Xg z m)≤m else bgn z (Xg z m)≤m∧m<fin z (Xg z m)
instance(z:iY)(m:Int):Decidable (Tr z m):=by unfold Tr;infer_instance
def ahd(z:iY)(m:Int):Int:=if z.summer=0 then z.offset*60 else if Tr z m then z.offset*60+z.summer*60 else z.offset*60
theorem PQ{n:Int}(h1: -5000000≤n)(h2:n≤5000000): -20000≤(Cal.date n).1∧(Cal.date n).1≤20000:=by
 obtain⟨b0,b1⟩:=Gn (r:=(n+719468)%146097) (by omega) (by omega);simp only[Cal.date];split<;>omega
theorem civ_ok{s:Int}(h1: -400000000000≤s)(h2:s≤400000000000):afe (civ s)∧sec (civ s)=s∧1≤(civ s).day∧(civ s).day≤KO (civ s).year (civ s).month:=by
 obtain⟨e,m0,m1,d0,d1⟩:=FD (s/86400);have hy:=PQ (n:=s/86400) (by omega) (by omega);have hd:=dim_bound (Cal.date (s/86400)).1 (Cal.date (s/86400)).2.1;refine⟨⟨hy.1,hy.2,m0,m1,?_,?_,?_,?_,?_,?_,?_,?_⟩,?_,d0,d1⟩
 ·show -100≤(Cal.date (s/86400)).2.2;omega
 ·show(Cal.date (s/86400)).2.2≤100;omega
 ·show 0≤s%86400/3600;omega
 ·show s%86400/3600≤23;omega
 ·show 0≤s%86400%3600/60;omega
 ·show s%86400%3600/60≤59;omega
 ·show 0≤s%86400%60;omega
 ·show s%86400%60≤59;omega
 ·show Cal.days (Cal.date (s/86400)).1 (Cal.date (s/86400)).2.1 (Cal.date (s/86400)).2.2*86400+s%86400/3600*3600+s%86400%3600/60*60+s%86400%60=s;rw[e];omega
def chk(c:pM):Prop:=1≤c.year∧c.year≤9999∧1≤c.month∧c.month≤12∧1≤c.day∧c.day≤KO c.year c.month∧0≤c.hour∧c.hour≤23∧0≤c.minute∧c.minute≤59∧0≤c.second∧c.second≤59
instance(c:pM):Decidable (chk c):=by unfold chk;infer_instance
def J(z:iY)(y:Int):Int:=Cal.days y 1 1*86400-z.offset*60
theorem SD{z:iY}{m y:Int}:Xg z m=y↔J z y≤m∧m<J z (y+1):=by
 unfold Xg J;rw[DL];omega
theorem Sx(y:Int):Cal.days y 3 1=E y∧Cal.days y 4 1=E y+31∧Cal.days y 10 1=E y+214∧Cal.days y 11 1=E y+245∧Cal.days (y+1) 1 1=E y+306∧E y-60≤Cal.days y 1 1∧Cal.days y 1 1≤E y-59:=by
 rw[yY,yY,show y+1-1=y by omega];have hE:=Nj (y-1);rw[show y-1+1=y by omega]at hE;simp only[C3];simp[s8];omega
theorem acv{z:iY}(hz:ZOk z)(hs:z.summer≠0){m:Int}(y:Int)(h1:J z y-1728000≤m)(h2:m<J z y+1728000):ahd z m=if z.start.month=3 then z.offset*60 else z.offset*60+z.summer*60:=by
 obtain⟨o0,o1,hss⟩:=hz;rcases hss with h|⟨t1,t2,hsu,hmin,hmo⟩
 ·exact absurd h hs
 have key:(z.start.month=3∧¬Tr z m)∨(z.start.month≠3∧Tr z m):=by
  unfold Tr;by_cases hy:J z y≤m
  ·have h366:=HT y;have hyo:Xg z m=y:=SD.2 ⟨hy,by unfold J at*;omega⟩;rw[hyo];obtain⟨e3,e4,e10,e11,en,ej0,ej1⟩:=Sx y;have b1:=AM t1 y;have b2:=AM t2 y;have i3:=t2.i0;have i4:=t2.i1;unfold bgn fin;unfold J at*;rcases hmo with⟨m1,m2,m3⟩ |⟨m1,m2⟩
   ·rw[m1,e3]at b1;refine .inl ⟨m1,?_⟩;have hst:z.stop.month=10∨z.stop.month=11:=by omega
    rcases hst with hst|hst
    ·rw[hst,e10]at b2;rw[if_neg (by omega)];omega
    ·rw[hst,e11]at b2;rw[if_neg (by omega)];omega
   ·rw[m1,e10]at b1;rw[m2,e4]at b2;refine .inr ⟨by omega,?_⟩;rw[if_pos (by omega)];omega
  ·have h366:=HT (y-1);rw[show y-1+1=y by omega]at h366;have hyo:Xg z m=y-1:=SD.2 ⟨by unfold J at*;omega,by rw[show y-1+1=y by omega];omega⟩;rw[hyo];obtain⟨e3,e4,e10,e11,en,ej0,ej1⟩:=Sx (y-1);rw[show y-1+1=y by omega]at en;have b1:=AM t1 (y-1);have b2:=AM t2 (y-1);have i3:=t2.i0;have i4:=t2.i1;unfold bgn fin;unfold J at*;rcases hmo with⟨m1,m2,m3⟩ |⟨m1,m2⟩
   ·rw[m1,e3]at b1;refine .inl ⟨m1,?_⟩;have hst:z.stop.month=10∨z.stop.month=11:=by omega
    rcases hst with hst|hst
    ·rw[hst,e10]at b2;rw[if_neg (by omega)];omega
    ·rw[hst,e11]at b2;rw[if_neg (by omega)];omega
   ·rw[m1,e10]at b1;rw[m2,e4]at b2;refine .inr ⟨by omega,?_⟩;rw[if_pos (by omega)];omega
 unfold ahd;rw[if_neg hs];rcases key with⟨k1,k2⟩ |⟨k1,k2⟩
 ·rw[if_neg k2,if_pos k1]
 ·rw[if_pos k2,if_neg k1]
theorem FB:Cal.days 1 1 1= -719162:=by decide+kernel
theorem first{z:iY}(hz:ZOk z){m:Int}(hs:z.summer≠0)(h:ahd z m=z.offset*60)(hx:ahd z (m-z.summer*60)=z.offset*60+z.summer*60)(hm:(-62135596800)≤m):(-62135596800)≤m-z.summer*60:=by
 apply Classical.byContradiction;intro hn;have hsu:z.summer=30∨z.summer=60:=by rcases hz.s with h|⟨_,_,h,_⟩<;>omega
 have o0:=hz.o0;have o1:=hz.o1;have n1:=acv hz hs (m:=m) 1 (by unfold J;rw[FB];omega) (by unfold J;rw[FB];omega);have n2:=acv hz hs (m:=m-z.summer*60) 1 (by unfold J;rw[FB];omega) (by unfold J;rw[FB];omega);rw[n1]at h;rw[n2]at hx;split at h<;>omega
theorem Ui{a b:Int}(hb:0<b)(hb2:b≤1000000)(h1: -1000000000000000≤a)(h2:a≤1000000000000000):zB a b=some (a/b):=by
 have hf:=xB hb hb2 h1 h2;unfold pg rA at hf;unfold zB wY xb;rw[bh (by omega),bh (by omega)]at hf⊢;have hsgn:decide (b<0)=false:=by simp;omega
 rw[hsgn];by_cases h0:a.tmod b=0
 ·rw[h0]at hf⊢;rw[show decide ((0:Int)<0)=false from rfl,ai]at hf;rw[show((0:Int) != 0)=false from rfl,ai,ai];have:=congrArg (Option.map Prod.fst) hf;simpa using this
 ·have hne:(a.tmod b != 0)=true:=by simp[h0]
  rw[hne,ap];by_cases ha:a<0
  ·have hneg:a.tmod b<0:=by
    have r1:=Int.emod_lt_of_pos a hb;have r0:=Int.emod_nonneg a (show b≠0 by omega);have e:=Int.tmod_eq_emod (a:=a) (b:=b);by_cases hd:b∣a
    ·exfalso;exact h0 (Int.tmod_eq_zero_of_dvd hd)
    ·rw[if_neg (by omega)]at e;have:(b.natAbs:Int)=b:=by omega
     omega
   rw[show decide (a.tmod b<0)=true by simpa using hneg,ap]at hf;rw[show decide (a<0)=true by simpa using ha];have:=congrArg (Option.map Prod.fst) hf;simpa [aD]using this
  ·have hpos:¬a.tmod b<0:=by
    have:=Int.tmod_nonneg (a:=a) b (by omega);omega
   rw[show decide (a.tmod b<0)=false by simpa using hpos,ai]at hf;rw[show decide (a<0)=false by simpa using ha];have:=congrArg (Option.map Prod.fst) hf;simpa [aD]using this
theorem YV{y m:Int}:oW y m=some (KO y m):=Tp
theorem rwithin_eq(a b c:Int):gi a b c=some (decide (b≤a∧a≤c)):=within_eq a b c
theorem Oa:Cal.days 0 1 1= -719528:=by decide+kernel
theorem FQ{y:Int}(h1:0≤y)(h2:y≤20000):oP y=some (Cal.days y 1 1):=by
 unfold oP qM;by_cases hy:0<y
 ·rw[show decide (0<y)=true by simpa using hy,ap];simp only[ay];simp(disch:=omega) only[j9,Int.tdiv_eq_ediv_of_nonneg];congr 1;rw[yY];unfold E S;omega
 ·have:y=0:=by omega
  subst this;rw[Oa];rfl
theorem month_step(y k:Int)(h1:1≤k)(h2:k≤11):Cal.days y (k+1) 1=Cal.days y k 1+KO y k:=by
 have hE:=Nj (y-1);rw[show y-1+1=y by omega]at hE;rw[C3,C3];unfold KO;have hc:k=1∨k=2∨k=3∨k=4∨k=5∨k=6∨k=7∨k=8∨k=9∨k=10∨k=11:=by omega
 rcases hE with⟨hl,hE⟩ |⟨hl,hE⟩<;>simp only[hl,if_true,if_false]<;>rcases hc with rfl|rfl|rfl|rfl|rfl|rfl|rfl|rfl|rfl|rfl|rfl<;>simp[s8]<;>omega
theorem days_d(y m d:Int):Cal.days y m d=Cal.days y m 1+d-1:=by
 rw[C3,C3];split<;>omega
theorem ML{s Y M D:Int}(hs1: -1000000000000≤s)(hs2:s≤1000000000000)(hY:0≤Y)(hY2:Y≤20000)(hM1:1≤M)(hM2:M≤12)(hD1:1≤D)(hD2:D≤KO Y M)(hn:Cal.days Y M D=s/86400):
  ∀(k:Nat) (b:Int),1≤b→b≤M→M-b<k→qo s (s/86400) Y k b (s/86400-Cal.days Y b 1)=some ⟨Y,M,D,s%86400/3600,s%86400%3600/60,s%86400%60⟩:=by
 intro k;induction k with
 |zero=>intro b h1 h2 h3;omega
 |succ k ih=>
  intro b h1 h2 h3;rw[qo];have hd:=dim_bound Y b;have hdM:=dim_bound Y M;have hbd:=Jo (y:=Y) (m:=b) (d:=1) (by omega) (by omega) h1 (by omega) (by decide) (by decide);rw[YV];simp only[ay];by_cases hb:b<M
  ·have hle:KO Y b≤s/86400-Cal.days Y b 1:=by
    have e1:=month_step Y b h1 (by omega)
    have mono:∀(j:Nat),b+1+j≤M→Cal.days Y (b+1) 1≤Cal.days Y (b+1+j) 1:=by
     intro j;induction j with
     |zero=>intro _;simp
     |succ j ihj=>
      intro hj;have:=ihj (by omega);have e2:=month_step Y (b+1+j) (by omega) (by omega);have e3:=dim_bound Y (b+1+j);rw[show b+1+((j+1:Nat):Int)=b+1+j+1 by omega,e2];omega
    have:=mono (M-(b+1)).toNat (by omega);rw[show b+1+((M-(b+1)).toNat:Int)=M by omega]at this;have e4:=days_d Y M D;omega
   rw[show decide (KO Y b≤s/86400-Cal.days Y b 1)=true by simpa using hle,ap];rw[j9 (by omega) (by omega),j9 (by omega) (by omega),show s/86400-Cal.days Y b 1-KO Y b=s/86400-Cal.days Y (b+1) 1 by rw[month_step Y b h1 (by omega)];omega];exact ih (b+1) (by omega) (by omega) (by omega)
  ·have:b=M:=by omega
   subst this;have e4:=days_d Y b D;rw[show decide (KO Y b≤s/86400-Cal.days Y b 1)=false by simp;omega,ai];unfold Bb;have ht:0≤s-86400*(s/86400)∧s-86400*(s/86400)<86400:=by omega
   simp(disch:=omega) only[j9,Int.tdiv_eq_ediv_of_nonneg,Int.tmod_eq_emod_of_nonneg];simp only[ay];have e5:s-86400*(s/86400)=s%86400:=by omega
   rw[e5,show s/86400-Cal.days Y b 1+1=D by omega];have e6:s%86400/60%60=s%86400%3600/60:=by omega
   simp(disch:=omega) only[j9,Int.tmod_eq_emod_of_nonneg];rw[e6]
theorem O9{s Y:Int}(hs1: -1000000000000≤s)(hs2:s≤1000000000000)(hYd:(Cal.date (s/86400)).1=Y):∀(k:Nat) (lo hi:Int),0≤lo→lo≤Y→Y<hi→hi≤10001→hi-lo≤k→
  oi s (s/86400) k lo hi=some (civ s):=by
 intro k;induction k with
 |zero=>intro lo hi a b c d e;omega
 |succ k ih=>
  intro lo hi a b c d e;rw[oi];rw[j9 (x:=hi-lo) (by omega) (by omega),j9 (x:=lo+hi) (by omega) (by omega)];by_cases h1:1<hi-lo
  ·rw[show decide (1<hi-lo)=true by simpa using h1,ap];simp(disch:=omega) only[j9,Int.tdiv_eq_ediv_of_nonneg];rw[FQ (by omega) (by omega)];simp only[ay];obtain⟨y1,y2⟩:=DL.1 hYd;by_cases hm:(lo+hi)/2≤Y
   ·have:=wT hm;rw[show decide (Cal.days ((lo+hi)/2) 1 1≤s/86400)=true by simp;omega,ap];exact ih _ _ (by omega) hm c d (by omega)
   ·have:=wT (y:=Y+1) (z:=(lo+hi)/2) (by omega);rw[show decide (Cal.days ((lo+hi)/2) 1 1≤s/86400)=false by simp;omega,ai];exact ih _ _ a b (by omega) (by omega) (by omega)
  ·rw[show decide (1<hi-lo)=false by simpa using h1,ai];have:lo=Y:=by omega
   subst this;unfold Bk;rw[FQ (by omega) (by omega)];simp only[ay];have hb:=Jo (y:=lo) (m:=1) (d:=1) (by omega) (by omega) (by decide) (by decide) (by decide) (by decide);rw[j9 (by omega) (by omega)];obtain⟨e1,m0,m1,d0,d1⟩:=FD (s/86400);rw[hYd]at e1 d1;have:=ML hs1 hs2 (by omega) (by omega) m0 m1 d0 d1 e1 aH 1 (by decide) m0 (by rw[aF];omega);rw[this];unfold civ;rw[hYd]
theorem rcivil_eq{s:Int}(hs1: -1000000000000≤s)(hs2:s≤1000000000000)(h0:0≤(Cal.date (s/86400)).1)(h1:(Cal.date (s/86400)).1≤10000):yX s=some (civ s):=by
 unfold yX;rw[Ui (by decide) (by decide) (by omega) (by omega)];simp only[ay];exact O9 hs1 hs2 rfl aH 0 10001 (by decide) h0 (by omega) (by decide) (by rw[aF];decide)
theorem years_of{s:Int}(h1: -62160000000≤s)(h2:s≤253402400799):0≤(Cal.date (s/86400)).1∧(Cal.date (s/86400)).1≤10000:=by
 obtain⟨a1,a2⟩:=(DL (n:=s/86400) (y:=(Cal.date (s/86400)).1)).1 rfl;have e0:=Oa;have e1:Cal.days 10001 1 1=2933263:=by decide+kernel
 constructor
 ·apply Classical.byContradiction;intro hn;have:=wT (y:=(Cal.date (s/86400)).1+1) (z:=0) (by omega);omega
 ·apply Classical.byContradiction;intro hn;have:=wT (y:=10001) (z:=(Cal.date (s/86400)).1) (by omega);omega
end Go.Proofs.YtpiohnabdhpphaaGreatDoor.Tm
namespace Go.Proofs.YtpiohnabdhpphaaGreatDoor
open Go Go.SX Go.SX.Cal Go.Lib
open Go.IntKind (i64)
theorem ZZ(r:Int):(Utf8.encode r).data.toList=encodeRune r:=by
 unfold Utf8.encode;rw[validRune_eq];unfold validRune;by_cases hv:(0≤r∧r<55296)∨(57343<r∧r≤1114111)
 ·rw[decide_eq_true hv];simp only[if_true];obtain⟨n,rfl⟩:∃n:Nat,r=(n:Int):=⟨r.toNat,by omega⟩
  rw[Int.toNat_natCast];by_cases h1:n<128
  ·rw[if_pos h1];unfold encodeRune;rw[encodeRuneZ_one (by omega) (by omega)];simp
  ·rw[if_neg h1];by_cases h2:n<2048
   ·rw[if_pos h2];unfold encodeRune;rw[encodeRuneZ_two (by omega) (by omega)];simp only[List.map_cons,List.map_nil,show(192+(n:Int)/64).toNat=192+n/64 by omega,show(128+(n:Int)%64).toNat=128+n%64 by omega]
   ·rw[if_neg h2];by_cases h3:n<65536
    ·rw[if_pos h3];unfold encodeRune;rw[encodeRuneZ_three (by omega)];simp only[List.map_cons,List.map_nil,show(224+(n:Int)/4096).toNat=224+n/4096 by omega,show(128+(n:Int)/64%64).toNat=128+n/64%64 by omega,show(128+(n:Int)%64).toNat=128+n%64 by omega]
    ·rw[if_neg h3];unfold encodeRune;rw[encodeRuneZ_four (by omega) (by omega)];simp only[List.map_cons,List.map_nil,show(240+(n:Int)/262144).toNat=240+n/262144 by omega,show(128+(n:Int)/4096%64).toNat=128+n/4096%64 by omega,show(128+(n:Int)/64%64).toNat=128+n/64%64 by omega,show(128+(n:Int)%64).toNat=128+n%64 by omega]
 ·rw[decide_eq_false hv];unfold encodeRune;rw[encodeRuneZ_bad (by omega)];simp only[Bool.false_eq_true,if_false]
  decide
theorem CJ(ns:List Int):(runesBytes ns).data.toList=(ns.map encodeRune).flatten:=by
 have h:∀(ns:List Int) (acc:ByteArray),(ns.foldl (fun r n=>r++Utf8.encode n) acc).data.toList=acc.data.toList++(ns.map encodeRune).flatten:=by
  intro ns;induction ns with
  |nil=>intro acc;simp
  |cons n ns ih=>intro acc;rw[List.foldl_cons,ih,ByteArray.data_append,Array.toList_append,ZZ];simp
 unfold runesBytes;rw[h];rfl
theorem UA{a b:ByteArray}(h:a.data.toList=b.data.toList):a=b:=by
 cases a;cases b;congr;exact Array.ext' h
theorem TZ(p:aT)(v:ac)(hs:v.s.size<1000000)(hp:0≤p.param):∀(m f b i x:Nat),v.s.size≤i+m→m≤b→m<f→i≤v.s.size→validD (v.s.data.toList.drop i)=true→(x:Int)≤p.param→x≤i→
  ∃t,fH p v f i (x:Int)=n6 v t∧t.data.toList=v.s.data.toList.take i++(((ph v.s b i).take (p.param.toNat-x)).map encodeRune).flatten:=by
 intro m;induction m with
 |zero=>
  intro f b i x hi hb hf hle hv hx hxi;obtain⟨f,rfl⟩:∃q,f=q+1:=⟨f-1,by omega⟩
  have:i=v.s.size:=by omega
  subst this;refine⟨v.s,?_,?_⟩
  ·rw[fH,decide_eq_false (by omega),ai]
  ·have:ph v.s b v.s.size=[]:=by cases b<;>simp[ph]
   rw[this,List.take_nil,List.map_nil,List.flatten_nil,List.append_nil,List.take_of_length_le (by simp)]
 |succ m ih=>
  intro f b i x hi hb hf hle hv hx hxi;obtain⟨f,rfl⟩:∃q,f=q+1:=⟨f-1,by omega⟩
  obtain⟨b,rfl⟩:∃q,b=q+1:=⟨b-1,by omega⟩
  by_cases hlt:i<v.s.size
  ·have hl:v.s.data.toList.length=v.s.size:=by simp
   by_cases hxp:(x:Int)=p.param
   ·refine⟨v.s.extract 0 i,?_,?_⟩
    ·rw[fH,decide_eq_true hlt,ap,show(((x:Int))==p.param)=true from beq_iff_eq.2 hxp,ap];unfold iN;rw[if_pos ⟨by omega,by simp,by simp;omega⟩];rfl
    ·rw[show p.param.toNat-x=0 by omega,List.take_zero,List.map_nil,List.flatten_nil,List.append_nil];simp
   ·have hne:v.s.data.toList.drop i≠[]:=fun e=>by have:=congrArg List.length e;rw[List.length_drop,hl]at this;simp at this;omega
    have hw:=decodeL_width (v.s.data.toList.drop i);have hwl:=decodeL_le (v.s.data.toList.drop i) hne;rw[validD_step _ hne]at hv;have hbad:¬((decodeL (v.s.data.toList.drop i)).1=65533∧(decodeL (v.s.data.toList.drop i)).2=1):=fun h=>by rw[if_pos h]at hv;cases hv
    rw[if_neg hbad,List.drop_drop]at hv;have henc:=encode_decode _ hne hbad;rw[decodeL_drop]at hw hwl hbad hv henc;rw[List.length_drop,hl]at hwl;obtain⟨t,t1,t2⟩:=ih f b (i+(Utf8.decode v.s i).2) (x+1) (by omega) (by omega) (by omega) (by omega) hv (by omega) (by omega);refine⟨t,?_,?_⟩
    ·rw[fH,decide_eq_true hlt,ap,show(((x:Int))==p.param)=false from beq_eq_false_iff_ne.2 hxp,ai,j9 (by omega) (by omega)];exact t1
    ·rw[t2,ph,if_pos hlt,show p.param.toNat-x=(p.param.toNat-(x+1))+1 by omega,List.take_succ_cons,List.map_cons,List.flatten_cons,List.take_add,←List.append_assoc];congr 2;exact henc.symm
  ·refine⟨v.s,?_,?_⟩
   ·rw[fH,decide_eq_false hlt,ai]
   ·rw[ph,if_neg hlt,List.take_nil,List.map_nil,List.flatten_nil,List.append_nil,List.take_of_length_le (by simp;omega)]
theorem VR(p:aT)(v:ac)(hk:v.kind=4)(hs:v.s.size<1000000)(hp:0≤p.param)(hv:validD v.s.data.toList=true):
  gY v p.param=some ⟨v.kind,v.n,v.scale,runesBytes ((ig v.s).take p.param.toNat),v.items⟩∧fH p v aH 0 0=some ⟨v.kind,v.n,v.scale,runesBytes ((ig v.s).take p.param.toNat),v.items⟩:=by
 have hlen:(ig v.s).length≤v.s.size:=Ap v.s v.s.size 0;refine⟨?_,?_⟩
 ·unfold gY;have hy:∃y:Int,(if((ig v.s).length:Int)<p.param then((ig v.s).length:Int)else p.param)=y∧0≤y∧y≤((ig v.s).length:Int)∧(ig v.s).take y.toNat=(ig v.s).take p.param.toNat:=by
   by_cases h:((ig v.s).length:Int)<p.param
   ·rw[if_pos h];exact⟨_,rfl,by omega,by omega,by rw[List.take_of_length_le (by omega),List.take_of_length_le (by omega)]⟩
   ·rw[if_neg h];exact⟨_,rfl,hp,by omega,rfl⟩
  obtain⟨y,y1,y2,y3,y4⟩:=hy;rw[hk,show((4:Int)==4)=true from rfl,ap,y1];unfold iN;rw[if_pos (by omega),ay,if_pos ⟨by omega,y2,y3⟩];rw[show((0:Int).toNat)=0 from rfl,Nat.sub_zero,List.drop_zero,y4]
 ·obtain⟨t,t1,t2⟩:=TZ p v hs hp v.s.size aH v.s.size 0 0 (by omega) (by omega) (by rw[aF];omega) (by omega) hv (by omega) (by omega);rw[show(0:Int)=((0:Nat):Int)from rfl,t1];unfold n6;congr 2;refine UA ?_;rw[t2,CJ,List.take_zero,List.nil_append,Nat.sub_zero];rfl
theorem JY{β:Type}{p:Prop}[Decidable p]{x:Option β}(h:p):iN p x=x:=if_pos h
theorem xB{a b:Int}(hb:0<b∧b≤1000000)(ha: -999999999999999999≤a∧a≤999999999999999999):pd a b=some (a/b)∧sx a b=some (a/b):=by
 obtain⟨b0,b1⟩:=hb;have hq:a.tdiv b=if 0≤a then a/b else -((-a)/b):=by
  by_cases h:0≤a
  ·rw[if_pos h,Int.tdiv_eq_ediv_of_nonneg h]
  ·rw[if_neg h];have:=Int.neg_tdiv (-a) b;rw[Int.neg_neg]at this;rw[this,Int.tdiv_eq_ediv_of_nonneg (by omega)]
 have hm:b*a.tdiv b+a.tmod b=a:=Int.mul_tdiv_add_tmod a b;have hd:=Int.mul_ediv_add_emod a b;have he0:=Int.emod_nonneg a (show b≠0 by omega);have he1:=Int.emod_lt_of_pos a b0;have hle: -999999999999999999≤a.tdiv b∧a.tdiv b≤999999999999999999:=by
  rw[hq];by_cases h:0≤a
  ·rw[if_pos h];have h1:=Int.ediv_nonneg h (show 0≤b by omega);have h2:=Int.ediv_le_self b h;omega
  ·rw[if_neg h];have h1:=Int.ediv_nonneg (show 0≤-a by omega) (show 0≤b by omega);have h2:=Int.ediv_le_self b (show 0≤-a by omega);omega
 have htm:(a.tmod b<0→a/b=a.tdiv b-1)∧(¬a.tmod b<0→a/b=a.tdiv b)∧-b<a.tmod b∧a.tmod b<b:=by
  have h3: -b<a.tmod b∧a.tmod b<b:=by
   have h4:=Int.tmod_lt_of_pos a b0;have h5: -b<a.tmod b:=by
    by_cases h:0≤a
    ·have:=Int.tmod_nonneg b h;omega
    ·have h6:=Int.tmod_lt_of_pos (-a) b0;rw[Int.neg_tmod]at h6;omega
   exact⟨h5,h4⟩
  have key:∀q r:Int,b*q+r=a→0≤r→r<b→a/b=q:=fun q r h1 h2 h3=>by
   rw[←h1,Int.add_comm,Int.add_mul_ediv_left _ _ (by omega),Int.ediv_eq_zero_of_lt h2 h3];omega
  refine⟨fun h=>key _ (a.tmod b+b) (by rw[Int.mul_sub,Int.mul_one];omega) (by omega) (by omega),fun h=>key _ _ hm (by omega) (by omega),h3.1,h3.2⟩
 obtain⟨t1,t2,t3,t4⟩:=htm;refine⟨?_,?_⟩
 ·unfold pd vJ;rw[JY (by omega),JY (by omega),j9 (x:=a.tdiv b) (by omega) (by omega),j9 (x:=a.tdiv b-1) (by omega) (by omega)];by_cases h:a.tmod b<0
  ·rw[decide_eq_true h,ap,t1 h]
  ·rw[decide_eq_false h,ai,t2 h]
 ·unfold sx yO;have hmul:(a.tdiv b)*b=a-a.tmod b:=by rw[Int.mul_comm];omega
  rw[JY (by omega),ay,j9 (x:=a.tdiv b) (by omega) (by omega),hmul,j9 (x:=a-a.tmod b) (by omega) (by omega),j9 (x:=a.tdiv b-1) (by omega) (by omega)];by_cases h:a.tmod b<0
  ·rw[decide_eq_true (by omega),ap,t1 h]
  ·rw[decide_eq_false (by omega),ai,t2 h]
def MQ(p:aT)(v:ac)(h y mo:Int):ac:=
 if p.kind=0 then zh else if p.kind=1 then v else if p.kind=2 then⟨2,h,0,ByteArray.empty,[]⟩
 else if p.kind=3 then(if v.kind=4 then⟨v.kind,v.n,v.scale,runesBytes ((ig v.s).take p.param.toNat),v.items⟩else⟨v.kind,max (-999999999999999999) (v.n/p.param*p.param),v.scale,v.s,v.items⟩)
 else if p.kind=4 then⟨2,y-1970,0,ByteArray.empty,[]⟩else if p.kind=5 then⟨2,12*(y-1970)+mo-1,0,ByteArray.empty,[]⟩
 else if p.kind=6 then⟨2,v.n/86400,0,ByteArray.empty,[]⟩else⟨2,v.n/3600,0,ByteArray.empty,[]⟩
structure Lf(v:ac):Prop where
 k:1≤v.kind∧v.kind≤5
 n: -999999999999999999≤v.n∧v.n≤999999999999999999
 it:v.items=[]
 txt:v.kind=4→v.s.size≤256∧validD v.s.data.toList=true
 nos:v.kind≠4→v.s.size=0
 sc:0≤v.scale∧v.scale≤12
 mom:v.kind=5→-62135596800≤v.n∧v.n≤253402300799
theorem Ok{v:ac}(h:qt v=true)(h6:v.kind≠6)(h7:v.kind≠7)(h0:v.kind≠0):Lf v:=by
 have hp:=(R9 h).pl;unfold df at hp;have e0:∀(l:List ac),((l.length:Int)==0)=true→l=[]:=fun l h=>List.eq_nil_of_length_eq_zero (by have:=eq_of_beq h;omega)
 by_cases k1:v.kind=1
 ·simp only[k1]at hp;simp at hp;exact⟨by omega,by omega,by have:=hp.2.2.2;exact List.eq_nil_of_length_eq_zero (by simpa using this),by omega,fun _=>by rw[hp.2.2.1];rfl,by omega,by omega⟩
 by_cases k2:v.kind=2
 ·simp only[k2]at hp;simp at hp;exact⟨by omega,by omega,by have:=hp.2.2.2;exact List.eq_nil_of_length_eq_zero (by simpa using this),by omega,fun _=>by rw[hp.2.2.1];rfl,by omega,by omega⟩
 by_cases k3:v.kind=3
 ·simp only[k3]at hp;simp at hp;exact⟨by omega,by omega,by have:=hp.2.2.2;exact List.eq_nil_of_length_eq_zero (by simpa using this),by omega,fun _=>by rw[hp.2.2.1];rfl,by omega,by omega⟩
 by_cases k4:v.kind=4
 ·simp only[k4]at hp;simp[A4]at hp;exact⟨by omega,by omega,by have:=hp.2.2;exact List.eq_nil_of_length_eq_zero (by simpa using this),fun _=>⟨hp.2.1.1,hp.2.1.2.1⟩,fun h=>absurd k4 h,by omega,by omega⟩
 by_cases k5:v.kind=5
 ·simp only[k5]at hp;simp at hp;exact⟨by omega,by omega,by have:=hp.2.2.2;exact List.eq_nil_of_length_eq_zero (by simpa using this),by omega,fun _=>by rw[hp.2.2.1];rfl,by omega,by omega⟩
 simp[k1,k2,k3,k4,k5,h6,h7,h0]at hp
def Xj:ByteArray:=ByteArray.mk #[117,116,99]
def Xo:iY:=iY.mk Xj 0 0 (lr.mk 0 0 0 0) (lr.mk 0 0 0 0)
theorem ac4:E6 Xj=some (Xo,true):=by kernel_rfl
theorem aaC:DF Xj=some (Xo,true):=by kernel_rfl
theorem Z4(m:Int):DN Xo m=some 0:=rfl
theorem Ye(m:Int):Fg Xo m=some 0:=rfl
theorem Qf{n:Int}(h0: -62135596800≤n)(h1:n≤253402300799):AI n Xj=some (Tm.civ n,0)∧wN n Xj=some (Tm.civ n,0):=by
 obtain⟨y0,y1⟩:=Tm.years_of (s:=n) (by omega) (by omega);refine⟨?_,?_⟩
 ·unfold AI;rw[ac4,ay,Bool.not_true,ai,Tm.within_eq,ay,decide_eq_true ⟨h0,h1⟩,Bool.not_true,ai,Z4,ay,Int.add_zero,j9 (by omega) (by omega),Tm.civil_eq (by omega) (by omega),ay]
 ·unfold wN;rw[aaC,ay,Bool.not_true,ai,Tm.rwithin_eq,ay,decide_eq_true ⟨h0,h1⟩,Bool.not_true,ai,Ye,ay,Int.add_zero,j9 (by omega) (by omega),Tm.rcivil_eq (by omega) (by omega) y0 y1,ay]
theorem acO{n:Int}(h0: -62135596800≤n)(h1:n≤253402300799):wU n 1 Xj=some ((Tm.civ n).year,0)∧wU n 2 Xj=some ((Tm.civ n).month,0):=by
 obtain⟨f,_,_,_⟩:=Tm.civ_ok (s:=n) (by omega) (by omega);have hd:ud (Tm.civ n).year (Tm.civ n).month (Tm.civ n).day=some (Cal.days (Tm.civ n).year (Tm.civ n).month (Tm.civ n).day):=Tm.days_eq (by have:=f.y0;omega) (by have:=f.y1;omega) (by have:=f.m0;omega) (by have:=f.m1;omega) (by have:=f.d0;omega) (by have:=f.d1;omega);unfold wU;rw[(Qf h0 h1).1,ay,ay,show((0:Int) != 0)=false from rfl,ai,ai,hd,ay,ay];exact⟨rfl,rfl⟩
theorem YI(x:Int): -9223372036854775808≤i64.wrap x∧i64.wrap x≤9223372036854775807:=by
 rw[show i64.wrap x=if 9223372036854775808≤x%18446744073709551616 then x%18446744073709551616-18446744073709551616 else x%18446744073709551616 by unfold IntKind.wrap;simp[IntKind.bits,IntKind.signed]];split<;>omega
theorem BJ(q:Int):iV q=some ⟨2,q,0,ByteArray.empty,[]⟩:=rfl
theorem Sw(k s:Int):jm ⟨k,s,[]⟩<1000000000:=by simp[jm,dt]
def PH(p:aT)(h:Int):Int:=i64.wrap (h.tmod (IntKind.u64.wrap p.param))
theorem aeG{p:aT}{v:ac}(h4:v.kind≠4)(hm:1≤p.param∧p.param≤1000000)(hn: -999999999999999999≤v.n∧v.n≤999999999999999999):
  gY v p.param=some ⟨v.kind,max (-999999999999999999) (v.n/p.param*p.param),v.scale,v.s,v.items⟩∧
  (am (sx v.n p.param) fun r5=>am (some (decide ((i64.wrap (p.param*r5))<(-999999999999999999:Int)))) fun y1=>ak y1 (lF v (-999999999999999999:Int)) (lF v (i64.wrap (p.param*r5))))=
   some ⟨v.kind,max (-999999999999999999) (v.n/p.param*p.param),v.scale,v.s,v.items⟩:=by
 obtain⟨f1,f2⟩:=xB (a:=v.n) (b:=p.param) (by omega) hn;have hd:=Int.mul_ediv_add_emod v.n p.param;have he0:=Int.emod_nonneg v.n (show p.param≠0 by omega);have he1:=Int.emod_lt_of_pos v.n (show 0<p.param by omega);have hc:v.n/p.param*p.param=v.n-v.n%p.param:=by rw[Int.mul_comm];omega
 have hc2:p.param*(v.n/p.param)=v.n-v.n%p.param:=by omega
 refine⟨?_,?_⟩
 ·unfold gY;rw[show(v.kind==4)=false from beq_eq_false_iff_ne.2 h4,ai,f1,ay,hc,j9 (by omega) (by omega),ay];congr 2;rw[Int.max_def];by_cases h: -999999999999999999>v.n-v.n%p.param
  ·rw[if_pos h,if_neg (by omega)]
  ·rw[if_neg h,if_pos (by omega)]
 ·rw[f2,ay,hc,hc2,j9 (by omega) (by omega),ay];unfold lF;rw[Int.max_def];by_cases h:v.n-v.n%p.param< -999999999999999999
  ·rw[decide_eq_true h,ap,if_neg (by omega)]
  ·rw[decide_eq_false h,ai,if_pos (by omega)]
theorem Rp{p:aT}{v:ac}(hl:Lf v)(hk:Xn p ⟨v.kind,v.scale,[]⟩)(hv:bE v<10000000)(e:Int)(he:fR p ⟨v.kind,v.scale,[]⟩=some (Kt p ⟨v.kind,v.scale,[]⟩ e))(h0:(Kt p ⟨v.kind,v.scale,[]⟩ e).2=0):
  ∃h,jc p v false=some (MQ p v (PH p h) (Tm.civ v.n).year (Tm.civ v.n).month)∧gp p v false=some (MQ p v (PH p h) (Tm.civ v.n).year (Tm.civ v.n).month):=by
 obtain⟨h,g1,g2⟩:=XD v hv;refine⟨h,?_⟩;obtain⟨k,m⟩:=p;have hlo:0≤k:=hk.lo;have hhi:k≤7:=hk.hi;have hpar:k=2∨k=3→1≤m∧m≤1000000:=hk.par;have htim:4≤k→v.kind=5:=hk.tim;have hu:k=2∨k=3→IntKind.u64.wrap m≠0:=fun hh=>by
  have:=hpar hh;rw[aeq (by omega) (by omega)];omega
 have hj:∃y mo,jc ⟨k,m⟩ v false=mU ⟨k,m⟩ v y mo∧(4≤k→y=(Tm.civ v.n).year∧mo=(Tm.civ v.n).month):=by
  unfold jc;rw[ai];by_cases h5:v.kind=5
  ·obtain⟨m0,m1⟩:=hl.mom h5;obtain⟨p1,p2⟩:=acO m0 m1;refine⟨_,_,?_,fun _=>⟨rfl,rfl⟩⟩;rw[h5,show((5:Int)==5)=true from rfl,ap];rw[show(ByteArray.mk #[117,116,99])=Xj from rfl,p1,p2,ay,ay]
  ·rw[show(v.kind==5)=false from beq_eq_false_iff_ne.2 h5,ai];exact⟨0,0,rfl,fun h=>absurd (htim h) h5⟩
 obtain⟨y,mo,j1,j2⟩:=hj;rw[j1];unfold gp;rw[ai,he,ay,h0,show((0:Int) != 0)=false from rfl,ai];unfold mU;have hk8:k=0∨k=1∨k=2∨k=3∨k=4∨k=5∨k=6∨k=7:=by omega
 have hyb:v.kind=5→0≤(Tm.civ v.n).year∧(Tm.civ v.n).year≤10000∧1≤(Tm.civ v.n).month∧(Tm.civ v.n).month≤12:=fun h5=>by
  obtain⟨m0,m1⟩:=hl.mom h5;have:=Tm.years_of (s:=v.n) (by omega) (by omega);obtain⟨f,_⟩:=Tm.civ_ok (s:=v.n) (by omega) (by omega);exact⟨this.1,this.2,f.m0,f.m1⟩
 rcases hk8 with rfl|rfl|rfl|rfl|rfl|rfl|rfl|rfl
 ·exact⟨rfl,rfl⟩
 ·exact⟨rfl,rfl⟩
 ·refine⟨?_,?_⟩
  ·show(am (zF v) fun r5=>iN ((IntKind.u64.wrap m)≠0)<|am (iV (i64.wrap (r5.tmod (IntKind.u64.wrap m)))) fun r6=>some r6)=_;rw[g1,ay,JY (hu (.inl rfl)),BJ,ay];rfl
  ·show(am (BA v) fun r4=>iN ((IntKind.u64.wrap m)≠0)<|dU (i64.wrap (r4.tmod (IntKind.u64.wrap m))))=_;rw[g2,ay,JY (hu (.inl rfl))];rfl
 ·have hm:=hpar (.inr rfl);by_cases h4:v.kind=4
  ·obtain⟨t1,t2⟩:=hl.txt h4;obtain⟨c1,c2⟩:=VR ⟨3,m⟩ v h4 (by omega) (by show 0≤m;omega) t2;have hx:MQ ⟨3,m⟩ v (PH ⟨3,m⟩ h) (Tm.civ v.n).year (Tm.civ v.n).month=⟨v.kind,v.n,v.scale,runesBytes ((ig v.s).take m.toNat),v.items⟩:=if_pos h4;refine⟨?_,?_⟩
   ·show(am (gY v m) fun r7=>some r7)=_;rw[show gY v m=_ from c1,ay,hx]
   ·show(ak (v.kind==(4:Int)) _ _)=_;rw[h4,show((4:Int)==4)=true from rfl,ap,c2,hx,h4]
  ·obtain⟨c1,c2⟩:=aeG (p:=⟨3,m⟩) h4 hm hl.n;have hx:MQ ⟨3,m⟩ v (PH ⟨3,m⟩ h) (Tm.civ v.n).year (Tm.civ v.n).month=⟨v.kind,max (-999999999999999999) (v.n/m*m),v.scale,v.s,v.items⟩:=if_neg h4;refine⟨?_,?_⟩
   ·show(am (gY v m) fun r7=>some r7)=_;rw[show gY v m=_ from c1,ay,hx]
   ·show(ak (v.kind==(4:Int)) _ _)=_;rw[show(v.kind==(4:Int))=false from beq_eq_false_iff_ne.2 h4,ai,hx];exact c2
 ·obtain⟨rfl,rfl⟩:=j2 (by decide);obtain⟨b1,b2,b3,b4⟩:=hyb (htim (by decide));obtain⟨m0,m1⟩:=hl.mom (htim (by decide));refine⟨?_,?_⟩
  ·show(am (iV (i64.wrap ((Tm.civ v.n).year-(1970:Int)))) fun r8=>some r8)=_;rw[BJ,ay,j9 (by omega) (by omega)];rfl
  ·show(am (wN v.n Xj) fun r8=>dU (i64.wrap (r8.1.year-(1970:Int))))=_;rw[(Qf m0 m1).2,ay,j9 (by show _≤(Tm.civ v.n).year-1970;omega) (by show(Tm.civ v.n).year-1970≤_;omega)];rfl
 ·obtain⟨rfl,rfl⟩:=j2 (by decide);obtain⟨b1,b2,b3,b4⟩:=hyb (htim (by decide));obtain⟨m0,m1⟩:=hl.mom (htim (by decide));refine⟨?_,?_⟩
  ·show(am (some (i64.wrap ((12:Int)*(i64.wrap ((Tm.civ v.n).year-(1970:Int)))))) fun y1=>am (iV (i64.wrap ((i64.wrap (y1+(Tm.civ v.n).month))-(1:Int)))) fun r9=>some r9)=_;rw[ay,j9 (x:=(Tm.civ v.n).year-1970) (by omega) (by omega),j9 (x:=12*((Tm.civ v.n).year-1970)) (by omega) (by omega),j9 (x:=12*((Tm.civ v.n).year-1970)+(Tm.civ v.n).month) (by omega) (by omega),BJ,ay,j9 (by omega) (by omega)];rfl
  ·show(am (wN v.n Xj) fun r8=>(am (some (i64.wrap ((12:Int)*(i64.wrap (r8.1.year-(1970:Int)))))) fun y2=>dU (i64.wrap ((i64.wrap (y2+r8.1.month))-(1:Int)))))=_;rw[(Qf m0 m1).2,ay,ay];show dU (i64.wrap ((i64.wrap ((i64.wrap ((12:Int)*(i64.wrap ((Tm.civ v.n).year-(1970:Int)))))+(Tm.civ v.n).month))-(1:Int)))=_;rw[j9 (x:=(Tm.civ v.n).year-1970) (by omega) (by omega),j9 (x:=12*((Tm.civ v.n).year-1970)) (by omega) (by omega),j9 (x:=12*((Tm.civ v.n).year-1970)+(Tm.civ v.n).month) (by omega) (by omega),j9 (by omega) (by omega)];rfl
 ·obtain⟨f1,f2⟩:=xB (a:=v.n) (b:=86400) (by omega) hl.n;refine⟨?_,?_⟩
  ·show(am (pd v.n (86400:Int)) fun r10=>am (iV r10) fun r11=>some r11)=_;rw[f1,ay,BJ,ay];rfl
  ·show(am (sx v.n (86400:Int)) fun r6=>dU r6)=_;rw[f2,ay];rfl
 ·obtain⟨f1,f2⟩:=xB (a:=v.n) (b:=3600) (by omega) hl.n;refine⟨?_,?_⟩
  ·show(am (pd v.n (3600:Int)) fun r10=>am (iV r10) fun r11=>some r11)=_;rw[f1,ay,BJ,ay];rfl
  ·show(am (sx v.n (3600:Int)) fun r6=>dU r6)=_;rw[f2,ay];rfl
theorem NE(p:aT)(v:ac)(hv:bE v<10000000):∃x,bY p v=some x∧gK p v=some x∧
  (x=zh∨∃h,Lf v∧Xn p ⟨v.kind,v.scale,[]⟩∧x=MQ p v (PH p h) (Tm.civ v.n).year (Tm.civ v.n).month):=by
 obtain⟨e,hV,t1,t2⟩:=tt p ⟨v.kind,v.scale,[]⟩ (Sw _ _);have jt:jc p v true=some zh:=rfl;have jr:gp p v true=some zh:=rfl;have hs:=A9 v (by omega);have rs:=Mn v (by omega);unfold bY gK;rw[t1,ay];by_cases h0:(Kt p ⟨v.kind,v.scale,[]⟩ e).2=0
 ·have hk:=Qg hV h0;have hl:=Jv hk.v hk.k6 hk.k7;have hk0:v.kind≠0:=by have h:=hl.2.1;have:1≤v.kind:=h;omega
  rw[h0,show((0:Int) != 0)=false from rfl,ai,hs,ay,show(v.kind==0)=false from beq_eq_false_iff_ne.2 hk0,ai,rs,ay,DU,ay];cases hb:qt v with
  |false=>rw[Bool.not_false,ap];exact⟨_,jt,jr,.inl rfl⟩
  |true=>
   have h6:v.kind≠6:=hk.k6;have h7:v.kind≠7:=hk.k7;rw[Bool.not_true,ai,decide_eq_true (show v.kind≠6∧v.kind≠7 from⟨h6,h7⟩),Bool.not_true];obtain⟨h,c1,c2⟩:=Rp (Ok hb h6 h7 hk0) hk hv e t2 h0;exact⟨_,c1,c2,.inr ⟨h,Ok hb h6 h7 hk0,hk,rfl⟩⟩
 ·rw[show((Kt p ⟨v.kind,v.scale,[]⟩ e).2 != 0)=true from bne_iff_ne.2 h0,ap];refine⟨zh,jt,?_,.inl rfl⟩;by_cases hk0:v.kind=0
  ·rw[hk0,show((0:Int)==0)=true from rfl,ap];rfl
  ·rw[show(v.kind==0)=false from beq_eq_false_iff_ne.2 hk0,ai,rs,ay,DU,ay];have jf:∀b,gp p v b=some zh:=fun b=>by
    cases b with
    |true=>exact jr
    |false=>
     unfold gp;rw[ai,t2,ay,show((Kt p ⟨v.kind,v.scale,[]⟩ e).2 != 0)=true from bne_iff_ne.2 h0,ap];rfl
   cases qt v with
   |false=>exact jr
   |true=>exact jf _
structure Sm(x:ac):Prop where
 it:x.items=[]
 n: -9223372036854775808≤x.n∧x.n≤9223372036854775807
 sc:x.kind=3→0≤x.scale∧x.scale≤12
 s:x.s.size<100000000
theorem Wn{p:aT}{v:ac}{h:Int}(hl:Lf v)(hk:Xn p ⟨v.kind,v.scale,[]⟩):Sm (MQ p v (PH p h) (Tm.civ v.n).year (Tm.civ v.n).month):=by
 have hn:=hl.n;have hkk:=hl.k;have hsc:=hl.sc;have hpar:p.kind=2∨p.kind=3→1≤p.param∧p.param≤1000000:=hk.par;have htim:4≤p.kind→v.kind=5:=hk.tim;have hsz:v.s.size≤256:=by
  by_cases h4:v.kind=4
  ·exact(hl.txt h4).1
  ·have:=hl.nos h4;omega
 have num:∀q:Int,-9223372036854775808≤q→q≤9223372036854775807→Sm ⟨2,q,0,ByteArray.empty,[]⟩:=fun q h1 h2=>⟨rfl,⟨h1,h2⟩,fun h=>absurd h (by decide:(2:Int)≠3),(by decide:(0:Nat)<100000000)⟩
 unfold MQ;by_cases k0:p.kind=0
 ·rw[if_pos k0];exact⟨rfl,by decide,fun h=>absurd h (by decide:(0:Int)≠3),(by decide:(0:Nat)<100000000)⟩
 rw[if_neg k0];by_cases k1:p.kind=1
 ·rw[if_pos k1];exact⟨hl.it,by omega,fun _=>hsc,by omega⟩
 rw[if_neg k1];by_cases k2:p.kind=2
 ·rw[if_pos k2];have:=YI (h.tmod (IntKind.u64.wrap p.param));exact num _ this.1 this.2
 rw[if_neg k2];by_cases k3:p.kind=3
 ·rw[if_pos k3];have hm:=hpar (.inr k3);by_cases h4:v.kind=4
  ·rw[if_pos h4];have hlen:(ig v.s).length≤v.s.size:=Ap v.s v.s.size 0;have hb:=runesBytes_size_le ((ig v.s).take p.param.toNat);have ht:((ig v.s).take p.param.toNat).length≤(ig v.s).length:=by rw[List.length_take];omega
   exact⟨hl.it,by show _≤v.n∧v.n≤_;omega,fun _=>hsc,by show(runesBytes _).size<_;omega⟩
  ·rw[if_neg h4];have hd:=Int.mul_ediv_add_emod v.n p.param;have he0:=Int.emod_nonneg v.n (show p.param≠0 by omega);have he1:=Int.emod_lt_of_pos v.n (show 0<p.param by omega);have hc:v.n/p.param*p.param=v.n-v.n%p.param:=by rw[Int.mul_comm];omega
   rw[hc];exact⟨hl.it,by show _≤max _ _∧max _ _≤_;omega,fun _=>hsc,by show v.s.size<_;omega⟩
 rw[if_neg k3];have h4:4≤p.kind:=by have:=hk.lo;omega
 obtain⟨m0,m1⟩:=hl.mom (htim h4);have hy:=Tm.years_of (s:=v.n) (by omega) (by omega);obtain⟨f,_⟩:=Tm.civ_ok (s:=v.n) (by omega) (by omega);have f0:=f.m0;have f1:=f.m1;have hy0:0≤(Tm.civ v.n).year:=hy.1;have hy1:(Tm.civ v.n).year≤10000:=hy.2;split
 ·exact num _ (by omega) (by omega)
 split
 ·exact num _ (by omega) (by omega)
 split
 ·exact num _ (by omega) (by omega)
 ·exact num _ (by omega) (by omega)
theorem UB:Ord.wfV zh:=by
 simp only[zh,Ord.wfV,Ord.wfL,Ord.i6q];refine⟨⟨by omega,by omega⟩,⟨by omega,by omega⟩,⟨by omega,by omega⟩,trivial⟩
theorem aat{k n sc:Int}{s:ByteArray}(hk:0≤k∧k≤5)(hn: -9223372036854775808≤n∧n≤9223372036854775807)(hs:0≤sc∧sc≤12):Ord.wfV ⟨k,n,sc,s,[]⟩:=by
 simp only[Ord.wfV,Ord.wfL,Ord.i6q];exact⟨⟨by omega,by omega⟩,⟨by omega,by omega⟩,⟨by omega,by omega⟩,trivial⟩
theorem Xb{p:aT}{v:ac}{h:Int}(hl:Lf v)(hk:Xn p ⟨v.kind,v.scale,[]⟩):Ord.wfV (MQ p v (PH p h) (Tm.civ v.n).year (Tm.civ v.n).month):=by
 have hsm:=Wn (h:=h) hl hk;have hk1:=hl.k;have hs1:=hl.sc;generalize hx:MQ p v (PH p h) (Tm.civ v.n).year (Tm.civ v.n).month=x at*;have hkx:0≤x.kind∧x.kind≤5:=by
  rw[←hx];unfold MQ;repeat' split
  all_goals first|(exact⟨by decide,by decide⟩) |omega|(simp only;omega)
 have hsx:0≤x.scale∧x.scale≤12:=by
  rw[←hx];unfold MQ;repeat' split
  all_goals first|(exact⟨by decide,by decide⟩) |omega|(simp only;omega)
 obtain⟨k,n,sc,s,it⟩:=x;obtain⟨a1,a2,a3,a4⟩:=hsm;simp only at a1;subst a1;exact aat hkx a2 hsx
theorem RH(p:aT)(v:ac)(hv:bE v<10000000):∃x,bY p v=some x∧gK p v=some x∧Ord.wfV x:=by
 obtain⟨x,h1,h2,h3⟩:=NE p v hv;refine⟨x,h1,h2,?_⟩;rcases h3 with rfl|⟨h,hl,hk,rfl⟩
 ·exact UB
 ·exact Xb hl hk
theorem Z3{p:aT}{v:ac}{h y m:Int}(hl:Lf v)(h0:p.kind≠0):(MQ p v h y m).kind≠0:=by
 have:=hl.k;unfold MQ;rw[if_neg h0];repeat' split
 all_goals first|exact(by decide:(2:Int)≠0) |(simp only;omega) |omega
theorem acg{p:aT}{v:ac}(hv:bE v<10000000)(hb:qt v=true){t:al}(ht:cM p ⟨v.kind,v.scale,[]⟩=some (t,0))(hp:p.kind≠0){x:ac}(hx:bY p v=some x):x.kind≠0:=by
 obtain⟨e,hV,t1,t2⟩:=tt p ⟨v.kind,v.scale,[]⟩ (Sw _ _);have h0:(Kt p ⟨v.kind,v.scale,[]⟩ e).2=0:=by
  rw[ht]at t1;rw[←Option.some.inj t1]
 have hs:=A9 v (by omega);have hk:=Qg hV h0;have hl:=Jv hk.v hk.k6 hk.k7;have hk0:v.kind≠0:=by have h:=hl.2.1;have:1≤v.kind:=h;omega
 obtain⟨h,c1,c2⟩:=Rp (Ok hb hk.k6 hk.k7 hk0) hk hv e t2 h0;unfold bY at hx;rw[t1,ay,h0,show((0:Int) != 0)=false from rfl,ai,hs,ay,hb,Bool.not_true,c1]at hx;rw[←Option.some.inj hx];exact Z3 (Ok hb hk.k6 hk.k7 hk0) hp
end Go.Proofs.YtpiohnabdhpphaaGreatDoor
namespace Go.Proofs.YtpiohnabdhpphaaGreatDoor
open Go Go.SX Go.SX.Cal
open Go.IntKind (i64)
theorem Hx{a b:ac}(ha:Lv a)(hb:Ord.wfV b):dz aH a b=some (Ord.cmpV a b)∧bJ aH a b=some (Ord.cmpV a b):=by
 have h:=ha.size;exact⟨Ord.compare_eq 257 a b aH h (by omega) ha.wf hb (by rw[aF];omega),Ord.rcompareV_eq 257 a b aH h (by omega) ha.wf hb (by rw[aF];omega)⟩
def Uo(a l:ac):Bool:=decide (l.kind≠0)&&decide (Ord.cmpV a l<0)
def Xf(a l:ac):Bool:=decide (l.kind≠0)&&decide (0<Ord.cmpV a l)
theorem M2{a l:ac}(ha:Lv a)(hl:Ord.wfV l):xt a l=some (Uo a l):=by
 unfold xt vX Uo;rw[(Hx ha hl).1];by_cases h:l.kind=0
 ·rw[show(l.kind != 0)=false by simp[h],iF];simp[h]
 ·rw[show(l.kind != 0)=true by simp[h],iT,bS];simp[h]
theorem MY{a l:ac}(ha:Lv a)(hl:Ord.wfV l):xp a l=some (Xf a l):=by
 unfold xp vB Xf;rw[(Hx ha hl).1];by_cases h:l.kind=0
 ·rw[show(l.kind != 0)=false by simp[h],iF];simp[h]
 ·rw[show(l.kind != 0)=true by simp[h],iT,bS];simp[h]
theorem Xz{t:al}(h:V t)(h3:t.kind≠3):t.scale=0:=by
 obtain⟨_,h1,_⟩:=h;unfold shp at h1;split at h1
 ·omega
 ·split at h1
  ·omega
  ·rename_i hk;unfold Iw at hk;by_cases e:t.scale=0
   ·exact e
   ·exact absurd ⟨e,.inl h3⟩ hk
theorem T9{v:ac}(h:df v=true)(h3:v.kind≠3)(h6:v.kind≠6)(h7:v.kind≠7):v.scale=0:=by
 unfold df at h;simp only at h;repeat' split at h
 all_goals first|omega|(simp only[iu,beq_iff_eq]at h;omega) |cases h
theorem ZA{t:al}{v:ac}(h:Ty t v)(h0:v.kind≠0)(h6:t.kind≠6)(h7:t.kind≠7):t=⟨v.kind,v.scale,[]⟩∧qt v=true∧V t:=by
 obtain⟨ht,hS,ho⟩:=Ph h.sv h.st h.ck;obtain⟨hp,_⟩:=hS.succ;rw[Hg,if_neg h0]at ho;by_cases e:v.kind=t.kind
 ·rw[if_neg (fun h=>h e)]at ho;have hf:=(Jv ht h6 h7).1;have hi:=pc hp (by rw[e];exact h6) (by rw[e];exact h7);refine⟨?_,by rw[yZ hi];exact hp,ht⟩;have hs:t.scale=v.scale:=by
   by_cases h3:v.kind=3
   ·rw[if_pos h3]at ho;exact(beq_iff_eq.1 ho).symm
   ·rw[Xz ht (by omega),T9 hp h3 (by omega) (by omega)]
  cases t;simp only at hf hs e;subst hf;subst hs;subst e;rfl
 ·rw[if_pos e]at ho;cases ho
structure RgT(t:al)(r:bA):Prop where
 k6:t.kind≠6
 k7:t.kind≠7
 lo:Ty t r.low
 hi:Ty t r.high
 sl:bE r.low<10000000
 sh:bE r.high<10000000
theorem aaH{tr:aT}{v x:ac}(hv:bE v<10000000)(h0:v.kind=0)(hx:bY tr v=some x):x.kind=0:=by
 obtain⟨y,h1,_,h3⟩:=NE tr v hv;rw[hx]at h1;cases h1;rcases h3 with rfl|⟨h,hl,_⟩
 ·rfl
 ·have:=hl.k;omega
theorem Ca{t:al}{tr:aT}{v x:ac}(h:Ty t v)(h6:t.kind≠6)(h7:t.kind≠7)(hv:bE v<10000000){u:al}(ht:cM tr t=some (u,0))(hp:tr.kind≠0)(hx:bY tr v=some x):(x.kind=0)↔(v.kind=0):=by
 constructor
 ·intro hx0;by_cases h0:v.kind=0
  ·exact h0
  ·obtain⟨e,hb,_⟩:=ZA h h0 h6 h7;rw[e]at ht;exact absurd hx0 (acg hv hb ht hp hx)
 ·exact fun h0=>aaH hv h0 hx
theorem Oy{t:al}{r:bA}{p:ac}{tr:aT}{u:al}(hr:RgT t r)(hp:Lv p)(ht:cM tr t=some (u,0)):∃b,pA tr p r=some b∧Iv tr p r=some b:=by
 obtain⟨a,a1,a2,a3⟩:=RH tr r.low hr.sl;obtain⟨c,c1,c2,c3⟩:=RH tr r.high hr.sh;have ll:=th hr.lo.sv hr.lo.st hr.k6 hr.k7 hr.lo.ck;have lh:=th hr.hi.sv hr.hi.st hr.k6 hr.k7 hr.hi.ck;unfold pA Iv;by_cases k0:tr.kind=0
 ·rw[show(tr.kind==0)=true by simp[k0],iT,iT];exact⟨false,rfl,rfl⟩
 rw[show(tr.kind==0)=false by simp[k0],iF,iF];have ea:=Ca hr.lo hr.k6 hr.k7 hr.sl ht k0 a1;have ec:=Ca hr.hi hr.k6 hr.k7 hr.sh ht k0 c1;unfold rl oV nz pY;simp only[a1,a2,c1,c2,bS,M2 hp a3,MY hp c3,Mz ll lh,Hw ll lh,(Hx hp a3).1,(Hx hp a3).2,(Hx hp c3).2];by_cases kp:p.kind=0
 ·rw[show(p.kind==0)=true by simp[kp]];simp only[iT];cases(tr.kind==2)with
  |true=>exact⟨true,rfl,rfl⟩
  |false=>exact⟨true,rfl,rfl⟩
 rw[show(p.kind==0)=false by simp[kp]];simp only[iF];cases(tr.kind==2)with
 |true=>
  simp only[iT];cases(r.low.kind != 0)with
  |false=>exact⟨false,rfl,rfl⟩
  |true=>
   simp only[iT];cases(Ord.cmpV r.low r.high==0)with
   |false=>exact⟨false,rfl,rfl⟩
   |true=>exact⟨_,rfl,rfl⟩
 |false=>
  simp only[iF];refine⟨Uo p a||Xf p c,?_,?_⟩
  ·cases Uo p a<;>rfl
  ·unfold Uo Xf;by_cases h0:r.low.kind=0
   ·rw[show(r.low.kind != 0)=false by simp[h0],iF,show decide (a.kind≠0)=false by simp[ea.2 h0]];by_cases h1:r.high.kind=0
    ·rw[show(r.high.kind != 0)=false by simp[h1],iF,show decide (c.kind≠0)=false by simp[ec.2 h1]];rfl
    ·rw[show(r.high.kind != 0)=true by simp[h1],iT,show decide (c.kind≠0)=true by simp[mt ec.1 h1]];simp
   ·rw[show(r.low.kind != 0)=true by simp[h0],iT,show decide (a.kind≠0)=true by simp[mt ea.1 h0],Bool.true_and];cases decide (Ord.cmpV p a<0)with
    |true=>rfl
    |false=>
     rw[iF];by_cases h1:r.high.kind=0
     ·rw[show(r.high.kind != 0)=false by simp[h1],iF,show decide (c.kind≠0)=false by simp[ec.2 h1]];rfl
     ·rw[show(r.high.kind != 0)=true by simp[h1],iT,show decide (c.kind≠0)=true by simp[mt ec.1 h1]];simp
theorem SK:∀(ids:List Int) (m:List (Int×Int)) (seen:List Int),Inv m seen→(scan ids m).1=0→ids.Nodup∧∀x∈ids,x∉seen
 |[],_,_,_,_=>⟨List.nodup_nil,fun x h=>by cases h⟩
 |x::l,m,seen,hi,h=>by
  obtain⟨h1,h2⟩:=Vh hi x;unfold scan at h;by_cases h0:(Nz x m).1=0
  ·rw[if_neg (fun k=>k h0)]at h;obtain⟨a,b⟩:=SK l _ (seen++[x]) (h2 h0) h;rw[h0]at h1;have hx:x∉seen:=fun k=>by
    split at h1
    ·omega
    ·first|omega|(rw[if_pos k]at h1;omega)
   refine⟨List.nodup_cons.2 ⟨fun k=>b x k (by simp),a⟩,fun y hy=> ?_⟩;rcases List.mem_cons.1 hy with rfl|hy
   ·exact hx
   ·exact fun k=>b y hy (by simp[k])
  ·rw[if_pos h0]at h;exact absurd h h0
theorem UM{fs:List ae}(hs:dt fs<1000000000-1)(h:sc fs=0):(fD fs).Nodup:=by
 obtain⟨e,h1,h2,h3⟩:=nQ ⟨7,0,fs⟩ (by simp only[jm];omega);have hc:=VB hs;unfold fI at hc;rw[h1]at hc;simp only[ay,aD]at hc;by_cases he:e=0
 ·have w:=SM 1000000000 aH fs [] (by omega) (by rw[aF];omega) (by omega);have hz:(scan (fD fs) []).1=0:=by
   simp[he,w,ay,h]at hc;omega
  exact(SK _ _ [] (fun x=>by simp[jQ]) hz).1
 ·simp[he,h]at hc
theorem Sz:∀{fs:List ae} {i:Nat} (h:i<fs.length),fs[i].id∈fD fs
 |f::fs,0,_=>by
  rw[show fD (f::fs)=F8 f++fD fs from rfl,Da];simp
 |f::fs,i+1,h=>by
  rw[show fD (f::fs)=F8 f++fD fs from rfl];exact List.mem_append.2 (.inr (Sz (fs:=fs) (i:=i) (by simpa using h)))
theorem Ed:∀{fs:List ae},(fD fs).Nodup→∀(i j:Nat) (hi:i<fs.length) (hj:j<fs.length),fs[i].id=fs[j].id→i=j
 |[],_,i,_,hi,_,_=>by simp at hi
 |f::fs,h,i,j,hi,hj,e=>by
  rw[show fD (f::fs)=F8 f++fD fs from rfl,Da]at h;obtain⟨h1,h2⟩:=List.nodup_cons.1 (by simpa using h:(f.id::(fD f.type.fields++fD fs)).Nodup);have h3:(fD fs).Nodup:=(List.nodup_append.1 h2).2.1;have h4:∀(q:Nat) (hq:q<fs.length),fs[q].id≠f.id:=fun q hq e=>h1 (List.mem_append.2 (.inr (by rw[←e];exact Sz hq)))
  cases i with
  |zero=>
   cases j with
   |zero=>rfl
   |succ j=>exact absurd e.symm (h4 j (by simpa using hj))
  |succ i=>
   cases j with
   |zero=>exact absurd e (h4 i (by simpa using hi))
   |succ j=>rw[Ed h3 i j (by simpa using hi) (by simpa using hj) e]
theorem Zt{fs:List ae}(hn:fs.length<1000000000){id:Int}(h:Hc fs id=true):(tm fs id).id=id:=by
 unfold Hc at h;unfold tm;rcases RN.or fs id with⟨i,hi⟩ |hi
 ·rw[yD hn hi];exact hi.eq hi.lt
 ·obtain⟨g,hg⟩:=CA hn hi;rw[hg]at h;cases h
theorem Zi{fs:List ae}(hn:fs.length<1000000000)(hu:(fD fs).Nodup){g:ae}(hg:g∈fs):Hc fs g.id=true∧tm fs g.id=g:=by
 obtain⟨j,hj,rfl⟩:=NA.1 hg;unfold Hc tm;rcases RN.or fs fs[j].id with⟨i,hi⟩ |hi
 ·rw[yD hn hi];refine⟨rfl,?_⟩;have:=Ed hu i j hi.lt hj (hi.eq hi.lt);subst this;rfl
 ·exact absurd rfl (hi j hj)
theorem Yn{fs:List ae}(hu:(fD fs).Nodup){i j:Nat}(hi:i<(CQ fs).length)(hj:j<(CQ fs).length)(e:(CQ fs)[i].id=(CQ fs)[j].id):i=j:=by
 have h1:(fs.map (·.id)).Nodup:=by
  unfold List.Nodup;rw[List.pairwise_iff_getElem];intro a b ha hb hab h;simp only[List.getElem_map]at h;have:=Ed hu a b (by simpa using ha) (by simpa using hb) h;omega
 have h2:((CQ fs).map (·.id)).Nodup:=List.Nodup.sublist (List.Sublist.map _ List.filter_sublist) h1;unfold List.Nodup at h2;rw[List.pairwise_iff_getElem]at h2;rcases Nat.lt_trichotomy i j with c|c|c
 ·exact absurd (by rw[List.getElem_map,List.getElem_map];exact e) (h2 i j (by simpa using hi) (by simpa using hj) c)
 ·exact c
 ·exact absurd (by rw[List.getElem_map,List.getElem_map];exact e.symm) (h2 j i (by simpa using hj) (by simpa using hi) c)
theorem KG{n:Nat}{L:Nat→Int→Option Int}{p:Nat→Bool}(h0:∀k,L (k+1) (n:Int)=some (-1))(h1:∀k i,i<n→L (k+1) (i:Int)=ak (p i) (some (i:Int)) (L k ((i+1:Nat):Int))):
  ∀m k i,i+m=n→m<k→(∃j,i≤j∧j<n∧p j=true∧L k (i:Int)=some (j:Int))∨((∀j,i≤j→j<n→p j=false)∧L k (i:Int)=some (-1))
 |0,k,i,hi,hk=>by
  obtain⟨k,rfl⟩:=fu hk;have:i=n:=by omega
  subst this;exact .inr ⟨fun j a b=>by omega,h0 k⟩
 |m+1,k,i,hi,hk=>by
  obtain⟨k,rfl⟩:=fu hk;rw[h1 k i (by omega)];cases hp:p i with
  |true=>exact .inl ⟨i,iO _,by omega,hp,rfl⟩
  |false=>
   rw[iF];rcases KG h0 h1 m k (i+1) (by omega) (by omega)with⟨j,a,b,c,d⟩ |⟨a,b⟩
   ·exact .inl ⟨j,by omega,b,c,d⟩
   ·refine .inr ⟨fun j x y=> ?_,b⟩;by_cases e:j=i
    ·subst e;exact hp
    ·exact a j (by omega) y
structure Jk(m:ax)(f:aj)(os:List ae)(sp:cg):Prop where
 ao:at? m.schemas f.schema=some os
 asp:at? m.specs f.spec=some sp
 zo:dt os<1000000000-1
 nd:(fD os).Nodup
 ns:sp.fields.length<1000000000
 z:Np f
 ok:Ws f
 np:f.part.length=sp.fields.length
 src:∀(i:Nat) (h:i<sp.fields.length),Hc os sp.fields[i].source=true∧(tE sp.fields[i].transform (tm os sp.fields[i].source).type).2=0
 nst:f.stats.length=(CQ os).length
 st:∀(i:Nat) (h:i<f.stats.length) (h':i<(CQ os).length),f.stats[i].id=(CQ os)[i].id∧Ty (CQ os)[i].type f.stats[i].min∧Ty (CQ os)[i].type f.stats[i].max
theorem adI{m:ax}{f:aj}(hm:wj m)(hall:HI m=0)(hf:Np f)(h0:BK m f=0):∃os sp,Jk m f os sp:=by
 have hok:=RM hm hf h0;have h:=h0;unfold BK at h;rw[sM,sM]at h;obtain⟨_,h2,h3⟩:=h;obtain⟨os,sp,g1,g2,g3,g4,g5,g6⟩:=SV ((Hh (by decide)).1 h2);rw[g3,g4]at h3;simp only at h3;unfold GC at h3;rw[sM,sM,sM]at h3;obtain⟨e1,e2,e3,e4⟩:=h3;have hz:=hm.schemas.2 _ g5;have hp:f.part.length=sp.fields.length:=by
  rw[Hh (by decide),bne_eq_false_iff_eq]at e2;omega
 have hl:=RV hz;have hn:f.stats.length=(CQ os).length:=by
  unfold Kw at e4;by_cases hh:f.stats.length=(CQ os).length
  ·exact hh
  ·rw[dif_neg hh]at e4;cases e4
 refine⟨os,sp,g1,g2,hz,UM hz (Id hm hall os g5),hm.specs.2 _ g6,hf,hok,hp,fun i hi=> ?_,hn,fun i hi hi'=> ?_⟩
 ·have hb:Hc os sp.fields[i].source=true:=by
   rw[Hh (by decide),←Bool.not_eq_true,dO]at e1;cases hb:Hc os sp.fields[i].source with
   |true=>rfl
   |false=>exact absurd ⟨i,hi,by unfold uu;rw[dK hi];simp[hb]⟩ e1
  refine⟨hb,?_⟩;have:=Xh.1 e3 i (Nat.zero_le _) (by omega);unfold Jz at this;rw[dK hi,dK (show i<f.part.length by omega)]at this;simp only[sM]at this;have:=(Hh (by decide)).1 this.1;rwa [bne_eq_false_iff_eq]at this
 ·unfold Kw at e4;rw[dif_pos hn,sM,Xh]at e4;obtain⟨a1,a2⟩:=e4;have a2:=a2 i (Nat.zero_le _) (by omega);rw[dK hi,dK hi']at a2;simp only[stE,sM]at a2;obtain⟨q1,q2⟩:=hf.stats.2 _ (gd hi);obtain⟨q3,_,_⟩:=hl _ (gd hi');refine⟨?_,⟨q1,q3,a2.2.1⟩,⟨q2,q3,a2.2.2.1⟩⟩;rw[Hh (by decide),←Bool.not_eq_true,dO]at a1;cases hb:(f.stats[i].id==(CQ os)[i].id)with
  |true=>simpa using hb
  |false=>exact absurd ⟨i,hi,by rw[dK hi,dK hi'];simp only[hb];rfl⟩ a1
end Go.Proofs.YtpiohnabdhpphaaGreatDoor
namespace Go.Proofs.YtpiohnabdhpphaaGreatDoor
open Go Go.SX Go.SX.Cal
open Go.IntKind (i64)
noncomputable def Nt(v:ac)(u:al):ac:=(iP v u).getD zh
def WB(t u:al):Bool:=(kN t u).getD false
noncomputable def aaI(t u:al)(s:bB)(r:bA):Bool:=WB t u&&(Uo (Nt s.max u) r.low||Xf (Nt s.min u) r.high)
noncomputable def stB(t u:al)(rows:Int)(s:bB)(r:bA):Bool:=(s.nulls==rows)||aaI t u s r
theorem NT{t u:al}{v:ac}(h:Ty t v)(hw:Wp t u):iP v u=some (Nt v u)∧ry v u=some (Nt v u)∧Lv (Nt v u):=by
 obtain⟨w,w1,w2,w3⟩:=adw h hw;unfold Nt;rw[w1];exact⟨rfl,w2,w3⟩
theorem acq{t u:al}(ht:jm t<1000000000)(hu:jm u<1000000000):kN t u=some (WB t u)∧rD t u=some (WB t u)∧(WB t u=true→Wp t u):=by
 obtain⟨b,b1,b2,b3⟩:=LI t u ht hu;unfold WB;rw[b1];exact⟨rfl,b2,b3⟩
def ZY(tr:aT)(p:ac)(r:bA):Bool:=(pA tr p r).getD false
def Xd(sp:cg)(f:aj)(r:bA)(j:Nat):Bool:=match sp.fields[j]?,f.part[j]? with
 |some x,some p=>(x.source==r.id)&&ZY x.transform p r
 |_,_=>false
variable {m:ax} {f:aj} {os fs:List ae} {sp:cg} {r:bA}
theorem adf(hk:Jk m f os sp)(hr:RgT (tm os r.id).type r)(i:Nat)(hi:i<sp.fields.length)(hi':i<f.part.length)(hs:sp.fields[i].source=r.id):
  pA sp.fields[i].transform f.part[i] r=some (ZY sp.fields[i].transform f.part[i] r):=by
 have hn:os.length<1000000000:=by have:=bX os;have:=hk.zo;omega
 obtain⟨a,b⟩:=hk.src i hi;rw[hs]at a b;obtain⟨_,_,_,t4⟩:=zD hn r.id;obtain⟨t5,_⟩:=Ko sp.fields[i].transform (BV hk.zo (t4 a).2);have e:tE sp.fields[i].transform (tm os r.id).type=((tE sp.fields[i].transform (tm os r.id).type).1,0):=by rw[←b]
 rw[e]at t5;obtain⟨x,x1,x2⟩:=Oy hr (hk.ok.part _ (gd hi')) t5;unfold ZY;rw[x1];rfl
theorem YL(hk:Jk m f os sp)(hr:RgT (tm os r.id).type r):eR f r sp aH (0:Int)=some (!lu (Xd sp f r) sp.fields.length):=by
 have hj:∀(i:Nat) (hi:i<sp.fields.length),∃hi':i<f.part.length,Xd sp f r i=((sp.fields[i].source==r.id)&&ZY sp.fields[i].transform f.part[i] r):=fun i hi=>by
  have hi':i<f.part.length:=by have:=hk.np;omega
  refine⟨hi',?_⟩;unfold Xd;rw[dK hi,dK hi']
 rw[s7 (L:=eR f r sp) (n:=sp.fields.length) (p:=Xd sp f r) (e:=some false) (fin:=some true) hk.ns
  (fun k=>by rw[eR,wl,iF];rfl)
  (fun k i hi=>by
   obtain⟨hi',e⟩:=hj i hi;rw[eR,aS hi,iT,aB hi,bS,e];unfold qC;rw[aq hi hk.ns];by_cases hs:sp.fields[i].source=r.id
   ·rw[show(sp.fields[i].source==r.id)=true by simp[hs],iT,aB hi',bS,adf hk hr i hi hi' hs,bS,Bool.true_and]
   ·rw[show(sp.fields[i].source==r.id)=false by simp[hs],iF,Bool.false_and])]
 cases lu (Xd sp f r) sp.fields.length<;>rfl
def EV(t u:al):Bool:=t.kind==u.kind&&t.scale==u.scale
noncomputable def LE(os fs:List ae)(sp:cg)(f:aj)(r:bA):Bool:=
 !HY os r.id||(lu (fun j=>match f.stats[j]? with|some s=>(s.id==r.id)&&stB (tm os r.id).type (tm fs r.id).type f.rows s r|none=>false) f.stats.length
  ||(EV (tm os r.id).type (tm fs r.id).type&&lu (Xd sp f r) sp.fields.length))
theorem Se{t u:al}(ht:V t)(hu:V u)(h6:t.kind≠6)(h7:t.kind≠7)(h:EV t u=true):t=u:=by
 unfold EV at h;simp only[iu,beq_iff_eq]at h;have a:=(Jv ht h6 h7).1;have b:=(Jv hu (by omega) (by omega)).1;obtain⟨h1,h2⟩:=h;cases t;cases u;simp only at a b h1 h2;subst a;subst b;subst h1;subst h2;rfl
structure RgK(fs:List ae)(r:bA):Prop where
 tl:HY fs r.id=true
 rg:RgT (tm fs r.id).type r
theorem adn{t:al}{v:ac}(h:Ty t v):V t:=(Ph h.sv h.st h.ck).1
theorem Xr(hz:dt fs<1000000000-1)(hk:Jk m f os sp)(hr:RgK fs r):
  o7 m fs f r=some (!LE os fs sp f r):=by
 have hn:os.length<1000000000:=by have:=bX os;have:=hk.zo;omega
 have hn':fs.length<1000000000:=by have:=bX fs;omega
 have hns:=hk.z.stats.1;obtain⟨t,t1,t2⟩:=Oc hn r.id;obtain⟨u,u1,u2⟩:=Oc hn' r.id;obtain⟨hu,hum⟩:=u2 hr.tl;have hzu:=BV hz hum;have ll:=th hr.rg.lo.sv hr.rg.lo.st hr.rg.k6 hr.rg.k7 hr.rg.lo.ck;have lh:=th hr.rg.hi.sv hr.rg.hi.st hr.rg.k6 hr.rg.k7 hr.rg.hi.ck;unfold o7 LE;rw[hk.ao,bS];have hidx:=KG (L:=aL f.stats r.id r.low.kind r.low.n r.low.scale r.low.s r.low.items r.high.kind r.high.n r.high.scale r.high.s r.high.items) (n:=f.stats.length) (p:=fun j=>match f.stats[j]? with|some s=>s.id==r.id|none=>false)
   (fun k=>by rw[aL,wl,iF];rfl)
   (fun k i hi=>by
    rw[aL,aS hi,iT,aB hi,bS,ug,bS,aq hi hns,dK hi]) f.stats.length aH 0 (by omega) (by rw[aF];omega)
 unfold dq;cases hb:HY os r.id with
 |false=>
  rcases hidx with⟨j,_,hj,e,hL⟩ |⟨_,hL⟩
  ·exfalso;rw[dK hj]at e;simp only[beq_iff_eq]at e;have hj':j<(CQ os).length:=by have:=hk.nst;omega
   obtain⟨a,_⟩:=hk.st j hj hj';obtain⟨m1,m6,m7⟩:=MD (gd hj');obtain⟨b1,b2⟩:=Zi hn hk.nd m1;rw[←a,e]at b1 b2;have:HY os r.id=true:=by
    unfold HY uy;rw[b1,b2];simp[m6,m7]
   rw[hb]at this;cases this
  ·have hL:aL f.stats r.id r.low.kind r.low.n r.low.scale r.low.s r.low.items r.high.kind r.high.n r.high.scale r.high.s r.high.items aH (0:Int)=_:=hL;rw[hL,bS];rfl
 |true=>
  obtain⟨ht,htm⟩:=t2 hb;have hzt:=BV hk.zo htm;have hbp:Hc os r.id=true∧uy (tm os r.id)=true:=by
   unfold HY at hb;simpa using hb
  have hid:=Zt hn hbp.1;have hmem:tm os r.id∈CQ os:=List.mem_filter.2 ⟨htm,hbp.2⟩;obtain⟨q,hq',hqe⟩:=NA.1 hmem;have hq:q<f.stats.length:=by have:=hk.nst;omega
  obtain⟨qa,qmin,qmax⟩:=hk.st q hq hq';rw[hqe]at qa qmin qmax;rw[hid]at qa;have huq:∀(j:Nat) (hj:j<f.stats.length),f.stats[j].id=r.id→j=q:=fun j hj e=>by
   have hj':j<(CQ os).length:=by have:=hk.nst;omega
   obtain⟨a,_⟩:=hk.st j hj hj';exact Yn hk.nd hj' hq' (by rw[hqe,hid,←a,e])
  have h67:(tm os r.id).type.kind≠6∧(tm os r.id).type.kind≠7:=by
   have:=hbp.2;unfold uy at this;simpa using this
  obtain⟨w1,w2,w3⟩:=acq hzt hzu
  have hany:lu (fun j=>match f.stats[j]? with|some s=>(s.id==r.id)&&stB (tm os r.id).type (tm fs r.id).type f.rows s r|none=>false) f.stats.length=stB (tm os r.id).type (tm fs r.id).type f.rows f.stats[q] r:=by
   refine lm ?_;rw[dO];constructor
   ·rintro⟨j,hj,e⟩;rw[dK hj]at e;simp only[iu,beq_iff_eq]at e;have:=huq j hj e.1;subst this;exact e.2
   ·intro e;exact⟨q,hq,by rw[dK hq];simp only[iu,beq_iff_eq];exact⟨qa,e⟩⟩
  have hlast:n5 m f r (t,true) (u,true)=some (!(EV (tm os r.id).type (tm fs r.id).type&&lu (Xd sp f r) sp.fields.length)):=by
   rw[ht,hu];unfold n5 qJ;have hp:EV (tm os r.id).type (tm fs r.id).type=true→eR f r sp aH (0:Int)=some (!lu (Xd sp f r) sp.fields.length):=fun hs=>
    YL hk (by rw[Se (adn qmin) (adn hr.rg.lo) h67.1 h67.2 hs];exact hr.rg)
   rw[hk.asp];simp only[bS];revert hp;unfold EV;by_cases k1:(tm os r.id).type.kind=(tm fs r.id).type.kind
   ·rw[show((tm os r.id).type.kind==(tm fs r.id).type.kind)=true by simp[k1]];simp only[iT,iF,Bool.true_and];by_cases k2:(tm os r.id).type.scale=(tm fs r.id).type.scale
    ·rw[show((tm os r.id).type.scale==(tm fs r.id).type.scale)=true by simp[k2]];simp only[iT,iF,Bool.true_and];exact fun hp=>hp trivial
    ·rw[show((tm os r.id).type.scale==(tm fs r.id).type.scale)=false by simp[k2]];exact fun _=>rfl
   ·rw[show((tm os r.id).type.kind==(tm fs r.id).type.kind)=false by simp[k1]];exact fun _=>rfl
  generalize hX:(EV (tm os r.id).type (tm fs r.id).type&&lu (Xd sp f r) sp.fields.length)=X at hlast;rw[hany,Bool.not_true,Bool.false_or];rcases hidx with⟨j,_,hj,e,hL⟩ |⟨e,_⟩
  ·
   rw[dK hj]at e;simp only[beq_iff_eq]at e;have:=huq j hj e;subst this;have hL:aL f.stats r.id r.low.kind r.low.n r.low.scale r.low.s r.low.items r.high.kind r.high.n r.high.scale r.high.s r.high.items aH (0:Int)=_:=hL;rw[hL,bS,decide_eq_false (show¬(j:Int)<0 by omega),iF,aB hj,bS];unfold qN stB;cases(f.stats[j].nulls==f.rows)with
   |true=>rfl
   |false=>
    rw[iF,t1,bS,u1,bS,hb,hr.tl];show am (kN t u) _=_;rw[ht,hu,w1,bS,Bool.false_or];unfold aaI;rw[ht,hu]at hlast;cases hw:WB (tm os r.id).type (tm fs r.id).type with
    |false=>rw[iF,hlast,Bool.false_and,Bool.false_or]
    |true=>
     have hwd:=w3 hw;obtain⟨x1,_,x3⟩:=NT qmax hwd;obtain⟨y1,_,y3⟩:=NT qmin hwd;rw[iT,aB hj,bS,x1,bS,M2 x3 ll.wf,bS,Bool.true_and];unfold qG;cases Uo (Nt f.stats[j].max (tm fs r.id).type) r.low with
     |true=>rfl
     |false=>
      rw[iF,y1,bS,MY y3 lh.wf,bS,Bool.false_or];cases Xf (Nt f.stats[j].min (tm fs r.id).type) r.high with
      |true=>rfl
      |false=>rw[iF,hlast,Bool.false_or]
  ·have:=e q (Nat.zero_le _) hq;rw[dK hq]at this;simp only[qa,beq_self_eq_true]at this;cases this
end Go.Proofs.YtpiohnabdhpphaaGreatDoor
namespace Go.Proofs.YtpiohnabdhpphaaGreatDoor
open Go Go.SX Go.SX.Cal
open Go.IntKind (i64)
theorem Gl{fs:List ae}{rows:List (List ac)}(h:SH fs rows=0):sc fs=0∧Ew fs rows=0:=by
 unfold SH at h;by_cases h1:sc fs=0
 ·rw[if_neg (fun k=>k h1)]at h;split at h
  ·omega
  ·exact⟨h1,h⟩
 ·rw[if_pos h1]at h;exact absurd h h1
theorem Qm{os:List ae}{rows:List (List ac)}(hz:dt os<1000000000-1)(hr:∀r∈rows,cN r<1000000000)(h:Ew os rows=0){r:List ac}(hm:r∈rows){i:Nat}(hi:i<os.length)(hl:uy os[i]=true):
  ∃h:i<r.length,Ty os[i].type r[i]∧Lv r[i]:=by
 obtain⟨a,b⟩:=Gk h r hm;have hi':i<r.length:=by omega
 obtain⟨c,_⟩:=MT b i os[i] r[i] (dK hi) (dK hi');have hT:=BV hz (gd hi);have hv:bE r[i]<1000000000:=NF (hr r hm) hi';unfold uy at hl;simp only[decide_eq_true_eq]at hl;exact⟨hi',⟨hv,hT,c⟩,th hv hT hl.1 hl.2 c⟩
structure MM where
 n:Int
 mn:ac
 mx:ac
noncomputable def PD(s:MM)(v:ac):MM:=
 if v.kind=0 then⟨s.n+1,s.mn,s.mx⟩else if s.mn.kind=0 then⟨s.n,v,v⟩
 else⟨s.n,if Ord.cmpV v s.mn<0 then v else s.mn,if Ord.cmpV v s.mn<0 then s.mx else if 0<Ord.cmpV v s.mx then v else s.mx⟩
structure Zr(rows:List (List ac))(i:Nat)(s:MM)(j:Nat):Prop where
 n:0≤s.n∧s.n≤j
 all:s.n=j→∀(q:Nat) (h:q<rows.length) (hi:i<rows[q].length),q<j→(rows[q])[i].kind=0
 lv:Lv s.mn∧Lv s.mx∧(s.mn.kind=0↔s.mx.kind=0)
 le:s.mn.kind≠0→Ord.cmpV s.mn s.mx≤0
 bd:∀(q:Nat) (h:q<rows.length) (hi:i<rows[q].length),q<j→(rows[q])[i].kind≠0→s.mn.kind≠0∧Ord.cmpV s.mn (rows[q])[i]≤0∧Ord.cmpV (rows[q])[i] s.mx≤0
theorem Cu{a b c:ac}(h1:Ord.cmpV a b≤0)(h2:Ord.cmpV b c≤0):Ord.cmpV a c≤0:=((Ord.cmpV_tri a b c).1 h1 h2).1
theorem Ve{a b:ac}(h:¬Ord.cmpV a b<0):Ord.cmpV b a≤0:=by have:=Ord.cmpV_anti a b;omega
theorem aaY{a b:ac}(h:¬0<Ord.cmpV a b):Ord.cmpV a b≤0:=by omega
theorem Zr.step{rows:List (List ac)}{i:Nat}{s:MM}{j:Nat}(h:Zr rows i s j)(hj:j<rows.length)(hi:i<rows[j].length)(hv:Lv (rows[j])[i]):Zr rows i (PD s (rows[j])[i]) (j+1):=by
 have hn:=h.n;obtain⟨l1,l2,l3⟩:=h.lv;unfold PD;by_cases h0:(rows[j])[i].kind=0
 ·rw[if_pos h0];refine⟨by simp only;omega,fun e q hq hqi hlt=> ?_,h.lv,h.le,fun q hq hqi hlt hne=> ?_⟩
  ·by_cases e':q=j
   ·subst e';exact h0
   ·exact h.all (by simp only at e;omega) q hq hqi (by omega)
  ·by_cases e':q=j
   ·subst e';exact absurd h0 hne
   ·exact h.bd q hq hqi (by omega) hne
 ·rw[if_neg h0];by_cases hm:s.mn.kind=0
  ·rw[if_pos hm];refine⟨by simp only;omega,fun e=>by simp only at e;omega,⟨hv,hv,Iff.rfl⟩,fun _=>by simp only[Ord.cmpV_refl];omega,fun q hq hqi hlt hne=> ?_⟩;by_cases e':q=j
   ·subst e';exact⟨h0,by simp only[Ord.cmpV_refl];omega,by simp only[Ord.cmpV_refl];omega⟩
   ·exact absurd hm (h.bd q hq hqi (by omega) hne).1
  ·rw[if_neg hm];have hle:=h.le hm;have hxk:s.mx.kind≠0:=fun e=>hm (l3.2 e)
   have key:∀a b,(a=(rows[j])[i]∨a=s.mn)→Ord.cmpV a (rows[j])[i]≤0→Ord.cmpV a s.mn≤0→Ord.cmpV (rows[j])[i] b≤0→Ord.cmpV s.mx b≤0→Lv b→b.kind≠0→
     Zr rows i ⟨s.n,a,b⟩ (j+1):=by
    intro a b ha a1 a2 b1 b2 hb hbk;have hak:a.kind≠0:=by rcases ha with rfl|rfl<;>assumption
    refine⟨by simp only;omega,fun e=>by simp only at e;omega,⟨?_,hb,⟨fun e=>absurd e hak,fun e=>absurd e hbk⟩⟩,fun _=>Cu a2 (Cu hle b2),fun q hq hqi hlt hne=> ?_⟩
    ·rcases ha with rfl|rfl<;>assumption
    ·by_cases e':q=j
     ·subst e';exact⟨hak,a1,b1⟩
     ·obtain⟨_,c1,c2⟩:=h.bd q hq hqi (by omega) hne;exact⟨hak,Cu a2 c1,Cu c2 b2⟩
   by_cases c1:Ord.cmpV (rows[j])[i] s.mn<0
   ·rw[if_pos c1,if_pos c1];exact key _ _ (.inl rfl) (by rw[Ord.cmpV_refl];omega) (by omega) (Cu (by omega) hle) (by rw[Ord.cmpV_refl];omega) l2 hxk
   ·rw[if_neg c1,if_neg c1];by_cases c2:0<Ord.cmpV (rows[j])[i] s.mx
    ·rw[if_pos c2];have:=Ord.cmpV_anti (rows[j])[i] s.mx;exact key _ _ (.inr rfl) (Ve c1) (by rw[Ord.cmpV_refl];omega) (by rw[Ord.cmpV_refl];omega) (by omega) hv h0
    ·rw[if_neg c2];exact key _ _ (.inr rfl) (Ve c1) (by rw[Ord.cmpV_refl];omega) (aaY c2) (by rw[Ord.cmpV_refl];omega) l2 hxk
theorem Sa(g:ac):ac.mk g.kind g.n g.scale g.s g.items=g:=by cases g;rfl
theorem aaR{rows:List (List ac)}(hn:rows.length<1000000000){i:Nat}(rec2:List bB→Int→Option (List bB×Int))(l1:List bB)(x1:Int)(hx1:x1=i)(e1:ae){s:MM}{q j:Nat}(hs:Zr rows i s j)(hj:j<rows.length)(hi:i<rows[j].length)(hv:Lv (rows[j])[i]):
  dV rec2 rows l1 x1 e1 (q+1) s.n s.mn.kind s.mn.n s.mn.scale s.mn.s s.mn.items s.mx.kind s.mx.n s.mx.scale s.mx.s s.mx.items (j:Int)=
   (let t:=PD s (rows[j])[i];dV rec2 rows l1 x1 e1 q t.n t.mn.kind t.mn.n t.mn.scale t.mn.s t.mn.items t.mx.kind t.mx.n t.mx.scale t.mx.s t.mx.items ((j+1:Nat):Int)):=by
 subst hx1;have hsn:=hs.n;obtain⟨l1',l2',_⟩:=hs.lv;rw[dV,aS hj,iT,aB hj,bS,aB hi,bS];generalize (rows[j])[i]=v at*;obtain⟨n,mn,mx⟩:=s;simp only at hsn l1' l2'⊢;unfold lL;rw[Sa,Sa,aq hj hn];unfold PD;by_cases h0:v.kind=0
 ·rw[if_pos h0,show(v.kind==0)=true by simp[h0],iT,j9 (by omega) (by omega)]
 ·rw[if_neg h0,show(v.kind==0)=false by simp[h0],iF];by_cases hm:mn.kind=0
  ·rw[if_pos hm,show(mn.kind==0)=true by simp[hm],iT]
  ·rw[if_neg hm,show(mn.kind==0)=false by simp[hm],iF,Hw hv l1',bS,Hw hv l2',bS];by_cases c1:Ord.cmpV v mn<0
   ·rw[decide_eq_true c1,iT,if_pos c1,if_pos c1]
   ·rw[decide_eq_false c1,iF,if_neg c1,if_neg c1];by_cases c2:0<Ord.cmpV v mx
    ·rw[decide_eq_true c2,iT,if_pos c2]
    ·rw[decide_eq_false c2,iF,if_neg c2]
theorem abN{rows:List (List ac)}(hn:rows.length<1000000000){i:Nat}(hi:∀r∈rows,∃h:i<r.length,Lv r[i])(rec2:List bB→Int→Option (List bB×Int))(l1:List bB)(x1:Int)(hx1:x1=i)(e1:ae):∀(m f j:Nat) (s:MM),j+m=rows.length→m<f→Zr rows i s j→
  ∃t,Zr rows i t rows.length∧dV rec2 rows l1 x1 e1 f s.n s.mn.kind s.mn.n s.mn.scale s.mn.s s.mn.items s.mx.kind s.mx.n s.mx.scale s.mx.s s.mx.items (j:Int)=tY rec2 l1 x1 e1 t.n t.mn.kind t.mn.n t.mn.scale t.mn.s t.mn.items t.mx.kind t.mx.n t.mx.scale t.mx.s t.mx.items:=by
 intro m;induction m with
 |zero=>
  intro f j s h hf hs;obtain⟨q,rfl⟩:=fu hf;refine⟨s,by rw[show rows.length=j by omega];exact hs,?_⟩;rw[dV,FE (by omega),iF]
 |succ m ih=>
  intro f j s h hf hs;obtain⟨q,rfl⟩:=fu hf;have hj:j<rows.length:=by omega
  obtain⟨h1,h2⟩:=hi _ (gd hj);rw[aaR hn rec2 l1 x1 hx1 e1 (q:=q) hs hj h1 h2];exact ih q (j+1) (PD s (rows[j])[i]) (by omega) (by omega) (hs.step hj h1 h2)
structure OM(os:List ae)(rows:List (List ac))(x:bB):Prop where
 lv:Lv x.min∧Lv x.max
 col:∃(i:Nat) (h:i<os.length),uy os[i]=true∧x.id=os[i].id∧Zr rows i ⟨x.nulls,x.min,x.max⟩ rows.length
theorem S5{os:List ae}{rows:List (List ac)}(hz:dt os<1000000000-1)(hn:rows.length<1000000000)(hr:∀r∈rows,cN r<1000000000)(h0:Ew os rows=0):∀(m f j:Nat) (l:List bB),j+m=os.length→m<f→l.length≤j→
  ∃xs,eG os rows f l (j:Int)=some (l++xs,0)∧xs.length≤m∧∀x∈xs,OM os rows x:=by
 have hfn:os.length<1000000000:=by have:=bX os;omega
 intro m;induction m with
 |zero=>
  intro f j l h hq hl;obtain⟨q,rfl⟩:=fu hq;refine⟨[],?_,iO _,fun x hx=>by cases hx⟩;rw[eG,FE (by omega),iF,List.append_nil];rfl
 |succ m ih=>
  intro f j l h hq hl;obtain⟨q,rfl⟩:=fu hq;have hj:j<os.length:=by omega
  rw[eG,aS hj,iT,aB hj,bS,DU,bS];show∃xs,ak (!uy os[j]) _ _=_∧_;cases hk:uy os[j]with
  |true=>
   rw[Bool.not_true,iF];obtain⟨t,ht,b⟩:=abN hn (i:=j) (fun r hrm=>by obtain⟨a,_,b⟩:=Qm hz hr h0 hrm hj hk;exact⟨a,b⟩) (eG os rows q) l (j:Int) rfl os[j] rows.length aH 0 ⟨0,zh,zh⟩ (by omega) (by rw[aF];omega)
    ⟨⟨by simp only;omega,by simp only;omega⟩,fun _ q' _ _ hlt=>by omega,⟨Qq,Qq,Iff.rfl⟩,fun hh=>absurd rfl hh,fun q' _ _ hlt=>by omega⟩
   obtain⟨xs,g2,g3,g4⟩:=ih q (j+1) (l++[⟨os[j].id,t.n,t.mn,t.mx⟩]) (by omega) (by omega) (by simp;omega);refine⟨⟨os[j].id,t.n,t.mn,t.mx⟩::xs,?_,by simp only[List.length_cons];omega,fun x hx=> ?_⟩
   ·rw[show((0:Nat):Int)=0 from rfl]at b;refine b.trans ?_;unfold tY qb;rw[gP (by omega),Sa,Sa,aq hj hfn,g2];simp
   ·rcases List.mem_cons.1 hx with rfl|hx
    ·exact⟨⟨ht.lv.1,ht.lv.2.1⟩,j,hj,hk,rfl,ht⟩
    ·exact g4 x hx
  |false=>
   rw[Bool.not_false,iT];unfold qb;rw[aq hj hfn];obtain⟨xs,g2,g3,g4⟩:=ih q (j+1) l (by omega) (by omega) (by omega);exact⟨xs,g2,by omega,g4⟩
theorem aab{os:List ae}{rows:List (List ac)}(hz:dt os<1000000000-1)(hn:rows.length<1000000000)(hr:∀r∈rows,cN r<1000000000):
  ∃xs c,yF os rows=some (xs,c)∧(c=0→SH os rows=0∧xs.length<1000000000∧∀x∈xs,OM os rows x):=by
 have hfn:os.length<1000000000:=by have:=bX os;omega
 have h2:=DR (fs:=os) (rows:=rows) hz hr hn;unfold yF;rw[h2,bS];by_cases h0:SH os rows=0
 ·rw[h0,show((0:Int) != 0)=false from rfl,iF];obtain⟨z1,z2⟩:=Gl h0;obtain⟨xs,g2,g3,g4⟩:=S5 hz hn hr z2 os.length aH 0 [] (by omega) (by rw[aF];omega) (Nat.zero_le _);exact⟨xs,0,g2,fun _=>⟨rfl,by omega,g4⟩⟩
 ·rw[show(SH os rows != 0)=true from bne_iff_ne.2 h0,iT];exact⟨[],_,rfl,fun h=>absurd h h0⟩
end Go.Proofs.YtpiohnabdhpphaaGreatDoor
namespace Go.Proofs.YtpiohnabdhpphaaGreatDoor
open Go Go.SX Go.SX.Cal Go.Lib
open Go.IntKind (i64)
def pre:Nat→List UInt8→List UInt8
 |0,_=>[]
 |k+1,l=>if l=[]then[]else l.take (decodeL l).2++pre k (l.drop (decodeL l).2)
theorem AA{l:List UInt8}(hne:l≠[])(hv:validD l=true):¬((decodeL l).1=65533∧(decodeL l).2=1)∧validD (l.drop (decodeL l).2)=true:=by
 rw[validD_step _ hne]at hv;by_cases h:(decodeL l).1=65533∧(decodeL l).2=1
 ·rw[if_pos h]at hv;cases hv
 ·rw[if_neg h]at hv;exact⟨h,hv⟩
theorem TX(s:ByteArray):∀(b k i:Nat),s.size≤i+b→i≤s.size→validD (s.data.toList.drop i)=true→
  (((ph s b i).take k).map encodeRune).flatten=pre k (s.data.toList.drop i):=by
 have hl:s.data.toList.length=s.size:=by simp
 intro b;induction b with
 |zero=>
  intro k i hb hi hv;have:s.data.toList.drop i=[]:=List.drop_of_length_le (by omega);rw[this,ph,List.take_nil];cases k<;>simp[pre]
 |succ b ih=>
  intro k i hb hi hv;cases k with
  |zero=>simp[pre]
  |succ k=>
   rw[ph,pre];by_cases hlt:i<s.size
   ·have hne:s.data.toList.drop i≠[]:=fun e=>by have:=congrArg List.length e;rw[List.length_drop,hl]at this;simp at this;omega
    obtain⟨hb1,hv1⟩:=AA hne hv;have hw:=decodeL_width (s.data.toList.drop i);have hwl:=decodeL_le (s.data.toList.drop i) hne;have henc:=encode_decode _ hne hb1;rw[List.drop_drop]at hv1;rw[decodeL_drop]at hw hwl hv1 henc;rw[List.length_drop,hl]at hwl;rw[if_pos hlt,if_neg hne,List.take_succ_cons,List.map_cons,List.flatten_cons,ih k _ (by omega) (by omega) hv1,decodeL_drop,List.drop_drop];congr 1
   ·have:s.data.toList.drop i=[]:=List.drop_of_length_le (by omega);rw[if_neg hlt,this,if_pos rfl,List.take_nil,List.map_nil,List.flatten_nil]
theorem Sv{s:ByteArray}(hv:validD s.data.toList=true)(k:Nat):(runesBytes ((ig s).take k)).data.toList=pre k s.data.toList:=by
 rw[CJ];exact TX s s.size k 0 (by omega) (by omega) hv
def wid(b:Nat):Nat:=if b<128 then 1 else if b/32=6 then 2 else if b/16=14 then 3 else 4
theorem Oz(n b0 b1 b2 b3:Nat)(h:¬((decodeN n b0 b1 b2 b3).1=65533∧(decodeN n b0 b1 b2 b3).2=1)):(decodeN n b0 b1 b2 b3).2=wid b0:=by
 unfold decodeN wid at*;by_cases h1:b0<128
 ·rw[if_pos h1,if_pos h1]
 rw[if_neg h1]at h⊢;rw[if_neg h1];by_cases h2:b0/32=6∧(1<n∧b1/64=2)
 ·rw[if_pos h2]at h⊢;rw[if_pos h2.1];split
  ·rfl
  ·rename_i h3;rw[if_neg h3]at h;exact absurd ⟨rfl,rfl⟩ h
 rw[if_neg h2]at h⊢;by_cases h3:b0/16=14∧(1<n∧b1/64=2)∧(2<n∧b2/64=2)
 ·rw[if_pos h3]at h⊢;rw[if_neg (show¬b0/32=6 by omega),if_pos h3.1];split
  ·rfl
  ·rename_i h4;rw[if_neg h4]at h;exact absurd ⟨rfl,rfl⟩ h
 rw[if_neg h3]at h⊢;by_cases h4:b0/8=30∧(1<n∧b1/64=2)∧(2<n∧b2/64=2)∧(3<n∧b3/64=2)
 ·rw[if_pos h4]at h⊢;rw[if_neg (show¬b0/32=6 by omega),if_neg (show¬b0/16=14 by omega)];split
  ·rfl
  ·rename_i h5;rw[if_neg h5]at h;exact absurd ⟨rfl,rfl⟩ h
 ·rw[if_neg h4]at h;exact absurd ⟨rfl,rfl⟩ h
theorem Ii{l:List UInt8}(hne:l≠[])(hv:validD l=true):(decodeL l).2=wid (l.getD 0 0).toNat:=by
 have:=(AA hne hv).1;rw[decodeL_N]at this⊢;exact Oz _ _ _ _ _ this
theorem P9:∀(p q X Y:List UInt8),p.length=q.length→Ord.cB (p++X) (q++Y)=Ord.or' (Ord.cB p q) (Ord.cB X Y)
 |[],[],X,Y,_=>by rw[List.nil_append,List.nil_append,show Ord.cB [] []=0 by decide,Ord.or_zero]
 |x::p,y::q,X,Y,h=>by
  rw[List.cons_append,List.cons_append,Ord.cB_cons,Ord.cB_cons,P9 p q X Y (by simpa using h)];unfold Ord.or';by_cases h1:Ord.c3 x.toNat y.toNat=0
  ·simp[h1]
  ·simp[h1]
 |[],_::_,_,_,h=>by simp at h
 |_::_,[],_,_,h=>by simp at h
theorem ZS(m:List UInt8):Ord.cB [] m≤0:=by
 cases m with
 |nil=>decide
 |cons b m=>simp[Ord.cB,Op.bytesLess]
theorem WV(b:UInt8)(l:List UInt8):Ord.cB (b::l) []=1:=by simp[Ord.cB,Op.bytesLess]
theorem UK:∀(k:Nat) (l m:List UInt8),validD l=true→validD m=true→Ord.cB l m≤0→Ord.cB (pre k l) (pre k m)≤0
 |0,l,m,_,_,_=>by simp only[pre];decide
 |k+1,[],m,_,_,_=>by rw[pre,if_pos rfl];exact ZS _
 |k+1,x::l,[],_,_,h=>by rw[WV]at h;omega
 |k+1,x::l,y::m,hl,hm,h=>by
  have n1:x::l≠[]:=by simp
  have n2:y::m≠[]:=by simp
  have w1:=decodeL_width (x::l);have w2:=decodeL_width (y::m);have e1:=decodeL_le _ n1;have e2:=decodeL_le _ n2;have v1:=(AA n1 hl).2;have v2:=(AA n2 hm).2;have f1:=Ii n1 hl;have f2:=Ii n2 hm;rw[pre,pre,if_neg n1,if_neg n2];by_cases hxy:x=y
  ·subst hxy;have hw:(decodeL (x::l)).2=(decodeL (x::m)).2:=by rw[f1,f2];rfl
   rw[←hw]at e2 v2⊢;generalize (decodeL (x::l)).2=w at*;have hlen:((x::l).take w).length=((x::m).take w).length:=by rw[List.length_take,List.length_take];omega
   have hc:Ord.cB (x::l) (x::m)=Ord.or' (Ord.cB ((x::l).take w) ((x::m).take w)) (Ord.cB ((x::l).drop w) ((x::m).drop w)):=by
    rw[←P9 _ _ _ _ hlen,List.take_append_drop,List.take_append_drop]
   rw[P9 _ _ _ _ hlen];rw[hc]at h;unfold Ord.or' at h⊢;by_cases h0:Ord.cB ((x::l).take w) ((x::m).take w)=0
   ·rw[h0,if_neg (by simp)]at h⊢;exact UK k _ _ v1 v2 h
   ·rw[if_pos h0]at h⊢;exact h
  ·have hne:x.toNat≠y.toNat:=fun h=>hxy (UInt8.toNat_inj.1 h)
   obtain⟨a,ha⟩:∃a,(decodeL (x::l)).2=a+1:=⟨(decodeL (x::l)).2-1,by omega⟩
   obtain⟨b,hb⟩:∃b,(decodeL (y::m)).2=b+1:=⟨(decodeL (y::m)).2-1,by omega⟩
   rw[ha,hb,List.take_succ_cons,List.take_succ_cons,List.cons_append,List.cons_append,Ord.cB_cons];rw[Ord.cB_cons]at h;have hc:Ord.c3 x.toNat y.toNat≠0:=by unfold Ord.c3;split<;>(try split)<;>omega
   unfold Ord.or' at h⊢;rw[if_pos hc]at h⊢;exact h
theorem Jy(y:Int):∀(d:Nat) (k:Int),1≤k→k+d≤12→Cal.days y k 1≤Cal.days y (k+d) 1
 |0,k,_,_=>by rw[show k+((0:Nat):Int)=k by omega];exact Int.le_refl _
 |d+1,k,h1,h2=>by
  have h3:=Jy y d k h1 (by omega);have h4:=Tm.month_step y (k+d) (by omega) (by omega);have h5:=Tm.dim_bound y (k+d);rw[show k+((d+1:Nat):Int)=k+(d:Int)+1 by omega,h4];omega
theorem TC{N M:Int}(h:N≤M):(Cal.date N).1<(Cal.date M).1∨((Cal.date N).1=(Cal.date M).1∧(Cal.date N).2.1≤(Cal.date M).2.1):=by
 obtain⟨a1,a2⟩:=(DL (n:=N) (y:=(Cal.date N).1)).1 rfl;obtain⟨b1,b2⟩:=(DL (n:=M) (y:=(Cal.date M).1)).1 rfl;by_cases hlt:(Cal.date N).1<(Cal.date M).1
 ·exact .inl hlt
 refine .inr ?_;have hle:(Cal.date N).1=(Cal.date M).1:=by
  apply Classical.byContradiction;intro hne;have:=wT (y:=(Cal.date M).1+1) (z:=(Cal.date N).1) (by omega);omega
 refine⟨hle,?_⟩;apply Classical.byContradiction;intro hc;obtain⟨e1,m1,m2,d1,d2⟩:=FD N;obtain⟨e2,m3,m4,d3,d4⟩:=FD M;rw[Tm.days_d]at e1 e2;have hs:=Tm.month_step (Cal.date M).1 (Cal.date M).2.1 (by omega) (by omega);have hm:=Jy (Cal.date M).1 ((Cal.date N).2.1-((Cal.date M).2.1+1)).toNat ((Cal.date M).2.1+1) (by omega) (by omega);rw[show(Cal.date M).2.1+1+(((Cal.date N).2.1-((Cal.date M).2.1+1)).toNat:Int)=(Cal.date N).2.1 by omega]at hm;rw[hle]at e1;omega
theorem Us(x:Int):Ord.or' x 0=x:=by unfold Ord.or';split<;>omega
theorem yW(k n m sc:Int)(s t:ByteArray):Ord.cmpV ⟨k,n,sc,s,[]⟩ ⟨k,m,sc,t,[]⟩=if k=0 then 0 else Ord.or' (Ord.c3 (Ord.vvI k sc n) (Ord.vvI k sc m)) (Ord.cS s t):=by
 simp only[Ord.cmpV,Ord.cmpL,Ord.c3_self,Ord.or_zero,Us]
theorem Mu{s t:ByteArray}(hs:s.size=0)(ht:t.size=0):Ord.cS s t=0:=by
 have e:s=t:=by
  refine UA ?_;have h1:s.data.toList=[]:=List.eq_nil_of_length_eq_zero (by simpa using hs);have h2:t.data.toList=[]:=List.eq_nil_of_length_eq_zero (by simpa using ht);rw[h1,h2]
 subst e;unfold Ord.cS;have:Op.bytesLess s.toList s.toList=false:=by
  have h:∀l:List UInt8,Op.bytesLess l l=false:=fun l=>by induction l with
   |nil=>rfl
   |cons a l ih=>simp[Op.bytesLess,ih]
  exact h _
 rw[this];simp
theorem SL{a b:Int}:Ord.c3 a b≤0↔a≤b:=by unfold Ord.c3;split<;>(try split)<;>omega
theorem So{k sc n m:Int}:Ord.vvI k sc n≤Ord.vvI k sc m↔n≤m:=by
 unfold Ord.vvI;split
 ·have hp:=Ord.p10n (12-sc).toNat;exact⟨fun h=>Int.le_of_mul_le_mul_right h hp,fun h=>Int.mul_le_mul_of_nonneg_right h (Int.le_of_lt hp)⟩
 ·exact Iff.rfl
theorem I0{q r:Int}(h:q≤r):Ord.cmpV ⟨2,q,0,ByteArray.empty,[]⟩ ⟨2,r,0,ByteArray.empty,[]⟩≤0:=by
 rw[yW,if_neg (by decide),Mu rfl rfl,Us];exact SL.2 (So.2 h)
theorem Sg(s:ByteArray):s.toList=s.data.toList:=by
 simp[ByteArray.toList_eq]
theorem Zl{a b:ac}(ha:Lf a)(hb:Lf b)(ta:a.kind=4→a.n=0)(tb:b.kind=4→b.n=0)(hk:a.kind=b.kind)(hs:a.scale=b.scale)(h:Ord.cmpV a b≤0):a.n≤b.n∧(a.kind=4→Ord.cS a.s b.s≤0):=by
 obtain⟨k,n,sc,s,it⟩:=a;obtain⟨k',m,sc',t,it'⟩:=b;have e1:it=[]:=ha.it;have e2:it'=[]:=hb.it;simp only at hk hs;subst e1 e2 hk hs;have hkk:=ha.k;simp only at hkk;rw[yW,if_neg (by omega)]at h;by_cases h4:k=4
 ·have n0:n=0:=ta h4;have m0:m=0:=tb h4;subst n0 m0;rw[Ord.c3_self,Ord.or_zero]at h;exact⟨Int.le_refl _,fun _=>h⟩
 ·rw[Mu (ha.nos h4) (hb.nos h4),Us]at h;exact⟨So.1 (SL.1 h),fun h=>absurd h h4⟩
theorem ZI(s t:ByteArray):Ord.cS s t=Ord.cB s.data.toList t.data.toList:=by
 rw[Ord.cS_eq,Sg,Sg]
theorem Wc{n m:Int}(h:n≤m)(hn: -62135596800≤n)(hm:m≤253402300799):(Tm.civ n).year≤(Tm.civ m).year∧12*((Tm.civ n).year-1970)+(Tm.civ n).month-1≤12*((Tm.civ m).year-1970)+(Tm.civ m).month-1:=by
 have hd:n/86400≤m/86400:=Int.ediv_le_ediv (by decide) h;obtain⟨f,_⟩:=Tm.civ_ok (s:=n) (by omega) (by omega);obtain⟨g,_⟩:=Tm.civ_ok (s:=m) (by omega) (by omega);have f0:=f.m0;have f1:=f.m1;have g0:=g.m0;have g1:=g.m1;have hc:(Tm.civ n).year<(Tm.civ m).year∨((Tm.civ n).year=(Tm.civ m).year∧(Tm.civ n).month≤(Tm.civ m).month):=TC hd;omega
theorem abq{p:aT}{a b:ac}(ha:Lf a)(hb:Lf b)(ta:a.kind=4→a.n=0)(tb:b.kind=4→b.n=0)(hk:a.kind=b.kind)(hs:a.scale=b.scale)(ho:Xn p ⟨a.kind,a.scale,[]⟩)(h2:p.kind≠2)(h:Ord.cmpV a b≤0):
  Ord.cmpV (MQ p a 0 (Tm.civ a.n).year (Tm.civ a.n).month) (MQ p b 0 (Tm.civ b.n).year (Tm.civ b.n).month)≤0:=by
 obtain⟨hn,ht⟩:=Zl ha hb ta tb hk hs h;have hpar:p.kind=2∨p.kind=3→1≤p.param∧p.param≤1000000:=ho.par;have htim:4≤p.kind→a.kind=5:=ho.tim;have hlo:=ho.lo;unfold MQ;by_cases k0:p.kind=0
 ·rw[if_pos k0,if_pos k0];unfold zh;rw[yW,if_pos rfl];exact Int.le_refl _
 rw[if_neg k0,if_neg k0];by_cases k1:p.kind=1
 ·rw[if_pos k1,if_pos k1];exact h
 rw[if_neg k1,if_neg k1,if_neg h2,if_neg h2];by_cases k3:p.kind=3
 ·rw[if_pos k3,if_pos k3,←hk,←hs,ha.it,hb.it];have hm:=hpar (.inr k3);have hkk:=ha.k;by_cases h4:a.kind=4
  ·have h4b:b.kind=4:=by rw[←hk];exact h4
   rw[if_pos h4,if_pos h4,yW,if_neg (by omega),ta h4,tb h4b,Ord.c3_self,Ord.or_zero,ZI,Sv (ha.txt h4).2,Sv (hb.txt h4b).2];have hc:=ht h4;rw[ZI]at hc;exact UK _ _ _ (ha.txt h4).2 (hb.txt h4b).2 hc
  ·have h4b:b.kind≠4:=by rw[←hk];exact h4
   rw[if_neg h4,if_neg h4,yW,if_neg (by omega),Mu (ha.nos h4) (hb.nos h4b),Us];refine SL.2 (So.2 ?_);have hd:a.n/p.param≤b.n/p.param:=Int.ediv_le_ediv (by omega) hn;have:=Int.mul_le_mul_of_nonneg_right hd (show 0≤p.param by omega);omega
 rw[if_neg k3,if_neg k3];have h5:=htim (by omega);have h5b:b.kind=5:=by rw[←hk];exact h5
 obtain⟨m0,m1⟩:=ha.mom h5;obtain⟨m2,m3⟩:=hb.mom h5b;obtain⟨c1,c2⟩:=Wc hn m0 m3;split
 ·exact I0 (by omega)
 split
 ·exact I0 c2
 split
 ·exact I0 (Int.ediv_le_ediv (by decide) hn)
 ·exact I0 (Int.ediv_le_ediv (by decide) hn)
end Go.Proofs.YtpiohnabdhpphaaGreatDoor
namespace Go.Proofs.YtpiohnabdhpphaaGreatDoor
open Go Go.SX Go.SX.Cal
open Go.IntKind (i64)
def inB(r:bA)(v:ac):Bool:=decide (v.kind≠0)&&((decide (r.low.kind=0)||decide (0≤Ord.cmpV v r.low))&&(decide (r.high.kind=0)||decide (Ord.cmpV v r.high≤0)))
theorem aeE{r:bA}{v:ac}(hv:Lv v)(hl:Lv r.low)(hh:Lv r.high):yu r v=some (inB r v):=by
 unfold yu rc inB;rw[Hw hv hl,Hw hv hh];by_cases h0:v.kind=0
 ·rw[show(v.kind != 0)=false by simp[h0],iF];simp[h0]
 ·rw[show(v.kind != 0)=true by simp[h0],iT,show decide (v.kind≠0)=true by simp[h0],Bool.true_and];by_cases h1:r.low.kind=0
  ·rw[show(r.low.kind==0)=true by simp[h1],iT,show decide (r.low.kind=0)=true by simp[h1],Bool.true_or,Bool.true_and];by_cases h2:r.high.kind=0
   ·rw[show(r.high.kind==0)=true by simp[h2],iT];simp[h2]
   ·rw[show(r.high.kind==0)=false by simp[h2],iF,bS];simp[h2]
  ·rw[show(r.low.kind==0)=false by simp[h1],iF,bS,show decide (r.low.kind=0)=false by simp[h1],Bool.false_or];by_cases h3:0≤Ord.cmpV v r.low
   ·rw[decide_eq_true h3,iT,Bool.true_and];by_cases h2:r.high.kind=0
    ·rw[show(r.high.kind==0)=true by simp[h2],iT];simp[h2]
    ·rw[show(r.high.kind==0)=false by simp[h2],iF,bS];simp[h2]
   ·rw[decide_eq_false h3,iF,Bool.false_and]
structure In(r:bA)(v:ac):Prop where
 ne:v.kind≠0
 lo:r.low.kind≠0→0≤Ord.cmpV v r.low
 hi:r.high.kind≠0→Ord.cmpV v r.high≤0
theorem aa2{r:bA}{v:ac}(h:inB r v=true):In r v:=by
 unfold inB at h;simp only[iu,Bool.or_eq_true,decide_eq_true_eq]at h;obtain⟨a,b,c⟩:=h;exact⟨a,fun h=>b.resolve_left h,fun h=>c.resolve_left h⟩
theorem P5{t u:al}{v:ac}(h:Ty t v)(hw:Wp t u)(h0:v.kind≠0):Nt v u=Ep v u:=by
 obtain⟨_,h2,_⟩:=NT h hw;rw[HB h0]at h2;exact(Option.some.inj h2).symm
theorem Pp{t:al}{v:ac}(h:Ty t v)(h0:v.kind≠0)(h6:t.kind≠6)(h7:t.kind≠7):Lf v∧(v.kind=4→v.n=0)∧v.kind=t.kind∧v.scale=t.scale:=by
 obtain⟨e,hb,hV⟩:=ZA h h0 h6 h7;have ek:v.kind=t.kind:=by rw[e]
 have es:v.scale=t.scale:=by rw[e]
 refine⟨Ok hb (by rw[ek];exact h6) (by rw[ek];exact h7) h0,fun h4=> ?_,ek,es⟩;have hp:=(R9 hb).pl;unfold df at hp;simp only[h4]at hp;simp at hp;exact hp.1.1
theorem Su{t u:al}{a b:ac}(ha:Ty t a)(hb:Ty t b)(hw:Wp t u)(a0:a.kind≠0)(b0:b.kind≠0)(h:Ord.cmpV a b≤0):Ord.cmpV (Nt a u) (Nt b u)≤0:=by
 rw[P5 ha hw a0,P5 hb hw b0];obtain⟨la,ta,ka,sa⟩:=Pp ha a0 hw.l.1 hw.l.2;obtain⟨lb,tb,kb,sb⟩:=Pp hb b0 hw.l.1 hw.l.2;by_cases hk:t.kind=u.kind
 ·have ea:Ep a u=a:=by unfold Ep;rw[←hk,←ka];exact Ow a
  have eb:Ep b u=b:=by unfold Ep;rw[←hk,←kb];exact Ow b
  rw[ea,eb];exact h
 ·obtain⟨hn,_⟩:=Zl la lb ta tb (by omega) (by omega) h;have h4:t.kind≠4:=by
   intro h4;rcases hw.w with⟨e,_⟩ |⟨e,_⟩ |⟨e,_⟩<;>omega
  have hu:u.kind≠0:=by
   rcases hw.w with⟨e,_⟩ |⟨_,e⟩ |⟨_,e,_⟩<;>omega
  unfold Ep;rw[la.it,lb.it,sa,sb,yW,if_neg hu,Mu (la.nos (by omega)) (lb.nos (by omega)),Us];exact SL.2 (So.2 hn)
theorem acX{t u:al}{s:bB}{v:ac}{r:bA}(hw:Wp t u)(hmn:Ty t s.min)(hmx:Ty t s.max)(hv:Ty t v)(h0:v.kind≠0)(m0:s.min.kind≠0)(x0:s.max.kind≠0)(h1:Ord.cmpV s.min v≤0)(h2:Ord.cmpV v s.max≤0)
  (hb:Uo (Nt s.max u) r.low=true∨Xf (Nt s.min u) r.high=true):¬In r (Nt v u):=by
 intro hI;rcases hb with hb|hb
 ·unfold Uo at hb;simp only[iu,decide_eq_true_eq]at hb;have a:=Su hv hmx hw h0 x0 h2;have b:=hI.lo hb.1;have c:=Ord.cmpV_anti (Nt v u) r.low;have d:=Cu (show Ord.cmpV r.low (Nt v u)≤0 by omega) a;have e:=Ord.cmpV_anti (Nt s.max u) r.low;omega
 ·unfold Xf at hb;simp only[iu,decide_eq_true_eq]at hb;have a:=Su hmn hv hw m0 h0 h1;have b:=Cu a (hI.hi hb.1);omega
theorem ZD{p:aT}{v:ac}{h y m:Int}(h2:p.kind≠2):MQ p v h y m=MQ p v 0 y m:=by
 unfold MQ;rw[if_neg h2,if_neg h2]
theorem RX{t u:al}{tr:aT}{a b x y:ac}(ha:Ty t a)(hb:Ty t b)(h6:t.kind≠6)(h7:t.kind≠7)(sa:bE a<10000000)(sb:bE b<10000000)(a0:a.kind≠0)(b0:b.kind≠0)(ht:cM tr t=some (u,0))(k0:tr.kind≠0)(k2:tr.kind≠2)
  (hx:bY tr a=some x)(hy:bY tr b=some y)(h:Ord.cmpV a b≤0):Ord.cmpV x y≤0:=by
 obtain⟨la,ta,ka,ca⟩:=Pp ha a0 h6 h7;obtain⟨lb,tb,kb,cb⟩:=Pp hb b0 h6 h7;obtain⟨x',x1,_,x2⟩:=NE tr a sa;obtain⟨y',y1,_,y2⟩:=NE tr b sb;rw[hx]at x1;cases x1;rw[hy]at y1;cases y1;have ex:=mt (Ca ha h6 h7 sa ht k0 hx).1 a0;have ey:=mt (Ca hb h6 h7 sb ht k0 hy).1 b0;rcases x2 with rfl|⟨h1,_,o1,rfl⟩
 ·exact absurd rfl ex
 rcases y2 with rfl|⟨h3,_,o2,rfl⟩
 ·exact absurd rfl ey
 rw[ZD k2,ZD (h:=PH tr h3) k2];exact abq la lb ta tb (by omega) (by omega) o1 k2 h
theorem QA{t u:al}{r:bA}{p:ac}{tr:aT}(hr:RgT t r)(hp:Lv p)(h:ZY tr p r=true):∃a c,bY tr r.low=some a∧bY tr r.high=some c∧tr.kind≠0∧
  (p.kind=0∨(tr.kind=2∧r.low.kind≠0∧Ord.cmpV r.low r.high=0∧Ord.cmpV p a≠0)∨(tr.kind≠2∧(Uo p a=true∨Xf p c=true))):=by
 obtain⟨a,a1,a2,a3⟩:=RH tr r.low hr.sl;obtain⟨c,c1,c2,c3⟩:=RH tr r.high hr.sh;have ll:=th hr.lo.sv hr.lo.st hr.k6 hr.k7 hr.lo.ck;have lh:=th hr.hi.sv hr.hi.st hr.k6 hr.k7 hr.hi.ck;refine⟨a,c,a1,c1,?_⟩;unfold ZY pA nz pY at h;simp only[a1,c1,bS,M2 hp a3,MY hp c3,Mz ll lh,(Hx hp a3).1]at h;by_cases k0:tr.kind=0
 ·rw[show(tr.kind==0)=true by simp[k0],iT]at h;cases h
 refine⟨k0,?_⟩;rw[show(tr.kind==0)=false by simp[k0],iF]at h;by_cases kp:p.kind=0
 ·exact .inl kp
 right;rw[show(p.kind==0)=false by simp[kp],iF]at h;by_cases k2:tr.kind=2
 ·left;rw[show(tr.kind==2)=true by simp[k2],iT]at h;by_cases k3:r.low.kind=0
  ·rw[show(r.low.kind != 0)=false by simp[k3],iF]at h;cases h
  rw[show(r.low.kind != 0)=true by simp[k3],iT]at h;by_cases k4:Ord.cmpV r.low r.high=0
  ·rw[show(Ord.cmpV r.low r.high==0)=true by simp[k4],iT]at h;exact⟨k2,k3,k4,by simpa using h⟩
  ·rw[show(Ord.cmpV r.low r.high==0)=false by simp[k4],iF]at h;cases h
 ·right;rw[show(tr.kind==2)=false by simp[k2],iF]at h;refine⟨k2,?_⟩;cases hb:Uo p a with
  |true=>exact .inl rfl
  |false=>rw[hb,iF]at h;exact .inr (by simpa using h)
theorem U8{a b:ac}(h:Ord.cmpV a b=0):a.kind=b.kind:=by
 obtain⟨k,n,sc,s,it⟩:=a;simp only[Ord.cmpV]at h;rw[G6,G6]at h;exact U3.1 h.2.1
theorem Yo{t u:al}{r:bA}{p v x:ac}{tr:aT}(hr:RgT t r)(ht:cM tr t=some (u,0))(hp:Lv p)(hv:Ty t v)(sv:bE v<10000000)(hx:bY tr v=some x)(he:Ord.cmpV x p=0)(h:ZY tr p r=true):¬In r v:=by
 intro hI;obtain⟨a,c,a1,c1,k0,hc⟩:=QA (u:=u) hr hp h;have ll:=th hr.lo.sv hr.lo.st hr.k6 hr.k7 hr.lo.ck;have lh:=th hr.hi.sv hr.hi.st hr.k6 hr.k7 hr.hi.ck;have lv:=th hv.sv hv.st hr.k6 hr.k7 hv.ck;have anti:=Ord.cmpV_anti x p;have kx:=Ca hv hr.k6 hr.k7 sv ht k0 hx;have kl:=Ca hr.lo hr.k6 hr.k7 hr.sl ht k0 a1;have kh:=Ca hr.hi hr.k6 hr.k7 hr.sh ht k0 c1;rcases hc with hc|⟨k2,c3,c4,c5⟩ |⟨k2,hc⟩
 ·exact hI.ne (kx.1 (by rw[U8 he];exact hc))
 ·have e1:=(aaN ll lh).1 c4;have b1:=hI.lo c3;have b2:=hI.hi (by rw[←e1];exact c3);rw[←e1]at b2;have e2:=(aaN lv ll).1 (by omega);subst e2;rw[hx]at a1;cases a1;omega
 ·rcases hc with hb|hb
  ·unfold Uo at hb;simp only[iu,decide_eq_true_eq]at hb;have l0:=mt kl.2 hb.1;have b1:=hI.lo l0;have b2:=Ord.cmpV_anti v r.low;have b3:=RX hr.lo hv hr.k6 hr.k7 hr.sl sv l0 hI.ne ht k0 k2 a1 hx (by omega);have b4:=Cu b3 (show Ord.cmpV x p≤0 by omega);have b5:=Ord.cmpV_anti p a;omega
  ·unfold Xf at hb;simp only[iu,decide_eq_true_eq]at hb;have h0:=mt kh.2 hb.1;have b3:=RX hv hr.hi hr.k6 hr.k7 sv hr.sh hI.ne h0 ht k0 k2 hx c1 (hI.hi h0);have b4:=Cu (show Ord.cmpV p x≤0 by omega) b3;omega
end Go.Proofs.YtpiohnabdhpphaaGreatDoor
