/- Files with one name: both sides find whether they differ. Files with one name in different snapshots: both sides find the same error. References, properties, limits, schemas: both sides find the same error. Schemas, specs; Check of both sides; the law. What a table has that the program's Check accepts. What is different between two snapshots of a checked table: the program's answer. Differ of the program: which files it names. What Differ and Live of the reference have in common. Adapt: casts of leaves. Values of a type, widened. What needs no program: searches, bytes, sizes, words, digits. The reference's integers: their digits. The reference's integers: differences, quotients, rounding. Numbers of 256 bits: what each operation of the program computes, as equations. Division of numbers of 256 bits, rounding, and values made of them. The reference's integers, in plain terms. The reference's integers: sums, products, quotients, values made of them. Values made of numbers on both sides; Round. Keys and hashes: the same bytes on both sides. What the clocks of the program compute. The zones' clocks. The clocks lead back. What the reference computes for civil time. The law 'ValueTimeMatchesSpec', in plain terms. The first characters of a text, in two ways. Transform of both sides. Transform of both sides gives the same. Transform of both sides gives the same. What a transform makes of a value: both sides; it may be compared; it is not null where the type suits. A range and what a file's partition says of it: both sides. May: which ranges exclude a file; both sides. May: a range, a condition; both sides. The law 'TableFilesMatchSpec', in plain terms. -/
import Derived.Lib.ValidU
import Derived.Lib.ValidLaws
import Derived.Test.YtpiohnabdhpphaaGreatDoorLaA
set_option linter.unusedVariables false
set_option linter.unusedSimpArgs false
set_option linter.unnecessarySimpa false
namespace Go.Proofs.YtpiohnabdhpphaaGreatDoor
open Go Go.SX Go.SX.Cal
open Go.IntKind (i64)
theorem LL{R:Type}{e fin:Option R}{n:Nat}{L:Nat→Int→Option R}{p:Nat→Bool}(h0:∀k,L (k+1) (n:Int)=fin)(h1:∀k i,i<n→L (k+1) (i:Int)=aj (p i) e (L k ((i+1:Nat):Int))):
  ∀m k i,i+m=n→m<k→∃b,L k (i:Int)=aj b e fin∧(b=true↔∃j,i≤j∧j<n∧p j=true)
 |0,k,i,hi,hk=>by
  obtain⟨k,rfl⟩:=fu hk
  have:i=n:=by omega
  subst this
  exact⟨false,h0 k,by simp;intro j h1 h2;omega⟩
 |m+1,k,i,hi,hk=>by
  obtain⟨k,rfl⟩:=fu hk
  rw[h1 k i (by omega)]
  cases hp:p i with
  |true=>exact⟨true,rfl,by simp;exact⟨i,iD _,by omega,hp⟩⟩
  |false=>
   obtain⟨b,e1,e2⟩:=LL h0 h1 m k (i+1) (by omega) (by omega)
   refine⟨b,e1,e2.trans ⟨fun⟨j,a,b,c⟩=>⟨j,by omega,b,c⟩,fun⟨j,a,b,c⟩=>⟨j,?_,b,c⟩⟩⟩
   by_cases e:j=i
   ·subst e;rw[hp]at c;cases c
   ·omega
theorem ux{R:Type}{e fin:Option R}{n:Nat}{L:Nat→Int→Option R}{p:Nat→Bool}(hn:n<1000000000)(h0:∀k,L (k+1) (n:Int)=fin)(h1:∀k i,i<n→L (k+1) (i:Int)=aj (p i) e (L k ((i+1:Nat):Int))):
  L aH (0:Int)=aj (lI p n) e fin:=by
 obtain⟨b,e1,e2⟩:=LL h0 h1 n aH 0 (by omega) (by rw[aJ];omega)
 have:b=lI p n:=kG (e2.trans (Iff.trans ⟨fun⟨j,_,b,c⟩=>⟨j,b,c⟩,fun⟨j,b,c⟩=>⟨j,Nat.zero_le _,b,c⟩⟩ fm.symm))
 rw[←this];exact e1
def Wi(l m:List ac)(j:Nat):Bool:=match l[j]?,m[j]? with|some x,some y=> !Wu x y|_,_=>false
def Sx(s t:cc):Bool:=s.id==t.id&&(s.nulls==t.nulls&&(Wu s.min t.min&&Wu s.max t.max))
def Kq(l m:List cc)(j:Nat):Bool:=match l[j]?,m[j]? with|some x,some y=> !Sx x y|_,_=>false
def Yi(l m:List ac):Bool:=decide (l.length=m.length)&& !lI (Wi l m) l.length
def Zc(l m:List cc):Bool:=decide (l.length=m.length)&& !lI (Kq l m) l.length
def Pg(a b:ai):Bool:=decide (a.name=b.name)&&(a.schema==b.schema&&(a.spec==b.spec&&(a.rows==b.rows&&(Yi a.part b.part&&Zc a.stats b.stats))))
theorem XF{l m:List ac}(hl:∀v∈l,Lv v)(hm:∀v∈m,Lv v):Yi l m=true↔l=m:=by
 unfold Yi
 rw[iY,decide_eq_true_iff,Bool.not_eq_true',←Bool.not_eq_true,fm]
 constructor
 ·rintro⟨h1,h2⟩
  refine List.ext_getElem h1 fun i hi hi'=> ?_
  have:Wi l m i=false:=by
   cases h:Wi l m i with
   |false=>rfl
   |true=>exact absurd ⟨i,hi,h⟩ h2
  unfold Wi at this
  rw[dJ hi,dJ hi']at this
  exact(Gr (hl _ (gV hi)) (hm _ (gV hi'))).1 (by simpa using this)
 ·rintro rfl
  refine⟨rfl,?_⟩
  rintro⟨j,hj,h⟩
  unfold Wi at h
  rw[dJ hj]at h
  simp only[Bool.not_eq_true']at h
  rw[(Gr (hl _ (gV hj)) (hl _ (gV hj))).2 rfl]at h
  cases h
theorem NA{s t:cc}(hs:Lv s.min∧Lv s.max)(ht:Lv t.min∧Lv t.max):Sx s t=true↔s=t:=by
 unfold Sx
 rw[iY,iY,iY,Gr hs.1 ht.1,Gr hs.2 ht.2,beq_iff_eq,beq_iff_eq]
 obtain⟨a,b,c,d⟩:=s
 obtain⟨a',b',c',d'⟩:=t
 simp
theorem W6{l m:List cc}(hl:∀v∈l,Lv v.min∧Lv v.max)(hm:∀v∈m,Lv v.min∧Lv v.max):Zc l m=true↔l=m:=by
 unfold Zc
 rw[iY,decide_eq_true_iff,Bool.not_eq_true',←Bool.not_eq_true,fm]
 constructor
 ·rintro⟨h1,h2⟩
  refine List.ext_getElem h1 fun i hi hi'=> ?_
  have:Kq l m i=false:=by
   cases h:Kq l m i with
   |false=>rfl
   |true=>exact absurd ⟨i,hi,h⟩ h2
  unfold Kq at this
  rw[dJ hi,dJ hi']at this
  exact(NA (hl _ (gV hi)) (hm _ (gV hi'))).1 (by simpa using this)
 ·rintro rfl
  refine⟨rfl,?_⟩
  rintro⟨j,hj,h⟩
  unfold Kq at h
  rw[dJ hj]at h
  simp only[Bool.not_eq_true']at h
  rw[(NA (hl _ (gV hj)) (hl _ (gV hj))).2 rfl]at h
  cases h
def Sf(a b:ai):Prop:=a.name=b.name∧a.schema=b.schema∧a.spec=b.spec∧a.rows=b.rows∧a.part=b.part∧a.stats=b.stats
theorem ID{a b:ai}(ha:S3 a)(hb:S3 b):Pg a b=true↔Sf a b:=by
 unfold Pg Sf
 rw[iY,iY,iY,iY,iY,decide_eq_true_iff,beq_iff_eq,beq_iff_eq,beq_iff_eq,XF ha.part hb.part,W6 ha.stats hb.stats]
theorem Sf.symm{a b:ai}(h:Sf a b):Sf b a:=⟨h.1.symm,h.2.1.symm,h.2.2.1.symm,h.2.2.2.1.symm,h.2.2.2.2.1.symm,h.2.2.2.2.2.symm⟩
theorem Sf.trans{a b c:ai}(h:Sf a b)(k:Sf b c):Sf a c:=⟨h.1.trans k.1,h.2.1.trans k.2.1,h.2.2.1.trans k.2.2.1,h.2.2.2.1.trans k.2.2.2.1,h.2.2.2.2.1.trans k.2.2.2.2.1,h.2.2.2.2.2.trans k.2.2.2.2.2⟩
theorem aau{a b:ac}(ha:Lv a)(hb:Lv b):mh a b=some (Wu a b):=by
 unfold mh
 rw[Px ha hb,bS];rfl
theorem adB{l m:List ac}(hn:l.length<1000000000)(hl:∀v∈l,Lv v)(hm:∀v∈m,Lv v):bk l m=some (Yi l m):=by
 unfold bk Yi
 by_cases h:l.length=m.length
 ·rw[show((l.length:Int) != (m.length:Int))=false by simp[h],iF,decide_eq_true h,Bool.true_and]
  rw[ux (L:=aE l m) (n:=l.length) (e:=some false) (fin:=some true) (p:=Wi l m) hn
   (fun k=>by rw[aE,vU,iF];rfl)
   (fun k i hi=>by
    have hi':i<m.length:=by omega
    rw[aE,aV hi,iT,aD hi,bS,aD hi',bS,aau (hl _ (gV hi)) (hm _ (gV hi')),bS,au hi hn]
    unfold Wi
    rw[dJ hi,dJ hi'])]
  cases lI (Wi l m) l.length<;>rfl
 ·rw[show((l.length:Int) != (m.length:Int))=true by simp;omega,iT,decide_eq_false h];rfl
theorem acJ{s t:cc}(hs:Lv s.min∧Lv s.max)(ht:Lv t.min∧Lv t.max):sd s t=some (Sx s t,()):=by
 unfold sd jG Sx
 rw[aau hs.1 ht.1,aau hs.2 ht.2,bS,bS]
 cases(s.id==t.id)<;>cases(s.nulls==t.nulls)<;>cases Wu s.min t.min<;>rfl
theorem adR{l m:List cc}(hn:l.length<1000000000)(hl:∀v∈l,Lv v.min∧Lv v.max)(hm:∀v∈m,Lv v.min∧Lv v.max):a6 l m=some (Zc l m,()):=by
 unfold a6 Zc
 by_cases h:l.length=m.length
 ·rw[show((l.length:Int) != (m.length:Int))=false by simp[h],iF,decide_eq_true h,Bool.true_and]
  rw[ux (L:=aw l m) (n:=l.length) (e:=some (false,())) (fin:=some (true,())) (p:=Kq l m) hn
   (fun k=>by rw[aw,vU,iF];rfl)
   (fun k i hi=>by
    have hi':i<m.length:=by omega
    rw[aw,aV hi,iT,aD hi,bS,aD hi',bS,acJ (hl _ (gV hi)) (hm _ (gV hi')),bS,au hi hn]
    unfold Kq
    rw[dJ hi,dJ hi'])]
  cases lI (Kq l m) l.length<;>rfl
 ·rw[show((l.length:Int) != (m.length:Int))=true by simp;omega,iT,decide_eq_false h];rfl
theorem ad2{a b:ai}(ha:S3 a)(hb:S3 b)(za:Lj a):q9 a b=some (Pg a b):=by
 unfold q9 hJ Pg
 rw[M6,adB za.part.1 ha.part hb.part,adR za.stats.1 ha.stats hb.stats,bS,bS]
 cases decide (a.name=b.name)<;>cases(a.schema==b.schema)<;>cases(a.spec==b.spec)<;>cases(a.rows==b.rows)<;>cases Yi a.part b.part<;>rfl
theorem ads{a b:ai}(ha:S3 a)(hb:S3 b)(za:Lj a):sL a b=some (Pg a b):=by
 have h1:∀x,x=(!decide (a.part.length=b.part.length)|| !decide (a.stats.length=b.stats.length))→fb a b x=some (Yi a.part b.part&&Zc a.stats b.stats):=by
  intro x hx
  unfold fb Yi Zc
  cases x with
  |true=>
   rw[iT]
   by_cases h:a.part.length=b.part.length
   ·rw[decide_eq_true h]at hx
    have h2:decide (a.stats.length=b.stats.length)=false:=by simpa using hx.symm
    rw[h2,Bool.false_and,Bool.and_false]
   ·rw[decide_eq_false h];rfl
  |false=>
   have hx:=hx.symm
   rw[Bool.or_eq_false_iff,Bool.not_eq_false',Bool.not_eq_false',decide_eq_true_iff,decide_eq_true_iff]at hx
   obtain⟨hp,hs⟩:=hx
   rw[iF,decide_eq_true hp,decide_eq_true hs,Bool.true_and,Bool.true_and]
   rw[ux (L:=kj a b) (n:=a.part.length) (e:=some false) (fin:=rH a b) (p:=Wi a.part b.part) za.part.1
    (fun k=>by rw[kj,vU,iF])
    (fun k i hi=>by
     have hi':i<b.part.length:=by omega
     rw[kj,aV hi,iT,aD hi,bS,aD hi',bS,JS (ha.part _ (gV hi)) (hb.part _ (gV hi')),bS,au hi za.part.1]
     unfold Wi
     rw[dJ hi,dJ hi'])]
   unfold rH
   rw[ux (L:=eW a b) (n:=a.stats.length) (e:=some false) (fin:=some true) (p:=Kq a.stats b.stats) za.stats.1
    (fun k=>by rw[eW,vU,iF];rfl)
    (fun k i hi=>by
     have hi':i<b.stats.length:=by omega
     obtain⟨u1,u2⟩:=ha.stats _ (gV hi)
     obtain⟨w1,w2⟩:=hb.stats _ (gV hi')
     rw[eW,aV hi,iT,aD hi,bS,aD hi',bS,JS u1 w1,JS u2 w2,bS,bS]
     unfold mi
     rw[au hi za.stats.1]
     unfold Kq
     rw[dJ hi,dJ hi']
     simp only
     unfold Sx bne
     cases(a.stats[i].id==b.stats[i].id)<;>cases(a.stats[i].nulls==b.stats[i].nulls)<;>cases Wu a.stats[i].min b.stats[i].min<;>rfl)]
   cases lI (Wi a.part b.part) a.part.length<;>cases lI (Kq a.stats b.stats) a.stats.length<;>rfl
 have ht:∀y,fb a b true=some y→y=false:=fun y h=>by cases h;rfl
 unfold sL Pg
 rw[M6]
 have hb2:fb a b true=some false:=rfl
 unfold bne
 cases decide (a.name=b.name)with
 |false=>rfl
 |true=>
  cases(a.schema==b.schema)with
  |false=>rfl
  |true=>
   cases(a.spec==b.spec)with
   |false=>rfl
   |true=>
    cases(a.rows==b.rows)with
    |false=>rfl
    |true=>
     have e1:((a.part.length:Int)==(b.part.length:Int))=decide (a.part.length=b.part.length):=kG (by rw[beq_iff_eq,decide_eq_true_iff];omega)
     have e2:((a.stats.length:Int)==(b.stats.length:Int))=decide (a.stats.length=b.stats.length):=kG (by rw[beq_iff_eq,decide_eq_true_iff];omega)
     rw[e1,e2]
     cases hp:decide (a.part.length=b.part.length)with
     |false=>
      rw[hp]at h1
      exact h1 true rfl
     |true=>
      rw[hp]at h1
      exact h1 _ rfl
theorem Lt(a b:ByteArray):zg.eq a b=decide (a=b):=by
 refine kG ?_
 rw[decide_eq_true_iff]
 constructor
 ·intro h
  have h':(a.data==b.data)=true:=h
  exact ByteArray.ext (by simpa using h')
 ·rintro rfl
  show(a.data==a.data)=true
  simp
theorem IE{α:Type}:∀(m:List (ByteArray×α)) (k:ByteArray) (v:α),jB zg (kT zg m k v) k=some v
 |[],k,v=>by simp only[kT,jB,Lt,decide_true,if_true]
 |(k',v')::l,k,v=>by
  by_cases h:k=k'
  ·simp only[kT,jB,Lt,decide_eq_true h,if_true,decide_true]
  ·simp only[kT,jB,Lt,decide_eq_false h,Bool.false_eq_true,if_false]
   exact IE l k v
theorem Fz{α:Type}:∀(m:List (ByteArray×α)) (k:ByteArray) (v:α) (x:ByteArray),x≠k→jB zg (kT zg m k v) x=jB zg m x
 |[],k,v,x,hx=>by simp only[kT,jB,Lt,decide_eq_false hx,Bool.false_eq_true,if_false]
 |(k',v')::l,k,v,x,hx=>by
  by_cases h:k=k'
  ·subst h
   simp only[kT,jB,Lt,decide_true,if_true,decide_eq_false hx,Bool.false_eq_true,if_false]
  ·simp only[kT,jB,Lt,decide_eq_false h,Bool.false_eq_true,if_false]
   rw[Fz l k v x hx]
def Ym(m:ay):Prop:=∀s∈m.snapshots,1≤s.id∧Gx s.files∧∀f∈s.files,S3 f
def Bad(m:ay)(i:Nat):Prop:=∃(hi:i<m.snapshots.length) (x:Nat) (hx:x<i) (f g:ai),f∈m.snapshots[i].files∧g∈(m.snapshots[x]'(by omega)).files∧g.name=f.name∧¬Sf g f
structure ZL(m:ay)(i:Nat)(z:List (ByteArray×ai)):Prop where
 a:∀n g,jB zg z n=some g→g.name=n∧∃(x:Nat) (hx:x<i) (hl:x<m.snapshots.length),g∈m.snapshots[x].files
 b:∀(x:Nat) (hl:x<m.snapshots.length),x<i→∀f∈m.snapshots[x].files,∃g,jB zg z f.name=some g∧Sf g f
structure aba(m:ay)(i:Nat)(fs:List ai)(j:Nat)(z:List (ByteArray×ai)):Prop where
 a:∀n g,jB zg z n=some g→g.name=n∧((∃(x:Nat) (hx:x<i) (hl:x<m.snapshots.length),g∈m.snapshots[x].files)∨∃(q:Nat) (hq:q<j) (hl:q<fs.length),g=fs[q])
 b:∀(x:Nat) (hl:x<m.snapshots.length),x<i→∀f∈m.snapshots[x].files,∃g,jB zg z f.name=some g∧Sf g f
 c:∀(q:Nat) (hl:q<fs.length),q<j→jB zg z fs[q].name=some fs[q]
def WQ(m:ay)(i:Nat)(rec1:List (ByteArray×ai)→Int→Option Int)(e:Option Int):Prop:=
 (e=some 5∧Bad m i)∨(∃z',ZL m (i+1) z'∧e=rec1 z' ((i+1:Nat):Int)∧¬Bad m i)
theorem V5{m:ay}(hm:ul m)(ho:Ym m)(rec1:List (ByteArray×ai)→Int→Option Int){i:Nat}(hi:i<m.snapshots.length):∀(d k j:Nat) (z:List (ByteArray×ai)),j+d=m.snapshots[i].files.length→d<k→aba m i m.snapshots[i].files j z→
  (∀(q:Nat) (hq:q<m.snapshots[i].files.length),q<j→∀(x:Nat) (hx:x<i),∀g∈(m.snapshots[x]'(by omega)).files,g.name=m.snapshots[i].files[q].name→Sf g m.snapshots[i].files[q])→
  WQ m i rec1 (gq rec1 (i:Int) m.snapshots[i] k z (j:Int)):=by
 have hsi:=ho _ (gV hi)
 have hzi:=hm.snaps.2 _ (gV hi)
 intro d
 induction d with
 |zero=>
  intro k j z hj hk hz hg
  obtain⟨k,rfl⟩:=fu hk
  right
  refine⟨z,⟨fun n g h=> ?_,fun x hl hx f hf=> ?_⟩,?_,?_⟩
  ·obtain⟨h1,h2⟩:=hz.a n g h
   refine⟨h1,?_⟩
   rcases h2 with⟨x,hx,hl,h2⟩ |⟨q,hq,hl,rfl⟩
   ·exact⟨x,by omega,hl,h2⟩
   ·exact⟨i,by omega,hi,gV hl⟩
  ·by_cases e:x=i
   ·subst e
    obtain⟨q,hq,rfl⟩:=Kb.1 hf
    exact⟨_,hz.c q hq (by omega),⟨rfl,rfl,rfl,rfl,rfl,rfl⟩⟩
   ·exact hz.b x hl (by omega) f hf
  ·rw[gq,G2 (by omega),iF]
   unfold zV
   rw[au hi hm.snaps.1]
  ·rintro⟨_,x,hx,f,g,hf,hg',hn,hs⟩
   obtain⟨q,hq,rfl⟩:=Kb.1 hf
   exact hs (hg q hq (by omega) x hx g hg' hn)
 |succ d ih=>
  intro k j z hj hk hz hg
  obtain⟨k,rfl⟩:=fu hk
  have h1:j<m.snapshots[i].files.length:=by omega
  have hfj:=hsi.2.2 _ (gV h1)
  rw[gq,aV h1,iT,aD h1,bS,bS]
  unfold u9
  rw[au h1 hzi.files.1]
  have hgo:(∀(x:Nat) (hx:x<i),∀g∈(m.snapshots[x]'(by omega)).files,g.name=m.snapshots[i].files[j].name→Sf g m.snapshots[i].files[j])→
    WQ m i rec1 (gq rec1 (i:Int) m.snapshots[i] k (kT zg z m.snapshots[i].files[j].name m.snapshots[i].files[j]) ((j+1:Nat):Int)):=by
   intro hag
   refine ih k (j+1) _ (by omega) (by omega) ⟨fun n g h=> ?_,fun x hl hx f hf=> ?_,fun q hl hq=> ?_⟩ (fun q hq hqj x hx g hg' hn=> ?_)
   ·by_cases e:n=m.snapshots[i].files[j].name
    ·subst e
     rw[IE]at h;cases h
     exact⟨rfl,.inr ⟨j,by omega,h1,rfl⟩⟩
    ·rw[Fz _ _ _ _ e]at h
     obtain⟨a,b⟩:=hz.a n g h
     refine⟨a,?_⟩
     rcases b with b|⟨q,hq,hl,rfl⟩
     ·exact .inl b
     ·exact .inr ⟨q,by omega,hl,rfl⟩
   ·by_cases e:f.name=m.snapshots[i].files[j].name
    ·rw[e,IE]
     exact⟨_,rfl,(hag x hx f hf e).symm⟩
    ·rw[Fz _ _ _ _ e];exact hz.b x hl hx f hf
   ·by_cases e:q=j
    ·subst e;exact IE _ _ _
    ·have hlt:=hsi.2.1 q j h1 (by omega)
     rw[Fz _ _ _ _ (fun e=>by rw[e,wy]at hlt;omega)]
     exact hz.c q hl (by omega)
   ·by_cases e:q=j
    ·subst e;exact hag x hx g hg' hn
    ·exact hg q hq (by omega) x hx g hg' hn
  cases hm':jB zg z m.snapshots[i].files[j].name with
  |none=>
   show WQ m i rec1 (aj false _ (aj false _ _))
   rw[iF,iF]
   refine hgo fun x hx g hg' hn=> ?_
   obtain⟨g',h2,_⟩:=hz.b x (by omega) hx g hg'
   rw[hn,hm']at h2;cases h2
  |some g=>
   obtain⟨hgn,hgp⟩:=hz.a _ g hm'
   have hgx:∃(x:Nat) (hx:x<i) (hl:x<m.snapshots.length),g∈m.snapshots[x].files:=by
    rcases hgp with h|⟨q,hq,hl,rfl⟩
    ·exact h
    ·have hlt:=hsi.2.1 q j h1 hq
     rw[hgn,wy]at hlt;omega
   obtain⟨x0,hx0,hl0,hg0⟩:=hgx
   have hgo':=(ho _ (gV hl0)).2.2 _ hg0
   show WQ m i rec1 (aj true (al (q9 g m.snapshots[i].files[j]) _) _)
   rw[iT,ad2 hgo' hfj ((hm.snaps.2 _ (gV hl0)).files.2 _ hg0),bS]
   cases hsf:Pg g m.snapshots[i].files[j]with
   |false=>
    left
    refine⟨rfl,hi,x0,hx0,_,g,gV h1,hg0,hgn,fun h=> ?_⟩
    rw[(ID hgo' hfj).2 h]at hsf;cases hsf
   |true=>
    rw[Bool.not_true,iF]
    have hs:=(ID hgo' hfj).1 hsf
    refine hgo fun x hx g' hg' hn=> ?_
    obtain⟨g2,h2,h3⟩:=hz.b x (by omega) hx g' hg'
    rw[hn,hm']at h2;cases h2
    exact h3.symm.trans hs
theorem Sr{m:ay}(hm:ul m)(ho:Ym m):∀(d k i:Nat) (z:List (ByteArray×ai)),i+d=m.snapshots.length→d<k→ZL m i z→
  (eY m k z (i:Int)=some 5∧∃q,i≤q∧Bad m q)∨(eY m k z (i:Int)=some 0∧∀q,i≤q→¬Bad m q):=by
 intro d
 induction d with
 |zero=>
  intro k i z hi hk hz
  obtain⟨k,rfl⟩:=fu hk
  right
  rw[eY,G2 (by omega),iF]
  exact⟨rfl,fun q hq ⟨h,_⟩=>by omega⟩
 |succ d ih=>
  intro k i z hi hk hz
  obtain⟨k,rfl⟩:=fu hk
  have h1:i<m.snapshots.length:=by omega
  rw[eY,aV h1,iT,aD h1,bS]
  have h3:aba m i m.snapshots[i].files 0 z:=⟨fun n g h=>⟨(hz.a n g h).1,.inl (hz.a n g h).2⟩,hz.b,fun q _ hq=>by omega⟩
  rcases V5 hm ho (eY m k) h1 m.snapshots[i].files.length aH 0 z (by omega) (by rw[aJ];have:=(hm.snaps.2 _ (gV h1)).files.1;omega) h3 (fun q hq h=>by omega)with⟨a,b⟩ |⟨z',a,b,c⟩
  ·exact .inl ⟨a,i,iD _,b⟩
  ·have b:gq (eY m k) (i:Int) m.snapshots[i] aH z (0:Int)=_:=b
   rw[b]
   rcases ih k (i+1) z' (by omega) (by omega) a with⟨e1,q,e2,e3⟩ |⟨e1,e2⟩
   ·exact .inl ⟨e1,q,by omega,e3⟩
   ·refine .inr ⟨e1,fun q hq=> ?_⟩
    by_cases e:q=i
    ·subst e;exact c
    ·exact e2 q (by omega)
theorem XE{m:ay}(hm:ul m)(ho:Ym m):(xt m=some 5∧∃q,Bad m q)∨(xt m=some 0∧∀q,¬Bad m q):=by
 have h0:ZL m 0 []:=⟨(fun n g h=>by cases h),fun x _ hx=>by omega⟩
 rcases Sr hm ho m.snapshots.length aH 0 [] (by omega) (by rw[aJ];have:=hm.snaps.1;omega) h0 with⟨a,q,_,b⟩ |⟨a,b⟩
 ·exact .inl ⟨a,q,b⟩
 ·exact .inr ⟨a,fun q=>b q (Nat.zero_le _)⟩
def Oh(s x:ar)(j:Nat):Bool:=match s.files[j]? with
 |some f=>(match ui x.files f.name with|some g=> !Pg f g|none=>false)
 |none=>false
def Vz(m:ay)(i x:Nat):Bool:=match m.snapshots[i]?,m.snapshots[x]? with
 |some s,some y=>lI (Oh s y) s.files.length
 |_,_=>false
def QA(m:ay)(i:Nat):Bool:=lI (Vz m i) i
theorem Mv{α:Type}{l:List α}{i x:Nat}(hx:x<i)(hi:i≤l.length):at? (List.take ((i:Int).toNat-(0:Int).toNat) (List.drop (0:Int).toNat l)) (x:Int)=some (l[x]'(by omega)):=by
 have h:x<(List.take ((i:Int).toNat-(0:Int).toNat) (List.drop (0:Int).toNat l)).length:=by simp;omega
 rw[aD h]
 simp
theorem Bp{α:Type}{l:List α}{i:Nat}(hi:i≤l.length):(List.take ((i:Int).toNat-(0:Int).toNat) (List.drop (0:Int).toNat l)).length=i:=by simp;omega
theorem XN{m:ay}(hm:ul m)(ho:Ym m):th m=ee (er (lI (QA m) m.snapshots.length) 5) (oD m):=by
 unfold th
 rw[iw (L:=dX m) (n:=m.snapshots.length) (fin:=oD m) (c:=fun i=>er (QA m i) 5) hm.snaps.1
  (fun k=>by rw[dX,vU,iF])
  (fun k i hi=>by
   rw[dX,aV hi,iT,aD hi,bS,gP ⟨by omega,by omega,by omega⟩]
   have hil:i≤m.snapshots.length:=by omega
   rw[iw (L:=gG (dX m k) m (i:Int) m.snapshots[i]) (n:=i) (fin:=dX m k ((i+1:Nat):Int)) (c:=fun x=>er (Vz m i x) 5) (by have:=hm.snaps.1;omega)
    (fun q=>by
     rw[gG,bS,Bp hil,vU,iF]
     unfold AP
     rw[au hi hm.snaps.1])
    (fun q x hx=>by
     have hxl:x<m.snapshots.length:=by omega
     have hzi:=hm.snaps.2 _ (gV hi)
     rw[gG,bS,Bp hil,aV hx,iT,Mv hx hil,bS]
     rw[iw (L:=kC (gG (dX m k) m (i:Int) m.snapshots[i] q) m.snapshots[i] (x:Int) m.snapshots[x]) (n:=m.snapshots[i].files.length) (fin:=gG (dX m k) m (i:Int) m.snapshots[i] q ((x+1:Nat):Int)) (c:=fun j=>er (Oh m.snapshots[i] m.snapshots[x] j) 5) hzi.files.1
      (fun q'=>by
       rw[kC,vU,iF]
       unfold A5
       rw[au hxl hm.snaps.1])
      (fun q' j hj=>by
       have hxo:=ho _ (gV hxl)
       have hio:=ho _ (gV hi)
       rw[kC,aV hj,iT,aD hj,bS,LJ (hm.snaps.2 _ (gV hxl)).files.1,bS]
       unfold wV Oh
       rw[au hj hzi.files.1,dJ hj]
       simp only
       cases hf:ui m.snapshots[x].files m.snapshots[i].files[j].name with
       |none=>rfl
       |some g=>
        have hgm:g∈m.snapshots[x].files:=List.mem_of_find?_eq_some hf
        show aj true (al (sL m.snapshots[i].files[j] g) _) _=_
        rw[iT,ads (hio.2.2 _ (gV hj)) (hxo.2.2 _ hgm) (hzi.files.2 _ (gV hj)),bS,eb (by decide)])]
     rw[G6 (by decide)]
     unfold Vz
     rw[dJ hi,dJ hxl])]
   rw[G6 (by decide)]
   rfl)]
 rw[G6 (by decide)]
theorem OZ{m:ay}(ho:Ym m){i:Nat}(hi:i<m.snapshots.length):QA m i=true↔Bad m i:=by
 unfold QA
 rw[fm]
 constructor
 ·rintro⟨x,hx,h⟩
  have hxl:x<m.snapshots.length:=by omega
  unfold Vz at h
  rw[dJ hi,dJ hxl]at h
  simp only at h
  obtain⟨j,hj,h⟩:=fm.1 h
  unfold Oh at h
  rw[dJ hj]at h
  simp only at h
  cases hf:ui m.snapshots[x].files m.snapshots[i].files[j].name with
  |none=>rw[hf]at h;cases h
  |some g=>
   rw[hf]at h
   simp only at h
   have hgm:g∈m.snapshots[x].files:=List.mem_of_find?_eq_some hf
   have hgn:g.name=m.snapshots[i].files[j].name:=by simpa using List.find?_some hf
   refine⟨hi,x,hx,_,g,gV hj,hgm,hgn,fun hs=> ?_⟩
   rw[(ID ((ho _ (gV hi)).2.2 _ (gV hj)) ((ho _ (gV hxl)).2.2 _ hgm)).2 hs.symm]at h
   cases h
 ·rintro⟨_,x,hx,f,g,hf,hg,hn,hs⟩
  have hxl:x<m.snapshots.length:=by omega
  refine⟨x,hx,?_⟩
  unfold Vz
  rw[dJ hi,dJ hxl]
  obtain⟨j,hj,rfl⟩:=Kb.1 hf
  refine fm.2 ⟨j,hj,?_⟩
  unfold Oh
  rw[dJ hj]
  obtain⟨q,hq,rfl⟩:=Kb.1 hg
  have:=Ka (ho _ (gV hxl)).2.1 hq
  rw[hn]at this
  simp only[this]
  cases hb:Pg m.snapshots[i].files[j] m.snapshots[x].files[q]with
  |false=>rfl
  |true=>exact absurd ((ID ((ho _ (gV hi)).2.2 _ hf) ((ho _ (gV hxl)).2.2 _ hg)).1 hb).symm hs
def alE(m:ay):Int:=er (lI (QA m) m.snapshots.length) 5
theorem Ua{m:ay}(hm:ul m)(ho:Ym m):xt m=some (alE m):=by
 unfold alE
 rcases XE hm ho with⟨a,q,b⟩ |⟨a,b⟩
 ·have hb:lI (QA m) m.snapshots.length=true:=by
   have hq:q<m.snapshots.length:=b.1
   exact fm.2 ⟨q,hq,(OZ ho hq).2 b⟩
  rw[a,hb];rfl
 ·have hb:lI (QA m) m.snapshots.length=false:=by
   rw[←Bool.not_eq_true,fm]
   rintro⟨q,hq,h⟩
   exact b q ((OZ ho hq).1 h)
  rw[a,hb];rfl
def Jz(m:ay)(id:Int):Bool:=lI (fun q=>match m.snapshots[q]? with|some s=>s.id==id|none=>false) m.snapshots.length
theorem adr{m:ay}(hm:ul m)(id:Int):∃s,kI m id=some (s,Jz m id):=by
 unfold kI bL
 have key:∀d k i,i+d=m.snapshots.length→d<k→∃r,aq m.snapshots id k (i:Int)=some r∧((r= -1∧∀j,i≤j→∀(h:j<m.snapshots.length),m.snapshots[j].id≠id)∨∃(j:Nat) (h:j<m.snapshots.length),r=(j:Int)∧m.snapshots[j].id=id):=by
  intro d
  induction d with
  |zero=>
   intro k i hi hk
   obtain⟨k,rfl⟩:=fu hk
   rw[aq,G2 (by omega),iF]
   exact⟨-1,rfl,.inl ⟨rfl,fun j h1 h2=>by omega⟩⟩
  |succ d ih=>
   intro k i hi hk
   obtain⟨k,rfl⟩:=fu hk
   have h1:i<m.snapshots.length:=by omega
   rw[aq,aV h1,iT,aD h1,bS,ph,bS,au h1 hm.snaps.1]
   cases he:(m.snapshots[i].id==id)with
   |true=>exact⟨i,rfl,.inr ⟨i,h1,rfl,by simpa using he⟩⟩
   |false=>
    obtain⟨r,e1,e2⟩:=ih k (i+1) (by omega) (by omega)
    refine⟨r,e1,e2.imp (fun⟨a,b⟩=>⟨a,fun j hj h=> ?_⟩) fun h=>h⟩
    by_cases e:j=i
    ·subst e;simpa using he
    ·exact b j (by omega) h
 obtain⟨r,r1,r2⟩:=key m.snapshots.length aH 0 (by omega) (by rw[aJ];have:=hm.snaps.1;omega)
 have r1:aq m.snapshots id aH (0:Int)=_:=r1
 rw[r1,bS]
 rcases r2 with⟨rfl,h⟩ |⟨j,hj,rfl,h⟩
 ·refine⟨⟨0,0,0,0,0,0,[],[],[]⟩,?_⟩
  have hb:Jz m id=false:=by
   unfold Jz
   rw[←Bool.not_eq_true,fm]
   rintro⟨q,hq,e⟩
   rw[dJ hq]at e
   exact h q (Nat.zero_le _) hq (by simpa using e)
  rw[hb];rfl
 ·refine⟨m.snapshots[j],?_⟩
  have hb:Jz m id=true:=fm.2 ⟨j,hj,by rw[dJ hj];simpa using h⟩
  rw[decide_eq_false (show¬(j:Int)<0 by omega),iF,aD hj,bS,hb]
theorem adQ{m:ay}(hm:ul m)(ho:Ym m)(id:Int):∃s,wz m id=some (s,Jz m id):=by
 have key:∀d k i,i+d=m.snapshots.length→d<k→∃s b,fv m id k (i:Int)=some (s,b)∧(b=true↔∃j,i≤j∧∃(h:j<m.snapshots.length),m.snapshots[j].id=id):=by
  intro d
  induction d with
  |zero=>
   intro k i hi hk
   obtain⟨k,rfl⟩:=fu hk
   rw[fv,G2 (by omega),iF]
   exact⟨_,_,rfl,by simp;intro j h1 h2;omega⟩
  |succ d ih=>
   intro k i hi hk
   obtain⟨k,rfl⟩:=fu hk
   have h1:i<m.snapshots.length:=by omega
   have hid:=(ho _ (gV h1)).1
   rw[fv,aV h1,iT,aD h1,bS]
   unfold vg
   rw[au h1 hm.snaps.1]
   cases he:(m.snapshots[i].id==id)with
   |true=>
    have he:m.snapshots[i].id=id:=by simpa using he
    rw[iT,decide_eq_true (by omega),iT]
    exact⟨_,_,rfl,fun _=>⟨i,iD _,h1,he⟩,fun _=>rfl⟩
   |false=>
    rw[iF,iF]
    obtain⟨s,b,e1,e2⟩:=ih k (i+1) (by omega) (by omega)
    refine⟨s,b,e1,e2.trans ⟨fun⟨j,a,h,c⟩=>⟨j,by omega,h,c⟩,fun⟨j,a,h,c⟩=>⟨j,?_,h,c⟩⟩⟩
    by_cases e:j=i
    ·subst e;rw[c]at he;simp at he
    ·omega
 obtain⟨s,b,e1,e2⟩:=key m.snapshots.length aH 0 (by omega) (by rw[aJ];have:=hm.snaps.1;omega)
 refine⟨s,?_⟩
 unfold wz
 rw[show((0:Nat):Int)=0 from rfl]at e1
 rw[e1]
 congr 2
 refine kG (e2.trans ?_)
 unfold Jz
 rw[fm]
 constructor
 ·rintro⟨j,_,h,c⟩;exact⟨j,h,by rw[dJ h];simpa using c⟩
 ·rintro⟨j,h,c⟩;rw[dJ h]at c;exact⟨j,Nat.zero_le _,h,by simpa using c⟩
def ZY(m:ay)(r:kV)(j:Nat):Bool:=lI (fun q=>match m.refs[q]? with|some p=>decide (p.name=r.name) |none=>false) j
def Qc(m:ay)(j:Nat):Int:=match m.refs[j]? with
 |some r=>qm (er (!wj r.name) 4) (qm (er (ZY m r j) 5) (er (!Jz m r.snapshot&& !(r.branch&&r.snapshot==0)) 9))
 |none=>0
def RB(s:ByteArray):Bool:=qg ⟨4,0,0,s,[]⟩
theorem YO{s:ByteArray}(h:s.size<100000000):cm ⟨4,0,0,s,[]⟩<1000000000:=by simp only[cm,fj];omega
def DE(m:ay)(j:Nat):Int:=match m.props[j]? with
 |some p=>qm (er (!wj p.name) 4) (er ((decide (0<j)&&(match m.props[j-1]? with|some q=>Ng p.name q.name|none=>false))|| !RB p.value) 1)
 |none=>0
theorem O1{m:ay}(hm:ul m){i:Nat}(hi:i<m.props.length)(X:Option Int)(O:Option Bool)(ho:O=some (RB m.props[i].value)):
  aj (decide ((0:Int)<(i:Int))) (al (at? m.props (i64.wrap ((i:Int)-(1:Int)))) fun e3=>al (some (Op.bytesLess m.props[i].name.toList e3.name.toList||m.props[i].name.toList==e3.name.toList)) fun y1=>aj y1 (aj true (some (1:Int)) X) (al O fun r5=>aj (!r5) (some (1:Int)) X)) (al O fun r6=>aj (!r6) (some (1:Int)) X)=
   ee (er ((decide (0<i)&&(match m.props[i-1]? with|some q=>Ng m.props[i].name q.name|none=>false))|| !RB m.props[i].value) 1) X:=by
 subst ho
 by_cases h0:0<i
 ·have hi1:i-1<m.props.length:=by omega
  rw[decide_eq_true (show(0:Int)<(i:Int) by omega),iT,tq hi h0 hm.props.1,bS,bS,decide_eq_true h0,dJ hi1,Bool.true_and,bS]
  show aj (Ng m.props[i].name m.props[i-1].name) _ _=ee (er (Ng m.props[i].name m.props[i-1].name|| !RB m.props[i].value) 1) X
  cases Ng m.props[i].name m.props[i-1].name with
  |true=>rfl
  |false=>rw[iF,eb (by decide),Bool.false_or]
 ·rw[decide_eq_false (show¬(0:Int)<(i:Int) by omega),iF,decide_eq_false h0,Bool.false_and,Bool.false_or,bS,eb (by decide)]
theorem aap{m:ay}(hm:ul m):wW m=some (fe (DE m) m.props.length 0):=by
 unfold wW
 rw[iw (L:=jo m) (n:=m.props.length) (fin:=some 0) (c:=DE m) hm.props.1
  (fun k=>by rw[jo,vU,iF];rfl)
  (fun k i hi=>by
   obtain⟨z1,z2⟩:=hm.props.2 _ (gV hi)
   rw[jo,aV hi,iT,aD hi,bS,V0 _ z1,bS,eb (by decide)]
   unfold DE
   rw[dJ hi]
   simp only
   rw[←bA]
   refine fa fun _=> ?_
   unfold sW
   rw[au hi hm.props.1]
   refine O1 hm hi _ _ ?_
   unfold tu
   rw[Bb _ (YO z2),bS];rfl)]
 exact ej _
theorem Zt{m:ay}(hm:ul m):u6 m=some (fe (DE m) m.props.length 0):=by
 unfold u6
 rw[iw (L:=iu m) (n:=m.props.length) (fin:=some 0) (c:=DE m) hm.props.1
  (fun k=>by rw[iu,vU,iF];rfl)
  (fun k i hi=>by
   obtain⟨z1,z2⟩:=hm.props.2 _ (gV hi)
   rw[iu,aV hi,iT,aD hi,bS,Vx _ z1,bS,eb (by decide)]
   unfold DE
   rw[dJ hi]
   simp only
   rw[←bA]
   refine fa fun _=> ?_
   unfold qP
   rw[au hi hm.props.1]
   refine O1 hm hi _ _ ?_
   unfold DY
   rw[MY _ (YO z2),bS];rfl)]
 exact ej _
theorem abd{m:ay}(hm:ul m){i:Nat}(hi:i<m.refs.length)(r:kV):
  cy (List.take ((i:Int).toNat-(0:Int).toNat) (List.drop (0:Int).toNat m.refs)) r=some (ZY m r i,r):=by
 unfold cy ef
 have hil:i≤m.refs.length:=by omega
 obtain⟨q,q1,q2⟩:=FE (z:=r) (L:=fun k j=>a8 (List.take ((i:Int).toNat-(0:Int).toNat) (List.drop (0:Int).toNat m.refs)) k r.name r.branch r.snapshot j) (n:=i) (p:=fun q=>match m.refs[q]? with|some p=>decide (p.name=r.name) |none=>false) (by have:=hm.refs.1;omega)
  (fun k=>by rw[a8,Bp hil,vU,iF];rfl)
  (fun k j hj=>by
   have hjl:j<m.refs.length:=by omega
   rw[a8,Bp hil,aV hj,iT,Mv hj hil,bS,Cc,bS,M6,au hjl hm.refs.1,dJ hjl])
 have q1:a8 (List.take ((i:Int).toNat-(0:Int).toNat) (List.drop (0:Int).toNat m.refs)) aH r.name r.branch r.snapshot (0:Int)=some (q,r):=q1
 rw[q1,bS]
 show some (decide (0≤q),r)=_
 rw[q2];rfl
theorem RI{b:Bool}(br:Bool)(s:Int)(X:Option Int):aj (!b) (aj br (aj (!(s==0)) (some (9:Int)) X) (aj true (some 9) X)) (aj false (some 9) X)=ee (er (!b&& !(br&&s==0)) 9) X:=by
 cases b<;>cases br<;>cases(s==0)<;>rfl
theorem ZF{m:ay}(hm:ul m):Cp m=some (qm (fe (Qc m) m.refs.length 0) (fe (DE m) m.props.length 0)):=by
 unfold Cp
 rw[iw (L:=jm m) (n:=m.refs.length) (fin:=some (fe (DE m) m.props.length 0)) (c:=Qc m) hm.refs.1
  (fun k=>by rw[jm,vU,iF,aap hm])
  (fun k i hi=>by
   obtain⟨s,hs⟩:=adr hm m.refs[i].snapshot
   rw[jm,aV hi,iT,aD hi,bS,V0 _ (hm.refs.2 _ (gV hi)),bS,eb (by decide),gP ⟨by omega,by omega,by omega⟩,abd hm hi,bS]
   show ee _ (aj (ZY m m.refs[i] i) _ (al (kI m m.refs[i].snapshot) _))=_
   rw[hs,bS,eb (by decide)]
   unfold Qc tj
   rw[dJ hi,au hi hm.refs.1]
   simp only
   rw[←bA,←bA,RI])]
 exact Ay _ _
theorem Y3{m:ay}(hm:ul m)(ho:Ym m):oD m=some (qm (fe (Qc m) m.refs.length 0) (fe (DE m) m.props.length 0)):=by
 unfold oD
 rw[iw (L:=gH m) (n:=m.refs.length) (fin:=some (fe (DE m) m.props.length 0)) (c:=Qc m) hm.refs.1
  (fun k=>by rw[gH,vU,iF,Zt hm])
  (fun k i hi=>by
   obtain⟨s,hs⟩:=adQ hm ho m.refs[i].snapshot
   rw[gH,aV hi,iT,aD hi,bS,Vx _ (hm.refs.2 _ (gV hi)),bS,eb (by decide)]
   rw[ux (L:=nN (gH m k) m (i:Int) m.refs[i]) (n:=i) (e:=some 5) (fin:=vD (gH m k) m (i:Int) m.refs[i]) (p:=fun q=>match m.refs[q]? with|some p=>decide (p.name=m.refs[i].name) |none=>false) (by have:=hm.refs.1;omega)
    (fun q=>by rw[nN,vU,iF])
    (fun q j hj=>by
     have hjl:j<m.refs.length:=by omega
     rw[nN,aV hj,iT,aD hjl,bS,M6,au hjl hm.refs.1,dJ hjl])]
   unfold Qc vD qF
   rw[dJ hi,au hi hm.refs.1,hs,bS,eb (by decide)]
   simp only
   rw[←bA,←bA,RI];rfl)]
 exact Ay _ _
def ovB(m:ay)(i:Nat):Bool:=match m.snapshots[i]? with|some s=>decide ((400:Int)<(s.files.length:Int))||decide ((400:Int)<(s.dby.length:Int)) |none=>false
def cnS(m:ay)(i:Nat):Int:=match m.snapshots[i]? with|some s=>i64.wrap ((s.files.length:Int)+(s.dby.length:Int)) |none=>0
def WG(m:ay):Nat→Nat→Bool
 |0,_=>false
 |d+1,i=>ovB m i||WG m d (i+1)
def W0(m:ay):Nat→Nat→Int→Int
 |0,_,x=>x
 |d+1,i,x=>W0 m d (i+1) (i64.wrap (x+cnS m i))
theorem ND{m:ay}(hm:ul m):∀(d k i:Nat) (x:Int) (b:Bool),i+d=m.snapshots.length→d<k→gF m k x b (i:Int)=some (er (b||(WG m d i||decide (4000<W0 m d i x))) 7)
 |0,k,i,x,b,hi,hk=>by
  obtain⟨k,rfl⟩:=fu hk
  rw[gF,G2 (by omega),iF]
  unfold xQ tH WG W0
  cases b with
  |true=>rfl
  |false=>rw[iF];cases decide (4000<x)<;>rfl
 |d+1,k,i,x,b,hi,hk=>by
  obtain⟨k,rfl⟩:=fu hk
  have h1:i<m.snapshots.length:=by omega
  rw[gF,aV h1,iT,aD h1,bS]
  unfold pP WG W0 ovB cnS
  rw[bS,au h1 hm.snaps.1,dJ h1]
  simp only
  cases b with
  |true=>rw[iT,ND hm d k (i+1) _ true (by omega) (by omega)];rfl
  |false=>
   rw[iF]
   cases decide ((400:Int)<(m.snapshots[i].files.length:Int))with
   |true=>rw[iT,ND hm d k (i+1) _ true (by omega) (by omega)];rfl
   |false=>
    rw[iF,bS,ND hm d k (i+1) _ _ (by omega) (by omega)]
    cases decide ((400:Int)<(m.snapshots[i].dby.length:Int))<;>rfl
theorem Ys{m:ay}(hm:ul m):∀(d k i:Nat) (x:Int),i+d=m.snapshots.length→d<k→kz m k x (i:Int)=some (WG m d i||decide (4000<W0 m d i x))
 |0,k,i,x,hi,hk=>by
  obtain⟨k,rfl⟩:=fu hk
  rw[kz,G2 (by omega),iF];rfl
 |d+1,k,i,x,hi,hk=>by
  obtain⟨k,rfl⟩:=fu hk
  have h1:i<m.snapshots.length:=by omega
  rw[kz,aV h1,iT,aD h1,bS]
  unfold wR WG W0 ovB cnS
  rw[bS,au h1 hm.snaps.1,dJ h1]
  simp only
  cases decide ((400:Int)<(m.snapshots[i].files.length:Int))with
  |true=>rfl
  |false=>
   rw[iF]
   cases decide ((400:Int)<(m.snapshots[i].dby.length:Int))with
   |true=>rfl
   |false=>rw[iF,Ys hm d k (i+1) _ (by omega) (by omega)];rfl
theorem SJ{m:ay}(hm:ul m):∃b,rW m=some (er b 7)∧Ch m=some b:=by
 have hc:∀x,jN m x=some (er (x||(WG m m.snapshots.length 0||decide (4000<W0 m m.snapshots.length 0 0))) 7):=fun x=>ND hm m.snapshots.length aH 0 0 x (by omega) (by rw[aJ];have:=hm.snaps.1;omega)
 have hr:∀x,lV m x=some (x||(WG m m.snapshots.length 0||decide (4000<W0 m m.snapshots.length 0 0))):=fun x=>by
  unfold lV
  have:=Ys hm m.snapshots.length aH 0 0 (by omega) (by rw[aJ];have:=hm.snaps.1;omega)
  rw[show((0:Nat):Int)=0 from rfl]at this
  rw[this]
  cases x<;>rfl
 unfold rW Ch
 simp only[hc,hr]
 cases decide ((40:Int)<(m.schemas.length:Int))with
 |true=>exact⟨_,rfl,rfl⟩
 |false=>
  cases decide ((40:Int)<(m.specs.length:Int))with
  |true=>exact⟨_,rfl,rfl⟩
  |false=>
   cases decide ((200:Int)<(m.snapshots.length:Int))with
   |true=>exact⟨_,rfl,rfl⟩
   |false=>
    cases decide ((40:Int)<(m.refs.length:Int))with
    |true=>exact⟨_,rfl,rfl⟩
    |false=>exact⟨_,rfl,rfl⟩
def G0(n:Int)(l:List Int):Bool:=l.any fun x=>decide (n≤x)
theorem Ue(n:Int)(a b:List Int):G0 n (a++b)=(G0 n a||G0 n b):=by unfold G0;rw[List.any_append]
theorem Zn(m:ay):∀(N k:Nat) (fs:List ae),eH fs≤N→N<k→eH fs<1000000000→bM k fs m.schemas m.specs m.nextField m.nextSeq m.nextSnap m.purges m.snapshots m.refs m.props=some (er (G0 m.nextField (fQ fs)) 3):=by
 intro N
 induction N with
 |zero=>
  intro k fs h hk _
  obtain⟨k,rfl⟩:=fu hk
  have hl:=dE fs
  have:fs=[]:=List.eq_nil_of_length_eq_zero (by omega)
  subst this
  rw[bM,Hf,cf]
  rfl
 |succ N ih=>
  intro k fs hN hk hs
  obtain⟨k,rfl⟩:=fu hk
  have hl:=dE fs
  rw[bM]
  have loop:∀(d kk i:Nat),i+d=fs.length→d<kk→cf (bM k) fs m.schemas m.specs m.nextField m.nextSeq m.nextSnap m.purges m.snapshots m.refs m.props kk (i:Int)=some (er (G0 m.nextField (fQ (fs.drop i))) 3):=by
   intro d
   induction d with
   |zero=>
    intro kk i hi hk2
    obtain⟨kk,rfl⟩:=fu hk2
    rw[cf,G2 (by omega),iF,List.drop_of_length_le (by omega)];rfl
   |succ d ihd=>
    intro kk i hi hk2
    obtain⟨kk,rfl⟩:=fu hk2
    have h1:i<fs.length:=by omega
    have m1:=lg (gV h1)
    have m2:=kr fs[i]
    have m3:=s7 fs[i].type
    rw[cf,aV h1,iT,aD h1,bS,ih k _ (by omega) (by omega) (by omega),bS,au h1 (by omega),ihd kk (i+1) (by omega) (by omega),Ff h1,Dj]
    unfold ve
    have hb:G0 m.nextField (fs[i].id::fQ fs[i].type.fields++fQ (fs.drop (i+1)))=(decide (m.nextField≤fs[i].id)||(G0 m.nextField (fQ fs[i].type.fields)||G0 m.nextField (fQ (fs.drop (i+1))))):=by
     rw[Ue]
     unfold G0
     rw[List.any_cons,Bool.or_assoc]
    rw[hb]
    cases decide (m.nextField≤fs[i].id)with
    |true=>rfl
    |false=>
     rw[iF,bS]
     show aj false _ _=_
     rw[iF]
     cases G0 m.nextField (fQ fs[i].type.fields)<;>rfl
  have:=loop fs.length aH 0 (by omega) (by rw[aJ];omega)
  rw[show((0:Nat):Int)=0 from rfl,List.drop_zero]at this
  exact this
noncomputable def adE(p q:List ae):Int:=qm (sc p) (qm (sc q) ((bv aH p q).getD 0))
theorem Yt{p q:List ae}(hp:eH p<1000000000-1)(hq:eH q<1000000000-1):(∃r,qu p q=some (r,adE p q))∧∃r,tG p q=some (r,adE p q):=by
 obtain⟨e,e1,e2,_⟩:=M5 (eH q) aH aH p q (iD _) (by rw[aJ];omega) (by rw[aJ];omega) (by omega) (by omega)
 unfold qu tG qf su adE
 rw[Xj hp,Y1 hp,Xj hq,Y1 hq,e1,e2]
 simp only[bS]
 show(∃r,al (aj (sc p != 0) _ _) _=some (r,qm (sc p) (qm (sc q) e)))∧∃r,al (aj (sc p != 0) _ _) _=some (r,qm (sc p) (qm (sc q) e))
 by_cases h1:sc p=0
 ·rw[h1]
  show(∃r,aj (sc q != 0) _ _=some (r,qm (sc q) e))∧∃r,aj (sc q != 0) _ _=some (r,qm (sc q) e)
  by_cases h2:sc q=0
  ·rw[h2]
   show(∃r,aj (e != 0) _ _=some (r,e))∧∃r,aj (e != 0) _ _=some (r,e)
   by_cases h3:e=0
   ·subst h3;exact⟨⟨[],rfl⟩,⟨[],rfl⟩⟩
   ·rw[show(e != 0)=true by simp[h3]];exact⟨⟨[],rfl⟩,⟨[],rfl⟩⟩
  ·rw[show(sc q != 0)=true by simp[h2],PX h2];exact⟨⟨[],rfl⟩,⟨[],rfl⟩⟩
 ·rw[show(sc p != 0)=true by simp[h1],PX h1,iT,bS,bS,show(sc p != 0)=true by simp[h1]];exact⟨⟨[],rfl⟩,⟨[],rfl⟩⟩
noncomputable def adJ(m:ay)(l:List ae)(q:Nat):Int:=match m.schemas[q]? with|some o=>adE o l|none=>0
noncomputable def Pe(m:ay)(j:Nat):Int:=match m.schemas[j]? with
 |some l=>qm (sc l) (qm (er (G0 m.nextField (fQ l)) 3) (fe (adJ m l) j 0))
 |none=>0
theorem acI{m:ay}(hm:ul m):wP m=some (fe (Pe m) m.schemas.length 0):=by
 unfold wP
 rw[iw (L:=eU m) (n:=m.schemas.length) (fin:=some 0) (c:=Pe m) hm.schemas.1
  (fun k=>by rw[eU,vU,iF];rfl)
  (fun k i hi=>by
   have hs:=hm.schemas.2 _ (gV hi)
   have hil:i≤m.schemas.length:=by omega
   rw[eU,aV hi,iT,aD hi,bS,Xj hs,bS,iA,Zn m _ aH _ (iD _) (by rw[aJ];omega) (by omega),bS,iA,gP ⟨by omega,by omega,by omega⟩]
   rw[iw (L:=j6 (eU m k) m (i:Int) m.schemas[i]) (n:=i) (fin:=eU m k ((i+1:Nat):Int)) (c:=adJ m m.schemas[i]) (by have:=hm.schemas.1;omega)
    (fun q=>by
     rw[j6,bS,Bp hil,vU,iF]
     unfold wq
     rw[au hi hm.schemas.1])
    (fun q x hx=>by
     have hxl:x<m.schemas.length:=by omega
     obtain⟨⟨r,hr⟩,_⟩:=Yt (hm.schemas.2 _ (gV hxl)) hs
     rw[j6,bS,Bp hil,aV hx,iT,Mv hx hil,bS,hr,bS]
     show aj (adE m.schemas[x] m.schemas[i] != 0) _ _=_
     rw[iA,au hxl hm.schemas.1]
     unfold adJ
     rw[dJ hxl])]
   unfold Pe
   rw[dJ hi]
   simp only
   rw[←bA,←bA])]
 exact ej _
theorem ab0{m:ay}(hm:ul m):dZ m aH (0:Int)=ee (fe (Pe m) m.schemas.length 0) (xd m):=
 iw (L:=dZ m) (n:=m.schemas.length) (c:=Pe m) hm.schemas.1
  (fun k=>by rw[dZ,vU,iF])
  (fun k i hi=>by
   have hs:=hm.schemas.2 _ (gV hi)
   have hids:=BK m.schemas[i]
   rw[dZ,aV hi,iT,aD hi,bS,Y1 hs,bS,iA,Vb _ aH _ (iD _) (by rw[aJ];omega) (by omega),bS]
   rw[ux (L:=n5 (dZ m k) m (i:Int) m.schemas[i] (fQ m.schemas[i])) (n:=(fQ m.schemas[i]).length) (e:=some 3) (fin:=xg (dZ m k) m (i:Int) m.schemas[i]) (p:=fun j=>match(fQ m.schemas[i])[j]? with|some x=>decide (m.nextField≤x) |none=>false) (by omega)
    (fun q=>by rw[n5,vU,iF])
    (fun q j hj=>by rw[n5,aV hj,iT,aD hj,bS,au hj (by omega),dJ hj])]
   have hb:lI (fun j=>match(fQ m.schemas[i])[j]? with|some x=>decide (m.nextField≤x) |none=>false) (fQ m.schemas[i]).length=G0 m.nextField (fQ m.schemas[i]):=by
    refine kG ?_
    unfold G0
    rw[fm,List.any_eq_true]
    constructor
    ·rintro⟨j,hj,h⟩;rw[dJ hj]at h;exact⟨_,gV hj,h⟩
    ·rintro⟨x,hx,h⟩
     obtain⟨j,hj,rfl⟩:=Kb.1 hx
     exact⟨j,hj,by rw[dJ hj];exact h⟩
   rw[hb,eb (by decide)]
   unfold xg
   rw[iw (L:=nO (dZ m k) m (i:Int) m.schemas[i]) (n:=i) (fin:=dZ m k ((i+1:Nat):Int)) (c:=adJ m m.schemas[i]) (by have:=hm.schemas.1;omega)
    (fun q=>by
     rw[nO,vU,iF]
     unfold A9
     rw[au hi hm.schemas.1])
    (fun q x hx=>by
     have hxl:x<m.schemas.length:=by omega
     obtain⟨_,⟨r,hr⟩⟩:=Yt (hm.schemas.2 _ (gV hxl)) hs
     rw[nO,aV hx,iT,aD hxl,bS,hr,bS]
     show aj (adE m.schemas[x] m.schemas[i] != 0) _ _=_
     rw[iA,au hxl hm.schemas.1]
     unfold adJ
     rw[dJ hxl])]
   unfold Pe
   rw[dJ hi]
   simp only
   rw[←bA,←bA])
def LZ(m:ay)(sp:cD)(d:Nat):Bool:=match m.schemas[d]? with|some fs=> !lI (ug fs sp) sp.fields.length|none=>false
def yg(m:ay)(sp:cD):Nat→Int
 |0=> -1
 |d+1=>if LZ m sp d then(d:Int)else yg m sp d
theorem He(m:ay)(sp:cD):∀d,-1≤yg m sp d∧yg m sp d<d
 |0=>by simp[yg]
 |d+1=>by
  unfold yg
  have:=He m sp d
  split<;>constructor<;>omega
noncomputable def suE(sp:cD)(fs:List ae):Int:=(ud sp fs).getD 0
noncomputable def ZQ(m:ay)(j:Nat):Int:=match m.specs[j]? with
 |some sp=>qm (er (decide (yg m sp m.schemas.length<0)||(decide (j+1=m.specs.length)&&decide (yg m sp m.schemas.length<(m.schemas.length:Int)-1))) 9)
  (match m.schemas[(yg m sp m.schemas.length).toNat]? with|some fs=>suE sp fs|none=>0)
 |none=>0
theorem ab6{m:ay}(hm:ul m){sp:cD}(hsp:sp.fields.length<1000000000){d:Nat}(hd:d<m.schemas.length):
  bC sp.fields m.schemas m.specs m.nextField m.nextSeq m.nextSnap m.purges m.snapshots m.refs m.props (d:Int)=some (!LZ m sp d,(d:Int)):=by
 have hfs:=hm.schemas.2 _ (gV hd)
 have hn:m.schemas[d].length<1000000000:=by have:=dE m.schemas[d];omega
 unfold bC cF
 obtain⟨r,r1,r2⟩:=FE (z:=(d:Int)) (L:=fun k i=>aO sp.fields m.schemas m.specs m.nextField m.nextSeq m.nextSnap m.purges m.snapshots m.refs m.props k (d:Int) i) (n:=sp.fields.length) (p:=ug m.schemas[d] sp) hsp
  (fun k=>by rw[aO,vU,iF];rfl)
  (fun k i hi=>by
   obtain⟨t1,_,t3,_⟩:=AT hn sp.fields[i].source
   rw[aO,aV hi,iT,aD hi,bS]
   unfold xS
   rw[aD hd,bS,t1,bS,bS,t3,au hi hsp]
   unfold ug
   rw[dJ hi])
 have r1:aO sp.fields m.schemas m.specs m.nextField m.nextSeq m.nextSnap m.purges m.snapshots m.refs m.props aH (d:Int) (0:Int)=some (r,(d:Int)):=r1
 rw[r1,bS]
 show some (decide (0≤r),(d:Int))=_
 rw[r2]
 unfold LZ
 rw[dJ hd,Bool.not_not]
theorem Uj{m:ay}(hm:ul m){sp:cD}(hsp:sp.fields.length<1000000000)(rec1:Int→Option Int)(x1:Int):∀(d k:Nat),d≤m.schemas.length→d<k→iy rec1 m x1 sp k ((d:Int)-1)=qW rec1 m x1 sp (yg m sp d)
 |0,k,hd,hk=>by
  obtain⟨k,rfl⟩:=fu hk
  rw[iy]
  show aj (decide ((0:Int)≤-1)) _ _=_
  rw[decide_eq_false (by decide),iF]
  rfl
 |d+1,k,hd,hk=>by
  obtain⟨k,rfl⟩:=fu hk
  have h1:d<m.schemas.length:=by omega
  rw[iy,show(((d+1:Nat):Int)-1)=(d:Int) by omega,decide_eq_true (show(0:Int)≤(d:Int) by omega),iT,ab6 hm hsp h1,bS]
  unfold vG yg
  show aj (!LZ m sp d) (iy rec1 m x1 sp k (i64.wrap ((d:Int)-1))) (qW rec1 m x1 sp (d:Int))=_
  cases LZ m sp d with
  |true=>rfl
  |false=>
   rw[Bool.not_false,iT,jQ (by have:=hm.schemas.1;omega) (by have:=hm.schemas.1;omega),Uj hm hsp rec1 x1 d k (by omega) (by omega)];rfl
theorem Yc{m:ay}(hm:ul m){sp:cD}(hsp:sp.fields.length<1000000000){fs:List ae}(hfs:fs∈m.schemas):ud sp fs=some (suE sp fs)∧zf sp fs=some (suE sp fs):=by
 have:=hm.schemas.2 _ hfs
 obtain⟨c,h1,h2,_⟩:=UR sp hsp (fs:=fs) (by omega)
 unfold suE
 rw[h1,h2];exact⟨rfl,rfl⟩
theorem aat{m:ay}(hm:ul m):Al m=some (fe (ZQ m) m.specs.length 0):=by
 unfold Al
 rw[iw (L:=eu m) (n:=m.specs.length) (fin:=some 0) (c:=ZQ m) hm.specs.1
  (fun k=>by rw[eu,vU,iF];rfl)
  (fun k i hi=>by
   have hsp:=hm.specs.2 _ (gV hi)
   obtain⟨l1,l2⟩:=He m m.specs[i] m.schemas.length
   rw[eu,aV hi,iT,aD hi,bS,ld hm.schemas.1,Uj hm hsp _ _ m.schemas.length aH (iD _) (by rw[aJ];have:=hm.schemas.1;omega)]
   unfold ZQ
   rw[dJ hi]
   simp only
   generalize hK:yg m m.specs[i] m.schemas.length=K at l1 l2
   have hj:∀x,x=(decide (K<0)||(decide (i+1=m.specs.length)&&decide (K<(m.schemas.length:Int)-1)))→oC (eu m k) m (i:Int) m.specs[i] K x=
     ee (qm (er (decide (K<0)||(decide (i+1=m.specs.length)&&decide (K<(m.schemas.length:Int)-1))) 9) (match m.schemas[K.toNat]? with|some fs=>suE m.specs[i] fs|none=>0)) (eu m k ((i+1:Nat):Int)):=by
    rintro x rfl
    unfold oC
    rw[eb (by decide),←bA]
    refine fa fun e=> ?_
    have e:=(D8 (by decide)).1 e
    rw[Bool.or_eq_false_iff,decide_eq_false_iff_not]at e
    obtain⟨h1,h2,h3⟩:=EW (l:=m.schemas) (x:=K) (by omega) (by omega)
    rw[h2,h3,bS,(Yc hm hsp (gV h1)).1,bS,iA,au hi hm.specs.1]
   generalize hB:(decide (K<0)||(decide (i+1=m.specs.length)&&decide (K<(m.schemas.length:Int)-1)))=B at hj⊢
   unfold qW
   by_cases h0:K<0
   ·rw[decide_eq_true h0,iT]
    exact hj true (by rw[←hB,decide_eq_true h0];rfl)
   ·rw[decide_eq_false h0,iF,ld hm.specs.1]
    by_cases hl:i+1=m.specs.length
    ·rw[show((i:Int)==(m.specs.length:Int)-1)=true from beq_iff_eq.2 (by omega),iT,ld hm.schemas.1,bS]
     exact hj _ (by rw[←hB,decide_eq_false h0,decide_eq_true hl];rfl)
    ·rw[show((i:Int)==(m.specs.length:Int)-1)=false from beq_eq_false_iff_ne.2 (by omega),iF]
     exact hj false (by rw[←hB,decide_eq_false h0,decide_eq_false hl];rfl))]
 exact ej _
theorem abt{m:ay}(hm:ul m){sp:cD}(hsp:sp.fields.length<1000000000)(rec2:Int→Int→Option Int)(x2:Int){d:Nat}(hd:d<m.schemas.length):
  dO rec2 m sp x2 (d:Int) aH true (0:Int)=mz rec2 x2 (d:Int) (LZ m sp d):=by
 have hfs:=hm.schemas.2 _ (gV hd)
 have hn:m.schemas[d].length<1000000000:=by have:=dE m.schemas[d];omega
 have key:∀(q k i:Nat) (b:Bool),i+q=sp.fields.length→q<k→dO rec2 m sp x2 (d:Int) k b (i:Int)=mz rec2 x2 (d:Int) (b&& !decide (∃j,j<q∧ug m.schemas[d] sp (i+j)=true)):=by
  intro q
  induction q with
  |zero=>
   intro k i b hi hk
   obtain⟨k,rfl⟩:=fu hk
   rw[dO,G2 (by omega),iF]
   simp
  |succ q ih=>
   intro k i b hi hk
   obtain⟨k,rfl⟩:=fu hk
   have h1:i<sp.fields.length:=by omega
   obtain⟨_,t2,_,_⟩:=AT hn sp.fields[i].source
   rw[dO,aV h1,iT,aD h1,bS,aD hd,bS,t2,bS]
   unfold pc
   rw[au h1 hsp]
   have hl:ug m.schemas[d] sp i= !Hs m.schemas[d] sp.fields[i].source:=by unfold ug;rw[dJ h1]
   have hx:(!decide (∃j,j<q+1∧ug m.schemas[d] sp (i+j)=true))=(Hs m.schemas[d] sp.fields[i].source&& !decide (∃j,j<q∧ug m.schemas[d] sp (i+1+j)=true)):=by
    refine kG ?_
    rw[iY,Bool.not_eq_true',Bool.not_eq_true',decide_eq_false_iff_not,decide_eq_false_iff_not]
    constructor
    ·intro h
     refine⟨?_,fun⟨j,a,b⟩=>h ⟨j+1,by omega,by rw[←b];congr 1;omega⟩⟩
     cases hb:Hs m.schemas[d] sp.fields[i].source with
     |true=>rfl
     |false=>exact absurd ⟨0,by omega,by rw[Nat.add_zero,hl,hb];rfl⟩ h
    ·rintro⟨h1,h2⟩ ⟨j,a,b⟩
     cases j with
     |zero=>rw[Nat.add_zero,hl,h1]at b;cases b
     |succ j=>exact h2 ⟨j,by omega,by rw[←b];congr 1;omega⟩
   rw[hx]
   cases b with
   |true=>
    rw[iT]
    show dO rec2 m sp x2 (d:Int) k (Hs m.schemas[d] sp.fields[i].source) ((i+1:Nat):Int)=_
    rw[ih k (i+1) _ (by omega) (by omega),Bool.true_and]
   |false=>rw[iF,ih k (i+1) _ (by omega) (by omega),Bool.false_and,Bool.false_and]
 have:=key sp.fields.length aH 0 true (by omega) (by rw[aJ];omega)
 rw[show((0:Nat):Int)=0 from rfl]at this
 rw[this,Bool.true_and]
 congr 1
 unfold LZ
 rw[dJ hd]
 congr 1
 refine kG ?_
 rw[decide_eq_true_iff,fm]
 simp
theorem abb{m:ay}(hm:ul m){sp:cD}(hsp:sp.fields.length<1000000000)(rec1:Int→Option Int)(x1:Int):∀(d k i:Nat),i+d=m.schemas.length→d<k→dq rec1 m x1 sp k (yg m sp i) (i:Int)=pk rec1 m x1 sp (yg m sp m.schemas.length)
 |0,k,i,hi,hk=>by
  obtain⟨k,rfl⟩:=fu hk
  have:i=m.schemas.length:=by omega
  rw[dq,G2 (by omega),iF,this]
 |d+1,k,i,hi,hk=>by
  obtain⟨k,rfl⟩:=fu hk
  have h1:i<m.schemas.length:=by omega
  rw[dq,aV h1,iT,abt hm hsp _ _ h1]
  unfold mz pd
  rw[au h1 hm.schemas.1,←abb hm hsp rec1 x1 d k (i+1) (by omega) (by omega)]
  rw[show yg m sp (i+1)=if LZ m sp i then(i:Int)else yg m sp i from rfl]
  cases LZ m sp i<;>rfl
theorem YZ{m:ay}(hm:ul m):tK m=some (fe (ZQ m) m.specs.length 0):=by
 unfold tK
 rw[iw (L:=bI m) (n:=m.specs.length) (fin:=some 0) (c:=ZQ m) hm.specs.1
  (fun k=>by rw[bI,vU,iF];rfl)
  (fun k i hi=>by
   have hsp:=hm.specs.2 _ (gV hi)
   obtain⟨l1,l2⟩:=He m m.specs[i] m.schemas.length
   have hu:=abb hm hsp (bI m k) (i:Int) m.schemas.length aH 0 (by omega) (by rw[aJ];have:=hm.schemas.1;omega)
   have hu:dq (bI m k) m (i:Int) m.specs[i] aH (-1:Int) (0:Int)=_:=hu
   rw[bI,aV hi,iT,aD hi,bS,hu]
   unfold ZQ
   rw[dJ hi]
   simp only
   generalize hK:yg m m.specs[i] m.schemas.length=K at l1 l2
   have hj:∀x,x=(decide (K<0)||(decide (i+1=m.specs.length)&&decide (K<(m.schemas.length:Int)-1)))→kq (bI m k) m (i:Int) m.specs[i] K x=
     ee (qm (er (decide (K<0)||(decide (i+1=m.specs.length)&&decide (K<(m.schemas.length:Int)-1))) 9) (match m.schemas[K.toNat]? with|some fs=>suE m.specs[i] fs|none=>0)) (bI m k ((i+1:Nat):Int)):=by
    rintro x rfl
    unfold kq
    rw[eb (by decide),←bA]
    refine fa fun e=> ?_
    have e:=(D8 (by decide)).1 e
    rw[Bool.or_eq_false_iff,decide_eq_false_iff_not]at e
    obtain⟨h1,h2,h3⟩:=EW (l:=m.schemas) (x:=K) (by omega) (by omega)
    rw[h2,h3,bS,(Yc hm hsp (gV h1)).2,bS,iA,au hi hm.specs.1]
   generalize hB:(decide (K<0)||(decide (i+1=m.specs.length)&&decide (K<(m.schemas.length:Int)-1)))=B at hj⊢
   unfold pk
   by_cases h0:K<0
   ·rw[decide_eq_true h0,iT]
    exact hj true (by rw[←hB,decide_eq_true h0];rfl)
   ·rw[decide_eq_false h0,iF,ld hm.specs.1]
    by_cases hl:i+1=m.specs.length
    ·rw[show((i:Int)==(m.specs.length:Int)-1)=true from beq_iff_eq.2 (by omega),iT,ld hm.schemas.1]
     refine hj _ ?_
     rw[←hB,decide_eq_false h0,decide_eq_true hl,Bool.true_and,Bool.false_or]
     refine kG ?_
     rw[bne_iff_ne,decide_eq_true_iff];omega
    ·rw[show((i:Int)==(m.specs.length:Int)-1)=false from beq_eq_false_iff_ne.2 (by omega),iF]
     exact hj false (by rw[←hB,decide_eq_false h0,decide_eq_false hl];rfl))]
 exact ej _
noncomputable def Gf(m:ay):Int:=qm (fe (Pe m) m.schemas.length 0) (qm (fe (ZQ m) m.specs.length 0) (qm (fe (Yo m) m.snapshots.length 0) (qm (alE m) (qm (fe (Qc m) m.refs.length 0) (fe (DE m) m.props.length 0)))))
theorem aa7{m:ay}(hm:ul m)(x:Bool):mE m x=some (qm (er x 3) (Gf m)):=by
 unfold mE Gf
 rw[eb (by decide),acI hm,bS,iA,aat hm,bS,iA,Zb hm,bS,iA]
 refine Eq.trans ?_ (ej _)
 rw[←bA,←bA,←bA,←bA]
 refine fa fun _=>fa fun _=>fa fun _=>fa fun e=> ?_
 rw[Ua hm (IT hm e),bS,iA,ZF hm,bS,iA,bA]
theorem adp{m:ay}(hm:ul m)(x:Bool):nR m x=some (qm (er x 3) (Gf m)):=by
 unfold nR Gf
 rw[eb (by decide),ab0 hm]
 unfold xd
 rw[YZ hm,bS,iA,ZV hm]
 refine Eq.trans ?_ (ej _)
 rw[←bA,←bA,←bA,←bA]
 refine fa fun _=>fa fun _=>fa fun _=>fa fun e=> ?_
 rw[XN hm (IT hm e),Y3 hm (IT hm e),ej]
 exact Ay _ _
theorem Yk{m:ay}(hm:ul m)(x:Bool):∃e,mC m x=some e∧s9 m x=some e:=by
 unfold mC s9
 simp only[lc,pw,aa7 hm,adp hm,bS]
 cases x with
 |true=>exact⟨9,rfl,rfl⟩
 |false=>
  cases decide (1≤m.nextField∧m.nextField≤1099511627776)with
  |false=>exact⟨_,rfl,rfl⟩
  |true=>
   cases decide (1≤m.nextSeq∧m.nextSeq≤1099511627776)with
   |false=>exact⟨_,rfl,rfl⟩
   |true=>
    cases decide (1≤m.nextSnap∧m.nextSnap≤1099511627776)with
    |false=>exact⟨_,rfl,rfl⟩
    |true=>exact⟨_,rfl,rfl⟩
theorem SK{m:ay}(hm:ul m):∃e,oP m=some e∧wl m=some e:=by
 obtain⟨b,h1,h2⟩:=SJ hm
 unfold oP wl
 rw[h1,h2,bS,bS]
 cases b with
 |true=>exact⟨7,rfl,rfl⟩
 |false=>
  show∃e,aj false _ _=_∧aj false _ _=_
  rw[iF,iF]
  cases((m.schemas.length:Int)==0)with
  |true=>exact Yk hm true
  |false=>exact Yk hm _
theorem OH:DO=some true:=by decide+kernel
theorem aa5{m:ay}(hm:ul m)(x:Bool):∃e,mC m x=some e∧(e=0→Gf m=0):=by
 unfold mC
 simp only[lc,aa7 hm,bS]
 cases x with
 |true=>exact⟨9,rfl,fun h=>absurd h (by decide)⟩
 |false=>
  cases decide (1≤m.nextField∧m.nextField≤1099511627776)with
  |false=>exact⟨_,rfl,fun h=>(lx.1 h).2⟩
  |true=>
   cases decide (1≤m.nextSeq∧m.nextSeq≤1099511627776)with
   |false=>exact⟨_,rfl,fun h=>(lx.1 h).2⟩
   |true=>
    cases decide (1≤m.nextSnap∧m.nextSnap≤1099511627776)with
    |false=>exact⟨_,rfl,fun h=>(lx.1 h).2⟩
    |true=>exact⟨_,rfl,fun h=>(lx.1 h).2⟩
theorem T9{m:ay}(hm:ul m):∃b,rW m=some (er b 7):=by
 have hc:∀x,jN m x=some (er (x||(WG m m.snapshots.length 0||decide (4000<W0 m m.snapshots.length 0 0))) 7):=fun x=>ND hm m.snapshots.length aH 0 0 x (by omega) (by rw[aJ];have:=hm.snaps.1;omega)
 unfold rW
 simp only[hc]
 cases decide ((40:Int)<(m.schemas.length:Int))with
 |true=>exact⟨_,rfl⟩
 |false=>
  cases decide ((40:Int)<(m.specs.length:Int))with
  |true=>exact⟨_,rfl⟩
  |false=>
   cases decide ((200:Int)<(m.snapshots.length:Int))with
   |true=>exact⟨_,rfl⟩
   |false=>
    cases decide ((40:Int)<(m.refs.length:Int))with
    |true=>exact⟨_,rfl⟩
    |false=>exact⟨_,rfl⟩
theorem Xf{m:ay}(hm:ul m):∃e,oP m=some e∧(e=0→Gf m=0):=by
 obtain⟨b,h1⟩:=T9 hm
 unfold oP
 rw[h1,bS]
 cases b with
 |true=>exact⟨7,rfl,fun h=>absurd h (by decide)⟩
 |false=>
  show∃e,aj false _ _=_∧_
  rw[iF]
  cases((m.schemas.length:Int)==0)with
  |true=>exact aa5 hm true
  |false=>exact aa5 hm _
structure DOk(m:ay)(d:cz):Prop where
 fs:∃fs,at? m.schemas d.schema=some fs∧fs∈m.schemas∧(∀(i:Nat) (h:i<d.ids.length),Ie fs d.ids[i]=true)∧
  ∀k∈d.keys,k.length=d.ids.length∧∀(i:Nat) (h:i<d.ids.length) (h':i<k.length),ck (n9 fs d.ids[i]).type k[i]=0
 keys:∀k∈d.keys,∀v∈k,Lv v
structure aeb(m:ay)(s:ar):Prop where
 sort:Gx s.files
 file:∀f∈s.files,S3 f∧∃fs,at? m.schemas f.schema=some fs∧fs∈m.schemas
 dby:∀d∈s.dby,DOk m d
theorem dok{m:ay}{d:cz}(hm:ul m)(hz:X2 d.ids d.keys)(h:ZJ m d=0):DOk m d:=by
 unfold ZJ at h
 rw[lx]at h
 obtain⟨fs,a1,a2,a3⟩:=Uf ((D8 (by decide)).1 h.1)
 have h2:=h.2
 rw[a2]at h2
 unfold Ib at h2
 simp only[lx]at h2
 obtain⟨_,h3,_,_,_,h4⟩:=h2
 have hl:∀(i:Nat) (h:i<d.ids.length),Ie fs d.ids[i]=true:=fun i hi=>TW h3 hi
 have hk:∀(j:Nat) (hj:j<d.keys.length),er ((d.keys[j].length:Int) != (d.ids.length:Int)) 1=0∧fe (KF fs d.ids d.keys[j]) d.ids.length 0=0:=by
  intro j hj
  have:=N5.1 h4 j (Nat.zero_le _) (by omega)
  rw[zC hj,lx,lx]at this
  exact⟨this.1,this.2.1⟩
 refine⟨⟨fs,a1,a3,hl,fun k hk'=> ?_⟩,fun k hk'=> ?_⟩
 ·obtain⟨j,hj,rfl⟩:=Kb.1 hk'
  obtain⟨b1,b2⟩:=hk j hj
  refine⟨by rw[D8 (by decide),bne_eq_false_iff_eq]at b1;omega,fun i hi hi'=> ?_⟩
  have:=N5.1 b2 i (Nat.zero_le _) (by omega)
  unfold KF at this
  rw[dJ hi,dJ hi']at this
  exact this
 ·obtain⟨j,hj,rfl⟩:=Kb.1 hk'
  obtain⟨b1,b2⟩:=hk j hj
  exact Ko hz (hm.schemas.2 _ a3) hl hj b1 b2
theorem Xo{m:ay}{f:ai}(h:yj m f=0):∃fs,at? m.schemas f.schema=some fs∧fs∈m.schemas:=by
 unfold yj at h
 simp only[lx]at h
 have:Sc m f=false:=by
  first
  |exact(D8 (by decide)).1 h.2.1
  |exact(D8 (by decide)).1 h.1
 obtain⟨fs,sp,a1,_,_,_,a2,_⟩:=N4 this
 exact⟨fs,a1,a2⟩
theorem adh{m:ay}(hm:ul m)(h:Gf m=0):∀s∈m.snapshots,1≤s.id∧aeb m s:=by
 unfold Gf at h
 simp only[lx]at h
 intro s hs
 have ho:=IT hm h.2.2.1 s hs
 refine⟨ho.1,ho.2.1,fun f hf=>⟨ho.2.2 f hf,?_⟩,fun d hd=> ?_⟩
 all_goals
  obtain⟨i,hi,rfl⟩:=Kb.1 hs
  have h1:=N5.1 h.2.2.1 i (Nat.zero_le _) (by omega)
  rw[JI hi,lx,lx]at h1
  have hh:=h1.2.2
  unfold UZ at hh
  rw[lx,lx]at hh
 ·obtain⟨j,hj,rfl⟩:=Kb.1 hf
  have h2:=N5.1 hh.1 j (Nat.zero_le _) (by omega)
  unfold Uw at h2
  rw[dJ hj]at h2
  simp only[lx]at h2
  exact Xo h2.1
 ·have hz:=ksz (hm.snaps.2 _ hs) hd
  obtain⟨j,hj,rfl⟩:=Kb.1 hd
  have h2:=N5.1 hh.2.2 j (Nat.zero_le _) (by omega)
  unfold N2 at h2
  rw[dJ hj]at h2
  simp only[lx]at h2
  exact dok hm hz h2.1
theorem S8{m:ay}(hm:ul m)(h:Gf m=0):∀fs∈m.schemas,sc fs=0:=by
 unfold Gf at h
 simp only[lx]at h
 intro fs hfs
 obtain⟨i,hi,rfl⟩:=Kb.1 hfs
 have h1:=N5.1 h.1 i (Nat.zero_le _) (by omega)
 unfold Pe at h1
 rw[dJ hi]at h1
 simp only[lx]at h1
 exact h1.1
def nq{α:Type}(r:α→α→Bool)(l m:List α)(j:Nat):Bool:=match l[j]?,m[j]? with|some x,some y=> !r x y|_,_=>false
theorem ZC{α:Type}{r:α→α→Bool}{l m:List α}(hl:l.length=m.length)(hr:∀x∈l,∀y∈m,(r x y=true↔x=y)):Uc (nq r l m) l.length=true↔l=m:=by
 rw[JH]
 constructor
 ·intro h
  refine List.ext_getElem hl fun i h1 h2=> ?_
  have:=h i h1
  unfold nq at this
  rw[dJ h1,dJ h2]at this
  exact(hr _ (gV h1) _ (gV h2)).1 (by simpa using this)
 ·rintro rfl j hj
  unfold nq
  rw[dJ hj]
  have:=(hr _ (gV hj) _ (gV hj)).2 rfl
  simp[this]
theorem S4(l:List Int)(hn:l.length<1000000000):D4 l l=some true:=by
 unfold D4
 rw[bne_self_eq_false,iF]
 rw[Ft (L:=o9 l l) (n:=l.length) (p:=nq (fun a b=>a==b) l l) hn
  (fun k=>by rw[o9,vU,iF];rfl)
  (fun k i hi=>by
   rw[o9,aV hi,iT,aD hi,bS,bS,au hi hn]
   unfold nq
   rw[dJ hi]
   rfl)]
 exact congrArg some ((ZC rfl fun x _ y _=>by simp).2 rfl)
def NP(l:List lj)(n:ByteArray):List Int:=((l.find? fun d=>decide (d.file=n)).map (·.rows)).getD []
theorem acn{s:ar}(hn:s.dat.length<1000000000)(n:ByteArray):wT s n=some (NP s.dat n):=by
 have key:∀(d k i:Nat),i+d=s.dat.length→d<k→kl s n k (i:Int)=some (NP (s.dat.drop i) n):=by
  intro d
  induction d with
  |zero=>
   intro k i hi hk
   obtain⟨k,rfl⟩:=fu hk
   rw[kl,G2 (by omega),iF,List.drop_of_length_le (by omega)];rfl
  |succ d ih=>
   intro k i hi hk
   obtain⟨k,rfl⟩:=fu hk
   have h1:i<s.dat.length:=by omega
   rw[kl,aV h1,iT,aD h1,bS,M6,B3 h1,au h1 hn]
   unfold NP
   rw[List.find?_cons]
   cases hb:decide (s.dat[i].file=n)with
   |true=>rfl
   |false=>rw[iF];exact ih k (i+1) (by omega) (by omega)
 have:=key s.dat.length aH 0 (by omega) (by rw[aJ];omega)
 rw[List.drop_zero]at this
 exact this
theorem XS{s:ar}(hs:QD s)(n:ByteArray):(NP s.dat n).length<1000000000:=by
 unfold NP
 cases h:s.dat.find? (fun d=>decide (d.file=n))with
 |none=>show([]:List Int).length<_;simp
 |some d=>exact hs.dat.2 d (List.mem_of_find?_eq_some h)
theorem abM{s:ar}(hn:s.dat.length<1000000000)(n:ByteArray):D7 s n=some (NP s.dat n):=by
 have key:∀(d k i:Nat),i+d=s.dat.length→d<k→pn s n k (i:Int)=some (NP (s.dat.drop i) n):=by
  intro d
  induction d with
  |zero=>
   intro k i hi hk
   obtain⟨k,rfl⟩:=fu hk
   rw[pn,G2 (by omega),iF,List.drop_of_length_le (by omega)];rfl
  |succ d ih=>
   intro k i hi hk
   obtain⟨k,rfl⟩:=fu hk
   have h1:i<s.dat.length:=by omega
   rw[pn,aV h1,iT,aD h1,bS,M6,B3 h1,au h1 hn]
   unfold NP
   rw[List.find?_cons]
   cases hb:decide (s.dat[i].file=n)with
   |true=>rfl
   |false=>rw[iF];exact ih k (i+1) (by omega) (by omega)
 have:=key s.dat.length aH 0 (by omega) (by rw[aJ];omega)
 rw[List.drop_zero]at this
 exact this
theorem Tc{m:ay}(hm:ul m)(ho:∀s∈m.snapshots,1≤s.id)(id:Int):∃s b,kI m id=some (s,b)∧wz m id=some (s,b)∧(b=true→s∈m.snapshots):=by
 have hn:=hm.snaps.1
 have key:∀(d k k' i:Nat),i+d=m.snapshots.length→d<k→d<k'→
   (∃(j:Nat) (hj:j<m.snapshots.length),aq m.snapshots id k (i:Int)=some (j:Int)∧fv m id k' (i:Int)=some (m.snapshots[j],true))∨
   (aq m.snapshots id k (i:Int)=some (-1)∧fv m id k' (i:Int)=some (⟨0,0,0,0,0,0,[],[],[]⟩,false)):=by
  intro d
  induction d with
  |zero=>
   intro k k' i hi hk hk'
   obtain⟨k,rfl⟩:=fu hk
   obtain⟨k',rfl⟩:=fu hk'
   rw[aq,fv,G2 (by omega),iF,iF]
   exact .inr ⟨rfl,rfl⟩
  |succ d ih=>
   intro k k' i hi hk hk'
   obtain⟨k,rfl⟩:=fu hk
   obtain⟨k',rfl⟩:=fu hk'
   have h1:i<m.snapshots.length:=by omega
   have hid:=ho _ (gV h1)
   rw[aq,fv,aV h1,iT,iT,aD h1,bS,bS,ph,bS,au h1 hn]
   unfold vg
   rw[au h1 hn]
   cases he:(m.snapshots[i].id==id)with
   |true=>
    have e:m.snapshots[i].id=id:=by simpa using he
    rw[iT,iT,decide_eq_true (show(0:Int)<id by omega),iT]
    exact .inl ⟨i,h1,rfl,rfl⟩
   |false=>
    rw[iF,iF,iF]
    exact ih k k' (i+1) (by omega) (by omega) (by omega)
 unfold kI bL wz
 rcases key m.snapshots.length aH aH 0 (by omega) (by rw[aJ];omega) (by rw[aJ];omega)with⟨j,hj,a,b⟩ |⟨a,b⟩
 ·have a:aq m.snapshots id aH (0:Int)=_:=a
  have b:fv m id aH (0:Int)=_:=b
  rw[a,b,bS,decide_eq_false (show¬(j:Int)<0 by omega),iF,aD hj,bS]
  exact⟨_,_,rfl,rfl,fun _=>gV hj⟩
 ·have a:aq m.snapshots id aH (0:Int)=_:=a
  have b:fv m id aH (0:Int)=_:=b
  rw[a,b,bS]
  exact⟨_,_,rfl,rfl,fun h=>by cases h⟩
theorem IU{m:ay}(hm:ul m):∃e,oP m=some e∧wl m=some e∧(e=0→Gf m=0):=by
 obtain⟨e,h1,h2⟩:=SK hm
 obtain⟨e',k1,k2⟩:=Xf hm
 rw[h1]at k1
 cases k1
 exact⟨e,h1,h2,k2⟩
end Go.Proofs.YtpiohnabdhpphaaGreatDoor
namespace Go.Proofs.YtpiohnabdhpphaaGreatDoor
open Go Go.SX Go.SX.Cal Go.Lib
open Go.IntKind (i64)
theorem wu(x:Int):IntKind.u64.wrap x=x%18446744073709551616:=rfl
theorem zJ{v:ac}(h:v.items=[]):qg v=de v:=by
 unfold qg jO
 have hc:¬256<HC v 0:=by unfold HC;split<;>omega
 cases hp:de v
 ·rw[if_pos (.inr rfl)]
 ·rw[if_neg (by simp[hc]),h];rfl
theorem Yz:∀v:ac,ac.mk v.kind v.n v.scale v.s v.items=v
 |⟨_,_,_,_,_⟩=>rfl
theorem V9{s:ByteArray}(h:s.size=0):s=ByteArray.empty:=ByteArray.size_eq_zero_iff.1 h
theorem BI{v:ac}(h:de v=true)(hk:v.kind=1∨v.kind=2∨v.kind=3):v.s=ByteArray.empty∧v.items=[]∧-999999999999999999≤v.n∧v.n≤999999999999999999:=by
 refine⟨?_,oR h (by omega) (by omega),?_⟩
 ·unfold de at h
  rcases hk with hk|hk|hk<;>simp[hk]at h
  ·exact h.2.2.1
  ·exact h.2.2.1
  ·exact h.2.2.1
 ·unfold de at h
  rcases hk with hk|hk|hk<;>simp[hk]at h<;>omega
theorem wx{k n s:Int}:cm ⟨k,n,s,ByteArray.empty,[]⟩<1000000000:=by
 rw[xn];simp only[fj,Kd];omega
theorem UJ{k n sc:Int}(h: -999999999999999999≤n∧n≤999999999999999999)(hp:de ⟨k,n,sc,ByteArray.empty,[]⟩=true):
  (al (nL n) fun r2=>al (rf (bq.mk r2.neg (r2.size.1,r2.size.2.1,r2.size.2.2.1,r2.size.2.2.2)) sc sc) fun r3=>
   al (zh k (bq.mk r3.neg (r3.size.1,r3.size.2.1,r3.size.2.2.1,r3.size.2.2.2)) sc) fun r4=>some r4)=some ⟨k,n,sc,ByteArray.empty,[]⟩:=by
 have hs:∀(b:Bool) (a:Int),rf (bq.mk b (a,0,0,0)) sc sc=some (bq.mk b (a,0,0,0)):=by
  intro b a
  unfold rf iQ
  rw[decide_eq_true (Int.le_refl _),uZ,Int.sub_self,show i64.wrap 0=0 from rfl,sK,cN,decide_eq_false (by omega),jP]
  rfl
 have hm:∀(b:Bool) (a:Int),0≤a→a≤999999999999999999→(if b=true then -a else a)=n→zh k (bq.mk b (a,0,0,0)) sc=some ⟨k,n,sc,ByteArray.empty,[]⟩:=by
  intro b a h0 h1 he
  have hnum:ql (bq.mk b (a,0,0,0))=some (n,true):=by
   unfold ql nM
   simp only[ii]
   rw[show(IntKind.u64.wrap ((BitVec.ofInt IntKind.u64.bits 0 ||| BitVec.ofInt IntKind.u64.bits 0).toNat:Int))=0 from by decide,show(IntKind.u64.wrap ((BitVec.ofInt IntKind.u64.bits 0 ||| BitVec.ofInt IntKind.u64.bits 0).toNat:Int) != 0)=false from by decide,jP,decide_eq_false (by omega),jP,jQ (x:=a) (by omega) (by omega),jQ (by omega) (by omega)]
   cases b
   ·rw[jP,←he];rfl
   ·rw[uZ,←he,Int.zero_sub];rfl
  unfold zh wL
  rw[hnum,ii]
  simp only[Bool.not_true,jP]
  rw[Bb _ wx,ii,zJ rfl,hp]
  rfl
 unfold nL
 by_cases h0:n<0
 ·rw[decide_eq_true h0,uZ,ii]
  simp only
  rw[hs,ii]
  simp only
  rw[hm _ _ (by rw[wu,wu];omega) (by rw[wu,wu];omega) (by rw[if_pos rfl,wu,wu];omega),ii]
 ·rw[decide_eq_false h0,jP,ii]
  simp only
  rw[hs,ii]
  simp only
  rw[hm _ _ (by rw[wu];omega) (by rw[wu];omega) (by rw[if_neg (by decide),wu];omega),ii]
theorem Fm{v:ac}{u:am}(h:de v=true)(hk:v.kind=1∨v.kind=2∨v.kind=3)(hu:u.kind=2∨u.kind=3)(hne:v.kind≠u.kind∨u.kind=3)(hsc:v.scale=u.scale)
  (hp:de ⟨u.kind,v.n,v.scale,ByteArray.empty,[]⟩=true):qZ v u=some ⟨u.kind,v.n,v.scale,ByteArray.empty,[]⟩:=by
 obtain⟨_,_,hn⟩:=BI h hk
 have hj2:pX v u false=some ⟨u.kind,v.n,v.scale,ByteArray.empty,[]⟩:=by
  unfold pX w9
  rw[jP,show(u.kind==4)=false by simp;omega,jP,show(v.kind==4)=false by simp;omega,jP,show(u.kind==1)=false by simp;omega,jP,jP,←hsc]
  exact UJ hn hp
 unfold qZ sV
 rw[show(v.kind==0)=false by simp;omega,jP,show(v.kind==6)=false by simp;omega,jP,show(v.kind==7)=false by simp;omega,jP]
 by_cases he:v.kind=u.kind
 ·rw[show(v.kind==u.kind)=true by simp[he],uZ,show(u.kind != 3)=false by simp;omega,hj2]
 ·rw[show(v.kind==u.kind)=false by simp[he],jP,hj2]
theorem IG{v r:ac}{u:am}(hv:cm v<1000000000)(hr:cm r<1000000000)(h:qZ v u=some r)(hi:v.items=[])(hk7:v.kind≠7)(hp:de v=true)(ht:cW u=some 0)(hc:DX v.kind u.kind=some true)(hri:r.items=[])(hrp:de r=true):
  lA v u=some r:=by
 have hcv:eX aH v u=some true:=by
  rw[sK,eX]
  by_cases h0:v.kind=0
  ·rw[show(v.kind==0)=true by simp[h0],uZ]
  ·rw[show(v.kind==0)=false by simp[h0],jP,hc,ii,Bool.not_true,jP,show(v.kind==7)=false by simp[hk7],jP]
   unfold ny
   rw[jP,sK,nw,hi]
   rfl
 unfold lA qc
 rw[Bb v hv,ii,zJ hi,hp,Bool.not_true,jP,ht,ii,bne_self_eq_false,jP,hcv,ii,Bool.not_true,jP,h,ii,Bb r hr,ii,zJ hri,hrp,Bool.not_true,jP]
def Mz(v:ac)(u:am):ac:=⟨u.kind,v.n,v.scale,v.s,v.items⟩
theorem SL:cW ⟨2,0,[]⟩=some 0:=by
 unfold cW
 rw[sK]
 rfl
theorem TX{k:Int}(h:1≤k∧k≤5):DX k k=some true:=by
 have:k=1∨k=2∨k=3∨k=4∨k=5:=by omega
 rcases this with rfl|rfl|rfl|rfl|rfl<;>rfl
theorem X5{v:ac}(h:de v=true)(h0:v.kind≠0)(h6:v.kind≠6)(h7:v.kind≠7):1≤v.kind∧v.kind≤5:=by
 unfold de at h
 simp only at h
 by_cases h1:v.kind=1
 ·omega
 by_cases h2:v.kind=2
 ·omega
 by_cases h3:v.kind=3
 ·omega
 by_cases h4:v.kind=4
 ·omega
 by_cases h5:v.kind=5
 ·omega
 rw[if_neg h0,if_neg h1,if_neg h2,if_neg h3,if_neg h4,if_neg h5,if_neg h6,if_neg h7]at h
 cases h
theorem HH{v:ac}{u:am}(hp:de v=true)(hs:v.kind=1∨v.kind=2)(hu:u.kind=2∨u.kind=3):de ⟨u.kind,v.n,v.scale,ByteArray.empty,[]⟩=true:=by
 obtain⟨_,_,h1,h2⟩:=BI hp (by omega)
 have h3:=Ad hp (by omega)
 unfold de
 rcases hu with hu|hu<;>simp[hu,h3,h1,h2]
theorem PK{v:ac}{u:am}(hs:v.s=ByteArray.empty)(hi:v.items=[]):Mz v u=⟨u.kind,v.n,v.scale,ByteArray.empty,[]⟩:=by
 unfold Mz;rw[hs,hi]
theorem Pk{v:ac}{t u:am}(hv:cm v<1000000000)(hp:de v=true)(h0:v.kind≠0)(h6:v.kind≠6)(h7:v.kind≠7)(hk:v.kind=t.kind)(h3:v.kind=3→v.scale=t.scale)(hw:Wd t u)(hV:V u)(hc:cW u=some 0):
  ip v u=some (Mz v u)∧de (Mz v u)=true:=by
 have hkl:=X5 hp h0 h6 h7
 have hi:=oR hp h6 h7
 have hcast:∀w,lA v u=some w→(v.kind=1∧u.kind=3→False)→ip v u=some w:=by
  intro w hw hn
  unfold ip mc md
  have hx:ac.mk v.kind v.n v.scale v.s v.items=v:=Yz v
  by_cases h1:v.kind=1
  ·rw[show(v.kind==1)=true by simp[h1],uZ,show(u.kind==3)=false by simp;intro h;exact hn ⟨h1,h⟩,jP,hx,hw,ii]
  ·rw[show(v.kind==1)=false by simp[h1],jP,jP,hx,hw,ii]
 have hnum:(v.kind=1∧u.kind=2)∨(v.kind=2∧u.kind=3∧u.scale=0)→lA v u=some (Mz v u)∧de (Mz v u)=true:=by
  intro h
  have hs:v.scale=u.scale:=by
   rw[Ad hp (by omega)]
   rcases h with h|h
   ·rw[hV.scale (by omega)]
   ·exact h.2.2.symm
  obtain⟨ha,hb,_⟩:=BI hp (by omega)
  have hpp:=HH (u:=u) hp (by omega) (by omega)
  rw[PK ha hb]
  refine⟨IG hv wx (Fm hp (by omega) (by omega) (by omega) hs hpp) hb h7 hp hc ?_ rfl hpp,hpp⟩
  rcases h with⟨h,h'⟩ |⟨h,h',_⟩<;>rw[h,h']<;>rfl
 rcases hw with⟨hw,hw2⟩ |⟨hw,hw2⟩ |⟨hw,hw2,hw3⟩
 ·have hke:v.kind=u.kind:=by omega
  have he:Mz v u=v:=by unfold Mz;rw[←hke];exact Yz v
  rw[he]
  refine⟨hcast v ?_ (by omega),hp⟩
  refine IG hv hv ?_ hi h7 hp hc (by rw[←hke];exact TX hkl) hi hp
  by_cases hk3:u.kind=3
  ·obtain⟨ha,hb,_⟩:=BI hp (by omega)
   have hx:(⟨u.kind,v.n,v.scale,ByteArray.empty,[]⟩:ac)=v:=by rw[←PK ha hb,he]
   rw[Fm (u:=u) hp (by omega) (by omega) (by omega) (by rw[h3 (by omega)];exact hw2) (by rw[hx];exact hp),hx]
  ·unfold qZ sV pX
   rw[show(v.kind==0)=false by simp[h0],jP,show(v.kind==6)=false by simp[h6],jP,show(v.kind==7)=false by simp[h7],jP,show(v.kind==u.kind)=true by simp[hke],uZ,show(u.kind != 3)=true by simp[hk3],uZ]
 ·obtain⟨a,b⟩:=hnum (.inl ⟨by omega,hw2⟩)
  exact⟨hcast _ a (by omega),b⟩
 ·by_cases h1:v.kind=1
  ·obtain⟨ha,hb,_⟩:=BI hp (by omega)
   have hsc:=Ad hp (by omega)
   have hpp:=HH (v:=v) (u:=⟨2,0,[]⟩) hp (by omega) (.inl rfl)
   have hc1:lA v ⟨2,0,[]⟩=some ⟨2,v.n,v.scale,ByteArray.empty,[]⟩:=
    IG hv wx (Fm (u:=⟨2,0,[]⟩) hp (by omega) (.inl rfl) (by left;rw[h1];decide) hsc hpp) hb h7 hp SL (by rw[h1];rfl) rfl hpp
   have hp3:=HH (u:=u) hp (.inl h1) (.inr hw2)
   have hc2:lA ⟨2,v.n,v.scale,ByteArray.empty,[]⟩ u=some ⟨u.kind,v.n,v.scale,ByteArray.empty,[]⟩:=
    IG wx wx (Fm (v:=⟨2,v.n,v.scale,ByteArray.empty,[]⟩) (u:=u) hpp (.inr (.inl rfl)) (.inr hw2) (.inr hw2) (by show v.scale=u.scale;omega) hp3) rfl (show(2:Int)≠7 by decide) hpp hc (by rw[hw2];rfl) rfl hp3
   rw[PK ha hb]
   refine⟨?_,hp3⟩
   unfold ip mc md
   rw[show(v.kind==1)=true by simp[h1],uZ,show(u.kind==3)=true by simp[hw2],uZ,hc1,ii]
   simp only
   rw[hc2,ii]
  ·obtain⟨a,b⟩:=hnum (.inr ⟨by omega,hw2,hw3⟩)
   exact⟨hcast _ a (by omega),b⟩
theorem SR{v:ac}{u:am}(h0:v.kind≠0):tY v u=some (Mz v u):=by
 unfold tY w7
 rw[show(v.kind != 0)=true by simp[h0],uZ]
 rfl
end Go.Proofs.YtpiohnabdhpphaaGreatDoor
namespace Go.Proofs.YtpiohnabdhpphaaGreatDoor
open Go Go.SX Go.SX.Cal
open Go.IntKind (i64)
def BD:ac:=⟨0,0,0,ByteArray.empty,[]⟩
theorem XX{v:ac}(h:Lv v)(h0:v.kind=0):v=BD:=by
 obtain⟨k,n,sc,s,it⟩:=v
 obtain⟨h1,h2,h3⟩:=h.nul h0
 have h4:=h.it
 simp only at h0 h1 h2 h3 h4
 subst h0;subst h1;subst h2;subst h4
 rw[V9 h3];rfl
theorem ZU:Lv BD:=⟨by decide,by decide,rfl,by decide,by decide,fun _=>by decide⟩
theorem S0{u:am}(ht:cW u=some 0):lA BD u=some BD:=by
 have hs:kO BD=some true:=by
  rw[Bb _ (by show cm ⟨0,0,0,ByteArray.empty,[]⟩<_;exact wx),zJ rfl];rfl
 have hcv:eX aH BD u=some true:=by rw[sK,eX];rfl
 have hca:qZ BD u=some BD:=by unfold qZ;rfl
 unfold lA qc
 rw[hs,ii,Bool.not_true,jP,ht,ii,bne_self_eq_false,jP,hcv,ii,Bool.not_true,jP,hca,ii,hs,ii,Bool.not_true,jP]
structure Ty(t:am)(v:ac):Prop where
 sv:cm v<1000000000
 st:jX t<1000000000
 ck:ck t v=0
theorem abZ{t u:am}{v:ac}(h:Ty t v)(hw:WdT t u):∃w,ip v u=some w∧tY v u=some w∧Lv w:=by
 have hl:=BP h.sv h.st hw.l.1 hw.l.2 h.ck
 obtain⟨ht,hS,ho⟩:=RH h.sv h.st h.ck
 by_cases h0:v.kind=0
 ·have hn:=XX hl h0
  subst hn
  refine⟨BD,?_,rfl,ZU⟩
  unfold ip mc md
  rw[show(BD.kind==1)=false by decide,jP,jP]
  have:=S0 hw.c
  unfold BD at this
  show al (lA ⟨0,0,0,ByteArray.empty,[]⟩ u) _=_
  rw[this];rfl
 ·obtain⟨hp,_⟩:=hS.succ
  have hk:v.kind=t.kind∧(v.kind=3→v.scale=t.scale):=by
   rw[JP,if_neg h0]at ho
   by_cases e:v.kind=t.kind
   ·rw[if_neg (fun h=>h e)]at ho
    refine⟨e,fun h3=> ?_⟩
    rw[if_pos h3]at ho
    exact beq_iff_eq.1 ho
   ·rw[if_pos e]at ho;cases ho
  have h6:v.kind≠6:=by rw[hk.1];exact hw.l.1
  have h7:v.kind≠7:=by rw[hk.1];exact hw.l.2
  obtain⟨a,b⟩:=Pk h.sv hp h0 h6 h7 hk.1 hk.2 hw.w hw.b hw.c
  exact⟨_,a,SR h0,NQ b hw.m.1 hw.m.2⟩
theorem acx(l:List Int):oo l=some l:=by
 unfold oo
 rw[gP ⟨by omega,by omega,by omega,by omega⟩]
 simp
end Go.Proofs.YtpiohnabdhpphaaGreatDoor
namespace Go.SX.Cal
open Go Go.SX Go.Lib
open Go.IntKind (i64)
theorem wu{x:Int}:IntKind.u64.wrap x=x%18446744073709551616:=by
 simp only[IntKind.wrap,IntKind.bits,IntKind.signed]
 simp
structure W4(w:bq):Prop where
 a0:0≤w.size.1
 a1:w.size.1<18446744073709551616
 b0:0≤w.size.2.1
 b1:w.size.2.1<18446744073709551616
 c0:0≤w.size.2.2.1
 c1:w.size.2.2.1<18446744073709551616
 d0:0≤w.size.2.2.2
 d1:w.size.2.2.2<18446744073709551616
def val(w:bq):Int:=w.size.1+w.size.2.1*18446744073709551616+w.size.2.2.1*340282366920938463463374607431768211456+w.size.2.2.2*6277101735386680763835789423207666416102355444464034512896
theorem EN{x:Int}(h0:0≤x)(h1:x<18446744073709551616):((BitVec.ofInt (IntKind.u64).bits x &&& BitVec.ofInt (IntKind.u64).bits (4294967295:Int)).toNat:Int)=x%4294967296:=by
 have e:(BitVec.ofInt 64 x).toNat=x.toNat:=by
  rw[BitVec.toNat_ofInt]
  have:x%((2^64:Nat):Int)=x:=by omega
  rw[this]
 have hand:(BitVec.ofInt 64 x &&& BitVec.ofInt 64 (4294967295:Int)).toNat=x.toNat%4294967296:=by
  rw[BitVec.toNat_and,e]
  have:(BitVec.ofInt 64 (4294967295:Int)).toNat=2^32-1:=by decide
  rw[this,Nat.and_two_pow_sub_one_eq_mod]
 show((BitVec.ofInt 64 x &&& BitVec.ofInt 64 (4294967295:Int)).toNat:Int)=_
 rw[hand]
 omega
theorem Ze(x:Int):x.fdiv (2^(min (32:Int).toNat (IntKind.u64).bits))=x/4294967296:=by
 have:(2:Int)^(min (32:Int).toNat (IntKind.u64).bits)=4294967296:=by decide
 rw[this,Int.fdiv_eq_ediv_of_nonneg _ (by decide)]
theorem IQ{x:Int}(h0:0≤x)(h1:x<18446744073709551616):x%18446744073709551616=x:=Int.emod_eq_of_lt h0 h1
theorem prod_bound{a b:Int}(a0:0≤a)(a1:a<4294967296)(b0:0≤b)(b1:b<4294967296):0≤a*b∧a*b≤18446744065119617025:=by
 refine⟨Int.mul_nonneg a0 b0,?_⟩
 have h1:a*b≤4294967295*b:=Int.mul_le_mul_of_nonneg_right (by omega) b0
 omega
theorem rU{x n c:Int}(h0:0≤x)(h1:x<18446744073709551616)(n0:0≤n)(n1:n<18446744073709551616)(c0:0≤c)(c1:c<18446744073709551616):
  (x*n/18446744073709551616+(x*n%18446744073709551616+c)/18446744073709551616)%18446744073709551616=(x*n+c)/18446744073709551616∧(x*n%18446744073709551616+c)%18446744073709551616=(x*n+c)%18446744073709551616∧0≤(x*n+c)/18446744073709551616∧(x*n+c)/18446744073709551616<18446744073709551616:=by
 have hp:0≤x*n:=Int.mul_nonneg h0 n0
 have hq:x*n≤18446744073709551615*n:=Int.mul_le_mul_of_nonneg_right (by omega) n0
 have hq2:(18446744073709551615:Int)*n≤18446744073709551615*18446744073709551615:=Int.mul_le_mul_of_nonneg_left (by omega) (by decide)
 have hb:x*n≤340282366920938463426481119284349108225:=by
  refine Int.le_trans hq (Int.le_trans hq2 (by decide))
 generalize x*n=p at*
 omega
def cj:Nat→Int
 |0=>1
 |k+1=>cj k*10
theorem vC:∀k,1≤cj k
 |0=>by decide
 |k+1=>by have:=vC k;simp only[cj];omega
def c3(a b:Int):Int:=if a<b then -1 else if b<a then 1 else 0
def sv(w:bq):Int:=if w.neg=true then -val w else val w
def xq(w:bq):Prop:=w.size.1=0∧w.size.2.1=0∧w.size.2.2.1=0∧w.size.2.2.2=0
theorem Gp(n m:Bool)(h:¬n=m):(!(n==m))=true∧(!m)=n:=by revert h;cases n<;>cases m<;>simp
def bh:List Int→Int
 |[]=>0
 |d::l=>d+10*bh l
def gg(l:List Int):Prop:=∀d∈l,0≤d∧d≤9
def Fk(l:List Int):Prop:=∀d,l.getLast? =some d→d≠0
theorem iU:∀{l:List Int},gg l→0≤bh l
 |[],_=>by simp[bh]
 |d::l,h=>by
  have h1:=h d (by simp)
  have h2:=iU (l:=l) (fun x hx=>h x (by simp[hx]))
  simp only[bh];omega
theorem p10n:∀n,0<cj n:=fun n=>by have:=vC n;omega
theorem pp:∀{l:List Int},gg l→bh l<cj l.length
 |[],_=>by simp[bh,cj]
 |d::l,h=>by
  have h1:=h d (by simp)
  have h2:=pp (l:=l) (fun x hx=>h x (by simp[hx]))
  simp only[bh,List.length_cons,cj];omega
theorem uw:∀{l:List Int},gg l→Fk l→l≠[]→cj (l.length-1)≤bh l
 |[],_,_,h=>absurd rfl h
 |[d],h,ht,_=>by
  have h1:=h d (by simp)
  have h2:=ht d (by simp)
  simp[bh,cj];omega
 |d::e::l,h,ht,_=>by
  have h1:=h d (by simp)
  have h2:=uw (l:=e::l) (fun x hx=>h x (by simp[hx])) (fun x hx=>ht x (by simpa using hx)) (by simp)
  simp only[List.length_cons]at h2⊢
  rw[show l.length+1+1-1=(l.length+1-1)+1 by omega]
  simp only[cj]
  rw[bh]
  omega
theorem xj{m n:Nat}(h:m≤n):cj m≤cj n:=by
 induction n with
 |zero=>
   have:m=0:=by omega
   subst this;exact Int.le_refl _
 |succ n ih=>
  by_cases e:m=n+1
  ·subst e;exact Int.le_refl _
  ·have h1:=ih (by omega)
   have h2:=p10n n
   simp only[cj];omega
theorem fo:∀(l m:List Int),bh (l++m)=bh l+cj l.length*bh m
 |[],m=>by simp[bh,cj]
 |d::l,m=>by
  simp only[List.cons_append,bh,fo l m,List.length_cons,cj]
  rw[Int.mul_add,←Int.mul_assoc,Int.mul_comm 10 (cj l.length)];omega
theorem wv(k:Nat):bh (List.replicate k 0)=0:=by
 induction k with
 |zero=>rfl
 |succ k ih=>simp[List.replicate_succ,bh,ih]
end Go.SX.Cal
namespace Go.Proofs.YtpiohnabdhpphaaGreatDoor
open Go Go.SX Go.SX.Cal Go.Lib
theorem c3_self(a:Int):c3 a a=0:=by unfold c3;rw[if_neg (by omega),if_neg (by omega)]
theorem Ho{a b:List Int}(ha:gg a)(hb:gg b)(hl:a.length=b.length)(hbig:a.length<1000000):∀(k i:Nat),i≤a.length→i<k→bh (a.drop i)=bh (b.drop i)→
  ∃r,nu a b k ((i:Int)-1)=some r∧-9≤r∧r≤9∧c3 r 0=c3 (bh a) (bh b):=by
 intro k
 induction k with
 |zero=>intro i h1 h2;omega
 |succ k ih=>
  intro i h1 h2 he
  rw[nu]
  cases i with
  |zero=>
   rw[show decide ((0:Int)≤((0:Nat):Int)-1)=false from rfl,ah]
   simp only[List.drop_zero]at he
   exact⟨0,rfl,by omega,by omega,by rw[he,c3_self,c3_self]⟩
  |succ i=>
   have hia:i<a.length:=by omega
   have hib:i<b.length:=by omega
   have e1:((i+1:Nat):Int)-1=(i:Int):=by omega
   have aa:at? a (i:Int)=some a[i]:=by unfold at?;simp[hia]
   have bb:at? b (i:Int)=some b[i]:=by unfold at?;simp[hib]
   rw[e1,show decide ((0:Int)≤(i:Int))=true by simp,ap,aa,bb]
   simp only[az]
   have da:a.drop i=a[i]::a.drop (i+1):=List.drop_eq_getElem_cons hia
   have db:b.drop i=b[i]::b.drop (i+1):=List.drop_eq_getElem_cons hib
   have ra:=ha a[i] (gV hia)
   have rb:=hb b[i] (gV hib)
   by_cases hne:a[i]=b[i]
   ·rw[show(a[i] != b[i])=false by simp[hne],ah,jQ (by omega) (by omega)]
    refine ih i (by omega) (by omega) ?_
    rw[da,db];simp only[bh];omega
   ·rw[show(a[i] != b[i])=true by simp[hne],ap,jQ (by omega) (by omega)]
    refine⟨_,rfl,by omega,by omega,?_⟩
    have va:bh a=bh (a.take i)+cj i*bh (a.drop i):=by
     have:=fo (a.take i) (a.drop i)
     rw[List.take_append_drop,List.length_take,Nat.min_eq_left (by omega)]at this
     exact this
    have vb:bh b=bh (b.take i)+cj i*bh (b.drop i):=by
     have:=fo (b.take i) (b.drop i)
     rw[List.take_append_drop,List.length_take,Nat.min_eq_left (by omega)]at this
     exact this
    have la:=pp (l:=a.take i) (fun x hx=>ha x (List.mem_of_mem_take hx))
    have lb:=pp (l:=b.take i) (fun x hx=>hb x (List.mem_of_mem_take hx))
    have na:=iU (l:=a.take i) (fun x hx=>ha x (List.mem_of_mem_take hx))
    have nb:=iU (l:=b.take i) (fun x hx=>hb x (List.mem_of_mem_take hx))
    rw[List.length_take,Nat.min_eq_left (by omega)]at la lb
    rw[da]at va;rw[db]at vb
    simp only[bh]at va vb
    have hp:=p10n i
    have key:cj i*(a[i]+10*bh (a.drop (i+1)))-cj i*(b[i]+10*bh (b.drop (i+1)))=cj i*(a[i]-b[i]):=by
     rw[←Int.mul_sub,he];congr 1;omega
    unfold c3
    rcases Int.lt_or_gt_of_ne hne with hlt|hgt
    ·have:cj i*(a[i]-b[i])≤cj i*(-1):=Int.mul_le_mul_of_nonneg_left (by omega) (by omega)
     rw[if_pos (by omega),if_pos (by omega)]
    ·have:cj i*1≤cj i*(a[i]-b[i]):=Int.mul_le_mul_of_nonneg_left (by omega) (by omega)
     rw[if_neg (by omega),if_pos (by omega),if_neg (by omega),if_pos (by omega)]
theorem LT{a b:List Int}(ha:gg a)(hb:gg b)(ta:Fk a)(tb:Fk b)(la:a.length<1000)(lb:b.length<1000):∃r,wH a b=some r∧-1000≤r∧r≤1000∧c3 r 0=c3 (bh a) (bh b):=by
 unfold wH
 by_cases hl:a.length=b.length
 ·rw[show((a.length:Int) != (b.length:Int))=false by simp[hl],ah,jQ (by omega) (by omega)]
  obtain⟨r,h1,h2,h3,h4⟩:=Ho ha hb hl (by omega) aH a.length (iD _) (by rw[aJ];omega) (by rw[List.drop_length,hl,List.drop_length])
  exact⟨r,h1,by omega,by omega,h4⟩
 ·have hne:((a.length:Int) != (b.length:Int))=true:=by simp;omega
  rw[hne,ap,jQ (by omega) (by omega)]
  refine⟨_,rfl,by omega,by omega,?_⟩
  have l1:=pp ha
  have l2:=pp hb
  rcases Nat.lt_or_gt_of_ne hl with h|h
  ·have g:=uw hb tb (by rintro rfl;simp at h)
   have:=xj (show a.length≤b.length-1 by omega)
   unfold c3;rw[if_pos (by omega),if_pos (by omega)]
  ·have g:=uw ha ta (by rintro rfl;simp at h)
   have:=xj (show b.length≤a.length-1 by omega)
   unfold c3;rw[if_neg (by omega),if_pos (by omega),if_neg (by omega),if_pos (by omega)]
structure RW(r:cU)(n:Int):Prop where
 dg:gg r.d
 tp:Fk r.d
 ln:r.d.length<100
 vl:(if r.below=true then -bh r.d else bh r.d)=n
 bl:r.below=true→0<bh r.d
theorem F5:gg []:=fun _ h=>by cases h
theorem Me:Fk []:=fun _ h=>by cases h
theorem DW{l:List Int}{x:Int}(h:gg l)(h0:0≤x)(h1:x≤9):gg (l++[x]):=by
 intro d hd
 rcases List.mem_append.1 hd with hd|hd
 ·exact h d hd
 ·simp at hd;subst hd;exact⟨h0,h1⟩
theorem MJ{l:List Int}{x:Int}(h:gg (l++[x])):gg l∧0≤x∧x≤9:=
 ⟨fun d hd=>h d (List.mem_append.2 (.inl hd)),h x (by simp)⟩
theorem O4{l:List Int}{x:Int}(h:x≠0):Fk (l++[x]):=by
 intro d hd
 simp at hd
 subst hd;exact h
theorem Tl{l:List Int}{x:Int}(h:gg l)(h0:0≤x)(h1:x≤9):gg (x::l):=by
 intro d hd
 rcases List.mem_cons.1 hd with rfl|hd
 ·exact⟨h0,h1⟩
 ·exact h d hd
theorem VA(b:Bool):∀(k:Nat) (d:List Int),d.length<k→d.length<1000000→gg d→
  ∃d',nC b k d=some ⟨b&&decide (0<d'.length),d'⟩∧gg d'∧Fk d'∧bh d'=bh d∧d'.length≤d.length:=by
 intro k
 induction k with
 |zero=>intro d h;omega
 |succ k ih=>
  intro d hk hl hd
  rw[nC]
  have fin:∀x:List Int,uc (nC b k) b x false=some ⟨b&&decide (0<x.length),x⟩:=by
   intro x
   unfold uc Dn Ah
   cases b<;>simp[aC]
  rcases List.eq_nil_or_concat d with rfl|⟨l,x,rfl⟩
  ·rw[show decide ((0:Int)<(([]:List Int).length:Int))=false from rfl,ah,fin]
   exact⟨[],rfl,F5,Me,rfl,iD _⟩
  ·rw[List.concat_eq_append]at*
   have hlen:(l++[x]).length=l.length+1:=by simp
   have e1:IntKind.i64.wrap (((l++[x]).length:Int)-1)=(l.length:Int):=by rw[hlen,jQ (by omega) (by omega)];omega
   have e2:at? (l++[x]) (l.length:Int)=some x:=by unfold at?;simp
   obtain⟨dl,x0,x9⟩:=MJ hd
   rw[show decide ((0:Int)<((l++[x]).length:Int))=true by simp,ap,e1,e2,ax]
   by_cases hx:x=0
   ·subst hx
    rw[show((0:Int)==0)=true from rfl]
    unfold uc
    rw[ap,e1]
    unfold gX
    rw[if_pos (by omega)]
    have e3:((l++[(0:Int)]).drop (0:Int).toNat).take ((l.length:Int).toNat-(0:Int).toNat)=l:=by simp
    rw[e3]
    obtain⟨d',h1,h2,h3,h4,h5⟩:=ih l (by omega) (by omega) dl
    refine⟨d',h1,h2,h3,?_,by omega⟩
    rw[h4,fo];simp[bh]
   ·rw[show(x==0)=false by simp[hx],fin]
    exact⟨_,rfl,hd,O4 hx,rfl,iD _⟩
theorem PP(b:Bool)(d:List Int)(hl:d.length<1000000)(hd:gg d):
  ∃d',sS b d=some ⟨b&&decide (0<d'.length),d'⟩∧gg d'∧Fk d'∧bh d'=bh d∧d'.length≤d.length:=by
 unfold sS
 exact VA b aH d (by rw[aJ];omega) hl hd
def rl(a:List Int)(i:Nat):Int:=a.getD i 0
theorem EL{a:List Int}{i:Nat}(h:i<a.length):a[i]=rl a i:=by simp[rl,h]
theorem B1{a:List Int}{i:Nat}(h:a.length≤i):rl a i=0:=by simp[rl,h]
theorem uf{a:List Int}(ha:gg a)(i:Nat):0≤rl a i∧rl a i≤9:=by
 by_cases h:i<a.length
 ·rw[←EL h];exact ha _ (gV h)
 ·rw[B1 (by omega)];omega
theorem QZ{a:List Int}(ta:Fk a){i:Nat}(h:i+1=a.length):rl a i≠0:=by
 have hi:i<a.length:=by omega
 rw[←EL hi]
 refine ta _ ?_
 rw[List.getLast?_eq_getElem?,show a.length-1=i by omega,dJ hi]
theorem BN(a:List Int)(i:Nat):bh (a.take (i+1))=bh (a.take i)+cj i*rl a i:=by
 by_cases h:i<a.length
 ·rw[List.take_succ_eq_append_getElem h,fo,List.length_take,Nat.min_eq_left (by omega),EL h]
  simp[bh]
 ·rw[B1 (by omega),List.take_of_length_le (by omega),List.take_of_length_le (by omega)];simp
theorem UE{n:Int}(h0:0≤n):n.tdiv 10=n/10:=Int.tdiv_eq_ediv_of_nonneg h0
theorem UU{n:Int}(h0:0≤n):n.tmod 10=n%10:=Int.tmod_eq_emod_of_nonneg h0
theorem Tt{a b:List Int}(ha:gg a)(hb:gg b)(la:a.length<1000000)(lb:b.length<1000000)(k i:Nat)(l:List Int)(c:Int)(hl:l.length=i)(hi:i<1000002)(c0:0≤c)(c1:c≤1)
  (hc:i<a.length∨i<b.length∨0<c):
  df a b (k+1) l c (i:Int)=df a b k (l++[(c+rl a i+rl b i)%10]) ((c+rl a i+rl b i)/10) ((i+1:Nat):Int):=by
 obtain⟨a0,a9⟩:=uf ha i
 obtain⟨b0,b9⟩:=uf hb i
 have j3:∀n:Int,n=c+rl a i+rl b i→vS (df a b k) l (i:Int) n=df a b k (l++[(c+rl a i+rl b i)%10]) ((c+rl a i+rl b i)/10) ((i+1:Nat):Int):=by
  rintro n rfl
  unfold vS gX
  rw[if_pos (by omega),UE (by omega),UU (by omega),jQ (x:=(c+rl a i+rl b i)/10) (by omega) (by omega),jQ (by omega) (by omega),show(i:Int)+1=((i+1:Nat):Int) by omega]
 have j2:vt (df a b k) b l (i:Int) (c+rl a i)=df a b k (l++[(c+rl a i+rl b i)%10]) ((c+rl a i+rl b i)/10) ((i+1:Nat):Int):=by
  unfold vt
  by_cases h:i<b.length
  ·rw[aV h,ap,aD h,ax,EL h,jQ (by omega) (by omega)]
   exact j3 _ rfl
  ·rw[show decide ((i:Int)<(b.length:Int))=false by simp;omega,ah]
   exact j3 _ (by rw[B1 (a:=b) (by omega)];omega)
 have j1:si (df a b k) a b l c (i:Int) true=df a b k (l++[(c+rl a i+rl b i)%10]) ((c+rl a i+rl b i)/10) ((i+1:Nat):Int):=by
  unfold si
  rw[ap]
  by_cases h:i<a.length
  ·rw[aV h,ap,aD h,ax,EL h,jQ (by omega) (by omega)]
   exact j2
  ·rw[show decide ((i:Int)<(a.length:Int))=false by simp;omega,ah]
   have e:c+rl a i=c:=by rw[B1 (by omega)];omega
   rw[e]at j2⊢
   exact j2
 rw[df]
 by_cases h:i<a.length
 ·rw[aV h,ap];exact j1
 ·rw[show decide ((i:Int)<(a.length:Int))=false by simp;omega,ah]
  by_cases h':i<b.length
  ·rw[aV h',ap];exact j1
  ·rw[show decide ((i:Int)<(b.length:Int))=false by simp;omega,ah,show decide ((0:Int)<c)=true by simp;omega];exact j1
theorem Tx{a b:List Int}(ha:gg a)(hb:gg b)(ta:Fk a)(tb:Fk b)(la:a.length<1000)(lb:b.length<1000):∀(k i:Nat) (l:List Int) (c:Int),
  l.length=i→gg l→0≤c→c≤1→i≤max a.length b.length+1→(i=max a.length b.length+1→c=0)→max a.length b.length+1-i<k→
  bh l+cj i*c=bh (a.take i)+bh (b.take i)→(i<a.length∨i<b.length∨0<c∨Fk l)→
  ∃r,df a b k l c (i:Int)=some r∧gg r∧Fk r∧bh r=bh a+bh b∧r.length≤max a.length b.length+1:=by
 intro k
 induction k with
 |zero=>intro i l c _ _ _ _ _ _ h;omega
 |succ k ih=>
  intro i l c hl dl c0 c1 hi hlast hk hv ht
  by_cases hc:i<a.length∨i<b.length∨0<c
  ·rw[Tt ha hb (by omega) (by omega) k i l c hl (by omega) c0 c1 hc]
   obtain⟨a0,a9⟩:=uf ha i
   obtain⟨b0,b9⟩:=uf hb i
   have hi':i≤max a.length b.length:=by
    by_cases e:i=max a.length b.length+1
    ·have:=hlast e;omega
    ·omega
   refine ih (i+1) _ _ (by simp[hl]) (DW dl (by omega) (by omega)) (by omega) (by omega) (by omega) (fun e=> ?_) (by omega) ?_ ?_
   ·have e1:rl a i=0:=B1 (by omega)
    have e2:rl b i=0:=B1 (by omega)
    omega
   ·rw[BN,BN,fo,hl]
    simp only[bh,cj]
    have e:cj i*((c+rl a i+rl b i)%10+10*0)+cj i*10*((c+rl a i+rl b i)/10)=cj i*(c+rl a i+rl b i):=by
     rw[Int.mul_assoc,←Int.mul_add];congr 1;omega
    have e2:cj i*(c+rl a i+rl b i)=cj i*c+cj i*rl a i+cj i*rl b i:=by rw[Int.mul_add,Int.mul_add]
    omega
   ·by_cases h1:i+1<a.length∨i+1<b.length∨0<(c+rl a i+rl b i)/10
    ·rcases h1 with h1|h1|h1
     ·exact .inl h1
     ·exact .inr (.inl h1)
     ·exact .inr (.inr (.inl h1))
    ·refine .inr (.inr (.inr (O4 ?_)))
     rcases hc with hc|hc|hc
     ·have:=QZ ta (i:=i) (by omega);omega
     ·have:=QZ tb (i:=i) (by omega);omega
     ·omega
  ·have hc0:c=0:=by omega
   subst hc0
   rw[df,show decide ((i:Int)<(a.length:Int))=false by simp;omega,show decide ((i:Int)<(b.length:Int))=false by simp;omega,ah,ah]
   refine⟨l,rfl,dl,?_,?_,by omega⟩
   ·rcases ht with h|h|h|h
    ·omega
    ·omega
    ·omega
    ·exact h
   ·rw[List.take_of_length_le (by omega),List.take_of_length_le (by omega)]at hv
    simpa using hv
theorem Xk{a b:List Int}(ha:gg a)(hb:gg b)(ta:Fk a)(tb:Fk b)(la:a.length<1000)(lb:b.length<1000):
  ∃r,D1 a b=some r∧gg r∧Fk r∧bh r=bh a+bh b∧r.length≤max a.length b.length+1:=by
 unfold D1
 exact Tx ha hb ta tb la lb aH 0 [] 0 rfl F5 (by omega) (by omega) (by omega) (fun _=>rfl) (by rw[aJ];omega) (by simp[bh]) (.inr (.inr (.inr Me)))
theorem bf{β:Type}{p:Prop}[Decidable p]{x:Option β}(h:p):gX p x=x:=if_pos h
def ab(n:Int):Int:=if n<0 then -n else n
theorem Km{l:List Int}{x:Int}(h:gg l)(hx:0≤x∧x≤9):gg (l++[x]):=by
 intro d hd
 rcases List.mem_append.1 hd with h1|h1
 ·exact h d h1
 ·simp at h1;subst h1;exact hx
theorem Dm{n:Int}(hn0: -9223372036854775808≤n)(hn1:n≤9223372036854775807):∀(k:Nat) (l:List Int) (m:Int),l.length≤19→19-l.length<k→gg l→(m=0→Fk l)→ab m<cj (19-l.length)→-9223372036854775808≤m→m≤9223372036854775807→ab n=bh l+cj l.length*ab m→
  ∃d,cM n k l m=some ⟨decide (n<0),d⟩∧gg d∧Fk d∧d.length≤19∧bh d=ab n:=by
 intro k
 induction k with
 |zero=>intro l m h1 h2;omega
 |succ k ih=>
  intro l m hl hk hd ht hm m0 m1 hv
  rw[cM]
  by_cases h0:m=0
  ·subst h0
   rw[show((0:Int) != 0)=false from rfl,ah]
   exact⟨l,rfl,hd,ht rfl,hl,by simp[ab]at hv⊢;omega⟩
  ·have hlen:l.length<19:=by
    apply Classical.byContradiction
    intro hn
    have:l.length=19:=by omega
    rw[this]at hm
    simp only[Nat.sub_self,cj]at hm
    unfold ab at hm;split at hm<;>omega
   rw[show(m != 0)=true by simp[h0],ap]
   have hq:m.tdiv 10=if m<0 then -((-m)/10)else m/10:=by
    by_cases hneg:m<0
    ·rw[if_pos hneg]
     have:m= -(-m):=by omega
     rw[this,Int.neg_tdiv,Int.neg_neg,Int.tdiv_eq_ediv_of_nonneg (by omega)]
    ·rw[if_neg hneg,Int.tdiv_eq_ediv_of_nonneg (by omega)]
   have hr:m.tmod 10=if m<0 then -((-m)%10)else m%10:=by
    by_cases hneg:m<0
    ·rw[if_pos hneg]
     have:m= -(-m):=by omega
     rw[this,Int.neg_tmod,Int.neg_neg,Int.tmod_eq_emod_of_nonneg (by omega)]
    ·rw[if_neg hneg,Int.tmod_eq_emod_of_nonneg (by omega)]
   have step:∀x,x=ab m%10→mG (cM n k) l m x=cM n k (l++[ab m%10]) (m.tdiv 10):=by
    intro x hx
    unfold mG
    rw[bf (by omega),hx,jQ (by rw[hq];split<;>omega) (by rw[hq];split<;>omega)]
   have hgo:cM n k (l++[ab m%10]) (m.tdiv 10)=cM n k (l++[ab m%10]) (m.tdiv 10):=rfl
   have habq:ab (m.tdiv 10)=ab m/10:=by
    rw[hq];unfold ab
    by_cases hneg:m<0
    ·simp only[hneg,if_true];split<;>omega
    ·simp only[hneg,if_false];split<;>omega
   have hab0:0≤ab m:=by unfold ab;split<;>omega
   have hp:cj (19-l.length)=cj (19-(l++[ab m%10]).length)*10:=by
    rw[show 19-l.length=(19-(l++[ab m%10]).length)+1 by simp;omega];rfl
   have nxt:=ih (l++[ab m%10]) (m.tdiv 10) (by simp;omega) (by simp;omega) (Km hd (by omega)) (fun hz=>by
     intro d hdl
     simp at hdl
     subst hdl
     have h1:ab m/10=0:=by rw[←habq,hz];rfl
     have h2:ab m≠0:=by unfold ab;split<;>omega
     omega) (by rw[habq];rw[hp]at hm;omega) (by rw[hq];split<;>omega) (by rw[hq];split<;>omega) (by
     rw[fo,List.length_append,List.length_singleton,habq,hv]
     simp only[bh,cj]
     have e:ab m=ab m%10+10*(ab m/10):=by omega
     have e2:cj l.length*ab m=cj l.length*(ab m%10)+cj l.length*10*(ab m/10):=by
      rw[Int.mul_assoc,←Int.mul_add,←e]
     rw[e2];simp only[Int.mul_zero,Int.add_zero];omega)
   by_cases hneg:m.tmod 10<0
   ·rw[show decide (m.tmod 10<0)=true by simpa using hneg,ap]
    have hx:IntKind.i64.wrap (0-m.tmod 10)=ab m%10:=by
     rw[jQ (by rw[hr];split<;>omega) (by rw[hr];split<;>omega)]
     rw[hr]at hneg⊢
     unfold ab
     by_cases h:m<0
     ·simp only[h,if_true];omega
     ·simp only[h,if_false]at hneg;omega
    rw[step _ hx];exact nxt
   ·rw[show decide (m.tmod 10<0)=false by simpa using hneg,ah]
    have hx:m.tmod 10=ab m%10:=by
     rw[hr]at hneg⊢
     unfold ab
     by_cases h:m<0
     ·simp only[h,if_true]at hneg⊢;omega
     ·simp only[h,if_false]
    rw[step _ hx];exact nxt
theorem Qq{a b:List Int}(ha:gg a)(hb:gg b)(la:a.length<1000000)(k i:Nat)(l:List Int)(c:Int)(hl:l.length=i)(c0:0≤c)(c1:c≤1)(hi:i<a.length):
  dY a b (k+1) l c (i:Int)=if rl a i-c-rl b i<0 then dY a b k (l++[rl a i-c-rl b i+10]) 1 ((i+1:Nat):Int)else dY a b k (l++[rl a i-c-rl b i]) 0 ((i+1:Nat):Int):=by
 obtain⟨a0,a9⟩:=uf ha i
 obtain⟨b0,b9⟩:=uf hb i
 have j1:∀n:Int,n=rl a i-c-rl b i→sZ (dY a b k) l (i:Int) n=if rl a i-c-rl b i<0 then dY a b k (l++[rl a i-c-rl b i+10]) 1 ((i+1:Nat):Int)else dY a b k (l++[rl a i-c-rl b i]) 0 ((i+1:Nat):Int):=by
  rintro n rfl
  unfold sZ w8
  rw[bf (by omega),bf (by omega),jQ (x:=(i:Int)+1) (by omega) (by omega),show(i:Int)+1=((i+1:Nat):Int) by omega]
  by_cases h:rl a i-c-rl b i<0
  ·rw[show decide (rl a i-c-rl b i<0)=true by simpa using h,ap,if_pos h,jQ (by omega) (by omega)]
  ·rw[show decide (rl a i-c-rl b i<0)=false by simpa using h,ah,if_neg h]
 rw[dY,aV hi,ap,aD hi,ax,EL hi,jQ (x:=rl a i-c) (by omega) (by omega)]
 by_cases h:i<b.length
 ·rw[aV h,ap,aD h,ax,EL h,jQ (by omega) (by omega)]
  exact j1 _ rfl
 ·rw[show decide ((i:Int)<(b.length:Int))=false by simp;omega,ah]
  exact j1 _ (by rw[B1 (a:=b) (by omega)];omega)
theorem Qv{a b:List Int}(ha:gg a)(hb:gg b)(la:a.length<1000)(lb:b.length≤a.length)(hab:bh b≤bh a):∀(k i:Nat) (l:List Int) (c:Int),
  l.length=i→gg l→0≤c→c≤1→i≤a.length→a.length-i<k→bh l=bh (a.take i)-bh (b.take i)+cj i*c→
  ∃r,dY a b k l c (i:Int)=some r∧gg r∧Fk r∧bh r=bh a-bh b∧r.length≤a.length:=by
 intro k
 induction k with
 |zero=>intro i l c _ _ _ _ _ h;omega
 |succ k ih=>
  intro i l c hl dl c0 c1 hi hk hv
  by_cases he:i=a.length
  ·subst he
   rw[dY,show decide ((a.length:Int)<(a.length:Int))=false by simp,ah]
   unfold AN
   rw[List.take_of_length_le (iD _),List.take_of_length_le lb]at hv
   have hlt:=pp dl
   rw[hl]at hlt
   have hc:c=0:=by
    by_cases h:c=0
    ·exact h
    ·have:c=1:=by omega
     subst this
     omega
   subst hc
   obtain⟨d',h1,h2,h3,h4,h5⟩:=PP false l (by omega) dl
   rw[h1,ax]
   exact⟨d',rfl,h2,h3,by rw[h4,hv];omega,by omega⟩
  ·obtain⟨a0,a9⟩:=uf ha i
   obtain⟨b0,b9⟩:=uf hb i
   rw[Qq ha hb (by omega) k i l c hl c0 c1 (by omega)]
   have hp:cj i*(rl a i-c-rl b i)=cj i*rl a i-cj i*c-cj i*rl b i:=by rw[Int.mul_sub,Int.mul_sub]
   by_cases h:rl a i-c-rl b i<0
   ·rw[if_pos h]
    refine ih (i+1) _ 1 (by simp[hl]) (DW dl (by omega) (by omega)) (by omega) (by omega) (by omega) (by omega) ?_
    rw[BN,BN,fo,hl]
    simp only[bh,cj]
    rw[Int.mul_add,Int.mul_add,hp];omega
   ·rw[if_neg h]
    refine ih (i+1) _ 0 (by simp[hl]) (DW dl (by omega) (by omega)) (by omega) (by omega) (by omega) (by omega) ?_
    rw[BN,BN,fo,hl]
    simp only[bh,cj]
    rw[Int.mul_add,hp];omega
theorem ZW{a b:List Int}(ha:gg a)(hb:gg b)(tb:Fk b)(hab:bh b≤bh a):b.length≤a.length:=by
 by_cases h:b.length≤a.length
 ·exact h
 ·have h1:=pp ha
  have h2:=uw hb tb (by rintro rfl;simp at h)
  have:=xj (show a.length≤b.length-1 by omega)
  omega
theorem Oo{a b:List Int}(ha:gg a)(hb:gg b)(tb:Fk b)(la:a.length<1000)(hab:bh b≤bh a):
  ∃r,yS a b=some r∧gg r∧Fk r∧bh r=bh a-bh b∧r.length≤a.length:=by
 unfold yS
 exact Qv ha hb la (ZW ha hb tb hab) hab aH 0 [] 0 rfl F5 (by omega) (by omega) (by omega) (by rw[aJ];omega) (by simp[bh])
end Go.Proofs.YtpiohnabdhpphaaGreatDoor
namespace Go.Proofs.YtpiohnabdhpphaaGreatDoor
open Go Go.SX Go.SX.Cal
theorem Mr(p11 cj p01 p00:Int)(h11:0≤p11∧p11≤18446744065119617025)(h10:0≤cj∧cj≤18446744065119617025)(h01:0≤p01∧p01≤18446744065119617025)(h00:0≤p00∧p00≤18446744065119617025):
  p11+(cj+p00/4294967296)/4294967296+((cj+p00/4294967296)%4294967296+p01)/4294967296=(p11*18446744073709551616+(cj+p01)*4294967296+p00)/18446744073709551616:=by
 omega
theorem Ct{x y:Int}(h0:0≤x)(h1:x<18446744073709551616)(k0:0≤y)(k1:y<18446744073709551616):iE x y=some (x*y/18446744073709551616,x*y%18446744073709551616):=by
 unfold iE
 simp only[az,Ze]
 rw[EN h0 h1,EN k0 k1]
 simp only[wu]
 have hx0:0≤x%4294967296∧x%4294967296<4294967296:=by omega
 have hx1:0≤x/4294967296∧x/4294967296<4294967296:=by omega
 have hy0:0≤y%4294967296∧y%4294967296<4294967296:=by omega
 have hy1:0≤y/4294967296∧y/4294967296<4294967296:=by omega
 have ex:x=x/4294967296*4294967296+x%4294967296:=by omega
 have ey:y=y/4294967296*4294967296+y%4294967296:=by omega
 have exy:x*y=(x/4294967296*(y/4294967296))*18446744073709551616+(x/4294967296*(y%4294967296)+x%4294967296*(y/4294967296))*4294967296+x%4294967296*(y%4294967296):=by
  generalize x/4294967296=x1 at*
  generalize x%4294967296=x0 at*
  generalize y/4294967296=y1 at*
  generalize y%4294967296=y0 at*
  rw[ex,ey]
  simp only[Int.add_mul,Int.mul_add]
  have e1:x1*4294967296*(y1*4294967296)=x1*y1*18446744073709551616:=by
   rw[Int.mul_assoc,Int.mul_left_comm 4294967296 y1,←Int.mul_assoc];rfl
  have e2:x1*4294967296*y0=x1*y0*4294967296:=by rw[Int.mul_assoc,Int.mul_comm 4294967296,←Int.mul_assoc]
  have e3:x0*(y1*4294967296)=x0*y1*4294967296:=by rw[Int.mul_assoc]
  rw[e1,e2,e3];omega
 have b11:=Go.SX.Cal.prod_bound hx1.1 hx1.2 hy1.1 hy1.2
 have b10:=Go.SX.Cal.prod_bound hx1.1 hx1.2 hy0.1 hy0.2
 have b01:=Go.SX.Cal.prod_bound hx0.1 hx0.2 hy1.1 hy1.2
 have b00:=Go.SX.Cal.prod_bound hx0.1 hx0.2 hy0.1 hy0.2
 rw[IQ (x:=x%4294967296) (by omega) (by omega),IQ (x:=y%4294967296) (by omega) (by omega)]
 have L:=Mr _ _ _ _ b11 b10 b01 b00
 rw[exy]
 generalize x/4294967296*(y/4294967296)=p11 at*
 generalize x/4294967296*(y%4294967296)=cj at*
 generalize x%4294967296*(y/4294967296)=p01 at*
 generalize x%4294967296*(y%4294967296)=p00 at*
 rw[IQ (x:=cj) (by omega) (by omega),IQ (x:=p00) (by omega) (by omega),IQ (x:=p01) (by omega) (by omega),IQ (x:=p11) (by omega) (by omega),IQ (x:=cj+p00/4294967296) (by omega) (by omega)]
 rw[EN (x:=cj+p00/4294967296) (by omega) (by omega)]
 rw[IQ (x:=(cj+p00/4294967296)%4294967296) (by omega) (by omega),IQ (x:=(cj+p00/4294967296)%4294967296+p01) (by omega) (by omega)]
 rw[IQ (x:=p11+(cj+p00/4294967296)/4294967296) (by omega) (by omega),IQ (x:=p11+(cj+p00/4294967296)/4294967296+((cj+p00/4294967296)%4294967296+p01)/4294967296) (by omega) (by omega),L]
theorem Ja{w:bq}{n:Int}(h:W4 w)(n0:0≤n)(n1:n<18446744073709551616)(hv:val w*n<115792089237316195423570985008687907853269984665640564039457584007913129639936):
  ∃w',dk w n=some w'∧W4 w'∧val w'=val w*n∧w'.neg=w.neg:=by
 obtain⟨neg,x0,x1,x2,x3⟩:=w
 obtain⟨a0,a1,b0,b1,c0,c1,d0,d1⟩:=h
 simp only at a0 a1 b0 b1 c0 c1 d0 d1
 unfold dk
 simp only
 rw[Ct a0 a1 n0 n1,Ct b0 b1 n0 n1,Ct c0 c1 n0 n1,Ct d0 d1 n0 n1]
 simp only[az,wu]
 have hval:val ⟨neg,x0,x1,x2,x3⟩*n=x0*n+x1*n*18446744073709551616+x2*n*340282366920938463463374607431768211456+x3*n*6277101735386680763835789423207666416102355444464034512896:=by
  unfold val
  simp only[Int.add_mul]
  rw[Int.mul_right_comm x1,Int.mul_right_comm x2,Int.mul_right_comm x3]
 rw[hval]at hv⊢
 obtain⟨p1,p2,p3,p4⟩:=rU (c:=0) a0 a1 n0 n1 (by decide) (by decide)
 simp only[Int.add_zero]at p1 p2 p3 p4⊢
 rw[p1,p2]
 generalize hc1:x0*n/18446744073709551616=k1 at*
 obtain⟨q1,q2,q3,q4⟩:=rU (c:=k1) b0 b1 n0 n1 p3 p4
 rw[q1,q2]
 generalize hc2:(x1*n+k1)/18446744073709551616=k2 at*
 obtain⟨r1,r2,r3,r4⟩:=rU (c:=k2) c0 c1 n0 n1 q3 q4
 rw[r1,r2]
 generalize hc3:(x2*n+k2)/18446744073709551616=k3 at*
 obtain⟨s1,s2,s3,s4⟩:=rU (c:=k3) d0 d1 n0 n1 r3 r4
 rw[s2]
 have e0:=Int.mul_nonneg a0 n0
 have e1:=Int.mul_nonneg b0 n0
 have e2:=Int.mul_nonneg c0 n0
 have e3:=Int.mul_nonneg d0 n0
 clear p1 p2 q1 q2 r1 r2 s1 s2
 generalize x0*n=P0 at*
 generalize x1*n=P1 at*
 generalize x2*n=P2 at*
 generalize x3*n=P3 at*
 rw[bf (by omega),bf (by omega),bf (by omega),bf (by omega)]
 refine⟨_,rfl,⟨by simp only;omega,by simp only;omega,by simp only;omega,by simp only;omega,by simp only;omega,by simp only;omega,by simp only;omega,by simp only;omega⟩,?_,rfl⟩
 simp only[val]
 have f0:P0=k1*18446744073709551616+P0%18446744073709551616:=by omega
 have f1:P1+k1=k2*18446744073709551616+(P1+k1)%18446744073709551616:=by omega
 have f2:P2+k2=k3*18446744073709551616+(P2+k2)%18446744073709551616:=by omega
 have f3:P3+k3=(P3+k3)/18446744073709551616*18446744073709551616+(P3+k3)%18446744073709551616:=by omega
 have z:(P3+k3)/18446744073709551616=0:=by
  generalize P0%18446744073709551616=m0 at*
  generalize (P1+k1)%18446744073709551616=m1 at*
  generalize (P2+k2)%18446744073709551616=m2 at*
  omega
 rw[z]at f3
 generalize P0%18446744073709551616=m0 at*
 generalize (P1+k1)%18446744073709551616=m1 at*
 generalize (P2+k2)%18446744073709551616=m2 at*
 generalize (P3+k3)%18446744073709551616=m3 at*
 omega
theorem Jv{a b:bq}(ha:W4 a)(hb:W4 b):hU a b=some (c3 (val a) (val b)):=by
 obtain⟨n,x0,x1,x2,x3⟩:=a
 obtain⟨m,y0,y1,y2,y3⟩:=b
 obtain⟨a0,a1,b0,b1,c0,c1,d0,d1⟩:=ha
 obtain⟨e0,e1,f0,f1,g0,g1,h0,h1⟩:=hb
 simp only at*
 unfold hU
 simp only[aC,decide_eq_true_eq]
 unfold c3 val
 simp only
 by_cases q3:x3<y3
 ·rw[if_pos q3,if_pos (by omega)]
 rw[if_neg q3]
 by_cases q3':y3<x3
 ·rw[if_pos q3',if_neg (by omega),if_pos (by omega)]
 rw[if_neg q3']
 by_cases q2:x2<y2
 ·rw[if_pos q2,if_pos (by omega)]
 rw[if_neg q2]
 by_cases q2':y2<x2
 ·rw[if_pos q2',if_neg (by omega),if_pos (by omega)]
 rw[if_neg q2']
 by_cases q1:x1<y1
 ·rw[if_pos q1,if_pos (by omega)]
 rw[if_neg q1]
 by_cases q1':y1<x1
 ·rw[if_pos q1',if_neg (by omega),if_pos (by omega)]
 rw[if_neg q1']
 by_cases q0:x0<y0
 ·rw[if_pos q0,if_pos (by omega)]
 rw[if_neg q0]
 by_cases q0':y0<x0
 ·rw[if_pos q0',if_neg (by omega),if_pos (by omega)]
 rw[if_neg q0',if_neg (by omega),if_neg (by omega)]
def wd(A j:Nat):Nat:=A/2^(64*j)%2^64
def um(s:Bool)(A:Nat):bq:=⟨s,(wd A 0:Int),(wd A 1:Int),(wd A 2:Int),(wd A 3:Int)⟩
theorem H6(w:bq):bq.mk w.neg (w.size.1,w.size.2.1,w.size.2.2.1,w.size.2.2.2)=w:=rfl
theorem wd0(A:Nat):wd A 0=A%18446744073709551616:=by unfold wd;simp
theorem wd1(A:Nat):wd A 1=A/18446744073709551616%18446744073709551616:=by unfold wd;simp
theorem wd2(A:Nat):wd A 2=A/340282366920938463463374607431768211456%18446744073709551616:=by unfold wd;simp
theorem wd3(A:Nat):wd A 3=A/6277101735386680763835789423207666416102355444464034512896%18446744073709551616:=by unfold wd;simp
theorem BW(s:Bool)(A:Nat):W4 (um s A):=by
 have h:∀j,(0:Int)≤(wd A j:Int)∧(wd A j:Int)<18446744073709551616:=fun j=>by
  have:wd A j<2^64:=Nat.mod_lt _ (by decide)
  omega
 exact⟨(h 0).1,(h 0).2,(h 1).1,(h 1).2,(h 2).1,(h 2).2,(h 3).1,(h 3).2⟩
theorem yw(s:Bool)(A:Nat)(h:A<115792089237316195423570985008687907853269984665640564039457584007913129639936):val (um s A)=A:=by
 unfold val um
 simp only[wd0,wd1,wd2,wd3]
 omega
theorem YM{w:bq}(h:W4 w):w=um w.neg (val w).toNat:=by
 obtain⟨neg,x0,x1,x2,x3⟩:=w
 obtain⟨a0,a1,b0,b1,c0,c1,d0,d1⟩:=h
 simp only at a0 a1 b0 b1 c0 c1 d0 d1
 unfold um val
 simp only[wd0,wd1,wd2,wd3,bq.mk.injEq,sC,true_and]
 refine⟨?_,?_,?_,?_⟩<;>omega
theorem Yh{w:bq}{s:Bool}{A:Nat}(h:W4 w)(hs:w.neg=s)(hv:val w=A):w=um s A:=by
 rw[YM h,hs,hv];rfl
theorem GU(s:Bool)(A m:Nat)(hm:m<18446744073709551616)(h:A*m<115792089237316195423570985008687907853269984665640564039457584007913129639936)(hA:A<115792089237316195423570985008687907853269984665640564039457584007913129639936):dk (um s A) (m:Int)=some (um s (A*m)):=by
 have hv:=yw s A hA
 obtain⟨w,h1,h2,h3,h4⟩:=Ja (n:=(m:Int)) (BW s A) (by omega) (by omega) (by rw[hv];omega)
 rw[h1,Yh h2 (s:=s) (A:=A*m) h4 (by rw[h3,hv];push_cast;rfl)]
theorem VZ(s t:Bool)(A B:Nat)(hA:A<115792089237316195423570985008687907853269984665640564039457584007913129639936)(hB:B<115792089237316195423570985008687907853269984665640564039457584007913129639936):hU (um s A) (um t B)=some (c3 (A:Int) (B:Int)):=by
 rw[Jv (BW s A) (BW t B),yw s A hA,yw t B hB]
theorem On(n:Int)(h0: -9223372036854775808≤n)(h1:n≤9223372036854775807):nL n=some (um (decide (n<0)) n.natAbs):=by
 unfold nL
 by_cases h:n<0
 ·rw[show decide (n<0)=true by simpa using h,ap]
  congr 1
  unfold um
  simp only[wd0,wd1,wd2,wd3,bq.mk.injEq,sC,true_and,wu]
  refine⟨?_,?_,?_,?_⟩<;>omega
 ·rw[show decide (n<0)=false by simpa using h,ah]
  congr 1
  unfold um
  simp only[wd0,wd1,wd2,wd3,bq.mk.injEq,sC,true_and,wu]
  refine⟨?_,?_,?_,?_⟩<;>omega
theorem Tb(s:Bool)(d:Nat)(hd:d≤1000):∀(j k A i:Nat),i+j=d→j<k→A*10^j<115792089237316195423570985008687907853269984665640564039457584007913129639936→
  cN (d:Int) k s (wd A 0) (wd A 1) (wd A 2) (wd A 3) (i:Int)=some (um s (A*10^j)):=by
 intro j
 induction j with
 |zero=>
  intro k A i hi hk hA
  obtain⟨k,rfl⟩:∃q,k=q+1:=⟨k-1,by omega⟩
  rw[cN,show decide ((i:Int)<(d:Int))=false by simp;omega,ah,Nat.pow_zero,Nat.mul_one]
  rfl
 |succ j ih=>
  intro k A i hi hk hA
  obtain⟨k,rfl⟩:∃q,k=q+1:=⟨k-1,by omega⟩
  have e:A*10^(j+1)=A*10*10^j:=by rw[Nat.pow_succ,Nat.mul_comm (10^j) 10,Nat.mul_assoc]
  have hp:0<10^j:=Nat.pow_pos (by decide)
  have hle:A*10*1≤A*10*10^j:=Nat.mul_le_mul_left _ hp
  rw[e]at hA⊢
  have ht:=GU s A 10 (by decide) (by omega) (by omega)
  rw[cN,show decide ((i:Int)<(d:Int))=true by simp;omega,ap]
  have ht':dk (bq.mk s ((wd A 0:Int),(wd A 1:Int),(wd A 2:Int),(wd A 3:Int))) (10:Int)=some (um s (A*10)):=ht
  rw[ht',ax,jQ (by omega) (by omega),show(i:Int)+1=((i+1:Nat):Int) by omega]
  exact ih k (A*10) (i+1) (by omega) (by omega) hA
theorem Qz(s:Bool)(A d:Nat)(hd:d≤1000)(h:A*10^d<115792089237316195423570985008687907853269984665640564039457584007913129639936):iQ (um s A) (d:Int)=some (um s (A*10^d)):=
 Tb s d hd d aH A 0 (by omega) (by rw[aJ];omega) h
theorem SP(n:Int)(d:Nat)(h0: -9223372036854775808≤n)(h1:n≤9223372036854775807)(hd:d≤1000)(h:n.natAbs*10^d<115792089237316195423570985008687907853269984665640564039457584007913129639936):
  lQ n (d:Int)=some (um (decide (n<0)) (n.natAbs*10^d)):=by
 unfold lQ
 rw[On n h0 h1,ax,H6,Qz _ _ d hd h,ax]
theorem SH{s t:Bool}{x0 x1 x2 x3 y0 y1 y2 y3:Int}(ha:W4 ⟨s,x0,x1,x2,x3⟩)(hb:W4 ⟨t,y0,y1,y2,y3⟩)(hle:val ⟨t,y0,y1,y2,y3⟩≤val ⟨s,x0,x1,x2,x3⟩):
  ∃w,fR s x0 x1 x2 x3 t y0 y1 y2 y3=some w∧W4 w∧w.neg=s∧val w=val ⟨s,x0,x1,x2,x3⟩-val ⟨t,y0,y1,y2,y3⟩:=by
 obtain⟨a0,a1,b0,b1,c0,c1,d0,d1⟩:=ha
 obtain⟨e0,e1,f0,f1,g0,g1,h0,h1⟩:=hb
 simp only at a0 a1 b0 b1 c0 c1 d0 d1 e0 e1 f0 f1 g0 g1 h0 h1
 simp only[val]at hle⊢
 unfold fR
 simp only[az,Int.add_zero,Int.sub_zero]
 have k1:∃u,(if x0<y0 then(1:Int)else 0)=u∧0≤u∧u≤1∧(x0-y0)%18446744073709551616=x0-y0+u*18446744073709551616:=by
  split
  ·exact⟨1,rfl,by omega,by omega,by omega⟩
  ·exact⟨0,rfl,by omega,by omega,by omega⟩
 obtain⟨u1,p1,p2,p3,p4⟩:=k1
 rw[p1,p4]
 have k2:∃u,(if x1<y1+u1 then(1:Int)else 0)=u∧0≤u∧u≤1∧(x1-y1-u1)%18446744073709551616=x1-y1-u1+u*18446744073709551616:=by
  split
  ·exact⟨1,rfl,by omega,by omega,by omega⟩
  ·exact⟨0,rfl,by omega,by omega,by omega⟩
 obtain⟨u2,q1,q2,q3,q4⟩:=k2
 rw[q1,q4]
 have k3:∃u,(if x2<y2+u2 then(1:Int)else 0)=u∧0≤u∧u≤1∧(x2-y2-u2)%18446744073709551616=x2-y2-u2+u*18446744073709551616:=by
  split
  ·exact⟨1,rfl,by omega,by omega,by omega⟩
  ·exact⟨0,rfl,by omega,by omega,by omega⟩
 obtain⟨u3,r1,r2,r3,r4⟩:=k3
 rw[r1,r4]
 rw[bf (by omega),bf (by omega),bf (by omega),bf (by omega)]
 have p5:0≤x0-y0+u1*18446744073709551616∧x0-y0+u1*18446744073709551616<18446744073709551616:=by omega
 have q5:0≤x1-y1-u1+u2*18446744073709551616∧x1-y1-u1+u2*18446744073709551616<18446744073709551616:=by omega
 have r5:0≤x2-y2-u2+u3*18446744073709551616∧x2-y2-u2+u3*18446744073709551616<18446744073709551616:=by omega
 clear p1 p4 q1 q4 r1 r4
 have s5:(x3-y3-u3)%18446744073709551616=x3-y3-u3:=by omega
 rw[s5]
 refine⟨_,rfl,⟨p5.1,p5.2,q5.1,q5.2,r5.1,r5.2,by simp only;omega,by simp only;omega⟩,rfl,?_⟩
 simp only
 omega
theorem NB{k:Nat}{b:Bool}{x0 x1 x2 x3 y0 y1 y2 y3:Int}(ha:W4 ⟨b,x0,x1,x2,x3⟩)(hb:W4 ⟨b,y0,y1,y2,y3⟩)(hv:val ⟨b,x0,x1,x2,x3⟩+val ⟨b,y0,y1,y2,y3⟩<115792089237316195423570985008687907853269984665640564039457584007913129639936):
  ∃w,eT (k+1) ⟨b,x0,x1,x2,x3⟩ ⟨b,y0,y1,y2,y3⟩=some w∧W4 w∧w.neg=b∧val w=val ⟨b,x0,x1,x2,x3⟩+val ⟨b,y0,y1,y2,y3⟩:=by
 obtain⟨a0,a1,b0,b1',c0,c1,d0,d1⟩:=ha
 obtain⟨e0,e1,f0,f1,g0,g1,h0,h1⟩:=hb
 simp only at a0 a1 b0 b1' c0 c1 d0 d1 e0 e1 f0 f1 g0 g1 h0 h1
 rw[eT]
 simp only[beq_self_eq_true,Bool.not_true,ah,az,Int.add_zero]
 simp only[val]at hv⊢
 have m0:x0+y0=(x0+y0)/18446744073709551616*18446744073709551616+(x0+y0)%18446744073709551616:=by omega
 have u0:0≤(x0+y0)/18446744073709551616∧(x0+y0)/18446744073709551616≤1:=by omega
 have v0:0≤(x0+y0)%18446744073709551616∧(x0+y0)%18446744073709551616<18446744073709551616:=by omega
 generalize (x0+y0)/18446744073709551616=t0 at*
 generalize (x0+y0)%18446744073709551616=r0 at*
 have m1:x1+y1+t0=(x1+y1+t0)/18446744073709551616*18446744073709551616+(x1+y1+t0)%18446744073709551616:=by omega
 have u1:0≤(x1+y1+t0)/18446744073709551616∧(x1+y1+t0)/18446744073709551616≤1:=by omega
 have v1:0≤(x1+y1+t0)%18446744073709551616∧(x1+y1+t0)%18446744073709551616<18446744073709551616:=by omega
 generalize (x1+y1+t0)/18446744073709551616=t1 at*
 generalize (x1+y1+t0)%18446744073709551616=r1 at*
 have m2:x2+y2+t1=(x2+y2+t1)/18446744073709551616*18446744073709551616+(x2+y2+t1)%18446744073709551616:=by omega
 have u2:0≤(x2+y2+t1)/18446744073709551616∧(x2+y2+t1)/18446744073709551616≤1:=by omega
 have v2:0≤(x2+y2+t1)%18446744073709551616∧(x2+y2+t1)%18446744073709551616<18446744073709551616:=by omega
 generalize (x2+y2+t1)/18446744073709551616=t2 at*
 generalize (x2+y2+t1)%18446744073709551616=r2 at*
 have m3:x3+y3+t2=(x3+y3+t2)/18446744073709551616*18446744073709551616+(x3+y3+t2)%18446744073709551616:=by omega
 have u3:0≤(x3+y3+t2)/18446744073709551616∧(x3+y3+t2)/18446744073709551616≤1:=by omega
 have v3:0≤(x3+y3+t2)%18446744073709551616∧(x3+y3+t2)%18446744073709551616<18446744073709551616:=by omega
 generalize (x3+y3+t2)/18446744073709551616=t3 at*
 generalize (x3+y3+t2)%18446744073709551616=r3 at*
 rw[bf (by omega),bf (by omega),bf (by omega),bf (by omega)]
 have z:t3=0:=by omega
 subst z
 refine⟨_,rfl,⟨v0.1,v0.2,v1.1,v1.2,v2.1,v2.2,v3.1,v3.2⟩,rfl,?_⟩
 simp only
 omega
theorem JF(a b:bq)(ha:W4 a)(hb:W4 b)(hle:val b≤val a):
  fR a.neg a.size.1 a.size.2.1 a.size.2.2.1 a.size.2.2.2 b.neg b.size.1 b.size.2.1 b.size.2.2.1 b.size.2.2.2=some (um a.neg (val a-val b).toNat):=by
 obtain⟨w,h1,h2,h3,h4⟩:=SH ha hb hle
 rw[h1,YM h2,h3,h4]
theorem M4(k:Nat)(s:Bool)(A B:Nat)(hv:A+B<115792089237316195423570985008687907853269984665640564039457584007913129639936):
  eT (k+1) (um s A) (um s B)=some (um s (A+B)):=by
 have va:=yw s A (by omega)
 have vb:=yw s B (by omega)
 have hv':val (um s A)+val (um s B)<115792089237316195423570985008687907853269984665640564039457584007913129639936:=by rw[va,vb];omega
 obtain⟨w,h1,h2,h3,h4⟩:=NB (k:=k) (BW s A) (BW s B) hv'
 have h5:val w=((A+B:Nat):Int):=by
  have:val w=val (um s A)+val (um s B):=h4
  rw[this,va,vb];omega
 have h6:=Yh h2 h3 h5
 rw[h6]at h1
 exact h1
def Pj(s:Bool)(A:Nat):Int:=if s=true then -(A:Int)else(A:Int)
theorem aaJ{a b:Int}:decide (c3 a b<0)=decide (a<b):=by
 unfold c3
 by_cases h:a<b
 ·simp[h]
 ·rw[if_neg h];split<;>simp[h]
theorem KC(k:Nat)(s:Bool)(A B:Nat)(hA:A<115792089237316195423570985008687907853269984665640564039457584007913129639936)(hB:B<115792089237316195423570985008687907853269984665640564039457584007913129639936):
  gI (k+1) (um s A) (um s B)=some (if A<B then um (!s) (B-A)else um s (A-B)):=by
 rw[gI,show(um s A).neg=s from rfl,show(um s B).neg=s from rfl]
 simp only[beq_self_eq_true,Bool.not_true,ah]
 have e:=VZ s s A B hA hB
 have e':hU (bq.mk s ((um s A).size.1,(um s A).size.2.1,(um s A).size.2.2.1,(um s A).size.2.2.2)) (bq.mk s ((um s B).size.1,(um s B).size.2.1,(um s B).size.2.2.1,(um s B).size.2.2.2))=some (c3 (A:Int) (B:Int)):=e
 rw[e',ax,aaJ]
 by_cases h:A<B
 ·rw[show decide ((A:Int)<(B:Int))=true by simpa using h,ap,if_pos h]
  unfold gA
  rw[ax]
  have va:=yw s A hA
  have vb:=yw (!s) B hB
  have q:=JF (um (!s) B) (um s A) (BW _ _) (BW _ _) (by rw[va,vb];omega)
  rw[va,vb,show((B:Int)-(A:Int)).toNat=B-A by omega]at q
  exact q
 ·rw[show decide ((A:Int)<(B:Int))=false by simpa using h,ah,if_neg h]
  have va:=yw s A hA
  have vb:=yw s B hB
  have q:=JF (um s A) (um s B) (BW _ _) (BW _ _) (by rw[va,vb];omega)
  rw[va,vb,show((A:Int)-(B:Int)).toNat=A-B by omega]at q
  exact q
theorem WC(s t:Bool)(A B:Nat)(hv:A+B<115792089237316195423570985008687907853269984665640564039457584007913129639936):
  ∃u C,eT aH (um s A) (um t B)=some (um u C)∧Pj u C=Pj s A+Pj t B∧C≤A+B:=by
 have hB:aH=1152921504606846974+1+1:=rfl
 by_cases h:s=t
 ·subst h
  rw[hB,M4 _ s A B hv]
  refine⟨s,A+B,rfl,?_,iD _⟩
  unfold Pj;cases s<;>simp<;>omega
 ·rw[hB,eT,show(um s A).neg=s from rfl,show(um t B).neg=t from rfl]
  have hb:=Gp s t h
  rw[hb.1,ap]
  unfold gA
  rw[ax]
  show∃u C,al (gI (1152921504606846974+1) (um s A) (um (!t) B)) _=_∧_
  rw[hb.2,KC _ s A B (by omega) (by omega),ax,H6]
  by_cases hlt:A<B
  ·rw[if_pos hlt]
   refine⟨!s,B-A,rfl,?_,by omega⟩
   unfold Pj;revert h;cases s<;>cases t<;>simp<;>omega
  ·rw[if_neg hlt]
   refine⟨s,A-B,rfl,?_,by omega⟩
   unfold Pj;revert h;cases s<;>cases t<;>simp<;>omega
theorem fd(x s:Nat):(x:Int).fdiv (2^s)=((x/2^s:Nat):Int):=by
 rw[Int.fdiv_eq_ediv_of_nonneg _ (Int.le_of_lt (Int.pow_pos (by decide)))]
 push_cast;rfl
abbrev QT:=Int→Int→Int→Int→Bool→Int→Int→Int→Int→Int→Option (bq×bq)
end Go.Proofs.YtpiohnabdhpphaaGreatDoor
namespace Go.Proofs.YtpiohnabdhpphaaGreatDoor
open Go Go.SX Go.SX.Cal Go.Lib
def sg(b:Bool)(z:Int):Int:=if b=true then -z else z
structure IN(w:cU)(z:Int)(N:Nat):Prop where
 d:gg w.d
 t:Fk w.d
 l:w.d.length≤N
 b:w.below=true→w.d≠[]
 v:z=sg w.below (bh w.d)
theorem Ts{l:List Int}(h:gg l)(t:Fk l):bh l=0↔l=[]:=by
 constructor
 ·intro e
  cases hl:l with
  |nil=>rfl
  |cons x m=>
   have h1:=uw h t (by simp[hl])
   have h2:=vC (l.length-1)
   omega
 ·rintro rfl;rfl
theorem Xr(b:Bool)(d:List Int)(N:Nat)(hl:d.length≤N)(hN:N<1000000)(hd:gg d):∃w,sS b d=some w∧IN w (sg b (bh d)) N:=by
 obtain⟨d',h1,h2,h3,h4,h5⟩:=PP b d (by omega) hd
 refine⟨_,h1,h2,h3,by show d'.length≤N;omega,?_,?_⟩
 ·intro hb e
  have hb:(b&&decide (0<d'.length))=true:=hb
  have e:d'=[]:=e
  simp[e]at hb
 ·show sg b (bh d)=sg (b&&decide (0<d'.length)) (bh d')
  cases hz:d' with
  |nil=>rw[hz]at h4;simp[bh]at h4;simp[←h4,sg,bh]
  |cons x m=>rw[←hz,h4];simp[hz]
theorem II(n:Int)(h0: -9223372036854775808≤n)(h1:n≤9223372036854775807):∃w,oU n=some w∧IN w n 19:=by
 unfold oU
 obtain⟨d,e1,e2,e3,e4,e5⟩:=Dm h0 h1 aH [] n (by simp) (by rw[aJ];simp) F5 (fun _=>Me) (by
  simp only[List.length_nil]
  have:cj (19-0)=10000000000000000000:=by decide
  rw[this];unfold ab;split<;>omega) h0 h1 (by simp[bh,cj])
 refine⟨_,e1,e2,e3,e4,?_,?_⟩
 ·intro hb e
  simp at hb e
  rw[e]at e5
  simp[bh,ab,hb]at e5
  omega
 ·show n=sg (decide (n<0)) (bh d)
  rw[e5]
  unfold sg ab
  by_cases h:n<0
  ·simp[h]
  ·simp[h]
theorem FO:∀{l:List Int} {j:Nat} {e c:Int},l[j]? =some e→bh (l.set j (e+c))=bh l+cj j*c
 |[],j,e,c,h=>by simp at h
 |x::l,0,e,c,h=>by
  simp at h;subst h
  simp only[List.set_cons_zero,bh,cj];omega
 |x::l,j+1,e,c,h=>by
  have ih:=FO (l:=l) (j:=j) (e:=e) (c:=c) (by simpa using h)
  simp only[List.set_cons_succ,bh,cj,ih]
  rw[Int.mul_add,Int.mul_assoc (cj j),Int.mul_left_comm 10 (cj j) c];omega
theorem RY(a:Nat):∀b,cj (a+b)=cj a*cj b
 |0=>by simp[cj]
 |b+1=>by rw[←Nat.add_assoc];simp only[cj];rw[RY a b,Int.mul_assoc]
theorem R0:∀n,cj n=((10^n:Nat):Int)
 |0=>rfl
 |n+1=>by simp only[cj,R0 n,Nat.pow_succ];push_cast;rfl
theorem IN.mono{w:cU}{z:Int}{N M:Nat}(h:IN w z N)(hm:N≤M):IN w z M:=⟨h.d,h.t,Nat.le_trans h.l hm,h.b,h.v⟩
theorem IN.abs{w:cU}{z:Int}{N:Nat}(h:IN w z N):bh w.d=(z.natAbs:Int):=by
 have h0:=iU h.d
 have hv:=h.v
 unfold sg at hv
 split at hv<;>omega
theorem IN.nil{w:cU}{z:Int}{N:Nat}(h:IN w z N):(w.d.length=0)↔z=0:=by
 have:=h.abs
 have h2:=Ts h.d h.t
 rw[List.length_eq_zero_iff,←h2];omega
theorem IN.tight{w:cU}{z:Int}{N M:Nat}(h:IN w z N)(hz:(z.natAbs:Int)<cj M):IN w z M:=by
 refine⟨h.d,h.t,?_,h.b,h.v⟩
 by_cases hn:w.d=[]
 ·simp[hn]
 ·have h1:=uw h.d h.t hn
  rw[h.abs]at h1
  apply Classical.byContradiction
  intro hc
  have:=xj (show M≤w.d.length-1 by omega)
  omega
theorem ab2{a b:cU}{x y:Int}{N M:Nat}(ha:IN a x N)(hb:IN b y M)(hN:N<900)(hM:M<900):∃w,vI a b=some w∧IN w (x+y) (max N M+1):=by
 have hla:=ha.l
 have hlb:=hb.l
 have hva:=ha.v
 have hvb:=hb.v
 unfold vI
 by_cases he:a.below=b.below
 ·rw[show(a.below==b.below)=true by simp[he],ap]
  obtain⟨r,h1,h2,h3,h4,h5⟩:=Xk ha.d hb.d ha.t hb.t (by omega) (by omega)
  rw[h1,ax]
  obtain⟨w,g1,g2⟩:=Xr a.below r (max N M+1) (by omega) (by omega) h2
  rw[g1,ax]
  refine⟨w,rfl,?_⟩
  have e:sg a.below (bh r)=x+y:=by
   rw[h4,hva,hvb,←he];unfold sg;split<;>omega
  rw[←e];exact g2
 ·rw[show(a.below==b.below)=false by simp[he],ah]
  obtain⟨r,h1,h2,h3,h4⟩:=LT ha.d hb.d ha.t hb.t (by omega) (by omega)
  rw[h1,ax]
  have hs:∀z:Int,sg b.below z= - sg a.below z:=fun z=>by
   revert he;unfold sg;cases a.below<;>cases b.below<;>simp
  by_cases hr:0≤r
  ·have hle:bh b.d≤bh a.d:=by
    unfold c3 at h4
    rw[if_neg (by omega)]at h4
    by_cases h:bh a.d<bh b.d
    ·rw[if_pos h]at h4;split at h4<;>omega
    ·omega
   rw[show decide ((0:Int)≤r)=true by simpa using hr,ap]
   obtain⟨q,g1,g2,g3,g4,g5⟩:=Oo ha.d hb.d hb.t (by omega) hle
   rw[g1,ax]
   obtain⟨w,k1,k2⟩:=Xr a.below q (max N M+1) (by omega) (by omega) g2
   rw[k1,ax]
   refine⟨w,rfl,?_⟩
   have e:sg a.below (bh q)=x+y:=by
    rw[g4,hva,hvb,hs];unfold sg;split<;>omega
   rw[←e];exact k2
  ·have hle:bh a.d≤bh b.d:=by
    unfold c3 at h4
    rw[if_pos (by omega)]at h4
    by_cases h:bh a.d<bh b.d
    ·omega
    ·rw[if_neg h]at h4;split at h4<;>omega
   rw[show decide ((0:Int)≤r)=false by simp;omega,ah]
   obtain⟨q,g1,g2,g3,g4,g5⟩:=Oo hb.d ha.d ha.t (by omega) hle
   rw[g1,ax]
   obtain⟨w,k1,k2⟩:=Xr b.below q (max N M+1) (by omega) (by omega) g2
   rw[k1,ax]
   refine⟨w,rfl,?_⟩
   have e:sg b.below (bh q)=x+y:=by
    rw[g4,hva,hvb,hs,hs];unfold sg;split<;>omega
   rw[←e];exact k2
theorem wv:∀k,bh (List.replicate k 0)=0
 |0=>rfl
 |k+1=>by rw[List.replicate_succ];simp[bh,wv k]
theorem abi{a:cU}{x:Int}{N k:Nat}(ha:IN a x N)(hN:N<900)(hk:k<900):∃w,BS a (k:Int)=some w∧IN w (x*cj k) (N+k):=by
 unfold BS
 by_cases h:a.d.length=0
 ·rw[show((a.d.length:Int)==0)=true by simp[h],ap]
  have hx:=ha.nil.1 h
  subst hx
  exact⟨a,rfl,by rw[Int.zero_mul];exact ha.mono (by omega)⟩
 ·have hl:=ha.l
  rw[show((a.d.length:Int)==0)=false by simpa using h,ah,bf (by omega),bf (by simp;omega)]
  refine⟨_,rfl,⟨?_,?_,?_,?_,?_⟩⟩
  ·intro d hd
   rcases List.mem_append.1 hd with h1|h1
   ·have:=List.eq_of_mem_replicate h1;omega
   ·exact ha.d d h1
  ·intro d hd
   have hne:a.d≠[]:=by rintro e;simp[e]at h
   simp only at hd
   cases hq:a.d.getLast? with
   |none=>exact absurd (List.getLast?_eq_none_iff.1 hq) hne
   |some z=>
    rw[List.getLast?_append,hq]at hd
    simp at hd
    exact ha.t d (by rw[hq,hd])
  ·simp;omega
  ·intro hb e
   simp at e
   exact ha.b hb e.2
  ·simp only
   rw[fo,wv,List.length_replicate,ha.v,show((k:Int)).toNat=k by omega]
   unfold sg;split
   ·rw[Int.neg_mul,Int.mul_comm,Int.zero_add]
   ·rw[Int.mul_comm,Int.zero_add]
theorem UL{l:List Int}{j:Nat}{v B:Int}(h:∀e∈l,0≤e∧e≤B)(hv:0≤v∧v≤B):∀e∈l.set j v,0≤e∧e≤B:=by
 intro e he
 rcases List.mem_or_eq_of_mem_set he with h1|h1
 ·exact h e h1
 ·subst h1;exact hv
theorem SQ{b:cU}(hb:gg b.d)(lb:b.d.length<400)(rec1:List Int→Int→Option cU)(i:Nat)(hi:i<400)(e1:Int)(h0:0≤e1)(h9:e1≤9):∀(m f k:Nat) (l:List Int) (B:Int),
  k+m=b.d.length→m<f→i+b.d.length<l.length→0≤B→(∀e∈l,0≤e∧e≤B)→B+81*m≤100000000→
  ∃l',lw rec1 b (i:Int) e1 f l (k:Int)=rec1 l' ((i+1:Nat):Int)∧l'.length=l.length∧(∀e∈l',0≤e∧e≤B+81*m)∧bh l'=bh l+cj (i+k)*(e1*bh (b.d.drop k)):=by
 intro m
 induction m with
 |zero=>
  intro f k l B hk hf hl hB hb' hbd
  obtain⟨f,rfl⟩:∃q,f=q+1:=⟨f-1,by omega⟩
  rw[lw,show decide ((k:Int)<(b.d.length:Int))=false by simp;omega,ah]
  unfold xK
  rw[jQ (by omega) (by omega)]
  refine⟨l,rfl,rfl,by simpa using hb',?_⟩
  rw[List.drop_of_length_le (by omega)];simp[bh]
 |succ m ih=>
  intro f k l B hk hf hl hB hb' hbd
  obtain⟨f,rfl⟩:∃q,f=q+1:=⟨f-1,by omega⟩
  have hkb:k<b.d.length:=by omega
  have rb:=hb b.d[k] (gV hkb)
  have hik:i+k<l.length:=by omega
  have re:=hb' l[i+k] (gV hik)
  have hpr:0≤e1*b.d[k]∧e1*b.d[k]≤81:=by
   refine⟨Int.mul_nonneg h0 rb.1,?_⟩
   have h1:e1*b.d[k]≤9*b.d[k]:=Int.mul_le_mul_of_nonneg_right h9 rb.1
   omega
  rw[lw,aV hkb,ap,aD hkb,ax,jQ (x:=(i:Int)+(k:Int)) (by omega) (by omega),show(i:Int)+(k:Int)=((i+k:Nat):Int) by omega,aD hik,ax,jQ (x:=e1*b.d[k]) (by omega) (by omega),jQ (by omega) (by omega),jQ (x:=(k:Int)+1) (by omega) (by omega),show((i+k:Nat):Int).toNat=i+k by omega,show(k:Int)+1=((k+1:Nat):Int) by omega]
  obtain⟨l',q1,q2,q3,q4⟩:=ih f (k+1) (l.set (i+k) (l[i+k]+e1*b.d[k])) (B+81) (by omega) (by omega) (by simpa using hl) (by omega) (UL (fun e he=>by have:=hb' e he;omega) (by omega)) (by omega)
  refine⟨l',q1,by simpa using q2,fun e he=>by have:=q3 e he;omega,?_⟩
  rw[q4,FO (e:=l[i+k]) (by simp[hik]),List.drop_eq_getElem_cons hkb]
  simp only[bh]
  rw[show i+(k+1)=(i+k)+1 by omega]
  simp only[cj]
  rw[Int.mul_add e1,Int.mul_add,Int.mul_assoc (cj (i+k)),Int.mul_left_comm e1 10];omega
theorem To{a b:cU}(ha:gg a.d)(hb:gg b.d)(la:a.d.length<400)(lb:b.d.length<400):∀(m f i:Nat) (l:List Int) (B:Int),
  i+m=a.d.length→m<f→l.length=a.d.length+b.d.length+1→0≤B→(∀e∈l,0≤e∧e≤B)→B+32400*m≤100000000→
  ∃l',gC a b f l (i:Int)=tM a b l'∧l'.length=l.length∧(∀e∈l',0≤e∧e≤B+32400*m)∧bh l'=bh l+cj i*(bh (a.d.drop i)*bh b.d):=by
 intro m
 induction m with
 |zero=>
  intro f i l B hi hf hl hB hb' hbd
  obtain⟨f,rfl⟩:∃q,f=q+1:=⟨f-1,by omega⟩
  rw[gC,show decide ((i:Int)<(a.d.length:Int))=false by simp;omega,ah]
  refine⟨l,rfl,rfl,by simpa using hb',?_⟩
  rw[List.drop_of_length_le (by omega)];simp[bh]
 |succ m ih=>
  intro f i l B hi hf hl hB hb' hbd
  obtain⟨f,rfl⟩:∃q,f=q+1:=⟨f-1,by omega⟩
  have hia:i<a.d.length:=by omega
  have ra:=ha a.d[i] (gV hia)
  rw[gC,aV hia,ap,aD hia,ax]
  obtain⟨l1,q1,q2,q3,q4⟩:=SQ hb lb (gC a b f) i (by omega) a.d[i] ra.1 ra.2 b.d.length aH 0 l B (by omega) (by rw[aJ];omega) (by omega) hB hb' (by omega)
  rw[show((0:Nat):Int)=0 from rfl]at q1
  rw[q1]
  obtain⟨l',k1,k2,k3,k4⟩:=ih f (i+1) l1 (B+32400) (by omega) (by omega) (by omega) (by omega) (fun e he=>by have:=q3 e he;omega) (by omega)
  refine⟨l',k1,by omega,fun e he=>by have:=k3 e he;omega,?_⟩
  rw[k4,q4,List.drop_eq_getElem_cons hia]
  simp only[bh,List.drop_zero,Nat.add_zero,cj]
  rw[Int.add_mul,Int.mul_add,Int.mul_assoc (cj i),Int.mul_assoc 10];omega
theorem TK{a b:cU}:∀(m f i:Nat) (l:List Int),
  i+m+1=l.length→m<f→l.length<1000→(∀e∈l,0≤e)→gg (l.take i)→(∀e,l[i]? =some e→e≤100000000)→(∀e∈l.drop (i+1),e≤50000000)→
  ∃l',lv a b f l (i:Int)=tC a b l'∧l'.length=l.length∧(∀e∈l',0≤e)∧gg (l'.take (l.length-1))∧bh l'=bh l:=by
 intro m
 induction m with
 |zero=>
  intro f i l hi hf hl h0 hd hA hB
  obtain⟨f,rfl⟩:∃q,f=q+1:=⟨f-1,by omega⟩
  rw[lv,ax,jQ (by omega) (by omega),show decide ((i:Int)+1<((l.length:Nat):Int))=false by simp;omega,ah]
  exact⟨l,rfl,rfl,h0,by rw[show l.length-1=i by omega];exact hd,rfl⟩
 |succ m ih=>
  intro f i l hi hf hl h0 hd hA hB
  obtain⟨f,rfl⟩:∃q,f=q+1:=⟨f-1,by omega⟩
  have hi0:i<l.length:=by omega
  have hi1:i+1<l.length:=by omega
  have ei:l[i]? =some l[i]:=dJ hi0
  have ei1:l[i+1]? =some l[i+1]:=dJ hi1
  have b0:=h0 l[i] (gV hi0)
  have b1:=h0 l[i+1] (gV hi1)
  have c0:=hA _ ei
  have c1:=hB l[i+1] (by rw[List.drop_eq_getElem_cons hi1];exact List.mem_cons_self)
  have hdv:IntKind.i64.wrap (l[i].tdiv 10)=l[i]/10:=by rw[UE b0,jQ (by omega) (by omega)]
  have s1:(l.set (i+1) (l[i+1]+l[i]/10))[i]? =some l[i]:=by rw[List.getElem?_set_ne (by omega),ei]
  have at6:at? (l.set (i+1) (l[i+1]+l[i]/10)) (i:Int)=some l[i]:=by unfold at?;simp only[Int.toNat_natCast,s1];simp
  rw[lv,ax,jQ (x:=(i:Int)+1) (by omega) (by omega),show(i:Int)+1=((i+1:Nat):Int) by omega,aV hi1,ap,aD hi1,ax,aD hi0,ax,hdv,jQ (by omega) (by omega),show((i+1:Nat):Int).toNat=i+1 by omega,at6,ax,show((i:Nat):Int).toNat=i by omega,UU b0]
  have hv:bh ((l.set (i+1) (l[i+1]+l[i]/10)).set i (l[i]%10))=bh l:=by
   have h1:=FO (c:=l[i]%10-l[i]) s1
   rw[show l[i]+(l[i]%10-l[i])=l[i]%10 by omega,FO ei1]at h1
   rw[h1]
   simp only[cj]
   have:cj i*(l[i]%10-l[i])= -(cj i*10*(l[i]/10)):=by
    rw[Int.mul_assoc,←Int.mul_neg];congr 1;omega
   omega
  have p1:∀e∈(l.set (i+1) (l[i+1]+l[i]/10)).set i (l[i]%10),0≤e:=by
   intro e he
   rcases List.mem_or_eq_of_mem_set he with h1|h1
   ·rcases List.mem_or_eq_of_mem_set h1 with h2|h2
    ·exact h0 e h2
    ·omega
   ·omega
  have p2:gg (((l.set (i+1) (l[i+1]+l[i]/10)).set i (l[i]%10)).take (i+1)):=by
   intro d hdm
   rw[List.take_succ_eq_append_getElem (by simpa using hi0)]at hdm
   rcases List.mem_append.1 hdm with h1|h1
   ·rw[List.take_set_of_le (by omega),List.take_set_of_le (by omega)]at h1
    exact hd d h1
   ·simp at h1;subst h1;omega
  have p3:∀e,((l.set (i+1) (l[i+1]+l[i]/10)).set i (l[i]%10))[i+1]? =some e→e≤100000000:=by
   intro e he
   rw[List.getElem?_set_ne (by omega),List.getElem?_set_self hi1]at he
   have:=Option.some.inj he;omega
  have p4:∀e∈((l.set (i+1) (l[i+1]+l[i]/10)).set i (l[i]%10)).drop (i+1+1),e≤50000000:=by
   intro e he
   rw[List.drop_set_of_lt (by omega),List.drop_set_of_lt (by omega)]at he
   refine hB e ?_
   rw[List.drop_eq_getElem_cons hi1]
   exact List.mem_cons_of_mem _ he
  obtain⟨l',k1,k2,k3,k4,k5⟩:=ih f (i+1) ((l.set (i+1) (l[i+1]+l[i]/10)).set i (l[i]%10)) (by simp;omega) (by omega) (by simpa using hl) p1 p2 p3 p4
  exact⟨l',k1,by simpa using k2,k3,by simpa using k4,by rw[k5,hv]⟩
theorem Zl(s t:Bool)(a b:Int):sg (!(s==t)) (a*b)=sg s a*sg t b:=by
 unfold sg;cases s<;>cases t<;>simp[Int.neg_mul,Int.mul_neg]
theorem ady{a b:cU}{x y:Int}{N M:Nat}(ha:IN a x N)(hb:IN b y M)(hN:N<400)(hM:M<400):∃w,yq a b=some w∧IN w (x*y) (N+M+1):=by
 have hla:=ha.l
 have hlb:=hb.l
 unfold yq
 rw[jQ (x:=(a.d.length:Int)+(b.d.length:Int)) (by omega) (by omega),jQ (by omega) (by omega),ax,bf (by omega),show((a.d.length:Int)+(b.d.length:Int)+1).toNat=a.d.length+b.d.length+1 by omega]
 obtain⟨l,h1,h2,h3,h4⟩:=To ha.d hb.d (by omega) (by omega) a.d.length aH 0 (List.replicate (a.d.length+b.d.length+1) 0) 0 (by omega) (by rw[aJ];omega) (by simp) (by omega) (fun e he=>by have:=List.eq_of_mem_replicate he;omega) (by omega)
 rw[show((0:Nat):Int)=0 from rfl]at h1
 rw[h1]
 unfold tM
 have hl:l.length=a.d.length+b.d.length+1:=by simpa using h2
 have hB:∀e∈l,0≤e∧e≤50000000:=fun e he=>by have:=h3 e he;omega
 obtain⟨l',g1,g2,g3,g4,g5⟩:=TK (a:=a) (b:=b) (a.d.length+b.d.length) aH 0 l (by omega) (by rw[aJ];omega) (by omega) (fun e he=>(hB e he).1) (by simp[gg]) (fun e he=>by have:=hB e (List.mem_of_getElem? he);omega) (fun e he=>(hB e (List.mem_of_mem_drop he)).2)
 rw[show((0:Nat):Int)=0 from rfl]at g1
 rw[g1]
 unfold tC
 have hv:bh l'=bh a.d*bh b.d:=by
  rw[g5,h4,wv];simp[cj]
 have hd:gg l':=by
  have hne:a.d.length+b.d.length<l'.length:=by omega
  have e:l'=l'.take (a.d.length+b.d.length)++[l'[a.d.length+b.d.length]]:=by
   rw[←List.take_succ_eq_append_getElem hne,List.take_of_length_le (by omega)]
  rw[hl,show a.d.length+b.d.length+1-1=a.d.length+b.d.length by omega]at g4
  have p1:=pp ha.d
  have p2:=pp hb.d
  have n1:=iU ha.d
  have n2:=iU hb.d
  have hlt:bh a.d*bh b.d<cj (a.d.length+b.d.length):=by
   rw[RY]
   have q1:bh a.d*bh b.d≤cj a.d.length*bh b.d:=Int.mul_le_mul_of_nonneg_right (by omega) n2
   have q2:cj a.d.length*bh b.d<cj a.d.length*cj b.d.length:=Int.mul_lt_mul_of_pos_left p2 (p10n _)
   omega
  have hlast:=g3 l'[a.d.length+b.d.length] (gV hne)
  have hval:=fo (l'.take (a.d.length+b.d.length)) [l'[a.d.length+b.d.length]]
  rw[←e,List.length_take,Nat.min_eq_left (by omega),hv]at hval
  simp only[bh,Int.mul_zero,Int.add_zero]at hval
  have n3:=iU g4
  have hz:l'[a.d.length+b.d.length]=0:=by
   apply Classical.byContradiction
   intro hc
   have:cj (a.d.length+b.d.length)*1≤cj (a.d.length+b.d.length)*l'[a.d.length+b.d.length]:=Int.mul_le_mul_of_nonneg_left (by omega) (Int.le_of_lt (p10n _))
   omega
  rw[e,hz]
  exact DW g4 (by omega) (by omega)
 obtain⟨w,k1,k2⟩:=Xr (!(a.below==b.below)) l' (N+M+1) (by omega) (by omega) hd
 rw[k1,ax]
 refine⟨w,rfl,?_⟩
 have e:sg (!(a.below==b.below)) (bh l')=x*y:=by rw[hv,Zl,←ha.v,←hb.v]
 rw[←e];exact k2
def abJ:ac:=⟨0,0,0,ByteArray.empty,[]⟩
end Go.Proofs.YtpiohnabdhpphaaGreatDoor
namespace Go.Proofs.YtpiohnabdhpphaaGreatDoor
open Go Go.SX Go.SX.Cal Go.Lib
open Go.IntKind (i64)
def IB:Nat→Nat→List Int
 |0,_=>[]
 |k+1,N=>IB k (N/256)++[((N%256:Nat):Int)]
theorem AI:∀k N,(IB k N).length=k
 |0,N=>rfl
 |k+1,N=>by simp[IB,AI k]
theorem Q2(a:Nat):∀b N,IB (a+b) N=IB a (N/256^b)++IB b N
 |0,N=>by simp[IB]
 |b+1,N=>by
  rw[←Nat.add_assoc]
  simp only[IB]
  rw[Q2 a b (N/256),List.append_assoc,Nat.div_div_eq_div_mul,Nat.pow_succ,Nat.mul_comm 256]
theorem ZZ(N:Nat):IB 8 N=[((N/72057594037927936%256:Nat):Int),((N/281474976710656%256:Nat):Int),((N/1099511627776%256:Nat):Int),((N/4294967296%256:Nat):Int),((N/16777216%256:Nat):Int),((N/65536%256:Nat):Int),((N/256%256:Nat):Int),((N%256:Nat):Int)]:=by
 simp only[IB,Nat.div_div_eq_div_mul,List.nil_append,List.cons_append]
theorem Nn(N:Nat):IB 8 (N%18446744073709551616)=IB 8 N:=by
 rw[ZZ,ZZ]
 congr 1
 ·congr 1;omega
 congr 1
 ·congr 1;omega
 congr 1
 ·congr 1;omega
 congr 1
 ·congr 1;omega
 congr 1
 ·congr 1;omega
 congr 1
 ·congr 1;omega
 congr 1
 ·congr 1;omega
 congr 1
 congr 1;omega
theorem Yq(N s:Nat)(hs:s≤64):IntKind.u8.wrap (((N:Nat):Int).fdiv (2^s))=((N/2^s%256:Nat):Int):=by
 rw[fd]
 have:∀x:Int,IntKind.u8.wrap x=x%256:=by
  intro x;simp only[IntKind.wrap,IntKind.bits,IntKind.signed];simp
 rw[this]
 generalize N/2^s=q
 omega
theorem UC(N:Nat)(b:List Int)(hb:b.length≤4294967000):rR (N:Int) b=some ((),b++IB 8 N):=by
 unfold rR
 have e56:min (56:Int).toNat (IntKind.u64).bits=56:=rfl
 have e48:min (48:Int).toNat (IntKind.u64).bits=48:=rfl
 have e40:min (40:Int).toNat (IntKind.u64).bits=40:=rfl
 have e32:min (32:Int).toNat (IntKind.u64).bits=32:=rfl
 have e24:min (24:Int).toNat (IntKind.u64).bits=24:=rfl
 have e16:min (16:Int).toNat (IntKind.u64).bits=16:=rfl
 have e8:min (8:Int).toNat (IntKind.u64).bits=8:=rfl
 have e0:min (0:Int).toNat (IntKind.u64).bits=0:=rfl
 simp only[e56,e48,e40,e32,e24,e16,e8,e0,ax]
 rw[Yq N 56 (by omega),Yq N 48 (by omega),Yq N 40 (by omega),Yq N 32 (by omega),Yq N 24 (by omega),Yq N 16 (by omega),Yq N 8 (by omega),Yq N 0 (by omega)]
 rw[bf (by omega),bf (by simp;omega),bf (by simp;omega),bf (by simp;omega),bf (by simp;omega),bf (by simp;omega),bf (by simp;omega),bf (by simp;omega)]
 rw[ZZ]
 simp
theorem Pb(rec1:List Int→Bool→List Int→Int→Option (List Int))(l1:List Int)(i:Nat){d:List Int}(hd:gg d)(hl:d.length<1000):∀(m f:Nat) (q:List Int) (r:Int),m≤d.length→m<f→q.length=d.length→gg (q.drop m)→0≤r→r<256→bh (d.drop m)=256*bh (q.drop m)+r→
  ∃q' r',nP rec1 l1 d (i:Int) f q r ((m:Int)-1)=xb rec1 l1 (i:Int) q' r'∧q'.length=d.length∧gg q'∧0≤r'∧r'<256∧bh d=256*bh q'+r':=by
 intro m
 induction m with
 |zero=>
  intro f q r hm hf hq hdq r0 r1 hv
  obtain⟨f,rfl⟩:∃q,f=q+1:=⟨f-1,by omega⟩
  rw[nP,show decide ((0:Int)≤((0:Nat):Int)-1)=false from rfl,ah]
  simp only[List.drop_zero]at hdq hv
  exact⟨q,r,rfl,hq,hdq,r0,r1,hv⟩
 |succ m ih=>
  intro f q r hm hf hq hdq r0 r1 hv
  obtain⟨f,rfl⟩:∃q,f=q+1:=⟨f-1,by omega⟩
  have hmd:m<d.length:=by omega
  have hmq:m<q.length:=by omega
  have rd:=hd d[m] (gV hmd)
  have e10:i64.wrap (10*r)=10*r:=jQ (by omega) (by omega)
  have en:i64.wrap (10*r+d[m])=10*r+d[m]:=jQ (by omega) (by omega)
  have ed:i64.wrap ((10*r+d[m]).tdiv 256)=(10*r+d[m])/256:=by
   rw[Int.tdiv_eq_ediv_of_nonneg (by omega),jQ (by omega) (by omega)]
  have em:(10*r+d[m]).tmod 256=(10*r+d[m])%256:=Int.tmod_eq_emod_of_nonneg (by omega)
  rw[nP,show((m+1:Nat):Int)-1=(m:Int) by omega,show decide ((0:Int)≤(m:Int))=true by simp,ap,aD hmd,ax,e10,en,ed,em,ax,ax,aD hmq,ax,jQ (x:=(m:Int)-1) (by omega) (by omega),Int.toNat_natCast]
  have hdrop:(q.set m ((10*r+d[m])/256)).drop m=((10*r+d[m])/256)::q.drop (m+1):=by
   rw[List.drop_eq_getElem_cons (by simpa using hmq)]
   congr 1
   ·simp
   ·rw[List.drop_set_of_lt (by omega)]
  refine ih f _ _ (by omega) (by omega) (by simpa using hq) ?_ (by omega) (by omega) ?_
  ·rw[hdrop];exact Tl hdq (by omega) (by omega)
  ·rw[hdrop,List.drop_eq_getElem_cons hmd]
   simp only[bh]
   rw[hv]
   omega
theorem abT{x:Int}(h0:0≤x)(h1:x<256):IntKind.u8.wrap x=x:=by
 simp only[IntKind.wrap,IntKind.bits,IntKind.signed];simp;omega
theorem Nq:∀(j f:Nat) (b:Bool) (d S:List Int) (N:Nat),j<1000→j<f→gg d→d.length<900→bh d=(N:Int)→
  jj f (List.replicate j 0++S) b d ((j:Int)-1)=some (IB j N++S):=by
 intro j
 induction j with
 |zero=>
  intro f b d S N hj hf hd hl hv
  obtain⟨f,rfl⟩:∃q,f=q+1:=⟨f-1,by omega⟩
  rw[jj,show decide ((0:Int)≤((0:Nat):Int)-1)=false from rfl,ah]
  rfl
 |succ j ih=>
  intro f b d S N hj hf hd hl hv
  obtain⟨f,rfl⟩:∃q,f=q+1:=⟨f-1,by omega⟩
  rw[jj,show((j+1:Nat):Int)-1=(j:Int) by omega,show decide ((0:Int)≤(j:Int))=true by simp,ap,bf (by omega),jQ (by omega) (by omega),Int.toNat_natCast]
  obtain⟨q',r',h1,h2,h3,h4,h5,h6⟩:=Pb (jj f) (List.replicate (j+1) 0++S) j hd (by omega) d.length aH (List.replicate d.length 0) 0 (iD _) (by rw[aJ];omega) (by simp) (by simp[gg]) (by omega) (by omega) (by simp[bh])
  rw[h1]
  unfold xb
  have hlt:j<(List.replicate (j+1) (0:Int)++S).length:=by simp;omega
  obtain⟨d',g1,g2,g3,g4,g5⟩:=PP false q' (by omega) h3
  rw[aD hlt,ax,g1,ax,abT h4 h5,jQ (by omega) (by omega),Int.toNat_natCast]
  have hset:(List.replicate (j+1) (0:Int)++S).set j r'=List.replicate j 0++(r'::S):=by
   rw[List.replicate_succ',List.append_assoc,List.set_append_right _ _ (by simp)]
   simp
  have hr:r'=((N%256:Nat):Int):=by rw[hv]at h6;omega
  have hd':bh d'=((N/256:Nat):Int):=by rw[g4];rw[hv]at h6;omega
  rw[hset,ih f _ d' (r'::S) (N/256) (by omega) (by omega) g2 (by omega) hd']
  simp only[IB]
  rw[hr,List.append_assoc];rfl
theorem TP{w:cU}{z:Int}{N:Nat}(h:IN w z N)(hN:N<900)(hz:0≤z)(k:Nat)(hk:k<1000):zB w (k:Int)=some (IB k z.toNat):=by
 have hl:=h.l
 have ha:=h.abs
 unfold zB
 rw[bf (by omega),jQ (by omega) (by omega),Int.toNat_natCast]
 have:=Nq k aH w.below w.d [] z.toNat hk (by rw[aJ];omega) h.d (by omega) (by omega)
 rw[List.append_nil,List.append_nil]at this
 exact this
theorem p40:cj 40=10000000000000000000000000000000000000000:=by decide
theorem Qo(n:Nat)(hn:n≤16):∀(m f i:Nat) (b:Bool) (d:List Int),i+m=n→m<f→1≤i→IN ⟨b,d⟩ ((128*256^(i-1):Nat):Int) 40→∃w,po (n:Int) f b d (i:Int)=some w∧IN w ((128*256^(n-1):Nat):Int) 40:=by
 intro m
 induction m with
 |zero=>
  intro f i b d hi hf h1 hA
  obtain⟨f,rfl⟩:∃q,f=q+1:=⟨f-1,by omega⟩
  rw[po,show decide ((i:Int)<(n:Int))=false by simp;omega,ah]
  exact⟨⟨b,d⟩,rfl,by rw[show n=i by omega];exact hA⟩
 |succ m ih=>
  intro f i b d hi hf h1 hA
  obtain⟨f,rfl⟩:∃q,f=q+1:=⟨f-1,by omega⟩
  obtain⟨u,u1,u2⟩:=II 256 (by decide) (by decide)
  obtain⟨v,v1,v2⟩:=ady hA u2 (by omega) (by omega)
  rw[po,show decide ((i:Int)<(n:Int))=true by simp;omega,ap,u1,ax,v1,ax,jQ (by omega) (by omega),show(i:Int)+1=((i+1:Nat):Int) by omega]
  have e:((128*256^(i-1):Nat):Int)*256=((128*256^(i+1-1):Nat):Int):=by
   rw[show i+1-1=(i-1)+1 by omega,Nat.pow_succ,←Nat.mul_assoc,Int.natCast_mul (128*256^(i-1)) 256];rfl
  rw[e]at v2
  have hp:(256:Nat)^(i+1-1)≤256^15:=Nat.pow_le_pow_right (by decide) (by omega)
  have hp2:(256:Nat)^15=1329227995784915872903807060280344576:=by decide
  exact ih f (i+1) v.below v.d (by omega) (by omega) (by omega) (v2.tight (by rw[p40];omega))
theorem Yu(n:Nat)(h1:1≤n)(hn:n≤16):∃w,BQ (n:Int)=some w∧IN w ((128*256^(n-1):Nat):Int) 40:=by
 unfold BQ
 obtain⟨u,u1,u2⟩:=II 128 (by decide) (by decide)
 rw[u1,ax]
 exact Qo n hn (n-1) aH 1 u.below u.d (by omega) (by rw[aJ];omega) (iD _) (u2.mono (by omega))
mutual
def FF:ac→List Int
 |⟨k,n,sc,s,it⟩=>
  if k=0 then[8]
  else if k=1 then[IntKind.u8.wrap k,IntKind.u8.wrap n]
  else if k=2∨k=5 then IntKind.u8.wrap k::IB 8 (n+9223372036854775808).toNat
  else if k=3 then IntKind.u8.wrap k::(IB 16 (n*cj (12-sc).toNat+170141183460469231731687303715884105728).toNat++[IntKind.u8.wrap sc])
  else if k=4 then IntKind.u8.wrap k::(nW s++[0])
  else IntKind.u8.wrap k::(Hv it++[0])
def Hv:List ac→List Int
 |[]=>[]
 |x::l=>(1::FF x)++Hv l
end
inductive Sn:ac→Prop where
 |mk (v:ac) (h:de v=true) (hi:∀x∈v.items,Sn x):Sn v
theorem Sn.pl{v:ac}(h:Sn v):de v=true:=by cases h;assumption
theorem Sn.it{v:ac}(h:Sn v):∀x∈v.items,Sn x:=by cases h;assumption
theorem JT{f:ac→Int→Bool×Int}:∀{l:List ac} {z:Int},(oZ f l z).1=true→∀x∈l,∃z',(f x z').1=true
 |[],z,_,x,hx=>by cases hx
 |v::l,z,h,x,hx=>by
  simp only[oZ]at h
  by_cases hv:(f v z).1=true
  ·rw[if_pos hv]at h
   rcases List.mem_cons.1 hx with rfl|hx
   ·exact⟨z,hv⟩
   ·exact JT h x hx
  ·rw[if_neg hv]at h;cases h
theorem Lo:∀(d:Nat) (v:ac) (z:Int),(jO d v z).1=true→Sn v
 |0,v,z,h=>by simp[jO]at h
 |d+1,v,z,h=>by
  simp only[jO]at h
  by_cases hc:256<HC v z∨de v=false
  ·rw[if_pos hc]at h;cases h
  ·rw[if_neg hc]at h
   rw[not_or]at hc
   exact .mk v (by simpa using hc.2) (fun x hx=>by
    obtain⟨z',hz⟩:=JT h x hx
    exact Lo d x z' hz)
theorem VI{v:ac}(h:qg v=true):Sn v:=Lo 4 v 0 h
theorem Ki{v:ac}(h:de v=true):(v.kind=2∨v.kind=3∨v.kind=5→v.n.natAbs<1000000000000000000)∧(v.kind=3→0≤v.scale∧v.scale≤12)∧0≤v.kind∧v.kind≤7:=by
 unfold de at h
 simp only at h
 by_cases h0:v.kind=0
 ·exact⟨by omega,by omega,by omega,by omega⟩
 by_cases h1:v.kind=1
 ·exact⟨by omega,by omega,by omega,by omega⟩
 by_cases h2:v.kind=2
 ·simp[h2]at h;exact⟨by omega,by omega,by omega,by omega⟩
 by_cases h3:v.kind=3
 ·simp[h3]at h;exact⟨by omega,by omega,by omega,by omega⟩
 by_cases h4:v.kind=4
 ·exact⟨by omega,by omega,by omega,by omega⟩
 by_cases h5:v.kind=5
 ·simp[h5]at h;exact⟨by omega,by omega,by omega,by omega⟩
 by_cases h6:v.kind=6
 ·exact⟨by omega,by omega,by omega,by omega⟩
 by_cases h7:v.kind=7
 ·exact⟨by omega,by omega,by omega,by omega⟩
 ·simp[h0,h1,h2,h3,h4,h5,h6,h7]at h
theorem Fi(s:ByteArray):(nW s).length=s.size:=by
 unfold nW
 rw[List.length_map,Array.length_toList];rfl
mutual
theorem Bv:∀v,(FF v).length+5≤30*cm v
 |⟨k,n,sc,s,it⟩=>by
  have h1:=NK it
  have h3:=gL it
  have h2:=Fi s
  simp only[FF,cm]
  split
  ·simp;omega
  split
  ·simp;omega
  split
  ·simp[AI];omega
  split
  ·simp[AI];omega
  split
  ·simp;omega
  ·simp;omega
theorem NK:∀l,(Hv l).length≤30*fj l
 |[]=>by simp[Hv]
 |x::l=>by
  have h1:=Bv x
  have h2:=NK l
  simp only[Hv,fj,List.length_append,List.length_cons];omega
end
theorem adu{x:Int}(h0:0≤x)(h1:x<18446744073709551616):IntKind.u64.wrap x=x:=by rw[wu];omega
theorem YU(n:Int)(h0: -9223372036854775808≤n)(h1:n≤9223372036854775807):IntKind.u64.wrap ((IntKind.u64.wrap n)+(9223372036854775808:Int))=(((n+9223372036854775808).toNat:Nat):Int):=by
 rw[wu,wu];omega
theorem Zd{s:Bool}{A:Nat}(hA:A<1000000000000000000000000000000)(b:List Int)(hb:b.length≤4294966000):pf (um s A) b=some ((),b++IB 16 (Pj s A+170141183460469231731687303715884105728).toNat):=by
 unfold pf
 have e1:dk (um (decide ((1:Int)<0)) (Int.natAbs 1)) (9223372036854775808:Int)=some (um false 9223372036854775808):=GU false 1 9223372036854775808 (by decide) (by decide) (by decide)
 have e2:dk (um false 9223372036854775808) (9223372036854775808:Int)=some (um false 85070591730234615865843651857942052864):=GU false 9223372036854775808 9223372036854775808 (by decide) (by decide) (by decide)
 have e3:dk (um false 85070591730234615865843651857942052864) (2:Int)=some (um false 170141183460469231731687303715884105728):=GU false 85070591730234615865843651857942052864 2 (by decide) (by decide) (by decide)
 obtain⟨u,C,p1,p2,p3⟩:=WC false s 170141183460469231731687303715884105728 A (by omega)
 rw[On 1 (by decide) (by decide),ax,H6,e1,ax,H6,e2,ax,H6,e3,ax,H6,H6,p1,ax]
 have hs:Pj false 170141183460469231731687303715884105728=170141183460469231731687303715884105728:=rfl
 rw[hs]at p2
 have hsA: -1000000000000000000000000000000<Pj s A∧Pj s A<1000000000000000000000000000000:=by unfold Pj;split<;>omega
 have hu:u=false∧(C:Int)=Pj s A+170141183460469231731687303715884105728:=by
  unfold Pj at p2 hsA⊢
  cases u
  ·simp at p2;exact⟨rfl,by omega⟩
  ·simp at p2;exfalso;omega
 obtain⟨rfl,hC⟩:=hu
 have hCn:(Pj s A+170141183460469231731687303715884105728).toNat=C:=by omega
 rw[hCn,show(um false C).size.2.1=((wd C 1:Nat):Int)from rfl,show(um false C).size.1=((wd C 0:Nat):Int)from rfl,UC _ _ (by omega),ax]
 simp only
 rw[UC _ _ (by rw[List.length_append,AI];omega),ax]
 simp only
 rw[List.append_assoc,show(16:Nat)=8+8 from rfl,Q2 8 8,wd0,wd1,Nn,Nn,show(256:Nat)^8=18446744073709551616 from by decide]
theorem Om(v:ac):FF v=if v.kind=0 then[8]else if v.kind=1 then[IntKind.u8.wrap v.kind,IntKind.u8.wrap v.n]else if v.kind=2∨v.kind=5 then IntKind.u8.wrap v.kind::IB 8 (v.n+9223372036854775808).toNat
  else if v.kind=3 then IntKind.u8.wrap v.kind::(IB 16 (v.n*cj (12-v.scale).toNat+170141183460469231731687303715884105728).toNat++[IntKind.u8.wrap v.scale])
  else if v.kind=4 then IntKind.u8.wrap v.kind::(nW v.s++[0])else IntKind.u8.wrap v.kind::(Hv v.items++[0]):=by
 cases v;simp only[FF]
theorem KY{l:List ac}{i:Nat}(h:i<l.length):Hv (l.drop i)=(1::FF l[i])++Hv (l.drop (i+1)):=by
 rw[List.drop_eq_getElem_cons h];simp only[Hv]
theorem TI(q:ac→List Int→Option (Unit×List Int))(v:ac)(hl:fj v.items<100000000)(hq:∀x∈v.items,∀b:List Int,b.length+30*cm x≤4294960000→q x b=some ((),b++FF x)):∀(m f i:Nat) (b:List Int),i+m=v.items.length→m<f→b.length+30*fj (v.items.drop i)+10≤4294960000→
  my q v f b (i:Int)=some ((),b++(Hv (v.items.drop i)++[0])):=by
 have hlen:=gL v.items
 intro m
 induction m with
 |zero=>
  intro f i b hi hf hb
  obtain⟨f,rfl⟩:∃q,f=q+1:=⟨f-1,by omega⟩
  rw[my,show decide ((i:Int)<(v.items.length:Int))=false by simp;omega,ah,List.drop_of_length_le (by omega)]
  unfold zT
  rw[bf (by omega)];rfl
 |succ m ih=>
  intro f i b hi hf hb
  obtain⟨f,rfl⟩:∃q,f=q+1:=⟨f-1,by omega⟩
  have hil:i<v.items.length:=by omega
  have hsz:fj (v.items.drop i)=cm v.items[i]+fj (v.items.drop (i+1)):=by rw[List.drop_eq_getElem_cons hil];simp only[fj]
  have hkl:=Bv v.items[i]
  have hpos:=rY v.items[i]
  rw[my,aV hil,ap,aD hil,ax,bf (by omega),hq _ (gV hil) _ (by simp;omega),ax,au hil (by omega)]
  simp only
  rw[ih f (i+1) _ (by omega) (by omega) (by simp;omega),KY hil]
  simp
theorem aem:∀(k:Nat) (v:ac) (b:List Int),Sn v→cm v<k→cm v<100000000→b.length+30*cm v≤4294960000→ig k v b=some ((),b++FF v):=by
 intro k
 induction k with
 |zero=>intro v b _ h;omega
 |succ k ih=>
  intro v b hs hk hv hb
  obtain⟨p1,p2,p3⟩:=Ki hs.pl
  have hpos:=rY v
  have hsz:=xn v
  have hbl:=Fi v.s
  rw[ig,Om]
  by_cases h0:v.kind=0
  ·rw[show(v.kind==0)=true by simpa using h0,ap,bf (by omega),if_pos h0]
  rw[show(v.kind==0)=false by simpa using h0,ah,if_neg h0,bf (by omega)]
  by_cases h1:v.kind=1
  ·rw[show(v.kind==1)=true by simpa using h1,ap,bf (by simp;omega),if_pos h1]
   simp
  rw[show(v.kind==1)=false by simpa using h1,ah,if_neg h1]
  have j25:v.kind=2∨v.kind=5→mH (ig k) v b true=some ((),b++(IntKind.u8.wrap v.kind::IB 8 (v.n+9223372036854775808).toNat)):=by
   intro h25
   have hn:=p1 (by omega)
   unfold mH
   rw[ap,YU v.n (by omega) (by omega),ax,UC _ _ (by simp;omega),ax]
   simp
  have jno:v.kind≠2→v.kind≠5→mH (ig k) v b false=some ((),b++(if v.kind=3 then IntKind.u8.wrap v.kind::(IB 16 (v.n*cj (12-v.scale).toNat+170141183460469231731687303715884105728).toNat++[IntKind.u8.wrap v.scale])
    else if v.kind=4 then IntKind.u8.wrap v.kind::(nW v.s++[0])else IntKind.u8.wrap v.kind::(Hv v.items++[0]))):=by
   intro h2 h5
   unfold mH
   rw[ah]
   by_cases h3:v.kind=3
   ·have hn:=p1 (by omega)
    obtain⟨s0,s12⟩:=p2 h3
    obtain⟨d,hd⟩:∃d:Nat,12-v.scale=(d:Int):=⟨(12-v.scale).toNat,by omega⟩
    have hpd:(10:Nat)^d≤10^12:=Nat.pow_le_pow_right (by decide) (by omega)
    have hA:v.n.natAbs*10^d≤999999999999999999*10^12:=Nat.mul_le_mul (by omega) hpd
    have hA':v.n.natAbs*10^d<1000000000000000000000000000000:=Nat.lt_of_le_of_lt hA (by decide)
    rw[show(v.kind==3)=true by simpa using h3,ap,if_pos h3,jQ (by omega) (by omega),hd,SP v.n d (by omega) (by omega) (by omega) (Nat.lt_trans hA' (by decide)),ax,H6,Zd hA' _ (by simp;omega),ax]
    simp only
    have hsg:Pj (decide (v.n<0)) (v.n.natAbs*10^d)=v.n*cj d:=by
     unfold Pj
     rw[R0,Int.natCast_mul]
     by_cases h:v.n<0
     ·rw[if_pos (by simpa using h),show((v.n.natAbs:Nat):Int)= -v.n by omega,Int.neg_mul,Int.neg_neg]
     ·rw[if_neg (by simpa using h),show((v.n.natAbs:Nat):Int)=v.n by omega]
    rw[bf (by simp[AI];omega),hsg,Int.toNat_natCast]
    simp
   rw[show(v.kind==3)=false by simpa using h3,ah,if_neg h3]
   by_cases h4:v.kind=4
   ·rw[show(v.kind==4)=true by simpa using h4,ap,if_pos h4,bf (by simp;omega),bf (by simp;omega)]
    simp
   rw[show(v.kind==4)=false by simpa using h4,ah,if_neg h4]
   have hq:∀x∈v.items,∀b:List Int,b.length+30*cm x≤4294960000→ig k x b=some ((),b++FF x):=fun x hx b hb=>by
    have:=km hx
    exact ih x b (hs.it x hx) (by omega) (by omega) hb
   have:=TI (ig k) v (by omega) hq v.items.length aH 0 (b++[IntKind.u8.wrap v.kind]) (by omega) (by have:=gL v.items;rw[aJ];omega) (by simp;omega)
   rw[show((0:Nat):Int)=0 from rfl,List.drop_zero]at this
   rw[this];simp
  by_cases h2:v.kind=2
  ·rw[show(v.kind==2)=true by simpa using h2,ap,j25 (.inl h2),if_pos (.inl h2)]
  rw[show(v.kind==2)=false by simpa using h2,ah]
  by_cases h5:v.kind=5
  ·rw[show(v.kind==5)=true by simpa using h5,j25 (.inr h5),if_pos (.inr h5)]
  rw[show(v.kind==5)=false by simpa using h5,jno h2 h5,if_neg (show¬(v.kind=2∨v.kind=5) by omega)]
theorem TG(q:ac→Option (List Int))(v:ac)(hl:fj v.items<100000000)(hq:∀x∈v.items,q x=some (FF x)):∀(m f i:Nat) (b:List Int),i+m=v.items.length→m<f→b.length+30*fj (v.items.drop i)+10≤4294960000→
  rz q v f b (i:Int)=some (b++(Hv (v.items.drop i)++[0])):=by
 have hlen:=gL v.items
 intro m
 induction m with
 |zero=>
  intro f i b hi hf hb
  obtain⟨f,rfl⟩:∃q,f=q+1:=⟨f-1,by omega⟩
  rw[rz,show decide ((i:Int)<(v.items.length:Int))=false by simp;omega,ah,List.drop_of_length_le (by omega)]
  unfold C4 nF
  rw[bf (by omega)];rfl
 |succ m ih=>
  intro f i b hi hf hb
  obtain⟨f,rfl⟩:∃q,f=q+1:=⟨f-1,by omega⟩
  have hil:i<v.items.length:=by omega
  have hsz:fj (v.items.drop i)=cm v.items[i]+fj (v.items.drop (i+1)):=by rw[List.drop_eq_getElem_cons hil];simp only[fj]
  have hkl:=Bv v.items[i]
  have hpos:=rY v.items[i]
  rw[rz,aV hil,ap,bf (by omega),aD hil,ax,hq _ (gV hil),ax,bf (by simp;omega),au hil (by omega)]
  rw[ih f (i+1) _ (by omega) (by omega) (by simp;omega),KY hil]
  simp
theorem adn:∀(k:Nat) (v:ac),Sn v→cm v<k→cm v<100000000→nt k v=some (FF v):=by
 intro k
 induction k with
 |zero=>intro v _ h;omega
 |succ k ih=>
  intro v hs hk hv
  obtain⟨p1,p2,p3⟩:=Ki hs.pl
  have hpos:=rY v
  have hsz:=xn v
  have hbl:=Fi v.s
  rw[nt,Om]
  by_cases h0:v.kind=0
  ·rw[show(v.kind==0)=true by simpa using h0,ap,if_pos h0]
  rw[show(v.kind==0)=false by simpa using h0,ah,if_neg h0]
  by_cases h1:v.kind=1
  ·rw[show(v.kind==1)=true by simpa using h1,ap,bf (by simp),if_pos h1];rfl
  rw[show(v.kind==1)=false by simpa using h1,ah,if_neg h1]
  have j25:v.kind=2∨v.kind=5→qJ (nt k) v true=some (IntKind.u8.wrap v.kind::IB 8 (v.n+9223372036854775808).toNat):=by
   intro h25
   have hn:=p1 (by omega)
   unfold qJ nF
   obtain⟨a,a1,a2⟩:=II v.n (by omega) (by omega)
   obtain⟨h,hh1,hh2⟩:=Yu 8 (by decide) (by decide)
   obtain⟨c,c1,c2⟩:=ab2 a2 hh2 (by omega) (by omega)
   have e:((128*256^(8-1):Nat):Int)=9223372036854775808:=by decide
   rw[e]at c2
   have hf:=TP c2 (by omega) (by omega) 8 (by omega)
   rw[ap,a1,ax,show((8:Int))=((8:Nat):Int)from rfl,hh1,ax,c1,ax,hf,ax,bf (by simp[AI])];rfl
  have jno:v.kind≠2→v.kind≠5→qJ (nt k) v false=some (if v.kind=3 then IntKind.u8.wrap v.kind::(IB 16 (v.n*cj (12-v.scale).toNat+170141183460469231731687303715884105728).toNat++[IntKind.u8.wrap v.scale])
    else if v.kind=4 then IntKind.u8.wrap v.kind::(nW v.s++[0])else IntKind.u8.wrap v.kind::(Hv v.items++[0])):=by
   intro h2 h5
   unfold qJ nF
   rw[ah]
   by_cases h3:v.kind=3
   ·have hn:=p1 (by omega)
    obtain⟨s0,s12⟩:=p2 h3
    obtain⟨d,hd⟩:∃d:Nat,12-v.scale=(d:Int):=⟨(12-v.scale).toNat,by omega⟩
    obtain⟨a,a1,a2⟩:=II v.n (by omega) (by omega)
    obtain⟨t,t1,t2⟩:=abi a2 (k:=d) (by omega) (by omega)
    obtain⟨h,hh1,hh2⟩:=Yu 16 (by decide) (by decide)
    obtain⟨c,c1,c2⟩:=ab2 t2 hh2 (by omega) (by omega)
    have e:((128*256^(16-1):Nat):Int)=170141183460469231731687303715884105728:=by decide
    rw[e]at c2
    have hp12:=xj (show d≤12 by omega)
    have hp0:=p10n d
    have e12:cj 12=1000000000000:=by decide
    have hz:0≤v.n*cj d+170141183460469231731687303715884105728:=by
     have hb1: -(1000000000000000000*cj d)≤v.n*cj d:=by
      rw[←Int.neg_mul]
      exact Int.mul_le_mul_of_nonneg_right (by omega) (by omega)
     omega
    have hf:=TP c2 (by omega) hz 16 (by omega)
    unfold q8
    rw[show(v.kind==3)=true by simpa using h3,ap,if_pos h3,a1,ax,jQ (by omega) (by omega),hd,t1,ax,ax,show((16:Int))=((16:Nat):Int)from rfl,hh1,ax,c1,ax,hf,ax,bf (by simp[AI]),bf (by simp[AI]),Int.toNat_natCast]
    simp
   rw[show(v.kind==3)=false by simpa using h3,ah,if_neg h3]
   by_cases h4:v.kind=4
   ·rw[show(v.kind==4)=true by simpa using h4,ap,if_pos h4,bf (by simp;omega),bf (by simp;omega)]
    simp
   rw[show(v.kind==4)=false by simpa using h4,ah,if_neg h4]
   have hq:∀x∈v.items,nt k x=some (FF x):=fun x hx=>by
    have:=km hx
    exact ih x (hs.it x hx) (by omega) (by omega)
   have:=TG (nt k) v (by omega) hq v.items.length aH 0 [IntKind.u8.wrap v.kind] (by omega) (by have:=gL v.items;rw[aJ];omega) (by simp;omega)
   rw[show((0:Nat):Int)=0 from rfl,List.drop_zero]at this
   rw[this];simp
  by_cases h2:v.kind=2
  ·rw[show(v.kind==2)=true by simpa using h2,ap,j25 (.inl h2),if_pos (.inl h2)]
  rw[show(v.kind==2)=false by simpa using h2,ah]
  by_cases h5:v.kind=5
  ·rw[show(v.kind==5)=true by simpa using h5,j25 (.inr h5),if_pos (.inr h5)]
  rw[show(v.kind==5)=false by simpa using h5,jno h2 h5,if_neg (show¬(v.kind=2∨v.kind=5) by omega)]
def WO(l:List ac)(i:Nat):Bool:= !qg (l.getD i abJ)
theorem Qb{l:List ac}{i:Nat}(h:i<l.length):WO l i= !qg l[i]:=by unfold WO;simp[List.getD,dJ h]
def xX:List ac→List Int
 |[]=>[]
 |x::l=>FF x++xX l
def Ou(l:List ac):List Int:=if(first (WO l) 0 l.length).isSome=true then[]else xX l
theorem Il{l:List ac}{i:Nat}(h:i<l.length):xX (l.drop i)=FF l[i]++xX (l.drop (i+1)):=by
 rw[List.drop_eq_getElem_cons h];simp only[xX]
theorem Lq{l:List ac}{i:Nat}(h:i<l.length):fj (l.drop i)=cm l[i]+fj (l.drop (i+1)):=by rw[List.drop_eq_getElem_cons h];simp only[fj]
theorem acj(l:List ac)(hl:fj l<100000000):cn l=some (first (WO l) 0 l.length).isSome:=by
 have hlen:=gL l
 unfold cn dI
 have h:=tW (f:=fun k i=>aK l k (i:Int)) (n:=l.length) (P:=WO l) (A:=fun i=>some (i:Int)) (B:=some (-1))
  (fun k i hi=>by
   have:=km (gV hi)
   show aK l (k+1) (i:Int)=_
   rw[aK]
   unfold C5
   rw[aV hi,ap,aD hi,ax,Bb _ (by omega),ax,ax,Qb hi,au hi (by omega),aC])
  (fun k=>by
   show aK l (k+1) (l.length:Int)=_
   rw[aK,show decide ((l.length:Int)<(l.length:Int))=false by simp,ah];rfl)
  aH 0 (by omega) (by rw[aJ];omega)
 have h':aK l aH 0=(first (WO l) 0 l.length).elim (some (-1)) (fun i=>some (i:Int)):=h
 rw[h']
 cases first (WO l) 0 l.length with
 |none=>rfl
 |some i=>simp[Option.elim,ax]
theorem Tj{l:List ac}(hl:fj l<100000000)(hs:∀x∈l,Sn x):∀(m f i:Nat) (b:List Int),i+m=l.length→m<f→b.length+30*fj (l.drop i)≤4294960000→o5 l f b (i:Int)=some (b++xX (l.drop i)):=by
 have hlen:=gL l
 intro m
 induction m with
 |zero=>
  intro f i b hi hf hb
  obtain⟨f,rfl⟩:∃q,f=q+1:=⟨f-1,by omega⟩
  rw[o5,show decide ((i:Int)<(l.length:Int))=false by simp;omega,ah,List.drop_of_length_le (by omega)]
  unfold B4 qe
  rw[bf (by omega)]
  simp[ax,xX]
 |succ m ih=>
  intro f i b hi hf hb
  obtain⟨f,rfl⟩:∃q,f=q+1:=⟨f-1,by omega⟩
  have hil:i<l.length:=by omega
  have hsz:=Lq hil
  have hkl:=Bv l[i]
  have:=km (gV hil)
  rw[o5,aV hil,ap,aD hil,ax,aem aH _ _ (hs _ (gV hil)) (by rw[aJ];omega) (by omega) (by omega),ax,au hil (by omega)]
  simp only
  rw[ih f (i+1) _ (by omega) (by omega) (by simp;omega),Il hil,List.append_assoc]
theorem S5{l:List ac}(hl:fj l<100000000):∀(m f i:Nat) (b:List Int),i+m=l.length→m<f→b.length+30*fj (l.drop i)≤4294960000→rt l f b (i:Int)=some (if(first (WO l) i l.length).isSome=true then[]else b++xX (l.drop i)):=by
 have hlen:=gL l
 intro m
 induction m with
 |zero=>
  intro f i b hi hf hb
  obtain⟨f,rfl⟩:∃q,f=q+1:=⟨f-1,by omega⟩
  have:i=l.length:=by omega
  subst this
  rw[rt,show decide ((l.length:Int)<(l.length:Int))=false by simp,ah,uh,List.drop_length]
  simp[xX,C2]
 |succ m ih=>
  intro f i b hi hf hb
  obtain⟨f,rfl⟩:∃q,f=q+1:=⟨f-1,by omega⟩
  have hil:i<l.length:=by omega
  have hsz:=Lq hil
  have hkl:=Bv l[i]
  have:=km (gV hil)
  rw[rt,aV hil,ap,aD hil,ax,MY _ (by omega),ax,ua hil,Qb hil]
  cases hs:qg l[i]
  ·rw[Bool.not_false,ap];simp
  ·rw[Bool.not_true,ah,adn aH _ (VI hs) (by rw[aJ];omega) (by omega),ax,bf (by omega),au hil (by omega)]
   rw[ih f (i+1) _ (by omega) (by omega) (by simp;omega),Il hil,List.append_assoc]
   simp
theorem adI(l:List ac)(hl:fj l<100000000):DV l=some (Ou l):=by
 have hlen:=gL l
 unfold DV Ou
 rw[acj l hl,ax]
 cases hf:first (WO l) 0 l.length with
 |some i=>rfl
 |none=>
  have hg:=zO.1 hf
  have hs:∀x∈l,Sn x:=fun x hx=>by
   obtain⟨i,hi,rfl⟩:=List.getElem_of_mem hx
   have:=hg i (Nat.zero_le _) hi
   rw[Qb hi]at this
   exact VI (by simpa using this)
  have:=Tj hl hs l.length aH 0 [] (by omega) (by rw[aJ];omega) (by simp;omega)
  rw[List.drop_zero,List.nil_append]at this
  simp only[Option.isSome_none,ah,Bool.false_eq_true,if_false]
  exact this
theorem aea(l:List ac)(hl:fj l<100000000):F2 l=some (Ou l):=by
 have hlen:=gL l
 unfold F2 Ou
 have:=S5 hl l.length aH 0 [] (by omega) (by rw[aJ];omega) (by simp;omega)
 rw[List.drop_zero,List.nil_append]at this
 exact this
theorem I3:∀l,(xX l).length≤30*fj l
 |[]=>by simp[xX]
 |x::l=>by
  have:=Bv x
  have:=I3 l
  simp only[xX,fj,List.length_append];omega
theorem Wl(l:List ac):(Ou l).length≤30*fj l:=by
 unfold Ou
 split
 ·simp
 ·exact I3 l
theorem aax(b:List Int)(hb:b.length<1000000000):∀(m f i:Nat) (x:Int),i+m=b.length→m<f→∃h,iP b f x (i:Int)=some h∧rx b f x (i:Int)=some h:=by
 intro m
 induction m with
 |zero=>
  intro f i x hi hf
  obtain⟨f,rfl⟩:∃q,f=q+1:=⟨f-1,by omega⟩
  rw[iP,rx,show decide ((i:Int)<(b.length:Int))=false by simp;omega,ah,ah]
  exact⟨x,rfl,rfl⟩
 |succ m ih=>
  intro f i x hi hf
  obtain⟨f,rfl⟩:∃q,f=q+1:=⟨f-1,by omega⟩
  have hil:i<b.length:=by omega
  rw[iP,rx,aV hil,ap,ap,aD hil]
  simp only[ax]
  rw[au hil hb]
  exact ih f (i+1) _ (by omega) (by omega)
theorem XT(v:ac)(hv:cm v<10000000):∃h,yW v=some h∧Bt v=some h:=by
 have hl:fj [v]<100000000:=by simp only[fj];omega
 have hk:=Wl [v]
 simp only[fj]at hk
 obtain⟨h,h1,h2⟩:=aax (Ou [v]) (by omega) (Ou [v]).length aH 0 14695981039346656037 (by omega) (by rw[aJ];omega)
 refine⟨h,?_,?_⟩
 ·unfold yW xL
  rw[adI _ hl,ax,show((0:Int))=((0:Nat):Int)from rfl,h1];rfl
 ·unfold Bt JV
  rw[aea _ hl,ax,show((0:Int))=((0:Nat):Int)from rfl,h2];rfl
end Go.Proofs.YtpiohnabdhpphaaGreatDoor
namespace Go.Proofs.YtpiohnabdhpphaaGreatDoor.Tm
open Go Go.SX Go.SX.Cal
open Go.IntKind (i64)
theorem ap{β:Type}(x y:Option β):aj true x y=x:=rfl
theorem ah{β:Type}(x y:Option β):aj false x y=y:=rfl
theorem aC{β:Type}(b:Bool)(x y:Option β):aj b x y=if b=true then x else y:=by cases b<;>rfl
theorem xl{a b:Int}(hb:0<b)(hb2:b≤1000000)(h1: -1000000000000000≤a)(h2:a≤1000000000000000):oQ a b=some (a/b,a%b):=by
 unfold oQ rB
 rw[bf (by omega),bf (by omega)]
 have hq: -1000000000000000≤a/b∧a/b≤1000000000000000:=by
  have e:a=b*(a/b)+a%b:=(Int.mul_ediv_add_emod a b).symm
  have r0:=Int.emod_nonneg a (show b≠0 by omega)
  have r1:=Int.emod_lt_of_pos a hb
  constructor
  ·apply Int.le_ediv_of_mul_le hb
   have: -1000000000000000*b≤-1000000000000000*1:=by apply Int.mul_le_mul_of_nonpos_left<;>omega
   omega
  ·apply Int.ediv_le_of_le_mul hb
   have:1000000000000000*1≤1000000000000000*b:=by apply Int.mul_le_mul_of_nonneg_left<;>omega
   omega
 have r0:=Int.emod_nonneg a (show b≠0 by omega)
 have r1:=Int.emod_lt_of_pos a hb
 rw[Int.tdiv_eq_ediv,Int.tmod_eq_emod]
 have hs:b.sign=1:=Int.sign_eq_one_of_pos hb
 have hn:(b.natAbs:Int)=b:=by omega
 by_cases hc:0≤a∨b∣a
 ·simp only[hc,if_true,Int.natCast_zero,Int.ofNat_zero,Int.cast_ofNat_Int,Int.sub_zero,Int.add_zero]
  rw[show decide (a%b<0)=false by simp;omega,ah,jQ (by omega) (by omega)]
 ·simp only[hc,if_false,hs,hn]
  have hne:a%b≠0:=fun h=>hc (.inr (Int.dvd_of_emod_eq_zero h))
  rw[show decide (a%b-b<0)=true by simp;omega,ap]
  simp(disch:=omega) only[jQ]
  rw[show a/b+1-1=a/b by omega,show a%b-b+b=a%b by omega]
theorem days_eq{y m d:Int}(h1: -1000000≤y)(h2:y≤1000000)(h3:1≤m)(h4:m≤12)(h5: -100≤d)(h6:d≤100):tU y m d=some (Cal.days y m d):=by
 have key:∀y' m',-1000001≤y'→y'≤1000001→3≤m'→m'≤14→sP d y' m'=some (y'/400*146097+S (y'%400)+sM (m'-3)+d-1-719468):=by
  intro y' m' a1 a2 a3 a4
  unfold sP
  rw[xl (by decide) (by decide) (by omega) (by omega)]
  simp only[az]
  have hr:0≤y'%400∧y'%400≤399:=by omega
  simp(disch:=omega) only[jQ,Int.tdiv_eq_ediv_of_nonneg]
  unfold S sM
  congr 1
  omega
 unfold tU Cal.days
 by_cases hm:m≤2
 ·simp only[hm,decide_true,ap,if_true]
  simp(disch:=omega) only[jQ]
  rw[key _ _ (by omega) (by omega) (by omega) (by omega),show m+12-3=m+9 by omega]
 ·simp only[hm,decide_false,ah,if_false]
  rw[key _ _ (by omega) (by omega) (by omega) (by omega)]
theorem XM{y:Int}(h0:0≤y)(h1:y≤399):0≤S y∧S y≤146096:=by unfold S;omega
theorem Xw{n:Int}(h1: -1000000000≤n)(h2:n≤1000000000):B9 n=some (Cal.date n):=by
 unfold B9 xf
 rw[jQ (by omega) (by omega),xl (by decide) (by decide) (by omega) (by omega)]
 simp only[az]
 have hr0:0≤(n+719468)%146097:=by omega
 have hr1:(n+719468)%146097≤146096:=by omega
 have he: -10000≤(n+719468)/146097∧(n+719468)/146097≤10000:=by omega
 obtain⟨b0,b1⟩:=F8 hr0 hr1
 obtain⟨s0,s1,_⟩:=Yl hr0 hr1
 unfold Cal.date
 simp only
 generalize (n+719468)%146097=r at*
 generalize (n+719468)/146097=era at*
 have e1:i64.wrap (i64.wrap (i64.wrap (r-i64.wrap (r.tdiv 1460))+i64.wrap (r.tdiv 36524))-i64.wrap (r.tdiv 146096))=r-r/1460+r/36524-r/146096:=by
  simp(disch:=omega) only[jQ,Int.tdiv_eq_ediv_of_nonneg]
 rw[e1]
 have e2:i64.wrap ((r-r/1460+r/36524-r/146096).tdiv 365)=yr r:=by
  rw[Int.tdiv_eq_ediv_of_nonneg (by omega)]
  exact jQ (by unfold yr at*;omega) (by unfold yr at*;omega)
 rw[e2]
 generalize yr r=y at*
 have hS:=XM b0 b1
 have e3:i64.wrap (i64.wrap (i64.wrap (y*365)+i64.wrap (y.tdiv 4))-i64.wrap (y.tdiv 100))=S y:=by
  simp(disch:=omega) only[jQ,Int.tdiv_eq_ediv_of_nonneg]
  unfold S;omega
 rw[e3]
 have hk:0≤r-S y∧r-S y≤365:=by omega
 rw[jQ (x:=r-S y) (by omega) (by omega)]
 generalize r-S y=k at*
 have e4:i64.wrap ((i64.wrap (i64.wrap (5*k)+2)).tdiv 153)=(5*k+2)/153:=by
  simp(disch:=omega) only[jQ,Int.tdiv_eq_ediv_of_nonneg]
 rw[e4]
 have hm:0≤(5*k+2)/153∧(5*k+2)/153≤11:=by omega
 generalize (5*k+2)/153=m at*
 unfold sM
 simp(disch:=omega) only[jQ,Int.tdiv_eq_ediv_of_nonneg]
 by_cases hc:(12:Int)<m+3
 ·simp only[hc,decide_true,ap,if_true,gt_iff_lt]
 ·simp only[hc,decide_false,ah,if_false,gt_iff_lt]
def civ(s:Int):oY:=⟨(Cal.date (s/86400)).1,(Cal.date (s/86400)).2.1,(Cal.date (s/86400)).2.2,s%86400/3600,s%86400%3600/60,s%86400%60⟩
theorem civil_eq{s:Int}(h1: -1000000000000≤s)(h2:s≤1000000000000):xB s=some (civ s):=by
 unfold xB
 rw[xl (by decide) (by decide) (by omega) (by omega)]
 simp only[az]
 rw[Xw (by omega) (by omega)]
 simp only[az]
 have:0≤s%86400∧s%86400<86400:=by omega
 unfold civ
 generalize s%86400=t at*
 simp(disch:=omega) only[jQ,Int.tdiv_eq_ediv_of_nonneg,Int.tmod_eq_emod_of_nonneg]
theorem I7{y m d:Int}(h1: -20000≤y)(h2:y≤20000)(h3:1≤m)(h4:m≤12)(h5: -100≤d)(h6:d≤100): -10000000≤Cal.days y m d∧Cal.days y m d≤10000000:=by
 unfold Cal.days S sM;split<;>omega
def sec(c:oY):Int:=Cal.days c.year c.month c.day*86400+c.hour*3600+c.minute*60+c.second
structure ad0(c:oY):Prop where
 y0: -20000≤c.year
 y1:c.year≤20000
 m0:1≤c.month
 m1:c.month≤12
 d0: -100≤c.day
 d1:c.day≤100
 h0:0≤c.hour
 h1:c.hour≤23
 i0:0≤c.minute
 i1:c.minute≤59
 s0:0≤c.second
 s1:c.second≤59
theorem Hi(a b:Int):(a.tmod b==0)=(a%b==0):=by
 have:a.tmod b=0↔a%b=0:=by
  rw[←Int.dvd_iff_tmod_eq_zero,←Int.dvd_iff_emod_eq_zero]
 by_cases h:a%b=0
 ·rw[h,this.2 h]
 ·have h2:a.tmod b≠0:=fun e=>h (this.1 e)
  rw[beq_eq_false_iff_ne.2 h2,beq_eq_false_iff_ne.2 h]
theorem XC(y:Int):BX y=some (decide (Ci y)):=by
 unfold BX s6
 have e2:((y.tmod 100) != 0)= !(y%100==0):=by rw[bne,Hi]
 rw[Hi,Hi,e2]
 unfold Ci
 by_cases a:y%4=0
 ·by_cases b:y%100=0
  ·by_cases c:y%400=0
   ·simp[a,b,c,aC]
   ·simp[a,b,c,aC]
  ·simp[a,b,aC]
 ·simp[a,aC]
theorem TD{y m:Int}:yA y m=some (KM y m):=by
 unfold yA ni KM
 rw[XC]
 simp only[az]
 by_cases h2:m=2
 ·subst h2
  by_cases hl:Ci y<;>simp[hl,aC]
 by_cases h4:m=4
 ·subst h4;simp[aC]
 by_cases h6:m=6
 ·subst h6;simp[aC]
 by_cases h9:m=9
 ·subst h9;simp[aC]
 by_cases h11:m=11
 ·subst h11;simp[aC]
 simp[h2,h4,h6,h9,h11,aC]
theorem BC(y m:Int):28≤KM y m∧KM y m≤31:=by
 unfold KM;split<;>(try split)<;>(try split)<;>omega
theorem within_eq(a b c:Int):dR a b c=some (decide (b≤a∧a≤c)):=by
 unfold dR nf
 by_cases h:b≤a<;>by_cases k:a≤c<;>simp[h,k,aC]
theorem aJ:aH=1152921504606846976:=rfl
structure X3(t:kF):Prop where
 m0:1≤t.month
 m1:t.month≤12
 w0:1≤t.week
 w1:t.week≤5
 d0:1≤t.weekday
 d1:t.weekday≤7
 i0:0≤t.minute
 i1:t.minute≤1440
def atN(t:kF)(y:Int):Int:=Cal.days y t.month 1+(t.weekday-((Cal.days y t.month 1+3)%7+1)+7)%7
def OF(t:kF)(y:Int):Int:=
 if t.week<5 then atN t y+(t.week-1)*7 else atN t y+7*((Cal.days y t.month 1+KM y t.month-1-atN t y)/7)
theorem Tk{t:kF}(y:Int):Cal.days y t.month 1≤atN t y∧atN t y≤Cal.days y t.month 1+6:=by unfold atN;omega
theorem An{t:kF}(ht:X3 t)(y:Int):Cal.days y t.month 1≤OF t y∧OF t y≤Cal.days y t.month 1+30:=by
 have:=Tk (t:=t) y
 have hd:=BC y t.month
 have:=ht.w0
 unfold OF;split<;>omega
structure ZOk(z:iJ):Prop where
 o0: -720≤z.offset
 o1:z.offset≤720
 s:z.summer=0∨(X3 z.start∧X3 z.stop∧(z.summer=30∨z.summer=60)∧z.start.minute=120∧((z.start.month=3∧10≤z.stop.month∧z.stop.month≤11)∨(z.start.month=10∧z.stop.month=4)))
def Wp(z:iJ)(m:Int):Int:=(Cal.date ((m+z.offset*60)/86400)).1
def bgn(z:iJ)(y:Int):Int:=OF z.start y*86400+z.start.minute*60-z.offset*60
def fin(z:iJ)(y:Int):Int:=OF z.stop y*86400+z.stop.minute*60-z.offset*60-z.summer*60
def S2(z:iJ)(m:Int):Prop:=if fin z (Wp z m)≤bgn z (Wp z m)then m<fin z (Wp z m)∨bgn z (Wp z m)≤m else bgn z (Wp z m)≤m∧m<fin z (Wp z m)
instance(z:iJ)(m:Int):Decidable (S2 z m):=by unfold S2;infer_instance
def ahd(z:iJ)(m:Int):Int:=if z.summer=0 then z.offset*60 else if S2 z m then z.offset*60+z.summer*60 else z.offset*60
theorem P9{n:Int}(h1: -5000000≤n)(h2:n≤5000000): -20000≤(Cal.date n).1∧(Cal.date n).1≤20000:=by
 obtain⟨b0,b1⟩:=F8 (r:=(n+719468)%146097) (by omega) (by omega)
 simp only[Cal.date]
 split<;>omega
theorem civ_ok{s:Int}(h1: -400000000000≤s)(h2:s≤400000000000):ad0 (civ s)∧sec (civ s)=s∧1≤(civ s).day∧(civ s).day≤KM (civ s).year (civ s).month:=by
 obtain⟨e,m0,m1,d0,d1⟩:=Ma (s/86400)
 have hy:=P9 (n:=s/86400) (by omega) (by omega)
 have hd:=BC (Cal.date (s/86400)).1 (Cal.date (s/86400)).2.1
 refine⟨⟨hy.1,hy.2,m0,m1,?_,?_,?_,?_,?_,?_,?_,?_⟩,?_,d0,d1⟩
 ·show -100≤(Cal.date (s/86400)).2.2;omega
 ·show(Cal.date (s/86400)).2.2≤100;omega
 ·show 0≤s%86400/3600;omega
 ·show s%86400/3600≤23;omega
 ·show 0≤s%86400%3600/60;omega
 ·show s%86400%3600/60≤59;omega
 ·show 0≤s%86400%60;omega
 ·show s%86400%60≤59;omega
 ·show Cal.days (Cal.date (s/86400)).1 (Cal.date (s/86400)).2.1 (Cal.date (s/86400)).2.2*86400+s%86400/3600*3600+s%86400%3600/60*60+s%86400%60=s
  rw[e];omega
def chk(c:oY):Prop:=1≤c.year∧c.year≤9999∧1≤c.month∧c.month≤12∧1≤c.day∧c.day≤KM c.year c.month∧0≤c.hour∧c.hour≤23∧0≤c.minute∧c.minute≤59∧0≤c.second∧c.second≤59
instance(c:oY):Decidable (chk c):=by unfold chk;infer_instance
def J(z:iJ)(y:Int):Int:=Cal.days y 1 1*86400-z.offset*60
theorem Rp{z:iJ}{m y:Int}:Wp z m=y↔J z y≤m∧m<J z (y+1):=by
 unfold Wp J
 rw[Kf]
 omega
theorem Ra(y:Int):Cal.days y 3 1=E y∧Cal.days y 4 1=E y+31∧Cal.days y 10 1=E y+214∧Cal.days y 11 1=E y+245∧Cal.days (y+1) 1 1=E y+306∧E y-60≤Cal.days y 1 1∧Cal.days y 1 1≤E y-59:=by
 rw[zI,zI,show y+1-1=y by omega]
 have hE:=Mn (y-1)
 rw[show y-1+1=y by omega]at hE
 simp only[C1]
 simp[sM]
 omega
theorem abI{z:iJ}(hz:ZOk z)(hs:z.summer≠0){m:Int}(y:Int)(h1:J z y-1728000≤m)(h2:m<J z y+1728000):ahd z m=if z.start.month=3 then z.offset*60 else z.offset*60+z.summer*60:=by
 obtain⟨o0,o1,hss⟩:=hz
 rcases hss with h|⟨t1,t2,hsu,hmin,hmo⟩
 ·exact absurd h hs
 have key:(z.start.month=3∧¬S2 z m)∨(z.start.month≠3∧S2 z m):=by
  unfold S2
  by_cases hy:J z y≤m
  ·have h366:=Hc y
   have hyo:Wp z m=y:=Rp.2 ⟨hy,by unfold J at*;omega⟩
   rw[hyo]
   obtain⟨e3,e4,e10,e11,en,ej0,ej1⟩:=Ra y
   have b1:=An t1 y
   have b2:=An t2 y
   have i3:=t2.i0;have i4:=t2.i1
   unfold bgn fin
   unfold J at*
   rcases hmo with⟨m1,m2,m3⟩ |⟨m1,m2⟩
   ·rw[m1,e3]at b1
    refine .inl ⟨m1,?_⟩
    have hst:z.stop.month=10∨z.stop.month=11:=by omega
    rcases hst with hst|hst
    ·rw[hst,e10]at b2
     rw[if_neg (by omega)];omega
    ·rw[hst,e11]at b2
     rw[if_neg (by omega)];omega
   ·rw[m1,e10]at b1
    rw[m2,e4]at b2
    refine .inr ⟨by omega,?_⟩
    rw[if_pos (by omega)];omega
  ·have h366:=Hc (y-1)
   rw[show y-1+1=y by omega]at h366
   have hyo:Wp z m=y-1:=Rp.2 ⟨by unfold J at*;omega,by rw[show y-1+1=y by omega];omega⟩
   rw[hyo]
   obtain⟨e3,e4,e10,e11,en,ej0,ej1⟩:=Ra (y-1)
   rw[show y-1+1=y by omega]at en
   have b1:=An t1 (y-1)
   have b2:=An t2 (y-1)
   have i3:=t2.i0;have i4:=t2.i1
   unfold bgn fin
   unfold J at*
   rcases hmo with⟨m1,m2,m3⟩ |⟨m1,m2⟩
   ·rw[m1,e3]at b1
    refine .inl ⟨m1,?_⟩
    have hst:z.stop.month=10∨z.stop.month=11:=by omega
    rcases hst with hst|hst
    ·rw[hst,e10]at b2
     rw[if_neg (by omega)];omega
    ·rw[hst,e11]at b2
     rw[if_neg (by omega)];omega
   ·rw[m1,e10]at b1
    rw[m2,e4]at b2
    refine .inr ⟨by omega,?_⟩
    rw[if_pos (by omega)];omega
 unfold ahd
 rw[if_neg hs]
 rcases key with⟨k1,k2⟩ |⟨k1,k2⟩
 ·rw[if_neg k2,if_pos k1]
 ·rw[if_pos k2,if_neg k1]
theorem Fu:Cal.days 1 1 1= -719162:=by decide+kernel
theorem first{z:iJ}(hz:ZOk z){m:Int}(hs:z.summer≠0)(h:ahd z m=z.offset*60)(hx:ahd z (m-z.summer*60)=z.offset*60+z.summer*60)(hm:(-62135596800)≤m):(-62135596800)≤m-z.summer*60:=by
 apply Classical.byContradiction
 intro hn
 have hsu:z.summer=30∨z.summer=60:=by rcases hz.s with h|⟨_,_,h,_⟩<;>omega
 have o0:=hz.o0;have o1:=hz.o1
 have n1:=abI hz hs (m:=m) 1 (by unfold J;rw[Fu];omega) (by unfold J;rw[Fu];omega)
 have n2:=abI hz hs (m:=m-z.summer*60) 1 (by unfold J;rw[Fu];omega) (by unfold J;rw[Fu];omega)
 rw[n1]at h;rw[n2]at hx
 split at h<;>omega
theorem Tu{a b:Int}(hb:0<b)(hb2:b≤1000000)(h1: -1000000000000000≤a)(h2:a≤1000000000000000):zL a b=some (a/b):=by
 have hf:=xl hb hb2 h1 h2
 unfold oQ rB at hf
 unfold zL wY wJ
 rw[bf (by omega),bf (by omega)]at hf⊢
 have hsgn:decide (b<0)=false:=by simp;omega
 rw[hsgn]
 by_cases h0:a.tmod b=0
 ·rw[h0]at hf⊢
  rw[show decide ((0:Int)<0)=false from rfl,ah]at hf
  rw[show((0:Int) != 0)=false from rfl,ah,ah]
  have:=congrArg (Option.map Prod.fst) hf
  simpa using this
 ·have hne:(a.tmod b != 0)=true:=by simp[h0]
  rw[hne,ap]
  by_cases ha:a<0
  ·have hneg:a.tmod b<0:=by
    have r1:=Int.emod_lt_of_pos a hb
    have r0:=Int.emod_nonneg a (show b≠0 by omega)
    have e:=Int.tmod_eq_emod (a:=a) (b:=b)
    by_cases hd:b∣a
    ·exfalso
     exact h0 (Int.tmod_eq_zero_of_dvd hd)
    ·rw[if_neg (by omega)]at e
     have:(b.natAbs:Int)=b:=by omega
     omega
   rw[show decide (a.tmod b<0)=true by simpa using hneg,ap]at hf
   rw[show decide (a<0)=true by simpa using ha]
   have:=congrArg (Option.map Prod.fst) hf
   simpa [aC]using this
  ·have hpos:¬a.tmod b<0:=by
    have:=Int.tmod_nonneg (a:=a) b (by omega)
    omega
   rw[show decide (a.tmod b<0)=false by simpa using hpos,ah]at hf
   rw[show decide (a<0)=false by simpa using ha]
   have:=congrArg (Option.map Prod.fst) hf
   simpa [aC]using this
theorem WD{y m:Int}:oH y m=some (KM y m):=TD
theorem rwithin_eq(a b c:Int):fM a b c=some (decide (b≤a∧a≤c)):=within_eq a b c
theorem OD:Cal.days 0 1 1= -719528:=by decide+kernel
theorem FR{y:Int}(h1:0≤y)(h2:y≤20000):ou y=some (Cal.days y 1 1):=by
 unfold ou qk
 by_cases hy:0<y
 ·rw[show decide (0<y)=true by simpa using hy,ap]
  simp only[az]
  simp(disch:=omega) only[jQ,Int.tdiv_eq_ediv_of_nonneg]
  congr 1
  rw[zI]
  unfold E S
  omega
 ·have:y=0:=by omega
  subst this
  rw[OD];rfl
theorem EM(y k:Int)(h1:1≤k)(h2:k≤11):Cal.days y (k+1) 1=Cal.days y k 1+KM y k:=by
 have hE:=Mn (y-1)
 rw[show y-1+1=y by omega]at hE
 rw[C1,C1]
 unfold KM
 have hc:k=1∨k=2∨k=3∨k=4∨k=5∨k=6∨k=7∨k=8∨k=9∨k=10∨k=11:=by omega
 rcases hE with⟨hl,hE⟩ |⟨hl,hE⟩<;>simp only[hl,if_true,if_false]<;>rcases hc with rfl|rfl|rfl|rfl|rfl|rfl|rfl|rfl|rfl|rfl|rfl<;>simp[sM]<;>omega
theorem TZ(y m d:Int):Cal.days y m d=Cal.days y m 1+d-1:=by
 rw[C1,C1];split<;>omega
theorem Na{s Y M D:Int}(hs1: -1000000000000≤s)(hs2:s≤1000000000000)(hY:0≤Y)(hY2:Y≤20000)(hM1:1≤M)(hM2:M≤12)(hD1:1≤D)(hD2:D≤KM Y M)(hn:Cal.days Y M D=s/86400):
  ∀(k:Nat) (b:Int),1≤b→b≤M→M-b<k→pW s (s/86400) Y k b (s/86400-Cal.days Y b 1)=some ⟨Y,M,D,s%86400/3600,s%86400%3600/60,s%86400%60⟩:=by
 intro k
 induction k with
 |zero=>intro b h1 h2 h3;omega
 |succ k ih=>
  intro b h1 h2 h3
  rw[pW]
  have hd:=BC Y b
  have hdM:=BC Y M
  have hbd:=I7 (y:=Y) (m:=b) (d:=1) (by omega) (by omega) h1 (by omega) (by decide) (by decide)
  rw[WD]
  simp only[az]
  by_cases hb:b<M
  ·have hle:KM Y b≤s/86400-Cal.days Y b 1:=by
    have e1:=EM Y b h1 (by omega)
    have mono:∀(j:Nat),b+1+j≤M→Cal.days Y (b+1) 1≤Cal.days Y (b+1+j) 1:=by
     intro j
     induction j with
     |zero=>intro _;simp
     |succ j ihj=>
      intro hj
      have:=ihj (by omega)
      have e2:=EM Y (b+1+j) (by omega) (by omega)
      have e3:=BC Y (b+1+j)
      rw[show b+1+((j+1:Nat):Int)=b+1+j+1 by omega,e2]
      omega
    have:=mono (M-(b+1)).toNat (by omega)
    rw[show b+1+((M-(b+1)).toNat:Int)=M by omega]at this
    have e4:=TZ Y M D
    omega
   rw[show decide (KM Y b≤s/86400-Cal.days Y b 1)=true by simpa using hle,ap]
   rw[jQ (by omega) (by omega),jQ (by omega) (by omega),show s/86400-Cal.days Y b 1-KM Y b=s/86400-Cal.days Y (b+1) 1 by rw[EM Y b h1 (by omega)];omega]
   exact ih (b+1) (by omega) (by omega) (by omega)
  ·have:b=M:=by omega
   subst this
   have e4:=TZ Y b D
   rw[show decide (KM Y b≤s/86400-Cal.days Y b 1)=false by simp;omega,ah]
   unfold AX
   have ht:0≤s-86400*(s/86400)∧s-86400*(s/86400)<86400:=by omega
   simp(disch:=omega) only[jQ,Int.tdiv_eq_ediv_of_nonneg,Int.tmod_eq_emod_of_nonneg]
   simp only[az]
   have e5:s-86400*(s/86400)=s%86400:=by omega
   rw[e5,show s/86400-Cal.days Y b 1+1=D by omega]
   have e6:s%86400/60%60=s%86400%3600/60:=by omega
   simp(disch:=omega) only[jQ,Int.tmod_eq_emod_of_nonneg]
   rw[e6]
theorem O7{s Y:Int}(hs1: -1000000000000≤s)(hs2:s≤1000000000000)(hYd:(Cal.date (s/86400)).1=Y):∀(k:Nat) (lo hi:Int),0≤lo→lo≤Y→Y<hi→hi≤10001→hi-lo≤k→
  nY s (s/86400) k lo hi=some (civ s):=by
 intro k
 induction k with
 |zero=>intro lo hi a b c d e;omega
 |succ k ih=>
  intro lo hi a b c d e
  rw[nY]
  rw[jQ (x:=hi-lo) (by omega) (by omega),jQ (x:=lo+hi) (by omega) (by omega)]
  by_cases h1:1<hi-lo
  ·rw[show decide (1<hi-lo)=true by simpa using h1,ap]
   simp(disch:=omega) only[jQ,Int.tdiv_eq_ediv_of_nonneg]
   rw[FR (by omega) (by omega)]
   simp only[az]
   obtain⟨y1,y2⟩:=Kf.1 hYd
   by_cases hm:(lo+hi)/2≤Y
   ·have:=yM hm
    rw[show decide (Cal.days ((lo+hi)/2) 1 1≤s/86400)=true by simp;omega,ap]
    exact ih _ _ (by omega) hm c d (by omega)
   ·have:=yM (y:=Y+1) (z:=(lo+hi)/2) (by omega)
    rw[show decide (Cal.days ((lo+hi)/2) 1 1≤s/86400)=false by simp;omega,ah]
    exact ih _ _ a b (by omega) (by omega) (by omega)
  ·rw[show decide (1<hi-lo)=false by simpa using h1,ah]
   have:lo=Y:=by omega
   subst this
   unfold AZ
   rw[FR (by omega) (by omega)]
   simp only[az]
   have hb:=I7 (y:=lo) (m:=1) (d:=1) (by omega) (by omega) (by decide) (by decide) (by decide) (by decide)
   rw[jQ (by omega) (by omega)]
   obtain⟨e1,m0,m1,d0,d1⟩:=Ma (s/86400)
   rw[hYd]at e1 d1
   have:=Na hs1 hs2 (by omega) (by omega) m0 m1 d0 d1 e1 aH 1 (by decide) m0 (by rw[aJ];omega)
   rw[this]
   unfold civ
   rw[hYd]
theorem rcivil_eq{s:Int}(hs1: -1000000000000≤s)(hs2:s≤1000000000000)(h0:0≤(Cal.date (s/86400)).1)(h1:(Cal.date (s/86400)).1≤10000):yU s=some (civ s):=by
 unfold yU
 rw[Tu (by decide) (by decide) (by omega) (by omega)]
 simp only[az]
 exact O7 hs1 hs2 rfl aH 0 10001 (by decide) h0 (by omega) (by decide) (by rw[aJ];decide)
theorem years_of{s:Int}(h1: -62160000000≤s)(h2:s≤253402400799):0≤(Cal.date (s/86400)).1∧(Cal.date (s/86400)).1≤10000:=by
 obtain⟨a1,a2⟩:=(Kf (n:=s/86400) (y:=(Cal.date (s/86400)).1)).1 rfl
 have e0:=OD
 have e1:Cal.days 10001 1 1=2933263:=by decide+kernel
 constructor
 ·apply Classical.byContradiction
  intro hn
  have:=yM (y:=(Cal.date (s/86400)).1+1) (z:=0) (by omega)
  omega
 ·apply Classical.byContradiction
  intro hn
  have:=yM (y:=10001) (z:=(Cal.date (s/86400)).1) (by omega)
  omega
end Go.Proofs.YtpiohnabdhpphaaGreatDoor.Tm
namespace Go.Proofs.YtpiohnabdhpphaaGreatDoor
open Go Go.SX Go.SX.Cal Go.Lib
open Go.IntKind (i64)
theorem YW(r:Int):(Utf8.encode r).data.toList=encodeRune r:=by
 unfold Utf8.encode
 rw[validRune_eq]
 unfold validRune
 by_cases hv:(0≤r∧r<55296)∨(57343<r∧r≤1114111)
 ·rw[decide_eq_true hv]
  simp only[if_true]
  obtain⟨n,rfl⟩:∃n:Nat,r=(n:Int):=⟨r.toNat,by omega⟩
  rw[Int.toNat_natCast]
  by_cases h1:n<128
  ·rw[if_pos h1]
   unfold encodeRune
   rw[encodeRuneZ_one (by omega) (by omega)]
   simp
  ·rw[if_neg h1]
   by_cases h2:n<2048
   ·rw[if_pos h2]
    unfold encodeRune
    rw[encodeRuneZ_two (by omega) (by omega)]
    simp only[List.map_cons,List.map_nil,show(192+(n:Int)/64).toNat=192+n/64 by omega,show(128+(n:Int)%64).toNat=128+n%64 by omega]
   ·rw[if_neg h2]
    by_cases h3:n<65536
    ·rw[if_pos h3]
     unfold encodeRune
     rw[encodeRuneZ_three (by omega)]
     simp only[List.map_cons,List.map_nil,show(224+(n:Int)/4096).toNat=224+n/4096 by omega,show(128+(n:Int)/64%64).toNat=128+n/64%64 by omega,show(128+(n:Int)%64).toNat=128+n%64 by omega]
    ·rw[if_neg h3]
     unfold encodeRune
     rw[encodeRuneZ_four (by omega) (by omega)]
     simp only[List.map_cons,List.map_nil,show(240+(n:Int)/262144).toNat=240+n/262144 by omega,show(128+(n:Int)/4096%64).toNat=128+n/4096%64 by omega,show(128+(n:Int)/64%64).toNat=128+n/64%64 by omega,show(128+(n:Int)%64).toNat=128+n%64 by omega]
 ·rw[decide_eq_false hv]
  unfold encodeRune
  rw[encodeRuneZ_bad (by omega)]
  simp only[Bool.false_eq_true,if_false]
  decide
theorem Iy(ns:List Int):(runesBytes ns).data.toList=(ns.map encodeRune).flatten:=by
 have h:∀(ns:List Int) (acc:ByteArray),(ns.foldl (fun r n=>r++Utf8.encode n) acc).data.toList=acc.data.toList++(ns.map encodeRune).flatten:=by
  intro ns
  induction ns with
  |nil=>intro acc;simp
  |cons n ns ih=>intro acc;rw[List.foldl_cons,ih,ByteArray.data_append,Array.toList_append,YW];simp
 unfold runesBytes
 rw[h]
 rfl
theorem Zs{a b:ByteArray}(h:a.data.toList=b.data.toList):a=b:=by
 cases a;cases b
 congr
 exact Array.ext' h
theorem ST(p:aZ)(v:ac)(hs:v.s.size<1000000)(hp:0≤p.param):∀(m f b i x:Nat),v.s.size≤i+m→m≤b→m<f→i≤v.s.size→validD (v.s.data.toList.drop i)=true→(x:Int)≤p.param→x≤i→
  ∃t,fg p v f i (x:Int)=nn v t∧t.data.toList=v.s.data.toList.take i++(((tO v.s b i).take (p.param.toNat-x)).map encodeRune).flatten:=by
 intro m
 induction m with
 |zero=>
  intro f b i x hi hb hf hle hv hx hxi
  obtain⟨f,rfl⟩:∃q,f=q+1:=⟨f-1,by omega⟩
  have:i=v.s.size:=by omega
  subst this
  refine⟨v.s,?_,?_⟩
  ·rw[fg,decide_eq_false (by omega),ah]
  ·have:tO v.s b v.s.size=[]:=by cases b<;>simp[tO]
   rw[this,List.take_nil,List.map_nil,List.flatten_nil,List.append_nil,List.take_of_length_le (by simp)]
 |succ m ih=>
  intro f b i x hi hb hf hle hv hx hxi
  obtain⟨f,rfl⟩:∃q,f=q+1:=⟨f-1,by omega⟩
  obtain⟨b,rfl⟩:∃q,b=q+1:=⟨b-1,by omega⟩
  by_cases hlt:i<v.s.size
  ·have hl:v.s.data.toList.length=v.s.size:=by simp
   by_cases hxp:(x:Int)=p.param
   ·refine⟨v.s.extract 0 i,?_,?_⟩
    ·rw[fg,decide_eq_true hlt,ap,show(((x:Int))==p.param)=true from beq_iff_eq.2 hxp,ap]
     unfold gX
     rw[if_pos ⟨by omega,by simp,by simp;omega⟩]
     rfl
    ·rw[show p.param.toNat-x=0 by omega,List.take_zero,List.map_nil,List.flatten_nil,List.append_nil]
     simp
   ·have hne:v.s.data.toList.drop i≠[]:=fun e=>by have:=congrArg List.length e;rw[List.length_drop,hl]at this;simp at this;omega
    have hw:=decodeL_width (v.s.data.toList.drop i)
    have hwl:=decodeL_le (v.s.data.toList.drop i) hne
    rw[validD_step _ hne]at hv
    have hbad:¬((decodeL (v.s.data.toList.drop i)).1=65533∧(decodeL (v.s.data.toList.drop i)).2=1):=fun h=>by rw[if_pos h]at hv;cases hv
    rw[if_neg hbad,List.drop_drop]at hv
    have henc:=encode_decode _ hne hbad
    rw[decodeL_drop]at hw hwl hbad hv henc
    rw[List.length_drop,hl]at hwl
    obtain⟨t,t1,t2⟩:=ih f b (i+(Utf8.decode v.s i).2) (x+1) (by omega) (by omega) (by omega) (by omega) hv (by omega) (by omega)
    refine⟨t,?_,?_⟩
    ·rw[fg,decide_eq_true hlt,ap,show(((x:Int))==p.param)=false from beq_eq_false_iff_ne.2 hxp,ah,jQ (by omega) (by omega)]
     exact t1
    ·rw[t2,tO,if_pos hlt,show p.param.toNat-x=(p.param.toNat-(x+1))+1 by omega,List.take_succ_cons,List.map_cons,List.flatten_cons,List.take_add,←List.append_assoc]
     congr 2
     exact henc.symm
  ·refine⟨v.s,?_,?_⟩
   ·rw[fg,decide_eq_false hlt,ah]
   ·rw[tO,if_neg hlt,List.take_nil,List.map_nil,List.flatten_nil,List.append_nil,List.take_of_length_le (by simp;omega)]
theorem UO(p:aZ)(v:ac)(hk:v.kind=4)(hs:v.s.size<1000000)(hp:0≤p.param)(hv:validD v.s.data.toList=true):
  gD v p.param=some ⟨v.kind,v.n,v.scale,runesBytes ((gY v.s).take p.param.toNat),v.items⟩∧fg p v aH 0 0=some ⟨v.kind,v.n,v.scale,runesBytes ((gY v.s).take p.param.toNat),v.items⟩:=by
 have hlen:(gY v.s).length≤v.s.size:=Av v.s v.s.size 0
 refine⟨?_,?_⟩
 ·unfold gD
  have hy:∃y:Int,(if((gY v.s).length:Int)<p.param then((gY v.s).length:Int)else p.param)=y∧0≤y∧y≤((gY v.s).length:Int)∧(gY v.s).take y.toNat=(gY v.s).take p.param.toNat:=by
   by_cases h:((gY v.s).length:Int)<p.param
   ·rw[if_pos h];exact⟨_,rfl,by omega,by omega,by rw[List.take_of_length_le (by omega),List.take_of_length_le (by omega)]⟩
   ·rw[if_neg h];exact⟨_,rfl,hp,by omega,rfl⟩
  obtain⟨y,y1,y2,y3,y4⟩:=hy
  rw[hk,show((4:Int)==4)=true from rfl,ap,y1]
  unfold gX
  rw[if_pos (by omega),az,if_pos ⟨by omega,y2,y3⟩]
  rw[show((0:Int).toNat)=0 from rfl,Nat.sub_zero,List.drop_zero,y4]
 ·obtain⟨t,t1,t2⟩:=ST p v hs hp v.s.size aH v.s.size 0 0 (by omega) (by omega) (by rw[aJ];omega) (by omega) hv (by omega) (by omega)
  rw[show(0:Int)=((0:Nat):Int)from rfl,t1]
  unfold nn
  congr 2
  refine Zs ?_
  rw[t2,Iy,List.take_zero,List.nil_append,Nat.sub_zero]
  rfl
theorem JQ{β:Type}{p:Prop}[Decidable p]{x:Option β}(h:p):gX p x=x:=if_pos h
theorem xl{a b:Int}(hb:0<b∧b≤1000000)(ha: -999999999999999999≤a∧a≤999999999999999999):oV a b=some (a/b)∧so a b=some (a/b):=by
 obtain⟨b0,b1⟩:=hb
 have hq:a.tdiv b=if 0≤a then a/b else -((-a)/b):=by
  by_cases h:0≤a
  ·rw[if_pos h,Int.tdiv_eq_ediv_of_nonneg h]
  ·rw[if_neg h]
   have:=Int.neg_tdiv (-a) b
   rw[Int.neg_neg]at this
   rw[this,Int.tdiv_eq_ediv_of_nonneg (by omega)]
 have hm:b*a.tdiv b+a.tmod b=a:=Int.mul_tdiv_add_tmod a b
 have hd:=Int.mul_ediv_add_emod a b
 have he0:=Int.emod_nonneg a (show b≠0 by omega)
 have he1:=Int.emod_lt_of_pos a b0
 have hle: -999999999999999999≤a.tdiv b∧a.tdiv b≤999999999999999999:=by
  rw[hq]
  by_cases h:0≤a
  ·rw[if_pos h]
   have h1:=Int.ediv_nonneg h (show 0≤b by omega)
   have h2:=Int.ediv_le_self b h
   omega
  ·rw[if_neg h]
   have h1:=Int.ediv_nonneg (show 0≤-a by omega) (show 0≤b by omega)
   have h2:=Int.ediv_le_self b (show 0≤-a by omega)
   omega
 have htm:(a.tmod b<0→a/b=a.tdiv b-1)∧(¬a.tmod b<0→a/b=a.tdiv b)∧-b<a.tmod b∧a.tmod b<b:=by
  have h3: -b<a.tmod b∧a.tmod b<b:=by
   have h4:=Int.tmod_lt_of_pos a b0
   have h5: -b<a.tmod b:=by
    by_cases h:0≤a
    ·have:=Int.tmod_nonneg b h;omega
    ·have h6:=Int.tmod_lt_of_pos (-a) b0
     rw[Int.neg_tmod]at h6
     omega
   exact⟨h5,h4⟩
  have key:∀q r:Int,b*q+r=a→0≤r→r<b→a/b=q:=fun q r h1 h2 h3=>by
   rw[←h1,Int.add_comm,Int.add_mul_ediv_left _ _ (by omega),Int.ediv_eq_zero_of_lt h2 h3];omega
  refine⟨fun h=>key _ (a.tmod b+b) (by rw[Int.mul_sub,Int.mul_one];omega) (by omega) (by omega),fun h=>key _ _ hm (by omega) (by omega),h3.1,h3.2⟩
 obtain⟨t1,t2,t3,t4⟩:=htm
 refine⟨?_,?_⟩
 ·unfold oV vo
  rw[JQ (by omega),JQ (by omega),jQ (x:=a.tdiv b) (by omega) (by omega),jQ (x:=a.tdiv b-1) (by omega) (by omega)]
  by_cases h:a.tmod b<0
  ·rw[decide_eq_true h,ap,t1 h]
  ·rw[decide_eq_false h,ah,t2 h]
 ·unfold so yo
  have hmul:(a.tdiv b)*b=a-a.tmod b:=by rw[Int.mul_comm];omega
  rw[JQ (by omega),az,jQ (x:=a.tdiv b) (by omega) (by omega),hmul,jQ (x:=a-a.tmod b) (by omega) (by omega),jQ (x:=a.tdiv b-1) (by omega) (by omega)]
  by_cases h:a.tmod b<0
  ·rw[decide_eq_true (by omega),ap,t1 h]
  ·rw[decide_eq_false (by omega),ah,t2 h]
def Tw(p:aZ)(v:ac)(h y mo:Int):ac:=
 if p.kind=0 then BD else if p.kind=1 then v else if p.kind=2 then⟨2,h,0,ByteArray.empty,[]⟩
 else if p.kind=3 then(if v.kind=4 then⟨v.kind,v.n,v.scale,runesBytes ((gY v.s).take p.param.toNat),v.items⟩else⟨v.kind,max (-999999999999999999) (v.n/p.param*p.param),v.scale,v.s,v.items⟩)
 else if p.kind=4 then⟨2,y-1970,0,ByteArray.empty,[]⟩else if p.kind=5 then⟨2,12*(y-1970)+mo-1,0,ByteArray.empty,[]⟩
 else if p.kind=6 then⟨2,v.n/86400,0,ByteArray.empty,[]⟩else⟨2,v.n/3600,0,ByteArray.empty,[]⟩
structure Lf(v:ac):Prop where
 k:1≤v.kind∧v.kind≤5
 n: -999999999999999999≤v.n∧v.n≤999999999999999999
 it:v.items=[]
 txt:v.kind=4→v.s.size≤256∧validD v.s.data.toList=true
 nos:v.kind≠4→v.s.size=0
 sc:0≤v.scale∧v.scale≤12
 mom:v.kind=5→-62135596800≤v.n∧v.n≤253402300799
theorem R7{v:ac}(h:qg v=true)(h6:v.kind≠6)(h7:v.kind≠7)(h0:v.kind≠0):Lf v:=by
 have hp:=(VI h).pl
 unfold de at hp
 have e0:∀(l:List ac),((l.length:Int)==0)=true→l=[]:=fun l h=>List.eq_nil_of_length_eq_zero (by have:=eq_of_beq h;omega)
 by_cases k1:v.kind=1
 ·simp only[k1]at hp;simp at hp
  exact⟨by omega,by omega,by have:=hp.2.2.2;exact List.eq_nil_of_length_eq_zero (by simpa using this),by omega,fun _=>by rw[hp.2.2.1];rfl,by omega,by omega⟩
 by_cases k2:v.kind=2
 ·simp only[k2]at hp;simp at hp
  exact⟨by omega,by omega,by have:=hp.2.2.2;exact List.eq_nil_of_length_eq_zero (by simpa using this),by omega,fun _=>by rw[hp.2.2.1];rfl,by omega,by omega⟩
 by_cases k3:v.kind=3
 ·simp only[k3]at hp;simp at hp
  exact⟨by omega,by omega,by have:=hp.2.2.2;exact List.eq_nil_of_length_eq_zero (by simpa using this),by omega,fun _=>by rw[hp.2.2.1];rfl,by omega,by omega⟩
 by_cases k4:v.kind=4
 ·simp only[k4]at hp;simp[AQ]at hp
  exact⟨by omega,by omega,by have:=hp.2.2;exact List.eq_nil_of_length_eq_zero (by simpa using this),fun _=>⟨hp.2.1.1,hp.2.1.2.1⟩,fun h=>absurd k4 h,by omega,by omega⟩
 by_cases k5:v.kind=5
 ·simp only[k5]at hp;simp at hp
  exact⟨by omega,by omega,by have:=hp.2.2.2;exact List.eq_nil_of_length_eq_zero (by simpa using this),by omega,fun _=>by rw[hp.2.2.1];rfl,by omega,by omega⟩
 simp[k1,k2,k3,k4,k5,h6,h7,h0]at hp
def Ws:ByteArray:=ByteArray.mk #[117,116,99]
def XP:iJ:=iJ.mk Ws 0 0 (kF.mk 0 0 0 0) (kF.mk 0 0 0 0)
theorem ab9:EU Ws=some (XP,true):=by kernel_rfl
theorem Y2:Dv Ws=some (XP,true):=by kernel_rfl
theorem aal(m:Int):Dk XP m=some 0:=rfl
theorem WI(m:Int):Fb XP m=some 0:=rfl
theorem PT{n:Int}(h0: -62135596800≤n)(h1:n≤253402300799):Aj n Ws=some (Tm.civ n,0)∧wA n Ws=some (Tm.civ n,0):=by
 obtain⟨y0,y1⟩:=Tm.years_of (s:=n) (by omega) (by omega)
 refine⟨?_,?_⟩
 ·unfold Aj
  rw[ab9,az,Bool.not_true,ah,Tm.within_eq,az,decide_eq_true ⟨h0,h1⟩,Bool.not_true,ah,aal,az,Int.add_zero,jQ (by omega) (by omega),Tm.civil_eq (by omega) (by omega),az]
 ·unfold wA
  rw[Y2,az,Bool.not_true,ah,Tm.rwithin_eq,az,decide_eq_true ⟨h0,h1⟩,Bool.not_true,ah,WI,az,Int.add_zero,jQ (by omega) (by omega),Tm.rcivil_eq (by omega) (by omega) y0 y1,az]
theorem acH{n:Int}(h0: -62135596800≤n)(h1:n≤253402300799):wc n 1 Ws=some ((Tm.civ n).year,0)∧wc n 2 Ws=some ((Tm.civ n).month,0):=by
 obtain⟨f,_,_,_⟩:=Tm.civ_ok (s:=n) (by omega) (by omega)
 have hd:tU (Tm.civ n).year (Tm.civ n).month (Tm.civ n).day=some (Cal.days (Tm.civ n).year (Tm.civ n).month (Tm.civ n).day):=Tm.days_eq (by have:=f.y0;omega) (by have:=f.y1;omega) (by have:=f.m0;omega) (by have:=f.m1;omega) (by have:=f.d0;omega) (by have:=f.d1;omega)
 unfold wc
 rw[(PT h0 h1).1,az,az,show((0:Int) != 0)=false from rfl,ah,ah,hd,az,az]
 exact⟨rfl,rfl⟩
theorem Wx(x:Int): -9223372036854775808≤i64.wrap x∧i64.wrap x≤9223372036854775807:=by
 rw[show i64.wrap x=if 9223372036854775808≤x%18446744073709551616 then x%18446744073709551616-18446744073709551616 else x%18446744073709551616 by unfold IntKind.wrap;simp[IntKind.bits,IntKind.signed]]
 split<;>omega
theorem BE(q:Int):iH q=some ⟨2,q,0,ByteArray.empty,[]⟩:=rfl
theorem RG(k s:Int):jX ⟨k,s,[]⟩<1000000000:=by simp[jX,eH]
def P7(p:aZ)(h:Int):Int:=i64.wrap (h.tmod (IntKind.u64.wrap p.param))
theorem adM{p:aZ}{v:ac}(h4:v.kind≠4)(hm:1≤p.param∧p.param≤1000000)(hn: -999999999999999999≤v.n∧v.n≤999999999999999999):
  gD v p.param=some ⟨v.kind,max (-999999999999999999) (v.n/p.param*p.param),v.scale,v.s,v.items⟩∧
  (al (so v.n p.param) fun r5=>al (some (decide ((i64.wrap (p.param*r5))<(-999999999999999999:Int)))) fun y1=>aj y1 (lq v (-999999999999999999:Int)) (lq v (i64.wrap (p.param*r5))))=
   some ⟨v.kind,max (-999999999999999999) (v.n/p.param*p.param),v.scale,v.s,v.items⟩:=by
 obtain⟨f1,f2⟩:=xl (a:=v.n) (b:=p.param) (by omega) hn
 have hd:=Int.mul_ediv_add_emod v.n p.param
 have he0:=Int.emod_nonneg v.n (show p.param≠0 by omega)
 have he1:=Int.emod_lt_of_pos v.n (show 0<p.param by omega)
 have hc:v.n/p.param*p.param=v.n-v.n%p.param:=by rw[Int.mul_comm];omega
 have hc2:p.param*(v.n/p.param)=v.n-v.n%p.param:=by omega
 refine⟨?_,?_⟩
 ·unfold gD
  rw[show(v.kind==4)=false from beq_eq_false_iff_ne.2 h4,ah,f1,az,hc,jQ (by omega) (by omega),az]
  congr 2
  rw[Int.max_def]
  by_cases h: -999999999999999999>v.n-v.n%p.param
  ·rw[if_pos h,if_neg (by omega)]
  ·rw[if_neg h,if_pos (by omega)]
 ·rw[f2,az,hc,hc2,jQ (by omega) (by omega),az]
  unfold lq
  rw[Int.max_def]
  by_cases h:v.n-v.n%p.param< -999999999999999999
  ·rw[decide_eq_true h,ap,if_neg (by omega)]
  ·rw[decide_eq_false h,ah,if_pos (by omega)]
theorem R6{p:aZ}{v:ac}(hl:Lf v)(hk:X3 p ⟨v.kind,v.scale,[]⟩)(hv:cm v<10000000)(e:Int)(he:fp p ⟨v.kind,v.scale,[]⟩=some (Kr p ⟨v.kind,v.scale,[]⟩ e))(h0:(Kr p ⟨v.kind,v.scale,[]⟩ e).2=0):
  ∃h,iR p v false=some (Tw p v (P7 p h) (Tm.civ v.n).year (Tm.civ v.n).month)∧gc p v false=some (Tw p v (P7 p h) (Tm.civ v.n).year (Tm.civ v.n).month):=by
 obtain⟨h,g1,g2⟩:=XT v hv
 refine⟨h,?_⟩
 obtain⟨k,m⟩:=p
 have hlo:0≤k:=hk.lo
 have hhi:k≤7:=hk.hi
 have hpar:k=2∨k=3→1≤m∧m≤1000000:=hk.par
 have htim:4≤k→v.kind=5:=hk.tim
 have hu:k=2∨k=3→IntKind.u64.wrap m≠0:=fun hh=>by
  have:=hpar hh
  rw[adu (by omega) (by omega)];omega
 have hj:∃y mo,iR ⟨k,m⟩ v false=mB ⟨k,m⟩ v y mo∧(4≤k→y=(Tm.civ v.n).year∧mo=(Tm.civ v.n).month):=by
  unfold iR
  rw[ah]
  by_cases h5:v.kind=5
  ·obtain⟨m0,m1⟩:=hl.mom h5
   obtain⟨p1,p2⟩:=acH m0 m1
   refine⟨_,_,?_,fun _=>⟨rfl,rfl⟩⟩
   rw[h5,show((5:Int)==5)=true from rfl,ap]
   rw[show(ByteArray.mk #[117,116,99])=Ws from rfl,p1,p2,az,az]
  ·rw[show(v.kind==5)=false from beq_eq_false_iff_ne.2 h5,ah]
   exact⟨0,0,rfl,fun h=>absurd (htim h) h5⟩
 obtain⟨y,mo,j1,j2⟩:=hj
 rw[j1]
 unfold gc
 rw[ah,he,az,h0,show((0:Int) != 0)=false from rfl,ah]
 unfold mB
 have hk8:k=0∨k=1∨k=2∨k=3∨k=4∨k=5∨k=6∨k=7:=by omega
 have hyb:v.kind=5→0≤(Tm.civ v.n).year∧(Tm.civ v.n).year≤10000∧1≤(Tm.civ v.n).month∧(Tm.civ v.n).month≤12:=fun h5=>by
  obtain⟨m0,m1⟩:=hl.mom h5
  have:=Tm.years_of (s:=v.n) (by omega) (by omega)
  obtain⟨f,_⟩:=Tm.civ_ok (s:=v.n) (by omega) (by omega)
  exact⟨this.1,this.2,f.m0,f.m1⟩
 rcases hk8 with rfl|rfl|rfl|rfl|rfl|rfl|rfl|rfl
 ·exact⟨rfl,rfl⟩
 ·exact⟨rfl,rfl⟩
 ·refine⟨?_,?_⟩
  ·show(al (yW v) fun r5=>gX ((IntKind.u64.wrap m)≠0)<|al (iH (i64.wrap (r5.tmod (IntKind.u64.wrap m)))) fun r6=>some r6)=_
   rw[g1,az,JQ (hu (.inl rfl)),BE,az];rfl
  ·show(al (Bt v) fun r4=>gX ((IntKind.u64.wrap m)≠0)<|dK (i64.wrap (r4.tmod (IntKind.u64.wrap m))))=_
   rw[g2,az,JQ (hu (.inl rfl))];rfl
 ·have hm:=hpar (.inr rfl)
  by_cases h4:v.kind=4
  ·obtain⟨t1,t2⟩:=hl.txt h4
   obtain⟨c1,c2⟩:=UO ⟨3,m⟩ v h4 (by omega) (by show 0≤m;omega) t2
   have hx:Tw ⟨3,m⟩ v (P7 ⟨3,m⟩ h) (Tm.civ v.n).year (Tm.civ v.n).month=⟨v.kind,v.n,v.scale,runesBytes ((gY v.s).take m.toNat),v.items⟩:=if_pos h4
   refine⟨?_,?_⟩
   ·show(al (gD v m) fun r7=>some r7)=_
    rw[show gD v m=_ from c1,az,hx]
   ·show(aj (v.kind==(4:Int)) _ _)=_
    rw[h4,show((4:Int)==4)=true from rfl,ap,c2,hx,h4]
  ·obtain⟨c1,c2⟩:=adM (p:=⟨3,m⟩) h4 hm hl.n
   have hx:Tw ⟨3,m⟩ v (P7 ⟨3,m⟩ h) (Tm.civ v.n).year (Tm.civ v.n).month=⟨v.kind,max (-999999999999999999) (v.n/m*m),v.scale,v.s,v.items⟩:=if_neg h4
   refine⟨?_,?_⟩
   ·show(al (gD v m) fun r7=>some r7)=_
    rw[show gD v m=_ from c1,az,hx]
   ·show(aj (v.kind==(4:Int)) _ _)=_
    rw[show(v.kind==(4:Int))=false from beq_eq_false_iff_ne.2 h4,ah,hx]
    exact c2
 ·obtain⟨rfl,rfl⟩:=j2 (by decide)
  obtain⟨b1,b2,b3,b4⟩:=hyb (htim (by decide))
  obtain⟨m0,m1⟩:=hl.mom (htim (by decide))
  refine⟨?_,?_⟩
  ·show(al (iH (i64.wrap ((Tm.civ v.n).year-(1970:Int)))) fun r8=>some r8)=_
   rw[BE,az,jQ (by omega) (by omega)];rfl
  ·show(al (wA v.n Ws) fun r8=>dK (i64.wrap (r8.1.year-(1970:Int))))=_
   rw[(PT m0 m1).2,az,jQ (by show _≤(Tm.civ v.n).year-1970;omega) (by show(Tm.civ v.n).year-1970≤_;omega)];rfl
 ·obtain⟨rfl,rfl⟩:=j2 (by decide)
  obtain⟨b1,b2,b3,b4⟩:=hyb (htim (by decide))
  obtain⟨m0,m1⟩:=hl.mom (htim (by decide))
  refine⟨?_,?_⟩
  ·show(al (some (i64.wrap ((12:Int)*(i64.wrap ((Tm.civ v.n).year-(1970:Int)))))) fun y1=>al (iH (i64.wrap ((i64.wrap (y1+(Tm.civ v.n).month))-(1:Int)))) fun r9=>some r9)=_
   rw[az,jQ (x:=(Tm.civ v.n).year-1970) (by omega) (by omega),jQ (x:=12*((Tm.civ v.n).year-1970)) (by omega) (by omega),jQ (x:=12*((Tm.civ v.n).year-1970)+(Tm.civ v.n).month) (by omega) (by omega),BE,az,jQ (by omega) (by omega)];rfl
  ·show(al (wA v.n Ws) fun r8=>(al (some (i64.wrap ((12:Int)*(i64.wrap (r8.1.year-(1970:Int)))))) fun y2=>dK (i64.wrap ((i64.wrap (y2+r8.1.month))-(1:Int)))))=_
   rw[(PT m0 m1).2,az,az]
   show dK (i64.wrap ((i64.wrap ((i64.wrap ((12:Int)*(i64.wrap ((Tm.civ v.n).year-(1970:Int)))))+(Tm.civ v.n).month))-(1:Int)))=_
   rw[jQ (x:=(Tm.civ v.n).year-1970) (by omega) (by omega),jQ (x:=12*((Tm.civ v.n).year-1970)) (by omega) (by omega),jQ (x:=12*((Tm.civ v.n).year-1970)+(Tm.civ v.n).month) (by omega) (by omega),jQ (by omega) (by omega)];rfl
 ·obtain⟨f1,f2⟩:=xl (a:=v.n) (b:=86400) (by omega) hl.n
  refine⟨?_,?_⟩
  ·show(al (oV v.n (86400:Int)) fun r10=>al (iH r10) fun r11=>some r11)=_
   rw[f1,az,BE,az];rfl
  ·show(al (so v.n (86400:Int)) fun r6=>dK r6)=_
   rw[f2,az];rfl
 ·obtain⟨f1,f2⟩:=xl (a:=v.n) (b:=3600) (by omega) hl.n
  refine⟨?_,?_⟩
  ·show(al (oV v.n (3600:Int)) fun r10=>al (iH r10) fun r11=>some r11)=_
   rw[f1,az,BE,az];rfl
  ·show(al (so v.n (3600:Int)) fun r6=>dK r6)=_
   rw[f2,az];rfl
theorem YB(p:aZ)(v:ac)(hv:cm v<10000000):∃x,fG p v=some x∧kX p v=some x∧
  (x=BD∨∃h,Lf v∧X3 p ⟨v.kind,v.scale,[]⟩∧x=Tw p v (P7 p h) (Tm.civ v.n).year (Tm.civ v.n).month):=by
 obtain⟨e,hV,t1,t2⟩:=tt p ⟨v.kind,v.scale,[]⟩ (RG _ _)
 have jt:iR p v true=some BD:=rfl
 have jr:gc p v true=some BD:=rfl
 have hs:=Bb v (by omega)
 have rs:=MY v (by omega)
 unfold fG kX
 rw[t1,az]
 by_cases h0:(Kr p ⟨v.kind,v.scale,[]⟩ e).2=0
 ·have hk:=QO hV h0
  have hl:=JM hk.v hk.k6 hk.k7
  have hk0:v.kind≠0:=by have h:=hl.2.1;have:1≤v.kind:=h;omega
  rw[h0,show((0:Int) != 0)=false from rfl,ah,hs,az,show(v.kind==0)=false from beq_eq_false_iff_ne.2 hk0,ah,rs,az,HU,az]
  cases hb:qg v with
  |false=>rw[Bool.not_false,ap];exact⟨_,jt,jr,.inl rfl⟩
  |true=>
   have h6:v.kind≠6:=hk.k6
   have h7:v.kind≠7:=hk.k7
   rw[Bool.not_true,ah,decide_eq_true (show v.kind≠6∧v.kind≠7 from⟨h6,h7⟩),Bool.not_true]
   obtain⟨h,c1,c2⟩:=R6 (R7 hb h6 h7 hk0) hk hv e t2 h0
   exact⟨_,c1,c2,.inr ⟨h,R7 hb h6 h7 hk0,hk,rfl⟩⟩
 ·rw[show((Kr p ⟨v.kind,v.scale,[]⟩ e).2 != 0)=true from bne_iff_ne.2 h0,ap]
  refine⟨BD,jt,?_,.inl rfl⟩
  by_cases hk0:v.kind=0
  ·rw[hk0,show((0:Int)==0)=true from rfl,ap];rfl
  ·rw[show(v.kind==0)=false from beq_eq_false_iff_ne.2 hk0,ah,rs,az,HU,az]
   have jf:∀b,gc p v b=some BD:=fun b=>by
    cases b with
    |true=>exact jr
    |false=>
     unfold gc
     rw[ah,t2,az,show((Kr p ⟨v.kind,v.scale,[]⟩ e).2 != 0)=true from bne_iff_ne.2 h0,ap];rfl
   cases qg v with
   |false=>exact jr
   |true=>exact jf _
structure Sm(x:ac):Prop where
 it:x.items=[]
 n: -9223372036854775808≤x.n∧x.n≤9223372036854775807
 sc:x.kind=3→0≤x.scale∧x.scale≤12
 s:x.s.size<100000000
theorem aan{p:aZ}{v:ac}{h:Int}(hl:Lf v)(hk:X3 p ⟨v.kind,v.scale,[]⟩):Sm (Tw p v (P7 p h) (Tm.civ v.n).year (Tm.civ v.n).month):=by
 have hn:=hl.n
 have hkk:=hl.k
 have hsc:=hl.sc
 have hpar:p.kind=2∨p.kind=3→1≤p.param∧p.param≤1000000:=hk.par
 have htim:4≤p.kind→v.kind=5:=hk.tim
 have hsz:v.s.size≤256:=by
  by_cases h4:v.kind=4
  ·exact(hl.txt h4).1
  ·have:=hl.nos h4;omega
 have num:∀q:Int,-9223372036854775808≤q→q≤9223372036854775807→Sm ⟨2,q,0,ByteArray.empty,[]⟩:=fun q h1 h2=>⟨rfl,⟨h1,h2⟩,fun h=>absurd h (by decide:(2:Int)≠3),(by decide:(0:Nat)<100000000)⟩
 unfold Tw
 by_cases k0:p.kind=0
 ·rw[if_pos k0]
  exact⟨rfl,by decide,fun h=>absurd h (by decide:(0:Int)≠3),(by decide:(0:Nat)<100000000)⟩
 rw[if_neg k0]
 by_cases k1:p.kind=1
 ·rw[if_pos k1]
  exact⟨hl.it,by omega,fun _=>hsc,by omega⟩
 rw[if_neg k1]
 by_cases k2:p.kind=2
 ·rw[if_pos k2]
  have:=Wx (h.tmod (IntKind.u64.wrap p.param))
  exact num _ this.1 this.2
 rw[if_neg k2]
 by_cases k3:p.kind=3
 ·rw[if_pos k3]
  have hm:=hpar (.inr k3)
  by_cases h4:v.kind=4
  ·rw[if_pos h4]
   have hlen:(gY v.s).length≤v.s.size:=Av v.s v.s.size 0
   have hb:=runesBytes_size_le ((gY v.s).take p.param.toNat)
   have ht:((gY v.s).take p.param.toNat).length≤(gY v.s).length:=by rw[List.length_take];omega
   exact⟨hl.it,by show _≤v.n∧v.n≤_;omega,fun _=>hsc,by show(runesBytes _).size<_;omega⟩
  ·rw[if_neg h4]
   have hd:=Int.mul_ediv_add_emod v.n p.param
   have he0:=Int.emod_nonneg v.n (show p.param≠0 by omega)
   have he1:=Int.emod_lt_of_pos v.n (show 0<p.param by omega)
   have hc:v.n/p.param*p.param=v.n-v.n%p.param:=by rw[Int.mul_comm];omega
   rw[hc]
   exact⟨hl.it,by show _≤max _ _∧max _ _≤_;omega,fun _=>hsc,by show v.s.size<_;omega⟩
 rw[if_neg k3]
 have h4:4≤p.kind:=by have:=hk.lo;omega
 obtain⟨m0,m1⟩:=hl.mom (htim h4)
 have hy:=Tm.years_of (s:=v.n) (by omega) (by omega)
 obtain⟨f,_⟩:=Tm.civ_ok (s:=v.n) (by omega) (by omega)
 have f0:=f.m0
 have f1:=f.m1
 have hy0:0≤(Tm.civ v.n).year:=hy.1
 have hy1:(Tm.civ v.n).year≤10000:=hy.2
 split
 ·exact num _ (by omega) (by omega)
 split
 ·exact num _ (by omega) (by omega)
 split
 ·exact num _ (by omega) (by omega)
 ·exact num _ (by omega) (by omega)
theorem Z0:Ord.wfV BD:=by
 simp only[BD,Ord.wfV,Ord.wfL,Ord.i6q]
 refine⟨⟨by omega,by omega⟩,⟨by omega,by omega⟩,⟨by omega,by omega⟩,trivial⟩
theorem ZH{k n sc:Int}{s:ByteArray}(hk:0≤k∧k≤5)(hn: -9223372036854775808≤n∧n≤9223372036854775807)(hs:0≤sc∧sc≤12):Ord.wfV ⟨k,n,sc,s,[]⟩:=by
 simp only[Ord.wfV,Ord.wfL,Ord.i6q]
 exact⟨⟨by omega,by omega⟩,⟨by omega,by omega⟩,⟨by omega,by omega⟩,trivial⟩
theorem ZD{p:aZ}{v:ac}{h:Int}(hl:Lf v)(hk:X3 p ⟨v.kind,v.scale,[]⟩):Ord.wfV (Tw p v (P7 p h) (Tm.civ v.n).year (Tm.civ v.n).month):=by
 have hsm:=aan (h:=h) hl hk
 have hk1:=hl.k
 have hs1:=hl.sc
 generalize hx:Tw p v (P7 p h) (Tm.civ v.n).year (Tm.civ v.n).month=x at*
 have hkx:0≤x.kind∧x.kind≤5:=by
  rw[←hx];unfold Tw
  repeat' split
  all_goals first|(exact⟨by decide,by decide⟩) |omega|(simp only;omega)
 have hsx:0≤x.scale∧x.scale≤12:=by
  rw[←hx];unfold Tw
  repeat' split
  all_goals first|(exact⟨by decide,by decide⟩) |omega|(simp only;omega)
 obtain⟨k,n,sc,s,it⟩:=x
 obtain⟨a1,a2,a3,a4⟩:=hsm
 simp only at a1;subst a1
 exact ZH hkx a2 hsx
theorem Yb(p:aZ)(v:ac)(hv:cm v<10000000):∃x,fG p v=some x∧kX p v=some x∧Ord.wfV x:=by
 obtain⟨x,h1,h2,h3⟩:=YB p v hv
 refine⟨x,h1,h2,?_⟩
 rcases h3 with rfl|⟨h,hl,hk,rfl⟩
 ·exact Z0
 ·exact ZD hl hk
theorem aar{p:aZ}{v:ac}{h y m:Int}(hl:Lf v)(h0:p.kind≠0):(Tw p v h y m).kind≠0:=by
 have:=hl.k
 unfold Tw
 rw[if_neg h0]
 repeat' split
 all_goals first|exact(by decide:(2:Int)≠0) |(simp only;omega) |omega
theorem abO{p:aZ}{v:ac}(hv:cm v<10000000)(hb:qg v=true){t:am}(ht:dz p ⟨v.kind,v.scale,[]⟩=some (t,0))(hp:p.kind≠0){x:ac}(hx:fG p v=some x):x.kind≠0:=by
 obtain⟨e,hV,t1,t2⟩:=tt p ⟨v.kind,v.scale,[]⟩ (RG _ _)
 have h0:(Kr p ⟨v.kind,v.scale,[]⟩ e).2=0:=by
  rw[ht]at t1
  rw[←Option.some.inj t1]
 have hs:=Bb v (by omega)
 have hk:=QO hV h0
 have hl:=JM hk.v hk.k6 hk.k7
 have hk0:v.kind≠0:=by have h:=hl.2.1;have:1≤v.kind:=h;omega
 obtain⟨h,c1,c2⟩:=R6 (R7 hb hk.k6 hk.k7 hk0) hk hv e t2 h0
 unfold fG at hx
 rw[t1,az,h0,show((0:Int) != 0)=false from rfl,ah,hs,az,hb,Bool.not_true,c1]at hx
 rw[←Option.some.inj hx]
 exact aar (R7 hb hk.k6 hk.k7 hk0) hp
end Go.Proofs.YtpiohnabdhpphaaGreatDoor
namespace Go.Proofs.YtpiohnabdhpphaaGreatDoor
open Go Go.SX Go.SX.Cal
open Go.IntKind (i64)
theorem Kc{a b:ac}(ha:Lv a)(hb:Ord.wfV b):dm aH a b=some (Ord.cmpV a b)∧bP aH a b=some (Ord.cmpV a b):=by
 have h:=ha.size
 exact⟨Ord.compare_eq 257 a b aH h (by omega) ha.wf hb (by rw[aJ];omega),Ord.rcompareV_eq 257 a b aH h (by omega) ha.wf hb (by rw[aJ];omega)⟩
def Yf(a l:ac):Bool:=decide (l.kind≠0)&&decide (Ord.cmpV a l<0)
def abB(a l:ac):Bool:=decide (l.kind≠0)&&decide (0<Ord.cmpV a l)
theorem RR{a l:ac}(ha:Lv a)(hl:Ord.wfV l):xD a l=some (Yf a l):=by
 unfold xD uq Yf
 rw[(Kc ha hl).1]
 by_cases h:l.kind=0
 ·rw[show(l.kind != 0)=false by simp[h],iF];simp[h]
 ·rw[show(l.kind != 0)=true by simp[h],iT,bS];simp[h]
theorem Se{a l:ac}(ha:Lv a)(hl:Ord.wfV l):xI a l=some (abB a l):=by
 unfold xI vM abB
 rw[(Kc ha hl).1]
 by_cases h:l.kind=0
 ·rw[show(l.kind != 0)=false by simp[h],iF];simp[h]
 ·rw[show(l.kind != 0)=true by simp[h],iT,bS];simp[h]
theorem Xp{t:am}(h:V t)(h3:t.kind≠3):t.scale=0:=by
 obtain⟨_,h1,_⟩:=h
 unfold shp at h1
 split at h1
 ·omega
 ·split at h1
  ·omega
  ·rename_i hk
   unfold H3 at hk
   by_cases e:t.scale=0
   ·exact e
   ·exact absurd ⟨e,.inl h3⟩ hk
theorem Te{v:ac}(h:de v=true)(h3:v.kind≠3)(h6:v.kind≠6)(h7:v.kind≠7):v.scale=0:=by
 unfold de at h
 simp only at h
 repeat' split at h
 all_goals first|omega|(simp only[iY,beq_iff_eq]at h;omega) |cases h
theorem acp{t:am}{v:ac}(h:Ty t v)(h0:v.kind≠0)(h6:t.kind≠6)(h7:t.kind≠7):t=⟨v.kind,v.scale,[]⟩∧qg v=true∧V t:=by
 obtain⟨ht,hS,ho⟩:=RH h.sv h.st h.ck
 obtain⟨hp,_⟩:=hS.succ
 rw[JP,if_neg h0]at ho
 by_cases e:v.kind=t.kind
 ·rw[if_neg (fun h=>h e)]at ho
  have hf:=(JM ht h6 h7).1
  have hi:=oR hp (by rw[e];exact h6) (by rw[e];exact h7)
  refine⟨?_,by rw[zJ hi];exact hp,ht⟩
  have hs:t.scale=v.scale:=by
   by_cases h3:v.kind=3
   ·rw[if_pos h3]at ho;exact(beq_iff_eq.1 ho).symm
   ·rw[Xp ht (by omega),Te hp h3 (by omega) (by omega)]
  cases t
  simp only at hf hs e
  subst hf;subst hs;subst e;rfl
 ·rw[if_pos e]at ho;cases ho
structure RgT(t:am)(r:bw):Prop where
 k6:t.kind≠6
 k7:t.kind≠7
 lo:Ty t r.low
 hi:Ty t r.high
 sl:cm r.low<10000000
 sh:cm r.high<10000000
theorem aah{tr:aZ}{v x:ac}(hv:cm v<10000000)(h0:v.kind=0)(hx:fG tr v=some x):x.kind=0:=by
 obtain⟨y,h1,_,h3⟩:=YB tr v hv
 rw[hx]at h1
 cases h1
 rcases h3 with rfl|⟨h,hl,_⟩
 ·rfl
 ·have:=hl.k;omega
theorem R8{t:am}{tr:aZ}{v x:ac}(h:Ty t v)(h6:t.kind≠6)(h7:t.kind≠7)(hv:cm v<10000000){u:am}(ht:dz tr t=some (u,0))(hp:tr.kind≠0)(hx:fG tr v=some x):(x.kind=0)↔(v.kind=0):=by
 constructor
 ·intro hx0
  by_cases h0:v.kind=0
  ·exact h0
  ·obtain⟨e,hb,_⟩:=acp h h0 h6 h7
   rw[e]at ht
   exact absurd hx0 (abO hv hb ht hp hx)
 ·exact fun h0=>aah hv h0 hx
theorem Nv{t:am}{r:bw}{p:ac}{tr:aZ}{u:am}(hr:RgT t r)(hp:Lv p)(ht:dz tr t=some (u,0)):∃b,se tr p r=some b∧xG tr p r=some b:=by
 obtain⟨a,a1,a2,a3⟩:=Yb tr r.low hr.sl
 obtain⟨c,c1,c2,c3⟩:=Yb tr r.high hr.sh
 have ll:=BP hr.lo.sv hr.lo.st hr.k6 hr.k7 hr.lo.ck
 have lh:=BP hr.hi.sv hr.hi.st hr.k6 hr.k7 hr.hi.ck
 unfold se xG
 by_cases k0:tr.kind=0
 ·rw[show(tr.kind==0)=true by simp[k0],iT,iT];exact⟨false,rfl,rfl⟩
 rw[show(tr.kind==0)=false by simp[k0],iF,iF]
 have ea:=R8 hr.lo hr.k6 hr.k7 hr.sl ht k0 a1
 have ec:=R8 hr.hi hr.k6 hr.k7 hr.sh ht k0 c1
 unfold oE mK pO tI
 simp only[a1,a2,c1,c2,bS,RR hp a3,Se hp c3,Px ll lh,Mt ll lh,(Kc hp a3).1,(Kc hp a3).2,(Kc hp c3).2]
 by_cases kp:p.kind=0
 ·rw[show(p.kind==0)=true by simp[kp]]
  simp only[iT]
  cases(tr.kind==2)with
  |true=>exact⟨true,rfl,rfl⟩
  |false=>exact⟨true,rfl,rfl⟩
 rw[show(p.kind==0)=false by simp[kp]]
 simp only[iF]
 cases(tr.kind==2)with
 |true=>
  simp only[iT]
  cases(r.low.kind != 0)with
  |false=>exact⟨false,rfl,rfl⟩
  |true=>
   simp only[iT]
   cases(Ord.cmpV r.low r.high==0)with
   |false=>exact⟨false,rfl,rfl⟩
   |true=>exact⟨_,rfl,rfl⟩
 |false=>
  simp only[iF]
  refine⟨Yf p a||abB p c,?_,?_⟩
  ·cases Yf p a<;>rfl
  ·unfold Yf abB
   by_cases h0:r.low.kind=0
   ·rw[show(r.low.kind != 0)=false by simp[h0],iF,show decide (a.kind≠0)=false by simp[ea.2 h0]]
    by_cases h1:r.high.kind=0
    ·rw[show(r.high.kind != 0)=false by simp[h1],iF,show decide (c.kind≠0)=false by simp[ec.2 h1]];rfl
    ·rw[show(r.high.kind != 0)=true by simp[h1],iT,show decide (c.kind≠0)=true by simp[mt ec.1 h1]];simp
   ·rw[show(r.low.kind != 0)=true by simp[h0],iT,show decide (a.kind≠0)=true by simp[mt ea.1 h0],Bool.true_and]
    cases decide (Ord.cmpV p a<0)with
    |true=>rfl
    |false=>
     rw[iF]
     by_cases h1:r.high.kind=0
     ·rw[show(r.high.kind != 0)=false by simp[h1],iF,show decide (c.kind≠0)=false by simp[ec.2 h1]];rfl
     ·rw[show(r.high.kind != 0)=true by simp[h1],iT,show decide (c.kind≠0)=true by simp[mt ec.1 h1]];simp
theorem Sl:∀(ids:List Int) (m:List (Int×Int)) (seen:List Int),Inv m seen→(scan ids m).1=0→ids.Nodup∧∀x∈ids,x∉seen
 |[],_,_,_,_=>⟨List.nodup_nil,fun x h=>by cases h⟩
 |x::l,m,seen,hi,h=>by
  obtain⟨h1,h2⟩:=UN hi x
  unfold scan at h
  by_cases h0:(Nh x m).1=0
  ·rw[if_neg (fun k=>k h0)]at h
   obtain⟨a,b⟩:=Sl l _ (seen++[x]) (h2 h0) h
   rw[h0]at h1
   have hx:x∉seen:=fun k=>by
    split at h1
    ·omega
    ·first|omega|(rw[if_pos k]at h1;omega)
   refine⟨List.nodup_cons.2 ⟨fun k=>b x k (by simp),a⟩,fun y hy=> ?_⟩
   rcases List.mem_cons.1 hy with rfl|hy
   ·exact hx
   ·exact fun k=>b y hy (by simp[k])
  ·rw[if_pos h0]at h;exact absurd h h0
theorem acs{fs:List ae}(hs:eH fs<1000000000-1)(h:sc fs=0):(fQ fs).Nodup:=by
 obtain⟨e,h1,h2,h3⟩:=pr ⟨7,0,fs⟩ (by simp only[jX];omega)
 have hc:=Xj hs
 unfold fZ at hc
 rw[h1]at hc
 simp only[az,aC]at hc
 by_cases he:e=0
 ·have w:=Q6 1000000000 aH fs [] (by omega) (by rw[aJ];omega) (by omega)
  have hz:(scan (fQ fs) []).1=0:=by
   simp[he,w,az,h]at hc
   omega
  exact(Sl _ _ [] (fun x=>by simp[jB]) hz).1
 ·simp[he,h]at hc
theorem Sb:∀{fs:List ae} {i:Nat} (h:i<fs.length),fs[i].id∈fQ fs
 |f::fs,0,_=>by
  rw[show fQ (f::fs)=Fy f++fQ fs from rfl,Dj];simp
 |f::fs,i+1,h=>by
  rw[show fQ (f::fs)=Fy f++fQ fs from rfl]
  exact List.mem_append.2 (.inr (Sb (fs:=fs) (i:=i) (by simpa using h)))
theorem Mb:∀{fs:List ae},(fQ fs).Nodup→∀(i j:Nat) (hi:i<fs.length) (hj:j<fs.length),fs[i].id=fs[j].id→i=j
 |[],_,i,_,hi,_,_=>by simp at hi
 |f::fs,h,i,j,hi,hj,e=>by
  rw[show fQ (f::fs)=Fy f++fQ fs from rfl,Dj]at h
  obtain⟨h1,h2⟩:=List.nodup_cons.1 (by simpa using h:(f.id::(fQ f.type.fields++fQ fs)).Nodup)
  have h3:(fQ fs).Nodup:=(List.nodup_append.1 h2).2.1
  have h4:∀(q:Nat) (hq:q<fs.length),fs[q].id≠f.id:=fun q hq e=>h1 (List.mem_append.2 (.inr (by rw[←e];exact Sb hq)))
  cases i with
  |zero=>
   cases j with
   |zero=>rfl
   |succ j=>exact absurd e.symm (h4 j (by simpa using hj))
  |succ i=>
   cases j with
   |zero=>exact absurd e (h4 i (by simpa using hi))
   |succ j=>rw[Mb h3 i j (by simpa using hi) (by simpa using hj) e]
theorem abr{fs:List ae}(hn:fs.length<1000000000){id:Int}(h:Hs fs id=true):(n9 fs id).id=id:=by
 unfold Hs at h
 unfold n9
 rcases TO.or fs id with⟨i,hi⟩ |hi
 ·rw[yt hn hi];exact hi.eq hi.lt
 ·obtain⟨g,hg⟩:=B8 hn hi
  rw[hg]at h;cases h
theorem acy{fs:List ae}(hn:fs.length<1000000000)(hu:(fQ fs).Nodup){g:ae}(hg:g∈fs):Hs fs g.id=true∧n9 fs g.id=g:=by
 obtain⟨j,hj,rfl⟩:=Kb.1 hg
 unfold Hs n9
 rcases TO.or fs fs[j].id with⟨i,hi⟩ |hi
 ·rw[yt hn hi]
  refine⟨rfl,?_⟩
  have:=Mb hu i j hi.lt hj (hi.eq hi.lt)
  subst this;rfl
 ·exact absurd rfl (hi j hj)
theorem WW{fs:List ae}(hu:(fQ fs).Nodup){i j:Nat}(hi:i<(CO fs).length)(hj:j<(CO fs).length)(e:(CO fs)[i].id=(CO fs)[j].id):i=j:=by
 have h1:(fs.map (·.id)).Nodup:=by
  unfold List.Nodup
  rw[List.pairwise_iff_getElem]
  intro a b ha hb hab h
  simp only[List.getElem_map]at h
  have:=Mb hu a b (by simpa using ha) (by simpa using hb) h
  omega
 have h2:((CO fs).map (·.id)).Nodup:=List.Nodup.sublist (List.Sublist.map _ List.filter_sublist) h1
 unfold List.Nodup at h2
 rw[List.pairwise_iff_getElem]at h2
 rcases Nat.lt_trichotomy i j with c|c|c
 ·exact absurd (by rw[List.getElem_map,List.getElem_map];exact e) (h2 i j (by simpa using hi) (by simpa using hj) c)
 ·exact c
 ·exact absurd (by rw[List.getElem_map,List.getElem_map];exact e.symm) (h2 j i (by simpa using hj) (by simpa using hi) c)
theorem Ot{n:Nat}{L:Nat→Int→Option Int}{p:Nat→Bool}(h0:∀k,L (k+1) (n:Int)=some (-1))(h1:∀k i,i<n→L (k+1) (i:Int)=aj (p i) (some (i:Int)) (L k ((i+1:Nat):Int))):
  ∀m k i,i+m=n→m<k→(∃j,i≤j∧j<n∧p j=true∧L k (i:Int)=some (j:Int))∨((∀j,i≤j→j<n→p j=false)∧L k (i:Int)=some (-1))
 |0,k,i,hi,hk=>by
  obtain⟨k,rfl⟩:=fu hk
  have:i=n:=by omega
  subst this
  exact .inr ⟨fun j a b=>by omega,h0 k⟩
 |m+1,k,i,hi,hk=>by
  obtain⟨k,rfl⟩:=fu hk
  rw[h1 k i (by omega)]
  cases hp:p i with
  |true=>exact .inl ⟨i,iD _,by omega,hp,rfl⟩
  |false=>
   rw[iF]
   rcases Ot h0 h1 m k (i+1) (by omega) (by omega)with⟨j,a,b,c,d⟩ |⟨a,b⟩
   ·exact .inl ⟨j,by omega,b,c,d⟩
   ·refine .inr ⟨fun j x y=> ?_,b⟩
    by_cases e:j=i
    ·subst e;exact hp
    ·exact a j (by omega) y
structure N0(m:ay)(f:ai)(os:List ae)(sp:cD):Prop where
 ao:at? m.schemas f.schema=some os
 asp:at? m.specs f.spec=some sp
 zo:eH os<1000000000-1
 nd:(fQ os).Nodup
 ns:sp.fields.length<1000000000
 z:Lj f
 ok:S3 f
 np:f.part.length=sp.fields.length
 src:∀(i:Nat) (h:i<sp.fields.length),Hs os sp.fields[i].source=true∧(tE sp.fields[i].transform (n9 os sp.fields[i].source).type).2=0
 nst:f.stats.length=(CO os).length
 st:∀(i:Nat) (h:i<f.stats.length) (h':i<(CO os).length),f.stats[i].id=(CO os)[i].id∧Ty (CO os)[i].type f.stats[i].min∧Ty (CO os)[i].type f.stats[i].max
theorem Yx{m:ay}{f:ai}(hm:ul m)(hall:Gf m=0)(hf:Lj f)(h0:yj m f=0):∃os sp,N0 m f os sp:=by
 have hok:=R3 hm hf h0
 have h:=h0
 unfold yj at h
 rw[lx,lx]at h
 obtain⟨_,h2,h3⟩:=h
 obtain⟨os,sp,g1,g2,g3,g4,g5,g6⟩:=N4 ((D8 (by decide)).1 h2)
 rw[g3,g4]at h3
 simp only at h3
 unfold Gd at h3
 rw[lx,lx,lx]at h3
 obtain⟨e1,e2,e3,e4⟩:=h3
 have hz:=hm.schemas.2 _ g5
 have hp:f.part.length=sp.fields.length:=by
  rw[D8 (by decide),bne_eq_false_iff_eq]at e2;omega
 have hl:=Q9 hz
 have hn:f.stats.length=(CO os).length:=by
  unfold Jg at e4
  by_cases hh:f.stats.length=(CO os).length
  ·exact hh
  ·rw[dif_neg hh]at e4;cases e4
 refine⟨os,sp,g1,g2,hz,acs hz (S8 hm hall os g5),hm.specs.2 _ g6,hf,hok,hp,fun i hi=> ?_,hn,fun i hi hi'=> ?_⟩
 ·have hb:Hs os sp.fields[i].source=true:=by
   rw[D8 (by decide),←Bool.not_eq_true,fm]at e1
   cases hb:Hs os sp.fields[i].source with
   |true=>rfl
   |false=>exact absurd ⟨i,hi,by unfold ug;rw[dJ hi];simp[hb]⟩ e1
  refine⟨hb,?_⟩
  have:=N5.1 e3 i (Nat.zero_le _) (by omega)
  unfold I9 at this
  rw[dJ hi,dJ (show i<f.part.length by omega)]at this
  simp only[lx]at this
  have:=(D8 (by decide)).1 this.1
  rwa [bne_eq_false_iff_eq]at this
 ·unfold Jg at e4
  rw[dif_pos hn,lx,N5]at e4
  obtain⟨a1,a2⟩:=e4
  have a2:=a2 i (Nat.zero_le _) (by omega)
  rw[dJ hi,dJ hi']at a2
  simp only[Z6,lx]at a2
  obtain⟨q1,q2⟩:=hf.stats.2 _ (gV hi)
  obtain⟨q3,_,_⟩:=hl _ (gV hi')
  refine⟨?_,⟨q1,q3,a2.2.1⟩,⟨q2,q3,a2.2.2.1⟩⟩
  rw[D8 (by decide),←Bool.not_eq_true,fm]at a1
  cases hb:(f.stats[i].id==(CO os)[i].id)with
  |true=>simpa using hb
  |false=>exact absurd ⟨i,hi,by rw[dJ hi,dJ hi'];simp only[hb];rfl⟩ a1
end Go.Proofs.YtpiohnabdhpphaaGreatDoor
namespace Go.Proofs.YtpiohnabdhpphaaGreatDoor
open Go Go.SX Go.SX.Cal
open Go.IntKind (i64)
noncomputable def XV(v:ac)(u:am):ac:=(ip v u).getD BD
def WB(t u:am):Bool:=(kx t u).getD false
noncomputable def aaD(t u:am)(s:cc)(r:bw):Bool:=WB t u&&(Yf (XV s.max u) r.low||abB (XV s.min u) r.high)
noncomputable def YV(t u:am)(rows:Int)(s:cc)(r:bw):Bool:=(s.nulls==rows)||aaD t u s r
theorem Rc{t u:am}{v:ac}(h:Ty t v)(hw:WdT t u):ip v u=some (XV v u)∧tY v u=some (XV v u)∧Lv (XV v u):=by
 obtain⟨w,w1,w2,w3⟩:=abZ h hw
 unfold XV
 rw[w1]
 exact⟨rfl,w2,w3⟩
theorem acw{t u:am}(ht:jX t<1000000000)(hu:jX u<1000000000):kx t u=some (WB t u)∧oO t u=some (WB t u)∧(WB t u=true→WdT t u):=by
 obtain⟨b,b1,b2,b3⟩:=LG t u ht hu
 unfold WB
 rw[b1]
 exact⟨rfl,b2,b3⟩
def ptB(tr:aZ)(p:ac)(r:bw):Bool:=(se tr p r).getD false
def QU(sp:cD)(f:ai)(r:bw)(j:Nat):Bool:=match sp.fields[j]?,f.part[j]? with
 |some x,some p=>(x.source==r.id)&&ptB x.transform p r
 |_,_=>false
variable {m:ay} {f:ai} {os fs:List ae} {sp:cD} {r:bw}
theorem YF(hk:N0 m f os sp)(hr:RgT (n9 os r.id).type r)(i:Nat)(hi:i<sp.fields.length)(hi':i<f.part.length)(hs:sp.fields[i].source=r.id):
  se sp.fields[i].transform f.part[i] r=some (ptB sp.fields[i].transform f.part[i] r)∧xG sp.fields[i].transform f.part[i] r=some (ptB sp.fields[i].transform f.part[i] r):=by
 have hn:os.length<1000000000:=by have:=dE os;have:=hk.zo;omega
 obtain⟨a,b⟩:=hk.src i hi
 rw[hs]at a b
 obtain⟨_,_,_,t4⟩:=AT hn r.id
 obtain⟨t5,_⟩:=Mj sp.fields[i].transform (Cz hk.zo (t4 a).2)
 have e:tE sp.fields[i].transform (n9 os r.id).type=((tE sp.fields[i].transform (n9 os r.id).type).1,0):=by rw[←b]
 rw[e]at t5
 obtain⟨x,x1,x2⟩:=Nv hr (hk.ok.part _ (gV hi')) t5
 unfold ptB
 rw[x1]
 exact⟨rfl,x2⟩
theorem WY(hk:N0 m f os sp)(hr:RgT (n9 os r.id).type r):ez f r sp aH (0:Int)=some (!lI (QU sp f r) sp.fields.length)∧iz f r sp aH (0:Int)=some (lI (QU sp f r) sp.fields.length):=by
 have hj:∀(i:Nat) (hi:i<sp.fields.length),∃hi':i<f.part.length,QU sp f r i=((sp.fields[i].source==r.id)&&ptB sp.fields[i].transform f.part[i] r):=fun i hi=>by
  have hi':i<f.part.length:=by have:=hk.np;omega
  refine⟨hi',?_⟩
  unfold QU
  rw[dJ hi,dJ hi']
 constructor
 ·rw[ux (L:=ez f r sp) (n:=sp.fields.length) (p:=QU sp f r) (e:=some false) (fin:=some true) hk.ns
   (fun k=>by rw[ez,vU,iF];rfl)
   (fun k i hi=>by
    obtain⟨hi',e⟩:=hj i hi
    rw[ez,aV hi,iT,aD hi,bS,e]
    unfold qo
    rw[au hi hk.ns]
    by_cases hs:sp.fields[i].source=r.id
    ·rw[show(sp.fields[i].source==r.id)=true by simp[hs],iT,aD hi',bS,(YF hk hr i hi hi' hs).1,bS,Bool.true_and]
    ·rw[show(sp.fields[i].source==r.id)=false by simp[hs],iF,Bool.false_and])]
  cases lI (QU sp f r) sp.fields.length<;>rfl
 ·rw[ux (L:=iz f r sp) (n:=sp.fields.length) (p:=QU sp f r) (e:=some true) (fin:=some false) hk.ns
   (fun k=>by rw[iz,vU,iF];rfl)
   (fun k i hi=>by
    obtain⟨hi',e⟩:=hj i hi
    rw[iz,aV hi,iT,aD hi,bS,e]
    unfold xa
    rw[au hi hk.ns]
    by_cases hs:sp.fields[i].source=r.id
    ·rw[show(sp.fields[i].source==r.id)=true by simp[hs],iT,aD hi',bS,(YF hk hr i hi hi' hs).2,bS,Bool.true_and]
    ·rw[show(sp.fields[i].source==r.id)=false by simp[hs],iF,Bool.false_and])]
  cases lI (QU sp f r) sp.fields.length<;>rfl
def Dh(t u:am):Bool:=t.kind==u.kind&&t.scale==u.scale
noncomputable def RK(os fs:List ae)(sp:cD)(f:ai)(r:bw):Bool:=
 !Ie os r.id||(lI (fun j=>match f.stats[j]? with|some s=>(s.id==r.id)&&YV (n9 os r.id).type (n9 fs r.id).type f.rows s r|none=>false) f.stats.length
  ||(Dh (n9 os r.id).type (n9 fs r.id).type&&lI (QU sp f r) sp.fields.length))
theorem XJ{t u:am}(ht:V t)(hu:V u)(h6:t.kind≠6)(h7:t.kind≠7)(h:Dh t u=true):t=u:=by
 unfold Dh at h
 simp only[iY,beq_iff_eq]at h
 have a:=(JM ht h6 h7).1
 have b:=(JM hu (by omega) (by omega)).1
 obtain⟨h1,h2⟩:=h
 cases t;cases u
 simp only at a b h1 h2
 subst a;subst b;subst h1;subst h2;rfl
structure RgK(fs:List ae)(r:bw):Prop where
 tl:Ie fs r.id=true
 rg:RgT (n9 fs r.id).type r
theorem acG{t:am}{v:ac}(h:Ty t v):V t:=(RH h.sv h.st h.ck).1
theorem Jo{fsn:Int}(hf:at? m.schemas fsn=some fs)(hz:eH fs<1000000000-1)(hk:N0 m f os sp)(hr:RgK fs r):
  oI m fs f r=some (!RK os fs sp f r)∧Cr m fsn f r=some (RK os fs sp f r):=by
 have hn:os.length<1000000000:=by have:=dE os;have:=hk.zo;omega
 have hn':fs.length<1000000000:=by have:=dE fs;omega
 have hns:=hk.z.stats.1
 obtain⟨t,t1,t2⟩:=MO hn r.id
 obtain⟨u,u1,u2⟩:=MO hn' r.id
 obtain⟨hu,hum⟩:=u2 hr.tl
 have hzu:=Cz hz hum
 have ll:=BP hr.rg.lo.sv hr.rg.lo.st hr.rg.k6 hr.rg.k7 hr.rg.lo.ck
 have lh:=BP hr.rg.hi.sv hr.rg.hi.st hr.rg.k6 hr.rg.k7 hr.rg.hi.ck
 unfold oI Cr RK
 rw[hk.ao,bS,bS,VN hn,bS,hf,bS,VN hn',bS]
 have hidx:=Ot (L:=aM f.stats r.id r.low.kind r.low.n r.low.scale r.low.s r.low.items r.high.kind r.high.n r.high.scale r.high.s r.high.items) (n:=f.stats.length) (p:=fun j=>match f.stats[j]? with|some s=>s.id==r.id|none=>false)
   (fun k=>by rw[aM,vU,iF];rfl)
   (fun k i hi=>by
    rw[aM,aV hi,iT,aD hi,bS,tQ,bS,au hi hns,dJ hi]) f.stats.length aH 0 (by omega) (by rw[aJ];omega)
 unfold cZ
 cases hb:Ie os r.id with
 |false=>
  refine⟨?_,rfl⟩
  rcases hidx with⟨j,_,hj,e,hL⟩ |⟨_,hL⟩
  ·exfalso
   rw[dJ hj]at e
   simp only[beq_iff_eq]at e
   have hj':j<(CO os).length:=by have:=hk.nst;omega
   obtain⟨a,_⟩:=hk.st j hj hj'
   obtain⟨m1,m6,m7⟩:=Rl (gV hj')
   obtain⟨b1,b2⟩:=acy hn hk.nd m1
   rw[←a,e]at b1 b2
   have:Ie os r.id=true:=by
    unfold Ie DN
    rw[b1,b2]
    simp[m6,m7]
   rw[hb]at this;cases this
  ·have hL:aM f.stats r.id r.low.kind r.low.n r.low.scale r.low.s r.low.items r.high.kind r.high.n r.high.scale r.high.s r.high.items aH (0:Int)=_:=hL
   rw[hL,bS];rfl
 |true=>
  obtain⟨ht,htm⟩:=t2 hb
  have hzt:=Cz hk.zo htm
  have hbp:Hs os r.id=true∧DN (n9 os r.id)=true:=by
   unfold Ie at hb;simpa using hb
  have hid:=abr hn hbp.1
  have hmem:n9 os r.id∈CO os:=List.mem_filter.2 ⟨htm,hbp.2⟩
  obtain⟨q,hq',hqe⟩:=Kb.1 hmem
  have hq:q<f.stats.length:=by have:=hk.nst;omega
  obtain⟨qa,qmin,qmax⟩:=hk.st q hq hq'
  rw[hqe]at qa qmin qmax
  rw[hid]at qa
  have huq:∀(j:Nat) (hj:j<f.stats.length),f.stats[j].id=r.id→j=q:=fun j hj e=>by
   have hj':j<(CO os).length:=by have:=hk.nst;omega
   obtain⟨a,_⟩:=hk.st j hj hj'
   exact WW hk.nd hj' hq' (by rw[hqe,hid,←a,e])
  have h67:(n9 os r.id).type.kind≠6∧(n9 os r.id).type.kind≠7:=by
   have:=hbp.2;unfold DN at this;simpa using this
  obtain⟨w1,w2,w3⟩:=acw hzt hzu
  have hany:lI (fun j=>match f.stats[j]? with|some s=>(s.id==r.id)&&YV (n9 os r.id).type (n9 fs r.id).type f.rows s r|none=>false) f.stats.length=YV (n9 os r.id).type (n9 fs r.id).type f.rows f.stats[q] r:=by
   refine kG ?_
   rw[fm]
   constructor
   ·rintro⟨j,hj,e⟩
    rw[dJ hj]at e
    simp only[iY,beq_iff_eq]at e
    have:=huq j hj e.1
    subst this
    exact e.2
   ·intro e
    exact⟨q,hq,by rw[dJ hq];simp only[iY,beq_iff_eq];exact⟨qa,e⟩⟩
  have hlast:nv m f r (t,true) (u,true)=some (!(Dh (n9 os r.id).type (n9 fs r.id).type&&lI (QU sp f r) sp.fields.length))∧
    wS m f r (n9 os r.id,true) (n9 fs r.id,true)=some (Dh (n9 os r.id).type (n9 fs r.id).type&&lI (QU sp f r) sp.fields.length):=by
   rw[ht,hu]
   unfold nv wS qD wU
   have hp:Dh (n9 os r.id).type (n9 fs r.id).type=true→ez f r sp aH (0:Int)=some (!lI (QU sp f r) sp.fields.length)∧iz f r sp aH (0:Int)=some (lI (QU sp f r) sp.fields.length):=fun hs=>
    WY hk (by rw[XJ (acG qmin) (acG hr.rg.lo) h67.1 h67.2 hs];exact hr.rg)
   rw[hk.asp]
   simp only[bS]
   revert hp
   unfold Dh
   by_cases k1:(n9 os r.id).type.kind=(n9 fs r.id).type.kind
   ·rw[show((n9 os r.id).type.kind==(n9 fs r.id).type.kind)=true by simp[k1],show((n9 os r.id).type.kind != (n9 fs r.id).type.kind)=false by simp[k1]]
    simp only[iT,iF,Bool.true_and]
    by_cases k2:(n9 os r.id).type.scale=(n9 fs r.id).type.scale
    ·rw[show((n9 os r.id).type.scale==(n9 fs r.id).type.scale)=true by simp[k2],show((n9 os r.id).type.scale != (n9 fs r.id).type.scale)=false by simp[k2]]
     simp only[iT,iF,Bool.true_and]
     exact fun hp=>hp trivial
    ·rw[show((n9 os r.id).type.scale==(n9 fs r.id).type.scale)=false by simp[k2],show((n9 os r.id).type.scale != (n9 fs r.id).type.scale)=true by simp[k2]]
     exact fun _=>⟨rfl,rfl⟩
   ·rw[show((n9 os r.id).type.kind==(n9 fs r.id).type.kind)=false by simp[k1],show((n9 os r.id).type.kind != (n9 fs r.id).type.kind)=true by simp[k1]]
    exact fun _=>⟨rfl,rfl⟩
  generalize hX:(Dh (n9 os r.id).type (n9 fs r.id).type&&lI (QU sp f r) sp.fields.length)=X at hlast
  rw[hany,Bool.not_true,Bool.false_or,iF]
  constructor
  ·
   rcases hidx with⟨j,_,hj,e,hL⟩ |⟨e,_⟩
   ·
    rw[dJ hj]at e
    simp only[beq_iff_eq]at e
    have:=huq j hj e
    subst this
    have hL:aM f.stats r.id r.low.kind r.low.n r.low.scale r.low.s r.low.items r.high.kind r.high.n r.high.scale r.high.s r.high.items aH (0:Int)=_:=hL
    rw[hL,bS,decide_eq_false (show¬(j:Int)<0 by omega),iF,aD hj,bS]
    unfold qp YV
    cases(f.stats[j].nulls==f.rows)with
    |true=>rfl
    |false=>
     rw[iF,t1,bS,u1,bS,hb,hr.tl]
     show al (kx t u) _=_
     rw[ht,hu,w1,bS,Bool.false_or]
     unfold aaD
     rw[ht,hu]at hlast
     cases hw:WB (n9 os r.id).type (n9 fs r.id).type with
     |false=>rw[iF,hlast.1,Bool.false_and,Bool.false_or]
     |true=>
      have hwd:=w3 hw
      obtain⟨x1,_,x3⟩:=Rc qmax hwd
      obtain⟨y1,_,y3⟩:=Rc qmin hwd
      rw[iT,aD hj,bS,x1,bS,RR x3 ll.wf,bS,Bool.true_and]
      unfold qA
      cases Yf (XV f.stats[j].max (n9 fs r.id).type) r.low with
      |true=>rfl
      |false=>
       rw[iF,y1,bS,Se y3 lh.wf,bS,Bool.false_or]
       cases abB (XV f.stats[j].min (n9 fs r.id).type) r.high with
       |true=>rfl
       |false=>rw[iF,hlast.1,Bool.false_or]
   ·have:=e q (Nat.zero_le _) hq
    rw[dJ hq]at this
    simp only[qa,beq_self_eq_true]at this
    cases this
  ·
   rw[ux (L:=eD m f r (n9 os r.id,true) (n9 fs r.id,Ie fs r.id)) (n:=f.stats.length) (p:=fun j=>match f.stats[j]? with|some s=>(s.id==r.id)&&YV (n9 os r.id).type (n9 fs r.id).type f.rows s r|none=>false) (e:=some true) (fin:=some X) hns
    (fun k=>by rw[eD,vU,iF,hr.tl];exact hlast.2)
    (fun k i hi=>by
     rw[eD,aV hi,iT,aD hi,bS,dJ hi]
     unfold nX te
     rw[au hi hns]
     simp only
     by_cases e:f.stats[i].id=r.id
     ·have:=huq i hi e
      subst this
      rw[show(f.stats[i].id != r.id)=false by simp[e],iF,show(f.stats[i].id==r.id)=true by simp[e],Bool.true_and]
      unfold YV
      cases(f.stats[i].nulls==f.rows)with
      |true=>rfl
      |false=>
       rw[iF,w2,bS,Bool.false_or]
       unfold aaD
       cases hw:WB (n9 os r.id).type (n9 fs r.id).type with
       |false=>rfl
       |true=>
        have hwd:=w3 hw
        obtain⟨_,x2,x3⟩:=Rc qmax hwd
        obtain⟨_,y2,y3⟩:=Rc qmin hwd
        rw[iT,y2,bS,x2,bS,Bool.true_and,Mt x3 ll,bS,Mt y3 lh,bS]
        unfold Yf abB
        by_cases k1:r.low.kind=0
        ·rw[show(r.low.kind != 0)=false by simp[k1],iF,show decide (r.low.kind≠0)=false by simp[k1],Bool.false_and,Bool.false_or]
         by_cases k2:r.high.kind=0
         ·rw[show(r.high.kind != 0)=false by simp[k2],iF,show decide (r.high.kind≠0)=false by simp[k2],Bool.false_and]
         ·rw[show(r.high.kind != 0)=true by simp[k2],iT,show decide (r.high.kind≠0)=true by simp[k2],Bool.true_and]
        ·rw[show(r.low.kind != 0)=true by simp[k1],iT,show decide (r.low.kind≠0)=true by simp[k1],Bool.true_and]
         cases decide (Ord.cmpV (XV f.stats[i].max (n9 fs r.id).type) r.low<0)with
         |true=>rfl
         |false=>
          rw[iF,Bool.false_or]
          by_cases k2:r.high.kind=0
          ·rw[show(r.high.kind != 0)=false by simp[k2],iF,show decide (r.high.kind≠0)=false by simp[k2],Bool.false_and]
          ·rw[show(r.high.kind != 0)=true by simp[k2],iT,show decide (r.high.kind≠0)=true by simp[k2],Bool.true_and]
     ·rw[show(f.stats[i].id != r.id)=true by simp[e],iT,show(f.stats[i].id==r.id)=false by simp[e],Bool.false_and,iF])]
   rw[hany]
   cases YV (n9 os r.id).type (n9 fs r.id).type f.rows f.stats[q] r<;>rfl
end Go.Proofs.YtpiohnabdhpphaaGreatDoor
namespace Go.Proofs.YtpiohnabdhpphaaGreatDoor
open Go Go.SX Go.SX.Cal
open Go.IntKind (i64)
structure WL(wh:List bw):Prop where
 n:wh.length<1000000000
 v:∀r∈wh,cm r.low<10000000∧cm r.high<10000000
noncomputable def Rq(fs:List ae)(r:bw):Int:=if Ie fs r.id then qm (ck (n9 fs r.id).type r.low) (ck (n9 fs r.id).type r.high)else 9
noncomputable def Td(fs:List ae)(wh:List bw)(j:Nat):Int:=match wh[j]? with|some r=>Rq fs r|none=>0
noncomputable def Kp(fs:List ae)(wh:List bw):Int:=qm (er (decide ((40:Int)<(wh.length:Int))) 7) (fe (Td fs wh) wh.length 0)
theorem OY{fs:List ae}{wh:List bw}(hz:eH fs<1000000000-1)(hw:WL wh):pC fs wh=some (Kp fs wh)∧pJ wh fs=some (Kp fs wh):=by
 have hn:fs.length<1000000000:=by have:=dE fs;omega
 unfold pC pJ Kp
 rw[eb (by decide),eb (by decide),←ej,←bA]
 constructor
 ·refine fa fun _=> ?_
  rw[iw (L:=iL fs wh) (n:=wh.length) (fin:=some 0) (c:=Td fs wh) hw.n
   (fun k=>by rw[iL,vU,iF];rfl)
   (fun k i hi=>by
    obtain⟨t,t1,t2⟩:=MO hn wh[i].id
    obtain⟨s1,s2⟩:=hw.v _ (gV hi)
    rw[iL,aV hi,iT,aD hi,bS,t1,bS]
    unfold Td Rq
    rw[dJ hi,au hi hw.n]
    cases hb:Ie fs wh[i].id with
    |false=>simp only[hb];rw[Bool.not_false,iT,if_neg (by simp)];rfl
    |true=>
     obtain⟨h1,h2⟩:=t2 hb
     have hT:=Cz hz h2
     simp only[hb]
     rw[Bool.not_true,iF,if_pos trivial,←bA,←iA,←iA]
     show al (gw t wh[i].low) _=_
     rw[h1,Ql (by omega) hT,bS]
     show aj _ _ (al (gw (n9 fs wh[i].id).type wh[i].high) _)=_
     rw[Ql (by omega) hT,bS])]
 ·refine fa fun _=> ?_
  rw[iw (L:=iM wh fs) (n:=wh.length) (fin:=some 0) (c:=Td fs wh) hw.n
   (fun k=>by rw[iM,vU,iF];rfl)
   (fun k i hi=>by
    obtain⟨t,t1,t2⟩:=MO hn wh[i].id
    obtain⟨s1,s2⟩:=hw.v _ (gV hi)
    rw[iM,aV hi,iT,aD hi,bS,VN hn,bS]
    unfold Td Rq
    rw[dJ hi,au hi hw.n]
    cases hb:Ie fs wh[i].id with
    |false=>simp only[hb];rw[Bool.not_false,iT,if_neg (by simp)];rfl
    |true=>
     obtain⟨h1,h2⟩:=t2 hb
     have hT:=Cz hz h2
     simp only[hb]
     rw[Bool.not_true,iF,if_pos trivial,←bA,←iA,←iA,Tr (by omega) hT,bS,Tr (by omega) hT,bS])]
theorem Vu{fs:List ae}{wh:List bw}(hz:eH fs<1000000000-1)(hw:WL wh)(h:Kp fs wh=0):∀r∈wh,RgK fs r:=by
 unfold Kp at h
 rw[lx,N5]at h
 intro r hr
 obtain⟨i,hi,rfl⟩:=Kb.1 hr
 have:=h.2 i (Nat.zero_le _) (by omega)
 unfold Td Rq at this
 rw[dJ hi]at this
 simp only at this
 obtain⟨s1,s2⟩:=hw.v _ (gV hi)
 have hn:fs.length<1000000000:=by have:=dE fs;omega
 cases hb:Ie fs wh[i].id with
 |false=>rw[hb]at this;simp at this
 |true=>
  rw[hb,if_pos rfl,lx]at this
  obtain⟨t,_,t2⟩:=MO hn wh[i].id
  obtain⟨_,h2⟩:=t2 hb
  have hT:=Cz hz h2
  have hk:DN (n9 fs wh[i].id)=true:=by unfold Ie at hb;simp only[iY]at hb;exact hb.2
  unfold DN at hk
  simp only[decide_eq_true_eq]at hk
  exact⟨hb,hk.1,hk.2,⟨by omega,hT,this.1⟩,⟨by omega,hT,this.2⟩,s1,s2⟩
noncomputable def PO(os fs:List ae)(sp:cD)(f:ai)(wh:List bw)(j:Nat):Bool:=match wh[j]? with|some r=>RK os fs sp f r|none=>false
theorem OQ{m:ay}{f:ai}{os fs:List ae}{sp:cD}{wh:List bw}{fsn:Int}(hf:at? m.schemas fsn=some fs)(hz:eH fs<1000000000-1)(hk:N0 m f os sp)(hw:WL wh)(hr:∀r∈wh,RgK fs r):
  BB m fs f wh=some (!lI (PO os fs sp f wh) wh.length)∧Bn m fsn f wh=some (!lI (PO os fs sp f wh) wh.length):=by
 constructor
 ·unfold BB dt dH
  obtain⟨x,x1,x2⟩:=Re (L:=bc wh m.schemas m.specs m.nextField m.nextSeq m.nextSnap m.purges m.snapshots m.refs m.props fs f.name f.schema f.spec f.part f.rows f.seq f.stats) (n:=wh.length) (p:=PO os fs sp f wh) hw.n
   (fun k=>by rw[bc,vU,iF];rfl)
   (fun k i hi=>by
    rw[bc,aV hi,iT,aD hi,bS]
    unfold A4 PO
    rw[show oI (ay.mk m.schemas m.specs m.nextField m.nextSeq m.nextSnap m.purges m.snapshots m.refs m.props) fs (ai.mk f.name f.schema f.spec f.part f.rows f.seq f.stats) wh[i]=oI m fs f wh[i]from rfl,(Jo hf hz hk (hr _ (gV hi))).1,bS,bS,Bool.not_not,au hi hw.n,dJ hi])
  rw[x1,bS,bS,x2]
 ·unfold Bn
  exact Ft (L:=rk m fsn f wh) (n:=wh.length) (p:=PO os fs sp f wh) hw.n
   (fun k=>by rw[rk,vU,iF];rfl)
   (fun k i hi=>by
    rw[rk,aV hi,iT,aD hi,bS,(Jo hf hz hk (hr _ (gV hi))).2,bS,au hi hw.n]
    unfold PO
    rw[dJ hi])
theorem VL{m:ay}{f:ai}{wh:List bw}(hm:ul m)(hf:Lj f)(hw:WL wh)(sch:Int):∃b e,D3 m sch f wh=some (b,e)∧GH m sch f wh=some (b,e):=by
 obtain⟨e,e1,e2,e3⟩:=IU hm
 unfold D3 GH
 rw[e1,e2,bS,bS]
 by_cases h0:e=0
 ·rw[show(e != 0)=false by simp[h0],iF,iF,lc,pw,bS,bS,ld hm.schemas.1]
  cases hb:decide (0≤sch∧sch≤(m.schemas.length:Int)-1)with
  |false=>exact⟨false,3,rfl,rfl⟩
  |true=>
   simp only[decide_eq_true_eq]at hb
   obtain⟨hl,h1,_⟩:=EW hb.1 hb.2
   have hz:=hm.schemas.2 _ (gV hl)
   rw[Bool.not_true,iF,iF,U9 hm hf,UT hm hf,bS,bS]
   by_cases h2:yj m f=0
   ·rw[show(yj m f != 0)=false by simp[h2],iF,iF,h1,bS,bS]
    obtain⟨c1,c2⟩:=OY hz hw
    rw[c1,c2,bS,bS]
    by_cases h3:Kp m.schemas[sch.toNat] wh=0
    ·rw[show(Kp m.schemas[sch.toNat] wh != 0)=false by simp[h3],iF,iF]
     obtain⟨os,sp,hk⟩:=Yx hm (e3 h0) hf h2
     obtain⟨d1,d2⟩:=OQ h1 hz hk hw (Vu hz hw h3)
     rw[d1,d2,bS]
     exact⟨_,_,rfl,rfl⟩
    ·rw[show(Kp m.schemas[sch.toNat] wh != 0)=true by simp[h3],iT,iT];exact⟨_,_,rfl,rfl⟩
   ·rw[show(yj m f != 0)=true by simp[h2],iT,iT];exact⟨_,_,rfl,rfl⟩
 ·rw[show(e != 0)=true by simp[h0],iT,iT];exact⟨_,_,rfl,rfl⟩
theorem YP(l:List ac):dw l=some l:=by
 unfold dw
 rw[gP ⟨by omega,by omega,by omega,by omega⟩]
 simp
theorem abV(l:List lr):il l=some l:=by
 unfold il
 rw[gP ⟨by omega,by omega,by omega,by omega⟩]
 simp
theorem LQ{v:ac}(h:v.items=[]):nZ aH v=some v:=by
 obtain⟨k,n,sc,s,it⟩:=v
 simp only at h
 subst h
 rw[sK,nZ,sK,sN]
 show aj false _ (xe ⟨k,n,sc,s,[]⟩ [])=_
 rw[iF]
 unfold xe
 rw[YP,bS]
theorem abo{p:List ac}(hn:p.length<1000000000)(h:∀v∈p,v.items=[]):xh p=some p:=by
 have key:∀(d k i:Nat) (l:List ac),i+d=p.length→d<k→l.length≤i→ki p k l (i:Int)=some (l++p.drop i):=by
  intro d
  induction d with
  |zero=>
   intro k i l hi hk _
   obtain⟨k,rfl⟩:=fu hk
   rw[ki,G2 (by omega),iF,List.drop_of_length_le (by omega)]
   unfold wa
   rw[YP,bS,List.append_nil]
  |succ d ih=>
   intro k i l hi hk hl
   obtain⟨k,rfl⟩:=fu hk
   have h1:i<p.length:=by omega
   rw[ki,aV h1,iT,aD h1,bS,LQ (h _ (gV h1)),bS,gP (by omega),au h1 hn,ih k (i+1) _ (by omega) (by omega) (by simp;omega),B3 h1]
   simp
 have:=key p.length aH 0 [] (by omega) (by rw[aJ];omega) (Nat.zero_le _)
 unfold xh
 rw[show((0:Nat):Int)=0 from rfl]at this
 rw[this];rfl
theorem TH{f:ai}(hz:Lj f)(hk:S3 f):vJ f=some f:=by
 have hn:=hz.stats.1
 have key:∀(d k i:Nat),i+d=f.stats.length→d<k→jF f f.part ((),f.stats) k f.stats (i:Int)=some f:=by
  intro d
  induction d with
  |zero=>
   intro k i hi hk
   obtain⟨k,rfl⟩:=fu hk
   rw[jF]
   show aj (decide ((i:Int)<(f.stats.length:Int))) _ _=_
   rw[G2 (by omega),iF];rfl
  |succ d ih=>
   intro k i hi hk'
   obtain⟨k,rfl⟩:=fu hk'
   have h1:i<f.stats.length:=by omega
   obtain⟨a,b⟩:=hk.stats _ (gV h1)
   rw[jF]
   show aj (decide ((i:Int)<(f.stats.length:Int))) _ _=_
   rw[aV h1,iT,aD h1,bS,LQ a.it,bS,LQ b.it,bS]
   rw[show cc.mk f.stats[i].id f.stats[i].nulls f.stats[i].min f.stats[i].max=f.stats[i]from rfl,show((i:Int)).toNat=i from rfl,List.set_getElem_self,aD h1,bS,
    show cc.mk f.stats[i].id f.stats[i].nulls f.stats[i].min f.stats[i].max=f.stats[i]from rfl,List.set_getElem_self,au h1 hn]
   exact ih k (i+1) (by omega) (by omega)
 unfold vJ qO ja
 rw[abo hz.part.1 (fun v hv=>(hk.part v hv).it),bS,gP (by simp;omega),bS,bS]
 exact key f.stats.length aH 0 (by omega) (by rw[aJ];omega)
def WX(l:List lr):Prop:=∀t∈l,t.rows.length<1000000000
theorem Uk{m:ay}(hm:ul m)(h:Gf m=0){s:ar}(hs:s∈m.snapshots):(∀f∈s.files,yj m f=0)∧∃fs,at? m.schemas s.schema=some fs∧fs∈m.schemas:=by
 unfold Gf at h
 simp only[lx]at h
 obtain⟨i,hi,rfl⟩:=Kb.1 hs
 have h1:=N5.1 h.2.2.1 i (Nat.zero_le _) (by omega)
 rw[JI hi,lx,lx]at h1
 refine⟨fun f hf=> ?_,?_⟩
 ·have hh:=h1.2.2
  unfold UZ at hh
  rw[lx,lx]at hh
  obtain⟨j,hj,rfl⟩:=Kb.1 hf
  have h2:=N5.1 hh.1 j (Nat.zero_le _) (by omega)
  unfold Uw at h2
  rw[dJ hj]at h2
  simp only[lx]at h2
  exact h2.1
 ·have h3:=(D8 (by decide)).1 h1.1
  unfold Ed at h3
  simp only[Bool.or_eq_false_iff,Bool.not_eq_false']at h3
  have h4:=h3.2.2.2.1
  rw[ld hm.schemas.1]at h4
  unfold wi at h4
  simp only[decide_eq_true_eq]at h4
  obtain⟨hl,e1,_⟩:=EW h4.1 h4.2
  exact⟨_,e1,gV hl⟩
theorem PR{m:ay}{wh:List bw}(hm:ul m)(hw:WL wh)(id:Int):∃l e,Ap m id wh=some (l,e)∧Cq m id wh=some (l,e)∧l.length<1000000000∧WX l:=by
 have hz0:([]:List lr).length<1000000000∧WX []:=⟨by simp,fun t ht=>by cases ht⟩
 obtain⟨e,e1,e2,e3⟩:=IU hm
 unfold Ap Cq
 rw[e1,e2,bS,bS]
 by_cases h0:e=0
 ·rw[show(e != 0)=false by simp[h0],iF,iF]
  have hall:=e3 h0
  obtain⟨s,b,s1,s2,s3⟩:=Tc hm (fun s hs=>(adh hm hall s hs).1) id
  rw[s1,s2,bS,bS]
  cases b with
  |false=>exact⟨[],9,rfl,rfl,hz0⟩
  |true=>
   have hs:=s3 rfl
   obtain⟨f1,fs,f2,f3⟩:=Uk hm hall hs
   have hsz:=hm.snaps.2 s hs
   have hz:=hm.schemas.2 _ f3
   show∃l e,aj false _ _=_∧aj false _ _=_∧_
   rw[iF,iF]
   show∃l e,al (at? m.schemas s.schema) _=_∧al (at? m.schemas s.schema) _=_∧_
   obtain⟨c1,c2⟩:=OY hz hw
   rw[f2,bS,bS,c1,c2,bS,bS]
   by_cases h3:Kp fs wh=0
   ·rw[show(Kp fs wh != 0)=false by simp[h3],iF,iF]
    have hr:=Vu hz hw h3
    have hn:=hsz.files.1
    have key:∀(d k k' i:Nat) (l:List lr),i+d=s.files.length→d<k→d<k'→l.length≤i→WX l→
      ∃r,jx m wh (s,true) fs k l (i:Int)=some (r,0)∧kA m wh (s,true) k' l (i:Int)=some (r,0)∧r.length≤s.files.length∧WX r:=by
     intro d
     induction d with
     |zero=>
      intro k k' i l hi hk hk' hl ht
      obtain⟨k,rfl⟩:=fu hk
      obtain⟨k',rfl⟩:=fu hk'
      refine⟨l,?_,?_,by omega,ht⟩
      ·rw[jx]
       show aj (decide ((i:Int)<(s.files.length:Int))) _ _=_
       rw[G2 (by omega),iF]
       unfold zk
       rw[abV,bS]
      ·rw[kA]
       show aj (decide ((i:Int)<(s.files.length:Int))) _ _=_
       rw[G2 (by omega),iF]
       rfl
     |succ d ih=>
      intro k k' i l hi hk hk' hl ht
      obtain⟨k,rfl⟩:=fu hk
      obtain⟨k',rfl⟩:=fu hk'
      have h1:i<s.files.length:=by omega
      have hfm:=gV h1
      have hfz:=hsz.files.2 _ hfm
      obtain⟨os,sp,hfk⟩:=Yx hm hall hfz (f1 _ hfm)
      obtain⟨d1,d2⟩:=OQ f2 hz hfk hw hr
      rw[jx,kA]
      show∃r,aj (decide ((i:Int)<(s.files.length:Int))) (al (at? s.files (i:Int)) _) _=_∧aj (decide ((i:Int)<(s.files.length:Int))) (al (at? s.files (i:Int)) _) _=_∧_
      rw[aV h1,iT,iT,aD h1,bS,bS,d1,bS]
      show∃r,_∧al (Bn m s.schema s.files[i] wh) _=_∧_
      rw[d2,bS]
      unfold uS w6
      rw[au h1 hn]
      cases(!lI (PO os fs sp s.files[i] wh) wh.length)with
      |false=>rw[iF,iF];exact ih k k' (i+1) l (by omega) (by omega) (by omega) (by omega) ht
      |true=>
       have hg:=XS hsz s.files[i].name
       rw[iT,iT,TH hfz hfk.ok,bS]
       show∃r,al (wT s s.files[i].name) _=_∧al (D7 s s.files[i].name) _=_∧_
       unfold sR
       rw[acn hsz.dat.1,abM hsz.dat.1,bS,bS,gP (by simp;omega),bS,List.nil_append,acx,bS,gP (by omega),gP (by omega)]
       exact ih k k' (i+1) _ (by omega) (by omega) (by omega) (by simp;omega) (fun t hm=>by
        rcases List.mem_append.1 hm with h|h
        ·exact ht t h
        ·simp at h;subst h;exact hg)
    obtain⟨r,r1,r2,r3,r4⟩:=key s.files.length aH aH 0 [] (by omega) (by rw[aJ];omega) (by rw[aJ];omega) (Nat.zero_le _) hz0.2
    exact⟨r,0,r1,r2,by omega,r4⟩
   ·rw[show(Kp fs wh != 0)=true by simp[h3],iT,iT];exact⟨[],_,rfl,rfl,hz0⟩
 ·rw[show(e != 0)=true by simp[h0],iT,iT];exact⟨[],e,rfl,rfl,hz0⟩
theorem TM{m:ay}{f:ai}{wh:List bw}(hm:ul m)(hf:Lj f)(hw:WL wh)(sch id:Int):ky m sch id f wh=some true:=by
 obtain⟨b,e,b1,b2⟩:=VL hm hf hw sch
 obtain⟨l,x,l1,l2,l3,l4⟩:=PR hm hw id
 unfold ky gb iZ
 rw[b1,b2,OH,bS,bS,bS,Bool.not_true,iF]
 show aj (e != e) _ _=_
 rw[bne_self_eq_false,iF]
 show aj (!(b==b)) _ _=_
 rw[beq_self_eq_true,Bool.not_true,iF,l1,l2,bS,bS]
 show aj (x != x) _ (aj ((l.length:Int) != (l.length:Int)) _ _)=_
 rw[bne_self_eq_false,bne_self_eq_false,iF,iF]
 rw[Ft (L:=bZ (l,x) (l,x)) (n:=l.length) (p:=fun _=>false) l3
  (fun k=>by rw[bZ];show aj (decide ((l.length:Int)<(l.length:Int))) _ _=_;rw[vU,iF];rfl)
  (fun k i hi=>by
   rw[bZ]
   show aj (decide ((i:Int)<(l.length:Int))) (al (at? l (i:Int)) fun e1=>al (at? l (i:Int)) _) _=_
   unfold ga
   rw[aV hi,iT,aD hi,bS,bS,M6,decide_eq_true rfl,Bool.not_true,iF,bne_self_eq_false,iF,S4 _ (l4 _ (gV hi)),bS,Bool.not_true,iF,au hi l3,iF])]
 congr 1
 exact JH.2 fun _ _=>rfl
end Go.Proofs.YtpiohnabdhpphaaGreatDoor
