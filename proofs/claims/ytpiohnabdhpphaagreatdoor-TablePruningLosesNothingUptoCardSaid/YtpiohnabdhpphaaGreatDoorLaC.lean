/- Partition values of rows: the reference. Adapt of the reference: what becomes of a row. The law 'TablePruningLosesNothing', in plain terms. A table, read from a row. The law of pruning for tables, files, rows and conditions of some size. -/
import Derived.Test.YtpiohnabdhpphaaGreatDoorProg
import Derived.Test.YtpiohnabdhpphaaGreatDoorLaB
set_option linter.unusedVariables false
set_option linter.unusedSimpArgs false
set_option linter.unnecessarySimpa false
namespace Go.Proofs.YtpiohnabdhpphaaGreatDoor
open Go Go.SX Go.SX.Cal
open Go.IntKind (i64)
theorem aep(p:aT)(v:ac)(hv:bE v<10000000):∃x,bY p v=some x∧gK p v=some x∧Ord.wfV x∧bE x≤100000001:=by
 obtain⟨x,h1,h2,h3⟩:=NE p v hv;refine⟨x,h1,h2,?_⟩;rcases h3 with rfl|⟨h,hl,hk,rfl⟩
 ·exact⟨UB,by rw[qS];show ByteArray.empty.size+cN []+1≤_;simp only[cN,Cr];omega⟩
 ·have:=Wn (h:=h) hl hk;refine⟨Xb hl hk,?_⟩;rw[qS,this.it];have:=this.s;simp only[cN];omega
theorem QW{fs:List ae}{r:List ac}(hn:fs.length<1000000000)(rec1:List ac→Int→Option (List ac))(x1:Int)(e:bi){i:Nat}(hu:∀(j:Nat) (h:j<fs.length),i<j→fs[j].id≠e.source)(l:List ac):∀(m f j:Nat),j+m=fs.length→m<f→i<j→
  dT rec1 fs r x1 e f l (j:Int)=nU rec1 x1 l:=by
 intro m;induction m with
 |zero=>
  intro f j h hf hi;obtain⟨q,rfl⟩:=fu hf;rw[dT,FE (by omega),iF]
 |succ m ih=>
  intro f j h hf hi;obtain⟨q,rfl⟩:=fu hf;have hj:j<fs.length:=by omega
  rw[dT,aS hj,iT,aB hj,bS,beq_eq_false_iff_ne.2 (hu j hj hi),iF];unfold lB;rw[aq hj hn];exact ih q (j+1) (by omega) (by omega) (by omega)
theorem Xq{fs:List ae}{r:List ac}(hn:fs.length<1000000000)(hr:r.length=fs.length)(rec1:List ac→Int→Option (List ac))(x1:Int)(e:bi){i:Nat}(hi:RN fs e.source i)(hu:∀(j:Nat) (h:j<fs.length),i<j→fs[j].id≠e.source){x:ac}(hx:gK e.transform (r[i]'(by rw[hr];exact hi.lt))=some x)(l:List ac)(hl:l.length<1000000000):
  ∀(m f j:Nat),j+m=i→fs.length<f+j→dT rec1 fs r x1 e f l (j:Int)=nU rec1 x1 (l++[x]):=by
 intro m;induction m with
 |zero=>
  intro f j h hf;have e0:j=i:=by omega
  subst e0;have hj:=hi.lt;obtain⟨q,rfl⟩:=fu (show 0<f by omega);rw[dT,aS hj,iT,aB hj,bS,hi.eq hj,beq_self_eq_true,iT,aB (by rw[hr];exact hj),bS,hx,bS,gP (by omega)];unfold lB;rw[aq hj hn];exact QW hn rec1 x1 e hu (l++[x]) (fs.length-(j+1)) q (j+1) (by omega) (by omega) (by omega)
 |succ m ih=>
  intro f j h hf;have hj:j<fs.length:=by have:=hi.lt;omega
  obtain⟨q,rfl⟩:=fu (show 0<f by omega);rw[dT,aS hj,iT,aB hj,bS,beq_eq_false_iff_ne.2 (hi.no j hj (by omega)),iF];unfold lB;rw[aq hj hn];exact ih q (j+1) (by omega) (by omega)
structure ZF(os:List ae)(sp:cg)(r xs:List ac):Prop where
 n4:sp.fields.length≤4
 len:xs.length=sp.fields.length
 wf:∀x∈xs,Ord.wfV x∧bE x≤100000001
 val:∀(j:Nat) (h:j<sp.fields.length) (h':j<xs.length),∃(i:Nat) (hi:i<os.length) (hi':i<r.length),os[i].id=sp.fields[j].source∧bY sp.fields[j].transform r[i]=some xs[j]
theorem T4{p:cg}{fs:List ae}{r:List ac}(hn:fs.length<1000000000)(hp:p.fields.length<1000000000)(hr:r.length=fs.length)(hs:∀v∈r,bE v<10000000)
  (hu:(fD fs).Nodup)(h4:p.fields.length≤4)(ht:∀(k:Nat) (h:k<p.fields.length),∃i,RN fs p.fields[k].source i):∀(m f j:Nat) (l:List ac),j+m=p.fields.length→m<f→l.length=j→(∀x∈l,Ord.wfV x∧bE x≤100000001)→
  (∀(q:Nat) (h:q<p.fields.length) (h':q<l.length),∃(i:Nat) (hi:i<fs.length) (hi':i<r.length),fs[i].id=p.fields[q].source∧bY p.fields[q].transform r[i]=some l[q])→
  ∃xs,eS fs p r f l (j:Int)=some xs∧ZF fs p r xs:=by
 intro m;induction m with
 |zero=>
  intro f j l h hf hl hw hv;obtain⟨q,rfl⟩:=fu hf;refine⟨l,?_,h4,by omega,hw,hv⟩;rw[eS,FE (by omega),iF];rfl
 |succ m ih=>
  intro f j l h hf hl hw hv;obtain⟨q,rfl⟩:=fu hf;have hj:j<p.fields.length:=by omega
  obtain⟨i,hi⟩:=ht j hj;have hir:i<r.length:=by rw[hr];exact hi.lt
  obtain⟨x,t1,t2,t3⟩:=aep p.fields[j].transform r[i] (hs _ (gd hir));obtain⟨xs,g1,g2⟩:=ih q (j+1) (l++[x]) (by omega) (by omega) (by simp[hl]) (fun y hy=>by
   rcases List.mem_append.1 hy with h|h
   ·exact hw y h
   ·rw[List.mem_singleton.1 h];exact t3) (fun k hk hk'=>by
   rcases Nat.lt_or_ge k l.length with c|c
   ·obtain⟨a,b,d,e,g⟩:=hv k hk c;exact⟨a,b,d,e,by rw[List.getElem_append_left c];exact g⟩
   ·have:k=j:=by simp at hk';omega
    subst this;subst hl;exact⟨i,hi.lt,hir,hi.eq hi.lt,by rw[List.getElem_concat_length rfl];exact t1⟩)
  refine⟨xs,?_,g2⟩;rw[eS,aS hj,iT,aB hj,bS];have:=Xq (r:=r) hn hr (eS fs p r q) (j:Int) p.fields[j] hi (fun j' h' hlt hid=>by
   have:=Ed hu j' i h' hi.lt (by rw[hid,hi.eq hi.lt]);omega) t2 l (by omega) i aH 0 (by omega) (by rw[aF];omega)
  rw[show((0:Nat):Int)=0 from rfl]at this;rw[this];unfold nU;rw[aq hj hp,g1]
theorem Ti{sp:cg}{os:List ae}(h:rL sp os=some 0):sp.fields.length≤4:=by
 unfold rL at h;by_cases h4:(4:Int)<(sp.fields.length:Int)
 ·rw[decide_eq_true h4,iT]at h;cases h
 ·omega
theorem ZN{os:List ae}{sp:cg}{r:List ac}(hz:dt os<1000000000-1)(hu:(fD os).Nodup)(hp:sp.fields.length<1000000000)(hr:cN r<1000000000)(hs:∀v∈r,bE v<10000000):
  ∃xs c,sK os sp r=some (xs,c)∧(c=0→ZF os sp r xs):=by
 have hn:os.length<1000000000:=by have:=bX os;omega
 have h2:=DR (fs:=os) (rows:=[r]) hz (fun q hq=>by rw[List.mem_singleton.1 hq];exact hr) (by simp);unfold sK;rw[h2,bS];by_cases h0:SH os [r]=0
 ·rw[h0,show((0:Int) != 0)=false from rfl,iF];obtain⟨c,_,s2,s3⟩:=Pv sp hp (fs:=os) (by omega);rw[s2,bS];by_cases hc:c=0
  ·subst hc;rw[show((0:Int) != 0)=false from rfl,iF];obtain⟨xs,g1,g2⟩:=T4 hn hp (Gk (Gl h0).2 r (by simp)).1 hs hu (Ti s2) (s3 rfl) sp.fields.length aH 0 [] (by omega) (by rw[aF];omega) rfl (fun x hx=>by cases hx) (fun q h h'=>by simp at h');have g1:zG os sp r=some xs:=g1;rw[g1,bS];exact⟨xs,0,rfl,fun _=>g2⟩
  ·rw[show(c != 0)=true by simp[hc],iT];exact⟨[],c,rfl,fun h=>absurd h hc⟩
 ·rw[show(SH os [r] != 0)=true from bne_iff_ne.2 h0,iT];exact⟨[],_,rfl,fun h=>absurd h h0⟩
theorem QZ:∀{l:List ac},(∀v∈l,Ord.wfV v∧bE v≤100000001)→Ord.wfL l∧cN l≤100000001*l.length
 |[],_=>by simp[Ord.wfL,cN]
 |x::l,h=>by
  obtain⟨a,b⟩:=QZ (l:=l) fun v hv=>h v (by simp[hv])
  have hx:=h x (by simp);simp only[Ord.wfL,cN,List.length_cons];exact⟨⟨hx.1,a⟩,by omega⟩
theorem aa8{a b:List ac}(ha:∀v∈a,Ord.wfV v∧bE v≤100000001)(hb:∀v∈b,Ord.wfV v∧bE v≤100000001)(hn:a.length≤4):jj a b=some (Ord.cmpL a b):=by
 unfold jj;obtain⟨a1,a2⟩:=QZ ha;obtain⟨b1,b2⟩:=QZ hb;have hw:∀{l:List ac},Ord.wfL l→Ord.wfV ⟨6,0,0,ByteArray.empty,l⟩:=fun h=>by
  simp only[Ord.wfV,Ord.i6q];exact⟨⟨by omega,by omega⟩,⟨by omega,by omega⟩,⟨by omega,by omega⟩,h⟩
 have hz:bE ⟨6,0,0,ByteArray.empty,a⟩=cN a+1:=by simp only[bE];rw[Cr];omega
 rw[Ord.rcompareV_eq (cN a+1) _ _ aH (by rw[hz];exact iO _) (by rw[hz];omega) (hw a1) (hw b1) (by rw[aF];omega),bS];congr 1;simp only[Ord.cmpV,Ord.c3_self,Ord.or_zero];rw[if_neg (by decide),show Ord.cS ByteArray.empty ByteArray.empty=0 from aae.2 rfl,Ord.or_zero]
theorem RA:∀{a b:List ac},Ord.cmpL a b=0→∀(j:Nat) (h:j<a.length) (h':j<b.length),Ord.cmpV a[j] b[j]=0
 |[],_,_,j,h,_=>by simp at h
 |_::_,[],_,j,_,h'=>by simp at h'
 |x::a,y::b,e,j,h,h'=>by
  simp only[Ord.cmpL]at e;rw[G6]at e;cases j with
  |zero=>exact e.1
  |succ j=>exact RA e.2 j (by simpa using h) (by simpa using h')
theorem TR{a b c:ac}(h1:Ord.cmpV a b=0)(h2:Ord.cmpV b c=0):Ord.cmpV a c=0:=(Ord.cmpV_tri a b c).2 h1 h2
structure UZ(os:List ae)(sp:cg)(rows:List (List ac))(n:Nat)(z:List ac):Prop where
 len:z.length=sp.fields.length
 wf:∀x∈z,Ord.wfV x∧bE x≤100000001
 val:∀(q:Nat) (h:q<rows.length),q<n→∀(j:Nat) (h:j<sp.fields.length) (h':j<z.length),∃(i:Nat) (hi:i<os.length) (hi':i<rows[q].length) (x:ac),os[i].id=sp.fields[j].source∧bY sp.fields[j].transform (rows[q])[i]=some x∧Ord.cmpV x z[j]=0
theorem abd{p:List ae}(hn:p.length<1000000000)(x:Int):(∃(j:Nat) (h:j<p.length),kD p x=some (j:Int)∧p[j].id=x)∨(kD p x=some (-1)∧∀(j:Nat) (h:j<p.length),p[j].id≠x):=by
 rcases KG (L:=kO p x) (n:=p.length) (p:=fun j=>match p[j]? with|some f=>f.id==x|none=>false)
  (fun k=>by rw[kO,wl,iF];rfl)
  (fun k i hi=>by rw[kO,aS hi,iT,aB hi,bS,aq hi hn,dK hi]) p.length aH 0 (by omega) (by rw[aF];omega)with⟨j,_,hj,e,h⟩ |⟨e,h⟩
 ·rw[dK hj]at e;exact .inl ⟨j,hj,h,by simpa using e⟩
 ·refine .inr ⟨h,fun j hj=> ?_⟩;have:=e j (Nat.zero_le _) hj;rw[dK hj]at this;simpa using this
theorem Y1(q2:al→al→ac→Option ac){p q:List ae}{vs:List ac}(hp:p.length<1000000000)(hq:q.length<1000000000)(hl:vs.length=p.length)
  (h:∀f∈q,∀(i:Nat) g v,kD p f.id=some (i:Int)→p[i]? =some g→vs[i]? =some v→∃r,q2 g.type f.type v=some r):
  ∃r,eU q2 p q vs aH [] 0=some r∧r.length=q.length∧∀(i:Nat) (hi:i<q.length) (hi':i<r.length),((∀(j:Nat) (h:j<p.length),p[j].id≠q[i].id)∧r[i].kind=0)∨∃(j:Nat) (hj:j<p.length) (hj':j<vs.length),p[j].id=q[i].id∧kD p q[i].id=some (j:Int)∧q2 p[j].type q[i].type vs[j]=some r[i]:=by
 have key:∀(m f' i:Nat) (l:List ac),i+m=q.length→m<f'→l.length=i→(∀(i:Nat) (hi:i<q.length) (hi':i<l.length),((∀(j:Nat) (h:j<p.length),p[j].id≠q[i].id)∧l[i].kind=0)∨∃(j:Nat) (hj:j<p.length) (hj':j<vs.length),p[j].id=q[i].id∧kD p q[i].id=some (j:Int)∧q2 p[j].type q[i].type vs[j]=some l[i])→
   ∃r,eU q2 p q vs f' l (i:Int)=some r∧r.length=q.length∧∀(i:Nat) (hi:i<q.length) (hi':i<r.length),((∀(j:Nat) (h:j<p.length),p[j].id≠q[i].id)∧r[i].kind=0)∨∃(j:Nat) (hj:j<p.length) (hj':j<vs.length),p[j].id=q[i].id∧kD p q[i].id=some (j:Int)∧q2 p[j].type q[i].type vs[j]=some r[i]:=by
  intro m;induction m with
  |zero=>
   intro f' i l hi hf' hl hx;obtain⟨f',rfl⟩:=fu hf';unfold eU uj;rw[FE (by omega),iF];exact⟨l,rfl,by omega,hx⟩
  |succ m ih=>
   intro f' i l hi hf' hll hx;obtain⟨f',rfl⟩:=fu hf';have h1:i<q.length:=by omega
   unfold eU pL;rw[aS h1,iT,aB h1,bS,aq h1 hq];rcases abd hp q[i].id with⟨j,hj,r2,r3⟩ |⟨r2,r3⟩
   ·have hj':j<vs.length:=by omega
    rw[r2,bS,decide_eq_false (by omega),iF,aB hj,bS,aB hj',bS];obtain⟨y,y2⟩:=h q[i] (gd h1) j p[j] vs[j] r2 (dK hj) (dK hj');rw[y2,bS,gP (by omega)];refine ih f' (i+1) _ (by omega) (by omega) (by simp;omega) fun k hk hk'=> ?_
    rcases Nat.lt_or_ge k l.length with c|c
    ·rw[List.getElem_append_left c];exact hx k hk c
    ·have:k=i:=by simp at hk';omega
     subst this;subst hll;rw[List.getElem_concat_length rfl];exact .inr ⟨j,hj,hj',r3,r2,y2⟩
   ·rw[r2,bS,decide_eq_true (by decide),iT,gP (by omega)];refine ih f' (i+1) _ (by omega) (by omega) (by simp;omega) fun k hk hk'=> ?_
    rcases Nat.lt_or_ge k l.length with c|c
    ·rw[List.getElem_append_left c];exact hx k hk c
    ·have:k=i:=by simp at hk';omega
     subst this;subst hll;rw[List.getElem_concat_length rfl];exact .inl ⟨r3,rfl⟩
 exact key q.length aH 0 [] (by omega) (by rw[aF];omega) rfl (fun i _ h=>by simp at h)
theorem abJ(q2:List ae→List ae→List ac→Option (List ac)){t u:al}{v:ac}(hl:v.items.length<1000000000)
  (h:∀x∈v.items,∃y,q2 t.fields u.fields [x]=some [y]):∃r,j7 q2 t u v aH [] 0=some r:=by
 have key:∀(m f' i:Nat) (l:List ac),i+m=v.items.length→m<f'→l.length=i→∃r,j7 q2 t u v f' l (i:Int)=some r:=by
  intro m;induction m with
  |zero=>
   intro f' i l hi hf' hl;obtain⟨f',rfl⟩:=fu hf';unfold j7 yh;rw[FE (by omega),iF];exact⟨_,rfl⟩
  |succ m ih=>
   intro f' i l hi hf' hll;obtain⟨f',rfl⟩:=fu hf';have h1:i<v.items.length:=by omega
   obtain⟨y,y2⟩:=h _ (gd h1);unfold j7;rw[aS h1,iT,aq h1 hl,gP (by omega),Int.toNat_natCast,Int.toNat_natCast,show i+1-i=1 by omega,Aw h1,show∀l':List ac,(v.items[i]::l').take 1=[v.items[i]]from fun _=>rfl,y2,bS,gP (by simp;omega)];exact ih f' (i+1) _ (by omega) (by omega) (by simp;omega)
 exact key v.items.length aH 0 [] (by omega) (by rw[aF];omega) rfl
structure OkA(d:Nat)(t:al)(v:ac):Prop where
 s:Um d v
 o:Hg d t v=true
 z:bE v<1000000000
theorem Va{d:Nat}{t:al}{v:ac}(h:Hg (d+1) t v=true):v.kind=0∨v.kind=t.kind:=by
 rw[Hg]at h;by_cases h0:v.kind=0
 ·exact .inl h0
 ·rw[if_neg h0]at h;by_cases e:v.kind=t.kind
  ·exact .inr e
  ·rw[if_pos e]at h;cases h
theorem YJ{d:Nat}{t:al}{v:ac}(h:Hg (d+1) t v=true)(hk:v.kind=t.kind)(h7:t.kind=7):t.fields.length=v.items.length:=by
 rw[Hg,if_neg (by omega),if_neg (fun hh=>hh hk),if_neg (by omega)]at h;by_cases e:t.fields.length=v.items.length
 ·exact e
 ·rw[if_pos ⟨by omega,e⟩]at h;cases h
theorem RK:∀(d k':Nat) (t u:al) (v:ac),OkA d t v→V t→V u→jm t<1000000000→jm u<1000000000→AdT (O2 (d+1)) t u→3*d+1≤k'→
  ∃r,jP k' t u v=some r∧(v.kind=0→r=v)∧(v.kind≠0→u.kind≠6∧u.kind≠7→Wp t u∧ry v u=some r)
 |0,_,_,_,_,h,_,_,_,_,_,_=>h.s.zero.elim
 |d+1,k',t,u,v,h,ht,hu,hst,hsu,ha,hk'=>by
  obtain⟨k',rfl⟩:=fu (m:=3*d+3) (f:=k') (by omega);obtain⟨hp,hit⟩:=h.s.succ;have hz:=h.z;have hzv:=qS v;have hzl:=gx v.items;have hst':=pV t;have hsu':=pV u;have hft:=bX t.fields;have hfu:=bX u.fields;rw[jP];by_cases h0:v.kind=0
  ·rw[show(v.kind==0)=true by simp[h0],iT];exact⟨v,rfl,fun _=>rfl,fun h=>absurd h0 h⟩
  ·rw[show(v.kind==0)=false by simp[h0],iF];have hkt:v.kind=t.kind:=(Va h.o).resolve_left h0;by_cases hlf:t.kind≠6∧t.kind≠7
   ·have hw:=ha.1 hlf;rw[DU,bS,decide_eq_true hw.m,iT,HB h0,bS];exact⟨_,rfl,fun h=>absurd h h0,fun _ _=>⟨hw,rfl⟩⟩
   ·obtain⟨hku,had⟩:=ha.2 hlf;have hnu:¬(u.kind≠6∧u.kind≠7):=by rw[←hku];exact hlf
    rw[DU,bS,decide_eq_false hnu,iF];obtain⟨hfit,hof⟩:=WS h.s ht h.o;have hrow:∀(k':Nat) (vs:List ac),0<d→3*d+2≤k'→vs.length=t.fields.length→(∀(i:Nat) (g:ae) w,t.fields[i]? =some g→vs[i]? =some w→OkA d g.type w)→
      ∃r,fi k' t.fields u.fields vs=some r∧r.length=u.fields.length:=by
     intro k' vs hd hk' hl hvs;obtain⟨d,rfl⟩:=fu hd;obtain⟨k',rfl⟩:=fu (m:=3*(d+1)+1) (f:=k') (by omega);rw[fi];obtain⟨r,r1,r2,_⟩:=Y1 (jP k') (p:=t.fields) (q:=u.fields) (vs:=vs) (by omega) (by omega) hl fun f hf i g w hfi hg hw=>by
      have hm:=List.mem_of_getElem? hg;have hs1:=io hm;have hs2:=gy g;have hs3:=io hf;have hs4:=gy f;obtain⟨r,r1,_⟩:=RK (d+1) k' g.type f.type w (hvs i g w hg hw) (ht.fs g hm) (hu.fs f hf) (by omega) (by omega) (had f hf i g hfi hg) (by omega);exact⟨r,r1⟩
     exact⟨r,r1,r2⟩
    by_cases h7:t.kind=7
    ·have hlen:=YJ h.o hkt h7;have hpos:0<v.items.length:=by
      unfold df at hp;simp[show v.kind=7 by omega]at hp;exact hp.2.2
     have hd:0<d:=by
      rcases Nat.eq_zero_or_pos d with rfl|hd
      ·exact(hit _ (gd hpos)).zero.elim
      ·exact hd
     obtain⟨r,r2,r3⟩:=hrow k' v.items hd (by omega) (by omega) (by
      intro i g w hg hw;have hi:i<v.items.length:=by
       rcases Nat.lt_or_ge i v.items.length with h|h
       ·exact h
       ·rw[List.getElem?_eq_none h]at hw;cases hw
      have hwi:w=iv v i:=by unfold iv;rw[hw];rfl
      have hgt:ft t i=g.type:=by unfold ft;rw[if_neg (by omega),hg];rfl
      have hsz:=gA (DH hi);rw[hwi];exact⟨hit _ (DH hi),by rw[←hgt];exact hof i hi,by omega⟩)
     rw[show(u.kind==7)=true by simp;omega,iT,r2,bS];exact⟨_,rfl,fun h=>absurd h h0,fun _ h=>absurd h hnu⟩
    ·have h6:t.kind=6:=by omega
     rw[show(u.kind==7)=false by simp;omega,iF];obtain⟨r,r2⟩:=abJ (fi k') (t:=t) (u:=u) (v:=v) (by omega) (by
      intro x hx;have hd:0<d:=by
       rcases Nat.eq_zero_or_pos d with rfl|hd
       ·exact(hit _ hx).zero.elim
       ·exact hd
      obtain⟨i,hi,rfl⟩:=List.getElem_of_mem hx;have hsz:=gA hx;have hlen:=ht.list h6;obtain⟨r,r2,r3⟩:=hrow k' [v.items[i]] hd (by omega) (by simp;omega) (by
       intro j g w hg hw;have hj:j=0:=by
        cases j with
        |zero=>rfl
        |succ j=>simp at hw
       subst hj;simp at hw;have hgt:ft t i=g.type:=by unfold ft;rw[if_pos h6,hg];rfl
       have:=hof i hi;rw[hgt,←Ji hi,hw]at this;subst hw;exact⟨hit _ hx,this,by omega⟩)
      have hu1:u.fields.length=1:=hu.list (by omega);obtain⟨y,rfl⟩:=List.length_eq_one_iff.1 (r3.trans hu1);exact⟨y,r2⟩)
     rw[r2];exact⟨r,rfl,fun h=>absurd h h0,fun _ h=>absurd h hnu⟩
structure AdK(os fs:List ae)(r o:List ac):Prop where
 len:o.length=fs.length
 val:∀(i:Nat) (hi:i<fs.length) (hi':i<o.length),uy fs[i]=true→o[i].kind=0∨∃(j:Nat) (hj:j<os.length) (hj':j<r.length),os[j].id=fs[i].id∧r[j].kind≠0∧Wp os[j].type fs[i].type∧o[i]=Nt r[j] fs[i].type
theorem ac3{fs:List ae}(hs:dt fs<1000000000-1)(h:sc fs=0):V ⟨7,0,fs⟩:=by
 obtain⟨e,h1,h2,h3⟩:=nQ ⟨7,0,fs⟩ (by simp only[jm];omega);have hc:=VB hs;rw[h]at hc;unfold fI at hc;rw[h1,bS]at hc;by_cases he:e=0
 ·exact h3 he
 ·rw[show(e != (0:Int))=true by simp[he],iT]at hc;cases hc;exact absurd rfl he
theorem YE{os fs:List ae}{rows:List (List ac)}(hp:dt os<1000000000-1)(hq:dt fs<1000000000-1)(hr:∀r∈rows,cN r<1000000000)(hl:rows.length<1000000000):
  ∃o c,Cl os fs rows=some (o,c)∧(c=0→o.length<1000000000∧∀x∈o,∃(q:Nat) (h:q<rows.length),AdK os fs rows[q] x):=by
 have hpl:=bX os;have hql:=bX fs;unfold Cl;rw[DR hp hr hl,bS];by_cases h1:SH os rows=0
 ·rw[h1,bne_self_eq_false,iF,Wq hq,bS];by_cases h2:sc fs=0
  ·rw[h2,bne_self_eq_false,iF];obtain⟨e,e1,e2,e3⟩:=Gs (dt fs) aH aH os fs (by omega) (by rw[aF];omega) (by rw[aF];omega) (by omega) (by omega);rw[e2,bS];by_cases h3:e=0
   ·subst h3;rw[bne_self_eq_false,iF];have had:=e3 rfl 6;obtain⟨hsp,hrows⟩:=Gl h1;have hVp:=ac3 hp hsp;have hVq:=ac3 hq h2;have hrow:∀(q:Nat) (h:q<rows.length),∃r,fi aH os fs rows[q]=some r∧AdK os fs rows[q] r:=by
     intro q hqr;have hrm:=gd hqr;obtain⟨hlen,hok⟩:=Gk hrows rows[q] hrm;have hsz:=hr rows[q] hrm;have hval:∀f∈fs,∀(i:Nat) g w,kD os f.id=some (i:Int)→os[i]? =some g→rows[q][i]? =some w→∃r,jP 1152921504606846975 g.type f.type w=some r∧(w.kind=0→r=w)∧(w.kind≠0→f.type.kind≠6∧f.type.kind≠7→Wp g.type f.type∧Ty g.type w∧ry w f.type=some r):=fun f hf i g w hfi hg hw=>by
      have hm:=List.mem_of_getElem? hg;have hs1:=io hm;have hs2:=gy g;have hs3:=io hf;have hs4:=gy f;have hs5:=gA (List.mem_of_getElem? hw);obtain⟨hck,_⟩:=MT hok i g w hg hw;obtain⟨hv,hsn,ho⟩:=Ph (by omega) (by omega) hck;obtain⟨r,r1,r2,r3⟩:=RK 4 1152921504606846975 g.type f.type w ⟨hsn,ho,by omega⟩ hv (hVq.fs f hf) (by omega) (by omega) (had f hf i g hfi hg) (by decide);exact⟨r,r1,r2,fun a b=>⟨(r3 a b).1,⟨by omega,by omega,hck⟩,(r3 a b).2⟩⟩
     rw[show aH=1152921504606846975+1 from rfl,fi];obtain⟨o,o1,o2,o3⟩:=Y1 (jP 1152921504606846975) (p:=os) (q:=fs) (vs:=rows[q]) (by omega) (by omega) hlen fun f hf i g w hfi hg hw=>by
      obtain⟨r,r1,_⟩:=hval f hf i g w hfi hg hw;exact⟨r,r1⟩
     refine⟨o,o1,o2,fun i hi hi' hlf=> ?_⟩;rcases o3 i hi hi' with⟨_,b⟩ |⟨j,hj,hj',b1,b2,b3⟩
     ·exact .inl b
     ·obtain⟨r,r1,r2,r3⟩:=hval fs[i] (gd hi) j os[j] (rows[q])[j] b2 (dK hj) (dK hj');rw[b3]at r1;cases r1;unfold uy at hlf;simp only[decide_eq_true_eq]at hlf;by_cases h0:(rows[q])[j].kind=0
      ·left;rw[r2 h0];exact h0
      ·obtain⟨w1,w2,w3⟩:=r3 h0 hlf;have:=(NT w2 w1).2.1;rw[w3]at this;exact .inr ⟨j,hj,hj',b1,h0,w1,Option.some.inj this⟩
    have key:∀(m f' i:Nat) (l:List (List ac)),i+m=rows.length→m<f'→l.length=i→(∀x∈l,∃(q:Nat) (h:q<rows.length),AdK os fs rows[q] x)→
      ∃o c,ol os fs rows f' l (i:Int)=some (o,c)∧(c=0→o.length<1000000000∧∀x∈o,∃(q:Nat) (h:q<rows.length),AdK os fs rows[q] x):=by
     intro m;induction m with
     |zero=>
      intro f' i l hi hf' hll hx;obtain⟨f',rfl⟩:=fu hf';unfold ol A7;rw[FE (by omega),iF];exact⟨l,0,rfl,fun _=>⟨by omega,hx⟩⟩
     |succ m ih=>
      intro f' i l hi hf' hll hx;obtain⟨f',rfl⟩:=fu hf';have h1:i<rows.length:=by omega
      obtain⟨y,y2,y3⟩:=hrow i h1;unfold ol;rw[aS h1,iT,aB h1,bS,y2,bS,gP (by omega),aq h1 hl];exact ih f' (i+1) _ (by omega) (by omega) (by simp;omega) (by
       intro x hx';rcases List.mem_append.1 hx' with h|h
       ·exact hx x h
       ·rw[List.mem_singleton.1 h];exact⟨i,h1,y3⟩)
    exact key rows.length aH 0 [] (by omega) (by rw[aF];omega) rfl (by intro x hx;cases hx)
   ·rw[show(e != (0:Int))=true by simp[h3],iT];exact⟨[],e,rfl,fun h=>absurd h h3⟩
  ·rw[show(sc fs != (0:Int))=true by simp[h2],iT];exact⟨[],sc fs,rfl,fun h=>absurd h h2⟩
 ·rw[show(SH os rows != (0:Int))=true by simp[h1],iT];exact⟨[],SH os rows,rfl,fun h=>absurd h h1⟩
end Go.Proofs.YtpiohnabdhpphaaGreatDoor
namespace Go.Proofs.YtpiohnabdhpphaaGreatDoor
open Go Go.SX Go.SX.Cal
open Go.IntKind (i64)
structure Xi(wh:List bA):Prop where
 n:wh.length<1000000000
 v:∀r∈wh,bE r.low<10000000∧bE r.high<10000000
noncomputable def UW(fs:List ae)(r:bA):Int:=if HY fs r.id then qF (ck (tm fs r.id).type r.low) (ck (tm fs r.id).type r.high)else 9
noncomputable def YZ(fs:List ae)(wh:List bA)(j:Nat):Int:=match wh[j]? with|some r=>UW fs r|none=>0
noncomputable def P6(fs:List ae)(wh:List bA):Int:=qF (er (decide ((40:Int)<(wh.length:Int))) 7) (fe (YZ fs wh) wh.length 0)
theorem adg{fs:List ae}{wh:List bA}(hz:dt fs<1000000000-1)(hw:Xi wh):tT fs wh=some (P6 fs wh):=by
 have hn:fs.length<1000000000:=by have:=bX fs;omega
 unfold tT P6;rw[eF (by decide),←eQ,←bG];refine fG fun _=> ?_
 rw[jg (L:=ji fs wh) (n:=wh.length) (fin:=some 0) (c:=YZ fs wh) hw.n
  (fun k=>by rw[ji,wl,iF];rfl)
  (fun k i hi=>by
   obtain⟨t,t1,t2⟩:=Oc hn wh[i].id;obtain⟨s1,s2⟩:=hw.v _ (gd hi);rw[ji,aS hi,iT,aB hi,bS,t1,bS];unfold YZ UW;rw[dK hi,aq hi hw.n];cases hb:HY fs wh[i].id with
   |false=>simp only[hb];rw[Bool.not_false,iT,if_neg (by simp)];rfl
   |true=>
    obtain⟨h1,h2⟩:=t2 hb;have hT:=BV hz h2;simp only[hb];rw[Bool.not_true,iF,if_pos trivial,←bG,←js,←js];show am (gN t wh[i].low) _=_;rw[h1,Qu (by omega) hT,bS];show ak _ _ (am (gN (tm fs wh[i].id).type wh[i].high) _)=_;rw[Qu (by omega) hT,bS])]
theorem aah{fs:List ae}{wh:List bA}(hz:dt fs<1000000000-1)(hw:Xi wh)(h:P6 fs wh=0):∀r∈wh,RgK fs r:=by
 unfold P6 at h;rw[sM,Xh]at h;intro r hr;obtain⟨i,hi,rfl⟩:=NA.1 hr;have:=h.2 i (Nat.zero_le _) (by omega);unfold YZ UW at this;rw[dK hi]at this;simp only at this;obtain⟨s1,s2⟩:=hw.v _ (gd hi);have hn:fs.length<1000000000:=by have:=bX fs;omega
 cases hb:HY fs wh[i].id with
 |false=>rw[hb]at this;simp at this
 |true=>
  rw[hb,if_pos rfl,sM]at this;obtain⟨t,_,t2⟩:=Oc hn wh[i].id;obtain⟨_,h2⟩:=t2 hb;have hT:=BV hz h2;have hk:uy (tm fs wh[i].id)=true:=by unfold HY at hb;simp only[iu]at hb;exact hb.2
  unfold uy at hk;simp only[decide_eq_true_eq]at hk;exact⟨hb,hk.1,hk.2,⟨by omega,hT,this.1⟩,⟨by omega,hT,this.2⟩,s1,s2⟩
noncomputable def Uk(os fs:List ae)(sp:cg)(f:aj)(wh:List bA)(j:Nat):Bool:=match wh[j]? with|some r=>LE os fs sp f r|none=>false
theorem acU{m:ax}{f:aj}{os fs:List ae}{sp:cg}{wh:List bA}(hz:dt fs<1000000000-1)(hk:Jk m f os sp)(hw:Xi wh)(hr:∀r∈wh,RgK fs r):
  Ec m fs f wh=some (!lu (Uk os fs sp f wh) wh.length):=by
 unfold Ec dF dR;obtain⟨x,x1,x2⟩:=SP (L:=bf wh m.schemas m.specs m.nextField m.nextSeq m.nextSnap m.purges m.snapshots m.refs m.props fs f.name f.schema f.spec f.part f.rows f.seq f.stats) (n:=wh.length) (p:=Uk os fs sp f wh) hw.n
  (fun k=>by rw[bf,wl,iF];rfl)
  (fun k i hi=>by
   rw[bf,aS hi,iT,aB hi,bS];unfold AT Uk;rw[show o7 (ax.mk m.schemas m.specs m.nextField m.nextSeq m.nextSnap m.purges m.snapshots m.refs m.props) fs (aj.mk f.name f.schema f.spec f.part f.rows f.seq f.stats) wh[i]=o7 m fs f wh[i]from rfl,Xr hz hk (hr _ (gd hi)),bS,bS,Bool.not_not,aq hi hw.n,dK hi])
 rw[x1,bS,bS,x2]
structure No(m:ax)(sch:Int)(f:aj)(wh:List bA)(fs os:List ae)(sp:cg)(r:bA):Prop where
 at_:at? m.schemas sch=some fs
 mem:fs∈m.schemas
 k:Jk m f os sp
 rg:∀r∈wh,RgK fs r
 rm:r∈wh
 lack:LE os fs sp f r=true
theorem adm{m:ax}{f:aj}{wh:List bA}(hm:wj m)(hc:nV m=some 0)(hall:HI m=0)(hf:Np f)(hw:Xi wh)(sch:Int):∃b e,Bx m sch f wh=some (b,e)∧(e=0→b=false→∃fs os sp r,No m sch f wh fs os sp r):=by
 unfold Bx;rw[hc,bS,bne_self_eq_false,iF,lA,bS,mz hm.schemas.1];cases hb:decide (0≤sch∧sch≤(m.schemas.length:Int)-1)with
 |false=>exact⟨false,3,rfl,fun h=>by cases h⟩
 |true=>
  simp only[decide_eq_true_eq]at hb;obtain⟨hl,h1,_⟩:=Dc hb.1 hb.2;have hz:=hm.schemas.2 _ (gd hl);rw[Bool.not_true,iF,VM hm hf,bS];by_cases h2:BK m f=0
  ·rw[show(BK m f != 0)=false by simp[h2],iF,h1,bS,adg hz hw,bS];by_cases h3:P6 m.schemas[sch.toNat] wh=0
   ·rw[show(P6 m.schemas[sch.toNat] wh != 0)=false by simp[h3],iF];obtain⟨os,sp,hk⟩:=adI hm hall hf h2;have hr:=aah hz hw h3;rw[acU hz hk hw hr,bS];refine⟨_,_,rfl,fun _ hbf=> ?_⟩;have ha:lu (Uk os m.schemas[sch.toNat] sp f wh) wh.length=true:=by
     cases h:lu (Uk os m.schemas[sch.toNat] sp f wh) wh.length with
     |true=>rfl
     |false=>rw[h]at hbf;cases hbf
    obtain⟨j,hj,e⟩:=dO.1 ha;unfold Uk at e;rw[dK hj]at e;exact⟨_,os,sp,wh[j],h1,gd hl,hk,hr,gd hj,e⟩
   ·rw[show(P6 m.schemas[sch.toNat] wh != 0)=true by simp[h3],iT];exact⟨_,_,rfl,fun h=>absurd h h3⟩
  ·rw[show(BK m f != 0)=true by simp[h2],iT];exact⟨_,_,rfl,fun h=>absurd h h2⟩
theorem SC{fs:List ae}(hn:fs.length<1000000000)(hu:(fD fs).Nodup){g:ae}(hg:g∈fs){id:Int}(h:g.id=id):Hc fs id=true∧tm fs id=g:=by
 subst h;exact Zi hn hu hg
theorem aby{m:ax}{f:aj}{os fs:List ae}{sp:cg}{r:bA}{rows:List (List ac)}(hz:dt fs<1000000000-1)(hnd:(fD fs).Nodup)(hk:Jk m f os sp)(hr:RgK fs r)(hl:LE os fs sp f r=true)
  (hrows:∀r∈rows,cN r<1000000000∧∀v∈r,bE v<10000000)(hok:Ew os rows=0)(hst:∀x∈f.stats,OM os rows x)(hfr:f.rows=(rows.length:Int))(hp:UZ os sp rows rows.length f.part)
  {q:Nat}(hq:q<rows.length){o:List ac}(ho:AdK os fs rows[q] o){i:Nat}(hi:i<fs.length)(hi':i<o.length)(hid:fs[i].id=r.id):¬In r o[i]:=by
 intro hI;have hn:os.length<1000000000:=by have:=bX os;have:=hk.zo;omega
 have hn':fs.length<1000000000:=by have:=bX fs;omega
 obtain⟨_,hfi⟩:=SC hn' hnd (gd hi) hid;have hlf:uy fs[i]=true:=by
  have:=hr.tl;unfold HY at this;simp only[iu]at this;rw[←hfi];exact this.2
 rcases ho.val i hi hi' hlf with h0|⟨j,hj,hj',e1,e2,hw,e3⟩
 ·exact hI.ne h0
 obtain⟨hB,hF⟩:=SC hn hk.nd (gd hj) (e1.trans hid);have hlj:uy os[j]=true:=by unfold uy;simp only[decide_eq_true_eq];exact hw.l
 have htl:HY os r.id=true:=by unfold HY;rw[hB,hF,hlj];rfl
 obtain⟨_,hty,_⟩:=Qm hk.zo (fun r hr=>(hrows r hr).1) hok (gd hq) hj hlj;unfold LE at hl;rw[htl,Bool.not_true,Bool.false_or,hF,hfi,Bool.or_eq_true,iu]at hl;rw[e3]at hI;rcases hl with hl|⟨hs,hl⟩
 ·obtain⟨k,hk',e⟩:=dO.1 hl;rw[dK hk']at e;simp only[iu,beq_iff_eq]at e;obtain⟨ek,est⟩:=e;obtain⟨i2,h2,_,g1,g2⟩:=(hst _ (gd hk')).col;have:i2=j:=Ed hk.nd i2 j h2 hj (by rw[←g1,ek,e1,hid]);subst this;have hkl:k<(CQ os).length:=by have:=hk.nst;omega
  obtain⟨s1,s2,s3⟩:=hk.st k hk' hkl;obtain⟨_,hLf⟩:=SC hn hk.nd (MD (gd hkl)).1 (s1.symm.trans ek);rw[hF]at hLf;rw[←hLf]at s2 s3;unfold stB aaI at est;rw[Bool.or_eq_true,iu,Bool.or_eq_true]at est;rcases est with est|⟨_,est⟩
  ·exact e2 (g2.all (by simp only[beq_iff_eq]at est;rw[est,hfr]) q hq hj' hq)
  ·obtain⟨m0,b1,b2⟩:=g2.bd q hq hj' hq e2;exact acX hw s2 s3 hty e2 m0 (fun e=>m0 (g2.lv.2.2.2 e)) b1 b2 est hI
 ·obtain⟨k,hk',e⟩:=dO.1 hl;unfold Xd at e;have hkp:k<f.part.length:=by have:=hk.np;omega
  rw[dK hk',dK hkp]at e;simp only[iu,beq_iff_eq]at e;have hT:=Se hw.a hw.b hw.l.1 hw.l.2 hs;obtain⟨i3,h3,h3',x,g1,g2,g3⟩:=hp.val q hq hq k hk' hkp;have:i3=j:=Ed hk.nd i3 j h3 hj (by rw[g1,e.1,e1,hid]);subst this;have ev:Nt (rows[q])[i3] fs[i].type=(rows[q])[i3]:=by
   rw[P5 hty hw e2];obtain⟨_,_,kk,_⟩:=Pp hty e2 hw.l.1 hw.l.2;unfold Ep;rw[←hT,←kk];exact Ow _
  rw[ev]at hI;obtain⟨a1,a2⟩:=hk.src k hk';rw[e.1,hF]at a2;obtain⟨t5,_⟩:=Ko sp.fields[k].transform (BV hk.zo (gd h3));have e5:tE sp.fields[k].transform os[i3].type=((tE sp.fields[k].transform os[i3].type).1,0):=by rw[←a2]
  rw[e5]at t5;have hrt:RgT os[i3].type r:=by rw[hT,←hfi];exact hr.rg
  exact Yo hrt t5 (hk.ok.part _ (gd hkp)) hty ((hrows _ (gd hq)).2 _ (gd h3')) g2 g3 e.2 hI
def hoP(fs:List ae)(row:List ac)(r:bA)(j:Nat):Bool:=match fs[j]?,row[j]? with
 |some f,some v=>(f.id==r.id)&& !((yu r v).getD false)
 |_,_=>false
def hoQ(fs:List ae)(row:List ac)(wh:List bA)(j:Nat):Bool:=match wh[j]? with
 |some r=>lu (hoP fs row r) fs.length
 |none=>false
theorem Xu{wh:List bA}{fs:List ae}{row:List ac}(hn:fs.length<1000000000)(hw:wh.length<1000000000)(hl:row.length=fs.length)
  (hin:∀r∈wh,∀(i:Nat) (hi:i<fs.length) (hi':i<row.length),fs[i].id=r.id→∃b,yu r row[i]=some b):Co wh fs row=some (!lu (hoQ fs row wh) wh.length):=by
 unfold Co;rw[s7 (L:=gX wh fs row) (n:=wh.length) (p:=hoQ fs row wh) (e:=some false) (fin:=some true) hw
  (fun k=>by rw[gX,wl,iF];rfl)
  (fun k i hi=>by
   rw[gX,aS hi,iT,aB hi,bS];unfold hoQ;rw[dK hi];rw[s7 (L:=kQ (gX wh fs row k) fs row (i:Int) wh[i]) (n:=fs.length) (p:=hoP fs row wh[i]) (e:=some false) (fin:=gX wh fs row k ((i+1:Nat):Int)) hn
    (fun q=>by rw[kQ,wl,iF];unfold Bg;rw[aq hi hw])
    (fun q j hj=>by
     have hj':j<row.length:=by omega
     rw[kQ,aS hj,iT,aB hj,bS];unfold wZ hoP;rw[aq hj hn,dK hj,dK hj'];simp only;by_cases e:fs[j].id=wh[i].id
     ·obtain⟨b,hb⟩:=hin _ (gd hi) j hj hj' e;rw[show(fs[j].id==wh[i].id)=true by simp[e],iT,aB hj',bS,hb,bS,Bool.true_and];rfl
     ·rw[show(fs[j].id==wh[i].id)=false by simp[e],iF,Bool.false_and])])]
 cases lu (hoQ fs row wh) wh.length<;>rfl
theorem Wx{wh:List bA}{fs:List ae}{row:List ac}(hl:row.length=fs.length){r:bA}(hr:r∈wh){i:Nat}(hi:i<fs.length)(hi':i<row.length)(hid:fs[i].id=r.id)(h:yu r row[i]=some false):lu (hoQ fs row wh) wh.length=true:=by
 obtain⟨k,hk,rfl⟩:=NA.1 hr;refine dO.2 ⟨k,hk,?_⟩;unfold hoQ;rw[dK hk];refine dO.2 ⟨i,hi,?_⟩;unfold hoP;rw[dK hi,dK hi'];simp[hid,h]
variable {m:ax} {f:aj} {wh:List bA} {rows:List (List ac)} {os:List ae}
theorem X4(hm:wj m)(hall:HI m=0)(hw:Xi wh)(hr:∀r∈rows,cN r<1000000000∧∀v∈r,bE v<10000000)(hl:rows.length<1000000000){sch:Int}{fs:List ae}{sp:cg}{r:bA}
  (hN:No m sch f wh fs os sp r)(hcr:SH os rows=0)(hst:∀x∈f.stats,OM os rows x)(hfr:f.rows=(rows.length:Int))(hp:UZ os sp rows rows.length f.part):
  cJ m sch rows wh os false=some true:=by
 have hz:=hm.schemas.2 _ hN.mem;have hnd:=UM hz (Id hm hall fs hN.mem);have hn':fs.length<1000000000:=by have:=bX fs;omega
 obtain⟨o,c,a1,a2⟩:=YE (fs:=fs) hN.k.zo hz (fun r h=>(hr r h).1) hl;unfold cJ;rw[iF,hN.at_,bS,a1,bS];by_cases hc:c=0
 ·subst hc;obtain⟨hol,hod⟩:=a2 rfl;have hok:=(Gl hcr).2;show ak (((0:Int)) != 0) _ _=_;rw[bne_self_eq_false,iF];rw[s7 (L:=cF wh fs (o,0)) (n:=o.length) (p:=fun _=>false) (e:=some false) (fin:=some true) hol
   (fun k=>by rw[cF];show ak (decide ((o.length:Int)<(o.length:Int))) _ _=_;rw[wl,iF];rfl)
   (fun k i hi=>by
    rw[cF];show ak (decide ((i:Int)<(o.length:Int))) (am (at? o (i:Int)) _) _=_;rw[aS hi,iT,aB hi,bS];obtain⟨q,hq,hA⟩:=hod _ (gd hi);have hlv:∀r'∈wh,∀(x:Nat) (hx:x<fs.length) (hx':x<(o[i]).length),fs[x].id=r'.id→∃b,yu r' (o[i])[x]=some b∧(b=true→In r' (o[i])[x]):=fun r' hr' x hx hx' hid=>by
     have hk:=hN.rg r' hr';obtain⟨_,hfi⟩:=SC hn' hnd (gd hx) hid;have hlf:uy fs[x]=true:=by
      have:=hk.tl;unfold HY at this;simp only[iu]at this;rw[←hfi];exact this.2
     rcases hA.val x hx hx' hlf with h0|⟨j,hj,hj',e1,e2,hw',e3⟩
     ·refine⟨false,?_,fun h=>by cases h⟩;unfold yu;rw[show((o[i])[x].kind != 0)=false by simp[h0],iF];rfl
     ·have hlj:uy os[j]=true:=by unfold uy;simp only[decide_eq_true_eq];exact hw'.l
      obtain⟨_,hty,_⟩:=Qm hN.k.zo (fun r hr'=>(hr r hr').1) hok (gd hq) hj hlj;have:=(NT hty hw').2.2;rw[←e3]at this;have g:=hk.rg;exact⟨_,aeE this (th g.lo.sv g.lo.st g.k6 g.k7 g.lo.ck) (th g.hi.sv g.hi.st g.k6 g.k7 g.hi.ck),aa2⟩
    have hk:=hN.rg r hN.rm;have htp:Hc fs r.id=true:=by have:=hk.tl;unfold HY at this;simp only[iu]at this;exact this.1
    obtain⟨_,_,_,t4⟩:=zD hn' r.id;obtain⟨x,hx,hxe⟩:=NA.1 (t4 htp).2;have hid:fs[x].id=r.id:=by rw[hxe];exact Zt hn' htp
    have hx':x<(o[i]).length:=by rw[hA.len];exact hx
    obtain⟨b,b1,b2⟩:=hlv r hN.rm x hx hx' hid;have hb:b=false:=by
     cases b with
     |false=>rfl
     |true=>exact absurd (b2 rfl) (aby hz hnd hN.k hk hN.lack hr hok hst hfr hp hq hA hx hx' hid)
    subst hb;rw[Xu hn' hw.n hA.len (fun r' hr' x hx hx' hid=>by obtain⟨b,b1,_⟩:=hlv r' hr' x hx hx' hid;exact⟨b,b1⟩),Wx hA.len hN.rm hx hx' hid b1,bS,Bool.not_true,iF,aq hi hol,iF])]
  have hany:lu (fun _:Nat=>false) o.length=false:=by
   cases h:lu (fun _:Nat=>false) o.length with
   |false=>rfl
   |true=>
    obtain⟨_,_,h'⟩:=dO.1 h;exact absurd h' (by decide)
  rw[hany,iF]
 ·show ak (c != 0) _ _=_;rw[show(c != 0)=true by simp[hc],iT]
theorem TY(hm:wj m)(hc:nV m=some 0)(hall:HI m=0)(hw:Xi wh)(hr:∀r∈rows,cN r<1000000000∧∀v∈r,bE v<10000000)(hl:rows.length<1000000000)(hnm:f.name.size<1000000000){sch:Int}{sp:cg}{xs:List bB}
  (ho:at? m.schemas f.schema=some os)(hom:os∈m.schemas)(hs:at? m.specs f.spec=some sp)(hsm:sp∈m.specs)(hcr:SH os rows=0)(hxl:xs.length<1000000000)(hst:∀x∈xs,OM os rows x)(h1:0<rows.length):
  ∀(d k j:Nat) (z:List ac),j+d=rows.length→d<k→(0<j→UZ os sp rows j z)→bv m sch f rows wh os (xs,0) k z (j:Int)=some true:=by
 have hz:=hm.schemas.2 _ hom;have hnd:=UM hz (Id hm hall os hom);have hsn:=hm.specs.2 _ hsm;intro d;induction d with
 |zero=>
  intro k j z hj hk hz';obtain⟨k,rfl⟩:=fu hk;rw[bv,FE (by omega),iF];have hp:=hz' (by omega);have e:j=rows.length:=by omega
  subst e;unfold jV;have hfz:Np ⟨f.name,f.schema,f.spec,z,(rows.length:Int),f.seq,xs⟩:=⟨hnm,⟨by show z.length<_;rw[hp.len];exact hsn,fun v hv=>by have:=(hp.wf v hv).2;omega⟩,⟨hxl,fun x hx=>by
   have:=hst x hx;have a:=this.lv.1.size;have b:=this.lv.2.size;exact⟨by omega,by omega⟩⟩⟩
  obtain⟨b,e,m1,m2⟩:=adm hm hc hall hfz hw sch;show am (Bx m sch ⟨f.name,f.schema,f.spec,z,(rows.length:Int),f.seq,xs⟩ wh) _=_;rw[m1,bS];by_cases he:e=0
  ·show ak (e != 0) _ _=_;rw[show(e != 0)=false by simp[he],iF];cases b with
   |true=>unfold cJ;rw[iT]
   |false=>
    obtain⟨fs,os',sp',r,hN⟩:=m2 he rfl;have e1:=hN.k.ao;have e2:=hN.k.asp;have e1:at? m.schemas f.schema=some os':=e1;have e2:at? m.specs f.spec=some sp':=e2;rw[ho]at e1;cases e1;rw[hs]at e2;cases e2;exact X4 hm hall hw hr hl hN hcr hst rfl hp
  ·show ak (e != 0) _ _=_;rw[show(e != 0)=true by simp[he],iT];unfold cJ;rw[iT]
 |succ d ih=>
  intro k j z hj hk hz';obtain⟨k,rfl⟩:=fu hk;have hjl:j<rows.length:=by omega
  have hrj:=hr _ (gd hjl);rw[bv,aS hjl,iT,aB hjl,bS,hs,bS];obtain⟨ps,c,p1,p2⟩:=ZN (sp:=sp) hz hnd hsn hrj.1 hrj.2;rw[p1,bS];unfold eM;rw[aq hjl hl];by_cases hc0:c=0
  ·have hP:=p2 hc0;show ak (c != 0) _ _=_;rw[show(c != 0)=false by simp[hc0],iF];have fin:(∀(q:Nat) (h:q<rows.length),q<j→∀(y:Nat) (h:y<sp.fields.length) (h':y<ps.length),∃(i:Nat) (hi:i<os.length) (hi':i<rows[q].length) (x:ac),os[i].id=sp.fields[y].source∧bY sp.fields[y].transform (rows[q])[i]=some x∧Ord.cmpV x ps[y]=0)→
     bv m sch f rows wh os (xs,0) k ps ((j+1:Nat):Int)=some true:=fun hq=>by
    refine ih k (j+1) ps (by omega) (by omega) fun _=>⟨hP.len,hP.wf,fun q hq1 hlt y hy hy'=> ?_⟩
    by_cases e:q=j
    ·subst e;obtain⟨i,hi,hi',g1,g2⟩:=hP.val y hy hy';exact⟨i,hi,hi',_,g1,g2,Ord.cmpV_refl _⟩
    ·exact hq q hq1 (by omega) y hy hy'
   by_cases hj0:0<j
   ·have hZ:=hz' hj0;rw[decide_eq_true (by omega),iT];show am (jj ps z) _=_;rw[aa8 hP.wf hZ.wf (by rw[hP.len];exact hP.n4),bS];by_cases he:Ord.cmpL ps z=0
    ·rw[show(Ord.cmpL ps z != 0)=false by simp[he],iF];refine fin fun q hq1 hlt y hy hy'=> ?_
     have hyz:y<z.length:=by rw[hZ.len];exact hy
     obtain⟨i,hi,hi',x,g1,g2,g3⟩:=hZ.val q hq1 hlt y hy hyz;have:=RA he y hy' hyz;have a:=Ord.cmpV_anti ps[y] z[y];exact⟨i,hi,hi',x,g1,g2,TR g3 (by omega)⟩
    ·rw[show(Ord.cmpL ps z != 0)=true by simp[he],iT]
   ·rw[decide_eq_false (by omega),iF,iF];exact fin fun q hq1 hlt=>by omega
  ·show ak (c != 0) _ _=_;rw[show(c != 0)=true by simp[hc0],iT,iT]
theorem Pc(hm:wj m)(hw:Xi wh)(hr:∀r∈rows,cN r<1000000000∧∀v∈r,bE v<10000000)(hl:rows.length<1000000000)(hnm:f.name.size<1000000000)(sch:Int):iH m sch f rows wh=some true:=by
 have hj:bj m sch f rows wh true=some true:=by
  unfold bj;rw[iT]
 obtain⟨e,e1,e2,e3⟩:=QD hm;unfold iH;rw[O8,bS,Bool.not_true,iF,e2,bS,hj];by_cases h0:e=0
 ·subst h0;rw[bne_self_eq_false,iF];by_cases a1:f.schema<0
  ·rw[decide_eq_true a1,iT]
  rw[decide_eq_false a1,iF];by_cases a2:(m.schemas.length:Int)≤f.schema
  ·rw[decide_eq_true a2,iT]
  rw[decide_eq_false a2,iF];by_cases a3:f.spec<0
  ·rw[decide_eq_true a3,iT]
  rw[decide_eq_false a3,iF];by_cases a4:(m.specs.length:Int)≤f.spec
  ·rw[decide_eq_true a4,iT]
  rw[decide_eq_false a4,iF];by_cases a5:sch<f.schema
  ·rw[decide_eq_true a5,iT]
  rw[decide_eq_false a5,iF];by_cases a6:(m.schemas.length:Int)≤sch
  ·rw[decide_eq_true a6,iT]
  rw[decide_eq_false a6,iF];by_cases a7:rows.length=0
  ·rw[show((rows.length:Int)==0)=true by simp[a7],hj]
  rw[show((rows.length:Int)==0)=false by simp[a7]];obtain⟨l1,o1,_⟩:=Dc (l:=m.schemas) (x:=f.schema) (by omega) (by omega);obtain⟨l2,o2,_⟩:=Dc (l:=m.specs) (x:=f.spec) (by omega) (by omega);have hz:=hm.schemas.2 _ (gd l1);unfold bj;rw[iF,o1,bS];obtain⟨xs,c,m1,m2⟩:=aab hz hl (fun r h=>(hr r h).1);rw[m1,bS];by_cases hc:c=0
  ·subst hc;obtain⟨b1,b2,b3⟩:=m2 rfl;show ak ((0:Int) != 0) _ _=_;rw[bne_self_eq_false,iF];exact TY hm e1 (e3 rfl) hw hr hl hnm o1 (gd l1) o2 (gd l2) b1 b2 b3 (by omega) rows.length aH 0 f.part (by omega) (by rw[aF];omega) (fun h=>by omega)
  ·show ak (c != 0) _ _=_;rw[show(c != 0)=true by simp[hc],iT]
 ·rw[show(e != 0)=true by simp[h0],iT]
end Go.Proofs.YtpiohnabdhpphaaGreatDoor
namespace Go.Proofs.YtpiohnabdhpphaaGreatDoor
open Go Go.SX Go.SX.Cal
theorem HP:∀l:List ac,cN l=(l.map bE).sum
 |[]=>by simp[cN]
 |x::l=>by simp[cN,HP l]
theorem U0(k n sc:Int)(s:ByteArray)(it:List ac):bE ⟨k,n,sc,s,it⟩≤s.size+(it.map bE).sum+6:=by
 simp only[bE,HP];omega
theorem HF:∀l:List ae,dt l=(l.map zq).sum
 |[]=>by simp[dt]
 |x::l=>by simp[dt,HF l]
theorem ZR(k s:Int)(fs:List ae):jm ⟨k,s,fs⟩≤(fs.map zq).sum+4:=by
 rw[pV,HF];simp only;omega
theorem aaT(i:Int)(n:ByteArray)(q:Bool)(t:al):zq ⟨i,n,q,t⟩≤n.size+jm t+4:=by
 rw[gy];simp only;omega
def Rd(B:zu)(t:TypeId){α:Type}(c:α→List PV)(X:α→Prop):Prop:=∀N N':Nat,N'≤N→qs B Tryz.prog N' t c (fun x=>N≤1048576→X x) (fun _=>1)
theorem Rd.of{B:zu}{t:TypeId}{α:Type}{c c':α→List PV}{wf:α→Prop}{s:α→Nat}{X:α→Prop}(h:∀N,qs B Tryz.prog N t c wf s)(hc:∀x,c' x=c x)(hX:∀x,wf x→s x≤1048576→X x):Rd B t c' X:=by
 intro N N' hN H enc w base spare held nf cs d ps hd hb;obtain⟨x,h1,h2,h3⟩:=h N' hd hb;exact⟨x,by rw[hc];exact h1,fun hM=>hX x h2 (by omega),B.one d⟩
theorem aen{α:Type}(xs:List α):(xs.map fun _=>(1:Nat)).sum=xs.length:=by
 induction xs with
 |nil=>rfl
 |cons x l ih=>rw[List.map_cons,List.sum_cons,ih,List.length_cons];omega
theorem Rd.list{B:zu}{t e:TypeId}{α:Type}{c:α→List PV}{X:α→Prop}(n:Nat)(h:Rd B e c X)(ht:Tryz.prog.underlying t=some (.slice e))(he:Tryz.prog.cellsOf e=n+1)(hc:∀x,(c x).length=n+1):
  Rd B t (fun xs:List α=>[.ro (xs.map c)]) (fun xs=>xs.length<1000000000∧∀x∈xs,X x):=by
 intro N N' hN H enc w base spare held nf cs d ps hd hb;obtain⟨x,h1,h2,h3⟩:=qs.slice (B:=B) (P:=Tryz.prog) (N:=N') (t:=t) (e:=e) (cells:=c) ht (fun x=>by rw[hc,he]) (by rw[he];omega) (fun N'' h''=>h N N'' (by omega)) hd hb;have h3:(x.map fun _=>(1:Nat)).sum+1≤B.f d:=h3;rw[aen]at h3;exact⟨x,h1,fun hM=>⟨by omega,fun y hy=>h2 y hy hM⟩,B.one d⟩
def RF(B:zu)(off:Nat)(fs:List Field){α:Type}(c:α→List PV)(X:α→Prop):Prop:=∀N N':Nat,N'≤N→Et B Tryz.prog N' off fs c (fun x=>N≤1048576→X x) (fun _=>0)
theorem RF.nil{B:zu}{off:Nat}:RF B off [] (fun _:Unit=>[]) (fun _=>True):=fun N N' hN H enc w base spare held n cs xs hl h hb hc=>by
 obtain⟨x,h1,_,h3⟩:=Et.nil (B:=B) (P:=Tryz.prog) (N:=N') hl h hb hc;exact⟨x,h1,fun _=>trivial,h3⟩
theorem RF.cons{B:zu}{off:Nat}{f:Field}{fs:List Field}{α β:Type}{c1:α→List PV}{c2:β→List PV}{X:α→Prop}{Y:β→Prop}(k n:Nat)(h:Rd B k c1 X)(r:RF B (off+n) fs c2 Y)(hk:f.type=k:=by kernel_rfl)(ho:f.offset=off:=by kernel_rfl)(hz:Tryz.prog.cellsOf k=n:=by kernel_rfl)(hc:∀x,(c1 x).length=n:=by intro x;rfl):RF B off (f::fs) (fun p:α×β=>c1 p.1++c2 p.2) (fun p=>X p.1∧Y p.2):=by
 have hk:f.type=k:=hk;have hz:_=n:=hz;subst hk;subst hz;intro N N' hN H enc w base spare held m cs xs hl hx hb hc';obtain⟨x,h1,h2,h3⟩:=Et.cons ho hc (h N N' hN) (r N N' hN) hl hx hb hc';exact⟨x,h1,fun hM=>⟨h2.1 hM,h2.2 hM⟩,Nat.zero_le _⟩
theorem Rd.struct{B:zu}{t:TypeId}{α β:Type}{L:List Field}{c:β→List PV}{X:β→Prop}{c':α→List PV}{Y:α→Prop}(h:RF B 0 L c X)(mk:β→α)(h1:∀y,c' (mk y)=c y)(h2:∀y,X y→Y (mk y))(hu:jW Tryz.prog t=true:=by kernel_rfl)(hL:fieldsOf Tryz.prog t=L:=by kernel_rfl)(hz:Tryz.prog.cellsOf t=0+(L.map fun f=>Tryz.prog.cellsOf f.type).sum:=by kernel_rfl):Rd B t c' Y:=fun N N' hN=>
 qs.structF (α:=α) (cells:=c') (wf':=fun x=>N≤1048576→Y x) (size:=fun _=>1) hu hL hz (fun N'' h''=>h N N'' (by omega)) mk h1 (fun y hy hM=>h2 y (hy hM)) (fun y=>by omega)
variable {B:zu}
theorem rI:Rd B 3 (fun n:Int=>[pi n]) (fun _=>True):=Rd.of (fun N=>qs.int (k:= .i64) (by kernel_rfl)) (fun _=>rfl) (fun _ _ _=>trivial)
theorem rBo:Rd B 4 (fun b:Bool=>[.s (.bool b)]) (fun _=>True):=Rd.of (fun N=>qs.bool (by kernel_rfl)) (fun _=>rfl) (fun _ _ _=>trivial)
theorem rSt:Rd B 9 (fun s:ByteArray=>[.s (.string s)]) (fun s=>s.size<10000000):=Rd.of (fun N=>qs.str (by kernel_rfl)) (fun _=>rfl) (fun s _ h=>by omega)
theorem rV:Rd B 99 KD (fun v=>bE v<1000000000):=
 Rd.of (Nr (P:=Tryz.prog) (wf:=fun _=>True) (sz:=bE) 99 3 9 29 (by kernel_rfl) (by kernel_rfl) (by kernel_rfl) (by kernel_rfl) (by kernel_rfl) ⟨by kernel_rfl,by kernel_rfl,by kernel_rfl,by kernel_rfl⟩ ⟨by kernel_rfl,by kernel_rfl,by kernel_rfl,by kernel_rfl,by kernel_rfl⟩ ⟨by kernel_rfl,by kernel_rfl,by kernel_rfl,by kernel_rfl,by kernel_rfl⟩ (fun _ _ _ _ _ _ _ _ _=>trivial) U0) (fun v=>(congrFun Hn v).symm) (fun v _ h=>by omega)
theorem rFs:Rd B 48 (fun fs:List ae=>[.ro (af.els fs)]) (fun fs=>dt fs<1000000000-1):=
 Rd.of (fun N=>Vj (P:=Tryz.prog) (wfT:=fun _=>True) (szT:=jm) (wfF:=fun _=>True) (szF:=zq) (szL:=dt) 70 72 3 9 4 48 (by kernel_rfl) (by kernel_rfl) (by kernel_rfl) (by kernel_rfl) (by kernel_rfl) (by kernel_rfl) (by kernel_rfl) (by kernel_rfl) ⟨by kernel_rfl,by kernel_rfl,by kernel_rfl,by kernel_rfl,by kernel_rfl⟩ (by kernel_rfl) ⟨by kernel_rfl,by kernel_rfl,by kernel_rfl,by kernel_rfl⟩ ⟨by kernel_rfl,by kernel_rfl,by kernel_rfl,by kernel_rfl⟩ ⟨by kernel_rfl,by kernel_rfl,by kernel_rfl⟩ ⟨by kernel_rfl,by kernel_rfl,by kernel_rfl⟩ (fun _ _ _ _ _ _=>trivial) aaT (fun _ _ _ _ _ _=>trivial) ZR (fun xs=>by rw[HF];omega) N) (fun _=>rfl) (fun fs _ h=>by omega)
theorem rSp:Rd B 55 (fun x:cg=>[PV.ro (aC.els x.fields)]) (fun x=>x.fields.length<1000000000):=
 Rd.of (fun N=>aa6 (P:=Tryz.prog) 55 53 115 113 3 (by kernel_rfl) (by kernel_rfl) (by kernel_rfl) ⟨by kernel_rfl,by kernel_rfl⟩ (by kernel_rfl) (by kernel_rfl) (by kernel_rfl) (by kernel_rfl) (by kernel_rfl) (by kernel_rfl) (by kernel_rfl) ⟨by kernel_rfl,by kernel_rfl,by kernel_rfl⟩ ⟨by kernel_rfl,by kernel_rfl,by kernel_rfl,by kernel_rfl⟩ ⟨by kernel_rfl,by kernel_rfl,by kernel_rfl,by kernel_rfl⟩ N) (fun _=>rfl) (fun x _ h=>by omega)
theorem rVs:Rd B 29 (fun xs:List ac=>[PV.ro (ah.els xs)]) (fun xs=>xs.length<1000000000∧∀v∈xs,bE v<1000000000):=by
 have h:=Rd.list (B:=B) (t:=29) (e:=99) 4 rV (by kernel_rfl) (by kernel_rfl) (fun x=>rfl);have e:(fun xs:List ac=>[PV.ro (ah.els xs)])=fun xs=>[.ro (xs.map KD)]:=by funext xs;rw[ah.hels];rfl
 rw[e];exact h
theorem aaU:Rd B 101 PZ (fun x:bB=>bE x.min<1000000000∧bE x.max<1000000000):=
 Rd.struct (L:=[eT Tryz.prog 101 0,eT Tryz.prog 101 1,eT Tryz.prog 101 2,eT Tryz.prog 101 3]) (RF.cons 3 1 rI (RF.cons 3 1 rI (RF.cons 99 5 rV (RF.cons 99 5 rV RF.nil))))
  (fun y=>(⟨y.1,y.2.1,y.2.2.1,y.2.2.2.1⟩:bB)) (fun y=>rfl) (fun y h=>⟨h.2.2.1,h.2.2.2.1⟩)
theorem XY:Rd B 30 (fun xs:List bB=>[PV.ro (cA.els xs)]) (fun xs=>xs.length<1000000000∧∀x∈xs,bE x.min<1000000000∧bE x.max<1000000000):=by
 have h:=Rd.list (B:=B) (t:=30) (e:=101) 11 aaU (by kernel_rfl) (by kernel_rfl) (fun x=>rfl);have e:(fun xs:List bB=>[PV.ro (cA.els xs)])=fun xs=>[.ro (xs.map PZ)]:=by funext xs;rw[ub.hels];rfl
 rw[e];exact h
theorem WE:Rd B 32 Sl (fun x:aj=>Np x):=
 Rd.struct (L:=[eT Tryz.prog 32 0,eT Tryz.prog 32 1,eT Tryz.prog 32 2,eT Tryz.prog 32 3,eT Tryz.prog 32 4,eT Tryz.prog 32 5,eT Tryz.prog 32 6]) (RF.cons 9 1 rSt (RF.cons 3 1 rI (RF.cons 3 1 rI (RF.cons 29 1 rVs (RF.cons 3 1 rI (RF.cons 3 1 rI (RF.cons 30 1 XY RF.nil)))))))
  (fun y=>(⟨y.1,y.2.1,y.2.2.1,y.2.2.2.1,y.2.2.2.2.1,y.2.2.2.2.2.1,y.2.2.2.2.2.2.1⟩:aj)) (fun y=>rfl) (fun y h=>⟨Nat.lt_trans h.1 (by decide),h.2.2.2.1,h.2.2.2.2.2.2.1⟩)
theorem abx:Rd B 73 (fun xs:List aj=>[PV.ro (be.els xs)]) (fun xs=>xs.length<1000000000∧∀x∈xs,Np x):=by
 have h:=Rd.list (B:=B) (t:=73) (e:=32) 6 WE (by kernel_rfl) (by kernel_rfl) (fun x=>rfl);have e:(fun xs:List aj=>[PV.ro (be.els xs)])=fun xs=>[.ro (xs.map Sl)]:=by funext xs;rw[ub.hels];rfl
 rw[e];exact h
theorem rIs:Rd B 41 (fun xs:List Int=>[PV.ro (eI.els xs)]) (fun xs=>xs.length<1000000000):=
 Rd.of (fun N=>abl (P:=Tryz.prog) 41 3 (by kernel_rfl) (by kernel_rfl) (by kernel_rfl) N) (fun _=>rfl) (fun x _ h=>by omega)
theorem afg:Rd B 139 (fun x:mI=>[PV.s (.string x.file),.ro (eI.els x.rows)]) (fun x:mI=>x.rows.length<1000000000):=
 Rd.struct (L:=[eT Tryz.prog 139 0,eT Tryz.prog 139 1]) (RF.cons 9 1 rSt (RF.cons 41 1 rIs RF.nil))
  (fun y=>(⟨y.1,y.2.1⟩:mI)) (fun y=>rfl) (fun y h=>h.2.1)
theorem adp:Rd B 74 (fun xs:List mI=>[PV.ro (fL.els xs)]) (fun xs=>xs.length<1000000000∧∀x∈xs,x.rows.length<1000000000):=by
 have h:=Rd.list (B:=B) (t:=74) (e:=139) 1 afg (by kernel_rfl) (by kernel_rfl) (fun x=>rfl);have e:(fun xs:List mI=>[PV.ro (fL.els xs)])=fun xs=>[.ro (xs.map (fun x:mI=>[PV.s (.string x.file),.ro (eI.els x.rows)]))]:=by funext xs;rw[ub.hels];rfl
 rw[e];exact h
theorem acL:Rd B 46 (fun xs:List (List ac)=>[PV.ro ((eL ah).els xs)]) (fun xs=>xs.length<1000000000∧∀x∈xs,x.length<1000000000∧∀v∈x,bE v<1000000000):=by
 have h:=Rd.list (B:=B) (t:=46) (e:=29) 0 rVs (by kernel_rfl) (by kernel_rfl) (fun x=>rfl);have e:(fun xs:List (List ac)=>[PV.ro ((eL ah).els xs)])=fun xs=>[.ro (xs.map (fun xs:List ac=>[PV.ro (ah.els xs)]))]:=by funext xs;rw[ub.hels];rfl
 rw[e];exact h
theorem afb:Rd B 143 (fun x:cX=>[pi x.schema,PV.ro (eI.els x.ids),.ro ((eL ah).els x.keys),pi x.seq]) (fun x:cX=>x.ids.length<1000000000∧x.keys.length<1000000000∧∀k∈x.keys,k.length<1000000000∧∀v∈k,bE v<1000000000):=
 Rd.struct (L:=[eT Tryz.prog 143 0,eT Tryz.prog 143 1,eT Tryz.prog 143 2,eT Tryz.prog 143 3]) (RF.cons 3 1 rI (RF.cons 41 1 rIs (RF.cons 46 1 acL (RF.cons 3 1 rI RF.nil))))
  (fun y=>(⟨y.1,y.2.1,y.2.2.1,y.2.2.2.1⟩:cX)) (fun y=>rfl) (fun y h=>⟨h.2.1,h.2.2.1⟩)
theorem acn:Rd B 75 (fun xs:List cX=>[PV.ro (eH.els xs)]) (fun xs=>xs.length<1000000000∧∀x∈xs,x.ids.length<1000000000∧x.keys.length<1000000000∧∀k∈x.keys,k.length<1000000000∧∀v∈k,bE v<1000000000):=by
 have h:=Rd.list (B:=B) (t:=75) (e:=143) 3 afb (by kernel_rfl) (by kernel_rfl) (fun x=>rfl);have e:(fun xs:List cX=>[PV.ro (eH.els xs)])=fun xs=>[.ro (xs.map (fun x:cX=>[pi x.schema,PV.ro (eI.els x.ids),.ro ((eL ah).els x.keys),pi x.seq]))]:=by funext xs;rw[ub.hels];rfl
 rw[e];exact h
theorem acz:Rd B 77 Ww (fun x:aw=>RB x):=
 Rd.struct (L:=[eT Tryz.prog 77 0,eT Tryz.prog 77 1,eT Tryz.prog 77 2,eT Tryz.prog 77 3,eT Tryz.prog 77 4,eT Tryz.prog 77 5,eT Tryz.prog 77 6,eT Tryz.prog 77 7,eT Tryz.prog 77 8]) (RF.cons 3 1 rI (RF.cons 3 1 rI (RF.cons 3 1 rI (RF.cons 3 1 rI (RF.cons 3 1 rI (RF.cons 3 1 rI (RF.cons 73 1 abx (RF.cons 74 1 adp (RF.cons 75 1 acn RF.nil)))))))))
  (fun y=>(⟨y.1,y.2.1,y.2.2.1,y.2.2.2.1,y.2.2.2.2.1,y.2.2.2.2.2.1,y.2.2.2.2.2.2.1,y.2.2.2.2.2.2.2.1,y.2.2.2.2.2.2.2.2.1⟩:aw)) (fun y=>rfl) (fun y h=>⟨h.2.2.2.2.2.2.1,h.2.2.2.2.2.2.2.1,h.2.2.2.2.2.2.2.2.1⟩)
theorem abz:Rd B 24 (fun xs:List aw=>[PV.ro (aU.els xs)]) (fun xs=>xs.length<1000000000∧∀x∈xs,RB x):=by
 have h:=Rd.list (B:=B) (t:=24) (e:=77) 8 acz (by kernel_rfl) (by kernel_rfl) (fun x=>rfl);have e:(fun xs:List aw=>[PV.ro (aU.els xs)])=fun xs=>[.ro (xs.map Ww)]:=by funext xs;rw[ub.hels];rfl
 rw[e];exact h
theorem aeQ:Rd B 92 (fun x:lq=>[PV.s (.string x.name),.s (.bool x.branch),pi x.snapshot]) (fun x:lq=>x.name.size<1000000000):=
 Rd.struct (L:=[eT Tryz.prog 92 0,eT Tryz.prog 92 1,eT Tryz.prog 92 2]) (RF.cons 9 1 rSt (RF.cons 4 1 rBo (RF.cons 3 1 rI RF.nil)))
  (fun y=>(⟨y.1,y.2.1,y.2.2.1⟩:lq)) (fun y=>rfl) (fun y h=>Nat.lt_trans h.1 (by decide))
theorem acZ:Rd B 25 (fun xs:List lq=>[PV.ro (oS.els xs)]) (fun xs=>xs.length<1000000000∧∀x∈xs,x.name.size<1000000000):=by
 have h:=Rd.list (B:=B) (t:=25) (e:=92) 2 aeQ (by kernel_rfl) (by kernel_rfl) (fun x=>rfl);have e:(fun xs:List lq=>[PV.ro (oS.els xs)])=fun xs=>[.ro (xs.map (fun x:lq=>[PV.s (.string x.name),.s (.bool x.branch),pi x.snapshot]))]:=by funext xs;rw[ub.hels];rfl
 rw[e];exact h
theorem ac9:Rd B 95 (fun x:ow=>[PV.s (.string x.name),.s (.string x.value)]) (fun x:ow=>x.name.size<1000000000∧x.value.size<100000000):=
 Rd.struct (L:=[eT Tryz.prog 95 0,eT Tryz.prog 95 1]) (RF.cons 9 1 rSt (RF.cons 9 1 rSt RF.nil))
  (fun y=>(⟨y.1,y.2.1⟩:ow)) (fun y=>rfl) (fun y h=>⟨Nat.lt_trans h.1 (by decide),Nat.lt_trans h.2.1 (by decide)⟩)
theorem Z8:Rd B 26 (fun xs:List ow=>[PV.ro (lE.els xs)]) (fun xs=>xs.length<1000000000∧∀x∈xs,x.name.size<1000000000∧x.value.size<100000000):=by
 have h:=Rd.list (B:=B) (t:=26) (e:=95) 1 ac9 (by kernel_rfl) (by kernel_rfl) (fun x=>rfl);have e:(fun xs:List ow=>[PV.ro (lE.els xs)])=fun xs=>[.ro (xs.map (fun x:ow=>[PV.s (.string x.name),.s (.string x.value)]))]:=by funext xs;rw[ub.hels];rfl
 rw[e];exact h
theorem aeF:Rd B 22 (fun xs:List (List ae)=>[PV.ro ((eL af).els xs)]) (fun xs=>xs.length<1000000000∧∀x∈xs,dt x<1000000000-1):=by
 have h:=Rd.list (B:=B) (t:=22) (e:=48) 0 rFs (by kernel_rfl) (by kernel_rfl) (fun x=>rfl);have e:(fun xs:List (List ae)=>[PV.ro ((eL af).els xs)])=fun xs=>[.ro (xs.map (fun fs:List ae=>[PV.ro (af.els fs)]))]:=by funext xs;rw[ub.hels];rfl
 rw[e];exact h
theorem aem:Rd B 23 (fun xs:List cg=>[PV.ro (fU.els xs)]) (fun xs=>xs.length<1000000000∧∀x∈xs,x.fields.length<1000000000):=by
 have h:=Rd.list (B:=B) (t:=23) (e:=55) 0 rSp (by kernel_rfl) (by kernel_rfl) (fun x=>rfl);have e:(fun xs:List cg=>[PV.ro (fU.els xs)])=fun xs=>[.ro (xs.map (fun x:cg=>[PV.ro (aC.els x.fields)]))]:=by funext xs;rw[ub.hels];rfl
 rw[e];exact h
abbrev ZK(x:ax):List PV:=[.ro ((eL af).els x.schemas),.ro (fU.els x.specs),pi x.nextField,pi x.nextSeq,pi x.nextSnap,pi x.purges,.ro (aU.els x.snapshots),.ro (oS.els x.refs),.ro (lE.els x.props)]
theorem Y7:Rd B 28 ZK (fun x:ax=>wj x):=
 Rd.struct (L:=[eT Tryz.prog 28 0,eT Tryz.prog 28 1,eT Tryz.prog 28 2,eT Tryz.prog 28 3,eT Tryz.prog 28 4,eT Tryz.prog 28 5,eT Tryz.prog 28 6,eT Tryz.prog 28 7,eT Tryz.prog 28 8]) (RF.cons 22 1 aeF (RF.cons 23 1 aem (RF.cons 3 1 rI (RF.cons 3 1 rI (RF.cons 3 1 rI (RF.cons 3 1 rI (RF.cons 24 1 abz (RF.cons 25 1 acZ (RF.cons 26 1 Z8 RF.nil)))))))))
  (fun y=>(⟨y.1,y.2.1,y.2.2.1,y.2.2.2.1,y.2.2.2.2.1,y.2.2.2.2.2.1,y.2.2.2.2.2.2.1,y.2.2.2.2.2.2.2.1,y.2.2.2.2.2.2.2.2.1⟩:ax)) (fun y=>rfl) (fun y h=>⟨h.1,h.2.1,h.2.2.2.2.2.2.1,h.2.2.2.2.2.2.2.1,h.2.2.2.2.2.2.2.2.1⟩)
noncomputable def szM(m:ax):Nat:= @ite _ (wj m) (Classical.propDecidable _) 1 1048577
theorem abM{m:ax}(h:szM m≤1048576):wj m:=by
 unfold szM at h;split at h
 ·assumption
 ·omega
theorem aay(N:Nat):qs B Tryz.prog N 28 ZK (fun _=>True) szM:=by
 intro H enc w base spare held nf cs d ps hd hb;by_cases hs:B.f d≤1048576
 ·obtain⟨x,h1,h2,_⟩:=Y7 1048576 (B.f d) hs hd (iO _);refine⟨x,h1,trivial,?_⟩;unfold szM;rw[if_pos (h2 (iO _))];exact B.one d
 ·obtain⟨x,h1,_,_⟩:=Y7 N N (iO _) hd hb;refine⟨x,h1,trivial,?_⟩;unfold szM;split<;>omega
noncomputable def S2(m:aj):Nat:= @ite _ (Np m) (Classical.propDecidable _) 1 1048577
theorem XC{m:aj}(h:S2 m≤1048576):Np m:=by
 unfold S2 at h;split at h
 ·assumption
 ·omega
theorem aas(N:Nat):qs B Tryz.prog N 32 Sl (fun _=>True) S2:=by
 intro H enc w base spare held nf cs d ps hd hb;by_cases hs:B.f d≤1048576
 ·obtain⟨x,h1,h2,_⟩:=WE 1048576 (B.f d) hs hd (iO _);refine⟨x,h1,trivial,?_⟩;unfold S2;rw[if_pos (h2 (iO _))];exact B.one d
 ·obtain⟨x,h1,_,_⟩:=WE N N (iO _) hd hb;refine⟨x,h1,trivial,?_⟩;unfold S2;split<;>omega
theorem rV7:Rd B 99 KD (fun v=>bE v<10000000):=
 Rd.of (Nr (P:=Tryz.prog) (wf:=fun _=>True) (sz:=bE) 99 3 9 29 (by kernel_rfl) (by kernel_rfl) (by kernel_rfl) (by kernel_rfl) (by kernel_rfl) ⟨by kernel_rfl,by kernel_rfl,by kernel_rfl,by kernel_rfl⟩ ⟨by kernel_rfl,by kernel_rfl,by kernel_rfl,by kernel_rfl,by kernel_rfl⟩ ⟨by kernel_rfl,by kernel_rfl,by kernel_rfl,by kernel_rfl,by kernel_rfl⟩ (fun _ _ _ _ _ _ _ _ _=>trivial) U0) (fun v=>(congrFun Hn v).symm) (fun v _ h=>by omega)
theorem abi:Rd B 108 (fun x:bA=>[pi x.id,pi x.low.kind,pi x.low.n,pi x.low.scale,.s (.string x.low.s),.ro (ah.els x.low.items),pi x.high.kind,pi x.high.n,pi x.high.scale,.s (.string x.high.s),.ro (ah.els x.high.items)]) (fun x:bA=>bE x.low<10000000∧bE x.high<10000000):=
 Rd.struct (L:=[eT Tryz.prog 108 0,eT Tryz.prog 108 1,eT Tryz.prog 108 2]) (RF.cons 3 1 rI (RF.cons 99 5 rV7 (RF.cons 99 5 rV7 RF.nil)))
  (fun y=>(⟨y.1,y.2.1,y.2.2.1⟩:bA)) (fun y=>rfl) (fun y h=>⟨h.2.1,h.2.2.1⟩)
theorem YT:Rd B 33 (fun xs:List bA=>[PV.ro (ju.els xs)]) (fun xs=>xs.length<1000000000∧∀x∈xs,bE x.low<10000000∧bE x.high<10000000):=by
 have h:=Rd.list (B:=B) (t:=33) (e:=108) 10 abi (by kernel_rfl) (by kernel_rfl) (fun x=>rfl);have e:(fun xs:List bA=>[PV.ro (ju.els xs)])=fun xs=>[.ro (xs.map (fun x:bA=>[pi x.id,pi x.low.kind,pi x.low.n,pi x.low.scale,.s (.string x.low.s),.ro (ah.els x.low.items),pi x.high.kind,pi x.high.n,pi x.high.scale,.s (.string x.high.s),.ro (ah.els x.high.items)]))]:=by funext xs;rw[ub.hels];rfl
 rw[e];exact h
theorem VW:Rd B 33 (fun xs:List bA=>[PV.ro (ju.els xs)]) Xi:=by
 intro N N' hN H enc w base spare held nf cs d ps hd hb;obtain⟨x,h1,h2,h3⟩:=YT (B:=B) N N' hN hd hb;exact⟨x,h1,fun h=>⟨(h2 h).1,(h2 h).2⟩,h3⟩
noncomputable def szW(m:(List bA)):Nat:= @ite _ (Xi m) (Classical.propDecidable _) 1 1048577
theorem aaZ{m:(List bA)}(h:szW m≤1048576):Xi m:=by
 unfold szW at h;split at h
 ·assumption
 ·omega
theorem Ur(N:Nat):qs B Tryz.prog N 33 (fun xs:List bA=>[PV.ro (ju.els xs)]) (fun _=>True) szW:=by
 intro H enc w base spare held nf cs d ps hd hb;by_cases hs:B.f d≤1048576
 ·obtain⟨x,h1,h2,_⟩:=VW 1048576 (B.f d) hs hd (iO _);refine⟨x,h1,trivial,?_⟩;unfold szW;rw[if_pos (h2 (iO _))];exact B.one d
 ·obtain⟨x,h1,_,_⟩:=VW N N (iO _) hd hb;refine⟨x,h1,trivial,?_⟩;unfold szW;split<;>omega
end Go.Proofs.YtpiohnabdhpphaaGreatDoor
namespace Go.Proofs.YtpiohnabdhpphaaGreatDoor
open Go Go.SX Go.SX.Cal
open Go.IntKind (i64)
def OD(r:List ac):Nat:=cN r+1
def yg(rows:List (List ac)):Nat:=(rows.map OD).sum
theorem Fb:∀{rows:List (List ac)} {r:List ac},r∈rows→cN r<yg rows+1
 |[],_,h=>by cases h
 |x::rows,r,h=>by
  have hx:yg (x::rows)=(cN x+1)+yg rows:=by unfold yg;simp only[List.map_cons,List.sum_cons,OD]
  rcases List.mem_cons.1 h with rfl|h
  ·omega
  ·have:=Fb h;omega
theorem KA:∀rows:List (List ac),rows.length≤yg rows
 |[]=>by simp[yg]
 |x::rows=>by
  have hx:yg (x::rows)=(cN x+1)+yg rows:=by unfold yg;simp only[List.map_cons,List.sum_cons,OD]
  have:=KA rows;rw[List.length_cons];omega
theorem M3{m:ax}{f:aj}{rows:List (List ac)}{wh:List bA}(h1:szM m≤1048576)(h2:S2 f≤1048576)(h3:yg rows≤1048576)(h4:szW wh≤1048576)(a:Int):iH m a f rows wh=some true:=
 Pc (abM h1) (aaZ h4) (fun r hr=>⟨by have:=Fb hr;omega,fun v hv=>by have:=Fb hr;have:=gA hv;omega⟩) (by have:=KA rows;omega) (XC h2).name a
end Go.Proofs.YtpiohnabdhpphaaGreatDoor
