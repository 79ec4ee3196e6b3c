/- SX: calls that hand objects of the caller over: contracts with a store of their own, and what they give in a greater store. SX: regions whose order is open up to a point, and whose last operations come one after the other. And what it needs. -/
import Derived.Laws.Externs
import Derived.Laws.RangeString
import Derived.Test.YtpiohnabdhpphaaGreatDoorSxA
set_option linter.unusedVariables false
set_option linter.unusedSimpArgs false
set_option linter.unnecessarySimpa false
namespace Go.SX
open Go
def MC(P:Program)(f:Nat)(args:List AV)(sc:St)(r:AV)(sc':St):Prop:=AC P f args sc [] fun av s=>av=r∧s=sc'
def Kv(ρ:Nat→Nat):CV→CV
 | .pv p=> .pv p
 | .pt id sz i off=> .pt (ρ id) sz i off
 | .mp id=> .mp (ρ id)
 | .cl els=> .cl els
 | .sl id sz off len=> .sl (ρ id) sz off len
 | .fn f caps=> .fn f (go caps)
 where
 go:List CV→List CV
  |[]=>[]
  |c::l=>Kv ρ c::go l
def Aj(ρ:Nat→Nat):AV→AV
 | .j=> .j
 | .one c=> .one (Kv ρ c)
 | .ag cs=> .ag (cs.map (Kv ρ))
 | .tp vs=> .tp (go vs)
 where
 go:List AV→List AV
  |[]=>[]
  |a::l=>Aj ρ a::go l
def xH(ρ:Nat→Nat):cY→cY
 | .dead=> .dead
 | .box cells=> .box (cells.map (Kv ρ))
 | .arr sz els=> .arr sz els
 | .rel R ps=> .rel R ps
theorem mC{ρ:Nat→Nat}{o:cY}:(xH ρ o).alive↔o.alive:=by
 cases o<;>simp[xH,cY.alive]
theorem M8{ρ:Nat→Nat}:∀l:List CV,Kv.go ρ l=l.map (Kv ρ)
 |[]=>rfl
 |c::l=>by simp[Kv.go,M8 l]
theorem M4{ρ:Nat→Nat}:∀l:List AV,Aj.go ρ l=l.map (Aj ρ)
 |[]=>rfl
 |c::l=>by simp[Aj.go,M4 l]
theorem ej.ren{ρ:Nat→Nat}{ι ι':IM}{w:World}{st st':St}(hm:∀b,o5 ι' st' b→o5 ι st b)(hl:∀i,i<st.length→ρ i<st'.length∧ι' (ρ i)=ι i){v:Value}{c:CV}(h:ej ι w st v c):ej ι' w st' v (Kv ρ c):=by
 induction h with
 |pv v p h=>exact .pv v p (h.mono (iO _) (fun b _ hb=>⟨rfl,fun h'=>hb (hm b h')⟩))
 |pt id sz i off b hid hb=>exact .pt _ sz i off b (hl id hid).1 ((hl id hid).2.trans hb)
 |sl id sz off len b cap hid hb hcap hc=>exact .sl _ sz off len b cap (hl id hid).1 ((hl id hid).2.trans hb) hcap hc
 |sn id sz hid hb=>exact .sn _ sz (hl id hid).1 ((hl id hid).2.trans hb)
 |mp id b hid hb=>exact .mp _ b (hl id hid).1 ((hl id hid).2.trans hb)
 |cl v els h hc=>exact .cl v els (h.mono (iO _) (fun b _ hb=>⟨rfl,fun h'=>hb (hm b h')⟩)) hc
 |fn f caps vs hlen hv ih=>
  simp only[Kv,M8];refine .fn f _ vs (by simpa using hlen) (fun j c v h1 h2=> ?_);rw[List.getElem?_map,yT]at h1;obtain⟨c',h1,rfl⟩:=h1;exact ih j c' v h1 h2
theorem ii.ren{ρ:Nat→Nat}{ι ι':IM}{w:World}{st st':St}(hm:∀b,o5 ι' st' b→o5 ι st b)(hl:∀i,i<st.length→ρ i<st'.length∧ι' (ρ i)=ι i){vs:List Value}{cs:List CV}(h:ii ι w st vs cs):ii ι' w st' vs (cs.map (Kv ρ)):=by
 refine⟨by simpa using h.1,fun j v c h1 h2=> ?_⟩;rw[List.getElem?_map,yT]at h2;obtain⟨c',h2,rfl⟩:=h2;exact(h.2 j v c' h1 h2).ren hm hl
theorem bk.ren{ρ:Nat→Nat}{ι ι':IM}{w:World}{st st':St}(hm:∀b,o5 ι' st' b→o5 ι st b)(hl:∀i,i<st.length→ρ i<st'.length∧ι' (ρ i)=ι i){v:Value}{a:AV}(h:bk ι w st v a):bk ι' w st' v (Aj ρ a):=by
 induction h with
 |j v=>exact .j v
 |one v c h=>exact .one _ _ (h.ren hm hl)
 |ag vs cs h=>exact .ag _ _ (h.ren hm hl)
 |tp vs asv hlen h ih=>
  simp only[Aj,M4];refine .tp vs _ (by simpa using hlen) (fun j v a h1 h2=> ?_);rw[List.getElem?_map,yT]at h2;obtain⟨a',h2,rfl⟩:=h2;exact ih j v a' h1 h2
theorem ej.unren{ρ:Nat→Nat}{q:Nat→Bool}{ι ι':IM}{w:World}{st st':St}(hm:∀b,o5 ι' st' b→o5 ι st b)(hl:∀i,q i=true→i<st'.length∧ι' i=ι (ρ i)):
  ∀(c:CV) (v:Value),uD q c=true→ej ι w st v (Kv ρ c)→ej ι' w st' v c
 | .pv p,v,_,h=>by
  cases h with
  |pv _ _ h=>exact .pv v p (h.mono (iO _) (fun b _ hb=>⟨rfl,fun h'=>hb (hm b h')⟩))
 | .pt id sz i off,v,hi,h=>by
  simp only[Kv]at h;cases h with
  |pt _ _ _ _ b hid hb=>exact .pt id sz i off b (hl id hi).1 ((hl id hi).2.trans hb)
 | .sl id sz off len,v,hi,h=>by
  simp only[Kv]at h;cases h with
  |sl _ _ _ _ b cap hid hb hcap hc=>exact .sl id sz off len b cap (hl id hi).1 ((hl id hi).2.trans hb) hcap hc
  |sn _ _ hid hb=>exact .sn id sz (hl id hi).1 ((hl id hi).2.trans hb)
 | .mp id,v,hi,h=>by
  simp only[Kv]at h;cases h with
  |mp _ b hid hb=>exact .mp id b (hl id hi).1 ((hl id hi).2.trans hb)
 | .cl els,v,hi,h=>by
  simp only[Kv]at h;cases h with
  |cl _ _ h hc=>exact .cl v els (h.mono (iO _) (fun b _ hb=>⟨rfl,fun h'=>hb (hm b h')⟩)) hc
 | .fn f caps,v,hi,h=>by
  simp only[Kv,M8]at h;cases h with
  |fn _ _ vs hlen hv=>
   simp only[uD]at hi;refine .fn f caps vs (by simpa using hlen) (fun j c v h1 h2=> ?_);have hmem:c∈caps:=List.mem_of_getElem? h1;exact ej.unren hm hl c v (GN hi j c h1) (hv j _ v (by rw[List.getElem?_map,h1];rfl) h2)
theorem ii.unren{ρ:Nat→Nat}{q:Nat→Bool}{ι ι':IM}{w:World}{st st':St}(hm:∀b,o5 ι' st' b→o5 ι st b)(hl:∀i,q i=true→i<st'.length∧ι' i=ι (ρ i)){vs:List Value}{cs:List CV}(hi:Es q cs=true)
  (h:ii ι w st vs (cs.map (Kv ρ))):ii ι' w st' vs cs:=by
 refine⟨by simpa using h.1,fun j v c h1 h2=> ?_⟩;exact ej.unren hm hl c v (C9 hi j c h2) (h.2 j v _ h1 (by rw[List.getElem?_map,h2];rfl))
theorem bk.unren{ρ:Nat→Nat}{q:Nat→Bool}{ι ι':IM}{w:World}{st st':St}(hm:∀b,o5 ι' st' b→o5 ι st b)(hl:∀i,q i=true→i<st'.length∧ι' i=ι (ρ i)):
  ∀(a:AV) (v:Value),ff q a=true→bk ι w st v (Aj ρ a)→bk ι' w st' v a
 | .j,v,_,_=> .j v
 | .one c,v,hi,h=>by
  cases h with
  |one _ _ h=>exact .one _ _ (ej.unren hm hl c v hi h)
 | .ag cs,v,hi,h=>by
  simp only[Aj]at h;cases h with
  |ag vs _ h=>exact .ag vs cs (ii.unren hm hl hi h)
 | .tp asv,v,hi,h=>by
  simp only[Aj,M4]at h;cases h with
  |tp vs _ hlen hv=>
   simp only[ff]at hi;refine .tp vs asv (by simpa using hlen) (fun j v a h1 h2=> ?_);have hmem:a∈asv:=List.mem_of_getElem? h2;exact bk.unren hm hl a v (F1 hi j a h2) (hv j v _ h1 (by rw[List.getElem?_map,h2];rfl))
def ja:St→List Nat→List cY→St
 |st,r::rs,b::bs=>ja (st.set r b) rs bs
 |st,_,_=>st
theorem nL:∀(rs:List Nat) (bs:List cY) (st:St),(ja st rs bs).length=st.length
 |[],_,_=>by simp[ja]
 |_::_,[],_=>by simp[ja]
 |r::rs,b::bs,st=>by rw[ja,nL rs bs];simp
theorem yV{id:Nat}:∀(rs:List Nat) (bs:List cY) (st:St),id∉rs→(ja st rs bs)[id]? =st[id]?
 |[],_,_,_=>by simp[ja]
 |_::_,[],_,_=>by simp[ja]
 |r::rs,b::bs,st,h=>by
  simp only[List.mem_cons,not_or]at h;rw[ja,yV rs bs _ h.2,List.getElem?_set,if_neg (fun e=>h.1 e.symm)]
theorem Ef{id:Nat}{b:cY}:∀(rs:List Nat) (bs:List cY) (st:St) (i:Nat),rs.Nodup→rs[i]? =some id→bs[i]? =some b→id<st.length→(ja st rs bs)[id]? =some b
 |[],_,_,_,_,h,_,_=>by simp at h
 |_::_,[],_,_,_,_,h,_=>by simp at h
 |r::rs,b'::bs,st,i,hn,h1,h2,hid=>by
  rw[List.nodup_cons]at hn;rw[ja];cases i with
  |zero=>
   simp at h1 h2;subst h1;subst h2;rw[yV rs bs _ hn.1,List.getElem?_set,if_pos rfl,if_pos hid]
  |succ i=>exact Ef rs bs _ i hn.2 (by simpa using h1) (by simpa using h2) (by simpa using hid)
def oo(rs:List Nat)(m:Nat)(i:Nat):Nat:=match rs[i]? with
 |some x=>x
 |none=>m+(i-rs.length)
def Jl(m:Nat):List Nat→Bool
 |[]=>true
 |r::l=>Nat.ble (r+1) m&&Jl m l
theorem LU{m:Nat}:∀{l:List Nat},Jl m l=true→∀(i r:Nat),l[i]? =some r→r<m
 |[],_,i,r,h=>by simp at h
 |x::l,h,i,r,hi=>by
  simp only[Jl,iu]at h;cases i with
  |zero=>simp at hi;subst hi;exact CY h.1
  |succ i=>exact LU h.2 i r (by simpa using hi)
variable {P:Program}
end Go.SX
namespace Go.SX
open Go
section
variable {P:Program} {n n0:Nat} {lz:List Nat} {Q:QT} {fr:Fr} {st:St} {c:Code} {ops:Array Oper}
def Sy(ops:Array Oper)(m:Nat):Bool:=Nat.ble m ops.size&&(List.range ops.size).all fun j=>Nat.blt j m||(List.range j).all fun i=>((II ops.toList []).getD j 0).testBit i
theorem U1{Q:Exit→Act→World→Prop}{m:Nat}(hfull:∀j,m≤j→j<ops.size→∀i,i<j→yf ops i j)(hback:∀(j:Nat) o,ops[j]? =some o→∀e∈o.after,Region.binds .any e=true→e.on<j):
  ∀(nf:Nat) (k:Nat) (listed:Array Bool) (a:Act) (w:World),m≤k→k≤ops.size→listed.size=ops.size→(∀j,j<ops.size→(listed.getD j false=true↔j<k))→ops.size≤k+nf→wpList P ops Q (ops.toList.drop k) a w→wpAny P .any ops Q nf listed a w:=by
 intro nf;induction nf with
 |zero=>
  intro k listed a w hmk hk hls hl hf hw;have:k=ops.size:=by omega
  subst this;rw[List.drop_of_length_le (by simp)]at hw;refine⟨?_,hw⟩;unfold Region.ready;rw[List.filter_eq_nil_iff];intro j hj;have hj':=List.mem_range.1 hj;have h1:=(hl j hj').2 hj';have:listed.getD j true=true:=by
   simp[Array.getD,hls,hj']at h1⊢;exact h1
  simp[this]
 |succ nf ih=>
  intro k listed a w hmk hk hls hl hf hw;have hrd:∀i,i∈Region.ready .any ops listed↔(i=k∧k<ops.size):=by
   intro i;unfold Region.ready;rw[List.mem_filter,List.mem_range];constructor
   ·rintro⟨hi,hr⟩;have ho:ops[i]? =some ops[i]:=Array.getElem?_eq_getElem hi;rw[ho]at hr;simp only[Option.map_some,Option.getD_some,iu]at hr;have hnl:¬i<k:=by
     intro h;have h1:=(hl i hi).2 h;have:=hr.1;simp[Array.getD,hls,hi]at h1 this;rw[h1]at this;cases this
    have hpred:∀e∈ops[i].after,Region.binds .any e=true→listed.getD e.on false=true:=by
     intro e he hb;have:=Array.all_eq_true_iff_forall_mem.1 hr.2 e he;simpa [hb]using this
    refine⟨?_,by omega⟩;apply Classical.byContradiction;intro hne;have hki:k<i:=by omega
    have key:∀p q,yf ops p q→q<k→p<k:=by
     intro p q hb;induction hb with
     |one ho' he hb h=>intro hq;subst h;exact Nat.lt_trans (hback _ _ ho' _ he hb) hq
     |more ho' he hb h ihb=>intro hq;exact ihb (Nat.lt_trans (hback _ _ ho' _ he hb) hq)
    have:=hfull i (by omega) hi k hki;cases this with
    |one ho' he hb h=>
     rw[ho]at ho';cases ho';have h2:=hpred _ he hb;rw[h]at h2;exact absurd ((hl k (by omega)).1 h2) (Nat.lt_irrefl k)
    |more ho' he hb h=>
     rw[ho]at ho';cases ho';have h2:=hpred _ he hb;have h3:=hback _ _ ho _ he hb;have:=key _ _ h ((hl _ (by omega)).1 h2);omega
   ·rintro⟨rfl,hlt⟩;refine⟨hlt,?_⟩;have ho:ops[i]? =some ops[i]:=Array.getElem?_eq_getElem hlt;have h1:listed.getD i true=false:=by
     have:¬listed.getD i false=true:=fun h=>Nat.lt_irrefl _ ((hl i hlt).1 h)
     simp[Array.getD,hls,hlt]at this⊢;exact this
    rw[h1,ho];simp only[Bool.not_false,Bool.true_and,Option.map_some,Option.getD_some];rw[Array.all_eq_true_iff_forall_mem];intro e he;cases hb:Region.binds .any e with
    |false=>rfl
    |true=>
     have:=hback _ _ ho e he hb;rw[(hl e.on (by omega)).2 this];simp
  refine⟨fun hready=> ?_,fun i hi=> ?_⟩
  ·have:k=ops.size:=by
    apply Classical.byContradiction;intro h;have:=(hrd k).2 ⟨rfl,by omega⟩;rw[hready]at this;cases this
   subst this;rw[List.drop_of_length_le (by simp)]at hw;exact hw
  ·obtain⟨rfl,hlt⟩:=(hrd i).1 hi;have ho:ops[i]? =some ops[i]:=Array.getElem?_eq_getElem hlt;have hd:ops.toList.drop i=ops[i]::ops.toList.drop (i+1):=by
    have:i<ops.toList.length:=by simpa using hlt
    rw[List.drop_eq_getElem_cons this];simp
   rw[hd]at hw;have next:∀a' w',wpList P ops Q (ops.toList.drop (i+1)) a' w'→wpAny P .any ops Q nf (listed.setIfInBounds i true) a' w':=by
    intro a' w' h';refine ih (i+1) _ a' w' (by omega) (by omega) (by simpa using hls) (fun j hj=> ?_) (by omega) h';by_cases e:j=i
    ·subst e;simp[Array.getD,hls,hj]
    ·have:(listed.setIfInBounds i true).getD j false=listed.getD j false:=by
      simp[Array.getD,hls,hj,Array.getElem_setIfInBounds_ne,Ne.symm e]
     rw[this,hl j hj];omega
   refine wpOp_mono next ?_
   unfold wpOp;rw[ho];exact hw
theorem ND{m:Nat}:∀N,m≤N→((List.range N).filter fun j=> !decide (j<m)).length=N-m
 |0,h=>by simp
 |N+1,h=>by
  rw[List.range_succ,List.filter_append,List.length_append];by_cases e:m=N+1
  ·subst e;have:((List.range N).filter fun j=> !decide (j<N+1))=[]:=by
    rw[List.filter_eq_nil_iff];intro j hj;have:=List.mem_range.1 hj;simp;omega
   rw[this];simp
  ·rw[ND N (by omega)];have:¬N<m:=by omega
   simp[this];omega
end
section
variable {P:Program} {n n0:Nat} {lz an:List Nat} {Q:QT} {fr:Fr} {st:St} {c:Code} {ops:Array Oper}
end
section
variable {P:Program} {n n0:Nat} {lz an:List Nat} {Q:QT} {fr:Fr} {st:St} {c:Code} {ops:Array Oper}
def scalars:List AV→Option (List Value)
 |[]=>some []
 | .one (.pv (.s v))::l=>match scalars l with
  |some r=>some (v::r)
  |none=>none
 |_=>none
def JR(P:Program)(o:Oper)(fr:Fr):Option (Nat×List Value):=
 match o.op with
 | .call ⟨.value f,args,_⟩=>
  match rv fr f with
  | .one (.pv (.fn g []))=>match scalars (args.toList.map (rv fr))with
   |some vs=>some (g,vs)
   |none=>none
  |_=>none
 |_=>none
def TM(P:Program)(g:Nat)(vs:List Value)(v:Value):Prop:=∀w:World,(callFunc g vs.toArray).run P w= .ok (.value v) w
theorem EF{ι:IM}{w:World}:∀{l:List AV} {vs us:List Value},scalars l=some vs→us.length=l.length→(∀(j:Nat) v a,us[j]? =some v→l[j]? =some a→bk ι w st v a)→us=vs
 |[],vs,us,h,hl,_=>by
  simp[scalars]at h;subst h;exact List.length_eq_zero_iff.1 (by simpa using hl)
 |a::l,vs,[],h,hl,hr=>by simp at hl
 |a::l,vs,u::us,h,hl,hr=>by
   skip
   cases a<;>try (simp[scalars]at h;done)
   rename_i cv;cases cv<;>try (simp[scalars]at h;done)
   rename_i p;cases p<;>try (simp[scalars]at h;done)
   rename_i x;simp only[scalars]at h;split at h
   ·rename_i r hq;simp only[eJ]at h;subst h;have h0:=hr 0 u _ rfl rfl;have e1:u=x:=cn h0;have e2:=EF hq (us:=us) (by simpa using hl) (fun j v a h1 h2=>hr (j+1) v a (by simpa using h1) (by simpa using h2));rw[e1,e2]
   ·cases h
theorem LV{o:Oper}{g:Nat}{vs:List Value}{v:Value}(h:JR P o fr=some (g,vs))(hx:TM P g vs v){ι:IM}{w:World}{a:Act}(hF:pT n ι w st a fr):(execOp a.eval o).run P w= .ok (.value v) w:=by
 unfold JR at h;cases hop:o.op<;>simp only[hop]at h<;>try (cases h;done)
 rename_i cl;obtain⟨callee,args,tys⟩:=cl;cases callee<;>simp only at h<;>try (cases h;done)
 rename_i f;have hf:=dL hF f;split at h
 ·rename_i g' hq;split at h
  ·rename_i us hs;simp only[eJ,sT]at h;obtain⟨rfl,rfl⟩:=h;rw[hq]at hf;have hp:=AS (rh hf);have e:=EF (st:=st) (ι:=ι) (w:=w) hs (us:=args.toList.map a.eval) (by simp) (fun j v av h1 h2=>by
    rw[List.getElem?_map,yT]at h1 h2;obtain⟨x,hx,rfl⟩:=h1;obtain⟨y,hy,rfl⟩:=h2;rw[hx]at hy;cases hy;exact dL hF x)
   generalize hu:a.eval f=u at*;cases hp with
   |fn _ _ ws hl hv=>
    have:ws=[]:=List.length_eq_zero_iff.1 (by simpa using hl);subst this;have e3:args.map a.eval++(#[]:Array Value)=us.toArray:=by
     apply Array.ext';simp[←e]
    have e4:=hx w;simp[execOp,hop,resolve,hu,Deferred.ofValue,invoke];rw[←e3,Array.append_empty]at e4;exact e4
  ·cases h
 ·cases h
def afB(P:Program)(n:Nat)(ops:Array Oper)(l:List Oper)(fr:Fr):Option (Nat×List Value):=
 match l with
 |o::_=>match fx ops o fr with
  |some true=>JR P o fr
  |_=>none
 |[]=>none
def Xm(us:List Value):AV:= .tp (us.map fun u=> .one (.pv (.s u)))
theorem IZ{ι:IM}{w:World}{us:List Value}(h:us.all xx=true):bk ι w st (.tuple us.toArray) (Xm us):=by
 refine .tp us _ (by simp) (fun j v a h1 h2=> ?_);rw[List.getElem?_map,yT]at h2;obtain⟨u,hu,rfl⟩:=h2;rw[hu]at h1;cases h1;exact .one _ _ (.pv _ _ (.s _ (List.all_eq_true.1 h _ (List.mem_of_getElem? hu))))
def VP(P:Program)(n:Nat)(ops:Array Oper)(l:List Oper)(fr:Fr):Option (Nat×List Value):=
 match l with
 |o::_=>match fx ops o (iz ops o fr)with
  |some true=>bif (match o.dst with|some d=>Nat.ble (d+1) n|none=>true)then JR P o (iz ops o fr)else none
  |_=>none
 |[]=>none
theorem Ta{g:Nat}{fn:Func}(hf:P.funcs[g]? =some fn)(hname:(fn.name== "runtime.NumGoroutine")=false)(hb:fn.body.isNone=true)(hn:Extern.findNext fn=none)(he:Extern.find fn=some add64Entry)
  {x y c:Int}(hx:0≤x)(hy:0≤y)(hc0:0≤c)(hc:c≤1):
  TM P g [.int .u64 x,.int .u64 y,.int .u64 c] (.tuple [.int .u64 ((x+y+c)%18446744073709551616),.int .u64 ((x+y+c)/18446744073709551616)].toArray):=by
 intro w;rw[run_callFunc_extern hf hname hb hn he];have:=run_add64 (P:=P) x y c hx hy hc0 hc w;rw[this];rfl
def QI:Array Value→Sem Value:=(Extern.MathBitsCarry.rows.getD 1 ("",fun _=>pure undef)).2
theorem QH(x y b:Nat)(hb:b≤1)(w:World):
  (QI #[.int .u64 x,.int .u64 y,.int .u64 b]).run P w=
   .ok (.tuple #[.int .u64 (((x+18446744073709551616-y-b)%18446744073709551616:Nat):Int),.int .u64 ((if x<y+b then 1 else 0:Nat):Int)]) w:=by
 have:b=0∨b=1:=by omega
 rcases this with rfl|rfl<;>rfl
theorem Ub{g:Nat}{fn:Func}(hf:P.funcs[g]? =some fn)(hname:(fn.name== "runtime.NumGoroutine")=false)(hb:fn.body.isNone=true)(hn:Extern.findNext fn=none)(he:Extern.find fn=some QI)
  {x y c:Int}(hx:0≤x)(hy:0≤y)(hy2:y<18446744073709551616)(hc0:0≤c)(hc:c≤1):
  TM P g [.int .u64 x,.int .u64 y,.int .u64 c] (.tuple [.int .u64 ((x-y-c)%18446744073709551616),.int .u64 (if x<y+c then 1 else 0)].toArray):=by
 intro w;rw[run_callFunc_extern hf hname hb hn he];obtain⟨X,rfl⟩:=Int.eq_ofNat_of_zero_le hx;obtain⟨Y,rfl⟩:=Int.eq_ofNat_of_zero_le hy;obtain⟨C,rfl⟩:=Int.eq_ofNat_of_zero_le hc0;have:=QH (P:=P) X Y C (by omega) w;rw[this];have e1:(((X+18446744073709551616-Y-C)%18446744073709551616:Nat):Int)=((X:Int)-Y-C)%18446744073709551616:=by omega
 have e2:((if X<Y+C then 1 else 0:Nat):Int)=if(X:Int)<Y+C then 1 else 0:=by split<;>split<;>omega
 rw[e1,e2];rfl
end
theorem Vw:∀c:CV,Kv (fun i=>i) c=c
 | .pv _=>rfl
 | .pt _ _ _ _=>rfl
 | .mp _=>rfl
 | .cl _=>rfl
 | .sl _ _ _ _=>rfl
 | .fn f caps=>by simp only[Kv];rw[go caps]
 where
 go:∀l:List CV,Kv.go (fun i=>i) l=l
  |[]=>rfl
  |c::l=>by simp only[Kv.go,Vw c,go l]
theorem ej.chg{ι ι':IM}{w:World}{st st':St}(hm:∀b,o5 ι' st' b→o5 ι st b)(hl:st.length≤st'.length)(hi:∀i,ι' i=ι i){v:Value}{c:CV}(h:ej ι w st v c):ej ι' w st' v c:=by
 have:=h.ren (ρ:=fun i=>i) (ι':=ι') (st':=st') hm (fun i h=>⟨by omega,hi i⟩);rwa [Vw]at this
theorem ii.chg{ι ι':IM}{w:World}{st st':St}(hm:∀b,o5 ι' st' b→o5 ι st b)(hl:st.length≤st'.length)(hi:∀i,ι' i=ι i){vs:List Value}{cs:List CV}(h:ii ι w st vs cs):ii ι' w st' vs cs:=
 ⟨h.1,fun j v c h1 h2=>(h.2 j v c h1 h2).chg hm hl hi⟩
theorem bk.chg{ι ι':IM}{w:World}{st st':St}(hm:∀b,o5 ι' st' b→o5 ι st b)(hl:st.length≤st'.length)(hi:∀i,ι' i=ι i){v:Value}{a:AV}(h:bk ι w st v a):bk ι' w st' v a:=by
 induction h with
 |j v=>exact .j v
 |one v c h=>exact .one _ _ (h.chg hm hl hi)
 |ag vs cs h=>exact .ag _ _ (h.chg hm hl hi)
 |tp vs asv hlen h ih=>exact .tp vs _ hlen (fun j v a h1 h2=>ih j v a h1 h2)
theorem vw.chg{ι ι':IM}{w:World}{st st':St}(hm:∀b,o5 ι' st' b→o5 ι st b)(hl:st.length≤st'.length)(hi:∀i,ι' i=ι i){id:Nat}{o:cY}(h:vw ι w st id o):vw ι' w st' id o:=by
 cases o with
 |dead=>trivial
 |box cells=>
  obtain⟨b,us,ty,e3,e4,e5⟩:=h;exact⟨b,us,ty,(hi id).trans e3,e4,e5.chg hm hl hi⟩
 |rel Rm ps=>
  obtain⟨b,ob,vs0,e3,e4,hr0,hl0⟩:=h;exact⟨b,ob,vs0,(hi id).trans e3,e4,hr0,hl0.map fun _ _ h0=>h0.mono (iO _) (fun b _ hb=>⟨rfl,fun h'=>hb (hm b h')⟩)⟩
 |arr sz els=>
  rcases h with⟨e3,e4⟩ |⟨b,c,ty,e3,e4,e5,e6,e7⟩
  ·exact .inl ⟨(hi id).trans e3,e4⟩
  ·refine .inr ⟨b,c,ty,(hi id).trans e3,e4,e5,e6,fun i' e j p x1 x2=> ?_⟩;obtain⟨v,y1,y2⟩:=e7 i' e j p x1 x2;exact⟨v,y1,y2.mono (iO _) (fun b _ hb=>⟨rfl,fun h'=>hb (hm b h')⟩)⟩
def oy(T:Nat→Bool):Nat→St→St
 |_,[]=>[]
 |i,b::l=>(bif T i then b else .dead)::oy T (i+1) l
theorem sq{T:Nat→Bool}:∀(st:St) (i j:Nat),(oy T i st)[j]? =(st[j]?).map fun b=>bif T (i+j)then b else .dead
 |[],i,j=>by simp[oy]
 |b::l,i,j=>by
  cases j with
  |zero=>simp[oy]
  |succ j=>
   simp only[oy,List.getElem?_cons_succ];rw[sq l (i+1) j,show i+1+j=i+(j+1) by omega]
theorem jY{T:Nat→Bool}:∀(st:St) (i:Nat),(oy T i st).length=st.length
 |[],_=>rfl
 |b::l,i=>by simp[oy,jY l]
def kR(T:Nat→Bool):Nat→St→St→St
 |i,b::l,m::ms=>(bif T i then m else b)::kR T (i+1) l ms
 |_,[],ms=>ms
 |_,_::_,[]=>[]
theorem eX{T:Nat→Bool}:∀(st m:St) (i:Nat),st.length≤m.length→(kR T i st m).length=m.length
 |[],m,i,_=>by simp[kR]
 |b::l,[],i,h=>by simp at h
 |b::l,x::ms,i,h=>by simp only[kR,List.length_cons];rw[eX l ms (i+1) (by simpa using h)]
theorem iD{T:Nat→Bool}:∀(st m:St) (i j:Nat),st.length≤m.length→(kR T i st m)[j]? =if j<st.length∧T (i+j)=false then st[j]? else m[j]?
 |[],m,i,j,_=>by simp[kR]
 |b::l,[],i,j,h=>by simp at h
 |b::l,x::ms,i,j,h=>by
  cases j with
  |zero=>simp[kR];cases T i<;>simp
  |succ j=>
   simp only[kR,List.getElem?_cons_succ,List.length_cons];rw[iD l ms (i+1) j (by simpa using h),show i+1+j=i+(j+1) by omega];simp
section
variable {ι:IM} {w:World} {st:St} {T:Nat→Bool}
def aside(T:Nat→Bool)(ι:IM)(st:St):IM:=⟨ι.m,fun b=>ι.amb b∨∃id o,st[id]? =some o∧o.alive∧T id=false∧ι id=some b⟩
theorem JU{b:Nat}(h:CC (aside T ι st) (oy T 0 st) b):∃id o,st[id]? =some o∧o.alive∧T id=true∧ι id=some b:=by
 obtain⟨id,o,h1,h2,h3⟩:=h;rw[sq,yT]at h1;obtain⟨o',h1,rfl⟩:=h1;rw[Nat.zero_add]at h2;cases hT:T id with
 |false=>rw[hT]at h2;exact absurd rfl h2
 |true=>rw[hT]at h2;exact⟨id,o',h1,h2,hT,h3⟩
theorem FR{b:Nat}:o5 (aside T ι st) (oy T 0 st) b↔o5 ι st b:=by
 constructor
 ·rintro((h|⟨id,o,h1,h2,_,h3⟩) |h)
  ·exact .inl h
  ·exact .inr ⟨id,o,h1,h2,h3⟩
  ·obtain⟨id,o,h1,h2,_,h3⟩:=JU h;exact .inr ⟨id,o,h1,h2,h3⟩
 ·rintro(h|⟨id,o,h1,h2,h3⟩)
  ·exact .inl (.inl h)
  ·cases hT:T id with
   |false=>exact .inl (.inr ⟨id,o,h1,h2,hT,h3⟩)
   |true=>exact .inr ⟨id,o,by rw[sq,h1,Nat.zero_add,hT];rfl,h2,h3⟩
theorem km.mask(hR:km ι w st)(T:Nat→Bool):km (aside T ι st) w (oy T 0 st):=by
 refine⟨fun id o ho=> ?_,fun b hb=> ?_,fun b hb ha=> ?_,fun id id' o o' b h1 h2 a1 a2 e1 e2=> ?_,fun b o h=>⟨fun hm=>(hR.gl b o h).1 (FR.1 hm),(hR.gl b o h).2⟩⟩
 ·rw[sq,yT]at ho;obtain⟨o',h1,rfl⟩:=ho;cases T (0+id)with
  |false=>trivial
  |true=>exact(hR.obj id o' h1).chg (fun b hb=>FR.1 hb) (by rw[jY];exact iO _) (fun _=>rfl)
 ·rcases hb with hb|⟨id,o,h1,h2,_,h3⟩
  ·exact hR.amb b hb
  ·exact hR.mut_lt (.inr ⟨id,o,h1,h2,h3⟩)
 ·obtain⟨id,o,h1,h2,hT,h3⟩:=JU hb;rcases ha with ha|⟨id',o',g1,g2,hF,g3⟩
  ·exact hR.dis b ⟨id,o,h1,h2,h3⟩ ha
  ·have:=hR.inj id id' o o' b h1 g1 h2 g2 h3 g3;subst this;rw[hT]at hF;cases hF
 ·rw[sq,yT]at h1 h2;obtain⟨p,p1,rfl⟩:=h1;obtain⟨q,q1,rfl⟩:=h2;rw[Nat.zero_add]at a1 a2;cases hT:T id with
  |false=>rw[hT]at a1;exact absurd rfl a1
  |true=>
   cases hT':T id' with
   |false=>rw[hT']at a2;exact absurd rfl a2
   |true=>
    rw[hT]at a1;rw[hT']at a2;exact hR.inj id id' p q b p1 q1 a1 a2 e1 e2
theorem km.unmask(hR:km ι w st){q:Nat→Bool}{w':World}{ι2:IM}{sm:St}(hl:st.length≤sm.length)(hR2:km ι2 w' sm)(k:cT (fun id=>q id=true) (aside T ι st) w (oy T 0 st) ι2 w' sm)
  (hq:∀id,T id=false→id<st.length→q id=true)(hb:∀id o,st[id]? =some o→T id=false→nJ q o=true)(hd:∀id,id<st.length→T id=false→sm[id]? =some .dead):
  km ⟨ι2.m,ι.amb⟩ w' (kR T 0 st sm)∧(∀b,o5 ⟨ι2.m,ι.amb⟩ (kR T 0 st sm) b→o5 ι2 sm b)∧cT (fun id=>q id=true) ι w st ⟨ι2.m,ι.amb⟩ w' (kR T 0 st sm):=by
 have hlen:=eX (T:=T) st sm 0 hl;have hget:∀id o,(kR T 0 st sm)[id]? =some o→(id<st.length∧T id=false∧st[id]? =some o)∨(sm[id]? =some o∧(id<st.length→T id=true)):=by
  intro id o ho;rw[iD _ _ _ _ hl,Nat.zero_add]at ho;split at ho
  ·rename_i h;exact .inl ⟨h.1,h.2,ho⟩
  ·rename_i h;refine .inr ⟨ho,fun hid=> ?_⟩;cases hT:T id with
   |true=>rfl
   |false=>exact absurd ⟨hid,hT⟩ h
 have hsame:∀id,id<st.length→T id=false→ι2 id=ι id:=fun id hid hT=>(k.map id (hq id hT hid) (by rw[jY];exact hid)).2
 have own1:∀b,CC ⟨ι2.m,ι.amb⟩ (kR T 0 st sm) b→(∃id o,st[id]? =some o∧o.alive∧T id=false∧ι id=some b)∨CC ι2 sm b:=by
  rintro b ⟨id,o,h1,h2,h3⟩;rcases hget id o h1 with⟨g1,g2,g3⟩ |⟨g1,_⟩
  ·exact .inl ⟨id,o,g3,h2,g2,(hsame id g1 g2).symm.trans h3⟩
  ·exact .inr ⟨id,o,g1,h2,h3⟩
 have hamb:ι2.amb=(aside T ι st).amb:=k.amb;have mut1:∀b,o5 ⟨ι2.m,ι.amb⟩ (kR T 0 st sm) b→o5 ι2 sm b:=by
  rintro b (hb'|hb')
  ·exact .inl (by rw[hamb];exact .inl hb')
  ·rcases own1 b hb' with h|h
   ·exact .inl (by rw[hamb];exact .inr h)
   ·exact .inr h
 have hRm:=hR.mask T;have kk:cT (fun id=>q id=true) ι w st ⟨ι2.m,ι.amb⟩ w' (kR T 0 st sm):=by
  refine⟨k.os,k.tape,k.output,k.size,rfl,fun b hb' hno=> ?_,fun id hq' hid=>⟨by rw[hlen];omega,(k.map id hq' (by rw[jY];exact hid)).2⟩,k.shp⟩;have h1:¬CC (aside T ι st) (oy T 0 st) b:=by
   intro h;obtain⟨id,o,x1,x2,_,x3⟩:=JU h;exact hno ⟨id,o,x1,x2,x3⟩
  obtain⟨e1,e2⟩:=k.blk b hb' h1;refine⟨e1,fun ho=> ?_⟩;rcases own1 b ho with⟨id,o,x1,x2,_,x3⟩ |h
  ·exact hno ⟨id,o,x1,x2,x3⟩
  ·exact e2 h
 refine⟨⟨fun id o ho=> ?_,fun b hb'=>Nat.lt_of_lt_of_le (hR.amb b hb') k.size,fun b hb' ha=> ?_,fun id id' o o' b h1 h2 a1 a2 e1 e2=> ?_,hR.glk kk⟩,mut1,kk⟩
 ·rcases hget id o ho with⟨g1,g2,g3⟩ |⟨g1,_⟩
  ·have hobj:=hR.obj id o g3;have hi:=hb id o g3 g2;have hblk:∀b,o.alive→ι id=some b→w'.heap[b]? =w.heap[b]? :=by
    intro b ha e;refine(k.blk b (hR.mut_lt (.inr ⟨id,o,g3,ha,e⟩)) (fun hown=> ?_)).1;exact hRm.dis b hown (.inr ⟨id,o,g3,ha,g2,e⟩)
   cases o with
   |dead=>trivial
   |box cells=>
    obtain⟨b,us,ty,e3,e4,e5⟩:=hobj;exact⟨b,us,ty,(hsame id g1 g2).trans e3,(hblk b (by simp[cY.alive]) e3).trans e4,e5.mono kk (q:=q) (fun _ h _=>h) hi⟩
   |rel Rm ps=>
    obtain⟨b,ob,vs0,e3,e4,hr0,hl0⟩:=hobj;exact⟨b,ob,vs0,(hsame id g1 g2).trans e3,(hblk b (by simp[cY.alive]) e3).trans e4,hr0,hl0.map fun _ _ h0=>kk.pure h0⟩
   |arr sz els=>
    rcases hobj with⟨e3,e4⟩ |⟨b,c,ty,e3,e4,e5,e6,e7⟩
    ·exact .inl ⟨(hsame id g1 g2).trans e3,e4⟩
    ·refine .inr ⟨b,c,ty,(hsame id g1 g2).trans e3,(hblk b (by simp[cY.alive]) e3).trans e4,e5,e6,fun i' e j p x1 x2=> ?_⟩;obtain⟨v,y1,y2⟩:=e7 i' e j p x1 x2;exact⟨v,y1,kk.pure y2⟩
  ·exact(hR2.obj id o g1).chg mut1 (by rw[hlen];exact iO _) (fun _=>rfl)
 ·rcases own1 b hb' with⟨id,o,x1,x2,_,x3⟩ |h
  ·exact hR.dis b ⟨id,o,x1,x2,x3⟩ ha
  ·exact hR2.dis b h (by rw[hamb];exact .inl ha)
 ·rcases hget id o h1 with⟨g1,g2,g3⟩ |⟨g1,gT⟩
  ·have i1:ι id=some b:=(hsame id g1 g2).symm.trans e1;rcases hget id' o' h2 with⟨q1,q2,q3⟩ |⟨q1,qT⟩
   ·exact hR.inj id id' o o' b g3 q3 a1 a2 i1 ((hsame id' q1 q2).symm.trans e2)
   ·exact absurd (by rw[hamb];exact .inr ⟨id,o,g3,a1,g2,i1⟩) (hR2.dis b ⟨id',o',q1,a2,e2⟩)
  ·rcases hget id' o' h2 with⟨q1,q2,q3⟩ |⟨q1,qT⟩
   ·exact absurd (by rw[hamb];exact .inr ⟨id',o',q3,a2,q2,(hsame id' q1 q2).symm.trans e2⟩) (hR2.dis b ⟨id,o,g1,a1,e1⟩)
   ·exact hR2.inj id id' o o' b g1 q1 a1 a2 e1 e2
def zH(ι:IM)(L id:Nat):IM:=⟨fun i=>if i=id then ι L else ι i,ι.amb⟩
def KB(L id:Nat):Nat→Nat:=fun i=>if i=L then id else i
theorem km.revive{b:cY}{id:Nat}(hR:km ι w (st++[b]))(hd:st[id]? =some .dead)(hi:gO (fun i=> !Nat.beq i id&& !Nat.beq i st.length) (st++[b])=true):
  km (zH ι st.length id) w (st.set id b)∧(∀x,o5 (zH ι st.length id) (st.set id b) x→o5 ι (st++[b]) x)∧
  cT (fun i=>i≠id∧i≠st.length) ι w (st++[b]) (zH ι st.length id) w (st.set id b):=by
 have hid:id<st.length:=(tz.1 hd).1;have hne:∀i,i≠id→(st.set id b)[i]? =st[i]? :=by
  intro i h;rw[List.getElem?_set,if_neg (fun e=>h e.symm)]
 have hat:(st.set id b)[id]? =some b:=by rw[List.getElem?_set,if_pos rfl,if_pos hid]
 have hold:∀i,i<st.length→(st++[b])[i]? =st[i]? :=fun i h=>E2 h
 have hnew:(st++[b])[st.length]? =some b:=by simp
 have hcase:∀i o,(st.set id b)[i]? =some o→o.alive→(i=id∧o=b)∨(i≠id∧i<st.length∧(st++[b])[i]? =some o):=by
  intro i o ho ha;by_cases e:i=id
  ·subst e;rw[hat]at ho;cases ho;exact .inl ⟨rfl,rfl⟩
  ·rw[hne i e]at ho;have:=(tz.1 ho).1;exact .inr ⟨e,this,by rw[hold i this];exact ho⟩
 have own1:∀x,CC (zH ι st.length id) (st.set id b) x→CC ι (st++[b]) x:=by
  rintro x ⟨i,o,h1,h2,h3⟩;rcases hcase i o h1 h2 with⟨rfl,rfl⟩ |⟨g1,g2,g3⟩
  ·exact⟨st.length,o,hnew,h2,(if_pos rfl:zH ι st.length i i=ι st.length)▸h3⟩
  ·exact⟨i,o,g3,h2,(if_neg g1:zH ι st.length id i=ι i)▸h3⟩
 have own2:∀x,CC ι (st++[b]) x→CC (zH ι st.length id) (st.set id b) x:=by
  rintro x ⟨i,o,h1,h2,h3⟩;by_cases e:i<st.length
  ·have hii:i≠id:=by
    rintro rfl;rw[hold i e,hd]at h1;cases h1;exact absurd rfl h2
   exact⟨i,o,by rw[hne i hii,←hold i e];exact h1,h2,(if_neg hii:zH ι st.length id i=ι i).trans h3⟩
  ·have hl:=(tz.1 h1).1;have:i=st.length:=by simp at hl;omega
   subst this;rw[hnew]at h1;cases h1;exact⟨id,b,hat,h2,(if_pos rfl:zH ι st.length id id=ι st.length).trans h3⟩
 have mut1:∀x,o5 (zH ι st.length id) (st.set id b) x→o5 ι (st++[b]) x:=fun x h=>h.elim .inl (fun h=> .inr (own1 x h))
 have kk:cT (fun i=>i≠id∧i≠st.length) ι w (st++[b]) (zH ι st.length id) w (st.set id b):=
  ⟨rfl,rfl,rfl,iO _,rfl,fun x _ hno=>⟨rfl,fun h=>hno (own1 x h)⟩,fun i hf hl=>⟨by simp at hl⊢;omega,if_neg hf.1⟩,fun _ c _ _ h=>⟨c,h,rfl⟩⟩
 have hq:∀i,(fun i=> !Nat.beq i id&& !Nat.beq i st.length) i=true→i<(st++[b]).length→i≠id∧i≠st.length:=by
  intro i h _;simp only[iu,Bool.not_eq_true']at h;refine⟨fun e=> ?_,fun e=> ?_⟩
  ·subst e;simp at h
  ·subst e;simp at h
 have objs:∀i o,(st++[b])[i]? =some o→∀j,(zH ι st.length id) j=ι i→vw (zH ι st.length id) w (st.set id b) j o:=by
  intro i o ho j hj;have hobj:=hR.obj i o ho;have hids:=nD hi i o ho;cases o with
  |dead=>trivial
  |box cells=>
   obtain⟨x,us,ty,e3,e4,e5⟩:=hobj;exact⟨x,us,ty,hj.trans e3,e4,e5.mono kk hq hids⟩
  |rel Rm ps=>
   obtain⟨x,ob,vs0,e3,e4,hr0,hl0⟩:=hobj;exact⟨x,ob,vs0,hj.trans e3,e4,hr0,hl0.map fun _ _ h0=>kk.pure h0⟩
  |arr sz els=>
   rcases hobj with⟨e3,e4⟩ |⟨x,c,ty,e3,e4,e5,e6,e7⟩
   ·exact .inl ⟨hj.trans e3,e4⟩
   ·refine .inr ⟨x,c,ty,hj.trans e3,e4,e5,e6,fun i' e j' p x1 x2=> ?_⟩;obtain⟨v,y1,y2⟩:=e7 i' e j' p x1 x2;exact⟨v,y1,kk.pure y2⟩
 refine⟨⟨fun i o ho=> ?_,hR.amb,fun x hx=>hR.dis x (own1 x hx),fun i i' o o' x h1 h2 a1 a2 e1 e2=> ?_,hR.glk kk⟩,mut1,kk⟩
 ·by_cases ha:o= .dead
  ·subst ha;trivial
  ·rcases hcase i o ho ha with⟨rfl,rfl⟩ |⟨g1,g2,g3⟩
   ·exact objs st.length o hnew i (if_pos rfl)
   ·exact objs i o g3 i (if_neg g1)
 ·rcases hcase i o h1 a1 with⟨rfl,rfl⟩ |⟨g1,g2,g3⟩
  ·have x1:ι st.length=some x:=(if_pos rfl:zH ι st.length i i=ι st.length)▸e1;rcases hcase i' o' h2 a2 with⟨rfl,_⟩ |⟨q1,q2,q3⟩
   ·rfl
   ·have:=hR.inj st.length i' _ _ x hnew q3 a1 a2 x1 ((if_neg q1:zH ι st.length i i'=ι i')▸e2);omega
  ·have x1:ι i=some x:=(if_neg g1:zH ι st.length id i=ι i)▸e1;rcases hcase i' o' h2 a2 with⟨rfl,rfl⟩ |⟨q1,q2,q3⟩
   ·have:=hR.inj i st.length _ _ x g3 hnew a1 a2 x1 ((if_pos rfl:zH ι st.length i' i'=ι st.length)▸e2);omega
   ·exact hR.inj i i' _ _ x g3 q3 a1 a2 x1 ((if_neg q1:zH ι st.length id i'=ι i')▸e2)
theorem ej.revive{b:cY}{id:Nat}(hid:id<st.length)(hm:∀x,o5 (zH ι st.length id) (st.set id b) x→o5 ι (st++[b]) x){v:Value}{c:CV}(h:ej ι w (st++[b]) v c):uD (fun i=> !Nat.beq i id) c=true→ej (zH ι st.length id) w (st.set id b) v (Kv (KB st.length id) c):=by
 have key:∀i,(!Nat.beq i id)=true→i<(st++[b]).length→KB st.length id i<(st.set id b).length∧zH ι st.length id (KB st.length id i)=ι i:=by
  intro i hi hl;have hne:i≠id:=by rintro rfl;simp at hi
  simp only[KB];split
  ·rename_i e;subst e;exact⟨by simpa using hid,if_pos rfl⟩
  ·refine⟨by simp at hl⊢;omega,if_neg hne⟩
 induction h with
 |pv v p h=>exact fun _=> .pv v p (h.mono (iO _) (fun x _ hx=>⟨rfl,fun h'=>hx (hm x h')⟩))
 |pt i sz k off x hid' hb=>intro hi;exact .pt _ sz k off x (key i hi hid').1 ((key i hi hid').2.trans hb)
 |sl i sz off len x cap hid' hb hcap hc=>intro hi;exact .sl _ sz off len x cap (key i hi hid').1 ((key i hi hid').2.trans hb) hcap hc
 |sn i sz hid' hb=>intro hi;exact .sn _ sz (key i hi hid').1 ((key i hi hid').2.trans hb)
 |mp i x hid' hb=>intro hi;exact .mp _ x (key i hi hid').1 ((key i hi hid').2.trans hb)
 |cl v els h hc=>exact fun _=> .cl v els (h.mono (iO _) (fun x _ hx=>⟨rfl,fun h'=>hx (hm x h')⟩)) hc
 |fn f caps vs hl hv ih=>
  intro hi;simp only[uD]at hi;simp only[Kv,M8];refine .fn f _ vs (by simpa using hl) (fun j c v h1 h2=> ?_);rw[List.getElem?_map,yT]at h1;obtain⟨c',h1,rfl⟩:=h1;exact ih j c' v h1 h2 (GN hi j c' h1)
theorem bk.revive{b:cY}{id:Nat}(hid:id<st.length)(hm:∀x,o5 (zH ι st.length id) (st.set id b) x→o5 ι (st++[b]) x){v:Value}{a:AV}(h:bk ι w (st++[b]) v a):ff (fun i=> !Nat.beq i id) a=true→bk (zH ι st.length id) w (st.set id b) v (Aj (KB st.length id) a):=by
 induction h with
 |j v=>exact fun _=> .j v
 |one v c h=>exact fun hi=> .one _ _ (h.revive hid hm hi)
 |ag vs cs h=>
  intro hi;refine .ag _ _ ⟨by simpa using h.1,fun j v c h1 h2=> ?_⟩;rw[List.getElem?_map,yT]at h2;obtain⟨c',h2,rfl⟩:=h2;exact(h.2 j v c' h1 h2).revive hid hm (C9 hi j c' h2)
 |tp vs asv hlen h ih=>
  intro hi;simp only[ff]at hi;simp only[Aj,M4];refine .tp vs _ (by simpa using hlen) (fun j v a h1 h2=> ?_);rw[List.getElem?_map,yT]at h2;obtain⟨a',h2,rfl⟩:=h2;exact ih j v a' h1 h2 (F1 hi j a' h2)
end
def bq(l:List Nat)(i:Nat):Bool:=l.any (Nat.beq i)
theorem gD{l:List Nat}{i:Nat}:bq l i=true↔i∈l:=by
 simp only[bq,List.any_eq_true];constructor
 ·rintro⟨x,hx,h⟩;rw[we h];exact hx
 ·intro h;exact⟨i,h,Nat.beq_refl i⟩
def Dm(q:Nat→Bool)(a:AV):AV:=bif ff (fun id=> !q id) a then a else .j
theorem wE{q r:Nat→Bool}(h:∀i,q i=true→r i=true):∀a:AV,ff q a=true→ff r a=true
 | .j,_=>rfl
 | .one c,hi=>hc c hi
 | .ag cs,hi=>hl cs hi
 | .tp vs,hi=>by simp only[ff]at hi⊢;exact go vs hi
 where
 hc:∀c:CV,uD q c=true→uD r c=true
  | .pv _,_=>rfl
  | .pt id _ _ _,hi=>h id hi
  | .mp id,hi=>h id hi
  | .cl _,hi=>rfl
  | .sl id _ _ _,hi=>h id hi
  | .fn _ caps,hi=>by simp only[uD]at hi⊢;exact hg caps hi
 hg:∀l:List CV,uD.go q l=true→uD.go r l=true
  |[],_=>rfl
  |c::l,hi=>by simp only[uD.go,iu]at hi⊢;exact⟨hc c hi.1,hg l hi.2⟩
 hl:∀l:List CV,Es q l=true→Es r l=true
  |[],_=>rfl
  |c::l,hi=>by simp only[Es,iu]at hi⊢;exact⟨hc c hi.1,hl l hi.2⟩
 go:∀l:List AV,ff.go q l=true→ff.go r l=true
  |[],_=>rfl
  |a::l,hi=>by simp only[ff.go,iu]at hi⊢;exact⟨wE h a hi.1,go l hi.2⟩
theorem P7(q:Nat→Bool)(a:AV):Dm q a=a∨Dm q a= .j:=by
 unfold Dm;cases ff (fun id=> !q id) a<;>simp
theorem TT(q r:Nat→Bool)(a:AV):Dm q (Dm r a)=Dm r (Dm q a):=by
 unfold Dm;cases h1:ff (fun id=> !q id) a<;>cases h2:ff (fun id=> !r id) a<;>simp[h1,h2,ff]
theorem HH{q T:Nat→Bool}{a:AV}(hT:ff T a=true)(h:∀id,q id=true→T id=false):Dm q a=a:=by
 unfold Dm;rw[wE (r:=fun id=> !q id) (fun i hi=>by
  cases hq:q i with
  |false=>rfl
  |true=>rw[h i hq]at hi;cases hi) a hT]
 rfl
section
variable (fr0:Nat→AV) (s0:Nat→Option cY) (dst:Nat→Option Nat) (av:Nat→AV) (mv wr:Nat→Nat→Bool) (nb:Nat→Nat→Option cY)
def gJ(D:Nat→Bool):Nat→Nat→AV
 |0,t=>fr0 t
 |k+1,t=>if D k=true then(if dst k=some t then av k else Dm (mv k) (gJ D k t))else gJ D k t
def sJ(D:Nat→Bool):Nat→Nat→Option cY
 |0,id=>s0 id
 |k+1,id=>if D k=true∧wr k id=true then nb k id else sJ D k id
variable {fr0 s0 dst av mv wr nb} {tch:Nat→Nat→Bool} {D:Nat→Bool} {i N:Nat}
theorem Xp{t:Nat}(hi:i<N)(hDi:D i=false)(hT:ff (tch i) (gJ fr0 dst av mv (fun _=>true) i t)=true)
  (h1:∀j,j<i→D j=false→dst j≠some t)(h2:∀j,i<j→j<N→D j=true→dst j≠some t∧∀id,mv j id=true→tch i id=false):
  gJ fr0 dst av mv (fun _=>true) i t= .j∨gJ fr0 dst av mv D N t=gJ fr0 dst av mv (fun _=>true) i t:=by
 have a1:∀k,k≤i→gJ fr0 dst av mv (fun _=>true) k t= .j∨gJ fr0 dst av mv D k t=gJ fr0 dst av mv (fun _=>true) k t:=by
  intro k;induction k with
  |zero=>intro _;exact .inr rfl
  |succ k ih=>
   intro hk;simp only[gJ,if_true];cases hD:D k with
   |true=>
    simp only[if_true];by_cases hd:dst k=some t
    ·rw[if_pos hd,if_pos hd];exact .inr rfl
    ·rw[if_neg hd,if_neg hd];rcases ih (by omega)with h|h
     ·left;rw[h];rfl
     ·right;rw[h]
   |false=>
    have hd:=h1 k (by omega) hD;simp only[Bool.false_eq_true,if_false];rw[if_neg hd];rcases ih (by omega)with h|h
    ·left;rw[h];rfl
    ·rcases P7 (mv k) (gJ fr0 dst av mv (fun _=>true) k t)with e|e
     ·right;rw[e];exact h
     ·left;exact e
 rcases a1 i (iO _)with h|h
 ·exact .inl h
 right;have a2:∀k,i+k≤N→gJ fr0 dst av mv D (i+k) t=gJ fr0 dst av mv D i t:=by
  intro k;induction k with
  |zero=>intro _;rfl
  |succ k ih=>
   intro hk;have e:=ih (by omega);show gJ fr0 dst av mv D (i+k+1) t=_;simp only[gJ];cases hD:D (i+k)with
   |false=>simp only[Bool.false_eq_true,if_false];exact e
   |true=>
    have hki:i<i+k:=by
     cases k with
     |zero=>rw[Nat.add_zero,hDi]at hD;cases hD
     |succ k=>omega
    obtain⟨x1,x2⟩:=h2 (i+k) hki (by omega) hD;simp only[if_true];rw[if_neg x1,e,h];exact HH hT x2
 have:=a2 (N-i) (by omega);rw[show i+(N-i)=N by omega]at this;rw[this,h]
theorem abc{t:Nat}(hi:i<N)(hDi:D i=false)(hTi:ff (tch i) (av i)=true)(hTk:∀k,i<k→k<N→D k=true→ff (tch k) (av k)=true)
  (h2:∀j,i<j→j<N→D j=true→(∀d,dst i=some d→dst j≠some d)∧(∀id,mv j id=true→tch i id=false)∧(∀id,mv i id=true→tch j id=false)):
  gJ fr0 dst av mv (fun j=>if j=i then true else D j) N t=if dst i=some t then av i else Dm (mv i) (gJ fr0 dst av mv D N t):=by
 have a1:∀k,k≤i→gJ fr0 dst av mv (fun j=>if j=i then true else D j) k t=gJ fr0 dst av mv D k t:=by
  intro k;induction k with
  |zero=>intro _;rfl
  |succ k ih=>
   intro hk;simp only[gJ];have hne:¬k=i:=by omega
   simp only[hne,if_false];rw[ih (by omega)]
 have a2:∀k,i+1+k≤N→gJ fr0 dst av mv (fun j=>if j=i then true else D j) (i+1+k) t=if dst i=some t then av i else Dm (mv i) (gJ fr0 dst av mv D (i+1+k) t):=by
  intro k;induction k with
  |zero=>
   intro _;simp only[Nat.add_zero,gJ,if_true,hDi,Bool.false_eq_true,if_false];rw[a1 i (iO _)]
  |succ k ih=>
   intro hk;have e:=ih (by omega);show gJ fr0 dst av mv _ (i+1+k+1) t=if dst i=some t then av i else Dm (mv i) (gJ fr0 dst av mv D (i+1+k+1) t)
   simp only[gJ];have hne:¬i+1+k=i:=by omega
   simp only[hne,if_false];cases hD:D (i+1+k)with
   |false=>simp only[Bool.false_eq_true,if_false];exact e
   |true=>
    obtain⟨x1,x2,x3⟩:=h2 (i+1+k) (by omega) (by omega) hD;simp only[if_true];by_cases hd:dst (i+1+k)=some t
    ·rw[if_pos hd,if_pos hd];by_cases hdi:dst i=some t
     ·exact absurd hd (x1 t hdi)
     ·rw[if_neg hdi,HH (hTk _ (by omega) (by omega) hD) x3]
    ·rw[if_neg hd,if_neg hd,e];by_cases hdi:dst i=some t
     ·rw[if_pos hdi,if_pos hdi];exact HH hTi x2
     ·rw[if_neg hdi,if_neg hdi];exact TT _ _ _
 have:=a2 (N-(i+1)) (by omega);rwa [show i+1+(N-(i+1))=N by omega]at this
theorem Yu{id:Nat}(hi:i<N)(hDi:D i=false)(h1:∀j,j<i→D j=false→wr j id=false)(h2:∀j,i<j→j<N→D j=true→wr j id=false):
  sJ s0 wr nb D N id=sJ s0 wr nb (fun _=>true) i id:=by
 have a1:∀k,k≤i→sJ s0 wr nb D k id=sJ s0 wr nb (fun _=>true) k id:=by
  intro k;induction k with
  |zero=>intro _;rfl
  |succ k ih=>
   intro hk;simp only[sJ,true_and];cases hD:D k with
   |true=>simp only[true_and];rw[ih (by omega)]
   |false=>
    rw[h1 k (by omega) hD];simp only[Bool.false_eq_true,false_and,if_false];exact ih (by omega)
 have a2:∀k,i+k≤N→sJ s0 wr nb D (i+k) id=sJ s0 wr nb D i id:=by
  intro k;induction k with
  |zero=>intro _;rfl
  |succ k ih=>
   intro hk;show sJ s0 wr nb D (i+k+1) id=_;simp only[sJ];rw[if_neg,ih (by omega)];rintro⟨hD,hw⟩;have hki:i<i+k:=by
    cases k with
    |zero=>rw[Nat.add_zero,hDi]at hD;cases hD
    |succ k=>omega
   rw[h2 _ hki (by omega) hD]at hw;cases hw
 have:=a2 (N-i) (by omega);rw[show i+(N-i)=N by omega]at this;rw[this,a1 i (iO _)]
theorem aaX{id:Nat}(hi:i<N)(hDi:D i=false)(h2:∀j,i<j→j<N→D j=true→wr i id=true→wr j id=false):
  sJ s0 wr nb (fun j=>if j=i then true else D j) N id=if wr i id=true then nb i id else sJ s0 wr nb D N id:=by
 have a1:∀k,k≤i→sJ s0 wr nb (fun j=>if j=i then true else D j) k id=sJ s0 wr nb D k id:=by
  intro k;induction k with
  |zero=>intro _;rfl
  |succ k ih=>
   intro hk;simp only[sJ];have hne:¬k=i:=by omega
   simp only[hne,if_false];rw[ih (by omega)]
 have a2:∀k,i+1+k≤N→sJ s0 wr nb (fun j=>if j=i then true else D j) (i+1+k) id=if wr i id=true then nb i id else sJ s0 wr nb D (i+1+k) id:=by
  intro k;induction k with
  |zero=>
   intro _;simp only[Nat.add_zero,sJ,if_true,true_and,hDi,Bool.false_eq_true,false_and,if_false];rw[a1 i (iO _)]
  |succ k ih=>
   intro hk;have e:=ih (by omega);show sJ s0 wr nb _ (i+1+k+1) id=if wr i id=true then nb i id else sJ s0 wr nb D (i+1+k+1) id
   simp only[sJ];have hne:¬i+1+k=i:=by omega
   simp only[hne,if_false];rw[e];by_cases hw:D (i+1+k)=true∧wr (i+1+k) id=true
   ·rw[if_pos hw,if_pos hw,if_neg];intro hwi;have:=h2 _ (by omega) (by omega) hw.1 hwi;rw[hw.2]at this;cases this
   ·rw[if_neg hw,if_neg hw]
 have:=a2 (N-(i+1)) (by omega);rwa [show i+1+(N-(i+1))=N by omega]at this
theorem Z2{id:Nat}(k:Nat):sJ s0 wr nb D k id=s0 id∨∃j,j<k∧D j=true∧wr j id=true∧sJ s0 wr nb D k id=nb j id:=by
 induction k with
 |zero=>exact .inl rfl
 |succ k ih=>
  simp only[sJ];by_cases h:D k=true∧wr k id=true
  ·rw[if_pos h];exact .inr ⟨k,by omega,h.1,h.2,rfl⟩
  ·rw[if_neg h];rcases ih with h1|⟨j,h1,h2,h3,h4⟩
   ·exact .inl h1
   ·exact .inr ⟨j,by omega,h2,h3,h4⟩
theorem ado{id:Nat}(k:Nat):sJ s0 wr nb D k id=s0 id∨∃j,j<k∧wr j id=true∧sJ s0 wr nb D k id=nb j id:=by
 induction k with
 |zero=>exact .inl rfl
 |succ k ih=>
  simp only[sJ];by_cases h:D k=true∧wr k id=true
  ·rw[if_pos h];exact .inr ⟨k,by omega,h.2,rfl⟩
  ·rw[if_neg h];rcases ih with h1|⟨j,h1,h2,h3⟩
   ·exact .inl h1
   ·exact .inr ⟨j,by omega,h2,h3⟩
end
def TL(L:Nat)(f:Nat→Option cY):St:=(List.range L).map fun id=>(f id).getD .dead
theorem WQ(L:Nat)(f:Nat→Option cY):(TL L f).length=L:=by simp[TL]
theorem Vi{L:Nat}{f:Nat→Option cY}{id:Nat}(h:id<L):(TL L f)[id]? =some ((f id).getD .dead):=by simp[TL,h]
structure GS where
 a:AV
 T:List Nat
 W:List Nat
 xs:List Nat
 st2:St
section
variable {P:Program} {n n0:Nat} {lz:List Nat} {Q:QT} {fr:Fr} {st:St} {c:Code} {ops:Array Oper} {X:List Nat}
theorem iU{q r:Nat→Bool}(h:∀i,q i=true→r i=true)(o:cY)(hi:nJ q o=true):nJ r o=true:=by
 cases o with
 |box cells=>exact wE (q:=q) (r:=r) h (.ag cells) hi
 |_=>rfl
def YgP(P:Program)(n:Nat)(X:List Nat)(o:Oper)(fr:Fr)(s:GS)(st:St):Prop:=
 ∀st' ι w act,st'.length=st.length→(∀id,bq s.T id=true→st'[id]? =st[id]?)→gO (fun i=> !bq s.xs i&&(!bq X i||Nat.ble (i+1) st.length)) st'=true→km ι w st'→pT n ι w st' act fr→∀(K:Act→World→Prop) (Q:Exit→Act→World→Prop),
  (∀v w' ι',bk ι' w' (kR (bq s.W) 0 st' s.st2) v s.a→km ι' w' (kR (bq s.W) 0 st' s.st2)→cT (fun id=>bq s.xs id=false) ι w st' ι' w' (kR (bq s.W) 0 st' s.st2)→K (act.put o.dst v) w')→o.wp P act w K Q
structure N9(P:Program)(n:Nat)(ops:Array Oper)(X:List Nat)(o:Oper)(s:GS)(fr:Fr)(st:St):Prop where
 bd:∀d,o.dst=some d→d<n
 len:s.st2.length=st.length
 out:∀id,bq s.W id=false→s.st2[id]? =st[id]?
 wt:∀id,bq s.W id=true→bq s.T id=true
 xw:∀id,bq s.xs id=true→bq s.W id=true∧bq s.W (id+1000)=true∧bq X id=true
 lks:∀t∈Oper.looksAt ops o,ff (fun i=>bq s.T (i+1000)|| !bq X i) (lk fr t)=true
 ids:ff (fun i=>bq s.T (i+1000)|| !bq X i) s.a=true
 bod:∀(x:Nat) b,bq s.W x=true→s.st2[x]? =some b→nJ (fun i=> !bq X i||((bq s.T (i+1000)&& !bq s.W (i+1000))&&Nat.ble (i+1) st.length)) b=true
 run:(fx ops o (iz ops o fr)=some true∧YgP P n X o (iz ops o fr) s st)∨(fx ops o (iz ops o fr)=some false∧s.a= .tp []∧s.W=[]∧s.xs=[])
structure Rc(P:Program)(n:Nat)(ops:Array Oper)(X:List Nat)(o:Oper)(s:GS)(fr:Fr)(st:St):Prop where
 bd:∀d,o.dst=some d→d<n
 len:s.st2.length=st.length
 out:∀id,bq s.W id=false→s.st2[id]? =st[id]?
 wt:∀id,bq s.W id=true→bq s.T id=true
 xw:∀id,bq s.xs id=true→bq s.W id=true∧bq X id=true
 lks:∀t∈Oper.looksAt ops o,ff (fun i=>bq s.T i|| !bq X i) (lk fr t)=true
 ids:ff (fun i=>bq s.T i|| !bq X i) s.a=true
 bod:∀(x:Nat) b,bq s.W x=true→s.st2[x]? =some b→nJ (fun i=> !bq X i||((bq s.T i&& !bq s.W i)&&Nat.ble (i+1) st.length)) b=true
 run:(fx ops o (iz ops o fr)=some true∧YgP P n X o (iz ops o fr) s st)∨(fx ops o (iz ops o fr)=some false∧s.a= .tp []∧s.W=[]∧s.xs=[])
def yo(o:Oper)(s:GS)(fr:Fr):Fr:=Lk o.dst s.a (s9 (fun id=> !bq s.xs id) fr)
def Nx(P:Program)(n:Nat)(ops:Array Oper)(X:List Nat):List Oper→List GS→Fr→St→Prop
 |[],[],_,_=>True
 |o::l,s::ss,fr,st=>N9 P n ops X o s fr st∧Nx P n ops X l ss (yo o s fr) s.st2
 |_,_,_,_=>False
def Ej:List Oper→List GS→Fr→Fr
 |o::l,s::ss,fr=>Ej l ss (yo o s fr)
 |_,_,fr=>fr
def zb:List GS→St→St
 |s::ss,_=>zb ss s.st2
 |[],st=>st
theorem Jj:∀{l:List Oper} {ss:List GS} {fr:Fr} {st:St},Nx P n ops X l ss fr st→l.length=ss.length∧∀(i:Nat) o,l[i]? =some o→∃s,ss[i]? =some s∧N9 P n ops X o s (Ej (l.take i) (ss.take i) fr) (zb (ss.take i) st)
 |[],[],_,_,_=>⟨rfl,fun i o h=>by simp at h⟩
 |[],_::_,_,_,h=>h.elim
 |_::_,[],_,_,h=>h.elim
 |o::l,s::ss,fr,st,h=>by
  obtain⟨h1,h2⟩:=h;obtain⟨e1,e2⟩:=Jj h2;refine⟨by simp[e1],fun i o' hi=> ?_⟩;cases i with
  |zero=>simp at hi;subst hi;exact⟨s,rfl,by simpa [Ej,zb]using h1⟩
  |succ i=>
   obtain⟨s',b1,b2⟩:=e2 i o' (by simpa using hi);exact⟨s',by simpa using b1,by simpa [Ej,zb]using b2⟩
theorem Xs{o:Oper}{s:GS}{fr:Fr}{t:Nat}:lk (yo o s fr) t=if o.dst=some t then s.a else Dm (bq s.xs) (lk fr t):=by
 unfold yo;cases hd:o.dst with
 |none=>simp[Lk,Dq,Dm]
 |some d=>
  simp only[Lk,lk,eJ];by_cases e:d=t
  ·subst e;simp
  ·have hb:Nat.beq d t=false:=by cases hq:Nat.beq d t with|false=>rfl|true=>exact absurd (we hq) e
   rw[hb,cond_false,if_neg e,Dq];rfl
theorem Sp:∀(l:List Oper) (ss:List GS) (fr:Fr) (t off:Nat) (g:Nat→AV) (dst:Nat→Option Nat) (av:Nat→AV) (mv:Nat→Nat→Bool),l.length=ss.length→
  (∀i o,l[i]? =some o→dst (off+i)=o.dst)→(∀i s,ss[i]? =some s→av (off+i)=s.a∧mv (off+i)=bq s.xs)→(lk fr t=gJ g dst av mv (fun _=>true) off t)→
  lk (Ej l ss fr) t=gJ g dst av mv (fun _=>true) (off+l.length) t
 |[],[],fr,t,off,g,dst,av,mv,_,_,_,h=>by simpa [Ej]using h
 |[],_::_,_,_,_,_,_,_,_,hl,_,_,_=>by simp at hl
 |_::_,[],_,_,_,_,_,_,_,hl,_,_,_=>by simp at hl
 |o::l,s::ss,fr,t,off,g,dst,av,mv,hl,hd,ha,h=>by
  have:=Sp l ss (yo o s fr) t (off+1) g dst av mv (by simpa using hl)
   (fun i o' hi=>by have:=hd (i+1) o' (by simpa using hi);rwa [show off+(i+1)=off+1+i by omega]at this)
   (fun i s' hi=>by have:=ha (i+1) s' (by simpa using hi);rwa [show off+(i+1)=off+1+i by omega]at this) ?_
  ·simp only[Ej,List.length_cons];rw[this,show off+1+l.length=off+(l.length+1) by omega]
  ·have e1:=hd 0 o rfl;have e2:=ha 0 s rfl;simp only[Nat.add_zero]at e1 e2;rw[Xs];simp only[gJ,if_true,e1,e2.1,e2.2,h]
theorem Pg:∀(ss:List GS) (st:St) (id off:Nat) (s0:Nat→Option cY) (wr:Nat→Nat→Bool) (nb:Nat→Nat→Option cY),(∀i s,ss[i]? =some s→wr (off+i)=bq s.W∧(nb (off+i) id=s.st2[id]?))→
  (∀(i:Nat) s,ss[i]? =some s→bq s.W id=false→s.st2[id]? =(zb (ss.take i) st)[id]?)→st[id]? =sJ s0 wr nb (fun _=>true) off id→(zb ss st)[id]? =sJ s0 wr nb (fun _=>true) (off+ss.length) id
 |[],st,id,off,s0,wr,nb,_,_,h=>by simpa [zb]using h
 |s::ss,st,id,off,s0,wr,nb,ha,ho,h=>by
  have:=Pg ss s.st2 id (off+1) s0 wr nb
   (fun i s' hi=>by have:=ha (i+1) s' (by simpa using hi);rwa [show off+(i+1)=off+1+i by omega]at this)
   (fun i s' hi hw=>by have:=ho (i+1) s' (by simpa using hi) hw;simpa [zb]using this) ?_
  ·simp only[zb,List.length_cons];rw[this,show off+1+ss.length=off+(ss.length+1) by omega]
  ·have e:=ha 0 s rfl;simp only[Nat.add_zero]at e;simp only[sJ,true_and,e.1];cases hw:bq s.W id with
   |true=>simp only[if_true];exact e.2.symm
   |false=>
    simp only[Bool.false_eq_true,if_false];have:=ho 0 s rfl hw;simp only[List.take_zero,zb]at this;rw[this];exact h
def Ue(s t:GS):Bool:=s.W.any (bq t.T)||s.T.any (bq t.W)
def Rw(ops:Array Oper)(ss:List GS):Bool:=(List.range ss.length).all fun j=>(List.range j).all fun i=>
 match ss[i]?,ss[j]? with
 |some s,some t=> !Ue s t||((II ops.toList []).getD j 0).testBit i
 |_,_=>false
def VC(X:List Nat)(ss:List GS):Bool:=(List.range ss.length).all fun i=>(List.range i).all fun j=>
 match ss[j]?,ss[i]? with
 |some t,some s=>t.W.isEmpty||t.T.all fun x=>bq t.W x||(Nat.ble x 999||(!bq X (x-1000)|| !bq s.W x))
 |_,_=>false
theorem SA{s t:GS}{id:Nat}(h1:bq s.W id=true)(h2:bq t.T id=true):Ue s t=true:=by
 unfold Ue;rw[Bool.or_eq_true,List.any_eq_true];exact .inl ⟨id,gD.1 h1,h2⟩
theorem W7{s t:GS}{id:Nat}(h1:bq s.T id=true)(h2:bq t.W id=true):Ue s t=true:=by
 unfold Ue;rw[Bool.or_eq_true,List.any_eq_true,List.any_eq_true];exact .inr ⟨id,gD.1 h1,h2⟩
theorem wy{s t:St}(hl:s.length=t.length)(h:∀id,id<s.length→s[id]? =t[id]?):s=t:=by
 apply List.ext_getElem?;intro id;by_cases hid:id<s.length
 ·exact h id hid
 ·rw[List.getElem?_eq_none (by omega),List.getElem?_eq_none (by omega)]
theorem XW.drawG{id:Nat}{ss:List GS}(m:Nat)(X:List Nat)(he:c= .region id ops true)(hm:P.follows .mixedOrders=true)(hok:(Q4 ops&&Sy ops m)=true)(hcf:Rw ops ss=true)(hrf:VC X ss=true)
  (hX0:gO (fun i=> !bq X i) st=true)(hfix:∀id,bq X id=true→A2 n0 lz id=false)
  (hs:Nx P n ops X (ops.toList.take m) ss fr st)(hQ:XO P n n0 lz ops (ops.toList.drop m) Q (Ej (ops.toList.take m) ss fr) (zb ss st)):XW P n n0 lz c Q fr st:=by
 subst he;simp only[iu]at hok;obtain⟨hok,hsuf⟩:=hok;unfold Sy at hsuf;simp only[iu]at hsuf;obtain⟨hmN0,hsuf⟩:=hsuf;have hmN:=CY hmN0;have hfull0:∀j,m≤j→j<ops.size→∀i,i<j→((II ops.toList []).getD j 0).testBit i=true:=by
  intro j h1 h2 i h3;have:=List.all_eq_true.1 hsuf j (List.mem_range.2 h2);rw[Bool.or_eq_true]at this;rcases this with h|h
  ·rw[Nat.blt_eq]at h;omega
  ·exact List.all_eq_true.1 h i (List.mem_range.2 h3)
 obtain⟨hlen,hstep⟩:=Jj hs;have hms:=Iu (ops:=ops) (l:=ops.toList) (ms:=[]) (pre:=[]) (by simp) rfl (fun i j h=>by simp at h);have hord:=LG (ops:=ops) (ms:=II ops.toList []) (l:=ops.toList) (pre:=[]) (j:=0) rfl hok;have hfull:∀j,m≤j→j<ops.size→∀i,i<j→yf ops i j:=fun j h1 h2 i h3=>hms i j (by simpa using hfull0 j h1 h2 i h3)
 have hback:∀(j:Nat) o,ops[j]? =some o→∀e∈o.after,Region.binds .any e=true→e.on<j:=fun j o ho e he hb=>by
  have:=(hord j o (by simpa using ho)).1 e he hb;omega
 have hssl:ss.length=m:=by rw[←hlen];simp;omega
 let dst:Nat→Option Nat:=fun i=>(ops[i]?).bind (·.dst)
 let av:Nat→AV:=fun i=>(ss[i]?.map (·.a)).getD .j
 let mv:Nat→Nat→Bool:=fun i=>bq ((ss[i]?.map (·.xs)).getD [])
 let wr:Nat→Nat→Bool:=fun i=>bq ((ss[i]?.map (·.W)).getD [])
 let tch:Nat→Nat→Bool:=fun i=>bq ((ss[i]?.map (·.T)).getD [])
 let nb:Nat→Nat→Option cY:=fun i x=>(ss[i]?.bind fun s=>s.st2[x]?)
 let s0:Nat→Option cY:=fun x=>st[x]?
 have hdst:∀i o,ops[i]? =some o→dst i=o.dst:=fun i o h=>by simp[dst,h]
 have hav:∀i s,ss[i]? =some s→av i=s.a:=fun i s h=>by simp[av,h]
 have hmv:∀i s,ss[i]? =some s→mv i=bq s.xs:=fun i s h=>by simp[mv,h]
 have hwr:∀i s,ss[i]? =some s→wr i=bq s.W:=fun i s h=>by simp[wr,h]
 have htc:∀i s,ss[i]? =some s→tch i=bq s.T:=fun i s h=>by simp[tch,h]
 let tch2:Nat→Nat→Bool:=fun i x=>tch i (x+1000)|| !bq X x
 have htc2:∀i s,ss[i]? =some s→tch2 i=fun x=>bq s.T (x+1000)|| !bq X x:=fun i s h=>by simp only[tch2,htc i s h]
 have hnb:∀i s x,ss[i]? =some s→nb i x=s.st2[x]? :=fun i s x h=>by simp[nb,h]
 have hstepAt:∀i,i<m→∃s,ss[i]? =some s∧∃h:i<ops.size,N9 P n ops X ops[i] s (Ej ((ops.toList.take m).take i) (ss.take i) fr) (zb (ss.take i) st):=by
  intro i hi;have hiN:i<ops.size:=by omega
  obtain⟨s,h1,h2⟩:=hstep i ops[i] (by rw[List.getElem?_take,if_pos hi];simp[hiN]);exact⟨s,h1,hiN,h2⟩
 have hF_i:∀i,i≤m→∀t,lk (Ej ((ops.toList.take m).take i) (ss.take i) fr) t=gJ (lk fr) dst av mv (fun _=>true) i t:=by
  intro i hi t;have hl:((ops.toList.take m).take i).length=i:=by simp;omega
  have:=Sp ((ops.toList.take m).take i) (ss.take i) fr t 0 (lk fr) dst av mv (by rw[hl];simp;omega)
   (fun k o hk=>by
    rw[List.getElem?_take]at hk;split at hk
    ·rw[List.getElem?_take]at hk;split at hk
     ·rw[Nat.zero_add];exact hdst k o (by simpa using hk)
     ·cases hk
    ·cases hk)
   (fun k s hk=>by
    rw[List.getElem?_take]at hk;split at hk
    ·rw[Nat.zero_add];exact⟨hav k s hk,hmv k s hk⟩
    ·cases hk) rfl
  rw[hl,Nat.zero_add]at this;exact this
 have hS_i:∀i,i≤m→∀x,(zb (ss.take i) st)[x]? =sJ s0 wr nb (fun _=>true) i x:=by
  intro i hi x;have hl:(ss.take i).length=i:=by simp;omega
  have:=Pg (ss.take i) st x 0 s0 wr nb
   (fun k s hk=>by
    rw[List.getElem?_take]at hk;split at hk
    ·rw[Nat.zero_add];exact⟨hwr k s hk,hnb k s x hk⟩
    ·cases hk)
   (fun k s hk hw=>by
    rw[List.getElem?_take]at hk;split at hk
    ·rename_i hki;obtain⟨s',e1,_,e2⟩:=hstepAt k (by omega);rw[hk]at e1;cases e1;rw[List.take_take,Nat.min_eq_left (by omega)];exact e2.out x hw
    ·cases hk) rfl
  rw[hl,Nat.zero_add]at this;exact this
 have hSlen:∀i,i≤m→(zb (ss.take i) st).length=st.length:=by
  intro i;induction i with
  |zero=>intro _;simp[zb]
  |succ i ih=>
   intro hi;obtain⟨s,e1,_,e2⟩:=hstepAt i (by omega);have:zb (ss.take (i+1)) st=s.st2:=by
    have e3:ss.take (i+1)=ss.take i++[s]:=by
     rw[List.take_add_one,e1];rfl
    rw[e3];have app:∀(l:List GS) (st:St),zb (l++[s]) st=s.st2:=by
     intro l;induction l with
     |nil=>intro _;rfl
     |cons x l ih=>intro _;exact ih _
    exact app _ _
   rw[this,e2.len,ih (by omega)]
 have hconf:∀i j s t,i<j→ss[i]? =some s→ss[j]? =some t→Ue s t=true→yf ops i j:=by
  intro i j s t hij h1 h2 hc;have hj:=(tz.1 h2).1;have:=List.all_eq_true.1 (List.all_eq_true.1 hcf j (List.mem_range.2 hj)) i (List.mem_range.2 hij);rw[h1,h2]at this;simp only[hc,Bool.not_true,Bool.false_or]at this;exact hms i j this
 let sD:(Nat→Bool)→St:=fun D=>TL st.length (sJ s0 wr nb D m)
 have hsDlen:∀D,(sD D).length=st.length:=fun D=>WQ _ _
 have hsome:∀D k x,k≤m→x<st.length→∃b,sJ s0 wr nb D k x=some b:=by
  intro D k x hk hx;rcases ado (s0:=s0) (wr:=wr) (nb:=nb) (D:=D) (id:=x) k with h|⟨j,h1,h2,h3⟩
  ·rw[h];exact⟨_,dK hx⟩
  ·rw[h3];obtain⟨s,e1,_,e2⟩:=hstepAt j (by omega);rw[hnb j s x e1];have:x<s.st2.length:=by rw[e2.len,hSlen j (by omega)];exact hx
   exact⟨_,dK this⟩
 have hsDget:∀D x,x<st.length→(sD D)[x]? =sJ s0 wr nb D m x:=by
  intro D x hx;obtain⟨b,hb⟩:=hsome D m x (iO _) hx;show(TL st.length (sJ s0 wr nb D m))[x]? =_;rw[Vi hx,hb];rfl
 intro ι w a hR hF;refine wp_region_any hm ?_;have atM:∀(listed:Array Bool) (ι':IM) (w':World) (a':Act),(∀j,j<m→listed.getD j false=true)→km ι' w' (sD fun j=>listed.getD j false)→WZ n ι' w' (sD fun j=>listed.getD j false) a' (gJ (lk fr) dst av mv (fun j=>listed.getD j false) m)→cT (Of n0 lz) ι w st ι' w' (sD fun j=>listed.getD j false)→
   wpList P ops (Bz n n0 lz ι w st Q) (ops.toList.drop m) a' w':=by
  intro listed ι' w' a' hall hR' hF' hk;have gsame:∀k,k≤m→∀t,gJ (lk fr) dst av mv (fun j=>listed.getD j false) k t=gJ (lk fr) dst av mv (fun _=>true) k t:=by
   intro k;induction k with
   |zero=>intro _ _;rfl
   |succ k ih=>intro hk t;simp only[gJ,hall k (by omega),if_true,ih (by omega)]
  have ssame:∀k,k≤m→∀x,sJ s0 wr nb (fun j=>listed.getD j false) k x=sJ s0 wr nb (fun _=>true) k x:=by
   intro k;induction k with
   |zero=>intro _ _;rfl
   |succ k ih=>intro hk x;simp only[sJ,hall k (by omega),true_and,ih (by omega)]
  have hst:(sD fun j=>listed.getD j false)=zb ss st:=by
   have hlS:=hSlen m (iO _);rw[List.take_of_length_le (by omega)]at hlS;refine wy (by rw[hsDlen,hlS]) (fun x hx=> ?_);rw[hsDlen]at hx;have h1:=hS_i m (iO _) x;rw[List.take_of_length_le (by omega)]at h1;rw[hsDget _ x hx,ssame m (iO _),h1]
  rw[hst]at hR' hF' hk;have hFm:pT n ι' w' (zb ss st) a' (Ej (ops.toList.take m) ss fr):=by
   refine⟨hF'.defers,hF'.size,fun t=> ?_⟩;have h1:=hF_i m (iO _) t;rw[List.take_of_length_le (l:=ops.toList.take m) (by simp;omega),List.take_of_length_le (l:=ss) (by omega)]at h1;rw[h1,←gsame m (iO _)];exact hF'.slot t
  exact iE (fun e a w h=>h.trans hk) (hQ ι' w' a' hR' hFm)
 have fin:∀{listed:Array Bool} (ι':IM) (w':World) (a':Act),(∀j,j<m→listed.getD j false=true)→km ι' w' (sD fun j=>listed.getD j false)→WZ n ι' w' (sD fun j=>listed.getD j false) a' (gJ (lk fr) dst av mv (fun j=>listed.getD j false) m)→cT (Of n0 lz) ι w st ι' w' (sD fun j=>listed.getD j false)→
   ops.toList.drop m=[]→Bz n n0 lz ι w st Q .normal a' w':=by
  intro listed ι' w' a' hall hR' hF' hk he;have:=atM listed ι' w' a' hall hR' hF' hk;rw[he]at this;exact this
 have key:∀(nf:Nat) (listed:Array Bool) (ι':IM) (w':World) (a':Act),listed.size=ops.size→
   (∀j o,ops[j]? =some o→listed.getD j false=true→∀e∈o.after,Region.binds .any e=true→listed.getD e.on false=true)→
   ((List.range ops.size).filter fun j=> !listed.getD j false).length≤nf→
   (∀j,m≤j→listed.getD j false=false)→km ι' w' (sD fun j=>listed.getD j false)→WZ n ι' w' (sD fun j=>listed.getD j false) a' (gJ (lk fr) dst av mv (fun j=>listed.getD j false) m)→cT (Of n0 lz) ι w st ι' w' (sD fun j=>listed.getD j false)→
   wpAny P .any ops (Bz n n0 lz ι w st Q) nf listed a' w':=by
  intro nf;induction nf with
  |zero=>
   intro listed ι' w' a' hls hcl hcnt hlow hR' hF' hk;have hall:∀j,j<ops.size→listed.getD j false=true:=by
    intro j hj;cases hq:listed.getD j false with
    |true=>rfl
    |false=>
     have:j∈(List.range ops.size).filter fun j=> !listed.getD j false:=by
      rw[List.mem_filter];exact⟨List.mem_range.2 hj,by simp only[hq];rfl⟩
     have:=List.length_pos_of_mem this;omega
   have hready:Region.ready .any ops listed=[]:=by
    unfold Region.ready;rw[List.filter_eq_nil_iff];intro j hj;have hj':=List.mem_range.1 hj;have:listed.getD j true=true:=by
     have h1:=hall j hj';simp[Array.getD,hls,hj']at h1⊢;exact h1
    simp only[this];simp
   refine⟨hready,?_⟩;have hmE:m=ops.size:=by
    apply Classical.byContradiction;intro h;have h1:=hall m (by omega);rw[hlow m (iO _)]at h1;cases h1
   exact fin ι' w' a' (fun j hj=>hall j (by omega)) hR' hF' hk (by rw[hmE];simp)
  |succ nf ih=>
   intro listed ι' w' a' hls hcl hcnt hlow hR' hF' hk;refine⟨fun hready=> ?_,fun i hi=> ?_⟩
   ·
    have hall:∀j,j<ops.size→listed.getD j false=true:=by
     intro j;induction j using Nat.strongRecOn with
     |_ j ihj=>
      intro hj;cases hq:listed.getD j false with
      |true=>rfl
      |false=>
       exfalso;have hmem:j∈Region.ready .any ops listed:=by
        unfold Region.ready;rw[List.mem_filter];refine⟨List.mem_range.2 hj,?_⟩;have ho:ops[j]? =some ops[j]:=Array.getElem?_eq_getElem hj;have h1:listed.getD j true=false:=by
         simp[Array.getD,hls,hj]at hq⊢;exact hq
        rw[h1,ho];simp only[Bool.not_false,Bool.true_and,Option.map_some,Option.getD_some];rw[Array.all_eq_true_iff_forall_mem];intro e he;cases hb:Region.binds .any e with
        |false=>rfl
        |true=>
         have hlt:e.on<j:=hback j _ ho e he hb;rw[ihj e.on hlt (by omega)];simp
       rw[hready]at hmem;cases hmem
    have hmE:m=ops.size:=by
     apply Classical.byContradiction;intro h;have h1:=hall m (by omega);rw[hlow m (iO _)]at h1;cases h1
    exact fin ι' w' a' (fun j hj=>hall j (by omega)) hR' hF' hk (by rw[hmE];simp)
   ·
    have hi0:=hi;unfold Region.ready at hi;rw[List.mem_filter]at hi;obtain⟨hi1,hi2⟩:=hi;have hiN:=List.mem_range.1 hi1;have ho:ops[i]? =some ops[i]:=Array.getElem?_eq_getElem hiN;rw[ho]at hi2;simp only[Option.map_some,Option.getD_some,iu]at hi2;have hnl:listed.getD i false=false:=by
     have:=hi2.1;simp[Array.getD,hls,hiN]at this⊢;exact this
    have hpred:∀e∈ops[i].after,Region.binds .any e=true→listed.getD e.on false=true:=by
     intro e he hb;have:=Array.all_eq_true_iff_forall_mem.1 hi2.2 e he;simpa [hb]using this
    have closed:∀p q,yf ops p q→listed.getD q false=true→listed.getD p false=true:=by
     intro p q hbe;induction hbe with
     |one ho' he hb h=>intro hq;subst h;exact hcl _ _ ho' hq _ he hb
     |more ho' he hb h ihb=>intro hq;exact ihb (hcl _ _ ho' hq _ he hb)
    have ahead:∀p,yf ops p i→listed.getD p false=true:=by
     intro p hbe;cases hbe with
     |one ho' he hb h=>rw[ho]at ho';cases ho';subst h;exact hpred _ he hb
     |more ho' he hb h=>rw[ho]at ho';cases ho';exact closed p _ h (hpred _ he hb)
    have late:∀q,yf ops i q→listed.getD q false=false:=by
     intro q hbe;cases hq:listed.getD q false with
     |false=>rfl
     |true=>rw[closed i q hbe hq]at hnl;cases hnl
    by_cases hmi:m≤i
    ·
     have hbel:∀j,j<i→listed.getD j false=true:=fun j hj=>ahead j (hfull i hmi hiN j hj)
     have hallm:∀j,j<m→listed.getD j false=true:=fun j hj=>hbel j (by omega)
     have hlm:∀j,j<ops.size→(listed.getD j false=true↔j<m):=by
      intro j hj;refine⟨fun h=> ?_,fun h=>hallm j h⟩;apply Classical.byContradiction;intro h2;rw[hlow j (by omega)]at h;cases h
     have hcount:ops.size≤m+(nf+1):=by
      have e1:((List.range ops.size).filter fun j=> !listed.getD j false)=(List.range ops.size).filter fun j=> !decide (j<m):=by
       apply List.filter_congr;intro j hj;have:=hlm j (List.mem_range.1 hj);by_cases h:j<m
       ·simp only[this.2 h,h,decide_true]
       ·have h3:listed.getD j false=false:=hlow j (by omega);simp only[h3,h,decide_false]
      rw[e1,ND _ hmN]at hcnt;omega
     have hser:=U1 (P:=P) (Q:=Bz n n0 lz ι w st Q) hfull hback (nf+1) m listed a' w' (iO _) hmN hls hlm hcount (atM listed ι' w' a' hallm hR' hF' hk);exact hser.2 i hi0
    have hmi':i<m:=by omega
    have touch1:∀j o,j<i→ops[j]? =some o→Oper.apart ops o ops[i]=false→listed.getD j false=true:=by
     intro j o hj hoj hap;have:=(hord i ops[i] (by simp[hiN])).2 j o (by omega) (by simpa using hoj);rcases this with h1|h1
     ·rw[h1]at hap;cases hap
     ·exact ahead j (hms j i (by simpa using h1))
    have touch2:∀j o,i<j→ops[j]? =some o→Oper.apart ops ops[i] o=false→listed.getD j false=false:=by
     intro j o hj hoj hap;have hjN:j<ops.size:=(Array.getElem?_eq_some_iff.1 hoj).1;have:=(hord j o (by simpa using hoj)).2 i ops[i] (by omega) (by simp[hiN]);rcases this with h1|h1
     ·rw[h1]at hap;cases hap
     ·exact late j (hms i j (by simpa using h1))
    obtain⟨s,hsi,_,hG⟩:=hstepAt i hmi'
    have obj1:∀j,j<i→listed.getD j false=false→∀x,wr j x=true→tch i x=false:=by
     intro j hj hnj x hw;cases ht:tch i x with
     |false=>rfl
     |true=>
      obtain⟨t,htj,_,_⟩:=hstepAt j (by omega);rw[hwr j t htj]at hw;rw[htc i s hsi]at ht;have:=ahead j (hconf j i t s hj htj hsi (SA hw ht));rw[hnj]at this;cases this
    have obj2:∀j,i<j→j<m→listed.getD j false=true→(∀x,wr j x=true→tch i x=false)∧(∀x,wr i x=true→tch j x=false):=by
     intro j hj hjm hlj;obtain⟨t,htj,_,_⟩:=hstepAt j hjm;refine⟨fun x hw=> ?_,fun x hw=> ?_⟩
     ·cases ht:tch i x with
      |false=>rfl
      |true=>
       rw[hwr j t htj]at hw;rw[htc i s hsi]at ht;have:=late j (hconf i j s t hj hsi htj (W7 ht hw));rw[hlj]at this;cases this
     ·cases ht:tch j x with
      |false=>rfl
      |true=>
       rw[hwr i s hsi]at hw;rw[htc j t htj]at ht;have:=late j (hconf i j s t hj hsi htj (SA hw ht));rw[hlj]at this;cases this
    have mvwr:∀j,j<m→∀x,mv j x=true→wr j x=true:=by
     intro j hj x hx;obtain⟨t,htj,_,hGt⟩:=hstepAt j hj;rw[hmv j t htj]at hx;rw[hwr j t htj];exact(hGt.xw x hx).1
    have hids:gO (fun k=> !bq s.xs k&&(!bq X k||Nat.ble (k+1) (zb (ss.take i) st).length)) (sD fun j=>listed.getD j false)=true:=by
     have all:∀(q:Nat→Bool) (l:St),(∀(j:Nat) o,l[j]? =some o→nJ q o=true)→gO q l=true:=by
      intro q l;induction l with
      |nil=>intro _;rfl
      |cons b l ih=>
       intro h;simp only[gO,iu];exact⟨h 0 b rfl,ih (fun j o hj=>h (j+1) o (by simpa using hj))⟩
     refine all _ _ (fun x o ho=> ?_);have hx:x<st.length:=by rw[←hsDlen fun j=>listed.getD j false];exact(tz.1 ho).1
     rw[hsDget _ x hx]at ho;rcases Z2 (s0:=s0) (wr:=wr) (nb:=nb) (D:=fun j=>listed.getD j false) (id:=x) m with h|⟨j,h1,h2,h3,h4⟩
     ·rw[h]at ho;refine iU (fun k hk=> ?_) o (nD hX0 x o ho);rw[hk,Bool.true_or,Bool.and_true];cases hxs:bq s.xs k with
      |false=>rfl
      |true=>rw[(hG.xw k hxs).2.2]at hk;cases hk
     ·rw[h4]at ho;obtain⟨t,htj,_,hGt⟩:=hstepAt j h1;rw[hnb j t x htj]at ho;have hwx:bq t.W x=true:=by rw[hwr j t htj]at h3;exact h3
      refine iU (fun k hk=> ?_) o (hGt.bod x o hwx ho);have hlen2:(zb (ss.take j) st).length=(zb (ss.take i) st).length:=by rw[hSlen j (by omega),hSlen i (by omega)]
      rw[hlen2]at hk;rw[iu];constructor
      ·cases hxs:bq s.xs k with
       |false=>rfl
       |true=>
        exfalso;obtain⟨_,hW,hXk⟩:=hG.xw k hxs;rw[hXk]at hk;simp only[Bool.not_true,Bool.false_or,iu]at hk;obtain⟨⟨hTk,hWk⟩,_⟩:=hk;rcases Nat.lt_trichotomy i j with hij|hij|hij
        ·have:=(obj2 j hij h1 h2).2 (k+1000) (by rw[hwr i s hsi];exact hW);rw[htc j t htj,hTk]at this;cases this
        ·subst hij;have h2':listed.getD i false=true:=h2;rw[hnl]at h2';cases h2'
        ·have hr:=List.all_eq_true.1 (List.all_eq_true.1 hrf i (List.mem_range.2 (by rw[hssl];exact hmi'))) j (List.mem_range.2 hij);rw[htj,hsi]at hr;simp only[Bool.or_eq_true]at hr;rcases hr with hr|hr
         ·have:t.W=[]:=by simpa using hr
          rw[this]at hwx;simp[bq]at hwx
         ·have:=List.all_eq_true.1 hr (k+1000) (gD.1 hTk);rw[Nat.add_sub_cancel,hXk,hW,show Nat.ble (k+1000) 999=false by
           cases hb:Nat.ble (k+1000) 999 with
           |false=>rfl
           |true=>have:=CY hb;omega]at this
          simp only[Bool.not_true,Bool.or_false]at this;rw[this]at hWk;cases hWk
      ·rw[Bool.or_eq_true]at hk⊢;rcases hk with hk|hk
       ·exact .inl hk
       ·rw[iu]at hk;exact .inr hk.2
    have mvwr2:∀j,j<m→∀x,mv j x=true→wr j (x+1000)=true:=by
     intro j hj x hx;obtain⟨t,htj,_,hGt⟩:=hstepAt j hj;rw[hmv j t htj]at hx;rw[hwr j t htj];exact(hGt.xw x hx).2.1
    have tof:∀i j x,j<m→mv j x=true→tch i (x+1000)=false→tch2 i x=false:=by
     intro i j x hj hx h;obtain⟨t,htj,_,ht⟩:=hstepAt j hj;rw[hmv j t htj]at hx;show(tch i (x+1000)|| !bq X x)=false;rw[h,(ht.xw x hx).2.2];rfl
    have wrtc:∀j,j<m→∀x,wr j x=true→tch j x=true:=by
     intro j hj x hx;obtain⟨t,htj,_,hGt⟩:=hstepAt j hj;rw[hwr j t htj]at hx;rw[htc j t htj];exact hGt.wt x hx
    have hdi:dst i=ops[i].dst:=hdst i ops[i] ho;have dstof:∀j t,dst j=some t→∃o,ops[j]? =some o∧o.dst=some t:=by
     intro j t hd;simp only[dst]at hd;cases hq:ops[j]? with
     |none=>simp[hq]at hd
     |some o=>exact⟨o,rfl,by simpa [hq]using hd⟩
    have hFi:pT n ι' w' (sD fun j=>listed.getD j false) a' (iz ops ops[i] (Ej ((ops.toList.take m).take i) (ss.take i) fr)):=by
     refine⟨hF'.defers,hF'.size,fun t=> ?_⟩;unfold iz;have lkr:lk (R5 (Oper.looksAt ops ops[i]) (lk (Ej ((ops.toList.take m).take i) (ss.take i) fr))) t= .j∨(t∈Oper.looksAt ops ops[i]∧lk (R5 (Oper.looksAt ops ops[i]) (lk (Ej ((ops.toList.take m).take i) (ss.take i) fr))) t=lk (Ej ((ops.toList.take m).take i) (ss.take i) fr) t):=by
      generalize Oper.looksAt ops ops[i]=ts;induction ts with
      |nil=>exact .inl rfl
      |cons x l ihl=>
       simp only[R5,List.map_cons,lk];cases hb:Nat.beq x t with
       |true=>have:=we hb;subst this;exact .inr ⟨by simp,rfl⟩
       |false=>
        rcases ihl with h|⟨h1,h2⟩
        ·exact .inl h
        ·exact .inr ⟨by simp[h1],h2⟩
     rcases lkr with h|⟨ht,h⟩
     ·rw[h];exact .j _
     ·rw[h,hF_i i (by omega) t];have hT:ff (tch2 i) (gJ (lk fr) dst av mv (fun _=>true) i t)=true:=by
       rw[←hF_i i (by omega) t,htc2 i s hsi];exact hG.lks t ht
      have:=Xp (fr0:=lk fr) (dst:=dst) (av:=av) (mv:=mv) (tch:=tch2) (D:=fun j=>listed.getD j false) (i:=i) (N:=m) (t:=t) hmi' hnl hT
       (fun j hj hnj hd=>by
        obtain⟨o,ho',hdo⟩:=dstof j t hd;have:=touch1 j o hj ho' (by
         cases hap:Oper.apart ops o ops[i]with
         |false=>rfl
         |true=>exact absurd ht ((Oper.apart_spec hap).1 t hdo))
        rw[hnj]at this;cases this)
       (fun j hj hjm hlj=>by
        refine⟨fun hd=> ?_,fun x hx=>tof i j x hjm hx ((obj2 j hj hjm hlj).1 (x+1000) (mvwr2 j hjm x hx))⟩;obtain⟨o,ho',hdo⟩:=dstof j t hd;have:=touch2 j o hj ho' (by
         cases hap:Oper.apart ops ops[i] o with
         |false=>rfl
         |true=>exact absurd ht ((Oper.apart_spec hap).2.2 t hdo))
        rw[hlj]at this;cases this)
      rcases this with e|e
      ·rw[e];exact .j _
      ·rw[←e];exact hF'.slot t
    have hset:∀j,(listed.setIfInBounds i true).getD j false=if j=i then true else listed.getD j false:=by
     intro j;by_cases e:j=i
     ·subst e;simp[Array.getD,hls,hiN]
     ·by_cases hj:j<listed.size
      ·simp[Array.getD,hj,e,Array.getElem_setIfInBounds_ne,Ne.symm e]
      ·simp[Array.getD,hj,e]
    have hset':(fun j=>(listed.setIfInBounds i true).getD j false)=fun j=>if j=i then true else listed.getD j false:=funext hset
    have hSt:sD (fun j=>if j=i then true else listed.getD j false)=kR (bq s.W) 0 (sD fun j=>listed.getD j false) s.st2:=by
     have hl2:s.st2.length=st.length:=by rw[hG.len,hSlen i (by omega)]
     have hle:(sD fun j=>listed.getD j false).length≤s.st2.length:=by rw[hsDlen,hl2];exact iO _
     refine wy (by rw[hsDlen,eX _ _ _ hle,hl2]) (fun x hx=> ?_);rw[hsDlen]at hx;rw[hsDget _ x hx,iD _ _ _ _ hle,Nat.zero_add,hsDlen,hsDget _ x hx];have hp:=aaX (s0:=s0) (wr:=wr) (nb:=nb) (D:=fun j=>listed.getD j false) (i:=i) (N:=m) (id:=x) hmi' hnl
      (fun j hj hjm hlj hwi=>by
       cases hwj:wr j x with
       |false=>rfl
       |true=>
        have h1:=(obj2 j hj hjm hlj).2 x hwi;rw[wrtc j hjm x hwj]at h1;cases h1)
     rw[hp,hwr i s hsi,hnb i s x hsi];cases hw:bq s.W x with
     |true=>simp[hx]
     |false=>simp[hx]
    have next:∀v w'' ι'',bk ι'' w'' (kR (bq s.W) 0 (sD fun j=>listed.getD j false) s.st2) v s.a→km ι'' w'' (kR (bq s.W) 0 (sD fun j=>listed.getD j false) s.st2)→
      cT (fun id=>bq s.xs id=false) ι' w' (sD fun j=>listed.getD j false) ι'' w'' (kR (bq s.W) 0 (sD fun j=>listed.getD j false) s.st2)→
      wpAny P .any ops (Bz n n0 lz ι w st Q) nf (listed.setIfInBounds i true) (a'.put ops[i].dst v) w'':=by
     intro v w'' ι'' hv hR'' hk'';rw[←hSt]at hv hR'' hk'';refine ih _ ι'' w'' _ (by simpa using hls) ?_ ?_ (fun j hj=>by rw[hset,if_neg (by omega)];exact hlow j hj) (by rw[hset'];exact hR'') ?_ (by
      rw[hset'];refine hk.trans (hk''.weaken (fun x hx=> ?_));cases hxx:bq s.xs x with
      |false=>rfl
      |true=>
       have:=hfix x (hG.xw x hxx).2.2;rw[show A2 n0 lz x=true from hx]at this;cases this)
     ·intro j o hoj hj e he hb;rw[hset]at hj⊢;by_cases e1:e.on=i
      ·rw[if_pos e1]
      ·rw[if_neg e1];by_cases e2:j=i
       ·subst e2;rw[ho]at hoj;cases hoj;exact hpred e he hb
       ·rw[if_neg e2]at hj;exact hcl j o hoj hj e he hb
     ·have:=Uh (N:=ops.size) (i:=i) (D:=fun j=>listed.getD j false) hiN hnl;simp only[hset];omega
     ·rw[hset'];refine⟨?_,?_,fun t=> ?_⟩
      ·cases hq:ops[i].dst<;>simp[Act.put,hF'.defers]
      ·cases hq:ops[i].dst<;>simp[Act.put,hF'.size]
      ·have hp:=abc (fr0:=lk fr) (dst:=dst) (av:=av) (mv:=mv) (tch:=tch2) (D:=fun j=>listed.getD j false) (i:=i) (N:=m) (t:=t) hmi' hnl (by rw[hav i s hsi,htc2 i s hsi];exact hG.ids)
        (fun k hk1 hk2 hk3=>by
         obtain⟨tt,e1,_,e2⟩:=hstepAt k hk2;rw[hav k tt e1,htc2 k tt e1];exact e2.ids)
        (fun j hj hjm hlj=>by
         refine⟨fun d hd hdj=> ?_,fun x hx=>tof i j x hjm hx ((obj2 j hj hjm hlj).1 (x+1000) (mvwr2 j hjm x hx)),fun x hx=>tof j i x hmi' hx ((obj2 j hj hjm hlj).2 (x+1000) (mvwr2 i hmi' x hx))⟩;obtain⟨o,ho',hdo⟩:=dstof j d hdj;have:=touch2 j o hj ho' (by
          cases hap:Oper.apart ops ops[i] o with
          |false=>rfl
          |true=>exact absurd hdo ((Oper.apart_spec hap).2.1 d (hdi▸hd)))
         rw[hlj]at this;cases this)
       rw[hp];by_cases hdt:dst i=some t
       ·rw[if_pos hdt,hav i s hsi];rw[hdi]at hdt;have hlt:=hG.bd t hdt;have e3:(a'.put ops[i].dst v).tmps.getD t undef=v:=by
         rw[hdt];simp[Act.put,hF'.size,hlt]
        rw[e3];exact hv
       ·rw[if_neg hdt,hmv i s hsi];have e3:(a'.put ops[i].dst v).tmps.getD t undef=a'.tmps.getD t undef:=by
         cases hq:ops[i].dst with
         |none=>rfl
         |some d=>
          have:d≠t:=by rintro rfl;exact hdt (hdi.trans hq)
          simp[Act.put,this]
        rw[e3];unfold Dm;cases hid:ff (fun id=> !bq s.xs id) (gJ (lk fr) dst av mv (fun j=>listed.getD j false) m t)with
        |false=>exact .j _
        |true=>exact(hF'.slot t).mono hk'' (q:=fun id=> !bq s.xs id) (fun x hx _=>by simpa using hx) hid
    unfold wpOp;rw[ho];simp only;rcases hG.run with⟨hg,hy⟩ |⟨hg,e1,e2,e3⟩
    ·have hw:=gj hg hFi;rw[if_pos hw];refine .inl (hy (sD fun j=>listed.getD j false) ι' w' a' (by rw[hsDlen,hSlen i (by omega)]) (fun x hx=> ?_) hids hR' hFi _ _ next);by_cases hxl:x<st.length
     ·rw[hsDget _ x hxl,hS_i i (by omega) x];refine Yu (D:=fun j=>listed.getD j false) hmi' hnl (fun j hj hnj=> ?_) (fun j hj hjm hlj=> ?_)
      ·cases hwj:wr j x with
       |false=>rfl
       |true=>
        have:=obj1 j hj hnj x hwj;rw[htc i s hsi,hx]at this;cases this
      ·cases hwj:wr j x with
       |false=>rfl
       |true=>
        have:=(obj2 j hj hjm hlj).1 x hwj;rw[htc i s hsi,hx]at this;cases this
     ·rw[List.getElem?_eq_none (by rw[hsDlen];omega),List.getElem?_eq_none (by rw[hSlen i (by omega)];omega)]
    ·have hw:=gj hg hFi;rw[if_neg (by rw[hw];simp)];have hov:kR (bq s.W) 0 (sD fun j=>listed.getD j false) s.st2=sD fun j=>listed.getD j false:=by
      have hl2:s.st2.length=st.length:=by rw[hG.len,hSlen i (by omega)]
      have hle:(sD fun j=>listed.getD j false).length≤s.st2.length:=by rw[hsDlen,hl2];exact iO _
      refine wy (by rw[eX _ _ _ hle,hl2,hsDlen]) (fun x hx=> ?_);rw[eX _ _ _ hle,hl2]at hx;rw[iD _ _ _ _ hle,hsDlen,e2];simp[bq,hx]
     have:=next undef w' ι' (by rw[e1];exact Ie) (by rw[hov];exact hR') (by rw[hov];exact .refl)
     exact this
 have h0:(sD fun j=>(Array.replicate ops.size false).getD j false)=st:=by
  refine wy (hsDlen _) (fun x hx=> ?_);rw[hsDlen]at hx;rw[hsDget _ x hx];have:∀k,sJ s0 wr nb (fun j=>(Array.replicate ops.size false).getD j false) k x=s0 x:=by
   intro k;induction k with
   |zero=>rfl
   |succ k ih=>
    simp only[sJ];rw[if_neg (by simp[Array.getD]),ih]
  exact this m
 refine key ops.size _ ι {w with drawn:=w.drawn+1} a (by simp) ?_ ?_ (fun j _=>by simp[Array.getD]) (by rw[h0];exact hR.ext (xS.drew w)) ?_ (by rw[h0];exact((xS.drew w).keeps ι st).weaken (fun _ _=>trivial))
 ·intro j o ho hj;simp[Array.getD]at hj
 ·refine Nat.le_trans (List.length_filter_le _ _) (by simp)
 ·rw[h0];refine⟨hF.defers,hF.size,fun t=> ?_⟩;have:∀k,gJ (lk fr) dst av mv (fun j=>(Array.replicate ops.size false).getD j false) k t=lk fr t:=by
   intro k;induction k with
   |zero=>rfl
   |succ k ih=>
    simp only[gJ];rw[if_neg (by simp[Array.getD]),ih]
  rw[this m];exact(hF.slot t).mono' ((xS.drew w).keeps ι st)
end
section
variable {P:Program} {n n0:Nat} {lz an:List Nat} {Q:QT} {fr:Fr} {st:St} {c:Code} {ops:Array Oper} {X:List Nat}
def Fv:cY→Bool
 | .dead=>true
 |_=>false
def D2(T:Nat→Bool):Nat→St→Bool
 |_,[]=>true
 |i,b::l=>(T i||Fv b)&&D2 T (i+1) l
theorem AD{T:Nat→Bool}:∀{st:St} {i:Nat},D2 T i st=true→∀j,j<st.length→T (i+j)=false→st[j]? =some .dead
 |[],i,_,j,hj,_=>by simp at hj
 |b::l,i,h,j,hj,hT=>by
  simp only[D2,iu,Bool.or_eq_true]at h;cases j with
  |zero=>
   rw[Nat.add_zero]at hT;rcases h.1 with h1|h1
   ·rw[h1]at hT;cases hT
   ·cases b<;>simp[Fv]at h1⊢
  |succ j=>
   have:=AD h.2 j (by simpa using hj) (by rw[show i+1+j=i+(j+1) by omega];exact hT);simpa using this
theorem Ss{T:Nat→Bool}{st st':St}(hl:st'.length=st.length)(h:∀id,T id=true→st'[id]? =st[id]?):oy T 0 st'=oy T 0 st:=by
 refine wy (by rw[jY,jY,hl]) (fun id hid=> ?_);rw[sq,sq,Nat.zero_add];rw[jY]at hid;cases hT:T id with
 |true=>rw[h id hT]
 |false=>
  rw[dK (by omega),dK (show id<st.length by omega)];rfl
theorem XX{T:Nat→Bool}{a b m:St}(h1:a.length=b.length)(h2:b.length≤m.length):kR T 0 a (kR T 0 b m)=kR T 0 a m:=by
 refine wy (by rw[eX _ _ _ (by rw[eX _ _ _ h2];omega),eX _ _ _ h2,eX _ _ _ (by omega)]) (fun id hid=> ?_);rw[iD _ _ _ _ (by rw[eX _ _ _ h2];omega),iD _ _ _ _ h2,iD _ _ _ _ (by omega),Nat.zero_add,h1];by_cases hc:id<b.length∧T id=false
 ·simp[hc]
 ·simp[hc]
theorem V1{T:Nat→Bool}{a:St}:kR T 0 a (oy T 0 a)=a:=by
 refine wy (by rw[eX _ _ _ (by rw[jY];exact iO _),jY]) (fun id hid=> ?_);rw[iD _ _ _ _ (by rw[jY];exact iO _),sq,Nat.zero_add];rw[eX _ _ _ (by rw[jY];exact iO _),jY]at hid;cases hT:T id with
 |true=>
  rw[dK hid];simp
 |false=>simp[hid]
theorem RS{a b:St}(h:a.length=b.length):kR (bq []) 0 a b=a:=by
 refine wy (by rw[eX _ _ _ (by omega),h]) (fun id hid=> ?_);rw[eX _ _ _ (by omega)]at hid;rw[iD _ _ _ _ (by omega)];simp[bq,h,hid]
theorem Jt{mu:Bool}{o:Oper}{hs:HS}{out:El}{T:List Nat}(xs:List Nat)(h:ev P mu o fr (oy (bq T) 0 st) hs=some out)(hob:nw out.ob)(hlen:st.length≤out.st.length)(hmv:∀m,out.mv=some m→bq T m=true∧bq xs m=true)
  (hdead:∀id,id<st.length→bq T id=false→out.st[id]? =some .dead){st':St}{ι:IM}{w:World}{act:Act}(hl:st'.length=st.length)(hT:∀id,bq T id=true→st'[id]? =st[id]?)(hX:gO (fun i=> !bq xs i) st'=true)
  (hR:km ι w st')(hF:pT n ι w st' act fr):
  ∃v w' ι',(((execOp act.eval o).run P w= .ok (.value v) w')∨((execOp act.eval o).run P w= .ok .skip w'∧v=undef))∧km ι' w' (kR (bq T) 0 st' out.st)∧bk ι' w' (kR (bq T) 0 st' out.st) v out.av∧
   cT (fun id=>pe out.mv id=true) ι w st' ι' w' (kR (bq T) 0 st' out.st):=by
 rw[←Ss hl hT]at h;have hRm:=hR.mask (bq T);have hFm:pT n (aside (bq T) ι st') w (oy (bq T) 0 st') act fr:=
  ⟨hF.defers,hF.size,fun t=>(hF.slot t).chg (fun b hb=>FR.1 hb) (by rw[jY];exact iO _) (fun _=>rfl)⟩
 obtain⟨v,w',ι2,hrun,hR2,hv,k⟩:=FL h hob hRm hFm;obtain⟨r1,m1,k1⟩:=hR.unmask (T:=bq T) (by rw[hl];exact hlen) hR2 k
  (fun id hTf _=>by
   unfold pe;cases hm:out.mv with
   |none=>rfl
   |some m=>
    have:id≠m:=by rintro rfl;rw[(hmv id hm).1]at hTf;cases hTf
    simp only[Bool.not_eq_true'];cases hb:Nat.beq id m with
    |false=>rfl
    |true=>exact absurd (we hb) this)
  (fun id o ho _=>iU (fun i hi=>by
   unfold pe;cases hm:out.mv with
   |none=>rfl
   |some m=>
    have:i≠m:=by rintro rfl;simp[(hmv i hm).2]at hi
    simp only[Bool.not_eq_true'];cases hb:Nat.beq i m with
    |false=>rfl
    |true=>exact absurd (we hb) this) o (nD hX id o ho))
  (fun id hid hTf=>hdead id (by omega) hTf)
 exact⟨v,w',⟨ι2.m,ι.amb⟩,hrun,r1,hv.chg m1 (by rw[eX _ _ _ (by rw[hl];exact hlen)];exact iO _) (fun _=>rfl),k1⟩
theorem Hk{o:Oper}{act:Act}{w w':World}{v:Value}{K:Act→World→Prop}{Q:Exit→Act→World→Prop}(h:((execOp act.eval o).run P w= .ok (.value v) w')∨((execOp act.eval o).run P w= .ok .skip w'∧v=undef))(hK:K (act.put o.dst v) w'):o.wp P act w K Q:=by
 rcases h with h|⟨h,rfl⟩<;>simp only[Oper.wp,h,Oper.upon]<;>exact hK
def UG:CV→List Nat
 | .pv _=>[]
 | .pt id _ _ _=>[id]
 | .mp id=>[id]
 | .cl _=>[]
 | .sl id _ _ _=>[id]
 | .fn _ caps=>go caps
 where
 go:List CV→List Nat
  |[]=>[]
  |c::l=>UG c++go l
def V5:List CV→List Nat
 |[]=>[]
 |c::l=>UG c++V5 l
def Zp:AV→List Nat
 | .j=>[]
 | .one c=>UG c
 | .ag cs=>V5 cs
 | .tp vs=>go vs
 where
 go:List AV→List Nat
  |[]=>[]
  |a::l=>Zp a++go l
def cV(ops:Array Oper)(o:Oper)(fr:Fr):List Nat:=(Oper.looksAt ops o).flatMap fun t=>Zp (lk fr t)
def If(ops:Array Oper)(o:Oper)(fr:Fr)(T:List Nat):Bool:=(Oper.looksAt ops o).all fun t=>ff (bq T) (lk fr t)
def ym(n:Nat)(o:Oper):Bool:=match o.dst with
 |some d=>Nat.ble (d+1) n
 |none=>true
theorem BB{o:Oper}(h:ym n o=true):∀d,o.dst=some d→d<n:=by
 intro d hd;unfold ym at h;rw[hd]at h;exact CY h
theorem Yg{T:List Nat}{a:AV}(h:ff (bq T) a=true):ff (fun i=>bq T i|| !bq X i) a=true:=wE (fun i hi=>by rw[hi];rfl) a h
theorem Ft{o:Oper}{T:List Nat}(h:If ops o fr T=true):∀t∈Oper.looksAt ops o,ff (fun i=>bq T i|| !bq X i) (lk fr t)=true:=fun t ht=>Yg (List.all_eq_true.1 h t ht)
def SN(X T:List Nat):List Nat:=(T.filter (bq X)).map (·+1000)
def yx(X T:List Nat):List Nat:=T++SN X T
theorem tW{a b:List Nat}{i:Nat}:bq (a++b) i=(bq a i||bq b i):=by simp[bq]
theorem MA{X T:List Nat}{i:Nat}(h1:bq T i=true)(h2:bq X i=true):bq (SN X T) (i+1000)=true:=
 gD.2 (List.mem_map.2 ⟨i,List.mem_filter.2 ⟨gD.1 h1,h2⟩,rfl⟩)
theorem Nd{l:List Nat}{i:Nat}(h:i<1000):bq (l.map (·+1000)) i=false:=by
 cases hb:bq (l.map (·+1000)) i with
 |false=>rfl
 |true=>obtain⟨j,_,e⟩:=List.mem_map.1 (gD.1 hb);omega
theorem OO{l:List Nat}{i:Nat}:bq (l.map (·+1000)) (i+1000)=bq l i:=by
 cases hb:bq l i with
 |true=>exact gD.2 (List.mem_map.2 ⟨i,gD.1 hb,rfl⟩)
 |false=>
  cases hc:bq (l.map (·+1000)) (i+1000)with
  |false=>rfl
  |true=>
   obtain⟨j,h1,e⟩:=List.mem_map.1 (gD.1 hc);have:j=i:=by omega
   subst this;rw[gD.2 h1]at hb;cases hb
def Ug(st:St)(T:List Nat):Bool:=Nat.ble st.length 1000&&T.all (fun x=>Nat.ble (x+1) 1000)
theorem U4{W V:List Nat}{a m:St}(h1:a.length≤m.length)(h2:a.length≤1000)(h3:m.length=a.length):kR (bq (W++V.map (·+1000))) 0 a m=kR (bq W) 0 a m:=by
 refine wy (by rw[eX _ _ _ h1,eX _ _ _ h1]) (fun id hid=> ?_);rw[eX _ _ _ h1]at hid;have y1:(kR (bq (W++V.map (·+1000))) 0 a m)[id]? =if id<a.length∧bq (W++V.map (·+1000)) id=false then a[id]? else m[id]? :=by rw[iD _ _ _ _ h1,Nat.zero_add]
 have y2:(kR (bq W) 0 a m)[id]? =if id<a.length∧bq W id=false then a[id]? else m[id]? :=by rw[iD _ _ _ _ h1,Nat.zero_add]
 rw[y1,y2,tW,Nd (show id<1000 by omega),Bool.or_false]
theorem Rc.up{o:Oper}{s:GS}(h:Rc P n ops X o s fr st)(hq:Ug st s.T=true):N9 P n ops X o ⟨s.a,yx X s.T,s.W++s.xs.map (·+1000),s.xs,s.st2⟩ fr st:=by
 unfold Ug at hq;rw[iu]at hq;have hl:=CY hq.1;have hT:∀i,bq s.T i=true→i<1000:=fun i hi=>CY (List.all_eq_true.1 hq.2 i (gD.1 hi))
 have wk:∀i,(bq s.T i|| !bq X i)=true→(bq (yx X s.T) (i+1000)|| !bq X i)=true:=by
  intro i hi;cases hx:bq X i with
  |false=>simp
  |true=>
   rw[hx]at hi;simp only[Bool.not_true,Bool.or_false]at hi⊢;unfold yx;rw[tW,MA hi hx,Bool.or_true]
 refine⟨h.bd,h.len,fun id hid=>h.out id ?_,fun id hid=> ?_,fun id hid=> ?_,fun t ht=>wE wk _ (h.lks t ht),wE wk _ h.ids,fun x b hx hb=> ?_,?_⟩
 ·show bq s.W id=false;have hid':bq (s.W++s.xs.map (·+1000)) id=false:=hid;rw[tW,Bool.or_eq_false_iff]at hid';exact hid'.1
 ·have hid':bq (s.W++s.xs.map (·+1000)) id=true:=hid;show bq (yx X s.T) id=true;unfold yx;rw[tW,Bool.or_eq_true]at hid';rw[tW,Bool.or_eq_true];rcases hid' with h1|h1
  ·exact .inl (h.wt id h1)
  ·obtain⟨j,hj,rfl⟩:=List.mem_map.1 (gD.1 h1);obtain⟨h2,h3⟩:=h.xw j (gD.2 hj);exact .inr (MA (h.wt j h2) h3)
 ·obtain⟨h2,h3⟩:=h.xw id hid;refine⟨?_,?_,h3⟩
  ·show bq (s.W++s.xs.map (·+1000)) id=true;rw[tW,h2,Bool.true_or]
  ·show bq (s.W++s.xs.map (·+1000)) (id+1000)=true;have hid':bq s.xs id=true:=hid;rw[tW,OO,hid',Bool.or_true]
 ·have hx':bq (s.W++s.xs.map (·+1000)) x=true:=hx;have hxl:x<1000:=by
   have h1:=(tz.1 hb).1;have h2:=h.len;have h3:x<s.st2.length:=h1;omega
  rw[tW,Nd hxl,Bool.or_false]at hx';refine iU (fun i hi=> ?_) b (h.bod x b hx' hb);show(!bq X i||((bq (yx X s.T) (i+1000)&& !bq (s.W++s.xs.map (·+1000)) (i+1000))&&Nat.ble (i+1) st.length))=true;cases hX:bq X i with
  |false=>rfl
  |true=>
   rw[hX]at hi;simp only[Bool.not_true,Bool.false_or,iu]at hi⊢;obtain⟨⟨i1,i2⟩,i3⟩:=hi;refine⟨⟨?_,?_⟩,i3⟩
   ·unfold yx;rw[tW,MA i1 hX,Bool.or_true]
   ·rw[tW,OO];have w1:bq s.W (i+1000)=false:=by
     cases hw:bq s.W (i+1000)with
     |false=>rfl
     |true=>have:=hT _ (h.wt _ hw);omega
    have w2:bq s.xs i=false:=by
     cases hw:bq s.xs i with
     |false=>rfl
     |true=>rw[(h.xw i hw).1]at i2;cases i2
    rw[w1,w2];rfl
 ·rcases h.run with⟨hg,hy⟩ |⟨hg,e1,e2,e3⟩
  ·refine .inl ⟨hg,?_⟩;intro st' ι w act hl' hT' hX hR hF K Q hK;refine hy st' ι w act hl' (fun id hid=>hT' id (by show bq (yx X s.T) id=true;unfold yx;rw[tW,hid,Bool.true_or])) hX hR hF K Q ?_;have hlen:=h.len;have e:kR (bq (s.W++s.xs.map (·+1000))) 0 st' s.st2=kR (bq s.W) 0 st' s.st2:=U4 (by omega) (by omega) (by omega);intro v w' ι' q1 q2 q3;exact hK v w' ι' (by show bk _ _ (kR (bq (s.W++s.xs.map (·+1000))) 0 st' s.st2) _ _;rw[e];exact q1) (by show km _ _ (kR (bq (s.W++s.xs.map (·+1000))) 0 st' s.st2);rw[e];exact q2) (by show cT _ _ _ _ _ _ (kR (bq (s.W++s.xs.map (·+1000))) 0 st' s.st2);rw[e];exact q3)
  ·exact .inr ⟨hg,e1,by show s.W++s.xs.map (·+1000)=[];rw[e2,e3];rfl,e3⟩
def aeM:Op→Bool
 | .move _| .assign _| .pick .. | .nilCheck _| .fieldAddr .. | .field .. | .extract .. | .build .. | .makeFunc .. | .binOp .. | .unOp .. | .indexAddr .. =>true
 | .call ⟨.builtin .len,_,_⟩=>true
 |_=>false
def zZ(ops:Array Oper)(X:List Nat)(o:Oper)(fr:Fr):List Nat:=bif aeM o.op then SN X (cV ops o fr)else yx X (cV ops o fr)
def B6(ops:Array Oper)(X:List Nat)(o:Oper)(fr:Fr)(T:List Nat):Bool:=(Oper.looksAt ops o).all fun t=>ff (fun i=>bq T (i+1000)|| !bq X i) (lk fr t)
theorem DI{o:Oper}{T:List Nat}(h:B6 ops X o fr T=true):∀t∈Oper.looksAt ops o,ff (fun i=>bq T (i+1000)|| !bq X i) (lk fr t)=true:=fun t ht=>List.all_eq_true.1 h t ht
def GX(P:Program)(n:Nat)(ops:Array Oper)(X:List Nat)(l:List Oper)(tw:List (List Nat×List Nat))(fr:Fr)(st:St)(fr':Fr)(st':St):Prop:=
 ∃ss,Nx P n ops X l ss fr st∧ss.map (fun s=>(s.T,s.W))=tw∧Ej l ss fr=fr'∧zb ss st=st'
theorem GX.done{l:List Oper}(he:l=[]):GX P n ops X l [] fr st fr st:=by
 subst he;exact⟨[],trivial,rfl,rfl,rfl⟩
theorem GX.cons{o:Oper}{l:List Oper}{tw:List (List Nat×List Nat)}{s:GS}{fr2:Fr}{st2:St}(h:N9 P n ops X o s fr st)(hk:GX P n ops X l tw (yo o s fr) s.st2 fr2 st2):GX P n ops X (o::l) ((s.T,s.W)::tw) fr st fr2 st2:=by
 obtain⟨ss,h1,h2,h3,h4⟩:=hk;exact⟨s::ss,⟨h,h1⟩,by simp[h2],h3,h4⟩
theorem GX.cons0{o:Oper}{l:List Oper}{tw:List (List Nat×List Nat)}{s:GS}{fr2:Fr}{st2:St}(hq:Ug st s.T=true)(h:Rc P n ops X o s fr st)(hk:GX P n ops X l tw (yo o s fr) s.st2 fr2 st2):
 GX P n ops X (o::l) ((yx X s.T,s.W++s.xs.map (·+1000))::tw) fr st fr2 st2:=GX.cons (h.up hq) hk
def aac(s t:List Nat×List Nat):Bool:=s.2.any (bq t.1)||s.1.any (bq t.2)
def Ml(ops:Array Oper)(tw:List (List Nat×List Nat)):Bool:=(List.range tw.length).all fun j=>(List.range j).all fun i=>
 match tw[i]?,tw[j]? with
 |some s,some t=> !aac s t||((II ops.toList []).getD j 0).testBit i
 |_,_=>false
def QL(X:List Nat)(tw:List (List Nat×List Nat)):Bool:=(List.range tw.length).all fun i=>(List.range i).all fun j=>
 match tw[j]?,tw[i]? with
 |some t,some s=>t.2.isEmpty||t.1.all fun x=>bq t.2 x||(Nat.ble x 999||(!bq X (x-1000)|| !bq s.2 x))
 |_,_=>false
def MJ(n0:Nat)(lz X:List Nat):Bool:=X.all fun id=> !A2 n0 lz id
theorem XW.drwG(m:Nat)(X:List Nat)(tw:List (List Nat×List Nat))(fr':Fr)(st':St)(he:RG c=some true)
  (hm:(((Q4 (EZ c)&&Sy (EZ c) m)&&P.follows .mixedOrders)&&(((Ml (EZ c) tw&&QL X tw)&&gO (fun i=> !bq X i) st)&&MJ n0 lz X))=true)
  (hs:GX P n (EZ c) X ((EZ c).toList.take m) tw fr st fr' st')(hk:XO P n n0 lz (EZ c) ((EZ c).toList.drop m) Q fr' st'):XW P n n0 lz c Q fr st:=by
 obtain⟨ss,h1,h2,h3,h4⟩:=hs;cases c<;>simp only[RG]at he<;>try (cases he;done)
 simp only[eJ]at he;subst he;simp only[iu]at hm;obtain⟨⟨⟨d1,d2⟩,d3⟩,⟨⟨d4,d7⟩,d5⟩,d6⟩:=hm;refine XW.drawG m X rfl d3 (by rw[iu];exact⟨d1,d2⟩) ?_ ?_ d5 (fun id hid=> ?_) h1 (by subst h3;subst h4;exact hk)
 ·subst h2;unfold Rw;unfold Ml at d4;rw[List.length_map]at d4;rw[List.all_eq_true]at d4⊢;intro j hj;have:=d4 j hj;rw[List.all_eq_true]at this⊢;intro i hi;have h5:=this i hi;rw[List.getElem?_map,List.getElem?_map]at h5;cases e1:ss[i]? with
  |none=>rw[e1]at h5;simp at h5
  |some s=>
   cases e2:ss[j]? with
   |none=>rw[e1,e2]at h5;simp at h5
   |some t=>
    rw[e1,e2]at h5;exact h5
 ·subst h2;unfold VC;unfold QL at d7;rw[List.length_map]at d7;rw[List.all_eq_true]at d7⊢;intro j hj;have:=d7 j hj;rw[List.all_eq_true]at this⊢;intro i hi;have h5:=this i hi;rw[List.getElem?_map,List.getElem?_map]at h5;cases e1:ss[i]? with
  |none=>rw[e1]at h5;simp at h5
  |some s=>
   cases e2:ss[j]? with
   |none=>rw[e1,e2]at h5;simp at h5
   |some t=>
    rw[e1,e2]at h5;exact h5
 ·have:=List.all_eq_true.1 d6 id (gD.1 hid);simpa using this
def Og:List Oper→Option Oper
 |o::_=>some o
 |[]=>none
theorem FW{l:List Oper}{o:Oper}(h:Og l=some o):l=o::l.drop 1:=by
 cases l with
 |nil=>cases h
 |cons x l=>simp[Og]at h;subst h;rfl
theorem DD{q:Nat→Bool}:∀{l:St},(∀(j:Nat) o,l[j]? =some o→nJ q o=true)→gO q l=true
 |[],_=>rfl
 |b::l,h=>by
  simp only[gO,iu];exact⟨h 0 b rfl,DD (fun j o hj=>h (j+1) o (by simpa using hj))⟩
theorem Ru{xs:List Nat}{q:Nat→Bool}{st:St}(h:gO (fun i=> !bq xs i&&q i) st=true):gO (fun i=> !bq xs i) st=true:=
 DD (fun j o hj=>iU (fun i hi=>by rw[iu]at hi;exact hi.1) o (nD h j o hj))
theorem Wk{st2:St}{q:Nat→Bool}{W:List Nat}(h:gO (fun i=> !bq X i) st2=true):∀(x:Nat) b,bq W x=true→st2[x]? =some b→nJ (fun i=> !bq X i||q i) b=true:=
 fun x b _ hb=>iU (fun i hi=>by rw[hi];rfl) b (nD h x b hb)
def af3(P:Program)(n:Nat)(ops:Array Oper)(X:List Nat)(l:List Oper)(fr:Fr)(st:St)(hs:HS):Option (AV×List Nat×List Prop×HS):=
 match Og l with
 |some o=>
  bif ym n o&&tR o.op then
   match fx ops o (iz ops o fr)with
   |some true=>
    match ev P false o (iz ops o fr) (oy (bq (zZ ops X o fr)) 0 st) hs with
    |some out=>bif B6 ops X o fr (zZ ops X o fr)&&ff (fun i=>bq (zZ ops X o fr) (i+1000)|| !bq X i) out.av then some (out.av,zZ ops X o fr,out.ob,out.hs)else none
    |none=>none
   |some false=>bif B6 ops X o fr (zZ ops X o fr)then some (.tp [],zZ ops X o fr,[],hs)else none
   |none=>none
  else none
 |none=>none
def Pw(mv:Option Nat)(T X:List Nat):Bool:=match mv with
 |some m=>bq T m&&bq X m
 |none=>true
theorem Tk{mv:Option Nat}{T X:List Nat}(h:Pw mv T X=true):∀m,mv=some m→bq T m=true∧bq X m=true:=by
 rintro m rfl;simpa [Pw]using h
def Zc(n:Nat)(ops:Array Oper)(X:List Nat)(o:Oper)(fr:Fr)(st:St)(T:List Nat)(out:El):Bool:=
 ((ym n o&&Nat.beq out.st.length st.length)&&(If ops o fr T&&ff (bq T) out.av))&&((D2 (bq T) 0 out.st&&gO (fun i=> !bq X i) (kR (bq T) 0 st out.st))&&Pw out.mv T X)
def evW(P:Program)(n:Nat)(ops:Array Oper)(X:List Nat)(l:List Oper)(fr:Fr)(st:St)(hs:HS):Option (Fr×List Nat×List Nat×St×List Prop):=
 match Og l with
 |some o=>
  match fx ops o (iz ops o fr)with
  |some true=>
   match ev P false o (iz ops o fr) (oy (bq (cV ops o fr)) 0 st) hs with
   |some out=>
    bif Zc n ops X o fr st (cV ops o fr) out then
     some (yo o ⟨out.av,cV ops o fr,cV ops o fr,out.mv.toList,kR (bq (cV ops o fr)) 0 st out.st⟩ fr,cV ops o fr,out.mv.toList,kR (bq (cV ops o fr)) 0 st out.st,out.ob)
    else none
   |none=>none
  |_=>none
 |none=>none
theorem GX.wr{l:List Oper}{tw2:List (List Nat×List Nat)}{fr2:Fr}{st2:St}(hs:HS)(fr':Fr)(T xs:List Nat)(st':St)(ob:List Prop)(h:evW P n ops X l fr st hs=some (fr',T,xs,st',ob))(hob:nw ob)(hq:Ug st T=true)
  (hk:GX P n ops X (l.drop 1) tw2 fr' st' fr2 st2):GX P n ops X l ((yx X T,T++xs.map (·+1000))::tw2) fr st fr2 st2:=by
 unfold evW at h;split at h
 ·rename_i o ho;split at h
  ·rename_i hg;split at h
   ·rename_i out hev;cases hc:Zc n ops X o fr st (cV ops o fr) out with
    |false=>rw[hc]at h;cases h
    |true=>
     rw[hc]at h;simp only[cond_true,eJ,sT]at h;obtain⟨rfl,rfl,rfl,rfl,rfl⟩:=h;unfold Zc at hc;simp only[iu]at hc;obtain⟨⟨⟨c1,c2⟩,c3,c4⟩,⟨c5,c6⟩,c7⟩:=hc;have hlen:=we c2;rw[FW ho];refine GX.cons0 (s:=⟨out.av,cV ops o fr,cV ops o fr,out.mv.toList,kR (bq (cV ops o fr)) 0 st out.st⟩) hq ?_ hk;have hmvv:=Tk c7;refine⟨BB c1,by rw[eX _ _ _ (by omega)];exact hlen,fun id hw=> ?_,fun id h=>h,fun id h=> ?_,Ft c3,Yg c4,Wk c6,.inl ⟨hg,?_⟩⟩
     ·show(kR (bq (cV ops o fr)) 0 st out.st)[id]? =st[id]?;have hw':bq (cV ops o fr) id=false:=hw;rw[iD _ _ _ _ (by omega),Nat.zero_add];by_cases hid:id<st.length
      ·simp[hid,hw']
      ·rw[if_neg (fun h=>hid h.1),List.getElem?_eq_none (by omega),List.getElem?_eq_none (by omega)]
     ·have:=gD.1 h;simp only[Option.mem_toList]at this;exact hmvv id this
     ·intro st' ι w act hl hT hX hR hF K Q hK;obtain⟨v,w',ι',hrun,r1,r2,r3⟩:=Jt out.mv.toList hev hob (by omega) (fun m hm=>⟨(hmvv m hm).1,gD.2 (by simp[hm])⟩) (fun id hid hTf=>AD c5 id (by omega) (by rw[Nat.zero_add];exact hTf)) hl hT (Ru hX) hR hF;have e:kR (bq (cV ops o fr)) 0 st' (kR (bq (cV ops o fr)) 0 st out.st)=kR (bq (cV ops o fr)) 0 st' out.st:=XX hl (by omega);refine Hk hrun (hK v w' ι' (by rw[e];exact r2) (by rw[e];exact r1) (by
       rw[e];refine r3.weaken (fun id hid=> ?_);unfold pe;cases hm:out.mv with
       |none=>rfl
       |some m=>
        simp only[Bool.not_eq_true'];cases hb:Nat.beq id m with
        |false=>rfl
        |true=>
         have:=we hb;subst this;have hx:bq out.mv.toList id=true:=gD.2 (by simp[hm]);have hid':bq out.mv.toList id=false:=hid;rw[hx]at hid';cases hid'))
   ·cases h
  ·cases h
 ·cases h
def X8(n:Nat)(ops:Array Oper)(X:List Nat)(id:Nat)(o:Oper)(fr:Fr)(st:St)(T:List Nat)(out:El)(b:cY):Bool:=
 (((ym n o&&Nat.beq out.st.length (st.length+1))&&(If ops o fr (id::T)&&ff (bq (id::T)) (Aj (KB st.length id) out.av)))&&((D2 (bq T) 0 (out.st.take st.length)&&ff (fun i=> !Nat.beq i id) out.av)&&Pw out.mv [] X))&&
 (((Fv ((st[id]?).getD (.box []))&&Fv ((out.st[id]?).getD (.box [])))&&(bq X id&&bq X st.length))&&gO (fun i=> !bq X i) ((kR (bq T) 0 st (out.st.take st.length)).set id b)&&nJ (fun i=> !bq X i) b)&& !bq T id
def evN(P:Program)(n:Nat)(ops:Array Oper)(X:List Nat)(mu:Bool)(id:Nat)(l:List Oper)(fr:Fr)(st:St)(hs:HS):Option (Fr×List Nat×St×List Prop):=
 match Og l with
 |some o=>
  match fx ops o (iz ops o fr)with
  |some true=>
   match ev P mu o (iz ops o fr) (oy (bq (cV ops o fr)) 0 st) hs with
   |some out=>
    match out.st.drop st.length with
    |[b]=>
     bif X8 n ops X id o fr st (cV ops o fr) out b then
      some (yo o ⟨Aj (KB st.length id) out.av,id::cV ops o fr,id::cV ops o fr,[id],(kR (bq (cV ops o fr)) 0 st (out.st.take st.length)).set id b⟩ fr,id::cV ops o fr,(kR (bq (cV ops o fr)) 0 st (out.st.take st.length)).set id b,out.ob)
     else none
    |_=>none
   |none=>none
  |_=>none
 |none=>none
theorem Rn{T:Nat→Bool}{b:cY}:∀(a m:St) (i:Nat),a.length=m.length→kR T i a (m++[b])=kR T i a m++[b]
 |[],[],i,_=>by simp[kR]
 |[],_::_,i,h=>by simp at h
 |_::_,[],i,h=>by simp at h
 |x::l,y::m,i,h=>by simp only[List.cons_append,kR];rw[Rn l m (i+1) (by simpa using h)]
theorem JD{o:Option cY}(h:Fv (o.getD (.box []))=true):o=some .dead:=by
 cases o with
 |none=>simp[Fv]at h
 |some b=>cases b<;>simp[Fv]at h⊢
theorem GX.new{l:List Oper}{tw2:List (List Nat×List Nat)}{fr2:Fr}{st2:St}(mu:Bool)(id:Nat)(hs:HS)(fr':Fr)(T:List Nat)(st':St)(ob:List Prop)(h:evN P n ops X mu id l fr st hs=some (fr',T,st',ob))(hob:nw ob)(hq:Ug st T=true)
  (hk:GX P n ops X (l.drop 1) tw2 fr' st' fr2 st2):GX P n ops X l ((yx X T,T++[id+1000])::tw2) fr st fr2 st2:=by
 unfold evN at h;split at h
 ·rename_i o ho;split at h
  ·rename_i hg;split at h
   ·rename_i out hev;split at h
    ·rename_i b hb;cases hc:X8 n ops X id o fr st (cV ops o fr) out b with
     |false=>rw[hc]at h;cases h
     |true=>
      rw[hc]at h;simp only[cond_true,eJ,sT]at h;obtain⟨rfl,rfl,rfl,rfl⟩:=h;unfold X8 at hc;simp only[iu]at hc;obtain⟨⟨⟨⟨⟨c1,c2⟩,⟨c3,c4⟩⟩,⟨⟨c5,c6⟩,c7⟩⟩,⟨⟨⟨⟨c8,c8'⟩,⟨c9,c10⟩⟩,c11⟩,c12⟩⟩,c13⟩:=hc;generalize hT:cV ops o fr=T at*;have hlen:=we c2;have hout:out.st=out.st.take st.length++[b]:=by rw[←hb,List.take_append_drop]
      generalize hm:out.st.take st.length=m at*;have hml:m.length=st.length:=by rw[←hm];simp;omega
      have hmv:out.mv=none:=by
       cases hq:out.mv with
       |none=>rfl
       |some x=>rw[hq]at c7;simp[Pw,bq]at c7
      have hTid:bq T id=false:=by simpa using c13
      have hdead:=JD c8;have hid:id<st.length:=(tz.1 hdead).1;rw[FW ho];refine GX.cons0 (s:=⟨Aj (KB st.length id) out.av,id::T,id::T,[id],(kR (bq T) 0 st m).set id b⟩) hq ?_ hk;have hcons:∀x,bq (id::T) x=(Nat.beq x id||bq T x):=fun x=>rfl
      have hne:∀x,bq (id::T) x=false→x≠id∧bq T x=false:=by
       intro x hx;rw[hcons,Bool.or_eq_false_iff]at hx;exact⟨by rintro rfl;simp at hx,hx.2⟩
      refine⟨BB c1,by rw[List.length_set,eX _ _ _ (by omega)];exact hml,fun x hw=> ?_,fun x h=>h,fun x h=> ?_,Ft c3,Yg c4,Wk c11,.inl ⟨hg,?_⟩⟩
      ·obtain⟨h1,h2⟩:=hne x hw;show((kR (bq T) 0 st m).set id b)[x]? =st[x]?;rw[List.getElem?_set,if_neg (fun e=>h1 e.symm),iD _ _ _ _ (by omega),Nat.zero_add];by_cases hx:x<st.length
       ·simp[hx,h2]
       ·rw[if_neg (fun h=>hx h.1),List.getElem?_eq_none (by omega),List.getElem?_eq_none (by omega)]
      ·have:x=id:=by have:=gD.1 h;simpa using this
       subst this;refine⟨?_,c9⟩;show bq (x::T) x=true;rw[hcons,Nat.beq_refl];rfl
      ·intro st' ι w act hl hT' hX hR hF K Q hK;have hTT:∀x,bq T x=true→st'[x]? =st[x]? :=fun x hx=>hT' x (by rw[hcons,hx,Bool.or_true])
       obtain⟨v,w',ι1,hrun,r1,r2,r3⟩:=Jt [] hev hob (by omega) (fun x hx=>by rw[hmv]at hx;cases hx)
        (fun x hx hTf=>by
         have:=AD c5 x (by omega) (by rw[Nat.zero_add];exact hTf);rw[hout,E2 (by omega)];exact this) hl hTT (DD (fun j o _=>iU (q:=fun _=>true) (fun i _=>by simp[bq]) o (by cases o<;>first|rfl|exact wM _))) hR hF
       have hml':st'.length=m.length:=by omega
       rw[hout,Rn _ _ _ hml']at r1 r2 r3;have hlo:(kR (bq T) 0 st' m).length=st.length:=by rw[eX _ _ _ (by omega)];exact hml
       have hdd:(kR (bq T) 0 st' m)[id]? =some .dead:=by
        rw[iD _ _ _ _ (by omega),Nat.zero_add,if_pos ⟨by omega,hTid⟩,hT' id (by rw[hcons,Nat.beq_refl];rfl)];exact hdead
       have mono2:∀i,(!bq [id] i&&(!bq X i||Nat.ble (i+1) st.length))=true→(!Nat.beq i id&& !Nat.beq i (kR (bq T) 0 st' m).length)=true:=by
        intro i hi;rw[hlo];rw[iu,Bool.or_eq_true]at hi;have h1:i≠id:=by rintro rfl;have:=hi.1;simp[bq]at this
        have h2:i≠st.length:=by
         rintro rfl;rcases hi.2 with h|h
         ·rw[c10]at h;cases h
         ·have:=CY h;omega
        rw[iu,Bool.not_eq_true',Bool.not_eq_true'];constructor
        ·cases hb:Nat.beq i id with
         |false=>rfl
         |true=>exact absurd (we hb) h1
        ·cases hb:Nat.beq i st.length with
         |false=>rfl
         |true=>exact absurd (we hb) h2
       have mono:∀i,(!bq X i)=true→(!Nat.beq i id&& !Nat.beq i (kR (bq T) 0 st' m).length)=true:=by
        intro i hi;rw[hlo];have h1:i≠id:=by rintro rfl;rw[c9]at hi;cases hi
        have h2:i≠st.length:=by rintro rfl;rw[c10]at hi;cases hi
        rw[iu,Bool.not_eq_true',Bool.not_eq_true'];constructor
        ·cases hb:Nat.beq i id with
         |false=>rfl
         |true=>exact absurd (we hb) h1
        ·cases hb:Nat.beq i st.length with
         |false=>rfl
         |true=>exact absurd (we hb) h2
       have hids:gO (fun i=> !Nat.beq i id&& !Nat.beq i (kR (bq T) 0 st' m).length) (kR (bq T) 0 st' m++[b])=true:=by
        refine DD (fun j o' hj=> ?_);by_cases hjl:j<st.length
        ·rw[E2 (by omega),iD _ _ _ _ (by omega),Nat.zero_add]at hj;split at hj
         ·exact iU mono2 o' (nD hX j o' hj)
         ·rename_i hnn;have hTj:bq T j=true:=by
           cases hq:bq T j with
           |true=>rfl
           |false=>exact absurd ⟨by omega,hq⟩ hnn
          have hji:j≠id:=by rintro rfl;rw[hTid]at hTj;cases hTj
          refine iU mono o' (nD c11 j o' ?_);rw[List.getElem?_set,if_neg (fun e=>hji e.symm),iD _ _ _ _ (by omega),Nat.zero_add,if_neg (by rw[hTj];simp)];exact hj
        ·rw[List.getElem?_append_right (by omega),hlo]at hj;have:j-st.length=0:=by
          have:=(tz.1 hj).1;simp at this;omega
         rw[this]at hj;simp at hj;subst hj;exact iU mono _ c12
       obtain⟨s1,s2,s3⟩:=r1.revive hdd hids;have r2':=r2.revive (by omega) s2 c6;rw[hlo]at r2' s1 s3;have efin:(kR (bq T) 0 st' m).set id b=kR (bq (id::T)) 0 st' ((kR (bq T) 0 st m).set id b):=by
        have hle:st'.length≤((kR (bq T) 0 st m).set id b).length:=by rw[List.length_set,eX _ _ _ (by omega)];omega
        refine wy (by rw[List.length_set,eX _ _ _ hle,List.length_set,eX _ _ _ (by omega),eX _ _ _ (by omega)]) (fun x hx=> ?_);rw[List.length_set,hlo]at hx;rw[iD _ _ _ _ hle,Nat.zero_add,hcons];by_cases hxi:x=id
        ·subst hxi;rw[Nat.beq_refl,List.getElem?_set,if_pos rfl,if_pos (by omega)];simp only[Bool.true_or,Bool.true_eq_false,and_false,if_false];rw[List.getElem?_set,if_pos rfl,if_pos (by rw[eX _ _ _ (by omega)];omega)]
        ·have hbx:Nat.beq x id=false:=by cases hq:Nat.beq x id with|false=>rfl|true=>exact absurd (we hq) hxi
         have hset:∀q:St,(q.set id b)[x]? =q[x]? :=fun q=>by rw[List.getElem?_set,if_neg (fun e=>hxi e.symm)]
         rw[hbx,Bool.false_or,hset,hset,iD _ _ _ _ (by omega),iD _ _ _ _ (by omega),Nat.zero_add];cases hTx:bq T x with
         |false=>simp[hl,hx]
         |true=>simp
       have kk:=(r3.weaken (fix':=fun i=>i≠id∧i≠st.length) (fun i _=>by rw[hmv];rfl)).trans s3;refine Hk hrun (hK v w' _ (by show bk _ _ (kR (bq (id::T)) 0 st' ((kR (bq T) 0 st m).set id b)) v _;rw[←efin];exact r2') (by show km _ _ (kR (bq (id::T)) 0 st' ((kR (bq T) 0 st m).set id b));rw[←efin];exact s1) (by
        show cT _ _ _ _ _ _ (kR (bq (id::T)) 0 st' ((kR (bq T) 0 st m).set id b));rw[←efin];refine⟨kk.os,kk.tape,kk.output,kk.size,kk.amb,kk.blk,fun x hx hxl=> ?_,kk.shp⟩;refine kk.map x ⟨?_,by omega⟩ hxl;rintro rfl;have:bq [x] x=false:=hx;simp[bq]at this))
    ·cases h
   ·cases h
  ·cases h
 ·cases h
end
section
variable {P:Program} {n n0:Nat} {lz an:List Nat} {Q:QT} {fr:Fr} {st:St} {c:Code} {ops:Array Oper} {X:List Nat} {l:List Oper} {tw:List (List Nat×List Nat)} {fr2:Fr} {st2:St}
theorem GX.ext{tw2:List (List Nat×List Nat)}(g:Nat)(vs us:List Value)(fr1:Fr)(T:List Nat)(hc:VP P n ops l fr=some (g,vs))(h:TM P g vs (.tuple us.toArray))(hp:us.all xx=true)
  (hT:(match Og l with|some o=>B6 ops X o fr T&&ym n o|none=>false)=true)(hput:(match Og l with|some o=>Lk o.dst (Xm us) (s9 (fun id=> !bq [] id) fr) |none=>fr)=fr1)
  (hk:GX P n ops X (l.drop 1) tw2 fr1 st fr2 st2):GX P n ops X l ((T,[])::tw2) fr st fr2 st2:=by
 cases ho:Og l with
 |none=>rw[ho]at hT;cases hT
 |some o=>
  rw[ho]at hT hput;have hT2:(B6 ops X o fr T&&ym n o)=true:=hT;rw[iu]at hT2;have hput2:Lk o.dst (Xm us) (s9 (fun id=> !bq [] id) fr)=fr1:=hput;subst hput2;have hl:=FW ho;rw[hl]at hc⊢;simp only[VP]at hc;split at hc
  ·rename_i hg;have hcall:JR P o (iz ops o fr)=some (g,vs):=by
    have h2:=hT2.2;unfold ym at h2;cases hdd:o.dst with
    |none=>simpa [hdd]using hc
    |some d=>
     rw[hdd]at h2;have h3:Nat.ble (d+1) n=true:=h2;simpa [hdd,h3]using hc
   have hra:ff (fun i=>bq T (i+1000)|| !bq X i) (Xm us)=true:=by
    unfold Xm;simp only[ff];clear hp h hk hput;induction us with
    |nil=>rfl
    |cons u us ih=>simp only[List.map_cons,ff.go,ff,uD,Bool.true_and];exact ih
   refine GX.cons (s:=⟨Xm us,T,[],[],st⟩) ⟨BB hT2.2,rfl,fun _ _=>rfl,fun id h=>by simp[bq]at h,fun id h=>by simp[bq]at h,DI hT2.1,hra,fun x b h=>by simp[bq]at h,.inl ⟨hg,?_⟩⟩ hk;intro st' ι w act hl' hT' hX' hR hF K Q hK;have e2:kR (bq ([]:List Nat)) 0 st' st=st':=RS hl';have hrun:=LV hcall h hF (w:=w);simp only[Oper.wp,hrun,Oper.upon];exact hK _ w ι (by rw[e2];exact IZ hp) (by rw[e2];exact hR) (by rw[e2];exact .refl)
  ·simp at hc
theorem X5{T W:List Nat}(h:tw.head? =some (T,W)):tw=(T,W)::tw.drop 1:=by
 cases tw with
 |nil=>cases h
 |cons x l=>simp at h;subst h;rfl
theorem zf.dead(k:Nat):zf n n0 lz fr st fr (st++List.replicate k .dead):=by
 intro ι w a hR hF;have hget:∀(id:Nat) (o:cY),(st++List.replicate k cY.dead)[id]? =some o→o.alive→st[id]? =some o:=by
  intro id o h ha;by_cases hid:id<st.length
  ·rwa [E2 hid]at h
  ·rw[List.getElem?_append_right (by omega),List.getElem?_replicate]at h;split at h
   ·cases h;exact absurd rfl ha
   ·cases h
 have own1:∀b,CC ι (st++List.replicate k .dead) b→CC ι st b:=by
  rintro b ⟨id,o,h1,h2,h3⟩;exact⟨id,o,hget id o h1 h2,h2,h3⟩
 have mut1:∀b,o5 ι (st++List.replicate k .dead) b→o5 ι st b:=fun b h=>h.elim .inl (fun h=> .inr (own1 b h))
 have hl:st.length≤(st++List.replicate k cY.dead).length:=by simp
 refine⟨ι,⟨fun id o ho=> ?_,hR.amb,fun b hb=>hR.dis b (own1 b hb),fun id id' o o' b h1 h2 a1 a2 e1 e2=>hR.inj id id' o o' b (hget id o h1 a1) (hget id' o' h2 a2) a1 a2 e1 e2,fun b o h=>⟨fun hm=>(hR.gl b o h).1 (mut1 b hm),(hR.gl b o h).2⟩⟩,
  ⟨hF.defers,hF.size,fun t=>(hF.slot t).chg mut1 hl (fun _=>rfl)⟩,⟨rfl,rfl,rfl,iO _,rfl,fun b _ hno=>⟨rfl,fun h=>hno (own1 b h)⟩,fun id _ hid=>⟨by omega,rfl⟩,fun _ c _ _ h=>⟨c,h,rfl⟩⟩⟩
 by_cases ha:o= .dead
 ·subst ha;trivial
 ·exact(hR.obj id o (hget id o ho ha)).chg mut1 hl (fun _=>rfl)
def wb(W:List Nat)(st:St):List Nat:=W.flatMap fun x=>match(st[x]? :Option cY)with
 |some (cY.box cells)=>V5 cells
 |_=>[]
def sOk(n:Nat)(ops:Array Oper)(X W:List Nat)(o:Oper)(fr:Fr)(st:St)(T:List Nat)(out:El):Bool:=
 ((ym n o&&Nat.beq out.st.length st.length)&&(B6 ops X o fr T&&ff (fun i=>bq T (i+1000)|| !bq X i) out.av))&&((D2 (bq T) 0 out.st&&out.mv.isNone)&&
  (W.all (bq T)&&W.all fun x=>match(kR (bq T) 0 st out.st)[x]? with|some b=>nJ (fun i=> !bq X i||((bq T (i+1000)&& !bq W (i+1000))&&Nat.ble (i+1) st.length)) b|none=>true))
def evS(P:Program)(n:Nat)(ops:Array Oper)(X W:List Nat)(l:List Oper)(fr:Fr)(st:St)(hs:HS):Option (Fr×List Nat×St×List Prop):=
 match Og l with
 |some o=>
  match fx ops o (iz ops o fr)with
  |some true=>
   match ev P false o (iz ops o fr) (oy (bq ((W++SN X (cV ops o fr++wb W st)))) 0 st) hs with
   |some out=>
    bif sOk n ops X W o fr st ((W++SN X (cV ops o fr++wb W st))) out then
     some (yo o ⟨out.av,(W++SN X (cV ops o fr++wb W st)),W,[],kR (bq ((W++SN X (cV ops o fr++wb W st)))) 0 st out.st⟩ fr,(W++SN X (cV ops o fr++wb W st)),kR (bq ((W++SN X (cV ops o fr++wb W st)))) 0 st out.st,out.ob)
    else none
   |none=>none
  |_=>none
 |none=>none
theorem GX.sto{tw2:List (List Nat×List Nat)}(W:List Nat)(hs:HS)(fr':Fr)(T:List Nat)(st':St)(ob:List Prop)(h:evS P n ops X W l fr st hs=some (fr',T,st',ob))(hob:nw ob)(hW:kR (bq W) 0 st st'=st')
  (hk:GX P n ops X (l.drop 1) tw2 fr' st' fr2 st2):GX P n ops X l ((T,W)::tw2) fr st fr2 st2:=by
 unfold evS at h;split at h
 ·rename_i o ho;split at h
  ·rename_i hg;split at h
   ·rename_i out hev;cases hc:sOk n ops X W o fr st ((W++SN X (cV ops o fr++wb W st))) out with
    |false=>rw[hc]at h;cases h
    |true=>
     rw[hc]at h;simp only[cond_true,eJ,sT]at h;obtain⟨rfl,rfl,rfl,rfl⟩:=h;unfold sOk at hc;simp only[iu]at hc;obtain⟨⟨⟨c1,c2⟩,c3,c4⟩,⟨c5,c6⟩,c7,c8⟩:=hc;have hlen:=we c2;have hWT:∀id,bq W id=true→bq ((W++SN X (cV ops o fr++wb W st))) id=true:=fun id hid=>List.all_eq_true.1 c7 id (gD.1 hid)
     have hmv:out.mv=none:=by cases hm:out.mv with|none=>rfl|some m=>rw[hm]at c6;cases c6
     generalize hT:W++SN X (cV ops o fr++wb W st)=T at*;have hs2:(kR (bq T) 0 st out.st).length=st.length:=by rw[eX _ _ _ (by omega)];exact hlen
     have hoff:∀id,bq W id=false→(kR (bq T) 0 st out.st)[id]? =st[id]? :=by
      intro id hid;rw[←hW,iD _ _ _ _ (by omega),Nat.zero_add];by_cases hl:id<st.length
      ·simp[hl,hid]
      ·rw[if_neg (fun h=>hl h.1),List.getElem?_eq_none (by omega),List.getElem?_eq_none (by omega)]
     rw[FW ho];refine GX.cons (s:=⟨out.av,T,W,[],kR (bq T) 0 st out.st⟩) ?_ hk;refine⟨BB c1,hs2,hoff,hWT,fun id h=>by simp[bq]at h,DI c3,c4,fun x b hx hb=> ?_,.inl ⟨hg,?_⟩⟩
     ·have:=List.all_eq_true.1 c8 x (gD.1 hx);have hb':(kR (bq T) 0 st out.st)[x]? =some b:=hb;rw[hb']at this;exact this
     ·intro σ ι w act hl hTT hX hR hF K Q hK;obtain⟨v,w',ι',hrun,r1,r2,r3⟩:=Jt [] hev hob (by omega) (fun m hm=>by rw[hmv]at hm;cases hm) (fun id hid hTf=>AD c5 id (by omega) (by rw[Nat.zero_add];exact hTf)) hl hTT
       (DD (fun j o _=>iU (q:=fun _=>true) (fun i _=>by simp[bq]) o (by cases o<;>first|rfl|exact wM _))) hR hF
      have e:kR (bq W) 0 σ (kR (bq T) 0 st out.st)=kR (bq T) 0 σ out.st:=by
       have z1:(kR (bq W) 0 σ (kR (bq T) 0 st out.st)).length=(kR (bq T) 0 st out.st).length:=eX _ _ _ (by omega);have z2:(kR (bq T) 0 σ out.st).length=out.st.length:=eX _ _ _ (by omega);refine wy (by rw[z1,hs2,z2,hlen]) (fun id hid=> ?_);rw[z1,hs2]at hid;have y1:(kR (bq W) 0 σ (kR (bq T) 0 st out.st))[id]? =if id<σ.length∧bq W id=false then σ[id]? else(kR (bq T) 0 st out.st)[id]? :=by rw[iD _ _ _ _ (by omega),Nat.zero_add]
       have y2:(kR (bq T) 0 σ out.st)[id]? =if id<σ.length∧bq T id=false then σ[id]? else out.st[id]? :=by rw[iD _ _ _ _ (by omega),Nat.zero_add]
       have y3:(kR (bq T) 0 st out.st)[id]? =if id<st.length∧bq T id=false then st[id]? else out.st[id]? :=by rw[iD _ _ _ _ (by omega),Nat.zero_add]
       rw[y1,y2];cases hw:bq W id with
       |true=>
        have ht:=hWT id hw;rw[y3,ht];simp
       |false=>
        cases ht:bq T id with
        |false=>simp[show id<σ.length by omega]
        |true=>
         have h1:=hoff id hw;rw[y3,ht]at h1;simp only[Bool.true_eq_false,and_false,if_false]at h1⊢;rw[if_pos ⟨by omega,trivial⟩,h1,hTT id ht]
      refine Hk hrun (hK v w' ι' (by rw[e];exact r2) (by rw[e];exact r1) (by
       rw[e];refine r3.weaken (fun id _=> ?_);rw[hmv];rfl))
   ·cases h
  ·cases h
 ·cases h
end
def MX(P:Program)(f:Nat)(args:List AV)(sc:St)(lo:List Nat)(r:AV)(sc':St):Prop:=AC P f args sc lo fun av s=>av=r∧s=sc'
section
variable {P:Program}
open Classical in
theorem MX.use{g:Nat}{args:List AV}{sc sc':St}{r:AV}{lo:List Nat}(h:MX P g args sc lo r sc'){st:St}(rs:List Nat)(hnd:rs.Nodup)(hlt:Jl st.length rs=true)(hlen:rs.length=sc.length)(hle:sc.length≤sc'.length)
  (hst:rs.map (fun x=>st[x]?)=sc.map (fun o=>some (xH (oo rs st.length) o)))(hi:gO (fun i=>Nat.ble (i+1) sc.length) sc=true)(ha:∀a∈args,ff (fun i=>Nat.ble (i+1) sc.length) a=true)
  (hbox:∀(id:Nat) o,st[id]? =some o→id∉rs→nJ (fun q=> !bq (lo.map (oo rs st.length)) q) o=true)
  {ι:IM}{w:World}{vs:List Value}(hR:km ι w st)(hA:Eh ι w st vs (args.map (Aj (oo rs st.length)))):
  Calls P g vs.toArray w fun e w'=>∃v ι',e= .returned v∧km ι' w' (ja st rs ((sc'.take sc.length).map (xH (oo rs st.length)))++(sc'.drop sc.length).map (xH (oo rs st.length)))∧
   bk ι' w' (ja st rs ((sc'.take sc.length).map (xH (oo rs st.length)))++(sc'.drop sc.length).map (xH (oo rs st.length))) v (Aj (oo rs st.length) r)∧
   cT (fun id=>id∉lo.map (oo rs st.length)) ι w st ι' w' (ja st rs ((sc'.take sc.length).map (xH (oo rs st.length)))++(sc'.drop sc.length).map (xH (oo rs st.length))):=by
 generalize hρ:oo rs st.length=ρ at*;generalize hk:sc.length=k at*;have hρ1:∀i x,rs[i]? =some x→ρ i=x:=by intro i x hx;rw[←hρ];simp[oo,hx]
 have hρ2:∀i,k≤i→ρ i=st.length+(i-k):=by
  intro i hi;rw[←hρ];simp only[oo];rw[List.getElem?_eq_none (by omega),hlen]
 have hρ3:∀i,i<k→∃x,rs[i]? =some x∧ρ i=x∧x<st.length:=by
  intro i hi;have hx:rs[i]? =some (rs[i]'(by omega)):=dK (by omega);exact⟨_,hx,hρ1 i _ hx,LU hlt i _ hx⟩
 have hget:∀i,i<k→∃o,sc[i]? =some o∧st[ρ i]? =some (xH ρ o):=by
  intro i hi;obtain⟨x,hx,hρx,_⟩:=hρ3 i hi;have h0:=congrArg (fun l=>l[i]?) hst;simp only[List.getElem?_map,hx,Option.map_some]at h0;cases ho:sc[i]? with
  |none=>rw[List.getElem?_eq_none_iff]at ho;omega
  |some o=>rw[ho]at h0;simp at h0;exact⟨o,rfl,by rw[hρx];exact h0⟩
 have hinj:∀i j,i<k→j<k→ρ i=ρ j→i=j:=by
  intro i j h1 h2 e;obtain⟨x,hx,ex,_⟩:=hρ3 i h1;obtain⟨y,hy,ey,_⟩:=hρ3 j h2;have:x=y:=by rw[←ex,←ey,e]
  subst this;exact(List.getElem?_inj (tz.1 hx).1 hnd).1 (hx.trans hy.symm)
 have hmem:∀id,id∈rs→∃i,i<k∧ρ i=id:=by
  intro id hid;obtain⟨i,hi,e⟩:=List.getElem_of_mem hid;exact⟨i,by omega,hρ1 i id (by rw[dK hi,e])⟩
 have hmem':∀i,i<k→ρ i∈rs:=by
  intro i hi;obtain⟨x,hx,e,_⟩:=hρ3 i hi;rw[e];exact List.mem_of_getElem? hx
 let ιc:IM:=⟨fun i=>if i<k then ι (ρ i)else none,fun b=>ι.amb b∨∃id o,st[id]? =some o∧o.alive∧ι id=some b∧id∉rs⟩
 have own1:∀b,CC ιc sc b→∃i o,i<k∧sc[i]? =some o∧o.alive∧ι (ρ i)=some b:=by
  rintro b ⟨i,o,h1,h2,h3⟩;have hik:i<k:=by rw[←hk];exact(tz.1 h1).1
  have:ιc i=ι (ρ i):=if_pos hik;exact⟨i,o,hik,h1,h2,this▸h3⟩
 have own2:∀b,CC ιc sc b→CC ι st b:=by
  intro b hb;obtain⟨i,o,hik,h1,h2,h3⟩:=own1 b hb;obtain⟨o',e1,e2⟩:=hget i hik;rw[h1]at e1;cases e1;exact⟨ρ i,_,e2,mC.2 h2,h3⟩
 have mut1:∀b,o5 ι st b→o5 ιc sc b:=by
  rintro b (hb|⟨id,o,h1,h2,h3⟩)
  ·exact .inl (.inl hb)
  ·by_cases hid:id∈rs
   ·obtain⟨i,hik,rfl⟩:=hmem id hid;obtain⟨o',e1,e2⟩:=hget i hik;rw[h1]at e2;cases e2;exact .inr ⟨i,o',e1,mC.1 h2,(if_pos hik:ιc i=ι (ρ i)).trans h3⟩
   ·exact .inl (.inr ⟨id,o,h1,h2,h3,hid⟩)
 have mut2:∀b,o5 ιc sc b→o5 ι st b:=by
  rintro b ((hb|⟨id,o,h1,h2,h3,_⟩) |hb)
  ·exact .inl hb
  ·exact .inr ⟨id,o,h1,h2,h3⟩
  ·exact .inr (own2 b hb)
 have hback:∀i,Nat.ble (i+1) k=true→i<sc.length∧ιc i=ι (ρ i):=by
  intro i hi;have:=CY hi;exact⟨by omega,if_pos (by omega)⟩
 have hRc:km ιc w sc:=by
  refine⟨fun i o ho=> ?_,fun b hb=> ?_,fun b hb hm=> ?_,fun i j o o' b h1 h2 a1 a2 e1 e2=> ?_,fun b o h=>⟨fun hm=>(hR.gl b o h).1 (mut2 b hm),(hR.gl b o h).2⟩⟩
  ·have hik:i<k:=by rw[←hk];exact(tz.1 ho).1
   obtain⟨o',e1,e2⟩:=hget i hik;rw[ho]at e1;cases e1;have hobj:=hR.obj _ _ e2;have hids:=nD hi i o ho;cases o with
   |dead=>trivial
   |box cells=>
    obtain⟨b,us,ty,e3,e4,e5⟩:=hobj;exact⟨b,us,ty,(if_pos hik:ιc i=ι (ρ i)).trans e3,e4,ii.unren (fun b hb=>mut2 b hb) hback hids e5⟩
   |rel Rm ps=>
    obtain⟨b,ob,vs0,e3,e4,hr0,hl0⟩:=hobj;exact⟨b,ob,vs0,(if_pos hik:ιc i=ι (ρ i)).trans e3,e4,hr0,hl0.map fun _ _ h0=>h0.mono (iO _) (fun b _ hb=>⟨rfl,fun h'=>hb (mut2 b h')⟩)⟩
   |arr sz els=>
    rcases hobj with⟨e3,e4⟩ |⟨b,c,ty,e3,e4,e5,e6,e7⟩
    ·exact .inl ⟨(if_pos hik:ιc i=ι (ρ i)).trans e3,e4⟩
    ·refine .inr ⟨b,c,ty,(if_pos hik:ιc i=ι (ρ i)).trans e3,e4,e5,e6,fun i' e j p x1 x2=> ?_⟩;obtain⟨v,y1,y2⟩:=e7 i' e j p x1 x2;exact⟨v,y1,y2.mono (iO _) (fun b _ hb=>⟨rfl,fun h'=>hb (mut2 b h')⟩)⟩
  ·rcases hb with hb|⟨id,o,h1,h2,h3,_⟩
   ·exact hR.amb b hb
   ·exact hR.mut_lt (.inr ⟨id,o,h1,h2,h3⟩)
  ·obtain⟨i,o,hik,h1,h2,h3⟩:=own1 b hb;obtain⟨o',e1,e2⟩:=hget i hik;rw[h1]at e1;cases e1;rcases hm with hm|⟨id,o2,g1,g2,g3,g4⟩
   ·exact hR.dis b (own2 b hb) hm
   ·have:=hR.inj id (ρ i) o2 _ b g1 e2 g2 (mC.2 h2) g3 h3;subst this;exact g4 (hmem' i hik)
  ·have hik:i<k:=by rw[←hk];exact(tz.1 h1).1
   have hjk:j<k:=by rw[←hk];exact(tz.1 h2).1
   obtain⟨p,p1,p2⟩:=hget i hik;obtain⟨q,q1,q2⟩:=hget j hjk;rw[h1]at p1;cases p1;rw[h2]at q1;cases q1;have e1':ι (ρ i)=some b:=(if_pos hik:ιc i=ι (ρ i))▸e1;have e2':ι (ρ j)=some b:=(if_pos hjk:ιc j=ι (ρ j))▸e2;exact hinj i j hik hjk (hR.inj _ _ _ _ b p2 q2 (mC.2 a1) (mC.2 a2) e1' e2')
 have hAc:Eh ιc w sc vs args:=by
  refine⟨by simpa using hA.1,fun j v a h1 h2=> ?_⟩;exact bk.unren (fun b hb=>mut2 b hb) hback a v (ha a (List.mem_of_getElem? h2)) (hA.2 j v _ h1 (by rw[List.getElem?_map,h2];rfl))
 refine(h ιc w vs hRc hAc).mono ?_;rintro e w' ⟨v,av,s',ιc',he,⟨rfl,rfl⟩,hRc',hv,kc⟩
 let ι':IM:=⟨fun id=>if hx:∃i,i<k∧ρ i=id then ιc' (Classical.choose hx)else if id<st.length then ι id else ιc' (k+(id-st.length)),ι.amb⟩
 have hsame:∀id,id<st.length→id∉rs→ι' id=ι id:=by
  intro id h1 h2;have hn:¬∃i,i<k∧ρ i=id:=by rintro⟨i,hik,rfl⟩;exact h2 (hmem' i hik)
  show(if hx:∃i,i<k∧ρ i=id then _ else _)=_;rw[dif_neg hn,if_pos h1]
 generalize hB:(s'.take k).map (xH ρ)=B;generalize hX:(s'.drop k).map (xH ρ)=X;have hBlen:B.length=k:=by rw[←hB];simp;omega
 have hXlen:X.length=s'.length-k:=by rw[←hX];simp
 have hl:(ja st rs B++X).length=st.length+(s'.length-k):=by rw[List.length_append,nL,hXlen]
 have hm:∀i,i<s'.length→ρ i<(ja st rs B++X).length∧ι' (ρ i)=ιc' i:=by
  intro i hi;by_cases hik:i<k
  ·obtain⟨x,_,e,hx⟩:=hρ3 i hik;refine⟨by rw[hl,e];omega,?_⟩;have hex:∃j,j<k∧ρ j=ρ i:=⟨i,hik,rfl⟩
   have hc:=Classical.choose_spec hex;have hci:=hinj _ _ hc.1 hik hc.2;show(if hx:∃j,j<k∧ρ j=ρ i then ιc' (Classical.choose hx)else _)=_;rw[dif_pos hex,hci]
  ·have e:=hρ2 i (by omega);refine⟨by rw[hl,e];omega,?_⟩;have hn:¬∃j,j<k∧ρ j=ρ i:=by
    rintro⟨j,hjk,hj⟩;obtain⟨y,_,ey,hy⟩:=hρ3 j hjk;omega
   show(if hx:∃j,j<k∧ρ j=ρ i then ιc' (Classical.choose hx)else _)=_;rw[dif_neg hn,if_neg (by omega),e];congr 1;omega
 have hgetn:∀i o,s'[i]? =some o→(ja st rs B++X)[ρ i]? =some (xH ρ o):=by
  intro i o ho;have hil:=(tz.1 ho).1;by_cases hik:i<k
  ·obtain⟨x,hx,e,hxl⟩:=hρ3 i hik;rw[e,E2 (by rw[nL];exact hxl)];refine Ef rs B st i hnd hx ?_ hxl;rw[←hB,List.getElem?_map,List.getElem?_take,if_pos hik,ho];rfl
  ·have e:=hρ2 i (by omega);rw[e,List.getElem?_append_right (by rw[nL];omega),nL,←hX,List.getElem?_map,List.getElem?_drop,show k+(st.length+(i-k)-st.length)=i by omega,ho];rfl
 have hcase:∀id o,(ja st rs B++X)[id]? =some o→(∃i o',s'[i]? =some o'∧ρ i=id∧o=xH ρ o')∨(id<st.length∧id∉rs∧st[id]? =some o):=by
  intro id o ho;by_cases hid:id<st.length
  ·by_cases hr:id∈rs
   ·obtain⟨i,hik,rfl⟩:=hmem id hr;have:s'[i]? =some (s'[i]'(by omega)):=dK (by omega);have h2:=hgetn i _ this;rw[ho]at h2;cases h2;exact .inl ⟨i,_,this,rfl,rfl⟩
   ·refine .inr ⟨hid,hr,?_⟩;rw[E2 (by rw[nL];exact hid),yV rs B st hr]at ho;exact ho
  ·have hil:id<(ja st rs B++X).length:=(tz.1 ho).1;have hi':k+(id-st.length)<s'.length:=by omega
   have e:ρ (k+(id-st.length))=id:=by rw[hρ2 _ (by omega)];omega
   have h1:s'[k+(id-st.length)]? =some (s'[k+(id-st.length)]'hi'):=dK hi';have h2:=hgetn _ _ h1;rw[e,ho]at h2;cases h2;exact .inl ⟨_,_,h1,e,rfl⟩
 have own3:∀b,CC ι' (ja st rs B++X) b→CC ιc' s' b∨∃id o,st[id]? =some o∧o.alive∧ι id=some b∧id∉rs:=by
  rintro b ⟨id,o,h1,h2,h3⟩;rcases hcase id o h1 with⟨i,o',g1,rfl,rfl⟩ |⟨g1,g2,g3⟩
  ·have hil:=(tz.1 g1).1;exact .inl ⟨i,o',g1,mC.1 h2,((hm i hil).2).symm.trans h3⟩
  ·exact .inr ⟨id,o,g3,h2,(hsame id g1 g2)▸h3,g2⟩
 have mut3:∀b,o5 ι' (ja st rs B++X) b→o5 ιc' s' b:=by
  rintro b (hb|hb)
  ·exact .inl (by rw[kc.amb];exact .inl hb)
  ·rcases own3 b hb with h1|h1
   ·exact .inr h1
   ·exact .inl (by rw[kc.amb];exact .inr h1)
 have kk:cT (fun id=>id∉lo.map ρ) ι w st ι' w' (ja st rs B++X):=by
  refine⟨kc.os,kc.tape,kc.output,kc.size,rfl,fun b hb hno=> ?_,fun id hlo hid=>⟨by rw[hl];omega,?_⟩,kc.shp⟩
  case refine_2=>
   by_cases hr:id∈rs
   ·obtain⟨i,hik,rfl⟩:=hmem id hr;have hil:i∉lo:=fun hq=>hlo (List.mem_map.2 ⟨i,hq,rfl⟩)
    rw[(hm i (by omega)).2,(kc.map i hil (by omega)).2];exact(if_pos hik:ιc i=ι (ρ i))
   ·exact hsame id hid hr
  obtain⟨e1,e2⟩:=kc.blk b hb (fun ho=>hno (own2 b ho));refine⟨e1,fun ho=> ?_⟩;rcases own3 b ho with h1|⟨id,o,h1,h2,h3,_⟩
  ·exact e2 h1
  ·exact hno ⟨id,o,h1,h2,h3⟩
 have hfree:∀id o b,st[id]? =some o→o.alive→id∉rs→ι id=some b→b<w.heap.size∧¬CC ιc sc b:=by
  intro id o b h1 h2 h3 h4;refine⟨hR.mut_lt (.inr ⟨id,o,h1,h2,h4⟩),fun hb=> ?_⟩;exact hRc.dis b hb (.inr ⟨id,o,h1,h2,h4,h3⟩)
 refine⟨v,ι',he,?_,hv.ren mut3 hm,kk⟩;refine⟨fun id o ho=> ?_,fun b hb=>Nat.lt_of_lt_of_le (hR.amb b hb) kc.size,fun b hb ha'=> ?_,fun id id' o o' b h1 h2 a1 a2 e1 e2=> ?_,hR.glk kk⟩
 ·rcases hcase id o ho with⟨i,o',g1,rfl,rfl⟩ |⟨g1,g2,g3⟩
  ·have hil:=(tz.1 g1).1;have hobj:=hRc'.obj i o' g1;cases o' with
   |dead=>trivial
   |box cells=>
    obtain⟨b,us,ty,e3,e4,e5⟩:=hobj;exact⟨b,us,ty,(hm i hil).2.trans e3,e4,e5.ren mut3 hm⟩
   |rel Rm ps=>
    obtain⟨b,ob,vs0,e3,e4,hr0,hl0⟩:=hobj;exact⟨b,ob,vs0,(hm i hil).2.trans e3,e4,hr0,hl0.map fun _ _ h0=>h0.mono (iO _) (fun b _ hb=>⟨rfl,fun h'=>hb (mut3 b h')⟩)⟩
   |arr sz els=>
    rcases hobj with⟨e3,e4⟩ |⟨b,c,ty,e3,e4,e5,e6,e7⟩
    ·exact .inl ⟨(hm i hil).2.trans e3,e4⟩
    ·refine .inr ⟨b,c,ty,(hm i hil).2.trans e3,e4,e5,e6,fun i' e j p x1 x2=> ?_⟩;obtain⟨v,y1,y2⟩:=e7 i' e j p x1 x2;exact⟨v,y1,y2.mono (iO _) (fun b _ hb=>⟨rfl,fun h'=>hb (mut3 b h')⟩)⟩
  ·have hobj:=hR.obj id o g3;have hsm:ι' id=ι id:=hsame id g1 g2;cases o with
   |dead=>trivial
   |box cells=>
    obtain⟨b,us,ty,e3,e4,e5⟩:=hobj;obtain⟨f1,f2⟩:=hfree id _ b g3 (by simp[cY.alive]) g2 e3;exact⟨b,us,ty,hsm.trans e3,((kc.blk b f1 f2).1).trans e4,e5.mono kk (q:=fun q=> !bq (lo.map ρ) q) (fun q hq _=>(fun hm'=>by rw[gD.2 hm']at hq;cases hq)) (hbox id _ g3 g2)⟩
   |rel Rm ps=>
    obtain⟨b,ob,vs0,e3,e4,hr0,hl0⟩:=hobj;obtain⟨f1,f2⟩:=hfree id _ b g3 (by simp[cY.alive]) g2 e3;exact⟨b,ob,vs0,hsm.trans e3,((kc.blk b f1 f2).1).trans e4,hr0,hl0.map fun _ _ h0=>kk.pure h0⟩
   |arr sz els=>
    rcases hobj with⟨e3,e4⟩ |⟨b,c,ty,e3,e4,e5,e6,e7⟩
    ·exact .inl ⟨hsm.trans e3,e4⟩
    ·obtain⟨f1,f2⟩:=hfree id _ b g3 (by simp[cY.alive]) g2 e3;refine .inr ⟨b,c,ty,hsm.trans e3,((kc.blk b f1 f2).1).trans e4,e5,e6,fun i' e j p x1 x2=> ?_⟩;obtain⟨v,y1,y2⟩:=e7 i' e j p x1 x2;exact⟨v,y1,kk.pure y2⟩
 ·rcases own3 b hb with h1|⟨id,o,h1,h2,h3,_⟩
  ·exact hRc'.dis b h1 (by rw[kc.amb];exact .inl ha')
  ·exact hR.dis b ⟨id,o,h1,h2,h3⟩ ha'
 ·rcases hcase id o h1 with⟨i,p,g1,rfl,rfl⟩ |⟨g1,g2,g3⟩
  ·have hil:=(tz.1 g1).1;have i1:ιc' i=some b:=(hm i hil).2.symm.trans e1;rcases hcase id' o' h2 with⟨j,q,q1,rfl,rfl⟩ |⟨q1,q2,q3⟩
   ·have hjl:=(tz.1 q1).1;have i2:ιc' j=some b:=(hm j hjl).2.symm.trans e2;exact congrArg ρ (hRc'.inj i j p q b g1 q1 (mC.1 a1) (mC.1 a2) i1 i2)
   ·exfalso;refine hRc'.dis b ⟨i,p,g1,mC.1 a1,i1⟩ ?_;rw[kc.amb];exact .inr ⟨id',o',q3,a2,(hsame id' q1 q2)▸e2,q2⟩
  ·have i1:ι id=some b:=(hsame id g1 g2)▸e1;rcases hcase id' o' h2 with⟨j,q,q1,rfl,rfl⟩ |⟨q1,q2,q3⟩
   ·exfalso;have hjl:=(tz.1 q1).1;have i2:ιc' j=some b:=(hm j hjl).2.symm.trans e2;refine hRc'.dis b ⟨j,q,q1,mC.1 a2,i2⟩ ?_;rw[kc.amb];exact .inr ⟨id,o,g3,a1,i1,g2⟩
   ·exact hR.inj id id' o o' b g3 q3 a1 a2 i1 ((hsame id' q1 q2)▸e2)
end
section
variable {P:Program} {n n0:Nat} {lz an:List Nat} {Q:QT} {fr:Fr} {st:St} {c:Code} {ops:Array Oper} {X:List Nat} {l:List Oper} {tw:List (List Nat×List Nat)} {fr2:Fr} {st2:St}
def XU(P:Program)(fn:Func)(r:AV)(k:Nat)(sc':St):QT:=fun e fr st=>
 (e= .normal∨e= .ret)∧∃hs asv ob,B1 P fr st fn.results.toList hs=some (asv,ob)∧nw ob∧st.take k=sc'∧gO (fun id=>Nat.ble (id+1) k) sc'=true∧AF st (fun id=>Nat.ble (id+1) k) (FI asv) r
theorem MX.of{f:Nat}{fn:Func}{args:List AV}{r:AV}{sc sc':St}{lo:List Nat}(k m:Nat)(hkm:Nat.ble k m=true)(hf:P.funcs[f]? =some fn)(hb:fn.body=some c)(hn:fn.ntmps=n)(hl:args.length≤n)(hk:sc.length=k)
  (h:XW P n k lo c (XU P fn r m sc') (sN args 0) sc):MX P f args sc lo r sc':=by
 intro ι w vs hR hA;refine calls_of_wp hf hb ?_;have hF:pT n ι w sc {tmps:=vs.toArray++Array.replicate (fn.ntmps-vs.toArray.size) undef,defers:=[]} (sN args 0):=by
  refine⟨rfl,?_,fun t=> ?_⟩
  ·simp[hn];have:=hA.1;omega
  ·rw[HW];simp only[Nat.zero_le,if_true,Nat.sub_zero];by_cases ht:t<vs.length
   ·have hta:t<args.length:=by rw[←hA.1];exact ht
    have e1:(vs.toArray++Array.replicate (fn.ntmps-vs.toArray.size) undef).getD t undef=vs[t]:=by
     simp[Array.getElem?_append,ht]
    have e2:args.getD t .j=args[t]:=by simp[List.getD,hta]
    rw[e1,e2];exact hA.2 t _ _ (dK ht) (dK hta)
   ·have:args.getD t .j= .j:=by
     simp only[List.getD];rw[List.getElem?_eq_none (by rw[←hA.1];omega)];rfl
    rw[this];exact .j _
 refine Go.wp_mono (h ι w _ hR hF) ?_;rintro e a w' ⟨ι',fr',st',⟨he,hs,asv,ob,hres,hob,htk,hid,haf⟩,hR',hF',kk⟩;obtain⟨v,hv,hav⟩:=EO hR' hF' hres hob;have hkm':=CY hkm;have hsub:IH (fun id=>Nat.ble (id+1) m) st' (st'.take m):=by
  refine⟨fun id o h=> .inr ?_,fun id hq hid=> ?_⟩
  ·rw[List.getElem?_take]at h;split at h
   ·rename_i hlt;exact⟨Nat.ble_eq_true_of_le hlt,h⟩
   ·cases h
  ·have:=CY hq;simp;omega
 have hid':gO (fun id=>Nat.ble (id+1) m) (st'.take m)=true:=by rw[htk];exact hid
 obtain⟨r1,k1⟩:=hR'.shrink hsub hid';have hfin:=hav.fz hR' hsub hid' haf;rw[htk]at r1 k1 hfin;have hpost:∃v',(results fn a.tmps).run P w'= .ok v' w'∧(∃v av s ι',Ending.returned v'= .returned v∧(av=r∧s=sc')∧km ι' w' s∧bk ι' w' s v av∧cT (fun id=>id∉lo) ι w sc ι' w' s):=by
  refine⟨v,hv,v,r,sc',ι',rfl,⟨rfl,rfl⟩,r1,hfin,?_⟩;have hfx:∀id,id<k→id∉lo→A2 k lo id=true:=fun id h h2=>by
   unfold A2;rw[Nat.ble_eq_true_of_le (show id+1≤k by omega),Bool.true_and];cases hq:lo.any (Nat.beq id)with
   |false=>rfl
   |true=>
    obtain⟨x,hx,he⟩:=List.any_eq_true.1 hq;exact absurd (we he▸hx) h2
  refine⟨kk.os▸k1.os,kk.tape▸k1.tape,kk.output▸k1.output,kk.size,kk.amb,fun b hb hno=> ?_,fun id hlo hidl=> ?_,kk.shp⟩
  ·obtain⟨e1,e2⟩:=kk.blk b hb hno;exact⟨e1,(k1.blk b (Nat.lt_of_lt_of_le hb kk.size) e2).2⟩
  ·obtain⟨m1,m2⟩:=kk.map id (hfx id (by omega) hlo) hidl;obtain⟨p1,p2⟩:=k1.map id (Nat.ble_eq_true_of_le (show id+1≤m by omega)) m1;exact⟨p1,p2.trans m2⟩
 rcases he with rfl|rfl
 ·exact⟨hF'.defers,hpost⟩
 ·exact⟨hF'.defers,hpost⟩
theorem MC.of{f:Nat}{fn:Func}{args:List AV}{r:AV}{sc sc':St}(k:Nat)(hf:P.funcs[f]? =some fn)(hb:fn.body=some c)(hn:fn.ntmps=n)(hl:args.length≤n)(hk:sc.length=k)
 (h:XW P n k [] c (XU P fn r k sc') (sN args 0) sc):MC P f args sc r sc':=MX.of k k (Nat.ble_eq_true_of_le (iO _)) hf hb hn hl hk h
def Jf:List Nat→Bool
 |[]=>true
 |x::l=> !bq l x&&Jf l
theorem Fq:∀{l:List Nat},Jf l=true→l.Nodup
 |[],_=>by simp
 |x::l,h=>by
  simp only[Jf,iu,Bool.not_eq_true']at h;rw[List.nodup_cons];exact⟨fun hm=>(by rw[gD.2 hm]at h;exact absurd h.1 (by simp)),Fq h.2⟩
def Ju(L:Nat)(rs:List Nat)(sc sc':St)(avs:List AV):Bool:=
 ((Jf rs&&Jl L rs)&&(Nat.beq rs.length sc.length&&Nat.beq sc'.length sc.length))&&(gO (fun i=>Nat.ble (i+1) sc.length) sc&&avs.all (ff (fun i=>Nat.ble (i+1) sc.length)))
structure acj(L:Nat)(rs:List Nat)(sc sc':St)(avs:List AV):Prop where
 nd:rs.Nodup
 lt:Jl L rs=true
 len:rs.length=sc.length
 le:sc'.length=sc.length
 ids:gO (fun i=>Nat.ble (i+1) sc.length) sc=true
 av:∀a∈avs,ff (fun i=>Nat.ble (i+1) sc.length) a=true
theorem LW{L:Nat}{rs:List Nat}{sc sc':St}{avs:List AV}(h:Ju L rs sc sc' avs=true):acj L rs sc sc' avs:=by
 unfold Ju at h;simp only[iu]at h;obtain⟨⟨⟨h1,h2⟩,h3,h4⟩,h5,h6⟩:=h;exact⟨Fq h1,h2,we h3,we h4,h5,fun a ha=>List.all_eq_true.1 h6 a ha⟩
theorem MC.use'{g:Nat}{avs:List AV}{sc sc':St}{r:AV}(h:MC P g avs sc r sc'){st:St}(rs:List Nat)(hb:acj st.length rs sc sc' avs)(hst:rs.map (fun x=>st[x]?)=sc.map (fun o=>some (xH (oo rs st.length) o)))
  {ι:IM}{w:World}{vs:List Value}(hR:km ι w st)(hA:Eh ι w st vs (avs.map (Aj (oo rs st.length)))):
  Calls P g vs.toArray w fun e w'=>∃v ι',e= .returned v∧km ι' w' (ja st rs (sc'.map (xH (oo rs st.length))))∧bk ι' w' (ja st rs (sc'.map (xH (oo rs st.length)))) v (Aj (oo rs st.length) r)∧
   cT all ι w st ι' w' (ja st rs (sc'.map (xH (oo rs st.length)))):=by
 have:=MX.use (lo:=[]) (show MX P g avs sc [] r sc' from h) rs hb.nd hb.lt hb.len (by rw[hb.le];exact iO _) hst hb.ids hb.av (fun id o _ _=>by cases o<;>first|rfl|exact wM _) hR hA;have e1:sc'.take sc.length=sc':=List.take_of_length_le (by rw[hb.le];exact iO _);have e2:sc'.drop sc.length=[]:=List.drop_of_length_le (by rw[hb.le];exact iO _);rw[e1,e2,List.map_nil,List.append_nil]at this;exact this.mono fun _ _ ⟨v,ι',h1,h2,h3,k⟩=>⟨v,ι',h1,h2,h3,k.weaken fun _ _=>by simp⟩
end
section
variable {P:Program} {n n0:Nat} {lz an:List Nat} {Q:QT} {fr:Fr} {st:St} {c:Code} {ops:Array Oper} {l:List Oper}
def Oj(P:Program)(ops:Array Oper)(l:List Oper)(fr:Fr):Option ByteArray:=
 match l with
 |o::_=>match fx ops o fr with
  |some true=>match o.op with
   | .range t x=>match P.underlying t with
    |some .string=>match rv fr x with
     | .one (.pv (.s (.string s)))=>some s
     |_=>none
    |_=>none
   |_=>none
  |_=>none
 |[]=>none
theorem XO.rng(s:ByteArray)(fr':Fr)(st':St)(hc:Oj P ops l fr=some s)(hput:GJ n l (.one (.pt st.length 0 0 0)) fr=some fr')(hst:st++[.raw (.stringIter s 0)]=st')
  (hk:XO P n n0 lz ops (l.drop 1) Q fr' st'):XO P n n0 lz ops l Q fr st:=by
 cases l with
 |nil=>simp[Oj]at hc
 |cons o rest=>
  simp only[Oj]at hc;split at hc
  ·rename_i hg;cases hop:o.op<;>simp only[hop]at hc<;>try (cases hc;done)
   rename_i t x;split at hc
   ·rename_i hu;split at hc
    ·rename_i s' hx;simp only[eJ]at hc;subst hc;subst hst;intro ι w a hR hF;have hxv:=dL hF x;rw[hx]at hxv;have hv:=cn hxv;have hw:=gj hg hF;have hrun:(execOp a.eval o).run P w= .ok (.value (.pointer (some ⟨w.heap.size,0,none⟩))) (w.iter s' 0):=by
      simp[execOp,hop,hv,run_range_string (P:=P) w t s' hu]
     have hR':km (ι.add st.length (some w.heap.size)) (w.iter s' 0) (st++[.raw (.stringIter s' 0)]):=
      hR.add (xS.alloc w _) (fun x e=>by cases e;exact iO _) (MF.2 ⟨w.heap.size,by simp[IM.add],fE w _⟩)
     have k:cT all ι w st (ι.add st.length (some w.heap.size)) (w.iter s' 0) (st++[.raw (.stringIter s' 0)]):=
      yU (xS.alloc w _) _ _ (fun x e=>by cases e;exact iO _)
     have hres:bk (ι.add st.length (some w.heap.size)) (w.iter s' 0) (st++[.raw (.stringIter s' 0)]) (.pointer (some ⟨w.heap.size,0,none⟩)) (.one (.pt st.length 0 0 0)):=
      .one _ _ (ej.pt st.length 0 0 0 w.heap.size (by simp) (by simp[IM.add]))
     refine wpList_step fun K hK=> ?_
     rw[if_pos hw];simp only[Oper.wp,hrun,Oper.upon];exact hK _ _ (iE (fun e a w h=>h.trans (k.weaken (fun _ _=>trivial))) (hk _ _ _ hR' (oI hput (hF.mono' k) hres)))
    ·cases hc
   ·cases hc
  ·simp at hc
def GM(ops:Array Oper)(l:List Oper)(fr:Fr):Option Nat:=
 match l with
 |o::_=>match fx ops o fr with
  |some true=>match o.op with
   | .next x true=>match rv fr x with
    | .one (.pt id 0 0 0)=>some id
    |_=>none
   |_=>none
  |_=>none
 |[]=>none
theorem SB{id:Nat}{o:Oper}(hc:GM ops (o::l) fr=some id):fx ops o fr=some true∧∃x,o.op= .next x true∧rv fr x= .one (.pt id 0 0 0):=by
 simp only[GM]at hc;split at hc
 ·rename_i hg;split at hc
  ·rename_i x hop;split at hc
   ·rename_i id' hx;cases hc;exact⟨hg,x,hop,hx⟩
   ·cases hc
  ·cases hc
 ·cases hc
theorem Vf{ι:IM}{w:World}{v:Value}{id:Nat}(h:bk ι w st v (.one (.pt id 0 0 0))):∃b,v= .pointer (some ⟨b,0,none⟩)∧id<st.length∧ι id=some b:=by
 cases h with
 |one _ _ h=>
  cases h with
  |pt _ _ _ _ b hid hb=>exact⟨b,rfl,hid,hb⟩
theorem XO.nxt(id:Nat)(s:ByteArray)(pos:Nat)(fr':Fr)(st':St)(hc:GM ops l fr=some id)(ho:st[id]? =some (.raw (.stringIter s pos)))
  (hput:GJ n l (.tp [.one (.pv (.s (.bool true))),.one (.pv (.s (.int .i64 (Int.ofNat pos)))),.one (.pv (.s (.int .i32 (Int.ofNat (Utf8.decode s pos).1))))]) fr=some fr')
  (hst:st.set id (.raw (.stringIter s (pos+(Utf8.decode s pos).2)))=st')(hp:decide (pos<s.size)=true)
  (hk:XO P n n0 lz ops (l.drop 1) Q fr' st'):XO P n n0 lz ops l Q fr st:=by
 cases l with
 |nil=>simp[GM]at hc
 |cons o rest=>
  obtain⟨hg,x,hop,hx⟩:=SB hc;subst hst;intro ι w a hR hF;have hxv:=dL hF x;rw[hx]at hxv;obtain⟨b,hv,hid,hb⟩:=Vf hxv;obtain⟨b',e1,e2⟩:=MF.1 (hR.obj id _ ho);rw[hb]at e1;cases e1;have hw:=gj hg hF;have hlt:pos<s.size:=of_decide_eq_true hp;have hbl:=eW e2
  let w':World:={w with heap:=w.heap.setIfInBounds b (.stringIter s (pos+(Utf8.decode s pos).2))}
  have hrun:(execOp a.eval o).run P w= .ok (.value (.tuple #[.bool true,.int .i64 (Int.ofNat pos),.int .i32 (Int.ofNat (Utf8.decode s pos).1)])) w':=by
   simp[execOp,hop,hv,Instr.next,getObj,setObj,Sem.run,e2,hlt,goInt,w',Result.andThen]
  have hwr:GE w w' b:=by
   refine⟨rfl,rfl,rfl,by simp[w'],fun y hy=> ?_,fun c ty fz h=> ?_⟩
   ·simp[w',Array.getElem?_setIfInBounds,Ne.symm hy]
   ·rw[e2]at h;cases h
  have ha:cY.alive (.raw (.stringIter s pos)):=by simp[cY.alive]
  have k:=uv (body':= .raw (.stringIter s (pos+(Utf8.decode s pos).2))) ho ha hb hwr;have hR':=hR.set (body':= .raw (.stringIter s (pos+(Utf8.decode s pos).2))) ho ha hb hwr (MF.2 ⟨b,hb,by simp[w',Array.getElem?_setIfInBounds,hbl]⟩);have hres:bk ι w' (st.set id (.raw (.stringIter s (pos+(Utf8.decode s pos).2)))) (.tuple [.bool true,.int .i64 (Int.ofNat pos),.int .i32 (Int.ofNat (Utf8.decode s pos).1)].toArray) (Xm [.bool true,.int .i64 (Int.ofNat pos),.int .i32 (Int.ofNat (Utf8.decode s pos).1)]):=IZ rfl;refine wpList_step fun K hK=> ?_
  rw[if_pos hw];simp only[Oper.wp,hrun,Oper.upon];exact hK _ _ (iE (fun e a w h=>h.trans (k.weaken (fun _ _=>trivial))) (hk _ _ _ hR' (oI hput (hF.mono' k) hres)))
theorem XO.nxtE(id:Nat)(s:ByteArray)(pos:Nat)(fr':Fr)(hc:GM ops l fr=some id)(ho:st[id]? =some (.raw (.stringIter s pos)))
  (hput:GJ n l (.tp [.one (.pv (.s (.bool false)))]) fr=some fr')(hp:decide (pos<s.size)=false)
  (hk:XO P n n0 lz ops (l.drop 1) Q fr' st):XO P n n0 lz ops l Q fr st:=by
 cases l with
 |nil=>simp[GM]at hc
 |cons o rest=>
  obtain⟨hg,x,hop,hx⟩:=SB hc;intro ι w a hR hF;have hxv:=dL hF x;rw[hx]at hxv;obtain⟨b,hv,hid,hb⟩:=Vf hxv;obtain⟨b',e1,e2⟩:=MF.1 (hR.obj id _ ho);rw[hb]at e1;cases e1;have hw:=gj hg hF;have hlt:¬pos<s.size:=of_decide_eq_false hp;have hrun:(execOp a.eval o).run P w= .ok (.value (.tuple #[.bool false])) w:=by
   simp[execOp,hop,hv,Instr.next,getObj,setObj,Sem.run,e2,hlt,Result.andThen]
  have hres:bk ι w st (.tuple [.bool false].toArray) (Xm [.bool false]):=IZ rfl;refine wpList_step fun K hK=> ?_
  rw[if_pos hw];simp only[Oper.wp,hrun,Oper.upon];exact hK _ _ (hk _ _ _ hR (oI hput hF hres))
end
section
variable {P:Program} {n n0:Nat} {lz an:List Nat} {Q:QT} {fr:Fr} {st:St} {c:Code} {ops:Array Oper} {l:List Oper}
theorem Gm{st:St}{id:Nat}{o:cY}(h:(st++[cY.dead])[id]? =some o)(ha:o.alive):id<st.length∧st[id]? =some o:=by
 by_cases hid:id<st.length
 ·rw[E2 hid]at h;exact⟨hid,h⟩
 ·have:id=st.length:=by
   have:=(tz.1 h).1;simp at this;omega
  subst this;simp at h;subst h;exact absurd rfl ha
theorem Wv{ι:IM}{w:World}(r:km ι w st)(b:Option Nat):
  km (ι.add st.length b) w (st++[.dead])∧cT all ι w st (ι.add st.length b) w (st++[.dead]):=by
 have own:∀x,CC (ι.add st.length b) (st++[.dead]) x→CC ι st x:=by
  rintro x ⟨id,o,h1,h2,h3⟩;obtain⟨g1,g2⟩:=Gm h1 h2;simp only[IM.add,if_neg (Nat.ne_of_lt g1)]at h3;exact⟨id,o,g2,h2,h3⟩
 have k:cT all ι w st (ι.add st.length b) w (st++[.dead]):=
  ⟨rfl,rfl,rfl,iO _,rfl,fun x _ hm=>⟨rfl,fun hm'=>hm (own x hm')⟩,fun id _ hid=>⟨by simp;omega,by simp[IM.add,Nat.ne_of_lt hid]⟩,fun _ c _ _ h=>⟨c,h,rfl⟩⟩
 refine⟨⟨fun id o hid=> ?_,r.amb,fun x hx=>r.dis x (own x hx),fun id id' o o' x h1 h2 a1 a2 e1 e2=> ?_,r.glk k⟩,k⟩
 ·by_cases ha:o= .dead
  ·subst ha;trivial
  ·obtain⟨g1,g2⟩:=Gm hid ha;have h0:=r.obj id o g2;have hm:(ι.add st.length b) id=ι id:=by simp[IM.add,Nat.ne_of_lt g1]
   cases o with
   |dead=>trivial
   |box cells=>
    obtain⟨b',vs,ty,e,hb',hl⟩:=h0;exact⟨b',vs,ty,hm.trans e,hb',hl.mono' k⟩
   |rel Rm ps=>
    obtain⟨b',ob,vs0,e,hb',hr0,hl0⟩:=h0;exact⟨b',ob,vs0,hm.trans e,hb',hr0,hl0.map fun _ _ h0=>k.pure h0⟩
   |arr sz els=>
    rcases h0 with⟨e,he⟩ |⟨b',c,ty,e,hb',h1,h2,h3⟩
    ·exact .inl ⟨hm.trans e,he⟩
    ·refine .inr ⟨b',c,ty,hm.trans e,hb',h1,h2,fun i e' j cv a1 a2=> ?_⟩;obtain⟨v,hv,hr⟩:=h3 i e' j cv a1 a2;exact⟨v,hv,k.pure hr⟩
 ·obtain⟨g1,g2⟩:=Gm h1 a1;obtain⟨q1,q2⟩:=Gm h2 a2;simp only[IM.add,if_neg (Nat.ne_of_lt g1)]at e1;simp only[IM.add,if_neg (Nat.ne_of_lt q1)]at e2;exact r.inj id id' o o' x g2 q2 a1 a2 e1 e2
theorem GE.refl(w:World)(b:Nat):GE w w b:=⟨rfl,rfl,rfl,rfl,fun _ _=>rfl,fun c _ _ h=>⟨c,h,rfl⟩⟩
theorem Vq{ι:IM}{w:World}(r:km ι w st){id j:Nat}{cells:List CV}{c c':CV}(hid:st[id]? =some (.box cells))(hj:cells[j]? =some c)(h:∀v,ej ι w st v c→ej ι w st v c'):
  km ι w (st.set id (.box (cells.set j c')))∧cT all ι w st ι w (st.set id (.box (cells.set j c'))):=by
 obtain⟨b,vs,ty,e1,e2,e3⟩:=r.obj id _ hid;have ha:cY.alive (.box cells):=by simp[cY.alive]
 have k:=uv (body':= .box (cells.set j c')) hid ha e1 (GE.refl w b);refine⟨r.set hid ha e1 (GE.refl w b) ⟨b,vs,ty,e1,e2,?_⟩,k⟩;refine ii.mono' k ⟨by simp[e3.1],fun i v d h1 h2=> ?_⟩;by_cases e:i=j
 ·subst e;have hlt:=(tz.1 hj).1;rw[List.getElem?_set_self hlt]at h2;cases h2;exact h v (e3.2 i v c h1 hj)
 ·rw[List.getElem?_set_ne (Ne.symm e)]at h2;exact e3.2 i v d h1 h2
theorem zf.stale(bx j id sz off len:Nat)(cells:List CV)(hb:st[bx]? =some (.box cells))(hj:cells[j]? =some (.sl id sz off len))(st':St)(hs:(st++[cY.dead]).set bx (.box (cells.set j (.sl st.length sz off len)))=st'):
  zf n n0 lz fr st fr st':=by
 subst hs;intro ι w a hR hF;obtain⟨r1,k1⟩:=Wv (st:=st) hR (ι id);have hlt:=(tz.1 hb).1;have hne:∀v,ej (ι.add st.length (ι id)) w (st++[.dead]) v (.sl id sz off len)→ej (ι.add st.length (ι id)) w (st++[.dead]) v (.sl st.length sz off len):=by
  intro v hv;have hnew:(ι.add st.length (ι id)) st.length=ι id:=by simp[IM.add]
  have hold:∀b,(ι.add st.length (ι id)) id=b→ι id=b:=by
   intro b h;by_cases e:id=st.length
   ·simp[IM.add,e]at h;rw[e];exact h
   ·simpa [IM.add,e]using h
  cases hv with
  |sl _ _ _ _ b cap hid hb hcap hc=>exact .sl st.length sz off len b cap (by simp) (hnew.trans (hold _ hb)) hcap hc
  |sn _ _ hid hb=>exact .sn st.length sz (by simp) (hnew.trans (hold _ hb))
 obtain⟨r2,k2⟩:=Vq r1 (id:=bx) (j:=j) (cells:=cells) (by rw[E2 hlt];exact hb) hj hne;have k:=k1.trans k2;exact⟨_,r2,hF.mono' k,k.weaken (fun _ _=>trivial)⟩
theorem zf.listb(bx j sz:Nat)(cells:List CV)(hb:st[bx]? =some (.box cells))(hj:cells[j]? =some (.pv (.s (.slice none 0 0))))(st':St)(hs:(st++[cY.arr sz []]).set bx (.box (cells.set j (.sl st.length sz 0 0)))=st'):
  zf n n0 lz fr st fr st':=by
 subst hs;intro ι w a hR hF;obtain⟨r1,k1,hv0⟩:=Jc (ι:=ι) (w:=w) (st:=st) hR sz;have hlt:=(tz.1 hb).1;have hne:∀v,ej (ι.add st.length none) w (st++[.arr sz []]) v (.pv (.s (.slice none 0 0)))→ej (ι.add st.length none) w (st++[.arr sz []]) v (.sl st.length sz 0 0):=by
  intro v hv;have:=cn (bk.one _ _ hv);subst this;exact hv0
 obtain⟨r2,k2⟩:=Vq r1 (id:=bx) (j:=j) (cells:=cells) (by rw[E2 hlt];exact hb) hj hne;have k:=k1.trans k2;exact⟨_,r2,hF.mono' k,k.weaken (fun _ _=>trivial)⟩
theorem zf.softb(bx j:Nat)(cells:List CV)(hb:st[bx]? =some (.box cells))(hj:cells[j]? =some (.pv (.s (.slice none 0 0))))(st':St)(hs:st.set bx (.box (cells.set j (.pv (.ro []))))=st'):
  zf n n0 lz fr st fr st':=by
 subst hs;intro ι w a hR hF;obtain⟨r2,k2⟩:=Vq hR (id:=bx) (j:=j) (cells:=cells) hb hj (c':= .pv (.ro [])) (fun v hv=>hv.le .nl);exact⟨_,r2,hF.mono' k2,k2.weaken (fun _ _=>trivial)⟩
theorem ub.cutMOk{α:Type}(E:ub α){xs:List α}{l h m:Int}(g:0≤l∧l≤h∧h≤m∧m≤(xs.length:Int)):(0≤l∧l≤h∧h≤m∧m≤((E.els xs).length:Int))∧kf E.sz (E.els xs):=
 ⟨by rw[E.len];exact g,E.ok xs⟩
end
structure TJ(κ:Type) where
 enc:κ→Value
 desc:TypeDesc
 eq:κ→κ→Bool
 same:∀a b,Instr.sameNow desc (enc a) (enc b)=some (eq a b)
 bits:∀a b,eq a b=true→Instr.sameBits 10000 (enc b) (enc a)=true
 flat:∀(P:Program) (t:TypeId) (e:Bool) (a:κ) (w:World),P.underlying t=some desc→(Instr.checkKey e 10000 t (enc a)).run P w= .ok () w
structure acT(α:Type) where
 enc:α→Value
def wg(k:IntKind):TJ Int where
 enc n:= .int k n
 desc:= .int k
 eq a b:=a==b
 same a b:=by simp[Instr.sameNow]
 bits a b h:=by
  have:a=b:=by simpa using h
  subst this;simp[Instr.sameBits]
 flat P t e a w h:=by
  rw[show(10000:Nat)=9999+1 from rfl,Instr.checkKey];simp[run_underlying h]
def Ae:TJ ByteArray where
 enc s:= .string s
 desc:= .string
 eq a b:=a==b
 same a b:=by simp[Instr.sameNow]
 bits a b h:=by
  have h':(a.data==b.data)=true:=h;have e:a.data=b.data:=by simpa using h'
  show(b.data==a.data)=true;simp[e]
 flat P t e a w h:=by
  rw[show(10000:Nat)=9999+1 from rfl,Instr.checkKey];simp[run_underlying h]
section
variable {κ α:Type} (K:TJ κ) (E:acT α)
def yn:List (κ×α)→Nat→List MapEntry
 |[],_=>[]
 |(k,v)::l,i=>⟨K.enc k,E.enc v,i⟩::yn l (i+1)
def Bo(m:List (κ×α)):Obj:= .map (yn K E m 0).toArray m.length
def jQ(m:List (κ×α))(k:κ):Option α:=match m with
 |[]=>none
 |(k',v)::l=>if K.eq k k' then some v else jQ l k
def lj(m:List (κ×α))(k:κ)(v:α):List (κ×α):=match m with
 |[]=>[(k,v)]
 |(k',v')::l=>if K.eq k k' then(k,v)::l else(k',v')::lj l k v
def BE(m:List (κ×α))(k:κ):Option Nat:=match m with
 |[]=>none
 |(k',_)::l=>if K.eq k k' then some 0 else(BE l k).map (·+1)
theorem I2:∀(m:List (κ×α)) (k:κ) (i b:Nat),Instr.findNow K.desc (K.enc k) (yn K E m b) i=some ((BE K m k).bind fun j=>(jQ K m k).map fun v=>(i+j,E.enc v))
 |[],k,i,b=>by simp[yn,Instr.findNow,BE]
 |(k',v)::l,k,i,b=>by
  simp only[yn,Instr.findNow,K.same];cases h:K.eq k k' with
  |true=>simp[BE,jQ,h]
  |false=>
   simp only[BE,jQ,h,if_false,Bool.false_eq_true];rw[I2 l k (i+1) (b+1)];cases BE K l k with
   |none=>rfl
   |some j=>
    cases jQ K l k with
    |none=>rfl
    |some u=>simp;omega
theorem Ky:∀(m:List (κ×α)) (k:κ),(BE K m k).isSome=(jQ K m k).isSome
 |[],k=>rfl
 |(k',v)::l,k=>by
  simp only[BE,jQ];cases h:K.eq k k' with
  |true=>simp
  |false=>simpa using Ky l k
theorem Lo:∀(m:List (κ×α)) (k:κ) (v:α) (b:Nat),BE K m k=none→yn K E (lj K m k v) b=yn K E m b++[⟨K.enc k,E.enc v,b+m.length⟩]
 |[],k,v,b,_=>by simp[lj,yn]
 |(k',v')::l,k,v,b,h=>by
  simp only[BE]at h;cases hq:K.eq k k' with
  |true=>simp[hq]at h
  |false=>
   simp only[hq,if_false,Bool.false_eq_true,Option.map_eq_none_iff]at h;simp only[lj,hq,if_false,Bool.false_eq_true,yn,Lo l k v (b+1) h,List.cons_append,List.length_cons];rw[show b+1+l.length=b+(l.length+1) by omega]
theorem ER:∀(m:List (κ×α)) (k:κ) (v:α),BE K m k=none→(lj K m k v).length=m.length+1
 |[],k,v,_=>rfl
 |(k',v')::l,k,v,h=>by
  simp only[BE]at h;cases hq:K.eq k k' with
  |true=>simp[hq]at h
  |false=>
   simp only[hq,if_false,Bool.false_eq_true,Option.map_eq_none_iff]at h;simp[lj,hq,ER l k v h]
theorem LA:∀(m:List (κ×α)) (k:κ) (v:α) (b j:Nat),BE K m k=some j→
  ∃e:MapEntry,(yn K E m b)[j]? =some e∧(∃k',e.key=K.enc k'∧K.eq k k'=true)∧yn K E (lj K m k v) b=(yn K E m b).modify j (fun e=>{e with key:=K.enc k,val:=E.enc v})∧(lj K m k v).length=m.length
 |[],k,v,b,j,h=>by simp[BE]at h
 |(k',v')::l,k,v,b,j,h=>by
  simp only[BE]at h;cases hq:K.eq k k' with
  |true=>
   simp[hq]at h;subst h;exact⟨_,rfl,⟨k',rfl,hq⟩,by simp[lj,hq,yn],by simp[lj,hq]⟩
  |false=>
   simp only[hq,if_false,Bool.false_eq_true,yT]at h;obtain⟨j',h,rfl⟩:=h;obtain⟨e,h1,h2,h3,h4⟩:=LA l k v (b+1) j' h;refine⟨e,by simpa [yn]using h1,h2,?_,by simp[lj,hq,h4]⟩;simp only[lj,hq,if_false,Bool.false_eq_true,yn,h3,List.modify_succ_cons]
variable {P:Program} {n n0:Nat} {lz an:List Nat} {Q:QT} {fr:Fr} {st:St} {c:Code} {ops:Array Oper} {l:List Oper}
def Ns(ops:Array Oper)(l:List Oper)(fr:Fr):Bool:=
 match l with
 |o::_=>match fx ops o fr with
  |some true=>match o.op with
   | .makeMap _ none=>true
   |_=>false
  |_=>false
 |[]=>false
theorem VN{ι:IM}{w:World}{v:Value}{id:Nat}(h:bk ι w st v (.one (.mp id))):∃b,v= .map (some b)∧id<st.length∧ι id=some b:=by
 cases h with
 |one _ _ h=>
  cases h with
  |mp _ b hid hb=>exact⟨b,rfl,hid,hb⟩
theorem OF{kt:TypeId}(hkt:P.underlying kt=some K.desc)(m:List (κ×α))(k:κ)(w:World):
  (Instr.findKey kt (K.enc k) (yn K E m 0)).run P w= .ok ((BE K m k).bind fun j=>(jQ K m k).map fun v=>(j,E.enc v)) w:=by
 simp[Instr.findKey,run_underlying hkt,I2]
end
section
variable {P:Program} {n n0:Nat} {lz an:List Nat} {Q:QT} {fr:Fr} {st:St} {c:Code} {ops:Array Oper} {X:List Nat} {l:List Oper} {tw:List (List Nat×List Nat)} {fr2:Fr} {st2:St}
end
section
variable {P:Program}
end
section
variable {P:Program} {n n0:Nat} {lz an:List Nat} {Q:QT} {fr:Fr} {st:St} {c:Code} {ops:Array Oper} {X:List Nat} {l:List Oper} {tw:List (List Nat×List Nat)} {fr2:Fr} {st2:St}
def LL(L:Nat)(rs:List Nat)(sc sc':St)(avs:List AV):Bool:=
 ((Jf rs&&Jl L rs)&&(Nat.beq rs.length sc.length&&Nat.ble sc.length sc'.length))&&(gO (fun i=>Nat.ble (i+1) sc.length) sc&&avs.all (ff (fun i=>Nat.ble (i+1) sc.length)))
def GR(rs L:List Nat):Nat→St→Bool
 |_,[]=>true
 |i,o::l=>(bq rs i||nJ (fun q=> !bq L q) o)&&GR rs L (i+1) l
theorem Ij{rs L:List Nat}:∀{st:St} {i:Nat},GR rs L i st=true→∀(j:Nat) o,st[j]? =some o→i+j∉rs→nJ (fun q=> !bq L q) o=true
 |[],i,_,j,o,h,_=>by simp at h
 |x::l,i,h,j,o,hj,hn=>by
  simp only[GR,iu,Bool.or_eq_true]at h;cases j with
  |zero=>
   simp at hj;subst hj;rcases h.1 with h1|h1
   ·exact absurd (gD.1 h1) hn
   ·exact h1
  |succ j=>exact Ij h.2 j o (by simpa using hj) (by rw[show i+1+j=i+(j+1) by omega];exact hn)
theorem MX.use'{g:Nat}{avs:List AV}{sc sc':St}{lo:List Nat}{r:AV}(h:MX P g avs sc lo r sc'){st:St}(rs:List Nat)(hb:LL st.length rs sc sc' avs=true)(hst:rs.map (fun x=>st[x]?)=sc.map (fun o=>some (xH (oo rs st.length) o)))
  (hbox:∀(id:Nat) o,st[id]? =some o→id∉rs→nJ (fun q=> !bq (lo.map (oo rs st.length)) q) o=true)
  {ι:IM}{w:World}{vs:List Value}(hR:km ι w st)(hA:Eh ι w st vs (avs.map (Aj (oo rs st.length)))):
  Calls P g vs.toArray w fun e w'=>∃v ι',e= .returned v∧km ι' w' (ja st rs ((sc'.take sc.length).map (xH (oo rs st.length)))++(sc'.drop sc.length).map (xH (oo rs st.length)))∧
   bk ι' w' (ja st rs ((sc'.take sc.length).map (xH (oo rs st.length)))++(sc'.drop sc.length).map (xH (oo rs st.length))) v (Aj (oo rs st.length) r)∧
   cT (fun id=>id∉lo.map (oo rs st.length)) ι w st ι' w' (ja st rs ((sc'.take sc.length).map (xH (oo rs st.length)))++(sc'.drop sc.length).map (xH (oo rs st.length))):=by
 unfold LL at hb;simp only[iu]at hb;obtain⟨⟨⟨h1,h2⟩,h3,h4⟩,h5,h6⟩:=hb;exact h.use rs (Fq h1) h2 (we h3) (CY h4) hst h5 (fun a ha=>List.all_eq_true.1 h6 a ha) hbox hR hA
theorem GY.calx(g:Nat)(avs:List AV)(sc sc':St)(lo:List Nat)(r:AV)(rs L:List Nat)(fr1:Fr)(T:List Nat)(st':St)(ht:tw.head? =some (yx X T,T++L.map (·+1000)))(hq:Ug st T=true)(hc:Mx P n ops l fr=some (g,avs.map (Aj (oo rs st.length))))(h:MX P g avs sc lo r sc')
  (hb:(Ju st.length rs sc sc' avs&&(L.all (bq X)&&L.all (bq T)))=true)(hL:lo.map (oo rs st.length)=L)(hst:rs.map (fun x=>st[x]?)=sc.map (fun o=>some (xH (oo rs st.length) o)))(hst':ja st rs (sc'.map (xH (oo rs st.length)))=st')
  (hT:(match Og l with|some o=>(If ops o fr T&&ym n o)&&(ff (bq T) (Aj (oo rs st.length) r)&&rs.all (bq T)) |none=>false)=true)(hX:gO (fun i=> !bq X i) st'=true)
  (hput:(match Og l with|some o=>Lk o.dst (Aj (oo rs st.length) r) (s9 (fun id=> !bq L id) fr) |none=>fr)=fr1)
  (hk:GX P n ops X (l.drop 1) (tw.drop 1) fr1 st' fr2 st2):GX P n ops X l tw fr st fr2 st2:=by
 rw[X5 ht];cases ho:Og l with
 |none=>rw[ho]at hT;cases hT
 |some o=>
  rw[ho]at hT hput;have hT2:((If ops o fr T&&ym n o)&&(ff (bq T) (Aj (oo rs st.length) r)&&rs.all (bq T)))=true:=hT;simp only[iu]at hT2;obtain⟨⟨t1,t2⟩,t3,t4⟩:=hT2;have hput2:Lk o.dst (Aj (oo rs st.length) r) (s9 (fun id=> !bq L id) fr)=fr1:=hput;subst hput2;have hl:=FW ho;rw[hl]at hc⊢;simp only[Mx]at hc;split at hc
  ·rename_i hg;have hcall:C2 P o (iz ops o fr)=some (g,avs.map (Aj (oo rs st.length))):=by
    have h2:=t2;unfold ym at h2;cases hdd:o.dst with
    |none=>simpa [hdd]using hc
    |some d=>
     rw[hdd]at h2;have h3:Nat.ble (d+1) n=true:=h2;simpa [hdd,h3]using hc
   simp only[iu]at hb;have hC:=LW hb.1;have hLX:∀x∈L,bq X x=true:=fun x hx=>List.all_eq_true.1 hb.2.1 x hx
   have hLT:∀x∈L,bq T x=true:=fun x hx=>List.all_eq_true.1 hb.2.2 x hx
   have hlen':st'.length=st.length:=by rw[←hst',nL]
   have hrsT:∀x∈rs,bq T x=true:=fun x hx=>List.all_eq_true.1 t4 x hx
   have hoff:∀(q:St) (bs:List cY) id,bq T id=false→(ja q rs bs)[id]? =q[id]? :=fun q bs id hid=>yV rs bs q (fun hm=>by rw[hrsT id hm]at hid;cases hid)
   refine GX.cons0 (s:=⟨Aj (oo rs st.length) r,T,T,L,st'⟩) hq ⟨BB t2,hlen',fun id hw=>by rw[←hst'];exact hoff _ _ id hw,fun id h=>h,fun id h=>⟨hLT id (gD.1 h),hLX id (gD.1 h)⟩,Ft t1,Yg t3,Wk hX,.inl ⟨hg,?_⟩⟩ hk;intro s1 ι w act hl' hT' hX' hR hF K Q hK;obtain⟨vs,hrun,hA⟩:=Ac hcall hF;simp only[Oper.wp,hrun,Oper.upon];have hst1:rs.map (fun x=>s1[x]?)=sc.map (fun o=>some (xH (oo rs s1.length) o)):=by
    rw[hl',←hst];exact List.map_congr_left (fun x hx=>hT' x (hrsT x hx))
   rw[←hl']at hA;have hcx:LL s1.length rs sc sc' avs=true:=by
    have h0:=hb.1;rw[←hl']at h0;unfold Ju at h0;unfold LL;simp only[iu]at h0⊢;obtain⟨⟨q1,q2,q3⟩,q4⟩:=h0;exact⟨⟨q1,q2,Nat.ble_eq_true_of_le (by rw[we q3];exact iO _)⟩,q4⟩
   refine(h.use' rs hcx hst1 (by
    rw[hl',hL];exact fun id o ho _=>nD (Ru hX') id o ho) hR hA).mono ?_
   rintro e w' ⟨v,ι',rfl,hR',hv,k⟩;have z1:sc'.take sc.length=sc':=List.take_of_length_le (by rw[hC.le];exact iO _);have z2:sc'.drop sc.length=[]:=List.drop_of_length_le (by rw[hC.le];exact iO _);rw[z1,z2,List.map_nil,List.append_nil,hl']at hR' hv k;rw[hL]at k;have e:kR (bq T) 0 s1 st'=ja s1 rs (sc'.map (xH (oo rs st.length))):=by
    refine wy (by rw[eX _ _ _ (by omega),nL,hlen',hl']) (fun id hid=> ?_);rw[eX _ _ _ (by omega)]at hid;rw[iD _ _ _ _ (by omega),Nat.zero_add];cases hTi:bq T id with
    |false=>rw[hoff _ _ id hTi];simp;omega
    |true=>
     simp only[Bool.true_eq_false,and_false,if_false];rw[←hst'];by_cases hm:id∈rs
     ·obtain⟨i,hi,e⟩:=List.getElem_of_mem hm;have h1:rs[i]? =some id:=by rw[dK hi,e]
      have hi2:i<sc'.length:=by rw[hC.le,←hC.len];exact hi
      have h2:(sc'.map (xH (oo rs st.length)))[i]? =some (xH (oo rs st.length) sc'[i]):=by simp[hi2]
      rw[Ef rs _ st i hC.nd h1 h2 (by omega),Ef rs _ s1 i hC.nd h1 h2 (by omega)]
     ·rw[yV rs _ st hm,yV rs _ s1 hm,hT' id hTi]
   exact hK v w' ι' (by rw[e];exact hv) (by rw[e];exact hR') (by rw[e];exact k.weaken (fun id hid hm=>by rw[gD.2 hm]at hid;cases hid))
  ·simp at hc
end
def KK(a b:Nat)(i:Nat):Nat:=bif Nat.beq i a then b else bif Nat.beq i b then a else i
theorem Nat.beq_eq_false{i a:Nat}(h:i≠a):Nat.beq i a=false:=by
 cases hb:Nat.beq i a with
 |false=>rfl
 |true=>exact absurd (we hb) h
theorem V8{a b:Nat}:KK a b a=b:=by simp[KK]
theorem Vp{a b:Nat}:KK a b b=a:=by
 unfold KK;cases h:Nat.beq b a with
 |true=>have:=we h;simp[this]
 |false=>simp
theorem RJ{a b i:Nat}(h1:i≠a)(h2:i≠b):KK a b i=i:=by
 unfold KK;rw[Nat.beq_eq_false h1,Nat.beq_eq_false h2];rfl
theorem Jb{a b:Nat}(i:Nat):KK a b (KK a b i)=i:=by
 by_cases h1:i=a
 ·subst h1;rw[V8,Vp]
 by_cases h2:i=b
 ·subst h2;rw[Vp,V8]
 rw[RJ h1 h2,RJ h1 h2]
theorem QB{a b n i:Nat}(ha:a<n)(hb:b<n)(hi:i<n):KK a b i<n:=by
 by_cases h1:i=a
 ·subst h1;rw[V8];exact hb
 by_cases h2:i=b
 ·subst h2;rw[Vp];exact ha
 rw[RJ h1 h2];exact hi
def Ev(a b:Nat)(st:St):St:=(List.range st.length).map fun i=>xH (KK a b) ((st[KK a b i]?).getD .dead)
def RO(a b:Nat)(fr:Fr):Fr:=fr.map fun x=>(x.1,Aj (KK a b) x.2)
section
variable {n n0:Nat} {lz:List Nat} {fr:Fr} {st:St}
theorem LN(a b:Nat):(Ev a b st).length=st.length:=by simp[Ev]
theorem Eg{a b i:Nat}(ha:a<st.length)(hb:b<st.length){o:cY}:(Ev a b st)[i]? =some o↔∃o',st[KK a b i]? =some o'∧o=xH (KK a b) o':=by
 unfold Ev;by_cases hi:i<st.length
 ·have h2:=QB ha hb hi;rw[List.getElem?_map,List.getElem?_range hi,Option.map_some,dK h2,Option.getD_some];constructor
  ·intro h;exact⟨_,rfl,(Option.some.inj h).symm⟩
  ·rintro⟨o',h,rfl⟩;cases h;rfl
 ·have h2:¬KK a b i<st.length:=fun h=>hi (by have:=QB ha hb h;rwa [Jb]at this)
  rw[List.getElem?_eq_none (by simp;omega),List.getElem?_eq_none (by omega)];simp
theorem Wa(a b:Nat):∀(fr:Fr) (t:Nat),lk (RO a b fr) t=Aj (KK a b) (lk fr t)
 |[],_=>rfl
 |(d,av)::fr,t=>by
  simp only[RO,List.map_cons,lk];cases Nat.beq d t with
  |true=>rfl
  |false=>exact Wa a b fr t
theorem zf.swap(a b:Nat)(fr':Fr)(st':St)(hlt:(Nat.ble (a+1) st.length&&Nat.ble (b+1) st.length)=true)(hf:(A2 n0 lz a||A2 n0 lz b)=false)(hfr:RO a b fr=fr')(hst:Ev a b st=st'):
  zf n n0 lz fr st fr' st':=by
 subst hfr;subst hst;simp only[iu]at hlt;have ha:=CY hlt.1;have hb:=CY hlt.2;simp only[Bool.or_eq_false_iff]at hf;intro ι w act hR hF
 let ι':IM:=⟨fun i=>ι (KK a b i),ι.amb⟩
 have own:∀x,CC ι' (Ev a b st) x→CC ι st x:=by
  rintro x ⟨i,o,h1,h2,h3⟩;obtain⟨o',e1,rfl⟩:=(Eg ha hb).1 h1;exact⟨_,o',e1,mC.1 h2,h3⟩
 have hmut:∀x,o5 ι' (Ev a b st) x→o5 ι st x:=fun x h=>h.imp id (own x)
 have hl:∀i,i<st.length→KK a b i<(Ev a b st).length∧ι' (KK a b i)=ι i:=fun i hi=>⟨by rw[LN];exact QB ha hb hi,by show ι (KK a b (KK a b i))=ι i;rw[Jb]⟩
 have k:cT (Of n0 lz) ι w st ι' w (Ev a b st):=
  ⟨rfl,rfl,rfl,iO _,rfl,fun x _ hm=>⟨rfl,fun hm'=>hm (own x hm')⟩,fun id hfix hid=>⟨by rw[LN];exact hid,by
   have hfix':A2 n0 lz id=true:=hfix;show ι (KK a b id)=ι id;rw[RJ (by rintro rfl;rw[hf.1]at hfix';cases hfix') (by rintro rfl;rw[hf.2]at hfix';cases hfix')]⟩,fun x c ty fz h=>⟨c,h,rfl⟩⟩
 refine⟨ι',⟨fun i o hi=> ?_,hR.amb,fun x hx=>hR.dis x (own x hx),fun i j o o' x h1 h2 a1 a2 e1 e2=> ?_,hR.glk k⟩,⟨hF.defers,hF.size,fun t=> ?_⟩,k⟩
 ·obtain⟨o',e1,rfl⟩:=(Eg ha hb).1 hi;have:=hR.obj _ o' e1;cases o' with
  |dead=>trivial
  |box cells=>
   obtain⟨b',vs,ty,e,hb',hl'⟩:=this;exact⟨b',vs,ty,e,hb',hl'.ren hmut hl⟩
  |rel Rm ps=>
   obtain⟨b',ob,vs0,e,hb',hr0,hl0⟩:=this;exact⟨b',ob,vs0,e,hb',hr0,hl0.map fun _ _ h0=>h0.mono (iO _) (fun b _ hb=>⟨rfl,fun h'=>hb (hmut b h')⟩)⟩
  |arr sz els=>
   rcases this with⟨e,he⟩ |⟨b',c,ty,e,hb',g1,g2,g3⟩
   ·exact .inl ⟨e,he⟩
   ·refine .inr ⟨b',c,ty,e,hb',g1,g2,fun i' e' j cv a1 a2=> ?_⟩;obtain⟨v,hv,hr⟩:=g3 i' e' j cv a1 a2;exact⟨v,hv,hr.mono (iO _) (fun b _ hb=>⟨rfl,fun h'=>hb (hmut b h')⟩)⟩
 ·obtain⟨p,p1,rfl⟩:=(Eg ha hb).1 h1;obtain⟨q,q1,rfl⟩:=(Eg ha hb).1 h2;have:=hR.inj _ _ p q x p1 q1 (mC.1 a1) (mC.1 a2) e1 e2;rw[←Jb (a:=a) (b:=b) i,←Jb (a:=a) (b:=b) j,this]
 ·rw[Wa];exact(hF.slot t).ren hmut hl
end
end Go.SX
namespace Go.SX
open Go
section
variable {n n0:Nat} {lz:List Nat} {fr:Fr} {st:St}
end
end Go.SX
namespace Go.SX
open Go
section
variable {n n0:Nat} {lz:List Nat} {fr:Fr} {st:St}
def Cw(L:List Nat):Nat→St→St
 |_,[]=>[]
 |i,b::l=>(bif bq L i then b else .dead)::Cw L (i+1) l
theorem Fh(L:List Nat):∀(l:St) (i j:Nat),(Cw L i l)[j]? =(l[j]?).map fun b=>bif bq L (i+j)then b else .dead
 |[],_,_=>by simp[Cw]
 |b::l,i,0=>by simp[Cw]
 |b::l,i,j+1=>by simp only[Cw,List.getElem?_cons_succ];rw[Fh L l (i+1) j,show i+1+j=i+(j+1) by omega]
theorem zf.only{fr':Fr}{st':St}(L:List Nat)(m:Nat)(hL:((List.range n0).all (bq L)&&L.all (fun x=>Nat.ble (x+1) m))=true)(hf:s9 (bq L) fr=fr')(hst:Cw L 0 (st.take m)=st')(hi:gO (bq L) st'=true):
  zf n n0 lz fr st fr' st':=by
 subst hf;subst hst;simp only[iu,List.all_eq_true]at hL;intro ι w a hR hF;have hs:IH (bq L) st (Cw L 0 (st.take m)):=by
  refine⟨fun id o h=> ?_,fun id hq hid=> ?_⟩
  ·rw[Fh,yT]at h;obtain⟨b,h1,rfl⟩:=h;rw[Nat.zero_add];cases hq:bq L id with
   |false=>exact .inl rfl
   |true=>
    rw[List.getElem?_take]at h1;split at h1
    ·exact .inr ⟨rfl,h1⟩
    ·cases h1
  ·have h1:=CY (hL.2 id (gD.1 hq));have h2:(Cw L 0 (st.take m))[id]? ≠none:=by
    rw[Fh,List.getElem?_take,if_pos (show id<m from h1),dK hid];simp
   exact Nat.lt_of_not_le fun h=>h2 (List.getElem?_eq_none h)
 obtain⟨r1,k1⟩:=hR.shrink hs hi;refine⟨ι,r1,hF.keep k1 (q:=bq L) (fun _ h _=>h),k1.weaken (fun id h=> ?_)⟩;have h1:A2 n0 lz id=true:=h;simp only[A2,iu]at h1;exact hL.1 id (List.mem_range.2 (CY h1.1))
end
section
variable {P:Program} {n n0:Nat} {lz:List Nat} {Q:QT} {fr:Fr} {st:St} {c:Code} {ops:Array Oper} {fn:Func} {p:List Nat}
theorem zs(h:Q .normal fr st)(he:c= .skip:=by kernel_rfl):XW P n n0 lz c Q fr st:=XW.skip he h
def aer(o:Option (Exit×Fr×St×List Prop)):Option (List Prop):=match o with
 |some (.normal,_,_,ob)=>some ob
 |_=>none
def rF(o:Option (Exit×Fr×St×List Prop)):Fr:=match o with
 |some (_,f,_,_)=>f
 |none=>[]
def rS(o:Option (Exit×Fr×St×List Prop)):St:=match o with
 |some (_,_,s,_)=>s
 |none=>[]
theorem zo{l:List Oper}(an:List Nat)(k:Nat)(ts:List Nat)(hs:HS)(ob:List Prop)(hob:nw ob)
  (hk:XO P n n0 lz ops (l.drop k) Q (rF (Py ts (CH P n n0 lz an ops (l.take k) fr st hs))) (rS (Py ts (CH P n n0 lz an ops (l.take k) fr st hs))))
  (h:aer (Py ts (CH P n n0 lz an ops (l.take k) fr st hs))=some ob:=by kernel_rfl):XO P n n0 lz ops l Q fr st:=by
 generalize hr:Py ts (CH P n n0 lz an ops (l.take k) fr st hs)=r at*
 match r,h with
 |some (.normal,f,s,ob'),h=>
  obtain rfl:=Option.some.inj h;exact XO.go an k ts hs f s ob' hr hob hk
def pF(o:Option Fr):Fr:=o.getD []
theorem za{l:List Oper}{g:Nat}{avs:List AV}{r:AV}(h:PC P g avs r)(hk:XO P n n0 lz ops (l.drop 1) Q (pF (GJ n l r fr)) st)(hc:vY P n ops l fr=some (g,avs):=by kernel_rfl)(hp:wz avs=true:=by kernel_rfl)(hr:At r=true:=by kernel_rfl)
  (hput:(GJ n l r fr).isSome=true:=by kernel_rfl):XO P n n0 lz ops l Q fr st:=by
 obtain⟨f,hf⟩:=Option.isSome_iff_exists.1 hput;rw[hf]at hk;exact XO.callp hc h hp hr hf hk
def lob:HS→List Prop
 |[]=>[]
 |x::l=>(([x]:List (List PV))[0]? =some x)::lob l
theorem WR:∀hs:HS,nw (lob hs)
 |[]=>trivial
 |x::l=>⟨rfl,WR l⟩
theorem zv{l:List Oper}(an:List Nat)(k:Nat)(ts:List Nat)(hs:HS)(fr':Fr)(st':St)
 (hk:XO P n n0 lz ops (l.drop k) Q fr' st')(h:Py ts (CH P n n0 lz an ops (l.take k) fr st hs)=some (.normal,fr',st',lob hs):=by kernel_rfl):XO P n n0 lz ops l Q fr st:=XO.go an k ts hs fr' st' _ h (WR hs) hk
theorem zl{l:List Oper}(g:Nat)(avs:List AV)(r:AV)(fr1:Fr)(h:PC P g avs r)(hk:XO P n n0 lz ops (l.drop 1) Q fr1 st)(hc:vY P n ops l fr=some (g,avs):=by kernel_rfl)(hp:wz avs=true:=by rfl)(hr:At r=true:=by rfl)
 (hput:GJ n l r fr=some fr1:=by kernel_rfl):XO P n n0 lz ops l Q fr st:=XO.callp hc h hp hr hput hk
theorem LQ(xs:List Int):sR ((eK .i32).els xs)=xs:=by
 rw[(eK .i32).hels];simp only[sR,List.map_map];exact(List.map_congr_left (fun x _=>rfl)).trans (List.map_id xs)
theorem Rf(xs:List Int):F0 ((eK .i32).els xs):=by
 unfold F0;rw[LQ,(eK .i32).hels];rfl
theorem KS(xs:List Int):Ab ((eK .i32).els xs)=runesBytes xs:=by
 unfold Ab;rw[LQ]
theorem QM(s:ByteArray):yQ s=(eK .i32).els (ig s):=by
 unfold yQ;rw[(eK .i32).hels];rfl
theorem ub.ne{α:Type}(E:ub α){xs:List α}(h:xs≠[]):E.els xs≠[]:=by
 rw[E.hels];intro e;exact h (List.map_eq_nil_iff.1 e)
def oj(s:ByteArray):List Int:=s.data.toList.map fun b=>(b.toNat:Int)
theorem JV(s:ByteArray):ip s=(eK .u8).els (oj s):=by
 rw[(eK .u8).hels];unfold ip oj;rw[List.map_map];rfl
theorem IF(s:ByteArray):(ip s).length=(oj s).length:=by simp[ip,oj]
theorem Qt(s:ByteArray):kf 1 (ip s):=by rw[JV];exact(eK .u8).ok _
theorem Ng(ys:List Int)(s:ByteArray):ys.length+(ip s).length=(ys++oj s).length:=by rw[IF,List.length_append]
theorem OH(ys:List Int)(s:ByteArray):(eK .u8).els ys++ip s=(eK .u8).els (ys++oj s):=by rw[JV];exact(eK .u8).app2 _ _
end
section force
variable {β:Type}
def fN(n:Nat)(K:Nat→β):β:=
 bif Nat.beq n 0 then K 0 else bif Nat.beq n 1 then K 1 else bif Nat.beq n 2 then K 2 else bif Nat.beq n 3 then K 3 else
 bif Nat.beq n 4 then K 4 else bif Nat.beq n 5 then K 5 else bif Nat.beq n 6 then K 6 else bif Nat.beq n 7 then K 7 else
 bif Nat.beq n 8 then K 8 else bif Nat.beq n 9 then K 9 else bif Nat.beq n 10 then K 10 else bif Nat.beq n 11 then K 11 else
 bif Nat.beq n 12 then K 12 else bif Nat.beq n 13 then K 13 else K n
theorem ZH(n:Nat)(K:Nat→β):fN n K=K n:=by
 have h:∀(m:Nat) (r:β),r=K n→(bif Nat.beq n m then K m else r)=K n:=by
  intro m r hr;cases hb:Nat.beq n m with
  |true=>rw[we hb];rfl
  |false=>exact hr
 unfold fN;repeat first|exact rfl|apply h
def fV(v:Value)(K:Value→β):β:=match v with
 | .int k n=>K (.int k n)
 | .bool b=>K (.bool b)
 | .string s=>K (.string s)
 | .slice none 0 0=>K (.slice none 0 0)
 |v=>K v
theorem ac1(v:Value)(K:Value→β):fV v K=K v:=by unfold fV;split<;>rfl
def fP0(p:PV)(K:PV→β):β:=match p with
 | .s v=>fV v fun v=>K (.s v)
 | .ro els=>K (.ro els)
 | .rp els i off=>fN off fun off=>K (.rp els i off)
 | .fn f caps=>K (.fn f caps)
theorem V0(p:PV)(K:PV→β):fP0 p K=K p:=by unfold fP0;split<;>simp only[ac1,ZH]
def fPL:List PV→(List PV→β)→β
 |[],K=>K []
 |p::l,K=>fP0 p fun p=>fPL l fun l=>K (p::l)
theorem WD:∀(l:List PV) (K:List PV→β),fPL l K=K l
 |[],K=>rfl
 |p::l,K=>by simp only[fPL,V0,WD l]
def fP(p:PV)(K:PV→β):β:=match p with
 | .fn f caps=>fPL caps fun caps=>K (.fn f caps)
 |p=>fP0 p K
theorem ZM(p:PV)(K:PV→β):fP p K=K p:=by unfold fP;split<;>simp only[WD,V0]
def fC0(c:CV)(K:CV→β):β:=match c with
 | .pv p=>fP p fun p=>K (.pv p)
 | .pt id sz i off=>fN id fun id=>fN off fun off=>K (.pt id sz i off)
 | .sl id sz off len=>fN id fun id=>K (.sl id sz off len)
 | .fn f caps=>K (.fn f caps)
 | .mp id=>fN id fun id=>K (.mp id)
 | .cl els=>K (.cl els)
theorem Uq(c:CV)(K:CV→β):fC0 c K=K c:=by unfold fC0;split<;>simp only[ZM,ZH]
def fCL:List CV→(List CV→β)→β
 |[],K=>K []
 |p::l,K=>fC0 p fun p=>fCL l fun l=>K (p::l)
theorem Mg:∀(l:List CV) (K:List CV→β),fCL l K=K l
 |[],K=>rfl
 |p::l,K=>by simp only[fCL,Uq,Mg l]
def fC(c:CV)(K:CV→β):β:=match c with
 | .fn f caps=>fCL caps fun caps=>K (.fn f caps)
 |c=>fC0 c K
theorem aco(c:CV)(K:CV→β):fC c K=K c:=by unfold fC;split<;>simp only[Mg,Uq]
def fA0(a:AV)(K:AV→β):β:=match a with
 | .j=>K .j
 | .one c=>fC c fun c=>K (.one c)
 | .ag cs=>fCL cs fun cs=>K (.ag cs)
 | .tp vs=>K (.tp vs)
theorem UU(a:AV)(K:AV→β):fA0 a K=K a:=by unfold fA0;split<;>simp only[aco,Mg]
def fAL:List AV→(List AV→β)→β
 |[],K=>K []
 |p::l,K=>fA0 p fun p=>fAL l fun l=>K (p::l)
theorem UO:∀(l:List AV) (K:List AV→β),fAL l K=K l
 |[],K=>rfl
 |p::l,K=>by simp only[fAL,UU,UO l]
def fA(a:AV)(K:AV→β):β:=match a with
 | .tp vs=>fAL vs fun vs=>K (.tp vs)
 |a=>fA0 a K
theorem DZ(a:AV)(K:AV→β):fA a K=K a:=by unfold fA;split<;>simp only[UO,UU]
def fB(b:cY)(K:cY→β):β:=match b with
 | .box cells=>fCL cells fun cells=>K (.box cells)
 | .dead=>K .dead
 | .arr sz els=>K (.arr sz els)
 | .rel R ps=>K (.rel R ps)
theorem O5(b:cY)(K:cY→β):fB b K=K b:=by unfold fB;split<;>simp only[Mg]
def fS:St→(St→β)→β
 |[],K=>K []
 |p::l,K=>fB p fun p=>fS l fun l=>K (p::l)
theorem yq:∀(l:St) (K:St→β),fS l K=K l
 |[],K=>rfl
 |p::l,K=>by simp only[fS,O5,yq l]
def fF:Fr→(Fr→β)→β
 |[],K=>K []
 |(d,a)::l,K=>fA a fun a=>fF l fun l=>K ((d,a)::l)
theorem FH:∀(l:Fr) (K:Fr→β),fF l K=K l
 |[],K=>rfl
 |(d,a)::l,K=>by simp only[fF,DZ,FH l]
def fPD:List PV→(List PV→β)→β
 |[],K=>K []
 |p::l,K=>fP p fun p=>fPD l fun l=>K (p::l)
theorem V4:∀(l:List PV) (K:List PV→β),fPD l K=K l
 |[],K=>rfl
 |p::l,K=>by simp only[fPD,ZM,V4 l]
def fLL:List (List PV)→(List (List PV)→β)→β
 |[],K=>K []
 |p::l,K=>fPD p fun p=>fLL l fun l=>K (p::l)
theorem Q2:∀(l:List (List PV)) (K:List (List PV)→β),fLL l K=K l
 |[],K=>rfl
 |p::l,K=>by simp only[fLL,V4,Q2 l]
def ZU(a:AV)(K:AV→β):β:=match a with
 | .one (.pv (.ro els))=>fLL els fun els=>K (.one (.pv (.ro els)))
 |a=>fA a K
theorem YC(a:AV)(K:AV→β):ZU a K=K a:=by unfold ZU;split<;>simp only[Q2,DZ]
def Ze:St→(St→β)→β
 |[],K=>K []
 |[.arr sz els],K=>fLL els fun els=>K [.arr sz els]
 |p::l,K=>fB p fun p=>Ze l fun l=>K (p::l)
theorem Jg:∀(l:St) (K:St→β),Ze l K=K l
 |[],K=>rfl
 |[.arr sz els],K=>by simp only[Ze,Q2]
 | .dead::l,K=>by simp only[Ze,O5,Jg l]
 | .box c::l,K=>by simp only[Ze,O5,Jg l]
 | .rel R c::l,K=>by simp only[Ze,O5,Jg l]
 | .arr sz els::x::l,K=>by simp only[Ze,O5,Jg (x::l)]
inductive FM where
 |n
 |a
 |s
def fX(b:FM)(a:AV)(st:St)(K:AV→St→β):β:=match b with
 | .a=>ZU a fun a=>K a st
 | .s=>fA a fun a=>Ze st fun st=>K a st
 | .n=>fA a fun a=>fS st fun st=>K a st
theorem Zn(b:FM)(a:AV)(st:St)(K:AV→St→β):fX b a st K=K a st:=by cases b<;>simp only[fX,DZ,yq,YC,Jg]
end force
section
variable {P:Program} {n:Nat} {an X:List Nat} {ops:Array Oper} {l:List Oper} {fr:Fr} {st:St}
def WN(ops:Array Oper)(X:List Nat)(tw:List (List Nat×List Nat)):Bool:=Ml ops tw&&QL X tw
def GK(P:Program)(n:Nat)(X:List Nat)(ops:Array Oper)(l:List Oper)(tw:List (List Nat×List Nat))(R:Fr→St→Prop)(fr:Fr)(st:St):Prop:=
 ∃fr' st' tw',GX P n ops X l tw' fr st fr' st'∧WN ops X (tw++tw')=true∧R fr' st'
theorem GK.nil{tw:List (List Nat×List Nat)}{R:Fr→St→Prop}(h:WN ops X tw=true)(k:R fr st):GK P n X ops [] tw R fr st:=⟨fr,st,[],GX.done rfl,by rw[List.append_nil];exact h,k⟩
theorem GK.of{tw:List (List Nat×List Nat)}{R:Fr→St→Prop}{fr':Fr}{st':St}{l':List Oper}{tw1:List Nat×List Nat}(h:∀{tw2:List (List Nat×List Nat)} {fr2:Fr} {st2:St},GX P n ops X l' tw2 fr' st' fr2 st2→GX P n ops X l (tw1::tw2) fr st fr2 st2)(k:GK P n X ops l' (tw++[tw1]) R fr' st'):GK P n X ops l tw R fr st:=by
 obtain⟨fr2,st2,tw2,h1,h2,h3⟩:=k;exact⟨fr2,st2,tw1::tw2,h h1,by rw[show tw++tw1::tw2=tw++[tw1]++tw2 by simp];exact h2,h3⟩
theorem Yd.aside{o:Oper}{f:Fr}{a:AV}(T:List Nat)(h:Yd P n (oy (bq T) 0 st) o f a):YgP P n X o f ⟨a,T,[],[],st⟩ st:=by
 intro st' ι w act hl hT hX hR hF K Q hK;have hl:st'.length=st.length:=hl;have hT:∀id,bq T id=true→st'[id]? =st[id]? :=hT;rw[←Ss hl hT]at h;have hRm:=hR.mask (bq T);have hFm:pT n (SX.aside (bq T) ι st') w (oy (bq T) 0 st') act f:=
  ⟨hF.defers,hF.size,fun t=>(hF.slot t).chg (fun b hb=>FR.1 hb) (by rw[jY];exact iO _) (fun _=>rfl)⟩
 refine h _ w act hRm hFm K Q fun v w' ι2 hv hR2 k=> ?_
 obtain⟨r1,m1,k1⟩:=hR.unmask (T:=bq T) (q:=fun _=>true) (by rw[jY];exact iO _) hR2 (k.weaken fun _ _=>trivial) (fun _ _ _=>rfl)
  (fun id o ho _=>iU (q:=fun _=>true) (fun _ _=>rfl) o (by cases o<;>first|rfl|exact wM _))
  (fun id hid hTf=>by rw[sq,Nat.zero_add,dK hid,hTf];rfl)
 have e1:kR (bq T) 0 st' (oy (bq T) 0 st')=st':=V1;have e2:kR (bq ([]:List Nat)) 0 st' st=st':=RS hl;have hv:=hv.chg m1 (by rw[e1,jY];exact iO _) (fun _=>rfl);rw[e1]at r1 k1 hv;exact hK v w' _ (by rw[e2];exact hv) (by rw[e2];exact r1) (by rw[e2];exact k1.weaken fun _ _=>rfl)
theorem HX:∀fr:Fr,s9 (fun id=> !bq [] id) fr=fr
 |[]=>rfl
 |(d,av)::fr=>by
  have h:ff (fun id=> !bq [] id) av=true:=wE (q:=fun _=>true) (fun _ _=>rfl) av (HO av);simp only[s9,h,cond_true,HX fr]
def O7(ops:Array Oper)(X:List Nat)(o:Oper)(fr:Fr)(av:AV):Bool:=B6 ops X o fr (zZ ops X o fr)&&ff (fun i=>bq (zZ ops X o fr) (i+1000)|| !bq X i) av
theorem GK.yd{o:Oper}{tw:List (List Nat×List Nat)}{R:Fr→St→Prop}{fr':Fr}{av:AV}(hp:(∀d,o.dst=some d→d<n)∧Lk o.dst av fr=fr')(hc:O7 ops X o fr av=true)
  (h:(fx ops o (iz ops o fr)=some true∧Yd P n (oy (bq (zZ ops X o fr)) 0 st) o (iz ops o fr) av)∨(fx ops o (iz ops o fr)=some false∧av= .tp []))
  (k:GK P n X ops l (tw++[(zZ ops X o fr,[])]) R fr' st):GK P n X ops (o::l) tw R fr st:=by
 unfold O7 at hc;rw[iu]at hc;refine GK.of (tw1:=(zZ ops X o fr,[])) (fun h2=>GX.cons (s:=⟨av,zZ ops X o fr,[],[],st⟩) ⟨hp.1,rfl,fun _ _=>rfl,fun id h=>by simp[bq]at h,fun id h=>by simp[bq]at h,DI hc.1,hc.2,fun x b h=>by simp[bq]at h,?_⟩ (by
  show GX P n ops X l _ (Lk o.dst av (s9 (fun id=> !bq [] id) fr)) st _ _;rw[HX,hp.2];exact h2)) k
 rcases h with⟨hg,h⟩ |⟨hg,rfl⟩
 ·exact .inl ⟨hg,h.aside⟩
 ·exact .inr ⟨hg,rfl,rfl,rfl⟩
def S6:List Nat→St→Option Nat
 |[],_=>none
 |x::X,st=>(match st[x]? with
  |some .dead=>some x
  |_=>S6 X st)
theorem acx{W:List Nat}{hs:HS}{fr':Fr}{T:List Nat}{st':St}{ob:List Prop}(h:evS P n ops X W l fr st hs=some (fr',T,st',ob))(hl:st.length≤1000):kR (bq W) 0 st st'=st':=by
 unfold evS at h;split at h
 ·rename_i o ho;split at h
  ·split at h
   ·rename_i out hev;cases hc:sOk n ops X W o fr st ((W++SN X (cV ops o fr++wb W st))) out with
    |false=>rw[hc]at h;cases h
    |true=>
     rw[hc]at h;simp only[cond_true,eJ,sT]at h;obtain⟨_,_,rfl,_⟩:=h;unfold sOk at hc;simp only[iu]at hc;have hlen:=we hc.1.1.2;generalize hT:W++SN X (cV ops o fr++wb W st)=T at*;have z:(kR (bq T) 0 st out.st).length=st.length:=by rw[eX _ _ _ (by omega)];exact hlen
     refine wy (by rw[eX _ _ _ (by omega)]) (fun id hid=> ?_);rw[eX _ _ _ (by omega),z]at hid;rw[iD _ _ _ _ (by omega),Nat.zero_add];by_cases hw:id<st.length∧bq W id=false
     ·have hq:bq T id=false:=by
       rw[←hT,tW,hw.2,Bool.false_or];exact Nd (by omega)
      have y:(kR (bq T) 0 st out.st)[id]? =if id<st.length∧bq T id=false then st[id]? else out.st[id]? :=by rw[iD _ _ _ _ (by omega),Nat.zero_add]
      rw[if_pos hw,y,if_pos ⟨hw.1,hq⟩]
     ·rw[if_neg hw]
   ·cases h
  ·cases h
 ·cases h
def gW(P:Program)(n:Nat)(an X:List Nat)(ops:Array Oper)(l:List Oper)(fr:Fr)(st:St):Option (Fr×List Nat×List Nat×St):=
 match Og l with
 |some o=>(match o.op with
  | .alloc .. =>(match S6 X st with
   |some id=>(match evN P n ops X (DK an o) id l fr st []with
    |some (fr',T,st',[])=>bif Ug st T then some (fr',yx X T,T++[id+1000],st')else none
    |_=>none)
   |none=>none)
  | .store _ a _=>(match rv (iz ops o fr) a with
   | .one (.pt id _ _ _)=>(match st[id]? with
    |some (.box _)=>(match evS P n ops X [id] l fr st []with
     |some (fr',T,st',[])=>bif Nat.ble st.length 1000 then some (fr',T,[id],st')else none
     |_=>none)
    |_=>none)
   |_=>none)
  |_=>none)
 |none=>none
theorem GK.w{fr':Fr}{T W:List Nat}{st':St}{tw:List (List Nat×List Nat)}{R:Fr→St→Prop}(h:gW P n an X ops l fr st=some (fr',T,W,st'))(k:GK P n X ops (l.drop 1) (tw++[(T,W)]) R fr' st'):GK P n X ops l tw R fr st:=by
 refine GK.of (tw1:=(T,W)) (fun h2=> ?_) k;unfold gW at h;split at h
 ·rename_i o ho;split at h
  ·split at h
   ·rename_i id hid;split at h
    ·rename_i he;cases hq:Ug st _ with
     |false=>rw[hq]at h;cases h
     |true=>
      rw[hq]at h;simp only[cond_true,eJ,sT]at h;obtain⟨rfl,rfl,rfl,rfl⟩:=h;exact GX.new _ id [] _ _ _ [] he trivial hq h2
    ·cases h
   ·cases h
  ·split at h
   ·split at h
    ·split at h
     ·rename_i he;cases hq:Nat.ble st.length 1000 with
      |false=>rw[hq]at h;cases h
      |true=>
       rw[hq]at h;simp only[cond_true,eJ,sT]at h;obtain⟨rfl,rfl,rfl,rfl⟩:=h;exact GX.sto _ [] _ _ _ [] he trivial (acx he (CY hq)) h2
     ·cases h
    ·cases h
   ·cases h
  ·cases h
 ·cases h
end
inductive It where
 |c(x:Code)
 |o(ops:Array Oper)(l:List Oper)
 |b(id:Nat)
 |s
 |r(x:Code)(j:Nat)
 |g(X:List Nat)(ops:Array Oper)(l:List Oper)(tw:List (List Nat×List Nat))
structure SS where
 ks:List It
 fr:Fr
 st:St
 kn:List Nat
section
variable (P:Program) (n n0:Nat) (lz:List Nat)
def WJ(Q:QT):QT
 | .goto _,_,_=>False
 |e,fr,st=>Q e fr st
theorem XW.scope{c x:Code}{Q:QT}{fr:Fr}{st:St}(he:c= .scope x)(h:XW P n n0 lz x (WJ Q) fr st):XW P n n0 lz c Q fr st:=by
 subst he;intro ι w a hR hF;refine Go.wp_scope_straight (Go.wp_mono (h ι w a hR hF) ?_);rintro e a' w' ⟨ι',fr',st',h1,h2⟩;cases e with
 |goto l=>exact h1.elim
 |_=>exact⟨ι',fr',st',h1,h2⟩
def QK:List It→QT→QT
 |[],Q=>Q
 | .s::ks,Q=>WJ (QK ks Q)
 | .b id::ks,Q=>HK id (QK ks Q)
 | .c x::ks,Q=>pU (XW P n n0 lz x (QK ks Q)) (QK ks Q)
 | .o ops l::ks,Q=>pU (XO P n n0 lz ops l (QK ks Q)) (QK ks Q)
 | .r x j::ks,Q=>pU (XR P n n0 lz x (QK ks Q) j) (QK ks Q)
 | .g X ops l tw::ks,Q=>pU (GK P n X ops l tw (QK ks Q .normal)) (QK ks Q)
def XK(Q:QT)(s:SS):Prop:=QK P n n0 lz s.ks Q .normal s.fr s.st
def La(id:Nat):List It→Option (List It)
 |[]=>none
 | .b i::ks=>bif Nat.beq i id then some ks else La id ks
 |_::ks=>La id ks
variable {P n n0 lz}
theorem Ho{a b:Nat}(h:a≠b):Nat.beq a b=false:=by
 cases hq:Nat.beq a b with
 |false=>rfl
 |true=>exact absurd (we hq) h
theorem C4{id:Nat}{Q:QT}{fr:Fr}{st:St}:∀{ks ks':List It},La id ks=some ks'→QK P n n0 lz ks' Q .normal fr st→QK P n n0 lz ks Q (.exit id) fr st
 |[],_,h,_=>by simp[La]at h
 | .b i::ks,ks',h,hq=>by
  simp only[La]at h;simp only[QK,HK];cases hb:Nat.beq i id with
  |true=>
   have:=we hb;subst this;simp only[hb,cond_true,eJ]at h;subst h;simpa using hq
  |false=>
   simp only[hb,cond_false]at h;have:Nat.beq id i=false:=Ho (fun e=>by subst e;simp at hb);simp only[this,cond_false];exact C4 h hq
 | .s::ks,ks',h,hq=>C4 (ks:=ks) (by simpa [La]using h) hq
 | .c x::ks,ks',h,hq=>C4 (ks:=ks) (by simpa [La]using h) hq
 | .o ops l::ks,ks',h,hq=>C4 (ks:=ks) (by simpa [La]using h) hq
 | .r _ _::ks,ks',h,hq=>C4 (ks:=ks) (by simpa [La]using h) hq
 | .g _ _ _ _::ks,ks',h,hq=>C4 (ks:=ks) (by simpa [La]using h) hq
theorem AG{id:Nat}{Q:QT}{fr:Fr}{st:St}:∀{ks:List It},La id ks=none→Q (.exit id) fr st→QK P n n0 lz ks Q (.exit id) fr st
 |[],h,hq=>hq
 | .b i::ks,h,hq=>by
  simp only[La]at h;simp only[QK,HK];cases hb:Nat.beq i id with
  |true=>simp[hb]at h
  |false=>
   simp only[hb,cond_false]at h;have:Nat.beq id i=false:=Ho (fun e=>by subst e;simp at hb);simp only[this,cond_false];exact AG h hq
 | .s::ks,h,hq=>AG (ks:=ks) (by simpa [La]using h) hq
 | .c x::ks,h,hq=>AG (ks:=ks) (by simpa [La]using h) hq
 | .o ops l::ks,h,hq=>AG (ks:=ks) (by simpa [La]using h) hq
 | .r _ _::ks,h,hq=>AG (ks:=ks) (by simpa [La]using h) hq
 | .g _ _ _ _::ks,h,hq=>AG (ks:=ks) (by simpa [La]using h) hq
theorem Di{Q:QT}{fr:Fr}{st:St}:∀{ks:List It},Q .ret fr st→QK P n n0 lz ks Q .ret fr st
 |[],hq=>hq
 | .b i::ks,hq=>Di (ks:=ks) hq
 | .s::ks,hq=>Di (ks:=ks) hq
 | .c x::ks,hq=>Di (ks:=ks) hq
 | .o ops l::ks,hq=>Di (ks:=ks) hq
 | .r _ _::ks,hq=>Di (ks:=ks) hq
 | .g _ _ _ _::ks,hq=>Di (ks:=ks) hq
def PF(kn:List Nat):Operand→Bool
 | .tmp t=>kn.any (Nat.beq t)
 |_=>true
def WW(kn:List Nat)(o:Oper)(fr:Fr)(st:St):Bool:=
 match o.op with
 | .pick c a b=>bif PF kn c then false else(match rv fr a with
  | .one (.pv (.s (.bool _)))=>(match rv fr b with
   | .one (.pv (.s (.bool _)))=>false
   |_=>true)
  |_=>true)
 | .call ⟨.builtin .len,args,_⟩=>(match args.toList with
  |[x]=>(match rv fr x with
   | .one (.pv (.ro _))=>true
   |_=>false)
  |_=>true)
 | .call ⟨.builtin .max,_,_⟩=>false
 | .call ⟨.builtin .min,_,_⟩=>false
 | .call _=>true
 | .makeSlice .. =>true
 | .slice .. =>true
 | .convert _ _ x=>(match rv fr x with
  | .one (.pv (.s (.int _ _)))=>false
  |_=>true)
 | .indexAddr _ x i=>(match rv fr x with
  | .one (.pv (.rp ..))=> !(PF kn i)
  | .one (.pt ..)=> !(PF kn i)
  |_=>true)
 | .index _ x i=>(match rv fr x with
  | .ag _=> !(PF kn i)
  |_=>true)
 | .load _ a=>(match rv fr a with
  | .one (.pv (.rp ..))=>false
  | .one (.pt id _ _ _)=>(match st[id]? with
   |some (.box _)=>false
   |_=>true)
  |_=>true)
 | .store _ a _=>(match rv fr a with
  | .one (.pt id _ _ _)=>(match st[id]? with
   |some (.box _)=>false
   |_=>true)
  |_=>true)
 |_=>false
def TO(o:Oper)(fr:Fr):HS:=
 match o.op with
 | .load _ a=>(match rv fr a with
  | .one (.pv (.rp [c] _ _))=>[c]
  |_=>[])
 |_=>[]
def HU(P:Program)(t:TypeId):Nat:=match P.underlying t with
 |some (.array len _)=>len
 |_=>0
def obB(P:Program)(kn:List Nat)(o:Oper)(fr:Fr):Bool:=
 match o.op with
 | .binOp op _ _ y _=>bif PF kn y then(match rv fr y with
  | .one (.pv (.s (.int _ b)))=>(match op with
   | .shl=>decide (0≤b)
   | .shr=>decide (0≤b)
   | .quo=>decide (b≠0)
   | .rem=>decide (b≠0)
   |_=>false)
  |_=>false)else false
 | .load _ a=>(match rv fr a with
  | .one (.pv (.rp [_] 0 _))=>true
  |_=>false)
 | .indexAddr t x i=>(match rv fr x with
  | .one (.pv (.rp ..))=>(match rv fr i with
   | .one (.pv (.s (.int _ n)))=>decide (0≤n)&&decide (n<HU P t)
   |_=>false)
  | .one (.pt ..)=>(match rv fr i with
   | .one (.pv (.s (.int _ n)))=>decide (0≤n)&&decide (n<HU P t)
   |_=>false)
  |_=>false)
 | .index t x i=>(match rv fr x with
  | .ag _=>(match rv fr i with
   | .one (.pv (.s (.int _ n)))=>decide (0≤n)&&decide (n<HU P t)
   |_=>false)
  |_=>false)
 |_=>false
theorem abf{op:BinOp}{t:TypeId}{a:Value}{k:IntKind}{b:Int}{v:Value}{ob:List Prop}(hb:(match op with
   | .shl=>decide (0≤b)
   | .shr=>decide (0≤b)
   | .quo=>decide (b≠0)
   | .rem=>decide (b≠0)
   |_=>false)=true)(h:OP P op t a (.int k b)=some (v,ob)):nw ob:=by
 have h:Yh op a (.int k b)=some (v,ob):=by
  cases a<;>first|exact h|cases h
 unfold Yh at h;cases a<;>simp only at h<;>try (cases h;done)
 rename_i k1 a1 _;cases op
 case shl=>simp only[decide_eq_true_eq]at hb;simp only[eJ,sT]at h;obtain⟨_,rfl⟩:=h;exact⟨hb,trivial⟩
 case shr=>simp only[decide_eq_true_eq]at hb;simp only[eJ,sT]at h;obtain⟨_,rfl⟩:=h;exact⟨hb,trivial⟩
 case quo=>
  simp only[decide_eq_true_eq]at hb;cases hk:decide (k1=k)<;>simp only[hk,cond_true,cond_false]at h
  ·cases h
  ·simp only[eJ,sT]at h;obtain⟨_,rfl⟩:=h;exact⟨hb,trivial⟩
 case rem=>
  simp only[decide_eq_true_eq]at hb;cases hk:decide (k1=k)<;>simp only[hk,cond_true,cond_false]at h
  ·cases h
  ·simp only[eJ,sT]at h;obtain⟨_,rfl⟩:=h;exact⟨hb,trivial⟩
 all_goals (cases hb;done)
theorem Wt{kn:List Nat}{o:Oper}{fr:Fr}{st:St}{mu:Bool}{out:El}(hb:obB P kn o fr=true)(h:ev P mu o fr st (TO o fr)=some out):nw out.ob:=by
 unfold obB at hb;unfold ev at h;split at hb
 ·rename_i op tt x y _ ho;simp only[ho]at h;cases hk:PF kn y with
  |false=>simp[hk]at hb
  |true=>
   simp only[hk,cond_true]at hb;split at hb
   ·rename_i k b hy;rw[hy]at h;split at h
    ·rename_i a b' e1 e2;simp only[AV.one.injEq,CV.pv.injEq,PV.s.injEq]at e2;subst e2;split at h
     ·rename_i v ob hbo;simp only[eJ]at h;subst h;exact abf hb hbo
     ·simp only[yT]at h;obtain⟨_,_,rfl⟩:=h;exact trivial
    ·rename_i e2;cases e2
    ·rename_i e2;cases e2
    ·cases h
   ·cases hb
 ·rename_i t a ho;simp only[ho,TO]at h;split at hb
  ·rename_i c off hr;simp only[hr]at h;unfold PW at h;split at h
   ·simp only[yT]at h;obtain⟨av,_,rfl⟩:=h;exact⟨rfl,trivial⟩
   ·cases h
  ·cases hb
 ·rename_i t x i ho;simp only[ho]at h;split at hb
  ·rename_i e1;split at hb
   ·rename_i e2;simp only[e1,e2]at h;simp only[iu,decide_eq_true_eq]at hb;unfold T5 at h;unfold HU at hb;split at h
    ·rename_i q1 q2;split at q2
     ·rename_i hu;rw[hu]at hb;split at q2
      ·simp only[eJ,sT]at q2;obtain⟨rfl,rfl⟩:=q2;simp only[eJ]at h;subst h;exact⟨hb,trivial⟩
      ·cases q2
     ·split at q2<;>simp at q2
     ·cases q2
    ·cases h
   ·cases hb
  ·rename_i e1;split at hb
   ·rename_i e2;simp only[e1,e2]at h;simp only[iu,decide_eq_true_eq]at hb;unfold T5 at h;unfold HU at hb;split at h
    ·rename_i q1 q2;split at q2
     ·rename_i hu;rw[hu]at hb;split at q2
      ·simp only[eJ,sT]at q2;obtain⟨rfl,rfl⟩:=q2;simp only[eJ]at h;subst h;exact⟨hb,trivial⟩
      ·cases q2
     ·split at q2<;>simp at q2
     ·cases q2
    ·cases h
   ·cases hb
  ·cases hb
 ·rename_i t x i ho;simp only[ho]at h;split at hb
  ·rename_i e1;split at hb
   ·rename_i e2;simp only[e1,e2]at h;simp only[iu,decide_eq_true_eq]at hb;unfold HU at hb;split at h
    ·rename_i q1 q2 q3;cases q2
    ·rename_i q1 q2 q3;rw[q1]at hb;simp only[AV.one.injEq,CV.pv.injEq,PV.s.injEq,Value.int.injEq]at q3;obtain⟨_,rfl⟩:=q3;split at h
     ·simp only[yT]at h;obtain⟨av,_,rfl⟩:=h;exact⟨hb,trivial⟩
     ·cases h
    ·cases h
   ·cases hb
  ·cases hb
 ·cases hb
def qOp(P:Program)(an kn:List Nat)(o:Oper)(fr:Fr)(st:St):Option (AV×St):=
 bif WW kn o fr st then none else
 match ev P (DK an o) o fr st (TO o fr)with
 |some ⟨av,st',ob,_,none⟩=>(match ob with
  |[]=>some (av,st')
  |_=>bif obB P kn o fr then some (av,st')else none)
 |_=>none
theorem W6{an kn:List Nat}{o:Oper}{fr:Fr}{st:St}{av:AV}{st':St}(h:qOp P an kn o fr st=some (av,st')):
  ∃ob hs',ev P (DK an o) o fr st (TO o fr)=some ⟨av,st',ob,hs',none⟩∧nw ob:=by
 unfold qOp at h;cases hs:WW kn o fr st with
 |true=>simp[hs]at h
 |false=>
  simp only[hs,cond_false]at h;split at h
  ·rename_i av1 st1 ob hs' he;split at h
   ·simp only[eJ,sT]at h;obtain⟨rfl,rfl⟩:=h;exact⟨_,_,he,trivial⟩
   ·cases hb:obB P kn o fr with
    |false=>simp[hb]at h
    |true=>
     simp only[hb,cond_true,eJ,sT]at h;obtain⟨rfl,rfl⟩:=h;exact⟨_,_,he,Wt hb he⟩
  ·cases h
def Zd(ops:Array Oper)(kn:List Nat)(o:Oper)(fr:Fr):Option Bool:=
 match o.guard with
 |none=>some true
 |some (j,want)=>
  match(ops[j]?).bind (·.dst)with
  |some d=>(match lk fr d with
   | .one (.pv (.s (.bool b)))=>bif kn.any (Nat.beq d)then some (b==want)else none
   | .tp []=>some false
   |_=>none)
  |none=>none
theorem C7{ops:Array Oper}{kn:List Nat}{o:Oper}{fr:Fr}{g:Bool}(h:Zd ops kn o fr=some g):fx ops o fr=some g:=by
 unfold Zd at h;unfold fx;cases hg:o.guard with
 |none=>simpa [hg]using h
 |some jw=>
  obtain⟨j,want⟩:=jw;simp only[hg]at h⊢;cases hd:(ops[j]?).bind (·.dst)with
  |none=>simp[hd]at h
  |some d=>
   simp only[hd]at h⊢;split at h
   ·rename_i b hb;cases hk:kn.any (Nat.beq d)with
    |false=>simp[hk]at h
    |true=>simpa [hk,hb]using h
   ·rename_i hb;simpa [hb]using h
   ·cases h
def Ga{β:Type}(n:Nat)(dst:Option Nat)(av:AV)(fr:Fr)(K:Fr→β)(E:β):β:=match dst with
 |none=>K fr
 |some d=>bif Nat.ble (d+1) n then K ((d,av)::fr)else E
def SU(u:Option Nat)(o:Oper):Bool:=match u with
 |none=>false
 |some t=>(match o.dst with
  |some d=>Nat.beq d t
  |none=>false)
def aca(an:List Nat)(o:Oper):FM:=match o.op with
 | .buildSlice .. =>(match DK an o with
  |true=> .s
  |false=> .a)
 |_=> .n
def LM(kn:List Nat)(o:Oper)(fr:Fr):Bool:=match o.op with
 | .move x=>PF kn x
 | .assign x=>PF kn x
 | .pick c a b=>bif PF kn c then(match rv fr c with
  | .one (.pv (.s (.bool t)))=>(match t with
   |true=>PF kn a
   |false=>PF kn b)
  |_=>false)else false
 | .binOp _ _ x y _=>PF kn x&&PF kn y
 | .unOp _ _ x=>PF kn x
 | .convert _ _ x=>PF kn x
 |_=>false
def YM{β:Type}(d:Nat):List Nat→(List Nat→β)→β
 |[],K=>K []
 |x::l,K=>YM d l fun l=>bif Nat.beq x d then K l else K (x::l)
def Iq{β:Type}(b:Bool)(dst:Option Nat)(kn:List Nat)(K:List Nat→β):β:=match dst with
 |none=>K kn
 |some d=>YM d kn fun l=>bif b then K (d::l)else K l
theorem Rq{β:Type}{d:Nat}:∀(l:List Nat) (K:List Nat→β),∃l',YM d l K=K l'
 |[],K=>⟨[],rfl⟩
 |x::l,K=>by
  obtain⟨l',h⟩:=Rq (d:=d) l (fun l=>bif Nat.beq x d then K l else K (x::l));unfold YM;rw[h];cases Nat.beq x d
  ·exact⟨_,rfl⟩
  ·exact⟨_,rfl⟩
theorem wC{β:Type}(b:Bool)(dst:Option Nat)(kn:List Nat)(K:List Nat→β):∃l,Iq b dst kn K=K l:=by
 unfold Iq;cases dst with
 |none=>exact⟨_,rfl⟩
 |some d=>
  obtain⟨l',h⟩:=Rq (d:=d) kn (fun l=>bif b then K (d::l)else K l);simp only[h];cases b
  ·exact⟨_,rfl⟩
  ·exact⟨_,rfl⟩
def Nz{β:Type}(P:Program)(n:Nat)(an:List Nat)(u:Option Nat)(s:SS)(K E:SS→β):β:=
 match s with
 |⟨ks,fr,st,kn⟩=>match ks with
  |[]=>E s
  | .b _::k=>K ⟨k,fr,st,kn⟩
  | .s::k=>K ⟨k,fr,st,kn⟩
  | .c x::k=>(match x with
   | .scope a=>K ⟨.c a:: .s::k,fr,st,kn⟩
   | .skip=>K ⟨k,fr,st,kn⟩
   | .seq a b=>K ⟨.c a:: .c b::k,fr,st,kn⟩
   | .block id a=>K ⟨.c a:: .b id::k,fr,st,kn⟩
   | .region _ ops false=>K ⟨.o ops ops.toList::k,fr,st,kn⟩
   | .cond o a b=>(match PF kn o with
    |true=>(match rv fr o with
     | .one (.pv (.s (.bool t)))=>(match t with
      |true=>K ⟨.c a::k,fr,st,kn⟩
      |false=>K ⟨.c b::k,fr,st,kn⟩)
     |_=>E s)
    |false=>E s)
   | .exit id=>(match La id k with
    |some k'=>K ⟨k',fr,st,kn⟩
    |none=>E s)
   |_=>E s)
  | .r x j::k=>(match j with
   |j+1=>K ⟨.c x:: .r x j::k,fr,st,kn⟩
   |0=>E s)
  | .o ops l::k=>(match l with
   |[]=>K ⟨k,fr,st,kn⟩
   |o::l'=>bif SU u o then E s else(match Zd ops kn o fr with
    |some true=>(match qOp P an kn o fr st with
     |some (av,st')=>fX (aca an o) av st' fun av st'=>Ga n o.dst av fr (fun fr'=>Iq (LM kn o fr) o.dst kn fun kn'=>K ⟨.o ops l'::k,fr',st',kn'⟩) (E s)
     |none=>E s)
    |some false=>Ga n o.dst (.tp []) fr (fun fr'=>Iq false o.dst kn fun kn'=>K ⟨.o ops l'::k,fr',st,kn'⟩) (E s)
    |none=>E s))
  | .g X ops l tw::k=>(match l with
   |[]=>bif WN ops X tw then K ⟨k,fr,st,kn⟩else E s
   |o::l'=>bif SU u o then E s else(match Zd ops kn o (iz ops o fr)with
    |some true=>bif tR o.op&& !DK an o then(match qOp P [] kn o (iz ops o fr) (oy (bq (zZ ops X o fr)) 0 st)with
     |some (av,_)=>fX (aca [] o) av [] fun av _=>bif O7 ops X o fr av then Ga n o.dst av fr (fun fr'=>Iq (LM kn o fr) o.dst kn fun kn'=>K ⟨.g X ops l' (tw++[(zZ ops X o fr,[])])::k,fr',st,kn'⟩) (E s)else E s
     |none=>E s)else(match gW P n an X ops (o::l') fr st with
      |some (fr',T,W,st')=>fF fr' fun fr'=>fS st' fun st'=>Iq false o.dst kn fun kn'=>K ⟨.g X ops l' (tw++[(T,W)])::k,fr',st',kn'⟩
      |none=>E s)
    |some false=>bif O7 ops X o fr (.tp [])then Ga n o.dst (.tp []) fr (fun fr'=>Iq false o.dst kn fun kn'=>K ⟨.g X ops l' (tw++[(zZ ops X o fr,[])])::k,fr',st,kn'⟩) (E s)else E s
    |none=>E s))
theorem ua{β:Type}(dst:Option Nat)(av:AV)(fr:Fr)(K:Fr→β)(E:β):(∃fr',BZ n dst av fr=some fr'∧Ga n dst av fr K E=K fr')∨Ga n dst av fr K E=E:=by
 cases dst with
 |none=>exact .inl ⟨fr,rfl,rfl⟩
 |some d=>
  unfold Ga BZ;cases h:Nat.ble (d+1) n with
  |true=>exact .inl ⟨(d,av)::fr,by simp[h],by simp[h]⟩
  |false=>exact .inr (by simp[h])
theorem BP{dst:Option Nat}{av:AV}{fr fr':Fr}(h:BZ n dst av fr=some fr'):(∀d,dst=some d→d<n)∧Lk dst av fr=fr':=by
 cases dst with
 |none=>simp only[BZ,eJ]at h;exact⟨(fun d hd=>nomatch hd),h⟩
 |some d=>
  simp only[BZ]at h;cases hb:Nat.ble (d+1) n with
  |false=>simp[hb]at h
  |true=>
   simp only[hb,cond_true,eJ]at h;exact⟨(fun d' hd=>Option.some.inj hd▸CY hb),h⟩
theorem XO.op1{an:List Nat}{ops:Array Oper}{o:Oper}{l:List Oper}{fr fr':Fr}{st:St}{hs:HS}{out:El}{Q:QT}(hg:fx ops o fr=some true)(h:ev P (DK an o) o fr st hs=some out)(hob:nw out.ob)
  (hm:Ln n0 lz out.mv=true)(hp:BZ n o.dst out.av (Uu out.mv fr)=some fr')(hk:XO P n n0 lz ops l Q fr' out.st):XO P n n0 lz ops (o::l) Q fr st:=by
 intro ι w a hR hF;have hw:=gj hg hF;obtain⟨v,w',ι',hrun,hR',hv,k⟩:=FL h hob hR hF;have hrest:=hk ι' w' _ hR' (oI hp (RL k hF) hv);have kk:=k.weaken (OC hm);refine wpList_step fun K hK=> ?_
 rw[if_pos hw];have hgoal:wpList P ops (Bz n n0 lz ι w st Q) l (a.put o.dst v) w':=iE (fun e a w h=>h.trans kk) hrest;rcases hrun with h1|⟨h1,rfl⟩
 ·simp only[Oper.wp,h1,Oper.upon];exact hK _ _ hgoal
 ·simp only[Oper.wp,h1,Oper.upon];exact hK _ _ hgoal
theorem XO.op{an:List Nat}{ops:Array Oper}{o:Oper}{l:List Oper}{fr fr':Fr}{st st':St}{hs hs':HS}{av:AV}{ob:List Prop}{Q:QT}(hg:fx ops o fr=some true)
  (h:ev P (DK an o) o fr st hs=some ⟨av,st',ob,hs',none⟩)(hob:nw ob)(hp:BZ n o.dst av fr=some fr')(k:XO P n n0 lz ops l Q fr' st'):XO P n n0 lz ops (o::l) Q fr st:=
 XO.op1 hg h hob rfl hp k
theorem XO.opN{ops:Array Oper}{o:Oper}{l:List Oper}{fr fr':Fr}{st:St}{Q:QT}(hg:fx ops o fr=some false)
  (hp:BZ n o.dst (.tp []) fr=some fr')(k:XO P n n0 lz ops l Q fr' st):XO P n n0 lz ops (o::l) Q fr st:=by
 intro ι w a hR hF;have hw:=gj hg hF;refine wpList_step fun K hK=> ?_
 rw[if_neg (by rw[hw];simp)];exact hK _ _ (k ι w _ hR (oI hp hF Ie))
theorem TD{an:List Nat}{u:Option Nat}{Q:QT}{β:Type}(s:SS)(K E:SS→β):∃s',(Nz P n an u s K E=K s'∨Nz P n an u s K E=E s')∧(XK P n n0 lz Q s'→XK P n n0 lz Q s):=by
 obtain⟨ks,fr,st,kn⟩:=s;have stay:∃s',(E ⟨ks,fr,st,kn⟩=K s'∨E ⟨ks,fr,st,kn⟩=E s')∧(XK P n n0 lz Q s'→XK P n n0 lz Q ⟨ks,fr,st,kn⟩):=⟨_,.inr rfl,id⟩
 have go:∀s',(XK P n n0 lz Q s'→XK P n n0 lz Q ⟨ks,fr,st,kn⟩)→∃s2,(K s'=K s2∨K s'=E s2)∧(XK P n n0 lz Q s2→XK P n n0 lz Q ⟨ks,fr,st,kn⟩):=fun s' h=>⟨s',.inl rfl,h⟩
 unfold Nz
 match ks,stay,go with
 |[],stay,go=>exact stay
 | .b id::k,stay,go=>exact go _ (fun h=>h)
 | .s::k,stay,go=>exact go _ (fun h=>h)
 | .r x j::k,stay,go=>
  cases j with
  |zero=>exact stay
  |succ j=>exact go _ (fun h=>h)
 | .c x::k,stay,go=>
  cases x with
  |skip=>exact go _ (fun h=>XW.skip rfl h)
  |seq a b=>
   refine go _ (fun h=>XW.seq (x:=a) (y:=b) rfl fun K hK=> ?_);refine XW.mono (show XW P n n0 lz a (pU (XW P n n0 lz b (QK P n n0 lz k Q)) (QK P n n0 lz k Q)) fr st from h) ?_;intro e f s hq;cases e with
   |normal=>exact hK _ _ hq
   |_=>exact hq
  |block id a=>exact go _ (fun h=>XW.block rfl h)
  |scope a=>exact go _ (fun h=>XW.scope _ _ _ _ rfl h)
  |region id ops d=>
   cases d with
   |true=>exact stay
   |false=>exact go _ (fun h=>XO.region rfl h)
  |cond o a b=>
   simp only;split
   ·split
    ·rename_i t hx;cases t with
     |true=>exact go _ (fun h=>XW.cond (n:=n) rfl hx (fun _=>h) (fun h=>nomatch h))
     |false=>exact go _ (fun h=>XW.cond (n:=n) rfl hx (fun h=>nomatch h) (fun _=>h))
    ·exact stay
   ·exact stay
  |exit id=>
   simp only;split
   ·rename_i k' hk;exact go _ (fun h=>XW.exit rfl (C4 hk h))
   ·exact stay
  |_=>exact stay
 | .o ops l::k,stay,go=>
  cases l with
  |nil=>exact go _ (fun h=>XO.nil h)
  |cons o l'=>
   simp only;cases hu:SU u o with
   |true=>exact stay
   |false=>
    simp only[cond_false];split
    ·rename_i hg;have hg:=C7 hg;split
     ·rename_i av st' hq;obtain⟨ob,hs',he,hob⟩:=W6 hq;rw[Zn];rcases ua (n:=n) o.dst av fr (fun fr'=>Iq (LM kn o fr) o.dst kn fun kn'=>K ⟨.o ops l'::k,fr',st',kn'⟩) (E ⟨.o ops (o::l')::k,fr,st,kn⟩)with⟨fr',hp,e⟩ |e
      ·rw[e];obtain⟨kn',ek⟩:=wC (LM kn o fr) o.dst kn fun kn'=>K ⟨.o ops l'::k,fr',st',kn'⟩
       rw[ek];exact go _ (fun h=>XO.op hg he hob hp h)
      ·rw[e];exact stay
     ·exact stay
    ·rename_i hg;have hg:=C7 hg;rcases ua (n:=n) o.dst (.tp []) fr (fun fr'=>Iq false o.dst kn fun kn'=>K ⟨.o ops l'::k,fr',st,kn'⟩) (E ⟨.o ops (o::l')::k,fr,st,kn⟩)with⟨fr',hp,e⟩ |e
     ·rw[e];obtain⟨kn',ek⟩:=wC false o.dst kn fun kn'=>K ⟨.o ops l'::k,fr',st,kn'⟩
      rw[ek];exact go _ (fun h=>XO.opN hg hp h)
     ·rw[e];exact stay
    ·exact stay
 | .g X ops l tw::k,stay,go=>
  cases l with
  |nil=>
   simp only;cases ht:WN ops X tw with
   |false=>exact stay
   |true=>exact go _ (fun h=>GK.nil ht h)
  |cons o l'=>
   simp only;cases hu:SU u o with
   |true=>exact stay
   |false=>
    simp only[cond_false];split
    ·rename_i hg;have hg:=C7 hg;cases hqq:(tR o.op&& !DK an o)with
     |false=>
      simp only[cond_false];split
      ·rename_i fr' T W st' hw;simp only[FH,yq];obtain⟨kn',ek⟩:=wC false o.dst kn fun kn'=>K ⟨.g X ops l' (tw++[(T,W)])::k,fr',st',kn'⟩
       rw[ek];exact go _ (fun h=>GK.w hw h)
      ·exact stay
     |true=>
      simp only[cond_true];rw[iu]at hqq;split
      ·rename_i av st' hq;obtain⟨ob,hs',he,hob⟩:=W6 hq;have hmu:DK [] o=false:=by unfold DK;split<;>rfl
       rw[hmu]at he;rw[Zn];cases hc:O7 ops X o fr av with
       |false=>exact stay
       |true=>
        simp only[cond_true];rcases ua (n:=n) o.dst av fr (fun fr'=>Iq (LM kn o fr) o.dst kn fun kn'=>K ⟨.g X ops l' (tw++[(zZ ops X o fr,[])])::k,fr',st,kn'⟩) (E ⟨.g X ops (o::l') tw::k,fr,st,kn⟩)with⟨fr',hp,e⟩ |e
        ·rw[e];obtain⟨kn',ek⟩:=wC (LM kn o fr) o.dst kn fun kn'=>K ⟨.g X ops l' (tw++[(zZ ops X o fr,[])])::k,fr',st,kn'⟩
         rw[ek];exact go _ (fun h=>GK.yd (BP hp) hc (.inl ⟨hg,Yd.ev hqq.1 he hob⟩) h)
        ·rw[e];exact stay
      ·exact stay
    ·rename_i hg;have hg:=C7 hg;cases hc:O7 ops X o fr (.tp [])with
     |false=>exact stay
     |true=>
      simp only[cond_true];rcases ua (n:=n) o.dst (.tp []) fr (fun fr'=>Iq false o.dst kn fun kn'=>K ⟨.g X ops l' (tw++[(zZ ops X o fr,[])])::k,fr',st,kn'⟩) (E ⟨.g X ops (o::l') tw::k,fr,st,kn⟩)with⟨fr',hp,e⟩ |e
      ·rw[e];obtain⟨kn',ek⟩:=wC false o.dst kn fun kn'=>K ⟨.g X ops l' (tw++[(zZ ops X o fr,[])])::k,fr',st,kn'⟩
       rw[ek];exact go _ (fun h=>GK.yd (BP hp) hc (.inr ⟨hg,rfl⟩) h)
      ·rw[e];exact stay
    ·exact stay
def Tt{β:Type}(P:Program)(n:Nat)(an:List Nat)(u:Option Nat):Nat→SS→(SS→β)→β
 |0,s,E=>E s
 |f+1,s,E=>Nz P n an u s (fun s'=>Tt P n an u f s' E) E
theorem E4{an:List Nat}{u:Option Nat}{Q:QT}{β:Type}:∀(f:Nat) (s:SS) (E:SS→β),∃s',Tt P n an u f s E=E s'∧(XK P n n0 lz Q s'→XK P n n0 lz Q s)
 |0,s,E=>⟨s,rfl,id⟩
 |f+1,s,E=>by
  simp only[Tt];obtain⟨s',h1,h2⟩:=TD (n0:=n0) (lz:=lz) (Q:=Q) (P:=P) (n:=n) (an:=an) (u:=u) s (fun s'=>Tt P n an u f s' E) E;rcases h1 with h1|h1
  ·obtain⟨s2,k1,k2⟩:=E4 f s' E;exact⟨s2,h1.trans k1,fun h=>h2 (k2 h)⟩
  ·exact⟨s',h1,h2⟩
def run(P:Program)(n:Nat)(an:List Nat)(s:SS):SS:=Tt P n an none 4000 s id
def KW(P:Program)(n:Nat)(an:List Nat)(d:Nat)(s:SS):SS:=Tt P n an (some d) 4000 s id
theorem dn{an:List Nat}{Q:QT}{s:SS}(h:XK P n n0 lz Q (run P n an s)):XK P n n0 lz Q s:=by
 obtain⟨s',h1,h2⟩:=E4 (n0:=n0) (lz:=lz) (Q:=Q) (P:=P) (n:=n) (an:=an) (u:=none) 4000 s id;unfold run at h;rw[h1]at h;exact h2 h
theorem Cp{an:List Nat}{d:Nat}{Q:QT}{s:SS}(h:XK P n n0 lz Q (KW P n an d s)):XK P n n0 lz Q s:=by
 obtain⟨s',h1,h2⟩:=E4 (n0:=n0) (lz:=lz) (Q:=Q) (P:=P) (n:=n) (an:=an) (u:=some d) 4000 s id;unfold KW at h;rw[h1]at h;exact h2 h
end
theorem jk.at1{μ:Nat→Prop}{w:World}{v:Value}{els:List (List PV)}{i off:Nat}{c:List PV}(h:jk μ w v (.rp els i off))(hc:els[i]? =some c):jk μ w v (.rp [c] 0 off):=by
 cases h with
 |rp a sz _ _ _ vf hsz hb hcell hv=>
  have hm:=List.mem_of_getElem? hc;have hne:els≠[]:=fun e=>by subst e;simp at hc
  have e1:a.add (i*sz+off)=(a.add (i*sz)).add (0*sz+off):=by rw[Cb];simp
  rw[e1];refine .rp (a.add (i*sz)) sz [c] 0 off (fun _ j=>vf i j) (fun e he=>by simp at he;subst he;exact hsz _ hm) (fun _=>by rw[BX];exact hb hne) ?_ ?_
  ·intro i' e j p h1 h2;cases i' with
   |zero=>
    simp at h1;subst h1;rw[Cb];have:=hcell i c j p hc h2;rw[show i*sz+(0*sz+j)=i*sz+j by simp];exact this
   |succ i'=>simp at h1
  ·intro i' e j p h1 h2;cases i' with
   |zero=>simp at h1;subst h1;exact hv i c j p hc h2
   |succ i'=>simp at h1
section
variable {P:Program} {n n0:Nat} {lz an:List Nat} {Q Q1:QT} {α β:Type} {T x y:Option β} {r:β} {s:SS}
structure GG(P:Program)(n n0:Nat)(lz an:List Nat){β:Type}(r:β)(Q:QT)(T:Option β)(s:SS):Prop where
 go:T=some r→XK P n n0 lz Q s
instance:CoeFun (GG P n n0 lz an r Q T s) (fun _=>T=some r→XK P n n0 lz Q s):=⟨GG.go⟩
theorem Yd.le{st:St}{o:Oper}{f:Fr}{av av':AV}(h:Yd P n st o f av)(hl:∀ι w v,bk ι w st v av→bk ι w st v av'):Yd P n st o f av':=
 fun ι w a hR hF K Q hK=>h ι w a hR hF K Q fun v w' ι' h1 h2 h3=>hK v w' ι' (hl _ _ _ h1) h2 h3
def Fi(s:SS):Option (Oper×Fr):=
 match s.ks with
 | .o ops (o::_)::_=>(match Zd ops s.kn o s.fr with
  |some true=>some (o,s.fr)
  |_=>none)
 | .g _ ops (o::_) _::_=>(match Zd ops s.kn o (iz ops o s.fr)with
  |some true=>some (o,iz ops o s.fr)
  |_=>none)
 |_=>none
def Kp(s:SS):St:=match s.ks with
 | .g X ops (o::_) _::_=>oy (bq (zZ ops X o s.fr)) 0 s.st
 |_=>s.st
def HG(n:Nat)(av:AV)(s:SS):SS:=
 match s with
 |⟨.o ops (o::l)::k,fr,st,kn⟩=>fA av fun av=>Ga n o.dst av fr (fun fr'=>Iq false o.dst kn fun kn'=>⟨.o ops l::k,fr',st,kn'⟩) s
 |⟨.g X ops (o::l) tw::k,fr,st,kn⟩=>fA av fun av=>bif O7 ops X o fr av then Ga n o.dst av fr (fun fr'=>Iq false o.dst kn fun kn'=>⟨.g X ops l (tw++[(zZ ops X o fr,[])])::k,fr',st,kn'⟩) s else s
 |s=>s
theorem XO.yd{ops:Array Oper}{o:Oper}{l:List Oper}{fr fr':Fr}{st:St}{av:AV}(hg:fx ops o fr=some true)(h:Yd P n st o fr av)(hp:BZ n o.dst av fr=some fr')
  (k:XO P n n0 lz ops l Q fr' st):XO P n n0 lz ops (o::l) Q fr st:=by
 intro ι w a hR hF;have hw:=gj hg hF;refine wpList_step fun K hK=> ?_
 rw[if_pos hw];refine h ι w a hR hF K _ fun v w' ι' hv hR' kk=> ?_
 exact hK _ _ (iE (fun e a w h=>h.trans (kk.weaken (fun _ _=>trivial))) (k ι' w' _ hR' (oI hp (hF.mono' kk) hv)))
theorem tD{o:Oper}{f:Fr}{av:AV}(he:Fi s=some (o,f))(h:Yd P n (Kp s) o f av)(k:XK P n n0 lz Q (HG n av s)):XK P n n0 lz Q s:=by
 obtain⟨ks,fr,st,kn⟩:=s
 match ks,he with
 | .o ops (o'::l)::ks,he=>
  simp only[Fi]at he;split at he
  ·rename_i hg;have hg:=C7 hg;simp only[eJ,sT]at he;obtain⟨rfl,rfl⟩:=he;simp only[HG,DZ]at k;rcases ua (n:=n) o'.dst av fr (fun fr'=>Iq false o'.dst kn fun kn'=>(⟨.o ops l::ks,fr',st,kn'⟩:SS)) ⟨.o ops (o'::l)::ks,fr,st,kn⟩with⟨fr',hp,e⟩ |e
   ·obtain⟨kn',ek⟩:=wC false o'.dst kn fun kn'=>(⟨.o ops l::ks,fr',st,kn'⟩:SS)
    rw[e,ek]at k;exact XO.yd hg h hp k
   ·rw[e]at k;exact k
  ·cases he
 | .g X ops (o'::l) tw::ks,he=>
  simp only[Fi]at he;split at he
  ·rename_i hg;have hg:=C7 hg;simp only[eJ,sT]at he;obtain⟨rfl,rfl⟩:=he;simp only[HG,DZ]at k;cases hc:O7 ops X o' fr av with
   |false=>simp only[hc,cond_false]at k;exact k
   |true=>
    simp only[hc,cond_true]at k;rcases ua (n:=n) o'.dst av fr (fun fr'=>Iq false o'.dst kn fun kn'=>(⟨.g X ops l (tw++[(zZ ops X o' fr,[])])::ks,fr',st,kn'⟩:SS)) ⟨.g X ops (o'::l) tw::ks,fr,st,kn⟩with⟨fr',hp,e⟩ |e
    ·obtain⟨kn',ek⟩:=wC false o'.dst kn fun kn'=>(⟨.g X ops l (tw++[(zZ ops X o' fr,[])])::ks,fr',st,kn'⟩:SS)
     rw[e,ek]at k;exact GK.yd (BP hp) hc (.inl ⟨hg,h⟩) k
    ·rw[e]at k;exact k
  ·cases he
def BL:List It→Bool
 | .c _::_=>true
 | .o _ _::_=>true
 | .b _::k=>BL k
 | .s::k=>BL k
 |_=>false
theorem QK.sub{fr':Fr}{st':St}:∀{ks:List It} {fr:Fr} {st:St},BL ks=true→zf n n0 lz fr st fr' st'→QK P n n0 lz ks Q .normal fr' st'→QK P n n0 lz ks Q .normal fr st
 | .c _::_,_,_,_,hs,h=>XW.sub hs h
 | .o _ _::_,_,_,_,hs,h=>XO.sub hs h
 | .b _::k,_,_,ht,hs,h=>QK.sub (ks:=k) (by simpa [BL]using ht) hs h
 | .s::k,_,_,ht,hs,h=>QK.sub (ks:=k) (by simpa [BL]using ht) hs h
theorem XK.sub{fr' fr:Fr}{st' st:St}{ks:List It}{kn kn':List Nat}(ht:BL ks=true)(hs:zf n n0 lz fr st fr' st')(h:XK P n n0 lz Q ⟨ks,fr',st',kn'⟩):XK P n n0 lz Q ⟨ks,fr,st,kn⟩:=QK.sub ht hs h
def Qv(d:Nat)(av:AV):Fr→Fr
 |[]=>[]
 |(t,a)::f=>bif Nat.beq t d then(t,av)::f else(t,a)::Qv d av f
theorem SF(d:Nat):∀f:Fr,Qv d (lk f d) f=f
 |[]=>rfl
 |(t,a)::f=>by
  simp only[Qv,lk];cases hb:Nat.beq t d with
  |true=>rfl
  |false=>simp only[cond_false];rw[SF d f]
def R3{β:Type}(d:Nat)(av:AV):Fr→(Fr→β)→β
 |[],K=>K []
 |(t,a)::f,K=>bif Nat.beq t d then K ((t,av)::f)else R3 d av f fun f=>K ((t,a)::f)
theorem JM{β:Type}(d:Nat)(av:AV):∀(f:Fr) (K:Fr→β),R3 d av f K=K (Qv d av f)
 |[],K=>rfl
 |(t,a)::f,K=>by
  simp only[R3,Qv];cases Nat.beq t d with
  |true=>rfl
  |false=>simp only[cond_false];exact JM d av f _
def acB(kn:List Nat)(o:Oper):Option Nat:=match o.op with
 | .pick (.tmp c) _ _=>bif kn.any (Nat.beq c)then none else some c
 |_=>none
def kSl(ops:Array Oper)(kn:List Nat)(o:Oper):Option Nat:=match o.guard with
 |some (j,_)=>(match(ops[j]?).bind (·.dst)with
  |some d=>bif kn.any (Nat.beq d)then acB kn o else some d
  |none=>none)
 |none=>acB kn o
def Zz(s:SS):Option Nat:=match s.ks with
 | .o ops (o::_)::_=>kSl ops s.kn o
 | .g _ ops (o::_) _::_=>kSl ops s.kn o
 |_=>none
def bool? (a:AV):Option Bool:=match a with
 | .one (.pv (.s (.bool t)))=>some t
 |_=>none
theorem bool?_eq{a:AV}{t:Bool}(h:bool? a=some t):a=vb t:=by
 unfold bool? at h;split at h
 ·simp only[eJ]at h;subst h;rfl
 ·cases h
def Qn(s:SS):Option Bool:=
 match s.ks with
 | .c (.cond o _ _)::_=>bool? (rv s.fr o)
 |_=>(match Zz s with
  |some d=>bool? (lk s.fr d)
  |none=>none)
def Un(t:Bool)(s:SS):SS:=
 match s with
 |⟨ks,fr,st,kn⟩=>match ks with
  | .c (.cond o a b)::k=>(match t with
   |true=>⟨.c a::k,fr,st,kn⟩
   |false=>⟨.c b::k,fr,st,kn⟩)
  |ks=>(match Zz ⟨ks,fr,st,kn⟩with
   |some d=>R3 d (vb t) fr fun fr=>⟨ks,fr,st,d::kn⟩
   |none=>⟨ks,fr,st,kn⟩)
theorem acF{ks:List It}{fr:Fr}{st:St}{kn:List Nat}{d:Nat}{t:Bool}(hd:Zz ⟨ks,fr,st,kn⟩=some d):Un t ⟨ks,fr,st,kn⟩=⟨ks,Qv d (vb t) fr,st,d::kn⟩:=by
 cases ks with
 |nil=>simp[Zz]at hd
 |cons x k=>
  cases x with
  |c x=>simp[Zz]at hd
  |b=>simp[Zz]at hd
  |s=>simp[Zz]at hd
  |r=>simp[Zz]at hd
  |o ops l=>simp only[Un,hd,JM]
  |g X ops l tw=>simp only[Un,hd,JM]
theorem zY{t:Bool}(he:Qn s=some t)(k:XK P n n0 lz Q (Un t s)):XK P n n0 lz Q s:=by
 obtain⟨ks,fr,st,kn⟩:=s;unfold Qn at he;split at he
 ·rename_i o a b ks' hk;simp only at hk;subst hk;have hx:=bool?_eq he;simp only[Un]at k;refine XW.cond (n:=n) rfl hx (fun h=> ?_) (fun h=> ?_)
  ·subst h;exact k
  ·subst h;exact k
 ·rename_i hk;split at he
  ·rename_i d hd;have hx:=bool?_eq he;rw[acF hd,←hx]at k;have k:QK P n n0 lz ks Q .normal (Qv d (lk fr d) fr) st:=k;rw[SF]at k;exact k
  ·cases he
theorem uC{t:Bool}(ht:GG P n n0 lz an r Q x (Un true (run P n an s)))(hf:GG P n n0 lz an r Q y (Un false (run P n an s)))
  (he:Qn (run P n an s)=some t:=by kernel_rfl):GG P n n0 lz an r Q (ak t x y) s:=by
 refine⟨fun h=> ?_⟩;refine dn (an:=an) ?_;cases t with
 |true=>exact zY he (ht h)
 |false=>exact zY he (hf h)
theorem uC'{t:Bool}(ht:t=true→GG P n n0 lz an r Q x (Un true (run P n an s)))(hf:t=false→GG P n n0 lz an r Q y (Un false (run P n an s)))
  (he:Qn (run P n an s)=some t:=by kernel_rfl):GG P n n0 lz an r Q (ak t x y) s:=by
 refine⟨fun h=> ?_⟩;refine dn (an:=an) ?_;cases t with
 |true=>exact zY he (ht rfl h)
 |false=>exact zY he (hf rfl h)
theorem uT(k:GG P n n0 lz an r Q T (Un true (run P n an s)))(he:Qn (run P n an s)=some true:=by kernel_rfl):GG P n n0 lz an r Q T s:=
 ⟨fun h=>dn (an:=an) (zY he (k h))⟩
theorem uF(k:GG P n n0 lz an r Q T (Un false (run P n an s)))(he:Qn (run P n an s)=some false:=by kernel_rfl):GG P n n0 lz an r Q T s:=
 ⟨fun h=>dn (an:=an) (zY he (k h))⟩
theorem uH{B b:Bool}(hb:B=b)(k:GG P n n0 lz an r Q T (Un b (run P n an s)))(he:Qn (run P n an s)=some B:=by kernel_rfl):GG P n n0 lz an r Q T s:=
 ⟨fun h=>dn (an:=an) (zY (hb▸he) (k h))⟩
theorem fW{o:Option β}{p:Prop}(e:o=none)(h:o=some r):p:=by rw[e]at h;cases h
theorem uNo:GG P n n0 lz an r Q (none:Option β) s:=⟨fun h=>
 nomatch h⟩
def aeu(s:SS):Option Nat:=match Fi s with
 |some (o,_)=>(match o.op with
  | .indexAddr _ _ (.tmp t)=>some t
  | .index _ _ (.tmp t)=>some t
  |_=>none)
 |none=>none
def ixI(s:SS):Option (IntKind×Int):=match aeu s with
 |some t=>(match lk s.fr t with
  | .one (.pv (.s (.int k m)))=>some (k,m)
  |_=>none)
 |none=>none
def Oe(P:Program)(s:SS):Option (AV×List Prop):=
 match Fi s with
 |some (o,f)=>bif tR o.op then(match ev P false o f (Kp s) (TO o f)with
  |some out=>some (out.av,out.ob)
  |none=>none)else none
 |none=>none
theorem Qr{av:AV}{ob:List Prop}(he:Oe P s=some (av,ob))(hob:nw ob):∃o f,Fi s=some (o,f)∧Yd P n (Kp s) o f av:=by
 unfold Oe at he;split at he
 ·rename_i o f hd;cases hq:tR o.op with
  |false=>simp[hq]at he
  |true=>
   simp only[hq,cond_true]at he;split at he
   ·rename_i out hev;simp only[eJ,sT]at he;obtain⟨rfl,rfl⟩:=he;exact⟨o,f,hd,Yd.ev hq hev hob⟩
   ·cases he
 ·cases he
theorem uV(av av':AV){ob:List Prop}(hob:nw ob)(hav:av=av')(k:GG P n n0 lz an r Q T (HG n av' (run P n an s)))(he:Oe P (run P n an s)=some (av,ob)):GG P n n0 lz an r Q T s:=by
 refine⟨fun h=> ?_⟩;obtain⟨o,f,h1,h2⟩:=Qr (n:=n) he hob;subst hav;exact dn (an:=an) (tD h1 h2 (k h))
def avQ(P:Program)(s:SS):AV:=match Oe P s with
 |some (av,_)=>av
 |none=> .j
def obQ(P:Program)(s:SS):Option (List Prop):=match Oe P s with
 |some (_,ob)=>some ob
 |none=>none
theorem ael{ob:List Prop}(h:obQ P s=some ob):Oe P s=some (avQ P s,ob):=by
 unfold obQ at h;unfold avQ;split at h
 ·rename_i av ob' he;simp only[eJ]at h;subst h;rw[he]
 ·cases h
def evK(P:Program)(s:SS):Option AV:=
 match Fi s with
 |some (o,f)=>bif tR o.op then(match ev P false o f (Kp s) (TO o f)with
  |some out=>(match out.ob with
   |[]=>some out.av
   |_=>bif obB P s.kn o f then some out.av else none)
  |none=>none)else none
 |none=>none
theorem aap{av:AV}(he:evK P s=some av):∃o f,Fi s=some (o,f)∧Yd P n (Kp s) o f av:=by
 unfold evK at he;split at he
 ·rename_i o f hd;cases hq:tR o.op with
  |false=>simp[hq]at he
  |true=>
   simp only[hq,cond_true]at he;split at he
   ·rename_i out hev;have hob:nw out.ob∧out.av=av:=by
     split at he
     ·rename_i hob;rw[hob];exact⟨trivial,Option.some.inj he⟩
     ·cases hb:obB P s.kn o f with
      |false=>simp[hb]at he
      |true=>rw[hb]at he;exact⟨Wt hb hev,Option.some.inj he⟩
    rw[←hob.2];exact⟨o,f,hd,Yd.ev hq hev hob.1⟩
   ·cases he
 ·cases he
theorem uY(d:Nat){e:α}(m:α→AV){f:α→Option β}(k:∀y,GG P n n0 lz an r Q (f y) (HG n (m y) (KW P n an d s)))
  (he:evK P (KW P n an d s)=some (m e):=by kernel_rfl):GG P n n0 lz an r Q (am (some e) f) s:=by
 refine⟨fun h=> ?_⟩;obtain⟨o,g,h1,h2⟩:=aap (n:=n) he;exact Cp (tD h1 h2 (k e h))
theorem uYg(d:Nat){e:α}{p:Prop}[Decidable p](m:α→AV){f:α→Option β}(k:∀y,GG P n n0 lz an r Q (f y) (HG n (m y) (KW P n an d s)))
  (he:Oe P (KW P n an d s)=some (m e,[p]):=by kernel_rfl):GG P n n0 lz an r Q (iN p (am (some e) f)) s:=by
 refine⟨fun h=> ?_⟩;obtain⟨hp,h⟩:=rj h;obtain⟨o,g,h1,h2⟩:=Qr (n:=n) he ⟨hp,trivial⟩;exact Cp (tD h1 h2 (k e h))
theorem uG{p:Prop}[Decidable p](k:GG P n n0 lz an r Q x (HG n (avQ P (run P n an s)) (run P n an s)))(he:obQ P (run P n an s)=some [p]:=by kernel_rfl):GG P n n0 lz an r Q (iN p x) s:=by
 refine⟨fun h=> ?_⟩;obtain⟨hp,h⟩:=rj h;exact uV _ _ (ob:=[p]) ⟨hp,trivial⟩ rfl k (ael he) h
def We(P:Program)(s:SS):Option (List (List PV)×Int×Nat):=
 match Fi s with
 |some (o,f)=>(match o.op with
  | .indexAddr t x i=>(match P.underlying t,rv f x,rv f i with
   |some (.slice e),.one (.pv (.ro els)),.one (.pv (.s (.int _ m)))=>(match Hi P e with
    |some es=>some (els,m,es)
    |none=>none)
   |_,_,_=>none)
  |_=>none)
 |none=>none
theorem Y8{els:List (List PV)}{i:Int}{es:Nat}{c:List PV}(he:We P s=some (els,i,es))(h:0≤i∧i<(els.length:Int)∧kf es els)(hc:els[i.toNat]? =some c):
  ∃o f,Fi s=some (o,f)∧Yd P n (Kp s) o f (.one (.pv (.rp [c] 0 0))):=by
 unfold We at he;split at he
 ·rename_i o f hd;refine⟨o,f,hd,?_⟩;split at he
  ·rename_i t x i' ho;split at he
   ·rename_i e els' k m hu hx hi;split at he
    ·rename_i es' hes;simp only[eJ,sT]at he;obtain⟨rfl,rfl,rfl⟩:=he;have hev:ev P false o f (Kp s) []=some ⟨.one (.pv (.rp els' m.toNat 0)),Kp s,[0≤m∧m<(els'.length:Int)∧kf es' els'],[],none⟩:=by
      unfold ev;simp only[ho,hx,hi,T5,hu,hes]
     refine(Yd.ev (by rw[ho];rfl) hev ⟨h,trivial⟩).le ?_;intro ι w v hv;cases rh hv with
     |pv _ _ hp=>exact .one _ _ (.pv _ _ (hp.at1 hc))
    ·cases he
   ·cases he
  ·cases he
 ·cases he
theorem uL(E:ub α){xs:List α}{i:Int}{f:α→Option β}(k:∀e,at? xs i=some e→GG P n n0 lz an r Q (f e) (HG n (.one (.pv (.rp [E.cells e] 0 0))) (run P n an s)))
  (he:We P (run P n an s)=some (E.els xs,i,E.sz):=by kernel_rfl):GG P n n0 lz an r Q (am (at? xs i) f) s:=by
 refine⟨fun h=> ?_⟩;obtain⟨e,ha,h⟩:=zP h;obtain⟨o,g,h1,h2⟩:=Y8 (n:=n) he (E.inb ha) (E.get ha);exact dn (an:=an) (tD h1 h2 (k e ha h))
theorem uM(E:ub α){xs:List α}{i:Int}{e:α}(ha:at? xs i=some e)(k:GG P n n0 lz an r Q T (HG n (.one (.pv (.rp [E.cells e] 0 0))) (run P n an s)))
  (he:We P (run P n an s)=some (E.els xs,i,E.sz):=by kernel_rfl):GG P n n0 lz an r Q T s:=by
 refine⟨fun h=> ?_⟩;obtain⟨o,g,h1,h2⟩:=Y8 (n:=n) he (E.inb ha) (E.get ha);exact dn (an:=an) (tD h1 h2 (k h))
theorem uA(av:AV)(k:GG P n n0 lz an r Q T (HG n av (run P n an s)))(he:Oe P (run P n an s)=some (av,[]):=by kernel_rfl):GG P n n0 lz an r Q T s:=
 uV av av (ob:=[]) trivial rfl k he
theorem uN(E:ub α)(xs:List α)(k:GG P n n0 lz an r Q T (HG n (vi (xs.length:Int)) (run P n an s)))
  (he:Oe P (run P n an s)=some (vi ((E.els xs).length:Int),[]):=by kernel_rfl):GG P n n0 lz an r Q T s:=
 uV _ _ (ob:=[]) trivial (by rw[E.len]) k he
theorem uX(E:ub α){xs:List α}{a b:Int}(k:GG P n n0 lz an r Q x (HG n (vl E ((xs.drop a.toNat).take (b.toNat-a.toNat))) (run P n an s)))
  (he:Oe P (run P n an s)=some (.one (.pv (.ro (((E.els xs).drop a.toNat).take (b.toNat-a.toNat)))),[(0≤a∧a≤b∧b≤((E.els xs).length:Int))∧kf E.sz (E.els xs)]):=by kernel_rfl):
  GG P n n0 lz an r Q (iN (0≤a∧a≤b∧b≤(xs.length:Int)) x) s:=by
 refine⟨fun h=> ?_⟩;obtain⟨hp,h⟩:=rj h;exact uV _ _ (ob:=[_]) ⟨E.cutOk hp,trivial⟩ (by rw[E.cut]) k he h
theorem uXm(E:ub α){xs:List α}{a b m:Int}(k:GG P n n0 lz an r Q x (HG n (vl E ((xs.drop a.toNat).take (b.toNat-a.toNat))) (run P n an s)))
  (he:Oe P (run P n an s)=some (.one (.pv (.ro (((E.els xs).drop a.toNat).take (b.toNat-a.toNat)))),[(0≤a∧a≤b∧b≤m∧m≤((E.els xs).length:Int))∧kf E.sz (E.els xs)]):=by kernel_rfl):
  GG P n n0 lz an r Q (iN (0≤a∧a≤b∧b≤m∧m≤(xs.length:Int)) x) s:=by
 refine⟨fun h=> ?_⟩;obtain⟨hp,h⟩:=rj h;exact uV _ _ (ob:=[_]) ⟨E.cutMOk hp,trivial⟩ (by rw[E.cut]) k he h
theorem uBr(xs:List Int)(k:GG P n n0 lz an r Q T (HG n (vs (runesBytes xs)) (run P n an s)))
  (he:Oe P (run P n an s)=some (vs (Ab ((eK .i32).els xs)),[F0 ((eK .i32).els xs)]):=by kernel_rfl):GG P n n0 lz an r Q T s:=
 uV _ _ (ob:=[_]) ⟨Rf xs,trivial⟩ (by rw[KS]) k he
theorem uBs{a:ByteArray}(k:GG P n n0 lz an r Q x (HG n (vl (eK .i32) (ig a)) (run P n an s)))
  (he:Oe P (run P n an s)=some (.one (.pv (.ro (yQ a))),[a.size≤4294967296]):=by kernel_rfl):GG P n n0 lz an r Q (iN (a.size≤4294967296) x) s:=by
 refine⟨fun h=> ?_⟩;obtain⟨hp,h⟩:=rj h;exact uV _ _ (ob:=[_]) ⟨hp,trivial⟩ (by rw[QM]) k he h
def clQ(P:Program)(s:SS):Option (Nat×List AV):=
 match Fi s with
 |some (o,f)=>C2 P o f
 |none=>none
theorem Zw{g:Nat}{avs:List AV}{v:AV}(he:clQ P s=some (g,avs))(h:PC P g avs v)(hp:wz avs=true)(hr:At v=true):∃o f,Fi s=some (o,f)∧Yd P n (Kp s) o f v:=by
 unfold clQ at he;split at he
 ·rename_i o f hd;exact⟨o,f,hd,Yd.call he h hp hr⟩
 ·cases he
def CT(P:Program)(f:Nat)(args:List AV){β:Type}(T:Option β)(rv:β→AV):Prop:=∀r,T=some r→PC P f args (rv r)
theorem uPn{α:Type}{o:Option α}{f:α→Option β}{g:Nat}{avs:List AV}{rv:α→AV}(c:CT P g avs o rv)
  (k:∀v,o=some v→GG P n n0 lz an r Q (f v) (HG n (rv v) (run P n an s)))
  (he:clQ P (run P n an s)=some (g,avs):=by kernel_rfl)(hp:wz avs=true:=by kernel_rfl)(hr:∀v,At (rv v)=true:=by intro v;kernel_rfl):GG P n n0 lz an r Q (am o f) s:=by
 refine⟨fun h=> ?_⟩;obtain⟨v,ho,h⟩:=zP h;obtain⟨o',f',h1,h2⟩:=Zw (n:=n) he (c v ho) hp (hr v);exact dn (an:=an) (tD h1 h2 (k v ho h))
def sfC:CV→CV
 | .pv (.s (.slice none 0 0))=> .pv (.ro [])
 | .cl els=> .pv (.ro els)
 |c=>c
def sfA:AV→AV
 | .one c=> .one (sfC c)
 | .ag cs=> .ag (cs.map sfC)
 |a=>a
theorem W5(c:CV):Yx c (sfC c):=by
 unfold sfC;split
 ·exact .nl
 ·exact .cl _
 ·exact .rfl _
theorem Up(a:AV):Wi a (sfA a):=by
 unfold sfA;split
 ·exact .one (W5 _)
 ·refine .ag (by simp) (fun i c c' h1 h2=> ?_);rw[List.getElem?_map,h1]at h2;simp only[Option.map_some,eJ]at h2;subst h2;exact W5 c
 ·exact .rfl _
theorem JS.refl:∀l:List AV,JS l l
 |[]=>trivial
 |a::l=>⟨.rfl _,JS.refl l⟩
theorem OK(l:List AV):JS l (l.map sfA):=by
 induction l with
 |nil=>trivial
 |cons a l ih=>exact⟨Up a,ih⟩
def clS(P:Program)(s:SS):Option (Nat×List AV):=match clQ P s with
 |some (g,l)=>bif wz l then some (g,l.map sfA)else none
 |none=>none
theorem uP{α:Type}{o:Option α}{f:α→Option β}{g:Nat}{avs:List AV}{rv:α→AV}(c:CT P g avs o rv)
  (k:∀v,o=some v→GG P n n0 lz an r Q (f v) (HG n (rv v) (run P n an s)))
  (he:clS P (run P n an s)=some (g,avs):=by kernel_rfl)(hr:∀v,At (rv v)=true:=by intro v;kernel_rfl):GG P n n0 lz an r Q (am o f) s:=by
 refine⟨fun h=> ?_⟩;obtain⟨v,ho,h⟩:=zP h;unfold clS at he;split at he
 ·rename_i g' l hq;cases hp:wz l with
  |false=>simp[hp]at he
  |true=>
   simp only[hp,cond_true,eJ,sT]at he;obtain⟨rfl,rfl⟩:=he;obtain⟨o',f',h1,h2⟩:=Zw (n:=n) hq ((c v ho).le (OK l)) hp (hr v);exact dn (an:=an) (tD h1 h2 (k v ho h))
 ·cases he
structure KP(n n0:Nat)(lz:List Nat) where
 p:Fr→St→Prop
 cl:∀{fr st fr' st'},zf n n0 lz fr st fr' st'→p fr' st'→p fr st
theorem E5(Q:QT):∀l1 l2:List It,QK P n n0 lz (l1++l2) Q=QK P n n0 lz l1 (QK P n n0 lz l2 Q)
 |[],l2=>rfl
 | .b _::l,l2=>by simp only[List.cons_append,QK,E5 Q l l2]
 | .s::l,l2=>by simp only[List.cons_append,QK,E5 Q l l2]
 | .c _::l,l2=>by simp only[List.cons_append,QK,E5 Q l l2]
 | .o _ _::l,l2=>by simp only[List.cons_append,QK,E5 Q l l2]
 | .g _ _ _ _::l,l2=>by simp only[List.cons_append,QK,E5 Q l l2]
 | .r _ _::l,l2=>by simp only[List.cons_append,QK,E5 Q l l2]
theorem Qs(Q:QT):pU (Q .normal) Q=Q:=by funext e f s;cases e<;>rfl
def Y3{α β:Type}:Nat→List α→(List α→β)→β
 |d+1,x::l,K=>Y3 d l fun l=>K (x::l)
 |_,_,K=>K []
def R1{α β:Type}:List α→List β→Bool
 |[],[]=>true
 |_::l,_::m=>R1 l m
 |_,_=>false
def tkQ{β:Type}(l2:List It):List It→(List It→β)→β
 |[],K=>K []
 |x::l,K=>bif R1 l2 (x::l)then K []else tkQ l2 l fun l=>K (x::l)
def N2(l2:List It):List It→List It
 |[]=>[]
 |x::l=>bif R1 l2 (x::l)then x::l else N2 l2 l
theorem Sj{β:Type}(l2:List It):∀(l:List It) (K:List It→β),∃l1,tkQ l2 l K=K l1∧l=l1++N2 l2 l
 |[],K=>⟨[],rfl,rfl⟩
 |x::l,K=>by
  obtain⟨l1,h1,h2⟩:=Sj l2 l (fun l=>K (x::l));unfold tkQ N2;cases hb:R1 l2 (x::l)with
  |true=>exact⟨[],rfl,rfl⟩
  |false=>exact⟨x::l1,by simp only[cond_false,h1],by simp only[cond_false,List.cons_append];rw[←h2]⟩
def tkS(l2:List It)(s:SS):SS:=match s with
 |⟨ks,fr,st,kn⟩=>tkQ l2 ks fun ks=>⟨ks,fr,st,kn⟩
def ZC:List Nat→Code→List It→List It
 |[],_,acc=>acc
 |i::p,c,acc=>match c with
  | .seq a b=>bif Nat.beq i 0 then ZC p a (.c b::acc)else ZC p b acc
  | .block id a=>ZC p a (.b id::acc)
  | .scope a=>ZC p a (.s::acc)
  | .cond _ a b=>bif Nat.beq i 0 then ZC p a acc else ZC p b acc
  | .loop x=>ZC p x []
  |_=>acc
def kS(fn:Func)(p:List Nat)(m:Nat):List It:=Y3 m (ZC p (cd fn []) []) id
theorem SE{l2:List It}{s':SS}(h:∀K:KP n n0 lz,(∀{γ:Type} {T1:Option γ} {r1:γ} {f:Fr} {st:St},T1=some r1→GG P n n0 lz an r1 Q T1 ⟨l2,f,st,[]⟩→K.p f st)→GG P n n0 lz an r (pU K.p (QK P n n0 lz l2 Q)) T (tkS l2 s'))
  (he:N2 l2 s'.ks=l2)(ht:BL l2=true)(hT:T=some r):XK P n n0 lz Q s':=by
 have:=h ⟨fun f st=>XK P n n0 lz Q ⟨l2,f,st,[]⟩,fun hs h=>XK.sub ht hs h⟩ (fun hT g=>g hT) hT;obtain⟨ks,fr,st,kn⟩:=s';obtain⟨l1,e1,e3⟩:=Sj l2 ks fun ks=>(⟨ks,fr,st,kn⟩:SS)
 have e:XK P n n0 lz Q ⟨ks,fr,st,kn⟩=QK P n n0 lz (l1++l2) Q .normal fr st:=by
  simp only at he;rw[he]at e3;unfold XK;rw[e3]
 rw[e,E5];have e2:pU (fun f st=>XK P n n0 lz Q ⟨l2,f,st,[]⟩) (QK P n n0 lz l2 Q)=QK P n n0 lz l2 Q:=Qs (QK P n n0 lz l2 Q);unfold tkS at this;simp only at this;rw[e1]at this;have t2:QK P n n0 lz l1 (pU (fun f st=>XK P n n0 lz Q ⟨l2,f,st,[]⟩) (QK P n n0 lz l2 Q)) .normal fr st:=this;rw[e2]at t2;exact t2
theorem uQ(l2:List It)(h:∀K:KP n n0 lz,(∀{γ:Type} {T1:Option γ} {r1:γ} {f:Fr} {st:St},T1=some r1→GG P n n0 lz an r1 Q T1 ⟨l2,f,st,[]⟩→K.p f st)→GG P n n0 lz an r (pU K.p (QK P n n0 lz l2 Q)) T (tkS l2 (run P n an s)))
 (he:N2 l2 (run P n an s).ks=l2:=by kernel_rfl)(ht:BL l2=true:=by kernel_rfl):GG P n n0 lz an r Q T s:=⟨fun hT=>dn (SE h he ht hT)⟩
theorem X1(d:Nat)(l2:List It)(h:∀K:KP n n0 lz,(∀{γ:Type} {T1:Option γ} {r1:γ} {f:Fr} {st:St},T1=some r1→GG P n n0 lz an r1 Q T1 ⟨l2,f,st,[]⟩→K.p f st)→GG P n n0 lz an r (pU K.p (QK P n n0 lz l2 Q)) T (tkS l2 (KW P n an d s)))
 (he:N2 l2 (KW P n an d s).ks=l2:=by kernel_rfl)(ht:BL l2=true:=by kernel_rfl):GG P n n0 lz an r Q T s:=⟨fun hT=>Cp (SE h he ht hT)⟩
def ZQ:CV→CV→CV
 | .pv (.s (.slice none 0 0)),.pv (.ro _)=> .pv (.ro [])
 |c,_=>c
def Tb:List CV→List CV→List CV
 |c::l,e::m=>ZQ c e::Tb l m
 |l,_=>l
def PB:AV→AV→AV
 | .one c,.one e=> .one (ZQ c e)
 | .ag l,.ag m=> .ag (Tb l m)
 |a,_=>a
def PO:List AV→List AV→List AV
 |a::l,e::m=>PB a e::PO l m
 |l,_=>l
def Yc:AV→AV→AV
 | .tp l,.tp m=> .tp (PO l m)
 |a,e=>PB a e
theorem Wl(c e:CV):Yx c (ZQ c e):=by
 unfold ZQ;split
 ·exact .nl
 ·exact .rfl _
theorem Rr:∀(l m:List CV),l.length=(Tb l m).length∧∀(i:Nat) c c',l[i]? =some c→(Tb l m)[i]? =some c'→Yx c c'
 |[],m=>by cases m<;>exact⟨rfl,fun i c c' h=>by simp at h⟩
 |c::l,[]=>⟨rfl,fun i a b h1 h2=>by simp only[Tb]at h2;rw[h1]at h2;cases h2;exact .rfl _⟩
 |c::l,e::m=>by
  obtain⟨h1,h2⟩:=Rr l m;refine⟨by simp only[Tb,List.length_cons];omega,fun i a b q1 q2=> ?_⟩;cases i with
  |zero=>simp only[Tb,List.getElem?_cons_zero,eJ]at q1 q2;subst q1;subst q2;exact Wl _ _
  |succ i=>exact h2 i a b (by simpa using q1) (by simpa [Tb]using q2)
theorem Ys(a e:AV):Wi a (PB a e):=by
 unfold PB;split
 ·exact .one (Wl _ _)
 ·obtain⟨h1,h2⟩:=Rr _ _;exact .ag h1 h2
 ·exact .rfl _
def Vu(fr:Fr):Fr→Fr
 |[]=>[]
 |(t,e)::l=>(t,PB (lk fr t) e)::Vu fr l
theorem Ou(fr:Fr):∀fr0,Xc fr (Vu fr fr0)
 |[]=>trivial
 |(t,e)::l=>⟨Ys _ _,Ou fr l⟩
def Dh:Nat→St→List Nat
 |_,[]=>[]
 |i,.dead::l=>Dh (i+1) l
 |i,_::l=>i::Dh (i+1) l
def jnF(n0:Nat)(fr0:Fr)(st0:St)(fr:Fr)(st:St):Option (Fr×St):=
 bif ((List.range n0).all (bq (Dh 0 st0))&&(Dh 0 st0).all (fun x=>Nat.ble (x+1) st0.length))&&gO (bq (Dh 0 st0)) st0 then some (Vu (s9 (bq (Dh 0 st0)) fr) fr0,Cw (Dh 0 st0) 0 (st.take st0.length))else none
theorem Si{fr0 fr:Fr}{st0 st:St}(he:jnF n0 fr0 st0 fr st=some (fr0,st0)):zf n n0 lz fr st fr0 st0:=by
 unfold jnF at he;cases hb:((List.range n0).all (bq (Dh 0 st0))&&(Dh 0 st0).all (fun x=>Nat.ble (x+1) st0.length))&&gO (bq (Dh 0 st0)) st0 with
 |false=>simp[hb]at he
 |true=>
  simp only[hb,cond_true,eJ,sT]at he;rw[iu]at hb;refine zf.trans (zf.only (Dh 0 st0) st0.length hb.1 rfl he.2 hb.2) ?_;rw[←he.1];exact zf.frame (Ou _ _)
def jnS(n0:Nat)(fr0:Fr)(st0:St)(s:SS):Option (Fr×St):=match s.ks with
 |[]=>jnF n0 fr0 st0 s.fr s.st
 |_=>none
theorem uJ{K:KP n n0 lz}{fr0:Fr}{st0:St}(j:T=some r→K.p fr0 st0)(he:jnS n0 fr0 st0 (run P n an s)=some (fr0,st0):=by kernel_rfl):GG P n n0 lz an r (pU K.p Q1) T s:=by
 refine⟨fun hT=> ?_⟩;refine dn (an:=an) ?_;unfold jnS at he;split at he
 ·rename_i hk;unfold XK;rw[hk];exact K.cl (Si he) (j hT)
 ·cases he
def lpQ(s:SS):Option (Code×List It):=match s.ks with
 | .c (.loop x)::k=>some (x,k)
 |_=>none
theorem uO(x':Code)(k:List It)(h:∀(R:Nat→KP n n0 lz),(∀{γ:Type} {T1:Option γ} {r1:γ} {j:Nat} {f:Fr} {st:St},T1=some r1→GG P n n0 lz an r1 (pU (R j).p (QK P n n0 lz k Q)) T1 ⟨[.c x'],f,st,[]⟩→(R (j+1)).p f st)→
   T=some r→(R aH).p (run P n an s).fr (run P n an s).st)
  (he:lpQ (run P n an s)=some (x',k):=by kernel_rfl):GG P n n0 lz an r Q T s:=by
 refine⟨fun hT=> ?_⟩;refine dn (an:=an) ?_;have h1:=h (fun j=>⟨fun f st=>XR P n n0 lz x' (QK P n n0 lz k Q) j f st,fun hs h=>XR.sub hs h⟩) (fun h g=>g h) hT;generalize run P n an s=s' at*;obtain⟨ks,fr,st,kn⟩:=s';unfold lpQ at he;split at he
 ·rename_i y k' hk;simp only[eJ,sT]at he;obtain⟨rfl,rfl⟩:=he;subst hk;exact XW.rounds aH rfl h1
 ·cases he
def rdS(j:Nat)(s:SS):SS:=match s with
 |⟨ks,fr,st,kn⟩=>match ks with
  | .c (.loop x)::k=>⟨.c x:: .r x j::k,fr,st,kn⟩
  |ks=>⟨ks,fr,st,kn⟩
theorem Ro(j:Nat)(g:GG P n n0 lz an r Q T (rdS j (run P n an s))):GG P n n0 lz an r Q T s:=by
 refine⟨fun hT=> ?_⟩;refine dn (an:=an) ?_;have h1:=g hT;generalize run P n an s=s' at*;obtain⟨ks,fr,st,kn⟩:=s';unfold rdS at h1;simp only at h1;split at h1
 ·exact XW.rounds (j+1) rfl h1
 ·exact h1
theorem uE{K:KP n n0 lz}{fr0 fr:Fr}{st0 st:St}(j:T=some r→K.p fr0 st0)(he:jnF n0 fr0 st0 fr st=some (fr0,st0):=by kernel_rfl):T=some r→K.p fr st:=
 fun hT=>K.cl (Si he) (j hT)
theorem uU{T':Option β}(hu:T'=T)(g:GG P n n0 lz an r Q T s):GG P n n0 lz an r Q T' s:=hu▸g
def exE(s:SS):Option Exit:=match s.ks with
 | .c (.exit id)::k=>bif (La id k).isNone then some (.exit id)else none
 | .c .ret::_=>some .ret
 |_=>none
structure RE(P:Program)(n n0:Nat)(lz an:List Nat){β:Type}(r:β)(e:Exit)(Q:QT)(T:Option β)(s:SS):Prop where
 go:T=some r→Q e s.fr s.st
instance{e:Exit}:CoeFun (RE P n n0 lz an r e Q T s) (fun _=>T=some r→Q e s.fr s.st):=⟨RE.go⟩
theorem uR(e:Exit)(g:RE P n n0 lz an r e Q T (run P n an s))(he:exE (run P n an s)=some e:=by kernel_rfl):GG P n n0 lz an r Q T s:=by
 refine⟨fun hT=> ?_⟩;have g:=g hT;refine dn (an:=an) ?_;generalize run P n an s=s' at*;obtain⟨ks,fr,st,kn⟩:=s';unfold exE at he;split at he
 ·rename_i id k0 hk;simp only at hk;subst hk;cases hu:La id k0 with
  |some k'=>simp[hu]at he
  |none=>
   simp only[hu,Option.isNone_none,cond_true,eJ]at he;subst he;exact XW.exit rfl (AG hu g)
 ·rename_i k0 hk;simp only at hk;subst hk;simp only[eJ]at he;subst he;exact XW.ret rfl (Di g)
 ·cases he
def UV(e:Exit)(k:List It):Option (List It):=match e with
 | .exit id=>La id k
 |_=>none
def okE:Exit→Bool
 | .ret=>true
 | .exit _=>true
 |_=>false
theorem xM{e:Exit}{R:Fr→St→Prop}{k:List It}(g:GG P n n0 lz an r Q T ⟨(UV e k).getD [],s.fr,s.st,[]⟩)(he:(UV e k).isSome=true:=by kernel_rfl):RE P n n0 lz an r e (pU R (QK P n n0 lz k Q)) T s:=by
 refine⟨fun hT=> ?_⟩;have g:=g hT;cases e<;>simp only[UV]at he g<;>try (cases he;done)
 rename_i id;obtain⟨k',hk⟩:=Option.isSome_iff_exists.1 he;rw[hk]at g;exact C4 hk g
theorem xN{e:Exit}{R:Fr→St→Prop}{k:List It}(g:RE P n n0 lz an r e Q T s)(he:((UV e k).isNone&&okE e)=true:=by kernel_rfl):RE P n n0 lz an r e (pU R (QK P n n0 lz k Q)) T s:=by
 refine⟨fun hT=> ?_⟩;have g:=g hT;cases e with
 |exit id=>exact AG (Option.isNone_iff_eq_none.1 (by simpa [UV,okE]using he)) g
 |ret=>exact Di g
 |_=>simp[okE]at he
theorem V2{st:St}{q:Nat→Bool}{c e:CV}(h:uD q (ZQ c e)=true):CF st q c (ZQ c e):=by
 unfold ZQ at*;split
 ·exact .nl
 ·exact .rfl _ (by simpa using h)
theorem LF.same{st:St}{q:Nat→Bool}:∀{l:List CV},Es q l=true→LF st q l l
 |[],_=> .nil
 |c::l,h=>by
  simp only[Es,iu]at h;exact .cons (.rfl _ h.1) (LF.same h.2)
theorem WK{st:St}{q:Nat→Bool}:∀{l m:List CV},Es q (Tb l m)=true→LF st q l (Tb l m)
 |c::l,e::m,h=>by
  simp only[Tb,Es,iu]at h;exact .cons (V2 h.1) (WK h.2)
 |[],_,_=>by simp only[Tb];exact .nil
 |c::l,[],h=>by simp only[Tb]at h⊢;exact LF.same h
theorem AF.same{st:St}{q:Nat→Bool}:∀{a:AV},ff q a=true→AF st q a a
 | .j,_=> .j _
 | .one c,h=> .one (.rfl _ h)
 | .ag l,h=> .ag (LF.same h)
 | .tp [],_=> .tp0
 | .tp (a::l),h=>by
  simp only[ff,ff.go,iu]at h;exact .tpc (AF.same h.1) (AF.same (a:= .tp l) (by simpa [ff]using h.2))
theorem RR{st:St}{q:Nat→Bool}{a e:AV}(h:ff q (PB a e)=true):AF st q a (PB a e):=by
 unfold PB at*;split
 ·exact .one (V2 (by simpa [ff]using h))
 ·exact .ag (WK (by simpa [ff]using h))
 ·exact AF.same (by simpa using h)
theorem SJ{st:St}{q:Nat→Bool}:∀{l m:List AV},ff.go q (PO l m)=true→AF st q (.tp l) (.tp (PO l m))
 |c::l,e::m,h=>by
  simp only[PO,ff.go,iu]at h;exact .tpc (RR h.1) (SJ h.2)
 |[],_,_=>by simp only[PO];exact .tp0
 |c::l,[],h=>by simp only[PO]at h⊢;exact AF.same (a:= .tp (c::l)) (by simpa [ff]using h)
theorem VX{st:St}{q:Nat→Bool}{a e:AV}(h:ff q (Yc a e)=true):AF st q a (Yc a e):=by
 unfold Yc at*;split
 ·exact SJ (by simpa [ff]using h)
 ·exact RR (by simpa using h)
def rsQ(P:Program)(fn:Func)(s:SS)(e:AV):Option AV:=match B1 P s.fr s.st fn.results.toList []with
 |some (avs,[])=>bif ff (fun _=>false) (Yc (FI avs) e)then some (Yc (FI avs) e)else none
 |_=>none
theorem aa3{fn:Func}{e:Exit}{R:AV}(he:e= .normal∨e= .ret)(h:rsQ P fn s R=some R):YR P fn R e s.fr s.st:=by
 unfold rsQ at h;split at h
 ·rename_i avs hr;cases hi:ff (fun _=>false) (Yc (FI avs) R)with
  |false=>simp[hi]at h
  |true=>
   simp only[hi,cond_true,eJ]at h;have:=VX (st:=s.st) hi;rw[h]at this;exact⟨he,[],avs,[],hr,trivial,this⟩
 ·cases h
def Qx(P:Program)(fn:Func){β:Type}(rv:β→AV)(r:β):QT:=YR P fn (rv r)
theorem xF{fn:Func}{rv:β→AV}{v:β}(he:rsQ P fn s (rv v)=some (rv v):=by kernel_rfl):RE P n n0 lz an r .ret (Qx P fn rv r) (some v) s:=by
 refine⟨fun h=> ?_⟩;simp only[eJ]at h;subst h;show YR P fn (rv v) _ _ _;exact aa3 (.inr rfl) he
def ff0(args:List AV):Fr:=fF (sN args 0) id
theorem cI{f:Nat}{args:List AV}{rv:β→AV}(n:Nat)(an:List Nat)(fn:Func)(g:∀r,GG P n 0 [] an r (Qx P fn rv r) T ⟨[.c (cd fn [])],ff0 args,[],[]⟩)
  (hf:P.funcs[f]? =some fn:=by kernel_rfl)(hb:fn.body=some (cd fn []):=by kernel_rfl)(hn:fn.ntmps=n:=by kernel_rfl)(hl:Nat.ble args.length n=true:=by rfl):CT P f args T rv:=by
 intro r hT;refine PC.of hf hb hn (CY hl) ?_;have:=g r hT;unfold ff0 at this;rw[FH]at this;refine XW.mono (show XW P n 0 [] (cd fn []) (QK P n 0 [] [] (Qx P fn rv r)) (sN args 0) []from ?_) (fun e f s h=>h);have e:pU (XW P n 0 [] (cd fn []) (Qx P fn rv r)) (Qx P fn rv r) .normal (sN args 0) []:=this;exact e
theorem Jd{f:Nat}{args:List AV}{rv:β→AV}(e:T=none):CT P f args T rv:=fun r h=>fW e h
def grQ(P:Program)(n0:Nat)(lz:List Nat)(m K:Nat)(X:List Nat)(s:SS):Bool:=match s.ks with
 | .c (.region _ ops true)::_=>((Q4 ops&&Sy ops m)&&P.follows .mixedOrders)&&(gO (fun i=> !bq X i) s.st&&MJ n0 lz X)
 |_=>false
def grS(m K:Nat)(X:List Nat)(s:SS):SS:=match s with
 |⟨.c (.region _ ops true)::k,fr,st,kn⟩=>fS (st++List.replicate K .dead) fun st=>⟨.g X ops (ops.toList.take m) []:: .o ops (ops.toList.drop m)::k,fr,st,kn⟩
 |s=>s
theorem Mc{q:Nat→Bool}:∀{a b:St},gO q a=true→gO q b=true→gO q (a++b)=true
 |[],b,_,h=>h
 |x::a,b,h,h2=>by
  simp only[List.cons_append,gO,iu]at h⊢;exact⟨h.1,Mc h.2 h2⟩
theorem Km{q:Nat→Bool}:∀K:Nat,gO q (List.replicate K .dead)=true
 |0=>rfl
 |K+1=>by rw[List.replicate_succ];simp only[gO,iu];exact⟨rfl,Km K⟩
theorem KJ(m K:Nat)(X:List Nat)(k:GG P n n0 lz an r Q T (grS m K X (run P n an s)))(he:grQ P n0 lz m K X (run P n an s)=true:=by kernel_rfl):GG P n n0 lz an r Q T s:=by
 refine⟨fun hT=> ?_⟩;have k:=k hT;refine dn (an:=an) ?_;generalize run P n an s=s' at*;obtain⟨ks,fr,st,kn⟩:=s';unfold grQ at he;split at he
 ·rename_i id ops k0 hk;simp only at hk;subst hk;simp only[grS,yq]at k;obtain⟨fr2,st2,tw2,h1,h2,h3⟩:=k;simp only[iu]at he;obtain⟨he,he1,he2⟩:=he;rw[List.nil_append]at h2;unfold WN at h2;rw[iu]at h2;have h4:gO (fun i=> !bq X i) (st++List.replicate K .dead)=true:=Mc he1 (Km K);exact XW.sub (zf.dead K) (XW.drwG (c:= .region id ops true) m X tw2 fr2 st2 rfl (by simp only[iu];exact⟨he,⟨h2,h4⟩,he2⟩) h1 h3)
 ·cases he
theorem nt(m:Nat)(k:GG P n n0 lz an r Q T (grS m 0 [999] (run P n an s)))(he:grQ P n0 lz m 0 [999] (run P n an s)=true:=by kernel_rfl):GG P n n0 lz an r Q T s:=KJ m 0 [999] k he
end
section
variable {P:Program} {n n0:Nat} {lz an:List Nat} {Q Q1:QT} {α β:Type} {T x y:Option β} {r:β} {s:SS} {fr:Fr} {st:St} {ops:Array Oper} {l:List Oper}
def PK(b:Bool)(a:AV):AV:=match b with
 |true=>sfA a
 |false=>a
theorem ZT(b:Bool)(l:List AV):JS l (l.map (PK b)):=by
 cases b with
 |true=>exact OK l
 |false=>rw[show l.map (PK false)=l from List.map_id l];exact JS.refl l
theorem Eh.soft{ι:IM}{w:World}{vs:List Value}{asv:List AV}(b:Bool)(h:Eh ι w st vs asv):Eh ι w st vs (asv.map (PK b)):=by
 obtain⟨e1,e2⟩:=(ZT b asv).get;refine⟨h.1.trans e1,fun j v a h1 h2=> ?_⟩;have hlt:j<asv.length:=by rw[e1];exact(tz.1 h2).1
 exact(h.2 j v _ h1 (dK hlt)).le (e2 j _ a (dK hlt) h2)
def CM(P:Program)(f:Nat)(args:List AV)(sc:St){β:Type}(T:Option β)(rv:β→AV)(nb:β→St):Prop:=∀r,T=some r→MC P f args sc (rv r) (nb r)
def FK(P:Program)(fn:Func)(k:Nat){β:Type}(rv:β→AV)(nb:β→St)(r:β):QT:=XU P fn (rv r) k (nb r)
def fS0(st:St):St:=fS st id
theorem wP{f:Nat}{args:List AV}{sc:St}{rv:β→AV}{nb:β→St}(k n:Nat)(an:List Nat)(fn:Func)(g:∀r,GG P n k [] an r (FK P fn k rv nb r) T ⟨[.c (cd fn [])],ff0 args,fS0 sc,[]⟩)
  (hf:P.funcs[f]? =some fn:=by kernel_rfl)(hb:fn.body=some (cd fn []):=by kernel_rfl)(hn:fn.ntmps=n:=by kernel_rfl)(hl:Nat.ble args.length n=true:=by rfl)(hk:sc.length=k:=by rfl):CM P f args sc T rv nb:=by
 intro r hT;refine MC.of k hf hb hn (CY hl) hk ?_;have:=g r hT;unfold ff0 fS0 at this;rw[FH,yq]at this;refine XW.mono (show XW P n k [] (cd fn []) (QK P n k [] [] (FK P fn k rv nb r)) (sN args 0) sc from ?_) (fun e f s h=>h);have e:pU (XW P n k [] (cd fn []) (FK P fn k rv nb r)) (FK P fn k rv nb r) .normal (sN args 0) sc:=this;exact e
theorem Zq{f:Nat}{args:List AV}{sc:St}{rv:β→AV}{nb:β→St}(e:T=none):CM P f args sc T rv nb:=fun r h=>fW e h
def rsM(P:Program)(fn:Func)(k:Nat)(s:SS)(e:AV):Option (AV×St):=match B1 P s.fr s.st fn.results.toList []with
 |some (avs,[])=>bif ff (fun id=>Nat.ble (id+1) k) (Yc (FI avs) e)&&gO (fun id=>Nat.ble (id+1) k) (s.st.take k)then some (Yc (FI avs) e,s.st.take k)else none
 |_=>none
theorem XV{fn:Func}{k:Nat}{e:Exit}{R:AV}{sc:St}(he:e= .normal∨e= .ret)(h:rsM P fn k s R=some (R,sc)):XU P fn R k sc e s.fr s.st:=by
 unfold rsM at h;split at h
 ·rename_i avs hr;cases hi:ff (fun id=>Nat.ble (id+1) k) (Yc (FI avs) R)with
  |false=>simp[hi]at h
  |true=>
   cases hs:gO (fun id=>Nat.ble (id+1) k) (s.st.take k)with
   |false=>simp[hs]at h
   |true=>
    simp only[hi,hs,Bool.and_self,cond_true,eJ,sT]at h;have:=VX (st:=s.st) hi;rw[h.1]at this;exact⟨he,[],avs,[],hr,trivial,h.2,by rw[←h.2];exact hs,this⟩
 ·cases h
theorem ut{fn:Func}{k:Nat}{rv:β→AV}{nb:β→St}{v:β}(he:rsM P fn k s (rv v)=some (rv v,nb v):=by kernel_rfl):RE P n n0 lz an r .ret (FK P fn k rv nb r) (some v) s:=by
 refine⟨fun h=> ?_⟩;simp only[eJ]at h;subst h;exact XV (.inr rfl) he
def cQ(b:Bool)(P:Program)(n:Nat)(s:SS):Option (Nat×List AV):=match s.ks with
 | .o ops l::_=>(match vY P n ops l s.fr with
  |some (g,avs)=>some (g,avs.map (PK b))
  |none=>none)
 |_=>none
def ptS(n:Nat)(av:AV)(st':St)(s:SS):SS:=match s with
 |⟨.o ops (o::l)::k,fr,_,kn⟩=>fA av fun av=>fS st' fun st'=>Ga n o.dst av fr (fun fr'=>Iq false o.dst kn fun kn'=>⟨.o ops l::k,fr',st',kn'⟩) s
 |s=>s
theorem Nu{av:AV}{st':St}{o:Oper}{k:List It}{kn:List Nat}:(∃fr' kn',BZ n o.dst av fr=some fr'∧ptS n av st' ⟨.o ops (o::l)::k,fr,st,kn⟩=⟨.o ops l::k,fr',st',kn'⟩)∨ptS n av st' ⟨.o ops (o::l)::k,fr,st,kn⟩=⟨.o ops (o::l)::k,fr,st,kn⟩:=by
 simp only[ptS,DZ,yq];rcases ua (n:=n) o.dst av fr (fun fr'=>Iq false o.dst kn fun kn'=>(⟨.o ops l::k,fr',st',kn'⟩:SS)) ⟨.o ops (o::l)::k,fr,st,kn⟩with⟨fr',hp,e⟩ |e
 ·obtain⟨kn',ek⟩:=wC false o.dst kn fun kn'=>(⟨.o ops l::k,fr',st',kn'⟩:SS)
  exact .inl ⟨fr',kn',hp,by rw[e,ek]⟩
 ·exact .inr e
theorem XO.calmS(g:Nat)(avs avs0:List AV)(sc sc':St)(r:AV)(rs:List Nat)(fr':Fr)(st':St)(hc:vY P n ops l fr=some (g,avs0))(b:Bool)(hs:avs0.map (PK b)=avs.map (Aj (oo rs st.length)))(h:MC P g avs sc r sc')(hb:Ju st.length rs sc sc' avs=true)
  (hst:rs.map (fun x=>st[x]?)=sc.map (fun o=>some (xH (oo rs st.length) o)))(hst':ja st rs (sc'.map (xH (oo rs st.length)))=st')(hput:GJ n l (Aj (oo rs st.length) r) fr=some fr')
  (hk:XO P n n0 lz ops (l.drop 1) Q fr' st'):XO P n n0 lz ops l Q fr st:=by
 cases l with
 |nil=>simp[vY]at hc
 |cons o rest=>
  simp only[vY]at hc;split at hc
  ·rename_i hg;intro ι w a hR hF;obtain⟨vs,hrun,hA⟩:=Ac hc hF;have hA:=hA.soft b;rw[hs]at hA;have hw:=gj hg hF;refine wpList_step fun K hK=> ?_
   rw[if_pos hw];simp only[Oper.wp,hrun,Oper.upon];refine(h.use' rs (LW hb) hst hR hA).mono ?_;rintro e w' ⟨v,ι',rfl,hR',hv,k⟩;rw[hst']at hR' hv k;exact hK _ _ (iE (fun e a w h=>h.trans (k.weaken (fun _ _=>trivial))) (hk ι' w' _ hR' (oI hput (hF.mono' k) hv)))
  ·simp at hc
theorem EJ(b:Bool)(rs:List Nat){o:Option α}{f:α→Option β}{g:Nat}{avs:List AV}{sc:St}{rv:α→AV}{nb:α→St}(c:CM P g avs sc o rv nb)
  (k:∀v,o=some v→GG P n n0 lz an r Q (f v) (ptS n (Aj (oo rs (run P n an s).st.length) (rv v)) (ja (run P n an s).st rs ((nb v).map (xH (oo rs (run P n an s).st.length)))) (run P n an s)))
  (h1:cQ b P n (run P n an s)=some (g,avs.map (Aj (oo rs (run P n an s).st.length))):=by kernel_rfl)(h2:∀v,Ju (run P n an s).st.length rs sc (nb v) avs=true:=by intro v;kernel_rfl)
  (h3:rs.map (fun x=>(run P n an s).st[x]?)=sc.map (fun o=>some (xH (oo rs (run P n an s).st.length) o)):=by kernel_rfl):GG P n n0 lz an r Q (am o f) s:=by
 refine⟨fun h=> ?_⟩;obtain⟨v,ho,h⟩:=zP h;refine dn (an:=an) ?_;have k:=k v ho h;have h2:=h2 v;generalize run P n an s=s' at*;obtain⟨ks,fr,st,kn⟩:=s';unfold cQ at h1;split at h1
 ·rename_i ops l k' hk;simp only at hk;subst hk;split at h1
  ·rename_i g' avs' hc;simp only[eJ,sT]at h1;obtain⟨rfl,h1⟩:=h1;cases l with
   |nil=>simp[vY]at hc
   |cons o' l=>
    rcases Nu (n:=n) (av:=Aj (oo rs st.length) (rv v)) (st':=ja st rs ((nb v).map (xH (oo rs st.length)))) (o:=o') (ops:=ops) (l:=l) (fr:=fr) (st:=st) (k:=k') (kn:=kn)with⟨fr',kn',hp,e⟩ |e
    ·rw[e]at k;exact XO.calmS _ _ _ _ _ _ _ fr' _ hc b h1 (c v ho) h2 h3 rfl hp k
    ·rw[e]at k;exact k
  ·cases h1
 ·cases h1
def rgQ(P:Program)(s:SS):Option ByteArray:=match s.ks with
 | .o ops l::_=>Oj P ops l s.fr
 |_=>none
theorem uRg(t:ByteArray)(k:GG P n n0 lz an r Q T (ptS n (.one (.pt (run P n an s).st.length 0 0 0)) ((run P n an s).st++[.raw (.stringIter t 0)]) (run P n an s)))(he:rgQ P (run P n an s)=some t:=by kernel_rfl):GG P n n0 lz an r Q T s:=by
 refine⟨fun h=>dn (an:=an) ?_⟩;have k:=k h;generalize run P n an s=s' at*;obtain⟨ks,fr,st,kn⟩:=s';unfold rgQ at he;split at he
 ·rename_i ops l k' hk;simp only at hk;subst hk;cases l with
  |nil=>simp[Oj]at he
  |cons o' l=>
   rcases Nu (n:=n) (av:= .one (.pt st.length 0 0 0)) (st':=st++[.raw (.stringIter t 0)]) (o:=o') (ops:=ops) (l:=l) (fr:=fr) (st:=st) (k:=k') (kn:=kn)with⟨fr',kn',hp,e⟩ |e
   ·rw[e]at k;exact XO.rng t fr' _ he hp rfl k
   ·rw[e]at k;exact k
 ·cases he
def nxQ(s:SS):Option Nat:=match s.ks with
 | .o ops l::_=>GM ops l s.fr
 |_=>none
theorem uNx(id:Nat){t:ByteArray}{pos:Nat}
  (k1:decide (pos<t.size)=true→GG P n n0 lz an r Q x (ptS n (.tp [.one (.pv (.s (.bool true))),.one (.pv (.s (.int .i64 (Int.ofNat pos)))),.one (.pv (.s (.int .i32 (Int.ofNat (Utf8.decode t pos).1))))]) ((run P n an s).st.set id (.raw (.stringIter t (pos+(Utf8.decode t pos).2)))) (run P n an s)))
  (k2:decide (pos<t.size)=false→GG P n n0 lz an r Q y (ptS n (.tp [.one (.pv (.s (.bool false)))]) (run P n an s).st (run P n an s)))
  (he:nxQ (run P n an s)=some id:=by kernel_rfl)(ho:(run P n an s).st[id]? =some (.raw (.stringIter t pos)):=by kernel_rfl):GG P n n0 lz an r Q (ak (decide (pos<t.size)) x y) s:=by
 refine⟨fun h=>dn (an:=an) ?_⟩;cases hp0:decide (pos<t.size)with
 |true=>
  rw[hp0]at h;have k:=k1 hp0 h;generalize run P n an s=s' at*;obtain⟨ks,fr,st,kn⟩:=s';unfold nxQ at he;split at he
  ·rename_i ops l k' hk;simp only at hk;subst hk;cases l with
   |nil=>simp[GM]at he
   |cons o' l=>
    rcases Nu (n:=n) (av:= .tp [.one (.pv (.s (.bool true))),.one (.pv (.s (.int .i64 (Int.ofNat pos)))),.one (.pv (.s (.int .i32 (Int.ofNat (Utf8.decode t pos).1))))]) (st':=st.set id (.raw (.stringIter t (pos+(Utf8.decode t pos).2)))) (o:=o') (ops:=ops) (l:=l) (fr:=fr) (st:=st) (k:=k') (kn:=kn)with⟨fr',kn',hp,e⟩ |e
    ·rw[e]at k;exact XO.nxt id t pos fr' _ he ho hp rfl hp0 k
    ·rw[e]at k;exact k
  ·cases he
 |false=>
  rw[hp0]at h;have k:=k2 hp0 h;generalize run P n an s=s' at*;obtain⟨ks,fr,st,kn⟩:=s';unfold nxQ at he;split at he
  ·rename_i ops l k' hk;simp only at hk;subst hk;cases l with
   |nil=>simp[GM]at he
   |cons o' l=>
    rcases Nu (n:=n) (av:= .tp [.one (.pv (.s (.bool false)))]) (st':=st) (o:=o') (ops:=ops) (l:=l) (fr:=fr) (st:=st) (k:=k') (kn:=kn)with⟨fr',kn',hp,e⟩ |e
    ·rw[e]at k;exact XO.nxtE id t pos fr' he ho hp hp0 k
    ·rw[e]at k;exact k
  ·cases he
end
end Go.SX
