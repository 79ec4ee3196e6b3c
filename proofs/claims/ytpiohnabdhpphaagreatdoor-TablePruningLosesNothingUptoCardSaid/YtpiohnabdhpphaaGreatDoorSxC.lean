/- SX: the events' rules, third part: lists of our own. SX: the events' rules, fourth part: operations on lists of our own. SX: calls that yield a number and an error, which is only held against nil. And what it needs. -/
import Derived.Shelf.Unicode.ValidAny
import Derived.Lib.Bytealg
import Derived.OpenShut
import Derived.JoinedCond
import Derived.WideKeyArgs
import Derived.Test.YtpiohnabdhpphaaGreatDoorSxB
set_option linter.unusedVariables false
set_option linter.unusedSimpArgs false
set_option linter.unnecessarySimpa false
namespace Go.SX
open Go
section
variable {P:Program} {n n0:Nat} {lz an:List Nat} {Q Q1:QT} {α β:Type} {T x y:Option β} {r:β} {s:SS} {fr:Fr} {st:St} {ops:Array Oper} {l:List Oper}
inductive BF(st:St)(q:Nat→Bool):cY→cY→Prop where
 |same (o:cY) (h:nJ q o=true):BF st q o o
 |box {cells cells':List CV} (h:LF st q cells cells'):BF st q (.box cells) (.box cells')
structure Me(q:Nat→Bool)(st st':St):Prop where
 old:∀(id:Nat) o',st'[id]? =some o'→o'= .dead∨(q id=true∧∃o,st[id]? =some o∧BF st q o o')
 keep:∀id,q id=true→id<st.length→id<st'.length
theorem BF.alive{q:Nat→Bool}{o o':cY}(h:BF st q o o')(ha:o'.alive):o.alive:=by
 cases h with
 |same=>exact ha
 |box=>simp[cY.alive]
theorem Me.own{q:Nat→Bool}{st':St}(h:Me q st st'){ι:IM}{b:Nat}(ho:CC ι st' b):∃id o,q id=true∧st[id]? =some o∧o.alive∧ι id=some b:=by
 obtain⟨id,o,h1,h2,h3⟩:=ho;rcases h.old id o h1 with rfl|⟨h4,o0,h5,h6⟩
 ·exact absurd rfl h2
 ·exact⟨id,o0,h4,h5,h6.alive h2,h3⟩
theorem Me.keeps{q:Nat→Bool}{st':St}(h:Me q st st'){ι:IM}{w:World}:cT (fun id=>q id=true) ι w st ι w st':=
 ⟨rfl,rfl,rfl,iO _,rfl,fun b _ hm=>⟨rfl,fun ho=>by
  obtain⟨id,o,_,h2,h3,h4⟩:=h.own ho;exact hm ⟨id,o,h2,h3,h4⟩⟩,fun id hq hid=>⟨h.keep id hq hid,rfl⟩,fun _ c _ _ h=>⟨c,h,rfl⟩⟩
theorem ej.fzF{q:Nat→Bool}{st':St}{ι:IM}{w:World}(r:km ι w st)(hs:Me q st st'){v:Value}{c c':CV}(h:ej ι w st v c)(hf:CF st q c c'):ej ι w st' v c':=by
 have k:=hs.keeps (ι:=ι) (w:=w);cases hf with
 |rfl _ hc=>exact h.mono k (q:=q) (fun _ h _=>h) hc
 |nl=>
  have:=cn (bk.one _ _ h);subst this;exact .pv _ _ .nl
 |pt hid hq=>exact h.boxed r (fun b=>hs.own) (fun _ _=>k.pure) hid hq
 |fnp hid hq=>exact h.boxfn r (fun b=>hs.own) (fun _ _=>k.pure) hid hq
 | @sl id sz off len els els' ho hq hl he=>
  subst he;have hlen:((els.drop off).take len).length=len:=by simp;omega
  cases h with
  |sn _ _ hid hb=>
   have:(els.drop 0).take 0=[]:=by simp
   rw[this];exact .pv _ _ .nl
  |sl _ _ _ _ b cap hid hb hcap hc=>
   rcases r.obj id _ ho with⟨e1,_⟩ |⟨b',c,ty,e1,e2,hcs,hsz,hcell⟩
   ·rw[hb]at e1;cases e1
   ·rw[hb]at e1;cases e1;have hown:CC ι st b:=⟨id,_,ho,by simp[cY.alive],hb⟩
    have:=jk.ro (μ:=o5 ι st') (w:=w) ⟨b,off*sz,none⟩ cap sz ((els.drop off).take len) (fun i j=>c.getD ((off+i)*sz+j) undef) (by rw[hlen];exact hcap)
     (fun e he=>hsz e (List.mem_of_mem_drop (List.mem_of_mem_take he)))
     (fun _=>⟨eW e2,fun hm=>by
      rcases hm with hm|hm
      ·exact r.dis b hown hm
      ·obtain⟨id',o',hq',h5,h6,h7⟩:=hs.own hm;have:=r.inj id id' _ o' b ho h5 (by simp[cY.alive]) h6 hb h7;subst this;rw[hq]at hq';cases hq'⟩)
     (fun i e j p h1 h2=>by
      rw[List.getElem?_take]at h1;split at h1
      ·rw[List.getElem?_drop]at h1;obtain⟨u,a1,a2⟩:=hcell _ e j p h1 h2;rw[add_lit,vV e2];rw[show off*sz+(i*sz+j)=(off+i)*sz+j by rw[Nat.add_mul];omega,a1];simp[a1]
      ·cases h1)
     (fun i e j p h1 h2=>by
      rw[List.getElem?_take]at h1;split at h1
      ·rw[List.getElem?_drop]at h1;obtain⟨u,a1,a2⟩:=hcell _ e j p h1 h2;have:c.getD ((off+i)*sz+j) undef=u:=by simp[a1]
       rw[this];exact k.pure a2
      ·cases h1)
    rw[hlen]at this;exact .pv _ _ this
theorem ii.fzF{q:Nat→Bool}{st':St}{ι:IM}{w:World}(r:km ι w st)(hs:Me q st st'){cs cs':List CV}(hf:LF st q cs cs'):∀{vs:List Value},ii ι w st vs cs→ii ι w st' vs cs':=by
 induction hf with
 |nil=>exact fun h=>⟨h.1,fun j v c h1 h2=>by simp at h2⟩
 | @cons c c' l l' hc hk ih=>
  intro vs hL
  match vs,hL with
  |[],hL=>have:=hL.1;simp at this
  |u::us,hL=>
   have h0:=hL.2 0 u c rfl rfl;have ht:=ih (vs:=us) ⟨by have:=hL.1;simpa using this,fun j v c h1 h2=>hL.2 (j+1) v c (by simpa using h1) (by simpa using h2)⟩;refine⟨by simp[ht.1],fun j v c h1 h2=> ?_⟩;cases j with
   |zero=>simp at h1 h2;subst h1;subst h2;exact h0.fzF r hs hc
   |succ j=>exact ht.2 j v c (by simpa using h1) (by simpa using h2)
theorem bk.fzF{q:Nat→Bool}{st':St}{ι:IM}{w:World}(r:km ι w st)(hs:Me q st st'){v:Value}{a a':AV}(h:bk ι w st v a)(hf:AF st q a a'):bk ι w st' v a':=by
 induction hf generalizing v with
 |j a=>exact .j _
 |one hc=>exact .one _ _ ((rh h).fzF r hs hc)
 | @ag cs cs' hl=>
  obtain⟨vs,rfl,hL⟩:=N8 h;exact .ag _ _ (hL.fzF r hs hl)
 |tp0=>
  cases h with
  |tp vs _ hl h=>exact .tp _ _ hl (fun j v a h1 h2=>by simp at h2)
 | @tpc a a' l l' ha hk ih1 ih2=>
  cases h with
  |tp vs _ hl h=>
   match vs,hl with
   |[],hl=>simp at hl
   |u::us,hl=>
    have h0:=ih1 (h 0 u a rfl rfl);have ht:=ih2 (.tp us l (by simpa using hl) (fun j v c h1 h2=>h (j+1) v c (by simpa using h1) (by simpa using h2)));generalize hx:Value.tuple us.toArray=xv at ht;generalize hy:AV.tp l'=ya at ht;cases ht with
    |tp vs2 as2 hl2 h2=>
     cases hy;have:us=vs2:=by
      have:=congrArg (fun v:Value=>match v with| .tuple a=>a.toList|_=>[]) hx;simpa using this
     subst this;refine .tp _ _ (by simp[hl2]) (fun j v c h1 h3=> ?_);cases j with
     |zero=>simp at h1 h3;subst h1;subst h3;exact h0
     |succ j=>exact h2 j v c (by simpa using h1) (by simpa using h3)
    |_=>cases hy
theorem km.frz{q:Nat→Bool}{st':St}{ι:IM}{w:World}(r:km ι w st)(h:Me q st st'):km ι w st':=by
 have k:=h.keeps (ι:=ι) (w:=w);refine⟨fun id o ho=> ?_,r.amb,fun b ho=> ?_,fun id id' o o' b h1 h2 a1 a2 e1 e2=> ?_,r.glk k⟩
 ·rcases h.old id o ho with rfl|⟨hq,o0,ho',hbf⟩
  ·trivial
  ·have:=r.obj id o0 ho';cases hbf with
   |box hl=>
    obtain⟨b',vs,ty,e',hb',hL⟩:=this;exact⟨b',vs,ty,e',hb',hL.fzF r h hl⟩
   |same _ hb=>
    cases o with
    |dead=>trivial
    |box cells=>
     obtain⟨b',vs,ty,e',hb',hl⟩:=this;exact⟨b',vs,ty,e',hb',hl.mono k (q:=q) (fun _ h _=>h) hb⟩
    |rel Rm ps=>
     obtain⟨b',ob,vs0,e',hb',hr0,hl0⟩:=this;exact⟨b',ob,vs0,e',hb',hr0,hl0.map fun _ _ h0=>k.pure h0⟩
    |arr sz els=>
     rcases this with⟨e',he⟩ |⟨b',c,ty,e',hb',h1,h2,h3⟩
     ·exact .inl ⟨e',he⟩
     ·refine .inr ⟨b',c,ty,e',hb',h1,h2,fun i e' j cv a1 a2=> ?_⟩;obtain⟨v,hv,hr⟩:=h3 i e' j cv a1 a2;exact⟨v,hv,k.pure hr⟩
 ·obtain⟨id,o,_,h2,h3,h4⟩:=h.own ho;exact r.dis b ⟨id,o,h2,h3,h4⟩
 ·rcases h.old id o h1 with rfl|⟨_,o0,h5,q1⟩
  ·exact absurd rfl a1
  rcases h.old id' o' h2 with rfl|⟨_,o1,h6,q2⟩
  ·exact absurd rfl a2
  exact r.inj id id' o0 o1 b h5 h6 (q1.alive a1) (q2.alive a2) e1 e2
theorem zf.frz{q:Nat→Bool}{fr':Fr}{st':St}(h:Me q st st')(hf:∀t,AF st q (lk fr t) (lk fr' t))(hq:∀id,A2 n0 lz id=true→q id=true):zf n n0 lz fr st fr' st':=
 fun ι w a hR hF=>⟨ι,hR.frz h,⟨hF.defers,hF.size,fun t=>(hF.slot t).fzF hR h (hf t)⟩,h.keeps.weaken hq⟩
def klC(id:Nat)(els:List (List PV)):CV→CV
 | .sl i sz off len=>bif Nat.beq i id then .pv (.ro els)else .sl i sz off len
 |c=>c
def klL(id:Nat)(els:List (List PV)):List CV→List CV
 |[]=>[]
 |c::l=>klC id els c::klL id els l
def klA(id:Nat)(els:List (List PV)):AV→AV
 | .one c=> .one (klC id els c)
 | .ag l=> .ag (klL id els l)
 |a=>a
def slC(id:Nat):CV→List (Nat×Nat×Nat)
 | .sl i sz off len=>bif Nat.beq i id then[(sz,off,len)]else[]
 |_=>[]
def slL(id:Nat):List CV→List (Nat×Nat×Nat)
 |[]=>[]
 |c::l=>slC id c++slL id l
def slA(id:Nat):AV→List (Nat×Nat×Nat)
 | .one c=>slC id c
 | .ag l=>slL id l
 |_=>[]
def klB(id:Nat)(els:List (List PV)):cY→cY
 | .box l=> .box (klL id els l)
 |b=>b
def slB(id:Nat):cY→List (Nat×Nat×Nat)
 | .box l=>slL id l
 |_=>[]
def PY(id:Nat)(els:List (List PV)):Nat→St→St
 |_,[]=>[]
 |i,b::l=>(bif Nat.beq i id then .dead else klB id els b)::PY id els (i+1) l
def Uw(id:Nat):St→List (Nat×Nat×Nat)
 |[]=>[]
 |b::l=>slB id b++Uw id l
def Uj(id:Nat):Nat→Bool:=fun i=> !Nat.beq i id
def okC(id:Nat)(c:CV):Bool:=match c with
 | .sl .. =>true
 |c=>uD (Uj id) c
def okL(id:Nat):List CV→Bool
 |[]=>true
 |c::l=>okC id c&&okL id l
def okA(id:Nat):AV→Bool
 | .one c=>okC id c
 | .ag l=>okL id l
 |a=>ff (Uj id) a
def okB(id:Nat):cY→Bool
 | .box l=>okL id l
 |_=>true
theorem R0{E:ub α}{xs:List α}{id:Nat}{L:List (Nat×Nat×Nat)}(h:∀p∈L,p=(E.sz,0,xs.length)){st:St}(hid:st[id]? =some (.arr E.sz (E.els xs))){c:CV}(hc:∀p∈slC id c,p∈L)(ho:okC id c=true):CF st (Uj id) c (klC id (E.els xs) c):=by
 cases c with
 |sl i sz off len=>
  cases hb:Nat.beq i id with
  |true=>
   have:=we hb;subst this;have hp:=h _ (hc (sz,off,len) (by simp[slC]));simp only[sT]at hp;obtain⟨rfl,rfl,rfl⟩:=hp;simp only[klC,hb,cond_true];exact ab7 E xs hid (by simp[Uj]) rfl
  |false=>
   simp only[klC,hb,cond_false];exact .rfl _ (by simp[uD,Uj,hb])
 |_=>exact .rfl _ ho
theorem Q9{E:ub α}{xs:List α}{id:Nat}{L:List (Nat×Nat×Nat)}(h:∀p∈L,p=(E.sz,0,xs.length)){st:St}(hid:st[id]? =some (.arr E.sz (E.els xs))):∀{l:List CV},(∀p∈slL id l,p∈L)→okL id l=true→LF st (Uj id) l (klL id (E.els xs) l)
 |[],_,_=> .nil
 |c::l,hc,ho=>by
  simp only[okL,iu]at ho;exact .cons (R0 h hid (fun p hp=>hc p (by simp[slL,hp])) ho.1) (Q9 h hid (fun p hp=>hc p (by simp[slL,hp])) ho.2)
theorem abA{E:ub α}{xs:List α}{id:Nat}{L:List (Nat×Nat×Nat)}(h:∀p∈L,p=(E.sz,0,xs.length)){st:St}(hid:st[id]? =some (.arr E.sz (E.els xs))){a:AV}(hc:∀p∈slA id a,p∈L)(ho:okA id a=true):AF st (Uj id) a (klA id (E.els xs) a):=by
 cases a with
 |one c=>exact .one (R0 h hid hc ho)
 |ag l=>exact .ag (Q9 h hid hc ho)
 |_=>exact AF.same ho
theorem Jq(id:Nat)(els:List (List PV)):∀(st:St) (i j:Nat),(PY id els i st)[j]? =(st[j]?).map fun b=>bif Nat.beq (i+j) id then cY.dead else klB id els b
 |[],i,j=>by simp[PY]
 |b::l,i,0=>by simp[PY]
 |b::l,i,j+1=>by simp only[PY,List.getElem?_cons_succ];rw[Jq id els l (i+1) j,show i+1+j=i+(j+1) by omega]
theorem OQ{id:Nat}:∀{st:St} {j:Nat} {b:cY},st[j]? =some b→∀p∈slB id b,p∈Uw id st
 |[],j,b,h,p,hp=>by simp at h
 |x::l,0,b,h,p,hp=>by simp at h;subst h;simp[Uw,hp]
 |x::l,j+1,b,h,p,hp=>by simp only[Uw,List.mem_append];exact .inr (OQ (by simpa using h) p hp)
def VQ(id:Nat)(els:List (List PV))(fr:Fr):List Nat→Fr
 |[]=>s9 (Uj id) fr
 |t::ts=>(t,klA id els (lk fr t))::VQ id els fr ts
def Uv(id:Nat)(fr:Fr):List Nat→List (Nat×Nat×Nat)
 |[]=>[]
 |t::ts=>slA id (lk fr t)++Uv id fr ts
def VS(id:Nat)(fr:Fr):List Nat→Bool
 |[]=>true
 |t::ts=>okA id (lk fr t)&&VS id fr ts
theorem RQ{E:ub α}{xs:List α}{id:Nat}{L:List (Nat×Nat×Nat)}(h:∀p∈L,p=(E.sz,0,xs.length)){st:St}(hid:st[id]? =some (.arr E.sz (E.els xs))):∀{ts:List Nat},(∀p∈Uv id fr ts,p∈L)→VS id fr ts=true→∀t,AF st (Uj id) (lk fr t) (lk (VQ id (E.els xs) fr ts) t)
 |[],_,_,t=>by
  simp only[VQ];rw[Dq];cases hi:ff (Uj id) (lk fr t)with
  |false=>exact .j _
  |true=>exact AF.same hi
 |u::ts,hc,ho,t=>by
  simp only[VS,iu]at ho;simp only[VQ,lk];cases hb:Nat.beq u t with
  |true=>
   have:=we hb;subst this;exact abA h hid (fun p hp=>hc p (by simp[Uv,hp])) ho.1
  |false=>exact RQ h hid (fun p hp=>hc p (by simp[Uv,hp])) ho.2 t
def R8(n0:Nat)(lz:List Nat)(id:Nat)(ts:List Nat)(s:SS):Option (Nat×List (List PV)×List (Nat×Nat×Nat)):=
 match s.st[id]? with
 |some (.arr sz els)=>bif !A2 n0 lz id&&(VS id s.fr ts&&s.st.all (okB id))then some (sz,els,Uv id s.fr ts++Uw id s.st)else none
 |_=>none
def KC(id:Nat)(els:List (List PV))(ts:List Nat)(s:SS):SS:=match s with
 |⟨ks,fr,st,kn⟩=>fF (VQ id els fr ts) fun fr=>fS (PY id els 0 st) fun st=>⟨ks,fr,st,kn⟩
theorem Ux{E:ub α}{xs:List α}{id:Nat}{ts:List Nat}{L:List (Nat×Nat×Nat)}(he:R8 n0 lz id ts s=some (E.sz,E.els xs,L))(hL:∀p∈L,p=(E.sz,0,xs.length)):
  zf n n0 lz s.fr s.st (KC id (E.els xs) ts s).fr (KC id (E.els xs) ts s).st:=by
 unfold R8 at he;split at he
 ·rename_i sz els hid;cases hb: !A2 n0 lz id&&(VS id s.fr ts&&s.st.all (okB id))with
  |false=>simp[hb]at he
  |true=>
   simp only[hb,cond_true,eJ,sT]at he;obtain⟨rfl,rfl,rfl⟩:=he;simp only[iu]at hb;obtain⟨h1,h2,h3⟩:=hb;obtain⟨ks,fr,st,kn⟩:=s;simp only[KC,FH,yq];simp only at hid h2 h3 hL;refine zf.frz (q:=Uj id) ⟨fun i o' ho=> ?_,fun i hq hi=> ?_⟩ (RQ hL hid (fun p hp=>by simp[hp]) h2) (fun i hi=> ?_)
   ·rw[Jq,Nat.zero_add,yT]at ho;obtain⟨b,hb,e⟩:=ho;cases hbi:Nat.beq i id with
    |true=>simp only[hbi,cond_true]at e;exact .inl e.symm
    |false=>
     simp only[hbi,cond_false]at e;refine .inr ⟨by simp[Uj,hbi],b,hb,?_⟩;subst e;have hok:=List.all_eq_true.1 h3 b (List.mem_of_getElem? hb);cases b with
     |box l=>exact .box (Q9 hL hid (fun p hp=>by simp only[List.mem_append];exact .inr (OQ hb p hp)) hok)
     |_=>exact .same _ rfl
   ·have:(PY id (E.els xs) 0 st)[i]? ≠none:=by
     rw[Jq];simp[hi]
    simp only[ne_eq,List.getElem?_eq_none_iff]at this;omega
   ·have:i≠id:=by
     rintro rfl;rw[hi]at h1;cases h1
    simp only[Uj,Ho this,Bool.not_false]
 ·cases he
theorem UR{id:Nat}{els:List (List PV)}{ts:List Nat}:(KC id els ts s).ks=s.ks:=by
 obtain⟨ks,fr,st,kn⟩:=s;simp only[KC,FH,yq]
def Yw{γ:Type}(y:γ)(l:List γ):List γ:=l.map fun _=>y
theorem XT{γ:Type}{y:γ}{l:List γ}(h:l=Yw y l):∀p∈l,p=y:=by
 intro p hp;rw[h]at hp;simp only[Yw,List.mem_map]at hp;obtain⟨_,_,e⟩:=hp;exact e.symm
def ST(n0:Nat)(lz:List Nat)(id:Nat)(ts:List Nat)(s:SS):List (Nat×Nat×Nat):=match R8 n0 lz id ts s with
 |some (_,_,L)=>L
 |none=>[]
theorem LY(E:ub α)(xs:List α)(id:Nat)(ts:List Nat)(k:GG P n n0 lz an r Q T (KC id (E.els xs) ts (run P n an s)))(he:R8 n0 lz id ts (run P n an s)=some (E.sz,E.els xs,Yw (E.sz,0,xs.length) (ST n0 lz id ts (run P n an s))):=by kernel_rfl)
  (ht:BL (run P n an s).ks=true:=by kernel_rfl):GG P n n0 lz an r Q T s:=by
 refine⟨fun h=>dn (an:=an) ?_⟩;have hL:=he;have e:ST n0 lz id ts (run P n an s)=Yw (E.sz,0,xs.length) (ST n0 lz id ts (run P n an s)):=by
  conv=>lhs;unfold ST;rw[he]
 have hs:=Ux (n:=n) (lz:=lz) he (by rw[←e];exact XT e);have k:=k h;refine QK.sub ht hs ?_;have:XK P n n0 lz Q (KC id (E.els xs) ts (run P n an s)):=k;unfold XK at this;rw[UR]at this;exact this
def pvs:List CV→List PV
 | .pv p::l=>p::pvs l
 |_=>[]
def bzC(id:Nat)(ps:List PV):CV→CV
 | .pt i sz k off=>bif Nat.beq i id then .pv (.rp [ps] k off)else .pt i sz k off
 | .fn f [.pt i sz k off]=>bif Nat.beq i id then .fn f [.pv (.rp [ps] k off)]else .fn f [.pt i sz k off]
 |c=>c
def bzA(id:Nat)(ps:List PV):AV→AV
 | .one c=> .one (bzC id ps c)
 |a=>a
def bzP(id:Nat)(s:SS):List PV:=match s.st[id]? with
 |some (.box cells)=>pvs cells
 |_=>[]
inductive Cv where
 |li(t sz:Nat)
 |sf(t:Nat)
 |lb(bx j sz:Nat)
 |sb(bx j:Nat)
 |stl(bx j:Nat)
 |sw(a b:Nat)
 |dd(k:Nat)
def Yt(n0:Nat)(lz:List Nat)(c:Cv)(fr:Fr)(st:St):Option (Fr×St):=match c with
 | .li t sz=>(match lk fr t with
  | .one (.pv (.s (.slice none 0 0)))=>some ((t,.one (.sl st.length sz 0 0))::fr,st++[.arr sz []])
  |_=>none)
 | .sf t=>some ((t,sfA (lk fr t))::fr,st)
 | .lb bx j sz=>(match st[bx]? with
  |some (.box cells)=>(match cells[j]? with
   |some (.pv (.s (.slice none 0 0)))=>some (fr,(st++[cY.arr sz []]).set bx (.box (cells.set j (.sl st.length sz 0 0))))
   |_=>none)
  |_=>none)
 | .sb bx j=>(match st[bx]? with
  |some (.box cells)=>(match cells[j]? with
   |some (.pv (.s (.slice none 0 0)))=>some (fr,st.set bx (.box (cells.set j (.pv (.ro [])))))
   |_=>none)
  |_=>none)
 | .stl bx j=>(match st[bx]? with
  |some (.box cells)=>(match cells[j]? with
   |some (.sl id sz off len)=>some (fr,(st++[cY.dead]).set bx (.box (cells.set j (.sl st.length sz off len))))
   |_=>none)
  |_=>none)
 | .dd k=>some (fr,st++List.replicate k .dead)
 | .sw a b=>bif (Nat.ble (a+1) st.length&&Nat.ble (b+1) st.length)&& !(A2 n0 lz a||A2 n0 lz b)then some (RO a b fr,Ev a b st)else none
theorem Wm{c:Cv}{fr':Fr}{st':St}(h:Yt n0 lz c fr st=some (fr',st')):zf n n0 lz fr st fr' st':=by
 unfold Yt at h;cases c with
 |li t sz=>
  simp only at h;split at h
  ·rename_i hl;simp only[eJ,sT]at h;obtain⟨rfl,rfl⟩:=h;exact zf.list hl
  ·cases h
 |sf t=>
  simp only[eJ,sT]at h;obtain⟨rfl,rfl⟩:=h;intro ι w a hR hF;refine⟨ι,hR,⟨hF.defers,hF.size,fun t'=> ?_⟩,.refl⟩;simp only[lk];cases hb:Nat.beq t t' with
  |true=>
   have:=we hb;subst this;exact(hF.slot t).le (Up _)
  |false=>exact hF.slot t'
 |lb bx j sz=>
  simp only at h;split at h
  ·rename_i cells hb;split at h
   ·rename_i hj;simp only[eJ,sT]at h;obtain⟨rfl,rfl⟩:=h;exact zf.listb bx j sz cells hb hj _ rfl
   ·cases h
  ·cases h
 |sb bx j=>
  simp only at h;split at h
  ·rename_i cells hb;split at h
   ·rename_i hj;simp only[eJ,sT]at h;obtain⟨rfl,rfl⟩:=h;exact zf.softb bx j cells hb hj _ rfl
   ·cases h
  ·cases h
 |stl bx j=>
  simp only at h;split at h
  ·rename_i cells hb;split at h
   ·rename_i id sz off len hj;simp only[eJ,sT]at h;obtain⟨rfl,rfl⟩:=h;exact zf.stale bx j id sz off len cells hb hj _ rfl
   ·cases h
  ·cases h
 |dd k=>
  simp only[eJ,sT]at h;obtain⟨rfl,rfl⟩:=h;exact zf.dead k
 |sw a b=>
  simp only at h;cases hb:(Nat.ble (a+1) st.length&&Nat.ble (b+1) st.length)&& !(A2 n0 lz a||A2 n0 lz b)with
  |false=>rw[hb]at h;cases h
  |true=>
   rw[hb]at h;simp only[cond_true,eJ,sT]at h;obtain⟨rfl,rfl⟩:=h;simp only[iu,Bool.not_eq_true']at hb;exact zf.swap a b _ _ (by simp only[iu];exact hb.1) hb.2 rfl rfl
def cvS(n0:Nat)(lz:List Nat)(c:Cv)(s:SS):SS:=match s with
 |⟨ks,fr,st,kn⟩=>match Yt n0 lz c fr st with
  |some (fr',st')=>fF fr' fun fr'=>fS st' fun st'=>⟨ks,fr',st',kn⟩
  |none=>⟨ks,fr,st,kn⟩
theorem aaW(c:Cv)(s:SS):(cvS n0 lz c s).ks=s.ks∧zf n n0 lz s.fr s.st (cvS n0 lz c s).fr (cvS n0 lz c s).st:=by
 obtain⟨ks,fr,st,kn⟩:=s;unfold cvS;simp only;cases hd:Yt n0 lz c fr st with
 |none=>exact⟨rfl,fun ι w a hR hF=>⟨ι,hR,hF,.refl⟩⟩
 |some p=>
  obtain⟨fr',st'⟩:=p;simp only[FH,yq];exact⟨trivial,Wm hd⟩
theorem Jw(c:Cv)(k:GG P n n0 lz an r Q T (cvS n0 lz c (run P n an s)))(ht:BL (run P n an s).ks=true:=by kernel_rfl):GG P n n0 lz an r Q T s:=by
 refine⟨fun h=>dn (an:=an) ?_⟩;have k:=k h;obtain⟨e,hs⟩:=aaW (n:=n) (n0:=n0) (lz:=lz) c (run P n an s);unfold XK at k;rw[e]at k;exact QK.sub ht hs k
end
section
variable {P:Program} {n n0:Nat} {lz an:List Nat} {Q Q1:QT} {α β:Type} {T x y:Option β} {r:β} {s:SS} {fr:Fr} {st:St} {ops:Array Oper} {l:List Oper}
def Xl(X:List Nat)(ops:Array Oper)(o:Oper)(fr:Fr)(st:St)(mv:Option Nat):List Nat×List Nat:=match mv with
 |none=>(yx X (cV ops o fr),cV ops o fr++[])
 |some id=>(match st[id]? with
  |some .dead=>(yx X (id::cV ops o fr),(id::cV ops o fr)++[id+1000])
  |_=>(yx X (cV ops o fr),cV ops o fr++[id+1000]))
def Qc(st:St)(mv:Option Nat):Bool:=match mv with
 |none=>true
 |some id=>(match st[id]? with
  |some .dead=>false
  |_=>true)
def dN(o:Oper):Nat:=match o.dst with
 |some d=>d+1
 |none=>0
def aar(P:Program)(an X:List Nat)(ops:Array Oper)(o:Oper)(fr:Fr)(st:St)(hs:HS):Option El:=
 match ev P (DK an o) o (iz ops o fr) (oy (bq (cV ops o fr)) 0 st) hs with
 |some out=>bif Nat.beq out.st.length st.length then
   bif (!DK an o&&Zc (dN o) ops X o fr st (cV ops o fr) out)&&(Ug st (cV ops o fr)&&Qc st out.mv)then some ⟨out.av,kR (bq (cV ops o fr)) 0 st out.st,out.ob,out.hs,out.mv⟩else none
  else(match S6 X st,out.st.drop st.length with
   |some id,[b]=>bif X8 (dN o) ops X id o fr st (cV ops o fr) out b&&Ug st (id::cV ops o fr)then some ⟨Aj (KB st.length id) out.av,(kR (bq (cV ops o fr)) 0 st (out.st.take st.length)).set id b,out.ob,out.hs,some id⟩else none
   |_,_=>none)
 |none=>none
theorem Pm{o:Oper}(h:∀d,o.dst=some d→d<n):ym n o=true:=by
 unfold ym;cases hd:o.dst with
 |none=>rfl
 |some d=>exact Nat.ble_eq_true_of_le (h d hd)
theorem adH{X T:List Nat}{o:Oper}{out:El}(h:Zc (dN o) ops X o fr st T out=true)(hd:ym n o=true):Zc n ops X o fr st T out=true:=by
 unfold Zc at h⊢;simp only[iu]at h⊢;exact⟨⟨⟨hd,h.1.1.2⟩,h.1.2⟩,h.2⟩
theorem acE{X T:List Nat}{id:Nat}{o:Oper}{out:El}{b:cY}(h:X8 (dN o) ops X id o fr st T out b=true)(hd:ym n o=true):X8 n ops X id o fr st T out b=true:=by
 unfold X8 at h⊢;simp only[iu]at h⊢;exact⟨⟨⟨⟨⟨hd,h.1.1.1.1.2⟩,h.1.1.1.2⟩,h.1.1.2⟩,h.1.2⟩,h.2⟩
theorem SG(m:Nat):(fun id=> !bq [m] id)=pe (some m):=by funext id;simp[bq,pe]
def Z6(P:Program)(an:List Nat)(hs:HS)(s:SS):Option El:=match s.ks with
 | .g X ops (o::_) _::_=>(match Zd ops s.kn o (iz ops o s.fr)with
  |some true=>aar P an X ops o s.fr s.st hs
  |_=>none)
 | .o ops (o::_)::_=>(match Zd ops s.kn o s.fr with
  |some true=>ev P (DK an o) o s.fr s.st hs
  |_=>none)
 |_=>none
def JA{β:Type}(q:Nat→Bool):Fr→(Fr→β)→β
 |[],K=>K []
 |(d,av)::fr,K=>match ff q av with
  |true=>JA q fr fun fr=>K ((d,av)::fr)
  |false=>JA q fr fun fr=>K ((d,.j)::fr)
theorem G0{β:Type}(q:Nat→Bool):∀(fr:Fr) (K:Fr→β),JA q fr K=K (s9 q fr)
 |[],K=>rfl
 |(d,av)::fr,K=>by
  simp only[JA,s9];cases ff q av<;>simp only[G0 q fr,cond_true,cond_false]
def mvK{β:Type}(mv:Option Nat)(fr:Fr)(K:Fr→β):β:=match mv with
 |none=>K fr
 |some m=>JA (pe (some m)) fr K
theorem Q6{β:Type}(mv:Option Nat)(fr:Fr)(K:Fr→β):mvK mv fr K=K (Uu mv fr):=by
 cases mv with
 |none=>rfl
 |some m=>exact G0 _ _ _
def PG(n:Nat)(av:AV)(st':St)(mv:Option Nat)(s:SS):SS:=match s with
 |⟨.o ops (o::l)::k,fr,_,kn⟩=>fA av fun av=>fS st' fun st'=>mvK mv fr fun fr=>Ga n o.dst av fr (fun fr'=>Iq false o.dst kn fun kn'=>⟨.o ops l::k,fr',st',kn'⟩) s
 |⟨.g X ops (o::l) tw::k,fr,st,kn⟩=>fA av fun av=>fS st' fun st'=>mvK mv fr fun fr'=>Ga n o.dst av fr' (fun fr2=>Iq false o.dst kn fun kn'=>⟨.g X ops l (tw++[Xl X ops o fr st mv])::k,fr2,st',kn'⟩) s
 |s=>s
theorem GK.ev{X:List Nat}{tw:List (List Nat×List Nat)}{R:Fr→St→Prop}{o:Oper}{hs:HS}{out:El}{fr2:Fr}(hg:fx ops o (iz ops o fr)=some true)(he:aar P an X ops o fr st hs=some out)(hob:nw out.ob)(hp:BZ n o.dst out.av (Uu out.mv fr)=some fr2)
  (k:GK P n X ops l (tw++[Xl X ops o fr st out.mv]) R fr2 out.st):GK P n X ops (o::l) tw R fr st:=by
 obtain⟨p1,p2⟩:=BP hp;have hd:=Pm (n:=n) p1;unfold aar at he;split at he
 ·rename_i out0 hev;cases hb:Nat.beq out0.st.length st.length with
  |true=>
   simp only[hb,cond_true]at he;cases hc:(!DK an o&&Zc (dN o) ops X o fr st (cV ops o fr) out0)&&(Ug st (cV ops o fr)&&Qc st out0.mv)with
   |false=>rw[hc]at he;cases he
   |true=>
    rw[hc]at he;simp only[cond_true,eJ]at he;subst he;simp only[iu,Bool.not_eq_true']at hc;obtain⟨⟨c1,c2⟩,c3,c4⟩:=hc;rw[c1]at hev;have hw:=adH c2 hd;have hE:evW P n ops X (o::l) fr st hs=some (yo o ⟨out0.av,cV ops o fr,cV ops o fr,out0.mv.toList,kR (bq (cV ops o fr)) 0 st out0.st⟩ fr,cV ops o fr,out0.mv.toList,kR (bq (cV ops o fr)) 0 st out0.st,out0.ob):=by
     unfold evW;simp only[Og,hg,hev,hw,cond_true]
    have hn:yo o ⟨out0.av,cV ops o fr,cV ops o fr,out0.mv.toList,kR (bq (cV ops o fr)) 0 st out0.st⟩ fr=fr2:=by
     unfold yo;cases hm:out0.mv with
     |none=>rw[hm]at p2;simp only[Option.toList,Uu]at p2⊢;rw[HX];exact p2
     |some m=>rw[hm]at p2;simp only[Option.toList,Uu]at p2⊢;rw[SG];exact p2
    rw[hn]at hE;have ht:Xl X ops o fr st out0.mv=(yx X (cV ops o fr),cV ops o fr++out0.mv.toList.map (·+1000)):=by
     unfold Xl;unfold Qc at c4;cases hm:out0.mv with
     |none=>rfl
     |some m=>
      rw[hm]at c4;simp only at c4⊢;split
      ·rename_i hd';rw[hd']at c4;cases c4
      ·rfl
    refine GK.of (tw1:=Xl X ops o fr st out0.mv) (fun h2=> ?_) k;rw[ht];exact GX.wr hs fr2 _ _ _ _ hE hob c3 h2
  |false=>
   simp only[hb,cond_false]at he;split at he
   ·rename_i id b hf hd2;cases hc:X8 (dN o) ops X id o fr st (cV ops o fr) out0 b&&Ug st (id::cV ops o fr)with
    |false=>rw[hc]at he;cases he
    |true=>
     rw[hc]at he;simp only[cond_true,eJ]at he;subst he;rw[iu]at hc;have hw:=acE hc.1 hd;have hdd:st[id]? =some .dead:=by
      have h:=hc.1;unfold X8 at h;simp only[iu]at h;exact JD h.1.2.1.1.1.1
     have hE:evN P n ops X (DK an o) id (o::l) fr st hs=some (yo o ⟨Aj (KB st.length id) out0.av,id::cV ops o fr,id::cV ops o fr,[id],(kR (bq (cV ops o fr)) 0 st (out0.st.take st.length)).set id b⟩ fr,id::cV ops o fr,(kR (bq (cV ops o fr)) 0 st (out0.st.take st.length)).set id b,out0.ob):=by
      unfold evN;simp only[Og,hg,hev,hd2,hw,cond_true]
     have hn:yo o ⟨Aj (KB st.length id) out0.av,id::cV ops o fr,id::cV ops o fr,[id],(kR (bq (cV ops o fr)) 0 st (out0.st.take st.length)).set id b⟩ fr=fr2:=by
      unfold yo;simp only[Uu]at p2;rw[←p2];simp only;rw[SG]
     rw[hn]at hE;have ht:Xl X ops o fr st (some id)=(yx X (id::cV ops o fr),(id::cV ops o fr)++[id+1000]):=by
      unfold Xl;simp only[hdd]
     refine GK.of (tw1:=Xl X ops o fr st (some id)) (fun h2=> ?_) k;rw[ht];exact GX.new _ id hs fr2 _ _ _ hE hob hc.2 h2
   ·cases he
 ·cases he
theorem Vg{out:El}{hs:HS}(he:Z6 P an hs s=some out)(hob:nw out.ob)(hm:Ln n0 lz out.mv=true)(k:XK P n n0 lz Q (PG n out.av out.st out.mv s)):XK P n n0 lz Q s:=by
 obtain⟨ks,fr,st,kn⟩:=s;unfold Z6 at he;split at he
 ·rename_i X ops o l tw k' hk;simp only at hk;subst hk;split at he
  ·rename_i hg;have hg:=C7 hg;simp only[PG,DZ,yq,Q6]at k;rcases ua (n:=n) o.dst out.av (Uu out.mv fr) (fun fr'=>Iq false o.dst kn fun kn'=>(⟨.g X ops l (tw++[Xl X ops o fr st out.mv])::k',fr',out.st,kn'⟩:SS)) ⟨.g X ops (o::l) tw::k',fr,st,kn⟩with⟨fr',hp,e⟩ |e
   ·obtain⟨kn',ek⟩:=wC false o.dst kn fun kn'=>(⟨.g X ops l (tw++[Xl X ops o fr st out.mv])::k',fr',out.st,kn'⟩:SS)
    rw[e,ek]at k;exact GK.ev hg he hob hp k
   ·rw[e]at k;exact k
  ·cases he
 ·rename_i ops o l k' hk;simp only at hk;subst hk;split at he
  ·rename_i hg;have hg:=C7 hg;simp only[PG,DZ,yq,Q6]at k;rcases ua (n:=n) o.dst out.av (Uu out.mv fr) (fun fr'=>Iq false o.dst kn fun kn'=>(⟨.o ops l::k',fr',out.st,kn'⟩:SS)) ⟨.o ops (o::l)::k',fr,st,kn⟩with⟨fr',hp,e⟩ |e
   ·obtain⟨kn',ek⟩:=wC false o.dst kn fun kn'=>(⟨.o ops l::k',fr',out.st,kn'⟩:SS)
    rw[e,ek]at k;have he:ev P (DK an o) o fr st hs=some out:=he;have hg:fx ops o fr=some true:=hg;exact XO.op1 hg he hob hm hp k
   ·rw[e]at k;exact k
  ·cases he
 ·cases he
theorem uOp{hs hs':HS}{av av':AV}{st1 st':St}{ob:List Prop}{mv:Option Nat}(he:Z6 P an hs (run P n an s)=some ⟨av,st1,ob,hs',mv⟩)(hob:nw ob)(hm:Ln n0 lz mv=true)(e1:av=av')(e2:st1=st')
  (k:GG P n n0 lz an r Q T (PG n av' st' mv (run P n an s))):GG P n n0 lz an r Q T s:=by
 subst e1;subst e2;exact⟨fun h=>dn (an:=an) (Vg he hob hm (k h))⟩
def nwI(s:SS):Nat:=match s.ks with
 | .g X _ _ _::_=>(S6 X s.st).getD 0
 |_=>s.st.length
def nwS(s:SS)(b:cY):St:=match s.ks with
 | .g X _ _ _::_=>s.st.set ((S6 X s.st).getD 0) b
 |_=>s.st++[b]
def nwM(s:SS):Option Nat:=match s.ks with
 | .g X _ _ _::_=>some ((S6 X s.st).getD 0)
 |_=>none
theorem BY(E:ub α)(id:Nat)(xs:List α){ys:List α}{N L:Nat}(k:GG P n n0 lz an r Q x (PG n (.one (.sl id E.sz 0 (ys++xs).length)) ((run P n an s).st.set id (.arr E.sz (E.els (ys++xs)))) (some id) (run P n an s)))(hL:L=ys.length:=by rfl)(hN:N=xs.length:=by rfl)
  (he:Z6 P an [] (run P n an s)=some ⟨.one (.sl id E.sz 0 (L+(E.els xs).length)),(run P n an s).st.set id (.arr E.sz (E.els ys++E.els xs)),[kf E.sz (E.els xs),L=(E.els ys).length,L+(E.els xs).length≤4294967296],[],some id⟩:=by kernel_rfl)
  (hm:Ln n0 lz (some id)=true:=by kernel_rfl):GG P n n0 lz an r Q (iN (ys.length+N≤4294967296) x) s:=by
 subst hL;subst hN;refine⟨fun h=> ?_⟩;obtain⟨hp,h⟩:=rj h;exact uOp he ⟨E.ok _,(E.len _).symm,by rw[E.len];exact hp,trivial⟩ hm (by rw[E.len,List.length_append]) (by rw[E.app2]) k h
theorem uAs(id:Nat)(t:ByteArray){ys:List Int}{L:Nat}(k:GG P n n0 lz an r Q x (PG n (.one (.sl id 1 0 (ys++oj t).length)) ((run P n an s).st.set id (.arr 1 ((eK .u8).els (ys++oj t)))) (some id) (run P n an s)))(hL:L=ys.length:=by rfl)
  (he:Z6 P an [] (run P n an s)=some ⟨.one (.sl id 1 0 (L+(ip t).length)),(run P n an s).st.set id (.arr 1 ((eK .u8).els ys++ip t)),[kf 1 (ip t),L=((eK .u8).els ys).length,L+(ip t).length≤4294967296],[],some id⟩:=by kernel_rfl)
  (hm:Ln n0 lz (some id)=true:=by kernel_rfl):GG P n n0 lz an r Q (iN (ys.length+(oj t).length≤4294967296) x) s:=by
 subst hL;refine⟨fun h=> ?_⟩;obtain⟨hp,h⟩:=rj h;exact uOp he ⟨Qt _,((eK .u8).len _).symm,by rw[IF];exact hp,trivial⟩ hm (by rw[Ng]) (by rw[OH]) k h
theorem VH(E:ub α)(id:Nat){ys:List α}{i:Int}{L:Nat}{f:α→Option β}(k:∀e,at? ys i=some e→GG P n n0 lz an r Q (f e) (HG n (.one (.pt id E.sz (0+i.toNat) 0)) (run P n an s)))(hL:L=ys.length:=by rfl)
  (he:Oe P (run P n an s)=some (.one (.pt id E.sz (0+i.toNat) 0),[0≤i∧i<((L:Nat):Int)]):=by kernel_rfl):GG P n n0 lz an r Q (am (at? ys i) f) s:=by
 subst hL;refine⟨fun h=> ?_⟩;obtain⟨e,ha,h⟩:=zP h;exact uV _ _ (ob:=[_]) ⟨ub.inb' ha,trivial⟩ rfl (k e ha) he h
theorem uIb(E:ub α)(id:Nat){ys:List α}{i:Int}{e:α}{L:Nat}(ha:at? ys i=some e)(k:GG P n n0 lz an r Q T (HG n (.one (.pt id E.sz (0+i.toNat) 0)) (run P n an s)))(hL:L=ys.length:=by rfl)
  (he:Oe P (run P n an s)=some (.one (.pt id E.sz (0+i.toNat) 0),[0≤i∧i<((L:Nat):Int)]):=by kernel_rfl):GG P n n0 lz an r Q T s:=by
 subst hL;exact uV _ _ (ob:=[_]) ⟨ub.inb' ha,trivial⟩ rfl k he
def W0(P:Program)(hs:HS)(s:SS):Option (AV×List Prop):=
 match Fi s with
 |some (o,f)=>bif tR o.op then(match ev P false o f (Kp s) hs with
  |some out=>some (out.av,out.ob)
  |none=>none)else none
 |none=>none
theorem YS{hs:HS}{av:AV}{ob:List Prop}(he:W0 P hs s=some (av,ob))(hob:nw ob):∃o f,Fi s=some (o,f)∧Yd P n (Kp s) o f av:=by
 unfold W0 at he;split at he
 ·rename_i o f hd;cases hq:tR o.op with
  |false=>simp[hq]at he
  |true=>
   simp only[hq,cond_true]at he;split at he
   ·rename_i out hev;simp only[eJ,sT]at he;obtain⟨rfl,rfl⟩:=he;exact⟨o,f,hd,Yd.ev hq hev hob⟩
   ·cases he
 ·cases he
def adc(o:Option (AV×List Prop)):AV:=match o with
 |some (av,_)=>av
 |none=> .j
theorem Yq(E:ub α){ys:List α}{i:Int}{e:α}(ha:at? ys i=some e)(k:GG P n n0 lz an r Q T (HG n (adc (W0 P [E.cells e] (run P n an s))) (run P n an s)))
  (he:W0 P [E.cells e] (run P n an s)=some (adc (W0 P [E.cells e] (run P n an s)),[(E.els ys)[0+i.toNat]? =some (E.cells e)]):=by kernel_rfl):GG P n n0 lz an r Q T s:=by
 refine⟨fun h=> ?_⟩;obtain⟨o,g,h1,h2⟩:=YS (n:=n) he ⟨E.get0 ha,trivial⟩;exact dn (an:=an) (tD h1 h2 (k h))
theorem uXs(id sz L:Nat)(k:GG P n n0 lz an r Q T (HG n (.one (.sl id sz 0 L)) (run P n an s)))
  (he:Oe P (run P n an s)=some (.one (.sl id sz (0+(0:Int).toNat) (((L:Nat):Int).toNat-(0:Int).toNat)),[((0:Int)≤0∧(0:Int)≤((L:Nat):Int)∧(((L:Nat):Int)≤((L:Nat):Int)∧((L:Nat):Int)≤((L:Nat):Int)))∧((0:Int).toNat=0∨(((0:Int).toNat:Nat):Int)<((L:Nat):Int))]):=by kernel_rfl):GG P n n0 lz an r Q T s:=by
 have e2:((L:Nat):Int).toNat-(0:Int).toNat=L:=by simp
 rw[e2]at he;exact uV _ _ (ob:=[_]) ⟨⟨⟨by omega,by omega,by omega,by omega⟩,.inl rfl⟩,trivial⟩ rfl k he
theorem uSt(E:ub α)(id:Nat){ys:List α}{i:Int}{e:α}(ha:at? ys i=some e)(v:α)(k:GG P n n0 lz an r Q T (PG n .j ((run P n an s).st.set id (.arr E.sz (E.els (ys.set i.toNat v)))) none (run P n an s)))
  (he:Z6 P an [E.cells e] (run P n an s)=some ⟨.j,(run P n an s).st.set id (.arr E.sz ((E.els ys).set (0+i.toNat) (E.cells v))),[(E.els ys)[0+i.toNat]? =some (E.cells e)],[],none⟩:=by kernel_rfl):GG P n n0 lz an r Q T s:=
 uOp he ⟨E.get0 ha,trivial⟩ rfl rfl (by rw[E.set0]) k
theorem uMk(E:ub α)(v:α){N M:Int}(k:GG P n n0 lz an r Q x (PG n (.one (.sl (nwI (run P n an s)) E.sz 0 N.toNat)) (nwS (run P n an s) (.arr E.sz (E.els (List.replicate N.toNat v)))) (nwM (run P n an s)) (run P n an s)))
  (he:Z6 P an [] (run P n an s)=some ⟨.one (.sl (nwI (run P n an s)) E.sz 0 N.toNat),nwS (run P n an s) (.arr E.sz (List.replicate N.toNat (E.cells v))),[0≤N,N≤M,M≤4294967296],[],nwM (run P n an s)⟩:=by kernel_rfl)(hm:Ln n0 lz (nwM (run P n an s))=true:=by kernel_rfl):GG P n n0 lz an r Q (iN (0≤N∧N≤M∧M≤4294967296) x) s:=by
 refine⟨fun h=> ?_⟩;obtain⟨⟨h1,h2,h3⟩,h⟩:=rj h;exact uOp he ⟨h1,h2,h3,trivial⟩ hm rfl (by rw[E.rep]) k h
theorem uW(d:Nat)(E:ub α)(xs:List α)(k:GG P n n0 lz an r Q T (HG n (vl E xs) (KW P n an d s)))(he:Oe P (KW P n an d s)=some (.one (.pv (.ro (xs.map E.cells))),[]):=by kernel_rfl):GG P n n0 lz an r Q T s:=by
 refine⟨fun h=> ?_⟩;rw[←E.hels]at he;obtain⟨o,g,h1,h2⟩:=Qr (n:=n) he trivial;exact Cp (tD h1 h2 (k h))
def CX(P:Program)(f:Nat)(args:List AV)(sc:St)(lo:List Nat){β:Type}(T:Option β)(rv:β→AV)(nb:β→St):Prop:=∀r,T=some r→MX P f args sc lo (rv r) (nb r)
theorem SY{f:Nat}{args:List AV}{sc:St}{lo:List Nat}{rv:β→AV}{nb:β→St}(k m n:Nat)(an:List Nat)(fn:Func)(g:∀r,GG P n k lo an r (FK P fn m rv nb r) T ⟨[.c (cd fn [])],ff0 args,fS0 sc,[]⟩)
  (hf:P.funcs[f]? =some fn:=by kernel_rfl)(hb:fn.body=some (cd fn []):=by kernel_rfl)(hn:fn.ntmps=n:=by kernel_rfl)(hl:Nat.ble args.length n=true:=by rfl)(hk:sc.length=k:=by rfl)(hkm:Nat.ble k m=true:=by rfl):CX P f args sc lo T rv nb:=by
 intro r hT;refine MX.of k m hkm hf hb hn (CY hl) hk ?_;have:=g r hT;unfold ff0 fS0 at this;rw[FH,yq]at this;refine XW.mono (show XW P n k lo (cd fn []) (QK P n k lo [] (FK P fn m rv nb r)) (sN args 0) sc from ?_) (fun e f s h=>h);have e:pU (XW P n k lo (cd fn []) (FK P fn m rv nb r)) (FK P fn m rv nb r) .normal (sN args 0) sc:=this;exact e
theorem uX0{f:Nat}{args:List AV}{sc:St}{lo:List Nat}{rv:β→AV}{nb:β→St}(e:T=none):CX P f args sc lo T rv nb:=fun r h=>fW e h
theorem XO.calxS(g:Nat)(avs avs0:List AV)(sc sc':St)(lo:List Nat)(r:AV)(rs:List Nat)(L:List Nat)(fr':Fr)(st':St)(hc:vY P n ops l fr=some (g,avs0))(b:Bool)(hs:avs0.map (PK b)=avs.map (Aj (oo rs st.length)))(h:MX P g avs sc lo r sc')(hb:LL st.length rs sc sc' avs=true)
  (hL:lo.map (oo rs st.length)=L)(hbx:GR rs L 0 st=true)(hfx:MJ n0 lz L=true)
  (hst:rs.map (fun x=>st[x]?)=sc.map (fun o=>some (xH (oo rs st.length) o)))(hst':ja st rs ((sc'.take sc.length).map (xH (oo rs st.length)))++(sc'.drop sc.length).map (xH (oo rs st.length))=st')(hput:GJ n l (Aj (oo rs st.length) r) (s9 (fun id=> !bq L id) fr)=some fr')
  (hk:XO P n n0 lz ops (l.drop 1) Q fr' st'):XO P n n0 lz ops l Q fr st:=by
 cases l with
 |nil=>simp[vY]at hc
 |cons o rest=>
  simp only[vY]at hc;split at hc
  ·rename_i hg;intro ι w a hR hF;obtain⟨vs,hrun,hA⟩:=Ac hc hF;have hA:=hA.soft b;rw[hs]at hA;have hw:=gj hg hF;refine wpList_step fun K hK=> ?_
   rw[if_pos hw];simp only[Oper.wp,hrun,Oper.upon];refine(h.use' rs hb hst (by rw[hL];exact fun id o ho hn=>Ij hbx id o ho (by rwa [Nat.zero_add])) hR hA).mono ?_;rintro e w' ⟨v,ι',rfl,hR',hv,k⟩;rw[hst',hL]at k;rw[hst']at hR' hv;refine hK _ _ (iE (fun e a w h=>h.trans (k.weaken (fun id hf=> ?_))) (hk ι' w' _ hR' (oI hput (hF.keep k (q:=fun id=> !bq L id) (fun id hq _ hm=>by rw[gD.2 hm]at hq;cases hq)) hv)));intro hm;have:=List.all_eq_true.1 hfx id hm;have hf':A2 n0 lz id=true:=hf;rw[hf']at this;cases this
  ·simp at hc
def mxS(n:Nat)(rs lo:List Nat)(len:Nat)(av:AV)(sc':St)(s:SS):SS:=match s with
 |⟨.o ops (o::l)::k,fr,st,kn⟩=>fA (Aj (oo rs st.length) av) fun av=>fS (ja st rs ((sc'.take len).map (xH (oo rs st.length)))++(sc'.drop len).map (xH (oo rs st.length))) fun st'=>JA (fun id=> !bq (lo.map (oo rs st.length)) id) fr fun fr=>Ga n o.dst av fr (fun fr'=>Iq false o.dst kn fun kn'=>⟨.o ops l::k,fr',st',kn'⟩) s
 |s=>s
theorem Yv(b:Bool)(rs:List Nat){o:Option α}{f:α→Option β}{g:Nat}{avs:List AV}{sc:St}{lo:List Nat}{rv:α→AV}{nb:α→St}(c:CX P g avs sc lo o rv nb)
  (k:∀v,o=some v→GG P n n0 lz an r Q (f v) (mxS n rs lo sc.length (rv v) (nb v) (run P n an s)))
  (h1:cQ b P n (run P n an s)=some (g,avs.map (Aj (oo rs (run P n an s).st.length))):=by kernel_rfl)(h2:∀v,LL (run P n an s).st.length rs sc (nb v) avs=true:=by intro v;kernel_rfl)
  (h4:(GR rs (lo.map (oo rs (run P n an s).st.length)) 0 (run P n an s).st&&MJ n0 lz (lo.map (oo rs (run P n an s).st.length)))=true:=by kernel_rfl)
  (h3:rs.map (fun x=>(run P n an s).st[x]?)=sc.map (fun o=>some (xH (oo rs (run P n an s).st.length) o)):=by kernel_rfl):GG P n n0 lz an r Q (am o f) s:=by
 refine⟨fun h=> ?_⟩;obtain⟨v,ho,h⟩:=zP h;refine dn (an:=an) ?_;have k:=k v ho h;have h2:=h2 v;generalize run P n an s=s' at*;obtain⟨ks,fr,st,kn⟩:=s';simp only[iu]at h4;unfold cQ at h1;split at h1
 ·rename_i ops l k' hk;simp only at hk;subst hk;split at h1
  ·rename_i g' avs' hc;simp only[eJ,sT]at h1;obtain⟨rfl,h1⟩:=h1;cases l with
   |nil=>simp[vY]at hc
   |cons o' l=>
    simp only[mxS,DZ,yq,G0]at k;rcases ua (n:=n) o'.dst (Aj (oo rs st.length) (rv v)) (s9 (fun id=> !bq (lo.map (oo rs st.length)) id) fr) (fun fr'=>Iq false o'.dst kn fun kn'=>(⟨.o ops l::k',fr',ja st rs (((nb v).take sc.length).map (xH (oo rs st.length)))++((nb v).drop sc.length).map (xH (oo rs st.length)),kn'⟩:SS)) ⟨.o ops (o'::l)::k',fr,st,kn⟩with⟨fr',hp,e⟩ |e
    ·obtain⟨kn',ek⟩:=wC false o'.dst kn fun kn'=>(⟨.o ops l::k',fr',ja st rs (((nb v).take sc.length).map (xH (oo rs st.length)))++((nb v).drop sc.length).map (xH (oo rs st.length)),kn'⟩:SS)
     rw[e,ek]at k;exact XO.calxS _ _ _ _ _ _ _ _ _ fr' _ hc b h1 (c v ho) h2 rfl h4.1 h4.2 h3 rfl hp k
    ·rw[e]at k;exact k
  ·cases h1
 ·cases h1
def cG(P:Program)(n:Nat)(s:SS):Option (Nat×List AV):=match s.ks with
 | .g _ ops l _::_=>Mx P n ops l s.fr
 |_=>none
def RC(rs:List Nat)(ops:Array Oper)(o:Oper)(fr:Fr):List Nat:=cV ops o fr++rs
def mgB(rs L:List Nat)(av:AV)(st':St)(s:SS):Bool:=match s.ks with
 | .g X ops (o::_) _::_=>((Ug s.st (RC rs ops o s.fr)&&If ops o s.fr (RC rs ops o s.fr))&&(ff (bq (RC rs ops o s.fr)) av&&rs.all (bq (RC rs ops o s.fr))))&&(gO (fun i=> !bq X i) st'&&(L.all (bq X)&&L.all (bq (RC rs ops o s.fr))))
 |_=>false
def mgS(n:Nat)(rs L:List Nat)(av:AV)(st':St)(s:SS):SS:=match s with
 |⟨.g X ops (o::l) tw::k,fr,st,kn⟩=>fA av fun av=>fS st' fun st'=>JA (fun id=> !bq L id) fr fun fr'=>Ga n o.dst av fr' (fun fr2=>Iq false o.dst kn fun kn'=>⟨.g X ops l (tw++[(yx X (RC rs ops o fr),RC rs ops o fr++L.map (·+1000))])::k,fr2,st',kn'⟩) s
 |s=>s
theorem aeY(rs:List Nat){o:Option α}{f:α→Option β}{g:Nat}{avs:List AV}{sc:St}{lo:List Nat}{rv:α→AV}{nb:α→St}(c:CX P g avs sc lo o rv nb)
  (k:∀v,o=some v→GG P n n0 lz an r Q (f v) (mgS n rs (lo.map (oo rs (run P n an s).st.length)) (Aj (oo rs (run P n an s).st.length) (rv v)) (ja (run P n an s).st rs ((nb v).map (xH (oo rs (run P n an s).st.length)))) (run P n an s)))
  (h1:cG P n (run P n an s)=some (g,avs.map (Aj (oo rs (run P n an s).st.length))):=by kernel_rfl)
  (h2:∀v,(Ju (run P n an s).st.length rs sc (nb v) avs&&mgB rs (lo.map (oo rs (run P n an s).st.length)) (Aj (oo rs (run P n an s).st.length) (rv v)) (ja (run P n an s).st rs ((nb v).map (xH (oo rs (run P n an s).st.length)))) (run P n an s))=true:=by intro v;kernel_rfl)
  (h3:rs.map (fun x=>(run P n an s).st[x]?)=sc.map (fun o=>some (xH (oo rs (run P n an s).st.length) o)):=by kernel_rfl):GG P n n0 lz an r Q (am o f) s:=by
 refine⟨fun h=> ?_⟩;obtain⟨v,ho,h⟩:=zP h;refine dn (an:=an) ?_;have k:=k v ho h;have hcm:=h2 v;generalize run P n an s=s' at*;obtain⟨ks,fr,st,kn⟩:=s';rw[iu]at hcm;obtain⟨hcm,h4⟩:=hcm;clear h2;unfold mgB at h4;split at h4
 ·rename_i X ops o' l tw k' hk;simp only at hk;subst hk;simp only[iu]at h4;obtain⟨⟨⟨q1,q2⟩,q3,q4⟩,q5,q6,q7⟩:=h4;simp only[mgS,DZ,yq,G0]at k;generalize hL:lo.map (oo rs st.length)=L at*;rcases ua (n:=n) o'.dst (Aj (oo rs st.length) (rv v)) (s9 (fun id=> !bq L id) fr) (fun fr'=>Iq false o'.dst kn fun kn'=>(⟨.g X ops l (tw++[(yx X (RC rs ops o' fr),RC rs ops o' fr++L.map (·+1000))])::k',fr',ja st rs ((nb v).map (xH (oo rs st.length))),kn'⟩:SS)) ⟨.g X ops (o'::l) tw::k',fr,st,kn⟩with⟨fr',hp,e⟩ |e
  ·obtain⟨kn',ek⟩:=wC false o'.dst kn fun kn'=>(⟨.g X ops l (tw++[(yx X (RC rs ops o' fr),RC rs ops o' fr++L.map (·+1000))])::k',fr',ja st rs ((nb v).map (xH (oo rs st.length))),kn'⟩:SS)
   rw[e,ek]at k;obtain⟨p1,p2⟩:=BP hp;refine GK.of (tw1:=(yx X (RC rs ops o' fr),RC rs ops o' fr++L.map (·+1000))) (fun hg=> ?_) k;exact GY.calx g avs sc (nb v) lo (rv v) rs L fr' (RC rs ops o' fr) _ rfl q1 h1 (c v ho) (by simp only[iu];exact⟨hcm,q6,q7⟩) hL h3 rfl (by simp only[Og,iu];exact⟨⟨q2,Pm p1⟩,q3,q4⟩) q5 (by simp only[Og];exact p2) hg
  ·rw[e]at k;exact k
 ·cases h4
def lnC(id:Nat)(m:Nat):CV→CV
 | .sl i sz off len=>bif Nat.beq i id then .sl i sz off m else .sl i sz off len
 |c=>c
def lnA(id m:Nat):AV→AV
 | .one c=> .one (lnC id m c)
 |a=>a
def lnB(id m:Nat):cY→cY
 | .box cs=> .box (cs.map (lnC id m))
 |b=>b
def lnF(id m:Nat)(fr:Fr):Fr:=fr.map fun x=>(x.1,lnA id m x.2)
def lnS(id m:Nat)(s:SS):SS:=match s with
 |⟨ks,fr,st,kn⟩=>fF (lnF id m fr) fun fr=>fS (st.map (lnB id m)) fun st=>⟨ks,fr,st,kn⟩
theorem Ya(id:Nat){L m:Nat}(h:L=m)(k:GG P n n0 lz an r Q T (lnS id m (run P n an s)))(he:(run P n an s).fr=lnF id L (run P n an s).fr:=by kernel_rfl)(he':(run P n an s).st=(run P n an s).st.map (lnB id L):=by kernel_rfl):GG P n n0 lz an r Q T s:=by
 subst h;refine⟨fun h=>dn (an:=an) ?_⟩;have k:=k.go h;generalize run P n an s=s' at*;obtain⟨ks,fr,st,kn⟩:=s';simp only[lnS,FH,yq]at k he he';rw[←he,←he']at k;exact k
theorem uLg(id:Nat){L m:Nat}(k:GG P n n0 lz an r Q x (lnS id m (run P n an s)))(he:(run P n an s).fr=lnF id L (run P n an s).fr:=by kernel_rfl)(he':(run P n an s).st=(run P n an s).st.map (lnB id L):=by kernel_rfl):GG P n n0 lz an r Q (iN (m=L) x) s:=by
 refine⟨fun h=> ?_⟩;obtain⟨hp,h⟩:=rj h;exact(Ya id hp.symm k he he').go h
theorem Yd.ext{st:St}{o:Oper}{f:Fr}{g:Nat}{vs us:List Value}(hc:JR P o f=some (g,vs))(h:TM P g vs (.tuple us.toArray))(hp:us.all xx=true):Yd P n st o f (Xm us):=by
 intro ι w a hR hF K Q hK;have hrun:=LV hc h hF (w:=w);simp only[Oper.wp,hrun,Oper.upon];exact hK _ w ι (IZ hp) hR .refl
def exQ(P:Program)(s:SS):Option (Nat×List Value):=match Fi s with
 |some (o,f)=>JR P o f
 |none=>none
theorem acl{p:Prop}[Decidable p]{g:Nat}{vs us:List Value}(h:p→TM P g vs (.tuple us.toArray))(hp:us.all xx=true)(k:GG P n n0 lz an r Q x (HG n (Xm us) (run P n an s)))(he:exQ P (run P n an s)=some (g,vs)):GG P n n0 lz an r Q (iN p x) s:=by
 refine⟨fun h'=> ?_⟩;obtain⟨hp',h'⟩:=rj h';unfold exQ at he;split at he
 ·rename_i o f hd;exact dn (an:=an) (tD hd (Yd.ext he (h hp') hp) (k h'))
 ·cases he
theorem NL{a b c:Int}(g:Nat)(fn:Func)(k:GG P n n0 lz an r Q x (HG n (.tp [.one (.pv (.s (.int .u64 ((a+b+c)%18446744073709551616)))),.one (.pv (.s (.int .u64 ((a+b+c)/18446744073709551616))))]) (run P n an s)))
  (he:exQ P (run P n an s)=some (g,[.int .u64 a,.int .u64 b,.int .u64 c]):=by kernel_rfl)(hf:P.funcs[g]? =some fn:=by kernel_rfl)
  (hx:((!(fn.name== "runtime.NumGoroutine")&&fn.body.isNone)&&(Extern.findNext fn).isNone)=true:=by kernel_rfl)(hx':Extern.find fn=some add64Entry:=by kernel_rfl):GG P n n0 lz an r Q (iN (0≤a∧0≤b∧0≤c∧c≤1) x) s:=by
 simp only[iu,Bool.not_eq_true',Option.isNone_iff_eq_none]at hx;exact acl (fun h=>Ta hf hx.1.1 (by rw[hx.1.2];rfl) hx.2 hx' h.1 h.2.1 h.2.2.1 h.2.2.2) rfl k he
theorem YW{a b c:Int}(g:Nat)(fn:Func)(k:GG P n n0 lz an r Q x (HG n (.tp [.one (.pv (.s (.int .u64 ((a-b-c)%18446744073709551616)))),.one (.pv (.s (.int .u64 (if a<b+c then(1:Int)else(0:Int)))))]) (run P n an s)))
  (he:exQ P (run P n an s)=some (g,[.int .u64 a,.int .u64 b,.int .u64 c]):=by kernel_rfl)(hf:P.funcs[g]? =some fn:=by kernel_rfl)
  (hx:((!(fn.name== "runtime.NumGoroutine")&&fn.body.isNone)&&(Extern.findNext fn).isNone)=true:=by kernel_rfl)(hx':Extern.find fn=some QI:=by kernel_rfl):GG P n n0 lz an r Q (iN (0≤a∧0≤b∧b<18446744073709551616∧0≤c∧c≤1) x) s:=by
 simp only[iu,Bool.not_eq_true',Option.isNone_iff_eq_none]at hx;exact acl (fun h=>Ub hf hx.1.1 (by rw[hx.1.2];rfl) hx.2 hx' h.1 h.2.1 h.2.2.1 h.2.2.2.1 h.2.2.2.2) rfl k he
end
section
variable {P:Program} {n n0:Nat} {lz an:List Nat} {β:Type} {r:β} {Q:QT} {s:SS}
def Kk(s:SS):Bool:=match s.ks with
 | .o _ (_::_)::_=>true
 |_=>false
end
def eFn:ub PV:= .of 1 (fun p=>[p]) (fun _=>rfl)
def Xe:acT Value:=⟨fun v=>v⟩
theorem Nw(v:Value):Xe.enc v=v:=rfl
def Fz(ag:Bool)(l:List Value):Value:=if ag then .agg l.toArray else l.headD (.bool false)
section
variable {κ α:Type} (K:TJ κ) (E:ub α) (ag:Bool)
def MV(sz:Nat)(ag:Bool):List κ→List Value→List (κ×Value)
 |[],_=>[]
 |k::ks,vs=>(k,Fz ag (vs.take sz))::MV sz ag ks (vs.drop sz)
def fl(m:List (κ×α)):List PV:=(m.map fun x=>E.cells x.2).flatten
def sP(m:List (κ×α)):List κ:=m.map (·.1)
def vM(m:List (κ×α)):cY:= .rel (fun o vs=>vs.length=(sP m).length*E.sz∧o=Bo K Xe (MV E.sz ag (sP m) vs)) (fl E m)
variable {μ:Nat→Prop} {w:World}
theorem N5{vs:List Value}{p q:List PV}(h:PL μ w vs (p++q)):PL μ w (vs.take p.length) p∧PL μ w (vs.drop p.length) q:=by
 obtain⟨hl,h⟩:=h;rw[List.length_append]at hl;refine⟨⟨by rw[List.length_take];omega,fun j v c h1 h2=> ?_⟩,⟨by rw[List.length_drop];omega,fun j v c h1 h2=> ?_⟩⟩
 ·have hj:=(tz.1 h2).1;rw[List.getElem?_take_of_lt hj]at h1;exact h j v c h1 (by rw[E2 hj];exact h2)
 ·rw[List.getElem?_drop]at h1;exact h (p.length+j) v c h1 (by rw[List.getElem?_append_right (by omega)];simpa using h2)
theorem Ry{vs us:List Value}{p q:List PV}(h:PL μ w vs p)(k:PL μ w us q):PL μ w (vs++us) (p++q):=by
 refine⟨by rw[List.length_append,List.length_append,h.1,k.1],fun j v c h1 h2=> ?_⟩;rcases Nat.lt_or_ge j vs.length with hj|hj
 ·rw[E2 hj]at h1;rw[E2 (by rw[←h.1];exact hj)]at h2;exact h.2 j v c h1 h2
 ·rw[List.getElem?_append_right hj]at h1;rw[List.getElem?_append_right (by rw[←h.1];exact hj)]at h2;rw[←h.1]at h2;exact k.2 _ v c h1 h2
theorem Mm(k:κ)(a:α)(m:List (κ×α)):fl E ((k,a)::m)=E.cells a++fl E m:=rfl
theorem ZO(m:List (κ×α)):(fl E m).length=(sP m).length*E.sz:=by
 induction m with
 |nil=>simp[fl,sP]
 |cons x m ih=>
  obtain⟨k,a⟩:=x;rw[Mm,List.length_append,ih,E.hsz];simp[sP,Nat.succ_mul,Nat.add_comm]
theorem WX:∀(m:List (κ×α)) (vs:List Value) (k:κ),PL μ w vs (fl E m)→
  match jQ K m k with
  |none=>jQ K (MV E.sz ag (sP m) vs) k=none
  |some a=>∃l,jQ K (MV E.sz ag (sP m) vs) k=some (Fz ag l)∧PL μ w l (E.cells a)
 |[],vs,k,h=>rfl
 |(k',a)::m,vs,k,h=>by
  rw[Mm]at h;obtain⟨h1,h2⟩:=N5 h;rw[E.hsz]at h1 h2;have ih:=WX m (vs.drop E.sz) k h2;show match jQ K ((k',a)::m) k with
   |none=>jQ K ((k',Fz ag (vs.take E.sz))::MV E.sz ag (sP m) (vs.drop E.sz)) k=none
   |some a=>∃l,jQ K ((k',Fz ag (vs.take E.sz))::MV E.sz ag (sP m) (vs.drop E.sz)) k=some (Fz ag l)∧PL μ w l (E.cells a)
  simp only[jQ];cases hq:K.eq k k' with
  |true=>exact⟨vs.take E.sz,rfl,h1⟩
  |false=>exact ih
theorem VG:∀(m:List (κ×α)) (vs l:List Value) (k:κ) (a:α),PL μ w vs (fl E m)→PL μ w l (E.cells a)→
  ∃vs',PL μ w vs' (fl E (lj K m k a))∧MV E.sz ag (sP (lj K m k a)) vs'=lj K (MV E.sz ag (sP m) vs) k (Fz ag l)
 |[],vs,l,k,a,h,hl=>by
  refine⟨l,?_,?_⟩
  ·show PL μ w l (E.cells a++[]);rw[List.append_nil];exact hl
  ·show[(k,Fz ag (l.take E.sz))]=[(k,Fz ag l)]
   rw[List.take_of_length_le (by rw[hl.1,E.hsz];exact iO _)]
 |(k',a')::m,vs,l,k,a,h,hl=>by
  rw[Mm]at h;obtain⟨h1,h2⟩:=N5 h;rw[E.hsz]at h1 h2;have hll:l.length=E.sz:=by rw[hl.1,E.hsz]
  show∃vs',PL μ w vs' (fl E (if K.eq k k' then(k,a)::m else(k',a')::lj K m k a))∧MV E.sz ag (sP (if K.eq k k' then(k,a)::m else(k',a')::lj K m k a)) vs'=(if K.eq k k' then(k,Fz ag l)::MV E.sz ag (sP m) (vs.drop E.sz)else(k',Fz ag (vs.take E.sz))::lj K (MV E.sz ag (sP m) (vs.drop E.sz)) k (Fz ag l))
  cases hq:K.eq k k' with
  |true=>
   refine⟨l++vs.drop E.sz,Ry hl h2,?_⟩;show(k,Fz ag ((l++vs.drop E.sz).take E.sz))::MV E.sz ag (sP m) ((l++vs.drop E.sz).drop E.sz)=_;rw[List.take_left' hll,List.drop_left' hll];rfl
  |false=>
   obtain⟨vs',g1,g2⟩:=VG m (vs.drop E.sz) l k a h2 hl;have ht:(vs.take E.sz).length=E.sz:=by rw[h1.1,E.hsz]
   refine⟨vs.take E.sz++vs',Ry h1 g1,?_⟩;show(k',Fz ag ((vs.take E.sz++vs').take E.sz))::MV E.sz ag (sP (lj K m k a)) ((vs.take E.sz++vs').drop E.sz)=_;rw[List.take_left' ht,List.drop_left' ht,g2];rfl
def Zu(a:α):AV:=if ag then .ag ((E.cells a).map .pv)else .one (.pv ((E.cells a).headD (.s (.bool false))))
theorem V9{ι:IM}{st:St}{l:List Value}{a:α}(h1:ag=true∨E.sz=1)(h:PL (o5 ι st) w l (E.cells a)):bk ι w st (Fz ag l) (Zu E ag a):=by
 unfold Fz Zu;cases hag:ag with
 |true=>
  simp only[if_true];refine .ag _ _ ⟨by rw[h.1,List.length_map],fun j v c h2 h3=> ?_⟩;rw[List.getElem?_map]at h3;cases hp:(E.cells a)[j]? with
  |none=>rw[hp]at h3;cases h3
  |some p=>
   rw[hp]at h3;cases h3;exact .pv _ _ (h.2 j v p h2 hp)
 |false=>
  have hs:E.sz=1:=by rcases h1 with h'|h';rw[hag]at h';cases h';exact h'
  have hl:=E.hsz a;rw[hs]at hl;simp only[Bool.false_eq_true,if_false]
  match hc:E.cells a,hl with
  |[p],_=>
   rw[hc]at h
   match l,h.1 with
   |[v],_=>exact .one _ _ (.pv _ _ (h.2 0 v p rfl rfl))
theorem Z0{ι:IM}{st:St}{v:Value}{a:α}(h1:ag=true∨E.sz=1)(h:bk ι w st v (Zu E ag a)):∃l,v=Fz ag l∧PL (o5 ι st) w l (E.cells a):=by
 unfold Zu at h;unfold Fz;cases hag:ag with
 |true=>
  rw[hag]at h;simp only[if_true]at h⊢;cases h with
  |ag vs cs h=>
   refine⟨vs,rfl,by rw[h.1,List.length_map],fun j v p h2 h3=> ?_⟩;have:=h.2 j v (.pv p) h2 (by rw[List.getElem?_map,h3];rfl);cases this with
   |pv _ _ h=>exact h
 |false=>
  rw[hag]at h;have hs:E.sz=1:=by rcases h1 with h'|h';rw[hag]at h';cases h';exact h'
  have hl:=E.hsz a;rw[hs]at hl;simp only[Bool.false_eq_true,if_false]at h⊢
  match hc:E.cells a,hl with
  |[p],_=>
   rw[hc]at h;cases h with
   |one _ _ h=>
    cases h with
    |pv _ _ h=>exact⟨[v],rfl,rfl,fun j x q h2 h3=>by
     match j with
     |0=>simp at h2 h3;subst h2;subst h3;exact h
     |j+1=>simp at h2⟩
end
section
variable {P:Program} {n n0:Nat} {lz an:List Nat} {β:Type} {r:β} {Q:QT} {s:SS} {T:Option β}
theorem QC{av:AV}{st':St}(hs:Kk s=true)
  (step:∀(ops:Array Oper) (o:Oper) (l:List Oper) (Q':QT) (fr':Fr),(∃ks,s.ks= .o ops (o::l)::ks)→BZ n o.dst av s.fr=some fr'→XO P n n0 lz ops l Q' fr' st'→XO P n n0 lz ops (o::l) Q' s.fr s.st)
  (k:XK P n n0 lz Q (PG n av st' none s)):XK P n n0 lz Q s:=by
 obtain⟨ks,fr,st,kn⟩:=s
 match ks,hs with
 | .o ops (o::l)::ks,hs=>
  simp only[PG,DZ,yq,Q6]at k;rcases ua (n:=n) o.dst av (Uu none fr) (fun fr'=>Iq false o.dst kn fun kn'=>(⟨.o ops l::ks,fr',st',kn'⟩:SS)) ⟨.o ops (o::l)::ks,fr,st,kn⟩with⟨fr',hp,e⟩ |e
  ·obtain⟨kn',ek⟩:=wC false o.dst kn fun kn'=>(⟨.o ops l::ks,fr',st',kn'⟩:SS)
   rw[e,ek]at k;exact step ops o l _ fr' ⟨ks,rfl⟩ hp k
  ·rw[e]at k;exact k
def adh(s:SS):Bool:=match s.ks with
 | .o ops (o::l)::_=>Ns ops (o::l) s.fr
 |_=>false
section
variable {κ α:Type} (K:TJ κ) (E:ub α) (ag:Bool)
theorem Ut(hs:Kk s=true)(he:adh s=true)(k:XK P n n0 lz Q (PG n (.one (.mp s.st.length)) (s.st++[vM K E ag []]) none s)):XK P n n0 lz Q s:=by
 refine QC hs (fun ops o l Q' fr' hks hput hk=> ?_) k;obtain⟨ks,fr,st,kn⟩:=s;obtain⟨ks',hks⟩:=hks;simp only at hks;subst hks;have hc:Ns ops (o::l) fr=true:=he;simp only[Ns]at hc;split at hc
 ·rename_i hg;cases hop:o.op<;>simp only[hop]at hc<;>try (cases hc;done)
  rename_i t x;cases x with
  |some x=>simp at hc
  |none=>
   intro ι w a hR hF;have hw:=gj hg hF;have hrun:(execOp a.eval o).run P w= .ok (.value (.map (some w.heap.size))) (w.alloc (.map #[] 0)):=by
    simp[execOp,hop,Instr.makeMap]
   have hO:vw (ι.add st.length (some w.heap.size)) (w.alloc (.map #[] 0)) (st++[vM K E ag []]) st.length (vM K E ag []):=
    ⟨w.heap.size,.map #[] 0,[],by simp[IM.add],fE w _,⟨by simp[sP],rfl⟩,rfl,fun j v p h=>by simp at h⟩
   have hR':km (ι.add st.length (some w.heap.size)) (w.alloc (.map #[] 0)) (st++[vM K E ag []]):=
    hR.add (xS.alloc w _) (fun x e=>by cases e;exact iO _) hO
   have k:cT all ι w st (ι.add st.length (some w.heap.size)) (w.alloc (.map #[] 0)) (st++[vM K E ag []]):=
    yU (xS.alloc w _) _ _ (fun x e=>by cases e;exact iO _)
   have hres:bk (ι.add st.length (some w.heap.size)) (w.alloc (.map #[] 0)) (st++[vM K E ag []]) (.map (some w.heap.size)) (.one (.mp st.length)):=
    .one _ _ (ej.mp st.length w.heap.size (by simp) (by simp[IM.add]))
   refine wpList_step fun K' hK=> ?_
   rw[if_pos hw];simp only[Oper.wp,hrun,Oper.upon];exact hK _ _ (iE (fun e a w h=>h.trans (k.weaken (fun _ _=>trivial))) (hk _ _ _ hR' (oI hput (hF.mono' k) hres)))
 ·simp at hc
theorem uMm(k:GG P n n0 lz an r Q T (PG n (.one (.mp (run P n an s).st.length)) ((run P n an s).st++[vM K E ag []]) none (run P n an s)))
  (he:adh (run P n an s)=true:=by kernel_rfl)(hs:Kk (run P n an s)=true:=by kernel_rfl):GG P n n0 lz an r Q T s:=
 ⟨fun h=>dn (an:=an) (Ut K E ag hs he (k.go h))⟩
def Qo(P:Program)(s:SS):Option (Nat×Value×TypeId×TypeId×Bool):=match s.ks with
 | .o ops (o::_)::_=>(match fx ops o s.fr with
  |some true=>(match o.op with
   | .lookup t x i ok=>(match P.underlying t with
    |some (.map kt et)=>(match rv s.fr x,rv s.fr i with
     | .one (.mp id),.one (.pv (.s v))=>some (id,v,kt,et,ok)
     |_,_=>none)
    |_=>none)
   |_=>none)
  |_=>none)
 |_=>none
def zcB:Value→PV→Bool
 | .int k n,.s (.int k' n')=>k==k'&&n==n'
 | .bool b,.s (.bool b')=>b==b'
 | .string s,.s (.string s')=>s.size==0&&s'.size==0
 | .slice none 0 0,.ro []=>true
 |_,_=>false
theorem SR{μ:Nat→Prop}{w:World}{v:Value}{p:PV}(h:zcB v p=true):jk μ w v p:=by
 unfold zcB at h;split at h
 ·rename_i k n k' n';obtain⟨h1,h2⟩:=Bool.and_eq_true_iff.1 h;have e1:k=k':=by simpa using h1
  have e2:n=n':=by simpa using h2
  subst e1 e2;exact .s _ rfl
 ·rename_i b b';have e1:b=b':=by simpa using h
  subst e1;exact .s _ rfl
 ·rename_i s s';obtain⟨h1,h2⟩:=Bool.and_eq_true_iff.1 h;have e1:s.size=0:=by simpa using h1
  have e2:s'.size=0:=by simpa using h2
  have e:s=s':=ByteArray.ext (by rw[Array.eq_empty_of_size_eq_zero e1,Array.eq_empty_of_size_eq_zero e2]);subst e;exact .s _ rfl
 ·exact .nl
 ·cases h
def zOk(P:Program)(ag:Bool)(et:TypeId)(ps:List PV):Bool:=match(P.info? et).bind (·.zero)with
 |some v=>(match ag,v with
  |true,.agg a=>a.toList.length==ps.length&&(a.toList.zip ps).all fun x=>zcB x.1 x.2
  |false,v=>(match ps with
   |[p]=>zcB v p
   |_=>false)
  |_,_=>false)
 |none=>false
theorem abr{ag:Bool}{et:TypeId}{ps:List PV}(h:zOk P ag et ps=true):∃zv,(P.info? et).bind (·.zero)=some zv∧∃l,zv=Fz ag l∧∀(μ:Nat→Prop) (w:World),PL μ w l ps:=by
 unfold zOk at h;split at h
 ·rename_i v hv;refine⟨v,hv,?_⟩;split at h
  ·rename_i a;obtain⟨h1,h2⟩:=Bool.and_eq_true_iff.1 h;have h1:a.toList.length=ps.length:=by simpa using h1
   refine⟨a.toList,by simp[Fz],fun μ w=>⟨h1,fun j v p e1 e2=> ?_⟩⟩;refine SR (List.all_eq_true.1 h2 (v,p) ?_);refine List.mem_iff_getElem?.2 ⟨j,?_⟩;rw[List.getElem?_zip_eq_some];exact⟨e1,e2⟩
  ·split at h
   ·rename_i p;refine⟨[v],by simp[Fz],fun μ w=>⟨rfl,fun j x q e1 e2=> ?_⟩⟩
    match j with
    |0=>simp at e1 e2;subst e1;subst e2;exact SR h
    |j+1=>simp at e1
   ·cases h
  ·cases h
 ·cases h
def lkA(ok:Bool)(a:AV)(b:Bool):AV:=match ok with
 |true=> .tp [a,.one (.pv (.s (.bool b)))]
 |false=>a
theorem O4(id:Nat)(m:List (κ×α))(k0:κ)(z:α)(kt et:TypeId)(ok:Bool)(hag:ag=true∨E.sz=1)(hs:Kk s=true)(he:Qo P s=some (id,K.enc k0,kt,et,ok))(hkt:P.underlying kt=some K.desc)
  (hzo:zOk P ag et (E.cells z)=true)(ho:s.st[id]? =some (vM K E ag m))
  (k:XK P n n0 lz Q (PG n (lkA ok (Zu E ag ((jQ K m k0).getD z)) (jQ K m k0).isSome) s.st none s)):XK P n n0 lz Q s:=by
 refine QC hs (fun ops o l Q' fr' hks hput hk=> ?_) k;obtain⟨ks,fr,st,kn⟩:=s;obtain⟨ks',hks⟩:=hks;simp only at hks;subst hks;simp only[Qo]at he;split at he
 ·rename_i hg;split at he
  ·rename_i t x i ok' hop;split at he
   ·rename_i kt' et' hu;split at he
    ·rename_i id' v hx hi;simp only[eJ,sT]at he;obtain⟨rfl,rfl,rfl,rfl,rfl⟩:=he;intro ι w a hR hF;have h1:=dL hF x;rw[hx]at h1;obtain⟨b,hv,hid,hb⟩:=VN h1;have h2:=dL hF i;rw[hi]at h2;have hiv:=cn h2;obtain⟨b',o',vs,e1,e2,⟨e3,rfl⟩,e4⟩:=hR.obj id' _ ho;rw[hb]at e1;cases e1;have hw:=gj hg hF;obtain⟨zv,hz,zl,hzl,hzp⟩:=abr hzo;obtain⟨inf,hinf,hzero⟩:=Option.bind_eq_some_iff.1 hz;have hmv:=WX K E ag m vs k0 e4;have hres:∃l,(execOp a.eval o).run P w= .ok (.value (if ok' then .tuple #[Fz ag l,.bool (jQ K m k0).isSome]else Fz ag l)) w∧PL (o5 ι st) w l (E.cells ((jQ K m k0).getD z)):=by
      have hpos:=Ky K (MV E.sz ag (sP m) vs) k0;have hf:=OF (P:=P) K Xe hkt (MV E.sz ag (sP m) vs) k0 w;cases hmg:jQ K m k0 with
      |none=>
       rw[hmg]at hmv;simp only at hmv;rw[hmv]at hpos;have hp:BE K (MV E.sz ag (sP m) vs) k0=none:=by cases h:BE K (MV E.sz ag (sP m) vs) k0<;>simp[h]at hpos⊢
       rw[hp]at hf;refine⟨zl,?_,hzp _ _⟩;rw[←hzl];simp only[execOp,hop,hv,hiv,Instr.lookup];cases ok'<;>simp[run_underlying hu,getObj,Sem.run,e2,Bo,K.flat P _ _ k0 w hkt,hf,Result.andThen,FC hinf hzero]
      |some e=>
       rw[hmg]at hmv;simp only at hmv;obtain⟨l,hl1,hl2⟩:=hmv;rw[hl1]at hpos;cases hp:BE K (MV E.sz ag (sP m) vs) k0 with
       |none=>rw[hp]at hpos;simp at hpos
       |some j=>
        rw[hp,hl1]at hf;refine⟨l,?_,hl2⟩;simp only[execOp,hop,hv,hiv,Instr.lookup];cases ok'<;>simp[run_underlying hu,getObj,Sem.run,e2,Bo,K.flat P _ _ k0 w hkt,hf,Result.andThen,Nw]
     obtain⟨l,hrun,hl⟩:=hres;refine wpList_step fun K' hK=> ?_
     rw[if_pos hw];simp only[Oper.wp,hrun,Oper.upon];refine hK _ _ (hk _ _ _ hR (oI hput hF ?_));cases ok' with
     |false=>exact V9 E ag hag hl
     |true=>
      refine bk.tp [Fz ag l,.bool (jQ K m k0).isSome] _ rfl (fun j v a h1 h2=> ?_)
      match j with
      |0=>simp at h1 h2;subst h1;subst h2;exact V9 E ag hag hl
      |1=>simp at h1 h2;subst h1;subst h2;exact .one _ _ (.pv _ _ (.s _ rfl))
      |j+2=>simp at h1
    ·cases he
   ·cases he
  ·cases he
 ·cases he
theorem uMl(id:Nat){m:List (κ×α)}{k0:κ}(z:α)(kt et:TypeId)(ok:Bool){f:α→Option β}
  (k:∀u,some ((jQ K m k0).getD z)=some u→GG P n n0 lz an r Q (f u) (PG n (lkA ok (Zu E ag u) (jQ K m k0).isSome) (run P n an s).st none (run P n an s)))
  (he:Qo P (run P n an s)=some (id,K.enc k0,kt,et,ok):=by kernel_rfl)(ho:(run P n an s).st[id]? =some (vM K E ag m):=by kernel_rfl)
  (hs:Kk (run P n an s)=true:=by kernel_rfl)(hzo:zOk P ag et (E.cells z)=true:=by kernel_rfl)(hag:ag=true∨E.sz=1:=by first|exact .inl rfl|exact .inr rfl)(hkt:P.underlying kt=some K.desc:=by kernel_rfl):GG P n n0 lz an r Q (am (some ((jQ K m k0).getD z)) f) s:=
 ⟨fun h=>dn (an:=an) (O4 K E ag id m k0 z kt et ok hag hs he hkt hzo ho ((k _ rfl).go h))⟩
def aba(P:Program)(s:SS):Option (Nat×Value×AV×TypeId):=match s.ks with
 | .o ops (o::_)::_=>(match fx ops o s.fr with
  |some true=>(match o.dst,o.op with
   |none,.mapUpdate t x i y=>(match P.underlying t with
    |some (.map kt et)=>(match rv s.fr x,rv s.fr i with
     | .one (.mp id),.one (.pv (.s v))=>some (id,v,rv s.fr y,kt)
     |_,_=>none)
    |_=>none)
   |_,_=>none)
  |_=>none)
 |_=>none
theorem T2(id:Nat)(m:List (κ×α))(k0:κ)(u:α)(kt:TypeId)(hag:ag=true∨E.sz=1)(hs:Kk s=true)(he:aba P s=some (id,K.enc k0,Zu E ag u,kt))(hkt:P.underlying kt=some K.desc)
  (ho:s.st[id]? =some (vM K E ag m))(k:XK P n n0 lz Q (PG n .j (s.st.set id (vM K E ag (lj K m k0 u))) none s)):XK P n n0 lz Q s:=by
 refine QC hs (fun ops o l Q' fr' hks hput hk=> ?_) k;obtain⟨ks,fr,st,kn⟩:=s;obtain⟨ks',hks⟩:=hks;simp only at hks;subst hks;simp only[aba]at he;split at he
 ·rename_i hg;split at he
  ·rename_i t x i y hdst hop;split at he
   ·rename_i kt' et' hu;split at he
    ·rename_i id' v hx hi;simp only[eJ,sT]at he;obtain⟨rfl,rfl,hy,rfl⟩:=he;intro ι w a hR hF;have h1:=dL hF x;rw[hx]at h1;obtain⟨b,hv,hid,hb⟩:=VN h1;have h2:=dL hF i;rw[hi]at h2;have hiv:=cn h2;have h3:=dL hF y;rw[hy]at h3;obtain⟨el,hyv,hel⟩:=Z0 E ag hag h3;obtain⟨b',o',vs,e1,e2,⟨e3,rfl⟩,e4⟩:=hR.obj id' _ ho;rw[hb]at e1;cases e1;have hw:=gj hg hF;have hbl:=eW e2;obtain⟨vs',g1,g2⟩:=VG K E ag m vs el k0 u e4 hel;have hrun:(execOp a.eval o).run P w= .ok .skip {w with heap:=w.heap.setIfInBounds b (Bo K Xe (lj K (MV E.sz ag (sP m) vs) k0 (Fz ag el)))}:=by
      have hpos:=Ky K (MV E.sz ag (sP m) vs) k0;have hf:=OF (P:=P) K Xe hkt (MV E.sz ag (sP m) vs) k0 w;simp only[execOp,hop,hv,hiv,hyv,Instr.mapUpdate];cases hp:BE K (MV E.sz ag (sP m) vs) k0 with
      |none=>
       rw[hp]at hf;have e3:=Lo K Xe (MV E.sz ag (sP m) vs) k0 (Fz ag el) 0 hp;have e4:=ER K (MV E.sz ag (sP m) vs) k0 (Fz ag el) hp;simp[run_underlying hu,getObj,setObj,Sem.run,e2,Bo,K.flat P _ _ k0 w hkt,hf,Result.andThen,e3,e4,Nw]
      |some j=>
       rw[hp]at hpos hf;cases hq:jQ K (MV E.sz ag (sP m) vs) k0 with
       |none=>simp[hq]at hpos
       |some u'=>
        rw[hq]at hf;obtain⟨e,g1,⟨k',g2,g3⟩,g4,g5⟩:=LA K Xe (MV E.sz ag (sP m) vs) k0 (Fz ag el) 0 j hp;have hs:=K.bits k0 k' g3;simp[run_underlying hu,getObj,setObj,Sem.run,e2,Bo,K.flat P _ _ k0 w hkt,hf,Result.andThen,g1,g2,Instr.keyThatStays,hs,g4,g5,Nw]
     have hwr:GE w {w with heap:=w.heap.setIfInBounds b (Bo K Xe (lj K (MV E.sz ag (sP m) vs) k0 (Fz ag el)))} b:=by
      refine⟨rfl,rfl,rfl,by simp,fun y hy=> ?_,fun c ty fz h=> ?_⟩
      ·simp[Array.getElem?_setIfInBounds,Ne.symm hy]
      ·rw[e2]at h;simp[Bo]at h
     have ha:cY.alive (vM K E ag m):=by simp[cY.alive,vM]
     have kk:=uv (body':=vM K E ag (lj K m k0 u)) ho ha hb hwr;have hO:vw ι {w with heap:=w.heap.setIfInBounds b (Bo K Xe (lj K (MV E.sz ag (sP m) vs) k0 (Fz ag el)))} (st.set id' (vM K E ag (lj K m k0 u))) id' (vM K E ag (lj K m k0 u)):=by
      refine⟨b,Bo K Xe (lj K (MV E.sz ag (sP m) vs) k0 (Fz ag el)),vs',hb,?_,⟨?_,by rw[←g2]⟩,?_⟩
      ·have:b<w.heap.size:=hbl;simp[Array.getElem?_setIfInBounds,this]
      ·have:=g1.1;rw[this,ZO]
      ·exact g1.map fun _ _ h=>kk.pure h
     have hR':=hR.set (body':=vM K E ag (lj K m k0 u)) ho ha hb hwr hO;refine wpList_step fun K' hK=> ?_
     rw[if_pos hw];simp only[Oper.wp,hrun,Oper.upon];refine hK _ _ (iE (fun e a w h=>h.trans (kk.weaken (fun _ _=>trivial))) (hk _ _ _ hR' ?_));have hfr:fr'=fr:=by
      rw[hdst]at hput;exact(Option.some.inj hput).symm
     rw[hdst,hfr];exact hF.mono' kk
    ·cases he
   ·cases he
  ·cases he
 ·cases he
theorem uMu(id:Nat){m:List (κ×α)}{k0:κ}{u:α}(kt:TypeId)
  (k:GG P n n0 lz an r Q T (PG n .j ((run P n an s).st.set id (vM K E ag (lj K m k0 u))) none (run P n an s)))
  (he:aba P (run P n an s)=some (id,K.enc k0,Zu E ag u,kt):=by kernel_rfl)(ho:(run P n an s).st[id]? =some (vM K E ag m):=by kernel_rfl)
  (hs:Kk (run P n an s)=true:=by kernel_rfl)(hag:ag=true∨E.sz=1:=by first|exact .inl rfl|exact .inr rfl)(hkt:P.underlying kt=some K.desc:=by kernel_rfl):GG P n n0 lz an r Q T s:=
 ⟨fun h=>dn (an:=an) (T2 K E ag id m k0 u kt hag hs he hkt ho (k.go h))⟩
end
end
end Go.SX
namespace Go.SX
open Go
variable {P:Program} {n n0:Nat} {lz an:List Nat} {Q Q1:QT} {α β:Type} {T x y:Option β} {r:β} {s:SS}
def aaV:Nat→Nat→List Nat→List Nat
 |0,_,a=>a
 |g+1,q,a=>bif Nat.beq q 1 then a else aaV g (Nat.div q 2) (Nat.mod q 2::a)
abbrev kP(fn:Func)(q m:Nat):List It:=kS fn (aaV 99 q []) m
abbrev cP(fn:Func)(q:Nat):Code:=cd fn (aaV 99 q [])
theorem cu(fn:Func)(q m:Nat)(h:∀K:KP n n0 lz,(∀{γ:Type} {T1:Option γ} {r1:γ} {f:Fr} {st:St},T1=some r1→GG P n n0 lz an r1 Q T1 ⟨kP fn q m,f,st,[]⟩→K.p f st)→GG P n n0 lz an r (pU K.p (QK P n n0 lz (kP fn q m) Q)) T (tkS (kP fn q m) (run P n an s)))
 (he:N2 (kP fn q m) (run P n an s).ks=kP fn q m:=by kernel_rfl)(ht:BL (kP fn q m)=true:=by kernel_rfl):GG P n n0 lz an r Q T s:=uQ _ h he ht
theorem kT(fn:Func)(q m:Nat)(A:Option β)(fr:Fr)(st:St)(g:GG P n n0 lz an r Q A ⟨kP fn q m,fr,st,[]⟩)(h:∀K:KP n n0 lz,(A=some r→K.p fr st)→GG P n n0 lz an r (pU K.p (QK P n n0 lz (kP fn q m) Q)) T (tkS (kP fn q m) (run P n an s)))
 (he:N2 (kP fn q m) (run P n an s).ks=kP fn q m:=by kernel_rfl)(ht:BL (kP fn q m)=true:=by kernel_rfl):GG P n n0 lz an r Q T s:=uQ _ (fun K k=>h K fun hA=>k hA g) he ht
theorem gc(fn:Func)(q m:Nat)(h:∀(R:Nat→KP n n0 lz),(∀{γ:Type} {T1:Option γ} {r1:γ} {j:Nat} {f:Fr} {st:St},T1=some r1→GG P n n0 lz an r1 (pU (R j).p (QK P n n0 lz (kP fn q m) Q)) T1 ⟨[.c (cP fn (2*q))],f,st,[]⟩→(R (j+1)).p f st)→
  T=some r→(R aH).p (run P n an s).fr (run P n an s).st)
 (he:lpQ (run P n an s)=some (cP fn (2*q),kP fn q m):=by kernel_rfl):GG P n n0 lz an r Q T s:=uO _ _ h he
theorem uz{fn:Func}{rv:β→AV}{v:β}(h1:exE (run P n an s)=some .ret:=by kernel_rfl)(he:rsQ P fn (run P n an s) (rv v)=some (rv v):=by kernel_rfl):GG P n n0 lz an r (Qx P fn rv r) (some v) s:=uR .ret (xF he) h1
theorem jX{R R':Fr→St→Prop}{k k':List It}{fn:Func}{rv:β→AV}{v:β}(h1:exE (run P n an s)=some .ret:=by kernel_rfl)(he:rsQ P fn (run P n an s) (rv v)=some (rv v):=by kernel_rfl):
 GG P n n0 lz an r (pU R (QK P n n0 lz k (pU R' (QK P n n0 lz k' (Qx P fn rv r))))) (some v) s:=uR .ret (xN (xN (xF he))) h1
theorem aV{α:Type}{o:Option α}{f:α→Option β}{g:Nat}{avs:List AV}{rv:α→AV}(c:CT P g avs o rv)(k:∀v,GG P n n0 lz an r Q (f v) (HG n (rv v) (run P n an s)))
 (he:clS P (run P n an s)=some (g,avs):=by kernel_rfl)(hr:∀v,At (rv v)=true:=by intro v;kernel_rfl):GG P n n0 lz an r Q (am o f) s:=uP c (fun v _=>k v) he hr
theorem dS(E:ub α){xs:List α}{i:Int}{f:α→Option β}(k:∀e,GG P n n0 lz an r Q (f e) (HG n (.one (.pv (.rp [E.cells e] 0 0))) (run P n an s)))
 (he:We P (run P n an s)=some (E.els xs,i,E.sz):=by kernel_rfl):GG P n n0 lz an r Q (am (at? xs i) f) s:=uL E (fun e _=>k e) he
theorem uI{m:Nat→Prop}(z:m 0)(t:∀k,m k→m (k+1)):∀k,m k
 |0=>z
 |k+1=>t k (uI z t k)
abbrev vQ(q:Nat):AV:= .one (.pt q 0 0 0)
abbrev vR(x:List PV):AV:= .one (.pv (.rp [x] 0 0))
end Go.SX
namespace Go.SX
open Go
structure pM where
 year:Int
 month:Int
 day:Int
 hour:Int
 minute:Int
 second:Int
 deriving DecidableEq
structure lr where
 month:Int
 week:Int
 weekday:Int
 minute:Int
 deriving DecidableEq
structure iY where
 name:ByteArray
 offset:Int
 summer:Int
 start:lr
 stop:lr
 deriving DecidableEq
structure bw where
 neg:Bool
 size:Int×Int×Int×Int
 deriving DecidableEq
structure eC where
 leaves:Int
 deriving DecidableEq
structure aT where
 kind:Int
 param:Int
 deriving DecidableEq
structure dj where
 below:Bool
 d:List Int
 deriving DecidableEq
structure mR(α:Type) where
 id:Int
 name:ByteArray
 need:Bool
 type:α
structure al where
 kind:Int
 scale:Int
 fields:List (mR al)
abbrev ae:=mR al
structure ac where
 kind:Int
 n:Int
 scale:Int
 s:ByteArray
 items:List ac
mutual
def al.cells:al→List PV
 |⟨k,s,fs⟩=>[pi k,pi s,.ro (al.fcells fs)]
def al.fcells:List (mR al)→List (List PV)
 |[]=>[]
 |f::l=>al.fcell f::al.fcells l
def al.fcell:mR al→List PV
 |⟨i,n,q,t⟩=>pi i:: .s (.string n):: .s (.bool q)::al.cells t
end
mutual
def ac.cells:ac→List PV
 |⟨k,n,sc,s,it⟩=>[pi k,pi n,pi sc,.s (.string s),.ro (ac.lcells it)]
def ac.lcells:List ac→List (List PV)
 |[]=>[]
 |v::l=>ac.cells v::ac.lcells l
end
theorem al.fcells_eq:∀l:List (mR al),al.fcells l=l.map al.fcell
 |[]=>rfl
 |f::l=>by rw[al.fcells,al.fcells_eq l];rfl
theorem ac.lcells_eq:∀l:List ac,ac.lcells l=l.map ac.cells
 |[]=>rfl
 |f::l=>by rw[ac.lcells,ac.lcells_eq l];rfl
abbrev VY(f:ae):List PV:=[pi f.id,.s (.string f.name),.s (.bool f.need),pi f.type.kind,pi f.type.scale,.ro (al.fcells f.type.fields)]
abbrev KD(v:ac):List PV:=[pi v.kind,pi v.n,pi v.scale,.s (.string v.s),.ro (ac.lcells v.items)]
theorem Ts:al.fcell=VY:=funext fun⟨_,_,_,⟨_,_,_⟩⟩=>rfl
theorem Hn:ac.cells=KD:=funext fun⟨_,_,_,_,_⟩=>rfl
def af:ub ae:=⟨6,VY,al.fcells,fun l=>by rw[al.fcells_eq,Ts],fun _=>rfl⟩
def ah:ub ac:=⟨5,KD,ac.lcells,fun l=>by rw[ac.lcells_eq,Hn],fun _=>rfl⟩
def EB:ub iY:= .of 11 (fun x=>[.s (.string x.name),pi x.offset,pi x.summer,pi x.start.month,pi x.start.week,pi x.start.weekday,pi x.start.minute,pi x.stop.month,pi x.stop.week,pi x.stop.weekday,pi x.stop.minute]) (fun _=>rfl)
structure bi where
 source:Int
 transform:aT
 deriving DecidableEq
structure cg where
 fields:List bi
 deriving DecidableEq
structure bB where
 id:Int
 nulls:Int
 min:ac
 max:ac
structure mI where
 file:ByteArray
 rows:List Int
 deriving DecidableEq
structure cX where
 schema:Int
 ids:List Int
 keys:List (List ac)
 seq:Int
structure aj where
 name:ByteArray
 schema:Int
 spec:Int
 part:List ac
 rows:Int
 seq:Int
 stats:List bB
structure lq where
 name:ByteArray
 branch:Bool
 snapshot:Int
 deriving DecidableEq
structure ow where
 name:ByteArray
 value:ByteArray
 deriving DecidableEq
structure aw where
 id:Int
 parent:Int
 seq:Int
 schema:Int
 time:Int
 kind:Int
 files:List aj
 dat:List mI
 dby:List cX
structure ax where
 schemas:List (List ae)
 specs:List cg
 nextField:Int
 nextSeq:Int
 nextSnap:Int
 purges:Int
 snapshots:List aw
 refs:List lq
 props:List ow
structure bA where
 id:Int
 low:ac
 high:ac
abbrev P8(x:bi):List PV:=[pi x.source,pi x.transform.kind,pi x.transform.param]
def aC:ub bi:= .of 3 P8 (fun _=>rfl)
def fU:ub cg:= .of 1 (fun x=>[.ro (aC.els x.fields)]) (fun _=>rfl)
abbrev PZ(x:bB):List PV:=[pi x.id,pi x.nulls,pi x.min.kind,pi x.min.n,pi x.min.scale,.s (.string x.min.s),.ro (ah.els x.min.items),pi x.max.kind,pi x.max.n,pi x.max.scale,.s (.string x.max.s),.ro (ah.els x.max.items)]
def cA:ub bB:= .of 12 PZ (fun _=>rfl)
def fL:ub mI:= .of 2 (fun x=>[.s (.string x.file),.ro (eI.els x.rows)]) (fun _=>rfl)
def eH:ub cX:= .of 4 (fun x=>[pi x.schema,.ro (eI.els x.ids),.ro ((eL ah).els x.keys),pi x.seq]) (fun _=>rfl)
abbrev Sl(x:aj):List PV:=[.s (.string x.name),pi x.schema,pi x.spec,.ro (ah.els x.part),pi x.rows,pi x.seq,.ro (cA.els x.stats)]
def be:ub aj:= .of 7 Sl (fun _=>rfl)
def oS:ub lq:= .of 3 (fun x=>[.s (.string x.name),.s (.bool x.branch),pi x.snapshot]) (fun _=>rfl)
def lE:ub ow:= .of 2 (fun x=>[.s (.string x.name),.s (.string x.value)]) (fun _=>rfl)
abbrev Ww(x:aw):List PV:=[pi x.id,pi x.parent,pi x.seq,pi x.schema,pi x.time,pi x.kind,.ro (be.els x.files),.ro (fL.els x.dat),.ro (eH.els x.dby)]
def aU:ub aw:= .of 9 Ww (fun _=>rfl)
def ju:ub bA:= .of 11 (fun x=>[pi x.id,pi x.low.kind,pi x.low.n,pi x.low.scale,.s (.string x.low.s),.ro (ah.els x.low.items),pi x.high.kind,pi x.high.n,pi x.high.scale,.s (.string x.high.s),.ro (ah.els x.high.items)]) (fun _=>rfl)
end Go.SX
namespace Go.SX
open Go Go.Shelf Go.Lib Go.Proofs Go.RowKit
theorem JB{ι:IM}{w:World}{st:St}:∀{us vs:List Value},vs.length=us.length→(∀(j:Nat) v a,vs[j]? =some v→(us.map fun u=>AV.one (.pv (.s u)))[j]? =some a→bk ι w st v a)→vs=us
 |[],[],_,_=>rfl
 |[],_::_,h,_=>by simp at h
 |_::_,[],h,_=>by simp at h
 |u::us,v::vs,h,hA=>by
  have h0:=cn (hA 0 v _ rfl rfl);subst h0;rw[JB (us:=us) (vs:=vs) (by simpa using h) (fun j x a h1 h2=>hA (j+1) x a (by simpa using h1) (by simpa using h2))]
theorem PC.below{P:Program}{f:Nat}{us:List Value}{v:Value}(hv:xx v=true)
  (h:∀w:World,(∀(b:Nat) (l:List Value),Px b=some l→GAt w b l)→Calls P f us.toArray w fun e w'=>e= .returned v∧Below w.heap.size w w'):
  PC P f (us.map fun u=> .one (.pv (.s u))) (.one (.pv (.s v))):=by
 intro ι w vs hR hA;obtain rfl:=JB (by simpa using hA.1) hA.2;refine(h w (fun b l hb=>(hR.gl b l hb).2.2)).mono ?_;rintro e w' ⟨rfl,hb⟩;have hx:xS w w':=⟨hb.os,hb.tape,hb.output,hb.size,fun b hlt=>hb.block b hlt⟩
 exact⟨v,_,[],ι,rfl,⟨rfl,rfl⟩,hR.ext hx,.one _ _ (.pv _ _ (.s _ hv)),(hx.keeps ι []).weaken (fun _ _=>trivial)⟩
theorem XF{g3 g4:Nat}{w:World}(h3:∀(i:Nat) x,Fj[i]? =some x→w.cell? ⟨g3,i,none⟩=some x)(h4:∀(i:Nat) x,Pu[i]? =some x→w.cell? ⟨g4,i,none⟩=some x):Utf8Tabs g3 g4 w:=by
 refine⟨fun c hc=>h3 c _ ?_,fun i hi=>⟨h4 _ _ ?_,h4 _ _ ?_⟩⟩
 ·simp[Fj,hc]
 ·simp[Pu,show 2*i<32 by omega]
 ·simp[Pu,show 2*i+1<32 by omega,show(2*i+1)/2=i by omega]
theorem XP{g3 g4:Nat}{w:World}(h:Utf8Tabs g3 g4 w):(∀(i:Nat) x,Fj[i]? =some x→w.cell? ⟨g3,i,none⟩=some x)∧(∀(i:Nat) x,Pu[i]? =some x→w.cell? ⟨g4,i,none⟩=some x):=by
 refine⟨fun i x hx=> ?_,fun i x hx=> ?_⟩
 ·by_cases hi:i<256
  ·simp[Fj,hi]at hx;subst hx;exact h.1 i hi
  ·simp[Fj,hi]at hx
 ·by_cases hi:i<32
  ·simp only[Pu,List.getElem?_map,List.getElem?_range hi,Option.map_some,eJ]at hx;by_cases e:i%2=0
   ·rw[if_pos e]at hx;have:=(h.2 (i/2) (by omega)).1;rw[show 2*(i/2)=i by omega,hx]at this;exact this
   ·rw[if_neg e]at hx;have:=(h.2 (i/2) (by omega)).2;rw[show 2*(i/2)+1=i by omega,hx]at this;exact this
  ·simp[Pu,hi]at hx
theorem Kx{P:Program}{ρ:Ren}(L:Lays.n196 P ρ)(h3:Px (ρ.g 3)=some Fj)(h4:Px (ρ.g 4)=some Pu)(s:ByteArray)(hs:s.size≤9223372036854775807):
  PC P (ρ.f 196) [.one (.pv (.s (.string s)))] (.one (.pv (.s (.bool (validD s.data.toList))))):=
 PC.below (us:=[.string s]) rfl fun w hw=>Go.Proofs.Any.utf8_ValidString L s w hs (XF (hw _ _ h3).1 (hw _ _ h4).1)
end Go.SX
namespace Go.SX
open Go
section
variable {P:Program} {n n0:Nat} {lz:List Nat} {Q:QT} {fr:Fr} {st:St} {ops:Array Oper}
end
section
variable {P:Program} {n n0:Nat} {lz an:List Nat} {Q:QT} {β:Type} {T:Option β} {r:β} {s:SS}
end
section
variable {P:Program} {n n0:Nat} {lz an:List Nat} {α β:Type} {r:β} {Q:QT} {T:Option β} {s:SS}
end
structure zu where
 f:{H:Type}→DataW H→Nat
 one:∀{H:Type} (d:DataW H),1≤f d
 str:∀{H:Type} (b:List UInt8),b.length+1≤f (DataW.lit (H:=H) (.string b))
 sl:∀{H:Type} (e s:List (DataW H)),(e.map f).sum+1≤f (.slice e s)
 ag:∀{H:Type} (ps:List (DataW H)),(ps.map f).sum+1≤f (.agg ps)
abbrev Ol:Nat→Prop:=fun _=>False
def CR(w:World)(cs:List Value)(ps:List PV):Prop:=
 cs.length=ps.length∧∀(j:Nat) v p,cs[j]? =some v→ps[j]? =some p→jk Ol w v p
theorem CR.one{w:World}{v:Value}{p:PV}(h:jk Ol w v p):CR w [v] [p]:=by
 refine⟨rfl,fun j v' p' h1 h2=> ?_⟩;cases j with
 |zero=>simp at h1 h2;subst h1;subst h2;exact h
 |succ j=>simp at h1
theorem CR.nil{w:World}:CR w [] []:=⟨rfl,fun j v p h=>by simp at h⟩
theorem CR.app{w:World}{cs:List Value}{p q:List PV}{n:Nat}(h:CR w (cs.take n) p)(k:CR w (cs.drop n) q)(hn:p.length=n):CR w cs (p++q):=by
 have e:cs=cs.take n++cs.drop n:=(List.take_append_drop n cs).symm;refine⟨?_,fun j v x h1 h2=> ?_⟩
 ·have h1:=h.1;have h2:=k.1;rw[List.length_append,←h1,←h2,←List.length_append,←e]
 ·by_cases hj:j<n
  ·rw[E2 (by omega)]at h2;refine h.2 j v x ?_ h2;rw[List.getElem?_take,if_pos hj];exact h1
  ·rw[List.getElem?_append_right (by omega)]at h2;refine k.2 (j-n) v x ?_ (by rw[←hn];exact h2);rw[List.getElem?_drop,show n+(j-n)=j by omega];exact h1
section
variable (B:zu) (P:Program)
def qs(N:Nat)(t:TypeId){α:Type}(cells:α→List PV)(wf:α→Prop)(size:α→Nat):Prop:=
 ∀⦃H:Type⦄ ⦃enc:TypeId×Value→H⦄ ⦃w:World⦄ ⦃base:Nat⦄ ⦃spare:Nat→Bool⦄ ⦃held:Bool⦄ ⦃nf:Nat⦄ ⦃cs:List Value⦄ ⦃d:DataW H⦄ ⦃ps:List MemPlace⦄,
  DataW.trod enc P w base spare held nf t cs=some (d,ps)→B.f d≤N→∃x,CR w cs (cells x)∧wf x∧size x≤B.f d
variable {B P}
theorem qs.int{N:Nat}{t:TypeId}{k:IntKind}(ht:P.underlying t=some (.int k)):qs B P N t (fun n:Int=>[.s (.int k n)]) (fun n=>k.min≤n∧n≤k.max) (fun _=>1):=by
 intro H enc w base spare held nf cs d ps h hN;obtain⟨n,rfl,hx,hw⟩:=DataW.trod_int ht h;refine⟨n,.one (.s _ rfl),?_,B.one d⟩;simpa [Lit.wf]using hw
theorem qs.bool{N:Nat}{t:TypeId}(ht:P.underlying t=some .bool):qs B P N t (fun b:Bool=>[.s (.bool b)]) (fun _=>True) (fun _=>1):=by
 intro H enc w base spare held nf cs d ps h hN;obtain⟨b,rfl,hx⟩:=DataW.trod_bool ht h;exact⟨b,.one (.s _ rfl),trivial,B.one d⟩
theorem qs.str{N:Nat}{t:TypeId}(ht:P.underlying t=some .string):qs B P N t (fun s:ByteArray=>[.s (.string s)]) (fun _=>True) (fun s=>s.size+1):=by
 intro H enc w base spare held nf cs d ps h hN;obtain⟨s,rfl,hx,hs⟩:=DataW.trod_string ht h;simp only[sT]at hx;obtain⟨rfl,rfl⟩:=hx;refine⟨s,.one (.s _ rfl),trivial,?_⟩;have:=B.str (H:=H) s.data.toList;simpa using this
theorem YX{w:World}{a:Addr}{v:Value}(h:w.cell? a=some v):a.block<w.heap.size:=by
 unfold World.cell? at h;split at h
 ·rename_i h1;exact(Array.getElem?_eq_some_iff.1 h1).1
 ·cases h
theorem abh{α:Type}{f:α→Nat}{l:List α}{x:α}(h:x∈l):f x≤(l.map f).sum:=by
 induction l with
 |nil=>cases h
 |cons y l ih=>
  simp only[List.map_cons,List.sum_cons];rcases List.mem_cons.1 h with rfl|h
  ·omega
  ·have:=ih h;omega
theorem OR{α β:Type}{q:Nat→α→β→Prop}:∀{l:List α},(∀(i:Nat) a,l[i]? =some a→∃b,q i a b)→∃bs:List β,bs.length=l.length∧∀(i:Nat) a b,l[i]? =some a→bs[i]? =some b→q i a b:=by
 intro l;induction l generalizing q with
 |nil=>intro _;exact⟨[],rfl,fun i a b h=>by simp at h⟩
 |cons x l ih=>
  intro h;obtain⟨b0,h0⟩:=h 0 x rfl;obtain⟨bs,hl,hb⟩:=ih (q:=fun i=>q (i+1)) (fun i a hi=>h (i+1) a (by simpa using hi));refine⟨b0::bs,by simp[hl],fun i a b h1 h2=> ?_⟩;cases i with
  |zero=>simp at h1 h2;subst h1;subst h2;exact h0
  |succ i=>exact hb i a b (by simpa using h1) (by simpa using h2)
theorem Lp{α β:Type}{f:α→Nat}{g:β→Nat}:∀{l:List α} {m:List β},m.length=l.length→(∀(i:Nat) a b,l[i]? =some a→m[i]? =some b→g b≤f a)→(m.map g).sum≤(l.map f).sum
 |[],[],_,_=>by simp
 |[],_::_,h,_=>by simp at h
 |_::_,[],h,_=>by simp at h
 |a::l,b::m,h,hk=>by
  have h0:=hk 0 a b rfl rfl;have:=Lp (f:=f) (g:=g) (l:=l) (m:=m) (by simpa using h) (fun i x y h1 h2=>hk (i+1) x y (by simpa using h1) (by simpa using h2));simp only[List.map_cons,List.sum_cons];omega
theorem qs.slice{N:Nat}{t e:TypeId}{α:Type}{cells:α→List PV}{wf:α→Prop}{size:α→Nat}(ht:P.underlying t=some (.slice e))(hc:∀x,(cells x).length=P.cellsOf e)
  (hpos:0<P.cellsOf e)(h:∀N',N'<N→qs B P N' e cells wf size):
  qs B P N t (fun xs:List α=>[.ro (xs.map cells)]) (fun xs=>∀x∈xs,wf x) (fun xs=>(xs.map size).sum+1):=by
 intro H enc w base spare held nf cs d ps hd hN;rcases DataW.trod_slice ht hd with⟨rfl,hx⟩ |⟨a,len,cap,elems,rest,n,_,rfl,hx,hb,hl,hm,hlen,hel,_,_⟩
 ·exact⟨[],.one .nl,by simp,by simpa using B.one d⟩
 simp only[sT]at hx;obtain⟨rfl,rfl⟩:=hx;have hsum:=B.sl (elems.map (·.1)) (rest.map (·.1));have hel':∀(i:Nat) z,elems[i]? =some z→∃x:α,(∃cs',w.cells? base (a.add (i*P.cellsOf e)) (P.cellsOf e)=some cs'∧CR w cs' (cells x))∧wf x∧size x≤B.f z.1:=by
  intro i z hz;have hi:i<len:=by rw[←hlen];exact(tz.1 hz).1
  have hk:=hel i hi;rw[hz]at hk;obtain⟨cs',h1,h2⟩:=Option.bind_eq_some_iff.1 hk;have hle:B.f z.1≤((elems.map (·.1)).map B.f).sum:=abh (f:=B.f) (List.mem_map.2 ⟨z,List.mem_of_getElem? hz,rfl⟩);obtain⟨x,k1,k2,k3⟩:=h (B.f z.1) (by omega) (d:=z.1) (ps:=z.2) h2 (iO _);exact⟨x,⟨cs',h1,k1⟩,k2,k3⟩
 obtain⟨xs,hxl,hxs⟩:=OR hel';have hxlen:xs.length=len:=by omega
 have key:∀(i:Nat) x,xs[i]? =some x→∃z,elems[i]? =some z∧(∃cs',w.cells? base (a.add (i*P.cellsOf e)) (P.cellsOf e)=some cs'∧CR w cs' (cells x))∧wf x∧size x≤B.f z.1:=by
  intro i x hx;have hi:i<elems.length:=by rw[←hxl];exact(tz.1 hx).1
  exact⟨_,dK hi,hxs i _ x (dK hi) hx⟩
 refine⟨xs,.one ?_,?_,?_⟩
 ·have hcell:∀(i:Nat) (ee:List PV) (j:Nat) c,(xs.map cells)[i]? =some ee→ee[j]? =some c→∃v,w.cell? (a.add (i*P.cellsOf e+j))=some v∧jk Ol w v c:=by
   intro i ee j c h1 h2;rw[List.getElem?_map,yT]at h1;obtain⟨x,hx,rfl⟩:=h1;obtain⟨z,_,⟨cs',hcs,hrd⟩,_,_⟩:=key i x hx;obtain⟨_,hcl,hcc⟩:=World.cells?_some hcs;have hj:j<P.cellsOf e:=by rw[←hc x];exact(tz.1 h2).1
   have:=hcc j hj;rw[Cb]at this;have hget:cs'[j]? =some cs'[j]:=dK (by omega);exact⟨cs'[j],this.trans hget,hrd.2 j _ c hget h2⟩
  have:=jk.ro (μ:=Ol) (w:=w) a cap (P.cellsOf e) (xs.map cells) (fun i j=>(w.cell? (a.add (i*P.cellsOf e+j))).getD undef) (by simpa [hxlen]using hl)
   (fun ee he=>by obtain⟨x,_,rfl⟩:=List.mem_map.1 he;exact hc x)
   (fun hne=>by
    refine⟨?_,fun h=>h⟩;cases xs with
    |nil=>simp at hne
    |cons x0 r0=>
     have h0:0<(cells x0).length:=by rw[hc];exact hpos
     obtain⟨v,hv,_⟩:=hcell 0 (cells x0) 0 _ rfl (dK h0);have:=YX hv;rwa [BX]at this)
   (fun i ee j c h1 h2=>by obtain⟨v,hv,_⟩:=hcell i ee j c h1 h2;simp[hv])
   (fun i ee j c h1 h2=>by obtain⟨v,hv,hr⟩:=hcell i ee j c h1 h2;simpa [hv]using hr)
  rw[List.length_map,hxlen]at this;exact this
 ·intro x hx;obtain⟨i,hi,rfl⟩:=List.getElem_of_mem hx;obtain⟨_,_,_,k,_⟩:=key i _ (dK hi);exact k
 ·have:(xs.map size).sum≤((elems.map (·.1)).map B.f).sum:=by
   rw[List.map_map];exact Lp (f:=B.f∘Prod.fst) (g:=size) hxl (fun i z x h1 h2=>(hxs i z x h1 h2).2.2)
  show(xs.map size).sum+1≤_;omega
def Et(B:zu)(P:Program)(N:Nat)(off:Nat)(fs:List Field){α:Type}(cells:α→List PV)(wf:α→Prop)(size:α→Nat):Prop:=
 ∀⦃H:Type⦄ ⦃enc:TypeId×Value→H⦄ ⦃w:World⦄ ⦃base:Nat⦄ ⦃spare:Nat→Bool⦄ ⦃held:Bool⦄ ⦃n:Nat⦄ ⦃cs:List Value⦄ ⦃xs:List (DataW H×List MemPlace)⦄,
  xs.length=fs.length→(∀(i:Nat) f,fs[i]? =some f→DataW.trod enc P w base spare held n f.type ((cs.drop f.offset).take (P.cellsOf f.type))=xs[i]?)→((xs.map (·.1)).map B.f).sum≤N→
  cs.length=off+(fs.map fun f=>P.cellsOf f.type).sum→
  ∃x,CR w (cs.drop off) (cells x)∧wf x∧size x≤((xs.map (·.1)).map B.f).sum
theorem Et.nil{N off:Nat}:Et B P N off [] (fun _:Unit=>[]) (fun _=>True) (fun _=>0):=by
 intro H enc w base spare held n cs xs hl h hN hc;refine⟨(),?_,trivial,Nat.zero_le _⟩;have:cs.drop off=[]:=by simp at hc⊢;omega
 rw[this];exact .nil
theorem Et.cons{N off:Nat}{f:Field}{fs:List Field}{α β:Type}{c1:α→List PV}{w1:α→Prop}{s1:α→Nat}{c2:β→List PV}{w2:β→Prop}{s2:β→Nat}(ho:f.offset=off)(hc:∀x,(c1 x).length=P.cellsOf f.type)
  (h:qs B P N f.type c1 w1 s1)(k:Et B P N (off+P.cellsOf f.type) fs c2 w2 s2):Et B P N off (f::fs) (fun p:α×β=>c1 p.1++c2 p.2) (fun p=>w1 p.1∧w2 p.2) (fun p=>s1 p.1+s2 p.2):=by
 intro H enc w base spare held n cs xs hl hx hN hlen
 match xs,hl with
 |z::zs,hl=>
  simp only[List.map_cons,List.sum_cons]at hN hlen⊢;have h0:=hx 0 f rfl;obtain⟨x,a1,a2,a3⟩:=h (d:=z.1) (ps:=z.2) h0 (by omega);obtain⟨y,b1,b2,b3⟩:=k (xs:=zs) (cs:=cs) (by simpa using hl) (fun i g hg=>hx (i+1) g (by simpa using hg)) (by omega) (by omega);refine⟨(x,y),?_,⟨a2,b2⟩,by simp only;omega⟩;rw[ho]at a1;refine CR.app (n:=P.cellsOf f.type) a1 ?_ (hc x);rw[List.drop_drop];exact b1
theorem qs.struct{N:Nat}{t:TypeId}{fs:Array Field}{α β:Type}{c:β→List PV}{wf:β→Prop}{s:β→Nat}{cells:α→List PV}{wf':α→Prop}{size:α→Nat}(ht:P.underlying t=some (.struct fs))(hsz:P.cellsOf t=0+(fs.toList.map fun f=>P.cellsOf f.type).sum)
  (h:∀N',N'<N→Et B P N' 0 fs.toList c wf s)(mk:β→α)(h1:∀y,cells (mk y)=c y)(h2:∀y,wf y→wf' (mk y))(h3:∀y,size (mk y)≤s y+1):qs B P N t cells wf' size:=by
 intro H enc w base spare held nf cs d ps hd hN;obtain⟨xs,n,_,hx,hlen,hxl,hf⟩:=DataW.trod_struct ht hd;simp only[sT]at hx;obtain⟨rfl,rfl⟩:=hx;have hag:=B.ag (xs.map (·.1));obtain⟨y,a1,a2,a3⟩:=h _ (show((xs.map (·.1)).map B.f).sum<N by omega) (xs:=xs) (cs:=cs) (by simpa using hxl) (fun i f hi=>hf i f (by simpa using hi)) (iO _) (hlen.trans hsz);refine⟨mk y,?_,h2 y a2,?_⟩
 ·rw[h1];simpa using a1
 ·have:=h3 y;omega
theorem qs.conv{N:Nat}{t:TypeId}{α:Type}{c c':α→List PV}{wf wf':α→Prop}{s s':α→Nat}(h:qs B P N t c wf s)(h1:∀x,c' x=c x)(h2:∀x,wf x→wf' x)(h3:∀x,s' x≤s x):qs B P N t c' wf' s':=by
 intro H enc w base spare held nf cs d ps hd hN;obtain⟨x,a1,a2,a3⟩:=h hd hN;exact⟨x,by rw[h1];exact a1,h2 x a2,Nat.le_trans (h3 x) a3⟩
end
theorem jk.toVRel{w:World}{v:Value}{p:PV}(h:jk Ol w v p):ej ⟨fun _=>none,fun _=>False⟩ w [] v (.pv p):=
 .pv v p (h.mono (iO _) (fun b _ _=>⟨rfl,fun hm=>by
  rcases hm with hm|⟨id,o,h1,_,_⟩
  ·exact hm
  ·simp at h1⟩))
theorem XJ{w:World}{v:Value}{p:PV}(h:CR w [v] [p]):bk ⟨fun _=>none,fun _=>False⟩ w [] v (.one (.pv p)):= .one _ _ (h.2 0 v p rfl rfl).toVRel
theorem abK{w:World}{cs:List Value}{ps:List PV}(h:CR w cs ps):bk ⟨fun _=>none,fun _=>False⟩ w [] (.agg cs.toArray) (.ag (ps.map .pv)):=by
 refine .ag _ _ ⟨by simpa using h.1,fun j v c h1 h2=> ?_⟩;rw[List.getElem?_map,yT]at h2;obtain⟨p,h2,rfl⟩:=h2;exact(h.2 j v p h1 h2).toVRel
theorem C5{B:zu}{P:Program}{H:Type}{enc:TypeId×Value→H}{w:World}{base b0:Nat}{spare:Nat→Bool}{held:Bool}{r:Reach}{t:TypeId}{v:Value}{d:DataW H}{ps:List MemPlace}{α:Type}{cells:α→List PV}{wf:α→Prop}{size:α→Nat}
  (h:∀N,qs B P N t cells wf size)(hval:Value.okWide P w r b0 t v)(hd:DataW.Trod enc P w base spare held t v d ps):
  ∃x,CR w v.cells.toList (cells x)∧wf x∧size x≤B.f d:=by
 obtain⟨nf,hd⟩:=hd;exact h _ hd (iO _)
theorem Ua{P:Program}{w:World}{r:Reach}{b0:Nat}{t:TypeId}{v:Value}{fs:Array Field}(ht:P.underlying t=some (.struct fs))(hval:Value.okWide P w r b0 t v):v= .agg v.cells:=by
 simp only[Value.okWide,ht]at hval;obtain⟨cs,rfl,_⟩:=hval;rfl
theorem Kz{w:World}{v:Value}{ps:List PV}(hv:v= .agg v.cells)(h:CR w v.cells.toList ps):bk ⟨fun _=>none,fun _=>False⟩ w [] v (.ag (ps.map .pv)):=by
 have:=abK h;rw[hv];simpa [Value.cells]using this
theorem JF{w:World}{v:Value}{p:PV}(h:CR w v.cells.toList [p])(hv:∀cs,v≠.agg cs):bk ⟨fun _=>none,fun _=>False⟩ w [] v (.one (.pv p)):=by
 have e:v.cells= #[v]:=by cases v<;>first|rfl|exact absurd rfl (hv _)
 rw[e]at h;exact XJ h
theorem MW{P:Program}{w:World}{r:Reach}{b0:Nat}{t:TypeId}{v:Value}(ht:(match P.underlying t with|some (.int _)=>true|some .bool=>true|some .string=>true|some (.slice _)=>true|_=>false)=true)(hval:Value.okWide P w r b0 t v):∀cs,v≠.agg cs:=by
 rintro cs rfl;cases hu:P.underlying t with
 |none=>simp[hu]at ht
 |some d=>
  cases d<;>simp[hu]at ht<;>simp[Value.okWide,hu,Cell.okWide,Cell.ok]at hval
structure Qe(w w':World):Prop where
 os:w'.os=w.os
 output:w'.output=w.output
 size:w.heap.size≤w'.heap.size
 blk:∀b:Nat,b<w.heap.size→w'.heap[b]? =w.heap[b]?
theorem PC.call{P:Program}{f:Nat}{args:List AV}{r:AV}(h:PC P f args r){w:World}{vs:List Value}(hl:vs.length=args.length)(hA:∀(j:Nat) v a,vs[j]? =some v→args[j]? =some a→bk ⟨fun _=>none,fun _=>False⟩ w [] v a)(hg:∀(b:Nat) (l:List Value),Px b=some l→b<w.heap.size∧GAt w b l):
  Calls P f vs.toArray w fun e w'=>∃v ι',e= .returned v∧bk ι' w' [] v r∧Qe w w':=by
 refine(h ⟨fun _=>none,fun _=>False⟩ w vs ⟨fun id o h=>by simp at h,fun b h=>h.elim,fun b h=>fun h'=>h',fun id id' o o' b h=>by simp at h,fun b o h=>⟨fun hm=>hm.elim id (fun⟨_,_,h1,_⟩=>by simp at h1),hg b o h⟩⟩ ⟨hl,hA⟩).mono ?_;rintro e w' ⟨v,av,st',ι',rfl,⟨rfl,rfl⟩,hR,hv,k⟩;refine⟨v,ι',rfl,hv,k.os,k.output,k.size,fun b hb=>(k.blk b hb ?_).1⟩;rintro⟨id,o,h1,_⟩;simp at h1
theorem Qe.keptBut{w w':World}(k:Qe w w')(may:MemPlace→Prop):w.keptBut w' may:=by
 refine⟨k.os,k.output,fun i hi=> ?_⟩;rw[k.blk i hi];have:w.heap[i]? =some w.heap[i]:=Array.getElem?_eq_getElem hi;rw[this];cases w.heap[i]with
 |cells c t fr=>exact⟨rfl,rfl,rfl,fun _ _=>rfl⟩
 |map es clock=>exact .inr ⟨rfl,rfl⟩
 |_=>rfl
theorem Qe.frozen{w w':World}(k:Qe w w'){b off:Nat}(hb:b<w.heap.size):w'.frozen? ⟨b,off,none⟩=w.frozen? ⟨b,off,none⟩:=by
 simp[World.frozen?,k.blk b hb]
open Go.ChangeShapes Go.WideElems Go.WideShapes in
theorem LS{H:Type}{enc:TypeId×Value→H}{P:Program}{W W':World}(hl:laidOutB P=true)(k:Qe W W'){sp:Nat→Bool}:∀{ts:List TypeId} {vs:List Value} {ds:List (DataW H)} {ps:List MemPlace},(ts.all fun t=>P.readableRec t&&Nat.ble (t+1) P.types.size)=true→
  DataW.TrodAll enc P W 0 (fun _=>true) true ts vs ds ps→(∀p∈ps,p.block<W.heap.size)→(∀p∈ps,sp p.block=true)→DataW.TrodAll enc P W' 0 sp true ts vs ds ps
 |[],_,_,_,_,h,_,_=>by
  obtain⟨rfl,rfl,rfl⟩:=trodAll_nil h;exact rfl
 |t::ts,_,_,_,hr,h,hp,hs=>by
  obtain⟨v,vs1,d,ds1,a,b,rfl,rfl,rfl,h1,h2⟩:=trodAll_cons h;simp only[List.all_cons,iu]at hr;refine⟨a,b,Trod_stays hl hr.1.1 (CY hr.1.2) h1 (fun p hpa=> ?_) (fun p hpa=>hs p (by simp[hpa])),LS hl k hr.2 h2 (fun p hpa=>hp p (by simp[hpa])) (fun p hpa=>hs p (by simp[hpa])),rfl⟩;have:=hp p (by simp[hpa]);cases p with
  |cell b off=>exact cell?_same (k.blk b this)
  |map b=>exact k.blk b this
open Go.ChangeShapes Go.RowKit Go.WideShapes Go.ChangeAt in
theorem Th{H:Type}{enc:TypeId×Value→H}{P:Program}{f:Func}{s:ChangeSpec}{apart fresh handsOn again:Bool}{W W':World}{args:Array Value}{ds gs:List (DataW H)}{before:List MemPlace}
  (hW:DataW.Whole enc P f.params.toList s.vars apart W args.toList ds gs before)(hl:laidOutB P=true)(hr:(f.params.toList.all fun t=>P.readableRec t&&Nat.ble (t+1) P.types.size)=true)(k:Qe W W')
  (hvars:s.vars=[])(t:TypeId)(ht:f.resultTypes= #[t])(hb:P.underlying t=some .bool)(hsp:s.fn H ds={results:=[.lit (.bool true)],args:=ds}):
  s.post enc P f apart fresh handsOn again W args (.bool true) W':=by
 have hW':=hW;have hlt:∀p∈before,p.block<W.heap.size:=fun p hp=>hW.lt p hp
 obtain⟨p,q,hA,hV,rfl,hz,hn⟩:=hW';rw[hvars]at hV;obtain⟨rfl,rfl⟩:=trodVars_none hV;have hres:∀(b:Nat) (sp:Nat→Bool) (hd:Bool),DataW.TrodAll enc P W' b sp hd f.resultTypes.toList ((Value.bool true).resultList f.resultTypes.size) [.lit (.bool true)] []:=by
  intro b sp hd;rw[ht];exact trodAll_cons_mk (shut_bool hb _) trodAll_mk0
 simp only[List.append_nil]at*;have hargs:∀sp:Nat→Bool,(∀x∈p,sp x.block=true)→DataW.TrodAll enc P W' 0 sp true f.params.toList args.toList ds p:=fun sp hs=>LS hl k hr hA hlt hs
 have hold:∀x∈p,(fun b=>decide (b<W.heap.size)) x.block=true:=fun x hx=>by simpa using hlt x hx
 refine⟨ds,[],p,[],p,[],by simpa using hW,?_,?_,?_,k.keptBut _,fun _=>⟨?_,[.lit (.bool true)]++ds,[],p,⟨p,[],?_,?_,by simp,?_,hn⟩,?_⟩⟩
 ·simp only[List.append_nil,hsp];exact hres _ _ _
 ·simp only[List.append_nil,hsp];exact hargs _ hold
 ·simp only[List.append_nil,hsp,hvars];rfl
 ·exact ok_one ht rfl (okWide_bool_mk hb _)
 ·have:=trodAll_append (hargs (fun _=>true) (fun _ _=>rfl)) (hres 0 (fun _=>true) true);simpa using this
 ·rw[hvars];rfl
 ·intro b off hp;rw[k.frozen (b:=b) (off:=off) (hlt _ hp)];exact hz b off hp
 ·intro x hx _;exact hx
theorem X6{ι:IM}{w:World}{v:Value}{b:Bool}(h:bk ι w [] v (.one (.pv (.s (.bool b))))):v= .bool b:=by
 cases h with
 |one _ _ h=>
  cases h with
  |pv _ _ h=>cases h with|s=>rfl
def fieldsOf(P:Program)(t:TypeId):List Field:=match P.underlying t with
 |some (.struct fs)=>fs.toList
 |_=>[]
def jW(P:Program)(t:TypeId):Bool:=match P.underlying t with
 |some (.struct _)=>true
 |_=>false
def eT(P:Program)(t:TypeId)(i:Nat):Field:=(fieldsOf P t)[i]?.getD default
section
variable {B:zu} {P:Program}
theorem qs.structF{N:Nat}{t:TypeId}{L:List Field}{α β:Type}{c:β→List PV}{wf:β→Prop}{s:β→Nat}{cells:α→List PV}{wf':α→Prop}{size:α→Nat}(hu:jW P t=true)(hL:fieldsOf P t=L)(hsz:P.cellsOf t=0+(L.map fun f=>P.cellsOf f.type).sum)
  (h:∀N',N'<N→Et B P N' 0 L c wf s)(mk:β→α)(h1:∀y,cells (mk y)=c y)(h2:∀y,wf y→wf' (mk y))(h3:∀y,size (mk y)≤s y+1):qs B P N t cells wf' size:=by
 unfold jW at hu;unfold fieldsOf at hL;cases hd:P.underlying t with
 |none=>simp[hd]at hu
 |some d=>
  cases d<;>simp[hd]at hu
  rename_i fs;simp only[hd]at hL;subst hL;exact qs.struct hd hsz h mk h1 h2 h3
theorem Kn{w:World}{r:Reach}{b0:Nat}{t:TypeId}{v:Value}(hu:jW P t=true)(hval:Value.okWide P w r b0 t v):v= .agg v.cells:=by
 unfold jW at hu;cases hd:P.underlying t with
 |none=>simp[hd]at hu
 |some d=>
  cases d<;>simp[hd]at hu
  exact Ua hd hval
end
theorem Ob{B:zu}{P:Program}(t i:TypeId)(hi:P.underlying i=some (.int .i64))(hu:jW P t=true)(hL:fieldsOf P t=[eT P t 0,eT P t 1])(hs:P.cellsOf t=2)(h1:P.cellsOf i=1)
  (ht:(eT P t 0).type=i∧(eT P t 1).type=i)(ho:(eT P t 0).offset=0∧(eT P t 1).offset=1)(N:Nat):
  qs B P N t (fun c:aT=>[pi c.kind,pi c.param]) (fun _=>True) (fun _=>1):=by
 obtain⟨t0,t1⟩:=ht;obtain⟨o0,o1⟩:=ho;have I:∀(N:Nat) (f:Field),f.type=i→qs B P N f.type (fun n:Int=>[.s (.int .i64 n)]) (fun n=>IntKind.min .i64≤n∧n≤IntKind.max .i64) (fun _=>1):=fun N f hf=>qs.int (by rw[hf];exact hi)
 have C:∀(f:Field),f.type=i→∀x:Int,([PV.s (.int .i64 x)]:List PV).length=P.cellsOf f.type:=fun f hf x=>by rw[hf,h1];rfl
 refine qs.structF (α:=aT) (cells:=fun c:aT=>[pi c.kind,pi c.param]) (wf':=fun _=>True) (size:=fun _=>1) hu hL (by simp[t0,t1,h1,hs]) (fun N' _=>Et.cons o0 (C _ t0) (I N' _ t0) (Et.cons (by rw[o1,t0,h1]) (C _ t1) (I N' _ t1) Et.nil))
  (fun y=>(⟨y.1,y.2.1⟩:aT)) (fun y=>rfl) (fun _ _=>trivial) (fun y=>by simp)
theorem O3{B:zu}{P:Program}(tf tt ti:TypeId)(hi:P.underlying ti=some (.int .i64))(hu:jW P tf=true)(hu':jW P tt=true)(hL:fieldsOf P tf=[eT P tf 0,eT P tf 1])(hL':fieldsOf P tt=[eT P tt 0,eT P tt 1])(hz:P.cellsOf tf=3∧P.cellsOf tt=2∧P.cellsOf ti=1)
  (ht:(eT P tf 0).type=ti∧(eT P tf 1).type=tt∧(eT P tt 0).type=ti∧(eT P tt 1).type=ti)(ho:(eT P tf 0).offset=0∧(eT P tf 1).offset=1∧(eT P tt 0).offset=0∧(eT P tt 1).offset=1)(N:Nat):
  qs B P N tf P8 (fun _=>True) (fun _=>1):=by
 obtain⟨t0,t1,t2,t3⟩:=ht;obtain⟨o0,o1,o2,o3⟩:=ho;obtain⟨z0,z1,z2⟩:=hz;have I:∀(N:Nat) (f:Field),f.type=ti→qs B P N f.type (fun n:Int=>[.s (.int .i64 n)]) (fun n=>IntKind.min .i64≤n∧n≤IntKind.max .i64) (fun _=>1):=fun N f hf=>qs.int (by rw[hf];exact hi)
 have C:∀(f:Field),f.type=ti→∀x:Int,([PV.s (.int .i64 x)]:List PV).length=P.cellsOf f.type:=fun f hf x=>by rw[hf,z2];rfl
 have T:∀N,qs B P N (eT P tf 1).type (fun c:aT=>[pi c.kind,pi c.param]) (fun _=>True) (fun _=>1):=fun N=>by
  rw[t1];exact Ob tt ti hi hu' hL' z1 z2 ⟨t2,t3⟩ ⟨o2,o3⟩ N
 refine qs.structF (α:=bi) (cells:=P8) (wf':=fun _=>True) (size:=fun _=>1) hu hL (by simp[t0,t1,z0,z1,z2]) (fun N' _=>
  Et.cons o0 (C _ t0) (I N' _ t0) (Et.cons (c1:=fun c:aT=>[pi c.kind,pi c.param]) (by rw[o1,t0,z2]) (fun x=>by rw[t1,z1];rfl) (T N') Et.nil))
  (fun y=>(⟨y.1,y.2.1⟩:bi)) (fun y=>rfl) (fun _ _=>trivial) (fun y=>by simp)
theorem aa6{B:zu}{P:Program}(t tl tf tt ti:TypeId)(hl:P.underlying tl=some (.slice tf))(h0:jW P t=true)(hL0:fieldsOf P t=[eT P t 0])(hz0:P.cellsOf t=1∧P.cellsOf tl=1)(ht0:(eT P t 0).type=tl)(ho0:(eT P t 0).offset=0)
  (hi:P.underlying ti=some (.int .i64))(hu:jW P tf=true)(hu':jW P tt=true)(hL:fieldsOf P tf=[eT P tf 0,eT P tf 1])(hL':fieldsOf P tt=[eT P tt 0,eT P tt 1])(hz:P.cellsOf tf=3∧P.cellsOf tt=2∧P.cellsOf ti=1)
  (ht:(eT P tf 0).type=ti∧(eT P tf 1).type=tt∧(eT P tt 0).type=ti∧(eT P tt 1).type=ti)(ho:(eT P tf 0).offset=0∧(eT P tf 1).offset=1∧(eT P tt 0).offset=0∧(eT P tt 1).offset=1)(N:Nat):
  qs B P N t (fun x:cg=>[PV.ro (aC.els x.fields)]) (fun _=>True) (fun x=>x.fields.length):=by
 have hS:∀N,qs B P N (eT P t 0).type (fun xs:List bi=>[PV.ro (xs.map P8)]) (fun xs=>∀x∈xs,True) (fun xs=>(xs.map fun _=>1).sum+1):=fun N=>by
  rw[ht0];exact qs.slice (e:=tf) (cells:=P8) hl (fun x=>by rw[hz.1];rfl) (by rw[hz.1];omega) (fun N' _=>O3 tf tt ti hi hu hu' hL hL' hz ht ho N')
 refine qs.structF (α:=cg) (cells:=fun x:cg=>[PV.ro (aC.els x.fields)]) (wf':=fun _=>True) (size:=fun x=>x.fields.length) h0 hL0 (by simp[ht0,hz0]) (fun N' _=>
  Et.cons (c1:=fun xs:List bi=>[PV.ro (xs.map P8)]) ho0 (fun x=>by rw[ht0,hz0.2];rfl) (hS N') Et.nil)
  (fun y=>(⟨y.1⟩:cg)) (fun y=> ?_) (fun _ _=>trivial) (fun y=> ?_)
 ·show[PV.ro (aC.els y.1)]=[PV.ro (y.1.map P8)]++[];rw[aC.hels];rfl
 ·show y.1.length≤(y.1.map fun _=>1).sum+1+0+1;have:∀l:List bi,(l.map fun _=>1).sum=l.length:=fun l=>by induction l with
   |nil=>rfl
   |cons a l ih=>simp only[List.map_cons,List.sum_cons,List.length_cons,ih];omega
  rw[this];omega
abbrev xA(n:Int):Prop:=IntKind.min .i64≤n∧n≤IntKind.max .i64
theorem Nr{B:zu}{P:Program}{wf:ac→Prop}{sz:ac→Nat}(tv ti ts tl:TypeId)(hi:P.underlying ti=some (.int .i64))(hs:P.underlying ts=some .string)(hl:P.underlying tl=some (.slice tv))(hu:jW P tv=true)
  (hL:fieldsOf P tv=[eT P tv 0,eT P tv 1,eT P tv 2,eT P tv 3,eT P tv 4])(hz:P.cellsOf tv=5∧P.cellsOf ti=1∧P.cellsOf ts=1∧P.cellsOf tl=1)
  (ht:(eT P tv 0).type=ti∧(eT P tv 1).type=ti∧(eT P tv 2).type=ti∧(eT P tv 3).type=ts∧(eT P tv 4).type=tl)
  (ho:(eT P tv 0).offset=0∧(eT P tv 1).offset=1∧(eT P tv 2).offset=2∧(eT P tv 3).offset=3∧(eT P tv 4).offset=4)
  (hwf:∀k n sc s it,xA k→xA n→xA sc→(∀x∈it,wf x)→wf ⟨k,n,sc,s,it⟩)(hsz:∀k n sc s it,sz ⟨k,n,sc,s,it⟩≤s.size+(it.map sz).sum+6):
  ∀N,qs B P N tv ac.cells wf sz:=by
 obtain⟨t0,t1,t2,t3,t4⟩:=ht;obtain⟨o0,o1,o2,o3,o4⟩:=ho;obtain⟨z0,z1,z2,z3⟩:=hz;intro N;induction N using Nat.strongRecOn with
 |_ N ih=>
  have I:∀(N:Nat) (f:Field),f.type=ti→qs B P N f.type (fun n:Int=>[PV.s (.int .i64 n)]) (fun n=>IntKind.min .i64≤n∧n≤IntKind.max .i64) (fun _=>1):=fun N f hf=>qs.int (by rw[hf];exact hi)
  have C:∀(f:Field),f.type=ti→∀x:Int,([PV.s (.int .i64 x)]:List PV).length=P.cellsOf f.type:=fun f hf x=>by rw[hf,z1];rfl
  refine qs.structF (α:=ac) (cells:=ac.cells) (wf':=wf) (size:=sz) hu hL (by simp[t0,t1,t2,t3,t4,z0,z1,z2,z3]) (fun N' hN'=>
   Et.cons o0 (C _ t0) (I N' _ t0) (Et.cons (by rw[o1,t0,z1]) (C _ t1) (I N' _ t1) (Et.cons (by rw[o2,t0,t1,z1]) (C _ t2) (I N' _ t2)
    (Et.cons (c1:=fun s:ByteArray=>[PV.s (.string s)]) (by rw[o3,t0,t1,t2,z1]) (fun x=>by rw[t3,z2];rfl) (qs.str (by rw[t3];exact hs))
     (Et.cons (c1:=fun xs:List ac=>[PV.ro (xs.map ac.cells)]) (by rw[o4,t0,t1,t2,t3,z1,z2]) (fun x=>by rw[t4,z3];rfl)
      (qs.slice (e:=tv) (by rw[t4];exact hl) (fun x=>by rw[z0];cases x;rfl) (by omega) (fun N'' hN''=>ih N'' (by omega))) Et.nil)))))
   (fun y=>(⟨y.1,y.2.1,y.2.2.1,y.2.2.2.1,y.2.2.2.2.1⟩:ac)) (fun y=> ?_) (fun y h=>hwf _ _ _ _ _ h.1 h.2.1 h.2.2.1 h.2.2.2.2.1) (fun y=> ?_)
  ·simp only[ac.cells,ac.lcells_eq];rfl
  ·have:=hsz y.1 y.2.1 y.2.2.1 y.2.2.2.1 y.2.2.2.2.1;exact Nat.le_trans this (by show _≤1+(1+(1+((y.2.2.2.1).size+1+((y.2.2.2.2.1.map sz).sum+1+0))))+1;omega)
theorem SQ{B:zu}{P:Program}{wfT:al→Prop}{szT:al→Nat}{wfF:ae→Prop}{szF:ae→Nat}(tt tf ti ts tb:TypeId)(hi:P.underlying ti=some (.int .i64))(hs:P.underlying ts=some .string)(hb:P.underlying tb=some .bool)(hu:jW P tf=true)
  (hL:fieldsOf P tf=[eT P tf 0,eT P tf 1,eT P tf 2,eT P tf 3])(hz:P.cellsOf tf=6∧P.cellsOf tt=3∧P.cellsOf ti=1∧P.cellsOf ts=1∧P.cellsOf tb=1)
  (ht:(eT P tf 0).type=ti∧(eT P tf 1).type=ts∧(eT P tf 2).type=tb∧(eT P tf 3).type=tt)
  (ho:(eT P tf 0).offset=0∧(eT P tf 1).offset=1∧(eT P tf 2).offset=2∧(eT P tf 3).offset=3)
  (hwf:∀i n q t,xA i→wfT t→wfF ⟨i,n,q,t⟩)(hsz:∀i n q t,szF ⟨i,n,q,t⟩≤n.size+szT t+4){N:Nat}(ih:∀N',N'<N→qs B P N' tt al.cells wfT szT):
  qs B P N tf al.fcell wfF szF:=by
 obtain⟨t0,t1,t2,t3⟩:=ht;obtain⟨o0,o1,o2,o3⟩:=ho;obtain⟨z0,z1,z2,z3,z4⟩:=hz;refine qs.structF (α:=ae) (cells:=al.fcell) (wf':=wfF) (size:=szF) hu hL (by simp[t0,t1,t2,t3,z0,z1,z2,z3,z4]) (fun N' hN'=>
  Et.cons (c1:=fun n:Int=>[PV.s (.int .i64 n)]) o0 (fun x=>by rw[t0,z2];rfl) (qs.int (by rw[t0];exact hi))
   (Et.cons (c1:=fun s:ByteArray=>[PV.s (.string s)]) (by rw[o1,t0,z2]) (fun x=>by rw[t1,z3];rfl) (qs.str (by rw[t1];exact hs))
    (Et.cons (c1:=fun b:Bool=>[PV.s (.bool b)]) (by rw[o2,t0,t1,z2,z3]) (fun x=>by rw[t2,z4];rfl) (qs.bool (by rw[t2];exact hb))
     (Et.cons (c1:=al.cells) (by rw[o3,t0,t1,t2,z2,z3,z4]) (fun x=>by rw[t3,z1];cases x;rfl) (by rw[t3];exact ih N' hN') Et.nil))))
  (fun y=>(⟨y.1,y.2.1,y.2.2.1,y.2.2.2.1⟩:ae)) (fun y=> ?_) (fun y h=>hwf _ _ _ _ h.1 h.2.2.2.1) (fun y=> ?_)
 ·simp only[al.fcell,List.append_nil];rfl
 ·have:=hsz y.1 y.2.1 y.2.2.1 y.2.2.2.1;exact Nat.le_trans this (by show _≤1+((y.2.1).size+1+(1+(szT y.2.2.2.1+0)))+1;omega)
theorem aav{B:zu}{P:Program}{wfT:al→Prop}{szT:al→Nat}{wfF:ae→Prop}{szF:ae→Nat}(tt tf ti ts tb tl:TypeId)(hi:P.underlying ti=some (.int .i64))(hs:P.underlying ts=some .string)(hb:P.underlying tb=some .bool)
  (hl:P.underlying tl=some (.slice tf))(hu:jW P tf=true)(hu':jW P tt=true)
  (hL:fieldsOf P tf=[eT P tf 0,eT P tf 1,eT P tf 2,eT P tf 3])(hL':fieldsOf P tt=[eT P tt 0,eT P tt 1,eT P tt 2])(hz:P.cellsOf tf=6∧P.cellsOf tt=3∧P.cellsOf ti=1∧P.cellsOf ts=1∧P.cellsOf tb=1)(hzl:P.cellsOf tl=1)
  (ht:(eT P tf 0).type=ti∧(eT P tf 1).type=ts∧(eT P tf 2).type=tb∧(eT P tf 3).type=tt)
  (ho:(eT P tf 0).offset=0∧(eT P tf 1).offset=1∧(eT P tf 2).offset=2∧(eT P tf 3).offset=3)
  (ht':(eT P tt 0).type=ti∧(eT P tt 1).type=ti∧(eT P tt 2).type=tl)
  (ho':(eT P tt 0).offset=0∧(eT P tt 1).offset=1∧(eT P tt 2).offset=2)
  (hwf:∀i n q t,xA i→wfT t→wfF ⟨i,n,q,t⟩)(hsz:∀i n q t,szF ⟨i,n,q,t⟩≤n.size+szT t+4)
  (hwf':∀k s fs,xA k→xA s→(∀f∈fs,wfF f)→wfT ⟨k,s,fs⟩)(hsz':∀k s fs,szT ⟨k,s,fs⟩≤(fs.map szF).sum+4):
  ∀N,qs B P N tt al.cells wfT szT:=by
 intro N;induction N using Nat.strongRecOn with
 |_ N ih=>
  have hF:∀N',N'≤N→qs B P N' tf al.fcell wfF szF:=fun N' h=>SQ tt tf ti ts tb hi hs hb hu hL hz ht ho hwf hsz (fun N'' h''=>ih N'' (by omega))
  obtain⟨t0,t1,t2⟩:=ht';obtain⟨o0,o1,o2⟩:=ho';obtain⟨z0,z1,z2,z3,z4⟩:=hz;refine qs.structF (α:=al) (cells:=al.cells) (wf':=wfT) (size:=szT) hu' hL' (by simp[t0,t1,t2,z1,z2,hzl]) (fun N' hN'=>
   Et.cons (c1:=fun n:Int=>[PV.s (.int .i64 n)]) o0 (fun x=>by rw[t0,z2];rfl) (qs.int (by rw[t0];exact hi))
    (Et.cons (c1:=fun n:Int=>[PV.s (.int .i64 n)]) (by rw[o1,t0,z2]) (fun x=>by rw[t1,z2];rfl) (qs.int (by rw[t1];exact hi))
     (Et.cons (c1:=fun xs:List ae=>[PV.ro (xs.map al.fcell)]) (by rw[o2,t0,t1,z2]) (fun x=>by rw[t2,hzl];rfl)
      (qs.slice (e:=tf) (by rw[t2];exact hl) (fun x=>by rw[z0];obtain⟨_,_,_,⟨_,_,_⟩⟩:=x;rfl) (by omega) (fun N'' hN''=>hF N'' (by omega))) Et.nil)))
   (fun y=>(⟨y.1,y.2.1,y.2.2.1⟩:al)) (fun y=> ?_) (fun y h=>hwf' _ _ _ h.1 h.2.1 h.2.2.1) (fun y=> ?_)
  ·simp only[al.cells,al.fcells_eq];rfl
  ·have:=hsz' y.1 y.2.1 y.2.2.1;exact Nat.le_trans this (by show _≤1+(1+((y.2.2.1.map szF).sum+1+0))+1;omega)
theorem Vj{B:zu}{P:Program}{wfT:al→Prop}{szT:al→Nat}{wfF:ae→Prop}{szF:ae→Nat}{szL:List ae→Nat}(tt tf ti ts tb tl:TypeId)(hi:P.underlying ti=some (.int .i64))(hs:P.underlying ts=some .string)(hb:P.underlying tb=some .bool)
  (hl:P.underlying tl=some (.slice tf))(hu:jW P tf=true)(hu':jW P tt=true)
  (hL:fieldsOf P tf=[eT P tf 0,eT P tf 1,eT P tf 2,eT P tf 3])(hL':fieldsOf P tt=[eT P tt 0,eT P tt 1,eT P tt 2])(hz:P.cellsOf tf=6∧P.cellsOf tt=3∧P.cellsOf ti=1∧P.cellsOf ts=1∧P.cellsOf tb=1)(hzl:P.cellsOf tl=1)
  (ht:(eT P tf 0).type=ti∧(eT P tf 1).type=ts∧(eT P tf 2).type=tb∧(eT P tf 3).type=tt)
  (ho:(eT P tf 0).offset=0∧(eT P tf 1).offset=1∧(eT P tf 2).offset=2∧(eT P tf 3).offset=3)
  (ht':(eT P tt 0).type=ti∧(eT P tt 1).type=ti∧(eT P tt 2).type=tl)
  (ho':(eT P tt 0).offset=0∧(eT P tt 1).offset=1∧(eT P tt 2).offset=2)
  (hwf:∀i n q t,xA i→wfT t→wfF ⟨i,n,q,t⟩)(hsz:∀i n q t,szF ⟨i,n,q,t⟩≤n.size+szT t+4)
  (hwf':∀k s fs,xA k→xA s→(∀f∈fs,wfF f)→wfT ⟨k,s,fs⟩)(hsz':∀k s fs,szT ⟨k,s,fs⟩≤(fs.map szF).sum+4)(hszl:∀xs,szL xs≤(xs.map szF).sum+1)(N:Nat):
  qs B P N tl (fun xs:List ae=>[PV.ro (af.els xs)]) (fun xs=>∀x∈xs,wfF x) szL:=by
 have hT:=aav (B:=B) (P:=P) tt tf ti ts tb tl hi hs hb hl hu hu' hL hL' hz hzl ht ho ht' ho' hwf hsz hwf' hsz';have hF:∀N,qs B P N tf al.fcell wfF szF:=fun N=>SQ tt tf ti ts tb hi hs hb hu hL hz ht ho hwf hsz (fun N' _=>hT N')
 refine qs.conv (qs.slice (e:=tf) (cells:=al.fcell) hl (fun x=>by rw[hz.1];obtain⟨_,_,_,⟨_,_,_⟩⟩:=x;rfl) (by rw[hz.1];omega) (fun N' _=>hF N')) (fun x=> ?_) (fun x h=>h) hszl;show[PV.ro (al.fcells x)]=_;rw[al.fcells_eq]
theorem UQ{B:zu}{P:Program}{wf:ac→Prop}{sz:ac→Nat}{szL:List ac→Nat}(tv ti ts tl:TypeId)(hi:P.underlying ti=some (.int .i64))(hs:P.underlying ts=some .string)(hl:P.underlying tl=some (.slice tv))(hu:jW P tv=true)
  (hL:fieldsOf P tv=[eT P tv 0,eT P tv 1,eT P tv 2,eT P tv 3,eT P tv 4])(hz:P.cellsOf tv=5∧P.cellsOf ti=1∧P.cellsOf ts=1∧P.cellsOf tl=1)
  (ht:(eT P tv 0).type=ti∧(eT P tv 1).type=ti∧(eT P tv 2).type=ti∧(eT P tv 3).type=ts∧(eT P tv 4).type=tl)
  (ho:(eT P tv 0).offset=0∧(eT P tv 1).offset=1∧(eT P tv 2).offset=2∧(eT P tv 3).offset=3∧(eT P tv 4).offset=4)
  (hwf:∀k n sc s it,xA k→xA n→xA sc→(∀x∈it,wf x)→wf ⟨k,n,sc,s,it⟩)(hsz:∀k n sc s it,sz ⟨k,n,sc,s,it⟩≤s.size+(it.map sz).sum+6)(hszl:∀xs,szL xs≤(xs.map sz).sum+1)(N:Nat):
  qs B P N tl (fun xs:List ac=>[PV.ro (ah.els xs)]) (fun xs=>∀x∈xs,wf x) szL:=by
 have hV:=Nr (B:=B) (P:=P) tv ti ts tl hi hs hl hu hL hz ht ho hwf hsz;refine qs.conv (qs.slice (e:=tv) (cells:=ac.cells) hl (fun x=>by rw[hz.1];cases x;rfl) (by rw[hz.1];omega) (fun N' _=>hV N')) (fun x=> ?_) (fun x h=>h) hszl;show[PV.ro (ac.lcells x)]=_;rw[ac.lcells_eq]
theorem Pj:∀xs:List Int,(xs.map (fun _=>(1:Nat))).sum=xs.length
 |[]=>rfl
 |x::l=>by rw[List.map_cons,List.sum_cons,Pj l,List.length_cons];omega
theorem abl{B:zu}{P:Program}(tl ti:TypeId)(hl:P.underlying tl=some (.slice ti))(hi:P.underlying ti=some (.int .i64))(hz:P.cellsOf ti=1)(N:Nat):
  qs B P N tl (fun xs:List Int=>[PV.ro (eI.els xs)]) (fun xs=>∀x∈xs,xA x) (fun xs=>xs.length):=by
 refine qs.conv (qs.slice (e:=ti) (cells:=fun n:Int=>[PV.s (.int .i64 n)]) hl (fun x=>by rw[hz];rfl) (by rw[hz];omega) (fun N' _=>qs.int hi)) (fun x=>rfl) (fun x h=>h) (fun xs=> ?_);rw[Pj];omega
theorem aad{B:zu}{P:Program}{wf:ac→Prop}{sz:ac→Nat}{szL:List ac→Nat}{szR:List (List ac)→Nat}(tr tv ti ts tl:TypeId)(hr:P.underlying tr=some (.slice tl))(hi:P.underlying ti=some (.int .i64))(hs:P.underlying ts=some .string)(hl:P.underlying tl=some (.slice tv))(hu:jW P tv=true)
  (hL:fieldsOf P tv=[eT P tv 0,eT P tv 1,eT P tv 2,eT P tv 3,eT P tv 4])(hz:P.cellsOf tv=5∧P.cellsOf ti=1∧P.cellsOf ts=1∧P.cellsOf tl=1)
  (ht:(eT P tv 0).type=ti∧(eT P tv 1).type=ti∧(eT P tv 2).type=ti∧(eT P tv 3).type=ts∧(eT P tv 4).type=tl)
  (ho:(eT P tv 0).offset=0∧(eT P tv 1).offset=1∧(eT P tv 2).offset=2∧(eT P tv 3).offset=3∧(eT P tv 4).offset=4)
  (hwf:∀k n sc s it,xA k→xA n→xA sc→(∀x∈it,wf x)→wf ⟨k,n,sc,s,it⟩)(hsz:∀k n sc s it,sz ⟨k,n,sc,s,it⟩≤s.size+(it.map sz).sum+6)(hszl:∀xs,szL xs≤(xs.map sz).sum+1)(hszr:∀xs,szR xs≤(xs.map szL).sum+1)(N:Nat):
  qs B P N tr (fun xs:List (List ac)=>[PV.ro ((eL ah).els xs)]) (fun xs=>∀r∈xs,∀x∈r,wf x) szR:=by
 have hV:=UQ (B:=B) (P:=P) (szL:=szL) tv ti ts tl hi hs hl hu hL hz ht ho hwf hsz hszl;refine qs.conv (qs.slice (e:=tl) (cells:=fun r:List ac=>[PV.ro (ah.els r)]) hr (fun x=>by rw[hz.2.2.2];rfl) (by rw[hz.2.2.2];omega) (fun N' _=>hV N')) (fun x=> ?_) (fun x h=>h) hszr;rfl
end Go.SX
