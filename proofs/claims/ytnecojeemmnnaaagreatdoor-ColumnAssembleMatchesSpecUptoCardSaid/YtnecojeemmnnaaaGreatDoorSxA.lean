/- SX: the tables of unicode/utf8. What the package-level variables that are never written hold, by their blocks: the two tables of unicode/utf8. The framework SX, first part: abstract values, their relation to the model's worlds, contracts. Nothing here speaks of one program. SX, second part: what happens to the relation when a block is laid, an object is made or changed. SX, third part: the evaluator of operations over abstract values, and its soundness. SX, fourth part: operations on memory. SX, fifth part: stores, new blocks, literals, addresses. SX, sixth part: arrays: literals, make, slices, addresses, append. SX, seventh part: append. SX, eighth part: append is sound. SX, ninth part: the evaluator of operations, and its soundness. SX: comparing structs and arrays. SX: copy into a list that may be written; empty cuts of such lists. SX: append under a new number: the old number keeps its block, and dies. SX, tenth part: the evaluator of operations put together. SX, eleventh part: the evaluator is sound. SX, twelfth part: code: rules. SX, thirteenth part: regions whose order is open: one walk in the order of the text serves every order. SX, fourteenth part: calls, functions, straight code in one step. SX, fifteenth part: calls by contracts; a function's contract from its body. SX, sixteenth part: freezing; a function's contract. SX, seventeenth part: pieces of code by their paths; pure data. -/
import Derived.WalkKit
import Derived.Lib.DecodeN
import Derived.ProofKit
import Derived.Deep.AppendSrc
import Derived.Laws.StructEq
import Derived.ChangeKeysEq
import Derived.Laws.CopyRow
import Derived.Laws.IdiomCopy
import Derived.Laws.BytesArg
import Derived.Laws.Cover4
import Derived.Laws.IdiomStrings
import Derived.Laws.Cover3
import Derived.Orders
set_option linter.unusedVariables false
set_option linter.unusedSimpArgs false
set_option linter.unnecessarySimpa false
namespace Go.SX
open Go Go.Lib
theorem gu{α:Type _}{l:List α}{i:Nat}(h:i<l.length):l[i]? =some l[i]:=List.getElem?_eq_getElem h
theorem cA{α:Type _}{a b:α}:(some a=some b)=(a=b):=Option.some.injEq a b
theorem kf{α:Type _}{l:List α}{n:Nat}(h:n<l.length):l[n]∈l:=List.getElem_mem h
theorem gN{α:Type _}{l:List α}{i:Nat}{a:α}:l[i]? =some a↔∃h:i<l.length,l[i]=a:=List.getElem?_eq_some_iff
theorem fM(a b:Bool):((a&&b)=true)=(a=true∧b=true):=Bool.and_eq_true a b
theorem kW{n m:Nat}(h:Nat.beq n m=true):n=m:=Nat.eq_of_beq_eq_true h
theorem n4{n m:Nat}(h:Nat.ble n m=true):n≤m:=Nat.le_of_ble_eq_true h
theorem mE{α β:Type _}{f:α→β}{x:Option α}{b:β}:x.map f=some b↔∃a,x=some a∧f a=b:=Option.map_eq_some_iff
theorem ku{α β:Type _}(a:α)(b:β)(c:α)(d:β):((a,b)=(c,d))=(a=c∧b=d):=Prod.mk.injEq a b c d
theorem eo(n:Nat):n≤n:=Nat.le_refl n
theorem nq{α:Type _}{l m:List α}{n:Nat}(h:n<l.length):(l++m)[n]? =l[n]? :=List.getElem?_append_left h
def tG:List Value:=(List.range 256).map fun c=>Value.int .u8 (firstT c)
def CD:List Value:=(List.range 32).map fun j=>if j%2=0 then Value.int .u8 (accLo (j/2))else Value.int .u8 (accHi (j/2))
def GI:Nat→Value→Prop
 |1,v=>∃m,v= .int .i64 m
 |2,v=>∃t p,v= .iface t p
 |_,_=>True
end Go.SX
namespace Go.SX
open Go
def C2:Nat→Option (List Value):=fun b=>if b=1 then some tG else if b=2 then some CD else none
def Io:Nat→Nat:=fun _=>0
inductive PV where
 |s(v:Value)
 |ro(els:List (List PV))
 |rp(els:List (List PV))(i off:Nat)
 |fn(f:Nat)(caps:List PV)
 deriving Inhabited
inductive CV where
 |pv(p:PV)
 |pt(id sz i off:Nat)
 |sl(id sz off len:Nat)
 |fn(f:Nat)(caps:List CV)
 |mp(id:Nat)
 |cl(els:List (List PV))
 deriving Inhabited
inductive aV where
 |dead
 |box(cells:List CV)
 |arr(sz:Nat)(els:List (List PV))
 |rel(R:Obj→List Value→Prop)(ps:List PV)
 |win(sz i:Nat)(pre:List PV)(mid:List CV)(post:List PV)
 deriving Inhabited
abbrev aV.raw(o:Obj):aV:= .rel (fun x _=>x=o) []
abbrev St:=List aV
inductive AV where
 |j
 |one(c:CV)
 |ag(cs:List CV)
 |tp(vs:List AV)
 deriving Inhabited
abbrev Fr:=List (Nat×AV)
def lk:Fr→Nat→AV
 |[],_=> .j
 |(d,av)::fr,t=>bif Nat.beq d t then av else lk fr t
def oo:Value→Bool
 | .bool _| .int _ _| .float _ _| .complex _ _ _| .string _=>true
 | .pointer none| .map none| .chan none| .nilFunc| .nilIface=>true
 | .slice none 0 0=>true
 | .slice (some _) _ _=>true
 | .iface _ (.pointer _)=>true
 |_=>false
theorem GE{v:Value}(h:oo v=true):v.oneCell'=true:=by
 cases v<;>simp_all[oo,Value.oneCell']
def aV.alive(o:aV):Prop:=o≠.dead
structure IM where
 m:Nat→Option Nat
 amb:Nat→Prop
instance:CoeFun IM (fun _=>Nat→Option Nat):=⟨IM.m⟩
def nV(ι:IM)(st:St)(b:Nat):Prop:=∃id o,st[id]? =some o∧o.alive∧ι id=some b
def fK(ι:IM)(st:St)(b:Nat):Prop:=ι.amb b∨nV ι st b
inductive dr(μ:Nat→Prop)(w:World):Value→PV→Prop where
 |s (v:Value) (h:oo v=true):dr μ w v (.s v)
 |nl:dr μ w (.slice none 0 0) (.ro [])
 |ro (a:Addr) (cap sz:Nat) (els:List (List PV)) (vf:Nat→Nat→Value) (hcap:els.length≤cap)
  (hsz:∀e∈els,e.length=sz)
  (hb:els≠[]→a.block<w.heap.size∧¬μ a.block)
  (hc:∀(i:Nat) e (j:Nat) c,els[i]? =some e→e[j]? =some c→w.cell? (a.add (i*sz+j))=some (vf i j))
  (hv:∀(i:Nat) e (j:Nat) c,els[i]? =some e→e[j]? =some c→dr μ w (vf i j) c):
  dr μ w (.slice (some a) els.length cap) (.ro els)
 |rp (a:Addr) (sz:Nat) (els:List (List PV)) (i off:Nat) (vf:Nat→Nat→Value)
  (hsz:∀e∈els,e.length=sz)
  (hb:els≠[]→a.block<w.heap.size∧¬μ a.block)
  (hc:∀(i:Nat) e (j:Nat) c,els[i]? =some e→e[j]? =some c→w.cell? (a.add (i*sz+j))=some (vf i j))
  (hv:∀(i:Nat) e (j:Nat) c,els[i]? =some e→e[j]? =some c→dr μ w (vf i j) c):
  dr μ w (.pointer (some (a.add (i*sz+off)))) (.rp els i off)
 |fn (f:Nat) (caps:List PV) (vs:List Value) (hl:vs.length=caps.length)
  (hv:∀(j:Nat) c v,caps[j]? =some c→vs[j]? =some v→dr μ w v c):
  dr μ w (.func (.func f) #[] vs.toArray) (.fn f caps)
inductive bX(ι:IM)(w:World)(st:St):Value→CV→Prop where
 |pv (v:Value) (p:PV) (h:dr (fK ι st) w v p):bX ι w st v (.pv p)
 |pt (id sz i off b:Nat) (hid:id<st.length) (hb:ι id=some b):
  bX ι w st (.pointer (some ⟨b,i*sz+off,none⟩)) (.pt id sz i off)
 |sl (id sz off len b cap:Nat) (hid:id<st.length) (hb:ι id=some b) (hcap:len≤cap)
  (hc:∃(c:Array Value) (ty:TypeId) (fz:Nat×Nat),w.heap[b]? =some (.cells c ty fz)∧(off+cap)*sz≤c.size):
  bX ι w st (.slice (some ⟨b,off*sz,none⟩) len cap) (.sl id sz off len)
 |sn (id sz:Nat) (hid:id<st.length) (hb:ι id=none):bX ι w st (.slice none 0 0) (.sl id sz 0 0)
 |mp (id b:Nat) (hid:id<st.length) (hb:ι id=some b):bX ι w st (.map (some b)) (.mp id)
 |cl (v:Value) (els:List (List PV)) (h:dr (fK ι st) w v (.ro els)) (hc:∀a n m,v= .slice a n m→m=n):bX ι w st v (.cl els)
 |fn (f:Nat) (caps:List CV) (vs:List Value) (hl:vs.length=caps.length)
  (hv:∀(j:Nat) c v,caps[j]? =some c→vs[j]? =some v→bX ι w st v c):
  bX ι w st (.func (.func f) #[] vs.toArray) (.fn f caps)
theorem dr.oneCell{μ:Nat→Prop}{w:World}{v:Value}{p:PV}(h:dr μ w v p):v.oneCell'=true:=by
 cases h with
 |s v h=>exact GE h
 |_=>rfl
theorem bX.oneCell{ι:IM}{w:World}{st:St}{v:Value}{c:CV}(h:bX ι w st v c):v.oneCell'=true:=by
 cases h with
 |pv v p h=>exact h.oneCell
 |cl v els h hc=>exact h.oneCell
 |_=>rfl
def dv(ι:IM)(w:World)(st:St)(vs:List Value)(cs:List CV):Prop:=
 vs.length=cs.length∧∀(j:Nat) v c,vs[j]? =some v→cs[j]? =some c→bX ι w st v c
inductive aN(ι:IM)(w:World)(st:St):Value→AV→Prop where
 |j (v:Value):aN ι w st v .j
 |one (v:Value) (c:CV) (h:bX ι w st v c):aN ι w st v (.one c)
 |ag (vs:List Value) (cs:List CV) (h:dv ι w st vs cs):aN ι w st (.agg vs.toArray) (.ag cs)
 |tp (vs:List Value) (asv:List AV) (hl:vs.length=asv.length) (h:∀(j:Nat) v a,vs[j]? =some v→asv[j]? =some a→aN ι w st v a):
  aN ι w st (.tuple vs.toArray) (.tp asv)
def PL(μ:Nat→Prop)(w:World)(vs:List Value)(ps:List PV):Prop:=
 vs.length=ps.length∧∀(j:Nat) v p,vs[j]? =some v→ps[j]? =some p→dr μ w v p
theorem PL.map{μ μ':Nat→Prop}{w w':World}{vs:List Value}{ps:List PV}(h:PL μ w vs ps)(f:∀v p,dr μ w v p→dr μ' w' v p):PL μ' w' vs ps:=
 ⟨h.1,fun j v p h1 h2=>f v p (h.2 j v p h1 h2)⟩
def j7(ι:IM)(w:World)(st:St)(id:Nat):aV→Prop
 | .dead=>True
 | .box cells=>∃b vs ty,ι id=some b∧w.heap[b]? =some (.cells vs.toArray ty (0,0))∧dv ι w st vs cells
 | .rel R ps=>∃b o vs,ι id=some b∧w.heap[b]? =some o∧R o vs∧PL (fK ι st) w vs ps
 | .win sz i pre mid post=>∃b c ty,ι id=some b∧w.heap[b]? =some (.cells c ty (0,0))∧pre.length=i*sz∧dv ι w st (c.toList.take (pre.length+(mid.length+post.length))) (pre.map CV.pv++(mid++post.map CV.pv))
 | .arr sz els=>(ι id=none∧els=[])∨∃b c ty,ι id=some b∧w.heap[b]? =some (.cells c ty (0,0))∧els.length*sz≤c.size∧(∀e∈els,e.length=sz)∧
  (∀(i:Nat) e (j:Nat) p,els[i]? =some e→e[j]? =some p→∃v,c[i*sz+j]? =some v∧dr (fK ι st) w v p)
theorem AN{ι:IM}{w:World}{st:St}{id:Nat}{o:Obj}:j7 ι w st id (.raw o)↔∃b,ι id=some b∧w.heap[b]? =some o:=
 ⟨fun⟨b,x,_,h1,h2,h3,_⟩=>⟨b,h1,h3▸h2⟩,fun⟨b,h1,h2⟩=>⟨b,o,[],h1,h2,rfl,rfl,fun j v p h=>by simp at h⟩⟩
def Nl(w:World)(b:Nat)(l:List Value):Prop:=
 (∀(i:Nat) v,l[i]? =some v→w.cell? ⟨b,i,none⟩=some v)∧(Io b≠0→∃v,w.cell? ⟨b,0,none⟩=some v∧GI (Io b) v)∧(Io b=3→∃ty fz,w.heap[b]? =some (.cells l.toArray ty fz))
structure eu(ι:IM)(w:World)(st:St):Prop where
 obj:∀(id:Nat) o,st[id]? =some o→j7 ι w st id o
 amb:∀b,ι.amb b→b<w.heap.size
 dis:∀b,nV ι st b→¬ι.amb b
 inj:∀(id id':Nat) o o' b,st[id]? =some o→st[id']? =some o'→o.alive→o'.alive→ι id=some b→ι id'=some b→id=id'
 gl:∀(b:Nat) (l:List Value),C2 b=some l→¬fK ι st b∧b<w.heap.size∧Nl w b l
structure bo(fix:Nat→Prop)(ι:IM)(w:World)(st:St)(ι':IM)(w':World)(st':St):Prop where
 os:w'.os=w.os
 tape:w'.tape=w.tape
 output:w'.output=w.output
 size:w.heap.size≤w'.heap.size
 amb:ι'.amb=ι.amb
 blk:∀b:Nat,b<w.heap.size→¬nV ι st b→w'.heap[b]? =w.heap[b]? ∧¬nV ι' st' b
 map:∀id,fix id→id<st.length→id<st'.length∧ι' id=ι id
 shp:∀(b:Nat) (c:Array Value) (ty:TypeId) (fz:Nat×Nat),w.heap[b]? =some (.cells c ty fz)→∃c':Array Value,w'.heap[b]? =some (.cells c' ty fz)∧c'.size=c.size
abbrev all:Nat→Prop:=fun _=>True
theorem eu.glk{fix:Nat→Prop}{ι ι':IM}{w w':World}{st st':St}(r:eu ι w st)(k:bo fix ι w st ι' w' st')(b:Nat)(l:List Value)(h:C2 b=some l):
  ¬fK ι' st' b∧b<w'.heap.size∧Nl w' b l:=by
 obtain⟨h1,h2,h5⟩:=r.gl b l h
 obtain⟨h3,h4⟩:=k.blk b h2 (fun ho=>h1 (.inr ho))
 refine⟨fun hm=>hm.elim (fun ha=>h1 (.inl (by rw[←k.amb];exact ha))) h4,Nat.lt_of_lt_of_le h2 k.size,?_⟩
 have hc:∀i,w'.cell? ⟨b,i,none⟩=w.cell? ⟨b,i,none⟩:=fun i=>by simp[World.cell?,h3]
 exact⟨fun i v hv=>by rw[hc];exact h5.1 i v hv,fun hi=>by rw[hc];exact h5.2.1 hi,fun hi=>by rw[h3];exact h5.2.2 hi⟩
theorem bo.refl{fix:Nat→Prop}{ι:IM}{w:World}{st:St}:bo fix ι w st ι w st:=
 ⟨rfl,rfl,rfl,eo _,rfl,fun _ _ h=>⟨rfl,h⟩,fun _ _ h=>⟨h,rfl⟩,fun _ c _ _ h=>⟨c,h,rfl⟩⟩
theorem bo.trans{fix:Nat→Prop}{ι ι' ι'':IM}{w w' w'':World}{st st' st'':St}(h:bo fix ι w st ι' w' st')(k:bo fix ι' w' st' ι'' w'' st''):
  bo fix ι w st ι'' w'' st'' where
 os:=k.os.trans h.os
 tape:=k.tape.trans h.tape
 output:=k.output.trans h.output
 size:=Nat.le_trans h.size k.size
 amb:=k.amb.trans h.amb
 blk b hb hm:=by
  obtain⟨e,n⟩:=h.blk b hb hm
  obtain⟨e',n'⟩:=k.blk b (Nat.lt_of_lt_of_le hb h.size) n
  exact⟨e'.trans e,n'⟩
 map id hf hid:=by
  obtain⟨a1,a2⟩:=h.map id hf hid
  obtain⟨b1,b2⟩:=k.map id hf a1
  exact⟨b1,b2.trans a2⟩
 shp b c ty fz hb:=by
  obtain⟨c1,e1,s1⟩:=h.shp b c ty fz hb
  obtain⟨c2,e2,s2⟩:=k.shp b c1 ty fz e1
  exact⟨c2,e2,s2.trans s1⟩
theorem bo.weaken{fix fix':Nat→Prop}{ι ι':IM}{w w':World}{st st':St}(h:bo fix ι w st ι' w' st')(hm:∀id,fix' id→fix id):bo fix' ι w st ι' w' st':=
 ⟨h.os,h.tape,h.output,h.size,h.amb,h.blk,fun id hf hid=>h.map id (hm id hf) hid,h.shp⟩
theorem cell?_same{w w':World}{a:Addr}(h:w'.heap[a.block]? =w.heap[a.block]?):w'.cell? a=w.cell? a:=by simp[World.cell?,h]
theorem pC(a:Addr)(n:Nat):(a.add n).block=a.block:=by unfold Addr.add;split<;>rfl
theorem qn(a:Addr)(m n:Nat):(a.add m).add n=a.add (m+n):=by
 unfold Addr.add
 by_cases hm:m=0<;>by_cases hn:n=0<;>simp[hm,hn,Nat.add_assoc]
theorem dr.mono{μ μ':Nat→Prop}{w w':World}(hs:w.heap.size≤w'.heap.size)(hk:∀b:Nat,b<w.heap.size→¬μ b→w'.heap[b]? =w.heap[b]? ∧¬μ' b){v:Value}{p:PV}(h:dr μ w v p):dr μ' w' v p:=by
 induction h with
 |s v h=>exact .s v h
 |nl=>exact .nl
 |ro a cap sz els vf hcap hsz hb hc hv ih=>
  refine .ro a cap sz els vf hcap hsz (fun he=> ?_) (fun i e j c h1 h2=> ?_) ih
  ·obtain⟨h1,h2⟩:=hb he
   exact⟨Nat.lt_of_lt_of_le h1 hs,(hk _ h1 h2).2⟩
  ·obtain⟨h3,h4⟩:=hb (by rintro rfl;simp at h1)
   rw[cell?_same (w:=w) (w':=w')]
   ·exact hc i e j c h1 h2
   ·rw[pC];exact(hk _ h3 h4).1
 |rp a sz els i off vf hsz hb hc hv ih=>
  refine .rp a sz els i off vf hsz (fun he=> ?_) (fun i e j c h1 h2=> ?_) ih
  ·obtain⟨h1,h2⟩:=hb he
   exact⟨Nat.lt_of_lt_of_le h1 hs,(hk _ h1 h2).2⟩
  ·obtain⟨h3,h4⟩:=hb (by rintro rfl;simp at h1)
   rw[cell?_same (w:=w) (w':=w')]
   ·exact hc i e j c h1 h2
   ·rw[pC];exact(hk _ h3 h4).1
 |fn f caps vs hl hv ih=>exact .fn f caps vs hl ih
theorem bo.pure{fix:Nat→Prop}{ι ι':IM}{w w':World}{st st':St}(k:bo fix ι w st ι' w' st'){v:Value}{p:PV}(h:dr (fK ι st) w v p):dr (fK ι' st') w' v p:=
 h.mono k.size (fun b hb hm=>⟨(k.blk b hb (fun ho=>hm (.inr ho))).1,fun hm'=>Or.elim hm' (fun ha=>hm (.inl (by rw[←k.amb];exact ha))) (fun ho=>(k.blk b hb (fun ho'=>hm (.inr ho'))).2 ho)⟩)
def kQ(q:Nat→Bool):CV→Bool
 | .pv _=>true
 | .pt id _ _ _=>q id
 | .mp id=>q id
 | .cl _=>true
 | .sl id _ _ _=>q id
 | .fn _ caps=>go caps
 where
 go:List CV→Bool
  |[]=>true
  |c::l=>kQ q c&&go l
def nE(q:Nat→Bool):List CV→Bool
 |[]=>true
 |c::l=>kQ q c&&nE q l
def cU(q:Nat→Bool):AV→Bool
 | .j=>true
 | .one c=>kQ q c
 | .ag cs=>nE q cs
 | .tp vs=>go vs
 where
 go:List AV→Bool
  |[]=>true
  |a::l=>cU q a&&go l
theorem tZ{q:Nat→Bool}:∀{l:List CV},kQ.go q l=true→∀(j:Nat) c,l[j]? =some c→kQ q c=true
 |[],_,j,c,h=>by simp at h
 |x::l,h,j,c,hj=>by
  simp only[kQ.go,fM]at h
  cases j with
  |zero=>simp at hj;subst hj;exact h.1
  |succ j=>exact tZ h.2 j c (by simpa using hj)
theorem qR{q:Nat→Bool}:∀{l:List CV},nE q l=true→∀(j:Nat) c,l[j]? =some c→kQ q c=true
 |[],_,j,c,h=>by simp at h
 |x::l,h,j,c,hj=>by
  simp only[nE,fM]at h
  cases j with
  |zero=>simp at hj;subst hj;exact h.1
  |succ j=>exact qR h.2 j c (by simpa using hj)
theorem u4{q:Nat→Bool}:∀{l:List AV},cU.go q l=true→∀(j:Nat) a,l[j]? =some a→cU q a=true
 |[],_,j,c,h=>by simp at h
 |x::l,h,j,c,hj=>by
  simp only[cU.go,fM]at h
  cases j with
  |zero=>simp at hj;subst hj;exact h.1
  |succ j=>exact u4 h.2 j c (by simpa using hj)
theorem bX.mono{fix:Nat→Prop}{ι ι':IM}{w w':World}{st st':St}(k:bo fix ι w st ι' w' st'){q:Nat→Bool}(hq:∀id,q id=true→id<st.length→fix id){v:Value}{c:CV}(h:bX ι w st v c):kQ q c=true→bX ι' w' st' v c:=by
 induction h with
 |pv v p h=>exact fun _=> .pv v p (k.pure h)
 |pt id sz i off b hid hb=>
  intro hi
  obtain⟨a1,a2⟩:=k.map id (hq id hi hid) hid
  exact .pt id sz i off b a1 (a2.trans hb)
 |sl id sz off len b cap hid hb hcap hc=>
  intro hi
  obtain⟨a1,a2⟩:=k.map id (hq id hi hid) hid
  obtain⟨c,ty,fz,h1,h2⟩:=hc
  obtain⟨c',h3,h4⟩:=k.shp _ c ty fz h1
  exact .sl id sz off len b cap a1 (a2.trans hb) hcap ⟨c',ty,fz,h3,by omega⟩
 |sn id sz hid hb=>
  intro hi
  obtain⟨a1,a2⟩:=k.map id (hq id hi hid) hid
  exact .sn id sz a1 (a2.trans hb)
 |mp id b hid hb=>
  intro hi
  obtain⟨a1,a2⟩:=k.map id (hq id hi hid) hid
  exact .mp id b a1 (a2.trans hb)
 |cl v els h hc=>exact fun _=> .cl v els (k.pure h) hc
 |fn f caps vs hl hv ih=>
  intro hi
  simp only[kQ]at hi
  exact .fn f caps vs hl (fun j c v h1 h2=>ih j c v h1 h2 (tZ hi j c h1))
theorem dv.mono{fix:Nat→Prop}{ι ι':IM}{w w':World}{st st':St}(k:bo fix ι w st ι' w' st'){q:Nat→Bool}(hq:∀id,q id=true→id<st.length→fix id){vs:List Value}{cs:List CV}(h:dv ι w st vs cs)(hi:nE q cs=true):dv ι' w' st' vs cs:=
 ⟨h.1,fun j v c h1 h2=>(h.2 j v c h1 h2).mono k hq (qR hi j c h2)⟩
theorem aN.mono{fix:Nat→Prop}{ι ι':IM}{w w':World}{st st':St}(k:bo fix ι w st ι' w' st'){q:Nat→Bool}(hq:∀id,q id=true→id<st.length→fix id){v:Value}{a:AV}(h:aN ι w st v a):cU q a=true→aN ι' w' st' v a:=by
 induction h with
 |j v=>exact fun _=> .j v
 |one v c h=>exact fun hi=> .one v c (h.mono k hq hi)
 |ag vs cs h=>exact fun hi=> .ag vs cs (h.mono k hq hi)
 |tp vs asv hl h ih=>
  intro hi
  simp only[cU]at hi
  exact .tp vs asv hl (fun j v a h1 h2=>ih j v a h1 h2 (u4 hi j a h2))
theorem rZ:∀c:CV,kQ (fun _=>true) c=true
 | .pv _=>rfl
 | .pt _ _ _ _=>rfl
 | .mp _=>rfl
 | .cl _=>rfl
 | .sl _ _ _ _=>rfl
 | .fn _ caps=>by simp only[kQ];exact go caps
 where
 go:∀l:List CV,kQ.go (fun _=>true) l=true
  |[]=>rfl
  |c::l=>by simp only[kQ.go,rZ c,go l,Bool.and_self]
theorem m7:∀l:List CV,nE (fun _=>true) l=true
 |[]=>rfl
 |c::l=>by simp only[nE,rZ c,m7 l,Bool.and_self]
theorem vK:∀a:AV,cU (fun _=>true) a=true
 | .j=>rfl
 | .one c=>rZ c
 | .ag cs=>m7 cs
 | .tp vs=>by simp only[cU];exact go vs
 where
 go:∀l:List AV,cU.go (fun _=>true) l=true
  |[]=>rfl
  |c::l=>by simp only[cU.go,vK c,go l,Bool.and_self]
theorem bX.mono'{ι ι':IM}{w w':World}{st st':St}(k:bo all ι w st ι' w' st'){v:Value}{c:CV}(h:bX ι w st v c):bX ι' w' st' v c:=
 h.mono k (q:=fun _=>true) (fun _ _ _=>trivial) (rZ c)
theorem dv.mono'{ι ι':IM}{w w':World}{st st':St}(k:bo all ι w st ι' w' st'){vs:List Value}{cs:List CV}(h:dv ι w st vs cs):dv ι' w' st' vs cs:=
 h.mono k (q:=fun _=>true) (fun _ _ _=>trivial) (m7 cs)
theorem aN.mono'{ι ι':IM}{w w':World}{st st':St}(k:bo all ι w st ι' w' st'){v:Value}{a:AV}(h:aN ι w st v a):aN ι' w' st' v a:=
 h.mono k (q:=fun _=>true) (fun _ _ _=>trivial) (vK a)
structure fU(n:Nat)(ι:IM)(w:World)(st:St)(a:Act)(fr:Fr):Prop where
 defers:a.defers=[]
 size:a.tmps.size=n
 slot:∀t,aN ι w st (a.tmps.getD t undef) (lk fr t)
theorem fU.mono'{n:Nat}{ι ι':IM}{w w':World}{st st':St}(k:bo all ι w st ι' w' st'){a:Act}{fr:Fr}(h:fU n ι w st a fr):fU n ι' w' st' a fr:=
 ⟨h.defers,h.size,fun t=>(h.slot t).mono' k⟩
def jb(q:Nat→Bool):Fr→Fr
 |[]=>[]
 |(d,av)::fr=>(d,bif cU q av then av else .j)::jb q fr
theorem rd(q:Nat→Bool):∀(fr:Fr) (t:Nat),lk (jb q fr) t=(bif cU q (lk fr t)then lk fr t else .j)
 |[],t=>rfl
 |(d,av)::fr,t=>by
  simp only[jb,lk]
  cases Nat.beq d t with
  |true=>rfl
  |false=>exact rd q fr t
theorem fU.keep{fix:Nat→Prop}{n:Nat}{ι ι':IM}{w w':World}{st st':St}(k:bo fix ι w st ι' w' st'){q:Nat→Bool}(hq:∀id,q id=true→id<st.length→fix id){a:Act}{fr:Fr}(h:fU n ι w st a fr):
  fU n ι' w' st' a (jb q fr):=by
 refine⟨h.defers,h.size,fun t=> ?_⟩
 rw[rd]
 cases hi:cU q (lk fr t)with
 |false=>exact .j _
 |true=>exact(h.slot t).mono k hq hi
theorem fU.put{n:Nat}{ι:IM}{w:World}{st:St}{a:Act}{fr:Fr}(h:fU n ι w st a fr){d:Nat}(hd:d<n){v:Value}{av:AV}(hv:aN ι w st v av):
  fU n ι w st (a.put (some d) v) ((d,av)::fr):=by
 refine⟨h.defers,by simp[Act.put,h.size],fun t=> ?_⟩
 simp only[lk,Act.put]
 by_cases e:d=t
 ·subst e
  have:(a.tmps.setIfInBounds d v).getD d undef=v:=by simp[h.size,hd]
  simp only[Nat.beq_refl,cond_true]
  rw[this];exact hv
 ·have h1:(a.tmps.setIfInBounds d v).getD t undef=a.tmps.getD t undef:=by simp[e]
  have h2:Nat.beq d t=false:=by cases hq:Nat.beq d t with|false=>rfl|true=>exact absurd (kW hq) e
  rw[h1,h2,cond_false];exact h.slot t
def sG(ι:IM)(w:World)(st:St)(vs:List Value)(asv:List AV):Prop:=
 vs.length=asv.length∧∀(j:Nat) v a,vs[j]? =some v→asv[j]? =some a→aN ι w st v a
def AC(P:Program)(f:Nat)(args:List AV)(st:St)(lz:List Nat)(R:AV→St→Prop):Prop:=
 ∀ι w vs,eu ι w st→sG ι w st vs args→
  Calls P f vs.toArray w fun e w'=>∃v av st' ι',e= .returned v∧R av st'∧eu ι' w' st'∧aN ι' w' st' v av∧bo (fun id=>id∉lz) ι w st ι' w' st'
def PC(P:Program)(f:Nat)(args:List AV)(r:AV):Prop:=AC P f args [] [] fun av s=>av=r∧s=[]
theorem zj(w:World)(o:Obj){b:Nat}(h:b<w.heap.size):(w.alloc o).heap[b]? =w.heap[b]? :=by
 show(w.heap.push o)[b]? =_
 rw[Array.getElem?_push,if_neg (by omega)]
theorem dh(w:World)(o:Obj):(w.alloc o).heap[w.heap.size]? =some o:=by
 show(w.heap.push o)[w.heap.size]? =_
 simp
theorem yI(w:World)(o:Obj):(w.alloc o).heap.size=w.heap.size+1:=by
 show(w.heap.push o).size=_
 simp
theorem cf{w:World}{b:Nat}{o:Obj}(h:w.heap[b]? =some o):b<w.heap.size:=(Array.getElem?_eq_some_iff.1 h).1
theorem eu.own_lt{ι:IM}{w:World}{st:St}(h:eu ι w st){b:Nat}(hm:nV ι st b):b<w.heap.size:=by
 obtain⟨id,o,h1,h2,h3⟩:=hm
 have:=h.obj id o h1
 cases o with
 |dead=>exact absurd rfl h2
 |box cells=>
  obtain⟨b',vs,ty,e,hb,_⟩:=this
  rw[h3]at e;cases e
  exact cf hb
 |win wsz wi pre mid post=>
  obtain⟨b',c0,ty,e,hb,hn0,_⟩:=this
  rw[h3]at e;cases e
  exact cf hb
 |rel Rm ps=>
  obtain⟨b',ob,vs0,e,hb,hr0,hl0⟩:=this
  rw[h3]at e;cases e
  exact cf hb
 |arr sz els=>
  rcases this with⟨e,_⟩ |⟨b',c,ty,e,hb,_⟩
  ·rw[h3]at e;cases e
  ·rw[h3]at e;cases e
   exact cf hb
theorem eu.mut_lt{ι:IM}{w:World}{st:St}(h:eu ι w st){b:Nat}(hm:fK ι st b):b<w.heap.size:=by
 rcases hm with hm|hm
 ·exact h.amb b hm
 ·exact h.own_lt hm
structure m6(w w':World):Prop where
 os:w'.os=w.os
 tape:w'.tape=w.tape
 output:w'.output=w.output
 size:w.heap.size≤w'.heap.size
 blk:∀b:Nat,b<w.heap.size→w'.heap[b]? =w.heap[b]?
theorem m6.refl(w:World):m6 w w:=⟨rfl,rfl,rfl,eo _,fun _ _=>rfl⟩
theorem m6.alloc(w:World)(o:Obj):m6 w (w.alloc o):=⟨rfl,rfl,rfl,by rw[yI];omega,fun b hb=>zj w o hb⟩
theorem m6.drew(w:World):m6 w w.drew:=⟨rfl,rfl,rfl,eo _,fun _ _=>rfl⟩
theorem m6.trans{w w' w'':World}(h:m6 w w')(k:m6 w' w''):m6 w w'':=
 ⟨k.os.trans h.os,k.tape.trans h.tape,k.output.trans h.output,Nat.le_trans h.size k.size,fun b hb=>(k.blk b (Nat.lt_of_lt_of_le hb h.size)).trans (h.blk b hb)⟩
theorem m6.keeps{w w':World}(h:m6 w w')(ι:IM)(st:St):bo all ι w st ι w' st:=
 ⟨h.os,h.tape,h.output,h.size,rfl,fun b hb hm=>⟨h.blk b hb,hm⟩,fun _ _ h=>⟨h,rfl⟩,
  fun b c ty fz hb=>⟨c,(h.blk b (cf hb)).trans hb,rfl⟩⟩
theorem j7.ext{ι:IM}{w w':World}{st:St}(h:m6 w w'){id:Nat}{o:aV}(ho:j7 ι w st id o):j7 ι w' st id o:=by
 have k:=h.keeps ι st
 cases o with
 |dead=>trivial
 |box cells=>
  obtain⟨b,vs,ty,e,hb,hl⟩:=ho
  exact⟨b,vs,ty,e,(h.blk b (cf hb)).trans hb,hl.mono' k⟩
 |win wsz wi pre mid post=>
  obtain⟨b,c0,ty,e,hb,hn0,hl⟩:=ho
  exact⟨b,c0,ty,e,(h.blk b (cf hb)).trans hb,hn0,hl.mono' k⟩
 |rel Rm ps=>
  obtain⟨b,ob,vs0,e,hb,hr0,hl0⟩:=ho
  exact⟨b,ob,vs0,e,(h.blk b (cf hb)).trans hb,hr0,hl0.map fun _ _ h0=>k.pure h0⟩
 |arr sz els=>
  rcases ho with⟨e,he⟩ |⟨b,c,ty,e,hb,h1,h2,h3⟩
  ·exact .inl ⟨e,he⟩
  ·refine .inr ⟨b,c,ty,e,(h.blk b (cf hb)).trans hb,h1,h2,fun i e' j cv a1 a2=> ?_⟩
   obtain⟨v,hv,hr⟩:=h3 i e' j cv a1 a2
   exact⟨v,hv,k.pure hr⟩
theorem eu.ext{ι:IM}{w w':World}{st:St}(h:m6 w w')(r:eu ι w st):eu ι w' st:=
 ⟨fun id o ho=>(r.obj id o ho).ext h,fun b hb=>Nat.lt_of_lt_of_le (r.amb b hb) h.size,r.dis,r.inj,r.glk (h.keeps ι st)⟩
def IM.add(ι:IM)(n:Nat)(b:Option Nat):IM:=⟨fun id=>if id=n then b else ι id,ι.amb⟩
theorem EI{ι:IM}{st:St}{body:aV}{b:Option Nat}{x:Nat}(h:nV (ι.add st.length b) (st++[body]) x):nV ι st x∨b=some x:=by
 obtain⟨id,o,h1,h2,h3⟩:=h
 by_cases hid:id<st.length
 ·rw[nq hid]at h1
  simp only[IM.add,if_neg (Nat.ne_of_lt hid)]at h3
  exact .inl ⟨id,o,h1,h2,h3⟩
 ·have:id=st.length:=by
   have:=(gN.1 h1).1
   simp at this
   omega
  subst this
  simp only[IM.add,if_true]at h3
  exact .inr h3
theorem n7{ι:IM}{w w':World}{st:St}(h:m6 w w')(body:aV)(b:Option Nat)(hb:∀x,b=some x→w.heap.size≤x):
   bo all ι w st (ι.add st.length b) w' (st++[body]):=
 ⟨h.os,h.tape,h.output,h.size,rfl,fun x hx hm=>⟨h.blk x hx,fun hm'=>by
    rcases EI hm' with h1|h1
    ·exact hm h1
    ·have:=hb x h1;omega⟩,fun id _ hid=>⟨by simp;omega,by simp[IM.add,Nat.ne_of_lt hid]⟩,
  fun b c ty fz hb=>⟨c,(h.blk b (cf hb)).trans hb,rfl⟩⟩
theorem eu.add{ι:IM}{w w':World}{st:St}(h:m6 w w')(r:eu ι w st){body:aV}{b:Option Nat}(hb:∀x,b=some x→w.heap.size≤x)
  (ho:j7 (ι.add st.length b) w' (st++[body]) st.length body):eu (ι.add st.length b) w' (st++[body]):=by
 have k:=n7 (ι:=ι) (st:=st) h body b hb
 refine⟨fun id o hid=> ?_,fun b hb=>Nat.lt_of_lt_of_le (r.amb b hb) h.size,fun x hx ha=>by
  rcases EI hx with h1|h1
  ·exact r.dis x h1 ha
  ·have:=hb x h1;have:=r.amb x ha;omega,fun id id' o o' x h1 h2 a1 a2 e1 e2=> ?_,r.glk k⟩
 ·by_cases hlt:id<st.length
  ·rw[nq hlt]at hid
   have:=r.obj id o hid
   have hm:(ι.add st.length b) id=ι id:=by simp[IM.add,Nat.ne_of_lt hlt]
   cases o with
   |dead=>trivial
   |box cells=>
    obtain⟨b',vs,ty,e,hb',hl⟩:=this
    exact⟨b',vs,ty,hm.trans e,(h.blk b' (cf hb')).trans hb',hl.mono' k⟩
   |win wsz wi pre mid post=>
    obtain⟨b',c0,ty,e,hb',hn0,hl⟩:=this
    exact⟨b',c0,ty,hm.trans e,(h.blk b' (cf hb')).trans hb',hn0,hl.mono' k⟩
   |rel Rm ps=>
    obtain⟨b',ob,vs0,e,hb',hr0,hl0⟩:=this
    exact⟨b',ob,vs0,hm.trans e,(h.blk b' (cf hb')).trans hb',hr0,hl0.map fun _ _ h0=>k.pure h0⟩
   |arr sz els=>
    rcases this with⟨e,he⟩ |⟨b',c,ty,e,hb',h1,h2,h3⟩
    ·exact .inl ⟨hm.trans e,he⟩
    ·refine .inr ⟨b',c,ty,hm.trans e,(h.blk b' (cf hb')).trans hb',h1,h2,fun i e' j cv a1 a2=> ?_⟩
     obtain⟨v,hv,hr⟩:=h3 i e' j cv a1 a2
     exact⟨v,hv,k.pure hr⟩
  ·have:id=st.length:=by
    have:=(gN.1 hid).1
    simp at this
    omega
   subst this
   simp at hid
   subst hid
   exact ho
 ·have old:∀i o,(st++[body])[i]? =some o→o.alive→i<st.length→(ι.add st.length b) i=some x→x<w.heap.size:=by
   intro i o hi ha hlt he
   rw[nq hlt]at hi
   simp only[IM.add,if_neg (Nat.ne_of_lt hlt)]at he
   exact r.own_lt ⟨i,o,hi,ha,he⟩
  have last:∀i (o:aV),(st++[body])[i]? =some o→¬i<st.length→i=st.length:=by
   intro i o hi hn
   have:=(gN.1 hi).1
   simp at this
   omega
  by_cases l1:id<st.length<;>by_cases l2:id'<st.length
  ·rw[nq l1]at h1
   rw[nq l2]at h2
   simp only[IM.add,if_neg (Nat.ne_of_lt l1)]at e1
   simp only[IM.add,if_neg (Nat.ne_of_lt l2)]at e2
   exact r.inj id id' o o' x h1 h2 a1 a2 e1 e2
  ·have:=old id o h1 a1 l1 e1
   have e:=last id' o' h2 l2
   subst e
   simp only[IM.add,if_true]at e2
   have:=hb x e2
   omega
  ·have:=old id' o' h2 a2 l2 e2
   have e:=last id o h1 l1
   subst e
   simp only[IM.add,if_true]at e1
   have:=hb x e1
   omega
  ·rw[last id o h1 l1,last id' o' h2 l2]
structure oV(w w':World)(b:Nat):Prop where
 os:w'.os=w.os
 tape:w'.tape=w.tape
 output:w'.output=w.output
 size:w'.heap.size=w.heap.size
 other:∀x:Nat,x≠b→w'.heap[x]? =w.heap[x]?
 shp:∀(c:Array Value) (ty:TypeId) (fz:Nat×Nat),w.heap[b]? =some (.cells c ty fz)→∃c':Array Value,w'.heap[b]? =some (.cells c' ty fz)∧c'.size=c.size
theorem Fo{ι:IM}{st:St}{id:Nat}{body body':aV}(hid:st[id]? =some body)(ha:body.alive){x:Nat}(h:nV ι (st.set id body') x):nV ι st x:=by
 obtain⟨i,o,h1,h2,h3⟩:=h
 by_cases e:i=id
 ·subst e;exact⟨i,body,hid,ha,h3⟩
 ·rw[List.getElem?_set_ne (Ne.symm e)]at h1
  exact⟨i,o,h1,h2,h3⟩
theorem gK{ι:IM}{w w':World}{st:St}{id b:Nat}{body body':aV}(hid:st[id]? =some body)(ha:body.alive)(hb:ι id=some b)(h:oV w w' b):
   bo all ι w st ι w' (st.set id body'):=
 ⟨h.os,h.tape,h.output,by rw[h.size];omega,rfl,fun x _ hm=>by
    have hne:x≠b:=by rintro rfl;exact hm ⟨id,body,hid,ha,hb⟩
    exact⟨h.other x hne,fun hm'=>hm (Fo hid ha hm')⟩,fun _ _ h=>⟨by simpa using h,rfl⟩,
  fun x c ty fz hx=>by
    by_cases e:x=b
    ·subst e;exact h.shp c ty fz hx
    ·exact⟨c,(h.other x e).trans hx,rfl⟩⟩
theorem eu.set{ι:IM}{w w':World}{st:St}{id b:Nat}{body body':aV}(r:eu ι w st)(hid:st[id]? =some body)(ha:body.alive)(hb:ι id=some b)(h:oV w w' b)
  (ho:j7 ι w' (st.set id body') id body'):eu ι w' (st.set id body'):=by
 have k:=gK (body':=body') hid ha hb h
 refine⟨fun i o hi=> ?_,fun b hb=>by rw[h.size];exact r.amb b hb,fun x hx=>r.dis x (Fo hid ha hx),fun i i' o o' x h1 h2 a1 a2 e1 e2=> ?_,r.glk k⟩
 ·by_cases e:i=id
  ·subst e
   have hlt:=(gN.1 hid).1
   rw[List.getElem?_set_self hlt]at hi
   cases hi
   exact ho
  ·rw[List.getElem?_set_ne (Ne.symm e)]at hi
   have:=r.obj i o hi
   cases o with
   |dead=>trivial
   |box cells=>
    obtain⟨b',vs,ty,e',hb',hl⟩:=this
    have hne:b'≠b:=by rintro rfl;exact e (r.inj i id _ _ _ hi hid (by simp[aV.alive]) ha e' hb)
    exact⟨b',vs,ty,e',(h.other b' hne).trans hb',hl.mono' k⟩
   |win wsz wi pre mid post=>
    obtain⟨b',c0,ty,e',hb',hn0,hl⟩:=this
    have hne:b'≠b:=by rintro rfl;exact e (r.inj i id _ _ _ hi hid (by simp[aV.alive]) ha e' hb)
    exact⟨b',c0,ty,e',(h.other b' hne).trans hb',hn0,hl.mono' k⟩
   |rel Rm ps=>
    obtain⟨b',ob,vs0,e',hb',hr0,hl0⟩:=this
    have hne:b'≠b:=by rintro rfl;exact e (r.inj i id _ _ _ hi hid (by simp[aV.alive]) ha e' hb)
    exact⟨b',ob,vs0,e',(h.other b' hne).trans hb',hr0,hl0.map fun _ _ h0=>k.pure h0⟩
   |arr sz els=>
    rcases this with⟨e',he⟩ |⟨b',c,ty,e',hb',h1,h2,h3⟩
    ·exact .inl ⟨e',he⟩
    ·have hne:b'≠b:=by rintro rfl;exact e (r.inj i id _ _ _ hi hid (by simp[aV.alive]) ha e' hb)
     refine .inr ⟨b',c,ty,e',(h.other b' hne).trans hb',h1,h2,fun i e' j cv a1 a2=> ?_⟩
     obtain⟨v,hv,hr⟩:=h3 i e' j cv a1 a2
     exact⟨v,hv,k.pure hr⟩
 ·have conv:∀(j:Nat) (o:aV),(st.set id body')[j]? =some o→o.alive→∃q:aV,st[j]? =some q∧q.alive:=by
   intro j o hj hja
   by_cases e:j=id
   ·subst e;exact⟨body,hid,ha⟩
   ·rw[List.getElem?_set_ne (Ne.symm e)]at hj
    exact⟨o,hj,hja⟩
  obtain⟨q1,z1,y1⟩:=conv i o h1 a1
  obtain⟨q2,z2,y2⟩:=conv i' o' h2 a2
  exact r.inj i i' q1 q2 x z1 z2 y1 y2 e1 e2
abbrev HS:=List (List PV)
abbrev CV.s(v:Value):CV:= .pv (.s v)
structure rT where
 av:AV
 st:St
 ob:List Prop
 hs:HS
 mv:Option Nat:=none
def eH:List Prop→Prop
 |[]=>True
 |p::l=>p∧eH l
theorem eH.append:∀{l m:List Prop},eH (l++m)→eH l∧eH m
 |[],m,h=>⟨trivial,h⟩
 |p::l,m,h=>⟨⟨h.1,(eH.append h.2).1⟩,(eH.append h.2).2⟩
def vr(P:Program)(t:TypeId):Option Nat:=(P.info? t).map (·.size)
def Dk(P:Program)(t:TypeId):Option Bool:=
 match P.underlying t with
 |some (.struct _)=>some true
 |some (.array _ _)=>some true
 |some _=>some false
 |none=>none
def oD:List Value→Bool
 |[]=>true
 |v::l=>oo v&&oD l
def tC(P:Program)(t:TypeId):Option (List CV):=
 match P.info? t with
 |some i=>match i.zero with
  |some z=>if oD z.cells.toList then some (z.cells.toList.map CV.s)else none
  |none=>none
 |none=>none
def Br(v:Value):AV:=
 match v with
 | .agg cs=>if oD cs.toList then .ag (cs.toList.map CV.s)else .j
 |v=>if oo v then .one (CV.s v)else .j
def rv(fr:Fr):Operand→AV
 | .tmp t=>lk fr t
 | .const v=>Br v
 | .global _=> .j
 | .func f=> .one (.pv (.fn f []))
theorem dv.scalars{ι:IM}{w:World}{st:St}:∀{l:List Value},oD l=true→dv ι w st l (l.map CV.s)
 |[],_=>⟨rfl,fun j v c h=>by simp at h⟩
 |x::l,h=>by
  simp only[oD,fM]at h
  refine⟨by simp,fun j v c h1 h2=> ?_⟩
  cases j with
  |zero=>simp at h1 h2;subst h1;subst h2;exact .pv _ _ (.s _ h.1)
  |succ j=>simp at h1 h2;exact(dv.scalars h.2).2 j v c h1 (by simpa using h2)
theorem BG{ι:IM}{w:World}{st:St}(v:Value):aN ι w st v (Br v):=by
 unfold Br
 split
 ·rename_i cs
  split
  ·rename_i h
   have:=aN.ag (ι:=ι) (w:=w) (st:=st) cs.toList (cs.toList.map CV.s) (dv.scalars h)
   simpa using this
  ·exact .j _
 ·split
  ·rename_i h;exact .one _ _ (.pv _ _ (.s _ h))
  ·exact .j _
theorem cu{n:Nat}{ι:IM}{w:World}{st:St}{a:Act}{fr:Fr}(h:fU n ι w st a fr)(x:Operand):aN ι w st (a.eval x) (rv fr x):=by
 cases x with
 |tmp t=>exact h.slot t
 |const v=>exact BG v
 |global g=>exact .j _
 |func f=>exact .one _ _ (.pv _ _ (.fn f [] [] rfl (fun j c v h=>by simp at h)))
def iB(mv:Option Nat):Nat→Bool:=fun id=>match mv with
 |none=>true
 |some m=> !Nat.beq id m
def Mj(P:Program)(o:Oper)(a:Act)(ι:IM)(w:World)(st:St)(out:rT):Prop:=
 ∃v w' ι',(((execOp a.eval o).run P w= .ok (.value v) w')∨((execOp a.eval o).run P w= .ok .skip w'∧v=undef))∧
  eu ι' w' out.st∧aN ι' w' out.st v out.av∧bo (fun id=>iB out.mv id=true) ι w st ι' w' out.st
theorem Mj.still{P:Program}{o:Oper}{a:Act}{ι:IM}{w:World}{st:St}{av:AV}{ob:List Prop}{hs:HS}(r:eu ι w st){v:Value}
  (h:(execOp a.eval o).run P w= .ok (.value v) w)(hv:aN ι w st v av):Mj P o a ι w st ⟨av,st,ob,hs,none⟩:=
 ⟨v,w,ι,.inl h,r,hv,.refl⟩
def JH(op:BinOp)(x y:Value):Option (Value×List Prop):=
 match x,y with
 | .int k a,.int k' b=>
  match op with
  | .shl=>some (.int k (k.wrap (a*2^(min b.toNat k.bits))),[0≤b])
  | .shr=>some (.int k (a.fdiv (2^(min b.toNat k.bits))),[0≤b])
  |_=>bif decide (k=k')then
   match op with
   | .add=>some (.int k (k.wrap (a+b)),[])
   | .sub=>some (.int k (k.wrap (a-b)),[])
   | .mul=>some (.int k (k.wrap (a*b)),[])
   | .quo=>some (.int k (k.wrap (a.tdiv b)),[b≠0])
   | .rem=>some (.int k (a.tmod b),[b≠0])
   | .and=>some (.int k (k.wrap (BitVec.ofInt k.bits a &&& BitVec.ofInt k.bits b).toNat),[])
   | .or=>some (.int k (k.wrap (BitVec.ofInt k.bits a ||| BitVec.ofInt k.bits b).toNat),[])
   | .xor=>some (.int k (k.wrap (BitVec.ofInt k.bits a ^^^ BitVec.ofInt k.bits b).toNat),[])
   | .andNot=>some (.int k (k.wrap (BitVec.ofInt k.bits a &&& ~~~ BitVec.ofInt k.bits b).toNat),[])
   | .eql=>some (.bool (a==b),[])
   | .neq=>some (.bool (a != b),[])
   | .lss=>some (.bool (decide (a<b)),[])
   | .leq=>some (.bool (decide (a≤b)),[])
   | .gtr=>some (.bool (decide (b<a)),[])
   | .geq=>some (.bool (decide (b≤a)),[])
   |_=>none
   else none
 | .string a,.string b=>
  match op with
  | .add=>some (.string (a++b),[a.size+b.size≤4611686018427387904])
  | .eql=>some (.bool (a.toList==b.toList),[])
  | .neq=>some (.bool (!(a.toList==b.toList)),[])
  | .lss=>some (.bool (Op.bytesLess a.toList b.toList),[])
  | .leq=>some (.bool (Op.bytesLess a.toList b.toList||a.toList==b.toList),[])
  | .gtr=>some (.bool (!(Op.bytesLess a.toList b.toList||a.toList==b.toList)),[])
  | .geq=>some (.bool (!Op.bytesLess a.toList b.toList),[])
  |_=>none
 |_,_=>none
theorem GL{P:Program}{op:BinOp}{t:TypeId}{x y:Value}{px py:Operand}{v:Value}{ob:List Prop}(h:JH op x y=some (v,ob))(hob:eH ob)(w:World):
  (do eqGuard op t px py x y;binOp op t x y:Sem Value).run P w= .ok v w:=by
 have hg:(eqGuard op t px py x y).run P w= .ok () w:=by
  unfold eqGuard
  cases x<;>simp only[JH]at h<;>try (cases h;done)
  all_goals (cases y<;>simp only at h<;>try (cases h;done))
  all_goals (split<;>rfl)
 rw[Sem.run_bind,hg,Result.andThen_ok]
 unfold JH at h
 split at h
 ·rename_i k a k' b
  cases op
  case shl=>cases h;obtain⟨hob,_⟩:=hob;simp[binOp,Op.shift,show¬b<0 from by omega]
  case shr=>cases h;obtain⟨hob,_⟩:=hob;simp[binOp,Op.shift,show¬b<0 from by omega]
  all_goals
   by_cases hk:k=k'
   ·subst hk
    simp only[decide_true,cond_true]at h
    first
     |(cases h;done)
     |(cases h;simp[binOp,Op.intArith,Op.intBits,Op.intCmp];done)
     |(cases h;obtain⟨hob,_⟩:=hob;simp[binOp,Op.intDiv,hob];done)
   ·simp[hk]at h
 ·rename_i a b
  cases op<;>simp only at h<;>try (cases h;done)
  case add=>
   cases h
   obtain⟨hob,_⟩:=hob
   have hm:¬((a.size+b.size:Nat):Int)>IntKind.i64.max:=by simp[IntKind.max,IntKind.signed,IntKind.bits];omega
   simp only[binOp,Op.stringOp]
   rw[if_neg hm]
   rfl
  all_goals (cases h;simp[binOp,Op.stringOp])
 ·cases h
def CK(P:Program)(op:BinOp)(t:TypeId)(x y:Value):Option (Value×List Prop):=
 match x with
 | .bool a=>match y with
  | .bool b=>match P.underlying t with
   |some .bool=>match op with
    | .eql=>some (.bool (a==b),[])
    | .neq=>some (.bool (!(a==b)),[])
    |_=>none
   |_=>none
  |_=>none
 |_=>JH op x y
theorem Ef{P:Program}{op:BinOp}{t:TypeId}{x y:Value}{px py:Operand}{v:Value}{ob:List Prop}(h:CK P op t x y=some (v,ob))(hob:eH ob)(w:World):
  (do eqGuard op t px py x y;binOp op t x y:Sem Value).run P w= .ok v w:=by
 cases x with
 |bool a=>
  cases y<;>simp only[CK]at h<;>try (cases h;done)
  rename_i b
  split at h
  ·rename_i hu
   have he:(Op.equal t (.bool a) (.bool b)).run P w= .ok (a==b) w:=run_equalIn_bool w _ t a b hu
   cases op<;>simp only at h<;>try (cases h;done)
   ·cases h
    simp[eqGuard,binOp,he]
   ·cases h
    simp[eqGuard,binOp,he]
  ·cases h
 |_=>simp only[CK]at h;exact GL h hob w
theorem Cx{P:Program}{op:BinOp}{t:TypeId}{x y:Value}{r:Value×List Prop}(h:CK P op t x y=some r):(∃b,r.1= .bool b)∨JH op x y=some r:=by
 cases x with
 |bool a=>
  cases y<;>simp only[CK]at h<;>try (cases h;done)
  split at h
  ·cases op<;>simp only at h<;>try (cases h;done)
   all_goals (cases h;exact .inl ⟨_,rfl⟩)
  ·cases h
 |_=>simp only[CK]at h;exact .inr h
end Go.SX
namespace Go.SX
open Go
variable {P:Program} {ι:IM} {w:World} {st:St}
theorem dv.append{a b:List Value}{x y:List CV}(h:dv ι w st a x)(k:dv ι w st b y):dv ι w st (a++b) (x++y):=by
 refine⟨by simp[h.1,k.1],fun j v c h1 h2=> ?_⟩
 by_cases hj:j<a.length
 ·rw[nq hj]at h1
  rw[nq (by rw[←h.1];exact hj)]at h2
  exact h.2 j v c h1 h2
 ·rw[List.getElem?_append_right (by omega)]at h1
  rw[List.getElem?_append_right (by rw[←h.1];omega),←h.1]at h2
  exact k.2 _ v c h1 h2
theorem dv.take{a:List Value}{x:List CV}(h:dv ι w st a x)(n:Nat):dv ι w st (a.take n) (x.take n):=by
 refine⟨by simp[h.1],fun j v c h1 h2=> ?_⟩
 rw[List.getElem?_take]at h1 h2
 split at h1
 ·rename_i hj;rw[if_pos hj]at h2;exact h.2 j v c h1 h2
 ·cases h1
theorem dv.drop{a:List Value}{x:List CV}(h:dv ι w st a x)(n:Nat):dv ι w st (a.drop n) (x.drop n):=by
 refine⟨by simp[h.1],fun j v c h1 h2=> ?_⟩
 rw[List.getElem?_drop]at h1 h2
 exact h.2 _ v c h1 h2
theorem dv.one{v:Value}{c:CV}(h:bX ι w st v c):dv ι w st [v] [c]:=by
 refine⟨rfl,fun j v' c' h1 h2=> ?_⟩
 cases j with
 |zero=>simp at h1 h2;subst h1;subst h2;exact h
 |succ j=>simp at h1
theorem dv.oneCell{a:List Value}{x:List CV}(h:dv ι w st a x):∀v∈a,v.oneCell'=true:=by
 intro v hv
 obtain⟨j,hj⟩:=List.getElem?_of_mem hv
 have hlt:j<x.length:=by rw[←h.1];exact(gN.1 hj).1
 exact(h.2 j v _ hj (gu hlt)).oneCell
def tX:AV→Option (List CV)
 | .one c=>some [c]
 | .ag cs=>some cs
 |_=>none
theorem Bt{v:Value}(h:v.oneCell'=true):v.cells= #[v]:=by
 cases v<;>simp_all[Value.cells,Value.oneCell']
theorem rP{v:Value}{av:AV}{cs:List CV}(h:aN ι w st v av)(hc:tX av=some cs):dv ι w st v.cells.toList cs:=by
 cases h with
 |j=>cases hc
 |one v c h=>cases hc;rw[Bt h.oneCell];exact .one h
 |ag vs cs h=>cases hc;simpa [Value.cells]using h
 |tp=>cases hc
def sV(place:Nat→Option (Nat×Nat))(cells:List CV):List (Nat×List CV)→Option (List CV)
 |[]=>some cells
 |(i,v)::rest=>
  match place i with
  |none=>none
  |some (off,size)=>
   bif Nat.beq v.length size&&Nat.ble (off+size) cells.length then sV place (cells.take off++(v++cells.drop (off+size))) rest else none
theorem FI(off:Nat):∀(vs:List Value) (k:Nat) (arr:Array Value),off+k+vs.length≤arr.size→
  ((vs.zipIdx k).foldl (fun cs (p:Value×Nat)=>cs.setIfInBounds (off+p.2) p.1) arr).toList=arr.toList.take (off+k)++vs++arr.toList.drop (off+k+vs.length)
 |[],k,arr,_=>by simp
 |v::vs,k,arr,h=>by
  simp only[List.zipIdx_cons,List.foldl_cons]
  rw[FI off vs (k+1) _ (by simp at h⊢;omega)]
  have e:=list_seg_step arr.toList (off+k) v vs (by simp at h⊢;omega)
  simp only[Array.toList_setIfInBounds]
  rw[←Nat.add_assoc,show off+k+(v::vs).length=off+k+(vs.length+1) by simp]
  exact e
theorem va{place:Nat→Option (Nat×Nat)}:∀{parts:List (Nat×Value)} {pcs:List (Nat×List CV)} {cells:Array Value} {cs cs':List CV},
  dv ι w st cells.toList cs→parts.length=pcs.length→
  (∀(j:Nat) (p:Nat×Value) (q:Nat×List CV),parts[j]? =some p→pcs[j]? =some q→p.1=q.1∧dv ι w st p.2.cells.toList q.2)→
  sV place cs pcs=some cs'→∃arr,Instr.fill place cells parts=some arr∧dv ι w st arr.toList cs'
 |[],[],cells,cs,cs',h,_,_,hf=>by
  simp only[sV]at hf;cases hf
  exact⟨cells,rfl,h⟩
 |[],q::pcs,_,_,_,_,hl,_,_=>by simp at hl
 |p::parts,[],_,_,_,_,hl,_,_=>by simp at hl
 |(i,v)::parts,(i',vc)::pcs,cells,cs,cs',h,hl,hp,hf=>by
  obtain⟨e,hv⟩:=hp 0 (i,v) (i',vc) rfl rfl
  simp only at e hv
  subst e
  simp only[sV]at hf
  cases hpl:place i with
  |none=>simp[hpl]at hf
  |some os=>
   obtain⟨off,size⟩:=os
   simp only[hpl]at hf
   cases hb:(Nat.beq vc.length size&&Nat.ble (off+size) cs.length)with
   |false=>simp[hb]at hf
   |true=>
    simp only[hb,cond_true]at hf
    simp only[fM]at hb
    have h1:vc.length=size:=kW hb.1
    have h2:off+size≤cs.length:=n4 hb.2
    have hvl:v.cells.size=size:=by have:=hv.1;simp at this;omega
    have hcl:cells.size=cs.length:=by have:=h.1;simpa using this
    have hstep:dv ι w st (v.cells.zipIdx.foldl (fun cs (c,j)=>cs.setIfInBounds (off+j) c) cells).toList (cs.take off++(vc++cs.drop (off+size))):=by
     have e:=FI off v.cells.toList 0 cells (by simp;omega)
     have e2:(v.cells.zipIdx.foldl (fun cs (c,j)=>cs.setIfInBounds (off+j) c) cells)=((v.cells.toList.zipIdx 0).foldl (fun cs (p:Value×Nat)=>cs.setIfInBounds (off+p.2) p.1) cells):=by
      rw[←Array.foldl_toList]
      congr 1
      simp
     rw[e2,e]
     simp only[Nat.add_zero,Array.length_toList,List.append_assoc]
     rw[hvl]
     exact(h.take off).append (hv.append (h.drop _))
    obtain⟨arr,a1,a2⟩:=va hstep (by simpa using hl) (fun j p q x y=>hp (j+1) p q (by simpa using x) (by simpa using y)) hf
    refine⟨arr,?_,a2⟩
    unfold Instr.fill
    simp only[hpl]
    rw[if_neg]
    ·exact a1
    ·simp[hvl];omega
def Ec(e:List CV)(off n:Nat):Option (List CV):=bif Nat.ble (off+n) e.length then some ((e.drop off).take n)else none
def xB(g:Bool)(cs:List CV):Option AV:=
 match g with
 |true=>some (.ag cs)
 |false=>match cs with
  |[c]=>some (.one c)
  |_=>none
def xX(g:Bool)(vs:List Value):Value:=
 match g with
 |true=> .agg vs.toArray
 |false=>vs.headD undef
theorem sg{t:TypeId}{g:Bool}(h:Dk P t=some g)(w:World):(isAgg t).run P w= .ok g w:=by
 unfold Dk at h
 cases hu:P.underlying t with
 |none=>simp[hu]at h
 |some d=>cases d<;>simp[hu]at h<;>subst h<;>simp[isAgg,run_underlying hu]
theorem cS{t:TypeId}{n:Nat}(h:vr P t=some n)(w:World):(sizeOf t).run P w= .ok n w:=by
 unfold vr at h
 cases hi:P.info? t with
 |none=>simp[hi]at h
 |some i=>simp[hi]at h;simp[sizeOf,typeInfo,hi,h]
theorem qo{t:TypeId}{g:Bool}{n:Nat}(hg:Dk P t=some g)(hn:vr P t=some n){A:Addr}{vs:List Value}(hl:vs.length=n)
  (h1:g=false→n=1)(hc:∀(j:Nat) v,vs[j]? =some v→w.cell? (A.add j)=some v):(Instr.loadAt t (.pointer (some A))).run P w= .ok (xX g vs) w:=by
 cases g with
 |true=>
  have:=run_loadCells_list (P:=P) w A vs hc
  rw[hl]at this
  simp[Instr.loadAt,Instr.sureAddr,loadVar,sg hg,cS hn,this,xX]
 |false=>
  have hn1:=h1 rfl
  subst hn1
  match vs,hl with
  |[v],_=>
   have:=hc 0 v rfl
   have e:A.add 0=A:=by simp[Addr.add]
   rw[e]at this
   simp[Instr.loadAt,Instr.sureAddr,loadVar,sg hg,this,xX]
theorem pO{g:Bool}{vs:List Value}{cs:List CV}{av:AV}(h:dv ι w st vs cs)(hm:xB g cs=some av):aN ι w st (xX g vs) av:=by
 cases g with
 |true=>simp only[xB]at hm;cases hm;exact .ag _ _ h
 |false=>
  match cs,hm with
  |[c],hm=>
   simp only[xB]at hm;cases hm
   match vs,h with
   |[v],h=>exact .one _ _ (h.2 0 v c rfl rfl)
   |[],h=>have:=h.1;simp at this
   |_::_::_,h=>have:=h.1;simp at this
theorem rm{cs:List CV}{av:AV}(hm:xB false cs=some av):cs.length=1:=by
 match cs,hm with
 |[c],_=>rfl
 |[],h=>simp[xB]at h
 |_::_::_,h=>simp[xB]at h
def Ea(P:Program)(t:TypeId)(c:CV)(st:St)(hs:HS):Option rT:=
 match Dk P t,vr P t with
 |some g,some n=>
  match c with
  | .pv (.rp els i off)=>
   match hs with
   |e::hs'=>((Ec (e.map CV.pv) off n).bind (xB g)).map fun av=>⟨av,st,[els[i]? =some e],hs',none⟩
   |[]=>none
  | .pt id sz i off=>
   match st[id]? with
   |some (.box cells)=>bif Nat.beq sz 0 then((Ec cells off n).bind (xB g)).map fun av=>⟨av,st,[],hs,none⟩else none
   |some (.arr sz' els)=>
    bif Nat.beq sz sz' then
     match hs with
     |e::hs'=>((Ec (e.map CV.pv) off n).bind (xB g)).map fun av=>⟨av,st,[els[i]? =some e],hs',none⟩
     |[]=>none
    else none
   |some (.win sz' i' _ mid _)=>bif Nat.beq sz sz' then((Ec mid off n).bind (xB g)).map fun av=>⟨av,st,[i=i'],hs,none⟩else none
   |_=>none
  |_=>none
 |_,_=>none
theorem kE{w:World}{b o:Nat}{c:Array Value}{ty:TypeId}{fz:Nat×Nat}(h:w.heap[b]? =some (.cells c ty fz)):w.cell? ⟨b,o,none⟩=c[o]? :=by
 simp[World.cell?,h]
theorem add_lit(b o j:Nat):(⟨b,o,none⟩:Addr).add j=⟨b,o+j,none⟩:=by
 unfold Addr.add;split<;>simp_all
theorem tY{e:List CV}{off n:Nat}{cs:List CV}(hc:Ec e off n=some cs):cs=(e.drop off).take n∧off+n≤e.length∧cs.length=n:=by
 unfold Ec at hc
 cases hb:Nat.ble (off+n) e.length with
 |false=>simp[hb]at hc
 |true=>
  simp[hb]at hc
  have:=n4 hb
  subst hc
  exact⟨rfl,this,by simp;omega⟩
theorem yl{t:TypeId}{c:CV}{hs:HS}{out:rT}(h:Ea P t c st hs=some out)(hob:eH out.ob)(r:eu ι w st){v:Value}(hv:bX ι w st v c):
  ∃u,(Instr.loadAt t v).run P w= .ok u w∧aN ι w st u out.av∧out.st=st∧out.mv=none:=by
 unfold Ea at h
 cases hg:Dk P t with
 |none=>simp[hg]at h
 |some g=>
  cases hn:vr P t with
  |none=>simp[hg,hn]at h
  |some n=>
   simp only[hg,hn]at h
   cases hv with
   |sl=>simp at h
   |sn=>simp at h
   |fn=>simp at h
   |mp=>simp at h
   |cl=>simp at h
   |pv _ p hp=>
    cases hp with
    |s=>simp at h
    |nl=>simp at h
    |ro=>simp at h
    |fn=>simp at h
    |rp a sz els i off vf hsz hb hc hvv=>
     cases hs with
     |nil=>simp at h
     |cons e hs'=>
      simp only[mE,Option.bind_eq_some_iff]at h
      obtain⟨av,⟨cs,hcut,hmk⟩,rfl⟩:=h
      obtain⟨rfl,hle,hlen⟩:=tY hcut
      simp only[List.length_map]at hle
      have hob:=hob.1
      have hel:e.length=sz:=hsz e (List.mem_of_getElem? hob)
      have hL:dv ι w st ((List.range n).map fun j=>vf i (off+j)) (((e.map CV.pv).drop off).take n):=by
       refine⟨by simp;omega,fun j v c h1 h2=> ?_⟩
       rw[List.getElem?_take]at h2
       split at h2
       ·rename_i hj
        rw[List.getElem?_drop,List.getElem?_map,mE]at h2
        obtain⟨p,h2,rfl⟩:=h2
        simp[hj]at h1
        subst h1
        exact .pv _ _ (hvv i e (off+j) p hob h2)
       ·cases h2
      refine⟨_,qo (A:=a.add (i*sz+off)) (vs:=(List.range n).map fun j=>vf i (off+j)) hg hn (by simp) ?_ ?_,pO hL hmk,rfl,rfl⟩
      ·rintro rfl;have:=rm hmk;omega
      ·intro j v h1
       have hj:j<n:=by simpa using(gN.1 h1).1
       simp[hj]at h1
       subst h1
       rw[qn,Nat.add_assoc]
       have hlt:off+j<e.length:=by omega
       exact hc i e (off+j) _ hob (gu hlt)
   |pt id sz i off b hid hb=>
    simp only at h
    cases hs0:st[id]? with
    |none=>simp[hs0]at h
    |some body=>
     cases body with
     |dead=>simp[hs0]at h
     |rel=>simp[hs0]at h
     |win wsz wi pre mid post=>
      simp only[hs0]at h
      cases hz:Nat.beq sz wsz with
      |false=>simp[hz]at h
      |true=>
       have:=kW hz
       subst this
       simp only[hz,cond_true,mE,Option.bind_eq_some_iff]at h
       obtain⟨av,⟨cs,hcut,hmk⟩,rfl⟩:=h
       obtain⟨rfl,hle,hlen⟩:=tY hcut
       have hob:i=wi:=hob.1
       subst hob
       obtain⟨b',c,ty,e1,e2,hn0,hl⟩:=r.obj id _ hs0
       rw[hb]at e1;cases e1
       have hl2:=hl.drop pre.length
       have hm:((pre.map CV.pv++(mid++post.map CV.pv)).drop pre.length)=mid++post.map CV.pv:=by simp
       rw[hm]at hl2
       have hl3:=(hl2.drop off).take n
       have hm3:((mid++post.map CV.pv).drop off).take n=(mid.drop off).take n:=by
        rw[List.drop_append_of_le_length (by omega),List.take_append_of_le_length (by simp;omega)]
       rw[hm3]at hl3
       refine⟨_,qo (A:=⟨b,i*sz+off,none⟩) (vs:=(((c.toList.take (pre.length+(mid.length+post.length))).drop pre.length).drop off).take n) hg hn (by have:=hl2.1;simp at this⊢;omega) ?_ ?_,pO hl3 hmk,rfl,rfl⟩
       ·rintro rfl;have:=rm hmk;omega
       ·intro j v h1
        rw[add_lit,kE e2]
        rw[List.getElem?_take]at h1
        split at h1
        ·rw[List.getElem?_drop,List.getElem?_drop,List.getElem?_take]at h1
         split at h1
         ·rw[←hn0];simpa [Nat.add_assoc]using h1
         ·cases h1
        ·cases h1
     |box cells=>
      simp only[hs0]at h
      cases hz:Nat.beq sz 0 with
      |false=>simp[hz]at h
      |true=>
       have:=kW hz
       subst this
       simp only[hz,cond_true,mE,Option.bind_eq_some_iff]at h
       obtain⟨av,⟨cs,hcut,hmk⟩,rfl⟩:=h
       obtain⟨rfl,hle,hlen⟩:=tY hcut
       obtain⟨b',vs,ty,e1,e2,hl⟩:=r.obj id _ hs0
       rw[hb]at e1;cases e1
       refine⟨_,qo (A:=⟨b,i*0+off,none⟩) (vs:=(vs.drop off).take n) hg hn (by have:=hl.1;simp;omega) ?_ ?_,pO ((hl.drop off).take n) hmk,rfl,rfl⟩
       ·rintro rfl;have:=rm hmk;omega
       ·intro j v h1
        rw[add_lit,kE e2]
        rw[List.getElem?_take]at h1
        split at h1
        ·rw[List.getElem?_drop]at h1
         simpa using h1
        ·cases h1
     |arr sz' els=>
      simp only[hs0]at h
      cases hz:Nat.beq sz sz' with
      |false=>simp[hz]at h
      |true=>
       have:=kW hz
       subst this
       cases hs with
       |nil=>simp[hz]at h
       |cons e hs'=>
        simp only[hz,cond_true,mE,Option.bind_eq_some_iff]at h
        obtain⟨av,⟨cs,hcut,hmk⟩,rfl⟩:=h
        obtain⟨rfl,hle,hlen⟩:=tY hcut
        simp only[List.length_map]at hle
        have hob:=hob.1
        rcases r.obj id _ hs0 with⟨e1,he⟩ |⟨b',c,ty,e1,e2,hcs,hsz,hcell⟩
        ·subst he;simp at hob
        ·rw[hb]at e1;cases e1
         have hel:e.length=sz:=hsz e (List.mem_of_getElem? hob)
         have hL:dv ι w st ((List.range n).map fun j=>c.getD (i*sz+(off+j)) undef) (((e.map CV.pv).drop off).take n):=by
          refine⟨by simp;omega,fun j v cv h1 h2=> ?_⟩
          rw[List.getElem?_take]at h2
          split at h2
          ·rename_i hj
           rw[List.getElem?_drop,List.getElem?_map,mE]at h2
           obtain⟨p,h2,rfl⟩:=h2
           simp[hj]at h1
           obtain⟨v',a1,a2⟩:=hcell i e (off+j) p hob h2
           have:v'=v:=by rw[←h1];simp[a1]
           exact this▸.pv _ _ a2
          ·cases h2
         refine⟨_,qo (A:=⟨b,i*sz+off,none⟩) (vs:=(List.range n).map fun j=>c.getD (i*sz+(off+j)) undef) hg hn (by simp) ?_ ?_,pO hL hmk,rfl,rfl⟩
         ·rintro rfl;have:=rm hmk;omega
         ·intro j v h1
          have hj:j<n:=by simpa using(gN.1 h1).1
          simp[hj]at h1
          rw[add_lit,kE e2]
          have hlt:off+j<e.length:=by omega
          obtain⟨v',a1,a2⟩:=hcell i e (off+j) _ hob (gu hlt)
          rw[Nat.add_assoc,a1]
          rw[←h1];simp[a1]
end Go.SX
namespace Go.SX
open Go
variable {P:Program} {ι:IM} {w:World} {st:St}
theorem oH{α:Type}(l vs:List α)(o k:Nat)(h:o+vs.length≤l.length):
  (l.take o++(vs++l.drop (o+vs.length)))[k]? =if k<o then l[k]? else if k<o+vs.length then vs[k-o]? else l[k]? :=by
 have ho:min o l.length=o:=by omega
 by_cases h1:k<o
 ·rw[nq (by simp;omega),if_pos h1,List.getElem?_take,if_pos h1]
 ·rw[List.getElem?_append_right (by simp;omega),if_neg h1]
  simp only[List.length_take,ho]
  by_cases h2:k<o+vs.length
  ·rw[nq (by omega),if_pos h2]
  ·rw[List.getElem?_append_right (by omega),if_neg h2,List.getElem?_drop]
   congr 1
   omega
theorem lZ{g:Nat}{c arr:Array Value}{ty:TypeId}{fz:Nat×Nat}(hg:w.heap[g]? =some (.cells c ty fz))(hs:arr.size=c.size):oV w (w.setRow g arr) g:=
 ⟨rfl,rfl,rfl,by simp[World.setRow],fun x hx=>setRow_other w g x arr hx,fun c' ty' fz' h=>by
  rw[hg]at h;cases h
  exact⟨arr,setRow_heap w g c arr ty fz hg,hs⟩⟩
def uB:List CV→Option (List PV)
 |[]=>some []
 | .pv p::l=>match uB l with
  |some r=>some (p::r)
  |none=>none
 |_::_=>none
theorem rR:∀{cs:List CV} {ps:List PV},uB cs=some ps→cs=ps.map CV.pv
 |[],ps,h=>by simp[uB]at h;subst h;rfl
 | .pv p::l,ps,h=>by
  simp only[uB]at h
  cases h1:uB l with
  |none=>simp[h1]at h
  |some r=>simp[h1]at h;subst h;simp[rR h1]
 | .pt _ _ _ _::l,ps,h=>by simp[uB]at h
 | .sl _ _ _ _::l,ps,h=>by simp[uB]at h
 | .fn _ _::l,ps,h=>by simp[uB]at h
theorem oQ{v:Value}{p:PV}(h:bX ι w st v (.pv p)):dr (fK ι st) w v p:=by
 cases h;assumption
def Mn(P:Program)(t:TypeId)(c:CV)(vcs:List CV)(st:St)(hs:HS):Option rT:=
 match vr P t with
 |some n=>
  bif Nat.beq vcs.length n then
   match c with
   | .pt id sz i off=>
    match st[id]? with
    |some (.box cells)=>
     bif Nat.beq sz 0&&Nat.ble (off+n) cells.length then some ⟨.j,st.set id (.box (cells.take off++(vcs++cells.drop (off+n)))),[],hs,none⟩else none
    |some (.arr sz' els)=>
     match hs,uB vcs with
     |e::hs',some ps=>
      bif Nat.beq sz sz'&&Nat.ble (off+n) e.length then
       some ⟨.j,st.set id (.arr sz (els.set i (e.take off++(ps++e.drop (off+n))))),[els[i]? =some e],hs',none⟩
      else none
     |_,_=>none
    |some (.win sz' i' pre mid post)=>
     bif Nat.beq sz sz'&&Nat.ble (off+n) mid.length then some ⟨.j,st.set id (.win sz i' pre (mid.take off++(vcs++mid.drop (off+n))) post),[i=i'],hs,none⟩else none
    |_=>none
   |_=>none
  else none
 |none=>none
theorem Di{α:Type}{l xs:List α}{a L:Nat}(h:a+xs.length≤L)(hl:L≤l.length):
  (l.take a++xs++l.drop (a+xs.length)).take L=(l.take L).take a++(xs++(l.take L).drop (a+xs.length)):=by
 rw[List.take_take,Nat.min_eq_left (by omega),List.drop_take,List.append_assoc,List.take_append,List.take_append]
 have e:(l.take a).length=a:=by simp;omega
 rw[e,List.take_of_length_le (l:=l.take a) (by rw[e];omega),List.take_of_length_le (l:=xs) (by omega),Nat.sub_sub]
theorem qY{t:TypeId}{n:Nat}(hn:vr P t=some n){b o:Nat}{c:Array Value}{ty:TypeId}{x:Value}(hl:x.cells.size=n)
  (hb:w.heap[b]? =some (.cells c ty (0,0)))(hfit:o+n≤c.size)(h1:∀v∈x.cells.toList,v.oneCell'=true):
  (Instr.storeAt t (.pointer (some ⟨b,o,none⟩)) x).run P w= .ok () (w.setRow b (c.toList.take o++x.cells.toList++c.toList.drop (o+x.cells.toList.length)).toArray):=by
 have:=run_storeCells_at P b o ty x.cells.toList 0 c w hb (by simp;omega) h1
 simp only[Nat.add_zero]at this
 simp only[Instr.storeAt,Instr.sureAddr,storeVar,Sem.run_bind,Sem.run_pure,Result.andThen_ok,cS hn,hl,ne_eq,not_true_eq_false,if_false]
 exact this
theorem rG{i i' sz j:Nat}(h:i'<i)(hj:j<sz):i'*sz+j<i*sz:=by
 have:(i'+1)*sz≤i*sz:=Nat.mul_le_mul_right sz h
 rw[Nat.add_mul,Nat.one_mul]at this
 omega
theorem Dq{t:TypeId}{c:CV}{vcs:List CV}{hs:HS}{out:rT}(h:Mn P t c vcs st hs=some out)(hob:eH out.ob)(r:eu ι w st){v x:Value}(hv:bX ι w st v c)
  (hx:dv ι w st x.cells.toList vcs):∃w',(Instr.storeAt t v x).run P w= .ok () w'∧eu ι w' out.st∧bo all ι w st ι w' out.st∧out.av= .j∧out.mv=none:=by
 unfold Mn at h
 cases hn:vr P t with
 |none=>simp[hn]at h
 |some n=>
  simp only[hn]at h
  cases hbl:Nat.beq vcs.length n with
  |false=>simp[hbl]at h
  |true=>
   have hvl:=kW hbl
   simp only[hbl,cond_true]at h
   have hxl:x.cells.size=n:=by have:=hx.1;simp at this;omega
   cases hv with
   |pv=>simp at h
   |sl=>simp at h
   |sn=>simp at h
   |fn=>simp at h
   |mp=>simp at h
   |cl=>simp at h
   |pt id sz i off b hid hb=>
    simp only at h
    cases hs0:st[id]? with
    |none=>simp[hs0]at h
    |some body=>
     cases body with
     |dead=>simp[hs0]at h
     |rel=>simp[hs0]at h
     |win wsz wi pre mid post=>
      simp only[hs0]at h
      cases hz:(Nat.beq sz wsz&&Nat.ble (off+n) mid.length)with
      |false=>simp[hz]at h
      |true=>
       simp only[hz,cond_true]at h
       cases h
       simp only[fM]at hz
       have hz0:=kW hz.1
       have hle:=n4 hz.2
       subst hz0
       have hob:i=wi:=hob.1
       subst hob
       obtain⟨b',c,ty,e1,e2,hn0,hl⟩:=r.obj id _ hs0
       rw[hb]at e1;cases e1
       have hvsl:pre.length+(mid.length+post.length)≤c.size:=by have:=hl.1;simp at this;omega
       have hxn:x.cells.toList.length=n:=by simpa using hxl
       have hrun:=qY (P:=P) (w:=w) hn (b:=b) (o:=i*sz+off) (x:=x) hxl e2 (by omega) hx.oneCell
       have hw:=lZ (w:=w) (arr:=(c.toList.take (i*sz+off)++x.cells.toList++c.toList.drop (i*sz+off+x.cells.toList.length)).toArray) e2 (by simp;omega)
       have ha:aV.alive (.win sz i pre mid post):=by simp[aV.alive]
       have k:=gK (body':= .win sz i pre (mid.take off++(vcs++mid.drop (off+n))) post) hs0 ha hb hw
       refine⟨_,hrun,r.set hs0 ha hb hw ?_,k,rfl,rfl⟩
       refine⟨b,_,ty,hb,setRow_heap w b _ _ ty _ e2,hn0,?_⟩
       have hL:=dv.mono' k ((hl.take (i*sz+off)).append (hx.append (hl.drop (i*sz+off+n))))
       have em:(mid.take off++(vcs++mid.drop (off+n))).length=mid.length:=by simp;omega
       rw[em]
       have e3:=Di (l:=c.toList) (xs:=x.cells.toList) (a:=i*sz+off) (L:=pre.length+(mid.length+post.length)) (by omega) (by simpa using hvsl)
       have e4:(pre.map CV.pv++(mid++post.map CV.pv)).take (i*sz+off)=pre.map CV.pv++mid.take off:=by
        rw[←hn0,List.take_append,List.take_of_length_le (by simp),List.length_map,Nat.add_sub_cancel_left,List.take_append_of_le_length (by omega)]
       have e5:(pre.map CV.pv++(mid++post.map CV.pv)).drop (i*sz+off+n)=mid.drop (off+n)++post.map CV.pv:=by
        rw[←hn0,List.drop_append,List.drop_eq_nil_of_le (by simp;omega),List.length_map,Nat.add_assoc,Nat.add_sub_cancel_left,List.drop_append_of_le_length (by omega)];rfl
       rw[e4,e5]at hL
       simp only[List.toList_toArray]
       rw[e3]
       simpa [hxl]using hL
     |box cells=>
      simp only[hs0]at h
      cases hz:(Nat.beq sz 0&&Nat.ble (off+n) cells.length)with
      |false=>simp[hz]at h
      |true=>
       simp only[hz,cond_true]at h
       cases h
       simp only[fM]at hz
       have hz0:=kW hz.1
       have hle:=n4 hz.2
       subst hz0
       obtain⟨b',vs,ty,e1,e2,hl⟩:=r.obj id _ hs0
       rw[hb]at e1;cases e1
       have hvsl:vs.length=cells.length:=hl.1
       have hrun:=qY (P:=P) (w:=w) hn (b:=b) (o:=i*0+off) (x:=x) hxl e2 (by simp;omega) hx.oneCell
       have hw:=lZ (w:=w) (arr:=(vs.toArray.toList.take (i*0+off)++x.cells.toList++vs.toArray.toList.drop (i*0+off+x.cells.toList.length)).toArray) e2 (by simp;omega)
       have ha:aV.alive (.box cells):=by simp[aV.alive]
       have k:=gK (body':= .box (cells.take off++(vcs++cells.drop (off+n)))) hs0 ha hb hw
       refine⟨_,hrun,r.set hs0 ha hb hw ?_,k,rfl,rfl⟩
       refine⟨b,_,ty,hb,setRow_heap w b _ _ ty _ e2,?_⟩
       have hL:=dv.mono' k ((hl.take off).append (hx.append (hl.drop (off+n))))
       simpa [hxl]using hL
     |arr sz' els=>
      simp only[hs0]at h
      cases hs with
      |nil=>simp at h
      |cons e hs'=>
       cases hps:uB vcs with
       |none=>simp[hps]at h
       |some ps=>
       have hpe:=rR hps
       subst hpe
       simp only[List.length_map]at hvl
       simp only[hps]at h
       cases hz:(Nat.beq sz sz'&&Nat.ble (off+n) e.length)with
       |false=>simp[hz]at h
       |true=>
        simp only[hz,cond_true]at h
        cases h
        simp only[fM]at hz
        have hz0:=kW hz.1
        have hle:=n4 hz.2
        subst hz0
        have hob:=hob.1
        rcases r.obj id _ hs0 with⟨e1,he⟩ |⟨b',c,ty,e1,e2,hcs,hsz,hcell⟩
        ·subst he;simp at hob
        ·rw[hb]at e1;cases e1
         have hel:e.length=sz:=hsz e (List.mem_of_getElem? hob)
         have hilt:i<els.length:=(gN.1 hob).1
         have hfit:i*sz+sz≤c.size:=by
          have:(i+1)*sz≤els.length*sz:=Nat.mul_le_mul_right sz hilt
          rw[Nat.add_mul,Nat.one_mul]at this
          omega
         have hrun:=qY (P:=P) (w:=w) hn (b:=b) (o:=i*sz+off) (x:=x) hxl e2 (by omega) hx.oneCell
         have hw:=lZ (w:=w) (arr:=(c.toList.take (i*sz+off)++x.cells.toList++c.toList.drop (i*sz+off+x.cells.toList.length)).toArray) e2 (by simp;omega)
         have ha:aV.alive (.arr sz els):=by simp[aV.alive]
         have k:=gK (body':= .arr sz (els.set i (e.take off++(ps++e.drop (off+n))))) hs0 ha hb hw
         refine⟨_,hrun,r.set hs0 ha hb hw ?_,k,rfl,rfl⟩
         refine .inr ⟨b,_,ty,hb,setRow_heap w b _ _ ty _ e2,?_,?_,?_⟩
         ·simp[hxl];omega
         ·intro e' he'
          rcases List.mem_or_eq_of_mem_set he' with h1|h1
          ·exact hsz e' h1
          ·subst h1;simp;omega
         ·intro i' e' j cv h1 h2
          have hget:∀q,(c.toList.take (i*sz+off)++x.cells.toList++c.toList.drop (i*sz+off+x.cells.toList.length)).toArray[q]? =
            if q<i*sz+off then c[q]? else if q<i*sz+off+n then x.cells[q-(i*sz+off)]? else c[q]? :=by
           intro q
           have:=oH c.toList x.cells.toList (i*sz+off) q (by simp[hxl];omega)
           simp only[List.append_assoc,List.getElem?_toArray]
           rw[this]
           simp[hxl]
          rw[hget]
          by_cases hi:i'=i
          ·subst hi
           rw[List.getElem?_set_self hilt]at h1
           cases h1
           have:=oH e ps off j (by omega)
           rw[hvl]at this
           rw[this]at h2
           by_cases q1:j<off
           ·rw[if_pos q1]at h2
            rw[if_pos (by omega)]
            obtain⟨v,a1,a2⟩:=hcell i' e j cv hob h2
            exact⟨v,a1,k.pure a2⟩
           ·rw[if_neg q1]at h2
            rw[if_neg (by omega)]
            by_cases q2:j<off+n
            ·rw[if_pos q2]at h2
             rw[if_pos (by omega)]
             have hlt:j-off<x.cells.toList.length:=by simp;omega
             have e3:x.cells[i'*sz+j-(i'*sz+off)]? =some (x.cells.toList[j-off]):=by
              rw[show i'*sz+j-(i'*sz+off)=j-off by omega]
              simp at hlt
              simp[hlt]
             exact⟨_,e3,k.pure (oQ (hx.2 (j-off) _ (.pv cv) (gu hlt) (by simp[h2])))⟩
            ·rw[if_neg q2]at h2
             rw[if_neg (by omega)]
             obtain⟨v,a1,a2⟩:=hcell i' e j cv hob h2
             exact⟨v,a1,k.pure a2⟩
          ·rw[List.getElem?_set_ne (Ne.symm hi)]at h1
           obtain⟨v,a1,a2⟩:=hcell i' e' j cv h1 h2
           have hj:j<sz:=by rw[←hsz e' (List.mem_of_getElem? h1)];exact(gN.1 h2).1
           refine⟨v,?_,k.pure a2⟩
           rcases Nat.lt_or_gt_of_ne hi with hlt|hgt
           ·have:=rG hlt hj
            rw[if_pos (by omega)];exact a1
           ·have:(i+1)*sz≤i'*sz:=Nat.mul_le_mul_right sz hgt
            rw[Nat.add_mul,Nat.one_mul]at this
            rw[if_neg (by omega),if_neg (by omega)];exact a1
theorem IW{vs:List Value}{ps:List PV}(r:eu ι w st)(hl:dv ι w st vs (ps.map CV.pv))(ty:TypeId):
  eu ι (w.alloc (.cells vs.toArray ty)) st∧bo all ι w st ι (w.alloc (.cells vs.toArray ty)) st∧
  bX ι (w.alloc (.cells vs.toArray ty)) st (.pointer (some ⟨w.heap.size,0,none⟩)) (.pv (.rp [ps] 0 0)):=by
 have hx:=m6.alloc w (.cells vs.toArray ty)
 have k:=hx.keeps ι st
 have hll:vs.length=ps.length:=by have:=hl.1;simpa using this
 refine⟨r.ext hx,k,?_⟩
 have:=dr.rp (μ:=fK ι st) (w:=w.alloc (.cells vs.toArray ty)) ⟨w.heap.size,0,none⟩ ps.length [ps] 0 0 (fun _ j=>vs.getD j undef) (by simp)
  (fun _=>⟨by show w.heap.size<_;rw[yI];omega,fun hm=>by have:=r.mut_lt hm;simp at this⟩)
  (fun i e j c h1 h2=>by
   cases i with
   |zero=>
    simp at h1;subst h1
    have hj:j<vs.length:=by rw[hll];exact(gN.1 h2).1
    rw[add_lit,kE (dh w _)]
    simp[hj]
   |succ i=>simp at h1)
  (fun i e j c h1 h2=>by
   cases i with
   |zero=>
    simp at h1;subst h1
    have hj:j<vs.length:=by rw[hll];exact(gN.1 h2).1
    have:=k.pure (oQ (hl.2 j _ (.pv c) (gu hj) (by simp[h2])))
    simpa [hj]using this
   |succ i=>simp at h1)
 have e:(⟨w.heap.size,0,none⟩:Addr).add (0*ps.length+0)=⟨w.heap.size,0,none⟩:=by simp[Addr.add]
 rw[e]at this
 exact .pv _ _ this
theorem FP{vs:List Value}{cs:List CV}(r:eu ι w st)(hl:dv ι w st vs cs)(ty:TypeId):
  eu (ι.add st.length (some w.heap.size)) (w.alloc (.cells vs.toArray ty)) (st++[.box cs])∧
  bo all ι w st (ι.add st.length (some w.heap.size)) (w.alloc (.cells vs.toArray ty)) (st++[.box cs])∧
  bX (ι.add st.length (some w.heap.size)) (w.alloc (.cells vs.toArray ty)) (st++[.box cs]) (.pointer (some ⟨w.heap.size,0,none⟩)) (.pt st.length 0 0 0):=by
 have hx:=m6.alloc w (.cells vs.toArray ty)
 have hb:∀x,some w.heap.size=some x→w.heap.size≤x:=by intro x h;cases h;exact eo _
 have k:=n7 (ι:=ι) (st:=st) hx (.box cs) (some w.heap.size) hb
 have hid:(ι.add st.length (some w.heap.size)) st.length=some w.heap.size:=by simp[IM.add]
 refine⟨r.add hx hb ⟨w.heap.size,vs,ty,hid,dh w _,hl.mono' k⟩,k,?_⟩
 exact bX.pt st.length 0 0 0 w.heap.size (by simp) hid
end Go.SX
namespace Go.SX
open Go
variable {P:Program} {ι:IM} {w:World} {st:St}
def od(sz:Nat):Nat→List PV→List (List PV)
 |0,_=>[]
 |n+1,l=>l.take sz::od sz n (l.drop sz)
theorem vp(sz:Nat):∀n l,(od sz n l).length=n
 |0,_=>rfl
 |n+1,l=>by simp[od,vp sz n]
theorem vB(sz:Nat):∀n l,n*sz≤l.length→∀e∈od sz n l,e.length=sz
 |0,_,_,e,h=>by simp[od]at h
 |n+1,l,hl,e,h=>by
  rw[Nat.add_mul,Nat.one_mul]at hl
  simp only[od,List.mem_cons]at h
  rcases h with rfl|h
  ·simp;omega
  ·exact vB sz n _ (by simp;omega) e h
theorem zN(sz:Nat):∀n l,n*sz≤l.length→∀i e j c,(od sz n l)[i]? =some e→e[j]? =some c→l[i*sz+j]? =some c
 |0,_,_,i,e,j,c,h,_=>by simp[od]at h
 |n+1,l,hl,i,e,j,c,h,h2=>by
  rw[Nat.add_mul,Nat.one_mul]at hl
  cases i with
  |zero=>
   simp only[od,List.getElem?_cons_zero,cA]at h
   subst h
   rw[List.getElem?_take]at h2
   split at h2
   ·simpa using h2
   ·cases h2
  |succ i=>
   simp only[od,List.getElem?_cons_succ]at h
   have:=zN sz n (l.drop sz) (by simp;omega) i e j c h h2
   rw[List.getElem?_drop]at this
   rw[Nat.add_mul,Nat.one_mul,←this]
   congr 1
   omega
theorem D7{c:Array Value}{els:List (List PV)}{sz cap:Nat}{w':World}{b:Nat}(hx:m6 w w')(r:eu ι w st)(ty:TypeId)(fz:Nat×Nat)(hb:w.heap.size≤b)(hw:w'.heap[b]? =some (.cells c ty fz))
  (hcap:els.length≤cap)(hsz:∀e∈els,e.length=sz)
  (hc:∀(i:Nat) e (j:Nat) cv,els[i]? =some e→e[j]? =some cv→∃v,c[i*sz+j]? =some v∧dr (fK ι st) w v cv):
  eu ι w' st∧bo all ι w st ι w' st∧bX ι w' st (.slice (some ⟨b,0,none⟩) els.length cap) (.pv (.ro els)):=by
 have k:=hx.keeps ι st
 refine⟨r.ext hx,k,?_⟩
 refine bX.pv _ _ (dr.ro ⟨b,0,none⟩ cap sz els (fun i j=>c.getD (i*sz+j) undef) hcap hsz (fun _=>⟨cf hw,fun hm=>by have:=r.mut_lt hm;simp at this;omega⟩) ?_ ?_)
 ·intro i e j cv h1 h2
  obtain⟨v,a1,a2⟩:=hc i e j cv h1 h2
  rw[add_lit,kE hw]
  simp[a1]
 ·intro i e j cv h1 h2
  obtain⟨v,a1,a2⟩:=hc i e j cv h1 h2
  have:c.getD (i*sz+j) undef=v:=by simp[a1]
  rw[this]
  exact k.pure a2
theorem u9{c:Array Value}{els:List (List PV)}{sz cap:Nat}{w':World}{b:Nat}(hx:m6 w w')(r:eu ι w st)(ty:TypeId)(hb:w.heap.size≤b)(hw:w'.heap[b]? =some (.cells c ty (0,0)))
  (hcap:els.length≤cap)(hcs:cap*sz≤c.size)(hsz:∀e∈els,e.length=sz)
  (hc:∀(i:Nat) e (j:Nat) cv,els[i]? =some e→e[j]? =some cv→∃v,c[i*sz+j]? =some v∧dr (fK ι st) w v cv):
  eu (ι.add st.length (some b)) w' (st++[.arr sz els])∧bo all ι w st (ι.add st.length (some b)) w' (st++[.arr sz els])∧
  bX (ι.add st.length (some b)) w' (st++[.arr sz els]) (.slice (some ⟨b,0,none⟩) els.length cap) (.sl st.length sz 0 els.length):=by
 have hb':∀x,some b=some x→w.heap.size≤x:=by intro x h;cases h;exact hb
 have k:=n7 (ι:=ι) (st:=st) hx (.arr sz els) (some b) hb'
 have hid:(ι.add st.length (some b)) st.length=some b:=by simp[IM.add]
 have hle:els.length*sz≤cap*sz:=Nat.mul_le_mul_right sz hcap
 refine⟨r.add hx hb' (.inr ⟨b,c,ty,hid,hw,by omega,hsz,?_⟩),k,?_⟩
 ·intro i e j cv h1 h2
  obtain⟨v,a1,a2⟩:=hc i e j cv h1 h2
  exact⟨v,a1,k.pure a2⟩
 ·have:=bX.sl (ι:=ι.add st.length (some b)) (w:=w') (st:=st++[.arr sz els]) st.length sz 0 els.length b cap (by simp) hid hcap ⟨c,ty,(0,0),hw,by simpa using hcs⟩
  simpa using this
theorem ue(r:eu ι w st)(sz:Nat):
  eu (ι.add st.length none) w (st++[.arr sz []])∧bo all ι w st (ι.add st.length none) w (st++[.arr sz []])∧
  bX (ι.add st.length none) w (st++[.arr sz []]) (.slice none 0 0) (.sl st.length sz 0 0):=by
 have hb:∀x,(none:Option Nat)=some x→w.heap.size≤x:=by intro x h;cases h
 have k:=n7 (ι:=ι) (st:=st) (m6.refl w) (.arr sz []) none hb
 have hid:(ι.add st.length none) st.length=none:=by simp[IM.add]
 exact⟨r.add (m6.refl w) hb (.inl ⟨hid,rfl⟩),k,.sn st.length sz (by simp) hid⟩
def mK(st:St):CV→Option (List (List PV))
 | .pv (.ro els)=>some els
 | .pv (.s (.slice none 0 0))=>some []
 | .sl id sz off len=>
  match st[id]? with
  |some (.arr sz' els)=>bif Nat.beq sz sz'&&Nat.ble (off+len) els.length then some ((els.drop off).take len)else none
  |_=>none
 |_=>none
def ow:CV→Option Nat
 | .pv (.ro els)=>some els.length
 | .pv (.s (.slice none 0 0))=>some 0
 | .sl _ _ _ len=>some len
 |_=>none
structure La(P:Program)(ι:IM)(w:World)(st:St)(sz:Nat)(v:Value)(els:List (List PV))(vs:List Value):Prop where
 shape:(v= .slice none 0 0∧els=[])∨∃a cap,v= .slice (some a) els.length cap∧els.length≤cap∧(∀(j:Nat) u,vs[j]? =some u→w.cell? (a.add j)=some u)
 len:vs.length=els.length*sz
 each:∀(i:Nat) e (j:Nat) c,els[i]? =some e→e[j]? =some c→∃u,vs[i*sz+j]? =some u∧dr (fK ι st) w u c
 one:∀u∈vs,u.oneCell'=true
theorem Ci{els:List (List PV)}{sz:Nat}(hsz:∀e∈els,e.length=sz){q:Nat}(hq:q<els.length*sz):∃i e j c,els[i]? =some e∧e[j]? =some c∧q=i*sz+j:=by
 have hs:0<sz:=by
  rcases Nat.eq_zero_or_pos sz with h|h
  ·subst h;simp at hq
  ·exact h
 have hi:q/sz<els.length:=by rw[Nat.div_lt_iff_lt_mul hs];exact hq
 have hj:q%sz<sz:=Nat.mod_lt _ hs
 refine⟨q/sz,els[q/sz],q%sz,(els[q/sz])[q%sz]'(by rw[hsz _ (kf hi)];exact hj),gu hi,gu _,?_⟩
 have:=Nat.div_add_mod q sz
 rw[Nat.mul_comm]at this
 omega
theorem u6{v:Value}{els:List (List PV)}{sz:Nat}{a:Addr}{cap:Nat}(hv:v= .slice (some a) els.length cap)(hcap:els.length≤cap)(hsz:∀e∈els,e.length=sz)
  (hc:∀(i:Nat) e (j:Nat) c,els[i]? =some e→e[j]? =some c→∃u,w.cell? (a.add (i*sz+j))=some u∧dr (fK ι st) w u c):∃vs,La P ι w st sz v els vs:=by
 refine⟨(List.range (els.length*sz)).map fun q=>(w.cell? (a.add q)).getD undef,.inr ⟨a,cap,hv,hcap,?_⟩,by simp,?_,?_⟩
 ·intro j u h
  have hj:j<els.length*sz:=by simpa using(gN.1 h).1
  obtain⟨i,e,j',c,h1,h2,rfl⟩:=Ci hsz hj
  obtain⟨u',a1,_⟩:=hc i e j' c h1 h2
  simp[hj,a1]at h
  rw[a1,h]
 ·intro i e j c h1 h2
  obtain⟨u,a1,a2⟩:=hc i e j c h1 h2
  have hi:i<els.length:=(gN.1 h1).1
  have hj:j<sz:=by rw[←hsz e (List.mem_of_getElem? h1)];exact(gN.1 h2).1
  have hlt:i*sz+j<els.length*sz:=by
   have:(i+1)*sz≤els.length*sz:=Nat.mul_le_mul_right sz hi
   rw[Nat.add_mul,Nat.one_mul]at this
   omega
  exact⟨u,by simp[hlt,a1],a2⟩
 ·intro u hu
  simp only[List.mem_map,List.mem_range]at hu
  obtain⟨q,hq,rfl⟩:=hu
  obtain⟨i,e,j',c,h1,h2,rfl⟩:=Ci hsz hq
  obtain⟨u',a1,a2⟩:=hc i e j' c h1 h2
  simp[a1,a2.oneCell]
theorem pT{c:CV}{els:List (List PV)}(h:mK st c=some els)(r:eu ι w st){v:Value}(hv:bX ι w st v c){sz:Nat}(hs:∀e∈els,e.length=sz):∃vs,La P ι w st sz v els vs:=by
 cases hv with
 |pv _ p hp=>
  cases hp with
  |s _ hp=>
   cases v<;>try (simp[mK]at h;done)
   rename_i a n m
   cases a with
   |some a=>simp[mK]at h
   |none=>
    cases n<;>cases m<;>simp[oo]at hp
    simp[mK]at h
    subst h
    exact⟨[],.inl ⟨rfl,rfl⟩,by simp,fun i e j c h=>by simp at h,fun u hu=>by cases hu⟩
  |nl=>
   simp[mK]at h;subst h
   exact⟨[],.inl ⟨rfl,rfl⟩,by simp,fun i e j c h=>by simp at h,fun u hu=>by cases hu⟩
  |ro a cap sz' els' vf hcap hsz hb hc hvv=>
   simp only[mK,cA]at h
   subst h
   cases els' with
   |nil=>exact u6 rfl hcap (by simp) (fun i e j c h=>by simp at h)
   |cons e0 rest=>
    have:sz'=sz:=by rw[←hsz e0 (by simp),←hs e0 (by simp)]
    subst this
    exact u6 rfl hcap hsz (fun i e j c h1 h2=>⟨vf i j,hc i e j c h1 h2,hvv i e j c h1 h2⟩)
  |rp=>simp[mK]at h
  |fn=>simp[mK]at h
 |pt=>simp[mK]at h
 |mp=>simp[mK]at h
 |cl=>simp[mK]at h
 |fn=>simp[mK]at h
 |sn id sz' hid hb=>
  simp only[mK]at h
  cases hs0:st[id]? with
  |none=>simp[hs0]at h
  |some body=>
   cases body with
   |dead=>simp[hs0]at h
   |box=>simp[hs0]at h
   |rel=>simp[hs0]at h
   |win=>simp[hs0]at h
   |arr sz'' els'=>
    simp only[hs0]at h
    cases hz:(Nat.beq sz' sz''&&Nat.ble (0+0) els'.length)with
    |false=>simp[hz]at h
    |true=>
     simp[hz]at h
     subst h
     exact⟨[],.inl ⟨rfl,rfl⟩,by simp,fun i e j c h=>by simp at h,fun u hu=>by cases hu⟩
 |sl id sz' off len b cap hid hb hcap hc=>
  simp only[mK]at h
  cases hs0:st[id]? with
  |none=>simp[hs0]at h
  |some body=>
   cases body with
   |dead=>simp[hs0]at h
   |box=>simp[hs0]at h
   |rel=>simp[hs0]at h
   |win=>simp[hs0]at h
   |arr sz'' els'=>
    simp only[hs0]at h
    cases hz:(Nat.beq sz' sz''&&Nat.ble (off+len) els'.length)with
    |false=>simp[hz]at h
    |true=>
     simp only[hz,cond_true,cA]at h
     simp only[fM]at hz
     have hz0:=kW hz.1
     have hle:=n4 hz.2
     subst hz0
     subst h
     have hlen:((els'.drop off).take len).length=len:=by simp;omega
     rcases r.obj id _ hs0 with⟨e1,he⟩ |⟨b',c,ty,e1,e2,hcs,hsz,hcell⟩
     ·rw[hb]at e1;cases e1
     ·rw[hb]at e1;cases e1
      cases hel:(els'.drop off).take len with
      |nil=>
       rw[hel]at hlen
       simp at hlen
       subst hlen
       exact u6 rfl (by simp) (by simp) (fun i e j c h=>by simp at h)
      |cons e0 rest=>
       have hmem:e0∈els':=by
        have:e0∈(els'.drop off).take len:=by rw[hel];simp
        exact List.mem_of_mem_drop (List.mem_of_mem_take this)
       have hss:sz'=sz:=by
        rw[←hsz e0 hmem,←hs e0 (by rw[hel];simp)]
       subst hss
       rw[←hel]
       have:=u6 (P:=P) (ι:=ι) (w:=w) (st:=st) (v:= .slice (some ⟨b,off*sz',none⟩) len cap) (els:=(els'.drop off).take len) (sz:=sz') (a:=⟨b,off*sz',none⟩) (cap:=cap) (by rw[hlen]) (by omega)
        (fun e he=>hsz e (List.mem_of_mem_drop (List.mem_of_mem_take he)))
        (fun i e j c' h1 h2=>by
         rw[List.getElem?_take]at h1
         split at h1
         ·rw[List.getElem?_drop]at h1
          obtain⟨u,a1,a2⟩:=hcell _ e j c' h1 h2
          refine⟨u,?_,a2⟩
          rw[add_lit,kE e2,←a1]
          congr 1
          rw[Nat.add_mul];omega
         ·cases h1)
       exact this
end Go.SX
namespace Go.SX
open Go
variable {P:Program} {ι:IM} {w:World} {st:St}
theorem sF(t tx ty e:TypeId)(i:TypeInfo)(ht:P.underlying t=some (.slice e))(hi:P.info? e=some i)(b sLen sCap:Nat)(x:Value)(n:Nat)(news:List Value)(hs:Src P i.size tx x n news w)
  (hroom:sLen+n≤sCap){c:Array Value}{ety:TypeId}(hb:w.heap[b]? =some (.cells c ety (0,0)))(hfit:sLen*i.size+news.length≤c.size):
  (Builtin.append_ #[t,tx] ty #[.slice (some ⟨b,0,none⟩) sLen sCap,x]).run P w=
   .ok (.slice (some ⟨b,0,none⟩) (sLen+n) sCap) (w.setRow b (c.toList.take (sLen*i.size)++news++c.toList.drop (sLen*i.size+news.length)).toArray):=by
 have hst:=run_storeCells_at P b (sLen*i.size) ety news 0 c w hb (by simpa using hfit) hs.one
 simp only[Nat.add_zero]at hst
 rcases hs.kind with⟨e',hk⟩ |hk<;>simp[Builtin.append_,run_underlying ht,run_underlying hk,sizeOf,typeInfo,hi,hs.len,hroom,hs.cells,Addr.add_lit,hst]
def iD(s:ByteArray):List (List PV):=s.data.toList.map fun b=>[.s (.int .u8 b.toNat)]
def vF(P:Program)(st:St)(tx:TypeId)(av:AV):Option (List (List PV)):=
 match P.underlying tx with
 |some (.slice _)=>match av with
  | .one c=>mK st c
  |_=>none
 |some .string=>match av with
  | .one (.pv (.s (.string s)))=>some (iD s)
  |_=>none
 |_=>none
def aT(sz:Nat):List (List PV)→Prop:=fun l=>∀e∈l,e.length=sz
def gA(q:Nat→Bool):aV→Bool
 | .box cells=>nE q cells
 | .win _ _ _ mid _=>nE q mid
 |_=>true
theorem C5{q:Nat→Bool}:∀post:List PV,nE q (post.map CV.pv)=true
 |[]=>rfl
 |p::post=>by simp[nE,kQ,C5 post]
theorem zT{q:Nat→Bool}(post:List PV):∀{mid:List CV},nE q mid=true→nE q (mid++post.map CV.pv)=true
 |[],_=>C5 post
 |c::mid,h=>by
  simp only[nE,fM,List.cons_append]at h⊢
  exact⟨h.1,zT post h.2⟩
theorem ny{q:Nat→Bool}{mid:List CV}(h:nE q mid=true):∀pre post:List PV,nE q (pre.map CV.pv++(mid++post.map CV.pv))=true
 |[],post=>zT post h
 |p::pre,post=>by simp[nE,kQ,ny h pre post]
def dq(q:Nat→Bool):St→Bool
 |[]=>true
 |o::l=>gA q o&&dq q l
theorem iK{q:Nat→Bool}:∀{st:St},dq q st=true→∀(j:Nat) o,st[j]? =some o→gA q o=true
 |[],_,j,o,h=>by simp at h
 |x::l,h,j,o,hj=>by
  simp only[dq,fM]at h
  cases j with
  |zero=>simp at hj;subst hj;exact h.1
  |succ j=>exact iK h.2 j o (by simpa using hj)
def Ep(P:Program)(t tx:TypeId)(d x:AV)(st:St)(hs:HS):Option rT:=
 match P.underlying t with
 |some (.slice e)=>
  match P.info? e with
  |some i=>
   match i.zero,vF P st tx x with
   |some z,some news=>
    bif Nat.beq z.cells.size i.size&&(Nat.ble i.bytes 16384&&Nat.ble 1 i.size)then
     match d with
     | .one (.pv (.s (.slice none 0 0)))=>some ⟨.one (.sl st.length i.size 0 news.length),st++[.arr i.size news],[aT i.size news,news.length≤4294967296],hs,none⟩
     | .one (.sl id sz off len)=>
      match st[id]? with
      |some (.arr sz' els)=>
       bif Nat.beq sz i.size&&(Nat.beq sz' i.size&&(Nat.beq off 0&&dq (iB (some id)) st))then
        some ⟨.one (.sl id i.size 0 (len+news.length)),st.set id (.arr i.size (els++news)),[aT i.size news,len=els.length,len+news.length≤4294967296],hs,some id⟩
       else none
      |_=>none
     |_=>none
    else none
   |_,_=>none
  |none=>none
 |_=>none
theorem so{size:Nat}{tx:TypeId}{x:Value}{av:AV}{news:List (List PV)}(h:vF P st tx av=some news)(r:eu ι w st)(hx:aN ι w st x av)(hok:aT size news)(hsz:0<size):
  ∃vs,Src P size tx x news.length vs w∧(∀(i:Nat) e (j:Nat) c,news[i]? =some e→e[j]? =some c→∃u,vs[i*size+j]? =some u∧dr (fK ι st) w u c):=by
 unfold vF at h
 cases hu:P.underlying tx with
 |none=>simp[hu]at h
 |some d=>
  cases d<;>try (simp[hu]at h;done)
  case slice e'=>
   simp only[hu]at h
   cases hx with
   |j=>simp at h
   |ag=>simp at h
   |tp=>simp at h
   |one v c hv=>
    simp only at h
    obtain⟨vs,hr⟩:=pT (P:=P) h r hv hok
    refine⟨vs,?_,hr.each⟩
    rcases hr.shape with⟨rfl,rfl⟩ |⟨a,cap,rfl,hcap,hcell⟩
    · have:vs=[]:=List.eq_nil_of_length_eq_zero (by simpa using hr.len)
      subst this
      exact Src.ofNil w hu 0
    · exact Src.ofSlice w hu a news.length cap vs hr.len hcell hr.one
  case string=>
   simp only[hu]at h
   cases hx with
   |j=>simp at h
   |ag=>simp at h
   |tp=>simp at h
   |one v c hv=>
    cases hv with
    |pv _ p hp=>
     cases hp with
     |s _ hp=>
      cases x<;>try (simp at h;done)
      rename_i s
      simp only[cA]at h
      subst h
      by_cases hne:s.data.toList=[]
      ·have hsz0:s.size=0:=by
        have:=byteCells_length s
        simp[byteCells,hne]at this
        omega
       refine⟨[],⟨.inr hu,fun w'=> ?_,?_,?_,by simp[iD,hne],fun u h=>by cases h⟩,fun i e j c h=>by simp[iD,hne]at h⟩
       ·simp[Builtin.lenOf,iD,hne,hsz0]
       ·have:=firstCells_string (P:=P) s w
        simp only[byteCells,hne,hsz0]at this
        simp only[iD,hne]
        simpa [Builtin.firstCells,hsz0]using this
       ·have:=firstCells_string (P:=P) s w.drew
        simp only[byteCells,hne,hsz0]at this
        simp only[iD,hne]
        simpa [Builtin.firstCells,hsz0]using this
      ·have h1:size=1:=by
        cases hl:s.data.toList with
        |nil=>exact absurd hl hne
        |cons b rest=>
         have:=hok [.s (.int .u8 b.toNat)] (by simp[iD,hl])
         simpa using this.symm
       subst h1
       have hlen:(iD s).length=s.size:=by
        have:=byteCells_length s
        simpa [iD,byteCells]using this
       rw[hlen]
       refine⟨byteCells s,Src.ofString w hu s,fun i e j c h1 h2=> ?_⟩
       simp only[iD,List.getElem?_map,mE]at h1
       obtain⟨b,hb,rfl⟩:=h1
       cases j with
       |zero=>
        simp at h2
        subst h2
        refine⟨.int .u8 b.toNat,?_,.s _ rfl⟩
        simp only[byteCells,List.getElem?_map]
        simpa using⟨b,by simpa using hb,rfl⟩
       |succ j=>simp at h2
     |_=>simp at h
    |_=>simp at h
end Go.SX
namespace Go.SX
open Go
variable {P:Program} {ι:IM} {w:World} {st:St}
def IM.upd(ι:IM)(id:Nat)(b:Option Nat):IM:=⟨fun j=>if j=id then b else ι j,ι.amb⟩
theorem HQ{id j:Nat}(h:iB (some id) j=true):j≠id:=by
 rintro rfl;simp[iB]at h
theorem qS{w':World}{id b:Nat}{body body':aV}(hx:m6 w w')(r:eu ι w st)(hid:st[id]? =some body)(hb:w.heap.size≤b):
  bo (fun j=>iB (some id) j=true) ι w st (ι.upd id (some b)) w' (st.set id body'):=by
 refine⟨hx.os,hx.tape,hx.output,hx.size,rfl,fun x hxl hm=>⟨hx.blk x hxl,fun hm'=> ?_⟩,fun j hj hl=>⟨by simpa using hl,by simp[IM.upd,HQ hj]⟩,fun x c ty fz h=>⟨c,(hx.blk x (cf h)).trans h,rfl⟩⟩
 obtain⟨j,o,h1,h2,h3⟩:=hm'
 by_cases e:j=id
 ·subst e
  simp only[IM.upd,if_true,cA]at h3
  omega
 ·rw[List.getElem?_set_ne (Ne.symm e)]at h1
  simp only[IM.upd,if_neg e]at h3
  exact hm ⟨j,o,h1,h2,h3⟩
theorem eu.remap{w':World}{id b:Nat}{body body':aV}(hx:m6 w w')(r:eu ι w st)(hid:st[id]? =some body)(hb:w.heap.size≤b)(hn:dq (iB (some id)) st=true)
  (ho:j7 (ι.upd id (some b)) w' (st.set id body') id body'):eu (ι.upd id (some b)) w' (st.set id body'):=by
 have k:=qS (body':=body') hx r hid hb
 have hlt:id<st.length:=(gN.1 hid).1
 refine⟨fun j o hj=> ?_,fun b hb=>Nat.lt_of_lt_of_le (r.amb b hb) hx.size,fun x hxo ha=>by
  obtain⟨j,o,h1,h2,h3⟩:=hxo
  by_cases e:j=id
  ·subst e
   simp only[IM.upd,if_true,cA]at h3
   have:=r.amb x ha
   omega
  ·rw[List.getElem?_set_ne (Ne.symm e)]at h1
   simp only[IM.upd,if_neg e]at h3
   exact r.dis x ⟨j,o,h1,h2,h3⟩ ha,fun i i' o o' x h1 h2 a1 a2 e1 e2=> ?_,r.glk k⟩
 ·by_cases e:j=id
  ·subst e
   rw[List.getElem?_set_self hlt]at hj
   cases hj
   exact ho
  ·rw[List.getElem?_set_ne (Ne.symm e)]at hj
   have h0:=r.obj j o hj
   have hi:=iK hn j o hj
   have hm:(ι.upd id (some b)) j=ι j:=by simp[IM.upd,e]
   cases o with
   |dead=>trivial
   |box cells=>
    obtain⟨b',vs,ty,e',hb',hl⟩:=h0
    exact⟨b',vs,ty,hm.trans e',(hx.blk b' (cf hb')).trans hb',hl.mono k (q:=iB (some id)) (fun _ h _=>h) hi⟩
   |win wsz wi pre mid post=>
    obtain⟨b',c0,ty,e',hb',hn0,hl⟩:=h0
    exact⟨b',c0,ty,hm.trans e',(hx.blk b' (cf hb')).trans hb',hn0,hl.mono k (q:=iB (some id)) (fun _ h _=>h) (ny hi _ _)⟩
   |rel Rm ps=>
    obtain⟨b',ob,vs0,e',hb',hr0,hl0⟩:=h0
    exact⟨b',ob,vs0,hm.trans e',(hx.blk b' (cf hb')).trans hb',hr0,hl0.map fun _ _ h0=>k.pure h0⟩
   |arr sz els=>
    rcases h0 with⟨e',he⟩ |⟨b',c,ty,e',hb',h1,h2,h3⟩
    ·exact .inl ⟨hm.trans e',he⟩
    ·refine .inr ⟨b',c,ty,hm.trans e',(hx.blk b' (cf hb')).trans hb',h1,h2,fun i e' j cv a1 a2=> ?_⟩
     obtain⟨v,hv,hr⟩:=h3 i e' j cv a1 a2
     exact⟨v,hv,k.pure hr⟩
 ·have old:∀(j:Nat) (o:aV),(st.set id body')[j]? =some o→o.alive→j≠id→(ι.upd id (some b)) j=some x→st[j]? =some o∧ι j=some x∧x<w.heap.size:=by
   intro j o hj ha hne he
   rw[List.getElem?_set_ne (Ne.symm hne)]at hj
   simp only[IM.upd,if_neg hne]at he
   exact⟨hj,he,r.own_lt ⟨j,o,hj,ha,he⟩⟩
  by_cases q1:i=id<;>by_cases q2:i'=id
  ·rw[q1,q2]
  ·subst q1
   obtain⟨_,_,h5⟩:=old i' o' h2 a2 q2 e2
   simp only[IM.upd,if_true,cA]at e1
   omega
  ·subst q2
   obtain⟨_,_,h5⟩:=old i o h1 a1 q1 e1
   simp only[IM.upd,if_true,cA]at e2
   omega
  ·obtain⟨z1,z2,_⟩:=old i o h1 a1 q1 e1
   obtain⟨y1,y2,_⟩:=old i' o' h2 a2 q2 e2
   exact r.inj i i' o o' x z1 y1 a1 a2 z2 y2
theorem qI(t tx ty e:TypeId)(i:TypeInfo)(ht:P.underlying t=some (.slice e))(hi:P.info? e=some i)(x:Value)(hs:Src P i.size tx x 0 [] w):
  (Builtin.append_ #[t,tx] ty #[.slice none 0 0,x]).run P w= .ok (.slice none 0 0) w:=by
 have hc:=hs.cells
 rcases hs.kind with⟨e',hk⟩ |hk<;>simp[Builtin.append_,run_underlying ht,run_underlying hk,sizeOf,typeInfo,hi,hs.len,hc]
theorem nC{i:TypeInfo}{z:Value}{olds news:List Value}{els nels:List (List PV)}{cap:Nat}(hz:z.cells.size=i.size)
  (ho:olds.length=els.length*i.size)(hn:news.length=nels.length*i.size)
  (h1:∀(k:Nat) e (j:Nat) c,els[k]? =some e→e[j]? =some c→∃u,olds[k*i.size+j]? =some u∧dr (fK ι st) w u c)
  (h2:∀(k:Nat) e (j:Nat) c,nels[k]? =some e→e[j]? =some c→∃u,news[k*i.size+j]? =some u∧dr (fK ι st) w u c)(hc:els.length+nels.length≤cap):
  ((olds++news).toArray++Builtin.zeroCells z.cells (cap-(els.length+nels.length))).size=cap*i.size∧
  ∀(k:Nat) e (j:Nat) c,(els++nels)[k]? =some e→e[j]? =some c→∃u,((olds++news).toArray++Builtin.zeroCells z.cells (cap-(els.length+nels.length)))[k*i.size+j]? =some u∧dr (fK ι st) w u c:=by
 refine⟨?_,?_⟩
 ·simp only[Array.size_append,List.size_toArray,List.length_append,ho,hn,size_zeroCells,hz,←Nat.add_mul]
  congr 1
  omega
 ·intro k e j cv a1 a2
  have key:∃v,(olds++news)[k*i.size+j]? =some v∧dr (fK ι st) w v cv:=by
   by_cases hk:k<els.length
   ·rw[nq hk]at a1
    obtain⟨u,u1,u2⟩:=h1 k e j cv a1 a2
    exact⟨u,by rw[nq (gN.1 u1).1];exact u1,u2⟩
   ·rw[List.getElem?_append_right (by omega)]at a1
    obtain⟨u,u1,u2⟩:=h2 _ e j cv a1 a2
    refine⟨u,?_,u2⟩
    have hge:els.length*i.size≤k*i.size:=Nat.mul_le_mul_right _ (by omega)
    rw[List.getElem?_append_right (by rw[ho];omega),ho,←u1]
    congr 1
    rw[Nat.sub_mul];omega
  obtain⟨v,v1,v2⟩:=key
  refine⟨v,?_,v2⟩
  have hlt:=(gN.1 v1).1
  rw[Array.getElem?_append_left (by simpa using hlt)]
  simpa using v1
theorem tq{t tx ty:TypeId}{d x:AV}{hs:HS}{out:rT}(h:Ep P t tx d x st hs=some out)(hob:eH out.ob)(r:eu ι w st){vd vx:Value}(hd:aN ι w st vd d)(hx:aN ι w st vx x):
  ∃v w' ι',(Builtin.append_ #[t,tx] ty #[vd,vx]).run P w= .ok v w'∧eu ι' w' out.st∧aN ι' w' out.st v out.av∧bo (fun id=>iB out.mv id=true) ι w st ι' w' out.st:=by
 unfold Ep at h
 cases hu:P.underlying t with
 |none=>simp[hu]at h
 |some dd=>
  cases dd<;>try (simp[hu]at h;done)
  rename_i e
  cases hi:P.info? e with
  |none=>simp[hu,hi]at h
  |some i=>
   cases hz:i.zero with
   |none=>simp[hu,hi,hz]at h
   |some z=>
    cases hsrc:vF P st tx x with
    |none=>simp[hu,hi,hz,hsrc]at h
    |some news=>
     simp only[hu,hi,hz,hsrc]at h
     cases hb:(Nat.beq z.cells.size i.size&&(Nat.ble i.bytes 16384&&Nat.ble 1 i.size))with
     |false=>simp[hb]at h
     |true=>
      simp only[hb,cond_true]at h
      simp only[fM]at hb
      have hzs:=kW hb.1
      have hby:=n4 hb.2.1
      have hsp:=n4 hb.2.2
      have bound:∀k:Nat,k≤4294967296→k*i.bytes≤140737488355328:=by
       intro k hk
       have:k*i.bytes≤4294967296*16384:=Nat.mul_le_mul hk hby
       omega
      have nilGrow:∀(hn:aT i.size news) (hl:news.length≤4294967296) (vs:List Value) (hsrc':Src P i.size tx vx news.length vs w) (h0:news≠[]),
        (Builtin.append_ #[t,tx] ty #[.slice none 0 0,vx]).run P w= .ok (.slice (some ⟨w.heap.size,0,none⟩) news.length (grownCap w news.length 0 e))
         (w.drew.alloc (.cells ((([]:List Value)++vs).toArray++Builtin.zeroCells z.cells (grownCap w news.length 0 e-(([]:List (List PV)).length+news.length))) e)):=by
       intro hn hl vs hsrc' h0
       have hpos:0<news.length:=List.length_pos_iff.2 h0
       have hrun:=run_append_grow_src (P:=P) w t tx ty e i z hu hi hz none 0 0 [] (by simp[Builtin.firstCells]) vx news.length vs hsrc' (by omega) (by omega)
        (growslice_fits (by omega) (by rw[Nat.zero_add];exact bound _ hl))
       simp only[Nat.zero_add,List.length_nil]at hrun⊢
       exact hrun
      cases hd with
      |j=>simp at h
      |ag=>simp at h
      |tp=>simp at h
      |one vd c hv=>
       cases hv with
       |pt=>simp at h
       |mp=>simp at h
       |cl=>simp at h
       |fn=>simp at h
       |pv _ p hp=>
        cases hp with
        |nl=>simp at h
        |ro=>simp at h
        |rp=>simp at h
        |fn=>simp at h
        |s _ hp=>
         cases vd<;>try (simp at h;done)
         rename_i ao n m
         cases ao with
         |some a=>simp at h
         |none=>
          cases n with
          |succ n=>simp at h
          |zero=>
           cases m with
           |succ m=>simp at h
           |zero=>
            simp only[cA]at h
            subst h
            obtain⟨hn,hl,_⟩:=hob
            obtain⟨vs,s1,s2⟩:=so (P:=P) hsrc r hx hn (by omega)
            by_cases h0:news=[]
            ·subst h0
             have hv0:vs=[]:=List.eq_nil_of_length_eq_zero (by simpa using s1.newsLen)
             subst hv0
             obtain⟨a1,a2,a3⟩:=ue (ι:=ι) (w:=w) (st:=st) r i.size
             exact⟨_,_,_,qI t tx ty e i hu hi vx s1,a1,.one _ _ a3,a2.weaken (fun _ _=>trivial)⟩
            ·have hrun:=nilGrow hn hl vs s1 h0
             have hg:=grownCap_ge w news.length 0 e
             obtain⟨g1,g2⟩:=nC (ι:=ι) (w:=w) (st:=st) (i:=i) (z:=z) (olds:=[]) (news:=vs) (els:=[]) (nels:=news) (cap:=grownCap w news.length 0 e) hzs (by simp) s1.newsLen
              (fun k e j c h=>by simp at h) s2 (by simpa using hg)
             simp only[List.nil_append]at g2 g1 hrun
             obtain⟨a1,a2,a3⟩:=u9 (ι:=ι) (w:=w) (st:=st) (els:=news) (sz:=i.size) (cap:=grownCap w news.length 0 e) (b:=w.heap.size) ((m6.drew w).trans (m6.alloc _ _)) r e (eo _) (dh w.drew _) hg (by rw[g1];exact eo _) hn g2
             exact⟨_,_,_,hrun,a1,.one _ _ a3,a2.weaken (fun _ _=>trivial)⟩
       |sn id sz hid hb0=>
        simp only at h
        cases hs0:st[id]? with
        |none=>simp[hs0]at h
        |some body=>
         cases body with
         |dead=>simp[hs0]at h
         |box=>simp[hs0]at h
         |rel=>simp[hs0]at h
         |win=>simp[hs0]at h
         |arr sz' els=>
          simp only[hs0]at h
          cases hq:(Nat.beq sz i.size&&(Nat.beq sz' i.size&&(Nat.beq 0 0&&dq (iB (some id)) st)))with
          |false=>simp only[hq,cond_false]at h;cases h
          |true=>
           simp only[hq,cond_true,cA]at h
           subst h
           simp only[fM]at hq
           have q1:=kW hq.1
           have q2:=kW hq.2.1
           have q4:=hq.2.2.2
           subst q1;subst q2
           obtain⟨hn,hle,hl,_⟩:=hob
           have hnil:els=[]:=List.eq_nil_of_length_eq_zero hle.symm
           subst hnil
           obtain⟨vs,s1,s2⟩:=so (P:=P) hsrc r hx hn (by omega)
           simp only[List.nil_append,Nat.zero_add]at hl⊢
           by_cases h0:news=[]
           ·subst h0
            have hv0:vs=[]:=List.eq_nil_of_length_eq_zero (by simpa using s1.newsLen)
            subst hv0
            have hset:st.set id (.arr i.size [])=st:=by
             apply List.ext_getElem?
             intro j
             by_cases e:j=id
             ·subst e;rw[List.getElem?_set_self hid,hs0]
             ·rw[List.getElem?_set_ne (Ne.symm e)]
            rw[hset]
            exact⟨_,_,_,qI t tx ty e i hu hi vx s1,r,.one _ _ (.sn id i.size hid hb0),.refl⟩
           ·have hrun:=nilGrow hn hl vs s1 h0
            have hg:=grownCap_ge w news.length 0 e
            obtain⟨g1,g2⟩:=nC (ι:=ι) (w:=w) (st:=st) (i:=i) (z:=z) (olds:=[]) (news:=vs) (els:=[]) (nels:=news) (cap:=grownCap w news.length 0 e) hzs (by simp) s1.newsLen
             (fun k e j c h=>by simp at h) s2 (by simpa using hg)
            simp only[List.nil_append]at g2 g1 hrun
            have hx':m6 w (w.drew.alloc (.cells (vs.toArray++Builtin.zeroCells z.cells (grownCap w news.length 0 e-(([]:List (List PV)).length+news.length))) e)):=(m6.drew w).trans (m6.alloc _ _)
            have k:=qS (b:=w.heap.size) (body':= .arr i.size news) hx' r hs0 (eo _)
            have hw:=dh w.drew (.cells (vs.toArray++Builtin.zeroCells z.cells (grownCap w news.length 0 e-(([]:List (List PV)).length+news.length))) e)
            have hidd:(ι.upd id (some w.heap.size)) id=some w.heap.size:=by simp[IM.upd]
            have hle2:news.length*i.size≤grownCap w news.length 0 e*i.size:=Nat.mul_le_mul_right _ hg
            refine⟨_,_,_,hrun,r.remap hx' hs0 (eo _) q4 (.inr ⟨w.heap.size,_,e,hidd,hw,by rw[g1];exact hle2,hn,?_⟩),.one _ _ ?_,k⟩
            ·intro k' e' j cv x1 x2
             obtain⟨u,u1,u2⟩:=g2 k' e' j cv x1 x2
             exact⟨u,u1,k.pure u2⟩
            ·have:=bX.sl (ι:=ι.upd id (some w.heap.size)) (w:=w.drew.alloc (.cells (vs.toArray++Builtin.zeroCells z.cells (grownCap w news.length 0 e-(([]:List (List PV)).length+news.length))) e)) (st:=st.set id (.arr i.size news)) id i.size 0 news.length w.heap.size (grownCap w news.length 0 e) (by simpa using hid) hidd hg
              ⟨_,e,(0,0),hw,by rw[g1];simp⟩
             simpa using this
       |sl id sz off len b cap hid hb0 hcap hcc=>
        simp only at h
        cases hs0:st[id]? with
        |none=>simp[hs0]at h
        |some body=>
         cases body with
         |dead=>simp[hs0]at h
         |box=>simp[hs0]at h
         |rel=>simp[hs0]at h
         |win=>simp[hs0]at h
         |arr sz' els=>
          simp only[hs0]at h
          cases hq:(Nat.beq sz i.size&&(Nat.beq sz' i.size&&(Nat.beq off 0&&dq (iB (some id)) st)))with
          |false=>simp only[hq,cond_false]at h;cases h
          |true=>
           simp only[hq,cond_true,cA]at h
           subst h
           simp only[fM]at hq
           have q1:=kW hq.1
           have q2:=kW hq.2.1
           have q3:=kW hq.2.2.1
           have q4:=hq.2.2.2
           subst q1;subst q3;subst q2
           obtain⟨hn,hle,hl,_⟩:=hob
           subst hle
           simp only[Nat.zero_mul]
           obtain⟨vs,s1,s2⟩:=so (P:=P) hsrc r hx hn (by omega)
           rcases r.obj id _ hs0 with⟨e1,he⟩ |⟨b',c,ety,e1,e2,hcs,hsz,hcell⟩
           ·rw[hb0]at e1;cases e1
           ·rw[hb0]at e1;cases e1
            obtain⟨c2,ty2,fz2,g1,g2⟩:=hcc
            rw[e2]at g1;cases g1
            have ha:aV.alive (.arr i.size els):=by simp[aV.alive]
            by_cases hroom:els.length+news.length≤cap
            ·
             have hfit:els.length*i.size+vs.length≤c.size:=by
              rw[s1.newsLen,←Nat.add_mul]
              have:(els.length+news.length)*i.size≤cap*i.size:=Nat.mul_le_mul_right _ hroom
              simp only[Nat.zero_add]at g2
              omega
             have hrun:=sF (P:=P) (w:=w) t tx ty e i hu hi b els.length cap vx news.length vs s1 hroom e2 hfit
             have hsz2:(c.toList.take (els.length*i.size)++vs++c.toList.drop (els.length*i.size+vs.length)).toArray.size=c.size:=by simp;omega
             have hw:=lZ (w:=w) e2 hsz2
             have k:=gK (body':= .arr i.size (els++news)) hs0 ha hb0 hw
             refine⟨_,_,_,hrun,r.set hs0 ha hb0 hw (.inr ⟨b,_,ety,hb0,setRow_heap w b _ _ ety _ e2,?_,?_,?_⟩),.one _ _ ?_,k.weaken (fun _ _=>trivial)⟩
             ·rw[hsz2,List.length_append,Nat.add_mul,←s1.newsLen];exact hfit
             ·intro e' he'
              rcases List.mem_append.1 he' with h|h
              ·exact hsz e' h
              ·exact hn e' h
             ·intro i' e' j cv a1 a2
              have hget0:=oH c.toList vs (els.length*i.size) (i'*i.size+j) (by simpa using hfit)
              have hget:(c.toList.take (els.length*i.size)++vs++c.toList.drop (els.length*i.size+vs.length)).toArray[i'*i.size+j]? =if i'*i.size+j<els.length*i.size then c.toList[i'*i.size+j]? else if i'*i.size+j<els.length*i.size+vs.length then vs[i'*i.size+j-els.length*i.size]? else c.toList[i'*i.size+j]? :=by
               simp only[List.append_assoc,List.getElem?_toArray];exact hget0
              rw[hget]
              by_cases hk:i'<els.length
              ·rw[nq hk]at a1
               obtain⟨v,v1,v2⟩:=hcell i' e' j cv a1 a2
               have hj:j<i.size:=by rw[←hsz e' (List.mem_of_getElem? a1)];exact(gN.1 a2).1
               have:=rG hk hj
               rw[if_pos this]
               exact⟨v,by simpa using v1,k.pure v2⟩
              ·rw[List.getElem?_append_right (by omega)]at a1
               obtain⟨u,u1,u2⟩:=s2 _ e' j cv a1 a2
               have hge:els.length*i.size≤i'*i.size:=Nat.mul_le_mul_right _ (by omega)
               have hlt:=(gN.1 u1).1
               rw[Nat.sub_mul]at u1 hlt
               rw[if_neg (by omega),if_pos (by omega)]
               refine⟨u,?_,k.pure u2⟩
               rw[←u1]
               congr 1
               omega
             ·have:=bX.sl (ι:=ι) (w:=w.setRow b (c.toList.take (els.length*i.size)++vs++c.toList.drop (els.length*i.size+vs.length)).toArray) (st:=st.set id (.arr i.size (els++news))) id i.size 0 (els.length+news.length) b cap (by simpa using hid) hb0 hroom
               ⟨_,ety,(0,0),setRow_heap w b _ _ ety _ e2,by rw[hsz2];simpa using g2⟩
              simpa using this
            ·
             have hreads:∀(k:Nat) e' (j:Nat) cv,els[k]? =some e'→e'[j]? =some cv→∃u,(c.toList.take (els.length*i.size))[k*i.size+j]? =some u∧dr (fK ι st) w u cv:=by
              intro k e' j cv a1 a2
              obtain⟨v,v1,v2⟩:=hcell k e' j cv a1 a2
              have hj:j<i.size:=by rw[←hsz e' (List.mem_of_getElem? a1)];exact(gN.1 a2).1
              have:=rG (gN.1 a1).1 hj
              refine⟨v,?_,v2⟩
              rw[List.getElem?_take,if_pos this]
              simpa using v1
             have hol:(c.toList.take (els.length*i.size)).length=els.length*i.size:=by simp;omega
             have hold:(Builtin.firstCells i.size els.length (.slice (some ⟨b,0,none⟩) els.length cap)).run P w.drew= .ok (c.toList.take (els.length*i.size)).toArray w.drew:=by
              refine run_firstCells_some w.drew i.size els.length ⟨b,0,none⟩ els.length cap _ hol ?_
              intro j v hj
              rw[add_lit]
              have e2':w.drew.heap[b]? =some (.cells c ety (0,0)):=e2
              rw[kE e2']
              rw[List.getElem?_take]at hj
              split at hj
              ·simpa using hj
              ·cases hj
             have hrun:=run_append_grow_src (P:=P) w t tx ty e i z hu hi hz (some ⟨b,0,none⟩) els.length cap (c.toList.take (els.length*i.size)) hold vx news.length vs s1 (by omega) (by omega)
              (growslice_fits (by omega) (bound _ hl))
             have hg:=grownCap_ge w (els.length+news.length) cap e
             obtain⟨y1,y2⟩:=nC (ι:=ι) (w:=w) (st:=st) (i:=i) (z:=z) (olds:=c.toList.take (els.length*i.size)) (news:=vs) (els:=els) (nels:=news) (cap:=grownCap w (els.length+news.length) cap e) hzs hol s1.newsLen hreads s2 hg
             have hx':m6 w (w.drew.alloc (.cells ((c.toList.take (els.length*i.size)++vs).toArray++Builtin.zeroCells z.cells (grownCap w (els.length+news.length) cap e-(els.length+news.length))) e)):=(m6.drew w).trans (m6.alloc _ _)
             have k:=qS (b:=w.heap.size) (body':= .arr i.size (els++news)) hx' r hs0 (eo _)
             have hw:=dh w.drew (.cells ((c.toList.take (els.length*i.size)++vs).toArray++Builtin.zeroCells z.cells (grownCap w (els.length+news.length) cap e-(els.length+news.length))) e)
             have hidd:(ι.upd id (some w.heap.size)) id=some w.heap.size:=by simp[IM.upd]
             have hle2:(els.length+news.length)*i.size≤grownCap w (els.length+news.length) cap e*i.size:=Nat.mul_le_mul_right _ hg
             refine⟨_,_,_,hrun,r.remap hx' hs0 (eo _) q4 (.inr ⟨w.heap.size,_,e,hidd,hw,by rw[y1,List.length_append];exact hle2,?_,?_⟩),.one _ _ ?_,k⟩
             ·intro e' he'
              rcases List.mem_append.1 he' with h|h
              ·exact hsz e' h
              ·exact hn e' h
             ·intro k' e' j cv x1 x2
              obtain⟨u,u1,u2⟩:=y2 k' e' j cv x1 x2
              exact⟨u,u1,k.pure u2⟩
             ·have:=bX.sl (ι:=ι.upd id (some w.heap.size)) (w:=w.drew.alloc (.cells ((c.toList.take (els.length*i.size)++vs).toArray++Builtin.zeroCells z.cells (grownCap w (els.length+news.length) cap e-(els.length+news.length))) e)) (st:=st.set id (.arr i.size (els++news))) id i.size 0 (els.length+news.length) w.heap.size (grownCap w (els.length+news.length) cap e) (by simpa using hid) hidd hg
               ⟨_,e,(0,0),hw,by rw[y1];simp⟩
              simpa using this
end Go.SX
namespace Go.SX
open Go
variable {P:Program} {ι:IM} {w:World} {st:St}
def Mi(P:Program)(s:TypeId)(c:CV)(k:Nat):Option CV:=
 match P.underlying s with
 |some (.struct fields)=>
  match fields[k]? with
  |some f=>
   match vr P f.type with
   |some (n+1)=>
    match c with
    | .pv (.rp els i off)=>some (.pv (.rp els i (off+f.offset)))
    | .pt id sz i off=>some (.pt id sz i (off+f.offset))
    |_=>none
   |_=>none
  |none=>none
 |_=>none
theorem DU{s:TypeId}{c c':CV}{k:Nat}(h:Mi P s c k=some c'){v:Value}(hv:bX ι w st v c):
  ∃u,(Instr.fieldAt s v k).run P w= .ok u w∧bX ι w st u c':=by
 unfold Mi at h
 cases hu:P.underlying s with
 |none=>simp[hu]at h
 |some d=>
  cases d<;>try (simp[hu]at h;done)
  rename_i fields
  simp only[hu]at h
  cases hf:fields[k]? with
  |none=>simp[hf]at h
  |some f=>
   simp only[hf]at h
   cases hn:vr P f.type with
   |none=>simp[hn]at h
   |some n=>
    cases n with
    |zero=>simp[hn]at h
    |succ n=>
     simp only[hn]at h
     cases hv with
     |mp=>simp at h
     |cl=>simp at h
     |sl=>simp at h
     |sn=>simp at h
     |fn=>simp at h
     |pv _ p hp=>
      cases hp with
      |s=>simp at h
      |nl=>simp at h
      |ro=>simp at h
      |fn=>simp at h
      |rp a sz els i off vf hsz hb hc hvv=>
       simp only[cA]at h
       subst h
       refine⟨.pointer (some (a.add (i*sz+(off+f.offset)))),?_,.pv _ _ (.rp a sz els i (off+f.offset) vf hsz hb hc hvv)⟩
       simp[Instr.fieldAt,run_underlying hu,hf,Instr.sureAddr,fieldPlace,cS hn,qn,Nat.add_assoc]
     |pt id sz i off b hid hb=>
       simp only[cA]at h
       subst h
       refine⟨.pointer (some ⟨b,i*sz+(off+f.offset),none⟩),?_,.pt id sz i (off+f.offset) b hid hb⟩
       simp[Instr.fieldAt,run_underlying hu,hf,Instr.sureAddr,fieldPlace,cS hn,add_lit,Nat.add_assoc]
def F4(P:Program)(t:TypeId)(c:CV)(n:Int):Option (CV×Prop):=
 match P.underlying t with
 |some (.array len elem)=>
  match vr P elem with
  |some es=>
   match c with
   | .pv (.rp els i off)=>some (.pv (.rp els i (off+n.toNat*es)),0≤n∧n<len)
   | .pt id sz i off=>some (.pt id sz i (off+n.toNat*es),0≤n∧n<len)
   |_=>none
  |none=>none
 |some (.slice elem)=>
  match vr P elem with
  |some es=>
   match c with
   | .pv (.ro els)=>some (.pv (.rp els n.toNat 0),0≤n∧n<els.length∧aT es els)
   | .sl id sz off len=>bif Nat.beq sz es then some (.pt id sz (off+n.toNat) 0,0≤n∧n<len)else none
   |_=>none
  |none=>none
 |_=>none
theorem DI{t:TypeId}{c c':CV}{n:Int}{k:IntKind}{ob:Prop}(h:F4 P t c n=some (c',ob))(hob:ob){v:Value}(hv:bX ι w st v c):
  ∃u,(Instr.indexAt t v (.int k n)).run P w= .ok u w∧bX ι w st u c':=by
 unfold F4 at h
 cases hu:P.underlying t with
 |none=>simp[hu]at h
 |some d=>
  cases d<;>try (simp[hu]at h;done)
  case array len elem=>
   simp only[hu]at h
   cases hn:vr P elem with
   |none=>simp[hn]at h
   |some es=>
    simp only[hn]at h
    cases hv with
    |mp=>simp at h
    |cl=>simp at h
    |sl=>simp at h
    |sn=>simp at h
    |fn=>simp at h
    |pv _ p hp=>
     cases hp with
     |s=>simp at h
     |nl=>simp at h
     |ro=>simp at h
     |fn=>simp at h
     |rp a sz els i off vf hsz hb hc hvv=>
      simp only[cA,ku]at h
      obtain⟨rfl,rfl⟩:=h
      refine⟨.pointer (some (a.add (i*sz+(off+n.toNat*es)))),?_,.pv _ _ (.rp a sz els i _ vf hsz hb hc hvv)⟩
      simp[Instr.indexAt,asIntOf,run_underlying hu,Instr.sureAddr,hob,cS hn,qn,Nat.add_assoc]
    |pt id sz i off b hid hb=>
      simp only[cA,ku]at h
      obtain⟨rfl,rfl⟩:=h
      refine⟨.pointer (some ⟨b,i*sz+(off+n.toNat*es),none⟩),?_,.pt id sz i _ b hid hb⟩
      simp[Instr.indexAt,asIntOf,run_underlying hu,Instr.sureAddr,hob,cS hn,add_lit,Nat.add_assoc]
  case slice elem=>
   simp only[hu]at h
   cases hn:vr P elem with
   |none=>simp[hn]at h
   |some es=>
    simp only[hn]at h
    cases hv with
    |pt=>simp at h
    |mp=>simp at h
    |cl=>simp at h
    |fn=>simp at h
    |pv _ p hp=>
     cases hp with
     |s=>simp at h
     |rp=>simp at h
     |fn=>simp at h
     |nl=>
      simp only[cA,ku]at h
      obtain⟨rfl,rfl⟩:=h
      obtain⟨h1,h2,_⟩:=hob
      simp at h2
      omega
     |ro a cap sz els vf hcap hsz hb hc hvv=>
      simp only[cA,ku]at h
      obtain⟨rfl,rfl⟩:=h
      obtain⟨h1,h2,h3⟩:=hob
      have hes:sz=es:=by
       cases els with
       |nil=>simp at h2;omega
       |cons e0 rest=>rw[←hsz e0 (by simp),←h3 e0 (by simp)]
      subst hes
      refine⟨.pointer (some (a.add (n.toNat*sz))),?_,by simpa using bX.pv (ι:=ι) (w:=w) (st:=st) _ _ (dr.rp a sz els n.toNat 0 vf hsz hb hc hvv)⟩
      simp[Instr.indexAt,asIntOf,run_underlying hu,h1,h2,cS hn]
    |sl id sz off len b cap hid hb hcap hc=>
      cases hz:Nat.beq sz es with
      |false=>simp[hz]at h
      |true=>
       have:=kW hz
       subst this
       simp only[hz,cond_true,cA,ku]at h
       obtain⟨rfl,rfl⟩:=h
       refine⟨.pointer (some ⟨b,(off+n.toNat)*sz+0,none⟩),?_,.pt id sz _ 0 b hid hb⟩
       simp[Instr.indexAt,asIntOf,run_underlying hu,hob,cS hn,add_lit,Nat.add_mul]
    |sn id sz hid hb=>
      cases hz:Nat.beq sz es with
      |false=>simp[hz]at h
      |true=>
       simp only[hz,cond_true,cA,ku]at h
       obtain⟨rfl,rfl⟩:=h
       omega
def o6(P:Program)(t:TypeId)(cs:List CV)(off:Nat):Option AV:=
 match Dk P t,vr P t with
 |some g,some n=>(Ec cs off n).bind (xB g)
 |_,_=>none
theorem mN{t:TypeId}{cs:List CV}{off:Nat}{av:AV}(h:o6 P t cs off=some av){vs:List Value}(hl:dv ι w st vs cs):
  ∃u,(part t vs.toArray off).run P w= .ok u w∧aN ι w st u av:=by
 unfold o6 at h
 cases hg:Dk P t with
 |none=>simp[hg]at h
 |some g=>
  cases hn:vr P t with
  |none=>simp[hg,hn]at h
  |some n=>
   simp only[hg,hn,Option.bind_eq_some_iff]at h
   obtain⟨cs',hcut,hmk⟩:=h
   obtain⟨rfl,hle,hlen⟩:=tY hcut
   refine⟨xX g ((vs.drop off).take n),?_,pO ((hl.drop off).take n) hmk⟩
   cases g with
   |true=>
    have e:vs.toArray.extract off (off+n)=((vs.drop off).take n).toArray:=by
     simp[List.drop_take]
    simp only[part,Sem.run_bind,sg hg,Result.andThen_ok,if_true,cS hn,Sem.run_pure,xX,e]
   |false=>
    have h1:=rm hmk
    have hn1:n=1:=by omega
    subst hn1
    have hlt:off<vs.length:=by rw[hl.1];omega
    have e:vs.toArray[off]? =some vs[off]:=by simp[hlt]
    have e2:(vs.drop off).take 1=[vs[off]]:=by
     rw[List.drop_eq_getElem_cons hlt];rfl
    simp[part,sg hg,xX,e2,hlt]
def FU(P:Program)(t:TypeId)(cs:List CV)(k:Nat):Option AV:=
 match P.underlying t with
 |some (.struct fields)=>
  match fields[k]? with
  |some f=>o6 P f.type cs f.offset
  |none=>none
 |_=>none
def intOf? :Option AV→Option (Option Int)
 |none=>some none
 |some (.one (.pv (.s (.int _ n))))=>some (some n)
 |_=>none
def fH(len:Nat)(lo hi mx:Option Int):Nat×Nat×Prop:=
 let h:Int:=hi.getD len
 let l:Int:=lo.getD 0
 (l.toNat,h.toNat,0≤l∧l≤h∧(match mx with|some m=>h≤m∧m≤len|none=>h≤len))
def MR(P:Program)(t:TypeId)(c:CV)(lo hi mx:Option Int):Option (CV×Prop):=
 match P.underlying t with
 |some .string=>
  match c,mx with
  | .pv (.s (.string s)),none=>
   let(l,h,ob):=fH s.size lo hi none
   some (CV.s (.string (s.extract l h)),ob)
  |_,_=>none
 |some (.slice elem)=>
  match vr P elem with
  |some es=>
   match c with
   | .pv (.ro els)=>
    let(l,h,ob):=fH els.length lo hi mx
    some (.pv (.ro ((els.drop l).take (h-l))),ob∧aT es els)
   | .sl id sz off len=>
    let(l,h,ob):=fH len lo hi mx
    bif Nat.beq sz es then some (.sl id sz (off+l) (h-l),ob∧(l=0∨(match mx with|some m=>(l:Int)<m|none=>l<len)))else none
   | .pv (.s (.slice none 0 0))=>
    let(l,h,ob):=fH 0 lo hi mx
    some (CV.s (.slice none 0 0),ob)
   |_=>none
  |none=>none
 |_=>none
theorem kr{k:IntKind}{n:Int}{y:Nat}{code:BoundsCode}(h0:0≤n)(h1:n≤y)(w:World):(Instr.sliceBound (.int k n) y code).run P w= .ok n.toNat w:=by
 simp[Instr.sliceBound,asIntOf,h0,h1]
inductive td:Option Value→Option Int→Prop where
 |none:td none none
 |some (k:IntKind) (n:Int):td (some (.int k n)) (some n)
theorem ix{isS:Bool}{len cap:Nat}{lo hi mx:Option Value}{l h m:Option Int}(hl:td lo l)(hh:td hi h)(hm:td mx m)(hlc:len≤cap)(hob:(fH len l h m).2.2)
  (hmh:m=none∨h≠none)(w:World):
  (Instr.sliceBounds isS len cap lo hi mx).run P w= .ok ((fH len l h m).1,(fH len l h m).2.1,(m.map Int.toNat).getD cap) w:=by
 cases hm with
 |none=>
  simp only[fH]at hob⊢
  cases hh with
  |none=>
   cases hl with
   |none=>simp[Instr.sliceBounds]
   |some k n=>
    simp at hob
    simp[Instr.sliceBounds,kr (P:=P) (w:=w) (k:=k) (n:=n) (y:=len) hob.1 hob.2]
  |some k2 n2=>
   cases hl with
   |none=>
    simp at hob
    simp[Instr.sliceBounds,kr (P:=P) (w:=w) (k:=k2) (n:=n2) (y:=cap) hob.1 (by omega)]
   |some k n=>
    simp at hob
    simp[Instr.sliceBounds,kr (P:=P) (w:=w) (k:=k2) (n:=n2) (y:=cap) (by omega) (by omega),kr (P:=P) (w:=w) (k:=k) (n:=n) (y:=n2.toNat) (by omega) (by omega)]
 |some k3 n3=>
  simp only[fH]at hob⊢
  cases hh with
  |none=>simp at hmh
  |some k2 n2=>
   cases hl with
   |none=>
    simp at hob
    simp[Instr.sliceBounds,kr (P:=P) (w:=w) (k:=k3) (n:=n3) (y:=cap) (by omega) (by omega),kr (P:=P) (w:=w) (k:=k2) (n:=n2) (y:=n3.toNat) (by omega) (by omega)]
   |some k n=>
    simp at hob
    simp[Instr.sliceBounds,kr (P:=P) (w:=w) (k:=k3) (n:=n3) (y:=cap) (by omega) (by omega),kr (P:=P) (w:=w) (k:=k2) (n:=n2) (y:=n3.toNat) (by omega) (by omega),kr (P:=P) (w:=w) (k:=k) (n:=n) (y:=n2.toNat) (by omega) (by omega)]
theorem Eo{t:TypeId}{c c':CV}{lo hi mx:Option Value}{l h m:Option Int}{ob:Prop}(hs:MR P t c l h m=some (c',ob))(hob:ob)(hl:td lo l)(hh:td hi h)(hm:td mx m)
  (hmh:m=none∨h≠none){v:Value}(hv:bX ι w st v c):∃u,(Instr.sliceAt t v lo hi mx).run P w= .ok u w∧bX ι w st u c':=by
 unfold MR at hs
 cases hu:P.underlying t with
 |none=>simp[hu]at hs
 |some d=>
  cases d<;>try (simp[hu]at hs;done)
  case string=>
   simp only[hu]at hs
   cases hv with
   |pv _ p hp=>
    cases hp with
    |s _ hp=>
     cases v<;>try (simp at hs;done)
     rename_i s
     cases hm with
     |some=>simp at hs
     |none=>
       simp only[cA,ku]at hs
       obtain⟨rfl,rfl⟩:=hs
       have hb:=ix (P:=P) (isS:=false) (len:=s.size) (cap:=s.size) hl hh .none (eo _) hob (.inl rfl) w
       refine⟨_,?_,.pv _ _ (.s (.string (s.extract _ _)) rfl)⟩
       simp[Instr.sliceAt,Instr.slice,run_underlying hu,hb]
    |_=>simp at hs
   |_=>simp at hs
  case slice elem=>
   simp only[hu]at hs
   cases hn:vr P elem with
   |none=>simp[hn]at hs
   |some es=>
     simp only[hn]at hs
     cases hv with
     |pt=>simp at hs
     |mp=>simp at hs
     |cl=>simp at hs
     |fn=>simp at hs
     |pv _ p hp=>
      cases hp with
      |rp=>simp at hs
      |fn=>simp at hs
      |s _ hp=>
       cases v<;>try (simp at hs;done)
       rename_i ao n q
       cases ao with
       |some a=>simp at hs
       |none=>
        cases n<;>cases q<;>try (simp at hs;done)
        simp only[cA,ku]at hs
        obtain⟨rfl,rfl⟩:=hs
        have hb:=ix (P:=P) (isS:=true) (len:=0) (cap:=0) hl hh hm (eo _) hob hmh w
        have h1:(fH 0 l h m).1=0:=by simp only[fH]at hob⊢;cases m<;>simp at hob<;>omega
        have h2:(fH 0 l h m).2.1=0:=by simp only[fH]at hob⊢;cases m<;>simp at hob⊢<;>omega
        have h3:(m.map Int.toNat).getD 0=0:=by cases m<;>simp[fH]at hob⊢;omega
        refine⟨.slice none 0 0,?_,.pv _ _ (.s _ rfl)⟩
        simp[Instr.sliceAt,Instr.slice,run_underlying hu,hb,cS hn,h1,h2,h3]
      |nl=>
       simp only[cA,ku]at hs
       obtain⟨rfl,rfl⟩:=hs
       obtain⟨hob,_⟩:=hob
       simp only[List.length_nil]at hob
       have hb:=ix (P:=P) (isS:=true) (len:=0) (cap:=0) hl hh hm (eo _) hob hmh w
       have h1:(fH 0 l h m).1=0:=by simp only[fH]at hob⊢;cases m<;>simp at hob<;>omega
       have h2:(fH 0 l h m).2.1=0:=by simp only[fH]at hob⊢;cases m<;>simp at hob⊢<;>omega
       have h3:(m.map Int.toNat).getD 0=0:=by cases m<;>simp[fH]at hob⊢;omega
       refine⟨.slice none 0 0,?_,by simpa using bX.pv (ι:=ι) (w:=w) (st:=st) _ _ dr.nl⟩
       simp[Instr.sliceAt,Instr.slice,run_underlying hu,hb,cS hn,h1,h2,h3]
      |ro a cap sz els vf hcap hsz hb0 hc hvv=>
       simp only[cA,ku]at hs
       obtain⟨rfl,rfl⟩:=hs
       obtain⟨hob,hel⟩:=hob
       have hb:=ix (P:=P) (isS:=true) (len:=els.length) (cap:=cap) hl hh hm hcap hob hmh w
       have hord:(fH els.length l h m).1≤(fH els.length l h m).2.1∧(fH els.length l h m).2.1≤els.length∧(fH els.length l h m).2.1≤(m.map Int.toNat).getD cap:=by
        simp only[fH]at hob⊢
        cases m<;>simp at hob⊢<;>omega
       generalize (fH els.length l h m).1=lo' at*
       generalize (fH els.length l h m).2.1=hi' at*
       generalize (m.map Int.toNat).getD cap=mx' at*
       have hlen:((els.drop lo').take (hi'-lo')).length=hi'-lo':=by simp;omega
       refine⟨.slice (if mx'=lo' then some a else some (a.add (lo'*es))) (hi'-lo') (mx'-lo'),by simp[Instr.sliceAt,Instr.slice,run_underlying hu,hb,cS hn],?_⟩
       by_cases hz:hi'-lo'=0
       ·have e0:(els.drop lo').take (hi'-lo')=[]:=by rw[hz];simp
        rw[e0,hz]
        split
        ·exact bX.pv _ _ (dr.ro a _ 0 [] (fun _ _=>undef) (by simp) (by simp) (by simp) (fun i e j c h=>by simp at h) (fun i e j c h=>by simp at h))
        ·exact bX.pv _ _ (dr.ro _ _ 0 [] (fun _ _=>undef) (by simp) (by simp) (by simp) (fun i e j c h=>by simp at h) (fun i e j c h=>by simp at h))
       ·rw[if_neg (by omega)]
        have hes:sz=es:=by
         cases els with
         |nil=>simp at hord;omega
         |cons e0 rest=>rw[←hsz e0 (by simp),←hel e0 (by simp)]
        subst hes
        have:=dr.ro (μ:=fK ι st) (w:=w) (a.add (lo'*sz)) (mx'-lo') sz ((els.drop lo').take (hi'-lo')) (fun i j=>vf (lo'+i) j) (by rw[hlen];omega)
         (fun e he=>hsz e (List.mem_of_mem_drop (List.mem_of_mem_take he)))
         (fun _=>by rw[pC];exact hb0 (by rintro rfl;simp at hord;omega))
         (fun i e j c h1 h2=>by
          rw[List.getElem?_take]at h1
          split at h1
          ·rw[List.getElem?_drop]at h1
           have:=hc _ e j c h1 h2
           rw[qn,←this]
           congr 2
           rw[Nat.add_mul];omega
          ·cases h1)
         (fun i e j c h1 h2=>by
          rw[List.getElem?_take]at h1
          split at h1
          ·rw[List.getElem?_drop]at h1
           exact hvv _ e j c h1 h2
          ·cases h1)
        rw[hlen]at this
        exact .pv _ _ this
     |sn id sz hid hb0=>
       cases hz:Nat.beq sz es with
       |false=>simp[hz]at hs
       |true=>
        simp only[hz,cond_true,cA,ku]at hs
        obtain⟨rfl,rfl⟩:=hs
        obtain⟨hob,_⟩:=hob
        have hb:=ix (P:=P) (isS:=true) (len:=0) (cap:=0) hl hh hm (eo _) hob hmh w
        have h1:(fH 0 l h m).1=0:=by simp only[fH]at hob⊢;cases m<;>simp at hob<;>omega
        have h2:(fH 0 l h m).2.1=0:=by simp only[fH]at hob⊢;cases m<;>simp at hob⊢<;>omega
        have h3:(m.map Int.toNat).getD 0=0:=by cases m<;>simp[fH]at hob⊢;omega
        refine⟨.slice none 0 0,?_,by rw[h1,h2];exact .sn id sz hid hb0⟩
        simp[Instr.sliceAt,Instr.slice,run_underlying hu,hb,cS hn,h1,h2,h3]
     |sl id sz off len b cap hid hb0 hcap hcc=>
       cases hz:Nat.beq sz es with
       |false=>simp[hz]at hs
       |true=>
        have:=kW hz
        subst this
        simp only[hz,cond_true,cA,ku]at hs
        obtain⟨rfl,rfl⟩:=hs
        obtain⟨hob,hlo⟩:=hob
        have hb:=ix (P:=P) (isS:=true) (len:=len) (cap:=cap) hl hh hm hcap hob hmh w
        have hord:(fH len l h m).1≤(fH len l h m).2.1∧(fH len l h m).2.1≤len∧(fH len l h m).2.1≤(m.map Int.toNat).getD cap∧(m.map Int.toNat).getD cap≤cap:=by
         simp only[fH]at hob⊢
         cases m<;>simp at hob⊢<;>omega
        have hlt:(fH len l h m).1=0∨(fH len l h m).1<(m.map Int.toNat).getD cap:=by
         rcases hlo with h0|h0
         ·exact .inl h0
         ·right
          cases m<;>simp at h0⊢<;>omega
        generalize (fH len l h m).1=lo' at*
        generalize (fH len l h m).2.1=hi' at*
        generalize (m.map Int.toNat).getD cap=mx' at*
        refine⟨.slice (if mx'=lo' then some ⟨b,off*sz,none⟩else some ((⟨b,off*sz,none⟩:Addr).add (lo'*sz))) (hi'-lo') (mx'-lo'),by simp[Instr.sliceAt,Instr.slice,run_underlying hu,hb,cS hn],?_⟩
        have e:(if mx'=lo' then some (⟨b,off*sz,none⟩:Addr)else some ((⟨b,off*sz,none⟩:Addr).add (lo'*sz)))=some ⟨b,(off+lo')*sz,none⟩:=by
         rcases hlt with h0|h0
         ·subst h0;split<;>simp[add_lit]
         ·rw[if_neg (by omega),add_lit,Nat.add_mul]
        rw[e]
        obtain⟨c,ty,fz,g1,g2⟩:=hcc
        refine .sl id sz (off+lo') (hi'-lo') b (mx'-lo') hid hb0 (by omega) ⟨c,ty,fz,g1,?_⟩
        have:(off+lo'+(mx'-lo'))*sz≤(off+cap)*sz:=Nat.mul_le_mul_right sz (by omega)
        omega
end Go.SX
namespace Go.SX
open Go
variable {P:Program} {ι:IM} {w:World} {st:St}
def CH(P:Program)(rec:TypeId→AV→AV→Option Bool)(xs ys:List CV):List Field→Option Bool
 |[]=>some true
 |f::fs=>
  bif f.name== "_" then none else
  match o6 P f.type xs f.offset,o6 P f.type ys f.offset with
  |some a,some b=>match rec f.type a b,CH P rec xs ys fs with
   |some r,some r'=>some (r&&r')
   |_,_=>none
  |_,_=>none
def CQ(P:Program)(rec:TypeId→AV→AV→Option Bool)(e:TypeId)(c:Nat)(xs ys:List CV):List Nat→Option Bool
 |[]=>some true
 |i::is=>
  match o6 P e xs (i*c),o6 P e ys (i*c)with
  |some a,some b=>match rec e a b,CQ P rec e c xs ys is with
   |some r,some r'=>some (r&&r')
   |_,_=>none
  |_,_=>none
def DD(P:Program):Nat→TypeId→AV→AV→Option Bool
 |0,_,_,_=>none
 |d+1,t,a,b=>
  match P.underlying t with
  |some .bool=>match a,b with
   | .one (.pv (.s (.bool x))),.one (.pv (.s (.bool y)))=>some (x==y)
   |_,_=>none
  |some (.int _)=>match a,b with
   | .one (.pv (.s (.int k x))),.one (.pv (.s (.int k' y)))=>bif decide (k=k')then some (x==y)else none
   |_,_=>none
  |some .string=>match a,b with
   | .one (.pv (.s (.string x))),.one (.pv (.s (.string y)))=>some (x.toList==y.toList)
   |_,_=>none
  |some (.struct fs)=>match a,b with
   | .ag xs,.ag ys=>bif P.stoodInHeld t then none else CH P (DD P d) xs ys fs.toList
   |_,_=>none
  |some (.array n e)=>match a,b with
   | .ag xs,.ag ys=>match P.info? e with
    |some _=>CQ P (DD P d) e (P.cellsOf e) xs ys (List.range n)
    |none=>none
   |_,_=>none
  |_=>none
theorem wh{rec:TypeId→AV→AV→Option Bool}{D:Nat}
  (hrec:∀t a b r v u,rec t a b=some r→aN ι w st v a→aN ι w st u b→(Op.equalIn D t v u).run P w= .ok r w)
  {xs ys:List CV}{vs us:List Value}(hx:dv ι w st vs xs)(hy:dv ι w st us ys):∀(fs:List Field) (r:Bool),CH P rec xs ys fs=some r→(Op.eqFields D vs.toArray us.toArray fs).run P w= .ok r w
 |[],r,h=>by simp only[CH,cA]at h;subst h;simp[Op.eqFields]
 |f::fs,r,h=>by
  simp only[CH]at h
  cases hn:f.name== "_" with
  |true=>simp[hn]at h
  |false=>
   simp only[hn,cond_false]at h
   split at h
   ·rename_i a b ha hb
    split at h
    ·rename_i r1 r2 h1 h2
     simp only[cA]at h
     subst h
     obtain⟨v,pv,rv⟩:=mN ha hx
     obtain⟨u,pu,ru⟩:=mN hb hy
     have hne:f.name≠ "_" :=by simpa using hn
     have e1:=hrec _ _ _ _ _ _ h1 rv ru
     have e2:=wh hrec hx hy fs r2 h2
     simp only[Op.eqFields,hne,ne_eq,not_false_eq_true,if_true,Sem.run_bind,pv,pu,e1,Result.andThen_ok]
     cases r1 with
     |false=>simp
     |true=>simpa using e2
    ·cases h
   ·cases h
theorem wo{rec:TypeId→AV→AV→Option Bool}{D:Nat}{e:TypeId}{c:Nat}
  (hrec:∀t a b r v u,rec t a b=some r→aN ι w st v a→aN ι w st u b→(Op.equalIn D t v u).run P w= .ok r w)
  {xs ys:List CV}{vs us:List Value}(hx:dv ι w st vs xs)(hy:dv ι w st us ys):∀(is:List Nat) (r:Bool),CQ P rec e c xs ys is=some r→(Op.eqItems D e c vs.toArray us.toArray is).run P w= .ok r w
 |[],r,h=>by simp only[CQ,cA]at h;subst h;simp[Op.eqItems]
 |i::is,r,h=>by
  simp only[CQ]at h
  split at h
  ·rename_i a b ha hb
   split at h
   ·rename_i r1 r2 h1 h2
    simp only[cA]at h
    subst h
    obtain⟨v,pv,rv⟩:=mN ha hx
    obtain⟨u,pu,ru⟩:=mN hb hy
    have e1:=hrec _ _ _ _ _ _ h1 rv ru
    have e2:=wo hrec hx hy is r2 h2
    simp only[Op.eqItems,Sem.run_bind,pv,pu,e1,Result.andThen_ok]
    cases r1 with
    |false=>simp
    |true=>simpa using e2
   ·cases h
  ·cases h
theorem zY{v x:Value}(h:aN ι w st v (.one (.pv (.s x)))):v=x:=by
 cases h with
 |one _ _ h=>cases h with
  |pv _ _ h=>cases h;rfl
theorem tj:∀(d D:Nat) (t:TypeId) (a b:AV) (r:Bool) (v u:Value),DD P d t a b=some r→aN ι w st v a→aN ι w st u b→(Op.equalIn (D+d) t v u).run P w= .ok r w
 |0,_,_,_,_,_,_,_,h,_,_=>by cases h
 |d+1,D,t,a,b,r,v,u,h,hv,hu=>by
  simp only[DD]at h
  rw[show D+(d+1)=(D+d)+1 from rfl]
  split at h
  ·rename_i hT
   split at h
   ·simp only[cA]at h;subst h
    rw[zY hv,zY hu];exact run_equalIn_bool w _ _ _ _ hT
   ·cases h
  ·rename_i hT
   split at h
   ·rename_i k x k' y
    by_cases hk:k=k'
    ·subst hk
     simp only[decide_true,cond_true,cA]at h;subst h
     rw[zY hv,zY hu];exact run_equalIn_int w _ _ _ _ _ _ hT
    ·simp[hk]at h
   ·cases h
  ·rename_i hT
   split at h
   ·simp only[cA]at h;subst h
    rw[zY hv,zY hu];exact run_equalIn_string w _ _ _ _ hT
   ·cases h
  ·rename_i fs hT
   split at h
   ·cases hs:P.stoodInHeld t with
    |true=>simp[hs]at h
    |false=>
     simp only[hs,cond_false]at h
     cases hv with
     |ag vs _ hx=>
      cases hu with
      |ag us _ hy=>
       have hfs:P.fieldsOf t=fs:=by simp[Program.fieldsOf,hT]
       rw[run_equalIn_struct w (D+d) t _ _ (by rw[hfs];exact hT) hs,hfs]
       exact wh (fun t a b r v u=>tj d D t a b r v u) hx hy _ _ h
   ·cases h
  ·rename_i n e hT
   split at h
   ·cases hv with
    |ag vs _ hx=>
     cases hu with
     |ag us _ hy=>
      cases hi:P.info? e with
      |none=>simp[hi]at h
      |some i=>
       simp only[hi]at h
       rw[run_equalIn_array w (D+d) _ _ hT hi]
       exact wo (fun t a b r v u=>tj d D t a b r v u) hx hy _ _ h
   ·cases h
  ·cases h
def Mt(P:Program)(op:BinOp)(t:TypeId)(xs ys:List CV):Option Bool:=
 bif P.eqGuardType P.depth t then none else
 match op with
 | .eql=>DD P 10 t (.ag xs) (.ag ys)
 | .neq=>(DD P 10 t (.ag xs) (.ag ys)).map fun b=> !b
 |_=>none
theorem D4{op:BinOp}{t:TypeId}{xs ys:List CV}{b:Bool}{px py:Operand}(h:Mt P op t xs ys=some b){v u:Value}(hv:aN ι w st v (.ag xs))(hu:aN ι w st u (.ag ys)):
  (do eqGuard op t px py v u;binOp op t v u:Sem Value).run P w= .ok (.bool b) w:=by
 unfold Mt at h
 cases hg:P.eqGuardType P.depth t with
 |true=>simp[hg]at h
 |false=>
  simp only[hg,cond_false]at h
  have key:∀r,DD P 10 t (.ag xs) (.ag ys)=some r→(Op.equal t v u).run P w= .ok r w:=fun r hr=>tj 10 9990 t _ _ r v u hr hv hu
  cases hv with
  |ag vs _ hx=>
   cases hu with
   |ag us _ hy=>
    cases op<;>simp only at h<;>try (cases h;done)
    ·simp[eqGuard,hg,binOp,key _ h]
    ·simp only[mE]at h
     obtain⟨r,hr,rfl⟩:=h
     simp[eqGuard,hg,binOp,key _ hr]
end Go.SX
namespace Go.SX
open Go
variable {P:Program} {ι:IM} {w:World} {st:St}
theorem Jg{v:Value}{c:CV}(h:aN ι w st v (.one c)):bX ι w st v c:=by
 cases h with
 |one _ _ h=>exact h
def GN:HS→Option HS
 |[.rp [] 0 0]::hs=>some hs
 |_=>none
def IF(P:Program)(t:TypeId)(c:CV)(lo hi mx:Option Int):Option Prop:=
 match P.underlying t with
 |some (.slice elem)=>
  match vr P elem,c with
  |some es,.sl _ _ _ len=>
   let(l,h,ob):=fH len lo hi mx
   some (ob∧l=h)
  |_,_=>none
 |_=>none
theorem BH{t:TypeId}{c:CV}{lo hi mx:Option Value}{l h m:Option Int}{ob:Prop}(hs:IF P t c l h m=some ob)(hob:ob)(hl:td lo l)(hh:td hi h)(hm:td mx m)
  (hmh:m=none∨h≠none){v:Value}(hv:bX ι w st v c):∃u,(Instr.sliceAt t v lo hi mx).run P w= .ok u w∧bX ι w st u (.pv (.ro [])):=by
 unfold IF at hs
 cases hu:P.underlying t with
 |none=>simp[hu]at hs
 |some d=>
  cases d<;>try (simp[hu]at hs;done)
  case slice elem=>
   simp only[hu]at hs
   cases hn:vr P elem with
   |none=>simp[hn]at hs
   |some es=>
    simp only[hn]at hs
    cases hv with
    |pv=>simp at hs
    |pt=>simp at hs
    |mp=>simp at hs
    |cl=>simp at hs
    |fn=>simp at hs
    |sn id sz hid hb0=>
     simp only[cA]at hs
     subst hs
     obtain⟨hob,_⟩:=hob
     have hb:=ix (P:=P) (isS:=true) (len:=0) (cap:=0) hl hh hm (eo _) hob hmh w
     have h1:(fH 0 l h m).1=0:=by simp only[fH]at hob⊢;cases m<;>simp at hob<;>omega
     have h2:(fH 0 l h m).2.1=0:=by simp only[fH]at hob⊢;cases m<;>simp at hob⊢<;>omega
     have h3:(m.map Int.toNat).getD 0=0:=by cases m<;>simp[fH]at hob⊢;omega
     refine⟨.slice none 0 0,?_,.pv _ _ .nl⟩
     simp[Instr.sliceAt,Instr.slice,run_underlying hu,hb,cS hn,h1,h2,h3]
    |sl id sz off len b cap hid hb0 hcap hcc=>
     simp only[cA]at hs
     subst hs
     obtain⟨hob,he⟩:=hob
     have hb:=ix (P:=P) (isS:=true) (len:=len) (cap:=cap) hl hh hm hcap hob hmh w
     generalize (fH len l h m).1=lo' at*
     generalize (fH len l h m).2.1=hi' at*
     generalize (m.map Int.toNat).getD cap=mx' at*
     subst he
     refine⟨.slice (if mx'=lo' then some ⟨b,off*sz,none⟩else some ((⟨b,off*sz,none⟩:Addr).add (lo'*es))) (lo'-lo') (mx'-lo'),by simp[Instr.sliceAt,Instr.slice,run_underlying hu,hb,cS hn],?_⟩
     rw[Nat.sub_self]
     split
     ·exact bX.pv _ _ (dr.ro _ _ 0 [] (fun _ _=>undef) (by simp) (by simp) (by simp) (fun i e j c h=>by simp at h) (fun i e j c h=>by simp at h))
     ·exact bX.pv _ _ (dr.ro _ _ 0 [] (fun _ _=>undef) (by simp) (by simp) (by simp) (fun i e j c h=>by simp at h) (fun i e j c h=>by simp at h))
def wK(els:List (List PV))(off:Nat)(l:List (List PV)):List (List PV):=els.take off++l++els.drop (off+l.length)
theorem Iw(els:List (List PV))(off:Nat):wK els off []=els:=by simp[wK]
def JW(st:St):CV→Option (List (List PV)×Prop)
 | .pv (.ro els)=>some (els,True)
 | .pv (.s (.slice none 0 0))=>some ([],True)
 | .sl id sz off len=>
  match st[id]? with
  |some (.arr sz' els)=>bif Nat.beq sz sz' then some ((els.drop off).take len,off+len≤els.length)else none
  |_=>none
 |_=>none
theorem Fw{c:CV}{els:List (List PV)}{p:Prop}(h:JW st c=some (els,p))(hp:p):mK st c=some els:=by
 unfold JW at h
 split at h
 ·cases h;rfl
 ·cases h;rfl
 ·rename_i id sz off len
  split at h
  ·rename_i sz' els' hs
   cases hz:Nat.beq sz sz' with
   |false=>simp[hz]at h
   |true=>
    simp only[hz,cond_true,cA,ku]at h
    obtain⟨rfl,rfl⟩:=h
    simp only[mK,hs,hz,Bool.true_and,Nat.ble_eq_true_of_le hp,cond_true]
  ·cases h
 ·cases h
def LX(P:Program)(t:TypeId)(d x:AV)(st:St)(hs:HS):Option rT:=
 match P.underlying t with
 |some (.slice e)=>
  match P.info? e with
  |some i=>
   bif Nat.beq i.size 1 then
    match d,x with
    | .one (.sl id sz off len),.one c=>
     match st[id]?,JW st c with
     |some (.arr sz' els),some (news,sp)=>
      bif Nat.beq sz 1&&Nat.beq sz' 1 then
       some ⟨.one (.pv (.s (.int .i64 ((min news.length len:Nat):Int)))),st.set id (.arr 1 (wK els off (news.take (min news.length len)))),[aT 1 news,off+len≤els.length,sp],hs,none⟩
      else none
     |_,_=>none
    | .one (.pv (.ro [])),.one c=>
     match JW st c with
     |some (news,sp)=>some ⟨.one (.pv (.s (.int .i64 0))),st,[aT 1 news,sp],hs,none⟩
     |none=>none
    |_,_=>none
   else none
  |none=>none
 |_=>none
theorem HV{id:Nat}{o:aV}(h:st[id]? =some o):st.set id o=st:=by
 apply List.ext_getElem?
 intro j
 by_cases e:j=id
 ·subst e;rw[List.getElem?_set_self (gN.1 h).1,h]
 ·rw[List.getElem?_set_ne (Ne.symm e)]
theorem Dy{t tx ty:TypeId}{d x:AV}{hs:HS}{out:rT}(h:LX P t d x st hs=some out)(hob:eH out.ob)(r:eu ι w st){vd vx:Value}(hd:aN ι w st vd d)(hx:aN ι w st vx x):
  ∃v w',(Builtin.copy_ #[t,tx] ty #[vd,vx]).run P w= .ok v w'∧eu ι w' out.st∧aN ι w' out.st v out.av∧bo all ι w st ι w' out.st∧out.mv=none:=by
 unfold LX at h
 cases hu:P.underlying t with
 |none=>simp[hu]at h
 |some dd=>
  cases dd<;>try (simp[hu]at h;done)
  rename_i e
  cases hi:P.info? e with
  |none=>simp[hu,hi]at h
  |some i=>
   simp only[hu,hi]at h
   cases hq:Nat.beq i.size 1 with
   |false=>simp[hq]at h
   |true=>
    have hi1:=kW hq
    have hs1:(P.info? e).map (·.size)=some 1:=by rw[hi];simp[hi1]
    simp only[hq,cond_true]at h
    split at h
    ·
     rename_i id sz off len c
     split at h
     ·rename_i sz' els news sp hst hrd
      cases hz:(Nat.beq sz 1&&Nat.beq sz' 1)with
      |false=>simp[hz]at h
      |true=>
       simp only[hz,cond_true,cA]at h
       subst h
       simp only[fM]at hz
       have z1:=kW hz.1
       have z2:=kW hz.2
       subst z1 z2
       obtain⟨hok,hfit,hsp,_⟩:=hob
       have hrd:=Fw hrd hsp
       obtain⟨us,hr⟩:=pT (P:=P) (sz:=1) hrd r (Jg hx) hok
       have hul:us.length=news.length:=by rw[hr.len,Nat.mul_one]
       have none_case:Nat.min news.length len=0→∀(dA:Option Addr) (dC:Nat),vd= .slice dA len dC→∃v w',(Builtin.copy_ #[t,tx] ty #[vd,vx]).run P w= .ok v w'∧eu ι w' (st.set id (.arr 1 (wK els off (news.take (min news.length len)))))∧
         aN ι w' (st.set id (.arr 1 (wK els off (news.take (min news.length len))))) v (.one (.pv (.s (.int .i64 ((min news.length len:Nat):Int)))))∧bo all ι w st ι w' (st.set id (.arr 1 (wK els off (news.take (min news.length len)))))∧(none:Option Nat)=none:=fun hm dA dC hvd=>by
        have hm':min news.length len=0:=hm
        rw[hm',List.take_zero,Iw,HV hst]
        rcases hr.shape with⟨e1,e2⟩ |⟨ad,cap,e1,e2,e3⟩
        ·subst e1
         exact⟨_,_,by rw[hvd];exact run_copy_none (P:=P) w t tx ty e dA none len dC 0 0 hu hs1 (by simp),r,.one _ _ (.pv _ _ (.s _ rfl)),.refl,rfl⟩
        ·subst e1
         exact⟨_,_,by rw[hvd];exact run_copy_none (P:=P) w t tx ty e dA (some ad) len dC news.length cap hu hs1 hm,r,.one _ _ (.pv _ _ (.s _ rfl)),.refl,rfl⟩
       cases hd with
       |one _ _ hv=>
        cases hv with
        |sn _ _ hid hb0=>exact none_case (by simp) none 0 rfl
        |sl _ _ _ _ b cap hid hb0 hcap hcc=>
         by_cases hm:Nat.min news.length len=0
         ·exact none_case hm _ _ rfl
         ·have hpos:0<min news.length len:=Nat.pos_of_ne_zero hm
          rcases hr.shape with⟨e1,e2⟩ |⟨ad,cap2,e1,e2,e3⟩
          ·subst e2;simp at hpos
          ·subst e1
           rcases r.obj id _ hst with⟨q1,q2⟩ |⟨b',cl,ty',q1,q2,q3,q4,q5⟩
           ·rw[hb0]at q1;cases q1
           ·rw[hb0]at q1;cases q1
            have hml:min news.length len≤news.length:=Nat.min_le_left _ _
            have hml2:min news.length len≤len:=Nat.min_le_right _ _
            have hcsl:(us.take (min news.length len)).length=min news.length len:=by rw[List.length_take,hul];omega
            have hrun:=run_copy_row (P:=P) w t tx ty e b (off*1) len cap ad news.length cap2 cl ty' (us.take (min news.length len)) hu hs1 q2 hcsl
             (fun j v hj=>e3 j v (by rw[List.getElem?_take]at hj;split at hj;exact hj;cases hj)) (by rw[hcsl];omega) (fun v hv=>hr.one v (List.mem_of_mem_take hv))
            have hw:=lZ (w:=w) (arr:=(cl.toList.take (off*1)++us.take (min news.length len)++cl.toList.drop (off*1+(us.take (min news.length len)).length)).toArray) q2 (by simp[hcsl];omega)
            have ha:aV.alive (.arr 1 els):=by simp[aV.alive]
            have k:=gK (body':= .arr 1 (wK els off (news.take (min news.length len)))) hst ha hb0 hw
            have hnl:(news.take (min news.length len)).length=min news.length len:=by rw[List.length_take];omega
            refine⟨_,_,hrun,r.set hst ha hb0 hw ?_,?_,k,rfl⟩
            ·have hgetC:∀q,(cl.toList.take (off*1)++us.take (min news.length len)++cl.toList.drop (off*1+(us.take (min news.length len)).length)).toArray[q]? =
               if q<off then cl[q]? else if q<off+min news.length len then(us.take (min news.length len))[q-off]? else cl[q]? :=by
              intro q
              have:=oH cl.toList (us.take (min news.length len)) (off*1) q (by rw[hcsl];simp;omega)
              simp only[List.append_assoc,List.getElem?_toArray]
              rw[this,hcsl]
              simp
             have hgetE:∀q,(wK els off (news.take (min news.length len)))[q]? =
               if q<off then els[q]? else if q<off+min news.length len then(news.take (min news.length len))[q-off]? else els[q]? :=by
              intro q
              have:=oH els (news.take (min news.length len)) off q (by rw[hnl];omega)
              unfold wK
              rw[List.append_assoc,this,hnl]
             have hlenE:(wK els off (news.take (min news.length len))).length=els.length:=by
              unfold wK;simp only[List.length_append,List.length_take,List.length_drop];omega
             refine .inr ⟨b,_,ty',hb0,setRow_heap w b _ _ ty' _ q2,?_,?_,?_⟩
             ·rw[hlenE];simp[hcsl];omega
             ·intro e' he'
              unfold wK at he'
              simp only[List.mem_append]at he'
              rcases he' with(h1|h1) |h1
              ·exact q4 e' (List.mem_of_mem_take h1)
              ·exact hok e' (List.mem_of_mem_take h1)
              ·exact q4 e' (List.mem_of_mem_drop h1)
             ·intro i' e' j cv h1 h2
              rw[hgetE]at h1
              have hj0:e'.length=1:=by
               by_cases g1:i'<off
               ·rw[if_pos g1]at h1;exact q4 e' (List.mem_of_getElem? h1)
               ·rw[if_neg g1]at h1
                by_cases g2:i'<off+min news.length len
                ·rw[if_pos g2]at h1;exact hok e' (List.mem_of_mem_take (List.mem_of_getElem? h1))
                ·rw[if_neg g2]at h1;exact q4 e' (List.mem_of_getElem? h1)
              have hj:j=0:=by have:=(gN.1 h2).1;omega
              subst hj
              rw[hgetC,Nat.mul_one,Nat.add_zero]
              by_cases g1:i'<off
              ·rw[if_pos g1]at h1⊢
               obtain⟨v,a1,a2⟩:=q5 i' e' 0 cv h1 h2
               exact⟨v,by simpa using a1,k.pure a2⟩
              ·rw[if_neg g1]at h1⊢
               by_cases g2:i'<off+min news.length len
               ·rw[if_pos g2]at h1⊢
                rw[List.getElem?_take]at h1
                split at h1
                ·rename_i g3
                 obtain⟨u,a1,a2⟩:=hr.each _ e' 0 cv h1 h2
                 rw[Nat.mul_one,Nat.add_zero]at a1
                 exact⟨u,by rw[List.getElem?_take,if_pos g3];exact a1,k.pure a2⟩
                ·cases h1
               ·rw[if_neg g2]at h1⊢
                obtain⟨v,a1,a2⟩:=q5 i' e' 0 cv h1 h2
                exact⟨v,by simpa using a1,k.pure a2⟩
            ·rw[hcsl];exact .one _ _ (.pv _ _ (.s _ rfl))
     ·simp at h
    ·
     rename_i c
     split at h
     ·rename_i news sp hrd
      simp only[cA]at h
      subst h
      obtain⟨hok,hsp,_⟩:=hob
      have hrd:=Fw hrd hsp
      obtain⟨us,hr⟩:=pT (P:=P) (sz:=1) hrd r (Jg hx) hok
      have dsh:∃dA dC,vd= .slice dA 0 dC:=by
       cases hd with
       |one _ _ hv=>
        cases hv with
        |pv _ _ hp=>
         cases hp with
         |nl=>exact⟨none,0,rfl⟩
         |ro a cap sz _ vf=>exact⟨some a,cap,rfl⟩
      obtain⟨dA,dC,rfl⟩:=dsh
      rcases hr.shape with⟨e1,e2⟩ |⟨ad,cap,e1,e2,e3⟩
      ·subst e1
       exact⟨_,_,run_copy_none (P:=P) w t tx ty e dA none 0 dC 0 0 hu hs1 (by simp),r,.one _ _ (.pv _ _ (.s _ rfl)),.refl,rfl⟩
      ·subst e1
       exact⟨_,_,run_copy_none (P:=P) w t tx ty e dA (some ad) 0 dC news.length cap hu hs1 (by simp),r,.one _ _ (.pv _ _ (.s _ rfl)),.refl,rfl⟩
     ·simp at h
    ·simp at h
end Go.SX
namespace Go.SX
open Go
section
variable {P:Program} {ι:IM} {w:World} {st:St}
theorem NG{id sz:Nat}{els:List (List PV)}(r:eu ι w st)(hid:st[id]? =some (.arr sz els)):
  eu (ι.add st.length (ι id)) w (st.set id .dead++[.arr sz els])∧bo all ι w st (ι.add st.length (ι id)) w (st.set id .dead++[.arr sz els]):=by
 have hlt:=(gN.1 hid).1
 have hnew:(ι.add st.length (ι id)) st.length=ι id:=by simp[IM.add]
 have hold:∀i,i<st.length→(ι.add st.length (ι id)) i=ι i:=fun i hi=>by simp[IM.add,Nat.ne_of_lt hi]
 have get:∀(i:Nat) (o:aV),(st.set id .dead++[.arr sz els])[i]? =some o→o.alive→(i=st.length∧o= .arr sz els)∨(i<st.length∧i≠id∧st[i]? =some o):=by
  intro i o hi ha
  by_cases hl:i<st.length
  ·rw[nq (by simpa using hl)]at hi
   by_cases e:i=id
   ·subst e
    rw[List.getElem?_set_self hl]at hi
    cases hi
    exact absurd rfl ha
   ·rw[List.getElem?_set_ne (Ne.symm e)]at hi
    exact .inr ⟨hl,e,hi⟩
  ·have:i=st.length:=by
    have:=(gN.1 hi).1
    simp at this
    omega
   subst this
   rw[List.getElem?_append_right (by simp)]at hi
   simp at hi
   exact .inl ⟨rfl,hi.symm⟩
 have src:∀(i:Nat) (o:aV) (x:Nat),(st.set id .dead++[.arr sz els])[i]? =some o→o.alive→(ι.add st.length (ι id)) i=some x→∃j,st[j]? =some o∧ι j=some x∧((i=st.length∧j=id)∨(i=j∧j≠id)):=by
  intro i o x hi ha hx
  rcases get i o hi ha with⟨rfl,rfl⟩ |⟨h1,h2,h3⟩
  ·exact⟨id,hid,hnew.symm.trans hx,.inl ⟨rfl,rfl⟩⟩
  ·exact⟨i,h3,(hold i h1).symm.trans hx,.inr ⟨rfl,h2⟩⟩
 have own:∀x,nV (ι.add st.length (ι id)) (st.set id .dead++[.arr sz els]) x→nV ι st x:=by
  rintro x ⟨i,o,h1,h2,h3⟩
  obtain⟨j,e1,e2,_⟩:=src i o x h1 h2 h3
  exact⟨j,o,e1,h2,e2⟩
 have k:bo all ι w st (ι.add st.length (ι id)) w (st.set id .dead++[.arr sz els]):=
  ⟨rfl,rfl,rfl,eo _,rfl,fun x hx hm=>⟨rfl,fun hm'=>hm (own x hm')⟩,fun i _ hi=>⟨by simp;omega,hold i hi⟩,fun x c ty fz hx=>⟨c,hx,rfl⟩⟩
 refine⟨⟨fun i o hi=> ?_,r.amb,fun x hx=>r.dis x (own x hx),fun i i' o o' x h1 h2 a1 a2 e1 e2=> ?_,r.glk k⟩,k⟩
 ·by_cases ha:o= .dead
  ·subst ha;trivial
  rcases get i o hi ha with⟨rfl,rfl⟩ |⟨h1,h2,h3⟩
  ·rcases r.obj id _ hid with⟨e,he⟩ |⟨b',c,ty,e,hb',g1,g2,g3⟩
   ·exact .inl ⟨hnew.trans e,he⟩
   ·refine .inr ⟨b',c,ty,hnew.trans e,hb',g1,g2,fun i e' j cv a1 a2=> ?_⟩
    obtain⟨v,hv,hr⟩:=g3 i e' j cv a1 a2
    exact⟨v,hv,k.pure hr⟩
  ·have:=r.obj i o h3
   have hm:=hold i h1
   cases o with
   |dead=>trivial
   |box cells=>
    obtain⟨b',vs,ty,e,hb',hl⟩:=this
    exact⟨b',vs,ty,hm.trans e,hb',hl.mono' k⟩
   |win wsz wi pre mid post=>
    obtain⟨b',c0,ty,e,hb',hn0,hl⟩:=this
    exact⟨b',c0,ty,hm.trans e,hb',hn0,hl.mono' k⟩
   |rel Rm ps=>
    obtain⟨b',ob,vs0,e,hb',hr0,hl0⟩:=this
    exact⟨b',ob,vs0,hm.trans e,hb',hr0,hl0.map fun _ _ h0=>k.pure h0⟩
   |arr sz els=>
    rcases this with⟨e,he⟩ |⟨b',c,ty,e,hb',g1,g2,g3⟩
    ·exact .inl ⟨hm.trans e,he⟩
    ·refine .inr ⟨b',c,ty,hm.trans e,hb',g1,g2,fun i e' j cv a1 a2=> ?_⟩
     obtain⟨v,hv,hr⟩:=g3 i e' j cv a1 a2
     exact⟨v,hv,k.pure hr⟩
 ·obtain⟨j,p1,p2,p3⟩:=src i o x h1 a1 e1
  obtain⟨j',q1,q2,q3⟩:=src i' o' x h2 a2 e2
  have:=r.inj j j' o o' x p1 q1 a1 a2 p2 q2
  omega
def G7(P:Program)(t tx:TypeId)(d x:AV)(st:St)(hs:HS):Option rT:=
 match d with
 | .one (.sl id sz off len)=>match st[id]? with
  |some (.arr sz' els)=>match Ep P t tx (.one (.sl st.length sz off len)) x (st.set id .dead++[.arr sz' els]) hs with
   |some out=>some ⟨out.av,out.st,out.ob,out.hs,none⟩
   |none=>none
  |_=>none
 |_=>Ep P t tx d x st hs
theorem Cm{α:Type}{b:Bool}{x:Option α}{y:α}(h:(bif b then x else none)=some y):x=some y:=by
 cases b with
 |false=>cases h
 |true=>exact h
theorem JJ{t tx:TypeId}{id sz off len:Nat}{x:AV}{hs:HS}{out:rT}(h:Ep P t tx (.one (.sl id sz off len)) x st hs=some out):out.mv=some id:=by
 unfold Ep at h
 repeat' split at h
 all_goals first|(cases h;done) |skip
 all_goals have h2:=Cm h
 all_goals first|(have h3:=Cm h2;simp only[cA]at h3;subst h3;simp_all;done) |(simp_all;done)
theorem bo.ltAll{ι':IM}{w':World}{st':St}(h:bo (fun id=>id<st.length) ι w st ι' w' st'):bo all ι w st ι' w' st':=
 ⟨h.os,h.tape,h.output,h.size,h.amb,h.blk,fun id _ hid=>h.map id hid hid,h.shp⟩
theorem BO{t tx ty:TypeId}{d x:AV}{hs:HS}{out:rT}(h:G7 P t tx d x st hs=some out)(hob:eH out.ob)(r:eu ι w st){vd vx:Value}(hd:aN ι w st vd d)(hx:aN ι w st vx x):
  ∃v w' ι',(Builtin.append_ #[t,tx] ty #[vd,vx]).run P w= .ok v w'∧eu ι' w' out.st∧aN ι' w' out.st v out.av∧bo (fun id=>iB out.mv id=true) ι w st ι' w' out.st:=by
 unfold G7 at h
 split at h
 ·rename_i id sz off len
  split at h
  ·rename_i sz' els hid
   split at h
   ·rename_i out1 hap
    simp only[cA]at h
    subst h
    obtain⟨r1,k1⟩:=NG r hid
    have hnew:(ι.add st.length (ι id)) st.length=ι id:=by simp[IM.add]
    have hd1:aN (ι.add st.length (ι id)) w (st.set id .dead++[.arr sz' els]) vd (.one (.sl st.length sz off len)):=by
     cases hd with
     |one _ _ hv=>
      cases hv with
      |sl _ _ _ _ b cap h1 hb hcap hc=>exact .one _ _ (.sl st.length sz off len b cap (by simp) (hnew.trans hb) hcap hc)
      |sn _ _ h1 hb=>exact .one _ _ (.sn st.length sz (by simp) (hnew.trans hb))
    obtain⟨v,w',ι',e1,e2,e3,e4⟩:=tq (P:=P) (ty:=ty) hap hob r1 hd1 (hx.mono' k1)
    refine⟨v,w',ι',e1,e2,e3,?_⟩
    have hmv:=JJ hap
    refine(bo.ltAll ((k1.weaken (fix':=fun i=>i<st.length) (fun _ _=>trivial)).trans (e4.weaken (fun i hi=> ?_)))).weaken (fun _ _=>trivial)
    rw[hmv]
    have hi':i<st.length:=hi
    unfold iB
    cases hb:Nat.beq i st.length with
    |false=>simp[hb]
    |true=>have:=kW hb;omega
   ·cases h
  ·cases h
 ·exact tq h hob r hd hx
def Mg(P:Program)(t tx:TypeId)(els:List (List PV))(x:AV)(st:St)(hs:HS):Option rT:=
 match P.underlying t with
 |some (.slice e)=>
  match P.info? e with
  |some i=>
   match i.zero,vF P st tx x with
   |some z,some news=>
    bif Nat.beq z.cells.size i.size&&(Nat.ble i.bytes 16384&&Nat.ble 1 i.size)then
     some ⟨.one (.sl st.length i.size 0 (els.length+news.length)),st++[.arr i.size (els++news)],[aT i.size els,aT i.size news,0<news.length,els.length+news.length≤4294967296],hs,none⟩
    else none
   |_,_=>none
  |none=>none
 |_=>none
theorem DC{t tx ty:TypeId}{els:List (List PV)}{x:AV}{hs:HS}{out:rT}(h:Mg P t tx els x st hs=some out)(hob:eH out.ob)(r:eu ι w st){vd vx:Value}(hd:aN ι w st vd (.one (.cl els)))(hx:aN ι w st vx x):
  ∃v w' ι',(Builtin.append_ #[t,tx] ty #[vd,vx]).run P w= .ok v w'∧eu ι' w' out.st∧aN ι' w' out.st v out.av∧bo (fun id=>iB out.mv id=true) ι w st ι' w' out.st:=by
 unfold Mg at h
 cases hu:P.underlying t with
 |none=>simp[hu]at h
 |some dd=>
  cases dd<;>try (simp[hu]at h;done)
  rename_i e
  cases hi:P.info? e with
  |none=>simp[hu,hi]at h
  |some i=>
   cases hz:i.zero with
   |none=>simp[hu,hi,hz]at h
   |some z=>
    cases hsrc:vF P st tx x with
    |none=>simp[hu,hi,hz,hsrc]at h
    |some news=>
     simp only[hu,hi,hz,hsrc]at h
     cases hb:(Nat.beq z.cells.size i.size&&(Nat.ble i.bytes 16384&&Nat.ble 1 i.size))with
     |false=>simp[hb]at h
     |true=>
      simp only[hb,cond_true,cA]at h
      subst h
      simp only[fM]at hb
      have hzs:=kW hb.1
      have hby:=n4 hb.2.1
      have hsp:=n4 hb.2.2
      obtain⟨ho,hn,hp,hl,_⟩:=hob
      have bound:(els.length+news.length)*i.bytes≤140737488355328:=by
       have:(els.length+news.length)*i.bytes≤4294967296*16384:=Nat.mul_le_mul hl hby
       omega
      obtain⟨vs,s1,s2⟩:=so (P:=P) hsrc r hx hn (by omega)
      cases hd with
      |one _ _ hv=>
       cases hv with
       |cl _ _ hpr hcap=>
        obtain⟨os,hr⟩:=pT (P:=P) (els:=els) rfl r (bX.pv _ _ hpr) ho
        have hol:=hr.len
        rcases hr.shape with⟨rfl,rfl⟩ |⟨a,cap,rfl,hlc,hcell⟩
        ·have ho0:os=[]:=List.eq_nil_of_length_eq_zero (by simpa using hol)
         subst ho0
         simp only[List.length_nil,Nat.zero_add,List.nil_append]at hl bound⊢
         have hrun:=run_append_grow_src (P:=P) w t tx ty e i z hu hi hz none 0 0 [] (by simp[Builtin.firstCells]) vx news.length vs s1 (by omega) (by omega)
          (growslice_fits (by omega) (by rw[Nat.zero_add];exact bound))
         have hg:=grownCap_ge w (0+news.length) 0 e
         obtain⟨g1,g2⟩:=nC (ι:=ι) (w:=w) (st:=st) (i:=i) (z:=z) (olds:=[]) (news:=vs) (els:=[]) (nels:=news) (cap:=grownCap w (0+news.length) 0 e) hzs (by simp) s1.newsLen
          (fun k e j c h=>by simp at h) s2 (by simpa using hg)
         simp only[List.nil_append,List.length_nil,Nat.zero_add]at g2 g1 hrun hg
         obtain⟨a1,a2,a3⟩:=u9 (ι:=ι) (w:=w) (st:=st) (els:=news) (sz:=i.size) (cap:=grownCap w news.length 0 e) (b:=w.heap.size) ((m6.drew w).trans (m6.alloc _ _)) r e (eo _) (dh w.drew _) hg (by rw[g1];exact eo _) hn g2
         exact⟨_,_,_,hrun,a1,.one _ _ a3,a2.weaken (fun _ _=>trivial)⟩
        ·have hce:cap=els.length:=hcap _ _ _ rfl
         subst hce
         have hold:(Builtin.firstCells i.size els.length (.slice (some a) els.length els.length)).run P w.drew= .ok os.toArray w.drew:=
          run_firstCells_some w.drew i.size els.length a els.length els.length os hol (fun j v hj=>by rw[←hcell j v hj];rfl)
         have hrun:=run_append_grow_src (P:=P) w t tx ty e i z hu hi hz (some a) els.length els.length os hold vx news.length vs s1 (by omega) (by omega)
          (growslice_fits (by omega) bound)
         have hg:=grownCap_ge w (els.length+news.length) els.length e
         obtain⟨g1,g2⟩:=nC (ι:=ι) (w:=w) (st:=st) (i:=i) (z:=z) (olds:=os) (news:=vs) (els:=els) (nels:=news) (cap:=grownCap w (els.length+news.length) els.length e) hzs hol s1.newsLen
          hr.each s2 hg
         have hok:∀e∈els++news,e.length=i.size:=fun e he=>(List.mem_append.1 he).elim (ho e) (hn e)
         obtain⟨a1,a2,a3⟩:=u9 (ι:=ι) (w:=w) (st:=st) (els:=els++news) (sz:=i.size) (cap:=grownCap w (els.length+news.length) els.length e) (b:=w.heap.size) ((m6.drew w).trans (m6.alloc _ _)) r e (eo _) (dh w.drew _) (by rw[List.length_append];exact hg) (by rw[g1];exact eo _) hok g2
         rw[List.length_append]at a3
         exact⟨_,_,_,hrun,a1,.one _ _ a3,a2.weaken (fun _ _=>trivial)⟩
def IC(P:Program)(mu:Bool)(t tx:TypeId)(d x:AV)(st:St)(hs:HS):Option rT:=
 match d with
 | .one (.cl els)=>Mg P t tx els x st hs
 |_=>match mu with
  |false=>Ep P t tx d x st hs
  |true=>G7 P t tx d x st hs
theorem CW{mu:Bool}{t tx ty:TypeId}{d x:AV}{hs:HS}{out:rT}(h:IC P mu t tx d x st hs=some out)(hob:eH out.ob)(r:eu ι w st){vd vx:Value}(hd:aN ι w st vd d)(hx:aN ι w st vx x):
  ∃v w' ι',(Builtin.append_ #[t,tx] ty #[vd,vx]).run P w= .ok v w'∧eu ι' w' out.st∧aN ι' w' out.st v out.av∧bo (fun id=>iB out.mv id=true) ι w st ι' w' out.st:=by
 unfold IC at h
 split at h
 ·exact DC h hob r hd hx
 ·cases mu with
  |false=>exact tq h hob r hd hx
  |true=>exact BO h hob r hd hx
def Mk(P:Program)(t:TypeId)(c:CV)(lo hi mx:Option Int):Option (CV×Prop):=
 match P.underlying t with
 |some (.slice elem)=>
  match vr P elem,c,hi,mx with
  |some _,.pv (.ro els),some h,some m=>some (.cl els,lo.getD 0=0∧h=els.length∧m=els.length)
  |_,_,_,_=>none
 |_=>none
theorem DR{t:TypeId}{c c':CV}{lo hi mx:Option Value}{l h m:Option Int}{ob:Prop}(hs:Mk P t c l h m=some (c',ob))(hob:ob)(hl:td lo l)(hh:td hi h)(hm:td mx m){v:Value}(hv:bX ι w st v c):
  ∃u,(Instr.sliceAt t v lo hi mx).run P w= .ok u w∧bX ι w st u c':=by
 unfold Mk at hs
 cases hu:P.underlying t with
 |none=>simp[hu]at hs
 |some d=>
  cases d<;>try (simp[hu]at hs;done)
  rename_i elem
  simp only[hu]at hs
  split at hs
  ·rename_i es els hv' mv hn
   simp only[cA,ku]at hs
   obtain⟨rfl,rfl⟩:=hs
   obtain⟨h1,h2,h3⟩:=hob
   subst h2
   subst h3
   cases hv with
   |pv _ p hp=>
    have hc1:(fH els.length l (some (els.length:Int)) (some (els.length:Int))).1=0:=by simp only[fH];rw[h1];rfl
    have hc2:(fH els.length l (some (els.length:Int)) (some (els.length:Int))).2.1=els.length:=by simp[fH]
    have hc3:(fH els.length l (some (els.length:Int)) (some (els.length:Int))).2.2:=by
     simp only[fH,Option.getD_some]
     rw[h1]
     exact⟨Int.le_refl _,by omega,Int.le_refl _,Int.le_refl _⟩
    cases hp with
    |nl=>
     have hb:=ix (P:=P) (isS:=true) (len:=0) (cap:=0) hl hh hm (eo _) hc3 (.inr (by simp)) w
     simp only[List.length_nil]at hc1 hc2 hb
     rw[hc1,hc2]at hb
     refine⟨.slice none 0 0,?_,.cl _ _ .nl (fun a n m e=>by cases e;rfl)⟩
     simp[Instr.sliceAt,Instr.slice,run_underlying hu,hb,cS hn]
    |ro a cap sz _ vf hcap hsz hb0 hc hvv=>
     have hb:=ix (P:=P) (isS:=true) (len:=els.length) (cap:=cap) hl hh hm hcap hc3 (.inr (by simp)) w
     refine⟨.slice (some a) els.length els.length,?_,.cl _ _ (.ro a els.length sz els vf (eo _) hsz hb0 hc hvv) (fun a n m e=>by cases e;rfl)⟩
     have ha:a.add 0=a:=by unfold Addr.add;simp
     simp only[Instr.sliceAt,Instr.slice,run_underlying hu,Sem.run_bind,Result.andThen_ok,hb,cS hn,hc1,hc2,Sem.run_pure,Option.map_some,Option.getD_some,Int.toNat_natCast,Nat.sub_zero,Nat.zero_mul]
     by_cases h0:els.length=0<;>simp[h0,ha]
  ·cases hs
end
end Go.SX
namespace Go.SX
open Go
variable {P:Program} {ι:IM} {w:World} {st:St}
def AT(t:Bool)(a b:AV):AV:=
 match a,b with
 | .one (.pv (.s (.bool x))),.one (.pv (.s (.bool y)))=> .one (.pv (.s (.bool (bif t then x else y))))
 |a,b=>bif t then a else b
def lC(fr:Fr):List (Nat×Operand)→Option (List (Nat×List CV))
 |[]=>some []
 |(i,x)::l=>match tX (rv fr x),lC fr l with
  |some cs,some r=>some ((i,cs)::r)
  |_,_=>none
def vM(fr:Fr):List Operand→Option (List CV)
 |[]=>some []
 |x::l=>match rv fr x,vM fr l with
  | .one c,some r=>some (c::r)
  |_,_=>none
def Bk(z:List CV):Nat→List CV
 |0=>[]
 |n+1=>z++Bk z n
def GC(fr:Fr):Option Operand→Option (Option Int)
 |none=>some none
 |some x=>match rv fr x with
  | .one (.pv (.s (.int _ n)))=>some (some n)
  |_=>none
def Ip(P:Program)(t:TypeId)(av:AV):Option Int:=
 match P.underlying t with
 |some .string=>match av with
  | .one (.pv (.s (.string s)))=>some s.size
  |_=>none
 |some (.array n _)=>some n
 |some (.slice _)=>match av with
  | .one c=>(ow c).map fun n=>(n:Int)
  |_=>none
 |_=>none
def oz(P:Program):List Field→Option (List (Nat×Nat))
 |[]=>some []
 |f::l=>match P.info? f.type,oz P l with
  |some i,some r=>some ((f.offset,i.size)::r)
  |_,_=>none
def A1(P:Program)(t:TypeId)(pcs:List (Nat×List CV)):Option (List CV):=
 match tC P t with
 |some z=>
  match P.underlying t with
  |some (.struct fields)=>match oz P fields.toList with
   |some places=>sV (places[·]?) z pcs
   |none=>none
  |some (.array _ e)=>match vr P e with
   |some es=>sV (fun i=>some (i*es,es)) z pcs
   |none=>none
  |_=>none
 |none=>none
def Nj:List PV→Int
 |[.s (.int _ n)]=>n
 |_=>0
def lT(els:List (List PV)):List Int:=els.map Nj
def E3(els:List (List PV)):Prop:=els=(lT els).map fun n=>[.s (.int .u8 n)]
def yn(els:List (List PV)):ByteArray:=strOfNums (lT els)
def qj(s:ByteArray):Nat→Nat→List Int
 |0,_=>[]
 |b+1,i=>if i<s.size then Int.ofNat (Utf8.decode s i).1::qj s b (i+(Utf8.decode s i).2)else[]
def po(s:ByteArray):List Int:=qj s s.size 0
def sv(s:ByteArray):List (List PV):=(po s).map fun n=>[.s (.int .i32 n)]
def FG(els:List (List PV)):Prop:=els=(lT els).map fun n=>[.s (.int .i32 n)]
def xt(els:List (List PV)):ByteArray:=runesBytes (lT els)
theorem uK(s:ByteArray):∀(b i:Nat) (acc:Array Value),Conv.runesFrom s b i acc=acc++((qj s b i).map (Value.int .i32)).toArray
 |0,_,acc=>by simp[Conv.runesFrom,qj]
 |b+1,i,acc=>by
  rw[Conv.runesFrom,qj]
  split
  ·show Conv.runesFrom s b (i+(Utf8.decode s i).2) (acc.push (Value.int .i32 (Int.ofNat (Utf8.decode s i).1)))=_
   rw[uK s b];simp
  ·simp
theorem wB(s:ByteArray):Conv.runesFrom s s.size 0 #[]=((po s).map (Value.int .i32)).toArray:=by
 rw[uK];simp[po]
theorem wC(s:ByteArray):∀(b i:Nat),(qj s b i).length≤b
 |0,_=>eo _
 |b+1,i=>by
  rw[qj]
  split
  ·have:=wC s b (i+(Utf8.decode s i).2);simp;omega
  ·simp
def sP:PV→PV
 | .s (.slice none 0 0)=> .ro []
 |p=>p
theorem Ce{μ:Nat→Prop}{w:World}{v:Value}{p:PV}(h:dr μ w v p):dr μ w v (sP p):=by
 unfold sP
 split
 ·cases h;exact .nl
 ·exact h
def oc:HS→PV→PV
 |[]::_,p=>p
 |_,p=>sP p
theorem Au{μ:Nat→Prop}{w:World}{hs:HS}{v:Value}{p:PV}(h:dr μ w v p):dr μ w v (oc hs p):=by
 unfold oc
 split
 ·exact h
 ·exact Ce h
def Pn(P:Program)(op:BinOp)(t:TypeId)(a:Value)(y:Operand):Option Bool:=
 match y with
 | .const .nilIface=>match P.underlying t with
  |some (.interface _)=>match a with
   | .nilIface=>(match op with| .eql=>some true| .neq=>some false|_=>none)
   | .iface _ _=>(match op with| .eql=>some false| .neq=>some true|_=>none)
   |_=>none
  |_=>none
 |_=>none
def Hv(P:Program)(op:BinOp)(tt:TypeId)(a b:Value):Option Bool:=
 match a,b with
 | .slice none 0 0,.slice none 0 0=>(match op,P.underlying tt with
  | .eql,some (.slice _)=>some true
  | .neq,some (.slice _)=>some false
  |_,_=>none)
 |_,_=>none
def ev(P:Program)(mu:Bool)(o:Oper)(fr:Fr)(st:St)(hs:HS):Option rT:=
 match o.op with
 | .move x=>some ⟨rv fr x,st,[],hs,none⟩
 | .assign x=>
  match mu with
  |false=>some ⟨rv fr x,st,[],hs,none⟩
  |true=>match x with
   | .const (.slice none 0 0)=>match P.underlying o.type with
    |some (.slice e)=>match vr P e with
     |some sz=>some ⟨.one (.sl st.length sz 0 0),st++[.arr sz []],[],hs,none⟩
     |none=>none
    |_=>none
   |_=>none
 | .pick c a b=>match rv fr c with
  | .one (.pv (.s (.bool t)))=>some ⟨AT t (rv fr a) (rv fr b),st,[],hs,none⟩
  |_=>none
 | .alloc t=>match tC P t with
  |some cs=>match mu with
   |true=>some ⟨.one (.pt st.length 0 0 0),st++[.box cs],[],hs,none⟩
   |false=>match uB cs with
    |some ps=>some ⟨.one (.pv (.rp [ps] 0 0)),st,[],hs,none⟩
    |none=>none
  |none=>none
 | .box t x=>match tX (rv fr x)with
  |some cs=>match mu with
   |true=>some ⟨.one (.pt st.length 0 0 0),st++[.box cs],[],hs,none⟩
   |false=>match uB cs with
    |some ps=>some ⟨.one (.pv (.rp [ps] 0 0)),st,[],hs,none⟩
    |none=>none
  |none=>none
 | .build t parts=>match lC fr parts.toList with
  |some pcs=>(A1 P t pcs).map fun cs=>⟨.ag cs,st,[],hs,none⟩
  |none=>none
 | .buildSlice t len parts=>
  match P.underlying t with
  |some (.slice e)=>match vr P e,tC P e,lC fr parts.toList with
   |some sz,some z,some pcs=>
    bif Nat.beq z.length sz&&(Nat.ble 1 sz&&Nat.ble (len*sz) 1000000)then
     match sV (fun i=>some (i*sz,sz)) (Bk z len) pcs with
     |some cells=>match uB cells with
      |some ps=>match mu with
       |true=>some ⟨.one (.sl st.length sz 0 len),st++[.arr sz (od sz len (ps.map sP))],[],hs,none⟩
       |false=>some ⟨.one (.pv (.ro (od sz len (ps.map (oc hs))))),st,[],hs,none⟩
      |none=>none
     |none=>none
    else none
   |_,_,_=>none
  |_=>none
 | .load t a=>match rv fr a with
  | .one c=>Ea P t c st hs
  |_=>none
 | .store t a x=>match rv fr a,tX (rv fr x)with
  | .one c,some vcs=>Mn P t c vcs st hs
  |_,_=>none
 | .nilCheck x=>match rv fr x with
  | .one (.pv (.rp els i off))=>some ⟨.one (.pv (.rp els i off)),st,[],hs,none⟩
  | .one (.pt id sz i off)=>some ⟨.one (.pt id sz i off),st,[],hs,none⟩
  | .one (.fn f caps)=>some ⟨.one (.fn f caps),st,[],hs,none⟩
  | .one (.pv (.fn f caps))=>some ⟨.one (.pv (.fn f caps)),st,[],hs,none⟩
  |_=>none
 | .binOp op tt x y _=>match rv fr x,rv fr y with
  | .one (.pv (.s a)),.one (.pv (.s b))=>match CK P op tt a b with
   |some (v,ob)=>some ⟨.one (.pv (.s v)),st,ob,hs,none⟩
   |none=>(match Hv P op tt a b with|some q=>some q|none=>Pn P op tt a y).map fun q=>⟨.one (.pv (.s (.bool q))),st,[],hs,none⟩
  | .ag xs,.ag ys=>match Mt P op tt xs ys with
   |some b=>some ⟨.one (.pv (.s (.bool b))),st,[],hs,none⟩
   |none=>none
  | .one (.pv (.ro els)),.one (.pv (.s (.slice none 0 0)))=>match op,P.underlying tt with
   | .eql,some (.slice _)=>some ⟨.one (.pv (.s (.bool false))),st,[els≠[]],hs,none⟩
   | .neq,some (.slice _)=>some ⟨.one (.pv (.s (.bool true))),st,[els≠[]],hs,none⟩
   |_,_=>none
  |_,_=>none
 | .unOp op _ x=>match op,rv fr x with
  | .neg,.one (.pv (.s (.int k n)))=>some ⟨.one (.pv (.s (.int k (k.wrap (0-n))))),st,[],hs,none⟩
  | .not,.one (.pv (.s (.bool b)))=>some ⟨.one (.pv (.s (.bool !b))),st,[],hs,none⟩
  |_,_=>none
 | .convert src dst x=>match P.underlying src,P.underlying dst,rv fr x with
  |some (.int _),some (.int k),.one (.pv (.s (.int _ n)))=>some ⟨.one (.pv (.s (.int k (k.wrap n)))),st,[],hs,none⟩
  |some (.int _),some .string,.one (.pv (.s (.int _ n)))=>some ⟨.one (.pv (.s (.string (Utf8.encode n)))),st,[],hs,none⟩
  |some (.slice e),some .string,.one c=>match P.underlying e,mK st c with
   |some (.int .u8),some els=>some ⟨.one (.pv (.s (.string (yn els)))),st,[E3 els],hs,none⟩
   |some (.int .i32),some els=>some ⟨.one (.pv (.s (.string (xt els)))),st,[FG els],hs,none⟩
   |_,_=>none
  |some .string,some (.slice e),.one (.pv (.s (.string s)))=>match P.underlying e with
   |some (.int .i32)=>some ⟨.one (.pv (.ro (sv s))),st,[s.size≤4294967296],hs,none⟩
   |some (.int .u8)=>some ⟨.one (.pv (.ro (iD s))),st,[],hs,none⟩
   |_=>none
  |_,_,_=>none
 | .makeFunc (.func f) first captured=>match first.toList,vM fr captured.toList with
  |[],some caps=>some ⟨.one (.fn f caps),st,[],hs,none⟩
  |_,_=>none
 | .makeSlice t l c=>match P.underlying t with
  |some (.slice e)=>match P.info? e,tC P e,rv fr l,rv fr c with
   |some i,some z,.one (.pv (.s (.int _ n))),.one (.pv (.s (.int _ m)))=>
    bif Nat.beq z.length i.size&&(Nat.ble 1 i.size&&Nat.ble i.bytes 16384)then
     match uB z with
     |some ps=>some ⟨.one (.sl st.length i.size 0 n.toNat),st++[.arr i.size (List.replicate n.toNat (ps.map (oc hs)))],[0≤n,n≤m,m≤4294967296],hs,none⟩
     |none=>none
    else none
   |_,_,_,_=>none
  |_=>none
 | .slice t x lo hi mx=>match rv fr x,GC fr lo,GC fr hi,GC fr mx with
  | .one c,some l,some h,some m=>
   bif m.isNone||h.isSome then(match GN hs with
    |some hs'=>(match IF P t c l h m with
     |some ob=>some ⟨.one (.pv (.ro [])),st,[ob],hs',none⟩
     |none=>none)
    |none=>(match mu with
     |true=>(match Mk P t c l h m with
      |some (c',ob)=>some ⟨.one c',st,[ob],hs,none⟩
      |none=>none)
     |false=>(match MR P t c l h m with
      |some (c',ob)=>some ⟨.one c',st,[ob],hs,none⟩
      |none=>none)))else none
  |_,_,_,_=>none
 | .fieldAddr s x k=>match rv fr x with
  | .one c=>(Mi P s c k).map fun c'=>⟨.one c',st,[],hs,none⟩
  |_=>none
 | .field t x k=>match rv fr x with
  | .ag cs=>(FU P t cs k).map fun av=>⟨av,st,[],hs,none⟩
  |_=>none
 | .indexAddr t x i=>match rv fr x,rv fr i with
  | .one c,.one (.pv (.s (.int _ n)))=>match F4 P t c n with
   |some (c',ob)=>some ⟨.one c',st,[ob],hs,none⟩
   |none=>none
  |_,_=>none
 | .index t x i=>match P.underlying t,rv fr x,rv fr i with
  |some .string,.one (.pv (.s (.string s))),.one (.pv (.s (.int _ n)))=>some ⟨.one (.pv (.s (.int .u8 ((s.data.toList.getD n.toNat 0).toNat)))),st,[0≤n∧n<s.size],hs,none⟩
  |some (.array len e),.ag cs,.one (.pv (.s (.int _ n)))=>match vr P e with
   |some es=>(o6 P e cs (n.toNat*es)).map fun av=>⟨av,st,[0≤n∧n<len],hs,none⟩
   |none=>none
  |_,_,_=>none
 | .extract x k=>match rv fr x with
  | .tp vs=>match vs[k]? with
   |some av=>some ⟨av,st,[],hs,none⟩
   |none=>none
  |_=>none
 | .call ⟨.builtin .len,args,tys⟩=>match args.toList,tys.toList with
  |[x],[t]=>(Ip P t (rv fr x)).map fun n=>⟨.one (.pv (.s (.int .i64 n))),st,[],hs,none⟩
  |_,_=>none
 | .call ⟨.builtin .append,args,tys⟩=>match args.toList,tys.toList with
  |[d,x],[t,tx]=>IC P mu t tx (rv fr d) (rv fr x) st hs
  |_,_=>none
 | .call ⟨.builtin .copy,args,tys⟩=>match args.toList,tys.toList with
  |[d,x],[t,_]=>LX P t (rv fr d) (rv fr x) st hs
  |_,_=>none
 | .call ⟨.builtin .max,args,_⟩=>match args.toList with
  |[x,y]=>match rv fr x,rv fr y with
   | .one (.pv (.s (.int k a))),.one (.pv (.s (.int _ b)))=>some ⟨.one (.pv (.s (.int k (if b>a then b else a)))),st,[],hs,none⟩
   |_,_=>none
  |_=>none
 | .call ⟨.builtin .min,args,_⟩=>match args.toList with
  |[x,y]=>match rv fr x,rv fr y with
   | .one (.pv (.s (.int k a))),.one (.pv (.s (.int _ b)))=>some ⟨.one (.pv (.s (.int k (if b<a then b else a)))),st,[],hs,none⟩
   |_,_=>none
  |_=>none
 |_=>none
theorem bi{v:Value}{x:Value}(h:aN ι w st v (.one (.pv (.s x)))):v=x:=by
 cases h with
 |one _ _ h=>cases h with
  |pv _ _ h=>cases h;rfl
theorem jL{v:Value}{c:CV}(h:aN ι w st v (.one c)):bX ι w st v c:=by
 cases h with
 |one _ _ h=>exact h
theorem BD{v:Value}{cs:List CV}(h:aN ι w st v (.ag cs)):∃vs,v= .agg vs.toArray∧dv ι w st vs cs:=by
 cases h with
 |ag vs _ h=>exact⟨vs,rfl,h⟩
theorem Il{t:Bool}{x y:Value}{a b:AV}(ha:aN ι w st x a)(hb:aN ι w st y b):aN ι w st (if t then x else y) (AT t a b):=by
 have other:aN ι w st (if t then x else y) (bif t then a else b):=by
  cases t
  ·exact hb
  ·exact ha
 by_cases hq:∃p q,a= .one (.pv (.s (.bool p)))∧b= .one (.pv (.s (.bool q)))
 ·obtain⟨p,q,rfl,rfl⟩:=hq
  rw[bi ha,bi hb]
  cases t
  ·exact .one _ _ (.pv _ _ (.s _ rfl))
  ·exact .one _ _ (.pv _ _ (.s _ rfl))
 ·have e:AT t a b=bif t then a else b:=by
   unfold AT
   split
   ·exact absurd ⟨_,_,rfl,rfl⟩ hq
   ·rfl
  rw[e]
  exact other
theorem vV{n:Nat}{a:Act}{fr:Fr}(hF:fU n ι w st a fr):∀{l:List (Nat×Operand)} {pcs:List (Nat×List CV)},lC fr l=some pcs→
  (l.map fun(i,x)=>(i,a.eval x)).length=pcs.length∧∀(j:Nat) (p:Nat×Value) (q:Nat×List CV),(l.map fun(i,x)=>(i,a.eval x))[j]? =some p→pcs[j]? =some q→p.1=q.1∧dv ι w st p.2.cells.toList q.2
 |[],pcs,h=>by simp[lC]at h;subst h;exact⟨rfl,fun j p q h=>by simp at h⟩
 |(i,x)::l,pcs,h=>by
  simp only[lC]at h
  cases h1:tX (rv fr x)with
  |none=>simp[h1]at h
  |some cs=>
   cases h2:lC fr l with
   |none=>simp[h1,h2]at h
   |some r=>
    simp[h1,h2]at h
    subst h
    obtain⟨e1,e2⟩:=vV hF h2
    refine⟨by simpa using e1,fun j p q a1 a2=> ?_⟩
    cases j with
    |zero=>
     simp at a1 a2
     subst a1;subst a2
     exact⟨rfl,rP (cu hF x) h1⟩
    |succ j=>exact e2 j p q (by simpa using a1) (by simpa using a2)
theorem Cq{n:Nat}{a:Act}{fr:Fr}(hF:fU n ι w st a fr):∀{l:List Operand} {caps:List CV},vM fr l=some caps→
  (l.map a.eval).length=caps.length∧∀(j:Nat) c v,caps[j]? =some c→(l.map a.eval)[j]? =some v→bX ι w st v c
 |[],caps,h=>by simp[vM]at h;subst h;exact⟨rfl,fun j p q h=>by simp at h⟩
 |x::l,caps,h=>by
  simp only[vM]at h
  cases h1:rv fr x with
  |one c=>
   cases h2:vM fr l with
   |none=>simp[h1,h2]at h
   |some r=>
    simp[h1,h2]at h
    subst h
    obtain⟨e1,e2⟩:=Cq hF h2
    refine⟨by simpa using e1,fun j c' v a1 a2=> ?_⟩
    cases j with
    |zero=>
     simp at a1 a2
     subst a1;subst a2
     have:=cu hF x
     rw[h1]at this
     exact jL this
    |succ j=>exact e2 j c' v (by simpa using a1) (by simpa using a2)
  |j=>simp[h1]at h
  |ag _=>simp[h1]at h
  |tp _=>simp[h1]at h
theorem ve{t:TypeId}{cs:List CV}(h:tC P t=some cs):∃i z,P.info? t=some i∧i.zero=some z∧cs=z.cells.toList.map CV.s∧oD z.cells.toList=true:=by
 unfold tC at h
 cases hi:P.info? t with
 |none=>simp[hi]at h
 |some i=>
  cases hz:i.zero with
  |none=>simp[hi,hz]at h
  |some z=>
   simp only[hi,hz]at h
   split at h
   ·rename_i hp
    simp at h
    exact⟨i,z,rfl,hz,h.symm,hp⟩
   ·simp at h
theorem mo{n:Nat}{a:Act}{fr:Fr}(hF:fU n ι w st a fr){x:Option Operand}{m:Option Int}(h:GC fr x=some m):td (x.map a.eval) m:=by
 cases x with
 |none=>simp[GC]at h;subst h;exact .none
 |some x=>
  simp only[GC]at h
  split at h
  ·rename_i k q hq
   simp at h
   subst h
   have:=cu hF x
   rw[hq]at this
   rw[Option.map_some,bi this]
   exact .some _ _
  ·simp at h
theorem Af:∀{l:List Field} {r:List (Nat×Nat)},oz P l=some r→l.mapM (fun f=>(P.info? f.type).map fun i=>(f.offset,i.size))=some r
 |[],r,h=>by simp[oz]at h;subst h;rfl
 |f::l,r,h=>by
  simp only[oz]at h
  cases h1:P.info? f.type with
  |none=>simp[h1]at h
  |some i=>
   cases h2:oz P l with
   |none=>simp[h1,h2]at h
   |some r'=>
    simp[h1,h2]at h
    subst h
    simp[List.mapM_cons,h1,Af h2]
theorem Co{t:TypeId}{pcs:List (Nat×List CV)}{cs:List CV}{parts:List (Nat×Value)}(h:A1 P t pcs=some cs)(hl:parts.length=pcs.length)
  (hp:∀(j:Nat) (p:Nat×Value) (q:Nat×List CV),parts[j]? =some p→pcs[j]? =some q→p.1=q.1∧dv ι w st p.2.cells.toList q.2):
  ∃arr,(Instr.build t parts.toArray).run P w= .ok (.agg arr) w∧dv ι w st arr.toList cs:=by
 unfold A1 at h
 cases hz:tC P t with
 |none=>simp[hz]at h
 |some z=>
  simp only[hz]at h
  obtain⟨i,zv,h1,h2,rfl,h4⟩:=ve hz
  have hL:dv ι w st zv.cells.toList (zv.cells.toList.map CV.s):=dv.scalars h4
  cases hu:P.underlying t with
  |none=>simp[hu]at h
  |some d=>
   cases d<;>try (simp[hu]at h;done)
   case struct fields=>
    simp only[hu]at h
    cases hpl:oz P fields.toList with
    |none=>simp[hpl]at h
    |some places=>
     simp only[hpl]at h
     obtain⟨arr,a1,a2⟩:=va (place:=(places[·]?)) hL hl hp h
     refine⟨arr,run_build w t _ arr ?_,a2⟩
     unfold Program.built
     simp only[h1,hu,h2,Af hpl]
     simpa using a1
   case array len e=>
    simp only[hu]at h
    cases hn:vr P e with
    |none=>simp[hn]at h
    |some es=>
     simp only[hn]at h
     obtain⟨arr,a1,a2⟩:=va (place:=fun i=>some (i*es,es)) hL hl hp h
     refine⟨arr,run_build w t _ arr ?_,a2⟩
     unfold Program.built
     unfold vr at hn
     cases hi2:P.info? e with
     |none=>simp[hi2]at hn
     |some ie=>
      simp[hi2]at hn
      subst hn
      simp only[h1,hu,h2,hi2]
      simpa using a1
theorem rb(z:List CV):∀n,(Bk z n).length=n*z.length
 |0=>by simp[Bk]
 |n+1=>by simp[Bk,rb z n,Nat.add_mul];omega
theorem Cn{z:List CV}:∀{n q:Nat} {c:CV},(Bk z n)[q]? =some c→z[q%z.length]? =some c∧q<n*z.length
 |0,q,c,h=>by simp[Bk]at h
 |n+1,q,c,h=>by
  simp only[Bk]at h
  by_cases hq:q<z.length
  ·rw[nq hq]at h
   rw[Nat.mod_eq_of_lt hq]
   exact⟨h,by rw[Nat.add_mul];omega⟩
  ·rw[List.getElem?_append_right (by omega)]at h
   obtain⟨h1,h2⟩:=Cn h
   rw[Nat.mod_eq_sub_mod (by omega)]
   exact⟨h1,by rw[Nat.add_mul];omega⟩
theorem GD{z:Array Value}(hz:oD z.toList=true)(n:Nat)(hs:0<z.size):
  dv ι w st ((Array.range (n*z.size)).map (z[·%z.size]!)).toList (Bk (z.toList.map CV.s) n):=by
 refine⟨by simp[rb],fun q v c h1 h2=> ?_⟩
 obtain⟨h3,h4⟩:=Cn h2
 simp only[List.length_map,Array.length_toList]at h3 h4
 have hlt:q%z.size<z.size:=Nat.mod_lt _ hs
 have e:v=z[q%z.size]:=by
  simp[h4]at h1
  rw[←h1]
  exact getElem!_pos z _ hlt
 subst e
 refine(dv.scalars (ι:=ι) (w:=w) (st:=st) hz).2 (q%z.size) _ c (by simp[hlt]) h3
end Go.SX
namespace Go.SX
open Go
variable {P:Program} {ι:IM} {w:World} {st:St}
theorem KC{t:TypeId}{av:AV}{n:Int}{v:Value}(h:Ip P t av=some n)(hv:aN ι w st v av)(ty:TypeId):(Builtin.len_ #[t] ty #[v]).run P w= .ok (.int .i64 n) w:=by
 unfold Ip at h
 cases hu:P.underlying t with
 |none=>simp[hu]at h
 |some d=>
  cases d<;>try (simp[hu]at h;done)
  case string=>
   simp only[hu]at h
   split at h
   ·rename_i s hq
    simp at h
    rw[bi hv,←h]
    simp[Builtin.len_,run_underlying hu,goInt]
   ·simp at h
  case array len e=>
   simp only[hu,cA]at h
   subst h
   simp[Builtin.len_,run_underlying hu,goInt]
  case slice e=>
   simp only[hu]at h
   cases hv with
   |j=>simp at h
   |ag=>simp at h
   |tp=>simp at h
   |one v c hc=>
    simp only[mE]at h
    obtain⟨m,hm,rfl⟩:=h
    cases hc with
    |pv _ p hp=>
     cases hp with
     |s _ hp=>
      cases v<;>try (simp[ow]at hm;done)
      rename_i ao p q
      cases ao with
      |some a=>simp[ow]at hm
      |none=>
       cases p<;>cases q<;>try (simp[ow]at hm;done)
       simp[ow]at hm
       subst hm
       simp[Builtin.len_,run_underlying hu,goInt]
     |nl=>simp[ow]at hm;subst hm;simp[Builtin.len_,run_underlying hu,goInt]
     |ro=>simp[ow]at hm;subst hm;simp[Builtin.len_,run_underlying hu,goInt]
     |rp=>simp[ow]at hm
     |fn=>simp[ow]at hm
    |sl=>simp[ow]at hm;subst hm;simp[Builtin.len_,run_underlying hu,goInt]
    |sn=>simp[ow]at hm;subst hm;simp[Builtin.len_,run_underlying hu,goInt]
    |pt=>simp[ow]at hm
    |mp=>simp[ow]at hm
    |cl=>simp[ow]at hm
    |fn=>simp[ow]at hm
theorem Gk{op:BinOp}{x y v:Value}{ob:List Prop}(h:JH op x y=some (v,ob)):oo v=true:=by
 unfold JH at h
 split at h
 ·rename_i k a k' b
  cases op
  case shl=>simp only[cA,ku]at h;obtain⟨rfl,_⟩:=h;rfl
  case shr=>simp only[cA,ku]at h;obtain⟨rfl,_⟩:=h;rfl
  all_goals
   by_cases hk:k=k'
   ·simp only[hk,decide_true,cond_true]at h
    first
     |(simp only[cA,ku]at h;obtain⟨rfl,_⟩:=h;rfl)
     |(simp at h;done)
   ·simp[hk]at h
 ·cases op<;>first
   |(simp only[cA,ku]at h;obtain⟨rfl,_⟩:=h;rfl)
   |(simp at h;done)
 ·simp at h
theorem uw{t:TypeId}{i:TypeInfo}{z:Value}(hi:P.info? t=some i)(hz:i.zero=some z)(w:World):(zeroValue t).run P w= .ok z w:=by
 simp[zeroValue,typeInfo,hi,hz]
theorem Hf{z:Array Value}{n q:Nat}(hs:0<z.size)(h:q<n*z.size):(madeCells z (n*z.size))[q]? =some (z.toList.getD (q%z.size) undef):=by
 have hlt:q%z.size<z.size:=Nat.mod_lt _ hs
 have:((Array.range (n*z.size)).map (z[·%z.size]!))[q]? =some (z[q%z.size]!):=by simp[h]
 simp only[madeCells]
 rw[this,getElem!_pos z _ hlt]
 simp[List.getD,hlt]
theorem BV{P:Program}{t:TypeId}{ms:Array (String×TypeId)}(h:P.underlying t=some (.interface ms)):P.underlying t=some (.interface (P.methodsAt t)):=by
 unfold Program.methodsAt
 rw[h]
theorem uo{mu:Bool}{o:Oper}{fr:Fr}{hs:HS}{out:rT}(h:ev P mu o fr st hs=some out)(hob:eH out.ob)(r:eu ι w st){n:Nat}{a:Act}(hF:fU n ι w st a fr):
  Mj P o a ι w st out:=by
 unfold ev at h
 cases hop:o.op
 case move x=>
  simp only[hop,cA]at h
  subst h
  exact .still r (by simp[execOp,hop]) (cu hF x)
 case assign x=>
  simp only[hop]at h
  cases mu with
  |false=>
   simp only[cA]at h
   subst h
   exact .still r (by simp[execOp,hop]) (cu hF x)
  |true=>
   simp only at h
   split at h
   ·split at h
    ·rename_i e hu
     split at h
     ·rename_i sz hn
      simp only[cA]at h
      subst h
      obtain⟨a1,a2,a3⟩:=ue (ι:=ι) (w:=w) (st:=st) r sz
      exact⟨_,_,_,.inl (by simp[execOp,hop,Act.eval]),a1,.one _ _ a3,a2.weaken (fun _ _=>trivial)⟩
     ·simp at h
    ·simp at h
   ·simp at h
 case pick c x y=>
  simp only[hop]at h
  have hc:=cu hF c
  split at h
  ·rename_i t hq
   simp only[cA]at h
   subst h
   rw[hq]at hc
   have e:=bi hc
   exact .still r (by simp[execOp,hop,e,asBool]) (Il (cu hF x) (cu hF y))
  ·simp at h
 case alloc t=>
  simp only[hop]at h
  split at h
  ·rename_i cs hz
   obtain⟨i,z,h1,h2,rfl,h4⟩:=ve hz
   have hL:dv ι w st z.cells.toList (z.cells.toList.map CV.s):=dv.scalars h4
   cases mu with
   |true=>
    simp only[cA]at h
    subst h
    obtain⟨a1,a2,a3⟩:=FP r hL t
    refine⟨_,_,_,.inl ?_,a1,.one _ _ a3,a2.weaken (fun _ _=>trivial)⟩
    simp[execOp,hop,Instr.alloc,uw h1 h2,newVar,newRow]
   |false=>
    simp only at h
    split at h
    ·rename_i ps hps
     simp only[cA]at h
     subst h
     rw[rR hps]at hL
     obtain⟨a1,a2,a3⟩:=IW r hL t
     refine⟨_,_,_,.inl ?_,a1,.one _ _ a3,a2.weaken (fun _ _=>trivial)⟩
     simp[execOp,hop,Instr.alloc,uw h1 h2,newVar,newRow]
    ·simp at h
  ·simp at h
 case box t x=>
  simp only[hop]at h
  split at h
  ·rename_i cs hz
   have hL:=rP (cu hF x) hz
   cases mu with
   |true=>
    simp only[cA]at h
    subst h
    obtain⟨a1,a2,a3⟩:=FP r hL t
    refine⟨_,_,_,.inl ?_,a1,.one _ _ a3,a2.weaken (fun _ _=>trivial)⟩
    simp[execOp,hop,Instr.box,newVar,newRow]
   |false=>
    simp only at h
    split at h
    ·rename_i ps hps
     simp only[cA]at h
     subst h
     rw[rR hps]at hL
     obtain⟨a1,a2,a3⟩:=IW r hL t
     refine⟨_,_,_,.inl ?_,a1,.one _ _ a3,a2.weaken (fun _ _=>trivial)⟩
     simp[execOp,hop,Instr.box,newVar,newRow]
    ·simp at h
  ·simp at h
 case build t parts=>
  simp only[hop]at h
  split at h
  ·rename_i pcs hp
   simp only[mE]at h
   obtain⟨cs,hcs,rfl⟩:=h
   obtain⟨e1,e2⟩:=vV hF hp
   obtain⟨arr,a1,a2⟩:=Co (P:=P) (w:=w) hcs e1 e2
   have e:(parts.map fun(i,x)=>(i,a.eval x))=(parts.toList.map fun(i,x)=>(i,a.eval x)).toArray:=by
    apply Array.ext';simp
   refine .still r (v:= .agg arr) ?_ (by simpa using aN.ag arr.toList cs a2)
   simp only[execOp,hop,Sem.run_bind,Sem.run_pure]
   rw[e,a1]
   rfl
  ·simp at h
 case buildSlice t len parts=>
  simp only[hop]at h
  split at h
  ·rename_i et hu
   split at h
   ·rename_i sz z pcs hn hz hp
    cases hb:(Nat.beq z.length sz&&(Nat.ble 1 sz&&Nat.ble (len*sz) 1000000))with
    |false=>simp[hb]at h
    |true=>
     simp only[hb,cond_true]at h
     simp only[fM]at hb
     have hb1:=kW hb.1
     have hb2:=n4 hb.2.1
     have hb3:=n4 hb.2.2
     split at h
     ·rename_i cells hf
      split at h
      case h_2=>simp at h
      rename_i ps hps
      have hpe:=rR hps
      obtain⟨i,zv,h1,h2,rfl,h4⟩:=ve hz
      simp only[List.length_map,Array.length_toList]at hb1
      obtain⟨e1,e2⟩:=vV hF hp
      have hZ:=GD (ι:=ι) (w:=w) (st:=st) h4 len (by omega)
      rw[hb1]at hZ
      obtain⟨arr,a1,a2⟩:=va (place:=fun i=>some (i*sz,sz)) hZ e1 e2 hf
      have hal:arr.size=len*sz:=by
       have:=a2.1
       have hcl:cells.length=len*sz:=by
        have h0:∀(l:List (Nat×List CV)) (cs cs':List CV),sV (fun i=>some (i*sz,sz)) cs l=some cs'→cs'.length=cs.length:=by
         intro l
         induction l with
         |nil=>intro cs cs' h;simp[sV]at h;rw[h]
         |cons q l ih=>
          intro cs cs' h
          obtain⟨qi,qv⟩:=q
          simp only[sV]at h
          cases hb:(Nat.beq qv.length sz&&Nat.ble (qi*sz+sz) cs.length)with
          |false=>simp[hb]at h
          |true=>
           simp only[hb,cond_true]at h
           simp only[fM]at hb
           have x1:=kW hb.1
           have x2:=n4 hb.2
           rw[ih _ _ h]
           simp;omega
        rw[h0 _ _ _ hf,rb]
        simp[hb1]
       simp at this;omega
      have e:(parts.map fun(i,x)=>(i,a.eval x)).toList=(parts.toList.map fun(i,x)=>(i,a.eval x)):=by simp
      have hcl:len*sz≤cells.length:=by have:=a2.1;simp at this;omega
      have hrun:(Instr.buildSlice t len (parts.map fun(i,x)=>(i,a.eval x))).run P w= .ok (.slice (some ⟨w.heap.size,0,none⟩) len len) (w.alloc (.cells arr et)):=by
       have hlim:¬len*sz>2^24:=by omega
       by_cases h0:len*sz=0
       ·have hfill:Instr.fill (fun i=>some (i*sz,sz)) ((Array.range (len*sz)).map ((#[]:Array Value)[·%(#[]:Array Value).size]!)) (parts.map fun(i,x)=>(i,a.eval x)).toList=some arr:=by
         rw[e,←a1]
         congr 1
         simp[h0]
        simp only[Instr.buildSlice,Sem.run_bind,run_underlying hu,Result.andThen_ok,cS hn,if_neg hlim,if_pos h0,Sem.run_pure,hfill,newRow,run_newObj_alloc]
       ·have hfill:Instr.fill (fun i=>some (i*sz,sz)) ((Array.range (len*sz)).map (zv.cells[·%zv.cells.size]!)) (parts.map fun(i,x)=>(i,a.eval x)).toList=some arr:=by
         rw[e,←a1,hb1]
        simp only[Instr.buildSlice,Sem.run_bind,run_underlying hu,Result.andThen_ok,cS hn,if_neg hlim,if_neg h0,Sem.run_pure,uw h1 h2,hfill,newRow,run_newObj_alloc]
      have hcl2:∀f:PV→PV,len*sz≤(ps.map f).length:=fun f=>by rw[hpe]at hcl;simpa using hcl
      have hc:∀f:PV→PV,(∀v p,dr (fK ι st) w v p→dr (fK ι st) w v (f p))→∀(i:Nat) e (j:Nat) cv,(od sz len (ps.map f))[i]? =some e→e[j]? =some cv→∃v,arr[i*sz+j]? =some v∧dr (fK ι st) w v cv:=by
       intro f hff i' e' j cv x1 x2
       have h0:=zN sz len (ps.map f) (hcl2 f) i' e' j cv x1 x2
       rw[List.getElem?_map,mE]at h0
       obtain⟨p,this,rfl⟩:=h0
       have hlt:i'*sz+j<arr.toList.length:=by rw[a2.1,hpe,List.length_map];exact(gN.1 this).1
       refine⟨arr.toList[i'*sz+j],?_,hff _ _ (oQ (a2.2 _ _ (.pv p) (gu hlt) (by rw[hpe];simp[this])))⟩
       simp at hlt
       simp[hlt]
      have hlen:=fun f:PV→PV=>vp sz len (ps.map f)
      cases mu with
      |true=>
       simp only[cA]at h
       subst h
       obtain⟨b1,b2,b3⟩:=u9 (ι:=ι) (w:=w) (st:=st) (c:=arr) (els:=od sz len (ps.map sP)) (sz:=sz) (cap:=len) (b:=w.heap.size) (m6.alloc w (.cells arr et)) r et (eo _) (dh w _) (by rw[hlen sP];exact eo _) (by omega) (vB sz len (ps.map sP) (hcl2 sP)) (hc sP fun _ _=>Ce)
       rw[hlen sP]at b3
       refine⟨_,_,_,.inl ?_,b1,.one _ _ b3,b2.weaken (fun _ _=>trivial)⟩
       simp only[execOp,hop,Sem.run_bind,hrun,Result.andThen_ok,Sem.run_pure]
      |false=>
       simp only[cA]at h
       subst h
       obtain⟨b1,b2,b3⟩:=D7 (ι:=ι) (w:=w) (st:=st) (c:=arr) (els:=od sz len (ps.map (oc hs))) (sz:=sz) (cap:=len) (b:=w.heap.size) (m6.alloc w (.cells arr et)) r et (0,0) (eo _) (dh w _) (by rw[hlen (oc hs)];exact eo _) (vB sz len (ps.map (oc hs)) (hcl2 (oc hs))) (hc (oc hs) fun _ _=>Au)
       rw[hlen (oc hs)]at b3
       refine⟨_,_,_,.inl ?_,b1,.one _ _ b3,b2.weaken (fun _ _=>trivial)⟩
       simp only[execOp,hop,Sem.run_bind,hrun,Result.andThen_ok,Sem.run_pure]
     ·simp at h
   ·simp at h
  ·simp at h
 case load t x=>
  simp only[hop]at h
  have hx:=cu hF x
  split at h
  ·rename_i c hq
   rw[hq]at hx
   obtain⟨u,a1,a2,a3,a4⟩:=yl (P:=P) (w:=w) h hob r (jL hx)
   refine⟨u,w,ι,.inl (by simp[execOp,hop,a1]),?_,?_,?_⟩
   ·rw[a3];exact r
   ·rw[a3];exact a2
   ·rw[a3];exact .refl
  ·simp at h
 case store t x y=>
  simp only[hop]at h
  have hx:=cu hF x
  split at h
  ·rename_i c vcs hq hv
   rw[hq]at hx
   obtain⟨w',a1,a2,a3,a4,a5⟩:=Dq (P:=P) h hob r (jL hx) (rP (cu hF y) hv)
   refine⟨undef,w',ι,.inr ⟨by simp[execOp,hop,a1],rfl⟩,a2,?_,a3.weaken (fun _ _=>trivial)⟩
   rw[a4];exact .j _
  ·simp at h
 case nilCheck x=>
  simp only[hop]at h
  have hx:=cu hF x
  split at h
  ·rename_i els i off hq
   simp only[cA]at h
   subst h
   rw[hq]at hx
   have hx':=oQ (jL hx)
   refine .still r (v:=a.eval x) ?_ hx
   generalize hu:a.eval x=u at*
   cases hx'
   simp[execOp,hop,hu]
  ·rename_i id sz i off hq
   simp only[cA]at h
   subst h
   rw[hq]at hx
   have hx':=jL hx
   refine .still r (v:=a.eval x) ?_ hx
   generalize hu:a.eval x=u at*
   cases hx'
   simp[execOp,hop,hu]
  ·rename_i f caps hq
   simp only[cA]at h
   subst h
   rw[hq]at hx
   have hx':=jL hx
   refine .still r (v:=a.eval x) ?_ hx
   generalize hu:a.eval x=u at*
   cases hx'
   simp[execOp,hop,hu]
  ·rename_i f caps hq
   simp only[cA]at h
   subst h
   rw[hq]at hx
   have hx':=oQ (jL hx)
   refine .still r (v:=a.eval x) ?_ hx
   generalize hu:a.eval x=u at*
   cases hx'
   simp[execOp,hop,hu]
  ·simp at h
 case binOp op t x y t2=>
  simp only[hop]at h
  have hx:=cu hF x
  have hy:=cu hF y
  split at h
  ·rename_i p q hp hq
   split at h
   case h_2=>
    rw[hp]at hx
    rw[hq]at hy
    have e1:=bi hx
    have e2:=bi hy
    simp only[mE]at h
    obtain⟨b,h,rfl⟩:=h
    split at h
    rotate_left
    ·unfold Pn at h
     split at h
     ·split at h
      ·rename_i ms hu
       have hm:=BV hu
       have e3:a.eval (.const .nilIface)= .nilIface:=rfl
       split at h
       ·have he:(Op.equal t .nilIface .nilIface).run P w= .ok true w:=run_equal_nil_nil w t hm
        rename_i hz _ _ _ _
        cases op<;>simp only at h<;>try (cases h;done)
        all_goals (
         simp only[cA]at h
         subst h
         refine .still r (v:= .bool _) ?_ (.one _ _ (.pv _ _ (.s _ rfl)))
         simp[execOp,hop,e1,e3,eqGuard,binOp,he])
       ·have he:∀u z,(Op.equal t (.iface u z) .nilIface).run P w= .ok false w:=fun u z=>run_equal_held_nil w t u z hm
        cases op<;>simp only at h<;>try (cases h;done)
        all_goals (
         simp only[cA]at h
         subst h
         refine .still r (v:= .bool _) ?_ (.one _ _ (.pv _ _ (.s _ rfl)))
         simp[execOp,hop,e1,e3,eqGuard,binOp,he])
       ·cases h
      ·cases h
     ·cases h
    rename_i q hq'
    have h:Hv P op t _ _=some b:=hq'.trans h
    unfold Hv at h
    split at h
    ·split at h
     ·rename_i e hu _
      simp only[cA]at h
      subst h
      refine .still r (v:= .bool true) ?_ (.one _ _ (.pv _ _ (.s _ rfl)))
      simp[execOp,hop,e1,e2,eqGuard,binOp,run_equal_slice_nil w t e none 0 0 hu]
     ·rename_i e hu _
      simp only[cA]at h
      subst h
      refine .still r (v:= .bool false) ?_ (.one _ _ (.pv _ _ (.s _ rfl)))
      simp[execOp,hop,e1,e2,eqGuard,binOp,run_equal_slice_nil w t e none 0 0 hu]
     ·cases h
    ·cases h
   rename_i v ob hb
   simp only[cA]at h
   subst h
   rw[hp]at hx
   rw[hq]at hy
   have hs:=Ef (P:=P) (t:=t) (px:=x) (py:=y) hb hob w
   rw[←bi hx,←bi hy]at hs
   refine .still r (v:=v) (by simp only[execOp,hop];rw[Sem.run_bind,hs];rfl) (.one _ _ (.pv _ _ (.s _ ?_)))
   exact(Cx hb).elim (fun⟨b,e⟩=>by simp only at e;rw[e];rfl) Gk
  ·rename_i xs ys hp hq
   split at h
   case h_2=>simp at h
   rename_i b hb
   simp only[cA]at h
   subst h
   rw[hp]at hx
   rw[hq]at hy
   have hs:=D4 (px:=x) (py:=y) hb hx hy
   exact .still r (v:= .bool b) (by simp only[execOp,hop];rw[Sem.run_bind,hs];rfl) (.one _ _ (.pv _ _ (.s _ rfl)))
  ·rename_i els hp hq
   rw[hp]at hx
   rw[hq]at hy
   have e2:=bi hy
   have key:els≠[]→∃ad len cap,a.eval x= .slice (some ad) len cap:=by
    intro hne
    have h1:=jL hx
    generalize a.eval x=vx at h1
    cases h1 with
    |pv _ _ h1=>
     cases h1 with
     |nl=>exact absurd rfl hne
     |ro ad cap sz els vf h1 h2 h3 h4 h5=>exact⟨ad,_,_,rfl⟩
   split at h
   ·rename_i e hu
    simp only[cA]at h
    subst h
    obtain⟨ad,len,cap,e1⟩:=key hob.1
    refine .still r (v:= .bool false) ?_ (.one _ _ (.pv _ _ (.s _ rfl)))
    simp[execOp,hop,e1,e2,eqGuard,binOp,run_equal_slice_nil w t e (some ad) len cap hu]
   ·rename_i e hu
    simp only[cA]at h
    subst h
    obtain⟨ad,len,cap,e1⟩:=key hob.1
    refine .still r (v:= .bool true) ?_ (.one _ _ (.pv _ _ (.s _ rfl)))
    simp[execOp,hop,e1,e2,eqGuard,binOp,run_equal_slice_nil w t e (some ad) len cap hu]
   ·simp at h
  ·simp at h
 case unOp op t x=>
  simp only[hop]at h
  have hx:=cu hF x
  split at h
  ·rename_i k q hq
   simp only[cA]at h
   subst h
   rw[hq]at hx
   exact .still r (by simp[execOp,hop,bi hx,Op.unary,Op.intArith]) (.one _ _ (.pv _ _ (.s _ rfl)))
  ·rename_i b hq
   simp only[cA]at h
   subst h
   rw[hq]at hx
   exact .still r (by simp[execOp,hop,bi hx,Op.unary]) (.one _ _ (.pv _ _ (.s _ rfl)))
  ·simp at h
 case convert src dst x=>
  simp only[hop]at h
  have hx:=cu hF x
  split at h
  ·rename_i k1 k k2 q h1 h2 hq
   simp only[cA]at h
   subst h
   rw[hq]at hx
   exact .still r (by simp[execOp,hop,bi hx,convert,run_underlying h1,run_underlying h2,Conv.intToInt]) (.one _ _ (.pv _ _ (.s _ rfl)))
  ·rename_i k1 k n h1 h2 hq
   simp only[cA]at h
   subst h
   rw[hq]at hx
   exact .still r (by simp[execOp,hop,bi hx,convert,run_underlying h1,run_underlying h2,Conv.intToString]) (.one _ _ (.pv _ _ (.s _ rfl)))
  ·rename_i e c h1 h2 hq
   split at h
   ·rename_i els h3 h4
    simp only[cA]at h
    subst h
    rw[hq]at hx
    have hbo:E3 els:=hob.1
    obtain⟨us,hr⟩:=pT (P:=P) (sz:=1) h4 r (jL hx) (fun e he=>by
     rw[hbo]at he
     simp only[List.mem_map]at he
     obtain⟨n,_,rfl⟩:=he
     rfl)
    have hl:=hr.len
    rw[Nat.mul_one]at hl
    have hnl:(lT els).length=els.length:=by simp[lT]
    have hus:us=(lT els).map (Value.int .u8):=by
     refine List.ext_getElem? (fun j=> ?_)
     by_cases hj:j<els.length
     ·have e1:els[j]? =some [.s (.int .u8 ((lT els)[j]'(by omega)))]:=by
       have:=congrArg (fun l=>l[j]?) hbo
       simp only[List.getElem?_map]at this
       rw[this,gu (by omega)];rfl
      obtain⟨u,g1,g2⟩:=hr.each j _ 0 _ e1 rfl
      rw[Nat.mul_one,Nat.add_zero]at g1
      rw[g1,List.getElem?_map,gu (by omega)]
      cases g2;rfl
     ·rw[List.getElem?_eq_none (by omega),List.getElem?_eq_none (by simp;omega)]
    refine .still r (v:= .string (yn els)) ?_ (.one _ _ (.pv _ _ (.s _ rfl)))
    rcases hr.shape with⟨e1,e2⟩ |⟨ad,cap,e1,e2,e3⟩
    ·subst e2
     have hc:=run_convert_bytes_nil (P:=P) w src e h1 h3 0 0 dst h2
     simp only[execOp,hop,e1]
     rw[Sem.run_bind,hc];rfl
    ·have hload:=run_loadCells_list (P:=P) w ad us e3
     rw[hl,hus]at hload
     have hc:=run_convert_bytes_string (P:=P) w src dst e (some ad) els.length cap h1 h3 h2
     rw[run_bytesToString w ad els.length cap (lT els) hload,foldl_push_bytes]at hc
     simp only[execOp,hop,e1,Sem.run_bind,hc,Result.andThen_ok,Sem.run_pure]
     simp[yn,strOfNums,ByteArray.empty,ByteArray.emptyWithCapacity]
     rfl
   ·rename_i els h3 h4
    simp only[cA]at h
    subst h
    rw[hq]at hx
    have hbo:FG els:=hob.1
    obtain⟨us,hr⟩:=pT (P:=P) (sz:=1) h4 r (jL hx) (fun e he=>by
     rw[hbo]at he
     simp only[List.mem_map]at he
     obtain⟨n,_,rfl⟩:=he
     rfl)
    have hl:=hr.len
    rw[Nat.mul_one]at hl
    have hnl:(lT els).length=els.length:=by simp[lT]
    have hus:us=(lT els).map (Value.int .i32):=by
     refine List.ext_getElem? (fun j=> ?_)
     by_cases hj:j<els.length
     ·have e1:els[j]? =some [.s (.int .i32 ((lT els)[j]'(by omega)))]:=by
       have:=congrArg (fun l=>l[j]?) hbo
       simp only[List.getElem?_map]at this
       rw[this,gu (by omega)];rfl
      obtain⟨u,g1,g2⟩:=hr.each j _ 0 _ e1 rfl
      rw[Nat.mul_one,Nat.add_zero]at g1
      rw[g1,List.getElem?_map,gu (by omega)]
      cases g2;rfl
     ·rw[List.getElem?_eq_none (by omega),List.getElem?_eq_none (by simp;omega)]
    refine .still r (v:= .string (xt els)) ?_ (.one _ _ (.pv _ _ (.s _ rfl)))
    rcases hr.shape with⟨e1,e2⟩ |⟨ad,cap,e1,e2,e3⟩
    ·subst e2
     have hc:=run_convert_runes_nil (P:=P) w src dst e 0 0 h1 h3 h2
     simp only[execOp,hop,e1]
     rw[Sem.run_bind,hc];rfl
    ·have hload:=run_loadCells_list (P:=P) w ad us e3
     rw[hl,hus]at hload
     have hc:=run_convert_runes_string (P:=P) w src dst e (some ad) els.length cap h1 h3 h2
     rw[run_runesToString w ad els.length cap (lT els) hload]at hc
     simp only[execOp,hop,e1,Sem.run_bind,hc,Result.andThen_ok,Sem.run_pure]
     rfl
   ·simp at h
  ·rename_i e s h1 h2 hq
   split at h
   ·rename_i h3
    simp only[cA]at h
    subst h
    rw[hq]at hx
    have hsz:s.size≤4294967296:=hob.1
    have hle:(po s).length≤s.size:=wC s s.size 0
    have hfs:(Conv.runesFrom s s.size 0 #[]).size=(po s).length:=by rw[wB];simp
    have hrun:=run_runes_of_string (P:=P) w src dst e s h1 h2 h3 (by omega)
    rw[hfs]at hrun
    have hg:=grownCap_ge w (po s).length 0 e
    have hel:(sv s).length=(po s).length:=by simp[sv]
    obtain⟨b1,b2,b3⟩:=D7 (ι:=ι) (w:=w) (st:=st) (els:=sv s) (sz:=1) (cap:=grownCap w (po s).length 0 e) (b:=w.heap.size) ((m6.drew w).trans (m6.alloc _ _)) r e (0,0) (eo _)
     (dh w.drew (.cells (Conv.runesFrom s s.size 0 #[]++Array.replicate (grownCap w (po s).length 0 e-(po s).length) (.int .i32 0)) e)) (by rw[hel];omega) (fun x hx=>by
      simp only[sv,List.mem_map]at hx
      obtain⟨n,_,rfl⟩:=hx
      rfl) (by
      intro i x j cv x1 x2
      simp only[sv,List.getElem?_map,mE]at x1
      obtain⟨n,x1,rfl⟩:=x1
      match j,x2 with
      |0,x2=>
       simp only[List.getElem?_cons_zero,cA]at x2
       subst x2
       refine⟨.int .i32 n,?_,.s _ rfl⟩
       have hlt:=(gN.1 x1).1
       rw[Nat.mul_one,Nat.add_zero,wB,Array.getElem?_append_left (by simpa using hlt)]
       simp[x1]
      |j+1,x2=>simp at x2)
    rw[hel]at b3
    refine⟨_,_,_,.inl ?_,b1,.one _ _ b3,b2.weaken (fun _ _=>trivial)⟩
    simp only[execOp,hop,Sem.run_bind,bi hx,hrun,Result.andThen_ok,Sem.run_pure]
   ·rename_i h3
    simp only[cA]at h
    subst h
    rw[hq]at hx
    have hrun:=run_bytes_of_string (P:=P) w src dst e s h1 h2 h3
    have hg:=grownCap_ge w s.size 0 e
    have hel:(iD s).length=s.size:=by simp[iD]
    obtain⟨b1,b2,b3⟩:=D7 (ι:=ι) (w:=w) (st:=st) (els:=iD s) (sz:=1) (cap:=grownCap w s.size 0 e) (b:=w.heap.size) ((m6.drew w).trans (m6.alloc _ _)) r e ((bytesRow s (grownCap w s.size 0 e)).size,(bytesRow s (grownCap w s.size 0 e)).size+1) (eo _)
     (dh w.drew (.cells (bytesRow s (grownCap w s.size 0 e)) e ((bytesRow s (grownCap w s.size 0 e)).size,(bytesRow s (grownCap w s.size 0 e)).size+1))) (by rw[hel];omega) (fun x hx=>by
      simp only[iD,List.mem_map]at hx
      obtain⟨n,_,rfl⟩:=hx
      rfl) (by
      intro i x j cv x1 x2
      simp only[iD,List.getElem?_map,mE]at x1
      obtain⟨n,x1,rfl⟩:=x1
      match j,x2 with
      |0,x2=>
       simp only[List.getElem?_cons_zero,cA]at x2
       subst x2
       refine⟨.int .u8 n.toNat,?_,.s _ rfl⟩
       have hlt:=(gN.1 x1).1
       have hlt':i<s.data.size:=by simpa using hlt
       have x3:s.data[i]? =some n:=by simpa using x1
       rw[Nat.mul_one,Nat.add_zero]
       unfold bytesRow
       rw[Array.getElem?_append_left (by simpa using hlt')]
       simp[x3]
      |j+1,x2=>simp at x2)
    rw[hel]at b3
    refine⟨_,_,_,.inl ?_,b1,.one _ _ b3,b2.weaken (fun _ _=>trivial)⟩
    simp only[execOp,hop,Sem.run_bind,bi hx,hrun,Result.andThen_ok,Sem.run_pure]
   ·simp at h
  ·simp at h
 case makeFunc fn first captured=>
  cases fn<;>try (simp[hop]at h;done)
  rename_i f
  simp only[hop]at h
  split at h
  ·rename_i caps h1 h2
   simp only[cA]at h
   subst h
   obtain⟨e1,e2⟩:=Cq hF h2
   have e3:first= #[]:=Array.ext' (by simpa using h1)
   refine .still r (v:= .func (.func f) #[] (captured.toList.map a.eval).toArray) ?_ (.one _ _ (.fn f caps _ e1 e2))
   have e4:captured.map a.eval=(captured.toList.map a.eval).toArray:=Array.ext' (by simp)
   simp[execOp,hop,Instr.makeFunc,e3,e4]
  ·simp at h
 case makeSlice t l c=>
  simp only[hop]at h
  have hl:=cu hF l
  have hc:=cu hF c
  split at h
  ·rename_i et hu
   split at h
   ·rename_i i z k1 p k2 q hi hz hp hq
    rw[hp]at hl
    rw[hq]at hc
    cases hb:(Nat.beq z.length i.size&&(Nat.ble 1 i.size&&Nat.ble i.bytes 16384))with
    |false=>simp[hb]at h
    |true=>
     simp only[hb,cond_true]at h
     split at h
     case h_2=>simp at h
     rename_i ps hps
     have hpe:=rR hps
     simp only[cA]at h
     subst h
     simp only[fM]at hb
     have hb1:=kW hb.1
     have hb2:=n4 hb.2.1
     have hb3:=n4 hb.2.2
     obtain⟨i',zv,h1,h2,rfl,h4⟩:=ve hz
     rw[hi]at h1;cases h1
     simp only[List.length_map,Array.length_toList]at hb1
     obtain⟨o1,o2,o3,_⟩:=hob
     have hbytes:(i.bytes:Int)*q≤281474976710656:=by
      have:(i.bytes:Int)*q≤16384*4294967296:=Int.mul_le_mul (by omega) o3 (by omega) (by omega)
      omega
     have hrun:=run_make (P:=P) w t et i zv hu hi h2 k1 k2 p q o1 o2 hbytes (by omega)
     have hrl:(List.replicate p.toNat (ps.map (oc hs))).length=p.toNat:=by simp
     have hle:p.toNat*i.size≤q.toNat*i.size:=Nat.mul_le_mul_right _ (by omega)
     obtain⟨b1,b2,b3⟩:=u9 (ι:=ι) (w:=w) (st:=st) (c:=madeCells zv.cells (q.toNat*i.size)) (els:=List.replicate p.toNat (ps.map (oc hs))) (sz:=i.size) (cap:=q.toNat) (b:=w.heap.size) (m6.alloc w _) r et (eo _) (dh w _)
      (by rw[hrl];omega) (by rw[size_madeCells];exact eo _) (fun e he=>by rw[List.eq_of_mem_replicate he,List.length_map];have:=congrArg List.length hpe;simp at this;omega) (by
       intro i' e' j cv x1 x2
       have hi':i'<p.toNat:=by rw[←hrl];exact(gN.1 x1).1
       have he':e'=ps.map (oc hs):=List.eq_of_mem_replicate (List.mem_of_getElem? x1)
       subst he'
       have hpl:zv.cells.size=(ps.map (oc hs)).length:=by have:=congrArg List.length hpe;simpa using this
       obtain⟨cv0,x3,rfl⟩:∃c0,ps[j]? =some c0∧oc hs c0=cv:=by
        rw[List.getElem?_map]at x2
        cases hq':ps[j]? with
        |none=>rw[hq']at x2;cases x2
        |some c0=>rw[hq']at x2;exact⟨c0,rfl,Option.some.inj x2⟩
       have hj:j<zv.cells.size:=by rw[hpl];exact(gN.1 x2).1
       have hlt:i'*i.size+j<q.toNat*zv.cells.size:=by
        rw[hb1]
        have:(i'+1)*i.size≤p.toNat*i.size:=Nat.mul_le_mul_right _ hi'
        rw[Nat.add_mul]at this
        omega
       have hm:=Hf (z:=zv.cells) (n:=q.toNat) (q:=i'*i.size+j) (by omega) hlt
       have hmod:(i'*i.size+j)%zv.cells.size=j:=by
        rw[←hb1,Nat.add_comm,Nat.add_mul_mod_self_right,Nat.mod_eq_of_lt hj]
       rw[hb1]at hm
       refine⟨_,hm,?_⟩
       refine Au (oQ ((dv.scalars (ι:=ι) (w:=w) (st:=st) h4).2 j _ (.pv cv0) ?_ (by rw[hpe];simp[x3])))
       have hmod2:(i'*i.size+j)%i.size=j:=by rw[←hmod,hb1];simp
       rw[hmod2]
       simp[hj])
     rw[hrl]at b3
     refine⟨_,_,_,.inl ?_,b1,.one _ _ b3,b2.weaken (fun _ _=>trivial)⟩
     simp only[execOp,hop,Sem.run_bind,bi hl,bi hc,hrun,Result.andThen_ok,Sem.run_pure]
   ·simp at h
  ·simp at h
 case slice t x lo hi mx=>
  simp only[hop]at h
  have hx:=cu hF x
  split at h
  ·rename_i c l hh m hq h1 h2 h3
   rw[hq]at hx
   cases hb:(m.isNone||hh.isSome)with
   |false=>simp[hb]at h
   |true=>
    simp only[hb,cond_true]at h
    have hmh:m=none∨hh≠none:=by
     cases m<;>cases hh<;>simp_all
    split at h
    ·split at h
     ·rename_i ob hs'
      simp only[cA]at h
      subst h
      obtain⟨u,a1,a2⟩:=BH (P:=P) (w:=w) hs' hob.1 (mo hF h1) (mo hF h2) (mo hF h3) hmh (jL hx)
      exact .still r (by simp[execOp,hop,a1]) (.one _ _ a2)
     ·simp at h
    split at h
    ·split at h
     case h_2=>simp at h
     rename_i c' ob hs'
     simp only[cA]at h
     subst h
     obtain⟨u,a1,a2⟩:=DR (P:=P) (w:=w) hs' hob.1 (mo hF h1) (mo hF h2) (mo hF h3) (jL hx)
     exact .still r (by simp[execOp,hop,a1]) (.one _ _ a2)
    split at h
    case h_2=>simp at h
    rename_i c' ob hs'
    simp only[cA]at h
    subst h
    obtain⟨u,a1,a2⟩:=Eo (P:=P) (w:=w) hs' hob.1 (mo hF h1) (mo hF h2) (mo hF h3) hmh (jL hx)
    exact .still r (by simp[execOp,hop,a1]) (.one _ _ a2)
  ·simp at h
 case fieldAddr s x k=>
  simp only[hop]at h
  have hx:=cu hF x
  split at h
  ·rename_i c hq
   rw[hq]at hx
   simp only[mE]at h
   obtain⟨c',hf,rfl⟩:=h
   obtain⟨u,a1,a2⟩:=DU (P:=P) (w:=w) hf (jL hx)
   exact .still r (by simp[execOp,hop,a1]) (.one _ _ a2)
  ·simp at h
 case field t x k=>
  simp only[hop]at h
  have hx:=cu hF x
  split at h
  ·rename_i cs hq
   rw[hq]at hx
   simp only[mE]at h
   obtain⟨av,hf,rfl⟩:=h
   obtain⟨vs,e1,hL⟩:=BD hx
   unfold FU at hf
   split at hf
   ·rename_i fields hu
    split at hf
    ·rename_i f hk
     obtain⟨u,a1,a2⟩:=mN (P:=P) (w:=w) hf hL
     refine .still r (v:=u) ?_ a2
     simp[execOp,hop,e1,Instr.field,run_underlying hu,hk,asAgg,a1]
    ·simp at hf
   ·simp at hf
  ·simp at h
 case indexAddr t x i=>
  simp only[hop]at h
  have hx:=cu hF x
  have hi:=cu hF i
  split at h
  ·rename_i c k q hq hq2
   rw[hq]at hx
   rw[hq2]at hi
   split at h
   case h_2=>simp at h
   rename_i c' ob hf
   simp only[cA]at h
   subst h
   obtain⟨u,a1,a2⟩:=DI (P:=P) (w:=w) (k:=k) hf hob.1 (jL hx)
   exact .still r (by simp[execOp,hop,bi hi,a1]) (.one _ _ a2)
  ·simp at h
 case index t x i=>
  simp only[hop]at h
  have hx:=cu hF x
  have hi:=cu hF i
  split at h
  ·rename_i s k q hu hq hq2
   rw[hq]at hx
   rw[hq2]at hi
   simp only[cA]at h
   subst h
   obtain⟨⟨o1,o2⟩,_⟩:=hob
   have hlt:q.toNat<s.size:=by omega
   refine .still r (v:= .int .u8 ((s.data.toList.getD q.toNat 0).toNat)) ?_ (.one _ _ (.pv _ _ (.s _ rfl)))
   have hs:s[q.toNat]? =some s.data[q.toNat]:=by
    rw[getElem?_pos s q.toNat hlt];rfl
   have hg:s.data.toList.getD q.toNat 0=s.data[q.toNat]:=by
    have h9:s.data[q.toNat]? =some s.data[q.toNat]:=getElem?_pos s.data q.toNat hlt
    simp only[List.getD,Array.getElem?_toList]
    rw[h9]
    rfl
   simp only[execOp,hop,bi hx,bi hi,Instr.index,asIntOf,Sem.run_bind,Sem.run_pure,Result.andThen_ok,run_underlying hu,if_pos o1,hs,hg]
  ·rename_i len et cs k q hu hq hq2
   rw[hq]at hx
   rw[hq2]at hi
   split at h
   ·rename_i es hn
    simp only[mE]at h
    obtain⟨av,hf,rfl⟩:=h
    obtain⟨vs,e1,hL⟩:=BD hx
    obtain⟨u,a1,a2⟩:=mN (P:=P) (w:=w) hf hL
    obtain⟨⟨o1,o2⟩,_⟩:=hob
    refine .still r (v:=u) ?_ a2
    simp[execOp,hop,e1,bi hi,Instr.index,asIntOf,run_underlying hu,o1,o2,cS hn,a1]
   ·simp at h
  ·simp at h
 case extract x k=>
  simp only[hop]at h
  have hx:=cu hF x
  split at h
  ·rename_i vs hq
   rw[hq]at hx
   split at h
   ·rename_i av hk
    simp only[cA]at h
    subst h
    generalize hu:a.eval x=u at*
    cases hx with
    |tp us asv hl hh=>
     have hlt:k<us.length:=by rw[hl];exact(gN.1 hk).1
     refine .still r (v:=us[k]) ?_ (hh k _ av (gu hlt) hk)
     simp[execOp,hop,hu,Instr.extract,hlt]
   ·simp at h
  ·simp at h
 case call c=>
  obtain⟨callee,args,tys⟩:=c
  cases callee<;>try (simp[hop]at h;done)
  rename_i b
  cases b<;>try (simp[hop]at h;done)
  case append=>
   simp only[hop]at h
   split at h
   ·rename_i d x t tx h1 h2
    have e1:args= #[d,x]:=Array.ext' (by simpa using h1)
    have e2:tys= #[t,tx]:=Array.ext' (by simpa using h2)
    subst e1;subst e2
    obtain⟨v,w',ι',a1,a2,a3,a4⟩:=CW (P:=P) (ty:=o.type) h hob r (cu hF d) (cu hF x)
    refine⟨v,w',ι',.inl ?_,a2,a3,a4⟩
    simp[execOp,hop,resolve,invoke,builtin,a1]
   ·simp at h
  case copy=>
   simp only[hop]at h
   split at h
   ·rename_i d x t tx h1 h2
    have e1:args= #[d,x]:=Array.ext' (by simpa using h1)
    have e2:tys= #[t,tx]:=Array.ext' (by simpa using h2)
    subst e1;subst e2
    obtain⟨v,w',a1,a2,a3,a4,a5⟩:=Dy (P:=P) (tx:=tx) (ty:=o.type) h hob r (cu hF d) (cu hF x)
    refine⟨v,w',ι,.inl ?_,a2,a3,a4.weaken (fun _ _=>trivial)⟩
    simp[execOp,hop,resolve,invoke,builtin,a1]
   ·simp at h
  case len=>
   simp only[hop]at h
   split at h
   ·rename_i x t h1 h2
    have e1:args= #[x]:=Array.ext' (by simpa using h1)
    have e2:tys= #[t]:=Array.ext' (by simpa using h2)
    subst e1;subst e2
    simp only[mE]at h
    obtain⟨q,hq,rfl⟩:=h
    have:=KC (P:=P) (w:=w) hq (cu hF x) o.type
    refine .still r ?_ (.one _ _ (.pv _ _ (.s _ rfl)))
    simp[execOp,hop,resolve,invoke,builtin,this]
   ·simp at h
  case max=>
   simp only[hop]at h
   split at h
   ·rename_i x y h1
    have e1:args= #[x,y]:=Array.ext' (by simpa using h1)
    subst e1
    have hx:=cu hF x
    have hy:=cu hF y
    split at h
    ·rename_i k p k' q hp hq
     rw[hp]at hx
     rw[hq]at hy
     simp only[cA]at h
     subst h
     refine .still r ?_ (.one _ _ (.pv _ _ (.s _ rfl)))
     simp[execOp,hop,resolve,invoke,builtin,Builtin.max_,Builtin.max2,bi hx,bi hy]
    ·simp at h
   ·simp at h
  case min=>
   simp only[hop]at h
   split at h
   ·rename_i x y h1
    have e1:args= #[x,y]:=Array.ext' (by simpa using h1)
    subst e1
    have hx:=cu hF x
    have hy:=cu hF y
    split at h
    ·rename_i k p k' q hp hq
     rw[hp]at hx
     rw[hq]at hy
     simp only[cA]at h
     subst h
     refine .still r ?_ (.one _ _ (.pv _ _ (.s _ rfl)))
     simp[execOp,hop,resolve,invoke,builtin,Builtin.min_,Builtin.min2,bi hx,bi hy]
    ·simp at h
   ·simp at h
 all_goals (simp[hop]at h)
end Go.SX
namespace Go.SX
open Go
def nA(n0:Nat)(lz:List Nat)(id:Nat):Bool:=Nat.ble (id+1) n0&& !(lz.any (Nat.beq id))
abbrev tA(n0:Nat)(lz:List Nat):Nat→Prop:=fun id=>nA n0 lz id=true
abbrev QT:=Exit→Fr→St→Prop
def mI(n n0:Nat)(lz:List Nat)(ι:IM)(w:World)(st:St)(Q:QT):Exit→Act→World→Prop:=
 fun e a w'=>∃ι' fr' st',Q e fr' st'∧eu ι' w' st'∧fU n ι' w' st' a fr'∧bo (tA n0 lz) ι w st ι' w' st'
def XW(P:Program)(n n0:Nat)(lz:List Nat)(c:Code)(Q:QT)(fr:Fr)(st:St):Prop:=
 ∀ι w a,eu ι w st→fU n ι w st a fr→c.wp P (mI n n0 lz ι w st Q) a w
def eS(K:Fr→St→Prop)(Q:QT):QT
 | .normal,fr,st=>K fr st
 |e,fr,st=>Q e fr st
def te(id:Nat)(Q:QT):QT
 | .exit id',fr,st=>bif Nat.beq id' id then Q .normal fr st else Q (.exit id') fr st
 |e,fr,st=>Q e fr st
section
variable {P:Program} {n n0:Nat} {lz:List Nat} {Q:QT} {fr:Fr} {st:St} {c:Code}
theorem mI.trans{ι ι':IM}{w w':World}{st st':St}(k:bo (tA n0 lz) ι w st ι' w' st'){e:Exit}{a:Act}{w'':World}(h:mI n n0 lz ι' w' st' Q e a w''):mI n n0 lz ι w st Q e a w'':=by
 obtain⟨ι2,fr2,st2,h1,h2,h3,h4⟩:=h
 exact⟨ι2,fr2,st2,h1,h2,h3,k.trans h4⟩
theorem XW.mono{Q':QT}(h:XW P n n0 lz c Q fr st)(hq:∀e f s,Q e f s→Q' e f s):XW P n n0 lz c Q' fr st:=
 fun ι w a hR hF=>Go.wp_mono (h ι w a hR hF) fun e a' w' ⟨ι',fr',st',h1,h2⟩=>⟨ι',fr',st',hq _ _ _ h1,h2⟩
theorem XW.seq{x y:Code}(he:c= .seq x y)(h:∀K:Fr→St→Prop,(∀f s,XW P n n0 lz y Q f s→K f s)→XW P n n0 lz x (eS K Q) fr st):XW P n n0 lz c Q fr st:=by
 subst he
 have hx:=h _ (fun _ _ h=>h)
 intro ι w a hR hF
 refine Go.wp_seq (Go.wp_mono (hx ι w a hR hF) ?_)
 rintro e a' w' ⟨ι',fr',st',h1,h2,h3,h4⟩
 cases e with
 |normal=>exact Go.wp_mono (h1 ι' w' a' h2 h3) fun e a w h=>h.trans h4
 |_=>exact⟨ι',fr',st',h1,h2,h3,h4⟩
theorem XW.skip(he:c= .skip)(h:Q .normal fr st):XW P n n0 lz c Q fr st:=by
 subst he
 exact fun ι w a hR hF=>Go.wp_skip ⟨ι,fr,st,h,hR,hF,.refl⟩
theorem XW.ret(he:c= .ret)(h:Q .ret fr st):XW P n n0 lz c Q fr st:=by
 subst he
 exact fun ι w a hR hF=>Go.wp_ret ⟨ι,fr,st,h,hR,hF,.refl⟩
theorem XW.exit{id:Nat}(he:c= .exit id)(h:Q (.exit id) fr st):XW P n n0 lz c Q fr st:=by
 subst he
 exact fun ι w a hR hF=>Go.wp_exit ⟨ι,fr,st,h,hR,hF,.refl⟩
theorem XW.block{id:Nat}{x:Code}(he:c= .block id x)(h:XW P n n0 lz x (te id Q) fr st):XW P n n0 lz c Q fr st:=by
 subst he
 intro ι w a hR hF
 refine Go.wp_block (Go.wp_mono (h ι w a hR hF) ?_)
 rintro e a' w' ⟨ι',fr',st',h1,h2⟩
 cases e with
 |exit id'=>
  simp only[Exit.inBlock]
  by_cases hid:id'=id
  ·subst hid
   simp only[te,Nat.beq_refl,cond_true]at h1
   rw[if_pos rfl]
   exact⟨ι',fr',st',h1,h2⟩
  ·have hb:Nat.beq id' id=false:=by cases hq:Nat.beq id' id with|false=>rfl|true=>exact absurd (kW hq) hid
   simp only[te,hb,cond_false]at h1
   rw[if_neg hid]
   exact⟨ι',fr',st',h1,h2⟩
 |_=>exact⟨ι',fr',st',h1,h2⟩
theorem XW.cond{x:Operand}{a b:Code}{t:Bool}(he:c= .cond x a b)(hx:rv fr x= .one (.pv (.s (.bool t))))(ht:t=true→XW P n n0 lz a Q fr st)(hf:t=false→XW P n n0 lz b Q fr st):XW P n n0 lz c Q fr st:=by
 subst he
 intro ι w a hR hF
 have e:=bi (hx▸cu hF x)
 cases t with
 |true=>exact Go.wp_cond_true e (ht rfl ι w a hR hF)
 |false=>exact Go.wp_cond_false e (hf rfl ι w a hR hF)
end
def rnd(P:Program)(c:Code)(Q:Exit→Act→World→Prop):Nat→Act→World→Prop
 |0,_,_=>False
 |k+1,a,w=>c.wp P (Exit.then (rnd P c Q k) Q) a w
theorem qP{P:Program}{c:Code}{Q Q':Exit→Act→World→Prop}(hq:∀e a w,Q e a w→Q' e a w):∀{k:Nat} {a:Act} {w:World},rnd P c Q k a w→rnd P c Q' k a w
 |0,_,_,h=>h
 |k+1,a,w,h=>Go.wp_mono h fun e a' w' h'=>by
  cases e with
  |normal=>exact qP hq h'
  |_=>exact hq _ _ _ h'
theorem vy{P:Program}{c:Code}{Q:Exit→Act→World→Prop}:∀(k:Nat) (a:Act) (w:World),rnd P c Q k a w→∀(b:Frame) (kk:List Item) (cs:List Frame),
  ∃e a' w',Q e a' w'∧Arrives P (lone (b.at a (.code c:: .inLoop c::kk)) cs w) b kk cs e a' w'
 |0,_,_,h,_,_,_=>h.elim
 |k+1,a,w,h,b,kk,cs=>by
  obtain⟨e,a₁,w₁,hq,harr⟩:=h b (.inLoop c::kk) cs
  cases e with
  |normal=>
   obtain⟨e₂,a₂,w₂,hq₂,harr₂⟩:=vy k a₁ w₁ hq b kk cs
   exact⟨e₂,a₂,w₂,hq₂,.of_steps (Steps.trans harr (.one step_inLoop)) harr₂⟩
  |exit id=>exact⟨_,a₁,w₁,hq,.pass (x:= .inLoop c) rfl (fun _ _=> .inl (by simp)) harr⟩
  |goto l=>exact⟨_,a₁,w₁,hq,.pass (x:= .inLoop c) rfl (fun _ _=> .inl (by simp)) harr⟩
  |ret=>exact⟨_,a₁,w₁,hq,.pass (x:= .inLoop c) rfl (fun _ _=> .inl (by simp)) harr⟩
  |panic ch=>exact⟨_,a₁,w₁,hq,.pass (x:= .inLoop c) rfl (fun _ _=> .inl (by simp)) harr⟩
  |outgrown=>exact⟨_,a₁,w₁,hq,.pass (x:= .inLoop c) rfl (fun _ _=> .inl (by simp)) harr⟩
def XR(P:Program)(n n0:Nat)(lz:List Nat)(c:Code)(Q:QT):Nat→Fr→St→Prop
 |0,_,_=>False
 |k+1,fr,st=>XW P n n0 lz c (eS (XR P n n0 lz c Q k) Q) fr st
section
variable {P:Program} {n n0:Nat} {lz:List Nat} {Q:QT} {fr:Fr} {st:St} {c:Code}
theorem XR.rnd{x:Code}:∀(k:Nat) (fr:Fr) (st:St),XR P n n0 lz x Q k fr st→∀ι w a,eu ι w st→fU n ι w st a fr→SX.rnd P x (mI n n0 lz ι w st Q) k a w
 |0,_,_,h,_,_,_,_,_=>h.elim
 |k+1,fr,st,h,ι,w,a,hR,hF=>by
  refine Go.wp_mono (h ι w a hR hF) ?_
  rintro e a' w' ⟨ι',fr',st',h1,h2,h3,h4⟩
  cases e with
  |normal=>exact qP (fun e a w h=>h.trans h4) (XR.rnd k fr' st' h1 ι' w' a' h2 h3)
  |_=>exact⟨ι',fr',st',h1,h2,h3,h4⟩
theorem XW.rounds{x:Code}(k:Nat)(he:c= .loop x)(h:XR P n n0 lz x Q k fr st):XW P n n0 lz c Q fr st:=by
 subst he
 intro ι w a hR hF b kk cs
 obtain⟨e,a',w',hq,harr⟩:=vy k a w (XR.rnd k fr st h ι w a hR hF) b kk cs
 exact⟨e,a',w',hq,.of_steps (.one step_loop) harr⟩
def bW(n n0:Nat)(lz:List Nat)(fr:Fr)(st:St)(fr':Fr)(st':St):Prop:=
 ∀ι w a,eu ι w st→fU n ι w st a fr→∃ι',eu ι' w st'∧fU n ι' w st' a fr'∧bo (tA n0 lz) ι w st ι' w st'
theorem XW.sub{fr':Fr}{st':St}(hs:bW n n0 lz fr st fr' st')(h:XW P n n0 lz c Q fr' st'):XW P n n0 lz c Q fr st:=by
 intro ι w a hR hF
 obtain⟨ι',h1,h2,h3⟩:=hs ι w a hR hF
 exact Go.wp_mono (h ι' w a h1 h2) fun e a w h=>h.trans h3
theorem XR.sub{fr':Fr}{st':St}{k:Nat}(hs:bW n n0 lz fr st fr' st')(h:XR P n n0 lz c Q k fr' st'):XR P n n0 lz c Q k fr st:=by
 cases k with
 |zero=>exact h
 |succ k=>exact XW.sub hs h
inductive Kh:CV→CV→Prop where
 |rfl (c:CV):Kh c c
 |nl:Kh (.pv (.s (.slice none 0 0))) (.pv (.ro []))
 |cl (els:List (List PV)):Kh (.cl els) (.pv (.ro els))
inductive Jj:AV→AV→Prop where
 |rfl (a:AV):Jj a a
 |j (a:AV):Jj a .j
 |one {c c':CV} (h:Kh c c'):Jj (.one c) (.one c')
 |ag {cs cs':List CV} (hl:cs.length=cs'.length) (h:∀(i:Nat) c c',cs[i]? =some c→cs'[i]? =some c'→Kh c c'):Jj (.ag cs) (.ag cs')
theorem bX.le{ι:IM}{w:World}{st:St}{v:Value}{c c':CV}(h:bX ι w st v c)(hl:Kh c c'):bX ι w st v c':=by
 cases hl with
 |rfl=>exact h
 |nl=>
  have:=bi (aN.one _ _ h)
  subst this
  exact .pv _ _ .nl
 |cl els=>
  cases h with
  |cl _ _ h hc=>exact .pv _ _ h
theorem aN.le{ι:IM}{w:World}{st:St}{v:Value}{a a':AV}(h:aN ι w st v a)(hl:Jj a a'):aN ι w st v a':=by
 cases hl with
 |rfl=>exact h
 |j=>exact .j _
 |one hc=>exact .one _ _ ((jL h).le hc)
 |ag hlen hc=>
  obtain⟨vs,rfl,h1,h2⟩:=BD h
  refine .ag _ _ ⟨h1.trans hlen,fun j v c a1 a2=> ?_⟩
  have hlt:j<_:=(gN.1 a2).1
  rw[←hlen]at hlt
  exact(h2 j v _ a1 (gu hlt)).le (hc j _ c (gu hlt) a2)
def JA(fr:Fr):Fr→Prop
 |[]=>True
 |(t,av)::l=>Jj (lk fr t) av∧JA fr l
theorem JA.get{fr:Fr}:∀{fr':Fr},JA fr fr'→∀t,Jj (lk fr t) (lk fr' t)
 |[],_,t=> .j _
 |(d,av)::l,h,t=>by
  simp only[lk]
  cases hb:Nat.beq d t with
  |true=>have:=kW hb;subst this;exact h.1
  |false=>exact JA.get h.2 t
theorem bW.frame{fr':Fr}(h:JA fr fr'):bW n n0 lz fr st fr' st:=
 fun ι w a hR hF=>⟨ι,hR,⟨hF.defers,hF.size,fun t=>(hF.slot t).le (h.get t)⟩,.refl⟩
theorem bW.trans{fr' fr'':Fr}{st' st'':St}(h:bW n n0 lz fr st fr' st')(k:bW n n0 lz fr' st' fr'' st''):bW n n0 lz fr st fr'' st'':=by
 intro ι w a hR hF
 obtain⟨ι',h1,h2,h3⟩:=h ι w a hR hF
 obtain⟨ι'',k1,k2,k3⟩:=k ι' w a h1 h2
 exact⟨ι'',k1,k2,h3.trans k3⟩
end
def cI(ops:Array Oper)(o:Oper)(fr:Fr):Option Bool:=
 match o.guard with
 |none=>some true
 |some (j,want)=>
  match(ops[j]?).bind (·.dst)with
  |some d=>match lk fr d with
   | .one (.pv (.s (.bool b)))=>some (b==want)
   | .tp []=>some false
   |_=>none
  |none=>none
theorem sE{ι:IM}{w:World}{st:St}:aN ι w st undef (.tp []):= .tp [] [] rfl (fun j v a h=>by simp at h)
theorem cF{ops:Array Oper}{o:Oper}{fr:Fr}{g:Bool}(h:cI ops o fr=some g){n:Nat}{ι:IM}{w:World}{st:St}{a:Act}(hF:fU n ι w st a fr):Region.wanted o (yielded ops a.tmps)=g:=by
 unfold cI at h
 unfold Region.wanted
 cases hg:o.guard with
 |none=>simp[hg]at h;subst h;rfl
 |some jw=>
  obtain⟨j,want⟩:=jw
  simp only[hg]at h⊢
  cases hd:(ops[j]?).bind (·.dst)with
  |none=>simp[hd]at h
  |some d=>
   simp only[hd]at h
   split at h
   ·rename_i b hb
    simp only[cA]at h
    have hs:=hF.slot d
    rw[hb]at hs
    have e:=bi hs
    have e2:a.tmps[d]? =some (.bool b):=by
     cases hq:a.tmps[d]? with
     |none=>simp[hq,undef]at e
     |some u=>simp[hq]at e;rw[e]
    simp only[yielded,hd,Option.bind_some,e2]
    rw[←h]
    cases b<;>cases want<;>rfl
   ·rename_i hb
    simp only[cA]at h
    have hs:=hF.slot d
    rw[hb]at hs
    have e:a.tmps.getD d undef= .tuple #[]:=by
     generalize a.tmps.getD d undef=u at hs
     cases hs with
     |tp vs _ hl _=>
      have:vs=[]:=List.eq_nil_of_length_eq_zero (by simpa using hl)
      subst this
      rfl
    simp only[yielded,hd,Option.bind_some]
    rw[←h]
    cases hq:a.tmps[d]? with
    |none=>rfl
    |some u=>
     simp[hq]at e
     rw[e]
     rfl
   ·simp at h
def qw(n:Nat)(dst:Option Nat)(av:AV)(fr:Fr):Option Fr:=
 match dst with
 |none=>some fr
 |some d=>bif Nat.ble (d+1) n then some ((d,av)::fr)else none
def rg(an:List Nat)(o:Oper):Bool:=
 match o.dst with
 |some d=>an.any (Nat.beq d)
 |none=>false
def uf(n0:Nat)(lz:List Nat):Option Nat→Bool
 |none=>true
 |some m=> !nA n0 lz m
def G1:Option Nat→Fr→Fr
 |none,fr=>fr
 |some m,fr=>jb (iB (some m)) fr
structure ES where
 ex:Exit
 fr:Fr
 st:St
 hs:HS
 ob:List Prop
def mw(P:Program)(n n0:Nat)(lz an:List Nat)(ops:Array Oper):List Oper→Fr→St→HS→Option ES
 |[],fr,st,hs=>some ⟨.normal,fr,st,hs,[]⟩
 |o::rest,fr,st,hs=>
  match cI ops o fr with
  |some true=>
   match ev P (rg an o) o fr st hs with
   |some out=>
    bif uf n0 lz out.mv then
     match qw n o.dst out.av (G1 out.mv fr)with
     |some fr'=>
      match mw P n n0 lz an ops rest fr' out.st out.hs with
      |some r=>some ⟨r.ex,r.fr,r.st,r.hs,out.ob++r.ob⟩
      |none=>none
     |none=>none
    else none
   |none=>none
  |some false=>
   match qw n o.dst (.tp []) fr with
   |some fr'=>mw P n n0 lz an ops rest fr' st hs
   |none=>none
  |none=>none
theorem GB{P:Program}{o:Oper}{a:Act}{K K':Act→World→Prop}{Q Q':Exit→Act→World→Prop}(hk:∀a w,K a w→K' a w)(hq:∀e a w,Q e a w→Q' e a w){r:Result Next}(h:o.upon P a K Q r):o.upon P a K' Q' r:=by
 have hl:LetsOut Q→LetsOut Q':=fun⟨a,w,h⟩=>⟨a,w,hq _ _ _ h⟩
 cases r with
 |ok nx w=>
  cases nx<;>simp only[Oper.upon]at h⊢<;>first
   |exact hk _ _ h
   |exact Calls.mono h (fun e w'' he=>by cases e<;>first|exact hk _ _ he|exact hq _ _ _ he|exact hl he)
   |exact Rows.mono h (fun _ _ he=>hk _ _ he)
 |halt x w=>cases x<;>simp only[Oper.upon]at h⊢<;>exact hq _ _ _ h
theorem di{P:Program}{ops:Array Oper}{Q Q':Exit→Act→World→Prop}(hq:∀e a w,Q e a w→Q' e a w):∀{l:List Oper} {a:Act} {w:World},wpList P ops Q l a w→wpList P ops Q' l a w
 |[],_,_,h=>hq _ _ _ h
 |o::l,a,w,h=>by
  unfold wpList at h⊢
  split
  ·rename_i hw
   rw[if_pos hw]at h
   rcases h with h|⟨h1,a0,w0,h2⟩
   ·exact .inl (GB (fun a w h=>di hq h) hq h)
   ·exact .inr ⟨h1,a0,w0,hq _ _ _ h2⟩
  ·rename_i hw
   rw[if_neg hw]at h
   exact di hq h
def XO(P:Program)(n n0:Nat)(lz:List Nat)(ops:Array Oper)(l:List Oper)(Q:QT)(fr:Fr)(st:St):Prop:=
 ∀ι w a,eu ι w st→fU n ι w st a fr→wpList P ops (mI n n0 lz ι w st Q) l a w
section
variable {P:Program} {n n0:Nat} {lz an:List Nat} {Q:QT} {fr:Fr} {st:St} {c:Code}
theorem gP{dst:Option Nat}{av:AV}{fr fr':Fr}(h:qw n dst av fr=some fr'){ι:IM}{w:World}{st:St}{a:Act}(hF:fU n ι w st a fr){v:Value}(hv:aN ι w st v av):fU n ι w st (a.put dst v) fr':=by
 cases dst with
 |none=>simp[qw]at h;subst h;exact hF
 |some d=>
  simp only[qw]at h
  cases hb:Nat.ble (d+1) n with
  |false=>simp[hb]at h
  |true=>
   simp[hb]at h
   subst h
   exact hF.put (n4 hb) hv
theorem FF{mv:Option Nat}{ι ι':IM}{w w':World}{st st':St}(k:bo (fun id=>iB mv id=true) ι w st ι' w' st'){a:Act}(hF:fU n ι w st a fr):fU n ι' w' st' a (G1 mv fr):=by
 cases mv with
 |none=>exact hF.mono' (k.weaken (fun id _=>rfl))
 |some m=>exact hF.keep k (q:=iB (some m)) (fun _ h _=>h)
theorem B8{mv:Option Nat}(h:uf n0 lz mv=true):∀id,tA n0 lz id→iB mv id=true:=by
 intro id hid
 cases mv with
 |none=>rfl
 |some m=>
  simp only[iB]
  cases hb:Nat.beq id m with
  |false=>rfl
  |true=>
   have:=kW hb
   subst this
   simp only[uf]at h
   rw[show nA n0 lz id=true from hid]at h
   cases h
theorem XO.nil{ops:Array Oper}(h:Q .normal fr st):XO P n n0 lz ops [] Q fr st:=
 fun ι w a hR hF=>⟨ι,fr,st,h,hR,hF,.refl⟩
theorem XO.run{ops:Array Oper}{rest:List Oper}:∀{l:List Oper} {fr:Fr} {st:St} {hs:HS} {r:ES},mw P n n0 lz an ops l fr st hs=some r→eH r.ob→XO P n n0 lz ops rest Q r.fr r.st→XO P n n0 lz ops (l++rest) Q fr st
 |[],fr,st,hs,r,h,hob,hk=>by
  simp only[mw,cA]at h
  subst h
  exact hk
 |o::l,fr,st,hs,r,h,hob,hk=>by
  intro ι w a hR hF
  simp only[mw]at h
  split at h
  ·rename_i hg
   have hw:=cF hg hF
   split at h
   ·rename_i out hev
    cases hmv:uf n0 lz out.mv with
    |false=>simp[hmv]at h
    |true=>
     simp only[hmv,cond_true]at h
     split at h
     ·rename_i fr' hp
      split at h
      ·rename_i r' hr
       simp only[cA]at h
       subst h
       obtain⟨hob1,hob2⟩:=eH.append hob
       obtain⟨v,w',ι',hrun,hR',hv,k⟩:=uo hev hob1 hR hF
       have hF':=gP hp (FF k hF) hv
       have hrest:=XO.run hr hob2 hk ι' w' _ hR' hF'
       have kk:=k.weaken (B8 hmv)
       refine wpList_step fun K hK=> ?_
       rw[if_pos hw]
       have hgoal:wpList P ops (mI n n0 lz ι w st Q) (l++rest) (a.put o.dst v) w':=di (fun e a w h=>h.trans kk) hrest
       rcases hrun with h1|⟨h1,rfl⟩
       ·simp only[Oper.wp,h1,Oper.upon];exact hK _ _ hgoal
       ·simp only[Oper.wp,h1,Oper.upon];exact hK _ _ hgoal
      ·simp at h
     ·simp at h
   ·simp at h
  ·rename_i hg
   have hw:=cF hg hF
   split at h
   ·rename_i fr' hp
    have hF':=gP hp hF sE
    have hrest:=XO.run h hob hk ι w _ hR hF'
    refine wpList_step fun K hK=> ?_
    rw[if_neg (by rw[hw];simp)]
    exact hK _ _ hrest
   ·simp at h
  ·simp at h
end
structure wv(n:Nat)(ι:IM)(w:World)(st:St)(a:Act)(g:Nat→AV):Prop where
 defers:a.defers=[]
 size:a.tmps.size=n
 slot:∀t,aN ι w st (a.tmps.getD t undef) (g t)
def restr(ts:List Nat)(g:Nat→AV):Fr:=ts.map fun t=>(t,g t)
theorem Jn(ts:List Nat)(g:Nat→AV)(t:Nat):lk (restr ts g) t=g t∨lk (restr ts g) t= .j:=by
 induction ts with
 |nil=>exact .inr rfl
 |cons x l ih=>
  simp only[restr,List.map_cons,lk]
  cases hb:Nat.beq x t with
  |true=>have:=kW hb;subst this;exact .inl rfl
  |false=>exact ih
theorem wv.restr{n:Nat}{ι:IM}{w:World}{st:St}{a:Act}{g g':Nat→AV}(h:wv n ι w st a g)(ts:List Nat)(hg:∀t∈ts,g' t=g t):fU n ι w st a (restr ts g'):=by
 refine⟨h.defers,h.size,fun t=> ?_⟩
 have:SX.restr ts g'=SX.restr ts g:=by
  unfold SX.restr
  exact List.map_congr_left fun t ht=>by rw[hg t ht]
 rw[this]
 rcases Jn ts g t with e|e
 ·rw[e];exact h.slot t
 ·rw[e];exact .j _
def Yd(P:Program)(n:Nat)(st:St)(o:Oper)(fr:Fr)(av:AV):Prop:=
 ∀ι w a,eu ι w st→fU n ι w st a fr→∀(K:Act→World→Prop) (Q:Exit→Act→World→Prop),
  (∀v w' ι',aN ι' w' st v av→eu ι' w' st→bo all ι w st ι' w' st→K (a.put o.dst v) w')→o.wp P a w K Q
def gD(fr0:Nat→AV)(dst:Nat→Option Nat)(av:Nat→AV)(D:Nat→Bool):Nat→Nat→AV
 |0,t=>fr0 t
 |k+1,t=>if D k=true∧dst k=some t then av k else gD fr0 dst av D k t
section
variable {fr0:Nat→AV} {dst:Nat→Option Nat} {av:Nat→AV}
theorem wZ{D E:Nat→Bool}{t:Nat}:∀{k:Nat},(∀j,j<k→dst j=some t→D j=E j)→gD fr0 dst av D k t=gD fr0 dst av E k t
 |0,_=>rfl
 |k+1,h=>by
  simp only[gD]
  have ih:=wZ (k:=k) (fun j hj hd=>h j (by omega) hd)
  by_cases hd:dst k=some t
  ·rw[h k (by omega) hd,ih]
  ·simp[hd,ih]
theorem xc{D:Nat→Bool}{t i:Nat}:∀{k:Nat},i≤k→(∀j,i≤j→j<k→dst j=some t→D j=false)→gD fr0 dst av D k t=gD fr0 dst av D i t
 |0,hi,_=>by
   have:i=0:=by omega
   subst this;rfl
 |k+1,hi,h=>by
  by_cases e:i=k+1
  ·subst e;rfl
  ·simp only[gD]
   have ih:=xc (k:=k) (by omega) (fun j h1 h2 hd=>h j h1 (by omega) hd)
   rw[if_neg,ih]
   rintro⟨h1,h2⟩
   rw[h k (by omega) (by omega) h2]at h1
   cases h1
theorem Mc{D:Nat→Bool}{t i N:Nat}(hi:i<N)(hl:dst i=some t→∀j,i<j→j<N→dst j=some t→D j=false):
  gD fr0 dst av (fun j=>if j=i then true else D j) N t=if dst i=some t then av i else gD fr0 dst av D N t:=by
 by_cases hd:dst i=some t
 ·rw[if_pos hd]
  rw[xc (i:=i+1) (by omega)]
  ·simp[gD,hd]
  ·intro j h1 h2 h3
   rw[if_neg (by omega)]
   exact hl hd j (by omega) h2 h3
 ·rw[if_neg hd]
  apply wZ
  intro j hj hdj
  rw[if_neg]
  rintro rfl
  exact hd hdj
end
inductive kw(ops:Array Oper):Nat→Nat→Prop where
 |one {i j:Nat} {o:Oper} {e:Edge} (ho:ops[j]? =some o) (he:e∈o.after) (hb:Region.binds .any e=true) (h:e.on=i):kw ops i j
 |more {i j:Nat} {o:Oper} {e:Edge} (ho:ops[j]? =some o) (he:e∈o.after) (hb:Region.binds .any e=true) (h:kw ops i e.on):kw ops i j
def xI(ms:List Nat)(o:Oper):Nat:=o.after.toList.foldl (fun s e=>bif Region.binds .any e then s ||| (2^e.on ||| ms.getD e.on 0)else s) 0
def sY:List Oper→List Nat→List Nat
 |[],ms=>ms
 |o::l,ms=>sY l (ms++[xI ms o])
theorem CA{ms:List Nat}{i:Nat}:∀{l:List Edge} {s:Nat},(l.foldl (fun s e=>bif Region.binds .any e then s ||| (2^e.on ||| ms.getD e.on 0)else s) s).testBit i=true→
  s.testBit i=true∨∃e∈l,Region.binds .any e=true∧(e.on=i∨(ms.getD e.on 0).testBit i=true)
 |[],s,h=> .inl h
 |e::l,s,h=>by
  simp only[List.foldl_cons]at h
  rcases CA h with h1|⟨e',h1,h2⟩
  ·cases hb:Region.binds .any e with
   |false=>simp[hb]at h1;exact .inl h1
   |true=>
    simp only[hb,cond_true,Nat.testBit_or,Bool.or_eq_true]at h1
    rcases h1 with h1|h1|h1
    ·exact .inl h1
    ·rw[Nat.testBit_two_pow]at h1
     exact .inr ⟨e,by simp,hb,.inl (by simpa using h1)⟩
    ·exact .inr ⟨e,by simp,hb,.inr h1⟩
  ·exact .inr ⟨e',by simp[h1],h2⟩
theorem rL{ops:Array Oper}:∀{l:List Oper} {ms:List Nat} {pre:List Oper},ops.toList=pre++l→ms.length=pre.length→(∀i j,(ms.getD j 0).testBit i=true→kw ops i j)→∀i j,((sY l ms).getD j 0).testBit i=true→kw ops i j
 |[],ms,pre,_,_,h=>h
 |o::l,ms,pre,he,hl,h=>by
  refine rL (l:=l) (pre:=pre++[o]) (by simpa using he) (by simp[hl]) ?_
  intro i j hj
  by_cases h1:j<ms.length
  ·have e0:(ms++[xI ms o]).getD j 0=ms.getD j 0:=by simp[List.getD,nq h1]
   rw[e0]at hj
   exact h i j hj
  ·by_cases h2:j=ms.length
   ·subst h2
    have e1:(ms++[xI ms o]).getD ms.length 0=xI ms o:=by simp[List.getD]
    rw[e1]at hj
    have ho:ops[ms.length]? =some o:=by
     rw[←Array.getElem?_toList,he,hl];simp
    rcases CA hj with h3|⟨e,h4,h5,h6⟩
    ·simp at h3
    ·rcases h6 with h6|h6
     ·exact .one ho (by simpa using h4) h5 h6
     ·exact .more ho (by simpa using h4) h5 (h i e.on h6)
   ·have:(ms++[xI ms o]).getD j 0=0:=by
     simp only[List.getD]
     rw[List.getElem?_eq_none (by simp;omega)]
     rfl
    rw[this]at hj
    simp at hj
def A9(ops:Array Oper)(ms:List Nat)(o:Oper)(j:Nat):List Oper→Nat→Bool
 |[],_=>true
 |p::l,i=>(Oper.apart ops p o||(ms.getD j 0).testBit i)&&A9 ops ms o j l (i+1)
def FL(ops:Array Oper)(ms:List Nat):List Oper→List Oper→Nat→Bool
 |_,[],_=>true
 |pre,o::l,j=>o.after.all (fun e=> !Region.binds .any e||Nat.ble (e.on+1) j)&&(A9 ops ms o j pre 0&&FL ops ms (pre++[o]) l (j+1))
def v8(ops:Array Oper):Bool:=FL ops (sY ops.toList []) [] ops.toList 0
theorem xj{ops:Array Oper}{ms:List Nat}{o:Oper}{j:Nat}:∀{l:List Oper} {i:Nat},A9 ops ms o j l i=true→∀(k:Nat) p,l[k]? =some p→Oper.apart ops p o=true∨(ms.getD j 0).testBit (i+k)=true
 |[],i,_,k,p,h=>by simp at h
 |q::l,i,h,k,p,hk=>by
  simp only[A9,fM,Bool.or_eq_true]at h
  cases k with
  |zero=>simp at hk;subst hk;simpa using h.1
  |succ k=>
   have:=xj h.2 k p (by simpa using hk)
   rwa [show i+1+k=i+(k+1) by omega]at this
theorem wa{ops:Array Oper}{ms:List Nat}:∀{l pre:List Oper} {j:Nat},pre.length=j→FL ops ms pre l j=true→∀(k:Nat) o,l[k]? =some o→
  (∀e∈o.after,Region.binds .any e=true→e.on<j+k)∧∀(i:Nat) p,i<j+k→(pre++l)[i]? =some p→Oper.apart ops p o=true∨(ms.getD (j+k) 0).testBit i=true
 |[],pre,j,_,_,k,o,h=>by simp at h
 |q::l,pre,j,hp,h,k,o,hk=>by
  simp only[FL,fM]at h
  cases k with
  |zero=>
   simp at hk;subst hk
   refine⟨fun e he hb=> ?_,fun i p hi hip=> ?_⟩
   ·have:=Array.all_eq_true_iff_forall_mem.1 h.1 e he
    simp[hb]at this
    exact n4 (by simpa using this)
   ·rw[nq (by omega)]at hip
    have:=xj h.2.1 i p hip
    simpa using this
  |succ k=>
   have:=wa (l:=l) (pre:=pre++[q]) (j:=j+1) (by simp[hp]) h.2.2 k o (by simpa using hk)
   rw[show j+1+k=j+(k+1) by omega]at this
   refine⟨this.1,fun i p hi hip=>this.2 i p hi (by simpa using hip)⟩
def oM(dst:Option Nat)(av:AV)(fr:Fr):Fr:=
 match dst with
 |none=>fr
 |some d=>(d,av)::fr
def cL(ops:Array Oper)(o:Oper)(fr:Fr):Fr:=restr (Oper.looksAt ops o) (lk fr)
def G5(P:Program)(n:Nat)(st:St)(ops:Array Oper)(o:Oper)(a:AV)(fr:Fr):Prop:=
 (∀d,o.dst=some d→d<n)∧((cI ops o (cL ops o fr)=some true∧Yd P n st o (cL ops o fr) a)∨(cI ops o (cL ops o fr)=some false∧a= .tp []))
def sa(P:Program)(n:Nat)(st:St)(ops:Array Oper):List Oper→List AV→Fr→Prop
 |[],[],_=>True
 |o::l,a::asv,fr=>G5 P n st ops o a fr∧sa P n st ops l asv (oM o.dst a fr)
 |_,_,_=>False
def ls:List Oper→List AV→Fr→Fr
 |o::l,a::asv,fr=>ls l asv (oM o.dst a fr)
 |_,_,fr=>fr
section
variable {P:Program} {n n0:Nat} {lz:List Nat} {Q:QT} {fr:Fr} {st:St} {c:Code} {ops:Array Oper}
theorem we:∀{l:List Oper} {asv:List AV} {fr:Fr},sa P n st ops l asv fr→l.length=asv.length∧∀(i:Nat) o,l[i]? =some o→∃a,asv[i]? =some a∧G5 P n st ops o a (ls (l.take i) (asv.take i) fr)
 |[],[],_,_=>⟨rfl,fun i o h=>by simp at h⟩
 |[],_::_,_,h=>h.elim
 |_::_,[],_,h=>h.elim
 |o::l,a::asv,fr,h=>by
  obtain⟨h1,h2⟩:=h
  obtain⟨e1,e2⟩:=we h2
  refine⟨by simp[e1],fun i o' hi=> ?_⟩
  cases i with
  |zero=>simp at hi;subst hi;exact⟨a,rfl,by simpa [ls]using h1⟩
  |succ i=>
   obtain⟨a',b1,b2⟩:=e2 i o' (by simpa using hi)
   exact⟨a',by simpa using b1,by simpa [ls]using b2⟩
theorem zA:∀(l:List Oper) (asv:List AV) (fr:Fr) (t:Nat) (g:Nat→AV) (off:Nat) (dst:Nat→Option Nat) (av:Nat→AV),l.length=asv.length→
  (∀i o,l[i]? =some o→dst (off+i)=o.dst)→(∀i a,asv[i]? =some a→av (off+i)=a)→lk fr t=gD g dst av (fun _=>true) off t→
  lk (ls l asv fr) t=gD g dst av (fun _=>true) (off+l.length) t
 |[],[],fr,t,g,off,dst,av,_,_,_,h=>by simpa [ls]using h
 |[],_::_,_,_,_,_,_,_,hl,_,_,_=>by simp at hl
 |_::_,[],_,_,_,_,_,_,hl,_,_,_=>by simp at hl
 |o::l,a::asv,fr,t,g,off,dst,av,hl,hd,ha,h=>by
  have:=zA l asv (oM o.dst a fr) t g (off+1) dst av (by simpa using hl)
   (fun i o' hi=>by have:=hd (i+1) o' (by simpa using hi);rwa [show off+(i+1)=off+1+i by omega]at this)
   (fun i a' hi=>by have:=ha (i+1) a' (by simpa using hi);rwa [show off+(i+1)=off+1+i by omega]at this) ?_
  ·simp only[ls,List.length_cons]
   rw[this,show off+1+l.length=off+(l.length+1) by omega]
  ·have e1:=hd 0 o rfl
   have e2:=ha 0 a rfl
   simp only[Nat.add_zero]at e1 e2
   simp only[gD,e1,e2,true_and]
   cases hdst:o.dst with
   |none=>simp[oM,h]
   |some d=>
    simp only[oM,lk,cA]
    by_cases hdt:d=t
    ·subst hdt;simp
    ·have hb:Nat.beq d t=false:=by cases hq:Nat.beq d t with|false=>rfl|true=>exact absurd (kW hq) hdt
     rw[hb,cond_false,if_neg hdt,h]
theorem zU{N i:Nat}{D:Nat→Bool}(hi:i<N)(hd:D i=false):((List.range N).filter fun j=> !(if j=i then true else D j)).length+1=((List.range N).filter fun j=> !D j).length:=by
 induction N with
 |zero=>omega
 |succ N ih=>
  rw[List.range_succ,List.filter_append,List.filter_append,List.length_append,List.length_append]
  by_cases e:i=N
  ·subst e
   have:((List.range i).filter fun j=> !(if j=i then true else D j))=(List.range i).filter fun j=> !D j:=by
    apply List.filter_congr
    intro j hj
    have:j≠i:=by have:=List.mem_range.1 hj;omega
    simp[this]
   rw[this]
   simp[hd]
  ·have:=ih (by omega)
   have e2:N≠i:=Ne.symm e
   simp only[List.filter_cons,List.filter_nil,if_neg e2]at*
   omega
end
section
variable {P:Program} {n n0:Nat} {lz an:List Nat} {Q:QT} {fr:Fr} {st:St} {c:Code} {ops:Array Oper}
def jj:Op→Bool
 | .move _| .assign _| .pick .. | .alloc _| .box .. | .build .. | .buildSlice .. | .load .. | .nilCheck _| .binOp .. | .unOp .. | .convert .. | .makeFunc ..
 | .slice .. | .fieldAddr .. | .field .. | .indexAddr .. | .index .. | .extract .. =>true
 | .call ⟨.builtin .len,_,_⟩ | .call ⟨.builtin .max,_,_⟩ | .call ⟨.builtin .min,_,_⟩=>true
 |_=>false
theorem Kn{t:TypeId}{c:CV}{hs:HS}{out:rT}(h:Ea P t c st hs=some out):out.st=st∧out.mv=none:=by
 unfold Ea at h
 split at h
 ·split at h
  ·split at h
   ·simp only[mE]at h;obtain⟨_,_,rfl⟩:=h;exact⟨rfl,rfl⟩
   ·simp at h
  ·split at h
   ·rename_i sz _ _ _ _ _
    cases hz:Nat.beq sz 0 with
    |false=>simp_all
    |true=>simp only[hz,cond_true,mE]at h;obtain⟨_,_,rfl⟩:=h;exact⟨rfl,rfl⟩
   ·rename_i sz _ _ _ sz' _ _
    cases hz:Nat.beq sz sz' with
    |false=>simp_all
    |true=>
     simp only[hz,cond_true]at h
     split at h
     ·simp only[mE]at h;obtain⟨_,_,rfl⟩:=h;exact⟨rfl,rfl⟩
     ·simp at h
   ·rename_i sz _ _ _ sz' _ _ _ _ _
    cases hz:Nat.beq sz sz' with
    |false=>simp_all
    |true=>simp only[hz,cond_true,mE]at h;obtain⟨_,_,rfl⟩:=h;exact⟨rfl,rfl⟩
   ·simp at h
  ·simp at h
 ·simp at h
theorem B6{o:Oper}{hs:HS}{out:rT}(hq:jj o.op=true)(h:ev P false o fr st hs=some out):out.st=st∧out.mv=none:=by
 unfold ev at h
 cases hop:o.op<;>simp only[hop,jj]at hq h<;>first|(cases hq;done) |skip
 case move=>simp only[cA]at h;subst h;exact⟨rfl,rfl⟩
 case assign=>simp only[cA]at h;subst h;exact⟨rfl,rfl⟩
 case pick=>split at h<;>first|(simp only[cA]at h;subst h;exact⟨rfl,rfl⟩) |(simp at h)
 case alloc=>split at h<;>first|(split at h<;>first|(simp only[cA]at h;subst h;exact⟨rfl,rfl⟩) |(simp at h)) |(simp at h)
 case box=>split at h<;>first|(split at h<;>first|(simp only[cA]at h;subst h;exact⟨rfl,rfl⟩) |(simp at h)) |(simp at h)
 case build=>
  split at h
  ·simp only[mE]at h;obtain⟨_,_,rfl⟩:=h;exact⟨rfl,rfl⟩
  ·simp at h
 case buildSlice t len parts=>
  split at h
  ·split at h
   ·rename_i sz z pcs _ _ _
    cases hb:(Nat.beq z.length sz&&(Nat.ble 1 sz&&Nat.ble (len*sz) 1000000))with
    |false=>simp[hb]at h
    |true=>
     simp only[hb,cond_true]at h
     split at h
     ·split at h
      ·simp only[cA]at h;subst h;exact⟨rfl,rfl⟩
      ·simp at h
     ·simp at h
   ·simp at h
  ·simp at h
 case load=>split at h<;>first|exact Kn h|(simp at h)
 case nilCheck=>split at h<;>first|(simp only[cA]at h;subst h;exact⟨rfl,rfl⟩) |(simp at h)
 case binOp=>split at h<;>first|(split at h<;>first|(simp only[cA]at h;subst h;exact⟨rfl,rfl⟩) |(simp only[mE]at h;obtain⟨_,_,rfl⟩:=h;exact⟨rfl,rfl⟩) |(simp at h;done)) |(simp at h;done)
 case unOp=>split at h<;>first|(simp only[cA]at h;subst h;exact⟨rfl,rfl⟩) |(simp at h)
 case convert=>split at h<;>first|(split at h<;>first|(simp only[cA]at h;subst h;exact⟨rfl,rfl⟩) |(simp at h)) |(simp only[cA]at h;subst h;exact⟨rfl,rfl⟩) |(simp at h)
 case makeFunc fn first captured=>
  cases fn<;>try (simp at h;done)
  simp only at h
  split at h<;>first|(simp only[cA]at h;subst h;exact⟨rfl,rfl⟩) |(simp at h)
 case slice=>
  split at h
  ·rename_i c l hh m _ _ _ _
   cases hb:(m.isNone||hh.isSome)with
   |false=>simp[hb]at h
   |true=>
    simp only[hb,cond_true]at h
    split at h<;>(split at h<;>first|(simp only[cA]at h;subst h;exact⟨rfl,rfl⟩) |(simp at h))
  ·simp at h
 case fieldAddr=>
  split at h
  ·simp only[mE]at h;obtain⟨_,_,rfl⟩:=h;exact⟨rfl,rfl⟩
  ·simp at h
 case field=>
  split at h
  ·simp only[mE]at h;obtain⟨_,_,rfl⟩:=h;exact⟨rfl,rfl⟩
  ·simp at h
 case indexAddr=>split at h<;>first|(split at h<;>first|(simp only[cA]at h;subst h;exact⟨rfl,rfl⟩) |(simp at h)) |(simp at h)
 case index=>
  split at h
  ·simp only[cA]at h;subst h;exact⟨rfl,rfl⟩
  ·split at h
   ·simp only[mE]at h;obtain⟨_,_,rfl⟩:=h;exact⟨rfl,rfl⟩
   ·simp at h
  ·simp at h
 case extract=>split at h<;>first|(split at h<;>first|(simp only[cA]at h;subst h;exact⟨rfl,rfl⟩) |(simp at h)) |(simp at h)
 case call c=>
  obtain⟨callee,args,tys⟩:=c
  cases callee<;>first|(cases hq;done) |skip
  rename_i b
  cases b<;>first|(cases hq;done) |skip
  case len=>
   simp only at h
   split at h
   ·simp only[mE]at h;obtain⟨_,_,rfl⟩:=h;exact⟨rfl,rfl⟩
   ·simp at h
  case max=>
   simp only at h
   split at h<;>first|(split at h<;>first|(simp only[cA]at h;subst h;exact⟨rfl,rfl⟩) |(simp at h)) |(simp at h)
  case min=>
   simp only at h
   split at h<;>first|(split at h<;>first|(simp only[cA]at h;subst h;exact⟨rfl,rfl⟩) |(simp at h)) |(simp at h)
theorem Yd.ev{o:Oper}{hs:HS}{out:rT}(hq:jj o.op=true)(h:SX.ev P false o fr st hs=some out)(hob:eH out.ob):Yd P n st o fr out.av:=by
 intro ι w a hR hF K Q hK
 obtain⟨v,w',ι',hrun,hR',hv,k⟩:=uo h hob hR hF
 obtain⟨e1,e2⟩:=B6 hq h
 rw[e1]at hR' hv k
 rw[e2]at k
 have hk:=hK v w' ι' hv hR' (k.weaken (fun _ _=>rfl))
 rcases hrun with h1|⟨h1,rfl⟩
 ·simp only[Oper.wp,h1,Oper.upon];exact hk
 ·simp only[Oper.wp,h1,Oper.upon];exact hk
structure DS where
 asv:List AV
 fr:Fr
 ob:List Prop
 hs:HS
def tB(P:Program)(n:Nat)(st:St)(ops:Array Oper):List Oper→Fr→HS→Option DS
 |[],fr,hs=>some ⟨[],fr,[],hs⟩
 |o::l,fr,hs=>
  bif (match o.dst with|some d=>Nat.ble (d+1) n|none=>true)then
   match cI ops o (cL ops o fr)with
   |some true=>
    bif jj o.op then
     match ev P false o (cL ops o fr) st hs with
     |some out=>match tB P n st ops l (oM o.dst out.av fr) out.hs with
      |some r=>some ⟨out.av::r.asv,r.fr,out.ob++r.ob,r.hs⟩
      |none=>none
     |none=>none
    else none
   |some false=>match tB P n st ops l (oM o.dst (.tp []) fr) hs with
    |some r=>some ⟨.tp []::r.asv,r.fr,r.ob,r.hs⟩
    |none=>none
   |none=>none
  else none
theorem tN{rest:List Oper}{as2:List AV}:∀{l:List Oper} {fr:Fr} {hs:HS} {r:DS},tB P n st ops l fr hs=some r→eH r.ob→sa P n st ops rest as2 r.fr→sa P n st ops (l++rest) (r.asv++as2) fr∧ls (l++rest) (r.asv++as2) fr=ls rest as2 r.fr
 |[],fr,hs,r,h,hob,hk=>by
  simp only[tB,cA]at h
  subst h
  exact⟨hk,rfl⟩
 |o::l,fr,hs,r,h,hob,hk=>by
  simp only[tB]at h
  cases hb:(match o.dst with|some d=>Nat.ble (d+1) n|none=>true)with
  |false=>simp[hb]at h
  |true=>
   simp only[hb,cond_true]at h
   have hbd:∀d,o.dst=some d→d<n:=by
    intro d hd
    rw[hd]at hb
    exact n4 hb
   split at h
   ·rename_i hg
    cases hq:jj o.op with
    |false=>simp[hq]at h
    |true=>
     simp only[hq,cond_true]at h
     split at h
     ·rename_i out hev
      split at h
      ·rename_i r' hr
       simp only[cA]at h
       subst h
       obtain⟨o1,o2⟩:=eH.append hob
       obtain⟨i1,i2⟩:=tN hr o2 hk
       exact⟨⟨⟨hbd,.inl ⟨hg,Yd.ev hq hev o1⟩⟩,i1⟩,i2⟩
      ·simp at h
     ·simp at h
   ·rename_i hg
    split at h
    ·rename_i r' hr
     simp only[cA]at h
     subst h
     obtain⟨i1,i2⟩:=tN hr hob hk
     exact⟨⟨⟨hbd,.inr ⟨hg,rfl⟩⟩,i1⟩,i2⟩
    ·simp at h
   ·simp at h
theorem XO.region{id:Nat}(he:c= .region id ops false)(h:XO P n n0 lz ops ops.toList Q fr st):XW P n n0 lz c Q fr st:=by
 subst he
 exact fun ι w a hR hF=>wp_region_list (h ι w a hR hF)
end
section
variable {P:Program} {n n0:Nat} {lz an:List Nat} {Q:QT} {fr:Fr} {st:St} {c:Code} {ops:Array Oper}
def zz(P:Program)(g:Nat)(asv:List AV):Option (Nat×List AV):=
 match P.funcs[g]? with
 |some fn=>bif fn.body.isSome&& !(fn.name== "runtime.NumGoroutine")then some (g,asv)else none
 |none=>none
def qy(P:Program)(o:Oper)(fr:Fr):Option (Nat×List AV):=
 match o.op with
 | .call ⟨.value f,args,_⟩=>
  match rv fr f with
  | .one (.pv (.fn g caps))=>zz P g (args.toList.map (rv fr)++caps.map fun p=> .one (.pv p))
  | .one (.fn g caps)=>zz P g (args.toList.map (rv fr)++caps.map .one)
  |_=>none
 |_=>none
theorem um{g:Nat}{asv as':List AV}{vs:List Value}(h:zz P g asv=some (g,as'))(w:World):(callFunc g vs.toArray).run P w= .ok (.enter g vs.toArray) w∧as'=asv:=by
 unfold zz at h
 cases hf:P.funcs[g]? with
 |none=>simp[hf]at h
 |some fn=>
  simp only[hf]at h
  cases hb:(fn.body.isSome&& !(fn.name== "runtime.NumGoroutine"))with
  |false=>simp[hb]at h
  |true=>
   simp only[hb,cond_true,cA,ku,true_and]at h
   simp only[fM,Bool.not_eq_true']at hb
   have hbody:fn.body.isNone=false:=by
    cases hq:fn.body with
    |none=>rw[hq]at hb;simp at hb
    |some c=>rfl
   have hn:¬fn.name= "runtime.NumGoroutine" :=by simpa using hb.2
   have hbn:¬fn.body=none:=by rintro e;rw[e]at hbody;cases hbody
   refine⟨?_,h.symm⟩
   simp[callFunc,hf,hn,hbn]
theorem lB{o:Oper}{g:Nat}{asv:List AV}(h:qy P o fr=some (g,asv)){ι:IM}{w:World}{a:Act}(hF:fU n ι w st a fr):
  ∃vs,(execOp a.eval o).run P w= .ok (.enter g vs.toArray) w∧sG ι w st vs asv:=by
 unfold qy at h
 cases hop:o.op<;>simp only[hop]at h<;>try (cases h;done)
 rename_i cl
 obtain⟨callee,args,tys⟩:=cl
 cases callee<;>simp only at h<;>try (cases h;done)
 rename_i f
 have hf:=cu hF f
 have base:∀(l:List Operand),sG ι w st (l.map a.eval) (l.map (rv fr)):=by
  intro l
  refine⟨by simp,fun j v av h1 h2=> ?_⟩
  rw[List.getElem?_map,mE]at h1 h2
  obtain⟨x,hx,rfl⟩:=h1
  obtain⟨y,hy,rfl⟩:=h2
  rw[hx]at hy;cases hy
  exact cu hF x
 have app:∀{l l':List Value} {m m':List AV},sG ι w st l m→sG ι w st l' m'→sG ι w st (l++l') (m++m'):=by
  intro l l' m m' h1 h2
  refine⟨by simp[h1.1,h2.1],fun j v av x1 x2=> ?_⟩
  by_cases hj:j<l.length
  ·rw[nq hj]at x1
   rw[nq (by rw[←h1.1];exact hj)]at x2
   exact h1.2 j v av x1 x2
  ·rw[List.getElem?_append_right (by omega)]at x1
   rw[List.getElem?_append_right (by rw[←h1.1];omega),←h1.1]at x2
   exact h2.2 _ v av x1 x2
 split at h
 ·rename_i g' caps hq
  rw[hq]at hf
  have hp:=oQ (jL hf)
  generalize hu:a.eval f=u at*
  cases hp with
  |fn _ _ us hl hv=>
   have hg:g'=g:=by
    unfold zz at h
    split at h
    ·rename_i fn _
     cases hb:(fn.body.isSome&& !(fn.name== "runtime.NumGoroutine"))with
     |false=>simp[hb]at h
     |true=>simp[hb]at h;exact h.1
    ·simp at h
   subst hg
   obtain⟨e1,e2⟩:=um (vs:=args.toList.map a.eval++us) h w
   refine⟨args.toList.map a.eval++us,?_,?_⟩
   ·have e3:args.map a.eval++us.toArray=(args.toList.map a.eval++us).toArray:=by apply Array.ext';simp
    simp[execOp,hop,resolve,hu,Deferred.ofValue,invoke,e3,e1]
   ·rw[e2]
    refine app (base _) ⟨by simp[hl],fun j v av x1 x2=> ?_⟩
    rw[List.getElem?_map,mE]at x2
    obtain⟨p,hp,rfl⟩:=x2
    exact .one _ _ (.pv _ _ (hv j p v hp x1))
 ·rename_i g' caps hq
  rw[hq]at hf
  have hp:=jL hf
  generalize hu:a.eval f=u at*
  cases hp with
  |fn _ _ us hl hv=>
   have hg:g'=g:=by
    unfold zz at h
    split at h
    ·rename_i fn _
     cases hb:(fn.body.isSome&& !(fn.name== "runtime.NumGoroutine"))with
     |false=>simp[hb]at h
     |true=>simp[hb]at h;exact h.1
    ·simp at h
   subst hg
   obtain⟨e1,e2⟩:=um (vs:=args.toList.map a.eval++us) h w
   refine⟨args.toList.map a.eval++us,?_,?_⟩
   ·have e3:args.map a.eval++us.toArray=(args.toList.map a.eval++us).toArray:=by apply Array.ext';simp
    simp[execOp,hop,resolve,hu,Deferred.ofValue,invoke,e3,e1]
   ·rw[e2]
    refine app (base _) ⟨by simp[hl],fun j v av x1 x2=> ?_⟩
    rw[List.getElem?_map,mE]at x2
    obtain⟨p,hp,rfl⟩:=x2
    exact .one _ _ (hv j p v hp x1)
 ·simp at h
abbrev mm(a:AV):Bool:=cU (fun _=>false) a
def jH:List AV→Bool
 |[]=>true
 |a::l=>mm a&&jH l
theorem yE:∀{l:List AV},jH l=true→∀(j:Nat) a,l[j]? =some a→mm a=true
 |[],_,j,a,h=>by simp at h
 |x::l,h,j,a,hj=>by
  simp only[jH,fM]at h
  cases j with
  |zero=>simp at hj;subst hj;exact h.1
  |succ j=>exact yE h.2 j a (by simpa using hj)
theorem bX.conv{ι ι':IM}{w:World}{st st':St}(hm:∀b,¬fK ι st b→¬fK ι' st' b){v:Value}{c:CV}(h:bX ι w st v c):kQ (fun _=>false) c=true→bX ι' w st' v c:=by
 induction h with
 |pv v p h=>exact fun _=> .pv v p (h.mono (eo _) (fun b _ hb=>⟨rfl,hm b hb⟩))
 |pt=>intro h;cases h
 |sl=>intro h;cases h
 |sn=>intro h;cases h
 |mp=>intro h;cases h
 |cl v els h hc=>exact fun _=> .cl v els (h.mono (eo _) (fun b _ hb=>⟨rfl,hm b hb⟩)) hc
 |fn f caps vs hl hv ih=>
  intro hi
  simp only[kQ]at hi
  exact .fn f caps vs hl (fun j c v h1 h2=>ih j c v h1 h2 (tZ hi j c h1))
theorem aN.conv{ι ι':IM}{w:World}{st st':St}(hm:∀b,¬fK ι st b→¬fK ι' st' b){v:Value}{a:AV}(h:aN ι w st v a):mm a=true→aN ι' w st' v a:=by
 induction h with
 |j v=>exact fun _=> .j v
 |one v c h=>exact fun hi=> .one v c (h.conv hm hi)
 |ag vs cs h=>exact fun hi=> .ag vs cs ⟨h.1,fun j v c h1 h2=>(h.2 j v c h1 h2).conv hm (qR hi j c h2)⟩
 |tp vs asv hl h ih=>
  intro hi
  simp only[mm,cU]at hi
  exact .tp vs asv hl (fun j v a h1 h2=>ih j v a h1 h2 (u4 hi j a h2))
theorem PC.use{g:Nat}{asv:List AV}{r:AV}(h:PC P g asv r)(hp:jH asv=true)(hr:mm r=true){ι:IM}{w:World}{vs:List Value}(hR:eu ι w st)(hA:sG ι w st vs asv):
  Calls P g vs.toArray w fun e w'=>∃v,e= .returned v∧eu ι w' st∧aN ι w' st v r∧bo all ι w st ι w' st:=by
 let ι0:IM:=⟨fun _=>none,fK ι st⟩
 have hno:∀(ι1:IM) b,¬nV ι1 [] b:=by
  rintro ι1 b ⟨id,o,h1,_⟩
  simp at h1
 have hR0:eu ι0 w []:=⟨fun id o h=>by simp at h,fun b hb=>hR.mut_lt hb,fun b hb=>absurd hb (hno _ b),fun id id' o o' b h=>by simp at h,fun b o h=>⟨fun hm=>(hR.gl b o h).1 (hm.elim id (fun ho=>absurd ho (hno _ b))),(hR.gl b o h).2⟩⟩
 have hA0:sG ι0 w [] vs asv:=⟨hA.1,fun j v a h1 h2=>(hA.2 j v a h1 h2).conv (fun b hb hm=>hb (hm.elim id (fun ho=>absurd ho (hno _ b)))) (yE hp j a h2)⟩
 refine(h ι0 w vs hR0 hA0).mono ?_
 rintro e w' ⟨v,av,st',ι',he,⟨rfl,rfl⟩,hR',hv,k⟩
 have hx:m6 w w':=⟨k.os,k.tape,k.output,k.size,fun b hb=>(k.blk b hb (hno _ b)).1⟩
 refine⟨v,he,hR.ext hx,?_,hx.keeps ι st⟩
 exact hv.conv (fun b hb hm=>hb (.inl (by rw[k.amb];exact hm))) hr
theorem XO.call{o:Oper}{rest:List Oper}{g:Nat}{asv:List AV}{r:AV}{fr':Fr}(hg:cI ops o fr=some true)(hc:qy P o fr=some (g,asv))(h:PC P g asv r)(hp:jH asv=true)(hr:mm r=true)
  (hput:qw n o.dst r fr=some fr')(hk:XO P n n0 lz ops rest Q fr' st):XO P n n0 lz ops (o::rest) Q fr st:=by
 intro ι w a hR hF
 obtain⟨vs,hrun,hA⟩:=lB hc hF
 have hw:=cF hg hF
 refine wpList_step fun K hK=> ?_
 rw[if_pos hw]
 simp only[Oper.wp,hrun,Oper.upon]
 refine(h.use hp hr hR hA).mono ?_
 rintro e w' ⟨v,rfl,hR',hv,k⟩
 refine hK _ _ (di (fun e a w h=>h.trans (k.weaken (fun _ _=>trivial))) (hk ι w' _ hR' (gP hput (hF.mono' k) hv)))
theorem Yd.call{o:Oper}{g:Nat}{asv:List AV}{r:AV}(hc:qy P o fr=some (g,asv))(h:PC P g asv r)(hp:jH asv=true)(hr:mm r=true):Yd P n st o fr r:=by
 intro ι w a hR hF K Q hK
 obtain⟨vs,hrun,hA⟩:=lB hc hF
 simp only[Oper.wp,hrun,Oper.upon]
 refine(h.use hp hr hR hA).mono ?_
 rintro e w' ⟨v,rfl,hR',hv,k⟩
 exact hK v w' ι hv hR' k
def El(P:Program)(fr:Fr)(st:St)(hs:HS):ResultVar→Option (AV×List Prop×HS)
 | .tmp t=>some (lk fr t,[],hs)
 | .cell a t=>match lk fr a with
  | .one c=>match Ea P t c st hs with
   |some out=>some (out.av,out.ob,out.hs)
   |none=>none
  |_=>none
def mR(P:Program)(fr:Fr)(st:St):List ResultVar→HS→Option (List AV×List Prop)
 |[],_=>some ([],[])
 |r::l,hs=>match El P fr st hs r with
  |some (a,ob,hs')=>match mR P fr st l hs' with
   |some (asv,ob')=>some (a::asv,ob++ob')
   |none=>none
  |none=>none
def pH:List AV→AV
 |[a]=>a
 |asv=> .tp asv
theorem D3{t:TypeId}{v u:Value}{w:World}(h:(Instr.loadAt t v).run P w= .ok u w):∃A,v= .pointer (some A)∧(loadVar t A).run P w= .ok u w:=by
 cases v<;>try (simp[Instr.loadAt,Instr.sureAddr]at h;done)
 rename_i ao
 cases ao with
 |none=>simp[Instr.loadAt,Instr.sureAddr]at h
 |some A=>exact⟨A,rfl,by simpa [Instr.loadAt,Instr.sureAddr]using h⟩
theorem zP{ι:IM}{w:World}{a:Act}(hR:eu ι w st)(hF:fU n ι w st a fr):∀{l:List ResultVar} {hs:HS} {asv:List AV} {ob:List Prop},mR P fr st l hs=some (asv,ob)→eH ob→
  ∃vs,(l.mapM (fun| .tmp t=>pure (a.tmps.getD t undef) | .cell x t=>do loadVar t (←asAddr (a.tmps.getD x undef)):ResultVar→Sem Value)).run P w= .ok vs w∧sG ι w st vs asv
 |[],hs,asv,ob,h,hob=>by
  simp[mR]at h
  obtain⟨rfl,_⟩:=h
  exact⟨[],by simp,rfl,fun j v a h=>by simp at h⟩
 |r::l,hs,asv,ob,h,hob=>by
  simp only[mR]at h
  split at h
  ·rename_i a1 ob1 hs1 h1
   split at h
   ·rename_i as2 ob2 h2
    simp only[cA,ku]at h
    obtain⟨rfl,rfl⟩:=h
    obtain⟨o1,o2⟩:=eH.append hob
    obtain⟨vs,e1,e2⟩:=zP hR hF h2 o2
    have head:∃v,((match r with| .tmp t=>pure (a.tmps.getD t undef) | .cell x t=>do loadVar t (←asAddr (a.tmps.getD x undef)):Sem Value)).run P w= .ok v w∧aN ι w st v a1:=by
     cases r with
     |tmp t=>
      simp only[El,cA,ku]at h1
      obtain⟨rfl,_,_⟩:=h1
      exact⟨_,rfl,hF.slot t⟩
     |cell x t=>
      simp only[El]at h1
      have hx:=hF.slot x
      split at h1
      ·rename_i cv hq
       rw[hq]at hx
       split at h1
       ·rename_i out hld
        simp only[cA,ku]at h1
        obtain⟨rfl,rfl,_⟩:=h1
        obtain⟨u,u1,u2,_⟩:=yl (P:=P) (w:=w) hld o1 hR (jL hx)
        obtain⟨A,hA,hl⟩:=D3 u1
        refine⟨u,?_,u2⟩
        simp only[hA,asAddr,Sem.run_bind,Sem.run_pure,Result.andThen_ok]
        exact hl
       ·simp at h1
      ·simp at h1
    obtain⟨v,v1,v2⟩:=head
    refine⟨v::vs,?_,by simp[e2.1],fun j u q x1 x2=> ?_⟩
    ·simp only[List.mapM_cons,Sem.run_bind,v1,Result.andThen_ok,e1,Sem.run_pure]
    ·cases j with
     |zero=>simp at x1 x2;subst x1;subst x2;exact v2
     |succ j=>exact e2.2 j u q (by simpa using x1) (by simpa using x2)
   ·simp at h
  ·simp at h
theorem sT{ι:IM}{w:World}{a:Act}{fn:Func}(hR:eu ι w st)(hF:fU n ι w st a fr){hs:HS}{asv:List AV}{ob:List Prop}(h:mR P fr st fn.results.toList hs=some (asv,ob))(hob:eH ob):
  ∃v,(results fn a.tmps).run P w= .ok v w∧aN ι w st v (pH asv):=by
 obtain⟨vs,e1,e2⟩:=zP hR hF h hob
 have e3:(fn.results.mapM (fun| .tmp t=>pure (a.tmps.getD t undef) | .cell x t=>do loadVar t (←asAddr (a.tmps.getD x undef)):ResultVar→Sem Value)).run P w= .ok vs.toArray w:=by
  rw[Array.mapM_eq_mapM_toList]
  simp only[Sem.run_map,e1,Result.andThen_ok]
 have e4:(results fn a.tmps).run P w= .ok (if h:vs.toArray.size=1 then vs.toArray[0]else .tuple vs.toArray) w:=by
  unfold results
  rw[Sem.run_bind]
  refine(congrArg (fun r:Result (Array Value)=>r.andThen _) e3).trans ?_
  rfl
 refine⟨_,e4,?_⟩
 match vs,asv,e2 with
 |[],[],_=>exact .tp [] [] rfl (fun j v a h=>by simp at h)
 |[v],[av],e2=>exact e2.2 0 v av rfl rfl
 |v::v'::vs,av::av'::asv,e2=>
  have:¬(v::v'::vs).toArray.size=1:=by simp
  rw[dif_neg this]
  exact .tp _ _ e2.1 e2.2
 |[],_::_,e2=>have:=e2.1;simp at this
 |_::_,[],e2=>have:=e2.1;simp at this
 |[_],_::_::_,e2=>have:=e2.1;simp at this
 |_::_::_,[_],e2=>have:=e2.1;simp at this
end
section
variable {P:Program} {n n0:Nat} {lz an:List Nat} {Q:QT} {fr:Fr} {st:St} {c:Code} {ops:Array Oper}
inductive CF(st:St)(q:Nat→Bool):CV→CV→Prop where
 |rfl (c:CV) (h:kQ q c=true):CF st q c c
 |nl:CF st q (.pv (.s (.slice none 0 0))) (.pv (.ro []))
 |sl {id sz off len:Nat} {els els':List (List PV)} (h:st[id]? =some (.arr sz els)) (hq:q id=false) (hl:off+len≤els.length) (e:(els.drop off).take len=els'):CF st q (.sl id sz off len) (.pv (.ro els'))
 |pt {id sz off:Nat} {ps:List PV} (h:st[id]? =some (.box (ps.map .pv))) (hq:q id=false):CF st q (.pt id sz 0 off) (.pv (.rp [ps] 0 off))
 |fnp {f id sz off:Nat} {ps:List PV} (h:st[id]? =some (.box (ps.map .pv))) (hq:q id=false):CF st q (.fn f [.pt id sz 0 off]) (.fn f [.pv (.rp [ps] 0 off)])
inductive LF(st:St)(q:Nat→Bool):List CV→List CV→Prop where
 |nil:LF st q [] []
 |cons {c c':CV} {l l':List CV} (h:CF st q c c') (k:LF st q l l'):LF st q (c::l) (c'::l')
inductive AF(st:St)(q:Nat→Bool):AV→AV→Prop where
 |j (a:AV):AF st q a .j
 |one {c c':CV} (h:CF st q c c'):AF st q (.one c) (.one c')
 |ag {cs cs':List CV} (h:LF st q cs cs'):AF st q (.ag cs) (.ag cs')
 |tp0:AF st q (.tp []) (.tp [])
 |tpc {a a':AV} {l l':List AV} (h:AF st q a a') (k:AF st q (.tp l) (.tp l')):AF st q (.tp (a::l)) (.tp (a'::l'))
structure s7(q:Nat→Bool)(st st':St):Prop where
 old:∀(id:Nat) o,st'[id]? =some o→o= .dead∨(q id=true∧st[id]? =some o)
 keep:∀id,q id=true→id<st.length→id<st'.length
theorem s7.own{q:Nat→Bool}{st':St}(h:s7 q st st'){ι:IM}{b:Nat}(ho:nV ι st' b):∃id o,q id=true∧st[id]? =some o∧o.alive∧ι id=some b:=by
 obtain⟨id,o,h1,h2,h3⟩:=ho
 rcases h.old id o h1 with rfl|⟨h4,h5⟩
 ·exact absurd rfl h2
 ·exact⟨id,o,h4,h5,h2,h3⟩
theorem eu.shrink{q:Nat→Bool}{st':St}{ι:IM}{w:World}(r:eu ι w st)(h:s7 q st st')(hi:dq q st'=true):eu ι w st'∧bo (fun id=>q id=true) ι w st ι w st':=by
 have k:bo (fun id=>q id=true) ι w st ι w st':=
  ⟨rfl,rfl,rfl,eo _,rfl,fun b _ hm=>⟨rfl,fun ho=>by
   obtain⟨id,o,_,h2,h3,h4⟩:=h.own ho
   exact hm ⟨id,o,h2,h3,h4⟩⟩,fun id hq hid=>⟨h.keep id hq hid,rfl⟩,fun _ c _ _ h=>⟨c,h,rfl⟩⟩
 refine⟨⟨fun id o ho=> ?_,r.amb,fun b ho=> ?_,fun id id' o o' b h1 h2 a1 a2 e1 e2=> ?_,r.glk k⟩,k⟩
 ·rcases h.old id o ho with rfl|⟨hq,ho'⟩
  ·trivial
  ·have:=r.obj id o ho'
   have hb:=iK hi id o ho
   cases o with
   |dead=>trivial
   |box cells=>
    obtain⟨b',vs,ty,e',hb',hl⟩:=this
    exact⟨b',vs,ty,e',hb',hl.mono k (q:=q) (fun _ h _=>h) hb⟩
   |win wsz wi pre mid post=>
    obtain⟨b',c0,ty,e',hb',hn0,hl⟩:=this
    exact⟨b',c0,ty,e',hb',hn0,hl.mono k (q:=q) (fun _ h _=>h) (ny hb _ _)⟩
   |rel Rm ps=>
    obtain⟨b',ob,vs0,e',hb',hr0,hl0⟩:=this
    exact⟨b',ob,vs0,e',hb',hr0,hl0.map fun _ _ h0=>k.pure h0⟩
   |arr sz els=>
    rcases this with⟨e',he⟩ |⟨b',c,ty,e',hb',h1,h2,h3⟩
    ·exact .inl ⟨e',he⟩
    ·refine .inr ⟨b',c,ty,e',hb',h1,h2,fun i e' j cv a1 a2=> ?_⟩
     obtain⟨v,hv,hr⟩:=h3 i e' j cv a1 a2
     exact⟨v,hv,k.pure hr⟩
 ·obtain⟨id,o,_,h2,h3,h4⟩:=h.own ho
  exact r.dis b ⟨id,o,h2,h3,h4⟩
 ·rcases h.old id o h1 with rfl|⟨_,h5⟩
  ·exact absurd rfl a1
  rcases h.old id' o' h2 with rfl|⟨_,h6⟩
  ·exact absurd rfl a2
  exact r.inj id id' o o' b h5 h6 a1 a2 e1 e2
theorem bX.boxed{q:Nat→Bool}{st':St}{ι:IM}{w:World}(r:eu ι w st)(ho:∀b,nV ι st' b→∃id o,q id=true∧st[id]? =some o∧o.alive∧ι id=some b)(kp:∀v p,dr (fK ι st) w v p→dr (fK ι st') w v p)
  {id sz off:Nat}{ps:List PV}{v:Value}(h:bX ι w st v (.pt id sz 0 off))(hid:st[id]? =some (.box (ps.map .pv)))(hq:q id=false):bX ι w st' v (.pv (.rp [ps] 0 off)):=by
 cases h with
 |pt _ _ _ _ b hid' hb=>
  obtain⟨b',vs,ty,e1,e2,hL⟩:=r.obj id _ hid
  rw[hb]at e1;cases e1
  have hown:nV ι st b:=⟨id,_,hid,by simp[aV.alive],hb⟩
  have hlen:vs.length=ps.length:=by rw[hL.1];simp
  have key:∀(i:Nat) e (j:Nat) p,[ps][i]? =some e→e[j]? =some p→i=0∧∃u,vs[j]? =some u∧dr (fK ι st) w u p:=by
   intro i e j p h1 h2
   cases i with
   |succ i=>simp at h1
   |zero=>
    simp at h1;subst h1
    have hj:j<ps.length:=(gN.1 h2).1
    obtain⟨u,hu⟩:∃u,vs[j]? =some u:=⟨_,gu (by omega)⟩
    refine⟨rfl,u,hu,?_⟩
    have:=hL.2 j u (.pv p) hu (by simp[h2])
    cases this with
    |pv _ _ hp=>exact hp
  have:=dr.rp (μ:=fK ι st') (w:=w) ⟨b,0,none⟩ ps.length [ps] 0 off (fun i j=>vs.getD j undef) (by simp)
   (fun _=>⟨cf e2,fun hm=>by
    rcases hm with hm|hm
    ·exact r.dis b hown hm
    ·obtain⟨id',o',hq',h5,h6,h7⟩:=ho b hm
     have:=r.inj id id' _ o' b hid h5 (by simp[aV.alive]) h6 hb h7
     subst this
     rw[hq]at hq';cases hq'⟩)
   (fun i e j p h1 h2=>by
    obtain⟨rfl,u,hu,hp⟩:=key i e j p h1 h2
    rw[add_lit,kE e2]
    simp[hu])
   (fun i e j p h1 h2=>by
    obtain⟨rfl,u,hu,hp⟩:=key i e j p h1 h2
    have:vs.getD j undef=u:=by simp[hu]
    rw[this]
    exact kp _ _ hp)
  rw[add_lit]at this
  simp only[Nat.zero_mul,Nat.zero_add]at this⊢
  exact .pv _ _ this
theorem bX.boxfn{q:Nat→Bool}{st':St}{ι:IM}{w:World}(r:eu ι w st)(ho:∀b,nV ι st' b→∃id o,q id=true∧st[id]? =some o∧o.alive∧ι id=some b)(kp:∀v p,dr (fK ι st) w v p→dr (fK ι st') w v p)
  {f id sz off:Nat}{ps:List PV}{v:Value}(h:bX ι w st v (.fn f [.pt id sz 0 off]))(hid:st[id]? =some (.box (ps.map .pv)))(hq:q id=false):bX ι w st' v (.fn f [.pv (.rp [ps] 0 off)]):=by
 cases h with
 |fn _ _ vs hl hv=>
  match vs,hl with
  |[u],_=>
   refine .fn f _ [u] rfl fun j c v h1 h2=> ?_
   cases j with
   |zero=>
    simp only[List.getElem?_cons_zero,cA]at h1 h2
    subst h1;subst h2
    exact(hv 0 _ u rfl rfl).boxed r ho kp hid hq
   |succ j=>simp at h1
theorem bX.fz{q:Nat→Bool}{st':St}{ι:IM}{w:World}(r:eu ι w st)(hs:s7 q st st')(hi:dq q st'=true){v:Value}{c c':CV}(h:bX ι w st v c)(hf:CF st q c c'):bX ι w st' v c':=by
 obtain⟨r',k⟩:=r.shrink hs hi
 cases hf with
 |rfl _ hc=>exact h.mono k (q:=q) (fun _ h _=>h) hc
 |nl=>
  have:=bi (aN.one _ _ h)
  subst this
  exact .pv _ _ .nl
 |pt hid hq=>exact h.boxed r (fun b=>hs.own) (fun _ _=>k.pure) hid hq
 |fnp hid hq=>exact h.boxfn r (fun b=>hs.own) (fun _ _=>k.pure) hid hq
 | @sl id sz off len els els' ho hq hl he=>
  subst he
  have hlen:((els.drop off).take len).length=len:=by simp;omega
  cases h with
  |sn _ _ hid hb=>
   have:(els.drop 0).take 0=[]:=by simp
   rw[this]
   exact .pv _ _ .nl
  |sl _ _ _ _ b cap hid hb hcap hc=>
   rcases r.obj id _ ho with⟨e1,_⟩ |⟨b',c,ty,e1,e2,hcs,hsz,hcell⟩
   ·rw[hb]at e1;cases e1
   ·rw[hb]at e1;cases e1
    have hown:nV ι st b:=⟨id,_,ho,by simp[aV.alive],hb⟩
    have:=dr.ro (μ:=fK ι st') (w:=w) ⟨b,off*sz,none⟩ cap sz ((els.drop off).take len) (fun i j=>c.getD ((off+i)*sz+j) undef) (by rw[hlen];exact hcap)
     (fun e he=>hsz e (List.mem_of_mem_drop (List.mem_of_mem_take he)))
     (fun _=>⟨cf e2,fun hm=>by
      rcases hm with hm|hm
      ·exact r.dis b hown hm
      ·obtain⟨id',o',hq',h5,h6,h7⟩:=hs.own hm
       have:=r.inj id id' _ o' b ho h5 (by simp[aV.alive]) h6 hb h7
       subst this
       rw[hq]at hq';cases hq'⟩)
     (fun i e j p h1 h2=>by
      rw[List.getElem?_take]at h1
      split at h1
      ·rw[List.getElem?_drop]at h1
       obtain⟨u,a1,a2⟩:=hcell _ e j p h1 h2
       rw[add_lit,kE e2]
       rw[show off*sz+(i*sz+j)=(off+i)*sz+j by rw[Nat.add_mul];omega,a1]
       simp[a1]
      ·cases h1)
     (fun i e j p h1 h2=>by
      rw[List.getElem?_take]at h1
      split at h1
      ·rw[List.getElem?_drop]at h1
       obtain⟨u,a1,a2⟩:=hcell _ e j p h1 h2
       have:c.getD ((off+i)*sz+j) undef=u:=by simp[a1]
       rw[this]
       exact k.pure a2
      ·cases h1)
    rw[hlen]at this
    exact .pv _ _ this
theorem aN.fz{q:Nat→Bool}{st':St}{ι:IM}{w:World}(r:eu ι w st)(hs:s7 q st st')(hi:dq q st'=true){v:Value}{a a':AV}(h:aN ι w st v a)(hf:AF st q a a'):aN ι w st' v a':=by
 induction hf generalizing v with
 |j a=>exact .j _
 |one hc=>exact .one _ _ ((jL h).fz r hs hi hc)
 | @ag cs cs' hl=>
  obtain⟨vs,rfl,hL⟩:=BD h
  refine .ag _ _ ?_
  clear h
  induction hl generalizing vs with
  |nil=>exact⟨hL.1,fun j v c h1 h2=>by simp at h2⟩
  | @cons c c' l l' hc hk ih=>
   match vs,hL with
   |[],hL=>have:=hL.1;simp at this
   |u::us,hL=>
    have h0:=hL.2 0 u c rfl rfl
    have ht:=ih us ⟨by have:=hL.1;simpa using this,fun j v c h1 h2=>hL.2 (j+1) v c (by simpa using h1) (by simpa using h2)⟩
    refine⟨by simp[ht.1],fun j v c h1 h2=> ?_⟩
    cases j with
    |zero=>simp at h1 h2;subst h1;subst h2;exact h0.fz r hs hi hc
    |succ j=>exact ht.2 j v c (by simpa using h1) (by simpa using h2)
 |tp0=>
  cases h with
  |tp vs asv hl hh=>exact .tp vs [] hl (fun j v a h1 h2=>by simp at h2)
 | @tpc a a' l l' ha hk ih1 ih2=>
  cases h with
  |tp vs asv hl hh=>
   match vs,hl,hh with
   |u::us,hl,hh=>
    have h0:=ih1 (hh 0 u a rfl rfl)
    have ht:=ih2 (v:= .tuple us.toArray) (.tp us l (by simpa using hl) (fun j v a h1 h2=>hh (j+1) v a (by simpa using h1) (by simpa using h2)))
    cases ht with
    |tp us' _ hl' hh'=>
     refine .tp (u::us) (a'::l') (by simpa using hl') (fun j v b h1 h2=> ?_)
     cases j with
     |zero=>simp at h1 h2;subst h1;subst h2;exact h0
     |succ j=>exact hh' j v b (by simpa using h1) (by simpa using h2)
def ly:List AV→Nat→Fr
 |[],_=>[]
 |a::l,i=>(i,a)::ly l (i+1)
theorem vT:∀(l:List AV) (i t:Nat),lk (ly l i) t=(if i≤t then l.getD (t-i) .j else .j)
 |[],i,t=>by simp[ly,lk]
 |a::l,i,t=>by
  simp only[ly,lk]
  by_cases e:i=t
  ·subst e;simp
  ·have hb:Nat.beq i t=false:=by cases hq:Nat.beq i t with|false=>rfl|true=>exact absurd (kW hq) e
   rw[hb,cond_false,vT l (i+1) t]
   by_cases h1:i≤t
   ·rw[if_pos (by omega),if_pos h1,show t-i=(t-(i+1))+1 by omega]
    simp
   ·rw[if_neg (by omega),if_neg h1]
def wL(P:Program)(fn:Func)(r:AV):QT:=fun e fr st=>
 (e= .normal∨e= .ret)∧∃hs asv ob,mR P fr st fn.results.toList hs=some (asv,ob)∧eH ob∧AF st (fun _=>false) (pH asv) r
theorem PC.of{f:Nat}{fn:Func}{args:List AV}{r:AV}(hf:P.funcs[f]? =some fn)(hb:fn.body=some c)(hn:fn.ntmps=n)(hl:args.length≤n)
  (h:XW P n 0 [] c (wL P fn r) (ly args 0) []):PC P f args r:=by
 intro ι w vs hR hA
 refine calls_of_wp hf hb ?_
 have hF:fU n ι w [] {tmps:=vs.toArray++Array.replicate (fn.ntmps-vs.toArray.size) undef,defers:=[]} (ly args 0):=by
  refine⟨rfl,?_,fun t=> ?_⟩
  ·simp[hn];have:=hA.1;omega
  ·rw[vT]
   simp only[Nat.zero_le,if_true,Nat.sub_zero]
   by_cases ht:t<vs.length
   ·have hta:t<args.length:=by rw[←hA.1];exact ht
    have e1:(vs.toArray++Array.replicate (fn.ntmps-vs.toArray.size) undef).getD t undef=vs[t]:=by
     simp[Array.getElem?_append,ht]
    have e2:args.getD t .j=args[t]:=by simp[List.getD,hta]
    rw[e1,e2]
    exact hA.2 t _ _ (gu ht) (gu hta)
   ·have:args.getD t .j= .j:=by
     simp only[List.getD]
     rw[List.getElem?_eq_none (by rw[←hA.1];omega)]
     rfl
    rw[this]
    exact .j _
 refine Go.wp_mono (h ι w _ hR hF) ?_
 rintro e a w' ⟨ι',fr',st',⟨he,hs,asv,ob,hres,hob,haf⟩,hR',hF',k⟩
 obtain⟨v,hv,hav⟩:=sT hR' hF' hres hob
 have hsub:s7 (fun _=>false) st' []:=⟨fun id o h=>by simp at h,fun id h=>by cases h⟩
 obtain⟨r1,k1⟩:=hR'.shrink hsub rfl
 have hfin:=hav.fz hR' hsub rfl haf
 have hpost:∃v',(results fn a.tmps).run P w'= .ok v' w'∧(∃v av st' ι',Ending.returned v'= .returned v∧(av=r∧st'=[])∧eu ι' w' st'∧aN ι' w' st' v av∧bo (fun id=>id∉([]:List Nat)) ι w [] ι' w' st'):=by
  refine⟨v,hv,v,r,[],ι',rfl,⟨rfl,rfl⟩,r1,hfin,?_⟩
  have kk:=k.trans (k1.weaken (fun id h=>by cases(show false=true from h)))
  exact⟨kk.os,kk.tape,kk.output,kk.size,kk.amb,kk.blk,fun id _ h=>by simp at h,kk.shp⟩
 rcases he with rfl|rfl
 ·exact⟨hF'.defers,hpost⟩
 ·exact⟨hF'.defers,hpost⟩
end
def sub:List Nat→Code→Code
 |[],c=>c
 |0::p,.seq a _=>sub p a
 |1::p,.seq _ b=>sub p b
 |0::p,.cond _ a _=>sub p a
 |1::p,.cond _ _ b=>sub p b
 |_::p,.block _ a=>sub p a
 |_::p,.loop a=>sub p a
 |_::p,.scope a=>sub p a
 |_,_=> .skip
def cd(fn:Func)(p:List Nat):Code:=sub p (fn.body.getD .skip)
abbrev vi(n:Int):AV:= .one (.pv (.s (.int .i64 n)))
abbrev vb(b:Bool):AV:= .one (.pv (.s (.bool b)))
abbrev vs(s:ByteArray):AV:= .one (.pv (.s (.string s)))
abbrev pi(n:Int):PV:= .s (.int .i64 n)
end Go.SX
