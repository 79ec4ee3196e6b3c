/- SX, eighteenth part: rules as the printed proofs use them. SX, nineteenth part: what the printed functions and proofs use: guards, reads of lists, encodings. SX: calls that hand objects of the caller over: contracts with a store of their own, and what they give in a greater store. SX: regions whose order is open up to a point, and whose last operations come one after the other. SX: regions that draw, with a serial end, as the printed proofs use them. SX: calls of functions that the model stands in for; loops round by round. SX: a part of the store left aside; a number that was dead taken for a new object. SX: regions whose order is open, with operations that make and change objects. SX: regions whose order is open, with operations that make and change objects: the walk in the order of the text serves every order. SX: regions that draw, with objects: the rules that printed proofs use. SX: regions that draw, with objects: the rules in the form in which they are printed. SX: functions that are handed objects of their callers: contracts out of bodies, and calls. SX: ranges over strings. SX: lists that are held in a box. SX: maps whose keys and elements are single plain cells. SX: calls to which lists are handed over for good (they come back in the result), and results that are objects of their own. SX: two numbers change places. SX: the rules of printed proofs in short form; frames are computed, not printed. SX: a machine that runs the program's code over frames up to the next event (a condition, a call, a list's operation); proofs name the events only. -/
import Derived.Laws.Externs
import Derived.Laws.RangeString
import Derived.Test.YtnecojeemmnnaaaGreatDoorSxA
set_option linter.unusedVariables false
set_option linter.unusedSimpArgs false
set_option linter.unnecessarySimpa false
namespace Go.SX
open Go
section
variable {P:Program} {n n0:Nat} {lz an:List Nat} {Q:QT} {fr:Fr} {st:St} {c:Code} {ops:Array Oper}
theorem XW.rounds'{x:Code}(k:Nat)(he:c= .loop x)(h:∀Q1:QT,(∀e f s,Q e f s→Q1 e f s)→XR P n n0 lz x Q1 k fr st):XW P n n0 lz c Q fr st:=
 XW.rounds k he (h Q (fun _ _ _ h=>h))
def BB(ts:List Nat)(fr:Fr):Fr:=ts.map fun t=>(t,lk fr t)
theorem JA.pick(fr:Fr):∀ts,JA fr (BB ts fr)
 |[]=>trivial
 |t::l=>⟨.rfl _,JA.pick fr l⟩
theorem bW.pick{fr':Fr}(ts:List Nat)(h:BB ts fr=fr'):bW n n0 lz fr st fr' st:=h▸bW.frame (JA.pick fr ts)
theorem bW.eq{fr':Fr}{st':St}(h:fr=fr')(k:st=st'):bW n n0 lz fr st fr' st':=by
 subst h;subst k
 exact fun ι w a hR hF=>⟨ι,hR,hF,.refl⟩
theorem bW.take{fr':Fr}(m:Nat)(hn:n0≤m)(hf:jb (fun id=>Nat.ble (id+1) m) fr=fr')(hi:dq (fun id=>Nat.ble (id+1) m) (st.take m)=true):bW n n0 lz fr st fr' (st.take m):=by
 subst hf
 intro ι w a hR hF
 have hs:s7 (fun id=>Nat.ble (id+1) m) st (st.take m):=by
  refine⟨fun id o h=> .inr ?_,fun id hq hid=> ?_⟩
  ·rw[List.getElem?_take]at h
   split at h
   ·rename_i hlt;exact⟨Nat.ble_eq_true_of_le hlt,h⟩
   ·cases h
  ·have:=n4 hq
   simp;omega
 obtain⟨r1,k1⟩:=hR.shrink hs hi
 refine⟨ι,r1,hF.keep k1 (q:=fun id=>Nat.ble (id+1) m) (fun _ h _=>h),k1.weaken (fun id h=> ?_)⟩
 have h1:nA n0 lz id=true:=h
 simp only[nA,fM]at h1
 have:=n4 h1.1
 exact Nat.ble_eq_true_of_le (by omega)
theorem bW.list{t sz:Nat}(h:lk fr t= .one (.pv (.s (.slice none 0 0)))):bW n n0 lz fr st ((t,.one (.sl st.length sz 0 0))::fr) (st++[.arr sz []]):=by
 intro ι w a hR hF
 obtain⟨a1,a2,a3⟩:=ue (ι:=ι) (w:=w) (st:=st) hR sz
 refine⟨_,a1,⟨hF.defers,hF.size,fun t'=> ?_⟩,a2.weaken (fun _ _=>trivial)⟩
 simp only[lk]
 cases hb:Nat.beq t t' with
 |true=>
  have:=kW hb
  subst this
  have:=hF.slot t
  rw[h]at this
  rw[bi this]
  exact .one _ _ a3
 |false=>exact(hF.slot t').mono' a2
theorem XO.sub{l:List Oper}{fr':Fr}{st':St}(hs:bW n n0 lz fr st fr' st')(h:XO P n n0 lz ops l Q fr' st'):XO P n n0 lz ops l Q fr st:=by
 intro ι w a hR hF
 obtain⟨ι',h1,h2,h3⟩:=hs ι w a hR hF
 exact di (fun e a w h=>h.trans h3) (h ι' w a h1 h2)
def gX:Code→Array Oper
 | .region _ ops _=>ops
 |_=> #[]
def oU:Code→Option Bool
 | .region _ _ d=>some d
 |_=>none
theorem XW.reg(he:oU c=some false)(h:XO P n n0 lz (gX c) (gX c).toList Q fr st):XW P n n0 lz c Q fr st:=by
 cases c<;>simp only[oU]at he<;>try (cases he;done)
 simp only[cA]at he
 subst he
 exact XO.region rfl h
theorem XO.steps{l:List Oper}(k:Nat){hs:HS}{r:ES}(h:mw P n n0 lz an ops (l.take k) fr st hs=some r)(hob:eH r.ob)(hk:XO P n n0 lz ops (l.drop k) Q r.fr r.st):XO P n n0 lz ops l Q fr st:=by
 have:=XO.run (rest:=l.drop k) h hob hk
 rwa [List.take_append_drop]at this
def iX(P:Program)(n:Nat)(ops:Array Oper)(l:List Oper)(fr:Fr):Option (Nat×List AV):=
 match l with
 |o::_=>match cI ops o fr with
  |some true=>qy P o fr
  |_=>none
 |[]=>none
def rM(n:Nat)(l:List Oper)(r:AV)(fr:Fr):Option Fr:=
 match l with
 |o::_=>qw n o.dst r fr
 |[]=>none
theorem XO.callp{l:List Oper}{g:Nat}{asv:List AV}{r:AV}{fr':Fr}(hc:iX P n ops l fr=some (g,asv))(h:PC P g asv r)(hp:jH asv=true)(hr:mm r=true)(hput:rM n l r fr=some fr')
  (hk:XO P n n0 lz ops (l.drop 1) Q fr' st):XO P n n0 lz ops l Q fr st:=by
 cases l with
 |nil=>simp[iX]at hc
 |cons o rest=>
  simp only[iX]at hc
  split at hc
  ·rename_i hg
   exact XO.call hg hc h hp hr hput (by simpa using hk)
  ·simp at hc
def GW(P:Program)(n:Nat)(st:St)(ops:Array Oper)(l:List Oper)(asv:List AV)(fr fr':Fr):Prop:=sa P n st ops l asv fr∧ls l asv fr=fr'
theorem GW.nil:GW P n st ops [] [] fr fr:=⟨trivial,rfl⟩
theorem GW.steps{l:List Oper}(k:Nat){as2:List AV}{fr':Fr}{hs:HS}{r:DS}(h:tB P n st ops (l.take k) fr hs=some r)(hob:eH r.ob)(hk:GW P n st ops (l.drop k) as2 r.fr fr'):GW P n st ops l (r.asv++as2) fr fr':=by
 have:=tN (rest:=l.drop k) (as2:=as2) h hob hk.1
 rw[List.take_append_drop]at this
 exact⟨this.1,this.2.trans hk.2⟩
def ld(P:Program)(n:Nat)(ops:Array Oper)(l:List Oper)(fr:Fr):Option (Nat×List AV):=
 match l with
 |o::_=>match cI ops o (cL ops o fr)with
  |some true=>bif (match o.dst with|some d=>Nat.ble (d+1) n|none=>true)then qy P o (cL ops o fr)else none
  |_=>none
 |[]=>none
def yQ(l:List Oper)(r:AV)(fr:Fr):Fr:=
 match l with
 |o::_=>oM o.dst r fr
 |[]=>fr
theorem GW.callp{l:List Oper}{g:Nat}{asv as2:List AV}{r:AV}{fr1 fr':Fr}(hc:ld P n ops l fr=some (g,asv))(h:PC P g asv r)(hp:jH asv=true)(hr:mm r=true)(hput:yQ l r fr=fr1)
  (hk:GW P n st ops (l.drop 1) as2 fr1 fr'):GW P n st ops l (r::as2) fr fr':=by
 cases l with
 |nil=>simp[ld]at hc
 |cons o rest=>
  simp only[ld]at hc
  split at hc
  ·rename_i hg
   cases hb:(match o.dst with|some d=>Nat.ble (d+1) n|none=>true)with
   |false=>simp[hb]at hc
   |true=>
    simp only[hb,cond_true]at hc
    simp only[yQ]at hput
    subst hput
    obtain⟨k1,k2⟩:=hk
    simp only[List.drop_succ_cons,List.drop_zero]at k1 k2
    refine⟨⟨⟨fun d hd=> ?_,.inl ⟨hg,Yd.call hc h hp hr⟩⟩,k1⟩,k2⟩
    rw[hd]at hb
    exact n4 hb
  ·simp at hc
def xq:List AV→List AV→Prop
 |[],[]=>True
 |a::l,b::m=>Jj a b∧xq l m
 |_,_=>False
theorem xq.get:∀{l m:List AV},xq l m→l.length=m.length∧∀(j:Nat) a b,l[j]? =some a→m[j]? =some b→Jj a b
 |[],[],_=>⟨rfl,fun j a b h=>by simp at h⟩
 |[],_::_,h=>h.elim
 |_::_,[],h=>h.elim
 |a::l,b::m,h=>by
  obtain⟨e1,e2⟩:=xq.get h.2
  refine⟨by simp[e1],fun j x y h1 h2=> ?_⟩
  cases j with
  |zero=>simp at h1 h2;subst h1;subst h2;exact h.1
  |succ j=>exact e2 j x y (by simpa using h1) (by simpa using h2)
theorem PC.le{g:Nat}{asv as':List AV}{r:AV}(h:PC P g asv r)(hl:xq as' asv):PC P g as' r:=by
 intro ι w vs hR hA
 obtain⟨e1,e2⟩:=hl.get
 refine h ι w vs hR ⟨hA.1.trans e1,fun j v a h1 h2=> ?_⟩
 have hlt:j<as'.length:=by rw[e1];exact(gN.1 h2).1
 exact(hA.2 j v _ h1 (gu hlt)).le (e2 j _ a (gu hlt) h2)
theorem wL.mk{fn:Func}{r:AV}{e:Exit}(he:e= .normal∨e= .ret){hs:HS}{asv:List AV}{ob:List Prop}(h:mR P fr st fn.results.toList hs=some (asv,ob))(hob:eH ob)(ha:AF st (fun _=>false) (pH asv) r):wL P fn r e fr st:=
 ⟨he,hs,asv,ob,h,hob,ha⟩
end
def aO:Nat:=1152921504606846976
end Go.SX
namespace Go.SX
open Go
def aK{α β:Type}(o:Option α)(f:α→Option β):Option β:=match o with
 |none=>none
 |some a=>f a
def eh{β:Type}(p:Prop)[Decidable p](x:Option β):Option β:=if p then x else none
theorem jV{α β:Type}{o:Option α}{f:α→Option β}{r:β}(h:aK o f=some r):∃a,o=some a∧f a=some r:=by
 cases o with
 |none=>cases h
 |some a=>exact⟨a,rfl,h⟩
theorem iq{β:Type}{p:Prop}[Decidable p]{x:Option β}{r:β}(h:eh p x=some r):p∧x=some r:=by
 unfold eh at h
 split at h
 ·rename_i hp;exact⟨hp,h⟩
 ·cases h
def aF{β:Type}(b:Bool)(x y:Option β):Option β:=match b with
 |true=>x
 |false=>y
theorem cK{α β:Type}{a:α}{f:α→Option β}:aK (some a) f=f a:=rfl
theorem rU{β:Type}{p:Prop}[Decidable p](hp:p)(x:Option β):eh p x=x:=by simp[eh,hp]
def at? {α:Type}(xs:List α)(i:Int):Option α:=if 0≤i then xs[i.toNat]? else none
theorem at?_some{α:Type}{xs:List α}{i:Int}{e:α}(h:at? xs i=some e):0≤i∧i<xs.length∧xs[i.toNat]? =some e:=by
 unfold at? at h
 split at h
 ·rename_i h0
  have:=(gN.1 h).1
  exact⟨h0,by omega,h⟩
 ·cases h
structure lD(α:Type) where
 sz:Nat
 cells:α→List PV
 els:List α→List (List PV)
 hels:∀xs,els xs=xs.map cells
 hsz:∀x,(cells x).length=sz
namespace lD
variable {α:Type} (E:lD α)
def of(sz:Nat)(cells:α→List PV)(h:∀x,(cells x).length=sz):lD α:=⟨sz,cells,fun xs=>xs.map cells,fun _=>rfl,h⟩
theorem len(xs:List α):(E.els xs).length=xs.length:=by simp[E.hels]
theorem ok(xs:List α):aT E.sz (E.els xs):=by
 intro e he
 rw[E.hels,List.mem_map]at he
 obtain⟨x,_,rfl⟩:=he
 exact E.hsz x
theorem get{xs:List α}{i:Int}{e:α}(h:at? xs i=some e):(E.els xs)[i.toNat]? =some (E.cells e):=by
 rw[E.hels,List.getElem?_map,(at?_some h).2.2];rfl
theorem inb{xs:List α}{i:Int}{e:α}(h:at? xs i=some e):0≤i∧i<((E.els xs).length:Int)∧aT E.sz (E.els xs):=
 ⟨(at?_some h).1,by rw[E.len];exact(at?_some h).2.1,E.ok xs⟩
theorem inb'{xs:List α}{i:Int}{e:α}(h:at? xs i=some e):0≤i∧i<(xs.length:Int):=⟨(at?_some h).1,(at?_some h).2.1⟩
theorem app(xs:List α)(e:α):E.els xs++[E.cells e]=E.els (xs++[e]):=by simp[E.hels]
theorem app2(xs ys:List α):E.els xs++E.els ys=E.els (xs++ys):=by simp[E.hels]
theorem cut(xs:List α)(l n:Nat):((E.els xs).drop l).take n=E.els ((xs.drop l).take n):=by simp[E.hels,List.map_drop,List.map_take]
theorem cutHi(xs:List α)(l:Nat):((E.els xs).drop l).take ((E.els xs).length-l)=E.els (xs.drop l):=by
 rw[E.hels,E.hels,List.take_of_length_le (by simp),List.map_drop]
theorem set(xs:List α)(i:Nat)(e:α):(E.els xs).set i (E.cells e)=E.els (xs.set i e):=by simp[E.hels,List.map_set]
theorem rep(n:Nat)(e:α):List.replicate n (E.cells e)=E.els (List.replicate n e):=by simp[E.hels]
theorem cutOk{xs:List α}{l h:Int}(g:0≤l∧l≤h∧h≤(xs.length:Int)):(0≤l∧l≤h∧h≤((E.els xs).length:Int))∧aT E.sz (E.els xs):=
 ⟨by rw[E.len];exact g,E.ok xs⟩
theorem cutHiOk{xs:List α}{l:Int}(g:0≤l∧l≤(xs.length:Int)):(0≤l∧l≤((E.els xs).length:Int)∧((E.els xs).length:Int)≤((E.els xs).length:Int))∧aT E.sz (E.els xs):=
 ⟨by rw[E.len];exact⟨g.1,g.2,Int.le_refl _⟩,E.ok xs⟩
theorem get0{xs:List α}{i:Int}{e:α}(h:at? xs i=some e):(E.els xs)[0+i.toNat]? =some (E.cells e):=by
 rw[Nat.zero_add];exact E.get h
theorem set0(xs:List α)(i:Nat)(e:α):(E.els xs).set (0+i) (E.cells e)=E.els (xs.set i e):=by
 rw[Nat.zero_add];exact E.set xs i e
theorem lapp(xs ys:List α):xs.length+(E.els ys).length=(xs++ys).length:=by simp[E.len]
theorem one(e:α):aT E.sz [E.cells e]:=by
 intro x hx
 simp at hx
 subst hx
 exact E.hsz e
end lD
def eI:lD Int:= .of 1 (fun x=>[pi x]) (fun _=>rfl)
def eB:lD Bool:= .of 1 (fun x=>[.s (.bool x)]) (fun _=>rfl)
def eL{α:Type}(E:lD α):lD (List α):= .of 1 (fun x=>[.ro (E.els x)]) (fun _=>rfl)
abbrev vl{α:Type}(E:lD α)(xs:List α):AV:= .one (.pv (.ro (E.els xs)))
abbrev cl{α:Type}(E:lD α)(xs:List α):CV:= .pv (.ro (E.els xs))
abbrev ci(n:Int):CV:= .pv (.s (.int .i64 n))
abbrev cb(b:Bool):CV:= .pv (.s (.bool b))
abbrev lL(s:ByteArray):CV:= .pv (.s (.string s))
abbrev vk(k:IntKind)(n:Int):AV:= .one (.pv (.s (.int k n)))
abbrev ck(k:IntKind)(n:Int):CV:= .pv (.s (.int k n))
section
variable {P:Program} {n n0:Nat} {lz an:List Nat} {Q:QT} {fr:Fr} {st:St} {c:Code} {ops:Array Oper}
def tF(ts:List Nat)(o:Option ES):Option (Exit×Fr×St×List Prop):=o.map fun r=>(r.ex,BB ts r.fr,r.st,r.ob)
theorem Ga{ts:List Nat}{o:Option ES}{e:Exit}{fr':Fr}{st':St}{ob:List Prop}(h:tF ts o=some (e,fr',st',ob)):∃r,o=some r∧r.ex=e∧BB ts r.fr=fr'∧r.st=st'∧r.ob=ob:=by
 cases o with
 |none=>cases h
 |some r=>
  simp only[tF,Option.map_some,cA,ku]at h
  exact⟨r,rfl,h.1,h.2.1,h.2.2.1,h.2.2.2⟩
theorem XO.go{l:List Oper}(an:List Nat)(k:Nat)(ts:List Nat)(hs:HS)(fr':Fr)(st':St)(ob:List Prop)(h:tF ts (mw P n n0 lz an ops (l.take k) fr st hs)=some (.normal,fr',st',ob))(hob:eH ob)
  (hk:XO P n n0 lz ops (l.drop k) Q fr' st'):XO P n n0 lz ops l Q fr st:=by
 obtain⟨r,h1,h2,h3,h4,h5⟩:=Ga h
 subst h3;subst h4;subst h5
 exact XO.steps k h1 hob (XO.sub (bW.pick ts rfl) hk)
theorem XO.done{l:List Oper}(he:l=[])(h:Q .normal fr st):XO P n n0 lz ops l Q fr st:=by
 subst he;exact XO.nil h
theorem XO.setb{l:List Oper}(t:Nat){B:Bool}(b:Bool)(hl:lk fr t=vb B)(hB:B=b)(h:XO P n n0 lz ops l Q ((t,vb b)::fr) st):XO P n n0 lz ops l Q fr st:=by
 subst hB
 refine XO.sub (fr':=(t,vb B)::fr) (fun ι w a hR hF=>⟨ι,hR,⟨hF.defers,hF.size,fun t'=> ?_⟩,.refl⟩) h
 simp only[lk]
 cases hb:Nat.beq t t' with
 |true=>
  have:=kW hb
  subst this
  rw[cond_true,←hl]
  exact hF.slot t
 |false=>exact hF.slot t'
def DX(P:Program)(n:Nat)(st:St)(ops:Array Oper)(l:List Oper)(fr fr':Fr):Prop:=∃asv,GW P n st ops l asv fr fr'
def Bo(o:Option DS):Option (Fr×List Prop):=o.map fun r=>(r.fr,r.ob)
theorem DX.go{l:List Oper}{fr2:Fr}(k:Nat)(hs:HS)(fr':Fr)(ob:List Prop)(h:Bo (tB P n st ops (l.take k) fr hs)=some (fr',ob))(hob:eH ob)(hk:DX P n st ops (l.drop k) fr' fr2):DX P n st ops l fr fr2:=by
 cases ho:tB P n st ops (l.take k) fr hs with
 |none=>rw[ho]at h;cases h
 |some r=>
  rw[ho]at h
  simp only[Bo,Option.map_some,cA,ku]at h
  obtain⟨h1,h2⟩:=h
  subst h1;subst h2
  obtain⟨asv,hk⟩:=hk
  exact⟨_,GW.steps k ho hob hk⟩
theorem DX.callp{l:List Oper}{g:Nat}{asv:List AV}{r:AV}{fr1 fr2:Fr}(hc:ld P n ops l fr=some (g,asv))(h:PC P g asv r)(hp:jH asv=true)(hr:mm r=true)(hput:yQ l r fr=fr1)
  (hk:DX P n st ops (l.drop 1) fr1 fr2):DX P n st ops l fr fr2:=by
 obtain⟨as2,hk⟩:=hk
 exact⟨_,GW.callp hc h hp hr hput hk⟩
theorem DX.eq{l:List Oper}{fr1 fr2:Fr}(he:fr=fr1)(h:DX P n st ops l fr1 fr2):DX P n st ops l fr fr2:=he▸h
theorem DX.done{l:List Oper}(he:l=[]):DX P n st ops l fr fr:=by subst he;exact⟨_,GW.nil⟩
theorem kT{α:Type}(E:lD α){q:Nat→Bool}{id sz len:Nat}(xs:List α)(h:st[id]? =some (.arr sz (E.els xs)))(hq:q id=false)(hl:len=xs.length):CF st q (.sl id sz 0 len) (.pv (.ro (E.els xs))):=
 .sl h hq (by rw[E.len];omega) (by rw[List.drop_zero,List.take_of_length_le];rw[E.len];omega)
def M8(st:St)(q:Nat→Bool)(fr:Fr):Fr→Prop
 |[]=>True
 |(t,av)::l=>AF st q (lk fr t) av∧M8 st q fr l
theorem M8.get{q:Nat→Bool}:∀{fr':Fr},M8 st q fr fr'→∀t,AF st q (lk fr t) (lk fr' t)
 |[],_,t=> .j _
 |(d,av)::l,h,t=>by
  simp only[lk]
  cases hb:Nat.beq d t with
  |true=>have:=kW hb;subst this;exact h.1
  |false=>exact M8.get h.2 t
theorem bW.kill{fr':Fr}(id:Nat)(hn:n0≤id)(hi:dq (fun i=> !Nat.beq i id) (st.set id .dead)=true)(hf:M8 st (fun i=> !Nat.beq i id) fr fr'):bW n n0 lz fr st fr' (st.set id .dead):=by
 intro ι w a hR hF
 have hs:s7 (fun i=> !Nat.beq i id) st (st.set id .dead):=by
  refine⟨fun i o h=> ?_,fun i hq hi=>by simpa using hi⟩
  rw[List.getElem?_set]at h
  split at h
  ·split at h
   ·cases h;exact .inl rfl
   ·cases h
  ·rename_i hne
   refine .inr ⟨?_,h⟩
   cases hb:Nat.beq i id with
   |false=>rfl
   |true=>exact absurd (kW hb).symm hne
 obtain⟨r1,k1⟩:=hR.shrink hs hi
 refine⟨ι,r1,⟨hF.defers,hF.size,fun t=>(hF.slot t).fz hR hs hi (hf.get t)⟩,k1.weaken (fun i h=> ?_)⟩
 have h1:nA n0 lz i=true:=h
 simp only[nA,fM]at h1
 have:=n4 h1.1
 have hne:¬i=id:=by omega
 show(!Nat.beq i id)=true
 cases hb:Nat.beq i id with
 |false=>rfl
 |true=>exact absurd (kW hb) hne
theorem wL.fin{fn:Func}{r:AV}{e:Exit}(he:e= .normal∨e= .ret)(hs:HS)(avs:List AV)(ob:List Prop)(h:mR P fr st fn.results.toList hs=some (avs,ob))(hob:eH ob)(ha:AF st (fun _=>false) (pH avs) r):wL P fn r e fr st:=
 wL.mk he h hob ha
theorem DX.cal{l:List Oper}{fr2:Fr}(g:Nat)(avs:List AV)(r:AV)(fr1:Fr)(hc:ld P n ops l fr=some (g,avs))(h:PC P g avs r)(hp:jH avs=true)(hr:mm r=true)(hput:yQ l r fr=fr1)
 (hk:DX P n st ops (l.drop 1) fr1 fr2):DX P n st ops l fr fr2:=DX.callp hc h hp hr hput hk
end
end Go.SX
namespace Go.SX
open Go
def MC(P:Program)(f:Nat)(args:List AV)(sc:St)(r:AV)(sc':St):Prop:=AC P f args sc [] fun av s=>av=r∧s=sc'
def vO(ρ:Nat→Nat):CV→CV
 | .pv p=> .pv p
 | .pt id sz i off=> .pt (ρ id) sz i off
 | .mp id=> .mp (ρ id)
 | .cl els=> .cl els
 | .sl id sz off len=> .sl (ρ id) sz off len
 | .fn f caps=> .fn f (go caps)
 where
 go:List CV→List CV
  |[]=>[]
  |c::l=>vO ρ c::go l
def nP(ρ:Nat→Nat):AV→AV
 | .j=> .j
 | .one c=> .one (vO ρ c)
 | .ag cs=> .ag (cs.map (vO ρ))
 | .tp vs=> .tp (go vs)
 where
 go:List AV→List AV
  |[]=>[]
  |a::l=>nP ρ a::go l
def my(ρ:Nat→Nat):aV→aV
 | .dead=> .dead
 | .box cells=> .box (cells.map (vO ρ))
 | .arr sz els=> .arr sz els
 | .rel R ps=> .rel R ps
 | .win sz i pre mid post=> .win sz i pre (mid.map (vO ρ)) post
theorem Iz{ρ:Nat→Nat}(l:List PV):(l.map CV.pv).map (vO ρ)=l.map CV.pv:=by
 rw[List.map_map];rfl
theorem D9{ρ:Nat→Nat}{pre post:List PV}{mid:List CV}:(pre.map CV.pv++(mid++post.map CV.pv)).map (vO ρ)=pre.map CV.pv++(mid.map (vO ρ)++post.map CV.pv):=by
 rw[List.map_append,List.map_append,Iz,Iz]
theorem gI{ρ:Nat→Nat}{o:aV}:(my ρ o).alive↔o.alive:=by
 cases o<;>simp[my,aV.alive]
theorem Bq{ρ:Nat→Nat}:∀l:List CV,vO.go ρ l=l.map (vO ρ)
 |[]=>rfl
 |c::l=>by simp[vO.go,Bq l]
theorem Bm{ρ:Nat→Nat}:∀l:List AV,nP.go ρ l=l.map (nP ρ)
 |[]=>rfl
 |c::l=>by simp[nP.go,Bm l]
theorem bX.ren{ρ:Nat→Nat}{ι ι':IM}{w:World}{st st':St}(hm:∀b,fK ι' st' b→fK ι st b)(hl:∀i,i<st.length→ρ i<st'.length∧ι' (ρ i)=ι i){v:Value}{c:CV}(h:bX ι w st v c):bX ι' w st' v (vO ρ c):=by
 induction h with
 |pv v p h=>exact .pv v p (h.mono (eo _) (fun b _ hb=>⟨rfl,fun h'=>hb (hm b h')⟩))
 |pt id sz i off b hid hb=>exact .pt _ sz i off b (hl id hid).1 ((hl id hid).2.trans hb)
 |sl id sz off len b cap hid hb hcap hc=>exact .sl _ sz off len b cap (hl id hid).1 ((hl id hid).2.trans hb) hcap hc
 |sn id sz hid hb=>exact .sn _ sz (hl id hid).1 ((hl id hid).2.trans hb)
 |mp id b hid hb=>exact .mp _ b (hl id hid).1 ((hl id hid).2.trans hb)
 |cl v els h hc=>exact .cl v els (h.mono (eo _) (fun b _ hb=>⟨rfl,fun h'=>hb (hm b h')⟩)) hc
 |fn f caps vs hlen hv ih=>
  simp only[vO,Bq]
  refine .fn f _ vs (by simpa using hlen) (fun j c v h1 h2=> ?_)
  rw[List.getElem?_map,mE]at h1
  obtain⟨c',h1,rfl⟩:=h1
  exact ih j c' v h1 h2
theorem dv.ren{ρ:Nat→Nat}{ι ι':IM}{w:World}{st st':St}(hm:∀b,fK ι' st' b→fK ι st b)(hl:∀i,i<st.length→ρ i<st'.length∧ι' (ρ i)=ι i){vs:List Value}{cs:List CV}(h:dv ι w st vs cs):dv ι' w st' vs (cs.map (vO ρ)):=by
 refine⟨by simpa using h.1,fun j v c h1 h2=> ?_⟩
 rw[List.getElem?_map,mE]at h2
 obtain⟨c',h2,rfl⟩:=h2
 exact(h.2 j v c' h1 h2).ren hm hl
theorem aN.ren{ρ:Nat→Nat}{ι ι':IM}{w:World}{st st':St}(hm:∀b,fK ι' st' b→fK ι st b)(hl:∀i,i<st.length→ρ i<st'.length∧ι' (ρ i)=ι i){v:Value}{a:AV}(h:aN ι w st v a):aN ι' w st' v (nP ρ a):=by
 induction h with
 |j v=>exact .j v
 |one v c h=>exact .one _ _ (h.ren hm hl)
 |ag vs cs h=>exact .ag _ _ (h.ren hm hl)
 |tp vs asv hlen h ih=>
  simp only[nP,Bm]
  refine .tp vs _ (by simpa using hlen) (fun j v a h1 h2=> ?_)
  rw[List.getElem?_map,mE]at h2
  obtain⟨a',h2,rfl⟩:=h2
  exact ih j v a' h1 h2
theorem bX.unren{ρ:Nat→Nat}{q:Nat→Bool}{ι ι':IM}{w:World}{st st':St}(hm:∀b,fK ι' st' b→fK ι st b)(hl:∀i,q i=true→i<st'.length∧ι' i=ι (ρ i)):
  ∀(c:CV) (v:Value),kQ q c=true→bX ι w st v (vO ρ c)→bX ι' w st' v c
 | .pv p,v,_,h=>by
  cases h with
  |pv _ _ h=>exact .pv v p (h.mono (eo _) (fun b _ hb=>⟨rfl,fun h'=>hb (hm b h')⟩))
 | .pt id sz i off,v,hi,h=>by
  simp only[vO]at h
  cases h with
  |pt _ _ _ _ b hid hb=>exact .pt id sz i off b (hl id hi).1 ((hl id hi).2.trans hb)
 | .sl id sz off len,v,hi,h=>by
  simp only[vO]at h
  cases h with
  |sl _ _ _ _ b cap hid hb hcap hc=>exact .sl id sz off len b cap (hl id hi).1 ((hl id hi).2.trans hb) hcap hc
  |sn _ _ hid hb=>exact .sn id sz (hl id hi).1 ((hl id hi).2.trans hb)
 | .mp id,v,hi,h=>by
  simp only[vO]at h
  cases h with
  |mp _ b hid hb=>exact .mp id b (hl id hi).1 ((hl id hi).2.trans hb)
 | .cl els,v,hi,h=>by
  simp only[vO]at h
  cases h with
  |cl _ _ h hc=>exact .cl v els (h.mono (eo _) (fun b _ hb=>⟨rfl,fun h'=>hb (hm b h')⟩)) hc
 | .fn f caps,v,hi,h=>by
  simp only[vO,Bq]at h
  cases h with
  |fn _ _ vs hlen hv=>
   simp only[kQ]at hi
   refine .fn f caps vs (by simpa using hlen) (fun j c v h1 h2=> ?_)
   have hmem:c∈caps:=List.mem_of_getElem? h1
   exact bX.unren hm hl c v (tZ hi j c h1) (hv j _ v (by rw[List.getElem?_map,h1];rfl) h2)
theorem dv.unren{ρ:Nat→Nat}{q:Nat→Bool}{ι ι':IM}{w:World}{st st':St}(hm:∀b,fK ι' st' b→fK ι st b)(hl:∀i,q i=true→i<st'.length∧ι' i=ι (ρ i)){vs:List Value}{cs:List CV}(hi:nE q cs=true)
  (h:dv ι w st vs (cs.map (vO ρ))):dv ι' w st' vs cs:=by
 refine⟨by simpa using h.1,fun j v c h1 h2=> ?_⟩
 exact bX.unren hm hl c v (qR hi j c h2) (h.2 j v _ h1 (by rw[List.getElem?_map,h2];rfl))
theorem aN.unren{ρ:Nat→Nat}{q:Nat→Bool}{ι ι':IM}{w:World}{st st':St}(hm:∀b,fK ι' st' b→fK ι st b)(hl:∀i,q i=true→i<st'.length∧ι' i=ι (ρ i)):
  ∀(a:AV) (v:Value),cU q a=true→aN ι w st v (nP ρ a)→aN ι' w st' v a
 | .j,v,_,_=> .j v
 | .one c,v,hi,h=>by
  cases h with
  |one _ _ h=>exact .one _ _ (bX.unren hm hl c v hi h)
 | .ag cs,v,hi,h=>by
  simp only[nP]at h
  cases h with
  |ag vs _ h=>exact .ag vs cs (dv.unren hm hl hi h)
 | .tp asv,v,hi,h=>by
  simp only[nP,Bm]at h
  cases h with
  |tp vs _ hlen hv=>
   simp only[cU]at hi
   refine .tp vs asv (by simpa using hlen) (fun j v a h1 h2=> ?_)
   have hmem:a∈asv:=List.mem_of_getElem? h2
   exact aN.unren hm hl a v (u4 hi j a h2) (hv j v _ h1 (by rw[List.getElem?_map,h2];rfl))
def en:St→List Nat→List aV→St
 |st,r::rs,b::bs=>en (st.set r b) rs bs
 |st,_,_=>st
theorem io:∀(rs:List Nat) (bs:List aV) (st:St),(en st rs bs).length=st.length
 |[],_,_=>by simp[en]
 |_::_,[],_=>by simp[en]
 |r::rs,b::bs,st=>by rw[en,io rs bs];simp
theorem n9{id:Nat}:∀(rs:List Nat) (bs:List aV) (st:St),id∉rs→(en st rs bs)[id]? =st[id]?
 |[],_,_,_=>by simp[en]
 |_::_,[],_,_=>by simp[en]
 |r::rs,b::bs,st,h=>by
  simp only[List.mem_cons,not_or]at h
  rw[en,n9 rs bs _ h.2,List.getElem?_set,if_neg (fun e=>h.1 e.symm)]
theorem sC{id:Nat}{b:aV}:∀(rs:List Nat) (bs:List aV) (st:St) (i:Nat),rs.Nodup→rs[i]? =some id→bs[i]? =some b→id<st.length→(en st rs bs)[id]? =some b
 |[],_,_,_,_,h,_,_=>by simp at h
 |_::_,[],_,_,_,_,h,_=>by simp at h
 |r::rs,b'::bs,st,i,hn,h1,h2,hid=>by
  rw[List.nodup_cons]at hn
  rw[en]
  cases i with
  |zero=>
   simp at h1 h2
   subst h1;subst h2
   rw[n9 rs bs _ hn.1,List.getElem?_set,if_pos rfl,if_pos hid]
  |succ i=>exact sC rs bs _ i hn.2 (by simpa using h1) (by simpa using h2) (by simpa using hid)
def ia(rs:List Nat)(m:Nat)(i:Nat):Nat:=match rs[i]? with
 |some x=>x
 |none=>m+(i-rs.length)
def xL(m:Nat):List Nat→Bool
 |[]=>true
 |r::l=>Nat.ble (r+1) m&&xL m l
theorem zL{m:Nat}:∀{l:List Nat},xL m l=true→∀(i r:Nat),l[i]? =some r→r<m
 |[],_,i,r,h=>by simp at h
 |x::l,h,i,r,hi=>by
  simp only[xL,fM]at h
  cases i with
  |zero=>simp at hi;subst hi;exact n4 h.1
  |succ i=>exact zL h.2 i r (by simpa using hi)
variable {P:Program}
end Go.SX
namespace Go.SX
open Go
section
variable {P:Program} {n n0:Nat} {lz:List Nat} {Q:QT} {fr:Fr} {st:St} {c:Code} {ops:Array Oper}
def wD(ops:Array Oper)(m:Nat):Bool:=Nat.ble m ops.size&&(List.range ops.size).all fun j=>Nat.blt j m||(List.range j).all fun i=>((sY ops.toList []).getD j 0).testBit i
theorem Bj{Q:Exit→Act→World→Prop}{m:Nat}(hfull:∀j,m≤j→j<ops.size→∀i,i<j→kw ops i j)(hback:∀(j:Nat) o,ops[j]? =some o→∀e∈o.after,Region.binds .any e=true→e.on<j):
  ∀(aX:Nat) (k:Nat) (listed:Array Bool) (a:Act) (w:World),m≤k→k≤ops.size→listed.size=ops.size→(∀j,j<ops.size→(listed.getD j false=true↔j<k))→ops.size≤k+aX→wpList P ops Q (ops.toList.drop k) a w→wpAny P .any ops Q aX listed a w:=by
 intro aX
 induction aX with
 |zero=>
  intro k listed a w hmk hk hls hl hf hw
  have:k=ops.size:=by omega
  subst this
  rw[List.drop_of_length_le (by simp)]at hw
  refine⟨?_,hw⟩
  unfold Region.ready
  rw[List.filter_eq_nil_iff]
  intro j hj
  have hj':=List.mem_range.1 hj
  have h1:=(hl j hj').2 hj'
  have:listed.getD j true=true:=by
   simp[Array.getD,hls,hj']at h1⊢;exact h1
  simp[this]
 |succ aX ih=>
  intro k listed a w hmk hk hls hl hf hw
  have hrd:∀i,i∈Region.ready .any ops listed↔(i=k∧k<ops.size):=by
   intro i
   unfold Region.ready
   rw[List.mem_filter,List.mem_range]
   constructor
   ·rintro⟨hi,hr⟩
    have ho:ops[i]? =some ops[i]:=Array.getElem?_eq_getElem hi
    rw[ho]at hr
    simp only[Option.map_some,Option.getD_some,fM]at hr
    have hnl:¬i<k:=by
     intro h
     have h1:=(hl i hi).2 h
     have:=hr.1
     simp[Array.getD,hls,hi]at h1 this
     rw[h1]at this;cases this
    have hpred:∀e∈ops[i].after,Region.binds .any e=true→listed.getD e.on false=true:=by
     intro e he hb
     have:=Array.all_eq_true_iff_forall_mem.1 hr.2 e he
     simpa [hb]using this
    refine⟨?_,by omega⟩
    apply Classical.byContradiction
    intro hne
    have hki:k<i:=by omega
    have key:∀p q,kw ops p q→q<k→p<k:=by
     intro p q hb
     induction hb with
     |one ho' he hb h=>intro hq;subst h;exact Nat.lt_trans (hback _ _ ho' _ he hb) hq
     |more ho' he hb h ihb=>intro hq;exact ihb (Nat.lt_trans (hback _ _ ho' _ he hb) hq)
    have:=hfull i (by omega) hi k hki
    cases this with
    |one ho' he hb h=>
     rw[ho]at ho';cases ho'
     have h2:=hpred _ he hb
     rw[h]at h2
     exact absurd ((hl k (by omega)).1 h2) (Nat.lt_irrefl k)
    |more ho' he hb h=>
     rw[ho]at ho';cases ho'
     have h2:=hpred _ he hb
     have h3:=hback _ _ ho _ he hb
     have:=key _ _ h ((hl _ (by omega)).1 h2)
     omega
   ·rintro⟨rfl,hlt⟩
    refine⟨hlt,?_⟩
    have ho:ops[i]? =some ops[i]:=Array.getElem?_eq_getElem hlt
    have h1:listed.getD i true=false:=by
     have:¬listed.getD i false=true:=fun h=>Nat.lt_irrefl _ ((hl i hlt).1 h)
     simp[Array.getD,hls,hlt]at this⊢
     exact this
    rw[h1,ho]
    simp only[Bool.not_false,Bool.true_and,Option.map_some,Option.getD_some]
    rw[Array.all_eq_true_iff_forall_mem]
    intro e he
    cases hb:Region.binds .any e with
    |false=>rfl
    |true=>
     have:=hback _ _ ho e he hb
     rw[(hl e.on (by omega)).2 this];simp
  refine⟨fun hready=> ?_,fun i hi=> ?_⟩
  ·have:k=ops.size:=by
    apply Classical.byContradiction
    intro h
    have:=(hrd k).2 ⟨rfl,by omega⟩
    rw[hready]at this
    cases this
   subst this
   rw[List.drop_of_length_le (by simp)]at hw
   exact hw
  ·obtain⟨rfl,hlt⟩:=(hrd i).1 hi
   have ho:ops[i]? =some ops[i]:=Array.getElem?_eq_getElem hlt
   have hd:ops.toList.drop i=ops[i]::ops.toList.drop (i+1):=by
    have:i<ops.toList.length:=by simpa using hlt
    rw[List.drop_eq_getElem_cons this];simp
   rw[hd]at hw
   have next:∀a' w',wpList P ops Q (ops.toList.drop (i+1)) a' w'→wpAny P .any ops Q aX (listed.setIfInBounds i true) a' w':=by
    intro a' w' h'
    refine ih (i+1) _ a' w' (by omega) (by omega) (by simpa using hls) (fun j hj=> ?_) (by omega) h'
    by_cases e:j=i
    ·subst e;simp[Array.getD,hls,hj]
    ·have:(listed.setIfInBounds i true).getD j false=listed.getD j false:=by
      simp[Array.getD,hls,hj,Array.getElem_setIfInBounds_ne,Ne.symm e]
     rw[this,hl j hj];omega
   refine wpOp_mono next ?_
   unfold wpOp
   rw[ho]
   exact hw
theorem yM{m:Nat}:∀N,m≤N→((List.range N).filter fun j=> !decide (j<m)).length=N-m
 |0,h=>by simp
 |N+1,h=>by
  rw[List.range_succ,List.filter_append,List.length_append]
  by_cases e:m=N+1
  ·subst e
   have:((List.range N).filter fun j=> !decide (j<N+1))=[]:=by
    rw[List.filter_eq_nil_iff];intro j hj;have:=List.mem_range.1 hj;simp;omega
   rw[this];simp
  ·rw[yM N (by omega)]
   have:¬N<m:=by omega
   simp[this];omega
theorem XW.drawS{id:Nat}{asv:List AV}(m:Nat)(he:c= .region id ops true)(hm:P.follows .mixedOrders=true)(hok:(v8 ops&&wD ops m)=true)
  (hs:sa P n st ops (ops.toList.take m) asv fr)(hQ:XO P n n0 lz ops (ops.toList.drop m) Q (ls (ops.toList.take m) asv fr) st):XW P n n0 lz c Q fr st:=by
 subst he
 simp only[fM]at hok
 obtain⟨hok,hsuf⟩:=hok
 unfold wD at hsuf
 simp only[fM]at hsuf
 obtain⟨hmN0,hsuf⟩:=hsuf
 have hmN:=n4 hmN0
 have hfull0:∀j,m≤j→j<ops.size→∀i,i<j→((sY ops.toList []).getD j 0).testBit i=true:=by
  intro j h1 h2 i h3
  have:=List.all_eq_true.1 hsuf j (List.mem_range.2 h2)
  rw[Bool.or_eq_true]at this
  rcases this with h|h
  ·rw[Nat.blt_eq]at h;omega
  ·exact List.all_eq_true.1 h i (List.mem_range.2 h3)
 obtain⟨hlen,hstep⟩:=we hs
 have hms:=rL (ops:=ops) (l:=ops.toList) (ms:=[]) (pre:=[]) (by simp) rfl (fun i j h=>by simp at h)
 have hord:=wa (ops:=ops) (ms:=sY ops.toList []) (l:=ops.toList) (pre:=[]) (j:=0) rfl hok
 let dst:Nat→Option Nat:=fun i=>(ops[i]?).bind (·.dst)
 let av:Nat→AV:=fun i=>asv.getD i .j
 have hdst:∀i o,ops.toList[i]? =some o→dst i=o.dst:=by
  intro i o h
  simp only[Array.getElem?_toList]at h
  simp[dst,h]
 have hav:∀i a,asv[i]? =some a→av i=a:=by
  intro i a h
  simp[av,List.getD,h]
 have hfull:∀j,m≤j→j<ops.size→∀i,i<j→kw ops i j:=fun j h1 h2 i h3=>hms i j (by simpa using hfull0 j h1 h2 i h3)
 have hback:∀(j:Nat) o,ops[j]? =some o→∀e∈o.after,Region.binds .any e=true→e.on<j:=fun j o ho e he hb=>by
  have:=(hord j o (by simpa using ho)).1 e he hb
  omega
 have hT:∀i,i≤m→∀t,lk (ls ((ops.toList.take m).take i) (asv.take i) fr) t=gD (lk fr) dst av (fun _=>true) i t:=by
  intro i hi t
  have:=zA ((ops.toList.take m).take i) (asv.take i) fr t (lk fr) 0 dst av (by simp only[List.length_take]at hlen⊢;omega)
   (fun k o hk=>by
    rw[List.getElem?_take]at hk
    split at hk
    ·rw[List.getElem?_take]at hk
     split at hk
     ·simpa using hdst k o hk
     ·cases hk
    ·cases hk)
   (fun k a hk=>by
    rw[List.getElem?_take]at hk
    split at hk
    ·simpa using hav k a hk
    ·cases hk) rfl
  have hl:((ops.toList.take m).take i).length=i:=by simp;omega
  rw[hl,Nat.zero_add]at this
  exact this
 intro ι w a hR hF
 refine wp_region_any hm ?_
 have atM:∀(listed:Array Bool) (ι':IM) (w':World) (a':Act),(∀j,j<m→listed.getD j false=true)→eu ι' w' st→wv n ι' w' st a' (gD (lk fr) dst av (fun j=>listed.getD j false) m)→bo all ι w st ι' w' st→
   wpList P ops (mI n n0 lz ι w st Q) (ops.toList.drop m) a' w':=by
  intro listed ι' w' a' hall hR' hF' hk
  have hFm:fU n ι' w' st a' (ls (ops.toList.take m) asv fr):=by
   refine⟨hF'.defers,hF'.size,fun t=> ?_⟩
   have h1:=hT m (eo _) t
   rw[List.take_of_length_le (l:=ops.toList.take m) (by simp;omega),List.take_of_length_le (l:=asv) (by rw[←hlen];simp;omega)]at h1
   rw[h1,wZ (E:=fun j=>listed.getD j false) (fun j hj _=>(hall j hj).symm)]
   exact hF'.slot t
  exact di (fun e a w h=>h.trans (hk.weaken (fun _ _=>trivial))) (hQ ι' w' a' hR' hFm)
 have fin:∀{listed:Array Bool} (ι':IM) (w':World) (a':Act),(∀j,j<m→listed.getD j false=true)→eu ι' w' st→wv n ι' w' st a' (gD (lk fr) dst av (fun j=>listed.getD j false) m)→bo all ι w st ι' w' st→
   ops.toList.drop m=[]→mI n n0 lz ι w st Q .normal a' w':=by
  intro listed ι' w' a' hall hR' hF' hk he
  have:=atM listed ι' w' a' hall hR' hF' hk
  rw[he]at this
  exact this
 have key:∀(aX:Nat) (listed:Array Bool) (ι':IM) (w':World) (a':Act),listed.size=ops.size→
   (∀j o,ops[j]? =some o→listed.getD j false=true→∀e∈o.after,Region.binds .any e=true→listed.getD e.on false=true)→
   ((List.range ops.size).filter fun j=> !listed.getD j false).length≤aX→
   (∀j,m≤j→listed.getD j false=false)→eu ι' w' st→wv n ι' w' st a' (gD (lk fr) dst av (fun j=>listed.getD j false) m)→bo all ι w st ι' w' st→
   wpAny P .any ops (mI n n0 lz ι w st Q) aX listed a' w':=by
  intro aX
  induction aX with
  |zero=>
   intro listed ι' w' a' hls hcl hcnt hlow hR' hF' hk
   have hall:∀j,j<ops.size→listed.getD j false=true:=by
    intro j hj
    cases hq:listed.getD j false with
    |true=>rfl
    |false=>
     have:j∈(List.range ops.size).filter fun j=> !listed.getD j false:=by
      rw[List.mem_filter];exact⟨List.mem_range.2 hj,by simp only[hq];rfl⟩
     have:=List.length_pos_of_mem this
     omega
   have hready:Region.ready .any ops listed=[]:=by
    unfold Region.ready
    rw[List.filter_eq_nil_iff]
    intro j hj
    have hj':=List.mem_range.1 hj
    have:listed.getD j true=true:=by
     have h1:=hall j hj'
     simp[Array.getD,hls,hj']at h1⊢
     exact h1
    simp only[this]
    simp
   refine⟨hready,?_⟩
   have hmE:m=ops.size:=by
    apply Classical.byContradiction
    intro h
    have h1:=hall m (by omega)
    rw[hlow m (eo _)]at h1
    cases h1
   exact fin ι' w' a' (fun j hj=>hall j (by omega)) hR' hF' hk (by rw[hmE];simp)
  |succ aX ih=>
   intro listed ι' w' a' hls hcl hcnt hlow hR' hF' hk
   refine⟨fun hready=> ?_,fun i hi=> ?_⟩
   ·
    have hall:∀j,j<ops.size→listed.getD j false=true:=by
     intro j
     induction j using Nat.strongRecOn with
     |_ j ihj=>
      intro hj
      cases hq:listed.getD j false with
      |true=>rfl
      |false=>
       exfalso
       have hmem:j∈Region.ready .any ops listed:=by
        unfold Region.ready
        rw[List.mem_filter]
        refine⟨List.mem_range.2 hj,?_⟩
        have ho:ops[j]? =some ops[j]:=Array.getElem?_eq_getElem hj
        have h1:listed.getD j true=false:=by
         simp[Array.getD,hls,hj]at hq⊢
         exact hq
        rw[h1,ho]
        simp only[Bool.not_false,Bool.true_and,Option.map_some,Option.getD_some]
        rw[Array.all_eq_true_iff_forall_mem]
        intro e he
        cases hb:Region.binds .any e with
        |false=>rfl
        |true=>
         have hlt:e.on<j:=by
          have:=(hord j ops[j] (by simp[hj])).1 e he hb
          omega
         rw[ihj e.on hlt (by omega)]
         simp
       rw[hready]at hmem
       cases hmem
    have hmE:m=ops.size:=by
     apply Classical.byContradiction
     intro h
     have h1:=hall m (by omega)
     rw[hlow m (eo _)]at h1
     cases h1
    exact fin ι' w' a' (fun j hj=>hall j (by omega)) hR' hF' hk (by rw[hmE];simp)
   ·
    have hi0:=hi
    unfold Region.ready at hi
    rw[List.mem_filter]at hi
    obtain⟨hi1,hi2⟩:=hi
    have hiN:=List.mem_range.1 hi1
    have ho:ops[i]? =some ops[i]:=Array.getElem?_eq_getElem hiN
    rw[ho]at hi2
    simp only[Option.map_some,Option.getD_some,fM]at hi2
    have hnl:listed.getD i false=false:=by
     have:=hi2.1
     simp[Array.getD,hls,hiN]at this⊢
     exact this
    have hpred:∀e∈ops[i].after,Region.binds .any e=true→listed.getD e.on false=true:=by
     intro e he hb
     have:=Array.all_eq_true_iff_forall_mem.1 hi2.2 e he
     simpa [hb]using this
    have closed:∀p q,kw ops p q→listed.getD q false=true→listed.getD p false=true:=by
     intro p q hbe
     induction hbe with
     |one ho' he hb h=>intro hq;subst h;exact hcl _ _ ho' hq _ he hb
     |more ho' he hb h ihb=>intro hq;exact ihb (hcl _ _ ho' hq _ he hb)
    have ahead:∀p,kw ops p i→listed.getD p false=true:=by
     intro p hbe
     cases hbe with
     |one ho' he hb h=>rw[ho]at ho';cases ho';subst h;exact hpred _ he hb
     |more ho' he hb h=>rw[ho]at ho';cases ho';exact closed p _ h (hpred _ he hb)
    have late:∀q,kw ops i q→listed.getD q false=false:=by
     intro q hbe
     cases hq:listed.getD q false with
     |false=>rfl
     |true=>rw[closed i q hbe hq]at hnl;cases hnl
    by_cases hmi:m≤i
    ·
     have hbel:∀j,j<i→listed.getD j false=true:=fun j hj=>ahead j (hfull i hmi hiN j hj)
     have hallm:∀j,j<m→listed.getD j false=true:=fun j hj=>hbel j (by omega)
     have him:i=m:=by
      apply Classical.byContradiction
      intro h
      have h1:=hbel m (by omega)
      rw[hlow m (eo _)]at h1
      cases h1
     have hlm:∀j,j<ops.size→(listed.getD j false=true↔j<m):=by
      intro j hj
      refine⟨fun h=> ?_,fun h=>hallm j h⟩
      apply Classical.byContradiction
      intro h2
      rw[hlow j (by omega)]at h
      cases h
     have hcount:ops.size≤m+(aX+1):=by
      have e1:((List.range ops.size).filter fun j=> !listed.getD j false)=(List.range ops.size).filter fun j=> !decide (j<m):=by
       apply List.filter_congr
       intro j hj
       have:=hlm j (List.mem_range.1 hj)
       by_cases h:j<m
       ·simp only[this.2 h,h,decide_true]
       ·have h3:listed.getD j false=false:=hlow j (by omega)
        simp only[h3,h,decide_false]
      rw[e1,yM _ hmN]at hcnt
      omega
     have hser:=Bj (P:=P) (Q:=mI n n0 lz ι w st Q) hfull hback (aX+1) m listed a' w' (eo _) hmN hls hlm hcount (atM listed ι' w' a' hallm hR' hF' hk)
     exact hser.2 i hi0
    have hmi':i<m:=by omega
    have touch1:∀j o,j<i→ops[j]? =some o→Oper.apart ops o ops[i]=false→listed.getD j false=true:=by
     intro j o hj hoj hap
     have:=(hord i ops[i] (by simp[hiN])).2 j o (by omega) (by simpa using hoj)
     rcases this with h1|h1
     ·rw[h1]at hap;cases hap
     ·exact ahead j (hms j i (by simpa using h1))
    have touch2:∀j o,i<j→ops[j]? =some o→Oper.apart ops ops[i] o=false→listed.getD j false=false:=by
     intro j o hj hoj hap
     have hjN:j<ops.size:=(Array.getElem?_eq_some_iff.1 hoj).1
     have:=(hord j o (by simpa using hoj)).2 i ops[i] (by omega) (by simp[hiN])
     rcases this with h1|h1
     ·rw[h1]at hap;cases hap
     ·exact late j (hms i j (by simpa using h1))
    have hlook:∀t∈Oper.looksAt ops ops[i],gD (lk fr) dst av (fun _=>true) i t=gD (lk fr) dst av (fun j=>listed.getD j false) m t:=by
     intro t ht
     rw[xc (i:=i) (k:=m) (D:=fun j=>listed.getD j false) (by omega)]
     ·apply wZ
      intro j hj hd
      symm
      obtain⟨o,ho',hdo⟩:∃o,ops[j]? =some o∧o.dst=some t:=by
       simp only[dst]at hd
       cases hq:ops[j]? with
       |none=>simp[hq]at hd
       |some o=>exact⟨o,rfl,by simpa [hq]using hd⟩
      refine touch1 j o hj ho' ?_
      cases hap:Oper.apart ops o ops[i]with
      |false=>rfl
      |true=>exact absurd ht ((Oper.apart_spec hap).1 t hdo)
     ·intro j h1 h2 hd
      by_cases hji:j=i
      ·subst hji;exact hnl
      ·obtain⟨o,ho',hdo⟩:∃o,ops[j]? =some o∧o.dst=some t:=by
        simp only[dst]at hd
        cases hq:ops[j]? with
        |none=>simp[hq]at hd
        |some o=>exact⟨o,rfl,by simpa [hq]using hd⟩
       refine touch2 j o (by omega) ho' ?_
       cases hap:Oper.apart ops ops[i] o with
       |false=>rfl
       |true=>exact absurd ht ((Oper.apart_spec hap).2.2 t hdo)
    obtain⟨ai,hai,hbd,hst⟩:=hstep i ops[i] (by rw[List.getElem?_take,if_pos hmi'];simp[hiN])
    have hfr:∀t,lk (ls ((ops.toList.take m).take i) (asv.take i) fr) t=gD (lk fr) dst av (fun _=>true) i t:=hT i (by omega)
    have hFi:fU n ι' w' st a' (cL ops ops[i] (ls ((ops.toList.take m).take i) (asv.take i) fr)):=by
     refine hF'.restr _ ?_
     intro t ht
     rw[hfr t,hlook t ht]
    have next:∀v w'' ι'',aN ι'' w'' st v ai→eu ι'' w'' st→bo all ι' w' st ι'' w'' st→wpAny P .any ops (mI n n0 lz ι w st Q) aX (listed.setIfInBounds i true) (a'.put ops[i].dst v) w'':=by
     intro v w'' ι'' hv hR'' hk''
     have hset:∀j,(listed.setIfInBounds i true).getD j false=if j=i then true else listed.getD j false:=by
      intro j
      by_cases e:j=i
      ·subst e
       simp[Array.getD,hls,hiN]
      ·by_cases hj:j<listed.size
       ·simp[Array.getD,hj,e,Array.getElem_setIfInBounds_ne,Ne.symm e]
       ·simp[Array.getD,hj,e]
     have hset':(fun j=>(listed.setIfInBounds i true).getD j false)=fun j=>if j=i then true else listed.getD j false:=funext hset
     refine ih _ ι'' w'' _ (by simpa using hls) ?_ ?_ (fun j hj=>by rw[hset,if_neg (by omega)];exact hlow j hj) hR'' ?_ (hk.trans hk'')
     ·intro j o hoj hj e he hb
      rw[hset]at hj⊢
      by_cases e1:e.on=i
      ·rw[if_pos e1]
      ·rw[if_neg e1]
       by_cases e2:j=i
       ·subst e2
        rw[ho]at hoj;cases hoj
        exact hpred e he hb
       ·rw[if_neg e2]at hj
        exact hcl j o hoj hj e he hb
     ·have:=zU (N:=ops.size) (i:=i) (D:=fun j=>listed.getD j false) hiN hnl
      simp only[hset]
      omega
     ·rw[hset']
      have hdi:dst i=ops[i].dst:=hdst i ops[i] (by simp[hiN])
      have hvi:av i=ai:=hav i ai hai
      have hlast:∀t,dst i=some t→∀j,i<j→j<m→dst j=some t→(fun j=>listed.getD j false) j=false:=by
       intro t hdt j h1 h2' h3
       have h2:j<ops.size:=by omega
       have hoj:ops[j]? =some ops[j]:=Array.getElem?_eq_getElem h2
       refine touch2 j ops[j] h1 hoj ?_
       cases hap:Oper.apart ops ops[i] ops[j]with
       |false=>rfl
       |true=>
        have:=(Oper.apart_spec hap).2.1 t (by rw[←hdi];exact hdt)
        exact absurd (by rw[←hdst j ops[j] (by simp[h2])];exact h3) this
      refine⟨?_,?_,fun t=> ?_⟩
      ·cases hq:ops[i].dst<;>simp[Act.put,hF'.defers]
      ·cases hq:ops[i].dst<;>simp[Act.put,hF'.size]
      ·rw[Mc hmi' (hlast t)]
       by_cases hdt:dst i=some t
       ·rw[if_pos hdt,hvi]
        rw[hdi]at hdt
        have hlt:=hbd t hdt
        have e3:(a'.put ops[i].dst v).tmps.getD t undef=v:=by
         rw[hdt]
         simp[Act.put,hF'.size,hlt]
        rw[e3];exact hv
       ·rw[if_neg hdt]
        have e3:(a'.put ops[i].dst v).tmps.getD t undef=a'.tmps.getD t undef:=by
         cases hq:ops[i].dst with
         |none=>rfl
         |some d=>
          have:d≠t:=by rintro rfl;exact hdt (hdi.trans hq)
          simp[Act.put,this]
        rw[e3]
        exact(hF'.slot t).mono' hk''
    unfold wpOp
    rw[ho]
    simp only
    rcases hst with⟨hg,hy⟩ |⟨hg,rfl⟩
    ·have hw:=cF hg hFi
     rw[if_pos hw]
     exact .inl (hy ι' w' a' hR' hFi _ _ next)
    ·have hw:=cF hg hFi
     rw[if_neg (by rw[hw];simp)]
     exact next undef w' ι' sE hR' .refl
 refine key ops.size _ ι {w with drawn:=w.drawn+1} a (by simp) ?_ ?_ (fun j _=>by simp[Array.getD]) (hR.ext (m6.drew w)) ?_ ?_
 ·intro j o ho hj
  simp[Array.getD]at hj
 ·refine Nat.le_trans (List.length_filter_le _ _) (by simp)
 ·refine⟨hF.defers,hF.size,fun t=> ?_⟩
  have:gD (lk fr) dst av (fun j=>(Array.replicate ops.size false).getD j false) m t=lk fr t:=by
   rw[xc (i:=0) (by omega)]
   ·rfl
   ·intro j _ _ _
    simp[Array.getD]
  rw[this]
  exact(hF.slot t).mono' ((m6.drew w).keeps ι st)
 ·exact(m6.drew w).keeps ι st
end
section
variable {P:Program} {n n0:Nat} {lz an:List Nat} {Q:QT} {fr:Fr} {st:St} {c:Code} {ops:Array Oper}
theorem XW.drwS(m:Nat)(fr':Fr)(he:oU c=some true)(hm:((v8 (gX c)&&wD (gX c) m)&&P.follows .mixedOrders)=true)(hs:DX P n st (gX c) ((gX c).toList.take m) fr fr')
  (hk:XO P n n0 lz (gX c) ((gX c).toList.drop m) Q fr' st):XW P n n0 lz c Q fr st:=by
 obtain⟨asv,hs1,hs2⟩:=hs
 cases c<;>simp only[oU]at he<;>try (cases he;done)
 simp only[cA]at he
 subst he
 rw[fM]at hm
 exact XW.drawS m rfl hm.2 hm.1 hs1 (hs2▸hk)
end
section
variable {P:Program} {n n0:Nat} {lz an:List Nat} {Q:QT} {fr:Fr} {st:St} {c:Code} {ops:Array Oper}
def scalars:List AV→Option (List Value)
 |[]=>some []
 | .one (.pv (.s v))::l=>match scalars l with
  |some r=>some (v::r)
  |none=>none
 |_=>none
def ye(P:Program)(o:Oper)(fr:Fr):Option (Nat×List Value):=
 match o.op with
 | .call ⟨.value f,args,_⟩=>
  match rv fr f with
  | .one (.pv (.fn g []))=>match scalars (args.toList.map (rv fr))with
   |some vs=>some (g,vs)
   |none=>none
  |_=>none
 |_=>none
def Gq(P:Program)(g:Nat)(vs:List Value)(v:Value):Prop:=∀w:World,(callFunc g vs.toArray).run P w= .ok (.value v) w
theorem s5{ι:IM}{w:World}:∀{l:List AV} {vs us:List Value},scalars l=some vs→us.length=l.length→(∀(j:Nat) v a,us[j]? =some v→l[j]? =some a→aN ι w st v a)→us=vs
 |[],vs,us,h,hl,_=>by
  simp[scalars]at h
  subst h
  exact List.length_eq_zero_iff.1 (by simpa using hl)
 |a::l,vs,[],h,hl,hr=>by simp at hl
 |a::l,vs,u::us,h,hl,hr=>by
   skip
   cases a<;>try (simp[scalars]at h;done)
   rename_i cv
   cases cv<;>try (simp[scalars]at h;done)
   rename_i p
   cases p<;>try (simp[scalars]at h;done)
   rename_i x
   simp only[scalars]at h
   split at h
   ·rename_i r hq
    simp only[cA]at h
    subst h
    have h0:=hr 0 u _ rfl rfl
    have e1:u=x:=bi h0
    have e2:=s5 hq (us:=us) (by simpa using hl) (fun j v a h1 h2=>hr (j+1) v a (by simpa using h1) (by simpa using h2))
    rw[e1,e2]
   ·cases h
theorem Ab{o:Oper}{g:Nat}{vs:List Value}{v:Value}(h:ye P o fr=some (g,vs))(hx:Gq P g vs v){ι:IM}{w:World}{a:Act}(hF:fU n ι w st a fr):(execOp a.eval o).run P w= .ok (.value v) w:=by
 unfold ye at h
 cases hop:o.op<;>simp only[hop]at h<;>try (cases h;done)
 rename_i cl
 obtain⟨callee,args,tys⟩:=cl
 cases callee<;>simp only at h<;>try (cases h;done)
 rename_i f
 have hf:=cu hF f
 split at h
 ·rename_i g' hq
  split at h
  ·rename_i us hs
   simp only[cA,ku]at h
   obtain⟨rfl,rfl⟩:=h
   rw[hq]at hf
   have hp:=oQ (jL hf)
   have e:=s5 (st:=st) (ι:=ι) (w:=w) hs (us:=args.toList.map a.eval) (by simp) (fun j v av h1 h2=>by
    rw[List.getElem?_map,mE]at h1 h2
    obtain⟨x,hx,rfl⟩:=h1
    obtain⟨y,hy,rfl⟩:=h2
    rw[hx]at hy;cases hy
    exact cu hF x)
   generalize hu:a.eval f=u at*
   cases hp with
   |fn _ _ ws hl hv=>
    have:ws=[]:=List.length_eq_zero_iff.1 (by simpa using hl)
    subst this
    have e3:args.map a.eval++(#[]:Array Value)=us.toArray:=by
     apply Array.ext'
     simp[←e]
    have e4:=hx w
    simp[execOp,hop,resolve,hu,Deferred.ofValue,invoke]
    rw[←e3,Array.append_empty]at e4
    exact e4
  ·cases h
 ·cases h
def Pk(P:Program)(n:Nat)(ops:Array Oper)(l:List Oper)(fr:Fr):Option (Nat×List Value):=
 match l with
 |o::_=>match cI ops o fr with
  |some true=>ye P o fr
  |_=>none
 |[]=>none
def JC(us:List Value):AV:= .tp (us.map fun u=> .one (.pv (.s u)))
theorem wO{ι:IM}{w:World}{us:List Value}(h:us.all oo=true):aN ι w st (.tuple us.toArray) (JC us):=by
 refine .tp us _ (by simp) (fun j v a h1 h2=> ?_)
 rw[List.getElem?_map,mE]at h2
 obtain⟨u,hu,rfl⟩:=h2
 rw[hu]at h1
 cases h1
 exact .one _ _ (.pv _ _ (.s _ (List.all_eq_true.1 h _ (List.mem_of_getElem? hu))))
def G6(P:Program)(n:Nat)(ops:Array Oper)(l:List Oper)(fr:Fr):Option (Nat×List Value):=
 match l with
 |o::_=>match cI ops o (cL ops o fr)with
  |some true=>bif (match o.dst with|some d=>Nat.ble (d+1) n|none=>true)then ye P o (cL ops o fr)else none
  |_=>none
 |[]=>none
theorem Gs{g:Nat}{fn:Func}(hf:P.funcs[g]? =some fn)(hname:(fn.name== "runtime.NumGoroutine")=false)(hb:fn.body.isNone=true)(hn:Extern.findNext fn=none)(he:Extern.find fn=some add64Entry)
  {x y c:Int}(hx:0≤x)(hy:0≤y)(hc0:0≤c)(hc:c≤1):
  Gq P g [.int .u64 x,.int .u64 y,.int .u64 c] (.tuple [.int .u64 ((x+y+c)%18446744073709551616),.int .u64 ((x+y+c)/18446744073709551616)].toArray):=by
 intro w
 rw[run_callFunc_extern hf hname hb hn he]
 have:=run_add64 (P:=P) x y c hx hy hc0 hc w
 rw[this];rfl
def DN:Array Value→Sem Value:=(Extern.MathBitsCarry.rows.getD 1 ("",fun _=>pure undef)).2
theorem Eq(x y b:Nat)(hb:b≤1)(w:World):
  (DN #[.int .u64 x,.int .u64 y,.int .u64 b]).run P w=
   .ok (.tuple #[.int .u64 (((x+18446744073709551616-y-b)%18446744073709551616:Nat):Int),.int .u64 ((if x<y+b then 1 else 0:Nat):Int)]) w:=by
 have:b=0∨b=1:=by omega
 rcases this with rfl|rfl<;>rfl
theorem Gm{g:Nat}{fn:Func}(hf:P.funcs[g]? =some fn)(hname:(fn.name== "runtime.NumGoroutine")=false)(hb:fn.body.isNone=true)(hn:Extern.findNext fn=none)(he:Extern.find fn=some DN)
  {x y c:Int}(hx:0≤x)(hy:0≤y)(hy2:y<18446744073709551616)(hc0:0≤c)(hc:c≤1):
  Gq P g [.int .u64 x,.int .u64 y,.int .u64 c] (.tuple [.int .u64 ((x-y-c)%18446744073709551616),.int .u64 (if x<y+c then 1 else 0)].toArray):=by
 intro w
 rw[run_callFunc_extern hf hname hb hn he]
 obtain⟨X,rfl⟩:=Int.eq_ofNat_of_zero_le hx
 obtain⟨Y,rfl⟩:=Int.eq_ofNat_of_zero_le hy
 obtain⟨C,rfl⟩:=Int.eq_ofNat_of_zero_le hc0
 have:=Eq (P:=P) X Y C (by omega) w
 rw[this]
 have e1:(((X+18446744073709551616-Y-C)%18446744073709551616:Nat):Int)=((X:Int)-Y-C)%18446744073709551616:=by omega
 have e2:((if X<Y+C then 1 else 0:Nat):Int)=if(X:Int)<Y+C then 1 else 0:=by split<;>split<;>omega
 rw[e1,e2];rfl
end
theorem En:∀c:CV,vO (fun i=>i) c=c
 | .pv _=>rfl
 | .pt _ _ _ _=>rfl
 | .mp _=>rfl
 | .cl _=>rfl
 | .sl _ _ _ _=>rfl
 | .fn f caps=>by simp only[vO];rw[go caps]
 where
 go:∀l:List CV,vO.go (fun i=>i) l=l
  |[]=>rfl
  |c::l=>by simp only[vO.go,En c,go l]
theorem bX.chg{ι ι':IM}{w:World}{st st':St}(hm:∀b,fK ι' st' b→fK ι st b)(hl:st.length≤st'.length)(hi:∀i,ι' i=ι i){v:Value}{c:CV}(h:bX ι w st v c):bX ι' w st' v c:=by
 have:=h.ren (ρ:=fun i=>i) (ι':=ι') (st':=st') hm (fun i h=>⟨by omega,hi i⟩)
 rwa [En]at this
theorem dv.chg{ι ι':IM}{w:World}{st st':St}(hm:∀b,fK ι' st' b→fK ι st b)(hl:st.length≤st'.length)(hi:∀i,ι' i=ι i){vs:List Value}{cs:List CV}(h:dv ι w st vs cs):dv ι' w st' vs cs:=
 ⟨h.1,fun j v c h1 h2=>(h.2 j v c h1 h2).chg hm hl hi⟩
theorem aN.chg{ι ι':IM}{w:World}{st st':St}(hm:∀b,fK ι' st' b→fK ι st b)(hl:st.length≤st'.length)(hi:∀i,ι' i=ι i){v:Value}{a:AV}(h:aN ι w st v a):aN ι' w st' v a:=by
 induction h with
 |j v=>exact .j v
 |one v c h=>exact .one _ _ (h.chg hm hl hi)
 |ag vs cs h=>exact .ag _ _ (h.chg hm hl hi)
 |tp vs asv hlen h ih=>exact .tp vs _ hlen (fun j v a h1 h2=>ih j v a h1 h2)
theorem j7.chg{ι ι':IM}{w:World}{st st':St}(hm:∀b,fK ι' st' b→fK ι st b)(hl:st.length≤st'.length)(hi:∀i,ι' i=ι i){id:Nat}{o:aV}(h:j7 ι w st id o):j7 ι' w st' id o:=by
 cases o with
 |dead=>trivial
 |box cells=>
  obtain⟨b,us,ty,e3,e4,e5⟩:=h
  exact⟨b,us,ty,(hi id).trans e3,e4,e5.chg hm hl hi⟩
 |win wsz wi pre mid post=>
  obtain⟨b,us,ty,e3,e4,hn0,e5⟩:=h
  exact⟨b,us,ty,(hi id).trans e3,e4,hn0,e5.chg hm hl hi⟩
 |rel Rm ps=>
  obtain⟨b,ob,vs0,e3,e4,hr0,hl0⟩:=h
  exact⟨b,ob,vs0,(hi id).trans e3,e4,hr0,hl0.map fun _ _ h0=>h0.mono (eo _) (fun b _ hb=>⟨rfl,fun h'=>hb (hm b h')⟩)⟩
 |arr sz els=>
  rcases h with⟨e3,e4⟩ |⟨b,c,ty,e3,e4,e5,e6,e7⟩
  ·exact .inl ⟨(hi id).trans e3,e4⟩
  ·refine .inr ⟨b,c,ty,(hi id).trans e3,e4,e5,e6,fun i' e j p x1 x2=> ?_⟩
   obtain⟨v,y1,y2⟩:=e7 i' e j p x1 x2
   exact⟨v,y1,y2.mono (eo _) (fun b _ hb=>⟨rfl,fun h'=>hb (hm b h')⟩)⟩
def fb(T:Nat→Bool):Nat→St→St
 |_,[]=>[]
 |i,b::l=>(bif T i then b else .dead)::fb T (i+1) l
theorem ij{T:Nat→Bool}:∀(st:St) (i j:Nat),(fb T i st)[j]? =(st[j]?).map fun b=>bif T (i+j)then b else .dead
 |[],i,j=>by simp[fb]
 |b::l,i,j=>by
  cases j with
  |zero=>simp[fb]
  |succ j=>
   simp only[fb,List.getElem?_cons_succ]
   rw[ij l (i+1) j,show i+1+j=i+(j+1) by omega]
theorem dj{T:Nat→Bool}:∀(st:St) (i:Nat),(fb T i st).length=st.length
 |[],_=>rfl
 |b::l,i=>by simp[fb,dj l]
def eZ(T:Nat→Bool):Nat→St→St→St
 |i,b::l,m::ms=>(bif T i then m else b)::eZ T (i+1) l ms
 |_,[],ms=>ms
 |_,_::_,[]=>[]
theorem cC{T:Nat→Bool}:∀(st m:St) (i:Nat),st.length≤m.length→(eZ T i st m).length=m.length
 |[],m,i,_=>by simp[eZ]
 |b::l,[],i,h=>by simp at h
 |b::l,x::ms,i,h=>by simp only[eZ,List.length_cons];rw[cC l ms (i+1) (by simpa using h)]
theorem dP{T:Nat→Bool}:∀(st m:St) (i j:Nat),st.length≤m.length→(eZ T i st m)[j]? =if j<st.length∧T (i+j)=false then st[j]? else m[j]?
 |[],m,i,j,_=>by simp[eZ]
 |b::l,[],i,j,h=>by simp at h
 |b::l,x::ms,i,j,h=>by
  cases j with
  |zero=>simp[eZ];cases T i<;>simp
  |succ j=>
   simp only[eZ,List.getElem?_cons_succ,List.length_cons]
   rw[dP l ms (i+1) j (by simpa using h),show i+1+j=i+(j+1) by omega]
   simp
section
variable {ι:IM} {w:World} {st:St} {T:Nat→Bool}
def aside(T:Nat→Bool)(ι:IM)(st:St):IM:=⟨ι.m,fun b=>ι.amb b∨∃id o,st[id]? =some o∧o.alive∧T id=false∧ι id=some b⟩
theorem xZ{b:Nat}(h:nV (aside T ι st) (fb T 0 st) b):∃id o,st[id]? =some o∧o.alive∧T id=true∧ι id=some b:=by
 obtain⟨id,o,h1,h2,h3⟩:=h
 rw[ij,mE]at h1
 obtain⟨o',h1,rfl⟩:=h1
 rw[Nat.zero_add]at h2
 cases hT:T id with
 |false=>rw[hT]at h2;exact absurd rfl h2
 |true=>rw[hT]at h2;exact⟨id,o',h1,h2,hT,h3⟩
theorem uy{b:Nat}:fK (aside T ι st) (fb T 0 st) b↔fK ι st b:=by
 constructor
 ·rintro((h|⟨id,o,h1,h2,_,h3⟩) |h)
  ·exact .inl h
  ·exact .inr ⟨id,o,h1,h2,h3⟩
  ·obtain⟨id,o,h1,h2,_,h3⟩:=xZ h
   exact .inr ⟨id,o,h1,h2,h3⟩
 ·rintro(h|⟨id,o,h1,h2,h3⟩)
  ·exact .inl (.inl h)
  ·cases hT:T id with
   |false=>exact .inl (.inr ⟨id,o,h1,h2,hT,h3⟩)
   |true=>exact .inr ⟨id,o,by rw[ij,h1,Nat.zero_add,hT];rfl,h2,h3⟩
theorem eu.mask(hR:eu ι w st)(T:Nat→Bool):eu (aside T ι st) w (fb T 0 st):=by
 refine⟨fun id o ho=> ?_,fun b hb=> ?_,fun b hb ha=> ?_,fun id id' o o' b h1 h2 a1 a2 e1 e2=> ?_,fun b o h=>⟨fun hm=>(hR.gl b o h).1 (uy.1 hm),(hR.gl b o h).2⟩⟩
 ·rw[ij,mE]at ho
  obtain⟨o',h1,rfl⟩:=ho
  cases T (0+id)with
  |false=>trivial
  |true=>exact(hR.obj id o' h1).chg (fun b hb=>uy.1 hb) (by rw[dj];exact eo _) (fun _=>rfl)
 ·rcases hb with hb|⟨id,o,h1,h2,_,h3⟩
  ·exact hR.amb b hb
  ·exact hR.mut_lt (.inr ⟨id,o,h1,h2,h3⟩)
 ·obtain⟨id,o,h1,h2,hT,h3⟩:=xZ hb
  rcases ha with ha|⟨id',o',g1,g2,hF,g3⟩
  ·exact hR.dis b ⟨id,o,h1,h2,h3⟩ ha
  ·have:=hR.inj id id' o o' b h1 g1 h2 g2 h3 g3
   subst this
   rw[hT]at hF;cases hF
 ·rw[ij,mE]at h1 h2
  obtain⟨p,p1,rfl⟩:=h1
  obtain⟨q,q1,rfl⟩:=h2
  rw[Nat.zero_add]at a1 a2
  cases hT:T id with
  |false=>rw[hT]at a1;exact absurd rfl a1
  |true=>
   cases hT':T id' with
   |false=>rw[hT']at a2;exact absurd rfl a2
   |true=>
    rw[hT]at a1;rw[hT']at a2
    exact hR.inj id id' p q b p1 q1 a1 a2 e1 e2
theorem eu.unmask(hR:eu ι w st){q:Nat→Bool}{w':World}{ι2:IM}{sm:St}(hl:st.length≤sm.length)(hR2:eu ι2 w' sm)(k:bo (fun id=>q id=true) (aside T ι st) w (fb T 0 st) ι2 w' sm)
  (hq:∀id,T id=false→id<st.length→q id=true)(hb:∀id o,st[id]? =some o→T id=false→gA q o=true)(hd:∀id,id<st.length→T id=false→sm[id]? =some .dead):
  eu ⟨ι2.m,ι.amb⟩ w' (eZ T 0 st sm)∧(∀b,fK ⟨ι2.m,ι.amb⟩ (eZ T 0 st sm) b→fK ι2 sm b)∧bo (fun id=>q id=true) ι w st ⟨ι2.m,ι.amb⟩ w' (eZ T 0 st sm):=by
 have hlen:=cC (T:=T) st sm 0 hl
 have hget:∀id o,(eZ T 0 st sm)[id]? =some o→(id<st.length∧T id=false∧st[id]? =some o)∨(sm[id]? =some o∧(id<st.length→T id=true)):=by
  intro id o ho
  rw[dP _ _ _ _ hl,Nat.zero_add]at ho
  split at ho
  ·rename_i h;exact .inl ⟨h.1,h.2,ho⟩
  ·rename_i h
   refine .inr ⟨ho,fun hid=> ?_⟩
   cases hT:T id with
   |true=>rfl
   |false=>exact absurd ⟨hid,hT⟩ h
 have hsame:∀id,id<st.length→T id=false→ι2 id=ι id:=fun id hid hT=>(k.map id (hq id hT hid) (by rw[dj];exact hid)).2
 have own1:∀b,nV ⟨ι2.m,ι.amb⟩ (eZ T 0 st sm) b→(∃id o,st[id]? =some o∧o.alive∧T id=false∧ι id=some b)∨nV ι2 sm b:=by
  rintro b ⟨id,o,h1,h2,h3⟩
  rcases hget id o h1 with⟨g1,g2,g3⟩ |⟨g1,_⟩
  ·exact .inl ⟨id,o,g3,h2,g2,(hsame id g1 g2).symm.trans h3⟩
  ·exact .inr ⟨id,o,g1,h2,h3⟩
 have hamb:ι2.amb=(aside T ι st).amb:=k.amb
 have mut1:∀b,fK ⟨ι2.m,ι.amb⟩ (eZ T 0 st sm) b→fK ι2 sm b:=by
  rintro b (hb'|hb')
  ·exact .inl (by rw[hamb];exact .inl hb')
  ·rcases own1 b hb' with h|h
   ·exact .inl (by rw[hamb];exact .inr h)
   ·exact .inr h
 have hRm:=hR.mask T
 have kk:bo (fun id=>q id=true) ι w st ⟨ι2.m,ι.amb⟩ w' (eZ T 0 st sm):=by
  refine⟨k.os,k.tape,k.output,k.size,rfl,fun b hb' hno=> ?_,fun id hq' hid=>⟨by rw[hlen];omega,(k.map id hq' (by rw[dj];exact hid)).2⟩,k.shp⟩
  have h1:¬nV (aside T ι st) (fb T 0 st) b:=by
   intro h
   obtain⟨id,o,x1,x2,_,x3⟩:=xZ h
   exact hno ⟨id,o,x1,x2,x3⟩
  obtain⟨e1,e2⟩:=k.blk b hb' h1
  refine⟨e1,fun ho=> ?_⟩
  rcases own1 b ho with⟨id,o,x1,x2,_,x3⟩ |h
  ·exact hno ⟨id,o,x1,x2,x3⟩
  ·exact e2 h
 refine⟨⟨fun id o ho=> ?_,fun b hb'=>Nat.lt_of_lt_of_le (hR.amb b hb') k.size,fun b hb' ha=> ?_,fun id id' o o' b h1 h2 a1 a2 e1 e2=> ?_,hR.glk kk⟩,mut1,kk⟩
 ·rcases hget id o ho with⟨g1,g2,g3⟩ |⟨g1,_⟩
  ·have hobj:=hR.obj id o g3
   have hi:=hb id o g3 g2
   have hblk:∀b,o.alive→ι id=some b→w'.heap[b]? =w.heap[b]? :=by
    intro b ha e
    refine(k.blk b (hR.mut_lt (.inr ⟨id,o,g3,ha,e⟩)) (fun hown=> ?_)).1
    exact hRm.dis b hown (.inr ⟨id,o,g3,ha,g2,e⟩)
   cases o with
   |dead=>trivial
   |box cells=>
    obtain⟨b,us,ty,e3,e4,e5⟩:=hobj
    exact⟨b,us,ty,(hsame id g1 g2).trans e3,(hblk b (by simp[aV.alive]) e3).trans e4,e5.mono kk (q:=q) (fun _ h _=>h) hi⟩
   |win wsz wi pre mid post=>
    obtain⟨b,us,ty,e3,e4,hn0,e5⟩:=hobj
    exact⟨b,us,ty,(hsame id g1 g2).trans e3,(hblk b (by simp[aV.alive]) e3).trans e4,hn0,e5.mono kk (q:=q) (fun _ h _=>h) (ny hi _ _)⟩
   |rel Rm ps=>
    obtain⟨b,ob,vs0,e3,e4,hr0,hl0⟩:=hobj
    exact⟨b,ob,vs0,(hsame id g1 g2).trans e3,(hblk b (by simp[aV.alive]) e3).trans e4,hr0,hl0.map fun _ _ h0=>kk.pure h0⟩
   |arr sz els=>
    rcases hobj with⟨e3,e4⟩ |⟨b,c,ty,e3,e4,e5,e6,e7⟩
    ·exact .inl ⟨(hsame id g1 g2).trans e3,e4⟩
    ·refine .inr ⟨b,c,ty,(hsame id g1 g2).trans e3,(hblk b (by simp[aV.alive]) e3).trans e4,e5,e6,fun i' e j p x1 x2=> ?_⟩
     obtain⟨v,y1,y2⟩:=e7 i' e j p x1 x2
     exact⟨v,y1,kk.pure y2⟩
  ·exact(hR2.obj id o g1).chg mut1 (by rw[hlen];exact eo _) (fun _=>rfl)
 ·rcases own1 b hb' with⟨id,o,x1,x2,_,x3⟩ |h
  ·exact hR.dis b ⟨id,o,x1,x2,x3⟩ ha
  ·exact hR2.dis b h (by rw[hamb];exact .inl ha)
 ·rcases hget id o h1 with⟨g1,g2,g3⟩ |⟨g1,gT⟩
  ·have i1:ι id=some b:=(hsame id g1 g2).symm.trans e1
   rcases hget id' o' h2 with⟨q1,q2,q3⟩ |⟨q1,qT⟩
   ·exact hR.inj id id' o o' b g3 q3 a1 a2 i1 ((hsame id' q1 q2).symm.trans e2)
   ·exact absurd (by rw[hamb];exact .inr ⟨id,o,g3,a1,g2,i1⟩) (hR2.dis b ⟨id',o',q1,a2,e2⟩)
  ·rcases hget id' o' h2 with⟨q1,q2,q3⟩ |⟨q1,qT⟩
   ·exact absurd (by rw[hamb];exact .inr ⟨id',o',q3,a2,q2,(hsame id' q1 q2).symm.trans e2⟩) (hR2.dis b ⟨id,o,g1,a1,e1⟩)
   ·exact hR2.inj id id' o o' b g1 q1 a1 a2 e1 e2
def oA(ι:IM)(L id:Nat):IM:=⟨fun i=>if i=id then ι L else ι i,ι.amb⟩
def xJ(L id:Nat):Nat→Nat:=fun i=>if i=L then id else i
theorem eu.revive{b:aV}{id:Nat}(hR:eu ι w (st++[b]))(hd:st[id]? =some .dead)(hi:dq (fun i=> !Nat.beq i id&& !Nat.beq i st.length) (st++[b])=true):
  eu (oA ι st.length id) w (st.set id b)∧(∀x,fK (oA ι st.length id) (st.set id b) x→fK ι (st++[b]) x)∧
  bo (fun i=>i≠id∧i≠st.length) ι w (st++[b]) (oA ι st.length id) w (st.set id b):=by
 have hid:id<st.length:=(gN.1 hd).1
 have hne:∀i,i≠id→(st.set id b)[i]? =st[i]? :=by
  intro i h;rw[List.getElem?_set,if_neg (fun e=>h e.symm)]
 have hat:(st.set id b)[id]? =some b:=by rw[List.getElem?_set,if_pos rfl,if_pos hid]
 have hold:∀i,i<st.length→(st++[b])[i]? =st[i]? :=fun i h=>nq h
 have hnew:(st++[b])[st.length]? =some b:=by simp
 have hcase:∀i o,(st.set id b)[i]? =some o→o.alive→(i=id∧o=b)∨(i≠id∧i<st.length∧(st++[b])[i]? =some o):=by
  intro i o ho ha
  by_cases e:i=id
  ·subst e;rw[hat]at ho;cases ho;exact .inl ⟨rfl,rfl⟩
  ·rw[hne i e]at ho
   have:=(gN.1 ho).1
   exact .inr ⟨e,this,by rw[hold i this];exact ho⟩
 have own1:∀x,nV (oA ι st.length id) (st.set id b) x→nV ι (st++[b]) x:=by
  rintro x ⟨i,o,h1,h2,h3⟩
  rcases hcase i o h1 h2 with⟨rfl,rfl⟩ |⟨g1,g2,g3⟩
  ·exact⟨st.length,o,hnew,h2,(if_pos rfl:oA ι st.length i i=ι st.length)▸h3⟩
  ·exact⟨i,o,g3,h2,(if_neg g1:oA ι st.length id i=ι i)▸h3⟩
 have own2:∀x,nV ι (st++[b]) x→nV (oA ι st.length id) (st.set id b) x:=by
  rintro x ⟨i,o,h1,h2,h3⟩
  by_cases e:i<st.length
  ·have hii:i≠id:=by
    rintro rfl
    rw[hold i e,hd]at h1;cases h1;exact absurd rfl h2
   exact⟨i,o,by rw[hne i hii,←hold i e];exact h1,h2,(if_neg hii:oA ι st.length id i=ι i).trans h3⟩
  ·have hl:=(gN.1 h1).1
   have:i=st.length:=by simp at hl;omega
   subst this
   rw[hnew]at h1;cases h1
   exact⟨id,b,hat,h2,(if_pos rfl:oA ι st.length id id=ι st.length).trans h3⟩
 have mut1:∀x,fK (oA ι st.length id) (st.set id b) x→fK ι (st++[b]) x:=fun x h=>h.elim .inl (fun h=> .inr (own1 x h))
 have kk:bo (fun i=>i≠id∧i≠st.length) ι w (st++[b]) (oA ι st.length id) w (st.set id b):=
  ⟨rfl,rfl,rfl,eo _,rfl,fun x _ hno=>⟨rfl,fun h=>hno (own1 x h)⟩,fun i hf hl=>⟨by simp at hl⊢;omega,if_neg hf.1⟩,fun _ c _ _ h=>⟨c,h,rfl⟩⟩
 have hq:∀i,(fun i=> !Nat.beq i id&& !Nat.beq i st.length) i=true→i<(st++[b]).length→i≠id∧i≠st.length:=by
  intro i h _
  simp only[fM,Bool.not_eq_true']at h
  refine⟨fun e=> ?_,fun e=> ?_⟩
  ·subst e;simp at h
  ·subst e;simp at h
 have objs:∀i o,(st++[b])[i]? =some o→∀j,(oA ι st.length id) j=ι i→j7 (oA ι st.length id) w (st.set id b) j o:=by
  intro i o ho j hj
  have hobj:=hR.obj i o ho
  have hids:=iK hi i o ho
  cases o with
  |dead=>trivial
  |box cells=>
   obtain⟨x,us,ty,e3,e4,e5⟩:=hobj
   exact⟨x,us,ty,hj.trans e3,e4,e5.mono kk hq hids⟩
  |win wsz wi pre mid post=>
   obtain⟨x,us,ty,e3,e4,hn0,e5⟩:=hobj
   exact⟨x,us,ty,hj.trans e3,e4,hn0,e5.mono kk hq (ny hids _ _)⟩
  |rel Rm ps=>
   obtain⟨x,ob,vs0,e3,e4,hr0,hl0⟩:=hobj
   exact⟨x,ob,vs0,hj.trans e3,e4,hr0,hl0.map fun _ _ h0=>kk.pure h0⟩
  |arr sz els=>
   rcases hobj with⟨e3,e4⟩ |⟨x,c,ty,e3,e4,e5,e6,e7⟩
   ·exact .inl ⟨hj.trans e3,e4⟩
   ·refine .inr ⟨x,c,ty,hj.trans e3,e4,e5,e6,fun i' e j' p x1 x2=> ?_⟩
    obtain⟨v,y1,y2⟩:=e7 i' e j' p x1 x2
    exact⟨v,y1,kk.pure y2⟩
 refine⟨⟨fun i o ho=> ?_,hR.amb,fun x hx=>hR.dis x (own1 x hx),fun i i' o o' x h1 h2 a1 a2 e1 e2=> ?_,hR.glk kk⟩,mut1,kk⟩
 ·by_cases ha:o= .dead
  ·subst ha;trivial
  ·rcases hcase i o ho ha with⟨rfl,rfl⟩ |⟨g1,g2,g3⟩
   ·exact objs st.length o hnew i (if_pos rfl)
   ·exact objs i o g3 i (if_neg g1)
 ·rcases hcase i o h1 a1 with⟨rfl,rfl⟩ |⟨g1,g2,g3⟩
  ·have x1:ι st.length=some x:=(if_pos rfl:oA ι st.length i i=ι st.length)▸e1
   rcases hcase i' o' h2 a2 with⟨rfl,_⟩ |⟨q1,q2,q3⟩
   ·rfl
   ·have:=hR.inj st.length i' _ _ x hnew q3 a1 a2 x1 ((if_neg q1:oA ι st.length i i'=ι i')▸e2)
    omega
  ·have x1:ι i=some x:=(if_neg g1:oA ι st.length id i=ι i)▸e1
   rcases hcase i' o' h2 a2 with⟨rfl,rfl⟩ |⟨q1,q2,q3⟩
   ·have:=hR.inj i st.length _ _ x g3 hnew a1 a2 x1 ((if_pos rfl:oA ι st.length i' i'=ι st.length)▸e2)
    omega
   ·exact hR.inj i i' _ _ x g3 q3 a1 a2 x1 ((if_neg q1:oA ι st.length id i'=ι i')▸e2)
theorem bX.revive{b:aV}{id:Nat}(hid:id<st.length)(hm:∀x,fK (oA ι st.length id) (st.set id b) x→fK ι (st++[b]) x){v:Value}{c:CV}(h:bX ι w (st++[b]) v c):kQ (fun i=> !Nat.beq i id) c=true→bX (oA ι st.length id) w (st.set id b) v (vO (xJ st.length id) c):=by
 have key:∀i,(!Nat.beq i id)=true→i<(st++[b]).length→xJ st.length id i<(st.set id b).length∧oA ι st.length id (xJ st.length id i)=ι i:=by
  intro i hi hl
  have hne:i≠id:=by rintro rfl;simp at hi
  simp only[xJ]
  split
  ·rename_i e;subst e;exact⟨by simpa using hid,if_pos rfl⟩
  ·refine⟨by simp at hl⊢;omega,if_neg hne⟩
 induction h with
 |pv v p h=>exact fun _=> .pv v p (h.mono (eo _) (fun x _ hx=>⟨rfl,fun h'=>hx (hm x h')⟩))
 |pt i sz k off x hid' hb=>intro hi;exact .pt _ sz k off x (key i hi hid').1 ((key i hi hid').2.trans hb)
 |sl i sz off len x cap hid' hb hcap hc=>intro hi;exact .sl _ sz off len x cap (key i hi hid').1 ((key i hi hid').2.trans hb) hcap hc
 |sn i sz hid' hb=>intro hi;exact .sn _ sz (key i hi hid').1 ((key i hi hid').2.trans hb)
 |mp i x hid' hb=>intro hi;exact .mp _ x (key i hi hid').1 ((key i hi hid').2.trans hb)
 |cl v els h hc=>exact fun _=> .cl v els (h.mono (eo _) (fun x _ hx=>⟨rfl,fun h'=>hx (hm x h')⟩)) hc
 |fn f caps vs hl hv ih=>
  intro hi
  simp only[kQ]at hi
  simp only[vO,Bq]
  refine .fn f _ vs (by simpa using hl) (fun j c v h1 h2=> ?_)
  rw[List.getElem?_map,mE]at h1
  obtain⟨c',h1,rfl⟩:=h1
  exact ih j c' v h1 h2 (tZ hi j c' h1)
theorem aN.revive{b:aV}{id:Nat}(hid:id<st.length)(hm:∀x,fK (oA ι st.length id) (st.set id b) x→fK ι (st++[b]) x){v:Value}{a:AV}(h:aN ι w (st++[b]) v a):cU (fun i=> !Nat.beq i id) a=true→aN (oA ι st.length id) w (st.set id b) v (nP (xJ st.length id) a):=by
 induction h with
 |j v=>exact fun _=> .j v
 |one v c h=>exact fun hi=> .one _ _ (h.revive hid hm hi)
 |ag vs cs h=>
  intro hi
  refine .ag _ _ ⟨by simpa using h.1,fun j v c h1 h2=> ?_⟩
  rw[List.getElem?_map,mE]at h2
  obtain⟨c',h2,rfl⟩:=h2
  exact(h.2 j v c' h1 h2).revive hid hm (qR hi j c' h2)
 |tp vs asv hlen h ih=>
  intro hi
  simp only[cU]at hi
  simp only[nP,Bm]
  refine .tp vs _ (by simpa using hlen) (fun j v a h1 h2=> ?_)
  rw[List.getElem?_map,mE]at h2
  obtain⟨a',h2,rfl⟩:=h2
  exact ih j v a' h1 h2 (u4 hi j a' h2)
end
def aI(l:List Nat)(i:Nat):Bool:=l.any (Nat.beq i)
theorem d9{l:List Nat}{i:Nat}:aI l i=true↔i∈l:=by
 simp only[aI,List.any_eq_true]
 constructor
 ·rintro⟨x,hx,h⟩;rw[kW h];exact hx
 ·intro h;exact⟨i,h,Nat.beq_refl i⟩
def rK(q:Nat→Bool)(a:AV):AV:=bif cU (fun id=> !q id) a then a else .j
theorem kq{q r:Nat→Bool}(h:∀i,q i=true→r i=true):∀a:AV,cU q a=true→cU r a=true
 | .j,_=>rfl
 | .one c,hi=>hc c hi
 | .ag cs,hi=>hl cs hi
 | .tp vs,hi=>by simp only[cU]at hi⊢;exact go vs hi
 where
 hc:∀c:CV,kQ q c=true→kQ r c=true
  | .pv _,_=>rfl
  | .pt id _ _ _,hi=>h id hi
  | .mp id,hi=>h id hi
  | .cl _,hi=>rfl
  | .sl id _ _ _,hi=>h id hi
  | .fn _ caps,hi=>by simp only[kQ]at hi⊢;exact hg caps hi
 hg:∀l:List CV,kQ.go q l=true→kQ.go r l=true
  |[],_=>rfl
  |c::l,hi=>by simp only[kQ.go,fM]at hi⊢;exact⟨hc c hi.1,hg l hi.2⟩
 hl:∀l:List CV,nE q l=true→nE r l=true
  |[],_=>rfl
  |c::l,hi=>by simp only[nE,fM]at hi⊢;exact⟨hc c hi.1,hl l hi.2⟩
 go:∀l:List AV,cU.go q l=true→cU.go r l=true
  |[],_=>rfl
  |a::l,hi=>by simp only[cU.go,fM]at hi⊢;exact⟨kq h a hi.1,go l hi.2⟩
theorem Eb(q:Nat→Bool)(a:AV):rK q a=a∨rK q a= .j:=by
 unfold rK;cases cU (fun id=> !q id) a<;>simp
theorem Gc(q r:Nat→Bool)(a:AV):rK q (rK r a)=rK r (rK q a):=by
 unfold rK
 cases h1:cU (fun id=> !q id) a<;>cases h2:cU (fun id=> !r id) a<;>simp[h1,h2,cU]
theorem vY{q T:Nat→Bool}{a:AV}(hT:cU T a=true)(h:∀id,q id=true→T id=false):rK q a=a:=by
 unfold rK
 rw[kq (r:=fun id=> !q id) (fun i hi=>by
  cases hq:q i with
  |false=>rfl
  |true=>rw[h i hq]at hi;cases hi) a hT]
 rfl
section
variable (fr0:Nat→AV) (s0:Nat→Option aV) (dst:Nat→Option Nat) (av:Nat→AV) (mv wr:Nat→Nat→Bool) (nb:Nat→Nat→Option aV)
def gJ(D:Nat→Bool):Nat→Nat→AV
 |0,t=>fr0 t
 |k+1,t=>if D k=true then(if dst k=some t then av k else rK (mv k) (gJ D k t))else gJ D k t
def sJ(D:Nat→Bool):Nat→Nat→Option aV
 |0,id=>s0 id
 |k+1,id=>if D k=true∧wr k id=true then nb k id else sJ D k id
variable {fr0 s0 dst av mv wr nb} {tch:Nat→Nat→Bool} {D:Nat→Bool} {i N:Nat}
theorem Kf{t:Nat}(hi:i<N)(hDi:D i=false)(hT:cU (tch i) (gJ fr0 dst av mv (fun _=>true) i t)=true)
  (h1:∀j,j<i→D j=false→dst j≠some t)(h2:∀j,i<j→j<N→D j=true→dst j≠some t∧∀id,mv j id=true→tch i id=false):
  gJ fr0 dst av mv (fun _=>true) i t= .j∨gJ fr0 dst av mv D N t=gJ fr0 dst av mv (fun _=>true) i t:=by
 have a1:∀k,k≤i→gJ fr0 dst av mv (fun _=>true) k t= .j∨gJ fr0 dst av mv D k t=gJ fr0 dst av mv (fun _=>true) k t:=by
  intro k
  induction k with
  |zero=>intro _;exact .inr rfl
  |succ k ih=>
   intro hk
   simp only[gJ,if_true]
   cases hD:D k with
   |true=>
    simp only[if_true]
    by_cases hd:dst k=some t
    ·rw[if_pos hd,if_pos hd];exact .inr rfl
    ·rw[if_neg hd,if_neg hd]
     rcases ih (by omega)with h|h
     ·left;rw[h];rfl
     ·right;rw[h]
   |false=>
    have hd:=h1 k (by omega) hD
    simp only[Bool.false_eq_true,if_false]
    rw[if_neg hd]
    rcases ih (by omega)with h|h
    ·left;rw[h];rfl
    ·rcases Eb (mv k) (gJ fr0 dst av mv (fun _=>true) k t)with e|e
     ·right;rw[e];exact h
     ·left;exact e
 rcases a1 i (eo _)with h|h
 ·exact .inl h
 right
 have a2:∀k,i+k≤N→gJ fr0 dst av mv D (i+k) t=gJ fr0 dst av mv D i t:=by
  intro k
  induction k with
  |zero=>intro _;rfl
  |succ k ih=>
   intro hk
   have e:=ih (by omega)
   show gJ fr0 dst av mv D (i+k+1) t=_
   simp only[gJ]
   cases hD:D (i+k)with
   |false=>simp only[Bool.false_eq_true,if_false];exact e
   |true=>
    have hki:i<i+k:=by
     cases k with
     |zero=>rw[Nat.add_zero,hDi]at hD;cases hD
     |succ k=>omega
    obtain⟨x1,x2⟩:=h2 (i+k) hki (by omega) hD
    simp only[if_true]
    rw[if_neg x1,e,h]
    exact vY hT x2
 have:=a2 (N-i) (by omega)
 rw[show i+(N-i)=N by omega]at this
 rw[this,h]
theorem Mb{t:Nat}(hi:i<N)(hDi:D i=false)(hTi:cU (tch i) (av i)=true)(hTk:∀k,i<k→k<N→D k=true→cU (tch k) (av k)=true)
  (h2:∀j,i<j→j<N→D j=true→(∀d,dst i=some d→dst j≠some d)∧(∀id,mv j id=true→tch i id=false)∧(∀id,mv i id=true→tch j id=false)):
  gJ fr0 dst av mv (fun j=>if j=i then true else D j) N t=if dst i=some t then av i else rK (mv i) (gJ fr0 dst av mv D N t):=by
 have a1:∀k,k≤i→gJ fr0 dst av mv (fun j=>if j=i then true else D j) k t=gJ fr0 dst av mv D k t:=by
  intro k
  induction k with
  |zero=>intro _;rfl
  |succ k ih=>
   intro hk
   simp only[gJ]
   have hne:¬k=i:=by omega
   simp only[hne,if_false]
   rw[ih (by omega)]
 have a2:∀k,i+1+k≤N→gJ fr0 dst av mv (fun j=>if j=i then true else D j) (i+1+k) t=if dst i=some t then av i else rK (mv i) (gJ fr0 dst av mv D (i+1+k) t):=by
  intro k
  induction k with
  |zero=>
   intro _
   simp only[Nat.add_zero,gJ,if_true,hDi,Bool.false_eq_true,if_false]
   rw[a1 i (eo _)]
  |succ k ih=>
   intro hk
   have e:=ih (by omega)
   show gJ fr0 dst av mv _ (i+1+k+1) t=if dst i=some t then av i else rK (mv i) (gJ fr0 dst av mv D (i+1+k+1) t)
   simp only[gJ]
   have hne:¬i+1+k=i:=by omega
   simp only[hne,if_false]
   cases hD:D (i+1+k)with
   |false=>simp only[Bool.false_eq_true,if_false];exact e
   |true=>
    obtain⟨x1,x2,x3⟩:=h2 (i+1+k) (by omega) (by omega) hD
    simp only[if_true]
    by_cases hd:dst (i+1+k)=some t
    ·rw[if_pos hd,if_pos hd]
     by_cases hdi:dst i=some t
     ·exact absurd hd (x1 t hdi)
     ·rw[if_neg hdi,vY (hTk _ (by omega) (by omega) hD) x3]
    ·rw[if_neg hd,if_neg hd,e]
     by_cases hdi:dst i=some t
     ·rw[if_pos hdi,if_pos hdi];exact vY hTi x2
     ·rw[if_neg hdi,if_neg hdi];exact Gc _ _ _
 have:=a2 (N-(i+1)) (by omega)
 rwa [show i+1+(N-(i+1))=N by omega]at this
theorem Kt{id:Nat}(hi:i<N)(hDi:D i=false)(h1:∀j,j<i→D j=false→wr j id=false)(h2:∀j,i<j→j<N→D j=true→wr j id=false):
  sJ s0 wr nb D N id=sJ s0 wr nb (fun _=>true) i id:=by
 have a1:∀k,k≤i→sJ s0 wr nb D k id=sJ s0 wr nb (fun _=>true) k id:=by
  intro k
  induction k with
  |zero=>intro _;rfl
  |succ k ih=>
   intro hk
   simp only[sJ,true_and]
   cases hD:D k with
   |true=>simp only[true_and];rw[ih (by omega)]
   |false=>
    rw[h1 k (by omega) hD]
    simp only[Bool.false_eq_true,false_and,if_false]
    exact ih (by omega)
 have a2:∀k,i+k≤N→sJ s0 wr nb D (i+k) id=sJ s0 wr nb D i id:=by
  intro k
  induction k with
  |zero=>intro _;rfl
  |succ k ih=>
   intro hk
   show sJ s0 wr nb D (i+k+1) id=_
   simp only[sJ]
   rw[if_neg,ih (by omega)]
   rintro⟨hD,hw⟩
   have hki:i<i+k:=by
    cases k with
    |zero=>rw[Nat.add_zero,hDi]at hD;cases hD
    |succ k=>omega
   rw[h2 _ hki (by omega) hD]at hw
   cases hw
 have:=a2 (N-i) (by omega)
 rw[show i+(N-i)=N by omega]at this
 rw[this,a1 i (eo _)]
theorem LD{id:Nat}(hi:i<N)(hDi:D i=false)(h2:∀j,i<j→j<N→D j=true→wr i id=true→wr j id=false):
  sJ s0 wr nb (fun j=>if j=i then true else D j) N id=if wr i id=true then nb i id else sJ s0 wr nb D N id:=by
 have a1:∀k,k≤i→sJ s0 wr nb (fun j=>if j=i then true else D j) k id=sJ s0 wr nb D k id:=by
  intro k
  induction k with
  |zero=>intro _;rfl
  |succ k ih=>
   intro hk
   simp only[sJ]
   have hne:¬k=i:=by omega
   simp only[hne,if_false]
   rw[ih (by omega)]
 have a2:∀k,i+1+k≤N→sJ s0 wr nb (fun j=>if j=i then true else D j) (i+1+k) id=if wr i id=true then nb i id else sJ s0 wr nb D (i+1+k) id:=by
  intro k
  induction k with
  |zero=>
   intro _
   simp only[Nat.add_zero,sJ,if_true,true_and,hDi,Bool.false_eq_true,false_and,if_false]
   rw[a1 i (eo _)]
  |succ k ih=>
   intro hk
   have e:=ih (by omega)
   show sJ s0 wr nb _ (i+1+k+1) id=if wr i id=true then nb i id else sJ s0 wr nb D (i+1+k+1) id
   simp only[sJ]
   have hne:¬i+1+k=i:=by omega
   simp only[hne,if_false]
   rw[e]
   by_cases hw:D (i+1+k)=true∧wr (i+1+k) id=true
   ·rw[if_pos hw,if_pos hw,if_neg]
    intro hwi
    have:=h2 _ (by omega) (by omega) hw.1 hwi
    rw[hw.2]at this;cases this
   ·rw[if_neg hw,if_neg hw]
 have:=a2 (N-(i+1)) (by omega)
 rwa [show i+1+(N-(i+1))=N by omega]at this
theorem LK{id:Nat}(k:Nat):sJ s0 wr nb D k id=s0 id∨∃j,j<k∧D j=true∧wr j id=true∧sJ s0 wr nb D k id=nb j id:=by
 induction k with
 |zero=>exact .inl rfl
 |succ k ih=>
  simp only[sJ]
  by_cases h:D k=true∧wr k id=true
  ·rw[if_pos h];exact .inr ⟨k,by omega,h.1,h.2,rfl⟩
  ·rw[if_neg h]
   rcases ih with h1|⟨j,h1,h2,h3,h4⟩
   ·exact .inl h1
   ·exact .inr ⟨j,by omega,h2,h3,h4⟩
theorem NR{id:Nat}(k:Nat):sJ s0 wr nb D k id=s0 id∨∃j,j<k∧wr j id=true∧sJ s0 wr nb D k id=nb j id:=by
 induction k with
 |zero=>exact .inl rfl
 |succ k ih=>
  simp only[sJ]
  by_cases h:D k=true∧wr k id=true
  ·rw[if_pos h];exact .inr ⟨k,by omega,h.2,rfl⟩
  ·rw[if_neg h]
   rcases ih with h1|⟨j,h1,h2,h3⟩
   ·exact .inl h1
   ·exact .inr ⟨j,by omega,h2,h3⟩
end
def Gt(L:Nat)(f:Nat→Option aV):St:=(List.range L).map fun id=>(f id).getD .dead
theorem HL(L:Nat)(f:Nat→Option aV):(Gt L f).length=L:=by simp[Gt]
theorem G0{L:Nat}{f:Nat→Option aV}{id:Nat}(h:id<L):(Gt L f)[id]? =some ((f id).getD .dead):=by simp[Gt,h]
structure GS where
 a:AV
 T:List Nat
 W:List Nat
 xs:List Nat
 st2:St
section
variable {P:Program} {n n0:Nat} {lz:List Nat} {Q:QT} {fr:Fr} {st:St} {c:Code} {ops:Array Oper} {X:List Nat}
theorem eD{q r:Nat→Bool}(h:∀i,q i=true→r i=true)(o:aV)(hi:gA q o=true):gA r o=true:=by
 cases o with
 |box cells=>exact kq (q:=q) (r:=r) h (.ag cells) hi
 |win sz i pre mid post=>exact kq (q:=q) (r:=r) h (.ag mid) hi
 |_=>rfl
def OX(P:Program)(n:Nat)(X:List Nat)(o:Oper)(fr:Fr)(s:GS)(st:St):Prop:=
 ∀st' ι w act,st'.length=st.length→(∀id,aI s.T id=true→st'[id]? =st[id]?)→dq (fun i=> !aI s.xs i&&(!aI X i||Nat.ble (i+1) st.length)) st'=true→eu ι w st'→fU n ι w st' act fr→∀(K:Act→World→Prop) (Q:Exit→Act→World→Prop),
  (∀v w' ι',aN ι' w' (eZ (aI s.W) 0 st' s.st2) v s.a→eu ι' w' (eZ (aI s.W) 0 st' s.st2)→bo (fun id=>aI s.xs id=false) ι w st' ι' w' (eZ (aI s.W) 0 st' s.st2)→K (act.put o.dst v) w')→o.wp P act w K Q
structure Ak(P:Program)(n:Nat)(ops:Array Oper)(X:List Nat)(o:Oper)(s:GS)(fr:Fr)(st:St):Prop where
 bd:∀d,o.dst=some d→d<n
 len:s.st2.length=st.length
 out:∀id,aI s.W id=false→s.st2[id]? =st[id]?
 wt:∀id,aI s.W id=true→aI s.T id=true
 xw:∀id,aI s.xs id=true→aI s.W id=true∧aI s.W (id+1000)=true∧aI X id=true
 lks:∀t∈Oper.looksAt ops o,cU (fun i=>aI s.T (i+1000)|| !aI X i) (lk fr t)=true
 ids:cU (fun i=>aI s.T (i+1000)|| !aI X i) s.a=true
 bod:∀(x:Nat) b,aI s.W x=true→s.st2[x]? =some b→gA (fun i=> !aI X i||((aI s.T (i+1000)&& !aI s.W (i+1000))&&Nat.ble (i+1) st.length)) b=true
 run:(cI ops o (cL ops o fr)=some true∧OX P n X o (cL ops o fr) s st)∨(cI ops o (cL ops o fr)=some false∧s.a= .tp []∧s.W=[]∧s.xs=[])
structure DF(P:Program)(n:Nat)(ops:Array Oper)(X:List Nat)(o:Oper)(s:GS)(fr:Fr)(st:St):Prop where
 bd:∀d,o.dst=some d→d<n
 len:s.st2.length=st.length
 out:∀id,aI s.W id=false→s.st2[id]? =st[id]?
 wt:∀id,aI s.W id=true→aI s.T id=true
 xw:∀id,aI s.xs id=true→aI s.W id=true∧aI X id=true
 lks:∀t∈Oper.looksAt ops o,cU (fun i=>aI s.T i|| !aI X i) (lk fr t)=true
 ids:cU (fun i=>aI s.T i|| !aI X i) s.a=true
 bod:∀(x:Nat) b,aI s.W x=true→s.st2[x]? =some b→gA (fun i=> !aI X i||((aI s.T i&& !aI s.W i)&&Nat.ble (i+1) st.length)) b=true
 run:(cI ops o (cL ops o fr)=some true∧OX P n X o (cL ops o fr) s st)∨(cI ops o (cL ops o fr)=some false∧s.a= .tp []∧s.W=[]∧s.xs=[])
def mJ(o:Oper)(s:GS)(fr:Fr):Fr:=oM o.dst s.a (jb (fun id=> !aI s.xs id) fr)
def Bc(P:Program)(n:Nat)(ops:Array Oper)(X:List Nat):List Oper→List GS→Fr→St→Prop
 |[],[],_,_=>True
 |o::l,s::ss,fr,st=>Ak P n ops X o s fr st∧Bc P n ops X l ss (mJ o s fr) s.st2
 |_,_,_,_=>False
def sH:List Oper→List GS→Fr→Fr
 |o::l,s::ss,fr=>sH l ss (mJ o s fr)
 |_,_,fr=>fr
def ox:List GS→St→St
 |s::ss,_=>ox ss s.st2
 |[],st=>st
theorem xT:∀{l:List Oper} {ss:List GS} {fr:Fr} {st:St},Bc P n ops X l ss fr st→l.length=ss.length∧∀(i:Nat) o,l[i]? =some o→∃s,ss[i]? =some s∧Ak P n ops X o s (sH (l.take i) (ss.take i) fr) (ox (ss.take i) st)
 |[],[],_,_,_=>⟨rfl,fun i o h=>by simp at h⟩
 |[],_::_,_,_,h=>h.elim
 |_::_,[],_,_,h=>h.elim
 |o::l,s::ss,fr,st,h=>by
  obtain⟨h1,h2⟩:=h
  obtain⟨e1,e2⟩:=xT h2
  refine⟨by simp[e1],fun i o' hi=> ?_⟩
  cases i with
  |zero=>simp at hi;subst hi;exact⟨s,rfl,by simpa [sH,ox]using h1⟩
  |succ i=>
   obtain⟨s',b1,b2⟩:=e2 i o' (by simpa using hi)
   exact⟨s',by simpa using b1,by simpa [sH,ox]using b2⟩
theorem KG{o:Oper}{s:GS}{fr:Fr}{t:Nat}:lk (mJ o s fr) t=if o.dst=some t then s.a else rK (aI s.xs) (lk fr t):=by
 unfold mJ
 cases hd:o.dst with
 |none=>simp[oM,rd,rK]
 |some d=>
  simp only[oM,lk,cA]
  by_cases e:d=t
  ·subst e;simp
  ·have hb:Nat.beq d t=false:=by cases hq:Nat.beq d t with|false=>rfl|true=>exact absurd (kW hq) e
   rw[hb,cond_false,if_neg e,rd]
   rfl
theorem ET:∀(l:List Oper) (ss:List GS) (fr:Fr) (t off:Nat) (g:Nat→AV) (dst:Nat→Option Nat) (av:Nat→AV) (mv:Nat→Nat→Bool),l.length=ss.length→
  (∀i o,l[i]? =some o→dst (off+i)=o.dst)→(∀i s,ss[i]? =some s→av (off+i)=s.a∧mv (off+i)=aI s.xs)→(lk fr t=gJ g dst av mv (fun _=>true) off t)→
  lk (sH l ss fr) t=gJ g dst av mv (fun _=>true) (off+l.length) t
 |[],[],fr,t,off,g,dst,av,mv,_,_,_,h=>by simpa [sH]using h
 |[],_::_,_,_,_,_,_,_,_,hl,_,_,_=>by simp at hl
 |_::_,[],_,_,_,_,_,_,_,hl,_,_,_=>by simp at hl
 |o::l,s::ss,fr,t,off,g,dst,av,mv,hl,hd,ha,h=>by
  have:=ET l ss (mJ o s fr) t (off+1) g dst av mv (by simpa using hl)
   (fun i o' hi=>by have:=hd (i+1) o' (by simpa using hi);rwa [show off+(i+1)=off+1+i by omega]at this)
   (fun i s' hi=>by have:=ha (i+1) s' (by simpa using hi);rwa [show off+(i+1)=off+1+i by omega]at this) ?_
  ·simp only[sH,List.length_cons]
   rw[this,show off+1+l.length=off+(l.length+1) by omega]
  ·have e1:=hd 0 o rfl
   have e2:=ha 0 s rfl
   simp only[Nat.add_zero]at e1 e2
   rw[KG]
   simp only[gJ,if_true,e1,e2.1,e2.2,h]
theorem BE:∀(ss:List GS) (st:St) (id off:Nat) (s0:Nat→Option aV) (wr:Nat→Nat→Bool) (nb:Nat→Nat→Option aV),(∀i s,ss[i]? =some s→wr (off+i)=aI s.W∧(nb (off+i) id=s.st2[id]?))→
  (∀(i:Nat) s,ss[i]? =some s→aI s.W id=false→s.st2[id]? =(ox (ss.take i) st)[id]?)→st[id]? =sJ s0 wr nb (fun _=>true) off id→(ox ss st)[id]? =sJ s0 wr nb (fun _=>true) (off+ss.length) id
 |[],st,id,off,s0,wr,nb,_,_,h=>by simpa [ox]using h
 |s::ss,st,id,off,s0,wr,nb,ha,ho,h=>by
  have:=BE ss s.st2 id (off+1) s0 wr nb
   (fun i s' hi=>by have:=ha (i+1) s' (by simpa using hi);rwa [show off+(i+1)=off+1+i by omega]at this)
   (fun i s' hi hw=>by have:=ho (i+1) s' (by simpa using hi) hw;simpa [ox]using this) ?_
  ·simp only[ox,List.length_cons]
   rw[this,show off+1+ss.length=off+(ss.length+1) by omega]
  ·have e:=ha 0 s rfl
   simp only[Nat.add_zero]at e
   simp only[sJ,true_and,e.1]
   cases hw:aI s.W id with
   |true=>simp only[if_true];exact e.2.symm
   |false=>
    simp only[Bool.false_eq_true,if_false]
    have:=ho 0 s rfl hw
    simp only[List.take_zero,ox]at this
    rw[this];exact h
def F7(s t:GS):Bool:=s.W.any (aI t.T)||s.T.any (aI t.W)
def EZ(ops:Array Oper)(ss:List GS):Bool:=(List.range ss.length).all fun j=>(List.range j).all fun i=>
 match ss[i]?,ss[j]? with
 |some s,some t=> !F7 s t||((sY ops.toList []).getD j 0).testBit i
 |_,_=>false
def I7(X:List Nat)(ss:List GS):Bool:=(List.range ss.length).all fun i=>(List.range i).all fun j=>
 match ss[j]?,ss[i]? with
 |some t,some s=>t.W.isEmpty||t.T.all fun x=>aI t.W x||(Nat.ble x 999||(!aI X (x-1000)|| !aI s.W x))
 |_,_=>false
theorem FC{s t:GS}{id:Nat}(h1:aI s.W id=true)(h2:aI t.T id=true):F7 s t=true:=by
 unfold F7
 rw[Bool.or_eq_true,List.any_eq_true]
 exact .inl ⟨id,d9.1 h1,h2⟩
theorem Hi{s t:GS}{id:Nat}(h1:aI s.T id=true)(h2:aI t.W id=true):F7 s t=true:=by
 unfold F7
 rw[Bool.or_eq_true,List.any_eq_true,List.any_eq_true]
 exact .inr ⟨id,d9.1 h1,h2⟩
theorem lY{s t:St}(hl:s.length=t.length)(h:∀id,id<s.length→s[id]? =t[id]?):s=t:=by
 apply List.ext_getElem?
 intro id
 by_cases hid:id<s.length
 ·exact h id hid
 ·rw[List.getElem?_eq_none (by omega),List.getElem?_eq_none (by omega)]
theorem XW.drawG{id:Nat}{ss:List GS}(m:Nat)(X:List Nat)(he:c= .region id ops true)(hm:P.follows .mixedOrders=true)(hok:(v8 ops&&wD ops m)=true)(hcf:EZ ops ss=true)(hrf:I7 X ss=true)
  (hX0:dq (fun i=> !aI X i) st=true)(hfix:∀id,aI X id=true→nA n0 lz id=false)
  (hs:Bc P n ops X (ops.toList.take m) ss fr st)(hQ:XO P n n0 lz ops (ops.toList.drop m) Q (sH (ops.toList.take m) ss fr) (ox ss st)):XW P n n0 lz c Q fr st:=by
 subst he
 simp only[fM]at hok
 obtain⟨hok,hsuf⟩:=hok
 unfold wD at hsuf
 simp only[fM]at hsuf
 obtain⟨hmN0,hsuf⟩:=hsuf
 have hmN:=n4 hmN0
 have hfull0:∀j,m≤j→j<ops.size→∀i,i<j→((sY ops.toList []).getD j 0).testBit i=true:=by
  intro j h1 h2 i h3
  have:=List.all_eq_true.1 hsuf j (List.mem_range.2 h2)
  rw[Bool.or_eq_true]at this
  rcases this with h|h
  ·rw[Nat.blt_eq]at h;omega
  ·exact List.all_eq_true.1 h i (List.mem_range.2 h3)
 obtain⟨hlen,hstep⟩:=xT hs
 have hms:=rL (ops:=ops) (l:=ops.toList) (ms:=[]) (pre:=[]) (by simp) rfl (fun i j h=>by simp at h)
 have hord:=wa (ops:=ops) (ms:=sY ops.toList []) (l:=ops.toList) (pre:=[]) (j:=0) rfl hok
 have hfull:∀j,m≤j→j<ops.size→∀i,i<j→kw ops i j:=fun j h1 h2 i h3=>hms i j (by simpa using hfull0 j h1 h2 i h3)
 have hback:∀(j:Nat) o,ops[j]? =some o→∀e∈o.after,Region.binds .any e=true→e.on<j:=fun j o ho e he hb=>by
  have:=(hord j o (by simpa using ho)).1 e he hb
  omega
 have hssl:ss.length=m:=by rw[←hlen];simp;omega
 let dst:Nat→Option Nat:=fun i=>(ops[i]?).bind (·.dst)
 let av:Nat→AV:=fun i=>(ss[i]?.map (·.a)).getD .j
 let mv:Nat→Nat→Bool:=fun i=>aI ((ss[i]?.map (·.xs)).getD [])
 let wr:Nat→Nat→Bool:=fun i=>aI ((ss[i]?.map (·.W)).getD [])
 let tch:Nat→Nat→Bool:=fun i=>aI ((ss[i]?.map (·.T)).getD [])
 let nb:Nat→Nat→Option aV:=fun i x=>(ss[i]?.bind fun s=>s.st2[x]?)
 let s0:Nat→Option aV:=fun x=>st[x]?
 have hdst:∀i o,ops[i]? =some o→dst i=o.dst:=fun i o h=>by simp[dst,h]
 have hav:∀i s,ss[i]? =some s→av i=s.a:=fun i s h=>by simp[av,h]
 have hmv:∀i s,ss[i]? =some s→mv i=aI s.xs:=fun i s h=>by simp[mv,h]
 have hwr:∀i s,ss[i]? =some s→wr i=aI s.W:=fun i s h=>by simp[wr,h]
 have htc:∀i s,ss[i]? =some s→tch i=aI s.T:=fun i s h=>by simp[tch,h]
 let tch2:Nat→Nat→Bool:=fun i x=>tch i (x+1000)|| !aI X x
 have htc2:∀i s,ss[i]? =some s→tch2 i=fun x=>aI s.T (x+1000)|| !aI X x:=fun i s h=>by simp only[tch2,htc i s h]
 have hnb:∀i s x,ss[i]? =some s→nb i x=s.st2[x]? :=fun i s x h=>by simp[nb,h]
 have hstepAt:∀i,i<m→∃s,ss[i]? =some s∧∃h:i<ops.size,Ak P n ops X ops[i] s (sH ((ops.toList.take m).take i) (ss.take i) fr) (ox (ss.take i) st):=by
  intro i hi
  have hiN:i<ops.size:=by omega
  obtain⟨s,h1,h2⟩:=hstep i ops[i] (by rw[List.getElem?_take,if_pos hi];simp[hiN])
  exact⟨s,h1,hiN,h2⟩
 have hF_i:∀i,i≤m→∀t,lk (sH ((ops.toList.take m).take i) (ss.take i) fr) t=gJ (lk fr) dst av mv (fun _=>true) i t:=by
  intro i hi t
  have hl:((ops.toList.take m).take i).length=i:=by simp;omega
  have:=ET ((ops.toList.take m).take i) (ss.take i) fr t 0 (lk fr) dst av mv (by rw[hl];simp;omega)
   (fun k o hk=>by
    rw[List.getElem?_take]at hk
    split at hk
    ·rw[List.getElem?_take]at hk
     split at hk
     ·rw[Nat.zero_add];exact hdst k o (by simpa using hk)
     ·cases hk
    ·cases hk)
   (fun k s hk=>by
    rw[List.getElem?_take]at hk
    split at hk
    ·rw[Nat.zero_add];exact⟨hav k s hk,hmv k s hk⟩
    ·cases hk) rfl
  rw[hl,Nat.zero_add]at this
  exact this
 have hS_i:∀i,i≤m→∀x,(ox (ss.take i) st)[x]? =sJ s0 wr nb (fun _=>true) i x:=by
  intro i hi x
  have hl:(ss.take i).length=i:=by simp;omega
  have:=BE (ss.take i) st x 0 s0 wr nb
   (fun k s hk=>by
    rw[List.getElem?_take]at hk
    split at hk
    ·rw[Nat.zero_add];exact⟨hwr k s hk,hnb k s x hk⟩
    ·cases hk)
   (fun k s hk hw=>by
    rw[List.getElem?_take]at hk
    split at hk
    ·rename_i hki
     obtain⟨s',e1,_,e2⟩:=hstepAt k (by omega)
     rw[hk]at e1;cases e1
     rw[List.take_take,Nat.min_eq_left (by omega)]
     exact e2.out x hw
    ·cases hk) rfl
  rw[hl,Nat.zero_add]at this
  exact this
 have hSlen:∀i,i≤m→(ox (ss.take i) st).length=st.length:=by
  intro i
  induction i with
  |zero=>intro _;simp[ox]
  |succ i ih=>
   intro hi
   obtain⟨s,e1,_,e2⟩:=hstepAt i (by omega)
   have:ox (ss.take (i+1)) st=s.st2:=by
    have e3:ss.take (i+1)=ss.take i++[s]:=by
     rw[List.take_add_one,e1];rfl
    rw[e3]
    have app:∀(l:List GS) (st:St),ox (l++[s]) st=s.st2:=by
     intro l
     induction l with
     |nil=>intro _;rfl
     |cons x l ih=>intro _;exact ih _
    exact app _ _
   rw[this,e2.len,ih (by omega)]
 have hconf:∀i j s t,i<j→ss[i]? =some s→ss[j]? =some t→F7 s t=true→kw ops i j:=by
  intro i j s t hij h1 h2 hc
  have hj:=(gN.1 h2).1
  have:=List.all_eq_true.1 (List.all_eq_true.1 hcf j (List.mem_range.2 hj)) i (List.mem_range.2 hij)
  rw[h1,h2]at this
  simp only[hc,Bool.not_true,Bool.false_or]at this
  exact hms i j this
 let sD:(Nat→Bool)→St:=fun D=>Gt st.length (sJ s0 wr nb D m)
 have hsDlen:∀D,(sD D).length=st.length:=fun D=>HL _ _
 have hsome:∀D k x,k≤m→x<st.length→∃b,sJ s0 wr nb D k x=some b:=by
  intro D k x hk hx
  rcases NR (s0:=s0) (wr:=wr) (nb:=nb) (D:=D) (id:=x) k with h|⟨j,h1,h2,h3⟩
  ·rw[h];exact⟨_,gu hx⟩
  ·rw[h3]
   obtain⟨s,e1,_,e2⟩:=hstepAt j (by omega)
   rw[hnb j s x e1]
   have:x<s.st2.length:=by rw[e2.len,hSlen j (by omega)];exact hx
   exact⟨_,gu this⟩
 have hsDget:∀D x,x<st.length→(sD D)[x]? =sJ s0 wr nb D m x:=by
  intro D x hx
  obtain⟨b,hb⟩:=hsome D m x (eo _) hx
  show(Gt st.length (sJ s0 wr nb D m))[x]? =_
  rw[G0 hx,hb];rfl
 intro ι w a hR hF
 refine wp_region_any hm ?_
 have atM:∀(listed:Array Bool) (ι':IM) (w':World) (a':Act),(∀j,j<m→listed.getD j false=true)→eu ι' w' (sD fun j=>listed.getD j false)→wv n ι' w' (sD fun j=>listed.getD j false) a' (gJ (lk fr) dst av mv (fun j=>listed.getD j false) m)→bo (tA n0 lz) ι w st ι' w' (sD fun j=>listed.getD j false)→
   wpList P ops (mI n n0 lz ι w st Q) (ops.toList.drop m) a' w':=by
  intro listed ι' w' a' hall hR' hF' hk
  have gsame:∀k,k≤m→∀t,gJ (lk fr) dst av mv (fun j=>listed.getD j false) k t=gJ (lk fr) dst av mv (fun _=>true) k t:=by
   intro k
   induction k with
   |zero=>intro _ _;rfl
   |succ k ih=>intro hk t;simp only[gJ,hall k (by omega),if_true,ih (by omega)]
  have ssame:∀k,k≤m→∀x,sJ s0 wr nb (fun j=>listed.getD j false) k x=sJ s0 wr nb (fun _=>true) k x:=by
   intro k
   induction k with
   |zero=>intro _ _;rfl
   |succ k ih=>intro hk x;simp only[sJ,hall k (by omega),true_and,ih (by omega)]
  have hst:(sD fun j=>listed.getD j false)=ox ss st:=by
   have hlS:=hSlen m (eo _)
   rw[List.take_of_length_le (by omega)]at hlS
   refine lY (by rw[hsDlen,hlS]) (fun x hx=> ?_)
   rw[hsDlen]at hx
   have h1:=hS_i m (eo _) x
   rw[List.take_of_length_le (by omega)]at h1
   rw[hsDget _ x hx,ssame m (eo _),h1]
  rw[hst]at hR' hF' hk
  have hFm:fU n ι' w' (ox ss st) a' (sH (ops.toList.take m) ss fr):=by
   refine⟨hF'.defers,hF'.size,fun t=> ?_⟩
   have h1:=hF_i m (eo _) t
   rw[List.take_of_length_le (l:=ops.toList.take m) (by simp;omega),List.take_of_length_le (l:=ss) (by omega)]at h1
   rw[h1,←gsame m (eo _)]
   exact hF'.slot t
  exact di (fun e a w h=>h.trans hk) (hQ ι' w' a' hR' hFm)
 have fin:∀{listed:Array Bool} (ι':IM) (w':World) (a':Act),(∀j,j<m→listed.getD j false=true)→eu ι' w' (sD fun j=>listed.getD j false)→wv n ι' w' (sD fun j=>listed.getD j false) a' (gJ (lk fr) dst av mv (fun j=>listed.getD j false) m)→bo (tA n0 lz) ι w st ι' w' (sD fun j=>listed.getD j false)→
   ops.toList.drop m=[]→mI n n0 lz ι w st Q .normal a' w':=by
  intro listed ι' w' a' hall hR' hF' hk he
  have:=atM listed ι' w' a' hall hR' hF' hk
  rw[he]at this
  exact this
 have key:∀(aX:Nat) (listed:Array Bool) (ι':IM) (w':World) (a':Act),listed.size=ops.size→
   (∀j o,ops[j]? =some o→listed.getD j false=true→∀e∈o.after,Region.binds .any e=true→listed.getD e.on false=true)→
   ((List.range ops.size).filter fun j=> !listed.getD j false).length≤aX→
   (∀j,m≤j→listed.getD j false=false)→eu ι' w' (sD fun j=>listed.getD j false)→wv n ι' w' (sD fun j=>listed.getD j false) a' (gJ (lk fr) dst av mv (fun j=>listed.getD j false) m)→bo (tA n0 lz) ι w st ι' w' (sD fun j=>listed.getD j false)→
   wpAny P .any ops (mI n n0 lz ι w st Q) aX listed a' w':=by
  intro aX
  induction aX with
  |zero=>
   intro listed ι' w' a' hls hcl hcnt hlow hR' hF' hk
   have hall:∀j,j<ops.size→listed.getD j false=true:=by
    intro j hj
    cases hq:listed.getD j false with
    |true=>rfl
    |false=>
     have:j∈(List.range ops.size).filter fun j=> !listed.getD j false:=by
      rw[List.mem_filter];exact⟨List.mem_range.2 hj,by simp only[hq];rfl⟩
     have:=List.length_pos_of_mem this
     omega
   have hready:Region.ready .any ops listed=[]:=by
    unfold Region.ready
    rw[List.filter_eq_nil_iff]
    intro j hj
    have hj':=List.mem_range.1 hj
    have:listed.getD j true=true:=by
     have h1:=hall j hj'
     simp[Array.getD,hls,hj']at h1⊢
     exact h1
    simp only[this]
    simp
   refine⟨hready,?_⟩
   have hmE:m=ops.size:=by
    apply Classical.byContradiction
    intro h
    have h1:=hall m (by omega)
    rw[hlow m (eo _)]at h1
    cases h1
   exact fin ι' w' a' (fun j hj=>hall j (by omega)) hR' hF' hk (by rw[hmE];simp)
  |succ aX ih=>
   intro listed ι' w' a' hls hcl hcnt hlow hR' hF' hk
   refine⟨fun hready=> ?_,fun i hi=> ?_⟩
   ·
    have hall:∀j,j<ops.size→listed.getD j false=true:=by
     intro j
     induction j using Nat.strongRecOn with
     |_ j ihj=>
      intro hj
      cases hq:listed.getD j false with
      |true=>rfl
      |false=>
       exfalso
       have hmem:j∈Region.ready .any ops listed:=by
        unfold Region.ready
        rw[List.mem_filter]
        refine⟨List.mem_range.2 hj,?_⟩
        have ho:ops[j]? =some ops[j]:=Array.getElem?_eq_getElem hj
        have h1:listed.getD j true=false:=by
         simp[Array.getD,hls,hj]at hq⊢
         exact hq
        rw[h1,ho]
        simp only[Bool.not_false,Bool.true_and,Option.map_some,Option.getD_some]
        rw[Array.all_eq_true_iff_forall_mem]
        intro e he
        cases hb:Region.binds .any e with
        |false=>rfl
        |true=>
         have hlt:e.on<j:=hback j _ ho e he hb
         rw[ihj e.on hlt (by omega)]
         simp
       rw[hready]at hmem
       cases hmem
    have hmE:m=ops.size:=by
     apply Classical.byContradiction
     intro h
     have h1:=hall m (by omega)
     rw[hlow m (eo _)]at h1
     cases h1
    exact fin ι' w' a' (fun j hj=>hall j (by omega)) hR' hF' hk (by rw[hmE];simp)
   ·
    have hi0:=hi
    unfold Region.ready at hi
    rw[List.mem_filter]at hi
    obtain⟨hi1,hi2⟩:=hi
    have hiN:=List.mem_range.1 hi1
    have ho:ops[i]? =some ops[i]:=Array.getElem?_eq_getElem hiN
    rw[ho]at hi2
    simp only[Option.map_some,Option.getD_some,fM]at hi2
    have hnl:listed.getD i false=false:=by
     have:=hi2.1
     simp[Array.getD,hls,hiN]at this⊢
     exact this
    have hpred:∀e∈ops[i].after,Region.binds .any e=true→listed.getD e.on false=true:=by
     intro e he hb
     have:=Array.all_eq_true_iff_forall_mem.1 hi2.2 e he
     simpa [hb]using this
    have closed:∀p q,kw ops p q→listed.getD q false=true→listed.getD p false=true:=by
     intro p q hbe
     induction hbe with
     |one ho' he hb h=>intro hq;subst h;exact hcl _ _ ho' hq _ he hb
     |more ho' he hb h ihb=>intro hq;exact ihb (hcl _ _ ho' hq _ he hb)
    have ahead:∀p,kw ops p i→listed.getD p false=true:=by
     intro p hbe
     cases hbe with
     |one ho' he hb h=>rw[ho]at ho';cases ho';subst h;exact hpred _ he hb
     |more ho' he hb h=>rw[ho]at ho';cases ho';exact closed p _ h (hpred _ he hb)
    have late:∀q,kw ops i q→listed.getD q false=false:=by
     intro q hbe
     cases hq:listed.getD q false with
     |false=>rfl
     |true=>rw[closed i q hbe hq]at hnl;cases hnl
    by_cases hmi:m≤i
    ·
     have hbel:∀j,j<i→listed.getD j false=true:=fun j hj=>ahead j (hfull i hmi hiN j hj)
     have hallm:∀j,j<m→listed.getD j false=true:=fun j hj=>hbel j (by omega)
     have hlm:∀j,j<ops.size→(listed.getD j false=true↔j<m):=by
      intro j hj
      refine⟨fun h=> ?_,fun h=>hallm j h⟩
      apply Classical.byContradiction
      intro h2
      rw[hlow j (by omega)]at h
      cases h
     have hcount:ops.size≤m+(aX+1):=by
      have e1:((List.range ops.size).filter fun j=> !listed.getD j false)=(List.range ops.size).filter fun j=> !decide (j<m):=by
       apply List.filter_congr
       intro j hj
       have:=hlm j (List.mem_range.1 hj)
       by_cases h:j<m
       ·simp only[this.2 h,h,decide_true]
       ·have h3:listed.getD j false=false:=hlow j (by omega)
        simp only[h3,h,decide_false]
      rw[e1,yM _ hmN]at hcnt
      omega
     have hser:=Bj (P:=P) (Q:=mI n n0 lz ι w st Q) hfull hback (aX+1) m listed a' w' (eo _) hmN hls hlm hcount (atM listed ι' w' a' hallm hR' hF' hk)
     exact hser.2 i hi0
    have hmi':i<m:=by omega
    have touch1:∀j o,j<i→ops[j]? =some o→Oper.apart ops o ops[i]=false→listed.getD j false=true:=by
     intro j o hj hoj hap
     have:=(hord i ops[i] (by simp[hiN])).2 j o (by omega) (by simpa using hoj)
     rcases this with h1|h1
     ·rw[h1]at hap;cases hap
     ·exact ahead j (hms j i (by simpa using h1))
    have touch2:∀j o,i<j→ops[j]? =some o→Oper.apart ops ops[i] o=false→listed.getD j false=false:=by
     intro j o hj hoj hap
     have hjN:j<ops.size:=(Array.getElem?_eq_some_iff.1 hoj).1
     have:=(hord j o (by simpa using hoj)).2 i ops[i] (by omega) (by simp[hiN])
     rcases this with h1|h1
     ·rw[h1]at hap;cases hap
     ·exact late j (hms i j (by simpa using h1))
    obtain⟨s,hsi,_,hG⟩:=hstepAt i hmi'
    have obj1:∀j,j<i→listed.getD j false=false→∀x,wr j x=true→tch i x=false:=by
     intro j hj hnj x hw
     cases ht:tch i x with
     |false=>rfl
     |true=>
      obtain⟨t,htj,_,_⟩:=hstepAt j (by omega)
      rw[hwr j t htj]at hw;rw[htc i s hsi]at ht
      have:=ahead j (hconf j i t s hj htj hsi (FC hw ht))
      rw[hnj]at this;cases this
    have obj2:∀j,i<j→j<m→listed.getD j false=true→(∀x,wr j x=true→tch i x=false)∧(∀x,wr i x=true→tch j x=false):=by
     intro j hj hjm hlj
     obtain⟨t,htj,_,_⟩:=hstepAt j hjm
     refine⟨fun x hw=> ?_,fun x hw=> ?_⟩
     ·cases ht:tch i x with
      |false=>rfl
      |true=>
       rw[hwr j t htj]at hw;rw[htc i s hsi]at ht
       have:=late j (hconf i j s t hj hsi htj (Hi ht hw))
       rw[hlj]at this;cases this
     ·cases ht:tch j x with
      |false=>rfl
      |true=>
       rw[hwr i s hsi]at hw;rw[htc j t htj]at ht
       have:=late j (hconf i j s t hj hsi htj (FC hw ht))
       rw[hlj]at this;cases this
    have mvwr:∀j,j<m→∀x,mv j x=true→wr j x=true:=by
     intro j hj x hx
     obtain⟨t,htj,_,hGt⟩:=hstepAt j hj
     rw[hmv j t htj]at hx;rw[hwr j t htj]
     exact(hGt.xw x hx).1
    have hids:dq (fun k=> !aI s.xs k&&(!aI X k||Nat.ble (k+1) (ox (ss.take i) st).length)) (sD fun j=>listed.getD j false)=true:=by
     have all:∀(q:Nat→Bool) (l:St),(∀(j:Nat) o,l[j]? =some o→gA q o=true)→dq q l=true:=by
      intro q l
      induction l with
      |nil=>intro _;rfl
      |cons b l ih=>
       intro h
       simp only[dq,fM]
       exact⟨h 0 b rfl,ih (fun j o hj=>h (j+1) o (by simpa using hj))⟩
     refine all _ _ (fun x o ho=> ?_)
     have hx:x<st.length:=by rw[←hsDlen fun j=>listed.getD j false];exact(gN.1 ho).1
     rw[hsDget _ x hx]at ho
     rcases LK (s0:=s0) (wr:=wr) (nb:=nb) (D:=fun j=>listed.getD j false) (id:=x) m with h|⟨j,h1,h2,h3,h4⟩
     ·rw[h]at ho
      refine eD (fun k hk=> ?_) o (iK hX0 x o ho)
      rw[hk,Bool.true_or,Bool.and_true]
      cases hxs:aI s.xs k with
      |false=>rfl
      |true=>rw[(hG.xw k hxs).2.2]at hk;cases hk
     ·rw[h4]at ho
      obtain⟨t,htj,_,hGt⟩:=hstepAt j h1
      rw[hnb j t x htj]at ho
      have hwx:aI t.W x=true:=by rw[hwr j t htj]at h3;exact h3
      refine eD (fun k hk=> ?_) o (hGt.bod x o hwx ho)
      have hlen2:(ox (ss.take j) st).length=(ox (ss.take i) st).length:=by rw[hSlen j (by omega),hSlen i (by omega)]
      rw[hlen2]at hk
      rw[fM]
      constructor
      ·cases hxs:aI s.xs k with
       |false=>rfl
       |true=>
        exfalso
        obtain⟨_,hW,hXk⟩:=hG.xw k hxs
        rw[hXk]at hk
        simp only[Bool.not_true,Bool.false_or,fM]at hk
        obtain⟨⟨hTk,hWk⟩,_⟩:=hk
        rcases Nat.lt_trichotomy i j with hij|hij|hij
        ·have:=(obj2 j hij h1 h2).2 (k+1000) (by rw[hwr i s hsi];exact hW)
         rw[htc j t htj,hTk]at this;cases this
        ·subst hij
         have h2':listed.getD i false=true:=h2
         rw[hnl]at h2';cases h2'
        ·have hr:=List.all_eq_true.1 (List.all_eq_true.1 hrf i (List.mem_range.2 (by rw[hssl];exact hmi'))) j (List.mem_range.2 hij)
         rw[htj,hsi]at hr
         simp only[Bool.or_eq_true]at hr
         rcases hr with hr|hr
         ·have:t.W=[]:=by simpa using hr
          rw[this]at hwx;simp[aI]at hwx
         ·have:=List.all_eq_true.1 hr (k+1000) (d9.1 hTk)
          rw[Nat.add_sub_cancel,hXk,hW,show Nat.ble (k+1000) 999=false by
           cases hb:Nat.ble (k+1000) 999 with
           |false=>rfl
           |true=>have:=n4 hb;omega]at this
          simp only[Bool.not_true,Bool.or_false]at this
          rw[this]at hWk;cases hWk
      ·rw[Bool.or_eq_true]at hk⊢
       rcases hk with hk|hk
       ·exact .inl hk
       ·rw[fM]at hk;exact .inr hk.2
    have mvwr2:∀j,j<m→∀x,mv j x=true→wr j (x+1000)=true:=by
     intro j hj x hx
     obtain⟨t,htj,_,hGt⟩:=hstepAt j hj
     rw[hmv j t htj]at hx;rw[hwr j t htj]
     exact(hGt.xw x hx).2.1
    have tof:∀i j x,j<m→mv j x=true→tch i (x+1000)=false→tch2 i x=false:=by
     intro i j x hj hx h
     obtain⟨t,htj,_,ht⟩:=hstepAt j hj
     rw[hmv j t htj]at hx
     show(tch i (x+1000)|| !aI X x)=false
     rw[h,(ht.xw x hx).2.2];rfl
    have wrtc:∀j,j<m→∀x,wr j x=true→tch j x=true:=by
     intro j hj x hx
     obtain⟨t,htj,_,hGt⟩:=hstepAt j hj
     rw[hwr j t htj]at hx;rw[htc j t htj]
     exact hGt.wt x hx
    have hdi:dst i=ops[i].dst:=hdst i ops[i] ho
    have dstof:∀j t,dst j=some t→∃o,ops[j]? =some o∧o.dst=some t:=by
     intro j t hd
     simp only[dst]at hd
     cases hq:ops[j]? with
     |none=>simp[hq]at hd
     |some o=>exact⟨o,rfl,by simpa [hq]using hd⟩
    have hFi:fU n ι' w' (sD fun j=>listed.getD j false) a' (cL ops ops[i] (sH ((ops.toList.take m).take i) (ss.take i) fr)):=by
     refine⟨hF'.defers,hF'.size,fun t=> ?_⟩
     unfold cL
     have lkr:lk (restr (Oper.looksAt ops ops[i]) (lk (sH ((ops.toList.take m).take i) (ss.take i) fr))) t= .j∨(t∈Oper.looksAt ops ops[i]∧lk (restr (Oper.looksAt ops ops[i]) (lk (sH ((ops.toList.take m).take i) (ss.take i) fr))) t=lk (sH ((ops.toList.take m).take i) (ss.take i) fr) t):=by
      generalize Oper.looksAt ops ops[i]=ts
      induction ts with
      |nil=>exact .inl rfl
      |cons x l ihl=>
       simp only[restr,List.map_cons,lk]
       cases hb:Nat.beq x t with
       |true=>have:=kW hb;subst this;exact .inr ⟨by simp,rfl⟩
       |false=>
        rcases ihl with h|⟨h1,h2⟩
        ·exact .inl h
        ·exact .inr ⟨by simp[h1],h2⟩
     rcases lkr with h|⟨ht,h⟩
     ·rw[h];exact .j _
     ·rw[h,hF_i i (by omega) t]
      have hT:cU (tch2 i) (gJ (lk fr) dst av mv (fun _=>true) i t)=true:=by
       rw[←hF_i i (by omega) t,htc2 i s hsi];exact hG.lks t ht
      have:=Kf (fr0:=lk fr) (dst:=dst) (av:=av) (mv:=mv) (tch:=tch2) (D:=fun j=>listed.getD j false) (i:=i) (N:=m) (t:=t) hmi' hnl hT
       (fun j hj hnj hd=>by
        obtain⟨o,ho',hdo⟩:=dstof j t hd
        have:=touch1 j o hj ho' (by
         cases hap:Oper.apart ops o ops[i]with
         |false=>rfl
         |true=>exact absurd ht ((Oper.apart_spec hap).1 t hdo))
        rw[hnj]at this;cases this)
       (fun j hj hjm hlj=>by
        refine⟨fun hd=> ?_,fun x hx=>tof i j x hjm hx ((obj2 j hj hjm hlj).1 (x+1000) (mvwr2 j hjm x hx))⟩
        obtain⟨o,ho',hdo⟩:=dstof j t hd
        have:=touch2 j o hj ho' (by
         cases hap:Oper.apart ops ops[i] o with
         |false=>rfl
         |true=>exact absurd ht ((Oper.apart_spec hap).2.2 t hdo))
        rw[hlj]at this;cases this)
      rcases this with e|e
      ·rw[e];exact .j _
      ·rw[←e];exact hF'.slot t
    have hset:∀j,(listed.setIfInBounds i true).getD j false=if j=i then true else listed.getD j false:=by
     intro j
     by_cases e:j=i
     ·subst e
      simp[Array.getD,hls,hiN]
     ·by_cases hj:j<listed.size
      ·simp[Array.getD,hj,e,Array.getElem_setIfInBounds_ne,Ne.symm e]
      ·simp[Array.getD,hj,e]
    have hset':(fun j=>(listed.setIfInBounds i true).getD j false)=fun j=>if j=i then true else listed.getD j false:=funext hset
    have hSt:sD (fun j=>if j=i then true else listed.getD j false)=eZ (aI s.W) 0 (sD fun j=>listed.getD j false) s.st2:=by
     have hl2:s.st2.length=st.length:=by rw[hG.len,hSlen i (by omega)]
     have hle:(sD fun j=>listed.getD j false).length≤s.st2.length:=by rw[hsDlen,hl2];exact eo _
     refine lY (by rw[hsDlen,cC _ _ _ hle,hl2]) (fun x hx=> ?_)
     rw[hsDlen]at hx
     rw[hsDget _ x hx,dP _ _ _ _ hle,Nat.zero_add,hsDlen,hsDget _ x hx]
     have hp:=LD (s0:=s0) (wr:=wr) (nb:=nb) (D:=fun j=>listed.getD j false) (i:=i) (N:=m) (id:=x) hmi' hnl
      (fun j hj hjm hlj hwi=>by
       cases hwj:wr j x with
       |false=>rfl
       |true=>
        have h1:=(obj2 j hj hjm hlj).2 x hwi
        rw[wrtc j hjm x hwj]at h1;cases h1)
     rw[hp,hwr i s hsi,hnb i s x hsi]
     cases hw:aI s.W x with
     |true=>simp[hx]
     |false=>simp[hx]
    have next:∀v w'' ι'',aN ι'' w'' (eZ (aI s.W) 0 (sD fun j=>listed.getD j false) s.st2) v s.a→eu ι'' w'' (eZ (aI s.W) 0 (sD fun j=>listed.getD j false) s.st2)→
      bo (fun id=>aI s.xs id=false) ι' w' (sD fun j=>listed.getD j false) ι'' w'' (eZ (aI s.W) 0 (sD fun j=>listed.getD j false) s.st2)→
      wpAny P .any ops (mI n n0 lz ι w st Q) aX (listed.setIfInBounds i true) (a'.put ops[i].dst v) w'':=by
     intro v w'' ι'' hv hR'' hk''
     rw[←hSt]at hv hR'' hk''
     refine ih _ ι'' w'' _ (by simpa using hls) ?_ ?_ (fun j hj=>by rw[hset,if_neg (by omega)];exact hlow j hj) (by rw[hset'];exact hR'') ?_ (by
      rw[hset']
      refine hk.trans (hk''.weaken (fun x hx=> ?_))
      cases hxx:aI s.xs x with
      |false=>rfl
      |true=>
       have:=hfix x (hG.xw x hxx).2.2
       rw[show nA n0 lz x=true from hx]at this;cases this)
     ·intro j o hoj hj e he hb
      rw[hset]at hj⊢
      by_cases e1:e.on=i
      ·rw[if_pos e1]
      ·rw[if_neg e1]
       by_cases e2:j=i
       ·subst e2
        rw[ho]at hoj;cases hoj
        exact hpred e he hb
       ·rw[if_neg e2]at hj
        exact hcl j o hoj hj e he hb
     ·have:=zU (N:=ops.size) (i:=i) (D:=fun j=>listed.getD j false) hiN hnl
      simp only[hset]
      omega
     ·rw[hset']
      refine⟨?_,?_,fun t=> ?_⟩
      ·cases hq:ops[i].dst<;>simp[Act.put,hF'.defers]
      ·cases hq:ops[i].dst<;>simp[Act.put,hF'.size]
      ·have hp:=Mb (fr0:=lk fr) (dst:=dst) (av:=av) (mv:=mv) (tch:=tch2) (D:=fun j=>listed.getD j false) (i:=i) (N:=m) (t:=t) hmi' hnl (by rw[hav i s hsi,htc2 i s hsi];exact hG.ids)
        (fun k hk1 hk2 hk3=>by
         obtain⟨tt,e1,_,e2⟩:=hstepAt k hk2
         rw[hav k tt e1,htc2 k tt e1];exact e2.ids)
        (fun j hj hjm hlj=>by
         refine⟨fun d hd hdj=> ?_,fun x hx=>tof i j x hjm hx ((obj2 j hj hjm hlj).1 (x+1000) (mvwr2 j hjm x hx)),fun x hx=>tof j i x hmi' hx ((obj2 j hj hjm hlj).2 (x+1000) (mvwr2 i hmi' x hx))⟩
         obtain⟨o,ho',hdo⟩:=dstof j d hdj
         have:=touch2 j o hj ho' (by
          cases hap:Oper.apart ops ops[i] o with
          |false=>rfl
          |true=>exact absurd hdo ((Oper.apart_spec hap).2.1 d (hdi▸hd)))
         rw[hlj]at this;cases this)
       rw[hp]
       by_cases hdt:dst i=some t
       ·rw[if_pos hdt,hav i s hsi]
        rw[hdi]at hdt
        have hlt:=hG.bd t hdt
        have e3:(a'.put ops[i].dst v).tmps.getD t undef=v:=by
         rw[hdt]
         simp[Act.put,hF'.size,hlt]
        rw[e3];exact hv
       ·rw[if_neg hdt,hmv i s hsi]
        have e3:(a'.put ops[i].dst v).tmps.getD t undef=a'.tmps.getD t undef:=by
         cases hq:ops[i].dst with
         |none=>rfl
         |some d=>
          have:d≠t:=by rintro rfl;exact hdt (hdi.trans hq)
          simp[Act.put,this]
        rw[e3]
        unfold rK
        cases hid:cU (fun id=> !aI s.xs id) (gJ (lk fr) dst av mv (fun j=>listed.getD j false) m t)with
        |false=>exact .j _
        |true=>exact(hF'.slot t).mono hk'' (q:=fun id=> !aI s.xs id) (fun x hx _=>by simpa using hx) hid
    unfold wpOp
    rw[ho]
    simp only
    rcases hG.run with⟨hg,hy⟩ |⟨hg,e1,e2,e3⟩
    ·have hw:=cF hg hFi
     rw[if_pos hw]
     refine .inl (hy (sD fun j=>listed.getD j false) ι' w' a' (by rw[hsDlen,hSlen i (by omega)]) (fun x hx=> ?_) hids hR' hFi _ _ next)
     by_cases hxl:x<st.length
     ·rw[hsDget _ x hxl,hS_i i (by omega) x]
      refine Kt (D:=fun j=>listed.getD j false) hmi' hnl (fun j hj hnj=> ?_) (fun j hj hjm hlj=> ?_)
      ·cases hwj:wr j x with
       |false=>rfl
       |true=>
        have:=obj1 j hj hnj x hwj
        rw[htc i s hsi,hx]at this;cases this
      ·cases hwj:wr j x with
       |false=>rfl
       |true=>
        have:=(obj2 j hj hjm hlj).1 x hwj
        rw[htc i s hsi,hx]at this;cases this
     ·rw[List.getElem?_eq_none (by rw[hsDlen];omega),List.getElem?_eq_none (by rw[hSlen i (by omega)];omega)]
    ·have hw:=cF hg hFi
     rw[if_neg (by rw[hw];simp)]
     have hov:eZ (aI s.W) 0 (sD fun j=>listed.getD j false) s.st2=sD fun j=>listed.getD j false:=by
      have hl2:s.st2.length=st.length:=by rw[hG.len,hSlen i (by omega)]
      have hle:(sD fun j=>listed.getD j false).length≤s.st2.length:=by rw[hsDlen,hl2];exact eo _
      refine lY (by rw[cC _ _ _ hle,hl2,hsDlen]) (fun x hx=> ?_)
      rw[cC _ _ _ hle,hl2]at hx
      rw[dP _ _ _ _ hle,hsDlen,e2]
      simp[aI,hx]
     have:=next undef w' ι' (by rw[e1];exact sE) (by rw[hov];exact hR') (by rw[hov];exact .refl)
     exact this
 have h0:(sD fun j=>(Array.replicate ops.size false).getD j false)=st:=by
  refine lY (hsDlen _) (fun x hx=> ?_)
  rw[hsDlen]at hx
  rw[hsDget _ x hx]
  have:∀k,sJ s0 wr nb (fun j=>(Array.replicate ops.size false).getD j false) k x=s0 x:=by
   intro k
   induction k with
   |zero=>rfl
   |succ k ih=>
    simp only[sJ]
    rw[if_neg (by simp[Array.getD]),ih]
  exact this m
 refine key ops.size _ ι {w with drawn:=w.drawn+1} a (by simp) ?_ ?_ (fun j _=>by simp[Array.getD]) (by rw[h0];exact hR.ext (m6.drew w)) ?_ (by rw[h0];exact((m6.drew w).keeps ι st).weaken (fun _ _=>trivial))
 ·intro j o ho hj
  simp[Array.getD]at hj
 ·refine Nat.le_trans (List.length_filter_le _ _) (by simp)
 ·rw[h0]
  refine⟨hF.defers,hF.size,fun t=> ?_⟩
  have:∀k,gJ (lk fr) dst av mv (fun j=>(Array.replicate ops.size false).getD j false) k t=lk fr t:=by
   intro k
   induction k with
   |zero=>rfl
   |succ k ih=>
    simp only[gJ]
    rw[if_neg (by simp[Array.getD]),ih]
  rw[this m]
  exact(hF.slot t).mono' ((m6.drew w).keeps ι st)
end
section
variable {P:Program} {n n0:Nat} {lz an:List Nat} {Q:QT} {fr:Fr} {st:St} {c:Code} {ops:Array Oper} {X:List Nat}
def tJ:aV→Bool
 | .dead=>true
 |_=>false
def sr(T:Nat→Bool):Nat→St→Bool
 |_,[]=>true
 |i,b::l=>(T i||tJ b)&&sr T (i+1) l
theorem oW{T:Nat→Bool}:∀{st:St} {i:Nat},sr T i st=true→∀j,j<st.length→T (i+j)=false→st[j]? =some .dead
 |[],i,_,j,hj,_=>by simp at hj
 |b::l,i,h,j,hj,hT=>by
  simp only[sr,fM,Bool.or_eq_true]at h
  cases j with
  |zero=>
   rw[Nat.add_zero]at hT
   rcases h.1 with h1|h1
   ·rw[h1]at hT;cases hT
   ·cases b<;>simp[tJ]at h1⊢
  |succ j=>
   have:=oW h.2 j (by simpa using hj) (by rw[show i+1+j=i+(j+1) by omega];exact hT)
   simpa using this
theorem Bx{T:Nat→Bool}{st st':St}(hl:st'.length=st.length)(h:∀id,T id=true→st'[id]? =st[id]?):fb T 0 st'=fb T 0 st:=by
 refine lY (by rw[dj,dj,hl]) (fun id hid=> ?_)
 rw[ij,ij,Nat.zero_add]
 rw[dj]at hid
 cases hT:T id with
 |true=>rw[h id hT]
 |false=>
  rw[gu (by omega),gu (show id<st.length by omega)]
  rfl
theorem Ku{T:Nat→Bool}{a b m:St}(h1:a.length=b.length)(h2:b.length≤m.length):eZ T 0 a (eZ T 0 b m)=eZ T 0 a m:=by
 refine lY (by rw[cC _ _ _ (by rw[cC _ _ _ h2];omega),cC _ _ _ h2,cC _ _ _ (by omega)]) (fun id hid=> ?_)
 rw[dP _ _ _ _ (by rw[cC _ _ _ h2];omega),dP _ _ _ _ h2,dP _ _ _ _ (by omega),Nat.zero_add,h1]
 by_cases hc:id<b.length∧T id=false
 ·simp[hc]
 ·simp[hc]
theorem Cu{T:Nat→Bool}{a:St}:eZ T 0 a (fb T 0 a)=a:=by
 refine lY (by rw[cC _ _ _ (by rw[dj];exact eo _),dj]) (fun id hid=> ?_)
 rw[dP _ _ _ _ (by rw[dj];exact eo _),ij,Nat.zero_add]
 rw[cC _ _ _ (by rw[dj];exact eo _),dj]at hid
 cases hT:T id with
 |true=>
  rw[gu hid]
  simp
 |false=>simp[hid]
theorem wM{a b:St}(h:a.length=b.length):eZ (aI []) 0 a b=a:=by
 refine lY (by rw[cC _ _ _ (by omega),h]) (fun id hid=> ?_)
 rw[cC _ _ _ (by omega)]at hid
 rw[dP _ _ _ _ (by omega)]
 simp[aI,h,hid]
theorem rh{mu:Bool}{o:Oper}{hs:HS}{out:rT}{T:List Nat}(xs:List Nat)(h:ev P mu o fr (fb (aI T) 0 st) hs=some out)(hob:eH out.ob)(hlen:st.length≤out.st.length)(hmv:∀m,out.mv=some m→aI T m=true∧aI xs m=true)
  (hdead:∀id,id<st.length→aI T id=false→out.st[id]? =some .dead){st':St}{ι:IM}{w:World}{act:Act}(hl:st'.length=st.length)(hT:∀id,aI T id=true→st'[id]? =st[id]?)(hX:dq (fun i=> !aI xs i) st'=true)
  (hR:eu ι w st')(hF:fU n ι w st' act fr):
  ∃v w' ι',(((execOp act.eval o).run P w= .ok (.value v) w')∨((execOp act.eval o).run P w= .ok .skip w'∧v=undef))∧eu ι' w' (eZ (aI T) 0 st' out.st)∧aN ι' w' (eZ (aI T) 0 st' out.st) v out.av∧
   bo (fun id=>iB out.mv id=true) ι w st' ι' w' (eZ (aI T) 0 st' out.st):=by
 rw[←Bx hl hT]at h
 have hRm:=hR.mask (aI T)
 have hFm:fU n (aside (aI T) ι st') w (fb (aI T) 0 st') act fr:=
  ⟨hF.defers,hF.size,fun t=>(hF.slot t).chg (fun b hb=>uy.1 hb) (by rw[dj];exact eo _) (fun _=>rfl)⟩
 obtain⟨v,w',ι2,hrun,hR2,hv,k⟩:=uo h hob hRm hFm
 obtain⟨r1,m1,k1⟩:=hR.unmask (T:=aI T) (by rw[hl];exact hlen) hR2 k
  (fun id hTf _=>by
   unfold iB
   cases hm:out.mv with
   |none=>rfl
   |some m=>
    have:id≠m:=by rintro rfl;rw[(hmv id hm).1]at hTf;cases hTf
    simp only[Bool.not_eq_true']
    cases hb:Nat.beq id m with
    |false=>rfl
    |true=>exact absurd (kW hb) this)
  (fun id o ho _=>eD (fun i hi=>by
   unfold iB
   cases hm:out.mv with
   |none=>rfl
   |some m=>
    have:i≠m:=by rintro rfl;simp[(hmv i hm).2]at hi
    simp only[Bool.not_eq_true']
    cases hb:Nat.beq i m with
    |false=>rfl
    |true=>exact absurd (kW hb) this) o (iK hX id o ho))
  (fun id hid hTf=>hdead id (by omega) hTf)
 exact⟨v,w',⟨ι2.m,ι.amb⟩,hrun,r1,hv.chg m1 (by rw[cC _ _ _ (by rw[hl];exact hlen)];exact eo _) (fun _=>rfl),k1⟩
theorem pI{o:Oper}{act:Act}{w w':World}{v:Value}{K:Act→World→Prop}{Q:Exit→Act→World→Prop}(h:((execOp act.eval o).run P w= .ok (.value v) w')∨((execOp act.eval o).run P w= .ok .skip w'∧v=undef))(hK:K (act.put o.dst v) w'):o.wp P act w K Q:=by
 rcases h with h|⟨h,rfl⟩<;>simp only[Oper.wp,h,Oper.upon]<;>exact hK
def HO:CV→List Nat
 | .pv _=>[]
 | .pt id _ _ _=>[id]
 | .mp id=>[id]
 | .cl _=>[]
 | .sl id _ _ _=>[id]
 | .fn _ caps=>go caps
 where
 go:List CV→List Nat
  |[]=>[]
  |c::l=>HO c++go l
def IA:List CV→List Nat
 |[]=>[]
 |c::l=>HO c++IA l
def KM:AV→List Nat
 | .j=>[]
 | .one c=>HO c
 | .ag cs=>IA cs
 | .tp vs=>go vs
 where
 go:List AV→List Nat
  |[]=>[]
  |a::l=>KM a++go l
def bO(ops:Array Oper)(o:Oper)(fr:Fr):List Nat:=(Oper.looksAt ops o).flatMap fun t=>KM (lk fr t)
def qX(ops:Array Oper)(o:Oper)(fr:Fr)(T:List Nat):Bool:=(Oper.looksAt ops o).all fun t=>cU (aI T) (lk fr t)
def kK(n:Nat)(o:Oper):Bool:=match o.dst with
 |some d=>Nat.ble (d+1) n
 |none=>true
theorem lJ{o:Oper}(h:kK n o=true):∀d,o.dst=some d→d<n:=by
 intro d hd
 unfold kK at h
 rw[hd]at h
 exact n4 h
theorem Kk{T:List Nat}{a:AV}(h:cU (aI T) a=true):cU (fun i=>aI T i|| !aI X i) a=true:=kq (fun i hi=>by rw[hi];rfl) a h
theorem qb{o:Oper}{T:List Nat}(h:qX ops o fr T=true):∀t∈Oper.looksAt ops o,cU (fun i=>aI T i|| !aI X i) (lk fr t)=true:=fun t ht=>Kk (List.all_eq_true.1 h t ht)
def Fd(X T:List Nat):List Nat:=(T.filter (aI X)).map (·+1000)
def lX(X T:List Nat):List Nat:=T++Fd X T
theorem ll{a b:List Nat}{i:Nat}:aI (a++b) i=(aI a i||aI b i):=by simp[aI]
theorem Bp{X T:List Nat}{i:Nat}(h1:aI T i=true)(h2:aI X i=true):aI (Fd X T) (i+1000)=true:=
 d9.2 (List.mem_map.2 ⟨i,List.mem_filter.2 ⟨d9.1 h1,h2⟩,rfl⟩)
theorem AB{l:List Nat}{i:Nat}(h:i<1000):aI (l.map (·+1000)) i=false:=by
 cases hb:aI (l.map (·+1000)) i with
 |false=>rfl
 |true=>obtain⟨j,_,e⟩:=List.mem_map.1 (d9.1 hb);omega
theorem BT{l:List Nat}{i:Nat}:aI (l.map (·+1000)) (i+1000)=aI l i:=by
 cases hb:aI l i with
 |true=>exact d9.2 (List.mem_map.2 ⟨i,d9.1 hb,rfl⟩)
 |false=>
  cases hc:aI (l.map (·+1000)) (i+1000)with
  |false=>rfl
  |true=>
   obtain⟨j,h1,e⟩:=List.mem_map.1 (d9.1 hc)
   have:j=i:=by omega
   subst this
   rw[d9.2 h1]at hb;cases hb
def C4(st:St)(T:List Nat):Bool:=Nat.ble st.length 1000&&T.all (fun x=>Nat.ble (x+1) 1000)
theorem IG{W V:List Nat}{a m:St}(h1:a.length≤m.length)(h2:a.length≤1000)(h3:m.length=a.length):eZ (aI (W++V.map (·+1000))) 0 a m=eZ (aI W) 0 a m:=by
 refine lY (by rw[cC _ _ _ h1,cC _ _ _ h1]) (fun id hid=> ?_)
 rw[cC _ _ _ h1]at hid
 have y1:(eZ (aI (W++V.map (·+1000))) 0 a m)[id]? =if id<a.length∧aI (W++V.map (·+1000)) id=false then a[id]? else m[id]? :=by rw[dP _ _ _ _ h1,Nat.zero_add]
 have y2:(eZ (aI W) 0 a m)[id]? =if id<a.length∧aI W id=false then a[id]? else m[id]? :=by rw[dP _ _ _ _ h1,Nat.zero_add]
 rw[y1,y2,ll,AB (show id<1000 by omega),Bool.or_false]
theorem DF.up{o:Oper}{s:GS}(h:DF P n ops X o s fr st)(hq:C4 st s.T=true):Ak P n ops X o ⟨s.a,lX X s.T,s.W++s.xs.map (·+1000),s.xs,s.st2⟩ fr st:=by
 unfold C4 at hq
 rw[fM]at hq
 have hl:=n4 hq.1
 have hT:∀i,aI s.T i=true→i<1000:=fun i hi=>n4 (List.all_eq_true.1 hq.2 i (d9.1 hi))
 have wk:∀i,(aI s.T i|| !aI X i)=true→(aI (lX X s.T) (i+1000)|| !aI X i)=true:=by
  intro i hi
  cases hx:aI X i with
  |false=>simp
  |true=>
   rw[hx]at hi
   simp only[Bool.not_true,Bool.or_false]at hi⊢
   unfold lX
   rw[ll,Bp hi hx,Bool.or_true]
 refine⟨h.bd,h.len,fun id hid=>h.out id ?_,fun id hid=> ?_,fun id hid=> ?_,fun t ht=>kq wk _ (h.lks t ht),kq wk _ h.ids,fun x b hx hb=> ?_,?_⟩
 ·show aI s.W id=false
  have hid':aI (s.W++s.xs.map (·+1000)) id=false:=hid
  rw[ll,Bool.or_eq_false_iff]at hid'
  exact hid'.1
 ·have hid':aI (s.W++s.xs.map (·+1000)) id=true:=hid
  show aI (lX X s.T) id=true
  unfold lX
  rw[ll,Bool.or_eq_true]at hid'
  rw[ll,Bool.or_eq_true]
  rcases hid' with h1|h1
  ·exact .inl (h.wt id h1)
  ·obtain⟨j,hj,rfl⟩:=List.mem_map.1 (d9.1 h1)
   obtain⟨h2,h3⟩:=h.xw j (d9.2 hj)
   exact .inr (Bp (h.wt j h2) h3)
 ·obtain⟨h2,h3⟩:=h.xw id hid
  refine⟨?_,?_,h3⟩
  ·show aI (s.W++s.xs.map (·+1000)) id=true
   rw[ll,h2,Bool.true_or]
  ·show aI (s.W++s.xs.map (·+1000)) (id+1000)=true
   have hid':aI s.xs id=true:=hid
   rw[ll,BT,hid',Bool.or_true]
 ·have hx':aI (s.W++s.xs.map (·+1000)) x=true:=hx
  have hxl:x<1000:=by
   have h1:=(gN.1 hb).1
   have h2:=h.len
   have h3:x<s.st2.length:=h1
   omega
  rw[ll,AB hxl,Bool.or_false]at hx'
  refine eD (fun i hi=> ?_) b (h.bod x b hx' hb)
  show(!aI X i||((aI (lX X s.T) (i+1000)&& !aI (s.W++s.xs.map (·+1000)) (i+1000))&&Nat.ble (i+1) st.length))=true
  cases hX:aI X i with
  |false=>rfl
  |true=>
   rw[hX]at hi
   simp only[Bool.not_true,Bool.false_or,fM]at hi⊢
   obtain⟨⟨i1,i2⟩,i3⟩:=hi
   refine⟨⟨?_,?_⟩,i3⟩
   ·unfold lX;rw[ll,Bp i1 hX,Bool.or_true]
   ·rw[ll,BT]
    have w1:aI s.W (i+1000)=false:=by
     cases hw:aI s.W (i+1000)with
     |false=>rfl
     |true=>have:=hT _ (h.wt _ hw);omega
    have w2:aI s.xs i=false:=by
     cases hw:aI s.xs i with
     |false=>rfl
     |true=>rw[(h.xw i hw).1]at i2;cases i2
    rw[w1,w2];rfl
 ·rcases h.run with⟨hg,hy⟩ |⟨hg,e1,e2,e3⟩
  ·refine .inl ⟨hg,?_⟩
   intro st' ι w act hl' hT' hX hR hF K Q hK
   refine hy st' ι w act hl' (fun id hid=>hT' id (by show aI (lX X s.T) id=true;unfold lX;rw[ll,hid,Bool.true_or])) hX hR hF K Q ?_
   have hlen:=h.len
   have e:eZ (aI (s.W++s.xs.map (·+1000))) 0 st' s.st2=eZ (aI s.W) 0 st' s.st2:=IG (by omega) (by omega) (by omega)
   intro v w' ι' q1 q2 q3
   exact hK v w' ι' (by show aN _ _ (eZ (aI (s.W++s.xs.map (·+1000))) 0 st' s.st2) _ _;rw[e];exact q1) (by show eu _ _ (eZ (aI (s.W++s.xs.map (·+1000))) 0 st' s.st2);rw[e];exact q2) (by show bo _ _ _ _ _ _ (eZ (aI (s.W++s.xs.map (·+1000))) 0 st' s.st2);rw[e];exact q3)
  ·exact .inr ⟨hg,e1,by show s.W++s.xs.map (·+1000)=[];rw[e2,e3];rfl,e3⟩
def Oz:Op→Bool
 | .move _| .assign _| .pick .. | .nilCheck _| .fieldAddr .. | .field .. | .extract .. | .build .. | .makeFunc .. | .binOp .. | .unOp .. | .indexAddr .. =>true
 | .call ⟨.builtin .len,_,_⟩=>true
 |_=>false
def na(ops:Array Oper)(X:List Nat)(o:Oper)(fr:Fr):List Nat:=bif Oz o.op then Fd X (bO ops o fr)else lX X (bO ops o fr)
def la(ops:Array Oper)(X:List Nat)(o:Oper)(fr:Fr)(T:List Nat):Bool:=(Oper.looksAt ops o).all fun t=>cU (fun i=>aI T (i+1000)|| !aI X i) (lk fr t)
theorem lI{o:Oper}{T:List Nat}(h:la ops X o fr T=true):∀t∈Oper.looksAt ops o,cU (fun i=>aI T (i+1000)|| !aI X i) (lk fr t)=true:=fun t ht=>List.all_eq_true.1 h t ht
def GX(P:Program)(n:Nat)(ops:Array Oper)(X:List Nat)(l:List Oper)(tw:List (List Nat×List Nat))(fr:Fr)(st:St)(fr':Fr)(st':St):Prop:=
 ∃ss,Bc P n ops X l ss fr st∧ss.map (fun s=>(s.T,s.W))=tw∧sH l ss fr=fr'∧ox ss st=st'
theorem GX.done{l:List Oper}(he:l=[]):GX P n ops X l [] fr st fr st:=by
 subst he
 exact⟨[],trivial,rfl,rfl,rfl⟩
theorem GX.cons{o:Oper}{l:List Oper}{tw:List (List Nat×List Nat)}{s:GS}{fr2:Fr}{st2:St}(h:Ak P n ops X o s fr st)(hk:GX P n ops X l tw (mJ o s fr) s.st2 fr2 st2):GX P n ops X (o::l) ((s.T,s.W)::tw) fr st fr2 st2:=by
 obtain⟨ss,h1,h2,h3,h4⟩:=hk
 exact⟨s::ss,⟨h,h1⟩,by simp[h2],h3,h4⟩
theorem GX.cons0{o:Oper}{l:List Oper}{tw:List (List Nat×List Nat)}{s:GS}{fr2:Fr}{st2:St}(hq:C4 st s.T=true)(h:DF P n ops X o s fr st)(hk:GX P n ops X l tw (mJ o s fr) s.st2 fr2 st2):
 GX P n ops X (o::l) ((lX X s.T,s.W++s.xs.map (·+1000))::tw) fr st fr2 st2:=GX.cons (h.up hq) hk
theorem GX.eq{l:List Oper}{tw:List (List Nat×List Nat)}{fr1 fr2:Fr}{st2:St}(he:fr=fr1)(h:GX P n ops X l tw fr1 st fr2 st2):GX P n ops X l tw fr st fr2 st2:=he▸h
def MK(s t:List Nat×List Nat):Bool:=s.2.any (aI t.1)||s.1.any (aI t.2)
def AQ(ops:Array Oper)(tw:List (List Nat×List Nat)):Bool:=(List.range tw.length).all fun j=>(List.range j).all fun i=>
 match tw[i]?,tw[j]? with
 |some s,some t=> !MK s t||((sY ops.toList []).getD j 0).testBit i
 |_,_=>false
def Dp(X:List Nat)(tw:List (List Nat×List Nat)):Bool:=(List.range tw.length).all fun i=>(List.range i).all fun j=>
 match tw[j]?,tw[i]? with
 |some t,some s=>t.2.isEmpty||t.1.all fun x=>aI t.2 x||(Nat.ble x 999||(!aI X (x-1000)|| !aI s.2 x))
 |_,_=>false
def xP(n0:Nat)(lz X:List Nat):Bool:=X.all fun id=> !nA n0 lz id
theorem XW.drwG(m:Nat)(X:List Nat)(tw:List (List Nat×List Nat))(fr':Fr)(st':St)(he:oU c=some true)
  (hm:(((v8 (gX c)&&wD (gX c) m)&&P.follows .mixedOrders)&&(((AQ (gX c) tw&&Dp X tw)&&dq (fun i=> !aI X i) st)&&xP n0 lz X))=true)
  (hs:GX P n (gX c) X ((gX c).toList.take m) tw fr st fr' st')(hk:XO P n n0 lz (gX c) ((gX c).toList.drop m) Q fr' st'):XW P n n0 lz c Q fr st:=by
 obtain⟨ss,h1,h2,h3,h4⟩:=hs
 cases c<;>simp only[oU]at he<;>try (cases he;done)
 simp only[cA]at he
 subst he
 simp only[fM]at hm
 obtain⟨⟨⟨d1,d2⟩,d3⟩,⟨⟨d4,d7⟩,d5⟩,d6⟩:=hm
 refine XW.drawG m X rfl d3 (by rw[fM];exact⟨d1,d2⟩) ?_ ?_ d5 (fun id hid=> ?_) h1 (by subst h3;subst h4;exact hk)
 ·subst h2
  unfold EZ
  unfold AQ at d4
  rw[List.length_map]at d4
  rw[List.all_eq_true]at d4⊢
  intro j hj
  have:=d4 j hj
  rw[List.all_eq_true]at this⊢
  intro i hi
  have h5:=this i hi
  rw[List.getElem?_map,List.getElem?_map]at h5
  cases e1:ss[i]? with
  |none=>rw[e1]at h5;simp at h5
  |some s=>
   cases e2:ss[j]? with
   |none=>rw[e1,e2]at h5;simp at h5
   |some t=>
    rw[e1,e2]at h5
    exact h5
 ·subst h2
  unfold I7
  unfold Dp at d7
  rw[List.length_map]at d7
  rw[List.all_eq_true]at d7⊢
  intro j hj
  have:=d7 j hj
  rw[List.all_eq_true]at this⊢
  intro i hi
  have h5:=this i hi
  rw[List.getElem?_map,List.getElem?_map]at h5
  cases e1:ss[i]? with
  |none=>rw[e1]at h5;simp at h5
  |some s=>
   cases e2:ss[j]? with
   |none=>rw[e1,e2]at h5;simp at h5
   |some t=>
    rw[e1,e2]at h5
    exact h5
 ·have:=List.all_eq_true.1 d6 id (d9.1 hid)
  simpa using this
def wW:List Oper→Option Oper
 |o::_=>some o
 |[]=>none
theorem qz{l:List Oper}{o:Oper}(h:wW l=some o):l=o::l.drop 1:=by
 cases l with
 |nil=>cases h
 |cons x l=>simp[wW]at h;subst h;rfl
theorem qV{q:Nat→Bool}:∀{l:St},(∀(j:Nat) o,l[j]? =some o→gA q o=true)→dq q l=true
 |[],_=>rfl
 |b::l,h=>by
  simp only[dq,fM]
  exact⟨h 0 b rfl,qV (fun j o hj=>h (j+1) o (by simpa using hj))⟩
theorem A8{xs:List Nat}{q:Nat→Bool}{st:St}(h:dq (fun i=> !aI xs i&&q i) st=true):dq (fun i=> !aI xs i) st=true:=
 qV (fun j o hj=>eD (fun i hi=>by rw[fM]at hi;exact hi.1) o (iK h j o hj))
theorem Hj{st2:St}{q:Nat→Bool}{W:List Nat}(h:dq (fun i=> !aI X i) st2=true):∀(x:Nat) b,aI W x=true→st2[x]? =some b→gA (fun i=> !aI X i||q i) b=true:=
 fun x b _ hb=>eD (fun i hi=>by rw[hi];rfl) b (iK h x b hb)
def LP(P:Program)(n:Nat)(ops:Array Oper)(X:List Nat)(l:List Oper)(fr:Fr)(st:St)(hs:HS):Option (AV×List Nat×List Prop×HS):=
 match wW l with
 |some o=>
  bif kK n o&&jj o.op then
   match cI ops o (cL ops o fr)with
   |some true=>
    match ev P false o (cL ops o fr) (fb (aI (na ops X o fr)) 0 st) hs with
    |some out=>bif la ops X o fr (na ops X o fr)&&cU (fun i=>aI (na ops X o fr) (i+1000)|| !aI X i) out.av then some (out.av,na ops X o fr,out.ob,out.hs)else none
    |none=>none
   |some false=>bif la ops X o fr (na ops X o fr)then some (.tp [],na ops X o fr,[],hs)else none
   |none=>none
  else none
 |none=>none
structure QS where
 fr:Fr
 tw:List (List Nat×List Nat)
 ob:List Prop
 hs:HS
def CU(P:Program)(n:Nat)(ops:Array Oper)(X:List Nat)(st:St):Nat→List Oper→Fr→HS→Option QS
 |0,_,fr,hs=>some ⟨fr,[],[],hs⟩
 |k+1,l,fr,hs=>
  match LP P n ops X l fr st hs with
  |some (a,T,ob,hs')=>
   match wW l with
   |some o=>match CU P n ops X st k (l.drop 1) (oM o.dst a (jb (fun id=> !aI [] id) fr)) hs' with
    |some r=>some ⟨r.fr,(T,[])::r.tw,ob++r.ob,r.hs⟩
    |none=>none
   |none=>none
  |none=>none
theorem Gg{l:List Oper}{o:Oper}{hs hs':HS}{a:AV}{T:List Nat}{ob:List Prop}(ho:wW l=some o)(h:LP P n ops X l fr st hs=some (a,T,ob,hs'))(hob:eH ob):Ak P n ops X o ⟨a,T,[],[],st⟩ fr st:=by
 unfold LP at h
 rw[ho]at h
 simp only at h
 cases hb:(kK n o&&jj o.op)with
 |false=>rw[hb]at h;cases h
 |true=>
  rw[hb]at h
  simp only[cond_true]at h
  rw[fM]at hb
  split at h
  ·rename_i hg
   split at h
   ·rename_i out hev
    cases hc:(la ops X o fr (na ops X o fr)&&cU (fun i=>aI (na ops X o fr) (i+1000)|| !aI X i) out.av)with
    |false=>rw[hc]at h;cases h
    |true=>
     rw[hc]at h
     simp only[cond_true,cA,ku]at h
     obtain⟨rfl,rfl,rfl,rfl⟩:=h
     simp only[fM]at hc
     obtain⟨c1,c2⟩:=hc
     obtain⟨q1,q2⟩:=B6 hb.2 hev
     refine⟨lJ hb.1,rfl,fun _ _=>rfl,fun id h=>by simp[aI]at h,fun id h=>by simp[aI]at h,lI c1,c2,fun x b h=>by simp[aI]at h,.inl ⟨hg,?_⟩⟩
     intro st' ι w act hl hT hX hR hF K Q hK
     obtain⟨v,w',ι',hrun,r1,r2,r3⟩:=rh [] hev hob (by rw[q1,dj];exact eo _) (fun m hm=>by rw[q2]at hm;cases hm)
      (fun id hid hTf=>by rw[q1,ij,Nat.zero_add,gu hid,hTf];rfl) hl hT (A8 hX) hR hF
     have e1:eZ (aI (na ops X o fr)) 0 st' out.st=st':=by
      rw[q1,←Bx hl hT];exact Cu
     have e2:eZ (aI ([]:List Nat)) 0 st' st=st':=wM hl
     rw[e1]at r1 r2 r3
     refine pI hrun (hK v w' ι' (by rw[e2];exact r2) (by rw[e2];exact r1) (by
      rw[e2]
      refine r3.weaken (fun id _=> ?_)
      rw[q2];rfl))
   ·cases h
  ·rename_i hg
   cases hc:(la ops X o fr (na ops X o fr))with
   |false=>rw[hc]at h;cases h
   |true=>
    rw[hc]at h
    simp only[cond_true,cA,ku]at h
    obtain⟨rfl,rfl,rfl,rfl⟩:=h
    exact⟨lJ hb.1,rfl,fun _ _=>rfl,fun id h=>by simp[aI]at h,fun id h=>by simp[aI]at h,lI hc,rfl,fun x b h=>by simp[aI]at h,.inr ⟨hg,rfl,rfl,rfl⟩⟩
  ·cases h
def Kv(o:Option QS):Option (Fr×List (List Nat×List Nat)×List Prop):=o.map fun r=>(r.fr,r.tw,r.ob)
theorem GX.qs{tw2:List (List Nat×List Nat)}{fr2:Fr}{st2:St}:∀(k:Nat) {l:List Oper} {fr:Fr} {hs:HS} {r:QS},CU P n ops X st k l fr hs=some r→eH r.ob→GX P n ops X (l.drop k) tw2 r.fr st fr2 st2→GX P n ops X l (r.tw++tw2) fr st fr2 st2
 |0,l,fr,hs,r,h,hob,hk=>by
  simp only[CU,cA]at h
  subst h
  simpa using hk
 |k+1,l,fr,hs,r,h,hob,hk=>by
  simp only[CU]at h
  split at h
  ·rename_i a T ob hs' h1
   split at h
   ·rename_i o ho
    split at h
    ·rename_i r' h2
     simp only[cA]at h
     subst h
     obtain⟨o1,o2⟩:=eH.append hob
     have hs1:=Gg ho h1 o1
     rw[qz ho]
     have:=GX.qs (tw2:=tw2) k h2 o2 (by rw[List.drop_drop,Nat.add_comm 1 k];exact hk)
     exact GX.cons hs1 this
    ·cases h
   ·cases h
  ·cases h
theorem GX.go{l:List Oper}{tw2:List (List Nat×List Nat)}{fr2:Fr}{st2:St}(k:Nat)(hs:HS)(fr':Fr)(tw1:List (List Nat×List Nat))(ob:List Prop)(h:Kv (CU P n ops X st k l fr hs)=some (fr',tw1,ob))(hob:eH ob)
  (hk:GX P n ops X (l.drop k) tw2 fr' st fr2 st2):GX P n ops X l (tw1++tw2) fr st fr2 st2:=by
 cases ho:CU P n ops X st k l fr hs with
 |none=>rw[ho]at h;cases h
 |some r=>
  rw[ho]at h
  simp only[Kv,Option.map_some,cA,ku]at h
  obtain⟨rfl,rfl,rfl⟩:=h
  exact GX.qs k ho hob hk
def B4(mv:Option Nat)(T X:List Nat):Bool:=match mv with
 |some m=>aI T m&&aI X m
 |none=>true
theorem F9{mv:Option Nat}{T X:List Nat}(h:B4 mv T X=true):∀m,mv=some m→aI T m=true∧aI X m=true:=by
 rintro m rfl
 simpa [B4]using h
def Li(n:Nat)(ops:Array Oper)(X:List Nat)(o:Oper)(fr:Fr)(st:St)(T:List Nat)(out:rT):Bool:=
 ((kK n o&&Nat.beq out.st.length st.length)&&(qX ops o fr T&&cU (aI T) out.av))&&((sr (aI T) 0 out.st&&dq (fun i=> !aI X i) (eZ (aI T) 0 st out.st))&&B4 out.mv T X)
def M6(P:Program)(n:Nat)(ops:Array Oper)(X:List Nat)(l:List Oper)(fr:Fr)(st:St)(hs:HS):Option (Fr×List Nat×List Nat×St×List Prop):=
 match wW l with
 |some o=>
  match cI ops o (cL ops o fr)with
  |some true=>
   match ev P false o (cL ops o fr) (fb (aI (bO ops o fr)) 0 st) hs with
   |some out=>
    bif Li n ops X o fr st (bO ops o fr) out then
     some (mJ o ⟨out.av,bO ops o fr,bO ops o fr,out.mv.toList,eZ (aI (bO ops o fr)) 0 st out.st⟩ fr,bO ops o fr,out.mv.toList,eZ (aI (bO ops o fr)) 0 st out.st,out.ob)
    else none
   |none=>none
  |_=>none
 |none=>none
theorem GX.wr{l:List Oper}{tw2:List (List Nat×List Nat)}{fr2:Fr}{st2:St}(hs:HS)(fr':Fr)(T xs:List Nat)(st':St)(ob:List Prop)(h:M6 P n ops X l fr st hs=some (fr',T,xs,st',ob))(hob:eH ob)(hq:C4 st T=true)
  (hk:GX P n ops X (l.drop 1) tw2 fr' st' fr2 st2):GX P n ops X l ((lX X T,T++xs.map (·+1000))::tw2) fr st fr2 st2:=by
 unfold M6 at h
 split at h
 ·rename_i o ho
  split at h
  ·rename_i hg
   split at h
   ·rename_i out hev
    cases hc:Li n ops X o fr st (bO ops o fr) out with
    |false=>rw[hc]at h;cases h
    |true=>
     rw[hc]at h
     simp only[cond_true,cA,ku]at h
     obtain⟨rfl,rfl,rfl,rfl,rfl⟩:=h
     unfold Li at hc
     simp only[fM]at hc
     obtain⟨⟨⟨c1,c2⟩,c3,c4⟩,⟨c5,c6⟩,c7⟩:=hc
     have hlen:=kW c2
     rw[qz ho]
     refine GX.cons0 (s:=⟨out.av,bO ops o fr,bO ops o fr,out.mv.toList,eZ (aI (bO ops o fr)) 0 st out.st⟩) hq ?_ hk
     have hmvv:=F9 c7
     refine⟨lJ c1,by rw[cC _ _ _ (by omega)];exact hlen,fun id hw=> ?_,fun id h=>h,fun id h=> ?_,qb c3,Kk c4,Hj c6,.inl ⟨hg,?_⟩⟩
     ·show(eZ (aI (bO ops o fr)) 0 st out.st)[id]? =st[id]?
      have hw':aI (bO ops o fr) id=false:=hw
      rw[dP _ _ _ _ (by omega),Nat.zero_add]
      by_cases hid:id<st.length
      ·simp[hid,hw']
      ·rw[if_neg (fun h=>hid h.1),List.getElem?_eq_none (by omega),List.getElem?_eq_none (by omega)]
     ·have:=d9.1 h
      simp only[Option.mem_toList]at this
      exact hmvv id this
     ·intro st' ι w act hl hT hX hR hF K Q hK
      obtain⟨v,w',ι',hrun,r1,r2,r3⟩:=rh out.mv.toList hev hob (by omega) (fun m hm=>⟨(hmvv m hm).1,d9.2 (by simp[hm])⟩) (fun id hid hTf=>oW c5 id (by omega) (by rw[Nat.zero_add];exact hTf)) hl hT (A8 hX) hR hF
      have e:eZ (aI (bO ops o fr)) 0 st' (eZ (aI (bO ops o fr)) 0 st out.st)=eZ (aI (bO ops o fr)) 0 st' out.st:=Ku hl (by omega)
      refine pI hrun (hK v w' ι' (by rw[e];exact r2) (by rw[e];exact r1) (by
       rw[e]
       refine r3.weaken (fun id hid=> ?_)
       unfold iB
       cases hm:out.mv with
       |none=>rfl
       |some m=>
        simp only[Bool.not_eq_true']
        cases hb:Nat.beq id m with
        |false=>rfl
        |true=>
         have:=kW hb
         subst this
         have hx:aI out.mv.toList id=true:=d9.2 (by simp[hm])
         have hid':aI out.mv.toList id=false:=hid
         rw[hx]at hid';cases hid'))
   ·cases h
  ·cases h
 ·cases h
def JF(n:Nat)(ops:Array Oper)(X:List Nat)(id:Nat)(o:Oper)(fr:Fr)(st:St)(T:List Nat)(out:rT)(b:aV):Bool:=
 (((kK n o&&Nat.beq out.st.length (st.length+1))&&(qX ops o fr (id::T)&&cU (aI (id::T)) (nP (xJ st.length id) out.av)))&&((sr (aI T) 0 (out.st.take st.length)&&cU (fun i=> !Nat.beq i id) out.av)&&B4 out.mv [] X))&&
 (((tJ ((st[id]?).getD (.box []))&&tJ ((out.st[id]?).getD (.box [])))&&(aI X id&&aI X st.length))&&dq (fun i=> !aI X i) ((eZ (aI T) 0 st (out.st.take st.length)).set id b)&&gA (fun i=> !aI X i) b)&& !aI T id
def M1(P:Program)(n:Nat)(ops:Array Oper)(X:List Nat)(mu:Bool)(id:Nat)(l:List Oper)(fr:Fr)(st:St)(hs:HS):Option (Fr×List Nat×St×List Prop):=
 match wW l with
 |some o=>
  match cI ops o (cL ops o fr)with
  |some true=>
   match ev P mu o (cL ops o fr) (fb (aI (bO ops o fr)) 0 st) hs with
   |some out=>
    match out.st.drop st.length with
    |[b]=>
     bif JF n ops X id o fr st (bO ops o fr) out b then
      some (mJ o ⟨nP (xJ st.length id) out.av,id::bO ops o fr,id::bO ops o fr,[id],(eZ (aI (bO ops o fr)) 0 st (out.st.take st.length)).set id b⟩ fr,id::bO ops o fr,(eZ (aI (bO ops o fr)) 0 st (out.st.take st.length)).set id b,out.ob)
     else none
    |_=>none
   |none=>none
  |_=>none
 |none=>none
theorem EK{T:Nat→Bool}{b:aV}:∀(a m:St) (i:Nat),a.length=m.length→eZ T i a (m++[b])=eZ T i a m++[b]
 |[],[],i,_=>by simp[eZ]
 |[],_::_,i,h=>by simp at h
 |_::_,[],i,h=>by simp at h
 |x::l,y::m,i,h=>by simp only[List.cons_append,eZ];rw[EK l m (i+1) (by simpa using h)]
theorem yR{o:Option aV}(h:tJ (o.getD (.box []))=true):o=some .dead:=by
 cases o with
 |none=>simp[tJ]at h
 |some b=>cases b<;>simp[tJ]at h⊢
theorem GX.new{l:List Oper}{tw2:List (List Nat×List Nat)}{fr2:Fr}{st2:St}(mu:Bool)(id:Nat)(hs:HS)(fr':Fr)(T:List Nat)(st':St)(ob:List Prop)(h:M1 P n ops X mu id l fr st hs=some (fr',T,st',ob))(hob:eH ob)(hq:C4 st T=true)
  (hk:GX P n ops X (l.drop 1) tw2 fr' st' fr2 st2):GX P n ops X l ((lX X T,T++[id+1000])::tw2) fr st fr2 st2:=by
 unfold M1 at h
 split at h
 ·rename_i o ho
  split at h
  ·rename_i hg
   split at h
   ·rename_i out hev
    split at h
    ·rename_i b hb
     cases hc:JF n ops X id o fr st (bO ops o fr) out b with
     |false=>rw[hc]at h;cases h
     |true=>
      rw[hc]at h
      simp only[cond_true,cA,ku]at h
      obtain⟨rfl,rfl,rfl,rfl⟩:=h
      unfold JF at hc
      simp only[fM]at hc
      obtain⟨⟨⟨⟨⟨c1,c2⟩,⟨c3,c4⟩⟩,⟨⟨c5,c6⟩,c7⟩⟩,⟨⟨⟨⟨c8,c8'⟩,⟨c9,c10⟩⟩,c11⟩,c12⟩⟩,c13⟩:=hc
      generalize hT:bO ops o fr=T at*
      have hlen:=kW c2
      have hout:out.st=out.st.take st.length++[b]:=by rw[←hb,List.take_append_drop]
      generalize hm:out.st.take st.length=m at*
      have hml:m.length=st.length:=by rw[←hm];simp;omega
      have hmv:out.mv=none:=by
       cases hq:out.mv with
       |none=>rfl
       |some x=>rw[hq]at c7;simp[B4,aI]at c7
      have hTid:aI T id=false:=by simpa using c13
      have hdead:=yR c8
      have hid:id<st.length:=(gN.1 hdead).1
      rw[qz ho]
      refine GX.cons0 (s:=⟨nP (xJ st.length id) out.av,id::T,id::T,[id],(eZ (aI T) 0 st m).set id b⟩) hq ?_ hk
      have hcons:∀x,aI (id::T) x=(Nat.beq x id||aI T x):=fun x=>rfl
      have hne:∀x,aI (id::T) x=false→x≠id∧aI T x=false:=by
       intro x hx
       rw[hcons,Bool.or_eq_false_iff]at hx
       exact⟨by rintro rfl;simp at hx,hx.2⟩
      refine⟨lJ c1,by rw[List.length_set,cC _ _ _ (by omega)];exact hml,fun x hw=> ?_,fun x h=>h,fun x h=> ?_,qb c3,Kk c4,Hj c11,.inl ⟨hg,?_⟩⟩
      ·obtain⟨h1,h2⟩:=hne x hw
       show((eZ (aI T) 0 st m).set id b)[x]? =st[x]?
       rw[List.getElem?_set,if_neg (fun e=>h1 e.symm),dP _ _ _ _ (by omega),Nat.zero_add]
       by_cases hx:x<st.length
       ·simp[hx,h2]
       ·rw[if_neg (fun h=>hx h.1),List.getElem?_eq_none (by omega),List.getElem?_eq_none (by omega)]
      ·have:x=id:=by have:=d9.1 h;simpa using this
       subst this
       refine⟨?_,c9⟩
       show aI (x::T) x=true
       rw[hcons,Nat.beq_refl];rfl
      ·intro st' ι w act hl hT' hX hR hF K Q hK
       have hTT:∀x,aI T x=true→st'[x]? =st[x]? :=fun x hx=>hT' x (by rw[hcons,hx,Bool.or_true])
       obtain⟨v,w',ι1,hrun,r1,r2,r3⟩:=rh [] hev hob (by omega) (fun x hx=>by rw[hmv]at hx;cases hx)
        (fun x hx hTf=>by
         have:=oW c5 x (by omega) (by rw[Nat.zero_add];exact hTf)
         rw[hout,nq (by omega)];exact this) hl hTT (qV (fun j o _=>eD (q:=fun _=>true) (fun i _=>by simp[aI]) o (by cases o<;>first|rfl|exact m7 _))) hR hF
       have hml':st'.length=m.length:=by omega
       rw[hout,EK _ _ _ hml']at r1 r2 r3
       have hlo:(eZ (aI T) 0 st' m).length=st.length:=by rw[cC _ _ _ (by omega)];exact hml
       have hdd:(eZ (aI T) 0 st' m)[id]? =some .dead:=by
        rw[dP _ _ _ _ (by omega),Nat.zero_add,if_pos ⟨by omega,hTid⟩,hT' id (by rw[hcons,Nat.beq_refl];rfl)]
        exact hdead
       have mono2:∀i,(!aI [id] i&&(!aI X i||Nat.ble (i+1) st.length))=true→(!Nat.beq i id&& !Nat.beq i (eZ (aI T) 0 st' m).length)=true:=by
        intro i hi
        rw[hlo]
        rw[fM,Bool.or_eq_true]at hi
        have h1:i≠id:=by rintro rfl;have:=hi.1;simp[aI]at this
        have h2:i≠st.length:=by
         rintro rfl
         rcases hi.2 with h|h
         ·rw[c10]at h;cases h
         ·have:=n4 h;omega
        rw[fM,Bool.not_eq_true',Bool.not_eq_true']
        constructor
        ·cases hb:Nat.beq i id with
         |false=>rfl
         |true=>exact absurd (kW hb) h1
        ·cases hb:Nat.beq i st.length with
         |false=>rfl
         |true=>exact absurd (kW hb) h2
       have mono:∀i,(!aI X i)=true→(!Nat.beq i id&& !Nat.beq i (eZ (aI T) 0 st' m).length)=true:=by
        intro i hi
        rw[hlo]
        have h1:i≠id:=by rintro rfl;rw[c9]at hi;cases hi
        have h2:i≠st.length:=by rintro rfl;rw[c10]at hi;cases hi
        rw[fM,Bool.not_eq_true',Bool.not_eq_true']
        constructor
        ·cases hb:Nat.beq i id with
         |false=>rfl
         |true=>exact absurd (kW hb) h1
        ·cases hb:Nat.beq i st.length with
         |false=>rfl
         |true=>exact absurd (kW hb) h2
       have hids:dq (fun i=> !Nat.beq i id&& !Nat.beq i (eZ (aI T) 0 st' m).length) (eZ (aI T) 0 st' m++[b])=true:=by
        refine qV (fun j o' hj=> ?_)
        by_cases hjl:j<st.length
        ·rw[nq (by omega),dP _ _ _ _ (by omega),Nat.zero_add]at hj
         split at hj
         ·exact eD mono2 o' (iK hX j o' hj)
         ·rename_i hnn
          have hTj:aI T j=true:=by
           cases hq:aI T j with
           |true=>rfl
           |false=>exact absurd ⟨by omega,hq⟩ hnn
          have hji:j≠id:=by rintro rfl;rw[hTid]at hTj;cases hTj
          refine eD mono o' (iK c11 j o' ?_)
          rw[List.getElem?_set,if_neg (fun e=>hji e.symm),dP _ _ _ _ (by omega),Nat.zero_add,if_neg (by rw[hTj];simp)]
          exact hj
        ·rw[List.getElem?_append_right (by omega),hlo]at hj
         have:j-st.length=0:=by
          have:=(gN.1 hj).1
          simp at this;omega
         rw[this]at hj
         simp at hj
         subst hj
         exact eD mono _ c12
       obtain⟨s1,s2,s3⟩:=r1.revive hdd hids
       have r2':=r2.revive (by omega) s2 c6
       rw[hlo]at r2' s1 s3
       have efin:(eZ (aI T) 0 st' m).set id b=eZ (aI (id::T)) 0 st' ((eZ (aI T) 0 st m).set id b):=by
        have hle:st'.length≤((eZ (aI T) 0 st m).set id b).length:=by rw[List.length_set,cC _ _ _ (by omega)];omega
        refine lY (by rw[List.length_set,cC _ _ _ hle,List.length_set,cC _ _ _ (by omega),cC _ _ _ (by omega)]) (fun x hx=> ?_)
        rw[List.length_set,hlo]at hx
        rw[dP _ _ _ _ hle,Nat.zero_add,hcons]
        by_cases hxi:x=id
        ·subst hxi
         rw[Nat.beq_refl,List.getElem?_set,if_pos rfl,if_pos (by omega)]
         simp only[Bool.true_or,Bool.true_eq_false,and_false,if_false]
         rw[List.getElem?_set,if_pos rfl,if_pos (by rw[cC _ _ _ (by omega)];omega)]
        ·have hbx:Nat.beq x id=false:=by cases hq:Nat.beq x id with|false=>rfl|true=>exact absurd (kW hq) hxi
         have hset:∀q:St,(q.set id b)[x]? =q[x]? :=fun q=>by rw[List.getElem?_set,if_neg (fun e=>hxi e.symm)]
         rw[hbx,Bool.false_or,hset,hset,dP _ _ _ _ (by omega),dP _ _ _ _ (by omega),Nat.zero_add]
         cases hTx:aI T x with
         |false=>simp[hl,hx]
         |true=>simp
       have kk:=(r3.weaken (fix':=fun i=>i≠id∧i≠st.length) (fun i _=>by rw[hmv];rfl)).trans s3
       refine pI hrun (hK v w' _ (by show aN _ _ (eZ (aI (id::T)) 0 st' ((eZ (aI T) 0 st m).set id b)) v _;rw[←efin];exact r2') (by show eu _ _ (eZ (aI (id::T)) 0 st' ((eZ (aI T) 0 st m).set id b));rw[←efin];exact s1) (by
        show bo _ _ _ _ _ _ (eZ (aI (id::T)) 0 st' ((eZ (aI T) 0 st m).set id b))
        rw[←efin]
        refine⟨kk.os,kk.tape,kk.output,kk.size,kk.amb,kk.blk,fun x hx hxl=> ?_,kk.shp⟩
        refine kk.map x ⟨?_,by omega⟩ hxl
        rintro rfl
        have:aI [x] x=false:=hx
        simp[aI]at this))
    ·cases h
   ·cases h
  ·cases h
 ·cases h
theorem GX.cal{l:List Oper}{tw2:List (List Nat×List Nat)}{fr2:Fr}{st2:St}(g:Nat)(avs:List AV)(r:AV)(fr1:Fr)(T:List Nat)(hc:ld P n ops l fr=some (g,avs))(h:PC P g avs r)(hp:jH avs=true)(hr:mm r=true)
  (hT:(match wW l with|some o=>la ops X o fr T&&kK n o|none=>false)=true)(hput:(match wW l with|some o=>oM o.dst r (jb (fun id=> !aI [] id) fr) |none=>fr)=fr1)
  (hk:GX P n ops X (l.drop 1) tw2 fr1 st fr2 st2):GX P n ops X l ((T,[])::tw2) fr st fr2 st2:=by
 cases ho:wW l with
 |none=>rw[ho]at hT;cases hT
 |some o=>
  rw[ho]at hT hput
  have hT2:(la ops X o fr T&&kK n o)=true:=hT
  rw[fM]at hT2
  have hput2:oM o.dst r (jb (fun id=> !aI [] id) fr)=fr1:=hput
  subst hput2
  have hl:=qz ho
  rw[hl]at hc⊢
  simp only[ld]at hc
  split at hc
  ·rename_i hg
   have hcall:qy P o (cL ops o fr)=some (g,avs):=by
    have h2:=hT2.2
    unfold kK at h2
    cases hdd:o.dst with
    |none=>simpa [hdd]using hc
    |some d=>
     rw[hdd]at h2
     have h3:Nat.ble (d+1) n=true:=h2
     simpa [hdd,h3]using hc
   have hra:cU (fun i=>aI T (i+1000)|| !aI X i) r=true:=kq (q:=fun _=>false) (fun i h=>by cases h) r hr
   refine GX.cons (s:=⟨r,T,[],[],st⟩) ⟨lJ hT2.2,rfl,fun _ _=>rfl,fun id h=>by simp[aI]at h,fun id h=>by simp[aI]at h,lI hT2.1,hra,fun x b h=>by simp[aI]at h,.inl ⟨hg,?_⟩⟩ hk
   intro st' ι w act hl' hT' hX' hR hF K Q hK
   have e2:eZ (aI ([]:List Nat)) 0 st' st=st':=wM hl'
   refine Yd.call (st:=st') hcall h hp hr ι w act hR hF K Q (fun v w' ι' h1 h2 h3=>hK v w' ι' (by rw[e2];exact h1) (by rw[e2];exact h2) (by rw[e2];exact h3.weaken (fun _ _=>trivial)))
  ·simp at hc
end
section
variable {P:Program} {n n0:Nat} {lz an:List Nat} {Q:QT} {fr:Fr} {st:St} {c:Code} {ops:Array Oper} {X:List Nat} {l:List Oper} {tw:List (List Nat×List Nat)} {fr2:Fr} {st2:St}
theorem GX.ext{tw2:List (List Nat×List Nat)}(g:Nat)(vs us:List Value)(fr1:Fr)(T:List Nat)(hc:G6 P n ops l fr=some (g,vs))(h:Gq P g vs (.tuple us.toArray))(hp:us.all oo=true)
  (hT:(match wW l with|some o=>la ops X o fr T&&kK n o|none=>false)=true)(hput:(match wW l with|some o=>oM o.dst (JC us) (jb (fun id=> !aI [] id) fr) |none=>fr)=fr1)
  (hk:GX P n ops X (l.drop 1) tw2 fr1 st fr2 st2):GX P n ops X l ((T,[])::tw2) fr st fr2 st2:=by
 cases ho:wW l with
 |none=>rw[ho]at hT;cases hT
 |some o=>
  rw[ho]at hT hput
  have hT2:(la ops X o fr T&&kK n o)=true:=hT
  rw[fM]at hT2
  have hput2:oM o.dst (JC us) (jb (fun id=> !aI [] id) fr)=fr1:=hput
  subst hput2
  have hl:=qz ho
  rw[hl]at hc⊢
  simp only[G6]at hc
  split at hc
  ·rename_i hg
   have hcall:ye P o (cL ops o fr)=some (g,vs):=by
    have h2:=hT2.2
    unfold kK at h2
    cases hdd:o.dst with
    |none=>simpa [hdd]using hc
    |some d=>
     rw[hdd]at h2
     have h3:Nat.ble (d+1) n=true:=h2
     simpa [hdd,h3]using hc
   have hra:cU (fun i=>aI T (i+1000)|| !aI X i) (JC us)=true:=by
    unfold JC
    simp only[cU]
    clear hp h hk hput
    induction us with
    |nil=>rfl
    |cons u us ih=>simp only[List.map_cons,cU.go,cU,kQ,Bool.true_and];exact ih
   refine GX.cons (s:=⟨JC us,T,[],[],st⟩) ⟨lJ hT2.2,rfl,fun _ _=>rfl,fun id h=>by simp[aI]at h,fun id h=>by simp[aI]at h,lI hT2.1,hra,fun x b h=>by simp[aI]at h,.inl ⟨hg,?_⟩⟩ hk
   intro st' ι w act hl' hT' hX' hR hF K Q hK
   have e2:eZ (aI ([]:List Nat)) 0 st' st=st':=wM hl'
   have hrun:=Ab hcall h hF (w:=w)
   simp only[Oper.wp,hrun,Oper.upon]
   exact hK _ w ι (by rw[e2];exact wO hp) (by rw[e2];exact hR) (by rw[e2];exact .refl)
  ·simp at hc
theorem GY.go(k:Nat)(hs:HS)(fr':Fr)(ob:List Prop)(h:Kv (CU P n ops X st k l fr hs)=some (fr',tw.take k,ob))(hob:eH ob)(hk:GX P n ops X (l.drop k) (tw.drop k) fr' st fr2 st2):GX P n ops X l tw fr st fr2 st2:=by
 have:=GX.go (tw2:=tw.drop k) k hs fr' (tw.take k) ob h hob hk
 rwa [List.take_append_drop]at this
theorem ug{T W:List Nat}(h:tw.head? =some (T,W)):tw=(T,W)::tw.drop 1:=by
 cases tw with
 |nil=>cases h
 |cons x l=>simp at h;subst h;rfl
theorem GY.wr(hs:HS)(fr':Fr)(T xs:List Nat)(st':St)(ob:List Prop)(ht:tw.head? =some (lX X T,T++xs.map (·+1000)))(h:M6 P n ops X l fr st hs=some (fr',T,xs,st',ob))(hob:eH ob)(hq:C4 st T=true)(hk:GX P n ops X (l.drop 1) (tw.drop 1) fr' st' fr2 st2):GX P n ops X l tw fr st fr2 st2:=by
 rw[ug ht];exact GX.wr hs fr' T xs st' ob h hob hq hk
theorem GY.new(mu:Bool)(id:Nat)(hs:HS)(fr':Fr)(T:List Nat)(st':St)(ob:List Prop)(ht:tw.head? =some (lX X T,T++[id+1000]))(h:M1 P n ops X mu id l fr st hs=some (fr',T,st',ob))(hob:eH ob)(hq:C4 st T=true)(hk:GX P n ops X (l.drop 1) (tw.drop 1) fr' st' fr2 st2):GX P n ops X l tw fr st fr2 st2:=by
 rw[ug ht];exact GX.new mu id hs fr' T st' ob h hob hq hk
theorem GY.cal(g:Nat)(avs:List AV)(r:AV)(fr1:Fr)(T:List Nat)(ht:tw.head? =some (T,[]))(hc:ld P n ops l fr=some (g,avs))(h:PC P g avs r)(hp:jH avs=true)(hr:mm r=true)
  (hT:(match wW l with|some o=>la ops X o fr T&&kK n o|none=>false)=true)(hput:(match wW l with|some o=>oM o.dst r (jb (fun id=> !aI [] id) fr) |none=>fr)=fr1)
  (hk:GX P n ops X (l.drop 1) (tw.drop 1) fr1 st fr2 st2):GX P n ops X l tw fr st fr2 st2:=by
 rw[ug ht];exact GX.cal g avs r fr1 T hc h hp hr hT hput hk
theorem GY.done(he:l=[])(ht:tw=[]):GX P n ops X l tw fr st fr st:=by subst ht;exact GX.done he
theorem bW.dead(k:Nat):bW n n0 lz fr st fr (st++List.replicate k .dead):=by
 intro ι w a hR hF
 have hget:∀(id:Nat) (o:aV),(st++List.replicate k aV.dead)[id]? =some o→o.alive→st[id]? =some o:=by
  intro id o h ha
  by_cases hid:id<st.length
  ·rwa [nq hid]at h
  ·rw[List.getElem?_append_right (by omega),List.getElem?_replicate]at h
   split at h
   ·cases h;exact absurd rfl ha
   ·cases h
 have own1:∀b,nV ι (st++List.replicate k .dead) b→nV ι st b:=by
  rintro b ⟨id,o,h1,h2,h3⟩
  exact⟨id,o,hget id o h1 h2,h2,h3⟩
 have mut1:∀b,fK ι (st++List.replicate k .dead) b→fK ι st b:=fun b h=>h.elim .inl (fun h=> .inr (own1 b h))
 have hl:st.length≤(st++List.replicate k aV.dead).length:=by simp
 refine⟨ι,⟨fun id o ho=> ?_,hR.amb,fun b hb=>hR.dis b (own1 b hb),fun id id' o o' b h1 h2 a1 a2 e1 e2=>hR.inj id id' o o' b (hget id o h1 a1) (hget id' o' h2 a2) a1 a2 e1 e2,fun b o h=>⟨fun hm=>(hR.gl b o h).1 (mut1 b hm),(hR.gl b o h).2⟩⟩,
  ⟨hF.defers,hF.size,fun t=>(hF.slot t).chg mut1 hl (fun _=>rfl)⟩,⟨rfl,rfl,rfl,eo _,rfl,fun b _ hno=>⟨rfl,fun h=>hno (own1 b h)⟩,fun id _ hid=>⟨by omega,rfl⟩,fun _ c _ _ h=>⟨c,h,rfl⟩⟩⟩
 by_cases ha:o= .dead
 ·subst ha;trivial
 ·exact(hR.obj id o (hget id o ho ha)).chg mut1 hl (fun _=>rfl)
def me(W:List Nat)(st:St):List Nat:=W.flatMap fun x=>match(st[x]? :Option aV)with
 |some (aV.box cells)=>IA cells
 |_=>[]
def ND(n:Nat)(ops:Array Oper)(X W:List Nat)(o:Oper)(fr:Fr)(st:St)(T:List Nat)(out:rT):Bool:=
 ((kK n o&&Nat.beq out.st.length st.length)&&(la ops X o fr T&&cU (fun i=>aI T (i+1000)|| !aI X i) out.av))&&((sr (aI T) 0 out.st&&out.mv.isNone)&&
  (W.all (aI T)&&W.all fun x=>match(eZ (aI T) 0 st out.st)[x]? with|some b=>gA (fun i=> !aI X i||((aI T (i+1000)&& !aI W (i+1000))&&Nat.ble (i+1) st.length)) b|none=>true))
def M4(P:Program)(n:Nat)(ops:Array Oper)(X W:List Nat)(l:List Oper)(fr:Fr)(st:St)(hs:HS):Option (Fr×List Nat×St×List Prop):=
 match wW l with
 |some o=>
  match cI ops o (cL ops o fr)with
  |some true=>
   match ev P false o (cL ops o fr) (fb (aI ((W++Fd X (bO ops o fr++me W st)))) 0 st) hs with
   |some out=>
    bif ND n ops X W o fr st ((W++Fd X (bO ops o fr++me W st))) out then
     some (mJ o ⟨out.av,(W++Fd X (bO ops o fr++me W st)),W,[],eZ (aI ((W++Fd X (bO ops o fr++me W st)))) 0 st out.st⟩ fr,(W++Fd X (bO ops o fr++me W st)),eZ (aI ((W++Fd X (bO ops o fr++me W st)))) 0 st out.st,out.ob)
    else none
   |none=>none
  |_=>none
 |none=>none
theorem GX.sto{tw2:List (List Nat×List Nat)}(W:List Nat)(hs:HS)(fr':Fr)(T:List Nat)(st':St)(ob:List Prop)(h:M4 P n ops X W l fr st hs=some (fr',T,st',ob))(hob:eH ob)(hW:eZ (aI W) 0 st st'=st')
  (hk:GX P n ops X (l.drop 1) tw2 fr' st' fr2 st2):GX P n ops X l ((T,W)::tw2) fr st fr2 st2:=by
 unfold M4 at h
 split at h
 ·rename_i o ho
  split at h
  ·rename_i hg
   split at h
   ·rename_i out hev
    cases hc:ND n ops X W o fr st ((W++Fd X (bO ops o fr++me W st))) out with
    |false=>rw[hc]at h;cases h
    |true=>
     rw[hc]at h
     simp only[cond_true,cA,ku]at h
     obtain⟨rfl,rfl,rfl,rfl⟩:=h
     unfold ND at hc
     simp only[fM]at hc
     obtain⟨⟨⟨c1,c2⟩,c3,c4⟩,⟨c5,c6⟩,c7,c8⟩:=hc
     have hlen:=kW c2
     have hWT:∀id,aI W id=true→aI ((W++Fd X (bO ops o fr++me W st))) id=true:=fun id hid=>List.all_eq_true.1 c7 id (d9.1 hid)
     have hmv:out.mv=none:=by cases hm:out.mv with|none=>rfl|some m=>rw[hm]at c6;cases c6
     generalize hT:W++Fd X (bO ops o fr++me W st)=T at*
     have hs2:(eZ (aI T) 0 st out.st).length=st.length:=by rw[cC _ _ _ (by omega)];exact hlen
     have hoff:∀id,aI W id=false→(eZ (aI T) 0 st out.st)[id]? =st[id]? :=by
      intro id hid
      rw[←hW,dP _ _ _ _ (by omega),Nat.zero_add]
      by_cases hl:id<st.length
      ·simp[hl,hid]
      ·rw[if_neg (fun h=>hl h.1),List.getElem?_eq_none (by omega),List.getElem?_eq_none (by omega)]
     rw[qz ho]
     refine GX.cons (s:=⟨out.av,T,W,[],eZ (aI T) 0 st out.st⟩) ?_ hk
     refine⟨lJ c1,hs2,hoff,hWT,fun id h=>by simp[aI]at h,lI c3,c4,fun x b hx hb=> ?_,.inl ⟨hg,?_⟩⟩
     ·have:=List.all_eq_true.1 c8 x (d9.1 hx)
      have hb':(eZ (aI T) 0 st out.st)[x]? =some b:=hb
      rw[hb']at this
      exact this
     ·intro σ ι w act hl hTT hX hR hF K Q hK
      obtain⟨v,w',ι',hrun,r1,r2,r3⟩:=rh [] hev hob (by omega) (fun m hm=>by rw[hmv]at hm;cases hm) (fun id hid hTf=>oW c5 id (by omega) (by rw[Nat.zero_add];exact hTf)) hl hTT
       (qV (fun j o _=>eD (q:=fun _=>true) (fun i _=>by simp[aI]) o (by cases o<;>first|rfl|exact m7 _))) hR hF
      have e:eZ (aI W) 0 σ (eZ (aI T) 0 st out.st)=eZ (aI T) 0 σ out.st:=by
       have z1:(eZ (aI W) 0 σ (eZ (aI T) 0 st out.st)).length=(eZ (aI T) 0 st out.st).length:=cC _ _ _ (by omega)
       have z2:(eZ (aI T) 0 σ out.st).length=out.st.length:=cC _ _ _ (by omega)
       refine lY (by rw[z1,hs2,z2,hlen]) (fun id hid=> ?_)
       rw[z1,hs2]at hid
       have y1:(eZ (aI W) 0 σ (eZ (aI T) 0 st out.st))[id]? =if id<σ.length∧aI W id=false then σ[id]? else(eZ (aI T) 0 st out.st)[id]? :=by rw[dP _ _ _ _ (by omega),Nat.zero_add]
       have y2:(eZ (aI T) 0 σ out.st)[id]? =if id<σ.length∧aI T id=false then σ[id]? else out.st[id]? :=by rw[dP _ _ _ _ (by omega),Nat.zero_add]
       have y3:(eZ (aI T) 0 st out.st)[id]? =if id<st.length∧aI T id=false then st[id]? else out.st[id]? :=by rw[dP _ _ _ _ (by omega),Nat.zero_add]
       rw[y1,y2]
       cases hw:aI W id with
       |true=>
        have ht:=hWT id hw
        rw[y3,ht];simp
       |false=>
        cases ht:aI T id with
        |false=>simp[show id<σ.length by omega]
        |true=>
         have h1:=hoff id hw
         rw[y3,ht]at h1
         simp only[Bool.true_eq_false,and_false,if_false]at h1⊢
         rw[if_pos ⟨by omega,trivial⟩,h1,hTT id ht]
      refine pI hrun (hK v w' ι' (by rw[e];exact r2) (by rw[e];exact r1) (by
       rw[e]
       refine r3.weaken (fun id _=> ?_)
       rw[hmv];rfl))
   ·cases h
  ·cases h
 ·cases h
theorem GY.sto(W:List Nat)(hs:HS)(fr':Fr)(T:List Nat)(st':St)(ob:List Prop)(ht:tw.head? =some (T,W))(h:M4 P n ops X W l fr st hs=some (fr',T,st',ob))(hob:eH ob)(hW:eZ (aI W) 0 st st'=st')(hk:GX P n ops X (l.drop 1) (tw.drop 1) fr' st' fr2 st2):GX P n ops X l tw fr st fr2 st2:=by
 rw[ug ht];exact GX.sto W hs fr' T st' ob h hob hW hk
end
def MX(P:Program)(f:Nat)(args:List AV)(sc:St)(lo:List Nat)(r:AV)(sc':St):Prop:=AC P f args sc lo fun av s=>av=r∧s=sc'
section
variable {P:Program}
open Classical in
theorem MX.use{g:Nat}{args:List AV}{sc sc':St}{r:AV}{lo:List Nat}(h:MX P g args sc lo r sc'){st:St}(rs:List Nat)(hnd:rs.Nodup)(hlt:xL st.length rs=true)(hlen:rs.length=sc.length)(hle:sc.length≤sc'.length)
  (hst:rs.map (fun x=>st[x]?)=sc.map (fun o=>some (my (ia rs st.length) o)))(hi:dq (fun i=>Nat.ble (i+1) sc.length) sc=true)(ha:∀a∈args,cU (fun i=>Nat.ble (i+1) sc.length) a=true)
  (hbox:∀(id:Nat) o,st[id]? =some o→id∉rs→gA (fun q=> !aI (lo.map (ia rs st.length)) q) o=true)
  {ι:IM}{w:World}{vs:List Value}(hR:eu ι w st)(hA:sG ι w st vs (args.map (nP (ia rs st.length)))):
  Calls P g vs.toArray w fun e w'=>∃v ι',e= .returned v∧eu ι' w' (en st rs ((sc'.take sc.length).map (my (ia rs st.length)))++(sc'.drop sc.length).map (my (ia rs st.length)))∧
   aN ι' w' (en st rs ((sc'.take sc.length).map (my (ia rs st.length)))++(sc'.drop sc.length).map (my (ia rs st.length))) v (nP (ia rs st.length) r)∧
   bo (fun id=>id∉lo.map (ia rs st.length)) ι w st ι' w' (en st rs ((sc'.take sc.length).map (my (ia rs st.length)))++(sc'.drop sc.length).map (my (ia rs st.length))):=by
 generalize hρ:ia rs st.length=ρ at*
 generalize hk:sc.length=k at*
 have hρ1:∀i x,rs[i]? =some x→ρ i=x:=by intro i x hx;rw[←hρ];simp[ia,hx]
 have hρ2:∀i,k≤i→ρ i=st.length+(i-k):=by
  intro i hi;rw[←hρ];simp only[ia];rw[List.getElem?_eq_none (by omega),hlen]
 have hρ3:∀i,i<k→∃x,rs[i]? =some x∧ρ i=x∧x<st.length:=by
  intro i hi
  have hx:rs[i]? =some (rs[i]'(by omega)):=gu (by omega)
  exact⟨_,hx,hρ1 i _ hx,zL hlt i _ hx⟩
 have hget:∀i,i<k→∃o,sc[i]? =some o∧st[ρ i]? =some (my ρ o):=by
  intro i hi
  obtain⟨x,hx,hρx,_⟩:=hρ3 i hi
  have h0:=congrArg (fun l=>l[i]?) hst
  simp only[List.getElem?_map,hx,Option.map_some]at h0
  cases ho:sc[i]? with
  |none=>rw[List.getElem?_eq_none_iff]at ho;omega
  |some o=>rw[ho]at h0;simp at h0;exact⟨o,rfl,by rw[hρx];exact h0⟩
 have hinj:∀i j,i<k→j<k→ρ i=ρ j→i=j:=by
  intro i j h1 h2 e
  obtain⟨x,hx,ex,_⟩:=hρ3 i h1
  obtain⟨y,hy,ey,_⟩:=hρ3 j h2
  have:x=y:=by rw[←ex,←ey,e]
  subst this
  exact(List.getElem?_inj (gN.1 hx).1 hnd).1 (hx.trans hy.symm)
 have hmem:∀id,id∈rs→∃i,i<k∧ρ i=id:=by
  intro id hid
  obtain⟨i,hi,e⟩:=List.getElem_of_mem hid
  exact⟨i,by omega,hρ1 i id (by rw[gu hi,e])⟩
 have hmem':∀i,i<k→ρ i∈rs:=by
  intro i hi
  obtain⟨x,hx,e,_⟩:=hρ3 i hi
  rw[e];exact List.mem_of_getElem? hx
 let ιc:IM:=⟨fun i=>if i<k then ι (ρ i)else none,fun b=>ι.amb b∨∃id o,st[id]? =some o∧o.alive∧ι id=some b∧id∉rs⟩
 have own1:∀b,nV ιc sc b→∃i o,i<k∧sc[i]? =some o∧o.alive∧ι (ρ i)=some b:=by
  rintro b ⟨i,o,h1,h2,h3⟩
  have hik:i<k:=by rw[←hk];exact(gN.1 h1).1
  have:ιc i=ι (ρ i):=if_pos hik
  exact⟨i,o,hik,h1,h2,this▸h3⟩
 have own2:∀b,nV ιc sc b→nV ι st b:=by
  intro b hb
  obtain⟨i,o,hik,h1,h2,h3⟩:=own1 b hb
  obtain⟨o',e1,e2⟩:=hget i hik
  rw[h1]at e1;cases e1
  exact⟨ρ i,_,e2,gI.2 h2,h3⟩
 have mut1:∀b,fK ι st b→fK ιc sc b:=by
  rintro b (hb|⟨id,o,h1,h2,h3⟩)
  ·exact .inl (.inl hb)
  ·by_cases hid:id∈rs
   ·obtain⟨i,hik,rfl⟩:=hmem id hid
    obtain⟨o',e1,e2⟩:=hget i hik
    rw[h1]at e2;cases e2
    exact .inr ⟨i,o',e1,gI.1 h2,(if_pos hik:ιc i=ι (ρ i)).trans h3⟩
   ·exact .inl (.inr ⟨id,o,h1,h2,h3,hid⟩)
 have mut2:∀b,fK ιc sc b→fK ι st b:=by
  rintro b ((hb|⟨id,o,h1,h2,h3,_⟩) |hb)
  ·exact .inl hb
  ·exact .inr ⟨id,o,h1,h2,h3⟩
  ·exact .inr (own2 b hb)
 have hback:∀i,Nat.ble (i+1) k=true→i<sc.length∧ιc i=ι (ρ i):=by
  intro i hi
  have:=n4 hi
  exact⟨by omega,if_pos (by omega)⟩
 have hRc:eu ιc w sc:=by
  refine⟨fun i o ho=> ?_,fun b hb=> ?_,fun b hb hm=> ?_,fun i j o o' b h1 h2 a1 a2 e1 e2=> ?_,fun b o h=>⟨fun hm=>(hR.gl b o h).1 (mut2 b hm),(hR.gl b o h).2⟩⟩
  ·have hik:i<k:=by rw[←hk];exact(gN.1 ho).1
   obtain⟨o',e1,e2⟩:=hget i hik
   rw[ho]at e1;cases e1
   have hobj:=hR.obj _ _ e2
   have hids:=iK hi i o ho
   cases o with
   |dead=>trivial
   |box cells=>
    obtain⟨b,us,ty,e3,e4,e5⟩:=hobj
    exact⟨b,us,ty,(if_pos hik:ιc i=ι (ρ i)).trans e3,e4,dv.unren (fun b hb=>mut2 b hb) hback hids e5⟩
   |win wsz wi pre mid post=>
    obtain⟨b,us,ty,e3,e4,hn0,e5⟩:=hobj
    exact⟨b,us,ty,(if_pos hik:ιc i=ι (ρ i)).trans e3,e4,hn0,dv.unren (fun b hb=>mut2 b hb) hback (ny hids _ _) (by rw[D9];simpa only[List.length_map]using e5)⟩
   |rel Rm ps=>
    obtain⟨b,ob,vs0,e3,e4,hr0,hl0⟩:=hobj
    exact⟨b,ob,vs0,(if_pos hik:ιc i=ι (ρ i)).trans e3,e4,hr0,hl0.map fun _ _ h0=>h0.mono (eo _) (fun b _ hb=>⟨rfl,fun h'=>hb (mut2 b h')⟩)⟩
   |arr sz els=>
    rcases hobj with⟨e3,e4⟩ |⟨b,c,ty,e3,e4,e5,e6,e7⟩
    ·exact .inl ⟨(if_pos hik:ιc i=ι (ρ i)).trans e3,e4⟩
    ·refine .inr ⟨b,c,ty,(if_pos hik:ιc i=ι (ρ i)).trans e3,e4,e5,e6,fun i' e j p x1 x2=> ?_⟩
     obtain⟨v,y1,y2⟩:=e7 i' e j p x1 x2
     exact⟨v,y1,y2.mono (eo _) (fun b _ hb=>⟨rfl,fun h'=>hb (mut2 b h')⟩)⟩
  ·rcases hb with hb|⟨id,o,h1,h2,h3,_⟩
   ·exact hR.amb b hb
   ·exact hR.mut_lt (.inr ⟨id,o,h1,h2,h3⟩)
  ·obtain⟨i,o,hik,h1,h2,h3⟩:=own1 b hb
   obtain⟨o',e1,e2⟩:=hget i hik
   rw[h1]at e1;cases e1
   rcases hm with hm|⟨id,o2,g1,g2,g3,g4⟩
   ·exact hR.dis b (own2 b hb) hm
   ·have:=hR.inj id (ρ i) o2 _ b g1 e2 g2 (gI.2 h2) g3 h3
    subst this
    exact g4 (hmem' i hik)
  ·have hik:i<k:=by rw[←hk];exact(gN.1 h1).1
   have hjk:j<k:=by rw[←hk];exact(gN.1 h2).1
   obtain⟨p,p1,p2⟩:=hget i hik
   obtain⟨q,q1,q2⟩:=hget j hjk
   rw[h1]at p1;cases p1
   rw[h2]at q1;cases q1
   have e1':ι (ρ i)=some b:=(if_pos hik:ιc i=ι (ρ i))▸e1
   have e2':ι (ρ j)=some b:=(if_pos hjk:ιc j=ι (ρ j))▸e2
   exact hinj i j hik hjk (hR.inj _ _ _ _ b p2 q2 (gI.2 a1) (gI.2 a2) e1' e2')
 have hAc:sG ιc w sc vs args:=by
  refine⟨by simpa using hA.1,fun j v a h1 h2=> ?_⟩
  exact aN.unren (fun b hb=>mut2 b hb) hback a v (ha a (List.mem_of_getElem? h2)) (hA.2 j v _ h1 (by rw[List.getElem?_map,h2];rfl))
 refine(h ιc w vs hRc hAc).mono ?_
 rintro e w' ⟨v,av,s',ιc',he,⟨rfl,rfl⟩,hRc',hv,kc⟩
 let ι':IM:=⟨fun id=>if hx:∃i,i<k∧ρ i=id then ιc' (Classical.choose hx)else if id<st.length then ι id else ιc' (k+(id-st.length)),ι.amb⟩
 have hsame:∀id,id<st.length→id∉rs→ι' id=ι id:=by
  intro id h1 h2
  have hn:¬∃i,i<k∧ρ i=id:=by rintro⟨i,hik,rfl⟩;exact h2 (hmem' i hik)
  show(if hx:∃i,i<k∧ρ i=id then _ else _)=_
  rw[dif_neg hn,if_pos h1]
 generalize hB:(s'.take k).map (my ρ)=B
 generalize hX:(s'.drop k).map (my ρ)=X
 have hBlen:B.length=k:=by rw[←hB];simp;omega
 have hXlen:X.length=s'.length-k:=by rw[←hX];simp
 have hl:(en st rs B++X).length=st.length+(s'.length-k):=by rw[List.length_append,io,hXlen]
 have hm:∀i,i<s'.length→ρ i<(en st rs B++X).length∧ι' (ρ i)=ιc' i:=by
  intro i hi
  by_cases hik:i<k
  ·obtain⟨x,_,e,hx⟩:=hρ3 i hik
   refine⟨by rw[hl,e];omega,?_⟩
   have hex:∃j,j<k∧ρ j=ρ i:=⟨i,hik,rfl⟩
   have hc:=Classical.choose_spec hex
   have hci:=hinj _ _ hc.1 hik hc.2
   show(if hx:∃j,j<k∧ρ j=ρ i then ιc' (Classical.choose hx)else _)=_
   rw[dif_pos hex,hci]
  ·have e:=hρ2 i (by omega)
   refine⟨by rw[hl,e];omega,?_⟩
   have hn:¬∃j,j<k∧ρ j=ρ i:=by
    rintro⟨j,hjk,hj⟩
    obtain⟨y,_,ey,hy⟩:=hρ3 j hjk
    omega
   show(if hx:∃j,j<k∧ρ j=ρ i then ιc' (Classical.choose hx)else _)=_
   rw[dif_neg hn,if_neg (by omega),e]
   congr 1
   omega
 have hgetn:∀i o,s'[i]? =some o→(en st rs B++X)[ρ i]? =some (my ρ o):=by
  intro i o ho
  have hil:=(gN.1 ho).1
  by_cases hik:i<k
  ·obtain⟨x,hx,e,hxl⟩:=hρ3 i hik
   rw[e,nq (by rw[io];exact hxl)]
   refine sC rs B st i hnd hx ?_ hxl
   rw[←hB,List.getElem?_map,List.getElem?_take,if_pos hik,ho]
   rfl
  ·have e:=hρ2 i (by omega)
   rw[e,List.getElem?_append_right (by rw[io];omega),io,←hX,List.getElem?_map,List.getElem?_drop,show k+(st.length+(i-k)-st.length)=i by omega,ho]
   rfl
 have hcase:∀id o,(en st rs B++X)[id]? =some o→(∃i o',s'[i]? =some o'∧ρ i=id∧o=my ρ o')∨(id<st.length∧id∉rs∧st[id]? =some o):=by
  intro id o ho
  by_cases hid:id<st.length
  ·by_cases hr:id∈rs
   ·obtain⟨i,hik,rfl⟩:=hmem id hr
    have:s'[i]? =some (s'[i]'(by omega)):=gu (by omega)
    have h2:=hgetn i _ this
    rw[ho]at h2;cases h2
    exact .inl ⟨i,_,this,rfl,rfl⟩
   ·refine .inr ⟨hid,hr,?_⟩
    rw[nq (by rw[io];exact hid),n9 rs B st hr]at ho
    exact ho
  ·have hil:id<(en st rs B++X).length:=(gN.1 ho).1
   have hi':k+(id-st.length)<s'.length:=by omega
   have e:ρ (k+(id-st.length))=id:=by rw[hρ2 _ (by omega)];omega
   have h1:s'[k+(id-st.length)]? =some (s'[k+(id-st.length)]'hi'):=gu hi'
   have h2:=hgetn _ _ h1
   rw[e,ho]at h2;cases h2
   exact .inl ⟨_,_,h1,e,rfl⟩
 have own3:∀b,nV ι' (en st rs B++X) b→nV ιc' s' b∨∃id o,st[id]? =some o∧o.alive∧ι id=some b∧id∉rs:=by
  rintro b ⟨id,o,h1,h2,h3⟩
  rcases hcase id o h1 with⟨i,o',g1,rfl,rfl⟩ |⟨g1,g2,g3⟩
  ·have hil:=(gN.1 g1).1
   exact .inl ⟨i,o',g1,gI.1 h2,((hm i hil).2).symm.trans h3⟩
  ·exact .inr ⟨id,o,g3,h2,(hsame id g1 g2)▸h3,g2⟩
 have mut3:∀b,fK ι' (en st rs B++X) b→fK ιc' s' b:=by
  rintro b (hb|hb)
  ·exact .inl (by rw[kc.amb];exact .inl hb)
  ·rcases own3 b hb with h1|h1
   ·exact .inr h1
   ·exact .inl (by rw[kc.amb];exact .inr h1)
 have kk:bo (fun id=>id∉lo.map ρ) ι w st ι' w' (en st rs B++X):=by
  refine⟨kc.os,kc.tape,kc.output,kc.size,rfl,fun b hb hno=> ?_,fun id hlo hid=>⟨by rw[hl];omega,?_⟩,kc.shp⟩
  case refine_2=>
   by_cases hr:id∈rs
   ·obtain⟨i,hik,rfl⟩:=hmem id hr
    have hil:i∉lo:=fun hq=>hlo (List.mem_map.2 ⟨i,hq,rfl⟩)
    rw[(hm i (by omega)).2,(kc.map i hil (by omega)).2]
    exact(if_pos hik:ιc i=ι (ρ i))
   ·exact hsame id hid hr
  obtain⟨e1,e2⟩:=kc.blk b hb (fun ho=>hno (own2 b ho))
  refine⟨e1,fun ho=> ?_⟩
  rcases own3 b ho with h1|⟨id,o,h1,h2,h3,_⟩
  ·exact e2 h1
  ·exact hno ⟨id,o,h1,h2,h3⟩
 have hfree:∀id o b,st[id]? =some o→o.alive→id∉rs→ι id=some b→b<w.heap.size∧¬nV ιc sc b:=by
  intro id o b h1 h2 h3 h4
  refine⟨hR.mut_lt (.inr ⟨id,o,h1,h2,h4⟩),fun hb=> ?_⟩
  exact hRc.dis b hb (.inr ⟨id,o,h1,h2,h4,h3⟩)
 refine⟨v,ι',he,?_,hv.ren mut3 hm,kk⟩
 refine⟨fun id o ho=> ?_,fun b hb=>Nat.lt_of_lt_of_le (hR.amb b hb) kc.size,fun b hb ha'=> ?_,fun id id' o o' b h1 h2 a1 a2 e1 e2=> ?_,hR.glk kk⟩
 ·rcases hcase id o ho with⟨i,o',g1,rfl,rfl⟩ |⟨g1,g2,g3⟩
  ·have hil:=(gN.1 g1).1
   have hobj:=hRc'.obj i o' g1
   cases o' with
   |dead=>trivial
   |box cells=>
    obtain⟨b,us,ty,e3,e4,e5⟩:=hobj
    exact⟨b,us,ty,(hm i hil).2.trans e3,e4,e5.ren mut3 hm⟩
   |win wsz wi pre mid post=>
    obtain⟨b,us,ty,e3,e4,hn0,e5⟩:=hobj
    exact⟨b,us,ty,(hm i hil).2.trans e3,e4,hn0,by have h:=e5.ren mut3 hm;rw[D9]at h;rw[List.length_map];exact h⟩
   |rel Rm ps=>
    obtain⟨b,ob,vs0,e3,e4,hr0,hl0⟩:=hobj
    exact⟨b,ob,vs0,(hm i hil).2.trans e3,e4,hr0,hl0.map fun _ _ h0=>h0.mono (eo _) (fun b _ hb=>⟨rfl,fun h'=>hb (mut3 b h')⟩)⟩
   |arr sz els=>
    rcases hobj with⟨e3,e4⟩ |⟨b,c,ty,e3,e4,e5,e6,e7⟩
    ·exact .inl ⟨(hm i hil).2.trans e3,e4⟩
    ·refine .inr ⟨b,c,ty,(hm i hil).2.trans e3,e4,e5,e6,fun i' e j p x1 x2=> ?_⟩
     obtain⟨v,y1,y2⟩:=e7 i' e j p x1 x2
     exact⟨v,y1,y2.mono (eo _) (fun b _ hb=>⟨rfl,fun h'=>hb (mut3 b h')⟩)⟩
  ·have hobj:=hR.obj id o g3
   have hsm:ι' id=ι id:=hsame id g1 g2
   cases o with
   |dead=>trivial
   |box cells=>
    obtain⟨b,us,ty,e3,e4,e5⟩:=hobj
    obtain⟨f1,f2⟩:=hfree id _ b g3 (by simp[aV.alive]) g2 e3
    exact⟨b,us,ty,hsm.trans e3,((kc.blk b f1 f2).1).trans e4,e5.mono kk (q:=fun q=> !aI (lo.map ρ) q) (fun q hq _=>(fun hm'=>by rw[d9.2 hm']at hq;cases hq)) (hbox id _ g3 g2)⟩
   |win wsz wi pre mid post=>
    obtain⟨b,us,ty,e3,e4,hn0,e5⟩:=hobj
    obtain⟨f1,f2⟩:=hfree id _ b g3 (by simp[aV.alive]) g2 e3
    exact⟨b,us,ty,hsm.trans e3,((kc.blk b f1 f2).1).trans e4,hn0,e5.mono kk (q:=fun q=> !aI (lo.map ρ) q) (fun q hq _=>(fun hm'=>by rw[d9.2 hm']at hq;cases hq)) (ny (hbox id _ g3 g2) _ _)⟩
   |rel Rm ps=>
    obtain⟨b,ob,vs0,e3,e4,hr0,hl0⟩:=hobj
    obtain⟨f1,f2⟩:=hfree id _ b g3 (by simp[aV.alive]) g2 e3
    exact⟨b,ob,vs0,hsm.trans e3,((kc.blk b f1 f2).1).trans e4,hr0,hl0.map fun _ _ h0=>kk.pure h0⟩
   |arr sz els=>
    rcases hobj with⟨e3,e4⟩ |⟨b,c,ty,e3,e4,e5,e6,e7⟩
    ·exact .inl ⟨hsm.trans e3,e4⟩
    ·obtain⟨f1,f2⟩:=hfree id _ b g3 (by simp[aV.alive]) g2 e3
     refine .inr ⟨b,c,ty,hsm.trans e3,((kc.blk b f1 f2).1).trans e4,e5,e6,fun i' e j p x1 x2=> ?_⟩
     obtain⟨v,y1,y2⟩:=e7 i' e j p x1 x2
     exact⟨v,y1,kk.pure y2⟩
 ·rcases own3 b hb with h1|⟨id,o,h1,h2,h3,_⟩
  ·exact hRc'.dis b h1 (by rw[kc.amb];exact .inl ha')
  ·exact hR.dis b ⟨id,o,h1,h2,h3⟩ ha'
 ·rcases hcase id o h1 with⟨i,p,g1,rfl,rfl⟩ |⟨g1,g2,g3⟩
  ·have hil:=(gN.1 g1).1
   have i1:ιc' i=some b:=(hm i hil).2.symm.trans e1
   rcases hcase id' o' h2 with⟨j,q,q1,rfl,rfl⟩ |⟨q1,q2,q3⟩
   ·have hjl:=(gN.1 q1).1
    have i2:ιc' j=some b:=(hm j hjl).2.symm.trans e2
    exact congrArg ρ (hRc'.inj i j p q b g1 q1 (gI.1 a1) (gI.1 a2) i1 i2)
   ·exfalso
    refine hRc'.dis b ⟨i,p,g1,gI.1 a1,i1⟩ ?_
    rw[kc.amb]
    exact .inr ⟨id',o',q3,a2,(hsame id' q1 q2)▸e2,q2⟩
  ·have i1:ι id=some b:=(hsame id g1 g2)▸e1
   rcases hcase id' o' h2 with⟨j,q,q1,rfl,rfl⟩ |⟨q1,q2,q3⟩
   ·exfalso
    have hjl:=(gN.1 q1).1
    have i2:ιc' j=some b:=(hm j hjl).2.symm.trans e2
    refine hRc'.dis b ⟨j,q,q1,gI.1 a2,i2⟩ ?_
    rw[kc.amb]
    exact .inr ⟨id,o,g3,a1,i1,g2⟩
   ·exact hR.inj id id' o o' b g3 q3 a1 a2 i1 ((hsame id' q1 q2)▸e2)
end
section
variable {P:Program} {n n0:Nat} {lz an:List Nat} {Q:QT} {fr:Fr} {st:St} {c:Code} {ops:Array Oper} {X:List Nat} {l:List Oper} {tw:List (List Nat×List Nat)} {fr2:Fr} {st2:St}
def qO(P:Program)(fn:Func)(r:AV)(k:Nat)(sc':St):QT:=fun e fr st=>
 (e= .normal∨e= .ret)∧∃hs asv ob,mR P fr st fn.results.toList hs=some (asv,ob)∧eH ob∧st.take k=sc'∧dq (fun id=>Nat.ble (id+1) k) sc'=true∧AF st (fun id=>Nat.ble (id+1) k) (pH asv) r
theorem MX.of{f:Nat}{fn:Func}{args:List AV}{r:AV}{sc sc':St}{lo:List Nat}(k m:Nat)(hkm:Nat.ble k m=true)(hf:P.funcs[f]? =some fn)(hb:fn.body=some c)(hn:fn.ntmps=n)(hl:args.length≤n)(hk:sc.length=k)
  (h:XW P n k lo c (qO P fn r m sc') (ly args 0) sc):MX P f args sc lo r sc':=by
 intro ι w vs hR hA
 refine calls_of_wp hf hb ?_
 have hF:fU n ι w sc {tmps:=vs.toArray++Array.replicate (fn.ntmps-vs.toArray.size) undef,defers:=[]} (ly args 0):=by
  refine⟨rfl,?_,fun t=> ?_⟩
  ·simp[hn];have:=hA.1;omega
  ·rw[vT]
   simp only[Nat.zero_le,if_true,Nat.sub_zero]
   by_cases ht:t<vs.length
   ·have hta:t<args.length:=by rw[←hA.1];exact ht
    have e1:(vs.toArray++Array.replicate (fn.ntmps-vs.toArray.size) undef).getD t undef=vs[t]:=by
     simp[Array.getElem?_append,ht]
    have e2:args.getD t .j=args[t]:=by simp[List.getD,hta]
    rw[e1,e2]
    exact hA.2 t _ _ (gu ht) (gu hta)
   ·have:args.getD t .j= .j:=by
     simp only[List.getD]
     rw[List.getElem?_eq_none (by rw[←hA.1];omega)]
     rfl
    rw[this]
    exact .j _
 refine Go.wp_mono (h ι w _ hR hF) ?_
 rintro e a w' ⟨ι',fr',st',⟨he,hs,asv,ob,hres,hob,htk,hid,haf⟩,hR',hF',kk⟩
 obtain⟨v,hv,hav⟩:=sT hR' hF' hres hob
 have hkm':=n4 hkm
 have hsub:s7 (fun id=>Nat.ble (id+1) m) st' (st'.take m):=by
  refine⟨fun id o h=> .inr ?_,fun id hq hid=> ?_⟩
  ·rw[List.getElem?_take]at h
   split at h
   ·rename_i hlt;exact⟨Nat.ble_eq_true_of_le hlt,h⟩
   ·cases h
  ·have:=n4 hq
   simp;omega
 have hid':dq (fun id=>Nat.ble (id+1) m) (st'.take m)=true:=by rw[htk];exact hid
 obtain⟨r1,k1⟩:=hR'.shrink hsub hid'
 have hfin:=hav.fz hR' hsub hid' haf
 rw[htk]at r1 k1 hfin
 have hpost:∃v',(results fn a.tmps).run P w'= .ok v' w'∧(∃v av s ι',Ending.returned v'= .returned v∧(av=r∧s=sc')∧eu ι' w' s∧aN ι' w' s v av∧bo (fun id=>id∉lo) ι w sc ι' w' s):=by
  refine⟨v,hv,v,r,sc',ι',rfl,⟨rfl,rfl⟩,r1,hfin,?_⟩
  have hfx:∀id,id<k→id∉lo→nA k lo id=true:=fun id h h2=>by
   unfold nA
   rw[Nat.ble_eq_true_of_le (show id+1≤k by omega),Bool.true_and]
   cases hq:lo.any (Nat.beq id)with
   |false=>rfl
   |true=>
    obtain⟨x,hx,he⟩:=List.any_eq_true.1 hq
    exact absurd (kW he▸hx) h2
  refine⟨kk.os▸k1.os,kk.tape▸k1.tape,kk.output▸k1.output,kk.size,kk.amb,fun b hb hno=> ?_,fun id hlo hidl=> ?_,kk.shp⟩
  ·obtain⟨e1,e2⟩:=kk.blk b hb hno
   exact⟨e1,(k1.blk b (Nat.lt_of_lt_of_le hb kk.size) e2).2⟩
  ·obtain⟨m1,m2⟩:=kk.map id (hfx id (by omega) hlo) hidl
   obtain⟨p1,p2⟩:=k1.map id (Nat.ble_eq_true_of_le (show id+1≤m by omega)) m1
   exact⟨p1,p2.trans m2⟩
 rcases he with rfl|rfl
 ·exact⟨hF'.defers,hpost⟩
 ·exact⟨hF'.defers,hpost⟩
theorem MC.of{f:Nat}{fn:Func}{args:List AV}{r:AV}{sc sc':St}(k:Nat)(hf:P.funcs[f]? =some fn)(hb:fn.body=some c)(hn:fn.ntmps=n)(hl:args.length≤n)(hk:sc.length=k)
 (h:XW P n k [] c (qO P fn r k sc') (ly args 0) sc):MC P f args sc r sc':=MX.of k k (Nat.ble_eq_true_of_le (eo _)) hf hb hn hl hk h
theorem qO.fin{fn:Func}{r:AV}{e:Exit}{k:Nat}{sc':St}(he:e= .normal∨e= .ret)(hs:HS)(avs:List AV)(ob:List Prop)(h:mR P fr st fn.results.toList hs=some (avs,ob))(hob:eH ob)(ht:st.take k=sc')(hi:dq (fun id=>Nat.ble (id+1) k) sc'=true)
 (ha:AF st (fun id=>Nat.ble (id+1) k) (pH avs) r):qO P fn r k sc' e fr st:=⟨he,hs,avs,ob,h,hob,ht,hi,ha⟩
def xA:List Nat→Bool
 |[]=>true
 |x::l=> !aI l x&&xA l
theorem tg:∀{l:List Nat},xA l=true→l.Nodup
 |[],_=>by simp
 |x::l,h=>by
  simp only[xA,fM,Bool.not_eq_true']at h
  rw[List.nodup_cons]
  exact⟨fun hm=>(by rw[d9.2 hm]at h;exact absurd h.1 (by simp)),tg h.2⟩
def yv(L:Nat)(rs:List Nat)(sc sc':St)(avs:List AV):Bool:=
 ((xA rs&&xL L rs)&&(Nat.beq rs.length sc.length&&Nat.beq sc'.length sc.length))&&(dq (fun i=>Nat.ble (i+1) sc.length) sc&&avs.all (cU (fun i=>Nat.ble (i+1) sc.length)))
structure NQ(L:Nat)(rs:List Nat)(sc sc':St)(avs:List AV):Prop where
 nd:rs.Nodup
 lt:xL L rs=true
 len:rs.length=sc.length
 le:sc'.length=sc.length
 ids:dq (fun i=>Nat.ble (i+1) sc.length) sc=true
 av:∀a∈avs,cU (fun i=>Nat.ble (i+1) sc.length) a=true
theorem vU{L:Nat}{rs:List Nat}{sc sc':St}{avs:List AV}(h:yv L rs sc sc' avs=true):NQ L rs sc sc' avs:=by
 unfold yv at h
 simp only[fM]at h
 obtain⟨⟨⟨h1,h2⟩,h3,h4⟩,h5,h6⟩:=h
 exact⟨tg h1,h2,kW h3,kW h4,h5,fun a ha=>List.all_eq_true.1 h6 a ha⟩
theorem MC.use'{g:Nat}{avs:List AV}{sc sc':St}{r:AV}(h:MC P g avs sc r sc'){st:St}(rs:List Nat)(hb:NQ st.length rs sc sc' avs)(hst:rs.map (fun x=>st[x]?)=sc.map (fun o=>some (my (ia rs st.length) o)))
  {ι:IM}{w:World}{vs:List Value}(hR:eu ι w st)(hA:sG ι w st vs (avs.map (nP (ia rs st.length)))):
  Calls P g vs.toArray w fun e w'=>∃v ι',e= .returned v∧eu ι' w' (en st rs (sc'.map (my (ia rs st.length))))∧aN ι' w' (en st rs (sc'.map (my (ia rs st.length)))) v (nP (ia rs st.length) r)∧
   bo all ι w st ι' w' (en st rs (sc'.map (my (ia rs st.length)))):=by
 have:=MX.use (lo:=[]) (show MX P g avs sc [] r sc' from h) rs hb.nd hb.lt hb.len (by rw[hb.le];exact eo _) hst hb.ids hb.av (fun id o _ _=>by cases o<;>first|rfl|exact m7 _) hR hA
 have e1:sc'.take sc.length=sc':=List.take_of_length_le (by rw[hb.le];exact eo _)
 have e2:sc'.drop sc.length=[]:=List.drop_of_length_le (by rw[hb.le];exact eo _)
 rw[e1,e2,List.map_nil,List.append_nil]at this
 exact this.mono fun _ _ ⟨v,ι',h1,h2,h3,k⟩=>⟨v,ι',h1,h2,h3,k.weaken fun _ _=>by simp⟩
theorem XO.calm(g:Nat)(avs:List AV)(sc sc':St)(r:AV)(rs:List Nat)(fr':Fr)(st':St)(hc:iX P n ops l fr=some (g,avs.map (nP (ia rs st.length))))(h:MC P g avs sc r sc')(hb:yv st.length rs sc sc' avs=true)
  (hst:rs.map (fun x=>st[x]?)=sc.map (fun o=>some (my (ia rs st.length) o)))(hst':en st rs (sc'.map (my (ia rs st.length)))=st')(hput:rM n l (nP (ia rs st.length) r) fr=some fr')
  (hk:XO P n n0 lz ops (l.drop 1) Q fr' st'):XO P n n0 lz ops l Q fr st:=by
 cases l with
 |nil=>simp[iX]at hc
 |cons o rest=>
  simp only[iX]at hc
  split at hc
  ·rename_i hg
   intro ι w a hR hF
   obtain⟨vs,hrun,hA⟩:=lB hc hF
   have hw:=cF hg hF
   refine wpList_step fun K hK=> ?_
   rw[if_pos hw]
   simp only[Oper.wp,hrun,Oper.upon]
   refine(h.use' rs (vU hb) hst hR hA).mono ?_
   rintro e w' ⟨v,ι',rfl,hR',hv,k⟩
   rw[hst']at hR' hv k
   exact hK _ _ (di (fun e a w h=>h.trans (k.weaken (fun _ _=>trivial))) (hk ι' w' _ hR' (gP hput (hF.mono' k) hv)))
  ·simp at hc
theorem GY.calm(g:Nat)(avs:List AV)(sc sc':St)(r:AV)(rs:List Nat)(fr1:Fr)(T:List Nat)(st':St)(ht:tw.head? =some (lX X T,T++[]))(hq:C4 st T=true)(hc:ld P n ops l fr=some (g,avs.map (nP (ia rs st.length))))(h:MC P g avs sc r sc')
  (hb:yv st.length rs sc sc' avs=true)(hst:rs.map (fun x=>st[x]?)=sc.map (fun o=>some (my (ia rs st.length) o)))(hst':en st rs (sc'.map (my (ia rs st.length)))=st')
  (hT:(match wW l with|some o=>(qX ops o fr T&&kK n o)&&(cU (aI T) (nP (ia rs st.length) r)&&rs.all (aI T)) |none=>false)=true)(hX:dq (fun i=> !aI X i) st'=true)
  (hput:(match wW l with|some o=>oM o.dst (nP (ia rs st.length) r) (jb (fun id=> !aI [] id) fr) |none=>fr)=fr1)
  (hk:GX P n ops X (l.drop 1) (tw.drop 1) fr1 st' fr2 st2):GX P n ops X l tw fr st fr2 st2:=by
 rw[ug ht]
 cases ho:wW l with
 |none=>rw[ho]at hT;cases hT
 |some o=>
  rw[ho]at hT hput
  have hT2:((qX ops o fr T&&kK n o)&&(cU (aI T) (nP (ia rs st.length) r)&&rs.all (aI T)))=true:=hT
  simp only[fM]at hT2
  obtain⟨⟨t1,t2⟩,t3,t4⟩:=hT2
  have hput2:oM o.dst (nP (ia rs st.length) r) (jb (fun id=> !aI [] id) fr)=fr1:=hput
  subst hput2
  have hl:=qz ho
  rw[hl]at hc⊢
  simp only[ld]at hc
  split at hc
  ·rename_i hg
   have hcall:qy P o (cL ops o fr)=some (g,avs.map (nP (ia rs st.length))):=by
    have h2:=t2
    unfold kK at h2
    cases hdd:o.dst with
    |none=>simpa [hdd]using hc
    |some d=>
     rw[hdd]at h2
     have h3:Nat.ble (d+1) n=true:=h2
     simpa [hdd,h3]using hc
   have hC:=vU hb
   have hlen':st'.length=st.length:=by rw[←hst',io]
   have hrsT:∀x∈rs,aI T x=true:=fun x hx=>List.all_eq_true.1 t4 x hx
   have hoff:∀(q:St) (bs:List aV) id,aI T id=false→(en q rs bs)[id]? =q[id]? :=fun q bs id hid=>n9 rs bs q (fun hm=>by rw[hrsT id hm]at hid;cases hid)
   refine GX.cons0 (s:=⟨nP (ia rs st.length) r,T,T,[],st'⟩) hq ⟨lJ t2,hlen',fun id hw=>by rw[←hst'];exact hoff _ _ id hw,fun id h=>h,fun id h=>by simp[aI]at h,qb t1,Kk t3,Hj hX,.inl ⟨hg,?_⟩⟩ hk
   intro s1 ι w act hl' hT' hX' hR hF K Q hK
   obtain⟨vs,hrun,hA⟩:=lB hcall hF
   simp only[Oper.wp,hrun,Oper.upon]
   have hst1:rs.map (fun x=>s1[x]?)=sc.map (fun o=>some (my (ia rs s1.length) o)):=by
    rw[hl',←hst]
    exact List.map_congr_left (fun x hx=>hT' x (hrsT x hx))
   rw[←hl']at hA
   refine(h.use' rs (by rw[hl'];exact hC) hst1 hR hA).mono ?_
   rintro e w' ⟨v,ι',rfl,hR',hv,k⟩
   rw[hl']at hR' hv k
   have e:eZ (aI T) 0 s1 st'=en s1 rs (sc'.map (my (ia rs st.length))):=by
    refine lY (by rw[cC _ _ _ (by omega),io,hlen',hl']) (fun id hid=> ?_)
    rw[cC _ _ _ (by omega)]at hid
    rw[dP _ _ _ _ (by omega),Nat.zero_add]
    cases hTi:aI T id with
    |false=>rw[hoff _ _ id hTi];simp;omega
    |true=>
     simp only[Bool.true_eq_false,and_false,if_false]
     rw[←hst']
     by_cases hm:id∈rs
     ·obtain⟨i,hi,e⟩:=List.getElem_of_mem hm
      have h1:rs[i]? =some id:=by rw[gu hi,e]
      have hi2:i<sc'.length:=by rw[hC.le,←hC.len];exact hi
      have h2:(sc'.map (my (ia rs st.length)))[i]? =some (my (ia rs st.length) sc'[i]):=by simp[hi2]
      rw[sC rs _ st i hC.nd h1 h2 (by omega),sC rs _ s1 i hC.nd h1 h2 (by omega)]
     ·rw[n9 rs _ st hm,n9 rs _ s1 hm,hT' id hTi]
   exact hK v w' ι' (by rw[e];exact hv) (by rw[e];exact hR') (by rw[e];exact k.weaken (fun _ _=>trivial))
  ·simp at hc
end
section
variable {P:Program} {n n0:Nat} {lz an:List Nat} {Q:QT} {fr:Fr} {st:St} {c:Code} {ops:Array Oper} {l:List Oper}
def Ck(P:Program)(ops:Array Oper)(l:List Oper)(fr:Fr):Option ByteArray:=
 match l with
 |o::_=>match cI ops o fr with
  |some true=>match o.op with
   | .range t x=>match P.underlying t with
    |some .string=>match rv fr x with
     | .one (.pv (.s (.string s)))=>some s
     |_=>none
    |_=>none
   |_=>none
  |_=>none
 |[]=>none
theorem XO.rng(s:ByteArray)(fr':Fr)(st':St)(hc:Ck P ops l fr=some s)(hput:rM n l (.one (.pt st.length 0 0 0)) fr=some fr')(hst:st++[.raw (.stringIter s 0)]=st')
  (hk:XO P n n0 lz ops (l.drop 1) Q fr' st'):XO P n n0 lz ops l Q fr st:=by
 cases l with
 |nil=>simp[Ck]at hc
 |cons o rest=>
  simp only[Ck]at hc
  split at hc
  ·rename_i hg
   cases hop:o.op<;>simp only[hop]at hc<;>try (cases hc;done)
   rename_i t x
   split at hc
   ·rename_i hu
    split at hc
    ·rename_i s' hx
     simp only[cA]at hc
     subst hc
     subst hst
     intro ι w a hR hF
     have hxv:=cu hF x
     rw[hx]at hxv
     have hv:=bi hxv
     have hw:=cF hg hF
     have hrun:(execOp a.eval o).run P w= .ok (.value (.pointer (some ⟨w.heap.size,0,none⟩))) (w.iter s' 0):=by
      simp[execOp,hop,hv,run_range_string (P:=P) w t s' hu]
     have hR':eu (ι.add st.length (some w.heap.size)) (w.iter s' 0) (st++[.raw (.stringIter s' 0)]):=
      hR.add (m6.alloc w _) (fun x e=>by cases e;exact eo _) (AN.2 ⟨w.heap.size,by simp[IM.add],dh w _⟩)
     have k:bo all ι w st (ι.add st.length (some w.heap.size)) (w.iter s' 0) (st++[.raw (.stringIter s' 0)]):=
      n7 (m6.alloc w _) _ _ (fun x e=>by cases e;exact eo _)
     have hres:aN (ι.add st.length (some w.heap.size)) (w.iter s' 0) (st++[.raw (.stringIter s' 0)]) (.pointer (some ⟨w.heap.size,0,none⟩)) (.one (.pt st.length 0 0 0)):=
      .one _ _ (bX.pt st.length 0 0 0 w.heap.size (by simp) (by simp[IM.add]))
     refine wpList_step fun K hK=> ?_
     rw[if_pos hw]
     simp only[Oper.wp,hrun,Oper.upon]
     exact hK _ _ (di (fun e a w h=>h.trans (k.weaken (fun _ _=>trivial))) (hk _ _ _ hR' (gP hput (hF.mono' k) hres)))
    ·cases hc
   ·cases hc
  ·simp at hc
def ux(ops:Array Oper)(l:List Oper)(fr:Fr):Option Nat:=
 match l with
 |o::_=>match cI ops o fr with
  |some true=>match o.op with
   | .next x true=>match rv fr x with
    | .one (.pt id 0 0 0)=>some id
    |_=>none
   |_=>none
  |_=>none
 |[]=>none
theorem Fy{id:Nat}{o:Oper}(hc:ux ops (o::l) fr=some id):cI ops o fr=some true∧∃x,o.op= .next x true∧rv fr x= .one (.pt id 0 0 0):=by
 simp only[ux]at hc
 split at hc
 ·rename_i hg
  split at hc
  ·rename_i x hop
   split at hc
   ·rename_i id' hx
    cases hc
    exact⟨hg,x,hop,hx⟩
   ·cases hc
  ·cases hc
 ·cases hc
theorem I5{ι:IM}{w:World}{v:Value}{id:Nat}(h:aN ι w st v (.one (.pt id 0 0 0))):∃b,v= .pointer (some ⟨b,0,none⟩)∧id<st.length∧ι id=some b:=by
 cases h with
 |one _ _ h=>
  cases h with
  |pt _ _ _ _ b hid hb=>exact⟨b,rfl,hid,hb⟩
theorem XO.nxt(id:Nat)(s:ByteArray)(pos:Nat)(fr':Fr)(st':St)(hc:ux ops l fr=some id)(ho:st[id]? =some (.raw (.stringIter s pos)))
  (hput:rM n l (.tp [.one (.pv (.s (.bool true))),.one (.pv (.s (.int .i64 (Int.ofNat pos)))),.one (.pv (.s (.int .i32 (Int.ofNat (Utf8.decode s pos).1))))]) fr=some fr')
  (hst:st.set id (.raw (.stringIter s (pos+(Utf8.decode s pos).2)))=st')(hp:decide (pos<s.size)=true)
  (hk:XO P n n0 lz ops (l.drop 1) Q fr' st'):XO P n n0 lz ops l Q fr st:=by
 cases l with
 |nil=>simp[ux]at hc
 |cons o rest=>
  obtain⟨hg,x,hop,hx⟩:=Fy hc
  subst hst
  intro ι w a hR hF
  have hxv:=cu hF x
  rw[hx]at hxv
  obtain⟨b,hv,hid,hb⟩:=I5 hxv
  obtain⟨b',e1,e2⟩:=AN.1 (hR.obj id _ ho)
  rw[hb]at e1;cases e1
  have hw:=cF hg hF
  have hlt:pos<s.size:=of_decide_eq_true hp
  have hbl:=cf e2
  let w':World:={w with heap:=w.heap.setIfInBounds b (.stringIter s (pos+(Utf8.decode s pos).2))}
  have hrun:(execOp a.eval o).run P w= .ok (.value (.tuple #[.bool true,.int .i64 (Int.ofNat pos),.int .i32 (Int.ofNat (Utf8.decode s pos).1)])) w':=by
   simp[execOp,hop,hv,Instr.next,getObj,setObj,Sem.run,e2,hlt,goInt,w',Result.andThen]
  have hwr:oV w w' b:=by
   refine⟨rfl,rfl,rfl,by simp[w'],fun y hy=> ?_,fun c ty fz h=> ?_⟩
   ·simp[w',Array.getElem?_setIfInBounds,Ne.symm hy]
   ·rw[e2]at h;cases h
  have ha:aV.alive (.raw (.stringIter s pos)):=by simp[aV.alive]
  have k:=gK (body':= .raw (.stringIter s (pos+(Utf8.decode s pos).2))) ho ha hb hwr
  have hR':=hR.set (body':= .raw (.stringIter s (pos+(Utf8.decode s pos).2))) ho ha hb hwr (AN.2 ⟨b,hb,by simp[w',Array.getElem?_setIfInBounds,hbl]⟩)
  have hres:aN ι w' (st.set id (.raw (.stringIter s (pos+(Utf8.decode s pos).2)))) (.tuple [.bool true,.int .i64 (Int.ofNat pos),.int .i32 (Int.ofNat (Utf8.decode s pos).1)].toArray) (JC [.bool true,.int .i64 (Int.ofNat pos),.int .i32 (Int.ofNat (Utf8.decode s pos).1)]):=wO rfl
  refine wpList_step fun K hK=> ?_
  rw[if_pos hw]
  simp only[Oper.wp,hrun,Oper.upon]
  exact hK _ _ (di (fun e a w h=>h.trans (k.weaken (fun _ _=>trivial))) (hk _ _ _ hR' (gP hput (hF.mono' k) hres)))
theorem XO.nxtE(id:Nat)(s:ByteArray)(pos:Nat)(fr':Fr)(hc:ux ops l fr=some id)(ho:st[id]? =some (.raw (.stringIter s pos)))
  (hput:rM n l (.tp [.one (.pv (.s (.bool false)))]) fr=some fr')(hp:decide (pos<s.size)=false)
  (hk:XO P n n0 lz ops (l.drop 1) Q fr' st):XO P n n0 lz ops l Q fr st:=by
 cases l with
 |nil=>simp[ux]at hc
 |cons o rest=>
  obtain⟨hg,x,hop,hx⟩:=Fy hc
  intro ι w a hR hF
  have hxv:=cu hF x
  rw[hx]at hxv
  obtain⟨b,hv,hid,hb⟩:=I5 hxv
  obtain⟨b',e1,e2⟩:=AN.1 (hR.obj id _ ho)
  rw[hb]at e1;cases e1
  have hw:=cF hg hF
  have hlt:¬pos<s.size:=of_decide_eq_false hp
  have hrun:(execOp a.eval o).run P w= .ok (.value (.tuple #[.bool false])) w:=by
   simp[execOp,hop,hv,Instr.next,getObj,setObj,Sem.run,e2,hlt,Result.andThen]
  have hres:aN ι w st (.tuple [.bool false].toArray) (JC [.bool false]):=wO rfl
  refine wpList_step fun K hK=> ?_
  rw[if_pos hw]
  simp only[Oper.wp,hrun,Oper.upon]
  exact hK _ _ (hk _ _ _ hR (gP hput hF hres))
end
section
variable {P:Program} {n n0:Nat} {lz an:List Nat} {Q:QT} {fr:Fr} {st:St} {c:Code} {ops:Array Oper} {l:List Oper}
theorem uS{st:St}{id:Nat}{o:aV}(h:(st++[aV.dead])[id]? =some o)(ha:o.alive):id<st.length∧st[id]? =some o:=by
 by_cases hid:id<st.length
 ·rw[nq hid]at h
  exact⟨hid,h⟩
 ·have:id=st.length:=by
   have:=(gN.1 h).1
   simp at this
   omega
  subst this
  simp at h
  subst h
  exact absurd rfl ha
theorem H5{ι:IM}{w:World}(r:eu ι w st)(b:Option Nat):
  eu (ι.add st.length b) w (st++[.dead])∧bo all ι w st (ι.add st.length b) w (st++[.dead]):=by
 have own:∀x,nV (ι.add st.length b) (st++[.dead]) x→nV ι st x:=by
  rintro x ⟨id,o,h1,h2,h3⟩
  obtain⟨g1,g2⟩:=uS h1 h2
  simp only[IM.add,if_neg (Nat.ne_of_lt g1)]at h3
  exact⟨id,o,g2,h2,h3⟩
 have k:bo all ι w st (ι.add st.length b) w (st++[.dead]):=
  ⟨rfl,rfl,rfl,eo _,rfl,fun x _ hm=>⟨rfl,fun hm'=>hm (own x hm')⟩,fun id _ hid=>⟨by simp;omega,by simp[IM.add,Nat.ne_of_lt hid]⟩,fun _ c _ _ h=>⟨c,h,rfl⟩⟩
 refine⟨⟨fun id o hid=> ?_,r.amb,fun x hx=>r.dis x (own x hx),fun id id' o o' x h1 h2 a1 a2 e1 e2=> ?_,r.glk k⟩,k⟩
 ·by_cases ha:o= .dead
  ·subst ha;trivial
  ·obtain⟨g1,g2⟩:=uS hid ha
   have h0:=r.obj id o g2
   have hm:(ι.add st.length b) id=ι id:=by simp[IM.add,Nat.ne_of_lt g1]
   cases o with
   |dead=>trivial
   |box cells=>
    obtain⟨b',vs,ty,e,hb',hl⟩:=h0
    exact⟨b',vs,ty,hm.trans e,hb',hl.mono' k⟩
   |win wsz wi pre mid post=>
    obtain⟨b',c0,ty,e,hb',hn0,hl⟩:=h0
    exact⟨b',c0,ty,hm.trans e,hb',hn0,hl.mono' k⟩
   |rel Rm ps=>
    obtain⟨b',ob,vs0,e,hb',hr0,hl0⟩:=h0
    exact⟨b',ob,vs0,hm.trans e,hb',hr0,hl0.map fun _ _ h0=>k.pure h0⟩
   |arr sz els=>
    rcases h0 with⟨e,he⟩ |⟨b',c,ty,e,hb',h1,h2,h3⟩
    ·exact .inl ⟨hm.trans e,he⟩
    ·refine .inr ⟨b',c,ty,hm.trans e,hb',h1,h2,fun i e' j cv a1 a2=> ?_⟩
     obtain⟨v,hv,hr⟩:=h3 i e' j cv a1 a2
     exact⟨v,hv,k.pure hr⟩
 ·obtain⟨g1,g2⟩:=uS h1 a1
  obtain⟨q1,q2⟩:=uS h2 a2
  simp only[IM.add,if_neg (Nat.ne_of_lt g1)]at e1
  simp only[IM.add,if_neg (Nat.ne_of_lt q1)]at e2
  exact r.inj id id' o o' x g2 q2 a1 a2 e1 e2
theorem oV.refl(w:World)(b:Nat):oV w w b:=⟨rfl,rfl,rfl,rfl,fun _ _=>rfl,fun c _ _ h=>⟨c,h,rfl⟩⟩
theorem Ij{ι:IM}{w:World}(r:eu ι w st){id j:Nat}{cells:List CV}{c c':CV}(hid:st[id]? =some (.box cells))(hj:cells[j]? =some c)(h:∀v,bX ι w st v c→bX ι w st v c'):
  eu ι w (st.set id (.box (cells.set j c')))∧bo all ι w st ι w (st.set id (.box (cells.set j c'))):=by
 obtain⟨b,vs,ty,e1,e2,e3⟩:=r.obj id _ hid
 have ha:aV.alive (.box cells):=by simp[aV.alive]
 have k:=gK (body':= .box (cells.set j c')) hid ha e1 (oV.refl w b)
 refine⟨r.set hid ha e1 (oV.refl w b) ⟨b,vs,ty,e1,e2,?_⟩,k⟩
 refine dv.mono' k ⟨by simp[e3.1],fun i v d h1 h2=> ?_⟩
 by_cases e:i=j
 ·subst e
  have hlt:=(gN.1 hj).1
  rw[List.getElem?_set_self hlt]at h2
  cases h2
  exact h v (e3.2 i v c h1 hj)
 ·rw[List.getElem?_set_ne (Ne.symm e)]at h2
  exact e3.2 i v d h1 h2
theorem bW.stale(bx j id sz off len:Nat)(cells:List CV)(hb:st[bx]? =some (.box cells))(hj:cells[j]? =some (.sl id sz off len))(st':St)(hs:(st++[aV.dead]).set bx (.box (cells.set j (.sl st.length sz off len)))=st'):
  bW n n0 lz fr st fr st':=by
 subst hs
 intro ι w a hR hF
 obtain⟨r1,k1⟩:=H5 (st:=st) hR (ι id)
 have hlt:=(gN.1 hb).1
 have hne:∀v,bX (ι.add st.length (ι id)) w (st++[.dead]) v (.sl id sz off len)→bX (ι.add st.length (ι id)) w (st++[.dead]) v (.sl st.length sz off len):=by
  intro v hv
  have hnew:(ι.add st.length (ι id)) st.length=ι id:=by simp[IM.add]
  have hold:∀b,(ι.add st.length (ι id)) id=b→ι id=b:=by
   intro b h
   by_cases e:id=st.length
   ·simp[IM.add,e]at h;rw[e];exact h
   ·simpa [IM.add,e]using h
  cases hv with
  |sl _ _ _ _ b cap hid hb hcap hc=>exact .sl st.length sz off len b cap (by simp) (hnew.trans (hold _ hb)) hcap hc
  |sn _ _ hid hb=>exact .sn st.length sz (by simp) (hnew.trans (hold _ hb))
 obtain⟨r2,k2⟩:=Ij r1 (id:=bx) (j:=j) (cells:=cells) (by rw[nq hlt];exact hb) hj hne
 have k:=k1.trans k2
 exact⟨_,r2,hF.mono' k,k.weaken (fun _ _=>trivial)⟩
theorem bW.listb(bx j sz:Nat)(cells:List CV)(hb:st[bx]? =some (.box cells))(hj:cells[j]? =some (.pv (.s (.slice none 0 0))))(st':St)(hs:(st++[aV.arr sz []]).set bx (.box (cells.set j (.sl st.length sz 0 0)))=st'):
  bW n n0 lz fr st fr st':=by
 subst hs
 intro ι w a hR hF
 obtain⟨r1,k1,hv0⟩:=ue (ι:=ι) (w:=w) (st:=st) hR sz
 have hlt:=(gN.1 hb).1
 have hne:∀v,bX (ι.add st.length none) w (st++[.arr sz []]) v (.pv (.s (.slice none 0 0)))→bX (ι.add st.length none) w (st++[.arr sz []]) v (.sl st.length sz 0 0):=by
  intro v hv
  have:=bi (aN.one _ _ hv)
  subst this
  exact hv0
 obtain⟨r2,k2⟩:=Ij r1 (id:=bx) (j:=j) (cells:=cells) (by rw[nq hlt];exact hb) hj hne
 have k:=k1.trans k2
 exact⟨_,r2,hF.mono' k,k.weaken (fun _ _=>trivial)⟩
theorem bW.softb(bx j:Nat)(cells:List CV)(hb:st[bx]? =some (.box cells))(hj:cells[j]? =some (.pv (.s (.slice none 0 0))))(st':St)(hs:st.set bx (.box (cells.set j (.pv (.ro []))))=st'):
  bW n n0 lz fr st fr st':=by
 subst hs
 intro ι w a hR hF
 obtain⟨r2,k2⟩:=Ij hR (id:=bx) (j:=j) (cells:=cells) hb hj (c':= .pv (.ro [])) (fun v hv=>hv.le .nl)
 exact⟨_,r2,hF.mono' k2,k2.weaken (fun _ _=>trivial)⟩
theorem lD.cutMOk{α:Type}(E:lD α){xs:List α}{l h m:Int}(g:0≤l∧l≤h∧h≤m∧m≤(xs.length:Int)):(0≤l∧l≤h∧h≤m∧m≤((E.els xs).length:Int))∧aT E.sz (E.els xs):=
 ⟨by rw[E.len];exact g,E.ok xs⟩
end
structure HC(κ:Type) where
 enc:κ→Value
 desc:TypeDesc
 eq:κ→κ→Bool
 same:∀a b,Instr.sameNow desc (enc a) (enc b)=some (eq a b)
 bits:∀a b,eq a b=true→Instr.sameBits 10000 (enc b) (enc a)=true
 flat:∀(P:Program) (t:TypeId) (e:Bool) (a:κ) (w:World),P.underlying t=some desc→(Instr.checkKey e 10000 t (enc a)).run P w= .ok () w
structure NK(α:Type) where
 enc:α→Value
def mD(k:IntKind):HC Int where
 enc n:= .int k n
 desc:= .int k
 eq a b:=a==b
 same a b:=by simp[Instr.sameNow]
 bits a b h:=by
  have:a=b:=by simpa using h
  subst this
  simp[Instr.sameBits]
 flat P t e a w h:=by
  rw[show(10000:Nat)=9999+1 from rfl,Instr.checkKey]
  simp[run_underlying h]
section
variable {κ α:Type} (K:HC κ) (E:NK α)
def nQ:List (κ×α)→Nat→List MapEntry
 |[],_=>[]
 |(k,v)::l,i=>⟨K.enc k,E.enc v,i⟩::nQ l (i+1)
def pB(m:List (κ×α)):Obj:= .map (nQ K E m 0).toArray m.length
def iC(m:List (κ×α))(k:κ):Option α:=match m with
 |[]=>none
 |(k',v)::l=>if K.eq k k' then some v else iC l k
def iy(m:List (κ×α))(k:κ)(v:α):List (κ×α):=match m with
 |[]=>[(k,v)]
 |(k',v')::l=>if K.eq k k' then(k,v)::l else(k',v')::iy l k v
def pP(m:List (κ×α))(k:κ):Option Nat:=match m with
 |[]=>none
 |(k',_)::l=>if K.eq k k' then some 0 else(pP l k).map (·+1)
theorem E6:∀(m:List (κ×α)) (k:κ) (i b:Nat),Instr.findNow K.desc (K.enc k) (nQ K E m b) i=some ((pP K m k).bind fun j=>(iC K m k).map fun v=>(i+j,E.enc v))
 |[],k,i,b=>by simp[nQ,Instr.findNow,pP]
 |(k',v)::l,k,i,b=>by
  simp only[nQ,Instr.findNow,K.same]
  cases h:K.eq k k' with
  |true=>simp[pP,iC,h]
  |false=>
   simp only[pP,iC,h,if_false,Bool.false_eq_true]
   rw[E6 l k (i+1) (b+1)]
   cases pP K l k with
   |none=>rfl
   |some j=>
    cases iC K l k with
    |none=>rfl
    |some u=>simp;omega
theorem xE:∀(m:List (κ×α)) (k:κ),(pP K m k).isSome=(iC K m k).isSome
 |[],k=>rfl
 |(k',v)::l,k=>by
  simp only[pP,iC]
  cases h:K.eq k k' with
  |true=>simp
  |false=>simpa using xE l k
theorem zZ:∀(m:List (κ×α)) (k:κ) (v:α) (b:Nat),pP K m k=none→nQ K E (iy K m k v) b=nQ K E m b++[⟨K.enc k,E.enc v,b+m.length⟩]
 |[],k,v,b,_=>by simp[iy,nQ]
 |(k',v')::l,k,v,b,h=>by
  simp only[pP]at h
  cases hq:K.eq k k' with
  |true=>simp[hq]at h
  |false=>
   simp only[hq,if_false,Bool.false_eq_true,Option.map_eq_none_iff]at h
   simp only[iy,hq,if_false,Bool.false_eq_true,nQ,zZ l k v (b+1) h,List.cons_append,List.length_cons]
   rw[show b+1+l.length=b+(l.length+1) by omega]
theorem sS:∀(m:List (κ×α)) (k:κ) (v:α),pP K m k=none→(iy K m k v).length=m.length+1
 |[],k,v,_=>rfl
 |(k',v')::l,k,v,h=>by
  simp only[pP]at h
  cases hq:K.eq k k' with
  |true=>simp[hq]at h
  |false=>
   simp only[hq,if_false,Bool.false_eq_true,Option.map_eq_none_iff]at h
   simp[iy,hq,sS l k v h]
theorem Am:∀(m:List (κ×α)) (k:κ) (v:α) (b j:Nat),pP K m k=some j→
  ∃e:MapEntry,(nQ K E m b)[j]? =some e∧(∃k',e.key=K.enc k'∧K.eq k k'=true)∧nQ K E (iy K m k v) b=(nQ K E m b).modify j (fun e=>{e with key:=K.enc k,val:=E.enc v})∧(iy K m k v).length=m.length
 |[],k,v,b,j,h=>by simp[pP]at h
 |(k',v')::l,k,v,b,j,h=>by
  simp only[pP]at h
  cases hq:K.eq k k' with
  |true=>
   simp[hq]at h
   subst h
   exact⟨_,rfl,⟨k',rfl,hq⟩,by simp[iy,hq,nQ],by simp[iy,hq]⟩
  |false=>
   simp only[hq,if_false,Bool.false_eq_true,mE]at h
   obtain⟨j',h,rfl⟩:=h
   obtain⟨e,h1,h2,h3,h4⟩:=Am l k v (b+1) j' h
   refine⟨e,by simpa [nQ]using h1,h2,?_,by simp[iy,hq,h4]⟩
   simp only[iy,hq,if_false,Bool.false_eq_true,nQ,h3,List.modify_succ_cons]
variable {P:Program} {n n0:Nat} {lz an:List Nat} {Q:QT} {fr:Fr} {st:St} {c:Code} {ops:Array Oper} {l:List Oper}
def A6(ops:Array Oper)(l:List Oper)(fr:Fr):Bool:=
 match l with
 |o::_=>match cI ops o fr with
  |some true=>match o.op with
   | .makeMap _ none=>true
   |_=>false
  |_=>false
 |[]=>false
theorem Ik{ι:IM}{w:World}{v:Value}{id:Nat}(h:aN ι w st v (.one (.mp id))):∃b,v= .map (some b)∧id<st.length∧ι id=some b:=by
 cases h with
 |one _ _ h=>
  cases h with
  |mp _ b hid hb=>exact⟨b,rfl,hid,hb⟩
theorem Ct{kt:TypeId}(hkt:P.underlying kt=some K.desc)(m:List (κ×α))(k:κ)(w:World):
  (Instr.findKey kt (K.enc k) (nQ K E m 0)).run P w= .ok ((pP K m k).bind fun j=>(iC K m k).map fun v=>(j,E.enc v)) w:=by
 simp[Instr.findKey,run_underlying hkt,E6]
end
section
variable {P:Program} {n n0:Nat} {lz an:List Nat} {Q:QT} {fr:Fr} {st:St} {c:Code} {ops:Array Oper} {X:List Nat} {l:List Oper} {tw:List (List Nat×List Nat)} {fr2:Fr} {st2:St}
end
section
variable {P:Program}
end
section
variable {P:Program} {n n0:Nat} {lz an:List Nat} {Q:QT} {fr:Fr} {st:St} {c:Code} {ops:Array Oper} {X:List Nat} {l:List Oper} {tw:List (List Nat×List Nat)} {fr2:Fr} {st2:St}
def BX(L:Nat)(rs:List Nat)(sc sc':St)(avs:List AV):Bool:=
 ((xA rs&&xL L rs)&&(Nat.beq rs.length sc.length&&Nat.ble sc.length sc'.length))&&(dq (fun i=>Nat.ble (i+1) sc.length) sc&&avs.all (cU (fun i=>Nat.ble (i+1) sc.length)))
def rW(rs L:List Nat):Nat→St→Bool
 |_,[]=>true
 |i,o::l=>(aI rs i||gA (fun q=> !aI L q) o)&&rW rs L (i+1) l
theorem rz{rs L:List Nat}:∀{st:St} {i:Nat},rW rs L i st=true→∀(j:Nat) o,st[j]? =some o→i+j∉rs→gA (fun q=> !aI L q) o=true
 |[],i,_,j,o,h,_=>by simp at h
 |x::l,i,h,j,o,hj,hn=>by
  simp only[rW,fM,Bool.or_eq_true]at h
  cases j with
  |zero=>
   simp at hj;subst hj
   rcases h.1 with h1|h1
   ·exact absurd (d9.1 h1) hn
   ·exact h1
  |succ j=>exact rz h.2 j o (by simpa using hj) (by rw[show i+1+j=i+(j+1) by omega];exact hn)
theorem MX.use'{g:Nat}{avs:List AV}{sc sc':St}{lo:List Nat}{r:AV}(h:MX P g avs sc lo r sc'){st:St}(rs:List Nat)(hb:BX st.length rs sc sc' avs=true)(hst:rs.map (fun x=>st[x]?)=sc.map (fun o=>some (my (ia rs st.length) o)))
  (hbox:∀(id:Nat) o,st[id]? =some o→id∉rs→gA (fun q=> !aI (lo.map (ia rs st.length)) q) o=true)
  {ι:IM}{w:World}{vs:List Value}(hR:eu ι w st)(hA:sG ι w st vs (avs.map (nP (ia rs st.length)))):
  Calls P g vs.toArray w fun e w'=>∃v ι',e= .returned v∧eu ι' w' (en st rs ((sc'.take sc.length).map (my (ia rs st.length)))++(sc'.drop sc.length).map (my (ia rs st.length)))∧
   aN ι' w' (en st rs ((sc'.take sc.length).map (my (ia rs st.length)))++(sc'.drop sc.length).map (my (ia rs st.length))) v (nP (ia rs st.length) r)∧
   bo (fun id=>id∉lo.map (ia rs st.length)) ι w st ι' w' (en st rs ((sc'.take sc.length).map (my (ia rs st.length)))++(sc'.drop sc.length).map (my (ia rs st.length))):=by
 unfold BX at hb
 simp only[fM]at hb
 obtain⟨⟨⟨h1,h2⟩,h3,h4⟩,h5,h6⟩:=hb
 exact h.use rs (tg h1) h2 (kW h3) (n4 h4) hst h5 (fun a ha=>List.all_eq_true.1 h6 a ha) hbox hR hA
theorem XO.calx(g:Nat)(avs:List AV)(sc sc':St)(lo:List Nat)(r:AV)(rs:List Nat)(L:List Nat)(fr':Fr)(st':St)(hc:iX P n ops l fr=some (g,avs.map (nP (ia rs st.length))))(h:MX P g avs sc lo r sc')(hb:BX st.length rs sc sc' avs=true)
  (hL:lo.map (ia rs st.length)=L)(hbx:rW rs L 0 st=true)(hfx:xP n0 lz L=true)
  (hst:rs.map (fun x=>st[x]?)=sc.map (fun o=>some (my (ia rs st.length) o)))(hst':en st rs ((sc'.take sc.length).map (my (ia rs st.length)))++(sc'.drop sc.length).map (my (ia rs st.length))=st')(hput:rM n l (nP (ia rs st.length) r) (jb (fun id=> !aI L id) fr)=some fr')
  (hk:XO P n n0 lz ops (l.drop 1) Q fr' st'):XO P n n0 lz ops l Q fr st:=by
 cases l with
 |nil=>simp[iX]at hc
 |cons o rest=>
  simp only[iX]at hc
  split at hc
  ·rename_i hg
   intro ι w a hR hF
   obtain⟨vs,hrun,hA⟩:=lB hc hF
   have hw:=cF hg hF
   refine wpList_step fun K hK=> ?_
   rw[if_pos hw]
   simp only[Oper.wp,hrun,Oper.upon]
   refine(h.use' rs hb hst (by rw[hL];exact fun id o ho hn=>rz hbx id o ho (by rwa [Nat.zero_add])) hR hA).mono ?_
   rintro e w' ⟨v,ι',rfl,hR',hv,k⟩
   rw[hst',hL]at k
   rw[hst']at hR' hv
   refine hK _ _ (di (fun e a w h=>h.trans (k.weaken (fun id hf=> ?_))) (hk ι' w' _ hR' (gP hput (hF.keep k (q:=fun id=> !aI L id) (fun id hq _ hm=>by rw[d9.2 hm]at hq;cases hq)) hv)))
   intro hm
   have:=List.all_eq_true.1 hfx id hm
   have hf':nA n0 lz id=true:=hf
   rw[hf']at this
   cases this
  ·simp at hc
end
def yV(a b:Nat)(i:Nat):Nat:=bif Nat.beq i a then b else bif Nat.beq i b then a else i
theorem Nat.beq_eq_false{i a:Nat}(h:i≠a):Nat.beq i a=false:=by
 cases hb:Nat.beq i a with
 |false=>rfl
 |true=>exact absurd (kW hb) h
theorem Hl{a b:Nat}:yV a b a=b:=by simp[yV]
theorem G3{a b:Nat}:yV a b b=a:=by
 unfold yV
 cases h:Nat.beq b a with
 |true=>have:=kW h;simp[this]
 |false=>simp
theorem FJ{a b i:Nat}(h1:i≠a)(h2:i≠b):yV a b i=i:=by
 unfold yV
 rw[Nat.beq_eq_false h1,Nat.beq_eq_false h2];rfl
theorem xe{a b:Nat}(i:Nat):yV a b (yV a b i)=i:=by
 by_cases h1:i=a
 ·subst h1;rw[Hl,G3]
 by_cases h2:i=b
 ·subst h2;rw[G3,Hl]
 rw[FJ h1 h2,FJ h1 h2]
theorem DG{a b n i:Nat}(ha:a<n)(hb:b<n)(hi:i<n):yV a b i<n:=by
 by_cases h1:i=a
 ·subst h1;rw[Hl];exact hb
 by_cases h2:i=b
 ·subst h2;rw[G3];exact ha
 rw[FJ h1 h2];exact hi
def s8(a b:Nat)(st:St):St:=(List.range st.length).map fun i=>my (yV a b) ((st[yV a b i]?).getD .dead)
def Fg(a b:Nat)(fr:Fr):Fr:=fr.map fun x=>(x.1,nP (yV a b) x.2)
section
variable {n n0:Nat} {lz:List Nat} {fr:Fr} {st:St}
theorem Ao(a b:Nat):(s8 a b st).length=st.length:=by simp[s8]
theorem sj{a b i:Nat}(ha:a<st.length)(hb:b<st.length){o:aV}:(s8 a b st)[i]? =some o↔∃o',st[yV a b i]? =some o'∧o=my (yV a b) o':=by
 unfold s8
 by_cases hi:i<st.length
 ·have h2:=DG ha hb hi
  rw[List.getElem?_map,List.getElem?_range hi,Option.map_some,gu h2,Option.getD_some]
  constructor
  ·intro h;exact⟨_,rfl,(Option.some.inj h).symm⟩
  ·rintro⟨o',h,rfl⟩;cases h;rfl
 ·have h2:¬yV a b i<st.length:=fun h=>hi (by have:=DG ha hb h;rwa [xe]at this)
  rw[List.getElem?_eq_none (by simp;omega),List.getElem?_eq_none (by omega)]
  simp
theorem Hm(a b:Nat):∀(fr:Fr) (t:Nat),lk (Fg a b fr) t=nP (yV a b) (lk fr t)
 |[],_=>rfl
 |(d,av)::fr,t=>by
  simp only[Fg,List.map_cons,lk]
  cases Nat.beq d t with
  |true=>rfl
  |false=>exact Hm a b fr t
theorem bW.swap(a b:Nat)(fr':Fr)(st':St)(hlt:(Nat.ble (a+1) st.length&&Nat.ble (b+1) st.length)=true)(hf:(nA n0 lz a||nA n0 lz b)=false)(hfr:Fg a b fr=fr')(hst:s8 a b st=st'):
  bW n n0 lz fr st fr' st':=by
 subst hfr;subst hst
 simp only[fM]at hlt
 have ha:=n4 hlt.1
 have hb:=n4 hlt.2
 simp only[Bool.or_eq_false_iff]at hf
 intro ι w act hR hF
 let ι':IM:=⟨fun i=>ι (yV a b i),ι.amb⟩
 have own:∀x,nV ι' (s8 a b st) x→nV ι st x:=by
  rintro x ⟨i,o,h1,h2,h3⟩
  obtain⟨o',e1,rfl⟩:=(sj ha hb).1 h1
  exact⟨_,o',e1,gI.1 h2,h3⟩
 have hmut:∀x,fK ι' (s8 a b st) x→fK ι st x:=fun x h=>h.imp id (own x)
 have hl:∀i,i<st.length→yV a b i<(s8 a b st).length∧ι' (yV a b i)=ι i:=fun i hi=>⟨by rw[Ao];exact DG ha hb hi,by show ι (yV a b (yV a b i))=ι i;rw[xe]⟩
 have k:bo (tA n0 lz) ι w st ι' w (s8 a b st):=
  ⟨rfl,rfl,rfl,eo _,rfl,fun x _ hm=>⟨rfl,fun hm'=>hm (own x hm')⟩,fun id hfix hid=>⟨by rw[Ao];exact hid,by
   have hfix':nA n0 lz id=true:=hfix
   show ι (yV a b id)=ι id
   rw[FJ (by rintro rfl;rw[hf.1]at hfix';cases hfix') (by rintro rfl;rw[hf.2]at hfix';cases hfix')]⟩,fun x c ty fz h=>⟨c,h,rfl⟩⟩
 refine⟨ι',⟨fun i o hi=> ?_,hR.amb,fun x hx=>hR.dis x (own x hx),fun i j o o' x h1 h2 a1 a2 e1 e2=> ?_,hR.glk k⟩,⟨hF.defers,hF.size,fun t=> ?_⟩,k⟩
 ·obtain⟨o',e1,rfl⟩:=(sj ha hb).1 hi
  have:=hR.obj _ o' e1
  cases o' with
  |dead=>trivial
  |box cells=>
   obtain⟨b',vs,ty,e,hb',hl'⟩:=this
   exact⟨b',vs,ty,e,hb',hl'.ren hmut hl⟩
  |win wsz wi pre mid post=>
   obtain⟨b',vs,ty,e,hb',hn0,hl'⟩:=this
   exact⟨b',vs,ty,e,hb',hn0,by have h:=hl'.ren hmut hl;rw[D9]at h;rw[List.length_map];exact h⟩
  |rel Rm ps=>
   obtain⟨b',ob,vs0,e,hb',hr0,hl0⟩:=this
   exact⟨b',ob,vs0,e,hb',hr0,hl0.map fun _ _ h0=>h0.mono (eo _) (fun b _ hb=>⟨rfl,fun h'=>hb (hmut b h')⟩)⟩
  |arr sz els=>
   rcases this with⟨e,he⟩ |⟨b',c,ty,e,hb',g1,g2,g3⟩
   ·exact .inl ⟨e,he⟩
   ·refine .inr ⟨b',c,ty,e,hb',g1,g2,fun i' e' j cv a1 a2=> ?_⟩
    obtain⟨v,hv,hr⟩:=g3 i' e' j cv a1 a2
    exact⟨v,hv,hr.mono (eo _) (fun b _ hb=>⟨rfl,fun h'=>hb (hmut b h')⟩)⟩
 ·obtain⟨p,p1,rfl⟩:=(sj ha hb).1 h1
  obtain⟨q,q1,rfl⟩:=(sj ha hb).1 h2
  have:=hR.inj _ _ p q x p1 q1 (gI.1 a1) (gI.1 a2) e1 e2
  rw[←xe (a:=a) (b:=b) i,←xe (a:=a) (b:=b) j,this]
 ·rw[Hm]
  exact(hF.slot t).ren hmut hl
end
end Go.SX
namespace Go.SX
open Go
section
variable {n n0:Nat} {lz:List Nat} {fr:Fr} {st:St}
end
end Go.SX
namespace Go.SX
open Go
section
variable {n n0:Nat} {lz:List Nat} {fr:Fr} {st:St}
def qt(L:List Nat):Nat→St→St
 |_,[]=>[]
 |i,b::l=>(bif aI L i then b else .dead)::qt L (i+1) l
theorem tQ(L:List Nat):∀(l:St) (i j:Nat),(qt L i l)[j]? =(l[j]?).map fun b=>bif aI L (i+j)then b else .dead
 |[],_,_=>by simp[qt]
 |b::l,i,0=>by simp[qt]
 |b::l,i,j+1=>by simp only[qt,List.getElem?_cons_succ];rw[tQ L l (i+1) j,show i+1+j=i+(j+1) by omega]
theorem bW.only{fr':Fr}{st':St}(L:List Nat)(m:Nat)(hL:((List.range n0).all (aI L)&&L.all (fun x=>Nat.ble (x+1) m))=true)(hf:jb (aI L) fr=fr')(hst:qt L 0 (st.take m)=st')(hi:dq (aI L) st'=true):
  bW n n0 lz fr st fr' st':=by
 subst hf
 subst hst
 simp only[fM,List.all_eq_true]at hL
 intro ι w a hR hF
 have hs:s7 (aI L) st (qt L 0 (st.take m)):=by
  refine⟨fun id o h=> ?_,fun id hq hid=> ?_⟩
  ·rw[tQ,mE]at h
   obtain⟨b,h1,rfl⟩:=h
   rw[Nat.zero_add]
   cases hq:aI L id with
   |false=>exact .inl rfl
   |true=>
    rw[List.getElem?_take]at h1
    split at h1
    ·exact .inr ⟨rfl,h1⟩
    ·cases h1
  ·have h1:=n4 (hL.2 id (d9.1 hq))
   have h2:(qt L 0 (st.take m))[id]? ≠none:=by
    rw[tQ,List.getElem?_take,if_pos (show id<m from h1),gu hid];simp
   exact Nat.lt_of_not_le fun h=>h2 (List.getElem?_eq_none h)
 obtain⟨r1,k1⟩:=hR.shrink hs hi
 refine⟨ι,r1,hF.keep k1 (q:=aI L) (fun _ h _=>h),k1.weaken (fun id h=> ?_)⟩
 have h1:nA n0 lz id=true:=h
 simp only[nA,fM]at h1
 exact hL.1 id (List.mem_range.2 (n4 h1.1))
end
section
variable {P:Program} {n n0:Nat} {lz:List Nat} {Q:QT} {fr:Fr} {st:St} {c:Code} {ops:Array Oper} {fn:Func} {p:List Nat}
def Lp:Code→Operand
 | .cond x _ _=>x
 |_=> .const (.bool false)
theorem zq(h:∀K:Fr→St→Prop,(∀f s,XW P n n0 lz (cd fn (p++[1])) Q f s→K f s)→XW P n n0 lz (cd fn (p++[0])) (eS K Q) fr st)
 (he:cd fn p= .seq (cd fn (p++[0])) (cd fn (p++[1])):=by kernel_rfl):XW P n n0 lz (cd fn p) Q fr st:=XW.seq he h
theorem zb(id:Nat)(h:XW P n n0 lz (cd fn (p++[0])) (te id Q) fr st)(he:cd fn p= .block id (cd fn (p++[0])):=by kernel_rfl):XW P n n0 lz (cd fn p) Q fr st:=XW.block he h
theorem zs(h:Q .normal fr st)(he:c= .skip:=by kernel_rfl):XW P n n0 lz c Q fr st:=XW.skip he h
theorem ze(h:Q .ret fr st)(he:c= .ret:=by kernel_rfl):XW P n n0 lz c Q fr st:=XW.ret he h
theorem zx(id:Nat)(h:Q (.exit id) fr st)(he:c= .exit id:=by kernel_rfl):XW P n n0 lz c Q fr st:=XW.exit he h
theorem zr(h:XO P n n0 lz (gX c) (gX c).toList Q fr st)(he:oU c=some false:=by kernel_rfl):XW P n n0 lz c Q fr st:=XW.reg he h
theorem zd{l:List Oper}(h:Q .normal fr st)(he:l=[]:=by kernel_rfl):XO P n n0 lz ops l Q fr st:=XO.done he h
def MD(o:Option (Exit×Fr×St×List Prop)):Option (List Prop):=match o with
 |some (.normal,_,_,ob)=>some ob
 |_=>none
def rF(o:Option (Exit×Fr×St×List Prop)):Fr:=match o with
 |some (_,f,_,_)=>f
 |none=>[]
def rS(o:Option (Exit×Fr×St×List Prop)):St:=match o with
 |some (_,_,s,_)=>s
 |none=>[]
theorem zo{l:List Oper}(an:List Nat)(k:Nat)(ts:List Nat)(hs:HS)(ob:List Prop)(hob:eH ob)
  (hk:XO P n n0 lz ops (l.drop k) Q (rF (tF ts (mw P n n0 lz an ops (l.take k) fr st hs))) (rS (tF ts (mw P n n0 lz an ops (l.take k) fr st hs))))
  (h:MD (tF ts (mw P n n0 lz an ops (l.take k) fr st hs))=some ob:=by kernel_rfl):XO P n n0 lz ops l Q fr st:=by
 generalize hr:tF ts (mw P n n0 lz an ops (l.take k) fr st hs)=r at*
 match r,h with
 |some (.normal,f,s,ob'),h=>
  obtain rfl:=Option.some.inj h
  exact XO.go an k ts hs f s ob' hr hob hk
theorem zg{l:List Oper}(an:List Nat)(k:Nat)(ts:List Nat)
 (hk:XO P n n0 lz ops (l.drop k) Q (rF (tF ts (mw P n n0 lz an ops (l.take k) fr st []))) (rS (tF ts (mw P n n0 lz an ops (l.take k) fr st []))))
 (h:MD (tF ts (mw P n n0 lz an ops (l.take k) fr st []))=some []:=by kernel_rfl):XO P n n0 lz ops l Q fr st:=zo an k ts [] [] trivial hk h
theorem zp{l:List Oper}(an:List Nat)(k:Nat)(ts:List Nat)(hs:HS)(fr':Fr)(st':St)(ob:List Prop)(hob:eH ob)
 (hk:XO P n n0 lz ops (l.drop k) Q fr' st')(h:tF ts (mw P n n0 lz an ops (l.take k) fr st hs)=some (.normal,fr',st',ob):=by kernel_rfl):XO P n n0 lz ops l Q fr st:=XO.go an k ts hs fr' st' ob h hob hk
theorem zt{l:List Oper}(t:Nat){B b:Bool}(hB:B=b)(h:XO P n n0 lz ops l Q ((t,vb b)::fr) st)(hl:lk fr t=vb B:=by kernel_rfl):XO P n n0 lz ops l Q fr st:=XO.setb t b hl hB h
def pF(o:Option Fr):Fr:=o.getD []
theorem za{l:List Oper}{g:Nat}{avs:List AV}{r:AV}(h:PC P g avs r)(hk:XO P n n0 lz ops (l.drop 1) Q (pF (rM n l r fr)) st)(hc:iX P n ops l fr=some (g,avs):=by kernel_rfl)(hp:jH avs=true:=by kernel_rfl)(hr:mm r=true:=by kernel_rfl)
  (hput:(rM n l r fr).isSome=true:=by kernel_rfl):XO P n n0 lz ops l Q fr st:=by
 obtain⟨f,hf⟩:=Option.isSome_iff_exists.1 hput
 rw[hf]at hk
 exact XO.callp hc h hp hr hf hk
theorem PI{l:List Oper}{fr2:Fr}{g:Nat}{avs:List AV}{r:AV}(h:PC P g avs r)(hk:DX P n st ops (l.drop 1) (yQ l r fr) fr2)(hc:ld P n ops l fr=some (g,avs):=by kernel_rfl)(hp:jH avs=true:=by kernel_rfl)(hr:mm r=true:=by kernel_rfl):DX P n st ops l fr fr2:=
 DX.callp hc h hp hr rfl hk
def dF(o:Option (Fr×List Prop)):Fr:=match o with
 |some (f,_)=>f
 |none=>[]
def dO(o:Option (Fr×List Prop)):Option (List Prop):=o.map (·.2)
theorem Oh{l:List Oper}{fr2:Fr}(k:Nat)(hs:HS)(ob:List Prop)(hob:eH ob)(hk:DX P n st ops (l.drop k) (dF (Bo (tB P n st ops (l.take k) fr hs))) fr2)
  (h:dO (Bo (tB P n st ops (l.take k) fr hs))=some ob:=by kernel_rfl):DX P n st ops l fr fr2:=by
 generalize hr:Bo (tB P n st ops (l.take k) fr hs)=r at*
 match r,h with
 |some (f,ob'),h=>
  obtain rfl:=Option.some.inj h
  exact DX.go k hs f ob' hr hob hk
theorem OQ{l:List Oper}{fr2:Fr}(k:Nat)(hk:DX P n st ops (l.drop k) (dF (Bo (tB P n st ops (l.take k) fr []))) fr2)
 (h:dO (Bo (tB P n st ops (l.take k) fr []))=some []:=by kernel_rfl):DX P n st ops l fr fr2:=Oh k [] [] trivial hk h
theorem Km{l:List Oper}{fr2:Fr}(he:l=[]:=by kernel_rfl)(hf:fr=fr2:=by kernel_rfl):DX P n st ops l fr fr2:=by subst hf;exact DX.done he
theorem zw(m:Nat)(fr':Fr)(hs:DX P n st (gX c) ((gX c).toList.take m) fr fr')(hk:XO P n n0 lz (gX c) ((gX c).toList.drop m) Q fr' st)(he:oU c=some true:=by kernel_rfl)
 (hm:((v8 (gX c)&&wD (gX c) m)&&P.follows .mixedOrders)=true:=by kernel_rfl):XW P n n0 lz c Q fr st:=XW.drwS m fr' he hm hs hk
theorem zf{r:AV}{e:Exit}(avs:List AV)(ha:AF st (fun _=>false) (pH avs) r)(h:mR P fr st fn.results.toList []=some (avs,[]):=by kernel_rfl)(he:e= .normal∨e= .ret:=by first|exact .inr rfl|exact .inl rfl):wL P fn r e fr st:=
 wL.fin he [] avs [] h trivial ha
theorem zk{fr':Fr}(ts:List Nat)(h:BB ts fr=fr':=by kernel_rfl):bW n n0 lz fr st fr' st:=bW.pick ts h
def MS:HS→List Prop
 |[]=>[]
 |x::l=>(([x]:List (List PV))[0]? =some x)::MS l
theorem yi:∀hs:HS,eH (MS hs)
 |[]=>trivial
 |x::l=>⟨rfl,yi l⟩
theorem zu{l:List Oper}(an:List Nat)(k:Nat)(ts:List Nat)(hs:HS)
 (hk:XO P n n0 lz ops (l.drop k) Q (rF (tF ts (mw P n n0 lz an ops (l.take k) fr st hs))) (rS (tF ts (mw P n n0 lz an ops (l.take k) fr st hs))))
 (h:MD (tF ts (mw P n n0 lz an ops (l.take k) fr st hs))=some (MS hs):=by kernel_rfl):XO P n n0 lz ops l Q fr st:=zo an k ts hs _ (yi hs) hk h
theorem zv{l:List Oper}(an:List Nat)(k:Nat)(ts:List Nat)(hs:HS)(fr':Fr)(st':St)
 (hk:XO P n n0 lz ops (l.drop k) Q fr' st')(h:tF ts (mw P n n0 lz an ops (l.take k) fr st hs)=some (.normal,fr',st',MS hs):=by kernel_rfl):XO P n n0 lz ops l Q fr st:=XO.go an k ts hs fr' st' _ h (yi hs) hk
theorem OR{l:List Oper}{fr2:Fr}(k:Nat)(hs:HS)(fr':Fr)(hk:DX P n st ops (l.drop k) fr' fr2)(h:Bo (tB P n st ops (l.take k) fr hs)=some (fr',MS hs):=by kernel_rfl):DX P n st ops l fr fr2:=DX.go k hs fr' _ h (yi hs) hk
theorem ME{l:List Oper}{fr2:Fr}(k:Nat)(hs:HS)(fr':Fr)(ob:List Prop)(hob:eH ob)(hk:DX P n st ops (l.drop k) fr' fr2)(h:Bo (tB P n st ops (l.take k) fr hs)=some (fr',ob):=by kernel_rfl):DX P n st ops l fr fr2:=DX.go k hs fr' ob h hob hk
theorem zW{β:Type}{b:Bool}{x y:Option β}{r:β}(h:aF b x y=some r):(b=true∧x=some r)∨(b=false∧y=some r):=by
 cases b
 ·exact .inr ⟨rfl,h⟩
 ·exact .inl ⟨rfl,h⟩
theorem zC{β:Type}{t:Bool}{x y:Option β}{r:β}(hh:aF t x y=some r)(ht:t=true→x=some r→XW P n n0 lz (cd fn (p++[0])) Q fr st)(hf:t=false→y=some r→XW P n n0 lz (cd fn (p++[1])) Q fr st)
  (he:cd fn p= .cond (Lp (cd fn p)) (cd fn (p++[0])) (cd fn (p++[1])):=by kernel_rfl)(hx:rv fr (Lp (cd fn p))= .one (.pv (.s (.bool t))):=by kernel_rfl):XW P n n0 lz (cd fn p) Q fr st:=
 XW.cond he hx (fun q=>ht q (by subst q;exact hh)) (fun q=>hf q (by subst q;exact hh))
theorem zB{α β:Type}{o:Option α}{f:α→Option β}{r:β}(h:aK o f=some r):∃a,o=some a∧f a=some r:=jV h
theorem zG{β:Type}{q:Prop}[Decidable q]{x:Option β}{r:β}(h:eh q x=some r):q∧x=some r:=iq h
theorem zF{f:Nat}{args:List AV}{r:AV}(n:Nat)(fn:Func)(h:XW P n 0 [] (cd fn []) (wL P fn r) (ly args 0) [])(hf:P.funcs[f]? =some fn:=by kernel_rfl)(hb:fn.body=some (cd fn []):=by kernel_rfl)(hn:fn.ntmps=n:=by kernel_rfl)
 (hl:Nat.ble args.length n=true:=by rfl):PC P f args r:=PC.of hf hb hn (n4 hl) h
theorem zl{l:List Oper}(g:Nat)(avs:List AV)(r:AV)(fr1:Fr)(h:PC P g avs r)(hk:XO P n n0 lz ops (l.drop 1) Q fr1 st)(hc:iX P n ops l fr=some (g,avs):=by kernel_rfl)(hp:jH avs=true:=by rfl)(hr:mm r=true:=by rfl)
 (hput:rM n l r fr=some fr1:=by kernel_rfl):XO P n n0 lz ops l Q fr st:=XO.callp hc h hp hr hput hk
theorem xz{X:List Nat}{l:List Oper}{tw:List (List Nat×List Nat)}{fr2:Fr}{st2:St}(k:Nat)(hs:HS)(fr':Fr)(hk:GX P n ops X (l.drop k) (tw.drop k) fr' st fr2 st2)(h:Kv (CU P n ops X st k l fr hs)=some (fr',tw.take k,MS hs):=by kernel_rfl):GX P n ops X l tw fr st fr2 st2:=
 GY.go k hs fr' _ h (yi hs) hk
end
section force
variable {β:Type}
def fN(n:Nat)(K:Nat→β):β:=
 bif Nat.beq n 0 then K 0 else bif Nat.beq n 1 then K 1 else bif Nat.beq n 2 then K 2 else bif Nat.beq n 3 then K 3 else
 bif Nat.beq n 4 then K 4 else bif Nat.beq n 5 then K 5 else bif Nat.beq n 6 then K 6 else bif Nat.beq n 7 then K 7 else
 bif Nat.beq n 8 then K 8 else bif Nat.beq n 9 then K 9 else bif Nat.beq n 10 then K 10 else bif Nat.beq n 11 then K 11 else
 bif Nat.beq n 12 then K 12 else bif Nat.beq n 13 then K 13 else K n
theorem Lr(n:Nat)(K:Nat→β):fN n K=K n:=by
 have h:∀(m:Nat) (r:β),r=K n→(bif Nat.beq n m then K m else r)=K n:=by
  intro m r hr
  cases hb:Nat.beq n m with
  |true=>rw[kW hb];rfl
  |false=>exact hr
 unfold fN
 repeat first|exact rfl|apply h
def fV(v:Value)(K:Value→β):β:=match v with
 | .int k n=>K (.int k n)
 | .bool b=>K (.bool b)
 | .string s=>K (.string s)
 | .slice none 0 0=>K (.slice none 0 0)
 |v=>K v
theorem NV(v:Value)(K:Value→β):fV v K=K v:=by unfold fV;split<;>rfl
def Of(p:PV)(K:PV→β):β:=match p with
 | .s v=>fV v fun v=>K (.s v)
 | .ro els=>K (.ro els)
 | .rp els i off=>fN off fun off=>K (.rp els i off)
 | .fn f caps=>K (.fn f caps)
theorem IT(p:PV)(K:PV→β):Of p K=K p:=by unfold Of;split<;>simp only[NV,Lr]
def Oj:List PV→(List PV→β)→β
 |[],K=>K []
 |p::l,K=>Of p fun p=>Oj l fun l=>K (p::l)
theorem Ix:∀(l:List PV) (K:List PV→β),Oj l K=K l
 |[],K=>rfl
 |p::l,K=>by simp only[Oj,IT,Ix l]
def fP(p:PV)(K:PV→β):β:=match p with
 | .fn f caps=>Oj caps fun caps=>K (.fn f caps)
 |p=>Of p K
theorem Lk(p:PV)(K:PV→β):fP p K=K p:=by unfold fP;split<;>simp only[Ix,IT]
def Oe(c:CV)(K:CV→β):β:=match c with
 | .pv p=>fP p fun p=>K (.pv p)
 | .pt id sz i off=>fN id fun id=>fN off fun off=>K (.pt id sz i off)
 | .sl id sz off len=>fN id fun id=>K (.sl id sz off len)
 | .fn f caps=>K (.fn f caps)
 | .mp id=>fN id fun id=>K (.mp id)
 | .cl els=>K (.cl els)
theorem He(c:CV)(K:CV→β):Oe c K=K c:=by unfold Oe;split<;>simp only[Lk,Lr]
def Ml:List CV→(List CV→β)→β
 |[],K=>K []
 |p::l,K=>Oe p fun p=>Ml l fun l=>K (p::l)
theorem AA:∀(l:List CV) (K:List CV→β),Ml l K=K l
 |[],K=>rfl
 |p::l,K=>by simp only[Ml,He,AA l]
def fC(c:CV)(K:CV→β):β:=match c with
 | .fn f caps=>Ml caps fun caps=>K (.fn f caps)
 |c=>Oe c K
theorem NL(c:CV)(K:CV→β):fC c K=K c:=by unfold fC;split<;>simp only[AA,He]
def Om(a:AV)(K:AV→β):β:=match a with
 | .j=>K .j
 | .one c=>fC c fun c=>K (.one c)
 | .ag cs=>Ml cs fun cs=>K (.ag cs)
 | .tp vs=>K (.tp vs)
theorem Hh(a:AV)(K:AV→β):Om a K=K a:=by unfold Om;split<;>simp only[NL,AA]
def NX:List AV→(List AV→β)→β
 |[],K=>K []
 |p::l,K=>Om p fun p=>NX l fun l=>K (p::l)
theorem IN:∀(l:List AV) (K:List AV→β),NX l K=K l
 |[],K=>rfl
 |p::l,K=>by simp only[NX,Hh,IN l]
def fA(a:AV)(K:AV→β):β:=match a with
 | .tp vs=>NX vs fun vs=>K (.tp vs)
 |a=>Om a K
theorem rx(a:AV)(K:AV→β):fA a K=K a:=by unfold fA;split<;>simp only[IN,Hh]
def fB(b:aV)(K:aV→β):β:=match b with
 | .box cells=>Ml cells fun cells=>K (.box cells)
 | .dead=>K .dead
 | .arr sz els=>K (.arr sz els)
 | .rel R ps=>K (.rel R ps)
 | .win sz i pre mid post=>Ml mid fun mid=>K (.win sz i pre mid post)
theorem An(b:aV)(K:aV→β):fB b K=K b:=by unfold fB;split<;>simp only[AA]
def fS:St→(St→β)→β
 |[],K=>K []
 |p::l,K=>fB p fun p=>fS l fun l=>K (p::l)
theorem mG:∀(l:St) (K:St→β),fS l K=K l
 |[],K=>rfl
 |p::l,K=>by simp only[fS,An,mG l]
def fF:Fr→(Fr→β)→β
 |[],K=>K []
 |(d,a)::l,K=>fA a fun a=>fF l fun l=>K ((d,a)::l)
theorem wb:∀(l:Fr) (K:Fr→β),fF l K=K l
 |[],K=>rfl
 |(d,a)::l,K=>by simp only[fF,rx,wb l]
def N1:List PV→(List PV→β)→β
 |[],K=>K []
 |p::l,K=>fP p fun p=>N1 l fun l=>K (p::l)
theorem H7:∀(l:List PV) (K:List PV→β),N1 l K=K l
 |[],K=>rfl
 |p::l,K=>by simp only[N1,Lk,H7 l]
def NO:List (List PV)→(List (List PV)→β)→β
 |[],K=>K []
 |p::l,K=>N1 p fun p=>NO l fun l=>K (p::l)
theorem Em:∀(l:List (List PV)) (K:List (List PV)→β),NO l K=K l
 |[],K=>rfl
 |p::l,K=>by simp only[NO,H7,Em l]
def Mo(a:AV)(K:AV→β):β:=match a with
 | .one (.pv (.ro els))=>NO els fun els=>K (.one (.pv (.ro els)))
 |a=>fA a K
theorem KF(a:AV)(K:AV→β):Mo a K=K a:=by unfold Mo;split<;>simp only[Em,rx]
def Kd:St→(St→β)→β
 |[],K=>K []
 |[.arr sz els],K=>NO els fun els=>K [.arr sz els]
 |p::l,K=>fB p fun p=>Kd l fun l=>K (p::l)
theorem vI:∀(l:St) (K:St→β),Kd l K=K l
 |[],K=>rfl
 |[.arr sz els],K=>by simp only[Kd,Em]
 | .dead::l,K=>by simp only[Kd,An,vI l]
 | .box c::l,K=>by simp only[Kd,An,vI l]
 | .rel R c::l,K=>by simp only[Kd,An,vI l]
 | .win _ _ _ _ _::l,K=>by simp only[Kd,An,vI l]
 | .arr sz els::x::l,K=>by simp only[Kd,An,vI (x::l)]
inductive FM where
 |n
 |a
 |s
def fX(b:FM)(a:AV)(st:St)(K:AV→St→β):β:=match b with
 | .a=>Mo a fun a=>K a st
 | .s=>fA a fun a=>Kd st fun st=>K a st
 | .n=>fA a fun a=>fS st fun st=>K a st
theorem KH(b:FM)(a:AV)(st:St)(K:AV→St→β):fX b a st K=K a st:=by cases b<;>simp only[fX,rx,mG,KF,vI]
end force
section
variable {P:Program} {n:Nat} {an X:List Nat} {ops:Array Oper} {l:List Oper} {fr:Fr} {st:St}
def Iv(ops:Array Oper)(X:List Nat)(tw:List (List Nat×List Nat)):Bool:=AQ ops tw&&Dp X tw
def GK(P:Program)(n:Nat)(X:List Nat)(ops:Array Oper)(l:List Oper)(tw:List (List Nat×List Nat))(R:Fr→St→Prop)(fr:Fr)(st:St):Prop:=
 ∃fr' st' tw',GX P n ops X l tw' fr st fr' st'∧Iv ops X (tw++tw')=true∧R fr' st'
theorem GK.nil{tw:List (List Nat×List Nat)}{R:Fr→St→Prop}(h:Iv ops X tw=true)(k:R fr st):GK P n X ops [] tw R fr st:=⟨fr,st,[],GX.done rfl,by rw[List.append_nil];exact h,k⟩
theorem GK.of{tw:List (List Nat×List Nat)}{R:Fr→St→Prop}{fr':Fr}{st':St}{l':List Oper}{tw1:List Nat×List Nat}(h:∀{tw2:List (List Nat×List Nat)} {fr2:Fr} {st2:St},GX P n ops X l' tw2 fr' st' fr2 st2→GX P n ops X l (tw1::tw2) fr st fr2 st2)(k:GK P n X ops l' (tw++[tw1]) R fr' st'):GK P n X ops l tw R fr st:=by
 obtain⟨fr2,st2,tw2,h1,h2,h3⟩:=k
 exact⟨fr2,st2,tw1::tw2,h h1,by rw[show tw++tw1::tw2=tw++[tw1]++tw2 by simp];exact h2,h3⟩
theorem Yd.aside{o:Oper}{f:Fr}{a:AV}(T:List Nat)(h:Yd P n (fb (aI T) 0 st) o f a):OX P n X o f ⟨a,T,[],[],st⟩ st:=by
 intro st' ι w act hl hT hX hR hF K Q hK
 have hl:st'.length=st.length:=hl
 have hT:∀id,aI T id=true→st'[id]? =st[id]? :=hT
 rw[←Bx hl hT]at h
 have hRm:=hR.mask (aI T)
 have hFm:fU n (SX.aside (aI T) ι st') w (fb (aI T) 0 st') act f:=
  ⟨hF.defers,hF.size,fun t=>(hF.slot t).chg (fun b hb=>uy.1 hb) (by rw[dj];exact eo _) (fun _=>rfl)⟩
 refine h _ w act hRm hFm K Q fun v w' ι2 hv hR2 k=> ?_
 obtain⟨r1,m1,k1⟩:=hR.unmask (T:=aI T) (q:=fun _=>true) (by rw[dj];exact eo _) hR2 (k.weaken fun _ _=>trivial) (fun _ _ _=>rfl)
  (fun id o ho _=>eD (q:=fun _=>true) (fun _ _=>rfl) o (by cases o<;>first|rfl|exact m7 _))
  (fun id hid hTf=>by rw[ij,Nat.zero_add,gu hid,hTf];rfl)
 have e1:eZ (aI T) 0 st' (fb (aI T) 0 st')=st':=Cu
 have e2:eZ (aI ([]:List Nat)) 0 st' st=st':=wM hl
 have hv:=hv.chg m1 (by rw[e1,dj];exact eo _) (fun _=>rfl)
 rw[e1]at r1 k1 hv
 exact hK v w' _ (by rw[e2];exact hv) (by rw[e2];exact r1) (by rw[e2];exact k1.weaken fun _ _=>rfl)
theorem n8:∀fr:Fr,jb (fun id=> !aI [] id) fr=fr
 |[]=>rfl
 |(d,av)::fr=>by
  have h:cU (fun id=> !aI [] id) av=true:=kq (q:=fun _=>true) (fun _ _=>rfl) av (vK av)
  simp only[jb,h,cond_true,n8 fr]
def CE(ops:Array Oper)(X:List Nat)(o:Oper)(fr:Fr)(av:AV):Bool:=la ops X o fr (na ops X o fr)&&cU (fun i=>aI (na ops X o fr) (i+1000)|| !aI X i) av
theorem GK.yd{o:Oper}{tw:List (List Nat×List Nat)}{R:Fr→St→Prop}{fr':Fr}{av:AV}(hp:(∀d,o.dst=some d→d<n)∧oM o.dst av fr=fr')(hc:CE ops X o fr av=true)
  (h:(cI ops o (cL ops o fr)=some true∧Yd P n (fb (aI (na ops X o fr)) 0 st) o (cL ops o fr) av)∨(cI ops o (cL ops o fr)=some false∧av= .tp []))
  (k:GK P n X ops l (tw++[(na ops X o fr,[])]) R fr' st):GK P n X ops (o::l) tw R fr st:=by
 unfold CE at hc
 rw[fM]at hc
 refine GK.of (tw1:=(na ops X o fr,[])) (fun h2=>GX.cons (s:=⟨av,na ops X o fr,[],[],st⟩) ⟨hp.1,rfl,fun _ _=>rfl,fun id h=>by simp[aI]at h,fun id h=>by simp[aI]at h,lI hc.1,hc.2,fun x b h=>by simp[aI]at h,?_⟩ (by
  show GX P n ops X l _ (oM o.dst av (jb (fun id=> !aI [] id) fr)) st _ _
  rw[n8,hp.2];exact h2)) k
 rcases h with⟨hg,h⟩ |⟨hg,rfl⟩
 ·exact .inl ⟨hg,h.aside⟩
 ·exact .inr ⟨hg,rfl,rfl,rfl⟩
def GJ:List Nat→St→Option Nat
 |[],_=>none
 |x::X,st=>(match st[x]? with
  |some .dead=>some x
  |_=>GJ X st)
theorem NU{W:List Nat}{hs:HS}{fr':Fr}{T:List Nat}{st':St}{ob:List Prop}(h:M4 P n ops X W l fr st hs=some (fr',T,st',ob))(hl:st.length≤1000):eZ (aI W) 0 st st'=st':=by
 unfold M4 at h
 split at h
 ·rename_i o ho
  split at h
  ·split at h
   ·rename_i out hev
    cases hc:ND n ops X W o fr st ((W++Fd X (bO ops o fr++me W st))) out with
    |false=>rw[hc]at h;cases h
    |true=>
     rw[hc]at h
     simp only[cond_true,cA,ku]at h
     obtain⟨_,_,rfl,_⟩:=h
     unfold ND at hc
     simp only[fM]at hc
     have hlen:=kW hc.1.1.2
     generalize hT:W++Fd X (bO ops o fr++me W st)=T at*
     have z:(eZ (aI T) 0 st out.st).length=st.length:=by rw[cC _ _ _ (by omega)];exact hlen
     refine lY (by rw[cC _ _ _ (by omega)]) (fun id hid=> ?_)
     rw[cC _ _ _ (by omega),z]at hid
     rw[dP _ _ _ _ (by omega),Nat.zero_add]
     by_cases hw:id<st.length∧aI W id=false
     ·have hq:aI T id=false:=by
       rw[←hT,ll,hw.2,Bool.false_or]
       exact AB (by omega)
      have y:(eZ (aI T) 0 st out.st)[id]? =if id<st.length∧aI T id=false then st[id]? else out.st[id]? :=by rw[dP _ _ _ _ (by omega),Nat.zero_add]
      rw[if_pos hw,y,if_pos ⟨hw.1,hq⟩]
     ·rw[if_neg hw]
   ·cases h
  ·cases h
 ·cases h
def gW(P:Program)(n:Nat)(an X:List Nat)(ops:Array Oper)(l:List Oper)(fr:Fr)(st:St):Option (Fr×List Nat×List Nat×St):=
 match wW l with
 |some o=>(match o.op with
  | .alloc .. =>(match GJ X st with
   |some id=>(match M1 P n ops X (rg an o) id l fr st []with
    |some (fr',T,st',[])=>bif C4 st T then some (fr',lX X T,T++[id+1000],st')else none
    |_=>none)
   |none=>none)
  | .store _ a _=>(match rv (cL ops o fr) a with
   | .one (.pt id _ _ _)=>(match st[id]? with
    |some (.box _)=>(match M4 P n ops X [id] l fr st []with
     |some (fr',T,st',[])=>bif Nat.ble st.length 1000 then some (fr',T,[id],st')else none
     |_=>none)
    |_=>none)
   |_=>none)
  |_=>none)
 |none=>none
theorem GK.w{fr':Fr}{T W:List Nat}{st':St}{tw:List (List Nat×List Nat)}{R:Fr→St→Prop}(h:gW P n an X ops l fr st=some (fr',T,W,st'))(k:GK P n X ops (l.drop 1) (tw++[(T,W)]) R fr' st'):GK P n X ops l tw R fr st:=by
 refine GK.of (tw1:=(T,W)) (fun h2=> ?_) k
 unfold gW at h
 split at h
 ·rename_i o ho
  split at h
  ·split at h
   ·rename_i id hid
    split at h
    ·rename_i he
     cases hq:C4 st _ with
     |false=>rw[hq]at h;cases h
     |true=>
      rw[hq]at h
      simp only[cond_true,cA,ku]at h
      obtain⟨rfl,rfl,rfl,rfl⟩:=h
      exact GX.new _ id [] _ _ _ [] he trivial hq h2
    ·cases h
   ·cases h
  ·split at h
   ·split at h
    ·split at h
     ·rename_i he
      cases hq:Nat.ble st.length 1000 with
      |false=>rw[hq]at h;cases h
      |true=>
       rw[hq]at h
       simp only[cond_true,cA,ku]at h
       obtain⟨rfl,rfl,rfl,rfl⟩:=h
       exact GX.sto _ [] _ _ _ [] he trivial (NU he (n4 hq)) h2
     ·cases h
    ·cases h
   ·cases h
  ·cases h
 ·cases h
end
inductive It where
 |c(x:Code)
 |o(ops:Array Oper)(l:List Oper)
 |b(id:Nat)
 |s
 |r(x:Code)(j:Nat)
 |g(X:List Nat)(ops:Array Oper)(l:List Oper)(tw:List (List Nat×List Nat))
structure SS where
 ks:List It
 fr:Fr
 st:St
 kn:List Nat
section
variable (P:Program) (n n0:Nat) (lz:List Nat)
def H6(Q:QT):QT
 | .goto _,_,_=>False
 |e,fr,st=>Q e fr st
theorem XW.scope{c x:Code}{Q:QT}{fr:Fr}{st:St}(he:c= .scope x)(h:XW P n n0 lz x (H6 Q) fr st):XW P n n0 lz c Q fr st:=by
 subst he
 intro ι w a hR hF
 refine Go.wp_scope_straight (Go.wp_mono (h ι w a hR hF) ?_)
 rintro e a' w' ⟨ι',fr',st',h1,h2⟩
 cases e with
 |goto l=>exact h1.elim
 |_=>exact⟨ι',fr',st',h1,h2⟩
def QK:List It→QT→QT
 |[],Q=>Q
 | .s::ks,Q=>H6 (QK ks Q)
 | .b id::ks,Q=>te id (QK ks Q)
 | .c x::ks,Q=>eS (XW P n n0 lz x (QK ks Q)) (QK ks Q)
 | .o ops l::ks,Q=>eS (XO P n n0 lz ops l (QK ks Q)) (QK ks Q)
 | .r x j::ks,Q=>eS (XR P n n0 lz x (QK ks Q) j) (QK ks Q)
 | .g X ops l tw::ks,Q=>eS (GK P n X ops l tw (QK ks Q .normal)) (QK ks Q)
def XK(Q:QT)(s:SS):Prop:=QK P n n0 lz s.ks Q .normal s.fr s.st
def zh(id:Nat):List It→Option (List It)
 |[]=>none
 | .b i::ks=>bif Nat.beq i id then some ks else zh id ks
 |_::ks=>zh id ks
variable {P n n0 lz}
theorem vS{a b:Nat}(h:a≠b):Nat.beq a b=false:=by
 cases hq:Nat.beq a b with
 |false=>rfl
 |true=>exact absurd (kW hq) h
theorem rN{id:Nat}{Q:QT}{fr:Fr}{st:St}:∀{ks ks':List It},zh id ks=some ks'→QK P n n0 lz ks' Q .normal fr st→QK P n n0 lz ks Q (.exit id) fr st
 |[],_,h,_=>by simp[zh]at h
 | .b i::ks,ks',h,hq=>by
  simp only[zh]at h
  simp only[QK,te]
  cases hb:Nat.beq i id with
  |true=>
   have:=kW hb
   subst this
   simp only[hb,cond_true,cA]at h
   subst h
   simpa using hq
  |false=>
   simp only[hb,cond_false]at h
   have:Nat.beq id i=false:=vS (fun e=>by subst e;simp at hb)
   simp only[this,cond_false]
   exact rN h hq
 | .s::ks,ks',h,hq=>rN (ks:=ks) (by simpa [zh]using h) hq
 | .c x::ks,ks',h,hq=>rN (ks:=ks) (by simpa [zh]using h) hq
 | .o ops l::ks,ks',h,hq=>rN (ks:=ks) (by simpa [zh]using h) hq
 | .r _ _::ks,ks',h,hq=>rN (ks:=ks) (by simpa [zh]using h) hq
 | .g _ _ _ _::ks,ks',h,hq=>rN (ks:=ks) (by simpa [zh]using h) hq
theorem oP{id:Nat}{Q:QT}{fr:Fr}{st:St}:∀{ks:List It},zh id ks=none→Q (.exit id) fr st→QK P n n0 lz ks Q (.exit id) fr st
 |[],h,hq=>hq
 | .b i::ks,h,hq=>by
  simp only[zh]at h
  simp only[QK,te]
  cases hb:Nat.beq i id with
  |true=>simp[hb]at h
  |false=>
   simp only[hb,cond_false]at h
   have:Nat.beq id i=false:=vS (fun e=>by subst e;simp at hb)
   simp only[this,cond_false]
   exact oP h hq
 | .s::ks,h,hq=>oP (ks:=ks) (by simpa [zh]using h) hq
 | .c x::ks,h,hq=>oP (ks:=ks) (by simpa [zh]using h) hq
 | .o ops l::ks,h,hq=>oP (ks:=ks) (by simpa [zh]using h) hq
 | .r _ _::ks,h,hq=>oP (ks:=ks) (by simpa [zh]using h) hq
 | .g _ _ _ _::ks,h,hq=>oP (ks:=ks) (by simpa [zh]using h) hq
theorem qr{Q:QT}{fr:Fr}{st:St}:∀{ks:List It},Q .ret fr st→QK P n n0 lz ks Q .ret fr st
 |[],hq=>hq
 | .b i::ks,hq=>qr (ks:=ks) hq
 | .s::ks,hq=>qr (ks:=ks) hq
 | .c x::ks,hq=>qr (ks:=ks) hq
 | .o ops l::ks,hq=>qr (ks:=ks) hq
 | .r _ _::ks,hq=>qr (ks:=ks) hq
 | .g _ _ _ _::ks,hq=>qr (ks:=ks) hq
def C8(kn:List Nat):Operand→Bool
 | .tmp t=>kn.any (Nat.beq t)
 |_=>true
def Ii(kn:List Nat)(o:Oper)(fr:Fr)(st:St):Bool:=
 match o.op with
 | .pick c a b=>bif C8 kn c then false else(match rv fr a with
  | .one (.pv (.s (.bool _)))=>(match rv fr b with
   | .one (.pv (.s (.bool _)))=>false
   |_=>true)
  |_=>true)
 | .call ⟨.builtin .len,args,_⟩=>(match args.toList with
  |[x]=>(match rv fr x with
   | .one (.pv (.ro _))=>true
   |_=>false)
  |_=>true)
 | .call ⟨.builtin .max,_,_⟩=>false
 | .call ⟨.builtin .min,_,_⟩=>false
 | .call _=>true
 | .makeSlice .. =>true
 | .slice .. =>true
 | .convert _ _ x=>(match rv fr x with
  | .one (.pv (.s (.int _ _)))=>false
  |_=>true)
 | .indexAddr _ x i=>(match rv fr x with
  | .one (.pv (.rp ..))=> !(C8 kn i)
  | .one (.pt ..)=> !(C8 kn i)
  |_=>true)
 | .index _ x i=>(match rv fr x with
  | .ag _=> !(C8 kn i)
  |_=>true)
 | .load _ a=>(match rv fr a with
  | .one (.pv (.rp ..))=>false
  | .one (.pt id _ _ _)=>(match st[id]? with
   |some (.box _)=>false
   |_=>true)
  |_=>true)
 | .store _ a _=>(match rv fr a with
  | .one (.pt id _ _ _)=>(match st[id]? with
   |some (.box _)=>false
   |_=>true)
  |_=>true)
 |_=>false
def Gn(o:Oper)(fr:Fr):HS:=
 match o.op with
 | .load _ a=>(match rv fr a with
  | .one (.pv (.rp [c] _ _))=>[c]
  |_=>[])
 |_=>[]
def vt(P:Program)(t:TypeId):Nat:=match P.underlying t with
 |some (.array len _)=>len
 |_=>0
def M3(P:Program)(kn:List Nat)(o:Oper)(fr:Fr):Bool:=
 match o.op with
 | .binOp op _ _ y _=>bif C8 kn y then(match rv fr y with
  | .one (.pv (.s (.int _ b)))=>(match op with
   | .shl=>decide (0≤b)
   | .shr=>decide (0≤b)
   | .quo=>decide (b≠0)
   | .rem=>decide (b≠0)
   |_=>false)
  |_=>false)else false
 | .load _ a=>(match rv fr a with
  | .one (.pv (.rp [_] 0 _))=>true
  |_=>false)
 | .indexAddr t x i=>(match rv fr x with
  | .one (.pv (.rp ..))=>(match rv fr i with
   | .one (.pv (.s (.int _ n)))=>decide (0≤n)&&decide (n<vt P t)
   |_=>false)
  | .one (.pt ..)=>(match rv fr i with
   | .one (.pv (.s (.int _ n)))=>decide (0≤n)&&decide (n<vt P t)
   |_=>false)
  |_=>false)
 | .index t x i=>(match rv fr x with
  | .ag _=>(match rv fr i with
   | .one (.pv (.s (.int _ n)))=>decide (0≤n)&&decide (n<vt P t)
   |_=>false)
  |_=>false)
 |_=>false
theorem Lx{op:BinOp}{t:TypeId}{a:Value}{k:IntKind}{b:Int}{v:Value}{ob:List Prop}(hb:(match op with
   | .shl=>decide (0≤b)
   | .shr=>decide (0≤b)
   | .quo=>decide (b≠0)
   | .rem=>decide (b≠0)
   |_=>false)=true)(h:CK P op t a (.int k b)=some (v,ob)):eH ob:=by
 have h:JH op a (.int k b)=some (v,ob):=by
  cases a<;>first|exact h|cases h
 unfold JH at h
 cases a<;>simp only at h<;>try (cases h;done)
 rename_i k1 a1 _
 cases op
 case shl=>simp only[decide_eq_true_eq]at hb;simp only[cA,ku]at h;obtain⟨_,rfl⟩:=h;exact⟨hb,trivial⟩
 case shr=>simp only[decide_eq_true_eq]at hb;simp only[cA,ku]at h;obtain⟨_,rfl⟩:=h;exact⟨hb,trivial⟩
 case quo=>
  simp only[decide_eq_true_eq]at hb
  cases hk:decide (k1=k)<;>simp only[hk,cond_true,cond_false]at h
  ·cases h
  ·simp only[cA,ku]at h;obtain⟨_,rfl⟩:=h;exact⟨hb,trivial⟩
 case rem=>
  simp only[decide_eq_true_eq]at hb
  cases hk:decide (k1=k)<;>simp only[hk,cond_true,cond_false]at h
  ·cases h
  ·simp only[cA,ku]at h;obtain⟨_,rfl⟩:=h;exact⟨hb,trivial⟩
 all_goals (cases hb;done)
theorem Jk{kn:List Nat}{o:Oper}{fr:Fr}{st:St}{mu:Bool}{out:rT}(hb:M3 P kn o fr=true)(h:ev P mu o fr st (Gn o fr)=some out):eH out.ob:=by
 unfold M3 at hb
 unfold ev at h
 split at hb
 ·rename_i op tt x y _ ho
  simp only[ho]at h
  cases hk:C8 kn y with
  |false=>simp[hk]at hb
  |true=>
   simp only[hk,cond_true]at hb
   split at hb
   ·rename_i k b hy
    rw[hy]at h
    split at h
    ·rename_i a b' e1 e2
     simp only[AV.one.injEq,CV.pv.injEq,PV.s.injEq]at e2
     subst e2
     split at h
     ·rename_i v ob hbo
      simp only[cA]at h
      subst h
      exact Lx hb hbo
     ·simp only[mE]at h
      obtain⟨_,_,rfl⟩:=h
      exact trivial
    ·rename_i e2;cases e2
    ·rename_i e2;cases e2
    ·cases h
   ·cases hb
 ·rename_i t a ho
  simp only[ho,Gn]at h
  split at hb
  ·rename_i c off hr
   simp only[hr]at h
   unfold Ea at h
   split at h
   ·simp only[mE]at h
    obtain⟨av,_,rfl⟩:=h
    exact⟨rfl,trivial⟩
   ·cases h
  ·cases hb
 ·rename_i t x i ho
  simp only[ho]at h
  split at hb
  ·rename_i e1
   split at hb
   ·rename_i e2
    simp only[e1,e2]at h
    simp only[fM,decide_eq_true_eq]at hb
    unfold F4 at h
    unfold vt at hb
    split at h
    ·rename_i q1 q2
     split at q2
     ·rename_i hu
      rw[hu]at hb
      split at q2
      ·simp only[cA,ku]at q2
       obtain⟨rfl,rfl⟩:=q2
       simp only[cA]at h
       subst h
       exact⟨hb,trivial⟩
      ·cases q2
     ·split at q2<;>simp at q2
     ·cases q2
    ·cases h
   ·cases hb
  ·rename_i e1
   split at hb
   ·rename_i e2
    simp only[e1,e2]at h
    simp only[fM,decide_eq_true_eq]at hb
    unfold F4 at h
    unfold vt at hb
    split at h
    ·rename_i q1 q2
     split at q2
     ·rename_i hu
      rw[hu]at hb
      split at q2
      ·simp only[cA,ku]at q2
       obtain⟨rfl,rfl⟩:=q2
       simp only[cA]at h
       subst h
       exact⟨hb,trivial⟩
      ·cases q2
     ·split at q2<;>simp at q2
     ·cases q2
    ·cases h
   ·cases hb
  ·cases hb
 ·rename_i t x i ho
  simp only[ho]at h
  split at hb
  ·rename_i e1
   split at hb
   ·rename_i e2
    simp only[e1,e2]at h
    simp only[fM,decide_eq_true_eq]at hb
    unfold vt at hb
    split at h
    ·rename_i q1 q2 q3;cases q2
    ·rename_i q1 q2 q3
     rw[q1]at hb
     simp only[AV.one.injEq,CV.pv.injEq,PV.s.injEq,Value.int.injEq]at q3
     obtain⟨_,rfl⟩:=q3
     split at h
     ·simp only[mE]at h
      obtain⟨av,_,rfl⟩:=h
      exact⟨hb,trivial⟩
     ·cases h
    ·cases h
   ·cases hb
  ·cases hb
 ·cases hb
def Ob(P:Program)(an kn:List Nat)(o:Oper)(fr:Fr)(st:St):Option (AV×St):=
 bif Ii kn o fr st then none else
 match ev P (rg an o) o fr st (Gn o fr)with
 |some ⟨av,st',ob,_,none⟩=>(match ob with
  |[]=>some (av,st')
  |_=>bif M3 P kn o fr then some (av,st')else none)
 |_=>none
theorem HM{an kn:List Nat}{o:Oper}{fr:Fr}{st:St}{av:AV}{st':St}(h:Ob P an kn o fr st=some (av,st')):
  ∃ob hs',ev P (rg an o) o fr st (Gn o fr)=some ⟨av,st',ob,hs',none⟩∧eH ob:=by
 unfold Ob at h
 cases hs:Ii kn o fr st with
 |true=>simp[hs]at h
 |false=>
  simp only[hs,cond_false]at h
  split at h
  ·rename_i av1 st1 ob hs' he
   split at h
   ·simp only[cA,ku]at h
    obtain⟨rfl,rfl⟩:=h
    exact⟨_,_,he,trivial⟩
   ·cases hb:M3 P kn o fr with
    |false=>simp[hb]at h
    |true=>
     simp only[hb,cond_true,cA,ku]at h
     obtain⟨rfl,rfl⟩:=h
     exact⟨_,_,he,Jk hb he⟩
  ·cases h
def Kp(ops:Array Oper)(kn:List Nat)(o:Oper)(fr:Fr):Option Bool:=
 match o.guard with
 |none=>some true
 |some (j,want)=>
  match(ops[j]?).bind (·.dst)with
  |some d=>(match lk fr d with
   | .one (.pv (.s (.bool b)))=>bif kn.any (Nat.beq d)then some (b==want)else none
   | .tp []=>some false
   |_=>none)
  |none=>none
theorem qp{ops:Array Oper}{kn:List Nat}{o:Oper}{fr:Fr}{g:Bool}(h:Kp ops kn o fr=some g):cI ops o fr=some g:=by
 unfold Kp at h
 unfold cI
 cases hg:o.guard with
 |none=>simpa [hg]using h
 |some jw=>
  obtain⟨j,want⟩:=jw
  simp only[hg]at h⊢
  cases hd:(ops[j]?).bind (·.dst)with
  |none=>simp[hd]at h
  |some d=>
   simp only[hd]at h⊢
   split at h
   ·rename_i b hb
    cases hk:kn.any (Nat.beq d)with
    |false=>simp[hk]at h
    |true=>simpa [hk,hb]using h
   ·rename_i hb;simpa [hb]using h
   ·cases h
def tV{β:Type}(n:Nat)(dst:Option Nat)(av:AV)(fr:Fr)(K:Fr→β)(E:β):β:=match dst with
 |none=>K fr
 |some d=>bif Nat.ble (d+1) n then K ((d,av)::fr)else E
def Fk(u:Option Nat)(o:Oper):Bool:=match u with
 |none=>false
 |some t=>(match o.dst with
  |some d=>Nat.beq d t
  |none=>false)
def Ni(an:List Nat)(o:Oper):FM:=match o.op with
 | .buildSlice .. =>(match rg an o with
  |true=> .s
  |false=> .a)
 |_=> .n
def zO(kn:List Nat)(o:Oper)(fr:Fr):Bool:=match o.op with
 | .move x=>C8 kn x
 | .assign x=>C8 kn x
 | .pick c a b=>bif C8 kn c then(match rv fr c with
  | .one (.pv (.s (.bool t)))=>(match t with
   |true=>C8 kn a
   |false=>C8 kn b)
  |_=>false)else false
 | .binOp _ _ x y _=>C8 kn x&&C8 kn y
 | .unOp _ _ x=>C8 kn x
 | .convert _ _ x=>C8 kn x
 |_=>false
def JL{β:Type}(d:Nat):List Nat→(List Nat→β)→β
 |[],K=>K []
 |x::l,K=>JL d l fun l=>bif Nat.beq x d then K l else K (x::l)
def wc{β:Type}(b:Bool)(dst:Option Nat)(kn:List Nat)(K:List Nat→β):β:=match dst with
 |none=>K kn
 |some d=>JL d kn fun l=>bif b then K (d::l)else K l
theorem Fm{β:Type}{d:Nat}:∀(l:List Nat) (K:List Nat→β),∃l',JL d l K=K l'
 |[],K=>⟨[],rfl⟩
 |x::l,K=>by
  obtain⟨l',h⟩:=Fm (d:=d) l (fun l=>bif Nat.beq x d then K l else K (x::l))
  unfold JL
  rw[h]
  cases Nat.beq x d
  ·exact⟨_,rfl⟩
  ·exact⟨_,rfl⟩
theorem mU{β:Type}(b:Bool)(dst:Option Nat)(kn:List Nat)(K:List Nat→β):∃l,wc b dst kn K=K l:=by
 unfold wc
 cases dst with
 |none=>exact⟨_,rfl⟩
 |some d=>
  obtain⟨l',h⟩:=Fm (d:=d) kn (fun l=>bif b then K (d::l)else K l)
  simp only[h]
  cases b
  ·exact⟨_,rfl⟩
  ·exact⟨_,rfl⟩
def By{β:Type}(P:Program)(n:Nat)(an:List Nat)(u:Option Nat)(s:SS)(K E:SS→β):β:=
 match s with
 |⟨ks,fr,st,kn⟩=>match ks with
  |[]=>E s
  | .b _::k=>K ⟨k,fr,st,kn⟩
  | .s::k=>K ⟨k,fr,st,kn⟩
  | .c x::k=>(match x with
   | .scope a=>K ⟨.c a:: .s::k,fr,st,kn⟩
   | .skip=>K ⟨k,fr,st,kn⟩
   | .seq a b=>K ⟨.c a:: .c b::k,fr,st,kn⟩
   | .block id a=>K ⟨.c a:: .b id::k,fr,st,kn⟩
   | .region _ ops false=>K ⟨.o ops ops.toList::k,fr,st,kn⟩
   | .cond o a b=>(match C8 kn o with
    |true=>(match rv fr o with
     | .one (.pv (.s (.bool t)))=>(match t with
      |true=>K ⟨.c a::k,fr,st,kn⟩
      |false=>K ⟨.c b::k,fr,st,kn⟩)
     |_=>E s)
    |false=>E s)
   | .exit id=>(match zh id k with
    |some k'=>K ⟨k',fr,st,kn⟩
    |none=>E s)
   |_=>E s)
  | .r x j::k=>(match j with
   |j+1=>K ⟨.c x:: .r x j::k,fr,st,kn⟩
   |0=>E s)
  | .o ops l::k=>(match l with
   |[]=>K ⟨k,fr,st,kn⟩
   |o::l'=>bif Fk u o then E s else(match Kp ops kn o fr with
    |some true=>(match Ob P an kn o fr st with
     |some (av,st')=>fX (Ni an o) av st' fun av st'=>tV n o.dst av fr (fun fr'=>wc (zO kn o fr) o.dst kn fun kn'=>K ⟨.o ops l'::k,fr',st',kn'⟩) (E s)
     |none=>E s)
    |some false=>tV n o.dst (.tp []) fr (fun fr'=>wc false o.dst kn fun kn'=>K ⟨.o ops l'::k,fr',st,kn'⟩) (E s)
    |none=>E s))
  | .g X ops l tw::k=>(match l with
   |[]=>bif Iv ops X tw then K ⟨k,fr,st,kn⟩else E s
   |o::l'=>bif Fk u o then E s else(match Kp ops kn o (cL ops o fr)with
    |some true=>bif jj o.op&& !rg an o then(match Ob P [] kn o (cL ops o fr) (fb (aI (na ops X o fr)) 0 st)with
     |some (av,_)=>fX (Ni [] o) av [] fun av _=>bif CE ops X o fr av then tV n o.dst av fr (fun fr'=>wc (zO kn o fr) o.dst kn fun kn'=>K ⟨.g X ops l' (tw++[(na ops X o fr,[])])::k,fr',st,kn'⟩) (E s)else E s
     |none=>E s)else(match gW P n an X ops (o::l') fr st with
      |some (fr',T,W,st')=>fF fr' fun fr'=>fS st' fun st'=>wc false o.dst kn fun kn'=>K ⟨.g X ops l' (tw++[(T,W)])::k,fr',st',kn'⟩
      |none=>E s)
    |some false=>bif CE ops X o fr (.tp [])then tV n o.dst (.tp []) fr (fun fr'=>wc false o.dst kn fun kn'=>K ⟨.g X ops l' (tw++[(na ops X o fr,[])])::k,fr',st,kn'⟩) (E s)else E s
    |none=>E s))
theorem lg{β:Type}(dst:Option Nat)(av:AV)(fr:Fr)(K:Fr→β)(E:β):(∃fr',qw n dst av fr=some fr'∧tV n dst av fr K E=K fr')∨tV n dst av fr K E=E:=by
 cases dst with
 |none=>exact .inl ⟨fr,rfl,rfl⟩
 |some d=>
  unfold tV qw
  cases h:Nat.ble (d+1) n with
  |true=>exact .inl ⟨(d,av)::fr,by simp[h],by simp[h]⟩
  |false=>exact .inr (by simp[h])
theorem pV{dst:Option Nat}{av:AV}{fr fr':Fr}(h:qw n dst av fr=some fr'):(∀d,dst=some d→d<n)∧oM dst av fr=fr':=by
 cases dst with
 |none=>simp only[qw,cA]at h;exact⟨(fun d hd=>nomatch hd),h⟩
 |some d=>
  simp only[qw]at h
  cases hb:Nat.ble (d+1) n with
  |false=>simp[hb]at h
  |true=>
   simp only[hb,cond_true,cA]at h
   exact⟨(fun d' hd=>Option.some.inj hd▸n4 hb),h⟩
theorem XO.op1{an:List Nat}{ops:Array Oper}{o:Oper}{l:List Oper}{fr fr':Fr}{st:St}{hs:HS}{out:rT}{Q:QT}(hg:cI ops o fr=some true)(h:ev P (rg an o) o fr st hs=some out)(hob:eH out.ob)
  (hm:uf n0 lz out.mv=true)(hp:qw n o.dst out.av (G1 out.mv fr)=some fr')(hk:XO P n n0 lz ops l Q fr' out.st):XO P n n0 lz ops (o::l) Q fr st:=by
 intro ι w a hR hF
 have hw:=cF hg hF
 obtain⟨v,w',ι',hrun,hR',hv,k⟩:=uo h hob hR hF
 have hrest:=hk ι' w' _ hR' (gP hp (FF k hF) hv)
 have kk:=k.weaken (B8 hm)
 refine wpList_step fun K hK=> ?_
 rw[if_pos hw]
 have hgoal:wpList P ops (mI n n0 lz ι w st Q) l (a.put o.dst v) w':=di (fun e a w h=>h.trans kk) hrest
 rcases hrun with h1|⟨h1,rfl⟩
 ·simp only[Oper.wp,h1,Oper.upon];exact hK _ _ hgoal
 ·simp only[Oper.wp,h1,Oper.upon];exact hK _ _ hgoal
theorem XO.op{an:List Nat}{ops:Array Oper}{o:Oper}{l:List Oper}{fr fr':Fr}{st st':St}{hs hs':HS}{av:AV}{ob:List Prop}{Q:QT}(hg:cI ops o fr=some true)
  (h:ev P (rg an o) o fr st hs=some ⟨av,st',ob,hs',none⟩)(hob:eH ob)(hp:qw n o.dst av fr=some fr')(k:XO P n n0 lz ops l Q fr' st'):XO P n n0 lz ops (o::l) Q fr st:=
 XO.op1 hg h hob rfl hp k
theorem XO.opN{ops:Array Oper}{o:Oper}{l:List Oper}{fr fr':Fr}{st:St}{Q:QT}(hg:cI ops o fr=some false)
  (hp:qw n o.dst (.tp []) fr=some fr')(k:XO P n n0 lz ops l Q fr' st):XO P n n0 lz ops (o::l) Q fr st:=by
 intro ι w a hR hF
 have hw:=cF hg hF
 refine wpList_step fun K hK=> ?_
 rw[if_neg (by rw[hw];simp)]
 exact hK _ _ (k ι w _ hR (gP hp hF sE))
theorem FX{an:List Nat}{u:Option Nat}{Q:QT}{β:Type}(s:SS)(K E:SS→β):∃s',(By P n an u s K E=K s'∨By P n an u s K E=E s')∧(XK P n n0 lz Q s'→XK P n n0 lz Q s):=by
 obtain⟨ks,fr,st,kn⟩:=s
 have stay:∃s',(E ⟨ks,fr,st,kn⟩=K s'∨E ⟨ks,fr,st,kn⟩=E s')∧(XK P n n0 lz Q s'→XK P n n0 lz Q ⟨ks,fr,st,kn⟩):=⟨_,.inr rfl,id⟩
 have go:∀s',(XK P n n0 lz Q s'→XK P n n0 lz Q ⟨ks,fr,st,kn⟩)→∃s2,(K s'=K s2∨K s'=E s2)∧(XK P n n0 lz Q s2→XK P n n0 lz Q ⟨ks,fr,st,kn⟩):=fun s' h=>⟨s',.inl rfl,h⟩
 unfold By
 match ks,stay,go with
 |[],stay,go=>exact stay
 | .b id::k,stay,go=>exact go _ (fun h=>h)
 | .s::k,stay,go=>exact go _ (fun h=>h)
 | .r x j::k,stay,go=>
  cases j with
  |zero=>exact stay
  |succ j=>exact go _ (fun h=>h)
 | .c x::k,stay,go=>
  cases x with
  |skip=>exact go _ (fun h=>XW.skip rfl h)
  |seq a b=>
   refine go _ (fun h=>XW.seq (x:=a) (y:=b) rfl fun K hK=> ?_)
   refine XW.mono (show XW P n n0 lz a (eS (XW P n n0 lz b (QK P n n0 lz k Q)) (QK P n n0 lz k Q)) fr st from h) ?_
   intro e f s hq
   cases e with
   |normal=>exact hK _ _ hq
   |_=>exact hq
  |block id a=>exact go _ (fun h=>XW.block rfl h)
  |scope a=>exact go _ (fun h=>XW.scope _ _ _ _ rfl h)
  |region id ops d=>
   cases d with
   |true=>exact stay
   |false=>exact go _ (fun h=>XO.region rfl h)
  |cond o a b=>
   simp only
   split
   ·split
    ·rename_i t hx
     cases t with
     |true=>exact go _ (fun h=>XW.cond (n:=n) rfl hx (fun _=>h) (fun h=>nomatch h))
     |false=>exact go _ (fun h=>XW.cond (n:=n) rfl hx (fun h=>nomatch h) (fun _=>h))
    ·exact stay
   ·exact stay
  |exit id=>
   simp only
   split
   ·rename_i k' hk
    exact go _ (fun h=>XW.exit rfl (rN hk h))
   ·exact stay
  |_=>exact stay
 | .o ops l::k,stay,go=>
  cases l with
  |nil=>exact go _ (fun h=>XO.nil h)
  |cons o l'=>
   simp only
   cases hu:Fk u o with
   |true=>exact stay
   |false=>
    simp only[cond_false]
    split
    ·rename_i hg
     have hg:=qp hg
     split
     ·rename_i av st' hq
      obtain⟨ob,hs',he,hob⟩:=HM hq
      rw[KH]
      rcases lg (n:=n) o.dst av fr (fun fr'=>wc (zO kn o fr) o.dst kn fun kn'=>K ⟨.o ops l'::k,fr',st',kn'⟩) (E ⟨.o ops (o::l')::k,fr,st,kn⟩)with⟨fr',hp,e⟩ |e
      ·rw[e]
       obtain⟨kn',ek⟩:=mU (zO kn o fr) o.dst kn fun kn'=>K ⟨.o ops l'::k,fr',st',kn'⟩
       rw[ek];exact go _ (fun h=>XO.op hg he hob hp h)
      ·rw[e];exact stay
     ·exact stay
    ·rename_i hg
     have hg:=qp hg
     rcases lg (n:=n) o.dst (.tp []) fr (fun fr'=>wc false o.dst kn fun kn'=>K ⟨.o ops l'::k,fr',st,kn'⟩) (E ⟨.o ops (o::l')::k,fr,st,kn⟩)with⟨fr',hp,e⟩ |e
     ·rw[e]
      obtain⟨kn',ek⟩:=mU false o.dst kn fun kn'=>K ⟨.o ops l'::k,fr',st,kn'⟩
      rw[ek];exact go _ (fun h=>XO.opN hg hp h)
     ·rw[e];exact stay
    ·exact stay
 | .g X ops l tw::k,stay,go=>
  cases l with
  |nil=>
   simp only
   cases ht:Iv ops X tw with
   |false=>exact stay
   |true=>exact go _ (fun h=>GK.nil ht h)
  |cons o l'=>
   simp only
   cases hu:Fk u o with
   |true=>exact stay
   |false=>
    simp only[cond_false]
    split
    ·rename_i hg
     have hg:=qp hg
     cases hqq:(jj o.op&& !rg an o)with
     |false=>
      simp only[cond_false]
      split
      ·rename_i fr' T W st' hw
       simp only[wb,mG]
       obtain⟨kn',ek⟩:=mU false o.dst kn fun kn'=>K ⟨.g X ops l' (tw++[(T,W)])::k,fr',st',kn'⟩
       rw[ek]
       exact go _ (fun h=>GK.w hw h)
      ·exact stay
     |true=>
      simp only[cond_true]
      rw[fM]at hqq
      split
      ·rename_i av st' hq
       obtain⟨ob,hs',he,hob⟩:=HM hq
       have hmu:rg [] o=false:=by unfold rg;split<;>rfl
       rw[hmu]at he
       rw[KH]
       cases hc:CE ops X o fr av with
       |false=>exact stay
       |true=>
        simp only[cond_true]
        rcases lg (n:=n) o.dst av fr (fun fr'=>wc (zO kn o fr) o.dst kn fun kn'=>K ⟨.g X ops l' (tw++[(na ops X o fr,[])])::k,fr',st,kn'⟩) (E ⟨.g X ops (o::l') tw::k,fr,st,kn⟩)with⟨fr',hp,e⟩ |e
        ·rw[e]
         obtain⟨kn',ek⟩:=mU (zO kn o fr) o.dst kn fun kn'=>K ⟨.g X ops l' (tw++[(na ops X o fr,[])])::k,fr',st,kn'⟩
         rw[ek]
         exact go _ (fun h=>GK.yd (pV hp) hc (.inl ⟨hg,Yd.ev hqq.1 he hob⟩) h)
        ·rw[e];exact stay
      ·exact stay
    ·rename_i hg
     have hg:=qp hg
     cases hc:CE ops X o fr (.tp [])with
     |false=>exact stay
     |true=>
      simp only[cond_true]
      rcases lg (n:=n) o.dst (.tp []) fr (fun fr'=>wc false o.dst kn fun kn'=>K ⟨.g X ops l' (tw++[(na ops X o fr,[])])::k,fr',st,kn'⟩) (E ⟨.g X ops (o::l') tw::k,fr,st,kn⟩)with⟨fr',hp,e⟩ |e
      ·rw[e]
       obtain⟨kn',ek⟩:=mU false o.dst kn fun kn'=>K ⟨.g X ops l' (tw++[(na ops X o fr,[])])::k,fr',st,kn'⟩
       rw[ek]
       exact go _ (fun h=>GK.yd (pV hp) hc (.inr ⟨hg,rfl⟩) h)
      ·rw[e];exact stay
    ·exact stay
def Gf{β:Type}(P:Program)(n:Nat)(an:List Nat)(u:Option Nat):Nat→SS→(SS→β)→β
 |0,s,E=>E s
 |f+1,s,E=>By P n an u s (fun s'=>Gf P n an u f s' E) E
theorem tm{an:List Nat}{u:Option Nat}{Q:QT}{β:Type}:∀(f:Nat) (s:SS) (E:SS→β),∃s',Gf P n an u f s E=E s'∧(XK P n n0 lz Q s'→XK P n n0 lz Q s)
 |0,s,E=>⟨s,rfl,id⟩
 |f+1,s,E=>by
  simp only[Gf]
  obtain⟨s',h1,h2⟩:=FX (n0:=n0) (lz:=lz) (Q:=Q) (P:=P) (n:=n) (an:=an) (u:=u) s (fun s'=>Gf P n an u f s' E) E
  rcases h1 with h1|h1
  ·obtain⟨s2,k1,k2⟩:=tm f s' E
   exact⟨s2,h1.trans k1,fun h=>h2 (k2 h)⟩
  ·exact⟨s',h1,h2⟩
def run(P:Program)(n:Nat)(an:List Nat)(s:SS):SS:=Gf P n an none 4000 s id
def qU(P:Program)(n:Nat)(an:List Nat)(d:Nat)(s:SS):SS:=Gf P n an (some d) 4000 s id
theorem bH{an:List Nat}{Q:QT}{s:SS}(h:XK P n n0 lz Q (run P n an s)):XK P n n0 lz Q s:=by
 obtain⟨s',h1,h2⟩:=tm (n0:=n0) (lz:=lz) (Q:=Q) (P:=P) (n:=n) (an:=an) (u:=none) 4000 s id
 unfold run at h
 rw[h1]at h
 exact h2 h
theorem qB{an:List Nat}{d:Nat}{Q:QT}{s:SS}(h:XK P n n0 lz Q (qU P n an d s)):XK P n n0 lz Q s:=by
 obtain⟨s',h1,h2⟩:=tm (n0:=n0) (lz:=lz) (Q:=Q) (P:=P) (n:=n) (an:=an) (u:=some d) 4000 s id
 unfold qU at h
 rw[h1]at h
 exact h2 h
end
end Go.SX
