/- SX: the events' rules. SX: the events' rules, second part: objects. SX: the events' rules, third part: lists of our own. SX: the events' rules, fourth part: operations on lists of our own. SX: calls that yield a number and an error, which is only held against nil. SX: maps whose elements are of several cells, by events. Short forms for printed proofs: paths as numbers, joins, ways out. The program's data as Lean's, with their cells. SX: functions whose contract is given over plain worlds; utf8.ValidString by the shelf's contract. SX: functions that the model stands in for, at any arguments; bytes.Compare. SX: a pointer to an object of ours against nil, by events; new lists that a contract of the library tells. SX: a window into a list of structs: the cells of one element may be lists of our own. SX: runs put together by hand: pieces by events, and between them calls that change blocks which no object of the store bears. SX: lists in a list of our own. The inner lists lie in blocks that others may write; one at a time is made an object and looked at. SX: one of the inner lists looked at through a window of the outer one; and all of them as values at the end. SX: the way from a given row to a contract of pure values: reading the arguments, and closing the row. SX: readings of structs by the program's own fields. SX: readings of values and types. Types out of rows. Lists of fields out of rows. Lists of values, of numbers, of bytes out of rows. Lists of lists of values out of rows. -/
import Derived.Shelf.Unicode.ValidAny
import Derived.Lib.Bytealg
import Derived.Laws.Pointers
import Derived.Laws.AppendOwn
import Derived.Lib.SlBytesConst
import Derived.OpenShut
import Derived.JoinedCond
import Derived.WideKeyArgs
import Derived.Test.YtnecojeemmnnaaaGreatDoorSxB
set_option linter.unusedVariables false
set_option linter.unusedSimpArgs false
set_option linter.unnecessarySimpa false
namespace Go.SX
open Go
theorem dr.at1{μ:Nat→Prop}{w:World}{v:Value}{els:List (List PV)}{i off:Nat}{c:List PV}(h:dr μ w v (.rp els i off))(hc:els[i]? =some c):dr μ w v (.rp [c] 0 off):=by
 cases h with
 |rp a sz _ _ _ vf hsz hb hcell hv=>
  have hm:=List.mem_of_getElem? hc
  have hne:els≠[]:=fun e=>by subst e;simp at hc
  have e1:a.add (i*sz+off)=(a.add (i*sz)).add (0*sz+off):=by rw[qn];simp
  rw[e1]
  refine .rp (a.add (i*sz)) sz [c] 0 off (fun _ j=>vf i j) (fun e he=>by simp at he;subst he;exact hsz _ hm) (fun _=>by rw[pC];exact hb hne) ?_ ?_
  ·intro i' e j p h1 h2
   cases i' with
   |zero=>
    simp at h1;subst h1
    rw[qn]
    have:=hcell i c j p hc h2
    rw[show i*sz+(0*sz+j)=i*sz+j by simp]
    exact this
   |succ i'=>simp at h1
  ·intro i' e j p h1 h2
   cases i' with
   |zero=>simp at h1;subst h1;exact hv i c j p hc h2
   |succ i'=>simp at h1
section
variable {P:Program} {n n0:Nat} {lz an:List Nat} {Q Q1:QT} {α β:Type} {T x y:Option β} {r:β} {s:SS}
structure GG(P:Program)(n n0:Nat)(lz an:List Nat){β:Type}(r:β)(Q:QT)(T:Option β)(s:SS):Prop where
 go:T=some r→XK P n n0 lz Q s
instance:CoeFun (GG P n n0 lz an r Q T s) (fun _=>T=some r→XK P n n0 lz Q s):=⟨GG.go⟩
theorem Yd.le{st:St}{o:Oper}{f:Fr}{av av':AV}(h:Yd P n st o f av)(hl:∀ι w v,aN ι w st v av→aN ι w st v av'):Yd P n st o f av':=
 fun ι w a hR hF K Q hK=>h ι w a hR hF K Q fun v w' ι' h1 h2 h3=>hK v w' ι' (hl _ _ _ h1) h2 h3
def ta(s:SS):Option (Oper×Fr):=
 match s.ks with
 | .o ops (o::_)::_=>(match Kp ops s.kn o s.fr with
  |some true=>some (o,s.fr)
  |_=>none)
 | .g _ ops (o::_) _::_=>(match Kp ops s.kn o (cL ops o s.fr)with
  |some true=>some (o,cL ops o s.fr)
  |_=>none)
 |_=>none
def yu(s:SS):St:=match s.ks with
 | .g X ops (o::_) _::_=>fb (aI (na ops X o s.fr)) 0 s.st
 |_=>s.st
def xR(n:Nat)(av:AV)(s:SS):SS:=
 match s with
 |⟨.o ops (o::l)::k,fr,st,kn⟩=>fA av fun av=>tV n o.dst av fr (fun fr'=>wc false o.dst kn fun kn'=>⟨.o ops l::k,fr',st,kn'⟩) s
 |⟨.g X ops (o::l) tw::k,fr,st,kn⟩=>fA av fun av=>bif CE ops X o fr av then tV n o.dst av fr (fun fr'=>wc false o.dst kn fun kn'=>⟨.g X ops l (tw++[(na ops X o fr,[])])::k,fr',st,kn'⟩) s else s
 |s=>s
theorem XO.yd{ops:Array Oper}{o:Oper}{l:List Oper}{fr fr':Fr}{st:St}{av:AV}(hg:cI ops o fr=some true)(h:Yd P n st o fr av)(hp:qw n o.dst av fr=some fr')
  (k:XO P n n0 lz ops l Q fr' st):XO P n n0 lz ops (o::l) Q fr st:=by
 intro ι w a hR hF
 have hw:=cF hg hF
 refine wpList_step fun K hK=> ?_
 rw[if_pos hw]
 refine h ι w a hR hF K _ fun v w' ι' hv hR' kk=> ?_
 exact hK _ _ (di (fun e a w h=>h.trans (kk.weaken (fun _ _=>trivial))) (k ι' w' _ hR' (gP hp (hF.mono' kk) hv)))
theorem mi{o:Oper}{f:Fr}{av:AV}(he:ta s=some (o,f))(h:Yd P n (yu s) o f av)(k:XK P n n0 lz Q (xR n av s)):XK P n n0 lz Q s:=by
 obtain⟨ks,fr,st,kn⟩:=s
 match ks,he with
 | .o ops (o'::l)::ks,he=>
  simp only[ta]at he
  split at he
  ·rename_i hg
   have hg:=qp hg
   simp only[cA,ku]at he
   obtain⟨rfl,rfl⟩:=he
   simp only[xR,rx]at k
   rcases lg (n:=n) o'.dst av fr (fun fr'=>wc false o'.dst kn fun kn'=>(⟨.o ops l::ks,fr',st,kn'⟩:SS)) ⟨.o ops (o'::l)::ks,fr,st,kn⟩with⟨fr',hp,e⟩ |e
   ·obtain⟨kn',ek⟩:=mU false o'.dst kn fun kn'=>(⟨.o ops l::ks,fr',st,kn'⟩:SS)
    rw[e,ek]at k;exact XO.yd hg h hp k
   ·rw[e]at k;exact k
  ·cases he
 | .g X ops (o'::l) tw::ks,he=>
  simp only[ta]at he
  split at he
  ·rename_i hg
   have hg:=qp hg
   simp only[cA,ku]at he
   obtain⟨rfl,rfl⟩:=he
   simp only[xR,rx]at k
   cases hc:CE ops X o' fr av with
   |false=>simp only[hc,cond_false]at k;exact k
   |true=>
    simp only[hc,cond_true]at k
    rcases lg (n:=n) o'.dst av fr (fun fr'=>wc false o'.dst kn fun kn'=>(⟨.g X ops l (tw++[(na ops X o' fr,[])])::ks,fr',st,kn'⟩:SS)) ⟨.g X ops (o'::l) tw::ks,fr,st,kn⟩with⟨fr',hp,e⟩ |e
    ·obtain⟨kn',ek⟩:=mU false o'.dst kn fun kn'=>(⟨.g X ops l (tw++[(na ops X o' fr,[])])::ks,fr',st,kn'⟩:SS)
     rw[e,ek]at k
     exact GK.yd (pV hp) hc (.inl ⟨hg,h⟩) k
    ·rw[e]at k;exact k
  ·cases he
def oZ:List It→Bool
 | .c _::_=>true
 | .o _ _::_=>true
 | .b _::k=>oZ k
 | .s::k=>oZ k
 |_=>false
theorem QK.sub{fr':Fr}{st':St}:∀{ks:List It} {fr:Fr} {st:St},oZ ks=true→bW n n0 lz fr st fr' st'→QK P n n0 lz ks Q .normal fr' st'→QK P n n0 lz ks Q .normal fr st
 | .c _::_,_,_,_,hs,h=>XW.sub hs h
 | .o _ _::_,_,_,_,hs,h=>XO.sub hs h
 | .b _::k,_,_,ht,hs,h=>QK.sub (ks:=k) (by simpa [oZ]using ht) hs h
 | .s::k,_,_,ht,hs,h=>QK.sub (ks:=k) (by simpa [oZ]using ht) hs h
theorem XK.sub{fr' fr:Fr}{st' st:St}{ks:List It}{kn kn':List Nat}(ht:oZ ks=true)(hs:bW n n0 lz fr st fr' st')(h:XK P n n0 lz Q ⟨ks,fr',st',kn'⟩):XK P n n0 lz Q ⟨ks,fr,st,kn⟩:=QK.sub ht hs h
def EE(d:Nat)(av:AV):Fr→Fr
 |[]=>[]
 |(t,a)::f=>bif Nat.beq t d then(t,av)::f else(t,a)::EE d av f
theorem EY(d:Nat):∀f:Fr,EE d (lk f d) f=f
 |[]=>rfl
 |(t,a)::f=>by
  simp only[EE,lk]
  cases hb:Nat.beq t d with
  |true=>rfl
  |false=>simp only[cond_false];rw[EY d f]
def FR{β:Type}(d:Nat)(av:AV):Fr→(Fr→β)→β
 |[],K=>K []
 |(t,a)::f,K=>bif Nat.beq t d then K ((t,av)::f)else FR d av f fun f=>K ((t,a)::f)
theorem xD{β:Type}(d:Nat)(av:AV):∀(f:Fr) (K:Fr→β),FR d av f K=K (EE d av f)
 |[],K=>rfl
 |(t,a)::f,K=>by
  simp only[FR,EE]
  cases Nat.beq t d with
  |true=>rfl
  |false=>simp only[cond_false];exact xD d av f _
def NA(kn:List Nat)(o:Oper):Option Nat:=match o.op with
 | .pick (.tmp c) _ _=>bif kn.any (Nat.beq c)then none else some c
 |_=>none
def O8(ops:Array Oper)(kn:List Nat)(o:Oper):Option Nat:=match o.guard with
 |some (j,_)=>(match(ops[j]?).bind (·.dst)with
  |some d=>bif kn.any (Nat.beq d)then NA kn o else some d
  |none=>none)
 |none=>NA kn o
def KQ(s:SS):Option Nat:=match s.ks with
 | .o ops (o::_)::_=>O8 ops s.kn o
 | .g _ ops (o::_) _::_=>O8 ops s.kn o
 |_=>none
def bool? (a:AV):Option Bool:=match a with
 | .one (.pv (.s (.bool t)))=>some t
 |_=>none
theorem bool?_eq{a:AV}{t:Bool}(h:bool? a=some t):a=vb t:=by
 unfold bool? at h
 split at h
 ·simp only[cA]at h;subst h;rfl
 ·cases h
def FV(s:SS):Option Bool:=
 match s.ks with
 | .c (.cond o _ _)::_=>bool? (rv s.fr o)
 |_=>(match KQ s with
  |some d=>bool? (lk s.fr d)
  |none=>none)
def JB(t:Bool)(s:SS):SS:=
 match s with
 |⟨ks,fr,st,kn⟩=>match ks with
  | .c (.cond o a b)::k=>(match t with
   |true=>⟨.c a::k,fr,st,kn⟩
   |false=>⟨.c b::k,fr,st,kn⟩)
  |ks=>(match KQ ⟨ks,fr,st,kn⟩with
   |some d=>FR d (vb t) fr fun fr=>⟨ks,fr,st,d::kn⟩
   |none=>⟨ks,fr,st,kn⟩)
theorem NB{ks:List It}{fr:Fr}{st:St}{kn:List Nat}{d:Nat}{t:Bool}(hd:KQ ⟨ks,fr,st,kn⟩=some d):JB t ⟨ks,fr,st,kn⟩=⟨ks,EE d (vb t) fr,st,d::kn⟩:=by
 cases ks with
 |nil=>simp[KQ]at hd
 |cons x k=>
  cases x with
  |c x=>simp[KQ]at hd
  |b=>simp[KQ]at hd
  |s=>simp[KQ]at hd
  |r=>simp[KQ]at hd
  |o ops l=>simp only[JB,hd,xD]
  |g X ops l tw=>simp only[JB,hd,xD]
theorem rt{t:Bool}(he:FV s=some t)(k:XK P n n0 lz Q (JB t s)):XK P n n0 lz Q s:=by
 obtain⟨ks,fr,st,kn⟩:=s
 unfold FV at he
 split at he
 ·rename_i o a b ks' hk
  simp only at hk
  subst hk
  have hx:=bool?_eq he
  simp only[JB]at k
  refine XW.cond (n:=n) rfl hx (fun h=> ?_) (fun h=> ?_)
  ·subst h;exact k
  ·subst h;exact k
 ·rename_i hk
  split at he
  ·rename_i d hd
   have hx:=bool?_eq he
   rw[NB hd,←hx]at k
   have k:QK P n n0 lz ks Q .normal (EE d (lk fr d) fr) st:=k
   rw[EY]at k
   exact k
  ·cases he
theorem uC{t:Bool}(ht:GG P n n0 lz an r Q x (JB true (run P n an s)))(hf:GG P n n0 lz an r Q y (JB false (run P n an s)))
  (he:FV (run P n an s)=some t:=by kernel_rfl):GG P n n0 lz an r Q (aF t x y) s:=by
 refine⟨fun h=> ?_⟩
 refine bH (an:=an) ?_
 cases t with
 |true=>exact rt he (ht h)
 |false=>exact rt he (hf h)
theorem uT(k:GG P n n0 lz an r Q T (JB true (run P n an s)))(he:FV (run P n an s)=some true:=by kernel_rfl):GG P n n0 lz an r Q T s:=
 ⟨fun h=>bH (an:=an) (rt he (k h))⟩
theorem uF(k:GG P n n0 lz an r Q T (JB false (run P n an s)))(he:FV (run P n an s)=some false:=by kernel_rfl):GG P n n0 lz an r Q T s:=
 ⟨fun h=>bH (an:=an) (rt he (k h))⟩
theorem uH{B b:Bool}(hb:B=b)(k:GG P n n0 lz an r Q T (JB b (run P n an s)))(he:FV (run P n an s)=some B:=by kernel_rfl):GG P n n0 lz an r Q T s:=
 ⟨fun h=>bH (an:=an) (rt (hb▸he) (k h))⟩
theorem lK{o:Option β}{p:Prop}(e:o=none)(h:o=some r):p:=by rw[e]at h;cases h
def O3(s:SS):Option Nat:=match ta s with
 |some (o,_)=>(match o.op with
  | .indexAddr _ _ (.tmp t)=>some t
  | .index _ _ (.tmp t)=>some t
  |_=>none)
 |none=>none
def PK(s:SS):Option (IntKind×Int):=match O3 s with
 |some t=>(match lk s.fr t with
  | .one (.pv (.s (.int k m)))=>some (k,m)
  |_=>none)
 |none=>none
def GU(P:Program)(s:SS):Option (AV×List Prop):=
 match ta s with
 |some (o,f)=>bif jj o.op then(match ev P false o f (yu s) (Gn o f)with
  |some out=>some (out.av,out.ob)
  |none=>none)else none
 |none=>none
theorem HB{av:AV}{ob:List Prop}(he:GU P s=some (av,ob))(hob:eH ob):∃o f,ta s=some (o,f)∧Yd P n (yu s) o f av:=by
 unfold GU at he
 split at he
 ·rename_i o f hd
  cases hq:jj o.op with
  |false=>simp[hq]at he
  |true=>
   simp only[hq,cond_true]at he
   split at he
   ·rename_i out hev
    simp only[cA,ku]at he
    obtain⟨rfl,rfl⟩:=he
    exact⟨o,f,hd,Yd.ev hq hev hob⟩
   ·cases he
 ·cases he
theorem uV(av av':AV){ob:List Prop}(hob:eH ob)(hav:av=av')(k:GG P n n0 lz an r Q T (xR n av' (run P n an s)))(he:GU P (run P n an s)=some (av,ob)):GG P n n0 lz an r Q T s:=by
 refine⟨fun h=> ?_⟩
 obtain⟨o,f,h1,h2⟩:=HB (n:=n) he hob
 subst hav
 exact bH (an:=an) (mi h1 h2 (k h))
def Ot(P:Program)(s:SS):AV:=match GU P s with
 |some (av,_)=>av
 |none=> .j
def NY(P:Program)(s:SS):Option (List Prop):=match GU P s with
 |some (_,ob)=>some ob
 |none=>none
theorem NJ{ob:List Prop}(h:NY P s=some ob):GU P s=some (Ot P s,ob):=by
 unfold NY at h
 unfold Ot
 split at h
 ·rename_i av ob' he
  simp only[cA]at h
  subst h
  rw[he]
 ·cases h
def O0(P:Program)(s:SS):Option AV:=
 match ta s with
 |some (o,f)=>bif jj o.op then(match ev P false o f (yu s) (Gn o f)with
  |some out=>(match out.ob with
   |[]=>some out.av
   |_=>bif M3 P s.kn o f then some out.av else none)
  |none=>none)else none
 |none=>none
theorem LR{av:AV}(he:O0 P s=some av):∃o f,ta s=some (o,f)∧Yd P n (yu s) o f av:=by
 unfold O0 at he
 split at he
 ·rename_i o f hd
  cases hq:jj o.op with
  |false=>simp[hq]at he
  |true=>
   simp only[hq,cond_true]at he
   split at he
   ·rename_i out hev
    have hob:eH out.ob∧out.av=av:=by
     split at he
     ·rename_i hob
      rw[hob]
      exact⟨trivial,Option.some.inj he⟩
     ·cases hb:M3 P s.kn o f with
      |false=>simp[hb]at he
      |true=>rw[hb]at he;exact⟨Jk hb hev,Option.some.inj he⟩
    rw[←hob.2]
    exact⟨o,f,hd,Yd.ev hq hev hob.1⟩
   ·cases he
 ·cases he
theorem uY(d:Nat){e:α}(m:α→AV){f:α→Option β}(k:∀y,GG P n n0 lz an r Q (f y) (xR n (m y) (qU P n an d s)))
  (he:O0 P (qU P n an d s)=some (m e):=by kernel_rfl):GG P n n0 lz an r Q (aK (some e) f) s:=by
 refine⟨fun h=> ?_⟩
 obtain⟨o,g,h1,h2⟩:=LR (n:=n) he
 exact qB (mi h1 h2 (k e h))
theorem uG{p:Prop}[Decidable p](k:GG P n n0 lz an r Q x (xR n (Ot P (run P n an s)) (run P n an s)))(he:NY P (run P n an s)=some [p]:=by kernel_rfl):GG P n n0 lz an r Q (eh p x) s:=by
 refine⟨fun h=> ?_⟩
 obtain⟨hp,h⟩:=iq h
 exact uV _ _ (ob:=[p]) ⟨hp,trivial⟩ rfl k (NJ he) h
theorem uD{p:Prop}(hp:p)(k:GG P n n0 lz an r Q T (xR n (Ot P (run P n an s)) (run P n an s)))(he:NY P (run P n an s)=some [p]:=by kernel_rfl):GG P n n0 lz an r Q T s:=
 uV _ _ (ob:=[p]) ⟨hp,trivial⟩ rfl k (NJ he)
def Jh(P:Program)(s:SS):Option (List (List PV)×Int×Nat):=
 match ta s with
 |some (o,f)=>(match o.op with
  | .indexAddr t x i=>(match P.underlying t,rv f x,rv f i with
   |some (.slice e),.one (.pv (.ro els)),.one (.pv (.s (.int _ m)))=>(match vr P e with
    |some es=>some (els,m,es)
    |none=>none)
   |_,_,_=>none)
  |_=>none)
 |none=>none
theorem KO{els:List (List PV)}{i:Int}{es:Nat}{c:List PV}(he:Jh P s=some (els,i,es))(h:0≤i∧i<(els.length:Int)∧aT es els)(hc:els[i.toNat]? =some c):
  ∃o f,ta s=some (o,f)∧Yd P n (yu s) o f (.one (.pv (.rp [c] 0 0))):=by
 unfold Jh at he
 split at he
 ·rename_i o f hd
  refine⟨o,f,hd,?_⟩
  split at he
  ·rename_i t x i' ho
   split at he
   ·rename_i e els' k m hu hx hi
    split at he
    ·rename_i es' hes
     simp only[cA,ku]at he
     obtain⟨rfl,rfl,rfl⟩:=he
     have hev:ev P false o f (yu s) []=some ⟨.one (.pv (.rp els' m.toNat 0)),yu s,[0≤m∧m<(els'.length:Int)∧aT es' els'],[],none⟩:=by
      unfold ev
      simp only[ho,hx,hi,F4,hu,hes]
     refine(Yd.ev (by rw[ho];rfl) hev ⟨h,trivial⟩).le ?_
     intro ι w v hv
     cases jL hv with
     |pv _ _ hp=>exact .one _ _ (.pv _ _ (hp.at1 hc))
    ·cases he
   ·cases he
  ·cases he
 ·cases he
theorem uL(E:lD α){xs:List α}{i:Int}{f:α→Option β}(k:∀e,at? xs i=some e→GG P n n0 lz an r Q (f e) (xR n (.one (.pv (.rp [E.cells e] 0 0))) (run P n an s)))
  (he:Jh P (run P n an s)=some (E.els xs,i,E.sz):=by kernel_rfl):GG P n n0 lz an r Q (aK (at? xs i) f) s:=by
 refine⟨fun h=> ?_⟩
 obtain⟨e,ha,h⟩:=jV h
 obtain⟨o,g,h1,h2⟩:=KO (n:=n) he (E.inb ha) (E.get ha)
 exact bH (an:=an) (mi h1 h2 (k e ha h))
theorem uM(E:lD α){xs:List α}{i:Int}{e:α}(ha:at? xs i=some e)(k:GG P n n0 lz an r Q T (xR n (.one (.pv (.rp [E.cells e] 0 0))) (run P n an s)))
  (he:Jh P (run P n an s)=some (E.els xs,i,E.sz):=by kernel_rfl):GG P n n0 lz an r Q T s:=by
 refine⟨fun h=> ?_⟩
 obtain⟨o,g,h1,h2⟩:=KO (n:=n) he (E.inb ha) (E.get ha)
 exact bH (an:=an) (mi h1 h2 (k h))
theorem uN(E:lD α)(xs:List α)(k:GG P n n0 lz an r Q T (xR n (vi (xs.length:Int)) (run P n an s)))
  (he:GU P (run P n an s)=some (vi ((E.els xs).length:Int),[]):=by kernel_rfl):GG P n n0 lz an r Q T s:=
 uV _ _ (ob:=[]) trivial (by rw[E.len]) k he
theorem uX(E:lD α){xs:List α}{a b:Int}(k:GG P n n0 lz an r Q x (xR n (vl E ((xs.drop a.toNat).take (b.toNat-a.toNat))) (run P n an s)))
  (he:GU P (run P n an s)=some (.one (.pv (.ro (((E.els xs).drop a.toNat).take (b.toNat-a.toNat)))),[(0≤a∧a≤b∧b≤((E.els xs).length:Int))∧aT E.sz (E.els xs)]):=by kernel_rfl):
  GG P n n0 lz an r Q (eh (0≤a∧a≤b∧b≤(xs.length:Int)) x) s:=by
 refine⟨fun h=> ?_⟩
 obtain⟨hp,h⟩:=iq h
 exact uV _ _ (ob:=[_]) ⟨E.cutOk hp,trivial⟩ (by rw[E.cut]) k he h
theorem N6(E:lD α){xs:List α}{a b m:Int}(k:GG P n n0 lz an r Q x (xR n (vl E ((xs.drop a.toNat).take (b.toNat-a.toNat))) (run P n an s)))
  (he:GU P (run P n an s)=some (.one (.pv (.ro (((E.els xs).drop a.toNat).take (b.toNat-a.toNat)))),[(0≤a∧a≤b∧b≤m∧m≤((E.els xs).length:Int))∧aT E.sz (E.els xs)]):=by kernel_rfl):
  GG P n n0 lz an r Q (eh (0≤a∧a≤b∧b≤m∧m≤(xs.length:Int)) x) s:=by
 refine⟨fun h=> ?_⟩
 obtain⟨hp,h⟩:=iq h
 exact uV _ _ (ob:=[_]) ⟨E.cutMOk hp,trivial⟩ (by rw[E.cut]) k he h
def OJ(P:Program)(s:SS):Option (Nat×List AV):=
 match ta s with
 |some (o,f)=>qy P o f
 |none=>none
theorem Nf{g:Nat}{avs:List AV}{v:AV}(he:OJ P s=some (g,avs))(h:PC P g avs v)(hp:jH avs=true)(hr:mm v=true):∃o f,ta s=some (o,f)∧Yd P n (yu s) o f v:=by
 unfold OJ at he
 split at he
 ·rename_i o f hd
  exact⟨o,f,hd,Yd.call he h hp hr⟩
 ·cases he
def CT(P:Program)(f:Nat)(args:List AV){β:Type}(T:Option β)(rv:β→AV):Prop:=∀r,T=some r→PC P f args (rv r)
def N5:CV→CV
 | .pv (.s (.slice none 0 0))=> .pv (.ro [])
 | .cl els=> .pv (.ro els)
 |c=>c
def MY:AV→AV
 | .one c=> .one (N5 c)
 | .ag cs=> .ag (cs.map N5)
 |a=>a
theorem I8(c:CV):Kh c (N5 c):=by
 unfold N5
 split
 ·exact .nl
 ·exact .cl _
 ·exact .rfl _
theorem Jd(a:AV):Jj a (MY a):=by
 unfold MY
 split
 ·exact .one (I8 _)
 ·refine .ag (by simp) (fun i c c' h1 h2=> ?_)
  rw[List.getElem?_map,h1]at h2
  simp only[Option.map_some,cA]at h2
  subst h2
  exact I8 c
 ·exact .rfl _
theorem xq.refl:∀l:List AV,xq l l
 |[]=>trivial
 |a::l=>⟨.rfl _,xq.refl l⟩
theorem CZ(l:List AV):xq l (l.map MY):=by
 induction l with
 |nil=>trivial
 |cons a l ih=>exact⟨Jd a,ih⟩
def Ov(P:Program)(s:SS):Option (Nat×List AV):=match OJ P s with
 |some (g,l)=>bif jH l then some (g,l.map MY)else none
 |none=>none
theorem uP{α:Type}{o:Option α}{f:α→Option β}{g:Nat}{avs:List AV}{rv:α→AV}(c:CT P g avs o rv)
  (k:∀v,o=some v→GG P n n0 lz an r Q (f v) (xR n (rv v) (run P n an s)))
  (he:Ov P (run P n an s)=some (g,avs):=by kernel_rfl)(hr:∀v,mm (rv v)=true:=by intro v;kernel_rfl):GG P n n0 lz an r Q (aK o f) s:=by
 refine⟨fun h=> ?_⟩
 obtain⟨v,ho,h⟩:=jV h
 unfold Ov at he
 split at he
 ·rename_i g' l hq
  cases hp:jH l with
  |false=>simp[hp]at he
  |true=>
   simp only[hp,cond_true,cA,ku]at he
   obtain⟨rfl,rfl⟩:=he
   obtain⟨o',f',h1,h2⟩:=Nf (n:=n) hq ((c v ho).le (CZ l)) hp (hr v)
   exact bH (an:=an) (mi h1 h2 (k v ho h))
 ·cases he
structure KP(n n0:Nat)(lz:List Nat) where
 p:Fr→St→Prop
 cl:∀{fr st fr' st'},bW n n0 lz fr st fr' st'→p fr' st'→p fr st
theorem tO(Q:QT):∀l1 l2:List It,QK P n n0 lz (l1++l2) Q=QK P n n0 lz l1 (QK P n n0 lz l2 Q)
 |[],l2=>rfl
 | .b _::l,l2=>by simp only[List.cons_append,QK,tO Q l l2]
 | .s::l,l2=>by simp only[List.cons_append,QK,tO Q l l2]
 | .c _::l,l2=>by simp only[List.cons_append,QK,tO Q l l2]
 | .o _ _::l,l2=>by simp only[List.cons_append,QK,tO Q l l2]
 | .g _ _ _ _::l,l2=>by simp only[List.cons_append,QK,tO Q l l2]
 | .r _ _::l,l2=>by simp only[List.cons_append,QK,tO Q l l2]
theorem DM(Q:QT):eS (Q .normal) Q=Q:=by funext e f s;cases e<;>rfl
def KN{α β:Type}:Nat→List α→(List α→β)→β
 |d+1,x::l,K=>KN d l fun l=>K (x::l)
 |_,_,K=>K []
def Ft{α β:Type}:List α→List β→Bool
 |[],[]=>true
 |_::l,_::m=>Ft l m
 |_,_=>false
def N4{β:Type}(l2:List It):List It→(List It→β)→β
 |[],K=>K []
 |x::l,K=>bif Ft l2 (x::l)then K []else N4 l2 l fun l=>K (x::l)
def Dl(l2:List It):List It→List It
 |[]=>[]
 |x::l=>bif Ft l2 (x::l)then x::l else Dl l2 l
theorem Fe{β:Type}(l2:List It):∀(l:List It) (K:List It→β),∃l1,N4 l2 l K=K l1∧l=l1++Dl l2 l
 |[],K=>⟨[],rfl,rfl⟩
 |x::l,K=>by
  obtain⟨l1,h1,h2⟩:=Fe l2 l (fun l=>K (x::l))
  unfold N4 Dl
  cases hb:Ft l2 (x::l)with
  |true=>exact⟨[],rfl,rfl⟩
  |false=>exact⟨x::l1,by simp only[cond_false,h1],by simp only[cond_false,List.cons_append];rw[←h2]⟩
def Np(l2:List It)(s:SS):SS:=match s with
 |⟨ks,fr,st,kn⟩=>N4 l2 ks fun ks=>⟨ks,fr,st,kn⟩
def Ln:List Nat→Code→List It→List It
 |[],_,acc=>acc
 |i::p,c,acc=>match c with
  | .seq a b=>bif Nat.beq i 0 then Ln p a (.c b::acc)else Ln p b acc
  | .block id a=>Ln p a (.b id::acc)
  | .scope a=>Ln p a (.s::acc)
  | .cond _ a b=>bif Nat.beq i 0 then Ln p a acc else Ln p b acc
  | .loop x=>Ln p x []
  |_=>acc
def kS(fn:Func)(p:List Nat)(m:Nat):List It:=KN m (Ln p (cd fn []) []) id
theorem JT{l2:List It}{s':SS}(h:∀K:KP n n0 lz,(∀{γ:Type} {T1:Option γ} {r1:γ} {f:Fr} {st:St},T1=some r1→GG P n n0 lz an r1 Q T1 ⟨l2,f,st,[]⟩→K.p f st)→GG P n n0 lz an r (eS K.p (QK P n n0 lz l2 Q)) T (Np l2 s'))
  (he:Dl l2 s'.ks=l2)(ht:oZ l2=true)(hT:T=some r):XK P n n0 lz Q s':=by
 have:=h ⟨fun f st=>XK P n n0 lz Q ⟨l2,f,st,[]⟩,fun hs h=>XK.sub ht hs h⟩ (fun hT g=>g hT) hT
 obtain⟨ks,fr,st,kn⟩:=s'
 obtain⟨l1,e1,e3⟩:=Fe l2 ks fun ks=>(⟨ks,fr,st,kn⟩:SS)
 have e:XK P n n0 lz Q ⟨ks,fr,st,kn⟩=QK P n n0 lz (l1++l2) Q .normal fr st:=by
  simp only at he
  rw[he]at e3
  unfold XK
  rw[e3]
 rw[e,tO]
 have e2:eS (fun f st=>XK P n n0 lz Q ⟨l2,f,st,[]⟩) (QK P n n0 lz l2 Q)=QK P n n0 lz l2 Q:=DM (QK P n n0 lz l2 Q)
 unfold Np at this
 simp only at this
 rw[e1]at this
 have t2:QK P n n0 lz l1 (eS (fun f st=>XK P n n0 lz Q ⟨l2,f,st,[]⟩) (QK P n n0 lz l2 Q)) .normal fr st:=this
 rw[e2]at t2
 exact t2
theorem uQ(l2:List It)(h:∀K:KP n n0 lz,(∀{γ:Type} {T1:Option γ} {r1:γ} {f:Fr} {st:St},T1=some r1→GG P n n0 lz an r1 Q T1 ⟨l2,f,st,[]⟩→K.p f st)→GG P n n0 lz an r (eS K.p (QK P n n0 lz l2 Q)) T (Np l2 (run P n an s)))
 (he:Dl l2 (run P n an s).ks=l2:=by kernel_rfl)(ht:oZ l2=true:=by kernel_rfl):GG P n n0 lz an r Q T s:=⟨fun hT=>bH (JT h he ht hT)⟩
def MO:CV→CV→CV
 | .pv (.s (.slice none 0 0)),.pv (.ro _)=> .pv (.ro [])
 |c,_=>c
def FY:List CV→List CV→List CV
 |c::l,e::m=>MO c e::FY l m
 |l,_=>l
def B7:AV→AV→AV
 | .one c,.one e=> .one (MO c e)
 | .ag l,.ag m=> .ag (FY l m)
 |a,_=>a
def Ds:List AV→List AV→List AV
 |a::l,e::m=>B7 a e::Ds l m
 |l,_=>l
def Ky:AV→AV→AV
 | .tp l,.tp m=> .tp (Ds l m)
 |a,e=>B7 a e
theorem Hr(c e:CV):Kh c (MO c e):=by
 unfold MO
 split
 ·exact .nl
 ·exact .rfl _
theorem E7:∀(l m:List CV),l.length=(FY l m).length∧∀(i:Nat) c c',l[i]? =some c→(FY l m)[i]? =some c'→Kh c c'
 |[],m=>by cases m<;>exact⟨rfl,fun i c c' h=>by simp at h⟩
 |c::l,[]=>⟨rfl,fun i a b h1 h2=>by simp only[FY]at h2;rw[h1]at h2;cases h2;exact .rfl _⟩
 |c::l,e::m=>by
  obtain⟨h1,h2⟩:=E7 l m
  refine⟨by simp only[FY,List.length_cons];omega,fun i a b q1 q2=> ?_⟩
  cases i with
  |zero=>simp only[FY,List.getElem?_cons_zero,cA]at q1 q2;subst q1;subst q2;exact Hr _ _
  |succ i=>exact h2 i a b (by simpa using q1) (by simpa [FY]using q2)
theorem Kq(a e:AV):Jj a (B7 a e):=by
 unfold B7
 split
 ·exact .one (Hr _ _)
 ·obtain⟨h1,h2⟩:=E7 _ _
  exact .ag h1 h2
 ·exact .rfl _
def G8(fr:Fr):Fr→Fr
 |[]=>[]
 |(t,e)::l=>(t,B7 (lk fr t) e)::G8 fr l
theorem BJ(fr:Fr):∀fr0,JA fr (G8 fr fr0)
 |[]=>trivial
 |(t,e)::l=>⟨Kq _ _,BJ fr l⟩
def qW:Nat→St→List Nat
 |_,[]=>[]
 |i,.dead::l=>qW (i+1) l
 |i,_::l=>i::qW (i+1) l
def MW(n0:Nat)(fr0:Fr)(st0:St)(fr:Fr)(st:St):Option (Fr×St):=
 bif ((List.range n0).all (aI (qW 0 st0))&&(qW 0 st0).all (fun x=>Nat.ble (x+1) st0.length))&&dq (aI (qW 0 st0)) st0 then some (G8 (jb (aI (qW 0 st0)) fr) fr0,qt (qW 0 st0) 0 (st.take st0.length))else none
theorem sd{fr0 fr:Fr}{st0 st:St}(he:MW n0 fr0 st0 fr st=some (fr0,st0)):bW n n0 lz fr st fr0 st0:=by
 unfold MW at he
 cases hb:((List.range n0).all (aI (qW 0 st0))&&(qW 0 st0).all (fun x=>Nat.ble (x+1) st0.length))&&dq (aI (qW 0 st0)) st0 with
 |false=>simp[hb]at he
 |true=>
  simp only[hb,cond_true,cA,ku]at he
  rw[fM]at hb
  refine bW.trans (bW.only (qW 0 st0) st0.length hb.1 rfl he.2 hb.2) ?_
  rw[←he.1]
  exact bW.frame (BJ _ _)
def Ox(n0:Nat)(fr0:Fr)(st0:St)(s:SS):Option (Fr×St):=match s.ks with
 |[]=>MW n0 fr0 st0 s.fr s.st
 |_=>none
theorem uJ{K:KP n n0 lz}{fr0:Fr}{st0:St}(j:T=some r→K.p fr0 st0)(he:Ox n0 fr0 st0 (run P n an s)=some (fr0,st0):=by kernel_rfl):GG P n n0 lz an r (eS K.p Q1) T s:=by
 refine⟨fun hT=> ?_⟩
 refine bH (an:=an) ?_
 unfold Ox at he
 split at he
 ·rename_i hk
  unfold XK
  rw[hk]
  exact K.cl (sd he) (j hT)
 ·cases he
def Oy(s:SS):Option (Code×List It):=match s.ks with
 | .c (.loop x)::k=>some (x,k)
 |_=>none
theorem uO(x':Code)(k:List It)(h:∀(R:Nat→KP n n0 lz),(∀{γ:Type} {T1:Option γ} {r1:γ} {j:Nat} {f:Fr} {st:St},T1=some r1→GG P n n0 lz an r1 (eS (R j).p (QK P n n0 lz k Q)) T1 ⟨[.c x'],f,st,[]⟩→(R (j+1)).p f st)→
   T=some r→(R aO).p (run P n an s).fr (run P n an s).st)
  (he:Oy (run P n an s)=some (x',k):=by kernel_rfl):GG P n n0 lz an r Q T s:=by
 refine⟨fun hT=> ?_⟩
 refine bH (an:=an) ?_
 have h1:=h (fun j=>⟨fun f st=>XR P n n0 lz x' (QK P n n0 lz k Q) j f st,fun hs h=>XR.sub hs h⟩) (fun h g=>g h) hT
 generalize run P n an s=s' at*
 obtain⟨ks,fr,st,kn⟩:=s'
 unfold Oy at he
 split at he
 ·rename_i y k' hk
  simp only[cA,ku]at he
  obtain⟨rfl,rfl⟩:=he
  subst hk
  exact XW.rounds aO rfl h1
 ·cases he
def Pt(j:Nat)(s:SS):SS:=match s with
 |⟨ks,fr,st,kn⟩=>match ks with
  | .c (.loop x)::k=>⟨.c x:: .r x j::k,fr,st,kn⟩
  |ks=>⟨ks,fr,st,kn⟩
theorem On(j:Nat)(g:GG P n n0 lz an r Q T (Pt j (run P n an s))):GG P n n0 lz an r Q T s:=by
 refine⟨fun hT=> ?_⟩
 refine bH (an:=an) ?_
 have h1:=g hT
 generalize run P n an s=s' at*
 obtain⟨ks,fr,st,kn⟩:=s'
 unfold Pt at h1
 simp only at h1
 split at h1
 ·exact XW.rounds (j+1) rfl h1
 ·exact h1
theorem uE{K:KP n n0 lz}{fr0 fr:Fr}{st0 st:St}(j:T=some r→K.p fr0 st0)(he:MW n0 fr0 st0 fr st=some (fr0,st0):=by kernel_rfl):T=some r→K.p fr st:=
 fun hT=>K.cl (sd he) (j hT)
theorem uU{T':Option β}(hu:T'=T)(g:GG P n n0 lz an r Q T s):GG P n n0 lz an r Q T' s:=hu▸g
def N7(s:SS):Option Exit:=match s.ks with
 | .c (.exit id)::k=>bif (zh id k).isNone then some (.exit id)else none
 | .c .ret::_=>some .ret
 |_=>none
structure RE(P:Program)(n n0:Nat)(lz an:List Nat){β:Type}(r:β)(e:Exit)(Q:QT)(T:Option β)(s:SS):Prop where
 go:T=some r→Q e s.fr s.st
instance{e:Exit}:CoeFun (RE P n n0 lz an r e Q T s) (fun _=>T=some r→Q e s.fr s.st):=⟨RE.go⟩
theorem uR(e:Exit)(g:RE P n n0 lz an r e Q T (run P n an s))(he:N7 (run P n an s)=some e:=by kernel_rfl):GG P n n0 lz an r Q T s:=by
 refine⟨fun hT=> ?_⟩
 have g:=g hT
 refine bH (an:=an) ?_
 generalize run P n an s=s' at*
 obtain⟨ks,fr,st,kn⟩:=s'
 unfold N7 at he
 split at he
 ·rename_i id k0 hk
  simp only at hk
  subst hk
  cases hu:zh id k0 with
  |some k'=>simp[hu]at he
  |none=>
   simp only[hu,Option.isNone_none,cond_true,cA]at he
   subst he
   exact XW.exit rfl (oP hu g)
 ·rename_i k0 hk
  simp only at hk
  subst hk
  simp only[cA]at he
  subst he
  exact XW.ret rfl (qr g)
 ·cases he
def Id(e:Exit)(k:List It):Option (List It):=match e with
 | .exit id=>zh id k
 |_=>none
def O2:Exit→Bool
 | .ret=>true
 | .exit _=>true
 |_=>false
theorem xM{e:Exit}{R:Fr→St→Prop}{k:List It}(g:GG P n n0 lz an r Q T ⟨(Id e k).getD [],s.fr,s.st,[]⟩)(he:(Id e k).isSome=true:=by kernel_rfl):RE P n n0 lz an r e (eS R (QK P n n0 lz k Q)) T s:=by
 refine⟨fun hT=> ?_⟩
 have g:=g hT
 cases e<;>simp only[Id]at he g<;>try (cases he;done)
 rename_i id
 obtain⟨k',hk⟩:=Option.isSome_iff_exists.1 he
 rw[hk]at g
 exact rN hk g
theorem xN{e:Exit}{R:Fr→St→Prop}{k:List It}(g:RE P n n0 lz an r e Q T s)(he:((Id e k).isNone&&O2 e)=true:=by kernel_rfl):RE P n n0 lz an r e (eS R (QK P n n0 lz k Q)) T s:=by
 refine⟨fun hT=> ?_⟩
 have g:=g hT
 cases e with
 |exit id=>exact oP (Option.isNone_iff_eq_none.1 (by simpa [Id,O2]using he)) g
 |ret=>exact qr g
 |_=>simp[O2]at he
theorem Ja{st:St}{q:Nat→Bool}{c e:CV}(h:kQ q (MO c e)=true):CF st q c (MO c e):=by
 unfold MO at*
 split
 ·exact .nl
 ·exact .rfl _ (by simpa using h)
theorem LF.same{st:St}{q:Nat→Bool}:∀{l:List CV},nE q l=true→LF st q l l
 |[],_=> .nil
 |c::l,h=>by
  simp only[nE,fM]at h
  exact .cons (.rfl _ h.1) (LF.same h.2)
theorem HH{st:St}{q:Nat→Bool}:∀{l m:List CV},nE q (FY l m)=true→LF st q l (FY l m)
 |c::l,e::m,h=>by
  simp only[FY,nE,fM]at h
  exact .cons (Ja h.1) (HH h.2)
 |[],_,_=>by simp only[FY];exact .nil
 |c::l,[],h=>by simp only[FY]at h⊢;exact LF.same h
theorem AF.same{st:St}{q:Nat→Bool}:∀{a:AV},cU q a=true→AF st q a a
 | .j,_=> .j _
 | .one c,h=> .one (.rfl _ h)
 | .ag l,h=> .ag (LF.same h)
 | .tp [],_=> .tp0
 | .tp (a::l),h=>by
  simp only[cU,cU.go,fM]at h
  exact .tpc (AF.same h.1) (AF.same (a:= .tp l) (by simpa [cU]using h.2))
theorem EN{st:St}{q:Nat→Bool}{a e:AV}(h:cU q (B7 a e)=true):AF st q a (B7 a e):=by
 unfold B7 at*
 split
 ·exact .one (Ja (by simpa [cU]using h))
 ·exact .ag (HH (by simpa [cU]using h))
 ·exact AF.same (by simpa using h)
theorem Fa{st:St}{q:Nat→Bool}:∀{l m:List AV},cU.go q (Ds l m)=true→AF st q (.tp l) (.tp (Ds l m))
 |c::l,e::m,h=>by
  simp only[Ds,cU.go,fM]at h
  exact .tpc (EN h.1) (Fa h.2)
 |[],_,_=>by simp only[Ds];exact .tp0
 |c::l,[],h=>by simp only[Ds]at h⊢;exact AF.same (a:= .tp (c::l)) (by simpa [cU]using h)
theorem Hn{st:St}{q:Nat→Bool}{a e:AV}(h:cU q (Ky a e)=true):AF st q a (Ky a e):=by
 unfold Ky at*
 split
 ·exact Fa (by simpa [cU]using h)
 ·exact EN (by simpa using h)
def No(P:Program)(fn:Func)(s:SS)(e:AV):Option AV:=match mR P s.fr s.st fn.results.toList []with
 |some (avs,[])=>bif cU (fun _=>false) (Ky (pH avs) e)then some (Ky (pH avs) e)else none
 |_=>none
theorem LW{fn:Func}{e:Exit}{R:AV}(he:e= .normal∨e= .ret)(h:No P fn s R=some R):wL P fn R e s.fr s.st:=by
 unfold No at h
 split at h
 ·rename_i avs hr
  cases hi:cU (fun _=>false) (Ky (pH avs) R)with
  |false=>simp[hi]at h
  |true=>
   simp only[hi,cond_true,cA]at h
   have:=Hn (st:=s.st) hi
   rw[h]at this
   exact⟨he,[],avs,[],hr,trivial,this⟩
 ·cases h
def DT(P:Program)(fn:Func){β:Type}(rv:β→AV)(r:β):QT:=wL P fn (rv r)
theorem xF{fn:Func}{rv:β→AV}{v:β}(he:No P fn s (rv v)=some (rv v):=by kernel_rfl):RE P n n0 lz an r .ret (DT P fn rv r) (some v) s:=by
 refine⟨fun h=> ?_⟩
 simp only[cA]at h
 subst h
 show wL P fn (rv v) _ _ _
 exact LW (.inr rfl) he
def Ol(args:List AV):Fr:=fF (ly args 0) id
theorem hJ{f:Nat}{args:List AV}{rv:β→AV}(n:Nat)(an:List Nat)(fn:Func)(g:∀r,GG P n 0 [] an r (DT P fn rv r) T ⟨[.c (cd fn [])],Ol args,[],[]⟩)
  (hf:P.funcs[f]? =some fn:=by kernel_rfl)(hb:fn.body=some (cd fn []):=by kernel_rfl)(hn:fn.ntmps=n:=by kernel_rfl)(hl:Nat.ble args.length n=true:=by rfl):CT P f args T rv:=by
 intro r hT
 refine PC.of hf hb hn (n4 hl) ?_
 have:=g r hT
 unfold Ol at this
 rw[wb]at this
 refine XW.mono (show XW P n 0 [] (cd fn []) (QK P n 0 [] [] (DT P fn rv r)) (ly args 0) []from ?_) (fun e f s h=>h)
 have e:eS (XW P n 0 [] (cd fn []) (DT P fn rv r)) (DT P fn rv r) .normal (ly args 0) []:=this
 exact e
theorem AK{f:Nat}{args:List AV}{rv:β→AV}(e:T=none):CT P f args T rv:=fun r h=>lK e h
def OH(P:Program)(n0:Nat)(lz:List Nat)(m K:Nat)(X:List Nat)(s:SS):Bool:=match s.ks with
 | .c (.region _ ops true)::_=>((v8 ops&&wD ops m)&&P.follows .mixedOrders)&&(dq (fun i=> !aI X i) s.st&&xP n0 lz X)
 |_=>false
def OP(m K:Nat)(X:List Nat)(s:SS):SS:=match s with
 |⟨.c (.region _ ops true)::k,fr,st,kn⟩=>fS (st++List.replicate K .dead) fun st=>⟨.g X ops (ops.toList.take m) []:: .o ops (ops.toList.drop m)::k,fr,st,kn⟩
 |s=>s
theorem zX{q:Nat→Bool}:∀{a b:St},dq q a=true→dq q b=true→dq q (a++b)=true
 |[],b,_,h=>h
 |x::a,b,h,h2=>by
  simp only[List.cons_append,dq,fM]at h⊢
  exact⟨h.1,zX h.2 h2⟩
theorem yS{q:Nat→Bool}:∀K:Nat,dq q (List.replicate K .dead)=true
 |0=>rfl
 |K+1=>by rw[List.replicate_succ];simp only[dq,fM];exact⟨rfl,yS K⟩
theorem B9(m K:Nat)(X:List Nat)(k:GG P n n0 lz an r Q T (OP m K X (run P n an s)))(he:OH P n0 lz m K X (run P n an s)=true:=by kernel_rfl):GG P n n0 lz an r Q T s:=by
 refine⟨fun hT=> ?_⟩
 have k:=k hT
 refine bH (an:=an) ?_
 generalize run P n an s=s' at*
 obtain⟨ks,fr,st,kn⟩:=s'
 unfold OH at he
 split at he
 ·rename_i id ops k0 hk
  simp only at hk
  subst hk
  simp only[OP,mG]at k
  obtain⟨fr2,st2,tw2,h1,h2,h3⟩:=k
  simp only[fM]at he
  obtain⟨he,he1,he2⟩:=he
  rw[List.nil_append]at h2
  unfold Iv at h2
  rw[fM]at h2
  have h4:dq (fun i=> !aI X i) (st++List.replicate K .dead)=true:=zX he1 (yS K)
  exact XW.sub (bW.dead K) (XW.drwG (c:= .region id ops true) m X tw2 fr2 st2 rfl (by simp only[fM];exact⟨he,⟨h2,h4⟩,he2⟩) h1 h3)
 ·cases he
theorem pX(m:Nat)(k:GG P n n0 lz an r Q T (OP m 0 [999] (run P n an s)))(he:OH P n0 lz m 0 [999] (run P n an s)=true:=by kernel_rfl):GG P n n0 lz an r Q T s:=B9 m 0 [999] k he
end
section
variable {P:Program} {n n0:Nat} {lz an:List Nat} {Q Q1:QT} {α β:Type} {T x y:Option β} {r:β} {s:SS} {fr:Fr} {st:St} {ops:Array Oper} {l:List Oper}
def M0(b:Bool)(a:AV):AV:=match b with
 |true=>MY a
 |false=>a
theorem Lw(b:Bool)(l:List AV):xq l (l.map (M0 b)):=by
 cases b with
 |true=>exact CZ l
 |false=>rw[show l.map (M0 false)=l from List.map_id l];exact xq.refl l
theorem sG.soft{ι:IM}{w:World}{vs:List Value}{asv:List AV}(b:Bool)(h:sG ι w st vs asv):sG ι w st vs (asv.map (M0 b)):=by
 obtain⟨e1,e2⟩:=(Lw b asv).get
 refine⟨h.1.trans e1,fun j v a h1 h2=> ?_⟩
 have hlt:j<asv.length:=by rw[e1];exact(gN.1 h2).1
 exact(h.2 j v _ h1 (gu hlt)).le (e2 j _ a (gu hlt) h2)
def CM(P:Program)(f:Nat)(args:List AV)(sc:St){β:Type}(T:Option β)(rv:β→AV)(nb:β→St):Prop:=∀r,T=some r→MC P f args sc (rv r) (nb r)
def zM(P:Program)(fn:Func)(k:Nat){β:Type}(rv:β→AV)(nb:β→St)(r:β):QT:=qO P fn (rv r) k (nb r)
def Pf(st:St):St:=fS st id
theorem q9{f:Nat}{args:List AV}{sc:St}{rv:β→AV}{nb:β→St}(k n:Nat)(an:List Nat)(fn:Func)(g:∀r,GG P n k [] an r (zM P fn k rv nb r) T ⟨[.c (cd fn [])],Ol args,Pf sc,[]⟩)
  (hf:P.funcs[f]? =some fn:=by kernel_rfl)(hb:fn.body=some (cd fn []):=by kernel_rfl)(hn:fn.ntmps=n:=by kernel_rfl)(hl:Nat.ble args.length n=true:=by rfl)(hk:sc.length=k:=by rfl):CM P f args sc T rv nb:=by
 intro r hT
 refine MC.of k hf hb hn (n4 hl) hk ?_
 have:=g r hT
 unfold Ol Pf at this
 rw[wb,mG]at this
 refine XW.mono (show XW P n k [] (cd fn []) (QK P n k [] [] (zM P fn k rv nb r)) (ly args 0) sc from ?_) (fun e f s h=>h)
 have e:eS (XW P n k [] (cd fn []) (zM P fn k rv nb r)) (zM P fn k rv nb r) .normal (ly args 0) sc:=this
 exact e
theorem HI{f:Nat}{args:List AV}{sc:St}{rv:β→AV}{nb:β→St}(e:T=none):CM P f args sc T rv nb:=fun r h=>lK e h
def Oa(P:Program)(fn:Func)(k:Nat)(s:SS)(e:AV):Option (AV×St):=match mR P s.fr s.st fn.results.toList []with
 |some (avs,[])=>bif cU (fun id=>Nat.ble (id+1) k) (Ky (pH avs) e)&&dq (fun id=>Nat.ble (id+1) k) (s.st.take k)then some (Ky (pH avs) e,s.st.take k)else none
 |_=>none
theorem Fp{fn:Func}{k:Nat}{e:Exit}{R:AV}{sc:St}(he:e= .normal∨e= .ret)(h:Oa P fn k s R=some (R,sc)):qO P fn R k sc e s.fr s.st:=by
 unfold Oa at h
 split at h
 ·rename_i avs hr
  cases hi:cU (fun id=>Nat.ble (id+1) k) (Ky (pH avs) R)with
  |false=>simp[hi]at h
  |true=>
   cases hs:dq (fun id=>Nat.ble (id+1) k) (s.st.take k)with
   |false=>simp[hs]at h
   |true=>
    simp only[hi,hs,Bool.and_self,cond_true,cA,ku]at h
    have:=Hn (st:=s.st) hi
    rw[h.1]at this
    exact⟨he,[],avs,[],hr,trivial,h.2,by rw[←h.2];exact hs,this⟩
 ·cases h
theorem oj{fn:Func}{k:Nat}{rv:β→AV}{nb:β→St}{v:β}(he:Oa P fn k s (rv v)=some (rv v,nb v):=by kernel_rfl):RE P n n0 lz an r .ret (zM P fn k rv nb r) (some v) s:=by
 refine⟨fun h=> ?_⟩
 simp only[cA]at h
 subst h
 exact Fp (.inr rfl) he
theorem Pw{fn:Func}{k:Nat}{rv:β→AV}{nb:β→St}{v:β}(hk:(run P n an s).ks.isEmpty=true:=by kernel_rfl)(he:Oa P fn k (run P n an s) (rv v)=some (rv v,nb v):=by kernel_rfl):GG P n n0 lz an r (zM P fn k rv nb r) (some v) s:=by
 refine⟨fun h=> ?_⟩
 simp only[cA]at h
 subst h
 refine bH (an:=an) ?_
 have:(run P n an s).ks=[]:=List.isEmpty_iff.1 hk
 unfold XK
 rw[this]
 exact Fp (.inl rfl) he
def cQ(b:Bool)(P:Program)(n:Nat)(s:SS):Option (Nat×List AV):=match s.ks with
 | .o ops l::_=>(match iX P n ops l s.fr with
  |some (g,avs)=>some (g,avs.map (M0 b))
  |none=>none)
 |_=>none
def LL(n:Nat)(av:AV)(st':St)(s:SS):SS:=match s with
 |⟨.o ops (o::l)::k,fr,_,kn⟩=>fA av fun av=>fS st' fun st'=>tV n o.dst av fr (fun fr'=>wc false o.dst kn fun kn'=>⟨.o ops l::k,fr',st',kn'⟩) s
 |s=>s
theorem AG{av:AV}{st':St}{o:Oper}{k:List It}{kn:List Nat}:(∃fr' kn',qw n o.dst av fr=some fr'∧LL n av st' ⟨.o ops (o::l)::k,fr,st,kn⟩=⟨.o ops l::k,fr',st',kn'⟩)∨LL n av st' ⟨.o ops (o::l)::k,fr,st,kn⟩=⟨.o ops (o::l)::k,fr,st,kn⟩:=by
 simp only[LL,rx,mG]
 rcases lg (n:=n) o.dst av fr (fun fr'=>wc false o.dst kn fun kn'=>(⟨.o ops l::k,fr',st',kn'⟩:SS)) ⟨.o ops (o::l)::k,fr,st,kn⟩with⟨fr',hp,e⟩ |e
 ·obtain⟨kn',ek⟩:=mU false o.dst kn fun kn'=>(⟨.o ops l::k,fr',st',kn'⟩:SS)
  exact .inl ⟨fr',kn',hp,by rw[e,ek]⟩
 ·exact .inr e
theorem XO.calmS(g:Nat)(avs avs0:List AV)(sc sc':St)(r:AV)(rs:List Nat)(fr':Fr)(st':St)(hc:iX P n ops l fr=some (g,avs0))(b:Bool)(hs:avs0.map (M0 b)=avs.map (nP (ia rs st.length)))(h:MC P g avs sc r sc')(hb:yv st.length rs sc sc' avs=true)
  (hst:rs.map (fun x=>st[x]?)=sc.map (fun o=>some (my (ia rs st.length) o)))(hst':en st rs (sc'.map (my (ia rs st.length)))=st')(hput:rM n l (nP (ia rs st.length) r) fr=some fr')
  (hk:XO P n n0 lz ops (l.drop 1) Q fr' st'):XO P n n0 lz ops l Q fr st:=by
 cases l with
 |nil=>simp[iX]at hc
 |cons o rest=>
  simp only[iX]at hc
  split at hc
  ·rename_i hg
   intro ι w a hR hF
   obtain⟨vs,hrun,hA⟩:=lB hc hF
   have hA:=hA.soft b
   rw[hs]at hA
   have hw:=cF hg hF
   refine wpList_step fun K hK=> ?_
   rw[if_pos hw]
   simp only[Oper.wp,hrun,Oper.upon]
   refine(h.use' rs (vU hb) hst hR hA).mono ?_
   rintro e w' ⟨v,ι',rfl,hR',hv,k⟩
   rw[hst']at hR' hv k
   exact hK _ _ (di (fun e a w h=>h.trans (k.weaken (fun _ _=>trivial))) (hk ι' w' _ hR' (gP hput (hF.mono' k) hv)))
  ·simp at hc
theorem wP(b:Bool)(rs:List Nat){o:Option α}{f:α→Option β}{g:Nat}{avs:List AV}{sc:St}{rv:α→AV}{nb:α→St}(c:CM P g avs sc o rv nb)
  (k:∀v,o=some v→GG P n n0 lz an r Q (f v) (LL n (nP (ia rs (run P n an s).st.length) (rv v)) (en (run P n an s).st rs ((nb v).map (my (ia rs (run P n an s).st.length)))) (run P n an s)))
  (h1:cQ b P n (run P n an s)=some (g,avs.map (nP (ia rs (run P n an s).st.length))):=by kernel_rfl)(h2:∀v,yv (run P n an s).st.length rs sc (nb v) avs=true:=by intro v;kernel_rfl)
  (h3:rs.map (fun x=>(run P n an s).st[x]?)=sc.map (fun o=>some (my (ia rs (run P n an s).st.length) o)):=by kernel_rfl):GG P n n0 lz an r Q (aK o f) s:=by
 refine⟨fun h=> ?_⟩
 obtain⟨v,ho,h⟩:=jV h
 refine bH (an:=an) ?_
 have k:=k v ho h
 have h2:=h2 v
 generalize run P n an s=s' at*
 obtain⟨ks,fr,st,kn⟩:=s'
 unfold cQ at h1
 split at h1
 ·rename_i ops l k' hk
  simp only at hk
  subst hk
  split at h1
  ·rename_i g' avs' hc
   simp only[cA,ku]at h1
   obtain⟨rfl,h1⟩:=h1
   cases l with
   |nil=>simp[iX]at hc
   |cons o' l=>
    rcases AG (n:=n) (av:=nP (ia rs st.length) (rv v)) (st':=en st rs ((nb v).map (my (ia rs st.length)))) (o:=o') (ops:=ops) (l:=l) (fr:=fr) (st:=st) (k:=k') (kn:=kn)with⟨fr',kn',hp,e⟩ |e
    ·rw[e]at k
     exact XO.calmS _ _ _ _ _ _ _ fr' _ hc b h1 (c v ho) h2 h3 rfl hp k
    ·rw[e]at k;exact k
  ·cases h1
 ·cases h1
def O9(P:Program)(s:SS):Option ByteArray:=match s.ks with
 | .o ops l::_=>Ck P ops l s.fr
 |_=>none
theorem Pa(t:ByteArray)(k:GG P n n0 lz an r Q T (LL n (.one (.pt (run P n an s).st.length 0 0 0)) ((run P n an s).st++[.raw (.stringIter t 0)]) (run P n an s)))(he:O9 P (run P n an s)=some t:=by kernel_rfl):GG P n n0 lz an r Q T s:=by
 refine⟨fun h=>bH (an:=an) ?_⟩
 have k:=k h
 generalize run P n an s=s' at*
 obtain⟨ks,fr,st,kn⟩:=s'
 unfold O9 at he
 split at he
 ·rename_i ops l k' hk
  simp only at hk
  subst hk
  cases l with
  |nil=>simp[Ck]at he
  |cons o' l=>
   rcases AG (n:=n) (av:= .one (.pt st.length 0 0 0)) (st':=st++[.raw (.stringIter t 0)]) (o:=o') (ops:=ops) (l:=l) (fr:=fr) (st:=st) (k:=k') (kn:=kn)with⟨fr',kn',hp,e⟩ |e
   ·rw[e]at k
    exact XO.rng t fr' _ he hp rfl k
   ·rw[e]at k;exact k
 ·cases he
def OW(s:SS):Option Nat:=match s.ks with
 | .o ops l::_=>ux ops l s.fr
 |_=>none
theorem Pg(id:Nat){t:ByteArray}{pos:Nat}
  (k1:decide (pos<t.size)=true→GG P n n0 lz an r Q x (LL n (.tp [.one (.pv (.s (.bool true))),.one (.pv (.s (.int .i64 (Int.ofNat pos)))),.one (.pv (.s (.int .i32 (Int.ofNat (Utf8.decode t pos).1))))]) ((run P n an s).st.set id (.raw (.stringIter t (pos+(Utf8.decode t pos).2)))) (run P n an s)))
  (k2:decide (pos<t.size)=false→GG P n n0 lz an r Q y (LL n (.tp [.one (.pv (.s (.bool false)))]) (run P n an s).st (run P n an s)))
  (he:OW (run P n an s)=some id:=by kernel_rfl)(ho:(run P n an s).st[id]? =some (.raw (.stringIter t pos)):=by kernel_rfl):GG P n n0 lz an r Q (aF (decide (pos<t.size)) x y) s:=by
 refine⟨fun h=>bH (an:=an) ?_⟩
 cases hp0:decide (pos<t.size)with
 |true=>
  rw[hp0]at h
  have k:=k1 hp0 h
  generalize run P n an s=s' at*
  obtain⟨ks,fr,st,kn⟩:=s'
  unfold OW at he
  split at he
  ·rename_i ops l k' hk
   simp only at hk
   subst hk
   cases l with
   |nil=>simp[ux]at he
   |cons o' l=>
    rcases AG (n:=n) (av:= .tp [.one (.pv (.s (.bool true))),.one (.pv (.s (.int .i64 (Int.ofNat pos)))),.one (.pv (.s (.int .i32 (Int.ofNat (Utf8.decode t pos).1))))]) (st':=st.set id (.raw (.stringIter t (pos+(Utf8.decode t pos).2)))) (o:=o') (ops:=ops) (l:=l) (fr:=fr) (st:=st) (k:=k') (kn:=kn)with⟨fr',kn',hp,e⟩ |e
    ·rw[e]at k
     exact XO.nxt id t pos fr' _ he ho hp rfl hp0 k
    ·rw[e]at k;exact k
  ·cases he
 |false=>
  rw[hp0]at h
  have k:=k2 hp0 h
  generalize run P n an s=s' at*
  obtain⟨ks,fr,st,kn⟩:=s'
  unfold OW at he
  split at he
  ·rename_i ops l k' hk
   simp only at hk
   subst hk
   cases l with
   |nil=>simp[ux]at he
   |cons o' l=>
    rcases AG (n:=n) (av:= .tp [.one (.pv (.s (.bool false)))]) (st':=st) (o:=o') (ops:=ops) (l:=l) (fr:=fr) (st:=st) (k:=k') (kn:=kn)with⟨fr',kn',hp,e⟩ |e
    ·rw[e]at k
     exact XO.nxtE id t pos fr' he ho hp hp0 k
    ·rw[e]at k;exact k
  ·cases he
end
section
variable {P:Program} {n n0:Nat} {lz an:List Nat} {Q Q1:QT} {α β:Type} {T x y:Option β} {r:β} {s:SS} {fr:Fr} {st:St} {ops:Array Oper} {l:List Oper}
inductive BF(st:St)(q:Nat→Bool):aV→aV→Prop where
 |same (o:aV) (h:gA q o=true):BF st q o o
 |box {cells cells':List CV} (h:LF st q cells cells'):BF st q (.box cells) (.box cells')
 |win {sz i:Nat} {pre post:List PV} {mid mid':List CV} (h:LF st q mid mid'):BF st q (.win sz i pre mid post) (.win sz i pre mid' post)
theorem LF.len{q:Nat→Bool}{a b:List CV}(h:LF st q a b):a.length=b.length:=by
 induction h with
 |nil=>rfl
 |cons _ _ ih=>simp[ih]
theorem LF.pvs{q:Nat→Bool}:∀post:List PV,LF st q (post.map CV.pv) (post.map CV.pv)
 |[]=> .nil
 |p::post=> .cons (.rfl _ rfl) (LF.pvs post)
theorem LF.post{q:Nat→Bool}{a b:List CV}(h:LF st q a b)(post:List PV):LF st q (a++post.map CV.pv) (b++post.map CV.pv):=by
 induction h with
 |nil=>exact LF.pvs post
 |cons h _ ih=>exact .cons h ih
theorem LF.pre{q:Nat→Bool}{a b:List CV}(h:LF st q a b):∀pre post:List PV,LF st q (pre.map CV.pv++(a++post.map CV.pv)) (pre.map CV.pv++(b++post.map CV.pv))
 |[],post=>h.post post
 |p::pre,post=> .cons (.rfl _ rfl) (h.pre pre post)
structure AM(q:Nat→Bool)(st st':St):Prop where
 old:∀(id:Nat) o',st'[id]? =some o'→o'= .dead∨(q id=true∧∃o,st[id]? =some o∧BF st q o o')
 keep:∀id,q id=true→id<st.length→id<st'.length
theorem BF.alive{q:Nat→Bool}{o o':aV}(h:BF st q o o')(ha:o'.alive):o.alive:=by
 cases h with
 |same=>exact ha
 |box=>simp[aV.alive]
 |win=>simp[aV.alive]
theorem AM.own{q:Nat→Bool}{st':St}(h:AM q st st'){ι:IM}{b:Nat}(ho:nV ι st' b):∃id o,q id=true∧st[id]? =some o∧o.alive∧ι id=some b:=by
 obtain⟨id,o,h1,h2,h3⟩:=ho
 rcases h.old id o h1 with rfl|⟨h4,o0,h5,h6⟩
 ·exact absurd rfl h2
 ·exact⟨id,o0,h4,h5,h6.alive h2,h3⟩
theorem AM.keeps{q:Nat→Bool}{st':St}(h:AM q st st'){ι:IM}{w:World}:bo (fun id=>q id=true) ι w st ι w st':=
 ⟨rfl,rfl,rfl,eo _,rfl,fun b _ hm=>⟨rfl,fun ho=>by
  obtain⟨id,o,_,h2,h3,h4⟩:=h.own ho
  exact hm ⟨id,o,h2,h3,h4⟩⟩,fun id hq hid=>⟨h.keep id hq hid,rfl⟩,fun _ c _ _ h=>⟨c,h,rfl⟩⟩
theorem bX.fzF{q:Nat→Bool}{st':St}{ι:IM}{w:World}(r:eu ι w st)(hs:AM q st st'){v:Value}{c c':CV}(h:bX ι w st v c)(hf:CF st q c c'):bX ι w st' v c':=by
 have k:=hs.keeps (ι:=ι) (w:=w)
 cases hf with
 |rfl _ hc=>exact h.mono k (q:=q) (fun _ h _=>h) hc
 |nl=>
  have:=bi (aN.one _ _ h)
  subst this
  exact .pv _ _ .nl
 |pt hid hq=>exact h.boxed r (fun b=>hs.own) (fun _ _=>k.pure) hid hq
 |fnp hid hq=>exact h.boxfn r (fun b=>hs.own) (fun _ _=>k.pure) hid hq
 | @sl id sz off len els els' ho hq hl he=>
  subst he
  have hlen:((els.drop off).take len).length=len:=by simp;omega
  cases h with
  |sn _ _ hid hb=>
   have:(els.drop 0).take 0=[]:=by simp
   rw[this]
   exact .pv _ _ .nl
  |sl _ _ _ _ b cap hid hb hcap hc=>
   rcases r.obj id _ ho with⟨e1,_⟩ |⟨b',c,ty,e1,e2,hcs,hsz,hcell⟩
   ·rw[hb]at e1;cases e1
   ·rw[hb]at e1;cases e1
    have hown:nV ι st b:=⟨id,_,ho,by simp[aV.alive],hb⟩
    have:=dr.ro (μ:=fK ι st') (w:=w) ⟨b,off*sz,none⟩ cap sz ((els.drop off).take len) (fun i j=>c.getD ((off+i)*sz+j) undef) (by rw[hlen];exact hcap)
     (fun e he=>hsz e (List.mem_of_mem_drop (List.mem_of_mem_take he)))
     (fun _=>⟨cf e2,fun hm=>by
      rcases hm with hm|hm
      ·exact r.dis b hown hm
      ·obtain⟨id',o',hq',h5,h6,h7⟩:=hs.own hm
       have:=r.inj id id' _ o' b ho h5 (by simp[aV.alive]) h6 hb h7
       subst this
       rw[hq]at hq';cases hq'⟩)
     (fun i e j p h1 h2=>by
      rw[List.getElem?_take]at h1
      split at h1
      ·rw[List.getElem?_drop]at h1
       obtain⟨u,a1,a2⟩:=hcell _ e j p h1 h2
       rw[add_lit,kE e2]
       rw[show off*sz+(i*sz+j)=(off+i)*sz+j by rw[Nat.add_mul];omega,a1]
       simp[a1]
      ·cases h1)
     (fun i e j p h1 h2=>by
      rw[List.getElem?_take]at h1
      split at h1
      ·rw[List.getElem?_drop]at h1
       obtain⟨u,a1,a2⟩:=hcell _ e j p h1 h2
       have:c.getD ((off+i)*sz+j) undef=u:=by simp[a1]
       rw[this]
       exact k.pure a2
      ·cases h1)
    rw[hlen]at this
    exact .pv _ _ this
theorem dv.fzF{q:Nat→Bool}{st':St}{ι:IM}{w:World}(r:eu ι w st)(hs:AM q st st'){cs cs':List CV}(hf:LF st q cs cs'):∀{vs:List Value},dv ι w st vs cs→dv ι w st' vs cs':=by
 induction hf with
 |nil=>exact fun h=>⟨h.1,fun j v c h1 h2=>by simp at h2⟩
 | @cons c c' l l' hc hk ih=>
  intro vs hL
  match vs,hL with
  |[],hL=>have:=hL.1;simp at this
  |u::us,hL=>
   have h0:=hL.2 0 u c rfl rfl
   have ht:=ih (vs:=us) ⟨by have:=hL.1;simpa using this,fun j v c h1 h2=>hL.2 (j+1) v c (by simpa using h1) (by simpa using h2)⟩
   refine⟨by simp[ht.1],fun j v c h1 h2=> ?_⟩
   cases j with
   |zero=>simp at h1 h2;subst h1;subst h2;exact h0.fzF r hs hc
   |succ j=>exact ht.2 j v c (by simpa using h1) (by simpa using h2)
theorem aN.fzF{q:Nat→Bool}{st':St}{ι:IM}{w:World}(r:eu ι w st)(hs:AM q st st'){v:Value}{a a':AV}(h:aN ι w st v a)(hf:AF st q a a'):aN ι w st' v a':=by
 induction hf generalizing v with
 |j a=>exact .j _
 |one hc=>exact .one _ _ ((jL h).fzF r hs hc)
 | @ag cs cs' hl=>
  obtain⟨vs,rfl,hL⟩:=BD h
  exact .ag _ _ (hL.fzF r hs hl)
 |tp0=>
  cases h with
  |tp vs _ hl h=>exact .tp _ _ hl (fun j v a h1 h2=>by simp at h2)
 | @tpc a a' l l' ha hk ih1 ih2=>
  cases h with
  |tp vs _ hl h=>
   match vs,hl with
   |[],hl=>simp at hl
   |u::us,hl=>
    have h0:=ih1 (h 0 u a rfl rfl)
    have ht:=ih2 (.tp us l (by simpa using hl) (fun j v c h1 h2=>h (j+1) v c (by simpa using h1) (by simpa using h2)))
    generalize hx:Value.tuple us.toArray=xv at ht
    generalize hy:AV.tp l'=ya at ht
    cases ht with
    |tp vs2 as2 hl2 h2=>
     cases hy
     have:us=vs2:=by
      have:=congrArg (fun v:Value=>match v with| .tuple a=>a.toList|_=>[]) hx
      simpa using this
     subst this
     refine .tp _ _ (by simp[hl2]) (fun j v c h1 h3=> ?_)
     cases j with
     |zero=>simp at h1 h3;subst h1;subst h3;exact h0
     |succ j=>exact h2 j v c (by simpa using h1) (by simpa using h3)
    |_=>cases hy
theorem eu.frz{q:Nat→Bool}{st':St}{ι:IM}{w:World}(r:eu ι w st)(h:AM q st st'):eu ι w st':=by
 have k:=h.keeps (ι:=ι) (w:=w)
 refine⟨fun id o ho=> ?_,r.amb,fun b ho=> ?_,fun id id' o o' b h1 h2 a1 a2 e1 e2=> ?_,r.glk k⟩
 ·rcases h.old id o ho with rfl|⟨hq,o0,ho',hbf⟩
  ·trivial
  ·have:=r.obj id o0 ho'
   cases hbf with
   |box hl=>
    obtain⟨b',vs,ty,e',hb',hL⟩:=this
    exact⟨b',vs,ty,e',hb',hL.fzF r h hl⟩
   |win hl=>
    obtain⟨b',c0,ty,e',hb',hn0,hL⟩:=this
    refine⟨b',c0,ty,e',hb',hn0,?_⟩
    rw[←hl.len]
    exact hL.fzF r h (hl.pre _ _)
   |same _ hb=>
    cases o with
    |dead=>trivial
    |box cells=>
     obtain⟨b',vs,ty,e',hb',hl⟩:=this
     exact⟨b',vs,ty,e',hb',hl.mono k (q:=q) (fun _ h _=>h) hb⟩
    |win wsz wi pre mid post=>
     obtain⟨b',c0,ty,e',hb',hn0,hl⟩:=this
     exact⟨b',c0,ty,e',hb',hn0,hl.mono k (q:=q) (fun _ h _=>h) (ny hb _ _)⟩
    |rel Rm ps=>
     obtain⟨b',ob,vs0,e',hb',hr0,hl0⟩:=this
     exact⟨b',ob,vs0,e',hb',hr0,hl0.map fun _ _ h0=>k.pure h0⟩
    |arr sz els=>
     rcases this with⟨e',he⟩ |⟨b',c,ty,e',hb',h1,h2,h3⟩
     ·exact .inl ⟨e',he⟩
     ·refine .inr ⟨b',c,ty,e',hb',h1,h2,fun i e' j cv a1 a2=> ?_⟩
      obtain⟨v,hv,hr⟩:=h3 i e' j cv a1 a2
      exact⟨v,hv,k.pure hr⟩
 ·obtain⟨id,o,_,h2,h3,h4⟩:=h.own ho
  exact r.dis b ⟨id,o,h2,h3,h4⟩
 ·rcases h.old id o h1 with rfl|⟨_,o0,h5,q1⟩
  ·exact absurd rfl a1
  rcases h.old id' o' h2 with rfl|⟨_,o1,h6,q2⟩
  ·exact absurd rfl a2
  exact r.inj id id' o0 o1 b h5 h6 (q1.alive a1) (q2.alive a2) e1 e2
theorem bW.frz{q:Nat→Bool}{fr':Fr}{st':St}(h:AM q st st')(hf:∀t,AF st q (lk fr t) (lk fr' t))(hq:∀id,nA n0 lz id=true→q id=true):bW n n0 lz fr st fr' st':=
 fun ι w a hR hF=>⟨ι,hR.frz h,⟨hF.defers,hF.size,fun t=>(hF.slot t).fzF hR h (hf t)⟩,h.keeps.weaken hq⟩
def NH(id:Nat)(els:List (List PV)):CV→CV
 | .sl i sz off len=>bif Nat.beq i id then .pv (.ro els)else .sl i sz off len
 |c=>c
def Ng(id:Nat)(els:List (List PV)):List CV→List CV
 |[]=>[]
 |c::l=>NH id els c::Ng id els l
def Pm(id:Nat)(els:List (List PV)):AV→AV
 | .one c=> .one (NH id els c)
 | .ag l=> .ag (Ng id els l)
 |a=>a
def Oi(id:Nat):CV→List (Nat×Nat×Nat)
 | .sl i sz off len=>bif Nat.beq i id then[(sz,off,len)]else[]
 |_=>[]
def LS(id:Nat):List CV→List (Nat×Nat×Nat)
 |[]=>[]
 |c::l=>Oi id c++LS id l
def Pd(id:Nat):AV→List (Nat×Nat×Nat)
 | .one c=>Oi id c
 | .ag l=>LS id l
 |_=>[]
def O6(id:Nat)(els:List (List PV)):aV→aV
 | .box l=> .box (Ng id els l)
 | .win sz i pre l post=> .win sz i pre (Ng id els l) post
 |b=>b
def Pq(id:Nat):aV→List (Nat×Nat×Nat)
 | .box l=>LS id l
 | .win _ _ _ l _=>LS id l
 |_=>[]
def DO(id:Nat)(els:List (List PV)):Nat→St→St
 |_,[]=>[]
 |i,b::l=>(bif Nat.beq i id then .dead else O6 id els b)::DO id els (i+1) l
def Jm(id:Nat):St→List (Nat×Nat×Nat)
 |[]=>[]
 |b::l=>Pq id b++Jm id l
def GA(id:Nat):Nat→Bool:=fun i=> !Nat.beq i id
def O4(id:Nat)(c:CV):Bool:=match c with
 | .sl .. =>true
 |c=>kQ (GA id) c
def MZ(id:Nat):List CV→Bool
 |[]=>true
 |c::l=>O4 id c&&MZ id l
def Pp(id:Nat):AV→Bool
 | .one c=>O4 id c
 | .ag l=>MZ id l
 |a=>cU (GA id) a
def Ph(id:Nat):aV→Bool
 | .box l=>MZ id l
 | .win _ _ _ l _=>MZ id l
 |_=>true
theorem Fc{E:lD α}{xs:List α}{id:Nat}{L:List (Nat×Nat×Nat)}(h:∀p∈L,p=(E.sz,0,xs.length)){st:St}(hid:st[id]? =some (.arr E.sz (E.els xs))){c:CV}(hc:∀p∈Oi id c,p∈L)(ho:O4 id c=true):CF st (GA id) c (NH id (E.els xs) c):=by
 cases c with
 |sl i sz off len=>
  cases hb:Nat.beq i id with
  |true=>
   have:=kW hb
   subst this
   have hp:=h _ (hc (sz,off,len) (by simp[Oi]))
   simp only[ku]at hp
   obtain⟨rfl,rfl,rfl⟩:=hp
   simp only[NH,hb,cond_true]
   exact kT E xs hid (by simp[GA]) rfl
  |false=>
   simp only[NH,hb,cond_false]
   exact .rfl _ (by simp[kQ,GA,hb])
 |_=>exact .rfl _ ho
theorem Av{E:lD α}{xs:List α}{id:Nat}{L:List (Nat×Nat×Nat)}(h:∀p∈L,p=(E.sz,0,xs.length)){st:St}(hid:st[id]? =some (.arr E.sz (E.els xs))):∀{l:List CV},(∀p∈LS id l,p∈L)→MZ id l=true→LF st (GA id) l (Ng id (E.els xs) l)
 |[],_,_=> .nil
 |c::l,hc,ho=>by
  simp only[MZ,fM]at ho
  exact .cons (Fc h hid (fun p hp=>hc p (by simp[LS,hp])) ho.1) (Av h hid (fun p hp=>hc p (by simp[LS,hp])) ho.2)
theorem MB{E:lD α}{xs:List α}{id:Nat}{L:List (Nat×Nat×Nat)}(h:∀p∈L,p=(E.sz,0,xs.length)){st:St}(hid:st[id]? =some (.arr E.sz (E.els xs))){a:AV}(hc:∀p∈Pd id a,p∈L)(ho:Pp id a=true):AF st (GA id) a (Pm id (E.els xs) a):=by
 cases a with
 |one c=>exact .one (Fc h hid hc ho)
 |ag l=>exact .ag (Av h hid hc ho)
 |_=>exact AF.same ho
theorem ym(id:Nat)(els:List (List PV)):∀(st:St) (i j:Nat),(DO id els i st)[j]? =(st[j]?).map fun b=>bif Nat.beq (i+j) id then aV.dead else O6 id els b
 |[],i,j=>by simp[DO]
 |b::l,i,0=>by simp[DO]
 |b::l,i,j+1=>by simp only[DO,List.getElem?_cons_succ];rw[ym id els l (i+1) j,show i+1+j=i+(j+1) by omega]
theorem xl{id:Nat}:∀{st:St} {j:Nat} {b:aV},st[j]? =some b→∀p∈Pq id b,p∈Jm id st
 |[],j,b,h,p,hp=>by simp at h
 |x::l,0,b,h,p,hp=>by simp at h;subst h;simp[Jm,hp]
 |x::l,j+1,b,h,p,hp=>by simp only[Jm,List.mem_append];exact .inr (xl (by simpa using h) p hp)
def Im(id:Nat)(els:List (List PV))(fr:Fr):List Nat→Fr
 |[]=>jb (GA id) fr
 |t::ts=>(t,Pm id els (lk fr t))::Im id els fr ts
def HR(id:Nat)(fr:Fr):List Nat→List (Nat×Nat×Nat)
 |[]=>[]
 |t::ts=>Pd id (lk fr t)++HR id fr ts
def Ji(id:Nat)(fr:Fr):List Nat→Bool
 |[]=>true
 |t::ts=>Pp id (lk fr t)&&Ji id fr ts
theorem E5{E:lD α}{xs:List α}{id:Nat}{L:List (Nat×Nat×Nat)}(h:∀p∈L,p=(E.sz,0,xs.length)){st:St}(hid:st[id]? =some (.arr E.sz (E.els xs))):∀{ts:List Nat},(∀p∈HR id fr ts,p∈L)→Ji id fr ts=true→∀t,AF st (GA id) (lk fr t) (lk (Im id (E.els xs) fr ts) t)
 |[],_,_,t=>by
  simp only[Im]
  rw[rd]
  cases hi:cU (GA id) (lk fr t)with
  |false=>exact .j _
  |true=>exact AF.same hi
 |u::ts,hc,ho,t=>by
  simp only[Ji,fM]at ho
  simp only[Im,lk]
  cases hb:Nat.beq u t with
  |true=>
   have:=kW hb
   subst this
   exact MB h hid (fun p hp=>hc p (by simp[HR,hp])) ho.1
  |false=>exact E5 h hid (fun p hp=>hc p (by simp[HR,hp])) ho.2 t
def E2(n0:Nat)(lz:List Nat)(id:Nat)(ts:List Nat)(s:SS):Option (Nat×List (List PV)×List (Nat×Nat×Nat)):=
 match s.st[id]? with
 |some (.arr sz els)=>bif !nA n0 lz id&&(Ji id s.fr ts&&s.st.all (Ph id))then some (sz,els,HR id s.fr ts++Jm id s.st)else none
 |_=>none
def xC(id:Nat)(els:List (List PV))(ts:List Nat)(s:SS):SS:=match s with
 |⟨ks,fr,st,kn⟩=>fF (Im id els fr ts) fun fr=>fS (DO id els 0 st) fun st=>⟨ks,fr,st,kn⟩
theorem H4{E:lD α}{xs:List α}{id:Nat}{ts:List Nat}{L:List (Nat×Nat×Nat)}(he:E2 n0 lz id ts s=some (E.sz,E.els xs,L))(hL:∀p∈L,p=(E.sz,0,xs.length)):
  bW n n0 lz s.fr s.st (xC id (E.els xs) ts s).fr (xC id (E.els xs) ts s).st:=by
 unfold E2 at he
 split at he
 ·rename_i sz els hid
  cases hb: !nA n0 lz id&&(Ji id s.fr ts&&s.st.all (Ph id))with
  |false=>simp[hb]at he
  |true=>
   simp only[hb,cond_true,cA,ku]at he
   obtain⟨rfl,rfl,rfl⟩:=he
   simp only[fM]at hb
   obtain⟨h1,h2,h3⟩:=hb
   obtain⟨ks,fr,st,kn⟩:=s
   simp only[xC,wb,mG]
   simp only at hid h2 h3 hL
   refine bW.frz (q:=GA id) ⟨fun i o' ho=> ?_,fun i hq hi=> ?_⟩ (E5 hL hid (fun p hp=>by simp[hp]) h2) (fun i hi=> ?_)
   ·rw[ym,Nat.zero_add,mE]at ho
    obtain⟨b,hb,e⟩:=ho
    cases hbi:Nat.beq i id with
    |true=>simp only[hbi,cond_true]at e;exact .inl e.symm
    |false=>
     simp only[hbi,cond_false]at e
     refine .inr ⟨by simp[GA,hbi],b,hb,?_⟩
     subst e
     have hok:=List.all_eq_true.1 h3 b (List.mem_of_getElem? hb)
     cases b with
     |box l=>exact .box (Av hL hid (fun p hp=>by simp only[List.mem_append];exact .inr (xl hb p hp)) hok)
     |win sz i pre l post=>exact .win (Av hL hid (fun p hp=>by simp only[List.mem_append];exact .inr (xl hb p hp)) hok)
     |_=>exact .same _ rfl
   ·have:(DO id (E.els xs) 0 st)[i]? ≠none:=by
     rw[ym]
     simp[hi]
    simp only[ne_eq,List.getElem?_eq_none_iff]at this
    omega
   ·have:i≠id:=by
     rintro rfl
     rw[hi]at h1;cases h1
    simp only[GA,vS this,Bool.not_false]
 ·cases he
theorem Jv{id:Nat}{els:List (List PV)}{ts:List Nat}:(xC id els ts s).ks=s.ks:=by
 obtain⟨ks,fr,st,kn⟩:=s
 simp only[xC,wb,mG]
def Ka{γ:Type}(y:γ)(l:List γ):List γ:=l.map fun _=>y
theorem JO{γ:Type}{y:γ}{l:List γ}(h:l=Ka y l):∀p∈l,p=y:=by
 intro p hp
 rw[h]at hp
 simp only[Ka,List.mem_map]at hp
 obtain⟨_,_,e⟩:=hp
 exact e.symm
def Fx(n0:Nat)(lz:List Nat)(id:Nat)(ts:List Nat)(s:SS):List (Nat×Nat×Nat):=match E2 n0 lz id ts s with
 |some (_,_,L)=>L
 |none=>[]
theorem wd(E:lD α)(xs:List α)(id:Nat)(ts:List Nat)(k:GG P n n0 lz an r Q T (xC id (E.els xs) ts (run P n an s)))(he:E2 n0 lz id ts (run P n an s)=some (E.sz,E.els xs,Ka (E.sz,0,xs.length) (Fx n0 lz id ts (run P n an s))):=by kernel_rfl)
  (ht:oZ (run P n an s).ks=true:=by kernel_rfl):GG P n n0 lz an r Q T s:=by
 refine⟨fun h=>bH (an:=an) ?_⟩
 have hL:=he
 have e:Fx n0 lz id ts (run P n an s)=Ka (E.sz,0,xs.length) (Fx n0 lz id ts (run P n an s)):=by
  conv=>lhs;unfold Fx;rw[he]
 have hs:=H4 (n:=n) (lz:=lz) he (by rw[←e];exact JO e)
 have k:=k h
 refine QK.sub ht hs ?_
 have:XK P n n0 lz Q (xC id (E.els xs) ts (run P n an s)):=k
 unfold XK at this
 rw[Jv]at this
 exact this
def pvs:List CV→List PV
 | .pv p::l=>p::pvs l
 |_=>[]
def Py(id:Nat)(ps:List PV):CV→CV
 | .pt i sz k off=>bif Nat.beq i id then .pv (.rp [ps] k off)else .pt i sz k off
 | .fn f [.pt i sz k off]=>bif Nat.beq i id then .fn f [.pv (.rp [ps] k off)]else .fn f [.pt i sz k off]
 |c=>c
def PM(id:Nat)(ps:List PV):AV→AV
 | .one c=> .one (Py id ps c)
 |a=>a
def PJ(id:Nat)(s:SS):List PV:=match s.st[id]? with
 |some (.box cells)=>pvs cells
 |_=>[]
inductive Cv where
 |li(t sz:Nat)
 |sf(t:Nat)
 |lb(bx j sz:Nat)
 |sb(bx j:Nat)
 |stl(bx j:Nat)
 |sw(a b:Nat)
 |dd(k:Nat)
def JI(n0:Nat)(lz:List Nat)(c:Cv)(fr:Fr)(st:St):Option (Fr×St):=match c with
 | .li t sz=>(match lk fr t with
  | .one (.pv (.s (.slice none 0 0)))=>some ((t,.one (.sl st.length sz 0 0))::fr,st++[.arr sz []])
  |_=>none)
 | .sf t=>some ((t,MY (lk fr t))::fr,st)
 | .lb bx j sz=>(match st[bx]? with
  |some (.box cells)=>(match cells[j]? with
   |some (.pv (.s (.slice none 0 0)))=>some (fr,(st++[aV.arr sz []]).set bx (.box (cells.set j (.sl st.length sz 0 0))))
   |_=>none)
  |_=>none)
 | .sb bx j=>(match st[bx]? with
  |some (.box cells)=>(match cells[j]? with
   |some (.pv (.s (.slice none 0 0)))=>some (fr,st.set bx (.box (cells.set j (.pv (.ro [])))))
   |_=>none)
  |_=>none)
 | .stl bx j=>(match st[bx]? with
  |some (.box cells)=>(match cells[j]? with
   |some (.sl id sz off len)=>some (fr,(st++[aV.dead]).set bx (.box (cells.set j (.sl st.length sz off len))))
   |_=>none)
  |_=>none)
 | .dd k=>some (fr,st++List.replicate k .dead)
 | .sw a b=>bif (Nat.ble (a+1) st.length&&Nat.ble (b+1) st.length)&& !(nA n0 lz a||nA n0 lz b)then some (Fg a b fr,s8 a b st)else none
theorem I6{c:Cv}{fr':Fr}{st':St}(h:JI n0 lz c fr st=some (fr',st')):bW n n0 lz fr st fr' st':=by
 unfold JI at h
 cases c with
 |li t sz=>
  simp only at h
  split at h
  ·rename_i hl
   simp only[cA,ku]at h
   obtain⟨rfl,rfl⟩:=h
   exact bW.list hl
  ·cases h
 |sf t=>
  simp only[cA,ku]at h
  obtain⟨rfl,rfl⟩:=h
  intro ι w a hR hF
  refine⟨ι,hR,⟨hF.defers,hF.size,fun t'=> ?_⟩,.refl⟩
  simp only[lk]
  cases hb:Nat.beq t t' with
  |true=>
   have:=kW hb
   subst this
   exact(hF.slot t).le (Jd _)
  |false=>exact hF.slot t'
 |lb bx j sz=>
  simp only at h
  split at h
  ·rename_i cells hb
   split at h
   ·rename_i hj
    simp only[cA,ku]at h
    obtain⟨rfl,rfl⟩:=h
    exact bW.listb bx j sz cells hb hj _ rfl
   ·cases h
  ·cases h
 |sb bx j=>
  simp only at h
  split at h
  ·rename_i cells hb
   split at h
   ·rename_i hj
    simp only[cA,ku]at h
    obtain⟨rfl,rfl⟩:=h
    exact bW.softb bx j cells hb hj _ rfl
   ·cases h
  ·cases h
 |stl bx j=>
  simp only at h
  split at h
  ·rename_i cells hb
   split at h
   ·rename_i id sz off len hj
    simp only[cA,ku]at h
    obtain⟨rfl,rfl⟩:=h
    exact bW.stale bx j id sz off len cells hb hj _ rfl
   ·cases h
  ·cases h
 |dd k=>
  simp only[cA,ku]at h
  obtain⟨rfl,rfl⟩:=h
  exact bW.dead k
 |sw a b=>
  simp only at h
  cases hb:(Nat.ble (a+1) st.length&&Nat.ble (b+1) st.length)&& !(nA n0 lz a||nA n0 lz b)with
  |false=>rw[hb]at h;cases h
  |true=>
   rw[hb]at h
   simp only[cond_true,cA,ku]at h
   obtain⟨rfl,rfl⟩:=h
   simp only[fM,Bool.not_eq_true']at hb
   exact bW.swap a b _ _ (by simp only[fM];exact hb.1) hb.2 rfl rfl
def MT(n0:Nat)(lz:List Nat)(c:Cv)(s:SS):SS:=match s with
 |⟨ks,fr,st,kn⟩=>match JI n0 lz c fr st with
  |some (fr',st')=>fF fr' fun fr'=>fS st' fun st'=>⟨ks,fr',st',kn⟩
  |none=>⟨ks,fr,st,kn⟩
theorem G2(c:Cv)(s:SS):(MT n0 lz c s).ks=s.ks∧bW n n0 lz s.fr s.st (MT n0 lz c s).fr (MT n0 lz c s).st:=by
 obtain⟨ks,fr,st,kn⟩:=s
 unfold MT
 simp only
 cases hd:JI n0 lz c fr st with
 |none=>exact⟨rfl,fun ι w a hR hF=>⟨ι,hR,hF,.refl⟩⟩
 |some p=>
  obtain⟨fr',st'⟩:=p
  simp only[wb,mG]
  exact⟨trivial,I6 hd⟩
theorem vq(c:Cv)(k:GG P n n0 lz an r Q T (MT n0 lz c (run P n an s)))(ht:oZ (run P n an s).ks=true:=by kernel_rfl):GG P n n0 lz an r Q T s:=by
 refine⟨fun h=>bH (an:=an) ?_⟩
 have k:=k h
 obtain⟨e,hs⟩:=G2 (n:=n) (n0:=n0) (lz:=lz) c (run P n an s)
 unfold XK at k
 rw[e]at k
 exact QK.sub ht hs k
theorem zy{K:KP n n0 lz}(c:Cv)(k:GG P n n0 lz an r (eS K.p Q1) T (MT n0 lz c (run P n an s)))(ht:(run P n an s).ks.isEmpty=true:=by kernel_rfl):GG P n n0 lz an r (eS K.p Q1) T s:=by
 refine⟨fun h=>bH (an:=an) ?_⟩
 have k:=k h
 obtain⟨e,hs⟩:=G2 (n:=n) (n0:=n0) (lz:=lz) c (run P n an s)
 have hk:(run P n an s).ks=[]:=List.isEmpty_iff.1 ht
 unfold XK at k⊢
 rw[e]at k
 rw[hk]at k⊢
 exact K.cl hs k
end
section
variable {P:Program} {n n0:Nat} {lz an:List Nat} {Q Q1:QT} {α β:Type} {T x y:Option β} {r:β} {s:SS} {fr:Fr} {st:St} {ops:Array Oper} {l:List Oper}
def Jy(X:List Nat)(ops:Array Oper)(o:Oper)(fr:Fr)(st:St)(mv:Option Nat):List Nat×List Nat:=match mv with
 |none=>(lX X (bO ops o fr),bO ops o fr++[])
 |some id=>(match st[id]? with
  |some .dead=>(lX X (id::bO ops o fr),(id::bO ops o fr)++[id+1000])
  |_=>(lX X (bO ops o fr),bO ops o fr++[id+1000]))
def DQ(st:St)(mv:Option Nat):Bool:=match mv with
 |none=>true
 |some id=>(match st[id]? with
  |some .dead=>false
  |_=>true)
def dN(o:Oper):Nat:=match o.dst with
 |some d=>d+1
 |none=>0
def MM(P:Program)(an X:List Nat)(ops:Array Oper)(o:Oper)(fr:Fr)(st:St)(hs:HS):Option rT:=
 match ev P (rg an o) o (cL ops o fr) (fb (aI (bO ops o fr)) 0 st) hs with
 |some out=>bif Nat.beq out.st.length st.length then
   bif (!rg an o&&Li (dN o) ops X o fr st (bO ops o fr) out)&&(C4 st (bO ops o fr)&&DQ st out.mv)then some ⟨out.av,eZ (aI (bO ops o fr)) 0 st out.st,out.ob,out.hs,out.mv⟩else none
  else(match GJ X st,out.st.drop st.length with
   |some id,[b]=>bif JF (dN o) ops X id o fr st (bO ops o fr) out b&&C4 st (id::bO ops o fr)then some ⟨nP (xJ st.length id) out.av,(eZ (aI (bO ops o fr)) 0 st (out.st.take st.length)).set id b,out.ob,out.hs,some id⟩else none
   |_,_=>none)
 |none=>none
theorem B3{o:Oper}(h:∀d,o.dst=some d→d<n):kK n o=true:=by
 unfold kK
 cases hd:o.dst with
 |none=>rfl
 |some d=>exact Nat.ble_eq_true_of_le (h d hd)
theorem NW{X T:List Nat}{o:Oper}{out:rT}(h:Li (dN o) ops X o fr st T out=true)(hd:kK n o=true):Li n ops X o fr st T out=true:=by
 unfold Li at h⊢
 simp only[fM]at h⊢
 exact⟨⟨⟨hd,h.1.1.2⟩,h.1.2⟩,h.2⟩
theorem NS{X T:List Nat}{id:Nat}{o:Oper}{out:rT}{b:aV}(h:JF (dN o) ops X id o fr st T out b=true)(hd:kK n o=true):JF n ops X id o fr st T out b=true:=by
 unfold JF at h⊢
 simp only[fM]at h⊢
 exact⟨⟨⟨⟨⟨hd,h.1.1.1.1.2⟩,h.1.1.1.2⟩,h.1.1.2⟩,h.1.2⟩,h.2⟩
theorem FN(m:Nat):(fun id=> !aI [m] id)=iB (some m):=by funext id;simp[aI,iB]
def Hx(P:Program)(an:List Nat)(hs:HS)(s:SS):Option rT:=match s.ks with
 | .g X ops (o::_) _::_=>(match Kp ops s.kn o (cL ops o s.fr)with
  |some true=>MM P an X ops o s.fr s.st hs
  |_=>none)
 | .o ops (o::_)::_=>(match Kp ops s.kn o s.fr with
  |some true=>ev P (rg an o) o s.fr s.st hs
  |_=>none)
 |_=>none
def yN{β:Type}(q:Nat→Bool):Fr→(Fr→β)→β
 |[],K=>K []
 |(d,av)::fr,K=>match cU q av with
  |true=>yN q fr fun fr=>K ((d,av)::fr)
  |false=>yN q fr fun fr=>K ((d,.j)::fr)
theorem vn{β:Type}(q:Nat→Bool):∀(fr:Fr) (K:Fr→β),yN q fr K=K (jb q fr)
 |[],K=>rfl
 |(d,av)::fr,K=>by
  simp only[yN,jb]
  cases cU q av<;>simp only[vn q fr,cond_true,cond_false]
def OV{β:Type}(mv:Option Nat)(fr:Fr)(K:Fr→β):β:=match mv with
 |none=>K fr
 |some m=>yN (iB (some m)) fr K
theorem Db{β:Type}(mv:Option Nat)(fr:Fr)(K:Fr→β):OV mv fr K=K (G1 mv fr):=by
 cases mv with
 |none=>rfl
 |some m=>exact vn _ _ _
def zJ(n:Nat)(av:AV)(st':St)(mv:Option Nat)(s:SS):SS:=match s with
 |⟨.o ops (o::l)::k,fr,_,kn⟩=>fA av fun av=>fS st' fun st'=>OV mv fr fun fr=>tV n o.dst av fr (fun fr'=>wc false o.dst kn fun kn'=>⟨.o ops l::k,fr',st',kn'⟩) s
 |⟨.g X ops (o::l) tw::k,fr,st,kn⟩=>fA av fun av=>fS st' fun st'=>OV mv fr fun fr'=>tV n o.dst av fr' (fun fr2=>wc false o.dst kn fun kn'=>⟨.g X ops l (tw++[Jy X ops o fr st mv])::k,fr2,st',kn'⟩) s
 |s=>s
theorem GK.ev{X:List Nat}{tw:List (List Nat×List Nat)}{R:Fr→St→Prop}{o:Oper}{hs:HS}{out:rT}{fr2:Fr}(hg:cI ops o (cL ops o fr)=some true)(he:MM P an X ops o fr st hs=some out)(hob:eH out.ob)(hp:qw n o.dst out.av (G1 out.mv fr)=some fr2)
  (k:GK P n X ops l (tw++[Jy X ops o fr st out.mv]) R fr2 out.st):GK P n X ops (o::l) tw R fr st:=by
 obtain⟨p1,p2⟩:=pV hp
 have hd:=B3 (n:=n) p1
 unfold MM at he
 split at he
 ·rename_i out0 hev
  cases hb:Nat.beq out0.st.length st.length with
  |true=>
   simp only[hb,cond_true]at he
   cases hc:(!rg an o&&Li (dN o) ops X o fr st (bO ops o fr) out0)&&(C4 st (bO ops o fr)&&DQ st out0.mv)with
   |false=>rw[hc]at he;cases he
   |true=>
    rw[hc]at he
    simp only[cond_true,cA]at he
    subst he
    simp only[fM,Bool.not_eq_true']at hc
    obtain⟨⟨c1,c2⟩,c3,c4⟩:=hc
    rw[c1]at hev
    have hw:=NW c2 hd
    have hE:M6 P n ops X (o::l) fr st hs=some (mJ o ⟨out0.av,bO ops o fr,bO ops o fr,out0.mv.toList,eZ (aI (bO ops o fr)) 0 st out0.st⟩ fr,bO ops o fr,out0.mv.toList,eZ (aI (bO ops o fr)) 0 st out0.st,out0.ob):=by
     unfold M6
     simp only[wW,hg,hev,hw,cond_true]
    have hn:mJ o ⟨out0.av,bO ops o fr,bO ops o fr,out0.mv.toList,eZ (aI (bO ops o fr)) 0 st out0.st⟩ fr=fr2:=by
     unfold mJ
     cases hm:out0.mv with
     |none=>rw[hm]at p2;simp only[Option.toList,G1]at p2⊢;rw[n8];exact p2
     |some m=>rw[hm]at p2;simp only[Option.toList,G1]at p2⊢;rw[FN];exact p2
    rw[hn]at hE
    have ht:Jy X ops o fr st out0.mv=(lX X (bO ops o fr),bO ops o fr++out0.mv.toList.map (·+1000)):=by
     unfold Jy
     unfold DQ at c4
     cases hm:out0.mv with
     |none=>rfl
     |some m=>
      rw[hm]at c4
      simp only at c4⊢
      split
      ·rename_i hd';rw[hd']at c4;cases c4
      ·rfl
    refine GK.of (tw1:=Jy X ops o fr st out0.mv) (fun h2=> ?_) k
    rw[ht]
    exact GX.wr hs fr2 _ _ _ _ hE hob c3 h2
  |false=>
   simp only[hb,cond_false]at he
   split at he
   ·rename_i id b hf pS
    cases hc:JF (dN o) ops X id o fr st (bO ops o fr) out0 b&&C4 st (id::bO ops o fr)with
    |false=>rw[hc]at he;cases he
    |true=>
     rw[hc]at he
     simp only[cond_true,cA]at he
     subst he
     rw[fM]at hc
     have hw:=NS hc.1 hd
     have hdd:st[id]? =some .dead:=by
      have h:=hc.1
      unfold JF at h
      simp only[fM]at h
      exact yR h.1.2.1.1.1.1
     have hE:M1 P n ops X (rg an o) id (o::l) fr st hs=some (mJ o ⟨nP (xJ st.length id) out0.av,id::bO ops o fr,id::bO ops o fr,[id],(eZ (aI (bO ops o fr)) 0 st (out0.st.take st.length)).set id b⟩ fr,id::bO ops o fr,(eZ (aI (bO ops o fr)) 0 st (out0.st.take st.length)).set id b,out0.ob):=by
      unfold M1
      simp only[wW,hg,hev,pS,hw,cond_true]
     have hn:mJ o ⟨nP (xJ st.length id) out0.av,id::bO ops o fr,id::bO ops o fr,[id],(eZ (aI (bO ops o fr)) 0 st (out0.st.take st.length)).set id b⟩ fr=fr2:=by
      unfold mJ
      simp only[G1]at p2
      rw[←p2]
      simp only
      rw[FN]
     rw[hn]at hE
     have ht:Jy X ops o fr st (some id)=(lX X (id::bO ops o fr),(id::bO ops o fr)++[id+1000]):=by
      unfold Jy
      simp only[hdd]
     refine GK.of (tw1:=Jy X ops o fr st (some id)) (fun h2=> ?_) k
     rw[ht]
     exact GX.new _ id hs fr2 _ _ _ hE hob hc.2 h2
   ·cases he
 ·cases he
theorem BY{out:rT}{hs:HS}(he:Hx P an hs s=some out)(hob:eH out.ob)(hm:uf n0 lz out.mv=true)(k:XK P n n0 lz Q (zJ n out.av out.st out.mv s)):XK P n n0 lz Q s:=by
 obtain⟨ks,fr,st,kn⟩:=s
 unfold Hx at he
 split at he
 ·rename_i X ops o l tw k' hk
  simp only at hk
  subst hk
  split at he
  ·rename_i hg
   have hg:=qp hg
   simp only[zJ,rx,mG,Db]at k
   rcases lg (n:=n) o.dst out.av (G1 out.mv fr) (fun fr'=>wc false o.dst kn fun kn'=>(⟨.g X ops l (tw++[Jy X ops o fr st out.mv])::k',fr',out.st,kn'⟩:SS)) ⟨.g X ops (o::l) tw::k',fr,st,kn⟩with⟨fr',hp,e⟩ |e
   ·obtain⟨kn',ek⟩:=mU false o.dst kn fun kn'=>(⟨.g X ops l (tw++[Jy X ops o fr st out.mv])::k',fr',out.st,kn'⟩:SS)
    rw[e,ek]at k
    exact GK.ev hg he hob hp k
   ·rw[e]at k;exact k
  ·cases he
 ·rename_i ops o l k' hk
  simp only at hk
  subst hk
  split at he
  ·rename_i hg
   have hg:=qp hg
   simp only[zJ,rx,mG,Db]at k
   rcases lg (n:=n) o.dst out.av (G1 out.mv fr) (fun fr'=>wc false o.dst kn fun kn'=>(⟨.o ops l::k',fr',out.st,kn'⟩:SS)) ⟨.o ops (o::l)::k',fr,st,kn⟩with⟨fr',hp,e⟩ |e
   ·obtain⟨kn',ek⟩:=mU false o.dst kn fun kn'=>(⟨.o ops l::k',fr',out.st,kn'⟩:SS)
    rw[e,ek]at k
    have he:ev P (rg an o) o fr st hs=some out:=he
    have hg:cI ops o fr=some true:=hg
    exact XO.op1 hg he hob hm hp k
   ·rw[e]at k;exact k
  ·cases he
 ·cases he
theorem Ly{hs hs':HS}{av av':AV}{st1 st':St}{ob:List Prop}{mv:Option Nat}(he:Hx P an hs (run P n an s)=some ⟨av,st1,ob,hs',mv⟩)(hob:eH ob)(hm:uf n0 lz mv=true)(e1:av=av')(e2:st1=st')
  (k:GG P n n0 lz an r Q T (zJ n av' st' mv (run P n an s))):GG P n n0 lz an r Q T s:=by
 subst e1;subst e2
 exact⟨fun h=>bH (an:=an) (BY he hob hm (k h))⟩
def GQ(s:SS):Nat:=match s.ks with
 | .g X _ _ _::_=>(GJ X s.st).getD 0
 |_=>s.st.length
def Lf(s:SS)(b:aV):St:=match s.ks with
 | .g X _ _ _::_=>s.st.set ((GJ X s.st).getD 0) b
 |_=>s.st++[b]
def Do(s:SS):Option Nat:=match s.ks with
 | .g X _ _ _::_=>some ((GJ X s.st).getD 0)
 |_=>none
theorem Fs(E:lD α)(id:Nat)(xs:List α){ys:List α}{N L:Nat}(k:GG P n n0 lz an r Q x (zJ n (.one (.sl id E.sz 0 (ys++xs).length)) ((run P n an s).st.set id (.arr E.sz (E.els (ys++xs)))) (some id) (run P n an s)))(hL:L=ys.length:=by rfl)(hN:N=xs.length:=by rfl)
  (he:Hx P an [] (run P n an s)=some ⟨.one (.sl id E.sz 0 (L+(E.els xs).length)),(run P n an s).st.set id (.arr E.sz (E.els ys++E.els xs)),[aT E.sz (E.els xs),L=(E.els ys).length,L+(E.els xs).length≤4294967296],[],some id⟩:=by kernel_rfl)
  (hm:uf n0 lz (some id)=true:=by kernel_rfl):GG P n n0 lz an r Q (eh (ys.length+N≤4294967296) x) s:=by
 subst hL;subst hN
 refine⟨fun h=> ?_⟩
 obtain⟨hp,h⟩:=iq h
 exact Ly he ⟨E.ok _,(E.len _).symm,by rw[E.len];exact hp,trivial⟩ hm (by rw[E.len,List.length_append]) (by rw[E.app2]) k h
theorem Ld(E:lD α)(id:Nat){ys:List α}{i:Int}{L:Nat}{f:α→Option β}(k:∀e,at? ys i=some e→GG P n n0 lz an r Q (f e) (xR n (.one (.pt id E.sz (0+i.toNat) 0)) (run P n an s)))(hL:L=ys.length:=by rfl)
  (he:GU P (run P n an s)=some (.one (.pt id E.sz (0+i.toNat) 0),[0≤i∧i<((L:Nat):Int)]):=by kernel_rfl):GG P n n0 lz an r Q (aK (at? ys i) f) s:=by
 subst hL
 refine⟨fun h=> ?_⟩
 obtain⟨e,ha,h⟩:=jV h
 exact uV _ _ (ob:=[_]) ⟨lD.inb' ha,trivial⟩ rfl (k e ha) he h
theorem NC(E:lD α)(id:Nat){ys:List α}{i:Int}{e:α}{L:Nat}(ha:at? ys i=some e)(k:GG P n n0 lz an r Q T (xR n (.one (.pt id E.sz (0+i.toNat) 0)) (run P n an s)))(hL:L=ys.length:=by rfl)
  (he:GU P (run P n an s)=some (.one (.pt id E.sz (0+i.toNat) 0),[0≤i∧i<((L:Nat):Int)]):=by kernel_rfl):GG P n n0 lz an r Q T s:=by
 subst hL
 exact uV _ _ (ob:=[_]) ⟨lD.inb' ha,trivial⟩ rfl k he
def Gr(P:Program)(hs:HS)(s:SS):Option (AV×List Prop):=
 match ta s with
 |some (o,f)=>bif jj o.op then(match ev P false o f (yu s) hs with
  |some out=>some (out.av,out.ob)
  |none=>none)else none
 |none=>none
theorem FK{hs:HS}{av:AV}{ob:List Prop}(he:Gr P hs s=some (av,ob))(hob:eH ob):∃o f,ta s=some (o,f)∧Yd P n (yu s) o f av:=by
 unfold Gr at he
 split at he
 ·rename_i o f hd
  cases hq:jj o.op with
  |false=>simp[hq]at he
  |true=>
   simp only[hq,cond_true]at he
   split at he
   ·rename_i out hev
    simp only[cA,ku]at he
    obtain⟨rfl,rfl⟩:=he
    exact⟨o,f,hd,Yd.ev hq hev hob⟩
   ·cases he
 ·cases he
def M7(o:Option (AV×List Prop)):AV:=match o with
 |some (av,_)=>av
 |none=> .j
theorem Jz(E:lD α){ys:List α}{i:Int}{e:α}(ha:at? ys i=some e)(k:GG P n n0 lz an r Q T (xR n (M7 (Gr P [E.cells e] (run P n an s))) (run P n an s)))
  (he:Gr P [E.cells e] (run P n an s)=some (M7 (Gr P [E.cells e] (run P n an s)),[(E.els ys)[0+i.toNat]? =some (E.cells e)]):=by kernel_rfl):GG P n n0 lz an r Q T s:=by
 refine⟨fun h=> ?_⟩
 obtain⟨o,g,h1,h2⟩:=FK (n:=n) he ⟨E.get0 ha,trivial⟩
 exact bH (an:=an) (mi h1 h2 (k h))
theorem OA(E:lD α)(id:Nat){ys:List α}{i:Int}{e:α}(ha:at? ys i=some e)(v:α)(k:GG P n n0 lz an r Q T (zJ n .j ((run P n an s).st.set id (.arr E.sz (E.els (ys.set i.toNat v)))) none (run P n an s)))
  (he:Hx P an [E.cells e] (run P n an s)=some ⟨.j,(run P n an s).st.set id (.arr E.sz ((E.els ys).set (0+i.toNat) (E.cells v))),[(E.els ys)[0+i.toNat]? =some (E.cells e)],[],none⟩:=by kernel_rfl):GG P n n0 lz an r Q T s:=
 Ly he ⟨E.get0 ha,trivial⟩ rfl rfl (by rw[E.set0]) k
theorem PA(E:lD α)(v:α){N M:Int}(k:GG P n n0 lz an r Q x (zJ n (.one (.sl (GQ (run P n an s)) E.sz 0 N.toNat)) (Lf (run P n an s) (.arr E.sz (E.els (List.replicate N.toNat v)))) (Do (run P n an s)) (run P n an s)))
  (he:Hx P an [] (run P n an s)=some ⟨.one (.sl (GQ (run P n an s)) E.sz 0 N.toNat),Lf (run P n an s) (.arr E.sz (List.replicate N.toNat (E.cells v))),[0≤N,N≤M,M≤4294967296],[],Do (run P n an s)⟩:=by kernel_rfl)(hm:uf n0 lz (Do (run P n an s))=true:=by kernel_rfl):GG P n n0 lz an r Q (eh (0≤N∧N≤M∧M≤4294967296) x) s:=by
 refine⟨fun h=> ?_⟩
 obtain⟨⟨h1,h2,h3⟩,h⟩:=iq h
 exact Ly he ⟨h1,h2,h3,trivial⟩ hm rfl (by rw[E.rep]) k h
theorem uW(d:Nat)(E:lD α)(xs:List α)(k:GG P n n0 lz an r Q T (xR n (vl E xs) (qU P n an d s)))(he:GU P (qU P n an d s)=some (.one (.pv (.ro (xs.map E.cells))),[]):=by kernel_rfl):GG P n n0 lz an r Q T s:=by
 refine⟨fun h=> ?_⟩
 rw[←E.hels]at he
 obtain⟨o,g,h1,h2⟩:=HB (n:=n) he trivial
 exact qB (mi h1 h2 (k h))
theorem PF(d:Nat)(E:lD α)(xs:List α)(k:GG P n n0 lz an r Q T (zJ n (.one (.sl (GQ (qU P n an d s)) E.sz 0 xs.length)) (Lf (qU P n an d s) (.arr E.sz (E.els xs))) (Do (qU P n an d s)) (qU P n an d s)))
  (he:Hx P an [] (qU P n an d s)=some ⟨.one (.sl (GQ (qU P n an d s)) E.sz 0 xs.length),Lf (qU P n an d s) (.arr E.sz (xs.map E.cells)),[],[],Do (qU P n an d s)⟩:=by kernel_rfl)(hm:uf n0 lz (Do (qU P n an d s))=true:=by kernel_rfl):GG P n n0 lz an r Q T s:=by
 refine⟨fun h=>qB (an:=an) (BY he trivial hm ?_)⟩
 have k:=k h
 rw[E.hels]at k
 exact k
def CX(P:Program)(f:Nat)(args:List AV)(sc:St)(lo:List Nat){β:Type}(T:Option β)(rv:β→AV)(nb:β→St):Prop:=∀r,T=some r→MX P f args sc lo (rv r) (nb r)
theorem XO.calxS(g:Nat)(avs avs0:List AV)(sc sc':St)(lo:List Nat)(r:AV)(rs:List Nat)(L:List Nat)(fr':Fr)(st':St)(hc:iX P n ops l fr=some (g,avs0))(b:Bool)(hs:avs0.map (M0 b)=avs.map (nP (ia rs st.length)))(h:MX P g avs sc lo r sc')(hb:BX st.length rs sc sc' avs=true)
  (hL:lo.map (ia rs st.length)=L)(hbx:rW rs L 0 st=true)(hfx:xP n0 lz L=true)
  (hst:rs.map (fun x=>st[x]?)=sc.map (fun o=>some (my (ia rs st.length) o)))(hst':en st rs ((sc'.take sc.length).map (my (ia rs st.length)))++(sc'.drop sc.length).map (my (ia rs st.length))=st')(hput:rM n l (nP (ia rs st.length) r) (jb (fun id=> !aI L id) fr)=some fr')
  (hk:XO P n n0 lz ops (l.drop 1) Q fr' st'):XO P n n0 lz ops l Q fr st:=by
 cases l with
 |nil=>simp[iX]at hc
 |cons o rest=>
  simp only[iX]at hc
  split at hc
  ·rename_i hg
   intro ι w a hR hF
   obtain⟨vs,hrun,hA⟩:=lB hc hF
   have hA:=hA.soft b
   rw[hs]at hA
   have hw:=cF hg hF
   refine wpList_step fun K hK=> ?_
   rw[if_pos hw]
   simp only[Oper.wp,hrun,Oper.upon]
   refine(h.use' rs hb hst (by rw[hL];exact fun id o ho hn=>rz hbx id o ho (by rwa [Nat.zero_add])) hR hA).mono ?_
   rintro e w' ⟨v,ι',rfl,hR',hv,k⟩
   rw[hst',hL]at k
   rw[hst']at hR' hv
   refine hK _ _ (di (fun e a w h=>h.trans (k.weaken (fun id hf=> ?_))) (hk ι' w' _ hR' (gP hput (hF.keep k (q:=fun id=> !aI L id) (fun id hq _ hm=>by rw[d9.2 hm]at hq;cases hq)) hv)))
   intro hm
   have:=List.all_eq_true.1 hfx id hm
   have hf':nA n0 lz id=true:=hf
   rw[hf']at this
   cases this
  ·simp at hc
def Pi(n:Nat)(rs lo:List Nat)(len:Nat)(av:AV)(sc':St)(s:SS):SS:=match s with
 |⟨.o ops (o::l)::k,fr,st,kn⟩=>fA (nP (ia rs st.length) av) fun av=>fS (en st rs ((sc'.take len).map (my (ia rs st.length)))++(sc'.drop len).map (my (ia rs st.length))) fun st'=>yN (fun id=> !aI (lo.map (ia rs st.length)) id) fr fun fr=>tV n o.dst av fr (fun fr'=>wc false o.dst kn fun kn'=>⟨.o ops l::k,fr',st',kn'⟩) s
 |s=>s
theorem OD(b:Bool)(rs:List Nat){o:Option α}{f:α→Option β}{g:Nat}{avs:List AV}{sc:St}{lo:List Nat}{rv:α→AV}{nb:α→St}(c:CX P g avs sc lo o rv nb)
  (k:∀v,o=some v→GG P n n0 lz an r Q (f v) (Pi n rs lo sc.length (rv v) (nb v) (run P n an s)))
  (h1:cQ b P n (run P n an s)=some (g,avs.map (nP (ia rs (run P n an s).st.length))):=by kernel_rfl)(h2:∀v,BX (run P n an s).st.length rs sc (nb v) avs=true:=by intro v;kernel_rfl)
  (h4:(rW rs (lo.map (ia rs (run P n an s).st.length)) 0 (run P n an s).st&&xP n0 lz (lo.map (ia rs (run P n an s).st.length)))=true:=by kernel_rfl)
  (h3:rs.map (fun x=>(run P n an s).st[x]?)=sc.map (fun o=>some (my (ia rs (run P n an s).st.length) o)):=by kernel_rfl):GG P n n0 lz an r Q (aK o f) s:=by
 refine⟨fun h=> ?_⟩
 obtain⟨v,ho,h⟩:=jV h
 refine bH (an:=an) ?_
 have k:=k v ho h
 have h2:=h2 v
 generalize run P n an s=s' at*
 obtain⟨ks,fr,st,kn⟩:=s'
 simp only[fM]at h4
 unfold cQ at h1
 split at h1
 ·rename_i ops l k' hk
  simp only at hk
  subst hk
  split at h1
  ·rename_i g' avs' hc
   simp only[cA,ku]at h1
   obtain⟨rfl,h1⟩:=h1
   cases l with
   |nil=>simp[iX]at hc
   |cons o' l=>
    simp only[Pi,rx,mG,vn]at k
    rcases lg (n:=n) o'.dst (nP (ia rs st.length) (rv v)) (jb (fun id=> !aI (lo.map (ia rs st.length)) id) fr) (fun fr'=>wc false o'.dst kn fun kn'=>(⟨.o ops l::k',fr',en st rs (((nb v).take sc.length).map (my (ia rs st.length)))++((nb v).drop sc.length).map (my (ia rs st.length)),kn'⟩:SS)) ⟨.o ops (o'::l)::k',fr,st,kn⟩with⟨fr',hp,e⟩ |e
    ·obtain⟨kn',ek⟩:=mU false o'.dst kn fun kn'=>(⟨.o ops l::k',fr',en st rs (((nb v).take sc.length).map (my (ia rs st.length)))++((nb v).drop sc.length).map (my (ia rs st.length)),kn'⟩:SS)
     rw[e,ek]at k
     exact XO.calxS _ _ _ _ _ _ _ _ _ fr' _ hc b h1 (c v ho) h2 rfl h4.1 h4.2 h3 rfl hp k
    ·rw[e]at k;exact k
  ·cases h1
 ·cases h1
def cG(P:Program)(n:Nat)(s:SS):Option (Nat×List AV):=match s.ks with
 | .g _ ops l _::_=>ld P n ops l s.fr
 |_=>none
def E8(rs:List Nat)(ops:Array Oper)(o:Oper)(fr:Fr):List Nat:=bO ops o fr++rs
def Pl(rs L:List Nat)(av:AV)(st':St)(s:SS):Bool:=match s.ks with
 | .g X ops (o::_) _::_=>((C4 s.st (E8 rs ops o s.fr)&&qX ops o s.fr (E8 rs ops o s.fr))&&(cU (aI (E8 rs ops o s.fr)) av&&rs.all (aI (E8 rs ops o s.fr))))&&(dq (fun i=> !aI X i) st'&&(L.all (aI X)&&L.all (aI (E8 rs ops o s.fr))))
 |_=>false
def Pj(n:Nat)(rs L:List Nat)(av:AV)(st':St)(s:SS):SS:=match s with
 |⟨.g X ops (o::l) tw::k,fr,st,kn⟩=>fA av fun av=>fS st' fun st'=>yN (fun id=> !aI L id) fr fun fr'=>tV n o.dst av fr' (fun fr2=>wc false o.dst kn fun kn'=>⟨.g X ops l (tw++[(lX X (E8 rs ops o fr),E8 rs ops o fr++L.map (·+1000))])::k,fr2,st',kn'⟩) s
 |s=>s
theorem N8(rs:List Nat){o:Option α}{f:α→Option β}{g:Nat}{avs:List AV}{sc:St}{rv:α→AV}{nb:α→St}(c:CM P g avs sc o rv nb)
  (k:∀v,o=some v→GG P n n0 lz an r Q (f v) (Pj n rs [] (nP (ia rs (run P n an s).st.length) (rv v)) (en (run P n an s).st rs ((nb v).map (my (ia rs (run P n an s).st.length)))) (run P n an s)))
  (h1:cG P n (run P n an s)=some (g,avs.map (nP (ia rs (run P n an s).st.length))):=by kernel_rfl)
  (h2:∀v,(yv (run P n an s).st.length rs sc (nb v) avs&&Pl rs [] (nP (ia rs (run P n an s).st.length) (rv v)) (en (run P n an s).st rs ((nb v).map (my (ia rs (run P n an s).st.length)))) (run P n an s))=true:=by intro v;kernel_rfl)
  (h3:rs.map (fun x=>(run P n an s).st[x]?)=sc.map (fun o=>some (my (ia rs (run P n an s).st.length) o)):=by kernel_rfl):GG P n n0 lz an r Q (aK o f) s:=by
 refine⟨fun h=> ?_⟩
 obtain⟨v,ho,h⟩:=jV h
 refine bH (an:=an) ?_
 have k:=k v ho h
 have h2:=h2 v
 generalize run P n an s=s' at*
 obtain⟨ks,fr,st,kn⟩:=s'
 rw[fM]at h2
 obtain⟨h2,h4⟩:=h2
 unfold Pl at h4
 split at h4
 ·rename_i X ops o' l tw k' hk
  simp only at hk
  subst hk
  simp only[fM]at h4
  obtain⟨⟨⟨q1,q2⟩,q3,q4⟩,q5,_⟩:=h4
  simp only[Pj,rx,mG,vn]at k
  rw[n8]at k
  rcases lg (n:=n) o'.dst (nP (ia rs st.length) (rv v)) fr (fun fr'=>wc false o'.dst kn fun kn'=>(⟨.g X ops l (tw++[(lX X (E8 rs ops o' fr),E8 rs ops o' fr++([]:List Nat).map (·+1000))])::k',fr',en st rs ((nb v).map (my (ia rs st.length))),kn'⟩:SS)) ⟨.g X ops (o'::l) tw::k',fr,st,kn⟩with⟨fr',hp,e⟩ |e
  ·obtain⟨kn',ek⟩:=mU false o'.dst kn fun kn'=>(⟨.g X ops l (tw++[(lX X (E8 rs ops o' fr),E8 rs ops o' fr++([]:List Nat).map (·+1000))])::k',fr',en st rs ((nb v).map (my (ia rs st.length))),kn'⟩:SS)
   rw[e,ek]at k
   obtain⟨p1,p2⟩:=pV hp
   refine GK.of (tw1:=(lX X (E8 rs ops o' fr),E8 rs ops o' fr++[])) (fun hg=> ?_) k
   exact GY.calm g avs sc (nb v) (rv v) rs fr' (E8 rs ops o' fr) _ rfl q1 h1 (c v ho) h2 h3 rfl (by simp only[wW,fM];exact⟨⟨q2,B3 p1⟩,q3,q4⟩) q5 (by simp only[wW];rw[n8];exact p2) hg
  ·rw[e]at k;exact k
 ·cases h4
def Pu(id:Nat)(m:Nat):CV→CV
 | .sl i sz off len=>bif Nat.beq i id then .sl i sz off m else .sl i sz off len
 |c=>c
def PE(id m:Nat):AV→AV
 | .one c=> .one (Pu id m c)
 |a=>a
def N2(id m:Nat):aV→aV
 | .box cs=> .box (cs.map (Pu id m))
 |b=>b
def Oq(id m:Nat)(fr:Fr):Fr:=fr.map fun x=>(x.1,PE id m x.2)
def Oc(id m:Nat)(s:SS):SS:=match s with
 |⟨ks,fr,st,kn⟩=>fF (Oq id m fr) fun fr=>fS (st.map (N2 id m)) fun st=>⟨ks,fr,st,kn⟩
theorem MU(id:Nat){L m:Nat}(h:L=m)(k:GG P n n0 lz an r Q T (Oc id m (run P n an s)))(he:(run P n an s).fr=Oq id L (run P n an s).fr:=by kernel_rfl)(he':(run P n an s).st=(run P n an s).st.map (N2 id L):=by kernel_rfl):GG P n n0 lz an r Q T s:=by
 subst h
 refine⟨fun h=>bH (an:=an) ?_⟩
 have k:=k.go h
 generalize run P n an s=s' at*
 obtain⟨ks,fr,st,kn⟩:=s'
 simp only[Oc,wb,mG]at k he he'
 rw[←he,←he']at k
 exact k
theorem AU(id:Nat){L m:Nat}(k:GG P n n0 lz an r Q x (Oc id m (run P n an s)))(he:(run P n an s).fr=Oq id L (run P n an s).fr:=by kernel_rfl)(he':(run P n an s).st=(run P n an s).st.map (N2 id L):=by kernel_rfl):GG P n n0 lz an r Q (eh (m=L) x) s:=by
 refine⟨fun h=> ?_⟩
 obtain⟨hp,h⟩:=iq h
 exact(MU id hp.symm k he he').go h
theorem CN(id:Nat){L m:Nat}(k:GG P n n0 lz an r Q x (Oc id m (run P n an s)))(he:(run P n an s).fr=Oq id L (run P n an s).fr:=by kernel_rfl)(he':(run P n an s).st=(run P n an s).st.map (N2 id L):=by kernel_rfl):GG P n n0 lz an r Q (eh (L=m) x) s:=by
 refine⟨fun h=> ?_⟩
 obtain⟨hp,h⟩:=iq h
 exact(MU id hp k he he').go h
theorem Yd.ext{st:St}{o:Oper}{f:Fr}{g:Nat}{vs us:List Value}(hc:ye P o f=some (g,vs))(h:Gq P g vs (.tuple us.toArray))(hp:us.all oo=true):Yd P n st o f (JC us):=by
 intro ι w a hR hF K Q hK
 have hrun:=Ab hc h hF (w:=w)
 simp only[Oper.wp,hrun,Oper.upon]
 exact hK _ w ι (wO hp) hR .refl
def N9(P:Program)(s:SS):Option (Nat×List Value):=match ta s with
 |some (o,f)=>ye P o f
 |none=>none
theorem NF{p:Prop}[Decidable p]{g:Nat}{vs us:List Value}(h:p→Gq P g vs (.tuple us.toArray))(hp:us.all oo=true)(k:GG P n n0 lz an r Q x (xR n (JC us) (run P n an s)))(he:N9 P (run P n an s)=some (g,vs)):GG P n n0 lz an r Q (eh p x) s:=by
 refine⟨fun h'=> ?_⟩
 obtain⟨hp',h'⟩:=iq h'
 unfold N9 at he
 split at he
 ·rename_i o f hd
  exact bH (an:=an) (mi hd (Yd.ext he (h hp') hp) (k h'))
 ·cases he
theorem Cf{a b c:Int}(g:Nat)(fn:Func)(k:GG P n n0 lz an r Q x (xR n (.tp [.one (.pv (.s (.int .u64 ((a+b+c)%18446744073709551616)))),.one (.pv (.s (.int .u64 ((a+b+c)/18446744073709551616))))]) (run P n an s)))
  (he:N9 P (run P n an s)=some (g,[.int .u64 a,.int .u64 b,.int .u64 c]):=by kernel_rfl)(hf:P.funcs[g]? =some fn:=by kernel_rfl)
  (hx:((!(fn.name== "runtime.NumGoroutine")&&fn.body.isNone)&&(Extern.findNext fn).isNone)=true:=by kernel_rfl)(hx':Extern.find fn=some add64Entry:=by kernel_rfl):GG P n n0 lz an r Q (eh (0≤a∧0≤b∧0≤c∧c≤1) x) s:=by
 simp only[fM,Bool.not_eq_true',Option.isNone_iff_eq_none]at hx
 exact NF (fun h=>Gs hf hx.1.1 (by rw[hx.1.2];rfl) hx.2 hx' h.1 h.2.1 h.2.2.1 h.2.2.2) rfl k he
theorem KB{a b c:Int}(g:Nat)(fn:Func)(k:GG P n n0 lz an r Q x (xR n (.tp [.one (.pv (.s (.int .u64 ((a-b-c)%18446744073709551616)))),.one (.pv (.s (.int .u64 (if a<b+c then(1:Int)else(0:Int)))))]) (run P n an s)))
  (he:N9 P (run P n an s)=some (g,[.int .u64 a,.int .u64 b,.int .u64 c]):=by kernel_rfl)(hf:P.funcs[g]? =some fn:=by kernel_rfl)
  (hx:((!(fn.name== "runtime.NumGoroutine")&&fn.body.isNone)&&(Extern.findNext fn).isNone)=true:=by kernel_rfl)(hx':Extern.find fn=some DN:=by kernel_rfl):GG P n n0 lz an r Q (eh (0≤a∧0≤b∧b<18446744073709551616∧0≤c∧c≤1) x) s:=by
 simp only[fM,Bool.not_eq_true',Option.isNone_iff_eq_none]at hx
 exact NF (fun h=>Gm hf hx.1.1 (by rw[hx.1.2];rfl) hx.2 hx' h.1 h.2.1 h.2.2.1 h.2.2.2.1 h.2.2.2.2) rfl k he
end
section
variable {P:Program} {n n0:Nat} {lz an:List Nat} {β:Type} {r:β} {Q:QT} {s:SS}
def yj(s:SS):Bool:=match s.ks with
 | .o _ (_::_)::_=>true
 |_=>false
end
def JE:NK Value:=⟨fun v=>v⟩
theorem Bh(v:Value):JE.enc v=v:=rfl
def tS(ag:Bool)(l:List Value):Value:=if ag then .agg l.toArray else l.headD (.bool false)
section
variable {κ α:Type} (K:HC κ) (E:lD α) (ag:Bool)
def MV(sz:Nat)(ag:Bool):List κ→List Value→List (κ×Value)
 |[],_=>[]
 |k::ks,vs=>(k,tS ag (vs.take sz))::MV sz ag ks (vs.drop sz)
def fl(m:List (κ×α)):List PV:=(m.map fun x=>E.cells x.2).flatten
def kx(m:List (κ×α)):List κ:=m.map (·.1)
def nH(m:List (κ×α)):aV:= .rel (fun o vs=>vs.length=(kx m).length*E.sz∧o=pB K JE (MV E.sz ag (kx m) vs)) (fl E m)
variable {μ:Nat→Prop} {w:World}
theorem B1{vs:List Value}{p q:List PV}(h:PL μ w vs (p++q)):PL μ w (vs.take p.length) p∧PL μ w (vs.drop p.length) q:=by
 obtain⟨hl,h⟩:=h
 rw[List.length_append]at hl
 refine⟨⟨by rw[List.length_take];omega,fun j v c h1 h2=> ?_⟩,⟨by rw[List.length_drop];omega,fun j v c h1 h2=> ?_⟩⟩
 ·have hj:=(gN.1 h2).1
  rw[List.getElem?_take_of_lt hj]at h1
  exact h j v c h1 (by rw[nq hj];exact h2)
 ·rw[List.getElem?_drop]at h1
  exact h (p.length+j) v c h1 (by rw[List.getElem?_append_right (by omega)];simpa using h2)
theorem E4{vs us:List Value}{p q:List PV}(h:PL μ w vs p)(k:PL μ w us q):PL μ w (vs++us) (p++q):=by
 refine⟨by rw[List.length_append,List.length_append,h.1,k.1],fun j v c h1 h2=> ?_⟩
 rcases Nat.lt_or_ge j vs.length with hj|hj
 ·rw[nq hj]at h1
  rw[nq (by rw[←h.1];exact hj)]at h2
  exact h.2 j v c h1 h2
 ·rw[List.getElem?_append_right hj]at h1
  rw[List.getElem?_append_right (by rw[←h.1];exact hj)]at h2
  rw[←h.1]at h2
  exact k.2 _ v c h1 h2
theorem Bw(k:κ)(a:α)(m:List (κ×α)):fl E ((k,a)::m)=E.cells a++fl E m:=rfl
theorem MJ(m:List (κ×α)):(fl E m).length=(kx m).length*E.sz:=by
 induction m with
 |nil=>simp[fl,kx]
 |cons x m ih=>
  obtain⟨k,a⟩:=x
  rw[Bw,List.length_append,ih,E.hsz]
  simp[kx,Nat.succ_mul,Nat.add_comm]
theorem Jt:∀(m:List (κ×α)) (vs:List Value) (k:κ),PL μ w vs (fl E m)→
  match iC K m k with
  |none=>iC K (MV E.sz ag (kx m) vs) k=none
  |some a=>∃l,iC K (MV E.sz ag (kx m) vs) k=some (tS ag l)∧PL μ w l (E.cells a)
 |[],vs,k,h=>rfl
 |(k',a)::m,vs,k,h=>by
  rw[Bw]at h
  obtain⟨h1,h2⟩:=B1 h
  rw[E.hsz]at h1 h2
  have ih:=Jt m (vs.drop E.sz) k h2
  show match iC K ((k',a)::m) k with
   |none=>iC K ((k',tS ag (vs.take E.sz))::MV E.sz ag (kx m) (vs.drop E.sz)) k=none
   |some a=>∃l,iC K ((k',tS ag (vs.take E.sz))::MV E.sz ag (kx m) (vs.drop E.sz)) k=some (tS ag l)∧PL μ w l (E.cells a)
  simp only[iC]
  cases hq:K.eq k k' with
  |true=>exact⟨vs.take E.sz,rfl,h1⟩
  |false=>exact ih
theorem Hp:∀(m:List (κ×α)) (vs l:List Value) (k:κ) (a:α),PL μ w vs (fl E m)→PL μ w l (E.cells a)→
  ∃vs',PL μ w vs' (fl E (iy K m k a))∧MV E.sz ag (kx (iy K m k a)) vs'=iy K (MV E.sz ag (kx m) vs) k (tS ag l)
 |[],vs,l,k,a,h,hl=>by
  refine⟨l,?_,?_⟩
  ·show PL μ w l (E.cells a++[])
   rw[List.append_nil];exact hl
  ·show[(k,tS ag (l.take E.sz))]=[(k,tS ag l)]
   rw[List.take_of_length_le (by rw[hl.1,E.hsz];exact eo _)]
 |(k',a')::m,vs,l,k,a,h,hl=>by
  rw[Bw]at h
  obtain⟨h1,h2⟩:=B1 h
  rw[E.hsz]at h1 h2
  have hll:l.length=E.sz:=by rw[hl.1,E.hsz]
  show∃vs',PL μ w vs' (fl E (if K.eq k k' then(k,a)::m else(k',a')::iy K m k a))∧MV E.sz ag (kx (if K.eq k k' then(k,a)::m else(k',a')::iy K m k a)) vs'=(if K.eq k k' then(k,tS ag l)::MV E.sz ag (kx m) (vs.drop E.sz)else(k',tS ag (vs.take E.sz))::iy K (MV E.sz ag (kx m) (vs.drop E.sz)) k (tS ag l))
  cases hq:K.eq k k' with
  |true=>
   refine⟨l++vs.drop E.sz,E4 hl h2,?_⟩
   show(k,tS ag ((l++vs.drop E.sz).take E.sz))::MV E.sz ag (kx m) ((l++vs.drop E.sz).drop E.sz)=_
   rw[List.take_left' hll,List.drop_left' hll]
   rfl
  |false=>
   obtain⟨vs',g1,g2⟩:=Hp m (vs.drop E.sz) l k a h2 hl
   have ht:(vs.take E.sz).length=E.sz:=by rw[h1.1,E.hsz]
   refine⟨vs.take E.sz++vs',E4 h1 g1,?_⟩
   show(k',tS ag ((vs.take E.sz++vs').take E.sz))::MV E.sz ag (kx (iy K m k a)) ((vs.take E.sz++vs').drop E.sz)=_
   rw[List.take_left' ht,List.drop_left' ht,g2]
   rfl
def KS(a:α):AV:=if ag then .ag ((E.cells a).map .pv)else .one (.pv ((E.cells a).headD (.s (.bool false))))
theorem IP{ι:IM}{st:St}{l:List Value}{a:α}(h1:ag=true∨E.sz=1)(h:PL (fK ι st) w l (E.cells a)):aN ι w st (tS ag l) (KS E ag a):=by
 unfold tS KS
 cases hag:ag with
 |true=>
  simp only[if_true]
  refine .ag _ _ ⟨by rw[h.1,List.length_map],fun j v c h2 h3=> ?_⟩
  rw[List.getElem?_map]at h3
  cases hp:(E.cells a)[j]? with
  |none=>rw[hp]at h3;cases h3
  |some p=>
   rw[hp]at h3
   cases h3
   exact .pv _ _ (h.2 j v p h2 hp)
 |false=>
  have hs:E.sz=1:=by rcases h1 with h'|h';rw[hag]at h';cases h';exact h'
  have hl:=E.hsz a
  rw[hs]at hl
  simp only[Bool.false_eq_true,if_false]
  match hc:E.cells a,hl with
  |[p],_=>
   rw[hc]at h
   match l,h.1 with
   |[v],_=>exact .one _ _ (.pv _ _ (h.2 0 v p rfl rfl))
theorem MQ{ι:IM}{st:St}{v:Value}{a:α}(h1:ag=true∨E.sz=1)(h:aN ι w st v (KS E ag a)):∃l,v=tS ag l∧PL (fK ι st) w l (E.cells a):=by
 unfold KS at h
 unfold tS
 cases hag:ag with
 |true=>
  rw[hag]at h
  simp only[if_true]at h⊢
  cases h with
  |ag vs cs h=>
   refine⟨vs,rfl,by rw[h.1,List.length_map],fun j v p h2 h3=> ?_⟩
   have:=h.2 j v (.pv p) h2 (by rw[List.getElem?_map,h3];rfl)
   cases this with
   |pv _ _ h=>exact h
 |false=>
  rw[hag]at h
  have hs:E.sz=1:=by rcases h1 with h'|h';rw[hag]at h';cases h';exact h'
  have hl:=E.hsz a
  rw[hs]at hl
  simp only[Bool.false_eq_true,if_false]at h⊢
  match hc:E.cells a,hl with
  |[p],_=>
   rw[hc]at h
   cases h with
   |one _ _ h=>
    cases h with
    |pv _ _ h=>exact⟨[v],rfl,rfl,fun j x q h2 h3=>by
     match j with
     |0=>simp at h2 h3;subst h2;subst h3;exact h
     |j+1=>simp at h2⟩
end
section
variable {P:Program} {n n0:Nat} {lz an:List Nat} {β:Type} {r:β} {Q:QT} {s:SS} {T:Option β}
theorem Dg{av:AV}{st':St}(hs:yj s=true)
  (step:∀(ops:Array Oper) (o:Oper) (l:List Oper) (Q':QT) (fr':Fr),(∃ks,s.ks= .o ops (o::l)::ks)→qw n o.dst av s.fr=some fr'→XO P n n0 lz ops l Q' fr' st'→XO P n n0 lz ops (o::l) Q' s.fr s.st)
  (k:XK P n n0 lz Q (zJ n av st' none s)):XK P n n0 lz Q s:=by
 obtain⟨ks,fr,st,kn⟩:=s
 match ks,hs with
 | .o ops (o::l)::ks,hs=>
  simp only[zJ,rx,mG,Db]at k
  rcases lg (n:=n) o.dst av (G1 none fr) (fun fr'=>wc false o.dst kn fun kn'=>(⟨.o ops l::ks,fr',st',kn'⟩:SS)) ⟨.o ops (o::l)::ks,fr,st,kn⟩with⟨fr',hp,e⟩ |e
  ·obtain⟨kn',ek⟩:=mU false o.dst kn fun kn'=>(⟨.o ops l::ks,fr',st',kn'⟩:SS)
   rw[e,ek]at k
   exact step ops o l _ fr' ⟨ks,rfl⟩ hp k
  ·rw[e]at k;exact k
def Nk(s:SS):Bool:=match s.ks with
 | .o ops (o::l)::_=>A6 ops (o::l) s.fr
 |_=>false
section
variable {κ α:Type} (K:HC κ) (E:lD α) (ag:Bool)
theorem Ih(hs:yj s=true)(he:Nk s=true)(k:XK P n n0 lz Q (zJ n (.one (.mp s.st.length)) (s.st++[nH K E ag []]) none s)):XK P n n0 lz Q s:=by
 refine Dg hs (fun ops o l Q' fr' hks hput hk=> ?_) k
 obtain⟨ks,fr,st,kn⟩:=s
 obtain⟨ks',hks⟩:=hks
 simp only at hks
 subst hks
 have hc:A6 ops (o::l) fr=true:=he
 simp only[A6]at hc
 split at hc
 ·rename_i hg
  cases hop:o.op<;>simp only[hop]at hc<;>try (cases hc;done)
  rename_i t x
  cases x with
  |some x=>simp at hc
  |none=>
   intro ι w a hR hF
   have hw:=cF hg hF
   have hrun:(execOp a.eval o).run P w= .ok (.value (.map (some w.heap.size))) (w.alloc (.map #[] 0)):=by
    simp[execOp,hop,Instr.makeMap]
   have hO:j7 (ι.add st.length (some w.heap.size)) (w.alloc (.map #[] 0)) (st++[nH K E ag []]) st.length (nH K E ag []):=
    ⟨w.heap.size,.map #[] 0,[],by simp[IM.add],dh w _,⟨by simp[kx],rfl⟩,rfl,fun j v p h=>by simp at h⟩
   have hR':eu (ι.add st.length (some w.heap.size)) (w.alloc (.map #[] 0)) (st++[nH K E ag []]):=
    hR.add (m6.alloc w _) (fun x e=>by cases e;exact eo _) hO
   have k:bo all ι w st (ι.add st.length (some w.heap.size)) (w.alloc (.map #[] 0)) (st++[nH K E ag []]):=
    n7 (m6.alloc w _) _ _ (fun x e=>by cases e;exact eo _)
   have hres:aN (ι.add st.length (some w.heap.size)) (w.alloc (.map #[] 0)) (st++[nH K E ag []]) (.map (some w.heap.size)) (.one (.mp st.length)):=
    .one _ _ (bX.mp st.length w.heap.size (by simp) (by simp[IM.add]))
   refine wpList_step fun K' hK=> ?_
   rw[if_pos hw]
   simp only[Oper.wp,hrun,Oper.upon]
   exact hK _ _ (di (fun e a w h=>h.trans (k.weaken (fun _ _=>trivial))) (hk _ _ _ hR' (gP hput (hF.mono' k) hres)))
 ·simp at hc
theorem PD(k:GG P n n0 lz an r Q T (zJ n (.one (.mp (run P n an s).st.length)) ((run P n an s).st++[nH K E ag []]) none (run P n an s)))
  (he:Nk (run P n an s)=true:=by kernel_rfl)(hs:yj (run P n an s)=true:=by kernel_rfl):GG P n n0 lz an r Q T s:=
 ⟨fun h=>bH (an:=an) (Ih K E ag hs he (k.go h))⟩
def DP(P:Program)(s:SS):Option (Nat×Value×TypeId×TypeId×Bool):=match s.ks with
 | .o ops (o::_)::_=>(match cI ops o s.fr with
  |some true=>(match o.op with
   | .lookup t x i ok=>(match P.underlying t with
    |some (.map kt et)=>(match rv s.fr x,rv s.fr i with
     | .one (.mp id),.one (.pv (.s v))=>some (id,v,kt,et,ok)
     |_,_=>none)
    |_=>none)
   |_=>none)
  |_=>none)
 |_=>none
def NZ:Value→PV→Bool
 | .int k n,.s (.int k' n')=>k==k'&&n==n'
 | .bool b,.s (.bool b')=>b==b'
 | .string s,.s (.string s')=>s.size==0&&s'.size==0
 | .slice none 0 0,.ro []=>true
 |_,_=>false
theorem EH{μ:Nat→Prop}{w:World}{v:Value}{p:PV}(h:NZ v p=true):dr μ w v p:=by
 unfold NZ at h
 split at h
 ·rename_i k n k' n'
  obtain⟨h1,h2⟩:=Bool.and_eq_true_iff.1 h
  have e1:k=k':=by simpa using h1
  have e2:n=n':=by simpa using h2
  subst e1 e2
  exact .s _ rfl
 ·rename_i b b'
  have e1:b=b':=by simpa using h
  subst e1
  exact .s _ rfl
 ·rename_i s s'
  obtain⟨h1,h2⟩:=Bool.and_eq_true_iff.1 h
  have e1:s.size=0:=by simpa using h1
  have e2:s'.size=0:=by simpa using h2
  have e:s=s':=ByteArray.ext (by rw[Array.eq_empty_of_size_eq_zero e1,Array.eq_empty_of_size_eq_zero e2])
  subst e
  exact .s _ rfl
 ·exact .nl
 ·cases h
def Oo(P:Program)(ag:Bool)(et:TypeId)(ps:List PV):Bool:=match(P.info? et).bind (·.zero)with
 |some v=>(match ag,v with
  |true,.agg a=>a.toList.length==ps.length&&(a.toList.zip ps).all fun x=>NZ x.1 x.2
  |false,v=>(match ps with
   |[p]=>NZ v p
   |_=>false)
  |_,_=>false)
 |none=>false
theorem LU{ag:Bool}{et:TypeId}{ps:List PV}(h:Oo P ag et ps=true):∃zv,(P.info? et).bind (·.zero)=some zv∧∃l,zv=tS ag l∧∀(μ:Nat→Prop) (w:World),PL μ w l ps:=by
 unfold Oo at h
 split at h
 ·rename_i v hv
  refine⟨v,hv,?_⟩
  split at h
  ·rename_i a
   obtain⟨h1,h2⟩:=Bool.and_eq_true_iff.1 h
   have h1:a.toList.length=ps.length:=by simpa using h1
   refine⟨a.toList,by simp[tS],fun μ w=>⟨h1,fun j v p e1 e2=> ?_⟩⟩
   refine EH (List.all_eq_true.1 h2 (v,p) ?_)
   refine List.mem_iff_getElem?.2 ⟨j,?_⟩
   rw[List.getElem?_zip_eq_some]
   exact⟨e1,e2⟩
  ·split at h
   ·rename_i p
    refine⟨[v],by simp[tS],fun μ w=>⟨rfl,fun j x q e1 e2=> ?_⟩⟩
    match j with
    |0=>simp at e1 e2;subst e1;subst e2;exact EH h
    |j+1=>simp at e1
   ·cases h
  ·cases h
 ·cases h
def Pe(ok:Bool)(a:AV)(b:Bool):AV:=match ok with
 |true=> .tp [a,.one (.pv (.s (.bool b)))]
 |false=>a
theorem BL(id:Nat)(m:List (κ×α))(k0:κ)(z:α)(kt et:TypeId)(ok:Bool)(hag:ag=true∨E.sz=1)(hs:yj s=true)(he:DP P s=some (id,K.enc k0,kt,et,ok))(hkt:P.underlying kt=some K.desc)
  (hzo:Oo P ag et (E.cells z)=true)(ho:s.st[id]? =some (nH K E ag m))
  (k:XK P n n0 lz Q (zJ n (Pe ok (KS E ag ((iC K m k0).getD z)) (iC K m k0).isSome) s.st none s)):XK P n n0 lz Q s:=by
 refine Dg hs (fun ops o l Q' fr' hks hput hk=> ?_) k
 obtain⟨ks,fr,st,kn⟩:=s
 obtain⟨ks',hks⟩:=hks
 simp only at hks
 subst hks
 simp only[DP]at he
 split at he
 ·rename_i hg
  split at he
  ·rename_i t x i ok' hop
   split at he
   ·rename_i kt' et' hu
    split at he
    ·rename_i id' v hx hi
     simp only[cA,ku]at he
     obtain⟨rfl,rfl,rfl,rfl,rfl⟩:=he
     intro ι w a hR hF
     have h1:=cu hF x
     rw[hx]at h1
     obtain⟨b,hv,hid,hb⟩:=Ik h1
     have h2:=cu hF i
     rw[hi]at h2
     have hiv:=bi h2
     obtain⟨b',o',vs,e1,e2,⟨e3,rfl⟩,e4⟩:=hR.obj id' _ ho
     rw[hb]at e1;cases e1
     have hw:=cF hg hF
     obtain⟨zv,hz,zl,hzl,hzp⟩:=LU hzo
     obtain⟨inf,hinf,hzero⟩:=Option.bind_eq_some_iff.1 hz
     have hmv:=Jt K E ag m vs k0 e4
     have hres:∃l,(execOp a.eval o).run P w= .ok (.value (if ok' then .tuple #[tS ag l,.bool (iC K m k0).isSome]else tS ag l)) w∧PL (fK ι st) w l (E.cells ((iC K m k0).getD z)):=by
      have hpos:=xE K (MV E.sz ag (kx m) vs) k0
      have hf:=Ct (P:=P) K JE hkt (MV E.sz ag (kx m) vs) k0 w
      cases hmg:iC K m k0 with
      |none=>
       rw[hmg]at hmv
       simp only at hmv
       rw[hmv]at hpos
       have hp:pP K (MV E.sz ag (kx m) vs) k0=none:=by cases h:pP K (MV E.sz ag (kx m) vs) k0<;>simp[h]at hpos⊢
       rw[hp]at hf
       refine⟨zl,?_,hzp _ _⟩
       rw[←hzl]
       simp only[execOp,hop,hv,hiv,Instr.lookup]
       cases ok'<;>simp[run_underlying hu,getObj,Sem.run,e2,pB,K.flat P _ _ k0 w hkt,hf,Result.andThen,uw hinf hzero]
      |some e=>
       rw[hmg]at hmv
       simp only at hmv
       obtain⟨l,hl1,hl2⟩:=hmv
       rw[hl1]at hpos
       cases hp:pP K (MV E.sz ag (kx m) vs) k0 with
       |none=>rw[hp]at hpos;simp at hpos
       |some j=>
        rw[hp,hl1]at hf
        refine⟨l,?_,hl2⟩
        simp only[execOp,hop,hv,hiv,Instr.lookup]
        cases ok'<;>simp[run_underlying hu,getObj,Sem.run,e2,pB,K.flat P _ _ k0 w hkt,hf,Result.andThen,Bh]
     obtain⟨l,hrun,hl⟩:=hres
     refine wpList_step fun K' hK=> ?_
     rw[if_pos hw]
     simp only[Oper.wp,hrun,Oper.upon]
     refine hK _ _ (hk _ _ _ hR (gP hput hF ?_))
     cases ok' with
     |false=>exact IP E ag hag hl
     |true=>
      refine aN.tp [tS ag l,.bool (iC K m k0).isSome] _ rfl (fun j v a h1 h2=> ?_)
      match j with
      |0=>simp at h1 h2;subst h1;subst h2;exact IP E ag hag hl
      |1=>simp at h1 h2;subst h1;subst h2;exact .one _ _ (.pv _ _ (.s _ rfl))
      |j+2=>simp at h1
    ·cases he
   ·cases he
  ·cases he
 ·cases he
theorem O7(id:Nat){m:List (κ×α)}{k0:κ}(z:α)(kt et:TypeId)(ok:Bool){f:α→Option β}
  (k:∀u,some ((iC K m k0).getD z)=some u→GG P n n0 lz an r Q (f u) (zJ n (Pe ok (KS E ag u) (iC K m k0).isSome) (run P n an s).st none (run P n an s)))
  (he:DP P (run P n an s)=some (id,K.enc k0,kt,et,ok):=by kernel_rfl)(ho:(run P n an s).st[id]? =some (nH K E ag m):=by kernel_rfl)
  (hs:yj (run P n an s)=true:=by kernel_rfl)(hzo:Oo P ag et (E.cells z)=true:=by kernel_rfl)(hag:ag=true∨E.sz=1:=by first|exact .inl rfl|exact .inr rfl)(hkt:P.underlying kt=some K.desc:=by kernel_rfl):GG P n n0 lz an r Q (aK (some ((iC K m k0).getD z)) f) s:=
 ⟨fun h=>bH (an:=an) (BL K E ag id m k0 z kt et ok hag hs he hkt hzo ho ((k _ rfl).go h))⟩
def Mq(P:Program)(s:SS):Option (Nat×Value×AV×TypeId):=match s.ks with
 | .o ops (o::_)::_=>(match cI ops o s.fr with
  |some true=>(match o.dst,o.op with
   |none,.mapUpdate t x i y=>(match P.underlying t with
    |some (.map kt et)=>(match rv s.fr x,rv s.fr i with
     | .one (.mp id),.one (.pv (.s v))=>some (id,v,rv s.fr y,kt)
     |_,_=>none)
    |_=>none)
   |_,_=>none)
  |_=>none)
 |_=>none
theorem F6(id:Nat)(m:List (κ×α))(k0:κ)(u:α)(kt:TypeId)(hag:ag=true∨E.sz=1)(hs:yj s=true)(he:Mq P s=some (id,K.enc k0,KS E ag u,kt))(hkt:P.underlying kt=some K.desc)
  (ho:s.st[id]? =some (nH K E ag m))(k:XK P n n0 lz Q (zJ n .j (s.st.set id (nH K E ag (iy K m k0 u))) none s)):XK P n n0 lz Q s:=by
 refine Dg hs (fun ops o l Q' fr' hks hput hk=> ?_) k
 obtain⟨ks,fr,st,kn⟩:=s
 obtain⟨ks',hks⟩:=hks
 simp only at hks
 subst hks
 simp only[Mq]at he
 split at he
 ·rename_i hg
  split at he
  ·rename_i t x i y hdst hop
   split at he
   ·rename_i kt' et' hu
    split at he
    ·rename_i id' v hx hi
     simp only[cA,ku]at he
     obtain⟨rfl,rfl,hy,rfl⟩:=he
     intro ι w a hR hF
     have h1:=cu hF x
     rw[hx]at h1
     obtain⟨b,hv,hid,hb⟩:=Ik h1
     have h2:=cu hF i
     rw[hi]at h2
     have hiv:=bi h2
     have h3:=cu hF y
     rw[hy]at h3
     obtain⟨el,hyv,hel⟩:=MQ E ag hag h3
     obtain⟨b',o',vs,e1,e2,⟨e3,rfl⟩,e4⟩:=hR.obj id' _ ho
     rw[hb]at e1;cases e1
     have hw:=cF hg hF
     have hbl:=cf e2
     obtain⟨vs',g1,g2⟩:=Hp K E ag m vs el k0 u e4 hel
     have hrun:(execOp a.eval o).run P w= .ok .skip {w with heap:=w.heap.setIfInBounds b (pB K JE (iy K (MV E.sz ag (kx m) vs) k0 (tS ag el)))}:=by
      have hpos:=xE K (MV E.sz ag (kx m) vs) k0
      have hf:=Ct (P:=P) K JE hkt (MV E.sz ag (kx m) vs) k0 w
      simp only[execOp,hop,hv,hiv,hyv,Instr.mapUpdate]
      cases hp:pP K (MV E.sz ag (kx m) vs) k0 with
      |none=>
       rw[hp]at hf
       have e3:=zZ K JE (MV E.sz ag (kx m) vs) k0 (tS ag el) 0 hp
       have e4:=sS K (MV E.sz ag (kx m) vs) k0 (tS ag el) hp
       simp[run_underlying hu,getObj,setObj,Sem.run,e2,pB,K.flat P _ _ k0 w hkt,hf,Result.andThen,e3,e4,Bh]
      |some j=>
       rw[hp]at hpos hf
       cases hq:iC K (MV E.sz ag (kx m) vs) k0 with
       |none=>simp[hq]at hpos
       |some u'=>
        rw[hq]at hf
        obtain⟨e,g1,⟨k',g2,g3⟩,g4,g5⟩:=Am K JE (MV E.sz ag (kx m) vs) k0 (tS ag el) 0 j hp
        have hs:=K.bits k0 k' g3
        simp[run_underlying hu,getObj,setObj,Sem.run,e2,pB,K.flat P _ _ k0 w hkt,hf,Result.andThen,g1,g2,Instr.keyThatStays,hs,g4,g5,Bh]
     have hwr:oV w {w with heap:=w.heap.setIfInBounds b (pB K JE (iy K (MV E.sz ag (kx m) vs) k0 (tS ag el)))} b:=by
      refine⟨rfl,rfl,rfl,by simp,fun y hy=> ?_,fun c ty fz h=> ?_⟩
      ·simp[Array.getElem?_setIfInBounds,Ne.symm hy]
      ·rw[e2]at h;simp[pB]at h
     have ha:aV.alive (nH K E ag m):=by simp[aV.alive,nH]
     have kk:=gK (body':=nH K E ag (iy K m k0 u)) ho ha hb hwr
     have hO:j7 ι {w with heap:=w.heap.setIfInBounds b (pB K JE (iy K (MV E.sz ag (kx m) vs) k0 (tS ag el)))} (st.set id' (nH K E ag (iy K m k0 u))) id' (nH K E ag (iy K m k0 u)):=by
      refine⟨b,pB K JE (iy K (MV E.sz ag (kx m) vs) k0 (tS ag el)),vs',hb,?_,⟨?_,by rw[←g2]⟩,?_⟩
      ·have:b<w.heap.size:=hbl
       simp[Array.getElem?_setIfInBounds,this]
      ·have:=g1.1
       rw[this,MJ]
      ·exact g1.map fun _ _ h=>kk.pure h
     have hR':=hR.set (body':=nH K E ag (iy K m k0 u)) ho ha hb hwr hO
     refine wpList_step fun K' hK=> ?_
     rw[if_pos hw]
     simp only[Oper.wp,hrun,Oper.upon]
     refine hK _ _ (di (fun e a w h=>h.trans (kk.weaken (fun _ _=>trivial))) (hk _ _ _ hR' ?_))
     have hfr:fr'=fr:=by
      rw[hdst]at hput
      exact(Option.some.inj hput).symm
     rw[hdst,hfr]
     exact hF.mono' kk
    ·cases he
   ·cases he
  ·cases he
 ·cases he
theorem Pv(id:Nat){m:List (κ×α)}{k0:κ}{u:α}(kt:TypeId)
  (k:GG P n n0 lz an r Q T (zJ n .j ((run P n an s).st.set id (nH K E ag (iy K m k0 u))) none (run P n an s)))
  (he:Mq P (run P n an s)=some (id,K.enc k0,KS E ag u,kt):=by kernel_rfl)(ho:(run P n an s).st[id]? =some (nH K E ag m):=by kernel_rfl)
  (hs:yj (run P n an s)=true:=by kernel_rfl)(hag:ag=true∨E.sz=1:=by first|exact .inl rfl|exact .inr rfl)(hkt:P.underlying kt=some K.desc:=by kernel_rfl):GG P n n0 lz an r Q T s:=
 ⟨fun h=>bH (an:=an) (F6 K E ag id m k0 u kt hag hs he hkt ho (k.go h))⟩
end
end
end Go.SX
namespace Go.SX
open Go
variable {P:Program} {n n0:Nat} {lz an:List Nat} {Q Q1:QT} {α β:Type} {T x y:Option β} {r:β} {s:SS}
def LJ:Nat→Nat→List Nat→List Nat
 |0,_,a=>a
 |g+1,q,a=>bif Nat.beq q 1 then a else LJ g (Nat.div q 2) (Nat.mod q 2::a)
abbrev kP(fn:Func)(q m:Nat):List It:=kS fn (LJ 99 q []) m
abbrev cP(fn:Func)(q:Nat):Code:=cd fn (LJ 99 q [])
theorem gr(fn:Func)(q m:Nat)(h:∀K:KP n n0 lz,(∀{γ:Type} {T1:Option γ} {r1:γ} {f:Fr} {st:St},T1=some r1→GG P n n0 lz an r1 Q T1 ⟨kP fn q m,f,st,[]⟩→K.p f st)→GG P n n0 lz an r (eS K.p (QK P n n0 lz (kP fn q m) Q)) T (Np (kP fn q m) (run P n an s)))
 (he:Dl (kP fn q m) (run P n an s).ks=kP fn q m:=by kernel_rfl)(ht:oZ (kP fn q m)=true:=by kernel_rfl):GG P n n0 lz an r Q T s:=uQ _ h he ht
theorem sM(fn:Func)(q m:Nat)(A:Option β)(fr:Fr)(st:St)(g:GG P n n0 lz an r Q A ⟨kP fn q m,fr,st,[]⟩)(h:∀K:KP n n0 lz,(A=some r→K.p fr st)→GG P n n0 lz an r (eS K.p (QK P n n0 lz (kP fn q m) Q)) T (Np (kP fn q m) (run P n an s)))
 (he:Dl (kP fn q m) (run P n an s).ks=kP fn q m:=by kernel_rfl)(ht:oZ (kP fn q m)=true:=by kernel_rfl):GG P n n0 lz an r Q T s:=uQ _ (fun K k=>h K fun hA=>k hA g) he ht
theorem mC(fn:Func)(q m:Nat)(h:∀(R:Nat→KP n n0 lz),(∀{γ:Type} {T1:Option γ} {r1:γ} {j:Nat} {f:Fr} {st:St},T1=some r1→GG P n n0 lz an r1 (eS (R j).p (QK P n n0 lz (kP fn q m) Q)) T1 ⟨[.c (cP fn (2*q))],f,st,[]⟩→(R (j+1)).p f st)→
  T=some r→(R aO).p (run P n an s).fr (run P n an s).st)
 (he:Oy (run P n an s)=some (cP fn (2*q),kP fn q m):=by kernel_rfl):GG P n n0 lz an r Q T s:=uO _ _ h he
theorem uz{fn:Func}{rv:β→AV}{v:β}(h1:N7 (run P n an s)=some .ret:=by kernel_rfl)(he:No P fn (run P n an s) (rv v)=some (rv v):=by kernel_rfl):GG P n n0 lz an r (DT P fn rv r) (some v) s:=uR .ret (xF he) h1
theorem wj{R R':Fr→St→Prop}{k k':List It}{fn:Func}{rv:β→AV}{v:β}(h1:N7 (run P n an s)=some .ret:=by kernel_rfl)(he:No P fn (run P n an s) (rv v)=some (rv v):=by kernel_rfl):
 GG P n n0 lz an r (eS R (QK P n n0 lz k (eS R' (QK P n n0 lz k' (DT P fn rv r))))) (some v) s:=uR .ret (xN (xN (xF he))) h1
theorem dp{α:Type}{o:Option α}{f:α→Option β}{g:Nat}{avs:List AV}{rv:α→AV}(c:CT P g avs o rv)(k:∀v,GG P n n0 lz an r Q (f v) (xR n (rv v) (run P n an s)))
 (he:Ov P (run P n an s)=some (g,avs):=by kernel_rfl)(hr:∀v,mm (rv v)=true:=by intro v;kernel_rfl):GG P n n0 lz an r Q (aK o f) s:=uP c (fun v _=>k v) he hr
theorem jO(E:lD α){xs:List α}{i:Int}{f:α→Option β}(k:∀e,GG P n n0 lz an r Q (f e) (xR n (.one (.pv (.rp [E.cells e] 0 0))) (run P n an s)))
 (he:Jh P (run P n an s)=some (E.els xs,i,E.sz):=by kernel_rfl):GG P n n0 lz an r Q (aK (at? xs i) f) s:=uL E (fun e _=>k e) he
theorem uI{m:Nat→Prop}(z:m 0)(t:∀k,m k→m (k+1)):∀k,m k
 |0=>z
 |k+1=>t k (uI z t k)
abbrev vQ(q:Nat):AV:= .one (.pt q 0 0 0)
abbrev vR(x:List PV):AV:= .one (.pv (.rp [x] 0 0))
end Go.SX
namespace Go.SX
open Go
structure cy where
 neg:Bool
 size:Int×Int×Int×Int
 deriving DecidableEq
structure cH where
 leaves:Int
 deriving DecidableEq
structure lF where
 below:Bool
 d:List Int
 deriving DecidableEq
structure jU(α:Type) where
 id:Int
 name:ByteArray
 need:Bool
 type:α
structure aq where
 kind:Int
 scale:Int
 fields:List (jU aq)
abbrev af:=jU aq
structure jI where
 path:List Int
 type:aq
 df:Int
 rep:Int
structure bk where
 leaf:jI
 fields:List af
 pos:List Int
structure aJ where
 reps:List Int
 defs:List Int
 deriving DecidableEq
structure aa where
 kind:Int
 n:Int
 scale:Int
 s:ByteArray
 items:List aa
structure ae where
 reps:List Int
 defs:List Int
 values:List aa
structure bz where
 p:bk
 c:ae
mutual
def aq.cells:aq→List PV
 |⟨k,s,fs⟩=>[pi k,pi s,.ro (aq.fcells fs)]
def aq.fcells:List (jU aq)→List (List PV)
 |[]=>[]
 |f::l=>aq.fcell f::aq.fcells l
def aq.fcell:jU aq→List PV
 |⟨i,n,q,t⟩=>pi i:: .s (.string n):: .s (.bool q)::aq.cells t
end
mutual
def aa.cells:aa→List PV
 |⟨k,n,sc,s,it⟩=>[pi k,pi n,pi sc,.s (.string s),.ro (aa.lcells it)]
def aa.lcells:List aa→List (List PV)
 |[]=>[]
 |v::l=>aa.cells v::aa.lcells l
end
theorem aq.fcells_eq:∀l:List (jU aq),aq.fcells l=l.map aq.fcell
 |[]=>rfl
 |f::l=>by rw[aq.fcells,aq.fcells_eq l];rfl
theorem aa.lcells_eq:∀l:List aa,aa.lcells l=l.map aa.cells
 |[]=>rfl
 |f::l=>by rw[aa.lcells,aa.lcells_eq l];rfl
abbrev H3(f:af):List PV:=[pi f.id,.s (.string f.name),.s (.bool f.need),pi f.type.kind,pi f.type.scale,.ro (aq.fcells f.type.fields)]
abbrev Ju(v:aa):List PV:=[pi v.kind,pi v.n,pi v.scale,.s (.string v.s),.ro (aa.lcells v.items)]
theorem FW:aq.fcell=H3:=funext fun⟨_,_,_,⟨_,_,_⟩⟩=>rfl
theorem Gb:aa.cells=Ju:=funext fun⟨_,_,_,_,_⟩=>rfl
def ab:lD af:=⟨6,H3,aq.fcells,fun l=>by rw[aq.fcells_eq,FW],fun _=>rfl⟩
def ac:lD aa:=⟨5,Ju,aa.lcells,fun l=>by rw[aa.lcells_eq,Gb],fun _=>rfl⟩
abbrev Kc(x:ae):List PV:=[.ro (eI.els x.reps),.ro (eI.els x.defs),.ro (ac.els x.values)]
abbrev Nc(x:bk):List PV:=[.ro (eI.els x.leaf.path),pi x.leaf.type.kind,pi x.leaf.type.scale,.ro (ab.els x.leaf.type.fields),pi x.leaf.df,pi x.leaf.rep,.ro (ab.els x.fields),.ro (eI.els x.pos)]
def cm:lD bk:= .of 8 Nc (fun _=>rfl)
def ah:lD ae:= .of 3 Kc (fun _=>rfl)
def ak:lD aJ:= .of 2 (fun x=>[.ro (eI.els x.reps),.ro (eI.els x.defs)]) (fun _=>rfl)
end Go.SX
namespace Go.SX
open Go Go.Shelf Go.Lib Go.Proofs Go.RowKit
theorem xn{ι:IM}{w:World}{st:St}:∀{us vs:List Value},vs.length=us.length→(∀(j:Nat) v a,vs[j]? =some v→(us.map fun u=>AV.one (.pv (.s u)))[j]? =some a→aN ι w st v a)→vs=us
 |[],[],_,_=>rfl
 |[],_::_,h,_=>by simp at h
 |_::_,[],h,_=>by simp at h
 |u::us,v::vs,h,hA=>by
  have h0:=bi (hA 0 v _ rfl rfl)
  subst h0
  rw[xn (us:=us) (vs:=vs) (by simpa using h) (fun j x a h1 h2=>hA (j+1) x a (by simpa using h1) (by simpa using h2))]
theorem PC.below{P:Program}{f:Nat}{us:List Value}{v:Value}(hv:oo v=true)
  (h:∀w:World,(∀(b:Nat) (l:List Value),C2 b=some l→Nl w b l)→Calls P f us.toArray w fun e w'=>e= .returned v∧Below w.heap.size w w'):
  PC P f (us.map fun u=> .one (.pv (.s u))) (.one (.pv (.s v))):=by
 intro ι w vs hR hA
 obtain rfl:=xn (by simpa using hA.1) hA.2
 refine(h w (fun b l hb=>(hR.gl b l hb).2.2)).mono ?_
 rintro e w' ⟨rfl,hb⟩
 have hx:m6 w w':=⟨hb.os,hb.tape,hb.output,hb.size,fun b hlt=>hb.block b hlt⟩
 exact⟨v,_,[],ι,rfl,⟨rfl,rfl⟩,hR.ext hx,.one _ _ (.pv _ _ (.s _ hv)),(hx.keeps ι []).weaken (fun _ _=>trivial)⟩
theorem JR{g3 g4:Nat}{w:World}(h3:∀(i:Nat) x,tG[i]? =some x→w.cell? ⟨g3,i,none⟩=some x)(h4:∀(i:Nat) x,CD[i]? =some x→w.cell? ⟨g4,i,none⟩=some x):Utf8Tabs g3 g4 w:=by
 refine⟨fun c hc=>h3 c _ ?_,fun i hi=>⟨h4 _ _ ?_,h4 _ _ ?_⟩⟩
 ·simp[tG,hc]
 ·simp[CD,show 2*i<32 by omega]
 ·simp[CD,show 2*i+1<32 by omega,show(2*i+1)/2=i by omega]
theorem KD{g3 g4:Nat}{w:World}(h:Utf8Tabs g3 g4 w):(∀(i:Nat) x,tG[i]? =some x→w.cell? ⟨g3,i,none⟩=some x)∧(∀(i:Nat) x,CD[i]? =some x→w.cell? ⟨g4,i,none⟩=some x):=by
 refine⟨fun i x hx=> ?_,fun i x hx=> ?_⟩
 ·by_cases hi:i<256
  ·simp[tG,hi]at hx;subst hx;exact h.1 i hi
  ·simp[tG,hi]at hx
 ·by_cases hi:i<32
  ·simp only[CD,List.getElem?_map,List.getElem?_range hi,Option.map_some,cA]at hx
   by_cases e:i%2=0
   ·rw[if_pos e]at hx
    have:=(h.2 (i/2) (by omega)).1
    rw[show 2*(i/2)=i by omega,hx]at this
    exact this
   ·rw[if_neg e]at hx
    have:=(h.2 (i/2) (by omega)).2
    rw[show 2*(i/2)+1=i by omega,hx]at this
    exact this
  ·simp[CD,hi]at hx
theorem xH{P:Program}{ρ:Ren}(L:Lays.n196 P ρ)(h3:C2 (ρ.g 3)=some tG)(h4:C2 (ρ.g 4)=some CD)(s:ByteArray)(hs:s.size≤9223372036854775807):
  PC P (ρ.f 196) [.one (.pv (.s (.string s)))] (.one (.pv (.s (.bool (validD s.data.toList))))):=
 PC.below (us:=[.string s]) rfl fun w hw=>Go.Proofs.Any.utf8_ValidString L s w hs (JR (hw _ _ h3).1 (hw _ _ h4).1)
end Go.SX
namespace Go.SX
open Go
section
variable {P:Program} {n n0:Nat} {lz:List Nat} {Q:QT} {fr:Fr} {st:St} {ops:Array Oper}
end
section
variable {P:Program} {n n0:Nat} {lz an:List Nat} {Q:QT} {β:Type} {T:Option β} {r:β} {s:SS}
end
section
variable {P:Program} {n n0:Nat} {lz an:List Nat} {β:Type} {r:β} {Q:QT} {s:SS} {T:Option β}
end
end Go.SX
namespace Go.SX
open Go
section
variable {P:Program} {n n0:Nat} {lz an:List Nat} {β:Type} {r:β} {Q:QT} {s:SS} {T:Option β} {fr:Fr} {st:St} {ops:Array Oper}
end
end Go.SX
namespace Go.SX
open Go
section
variable {P:Program} {n n0:Nat} {lz an:List Nat} {α β:Type} {r:β} {Q:QT} {s:SS} {x:Option β}
theorem HU(E:lD α)(id:Nat)(xs:List α){ys:List α}{N L:Nat}(k:GG P n n0 lz an r Q x (zJ n (.one (.sl (GQ (run P n an s)) E.sz 0 (ys++xs).length)) (((run P n an s).st.set id .dead).set (GQ (run P n an s)) (.arr E.sz (E.els (ys++xs)))) (Do (run P n an s)) (run P n an s)))(hL:L=ys.length:=by rfl)(hN:N=xs.length:=by rfl)
  (he:Hx P an [] (run P n an s)=some ⟨.one (.sl (GQ (run P n an s)) E.sz 0 (L+(E.els xs).length)),((run P n an s).st.set id .dead).set (GQ (run P n an s)) (.arr E.sz (E.els ys++E.els xs)),[aT E.sz (E.els xs),L=(E.els ys).length,L+(E.els xs).length≤4294967296],[],Do (run P n an s)⟩:=by kernel_rfl)
  (hm:uf n0 lz (Do (run P n an s))=true:=by kernel_rfl):GG P n n0 lz an r Q (eh (ys.length+N≤4294967296) x) s:=by
 subst hL;subst hN
 refine⟨fun h=> ?_⟩
 obtain⟨hp,h⟩:=iq h
 exact Ly he ⟨E.ok _,(E.len _).symm,by rw[E.len];exact hp,trivial⟩ hm (by rw[E.len,List.length_append]) (by rw[E.app2]) k h
end
end Go.SX
namespace Go.SX
open Go
section
variable {P:Program} {n n0:Nat} {lz an:List Nat} {α β:Type} {r:β} {Q:QT} {s:SS} {T:Option β}
end
section
variable {P:Program} {n n0:Nat} {lz an:List Nat} {Q:QT} {α β:Type} {T x:Option β} {r:β} {s:SS} {fr:Fr} {st:St}
theorem Ff{sz:Nat}{γ:Type}:∀{els:List (List γ)} {j:Nat} {p:γ},(∀e∈els,e.length=sz)→els.flatten[j]? =some p→∃(i t:Nat) (e:List γ),els[i]? =some e∧e[t]? =some p∧j=i*sz+t
 |[],j,p,_,h=>by simp at h
 |e::l,j,p,hs,h=>by
  rw[List.flatten_cons]at h
  by_cases hj:j<e.length
  ·rw[nq hj]at h
   exact⟨0,j,e,rfl,h,by omega⟩
  ·rw[List.getElem?_append_right (by omega)]at h
   obtain⟨i,t,e',h1,h2,h3⟩:=Ff (fun x hx=>hs x (List.mem_cons_of_mem _ hx)) h
   have he:=hs e (List.mem_cons_self ..)
   exact⟨i+1,t,e',by simpa using h1,h2,by rw[Nat.add_mul,Nat.one_mul];omega⟩
theorem HP{sz:Nat}{γ:Type}:∀{els:List (List γ)} {i t:Nat} {e:List γ} {p:γ},(∀e∈els,e.length=sz)→els[i]? =some e→e[t]? =some p→els.flatten[i*sz+t]? =some p
 |[],i,t,e,p,_,h,_=>by simp at h
 |x::l,0,t,e,p,hs,h,k=>by
  simp at h;subst h
  have:=(gN.1 k).1
  rw[List.flatten_cons,Nat.zero_mul,Nat.zero_add,nq this];exact k
 |x::l,i+1,t,e,p,hs,h,k=>by
  have hx:=hs x (List.mem_cons_self ..)
  rw[List.flatten_cons,List.getElem?_append_right (by rw[Nat.add_mul,hx];omega)]
  have:=HP (fun x hx=>hs x (List.mem_cons_of_mem _ hx)) (by simpa using h) k
  rw[show(i+1)*sz+t-x.length=i*sz+t from by rw[Nat.add_mul,hx];omega]
  exact this
theorem ul{sz:Nat}{γ:Type}:∀{els:List (List γ)},(∀e∈els,e.length=sz)→els.flatten.length=els.length*sz
 |[],_=>by simp
 |e::l,hs=>by
  rw[List.flatten_cons,List.length_append,ul fun x hx=>hs x (List.mem_cons_of_mem _ hx),hs e (List.mem_cons_self ..),List.length_cons,Nat.add_mul];omega
theorem LT{ι:IM}{w:World}{st:St}{v:Value}{p:PV}(h:bX ι w st v (.pv p)):dr (fK ι st) w v p:=by
 cases h with
 |pv _ _ h=>exact h
theorem qc(w:World)(b:Nat):oV w w b:=⟨rfl,rfl,rfl,rfl,fun _ _=>rfl,fun c _ _ h=>⟨c,h,rfl⟩⟩
theorem bW.wopen{id sz:Nat}{els els2:List (List PV)}{ps:List PV}(h:st[id]? =some (.arr sz (els++ps::els2))):
  bW n n0 lz fr st fr (st.set id (.win sz els.length els.flatten (ps.map CV.pv) els2.flatten)):=by
 intro ι w a hR hF
 rcases hR.obj id _ h with⟨_,he⟩ |⟨b,c,ty,e1,e2,h1,h2,h3⟩
 ·simp at he
 ·have ha:aV.alive (.arr sz (els++ps::els2)):=by simp[aV.alive]
  have k:=gK (body':= .win sz els.length els.flatten (ps.map CV.pv) els2.flatten) h ha e1 (qc w b)
  have hfl:=ul fun e he=>h2 e (List.mem_append_left _ he)
  have hall:els.flatten.map CV.pv++(ps.map CV.pv++els2.flatten.map CV.pv)=((els++ps::els2).flatten).map CV.pv:=by simp
  have hlen:els.flatten.length+((ps.map CV.pv).length+els2.flatten.length)=(els++ps::els2).flatten.length:=by simp
  have hcs:=ul h2
  refine⟨ι,hR.set h ha e1 (qc w b) ⟨b,c,ty,e1,e2,hfl,?_⟩,hF.mono' k,k.weaken (fun _ _=>trivial)⟩
  rw[hall,hlen]
  refine⟨?_,fun j v cv hv hc=> ?_⟩
  ·have hsz:c.toList.length=c.size:=by simp
   rw[List.length_take,List.length_map]
   omega
  ·rw[List.getElem?_map,mE]at hc
   obtain⟨p,hp,rfl⟩:=hc
   obtain⟨i,t,e,g1,g2,g3⟩:=Ff h2 hp
   obtain⟨v',g4,g5⟩:=h3 i e t p g1 g2
   rw[List.getElem?_take]at hv
   split at hv
   ·rw[Array.getElem?_toList,g3,g4]at hv
    cases hv
    exact .pv _ _ (k.pure g5)
   ·cases hv
theorem bW.wclose{id sz i:Nat}{els els2:List (List PV)}{ps:List PV}(h:st[id]? =some (.win sz i els.flatten (ps.map CV.pv) els2.flatten))(hs:∀e∈els++ps::els2,e.length=sz):
  bW n n0 lz fr st fr (st.set id (.arr sz (els++ps::els2))):=by
 intro ι w a hR hF
 obtain⟨b,c,ty,e1,e2,hn,hl⟩:=hR.obj id _ h
 have ha:aV.alive (.win sz i els.flatten (ps.map CV.pv) els2.flatten):=by simp[aV.alive]
 have k:=gK (body':= .arr sz (els++ps::els2)) h ha e1 (qc w b)
 have hall:els.flatten.map CV.pv++(ps.map CV.pv++els2.flatten.map CV.pv)=((els++ps::els2).flatten).map CV.pv:=by simp
 have hlen:els.flatten.length+((ps.map CV.pv).length+els2.flatten.length)=(els++ps::els2).flatten.length:=by simp
 have hN:=ul hs
 rw[hall,hlen]at hl
 have hcs:(els++ps::els2).flatten.length≤c.size:=by
  have:=hl.1
  have hsz:c.toList.length=c.size:=by simp
  rw[List.length_take,List.length_map]at this
  omega
 refine⟨ι,hR.set h ha e1 (qc w b) (.inr ⟨b,c,ty,e1,e2,by rw[←hN];exact hcs,hs,fun i e j p g1 g2=> ?_⟩),hF.mono' k,k.weaken (fun _ _=>trivial)⟩
 have hf:=HP hs g1 g2
 have hlt:=(gN.1 hf).1
 have hlc:i*sz+j<c.size:=by omega
 have:=hl.2 (i*sz+j) c[i*sz+j] (.pv p) (by rw[List.getElem?_take,if_pos hlt];simp[hlc]) (by rw[List.getElem?_map,hf];rfl)
 exact⟨c[i*sz+j],by simp[hlc],k.pure (LT this)⟩
def wS(id:Nat)(b:aV)(s:SS):SS:=match s with
 |⟨ks,fr,st,kn⟩=>fS (st.set id b) fun st=>⟨ks,fr,st,kn⟩
theorem NP(id:Nat)(b:aV)(s:SS):wS id b s=⟨s.ks,s.fr,s.st.set id b,s.kn⟩:=by
 obtain⟨ks,fr,st,kn⟩:=s
 simp only[wS,mG]
theorem Nq{id:Nat}{b:aV}(hs:bW n n0 lz (run P n an s).fr (run P n an s).st (run P n an s).fr ((run P n an s).st.set id b))(k:GG P n n0 lz an r Q T (wS id b (run P n an s)))(ht:oZ (run P n an s).ks=true):GG P n n0 lz an r Q T s:=by
 refine⟨fun h=>bH (an:=an) ?_⟩
 have k:=k h
 unfold XK at k⊢
 rw[NP]at k
 exact QK.sub ht hs k
theorem OF(E:lD α)(xs:List α)(x:α)(id:Nat)(ps:List PV)(k:GG P n n0 lz an r Q T (wS id (.arr E.sz (E.els (xs++[x]))) (run P n an s)))
  (hp:E.els [x]=[ps]:=by rfl)(i:Nat)(hst:(run P n an s).st[id]? =some (.win E.sz i (E.els xs).flatten (ps.map CV.pv) []):=by kernel_rfl)(ht:oZ (run P n an s).ks=true:=by kernel_rfl):GG P n n0 lz an r Q T s:=
 Nq (by
  have h:=bW.wclose (n:=n) (n0:=n0) (lz:=lz) (fr:=(run P n an s).fr) (els2:=[]) hst (by rw[←hp,E.app2];exact fun e he=>E.ok _ e he)
  rw[←E.app2,hp];exact h) k ht
theorem KZ{ι:IM}{w:World}(r:eu ι w st){id sz i j:Nat}{pre post:List PV}{mid:List CV}{c c':CV}(hid:st[id]? =some (.win sz i pre mid post))(hj:mid[j]? =some c)(h:∀v,bX ι w st v c→bX ι w st v c'):
  eu ι w (st.set id (.win sz i pre (mid.set j c') post))∧bo all ι w st ι w (st.set id (.win sz i pre (mid.set j c') post)):=by
 obtain⟨b,cs,ty,e1,e2,hn,e3⟩:=r.obj id _ hid
 have ha:aV.alive (.win sz i pre mid post):=by simp[aV.alive]
 have k:=gK (body':= .win sz i pre (mid.set j c') post) hid ha e1 (oV.refl w b)
 refine⟨r.set hid ha e1 (oV.refl w b) ⟨b,cs,ty,e1,e2,hn,?_⟩,k⟩
 have hlt:=(gN.1 hj).1
 refine dv.mono' k ⟨by have:=e3.1;simpa using this,fun t v d h1 h2=> ?_⟩
 rw[List.length_set]at h1
 by_cases e:t=pre.length+j
 ·subst e
  rw[List.getElem?_append_right (by simp),List.length_map,Nat.add_sub_cancel_left,nq (by rw[List.length_set];exact hlt),List.getElem?_set_self hlt]at h2
  cases h2
  refine h v (e3.2 _ v c h1 ?_)
  rw[List.getElem?_append_right (by simp),List.length_map,Nat.add_sub_cancel_left,nq hlt];exact hj
 ·refine e3.2 t v d h1 ?_
  by_cases ht:t<pre.length
  ·rw[nq (by simpa using ht)]at h2⊢;exact h2
  ·rw[List.getElem?_append_right (by simp;omega),List.length_map]at h2⊢
   by_cases ht2:t-pre.length<mid.length
   ·rw[nq (by rw[List.length_set];exact ht2),List.getElem?_set_ne (by omega)]at h2
    rw[nq ht2];exact h2
   ·rw[List.getElem?_append_right (by rw[List.length_set];omega),List.length_set]at h2
    rw[List.getElem?_append_right (by omega)];exact h2
theorem bW.wnil(id j sz':Nat){sz i:Nat}{pre post:List PV}{mid:List CV}(hb:st[id]? =some (.win sz i pre mid post))(hj:mid[j]? =some (.pv (.s (.slice none 0 0)))):
  bW n n0 lz fr st fr ((st++[aV.arr sz' []]).set id (.win sz i pre (mid.set j (.sl st.length sz' 0 0)) post)):=by
 intro ι w a hR hF
 obtain⟨r1,k1,hv0⟩:=ue (ι:=ι) (w:=w) (st:=st) hR sz'
 have hlt:=(gN.1 hb).1
 have hne:∀v,bX (ι.add st.length none) w (st++[.arr sz' []]) v (.pv (.s (.slice none 0 0)))→bX (ι.add st.length none) w (st++[.arr sz' []]) v (.sl st.length sz' 0 0):=by
  intro v hv
  have:=bi (aN.one _ _ hv)
  subst this
  exact hv0
 obtain⟨r2,k2⟩:=KZ r1 (id:=id) (j:=j) (by rw[nq hlt];exact hb) hj hne
 have k:=k1.trans k2
 exact⟨_,r2,hF.mono' k,k.weaken (fun _ _=>trivial)⟩
def wT(st':St)(s:SS):SS:=match s with
 |⟨ks,fr,_,kn⟩=>fS st' fun st=>⟨ks,fr,st,kn⟩
theorem NT(st':St)(s:SS):wT st' s=⟨s.ks,s.fr,st',s.kn⟩:=by
 obtain⟨ks,fr,st,kn⟩:=s
 simp only[wT,mG]
theorem Pb(E:lD α)(id:Nat)(ps:List PV){ys:List α}{L:Nat}(k:ys.length+1≤4294967296→GG P n n0 lz an r Q x (zJ n (.one (.sl id E.sz 0 (ys.length+1))) ((run P n an s).st.set id (.arr E.sz (E.els ys++[ps]))) (some id) (run P n an s)))(hL:L=ys.length:=by rfl)(hps:ps.length=E.sz:=by rfl)
  (he:Hx P an [] (run P n an s)=some ⟨.one (.sl id E.sz 0 (L+1)),(run P n an s).st.set id (.arr E.sz (E.els ys++[ps])),[aT E.sz [ps],L=(E.els ys).length,L+1≤4294967296],[],some id⟩:=by kernel_rfl)
  (hm:uf n0 lz (some id)=true:=by kernel_rfl):GG P n n0 lz an r Q (eh (ys.length+1≤4294967296) x) s:=by
 subst hL
 refine⟨fun h=> ?_⟩
 obtain⟨hp,h⟩:=iq h
 exact Ly he ⟨fun e he=>by simp at he;subst he;exact hps,(E.len _).symm,hp,trivial⟩ hm rfl rfl (k hp) h
theorem OS(sz:Nat)(ps:List PV)(k:GG P n n0 lz an r Q T (zJ n (.one (.sl (GQ (run P n an s)) sz 0 1)) (Lf (run P n an s) (.arr sz [ps])) (Do (run P n an s)) (run P n an s)))(hps:ps.length=sz:=by rfl)
  (he:Hx P an [] (run P n an s)=some ⟨.one (.sl (GQ (run P n an s)) sz 0 1),Lf (run P n an s) (.arr sz [ps]),[aT sz [ps],1≤4294967296],[],Do (run P n an s)⟩:=by kernel_rfl)(hm:uf n0 lz (Do (run P n an s))=true:=by kernel_rfl):GG P n n0 lz an r Q T s:=
 Ly he ⟨fun e he=>by simp at he;subst he;exact hps,by decide,trivial⟩ hm rfl rfl k
theorem LN{X:List Nat}{ops:Array Oper}{l:List Oper}{tw:List (List Nat×List Nat)}{R:Fr→St→Prop}{o:Oper}{L:List Nat}{x0:Nat}{b:aV}{p:Prop}(hg:cI ops o (cL ops o fr)=some true)
  (he:ev P false o (cL ops o fr) (fb (aI L) 0 st) []=some ⟨.j,(fb (aI L) 0 st).set x0 b,[p],[],none⟩)(hp:p)
  (hc:(((o.dst.isNone&&qX ops o fr L)&&(aI L x0&&Nat.ble (x0+1) st.length)&&gA (fun i=> !aI X i||((aI L i&& !aI [x0] i)&&Nat.ble (i+1) st.length)) b)&&C4 st L)=true)
  (k:GK P n X ops l (tw++[(lX X L,[x0])]) R fr (st.set x0 b)):GK P n X ops (o::l) tw R fr st:=by
 simp only[fM]at hc
 obtain⟨⟨⟨⟨c1,c2⟩,c3,c4⟩,c5⟩,c6⟩:=hc
 have c4:=n4 c4
 have hd:o.dst=none:=by
  cases h:o.dst with
  |none=>rfl
  |some d=>rw[h]at c1;cases c1
 have hn:mJ o ⟨.j,L,[x0],[],st.set x0 b⟩ fr=fr:=by
  unfold mJ
  rw[hd,n8];rfl
 refine GK.of (tw1:=(lX X L,[x0])) (fun h2=> ?_) k
 have h2':=h2
 rw[←hn]at h2'
 refine GX.cons0 (s:=⟨.j,L,[x0],[],st.set x0 b⟩) c6 ?_ h2'
 refine⟨fun d h=>(by rw[hd]at h;cases h),List.length_set,fun id hw=> ?_,fun id hw=> ?_,fun id h=>(by cases h),qb c2,rfl,fun x bb hx hb=> ?_,.inl ⟨hg,?_⟩⟩
 ·have hne:id≠x0:=by rintro rfl;simp[aI]at hw
  exact List.getElem?_set_ne (Ne.symm hne)
 ·have:id=x0:=by simpa [aI]using hw
  subst this;exact c3
 ·have:x=x0:=by simpa [aI]using hx
  subst this
  have hb':(st.set x b)[x]? =some bb:=hb
  rw[List.getElem?_set_self (by omega)]at hb'
  cases hb'
  exact c5
 ·intro st' ι w act hl hT hX hR hF K Q hK
  have hl:st'.length=st.length:=hl
  have hT:∀id,aI L id=true→st'[id]? =st[id]? :=hT
  have hx1:dq (fun i=> !aI ([]:List Nat) i) st'=true:=A8 hX
  obtain⟨v,w',ι',hrun,r1,r2,r3⟩:=rh (T:=L) (st:=st) [] he ⟨hp,trivial⟩ (by rw[List.length_set,dj];exact eo _) (fun m hm=>by cases hm)
   (fun id hid hTf=>by
    have hne:id≠x0:=by rintro rfl;rw[hTf]at c3;cases c3
    show((fb (aI L) 0 st).set x0 b)[id]? =some .dead
    rw[List.getElem?_set_ne (Ne.symm hne),ij,Nat.zero_add,hTf,gu hid];rfl) hl hT hx1 hR hF
  have e:eZ (aI L) 0 st' ((fb (aI L) 0 st).set x0 b)=eZ (aI [x0]) 0 st' (st.set x0 b):=by
   have l1:st'.length≤((fb (aI L) 0 st).set x0 b).length:=by rw[List.length_set,dj];omega
   have l2:st'.length≤(st.set x0 b).length:=by rw[List.length_set];omega
   refine lY (by rw[cC _ _ _ l1,cC _ _ _ l2,List.length_set,List.length_set,dj]) (fun id hid=> ?_)
   rw[dP _ _ _ _ l1,dP _ _ _ _ l2,Nat.zero_add]
   rw[cC _ _ _ l1,List.length_set,dj]at hid
   by_cases e0:id=x0
   ·subst e0
    have h1:aI [id] id=true:=by simp[aI]
    rw[if_neg (by simp[c3]),if_neg (by simp[h1]),List.getElem?_set_self (by rw[dj];omega),List.getElem?_set_self (by omega)]
   ·have h1:aI [x0] id=false:=by
     cases h:aI [x0] id with
     |false=>rfl
     |true=>exact absurd (by simpa [aI]using h) e0
    have rhs:(if id<List.length st'∧aI [x0] id=false then st'[id]? else(List.set st x0 b)[id]?)=st'[id]? :=if_pos ⟨by omega,h1⟩
    rw[rhs]
    cases h3:aI L id with
    |false=>rw[if_pos ⟨by omega,rfl⟩]
    |true=>
     rw[if_neg (by simp),List.getElem?_set_ne (Ne.symm e0),ij,Nat.zero_add,h3,hT id h3,gu hid];rfl
  have r1:eu ι' w' (eZ (aI L) 0 st' ((fb (aI L) 0 st).set x0 b)):=r1
  have r2:aN ι' w' (eZ (aI L) 0 st' ((fb (aI L) 0 st).set x0 b)) v .j:=r2
  have r3:bo (fun id=>iB none id=true) ι w st' ι' w' (eZ (aI L) 0 st' ((fb (aI L) 0 st).set x0 b)):=r3
  rw[e]at r1 r2 r3
  exact pI hrun (hK v w' ι' r2 r1 (r3.weaken fun _ _=>rfl))
def Ps(L:List Nat)(x0:Nat)(b:aV)(s:SS):SS:=match s with
 |⟨.g X ops (_::l) tw::k,fr,st,kn⟩=>fS (st.set x0 b) fun st=>⟨.g X ops l (tw++[(lX X L,[x0])])::k,fr,st,kn⟩
 |s=>s
def Pc(P:Program)(L:List Nat)(x0:Nat)(b:aV)(s:SS):Option (Option rT×Bool):=match s.ks with
 | .g X ops (o::_) _::_=>(match Kp ops s.kn o (cL ops o s.fr)with
  |some true=>some (ev P false o (cL ops o s.fr) (fb (aI L) 0 s.st) [],((o.dst.isNone&&qX ops o s.fr L)&&(aI L x0&&Nat.ble (x0+1) s.st.length)&&gA (fun i=> !aI X i||((aI L i&& !aI [x0] i)&&Nat.ble (i+1) s.st.length)) b)&&C4 s.st L)
  |_=>none)
 |_=>none
theorem Hz(L:List Nat)(x0:Nat)(b:aV){p:Prop}(hp:p)(k:GG P n n0 lz an r Q T (Ps L x0 b (run P n an s)))
  (he:Pc P L x0 b (run P n an s)=some (some ⟨.j,(fb (aI L) 0 (run P n an s).st).set x0 b,[p],[],none⟩,true):=by kernel_rfl):GG P n n0 lz an r Q T s:=by
 refine⟨fun h=>bH (an:=an) ?_⟩
 have k:=k h
 generalize run P n an s=s' at*
 obtain⟨ks,fr,st,kn⟩:=s'
 unfold Pc at he
 split at he
 ·rename_i X ops o l tw k' hk
  simp only at hk
  subst hk
  split at he
  ·rename_i hg
   have hg:=qp hg
   simp only[cA,ku]at he
   simp only[Ps,mG]at k
   exact LN hg he.1 hp he.2 k
  ·cases he
 ·cases he
theorem Js{K:KP n n0 lz}{Q1:QT}{st':St}(hs:bW n n0 lz (run P n an s).fr (run P n an s).st (run P n an s).fr st')(k:GG P n n0 lz an r (eS K.p Q1) T (wT st' (run P n an s)))(ht:(run P n an s).ks.isEmpty=true):GG P n n0 lz an r (eS K.p Q1) T s:=by
 refine⟨fun h=>bH (an:=an) ?_⟩
 have k:=k h
 have hk:(run P n an s).ks=[]:=List.isEmpty_iff.1 ht
 unfold XK at k⊢
 rw[NT]at k
 rw[hk]at k⊢
 exact K.cl hs k
theorem Gz{K:KP n n0 lz}{Q1:QT}(id j sz' sz i:Nat)(pre:List PV)(mid:List CV)(post:List PV)(k:GG P n n0 lz an r (eS K.p Q1) T (wT (((run P n an s).st++[aV.arr sz' []]).set id (.win sz i pre (mid.set j (.sl (run P n an s).st.length sz' 0 0)) post)) (run P n an s)))
  (hb:(run P n an s).st[id]? =some (.win sz i pre mid post):=by kernel_rfl)(hj:mid[j]? =some (.pv (.s (.slice none 0 0))):=by kernel_rfl)(ht:(run P n an s).ks.isEmpty=true:=by kernel_rfl):GG P n n0 lz an r (eS K.p Q1) T s:=
 Js (bW.wnil id j sz' hb hj) k ht
theorem IE{K:KP n n0 lz}{Q1:QT}(sz id:Nat)(els:List (List PV))(ps:List PV)(k:GG P n n0 lz an r (eS K.p Q1) T (wT ((run P n an s).st.set id (.win sz els.length els.flatten (ps.map CV.pv) [])) (run P n an s)))
  (hst:(run P n an s).st[id]? =some (.arr sz (els++[ps])):=by kernel_rfl)(ht:(run P n an s).ks.isEmpty=true:=by kernel_rfl):GG P n n0 lz an r (eS K.p Q1) T s:=
 Js (bW.wopen (els2:=[]) hst) k ht
theorem O5(d:Nat)(av:AV)(k:GG P n n0 lz an r Q T (xR n av (qU P n an d s)))(he:Gr P [[]] (qU P n an d s)=some (av,[]):=by kernel_rfl):GG P n n0 lz an r Q T s:=by
 refine⟨fun h=> ?_⟩
 obtain⟨o,g,h1,h2⟩:=FK (n:=n) he trivial
 exact qB (mi h1 h2 (k h))
end
section
variable {P:Program} {n n0:Nat} {fr fr1:Fr} {st st1:St} {c:Code} {ops:Array Oper}
def pU(n n0:Nat)(e1:Exit)(fr1:Fr)(st1:St):QT:=fun e f s=>e=e1∧bW n n0 [] f s fr1 st1
def B0(n n0:Nat)(fr1:Fr)(st1:St):KP n n0 []:=⟨fun f s=>bW n n0 [] f s fr1 st1,fun h k=>h.trans k⟩
def KX:QT:=fun _ _ _=>False
theorem Ax{an:List Nat}(h:GG P n n0 [] an () (eS (B0 n n0 fr1 st1).p KX) (some ()) ⟨[.c c],fr,st,[]⟩):XW P n n0 [] c (pU n n0 .normal fr1 st1) fr st:=by
 have h1:XW P n n0 [] c (eS (B0 n n0 fr1 st1).p KX) fr st:=h.go rfl
 refine h1.mono fun e f s hq=> ?_
 cases e with
 |normal=>exact⟨rfl,hq⟩
 |_=>exact hq.elim
theorem GR{an:List Nat}{r:Unit}{T:Option Unit}{s:SS}(he:Ox n0 fr1 st1 (run P n an s)=some (fr1,st1):=by kernel_rfl):GG P n n0 [] an r (eS (B0 n n0 fr1 st1).p KX) T s:=
 uJ (K:=B0 n n0 fr1 st1) (fun _ ι _ _ hR hF=>⟨ι,hR,hF,.refl⟩) he
abbrev GT:=IM→World→St→Prop
def Ch(n0:Nat)(G:GT):Prop:=∀{ι:IM} {w:World} {st:St} {ι':IM} {w':World} {st':St},eu ι w st→bo (tA n0 []) ι w st ι' w' st'→G ι w st→G ι' w' st'
def At(n:Nat)(G:GT)(fr:Fr)(st:St)(a:Act)(w:World):Prop:=∃ι,eu ι w st∧fU n ι w st a fr∧G ι w st
theorem At.seg{G:GT}(hG:Ch n0 G){e1:Exit}(h:XW P n n0 [] c (pU n n0 e1 fr1 st1) fr st){a:Act}{w:World}(hA:At n G fr st a w):c.wp P (fun e a' w'=>e=e1∧At n G fr1 st1 a' w') a w:=by
 obtain⟨ι,hR,hF,hg⟩:=hA
 refine Go.wp_mono (h ι w a hR hF) ?_
 rintro e a' w' ⟨ι',fr',st',⟨he,hs⟩,hR',hF',k⟩
 obtain⟨ι2,hR2,hF2,k2⟩:=hs ι' w' a' hR' hF'
 exact⟨he,ι2,hR2,hF2,hG hR' k2 (hG hR k hg)⟩
end
section
variable {ι ι':IM} {w:World} {st st':St}
theorem bX.ch(hm:∀b,fK ι' st' b→fK ι st b)(hl:∀i,i<st.length→i<st'.length∧ι' i=ι i){v:Value}{c:CV}(h:bX ι w st v c):bX ι' w st' v c:=by
 have:=h.ren (ρ:=fun i=>i) (ι':=ι') (st':=st') hm hl
 rwa [En]at this
theorem dv.ch(hm:∀b,fK ι' st' b→fK ι st b)(hl:∀i,i<st.length→i<st'.length∧ι' i=ι i){vs:List Value}{cs:List CV}(h:dv ι w st vs cs):dv ι' w st' vs cs:=
 ⟨h.1,fun j v c h1 h2=>(h.2 j v c h1 h2).ch hm hl⟩
theorem aN.ch(hm:∀b,fK ι' st' b→fK ι st b)(hl:∀i,i<st.length→i<st'.length∧ι' i=ι i){v:Value}{a:AV}(h:aN ι w st v a):aN ι' w st' v a:=by
 induction h with
 |j v=>exact .j v
 |one v c h=>exact .one _ _ (h.ch hm hl)
 |ag vs cs h=>exact .ag _ _ (h.ch hm hl)
 |tp vs asv hlen h ih=>exact .tp vs _ hlen (fun j v a h1 h2=>ih j v a h1 h2)
theorem fU.ch{n:Nat}(hm:∀b,fK ι' st' b→fK ι st b)(hl:∀i,i<st.length→i<st'.length∧ι' i=ι i){a:Act}{fr:Fr}(h:fU n ι w st a fr):fU n ι' w st' a fr:=
 ⟨h.defers,h.size,fun t=>(h.slot t).ch hm hl⟩
theorem dr.ch{μ μ':Nat→Prop}(hm:∀b,μ' b→μ b){v:Value}{p:PV}(h:dr μ w v p):dr μ' w v p:=
 h.mono (eo _) fun b _ hb=>⟨rfl,fun h'=>hb (hm b h')⟩
theorem j7.ch(hm:∀b,fK ι' st' b→fK ι st b)(hl:∀i,i<st.length→i<st'.length∧ι' i=ι i){id:Nat}(hi:ι' id=ι id){o:aV}(h:j7 ι w st id o):j7 ι' w st' id o:=by
 cases o with
 |dead=>trivial
 |box cells=>
  obtain⟨b,us,ty,e3,e4,e5⟩:=h
  exact⟨b,us,ty,hi.trans e3,e4,e5.ch hm hl⟩
 |win wsz wi pre mid post=>
  obtain⟨b,us,ty,e3,e4,hn0,e5⟩:=h
  exact⟨b,us,ty,hi.trans e3,e4,hn0,e5.ch hm hl⟩
 |rel Rm ps=>
  obtain⟨b,ob,vs0,e3,e4,hr0,hl0⟩:=h
  exact⟨b,ob,vs0,hi.trans e3,e4,hr0,hl0.map fun _ _ h0=>h0.ch hm⟩
 |arr sz els=>
  rcases h with⟨e3,e4⟩ |⟨b,c,ty,e3,e4,e5,e6,e7⟩
  ·exact .inl ⟨hi.trans e3,e4⟩
  ·refine .inr ⟨b,c,ty,hi.trans e3,e4,e5,e6,fun i' e j p x1 x2=> ?_⟩
   obtain⟨v,y1,y2⟩:=e7 i' e j p x1 x2
   exact⟨v,y1,y2.ch hm⟩
end
def cW:lD Value:= .of 1 (fun v=>[PV.s v]) (fun _=>rfl)
def N0(μ:Nat→Prop)(w:World)(sz:Nat)(o:Option Nat)(v:Value)(els:List (List PV)):Prop:=
 (o=none∧v= .slice none 0 0∧els=[])∨∃(b:Nat) (c:Array Value) (ty:TypeId) (cap:Nat),o=some b∧v= .slice (some ⟨b,0,none⟩) els.length cap∧els.length≤cap∧cap*sz≤c.size∧w.heap[b]? =some (.cells c ty (0,0))∧
  (∀e∈els,e.length=sz)∧(∀(i:Nat) e (j:Nat) p,els[i]? =some e→e[j]? =some p→∃u,c[i*sz+j]? =some u∧dr μ w u p)
theorem N0.ch{μ μ':Nat→Prop}{w w':World}{sz:Nat}{o:Option Nat}{v:Value}{els:List (List PV)}(h:N0 μ w sz o v els)(hb:∀b,o=some b→w'.heap[b]? =w.heap[b]?)(hp:∀u p,dr μ w u p→dr μ' w' u p):N0 μ' w' sz o v els:=by
 rcases h with h|⟨b,c,ty,cap,h1,h2,h3,h4,h5,h6,h7⟩
 ·exact .inl h
 ·refine .inr ⟨b,c,ty,cap,h1,h2,h3,h4,(hb b h1).trans h5,h6,fun i e j p x1 x2=> ?_⟩
  obtain⟨u,y1,y2⟩:=h7 i e j p x1 x2
  exact⟨u,y1,hp u p y2⟩
structure mz(n0 sz:Nat)(ι0:IM)(w0:World)(st0:St)(xss:List (List (List PV)))(V:List Value)(β:Nat→Option Nat)(ι:IM)(w:World)(st:St):Prop where
 len:V.length=xss.length
 inn:∀(i:Nat) els v,xss[i]? =some els→V[i]? =some v→N0 (fK ι st) w sz (β i) v els
 out:∀i,xss.length≤i→β i=none
 amb:∀x,ι.amb x↔ι0.amb x∨∃i,β i=some x
 new:∀i x,β i=some x→¬ι0.amb x
 inj:∀i j x,β i=some x→β j=some x→i=j
 os:w.os=w0.os
 tape:w.tape=w0.tape
 output:w.output=w0.output
 size:w0.heap.size≤w.heap.size
 blk:∀b:Nat,b<w0.heap.size→¬nV ι0 st0 b→w.heap[b]? =w0.heap[b]? ∧¬nV ι st b∧∀i,β i≠some b
 map:∀id,tA n0 [] id→id<st0.length→id<st.length∧ι id=ι0 id
 shp:∀(b:Nat) (c:Array Value) (ty:TypeId) (fz:Nat×Nat),w0.heap[b]? =some (.cells c ty fz)→∃c':Array Value,w.heap[b]? =some (.cells c' ty fz)∧c'.size=c.size
section
variable {n n0 sz:Nat} {ι0 ι:IM} {w0 w:World} {st0 st:St} {xss:List (List (List PV))} {V:List Value} {β:Nat→Option Nat}
theorem mz.zero(m:Nat):mz n0 sz ι0 w0 st0 (List.replicate m []) (List.replicate m (.slice none 0 0)) (fun _=>none) ι0 w0 st0 where
 len:=by simp
 inn i els v h1 h2:=by
  rw[List.getElem?_replicate]at h1 h2
  split at h1
  ·rename_i hi
   rw[if_pos hi]at h2
   cases h1;cases h2
   exact .inl ⟨rfl,rfl,rfl⟩
  ·cases h1
 out _ _:=rfl
 amb x:=by simp
 new i x h:=by cases h
 inj i j x h:=by cases h
 os:=rfl
 tape:=rfl
 output:=rfl
 size:=eo _
 blk b _ h:=⟨rfl,h,fun _ h=>by cases h⟩
 map id _ h:=⟨h,rfl⟩
 shp b c ty fz h:=⟨c,h,rfl⟩
theorem mz.stab:Ch n0 (mz n0 sz ι0 w0 st0 xss V β):=by
 intro ι w st ι' w' st' hR k h
 have hamb:∀i x,β i=some x→ι.amb x:=fun i x hx=>(h.amb x).2 (.inr ⟨i,hx⟩)
 have hblk:∀i x,β i=some x→w'.heap[x]? =w.heap[x]? :=fun i x hx=>(k.blk x (hR.amb x (hamb i x hx)) fun ho=>hR.dis x ho (hamb i x hx)).1
 exact{
  len:=h.len
  inn:=fun i els v h1 h2=>(h.inn i els v h1 h2).ch (fun b hb=>hblk i b hb) fun u p=>k.pure
  out:=h.out
  amb:=fun x=>by rw[k.amb];exact h.amb x
  new:=h.new
  inj:=h.inj
  os:=k.os.trans h.os
  tape:=k.tape.trans h.tape
  output:=k.output.trans h.output
  size:=Nat.le_trans h.size k.size
  blk:=fun b hb ho=>by
   obtain⟨e1,e2,e3⟩:=h.blk b hb ho
   obtain⟨e4,e5⟩:=k.blk b (Nat.lt_of_lt_of_le hb h.size) e2
   exact⟨e4.trans e1,e5,e3⟩
  map:=fun id hf hid=>by
   obtain⟨a1,a2⟩:=h.map id hf hid
   obtain⟨b1,b2⟩:=k.map id hf a1
   exact⟨b1,b2.trans a2⟩
  shp:=fun b c ty fz hb=>by
   obtain⟨c1,e1,s1⟩:=h.shp b c ty fz hb
   obtain⟨c2,e2,s2⟩:=k.shp b c1 ty fz e1
   exact⟨c2,e2,s2.trans s1⟩}
theorem At.sub{G:GT}(hG:Ch n0 G){fr fr1:Fr}{st st1:St}(hs:bW n n0 [] fr st fr1 st1){a:Act}{w:World}(hA:At n G fr st a w):At n G fr1 st1 a w:=by
 obtain⟨ι,hR,hF,hg⟩:=hA
 obtain⟨ι2,hR2,hF2,k⟩:=hs ι w a hR hF
 exact⟨ι2,hR2,hF2,hG hR k hg⟩
theorem mz.focus(hf:mz n0 sz ι0 w0 st0 xss V β ι w st)(hR:eu ι w st){i:Nat}{els:List (List PV)}{v:Value}(hx:xss[i]? =some els)(hv:V[i]? =some v):
  ∃ι1:IM,eu ι1 w (st++[.arr sz els])∧(∀{a:Act} {fr:Fr},fU n ι w st a fr→fU n ι1 w (st++[.arr sz els]) a fr)∧bX ι1 w (st++[.arr sz els]) v (.sl st.length sz 0 els.length)∧
   mz n0 sz ι0 w0 st0 (xss.set i []) (V.set i (.slice none 0 0)) (fun j=>if j=i then none else β j) ι1 w (st++[.arr sz els]):=by
 have hin:=hf.inn i els v hx hv
 have hi:=(gN.1 hx).1
 let ι1:IM:=⟨fun id=>if id=st.length then β i else ι id,fun x=>ι.amb x∧β i≠some x⟩
 have hnew:ι1 st.length=β i:=by show(if _ then _ else _)=_;simp
 have hold:∀id,id<st.length→ι1 id=ι id:=fun id h=>by show(if _ then _ else _)=_;rw[if_neg (by omega)]
 have hl:∀id,id<st.length→id<(st++[aV.arr sz els]).length∧ι1 id=ι id:=fun id h=>⟨by simp;omega,hold id h⟩
 have get:∀(id:Nat) (o:aV),(st++[aV.arr sz els])[id]? =some o→(id<st.length∧st[id]? =some o)∨(id=st.length∧o= .arr sz els):=by
  intro id o h
  by_cases hlt:id<st.length
  ·rw[nq hlt]at h;exact .inl ⟨hlt,h⟩
  ·have:=(gN.1 h).1
   simp at this
   have e:id=st.length:=by omega
   subst e
   rw[List.getElem?_append_right (eo _)]at h
   simp at h
   exact .inr ⟨rfl,h.symm⟩
 have hba:∀x,β i=some x→ι.amb x:=fun x h=>(hf.amb x).2 (.inr ⟨i,h⟩)
 have own:∀x,nV ι1 (st++[.arr sz els]) x→nV ι st x∨β i=some x:=by
  rintro x ⟨id,o,h1,h2,h3⟩
  rcases get id o h1 with⟨g1,g2⟩ |⟨rfl,rfl⟩
  ·exact .inl ⟨id,o,g2,h2,(hold id g1).symm.trans h3⟩
  ·exact .inr (hnew.symm.trans h3)
 have hm:∀x,fK ι1 (st++[.arr sz els]) x→fK ι st x:=by
  rintro x (h|h)
  ·exact .inl h.1
  ·rcases own x h with h|h
   ·exact .inr h
   ·exact .inl (hba x h)
 have hlen:st.length<(st++[aV.arr sz els]).length:=by simp
 refine⟨ι1,⟨fun id o ho=> ?_,fun b hb=>hR.amb b hb.1,fun b hb ha=> ?_,fun id id' o o' b h1 h2 a1 a2 e1 e2=> ?_,fun b l h=>⟨fun h'=>(hR.gl b l h).1 (hm b h'),(hR.gl b l h).2⟩⟩,fun hF=>hF.ch hm hl,?_,?_⟩
 ·rcases get id o ho with⟨g1,g2⟩ |⟨rfl,rfl⟩
  ·exact(hR.obj id o g2).ch hm hl (hold id g1)
  ·rcases hin with⟨h1,h2,h3⟩ |⟨b,c,ty,cap,h1,h2,h3,h4,h5,h6,h7⟩
   ·exact .inl ⟨hnew.trans h1,h3⟩
   ·refine .inr ⟨b,c,ty,hnew.trans h1,h5,Nat.le_trans (Nat.mul_le_mul_right sz h3) h4,h6,fun i e j p x1 x2=> ?_⟩
    obtain⟨u,y1,y2⟩:=h7 i e j p x1 x2
    exact⟨u,y1,y2.ch hm⟩
 ·rcases own b hb with h|h
  ·exact hR.dis b h ha.1
  ·exact ha.2 h
 ·rcases get id o h1 with⟨g1,g2⟩ |⟨rfl,rfl⟩<;>rcases get id' o' h2 with⟨g3,g4⟩ |⟨rfl,rfl⟩
  ·exact hR.inj id id' o o' b g2 g4 a1 a2 ((hold id g1).symm.trans e1) ((hold id' g3).symm.trans e2)
  ·exact absurd (hba b (hnew.symm.trans e2)) (hR.dis b ⟨id,o,g2,a1,(hold id g1).symm.trans e1⟩)
  ·exact absurd (hba b (hnew.symm.trans e1)) (hR.dis b ⟨id',o',g4,a2,(hold id' g3).symm.trans e2⟩)
  ·rfl
 ·rcases hin with⟨h1,h2,h3⟩ |⟨b,c,ty,cap,h1,h2,h3,h4,h5,h6,h7⟩
  ·subst h2;subst h3
   exact .sn _ _ hlen (hnew.trans h1)
  ·subst h2
   have:=bX.sl (ι:=ι1) (w:=w) (st:=st++[.arr sz els]) st.length sz 0 els.length b cap hlen (hnew.trans h1) h3 ⟨c,ty,(0,0),h5,by simpa using h4⟩
   simpa using this
 ·exact{
     len:=by simp[hf.len]
     inn:=fun j e u h1 h2=>by
      by_cases e0:j=i
      ·subst e0
       rw[List.getElem?_set_self hi]at h1
       rw[List.getElem?_set_self (by rw[hf.len];exact hi)]at h2
       cases h1;cases h2
       exact .inl ⟨if_pos rfl,rfl,rfl⟩
      ·rw[List.getElem?_set_ne (Ne.symm e0)]at h1 h2
       simp only[if_neg e0]
       exact(hf.inn j e u h1 h2).ch (fun _ _=>rfl) fun u p=>dr.ch hm
     out:=fun j hj=>by
      simp only[List.length_set]at hj
      simp only[hf.out j hj]
      split<;>rfl
     amb:=fun x=>by
      show(ι.amb x∧β i≠some x)↔_
      constructor
      ·rintro⟨h1,h2⟩
       rcases(hf.amb x).1 h1 with h|⟨j,h⟩
       ·exact .inl h
       ·refine .inr ⟨j,?_⟩
        rw[if_neg (by rintro rfl;exact h2 h)];exact h
      ·rintro(h|⟨j,h⟩)
       ·exact⟨(hf.amb x).2 (.inl h),fun e=>hf.new i x e h⟩
       ·split at h
        ·cases h
        ·rename_i e
         exact⟨(hf.amb x).2 (.inr ⟨j,h⟩),fun e'=>e (hf.inj j i x h e')⟩
     new:=fun j x h=>by
      split at h
      ·cases h
      ·exact hf.new j x h
     inj:=fun j k x h1 h2=>by
      split at h1
      ·cases h1
      ·split at h2
       ·cases h2
       ·exact hf.inj j k x h1 h2
     os:=hf.os,tape:=hf.tape,output:=hf.output,size:=hf.size
     blk:=fun b hb ho=>by
      obtain⟨e1,e2,e3⟩:=hf.blk b hb ho
      refine⟨e1,fun h=> ?_,fun j h=> ?_⟩
      ·rcases own b h with h|h
       ·exact e2 h
       ·exact e3 i h
      ·split at h
       ·cases h
       ·exact e3 j h
     map:=fun id h1 h2=>by
      obtain⟨a1,a2⟩:=hf.map id h1 h2
      exact⟨(hl id a1).1,(hold id a1).trans a2⟩
     shp:=hf.shp}
theorem mz.unfocus(hf:mz n0 sz ι0 w0 st0 xss V β ι w st)(hR:eu ι w st){id i:Nat}{els:List (List PV)}{v:Value}(hst:st[id]? =some (.arr sz els))(hi:i<xss.length)(hβ:β i=none)(hv:bX ι w st v (.sl id sz 0 els.length)):
  ∃(ι1:IM) (β1:Nat→Option Nat),eu ι1 w (st.set id .dead)∧(∀{a:Act} {fr:Fr},fU n ι w st a fr→fU n ι1 w (st.set id .dead) a fr)∧
   mz n0 sz ι0 w0 st0 (xss.set i els) (V.set i v) β1 ι1 w (st.set id .dead):=by
 have hlt:=(gN.1 hst).1
 have hal:aV.alive (.arr sz els):=by simp[aV.alive]
 let ι1:IM:=⟨ι.m,fun x=>ι.amb x∨ι id=some x⟩
 have get:∀(j:Nat) (o:aV),(st.set id aV.dead)[j]? =some o→o.alive→j≠id∧st[j]? =some o:=by
  intro j o h ha
  by_cases e:j=id
  ·subst e
   rw[List.getElem?_set_self hlt]at h
   cases h
   exact absurd rfl ha
  ·rw[List.getElem?_set_ne (Ne.symm e)]at h
   exact⟨e,h⟩
 have own:∀x,nV ι1 (st.set id .dead) x→nV ι st x:=by
  rintro x ⟨j,o,h1,h2,h3⟩
  obtain⟨_,h1⟩:=get j o h1 h2
  exact⟨j,o,h1,h2,h3⟩
 have hown:∀x,ι id=some x→nV ι st x:=fun x h=>⟨id,_,hst,hal,h⟩
 have hm:∀x,fK ι1 (st.set id .dead) x→fK ι st x:=by
  rintro x ((h|h) |h)
  ·exact .inl h
  ·exact .inr (hown x h)
  ·exact .inr (own x h)
 have hl:∀j,j<st.length→j<(st.set id aV.dead).length∧ι1 j=ι j:=fun j h=>⟨by simpa using h,rfl⟩
 refine⟨ι1,fun j=>if j=i then ι id else β j,⟨fun j o ho=> ?_,fun b hb=> ?_,fun b hb ha=> ?_,fun j j' o o' b h1 h2 a1 a2 e1 e2=> ?_,fun b l h=>⟨fun h'=>(hR.gl b l h).1 (hm b h'),(hR.gl b l h).2⟩⟩,fun hF=>hF.ch hm hl,?_⟩
 ·by_cases ha:o= .dead
  ·subst ha;trivial
  ·exact(hR.obj j o (get j o ho ha).2).ch hm hl rfl
 ·rcases hb with h|h
  ·exact hR.amb b h
  ·exact hR.mut_lt (.inr (hown b h))
 ·obtain⟨j,o,h1,h2,h3⟩:=hb
  obtain⟨g1,g2⟩:=get j o h1 h2
  rcases ha with h|h
  ·exact hR.dis b ⟨j,o,g2,h2,h3⟩ h
  ·exact g1 (hR.inj j id o _ b g2 hst h2 hal h3 h)
 ·exact hR.inj j j' o o' b (get j o h1 a1).2 (get j' o' h2 a2).2 a1 a2 e1 e2
 ·exact{
    len:=by simp[hf.len]
    inn:=fun j e u h1 h2=>by
     by_cases e0:j=i
     ·subst e0
      rw[List.getElem?_set_self hi]at h1
      rw[List.getElem?_set_self (by rw[hf.len];exact hi)]at h2
      cases h1;cases h2
      simp only[if_pos]
      rcases hR.obj id _ hst with⟨q1,q2⟩ |⟨b,c,ty,q1,q2,q3,q4,q5⟩
      ·subst q2
       cases hv with
       |sl _ _ _ _ b cap hid hb hcap hc=>rw[q1]at hb;cases hb
       |sn _ _ hid hb=>exact .inl ⟨q1,rfl,rfl⟩
      ·generalize hN:els.length=N at hv
       cases hv with
       |sn _ _ hid hb=>rw[q1]at hb;cases hb
       |sl _ _ _ _ b' cap hid hb hcap hc=>
        rw[q1]at hb
        cases hb
        obtain⟨c',ty',fz',r1,r2⟩:=hc
        rw[q2]at r1
        cases r1
        subst hN
        refine .inr ⟨b,c,ty,cap,q1,by simp,hcap,by simpa using r2,q2,q4,fun i e j p x1 x2=> ?_⟩
        obtain⟨u,y1,y2⟩:=q5 i e j p x1 x2
        exact⟨u,y1,y2.ch hm⟩
     ·rw[List.getElem?_set_ne (Ne.symm e0)]at h1 h2
      simp only[if_neg e0]
      exact(hf.inn j e u h1 h2).ch (fun _ _=>rfl) fun u p=>dr.ch hm
    out:=fun j hj=>by
     simp only[List.length_set]at hj
     rw[if_neg (by omega)]
     exact hf.out j hj
    amb:=fun x=>by
     show(ι.amb x∨ι id=some x)↔_
     constructor
     ·rintro(h|h)
      ·rcases(hf.amb x).1 h with h|⟨j,h⟩
       ·exact .inl h
       ·refine .inr ⟨j,?_⟩
        rw[if_neg (by rintro rfl;rw[hβ]at h;cases h)];exact h
      ·exact .inr ⟨i,by rw[if_pos rfl];exact h⟩
     ·rintro(h|⟨j,h⟩)
      ·exact .inl ((hf.amb x).2 (.inl h))
      ·split at h
       ·exact .inr h
       ·exact .inl ((hf.amb x).2 (.inr ⟨j,h⟩))
    new:=fun j x h=>by
     split at h
     ·exact fun h'=>hR.dis x (hown x h) ((hf.amb x).2 (.inl h'))
     ·exact hf.new j x h
    inj:=fun j k x h1 h2=>by
     split at h1<;>split at h2
     ·omega
     ·exact absurd ((hf.amb x).2 (.inr ⟨k,h2⟩)) (hR.dis x (hown x h1))
     ·exact absurd ((hf.amb x).2 (.inr ⟨j,h1⟩)) (hR.dis x (hown x h2))
     ·exact hf.inj j k x h1 h2
    os:=hf.os,tape:=hf.tape,output:=hf.output,size:=hf.size
    blk:=fun b hb ho=>by
     obtain⟨e1,e2,e3⟩:=hf.blk b hb ho
     refine⟨e1,fun h=>e2 (own b h),fun j h=> ?_⟩
     split at h
     ·exact e2 (hown b h)
     ·exact e3 j h
    map:=fun id' h1 h2=>by
     obtain⟨a1,a2⟩:=hf.map id' h1 h2
     exact⟨(hl id' a1).1,a2⟩
    shp:=hf.shp}
theorem LH(r:eu ι w st){id sz i j:Nat}{pre post:List PV}{mid:List CV}{c:CV}(hid:st[id]? =some (.win sz i pre mid post))(hj:mid[j]? =some c):
  ∃v,bX ι w st v c∧∀c',bX ι w st v c'→eu ι w (st.set id (.win sz i pre (mid.set j c') post))∧bo all ι w st ι w (st.set id (.win sz i pre (mid.set j c') post)):=by
 obtain⟨b,cs,ty,e1,e2,hn,e3⟩:=r.obj id _ hid
 have ha:aV.alive (.win sz i pre mid post):=by simp[aV.alive]
 have hlt:=(gN.1 hj).1
 have hcell:(pre.map CV.pv++(mid++post.map CV.pv))[pre.length+j]? =some c:=by
  rw[List.getElem?_append_right (by simp),List.length_map,Nat.add_sub_cancel_left,nq hlt];exact hj
 have hl2:pre.length+j<(cs.toList.take (pre.length+(mid.length+post.length))).length:=by
  have:=e3.1
  rw[this];simp;omega
 refine⟨_,e3.2 (pre.length+j) _ c (gu hl2) hcell,fun c' h=> ?_⟩
 have k:=gK (body':= .win sz i pre (mid.set j c') post) hid ha e1 (oV.refl w b)
 refine⟨r.set hid ha e1 (oV.refl w b) ⟨b,cs,ty,e1,e2,hn,?_⟩,k⟩
 refine dv.mono' k ⟨by have:=e3.1;simpa using this,fun t v d h1 h2=> ?_⟩
 rw[List.length_set]at h1
 by_cases e:t=pre.length+j
 ·subst e
  rw[List.getElem?_append_right (by simp),List.length_map,Nat.add_sub_cancel_left,nq (by rw[List.length_set];exact hlt),List.getElem?_set_self hlt]at h2
  cases h2
  rw[gu hl2]at h1
  cases h1
  exact h
 ·refine e3.2 t v d h1 ?_
  by_cases ht:t<pre.length
  ·rw[nq (by simpa using ht)]at h2⊢;exact h2
  ·rw[List.getElem?_append_right (by simp;omega),List.length_map]at h2⊢
   by_cases ht2:t-pre.length<mid.length
   ·rw[nq (by rw[List.length_set];exact ht2),List.getElem?_set_ne (by omega)]at h2
    rw[nq ht2];exact h2
   ·rw[List.getElem?_append_right (by rw[List.length_set];omega),List.length_set]at h2
    rw[List.getElem?_append_right (by omega)];exact h2
theorem OC{P:Program}{lz an:List Nat}{Q:QT}{β:Type}{T:Option β}{r:β}{s:SS}(N M:Int)(k:GG P n n0 lz an r Q T (zJ n (.one (.sl (GQ (run P n an s)) 1 0 N.toNat)) (Lf (run P n an s) (.arr 1 (cW.els (List.replicate N.toNat (.slice none 0 0))))) (Do (run P n an s)) (run P n an s)))
  (hp:0≤N∧N≤M∧M≤4294967296)
  (he:Hx P an [[]] (run P n an s)=some ⟨.one (.sl (GQ (run P n an s)) 1 0 N.toNat),Lf (run P n an s) (.arr 1 (List.replicate N.toNat (cW.cells (.slice none 0 0)))),[0≤N,N≤M,M≤4294967296],[[]],Do (run P n an s)⟩:=by kernel_rfl)(hm:uf n0 lz (Do (run P n an s))=true:=by kernel_rfl):GG P n n0 lz an r Q T s:=
 Ly he ⟨hp.1,hp.2.1,hp.2.2,trivial⟩ hm rfl (by rw[cW.rep]) k
theorem KW{P:Program}{c:Code}{fr fr1:Fr}{st st1:St}{e1:Exit}{an:List Nat}(h:GG P n n0 [] an () (pU n n0 e1 fr1 st1) (some ()) ⟨[.c c],fr,st,[]⟩):XW P n n0 [] c (pU n n0 e1 fr1 st1) fr st:=h.go rfl
theorem Ow{P:Program}{fr1:Fr}{st1:St}{e1:Exit}{an:List Nat}{r:Unit}{T:Option Unit}{s:SS}(he:MW n0 fr1 st1 s.fr s.st=some (fr1,st1):=by kernel_rfl):RE P n n0 [] an r e1 (pU n n0 e1 fr1 st1) T s:=
 ⟨fun _=>⟨rfl,sd he⟩⟩
theorem nu{P:Program}{c c':Code}{Q:Exit→Act→World→Prop}{a:Act}{w:World}(h:c=c')(k:c'.wp P Q a w):c.wp P Q a w:=h▸k
theorem yz{P:Program}{x:Code}{Q:Exit→Act→World→Prop}(k:Nat){a:Act}{w:World}(h:rnd P x Q k a w):(Code.loop x).wp P Q a w:=by
 intro b kk cs
 obtain⟨e,a',w',hq,harr⟩:=vy k a w h b kk cs
 exact⟨e,a',w',hq,.of_steps (.one step_loop) harr⟩
end
section
variable {n n0 sz:Nat} {ι0 ι:IM} {w0 w:World} {st0 st:St} {xss:List (List (List PV))} {V:List Value} {β:Nat→Option Nat}
theorem BQ(l m:List Value):cW.els (l++m)=cW.els l++cW.els m:=by simp[cW.hels]
theorem D0{i:Nat}{v:Value}(h:V[i]? =some v):cW.els V=cW.els (V.take i)++[PV.s v]::cW.els (V.drop (i+1)):=by
 obtain⟨hl,hv⟩:=gN.1 h
 have e:V=V.take i++v::V.drop (i+1):=by rw[←hv,←List.drop_eq_getElem_cons hl,List.take_append_drop]
 conv=>lhs;rw[e,BQ]
 rfl
theorem F8{i:Nat}{v:Value}(h:i<V.length):V.set i v=V.take i++v::V.drop (i+1):=by
 rw[List.set_eq_take_append_cons_drop,if_pos h]
theorem yc{l:List Value}:∀e∈cW.els l,e.length=1:=fun e he=>by
 rw[cW.hels,List.mem_map]at he
 obtain⟨v,_,rfl⟩:=he
 rfl
theorem xS(l:List Value):(cW.els l).length=l.length:=cW.len l
theorem vz{S:St}{b:aV}{l:St}:(S++b::l)[S.length]? =some b:=by simp
theorem wU{S:St}{b b':aV}{l:St}:(S++b::l).set S.length b'=S++b'::l:=by simp
theorem mz.opn{fr:Fr}{S:St}{i:Nat}{els:List (List PV)}{a:Act}(hA:At n (mz n0 sz ι0 w0 st0 xss V β) fr (S++[.arr 1 (cW.els V)]) a w)(hx:xss[i]? =some els):
  ∃β1,β1 i=none∧At n (mz n0 sz ι0 w0 st0 (xss.set i []) (V.set i (.slice none 0 0)) β1) fr (S++[.win 1 i (cW.els (V.take i)).flatten [.sl (S.length+1) sz 0 els.length] (cW.els (V.drop (i+1))).flatten,.arr sz els]) a w:=by
 have hlen:V.length=xss.length:=hA.choose_spec.2.2.len
 have hi:=(gN.1 hx).1
 obtain⟨v,hv⟩:∃v,V[i]? =some v:=⟨_,gu (by omega)⟩
 have hA:=hA.sub mz.stab (bW.wopen (id:=S.length) (els:=cW.els (V.take i)) (ps:=[PV.s v]) (els2:=cW.els (V.drop (i+1))) (by rw[D0 hv];exact vz))
 rw[wU,xS,List.length_take,Nat.min_eq_left (by omega)]at hA
 obtain⟨ι,hR,hF,hf⟩:=hA
 obtain⟨ι1,hR1,hF1,hv1,hf1⟩:=hf.focus (n:=n) hR hx hv
 have e1:S++[aV.win 1 i (cW.els (V.take i)).flatten ([PV.s v].map CV.pv) (cW.els (V.drop (i+1))).flatten]++[.arr sz els]=S++[.win 1 i (cW.els (V.take i)).flatten [.pv (.s v)] (cW.els (V.drop (i+1))).flatten,.arr sz els]:=by simp
 have e2:(S++[aV.win 1 i (cW.els (V.take i)).flatten ([PV.s v].map CV.pv) (cW.els (V.drop (i+1))).flatten]).length=S.length+1:=by simp
 rw[e2]at hv1
 have hF1:=hF1 hF
 rw[e1]at hR1 hv1 hf1 hF1
 obtain⟨hR2,k⟩:=KZ hR1 (id:=S.length) (j:=0) (c':= .sl (S.length+1) sz 0 els.length) vz rfl (fun u hu=>by
  have:=bi (aN.one _ _ hu)
  subst this
  exact hv1)
 rw[wU]at hR2 k
 exact⟨_,if_pos rfl,ι1,hR2,hF1.mono' k,mz.stab hR1 (k.weaken fun _ _=>trivial) hf1⟩
theorem mz.clo{fr:Fr}{S:St}{i:Nat}{els':List (List PV)}{a:Act}(hA:At n (mz n0 sz ι0 w0 st0 (xss.set i []) (V.set i (.slice none 0 0)) β) fr (S++[.win 1 i (cW.els (V.take i)).flatten [.sl (S.length+1) sz 0 els'.length] (cW.els (V.drop (i+1))).flatten,.arr sz els']) a w)
  (hi:i<xss.length)(hβ:β i=none)(hd:∀V:List Value,bW n n0 [] fr (S++[.arr 1 (cW.els V),.dead]) fr (S++[.arr 1 (cW.els V)])):
  ∃V' β',At n (mz n0 sz ι0 w0 st0 (xss.set i els') V' β') fr (S++[.arr 1 (cW.els V')]) a w:=by
 obtain⟨ι,hR,hF,hf⟩:=hA
 have hlen:V.length=xss.length:=by have:=hf.len;simpa using this
 obtain⟨v,hv,hre⟩:=LH hR (id:=S.length) (j:=0) (c:= .sl (S.length+1) sz 0 els'.length) vz rfl
 have hp:oo v=true:=by
  generalize els'.length=N at hv
  cases hv<;>rfl
 obtain⟨hR2,k⟩:=hre (.pv (.s v)) (.pv _ _ (.s _ hp))
 rw[wU]at hR2 k
 have hF2:=hF.mono' k
 have hf2:=mz.stab hR (k.weaken fun _ _=>trivial) hf
 have hv2:=hv.mono' k
 have hst:(S++[aV.win 1 i (cW.els (V.take i)).flatten ([CV.sl (S.length+1) sz 0 els'.length].set 0 (.pv (.s v))) (cW.els (V.drop (i+1))).flatten,.arr sz els'])[S.length+1]? =some (.arr sz els'):=by
  rw[List.getElem?_append_right (by omega),Nat.add_sub_cancel_left];rfl
 obtain⟨ι1,β1,hR3,hF3,hf3⟩:=hf2.unfocus (n:=n) hR2 (i:=i) (v:=v) hst (by simpa using hi) hβ hv2
 have hF3:=hF3 hF2
 have e3:(S++[aV.win 1 i (cW.els (V.take i)).flatten ([CV.sl (S.length+1) sz 0 els'.length].set 0 (.pv (.s v))) (cW.els (V.drop (i+1))).flatten,.arr sz els']).set (S.length+1) .dead=S++[aV.win 1 i (cW.els (V.take i)).flatten ([PV.s v].map CV.pv) (cW.els (V.drop (i+1))).flatten,.dead]:=by
  rw[List.set_append,if_neg (by omega),Nat.add_sub_cancel_left];rfl
 rw[e3]at hR3 hF3 hf3
 rw[List.set_set,List.set_set]at hf3
 have hA3:At n (mz n0 sz ι0 w0 st0 (xss.set i els') (V.set i v) β1) fr _ a w:=⟨ι1,hR3,hF3,hf3⟩
 have hnum:(cW.els (V.take i)).length=i:=by rw[xS,List.length_take];omega
 have hA4:=hA3.sub mz.stab (bW.wclose (id:=S.length) (sz:=1) (i:=i) (els:=cW.els (V.take i)) (ps:=[PV.s v]) (els2:=cW.els (V.drop (i+1))) vz (fun e he=>by
  rcases List.mem_append.1 he with he|he
  ·exact yc e he
  ·rcases List.mem_cons.1 he with rfl|he
   ·rfl
   ·exact yc e he))
 rw[wU]at hA4
 have e4:cW.els (V.take i)++[PV.s v]::cW.els (V.drop (i+1))=cW.els (V.set i v):=by
  rw[F8 (by omega),BQ];rfl
 rw[e4]at hA4
 exact⟨V.set i v,β1,hA4.sub mz.stab (hd _)⟩
theorem mz.drop{fr:Fr}{a:Act}(hA:At n (mz n0 sz ι0 w0 st0 xss V β) fr st a w):∃ι,eu ι w st∧fU n ι w st a fr∧bo (tA n0 []) ι0 w0 st0 ι w st:=by
 obtain⟨ι,hR,hF,hf⟩:=hA
 have hm:∀x,fK ⟨ι.m,ι0.amb⟩ st x→fK ι st x:=by
  rintro x (h|h)
  ·exact .inl ((hf.amb x).2 (.inl h))
  ·exact .inr h
 have hl:∀j,j<st.length→j<st.length∧(⟨ι.m,ι0.amb⟩:IM) j=ι j:=fun j h=>⟨h,rfl⟩
 refine⟨⟨ι.m,ι0.amb⟩,⟨fun j o ho=>(hR.obj j o ho).ch hm hl rfl,fun b hb=>hR.amb b ((hf.amb b).2 (.inl hb)),fun b hb ha=>hR.dis b hb ((hf.amb b).2 (.inl ha)),hR.inj,fun b l h=>⟨fun h'=>(hR.gl b l h).1 (hm b h'),(hR.gl b l h).2⟩⟩,hF.ch hm hl,⟨hf.os,hf.tape,hf.output,hf.size,rfl,fun b hb ho=> ?_,hf.map,hf.shp⟩⟩
 obtain⟨e1,e2,_⟩:=hf.blk b hb ho
 exact⟨e1,e2⟩
theorem mz.fin{fr:Fr}{S:St}{a:Act}{d:Nat}(hA:At n (mz n0 sz ι0 w0 st0 xss V β) fr (S++[.arr 1 (cW.els V)]) a w)(hd:lk fr d= .one (.sl S.length 1 0 xss.length)):
  ∃ι,eu ι w (S++[.dead])∧fU n ι w (S++[.dead]) a ((d,.one (.pv (.ro (xss.map fun els=>[PV.ro els]))))::fr)∧bo (tA n0 []) ι0 w0 st0 ι w (S++[.dead]):=by
 obtain⟨ι,hR,hF,hf⟩:=hA
 have hst:(S++[aV.arr 1 (cW.els V)])[S.length]? =some (.arr 1 (cW.els V)):=vz
 have hal:aV.alive (.arr 1 (cW.els V)):=by simp[aV.alive]
 let ι1:IM:=⟨ι.m,ι0.amb⟩
 have get:∀(j:Nat) (o:aV),(S++[aV.dead])[j]? =some o→o.alive→j≠S.length∧(S++[aV.arr 1 (cW.els V)])[j]? =some o:=by
  intro j o h ha
  by_cases hj:j<S.length
  ·rw[nq hj]at h
   exact⟨by omega,by rw[nq hj];exact h⟩
  ·have:=(gN.1 h).1
   simp at this
   have e:j=S.length:=by omega
   subst e
   rw[vz]at h
   cases h
   exact absurd rfl ha
 have own:∀x,nV ι1 (S++[.dead]) x→nV ι (S++[.arr 1 (cW.els V)]) x∧ι S.length≠some x:=by
  rintro x ⟨j,o,h1,h2,h3⟩
  obtain⟨g1,g2⟩:=get j o h1 h2
  exact⟨⟨j,o,g2,h2,h3⟩,fun e=>g1 (hR.inj j _ o _ x g2 hst h2 hal h3 e)⟩
 have hm:∀x,fK ι1 (S++[.dead]) x→fK ι (S++[.arr 1 (cW.els V)]) x:=by
  rintro x (h|h)
  ·exact .inl ((hf.amb x).2 (.inl h))
  ·exact .inr (own x h).1
 have hl:∀j,j<(S++[aV.arr 1 (cW.els V)]).length→j<(S++[aV.dead]).length∧ι1 j=ι j:=fun j h=>⟨by simpa using h,rfl⟩
 have hR1:eu ι1 w (S++[.dead]):=by
  refine⟨fun j o ho=> ?_,fun b hb=>hR.amb b ((hf.amb b).2 (.inl hb)),fun b hb ha=>hR.dis b (own b hb).1 ((hf.amb b).2 (.inl ha)),fun j j' o o' b h1 h2 a1 a2 e1 e2=>hR.inj j j' o o' b (get j o h1 a1).2 (get j' o' h2 a2).2 a1 a2 e1 e2,fun b l h=>⟨fun h'=>(hR.gl b l h).1 (hm b h'),(hR.gl b l h).2⟩⟩
  by_cases ha:o= .dead
  ·subst ha;trivial
  ·exact(hR.obj j o (get j o ho ha).2).ch hm hl rfl
 have key:∀u,bX ι w (S++[.arr 1 (cW.els V)]) u (.sl S.length 1 0 xss.length)→dr (fK ι1 (S++[.dead])) w u (.ro (xss.map fun els=>[PV.ro els])):=by
  intro u hu
  have hinn:∀(i:Nat) els v,xss[i]? =some els→V[i]? =some v→dr (fK ι1 (S++[.dead])) w v (.ro els):=by
   intro i els v h1 h2
   rcases hf.inn i els v h1 h2 with⟨q1,q2,q3⟩ |⟨b,c,ty,cap,q1,q2,q3,q4,q5,q6,q7⟩
   ·subst q2;subst q3;exact .nl
   ·subst q2
    have hamb:ι.amb b:=(hf.amb b).2 (.inr ⟨i,q1⟩)
    have hcell:∀k,w.cell? ⟨b,k,none⟩=c[k]? :=fun k=>by simp[World.cell?,q5]
    refine .ro ⟨b,0,none⟩ cap sz els (fun i j=>c.getD (i*sz+j) undef) q3 q6 (fun _=>⟨hR.amb b hamb,fun hmu=> ?_⟩) (fun i e j p x1 x2=> ?_) (fun i e j p x1 x2=> ?_)
    ·rcases hmu with h|h
     ·exact hf.new i b q1 h
     ·exact hR.dis b (own b h).1 hamb
    ·obtain⟨u,y1,y2⟩:=q7 i e j p x1 x2
     rw[show(Addr.add ⟨b,0,none⟩ (i*sz+j))=⟨b,i*sz+j,none⟩ by unfold Addr.add;split<;>simp_all,hcell,y1]
     simp only[Array.getD_eq_getD_getElem?,y1,Option.getD_some]
    ·obtain⟨u,y1,y2⟩:=q7 i e j p x1 x2
     simp only[Array.getD_eq_getD_getElem?,y1,Option.getD_some]
     exact y2.ch hm
  have ho:=hR.obj _ _ hst
  generalize hN:xss.length=N at hu
  cases hu with
  |sn _ _ hid hb=>
   have:xss=[]:=List.eq_nil_of_length_eq_zero hN
   subst this
   exact .nl
  |sl _ _ _ _ b cap hid hb hcap hc=>
   rcases ho with⟨q1,_⟩ |⟨b',c,ty,q1,q2,q3,q4,q5⟩
   ·rw[q1]at hb;cases hb
   ·rw[q1]at hb
    cases hb
    have hcell:∀k,w.cell? ⟨b,k,none⟩=c[k]? :=fun k=>by simp[World.cell?,q2]
    have hown:nV ι (S++[.arr 1 (cW.els V)]) b:=⟨_,_,hst,hal,q1⟩
    have hV:∀(i:Nat) els,xss[i]? =some els→∃v,V[i]? =some v∧c[i*1+0]? =some v:=fun i els h=>by
     have hi:=(gN.1 h).1
     obtain⟨x,hv⟩:∃x,V[i]? =some x:=⟨_,gu (by rw[hf.len];exact hi)⟩
     obtain⟨u,y1,y2⟩:=q5 i [PV.s x] 0 (.s x) (by rw[cW.hels,List.getElem?_map,hv];rfl) rfl
     cases y2 with
     |s _ _=>exact⟨_,hv,y1⟩
    have hlm:(xss.map fun els=>[PV.ro els]).length=N:=by rw[List.length_map,hN]
    rw[←hlm]at hcap⊢
    rw[show(0:Nat)*1=0 from rfl]
    have hget:∀(i:Nat) e (j:Nat) p,(xss.map fun els=>[PV.ro els])[i]? =some e→e[j]? =some p→∃els,xss[i]? =some els∧j=0∧p= .ro els:=by
     intro i e j p h1 h2
     rw[List.getElem?_map,mE]at h1
     obtain⟨els,h1,rfl⟩:=h1
     cases j with
     |zero=>simp at h2;exact⟨els,h1,rfl,h2.symm⟩
     |succ j=>simp at h2
    refine .ro ⟨b,0,none⟩ cap 1 _ (fun i j=>c.getD (i*1+j) undef) hcap (fun e he=> ?_) (fun _=>⟨hR.own_lt hown,fun hmu=> ?_⟩) (fun i e j p x1 x2=> ?_) (fun i e j p x1 x2=> ?_)
    ·rw[List.mem_map]at he
     obtain⟨_,_,rfl⟩:=he
     rfl
    ·rcases hmu with h|h
     ·exact hR.dis b hown ((hf.amb b).2 (.inl h))
     ·exact(own b h).2 q1
    ·obtain⟨els,g1,rfl,rfl⟩:=hget i e j p x1 x2
     obtain⟨v,g2,g3⟩:=hV i els g1
     rw[show(Addr.add ⟨b,0,none⟩ (i*1+0))=⟨b,i*1+0,none⟩ by unfold Addr.add;split<;>simp_all,hcell,g3]
     simp only[Array.getD_eq_getD_getElem?,g3,Option.getD_some]
    ·obtain⟨els,g1,rfl,rfl⟩:=hget i e j p x1 x2
     obtain⟨v,g2,g3⟩:=hV i els g1
     simp only[Array.getD_eq_getD_getElem?,g3,Option.getD_some]
     exact hinn i els v g1 g2
 have hF1:fU n ι1 w (S++[.dead]) a fr:=hF.ch hm hl
 refine⟨ι1,hR1,⟨hF1.defers,hF1.size,fun t=> ?_⟩,⟨hf.os,hf.tape,hf.output,hf.size,rfl,fun b hb ho=> ?_,fun id h1 h2=> ?_,hf.shp⟩⟩
 ·simp only[lk]
  cases hb:Nat.beq d t with
  |true=>
   have:=kW hb
   subst this
   rw[cond_true]
   have hs:=hF.slot d
   rw[hd]at hs
   exact .one _ _ (.pv _ _ (key _ (jL hs)))
  |false=>exact hF1.slot t
 ·obtain⟨e1,e2,e3⟩:=hf.blk b hb ho
  exact⟨e1,fun h=>e2 (own b h).1⟩
 ·obtain⟨a1,a2⟩:=hf.map id h1 h2
  exact⟨by simpa using a1,a2⟩
theorem At.segQ{P:Program}{c:Code}{Q1:QT}{fr:Fr}{G:GT}(hG:Ch n0 G)(h:XW P n n0 [] c Q1 fr st){a:Act}(hA:At n G fr st a w):c.wp P (fun e a' w'=>∃fr' st',Q1 e fr' st'∧At n G fr' st' a' w') a w:=by
 obtain⟨ι,hR,hF,hg⟩:=hA
 refine Go.wp_mono (h ι w a hR hF) ?_
 rintro e a' w' ⟨ι',fr',st',hq,hR',hF',k⟩
 exact⟨fr',st',hq,ι',hR',hF',hG hR k hg⟩
def Sq(P:Program)(n n0:Nat):List Code→Fr→St→Fr→St→Prop
 |[],fr,st,fr1,st1=>bW n n0 [] fr st fr1 st1
 |c::cs,fr,st,fr1,st1=>XW P n n0 [] c (eS (fun f s=>Sq P n n0 cs f s fr1 st1) KX) fr st
theorem Mr{P:Program}{an:List Nat}{fr fr1:Fr}{st st1:St}:∀{cs:List Code},GG P n n0 [] an () (eS (B0 n n0 fr1 st1).p KX) (some ()) ⟨cs.map It.c,fr,st,[]⟩→Sq P n n0 cs fr st fr1 st1:=by
 intro cs h
 have h:=h.go rfl
 suffices key:∀(cs:List Code) (fr:Fr) (st:St),QK P n n0 [] (cs.map It.c) (eS (B0 n n0 fr1 st1).p KX) .normal fr st→Sq P n n0 cs fr st fr1 st1 from key cs fr st h
 intro cs
 induction cs with
 |nil=>intro fr st h;exact h
 |cons c cs ih=>
  intro fr st h
  refine XW.mono (show XW P n n0 [] c (QK P n n0 [] (cs.map It.c) (eS (B0 n n0 fr1 st1).p KX)) fr st from h) fun e f s hq=> ?_
  have no:∀(cs:List Code) (e:Exit),e≠.normal→QK P n n0 [] (cs.map It.c) (eS (B0 n n0 fr1 st1).p KX) e f s→False:=by
   intro cs
   induction cs with
   |nil=>intro e he h;cases e<;>first|exact absurd rfl he|exact h
   |cons c cs ih=>intro e he h;cases e<;>first|exact absurd rfl he|exact ih _ he h
  cases e with
  |normal=>exact ih f s hq
  |_=>exact(no cs _ (by simp) hq).elim
theorem Sq.nx{P:Program}{c:Code}{cs:List Code}{fr fr1:Fr}{st1:St}{G:GT}(hG:Ch n0 G)(h:Sq P n n0 (c::cs) fr st fr1 st1){a:Act}(hA:At n G fr st a w):c.wp P (fun e a' w'=>e= .normal∧∃fr' st',At n G fr' st' a' w'∧Sq P n n0 cs fr' st' fr1 st1) a w:=by
 refine Go.wp_mono (hA.segQ hG h) ?_
 rintro e a' w' ⟨fr',st',hq,hA'⟩
 cases e with
 |normal=>exact⟨rfl,fr',st',hA',hq⟩
 |_=>exact hq.elim
theorem bo.stab:Ch n0 (fun ι w st=>bo (tA n0 []) ι0 w0 st0 ι w st):=fun _ k h=>h.trans k
def Mm:List Code→Code→Code
 |[],z=>z
 |c::cs,z=> .seq c (Mm cs z)
theorem KL{P:Program}{z:Code}{fr1:Fr}{st1:St}{G:GT}(hG:Ch n0 G):∀(cs:List Code) (fr:Fr) (st:St) (a:Act) (w:World),QK P n n0 [] (cs.map It.c) (pU n n0 .ret fr1 st1) .normal fr st→At n G fr st a w→(Mm cs z).wp P (fun e a w=>e= .ret∧At n G fr1 st1 a w) a w
 |[],fr,st,a,w,h,hA=>absurd h.1 (by simp)
 |c::cs,fr,st,a,w,h,hA=>by
  have h:XW P n n0 [] c (QK P n n0 [] (cs.map It.c) (pU n n0 .ret fr1 st1)) fr st:=h
  have no:∀(cs:List Code) (e:Exit) (f:Fr) (s:St),e≠.normal→QK P n n0 [] (cs.map It.c) (pU n n0 .ret fr1 st1) e f s→e= .ret∧bW n n0 [] f s fr1 st1:=by
   intro cs
   induction cs with
   |nil=>intro e f s he h;exact h
   |cons c cs ih=>intro e f s he h;cases e<;>first|exact absurd rfl he|exact ih _ _ _ he h
  refine Go.wp_seq (Go.wp_mono (hA.segQ hG h) ?_)
  rintro e a' w' ⟨fr',st',hq,hA'⟩
  cases e with
  |normal=>exact KL hG cs fr' st' a' w' hq hA'
  |_=>
   obtain⟨e1,e2⟩:=no cs _ _ _ (by simp) hq
   first|exact⟨rfl,hA'.sub hG e2⟩ |exact absurd e1 (by simp)
end
structure vP where
 f:{H:Type}→DataW H→Nat
 one:∀{H:Type} (d:DataW H),1≤f d
 str:∀{H:Type} (b:List UInt8),b.length+1≤f (DataW.lit (H:=H) (.string b))
 sl:∀{H:Type} (e s:List (DataW H)),(e.map f).sum+1≤f (.slice e s)
 ag:∀{H:Type} (ps:List (DataW H)),(ps.map f).sum+1≤f (.agg ps)
abbrev CC:Nat→Prop:=fun _=>False
def sL(w:World)(cs:List Value)(ps:List PV):Prop:=
 cs.length=ps.length∧∀(j:Nat) v p,cs[j]? =some v→ps[j]? =some p→dr CC w v p
theorem sL.one{w:World}{v:Value}{p:PV}(h:dr CC w v p):sL w [v] [p]:=by
 refine⟨rfl,fun j v' p' h1 h2=> ?_⟩
 cases j with
 |zero=>simp at h1 h2;subst h1;subst h2;exact h
 |succ j=>simp at h1
theorem sL.nil{w:World}:sL w [] []:=⟨rfl,fun j v p h=>by simp at h⟩
theorem sL.app{w:World}{cs:List Value}{p q:List PV}{n:Nat}(h:sL w (cs.take n) p)(k:sL w (cs.drop n) q)(hn:p.length=n):sL w cs (p++q):=by
 have e:cs=cs.take n++cs.drop n:=(List.take_append_drop n cs).symm
 refine⟨?_,fun j v x h1 h2=> ?_⟩
 ·have h1:=h.1;have h2:=k.1
  rw[List.length_append,←h1,←h2,←List.length_append,←e]
 ·by_cases hj:j<n
  ·rw[nq (by omega)]at h2
   refine h.2 j v x ?_ h2
   rw[List.getElem?_take,if_pos hj];exact h1
  ·rw[List.getElem?_append_right (by omega)]at h2
   refine k.2 (j-n) v x ?_ (by rw[←hn];exact h2)
   rw[List.getElem?_drop,show n+(j-n)=j by omega];exact h1
section
variable (B:vP) (P:Program)
def mM(N:Nat)(t:TypeId){α:Type}(cells:α→List PV)(wf:α→Prop)(size:α→Nat):Prop:=
 ∀⦃H:Type⦄ ⦃enc:TypeId×Value→H⦄ ⦃w:World⦄ ⦃base:Nat⦄ ⦃spare:Nat→Bool⦄ ⦃held:Bool⦄ ⦃aX:Nat⦄ ⦃cs:List Value⦄ ⦃d:DataW H⦄ ⦃ps:List MemPlace⦄,
  DataW.trod enc P w base spare held aX t cs=some (d,ps)→B.f d≤N→∃x,sL w cs (cells x)∧wf x∧size x≤B.f d
variable {B P}
theorem mM.int{N:Nat}{t:TypeId}{k:IntKind}(ht:P.underlying t=some (.int k)):mM B P N t (fun n:Int=>[.s (.int k n)]) (fun n=>k.min≤n∧n≤k.max) (fun _=>1):=by
 intro H enc w base spare held aX cs d ps h hN
 obtain⟨n,rfl,hx,hw⟩:=DataW.trod_int ht h
 refine⟨n,.one (.s _ rfl),?_,B.one d⟩
 simpa [Lit.wf]using hw
theorem mM.bool{N:Nat}{t:TypeId}(ht:P.underlying t=some .bool):mM B P N t (fun b:Bool=>[.s (.bool b)]) (fun _=>True) (fun _=>1):=by
 intro H enc w base spare held aX cs d ps h hN
 obtain⟨b,rfl,hx⟩:=DataW.trod_bool ht h
 exact⟨b,.one (.s _ rfl),trivial,B.one d⟩
theorem mM.str{N:Nat}{t:TypeId}(ht:P.underlying t=some .string):mM B P N t (fun s:ByteArray=>[.s (.string s)]) (fun _=>True) (fun s=>s.size+1):=by
 intro H enc w base spare held aX cs d ps h hN
 obtain⟨s,rfl,hx,hs⟩:=DataW.trod_string ht h
 simp only[ku]at hx
 obtain⟨rfl,rfl⟩:=hx
 refine⟨s,.one (.s _ rfl),trivial,?_⟩
 have:=B.str (H:=H) s.data.toList
 simpa using this
theorem Kr{w:World}{a:Addr}{v:Value}(h:w.cell? a=some v):a.block<w.heap.size:=by
 unfold World.cell? at h
 split at h
 ·rename_i h1;exact(Array.getElem?_eq_some_iff.1 h1).1
 ·cases h
theorem LQ{α:Type}{f:α→Nat}{l:List α}{x:α}(h:x∈l):f x≤(l.map f).sum:=by
 induction l with
 |nil=>cases h
 |cons y l ih=>
  simp only[List.map_cons,List.sum_cons]
  rcases List.mem_cons.1 h with rfl|h
  ·omega
  ·have:=ih h;omega
theorem BK{α β:Type}{q:Nat→α→β→Prop}:∀{l:List α},(∀(i:Nat) a,l[i]? =some a→∃b,q i a b)→∃bs:List β,bs.length=l.length∧∀(i:Nat) a b,l[i]? =some a→bs[i]? =some b→q i a b:=by
 intro l
 induction l generalizing q with
 |nil=>intro _;exact⟨[],rfl,fun i a b h=>by simp at h⟩
 |cons x l ih=>
  intro h
  obtain⟨b0,h0⟩:=h 0 x rfl
  obtain⟨bs,hl,hb⟩:=ih (q:=fun i=>q (i+1)) (fun i a hi=>h (i+1) a (by simpa using hi))
  refine⟨b0::bs,by simp[hl],fun i a b h1 h2=> ?_⟩
  cases i with
  |zero=>simp at h1 h2;subst h1;subst h2;exact h0
  |succ i=>exact hb i a b (by simpa using h1) (by simpa using h2)
theorem Ah{α β:Type}{f:α→Nat}{g:β→Nat}:∀{l:List α} {m:List β},m.length=l.length→(∀(i:Nat) a b,l[i]? =some a→m[i]? =some b→g b≤f a)→(m.map g).sum≤(l.map f).sum
 |[],[],_,_=>by simp
 |[],_::_,h,_=>by simp at h
 |_::_,[],h,_=>by simp at h
 |a::l,b::m,h,hk=>by
  have h0:=hk 0 a b rfl rfl
  have:=Ah (f:=f) (g:=g) (l:=l) (m:=m) (by simpa using h) (fun i x y h1 h2=>hk (i+1) x y (by simpa using h1) (by simpa using h2))
  simp only[List.map_cons,List.sum_cons]
  omega
theorem mM.slice{N:Nat}{t e:TypeId}{α:Type}{cells:α→List PV}{wf:α→Prop}{size:α→Nat}(ht:P.underlying t=some (.slice e))(hc:∀x,(cells x).length=P.cellsOf e)
  (hpos:0<P.cellsOf e)(h:∀N',N'<N→mM B P N' e cells wf size):
  mM B P N t (fun xs:List α=>[.ro (xs.map cells)]) (fun xs=>∀x∈xs,wf x) (fun xs=>(xs.map size).sum+1):=by
 intro H enc w base spare held aX cs d ps hd hN
 rcases DataW.trod_slice ht hd with⟨rfl,hx⟩ |⟨a,len,cap,elems,rest,n,_,rfl,hx,hb,hl,hm,hlen,hel,_,_⟩
 ·exact⟨[],.one .nl,by simp,by simpa using B.one d⟩
 simp only[ku]at hx
 obtain⟨rfl,rfl⟩:=hx
 have hsum:=B.sl (elems.map (·.1)) (rest.map (·.1))
 have hel':∀(i:Nat) z,elems[i]? =some z→∃x:α,(∃cs',w.cells? base (a.add (i*P.cellsOf e)) (P.cellsOf e)=some cs'∧sL w cs' (cells x))∧wf x∧size x≤B.f z.1:=by
  intro i z hz
  have hi:i<len:=by rw[←hlen];exact(gN.1 hz).1
  have hk:=hel i hi
  rw[hz]at hk
  obtain⟨cs',h1,h2⟩:=Option.bind_eq_some_iff.1 hk
  have hle:B.f z.1≤((elems.map (·.1)).map B.f).sum:=LQ (f:=B.f) (List.mem_map.2 ⟨z,List.mem_of_getElem? hz,rfl⟩)
  obtain⟨x,k1,k2,k3⟩:=h (B.f z.1) (by omega) (d:=z.1) (ps:=z.2) h2 (eo _)
  exact⟨x,⟨cs',h1,k1⟩,k2,k3⟩
 obtain⟨xs,hxl,hxs⟩:=BK hel'
 have hxlen:xs.length=len:=by omega
 have key:∀(i:Nat) x,xs[i]? =some x→∃z,elems[i]? =some z∧(∃cs',w.cells? base (a.add (i*P.cellsOf e)) (P.cellsOf e)=some cs'∧sL w cs' (cells x))∧wf x∧size x≤B.f z.1:=by
  intro i x hx
  have hi:i<elems.length:=by rw[←hxl];exact(gN.1 hx).1
  exact⟨_,gu hi,hxs i _ x (gu hi) hx⟩
 refine⟨xs,.one ?_,?_,?_⟩
 ·have hcell:∀(i:Nat) (ee:List PV) (j:Nat) c,(xs.map cells)[i]? =some ee→ee[j]? =some c→∃v,w.cell? (a.add (i*P.cellsOf e+j))=some v∧dr CC w v c:=by
   intro i ee j c h1 h2
   rw[List.getElem?_map,mE]at h1
   obtain⟨x,hx,rfl⟩:=h1
   obtain⟨z,_,⟨cs',hcs,hrd⟩,_,_⟩:=key i x hx
   obtain⟨_,hcl,hcc⟩:=World.cells?_some hcs
   have hj:j<P.cellsOf e:=by rw[←hc x];exact(gN.1 h2).1
   have:=hcc j hj
   rw[qn]at this
   have hget:cs'[j]? =some cs'[j]:=gu (by omega)
   exact⟨cs'[j],this.trans hget,hrd.2 j _ c hget h2⟩
  have:=dr.ro (μ:=CC) (w:=w) a cap (P.cellsOf e) (xs.map cells) (fun i j=>(w.cell? (a.add (i*P.cellsOf e+j))).getD undef) (by simpa [hxlen]using hl)
   (fun ee he=>by obtain⟨x,_,rfl⟩:=List.mem_map.1 he;exact hc x)
   (fun hne=>by
    refine⟨?_,fun h=>h⟩
    cases xs with
    |nil=>simp at hne
    |cons x0 r0=>
     have h0:0<(cells x0).length:=by rw[hc];exact hpos
     obtain⟨v,hv,_⟩:=hcell 0 (cells x0) 0 _ rfl (gu h0)
     have:=Kr hv
     rwa [pC]at this)
   (fun i ee j c h1 h2=>by obtain⟨v,hv,_⟩:=hcell i ee j c h1 h2;simp[hv])
   (fun i ee j c h1 h2=>by obtain⟨v,hv,hr⟩:=hcell i ee j c h1 h2;simpa [hv]using hr)
  rw[List.length_map,hxlen]at this
  exact this
 ·intro x hx
  obtain⟨i,hi,rfl⟩:=List.getElem_of_mem hx
  obtain⟨_,_,_,k,_⟩:=key i _ (gu hi)
  exact k
 ·have:(xs.map size).sum≤((elems.map (·.1)).map B.f).sum:=by
   rw[List.map_map]
   exact Ah (f:=B.f∘Prod.fst) (g:=size) hxl (fun i z x h1 h2=>(hxs i z x h1 h2).2.2)
  show(xs.map size).sum+1≤_
  omega
def wx(B:vP)(P:Program)(N:Nat)(off:Nat)(fs:List Field){α:Type}(cells:α→List PV)(wf:α→Prop)(size:α→Nat):Prop:=
 ∀⦃H:Type⦄ ⦃enc:TypeId×Value→H⦄ ⦃w:World⦄ ⦃base:Nat⦄ ⦃spare:Nat→Bool⦄ ⦃held:Bool⦄ ⦃n:Nat⦄ ⦃cs:List Value⦄ ⦃xs:List (DataW H×List MemPlace)⦄,
  xs.length=fs.length→(∀(i:Nat) f,fs[i]? =some f→DataW.trod enc P w base spare held n f.type ((cs.drop f.offset).take (P.cellsOf f.type))=xs[i]?)→((xs.map (·.1)).map B.f).sum≤N→
  cs.length=off+(fs.map fun f=>P.cellsOf f.type).sum→
  ∃x,sL w (cs.drop off) (cells x)∧wf x∧size x≤((xs.map (·.1)).map B.f).sum
theorem wx.nil{N off:Nat}:wx B P N off [] (fun _:Unit=>[]) (fun _=>True) (fun _=>0):=by
 intro H enc w base spare held n cs xs hl h hN hc
 refine⟨(),?_,trivial,Nat.zero_le _⟩
 have:cs.drop off=[]:=by simp at hc⊢;omega
 rw[this]
 exact .nil
theorem wx.cons{N off:Nat}{f:Field}{fs:List Field}{α β:Type}{c1:α→List PV}{w1:α→Prop}{s1:α→Nat}{c2:β→List PV}{w2:β→Prop}{s2:β→Nat}(ho:f.offset=off)(hc:∀x,(c1 x).length=P.cellsOf f.type)
  (h:mM B P N f.type c1 w1 s1)(k:wx B P N (off+P.cellsOf f.type) fs c2 w2 s2):wx B P N off (f::fs) (fun p:α×β=>c1 p.1++c2 p.2) (fun p=>w1 p.1∧w2 p.2) (fun p=>s1 p.1+s2 p.2):=by
 intro H enc w base spare held n cs xs hl hx hN hlen
 match xs,hl with
 |z::zs,hl=>
  simp only[List.map_cons,List.sum_cons]at hN hlen⊢
  have h0:=hx 0 f rfl
  obtain⟨x,a1,a2,a3⟩:=h (d:=z.1) (ps:=z.2) h0 (by omega)
  obtain⟨y,b1,b2,b3⟩:=k (xs:=zs) (cs:=cs) (by simpa using hl) (fun i g hg=>hx (i+1) g (by simpa using hg)) (by omega) (by omega)
  refine⟨(x,y),?_,⟨a2,b2⟩,by simp only;omega⟩
  rw[ho]at a1
  refine sL.app (n:=P.cellsOf f.type) a1 ?_ (hc x)
  rw[List.drop_drop]
  exact b1
theorem mM.struct{N:Nat}{t:TypeId}{fs:Array Field}{α β:Type}{c:β→List PV}{wf:β→Prop}{s:β→Nat}{cells:α→List PV}{wf':α→Prop}{size:α→Nat}(ht:P.underlying t=some (.struct fs))(hsz:P.cellsOf t=0+(fs.toList.map fun f=>P.cellsOf f.type).sum)
  (h:∀N',N'<N→wx B P N' 0 fs.toList c wf s)(mk:β→α)(h1:∀y,cells (mk y)=c y)(h2:∀y,wf y→wf' (mk y))(h3:∀y,size (mk y)≤s y+1):mM B P N t cells wf' size:=by
 intro H enc w base spare held aX cs d ps hd hN
 obtain⟨xs,n,_,hx,hlen,hxl,hf⟩:=DataW.trod_struct ht hd
 simp only[ku]at hx
 obtain⟨rfl,rfl⟩:=hx
 have hag:=B.ag (xs.map (·.1))
 obtain⟨y,a1,a2,a3⟩:=h _ (show((xs.map (·.1)).map B.f).sum<N by omega) (xs:=xs) (cs:=cs) (by simpa using hxl) (fun i f hi=>hf i f (by simpa using hi)) (eo _) (hlen.trans hsz)
 refine⟨mk y,?_,h2 y a2,?_⟩
 ·rw[h1];simpa using a1
 ·have:=h3 y;omega
theorem mM.conv{N:Nat}{t:TypeId}{α:Type}{c c':α→List PV}{wf wf':α→Prop}{s s':α→Nat}(h:mM B P N t c wf s)(h1:∀x,c' x=c x)(h2:∀x,wf x→wf' x)(h3:∀x,s' x≤s x):mM B P N t c' wf' s':=by
 intro H enc w base spare held aX cs d ps hd hN
 obtain⟨x,a1,a2,a3⟩:=h hd hN
 exact⟨x,by rw[h1];exact a1,h2 x a2,Nat.le_trans (h3 x) a3⟩
end
theorem dr.toVRel{w:World}{v:Value}{p:PV}(h:dr CC w v p):bX ⟨fun _=>none,fun _=>False⟩ w [] v (.pv p):=
 .pv v p (h.mono (eo _) (fun b _ _=>⟨rfl,fun hm=>by
  rcases hm with hm|⟨id,o,h1,_,_⟩
  ·exact hm
  ·simp at h1⟩))
theorem JM{w:World}{v:Value}{p:PV}(h:sL w [v] [p]):aN ⟨fun _=>none,fun _=>False⟩ w [] v (.one (.pv p)):= .one _ _ (h.2 0 v p rfl rfl).toVRel
theorem BS{B:vP}{P:Program}{H:Type}{enc:TypeId×Value→H}{w:World}{base b0:Nat}{spare:Nat→Bool}{held:Bool}{r:Reach}{t:TypeId}{v:Value}{d:DataW H}{ps:List MemPlace}{α:Type}{cells:α→List PV}{wf:α→Prop}{size:α→Nat}
  (h:∀N,mM B P N t cells wf size)(hval:Value.okWide P w r b0 t v)(hd:DataW.Trod enc P w base spare held t v d ps):
  ∃x,sL w v.cells.toList (cells x)∧wf x∧size x≤B.f d:=by
 obtain⟨aX,hd⟩:=hd
 exact h _ hd (eo _)
theorem Cc{w:World}{v:Value}{p:PV}(h:sL w v.cells.toList [p])(hv:∀cs,v≠.agg cs):aN ⟨fun _=>none,fun _=>False⟩ w [] v (.one (.pv p)):=by
 have e:v.cells= #[v]:=by cases v<;>first|rfl|exact absurd rfl (hv _)
 rw[e]at h
 exact JM h
theorem EJ{P:Program}{w:World}{r:Reach}{b0:Nat}{t:TypeId}{v:Value}(ht:(match P.underlying t with|some (.int _)=>true|some .bool=>true|some .string=>true|some (.slice _)=>true|_=>false)=true)(hval:Value.okWide P w r b0 t v):∀cs,v≠.agg cs:=by
 rintro cs rfl
 cases hu:P.underlying t with
 |none=>simp[hu]at ht
 |some d=>
  cases d<;>simp[hu]at ht<;>simp[Value.okWide,hu,Cell.okWide,Cell.ok]at hval
structure Dr(w w':World):Prop where
 os:w'.os=w.os
 output:w'.output=w.output
 size:w.heap.size≤w'.heap.size
 blk:∀b:Nat,b<w.heap.size→w'.heap[b]? =w.heap[b]?
theorem PC.call{P:Program}{f:Nat}{args:List AV}{r:AV}(h:PC P f args r){w:World}{vs:List Value}(hl:vs.length=args.length)(hA:∀(j:Nat) v a,vs[j]? =some v→args[j]? =some a→aN ⟨fun _=>none,fun _=>False⟩ w [] v a)(hg:∀(b:Nat) (l:List Value),C2 b=some l→b<w.heap.size∧Nl w b l):
  Calls P f vs.toArray w fun e w'=>∃v ι',e= .returned v∧aN ι' w' [] v r∧Dr w w':=by
 refine(h ⟨fun _=>none,fun _=>False⟩ w vs ⟨fun id o h=>by simp at h,fun b h=>h.elim,fun b h=>fun h'=>h',fun id id' o o' b h=>by simp at h,fun b o h=>⟨fun hm=>hm.elim id (fun⟨_,_,h1,_⟩=>by simp at h1),hg b o h⟩⟩ ⟨hl,hA⟩).mono ?_
 rintro e w' ⟨v,av,st',ι',rfl,⟨rfl,rfl⟩,hR,hv,k⟩
 refine⟨v,ι',rfl,hv,k.os,k.output,k.size,fun b hb=>(k.blk b hb ?_).1⟩
 rintro⟨id,o,h1,_⟩
 simp at h1
theorem Dr.keptBut{w w':World}(k:Dr w w')(may:MemPlace→Prop):w.keptBut w' may:=by
 refine⟨k.os,k.output,fun i hi=> ?_⟩
 rw[k.blk i hi]
 have:w.heap[i]? =some w.heap[i]:=Array.getElem?_eq_getElem hi
 rw[this]
 cases w.heap[i]with
 |cells c t fr=>exact⟨rfl,rfl,rfl,fun _ _=>rfl⟩
 |map es clock=>exact .inr ⟨rfl,rfl⟩
 |_=>rfl
theorem Dr.frozen{w w':World}(k:Dr w w'){b off:Nat}(hb:b<w.heap.size):w'.frozen? ⟨b,off,none⟩=w.frozen? ⟨b,off,none⟩:=by
 simp[World.frozen?,k.blk b hb]
open Go.ChangeShapes Go.WideElems Go.WideShapes in
theorem Ai{H:Type}{enc:TypeId×Value→H}{P:Program}{W W':World}(hl:laidOutB P=true)(k:Dr W W'){sp:Nat→Bool}:∀{ts:List TypeId} {vs:List Value} {ds:List (DataW H)} {ps:List MemPlace},(ts.all fun t=>P.readableRec t&&Nat.ble (t+1) P.types.size)=true→
  DataW.TrodAll enc P W 0 (fun _=>true) true ts vs ds ps→(∀p∈ps,p.block<W.heap.size)→(∀p∈ps,sp p.block=true)→DataW.TrodAll enc P W' 0 sp true ts vs ds ps
 |[],_,_,_,_,h,_,_=>by
  obtain⟨rfl,rfl,rfl⟩:=trodAll_nil h
  exact rfl
 |t::ts,_,_,_,hr,h,hp,hs=>by
  obtain⟨v,vs1,d,ds1,a,b,rfl,rfl,rfl,h1,h2⟩:=trodAll_cons h
  simp only[List.all_cons,fM]at hr
  refine⟨a,b,Trod_stays hl hr.1.1 (n4 hr.1.2) h1 (fun p hpa=> ?_) (fun p hpa=>hs p (by simp[hpa])),Ai hl k hr.2 h2 (fun p hpa=>hp p (by simp[hpa])) (fun p hpa=>hs p (by simp[hpa])),rfl⟩
  have:=hp p (by simp[hpa])
  cases p with
  |cell b off=>exact cell?_same (k.blk b this)
  |map b=>exact k.blk b this
open Go.ChangeShapes Go.RowKit Go.WideShapes Go.ChangeAt in
theorem Gv{H:Type}{enc:TypeId×Value→H}{P:Program}{f:Func}{s:ChangeSpec}{apart fresh handsOn again:Bool}{W W':World}{args:Array Value}{ds gs:List (DataW H)}{before:List MemPlace}
  (hW:DataW.Whole enc P f.params.toList s.vars apart W args.toList ds gs before)(hl:laidOutB P=true)(hr:(f.params.toList.all fun t=>P.readableRec t&&Nat.ble (t+1) P.types.size)=true)(k:Dr W W')
  (hvars:s.vars=[])(t:TypeId)(ht:f.resultTypes= #[t])(hb:P.underlying t=some .bool)(hsp:s.fn H ds={results:=[.lit (.bool true)],args:=ds}):
  s.post enc P f apart fresh handsOn again W args (.bool true) W':=by
 have hW':=hW
 have hlt:∀p∈before,p.block<W.heap.size:=fun p hp=>hW.lt p hp
 obtain⟨p,q,hA,hV,rfl,hz,hn⟩:=hW'
 rw[hvars]at hV
 obtain⟨rfl,rfl⟩:=trodVars_none hV
 have hres:∀(b:Nat) (sp:Nat→Bool) (hd:Bool),DataW.TrodAll enc P W' b sp hd f.resultTypes.toList ((Value.bool true).resultList f.resultTypes.size) [.lit (.bool true)] []:=by
  intro b sp hd
  rw[ht]
  exact trodAll_cons_mk (shut_bool hb _) trodAll_mk0
 simp only[List.append_nil]at*
 have hargs:∀sp:Nat→Bool,(∀x∈p,sp x.block=true)→DataW.TrodAll enc P W' 0 sp true f.params.toList args.toList ds p:=fun sp hs=>Ai hl k hr hA hlt hs
 have hold:∀x∈p,(fun b=>decide (b<W.heap.size)) x.block=true:=fun x hx=>by simpa using hlt x hx
 refine⟨ds,[],p,[],p,[],by simpa using hW,?_,?_,?_,k.keptBut _,fun _=>⟨?_,[.lit (.bool true)]++ds,[],p,⟨p,[],?_,?_,by simp,?_,hn⟩,?_⟩⟩
 ·simp only[List.append_nil,hsp];exact hres _ _ _
 ·simp only[List.append_nil,hsp];exact hargs _ hold
 ·simp only[List.append_nil,hsp,hvars];rfl
 ·exact ok_one ht rfl (okWide_bool_mk hb _)
 ·have:=trodAll_append (hargs (fun _=>true) (fun _ _=>rfl)) (hres 0 (fun _=>true) true)
  simpa using this
 ·rw[hvars];rfl
 ·intro b off hp
  rw[k.frozen (b:=b) (off:=off) (hlt _ hp)]
  exact hz b off hp
 ·intro x hx _;exact hx
theorem JZ{ι:IM}{w:World}{v:Value}{b:Bool}(h:aN ι w [] v (.one (.pv (.s (.bool b))))):v= .bool b:=by
 cases h with
 |one _ _ h=>
  cases h with
  |pv _ _ h=>cases h with|s=>rfl
def fieldsOf(P:Program)(t:TypeId):List Field:=match P.underlying t with
 |some (.struct fs)=>fs.toList
 |_=>[]
def lV(P:Program)(t:TypeId):Bool:=match P.underlying t with
 |some (.struct _)=>true
 |_=>false
def fld(P:Program)(t:TypeId)(i:Nat):Field:=(fieldsOf P t)[i]?.getD default
section
variable {B:vP} {P:Program}
theorem mM.structF{N:Nat}{t:TypeId}{L:List Field}{α β:Type}{c:β→List PV}{wf:β→Prop}{s:β→Nat}{cells:α→List PV}{wf':α→Prop}{size:α→Nat}(hu:lV P t=true)(hL:fieldsOf P t=L)(hsz:P.cellsOf t=0+(L.map fun f=>P.cellsOf f.type).sum)
  (h:∀N',N'<N→wx B P N' 0 L c wf s)(mk:β→α)(h1:∀y,cells (mk y)=c y)(h2:∀y,wf y→wf' (mk y))(h3:∀y,size (mk y)≤s y+1):mM B P N t cells wf' size:=by
 unfold lV at hu
 unfold fieldsOf at hL
 cases hd:P.underlying t with
 |none=>simp[hd]at hu
 |some d=>
  cases d<;>simp[hd]at hu
  rename_i fs
  simp only[hd]at hL
  subst hL
  exact mM.struct hd hsz h mk h1 h2 h3
end
abbrev nO(n:Int):Prop:=IntKind.min .i64≤n∧n≤IntKind.max .i64
theorem JV{B:vP}{P:Program}{wf:aa→Prop}{sz:aa→Nat}(tv ti ts tl:TypeId)(hi:P.underlying ti=some (.int .i64))(hs:P.underlying ts=some .string)(hl:P.underlying tl=some (.slice tv))(hu:lV P tv=true)
  (hL:fieldsOf P tv=[fld P tv 0,fld P tv 1,fld P tv 2,fld P tv 3,fld P tv 4])(hz:P.cellsOf tv=5∧P.cellsOf ti=1∧P.cellsOf ts=1∧P.cellsOf tl=1)
  (ht:(fld P tv 0).type=ti∧(fld P tv 1).type=ti∧(fld P tv 2).type=ti∧(fld P tv 3).type=ts∧(fld P tv 4).type=tl)
  (ho:(fld P tv 0).offset=0∧(fld P tv 1).offset=1∧(fld P tv 2).offset=2∧(fld P tv 3).offset=3∧(fld P tv 4).offset=4)
  (hwf:∀k n sc s it,nO k→nO n→nO sc→(∀x∈it,wf x)→wf ⟨k,n,sc,s,it⟩)(hsz:∀k n sc s it,sz ⟨k,n,sc,s,it⟩≤s.size+(it.map sz).sum+6):
  ∀N,mM B P N tv aa.cells wf sz:=by
 obtain⟨t0,t1,t2,t3,t4⟩:=ht
 obtain⟨o0,o1,o2,o3,o4⟩:=ho
 obtain⟨z0,z1,z2,z3⟩:=hz
 intro N
 induction N using Nat.strongRecOn with
 |_ N ih=>
  have I:∀(N:Nat) (f:Field),f.type=ti→mM B P N f.type (fun n:Int=>[PV.s (.int .i64 n)]) (fun n=>IntKind.min .i64≤n∧n≤IntKind.max .i64) (fun _=>1):=fun N f hf=>mM.int (by rw[hf];exact hi)
  have C:∀(f:Field),f.type=ti→∀x:Int,([PV.s (.int .i64 x)]:List PV).length=P.cellsOf f.type:=fun f hf x=>by rw[hf,z1];rfl
  refine mM.structF (α:=aa) (cells:=aa.cells) (wf':=wf) (size:=sz) hu hL (by simp[t0,t1,t2,t3,t4,z0,z1,z2,z3]) (fun N' hN'=>
   wx.cons o0 (C _ t0) (I N' _ t0) (wx.cons (by rw[o1,t0,z1]) (C _ t1) (I N' _ t1) (wx.cons (by rw[o2,t0,t1,z1]) (C _ t2) (I N' _ t2)
    (wx.cons (c1:=fun s:ByteArray=>[PV.s (.string s)]) (by rw[o3,t0,t1,t2,z1]) (fun x=>by rw[t3,z2];rfl) (mM.str (by rw[t3];exact hs))
     (wx.cons (c1:=fun xs:List aa=>[PV.ro (xs.map aa.cells)]) (by rw[o4,t0,t1,t2,t3,z1,z2]) (fun x=>by rw[t4,z3];rfl)
      (mM.slice (e:=tv) (by rw[t4];exact hl) (fun x=>by rw[z0];cases x;rfl) (by omega) (fun N'' hN''=>ih N'' (by omega))) wx.nil)))))
   (fun y=>(⟨y.1,y.2.1,y.2.2.1,y.2.2.2.1,y.2.2.2.2.1⟩:aa)) (fun y=> ?_) (fun y h=>hwf _ _ _ _ _ h.1 h.2.1 h.2.2.1 h.2.2.2.2.1) (fun y=> ?_)
  ·simp only[aa.cells,aa.lcells_eq]
   rfl
  ·have:=hsz y.1 y.2.1 y.2.2.1 y.2.2.2.1 y.2.2.2.2.1
   exact Nat.le_trans this (by show _≤1+(1+(1+((y.2.2.2.1).size+1+((y.2.2.2.2.1.map sz).sum+1+0))))+1;omega)
theorem EQ{B:vP}{P:Program}{wfT:aq→Prop}{szT:aq→Nat}{wfF:af→Prop}{szF:af→Nat}(tt tf ti ts tb:TypeId)(hi:P.underlying ti=some (.int .i64))(hs:P.underlying ts=some .string)(hb:P.underlying tb=some .bool)(hu:lV P tf=true)
  (hL:fieldsOf P tf=[fld P tf 0,fld P tf 1,fld P tf 2,fld P tf 3])(hz:P.cellsOf tf=6∧P.cellsOf tt=3∧P.cellsOf ti=1∧P.cellsOf ts=1∧P.cellsOf tb=1)
  (ht:(fld P tf 0).type=ti∧(fld P tf 1).type=ts∧(fld P tf 2).type=tb∧(fld P tf 3).type=tt)
  (ho:(fld P tf 0).offset=0∧(fld P tf 1).offset=1∧(fld P tf 2).offset=2∧(fld P tf 3).offset=3)
  (hwf:∀i n q t,nO i→wfT t→wfF ⟨i,n,q,t⟩)(hsz:∀i n q t,szF ⟨i,n,q,t⟩≤n.size+szT t+4){N:Nat}(ih:∀N',N'<N→mM B P N' tt aq.cells wfT szT):
  mM B P N tf aq.fcell wfF szF:=by
 obtain⟨t0,t1,t2,t3⟩:=ht
 obtain⟨o0,o1,o2,o3⟩:=ho
 obtain⟨z0,z1,z2,z3,z4⟩:=hz
 refine mM.structF (α:=af) (cells:=aq.fcell) (wf':=wfF) (size:=szF) hu hL (by simp[t0,t1,t2,t3,z0,z1,z2,z3,z4]) (fun N' hN'=>
  wx.cons (c1:=fun n:Int=>[PV.s (.int .i64 n)]) o0 (fun x=>by rw[t0,z2];rfl) (mM.int (by rw[t0];exact hi))
   (wx.cons (c1:=fun s:ByteArray=>[PV.s (.string s)]) (by rw[o1,t0,z2]) (fun x=>by rw[t1,z3];rfl) (mM.str (by rw[t1];exact hs))
    (wx.cons (c1:=fun b:Bool=>[PV.s (.bool b)]) (by rw[o2,t0,t1,z2,z3]) (fun x=>by rw[t2,z4];rfl) (mM.bool (by rw[t2];exact hb))
     (wx.cons (c1:=aq.cells) (by rw[o3,t0,t1,t2,z2,z3,z4]) (fun x=>by rw[t3,z1];cases x;rfl) (by rw[t3];exact ih N' hN') wx.nil))))
  (fun y=>(⟨y.1,y.2.1,y.2.2.1,y.2.2.2.1⟩:af)) (fun y=> ?_) (fun y h=>hwf _ _ _ _ h.1 h.2.2.2.1) (fun y=> ?_)
 ·simp only[aq.fcell,List.append_nil]
  rfl
 ·have:=hsz y.1 y.2.1 y.2.2.1 y.2.2.2.1
  exact Nat.le_trans this (by show _≤1+((y.2.1).size+1+(1+(szT y.2.2.2.1+0)))+1;omega)
theorem LM{B:vP}{P:Program}{wfT:aq→Prop}{szT:aq→Nat}{wfF:af→Prop}{szF:af→Nat}(tt tf ti ts tb tl:TypeId)(hi:P.underlying ti=some (.int .i64))(hs:P.underlying ts=some .string)(hb:P.underlying tb=some .bool)
  (hl:P.underlying tl=some (.slice tf))(hu:lV P tf=true)(hu':lV P tt=true)
  (hL:fieldsOf P tf=[fld P tf 0,fld P tf 1,fld P tf 2,fld P tf 3])(hL':fieldsOf P tt=[fld P tt 0,fld P tt 1,fld P tt 2])(hz:P.cellsOf tf=6∧P.cellsOf tt=3∧P.cellsOf ti=1∧P.cellsOf ts=1∧P.cellsOf tb=1)(hzl:P.cellsOf tl=1)
  (ht:(fld P tf 0).type=ti∧(fld P tf 1).type=ts∧(fld P tf 2).type=tb∧(fld P tf 3).type=tt)
  (ho:(fld P tf 0).offset=0∧(fld P tf 1).offset=1∧(fld P tf 2).offset=2∧(fld P tf 3).offset=3)
  (ht':(fld P tt 0).type=ti∧(fld P tt 1).type=ti∧(fld P tt 2).type=tl)
  (ho':(fld P tt 0).offset=0∧(fld P tt 1).offset=1∧(fld P tt 2).offset=2)
  (hwf:∀i n q t,nO i→wfT t→wfF ⟨i,n,q,t⟩)(hsz:∀i n q t,szF ⟨i,n,q,t⟩≤n.size+szT t+4)
  (hwf':∀k s fs,nO k→nO s→(∀f∈fs,wfF f)→wfT ⟨k,s,fs⟩)(hsz':∀k s fs,szT ⟨k,s,fs⟩≤(fs.map szF).sum+4):
  ∀N,mM B P N tt aq.cells wfT szT:=by
 intro N
 induction N using Nat.strongRecOn with
 |_ N ih=>
  have hF:∀N',N'≤N→mM B P N' tf aq.fcell wfF szF:=fun N' h=>EQ tt tf ti ts tb hi hs hb hu hL hz ht ho hwf hsz (fun N'' h''=>ih N'' (by omega))
  obtain⟨t0,t1,t2⟩:=ht'
  obtain⟨o0,o1,o2⟩:=ho'
  obtain⟨z0,z1,z2,z3,z4⟩:=hz
  refine mM.structF (α:=aq) (cells:=aq.cells) (wf':=wfT) (size:=szT) hu' hL' (by simp[t0,t1,t2,z1,z2,hzl]) (fun N' hN'=>
   wx.cons (c1:=fun n:Int=>[PV.s (.int .i64 n)]) o0 (fun x=>by rw[t0,z2];rfl) (mM.int (by rw[t0];exact hi))
    (wx.cons (c1:=fun n:Int=>[PV.s (.int .i64 n)]) (by rw[o1,t0,z2]) (fun x=>by rw[t1,z2];rfl) (mM.int (by rw[t1];exact hi))
     (wx.cons (c1:=fun xs:List af=>[PV.ro (xs.map aq.fcell)]) (by rw[o2,t0,t1,z2]) (fun x=>by rw[t2,hzl];rfl)
      (mM.slice (e:=tf) (by rw[t2];exact hl) (fun x=>by rw[z0];obtain⟨_,_,_,⟨_,_,_⟩⟩:=x;rfl) (by omega) (fun N'' hN''=>hF N'' (by omega))) wx.nil)))
   (fun y=>(⟨y.1,y.2.1,y.2.2.1⟩:aq)) (fun y=> ?_) (fun y h=>hwf' _ _ _ h.1 h.2.1 h.2.2.1) (fun y=> ?_)
  ·simp only[aq.cells,aq.fcells_eq]
   rfl
  ·have:=hsz' y.1 y.2.1 y.2.2.1
   exact Nat.le_trans this (by show _≤1+(1+((y.2.2.1.map szF).sum+1+0))+1;omega)
theorem HA{B:vP}{P:Program}{wfT:aq→Prop}{szT:aq→Nat}{wfF:af→Prop}{szF:af→Nat}{szL:List af→Nat}(tt tf ti ts tb tl:TypeId)(hi:P.underlying ti=some (.int .i64))(hs:P.underlying ts=some .string)(hb:P.underlying tb=some .bool)
  (hl:P.underlying tl=some (.slice tf))(hu:lV P tf=true)(hu':lV P tt=true)
  (hL:fieldsOf P tf=[fld P tf 0,fld P tf 1,fld P tf 2,fld P tf 3])(hL':fieldsOf P tt=[fld P tt 0,fld P tt 1,fld P tt 2])(hz:P.cellsOf tf=6∧P.cellsOf tt=3∧P.cellsOf ti=1∧P.cellsOf ts=1∧P.cellsOf tb=1)(hzl:P.cellsOf tl=1)
  (ht:(fld P tf 0).type=ti∧(fld P tf 1).type=ts∧(fld P tf 2).type=tb∧(fld P tf 3).type=tt)
  (ho:(fld P tf 0).offset=0∧(fld P tf 1).offset=1∧(fld P tf 2).offset=2∧(fld P tf 3).offset=3)
  (ht':(fld P tt 0).type=ti∧(fld P tt 1).type=ti∧(fld P tt 2).type=tl)
  (ho':(fld P tt 0).offset=0∧(fld P tt 1).offset=1∧(fld P tt 2).offset=2)
  (hwf:∀i n q t,nO i→wfT t→wfF ⟨i,n,q,t⟩)(hsz:∀i n q t,szF ⟨i,n,q,t⟩≤n.size+szT t+4)
  (hwf':∀k s fs,nO k→nO s→(∀f∈fs,wfF f)→wfT ⟨k,s,fs⟩)(hsz':∀k s fs,szT ⟨k,s,fs⟩≤(fs.map szF).sum+4)(hszl:∀xs,szL xs≤(xs.map szF).sum+1)(N:Nat):
  mM B P N tl (fun xs:List af=>[PV.ro (ab.els xs)]) (fun xs=>∀x∈xs,wfF x) szL:=by
 have hT:=LM (B:=B) (P:=P) tt tf ti ts tb tl hi hs hb hl hu hu' hL hL' hz hzl ht ho ht' ho' hwf hsz hwf' hsz'
 have hF:∀N,mM B P N tf aq.fcell wfF szF:=fun N=>EQ tt tf ti ts tb hi hs hb hu hL hz ht ho hwf hsz (fun N' _=>hT N')
 refine mM.conv (mM.slice (e:=tf) (cells:=aq.fcell) hl (fun x=>by rw[hz.1];obtain⟨_,_,_,⟨_,_,_⟩⟩:=x;rfl) (by rw[hz.1];omega) (fun N' _=>hF N')) (fun x=> ?_) (fun x h=>h) hszl
 show[PV.ro (aq.fcells x)]=_
 rw[aq.fcells_eq]
theorem Ha{B:vP}{P:Program}{wf:aa→Prop}{sz:aa→Nat}{szL:List aa→Nat}(tv ti ts tl:TypeId)(hi:P.underlying ti=some (.int .i64))(hs:P.underlying ts=some .string)(hl:P.underlying tl=some (.slice tv))(hu:lV P tv=true)
  (hL:fieldsOf P tv=[fld P tv 0,fld P tv 1,fld P tv 2,fld P tv 3,fld P tv 4])(hz:P.cellsOf tv=5∧P.cellsOf ti=1∧P.cellsOf ts=1∧P.cellsOf tl=1)
  (ht:(fld P tv 0).type=ti∧(fld P tv 1).type=ti∧(fld P tv 2).type=ti∧(fld P tv 3).type=ts∧(fld P tv 4).type=tl)
  (ho:(fld P tv 0).offset=0∧(fld P tv 1).offset=1∧(fld P tv 2).offset=2∧(fld P tv 3).offset=3∧(fld P tv 4).offset=4)
  (hwf:∀k n sc s it,nO k→nO n→nO sc→(∀x∈it,wf x)→wf ⟨k,n,sc,s,it⟩)(hsz:∀k n sc s it,sz ⟨k,n,sc,s,it⟩≤s.size+(it.map sz).sum+6)(hszl:∀xs,szL xs≤(xs.map sz).sum+1)(N:Nat):
  mM B P N tl (fun xs:List aa=>[PV.ro (ac.els xs)]) (fun xs=>∀x∈xs,wf x) szL:=by
 have hV:=JV (B:=B) (P:=P) tv ti ts tl hi hs hl hu hL hz ht ho hwf hsz
 refine mM.conv (mM.slice (e:=tv) (cells:=aa.cells) hl (fun x=>by rw[hz.1];cases x;rfl) (by rw[hz.1];omega) (fun N' _=>hV N')) (fun x=> ?_) (fun x h=>h) hszl
 show[PV.ro (aa.lcells x)]=_
 rw[aa.lcells_eq]
theorem Cj:∀xs:List Int,(xs.map (fun _=>(1:Nat))).sum=xs.length
 |[]=>rfl
 |x::l=>by rw[List.map_cons,List.sum_cons,Cj l,List.length_cons];omega
theorem Hk{B:vP}{P:Program}(tl ti:TypeId)(hl:P.underlying tl=some (.slice ti))(hi:P.underlying ti=some (.int .i64))(hz:P.cellsOf ti=1)(N:Nat):
  mM B P N tl (fun xs:List Int=>[PV.ro (eI.els xs)]) (fun xs=>∀x∈xs,nO x) (fun xs=>xs.length):=by
 refine mM.conv (mM.slice (e:=ti) (cells:=fun n:Int=>[PV.s (.int .i64 n)]) hl (fun x=>by rw[hz];rfl) (by rw[hz];omega) (fun N' _=>mM.int hi)) (fun x=>rfl) (fun x h=>h) (fun xs=> ?_)
 rw[Cj];omega
end Go.SX
