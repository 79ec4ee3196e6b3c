/- Assemble: the reference's builder on any parts. Assemble: the reference's builder on any parts: lists and records. Assemble: the reference's builder on any parts: all fields. Assemble: the reference's answer at any columns: rows. Assemble: the reference's answer at any columns. Assemble: the reference's builder puts together what was taken apart: entries and cuts. Assemble: the reference's builder puts together what was taken apart. Assemble: the reference's builder puts together what was taken apart: all fields. Assemble: the reference puts rows together that were taken apart. Assemble: the law. Assemble: columns of a size. Columns, read from a row. -/
import Derived.Test.YtnecojeemmnnaaaGreatDoorProg
import Derived.Test.YtnecojeemmnnaaaGreatDoorLaA
set_option linter.unusedVariables false
set_option linter.unusedSimpArgs false
set_option linter.unnecessarySimpa false
namespace Go.Proofs.YtnecojeemmnnaaaGreatDoor
open Go Go.SX Go.SX.Cal
open Go.IntKind (i64)
structure Lm(c:List ae)(u:List Nat):Prop where
 lu:u.length=c.length
 h:∀k,k<c.length→g0 u k≤(iJ c k).values.length
def oe(Es:List (List Pr)):Nat:=(Es.map List.length).sum
theorem CO(a b:List (List Pr)):oe (a++b)=oe a+oe b:=by simp[oe]
theorem Je:∀{Es:List (List Pr)},Es≠[]→(∀E∈Es,E≠[])→1≤oe Es
 |[],h,_=>absurd rfl h
 |E::Es,_,h=>by
  have:=List.length_pos_iff.2 (h E (List.mem_cons_self ..))
  simp[oe];omega
structure qu(c:List ae)(W:List iz)(a D n:Nat)(bad:Bool)(u:List Nat)(v:aa)(bad':Bool)(u':List Nat):Prop where
 ok:Lm c u'
 st:bad'=false→bad=false
 out:∀k,(k<a∨a+W.length≤k)→g0 u' k=g0 u k
 mono:∀k,g0 u k≤g0 u' k
 b:∀(j:Nat) w,W[j]? =some w→lv w v=nn (BA c (a+j) (g0 u (a+j)) (g0 u' (a+j)))
 sz:bad'=false→bS v+su c u≤D*n+su c u'
theorem qu.up{c:List ae}{W:List iz}{a D D' n:Nat}{bad:Bool}{u:List Nat}{v:aa}{bad':Bool}{u':List Nat}(h:qu c W a D n bad u v bad' u')(hD:D≤D'):qu c W a D' n bad u v bad' u' where
 ok:=h.ok
 st:=h.st
 out:=h.out
 mono:=h.mono
 b:=h.b
 sz e:=by
  have h1:=h.sz e
  have h3:D*n≤D'*n:=Nat.mul_le_mul_right n hD
  omega
theorem qu.none{c:List ae}{W:List iz}{a D n:Nat}{bad bad':Bool}{u:List Nat}{v:aa}(h:Lm c u)(hb:bad'=false→bad=false)(hv:∀w∈W,lv w v=[])(hs:bad'=false→bS v≤D*n):qu c W a D n bad u v bad' u where
 ok:=h
 st:=hb
 out _ _:=rfl
 mono _:=eo _
 b j w hw:=by rw[oX,hv w (List.mem_of_getElem? hw)];rfl
 sz e:=by have:=hs e;omega
def pS(E:List Pr):Int:=(E.headD (0,0)).2
theorem vW{E:List Pr}(h:E≠[]):at? (pt E).defs (0:Int)=some (pS E):=by
 cases E with
 |nil=>exact absurd rfl h
 |cons x l=>rfl
theorem tP{Es:List (List Pr)}{i:Nat}(h:i<Es.length):at? (Es.map pt) (i:Int)=some (pt Es[i]):=by
 apply dl;simp[h]
def BI(s:Int)(E:List Pr):Bool:=decide (E.length≠1)||decide (pS E≠s)
theorem zS{c:List ae}{u:List Nat}{Es:List (List Pr)}(hE:∀E∈Es,E≠[])(hl:Es.length<1000000000)(s:Int):∀(m f i:Nat) (z:Bool),i+m=Es.length→m<f→
  bG (Es.map pt) s c (I u) f z (i:Int)=some (⟨0,0,0,ByteArray.empty,[]⟩,c,z||(Es.drop i).any (BI s),I u):=by
 intro m
 induction m with
 |zero=>
  intro f i z hi hf
  obtain⟨f,rfl⟩:=aX hf
  rw[bG,cw (by rw[List.length_map];omega),ay,List.drop_of_length_le (by omega)]
  unfold jF
  simp
 |succ m ih=>
  intro f i z hi hf
  obtain⟨f,rfl⟩:=aX hf
  have h1:i<Es.length:=by omega
  have hne:=hE _ (kf h1)
  rw[bG,bp (by rw[List.length_map];exact h1),aQ,tP h1,aj,cO h1,List.any_cons]
  unfold fe
  simp only
  rw[aD h1 hl]
  cases z with
  |true=>
   rw[aQ,ih f (i+1) true (by omega) (by omega)]
   simp
  |false=>
   rw[ay,List.length_map]
   by_cases hlen:Es[i].length=1
   ·rw[hlen,show(((1:Nat):Int) != 1)=false from rfl,ay,vW hne,aj,ih f (i+1) _ (by omega) (by omega)]
    congr 4
    unfold BI
    rw[decide_eq_false (show¬(Es[i].length≠1)from fun h=>h hlen),Bool.false_or,Bool.false_or]
    congr 1
    by_cases hs:pS Es[i]=s<;>simp[hs]
   ·rw[show((Es[i].length:Int) != 1)=true by simp;omega,aQ,ih f (i+1) true (by omega) (by omega)]
    unfold BI
    rw[decide_eq_true hlen]
    simp
theorem CS{c:List ae}{u:List Nat}{Es:List (List Pr)}(hE:∀E∈Es,E≠[])(hl:Es.length<1000000000)(s:Int):∀(m f i:Nat) (z:Bool),i+m=Es.length→m<f→
  bK (Es.map pt) s c (I u) f z (i:Int)=some (⟨6,0,0,ByteArray.empty,[]⟩,c,z||(Es.drop i).any (BI s),I u):=by
 intro m
 induction m with
 |zero=>
  intro f i z hi hf
  obtain⟨f,rfl⟩:=aX hf
  rw[bK,cw (by rw[List.length_map];omega),ay,List.drop_of_length_le (by omega)]
  unfold jW
  simp
 |succ m ih=>
  intro f i z hi hf
  obtain⟨f,rfl⟩:=aX hf
  have h1:i<Es.length:=by omega
  have hne:=hE _ (kf h1)
  rw[bK,bp (by rw[List.length_map];exact h1),aQ,tP h1,aj,cO h1,List.any_cons]
  unfold fJ
  simp only
  rw[aD h1 hl]
  cases z with
  |true=>
   rw[aQ,ih f (i+1) true (by omega) (by omega)]
   simp
  |false=>
   rw[ay,List.length_map]
   by_cases hlen:Es[i].length=1
   ·rw[hlen,show(((1:Nat):Int) != 1)=false from rfl,ay,vW hne,aj,ih f (i+1) _ (by omega) (by omega)]
    congr 4
    unfold BI
    rw[decide_eq_false (show¬(Es[i].length≠1)from fun h=>h hlen),Bool.false_or,Bool.false_or]
    congr 1
    by_cases hs:pS Es[i]=s<;>simp[hs]
   ·rw[show((Es[i].length:Int) != 1)=true by simp;omega,aQ,ih f (i+1) true (by omega) (by omega)]
    unfold BI
    rw[decide_eq_true hlen]
    simp
def KT:Int→List (List Pr)→Int
 |x,[]=>x
 |x,E::Es=>KT (if pS E<x then pS E else x) Es
abbrev LV:=af→Int→List aJ→Int→Int→List ae→Bool→List Int→Option (aa×List ae×Bool×List Int)
theorem C3(ql qv:LV)(f0:af)(p2 p4 p5:Int)(c:List ae)(z:Bool)(U:List Int)(e1:aJ)(e2:Int){Es:List (List Pr)}(hE:∀E∈Es,E≠[])(hl:Es.length<1000000000):∀(m f i:Nat) (x:Int),i+m=Es.length→m<f→
  bT ql qv f0 p2 (Es.map pt) p4 p5 c z U e1 e2 f x (i:Int)=fd ql qv f0 p2 (Es.map pt) p4 p5 c z U e1 e2 (KT x (Es.drop i)):=by
 intro m
 induction m with
 |zero=>
  intro f i x hi hf
  obtain⟨f,rfl⟩:=aX hf
  rw[bT,cw (by rw[List.length_map];omega),ay,List.drop_of_length_le (by omega)]
  rfl
 |succ m ih=>
  intro f i x hi hf
  obtain⟨f,rfl⟩:=aX hf
  have h1:i<Es.length:=by omega
  have hne:=hE _ (kf h1)
  rw[bT,bp (by rw[List.length_map];exact h1),aQ,tP h1,aj,vW hne,aj,cO h1]
  unfold gZ
  rw[aD h1 hl,ih f (i+1) _ (by omega) (by omega),ih f (i+1) _ (by omega) (by omega),KT]
  by_cases hlt:pS Es[i]<x
  ·rw[decide_eq_true hlt,aQ,if_pos hlt]
  ·rw[decide_eq_false hlt,ay,if_neg hlt]
theorem Al(rec2:List Int→List aa→List ae→Bool→Int→Option (aa×List ae×Bool×List Int))(qv:LV)(f0:af)(p2 p4 p5:Int)(p8:List Int)(r2:List (List aJ))(c:List ae)(z:Bool){U:List Int}(hU:U.length=p8.length)(l2:List aa)(x2:Int){Es:List (List Pr)}(hE:∀E∈Es,E≠[])(hl:Es.length<1000000000):∀(m f i:Nat),i+m=Es.length→m<f→
  cM rec2 qv f0 p2 p4 p5 p8 r2 U l2 c z x2 (Es.map pt) f (i:Int)=if(Es.drop i).any (fun E=>decide (pS E≤p4))then some (⟨6,0,0,ByteArray.empty,l2⟩,c,true,U)else fQ rec2 qv f0 p2 p4 p5 r2 U l2 c z x2:=by
 intro m
 induction m with
 |zero=>
  intro f i hi hf
  obtain⟨f,rfl⟩:=aX hf
  rw[cM,cw (by rw[List.length_map];omega),ay,List.drop_of_length_le (by omega)]
  simp
 |succ m ih=>
  intro f i hi hf
  obtain⟨f,rfl⟩:=aX hf
  have h1:i<Es.length:=by omega
  have hne:=hE _ (kf h1)
  rw[cM,bp (by rw[List.length_map];exact h1),aQ,tP h1,aj,vW hne,aj,cO h1,List.any_cons,aD h1 hl,ih f (i+1) (by omega) (by omega),aB hU]
  by_cases hle:pS Es[i]≤p4
  ·rw[decide_eq_true hle,aQ];simp
  ·rw[decide_eq_false hle,ay];simp
def yb(Es:List (List Pr)):Prop:=∀E∈Es,E≠[]∧E.length<100000000
def VT(c:List ae)(N:Nat)(val:LV):Prop:=
 ∀(f:af) (i a:Nat) (Es:List (List Pr)) (d q:Int) (bad:Bool) (u:List Nat),V f.type→gb f.type≤N→Es.length=(al N f i).length→yb Es→a+(al N f i).length≤c.length→0≤d→d+2*(N:Int)≤1000000000→0≤q→q+(N:Int)≤1000000000→Lm c u→
  ∃v bad' u',val f (a:Int) (Es.map pt) d q c bad (I u)=some (v,c,bad',I u')∧qu c (al N f i) a (nZ f.type) (oe Es) bad u v bad' u'
structure vC(c:List ae)(W:List iz)(a D:Nat)(bad0:Bool)(u0:List Nat)(n:Nat)(l:List aa)(bad:Bool)(u:List Nat):Prop where
 ok:Lm c u
 st:bad=false→bad0=false
 out:∀k,(k<a∨a+W.length≤k)→g0 u k=g0 u0 k
 mono:∀k,g0 u0 k≤g0 u k
 b:∀(j:Nat) w,W[j]? =some w→l.flatMap (lv w)=nn (BA c (a+j) (g0 u0 (a+j)) (g0 u (a+j)))
 sz:bad=false→ca l+su c u0≤D*n+su c u
theorem vC.nil{c:List ae}{W:List iz}{a D:Nat}{bad:Bool}{u:List Nat}(h:Lm c u):vC c W a D bad u 0 [] bad u where
 ok:=h
 st e:=e
 out _ _:=rfl
 mono _:=eo _
 b j w hw:=by rw[oX];rfl
 sz _:=by simp only[ca];omega
theorem vC.step{c:List ae}{W:List iz}{a D:Nat}{bad0:Bool}{u0:List Nat}{n n':Nat}{l:List aa}{bad:Bool}{u:List Nat}(h:vC c W a D bad0 u0 n l bad u){v:aa}{bad':Bool}{u':List Nat}(r:qu c W a D n' bad u v bad' u'):vC c W a D bad0 u0 (n+n') (l++[v]) bad' u' where
 ok:=r.ok
 st e:=h.st (r.st e)
 out k hk:=(r.out k hk).trans (h.out k hk)
 mono k:=Nat.le_trans (h.mono k) (r.mono k)
 b j w hw:=by
  rw[List.flatMap_append,h.b j w hw,show[v].flatMap (lv w)=lv w v by simp,r.b j w hw,←AO,AY c _ (h.mono _) (r.mono _)]
 sz e:=by
  have h1:=h.sz (r.st e)
  have h2:=r.sz e
  rw[pR,Nat.mul_add];omega
theorem vC.worse{c:List ae}{W:List iz}{a D:Nat}{bad0:Bool}{u0:List Nat}{n m:Nat}{l:List aa}{bad:Bool}{u:List Nat}(h:vC c W a D bad0 u0 n l bad u):vC c W a D bad0 u0 m l true u where
 ok:=h.ok
 st e:=by cases e
 out:=h.out
 mono:=h.mono
 b:=h.b
 sz e:=by cases e
theorem vC.fin{c:List ae}{W W':List iz}{a D:Nat}{bad0:Bool}{u0:List Nat}{n:Nat}{l:List aa}{bad:Bool}{u:List Nat}(h:vC c W a D bad0 u0 n l bad u)(hn:1≤n)(hlen:W'.length=W.length){v:aa}(hv:bS v=ca l+1)
  (hb:∀(j:Nat) w',W'[j]? =some w'→∃w,W[j]? =some w∧lv w' v=l.flatMap (lv w)):qu c W' a (D+1) n bad0 u0 v bad u where
 ok:=h.ok
 st:=h.st
 out k hk:=h.out k (by rw[←hlen];exact hk)
 mono:=h.mono
 b j w hw:=by
  obtain⟨w0,h1,h2⟩:=hb j w hw
  rw[h2,h.b j w0 h1]
 sz e:=by
  have h1:=h.sz e
  rw[hv,Nat.add_mul];omega
def nN(Ls:List (List (List Pr)))(t:Nat):Nat:=(Ls.map fun L=>(L.take t).flatten.length).sum
theorem wm{α:Type}(f g:α→Nat):∀l:List α,(l.map fun x=>f x+g x).sum=(l.map f).sum+(l.map g).sum
 |[]=>rfl
 |x::l=>by
  have:=wm f g l
  simp only[List.map_cons,List.sum_cons];omega
theorem yU{Ls:List (List (List Pr))}{t:Nat}(h:∀L∈Ls,t<L.length):nN Ls (t+1)=nN Ls t+oe (Ls.map fun L=>L.getD t []):=by
 unfold nN oe
 rw[List.map_map,←wm]
 congr 1
 refine List.map_congr_left fun L hL=> ?_
 have:=h L hL
 rw[List.take_succ_eq_append_getElem this,List.flatten_append,List.length_append]
 simp[List.getD_eq_getElem?_getD,gu this]
theorem GH{rep:Int}{Es:List (List Pr)}{m:Nat}(h:∀E∈Es,(cT rep E).length=m):nN (Es.map (cT rep)) m=oe Es:=by
 unfold nN oe
 rw[List.map_map]
 congr 1
 refine List.map_congr_left fun E hE=> ?_
 show((cT rep E).take m).flatten.length=E.length
 rw[List.take_of_length_le (by rw[h E hE];exact eo _),sy]
theorem Nz{c:List ae}(hs:kd c){N:Nat}{qv:LV}(ih:VT c N qv){f g:af}(hk:f.type.kind=6)(hg:f.type.fields[0]? =some g)(hVg:V g.type)(hsg:gb g.type≤N)
  {a:Nat}(hn:a+(al N g 0).length≤c.length){x1 q:Int}(hd0:0≤x1)(hd1:x1+1+2*(N:Int)≤1000000000)(hq0:0≤q)(hq1:q+1+(N:Int)≤1000000000)(p8:List Int)(h8:p8.length=c.length)
  {Ls:List (List (List Pr))}{M:Nat}(hM:M<100000000)(hLs:Ls.length=(al N g 0).length)(hLL:∀L∈Ls,L.length=M∧∀E∈L,E≠[]∧E.length<100000000){bad0:Bool}{u0:List Nat}:
  ∀(m fu t:Nat) (l:List aa) (bad:Bool) (u:List Nat),t+m=M→m<fu→l.length=t→vC c (al N g 0) a (nZ g.type) bad0 u0 (nN Ls t) l bad u→
   ∃l' bad' u',aR qv f (a:Int) x1 q p8 ((tr M Ls).map (List.map pt)) fu (I u) l c bad (t:Int)=some (⟨6,0,0,ByteArray.empty,l'⟩,c,bad',I u')∧vC c (al N g 0) a (nZ g.type) bad0 u0 (nN Ls M) l' bad' u':=by
 have hcn:=hs.n
 intro m
 induction m with
 |zero=>
  intro fu t l bad u ht hfu hlt hA
  obtain⟨fu,rfl⟩:=aX hfu
  have htm:t=M:=by omega
  rw[aR,cw (by simp[tr];omega),ay]
  unfold ip
  rw[aB (by rw[fE,hA.ok.lu,h8])]
  exact⟨l,bad,u,rfl,htm▸hA⟩
 |succ m ihm=>
  intro fu t l bad u ht hfu hlt hA
  obtain⟨fu,rfl⟩:=aX hfu
  have h1:t<M:=by omega
  have h2:t<(tr M Ls).length:=by simp[tr];exact h1
  have hit:(tr M Ls)[t]=Ls.map fun L=>L.getD t []:=by simp[tr]
  have hat:at? ((tr M Ls).map (List.map pt)) (t:Int)=some ((Ls.map fun L=>L.getD t []).map pt):=by
   apply dl
   rw[List.getElem?_map,gu h2,hit];rfl
  have hgood:yb (Ls.map fun L=>L.getD t []):=by
   intro E hE
   obtain⟨L,hL,rfl⟩:=List.mem_map.1 hE
   obtain⟨q1,q2⟩:=hLL L hL
   have hlt:t<L.length:=by omega
   rw[List.getD_eq_getElem?_getD,gu hlt]
   exact q2 _ (kf hlt)
  rw[aR,bp (by simp[tr];exact h1),aQ,hat,aj]
  have hsm:=Al (aR qv f (a:Int) x1 q p8 ((tr M Ls).map (List.map pt)) fu) qv f (a:Int) x1 q p8 ((tr M Ls).map (List.map pt)) c bad (U:=I u) (by rw[fE,hA.ok.lu,h8]) l (t:Int) (Es:=Ls.map fun L=>L.getD t []) (fun E hE=>(hgood E hE).1) (by rw[List.length_map];omega) (Ls.map fun L=>L.getD t []).length aO 0 (by omega) (by rw[ar,List.length_map];omega)
  have hsm:cM (aR qv f (a:Int) x1 q p8 ((tr M Ls).map (List.map pt)) fu) qv f (a:Int) x1 q p8 ((tr M Ls).map (List.map pt)) (I u) l c bad (t:Int) ((Ls.map fun L=>L.getD t []).map pt) aO (0:Int)=_:=hsm
  rw[hsm]
  split
  ·exact⟨l,true,u,rfl,hA.worse⟩
  ·unfold fQ
   obtain⟨v,b',u',g1,g2⟩:=ih g 0 a (Ls.map fun L=>L.getD t []) (x1+1) (q+1) bad u hVg hsg (by rw[List.length_map,hLs]) hgood hn (by omega) (by omega) (by omega) (by omega) hA.ok
   rw[show at? f.type.fields (0:Int)=some g from dl (i:=0) hg,aj,hat,aj,jC (x:=x1+1) (by omega) (by omega),jC (x:=q+1) (by omega) (by omega),g1,aj]
   simp only
   rw[aB (by simp only[fE];rw[g2.ok.lu,hA.ok.lu]),aB (by omega),aD h1 (by omega)]
   have hA':=hA.step g2
   rw[←yU fun L hL=>by have:=(hLL L hL).1;omega]at hA'
   exact ihm fu (t+1) _ b' u' (by omega) (by omega) (by simp[hlt]) hA'
structure tH(c:List ae)(N:Nat)(fs:List af)(a D:Nat)(bad0:Bool)(u0:List Nat)(n:Nat)(j:Nat)(l:List aa)(bad:Bool)(u:List Nat):Prop where
 ok:Lm c u
 st:bad=false→bad0=false
 out:∀k,(k<a∨a+(dE (WY N) (fs.take j) 0).length≤k)→g0 u k=g0 u0 k
 mono:∀k,g0 u0 k≤g0 u k
 len:l.length=j
 b:∀(s:Nat) w,(dE (WY N) (fs.take j) 0)[s]? =some w→lv w (rv l (lE w))=nn (BA c (a+s) (g0 u0 (a+s)) (g0 u (a+s)))
 sz:bad=false→ca l+su c u0≤D*n+su c u
theorem tH.nil{c:List ae}{N:Nat}{fs:List af}{a D:Nat}{bad:Bool}{u:List Nat}(h:Lm c u):tH c N fs a D bad u 0 0 [] bad u where
 ok:=h
 st e:=e
 out _ _:=rfl
 mono _:=eo _
 len:=rfl
 b s w hw:=by rw[List.take_zero]at hw;simp[dE]at hw
 sz _:=by simp only[ca];omega
theorem tH.step{c:List ae}{N:Nat}{fs:List af}{a D:Nat}{bad0:Bool}{u0:List Nat}{n n' j:Nat}{l:List aa}{bad:Bool}{u:List Nat}(h:tH c N fs a D bad0 u0 n j l bad u)(hj:j<fs.length){v:aa}{bad':Bool}{u':List Nat}
  (r:qu c (al N fs[j] j) (a+(dE (WY N) (fs.take j) 0).length) D n' bad u v bad' u'):tH c N fs a D bad0 u0 (n+n') (j+1) (l++[v]) bad' u' where
 ok:=r.ok
 st e:=h.st (r.st e)
 out k hk:=by
  rw[gn N hj,List.length_append]at hk
  rw[r.out k (by omega),h.out k (by omega)]
 mono k:=Nat.le_trans (h.mono k) (r.mono k)
 len:=by rw[List.length_append,h.len];rfl
 b s w hs:=by
  rw[gn N hj]at hs
  by_cases hlt:s<(dE (WY N) (fs.take j) 0).length
  ·rw[nq hlt]at hs
   have hd:=Ht (List.mem_of_getElem? hs)
   rw[List.length_take]at hd
   have e1:rv (l++[v]) (lE w)=rv l (lE w):=by
    unfold rv
    rw[nq (by rw[h.len];omega)]
   rw[e1,h.b s w hs,r.out (a+s) (by omega)]
  ·rw[List.getElem?_append_right (by omega)]at hs
   have e1:rv (l++[v]) (lE w)=v:=by
    unfold rv
    rw[kC (List.mem_of_getElem? hs),List.getElem?_append_right (by rw[h.len];omega),h.len,Nat.sub_self];rfl
   have h1:=r.b _ w hs
   rw[show a+(dE (WY N) (fs.take j) 0).length+(s-(dE (WY N) (fs.take j) 0).length)=a+s by omega]at h1
   rw[e1,h1,h.out (a+s) (by omega)]
 sz e:=by
  have h1:=h.sz (r.st e)
  have h2:=r.sz e
  rw[pR,Nat.mul_add];omega
theorem CB(N:Nat)(f:af)(i j:Nat):(al N f i).length=(al N f j).length:=by
 unfold al
 split
 ·rfl
 ·rw[List.length_map,List.length_map]
theorem uZ{N:Nat}{f:af}(h:lx f≤N)(hN:N≤100000000)(i:Nat):∃L:List (List af),dB aO [f]=some L∧L.length=(al N f i).length:=by
 refine⟨_,Bf (N+1) aO [f] (by simp only[br];omega) (by rw[ar];omega) (by simp only[br];omega),?_⟩
 rw[List.length_map]
 show(dE (WY N) [f] 0).length=_
 rw[gR,CB N f i 0]
 simp[dE]
theorem Ou{c:List ae}(hs:kd c){N:Nat}{qv:LV}(ih:VT c N qv){f:af}(hk:f.type.kind=7)(hVf:V f.type)(hsf:br f.type.fields≤N)(hN:N≤100000000)
  {a:Nat}(hn:a+(dE (WY N) f.type.fields 0).length≤c.length){x1 q:Int}(hd0:0≤x1)(hd1:x1+2*(N:Int)≤1000000000)(hq0:0≤q)(hq1:q+(N:Int)≤1000000000)(p8:List Int)(h8:p8.length=c.length)
  {Es:List (List Pr)}(hEl:Es.length=(dE (WY N) f.type.fields 0).length)(hE:yb Es){bad0:Bool}{u0:List Nat}:
  ∀(m fu j:Nat) (l:List aa) (bad:Bool) (u:List Nat),j+m=f.type.fields.length→m<fu→tH c N f.type.fields a (ns f.type.fields) bad0 u0 (oe (Es.take (dE (WY N) (f.type.fields.take j) 0).length)) j l bad u→
   ∃l' bad' u',bE qv f (a:Int) (Es.map pt) q p8 x1 fu (I u) l c bad (((dE (WY N) (f.type.fields.take j) 0).length:Nat):Int) (j:Int)=some (⟨7,0,0,ByteArray.empty,l'⟩,c,bad',I u')∧tH c N f.type.fields a (ns f.type.fields) bad0 u0 (oe Es) f.type.fields.length l' bad' u':=by
 have hfl:=bM f.type.fields
 have hcn:=hs.n
 intro m
 induction m with
 |zero=>
  intro fu j l bad u hj hfu hA
  obtain⟨fu,rfl⟩:=aX hfu
  have hjl:j=f.type.fields.length:=by omega
  rw[bE,cw (by omega),ay]
  unfold hI
  rw[aB (by rw[fE,hA.ok.lu,h8])]
  refine⟨l,bad,u,rfl,?_⟩
  rw[hjl,List.take_length,←hEl,List.take_length]at hA
  exact hA
 |succ m ihm=>
  intro fu j l bad u hj hfu hA
  obtain⟨fu,rfl⟩:=aX hfu
  have h1:j<f.type.fields.length:=by omega
  have hmem:=kf h1
  have hVg:=hVf.fs _ hmem
  have hsz:=bN hmem
  have hfd:=cc f.type.fields[j]
  have hdep:=oC hmem
  have hle:(dE (WY N) (f.type.fields.take j) 0).length+(al N f.type.fields[j] j).length≤(dE (WY N) f.type.fields 0).length:=by
   have:dE (WY N) f.type.fields 0=dE (WY N) (f.type.fields.take (j+1)) 0++dE (WY N) (f.type.fields.drop (j+1)) (0+(f.type.fields.take (j+1)).length):=by
    rw[←pb,List.take_append_drop]
   rw[this,gn N h1,List.length_append,List.length_append];omega
  obtain⟨L,hL1,hL2⟩:=uZ (f:=f.type.fields[j]) (N:=N) (by omega) hN j
  generalize ho:(dE (WY N) (f.type.fields.take j) 0).length=o at*
  generalize hw:(al N f.type.fields[j] j).length=n at*
  have hgood:yb ((Es.drop o).take n):=fun E h=>hE E (List.mem_of_mem_drop (List.mem_of_mem_take h))
  obtain⟨v,b',u',g1,g2⟩:=ih f.type.fields[j] j (a+o) ((Es.drop o).take n) x1 q bad u hVg (by omega) (by rw[List.length_take,List.length_drop,hw];omega) hgood (by omega) hd0 hd1 hq0 hq1 hA.ok
  have hwr:i64.wrap ((o:Int)+(n:Int))=((o+n:Nat):Int):=by rw[jC (by omega) (by omega)];omega
  have hwa:i64.wrap ((a:Int)+(o:Int))=((a+o:Nat):Int):=by rw[jC (by omega) (by omega)];omega
  have hsl:(((Es.map pt).drop ((o:Int)).toNat).take ((((o+n:Nat):Int)).toNat-((o:Int)).toNat))=((Es.drop o).take n).map pt:=by
   rw[show((o:Int)).toNat=o by omega,show(((o+n:Nat):Int)).toNat=o+n by omega,show o+n-o=n by omega,List.map_take,List.map_drop]
  rw[bE,bp h1,aQ,bf h1,aj,hL1,aj,hL2,hwr,hwa,aB (by rw[List.length_map];omega),hsl,g1,aj]
  simp only
  rw[aB (by simp only[fE];rw[g2.ok.lu,hA.ok.lu]),aB (by rw[hA.len];omega),aD h1 (by omega)]
  have hstep:tH c N f.type.fields a (ns f.type.fields) bad0 u0 (oe (Es.take o)+oe ((Es.drop o).take n)) (j+1) (l++[v]) b' u':=hA.step h1 (by rw[ho];exact g2.up hdep)
  have hnext:=ihm fu (j+1) (l++[v]) b' u' (by omega) (by omega) (by
   rw[gn N h1,List.length_append,ho,hw,List.take_add,CO]
   exact hstep)
  rw[gn N h1,List.length_append,ho,hw]at hnext
  exact hnext
theorem tH.fin{c:List ae}{N:Nat}{fs:List af}{W':List iz}{a D:Nat}{bad0:Bool}{u0:List Nat}{n:Nat}{l:List aa}{bad:Bool}{u:List Nat}(h:tH c N fs a D bad0 u0 n fs.length l bad u)(hn:1≤n)(hlen:W'.length=(dE (WY N) fs 0).length){v:aa}(hv:bS v=ca l+1)
  (hb:∀(j:Nat) w',W'[j]? =some w'→∃w,(dE (WY N) fs 0)[j]? =some w∧lv w' v=lv w (rv l (lE w))):qu c W' a (D+1) n bad0 u0 v bad u where
 ok:=h.ok
 st:=h.st
 out k hk:=h.out k (by rw[List.take_length,←hlen];exact hk)
 mono:=h.mono
 b j w hw:=by
  obtain⟨w0,h1,h2⟩:=hb j w hw
  rw[h2,h.b j w0 (by rw[List.take_length];exact h1)]
 sz e:=by
  have h1:=h.sz e
  rw[hv,Nat.add_mul];omega
theorem yL:∀Ls:List (List (List Pr)),nN Ls 0=0
 |[]=>rfl
 |L::Ls=>by
  have:=yL Ls
  unfold nN at this⊢
  simp only[List.map_cons,List.sum_cons,List.take_zero,List.flatten_nil,List.length_nil,Nat.zero_add]at this⊢
  exact this
theorem xV{D n:Nat}(h1:1≤D)(h2:1≤n):1≤D*n:=Nat.mul_pos h1 h2
theorem Dm{c:List ae}(hs:kd c):∀(N k:Nat),2*N<k→N≤100000000→VT c N (ax k)
 |0,k,hk,hN=>by
  intro f i a Es d q bad u hV hsz
  have:=eX f.type;omega
 |N+1,k,hk,hN=>by
  intro f i a Es d q bad u hV hsz hEl hE hn hd0 hd1 hq0 hq1 hok
  obtain⟨k,rfl⟩:=aX (m:=2*N+1) (f:=k) (by omega)
  have ihv:=Dm hs N k (by omega) (by omega)
  have he:=eX f.type
  have hde:=wX f.type
  have hpos:=iV (N+1) f i hV hsz
  have ha:a<c.length:=by omega
  have hcn:=hs.n
  have hne:∀E∈Es,E≠[]:=fun E h=>(hE E h).1
  have hEp:0<Es.length:=by omega
  have hEn:Es≠[]:=List.length_pos_iff.1 hEp
  have hents:=Je hEn hne
  have hEll:Es.length<1000000000:=by omega
  have hpt0:at? (Es.map pt) (0:Int)=some (pt Es[0]):=tP (i:=0) hEp
  have h20:=vW (hne _ (kf hEp))
  have j5:∀x6:Int,0≤x6→x6+1+2*(N:Int)≤1000000000→∃v b' u',dH (bl k) (ax k) f (a:Int) (Es.map pt) q c bad (I u) (pt Es[0]) (pS Es[0]) x6=some (v,c,b',I u')∧qu c (al (N+1) f i) a (nZ f.type) (oe Es) bad u v b' u':=by
   intro x6 hx0 hx1
   unfold dH
   by_cases h6:f.type.kind=6
   ·have hlf:ln f=false:=by unfold ln;simp[h6]
    have hlist:=hV.list h6
    obtain⟨g,hg1⟩:∃g,f.type.fields=[g]:=by
     cases hff:f.type.fields with
     |nil=>rw[hff]at hlist;simp at hlist
     |cons g gs=>rw[hff]at hlist;simp at hlist;subst hlist;exact⟨g,rfl⟩
    have hg:f.type.fields[0]? =some g:=by rw[hg1];rfl
    have hgm:g∈f.type.fields:=by rw[hg1];exact List.mem_cons_self ..
    have hways:al (N+1) f i=(al N g 0).map ((f,i)::·):=by
     rw[al,hlf,if_neg (by simp),hg1]
     show(dE (WY N) [g] 0).map _=_
     rw[gR];simp[dE]
    have hwl:(al (N+1) f i).length=(al N g 0).length:=by rw[hways,List.length_map]
    have h1:=bN hgm
    have h2:=cc g
    have hdg:=oC hgm
    have hempty:∀w∈al (N+1) f i,lv w ⟨6,0,0,ByteArray.empty,[]⟩=[]:=fun w hw=>by
     rw[hways]at hw
     obtain⟨w0,_,rfl⟩:=List.mem_map.1 hw
     simp only[lv]
     rw[if_neg (by decide),if_pos h6];rfl
    rw[show(f.type.kind==6)=true by simp[h6],aQ]
    obtain⟨k,rfl⟩:=aX (m:=2*N) (f:=k) (by omega)
    have ihv:=Dm hs N k (by omega) (by omega)
    have hlst:∃v b' u',bl (k+1) f (a:Int) (Es.map pt) x6 q c bad (I u)=some (v,c,b',I u')∧qu c (al (N+1) f i) a (nZ f.type) (oe Es) bad u v b' u':=by
     rw[bl,hpt0,aj,h20,aj]
     by_cases hle:pS Es[0]≤x6
     ·rw[decide_eq_true hle,aQ]
      have:=CS (c:=c) (u:=u) hne hEll x6 Es.length aO 0 bad (by omega) (by rw[ar];omega)
      have this:bK (Es.map pt) x6 c (I u) aO bad (0:Int)=_:=this
      rw[this]
      refine⟨_,_,u,rfl,qu.none hok (fun e=> ?_) hempty (fun _=> ?_)⟩
      ·rw[Bool.or_eq_false_iff]at e;exact e.1
      ·rw[j8];exact xV (by omega) hents
     ·rw[decide_eq_false hle,ay]
      unfold qf kb
      obtain⟨E0,Es',hEs⟩:∃E0 Es',Es=E0::Es':=by
       cases Es with
       |nil=>exact absurd rfl hEn
       |cons x l=>exact⟨x,l,rfl⟩
      have hlen9:∀F∈E0::Es',F.length<1000000000:=fun F hF=>by
       have:=(hE F (by rw[hEs];exact hF)).2;omega
      have hres:=Hc (rep:=q+1) hlen9 (by rw[←hEs];omega)
      rw[←hEs]at hres
      rw[jC (x:=q+1) (by omega) (by omega),hres,aj,aj]
      by_cases hall:∀F∈Es',(cT (q+1) F).length=(cT (q+1) E0).length
      ·rw[if_pos hall]
       simp only[Option.isSome_some]
       rw[aQ,aj,aj]
       have hallE:∀F∈Es,(cT (q+1) F).length=(cT (q+1) E0).length:=fun F hF=>by
        rw[hEs]at hF
        rcases List.mem_cons.1 hF with rfl|hF
        ·rfl
        ·exact hall F hF
       have hM:(cT (q+1) E0).length<100000000:=by
        have h3:=yr (q+1) E0
        have h4:=(hE E0 (by rw[hEs];exact List.mem_cons_self ..)).2
        omega
       obtain⟨l',b',u',g3,g4⟩:=Nz hs ihv h6 hg (hV.fs g hgm) (by omega) (a:=a) (by omega) hx0 (by omega) hq0 (by omega) (I u) (by rw[fE,hok.lu]) hM (Ls:=Es.map (cT (q+1))) (by rw[List.length_map];omega) (fun L hL=>by
         obtain⟨E,hEm,rfl⟩:=List.mem_map.1 hL
         refine⟨hallE E hEm,fun F hF=>⟨ER _ _ F hF,?_⟩⟩
         have h5:=(hE E hEm).2
         have h7:F.length≤(cT (q+1) E).flatten.length:=(List.sublist_flatten_of_mem hF).length_le
         rw[sy]at h7
         omega) (cT (q+1) E0).length aO 0 [] bad u (by omega) (by rw[ar];omega) rfl (by
         have:nN (Es.map (cT (q+1))) 0=0:=yL _
         rw[this];exact vC.nil hok)
       have g3:aR (ax k) f (a:Int) x6 q (I u) ((tr (cT (q+1) E0).length (Es.map (cT (q+1)))).map (List.map pt)) aO (I u) [] c bad (0:Int)=_:=g3
       rw[g3]
       rw[GH hallE]at g4
       refine⟨_,b',u',rfl,qu.up (g4.fin hents hwl (j8 _ _) fun j w' hw'=> ?_) (by omega)⟩
       rw[hways,List.getElem?_map,mE]at hw'
       obtain⟨w0,hw0,rfl⟩:=hw'
       refine⟨w0,hw0,?_⟩
       simp only[lv]
       rw[if_neg (by decide),if_pos h6]
      ·rw[if_neg hall]
       simp only[Option.isSome_none]
       rw[ay]
       exact⟨_,true,u,rfl,qu.none hok (fun e=>by cases e) hempty (fun e=>by cases e)⟩
    obtain⟨v,b',u',g1,g2⟩:=hlst
    rw[g1,aj]
    simp only
    rw[aB (by simp only[fE];rw[g2.ok.lu,hok.lu]),aB (by simp only[fE];rw[g2.ok.lu,hok.lu])]
    exact⟨v,b',u',rfl,g2⟩
   ·rw[show(f.type.kind==6)=false by simp[h6],ay]
    by_cases h7:f.type.kind=7
    ·have hlf:ln f=false:=by unfold ln;simp[h7]
     have hways:al (N+1) f i=(dE (WY N) f.type.fields 0).map ((f,i)::·):=by
      rw[al,hlf,if_neg (by simp)];rfl
     have hwl:(al (N+1) f i).length=(dE (WY N) f.type.fields 0).length:=by rw[hways,List.length_map]
     rw[show(f.type.kind==7)=true by simp[h7],aQ]
     obtain⟨l',b',u',g3,g4⟩:=Ou hs ihv h7 hV (by omega) (by omega) (a:=a) (by omega) hx0 (by omega) hq0 (by omega) (I u) (by rw[fE,hok.lu]) (Es:=Es) (by omega) hE f.type.fields.length aO 0 [] bad u (by omega) (by rw[ar];have:=bM f.type.fields;omega) (tH.nil hok)
     have g3:bE (ax k) f (a:Int) (Es.map pt) q (I u) x6 aO (I u) [] c bad (0:Int) (0:Int)=_:=g3
     rw[g3]
     refine⟨_,b',u',rfl,qu.up (g4.fin hents hwl (j8 _ _) fun j w' hw'=> ?_) (by omega)⟩
     rw[hways,List.getElem?_map,mE]at hw'
     obtain⟨w0,hw0,rfl⟩:=hw'
     refine⟨w0,hw0,?_⟩
     simp only[lv]
     rw[if_neg (by decide),if_neg h6,if_pos h7]
     rfl
    ·have hlf:ln f=true:=by unfold ln;simp[h6,h7]
     have hways:al (N+1) f i=[[(f,i)]]:=by rw[al,hlf,if_pos rfl]
     rw[show(f.type.kind==7)=false by simp[h7],ay,pn ha,aj]
     have hua:=(hok.h a ha)
     have hval:=(hs.h a ha).2.2
     have hbadr:dJ (a:Int) c bad (I u) (iJ c a) true=some (⟨0,0,0,ByteArray.empty,[]⟩,c,true,I u):=rfl
     have hbad:∃v b' u',some ((⟨0,0,0,ByteArray.empty,[]⟩:aa),c,true,I u)=some (v,c,b',I u')∧qu c (al (N+1) f i) a (nZ f.type) (oe Es) bad u v b' u':=
      ⟨_,true,u,rfl,qu.none hok (fun e=>by cases e) (fun w _=>vL w _ rfl) (fun e=>by cases e)⟩
     by_cases hl1:((pt Es[0]).reps.length:Int)=1
     ·rw[show(((pt Es[0]).reps.length:Int) != 1)=false by rw[hl1];rfl,ay]
      by_cases hl2:pS Es[0]=x6
      ·rw[show(pS Es[0] != x6)=false by simp[hl2],ay,uu (by rw[hok.lu];exact ha),aj]
       by_cases hend:(iJ c a).values.length≤g0 u a
       ·rw[decide_eq_true (by omega),hbadr]
        exact hbad
       ·rw[decide_eq_false (by omega)]
        unfold dJ
        have hlt:g0 u a<(iJ c a).values.length:=by omega
        have hv:=gu hlt
        have hau:a<u.length:=by rw[hok.lu];exact ha
        rw[ay,uu hau,aj,jC (x:=((g0 u a:Nat):Int)+1) (by omega) (by omega),show((a:Int)).toNat=a by omega,show((g0 u a:Nat):Int)+1=((g0 u a+1:Nat):Int) by omega,Fq,uu (by rw[List.length_set];exact hau),aj,nI hau,if_pos rfl,
         show((g0 u a+1:Nat):Int)-1=((g0 u a:Nat):Int) by omega,jC (x:=((g0 u a:Nat):Int)) (by omega) (by omega),bf hlt,aj,aB (by simp)]
        refine⟨_,bad,_,rfl,?_⟩
        exact{
          ok:=⟨by rw[List.length_set];exact hok.lu,fun k hk=>by
           rw[nI hau]
           split
           ·rename_i e;subst e;omega
           ·exact hok.h k hk⟩
          st:=fun e=>e
          out:=fun k hk=>by
           have:(al (N+1) f i).length=1:=by rw[hways];rfl
           rw[nI hau,if_neg (by omega)]
          mono:=fun k=>by
           rw[nI hau]
           split
           ·rename_i e;subst e;omega
           ·omega
          b:=fun j w hw=>by
           rw[hways]at hw
           cases j with
           |zero=>
            cases hw
            rw[Nat.add_zero,nI hau,if_pos rfl,Jx hv]
            simp only[lv]
            by_cases hk0:(iJ c a).values[g0 u a].kind=0
            ·rw[if_pos hk0,FQ hk0]
            ·rw[if_neg hk0,if_neg h6,if_neg h7,Jl hk0]
           |succ j=>simp at hw
          sz:=fun _=>by
           rw[Ev ha hau hv]
           omega}
      ·rw[show(pS Es[0] != x6)=true by simp[hl2],aQ,hbadr]
       exact hbad
     ·rw[show(((pt Es[0]).reps.length:Int) != 1)=true from bne_iff_ne.2 hl1,aQ,hbadr]
      exact hbad
  rw[ax,hpt0,aj,h20,aj]
  have hle:=C3 (bl k) (ax k) f (a:Int) d q c bad (I u) (pt Es[0]) (pS Es[0]) hne hEll Es.length aO 0 (pS Es[0]) (by omega) (by rw[ar];omega)
  have hle:bT (bl k) (ax k) f (a:Int) (Es.map pt) d q c bad (I u) (pt Es[0]) (pS Es[0]) aO (pS Es[0]) (0:Int)=_:=hle
  rw[hle]
  unfold fd
  cases hnd:f.need with
  |true=>
   rw[Bool.not_true,ay]
   exact j5 d hd0 (by omega)
  |false=>
   rw[Bool.not_false,aQ]
   by_cases hx:KT (pS Es[0]) (Es.drop 0)≤d
   ·rw[decide_eq_true hx,aQ]
    have:=zS (c:=c) (u:=u) hne hEll d Es.length aO 0 bad (by omega) (by rw[ar];omega)
    have this:bG (Es.map pt) d c (I u) aO bad (0:Int)=_:=this
    rw[this]
    refine⟨_,_,u,rfl,qu.none hok (fun e=> ?_) (fun w _=>vL w _ rfl) (fun _=> ?_)⟩
    ·rw[Bool.or_eq_false_iff]at e;exact e.1
    ·rw[j8];exact xV (by omega) hents
   ·rw[decide_eq_false hx,ay,jC (x:=d+1) (by omega) (by omega)]
    exact j5 (d+1) (by omega) (by omega)
def fw(c:List ae)(k:Nat):List Pr:=(iJ c k).reps.zip (iJ c k).defs
theorem KE{c:List ae}{k:Nat}(h:(iJ c k).reps.length=(iJ c k).defs.length):pt (fw c k)=⟨(iJ c k).reps,(iJ c k).defs⟩:=by
 unfold pt fw
 rw[List.map_fst_zip (by omega),List.map_snd_zip (by omega)]
structure wG(c:List ae)(k:Nat):Prop where
 a:(iJ c k).reps.length=(iJ c k).defs.length
 b:∀x,(iJ c k).reps[0]? =some x→x=0
 n:(cT 0 (fw c k)).length=(cT 0 (fw c 0)).length
def ic(c:List ae)(n:Nat):List (List (List Pr)):=(List.range n).map fun k=>cT 0 (fw c k)
theorem Gl(c:List ae)(n:Nat):ic c (n+1)=ic c n++[cT 0 (fw c n)]:=by simp[ic,List.range_succ]
theorem BP(c:List ae)(n:Nat):(ic c n).length=n:=by simp[ic]
theorem ur{c:List ae}{n k:Nat}(h:k<n):at? ((ic c n).map (List.map pt)) (k:Int)=some ((cT 0 (fw c k)).map pt):=by
 apply dl
 rw[List.getElem?_map,ic,List.getElem?_map,List.getElem?_range h];rfl
theorem xp{fs:List af}{c:List ae}(hs:kd c):∀(m f i:Nat),i+m=c.length→m<f→(∀k,k<i→wG c k)→
  (bC fs c f ((ic c i).map (List.map pt)) (i:Int)=fj fs c ((ic c c.length).map (List.map pt))∧∀k,k<c.length→wG c k)∨
  (bC fs c f ((ic c i).map (List.map pt)) (i:Int)=some ([],1)∧¬∀k,k<c.length→wG c k):=by
 have hcn:=hs.n
 intro m
 induction m with
 |zero=>
  intro f i hi hf hp
  obtain⟨f,rfl⟩:=aX hf
  have:i=c.length:=by omega
  subst this
  refine .inl ⟨?_,hp⟩
  rw[bC,cw (by omega),ay]
 |succ m ih=>
  intro f i hi hf hp
  obtain⟨f,rfl⟩:=aX hf
  have h1:i<c.length:=by omega
  have hsm:=hs.h i h1
  rw[bC,bp h1,aQ,pn h1,aj]
  by_cases ha:(iJ c i).reps.length=(iJ c i).defs.length
  ·rw[show(((iJ c i).reps.length:Int) != ((iJ c i).defs.length:Int))=false by rw[ha];simp,ay]
   have hE:(fw c i).length<1000000000:=by unfold fw;rw[List.length_zip];omega
   have hj:((∀x,(iJ c i).reps[0]? =some x→x=0)→(dz (bC fs c f) ((ic c i).map (List.map pt)) (i:Int) (iJ c i) false=fj fs c ((ic c c.length).map (List.map pt))∧∀k,k<c.length→wG c k)∨
     (dz (bC fs c f) ((ic c i).map (List.map pt)) (i:Int) (iJ c i) false=some ([],1)∧¬∀k,k<c.length→wG c k)):=by
    intro hb
    unfold dz
    rw[ay,←KE ha,Ee hE,aj,aB (by rw[List.length_map,BP];omega)]
    have happ:(ic c i).map (List.map pt)++[(cT 0 (fw c i)).map pt]=(ic c (i+1)).map (List.map pt):=by rw[Gl];simp
    rw[happ,show i64.wrap ((((((ic c (i+1)).map (List.map pt)).length:Nat):Int))-1)=(i:Int) by rw[List.length_map,BP,jC (by omega) (by omega)];omega,ur (by omega),aj]
    have h0:=ur (c:=c) (n:=i+1) (k:=0) (by omega)
    have h0:at? ((ic c (i+1)).map (List.map pt)) (0:Int)=_:=h0
    rw[h0,aj,List.length_map,List.length_map]
    by_cases hn:(cT 0 (fw c i)).length=(cT 0 (fw c 0)).length
    ·rw[show(((cT 0 (fw c i)).length:Int) != ((cT 0 (fw c 0)).length:Int))=false by rw[hn];simp,ay,aD h1 (by omega)]
     exact ih f (i+1) (by omega) (by omega) fun k hk=>by
      by_cases e:k=i
      ·subst e;exact⟨ha,hb,hn⟩
      ·exact hp k (by omega)
    ·rw[show(((cT 0 (fw c i)).length:Int) != ((cT 0 (fw c 0)).length:Int))=true by simp;omega,aQ]
     exact .inr ⟨rfl,fun h=>hn (h i h1).n⟩
   by_cases hpos:0<(iJ c i).reps.length
   ·rw[decide_eq_true (by omega),aQ]
    have hx:(iJ c i).reps[0]? =some (iJ c i).reps[0]:=gu hpos
    have h0:at? (iJ c i).reps (0:Int)=some (iJ c i).reps[0]:=dl (i:=0) hx
    rw[h0,aj]
    by_cases hz:(iJ c i).reps[0]=0
    ·rw[hz,show((0:Int) != 0)=false from rfl]
     exact hj fun x h=>by rw[hx]at h;cases h;exact hz
    ·rw[show((iJ c i).reps[0] != 0)=true by simp[hz]]
     unfold dz
     rw[aQ]
     exact .inr ⟨rfl,fun h=>hz ((h i h1).b _ hx)⟩
   ·rw[decide_eq_false (by omega),ay]
    exact hj fun x h=>by
     have:=(gN.1 h).1
     omega
  ·rw[show(((iJ c i).reps.length:Int) != ((iJ c i).defs.length:Int))=true by simp;omega,aQ]
   unfold dz
   rw[aQ]
   exact .inr ⟨rfl,fun h=>ha (h i h1).a⟩
def pj(c:List ae)(i:Nat):List (List Pr):=(ic c c.length).map fun L=>L.getD i []
theorem uq(c:List ae)(i:Nat):(pj c i).length=c.length:=by simp[pj,ic]
theorem yx{c:List ae}(hs:kd c)(hc:∀k,k<c.length→wG c k){i:Nat}(hi:i<(cT 0 (fw c 0)).length)
  (rec3:List Int→List aa→List ae→Bool→Int→Int→Option (List (List aa)×Int))(l5:List Int)(l6:List aa)(z3:List ae)(z4:Bool)(o:Nat)(x5:Int)(e6:af)(r4:List (List af)){n:Nat}(hn:r4.length=n)(hon:o+n≤c.length):
  ∀(m f t:Nat),t+m=n→m<f→eO rec3 ((ic c c.length).map (List.map pt)) (i:Int) l5 l6 z3 z4 (o:Int) x5 e6 r4 f ((((pj c i).drop o).take t).map pt) ((o+t:Nat):Int)=gL rec3 l5 l6 z3 z4 (o:Int) x5 e6 r4 ((((pj c i).drop o).take n).map pt):=by
 have hcn:=hs.n
 have hw:i64.wrap ((o:Int)+(r4.length:Int))=((o+n:Nat):Int):=by rw[hn,jC (by omega) (by omega)];omega
 intro m
 induction m with
 |zero=>
  intro f t ht hf
  obtain⟨f,rfl⟩:=aX hf
  rw[eO,hw,cw (by omega),ay,show t=n by omega]
 |succ m ih=>
  intro f t ht hf
  obtain⟨f,rfl⟩:=aX hf
  have hk:o+t<c.length:=by omega
  have hlen:i<(cT 0 (fw c (o+t))).length:=by rw[(hc _ hk).n];exact hi
  have hrow:(pj c i)[o+t]? =some (cT 0 (fw c (o+t)))[i]:=by
   unfold pj ic
   rw[List.getElem?_map,List.getElem?_map,List.getElem?_range hk]
   simp[List.getD_eq_getElem?_getD,gu hlen]
  have htake:((pj c i).drop o).take (t+1)=((pj c i).drop o).take t++[(cT 0 (fw c (o+t)))[i]]:=by
   rw[List.take_add_one,List.getElem?_drop,hrow];rfl
  rw[eO,hw,bp (by omega),aQ,ur hk,aj,show at? ((cT 0 (fw c (o+t))).map pt) (i:Int)=some (pt (cT 0 (fw c (o+t)))[i])from tP hlen,aj,aB (by rw[List.length_map,List.length_take];omega),aD hk (by omega)]
  have:=ih f (t+1) (by omega) (by omega)
  rw[htake,List.map_append]at this
  exact this
theorem OM{c:List ae}(hs:kd c){N:Nat}(ih:VT c N (ax aO)){fs:List af}(hV:∀f∈fs,V f.type)(hsf:br fs≤N)(hN:N≤100000000)(hn:(dE (WY N) fs 0).length=c.length)(hc:∀k,k<c.length→wG c k){i:Nat}(hi:i<(cT 0 (fw c 0)).length)(hg:yb (pj c i))
  (rec2:List Int→List (List aa)→List ae→Bool→Int→Option (List (List aa)×Int))(l4:List (List aa))(h4:l4.length+1≤4294967296){bad0:Bool}{u0:List Nat}:
  ∀(m fu j:Nat) (l:List aa) (bad:Bool) (u:List Nat),j+m=fs.length→m<fu→tH c N fs 0 (ns fs) bad0 u0 (oe ((pj c i).take (dE (WY N) (fs.take j) 0).length)) j l bad u→
   ∃l' bad' u',bD rec2 fs ((ic c c.length).map (List.map pt)) l4 (i:Int) fu (I u) l c bad (((dE (WY N) (fs.take j) 0).length:Nat):Int) (j:Int)=rec2 (I u') (l4++[l']) c bad' (i64.wrap ((i:Int)+1))∧tH c N fs 0 (ns fs) bad0 u0 (oe (pj c i)) fs.length l' bad' u':=by
 have hfl:=bM fs
 have hcn:=hs.n
 intro m
 induction m with
 |zero=>
  intro fu j l bad u hj hfu hA
  obtain⟨fu,rfl⟩:=aX hfu
  have hjl:j=fs.length:=by omega
  rw[bD,cw (by omega),ay]
  unfold iT
  rw[aB h4]
  refine⟨l,bad,u,rfl,?_⟩
  rw[hjl,List.take_length,hn,←uq c i,List.take_length]at hA
  exact hA
 |succ m ihm=>
  intro fu j l bad u hj hfu hA
  obtain⟨fu,rfl⟩:=aX hfu
  have h1:j<fs.length:=by omega
  have hmem:=kf h1
  have hVg:=hV _ hmem
  have hsz:=bN hmem
  have hfd:=cc fs[j]
  have hdep:=oC hmem
  have hle:(dE (WY N) (fs.take j) 0).length+(al N fs[j] j).length≤(dE (WY N) fs 0).length:=by
   have:dE (WY N) fs 0=dE (WY N) (fs.take (j+1)) 0++dE (WY N) (fs.drop (j+1)) (0+(fs.take (j+1)).length):=by
    rw[←pb,List.take_append_drop]
   rw[this,gn N h1,List.length_append,List.length_append];omega
  obtain⟨L,hL1,hL2⟩:=uZ (f:=fs[j]) (N:=N) (by omega) hN j
  generalize ho:(dE (WY N) (fs.take j) 0).length=o at*
  generalize hw:(al N fs[j] j).length=n at*
  have hgood:yb (((pj c i).drop o).take n):=fun E h=>hg E (List.mem_of_mem_drop (List.mem_of_mem_take h))
  obtain⟨v,b',u',g1,g2⟩:=ih fs[j] j o (((pj c i).drop o).take n) 0 0 bad u hVg (by omega) (by rw[List.length_take,List.length_drop,uq,hw];omega) hgood (by omega) (by omega) (by omega) (by omega) (by omega) hA.ok
  have hwr:i64.wrap ((o:Int)+(L.length:Int))=((o+n:Nat):Int):=by rw[hL2,jC (by omega) (by omega)];omega
  rw[bD,bp h1,aQ,bf h1,aj,hL1,aj]
  have hp:=yx hs hc hi (bD rec2 fs ((ic c c.length).map (List.map pt)) l4 (i:Int) fu) (I u) l c bad o (j:Int) fs[j] L hL2 (by omega) n aO 0 (by omega) (by rw[ar];omega)
  rw[List.take_zero,List.map_nil,Nat.add_zero]at hp
  rw[hp]
  unfold gL
  rw[g1,aj]
  simp only
  rw[aB (by simp only[fE];rw[g2.ok.lu,hA.ok.lu]),aB (by rw[hA.len];omega),aD h1 (by omega),hwr]
  have hstep:tH c N fs 0 (ns fs) bad0 u0 (oe ((pj c i).take o)+oe (((pj c i).drop o).take n)) (j+1) (l++[v]) b' u':=hA.step h1 (by rw[ho,Nat.zero_add];exact g2.up hdep)
  have hnext:=ihm fu (j+1) (l++[v]) b' u' (by omega) (by omega) (by
   rw[gn N h1,List.length_append,ho,hw,List.take_add,CO]
   exact hstep)
  rw[gn N h1,List.length_append,ho,hw]at hnext
  exact hnext
structure M9(c:List ae)(N:Nat)(fs:List af)(i:Nat)(rows:List (List aa))(bad:Bool)(u:List Nat):Prop where
 ok:Lm c u
 len:rows.length=i
 b:∀(s:Nat) w,(dE (WY N) fs 0)[s]? =some w→rows.flatMap (fun r=>lv w (rv r (lE w)))=nn (BA c s 0 (g0 u s))
 sz:bad=false→wF rows≤ns fs*nN (ic c c.length) i+su c u
theorem rX{c:List ae}(hs:kd c){k:Nat}(hk:k<c.length):(cT 0 (fw c k)).length<100000000∧∀E∈cT 0 (fw c k),E≠[]∧E.length<100000000:=by
 have hsm:=hs.h k hk
 have hE:(fw c k).length<100000000:=by unfold fw;rw[List.length_zip];omega
 have h1:=yr 0 (fw c k)
 refine⟨by omega,fun E h=>⟨ER _ _ E h,?_⟩⟩
 have h7:E.length≤(cT 0 (fw c k)).flatten.length:=(List.sublist_flatten_of_mem h).length_le
 rw[sy]at h7
 omega
theorem I3{c:List ae}(hs:kd c)(hc:∀k,k<c.length→wG c k){i:Nat}(hi:i<(cT 0 (fw c 0)).length):yb (pj c i):=by
 intro E hE
 obtain⟨L,hL,rfl⟩:=List.mem_map.1 hE
 obtain⟨k,hk,rfl⟩:=List.mem_map.1 hL
 have hk:=List.mem_range.1 hk
 have hlen:i<(cT 0 (fw c k)).length:=by rw[(hc _ hk).n];exact hi
 rw[List.getD_eq_getElem?_getD,gu hlen]
 exact(rX hs hk).2 _ (kf hlen)
theorem Nn{c:List ae}(hs:kd c){N:Nat}(ih:VT c N (ax aO)){fs:List af}(hV:∀f∈fs,V f.type)(hsf:br fs≤N)(hN:N≤100000000)(hn:(dE (WY N) fs 0).length=c.length)(hc:∀k,k<c.length→wG c k)(hc0:0<c.length):
  ∀(m fu i:Nat) (rows:List (List aa)) (bad:Bool) (u:List Nat),i+m=(cT 0 (fw c 0)).length→m<fu→M9 c N fs i rows bad u→
   ∃rows' bad' u',aY fs c ((ic c c.length).map (List.map pt)) ((cT 0 (fw c 0)).map pt) fu (I u) rows c bad (i:Int)=fy fs c (I u') rows' c bad'∧M9 c N fs (cT 0 (fw c 0)).length rows' bad' u':=by
 have hM:=(rX hs hc0).1
 have hfl:=bM fs
 intro m
 induction m with
 |zero=>
  intro fu i rows bad u hi hfu hA
  obtain⟨fu,rfl⟩:=aX hfu
  rw[aY,cw (by rw[List.length_map];omega),ay]
  exact⟨rows,bad,u,rfl,(show i=_ by omega)▸hA⟩
 |succ m ihm=>
  intro fu i rows bad u hi hfu hA
  obtain⟨fu,rfl⟩:=aX hfu
  have h1:i<(cT 0 (fw c 0)).length:=by omega
  have hg:=I3 hs hc h1
  obtain⟨l',b',u',g1,g2⟩:=OM hs ih hV hsf hN hn hc h1 hg (aY fs c ((ic c c.length).map (List.map pt)) ((cT 0 (fw c 0)).map pt) fu) rows (by rw[hA.len];omega) fs.length aO 0 [] bad u (by omega) (by rw[ar];omega) (by
   rw[List.take_zero]
   exact tH.nil hA.ok)
  have g1:bD (aY fs c ((ic c c.length).map (List.map pt)) ((cT 0 (fw c 0)).map pt) fu) fs ((ic c c.length).map (List.map pt)) rows (i:Int) aO (I u) [] c bad (0:Int) (0:Int)=_:=g1
  rw[aY,bp (by rw[List.length_map];exact h1),aQ,g1,aD h1 (by omega)]
  refine ihm fu (i+1) _ b' u' (by omega) (by omega) ⟨g2.ok,by rw[List.length_append,hA.len];rfl,fun s w hw=> ?_,fun e=> ?_⟩
  ·have h1:=g2.b s w (by rw[List.take_length];exact hw)
   have h2:=g2.mono (0+s)
   rw[Nat.zero_add]at h1 h2
   rw[List.flatMap_append,hA.b s w hw,show[l'].flatMap (fun r=>lv w (rv r (lE w)))=lv w (rv l' (lE w)) by simp,h1,←AO,AY c _ (Nat.zero_le _) h2]
  ·have h1':=hA.sz (g2.st e)
   have h2:=g2.sz e
   have h3:nN (ic c c.length) (i+1)=nN (ic c c.length) i+oe (pj c i):=yU fun L hL=>by
    obtain⟨k,hk,rfl⟩:=List.mem_map.1 hL
    rw[(hc _ (List.mem_range.1 hk)).n];exact h1
   rw[E1,h3,Nat.mul_add];omega
theorem C6{l m:List Int}(hl:l.length≤4000000000):ir l m=some (decide (l=m)):=by
 unfold ir
 by_cases hlen:l.length=m.length
 ·have loop:∀(k f i:Nat),i+k=l.length→k<f→dD l m f (i:Int)=some (decide (l.drop i=m.drop i)):=by
   intro k
   induction k with
   |zero=>
    intro f i hi hf
    obtain⟨f,rfl⟩:=aX hf
    rw[dD,cw (by omega),ay,List.drop_of_length_le (by omega),List.drop_of_length_le (by omega)]
    rfl
   |succ k ih=>
    intro f i hi hf
    obtain⟨f,rfl⟩:=aX hf
    have h1:i<l.length:=by omega
    have h2:i<m.length:=by omega
    rw[dD,bp h1,aQ,bf h1,aj,bf h2,aj,cO h1,cO h2,jC (x:=(i:Int)+1) (by omega) (by omega),show(i:Int)+1=((i+1:Nat):Int) by omega,ih f (i+1) (by omega) (by omega)]
    by_cases he:l[i]=m[i]
    ·rw[show(l[i] != m[i])=false by simp[he],ay,he]
     congr 1
     exact decide_eq_decide.2 ⟨fun h=>by rw[h],fun h=>(List.cons.inj h).2⟩
    ·rw[show(l[i] != m[i])=true by simp[he],aQ,decide_eq_false (fun h=>he (List.cons.inj h).1)]
  rw[show((l.length:Int) != (m.length:Int))=false by rw[hlen];simp,ay]
  exact loop l.length aO 0 (by omega) (by rw[ar];omega)
 ·rw[show((l.length:Int) != (m.length:Int))=true by simp;omega,aQ]
  have:l≠m:=fun e=>hlen (by rw[e])
  simp[this]
theorem mS(fs:List af)(R:List (List aa)):(bn fs R).length=(WS fs).length:=by unfold bn;rw[List.length_map]
theorem Aq{fs:List af}{R:List (List aa)}{i:Nat}(h:i<(WS fs).length):(bn fs R)[i]'(by rw[mS];exact h)=hY c0 (dg (WS fs)[i] R):=by simp[bn]
theorem NE{fs:List af}{c:List ae}{R:List (List aa)}(h:ig fs R)(hlen:c.length=(WS fs).length)(ht:zE fs c R):∃b,fm (bn fs R) c=some b∧(b=true→c=bn fs R):=by
 have hwd:=h.wide
 have htt:=h.room.t
 have loop:∀(m f i:Nat),i+m=(WS fs).length→m<f→(∀s w,s<i→(WS fs)[s]? =some w→hY c0 (dg w R)=iJ c s)→∃b,bv (bn fs R) c f (i:Int)=some b∧(b=true→c=bn fs R):=by
  intro m
  induction m with
  |zero=>
   intro f i hi hf hp
   obtain⟨f,rfl⟩:=aX hf
   rw[bv,cw (by rw[mS];omega),ay]
   refine⟨true,rfl,fun _=>CP hlen fun s w hs=>hp s w ?_ hs⟩
   have:=(gN.1 hs).1
   omega
  |succ m ih=>
   intro f i hi hf hp
   obtain⟨f,rfl⟩:=aX hf
   have h1:i<(WS fs).length:=by omega
   have h2:i<(bn fs R).length:=by rw[mS];exact h1
   have h3:i<c.length:=by omega
   have hm:=kf h1
   have hw:=gu h1
   obtain⟨g1,g2,g3⟩:=h.ways _ hm
   have hco:=Aw g3 (by omega)
   have hte:=ht.eq h hw
   have hbad:∃b,dG (bv (bn fs R) c f) (i:Int) true=some b∧(b=true→c=bn fs R):=⟨false,rfl,fun e=>by cases e⟩
   rw[bv,bp h2,aQ,bf h2,aj,pn h3,aj,Aq h1,C6 hco.a,aj]
   by_cases e1:(hY c0 (dg (WS fs)[i] R)).reps=(iJ c i).reps
   ·rw[decide_eq_true e1,Bool.not_true,ay,C6 hco.b,aj]
    by_cases e2:(hY c0 (dg (WS fs)[i] R)).defs=(iJ c i).defs
    ·rw[decide_eq_true e2,Bool.not_true,ay]
     by_cases e3:(hY c0 (dg (WS fs)[i] R)).values.length=(iJ c i).values.length
     ·have e4:=hte e3
      rw[show(((hY c0 (dg (WS fs)[i] R)).values.length:Int) != ((iJ c i).values.length:Int))=false by rw[e3];simp,ay,←e4,yA hco.d hco.e,aj]
      unfold dG
      rw[show((0:Int) != 0)=false from rfl,ay,jC (x:=(i:Int)+1) (by omega) (by omega),show(i:Int)+1=((i+1:Nat):Int) by omega]
      refine ih f (i+1) (by omega) (by omega) fun s w hs hsw=> ?_
      by_cases e:s=i
      ·subst e
       rw[hw]at hsw
       cases hsw
       generalize hY c0 (dg (WS fs)[s] R)=x at*
       generalize iJ c s=y at*
       cases x;cases y
       simp only at e1 e2 e4
       rw[e1,e2,e4]
      ·exact hp s w (by omega) hsw
     ·rw[show(((hY c0 (dg (WS fs)[i] R)).values.length:Int) != ((iJ c i).values.length:Int))=true from bne_iff_ne.2 (by omega),aQ]
      exact hbad
    ·rw[decide_eq_false e2,Bool.not_false,aQ]
     exact hbad
   ·rw[decide_eq_false e1,Bool.not_false,aQ]
    exact hbad
 unfold fm
 rw[show(((bn fs R).length:Int) != (c.length:Int))=false by rw[mS,hlen];simp,ay]
 exact loop (WS fs).length aO 0 (by omega) (by rw[ar];omega) fun s w hs=>by omega
theorem Cr{fs:List af}{R:List (List aa)}(h:ig fs R):pZ fs R=some (bn fs R):=by
 have hf:=h.room.f;have ht:=h.room.t;have hn:=h.room.n
 have hw:=Jf fs
 have hfl:=bM fs
 obtain⟨hV,hu⟩:=rV (by omega) h.sc
 have hro:=FD h.room h.sc h.rf
 have:=Jq hu (by omega) (W:=WS fs) (fun w hw=>⟨Ia hw,EC hw,My hw hu (by omega),by have:=(Ba hw).2;omega⟩) (by omega) hro (by omega) (by omega) (WS fs).length aO 0 [] (by omega) (by rw[ar];omega) rfl
 rw[show((0:Nat):Int)=0 from rfl,List.drop_zero,List.nil_append]at this
 unfold pZ
 have hrw:dB aO fs=some ((WS fs).map (List.map Prod.fst)):=A7 (by omega)
 rw[hrw,aj,this]
 rfl
theorem IY{c:List ae}(hc:∀k,k<c.length→wG c k):nN (ic c c.length) (cT 0 (fw c 0)).length≤xG c:=by
 have h1:nN (ic c c.length) (cT 0 (fw c 0)).length=((List.range c.length).map fun k=>(fw c k).length).sum:=by
  unfold nN ic
  rw[List.map_map]
  congr 1
  refine List.map_congr_left fun k hk=> ?_
  show((cT 0 (fw c k)).take _).flatten.length=_
  rw[List.take_of_length_le (by rw[(hc k (List.mem_range.1 hk)).n];exact eo _),sy]
 have h2:(c.map fun x=>x.reps.length)=(List.range c.length).map fun k=>(iJ c k).reps.length:=by
  apply List.ext_getElem
  ·simp
  ·intro i h1 h2
   have h3:i<c.length:=by simpa using h1
   simp[iJ,h3]
 rw[h1]
 unfold xG
 rw[h2]
 have key:∀l:List Nat,(l.map fun k=>(fw c k).length).sum≤(l.map fun k=>(iJ c k).reps.length).sum:=by
  intro l
  induction l with
  |nil=>simp
  |cons x l ih=>
   have:(fw c x).length≤(iJ c x).reps.length:=by unfold fw;rw[List.length_zip];omega
   simp only[List.map_cons,List.sum_cons];omega
 exact key _
theorem OY{fs:List af}{c:List ae}(h:Aj fs c)(h0:sc fs=0)(hlen:c.length=(WS fs).length):
  ∃r,er fs c=some r∧(r=([],1)∨∃R,r=(R,0)∧ig fs R∧c=bn fs R):=by
 obtain⟨hne,hwp,hV⟩:=yk h.f h0
 have hf:=h.f
 have hcn:=h.s.n
 have hc0:0<c.length:=by omega
 have ih:=Dm h.s (br fs) aO (by rw[ar];omega) (by omega)
 unfold er
 have hrw:dB aO fs=some ((WS fs).map (List.map Prod.fst)):=A7 (by omega)
 rw[HF (by omega),aj,h0,show((0:Int) != 0)=false from rfl,ay,hrw,aj,show((c.length:Int) != (((WS fs).map (List.map Prod.fst)).length:Int))=false by rw[List.length_map,hlen];simp,ay,aB (by omega)]
 have hfl:=xp (fs:=fs) h.s c.length aO 0 (by omega) (by rw[ar];omega) (fun k hk=>by omega)
 have e0:(ic c 0).map (List.map pt)=[]:=rfl
 rw[e0]at hfl
 rcases hfl with⟨h1,hc⟩ |⟨h1,_⟩
 ·have h1:bC fs c aO [] (0:Int)=_:=h1
  rw[h1]
  unfold fj
  have hat:=ur (c:=c) (n:=c.length) (k:=0) hc0
  have hat:at? ((ic c c.length).map (List.map pt)) (0:Int)=_:=hat
  rw[hat,aj,show((c.length:Int)).toNat=c.length by omega,IS]
  obtain⟨R,bad,u,g1,hA⟩:=Nn h.s ih hV (eo _) (by omega) (by rw[←qM];omega) hc hc0 (cT 0 (fw c 0)).length aO 0 [] false (List.replicate c.length 0) (by omega) (by rw[ar];have:=(rX h.s hc0).1;omega)
   ⟨⟨by simp,fun k hk=>by rw[yh];omega⟩,rfl,fun s w hw=>by rw[yh,oX];rfl,fun _=>by simp[wF]⟩
  have g1:aY fs c ((ic c c.length).map (List.map pt)) ((cT 0 (fw c 0)).map pt) aO (I (List.replicate c.length 0)) [] c false (0:Int)=_:=g1
  rw[g1]
  unfold fy
  cases bad with
  |true=>
   rw[aQ]
   unfold eP
   rw[aQ]
   exact⟨_,rfl,.inl rfl⟩
  |false=>
   have hroom:=Ae h h0 (IY hc) (EO c u) (hA.sz rfl) (by rw[hA.len];exact(rX h.s hc0).1)
   rw[ay,wz (by omega) (rY hroom) (by have:=hroom.n;omega),aj]
   by_cases hcr:GV fs R=0
   ·have hro:=xo hroom hcr
    have htk:zE fs c R:=fun s w hs=>⟨g0 u s,by
     have:=hA.b s w (by rw[←qM];exact hs)
     rw[this];unfold BA;rw[List.drop_zero,Nat.sub_zero]⟩
    obtain⟨b,q1,q2⟩:=NE hro hlen htk
    rw[hcr,show((0:Int) != 0)=false from rfl,ay,Cr hro,aj,q1,aj]
    unfold eP
    cases b with
    |false=>rw[Bool.not_false,aQ];exact⟨_,rfl,.inl rfl⟩
    |true=>rw[Bool.not_true,ay];exact⟨_,rfl,.inr ⟨R,rfl,hro,q2 rfl⟩⟩
   ·rw[show(GV fs R != 0)=true by simp[hcr],aQ]
    unfold eP
    rw[aQ]
    exact⟨_,rfl,.inl rfl⟩
 ·have h1:bC fs c aO [] (0:Int)=_:=h1
  rw[h1]
  exact⟨_,rfl,.inl rfl⟩
def pe(E:List jo):List Pr:=E.map fun x=>(x.1,x.2.1)
theorem Ma(E:List jo):(pe E).length=E.length:=by simp[pe]
theorem Ex(a b:List jo):pe (a++b)=pe a++pe b:=by simp[pe]
theorem ut:∀(u:iz) (v:aa) (r d q:Int),EL u→tM u v→∀x∈(gd u v r d q).tail,q<x.1
 |[],v,r,d,q,he,_=>he.elim
 |(f,i)::u,v,r,d,q,he,hs=>by
  simp only[gd]
  by_cases h0:f.need=false∧v.kind=0
  ·rw[if_pos h0];intro x hx;cases hx
  ·rw[if_neg h0]
   by_cases h6:f.type.kind=6
   ·rw[if_pos h6]
    by_cases hl:v.items.length=0
    ·rw[if_pos hl];intro x hx;cases hx
    ·rw[if_neg hl]
     have hsi:∀e∈v.items,tM u e:=by
      rcases hs with h|h|h|h
      ·exact absurd h h0
      ·exact h.2
      ·have:=h.1;omega
      ·exact absurd h6 h.1
     have hel:EL u:=by
      cases u with
      |nil=>unfold EL ln at he;simp[h6]at he
      |cons y u=>exact he.2
     have all:∀(l:List aa) (rr:Int),(∀e∈l,tM u e)→q<rr→∀x∈qQ (fun e r=>gd u e r (dn f d+1) (q+1)) (q+1) l rr,q<x.1:=by
      intro l
      induction l with
      |nil=>intro rr _ _ x hx;cases hx
      |cons e l ih=>
       intro rr h1 h2 x hx
       simp only[qQ]at hx
       rcases List.mem_append.1 hx with hx|hx
       ·obtain⟨d1,y,t,he1,_⟩:=iO u e rr (dn f d+1) (q+1) hel (h1 e (List.mem_cons_self ..))
        have htl:=ut u e rr (dn f d+1) (q+1) hel (h1 e (List.mem_cons_self ..))
        rw[he1]at hx htl
        rcases List.mem_cons.1 hx with rfl|hx
        ·exact h2
        ·have:=htl x hx;omega
       ·exact ih _ (fun e he=>h1 e (List.mem_cons_of_mem _ he)) (by omega) x hx
     cases hv:v.items with
     |nil=>rw[hv]at hl;exact absurd rfl hl
     |cons e es=>
      rw[hv]at hsi
      intro x hx
      simp only[qQ]at hx
      obtain⟨d1,y,t,he1,_⟩:=iO u e r (dn f d+1) (q+1) hel (hsi e (List.mem_cons_self ..))
      have htl:=ut u e r (dn f d+1) (q+1) hel (hsi e (List.mem_cons_self ..))
      rw[he1,List.cons_append,List.tail_cons]at hx
      rw[he1,List.tail_cons]at htl
      rcases List.mem_append.1 hx with hx|hx
      ·have:=htl x hx;omega
      ·exact all es (q+1) (fun e he=>hsi e (List.mem_cons_of_mem _ he)) (by omega) x hx
   ·rw[if_neg h6]
    by_cases h7:f.type.kind=7
    ·rw[if_pos h7]
     have hsi:tM u (iv v (lE u)):=by
      rcases hs with h|h|h|h
      ·exact absurd h h0
      ·exact absurd h.1 h6
      ·exact h.2.2
      ·exact absurd h7 h.2
     have hel:EL u:=by
      cases u with
      |nil=>unfold EL ln at he;simp[h7]at he
      |cons y u=>exact he.2
     exact ut u _ r _ q hel hsi
    ·rw[if_neg h7];intro x hx;cases hx
def Od(rep:Int)(A:List Pr):Prop:=A≠[]∧∀x∈A.tail,rep<x.1
theorem A4{rep:Int}:∀(l cur rest:List Pr),(∀x∈l,rep<x.1)→Ap rep cur (l++rest)=Ap rep (cur++l) rest
 |[],cur,rest,_=>by simp
 |x::l,cur,rest,h=>by
  have h1:=h x (List.mem_cons_self ..)
  rw[List.cons_append,Ap,if_neg (by omega),A4 l (cur++[x]) rest fun y hy=>h y (List.mem_cons_of_mem _ hy)]
  simp
theorem EX{rep:Int}:∀(As:List (List Pr)) (cur:List Pr),(∀A∈As,Od rep A∧∀x,A.head? =some x→x.1≤rep)→Ap rep cur As.flatten=cur::As
 |[],cur,_=>rfl
 |A::As,cur,h=>by
  obtain⟨⟨h1,h2⟩,h3⟩:=h A (List.mem_cons_self ..)
  cases A with
  |nil=>exact absurd rfl h1
  |cons x l=>
   have hx:=h3 x rfl
   rw[List.flatten_cons,List.cons_append,Ap,if_pos hx,A4 l [x] As.flatten h2,EX As _ fun A hA=>h A (List.mem_cons_of_mem _ hA)]
   rfl
theorem EG{rep:Int}{A:List Pr}{As:List (List Pr)}(hA:Od rep A)(h:∀B∈As,Od rep B∧∀x,B.head? =some x→x.1≤rep):cT rep (A::As).flatten=A::As:=by
 obtain⟨h1,h2⟩:=hA
 cases A with
 |nil=>exact absurd rfl h1
 |cons x l=>
  rw[List.flatten_cons,List.cons_append,cT,A4 l [x] As.flatten h2,EX As _ h]
  rfl
theorem uc{u:iz}{v:aa}(r d q:Int)(hel:EL u)(hs:tM u v):Od q (pe (gd u v r d q))∧∀x,(pe (gd u v r d q)).head? =some x→x.1=r:=by
 obtain⟨d1,y,t,he,_⟩:=iO u v r d q hel hs
 have ht:=ut u v r d q hel hs
 rw[he]at ht⊢
 refine⟨⟨by simp[pe],fun x hx=> ?_⟩,fun x hx=> ?_⟩
 ·simp only[pe,List.map_cons,List.tail_cons]at hx
  obtain⟨z,hz,rfl⟩:=List.mem_map.1 hx
  exact ht z hz
 ·simp[pe]at hx
  rw[←hx]
theorem Gd{u:iz}(hel:EL u)(d q:Int){e:aa}{es:List aa}(r:Int)(hs:∀x∈e::es,tM u x):
  cT q (pe (qQ (fun e r=>gd u e r d q) q (e::es) r))=pe (gd u e r d q)::es.map fun e=>pe (gd u e q d q):=by
 have hfl:∀(l:List aa),pe (qQ (fun e r=>gd u e r d q) q l q)=(l.map fun e=>pe (gd u e q d q)).flatten:=by
  intro l
  induction l with
  |nil=>rfl
  |cons x l ih=>simp only[qQ,Ex,ih,List.map_cons,List.flatten_cons]
 have e1:pe (qQ (fun e r=>gd u e r d q) q (e::es) r)=(pe (gd u e r d q)::es.map fun e=>pe (gd u e q d q)).flatten:=by
  simp only[qQ,Ex,hfl,List.flatten_cons]
 rw[e1]
 refine EG (uc r d q hel (hs e (List.mem_cons_self ..))).1 fun B hB=> ?_
 obtain⟨x,hx,rfl⟩:=List.mem_map.1 hB
 obtain⟨g1,g2⟩:=uc q d q hel (hs x (List.mem_cons_of_mem _ hx))
 exact⟨g1,fun y hy=>by rw[g2 y hy];exact Int.le_refl _⟩
theorem DJ{u:iz}{v:aa}(r d q:Int){d1:Int}{x:Option aa}{t:List jo}(h:gd u v r d q=(r,d1,x)::t):pS (pe (gd u v r d q))=d1:=by
 rw[h];rfl
theorem Hq{b:Int}:∀(Es:List (List Pr)) (x:Int),b≤x→(∀E∈Es,b≤pS E)→b≤KT x Es
 |[],x,hx,_=>hx
 |E::Es,x,hx,h=>by
  have h1:=h E (List.mem_cons_self ..)
  rw[KT]
  refine Hq Es _ ?_ fun F hF=>h F (List.mem_cons_of_mem _ hF)
  split<;>omega
theorem zH{b:Int}:∀(Es:List (List Pr)),(∀E∈Es,pS E=b)→KT b Es=b
 |[],_=>rfl
 |E::Es,h=>by
  have h1:=h E (List.mem_cons_self ..)
  rw[KT,if_neg (by omega)]
  exact zH Es fun F hF=>h F (List.mem_cons_of_mem _ hF)
structure VA(c:List ae)(u:List Nat)(R:Nat→List aa):Prop where
 lu:u.length=c.length
 h:∀k,k<c.length→(iJ c k).values.drop (g0 u k)=R k
def pz(W:List iz)(v:aa)(r d q:Int):List (List Pr):=W.map fun w=>pe (gd w v r d q)
def VB(c:List ae)(N:Nat)(val:LV):Prop:=
 ∀(f:af) (i a:Nat) (r d q:Int) (dd:Nat) (v:aa) (R T:Nat→List aa) (u:List Nat),V f.type→gb f.type≤N→Ag f dd v→bS v<100000000→a+(al N f i).length≤c.length→0≤d→d+2*(N:Int)≤1000000000→0≤q→q+(N:Int)≤1000000000→
  (∀(j:Nat) w,(al N f i)[j]? =some w→R (a+j)=lv w v++T (a+j))→(∀k,(k<a∨a+(al N f i).length≤k)→R k=T k)→VA c u R→
  ∃u',val f (a:Int) ((pz (al N f i) v r d q).map pt) d q c false (I u)=some (v,c,false,I u')∧VA c u' T
theorem VA.len_eq{c:List ae}{u u':List Nat}{R T:Nat→List aa}(h:VA c u R)(k:VA c u' T):(I u').length=(I u).length:=by simp only[fE];rw[h.lu,k.lu]
theorem VA.eqv{c:List ae}{u:List Nat}{R T:Nat→List aa}(h:VA c u R)(he:∀k,k<c.length→R k=T k):VA c u T:=⟨h.lu,fun k hk=>(h.h k hk).trans (he k hk)⟩
theorem Nh{c:List ae}(hs:kd c){N:Nat}{qv:LV}(ih:VB c N qv){f g:af}(hk:f.type.kind=6)(hg:f.type.fields[0]? =some g)(hVg:V g.type)(hsg:gb g.type≤N){dd:Nat}{items:List aa}(hv:ca items<100000000)(hchk:∀x∈items,Ag g dd x)
  {a:Nat}(hn:a+(al N g 0).length≤c.length){x1 q:Int}(hd0:0≤x1)(hd1:x1+1+2*(N:Int)≤1000000000)(hq0:0≤q)(hq1:q+1+(N:Int)≤1000000000)(p8:List Int)(h8:p8.length=c.length){T:Nat→List aa}
  {Ls:List (List (List Pr))}(hLs:∀t (ht:t<items.length),∃r,(Ls.map fun L=>L.getD t [])=pz (al N g 0) items[t] r (x1+1) (q+1)):
  ∀(m fu t:Nat) (R:Nat→List aa) (u:List Nat),t+m=items.length→m<fu→(∀(j:Nat) w,(al N g 0)[j]? =some w→R (a+j)=(items.drop t).flatMap (lv w)++T (a+j))→(∀k,(k<a∨a+(al N g 0).length≤k)→R k=T k)→VA c u R→
   ∃u',aR qv f (a:Int) x1 q p8 ((tr items.length Ls).map (List.map pt)) fu (I u) (items.take t) c false (t:Int)=some (⟨6,0,0,ByteArray.empty,items⟩,c,false,I u')∧VA c u' T:=by
 have hcn:=hs.n
 have hil:=ec items
 intro m
 induction m with
 |zero=>
  intro fu t R u ht hfu hR ho h
  obtain⟨fu,rfl⟩:=aX hfu
  rw[aR,cw (by simp[tr];omega),ay,List.take_of_length_le (by omega)]
  unfold ip
  rw[aB (by rw[fE,h.lu,h8])]
  refine⟨u,rfl,h.eqv fun k hk=> ?_⟩
  by_cases hkk:a≤k∧k<a+(al N g 0).length
  ·have:=hR (k-a) _ (gu (by omega))
   rw[show a+(k-a)=k by omega,List.drop_of_length_le (by omega)]at this
   rw[this];rfl
  ·exact ho k (by omega)
 |succ m ihm=>
  intro fu t R u ht hfu hR ho h
  obtain⟨fu,rfl⟩:=aX hfu
  have h1:t<items.length:=by omega
  have h2:t<(tr items.length Ls).length:=by simp[tr];exact h1
  have hit:(tr items.length Ls)[t]=Ls.map fun L=>L.getD t []:=by simp[tr]
  have hat:at? ((tr items.length Ls).map (List.map pt)) (t:Int)=some ((Ls.map fun L=>L.getD t []).map pt):=by
   apply dl
   rw[List.getElem?_map,gu h2,hit];rfl
  obtain⟨r,hpt⟩:=hLs t h1
  have hcx:=hchk _ (kf h1)
  have hsx:=cE (kf h1)
  have hent:∀w∈al N g 0,∃d1 x tl,gd w items[t] r (x1+1) (q+1)=(r,d1,x)::tl∧x1+1≤d1:=fun w hw=>iO w _ r _ _ (rI hw) (pQ hw hVg hcx)
  rw[aR,bp (by simp[tr];exact h1),aQ,hat,aj]
  have hsm:=Al (aR qv f (a:Int) x1 q p8 ((tr items.length Ls).map (List.map pt)) fu) qv f (a:Int) x1 q p8 ((tr items.length Ls).map (List.map pt)) c false (U:=I u) (by rw[fE,h.lu,h8]) (items.take t) (t:Int) (Es:=Ls.map fun L=>L.getD t []) (fun E hE=>by
    rw[hpt]at hE
    obtain⟨w,hw,rfl⟩:=List.mem_map.1 hE
    obtain⟨d1,x,tl,he,_⟩:=hent w hw
    rw[he];simp[pe]) (by rw[hpt];simp[pz];omega) (Ls.map fun L=>L.getD t []).length aO 0 (by omega) (by rw[ar,hpt];simp[pz];omega)
  have hsm:cM (aR qv f (a:Int) x1 q p8 ((tr items.length Ls).map (List.map pt)) fu) qv f (a:Int) x1 q p8 ((tr items.length Ls).map (List.map pt)) (I u) (items.take t) c false (t:Int) ((Ls.map fun L=>L.getD t []).map pt) aO (0:Int)=_:=hsm
  rw[hsm,if_neg (by
   rw[List.drop_zero,List.any_eq_true]
   rintro⟨E,hE,hle⟩
   have hle:=of_decide_eq_true hle
   rw[hpt]at hE
   obtain⟨w,hw,rfl⟩:=List.mem_map.1 hE
   obtain⟨d1,x,tl,he,hd⟩:=hent w hw
   rw[DJ r _ _ he]at hle
   omega)]
  unfold fQ
  let T1:Nat→List aa:=fun k=>if h:a≤k∧k<a+(al N g 0).length then(items.drop (t+1)).flatMap (lv ((al N g 0)[k-a]'(by omega)))++T k else T k
  have hT1:∀(j:Nat) w,(al N g 0)[j]? =some w→T1 (a+j)=(items.drop (t+1)).flatMap (lv w)++T (a+j):=by
   intro j w hj
   obtain⟨hjl,hju⟩:=gN.1 hj
   have e:a+j-a=j:=by omega
   simp only[T1]
   rw[dif_pos ⟨by omega,by omega⟩]
   simp only[e]
   rw[hju]
  have hT1o:∀k,(k<a∨a+(al N g 0).length≤k)→T1 k=T k:=by
   intro k hk
   simp only[T1]
   rw[dif_neg (by omega)]
  obtain⟨u',g1,g2⟩:=ih g 0 a r (x1+1) (q+1) dd items[t] R T1 u hVg hsg hcx (by omega) hn (by omega) (by omega) (by omega) (by omega)
   (fun j w hj=>by rw[hR j w hj,hT1 j w hj,cO h1,List.flatMap_cons,List.append_assoc]) (fun k hk=>by rw[ho k hk,hT1o k hk]) h
  rw[show at? f.type.fields (0:Int)=some g from dl (i:=0) hg,aj,hat,aj,jC (x:=x1+1) (by omega) (by omega),jC (x:=q+1) (by omega) (by omega),hpt,g1,aj]
  simp only
  rw[aB (h.len_eq g2),aB (by rw[List.length_take];omega),aD h1 (by omega),←List.take_succ_eq_append_getElem h1]
  exact ihm fu (t+1) T1 u' (by omega) (by omega) hT1 hT1o g2
theorem OL{c:List ae}(hs:kd c){N:Nat}{qv:LV}(ih:VB c N qv){f:af}(hk:f.type.kind=7)(hVf:V f.type)(hsf:br f.type.fields≤N)(hN:N≤100000000){dd:Nat}{items:List aa}(hv:ca items<100000000)(hvl:f.type.fields.length=items.length)(hchk:∀j g,f.type.fields[j]? =some g→Ag g dd (rv items j))
  {a:Nat}(hn:a+(dE (WY N) f.type.fields 0).length≤c.length){x1 q r:Int}(hd0:0≤x1)(hd1:x1+2*(N:Int)≤1000000000)(hq0:0≤q)(hq1:q+(N:Int)≤1000000000)(p8:List Int)(h8:p8.length=c.length){T:Nat→List aa}:
  ∀(m fu j:Nat) (R:Nat→List aa) (u:List Nat),j+m=f.type.fields.length→m<fu→
   (∀(s:Nat) w,(dE (WY N) f.type.fields 0)[s]? =some w→(dE (WY N) (f.type.fields.take j) 0).length≤s→R (a+s)=lv w (rv items (lE w))++T (a+s))→(∀k,(k<a+(dE (WY N) (f.type.fields.take j) 0).length∨a+(dE (WY N) f.type.fields 0).length≤k)→R k=T k)→VA c u R→
   ∃u',bE qv f (a:Int) (((dE (WY N) f.type.fields 0).map fun w=>pe (gd w (rv items (lE w)) r x1 q)).map pt) q p8 x1 fu (I u) (items.take j) c false (((dE (WY N) (f.type.fields.take j) 0).length:Nat):Int) (j:Int)=some (⟨7,0,0,ByteArray.empty,items⟩,c,false,I u')∧VA c u' T:=by
 have hfl:=bM f.type.fields
 have hcn:=hs.n
 have hil:=ec items
 intro m
 induction m with
 |zero=>
  intro fu j R u hj hfu hR ho h
  obtain⟨fu,rfl⟩:=aX hfu
  rw[bE,cw (by omega),ay,List.take_of_length_le (by omega)]
  unfold hI
  rw[aB (by rw[fE,h.lu,h8])]
  refine⟨u,rfl,h.eqv fun k hk=>ho k ?_⟩
  rw[show j=f.type.fields.length by omega,List.take_length]
  omega
 |succ m ihm=>
  intro fu j R u hj hfu hR ho h
  obtain⟨fu,rfl⟩:=aX hfu
  have h1:j<f.type.fields.length:=by omega
  have h1v:j<items.length:=by omega
  have hmem:=kf h1
  have hVg:=hVf.fs _ hmem
  have hsz:=bN hmem
  have hfd:=cc f.type.fields[j]
  have hzv:bS (rv items j)≤ca items:=by rw[←rC h1v];exact cE (kf h1v)
  have hsplit:dE (WY N) f.type.fields 0=dE (WY N) (f.type.fields.take j) 0++(al N f.type.fields[j] j++dE (WY N) (f.type.fields.drop (j+1)) (j+1)):=by
   conv=>lhs;rw[←List.take_append_drop j f.type.fields]
   rw[pb,cO h1,gR,Nat.zero_add,List.length_take,Nat.min_eq_left (by omega)]
  obtain⟨L,hL1,hL2⟩:=uZ (f:=f.type.fields[j]) (N:=N) (by omega) hN j
  have htk1:=gn N h1
  generalize hP:dE (WY N) (f.type.fields.take j) 0=P at*
  generalize hQ:dE (WY N) (f.type.fields.drop (j+1)) (j+1)=Q at*
  have hlen:(dE (WY N) f.type.fields 0).length=P.length+((al N f.type.fields[j] j).length+Q.length):=by rw[hsplit,List.length_append,List.length_append]
  let T1:Nat→List aa:=fun k=>if a+P.length≤k∧k<a+P.length+(al N f.type.fields[j] j).length then T k else R k
  have hway:∀(s:Nat) w,(al N f.type.fields[j] j)[s]? =some w→(dE (WY N) f.type.fields 0)[P.length+s]? =some w:=by
   intro s w hw
   have hsl:=(gN.1 hw).1
   rw[hsplit,List.getElem?_append_right (by omega),show P.length+s-P.length=s by omega,nq hsl]
   exact hw
  have hslice:(((dE (WY N) f.type.fields 0).map fun w=>pe (gd w (rv items (lE w)) r x1 q)).drop P.length).take (al N f.type.fields[j] j).length=pz (al N f.type.fields[j] j) (rv items j) r x1 q:=by
   rw[hsplit,List.map_append,List.drop_append_of_le_length (by rw[List.length_map];exact eo _),List.drop_of_length_le (by rw[List.length_map];exact eo _),List.nil_append,List.map_append,List.take_append_of_le_length (by rw[List.length_map];exact eo _),List.take_of_length_le (by rw[List.length_map];exact eo _)]
   unfold pz
   refine List.map_congr_left fun w hw=> ?_
   rw[kC hw]
  obtain⟨u',g1,g2⟩:=ih f.type.fields[j] j (a+P.length) r x1 q dd (rv items j) R T1 u hVg (by omega) (hchk j _ (gu h1)) (by omega) (by omega) hd0 hd1 hq0 hq1
   (fun s w hw=>by
    have hsl:=(gN.1 hw).1
    have:=hR (P.length+s) w (hway s w hw) (by omega)
    rw[kC (List.mem_of_getElem? hw),←Nat.add_assoc]at this
    rw[this]
    simp only[T1]
    rw[if_pos ⟨by omega,by omega⟩])
   (fun k hk=>by
    simp only[T1]
    rw[if_neg (by omega)]) h
  have hwr:i64.wrap ((P.length:Int)+(L.length:Int))=((P.length+(al N f.type.fields[j] j).length:Nat):Int):=by rw[hL2,jC (by omega) (by omega)];omega
  have hwa:i64.wrap ((a:Int)+(P.length:Int))=((a+P.length:Nat):Int):=by rw[jC (by omega) (by omega)];omega
  have hsl:(((((dE (WY N) f.type.fields 0).map fun w=>pe (gd w (rv items (lE w)) r x1 q)).map pt).drop ((P.length:Int)).toNat).take ((((P.length+(al N f.type.fields[j] j).length:Nat):Int)).toNat-((P.length:Int)).toNat))=(pz (al N f.type.fields[j] j) (rv items j) r x1 q).map pt:=by
   rw[show((P.length:Int)).toNat=P.length by omega,show(((P.length+(al N f.type.fields[j] j).length:Nat):Int)).toNat=P.length+(al N f.type.fields[j] j).length by omega,show P.length+(al N f.type.fields[j] j).length-P.length=(al N f.type.fields[j] j).length by omega,←List.map_drop,←List.map_take,hslice]
  rw[bE,bp h1,aQ,bf h1,aj,hL1,aj,hwr,hwa,aB (by rw[List.length_map,List.length_map];omega),hsl,g1,aj]
  simp only
  rw[aB (h.len_eq g2),aB (by rw[List.length_take];omega),aD h1 (by omega),←rC h1v,←List.take_succ_eq_append_getElem h1v]
  have hnext:=ihm fu (j+1) T1 u' (by omega) (by omega) (fun s w hw hle=>by
    rw[htk1,List.length_append]at hle
    have hsl:=(gN.1 hw).1
    have:=hR s w hw (by omega)
    rw[←this]
    simp only[T1]
    rw[if_neg (by omega)])
   (fun k hk=>by
    rw[htk1,List.length_append]at hk
    simp only[T1]
    split
    ·rfl
    ·rename_i h9
     exact ho k (by omega)) g2
  rw[htk1,List.length_append]at hnext
  exact hnext
theorem zV{s:Int}{Es:List (List Pr)}(h:∀E∈Es,E.length=1∧pS E=s):Es.any (BI s)=false:=by
 rw[List.any_eq_false]
 intro E hE
 obtain⟨h1,h2⟩:=h E hE
 unfold BI
 simp[h1,h2]
theorem Dd{c:List ae}(hs:kd c):∀(N k:Nat),2*N<k→N≤100000000→VB c N (ax k)
 |0,k,hk,hN=>by
  intro f i a r d q dd v R T u hV hsz
  have:=eX f.type;omega
 |N+1,k,hk,hN=>by
  intro f i a r d q dd v R T u hV hsz hc hv hn hd0 hd1 hq0 hq1 hR ho h
  obtain⟨k,rfl⟩:=aX (m:=2*N+1) (f:=k) (by omega)
  have ihv:=Dd hs N k (by omega) (by omega)
  have he:=eX f.type
  have hpos:=iV (N+1) f i hV hsz
  have ha:a<c.length:=by omega
  have hcn:=hs.n
  have hve:=fg v
  cases dd with
  |zero=>exact hc.s.zero.elim
  |succ dd=>
  have hpl:=hc.s.succ.1
  have hkind:=tU hc.o
  have hshp:∀w∈al (N+1) f i,∃u,w=(f,i)::u∧EL w∧tM w v:=fun w hw=>by
   obtain⟨u,h1,h2⟩:=pD hw
   exact⟨u,h1,rI hw,pQ hw hV hc⟩
  have hEl:(pz (al (N+1) f i) v r d q).length=(al (N+1) f i).length:=by simp[pz]
  have hEp:0<(pz (al (N+1) f i) v r d q).length:=by omega
  have hEll:(pz (al (N+1) f i) v r d q).length<1000000000:=by omega
  have hne:∀E∈pz (al (N+1) f i) v r d q,E≠[]:=fun E hE=>by
   obtain⟨w,hw,rfl⟩:=List.mem_map.1 hE
   obtain⟨_,_,h1,h2⟩:=hshp w hw
   exact(uc r d q h1 h2).1.1
  have hpt0:at? ((pz (al (N+1) f i) v r d q).map pt) (0:Int)=some (pt (pz (al (N+1) f i) v r d q)[0]):=tP (i:=0) hEp
  have h20:=vW (hne _ (kf hEp))
  have hm0:=kf hEp
  have hnone:(∀w∈al (N+1) f i,lv w v=[])→VA c u T:=fun hl=>h.eqv fun k hk=>by
   by_cases hkk:a≤k∧k<a+(al (N+1) f i).length
   ·have hw:=gu (show k-a<(al (N+1) f i).length by omega)
    have:=hR (k-a) _ hw
    rw[show a+(k-a)=k by omega,hl _ (List.mem_of_getElem? hw)]at this
    exact this
   ·exact ho k (by omega)
  have j5:¬(f.need=false∧v.kind=0)→∃u',dH (bl k) (ax k) f (a:Int) ((pz (al (N+1) f i) v r d q).map pt) q c false (I u) (pt (pz (al (N+1) f i) v r d q)[0]) (pS (pz (al (N+1) f i) v r d q)[0]) (dn f d)=some (v,c,false,I u')∧VA c u' T:=by
   intro h0
   have hdn0:d≤dn f d∧dn f d≤d+1:=by unfold dn;split<;>omega
   have hk0:v.kind=f.type.kind:=by
    rcases hkind with h|h
    ·cases hn:f.need with
     |true=>exact absurd ⟨hn,h⟩ hc.n
     |false=>exact absurd ⟨hn,h⟩ h0
    ·exact h
   unfold dH
   by_cases h6:f.type.kind=6
   ·obtain⟨hbv,_⟩:=pK hpl (by omega)
    have hlf:ln f=false:=by unfold ln;simp[h6]
    have hlist:=hV.list h6
    obtain⟨g,hg1⟩:∃g,f.type.fields=[g]:=by
     cases hff:f.type.fields with
     |nil=>rw[hff]at hlist;simp at hlist
     |cons g gs=>rw[hff]at hlist;simp at hlist;subst hlist;exact⟨g,rfl⟩
    have hg:f.type.fields[0]? =some g:=by rw[hg1];rfl
    have hgm:g∈f.type.fields:=by rw[hg1];exact List.mem_cons_self ..
    have hways:al (N+1) f i=(al N g 0).map ((f,i)::·):=by
     rw[al,hlf,if_neg (by simp),hg1]
     show(dE (WY N) [g] 0).map _=_
     rw[gR];simp[dE]
    have hwl:(al (N+1) f i).length=(al N g 0).length:=by rw[hways,List.length_map]
    have h1:=bN hgm
    have h2:=cc g
    have hent:∀w,gd ((f,i)::w) v r d q=if v.items.length=0 then[(r,dn f d,none)]else qQ (fun e r=>gd w e r (dn f d+1) (q+1)) (q+1) v.items r:=fun w=>by
     simp only[gd]
     rw[if_neg h0,if_pos h6]
    have hlv:∀w,lv ((f,i)::w) v=v.items.flatMap (lv w):=fun w=>by
     simp only[lv]
     rw[if_neg (by omega),if_pos h6]
    rw[show(f.type.kind==6)=true by simp[h6],aQ]
    obtain⟨k,rfl⟩:=aX (m:=2*N) (f:=k) (by omega)
    have ihv:=Dd hs N k (by omega) (by omega)
    have hlst:∃u',bl (k+1) f (a:Int) ((pz (al (N+1) f i) v r d q).map pt) (dn f d) q c false (I u)=some (v,c,false,I u')∧VA c u' T:=by
     rw[bl,hpt0,aj,h20,aj]
     by_cases hl:v.items.length=0
     ·have hall:∀E∈pz (al (N+1) f i) v r d q,E.length=1∧pS E=dn f d:=by
       intro E hE
       obtain⟨w,hw,rfl⟩:=List.mem_map.1 hE
       rw[hways]at hw
       obtain⟨w0,_,rfl⟩:=List.mem_map.1 hw
       rw[hent w0,if_pos hl]
       exact⟨rfl,rfl⟩
      rw[(hall _ hm0).2,decide_eq_true (Int.le_refl _),aQ]
      have:=CS (c:=c) (u:=u) hne hEll (dn f d) _ aO 0 false (Nat.zero_add _) (by rw[ar];omega)
      have this:bK ((pz (al (N+1) f i) v r d q).map pt) (dn f d) c (I u) aO false (0:Int)=_:=this
      rw[this,List.drop_zero,zV hall]
      refine⟨u,?_,hnone fun w hw=> ?_⟩
      ·rw[hbv,hk0,h6,List.eq_nil_of_length_eq_zero hl];rfl
      ·rw[hways]at hw
       obtain⟨w0,_,rfl⟩:=List.mem_map.1 hw
       rw[hlv w0,List.eq_nil_of_length_eq_zero hl];rfl
     ·have hchk:∀x∈v.items,Ag g dd x:=fun x hx=>by
       obtain⟨t,ht,rfl⟩:=List.getElem_of_mem hx
       rw[nt ht]
       exact se hc hV ht (by rw[if_pos h6];exact hg)
      have hhd:∀E∈pz (al (N+1) f i) v r d q,dn f d+1≤pS E:=by
       intro E hE
       obtain⟨w,hw,rfl⟩:=List.mem_map.1 hE
       obtain⟨w0,hw0,e1,e2⟩:=hshp w hw
       subst hw0
       obtain⟨d1,x,t,g1,g2,g3⟩:=sB r d q e1 e2 h0
       rw[DJ r d q g1]
       exact g3 h6 hl
      have hh0:=hhd _ hm0
      rw[decide_eq_false (by omega),ay]
      unfold qf kb
      obtain⟨e,es,hit⟩:∃e es,v.items=e::es:=by
       cases hq:v.items with
       |nil=>rw[hq]at hl;exact absurd rfl hl
       |cons e es=>exact⟨e,es,rfl⟩
      have hcut:∀w0∈al N g 0,cT (q+1) (pe (gd ((f,i)::w0) v r d q))=pe (gd w0 e r (dn f d+1) (q+1))::es.map fun e=>pe (gd w0 e (q+1) (dn f d+1) (q+1)):=by
       intro w0 hw0
       rw[hent w0,if_neg hl,hit]
       exact Gd (rI hw0) _ _ r fun x hx=>pQ hw0 (hV.fs g hgm) (hchk x (by rw[hit];exact hx))
      have hcl:∀E∈pz (al (N+1) f i) v r d q,(cT (q+1) E).length=v.items.length:=by
       intro E hE
       obtain⟨w,hw,rfl⟩:=List.mem_map.1 hE
       rw[hways]at hw
       obtain⟨w0,hw0,rfl⟩:=List.mem_map.1 hw
       rw[hcut w0 hw0,hit];simp
      have hlen9:∀E∈pz (al (N+1) f i) v r d q,E.length<1000000000:=by
       intro E hE
       obtain⟨w,hw,rfl⟩:=List.mem_map.1 hE
       obtain⟨_,_,_,e2⟩:=hshp w hw
       rw[Ma]
       have:=oT w v r d q e2
       omega
      generalize hEs:pz (al (N+1) f i) v r d q=Es at*
      obtain⟨E0,Es',hEs2⟩:∃E0 Es',Es=E0::Es':=by
       cases Es with
       |nil=>simp at hEp
       |cons x l=>exact⟨x,l,rfl⟩
      have hres:=Hc (rep:=q+1) (E:=E0) (Es:=Es') (by rw[←hEs2];exact hlen9) (by rw[←hEs2];omega)
      rw[←hEs2]at hres
      have hE0:(cT (q+1) E0).length=v.items.length:=hcl E0 (by rw[hEs2];exact List.mem_cons_self ..)
      rw[hE0,if_pos (fun F hF=>hcl F (by rw[hEs2];exact List.mem_cons_of_mem _ hF))]at hres
      rw[jC (x:=q+1) (by omega) (by omega),hres,aj,aj]
      simp only[Option.isSome_some]
      rw[aQ,aj,aj]
      have hlb:=Nh hs ihv h6 hg (hV.fs g hgm) (by omega) (items:=v.items) (by omega) hchk (a:=a) (by omega) (x1:=dn f d) (q:=q) (by omega) (by omega) (by omega) (by omega) (I u) (by rw[fE,h.lu]) (T:=T) (Ls:=Es.map (cT (q+1))) (fun t ht=>by
        refine⟨if t=0 then r else q+1,?_⟩
        rw[←hEs]
        unfold pz
        rw[hways,List.map_map,List.map_map,List.map_map]
        refine List.map_congr_left fun w0 hw0=> ?_
        show(cT (q+1) (pe (gd ((f,i)::w0) v r d q))).getD t []=_
        rw[hcut w0 hw0]
        cases t with
        |zero=>
         rw[if_pos rfl]
         simp[hit]
        |succ t=>
         rw[if_neg (by omega)]
         have ht':t<es.length:=by rw[hit]at ht;simpa using ht
         simp[hit,List.getD_eq_getElem?_getD,gu ht']) v.items.length aO 0 R u (by omega) (by rw[ar];have:=ec v.items;omega)
       (fun j w0 hw0=>by
        have:=hR j ((f,i)::w0) (by rw[hways,List.getElem?_map,hw0];rfl)
        rw[hlv w0]at this
        rw[List.drop_zero]
        exact this) (fun k hk=>ho k (by omega)) h
      rw[List.take_zero]at hlb
      obtain⟨u',g1,g2⟩:=hlb
      have g1:aR (ax k) f (a:Int) (dn f d) q (I u) ((tr v.items.length (Es.map (cT (q+1)))).map (List.map pt)) aO (I u) [] c false (0:Int)=_:=g1
      refine⟨u',?_,g2⟩
      rw[g1,hbv,hk0,h6]
    obtain⟨u',g1,g2⟩:=hlst
    rw[g1,aj]
    simp only
    rw[aB (h.len_eq g2),aB (h.len_eq g2)]
    exact⟨u',rfl,g2⟩
   ·rw[show(f.type.kind==6)=false by simp[h6],ay]
    by_cases h7:f.type.kind=7
    ·obtain⟨hbv,_⟩:=pK hpl (by omega)
     have hlf:ln f=false:=by unfold ln;simp[h7]
     have hways:al (N+1) f i=(dE (WY N) f.type.fields 0).map ((f,i)::·):=by
      rw[al,hlf,if_neg (by simp)];rfl
     have hwl:(al (N+1) f i).length=(dE (WY N) f.type.fields 0).length:=by rw[hways,List.length_map]
     have hvl:=A0 hc.o hk0 h7
     have hpe:pz (al (N+1) f i) v r d q=(dE (WY N) f.type.fields 0).map fun w=>pe (gd w (rv v.items (lE w)) r (dn f d) q):=by
      unfold pz
      rw[hways,List.map_map]
      refine List.map_congr_left fun w _=> ?_
      show pe (gd ((f,i)::w) v r d q)=_
      simp only[gd]
      rw[if_neg h0,if_neg h6,if_pos h7]
      rfl
     rw[show(f.type.kind==7)=true by simp[h7],aQ,hpe]
     have hrb:=OL hs ihv h7 hV (by omega) (by omega) (items:=v.items) (by omega) hvl (fun j g hg=>by
       have hjl:j<f.type.fields.length:=(gN.1 hg).1
       exact se hc hV (show j<v.items.length by omega) (by rw[if_neg h6];exact hg)) (a:=a) (by omega) (x1:=dn f d) (q:=q) (r:=r) (by omega) (by omega) (by omega) (by omega) (I u) (by rw[fE,h.lu]) (T:=T) f.type.fields.length aO 0 R u (by omega) (by rw[ar];have:=bM f.type.fields;omega)
      (fun s w hw _=>by
       have:=hR s ((f,i)::w) (by rw[hways,List.getElem?_map,hw];rfl)
       rw[this]
       simp only[lv]
       rw[if_neg (by omega),if_neg h6,if_pos h7]
       rfl) (fun k hk=>ho k (by rw[List.take_zero]at hk;simp only[dE,List.length_nil,Nat.add_zero]at hk;omega)) h
     rw[List.take_zero]at hrb
     obtain⟨u',g1,g2⟩:=hrb
     have g1:bE (ax k) f (a:Int) (((dE (WY N) f.type.fields 0).map fun w=>pe (gd w (rv v.items (lE w)) r (dn f d) q)).map pt) q (I u) (dn f d) aO (I u) [] c false (0:Int) (0:Int)=_:=g1
     refine⟨u',?_,g2⟩
     rw[g1,hbv,hk0,h7]
    ·have hlf:ln f=true:=by unfold ln;simp[h6,h7]
     have hways:al (N+1) f i=[[(f,i)]]:=by rw[al,hlf,if_pos rfl]
     have hE0:(pz (al (N+1) f i) v r d q)[0]=[(r,dn f d)]:=by
      have:pz (al (N+1) f i) v r d q=[[(r,dn f d)]]:=by
       unfold pz
       rw[hways]
       simp only[List.map_cons,List.map_nil,gd]
       rw[if_neg h0,if_neg h6,if_neg h7]
       rfl
      simp[this]
     have hRa:=hR 0 [(f,i)] (by rw[hways];rfl)
     rw[Nat.add_zero]at hRa
     have hl1:lv [(f,i)] v=[v]:=by
      simp only[lv]
      rw[if_neg (by have:=hV.sh;unfold shp at this;split at this<;>first|omega|cases this),if_neg h6,if_neg h7]
     rw[hl1]at hRa
     have hdr:=h.h a ha
     rw[hRa]at hdr
     have hau:a<u.length:=by rw[h.lu];exact ha
     have hlt:g0 u a<(iJ c a).values.length:=by
      have:=congrArg List.length hdr
      simp only[List.length_drop,List.length_append,List.length_singleton]at this
      omega
     have hval:=(hs.h a ha).2.2
     have hva:(iJ c a).values[g0 u a]=v:=by
      have:=congrArg (fun l:List aa=>l[0]?) hdr
      simp only[List.getElem?_drop,List.singleton_append,List.getElem?_cons_zero,Nat.add_zero]at this
      rw[gu hlt]at this
      exact Option.some.inj this
     rw[show(f.type.kind==7)=false by simp[h7],ay,pn ha,aj,hE0]
     simp only[List.map_cons,List.map_nil,List.length_singleton]
     rw[show(((1:Nat):Int) != 1)=false from rfl,ay,show pS [(r,dn f d)]=dn f d from rfl,show(dn f d != dn f d)=false by simp,ay,uu hau,aj,decide_eq_false (by omega)]
     unfold dJ
     rw[ay,uu hau,aj,jC (x:=((g0 u a:Nat):Int)+1) (by omega) (by omega),show((a:Int)).toNat=a by omega,show((g0 u a:Nat):Int)+1=((g0 u a+1:Nat):Int) by omega,Fq,uu (by rw[List.length_set];exact hau),aj,nI hau,if_pos rfl,
      show((g0 u a+1:Nat):Int)-1=((g0 u a:Nat):Int) by omega,jC (x:=((g0 u a:Nat):Int)) (by omega) (by omega),bf hlt,aj,aB (by simp),hva]
     refine⟨_,rfl,⟨by rw[List.length_set];exact h.lu,fun k hk=> ?_⟩⟩
     rw[nI hau]
     by_cases hka:k=a
     ·subst hka
      rw[if_pos rfl,show g0 u k+1=1+g0 u k by omega]
      have:(iJ c k).values.drop (1+g0 u k)=((iJ c k).values.drop (g0 u k)).drop 1:=by rw[List.drop_drop];congr 1;omega
      rw[this,hdr];rfl
     ·rw[if_neg hka,h.h k hk]
      have hw1:(al (N+1) f i).length=1:=by rw[hways];rfl
      exact ho k (by omega)
  rw[ax,hpt0,aj,h20,aj]
  have hle:=C3 (bl k) (ax k) f (a:Int) d q c false (I u) (pt (pz (al (N+1) f i) v r d q)[0]) (pS (pz (al (N+1) f i) v r d q)[0]) hne hEll _ aO 0 (pS (pz (al (N+1) f i) v r d q)[0]) (Nat.zero_add _) (by rw[ar];omega)
  have hle:bT (bl k) (ax k) f (a:Int) ((pz (al (N+1) f i) v r d q).map pt) d q c false (I u) (pt (pz (al (N+1) f i) v r d q)[0]) (pS (pz (al (N+1) f i) v r d q)[0]) aO (pS (pz (al (N+1) f i) v r d q)[0]) (0:Int)=_:=hle
  rw[hle]
  unfold fd
  cases hnd:f.need with
  |true=>
   rw[Bool.not_true,ay]
   have:=j5 (by simp[hnd])
   rw[show dn f d=d by unfold dn;rw[if_pos hnd]]at this
   exact this
  |false=>
   rw[Bool.not_false,aQ,List.drop_zero]
   by_cases hv0:v.kind=0
   ·have hall:∀E∈pz (al (N+1) f i) v r d q,E.length=1∧pS E=d:=by
     intro E hE
     obtain⟨w,hw,rfl⟩:=List.mem_map.1 hE
     obtain⟨w0,rfl,_,_⟩:=hshp w hw
     simp only[gd]
     rw[if_pos ⟨hnd,hv0⟩]
     exact⟨rfl,rfl⟩
    rw[(hall _ hm0).2,zH _ fun E hE=>(hall E hE).2,decide_eq_true (Int.le_refl _),aQ]
    have:=zS (c:=c) (u:=u) hne hEll d _ aO 0 false (Nat.zero_add _) (by rw[ar];omega)
    have this:bG ((pz (al (N+1) f i) v r d q).map pt) d c (I u) aO false (0:Int)=_:=this
    rw[this,List.drop_zero,zV hall]
    obtain⟨hbv,hit⟩:=pK hpl (by omega)
    refine⟨u,?_,hnone fun w hw=>vL w v hv0⟩
    rw[hbv,hv0,hit hv0];rfl
   ·have h0:¬(f.need=false∧v.kind=0):=fun h=>hv0 h.2
    have hdn:dn f d=d+1:=by unfold dn;simp[hnd]
    have hhd:∀E∈pz (al (N+1) f i) v r d q,d+1≤pS E:=by
     intro E hE
     obtain⟨w,hw,rfl⟩:=List.mem_map.1 hE
     obtain⟨w0,rfl,e1,e2⟩:=hshp w hw
     obtain⟨d1,x,t,g1,g2,g3⟩:=sB r d q e1 e2 h0
     rw[DJ r d q g1]
     omega
    have hge:=Hq (b:=d+1) _ (pS (pz (al (N+1) f i) v r d q)[0]) (hhd _ hm0) hhd
    rw[decide_eq_false (by omega),ay,jC (x:=d+1) (by omega) (by omega)]
    have:=j5 h0
    rw[hdn]at this
    exact this
theorem O1{c:List ae}(hs:kd c){N:Nat}(ih:VB c N (ax aO)){fs:List af}(hV:∀f∈fs,V f.type)(hsf:br fs≤N)(hN:N≤100000000){dd:Nat}{r:List aa}(hv:ca r<100000000)(hvl:fs.length=r.length)(hchk:∀j g,fs[j]? =some g→Ag g dd (rv r j))
  (hn:(dE (WY N) fs 0).length=c.length)(hc:∀k,k<c.length→wG c k){i:Nat}(hi:i<(cT 0 (fw c 0)).length)(hrow:pj c i=(dE (WY N) fs 0).map fun w=>pe (gd w (rv r (lE w)) 0 0 0))
  (rec2:List Int→List (List aa)→List ae→Bool→Int→Option (List (List aa)×Int))(l4:List (List aa))(h4:l4.length+1≤4294967296){T:Nat→List aa}:
  ∀(m fu j:Nat) (R:Nat→List aa) (u:List Nat),j+m=fs.length→m<fu→
   (∀(s:Nat) w,(dE (WY N) fs 0)[s]? =some w→(dE (WY N) (fs.take j) 0).length≤s→R s=lv w (rv r (lE w))++T s)→(∀k,(k<(dE (WY N) (fs.take j) 0).length∨(dE (WY N) fs 0).length≤k)→R k=T k)→VA c u R→
   ∃u',bD rec2 fs ((ic c c.length).map (List.map pt)) l4 (i:Int) fu (I u) (r.take j) c false (((dE (WY N) (fs.take j) 0).length:Nat):Int) (j:Int)=rec2 (I u') (l4++[r]) c false (i64.wrap ((i:Int)+1))∧VA c u' T:=by
 have hfl:=bM fs
 have hcn:=hs.n
 have hil:=ec r
 intro m
 induction m with
 |zero=>
  intro fu j R u hj hfu hR ho h
  obtain⟨fu,rfl⟩:=aX hfu
  rw[bD,cw (by omega),ay,List.take_of_length_le (by omega)]
  unfold iT
  rw[aB h4]
  refine⟨u,rfl,h.eqv fun k hk=>ho k ?_⟩
  rw[show j=fs.length by omega,List.take_length]
  omega
 |succ m ihm=>
  intro fu j R u hj hfu hR ho h
  obtain⟨fu,rfl⟩:=aX hfu
  have h1:j<fs.length:=by omega
  have h1v:j<r.length:=by omega
  have hmem:=kf h1
  have hVg:=hV _ hmem
  have hsz:=bN hmem
  have hfd:=cc fs[j]
  have hzv:bS (rv r j)≤ca r:=by rw[←rC h1v];exact cE (kf h1v)
  have hsplit:dE (WY N) fs 0=dE (WY N) (fs.take j) 0++(al N fs[j] j++dE (WY N) (fs.drop (j+1)) (j+1)):=by
   conv=>lhs;rw[←List.take_append_drop j fs]
   rw[pb,cO h1,gR,Nat.zero_add,List.length_take,Nat.min_eq_left (by omega)]
  obtain⟨L,hL1,hL2⟩:=uZ (f:=fs[j]) (N:=N) (by omega) hN j
  have htk1:=gn N h1
  generalize hP:dE (WY N) (fs.take j) 0=P at*
  generalize hQ:dE (WY N) (fs.drop (j+1)) (j+1)=Q at*
  have hlen:(dE (WY N) fs 0).length=P.length+((al N fs[j] j).length+Q.length):=by rw[hsplit,List.length_append,List.length_append]
  let T1:Nat→List aa:=fun k=>if P.length≤k∧k<P.length+(al N fs[j] j).length then T k else R k
  have hway:∀(s:Nat) w,(al N fs[j] j)[s]? =some w→(dE (WY N) fs 0)[P.length+s]? =some w:=by
   intro s w hw
   have hsl:=(gN.1 hw).1
   rw[hsplit,List.getElem?_append_right (by omega),show P.length+s-P.length=s by omega,nq hsl]
   exact hw
  have hslice:((pj c i).drop P.length).take (al N fs[j] j).length=pz (al N fs[j] j) (rv r j) 0 0 0:=by
   rw[hrow,hsplit,List.map_append,List.drop_append_of_le_length (by rw[List.length_map];exact eo _),List.drop_of_length_le (by rw[List.length_map];exact eo _),List.nil_append,List.map_append,List.take_append_of_le_length (by rw[List.length_map];exact eo _),List.take_of_length_le (by rw[List.length_map];exact eo _)]
   unfold pz
   refine List.map_congr_left fun w hw=> ?_
   rw[kC hw]
  obtain⟨u',g1,g2⟩:=ih fs[j] j P.length 0 0 0 dd (rv r j) R T1 u hVg (by omega) (hchk j _ (gu h1)) (by omega) (by omega) (by omega) (by omega) (by omega) (by omega)
   (fun s w hw=>by
    have hsl:=(gN.1 hw).1
    have:=hR (P.length+s) w (hway s w hw) (by omega)
    rw[kC (List.mem_of_getElem? hw)]at this
    rw[this]
    simp only[T1]
    rw[if_pos ⟨by omega,by omega⟩])
   (fun k hk=>by
    simp only[T1]
    rw[if_neg (by omega)]) h
  have hwr:i64.wrap ((P.length:Int)+(L.length:Int))=((P.length+(al N fs[j] j).length:Nat):Int):=by rw[hL2,jC (by omega) (by omega)];omega
  rw[bD,bp h1,aQ,bf h1,aj,hL1,aj]
  have hp:=yx hs hc hi (bD rec2 fs ((ic c c.length).map (List.map pt)) l4 (i:Int) fu) (I u) (r.take j) c false P.length (j:Int) fs[j] L hL2 (by omega) (al N fs[j] j).length aO 0 (by omega) (by rw[ar];omega)
  rw[List.take_zero,List.map_nil,Nat.add_zero,hslice]at hp
  rw[hp]
  unfold gL
  rw[g1,aj]
  simp only
  rw[aB (h.len_eq g2),aB (by rw[List.length_take];omega),aD h1 (by omega),hwr,←rC h1v,←List.take_succ_eq_append_getElem h1v]
  have hnext:=ihm fu (j+1) T1 u' (by omega) (by omega) (fun s w hw hle=>by
    rw[htk1,List.length_append]at hle
    have:=hR s w hw (by omega)
    rw[←this]
    simp only[T1]
    rw[if_neg (by omega)])
   (fun k hk=>by
    rw[htk1,List.length_append]at hk
    simp only[T1]
    split
    ·rfl
    ·rename_i h9
     exact ho k (by omega)) g2
  rw[htk1,List.length_append]at hnext
  exact hnext
theorem si{fs:List af}{R:List (List aa)}{k:Nat}{w:iz}(hw:(WS fs)[k]? =some w):iJ (bn fs R) k=hY c0 (dg w R):=by
 obtain⟨h1,h2⟩:=gN.1 hw
 have:=wQ (c:=bn fs R) (k:=k) (by rw[mS];exact h1)
 rw[gu (by rw[mS];exact h1),Aq h1,h2]at this
 exact(Option.some.inj this).symm
theorem Ks{fs:List af}{R:List (List aa)}{k:Nat}{w:iz}(hw:(WS fs)[k]? =some w):fw (bn fs R) k=pe (dg w R):=by
 unfold fw
 rw[si hw]
 simp only[hY,c0,List.nil_append,pe]
 rw[List.zip_map']
theorem H8{fs:List af}{R:List (List aa)}(h:ig fs R){w:iz}(hw:w∈WS fs):cT 0 (pe (dg w R))=R.map fun r=>pe (gd w (rv r (lE w)) 0 0 0):=by
 obtain⟨g1,g2,g3⟩:=h.ways _ hw
 have hfl:∀l:List (List aa),pe (dg w l)=(l.map fun r=>pe (gd w (rv r (lE w)) 0 0 0)).flatten:=by
  intro l
  induction l with
  |nil=>rfl
  |cons x l ih=>
   have:dg w (x::l)=gd w (rv x (lE w)) 0 0 0++dg w l:=by simp[dg]
   rw[this,Ex,ih,List.map_cons,List.flatten_cons]
 rw[hfl]
 cases R with
 |nil=>rfl
 |cons r R=>
  rw[List.map_cons]
  refine EG (uc 0 0 0 g1 (g3 r (List.mem_cons_self ..)).s).1 fun B hB=> ?_
  obtain⟨x,hx,rfl⟩:=List.mem_map.1 hB
  obtain⟨q1,q2⟩:=uc 0 0 0 g1 (g3 x (List.mem_cons_of_mem _ hx)).s
  exact⟨q1,fun y hy=>by rw[q2 y hy];exact Int.le_refl _⟩
theorem Eu{fs:List af}{R:List (List aa)}(h:ig fs R)(hc:Aj fs (bn fs R))(hlt:wF R<100000000):er fs (bn fs R)=some (R,0):=by
 obtain⟨hne,hwp,hV⟩:=yk hc.f h.sc
 have hf:=hc.f
 have hs:=hc.s
 have hcn:=hs.n
 have hn:=h.room.n
 have ht:=h.room.t
 have hlen:=mS fs R
 have hc0:0<(bn fs R).length:=by omega
 have ih:=Dd hs (br fs) aO (by rw[ar];omega) (by omega)
 have hway:∀k,k<(bn fs R).length→∃w,(WS fs)[k]? =some w∧w∈WS fs:=fun k hk=>by
  have hk:k<(WS fs).length:=by omega
  exact⟨_,gu hk,kf hk⟩
 have hcut:∀k w,(WS fs)[k]? =some w→cT 0 (fw (bn fs R) k)=R.map fun r=>pe (gd w (rv r (lE w)) 0 0 0):=fun k w hw=>by
  rw[Ks hw];exact H8 h (List.mem_of_getElem? hw)
 have hcl:∀k,k<(bn fs R).length→(cT 0 (fw (bn fs R) k)).length=R.length:=fun k hk=>by
  obtain⟨w,hw,_⟩:=hway k hk
  rw[hcut k w hw,List.length_map]
 have hcond:∀k,k<(bn fs R).length→wG (bn fs R) k:=by
  intro k hk
  obtain⟨w,hw,hwm⟩:=hway k hk
  refine⟨by rw[si hw];simp[hY,c0],fun x hx=> ?_,by rw[hcl k hk,hcl 0 hc0]⟩
  rw[si hw]at hx
  simp only[hY,c0,List.nil_append]at hx
  obtain⟨g1,g2,g3⟩:=h.ways _ hwm
  cases R with
  |nil=>simp[dg]at hx
  |cons r R'=>
   obtain⟨d1,y,tl,he,_⟩:=iO w (rv r (lE w)) 0 0 0 g1 (g3 r (List.mem_cons_self ..)).s
   have:dg w (r::R')=gd w (rv r (lE w)) 0 0 0++dg w R':=by simp[dg]
   rw[this,he]at hx
   simp at hx
   exact hx.symm
 have hrowE:∀i (hi:i<R.length),pj (bn fs R) i=(dE (WY (br fs)) fs 0).map fun w=>pe (gd w (rv R[i] (lE w)) 0 0 0):=by
  intro i hi
  apply List.ext_getElem
  ·rw[uq,hlen,qM,List.length_map]
  ·intro k h1 h2
   have hk:k<(WS fs).length:=by rw[uq]at h1;omega
   have hw:=gu hk
   simp only[pj,ic,List.getElem_map,List.getElem_range]
   rw[hcut k _ hw]
   simp[List.getD_eq_getElem?_getD,gu hi]
   rfl
 let Rest:Nat→Nat→List aa:=fun i k=>match(WS fs)[k]? with
  |some w=>(R.drop i).flatMap fun r=>lv w (rv r (lE w))
  |none=>[]
 have hRest:∀i k w,(WS fs)[k]? =some w→Rest i k=(R.drop i).flatMap fun r=>lv w (rv r (lE w)):=fun i k w hw=>by
  show(match(WS fs)[k]? with|some w=>_|none=>_)=_
  rw[hw]
 have hRest0:∀i k,(WS fs).length≤k→Rest i k=[]:=fun i k hk=>by
  show(match(WS fs)[k]? with|some w=>_|none=>_)=_
  rw[List.getElem?_eq_none hk]
 have rows:∀(m fu i:Nat) (u:List Nat),i+m=R.length→m<fu→VA (bn fs R) u (Rest i)→
   ∃u',aY fs (bn fs R) ((ic (bn fs R) (bn fs R).length).map (List.map pt)) ((cT 0 (fw (bn fs R) 0)).map pt) fu (I u) (R.take i) (bn fs R) false (i:Int)=fy fs (bn fs R) (I u') R (bn fs R) false:=by
  intro m
  induction m with
  |zero=>
   intro fu i u hi hfu hA
   obtain⟨fu,rfl⟩:=aX hfu
   rw[aY,cw (by rw[List.length_map,hcl 0 hc0];omega),ay,List.take_of_length_le (by omega)]
   exact⟨u,rfl⟩
  |succ m ihm=>
   intro fu i u hi hfu hA
   obtain⟨fu,rfl⟩:=aX hfu
   have h1:i<R.length:=by omega
   have hm:=kf h1
   obtain⟨hrl,hchk⟩:=h.chk hm
   have hsr:=n5 hm
   have hh:=O1 hs ih hV (eo _) (by omega) (r:=R[i]) (by omega) hrl.symm hchk (by rw[←qM];omega) hcond (i:=i) (by rw[hcl 0 hc0];exact h1) (hrowE i h1)
    (aY fs (bn fs R) ((ic (bn fs R) (bn fs R).length).map (List.map pt)) ((cT 0 (fw (bn fs R) 0)).map pt) fu) (R.take i) (by rw[List.length_take];omega) (T:=Rest (i+1)) fs.length aO 0 (Rest i) u (by omega) (by rw[ar];have:=bM fs;omega)
    (fun s w hw _=>by
     rw[←qM]at hw
     rw[hRest i s w hw,hRest (i+1) s w hw,cO h1,List.flatMap_cons])
    (fun k hk=>by
     rw[List.take_zero]at hk
     simp only[dE,List.length_nil,Nat.not_lt_zero,false_or]at hk
     have hk:(WS fs).length≤k:=hk
     rw[hRest0 i k hk,hRest0 (i+1) k hk]) hA
   rw[List.take_zero]at hh
   obtain⟨u',g1,g2⟩:=hh
   have g1:bD (aY fs (bn fs R) ((ic (bn fs R) (bn fs R).length).map (List.map pt)) ((cT 0 (fw (bn fs R) 0)).map pt) fu) fs ((ic (bn fs R) (bn fs R).length).map (List.map pt)) (R.take i) (i:Int) aO (I u) [] (bn fs R) false (0:Int) (0:Int)=_:=g1
   rw[aY,bp (by rw[List.length_map,hcl 0 hc0];exact h1),aQ,g1,aD h1 (by omega),←List.take_succ_eq_append_getElem h1]
   exact ihm fu (i+1) u' (by omega) (by omega) g2
 unfold er
 have hrw:dB aO fs=some ((WS fs).map (List.map Prod.fst)):=A7 (by omega)
 rw[HF (by omega),aj,h.sc,show((0:Int) != 0)=false from rfl,ay,hrw,aj,show(((bn fs R).length:Int) != (((WS fs).map (List.map Prod.fst)).length:Int))=false by rw[List.length_map,hlen];simp,ay,aB (by omega)]
 have hfl:=xp (fs:=fs) hs (bn fs R).length aO 0 (by omega) (by rw[ar];omega) (fun k hk=>by omega)
 rcases hfl with⟨h1,_⟩ |⟨_,h2⟩
 ·have h1:bC fs (bn fs R) aO [] (0:Int)=_:=h1
  rw[h1]
  unfold fj
  have hat:=ur (c:=bn fs R) (n:=(bn fs R).length) (k:=0) hc0
  have hat:at? ((ic (bn fs R) (bn fs R).length).map (List.map pt)) (0:Int)=_:=hat
  rw[hat,aj,show(((bn fs R).length:Int)).toNat=(bn fs R).length by omega,IS]
  obtain⟨u',g1⟩:=rows R.length aO 0 (List.replicate (bn fs R).length 0) (by omega) (by rw[ar];omega) ⟨by simp,fun k hk=>by
   obtain⟨w,hw,hwm⟩:=hway k hk
   rw[yh,List.drop_zero,si hw,xd,hRest 0 k w hw,List.drop_zero]
   exact yo h hwm⟩
  rw[List.take_zero]at g1
  have g1:aY fs (bn fs R) ((ic (bn fs R) (bn fs R).length).map (List.map pt)) ((cT 0 (fw (bn fs R) 0)).map pt) aO (I (List.replicate (bn fs R).length 0)) [] (bn fs R) false (0:Int)=_:=g1
  rw[g1]
  unfold fy
  have hself:fm (bn fs R) (bn fs R)=some true:=GF (fun x hx=>by
   unfold bn at hx
   obtain⟨w,hw,rfl⟩:=List.mem_map.1 hx
   exact Aw (h.ways _ hw).2.2 (by omega)) (by omega)
  rw[ay,wz (by omega) (rY h.room) (by omega),aj,h.cr,show((0:Int) != 0)=false from rfl,ay,Cr h,aj,hself,aj]
  rfl
 ·exact absurd hcond h2
theorem yO:mP [] []=some true:=by decide+kernel
theorem JP{fs:List af}{c:List ae}(h:Aj fs c):eb fs c=some true:=by
 have hf:=h.f
 unfold eb dy
 rw[BC,aj,Bool.not_true,ay]
 have fin:∀(R:List (List aa)) (e:Int),mP R R=some true→dT fs c=some (R,e)→er fs c=some (R,e)→
   (aK (dT fs c) fun r2=>aK (er fs c) fun r3=>aF (r2.2==r3.2) (aK (mP r2.1 r3.1) fun r4=>some r4) (some false))=some true:=by
  intro R e h1 h2 h3
  rw[h2,aj,h3,aj]
  simp only
  rw[show(e==e)=true by simp,aQ,h1,aj]
 by_cases h0:sc fs=0
 ·have hpl:jl fs=some ((WS fs).map (sW p0)):=xa (by omega)
  have hrw:dB aO fs=some ((WS fs).map (List.map Prod.fst)):=A7 (by omega)
  by_cases hlen:c.length=(WS fs).length
  ·have hcl:(((c.length:Nat):Int) != (((WS fs).map (sW p0)).length:Int))=false:=by rw[List.length_map,hlen];simp
   have hcA:∀r,gg fs c=some r→dT fs c=some (if r.2 then(r.1,0)else([],1)):=by
    intro r hr
    unfold dT
    rw[Ej (by omega),aj,h0,show((0:Int) != 0)=false from rfl,ay,hpl,aj,hcl,ay,hr,aj]
    cases r.2<;>rfl
   obtain⟨r,g1,g2⟩:=Ns h h0 hlen
   obtain⟨r',g3,g4⟩:=OY h h0 hlen
   have hA:=hcA r g1
   rcases g2 with rfl|⟨R,rfl,hro,hc,hlt⟩
   ·rcases g4 with rfl|⟨R,rfl,hro,hc⟩
    ·exact fin [] 1 yO hA g3
    ·have:=Dt hro
     rw[←hc,hA]at this
     simp at this
   ·have hr:=Eu hro (hc▸h) hlt
    rw[←hc]at hr
    refine fin R 0 (Gx (fun r hr=> ?_) (by have:=hro.room.n;omega)) hA hr
    have hsr:=n5 hr
    refine⟨fun v hv=> ?_,by omega⟩
    obtain⟨j,hj,rfl⟩:=List.getElem_of_mem hv
    obtain⟨hl,hc⟩:=hro.chk hr
    have:=(hc j _ (gu (show j<fs.length by omega))).s
    rw[rC hj]
    exact this
  ·refine fin [] 1 yO ?_ ?_
   ·unfold dT
    rw[Ej (by omega),aj,h0,show((0:Int) != 0)=false from rfl,ay,hpl,aj,show(((c.length:Nat):Int) != (((WS fs).map (sW p0)).length:Int))=true by rw[List.length_map];exact bne_iff_ne.2 (by omega),aQ]
   ·unfold er
    rw[HF (by omega),aj,h0,show((0:Int) != 0)=false from rfl,ay,hrw,aj,show((c.length:Int) != (((WS fs).map (List.map Prod.fst)).length:Int))=true by rw[List.length_map];exact bne_iff_ne.2 (by omega),aQ]
 ·refine fin [] (sc fs) yO ?_ ?_
  ·unfold dT
   rw[Ej (by omega),aj,show(sc fs != 0)=true by simp[h0],aQ]
  ·unfold er
   rw[HF (by omega),aj,show(sc fs != 0)=true by simp[h0],aQ]
theorem sx:∀l:List aa,ca l=(l.map bS).sum
 |[]=>by simp[ca]
 |x::l=>by simp[ca,sx l]
theorem Nb(k n sc:Int)(s:ByteArray)(it:List aa):bS ⟨k,n,sc,s,it⟩≤s.size+(it.map bS).sum+6:=by
 simp only[bS,sx];omega
theorem vZ:∀l:List af,br l=(l.map lx).sum
 |[]=>by simp[br]
 |x::l=>by simp[br,vZ l]
theorem MH(k s:Int)(fs:List af):gb ⟨k,s,fs⟩≤(fs.map lx).sum+4:=by
 rw[eX,vZ];simp only;omega
theorem LG(i:Int)(n:ByteArray)(q:Bool)(t:aq):lx ⟨i,n,q,t⟩≤n.size+gb t+4:=by
 rw[cc];simp only;omega
def zQ(x:ae):Nat:=x.reps.length+(x.defs.length+ca x.values)+1
def qq(c:List ae):Nat:=(c.map zQ).sum
theorem xO:∀{c:List ae} {x:ae},x∈c→zQ x≤qq c
 |y::c,x,h=>by
  unfold qq
  rw[List.map_cons,List.sum_cons]
  rcases List.mem_cons.1 h with rfl|h
  ·omega
  ·have:=xO h
   unfold qq at this
   omega
theorem yg:∀c:List ae,c.length+xG c+KY c≤qq c
 |[]=>by simp[qq,xG,KY]
 |x::c=>by
  have:=yg c
  unfold qq xG KY at*
  simp only[List.map_cons,List.sum_cons,List.length_cons,zQ,sx]
  omega
theorem Ki{fs:List af}{c:List ae}(h1:br fs≤1048576)(h2:qq c≤1048576):eb fs c=some true:=by
 have h3:=yg c
 refine JP ⟨by omega,⟨by omega,fun k hk=> ?_⟩,by omega,by omega⟩
 have hm:iJ c k∈c:=List.mem_of_getElem? (wQ hk)
 have h4:=xO hm
 unfold zQ at h4
 have h5:=ec (iJ c k).values
 refine⟨by omega,by omega,by omega,fun v hv=> ?_⟩
 have:=cE hv
 omega
end Go.Proofs.YtnecojeemmnnaaaGreatDoor
namespace Go.Proofs.YtnecojeemmnnaaaGreatDoor
open Go Go.SX Go.SX.Cal
set_option maxRecDepth 100000
theorem Ho{B:vP}(N:Nat):mM B Tryz.prog N 58 Kc (fun _=>True) zQ:=by
 have hint:Tryz.prog.underlying 3=some (.int .i64):=by kernel_rfl
 have t0:(fld Tryz.prog 58 0).type=51:=by kernel_rfl
 have t1:(fld Tryz.prog 58 1).type=51:=by kernel_rfl
 have t2:(fld Tryz.prog 58 2).type=25:=by kernel_rfl
 have z0:Tryz.prog.cellsOf 51=1:=by kernel_rfl
 have z1:Tryz.prog.cellsOf 25=1:=by kernel_rfl
 have I0:∀N,mM B Tryz.prog N (fld Tryz.prog 58 0).type (fun xs:List Int=>[PV.ro (eI.els xs)]) (fun xs=>∀x∈xs,nO x) (fun xs=>xs.length):=fun N=>by
  rw[t0];exact Hk 51 3 (by kernel_rfl) hint (by kernel_rfl) N
 have I1:∀N,mM B Tryz.prog N (fld Tryz.prog 58 1).type (fun xs:List Int=>[PV.ro (eI.els xs)]) (fun xs=>∀x∈xs,nO x) (fun xs=>xs.length):=fun N=>by
  rw[t1];exact Hk 51 3 (by kernel_rfl) hint (by kernel_rfl) N
 have V2:∀N,mM B Tryz.prog N (fld Tryz.prog 58 2).type (fun xs:List aa=>[PV.ro (ac.els xs)]) (fun xs=>∀x∈xs,True) ca:=fun N=>by
  rw[t2];exact Ha (P:=Tryz.prog) (wf:=fun _=>True) (sz:=bS) 44 3 9 25 (by kernel_rfl) (by kernel_rfl) (by kernel_rfl) (by kernel_rfl) (by kernel_rfl) ⟨by kernel_rfl,by kernel_rfl,by kernel_rfl,by kernel_rfl⟩ ⟨by kernel_rfl,by kernel_rfl,by kernel_rfl,by kernel_rfl,by kernel_rfl⟩ ⟨by kernel_rfl,by kernel_rfl,by kernel_rfl,by kernel_rfl,by kernel_rfl⟩ (fun _ _ _ _ _ _ _ _ _=>trivial) Nb (fun xs=>by rw[sx];omega) N
 refine mM.structF (α:=ae) (cells:=Kc) (wf':=fun _=>True) (size:=zQ) (by kernel_rfl) (show fieldsOf Tryz.prog 58=[fld Tryz.prog 58 0,fld Tryz.prog 58 1,fld Tryz.prog 58 2] by kernel_rfl) (by kernel_rfl) (fun N' _=>
  wx.cons (c1:=fun xs:List Int=>[PV.ro (eI.els xs)]) (by kernel_rfl) (fun x=>by rw[t0,z0];rfl) (I0 N') (wx.cons (c1:=fun xs:List Int=>[PV.ro (eI.els xs)]) (by kernel_rfl) (fun x=>by rw[t1,z0];rfl) (I1 N') (wx.cons (c1:=fun xs:List aa=>[PV.ro (ac.els xs)]) (by kernel_rfl) (fun x=>by rw[t2,z1];rfl) (V2 N') wx.nil)))
  (fun y=>(⟨y.1,y.2.1,y.2.2.1⟩:ae)) (fun y=>rfl) (fun _ _=>trivial) (fun y=> ?_)
 show y.1.length+(y.2.1.length+ca y.2.2.1)+1≤_
 omega
theorem Ge{B:vP}(N:Nat):mM B Tryz.prog N 36 (fun xs:List ae=>[PV.ro (ah.els xs)]) (fun _=>True) qq:=by
 have z:Tryz.prog.cellsOf 58=3:=by kernel_rfl
 refine mM.conv (mM.slice (e:=58) (cells:=Kc) (by kernel_rfl) (fun x=>by rw[z];rfl) (by rw[z];omega) (fun N' _=>Ho N')) (fun x=>rfl) (fun x _=>trivial) (fun xs=> ?_)
 unfold qq
 omega
end Go.Proofs.YtnecojeemmnnaaaGreatDoor
