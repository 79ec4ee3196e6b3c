/- The calendar, in plain integers. Names, in plain terms. The fields of a type, in plain terms. The check of types and the common type, in plain terms. Texts and sound values, in plain terms. Values of a type, in plain terms; the law of Sound and Check. Rows: lists of fields. SameType: both answers are the same. CheckSchema: both answers are the same. CheckSchema, end; the law of types. Rows: CheckRows, of both sides. Rows: the ways to the leaves, of both sides. Rows: what a value leaves at a way, of both sides. Rows: what a value leaves at a way, the reference. Rows: what is the same as itself. Rows: what checked schemas and rows are like. Rows: shreds of both sides; the law. Rows: how many leaves a field has. Rows: the assembler's place in its columns. Rows: steps of the assembler. Rows: the assembler puts a value together. Rows: the assembler puts a value together: its parts. Rows: the assembler puts a value together. Rows: the assembler puts a value together: records, and all values. Rows: what is the same as itself, of the program's side, and of rows. Rows: the assembler puts rows together; the law. Assemble: depths, copies, values of leaves. Assemble: the assembler on any columns: its state. Assemble: the assembler on any columns: one field. Assemble: the assembler on any columns: lists and records. Assemble: the assembler on any columns: all fields. Assemble: the assembler on any columns: rows, and what is taken apart again. Assemble: the program's answer at any columns. Assemble: the reference's cuts. -/
import Derived.Test.YtnecojeemmnnaaaGreatDoorGeB
set_option linter.unusedVariables false
set_option linter.unusedSimpArgs false
set_option linter.unnecessarySimpa false
namespace Go.SX.Cal
open Go
open Go.IntKind (i64)
theorem jC{x:Int}(h1: -9223372036854775808≤x)(h2:x≤9223372036854775807):i64.wrap x=x:=by
 simp only[IntKind.wrap,IntKind.bits,IntKind.signed]
 simp only[Bool.true_and,decide_eq_true_eq,ge_iff_le]
 split<;>omega
def S(y:Int):Int:=365*y+y/4-y/100
def F(r:Int):Int:=r-r/1460+r/36524
def Nw(y:Int):Prop:=y%4=0∧(y%100≠0∨y%400=0)
instance(y:Int):Decidable (Nw y):=by unfold Nw;infer_instance
def E(y:Int):Int:=y/400*146097+S (y%400)-719468
end Go.SX.Cal
namespace Go.Proofs.YtnecojeemmnnaaaGreatDoor
open Go Go.SX Go.SX.Cal
open Go.IntKind (i64)
theorem bA{β:Type}(x y:Option β):aF true x y=x:=rfl
theorem aZ{β:Type}(x y:Option β):aF false x y=y:=rfl
theorem bB{β:Type}(b:Bool)(x y:Option β):aF b x y=if b=true then x else y:=by cases b<;>rfl
theorem ar:aO=1152921504606846976:=rfl
def first(P:Nat→Bool)(i n:Nat):Option Nat:=(List.range' i (n-i)).find? P
theorem oq{P:Nat→Bool}{i n:Nat}(h:i<n):first P i n=if P i=true then some i else first P (i+1) n:=by
 unfold first
 rw[show n-i=(n-(i+1))+1 by omega,List.range'_succ,List.find?_cons]
 cases hp:P i<;>simp[hp]
theorem oa{P:Nat→Bool}{n:Nat}:first P n n=none:=by simp[first]
theorem om{P:Nat→Bool}{i n:Nat}:first P i n=none↔∀j,i≤j→j<n→P j=false:=by
 unfold first
 rw[List.find?_eq_none]
 constructor
 ·intro h j h1 h2
  have:=h j (by rw[List.mem_range'_1];omega)
  simpa using this
 ·intro h j hj
  rw[List.mem_range'_1]at hj
  have:=h j (by omega) (by omega)
  simp[this]
theorem mY{β:Type}{f:Nat→Nat→Option β}{n:Nat}{P:Nat→Bool}{A:Nat→Option β}{B:Option β}(hstep:∀k i,i<n→f (k+1) i=if P i=true then A i else f k (i+1))(hend:∀k,f (k+1) n=B):
  ∀k i,i≤n→n-i<k→f k i=(first P i n).elim B A:=by
 intro k
 induction k with
 |zero=>intro i _ h;omega
 |succ k ih=>
  intro i hi hk
  by_cases h:i=n
  ·subst h
   rw[hend,oa];rfl
  ·rw[hstep k i (by omega),oq (by omega)]
   by_cases hp:P i=true
   ·simp[hp]
   ·simp only[hp,if_false]
    exact ih (i+1) (by omega) (by omega)
def lh(s:ByteArray)(i:Nat):Nat:=(s.data.toList.getD i 0).toNat
theorem wV(s:ByteArray)(i:Nat)(h:i<s.size):(s.get! i).toNat=lh s i:=by
 unfold lh
 have h':i<s.data.size:=h
 have:s.get! i=s.data.toList.getD i 0:=by
  simp only[ByteArray.get!,List.getD,Array.getElem?_toList]
  rw[getElem!_pos s.data i h',Array.getElem?_eq_getElem h'];rfl
 rw[this]
def oS(b:Nat):Bool:=decide (97≤b)&&decide (b≤122)
def other(b:Nat):Bool:=b==95||(decide (48≤b)&&decide (b≤57))
def AI(b:Nat):Bool:=oS b||other b
theorem IK(n:Nat):nS (Int.ofNat n)=some (!AI n):=by
 unfold nS eE
 simp only[bB,decide_eq_true_eq,Int.ofNat_eq_natCast]
 repeat' split
 all_goals (rw[cA,Bool.eq_iff_iff];simp[AI,oS,other];omega)
theorem Ad(s:ByteArray)(i:Nat)(h:i<s.size)(hb:lh s i<128):Utf8.decode s i=(lh s i,1):=by
 have e:=wV s i h
 unfold Utf8.decode
 simp[e,hb]
theorem zK(s:ByteArray)(i:Nat)(h:i<s.size)(hb:¬lh s i<128):128≤(Utf8.decode s i).1:=by
 have e:=wV s i h
 unfold Utf8.decode
 simp only[Nat.add_zero,e,if_neg hb,Utf8.runeError]
 repeat' split
 all_goals simp_all
 all_goals omega
def bad(s:ByteArray)(i:Nat):Bool:= !AI (lh s i)
theorem Ay(s:ByteArray):∀k i,i≤s.size→s.size-i<k→∃r,bJ s true k i=some r∧(decide (0≤r)=(first (bad s) i s.size).isSome):=by
 intro k
 induction k with
 |zero=>intro i _ h;omega
 |succ k ih=>
  intro i hi hk
  rw[bJ]
  by_cases h:i=s.size
  ·subst h
   rw[oa]
   simp only[Nat.lt_irrefl,decide_false,aZ]
   exact⟨-1,rfl,rfl⟩
  ·have hlt:i<s.size:=by omega
   simp only[hlt,decide_true,bA,IK,cK]
   rw[oq hlt]
   by_cases hb:lh s i<128
   ·rw[Ad s i hlt hb]
    simp only[bad]
    by_cases hg:AI (lh s i)=true
    ·simp only[hg,Bool.not_true,bB]
     obtain⟨r,h1,h2⟩:=ih (i+1) (by omega) (by omega)
     exact⟨r,by simpa using h1,by simpa [bad]using h2⟩
    ·simp only[hg,Bool.not_false,bB]
     exact⟨_,rfl,by simp⟩
   ·have h1:=zK s i hlt hb
    have g1:AI (Utf8.decode s i).1=false:=by
     generalize (Utf8.decode s i).1=x at h1
     simp[AI,oS,other];omega
    have g2:bad s i=true:=by
     simp[bad,AI,oS,other];omega
    simp only[g1,g2,Bool.not_false,bB]
    exact⟨_,rfl,by simp⟩
def oI(s:ByteArray):Bool:=decide (1≤s.size)&&decide (s.size≤24)&&oS (lh s 0)&&(first (bad s) 0 s.size).isNone
theorem n6(s:ByteArray):(s.toList==(ByteArray.mk #[]).toList)=decide (s.size=0):=by
 rw[ByteArray.toList_eq,ByteArray.toList_eq,Bool.eq_iff_iff]
 show(s.data.toList==[])=true↔decide (s.data.size=0)=true
 rw[←Array.length_toList]
 cases s.data.toList<;>simp
theorem NN(s:ByteArray)(hs:s.size<1000000000):qE s=some (oI s):=by
 obtain⟨r,h1,h2⟩:=Ay s aO 0 (Nat.zero_le _) (by rw[ar];omega)
 unfold qE jx ei eQ eR
 rw[h1,n6]
 simp only[cK,h2,bB]
 by_cases z0:s.size=0
 ·simp[z0,oI]
 ·by_cases z1:24<s.size
  ·have:¬s.size≤24:=by omega
   simp[z0,z1,oI,this,show(24:Int)<(s.size:Int) by omega]
  ·have hz:¬(24:Int)<(s.size:Int):=by omega
   have hb:((s.data.toList.getD (0:Int).toNat 0).toNat:Int)=(lh s 0:Int):=rfl
   simp only[z0,decide_false,hz,Bool.false_eq_true,if_false,hb]
   rw[rU (by omega),rU (by omega)]
   simp only[decide_eq_true_eq]
   have:s.size≤24:=by omega
   by_cases q1:lh s 0<97
   ·have:¬97≤lh s 0:=by omega
    simp[show(lh s 0:Int)<97 by omega,oI,oS,this]
   ·by_cases q2:122<lh s 0
    ·have:¬lh s 0≤122:=by omega
     simp[show¬(lh s 0:Int)<97 by omega,show(122:Int)<(lh s 0:Int) by omega,oI,oS,this]
    ·simp[show¬(lh s 0:Int)<97 by omega,show¬(122:Int)<(lh s 0:Int) by omega,oI,oS,show 1≤s.size by omega,this,show 97≤lh s 0 by omega,show lh s 0≤122 by omega]
def zm(s:ByteArray)(i:Nat):Bool:= !oS (lh s i)&&(i==0|| !other (lh s i))
theorem Dz(s:ByteArray)(hs:s.size<1000000000)(k i:Nat)(hi:i<s.size):dm s (k+1) (i:Int)=if zm s i=true then some false else dm s k ((i+1:Nat):Int):=by
 rw[dm,←bB]
 have hb:((s.data.toList.getD (i:Int).toNat 0).toNat:Int)=(lh s i:Int):=rfl
 have hw:i64.wrap ((i:Int)+1)=((i+1:Nat):Int):=by rw[jC (by omega) (by omega)];omega
 have hg:0≤(i:Int)∧(i:Int)<(s.size:Int):=by omega
 rw[show decide ((i:Int)<(s.size:Int))=true by simp[hg.2],bA]
 simp only[nT,md,lU,hb,hw,cK,rU hg]
 have e1:((lh s i:Int)==95)=(lh s i==95):=by rw[Bool.eq_iff_iff];simp;omega
 have e2:(decide ((97:Int)≤lh s i))=decide (97≤lh s i):=by rw[Bool.eq_iff_iff];simp;omega
 have e3:(decide ((lh s i:Int)≤122))=decide (lh s i≤122):=by rw[Bool.eq_iff_iff];simp;omega
 have e4:(decide ((48:Int)≤lh s i))=decide (48≤lh s i):=by rw[Bool.eq_iff_iff];simp;omega
 have e5:(decide ((lh s i:Int)≤57))=decide (lh s i≤57):=by rw[Bool.eq_iff_iff];simp;omega
 have e6:((i:Int)==0)=(i==0):=by rw[Bool.eq_iff_iff];simp
 simp only[e1,e2,e3,e4,e5,e6,zm,oS,other]
 generalize hq:dm s k ((i+1:Nat):Int)=q
 generalize (lh s i==95)=b1
 generalize decide (97≤lh s i)=b2
 generalize decide (lh s i≤122)=b3
 generalize decide (48≤lh s i)=b4
 generalize decide (lh s i≤57)=b5
 generalize (i==0)=b6
 cases b1<;>cases b2<;>cases b3<;>cases b4<;>cases b5<;>cases b6<;>rfl
theorem Nv(s:ByteArray)(hs:s.size<1000000000):sk s=some (oI s):=by
 have hl:=mY (f:=fun k i=>dm s k (i:Int)) (n:=s.size) (P:=zm s) (A:=fun _=>some false) (B:=some true) (fun k i hi=>Dz s hs k i hi)
  (fun k=>by rw[dm];simp only[Int.lt_irrefl,decide_false,aZ];rfl) aO 0 (Nat.zero_le _) (by rw[ar];omega)
 have hl:dm s aO (0:Int)=_:=hl
 unfold sk nU
 rw[hl]
 simp only[bB]
 by_cases z0:s.size=0
 ·simp[z0,oI]
 ·by_cases z1:24<s.size
  ·have:¬s.size≤24:=by omega
   simp[z0,z1,oI,this,show(24:Int)<(s.size:Int) by omega]
  ·have hz:¬(24:Int)<(s.size:Int):=by omega
   have hz2:¬(s.size:Int)<1:=by omega
   simp only[hz,hz2,decide_false,Bool.false_eq_true,if_false]
   have e:(first (zm s) 0 s.size).isNone=(oS (lh s 0)&&(first (bad s) 0 s.size).isNone):=by
    rw[Bool.eq_iff_iff,fM,Option.isNone_iff_eq_none,Option.isNone_iff_eq_none,om,om]
    constructor
    ·intro h
     have h0:=h 0 (eo _) (by omega)
     simp only[zm,beq_self_eq_true,Bool.true_or,Bool.and_true]at h0
     have h0':oS (lh s 0)=true:=by simpa using h0
     refine⟨h0',fun j _ hj=> ?_⟩
     have h1:=h j (Nat.zero_le _) hj
     simp only[zm,bad,AI]at h1⊢
     cases hs:oS (lh s j)<;>cases ho:other (lh s j)<;>simp_all
    ·rintro⟨h0,h⟩ j _ hj
     have h1:=h j (Nat.zero_le _) hj
     simp only[zm,bad,AI]at h1⊢
     by_cases hj0:j=0
     ·subst hj0;simp[h0]
     ·cases hs:oS (lh s j)<;>cases ho:other (lh s j)<;>simp_all
   have:(first (zm s) 0 s.size).elim (some true) (fun _=>some false)=some ((first (zm s) 0 s.size).isNone):=by cases first (zm s) 0 s.size<;>rfl
   rw[this,e]
   simp[oI,show 1≤s.size by omega,show s.size≤24 by omega]
mutual
def gb:aq→Nat
 |⟨_,_,fs⟩=>br fs+1
def br:List (jU aq)→Nat
 |[]=>0
 |f::l=>lx f+br l
def lx:jU aq→Nat
 |⟨_,n,_,t⟩=>n.size+gb t+1
end
theorem bN:∀{l:List af} {x:af},x∈l→lx x≤br l
 |[],_,h=>by cases h
 |y::l,x,h=>by
  simp only[br]
  rcases List.mem_cons.1 h with rfl|h
  ·omega
  ·have:=bN h;omega
theorem cc:∀x:af,lx x=x.name.size+gb x.type+1
 |⟨_,_,_,_⟩=>by simp only[lx]
theorem eX:∀x:aq,gb x=br x.fields+1
 |⟨_,_,_⟩=>by simp only[gb]
theorem bM:∀l:List af,l.length≤br l
 |[]=>by simp[br]
 |x::l=>by
  have:=bM l
  have:=cc x
  simp only[br,List.length_cons];omega
theorem aD{i n:Nat}(h:i<n)(hn:n<1000000000):i64.wrap ((i:Int)+1)=((i+1:Nat):Int):=by rw[jC (by omega) (by omega)];omega
theorem bf{α:Type}{xs:List α}{i:Nat}(h:i<xs.length):at? xs (i:Int)=some xs[i]:=by unfold at?;simp[h]
theorem bp{i n:Nat}(h:i<n):decide ((i:Int)<(n:Int))=true:=by simp[h]
def M2(fs:List af)(i:Nat):ByteArray:=(fs[i]?.map (·.name)).getD ByteArray.empty
theorem rj{fs:List af}{i:Nat}(h:i<fs.length):M2 fs i=fs[i].name:=by simp[M2,h]
def tn(fs:List af)(i:Nat):Bool:= !oI (M2 fs i)
def Mv(fs:List af)(i j:Nat):Bool:=(M2 fs j).toList==(M2 fs i).toList
def Bl(fs:List af)(i:Nat):Bool:=(first (Mv fs i) 0 i).isSome
def DZ(fs:List af):Bool:=(first (tn fs) 0 fs.length).isSome
def CJ(fs:List af):Bool:=(first (Bl fs) 0 fs.length).isSome
structure vw(fs:List af):Prop where
 len:fs.length<1000000000
 nam:∀f∈fs,f.name.size<1000000000
theorem JG{fs:List af}(h:br fs<1000000000):vw fs:=
 ⟨by have:=bM fs;omega,fun f hf=>by have:=bN hf;have:=cc f;omega⟩
theorem Lb:∀f:af,jU.mk f.id f.name f.need (aq.mk f.type.kind f.type.scale f.type.fields)=f
 |⟨_,_,_,⟨_,_,_⟩⟩=>rfl
theorem IU:∀t:aq,aq.mk t.kind t.scale t.fields=t
 |⟨_,_,_⟩=>rfl
theorem GP{fs:List af}(ho:vw fs):bt fs=some (DZ fs):=by
 have hl:=mY (f:=fun k i=>aw fs k (i:Int)) (n:=fs.length) (P:=tn fs) (A:=fun i=>some (i:Int)) (B:=some (-1)) (fun k i hi=>by
   show aw fs (k+1) (i:Int)=_
   rw[aw,bp hi,bA,bf hi,cK,oJ,NN _ (ho.nam _ (kf hi)),aD hi ho.len]
   simp only[cK,bB,tn,rj hi])
  (fun k=>by rw[aw];simp only[Int.lt_irrefl,decide_false,aZ];rfl) aO 0 (Nat.zero_le _) (by rw[ar];have:=ho.len;omega)
 have hl:aw fs aO (0:Int)=_:=hl
 unfold bt cg
 rw[hl]
 unfold DZ
 cases first (tn fs) 0 fs.length with
 |none=>rfl
 |some j=>simp[cK]
theorem Gu{fs:List af}(ho:vw fs){i:Nat}(hi:i<fs.length):bu ((fs.drop (0:Int).toNat).take ((i:Int).toNat-(0:Int).toNat)) fs[i]=some (Bl fs i,fs[i]):=by
 have ep:(fs.drop (0:Int).toNat).take ((i:Int).toNat-(0:Int).toNat)=fs.take i:=by simp
 rw[ep]
 have hlen:(fs.take i).length=i:=by simp;omega
 have hl:=mY (f:=fun k j=>am (fs.take i) k fs[i].id fs[i].name fs[i].need fs[i].type.kind fs[i].type.scale fs[i].type.fields (j:Int)) (n:=i) (P:=Mv fs i) (A:=fun j=>some ((j:Int),fs[i])) (B:=some (-1,fs[i])) (fun k j hj=>by
   have hj':j<(fs.take i).length:=by rw[hlen];exact hj
   have hjf:j<fs.length:=by omega
   show am (fs.take i) (k+1) _ _ _ _ _ _ (j:Int)=_
   rw[am,bp hj',bA,bf hj',cK,oB,aD hj (by have:=ho.len;omega)]
   simp only[cK,bB,Mv,rj hi,rj hjf,List.getElem_take,Lb])
  (fun k=>by
   show am (fs.take i) (k+1) _ _ _ _ _ _ (i:Int)=_
   rw[am];simp only[hlen,Int.lt_irrefl,decide_false,aZ,bZ,Lb]) aO 0 (Nat.zero_le _) (by rw[ar];have:=ho.len;omega)
 have hl:am (fs.take i) aO _ _ _ _ _ _ (0:Int)=_:=hl
 unfold bu ce
 rw[hl]
 unfold Bl
 cases first (Mv fs i) 0 i with
 |none=>rfl
 |some j=>simp[cK]
theorem Cl{t:aq}(ho:vw t.fields):dX t aO (0:Int)=some (if CJ t.fields=true then 5 else 0):=by
 have hl:=mY (f:=fun k i=>dX t k (i:Int)) (n:=t.fields.length) (P:=Bl t.fields) (A:=fun _=>some 5) (B:=some 0) (fun k i hi=>by
   show dX t (k+1) (i:Int)=_
   rw[dX,bp hi,bA,bf hi,cK,rU (by omega),Gu ho hi,aD hi ho.len]
   simp only[cK,bB])
  (fun k=>by rw[dX];simp only[Int.lt_irrefl,decide_false,aZ];rfl) aO 0 (Nat.zero_le _) (by rw[ar];have:=ho.len;omega)
 have hl:dX t aO (0:Int)=_:=hl
 rw[hl]
 unfold CJ
 cases first (Bl t.fields) 0 t.fields.length<;>rfl
theorem IZ{t:aq}(ho:vw t.fields)(rec2:Int→Option Int){i:Nat}(hi:i<t.fields.length):eA rec2 t (i:Int) aO (0:Int)=if Bl t.fields i=true then some 5 else rec2 ((i+1:Nat):Int):=by
 have hl:=mY (f:=fun k j=>eA rec2 t (i:Int) k (j:Int)) (n:=i) (P:=Mv t.fields i) (A:=fun j=>some 5) (B:=rec2 ((i+1:Nat):Int)) (fun k j hj=>by
   have hjf:j<t.fields.length:=by omega
   show eA rec2 t (i:Int) (k+1) (j:Int)=_
   rw[eA,bp hj,bA,bf hjf,bf hi,aD hj (by have:=ho.len;omega)]
   simp only[cK,bB,Mv,rj hi,rj hjf])
  (fun k=>by
   show eA rec2 t (i:Int) (k+1) (i:Int)=_
   rw[eA];simp only[Int.lt_irrefl,decide_false,aZ,pl];rw[aD hi ho.len]) aO 0 (Nat.zero_le _) (by rw[ar];have:=ho.len;omega)
 have hl:eA rec2 t (i:Int) aO (0:Int)=_:=hl
 rw[hl]
 unfold Bl
 cases first (Mv t.fields i) 0 i<;>simp
theorem Ir{t:aq}(ho:vw t.fields):dY t aO (0:Int)=some (if CJ t.fields=true then 5 else 0):=by
 have hl:=mY (f:=fun k i=>dY t k (i:Int)) (n:=t.fields.length) (P:=Bl t.fields) (A:=fun _=>some 5) (B:=some 0) (fun k i hi=>by
   show dY t (k+1) (i:Int)=_
   rw[dY,bp hi,bA,IZ ho _ hi])
  (fun k=>by rw[dY];simp only[Int.lt_irrefl,decide_false,aZ];rfl) aO 0 (Nat.zero_le _) (by rw[ar];have:=ho.len;omega)
 have hl:dY t aO (0:Int)=_:=hl
 rw[hl]
 unfold CJ
 cases first (Bl t.fields) 0 t.fields.length<;>rfl
theorem HG{t:aq}(ho:vw t.fields):eT t aO (0:Int)=some (if DZ t.fields=true then 4 else if CJ t.fields=true then 5 else 0):=by
 have hl:=mY (f:=fun k i=>eT t k (i:Int)) (n:=t.fields.length) (P:=tn t.fields) (A:=fun _=>some 4) (B:=some (if CJ t.fields=true then 5 else 0)) (fun k i hi=>by
   show eT t (k+1) (i:Int)=_
   rw[eT,bp hi,bA,bf hi,cK,Nv _ (ho.nam _ (kf hi)),aD hi ho.len]
   simp only[cK,bB,tn,rj hi])
  (fun k=>by rw[eT];simp only[Int.lt_irrefl,decide_false,aZ,pc];exact Ir ho) aO 0 (Nat.zero_le _) (by rw[ar];have:=ho.len;omega)
 have hl:eT t aO (0:Int)=_:=hl
 rw[hl]
 unfold DZ
 cases first (tn t.fields) 0 t.fields.length<;>rfl
def vf(t:aq):Int:=
 if t.kind=6 then(if t.fields.length≠1∨(M2 t.fields 0).size≠0 then 1 else 0)
 else if t.kind≠7 then(if 0<t.fields.length then 1 else 0)
 else if t.fields.length=0 then 1 else if DZ t.fields=true then 4 else if CJ t.fields=true then 5 else 0
def xy(t:aq):Prop:=t.scale≠0∧(t.kind≠3∨t.scale<0∨12<t.scale)
instance(t:aq):Decidable (xy t):=by unfold xy;infer_instance
def shp(t:aq):Int:=if t.kind<1∨7<t.kind then 3 else if xy t then 1 else vf t
theorem JN{t:aq}(ho:vw t.fields):nW t=some (vf t):=by
 unfold nW lc vf
 rw[GP ho,Cl ho]
 simp only[cK,bB]
 by_cases h6:t.kind=6
 ·simp only[h6,beq_self_eq_true,if_true]
  by_cases hl:t.fields.length=1
  ·have:(0:Nat)<t.fields.length:=by omega
   rw[show at? t.fields (0:Int)=some t.fields[0]from bf (i:=0) this]
   simp only[hl,cK,n6,rj this]
   by_cases hz:t.fields[0].name.size=0<;>simp[hz]
  ·simp[hl,show((t.fields.length:Int)=1)=False from eq_false (by omega)]
 ·by_cases h7:t.kind=7
  ·simp[h7]
   by_cases hl:t.fields=[]
   ·simp[hl]
   ·simp[hl]
    by_cases hb:DZ t.fields=true
    ·simp[hb]
    ·simp[hb]
  ·simp[h6,h7]
   by_cases hl:0<t.fields.length
   ·simp[hl]
   ·simp[hl]
theorem Mf{t:aq}(ho:vw t.fields):qA t=some (shp t):=by
 have hj3:∀x,gF t x=if x=true then some 1 else if t.kind≠7 then some 0 else some (if DZ t.fields=true then 4 else if CJ t.fields=true then 5 else 0):=by
  intro x
  unfold gF
  rw[HG ho]
  cases x<;>simp[bB]
 have hleaf:jB t.kind=some (decide (t.kind≠6∧t.kind≠7)):=by
  unfold jB ml
  by_cases h6:t.kind=6<;>by_cases h7:t.kind=7<;>simp[h6,h7,bB]
 have hj1:∀x,gG t x=if x=true then some 1 else some (vf t):=by
  intro x
  cases x with
  |true=>rfl
  |false=>
   unfold gG kO vf
   rw[hleaf]
   simp only[bB,cK,hj3]
   by_cases h6:t.kind=6
   ·simp only[h6,beq_self_eq_true,if_true]
    by_cases hl:t.fields.length=1
    ·have:(0:Nat)<t.fields.length:=by omega
     rw[show at? t.fields (0:Int)=some t.fields[0]from bf (i:=0) this]
     simp only[hl,cK,n6,rj this]
     by_cases hz:t.fields[0].name.size=0<;>simp[hz]
    ·simp[hl,show((t.fields.length:Int)=1)=False from eq_false (by omega)]
   ·by_cases h7:t.kind=7
    ·simp[h7]
     by_cases hl:t.fields=[]
     ·simp[hl]
     ·simp[hl]
    ·simp[h6,h7]
     by_cases hl:0<t.fields.length
     ·simp[hl]
     ·simp[hl]
 unfold qA shp eN jT
 simp only[bB,hj1,cK]
 by_cases a1:t.kind<1
 ·simp[a1,show¬(1:Int)≤t.kind by omega,cK]
 ·by_cases a2:7<t.kind
  ·simp[a2,show(1:Int)≤t.kind by omega,show¬t.kind≤7 by omega,cK]
  ·simp only[a1,a2,show(1:Int)≤t.kind by omega,show t.kind≤7 by omega,decide_true,or_self,if_false,if_true,Bool.not_true,cK]
   unfold xy
   by_cases h3:t.kind=3
   ·by_cases b1:t.scale<0
    ·simp[h3,b1,show¬(0:Int)≤t.scale by omega,show t.scale≠0 by omega,cK]
    ·by_cases b2:12<t.scale
     ·simp[h3,b1,b2,show(0:Int)≤t.scale by omega,show¬t.scale≤12 by omega,show t.scale≠0 by omega,cK]
     ·simp[h3,b1,b2,show(0:Int)≤t.scale by omega,show t.scale≤12 by omega,cK]
   ·by_cases b0:t.scale=0<;>simp[h3,b0]
inductive V:aq→Prop where
 |mk (t:aq) (h1:shp t=0) (h2:∀f,f∈t.fields→V f.type):V t
theorem NM(t:aq):ov t=some (decide (t.kind≠6∧t.kind≠7)):=by
 unfold ov nh
 by_cases h6:t.kind=6<;>by_cases h7:t.kind=7<;>simp[h6,h7,bB]
theorem Lc(k:Int):jB k=some (decide (k≠6∧k≠7)):=by
 unfold jB ml
 by_cases h6:k=6<;>by_cases h7:k=7<;>simp[h6,h7,bB]
theorem Kz{t:aq}(ho:vw t.fields)(q:aq→Int→cH→Option (Int×cH))(l z:Int):
  ea q t l z=if shp t≠0 then some (shp t,⟨z⟩)else cR q t l aO z 0:=by
 have hj4:∀x,dk q t l z x=if x=true then some (1,⟨z⟩)else if vf t≠0 then some (vf t,⟨z⟩)else cR q t l aO z 0:=by
  intro x
  unfold dk
  rw[JN ho]
  cases x<;>simp[bB,cK]
 unfold ea gx shp
 simp only[bB,hj4]
 by_cases a1:t.kind<1
 ·simp[a1]
 ·by_cases a2:7<t.kind
  ·simp[a1,a2]
  ·simp only[a1,a2,decide_false,or_self,if_false,Bool.false_eq_true]
   unfold xy
   by_cases b0:t.scale=0
   ·simp[b0]
   ·by_cases h3:t.kind=3
    ·by_cases b1:t.scale<0
     ·simp[b0,h3,b1]
     ·by_cases b2:12<t.scale
      ·simp[b0,h3,b1,b2]
      ·simp[b0,h3,b1,b2]
    ·simp[b0,h3]
theorem JX{t:aq}(ho:vw t.fields)(q:aq→Int→Int→Option (Int×Int))(l z:Int):
  gc q t l z=if shp t≠0 then some (shp t,z)else eY q t l aO z 0:=by
 unfold gc
 rw[Mf ho]
 simp[bB,cK]
theorem OG{t:aq}(h:shp t=0)(hf:∀f∈t.fields,V f.type):V t:= .mk t h hf
mutual
def nZ:aq→Nat
 |⟨_,_,fs⟩=>ns fs+1
def ns:List (jU aq)→Nat
 |[]=>0
 |f::l=>max (Lv f) (ns l)
def Lv:jU aq→Nat
 |⟨_,_,_,t⟩=>nZ t
end
theorem wX(t:aq):nZ t=ns t.fields+1:=by cases t;simp only[nZ]
theorem FB(f:af):Lv f=nZ f.type:=by cases f;simp only[Lv]
theorem oC:∀{l:List af} {f:af},f∈l→nZ f.type≤ns l
 |g::l,f,h=>by
  simp only[ns]
  rcases List.mem_cons.1 h with rfl|h
  ·rw[FB];omega
  ·have:=oC h;omega
theorem FA{D:Nat}:∀{l:List af},(∀f∈l,nZ f.type≤D)→ns l≤D
 |[],_=>by simp only[ns];omega
 |f::l,h=>by
  simp only[ns]
  have h1:=h f (List.mem_cons_self ..)
  have h2:=FA (l:=l) fun g hg=>h g (List.mem_cons_of_mem _ hg)
  rw[FB];omega
theorem DV{D:Nat}{t:aq}(ho:vw t.fields)(l:Int)(hl0: -10≤l)(hl1:l≤10)(q1:aq→Int→cH→Option (Int×cH))(q2:aq→Int→Int→Option (Int×Int))
  (hq:∀f∈t.fields,∀n:Int,0≤n→n≤40→∃e m,q1 f.type (l+1) ⟨n⟩=some (e,⟨m⟩)∧q2 f.type (l+1) n=some (e,m)∧0≤m∧m≤40∧(e=0→V f.type∧nZ f.type≤D)):
  ∀(kk i:Nat) (n:Int),i≤t.fields.length→t.fields.length-i<kk→0≤n→n≤40→
   ∃e m,cR q1 t l kk n (i:Int)=some (e,⟨m⟩)∧eY q2 t l kk n (i:Int)=some (e,m)∧0≤m∧m≤40∧(e=0→∀j,i≤j→∀h:j<t.fields.length,V t.fields[j].type∧nZ t.fields[j].type≤D):=by
 intro kk
 induction kk with
 |zero=>intro i n _ h;omega
 |succ kk ih=>
  intro i n hi hk n0 n1
  rw[cR,eY]
  by_cases h:i=t.fields.length
  ·subst h
   simp only[Int.lt_irrefl,decide_false,aZ]
   exact⟨0,n,rfl,rfl,n0,n1,fun _ j h1 h2=>by omega⟩
  ·have hlt:i<t.fields.length:=by omega
   rw[bp hlt,bA,bA,bf hlt,cK,cK,jC (x:=l+1) (by omega) (by omega),aD hlt ho.len]
   obtain⟨e,m,h1,h2,h3,h4,h5⟩:=hq _ (kf hlt) n n0 n1
   rw[h1,h2]
   simp only[cK,bB]
   by_cases he:e=0
   ·obtain⟨e',m',g1,g2,g3,g4,g5⟩:=ih (i+1) m (by omega) (by omega) h3 h4
    refine⟨e',m',by simpa [he]using g1,by simpa [he]using g2,g3,g4,fun h0 j hj hjl=> ?_⟩
    by_cases hji:j=i
    ·subst hji;exact h5 he
    ·exact g5 h0 j (by omega) hjl
   ·exact⟨e,m,by simp[he],by simp[he],h3,h4,fun h0=>absurd h0 he⟩
theorem Cd:∀(d k:Nat) (t:aq) (l n:Int),l=5-d→d≤5→d<k→gb t<1000000000→0≤n→n≤40→
  ∃e m,bc k t l ⟨n⟩=some (e,⟨m⟩)∧db k t l n=some (e,m)∧0≤m∧m≤40∧(e=0→V t∧nZ t≤d):=by
 intro d
 induction d with
 |zero=>
  intro k t l n hl _ hk hs n0 n1
  obtain⟨k,rfl⟩:∃k',k=k'+1:=⟨k-1,by omega⟩
  have hl4:(4:Int)<l:=by omega
  rw[bc,db]
  simp only[hl4,decide_true,bA,d8]
  exact⟨7,n,rfl,rfl,n0,n1,fun h=>by omega⟩
 |succ d ih=>
  intro k t l n hl hd hk hs n0 n1
  obtain⟨k,rfl⟩:∃k',k=k'+1:=⟨k-1,by omega⟩
  have hl4:¬(4:Int)<l:=by omega
  have hsz:=eX t
  have ho:vw t.fields:=JG (by omega)
  have hq:∀f∈t.fields,∀n:Int,0≤n→n≤40→∃e m,bc k f.type (l+1) ⟨n⟩=some (e,⟨m⟩)∧db k f.type (l+1) n=some (e,m)∧0≤m∧m≤40∧(e=0→V f.type∧nZ f.type≤d):=by
   intro f hf n n0 n1
   have h1:=bN hf
   have h2:=cc f
   exact ih k f.type (l+1) n (by omega) (by omega) (by omega) (by omega) n0 n1
  have main:∀z:Int,0≤z→z≤40→∃e m,ea (bc k) t l z=some (e,⟨m⟩)∧gc (db k) t l z=some (e,m)∧0≤m∧m≤40∧(e=0→V t∧nZ t≤d+1):=by
   intro z z0 z1
   rw[Kz ho,JX ho]
   by_cases hsh:shp t=0
   ·obtain⟨e,m,h1,h2,h3,h4,h5⟩:=DV ho l (by omega) (by omega) _ _ hq aO 0 z (Nat.zero_le _) (by rw[ar];have:=ho.len;omega) z0 z1
    refine⟨e,m,by simpa [hsh]using h1,by simpa [hsh]using h2,h3,h4,fun he=> ?_⟩
    have key:∀f∈t.fields,V f.type∧nZ f.type≤d:=fun f hf=>by
     obtain⟨j,hj,rfl⟩:=List.getElem_of_mem hf
     exact h5 he j (Nat.zero_le _) hj
    exact⟨OG hsh fun f hf=>(key f hf).1,by rw[wX];have:=FA fun f hf=>(key f hf).2;omega⟩
   ·exact⟨shp t,z,by simp[hsh],by simp[hsh],z0,z1,fun h=>absurd h hsh⟩
  rw[bc,db]
  simp only[hl4,decide_false,aZ,NM,Lc,cK,d8]
  by_cases hleaf:t.kind≠6∧t.kind≠7
  ·simp only[hleaf,ne_eq,not_false_eq_true,and_self,decide_true,bA]
   by_cases h40:n=40
   ·simp only[h40,beq_self_eq_true,bA]
    exact⟨7,40,rfl,rfl,by omega,by omega,fun h=>by omega⟩
   ·have:(n==40)=false:=by simpa using h40
    simp only[this,aZ]
    rw[jC (x:=n+1) (by omega) (by omega)]
    exact main (n+1) (by omega) (by omega)
  ·simp only[hleaf,decide_false,aZ]
   exact main n n0 n1
theorem ma(t:aq)(hs:gb t<1000000000):∃e,gf t=some e∧j6 t=some e∧(e=0→V t):=by
 obtain⟨e,m,h1,h2,h3,h4,h5⟩:=Cd 4 aO t 1 0 (by omega) (by omega) (by rw[ar];omega) hs (by omega) (by omega)
 refine⟨e,?_,?_,fun h=>(h5 h).1⟩
 ·unfold gf;rw[h1];rfl
 ·unfold j6;rw[h2];rfl
theorem zn{t:aq}(hs:gb t<1000000000)(h:gf t=some 0):nZ t≤4:=by
 obtain⟨e,m,h1,h2,h3,h4,h5⟩:=Cd 4 aO t 1 0 (by omega) (by omega) (by rw[ar];omega) hs (by omega) (by omega)
 unfold gf at h
 rw[h1]at h
 exact(h5 (Option.some.inj h)).2
end Go.Proofs.YtnecojeemmnnaaaGreatDoor
namespace Go.Proofs.YtnecojeemmnnaaaGreatDoor
open Go Go.SX Go.SX.Cal Go.Lib
open Go.IntKind (i64)
mutual
def bS:aa→Nat
 |⟨_,_,_,s,it⟩=>s.size+ca it+1
def ca:List aa→Nat
 |[]=>0
 |x::l=>bS x+ca l
end
theorem fg:∀v:aa,bS v=v.s.size+ca v.items+1
 |⟨_,_,_,_,_⟩=>by simp only[bS]
theorem cE:∀{l:List aa} {x:aa},x∈l→bS x≤ca l
 |[],_,h=>by cases h
 |y::l,x,h=>by
  simp only[ca]
  rcases List.mem_cons.1 h with rfl|h
  ·omega
  ·have:=cE h;omega
theorem pN:∀v:aa,1≤bS v
 |⟨_,_,_,_,_⟩=>by simp only[bS];omega
theorem ec:∀l:List aa,l.length≤ca l
 |[]=>by simp[ca]
 |x::l=>by
  have:=ec l
  have:=pN x
  simp only[ca,List.length_cons];omega
theorem wN(b x:Bool):aF b (some x) (some false)=some (b&&x):=by cases b<;>rfl
theorem b7{α β:Type}(a:α)(f:α→Option β):aK (some a) f=f a:=rfl
theorem xu{P:Nat→Bool}{n:Nat}:∀(d i:Nat),i+d≤n→(∀j,i≤j→j<i+d→P j=false)→first P i n=first P (i+d) n
 |0,i,_,_=>rfl
 |d+1,i,h,hP=>by
  rw[oq (by omega),hP i (by omega) (by omega)]
  simp only[Bool.false_eq_true,if_false]
  rw[xu d (i+1) (by omega) (fun j h1 h2=>hP j (by omega) (by omega))]
  congr 1;omega
theorem CG(s:ByteArray)(i:Nat)(h:i<s.size)(hb:¬lh s i<128):
  1≤(Utf8.decode s i).2∧i+(Utf8.decode s i).2≤s.size∧∀j,i≤j→j<i+(Utf8.decode s i).2→128≤lh s j:=by
 have e:=wV s i h
 have one:∀j,i≤j→j<i+1→128≤lh s j:=fun j h1 h2=>by
  have:j=i:=by omega
  subst this;omega
 have ct:∀k,(decide (i+k<s.size)&&(s.get! (i+k)).toNat/64==2)=true→i+k<s.size∧128≤lh s (i+k):=by
  intro k hk
  simp only[fM,decide_eq_true_eq,beq_iff_eq]at hk
  rw[wV s _ hk.1]at hk
  exact⟨hk.1,by omega⟩
 unfold Utf8.decode
 simp only[Nat.add_zero,e,if_neg hb]
 split
 ·rename_i h1
  simp only[fM]at h1
  obtain⟨l1,b1⟩:=ct 1 (by simpa using h1.2)
  split
  ·refine⟨by simp,by simp only;omega,fun j h2 h3=> ?_⟩
   simp only at h3
   by_cases hj:j=i
   ·subst hj;omega
   ·have:j=i+1:=by omega
    subst this;exact b1
  ·exact⟨by simp,by simp only;omega,one⟩
 ·split
  ·rename_i h1
   simp only[fM]at h1
   obtain⟨l1,b1⟩:=ct 1 (by simpa using h1.1.2)
   obtain⟨l2,b2⟩:=ct 2 (by simpa using h1.2)
   split
   ·refine⟨by simp,by simp only;omega,fun j h2 h3=> ?_⟩
    simp only at h3
    by_cases hj:j=i
    ·subst hj;omega
    ·by_cases hj:j=i+1
     ·subst hj;exact b1
     ·have:j=i+2:=by omega
      subst this;exact b2
   ·exact⟨by simp,by simp only;omega,one⟩
  ·split
   ·rename_i h1
    simp only[fM]at h1
    obtain⟨l1,b1⟩:=ct 1 (by simpa using h1.1.1.2)
    obtain⟨l2,b2⟩:=ct 2 (by simpa using h1.1.2)
    obtain⟨l3,b3⟩:=ct 3 (by simpa using h1.2)
    split
    ·refine⟨by simp,by simp only;omega,fun j h2 h3=> ?_⟩
     simp only at h3
     by_cases hj:j=i
     ·subst hj;omega
     ·by_cases hj:j=i+1
      ·subst hj;exact b1
      ·by_cases hj:j=i+2
       ·subst hj;exact b2
       ·have:j=i+3:=by omega
        subst this;exact b3
    ·exact⟨by simp,by simp only;omega,one⟩
   ·exact⟨by simp,by simp only;omega,one⟩
def C9(s:ByteArray)(i:Nat):Bool:=decide (lh s i<32)||lh s i==127
theorem Dj(s:ByteArray):∀k i,i≤s.size→s.size-i<k→gC s k i=some (first (C9 s) i s.size).isNone:=by
 intro k
 induction k with
 |zero=>intro i _ h;omega
 |succ k ih=>
  intro i hi hk
  rw[gC]
  by_cases h:i=s.size
  ·subst h
   rw[oa]
   simp only[Nat.lt_irrefl,decide_false,aZ,ph]
   rfl
  ·have hlt:i<s.size:=by omega
   simp only[hlt,decide_true,bA,nm,bB]
   by_cases hb:lh s i<128
   ·rw[Ad s i hlt hb,oq hlt]
    by_cases h1:lh s i<32
    ·have:C9 s i=true:=by simp[C9,h1]
     simp[this,show((lh s i:Nat):Int)<32 by omega]
    ·have e1:¬((lh s i:Nat):Int)<32:=by omega
     by_cases h2:lh s i=127
     ·have:C9 s i=true:=by simp[C9,h2]
      simp[this,h2]
     ·have:C9 s i=false:=by simp[C9,h1,h2]
      have e2:¬((lh s i:Nat):Int)=127:=by omega
      simp only[this,Int.ofNat_eq_natCast,e1,decide_false,Bool.false_eq_true,if_false,beq_iff_eq,e2]
      exact ih (i+1) (by omega) (by omega)
   ·have h1:=zK s i hlt hb
    obtain⟨h2,h3,h4⟩:=CG s i hlt hb
    have e1:¬(((Utf8.decode s i).1:Nat):Int)<32:=by omega
    have e2:¬(((Utf8.decode s i).1:Nat):Int)=127:=by omega
    simp only[Int.ofNat_eq_natCast,e1,decide_false,Bool.false_eq_true,if_false,beq_iff_eq,e2]
    rw[ih _ h3 (by omega),xu _ i h3 (fun j a b=>by
     have:=h4 j a b
     simp only[C9,Bool.or_eq_false_iff,decide_eq_false_iff_not,beq_eq_false_iff_ne]
     omega)]
    simp
theorem Er(s:ByteArray)(hs:s.size<1000000000):∀k i,i≤s.size→s.size-i<k→dR s k (i:Int)=some (first (C9 s) i s.size).isNone:=by
 intro k
 induction k with
 |zero=>intro i _ h;omega
 |succ k ih=>
  intro i hi hk
  rw[dR]
  by_cases h:i=s.size
  ·subst h
   rw[oa]
   simp only[Int.lt_irrefl,decide_false,aZ,lq]
   rfl
  ·have hlt:i<s.size:=by omega
   have g:(0:Int)≤(i:Int)∧(i:Int)<(s.size:Int):=⟨by omega,by omega⟩
   have e:((s.data.toList.getD (i:Int).toNat 0).toNat:Int)=(lh s i:Int):=by simp[lh]
   simp only[bp hlt,bA,eh,if_pos g,b7,jh,bB,e]
   rw[oq hlt,aD hlt hs]
   by_cases h1:lh s i<32
   ·have:C9 s i=true:=by simp[C9,h1]
    simp[this,show((lh s i:Nat):Int)<32 by omega]
   ·have e1:¬((lh s i:Nat):Int)<32:=by omega
    by_cases h2:lh s i=127
    ·have:C9 s i=true:=by simp[C9,h2]
     simp[this,h2]
    ·have:C9 s i=false:=by simp[C9,h1,h2]
     have e2:¬((lh s i:Nat):Int)=127:=by omega
     simp only[this,e1,decide_false,Bool.false_eq_true,if_false,beq_iff_eq,e2]
     exact ih (i+1) (by omega) (by omega)
def rl(s:ByteArray):Bool:=decide (s.size≤256)&&(validD s.data.toList&&(first (C9 s) 0 s.size).isNone)
theorem Ib(s:ByteArray)(hs:s.size<1000000000):utf8_ValidString s=some (validD s.data.toList):=by
 unfold utf8_ValidString eh
 rw[if_pos (by omega)]
theorem Ny(s:ByteArray)(hs:s.size<1000000000):qm s=some (rl s):=by
 unfold qm nj rl
 rw[Ib s hs,Dj s aO 0 (by omega) (by rw[ar];omega)]
 by_cases h:s.size≤256
 ·have:¬(256:Int)<(s.size:Int):=by omega
  simp only[this,h,decide_false,decide_true,aZ,b7]
  cases validD s.data.toList<;>rfl
 ·have:(256:Int)<(s.size:Int):=by omega
  simp only[this,h,decide_false,decide_true,bA]
  rfl
theorem Mz(s:ByteArray)(hs:s.size<1000000000):kZ s=some (rl s):=by
 have:=Er s hs aO 0 (by omega) (by rw[ar];omega)
 unfold kZ je rl
 rw[Ib s hs,show(0:Int)=((0:Nat):Int)from rfl,this]
 by_cases h:s.size≤256
 ·have e:¬(256:Int)<(s.size:Int):=by omega
  simp only[e,h,decide_false,decide_true,b7]
  cases validD s.data.toList<;>rfl
 ·have e:(256:Int)<(s.size:Int):=by omega
  simp only[e,h,decide_false,decide_true,b7]
  cases validD s.data.toList<;>rfl
theorem JS(a b c:Int):eF a b c=some (decide (b≤a)&&decide (a≤c)):=by
 unfold eF jr;exact wN _ _
theorem Fu(a b c:Int):eN a b c=some (decide (b≤a)&&decide (a≤c)):=by
 unfold eN jT;exact wN _ _
def gw(v:aa):Bool:=
 let bare:=v.n==0&&v.scale==0
 let noS:=decide (v.s.size=0)
 let noI:=((v.items.length:Int)==0)
 if v.kind=0 then bare&&(noS&&noI)
 else if v.kind=1 then(decide (0≤v.n)&&decide (v.n≤1))&&(v.scale==0&&(noS&&noI))
 else if v.kind=2 then(decide (-999999999999999999≤v.n)&&decide (v.n≤999999999999999999))&&(v.scale==0&&(noS&&noI))
 else if v.kind=3 then(decide (-999999999999999999≤v.n)&&decide (v.n≤999999999999999999))&&((decide (0≤v.scale)&&decide (v.scale≤12))&&(noS&&noI))
 else if v.kind=4 then bare&&(rl v.s&&noI)
 else if v.kind=5 then(decide (-62135596800≤v.n)&&decide (v.n≤253402300799))&&(v.scale==0&&(noS&&noI))
 else if v.kind=6 then bare&&(noS&&decide ((v.items.length:Int)≤64))
 else if v.kind=7 then bare&&(noS&&decide ((0:Int)<(v.items.length:Int)))
 else false
theorem Mh(v:aa)(hs:v.s.size<1000000000):o5 v=some (gw v):=by
 have j:∀x,jR v x=some (if v.kind=0 then x&&(decide (v.s.size=0)&&((v.items.length:Int)==0))
   else if v.kind=1 then(decide (0≤v.n)&&decide (v.n≤1))&&(v.scale==0&&(decide (v.s.size=0)&&((v.items.length:Int)==0)))
   else if v.kind=2 then(decide (-999999999999999999≤v.n)&&decide (v.n≤999999999999999999))&&(v.scale==0&&(decide (v.s.size=0)&&((v.items.length:Int)==0)))
   else if v.kind=3 then(decide (-999999999999999999≤v.n)&&decide (v.n≤999999999999999999))&&((decide (0≤v.scale)&&decide (v.scale≤12))&&(decide (v.s.size=0)&&((v.items.length:Int)==0)))
   else if v.kind=4 then x&&(rl v.s&&((v.items.length:Int)==0))
   else if v.kind=5 then(decide (-62135596800≤v.n)&&decide (v.n≤253402300799))&&(v.scale==0&&(decide (v.s.size=0)&&((v.items.length:Int)==0)))
   else if v.kind=6 then x&&(decide (v.s.size=0)&&decide ((v.items.length:Int)≤64))
   else if v.kind=7 then x&&(decide (v.s.size=0)&&decide ((0:Int)<(v.items.length:Int)))
   else false):=by
  intro x
  unfold jR jS iN iP iW ke iQ jZ jY
  simp only[JS,Ny v.s hs,b7,wN,n6]
  simp only[bB,beq_iff_eq]
  repeat' split
  all_goals (first|rfl|simp_all)
 unfold o5
 rw[j,j]
 unfold gw
 cases v.n==0
 ·simp only[aZ,Bool.false_and]
 ·simp only[bA,Bool.true_and]
theorem MI(v:aa)(hs:v.s.size<1000000000):qx v=some (gw v):=by
 have j:∀x,kU v x=some (if v.kind=0 then x&&(v.n==0&&v.scale==0)
   else if v.kind=1 then x&&((decide (0≤v.n)&&decide (v.n≤1))&&v.scale==0)
   else if v.kind=2 then x&&((decide (-999999999999999999≤v.n)&&decide (v.n≤999999999999999999))&&v.scale==0)
   else if v.kind=3 then x&&((decide (-999999999999999999≤v.n)&&decide (v.n≤999999999999999999))&&(decide (0≤v.scale)&&decide (v.scale≤12)))
   else if v.kind=4 then((v.items.length:Int)==0)&&(v.n==0&&(v.scale==0&&rl v.s))
   else if v.kind=5 then x&&((decide (-62135596800≤v.n)&&decide (v.n≤253402300799))&&v.scale==0)
   else if v.kind=6 then decide (v.s.size=0)&&(v.n==0&&(v.scale==0&&decide ((v.items.length:Int)≤64)))
   else if v.kind=7 then decide (v.s.size=0)&&(v.n==0&&(v.scale==0&&decide ((0:Int)<(v.items.length:Int))))
   else false):=by
  intro x
  unfold kU kz kV kX kF jv kL jz jy
  simp only[Fu,Mz v.s hs,b7,wN,n6]
  simp only[bB,beq_iff_eq]
  repeat' split
  all_goals (first|rfl|simp_all)
 unfold qx
 rw[j,j,n6]
 unfold gw
 generalize decide (v.s.size=0)=a
 generalize ((v.items.length:Int)==0)=b
 generalize rl v.s=t
 generalize (v.n==0)=c
 generalize (v.scale==0)=d
 generalize (decide (0≤v.n)&&decide (v.n≤1))=e1
 generalize (decide (-999999999999999999≤v.n)&&decide (v.n≤999999999999999999))=e2
 generalize (decide (0≤v.scale)&&decide (v.scale≤12))=e3
 generalize (decide (-62135596800≤v.n)&&decide (v.n≤253402300799))=e4
 generalize decide ((v.items.length:Int)≤64)=e5
 generalize decide ((0:Int)<(v.items.length:Int))=e6
 cases a<;>simp only[aZ,bA]<;>congr 1<;>repeat' split
 all_goals (first|rfl|(cases b<;>cases c<;>cases d<;>simp<;>done) |(simp[Bool.and_comm,Bool.and_assoc,Bool.and_left_comm]))
def jP(f:aa→Int→Bool×Int):List aa→Int→Bool×Int
 |[],z=>(true,z)
 |v::l,z=>if(f v z).1=true then jP f l (f v z).2 else(false,(f v z).2)
def wE(v:aa)(z:Int):Int:=if v.kind=0 then z else z+1
def gk:Nat→aa→Int→Bool×Int
 |0,v,z=>(false,wE v z)
 |d+1,v,z=>if 256<wE v z∨gw v=false then(false,wE v z)else jP (gk d) v.items (wE v z)
def qZ(v:aa):Bool:=(gk 4 v 0).1
theorem zR{f:aa→Int→Bool×Int}:∀{l:List aa} {z:Int},(∀v∈l,∀z,0≤z→z≤256→0≤(f v z).2∧(f v z).2≤257∧((f v z).1=true→(f v z).2≤256))→0≤z→z≤256→
  0≤(jP f l z).2∧(jP f l z).2≤257∧((jP f l z).1=true→(jP f l z).2≤256)
 |[],z,_,h0,h1=>by simp only[jP];omega
 |v::l,z,hf,h0,h1=>by
  obtain⟨a,b,c⟩:=hf v (by simp) z h0 h1
  simp only[jP]
  split
  ·rename_i h
   exact zR (fun x hx=>hf x (by simp[hx])) a (c h)
  ·exact⟨a,b,fun h=>by cases h⟩
theorem v7:∀(d:Nat) (v:aa) (z:Int),0≤z→z≤256→0≤(gk d v z).2∧(gk d v z).2≤257∧((gk d v z).1=true→(gk d v z).2≤256)
 |0,v,z,h0,h1=>by
  have hc:z≤wE v z∧wE v z≤z+1:=by unfold wE;split<;>omega
  simp only[gk]
  exact⟨by omega,by omega,fun h=>by cases h⟩
 |d+1,v,z,h0,h1=>by
  have hc:z≤wE v z∧wE v z≤z+1:=by unfold wE;split<;>omega
  simp only[gk]
  split
  ·exact⟨by omega,by omega,fun h=>by cases h⟩
  ·rename_i h
   have:¬256<wE v z:=fun e=>h (.inl e)
   exact zR (fun x _=>v7 d x) (by omega) (by omega)
theorem vg(v:aa)(z:Int)(h0:0≤z)(h1:z≤256){β:Type}(f:Int→Option β):aF (v.kind != (0:Int)) (f (i64.wrap (z+1))) (f z)=f (wE v z):=by
 rw[jC (by omega) (by omega)]
 unfold wE
 by_cases h:v.kind=0
 ·simp[h,bB]
 ·simp[h,bB]
theorem B5{d:Nat}(l:Int)(q:aa→Int→Int→Option (Bool×Int))(xs:List aa)(hl:xs.length<1000000000)
  (hq:∀v∈xs,∀z,0≤z→z≤256→q v l z=some (!(gk d v z).1,(gk d v z).2)):∀(k i:Nat) (z:Int),i≤xs.length→xs.length-i<k→0≤z→z≤256→
  ∃r:Int,aP q xs l k z (i:Int)=some (r,(jP (gk d) (xs.drop i) z).2)∧decide (0≤r)= !(jP (gk d) (xs.drop i) z).1:=by
 intro k
 induction k with
 |zero=>intro i z _ h;omega
 |succ k ih=>
  intro i z hi hk h0 h1
  rw[aP]
  by_cases h:i=xs.length
  ·subst h
   simp only[Int.lt_irrefl,decide_false,aZ,List.drop_length,jP,b8]
   exact⟨-1,rfl,rfl⟩
  ·have hlt:i<xs.length:=by omega
   have hm:xs[i]∈xs:=kf hlt
   simp only[bp hlt,bA,bf hlt,b7,hq _ hm z h0 h1]
   rw[List.drop_eq_getElem_cons hlt]
   simp only[jP]
   obtain⟨a,b,c⟩:=v7 d xs[i] z h0 h1
   cases hs:(gk d xs[i] z).1 with
   |false=>
    simp only[Bool.not_false,bA,Bool.false_eq_true,if_false]
    exact⟨_,rfl,by simp⟩
   |true=>
    simp only[Bool.not_true,aZ,if_true]
    rw[aD hlt hl]
    exact ih (i+1) _ (by omega) (by omega) a (c hs)
theorem Gy:∀(d k:Nat) (v:aa) (z:Int),d≤4→4*d+4≤k→bS v<1000000000→0≤z→z≤256→jc k v (5-d:Int) z=some (gk d v z):=by
 intro d
 induction d with
 |zero=>
  intro k v z _ hk hs h0 h1
  obtain⟨k,rfl⟩:∃q,k=q+1:=⟨k-1,by omega⟩
  rw[jc,vg v z h0 h1]
  unfold j0 iR
  simp[gk,bA]
 |succ d ih=>
  intro k v z hd hk hs h0 h1
  obtain⟨k,rfl⟩:∃q,k=q+4:=⟨k-4,by omega⟩
  have hsz:=fg v
  have hlen:=ec v.items
  rw[jc,vg v z h0 h1]
  unfold j0 iR
  rw[Mh v (by omega)]
  have e4:¬(4:Int)<5-((d+1:Nat):Int):=by omega
  have hc:z≤wE v z∧wE v z≤z+1:=by unfold wE;split<;>omega
  simp only[e4,decide_false,aZ,gk,b7]
  by_cases h2:(256:Int)<wE v z
  ·simp[h2,bA]
  ·cases hp:gw v with
   |false=>simp[h2,bA,aZ]
   |true=>
    simp only[h2,decide_false,aZ,Bool.not_true,false_or,Bool.true_eq_false,if_false]
    have:=B5 (d:=d) (5-((d+1:Nat):Int)) (gm (k+1)) v.items (by omega) (by
     intro x hx z h0 h1
     have:=cE hx
     rw[gm,jC (by omega) (by omega),show(5-((d+1:Nat):Int)+1)=5-(d:Int) by omega,ih k x z (by omega) (by omega) (by omega) h0 h1]
     rfl) aO 0 (wE v z) (by omega) (by rw[ar];omega) (by omega) (by omega)
    obtain⟨r,e1,e2⟩:=this
    rw[show((0:Nat):Int)=(0:Int)from rfl]at e1
    rw[az,a7,e1]
    simp only[b7,e2,List.drop_zero,Bool.not_not]
theorem Ew(v:aa)(hs:bS v<1000000000):nB v=some (qZ v):=by
 unfold nB qZ
 have:=Gy 4 aO v 0 (by omega) (by rw[ar];omega) hs (by omega) (by omega)
 rw[show(5-((4:Nat):Int))=(1:Int)from rfl]at this
 rw[this];rfl
theorem B2{d:Nat}(l:Int)(hl0:0≤l)(hl1:l≤100)(q:aa→Int→Int→Option (Bool×Int))(v:aa)(hl:v.items.length<1000000000)
  (hq:∀x∈v.items,∀z,0≤z→z≤256→q x (l+1) z=some (gk d x z)):∀(k i:Nat) (z:Int),i≤v.items.length→v.items.length-i<k→0≤z→z≤256→
  jE q v l k z (i:Int)=some (jP (gk d) (v.items.drop i) z):=by
 intro k
 induction k with
 |zero=>intro i z _ h;omega
 |succ k ih=>
  intro i z hi hk h0 h1
  rw[jE]
  by_cases h:i=v.items.length
  ·subst h
   simp only[Int.lt_irrefl,decide_false,aZ,List.drop_length,jP,pf]
  ·have hlt:i<v.items.length:=by omega
   have hm:v.items[i]∈v.items:=kf hlt
   rw[jC (x:=l+1) (by omega) (by omega)]
   simp only[bp hlt,bA,bf hlt,b7,hq _ hm z h0 h1]
   rw[List.drop_eq_getElem_cons hlt]
   simp only[jP]
   obtain⟨a,b,c⟩:=v7 d v.items[i] z h0 h1
   cases hs:(gk d v.items[i] z).1 with
   |false=>simp only[Bool.not_false,bA,Bool.false_eq_true,if_false]
   |true=>
    simp only[Bool.not_true,aZ,if_true]
    rw[aD hlt hl]
    exact ih (i+1) _ (by omega) (by omega) a (c hs)
theorem Gp:∀(d k:Nat) (v:aa) (z:Int),d≤4→d+1≤k→bS v<1000000000→0≤z→z≤256→fq k v (5-d:Int) z=some (gk d v z):=by
 intro d
 induction d with
 |zero=>
  intro k v z _ hk hs h0 h1
  obtain⟨k,rfl⟩:∃q,k=q+1:=⟨k-1,by omega⟩
  rw[fq,vg v z h0 h1]
  unfold kH jD
  simp[gk,bA]
 |succ d ih=>
  intro k v z hd hk hs h0 h1
  obtain⟨k,rfl⟩:∃q,k=q+1:=⟨k-1,by omega⟩
  have hsz:=fg v
  have hlen:=ec v.items
  rw[fq,vg v z h0 h1]
  unfold kH jD
  rw[MI v (by omega)]
  have e4:¬(4:Int)<5-((d+1:Nat):Int):=by omega
  have hc:z≤wE v z∧wE v z≤z+1:=by unfold wE;split<;>omega
  simp only[e4,decide_false,aZ,gk,b7]
  by_cases h2:(256:Int)<wE v z
  ·simp[h2,bA]
  ·cases hp:gw v with
   |false=>simp[h2,bA,aZ]
   |true=>
    simp only[h2,decide_false,aZ,Bool.not_true,false_or,Bool.true_eq_false,if_false]
    have:=B2 (d:=d) (5-((d+1:Nat):Int)) (by omega) (by omega) (fq k) v (by omega) (by
     intro x hx z h0 h1
     have:=cE hx
     rw[show(5-((d+1:Nat):Int)+1)=5-(d:Int) by omega]
     exact ih k x z (by omega) (by omega) (by omega) h0 h1) aO 0 (wE v z) (by omega) (by rw[ar];omega) (by omega) (by omega)
    rw[show((0:Nat):Int)=(0:Int)from rfl,List.drop_zero]at this
    exact this
theorem Mw(v:aa)(hs:bS v<1000000000):p9 v=some (qZ v):=by
 unfold p9 qZ
 have:=Gp 4 aO v 0 (by omega) (by rw[ar];omega) hs (by omega) (by omega)
 rw[show(5-((4:Nat):Int))=(1:Int)from rfl]at this
 rw[this];rfl
def Fv(d:Nat)(v:aa):Prop:=∃z,(gk d v z).1=true
theorem xY{f:aa→Int→Bool×Int}:∀{l:List aa} {z:Int},(jP f l z).1=true→∀x∈l,∃z',(f x z').1=true
 |[],_,_,x,hx=>by cases hx
 |v::l,z,h,x,hx=>by
  simp only[jP]at h
  by_cases hv:(f v z).1=true
  ·rw[if_pos hv]at h
   rcases List.mem_cons.1 hx with rfl|hx
   ·exact⟨z,hv⟩
   ·exact xY h x hx
  ·rw[if_neg hv]at h;cases h
theorem Fv.zero{v:aa}(h:Fv 0 v):False:=by obtain⟨z,h⟩:=h;cases h
theorem Fv.succ{d:Nat}{v:aa}(h:Fv (d+1) v):gw v=true∧∀x∈v.items,Fv d x:=by
 obtain⟨z,h⟩:=h
 simp only[gk]at h
 by_cases hc:256<wE v z∨gw v=false
 ·rw[if_pos hc]at h;cases h
 ·rw[if_neg hc]at h
  refine⟨?_,fun x hx=>xY h x hx⟩
  cases hp:gw v with
  |true=>rfl
  |false=>exact absurd (.inr hp) hc
theorem Cw{v:aa}(h:gw v=true)(hk:v.kind≠3):v.scale=0:=by
 unfold gw at h
 simp only at h
 split at h
 ·simp at h;exact h.1.2
 ·split at h
  ·simp at h;exact h.2.1
  ·split at h
   ·simp at h;exact h.2.1
   ·split at h
    ·simp at h;exact h.1.2
    ·split at h
     ·simp at h;exact h.2.1
     ·split at h
      ·simp at h;exact h.1.2
      ·split at h
       ·simp at h;exact h.1.2
       ·cases h
theorem fL{v:aa}(h:gw v=true)(h6:v.kind≠6)(h7:v.kind≠7):v.items=[]:=by
 unfold gw at h
 simp only at h
 rw[←List.length_eq_zero_iff]
 split at h
 ·simp at h;simp[h.2.2]
 ·split at h
  ·simp at h;simp[h.2.2.2]
  ·split at h
   ·simp at h;simp[h.2.2.2]
   ·split at h
    ·simp at h;simp[h.2.2.2]
    ·split at h
     ·simp at h;simp[h.2.2]
     ·split at h
      ·simp at h;simp[h.2.2.2]
      ·cases h
theorem V.sh{t:aq}(h:V t):shp t=0:=by cases h;assumption
theorem V.fs{t:aq}(h:V t):∀f,f∈t.fields→V f.type:=by cases h;assumption
theorem V.scale{t:aq}(h:V t)(hk:t.kind≠3):t.scale=0:=by
 have:=h.sh
 unfold shp at this
 split at this
 ·cases this
 ·by_cases h2:xy t
  ·rw[if_pos h2]at this;cases this
  ·by_cases hs:t.scale=0
   ·exact hs
   ·exact absurd ⟨hs,.inl hk⟩ h2
theorem V.list{t:aq}(h:V t)(hk:t.kind=6):t.fields.length=1:=by
 have:=h.sh
 unfold shp at this
 split at this
 ·cases this
 ·by_cases h2:xy t
  ·rw[if_pos h2]at this;cases this
  ·rw[if_neg h2]at this
   unfold vf at this
   rw[if_pos hk]at this
   split at this
   ·cases this
   ·rename_i h3
    by_cases hl:t.fields.length=1
    ·exact hl
    ·exact absurd (.inl hl) h3
def ft(t:aq)(i:Nat):aq:=(t.fields[if t.kind=6 then 0 else i]?.map (·.type)).getD ⟨0,0,[]⟩
def nd(t:aq)(i:Nat):Bool:=(t.fields[if t.kind=6 then 0 else i]?.map (·.need)).getD false
def iv(v:aa)(i:Nat):aa:=v.items[i]?.getD ⟨0,0,0,ByteArray.empty,[]⟩
theorem nt{v:aa}{i:Nat}(h:i<v.items.length):v.items[i]=iv v i:=by simp[iv,h]
def xh:Nat→aq→aa→Bool
 |0,_,_=>true
 |d+1,t,v=>
  if v.kind=0 then true
  else if v.kind≠t.kind then false
  else if v.kind=3 then v.scale==t.scale
  else if v.kind=7∧t.fields.length≠v.items.length then false
  else(first (fun i=> !xh d (ft t i) (iv v i)) 0 v.items.length).isNone
def Og(t:aq)(v:aa):Prop:=∀i,i<v.items.length→(if t.kind=6 then 0 else i)<t.fields.length
theorem DL{d:Nat}{t:aq}{v:aa}(hs:Fv (d+1) v)(ht:V t)(h:xh (d+1) t v=true):Og t v∧∀i,i<v.items.length→xh d (ft t i) (iv v i)=true:=by
 obtain⟨hp,_⟩:=hs.succ
 by_cases h67:v.kind=6∨v.kind=7
 ·simp only[xh]at h
  rw[if_neg (by omega)]at h
  by_cases hk:v.kind=t.kind
  ·rw[if_neg (fun hh=>hh hk),if_neg (by omega)]at h
   by_cases hl:v.kind=7∧t.fields.length≠v.items.length
   ·rw[if_pos hl]at h;cases h
   ·rw[if_neg hl]at h
    have hn:=Option.isNone_iff_eq_none.1 h
    rw[om]at hn
    refine⟨fun i hi=> ?_,fun i hi=>by simpa using hn i (Nat.zero_le _) hi⟩
    by_cases h6:t.kind=6
    ·rw[if_pos h6,ht.list h6];omega
    ·rw[if_neg h6]
     have:¬t.fields.length≠v.items.length:=fun hh=>hl ⟨by omega,hh⟩
     omega
  ·rw[if_pos hk]at h;cases h
 ·have:v.items=[]:=fL hp (by omega) (by omega)
  refine⟨fun i hi=> ?_,fun i hi=> ?_⟩
  ·rw[this]at hi;simp at hi
  ·rw[this]at hi;simp at hi
theorem G4{t:aq}{i:Nat}(h:(if t.kind=6 then 0 else i)<t.fields.length):∃f:af,f∈t.fields∧t.fields[if t.kind=6 then 0 else i]? =some f∧f.type=ft t i∧f.need=nd t i:=by
 refine⟨t.fields[if t.kind=6 then 0 else i],kf h,gu h,?_,?_⟩
 ·unfold ft;rw[gu h];rfl
 ·unfold nd;rw[gu h];rfl
theorem dl{α:Type}{xs:List α}{i:Nat}{x:α}(h:xs[i]? =some x):at? xs (i:Int)=some x:=by unfold at?;simp[h]
theorem m9{v:aa}{i:Nat}(h:i<v.items.length):iv v i∈v.items:=by rw[←nt h];exact kf h
theorem Lt:∀(d k k':Nat) (t:aq) (v:aa),Fv d v→V t→bS v<1000000000→gb t<1000000000→4*d+1≤k→d+1≤k'→
  lN k t v=some (xh d t v)∧fc k' t v=some (xh d t v):=by
 intro d
 induction d with
 |zero=>intro k k' t v hs;exact hs.zero.elim
 |succ d ih=>
  intro k k' t v hs ht hv hT hk hk'
  obtain⟨k,rfl⟩:∃q,k=q+4:=⟨k-4,by omega⟩
  obtain⟨k',rfl⟩:∃q,k'=q+1:=⟨k'-1,by omega⟩
  obtain⟨hp,hi⟩:=hs.succ
  have hsz:=fg v
  have hlen:=ec v.items
  have hsT:=eX t
  have hlF:=bM t.fields
  rw[lN,fc]
  simp only[xh,pY]
  by_cases h0:v.kind=0
  ·simp[h0,bB]
  ·by_cases hkk:v.kind=t.kind
   ·have sc:v.kind≠3→v.scale=t.scale:=fun h=>by rw[Cw hp h,ht.scale (by omega)]
    have room:¬(v.kind=7∧t.fields.length≠v.items.length)→Og t v:=by
     intro hn i hi
     by_cases h6:t.kind=6
     ·rw[if_pos h6,ht.list h6];omega
     ·rw[if_neg h6]
      by_cases h7:v.kind=7
      ·have:¬t.fields.length≠v.items.length:=fun hh=>hn ⟨h7,hh⟩
       omega
      ·rw[fL hp (by omega) h7]at hi;simp at hi
    have sub:Og t v→∀i,i<v.items.length→∃f:af,t.fields[if t.kind=6 then 0 else i]? =some f∧f.type=ft t i∧lN k (ft t i) (iv v i)=some (xh d (ft t i) (iv v i))∧fc k' (ft t i) (iv v i)=some (xh d (ft t i) (iv v i)):=by
     intro hf i hi'
     obtain⟨f,f1,f2,f3,_⟩:=G4 (hf i hi')
     have m1:=cE (m9 hi')
     have m2:=bN f1
     have m3:=cc f
     rw[f3]at m3
     obtain⟨a,b⟩:=ih k k' (ft t i) (iv v i) (hi _ (m9 hi')) (by rw[←f3];exact ht.fs f f1) (by omega) (by omega) (by omega) (by omega)
     exact⟨f,f2,f3,a,b⟩
    have ref:Og t v→fo (fc k') t v aO (0:Int)=some (first (fun i=> !xh d (ft t i) (iv v i)) 0 v.items.length).isNone:=by
     intro hf
     have:=mY (f:=fun k i=>fo (fc k') t v k (i:Int)) (n:=v.items.length) (P:=fun i=> !xh d (ft t i) (iv v i)) (A:=fun _=>some false) (B:=some true) (fun kk i hi'=>by
      obtain⟨f,f2,f3,_,f5⟩:=sub hf i hi'
      simp only[fo,bp hi',bA,qk]
      have e:aF (t.kind==(6:Int)) (aK (at? t.fields (0:Int)) fun e1=>aK (at? v.items (i:Int)) fun e2=>aK (fc k' e1.type e2) fun r1=>aF (!r1) (some false) (fo (fc k') t v kk (i64.wrap ((i:Int)+1))))
        (aK (at? t.fields (i:Int)) fun e1=>aK (at? v.items (i:Int)) fun e2=>aK (fc k' e1.type e2) fun r1=>aF (!r1) (some false) (fo (fc k') t v kk (i64.wrap ((i:Int)+1))))=
        (aK (at? t.fields ((if t.kind=6 then 0 else i:Nat):Int)) fun e1=>aK (at? v.items (i:Int)) fun e2=>aK (fc k' e1.type e2) fun r1=>aF (!r1) (some false) (fo (fc k') t v kk (i64.wrap ((i:Int)+1)))):=by
       by_cases h6:t.kind=6<;>simp[h6,bB]
      rw[e,dl f2,b7,bf hi',b7,f3,nt hi',f5,b7,aD hi' (by omega),bB]) (fun kk=>by simp[fo,bB,tD]) aO 0 (Nat.zero_le _) (by rw[ar];omega)
     rw[show((0:Nat):Int)=(0:Int)from rfl]at this
     rw[this]
     cases first (fun i=> !xh d (ft t i) (iv v i)) 0 v.items.length<;>rfl
    have e0:(v.kind==(0:Int))=false:=by simp[h0]
    have e1:(v.kind != t.kind)=false:=by simp[hkk]
    have e2:¬v.kind≠t.kind:=fun h=>h hkk
    simp only[e0,e1,e2,aZ,h0,if_false]
    by_cases h3:v.kind=3
    ·have hni:v.items=[]:=fL hp (by omega) (by omega)
     refine⟨by simp[h3,bB],?_⟩
     have hr:=ref (fun i hi=>by rw[hni]at hi;simp at hi)
     rw[hni]at hr
     simp only[List.length_nil,oa,Option.isNone_none]at hr
     simp only[h3,if_true,mO]
     by_cases hsc:v.scale=t.scale
     ·have:t.kind≠7:=by omega
      simp[hsc,bB,hr,this]
     ·simp[hsc,bB]
    ·have hsc:=sc h3
     have e3:(v.kind==(3:Int))=false:=by simp[h3]
     have e4:(v.scale != t.scale)=false:=by simp[hsc]
     simp only[e3,e4,aZ,h3,if_false]
     by_cases hl:v.kind=7∧t.fields.length≠v.items.length
     ·have e6:(v.kind==(6:Int))=false:=by simp[hl.1]
      have e7:(v.kind==(7:Int))=true:=by simp[hl.1]
      have t7:(t.kind==(7:Int))=true:=by rw[←hkk];exact e7
      have n1:((t.fields.length:Int) != (v.items.length:Int))=true:=by simp;omega
      have n2:((v.items.length:Int) != (t.fields.length:Int))=true:=by simp;omega
      rw[aA]
      simp[e6,e7,t7,n1,n2,hl,bA,aZ,mO,b7]
     ·have hf:=room hl
      have hr:=ref hf
      simp only[hl,if_false]
      refine⟨?_,?_⟩
      ·by_cases h6:v.kind=6
       ·have e6:(v.kind==(6:Int))=true:=by simp[h6]
        have t6:t.kind=6:=by omega
        have:=mY (f:=fun kk i=>aM (jn (k+1)) v.items t.kind t.scale t.fields kk (i:Int)) (n:=v.items.length) (P:=fun i=> !xh d (ft t i) (iv v i)) (A:=fun i=>some (i:Int)) (B:=some (-1)) (fun kk i hi'=>by
         obtain⟨f,f2,f3,f4,_⟩:=sub hf i hi'
         rw[if_pos t6]at f2
         simp only[aM,bp hi',bA,bf hi',b7,jn]
         rw[show(0:Int)=((0:Nat):Int)from rfl,dl f2,b7,f3,nt hi',f4,b7,b7,aD hi' (by omega),bB]) (fun kk=>by simp[aM,bB,cn]) aO 0 (Nat.zero_le _) (by rw[ar];omega)
        rw[show((0:Nat):Int)=(0:Int)from rfl]at this
        rw[e6,bA,ba,bh,this]
        cases first (fun i=> !xh d (ft t i) (iv v i)) 0 v.items.length<;>simp[b7]
       ·have e6:(v.kind==(6:Int))=false:=by simp[h6]
        by_cases h7:v.kind=7
        ·have e7:(v.kind==(7:Int))=true:=by simp[h7]
         have hlen':t.fields.length=v.items.length:=by
          by_cases hh:t.fields.length=v.items.length
          ·exact hh
          ·exact absurd ⟨h7,hh⟩ hl
         have n1:((t.fields.length:Int) != (v.items.length:Int))=false:=by simp;omega
         have:=mY (f:=fun kk i=>au (lr (k+2)) t.fields v.items kk (i:Int)) (n:=v.items.length) (P:=fun i=> !xh d (ft t i) (iv v i)) (A:=fun _=>some false) (B:=some true) (fun kk i hi'=>by
          obtain⟨f,f2,f3,_,_⟩:=sub hf i hi'
          obtain⟨f',f1',f2',f3',_⟩:=G4 (hf i hi')
          have m1:=cE (m9 hi')
          have m2:=bN f1'
          have m3:=cc f'
          rw[f3']at m3
          have f4:=(ih (k+1) (d+1) (ft t i) (iv v i) (hi _ (m9 hi')) (by rw[←f3'];exact ht.fs f' f1') (by omega) (by omega) (by omega) (by omega)).1
          rw[if_neg (by omega)]at f2
          have hi2:i<t.fields.length:=by omega
          simp only[au,bp hi2,bA,dl f2,b7,lr]
          rw[bf hi',b7,f3,nt hi',f4,b7,b7,aD hi' (by omega),bB]) (fun kk=>by simp[au,bB,bm,hlen']) aO 0 (Nat.zero_le _) (by rw[ar];omega)
         rw[show((0:Nat):Int)=(0:Int)from rfl]at this
         rw[e6,e7,aZ,bA,aA,n1,aZ,this]
         cases first (fun i=> !xh d (ft t i) (iv v i)) 0 v.items.length<;>rfl
        ·have e7:(v.kind==(7:Int))=false:=by simp[h7]
         rw[e6,e7,aZ,aZ,fL hp h6 h7]
         simp[oa]
      ·have n2:v.kind=7→((v.items.length:Int) != (t.fields.length:Int))=false:=by
        intro h7
        have:¬t.fields.length≠v.items.length:=fun hh=>hl ⟨h7,hh⟩
        simp;omega
       simp only[mO]
       by_cases h7:v.kind=7
       ·have t7:(t.kind==(7:Int))=true:=by simp[←hkk,h7]
        rw[t7,bA,n2 h7,aZ];exact hr
       ·have t7:(t.kind==(7:Int))=false:=by simp[←hkk,h7]
        rw[t7,aZ,aZ];exact hr
   ·have e0:(v.kind==(0:Int))=false:=by simp[h0]
    have e1:(v.kind != t.kind)=true:=by simp[hkk]
    simp[e0,e1,h0,hkk,bA,aZ]
def kM:Nat→aq→aa→Bool
 |0,_,_=>false
 |d+1,t,v=>(first (fun i=>((iv v i).kind==0&&nd t i)||kM d (ft t i) (iv v i)) 0 v.items.length).isSome
theorem Fl:∀(d k k':Nat) (t:aq) (v:aa),Fv d v→V t→xh d t v=true→bS v<1000000000→gb t<1000000000→d+1≤k→d+1≤k'→
  fO k t v=some (kM d t v)∧cX k' t v=some (kM d t v):=by
 intro d
 induction d with
 |zero=>intro k k' t v hs;exact hs.zero.elim
 |succ d ih=>
  intro k k' t v hs ht ho hv hT hk hk'
  obtain⟨k,rfl⟩:∃q,k=q+1:=⟨k-1,by omega⟩
  obtain⟨k',rfl⟩:∃q,k'=q+1:=⟨k'-1,by omega⟩
  obtain⟨hp,hi⟩:=hs.succ
  obtain⟨hf,hof⟩:=DL hs ht ho
  have hsz:=fg v
  have hlen:=ec v.items
  have hsT:=eX t
  have sub:∀i,i<v.items.length→∃f:af,t.fields[if t.kind=6 then 0 else i]? =some f∧f.type=ft t i∧f.need=nd t i∧fO k (ft t i) (iv v i)=some (kM d (ft t i) (iv v i))∧cX k' (ft t i) (iv v i)=some (kM d (ft t i) (iv v i)):=by
   intro i hi'
   obtain⟨f,f1,f2,f3,f4⟩:=G4 (hf i hi')
   have m1:=cE (m9 hi')
   have m2:=bN f1
   have m3:=cc f
   rw[f3]at m3
   obtain⟨a,b⟩:=ih k k' (ft t i) (iv v i) (hi _ (m9 hi')) (by rw[←f3];exact ht.fs f f1) (hof i hi') (by omega) (by omega) (by omega) (by omega)
   exact⟨f,f2,f3,f4,a,b⟩
  rw[fO,cX]
  simp only[kM]
  refine⟨?_,?_⟩
  ·have:=mY (f:=fun kk i=>ew (fO k) t v kk (i:Int)) (n:=v.items.length) (P:=fun i=>((iv v i).kind==0&&nd t i)||kM d (ft t i) (iv v i)) (A:=fun _=>some true) (B:=some false) (fun kk i hi'=>by
    obtain⟨f,f2,f3,f4,f5,_⟩:=sub i hi'
    have e:o8 t (i:Int)=some f:=by
     unfold o8 mj
     by_cases h6:t.kind=6
     ·rw[if_pos h6]at f2
      rw[show(0:Int)=((0:Nat):Int)from rfl,dl f2]
      simp[h6,bB,b7]
     ·rw[if_neg h6]at f2
      rw[dl f2]
      simp[h6,bB,b7]
    simp only[ew,bp hi',bA,bf hi',b7,e,j4,f3,f4,nt hi',f5,aD hi' (show v.items.length<1000000000 by omega)]
    cases(iv v i).kind==0<;>cases nd t i<;>cases kM d (ft t i) (iv v i)<;>rfl) (fun kk=>by simp[ew,bB,og]) aO 0 (Nat.zero_le _) (by rw[ar];omega)
   rw[show((0:Nat):Int)=(0:Int)from rfl]at this
   rw[this]
   cases first (fun i=>((iv v i).kind==0&&nd t i)||kM d (ft t i) (iv v i)) 0 v.items.length<;>rfl
  ·have:=mY (f:=fun kk i=>da (cX k') t v kk (i:Int)) (n:=v.items.length) (P:=fun i=>((iv v i).kind==0&&nd t i)||kM d (ft t i) (iv v i)) (A:=fun _=>some true) (B:=some false) (fun kk i hi'=>by
    obtain⟨f,f2,f3,f4,_,f5⟩:=sub i hi'
    have e:∀j:Int,at? t.fields j=some f→jt (da (cX k') t v kk) (cX k') t v (i:Int) j=if(((iv v i).kind==0&&nd t i)||kM d (ft t i) (iv v i))=true then some true else da (cX k') t v kk ((i+1:Nat):Int):=by
     intro j hj
     simp only[jt,jq,hj,b7,bf hi',f3,f4,nt hi',f5,aD hi' (show v.items.length<1000000000 by omega)]
     cases(iv v i).kind==0<;>cases nd t i<;>cases kM d (ft t i) (iv v i)<;>rfl
    simp only[da,bp hi',bA]
    by_cases h6:t.kind=6
    ·rw[if_pos h6]at f2
     have e6:(t.kind==(6:Int))=true:=by simp[h6]
     rw[e6,bA]
     exact e 0 (dl f2)
    ·rw[if_neg h6]at f2
     have e6:(t.kind==(6:Int))=false:=by simp[h6]
     rw[e6,aZ]
     exact e i (dl f2)) (fun kk=>by simp[da,bB,nJ]) aO 0 (Nat.zero_le _) (by rw[ar];omega)
   rw[show((0:Nat):Int)=(0:Int)from rfl]at this
   rw[this]
   cases first (fun i=>((iv v i).kind==0&&nd t i)||kM d (ft t i) (iv v i)) 0 v.items.length<;>rfl
theorem BN(t:aq)(v:aa)(hv:bS v<1000000000)(hT:gb t<1000000000):∃e,j3 t v=some e∧oG t v=some e:=by
 obtain⟨e,h1,h2,h3⟩:=ma t hT
 unfold j3 oG
 rw[h1,h2,Ew v hv,Mw v hv]
 simp only[b7]
 by_cases he:e=0
 ·subst he
  have ht:=h3 rfl
  cases hs:qZ v with
  |false=>exact⟨1,rfl,rfl⟩
  |true=>
   have hS:Fv 4 v:=⟨0,hs⟩
   obtain⟨a,b⟩:=Lt 4 aO aO t v hS ht hv hT (by rw[ar];omega) (by rw[ar];omega)
   rw[a,b]
   cases ho:xh 4 t v with
   |false=>exact⟨2,rfl,rfl⟩
   |true=>
    obtain⟨c,d⟩:=Fl 4 aO aO t v hS ht ho hv hT (by rw[ar];omega) (by rw[ar];omega)
    rw[c,d]
    cases kM 4 t v with
    |false=>exact⟨0,rfl,rfl⟩
    |true=>exact⟨9,rfl,rfl⟩
 ·have:(e != (0:Int))=true:=by simp[he]
  rw[this]
  exact⟨e,rfl,rfl⟩
theorem tc:ByteArray.empty.size=0:=rfl
end Go.Proofs.YtnecojeemmnnaaaGreatDoor
namespace Go.Proofs.YtnecojeemmnnaaaGreatDoor
open Go Go.SX Go.SX.Cal
open Go.IntKind (i64)
theorem qe{l:List af}{i:Nat}(h:i<l.length):br (l.drop i)=lx l[i]+br (l.drop (i+1)):=by
 rw[List.drop_eq_getElem_cons h];simp only[br]
theorem Cy:aO=1152921504606846975+1:=rfl
mutual
def Ic:aq→List Int
 |⟨_,_,fs⟩=>ja fs
def ja:List (jU aq)→List Int
 |[]=>[]
 |f::l=>xW f++ja l
def xW:jU aq→List Int
 |⟨i,_,_,t⟩=>i::Ic t
end
theorem JU:∀t:aq,Ic t=ja t.fields
 |⟨_,_,_⟩=>by simp only[Ic]
theorem pL:∀f:af,xW f=f.id::ja f.type.fields
 |⟨_,_,_,t⟩=>by simp only[xW,JU]
theorem xr{l:List af}{i:Nat}(h:i<l.length):ja (l.drop i)=xW l[i]++ja (l.drop (i+1)):=by
 rw[List.drop_eq_getElem_cons h];simp only[ja]
mutual
theorem Iy:∀t:aq,(Ic t).length≤gb t
 |⟨_,_,fs⟩=>by simp only[Ic,gb];have:=sA fs;omega
theorem sA:∀l:List (jU aq),(ja l).length≤br l
 |[]=>by simp[ja]
 |f::l=>by
  simp only[ja,br,List.length_append]
  have:=F3 f
  have:=sA l
  omega
theorem F3:∀f:jU aq,(xW f).length≤lx f
 |⟨i,n,q,t⟩=>by
  simp only[xW,lx,List.length_cons]
  have:=Iy t
  omega
end
theorem Me:∀(N k:Nat) (fs:List af),br fs≤N→N<k→br fs<1000000000→kJ k fs=some (ja fs):=by
 intro N
 induction N with
 |zero=>
  intro k fs h hk _
  obtain⟨k,rfl⟩:∃x,k=x+1:=⟨k-1,by omega⟩
  have hl:=bM fs
  have:fs=[]:=List.eq_nil_of_length_eq_zero (by omega)
  subst this
  rw[kJ,Cy,jQ]
  rfl
 |succ N ih=>
  intro k fs hN hk hs
  obtain⟨k,rfl⟩:∃x,k=x+1:=⟨k-1,by omega⟩
  have hl:=bM fs
  rw[kJ]
  have loop:∀(kk i:Nat) (acc:List Int),i≤fs.length→fs.length-i<kk→acc.length+br (fs.drop i)≤br fs→jQ (kJ k) fs kk acc (i:Int)=some (acc++ja (fs.drop i)):=by
   intro kk
   induction kk with
   |zero=>intro i acc _ h;omega
   |succ kk ihk=>
    intro i acc hi hk2 hacc
    rw[jQ]
    by_cases h:i=fs.length
    ·subst h
     simp only[Int.lt_irrefl,decide_false,aZ,rD,List.drop_length,ja,List.append_nil]
    ·have h1:i<fs.length:=by omega
     have m1:=bN (kf h1)
     have m2:=cc fs[i]
     have m3:=eX fs[i].type
     have m4:=qe h1
     have m5:=sA fs[i].type.fields
     rw[bp h1,bA,bf h1,cK,rU (by omega),ih k _ (by omega) (by omega) (by omega),cK,rU (by simp;omega),aD h1 (by omega)]
     rw[ihk (i+1) _ (by omega) (by omega) (by simp;omega),xr h1,pL]
     simp
  have:=loop aO 0 [] (Nat.zero_le _) (by rw[ar];omega) (by simp)
  simpa using this
def By(x:Int)(m:List (Int×Int)):Int×List (Int×Int):=
 if x<1 then(3,m)else
  let y:=i64.wrap ((iC (mD .i64) m x).getD 0+1)
  if 1<(iC (mD .i64) (iy (mD .i64) m x y) x).getD 0 then(5,iy (mD .i64) m x y)else(0,iy (mD .i64) m x y)
def scan:List Int→List (Int×Int)→Int×List (Int×Int)
 |[],m=>(0,m)
 |x::l,m=>if(By x m).1≠0 then By x m else scan l (By x m).2
theorem C0:∀(a b:List Int) (m:List (Int×Int)),scan (a++b) m=if(scan a m).1≠0 then scan a m else scan b (scan a m).2
 |[],b,m=>by simp[scan]
 |x::a,b,m=>by
  simp only[List.cons_append,scan]
  by_cases h:(By x m).1=0
  ·simp only[h,ne_eq,not_true,if_false]
   exact C0 a b _
  ·simp[h]
theorem D8(f:af)(m:List (Int×Int)):iH f m=some (By f.id m):=by
 unfold iH By
 simp only[cK,bB,decide_eq_true_eq]
 split
 ·rfl
 ·split<;>rfl
theorem FE:∀(N k:Nat) (fs:List af) (m:List (Int×Int)),br fs≤N→N<k→br fs<1000000000→aS k fs m=some (scan (ja fs) m):=by
 intro N
 induction N with
 |zero=>
  intro k fs m h hk _
  obtain⟨k,rfl⟩:∃x,k=x+1:=⟨k-1,by omega⟩
  have hl:=bM fs
  have:fs=[]:=List.eq_nil_of_length_eq_zero (by omega)
  subst this
  rw[aS,Cy,bw]
  rfl
 |succ N ih=>
  intro k fs m hN hk hs
  obtain⟨k,rfl⟩:∃x,k=x+1:=⟨k-1,by omega⟩
  have hl:=bM fs
  rw[aS]
  have loop:∀(kk i:Nat) (m:List (Int×Int)),i≤fs.length→fs.length-i<kk→bw (aS k) fs kk m (i:Int)=some (scan (ja (fs.drop i)) m):=by
   intro kk
   induction kk with
   |zero=>intro i m _ h;omega
   |succ kk ihk=>
    intro i m hi hk2
    rw[bw]
    by_cases h:i=fs.length
    ·subst h
     simp only[Int.lt_irrefl,decide_false,aZ,ej,List.drop_length,ja,scan]
    ·have h1:i<fs.length:=by omega
     have m1:=bN (kf h1)
     have m2:=cc fs[i]
     have m3:=eX fs[i].type
     rw[bp h1,bA,bf h1,cK,D8,cK,aD h1 (by omega),xr h1,pL,List.cons_append,scan,ih k _ _ (by omega) (by omega) (by omega)]
     simp only[cK,bB]
     by_cases h0:(By fs[i].id m).1=0
     ·simp only[h0,bne_self_eq_false,Bool.false_eq_true,if_false,ne_eq,not_true,C0]
      by_cases h2:(scan (ja fs[i].type.fields) (By fs[i].id m).2).1=0
      ·simp only[h2,bne_self_eq_false,Bool.false_eq_true,if_false,not_true]
       exact ihk (i+1) _ (by omega) (by omega)
      ·simp[h2]
     ·simp[h0]
  have:=loop aO 0 m (Nat.zero_le _) (by rw[ar];omega)
  simpa using this
abbrev KI:HC Int:=mD .i64
theorem pk:∀(m:List (Int×Int)) (k v:Int),iC KI (iy KI m k v) k=some v
 |[],k,v=>by simp[iy,iC,mD]
 |(k',v')::l,k,v=>by
  by_cases h:k=k'
  ·simp[iy,iC,mD,h]
  ·have hb:(k==k')=false:=by simpa using h
   have:=pk l k v
   simp only[iy,iC,mD,hb,Bool.false_eq_true,if_false]at this⊢
   exact this
theorem rc:∀(m:List (Int×Int)) (k v x:Int),x≠k→iC KI (iy KI m k v) x=iC KI m x
 |[],k,v,x,hx=>by simp[iy,iC,mD,hx]
 |(k',v')::l,k,v,x,hx=>by
  by_cases h:k=k'
  ·subst h
   simp[iy,iC,mD,hx]
  ·have hb:(k==k')=false:=by simpa using h
   have:=rc l k v x hx
   simp only[iy,iC,mD,hb,Bool.false_eq_true,if_false]at this⊢
   rw[this]
def N3(m:List (Int×Int))(seen:List Int):Prop:=∀x,(iC KI m x).getD 0=if x∈seen then 1 else 0
theorem Iu{m:List (Int×Int)}{seen:List Int}(h:N3 m seen)(x:Int):(By x m).1=(if x<1 then 3 else if x∈seen then 5 else 0)∧((By x m).1=0→N3 (By x m).2 (seen++[x])):=by
 unfold By
 have hx:=h x
 by_cases h1:x<1
 ·simp[h1]
 ·simp only[h1,if_false]
  have e:(iC (mD .i64) m x).getD 0=if x∈seen then 1 else 0:=hx
  rw[e]
  by_cases h2:x∈seen
  ·simp only[h2,if_true]
   rw[show i64.wrap (1+1)=2 from jC (by omega) (by omega)]
   have:=pk m x 2
   simp only[KI]at this
   simp[this]
  ·simp only[h2,if_false]
   rw[show i64.wrap (0+1)=1 from jC (by omega) (by omega)]
   have h3:=pk m x 1
   simp only[KI]at h3
   simp only[h3,Option.getD_some,Int.lt_irrefl,if_false,true_and]
   intro _ y
   by_cases hy:y=x
   ·subst hy
    simp[KI,h3]
   ·have h4:=rc m x 1 y hy
    simp only[KI]at h4
    have h5:=h y
    simp only[KI]at h5⊢
    rw[h4,h5]
    simp[hy]
theorem Gi(ids:List Int)(hl:ids.length<1000000000)(rec1:Int→Option Int){i:Nat}(hi:i<ids.length):cp rec1 ids (i:Int) ids[i] aO (0:Int)=if ids[i]∈ids.take i then some 5 else rec1 ((i+1:Nat):Int):=by
 have hs:=mY (f:=fun k j=>cp rec1 ids (i:Int) ids[i] k (j:Int)) (n:=i) (P:=fun j=>ids[j]? ==some ids[i]) (A:=fun j=>some 5) (B:=rec1 ((i+1:Nat):Int)) (fun k j hj=>by
   have hjf:j<ids.length:=by omega
   show cp rec1 ids (i:Int) ids[i] (k+1) (j:Int)=_
   rw[cp,bp hj,bA,bf hjf,aD hj (by omega)]
   simp only[cK,bB,gu hjf,Option.some_beq_some])
  (fun k=>by
   show cp rec1 ids (i:Int) ids[i] (k+1) (i:Int)=_
   rw[cp];simp only[Int.lt_irrefl,decide_false,aZ,ky];rw[aD hi hl]) aO 0 (Nat.zero_le _) (by rw[ar];omega)
 have hs:cp rec1 ids (i:Int) ids[i] aO (0:Int)=_:=hs
 rw[hs]
 cases hf:first (fun j=>ids[j]? ==some ids[i]) 0 i with
 |none=>
  rw[om]at hf
  have:ids[i]∉ids.take i:=by
   intro hm
   obtain⟨j,hj,he⟩:=List.getElem_of_mem hm
   have hj':j<i:=by simp at hj;omega
   have:=hf j (Nat.zero_le _) hj'
   rw[List.getElem_take]at he
   simp[gu (show j<ids.length by omega),he]at this
  simp[this]
 |some j=>
  have:ids[i]∈ids.take i:=by
   unfold first at hf
   have h1:=List.find?_some hf
   have h2:=List.mem_of_find?_eq_some hf
   rw[List.mem_range'_1]at h2
   have hjl:j<ids.length:=by omega
   simp only[gu hjl,Option.some_beq_some,beq_iff_eq]at h1
   rw[←h1]
   exact List.mem_iff_getElem.2 ⟨j,by simp;omega,by simp⟩
  simp[this]
theorem BR(ids:List Int)(hl:ids.length<1000000000):∀(kk i:Nat) (m:List (Int×Int)),i≤ids.length→ids.length-i<kk→N3 m (ids.take i)→cZ ids kk (i:Int)=some (scan (ids.drop i) m).1:=by
 intro kk
 induction kk with
 |zero=>intro i m _ h;omega
 |succ kk ih=>
  intro i m hi hk hm
  rw[cZ]
  by_cases h:i=ids.length
  ·subst h
   simp only[Int.lt_irrefl,decide_false,aZ,List.drop_length,scan]
   rfl
  ·have h1:i<ids.length:=by omega
   rw[bp h1,bA,bf h1,cK,Gi ids hl _ h1,List.drop_eq_getElem_cons h1,scan]
   obtain⟨g1,g2⟩:=Iu hm ids[i]
   rw[g1]at g2⊢
   simp only[bB,decide_eq_true_eq]
   by_cases h2:ids[i]<1
   ·simp[h2,g1]
   ·by_cases h3:ids[i]∈ids.take i
    ·simp[h2,h3,g1]
    ·simp only[h2,h3,if_false,ne_eq,not_true]
     simp only[h2,h3,if_false]at g2
     refine ih (i+1) _ (by omega) (by omega) ?_
     have:=g2 trivial
     rwa [List.take_append_getElem h1]at this
theorem zD(fs:List af)(hs:br fs<1000000000-1):∃e,dL fs=some e∧gM fs=some e:=by
 obtain⟨e,h1,h2,h3⟩:=ma ⟨7,0,fs⟩ (by simp only[gb];omega)
 unfold dL gM
 rw[h1,h2]
 simp only[cK,bB]
 by_cases he:e=0
 ·have w:=FE 1000000000 aO fs [] (by omega) (by rw[ar];omega) (by omega)
  have i:=Me 1000000000 aO fs (by omega) (by rw[ar];omega) (by omega)
  have hl:=sA fs
  have l:=BR (ja fs) (by omega) aO 0 [] (Nat.zero_le _) (by rw[ar];omega) (fun x=>by simp[iC])
  have l:cZ (ja fs) aO (0:Int)=_:=l
  refine⟨(scan (ja fs) []).1,?_,?_⟩
  ·simp[he,w,cK]
  ·simp[he,i,cK,l]
 ·exact⟨e,by simp[he],by simp[he]⟩
theorem aj{α β:Type}(a:α)(f:α→Option β):aK (some a) f=f a:=rfl
theorem aQ{β:Type}(x y:Option β):aF true x y=x:=rfl
theorem ay{β:Type}(x y:Option β):aF false x y=y:=rfl
theorem aB{β:Type}{p:Prop}[Decidable p]{x:Option β}(h:p):eh p x=x:=if_pos h
theorem aX{m f:Nat}(h:m<f):∃q,f=q+1:=⟨f-1,by omega⟩
theorem cw{i n:Nat}(h:¬i<n):decide ((i:Int)<(n:Int))=false:=by simp;omega
theorem cO{α:Type}{l:List α}{i:Nat}(hi:i<l.length):l.drop i=l[i]::l.drop (i+1):=List.drop_eq_getElem_cons hi
noncomputable def ck(t:aq)(v:aa):Int:=(j3 t v).getD 0
theorem Nu{t:aq}{v:aa}(hv:bS v<1000000000)(hT:gb t<1000000000):j3 t v=some (ck t v):=by
 obtain⟨e,h1,_⟩:=BN t v hv hT
 unfold ck;rw[h1];rfl
theorem OZ{t:aq}{v:aa}(hv:bS v<1000000000)(hT:gb t<1000000000):oG t v=some (ck t v):=by
 obtain⟨e,h1,h2⟩:=BN t v hv hT
 unfold ck;rw[h1,h2];rfl
noncomputable def oN:List af→List aa→Int
 |f::fs,v::vs=>if ck f.type v≠0 then ck f.type v else if f.need=true∧v.kind=0 then 9 else oN fs vs
 |_,_=>0
theorem Cg{f:af}{fs:List af}{v:aa}{vs:List aa}(h:ck f.type v≠0):oN (f::fs) (v::vs)=ck f.type v:=by simp only[oN];rw[if_pos h]
theorem Ac{f:af}{fs:List af}{v:aa}{vs:List aa}(h:ck f.type v=0)(h2:f.need=true∧v.kind=0):oN (f::fs) (v::vs)=9:=by simp only[oN];rw[if_neg (fun k=>k h),if_pos h2]
theorem xf{f:af}{fs:List af}{v:aa}{vs:List aa}(h:ck f.type v=0)(h2:¬(f.need=true∧v.kind=0)):oN (f::fs) (v::vs)=oN fs vs:=by simp only[oN];rw[if_neg (fun k=>k h),if_neg h2]
theorem Fj{fs:List af}(h:br fs<1000000000){i:Nat}(hi:i<fs.length):gb fs[i].type<1000000000:=by
 have:=bN (kf hi)
 have:=cc fs[i]
 omega
theorem C7{r:List aa}(h:ca r<1000000000){i:Nat}(hi:i<r.length):bS r[i]<1000000000:=by
 have:=cE (kf hi)
 omega
theorem Na{fs:List af}{r:List aa}(hf:br fs<1000000000)(hr:ca r<1000000000)(hl:r.length=fs.length)(rec1:Int→Option Int)(x1:Int):∀(m f i:Nat),i+m=fs.length→m<f→
  cY rec1 fs x1 r f (i:Int)=if oN (fs.drop i) (r.drop i)≠0 then some (oN (fs.drop i) (r.drop i))else iG rec1 x1:=by
 have hfl:=bM fs
 intro m
 induction m with
 |zero=>
  intro f i hi hf'
  obtain⟨f,rfl⟩:=aX hf'
  rw[cY,cw (by omega),ay,List.drop_of_length_le (l:=fs) (by omega)]
  simp[oN]
 |succ m ih=>
  intro f i hi hf'
  obtain⟨f,rfl⟩:=aX hf'
  have h1:i<fs.length:=by omega
  have h2:i<r.length:=by omega
  rw[cY,bp h1,aQ,bf h1,aj,bf h2,aj,Nu (C7 hr h2) (Fj hf h1),aj,cO h1,cO h2]
  unfold iF
  by_cases he:ck fs[i].type r[i]=0
  ·by_cases hk:r[i].kind=0
   ·cases hn:fs[i].need with
    |true=>rw[Ac he ⟨hn,hk⟩,he,show((0:Int) != 0)=false from rfl,ay,show(r[i].kind==0)=true by simp[hk],aQ,aQ,if_pos (by decide)]
    |false=>rw[xf he (by simp[hn]),he,show((0:Int) != 0)=false from rfl,ay,show(r[i].kind==0)=true by simp[hk],aQ,ay,aD h1 (by omega),ih f (i+1) (by omega) (by omega)]
   ·rw[xf he (fun h=>hk h.2),he,show((0:Int) != 0)=false from rfl,ay,show(r[i].kind==0)=false by simp[hk],ay,ay,aD h1 (by omega),ih f (i+1) (by omega) (by omega)]
  ·rw[Cg he,show(ck fs[i].type r[i] != 0)=true by simp[he],aQ,if_pos he]
theorem Nx{fs:List af}{r:List aa}(hf:br fs<1000000000)(hr:ca r<1000000000)(hl:r.length=fs.length):∀(m f i:Nat),i+m=fs.length→m<f→
  ed fs r f (i:Int)=some (oN (fs.drop i) (r.drop i)):=by
 have hfl:=bM fs
 intro m
 induction m with
 |zero=>
  intro f i hi hf'
  obtain⟨f,rfl⟩:=aX hf'
  rw[ed,cw (by omega),ay,List.drop_of_length_le (l:=fs) (by omega)]
  simp[oN,nc]
 |succ m ih=>
  intro f i hi hf'
  obtain⟨f,rfl⟩:=aX hf'
  have h1:i<fs.length:=by omega
  have h2:i<r.length:=by omega
  rw[ed,bp h1,aQ,bf h1,aj,bf h2,aj,OZ (C7 hr h2) (Fj hf h1),aj,cO h1,cO h2]
  unfold kg
  by_cases he:ck fs[i].type r[i]=0
  ·cases hn:fs[i].need with
   |true=>
    by_cases hk:r[i].kind=0
    ·rw[Ac he ⟨hn,hk⟩,he,show((0:Int) != 0)=false from rfl,ay,aQ,show(r[i].kind==0)=true by simp[hk],aQ]
    ·rw[xf he (fun h=>hk h.2),he,show((0:Int) != 0)=false from rfl,ay,aQ,show(r[i].kind==0)=false by simp[hk],ay,aD h1 (by omega),ih f (i+1) (by omega) (by omega)]
   |false=>rw[xf he (by simp[hn]),he,show((0:Int) != 0)=false from rfl,ay,ay,ay,aD h1 (by omega),ih f (i+1) (by omega) (by omega)]
  ·rw[Cg he,show(ck fs[i].type r[i] != 0)=true by simp[he],aQ]
noncomputable def q8(fs:List af):List (List aa)→Int
 |r::rs=>if r.length≠fs.length then 1 else if oN fs r≠0 then oN fs r else q8 fs rs
 |[]=>0
theorem LC{fs:List af}{rows:List (List aa)}(hf:br fs<1000000000)(hr:∀r∈rows,ca r<1000000000)(hl:rows.length<1000000000):∀(m f i:Nat),i+m=rows.length→m<f→
  co fs rows f (i:Int)=some (q8 fs (rows.drop i)):=by
 intro m
 induction m with
 |zero=>
  intro f i hi hf'
  obtain⟨f,rfl⟩:=aX hf'
  rw[co,cw (by omega),ay,List.drop_of_length_le (by omega)];rfl
 |succ m ih=>
  intro f i hi hf'
  obtain⟨f,rfl⟩:=aX hf'
  have h1:i<rows.length:=by omega
  rw[co,bp h1,aQ,bf h1,aj,cO h1]
  simp only[q8]
  by_cases hle:rows[i].length=fs.length
  ·have hc:=Na hf (hr _ (kf h1)) hle (co fs rows f) (i:Int) fs.length aO 0 (by omega) (by have:=bM fs;rw[ar];omega)
   rw[show((0:Nat):Int)=0 from rfl,List.drop_zero,List.drop_zero]at hc
   rw[show(((rows[i].length:Nat):Int) != (fs.length:Int))=false by simp[hle],ay,hc,if_neg (show¬rows[i].length≠fs.length from fun h=>h hle)]
   unfold iG
   by_cases h0:oN fs rows[i]=0
   ·rw[if_neg (fun h=>h h0),if_neg (fun h=>h h0),aD h1 hl,ih f (i+1) (by omega) (by omega)]
   ·rw[if_pos h0,if_pos h0]
  ·rw[show(((rows[i].length:Nat):Int) != (fs.length:Int))=true by simp;omega,aQ,if_pos hle]
theorem LI{fs:List af}{rows:List (List aa)}(hf:br fs<1000000000)(hr:∀r∈rows,ca r<1000000000)(hl:rows.length<1000000000):∀(m f i:Nat),i+m=rows.length→m<f→
  eV fs rows f (i:Int)=some (q8 fs (rows.drop i)):=by
 intro m
 induction m with
 |zero=>
  intro f i hi hf'
  obtain⟨f,rfl⟩:=aX hf'
  rw[eV,cw (by omega),ay,List.drop_of_length_le (by omega)];rfl
 |succ m ih=>
  intro f i hi hf'
  obtain⟨f,rfl⟩:=aX hf'
  have h1:i<rows.length:=by omega
  rw[eV,bp h1,aQ,bf h1,aj,cO h1]
  simp only[q8]
  unfold pr
  by_cases hle:rows[i].length=fs.length
  ·have hc:=Nx hf (hr _ (kf h1)) hle fs.length aO 0 (by omega) (by have:=bM fs;rw[ar];omega)
   rw[show((0:Nat):Int)=0 from rfl,List.drop_zero,List.drop_zero]at hc
   rw[show(((rows[i].length:Nat):Int) != (fs.length:Int))=false by simp[hle],ay,hc,aj,if_neg (fun h=>h hle)]
   by_cases h0:oN fs rows[i]=0
   ·rw[h0,show((0:Int) != 0)=false from rfl,ay,if_neg (fun h=>h rfl),aD h1 hl,ih f (i+1) (by omega) (by omega)]
   ·rw[show(oN fs rows[i] != 0)=true by simp[h0],aQ,if_pos h0]
  ·rw[show(((rows[i].length:Nat):Int) != (fs.length:Int))=true by simp;omega,aQ,aj,if_pos hle];rfl
def sc(fs:List af):Int:=(dL fs).getD 0
theorem Ej{fs:List af}(h:br fs<1000000000-1):dL fs=some (sc fs):=by
 obtain⟨e,h1,_⟩:=zD fs h
 unfold sc;rw[h1];rfl
theorem HF{fs:List af}(h:br fs<1000000000-1):gM fs=some (sc fs):=by
 obtain⟨e,h1,h2⟩:=zD fs h
 unfold sc;rw[h1,h2];rfl
noncomputable def GV(fs:List af)(rows:List (List aa)):Int:=if sc fs≠0 then sc fs else if 2000<rows.length then 7 else q8 fs rows
theorem wg{fs:List af}{rows:List (List aa)}(hf:br fs<1000000000-1)(hr:∀r∈rows,ca r<1000000000)(hl:rows.length<1000000000):iU fs rows=some (GV fs rows):=by
 unfold iU GV
 rw[Ej hf,aj]
 by_cases h:sc fs=0
 ·rw[h,show((0:Int) != 0)=false from rfl,ay,if_neg (fun h=>h rfl)]
  by_cases h2:2000<rows.length
  ·rw[decide_eq_true (by omega),aQ,if_pos h2]
  ·have hc:=LC (fs:=fs) (by omega) hr hl rows.length aO 0 (by omega) (by rw[ar];omega)
   rw[show((0:Nat):Int)=0 from rfl,List.drop_zero]at hc
   rw[decide_eq_false (by omega),ay,hc,if_neg h2]
 ·rw[show(sc fs != 0)=true by simp[h],aQ,if_pos h]
theorem wz{fs:List af}{rows:List (List aa)}(hf:br fs<1000000000-1)(hr:∀r∈rows,ca r<1000000000)(hl:rows.length<1000000000):mg fs rows=some (GV fs rows):=by
 unfold mg GV
 rw[HF hf,aj]
 by_cases h:sc fs=0
 ·rw[h,show((0:Int) != 0)=false from rfl,ay,if_neg (fun h=>h rfl)]
  by_cases h2:2000<rows.length
  ·rw[decide_eq_true (by omega),aQ,if_pos h2]
  ·have hc:=LI (fs:=fs) (by omega) hr hl rows.length aO 0 (by omega) (by rw[ar];omega)
   rw[show((0:Nat):Int)=0 from rfl,List.drop_zero]at hc
   rw[decide_eq_false (by omega),ay,hc,if_neg h2]
 ·rw[show(sc fs != 0)=true by simp[h],aQ,if_pos h]
theorem Bd:∀{fs:List af} {r:List aa},oN fs r=0→∀(i:Nat) f v,fs[i]? =some f→r[i]? =some v→ck f.type v=0∧¬(f.need=true∧v.kind=0)
 |[],_,_,i,f,v,h1,_=>by simp at h1
 |_::_,[],_,i,f,v,_,h2=>by simp at h2
 |g::fs,x::r,h,i,f,v,h1,h2=>by
  simp only[oN]at h
  by_cases ha:ck g.type x=0
  ·rw[if_neg (fun h=>h ha)]at h
   by_cases hb:g.need=true∧x.kind=0
   ·rw[if_pos hb]at h;cases h
   ·rw[if_neg hb]at h
    cases i with
    |zero=>simp at h1 h2;subst h1;subst h2;exact⟨ha,hb⟩
    |succ i=>exact Bd h i f v (by simpa using h1) (by simpa using h2)
  ·rw[if_pos ha]at h;exact absurd h ha
theorem yC{fs:List af}:∀{rows:List (List aa)},q8 fs rows=0→∀r∈rows,r.length=fs.length∧oN fs r=0
 |[],_,r,h=>by cases h
 |x::rows,h,r,hr=>by
  simp only[q8]at h
  by_cases ha:x.length=fs.length
  ·rw[if_neg (fun h=>h ha)]at h
   by_cases hb:oN fs x=0
   ·rw[if_neg (fun h=>h hb)]at h
    rcases List.mem_cons.1 hr with rfl|hr
    ·exact⟨ha,hb⟩
    ·exact yC h r hr
   ·rw[if_pos hb]at h;exact absurd h hb
  ·rw[if_pos ha]at h;cases h
def ln(f:af):Bool:=decide (f.type.kind≠6∧f.type.kind≠7)
abbrev iz:=List (af×Nat)
def dE(rec1:List af→List iz):List af→Nat→List iz
 |[],_=>[]
 |f::fs,i=>(if ln f=true then[[(f,i)]]else(rec1 f.type.fields).map ((f,i)::·))++dE rec1 fs (i+1)
def WY:Nat→List af→List iz
 |0,_=>[]
 |N+1,fs=>dE (WY N) fs 0
theorem Ek(f:af)(fs:List af):br (f::fs)=lx f+br fs:=by simp only[br]
theorem iu(f:af):br f.type.fields+2≤lx f:=by
 have:=cc f
 have:=eX f.type
 omega
theorem Fb{rec1:List af→List iz}:∀{fs:List af} {i:Nat},(∀f∈fs,(rec1 f.type.fields).length≤br f.type.fields)→(dE rec1 fs i).length≤br fs
 |[],i,_=>by simp[dE]
 |f::fs,i,h=>by
  have h1:=Fb (rec1:=rec1) (fs:=fs) (i:=i+1) (fun g hg=>h g (List.mem_cons_of_mem _ hg))
  have h2:=h f (List.mem_cons_self ..)
  have h3:=iu f
  rw[Ek]
  simp only[dE,List.length_append]
  split
  ·simp;omega
  ·rw[List.length_map];omega
theorem yp:∀(N:Nat) (fs:List af),(WY N fs).length≤br fs
 |0,fs=>by simp[WY]
 |N+1,fs=>Fb (fun f _=>yp N f.type.fields)
theorem FH{rec1:List af→List iz}:∀{fs:List af} {i:Nat} {w:iz},w∈dE rec1 fs i→∃f j u,fs[j]? =some f∧w=(f,i+j)::u∧((ln f=true∧u=[])∨(ln f=false∧u∈rec1 f.type.fields))
 |[],i,w,h=>by cases h
 |f::fs,i,w,h=>by
  simp only[dE,List.mem_append]at h
  rcases h with h|h
  ·cases hl:ln f with
   |true=>
    rw[hl,if_pos rfl]at h
    exact⟨f,0,[],rfl,by simpa using h,.inl ⟨hl,rfl⟩⟩
   |false=>
    rw[hl,if_neg (by simp)]at h
    obtain⟨u,hu,rfl⟩:=List.mem_map.1 h
    exact⟨f,0,u,rfl,rfl,.inr ⟨hl,hu⟩⟩
  ·obtain⟨g,j,u,h1,h2,h3⟩:=FH h
   refine⟨g,j+1,u,by simpa using h1,by rw[h2,show i+1+j=i+(j+1) by omega],?_⟩
   rcases h3 with⟨a,b⟩ |⟨a,b⟩
   ·exact .inl ⟨a,b⟩
   ·exact .inr ⟨a,b⟩
theorem vu{P:List af→iz→Prop}(hl:∀(fs:List af) f (j:Nat),fs[j]? =some f→ln f=true→P fs [(f,j)])(hc:∀(fs:List af) f (j:Nat) u,fs[j]? =some f→ln f=false→P f.type.fields u→P fs ((f,j)::u)):
  ∀(N:Nat) (fs:List af) (w:iz),w∈WY N fs→P fs w
 |0,fs,w,h=>by cases h
 |N+1,fs,w,h=>by
  obtain⟨f,j,u,h1,h2,h3⟩:=FH h
  rw[Nat.zero_add]at h2
  rcases h3 with⟨a,rfl⟩ |⟨a,b⟩
  ·rw[h2];exact hl fs f j h1 a
  ·rw[h2];exact hc fs f j u h1 a (vu hl hc N _ u b)
theorem Ba{N:Nat}{fs:List af}{w:iz}(h:w∈WY N fs):1≤w.length∧w.length≤br fs:=by
 refine vu (P:=fun fs w=>1≤w.length∧w.length≤br fs) (fun fs f j hj hl=> ?_) (fun fs f j u hj hl hu=> ?_) N fs w h
 ·have h1:=bN (List.mem_of_getElem? hj)
  have h2:=iu f
  simp;omega
 ·have h1:=bN (List.mem_of_getElem? hj)
  have h2:=iu f
  simp only[List.length_cons];omega
theorem LZ(f:af):jB f.type.kind=some (ln f):=Lc f.type.kind
theorem Kw(rec1:List (List af)→Int→Option (List (List af)))(x1:Int)(e:af)(r2:List (List af))(hr:r2.length≤1000000000)(hw:∀w∈r2,w.length≤1000000000):∀(m f i:Nat) (l:List (List af)),i+m=r2.length→m<f→l.length+m≤2000000000→
  jd rec1 x1 e r2 f l (i:Int)=rec1 (l++(r2.drop i).map (e::·)) (i64.wrap (x1+1)):=by
 intro m
 induction m with
 |zero=>
  intro f i l hi hf hl
  obtain⟨f,rfl⟩:=aX hf
  rw[jd,cw (by omega),ay,List.drop_of_length_le (by omega)]
  simp[lP]
 |succ m ih=>
  intro f i l hi hf hl
  obtain⟨f,rfl⟩:=aX hf
  have h1:i<r2.length:=by omega
  have h2:=hw _ (kf h1)
  rw[jd,bp h1,aQ,bf h1,aj,aB (by simp only[List.length_singleton];omega),aB (by omega),jC (x:=(i:Int)+1) (by omega) (by omega),show(i:Int)+1=((i+1:Nat):Int) by omega,ih f (i+1) _ (by omega) (by omega) (by simp;omega),cO h1]
  simp only[List.map_cons,List.append_assoc,List.singleton_append]
theorem Bf:∀(N k:Nat) (fs:List af),br fs<N→N≤k→br fs≤100000000→dB k fs=some ((WY N fs).map (List.map Prod.fst))
 |0,k,fs,h,_,_=>by omega
 |N+1,k,fs,h,hk,hs=>by
  obtain⟨k,rfl⟩:=aX (m:=N) (f:=k) (by omega)
  have hlen:=bM fs
  have key:∀(m f i:Nat) (l:List (List af)),i+m=fs.length→m<f→l.length+br (fs.drop i)≤1000000000→
    eW (dB k) fs f l (i:Int)=some (l++(dE (WY N) (fs.drop i) i).map (List.map Prod.fst)):=by
   intro m
   induction m with
   |zero=>
    intro f i l hi hf hl
    obtain⟨f,rfl⟩:=aX hf
    rw[eW,cw (by omega),ay,List.drop_of_length_le (by omega)]
    simp[qD,dE]
   |succ m ih=>
    intro f i l hi hf hl
    obtain⟨f,rfl⟩:=aX hf
    have h1:i<fs.length:=by omega
    have hsz:=qe h1
    have hfd:=iu fs[i]
    have hmem:=bN (kf h1)
    rw[eW,bp h1,aQ,bf h1,aj,LZ,aj,cO h1]
    simp only[dE]
    cases hlf:ln fs[i]with
    |true=>
     unfold lP
     rw[aQ,aB (by omega),aD h1 (by omega),ih f (i+1) _ (by omega) (by omega) (by simp;omega),if_pos rfl]
     simp
    |false=>
     have hw:=Bf N k fs[i].type.fields (by omega) (by omega) (by omega)
     have hwl:=yp N fs[i].type.fields
     rw[ay,hw,aj,if_neg (by simp)]
     have h2:=Kw (eW (dB k) fs f) (i:Int) fs[i] ((WY N fs[i].type.fields).map (List.map Prod.fst)) (by rw[List.length_map];omega) (fun w hw=>by
      obtain⟨u,hu,rfl⟩:=List.mem_map.1 hw
      have:=Ba hu
      rw[List.length_map];omega) ((WY N fs[i].type.fields).map (List.map Prod.fst)).length aO 0 l (by omega) (by rw[List.length_map,ar];omega) (by rw[List.length_map];omega)
     rw[show((0:Nat):Int)=0 from rfl,List.drop_zero]at h2
     rw[h2,aD h1 (by omega),ih f (i+1) _ (by omega) (by omega) (by simp;omega)]
     simp[List.map_append,Function.comp_def]
  have:=key fs.length aO 0 [] (by omega) (by rw[ar];omega) (by simp;omega)
  rw[dB]
  rw[show((0:Nat):Int)=0 from rfl,List.drop_zero,List.nil_append]at this
  exact this
def nz(p:bk)(f:af)(i:Nat):bk:=
 ⟨⟨p.leaf.path++[f.id],if ln f=true then f.type else p.leaf.type,p.leaf.df+(if f.need=true then 0 else 1)+(if f.type.kind=6 then 1 else 0),p.leaf.rep+(if f.type.kind=6 then 1 else 0)⟩,p.fields++[f],p.pos++[(i:Int)]⟩
def sW:bk→iz→bk
 |p,[]=>p
 |p,(f,i)::w=>sW (nz p f i) w
structure xQ(p:bk)(n:Nat):Prop where
 a:p.fields.length+n≤1000000000
 b:p.pos.length+n≤1000000000
 c:p.leaf.path.length+n≤1000000000
 d:0≤p.leaf.df∧p.leaf.df+2*n≤1000000000
 e:0≤p.leaf.rep∧p.leaf.rep+n≤1000000000
theorem xQ.step{p:bk}{n:Nat}(h:xQ p (n+1))(f:af)(i:Nat):xQ (nz p f i) n:=by
 have:=h.d
 have:=h.e
 refine⟨by simp[nz];have:=h.a;omega,by simp[nz];have:=h.b;omega,by simp[nz];have:=h.c;omega,?_,?_⟩
 ·simp only[nz];split<;>split<;>omega
 ·simp only[nz];split<;>omega
theorem xQ.le{p:bk}{n m:Nat}(h:xQ p n)(hm:m≤n):xQ p m:=
 ⟨by have:=h.a;omega,by have:=h.b;omega,by have:=h.c;omega,by have:=h.d;omega,by have:=h.e;omega⟩
theorem xk:∀(N k:Nat) (fs:List af) (p:bk) (l:List bk),br fs<N→N≤k→xQ p (br fs+1)→l.length+br fs≤2000000000→cN k fs p l=some ((),l++(WY N fs).map (sW p))
 |0,k,fs,p,l,h,_,_,_=>by omega
 |N+1,k,fs,p,l,h,hk,hp,hl=>by
  obtain⟨k,rfl⟩:=aX (m:=N) (f:=k) (by omega)
  have hlen:=bM fs
  have hpa:=hp.a;have hpb:=hp.b;have hpc:=hp.c;have hpd:=hp.d;have hpe:=hp.e
  have key:∀(m f i:Nat) (l:List bk),i+m=fs.length→m<f→l.length+br (fs.drop i)≤2000000000→
    cz (cN k) fs p f l (i:Int)=some ((),l++(dE (WY N) (fs.drop i) i).map (sW p)):=by
   intro m
   induction m with
   |zero=>
    intro f i l hi hf hl
    obtain⟨f,rfl⟩:=aX hf
    rw[cz,cw (by omega),ay,List.drop_of_length_le (by omega)]
    simp[dE]
   |succ m ih=>
    intro f i l hi hf hl
    obtain⟨f,rfl⟩:=aX hf
    have h1:i<fs.length:=by omega
    have hsz:=qe h1
    have hfd:=iu fs[i]
    have hmem:=bN (kf h1)
    have hw1:i64.wrap (p.leaf.df+1)=p.leaf.df+1:=jC (by omega) (by omega)
    have hw2:i64.wrap (p.leaf.rep+1)=p.leaf.rep+1:=jC (by omega) (by omega)
    rw[cz,bp h1,aQ,bf h1,aj]
    unfold dx ff
    rw[aj,aB (by omega),aj,aB (by omega),aj,aB (by omega),hw1,cO h1]
    simp only[dE]
    have j1:∀z:Int,z=p.leaf.df+(if fs[i].need=true then 0 else 1)→
      fZ (cN k) (cz (cN k) fs p f) p l (i:Int) fs[i] p.fields p.pos p.leaf.path z=
       some ((),l++(((if ln fs[i]=true then[[(fs[i],i)]]else(WY N fs[i].type.fields).map ((fs[i],i)::·))++dE (WY N) (fs.drop (i+1)) (i+1)).map (sW p))):=by
     intro z hz
     have hz2:i64.wrap (z+1)=z+1:=by
      rw[hz];split<;>rw[jC (by omega) (by omega)]
     have hroom:=(hp.le (m:=br fs[i].type.fields+1+1) (by omega)).step fs[i] i
     have hwl:=yp N fs[i].type.fields
     unfold fZ ga
     by_cases h6:fs[i].type.kind=6
     ·have hlf:ln fs[i]=false:=by unfold ln;simp[h6]
      have hq:=xk N k fs[i].type.fields (nz p fs[i] i) l (by omega) (by omega) hroom (by omega)
      have he:(bk.mk (jI.mk (p.leaf.path++[fs[i].id]) p.leaf.type (z+1) (p.leaf.rep+1)) (p.fields++[fs[i]]) (p.pos++[(i:Int)]))=nz p fs[i] i:=by
       unfold nz;rw[hlf,hz];simp[h6]
      rw[show(fs[i].type.kind==6)=true by simp[h6],aQ,hz2,hw2,he,hq,aj,aD h1 (by omega)]
      simp only
      rw[ih f (i+1) _ (by omega) (by omega) (by simp;omega),hlf,if_neg (by simp)]
      simp[List.map_append,Function.comp_def,sW]
     ·rw[show(fs[i].type.kind==6)=false by simp[h6],ay]
      by_cases h7:fs[i].type.kind=7
      ·have hlf:ln fs[i]=false:=by unfold ln;simp[h7]
       have hq:=xk N k fs[i].type.fields (nz p fs[i] i) l (by omega) (by omega) hroom (by omega)
       have he:(bk.mk (jI.mk (p.leaf.path++[fs[i].id]) p.leaf.type z p.leaf.rep) (p.fields++[fs[i]]) (p.pos++[(i:Int)]))=nz p fs[i] i:=by
        unfold nz;rw[hlf,hz];simp[h7]
       rw[show(fs[i].type.kind==7)=true by simp[h7],aQ,he,hq,aj,aD h1 (by omega)]
       simp only
       rw[ih f (i+1) _ (by omega) (by omega) (by simp;omega),hlf,if_neg (by simp)]
       simp[List.map_append,Function.comp_def,sW]
      ·have hlf:ln fs[i]=true:=by unfold ln;simp[h6,h7]
       have he:(bk.mk (jI.mk (p.leaf.path++[fs[i].id]) fs[i].type z p.leaf.rep) (p.fields++[fs[i]]) (p.pos++[(i:Int)]))=nz p fs[i] i:=by
        unfold nz;rw[hlf,hz];simp[h6]
       rw[show(fs[i].type.kind==7)=false by simp[h7],ay,aB (by omega),he,aD h1 (by omega),ih f (i+1) _ (by omega) (by omega) (by simp;omega),hlf,if_pos rfl]
       simp[List.map_append,sW]
    cases hn:fs[i].need with
    |true=>rw[Bool.not_true,ay];exact j1 _ (by rw[hn];simp)
    |false=>rw[Bool.not_false,aQ];exact j1 _ (by rw[hn];simp)
  have:=key fs.length aO 0 l (by omega) (by rw[ar];omega) (by simp;omega)
  rw[cN]
  rw[show((0:Nat):Int)=0 from rfl,List.drop_zero]at this
  exact this
def p0:bk:=⟨⟨[],⟨0,0,[]⟩,0,0⟩,[],[]⟩
theorem xa{fs:List af}(hs:br fs≤100000000):jl fs=some ((WY (br fs+1) fs).map (sW p0)):=by
 have:=xk (br fs+1) aO fs p0 [] (by omega) (by rw[ar];omega) ⟨by simp[p0];omega,by simp[p0];omega,by simp[p0];omega,by simp[p0];omega,by simp[p0];omega⟩ (by simp;omega)
 unfold jl
 rw[List.nil_append]at this
 unfold p0 at this
 rw[this];rfl
theorem A7{fs:List af}(hs:br fs≤100000000):dB aO fs=some ((WY (br fs+1) fs).map (List.map Prod.fst)):=
 Bf (br fs+1) aO fs (by omega) (by rw[ar];omega) hs
def EL:iz→Prop
 |[]=>False
 |[(f,i)]=>ln f=true
 |(f,i)::x::w=>ln f=false∧EL (x::w)
theorem EC{N:Nat}{fs:List af}{w:iz}(h:w∈WY N fs):EL w:=by
 refine vu (P:=fun fs w=>EL w) (fun fs f j hj hl=>hl) (fun fs f j u hj hl hu=> ?_) N fs w h
 cases u with
 |nil=>exact hu.elim
 |cons x u=>exact⟨hl,hu⟩
def l0:jI:=⟨[],⟨0,0,[]⟩,0,0⟩
theorem BU(p:List Int):gp p=some p:=by
 unfold gp
 rw[aB (by omega)]
 simp
def WS(fs:List af):List iz:=WY (br fs+1) fs
theorem Jf(fs:List af):(WS fs).length≤br fs:=yp _ _
abbrev jo:=Int×Int×Option aa
def qQ(g:aa→Int→List jo)(q:Int):List aa→Int→List jo
 |[],_=>[]
 |e::es,r=>g e r++qQ g q es q
def lE:iz→Nat
 |[]=>0
 |(_,i)::_=>i
def dn(f:af)(d:Int):Int:=if f.need=true then d else d+1
def gd:iz→aa→Int→Int→Int→List jo
 |[]=>fun _ _ _ _=>[]
 |(f,i)::u=>fun v r d q=>
  if f.need=false∧v.kind=0 then[(r,d,none)]
  else if f.type.kind=6 then(if v.items.length=0 then[(r,dn f d,none)]else qQ (fun e r=>gd u e r (dn f d+1) (q+1)) (q+1) v.items r)
  else if f.type.kind=7 then gd u (iv v (lE u)) r (dn f d) q
  else[(r,dn f d,some v)]
def hY(c:ae)(E:List jo):ae:=⟨c.reps++E.map (·.1),c.defs++E.map (·.2.1),c.values++E.filterMap (·.2.2)⟩
theorem wY(c:ae):hY c []=c:=by simp[hY]
theorem xb(c:ae)(E F:List jo):hY (hY c E) F=hY c (E++F):=by simp[hY]
def tM:iz→aa→Prop
 |[]=>fun _=>True
 |(f,i)::u=>fun v=>(f.need=false∧v.kind=0)∨(f.type.kind=6∧∀e∈v.items,tM u e)∨(f.type.kind=7∧lE u<v.items.length∧tM u (iv v (lE u)))∨(f.type.kind≠6∧f.type.kind≠7)
structure CR(c:ae)(n:Nat):Prop where
 a:c.reps.length+n≤4000000000
 b:c.defs.length+n≤4000000000
 c:c.values.length+n≤4000000000
theorem CR.le{c:ae}{n m:Nat}(h:CR c n)(hm:m≤n):CR c m:=⟨by have:=h.a;omega,by have:=h.b;omega,by have:=h.c;omega⟩
theorem CR.app{c:ae}{n:Nat}{E:List jo}(h:CR c (E.length+n)):CR (hY c E) n:=by
 have h1:=h.a;have h2:=h.b;have h3:=h.c
 have h4:=List.length_filterMap_le (fun x:jo=>x.2.2) E
 refine⟨?_,?_,?_⟩
 ·simp only[hY,List.length_append,List.length_map];omega
 ·simp only[hY,List.length_append,List.length_map];omega
 ·simp only[hY,List.length_append];omega
theorem tu(v:aa)(l:List aa):ca (v::l)=bS v+ca l:=by simp only[ca]
theorem oT:∀(u:iz) (v:aa) (r d q:Int),tM u v→(gd u v r d q).length≤bS v
 |[],v,r,d,q,h=>by simp[gd]
 |(f,i)::u,v,r,d,q,h=>by
  have hp:=pN v
  have he:=fg v
  simp only[gd]
  by_cases h0:f.need=false∧v.kind=0
  ·rw[if_pos h0];simpa using hp
  ·rw[if_neg h0]
   by_cases h6:f.type.kind=6
   ·rw[if_pos h6]
    by_cases hl:v.items.length=0
    ·rw[if_pos hl];simpa using hp
    ·rw[if_neg hl]
     have hs:∀e∈v.items,tM u e:=by
      rcases h with h|h|h|h
      ·exact absurd h h0
      ·exact h.2
      ·have:=h.1;omega
      ·exact absurd h6 h.1
     have key:∀(l:List aa) (r:Int),(∀e∈l,tM u e)→(qQ (fun e r=>gd u e r (dn f d+1) (q+1)) (q+1) l r).length≤ca l:=by
      intro l
      induction l with
      |nil=>intro r _;simp[qQ]
      |cons e l ih=>
       intro r hl
       have h1:=oT u e r (dn f d+1) (q+1) (hl e (List.mem_cons_self ..))
       have h2:=ih (q+1) (fun x hx=>hl x (List.mem_cons_of_mem _ hx))
       rw[tu]
       simp only[qQ,List.length_append]
       omega
     have:=key v.items r hs
     omega
   ·rw[if_neg h6]
    by_cases h7:f.type.kind=7
    ·rw[if_pos h7]
     rcases h with h|h|h|h
     ·exact absurd h h0
     ·exact absurd h.1 h6
     ·have h1:=oT u (iv v (lE u)) r (dn f d) q h.2.2
      have h2:=cE (m9 h.2.1)
      omega
     ·exact absurd h7 h.2
    ·rw[if_neg h7];simpa using hp
theorem xK{r d:Int}{P:bk}{c:ae}(h:CR c 1):dI r d ⟨P,c⟩=some ((),⟨P,hY c [(r,d,none)]⟩):=by
 have h1:=h.a;have h2:=h.b
 unfold dI
 rw[aB (by show c.reps.length+1≤_;omega),aB (by show c.defs.length+1≤_;omega)]
 simp[hY]
structure vj(P:bk)(k:Nat)(u:iz):Prop where
 a:P.fields.drop k=u.map Prod.fst
 b:P.pos.drop k=u.map fun x=>(x.2:Int)
theorem vj.fld{P:bk}{k:Nat}{f:af}{i:Nat}{u:iz}(h:vj P k ((f,i)::u)):at? P.fields (k:Int)=some f:=by
 apply dl
 have:=congrArg (fun l:List af=>l[0]?) h.a
 simpa using this
theorem vj.ps{P:bk}{k:Nat}{f:af}{i:Nat}{u:iz}(h:vj P k ((f,i)::u)):at? P.pos (k:Int)=some (i:Int):=by
 apply dl
 have:=congrArg (fun l:List Int=>l[0]?) h.b
 simpa using this
theorem vj.tl{P:bk}{k:Nat}{x:af×Nat}{u:iz}(h:vj P k (x::u)):vj P (k+1) u:=by
 constructor
 ·have:=congrArg List.tail h.a
  simpa [List.tail_drop]using this
 ·have:=congrArg List.tail h.b
  simpa [List.tail_drop]using this
theorem Iq:∀(u:iz) (k fu:Nat) (P:bk) (v:aa) (r d q:Int) (c:ae),vj P k u→u.length≤fu→EL u→tM u v→k+u.length≤100000000→
  0≤d→d+2*u.length≤1000000000→0≤q→q+u.length≤1000000000→CR c (bS v)→bS v<1000000000→
  aW fu v (k:Int) r d q ⟨P,c⟩=some ((),⟨P,hY c (gd u v r d q)⟩)
 |[],k,fu,P,v,r,d,q,c,ha,hfu,hel,hs,hk,hd0,hd1,hq0,hq1,hc,hv=>hel.elim
 |(f,i)::u,k,fu,P,v,r,d,q,c,ha,hfu,hel,hs,hk,hd0,hd1,hq0,hq1,hc,hv=>by
  rw[List.length_cons]at hfu hk hd1 hq1
  obtain⟨fu,rfl⟩:=aX (m:=u.length) (f:=fu) (by omega)
  have hp:=pN v
  have he:=fg v
  have hk1:i64.wrap ((k:Int)+1)=((k+1:Nat):Int):=by rw[jC (by omega) (by omega)];omega
  have hq2:i64.wrap (q+1)=q+1:=jC (by omega) (by omega)
  have j1:∀x1:Int,x1=dn f d→¬(f.need=false∧v.kind=0)→
    dZ (aW fu) v (k:Int) r q ⟨P,c⟩ f x1=some ((),⟨P,hY c (gd ((f,i)::u) v r d q)⟩):=by
   intro x1 hx1 h0
   have hx0:0≤x1∧x1≤d+1:=by rw[hx1];unfold dn;split<;>omega
   have hx2:i64.wrap (x1+1)=x1+1:=jC (by omega) (by omega)
   unfold dZ
   simp only[gd]
   rw[if_neg h0]
   by_cases h6:f.type.kind=6
   ·rw[show(f.type.kind==6)=true by simp[h6],aQ,if_pos h6]
    by_cases hl:v.items.length=0
    ·rw[show((v.items.length:Int)==0)=true by simp[hl],aQ,if_pos hl,xK (hc.le hp),aj,←hx1]
    ·rw[show((v.items.length:Int)==0)=false by simp;intro h;rw[h]at hl;exact hl rfl,ay,if_neg hl,←hx1]
     have hsi:∀e∈v.items,tM u e:=by
      rcases hs with h|h|h|h
      ·exact absurd h h0
      ·exact h.2
      ·have:=h.1;omega
      ·exact absurd h6 h.1
     have hel':EL u:=by
      cases u with
      |nil=>unfold EL ln at hel;simp[h6]at hel
      |cons y u=>exact hel.2
     have hlen:=ec v.items
     have loop:∀(m f' i':Nat) (c:ae) (r':Int),i'+m=v.items.length→m<f'→CR c (ca (v.items.drop i'))→
       bI (aW fu) v (k:Int) q x1 f' c.reps c.defs c.values P.leaf.path P.leaf.type.kind P.leaf.type.scale P.leaf.type.fields P.leaf.df P.leaf.rep P.fields P.pos r' (i':Int)=
        some ((),⟨P,hY c (qQ (fun e r=>gd u e r (x1+1) (q+1)) (q+1) (v.items.drop i') (if i'=0 then r' else q+1))⟩):=by
      intro m
      induction m with
      |zero=>
       intro f' i' c r' hi hf hc
       obtain⟨f',rfl⟩:=aX hf
       rw[bI,cw (by omega),ay,List.drop_of_length_le (by omega),IU]
       simp only[qQ,wY]
      |succ m ih=>
       intro f' i' c r' hi hf hc
       obtain⟨f',rfl⟩:=aX hf
       have h1:i'<v.items.length:=by omega
       have hm:=kf h1
       have hsz:=cE hm
       have hd:=cO h1
       have hcc:ca (v.items.drop i')=bS v.items[i']+ca (v.items.drop (i'+1)):=by rw[hd,tu]
       rw[hcc]at hc
       have j2:∀x4:Int,ef (aW fu) (bI (aW fu) v (k:Int) q x1 f') (k:Int) q x1 c.reps c.defs c.values P.leaf.path P.leaf.type.kind P.leaf.type.scale P.leaf.type.fields P.leaf.df P.leaf.rep P.fields P.pos (i':Int) v.items[i'] x4=
         some ((),⟨P,hY c (qQ (fun e r=>gd u e r (x1+1) (q+1)) (q+1) (v.items.drop i') x4)⟩):=by
        intro x4
        have hrec:=Iq u (k+1) fu P v.items[i'] x4 (x1+1) (q+1) c ha.tl (by omega) hel' (hsi _ hm) (by omega) (by omega) (by omega) (by omega) (by omega) (hc.le (by omega)) (by omega)
        have hlen2:=oT u v.items[i'] x4 (x1+1) (q+1) (hsi _ hm)
        unfold ef
        rw[IU,hk1,hx2,hq2]
        have hrec':aW fu v.items[i'] ((k+1:Nat):Int) x4 (x1+1) (q+1) (bz.mk (bk.mk (jI.mk P.leaf.path P.leaf.type P.leaf.df P.leaf.rep) P.fields P.pos) (ae.mk c.reps c.defs c.values))=_:=hrec
        rw[hrec',aj,aD h1 (by omega)]
        have:=ih f' (i'+1) (hY c (gd u v.items[i'] x4 (x1+1) (q+1))) x4 (by omega) (by omega) (CR.app (hc.le (by omega)))
        rw[if_neg (by omega)]at this
        rw[hd]
        simp only[qQ]
        rw[←xb]
        exact this
       rw[bI,bp h1,aQ,bf h1,aj,hq2]
       by_cases hz:i'=0
       ·rw[decide_eq_false (by omega),ay,if_pos hz];exact j2 r'
       ·rw[decide_eq_true (by omega),aQ,if_neg hz];exact j2 (q+1)
     have:=loop v.items.length aO 0 c r (by omega) (by rw[ar];omega) (by rw[List.drop_zero];exact hc.le (by omega))
     rw[show((0:Nat):Int)=0 from rfl,List.drop_zero,if_pos rfl]at this
     exact this
   ·rw[show(f.type.kind==6)=false by simp[h6],ay,if_neg h6]
    by_cases h7:f.type.kind=7
    ·rw[show(f.type.kind==7)=true by simp[h7],aQ,if_pos h7]
     have hsi:lE u<v.items.length∧tM u (iv v (lE u)):=by
      rcases hs with h|h|h|h
      ·exact absurd h h0
      ·exact absurd h.1 h6
      ·exact h.2
      ·exact absurd h7 h.2
     cases u with
     |nil=>unfold EL ln at hel;simp[h7]at hel
     |cons y u=>
      obtain⟨g,j⟩:=y
      have hj:j<v.items.length:=hsi.1
      have h2:=cE (m9 hj)
      have hrec:=Iq ((g,j)::u) (k+1) fu P (iv v j) r x1 q c ha.tl (by omega) hel.2 hsi.2 (by omega) (by omega) (by omega) (by omega) (by omega) (hc.le (by omega)) (by omega)
      rw[hk1,ha.tl.ps,aj,bf hj,aj,nt hj,hrec,aj,←hx1]
      rfl
    ·rw[show(f.type.kind==7)=false by simp[h7],ay,if_neg h7,xK (hc.le hp),aj,←hx1]
     have h3:=hc.c
     have hv':(hY c [(r,x1,none)]).values=c.values:=by simp[hY]
     simp only[hv']
     rw[aB (by omega),bf (by simp),aj]
     simp[hY]
  rw[aW,ha.fld,aj]
  have pS:i64.wrap (d+1)=d+1:=jC (by omega) (by omega)
  cases hn:f.need with
  |true=>
   rw[Bool.not_true,ay]
   exact j1 d (by unfold dn;rw[if_pos hn]) (by simp[hn])
  |false=>
   rw[Bool.not_false,aQ,pS]
   by_cases hk0:v.kind=0
   ·rw[show(v.kind==0)=true by simp[hk0],aQ,xK (hc.le hp),aj]
    simp only[gd]
    rw[if_pos ⟨hn,hk0⟩]
   ·rw[show(v.kind==0)=false by simp[hk0],ay]
    exact j1 (d+1) (by unfold dn;simp[hn]) (fun h=>hk0 h.2)
def OE(fs:List af)(g:af)(j:Nat):Prop:=fs[j]? =some g∧∀j' (h:j'<fs.length),fs[j'].id=g.id→j'=j
def Nd:iz→Prop
 |[]=>True
 |(f,i)::u=>(match u with|[]=>True|(g,j)::_=>f.type.kind=7→OE f.type.fields g j∧f.type.fields.length<1000000000)∧Nd u
theorem If:∀(u:iz) (fu:Nat) (v:aa) (r d q:Int) (c:ae),u.length≤fu→EL u→tM u v→Nd u→u.length≤100000000→
  0≤d→d+2*u.length≤1000000000→0≤q→q+u.length≤1000000000→CR c (bS v)→bS v<1000000000→
  bR fu (u.map Prod.fst) v r d q c=some ((),hY c (gd u v r d q))
 |[],fu,v,r,d,q,c,hfu,hel,hs,hnd,hk,hd0,hd1,hq0,hq1,hc,hv=>hel.elim
 |(f,i)::u,fu,v,r,d,q,c,hfu,hel,hs,hnd,hk,hd0,hd1,hq0,hq1,hc,hv=>by
  rw[List.length_cons]at hfu hk hd1 hq1
  obtain⟨fu,rfl⟩:=aX (m:=u.length) (f:=fu) (by omega)
  have hp:=pN v
  have he:=fg v
  have hca:=hc.a;have hcb:=hc.b;have hcc:=hc.c
  have hq2:i64.wrap (q+1)=q+1:=jC (by omega) (by omega)
  have hdr:((((f,i)::u).map Prod.fst).drop (1:Int).toNat)=u.map Prod.fst:=rfl
  have hln:(((f,i)::u).map Prod.fst).length=u.length+1:=by simp
  have j1:∀x1:Int,x1=dn f d→¬(f.need=false∧v.kind=0)→
    ii (bR fu) (((f,i)::u).map Prod.fst) v r q c f x1=some ((),hY c (gd ((f,i)::u) v r d q)):=by
   intro x1 hx1 h0
   have hx0:0≤x1∧x1≤d+1:=by rw[hx1];unfold dn;split<;>omega
   have hx2:i64.wrap (x1+1)=x1+1:=jC (by omega) (by omega)
   unfold ii
   simp only[gd]
   rw[if_neg h0]
   by_cases h6:f.type.kind=6
   ·rw[show(f.type.kind==6)=true by simp[h6],aQ,if_pos h6]
    by_cases hl:v.items.length=0
    ·rw[show((v.items.length:Int)==0)=true by simp[hl],aQ,if_pos hl,aB (by omega),aB (by omega),←hx1]
     simp[hY]
    ·rw[show((v.items.length:Int)==0)=false by simp;intro h;rw[h]at hl;exact hl rfl,ay,if_neg hl,←hx1]
     have hsi:∀e∈v.items,tM u e:=by
      rcases hs with h|h|h|h
      ·exact absurd h h0
      ·exact h.2
      ·have:=h.1;omega
      ·exact absurd h6 h.1
     have hel':EL u:=by
      cases u with
      |nil=>unfold EL ln at hel;simp[h6]at hel
      |cons y u=>exact hel.2
     have hlen:=ec v.items
     have loop:∀(m f' i':Nat) (c:ae),i'+m=v.items.length→m<f'→CR c (ca (v.items.drop i'))→
       du (bR fu) (((f,i)::u).map Prod.fst) v r q x1 f' c.reps c.defs c.values (i':Int)=
        some ((),hY c (qQ (fun e r=>gd u e r (x1+1) (q+1)) (q+1) (v.items.drop i') (if i'=0 then r else q+1))):=by
      intro m
      induction m with
      |zero=>
       intro f' i' c hi hf hc
       obtain⟨f',rfl⟩:=aX hf
       rw[du,cw (by omega),ay,List.drop_of_length_le (by omega)]
       simp only[qQ,wY]
      |succ m ih=>
       intro f' i' c hi hf hc
       obtain⟨f',rfl⟩:=aX hf
       have h1:i'<v.items.length:=by omega
       have hm:=kf h1
       have hsz:=cE hm
       have hd:=cO h1
       have hcc:ca (v.items.drop i')=bS v.items[i']+ca (v.items.drop (i'+1)):=by rw[hd,tu]
       rw[hcc]at hc
       have j2:∀x4:Int,il (du (bR fu) (((f,i)::u).map Prod.fst) v r q x1 f') (bR fu) (((f,i)::u).map Prod.fst) v q x1 c.reps c.defs c.values (i':Int) x4=
         some ((),hY c (qQ (fun e r=>gd u e r (x1+1) (q+1)) (q+1) (v.items.drop i') x4)):=by
        intro x4
        have hrec:=If u fu v.items[i'] x4 (x1+1) (q+1) c (by omega) hel' (hsi _ hm) hnd.2 (by omega) (by omega) (by omega) (by omega) (by omega) (hc.le (by omega)) (by omega)
        have hlen2:=oT u v.items[i'] x4 (x1+1) (q+1) (hsi _ hm)
        unfold il
        rw[aB (by rw[hln];omega),bf h1,aj,hx2,hq2,hdr]
        have hrec':bR fu (u.map Prod.fst) v.items[i'] x4 (x1+1) (q+1) (ae.mk c.reps c.defs c.values)=_:=hrec
        rw[hrec',aj,aD h1 (by omega)]
        have:=ih f' (i'+1) (hY c (gd u v.items[i'] x4 (x1+1) (q+1))) (by omega) (by omega) (CR.app (hc.le (by omega)))
        rw[if_neg (by omega)]at this
        rw[hd]
        simp only[qQ]
        rw[←xb]
        exact this
       rw[du,bp h1,aQ,hq2]
       by_cases hz:i'=0
       ·rw[decide_eq_false (by omega),ay,if_pos hz];exact j2 r
       ·rw[decide_eq_true (by omega),aQ,if_neg hz];exact j2 (q+1)
     have:=loop v.items.length aO 0 c (by omega) (by rw[ar];omega) (by rw[List.drop_zero];exact hc.le (by omega))
     rw[show((0:Nat):Int)=0 from rfl,List.drop_zero,if_pos rfl]at this
     exact this
   ·rw[show(f.type.kind==6)=false by simp[h6],ay,if_neg h6]
    by_cases h7:f.type.kind=7
    ·rw[show(f.type.kind==7)=true by simp[h7],aQ,if_pos h7]
     have hsi:lE u<v.items.length∧tM u (iv v (lE u)):=by
      rcases hs with h|h|h|h
      ·exact absurd h h0
      ·exact absurd h.1 h6
      ·exact h.2
      ·exact absurd h7 h.2
     cases u with
     |nil=>unfold EL ln at hel;simp[h7]at hel
     |cons y u=>
      obtain⟨g,j⟩:=y
      have hj:j<v.items.length:=hsi.1
      have h2:=cE (m9 hj)
      obtain⟨⟨ha1,ha2⟩,hfl⟩:=hnd.1 h7
      have hjl:j<f.type.fields.length:=by
       rcases Nat.lt_or_ge j f.type.fields.length with h|h
       ·exact h
       ·rw[List.getElem?_eq_none h]at ha1;cases ha1
      have hg:f.type.fields[j]=g:=by rw[gu hjl]at ha1;exact Option.some.inj ha1
      have hat:at? (((f,i)::(g,j)::u).map Prod.fst) (1:Int)=some g:=rfl
      have hrec:=If ((g,j)::u) fu (iv v j) r x1 q c (by omega) hel.2 hsi.2 hnd.2 (by omega) (by omega) (by omega) (by omega) (by omega) (hc.le (by omega)) (by omega)
      have loop:∀(m f' i':Nat) (c':ae),i'+m=f.type.fields.length→m<f'→(i'≤j→c'=c)→
        dV (bR fu) (((f,i)::(g,j)::u).map Prod.fst) v r q f x1 f' c'.reps c'.defs c'.values (i':Int)=
         some ((),if i'≤j then hY c (gd ((g,j)::u) (iv v j) r x1 q)else c'):=by
       intro m
       induction m with
       |zero=>
        intro f' i' c' hi hf hcc
        obtain⟨f',rfl⟩:=aX hf
        rw[dV,cw (by omega),ay,if_neg (by omega)]
       |succ m ih=>
        intro f' i' c' hi hf hcc
        obtain⟨f',rfl⟩:=aX hf
        have h1:i'<f.type.fields.length:=by omega
        rw[dV,bp h1,aQ,bf h1,aj,hat,aj]
        unfold ju
        by_cases hij:i'=j
        ·subst hij
         rw[show(f.type.fields[i'].id==g.id)=true by simp[hg],aQ,aB (by rw[hln];omega),bf hj,aj,nt hj,hdr,hcc (eo _)]
         have hrec':bR fu (((g,i')::u).map Prod.fst) (iv v i') r x1 q (ae.mk c.reps c.defs c.values)=_:=hrec
         rw[hrec',aj,aD h1 hfl,if_pos (eo _)]
         have:=ih f' (i'+1) (hY c (gd ((g,i')::u) (iv v i') r x1 q)) (by omega) (by omega) (fun h=>by omega)
         rw[if_neg (by omega)]at this
         exact this
        ·have hne:(f.type.fields[i'].id==g.id)=false:=by
          simp only[beq_eq_false_iff_ne]
          exact fun h=>hij (ha2 i' h1 h)
         rw[hne,ay,aD h1 hfl,ih f' (i'+1) c' (by omega) (by omega) (fun h=>hcc (by omega))]
         by_cases hle:i'≤j
         ·rw[if_pos hle,if_pos (by omega)]
         ·rw[if_neg hle,if_neg (by omega)]
      have:=loop f.type.fields.length aO 0 c (by omega) (by rw[ar];omega) (fun _=>rfl)
      rw[show((0:Nat):Int)=0 from rfl,if_pos (Nat.zero_le _)]at this
      rw[←hx1]
      exact this
    ·rw[show(f.type.kind==7)=false by simp[h7],ay,if_neg h7,aB (by omega),aB (by omega),aB (by omega),←hx1]
     simp[hY]
  have hat0:at? (((f,i)::u).map Prod.fst) (0:Int)=some f:=rfl
  rw[bR,hat0,aj]
  have pS:i64.wrap (d+1)=d+1:=jC (by omega) (by omega)
  cases hn:f.need with
  |true=>
   rw[Bool.not_true,ay]
   exact j1 d (by unfold dn;rw[if_pos hn]) (by simp[hn])
  |false=>
   rw[Bool.not_false,aQ,pS]
   by_cases hk0:v.kind=0
   ·rw[show(v.kind==0)=true by simp[hk0],aQ,aB (by omega),aB (by omega)]
    simp only[gd]
    rw[if_pos ⟨hn,hk0⟩]
    simp[hY]
   ·rw[show(v.kind==0)=false by simp[hk0],ay]
    exact j1 (d+1) (by unfold dn;simp[hn]) (fun h=>hk0 h.2)
theorem tz(a:Int):gi a a=some 0:=by
 unfold gi
 rw[decide_eq_false (by omega),ay,ay]
theorem yD{l:List Int}(hl:l.length≤4000000000):ir l l=some true:=by
 have:∀(m f i:Nat),i+m=l.length→m<f→dD l l f (i:Int)=some true:=by
  intro m
  induction m with
  |zero=>intro f i hi hf;obtain⟨f,rfl⟩:=aX hf;rw[dD,cw (by omega),ay];rfl
  |succ m ih=>
   intro f i hi hf
   obtain⟨f,rfl⟩:=aX hf
   have h1:i<l.length:=by omega
   rw[dD,bp h1,aQ,bf h1,aj,aj,bne_self_eq_false,ay,jC (x:=(i:Int)+1) (by omega) (by omega),show(i:Int)+1=((i+1:Nat):Int) by omega,ih f (i+1) (by omega) (by omega)]
 unfold ir
 rw[bne_self_eq_false,ay]
 exact this l.length aO 0 (by omega) (by rw[ar];omega)
theorem zI{p:Int}:∀(j k:Nat) (l:List Int) (x:Int),x.natAbs<10^j→j≤18→j<k→l.length+j≤1000→∃m,ez p k l x=some (lF.mk (decide (p<(0:Int))) m)∧m.length≤1000
 |0,k,l,x,hx,_,hk,hl=>by
  obtain⟨k,rfl⟩:=aX hk
  have:x=0:=by simp at hx;omega
  subst this
  rw[ez,bne_self_eq_false,ay]
  exact⟨l,rfl,by omega⟩
 |j+1,k,l,x,hx,hj,hk,hl=>by
  obtain⟨k,rfl⟩:=aX hk
  by_cases h0:x=0
  ·subst h0
   rw[ez,bne_self_eq_false,ay]
   exact⟨l,rfl,by omega⟩
  ·have hp:(10:Nat)^(j+1)≤1000000000000000000:=by
    have:=Nat.pow_le_pow_right (n:=10) (by omega) (show j+1≤18 by omega)
    exact Nat.le_trans this (by decide)
   have hd:(x.tdiv 10).natAbs=x.natAbs/10:=by rw[Int.natAbs_tdiv];rfl
   have pS:x.natAbs/10<10^j:=by
    rw[Nat.pow_succ]at hx
    exact Nat.div_lt_of_lt_mul (by rw[Nat.mul_comm];exact hx)
   have hw:i64.wrap (x.tdiv 10)=x.tdiv 10:=jC (by omega) (by omega)
   rw[ez,show(x != 0)=true by simp[h0],aQ]
   unfold mr
   rw[aB (by omega),aB (by omega),hw,]
   have h1:=fun y:Int=>zI (p:=p) j k (l++[y]) (x.tdiv 10) (by omega) (by omega) (by omega) (by simp;omega)
   by_cases hn:x.tmod 10<0
   ·rw[decide_eq_true hn,aQ];exact h1 _
   ·rw[decide_eq_false hn,ay];exact h1 _
theorem Gj{l:List Int}(hl:l.length<1000000000):sq l l=some 0:=by
 have:∀(i f:Nat),i≤l.length→i<f→ji l l f ((i:Int)-1)=some 0:=by
  intro i
  induction i with
  |zero=>intro f hi hf;obtain⟨f,rfl⟩:=aX hf;rw[ji,decide_eq_false (by omega),ay];rfl
  |succ i ih=>
   intro f hi hf
   obtain⟨f,rfl⟩:=aX hf
   have h1:i<l.length:=by omega
   rw[show((i+1:Nat):Int)-1=(i:Int) by omega,ji,decide_eq_true (by omega),aQ,bf h1,aj,aj,bne_self_eq_false,ay,jC (x:=(i:Int)-1) (by omega) (by omega),ih f (by omega) (by omega)]
 unfold sq
 rw[bne_self_eq_false,ay,jC (x:=(l.length:Int)-1) (by omega) (by omega)]
 exact this l.length aO (by omega) (by rw[ar];omega)
theorem ED{r:lF}(hl:r.d.length<1000000000):ki r r=some 0:=by
 unfold ki
 rw[show(r.below==r.below)=true by simp,Bool.not_true,ay,Gj hl,aj]
 cases r.below<;>rfl
theorem C1{v:aa}(hn: -999999999999999999≤v.n∧v.n≤999999999999999999)(hs:0≤v.scale∧v.scale≤12):∃r,nv v=some r∧r.d.length<1000000000:=by
 obtain⟨m,h1,h2⟩:=zI (p:=v.n) 18 aO [] v.n (by omega) (by omega) (by rw[ar];omega) (by simp)
 unfold nv
 have h3:rE v.n=some (lF.mk (decide (v.n<(0:Int))) m):=h1
 rw[h3,aj,jC (x:=12-v.scale) (by omega) (by omega)]
 unfold vv
 by_cases h0:m.length=0
 ·rw[show(((lF.mk (decide (v.n<(0:Int))) m).d.length:Int)==0)=true by simp[h0],aQ,aj]
  exact⟨_,rfl,by show m.length<_;omega⟩
 ·rw[show(((lF.mk (decide (v.n<(0:Int))) m).d.length:Int)==0)=false by simp;intro h;rw[h]at h0;exact h0 rfl,ay,aB (by omega),aB (by rw[List.length_replicate];show _+m.length≤_;omega),aj]
  exact⟨_,rfl,by show(List.replicate _ _++m).length<_;rw[List.length_append,List.length_replicate];omega⟩
theorem BZ{v:aa}(hn: -999999999999999999≤v.n∧v.n≤999999999999999999)(hs:0≤v.scale∧v.scale≤12):np v v=some 0:=by
 obtain⟨r,h1,h2⟩:=C1 hn hs
 unfold np
 rw[Fu,aj,aj,show((decide (0≤v.scale)&&decide (v.scale≤12))==(decide (0≤v.scale)&&decide (v.scale≤12)))=true by simp,Bool.not_true,ay,decide_eq_true hs.1,decide_eq_true hs.2,Bool.and_self,aQ,h1,aj,aj,ED h2,aj,bne_self_eq_false,ay,tz]
 rfl
theorem Dh{s:ByteArray}(hs:s.size<1000000000):tK s s=some 0:=by
 have:∀(m f i:Nat),i+m=s.size→m<f→fI s s f (i:Int)=some 0:=by
  intro m
  induction m with
  |zero=>
   intro f i hi hf
   obtain⟨f,rfl⟩:=aX hf
   rw[fI,cw (by omega),ay]
   unfold kD pq
   rw[ay,tz];rfl
  |succ m ih=>
   intro f i hi hf
   obtain⟨f,rfl⟩:=aX hf
   have h1:i<s.size:=by omega
   rw[fI,bp h1,aQ]
   unfold kD
   rw[aQ,aB (by omega),aB (by omega),aj,bne_self_eq_false,ay,aD h1 hs,ih f (i+1) (by omega) (by omega)]
 exact this s.size aO 0 (by omega) (by rw[ar];omega)
def wy(v:aa):Prop:=gw v=true∧v.kind≠6∧v.kind≠7
theorem qC{v:aa}(h:gw v=true)(hk:v.kind=3):(-999999999999999999≤v.n∧v.n≤999999999999999999)∧(0≤v.scale∧v.scale≤12):=by
 unfold gw at h
 simp[hk]at h
 omega
theorem qa(q:aa→aa→Option Int){v:aa}(hs:v.s.size<1000000000)(hi:v.items.length≤4000000000)(hq:∀x∈v.items,q x x=some 0):js q v v=some 0:=by
 have:∀(m f i:Nat),i+m=v.items.length→m<f→eG q v v f (i:Int)=some 0:=by
  intro m
  induction m with
  |zero=>
   intro f i hi hf
   obtain⟨f,rfl⟩:=aX hf
   rw[eG,cw (by omega),ay]
   unfold jp nG
   rw[ay,tz];rfl
  |succ m ih=>
   intro f i hi hf
   obtain⟨f,rfl⟩:=aX hf
   have h1:i<v.items.length:=by omega
   rw[eG,bp h1,aQ]
   unfold jp
   rw[aQ,bf h1,aj,aj,hq _ (kf h1),aj,bne_self_eq_false,ay,jC (x:=(i:Int)+1) (by omega) (by omega),show(i:Int)+1=((i+1:Nat):Int) by omega,ih f (i+1) (by omega) (by omega)]
 unfold js kY
 rw[bne_self_eq_false,ay,ay,bne_self_eq_false,ay,Dh hs,aj,bne_self_eq_false,ay]
 exact this v.items.length aO 0 (by omega) (by rw[ar];omega)
theorem Bg{v:aa}(h:wy v)(hs:v.s.size<1000000000)(k:Nat):bY (k+1) v v=some 0:=by
 have hi:=fL h.1 h.2.1 h.2.2
 have hj:=qa (bY k) hs (by rw[hi];simp) (by rw[hi];intro x hx;cases hx)
 rw[bY,show((v.kind==0)==(v.kind==0))=true by simp,Bool.not_true,ay,bne_self_eq_false,ay,hj]
 by_cases h0:v.kind=0
 ·rw[show(v.kind==0)=true by simp[h0],aQ]
 ·rw[show(v.kind==0)=false by simp[h0],ay]
  by_cases h3:v.kind=3
  ·obtain⟨a,b⟩:=qC h.1 h3
   rw[show(v.kind==3)=true by simp[h3],aQ,BZ a b,aj,bne_self_eq_false,ay]
  ·rw[show(v.kind==3)=false by simp[h3],ay]
theorem yA{l:List aa}(h:∀v∈l,wy v∧v.s.size<1000000000)(hl:l.length≤4000000000):fx l l=some 0:=by
 unfold fx
 have hb:aO=1152921504606846974+1+1:=rfl
 have hj:=qa (bY (1152921504606846974+1)) (v:=aa.mk (6:Int) (0:Int) (0:Int) ByteArray.empty l) (by show ByteArray.empty.size<_;rw[tc];omega) hl (fun x hx=>Bg (h x hx).1 (h x hx).2 _)
 rw[hb,bY]
 simp only[show((6:Int)==0)=false from rfl,show((6:Int) != 6)=false from rfl,show((6:Int)==3)=false from rfl,BEq.rfl,Bool.not_true,ay]
 rw[hj];rfl
structure EV(c:ae):Prop where
 a:c.reps.length≤4000000000
 b:c.defs.length≤4000000000
 e:c.values.length≤4000000000
 d:∀v∈c.values,wy v∧v.s.size<1000000000
theorem GF{l:List ae}(h:∀c∈l,EV c)(hl:l.length<1000000000):fm l l=some true:=by
 have:∀(m f i:Nat),i+m=l.length→m<f→bv l l f (i:Int)=some true:=by
  intro m
  induction m with
  |zero=>intro f i hi hf;obtain⟨f,rfl⟩:=aX hf;rw[bv,cw (by omega),ay];rfl
  |succ m ih=>
   intro f i hi hf
   obtain⟨f,rfl⟩:=aX hf
   have h1:i<l.length:=by omega
   have hc:=h _ (kf h1)
   unfold bv dG
   rw[bp h1,aQ,bf h1,aj,aj,yD hc.a,aj,Bool.not_true,ay,yD hc.b,aj,Bool.not_true,ay,bne_self_eq_false,ay,yA hc.d hc.e,aj,bne_self_eq_false,ay,aD h1 hl]
   exact ih f (i+1) (by omega) (by omega)
 unfold fm
 rw[bne_self_eq_false,ay]
 exact this l.length aO 0 (by omega) (by rw[ar];omega)
theorem yt:∀(l:List Int) (m:List (Int×Int)) (seen:List Int),N3 m seen→(scan l m).1=0→l.Nodup∧∀x∈l,x∉seen
 |[],_,_,_,_=>⟨List.nodup_nil,by simp⟩
 |x::l,m,seen,h,h0=>by
  obtain⟨h1,h2⟩:=Iu h x
  simp only[scan]at h0
  by_cases he:(By x m).1=0
  ·rw[if_neg (fun k=>k he)]at h0
   obtain⟨h3,h4⟩:=yt l _ _ (h2 he) h0
   have hx:x∉seen:=by
    intro hm
    rw[he,if_pos hm]at h1
    split at h1<;>omega
   refine⟨List.nodup_cons.2 ⟨fun hm=>h4 x hm (by simp),h3⟩,fun y hy=> ?_⟩
   rcases List.mem_cons.1 hy with rfl|hy
   ·exact hx
   ·exact fun hm=>h4 y hy (by simp[hm])
  ·rw[if_pos he]at h0;exact absurd h0 he
def Uq(fs:List af):Prop:=(ja fs).Nodup
theorem rV{fs:List af}(hs:br fs<1000000000-1)(h:sc fs=0):V ⟨7,0,fs⟩∧Uq fs:=by
 obtain⟨e,h1,h2,h3⟩:=ma ⟨7,0,fs⟩ (by simp only[gb];omega)
 have hc:=Ej hs
 rw[h]at hc
 unfold dL at hc
 rw[h1]at hc
 simp only[cK,bB]at hc
 by_cases he:e=0
 ·have w:=FE 1000000000 aO fs [] (by omega) (by rw[ar];omega) (by omega)
  simp[he,w,cK]at hc
  exact⟨h3 he,(yt (ja fs) [] [] (fun x=>by simp[iC]) hc).1⟩
 ·simp[he]at hc
theorem ol(f:af)(fs:List af):ja (f::fs)=xW f++ja fs:=by simp only[ja]
theorem DB:∀{fs:List af} {g:af},g∈fs→g.id∈ja fs
 |[],g,h=>by cases h
 |f::fs,g,h=>by
  rw[ol]
  rcases List.mem_cons.1 h with rfl|h
  ·exact List.mem_append_left _ (by rw[pL];exact List.mem_cons_self ..)
  ·exact List.mem_append_right _ (DB h)
theorem Uq.sub:∀{fs:List af} {f:af},Uq fs→f∈fs→Uq f.type.fields
 |[],f,_,h=>by cases h
 |g::fs,f,hu,h=>by
  unfold Uq at hu
  rw[ol,List.nodup_append]at hu
  rcases List.mem_cons.1 h with rfl|h
  ·have:=hu.1
   rw[pL]at this
   exact(List.nodup_cons.1 this).2
  ·exact Uq.sub (fs:=fs) hu.2.1 h
theorem Uq.inj:∀{fs:List af} {j j':Nat} {g g':af},Uq fs→fs[j]? =some g→fs[j']? =some g'→g'.id=g.id→j'=j
 |[],j,j',g,g',_,h,_,_=>by simp at h
 |f::fs,0,0,g,g',_,_,_,_=>rfl
 |f::fs,0,j'+1,g,g',hu,h,h',he=>by
  unfold Uq at hu
  rw[ol,List.nodup_append]at hu
  simp at h h'
  subst h
  exact absurd he.symm (hu.2.2 _ (by rw[pL];exact List.mem_cons_self ..) _ (DB (List.mem_of_getElem? h')))
 |f::fs,j+1,0,g,g',hu,h,h',he=>by
  unfold Uq at hu
  rw[ol,List.nodup_append]at hu
  simp at h h'
  subst h'
  exact absurd he (hu.2.2 _ (by rw[pL];exact List.mem_cons_self ..) _ (DB (List.mem_of_getElem? h)))
 |f::fs,j+1,j'+1,g,g',hu,h,h',he=>by
  unfold Uq at hu
  rw[ol,List.nodup_append]at hu
  have:=Uq.inj (fs:=fs) (j:=j) (j':=j') hu.2.1 (by simpa using h) (by simpa using h') he
  omega
theorem Uq.at1{fs:List af}{g:af}{j:Nat}(hu:Uq fs)(h:fs[j]? =some g):OE fs g j:=
 ⟨h,fun j' h' he=>hu.inj h (gu h') he⟩
def Hd(fs:List af)(w:iz):Prop:=∃f i u,w=(f,i)::u∧fs[i]? =some f
theorem Ia{N:Nat}{fs:List af}{w:iz}(h:w∈WY N fs):Hd fs w:=
 vu (P:=Hd) (fun fs f j hj hl=>⟨f,j,[],rfl,hj⟩) (fun fs f j u hj hl hu=>⟨f,j,u,rfl,hj⟩) N fs w h
theorem My{N:Nat}{fs:List af}{w:iz}(h:w∈WY N fs)(hu:Uq fs)(hs:br fs<1000000000):Nd w:=by
 have:=vu (P:=fun fs w=>Hd fs w∧(Uq fs→br fs<1000000000→Nd w)) (fun fs f j hj hl=>⟨⟨f,j,[],rfl,hj⟩,fun _ _=>⟨trivial,trivial⟩⟩) (fun fs f j u hj hl hu=>⟨⟨f,j,u,rfl,hj⟩,fun hq hs=>by
  obtain⟨⟨g,j',u',rfl,hg⟩,hn⟩:=hu
  have hf:=List.mem_of_getElem? hj
  have h1:=bN hf
  have h2:=iu f
  have h3:=bM f.type.fields
  exact⟨fun _=>⟨(hq.sub hf).at1 hg,by omega⟩,hn (hq.sub hf) (by omega)⟩⟩) N fs w h
 exact this.2 hu hs
theorem tU{d:Nat}{t:aq}{v:aa}(h:xh (d+1) t v=true):v.kind=0∨v.kind=t.kind:=by
 simp only[xh]at h
 by_cases h0:v.kind=0
 ·exact .inl h0
 ·rw[if_neg h0]at h
  by_cases h1:v.kind=t.kind
  ·exact .inr h1
  ·rw[if_pos h1]at h;cases h
theorem A0{d:Nat}{t:aq}{v:aa}(h:xh (d+1) t v=true)(hk:v.kind=t.kind)(h7:t.kind=7):t.fields.length=v.items.length:=by
 simp only[xh]at h
 rw[if_neg (by omega),if_neg (fun hh=>hh hk),if_neg (by omega)]at h
 by_cases h1:t.fields.length=v.items.length
 ·exact h1
 ·rw[if_pos ⟨by omega,h1⟩]at h;cases h
theorem EF{d:Nat}{t:aq}{v:aa}(h:kM (d+1) t v=false){i:Nat}(hi:i<v.items.length):¬(nd t i=true∧(iv v i).kind=0)∧kM d (ft t i) (iv v i)=false:=by
 simp only[kM]at h
 have hn:first (fun i=>((iv v i).kind==0&&nd t i)||kM d (ft t i) (iv v i)) 0 v.items.length=none:=by
  cases hf:first (fun i=>((iv v i).kind==0&&nd t i)||kM d (ft t i) (iv v i)) 0 v.items.length with
  |none=>rfl
  |some x=>rw[hf]at h;cases h
 have:=om.1 hn i (Nat.zero_le _) hi
 simp only[Bool.or_eq_false_iff]at this
 refine⟨fun hh=> ?_,this.2⟩
 have h1:=this.1
 rw[hh.1,hh.2]at h1
 cases h1
theorem Fi{g:aa→Int→List jo}{q:Int}:∀{l:List aa} {r:Int} {x:jo},x∈qQ g q l r→∃e∈l,∃r',x∈g e r'
 |[],r,x,h=>by cases h
 |e::l,r,x,h=>by
  simp only[qQ,List.mem_append]at h
  rcases h with h|h
  ·exact⟨e,List.mem_cons_self ..,r,h⟩
  ·obtain⟨e',h1,h2⟩:=Fi h
   exact⟨e',List.mem_cons_of_mem _ h1,h2⟩
def MA(n:Nat)(E:List jo):Prop:=∀x∈E,∀y,x.2.2=some y→wy y∧y.s.size<n
theorem MA.le{n m:Nat}{E:List jo}(h:MA n E)(hm:n≤m):MA m E:=fun x hx y hy=>⟨(h x hx y hy).1,Nat.lt_of_lt_of_le (h x hx y hy).2 hm⟩
structure Ag(f:af)(d:Nat)(v:aa):Prop where
 s:Fv d v
 o:xh d f.type v=true
 l:kM d f.type v=false
 n:¬(f.need=true∧v.kind=0)
theorem MG(v:aa):v.s.size<bS v:=by have:=fg v;omega
theorem EM{N:Nat}{fs:List af}{w:iz}(h:w∈WY N fs)(hV:∀f∈fs,V f.type){f:af}{i:Nat}{u:iz}(hw:w=(f,i)::u){d:Nat}{v:aa}(hc:Ag f d v):tM w v∧∀r p q,MA (bS v) (gd w v r p q):=by
 have key:=vu (P:=fun fs w=>Hd fs w∧((∀f∈fs,V f.type)→∀f i u,w=(f,i)::u→∀d v,Ag f d v→tM w v∧∀r p q,MA (bS v) (gd w v r p q)))
  (fun fs f j hj hl=>⟨⟨f,j,[],rfl,hj⟩,fun hV f' i' u' he d v hc=>by
   cases he
   have hl':f.type.kind≠6∧f.type.kind≠7:=by unfold ln at hl;exact of_decide_eq_true hl
   refine⟨.inr (.inr (.inr hl')),fun r p q x hx y hy=> ?_⟩
   simp only[gd]at hx
   by_cases h0:f.need=false∧v.kind=0
   ·rw[if_pos h0]at hx
    simp at hx;subst hx;cases hy
   ·rw[if_neg h0,if_neg hl'.1,if_neg hl'.2]at hx
    simp at hx;subst hx
    cases hy
    cases d with
    |zero=>exact hc.s.zero.elim
    |succ d=>
     have hk:=tU hc.o
     exact⟨⟨hc.s.succ.1,by omega,by omega⟩,MG v⟩⟩)
  (fun fs f j u hj hl hu=>⟨⟨f,j,u,rfl,hj⟩,fun hV f' i' u' he d v hc=>by
   cases he
   obtain⟨⟨g,j',u',rfl,hg⟩,ih⟩:=hu
   have hf:=List.mem_of_getElem? hj
   have hVf:=hV f hf
   have ih:=ih hVf.fs g j' u' rfl
   cases d with
   |zero=>exact hc.s.zero.elim
   |succ d=>
    have hk:=tU hc.o
    obtain⟨hfit,hof⟩:=DL hc.s hVf hc.o
    have hsz:=fg v
    have hit:∀i,i<v.items.length→f.type.fields[if f.type.kind=6 then 0 else i]? =some g→Ag g d (iv v i):=by
     intro i hi hgi
     have e1:ft f.type i=g.type:=by unfold ft;rw[hgi];rfl
     have e2:nd f.type i=g.need:=by unfold nd;rw[hgi];rfl
     have hla:=EF hc.l hi
     rw[e1,e2]at hla
     exact⟨hc.s.succ.2 _ (m9 hi),by rw[←e1];exact hof i hi,hla.2,hla.1⟩
    by_cases h0:f.need=false∧v.kind=0
    ·refine⟨.inl h0,fun r p q x hx y hy=> ?_⟩
     simp only[gd]at hx
     rw[if_pos h0]at hx
     simp at hx;subst hx;cases hy
    ·have hk0:v.kind=f.type.kind:=by
      rcases hk with h|h
      ·cases hn:f.need with
       |true=>exact absurd ⟨hn,h⟩ hc.n
       |false=>exact absurd ⟨hn,h⟩ h0
      ·exact h
     by_cases h6:f.type.kind=6
     ·have hlen:=hVf.list h6
      have hj0:j'=0:=by
       rcases Nat.lt_or_ge j' f.type.fields.length with h|h
       ·omega
       ·rw[List.getElem?_eq_none h]at hg;cases hg
      subst hj0
      have hall:∀e∈v.items,tM ((g,0)::u') e∧∀r p q,MA (bS e) (gd ((g,0)::u') e r p q):=by
       intro e he
       obtain⟨i,hi,rfl⟩:=List.getElem_of_mem he
       rw[nt hi]
       exact ih d _ (hit i hi (by rw[if_pos h6];exact hg))
      refine⟨.inr (.inl ⟨h6,fun e he=>(hall e he).1⟩),fun r p q x hx y hy=> ?_⟩
      unfold gd at hx
      rw[if_neg h0,if_pos h6]at hx
      by_cases hl0:v.items.length=0
      ·rw[if_pos hl0]at hx
       simp at hx;subst hx;cases hy
      ·rw[if_neg hl0]at hx
       obtain⟨e,he,r',hx⟩:=Fi hx
       have h1:=cE he
       exact((hall e he).2 _ _ _).le (by omega) x hx y hy
     ·have h7:f.type.kind=7:=by
       unfold ln at hl
       have:=of_decide_eq_false hl
       omega
      have hlen:=A0 hc.o hk0 h7
      have hjl:j'<v.items.length:=by
       rcases Nat.lt_or_ge j' f.type.fields.length with h|h
       ·omega
       ·rw[List.getElem?_eq_none h]at hg;cases hg
      obtain⟨a,b⟩:=ih d _ (hit j' hjl (by rw[if_neg h6];exact hg))
      refine⟨.inr (.inr (.inl ⟨h7,hjl,a⟩)),fun r p q x hx y hy=> ?_⟩
      unfold gd at hx
      rw[if_neg h0,if_neg h6,if_pos h7]at hx
      have h1:=cE (m9 hjl)
      exact(b _ _ _).le (by omega) x hx y hy⟩) N fs w h
 exact key.2 hV f i u hw d v hc
theorem KU{f:af}{v:aa}(hv:bS v<1000000000)(hT:gb f.type<1000000000)(h:ck f.type v=0)(hn:¬(f.need=true∧v.kind=0)):Ag f 4 v:=by
 obtain⟨e,h1,h2,h3⟩:=ma f.type hT
 have hc:=Nu hv hT
 rw[h]at hc
 unfold j3 at hc
 rw[h1,Ew v hv]at hc
 simp only[b7]at hc
 by_cases he:e=0
 ·subst he
  have ht:=h3 rfl
  cases hs:qZ v with
  |false=>rw[hs]at hc;cases hc
  |true=>
   have hS:Fv 4 v:=⟨0,hs⟩
   obtain⟨a,b⟩:=Lt 4 aO aO f.type v hS ht hv hT (by rw[ar];omega) (by rw[ar];omega)
   rw[hs,a]at hc
   cases ho:xh 4 f.type v with
   |false=>rw[ho]at hc;cases hc
   |true=>
    obtain⟨c,d⟩:=Fl 4 aO aO f.type v hS ht ho hv hT (by rw[ar];omega) (by rw[ar];omega)
    rw[ho,c]at hc
    cases hl:kM 4 f.type v with
    |false=>exact⟨hS,ho,hl,hn⟩
    |true=>rw[hl]at hc;cases hc
 ·rw[show(e != (0:Int))=true by simp[he]]at hc
  cases hc;exact absurd rfl he
def rv(r:List aa)(i:Nat):aa:=r[i]?.getD ⟨0,0,0,ByteArray.empty,[]⟩
theorem rC{r:List aa}{i:Nat}(h:i<r.length):r[i]=rv r i:=by simp[rv,h]
structure KV(w:iz)(r:List aa):Prop where
 a:lE w<r.length
 s:tM w (rv r (lE w))
 p:∀x p q,MA (bS (rv r (lE w))) (gd w (rv r (lE w)) x p q)
 z:bS (rv r (lE w))≤ca r
 b:ca r<1000000000
def wF(rows:List (List aa)):Nat:=(rows.map ca).sum
def dg(w:iz)(rows:List (List aa)):List jo:=rows.flatMap fun r=>gd w (rv r (lE w)) 0 0 0
def c0:ae:=⟨[],[],[]⟩
theorem yK:∀(w:iz) (p:bk),(sW p w).fields=p.fields++w.map Prod.fst∧(sW p w).pos=p.pos++w.map fun x=>(x.2:Int)
 |[],p=>by simp[sW]
 |(f,i)::w,p=>by
  obtain⟨a,b⟩:=yK w (nz p f i)
  simp only[sW]
  rw[a,b]
  simp[nz]
theorem Mp(w:iz):vj (sW p0 w) 0 w:=by
 obtain⟨a,b⟩:=yK w p0
 exact⟨by rw[a];simp[p0],by rw[b];simp[p0]⟩
theorem mh(p:List aa):bL p=some p:=by
 unfold bL
 rw[aB (by omega)]
 simp
theorem tT(r:List aa)(rows:List (List aa)):wF (r::rows)=ca r+wF rows:=by simp[wF]
theorem Fz{w:iz}(hel:EL w)(hwl:w.length≤2000000){rows:List (List aa)}(hr:∀r∈rows,KV w r)(hn:rows.length<1000000000)(ht:wF rows≤1000000000):nX (sW p0 w) rows=some (hY c0 (dg w rows)):=by
 have hal:=Mp w
 cases w with
 |nil=>exact hel.elim
 |cons x u=>
 obtain⟨g,j⟩:=x
 have loop:∀(m f i:Nat) (c:ae),i+m=rows.length→m<f→CR c (wF (rows.drop i))→
   gh (sW p0 ((g,j)::u)) rows f c.reps c.defs c.values (sW p0 ((g,j)::u)).leaf.path (sW p0 ((g,j)::u)).leaf.type.kind (sW p0 ((g,j)::u)).leaf.type.scale (sW p0 ((g,j)::u)).leaf.type.fields (sW p0 ((g,j)::u)).leaf.df (sW p0 ((g,j)::u)).leaf.rep (sW p0 ((g,j)::u)).fields (sW p0 ((g,j)::u)).pos (i:Int)=
    some (hY c (dg ((g,j)::u) (rows.drop i))):=by
  generalize hP:sW p0 ((g,j)::u)=P
  rw[hP]at hal
  intro m
  induction m with
  |zero=>
   intro f i c hi hf hc
   obtain⟨f,rfl⟩:=aX hf
   rw[gh,cw (by omega),ay,List.drop_of_length_le (by omega)]
   unfold nD
   rw[BU,aj,BU,aj,mh,aj]
   simp only[dg,List.flatMap_nil,wY]
  |succ m ih=>
   intro f i c hi hf hc
   obtain⟨f,rfl⟩:=aX hf
   have h1:i<rows.length:=by omega
   have hrw:=hr _ (kf h1)
   have hja:j<rows[i].length:=hrw.a
   have hz:bS (rv rows[i] j)≤ca rows[i]:=hrw.z
   have hb:=hrw.b
   have hd:=cO h1
   rw[hd,tT]at hc
   have hput:=Iq ((g,j)::u) 0 aO P (rv rows[i] j) 0 0 0 c hal (by rw[ar];omega) hel hrw.s (by omega) (by omega) (by omega) (by omega) (by omega) (hc.le (by omega)) (by omega)
   have hlen:=oT ((g,j)::u) (rv rows[i] j) 0 0 0 hrw.s
   rw[gh,bp h1,aQ,bf h1,aj,show at? P.pos (0:Int)=some (j:Int)from hal.ps,aj,bf hja,aj,rC hja,IU]
   have hput':aW aO (rv rows[i] j) (0:Int) (0:Int) (0:Int) (0:Int) (bz.mk (bk.mk (jI.mk P.leaf.path P.leaf.type P.leaf.df P.leaf.rep) P.fields P.pos) (ae.mk c.reps c.defs c.values))=_:=hput
   rw[hput',aj,aD h1 hn,hd]
   have:=ih f (i+1) (hY c (gd ((g,j)::u) (rv rows[i] j) 0 0 0)) (by omega) (by omega) (CR.app (hc.le (by have:bS (rv rows[i] (lE ((g,j)::u)))=bS (rv rows[i] j):=rfl;omega)))
   rw[xb]at this
   simp only[dg,List.flatMap_cons]
   exact this
 have:=loop rows.length aO 0 c0 (by omega) (by rw[ar];omega) ⟨by rw[List.drop_zero];show 0+_≤_;omega,by rw[List.drop_zero];show 0+_≤_;omega,by rw[List.drop_zero];show 0+_≤_;omega⟩
 rw[show((0:Nat):Int)=0 from rfl,List.drop_zero]at this
 exact this
theorem GO{fs:List af}{g:af}{j:Nat}{u:iz}(hat1:OE fs g j)(hfn:fs.length<1000000000)(hel:EL ((g,j)::u))(hnd:Nd ((g,j)::u))(hwl:((g,j)::u).length≤2000000){r:List aa}(hr:KV ((g,j)::u) r)(hrl:r.length=fs.length)(rec2:List Int→List Int→List aa→Int→Option (List ae))(x2:Int){c:ae}(hc:CR c (ca r)):
  eU rec2 fs (((g,j)::u).map Prod.fst) x2 r aO c.reps c.defs c.values (0:Int)=jA rec2 x2 (hY c (gd ((g,j)::u) (rv r j) 0 0 0)).reps (hY c (gd ((g,j)::u) (rv r j) 0 0 0)).defs (hY c (gd ((g,j)::u) (rv r j) 0 0 0)).values:=by
 have hja:j<r.length:=hr.a
 have hjf:j<fs.length:=by omega
 have hz:bS (rv r j)≤ca r:=hr.z
 have hb:=hr.b
 have hg:fs[j]=g:=by have:=hat1.1;rw[gu hjf]at this;exact Option.some.inj this
 have hrec:=If ((g,j)::u) aO (rv r j) 0 0 0 c (by rw[ar];omega) hel hr.s hnd (by omega) (by omega) (by omega) (by omega) (by omega) (hc.le hz) (by omega)
 have hat:at? (((g,j)::u).map Prod.fst) (0:Int)=some g:=rfl
 have loop:∀(m f i:Nat) (c':ae),i+m=fs.length→m<f→(i≤j→c'=c)→
   eU rec2 fs (((g,j)::u).map Prod.fst) x2 r f c'.reps c'.defs c'.values (i:Int)=
    if i≤j then jA rec2 x2 (hY c (gd ((g,j)::u) (rv r j) 0 0 0)).reps (hY c (gd ((g,j)::u) (rv r j) 0 0 0)).defs (hY c (gd ((g,j)::u) (rv r j) 0 0 0)).values else jA rec2 x2 c'.reps c'.defs c'.values:=by
  intro m
  induction m with
  |zero=>
   intro f i c' hi hf hcc
   obtain⟨f,rfl⟩:=aX hf
   rw[eU,cw (by omega),ay,if_neg (by omega)]
  |succ m ih=>
   intro f i c' hi hf hcc
   obtain⟨f,rfl⟩:=aX hf
   have h1:i<fs.length:=by omega
   rw[eU,bp h1,aQ,bf h1,aj,hat,aj]
   unfold nk
   by_cases hij:i=j
   ·subst hij
    rw[show(fs[i].id==g.id)=true by simp[hg],aQ,bf hja,aj,rC hja,hcc (eo _)]
    have hrec':bR aO (((g,i)::u).map Prod.fst) (rv r i) 0 0 0 (ae.mk c.reps c.defs c.values)=_:=hrec
    rw[hrec',aj,aD h1 hfn,if_pos (eo _)]
    have:=ih f (i+1) (hY c (gd ((g,i)::u) (rv r i) 0 0 0)) (by omega) (by omega) (fun h=>by omega)
    rw[if_neg (by omega)]at this
    exact this
   ·have hne:(fs[i].id==g.id)=false:=by
     simp only[beq_eq_false_iff_ne]
     exact fun h=>hij (hat1.2 i h1 h)
    rw[hne,ay,aD h1 hfn,ih f (i+1) c' (by omega) (by omega) (fun h=>hcc (by omega))]
    by_cases hle:i≤j
    ·rw[if_pos hle,if_pos (by omega)]
    ·rw[if_neg hle,if_neg (by omega)]
 have:=loop fs.length aO 0 c (by omega) (by rw[ar];omega) (fun _=>rfl)
 rw[show((0:Nat):Int)=0 from rfl,if_pos (Nat.zero_le _)]at this
 exact this
theorem Kx{fs:List af}{w:iz}(hhd:Hd fs w)(hu:Uq fs)(hfn:fs.length<1000000000)(hel:EL w)(hnd:Nd w)(hwl:w.length≤2000000){rows:List (List aa)}(hr:∀r∈rows,KV w r∧r.length=fs.length)(hn:rows.length<1000000000)(ht:wF rows≤1000000000)(rec1:List ae→Int→Option (List ae))(l1:List ae)(x1:Int):
  eC rec1 fs rows l1 x1 (w.map Prod.fst) aO [] [] [] (0:Int)=kR rec1 l1 x1 (hY c0 (dg w rows)).reps (hY c0 (dg w rows)).defs (hY c0 (dg w rows)).values:=by
 obtain⟨g,j,u,rfl,hg⟩:=hhd
 have hat1:=hu.at1 hg
 have loop:∀(m f i:Nat) (c:ae),i+m=rows.length→m<f→CR c (wF (rows.drop i))→
   eC rec1 fs rows l1 x1 (((g,j)::u).map Prod.fst) f c.reps c.defs c.values (i:Int)=kR rec1 l1 x1 (hY c (dg ((g,j)::u) (rows.drop i))).reps (hY c (dg ((g,j)::u) (rows.drop i))).defs (hY c (dg ((g,j)::u) (rows.drop i))).values:=by
  intro m
  induction m with
  |zero=>
   intro f i c hi hf hc
   obtain⟨f,rfl⟩:=aX hf
   rw[eC,cw (by omega),ay,List.drop_of_length_le (by omega)]
   simp only[dg,List.flatMap_nil,wY]
  |succ m ih=>
   intro f i c hi hf hc
   obtain⟨f,rfl⟩:=aX hf
   have h1:i<rows.length:=by omega
   obtain⟨hrw,hrl⟩:=hr _ (kf h1)
   have hz:bS (rv rows[i] j)≤ca rows[i]:=hrw.z
   have hd:=cO h1
   rw[hd,tT]at hc
   have hlen:=oT ((g,j)::u) (rv rows[i] j) 0 0 0 hrw.s
   rw[eC,bp h1,aQ,bf h1,aj,GO hat1 hfn hel hnd hwl hrw hrl _ _ (hc.le (by omega))]
   unfold jA
   rw[aD h1 hn,hd]
   have:=ih f (i+1) (hY c (gd ((g,j)::u) (rv rows[i] j) 0 0 0)) (by omega) (by omega) (CR.app (hc.le (by have:bS (rv rows[i] (lE ((g,j)::u)))=bS (rv rows[i] j):=rfl;omega)))
   rw[xb]at this
   simp only[dg,List.flatMap_cons]
   exact this
 have:=loop rows.length aO 0 c0 (by omega) (by rw[ar];omega) ⟨by rw[List.drop_zero];show 0+_≤_;omega,by rw[List.drop_zero];show 0+_≤_;omega,by rw[List.drop_zero];show 0+_≤_;omega⟩
 rw[show((0:Nat):Int)=0 from rfl,List.drop_zero]at this
 exact this
theorem Jq{fs:List af}(hu:Uq fs)(hfn:fs.length<1000000000){W:List iz}(hW:∀w∈W,Hd fs w∧EL w∧Nd w∧w.length≤2000000)(hWn:W.length<1000000000){rows:List (List aa)}(hr:∀w∈W,∀r∈rows,KV w r∧r.length=fs.length)(hn:rows.length<1000000000)(ht:wF rows≤1000000000):∀(m f i:Nat) (l:List ae),i+m=W.length→m<f→l.length=i→
  dU fs rows (W.map (List.map Prod.fst)) f l (i:Int)=some (l++(W.drop i).map (fun w=>hY c0 (dg w rows))):=by
 intro m
 induction m with
 |zero=>
  intro f i l hi hf hl
  obtain⟨f,rfl⟩:=aX hf
  rw[dU,cw (by rw[List.length_map];omega),ay,List.drop_of_length_le (by omega)]
  unfold pp
  simp
 |succ m ih=>
  intro f i l hi hf hl
  obtain⟨f,rfl⟩:=aX hf
  have h1:i<W.length:=by omega
  have h2:i<(W.map (List.map Prod.fst)).length:=by rw[List.length_map];exact h1
  have hm:=kf h1
  obtain⟨a,b,c,d⟩:=hW _ hm
  rw[dU,bp h2,aQ,bf h2,aj,List.getElem_map,Kx a hu hfn b c d (hr _ hm) hn ht]
  unfold kR
  have:=ih f (i+1) (l++[hY c0 (dg W[i] rows)]) (by omega) (by omega) (by simp;omega)
  rw[aB (by omega),aD h1 hWn,cO h1]
  simp only[List.map_cons]
  rw[List.append_assoc,List.singleton_append]at this
  exact this
structure Ie(fs:List af)(rows:List (List aa)):Prop where
 f:br fs≤2000000
 t:wF rows≤100000000
 n:rows.length<100000000
theorem n5:∀{rows:List (List aa)} {r:List aa},r∈rows→ca r≤wF rows
 |[],r,h=>by cases h
 |x::rows,r,h=>by
  rw[tT]
  rcases List.mem_cons.1 h with rfl|h
  ·omega
  ·have:=n5 h;omega
theorem FD{fs:List af}{rows:List (List aa)}(h:Ie fs rows)(h0:sc fs=0)(hr:q8 fs rows=0):∀w∈WS fs,∀r∈rows,KV w r∧r.length=fs.length:=by
 intro w hw r hm
 have hf:=h.f
 have ht:=h.t
 obtain⟨hV,hu⟩:=rV (by omega) h0
 obtain⟨hl,hrow⟩:=yC hr r hm
 obtain⟨f,i,u,rfl,hfi⟩:=Ia hw
 have hsr:=n5 hm
 have hi:i<fs.length:=by
  rcases Nat.lt_or_ge i fs.length with h|h
  ·exact h
  ·rw[List.getElem?_eq_none h]at hfi;cases hfi
 have hir:i<r.length:=by omega
 have hri:r[i]? =some (rv r i):=by rw[gu hir,rC hir]
 obtain⟨hc,hn⟩:=Bd hrow i f _ hfi hri
 have hz:bS (rv r i)≤ca r:=cE (List.mem_of_getElem? hri)
 have hfm:=bN (List.mem_of_getElem? hfi)
 have hfe:=cc f
 obtain⟨a,b⟩:=EM hw (fun f hf=>hV.fs f hf) rfl (KU (by omega) (by omega) hc hn)
 exact⟨⟨hir,a,b,hz,by omega⟩,hl⟩
def bn(fs:List af)(rows:List (List aa)):List ae:=(WS fs).map fun w=>hY c0 (dg w rows)
theorem HN{fs:List af}{rows:List (List aa)}(h:GV fs rows=0):sc fs=0∧q8 fs rows=0:=by
 unfold GV at h
 by_cases h0:sc fs=0
 ·rw[if_neg (fun k=>k h0)]at h
  by_cases h1:2000<rows.length
  ·rw[if_pos h1]at h;cases h
  ·rw[if_neg h1]at h;exact⟨h0,h⟩
 ·rw[if_pos h0]at h;exact absurd h h0
theorem rY{fs:List af}{rows:List (List aa)}(h:Ie fs rows):∀r∈rows,ca r<1000000000:=fun r hr=>by
 have:=n5 hr
 have:=h.t
 omega
theorem vH{w:iz}:∀{rows:List (List aa)},(∀r∈rows,KV w r)→(dg w rows).length≤wF rows
 |[],_=>by simp[dg,wF]
 |r::rows,h=>by
  have h1:=vH (w:=w) (rows:=rows) (fun x hx=>h x (List.mem_cons_of_mem _ hx))
  have h2:=h r (List.mem_cons_self ..)
  have h3:=oT w (rv r (lE w)) 0 0 0 h2.s
  have h4:=h2.z
  rw[tT]
  simp only[dg,List.flatMap_cons,List.length_append]at h1⊢
  omega
theorem Aw{w:iz}{rows:List (List aa)}(h:∀r∈rows,KV w r)(ht:wF rows≤1000000000):EV (hY c0 (dg w rows)):=by
 have h1:=vH h
 have h2:=List.length_filterMap_le (fun x:jo=>x.2.2) (dg w rows)
 refine⟨?_,?_,?_,fun v hv=> ?_⟩
 ·simp only[hY,c0,List.length_append,List.length_map,List.length_nil];omega
 ·simp only[hY,c0,List.length_append,List.length_map,List.length_nil];omega
 ·simp only[hY,c0,List.length_append,List.length_nil];omega
 ·simp only[hY,c0,List.nil_append]at hv
  obtain⟨x,hx,hy⟩:=List.mem_filterMap.1 hv
  obtain⟨r,hr,hx⟩:=List.mem_flatMap.1 hx
  have hp:=(h r hr).p 0 0 0 x hx v hy
  have hz:=(h r hr).z
  have hb:=(h r hr).b
  exact⟨hp.1,by have:=hp.2;omega⟩
theorem BC:rn=some true:=by decide+kernel
def al(N:Nat)(f:af)(i:Nat):List iz:=if ln f=true then[[(f,i)]]else(WY N f.type.fields).map ((f,i)::·)
theorem gR(N:Nat)(f:af)(fs:List af)(i:Nat):dE (WY N) (f::fs) i=al N f i++dE (WY N) fs (i+1):=rfl
theorem V.vf0{t:aq}(h:V t):vf t=0:=by
 have:=h.sh
 unfold shp at this
 split at this
 ·cases this
 ·split at this
  ·cases this
  ·exact this
theorem V.nofields{f:af}(h:V f.type)(hl:ln f=true):f.type.fields.length=0:=by
 have hv:=h.vf0
 unfold ln at hl
 have hl:=of_decide_eq_true hl
 unfold vf at hv
 rw[if_neg hl.1,if_pos hl.2]at hv
 split at hv
 ·cases hv
 ·omega
theorem V.fields{f:af}(h:V f.type)(hl:ln f=false):f.type.fields.length≠0:=by
 have hv:=h.vf0
 unfold ln at hl
 have hl:=of_decide_eq_false hl
 by_cases h6:f.type.kind=6
 ·have:=h.list h6;omega
 ·have h7:f.type.kind=7:=by omega
  unfold vf at hv
  rw[if_neg h6,if_neg (by omega)]at hv
  intro h0
  rw[if_pos h0]at hv;cases hv
theorem mZ:∀(N k:Nat) (f:af) (i:Nat),V f.type→gb f.type≤N→N<k→gb f.type≤100000000→dW k f.type=some ((al N f i).length:Int)
 |0,k,f,i,hV,h,hk,hs=>by have:=eX f.type;omega
 |N+1,k,f,i,hV,h,hk,hs=>by
  obtain⟨k,rfl⟩:=aX (m:=N+1) (f:=k) hk
  have he:=eX f.type
  have hlen:=bM f.type.fields
  unfold al
  cases hl:ln f with
  |true=>
   have h0:=hV.nofields hl
   rw[dW,show((f.type.fields.length:Int)==0)=true by simp[h0],aQ,if_pos rfl];rfl
  |false=>
   have h0:=hV.fields hl
   have loop:∀(m g j:Nat) (x:Nat),j+m=f.type.fields.length→m<g→x+br (f.type.fields.drop j)≤1000000000→fD (dW k) f.type g (x:Int) (j:Int)=some ((x+(dE (WY N) (f.type.fields.drop j) j).length:Nat):Int):=by
    intro m
    induction m with
    |zero=>
     intro g j x hi hg hx
     obtain⟨g,rfl⟩:=aX hg
     rw[fD,cw (by omega),ay,List.drop_of_length_le (by omega)]
     simp[dE,m0]
    |succ m ih=>
     intro g j x hi hg hx
     obtain⟨g,rfl⟩:=aX hg
     have h1:j<f.type.fields.length:=by omega
     have hm:=kf h1
     have hsz:=qe h1
     have hfd:=cc f.type.fields[j]
     have hmm:=bN hm
     have hrec:=mZ N k f.type.fields[j] j (hV.fs _ hm) (by omega) (by omega) (by omega)
     have hwl:(al N f.type.fields[j] j).length≤lx f.type.fields[j]:=by
      unfold al
      have:=yp N f.type.fields[j].type.fields
      have:=iu f.type.fields[j]
      split
      ·simp;omega
      ·rw[List.length_map];omega
     rw[fD,bp h1,aQ,bf h1,aj,hrec,aj,jC (x:=(x:Int)+((al N f.type.fields[j] j).length:Int)) (by omega) (by omega),aD h1 (by omega),show(x:Int)+((al N f.type.fields[j] j).length:Int)=((x+(al N f.type.fields[j] j).length:Nat):Int) by omega,ih g (j+1) _ (by omega) (by omega) (by omega),cO h1,gR,List.length_append]
     first|done|(congr 1;omega)
   have:=loop f.type.fields.length aO 0 0 (by omega) (by rw[ar];omega) (by rw[List.drop_zero];omega)
   rw[List.drop_zero,Nat.zero_add]at this
   rw[dW,show((f.type.fields.length:Int)==0)=false by simp;intro h;rw[h]at h0;exact h0 rfl,ay,if_neg (by simp),List.length_map]
   exact this
abbrev pM(E:List jo):List aa:=E.filterMap (·.2.2)
structure At(Ls:List (List jo))(R:Nat→List jo)(P U:List Int):Prop where
 p:P.length=Ls.length
 u:U.length=Ls.length
 h:∀k L,Ls[k]? =some L→∃D,L=D++R k∧P[k]? =some (D.length:Int)∧U[k]? =some ((pM D).length:Int)
def lw(Ls:List (List jo)):List ae:=Ls.map (hY c0)
def M5(Ls:List (List jo)):Prop:=∀L∈Ls,L.length<1000000000
theorem xg{Ls:List (List jo)}{k:Nat}{L:List jo}(h:Ls[k]? =some L):at? (lw Ls) (k:Int)=some (hY c0 L):=by
 apply dl
 unfold lw
 rw[List.getElem?_map,h];rfl
theorem vm(L:List jo):(hY c0 L).reps.length=L.length:=by simp[hY,c0]
theorem HY(L:List jo):(hY c0 L).defs.length=L.length:=by simp[hY,c0]
theorem xd(L:List jo):(hY c0 L).values=pM L:=by simp[hY,c0]
theorem Mx{D T:List jo}{x:jo}:at? (hY c0 (D++x::T)).reps (D.length:Int)=some x.1:=by
 apply dl;simp[hY,c0]
theorem MN{D T:List jo}{x:jo}:at? (hY c0 (D++x::T)).defs (D.length:Int)=some x.2.1:=by
 apply dl;simp[hY,c0]
theorem yT{Ls:List (List jo)}{R:Nat→List jo}{P U:List Int}(h:At Ls R P U){k:Nat}{L:List jo}(hk:Ls[k]? =some L){x:jo}{T:List jo}(hx:R k=x::T):
  cx (k:Int) (lw Ls) false P U=some (x.2.1,lw Ls,false,P,U):=by
 obtain⟨D,hD,hP,hU⟩:=h.h k L hk
 rw[hx]at hD
 subst hD
 unfold cx cD
 rw[xg hk,aj,dl hP,aj,aj,vm,HY,decide_eq_true (by rw[List.length_append,List.length_cons];omega),aQ,aQ,MN,aj]
def tk(R:Nat→List jo)(a n:Nat):Nat→List jo:=fun k=>if a≤k∧k<a+n then(R k).tail else R k
theorem Kb{Ls:List (List jo)}(hf:M5 Ls){R:Nat→List jo}{a n:Nat}(hn:a+n≤Ls.length)(hL:Ls.length<1000000000)(hR:∀k,a≤k→k<a+n→∃x T,R k=x::T∧x.2.2=none):
  ∀(p5 p6:List Int),p5.length=Ls.length→p6.length=Ls.length→∀(m f i:Nat) (P:List Int) (U:List Int),a≤i→i+m=a+n→m<f→At Ls (tk R a (i-a)) P U→
   ∃P',bj (a:Int) (n:Int) p5 p6 f P U (lw Ls) false (i:Int)=some ((),lw Ls,false,P',U)∧At Ls (tk R a n) P' U:=by
 have hw:i64.wrap ((a:Int)+(n:Int))=((a+n:Nat):Int):=by rw[jC (by omega) (by omega)];omega
 intro p5 p6 h5 h6 m
 induction m with
 |zero=>
  intro f i P U hai hi hf h
  obtain⟨f,rfl⟩:=aX hf
  rw[bj,hw,cw (by omega),ay,aB (by rw[h.p,h5]),aB (by rw[h.u,h6])]
  exact⟨P,rfl,by rw[show i-a=n by omega]at h;exact h⟩
 |succ m ih=>
  intro f i P U hai hi hf' h
  obtain⟨f,rfl⟩:=aX hf'
  have h1:i<Ls.length:=by omega
  have hk:Ls[i]? =some Ls[i]:=gu h1
  obtain⟨x,T,hx,hn0⟩:=hR i hai (by omega)
  have hRi:tk R a (i-a) i=x::T:=by unfold tk;rw[if_neg (by omega),hx]
  obtain⟨D,hD,hP,hU⟩:=h.h i _ hk
  rw[hRi]at hD
  have hlen:D.length<1000000000:=by
   have:=hf _ (kf h1)
   rw[hD]at this;simp at this;omega
  rw[bj,hw,bp (by omega),aQ,yT h hk hRi,aj]
  simp only
  rw[aB trivial,aB trivial,dl hP,aj,jC (x:=(D.length:Int)+1) (by omega) (by omega),jC (x:=(i:Int)+1) (by omega) (by omega),show(i:Int)+1=((i+1:Nat):Int) by omega,show((i:Int)).toNat=i by omega]
  refine ih f (i+1) _ U (by omega) (by omega) (by omega) ⟨by rw[List.length_set];exact h.p,h.u,fun k L hkL=> ?_⟩
  by_cases hki:k=i
  ·subst hki
   rw[hk]at hkL
   obtain rfl:=Option.some.inj hkL
   refine⟨D++[x],?_,?_,?_⟩
   ·rw[hD];unfold tk;rw[if_pos (by omega),hx];simp
   ·rw[List.getElem?_set_self (by rw[h.p];exact h1)];simp
   ·rw[hU];simp[hn0]
  ·obtain⟨D',h2,h3,h4⟩:=h.h k L hkL
   refine⟨D',?_,?_,h4⟩
   ·rw[h2];congr 1
    unfold tk
    by_cases hc:a≤k∧k<a+(i-a)
    ·rw[if_pos hc,if_pos (by omega)]
    ·rw[if_neg hc,if_neg (by omega)]
   ·rw[List.getElem?_set_ne (by omega)];exact h3
theorem Kl(R:Nat→List jo)(a:Nat):tk R a 0=R:=by
 funext k;unfold tk;rw[if_neg (by omega)]
theorem Ko{Ls:List (List jo)}(hf:M5 Ls){R:Nat→List jo}{a n:Nat}(hn:a+n≤Ls.length)(hL:Ls.length<1000000000)(hR:∀k,a≤k→k<a+n→∃x T,R k=x::T∧x.2.2=none){P U:List Int}(h:At Ls R P U):
  ∃P',bF (a:Int) (n:Int) (lw Ls) false P U=some ((),lw Ls,false,P',U)∧At Ls (tk R a n) P' U:=by
 unfold bF
 exact Kb hf hn hL hR P U h.p h.u n aO a P U (eo _) rfl (by rw[ar];omega) (by rw[Nat.sub_self,Kl];exact h)
theorem F1{v:aa}(h:v.items=[]):gS aO v=some v:=by
 obtain⟨k,n,s,t,l⟩:=v
 simp only at h
 subst h
 have hb:aO=1152921504606846975+1:=rfl
 rw[hb,gS,hb,gE]
 show aF (decide ((0:Int)<0)) _ _=_
 rw[show decide ((0:Int)<0)=false from rfl,ay]
 unfold ng
 rw[mh,aj]
theorem GM{Ls:List (List jo)}(hf:M5 Ls)(hL:Ls.length<1000000000){R T:Nat→List jo}{a:Nat}(ha:a<Ls.length){r d:Int}{v:aa}(hR:R a=(r,d,some v)::T a)(hT:∀k,k≠a→R k=T k){P U:List Int}(h:At Ls R P U):
  ∃(D:List jo) (L:List jo),Ls[a]? =some L∧L=D++(r,d,some v)::T a∧bF (a:Int) 1 (lw Ls) false P U=some ((),lw Ls,false,P.set a ((D.length:Int)+1),U)∧at? U (a:Int)=some ((pM D).length:Int)∧
   at? (hY c0 L).values ((pM D).length:Int)=some v∧(pM D).length<(hY c0 L).values.length∧(pM D).length<1000000000∧At Ls T (P.set a ((D.length:Int)+1)) (U.set a (((pM D).length:Int)+1)):=by
 have hk:Ls[a]? =some Ls[a]:=gu ha
 obtain⟨D,hD,hP,hU⟩:=h.h a _ hk
 rw[hR]at hD
 have hlen:D.length<1000000000:=by
  have:=hf _ (kf ha)
  rw[hD]at this;simp at this;omega
 have hvl:(pM D).length≤D.length:=List.length_filterMap_le (fun x:jo=>x.2.2) D
 have hvals:pM Ls[a]=pM D++v::pM (T a):=by rw[hD];simp[pM]
 refine⟨D,_,hk,hD,?_,dl hU,?_,?_,by omega,?_⟩
 ·have hw:i64.wrap ((a:Int)+1)=((a+1:Nat):Int):=by rw[jC (by omega) (by omega)];omega
  have hb:aO=1152921504606846974+1+1:=rfl
  unfold bF
  rw[hb,bj,hw,decide_eq_true (by omega),aQ,yT h hk hR,aj]
  simp only
  rw[aB trivial,aB trivial,dl hP,aj,jC (x:=(D.length:Int)+1) (by omega) (by omega),bj,hw,decide_eq_false (by omega),ay,show((a:Int)).toNat=a by omega,aB (by simp),aB rfl]
 ·rw[xd,hvals];apply dl;simp
 ·rw[xd,hvals];simp
 ·refine⟨by rw[List.length_set];exact h.p,by rw[List.length_set];exact h.u,fun k L hkL=> ?_⟩
  by_cases hka:k=a
  ·subst hka
   rw[hk]at hkL
   obtain rfl:=Option.some.inj hkL
   refine⟨D++[(r,d,some v)],by rw[hD];simp,?_,?_⟩
   ·rw[List.getElem?_set_self (by rw[h.p];exact ha)];simp
   ·rw[List.getElem?_set_self (by rw[h.u];exact ha)];simp[pM]
  ·obtain⟨D',h2,h3,h4⟩:=h.h k L hkL
   refine⟨D',by rw[h2,hT k hka],?_,?_⟩
   ·rw[List.getElem?_set_ne (fun h=>hka h.symm)];exact h3
   ·rw[List.getElem?_set_ne (fun h=>hka h.symm)];exact h4
theorem iO:∀(u:iz) (v:aa) (r d q:Int),EL u→tM u v→∃d1 x t,gd u v r d q=(r,d1,x)::t∧d≤d1
 |[],v,r,d,q,he,_=>he.elim
 |(f,i)::u,v,r,d,q,he,hs=>by
  have hdn:d≤dn f d:=by unfold dn;split<;>omega
  simp only[gd]
  by_cases h0:f.need=false∧v.kind=0
  ·rw[if_pos h0];exact⟨d,none,[],rfl,Int.le_refl _⟩
  ·rw[if_neg h0]
   by_cases h6:f.type.kind=6
   ·rw[if_pos h6]
    by_cases hl:v.items.length=0
    ·rw[if_pos hl];exact⟨_,none,[],rfl,hdn⟩
    ·rw[if_neg hl]
     have hsi:∀e∈v.items,tM u e:=by
      rcases hs with h|h|h|h
      ·exact absurd h h0
      ·exact h.2
      ·have:=h.1;omega
      ·exact absurd h6 h.1
     have hel:EL u:=by
      cases u with
      |nil=>unfold EL ln at he;simp[h6]at he
      |cons y u=>exact he.2
     cases hv:v.items with
     |nil=>rw[hv]at hl;exact absurd rfl hl
     |cons e es=>
      obtain⟨d1,x,t,h1,h2⟩:=iO u e r (dn f d+1) (q+1) hel (hsi e (by rw[hv];exact List.mem_cons_self ..))
      simp only[qQ,h1,List.cons_append]
      exact⟨d1,x,_,rfl,by omega⟩
   ·rw[if_neg h6]
    by_cases h7:f.type.kind=7
    ·rw[if_pos h7]
     have hsi:tM u (iv v (lE u)):=by
      rcases hs with h|h|h|h
      ·exact absurd h h0
      ·exact absurd h.1 h6
      ·exact h.2.2
      ·exact absurd h7 h.2
     have hel:EL u:=by
      cases u with
      |nil=>unfold EL ln at he;simp[h7]at he
      |cons y u=>exact he.2
     obtain⟨d1,x,t,h1,h2⟩:=iO u _ r (dn f d) q hel hsi
     exact⟨d1,x,t,h1,by omega⟩
    ·rw[if_neg h7];exact⟨_,_,[],rfl,hdn⟩
def Md(q:Int):List jo→Prop
 |[]=>True
 |x::_=>x.1≤q
theorem Md.le{q p:Int}{T:List jo}(h:Md q T)(hp:q≤p):Md p T:=by
 cases T with
 |nil=>trivial
 |cons x t=>exact Int.le_trans h hp
theorem DK{s:ByteArray}(h:s.size=0):s=ByteArray.empty:=by
 apply ByteArray.ext
 apply Array.ext
 ·rw[show s.data.size=s.size from rfl,h];rfl
 ·intro i h1 h2
  have:s.data.size=0:=h
  omega
theorem pK{v:aa}(h:gw v=true)(hk:v.kind=0∨v.kind=6∨v.kind=7):v=⟨v.kind,0,0,ByteArray.empty,v.items⟩∧(v.kind=0→v.items=[]):=by
 have h0:v.n=0∧v.scale=0∧v.s.size=0:=by
  unfold gw at h
  rcases hk with hk|hk|hk<;>simp[hk]at h
  ·exact⟨h.1.1,h.1.2,by rw[h.2.1];rfl⟩
  ·exact⟨h.1.1,h.1.2,by rw[h.2.1];rfl⟩
  ·exact⟨h.1.1,h.1.2,by rw[h.2.1];rfl⟩
 refine⟨?_,fun hz=>fL h (by omega) (by omega)⟩
 obtain⟨k,n,s,t,l⟩:=v
 obtain⟨a,b,c⟩:=h0
 simp only at a b c
 rw[a,b,DK c]
theorem sB{f:af}{i:Nat}{u:iz}{v:aa}(r d q:Int)(he:EL ((f,i)::u))(hs:tM ((f,i)::u) v)(h0:¬(f.need=false∧v.kind=0)):
  ∃d1 x t,gd ((f,i)::u) v r d q=(r,d1,x)::t∧dn f d≤d1∧(f.type.kind=6→v.items.length≠0→dn f d+1≤d1):=by
 simp only[gd]
 rw[if_neg h0]
 by_cases h6:f.type.kind=6
 ·rw[if_pos h6]
  by_cases hl:v.items.length=0
  ·rw[if_pos hl];exact⟨_,none,[],rfl,Int.le_refl _,fun _ h=>absurd hl h⟩
  ·rw[if_neg hl]
   have hsi:∀e∈v.items,tM u e:=by
    rcases hs with h|h|h|h
    ·exact absurd h h0
    ·exact h.2
    ·have:=h.1;omega
    ·exact absurd h6 h.1
   have hel:EL u:=by
    cases u with
    |nil=>unfold EL ln at he;simp[h6]at he
    |cons y u=>exact he.2
   cases hv:v.items with
   |nil=>rw[hv]at hl;exact absurd rfl hl
   |cons e es=>
    obtain⟨d1,x,t,h1,h2⟩:=iO u e r (dn f d+1) (q+1) hel (hsi e (by rw[hv];exact List.mem_cons_self ..))
    simp only[qQ,h1,List.cons_append]
    exact⟨d1,x,_,rfl,by omega,fun _ _=>h2⟩
 ·rw[if_neg h6]
  by_cases h7:f.type.kind=7
  ·rw[if_pos h7]
   have hsi:tM u (iv v (lE u)):=by
    rcases hs with h|h|h|h
    ·exact absurd h h0
    ·exact absurd h.1 h6
    ·exact h.2.2
    ·exact absurd h7 h.2
   have hel:EL u:=by
    cases u with
    |nil=>unfold EL ln at he;simp[h7]at he
    |cons y u=>exact he.2
   obtain⟨d1,x,t,h1,h2⟩:=iO u _ r (dn f d) q hel hsi
   exact⟨d1,x,t,h1,h2,fun h=>absurd h h6⟩
  ·rw[if_neg h7];exact⟨_,_,[],rfl,Int.le_refl _,fun h=>absurd h h6⟩
theorem pD{N:Nat}{f:af}{i:Nat}{w:iz}(h:w∈al N f i):∃u,w=(f,i)::u∧(f,0)::u∈WY (N+1) [f]:=by
 unfold al at h
 have hw:WY (N+1) [f]=al N f 0++[]:=rfl
 rw[hw,List.append_nil]
 unfold al
 cases hl:ln f with
 |true=>
  rw[hl,if_pos rfl]at h
  exact⟨[],by simpa using h,by simp⟩
 |false=>
  rw[hl,if_neg (by simp)]at h
  obtain⟨u,hu,rfl⟩:=List.mem_map.1 h
  exact⟨u,rfl,by rw[if_neg (by simp)];exact List.mem_map.2 ⟨u,hu,rfl⟩⟩
theorem rI{N:Nat}{f:af}{i:Nat}{w:iz}(h:w∈al N f i):EL w:=by
 obtain⟨u,rfl,h2⟩:=pD h
 have:=EC h2
 cases u with
 |nil=>exact this
 |cons y u=>exact this
theorem pQ{N:Nat}{f:af}{i:Nat}{w:iz}(h:w∈al N f i)(hV:V f.type){d:Nat}{v:aa}(hc:Ag f d v):tM w v:=by
 obtain⟨u,rfl,h2⟩:=pD h
 exact(EM h2 (fun g hg=>by rw[List.mem_singleton]at hg;rw[hg];exact hV) rfl hc).1
theorem iV:∀(N:Nat) (f:af) (i:Nat),V f.type→gb f.type≤N→0<(al N f i).length
 |0,f,i,hV,h=>by have:=eX f.type;omega
 |N+1,f,i,hV,h=>by
  unfold al
  cases hl:ln f with
  |true=>rw[if_pos rfl];simp
  |false=>
   rw[if_neg (by simp),List.length_map]
   have h0:=hV.fields hl
   have he:=eX f.type
   cases hf:f.type.fields with
   |nil=>rw[hf]at h0;exact absurd rfl h0
   |cons g gs=>
    have hg:g∈f.type.fields:=by rw[hf];exact List.mem_cons_self ..
    have h1:=bN hg
    have h2:=cc g
    have:=iV N g 0 (hV.fs g hg) (by omega)
    show 0<(dE (WY N) (g::gs) 0).length
    rw[gR,List.length_append];omega
theorem se{f:af}{d:Nat}{v:aa}(hc:Ag f (d+1) v)(hV:V f.type){i:Nat}(hi:i<v.items.length){g:af}(hg:f.type.fields[if f.type.kind=6 then 0 else i]? =some g):Ag g d (iv v i):=by
 obtain⟨hfit,hof⟩:=DL hc.s hV hc.o
 have e1:ft f.type i=g.type:=by unfold ft;rw[hg];rfl
 have e2:nd f.type i=g.need:=by unfold nd;rw[hg];rfl
 have hla:=EF hc.l hi
 rw[e1,e2]at hla
 exact⟨hc.s.succ.2 _ (m9 hi),by rw[←e1];exact hof i hi,hla.2,hla.1⟩
theorem Nm{R T:Nat→List jo}{a n:Nat}(h:∀j,j<n→∃x,R (a+j)=x::T (a+j))(ho:∀k,(k<a∨a+n≤k)→R k=T k):tk R a n=T:=by
 funext k
 unfold tk
 by_cases hk:a≤k∧k<a+n
 ·rw[if_pos hk]
  obtain⟨x,hx⟩:=h (k-a) (by omega)
  rw[show a+(k-a)=k by omega]at hx
  rw[hx];rfl
 ·rw[if_neg hk];exact ho k (by omega)
structure HX(W:List iz)(a:Nat)(v:aa)(r d q:Int)(R T:Nat→List jo):Prop where
 h:∀(j:Nat) w,W[j]? =some w→R (a+j)=gd w v r d q++T (a+j)
 o:∀k,(k<a∨a+W.length≤k)→R k=T k
 l:∀j,j<W.length→Md q (T (a+j))
theorem wn{Ls:List (List jo)}(hf:M5 Ls)(hL:Ls.length<1000000000){W:List iz}{a:Nat}(hn:a+W.length≤Ls.length){v:aa}{r d q e:Int}{R T:Nat→List jo}(hH:HX W a v r d q R T)
  (he:∀w∈W,gd w v r d q=[(r,e,none)]){P U:List Int}(h:At Ls R P U):
  ∃P',bF (a:Int) (W.length:Int) (lw Ls) false P U=some ((),lw Ls,false,P',U)∧At Ls T P' U:=by
 have hx:∀j,j<W.length→R (a+j)=(r,e,none)::T (a+j):=by
  intro j hj
  rw[hH.h j _ (gu hj),he _ (kf hj)];rfl
 obtain⟨P',h1,h2⟩:=Ko hf hn hL (fun k h1 h2=>by
  have:=hx (k-a) (by omega)
  rw[show a+(k-a)=k by omega]at this
  exact⟨_,_,this,rfl⟩) h
 rw[Nm (fun j hj=>⟨_,hx j hj⟩) hH.o]at h2
 exact⟨P',h1,h2⟩
theorem Eh{Ls:List (List jo)}{R:Nat→List jo}{P U:List Int}(h:At Ls R P U){k:Nat}(hk:k<Ls.length):∃D,Ls[k]=D++R k∧at? P (k:Int)=some (D.length:Int)∧at? (lw Ls) (k:Int)=some (hY c0 Ls[k]):=by
 have hkL:Ls[k]? =some Ls[k]:=gu hk
 obtain⟨D,h1,h2,h3⟩:=h.h k _ hkL
 exact⟨D,h1,dl h2,xg hkL⟩
theorem JK{Ls:List (List jo)}{R:Nat→List jo}{P U:List Int}(h:At Ls R P U){k:Nat}(hk:k<Ls.length)(q:Int){α:Type}(z:Int→Option α)(y:Option α):
  (aK (at? P (k:Int)) fun e2=>aK (at? (lw Ls) (k:Int)) fun e3=>aF (decide (e2<(e3.reps.length:Int))) (aK (at? e3.reps e2) fun e4=>z e4) y)=
   match R k with
   |[]=>y
   |x::_=>z x.1:=by
 obtain⟨D,h1,h2,h3⟩:=Eh h hk
 rw[h2,h3,aj,aj,vm,h1]
 cases hR:R k with
 |nil=>simp[ay]
 |cons x t=>
  rw[decide_eq_true (by rw[List.length_append,List.length_cons];omega),aQ,Mx,aj]
abbrev FO:Type:=Option (aa×List ae×Bool×List Int×List Int)
def wR(Ls:List (List jo))(N:Nat)(fld:af→Int→Int→Int→List ae→Bool→List Int→List Int→FO):Prop:=
 ∀(f:af) (i a:Nat) (r d q:Int) (dd:Nat) (v:aa) (R T:Nat→List jo) (P U:List Int),V f.type→gb f.type≤N→Ag f dd v→bS v<1000000000→
  a+(al N f i).length≤Ls.length→0≤d→d+2*(N:Int)≤1000000000→0≤q→q+(N:Int)≤1000000000→HX (al N f i) a v r d q R T→At Ls R P U→
  ∃P' U',fld f (a:Int) d q (lw Ls) false P U=some (v,lw Ls,false,P',U')∧At Ls T P' U'
theorem At.lens{Ls:List (List jo)}{R T:Nat→List jo}{P U P' U':List Int}(h:At Ls R P U)(k:At Ls T P' U'):P'.length=P.length∧U'.length=U.length:=
 ⟨by rw[h.p,k.p],by rw[h.u,k.u]⟩
theorem JQ{Ls:List (List jo)}(hL:Ls.length<1000000000){N:Nat}{fld:af→Int→Int→Int→List ae→Bool→List Int→List Int→FO}(ih:wR Ls N fld)
  {f g:af}(hk:f.type.kind=6)(hg:f.type.fields[0]? =some g)(hVg:V g.type)(hsg:gb g.type≤N){dd:Nat}{v:aa}(hv:bS v<1000000000)(hchk:∀i,i<v.items.length→Ag g dd (iv v i))
  {a:Nat}(hn:a+(al N g 0).length≤Ls.length){x1 q:Int}(hd0:0≤x1)(hd1:x1+1+2*(N:Int)≤1000000000)(hq0:0≤q)(hq1:q+1+(N:Int)≤1000000000)(p7 p8:List Int)(h7:p7.length=Ls.length)(h8:p8.length=Ls.length)
  {T:Nat→List jo}(hlow:∀j,j<(al N g 0).length→Md q (T (a+j))):
  ∀(m fu i:Nat) (R:Nat→List jo) (P U:List Int) (rr:Int),i+m=v.items.length→m≠0→m<fu→
   (∀(j:Nat) u,(al N g 0)[j]? =some u→R (a+j)=qQ (fun e r=>gd u e r (x1+1) (q+1)) (q+1) (v.items.drop i) rr++T (a+j))→(∀k,(k<a∨a+(al N g 0).length≤k)→R k=T k)→At Ls R P U→
   ∃P' U',aL fld f (a:Int) q p7 p8 x1 fu P U (v.items.take i) (lw Ls) false true=some (⟨6,0,0,ByteArray.empty,v.items⟩,lw Ls,false,P',U')∧At Ls T P' U':=by
 have hw:=iV N g 0 hVg hsg
 have hvi:=ec v.items
 have hve:=fg v
 have hfin:∀(fu:Nat) (P U:List Int),0<fu→At Ls T P U→aL fld f (a:Int) q p7 p8 x1 fu P U v.items (lw Ls) false false=some (⟨6,0,0,ByteArray.empty,v.items⟩,lw Ls,false,P,U):=by
  intro fu P U hfu h
  obtain⟨fu,rfl⟩:=aX hfu
  rw[aL,ay]
  unfold bQ cj
  rw[ay,mh,aj,aB (by rw[h.p,h7]),aB (by rw[h.u,h8]),hk]
 intro m
 induction m with
 |zero=>intro fu i R P U rr _ h0;exact absurd rfl h0
 |succ m ihm=>
  intro fu i R P U rr hi _ hfu hR hT h
  obtain⟨fu,rfl⟩:=aX hfu
  have h1:i<v.items.length:=by omega
  have hsz:=cE (kf h1)
  have hdr:=cO h1
  have hw1:i64.wrap (x1+1)=x1+1:=jC (by omega) (by omega)
  have hw2:i64.wrap (q+1)=q+1:=jC (by omega) (by omega)
  let T1:Nat→List jo:=fun k=>if h:a≤k∧k<a+(al N g 0).length then qQ (fun e r=>gd ((al N g 0)[k-a]'(by omega)) e r (x1+1) (q+1)) (q+1) (v.items.drop (i+1)) (q+1)++T k else T k
  have hT1:∀(j:Nat) u,(al N g 0)[j]? =some u→T1 (a+j)=qQ (fun e r=>gd u e r (x1+1) (q+1)) (q+1) (v.items.drop (i+1)) (q+1)++T (a+j):=by
   intro j u hj
   obtain⟨hjl,hju⟩:=gN.1 hj
   have e:a+j-a=j:=by omega
   simp only[T1]
   rw[dif_pos ⟨by omega,by omega⟩]
   simp only[e]
   rw[hju]
  have hT1o:∀k,(k<a∨a+(al N g 0).length≤k)→T1 k=T k:=by
   intro k hk
   simp only[T1]
   rw[dif_neg (by omega)]
  have hshp:∀u,u∈al N g 0→∀i,i<v.items.length→EL u∧tM u (iv v i):=fun u hu i hi=>⟨rI hu,pQ hu hVg (hchk i hi)⟩
  have hlow1:∀j,j<(al N g 0).length→Md (q+1) (T1 (a+j)):=by
   intro j hj
   rw[hT1 j _ (gu hj)]
   by_cases hm:i+1<v.items.length
   ·rw[cO hm]
    simp only[qQ]
    obtain⟨e1,e2⟩:=hshp _ (kf hj) (i+1) hm
    rw[nt hm]
    obtain⟨d1,x,t,he,_⟩:=iO _ _ (q+1) (x1+1) (q+1) e1 e2
    rw[he]
    exact Int.le_refl _
   ·rw[List.drop_of_length_le (by omega)]
    exact(hlow j hj).le (by omega)
  obtain⟨P',U',hf,hA⟩:=ih g 0 a rr (x1+1) (q+1) dd (iv v i) R T1 P U hVg hsg (hchk i h1) (by rw[←nt h1];omega) hn (by omega) (by omega) (by omega) (by omega)
   ⟨fun j w hj=>by rw[hR j w hj,hT1 j w hj,hdr,←nt h1];simp only[qQ,List.append_assoc],fun k hk=>by rw[hT k hk,hT1o k hk],hlow1⟩ h
  obtain⟨l1,l2⟩:=h.lens hA
  have hgat:at? f.type.fields (0:Int)=some g:=dl (i:=0) hg
  have hm:=JK hA (k:=a) (by omega) q (α:=aa×List ae×Bool×List Int×List Int)
   (fun e4=>aL fld f (a:Int) q p7 p8 x1 fu P' U' (v.items.take i++[iv v i]) (lw Ls) false (decide (q<e4)))
   (aL fld f (a:Int) q p7 p8 x1 fu P' U' (v.items.take i++[iv v i]) (lw Ls) false false)
  have htk:v.items.take i++[iv v i]=v.items.take (i+1):=by rw[←nt h1,List.take_succ_eq_append_getElem h1]
  rw[aL,aQ]
  unfold bQ
  rw[Bool.not_false,aQ,hgat,aj,hw1,hw2,hf,aj]
  simp only
  rw[aB l1,aB l2,aB (by rw[List.length_take];omega),hm]
  have h0:(al N g 0)[0]? =some (al N g 0)[0]:=gu hw
  have hTa:=hT1 0 _ h0
  rw[Nat.add_zero]at hTa
  by_cases hlast:i+1<v.items.length
  ·obtain⟨e1,e2⟩:=hshp _ (kf hw) (i+1) hlast
   obtain⟨d1,x,t,he,_⟩:=iO _ _ (q+1) (x1+1) (q+1) e1 e2
   have hTc:T1 a=(q+1,d1,x)::(t++qQ (fun e r=>gd (al N g 0)[0] e r (x1+1) (q+1)) (q+1) (v.items.drop (i+1+1)) (q+1)++T a):=by
    rw[hTa,cO hlast,nt hlast]
    simp only[qQ,he,List.cons_append,List.append_assoc]
   rw[hTc]
   simp only
   rw[decide_eq_true (by omega),htk]
   exact ihm fu (i+1) T1 P' U' (q+1) (by omega) (by omega) (by omega) hT1 hT1o hA
  ·have hTc:T1 a=T a:=by rw[hTa,List.drop_of_length_le (by omega)];rfl
   have hTT:T1=T:=by
    funext k
    simp only[T1]
    split
    ·rw[List.drop_of_length_le (by omega)];rfl
    ·rfl
   have hlo:=hlow 0 hw
   rw[Nat.add_zero]at hlo
   rw[hTT]at hA
   have hall:v.items.take (i+1)=v.items:=List.take_of_length_le (by omega)
   have hend:=hfin fu P' U' (by omega) hA
   rw[hTc,htk,hall]
   refine⟨P',U',?_,hA⟩
   cases hTa2:T a with
   |nil=>exact hend
   |cons x t=>
    rw[hTa2]at hlo
    simp only
    have hlx:x.1≤q:=hlo
    rw[decide_eq_false (by omega)]
    exact hend
structure sX(W:List iz)(b:Nat)(x:Nat→aa)(r d q:Int)(R T:Nat→List jo):Prop where
 h:∀(s:Nat) u,W[s]? =some u→R (b+s)=gd u (x (lE u)) r d q++T (b+s)
 o:∀k,(k<b∨b+W.length≤k)→R k=T k
 l:∀s,s<W.length→Md q (T (b+s))
theorem kC{N:Nat}{f:af}{i:Nat}{w:iz}(h:w∈al N f i):lE w=i:=by
 obtain⟨u,rfl,_⟩:=pD h;rfl
theorem sX.step{N:Nat}{f:af}{j:Nat}{W:List iz}{o:Nat}{x:Nat→aa}{r d q:Int}{R T:Nat→List jo}(h:sX (al N f j++W) o x r d q R T):
  ∃T1,HX (al N f j) o (x j) r d q R T1∧sX W (o+(al N f j).length) x r d q T1 T:=by
 have hlen:(al N f j++W).length=(al N f j).length+W.length:=List.length_append
 refine⟨fun k=>if o≤k∧k<o+(al N f j).length then T k else R k,⟨fun s w hs=> ?_,fun k hk=> ?_,fun s hs=> ?_⟩,⟨fun s u hs=> ?_,fun k hk=> ?_,fun s hs=> ?_⟩⟩
 ·obtain⟨hsl,hsu⟩:=gN.1 hs
  have:=h.h s w (by rw[nq hsl];exact hs)
  rw[kC (List.mem_of_getElem? hs)]at this
  rw[this,if_pos ⟨by omega,by omega⟩]
 ·rw[if_neg (by omega)]
 ·rw[if_pos ⟨by omega,by omega⟩]
  exact h.l s (by omega)
 ·rw[if_neg (by omega)]
  have:=h.h ((al N f j).length+s) u (by rw[List.getElem?_append_right (by omega),show(al N f j).length+s-(al N f j).length=s by omega];exact hs)
  rw[Nat.add_assoc]
  exact this
 ·by_cases hb:o≤k∧k<o+(al N f j).length
  ·rw[if_pos hb]
  ·rw[if_neg hb]
   exact h.o k (by omega)
 ·have:=h.l ((al N f j).length+s) (by omega)
  rw[Nat.add_assoc];exact this
theorem sX.nil{o:Nat}{x:Nat→aa}{r d q:Int}{R T:Nat→List jo}(h:sX [] o x r d q R T):R=T:=by
 funext k;exact h.o k (by simp;omega)
theorem LE{Ls:List (List jo)}(hL:Ls.length<1000000000){N:Nat}{fld:af→Int→Int→Int→List ae→Bool→List Int→List Int→FO}(ih:wR Ls N fld)
  {f:af}(hk:f.type.kind=7)(hVf:V f.type)(hsf:br f.type.fields≤N)(hN:N≤100000000){dd:Nat}{v:aa}(hv:bS v<1000000000)(hvl:f.type.fields.length=v.items.length)(hchk:∀j g,f.type.fields[j]? =some g→Ag g dd (iv v j))
  {x1 q r:Int}(hd0:0≤x1)(hd1:x1+2*(N:Int)≤1000000000)(hq0:0≤q)(hq1:q+(N:Int)≤1000000000)(p7 p8:List Int)(h7:p7.length=Ls.length)(h8:p8.length=Ls.length){T:Nat→List jo}:
  ∀(m fu j o:Nat) (R:Nat→List jo) (P U:List Int),j+m=f.type.fields.length→m<fu→o+(dE (WY N) (f.type.fields.drop j) j).length≤Ls.length→
   sX (dE (WY N) (f.type.fields.drop j) j) o (iv v) r x1 q R T→At Ls R P U→
   ∃P' U',bq fld f q p7 p8 x1 fu P U (v.items.take j) (lw Ls) false (o:Int) (j:Int)=some (⟨7,0,0,ByteArray.empty,v.items⟩,lw Ls,false,P',U')∧At Ls T P' U':=by
 have hvi:=ec v.items
 have hve:=fg v
 have hfl:=bM f.type.fields
 intro m
 induction m with
 |zero=>
  intro fu j o R P U hj hfu ho hP h
  obtain⟨fu,rfl⟩:=aX hfu
  rw[List.drop_of_length_le (by omega)]at hP
  have hRT:R=T:=sX.nil hP
  subst hRT
  rw[bq,cw (by omega),ay]
  unfold cj
  rw[mh,aj,aB (by rw[h.p,h7]),aB (by rw[h.u,h8]),hk,List.take_of_length_le (by omega)]
  exact⟨P,U,rfl,h⟩
 |succ m ihm=>
  intro fu j o R P U hj hfu ho hP h
  obtain⟨fu,rfl⟩:=aX hfu
  have h1:j<f.type.fields.length:=by omega
  have h1v:j<v.items.length:=by omega
  have hmem:=kf h1
  have hVg:=hVf.fs _ hmem
  have hsz:=bN hmem
  have hfd:=cc f.type.fields[j]
  have hzv:=cE (m9 h1v)
  rw[cO h1,gR]at hP ho
  rw[List.length_append]at ho
  obtain⟨T1,hH,hP2⟩:=hP.step
  obtain⟨P',U',hf,hA⟩:=ih f.type.fields[j] j o r x1 q dd (iv v j) R T1 P U hVg (by omega) (hchk j _ (gu h1)) (by omega) (by omega) hd0 hd1 hq0 hq1 hH h
  obtain⟨l1,l2⟩:=h.lens hA
  have hlv:=mZ N aO f.type.fields[j] j hVg (by omega) (by rw[ar];omega) (by omega)
  rw[bq,bp h1,aQ,bf h1,aj,hf,aj]
  simp only
  rw[aB l1,aB l2,aB (by rw[List.length_take];omega),hlv,aj,jC (x:=(o:Int)+((al N f.type.fields[j] j).length:Int)) (by omega) (by omega),aD h1 (by omega),show(o:Int)+((al N f.type.fields[j] j).length:Int)=((o+(al N f.type.fields[j] j).length:Nat):Int) by omega,
   ←nt h1v,←List.take_succ_eq_append_getElem h1v]
  exact ihm fu (j+1) _ T1 P' U' (by omega) (by omega) (by omega) hP2 hA
theorem CL{Ls:List (List jo)}(hf:M5 Ls)(hL:Ls.length<1000000000):∀(N k:Nat),N<k→N≤100000000→wR Ls N (aE k)
 |0,k,hk,hN=>by
  intro f i a r d q dd v R T P U hV hs
  have:=eX f.type;omega
 |N+1,k,hk,hN=>by
  intro f i a r d q dd v R T P U hV hs hc hv hn hd0 hd1 hq0 hq1 hH h
  obtain⟨k,rfl⟩:=aX (m:=N+1) (f:=k) hk
  have ih:=CL hf hL N k (by omega) (by omega)
  have he:=eX f.type
  have hpos:=iV (N+1) f i hV hs
  have hlv:=mZ (N+1) aO f i hV hs (by rw[ar];omega) (by omega)
  have hw0:(al (N+1) f i)[0]? =some (al (N+1) f i)[0]:=gu hpos
  have hshp:∀w∈al (N+1) f i,∃u,w=(f,i)::u∧EL w∧tM w v:=fun w hw=>by
   obtain⟨u,h1,h2⟩:=pD hw
   exact⟨u,h1,rI hw,pQ hw hV hc⟩
  obtain⟨u0,hu0,hel0,hsh0⟩:=hshp _ (kf hpos)
  have hR0:=hH.h 0 _ hw0
  rw[Nat.add_zero]at hR0
  have ha:a<Ls.length:=by omega
  have haL:Ls[a]? =some Ls[a]:=gu ha
  cases dd with
  |zero=>exact hc.s.zero.elim
  |succ dd=>
  have hpl:=hc.s.succ.1
  have hkind:=tU hc.o
  have j1:¬(f.need=false∧v.kind=0)→∃P' U',cJ (aE k) f (a:Int) q P U ((al (N+1) f i).length:Int) P U (lw Ls) false (dn f d)=some (v,lw Ls,false,P',U')∧At Ls T P' U':=by
   intro h0
   have hdn0:d≤dn f d∧dn f d≤d+1:=by unfold dn;split<;>omega
   have hk0:v.kind=f.type.kind:=by
    rcases hkind with h|h
    ·cases hn:f.need with
     |true=>exact absurd ⟨hn,h⟩ hc.n
     |false=>exact absurd ⟨hn,h⟩ h0
    ·exact h
   unfold cJ
   by_cases h6:f.type.kind=6
   ·obtain⟨hbv,_⟩:=pK hpl (by omega)
    rw[show(f.type.kind==6)=true by simp[h6],aQ]
    obtain⟨d1,x,t,e1,e2,e3⟩:=sB r d q (hu0▸hel0) (hu0▸hsh0) h0
    rw[←hu0]at e1
    rw[e1,List.cons_append]at hR0
    rw[yT h haL hR0,aj]
    simp only
    rw[aB trivial,aB trivial]
    by_cases hl:v.items.length=0
    ·have hall:∀w∈al (N+1) f i,gd w v r d q=[(r,dn f d,none)]:=by
      intro w hw
      obtain⟨u,rfl,_,_⟩:=hshp w hw
      simp only[gd]
      rw[if_neg h0,if_pos h6,if_pos hl]
     have:=hall _ (kf hpos)
     rw[e1]at this
     have hd1':d1=dn f d:=by simp at this;exact this.1.1
     obtain⟨P',hT,hA⟩:=wn hf hL hn hH hall h
     obtain⟨l1,l2⟩:=h.lens hA
     rw[decide_eq_true (by omega),aQ,hT,aj]
     simp only
     rw[aB l1,aB trivial,aB l1,aB trivial,h6]
     refine⟨P',U,?_,hA⟩
     rw[hbv,hk0,h6,List.eq_nil_of_length_eq_zero hl]
    ·rw[decide_eq_false (by have:=e3 h6 hl;omega),ay]
     have hlist:=hV.list h6
     obtain⟨g,hg1⟩:∃g,f.type.fields=[g]:=by
      cases hff:f.type.fields with
      |nil=>rw[hff]at hlist;simp at hlist
      |cons g gs=>rw[hff]at hlist;simp at hlist;subst hlist;exact⟨g,rfl⟩
     have hg:f.type.fields[0]? =some g:=by rw[hg1];rfl
     have hgm:g∈f.type.fields:=by rw[hg1];exact List.mem_cons_self ..
     have hlf:ln f=false:=by unfold ln;simp[h6]
     have hways:al (N+1) f i=(al N g 0).map ((f,i)::·):=by
      rw[al,hlf,if_neg (by simp),hg1]
      show(dE (WY N) [g] 0).map _=_
      rw[gR];simp[dE]
     have hwl:(al (N+1) f i).length=(al N g 0).length:=by rw[hways,List.length_map]
     have h1:=bN hgm
     have h2:=cc g
     have hres:=JQ hL ih h6 hg (hV.fs g hgm) (by omega) hv (fun i hi=>se hc hV hi (by rw[if_pos h6];exact hg)) (a:=a) (by omega) (x1:=dn f d) (q:=q) (by omega) (by omega) (by omega) (by omega) P U h.p h.u
      (T:=T) (fun j hj=>hH.l j (by omega)) v.items.length aO 0 R P U r (by omega) hl (by rw[ar];have:=ec v.items;have:=fg v;omega)
      (fun j u hj=>by
       have:=hH.h j ((f,i)::u) (by rw[hways,List.getElem?_map,hj];rfl)
       rw[this,List.drop_zero]
       simp only[gd]
       rw[if_neg h0,if_pos h6,if_neg hl]) (fun k hk=>hH.o k (by omega)) h
     obtain⟨P',U',r1,r2⟩:=hres
     rw[List.take_zero]at r1
     refine⟨P',U',?_,r2⟩
     rw[r1,hbv,hk0,h6]
   ·rw[show(f.type.kind==6)=false by simp[h6],ay]
    by_cases h7:f.type.kind=7
    ·obtain⟨hbv,_⟩:=pK hpl (by omega)
     rw[show(f.type.kind==7)=true by simp[h7],aQ]
     have hlf:ln f=false:=by unfold ln;simp[h7]
     have hways:al (N+1) f i=(dE (WY N) f.type.fields 0).map ((f,i)::·):=by
      rw[al,hlf,if_neg (by simp)];rfl
     have hwl:(al (N+1) f i).length=(dE (WY N) f.type.fields 0).length:=by rw[hways,List.length_map]
     have hlen:=A0 hc.o hk0 h7
     have hres:=LE hL ih h7 hV (by omega) (by omega) hv hlen (fun j g hg=>by
       have hjl:j<f.type.fields.length:=(gN.1 hg).1
       exact se hc hV (by omega) (by rw[if_neg h6];exact hg)) (x1:=dn f d) (q:=q) (r:=r) (by omega) (by omega) (by omega) (by omega) P U h.p h.u (T:=T)
      f.type.fields.length aO 0 a R P U (by omega) (by rw[ar];have:=bM f.type.fields;omega) (by rw[List.drop_zero];omega)
      ⟨fun s u hs=>by
       rw[List.drop_zero]at hs
       have:=hH.h s ((f,i)::u) (by rw[hways,List.getElem?_map,hs];rfl)
       rw[this]
       simp only[gd]
       rw[if_neg h0,if_neg h6,if_pos h7],fun k hk=>hH.o k (by rw[List.drop_zero]at hk;omega),fun s hs=>hH.l s (by rw[List.drop_zero]at hs;omega)⟩ h
     obtain⟨P',U',r1,r2⟩:=hres
     rw[List.take_zero]at r1
     refine⟨P',U',?_,r2⟩
     have r1':bq (aE k) f q P U (dn f d) aO P U [] (lw Ls) false (a:Int) (0:Int)=_:=r1
     rw[r1',hbv,hk0,h7]
    ·rw[show(f.type.kind==7)=false by simp[h7],ay]
     have hlf:ln f=true:=by unfold ln;simp[h6,h7]
     have hways:al (N+1) f i=[[(f,i)]]:=by rw[al,hlf,if_pos rfl]
     have hwl:(al (N+1) f i).length=1:=by rw[hways];rfl
     have hR:R a=(r,dn f d,some v)::T a:=by
      have:=hH.h 0 [(f,i)] (by rw[hways];rfl)
      rw[Nat.add_zero]at this
      rw[this]
      simp only[gd]
      rw[if_neg h0,if_neg h6,if_neg h7];rfl
     obtain⟨D,L,g1,g2,g3,g4,g5,g6,g7,g8⟩:=GM hf hL ha hR (fun k hk=>hH.o k (by omega)) h
     rw[g3,aj]
     simp only
     have hitems:v.items=[]:=fL hpl (by omega) (by omega)
     rw[aB (by simp),aB trivial,g4,aj,xg g1,aj,show((((pM D).length:Nat):Int)==((hY c0 L).values.length:Int))=false by simp;omega,ay,g5,aj,F1 hitems,aj,jC (x:=((pM D).length:Int)+1) (by omega) (by omega),
      aB (by simp),aB (by simp),show((a:Int)).toNat=a by omega]
     exact⟨_,_,rfl,g8⟩
  rw[aE,ay,hlv,aj]
  cases hnd:f.need with
  |true=>
   rw[Bool.not_true,ay]
   have:=j1 (by simp[hnd])
   rw[show dn f d=d by unfold dn;rw[if_pos hnd]]at this
   exact this
  |false=>
   rw[Bool.not_false,aQ]
   by_cases hv0:v.kind=0
   ·have hall:∀w∈al (N+1) f i,gd w v r d q=[(r,d,none)]:=by
     intro w hw
     obtain⟨u,rfl,_,_⟩:=hshp w hw
     simp only[gd]
     rw[if_pos ⟨hnd,hv0⟩]
    rw[hall _ (kf hpos),List.cons_append]at hR0
    obtain⟨P',hT,hA⟩:=wn hf hL hn hH hall h
    obtain⟨l1,l2⟩:=h.lens hA
    obtain⟨hbv,hit⟩:=pK hpl (by omega)
    rw[yT h haL hR0,aj]
    simp only
    rw[aB trivial,aB trivial,decide_eq_true (Int.le_refl _),aQ,hT,aj]
    simp only
    rw[aB l1,aB trivial,aB l1,aB trivial]
    refine⟨P',U,?_,hA⟩
    rw[hbv,hv0,hit hv0]
   ·have h0:¬(f.need=false∧v.kind=0):=fun h=>hv0 h.2
    obtain⟨d1,x,t,e1,e2,e3⟩:=sB r d q (hu0▸hel0) (hu0▸hsh0) h0
    rw[←hu0]at e1
    have hdn:dn f d=d+1:=by unfold dn;simp[hnd]
    have hR1:=hR0
    rw[e1,List.cons_append]at hR1
    rw[yT h haL hR1,aj]
    simp only
    rw[aB trivial,aB trivial,decide_eq_false (by omega),ay,jC (x:=d+1) (by omega) (by omega)]
    have:=j1 h0
    rw[hdn]at this
    exact this
theorem wu{x:Int}:IntKind.u64.wrap x=x%18446744073709551616:=by
 rfl
structure W4(w:cy):Prop where
 a:0≤w.size.1∧w.size.1<18446744073709551616
 b:0≤w.size.2.1∧w.size.2.1<18446744073709551616
 c:0≤w.size.2.2.1∧w.size.2.2.1<18446744073709551616
 d:0≤w.size.2.2.2∧w.size.2.2.2<18446744073709551616
theorem s4(x:Int):0≤x%18446744073709551616∧x%18446744073709551616<18446744073709551616:=⟨Int.emod_nonneg _ (by decide),Int.emod_lt_of_pos _ (by decide)⟩
theorem qg(p q:Int):∃a b,gj p q=some (a,b)∧0≤b:=by
 unfold gj
 simp only[aj]
 exact⟨_,_,rfl,by rw[wu];exact(s4 _).1⟩
theorem Du(p:cy)(q:Int):∃r,ko p q=some r∧W4 r:=by
 obtain⟨a1,b1,h1,g1⟩:=qg p.size.1 q
 obtain⟨a2,b2,h2,g2⟩:=qg p.size.2.1 q
 obtain⟨a3,b3,h3,g3⟩:=qg p.size.2.2.1 q
 obtain⟨a4,b4,h4,g4⟩:=qg p.size.2.2.2 q
 unfold ko
 rw[h1,aj,aB ⟨g1,by decide,by decide,by decide⟩,aj,h2,aj,aB ⟨g2,by rw[wu];exact(s4 _).1,by decide,by decide⟩,aj,h3,aj,aB ⟨g3,by rw[wu];exact(s4 _).1,by decide,by decide⟩,aj,h4,aj,aB ⟨g4,by rw[wu];exact(s4 _).1,by decide,by decide⟩,aj]
 exact⟨_,rfl,⟨s4 _,s4 _,s4 _,s4 _⟩⟩
theorem AR{p2:Int}(h2:p2≤1000):∀(m k:Nat) (z1:Bool) (z2 z3 z4 z5:Int) (i:Nat),(i:Int)+m=p2∨(m=0∧p2≤(i:Int))→m<k→W4 ⟨z1,z2,z3,z4,z5⟩→∃r,cV p2 k z1 z2 z3 z4 z5 (i:Int)=some r∧W4 r:=by
 intro m
 induction m with
 |zero=>
  intro k z1 z2 z3 z4 z5 i hi hk h
  obtain⟨k,rfl⟩:=aX hk
  rw[cV,decide_eq_false (by omega),ay]
  exact⟨_,rfl,h⟩
 |succ m ih=>
  intro k z1 z2 z3 z4 z5 i hi hk h
  obtain⟨k,rfl⟩:=aX hk
  obtain⟨r,h3,h4⟩:=Du ⟨z1,z2,z3,z4,z5⟩ 10
  rw[cV,decide_eq_true (by omega),aQ,h3,aj,jC (x:=(i:Int)+1) (by omega) (by omega),show(i:Int)+1=((i+1:Nat):Int) by omega]
  exact ih k _ _ _ _ _ (i+1) (by omega) (by omega) ⟨h4.a,h4.b,h4.c,h4.d⟩
theorem Cp(n:Int){s:Int}(h0:0≤s)(h1:s≤1000):∃r,lM n s=some r∧W4 r:=by
 have hw:∃r,oR n=some r∧W4 r:=by
  unfold oR
  by_cases h:n<0
  ·rw[decide_eq_true h,aQ]
   exact⟨_,rfl,⟨by show 0≤IntKind.u64.wrap _∧_;rw[wu];exact s4 _,⟨Int.le_refl 0,by show(0:Int)<18446744073709551616;decide⟩,⟨Int.le_refl 0,by show(0:Int)<18446744073709551616;decide⟩,⟨Int.le_refl 0,by show(0:Int)<18446744073709551616;decide⟩⟩⟩
  ·rw[decide_eq_false h,ay]
   exact⟨_,rfl,⟨by show 0≤IntKind.u64.wrap _∧_;rw[wu];exact s4 _,⟨Int.le_refl 0,by show(0:Int)<18446744073709551616;decide⟩,⟨Int.le_refl 0,by show(0:Int)<18446744073709551616;decide⟩,⟨Int.le_refl 0,by show(0:Int)<18446744073709551616;decide⟩⟩⟩
 obtain⟨w,h2,h3⟩:=hw
 obtain⟨r,h4,h5⟩:=AR h1 s.toNat aO w.neg w.size.1 w.size.2.1 w.size.2.2.1 w.size.2.2.2 0 (by omega) (by rw[ar];omega) ⟨h3.a,h3.b,h3.c,h3.d⟩
 unfold lM lA
 rw[h2,aj]
 have h4':cV s aO w.neg w.size.1 w.size.2.1 w.size.2.2.1 w.size.2.2.2 (0:Int)=some r:=h4
 simp only
 rw[h4',aj]
 exact⟨_,rfl,⟨h5.a,h5.b,h5.c,h5.d⟩⟩
theorem DE(w:cy):jK w w=some 0:=by
 unfold jK
 simp only[Int.lt_irrefl,decide_false,ay]
theorem Dv{w:cy}(h:W4 w):jg w w=some 0:=by
 obtain⟨s,a,b,c,d⟩:=w
 have ha:=h.a;have hb:=h.b;have hc:=h.c;have hd:=h.d
 simp only at ha hb hc hd
 have hB:aO=1152921504606846975+1:=rfl
 unfold jg
 rw[hB,gO]
 simp only
 rw[show(s==s)=true by simp,Bool.not_true,ay,DE,aj,show decide ((0:Int)<0)=false from rfl,ay]
 unfold iE
 rw[if_neg (by omega),aB (by omega),aB (by omega),aj,if_neg (by omega),aj,aB (by omega),if_neg (by omega),aB (by omega),aj,aj,aj]
 unfold nF
 simp only
 rw[show a-a-0=0 by omega,show b-b-0=0 by omega,show c-c-0=0 by omega,show d-d-0=0 by omega]
 rfl
theorem yq(a:Int):im a a=some 0:=by
 unfold im nf
 rw[bne_self_eq_false,aj,aj,ay,ay,decide_eq_false (by omega),ay,ay]
theorem E9:∀l:List UInt8,Op.bytesLess l l=false
 |[]=>rfl
 |x::l=>by
  simp[Op.bytesLess,E9 l]
theorem Df(s:ByteArray):jm s s=some 0:=by
 unfold jm kl
 simp[aj,ay,E9]
theorem PH:mQ [0,0,0]=some 0:=by decide+kernel
theorem Po:mQ [0,0]=some 0:=by decide+kernel
theorem Ar{v:aa}(hi:v.items=[])(k:Nat):gU (k+2) v v=some 0:=by
 have hB:aO=1152921504606846975+1:=rfl
 rw[gU,yq,aj,Df,aj,aG,hi,hB,aC]
 show aK (aF (decide ((0:Int)<0)) _ _) _=_
 rw[show decide ((0:Int)<0)=false from rfl,ay]
 unfold be
 show aK (aF (decide ((0:Int)<0)) _ _) _=_
 rw[show decide ((0:Int)<0)=false from rfl,ay,aj,PH];rfl
theorem Dw{v:aa}(h:wy v):gB aO v v=some 0:=by
 have hi:=fL h.1 h.2.1 h.2.2
 have hB:aO=1152921504606846973+2+1:=rfl
 rw[hB,gB,bne_self_eq_false,ay]
 have hj2:iL (gU (1152921504606846973+2)) v v=some 0:=by
  unfold iL
  rw[yq,aj,Ar hi,aj,Po];rfl
 by_cases h0:v.kind=0
 ·rw[show(v.kind==0)=true by simp[h0],aQ]
 ·rw[show(v.kind==0)=false by simp[h0],ay]
  by_cases h3:v.kind=3
  ·obtain⟨a,b⟩:=qC h.1 h3
   obtain⟨r,g1,g2⟩:=Cp v.n (s:=12-v.scale) (by omega) (by omega)
   have hwi:eF v.scale 0 12=some true:=by
    unfold eF
    simp[jr,aF,b.1,b.2]
   rw[show(v.kind==3)=true by simp[h3],aQ,hwi,aj,aj,aQ]
   unfold kh
   rw[aQ,jC (x:=12-v.scale) (by omega) (by omega),g1,aj,aj]
   rw[Dv ⟨g2.a,g2.b,g2.c,g2.d⟩,aj,Ar hi,aj,Po];rfl
  ·rw[show(v.kind==3)=false by simp[h3],ay,hj2]
theorem Eg{v:aa}(h:wy v):qZ v=true:=by
 have hi:=fL h.1 h.2.1 h.2.2
 have hc:wE v 0≤1:=by unfold wE;split<;>omega
 unfold qZ
 simp only[gk]
 rw[if_neg (by rw[h.1];simp;omega),hi]
 rfl
theorem Bb{v:aa}(h:wy v)(hv:bS v<1000000000):mt v v=some true:=by
 unfold mt jJ
 rw[Dw h,aj,show((0:Int)==0)=true from rfl,aQ,Ew v hv,Eg h,aj]
theorem Cb{l:List Int}(hl:l.length≤4000000000):dQ l l=some true:=by
 have:∀(m f i:Nat),i+m=l.length→m<f→bP l l f (i:Int)=some true:=by
  intro m
  induction m with
  |zero=>
   intro f i hi hf
   obtain⟨f,rfl⟩:=aX hf
   rw[bP,cw (by omega),ay];rfl
  |succ m ih=>
   intro f i hi hf
   obtain⟨f,rfl⟩:=aX hf
   have h1:i<l.length:=by omega
   rw[bP,bp h1,aQ,bf h1,aj,aj,bne_self_eq_false,ay,jC (x:=(i:Int)+1) (by omega) (by omega),show(i:Int)+1=((i+1:Nat):Int) by omega,ih f (i+1) (by omega) (by omega)]
 unfold dQ
 rw[bne_self_eq_false,ay]
 exact this l.length aO 0 (by omega) (by rw[ar];omega)
theorem Cz{l:List aa}(hl:l.length≤4000000000)(h:∀v∈l,wy v∧bS v<1000000000):aH l l=some true:=by
 have:∀(m f i:Nat),i+m=l.length→m<f→ap l l f (i:Int)=some true:=by
  intro m
  induction m with
  |zero=>
   intro f i hi hf
   obtain⟨f,rfl⟩:=aX hf
   rw[ap,cw (by omega),ay];rfl
  |succ m ih=>
   intro f i hi hf
   obtain⟨f,rfl⟩:=aX hf
   have h1:i<l.length:=by omega
   obtain⟨g1,g2⟩:=h _ (kf h1)
   rw[ap,bp h1,aQ,bf h1,aj,aj,Bb g1 g2,aj,Bool.not_true,ay,jC (x:=(i:Int)+1) (by omega) (by omega),show(i:Int)+1=((i+1:Nat):Int) by omega,ih f (i+1) (by omega) (by omega)]
 unfold aH
 rw[bne_self_eq_false,ay]
 exact this l.length aO 0 (by omega) (by rw[ar];omega)
theorem CY{c:ae}(h:EV c)(hs:∀v∈c.values,bS v<1000000000):kj c c=some true:=by
 unfold kj ik
 rw[Cb h.a,aj,aQ,Cb h.b,aj,aQ,Cz h.e (fun v hv=>⟨(h.d v hv).1,hs v hv⟩),aj]
theorem wl:∀(d k:Nat) (v:aa),Fv d v→bS v<1000000000→d≤k→bY k v v=some 0
 |0,k,v,h,_,_=>h.zero.elim
 |d+1,k,v,h,hv,hk=>by
  obtain⟨k,rfl⟩:=aX (m:=d) (f:=k) (by omega)
  have he:=fg v
  have hl:=ec v.items
  have hj:=qa (bY k) (v:=v) (by omega) (by omega) (fun x hx=>by
   have:=cE hx
   exact wl d k x (h.succ.2 x hx) (by omega) (by omega))
  rw[bY,show((v.kind==0)==(v.kind==0))=true by simp,Bool.not_true,ay,bne_self_eq_false,ay,hj]
  by_cases h0:v.kind=0
  ·rw[show(v.kind==0)=true by simp[h0],aQ]
  ·rw[show(v.kind==0)=false by simp[h0],ay]
   by_cases h3:v.kind=3
   ·obtain⟨a,b⟩:=qC h.succ.1 h3
    rw[show(v.kind==3)=true by simp[h3],aQ,BZ a b,aj,bne_self_eq_false,ay]
   ·rw[show(v.kind==3)=false by simp[h3],ay]
theorem Gw{l:List aa}(h:∀v∈l,Fv 4 v)(hl:ca l<1000000000):fx l l=some 0:=by
 unfold fx
 have hb:aO=1152921504606846974+1+1:=rfl
 have hlen:=ec l
 have hj:=qa (bY (1152921504606846974+1)) (v:=aa.mk (6:Int) (0:Int) (0:Int) ByteArray.empty l) (by show ByteArray.empty.size<_;rw[tc];omega) (by show l.length≤_;omega) (fun x hx=>by
  have hx':x∈l:=hx
  have:=cE hx'
  exact wl 4 _ x (h x hx) (by omega) (by omega))
 rw[hb,bY]
 simp only[show((6:Int)==0)=false from rfl,show((6:Int) != 6)=false from rfl,show((6:Int)==3)=false from rfl,BEq.rfl,Bool.not_true,ay]
 rw[hj];rfl
theorem Gx{l:List (List aa)}(h:∀r∈l,(∀v∈r,Fv 4 v)∧ca r<1000000000)(hl:l.length<1000000000):mP l l=some true:=by
 have:∀(m f i:Nat),i+m=l.length→m<f→gy l l f (i:Int)=some true:=by
  intro m
  induction m with
  |zero=>
   intro f i hi hf
   obtain⟨f,rfl⟩:=aX hf
   rw[gy,cw (by omega),ay];rfl
  |succ m ih=>
   intro f i hi hf
   obtain⟨f,rfl⟩:=aX hf
   have h1:i<l.length:=by omega
   obtain⟨g1,g2⟩:=h _ (kf h1)
   rw[gy,bp h1,aQ,bf h1,aj,aj,bne_self_eq_false,ay,Gw g1 g2,aj]
   unfold nY
   rw[show((0:Int) != 0)=false from rfl,ay,aD h1 hl,ih f (i+1) (by omega) (by omega)]
 unfold mP
 rw[bne_self_eq_false,ay]
 exact this l.length aO 0 (by omega) (by rw[ar];omega)
def Hb(fs:List af)(rows:List (List aa)):List (List jo):=(WS fs).map fun w=>dg w rows
def RE(fs:List af)(rows:List (List aa))(k:Nat):List jo:=match(WS fs)[k]? with
 |some w=>dg w rows
 |none=>[]
theorem Cs{fs:List af}{rows:List (List aa)}{k:Nat}{w:iz}(h:(WS fs)[k]? =some w):RE fs rows k=dg w rows:=by unfold RE;rw[h]
theorem AL{fs:List af}{r:List aa}{rows:List (List aa)}{k:Nat}{w:iz}(h:(WS fs)[k]? =some w):RE fs (r::rows) k=gd w (rv r (lE w)) 0 0 0++RE fs rows k:=by
 rw[Cs h,Cs h];simp[dg]
theorem oO(fs:List af)(rows:List (List aa)):(Hb fs rows).length=(WS fs).length:=by simp[Hb]
theorem ud(fs:List af)(rows:List (List aa)):lw (Hb fs rows)=bn fs rows:=by
 unfold lw Hb bn
 rw[List.map_map];rfl
theorem qM(fs:List af):WS fs=dE (WY (br fs)) fs 0:=rfl
theorem LA{Ls:List (List jo)}(hL:Ls.length<1000000000){N:Nat}(ih:wR Ls N (aE aO))
  {fs:List af}(hV:∀f∈fs,V f.type)(hsf:br fs≤N)(hN:N≤100000000){dd:Nat}{r:List aa}(hr:ca r<1000000000)(hrl:fs.length=r.length)(hchk:∀j g,fs[j]? =some g→Ag g dd (rv r j))
  (rec1:List Int→List Int→List (List aa)→List ae→Bool→Option (List (List aa)×Bool))(l3:List (List aa))(h3:l3.length+1≤4294967296){T:Nat→List jo}:
  ∀(m fu j o:Nat) (R:Nat→List jo) (P U:List Int),j+m=fs.length→m<fu→o+(dE (WY N) (fs.drop j) j).length≤Ls.length→
   sX (dE (WY N) (fs.drop j) j) o (rv r) 0 0 0 R T→At Ls R P U→
   ∃P' U',bV rec1 fs l3 fu P U (r.take j) (lw Ls) false (o:Int) (j:Int)=rec1 P' U' (l3++[r]) (lw Ls) false∧At Ls T P' U':=by
 have hvi:=ec r
 have hfl:=bM fs
 intro m
 induction m with
 |zero=>
  intro fu j o R P U hj hfu ho hP h
  obtain⟨fu,rfl⟩:=aX hfu
  rw[List.drop_of_length_le (by omega)]at hP
  have hRT:R=T:=sX.nil hP
  subst hRT
  rw[bV,cw (by omega),ay]
  unfold gY
  rw[mh,aj,aB h3,List.take_of_length_le (by omega)]
  exact⟨P,U,rfl,h⟩
 |succ m ihm=>
  intro fu j o R P U hj hfu ho hP h
  obtain⟨fu,rfl⟩:=aX hfu
  have h1:j<fs.length:=by omega
  have h1v:j<r.length:=by omega
  have hmem:=kf h1
  have hVg:=hV _ hmem
  have hsz:=bN hmem
  have hfd:=cc fs[j]
  have hzv:=cE (kf h1v)
  rw[rC h1v]at hzv
  rw[cO h1,gR]at hP ho
  rw[List.length_append]at ho
  obtain⟨T1,hH,hP2⟩:=hP.step
  obtain⟨P',U',hf,hA⟩:=ih fs[j] j o 0 0 0 dd (rv r j) R T1 P U hVg (by omega) (hchk j _ (gu h1)) (by omega) (by omega) (by omega) (by omega) (by omega) (by omega) hH h
  obtain⟨l1,l2⟩:=h.lens hA
  have hlv:=mZ N aO fs[j] j hVg (by omega) (by rw[ar];omega) (by omega)
  rw[bV,bp h1,aQ,bf h1,aj,hf,aj]
  simp only
  rw[aB l1,aB l2,aB (by rw[List.length_take];omega),hlv,aj,jC (x:=(o:Int)+((al N fs[j] j).length:Int)) (by omega) (by omega),aD h1 (by omega),show(o:Int)+((al N fs[j] j).length:Int)=((o+(al N fs[j] j).length:Nat):Int) by omega,
   ←rC h1v,←List.take_succ_eq_append_getElem h1v]
  exact ihm fu (j+1) _ T1 P' U' (by omega) (by omega) (by omega) hP2 hA
structure ig(fs:List af)(rows:List (List aa)):Prop where
 room:Ie fs rows
 sc:sc fs=0
 rf:q8 fs rows=0
 cr:GV fs rows=0
theorem ig.chk{fs:List af}{rows:List (List aa)}(h:ig fs rows){r:List aa}(hr:r∈rows):r.length=fs.length∧∀j g,fs[j]? =some g→Ag g 4 (rv r j):=by
 obtain⟨hl,hrow⟩:=yC h.rf r hr
 have hf:=h.room.f
 have ht:=h.room.t
 have hsr:=n5 hr
 refine⟨hl,fun j g hg=> ?_⟩
 have hj:j<fs.length:=(gN.1 hg).1
 have hir:j<r.length:=by omega
 have hri:r[j]? =some (rv r j):=by rw[gu hir,rC hir]
 obtain⟨hc,hn⟩:=Bd hrow j g _ hg hri
 have hz:bS (rv r j)≤ca r:=cE (List.mem_of_getElem? hri)
 have hfm:=bN (List.mem_of_getElem? hg)
 have hfe:=cc g
 exact KU (by omega) (by omega) hc hn
theorem ig.ways{fs:List af}{rows:List (List aa)}(h:ig fs rows):∀w∈WS fs,EL w∧w.length≤2000000∧∀r∈rows,KV w r:=fun w hw=>
 ⟨EC hw,by have:=(Ba hw).2;have:=h.room.f;omega,fun r hr=>(FD h.room h.sc h.rf w hw r hr).1⟩
theorem ig.few{fs:List af}{rows:List (List aa)}(h:ig fs rows):M5 (Hb fs rows):=by
 intro L hL
 obtain⟨w,hw,rfl⟩:=List.mem_map.1 hL
 have:=vH (h.ways w hw).2.2
 have:=h.room.t
 omega
theorem ig.wide{fs:List af}{rows:List (List aa)}(h:ig fs rows):(WS fs).length≤2000000∧0<(WS fs).length:=by
 have hf:=h.room.f
 have hw:=Jf fs
 refine⟨by omega,?_⟩
 obtain⟨hV,_⟩:=rV (by omega) h.sc
 have hne:fs.length≠0:=V.fields (f:=⟨1,ByteArray.empty,true,⟨7,0,fs⟩⟩) hV rfl
 cases hfs:fs with
 |nil=>rw[hfs]at hne;exact absurd rfl hne
 |cons g gs=>
  have hg:g∈fs:=by rw[hfs];exact List.mem_cons_self ..
  have h1:=bN hg
  have h2:=cc g
  rw[←hfs,qM,hfs,gR,List.length_append]
  have:=iV (br (g::gs)) g 0 (hV.fs g hg) (by rw[←hfs];omega)
  omega
theorem Lz{fs:List af}{rows:List (List aa)}(h:ig fs rows):∀(m fu i:Nat),i+m=(WS fs).length→m<fu→
  cB (bn fs rows) rows ((WS fs).map (sW p0)) fu (i:Int)=some (rows,true):=by
 have hwd:=h.wide
 have hn:=h.room.n
 have ht:=h.room.t
 intro m
 induction m with
 |zero=>
  intro fu i hi hfu
  obtain⟨fu,rfl⟩:=aX hfu
  rw[cB,cw (by rw[List.length_map];omega),ay]
  unfold gQ de
  rw[aB (by omega),aj]
  simp
 |succ m ihm=>
  intro fu i hi hfu
  obtain⟨fu,rfl⟩:=aX hfu
  have h1:i<(WS fs).length:=by omega
  have h2:i<((WS fs).map (sW p0)).length:=by rw[List.length_map];exact h1
  have h3:i<(bn fs rows).length:=by unfold bn;rw[List.length_map];exact h1
  have hm:=kf h1
  obtain⟨g1,g2,g3⟩:=h.ways _ hm
  have hcol:(bn fs rows)[i]=hY c0 (dg (WS fs)[i] rows):=by simp[bn]
  have hco:=Aw g3 (by omega)
  have hsz:∀v∈(hY c0 (dg (WS fs)[i] rows)).values,bS v<1000000000:=by
   intro v hv
   simp only[hY,c0,List.nil_append]at hv
   obtain⟨x,hx,hy⟩:=List.mem_filterMap.1 hv
   obtain⟨r,hr,hx⟩:=List.mem_flatMap.1 hx
   have hp:=(g3 r hr).p 0 0 0 x hx v hy
   have hz:=(g3 r hr).z
   have htm:=n5 hr
   have hit:=fL hp.1.1 hp.1.2.1 hp.1.2.2
   have he:=fg v
   rw[hit]at he
   simp only[ca]at he
   have:=hp.2
   omega
  rw[cB,bp h2,aQ,bf h2,aj,List.getElem_map,Fz g1 g2 g3 (by omega) (by omega),aj,bf h3,aj,hcol,CY hco hsz,aj,Bool.not_true,ay,jC (x:=(i:Int)+1) (by omega) (by omega),show(i:Int)+1=((i+1:Nat):Int) by omega]
  exact ihm fu (i+1) (by omega) (by omega)
theorem LB{fs:List af}{rows:List (List aa)}(h:ig fs rows):∀(m fu i:Nat) (P U:List Int),i+m=rows.length→m<fu→At (Hb fs rows) (RE fs (rows.drop i)) P U→
  aU fs (bn fs rows) fu P U (rows.take i) (bn fs rows) false=some (rows,true):=by
 have hwd:=h.wide
 have hn:=h.room.n
 have ht:=h.room.t
 have hf:=h.room.f
 have hLl:(Hb fs rows).length<1000000000:=by rw[oO];omega
 obtain⟨hV,hu⟩:=rV (by omega) h.sc
 have hfield:=CL h.few hLl (br fs) aO (by rw[ar];omega) (by omega)
 have h0:(WS fs)[0]? =some (WS fs)[0]:=gu hwd.2
 have hw0:=kf hwd.2
 have hcl:∀k (hk:k<(Hb fs rows).length),at? (bn fs rows) (k:Int)=some (hY c0 (Hb fs rows)[k]):=fun k hk=>by
  rw[←ud];exact xg (gu hk)
 intro m
 induction m with
 |zero=>
  intro fu i P U hi hfu hA
  obtain⟨fu,rfl⟩:=aX hfu
  obtain⟨D,e1,e2,e3⟩:=Eh hA (k:=0) (by rw[oO];omega)
  rw[List.drop_of_length_le (by omega),Cs h0]at e1
  simp only[dg,List.flatMap_nil,List.append_nil]at e1
  rw[ud]at e3
  have e2':at? P (0:Int)=some (D.length:Int):=e2
  have e3':at? (bn fs rows) (0:Int)=_:=e3
  have hpaths:=xa (fs:=fs) (by omega)
  have hend:=Lz h (WS fs).length aO 0 (by omega) (by rw[ar];omega)
  rw[aU,Bool.not_false,aQ,e2',aj,e3',aj,vm,e1,decide_eq_false (by omega)]
  unfold dS
  rw[ay]
  unfold eK
  rw[ay,List.take_of_length_le (by omega),wg (by omega) (rY h.room) (by omega),aj,h.cr,show((0:Int) != 0)=false from rfl]
  unfold eJ
  rw[ay,hpaths,aj]
  exact hend
 |succ m ihm=>
  intro fu i P U hi hfu hA
  obtain⟨fu,rfl⟩:=aX hfu
  have h1:i<rows.length:=by omega
  have hm:=kf h1
  have hdr:=cO h1
  obtain⟨hrl,hchk⟩:=h.chk hm
  obtain⟨D,e1,e2,e3⟩:=Eh hA (k:=0) (by rw[oO];omega)
  obtain⟨g1,g2,g3⟩:=h.ways _ hw0
  obtain⟨d1,x,t,he,_⟩:=iO _ _ 0 0 0 g1 (g3 _ hm).s
  rw[hdr,AL h0,he,List.cons_append]at e1
  rw[ud]at e3
  have e2':at? P (0:Int)=some (D.length:Int):=e2
  have e3':at? (bn fs rows) (0:Int)=_:=e3
  rw[aU,Bool.not_false,aQ,e2',aj,e3',aj,vm,e1,decide_eq_true (by rw[List.length_append,List.length_cons];omega)]
  unfold dS
  rw[aQ]
  have hparts:sX (dE (WY (br fs)) (fs.drop 0) 0) 0 (rv rows[i]) 0 0 0 (RE fs (rows.drop i)) (RE fs (rows.drop (i+1))):=by
   rw[List.drop_zero,←qM]
   refine⟨fun s u hs=> ?_,fun k hk=> ?_,fun s hs=> ?_⟩
   ·rw[Nat.zero_add,hdr,AL hs]
   ·have hk':(WS fs)[k]? =none:=List.getElem?_eq_none (by omega)
    unfold RE;rw[hk']
   ·rw[Nat.zero_add]
    have hs':(WS fs)[s]? =some (WS fs)[s]:=gu hs
    by_cases h2:i+1<rows.length
    ·obtain⟨q1,q2,q3⟩:=h.ways _ (kf hs)
     obtain⟨d2,x2,t2,he2,_⟩:=iO _ _ 0 0 0 q1 (q3 _ (kf h2)).s
     rw[cO h2,AL hs',he2]
     exact Int.le_refl _
    ·rw[List.drop_of_length_le (by omega),Cs hs']
     simp only[dg,List.flatMap_nil]
     trivial
  have hsr:=n5 hm
  obtain⟨P',U',hr,hA'⟩:=LA hLl hfield (fun f hf=>hV.fs f hf) (eo _) (by omega) (by omega) hrl.symm hchk (aU fs (bn fs rows) fu) (rows.take i) (by rw[List.length_take];omega) fs.length aO 0 0 _ P U (Nat.zero_add _) (by rw[ar];have:=bM fs;omega)
   (by rw[List.drop_zero,←qM,oO];omega) hparts hA
  rw[List.take_zero,ud]at hr
  have hr':bV (aU fs (bn fs rows) fu) fs (rows.take i) aO P U [] (bn fs rows) false (0:Int) (0:Int)=_:=hr
  rw[hr',←List.take_succ_eq_append_getElem h1]
  exact ihm fu (i+1) P' U' (by omega) (by omega) hA'
theorem Dt{fs:List af}{rows:List (List aa)}(h:ig fs rows):dT fs (bn fs rows)=some (rows,0):=by
 have hwd:=h.wide
 have hf:=h.room.f
 have hn:=h.room.n
 have hlen:(bn fs rows).length=(WS fs).length:=by unfold bn;rw[List.length_map]
 have hat:At (Hb fs rows) (RE fs (rows.drop 0)) (List.replicate (bn fs rows).length (0:Int)) (List.replicate (bn fs rows).length (0:Int)):=by
  refine⟨by rw[List.length_replicate,hlen,oO],by rw[List.length_replicate,hlen,oO],fun k L hk=>⟨[],?_,?_,?_⟩⟩
  ·unfold Hb at hk
   rw[List.getElem?_map]at hk
   obtain⟨w,hw,rfl⟩:=mE.1 hk
   rw[List.nil_append,List.drop_zero,Cs hw]
  ·have hkl:=(gN.1 hk).1
   rw[oO]at hkl
   rw[List.getElem?_replicate,if_pos (by omega)];rfl
  ·have hkl:=(gN.1 hk).1
   rw[oO]at hkl
   rw[List.getElem?_replicate,if_pos (by omega)];rfl
 have hasm:=LB h rows.length aO 0 _ _ (by omega) (by rw[ar];omega) hat
 rw[List.take_zero]at hasm
 unfold dT
 rw[Ej (by omega),aj,h.sc,show((0:Int) != 0)=false from rfl,ay,xa (by omega),aj]
 rw[show(((bn fs rows).length:Int) != (((WY (br fs+1) fs).map (sW p0)).length:Int))=false by rw[hlen,List.length_map];exact bne_self_eq_false _,ay]
 unfold gg
 rw[aB (by omega),aB (by omega),show(((bn fs rows).length:Int)).toNat=(bn fs rows).length by omega,hasm,aj]
 rfl
theorem G9{fs:List af}(hs:br fs<1000000000-1)(h:sc fs=0):ns fs≤3:=by
 obtain⟨e,h1,h2,h3⟩:=ma ⟨7,0,fs⟩ (by simp only[gb];omega)
 have hc:=Ej hs
 rw[h]at hc
 unfold dL at hc
 rw[h1]at hc
 simp only[cK,bB]at hc
 by_cases he:e=0
 ·subst he
  have:=zn (by simp only[gb];omega) h1
  rw[wX]at this
  simp only at this
  omega
 ·simp[he]at hc
theorem EP:∀(k:Nat) (v:aa),bS v<1000000000→bS v≤k→gS k v=some v
 |0,v,_,h=>by have:=pN v;omega
 |k+1,v,hv,h=>by
  have he:=fg v
  have hl:=ec v.items
  have loop:∀(m f i:Nat),i+m=v.items.length→m<f→gE (gS k) v f (v.items.take i) (i:Int)=some v:=by
   intro m
   induction m with
   |zero=>
    intro f i hi hf
    obtain⟨f,rfl⟩:=aX hf
    rw[gE,cw (by omega),ay,List.take_of_length_le (by omega)]
    unfold ng
    rw[mh,aj]
    cases v;rfl
   |succ m ih=>
    intro f i hi hf
    obtain⟨f,rfl⟩:=aX hf
    have h1:i<v.items.length:=by omega
    have hx:=cE (kf h1)
    rw[gE,bp h1,aQ,bf h1,aj,EP k _ (by omega) (by omega),aj,aB (by rw[List.length_take];omega),←List.take_succ_eq_append_getElem h1,aD h1 (by omega)]
    exact ih f (i+1) (by omega) (by omega)
  rw[gS]
  exact loop v.items.length aO 0 (by omega) (by rw[ar];omega)
def nn(l:List aa):List aa:=l.filter fun v=>decide (v.kind≠0)
def lv:iz→aa→List aa
 |[],_=>[]
 |(f,i)::u,v=>if v.kind=0 then[]else if f.type.kind=6 then v.items.flatMap (lv u)else if f.type.kind=7 then lv u (iv v (lE u))else[v]
theorem AO(a b:List aa):nn (a++b)=nn a++nn b:=by simp[nn]
theorem vL:∀(u:iz) (v:aa),v.kind=0→lv u v=[]
 |[],v,_=>rfl
 |(f,i)::u,v,h=>by simp only[lv];rw[if_pos h]
theorem AE{N:Nat}:∀{fs:List af} {i:Nat} {w:iz},w∈dE (WY N) fs i→∃j f,fs[j]? =some f∧w∈al N f (i+j)
 |[],i,w,h=>by simp[dE]at h
 |f::fs,i,w,h=>by
  rw[gR]at h
  rcases List.mem_append.1 h with h|h
  ·exact⟨0,f,rfl,h⟩
  ·obtain⟨j,g,h1,h2⟩:=AE h
   exact⟨j+1,g,by simpa using h1,by rw[show i+(j+1)=i+1+j by omega];exact h2⟩
theorem I4:∀(N:Nat) (f:af) (i:Nat) (w:iz) (dd:Nat) (v:aa) (r d q:Int),w∈al N f i→V f.type→Ag f dd v→pM (gd w v r d q)=lv w v:=by
 intro N
 induction N with
 |zero=>
  intro f i w dd v r d q hw hV hc
  cases hlf:ln f with
  |false=>
   unfold al at hw
   rw[hlf,if_neg (by simp)]at hw
   obtain⟨u,hu,_⟩:=List.mem_map.1 hw
   cases hu
  |true=>
   unfold al at hw
   rw[hlf,if_pos rfl,List.mem_singleton]at hw
   subst hw
   have hl:=of_decide_eq_true hlf
   simp only[gd,lv]
   by_cases h0:f.need=false∧v.kind=0
   ·rw[if_pos h0,if_pos h0.2];rfl
   ·have hk:v.kind≠0:=fun e=>by
     cases hn:f.need with
     |true=>exact hc.n ⟨hn,e⟩
     |false=>exact h0 ⟨hn,e⟩
    rw[if_neg h0,if_neg hl.1,if_neg hl.2,if_neg hk,if_neg hl.1,if_neg hl.2];rfl
 |succ N ih=>
  intro f i w dd v r d q hw hV hc
  cases dd with
  |zero=>exact hc.s.zero.elim
  |succ dd=>
  cases hlf:ln f with
  |true=>
   unfold al at hw
   rw[hlf,if_pos rfl,List.mem_singleton]at hw
   subst hw
   have hl:=of_decide_eq_true hlf
   simp only[gd,lv]
   by_cases h0:f.need=false∧v.kind=0
   ·rw[if_pos h0,if_pos h0.2];rfl
   ·have hk:v.kind≠0:=fun e=>by
     cases hn:f.need with
     |true=>exact hc.n ⟨hn,e⟩
     |false=>exact h0 ⟨hn,e⟩
    rw[if_neg h0,if_neg hl.1,if_neg hl.2,if_neg hk,if_neg hl.1,if_neg hl.2];rfl
  |false=>
   unfold al at hw
   rw[hlf,if_neg (by simp)]at hw
   obtain⟨u,hu,rfl⟩:=List.mem_map.1 hw
   obtain⟨j,g,hg,hu⟩:=AE (i:=0) hu
   rw[Nat.zero_add]at hu
   have hVg:=hV.fs g (List.mem_of_getElem? hg)
   simp only[gd,lv]
   by_cases h0:f.need=false∧v.kind=0
   ·rw[if_pos h0,if_pos h0.2];rfl
   ·have hk:v.kind≠0:=fun e=>by
     cases hn:f.need with
     |true=>exact hc.n ⟨hn,e⟩
     |false=>exact h0 ⟨hn,e⟩
    have hk0:v.kind=f.type.kind:=by
     rcases tU hc.o with h|h
     ·exact absurd h hk
     ·exact h
    rw[if_neg h0,if_neg hk]
    by_cases h6:f.type.kind=6
    ·rw[if_pos h6,if_pos h6]
     have hj0:j=0:=by
      have:=hV.list h6
      have:=(gN.1 hg).1
      omega
     subst hj0
     by_cases hl:v.items.length=0
     ·rw[if_pos hl,List.eq_nil_of_length_eq_zero hl];rfl
     ·rw[if_neg hl]
      have hchk:∀e∈v.items,Ag g dd e:=fun e he=>by
       obtain⟨t,ht,rfl⟩:=List.getElem_of_mem he
       rw[nt ht]
       exact se hc hV ht (by rw[if_pos h6];exact hg)
      have key:∀(l:List aa) (r:Int),(∀e∈l,Ag g dd e)→pM (qQ (fun e r=>gd u e r (dn f d+1) (q+1)) (q+1) l r)=l.flatMap (lv u):=by
       intro l
       induction l with
       |nil=>intro r _;rfl
       |cons e l ihl=>
        intro r h1
        simp only[qQ]
        rw[pM,List.filterMap_append,List.flatMap_cons]
        congr 1
        ·exact ih g _ u dd e r _ _ hu hVg (h1 e (List.mem_cons_self ..))
        ·exact ihl _ fun e he=>h1 e (List.mem_cons_of_mem _ he)
      exact key v.items r hchk
    ·have h7:f.type.kind=7:=by
      have:=of_decide_eq_false hlf
      omega
     rw[if_neg h6,if_pos h7,if_neg h6,if_pos h7]
     have hd:lE u=j:=kC hu
     have hlen:=A0 hc.o hk0 h7
     have hj:=(gN.1 hg).1
     have:=ih g _ u dd (iv v (lE u)) r (dn f d) q hu hVg (by rw[hd];exact se hc hV (by omega) (by rw[if_neg h6];exact hg))
     exact this
abbrev I(l:List Nat):List Int:=l.map fun n:Nat=>(n:Int)
abbrev g0(l:List Nat)(k:Nat):Nat:=l.getD k 0
theorem ML{l:List Nat}{k:Nat}(h:k<l.length):l[k]? =some (g0 l k):=by
 simp[g0,h]
theorem uu{l:List Nat}{k:Nat}(h:k<l.length):at? (I l) (k:Int)=some ((g0 l k:Nat):Int):=by
 apply dl
 rw[List.getElem?_map,ML h];rfl
theorem Fq{l:List Nat}{k n:Nat}:(I l).set k ((n:Nat):Int)=I (l.set k n):=by
 rw[I,I,List.map_set]
theorem fE(l:List Nat):(I l).length=l.length:=by simp
theorem nI{l:List Nat}{k j n:Nat}(h:k<l.length):g0 (l.set k n) j=if j=k then n else g0 l j:=by
 unfold g0
 rw[List.getD_eq_getElem?_getD,List.getElem?_set]
 by_cases e:k=j
 ·subst e;simp[h]
 ·rw[if_neg e,if_neg (Ne.symm e),←List.getD_eq_getElem?_getD]
theorem Fh:∀{l:List Nat} {k:Nat},k<l.length→(l.set k (g0 l k+1)).sum=l.sum+1
 |x::l,0,h=>by simp[g0];omega
 |x::l,k+1,h=>by
  have:=Fh (l:=l) (k:=k) (by simpa using h)
  simp[g0]at this⊢
  omega
def iJ(c:List ae)(k:Nat):ae:=c.getD k c0
def mn(c:List ae)(k:Nat):Nat:=min (iJ c k).reps.length (iJ c k).defs.length
theorem wQ{c:List ae}{k:Nat}(h:k<c.length):c[k]? =some (iJ c k):=by simp[iJ,h]
theorem pn{c:List ae}{k:Nat}(h:k<c.length):at? c (k:Int)=some (iJ c k):=dl (wQ h)
structure kd(c:List ae):Prop where
 n:c.length<10000000
 h:∀k,k<c.length→(iJ c k).reps.length<100000000∧(iJ c k).defs.length<100000000∧(iJ c k).values.length<100000000∧∀v∈(iJ c k).values,bS v<100000000
structure Ok(c:List ae)(bad:Bool)(p u:List Nat):Prop where
 lp:p.length=c.length
 lu:u.length=c.length
 h:∀k,k<c.length→g0 p k≤mn c k+1∧(bad=false→g0 p k≤mn c k)∧g0 u k≤(iJ c k).values.length
theorem rJ{c:List ae}(hs:kd c){k:Nat}(h:k<c.length):mn c k<100000000:=by
 have:=(hs.h k h).1
 unfold mn;omega
theorem H1{c:List ae}(hs:kd c){bad:Bool}{p u:List Nat}(h:Ok c bad p u){k:Nat}(hk:k<c.length):
  ∃d bad',cx (k:Int) c bad (I p) (I u)=some (d,c,bad',I p,I u)∧((bad'=bad∧g0 p k<mn c k)∨(d= -1∧bad'=true)):=by
 unfold cx
 rw[pn hk,aj,uu (by rw[h.lp];exact hk),aj]
 by_cases h1:g0 p k<(iJ c k).defs.length
 ·rw[decide_eq_true (by omega),aQ]
  unfold cD
  by_cases h2:g0 p k<(iJ c k).reps.length
  ·rw[decide_eq_true (by omega),aQ,uu (by rw[h.lp];exact hk),aj,bf h1,aj]
   exact⟨_,_,rfl,.inl ⟨rfl,by unfold mn;omega⟩⟩
  ·rw[decide_eq_false (by omega),ay]
   exact⟨_,_,rfl,.inr ⟨rfl,rfl⟩⟩
 ·rw[decide_eq_false (by omega),ay]
  unfold cD
  rw[ay]
  exact⟨_,_,rfl,.inr ⟨rfl,rfl⟩⟩
def tR(p:List Nat)(a:Nat):Nat→List Nat
 |0=>p
 |n+1=>(tR p a n).set (a+n) (g0 (tR p a n) (a+n)+1)
theorem iI(p:List Nat)(a:Nat):∀n,(tR p a n).length=p.length
 |0=>rfl
 |n+1=>by rw[tR,List.length_set,iI p a n]
theorem ni{p:List Nat}{a:Nat}:∀{n:Nat},a+n≤p.length→∀k,g0 (tR p a n) k=if a≤k∧k<a+n then g0 p k+1 else g0 p k
 |0,_,k=>by rw[tR,if_neg (by omega)]
 |n+1,h,k=>by
  rw[tR,nI (by rw[iI];omega),ni (n:=n) (by omega),ni (n:=n) (by omega),if_neg (show¬(a≤a+n∧a+n<a+n) by omega)]
  by_cases e:k=a+n
  ·subst e;rw[if_pos rfl,if_pos (by omega)]
  ·rw[if_neg e]
   by_cases h2:a≤k∧k<a+n
   ·rw[if_pos h2,if_pos (by omega)]
   ·rw[if_neg h2,if_neg (by omega)]
theorem u3{p:List Nat}{a:Nat}:∀{n:Nat},a+n≤p.length→(tR p a n).sum=p.sum+n
 |0,_=>rfl
 |n+1,h=>by
  rw[tR,Fh (by rw[iI];omega),u3 (n:=n) (by omega)];omega
structure Lo(c:List ae)(p u:List Nat):Prop where
 lp:p.length=c.length
 lu:u.length=c.length
 h:∀k,k<c.length→g0 p k≤mn c k∧g0 u k≤(iJ c k).values.length
theorem Ok.lo{c:List ae}{p u:List Nat}(h:Ok c false p u):Lo c p u:=⟨h.lp,h.lu,fun k hk=>⟨(h.h k hk).2.1 rfl,(h.h k hk).2.2⟩⟩
theorem F0{c:List ae}(hs:kd c){p u:List Nat}(h:Lo c p u){a n:Nat}(hn:a+n≤c.length)(p5 p6:List Int)(h5:p5.length=c.length)(h6:p6.length=c.length):
  ∀(m f i:Nat) (bad:Bool),a≤i→i+m=a+n→m<f→
   ∃bad',bj (a:Int) (n:Int) p5 p6 f (I (tR p a (i-a))) (I u) c bad (i:Int)=some ((),c,bad',I (tR p a n),I u)∧(bad'=false→bad=false∧∀k,i≤k→k<a+n→g0 p k<mn c k):=by
 have hw:i64.wrap ((a:Int)+(n:Int))=((a+n:Nat):Int):=by rw[jC (by have:=hs.n;omega) (by have:=hs.n;omega)];omega
 have hc:=hs.n
 intro m
 induction m with
 |zero=>
  intro f i bad hai hi hf
  obtain⟨f,rfl⟩:=aX hf
  rw[bj,hw,cw (by omega),ay,aB (by rw[fE,iI,h.lp,h5]),aB (by rw[fE,h.lu,h6]),show i-a=n by omega]
  exact⟨bad,rfl,fun e=>⟨e,fun k h1 h2=>by omega⟩⟩
 |succ m ih=>
  intro f i bad hai hi hf
  obtain⟨f,rfl⟩:=aX hf
  have hic:i<c.length:=by omega
  have hok:Ok c true (tR p a (i-a)) u:=⟨by rw[iI,h.lp],h.lu,fun k hk=>⟨by
   rw[ni (by rw[h.lp];omega)]
   have:=(h.h k hk).1
   split<;>omega,(fun e=>by cases e),(h.h k hk).2⟩⟩
  have hok':Ok c bad (tR p a (i-a)) u→True:=fun _=>trivial
  obtain⟨d,b1,h1,h2⟩:∃d bad',cx (i:Int) c bad (I (tR p a (i-a))) (I u)=some (d,c,bad',I (tR p a (i-a)),I u)∧((bad'=bad∧g0 (tR p a (i-a)) i<mn c i)∨(d= -1∧bad'=true)):=by
   unfold cx
   rw[pn hic,aj,uu (by rw[iI,h.lp];exact hic),aj]
   by_cases h1:g0 (tR p a (i-a)) i<(iJ c i).defs.length
   ·rw[decide_eq_true (by omega),aQ]
    unfold cD
    by_cases h2:g0 (tR p a (i-a)) i<(iJ c i).reps.length
    ·rw[decide_eq_true (by omega),aQ,uu (by rw[iI,h.lp];exact hic),aj,bf h1,aj]
     exact⟨_,_,rfl,.inl ⟨rfl,by unfold mn;omega⟩⟩
    ·rw[decide_eq_false (by omega),ay]
     exact⟨_,_,rfl,.inr ⟨rfl,rfl⟩⟩
   ·rw[decide_eq_false (by omega),ay]
    unfold cD
    rw[ay]
    exact⟨_,_,rfl,.inr ⟨rfl,rfl⟩⟩
  have hgi:g0 (tR p a (i-a)) i=g0 p i:=by rw[ni (by rw[h.lp];omega),if_neg (by omega)]
  have hmn:=rJ hs hic
  have hpi:=(h.h i hic).1
  rw[bj,hw,bp (by omega),aQ,h1,aj]
  simp only
  rw[aB trivial,aB trivial,uu (by rw[iI,h.lp];exact hic),aj,jC (x:=((g0 (tR p a (i-a)) i:Nat):Int)+1) (by omega) (by omega),jC (x:=(i:Int)+1) (by omega) (by omega),show(i:Int)+1=((i+1:Nat):Int) by omega,show((i:Int)).toNat=i by omega,
   show((g0 (tR p a (i-a)) i:Nat):Int)+1=((g0 (tR p a (i-a)) i+1:Nat):Int) by omega,Fq]
  have hinc:(tR p a (i-a)).set i (g0 (tR p a (i-a)) i+1)=tR p a (i+1-a):=by
   rw[show i+1-a=(i-a)+1 by omega,tR,show a+(i-a)=i by omega]
  rw[hinc]
  obtain⟨b2,h3,h4⟩:=ih f (i+1) b1 (by omega) (by omega) (by omega)
  refine⟨b2,h3,fun e=> ?_⟩
  obtain⟨e1,e2⟩:=h4 e
  rcases h2 with⟨h2,h5⟩ |⟨_,h2⟩
  ·refine⟨h2▸e1,fun k hk1 hk2=> ?_⟩
   by_cases hki:k=i
   ·subst hki;rw[hgi]at h5;exact h5
   ·exact e2 k (by omega) hk2
  ·rw[h2]at e1;cases e1
theorem AW{c:List ae}(hs:kd c){bad:Bool}{p u:List Nat}(h:Lo c p u){a n:Nat}(hn:a+n≤c.length):
  ∃bad',bF (a:Int) (n:Int) c bad (I p) (I u)=some ((),c,bad',I (tR p a n),I u)∧Ok c bad' (tR p a n) u∧(bad'=false→bad=false∧∀k,a≤k→k<a+n→g0 p k<mn c k):=by
 unfold bF
 have:=F0 hs h hn (I p) (I u) (by rw[fE,h.lp]) (by rw[fE,h.lu]) n aO a bad (eo _) rfl (by rw[ar];have:=hs.n;omega)
 rw[Nat.sub_self]at this
 obtain⟨b,h1,h2⟩:=this
 refine⟨b,h1,⟨by rw[iI,h.lp],h.lu,fun k hk=> ?_⟩,h2⟩
 rw[ni (by rw[h.lp];exact hn)]
 have h3:=h.h k hk
 refine⟨by split<;>omega,fun e=> ?_,h3.2⟩
 have h4:=(h2 e).2
 split
 ·rename_i h5
  have:=h4 k h5.1 h5.2
  omega
 ·exact h3.1
def su:List ae→List Nat→Nat
 |x::c,n::u=>((x.values.take n).map bS).sum+su c u
 |_,_=>0
theorem Ev:∀{c:List ae} {u:List Nat} {k:Nat} {v:aa},k<c.length→k<u.length→(iJ c k).values[g0 u k]? =some v→su c (u.set k (g0 u k+1))=su c u+bS v
 |x::c,n::u,0,v,_,_,h=>by
  have h:x.values[n]? =some v:=h
  simp only[g0,List.getD_cons_zero,List.set_cons_zero,su]
  rw[List.take_add_one,h]
  simp;omega
 |x::c,n::u,k+1,v,h1,h2,h=>by
  have:=Ev (c:=c) (u:=u) (k:=k) (v:=v) (by simpa using h1) (by simpa using h2) h
  simp only[g0,List.getD_cons_succ,List.set_cons_succ,su]at this⊢
  omega
def BA(c:List ae)(k x y:Nat):List aa:=((iJ c k).values.drop x).take (y-x)
theorem oX(c:List ae)(k x:Nat):BA c k x x=[]:=by simp[BA]
theorem AY(c:List ae)(k:Nat){x y z:Nat}(h1:x≤y)(h2:y≤z):BA c k x y++BA c k y z=BA c k x z:=by
 unfold BA
 have:(iJ c k).values.drop y=((iJ c k).values.drop x).drop (y-x):=by rw[List.drop_drop];congr 1;omega
 rw[this,show z-x=(y-x)+(z-y) by omega,List.take_add]
theorem Jx{c:List ae}{k x:Nat}{v:aa}(h:(iJ c k).values[x]? =some v):BA c k x (x+1)=[v]:=by
 unfold BA
 obtain⟨h1,h2⟩:=gN.1 h
 rw[show x+1-x=1 by omega,List.drop_eq_getElem_cons h1,h2]
 rfl
structure Bz(c:List ae)(W:List iz)(a D:Nat)(bad:Bool)(p u:List Nat)(v:aa)(bad':Bool)(p' u':List Nat):Prop where
 ok:Ok c bad' p' u'
 st:bad'=false→bad=false
 out:∀k,(k<a∨a+W.length≤k)→g0 u' k=g0 u k
 mono:∀k,g0 u k≤g0 u' k
 pm:∀k,g0 p k≤g0 p' k
 prog:bad'=false→g0 p a<g0 p' a
 sum:bad'=false→p.sum+1≤p'.sum
 b:∀(j:Nat) w,W[j]? =some w→lv w v=nn (BA c (a+j) (g0 u (a+j)) (g0 u' (a+j)))
 sz:bad'=false→bS v+D*p.sum+su c u≤D*p'.sum+su c u'
abbrev OU:=af→Int→Int→Int→List ae→Bool→List Int→List Int→FO
def FT(c:List ae)(N:Nat)(fld:OU):Prop:=
 ∀(f:af) (i a:Nat) (d q:Int) (bad:Bool) (p u:List Nat),V f.type→gb f.type≤N→a+(al N f i).length≤c.length→0≤d→d+2*(N:Int)≤1000000000→0≤q→q+(N:Int)≤1000000000→Ok c bad p u→
  ∃v bad' p' u',fld f (a:Int) d q c bad (I p) (I u)=some (v,c,bad',I p',I u')∧Bz c (al N f i) a (nZ f.type) bad p u v bad' p' u'
theorem Ok.bad{c:List ae}{bad:Bool}{p u:List Nat}(h:Ok c bad p u):Ok c true p u:=⟨h.lp,h.lu,fun k hk=>⟨(h.h k hk).1,(fun e=>by cases e),(h.h k hk).2.2⟩⟩
theorem Bu{c:List ae}{b b':Bool}{p u p' u':List Nat}(h:Ok c b p u)(k:Ok c b' p' u'):(I p').length=(I p).length∧(I u').length=(I u).length:=by
 simp only[fE]
 exact⟨by rw[h.lp,k.lp],by rw[h.lu,k.lu]⟩
theorem Bz.same{c:List ae}{W:List iz}{a D:Nat}{p u:List Nat}{v:aa}(h:Ok c true p u)(hv:∀w∈W,lv w v=[]):Bz c W a D true p u v true p u where
 ok:=h
 st:=fun e=>by cases e
 out _ _:=rfl
 mono _:=eo _
 pm _:=eo _
 prog e:=by cases e
 sum e:=by cases e
 b j w hw:=by rw[oX,hv w (List.mem_of_getElem? hw)];rfl
 sz e:=by cases e
theorem Bz.took{c:List ae}{W:List iz}{a D:Nat}{bad bad':Bool}{p u:List Nat}{v:aa}(hl:Lo c p u)(hn:a+W.length≤c.length)(hW:0<W.length)(hD:0<D)(hok:Ok c bad' (tR p a W.length) u)(hst:bad'=false→bad=false)
  (hv:∀w∈W,lv w v=[])(hs:bS v=1):Bz c W a D bad p u v bad' (tR p a W.length) u where
 ok:=hok
 st:=hst
 out _ _:=rfl
 mono _:=eo _
 pm k:=by rw[ni (by rw[hl.lp];exact hn)];split<;>omega
 prog _:=by rw[ni (by rw[hl.lp];exact hn),if_pos (by omega)];omega
 sum _:=by rw[u3 (by rw[hl.lp];exact hn)];omega
 b j w hw:=by rw[oX,hv w (List.mem_of_getElem? hw)];rfl
 sz _:=by
  rw[u3 (by rw[hl.lp];exact hn),hs,Nat.mul_add]
  have:1≤D*W.length:=Nat.mul_pos hD hW
  omega
structure JD(c:List ae)(W:List iz)(a D:Nat)(p0 u0:List Nat)(l:List aa)(bad:Bool)(p u:List Nat):Prop where
 ok:Ok c bad p u
 out:∀k,(k<a∨a+W.length≤k)→g0 u k=g0 u0 k
 mono:∀k,g0 u0 k≤g0 u k
 pm:∀k,g0 p0 k≤g0 p k
 len:l.length+g0 p0 a≤g0 p a+(if bad then 1 else 0)
 sum:bad=false→p0.sum+(if l.length=0 then 0 else 1)≤p.sum
 b:∀(j:Nat) w,W[j]? =some w→l.flatMap (lv w)=nn (BA c (a+j) (g0 u0 (a+j)) (g0 u (a+j)))
 sz:bad=false→ca l+D*p0.sum+su c u0≤D*p.sum+su c u
theorem pR:∀(l:List aa) (v:aa),ca (l++[v])=ca l+bS v
 |[],v=>by simp[ca]
 |x::l,v=>by
  have:=pR l v
  simp only[List.cons_append,ca]at this⊢
  omega
theorem JD.nil{c:List ae}{W:List iz}{a D:Nat}{p u:List Nat}(h:Ok c false p u):JD c W a D p u [] false p u where
 ok:=h
 out _ _:=rfl
 mono _:=eo _
 pm _:=eo _
 len:=by simp
 sum _:=by simp
 b j w hw:=by rw[oX];rfl
 sz _:=by simp only[ca];omega
theorem JD.step{c:List ae}{W:List iz}{a D:Nat}{p0 u0:List Nat}{l:List aa}{p u:List Nat}(h:JD c W a D p0 u0 l false p u){v:aa}{bad':Bool}{p' u':List Nat}(r:Bz c W a D false p u v bad' p' u'):JD c W a D p0 u0 (l++[v]) bad' p' u' where
 ok:=r.ok
 out k hk:=(r.out k hk).trans (h.out k hk)
 mono k:=Nat.le_trans (h.mono k) (r.mono k)
 pm k:=Nat.le_trans (h.pm k) (r.pm k)
 len:=by
  have h1:=h.len
  have h2:=r.pm a
  rw[List.length_append]
  simp only[List.length_singleton]
  simp only[if_neg (show¬(false=true) by simp)]at h1
  cases bad' with
  |true=>simp only[if_true];omega
  |false=>
   have:=r.prog rfl
   simp only[if_neg (show¬(false=true) by simp)]
   omega
 sum e:=by
  have h1:=h.sum rfl
  have h2:=r.sum e
  rw[if_neg (by simp)]
  split at h1<;>omega
 b j w hw:=by
  rw[List.flatMap_append,h.b j w hw,show[v].flatMap (lv w)=lv w v by simp,r.b j w hw,←AO,AY c _ (h.mono _) (r.mono _)]
 sz e:=by
  have h1:=h.sz rfl
  have h2:=r.sz e
  rw[pR];omega
theorem JD.fin{c:List ae}{W W':List iz}{a D:Nat}{p0 u0:List Nat}{l:List aa}{bad:Bool}{p u:List Nat}(h:JD c W a D p0 u0 l bad p u)(hl:bad=false→l.length≠0)(hlen:W'.length=W.length){v:aa}(hv:bS v=ca l+1)
  (hb:∀(j:Nat) w',W'[j]? =some w'→∃w,W[j]? =some w∧lv w' v=l.flatMap (lv w))(hp:bad=false→g0 p0 a<g0 p a):Bz c W' a (D+1) false p0 u0 v bad p u where
 ok:=h.ok
 st _:=rfl
 out k hk:=h.out k (by rw[←hlen];exact hk)
 mono:=h.mono
 pm:=h.pm
 prog:=hp
 sum e:=by
  have:=h.sum e
  rw[if_neg (hl e)]at this
  exact this
 b j w hw:=by
  obtain⟨w0,h1,h2⟩:=hb j w hw
  rw[h2,h.b j w0 h1]
 sz e:=by
  have h1:=h.sz e
  have h2:=h.sum e
  rw[if_neg (hl e)]at h2
  rw[hv,Nat.add_mul,Nat.add_mul];omega
theorem Nt{c:List ae}(hs:kd c){N:Nat}{fld:OU}(ih:FT c N fld){f g:af}(hk:f.type.kind=6)(hg:f.type.fields[0]? =some g)(hVg:V g.type)(hsg:gb g.type≤N)
  {a:Nat}(hn:a+(al N g 0).length≤c.length){x1 q:Int}(hd0:0≤x1)(hd1:x1+1+2*(N:Int)≤1000000000)(hq0:0≤q)(hq1:q+1+(N:Int)≤1000000000)(p7 p8:List Int)(h7:p7.length=c.length)(h8:p8.length=c.length){p0 u0:List Nat}:
  ∀(m fu:Nat) (l:List aa) (bad:Bool) (p u:List Nat) (more:Bool),JD c (al N g 0) a (nZ g.type) p0 u0 l bad p u→mn c a+2≤m+g0 p a+(if bad then 1 else 0)→m<fu→(more=false→l.length≠0)→
   ∃l' bad' p' u',aL fld f (a:Int) q p7 p8 x1 fu (I p) (I u) l c bad more=some (⟨6,0,0,ByteArray.empty,l'⟩,c,bad',I p',I u')∧JD c (al N g 0) a (nZ g.type) p0 u0 l' bad' p' u'∧(bad'=false→l'.length≠0):=by
 have hw:=iV N g 0 hVg hsg
 have ha:a<c.length:=by omega
 have hmn:=rJ hs ha
 have hfin:∀(l:List aa) (bad:Bool) (p u:List Nat),Ok c bad p u→cj f p7 p8 (I p) (I u) l c bad=some (⟨6,0,0,ByteArray.empty,l⟩,c,bad,I p,I u):=by
  intro l bad p u h
  unfold cj
  rw[mh,aj,aB (by rw[fE,h.lp,h7]),aB (by rw[fE,h.lu,h8]),hk]
 intro m
 induction m with
 |zero=>
  intro fu l bad p u more hA hm hfu hmo
  obtain⟨fu,rfl⟩:=aX hfu
  have hpa:=(hA.ok.h a ha).1
  have hbad:bad=true:=by
   cases bad with
   |true=>rfl
   |false=>have:=(hA.ok.h a ha).2.1 rfl;simp only[if_neg (show¬(false=true) by simp)]at hm;omega
  subst hbad
  refine⟨l,true,p,u,?_,hA,fun e=>by cases e⟩
  rw[aL]
  unfold bQ
  cases more<;>simp only[aQ,ay,Bool.not_true]<;>exact hfin l true p u hA.ok
 |succ m ihm=>
  intro fu l bad p u more hA hm hfu hmo
  obtain⟨fu,rfl⟩:=aX hfu
  cases more with
  |false=>
   refine⟨l,bad,p,u,?_,hA,fun _=>hmo rfl⟩
   rw[aL,ay]
   unfold bQ
   rw[ay]
   exact hfin l bad p u hA.ok
  |true=>
   cases bad with
   |true=>
    refine⟨l,true,p,u,?_,hA,fun e=>by cases e⟩
    rw[aL,aQ]
    unfold bQ
    rw[Bool.not_true,ay]
    exact hfin l true p u hA.ok
   |false=>
    have hpa:=(hA.ok.h a ha).2.1 rfl
    have hlen:=hA.len
    simp only[if_neg (show¬(false=true) by simp)]at hlen hm
    obtain⟨v,b',p',u',h1,h2⟩:=ih g 0 a (x1+1) (q+1) false p u hVg hsg hn (by omega) (by omega) (by omega) (by omega) hA.ok
    obtain⟨e1,e2⟩:=Bu hA.ok h2.ok
    have hA':=hA.step h2
    have hpm:=h2.pm a
    have hsm:mn c a+2≤m+g0 p' a+(if b' then 1 else 0):=by
     cases b' with
     |true=>simp only[if_true];omega
     |false=>have:=h2.prog rfl;simp only[if_neg (show¬(false=true) by simp)];omega
    have hrec:=ihm fu (l++[v]) b' p' u'
    rw[aL,aQ]
    unfold bQ
    rw[Bool.not_false,aQ,show at? f.type.fields (0:Int)=some g from dl (i:=0) hg,aj,jC (x:=x1+1) (by omega) (by omega),jC (x:=q+1) (by omega) (by omega),h1,aj]
    simp only
    rw[aB e1,aB e2,aB (by omega),uu (by rw[h2.ok.lp];exact ha),aj,pn ha,aj]
    by_cases hlt:g0 p' a<(iJ c a).reps.length
    ·rw[decide_eq_true (by omega),aQ,bf hlt,aj]
     exact hrec _ hA' hsm (by omega) (fun _=>by simp)
    ·rw[decide_eq_false (by omega),ay]
     exact hrec _ hA' hsm (by omega) (fun _=>by simp)
theorem Bz.up{c:List ae}{W:List iz}{a D D':Nat}{bad:Bool}{p u:List Nat}{v:aa}{bad':Bool}{p' u':List Nat}(h:Bz c W a D bad p u v bad' p' u')(hD:D≤D'):Bz c W a D' bad p u v bad' p' u' where
 ok:=h.ok
 st:=h.st
 out:=h.out
 mono:=h.mono
 pm:=h.pm
 prog:=h.prog
 sum:=h.sum
 b:=h.b
 sz e:=by
  have h1:=h.sz e
  have h2:=h.sum e
  obtain⟨k,rfl⟩:=Nat.exists_eq_add_of_le hD
  have h3:k*p.sum≤k*p'.sum:=Nat.mul_le_mul_left k (by omega)
  rw[Nat.add_mul,Nat.add_mul];omega
theorem pb(r:List af→List iz):∀(l m:List af) (i:Nat),dE r (l++m) i=dE r l i++dE r m (i+l.length)
 |[],m,i=>rfl
 |f::l,m,i=>by
  have:=pb r l m (i+1)
  simp only[List.cons_append,dE,this,List.length_cons,List.append_assoc]
  rw[show i+1+l.length=i+(l.length+1) by omega]
theorem gn(N:Nat){fs:List af}{j:Nat}(h:j<fs.length):dE (WY N) (fs.take (j+1)) 0=dE (WY N) (fs.take j) 0++al N fs[j] j:=by
 rw[List.take_succ_eq_append_getElem h,pb,Nat.zero_add,List.length_take,Nat.min_eq_left (by omega),gR]
 simp[dE]
structure vD(c:List ae)(N:Nat)(fs:List af)(a D:Nat)(bad0:Bool)(p0 u0:List Nat)(j:Nat)(l:List aa)(bad:Bool)(p u:List Nat):Prop where
 ok:Ok c bad p u
 st:bad=false→bad0=false
 out:∀k,(k<a∨a+(dE (WY N) (fs.take j) 0).length≤k)→g0 u k=g0 u0 k
 mono:∀k,g0 u0 k≤g0 u k
 pm:∀k,g0 p0 k≤g0 p k
 len:l.length=j
 prog:bad=false→j≠0→g0 p0 a<g0 p a
 sum:bad=false→p0.sum+(if j=0 then 0 else 1)≤p.sum
 b:∀(s:Nat) w,(dE (WY N) (fs.take j) 0)[s]? =some w→lv w (rv l (lE w))=nn (BA c (a+s) (g0 u0 (a+s)) (g0 u (a+s)))
 sz:bad=false→ca l+D*p0.sum+su c u0≤D*p.sum+su c u
theorem vD.nil{c:List ae}{N:Nat}{fs:List af}{a D:Nat}{bad:Bool}{p u:List Nat}(h:Ok c bad p u):vD c N fs a D bad p u 0 [] bad p u where
 ok:=h
 st e:=e
 out _ _:=rfl
 mono _:=eo _
 pm _:=eo _
 len:=rfl
 prog _ h:=absurd rfl h
 sum _:=by simp
 b s w hw:=by rw[List.take_zero]at hw;simp[dE]at hw
 sz _:=by simp only[ca];omega
theorem Ht{N:Nat}{fs:List af}{w:iz}(h:w∈dE (WY N) fs 0):lE w<fs.length:=by
 obtain⟨j,f,h1,h2⟩:=AE h
 rw[kC h2,Nat.zero_add]
 exact(gN.1 h1).1
theorem vD.step{c:List ae}{N:Nat}{fs:List af}{a D:Nat}{bad0:Bool}{p0 u0:List Nat}{j:Nat}{l:List aa}{bad:Bool}{p u:List Nat}(h:vD c N fs a D bad0 p0 u0 j l bad p u)(hj:j<fs.length){v:aa}{bad':Bool}{p' u':List Nat}
  (r:Bz c (al N fs[j] j) (a+(dE (WY N) (fs.take j) 0).length) D bad p u v bad' p' u')(hw:0<(al N fs[j] j).length):vD c N fs a D bad0 p0 u0 (j+1) (l++[v]) bad' p' u' where
 ok:=r.ok
 st e:=h.st (r.st e)
 out k hk:=by
  rw[gn N hj,List.length_append]at hk
  rw[r.out k (by omega),h.out k (by omega)]
 mono k:=Nat.le_trans (h.mono k) (r.mono k)
 pm k:=Nat.le_trans (h.pm k) (r.pm k)
 len:=by rw[List.length_append,h.len];rfl
 prog e _:=by
  have h1:=r.pm a
  by_cases hj0:j=0
  ·subst hj0
   have h2:=r.prog e
   have h3:=h.pm a
   simp only[List.take_zero,dE,List.length_nil,Nat.add_zero]at h2
   omega
  ·have:=h.prog (r.st e) hj0
   omega
 sum e:=by
  have h1:=h.sum (r.st e)
  have h2:=r.sum e
  rw[if_neg (by omega)]
  split at h1<;>omega
 b s w hs:=by
  rw[gn N hj]at hs
  by_cases hlt:s<(dE (WY N) (fs.take j) 0).length
  ·rw[nq hlt]at hs
   have hd:=Ht (List.mem_of_getElem? hs)
   rw[List.length_take]at hd
   have e1:rv (l++[v]) (lE w)=rv l (lE w):=by
    unfold rv
    rw[nq (by rw[h.len];omega)]
   rw[e1,h.b s w hs,r.out (a+s) (by omega)]
  ·rw[List.getElem?_append_right (by omega)]at hs
   have e1:rv (l++[v]) (lE w)=v:=by
    unfold rv
    rw[kC (List.mem_of_getElem? hs),List.getElem?_append_right (by rw[h.len];omega),h.len,Nat.sub_self];rfl
   have h1:=r.b _ w hs
   rw[show a+(dE (WY N) (fs.take j) 0).length+(s-(dE (WY N) (fs.take j) 0).length)=a+s by omega]at h1
   rw[e1,h1,h.out (a+s) (by omega)]
 sz e:=by
  have h1:=h.sz (r.st e)
  have h2:=r.sz e
  rw[pR];omega
theorem OT{c:List ae}(hs:kd c){N:Nat}{fld:OU}(ih:FT c N fld){f:af}(hk:f.type.kind=7)(hVf:V f.type)(hsf:br f.type.fields≤N)(hN:N≤100000000)
  {a:Nat}(hn:a+(dE (WY N) f.type.fields 0).length≤c.length){x1 q:Int}(hd0:0≤x1)(hd1:x1+2*(N:Int)≤1000000000)(hq0:0≤q)(hq1:q+(N:Int)≤1000000000)(p7 p8:List Int)(h7:p7.length=c.length)(h8:p8.length=c.length){bad0:Bool}{p0 u0:List Nat}:
  ∀(m fu j:Nat) (l:List aa) (bad:Bool) (p u:List Nat),j+m=f.type.fields.length→m<fu→vD c N f.type.fields a (ns f.type.fields) bad0 p0 u0 j l bad p u→
   ∃l' bad' p' u',bq fld f q p7 p8 x1 fu (I p) (I u) l c bad ((a+(dE (WY N) (f.type.fields.take j) 0).length:Nat):Int) (j:Int)=some (⟨7,0,0,ByteArray.empty,l'⟩,c,bad',I p',I u')∧vD c N f.type.fields a (ns f.type.fields) bad0 p0 u0 f.type.fields.length l' bad' p' u':=by
 have hfl:=bM f.type.fields
 have hcn:=hs.n
 intro m
 induction m with
 |zero=>
  intro fu j l bad p u hj hfu hA
  obtain⟨fu,rfl⟩:=aX hfu
  have hjl:j=f.type.fields.length:=by omega
  rw[bq,cw (by omega),ay]
  unfold cj
  rw[mh,aj,aB (by rw[fE,hA.ok.lp,h7]),aB (by rw[fE,hA.ok.lu,h8]),hk]
  exact⟨l,bad,p,u,rfl,hjl▸hA⟩
 |succ m ihm=>
  intro fu j l bad p u hj hfu hA
  obtain⟨fu,rfl⟩:=aX hfu
  have h1:j<f.type.fields.length:=by omega
  have hmem:=kf h1
  have hVg:=hVf.fs _ hmem
  have hsz:=bN hmem
  have hfd:=cc f.type.fields[j]
  have hdep:=oC hmem
  have hwp:=iV N f.type.fields[j] j hVg (by omega)
  have hle:(dE (WY N) (f.type.fields.take j) 0).length+(al N f.type.fields[j] j).length≤(dE (WY N) f.type.fields 0).length:=by
   have:dE (WY N) f.type.fields 0=dE (WY N) (f.type.fields.take (j+1)) 0++dE (WY N) (f.type.fields.drop (j+1)) (0+(f.type.fields.take (j+1)).length):=by
    rw[←pb,List.take_append_drop]
   rw[this,gn N h1,List.length_append,List.length_append];omega
  obtain⟨v,b',p',u',g1,g2⟩:=ih f.type.fields[j] j (a+(dE (WY N) (f.type.fields.take j) 0).length) x1 q bad p u hVg (by omega) (by omega) hd0 hd1 hq0 hq1 hA.ok
  obtain⟨e1,e2⟩:=Bu hA.ok g2.ok
  have hlv:=mZ N aO f.type.fields[j] j hVg (by omega) (by rw[ar];omega) (by omega)
  rw[bq,bp h1,aQ,bf h1,aj,g1,aj]
  simp only
  rw[aB e1,aB e2,aB (by rw[hA.len];omega),hlv,aj,jC (x:=((a+(dE (WY N) (f.type.fields.take j) 0).length:Nat):Int)+((al N f.type.fields[j] j).length:Int)) (by omega) (by omega),aD h1 (by omega),
   show((a+(dE (WY N) (f.type.fields.take j) 0).length:Nat):Int)+((al N f.type.fields[j] j).length:Int)=((a+(dE (WY N) (f.type.fields.take (j+1)) 0).length:Nat):Int) by rw[gn N h1,List.length_append];omega]
  exact ihm fu (j+1) _ b' p' u' (by omega) (by omega) (hA.step h1 (g2.up hdep) hwp)
theorem vD.fin{c:List ae}{N:Nat}{fs:List af}{W':List iz}{a D:Nat}{p0 u0:List Nat}{l:List aa}{bad:Bool}{p u:List Nat}(h:vD c N fs a D false p0 u0 fs.length l bad p u)(hne:fs.length≠0)(hlen:W'.length=(dE (WY N) fs 0).length){v:aa}(hv:bS v=ca l+1)
  (hb:∀(j:Nat) w',W'[j]? =some w'→∃w,(dE (WY N) fs 0)[j]? =some w∧lv w' v=lv w (rv l (lE w))):Bz c W' a (D+1) false p0 u0 v bad p u where
 ok:=h.ok
 st _:=rfl
 out k hk:=h.out k (by rw[List.take_length,←hlen];exact hk)
 mono:=h.mono
 pm:=h.pm
 prog e:=h.prog e hne
 sum e:=by
  have:=h.sum e
  rw[if_neg hne]at this
  exact this
 b j w hw:=by
  obtain⟨w0,h1,h2⟩:=hb j w hw
  rw[h2,h.b j w0 (by rw[List.take_length];exact h1)]
 sz e:=by
  have h1:=h.sz e
  have h2:=h.sum e
  rw[if_neg hne]at h2
  rw[hv,Nat.add_mul,Nat.add_mul];omega
theorem FQ{x:aa}(h:x.kind=0):nn [x]=[]:=by simp[nn,h]
theorem Jl{x:aa}(h:x.kind≠0):nn [x]=[x]:=by simp[nn,h]
theorem j8(k:Int)(l:List aa):bS ⟨k,0,0,ByteArray.empty,l⟩=ca l+1:=by
 rw[fg]
 simp only
 rw[tc];omega
theorem HD{c:List ae}(hs:kd c):∀(N k:Nat),N<k→N≤100000000→FT c N (aE k)
 |0,k,hk,hN=>by
  intro f i a d q bad p u hV hsz
  have:=eX f.type;omega
 |N+1,k,hk,hN=>by
  intro f i a d q bad p u hV hsz hn hd0 hd1 hq0 hq1 hok
  obtain⟨k,rfl⟩:=aX (m:=N+1) (f:=k) hk
  have ih:=HD hs N k (by omega) (by omega)
  have he:=eX f.type
  have hde:=wX f.type
  have hpos:=iV (N+1) f i hV hsz
  have ha:a<c.length:=by omega
  rw[aE]
  cases bad with
  |true=>
   rw[aQ]
   exact⟨_,true,p,u,rfl,Bz.same hok fun w _=>vL w _ rfl⟩
  |false=>
   have hlo:=hok.lo
   have hlv:=mZ (N+1) aO f i hV hsz (by rw[ar];omega) (by omega)
   rw[ay,hlv,aj]
   have j1:∀x1:Int,0≤x1→x1+1+2*(N:Int)≤1000000000→∃v b' p' u',cJ (aE k) f (a:Int) q (I p) (I u) ((al (N+1) f i).length:Int) (I p) (I u) c false x1=some (v,c,b',I p',I u')∧Bz c (al (N+1) f i) a (nZ f.type) false p u v b' p' u':=by
    intro x1 hx0 hx1
    unfold cJ
    by_cases h6:f.type.kind=6
    ·have hlf:ln f=false:=by unfold ln;simp[h6]
     have hlist:=hV.list h6
     obtain⟨g,hg1⟩:∃g,f.type.fields=[g]:=by
      cases hff:f.type.fields with
      |nil=>rw[hff]at hlist;simp at hlist
      |cons g gs=>rw[hff]at hlist;simp at hlist;subst hlist;exact⟨g,rfl⟩
     have hg:f.type.fields[0]? =some g:=by rw[hg1];rfl
     have hgm:g∈f.type.fields:=by rw[hg1];exact List.mem_cons_self ..
     have hways:al (N+1) f i=(al N g 0).map ((f,i)::·):=by
      rw[al,hlf,if_neg (by simp),hg1]
      show(dE (WY N) [g] 0).map _=_
      rw[gR];simp[dE]
     have hwl:(al (N+1) f i).length=(al N g 0).length:=by rw[hways,List.length_map]
     have h1:=bN hgm
     have h2:=cc g
     have hdg:=oC hgm
     rw[show(f.type.kind==6)=true by simp[h6],aQ]
     obtain⟨d1,b1,g1,g2⟩:=H1 hs hok ha
     rw[g1,aj]
     simp only
     rw[aB trivial,aB trivial]
     by_cases hle:d1≤x1
     ·obtain⟨b2,g3,g4,g5⟩:=AW hs hlo (bad:=b1) hn
      rw[decide_eq_true hle,aQ,g3,aj]
      simp only
      rw[aB (by simp only[fE,iI]),aB trivial,aB (by simp only[fE,iI]),aB trivial]
      refine⟨_,b2,_,u,rfl,Bz.took hlo hn hpos (by omega) g4 (fun _=>rfl) (fun w hw=> ?_) (by rw[j8];rfl)⟩
      rw[hways]at hw
      obtain⟨w0,_,rfl⟩:=List.mem_map.1 hw
      simp only[lv]
      rw[if_neg (by rw[h6];decide),if_pos h6];rfl
     ·have hb1:b1=false:=by
       rcases g2 with⟨h,_⟩ |⟨h,_⟩
       ·exact h
       ·omega
      subst hb1
      rw[decide_eq_false hle,ay]
      obtain⟨l',b',p',u',g3,g4,g5⟩:=Nt hs ih h6 hg (hV.fs g hgm) (by omega) (a:=a) (by omega) hx0 (by omega) hq0 (by omega) (I p) (I u) (by rw[fE,hok.lp]) (by rw[fE,hok.lu]) (mn c a+2) aO [] false p u true (JD.nil hok) (by omega) (by rw[ar];have:=rJ hs ha;omega) (fun e=>by cases e)
      refine⟨_,b',p',u',g3,Bz.up (g4.fin g5 hwl (j8 _ _) (fun j w' hw'=> ?_) (fun e=> ?_)) (by omega)⟩
      ·rw[hways,List.getElem?_map,mE]at hw'
       obtain⟨w0,hw0,rfl⟩:=hw'
       refine⟨w0,hw0,?_⟩
       simp only[lv]
       rw[if_neg (by decide),if_pos h6]
      ·have:=g4.len
       have h0:=g5 e
       subst e
       simp only[if_neg (show¬(false=true) by simp)]at this
       omega
    ·rw[show(f.type.kind==6)=false by simp[h6],ay]
     by_cases h7:f.type.kind=7
     ·have hlf:ln f=false:=by unfold ln;simp[h7]
      have hways:al (N+1) f i=(dE (WY N) f.type.fields 0).map ((f,i)::·):=by
       rw[al,hlf,if_neg (by simp)];rfl
      have hwl:(al (N+1) f i).length=(dE (WY N) f.type.fields 0).length:=by rw[hways,List.length_map]
      rw[show(f.type.kind==7)=true by simp[h7],aQ]
      obtain⟨l',b',p',u',g3,g4⟩:=OT hs ih h7 hV (by omega) (by omega) (a:=a) (by omega) hx0 (by omega) hq0 (by omega) (I p) (I u) (by rw[fE,hok.lp]) (by rw[fE,hok.lu]) f.type.fields.length aO 0 [] false p u (by omega) (by rw[ar];have:=bM f.type.fields;omega) (vD.nil hok)
      refine⟨_,b',p',u',g3,Bz.up (g4.fin (hV.fields hlf) hwl (j8 _ _) fun j w' hw'=> ?_) (by omega)⟩
      rw[hways,List.getElem?_map,mE]at hw'
      obtain⟨w0,hw0,rfl⟩:=hw'
      refine⟨w0,hw0,?_⟩
      simp only[lv]
      rw[if_neg (by decide),if_neg h6,if_pos h7]
      rfl
     ·have hlf:ln f=true:=by unfold ln;simp[h6,h7]
      have hways:al (N+1) f i=[[(f,i)]]:=by rw[al,hlf,if_pos rfl]
      have hwl:(al (N+1) f i).length=1:=by rw[hways];rfl
      rw[show(f.type.kind==7)=false by simp[h7],ay]
      obtain⟨b9,g3,g4,g5⟩:=AW hs hlo (bad:=false) (a:=a) (n:=1) (by omega)
      have g3:bF (a:Int) 1 c false (I p) (I u)=_:=g3
      have hua:=(hok.h a ha).2.2
      have hval:=(hs.h a ha).2.2
      rw[g3,aj]
      simp only
      rw[aB (by simp only[fE,iI]),aB trivial,uu (by rw[hok.lu];exact ha),aj,pn ha,aj]
      by_cases hend:g0 u a=(iJ c a).values.length
      ·rw[show(((g0 u a:Nat):Int)==((iJ c a).values.length:Int))=true by rw[hend];simp,aQ,aB (by simp only[fE,iI]),aB trivial]
       refine⟨_,true,_,u,rfl,?_⟩
       exact{
         ok:=g4.bad,st:=(fun e=>by cases e),out:=fun _ _=>rfl,mono:=fun _=>eo _
         pm:=fun k=>by rw[ni (by rw[hok.lp];omega)];split<;>omega
         prog:=fun e=>by cases e
         sum:=fun e=>by cases e
         b:=fun j w hw=>by rw[oX,vL w _ rfl];rfl
         sz:=fun e=>by cases e}
      ·have hlt:g0 u a<(iJ c a).values.length:=by omega
       have hv:=gu hlt
       have hsv:=hval.2 _ (kf hlt)
       rw[show(((g0 u a:Nat):Int)==((iJ c a).values.length:Int))=false from beq_eq_false_iff_ne.2 (by omega),ay,bf hlt,aj,EP aO _ (by omega) (by rw[ar];omega),aj,jC (x:=((g0 u a:Nat):Int)+1) (by omega) (by omega),aB (by simp only[fE,iI]),aB (by simp),
        show((a:Int)).toNat=a by omega,show((g0 u a:Nat):Int)+1=((g0 u a+1:Nat):Int) by omega,Fq]
       have hau:a<u.length:=by rw[hok.lu];exact ha
       refine⟨_,b9,_,_,rfl,?_⟩
       exact{
         ok:=⟨g4.lp,by rw[List.length_set];exact g4.lu,fun k hk=>⟨(g4.h k hk).1,(g4.h k hk).2.1,by
          rw[nI hau]
          split
          ·rename_i e;subst e;omega
          ·exact(hok.h k hk).2.2⟩⟩
         st:=fun e=>rfl
         out:=fun k hk=>by rw[nI hau,if_neg (by omega)]
         mono:=fun k=>by
          rw[nI hau]
          split
          ·rename_i e;subst e;omega
          ·omega
         pm:=fun k=>by rw[ni (by rw[hok.lp];omega)];split<;>omega
         prog:=fun _=>by rw[ni (by rw[hok.lp];omega),if_pos (by omega)];omega
         sum:=fun _=>by rw[u3 (by rw[hok.lp];omega)];omega
         b:=fun j w hw=>by
          rw[hways]at hw
          cases j with
          |zero=>
           cases hw
           rw[Nat.add_zero,nI hau,if_pos rfl,Jx hv]
           simp only[lv]
           by_cases hk0:(iJ c a).values[g0 u a].kind=0
           ·rw[if_pos hk0,FQ hk0]
           ·rw[if_neg hk0,if_neg h6,if_neg h7,Jl hk0]
          |succ j=>simp at hw
         sz:=fun _=>by
          rw[u3 (by rw[hok.lp];omega),Ev ha hau hv,Nat.mul_add]
          have:0≤nZ f.type*1:=Nat.zero_le _
          omega}
   cases hnd:f.need with
   |true=>
    rw[Bool.not_true,ay]
    exact j1 d hd0 (by omega)
   |false=>
    rw[Bool.not_false,aQ]
    obtain⟨d1,b1,g1,g2⟩:=H1 hs hok ha
    rw[g1,aj]
    simp only
    rw[aB trivial,aB trivial]
    by_cases hle:d1≤d
    ·obtain⟨b2,g3,g4,g5⟩:=AW hs hlo (bad:=b1) hn
     rw[decide_eq_true hle,aQ,g3,aj]
     simp only
     rw[aB (by simp only[fE,iI]),aB trivial,aB (by simp only[fE,iI]),aB trivial]
     exact⟨_,b2,_,u,rfl,Bz.took hlo hn hpos (by omega) g4 (fun _=>rfl) (fun w _=>vL w _ rfl) (by rw[j8];rfl)⟩
    ·have hb1:b1=false:=by
      rcases g2 with⟨h,_⟩ |⟨h,_⟩
      ·exact h
      ·omega
     subst hb1
     rw[decide_eq_false hle,ay,jC (x:=d+1) (by omega) (by omega)]
     exact j1 (d+1) (by omega) (by omega)
theorem Jo{l m:List Int}(hl:l.length≤4000000000):dQ l m=some (decide (l=m)):=by
 unfold dQ
 by_cases hlen:l.length=m.length
 ·have loop:∀(k f i:Nat),i+k=l.length→k<f→bP l m f (i:Int)=some (decide (l.drop i=m.drop i)):=by
   intro k
   induction k with
   |zero=>
    intro f i hi hf
    obtain⟨f,rfl⟩:=aX hf
    rw[bP,cw (by omega),ay,List.drop_of_length_le (by omega),List.drop_of_length_le (by omega)]
    rfl
   |succ k ih=>
    intro f i hi hf
    obtain⟨f,rfl⟩:=aX hf
    have h1:i<l.length:=by omega
    have h2:i<m.length:=by omega
    rw[bP,bp h1,aQ,bf h1,aj,bf h2,aj,cO h1,cO h2,jC (x:=(i:Int)+1) (by omega) (by omega),show(i:Int)+1=((i+1:Nat):Int) by omega,ih f (i+1) (by omega) (by omega)]
    by_cases he:l[i]=m[i]
    ·rw[show(l[i] != m[i])=false by simp[he],ay,he]
     congr 1
     exact decide_eq_decide.2 ⟨fun h=>by rw[h],fun h=>(List.cons.inj h).2⟩
    ·rw[show(l[i] != m[i])=true by simp[he],aQ,decide_eq_false (fun h=>he (List.cons.inj h).1)]
  rw[show((l.length:Int) != (m.length:Int))=false by rw[hlen];simp,ay]
  exact loop l.length aO 0 (by omega) (by rw[ar];omega)
 ·rw[show((l.length:Int) != (m.length:Int))=true by simp;omega,aQ]
  have:l≠m:=fun e=>hlen (by rw[e])
  simp[this]
theorem FZ{x y:ae}(hx:EV x)(hs:∀v∈x.values,bS v<1000000000)(hv:x.values.length=y.values.length→x.values=y.values):∃b,kj x y=some b∧(b=true→x=y):=by
 unfold kj ik
 rw[Jo hx.a,aj]
 by_cases h1:x.reps=y.reps
 ·rw[decide_eq_true h1,aQ,Jo hx.b,aj]
  by_cases h2:x.defs=y.defs
  ·rw[decide_eq_true h2,aQ]
   by_cases h3:x.values.length=y.values.length
   ·have h4:=hv h3
    rw[←h4,Cz hx.e (fun v hv=>⟨(hx.d v hv).1,hs v hv⟩),aj]
    exact⟨true,rfl,fun _=>by cases x;cases y;simp only at h1 h2 h4;rw[h1,h2,h4]⟩
   ·unfold aH
    rw[show((x.values.length:Int) != (y.values.length:Int))=true by simp;omega,aQ,aj]
    exact⟨false,rfl,fun h=>by cases h⟩
  ·rw[decide_eq_false h2,ay]
   exact⟨false,rfl,fun h=>by cases h⟩
 ·rw[decide_eq_false h1,ay]
  exact⟨false,rfl,fun h=>by cases h⟩
theorem OO{c:List ae}(hs:kd c){N:Nat}(ih:FT c N (aE aO)){fs:List af}(hV:∀f∈fs,V f.type)(hsf:br fs≤N)(hN:N≤100000000)(hn:(dE (WY N) fs 0).length≤c.length)
  (rec1:List Int→List Int→List (List aa)→List ae→Bool→Option (List (List aa)×Bool))(l3:List (List aa))(h3:l3.length+1≤4294967296){bad0:Bool}{p0 u0:List Nat}:
  ∀(m fu j:Nat) (l:List aa) (bad:Bool) (p u:List Nat),j+m=fs.length→m<fu→vD c N fs 0 (ns fs) bad0 p0 u0 j l bad p u→
   ∃l' bad' p' u',bV rec1 fs l3 fu (I p) (I u) l c bad (((dE (WY N) (fs.take j) 0).length:Nat):Int) (j:Int)=rec1 (I p') (I u') (l3++[l']) c bad'∧vD c N fs 0 (ns fs) bad0 p0 u0 fs.length l' bad' p' u':=by
 have hfl:=bM fs
 have hcn:=hs.n
 intro m
 induction m with
 |zero=>
  intro fu j l bad p u hj hfu hA
  obtain⟨fu,rfl⟩:=aX hfu
  have hjl:j=fs.length:=by omega
  rw[bV,cw (by omega),ay]
  unfold gY
  rw[mh,aj,aB h3]
  exact⟨l,bad,p,u,rfl,hjl▸hA⟩
 |succ m ihm=>
  intro fu j l bad p u hj hfu hA
  obtain⟨fu,rfl⟩:=aX hfu
  have h1:j<fs.length:=by omega
  have hmem:=kf h1
  have hVg:=hV _ hmem
  have hsz:=bN hmem
  have hfd:=cc fs[j]
  have hdep:=oC hmem
  have hwp:=iV N fs[j] j hVg (by omega)
  have hle:(dE (WY N) (fs.take j) 0).length+(al N fs[j] j).length≤(dE (WY N) fs 0).length:=by
   have:dE (WY N) fs 0=dE (WY N) (fs.take (j+1)) 0++dE (WY N) (fs.drop (j+1)) (0+(fs.take (j+1)).length):=by
    rw[←pb,List.take_append_drop]
   rw[this,gn N h1,List.length_append,List.length_append];omega
  obtain⟨v,b',p',u',g1,g2⟩:=ih fs[j] j (dE (WY N) (fs.take j) 0).length 0 0 bad p u hVg (by omega) (by omega) (by omega) (by omega) (by omega) (by omega) hA.ok
  obtain⟨e1,e2⟩:=Bu hA.ok g2.ok
  have hlv:=mZ N aO fs[j] j hVg (by omega) (by rw[ar];omega) (by omega)
  rw[bV,bp h1,aQ,bf h1,aj,g1,aj]
  simp only
  rw[aB e1,aB e2,aB (by rw[hA.len];omega),hlv,aj,jC (x:=(((dE (WY N) (fs.take j) 0).length:Nat):Int)+((al N fs[j] j).length:Int)) (by omega) (by omega),aD h1 (by omega),
   show(((dE (WY N) (fs.take j) 0).length:Nat):Int)+((al N fs[j] j).length:Int)=(((dE (WY N) (fs.take (j+1)) 0).length:Nat):Int) by rw[gn N h1,List.length_append];omega]
  exact ihm fu (j+1) _ b' p' u' (by omega) (by omega) (hA.step h1 (by rw[Nat.zero_add];exact g2.up hdep) hwp)
structure Ms(c:List ae)(N:Nat)(fs:List af)(rows:List (List aa))(bad:Bool)(p u:List Nat):Prop where
 ok:Ok c bad p u
 len:rows.length≤g0 p 0+(if bad then 1 else 0)
 b:∀(s:Nat) w,(dE (WY N) fs 0)[s]? =some w→rows.flatMap (fun r=>lv w (rv r (lE w)))=nn (BA c s 0 (g0 u s))
 sz:bad=false→wF rows≤ns fs*p.sum+su c u
theorem E1(rows:List (List aa))(r:List aa):wF (rows++[r])=wF rows+ca r:=by simp[wF]
theorem OK{c:List ae}(hs:kd c){N:Nat}(ih:FT c N (aE aO)){fs:List af}(hV:∀f∈fs,V f.type)(hne:fs.length≠0)(hsf:br fs≤N)(hN:N≤100000000)(hn:(dE (WY N) fs 0).length≤c.length)(hc:0<c.length):
  ∀(m fu:Nat) (rows:List (List aa)) (bad:Bool) (p u:List Nat),Ms c N fs rows bad p u→mn c 0+2≤m+g0 p 0+(if bad then 1 else 0)→m<fu→
   ∃rows' bad' p' u',aU fs c fu (I p) (I u) rows c bad=eK fs c (I p') (I u') rows' c bad'∧Ms c N fs rows' bad' p' u':=by
 have hmn:=rJ hs hc
 have hfin:∀(fu:Nat) (rows:List (List aa)) (p u:List Nat),aU fs c (fu+1) (I p) (I u) rows c true=eK fs c (I p) (I u) rows c true:=by
  intro fu rows p u
  rw[aU,Bool.not_true,ay]
  unfold dS
  rw[ay]
 intro m
 induction m with
 |zero=>
  intro fu rows bad p u hA hm hfu
  obtain⟨fu,rfl⟩:=aX hfu
  have hpa:=(hA.ok.h 0 hc).1
  have hbad:bad=true:=by
   cases bad with
   |true=>rfl
   |false=>have:=(hA.ok.h 0 hc).2.1 rfl;simp only[if_neg (show¬(false=true) by simp)]at hm;omega
  subst hbad
  exact⟨rows,true,p,u,hfin fu rows p u,hA⟩
 |succ m ihm=>
  intro fu rows bad p u hA hm hfu
  obtain⟨fu,rfl⟩:=aX hfu
  cases bad with
  |true=>exact⟨rows,true,p,u,hfin fu rows p u,hA⟩
  |false=>
   have hpa:=(hA.ok.h 0 hc).2.1 rfl
   have hlen:=hA.len
   simp only[if_neg (show¬(false=true) by simp)]at hlen hm
   have e0:at? (I p) (0:Int)=some ((g0 p 0:Nat):Int):=uu (k:=0) (by rw[hA.ok.lp];exact hc)
   have e1:at? c (0:Int)=some (iJ c 0):=pn (k:=0) hc
   rw[aU,Bool.not_false,aQ,e0,aj,e1,aj]
   unfold dS
   by_cases hlt:g0 p 0<(iJ c 0).reps.length
   ·rw[decide_eq_true (by omega),aQ]
    obtain⟨l',b',p',u',g1,g2⟩:=OO hs ih hV hsf hN hn (aU fs c fu) rows (by omega) fs.length aO 0 [] false p u (Nat.zero_add _) (by rw[ar];have:=bM fs;omega) (vD.nil (D:=ns fs) (N:=N) (fs:=fs) (a:=0) hA.ok)
    have g1:bV (aU fs c fu) fs rows aO (I p) (I u) [] c false (0:Int) (0:Int)=_:=g1
    rw[g1]
    have hpm:=g2.pm 0
    refine ihm fu _ b' p' u' ⟨g2.ok,?_,fun s w hw=> ?_,fun e=> ?_⟩ ?_ (by omega)
    ·rw[List.length_append]
     simp only[List.length_singleton]
     cases b' with
     |true=>simp only[if_true];omega
     |false=>
      have:=g2.prog rfl hne
      simp only[if_neg (show¬(false=true) by simp)]
      omega
    ·have h1:=g2.b s w (by rw[List.take_length];exact hw)
     have h2:=g2.mono (0+s)
     rw[Nat.zero_add]at h1 h2
     rw[List.flatMap_append,hA.b s w hw,show[l'].flatMap (fun r=>lv w (rv r (lE w)))=lv w (rv l' (lE w)) by simp,h1,←AO,AY c _ (Nat.zero_le _) h2]
    ·have h1:=hA.sz rfl
     have h2:=g2.sz e
     rw[E1];omega
    ·cases b' with
     |true=>simp only[if_true];omega
     |false=>
      have:=g2.prog rfl hne
      simp only[if_neg (show¬(false=true) by simp)]
      omega
   ·rw[decide_eq_false (by omega),ay]
    exact⟨rows,false,p,u,rfl,hA⟩
def xG(c:List ae):Nat:=(c.map fun x=>x.reps.length).sum
def KY(c:List ae):Nat:=(c.map fun x=>(x.values.map bS).sum).sum
theorem EU:∀{c:List ae} {p:List Nat},p.length=c.length→(∀k,k<c.length→g0 p k≤(iJ c k).reps.length)→p.sum≤xG c
 |[],[],_,_=>by simp
 |[],_::_,h,_=>by simp at h
 |_::_,[],h,_=>by simp at h
 |x::c,n::p,h,hk=>by
  have h1:=hk 0 (by simp)
  have h2:=EU (c:=c) (p:=p) (by simpa using h) fun k hk'=>hk (k+1) (by simpa using hk')
  have h1:n≤x.reps.length:=h1
  unfold xG at h2⊢
  simp only[List.sum_cons,List.map_cons]
  omega
theorem wA:∀(l:List Nat) (n:Nat),(l.take n).sum≤l.sum
 |[],n=>by simp
 |x::l,0=>by simp
 |x::l,n+1=>by
  have:=wA l n
  simp only[List.take_succ_cons,List.sum_cons];omega
theorem EO:∀(c:List ae) (u:List Nat),su c u≤KY c
 |[],_=>by simp[su]
 |_::_,[]=>by simp[su]
 |x::c,n::u=>by
  have h1:=EO c u
  have h2:=wA (x.values.map bS) n
  rw[←List.map_take]at h2
  unfold KY at h1⊢
  simp only[su,List.map_cons,List.sum_cons];omega
theorem ry{α β γ:Type}(f:β→Option γ)(g:α→List β):∀l:List α,(l.flatMap g).filterMap f=l.flatMap fun x=>(g x).filterMap f
 |[]=>rfl
 |x::l=>by rw[List.flatMap_cons,List.filterMap_append,ry f g l,List.flatMap_cons]
theorem re{α β:Type}{f g:α→List β}:∀{l:List α},(∀x∈l,f x=g x)→l.flatMap f=l.flatMap g
 |[],_=>rfl
 |x::l,h=>by rw[List.flatMap_cons,List.flatMap_cons,h x (List.mem_cons_self ..),re fun y hy=>h y (List.mem_cons_of_mem _ hy)]
theorem yo{fs:List af}{R:List (List aa)}(h:ig fs R){w:iz}(hw:w∈WS fs):pM (dg w R)=R.flatMap fun r=>lv w (rv r (lE w)):=by
 unfold pM dg
 rw[ry]
 refine re fun r hr=> ?_
 rw[qM]at hw
 obtain⟨j,g,hg,hw⟩:=AE hw
 rw[Nat.zero_add]at hw
 obtain⟨hV,_⟩:=rV (by have:=h.room.f;omega) h.sc
 have hd:=kC hw
 rw[hd]
 exact I4 _ g j w 4 _ 0 0 0 hw (hV.fs g (List.mem_of_getElem? hg)) ((h.chk hr).2 j g hg)
theorem Kj{l:List aa}{n:Nat}(h:(nn (l.take n)).length=l.length):nn (l.take n)=l:=by
 have h1:(nn (l.take n)).length≤(l.take n).length:=List.length_filter_le ..
 have h2:(l.take n).length=l.length:=by
  rw[List.length_take]at h1⊢;omega
 have h3:l.take n=l:=by
  rw[List.length_take]at h2
  exact List.take_of_length_le (by omega)
 rw[h3]at h⊢
 unfold nn at h⊢
 exact List.filter_eq_self.2 (List.length_filter_eq_length_iff.1 h)
theorem Gh{fs:List af}{R:List (List aa)}(h:ig fs R){w:iz}(hw:w∈WS fs):∀v∈(hY c0 (dg w R)).values,bS v<1000000000:=by
 intro v hv
 have ht:=h.room.t
 obtain⟨g1,g2,g3⟩:=h.ways _ hw
 simp only[hY,c0,List.nil_append]at hv
 obtain⟨x,hx,hy⟩:=List.mem_filterMap.1 hv
 obtain⟨r,hr,hx⟩:=List.mem_flatMap.1 hx
 have hp:=(g3 r hr).p 0 0 0 x hx v hy
 have hz:=(g3 r hr).z
 have htm:=n5 hr
 have hit:=fL hp.1.1 hp.1.2.1 hp.1.2.2
 have he:=fg v
 rw[hit]at he
 simp only[ca]at he
 have:=hp.2
 omega
def zE(fs:List af)(c:List ae)(R:List (List aa)):Prop:=
 ∀(s:Nat) w,(WS fs)[s]? =some w→∃n,R.flatMap (fun r=>lv w (rv r (lE w)))=nn ((iJ c s).values.take n)
theorem zE.eq{fs:List af}{c:List ae}{R:List (List aa)}(h:zE fs c R)(hok:ig fs R){s:Nat}{w:iz}(hs:(WS fs)[s]? =some w):(hY c0 (dg w R)).values.length=(iJ c s).values.length→(hY c0 (dg w R)).values=(iJ c s).values:=by
 intro hl
 obtain⟨n,hn⟩:=h s w hs
 rw[xd,yo hok (List.mem_of_getElem? hs),hn]at hl⊢
 exact Kj hl
theorem CP{fs:List af}{c:List ae}{R:List (List aa)}(hlen:c.length=(WS fs).length)(h:∀s w,(WS fs)[s]? =some w→hY c0 (dg w R)=iJ c s):c=bn fs R:=by
 apply List.ext_getElem
 ·unfold bn;rw[List.length_map,hlen]
 ·intro i h1 h2
  have h3:i<(WS fs).length:=by omega
  have:=h i _ (gu h3)
  have hc:=wQ h1
  rw[gu h1]at hc
  rw[Option.some.inj hc,←this]
  simp[bn]
theorem ON{fs:List af}{c:List ae}{R:List (List aa)}(h:ig fs R)(hlen:c.length=(WS fs).length)(ht:zE fs c R):
  ∀(m fu i:Nat),i+m=(WS fs).length→m<fu→(∀s w,s<i→(WS fs)[s]? =some w→hY c0 (dg w R)=iJ c s)→
   ∃r,cB c R ((WS fs).map (sW p0)) fu (i:Int)=some r∧(r=([],false)∨(r=(R,true)∧c=bn fs R)):=by
 have hwd:=h.wide
 have hn:=h.room.n
 have htt:=h.room.t
 intro m
 induction m with
 |zero=>
  intro fu i hi hfu hp
  obtain⟨fu,rfl⟩:=aX hfu
  rw[cB,cw (by rw[List.length_map];omega),ay]
  unfold gQ de
  rw[aB (by omega),aj]
  refine⟨_,rfl,.inr ⟨by simp,CP hlen fun s w hs=>hp s w ?_ hs⟩⟩
  have:=(gN.1 hs).1
  omega
 |succ m ihm=>
  intro fu i hi hfu hp
  obtain⟨fu,rfl⟩:=aX hfu
  have h1:i<(WS fs).length:=by omega
  have h2:i<((WS fs).map (sW p0)).length:=by rw[List.length_map];exact h1
  have h3:i<c.length:=by omega
  have hm:=kf h1
  have hw:=gu h1
  obtain⟨g1,g2,g3⟩:=h.ways _ hm
  have hco:=Aw g3 (by omega)
  obtain⟨b,e1,e2⟩:=FZ (y:=iJ c i) hco (Gh h hm) (ht.eq h hw)
  rw[cB,bp h2,aQ,bf h2,aj,List.getElem_map,Fz g1 g2 g3 (by omega) (by omega),aj,pn h3,aj,e1,aj]
  cases b with
  |false=>
   rw[Bool.not_false,aQ]
   exact⟨_,rfl,.inl rfl⟩
  |true=>
   rw[Bool.not_true,ay,jC (x:=(i:Int)+1) (by omega) (by omega),show(i:Int)+1=((i+1:Nat):Int) by omega]
   refine ihm fu (i+1) (by omega) (by omega) fun s w hs hsw=> ?_
   by_cases e:s=i
   ·subst e
    rw[hw]at hsw
    cases hsw
    exact e2 rfl
   ·exact hp s w (by omega) hsw
structure Aj(fs:List af)(c:List ae):Prop where
 f:br fs≤2000000
 s:kd c
 e:xG c≤4000000
 v:KY c≤4000000
theorem IS(n:Nat):List.replicate n (0:Int)=I (List.replicate n 0):=by simp
theorem yh(n k:Nat):g0 (List.replicate n 0) k=0:=by
 simp only[g0,List.getD_eq_getElem?_getD,List.getElem?_replicate]
 split<;>rfl
theorem yk{fs:List af}(hf:br fs≤2000000)(h:sc fs=0):fs.length≠0∧0<(WS fs).length∧∀f∈fs,V f.type:=by
 obtain⟨hV,_⟩:=rV (by omega) h
 have hne:fs.length≠0:=V.fields (f:=⟨1,ByteArray.empty,true,⟨7,0,fs⟩⟩) hV rfl
 refine⟨hne,?_,fun f hf=>hV.fs f hf⟩
 cases hfs:fs with
 |nil=>rw[hfs]at hne;exact absurd rfl hne
 |cons g gs=>
  have hg:g∈fs:=by rw[hfs];exact List.mem_cons_self ..
  have h1:=bN hg
  have h2:=cc g
  rw[←hfs,qM,hfs,gR,List.length_append]
  have:=iV (br (g::gs)) g 0 (hV.fs g hg) (by rw[←hfs];omega)
  omega
theorem Ae{fs:List af}{c:List ae}(h:Aj fs c)(h0:sc fs=0){R:List (List aa)}{x y:Nat}(hx:x≤xG c)(hy:y≤KY c)(hs:wF R≤ns fs*x+y)(hl:R.length<100000000):Ie fs R:=by
 have hd:=G9 (by have:=h.f;omega) h0
 have h1:ns fs*x≤3*x:=Nat.mul_le_mul_right x hd
 have:=h.e
 have:=h.v
 exact⟨h.f,by omega,hl⟩
theorem F5{fs:List af}{c:List ae}(h:Aj fs c)(h0:sc fs=0){R:List (List aa)}{x y:Nat}(hx:x≤xG c)(hy:y≤KY c)(hs:wF R≤ns fs*x+y):wF R<100000000:=by
 have hd:=G9 (by have:=h.f;omega) h0
 have h1:ns fs*x≤3*x:=Nat.mul_le_mul_right x hd
 have:=h.e
 have:=h.v
 omega
theorem xo{fs:List af}{R:List (List aa)}(hr:Ie fs R)(h:GV fs R=0):ig fs R:=by
 obtain⟨h1,h2⟩:=HN h
 exact⟨hr,h1,h2,h⟩
theorem Ns{fs:List af}{c:List ae}(h:Aj fs c)(h0:sc fs=0)(hlen:c.length=(WS fs).length):
  ∃r,gg fs c=some r∧(r=([],false)∨∃R,r=(R,true)∧ig fs R∧c=bn fs R∧wF R<100000000):=by
 obtain⟨hne,hwp,hV⟩:=yk h.f h0
 have hf:=h.f
 have hcn:=h.s.n
 have hc:0<c.length:=by omega
 have ih:=HD h.s (br fs) aO (by rw[ar];omega) (by omega)
 have hok:Ok c false (List.replicate c.length 0) (List.replicate c.length 0):=⟨by simp,by simp,fun k hk=>by simp only[yh];exact⟨by omega,fun _=>by omega,by omega⟩⟩
 have hA:Ms c (br fs) fs [] false (List.replicate c.length 0) (List.replicate c.length 0):=by
  refine⟨hok,by simp,fun s w hw=> ?_,fun _=>by simp[wF]⟩
  rw[yh,oX];rfl
 have hmn:=rJ h.s hc
 obtain⟨R,bad,p,u,e1,hA⟩:=OK h.s ih hV hne (eo _) (by omega) (by rw[←qM];omega) hc (mn c 0+2) aO [] false _ _ hA (by omega) (by rw[ar];omega)
 unfold gg
 rw[aB (by omega),aB (by omega),show((c.length:Int)).toNat=c.length by omega,IS,e1]
 unfold eK
 cases bad with
 |true=>
  rw[aQ]
  unfold eJ
  rw[aQ]
  exact⟨_,rfl,.inl rfl⟩
 |false=>
  have hps:p.sum≤xG c:=EU hA.ok.lp fun k hk=>by
   have:=(hA.ok.h k hk).2.1 rfl
   unfold mn at this;omega
  have hlenR:=hA.len
  simp only[if_neg (show¬(false=true) by simp)]at hlenR
  have hp0:=(hA.ok.h 0 hc).2.1 rfl
  have hroom:=Ae h h0 hps (EO c u) (hA.sz rfl) (by omega)
  rw[ay,wg (by omega) (rY hroom) (by have:=hroom.n;omega),aj]
  unfold eJ
  by_cases hcr:GV fs R=0
  ·rw[hcr,show((0:Int) != 0)=false from rfl,ay,xa (by omega),aj]
   have hro:=xo hroom hcr
   have htk:zE fs c R:=fun s w hs=>⟨g0 u s,by
    have:=hA.b s w (by rw[←qM];exact hs)
    rw[this];unfold BA;rw[List.drop_zero,Nat.sub_zero]⟩
   obtain⟨r,q1,q2⟩:=ON hro hlen htk (WS fs).length aO 0 (by omega) (by rw[ar];omega) (fun s w hs=>by omega)
   refine⟨r,q1,?_⟩
   rcases q2 with q2|⟨q2,q3⟩
   ·exact .inl q2
   ·exact .inr ⟨R,q2,hro,q3,F5 h h0 hps (EO c u) (hA.sz rfl)⟩
  ·rw[show(GV fs R != 0)=true by simp[hcr],aQ]
   exact⟨_,rfl,.inl rfl⟩
abbrev Pr:=Int×Int
abbrev pt(E:List Pr):aJ:=⟨E.map (·.1),E.map (·.2)⟩
def Ap(rep:Int):List Pr→List Pr→List (List Pr)
 |cur,[]=>[cur]
 |cur,x::l=>if x.1≤rep then cur::Ap rep [x] l else Ap rep (cur++[x]) l
def cT(rep:Int):List Pr→List (List Pr)
 |[]=>[]
 |x::l=>Ap rep [x] l
theorem yy(rep:Int):∀(l cur:List Pr),(Ap rep cur l).flatten=cur++l
 |[],cur=>by simp[Ap]
 |x::l,cur=>by
  simp only[Ap]
  split
  ·rw[List.flatten_cons,yy rep l [x]];simp
  ·rw[yy rep l (cur++[x])];simp
theorem Ey(rep:Int):∀(l cur:List Pr),cur≠[]→∀g∈Ap rep cur l,g≠[]
 |[],cur,h,g,hg=>by simp[Ap]at hg;subst hg;exact h
 |x::l,cur,h,g,hg=>by
  simp only[Ap]at hg
  split at hg
  ·rcases List.mem_cons.1 hg with rfl|hg
   ·exact h
   ·exact Ey rep l [x] (by simp) g hg
  ·exact Ey rep l (cur++[x]) (by simp) g hg
theorem A3(rep:Int):∀(l cur:List Pr),(Ap rep cur l).length≤l.length+1
 |[],cur=>by simp[Ap]
 |x::l,cur=>by
  simp only[Ap]
  split
  ·have:=A3 rep l [x];simp only[List.length_cons];omega
  ·have:=A3 rep l (cur++[x]);simp only[List.length_cons];omega
theorem sy(rep:Int)(E:List Pr):(cT rep E).flatten=E:=by
 cases E with
 |nil=>rfl
 |cons x l=>rw[cT,yy];rfl
theorem ER(rep:Int)(E:List Pr):∀g∈cT rep E,g≠[]:=by
 cases E with
 |nil=>intro g h;cases h
 |cons x l=>exact Ey rep l [x] (by simp)
theorem yr(rep:Int)(E:List Pr):(cT rep E).length≤E.length:=by
 cases E with
 |nil=>simp[cT]
 |cons x l=>exact A3 rep l [x]
theorem Hu{E:List Pr}(hE:E.length<1000000000)(rep:Int):∀(m f i:Nat) (xs:List aJ) (cur:List Pr),i+m=E.length→m<f→0<i→cur≠[]→xs.length+cur.length≤i→
  fa (pt E) rep f xs (cur.map (·.1)) (cur.map (·.2)) (i:Int)=some (xs++(Ap rep cur (E.drop i)).map pt):=by
 intro m
 induction m with
 |zero=>
  intro f i xs cur hi hf h0 hc0 hx
  obtain⟨f,rfl⟩:=aX hf
  rw[fa,cw (by simp;omega),ay,List.drop_of_length_le (by omega)]
  rfl
 |succ m ih=>
  intro f i xs cur hi hf h0 hc0 hx
  obtain⟨f,rfl⟩:=aX hf
  have h1:i<E.length:=by omega
  have hr:at? (E.map (·.1)) (i:Int)=some E[i].1:=by apply dl;simp[h1]
  have hd:at? (E.map (·.2)) (i:Int)=some E[i].2:=by apply dl;simp[h1]
  have j2:∀(ys:List aJ) (c:List Pr),ys.length+c.length≤i→iZ (fa (pt E) rep f) (pt E) ys (c.map (·.1)) (c.map (·.2)) (i:Int)=some (ys++(Ap rep (c++[E[i]]) (E.drop (i+1))).map pt):=by
   intro ys c hc
   unfold iZ
   simp only
   rw[hr,aj,aB (by rw[List.length_map];omega),hd,aj,aB (by rw[List.length_map];omega),aD h1 hE]
   have:=ih f (i+1) ys (c++[E[i]]) (by omega) (by omega) (by omega) (by simp) (by simp;omega)
   rw[List.map_append,List.map_append]at this
   exact this
  rw[fa,bp (by simp;exact h1),aQ,decide_eq_false (by omega),ay]
  simp only
  rw[hr,aj]
  unfold rH
  rw[cO h1,Ap]
  by_cases hle:E[i].1≤rep
  ·rw[decide_eq_true hle,aQ,aB (by simp;omega),if_pos hle]
   have:=j2 (xs++[pt cur]) [] (by
    have:0<cur.length:=List.length_pos_iff.2 hc0
    simp;omega)
   simp only[List.map_nil]at this
   rw[this]
   simp
  ·rw[decide_eq_false hle,ay,if_neg hle]
   exact j2 xs cur hx
theorem Ee{E:List Pr}(hE:E.length<1000000000)(rep:Int):iY (pt E) rep=some ((cT rep E).map pt):=by
 unfold iY
 cases E with
 |nil=>rfl
 |cons x l=>
  simp only
  rw[decide_eq_true (by simp),aQ]
  unfold iZ
  simp only
  have hr:at? ((x::l).map (·.1)) (0:Int)=some x.1:=rfl
  have hd:at? ((x::l).map (·.2)) (0:Int)=some x.2:=rfl
  rw[hr,aj,aB (by simp),hd,aj,aB (by simp)]
  have:=Hu hE rep l.length 1152921504606846975 1 [] [x] (by simp;omega) (by simp at hE;omega) (by omega) (by simp) (by simp)
  exact this
def tr(m:Nat)(Ls:List (List (List Pr))):List (List (List Pr)):=(List.range m).map fun i=>Ls.map fun L=>L.getD i []
theorem JY{m:Nat}{Ls:List (List (List Pr))}{L:List (List Pr)}(h:L.length=m):List.zipWith (fun x y=>x++[y]) ((tr m Ls).map (List.map pt)) (L.map pt)=(tr m (Ls++[L])).map (List.map pt):=by
 apply List.ext_getElem
 ·simp[tr,h]
 ·intro i h1 h2
  simp[tr]
  rw[gu (by simp[tr]at h2;omega)];exact⟨rfl,rfl⟩
theorem Le{rep:Int}:∀(Es:List (List Pr)) (done:List (List (List Pr))) (m:Nat),(∀E∈Es,E.length<1000000000)→
  ww rep (Es.map pt) ((tr m done).map (List.map pt))=some (if∀E∈Es,(cT rep E).length=m then some ((tr m (done++Es.map (cT rep))).map (List.map pt))else none)
 |[],done,m,_=>by simp[ww]
 |E::Es,done,m,hE=>by
  have h1:=hE E (List.mem_cons_self ..)
  rw[List.map_cons,ww,Ee h1,aj]
  have hl:((tr m done).map (List.map pt)).length=m:=by simp[tr]
  rw[hl,List.length_map]
  by_cases hm:(cT rep E).length=m
  ·rw[show((cT rep E).length==m)=true by simp[hm],cond_true,JY hm,Le Es (done++[cT rep E]) m fun E h=>hE E (List.mem_cons_of_mem _ h)]
   simp[hm]
  ·rw[show((cT rep E).length==m)=false by simp[hm],cond_false,if_neg (fun h=>hm (h E (List.mem_cons_self ..)))]
theorem Hc{rep:Int}{E:List Pr}{Es:List (List Pr)}(hE:∀F∈E::Es,F.length<1000000000)(hn:(E::Es).length<4000000000):
  xx ((E::Es).map pt) rep=some (if∀F∈Es,(cT rep F).length=(cT rep E).length then some ((tr (cT rep E).length ((E::Es).map (cT rep))).map (List.map pt))else none):=by
 have h1:=hE E (List.mem_cons_self ..)
 have h2:=yr rep E
 unfold xx
 rw[aB (by rw[List.length_map];omega),List.map_cons]
 simp only
 rw[Ee h1,aj,aB (by rw[List.length_map];omega)]
 have e:((cT rep E).map pt).map (fun y=>[y])=(tr (cT rep E).length [cT rep E]).map (List.map pt):=by
  apply List.ext_getElem
  ·simp[tr]
  ·intro i h1 h2
   simp[tr]
   rw[gu (by simpa using h1)];exact⟨rfl,rfl⟩
 rw[e,Le Es [cT rep E] _ fun F h=>hE F (List.mem_cons_of_mem _ h)]
 rfl
end Go.Proofs.YtnecojeemmnnaaaGreatDoor
