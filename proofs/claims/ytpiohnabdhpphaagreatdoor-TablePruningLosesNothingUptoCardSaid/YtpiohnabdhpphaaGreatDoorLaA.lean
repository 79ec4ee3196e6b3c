/- The calendar, in plain integers. Names, in plain terms. The fields of a type, in plain terms. The check of types and the common type, in plain terms. And what it needs. -/
import Derived.Laws.Runes
import Derived.ChangeKeysEq
import Derived.Lib.Bytealg
import Derived.Sort.Statements
import Derived.Test.YtpiohnabdhpphaaGreatDoorGeB
set_option linter.unusedVariables false
set_option linter.unusedSimpArgs false
set_option linter.unnecessarySimpa false
namespace Go.SX.Cal
open Go
open Go.IntKind (i64)
theorem j9{x:Int}(h1: -9223372036854775808≤x)(h2:x≤9223372036854775807):i64.wrap x=x:=by
 simp only[IntKind.wrap,IntKind.bits,IntKind.signed];simp only[Bool.true_and,decide_eq_true_eq,ge_iff_le];split<;>omega
def S(y:Int):Int:=365*y+y/4-y/100
def F(r:Int):Int:=r-r/1460+r/36524
def yr(r:Int):Int:=(r-r/1460+r/36524-r/146096)/365
theorem acR:((List.range 400).all fun y=>decide (F (S (y:Int))/365=y∧F (S ((y:Int)+1)-1)/365=y))=true:=by decide+kernel
theorem NH{y:Int}(h0:0≤y)(h1:y≤399):F (S y)/365=y∧F (S (y+1)-1)/365=y:=by
 have:=List.all_eq_true.1 acR y.toNat (List.mem_range.2 (by omega));have h:=of_decide_eq_true this;rw[Int.toNat_of_nonneg h0]at h;exact h
theorem VK{r s:Int}(h:r≤s):F r≤F s:=by unfold F;omega
theorem Gn{r:Int}(h0:0≤r)(h1:r≤146096):0≤yr r∧yr r≤399:=by unfold yr;omega
theorem acN{r:Int}(h0:0≤r)(h1:r≤146095):yr r=F r/365:=by
 unfold yr F;have:r/146096=0:=by omega
 rw[this,Int.sub_zero]
def Cm(y:Int):Prop:=y%4=0∧(y%100≠0∨y%400=0)
instance(y:Int):Decidable (Cm y):=by unfold Cm;infer_instance
theorem Zb{r:Int}(h0:0≤r)(h1:r≤146096):S (yr r)≤r∧r≤S (yr r)+365∧(r=S (yr r)+365→Cm (yr r+1)):=by
 obtain⟨b0,b1⟩:=Gn h0 h1;by_cases hr:r=146096
 ·subst hr;decide+kernel
 have h2:r≤146095:=by omega
 have e:=acN h0 h2;generalize yr r=y at*;have lo:S y≤r:=by
  apply Classical.byContradiction;intro hn;have hy:1≤y:=by
   apply Classical.byContradiction;intro hy;have:y=0:=by omega
   subst this;simp[S]at hn;omega
  have t:=(NH (y:=y-1) (by omega) (by omega)).2;rw[show y-1+1=y by omega]at t;have:=VK (show r≤S y-1 by omega);have:F r/365≤y-1:=by rw[←t];exact Int.ediv_le_ediv (by decide) this
  omega
 have hi:r<S (y+1)∨y=399:=by
  by_cases hy:y=399
  ·exact .inr hy
  left;apply Classical.byContradiction;intro hn;have t:=(NH (y:=y+1) (by omega) (by omega)).1;have:=VK (show S (y+1)≤r by omega);have:y+1≤F r/365:=by rw[←t];exact Int.ediv_le_ediv (by decide) this
  omega
 refine⟨lo,?_,fun he=> ?_⟩
 ·rcases hi with hi|rfl
  ·unfold S at*;omega
  ·simp[S]at*;omega
 ·rcases hi with hi|rfl
  ·unfold S at*;have h4:(y+1)/4=y/4+1∧(y+1)/100=y/100:=by omega
   exact⟨by omega,.inl (by omega)⟩
  ·simp[S]at*;omega
def s8(m:Int):Int:=(153*m+2)/5
def days(y m d:Int):Int:=
 if m≤2 then(y-1)/400*146097+S ((y-1)%400)+s8 (m+9)+d-1-719468 else y/400*146097+S (y%400)+s8 (m-3)+d-1-719468
def KO(y m:Int):Int:=if m=2 then(if Cm y then 29 else 28)else if m=4∨m=6∨m=9∨m=11 then 30 else 31
def date (n:Int):Int×Int×Int:=
 let era:=(n+719468)/146097
 let r:=(n+719468)%146097
 let y:=yr r
 let k:=r-S y
 let m:=(5*k+2)/153
 let d:=k-s8 m+1
 if m+3>12 then(era*400+y+1,m+3-12,d)else(era*400+y,m+3,d)
theorem FD(n:Int):days (date n).1 (date n).2.1 (date n).2.2=n∧1≤(date n).2.1∧(date n).2.1≤12∧1≤(date n).2.2∧(date n).2.2≤KO (date n).1 (date n).2.1:=by
 simp only[date];have hr0:0≤(n+719468)%146097:=by omega
 have hr1:(n+719468)%146097≤146096:=by omega
 have hn:n+719468=(n+719468)/146097*146097+(n+719468)%146097:=by omega
 generalize (n+719468)%146097=r at*;generalize (n+719468)/146097=era at*;obtain⟨b0,b1⟩:=Gn hr0 hr1;obtain⟨s0,s1,s2⟩:=Zb hr0 hr1;generalize yr r=y at*;have hk0:0≤r-S y:=by omega
 have hk1:r-S y≤365:=by omega
 have hk2:r-S y=365→Cm (y+1):=fun h=>s2 (by omega)
 have hrk:r=S y+(r-S y):=by omega
 generalize r-S y=k at*;subst hrk;have hm0:0≤(5*k+2)/153:=by omega
 have hm1:(5*k+2)/153≤11:=by omega
 have hd:1≤k-s8 ((5*k+2)/153)+1:=by unfold s8;omega
 have hd2:k≤s8 ((5*k+2)/153+1)-1:=by unfold s8;omega
 generalize hm:(5*k+2)/153=m at*;by_cases hc:m+3>12
 ·simp only[hc,if_true];have e1:(era*400+y+1-1)/400=era:=by omega
  have e2:(era*400+y+1-1)%400=y:=by omega
  refine⟨?_,by omega,by omega,hd,?_⟩
  ·unfold days;rw[if_pos (by omega),e1,e2,show m+3-12+9=m by omega];omega
  ·unfold KO;have hcase:m=10∨m=11:=by omega
   rcases hcase with rfl|rfl
   ·simp[s8]at*;omega
   ·have hL:Cm (era*400+y+1)↔Cm (y+1):=by unfold Cm;omega
    simp only[show(11:Int)+3-12=2 by rfl,if_true];by_cases hl:Cm (y+1)
    ·rw[if_pos (hL.2 hl)];simp[s8]at*;omega
    ·rw[if_neg (fun h=>hl (hL.1 h))];have:k≠365:=fun h=>hl (hk2 h)
     simp[s8]at*;omega
 ·simp only[hc,if_false];have e1:(era*400+y)/400=era:=by omega
  have e2:(era*400+y)%400=y:=by omega
  refine⟨?_,by omega,by omega,hd,?_⟩
  ·unfold days;rw[if_neg (by omega),e1,e2,show m+3-3=m by omega];omega
  ·unfold KO;rw[if_neg (by omega)];have hcase:m=0∨m=1∨m=2∨m=3∨m=4∨m=5∨m=6∨m=7∨m=8∨m=9:=by omega
   rcases hcase with rfl|rfl|rfl|rfl|rfl|rfl|rfl|rfl|rfl|rfl<;>simp[s8]at* <;>omega
def E(y:Int):Int:=y/400*146097+S (y%400)-719468
theorem abI{y:Int}(h:Cm (y+1)):E (y+1)=E y+366:=by
 unfold E S;unfold Cm at h;by_cases h4:(y+1)%400=0
 ·have a1:(y+1)/400=y/400+1:=by omega
  have a2:y%400=399:=by omega
  rw[a1,h4,a2];omega
 ·have a1:(y+1)/400=y/400:=by omega
  have a2:(y+1)%400=y%400+1:=by omega
  rw[a1,a2];have hq:0≤y%400∧y%400≤398:=by omega
  have h5:(y%400+1)%4=0:=by omega
  have h6:(y%400+1)%100≠0:=by omega
  generalize y%400=q at*;have:(q+1)/4=q/4+1:=by omega
  have:(q+1)/100=q/100:=by omega
  omega
theorem adb{y:Int}(h:¬Cm (y+1)):E (y+1)=E y+365:=by
 unfold E S;unfold Cm at h;have h4:(y+1)%400≠0:=by omega
 have a1:(y+1)/400=y/400:=by omega
 have a2:(y+1)%400=y%400+1:=by omega
 rw[a1,a2];have hq:0≤y%400∧y%400≤398:=by omega
 have h5:(y%400+1)%4≠0∨(y%400+1)%100=0:=by omega
 generalize y%400=q at*;by_cases h7:(q+1)%100=0
 ·have:(q+1)/4=q/4+1:=by omega
  have:(q+1)/100=q/100+1:=by omega
  omega
 ·have:(q+1)/4=q/4:=by omega
  have:(q+1)/100=q/100:=by omega
  omega
theorem C3(y m d:Int):days y m d=if m≤2 then E (y-1)+s8 (m+9)+d-1 else E y+s8 (m-3)+d-1:=by
 unfold days E;split<;>omega
theorem Nj(y:Int):(Cm (y+1)∧E (y+1)=E y+366)∨(¬Cm (y+1)∧E (y+1)=E y+365):=by
 by_cases h:Cm (y+1)
 ·exact .inl ⟨h,abI h⟩
 ·exact .inr ⟨h,adb h⟩
theorem yY(y:Int):days y 1 1=E (y-1)+306:=by
 rw[C3,if_pos (by decide)];simp[s8]
theorem X3(y m d:Int)(h0:1≤m)(h1:m≤12)(h2:1≤d)(h3:d≤KO y m):days y 1 1≤days y m 1∧days y m d=days y m 1+d-1∧days y m d<days (y+1) 1 1:=by
 rw[yY,yY,C3,C3,show y+1-1=y by omega];have hE:=Nj (y-1);rw[show y-1+1=y by omega]at hE;unfold KO at h3;have hc:m=1∨m=2∨m=3∨m=4∨m=5∨m=6∨m=7∨m=8∨m=9∨m=10∨m=11∨m=12:=by omega
 rcases hE with⟨hl,hE⟩ |⟨hl,hE⟩<;>simp only[hl,if_true,if_false]at h3<;>rcases hc with rfl|rfl|rfl|rfl|rfl|rfl|rfl|rfl|rfl|rfl|rfl|rfl<;>simp[s8]at* <;>omega
theorem HT(y:Int):days y 1 1+365≤days (y+1) 1 1∧days (y+1) 1 1≤days y 1 1+366:=by
 rw[yY,yY,show y+1-1=y by omega];have hE:=Nj (y-1);rw[show y-1+1=y by omega]at hE;omega
theorem Lh(y:Int)(k:Nat):days y 1 1+365*k≤days (y+k) 1 1:=by
 induction k with
 |zero=>simp
 |succ k ih=>
  have:=(HT (y+k)).1;rw[show y+((k+1:Nat):Int)=y+k+1 by omega];omega
theorem wT{y z:Int}(h:y≤z):days y 1 1+365*(z-y)≤days z 1 1:=by
 have:=Lh y (z-y).toNat;rw[show y+((z-y).toNat:Int)=z by omega]at this;omega
theorem DL{n y:Int}:(date n).1=y↔days y 1 1≤n∧n<days (y+1) 1 1:=by
 obtain⟨h1,h2,h3,h4,h5⟩:=FD n;obtain⟨a1,a2,a3⟩:=X3 _ _ _ h2 h3 h4 h5;rw[h1]at a2 a3;constructor
 ·rintro rfl;exact⟨by omega,a3⟩
 ·rintro⟨b1,b2⟩;apply Classical.byContradiction;intro hn;rcases Int.lt_or_gt_of_ne hn with hlt|hgt
  ·have:=wT (show(date n).1+1≤y by omega);omega
  ·have:=wT (show y+1≤(date n).1 by omega);omega
end Go.SX.Cal
namespace Go.Proofs.YtpiohnabdhpphaaGreatDoor
open Go Go.SX Go.SX.Cal
open Go.IntKind (i64)
theorem ap{β:Type}(x y:Option β):ak true x y=x:=rfl
theorem ai{β:Type}(x y:Option β):ak false x y=y:=rfl
theorem aD{β:Type}(b:Bool)(x y:Option β):ak b x y=if b=true then x else y:=by cases b<;>rfl
theorem aF:aH=1152921504606846976:=rfl
def first(P:Nat→Bool)(i n:Nat):Option Nat:=(List.range' i (n-i)).find? P
theorem uc{P:Nat→Bool}{i n:Nat}(h:i<n):first P i n=if P i=true then some i else first P (i+1) n:=by
 unfold first
 rw[show n-i=(n-(i+1))+1 by omega,List.range'_succ,List.find?_cons];cases hp:P i<;>simp[hp]
theorem uq{P:Nat→Bool}{n:Nat}:first P n n=none:=by simp[first]
theorem zp{P:Nat→Bool}{i n:Nat}:first P i n=none↔∀j,i≤j→j<n→P j=false:=by
 unfold first
 rw[List.find?_eq_none];constructor
 ·intro h j h1 h2;have:=h j (by rw[List.mem_range'_1];omega);simpa using this
 ·intro h j hj;rw[List.mem_range'_1]at hj;have:=h j (by omega) (by omega);simp[this]
theorem ul{β:Type}{f:Nat→Nat→Option β}{n:Nat}{P:Nat→Bool}{A:Nat→Option β}{B:Option β}(hstep:∀k i,i<n→f (k+1) i=if P i=true then A i else f k (i+1))(hend:∀k,f (k+1) n=B):
  ∀k i,i≤n→n-i<k→f k i=(first P i n).elim B A:=by
 intro k;induction k with
 |zero=>intro i _ h;omega
 |succ k ih=>
  intro i hi hk;by_cases h:i=n
  ·subst h;rw[hend,uq];rfl
  ·rw[hstep k i (by omega),uc (by omega)];by_cases hp:P i=true
   ·simp[hp]
   ·simp only[hp,if_false];exact ih (i+1) (by omega) (by omega)
def nu(s:ByteArray)(i:Nat):Nat:=(s.data.toList.getD i 0).toNat
theorem Ja(s:ByteArray)(i:Nat)(h:i<s.size):(s.get! i).toNat=nu s i:=by
 unfold nu;have h':i<s.data.size:=h;have:s.get! i=s.data.toList.getD i 0:=by
  simp only[ByteArray.get!,List.getD,Array.getElem?_toList];rw[getElem!_pos s.data i h',Array.getElem?_eq_getElem h'];rfl
 rw[this]
def vE(b:Nat):Bool:=decide (97≤b)&&decide (b≤122)
def other(b:Nat):Bool:=b==95||(decide (48≤b)&&decide (b≤57))
def Mv(b:Nat):Bool:=vE b||other b
theorem Vz(n:Nat):yE (Int.ofNat n)=some (!Mv n):=by
 unfold yE iW;simp only[aD,decide_eq_true_eq,Int.ofNat_eq_natCast];repeat' split
 all_goals (rw[eJ,Bool.eq_iff_iff];simp[Mv,vE,other];omega)
theorem Hs(s:ByteArray)(i:Nat)(h:i<s.size)(hb:nu s i<128):Utf8.decode s i=(nu s i,1):=by
 have e:=Ja s i h;unfold Utf8.decode;simp[e,hb]
theorem Ic(s:ByteArray)(i:Nat)(h:i<s.size)(hb:¬nu s i<128):128≤(Utf8.decode s i).1:=by
 have e:=Ja s i h;unfold Utf8.decode;simp only[Nat.add_zero,e,if_neg hb,Utf8.runeError];repeat' split
 all_goals simp_all
 all_goals omega
def YO(s:ByteArray)(i:Nat):Bool:= !Mv (nu s i)
theorem MN(s:ByteArray):∀k i,i≤s.size→s.size-i<k→∃r,cL s true k i=some r∧(decide (0≤r)=(first (YO s) i s.size).isSome):=by
 intro k;induction k with
 |zero=>intro i _ h;omega
 |succ k ih=>
  intro i hi hk;rw[cL];by_cases h:i=s.size
  ·subst h;rw[uq];simp only[Nat.lt_irrefl,decide_false,ai];exact⟨-1,rfl,rfl⟩
  ·have hlt:i<s.size:=by omega
   simp only[hlt,decide_true,ap,Vz,ay];rw[uc hlt];by_cases hb:nu s i<128
   ·rw[Hs s i hlt hb];simp only[YO];by_cases hg:Mv (nu s i)=true
    ·simp only[hg,Bool.not_true,aD];obtain⟨r,h1,h2⟩:=ih (i+1) (by omega) (by omega);exact⟨r,by simpa using h1,by simpa [YO]using h2⟩
    ·simp only[hg,Bool.not_false,aD];exact⟨_,rfl,by simp⟩
   ·have h1:=Ic s i hlt hb;have g1:Mv (Utf8.decode s i).1=false:=by
     generalize (Utf8.decode s i).1=x at h1;simp[Mv,vE,other];omega
    have g2:YO s i=true:=by
     simp[YO,Mv,vE,other];omega
    simp only[g1,g2,Bool.not_false,aD];exact⟨_,rfl,by simp⟩
def wx(s:ByteArray):Bool:=decide (1≤s.size)&&decide (s.size≤24)&&vE (nu s 0)&&(first (YO s) 0 s.size).isNone
theorem yS(s:ByteArray):(s.toList==(ByteArray.mk #[]).toList)=decide (s.size=0):=by
 rw[ByteArray.toList_eq,ByteArray.toList_eq,Bool.eq_iff_iff];show(s.data.toList==[])=true↔decide (s.data.size=0)=true;rw[←Array.length_toList];cases s.data.toList<;>simp
theorem US(s:ByteArray)(hs:s.size<1000000000):wI s=some (wx s):=by
 obtain⟨r,h1,h2⟩:=MN s aH 0 (Nat.zero_le _) (by rw[aF];omega);unfold wI ql ix jv jq;rw[h1,yS];simp only[ay,h2,aD];by_cases z0:s.size=0
 ·simp[z0,wx]
 ·by_cases z1:24<s.size
  ·have:¬s.size≤24:=by omega
   simp[z0,z1,wx,this,show(24:Int)<(s.size:Int) by omega]
  ·have hz:¬(24:Int)<(s.size:Int):=by omega
   have hb:((s.data.toList.getD (0:Int).toNat 0).toNat:Int)=(nu s 0:Int):=rfl;simp only[z0,decide_false,hz,Bool.false_eq_true,if_false,hb];rw[bh (by omega),bh (by omega)];simp only[decide_eq_true_eq];have:s.size≤24:=by omega
   by_cases q1:nu s 0<97
   ·have:¬97≤nu s 0:=by omega
    simp[show(nu s 0:Int)<97 by omega,wx,vE,this]
   ·by_cases q2:122<nu s 0
    ·have:¬nu s 0≤122:=by omega
     simp[show¬(nu s 0:Int)<97 by omega,show(122:Int)<(nu s 0:Int) by omega,wx,vE,this]
    ·simp[show¬(nu s 0:Int)<97 by omega,show¬(122:Int)<(nu s 0:Int) by omega,wx,vE,show 1≤s.size by omega,this,show 97≤nu s 0 by omega,show nu s 0≤122 by omega]
def Li(s:ByteArray)(i:Nat):Bool:= !vE (nu s i)&&(i==0|| !other (nu s i))
theorem Qk(s:ByteArray)(hs:s.size<1000000000)(k i:Nat)(hi:i<s.size):fQ s (k+1) (i:Int)=if Li s i=true then some false else fQ s k ((i+1:Nat):Int):=by
 rw[fQ,←aD];have hb:((s.data.toList.getD (i:Int).toNat 0).toNat:Int)=(nu s i:Int):=rfl;have hw:i64.wrap ((i:Int)+1)=((i+1:Nat):Int):=by rw[j9 (by omega) (by omega)];omega
 have hg:0≤(i:Int)∧(i:Int)<(s.size:Int):=by omega
 rw[show decide ((i:Int)<(s.size:Int))=true by simp[hg.2],ap];simp only[yC,vS,vD,hb,hw,ay,bh hg];have e1:((nu s i:Int)==95)=(nu s i==95):=by rw[Bool.eq_iff_iff];simp;omega
 have e2:(decide ((97:Int)≤nu s i))=decide (97≤nu s i):=by rw[Bool.eq_iff_iff];simp;omega
 have e3:(decide ((nu s i:Int)≤122))=decide (nu s i≤122):=by rw[Bool.eq_iff_iff];simp;omega
 have e4:(decide ((48:Int)≤nu s i))=decide (48≤nu s i):=by rw[Bool.eq_iff_iff];simp;omega
 have e5:(decide ((nu s i:Int)≤57))=decide (nu s i≤57):=by rw[Bool.eq_iff_iff];simp;omega
 have e6:((i:Int)==0)=(i==0):=by rw[Bool.eq_iff_iff];simp
 simp only[e1,e2,e3,e4,e5,e6,Li,vE,other];generalize hq:fQ s k ((i+1:Nat):Int)=q;generalize (nu s i==95)=b1;generalize decide (97≤nu s i)=b2;generalize decide (nu s i≤122)=b3;generalize decide (48≤nu s i)=b4;generalize decide (nu s i≤57)=b5;generalize (i==0)=b6;cases b1<;>cases b2<;>cases b3<;>cases b4<;>cases b5<;>cases b6<;>rfl
theorem WA(s:ByteArray)(hs:s.size<1000000000):yR s=some (wx s):=by
 have hl:=ul (f:=fun k i=>fQ s k (i:Int)) (n:=s.size) (P:=Li s) (A:=fun _=>some false) (B:=some true) (fun k i hi=>Qk s hs k i hi)
  (fun k=>by rw[fQ];simp only[Int.lt_irrefl,decide_false,ai];rfl) aH 0 (Nat.zero_le _) (by rw[aF];omega)
 have hl:fQ s aH (0:Int)=_:=hl;unfold yR yH;rw[hl];simp only[aD];by_cases z0:s.size=0
 ·simp[z0,wx]
 ·by_cases z1:24<s.size
  ·have:¬s.size≤24:=by omega
   simp[z0,z1,wx,this,show(24:Int)<(s.size:Int) by omega]
  ·have hz:¬(24:Int)<(s.size:Int):=by omega
   have hz2:¬(s.size:Int)<1:=by omega
   simp only[hz,hz2,decide_false,Bool.false_eq_true,if_false];have e:(first (Li s) 0 s.size).isNone=(vE (nu s 0)&&(first (YO s) 0 s.size).isNone):=by
    rw[Bool.eq_iff_iff,iu,Option.isNone_iff_eq_none,Option.isNone_iff_eq_none,zp,zp];constructor
    ·intro h;have h0:=h 0 (iO _) (by omega);simp only[Li,beq_self_eq_true,Bool.true_or,Bool.and_true]at h0;have h0':vE (nu s 0)=true:=by simpa using h0
     refine⟨h0',fun j _ hj=> ?_⟩;have h1:=h j (Nat.zero_le _) hj;simp only[Li,YO,Mv]at h1⊢;cases hs:vE (nu s j)<;>cases ho:other (nu s j)<;>simp_all
    ·rintro⟨h0,h⟩ j _ hj;have h1:=h j (Nat.zero_le _) hj;simp only[Li,YO,Mv]at h1⊢;by_cases hj0:j=0
     ·subst hj0;simp[h0]
     ·cases hs:vE (nu s j)<;>cases ho:other (nu s j)<;>simp_all
   have:(first (Li s) 0 s.size).elim (some true) (fun _=>some false)=some ((first (Li s) 0 s.size).isNone):=by cases first (Li s) 0 s.size<;>rfl
   rw[this,e];simp[wx,show 1≤s.size by omega,show s.size≤24 by omega]
mutual
def jm:al→Nat
 |⟨_,_,fs⟩=>dt fs+1
def dt:List (mR al)→Nat
 |[]=>0
 |f::l=>zq f+dt l
def zq:mR al→Nat
 |⟨_,n,_,t⟩=>n.size+jm t+1
end
theorem io:∀{l:List ae} {x:ae},x∈l→zq x≤dt l
 |[],_,h=>by cases h
 |y::l,x,h=>by
  simp only[dt];rcases List.mem_cons.1 h with rfl|h
  ·omega
  ·have:=io h;omega
theorem gy:∀x:ae,zq x=x.name.size+jm x.type+1
 |⟨_,_,_,_⟩=>by simp only[zq]
theorem pV:∀x:al,jm x=dt x.fields+1
 |⟨_,_,_⟩=>by simp only[jm]
theorem bX:∀l:List ae,l.length≤dt l
 |[]=>by simp[dt]
 |x::l=>by
  have:=bX l;have:=gy x;simp only[dt,List.length_cons];omega
theorem aq{i n:Nat}(h:i<n)(hn:n<1000000000):i64.wrap ((i:Int)+1)=((i+1:Nat):Int):=by rw[j9 (by omega) (by omega)];omega
theorem aB{α:Type}{xs:List α}{i:Nat}(h:i<xs.length):at? xs (i:Int)=some xs[i]:=by unfold at?;simp[h]
theorem aS{i n:Nat}(h:i<n):decide ((i:Int)<(n:Int))=true:=by simp[h]
def fnm(fs:List ae)(i:Nat):ByteArray:=(fs[i]?.map (·.name)).getD ByteArray.empty
theorem Dw{fs:List ae}{i:Nat}(h:i<fs.length):fnm fs i=fs[i].name:=by simp[fnm,h]
def Fs(fs:List ae)(i:Nat):Bool:= !wx (fnm fs i)
def eqN(fs:List ae)(i j:Nat):Bool:=(fnm fs j).toList==(fnm fs i).toList
def MZ(fs:List ae)(i:Nat):Bool:=(first (eqN fs i) 0 i).isSome
def Qz(fs:List ae):Bool:=(first (Fs fs) 0 fs.length).isSome
def OJ(fs:List ae):Bool:=(first (MZ fs) 0 fs.length).isSome
structure HV(fs:List ae):Prop where
 len:fs.length<1000000000
 nam:∀f∈fs,f.name.size<1000000000
theorem XG{fs:List ae}(h:dt fs<1000000000):HV fs:=
 ⟨by have:=bX fs;omega,fun f hf=>by have:=io hf;have:=gy f;omega⟩
theorem ZE:∀f:ae,mR.mk f.id f.name f.need (al.mk f.type.kind f.type.scale f.type.fields)=f
 |⟨_,_,_,⟨_,_,_⟩⟩=>rfl
theorem Uc{fs:List ae}(ho:HV fs):cm fs=some (Qz fs):=by
 have hl:=ul (f:=fun k i=>aP fs k (i:Int)) (n:=fs.length) (P:=Fs fs) (A:=fun i=>some (i:Int)) (B:=some (-1)) (fun k i hi=>by
   show aP fs (k+1) (i:Int)=_;rw[aP,aS hi,ap,aB hi,ay,zd,US _ (ho.nam _ (gd hi)),aq hi ho.len];simp only[ay,aD,Fs,Dw hi])
  (fun k=>by rw[aP];simp only[Int.lt_irrefl,decide_false,ai];rfl) aH 0 (Nat.zero_le _) (by rw[aF];have:=ho.len;omega)
 have hl:aP fs aH (0:Int)=_:=hl;unfold cm dD;rw[hl];unfold Qz;cases first (Fs fs) 0 fs.length with
 |none=>rfl
 |some j=>simp[ay]
theorem S0{fs:List ae}(ho:HV fs){i:Nat}(hi:i<fs.length):cj ((fs.drop (0:Int).toNat).take ((i:Int).toNat-(0:Int).toNat)) fs[i]=some (MZ fs i,fs[i]):=by
 have ep:(fs.drop (0:Int).toNat).take ((i:Int).toNat-(0:Int).toNat)=fs.take i:=by simp
 rw[ep];have hlen:(fs.take i).length=i:=by simp;omega
 have hl:=ul (f:=fun k j=>aG (fs.take i) k fs[i].id fs[i].name fs[i].need fs[i].type.kind fs[i].type.scale fs[i].type.fields (j:Int)) (n:=i) (P:=eqN fs i) (A:=fun j=>some ((j:Int),fs[i])) (B:=some (-1,fs[i])) (fun k j hj=>by
   have hj':j<(fs.take i).length:=by rw[hlen];exact hj
   have hjf:j<fs.length:=by omega
   show aG (fs.take i) (k+1) _ _ _ _ _ _ (j:Int)=_;rw[aG,aS hj',ap,aB hj',ay,zU,aq hj (by have:=ho.len;omega)];simp only[ay,aD,eqN,Dw hi,Dw hjf,List.getElem_take,ZE])
  (fun k=>by
   show aG (fs.take i) (k+1) _ _ _ _ _ _ (i:Int)=_;rw[aG];simp only[hlen,Int.lt_irrefl,decide_false,ai,dm,ZE]) aH 0 (Nat.zero_le _) (by rw[aF];have:=ho.len;omega)
 have hl:aG (fs.take i) aH _ _ _ _ _ _ (0:Int)=_:=hl;unfold cj dB;rw[hl];unfold MZ;cases first (eqN fs i) 0 i with
 |none=>rfl
 |some j=>simp[ay]
theorem NX{t:al}(ho:HV t.fields):gS t aH (0:Int)=some (if OJ t.fields=true then 5 else 0):=by
 have hl:=ul (f:=fun k i=>gS t k (i:Int)) (n:=t.fields.length) (P:=MZ t.fields) (A:=fun _=>some 5) (B:=some 0) (fun k i hi=>by
   show gS t (k+1) (i:Int)=_;rw[gS,aS hi,ap,aB hi,ay,bh (by omega),S0 ho hi,aq hi ho.len];simp only[ay,aD])
  (fun k=>by rw[gS];simp only[Int.lt_irrefl,decide_false,ai];rfl) aH 0 (Nat.zero_le _) (by rw[aF];have:=ho.len;omega)
 have hl:gS t aH (0:Int)=_:=hl;rw[hl];unfold OJ;cases first (MZ t.fields) 0 t.fields.length<;>rfl
theorem UD{t:al}(ho:HV t.fields)(rec2:Int→Option Int){i:Nat}(hi:i<t.fields.length):iM rec2 t (i:Int) aH (0:Int)=if MZ t.fields i=true then some 5 else rec2 ((i+1:Nat):Int):=by
 have hl:=ul (f:=fun k j=>iM rec2 t (i:Int) k (j:Int)) (n:=i) (P:=eqN t.fields i) (A:=fun j=>some 5) (B:=rec2 ((i+1:Nat):Int)) (fun k j hj=>by
   have hjf:j<t.fields.length:=by omega
   show iM rec2 t (i:Int) (k+1) (j:Int)=_;rw[iM,aS hj,ap,aB hjf,aB hi,aq hj (by have:=ho.len;omega)];simp only[ay,aD,eqN,Dw hi,Dw hjf])
  (fun k=>by
   show iM rec2 t (i:Int) (k+1) (i:Int)=_;rw[iM];simp only[Int.lt_irrefl,decide_false,ai,Bd];rw[aq hi ho.len]) aH 0 (Nat.zero_le _) (by rw[aF];have:=ho.len;omega)
 have hl:iM rec2 t (i:Int) aH (0:Int)=_:=hl;rw[hl];unfold MZ;cases first (eqN t.fields i) 0 i<;>simp
theorem UH{t:al}(ho:HV t.fields):gV t aH (0:Int)=some (if OJ t.fields=true then 5 else 0):=by
 have hl:=ul (f:=fun k i=>gV t k (i:Int)) (n:=t.fields.length) (P:=MZ t.fields) (A:=fun _=>some 5) (B:=some 0) (fun k i hi=>by
   show gV t (k+1) (i:Int)=_;rw[gV,aS hi,ap,UD ho _ hi])
  (fun k=>by rw[gV];simp only[Int.lt_irrefl,decide_false,ai];rfl) aH 0 (Nat.zero_le _) (by rw[aF];have:=ho.len;omega)
 have hl:gV t aH (0:Int)=_:=hl;rw[hl];unfold OJ;cases first (MZ t.fields) 0 t.fields.length<;>rfl
theorem UY{t:al}(ho:HV t.fields):jF t aH (0:Int)=some (if Qz t.fields=true then 4 else if OJ t.fields=true then 5 else 0):=by
 have hl:=ul (f:=fun k i=>jF t k (i:Int)) (n:=t.fields.length) (P:=Fs t.fields) (A:=fun _=>some 4) (B:=some (if OJ t.fields=true then 5 else 0)) (fun k i hi=>by
   show jF t (k+1) (i:Int)=_;rw[jF,aS hi,ap,aB hi,ay,WA _ (ho.nam _ (gd hi)),aq hi ho.len];simp only[ay,aD,Fs,Dw hi])
  (fun k=>by rw[jF];simp only[Int.lt_irrefl,decide_false,ai,AZ];exact UH ho) aH 0 (Nat.zero_le _) (by rw[aF];have:=ho.len;omega)
 have hl:jF t aH (0:Int)=_:=hl;rw[hl];unfold Qz;cases first (Fs t.fields) 0 t.fields.length<;>rfl
def vf(t:al):Int:=
 if t.kind=6 then(if t.fields.length≠1∨(fnm t.fields 0).size≠0 then 1 else 0)
 else if t.kind≠7 then(if 0<t.fields.length then 1 else 0)
 else if t.fields.length=0 then 1 else if Qz t.fields=true then 4 else if OJ t.fields=true then 5 else 0
def Iw(t:al):Prop:=t.scale≠0∧(t.kind≠3∨t.scale<0∨12<t.scale)
instance(t:al):Decidable (Iw t):=by unfold Iw;infer_instance
def shp(t:al):Int:=if t.kind<1∨7<t.kind then 3 else if Iw t then 1 else vf t
theorem XQ{t:al}(ho:HV t.fields):yM t=some (vf t):=by
 unfold yM tS vf;rw[Uc ho,NX ho];simp only[ay,aD];by_cases h6:t.kind=6
 ·simp only[h6,beq_self_eq_true,if_true];by_cases hl:t.fields.length=1
  ·have:(0:Nat)<t.fields.length:=by omega
   rw[show at? t.fields (0:Int)=some t.fields[0]from aB (i:=0) this];simp only[hl,ay,yS,Dw this];by_cases hz:t.fields[0].name.size=0<;>simp[hz]
  ·simp[hl,show((t.fields.length:Int)=1)=False from eq_false (by omega)]
 ·by_cases h7:t.kind=7
  ·simp[h7];by_cases hl:t.fields=[]
   ·simp[hl]
   ·simp[hl];by_cases hb:Qz t.fields=true
    ·simp[hb]
    ·simp[hb]
  ·simp[h6,h7];by_cases hl:0<t.fields.length
   ·simp[hl]
   ·simp[hl]
theorem aaD{t:al}(ho:HV t.fields):Ct t=some (shp t):=by
 have hj3:∀x,mi t x=if x=true then some 1 else if t.kind≠7 then some 0 else some (if Qz t.fields=true then 4 else if OJ t.fields=true then 5 else 0):=by
  intro x;unfold mi;rw[UY ho];cases x<;>simp[aD]
 have hleaf:gz t.kind=some (decide (t.kind≠6∧t.kind≠7)):=by
  unfold gz vq;by_cases h6:t.kind=6<;>by_cases h7:t.kind=7<;>simp[h6,h7,aD]
 have hj1:∀x,mq t x=if x=true then some 1 else some (vf t):=by
  intro x;cases x with
  |true=>rfl
  |false=>
   unfold mq tA vf;rw[hleaf];simp only[aD,ay,hj3];by_cases h6:t.kind=6
   ·simp only[h6,beq_self_eq_true,if_true];by_cases hl:t.fields.length=1
    ·have:(0:Nat)<t.fields.length:=by omega
     rw[show at? t.fields (0:Int)=some t.fields[0]from aB (i:=0) this];simp only[hl,ay,yS,Dw this];by_cases hz:t.fields[0].name.size=0<;>simp[hz]
    ·simp[hl,show((t.fields.length:Int)=1)=False from eq_false (by omega)]
   ·by_cases h7:t.kind=7
    ·simp[h7];by_cases hl:t.fields=[]
     ·simp[hl]
     ·simp[hl]
    ·simp[h6,h7];by_cases hl:0<t.fields.length
     ·simp[hl]
     ·simp[hl]
 unfold Ct shp gi qX;simp only[aD,hj1,ay];by_cases a1:t.kind<1
 ·simp[a1,show¬(1:Int)≤t.kind by omega,ay]
 ·by_cases a2:7<t.kind
  ·simp[a2,show(1:Int)≤t.kind by omega,show¬t.kind≤7 by omega,ay]
  ·simp only[a1,a2,show(1:Int)≤t.kind by omega,show t.kind≤7 by omega,decide_true,or_self,if_false,if_true,Bool.not_true,ay];unfold Iw;by_cases h3:t.kind=3
   ·by_cases b1:t.scale<0
    ·simp[h3,b1,show¬(0:Int)≤t.scale by omega,show t.scale≠0 by omega,ay]
    ·by_cases b2:12<t.scale
     ·simp[h3,b1,b2,show(0:Int)≤t.scale by omega,show¬t.scale≤12 by omega,show t.scale≠0 by omega,ay]
     ·simp[h3,b1,b2,show(0:Int)≤t.scale by omega,show t.scale≤12 by omega,ay]
   ·by_cases b0:t.scale=0<;>simp[h3,b0]
inductive V:al→Prop where
 |mk (t:al) (h1:shp t=0) (h2:∀f,f∈t.fields→V f.type):V t
theorem adz(t:al):zX t=some (decide (t.kind≠6∧t.kind≠7)):=by
 unfold zX xl;by_cases h6:t.kind=6<;>by_cases h7:t.kind=7<;>simp[h6,h7,aD]
theorem DU(k:Int):gz k=some (decide (k≠6∧k≠7)):=by
 unfold gz vq;by_cases h6:k=6<;>by_cases h7:k=7<;>simp[h6,h7,aD]
theorem X7{t:al}(ho:HV t.fields)(q:al→Int→eC→Option (Int×eC))(l z:Int):
  im q t l z=if shp t≠0 then some (shp t,⟨z⟩)else eN q t l aH z 0:=by
 have hj4:∀x,fM q t l z x=if x=true then some (1,⟨z⟩)else if vf t≠0 then some (vf t,⟨z⟩)else eN q t l aH z 0:=by
  intro x;unfold fM;rw[XQ ho];cases x<;>simp[aD,ay]
 unfold im mc shp;simp only[aD,hj4];by_cases a1:t.kind<1
 ·simp[a1]
 ·by_cases a2:7<t.kind
  ·simp[a1,a2]
  ·simp only[a1,a2,decide_false,or_self,if_false,Bool.false_eq_true];unfold Iw;by_cases b0:t.scale=0
   ·simp[b0]
   ·by_cases h3:t.kind=3
    ·by_cases b1:t.scale<0
     ·simp[b0,h3,b1]
     ·by_cases b2:12<t.scale
      ·simp[b0,h3,b1,b2]
      ·simp[b0,h3,b1,b2]
    ·simp[b0,h3]
theorem XA{t:al}(ho:HV t.fields)(q:al→Int→Int→Option (Int×Int))(l z:Int):
  ly q t l z=if shp t≠0 then some (shp t,z)else jL q t l aH z 0:=by
 unfold ly;rw[aaD ho];simp[aD,ay]
theorem aff{t:al}(h:shp t=0)(hf:∀f∈t.fields,V f.type):V t:= .mk t h hf
theorem PP{t:al}(ho:HV t.fields)(l:Int)(hl0: -10≤l)(hl1:l≤10)(q1:al→Int→eC→Option (Int×eC))(q2:al→Int→Int→Option (Int×Int))
  (hq:∀f∈t.fields,∀n:Int,0≤n→n≤40→∃e m,q1 f.type (l+1) ⟨n⟩=some (e,⟨m⟩)∧q2 f.type (l+1) n=some (e,m)∧0≤m∧m≤40∧(e=0→V f.type)):
  ∀(kk i:Nat) (n:Int),i≤t.fields.length→t.fields.length-i<kk→0≤n→n≤40→
   ∃e m,eN q1 t l kk n (i:Int)=some (e,⟨m⟩)∧jL q2 t l kk n (i:Int)=some (e,m)∧0≤m∧m≤40∧(e=0→∀j,i≤j→∀h:j<t.fields.length,V t.fields[j].type):=by
 intro kk;induction kk with
 |zero=>intro i n _ h;omega
 |succ kk ih=>
  intro i n hi hk n0 n1;rw[eN,jL];by_cases h:i=t.fields.length
  ·subst h;simp only[Int.lt_irrefl,decide_false,ai];exact⟨0,n,rfl,rfl,n0,n1,fun _ j h1 h2=>by omega⟩
  ·have hlt:i<t.fields.length:=by omega
   rw[aS hlt,ap,ap,aB hlt,ay,ay,j9 (x:=l+1) (by omega) (by omega),aq hlt ho.len];obtain⟨e,m,h1,h2,h3,h4,h5⟩:=hq _ (gd hlt) n n0 n1;rw[h1,h2];simp only[ay,aD];by_cases he:e=0
   ·obtain⟨e',m',g1,g2,g3,g4,g5⟩:=ih (i+1) m (by omega) (by omega) h3 h4;refine⟨e',m',by simpa [he]using g1,by simpa [he]using g2,g3,g4,fun h0 j hj hjl=> ?_⟩;by_cases hji:j=i
    ·subst hji;exact h5 he
    ·exact g5 h0 j (by omega) hjl
   ·exact⟨e,m,by simp[he],by simp[he],h3,h4,fun h0=>absurd h0 he⟩
theorem Vy:∀(d k:Nat) (t:al) (l n:Int),l=5-d→d≤5→d<k→jm t<1000000000→0≤n→n≤40→
  ∃e m,bN k t l ⟨n⟩=some (e,⟨m⟩)∧fp k t l n=some (e,m)∧0≤m∧m≤40∧(e=0→V t):=by
 intro d;induction d with
 |zero=>
  intro k t l n hl _ hk hs n0 n1;obtain⟨k,rfl⟩:∃k',k=k'+1:=⟨k-1,by omega⟩
  have hl4:(4:Int)<l:=by omega
  rw[bN,fp];simp only[hl4,decide_true,ap,ir];exact⟨7,n,rfl,rfl,n0,n1,fun h=>by omega⟩
 |succ d ih=>
  intro k t l n hl hd hk hs n0 n1;obtain⟨k,rfl⟩:∃k',k=k'+1:=⟨k-1,by omega⟩
  have hl4:¬(4:Int)<l:=by omega
  have hsz:=pV t;have ho:HV t.fields:=XG (by omega);have hq:∀f∈t.fields,∀n:Int,0≤n→n≤40→∃e m,bN k f.type (l+1) ⟨n⟩=some (e,⟨m⟩)∧fp k f.type (l+1) n=some (e,m)∧0≤m∧m≤40∧(e=0→V f.type):=by
   intro f hf n n0 n1;have h1:=io hf;have h2:=gy f;exact ih k f.type (l+1) n (by omega) (by omega) (by omega) (by omega) n0 n1
  have main:∀z:Int,0≤z→z≤40→∃e m,im (bN k) t l z=some (e,⟨m⟩)∧ly (fp k) t l z=some (e,m)∧0≤m∧m≤40∧(e=0→V t):=by
   intro z z0 z1;rw[X7 ho,XA ho];by_cases PH:shp t=0
   ·obtain⟨e,m,h1,h2,h3,h4,h5⟩:=PP ho l (by omega) (by omega) _ _ hq aH 0 z (Nat.zero_le _) (by rw[aF];have:=ho.len;omega) z0 z1;refine⟨e,m,by simpa [PH]using h1,by simpa [PH]using h2,h3,h4,fun he=>aff PH (fun f hf=> ?_)⟩;obtain⟨j,hj,rfl⟩:=List.getElem_of_mem hf;exact h5 he j (Nat.zero_le _) hj
   ·exact⟨shp t,z,by simp[PH],by simp[PH],z0,z1,fun h=>absurd h PH⟩
  rw[bN,fp];simp only[hl4,decide_false,ai,adz,DU,ay,ir];by_cases hleaf:t.kind≠6∧t.kind≠7
  ·simp only[hleaf,ne_eq,not_false_eq_true,and_self,decide_true,ap];by_cases h40:n=40
   ·simp only[h40,beq_self_eq_true,ap];exact⟨7,40,rfl,rfl,by omega,by omega,fun h=>by omega⟩
   ·have:(n==40)=false:=by simpa using h40
    simp only[this,ai];rw[j9 (x:=n+1) (by omega) (by omega)];exact main (n+1) (by omega) (by omega)
  ·simp only[hleaf,decide_false,ai];exact main n n0 n1
theorem nQ(t:al)(hs:jm t<1000000000):∃e,dk t=some e∧lc t=some e∧(e=0→V t):=by
 obtain⟨e,m,h1,h2,h3,h4,h5⟩:=Vy 4 aH t 1 0 (by omega) (by omega) (by rw[aF];omega) hs (by omega) (by omega);refine⟨e,?_,?_,h5⟩
 ·unfold dk;rw[h1];rfl
 ·unfold lc;rw[h2];rfl
end Go.Proofs.YtpiohnabdhpphaaGreatDoor
namespace Go.Proofs.YtpiohnabdhpphaaGreatDoor
open Go Go.SX Go.SX.Cal Go.Lib
open Go.IntKind (i64)
mutual
def bE:ac→Nat
 |⟨_,_,_,s,it⟩=>s.size+cN it+1
def cN:List ac→Nat
 |[]=>0
 |x::l=>bE x+cN l
end
theorem qS:∀v:ac,bE v=v.s.size+cN v.items+1
 |⟨_,_,_,_,_⟩=>by simp only[bE]
theorem gA:∀{l:List ac} {x:ac},x∈l→bE x≤cN l
 |[],_,h=>by cases h
 |y::l,x,h=>by
  simp only[cN];rcases List.mem_cons.1 h with rfl|h
  ·omega
  ·have:=gA h;omega
theorem rY:∀v:ac,1≤bE v
 |⟨_,_,_,_,_⟩=>by simp only[bE];omega
theorem gx:∀l:List ac,l.length≤cN l
 |[]=>by simp[cN]
 |x::l=>by
  have:=gx l;have:=rY x;simp only[cN,List.length_cons];omega
theorem I1(b x:Bool):ak b (some x) (some false)=some (b&&x):=by cases b<;>rfl
theorem au{α β:Type}(a:α)(f:α→Option β):am (some a) f=f a:=rfl
theorem Kq{P:Nat→Bool}{n:Nat}:∀(d i:Nat),i+d≤n→(∀j,i≤j→j<i+d→P j=false)→first P i n=first P (i+d) n
 |0,i,_,_=>rfl
 |d+1,i,h,hP=>by
  rw[uc (by omega),hP i (by omega) (by omega)];simp only[Bool.false_eq_true,if_false];rw[Kq d (i+1) (by omega) (fun j h1 h2=>hP j (by omega) (by omega))];congr 1;omega
theorem Pz(s:ByteArray)(i:Nat)(h:i<s.size)(hb:¬nu s i<128):
  1≤(Utf8.decode s i).2∧i+(Utf8.decode s i).2≤s.size∧∀j,i≤j→j<i+(Utf8.decode s i).2→128≤nu s j:=by
 have e:=Ja s i h;have one:∀j,i≤j→j<i+1→128≤nu s j:=fun j h1 h2=>by
  have:j=i:=by omega
  subst this;omega
 have ct:∀k,(decide (i+k<s.size)&&(s.get! (i+k)).toNat/64==2)=true→i+k<s.size∧128≤nu s (i+k):=by
  intro k hk;simp only[iu,decide_eq_true_eq,beq_iff_eq]at hk;rw[Ja s _ hk.1]at hk;exact⟨hk.1,by omega⟩
 unfold Utf8.decode;simp only[Nat.add_zero,e,if_neg hb];split
 ·rename_i h1;simp only[iu]at h1;obtain⟨l1,b1⟩:=ct 1 (by simpa using h1.2);split
  ·refine⟨by simp,by simp only;omega,fun j h2 h3=> ?_⟩;simp only at h3;by_cases hj:j=i
   ·subst hj;omega
   ·have:j=i+1:=by omega
    subst this;exact b1
  ·exact⟨by simp,by simp only;omega,one⟩
 ·split
  ·rename_i h1;simp only[iu]at h1;obtain⟨l1,b1⟩:=ct 1 (by simpa using h1.1.2);obtain⟨l2,b2⟩:=ct 2 (by simpa using h1.2);split
   ·refine⟨by simp,by simp only;omega,fun j h2 h3=> ?_⟩;simp only at h3;by_cases hj:j=i
    ·subst hj;omega
    ·by_cases hj:j=i+1
     ·subst hj;exact b1
     ·have:j=i+2:=by omega
      subst this;exact b2
   ·exact⟨by simp,by simp only;omega,one⟩
  ·split
   ·rename_i h1;simp only[iu]at h1;obtain⟨l1,b1⟩:=ct 1 (by simpa using h1.1.1.2);obtain⟨l2,b2⟩:=ct 2 (by simpa using h1.1.2);obtain⟨l3,b3⟩:=ct 3 (by simpa using h1.2);split
    ·refine⟨by simp,by simp only;omega,fun j h2 h3=> ?_⟩;simp only at h3;by_cases hj:j=i
     ·subst hj;omega
     ·by_cases hj:j=i+1
      ·subst hj;exact b1
      ·by_cases hj:j=i+2
       ·subst hj;exact b2
       ·have:j=i+3:=by omega
        subst this;exact b3
    ·exact⟨by simp,by simp only;omega,one⟩
   ·exact⟨by simp,by simp only;omega,one⟩
def PJ(s:ByteArray)(i:Nat):Bool:=decide (nu s i<32)||nu s i==127
theorem QO(s:ByteArray):∀k i,i≤s.size→s.size-i<k→me s k i=some (first (PJ s) i s.size).isNone:=by
 intro k;induction k with
 |zero=>intro i _ h;omega
 |succ k ih=>
  intro i hi hk;rw[me];by_cases h:i=s.size
  ·subst h;rw[uq];simp only[Nat.lt_irrefl,decide_false,ai,Bf];rfl
  ·have hlt:i<s.size:=by omega
   simp only[hlt,decide_true,ap,xf,aD];by_cases hb:nu s i<128
   ·rw[Hs s i hlt hb,uc hlt];by_cases h1:nu s i<32
    ·have:PJ s i=true:=by simp[PJ,h1]
     simp[this,show((nu s i:Nat):Int)<32 by omega]
    ·have e1:¬((nu s i:Nat):Int)<32:=by omega
     by_cases h2:nu s i=127
     ·have:PJ s i=true:=by simp[PJ,h2]
      simp[this,h2]
     ·have:PJ s i=false:=by simp[PJ,h1,h2]
      have e2:¬((nu s i:Nat):Int)=127:=by omega
      simp only[this,Int.ofNat_eq_natCast,e1,decide_false,Bool.false_eq_true,if_false,beq_iff_eq,e2];exact ih (i+1) (by omega) (by omega)
   ·have h1:=Ic s i hlt hb;obtain⟨h2,h3,h4⟩:=Pz s i hlt hb;have e1:¬(((Utf8.decode s i).1:Nat):Int)<32:=by omega
    have e2:¬(((Utf8.decode s i).1:Nat):Int)=127:=by omega
    simp only[Int.ofNat_eq_natCast,e1,decide_false,Bool.false_eq_true,if_false,beq_iff_eq,e2];rw[ih _ h3 (by omega),Kq _ i h3 (fun j a b=>by
     have:=h4 j a b;simp only[PJ,Bool.or_eq_false_iff,decide_eq_false_iff_not,beq_eq_false_iff_ne];omega)]
    simp
theorem Ra(s:ByteArray)(hs:s.size<1000000000):∀k i,i≤s.size→s.size-i<k→gL s k (i:Int)=some (first (PJ s) i s.size).isNone:=by
 intro k;induction k with
 |zero=>intro i _ h;omega
 |succ k ih=>
  intro i hi hk;rw[gL];by_cases h:i=s.size
  ·subst h;rw[uq];simp only[Int.lt_irrefl,decide_false,ai,uk];rfl
  ·have hlt:i<s.size:=by omega
   have g:(0:Int)≤(i:Int)∧(i:Int)<(s.size:Int):=⟨by omega,by omega⟩
   have e:((s.data.toList.getD (i:Int).toNat 0).toNat:Int)=(nu s i:Int):=by simp[nu]
   simp only[aS hlt,ap,iN,if_pos g,au,pN,aD,e];rw[uc hlt,aq hlt hs];by_cases h1:nu s i<32
   ·have:PJ s i=true:=by simp[PJ,h1]
    simp[this,show((nu s i:Nat):Int)<32 by omega]
   ·have e1:¬((nu s i:Nat):Int)<32:=by omega
    by_cases h2:nu s i=127
    ·have:PJ s i=true:=by simp[PJ,h2]
     simp[this,h2]
    ·have:PJ s i=false:=by simp[PJ,h1,h2]
     have e2:¬((nu s i:Nat):Int)=127:=by omega
     simp only[this,e1,decide_false,Bool.false_eq_true,if_false,beq_iff_eq,e2];exact ih (i+1) (by omega) (by omega)
def A4(s:ByteArray):Bool:=decide (s.size≤256)&&(validD s.data.toList&&(first (PJ s) 0 s.size).isNone)
theorem WL(s:ByteArray)(hs:s.size<1000000000):utf8_ValidString s=some (validD s.data.toList):=by
 unfold utf8_ValidString iN;rw[if_pos (by omega)]
theorem acG(s:ByteArray)(hs:s.size<1000000000):Cq s=some (A4 s):=by
 unfold Cq xc A4;rw[WL s hs,QO s aH 0 (by omega) (by rw[aF];omega)];by_cases h:s.size≤256
 ·have:¬(256:Int)<(s.size:Int):=by omega
  simp only[this,h,decide_false,decide_true,ai,au];cases validD s.data.toList<;>rfl
 ·have:(256:Int)<(s.size:Int):=by omega
  simp only[this,h,decide_false,decide_true,ap];rfl
theorem aaq(s:ByteArray)(hs:s.size<1000000000):tM s=some (A4 s):=by
 have:=Ra s hs aH 0 (by omega) (by rw[aF];omega);unfold tM pE A4;rw[WL s hs,show(0:Int)=((0:Nat):Int)from rfl,this];by_cases h:s.size≤256
 ·have e:¬(256:Int)<(s.size:Int):=by omega
  simp only[e,h,decide_false,decide_true,au];cases validD s.data.toList<;>rfl
 ·have e:(256:Int)<(s.size:Int):=by omega
  simp only[e,h,decide_false,decide_true,au];cases validD s.data.toList<;>rfl
theorem Yl(a b c:Int):dZ a b c=some (decide (b≤a)&&decide (a≤c)):=by
 unfold dZ nE;exact I1 _ _
theorem XI(a b c:Int):gi a b c=some (decide (b≤a)&&decide (a≤c)):=by
 unfold gi qX;exact I1 _ _
def df(v:ac):Bool:=
 let bare:=v.n==0&&v.scale==0
 let noS:=decide (v.s.size=0)
 let noI:=((v.items.length:Int)==0)
 if v.kind=0 then bare&&(noS&&noI)
 else if v.kind=1 then(decide (0≤v.n)&&decide (v.n≤1))&&(v.scale==0&&(noS&&noI))
 else if v.kind=2 then(decide (-999999999999999999≤v.n)&&decide (v.n≤999999999999999999))&&(v.scale==0&&(noS&&noI))
 else if v.kind=3 then(decide (-999999999999999999≤v.n)&&decide (v.n≤999999999999999999))&&((decide (0≤v.scale)&&decide (v.scale≤12))&&(noS&&noI))
 else if v.kind=4 then bare&&(A4 v.s&&noI)
 else if v.kind=5 then(decide (-62135596800≤v.n)&&decide (v.n≤253402300799))&&(v.scale==0&&(noS&&noI))
 else if v.kind=6 then bare&&(noS&&decide ((v.items.length:Int)≤64))
 else if v.kind=7 then bare&&(noS&&decide ((0:Int)<(v.items.length:Int)))
 else false
theorem abv(v:ac)(hs:v.s.size<1000000000):Ak v=some (df v):=by
 have j:∀x,q8 v x=some (if v.kind=0 then x&&(decide (v.s.size=0)&&((v.items.length:Int)==0))
   else if v.kind=1 then(decide (0≤v.n)&&decide (v.n≤1))&&(v.scale==0&&(decide (v.s.size=0)&&((v.items.length:Int)==0)))
   else if v.kind=2 then(decide (-999999999999999999≤v.n)&&decide (v.n≤999999999999999999))&&(v.scale==0&&(decide (v.s.size=0)&&((v.items.length:Int)==0)))
   else if v.kind=3 then(decide (-999999999999999999≤v.n)&&decide (v.n≤999999999999999999))&&((decide (0≤v.scale)&&decide (v.scale≤12))&&(decide (v.s.size=0)&&((v.items.length:Int)==0)))
   else if v.kind=4 then x&&(A4 v.s&&((v.items.length:Int)==0))
   else if v.kind=5 then(decide (-62135596800≤v.n)&&decide (v.n≤253402300799))&&(v.scale==0&&(decide (v.s.size=0)&&((v.items.length:Int)==0)))
   else if v.kind=6 then x&&(decide (v.s.size=0)&&decide ((v.items.length:Int)≤64))
   else if v.kind=7 then x&&(decide (v.s.size=0)&&decide ((0:Int)<(v.items.length:Int)))
   else false):=by
  intro x;unfold q8 q9 oR oO oJ rN oH rO rf;simp only[Yl,acG v.s hs,au,I1,yS];simp only[aD,beq_iff_eq];repeat' split
  all_goals (first|rfl|simp_all)
 unfold Ak;rw[j,j];unfold df;cases v.n==0
 ·simp only[ai,Bool.false_and]
 ·simp only[ap,Bool.true_and]
theorem abH(v:ac)(hs:v.s.size<1000000000):B7 v=some (df v):=by
 have j:∀x,tI v x=some (if v.kind=0 then x&&(v.n==0&&v.scale==0)
   else if v.kind=1 then x&&((decide (0≤v.n)&&decide (v.n≤1))&&v.scale==0)
   else if v.kind=2 then x&&((decide (-999999999999999999≤v.n)&&decide (v.n≤999999999999999999))&&v.scale==0)
   else if v.kind=3 then x&&((decide (-999999999999999999≤v.n)&&decide (v.n≤999999999999999999))&&(decide (0≤v.scale)&&decide (v.scale≤12)))
   else if v.kind=4 then((v.items.length:Int)==0)&&(v.n==0&&(v.scale==0&&A4 v.s))
   else if v.kind=5 then x&&((decide (-62135596800≤v.n)&&decide (v.n≤253402300799))&&v.scale==0)
   else if v.kind=6 then decide (v.s.size=0)&&(v.n==0&&(v.scale==0&&decide ((v.items.length:Int)≤64)))
   else if v.kind=7 then decide (v.s.size=0)&&(v.n==0&&(v.scale==0&&decide ((0:Int)<(v.items.length:Int))))
   else false):=by
  intro x;unfold tI sX tH tu tk qn tg qq qh;simp only[XI,aaq v.s hs,au,I1,yS];simp only[aD,beq_iff_eq];repeat' split
  all_goals (first|rfl|simp_all)
 unfold B7;rw[j,j,yS];unfold df;generalize decide (v.s.size=0)=a;generalize ((v.items.length:Int)==0)=b;generalize A4 v.s=t;generalize (v.n==0)=c;generalize (v.scale==0)=d;generalize (decide (0≤v.n)&&decide (v.n≤1))=e1;generalize (decide (-999999999999999999≤v.n)&&decide (v.n≤999999999999999999))=e2;generalize (decide (0≤v.scale)&&decide (v.scale≤12))=e3;generalize (decide (-62135596800≤v.n)&&decide (v.n≤253402300799))=e4;generalize decide ((v.items.length:Int)≤64)=e5;generalize decide ((0:Int)<(v.items.length:Int))=e6;cases a<;>simp only[ai,ap]<;>congr 1<;>repeat' split
 all_goals (first|rfl|(cases b<;>cases c<;>cases d<;>simp<;>done) |(simp[Bool.and_comm,Bool.and_assoc,Bool.and_left_comm]))
def pk(f:ac→Int→Bool×Int):List ac→Int→Bool×Int
 |[],z=>(true,z)
 |v::l,z=>if(f v z).1=true then pk f l (f v z).2 else(false,(f v z).2)
def Ia(v:ac)(z:Int):Int:=if v.kind=0 then z else z+1
def kd:Nat→ac→Int→Bool×Int
 |0,v,z=>(false,Ia v z)
 |d+1,v,z=>if 256<Ia v z∨df v=false then(false,Ia v z)else pk (kd d) v.items (Ia v z)
def qt(v:ac):Bool:=(kd 4 v 0).1
theorem Mb{f:ac→Int→Bool×Int}:∀{l:List ac} {z:Int},(∀v∈l,∀z,0≤z→z≤256→0≤(f v z).2∧(f v z).2≤257∧((f v z).1=true→(f v z).2≤256))→0≤z→z≤256→
  0≤(pk f l z).2∧(pk f l z).2≤257∧((pk f l z).1=true→(pk f l z).2≤256)
 |[],z,_,h0,h1=>by simp only[pk];omega
 |v::l,z,hf,h0,h1=>by
  obtain⟨a,b,c⟩:=hf v (by simp) z h0 h1;simp only[pk];split
  ·rename_i h;exact Mb (fun x hx=>hf x (by simp[hx])) a (c h)
  ·exact⟨a,b,fun h=>by cases h⟩
theorem HL:∀(d:Nat) (v:ac) (z:Int),0≤z→z≤256→0≤(kd d v z).2∧(kd d v z).2≤257∧((kd d v z).1=true→(kd d v z).2≤256)
 |0,v,z,h0,h1=>by
  have hc:z≤Ia v z∧Ia v z≤z+1:=by unfold Ia;split<;>omega
  simp only[kd];exact⟨by omega,by omega,fun h=>by cases h⟩
 |d+1,v,z,h0,h1=>by
  have hc:z≤Ia v z∧Ia v z≤z+1:=by unfold Ia;split<;>omega
  simp only[kd];split
  ·exact⟨by omega,by omega,fun h=>by cases h⟩
  ·rename_i h;have:¬256<Ia v z:=fun e=>h (.inl e)
   exact Mb (fun x _=>HL d x) (by omega) (by omega)
theorem GH(v:ac)(z:Int)(h0:0≤z)(h1:z≤256){β:Type}(f:Int→Option β):ak (v.kind != (0:Int)) (f (i64.wrap (z+1))) (f z)=f (Ia v z):=by
 rw[j9 (by omega) (by omega)];unfold Ia;by_cases h:v.kind=0
 ·simp[h,aD]
 ·simp[h,aD]
theorem On{d:Nat}(l:Int)(q:ac→Int→Int→Option (Bool×Int))(xs:List ac)(hl:xs.length<1000000000)
  (hq:∀v∈xs,∀z,0≤z→z≤256→q v l z=some (!(kd d v z).1,(kd d v z).2)):∀(k i:Nat) (z:Int),i≤xs.length→xs.length-i<k→0≤z→z≤256→
  ∃r:Int,bn q xs l k z (i:Int)=some (r,(pk (kd d) (xs.drop i) z).2)∧decide (0≤r)= !(pk (kd d) (xs.drop i) z).1:=by
 intro k;induction k with
 |zero=>intro i z _ h;omega
 |succ k ih=>
  intro i z hi hk h0 h1;rw[bn];by_cases h:i=xs.length
  ·subst h;simp only[Int.lt_irrefl,decide_false,ai,List.drop_length,pk,dp];exact⟨-1,rfl,rfl⟩
  ·have hlt:i<xs.length:=by omega
   have hm:xs[i]∈xs:=gd hlt;simp only[aS hlt,ap,aB hlt,au,hq _ hm z h0 h1];rw[List.drop_eq_getElem_cons hlt];simp only[pk];obtain⟨a,b,c⟩:=HL d xs[i] z h0 h1;cases hs:(kd d xs[i] z).1 with
   |false=>
    simp only[Bool.not_false,ap,Bool.false_eq_true,if_false];exact⟨_,rfl,by simp⟩
   |true=>
    simp only[Bool.not_true,ai,if_true];rw[aq hlt hl];exact ih (i+1) _ (by omega) (by omega) a (c hs)
theorem TP:∀(d k:Nat) (v:ac) (z:Int),d≤4→4*d+4≤k→bE v<1000000000→0≤z→z≤256→o9 k v (5-d:Int) z=some (kd d v z):=by
 intro d;induction d with
 |zero=>
  intro k v z _ hk hs h0 h1;obtain⟨k,rfl⟩:∃q,k=q+1:=⟨k-1,by omega⟩
  rw[o9,GH v z h0 h1];unfold rn oX;simp[kd,ap]
 |succ d ih=>
  intro k v z hd hk hs h0 h1;obtain⟨k,rfl⟩:∃q,k=q+4:=⟨k-4,by omega⟩
  have hsz:=qS v;have hlen:=gx v.items;rw[o9,GH v z h0 h1];unfold rn oX;rw[abv v (by omega)];have e4:¬(4:Int)<5-((d+1:Nat):Int):=by omega
  have hc:z≤Ia v z∧Ia v z≤z+1:=by unfold Ia;split<;>omega
  simp only[e4,decide_false,ai,kd,au];by_cases h2:(256:Int)<Ia v z
  ·simp[h2,ap]
  ·cases hp:df v with
   |false=>simp[h2,ap,ai]
   |true=>
    simp only[h2,decide_false,ai,Bool.not_true,false_or,Bool.true_eq_false,if_false];have:=On (d:=d) (5-((d+1:Nat):Int)) (lH (k+1)) v.items (by omega) (by
     intro x hx z h0 h1;have:=gA hx;rw[lH,j9 (by omega) (by omega),show(5-((d+1:Nat):Int)+1)=5-(d:Int) by omega,ih k x z (by omega) (by omega) (by omega) h0 h1];rfl) aH 0 (Ia v z) (by omega) (by rw[aF];omega) (by omega) (by omega)
    obtain⟨r,e1,e2⟩:=this;rw[show((0:Nat):Int)=(0:Int)from rfl]at e1;rw[aW,bM,e1];simp only[au,e2,List.drop_zero,Bool.not_not]
theorem A9(v:ac)(hs:bE v<1000000000):kX v=some (qt v):=by
 unfold kX qt;have:=TP 4 aH v 0 (by omega) (by rw[aF];omega) hs (by omega) (by omega);rw[show(5-((4:Nat):Int))=(1:Int)from rfl]at this;rw[this];rfl
theorem Pl{d:Nat}(l:Int)(hl0:0≤l)(hl1:l≤100)(q:ac→Int→Int→Option (Bool×Int))(v:ac)(hl:v.items.length<1000000000)
  (hq:∀x∈v.items,∀z,0≤z→z≤256→q x (l+1) z=some (kd d x z)):∀(k i:Nat) (z:Int),i≤v.items.length→v.items.length-i<k→0≤z→z≤256→
  qp q v l k z (i:Int)=some (pk (kd d) (v.items.drop i) z):=by
 intro k;induction k with
 |zero=>intro i z _ h;omega
 |succ k ih=>
  intro i z hi hk h0 h1;rw[qp];by_cases h:i=v.items.length
  ·subst h;simp only[Int.lt_irrefl,decide_false,ai,List.drop_length,pk,Bm]
  ·have hlt:i<v.items.length:=by omega
   have hm:v.items[i]∈v.items:=gd hlt;rw[j9 (x:=l+1) (by omega) (by omega)];simp only[aS hlt,ap,aB hlt,au,hq _ hm z h0 h1];rw[List.drop_eq_getElem_cons hlt];simp only[pk];obtain⟨a,b,c⟩:=HL d v.items[i] z h0 h1;cases hs:(kd d v.items[i] z).1 with
   |false=>simp only[Bool.not_false,ap,Bool.false_eq_true,if_false]
   |true=>
    simp only[Bool.not_true,ai,if_true];rw[aq hlt hl];exact ih (i+1) _ (by omega) (by omega) a (c hs)
theorem S4:∀(d k:Nat) (v:ac) (z:Int),d≤4→d+1≤k→bE v<1000000000→0≤z→z≤256→kB k v (5-d:Int) z=some (kd d v z):=by
 intro d;induction d with
 |zero=>
  intro k v z _ hk hs h0 h1;obtain⟨k,rfl⟩:∃q,k=q+1:=⟨k-1,by omega⟩
  rw[kB,GH v z h0 h1];unfold sW qf;simp[kd,ap]
 |succ d ih=>
  intro k v z hd hk hs h0 h1;obtain⟨k,rfl⟩:∃q,k=q+1:=⟨k-1,by omega⟩
  have hsz:=qS v;have hlen:=gx v.items;rw[kB,GH v z h0 h1];unfold sW qf;rw[abH v (by omega)];have e4:¬(4:Int)<5-((d+1:Nat):Int):=by omega
  have hc:z≤Ia v z∧Ia v z≤z+1:=by unfold Ia;split<;>omega
  simp only[e4,decide_false,ai,kd,au];by_cases h2:(256:Int)<Ia v z
  ·simp[h2,ap]
  ·cases hp:df v with
   |false=>simp[h2,ap,ai]
   |true=>
    simp only[h2,decide_false,ai,Bool.not_true,false_or,Bool.true_eq_false,if_false];have:=Pl (d:=d) (5-((d+1:Nat):Int)) (by omega) (by omega) (kB k) v (by omega) (by
     intro x hx z h0 h1;have:=gA hx;rw[show(5-((d+1:Nat):Int)+1)=5-(d:Int) by omega];exact ih k x z (by omega) (by omega) (by omega) h0 h1) aH 0 (Ia v z) (by omega) (by rw[aF];omega) (by omega) (by omega)
    rw[show((0:Nat):Int)=(0:Int)from rfl,List.drop_zero]at this;exact this
theorem Mn(v:ac)(hs:bE v<1000000000):uf v=some (qt v):=by
 unfold uf qt;have:=S4 4 aH v 0 (by omega) (by rw[aF];omega) hs (by omega) (by omega);rw[show(5-((4:Nat):Int))=(1:Int)from rfl]at this;rw[this];rfl
def Um(d:Nat)(v:ac):Prop:=∃z,(kd d v z).1=true
theorem JZ{f:ac→Int→Bool×Int}:∀{l:List ac} {z:Int},(pk f l z).1=true→∀x∈l,∃z',(f x z').1=true
 |[],_,_,x,hx=>by cases hx
 |v::l,z,h,x,hx=>by
  simp only[pk]at h;by_cases hv:(f v z).1=true
  ·rw[if_pos hv]at h;rcases List.mem_cons.1 hx with rfl|hx
   ·exact⟨z,hv⟩
   ·exact JZ h x hx
  ·rw[if_neg hv]at h;cases h
theorem Um.zero{v:ac}(h:Um 0 v):False:=by obtain⟨z,h⟩:=h;cases h
theorem Um.succ{d:Nat}{v:ac}(h:Um (d+1) v):df v=true∧∀x∈v.items,Um d x:=by
 obtain⟨z,h⟩:=h;simp only[kd]at h;by_cases hc:256<Ia v z∨df v=false
 ·rw[if_pos hc]at h;cases h
 ·rw[if_neg hc]at h;refine⟨?_,fun x hx=>JZ h x hx⟩;cases hp:df v with
  |true=>rfl
  |false=>exact absurd (.inr hp) hc
theorem Am{v:ac}(h:df v=true)(hk:v.kind≠3):v.scale=0:=by
 unfold df at h;simp only at h;split at h
 ·simp at h;exact h.1.2
 ·split at h
  ·simp at h;exact h.2.1
  ·split at h
   ·simp at h;exact h.2.1
   ·split at h
    ·simp at h;exact h.1.2
    ·split at h
     ·simp at h;exact h.2.1
     ·split at h
      ·simp at h;exact h.1.2
      ·split at h
       ·simp at h;exact h.1.2
       ·cases h
theorem pc{v:ac}(h:df v=true)(h6:v.kind≠6)(h7:v.kind≠7):v.items=[]:=by
 unfold df at h;simp only at h;rw[←List.length_eq_zero_iff];split at h
 ·simp at h;simp[h.2.2]
 ·split at h
  ·simp at h;simp[h.2.2.2]
  ·split at h
   ·simp at h;simp[h.2.2.2]
   ·split at h
    ·simp at h;simp[h.2.2.2]
    ·split at h
     ·simp at h;simp[h.2.2]
     ·split at h
      ·simp at h;simp[h.2.2.2]
      ·cases h
theorem V.sh{t:al}(h:V t):shp t=0:=by cases h;assumption
theorem V.fs{t:al}(h:V t):∀f,f∈t.fields→V f.type:=by cases h;assumption
theorem V.scale{t:al}(h:V t)(hk:t.kind≠3):t.scale=0:=by
 have:=h.sh;unfold shp at this;split at this
 ·cases this
 ·by_cases h2:Iw t
  ·rw[if_pos h2]at this;cases this
  ·by_cases hs:t.scale=0
   ·exact hs
   ·exact absurd ⟨hs,.inl hk⟩ h2
theorem V.list{t:al}(h:V t)(hk:t.kind=6):t.fields.length=1:=by
 have:=h.sh;unfold shp at this;split at this
 ·cases this
 ·by_cases h2:Iw t
  ·rw[if_pos h2]at this;cases this
  ·rw[if_neg h2]at this;unfold vf at this;rw[if_pos hk]at this;split at this
   ·cases this
   ·rename_i h3;by_cases hl:t.fields.length=1
    ·exact hl
    ·exact absurd (.inl hl) h3
def ft(t:al)(i:Nat):al:=(t.fields[if t.kind=6 then 0 else i]?.map (·.type)).getD ⟨0,0,[]⟩
def nd(t:al)(i:Nat):Bool:=(t.fields[if t.kind=6 then 0 else i]?.map (·.need)).getD false
def iv(v:ac)(i:Nat):ac:=v.items[i]?.getD ⟨0,0,0,ByteArray.empty,[]⟩
theorem Ji{v:ac}{i:Nat}(h:i<v.items.length):v.items[i]=iv v i:=by simp[iv,h]
def Hg:Nat→al→ac→Bool
 |0,_,_=>true
 |d+1,t,v=>
  if v.kind=0 then true
  else if v.kind≠t.kind then false
  else if v.kind=3 then v.scale==t.scale
  else if v.kind=7∧t.fields.length≠v.items.length then false
  else(first (fun i=> !Hg d (ft t i) (iv v i)) 0 v.items.length).isNone
def Fit(t:al)(v:ac):Prop:=∀i,i<v.items.length→(if t.kind=6 then 0 else i)<t.fields.length
theorem WS{d:Nat}{t:al}{v:ac}(hs:Um (d+1) v)(ht:V t)(h:Hg (d+1) t v=true):Fit t v∧∀i,i<v.items.length→Hg d (ft t i) (iv v i)=true:=by
 obtain⟨hp,_⟩:=hs.succ;by_cases h67:v.kind=6∨v.kind=7
 ·simp only[Hg]at h;rw[if_neg (by omega)]at h;by_cases hk:v.kind=t.kind
  ·rw[if_neg (fun hh=>hh hk),if_neg (by omega)]at h;by_cases hl:v.kind=7∧t.fields.length≠v.items.length
   ·rw[if_pos hl]at h;cases h
   ·rw[if_neg hl]at h;have hn:=Option.isNone_iff_eq_none.1 h;rw[zp]at hn;refine⟨fun i hi=> ?_,fun i hi=>by simpa using hn i (Nat.zero_le _) hi⟩;by_cases h6:t.kind=6
    ·rw[if_pos h6,ht.list h6];omega
    ·rw[if_neg h6];have:¬t.fields.length≠v.items.length:=fun hh=>hl ⟨by omega,hh⟩
     omega
  ·rw[if_pos hk]at h;cases h
 ·have:v.items=[]:=pc hp (by omega) (by omega);refine⟨fun i hi=> ?_,fun i hi=> ?_⟩
  ·rw[this]at hi;simp at hi
  ·rw[this]at hi;simp at hi
theorem Wu{t:al}{i:Nat}(h:(if t.kind=6 then 0 else i)<t.fields.length):∃f:ae,f∈t.fields∧t.fields[if t.kind=6 then 0 else i]? =some f∧f.type=ft t i∧f.need=nd t i:=by
 refine⟨t.fields[if t.kind=6 then 0 else i],gd h,dK h,?_,?_⟩
 ·unfold ft;rw[dK h];rfl
 ·unfold nd;rw[dK h];rfl
theorem Ch{α:Type}{xs:List α}{i:Nat}{x:α}(h:xs[i]? =some x):at? xs (i:Int)=some x:=by unfold at?;simp[h]
theorem DH{v:ac}{i:Nat}(h:i<v.items.length):iv v i∈v.items:=by rw[←Ji h];exact gd h
theorem ZJ:∀(d k k':Nat) (t:al) (v:ac),Um d v→V t→bE v<1000000000→jm t<1000000000→4*d+1≤k→d+1≤k'→
  vr k t v=some (Hg d t v)∧ke k' t v=some (Hg d t v):=by
 intro d;induction d with
 |zero=>intro k k' t v hs;exact hs.zero.elim
 |succ d ih=>
  intro k k' t v hs ht hv hT hk hk';obtain⟨k,rfl⟩:∃q,k=q+4:=⟨k-4,by omega⟩
  obtain⟨k',rfl⟩:∃q,k'=q+1:=⟨k'-1,by omega⟩
  obtain⟨hp,hi⟩:=hs.succ;have hsz:=qS v;have hlen:=gx v.items;have hsT:=pV t;have hlF:=bX t.fields;rw[vr,ke];simp only[Hg,Cf];by_cases h0:v.kind=0
  ·simp[h0,aD]
  ·by_cases hkk:v.kind=t.kind
   ·have sc:v.kind≠3→v.scale=t.scale:=fun h=>by rw[Am hp h,ht.scale (by omega)]
    have room:¬(v.kind=7∧t.fields.length≠v.items.length)→Fit t v:=by
     intro hn i hi;by_cases h6:t.kind=6
     ·rw[if_pos h6,ht.list h6];omega
     ·rw[if_neg h6];by_cases h7:v.kind=7
      ·have:¬t.fields.length≠v.items.length:=fun hh=>hn ⟨h7,hh⟩
       omega
      ·rw[pc hp (by omega) h7]at hi;simp at hi
    have sub:Fit t v→∀i,i<v.items.length→∃f:ae,t.fields[if t.kind=6 then 0 else i]? =some f∧f.type=ft t i∧vr k (ft t i) (iv v i)=some (Hg d (ft t i) (iv v i))∧ke k' (ft t i) (iv v i)=some (Hg d (ft t i) (iv v i)):=by
     intro hf i hi';obtain⟨f,f1,f2,f3,_⟩:=Wu (hf i hi');have m1:=gA (DH hi');have m2:=io f1;have m3:=gy f;rw[f3]at m3;obtain⟨a,b⟩:=ih k k' (ft t i) (iv v i) (hi _ (DH hi')) (by rw[←f3];exact ht.fs f f1) (by omega) (by omega) (by omega) (by omega);exact⟨f,f2,f3,a,b⟩
    have ref:Fit t v→kw (ke k') t v aH (0:Int)=some (first (fun i=> !Hg d (ft t i) (iv v i)) 0 v.items.length).isNone:=by
     intro hf;have:=ul (f:=fun k i=>kw (ke k') t v k (i:Int)) (n:=v.items.length) (P:=fun i=> !Hg d (ft t i) (iv v i)) (A:=fun _=>some false) (B:=some true) (fun kk i hi'=>by
      obtain⟨f,f2,f3,_,f5⟩:=sub hf i hi';simp only[kw,aS hi',ap,B3];have e:ak (t.kind==(6:Int)) (am (at? t.fields (0:Int)) fun e1=>am (at? v.items (i:Int)) fun e2=>am (ke k' e1.type e2) fun r1=>ak (!r1) (some false) (kw (ke k') t v kk (i64.wrap ((i:Int)+1))))
        (am (at? t.fields (i:Int)) fun e1=>am (at? v.items (i:Int)) fun e2=>am (ke k' e1.type e2) fun r1=>ak (!r1) (some false) (kw (ke k') t v kk (i64.wrap ((i:Int)+1))))=
        (am (at? t.fields ((if t.kind=6 then 0 else i:Nat):Int)) fun e1=>am (at? v.items (i:Int)) fun e2=>am (ke k' e1.type e2) fun r1=>ak (!r1) (some false) (kw (ke k') t v kk (i64.wrap ((i:Int)+1)))):=by
       by_cases h6:t.kind=6<;>simp[h6,aD]
      rw[e,Ch f2,au,aB hi',au,f3,Ji hi',f5,au,aq hi' (by omega),aD]) (fun kk=>by simp[kw,aD,EU]) aH 0 (Nat.zero_le _) (by rw[aF];omega)
     rw[show((0:Nat):Int)=(0:Int)from rfl]at this;rw[this];cases first (fun i=> !Hg d (ft t i) (iv v i)) 0 v.items.length<;>rfl
    have e0:(v.kind==(0:Int))=false:=by simp[h0]
    have e1:(v.kind != t.kind)=false:=by simp[hkk]
    have e2:¬v.kind≠t.kind:=fun h=>h hkk
    simp only[e0,e1,e2,ai,h0,if_false];by_cases h3:v.kind=3
    ·have hni:v.items=[]:=pc hp (by omega) (by omega);refine⟨by simp[h3,aD],?_⟩;have hr:=ref (fun i hi=>by rw[hni]at hi;simp at hi);rw[hni]at hr;simp only[List.length_nil,uq,Option.isNone_none]at hr;simp only[h3,if_true,wG];by_cases hsc:v.scale=t.scale
     ·have:t.kind≠7:=by omega
      simp[hsc,aD,hr,this]
     ·simp[hsc,aD]
    ·have hsc:=sc h3;have e3:(v.kind==(3:Int))=false:=by simp[h3]
     have e4:(v.scale != t.scale)=false:=by simp[hsc]
     simp only[e3,e4,ai,h3,if_false];by_cases hl:v.kind=7∧t.fields.length≠v.items.length
     ·have e6:(v.kind==(6:Int))=false:=by simp[hl.1]
      have e7:(v.kind==(7:Int))=true:=by simp[hl.1]
      have t7:(t.kind==(7:Int))=true:=by rw[←hkk];exact e7
      have n1:((t.fields.length:Int) != (v.items.length:Int))=true:=by simp;omega
      have n2:((v.items.length:Int) != (t.fields.length:Int))=true:=by simp;omega
      rw[aY];simp[e6,e7,t7,n1,n2,hl,ap,ai,wG,au]
     ·have hf:=room hl;have hr:=ref hf;simp only[hl,if_false];refine⟨?_,?_⟩
      ·by_cases h6:v.kind=6
       ·have e6:(v.kind==(6:Int))=true:=by simp[h6]
        have t6:t.kind=6:=by omega
        have:=ul (f:=fun kk i=>bg (pD (k+1)) v.items t.kind t.scale t.fields kk (i:Int)) (n:=v.items.length) (P:=fun i=> !Hg d (ft t i) (iv v i)) (A:=fun i=>some (i:Int)) (B:=some (-1)) (fun kk i hi'=>by
         obtain⟨f,f2,f3,f4,_⟩:=sub hf i hi';rw[if_pos t6]at f2;simp only[bg,aS hi',ap,aB hi',au,pD];rw[show(0:Int)=((0:Nat):Int)from rfl,Ch f2,au,f3,Ji hi',f4,au,au,aq hi' (by omega),aD]) (fun kk=>by simp[bg,aD,dJ]) aH 0 (Nat.zero_le _) (by rw[aF];omega)
        rw[show((0:Nat):Int)=(0:Int)from rfl]at this;rw[e6,ap,bL,bV,this];cases first (fun i=> !Hg d (ft t i) (iv v i)) 0 v.items.length<;>simp[au]
       ·have e6:(v.kind==(6:Int))=false:=by simp[h6]
        by_cases h7:v.kind=7
        ·have e7:(v.kind==(7:Int))=true:=by simp[h7]
         have hlen':t.fields.length=v.items.length:=by
          by_cases hh:t.fields.length=v.items.length
          ·exact hh
          ·exact absurd ⟨h7,hh⟩ hl
         have n1:((t.fields.length:Int) != (v.items.length:Int))=false:=by simp;omega
         have:=ul (f:=fun kk i=>aM (ui (k+2)) t.fields v.items kk (i:Int)) (n:=v.items.length) (P:=fun i=> !Hg d (ft t i) (iv v i)) (A:=fun _=>some false) (B:=some true) (fun kk i hi'=>by
          obtain⟨f,f2,f3,_,_⟩:=sub hf i hi';obtain⟨f',f1',f2',f3',_⟩:=Wu (hf i hi');have m1:=gA (DH hi');have m2:=io f1';have m3:=gy f';rw[f3']at m3;have f4:=(ih (k+1) (d+1) (ft t i) (iv v i) (hi _ (DH hi')) (by rw[←f3'];exact ht.fs f' f1') (by omega) (by omega) (by omega) (by omega)).1;rw[if_neg (by omega)]at f2;have hi2:i<t.fields.length:=by omega
          simp only[aM,aS hi2,ap,Ch f2,au,ui];rw[aB hi',au,f3,Ji hi',f4,au,au,aq hi' (by omega),aD]) (fun kk=>by simp[aM,aD,bZ,hlen']) aH 0 (Nat.zero_le _) (by rw[aF];omega)
         rw[show((0:Nat):Int)=(0:Int)from rfl]at this;rw[e6,e7,ai,ap,aY,n1,ai,this];cases first (fun i=> !Hg d (ft t i) (iv v i)) 0 v.items.length<;>rfl
        ·have e7:(v.kind==(7:Int))=false:=by simp[h7]
         rw[e6,e7,ai,ai,pc hp h6 h7];simp[uq]
      ·have n2:v.kind=7→((v.items.length:Int) != (t.fields.length:Int))=false:=by
        intro h7;have:¬t.fields.length≠v.items.length:=fun hh=>hl ⟨h7,hh⟩
        simp;omega
       simp only[wG];by_cases h7:v.kind=7
       ·have t7:(t.kind==(7:Int))=true:=by simp[←hkk,h7]
        rw[t7,ap,n2 h7,ai];exact hr
       ·have t7:(t.kind==(7:Int))=false:=by simp[←hkk,h7]
        rw[t7,ai,ai];exact hr
   ·have e0:(v.kind==(0:Int))=false:=by simp[h0]
    have e1:(v.kind != t.kind)=true:=by simp[hkk]
    simp[e0,e1,h0,hkk,ap,ai]
def Au:Nat→al→ac→Bool
 |0,_,_=>false
 |d+1,t,v=>(first (fun i=>((iv v i).kind==0&&nd t i)||Au d (ft t i) (iv v i)) 0 v.items.length).isSome
theorem YK:∀(d k k':Nat) (t:al) (v:ac),Um d v→V t→Hg d t v=true→bE v<1000000000→jm t<1000000000→d+1≤k→d+1≤k'→
  kY k t v=some (Au d t v)∧fa k' t v=some (Au d t v):=by
 intro d;induction d with
 |zero=>intro k k' t v hs;exact hs.zero.elim
 |succ d ih=>
  intro k k' t v hs ht ho hv hT hk hk';obtain⟨k,rfl⟩:∃q,k=q+1:=⟨k-1,by omega⟩
  obtain⟨k',rfl⟩:∃q,k'=q+1:=⟨k'-1,by omega⟩
  obtain⟨hp,hi⟩:=hs.succ;obtain⟨hf,hof⟩:=WS hs ht ho;have hsz:=qS v;have hlen:=gx v.items;have hsT:=pV t;have sub:∀i,i<v.items.length→∃f:ae,t.fields[if t.kind=6 then 0 else i]? =some f∧f.type=ft t i∧f.need=nd t i∧kY k (ft t i) (iv v i)=some (Au d (ft t i) (iv v i))∧fa k' (ft t i) (iv v i)=some (Au d (ft t i) (iv v i)):=by
   intro i hi';obtain⟨f,f1,f2,f3,f4⟩:=Wu (hf i hi');have m1:=gA (DH hi');have m2:=io f1;have m3:=gy f;rw[f3]at m3;obtain⟨a,b⟩:=ih k k' (ft t i) (iv v i) (hi _ (DH hi')) (by rw[←f3];exact ht.fs f f1) (hof i hi') (by omega) (by omega) (by omega) (by omega);exact⟨f,f2,f3,f4,a,b⟩
  rw[kY,fa];simp only[Au];refine⟨?_,?_⟩
  ·have:=ul (f:=fun kk i=>iR (kY k) t v kk (i:Int)) (n:=v.items.length) (P:=fun i=>((iv v i).kind==0&&nd t i)||Au d (ft t i) (iv v i)) (A:=fun _=>some true) (B:=some false) (fun kk i hi'=>by
    obtain⟨f,f2,f3,f4,f5,_⟩:=sub i hi';have e:xP t (i:Int)=some f:=by
     unfold xP vm;by_cases h6:t.kind=6
     ·rw[if_pos h6]at f2;rw[show(0:Int)=((0:Nat):Int)from rfl,Ch f2];simp[h6,aD,au]
     ·rw[if_neg h6]at f2;rw[Ch f2];simp[h6,aD,au]
    simp only[iR,aS hi',ap,aB hi',au,e,rH,f3,f4,Ji hi',f5,aq hi' (show v.items.length<1000000000 by omega)];cases(iv v i).kind==0<;>cases nd t i<;>cases Au d (ft t i) (iv v i)<;>rfl) (fun kk=>by simp[iR,aD,Aa]) aH 0 (Nat.zero_le _) (by rw[aF];omega)
   rw[show((0:Nat):Int)=(0:Int)from rfl]at this;rw[this];cases first (fun i=>((iv v i).kind==0&&nd t i)||Au d (ft t i) (iv v i)) 0 v.items.length<;>rfl
  ·have:=ul (f:=fun kk i=>fg (fa k') t v kk (i:Int)) (n:=v.items.length) (P:=fun i=>((iv v i).kind==0&&nd t i)||Au d (ft t i) (iv v i)) (A:=fun _=>some true) (B:=some false) (fun kk i hi'=>by
    obtain⟨f,f2,f3,f4,_,f5⟩:=sub i hi';have e:∀j:Int,at? t.fields j=some f→qe (fg (fa k') t v kk) (fa k') t v (i:Int) j=if(((iv v i).kind==0&&nd t i)||Au d (ft t i) (iv v i))=true then some true else fg (fa k') t v kk ((i+1:Nat):Int):=by
     intro j hj;simp only[qe,qd,hj,au,aB hi',f3,f4,Ji hi',f5,aq hi' (show v.items.length<1000000000 by omega)];cases(iv v i).kind==0<;>cases nd t i<;>cases Au d (ft t i) (iv v i)<;>rfl
    simp only[fg,aS hi',ap];by_cases h6:t.kind=6
    ·rw[if_pos h6]at f2;have e6:(t.kind==(6:Int))=true:=by simp[h6]
     rw[e6,ap];exact e 0 (Ch f2)
    ·rw[if_neg h6]at f2;have e6:(t.kind==(6:Int))=false:=by simp[h6]
     rw[e6,ai];exact e i (Ch f2)) (fun kk=>by simp[fg,aD,xX]) aH 0 (Nat.zero_le _) (by rw[aF];omega)
   rw[show((0:Nat):Int)=(0:Int)from rfl]at this;rw[this];cases first (fun i=>((iv v i).kind==0&&nd t i)||Au d (ft t i) (iv v i)) 0 v.items.length<;>rfl
theorem Ot(t:al)(v:ac)(hv:bE v<1000000000)(hT:jm t<1000000000):∃e,gN t v=some e∧oc t v=some e:=by
 obtain⟨e,h1,h2,h3⟩:=nQ t hT;unfold gN oc;rw[h1,h2,A9 v hv,Mn v hv];simp only[au];by_cases he:e=0
 ·subst he;have ht:=h3 rfl;cases hs:qt v with
  |false=>exact⟨1,rfl,rfl⟩
  |true=>
   have hS:Um 4 v:=⟨0,hs⟩
   obtain⟨a,b⟩:=ZJ 4 aH aH t v hS ht hv hT (by rw[aF];omega) (by rw[aF];omega);rw[a,b];cases ho:Hg 4 t v with
   |false=>exact⟨2,rfl,rfl⟩
   |true=>
    obtain⟨c,d⟩:=YK 4 aH aH t v hS ht ho hv hT (by rw[aF];omega) (by rw[aF];omega);rw[c,d];cases Au 4 t v with
    |false=>exact⟨0,rfl,rfl⟩
    |true=>exact⟨9,rfl,rfl⟩
 ·have:(e != (0:Int))=true:=by simp[he]
  rw[this];exact⟨e,rfl,rfl⟩
theorem Cr:ByteArray.empty.size=0:=rfl
end Go.Proofs.YtpiohnabdhpphaaGreatDoor
namespace Go.Proofs.YtpiohnabdhpphaaGreatDoor
open Go Go.SX Go.SX.Cal
open Go.IntKind (i64)
theorem PU{l:List ae}{i:Nat}(h:i<l.length):dt (l.drop i)=zq l[i]+dt (l.drop (i+1)):=by
 rw[List.drop_eq_getElem_cons h];simp only[dt]
theorem xG:aH=1152921504606846975+1:=rfl
mutual
def Vk:al→List Int
 |⟨_,_,fs⟩=>fD fs
def fD:List (mR al)→List Int
 |[]=>[]
 |f::l=>F8 f++fD l
def F8:mR al→List Int
 |⟨i,_,_,t⟩=>i::Vk t
end
theorem Ym:∀t:al,Vk t=fD t.fields
 |⟨_,_,_⟩=>by simp only[Vk]
theorem Da:∀f:ae,F8 f=f.id::fD f.type.fields
 |⟨_,_,_,t⟩=>by simp only[F8,Ym]
theorem E8{l:List ae}{i:Nat}(h:i<l.length):fD (l.drop i)=F8 l[i]++fD (l.drop (i+1)):=by
 rw[List.drop_eq_getElem_cons h];simp only[fD]
mutual
theorem WP:∀t:al,(Vk t).length≤jm t
 |⟨_,_,fs⟩=>by simp only[Vk,jm];have:=BD fs;omega
theorem BD:∀l:List (mR al),(fD l).length≤dt l
 |[]=>by simp[fD]
 |f::l=>by
  simp only[fD,dt,List.length_append];have:=T3 f;have:=BD l;omega
theorem T3:∀f:mR al,(F8 f).length≤zq f
 |⟨i,n,q,t⟩=>by
  simp only[F8,zq,List.length_cons];have:=WP t;omega
end
theorem VE:∀(N k:Nat) (fs:List ae),dt fs≤N→N<k→dt fs<1000000000→rx k fs=some (fD fs):=by
 intro N;induction N with
 |zero=>
  intro k fs h hk _;obtain⟨k,rfl⟩:∃x,k=x+1:=⟨k-1,by omega⟩
  have hl:=bX fs;have:fs=[]:=List.eq_nil_of_length_eq_zero (by omega);subst this;rw[rx,xG,rK];rfl
 |succ N ih=>
  intro k fs hN hk hs;obtain⟨k,rfl⟩:∃x,k=x+1:=⟨k-1,by omega⟩
  have hl:=bX fs;rw[rx];have loop:∀(kk i:Nat) (acc:List Int),i≤fs.length→fs.length-i<kk→acc.length+dt (fs.drop i)≤dt fs→rK (rx k) fs kk acc (i:Int)=some (acc++fD (fs.drop i)):=by
   intro kk;induction kk with
   |zero=>intro i acc _ h;omega
   |succ kk ihk=>
    intro i acc hi hk2 hacc;rw[rK];by_cases h:i=fs.length
    ·subst h;simp only[Int.lt_irrefl,decide_false,ai,Ds,List.drop_length,fD,List.append_nil]
    ·have h1:i<fs.length:=by omega
     have m1:=io (gd h1);have m2:=gy fs[i];have m3:=pV fs[i].type;have m4:=PU h1;have m5:=BD fs[i].type.fields;rw[aS h1,ap,aB h1,ay,bh (by omega),ih k _ (by omega) (by omega) (by omega),ay,bh (by simp;omega),aq h1 (by omega)];rw[ihk (i+1) _ (by omega) (by omega) (by simp;omega),E8 h1,Da];simp
  have:=loop aH 0 [] (Nat.zero_le _) (by rw[aF];omega) (by simp);simpa using this
def Nz(x:Int)(m:List (Int×Int)):Int×List (Int×Int):=
 if x<1 then(3,m)else
  let y:=i64.wrap ((jQ (wg .i64) m x).getD 0+1)
  if 1<(jQ (wg .i64) (lj (wg .i64) m x y) x).getD 0 then(5,lj (wg .i64) m x y)else(0,lj (wg .i64) m x y)
def scan:List Int→List (Int×Int)→Int×List (Int×Int)
 |[],m=>(0,m)
 |x::l,m=>if(Nz x m).1≠0 then Nz x m else scan l (Nz x m).2
theorem NV:∀(a b:List Int) (m:List (Int×Int)),scan (a++b) m=if(scan a m).1≠0 then scan a m else scan b (scan a m).2
 |[],b,m=>by simp[scan]
 |x::a,b,m=>by
  simp only[List.cons_append,scan];by_cases h:(Nz x m).1=0
  ·simp only[h,ne_eq,not_true,if_false];exact NV a b _
  ·simp[h]
theorem QG(f:ae)(m:List (Int×Int)):oC f m=some (Nz f.id m):=by
 unfold oC Nz;simp only[ay,aD,decide_eq_true_eq];split
 ·rfl
 ·split<;>rfl
theorem SM:∀(N k:Nat) (fs:List ae) (m:List (Int×Int)),dt fs≤N→N<k→dt fs<1000000000→bC k fs m=some (scan (fD fs) m):=by
 intro N;induction N with
 |zero=>
  intro k fs m h hk _;obtain⟨k,rfl⟩:∃x,k=x+1:=⟨k-1,by omega⟩
  have hl:=bX fs;have:fs=[]:=List.eq_nil_of_length_eq_zero (by omega);subst this;rw[bC,xG,co];rfl
 |succ N ih=>
  intro k fs m hN hk hs;obtain⟨k,rfl⟩:∃x,k=x+1:=⟨k-1,by omega⟩
  have hl:=bX fs;rw[bC];have loop:∀(kk i:Nat) (m:List (Int×Int)),i≤fs.length→fs.length-i<kk→co (bC k) fs kk m (i:Int)=some (scan (fD (fs.drop i)) m):=by
   intro kk;induction kk with
   |zero=>intro i m _ h;omega
   |succ kk ihk=>
    intro i m hi hk2;rw[co];by_cases h:i=fs.length
    ·subst h;simp only[Int.lt_irrefl,decide_false,ai,iw,List.drop_length,fD,scan]
    ·have h1:i<fs.length:=by omega
     have m1:=io (gd h1);have m2:=gy fs[i];have m3:=pV fs[i].type;rw[aS h1,ap,aB h1,ay,QG,ay,aq h1 (by omega),E8 h1,Da,List.cons_append,scan,ih k _ _ (by omega) (by omega) (by omega)];simp only[ay,aD];by_cases h0:(Nz fs[i].id m).1=0
     ·simp only[h0,bne_self_eq_false,Bool.false_eq_true,if_false,ne_eq,not_true,NV];by_cases h2:(scan (fD fs[i].type.fields) (Nz fs[i].id m).2).1=0
      ·simp only[h2,bne_self_eq_false,Bool.false_eq_true,if_false,not_true];exact ihk (i+1) _ (by omega) (by omega)
      ·simp[h2]
     ·simp[h0]
  have:=loop aH 0 m (Nat.zero_le _) (by rw[aF];omega);simpa using this
abbrev KI:TJ Int:=wg .i64
theorem AU:∀(m:List (Int×Int)) (k v:Int),jQ KI (lj KI m k v) k=some v
 |[],k,v=>by simp[lj,jQ,wg]
 |(k',v')::l,k,v=>by
  by_cases h:k=k'
  ·simp[lj,jQ,wg,h]
  ·have hb:(k==k')=false:=by simpa using h
   have:=AU l k v;simp only[lj,jQ,wg,hb,Bool.false_eq_true,if_false]at this⊢;exact this
theorem DV:∀(m:List (Int×Int)) (k v x:Int),x≠k→jQ KI (lj KI m k v) x=jQ KI m x
 |[],k,v,x,hx=>by simp[lj,jQ,wg,hx]
 |(k',v')::l,k,v,x,hx=>by
  by_cases h:k=k'
  ·subst h;simp[lj,jQ,wg,hx]
  ·have hb:(k==k')=false:=by simpa using h
   have:=DV l k v x hx;simp only[lj,jQ,wg,hb,Bool.false_eq_true,if_false]at this⊢;rw[this]
def Inv(m:List (Int×Int))(seen:List Int):Prop:=∀x,(jQ KI m x).getD 0=if x∈seen then 1 else 0
theorem Vh{m:List (Int×Int)}{seen:List Int}(h:Inv m seen)(x:Int):(Nz x m).1=(if x<1 then 3 else if x∈seen then 5 else 0)∧((Nz x m).1=0→Inv (Nz x m).2 (seen++[x])):=by
 unfold Nz;have hx:=h x;by_cases h1:x<1
 ·simp[h1]
 ·simp only[h1,if_false];have e:(jQ (wg .i64) m x).getD 0=if x∈seen then 1 else 0:=hx
  rw[e];by_cases h2:x∈seen
  ·simp only[h2,if_true];rw[show i64.wrap (1+1)=2 from j9 (by omega) (by omega)];have:=AU m x 2;simp only[KI]at this;simp[this]
  ·simp only[h2,if_false];rw[show i64.wrap (0+1)=1 from j9 (by omega) (by omega)];have h3:=AU m x 1;simp only[KI]at h3;simp only[h3,Option.getD_some,Int.lt_irrefl,if_false,true_and];intro _ y;by_cases hy:y=x
   ·subst hy;simp[KI,h3]
   ·have h4:=DV m x 1 y hy;simp only[KI]at h4;have h5:=h y;simp only[KI]at h5⊢;rw[h4,h5];simp[hy]
theorem TV(ids:List Int)(hl:ids.length<1000000000)(rec1:Int→Option Int){i:Nat}(hi:i<ids.length):dH rec1 ids (i:Int) ids[i] aH (0:Int)=if ids[i]∈ids.take i then some 5 else rec1 ((i+1:Nat):Int):=by
 have hs:=ul (f:=fun k j=>dH rec1 ids (i:Int) ids[i] k (j:Int)) (n:=i) (P:=fun j=>ids[j]? ==some ids[i]) (A:=fun j=>some 5) (B:=rec1 ((i+1:Nat):Int)) (fun k j hj=>by
   have hjf:j<ids.length:=by omega
   show dH rec1 ids (i:Int) ids[i] (k+1) (j:Int)=_;rw[dH,aS hj,ap,aB hjf,aq hj (by omega)];simp only[ay,aD,dK hjf,Option.some_beq_some])
  (fun k=>by
   show dH rec1 ids (i:Int) ids[i] (k+1) (i:Int)=_;rw[dH];simp only[Int.lt_irrefl,decide_false,ai,sQ];rw[aq hi hl]) aH 0 (Nat.zero_le _) (by rw[aF];omega)
 have hs:dH rec1 ids (i:Int) ids[i] aH (0:Int)=_:=hs;rw[hs];cases hf:first (fun j=>ids[j]? ==some ids[i]) 0 i with
 |none=>
  rw[zp]at hf;have:ids[i]∉ids.take i:=by
   intro hm;obtain⟨j,hj,he⟩:=List.getElem_of_mem hm;have hj':j<i:=by simp at hj;omega
   have:=hf j (Nat.zero_le _) hj';rw[List.getElem_take]at he;simp[dK (show j<ids.length by omega),he]at this
  simp[this]
 |some j=>
  have:ids[i]∈ids.take i:=by
   unfold first at hf
   have h1:=List.find?_some hf;have h2:=List.mem_of_find?_eq_some hf;rw[List.mem_range'_1]at h2;have hjl:j<ids.length:=by omega
   simp only[dK hjl,Option.some_beq_some,beq_iff_eq]at h1;rw[←h1];exact NA.2 ⟨j,by simp;omega,by simp⟩
  simp[this]
theorem OE(ids:List Int)(hl:ids.length<1000000000):∀(kk i:Nat) (m:List (Int×Int)),i≤ids.length→ids.length-i<kk→Inv m (ids.take i)→fb ids kk (i:Int)=some (scan (ids.drop i) m).1:=by
 intro kk;induction kk with
 |zero=>intro i m _ h;omega
 |succ kk ih=>
  intro i m hi hk hm;rw[fb];by_cases h:i=ids.length
  ·subst h;simp only[Int.lt_irrefl,decide_false,ai,List.drop_length,scan];rfl
  ·have h1:i<ids.length:=by omega
   rw[aS h1,ap,aB h1,ay,TV ids hl _ h1,List.drop_eq_getElem_cons h1,scan];obtain⟨g1,g2⟩:=Vh hm ids[i];rw[g1]at g2⊢;simp only[aD,decide_eq_true_eq];by_cases h2:ids[i]<1
   ·simp[h2,g1]
   ·by_cases h3:ids[i]∈ids.take i
    ·simp[h2,h3,g1]
    ·simp only[h2,h3,if_false,ne_eq,not_true];simp only[h2,h3,if_false]at g2;refine ih (i+1) _ (by omega) (by omega) ?_;have:=g2 trivial;rwa [List.take_append_getElem h1]at this
theorem LP(fs:List ae)(hs:dt fs<1000000000-1):∃e,fI fs=some e∧ic fs=some e:=by
 obtain⟨e,h1,h2,h3⟩:=nQ ⟨7,0,fs⟩ (by simp only[jm];omega);unfold fI ic;rw[h1,h2];simp only[ay,aD];by_cases he:e=0
 ·have w:=SM 1000000000 aH fs [] (by omega) (by rw[aF];omega) (by omega);have i:=VE 1000000000 aH fs (by omega) (by rw[aF];omega) (by omega);have hl:=BD fs;have l:=OE (fD fs) (by omega) aH 0 [] (Nat.zero_le _) (by rw[aF];omega) (fun x=>by simp[jQ]);have l:fb (fD fs) aH (0:Int)=_:=l;refine⟨(scan (fD fs) []).1,?_,?_⟩
  ·simp[he,w,ay]
  ·simp[he,i,ay,l]
 ·exact⟨e,by simp[he],by simp[he]⟩
theorem fY{α β:Type}(a:α)(f:α→Option β):am (some a) f=f a:=rfl
theorem pI{β:Type}(x y:Option β):ak true x y=x:=rfl
theorem iq{β:Type}(x y:Option β):ak false x y=y:=rfl
theorem nf{m f:Nat}(h:m<f):∃q,f=q+1:=⟨f-1,by omega⟩
theorem M0{i n:Nat}(h:¬i<n):decide ((i:Int)<(n:Int))=false:=by simp;omega
theorem Aw{α:Type}{l:List α}{i:Nat}(hi:i<l.length):l.drop i=l[i]::l.drop (i+1):=List.drop_eq_getElem_cons hi
noncomputable def ck(t:al)(v:ac):Int:=(gN t v).getD 0
theorem Qu{t:al}{v:ac}(hv:bE v<1000000000)(hT:jm t<1000000000):gN t v=some (ck t v):=by
 obtain⟨e,h1,_⟩:=Ot t v hv hT;unfold ck;rw[h1];rfl
theorem VT{t:al}{v:ac}(hv:bE v<1000000000)(hT:jm t<1000000000):oc t v=some (ck t v):=by
 obtain⟨e,h1,h2⟩:=Ot t v hv hT;unfold ck;rw[h1,h2];rfl
noncomputable def CS:List ae→List ac→Int
 |f::fs,v::vs=>if ck f.type v≠0 then ck f.type v else if f.need=true∧v.kind=0 then 9 else CS fs vs
 |_,_=>0
theorem V6{f:ae}{fs:List ae}{v:ac}{vs:List ac}(h:ck f.type v≠0):CS (f::fs) (v::vs)=ck f.type v:=by simp only[CS];rw[if_pos h]
theorem Tq{f:ae}{fs:List ae}{v:ac}{vs:List ac}(h:ck f.type v=0)(h2:f.need=true∧v.kind=0):CS (f::fs) (v::vs)=9:=by simp only[CS];rw[if_neg (fun k=>k h),if_pos h2]
theorem Rz{f:ae}{fs:List ae}{v:ac}{vs:List ac}(h:ck f.type v=0)(h2:¬(f.need=true∧v.kind=0)):CS (f::fs) (v::vs)=CS fs vs:=by simp only[CS];rw[if_neg (fun k=>k h),if_neg h2]
theorem Xx{fs:List ae}(h:dt fs<1000000000){i:Nat}(hi:i<fs.length):jm fs[i].type<1000000000:=by
 have:=io (gd hi);have:=gy fs[i];omega
theorem NF{r:List ac}(h:cN r<1000000000){i:Nat}(hi:i<r.length):bE r[i]<1000000000:=by
 have:=gA (gd hi);omega
theorem ab6{fs:List ae}{r:List ac}(hf:dt fs<1000000000)(hr:cN r<1000000000)(hl:r.length=fs.length):∀(m f i:Nat),i+m=fs.length→m<f→
  hU fs r f (i:Int)=some (CS (fs.drop i) (r.drop i)):=by
 have hfl:=bX fs;intro m;induction m with
 |zero=>
  intro f i hi hf';obtain⟨f,rfl⟩:=nf hf';rw[hU,M0 (by omega),iq,List.drop_of_length_le (l:=fs) (by omega)];simp[CS,wK]
 |succ m ih=>
  intro f i hi hf';obtain⟨f,rfl⟩:=nf hf';have h1:i<fs.length:=by omega
  have h2:i<r.length:=by omega
  rw[hU,aS h1,pI,aB h1,fY,aB h2,fY,VT (NF hr h2) (Xx hf h1),fY,Aw h1,Aw h2];unfold su;by_cases he:ck fs[i].type r[i]=0
  ·cases hn:fs[i].need with
   |true=>
    by_cases hk:r[i].kind=0
    ·rw[Tq he ⟨hn,hk⟩,he,show((0:Int) != 0)=false from rfl,iq,pI,show(r[i].kind==0)=true by simp[hk],pI]
    ·rw[Rz he (fun h=>hk h.2),he,show((0:Int) != 0)=false from rfl,iq,pI,show(r[i].kind==0)=false by simp[hk],iq,aq h1 (by omega),ih f (i+1) (by omega) (by omega)]
   |false=>rw[Rz he (by simp[hn]),he,show((0:Int) != 0)=false from rfl,iq,iq,iq,aq h1 (by omega),ih f (i+1) (by omega) (by omega)]
  ·rw[V6 he,show(ck fs[i].type r[i] != 0)=true by simp[he],pI]
noncomputable def Ew(fs:List ae):List (List ac)→Int
 |r::rs=>if r.length≠fs.length then 1 else if CS fs r≠0 then CS fs r else Ew fs rs
 |[]=>0
theorem Z5{fs:List ae}{rows:List (List ac)}(hf:dt fs<1000000000)(hr:∀r∈rows,cN r<1000000000)(hl:rows.length<1000000000):∀(m f i:Nat),i+m=rows.length→m<f→
  jR fs rows f (i:Int)=some (Ew fs (rows.drop i)):=by
 intro m;induction m with
 |zero=>
  intro f i hi hf';obtain⟨f,rfl⟩:=nf hf';rw[jR,M0 (by omega),iq,List.drop_of_length_le (by omega)];rfl
 |succ m ih=>
  intro f i hi hf';obtain⟨f,rfl⟩:=nf hf';have h1:i<rows.length:=by omega
  rw[jR,aS h1,pI,aB h1,fY,Aw h1];simp only[Ew];unfold A5;by_cases hle:rows[i].length=fs.length
  ·have hc:=ab6 hf (hr _ (gd h1)) hle fs.length aH 0 (by omega) (by have:=bX fs;rw[aF];omega);rw[show((0:Nat):Int)=0 from rfl,List.drop_zero,List.drop_zero]at hc;rw[show(((rows[i].length:Nat):Int) != (fs.length:Int))=false by simp[hle],iq,hc,fY,if_neg (fun h=>h hle)];by_cases h0:CS fs rows[i]=0
   ·rw[h0,show((0:Int) != 0)=false from rfl,iq,if_neg (fun h=>h rfl),aq h1 hl,ih f (i+1) (by omega) (by omega)]
   ·rw[show(CS fs rows[i] != 0)=true by simp[h0],pI,if_pos h0]
  ·rw[show(((rows[i].length:Nat):Int) != (fs.length:Int))=true by simp;omega,pI,fY,if_pos hle];rfl
def sc(fs:List ae):Int:=(fI fs).getD 0
theorem VB{fs:List ae}(h:dt fs<1000000000-1):fI fs=some (sc fs):=by
 obtain⟨e,h1,_⟩:=LP fs h;unfold sc;rw[h1];rfl
theorem Wq{fs:List ae}(h:dt fs<1000000000-1):ic fs=some (sc fs):=by
 obtain⟨e,h1,h2⟩:=LP fs h;unfold sc;rw[h1,h2];rfl
noncomputable def SH(fs:List ae)(rows:List (List ac)):Int:=if sc fs≠0 then sc fs else if 2000<rows.length then 7 else Ew fs rows
theorem DR{fs:List ae}{rows:List (List ac)}(hf:dt fs<1000000000-1)(hr:∀r∈rows,cN r<1000000000)(hl:rows.length<1000000000):oG fs rows=some (SH fs rows):=by
 unfold oG SH;rw[Wq hf,fY];by_cases h:sc fs=0
 ·rw[h,show((0:Int) != 0)=false from rfl,iq,if_neg (fun h=>h rfl)];by_cases h2:2000<rows.length
  ·rw[decide_eq_true (by omega),pI,if_pos h2]
  ·have hc:=Z5 (fs:=fs) (by omega) hr hl rows.length aH 0 (by omega) (by rw[aF];omega);rw[show((0:Nat):Int)=0 from rfl,List.drop_zero]at hc;rw[decide_eq_false (by omega),iq,hc,if_neg h2]
 ·rw[show(sc fs != 0)=true by simp[h],pI,if_pos h]
theorem MT:∀{fs:List ae} {r:List ac},CS fs r=0→∀(i:Nat) f v,fs[i]? =some f→r[i]? =some v→ck f.type v=0∧¬(f.need=true∧v.kind=0)
 |[],_,_,i,f,v,h1,_=>by simp at h1
 |_::_,[],_,i,f,v,_,h2=>by simp at h2
 |g::fs,x::r,h,i,f,v,h1,h2=>by
  simp only[CS]at h;by_cases ha:ck g.type x=0
  ·rw[if_neg (fun h=>h ha)]at h;by_cases hb:g.need=true∧x.kind=0
   ·rw[if_pos hb]at h;cases h
   ·rw[if_neg hb]at h;cases i with
    |zero=>simp at h1 h2;subst h1;subst h2;exact⟨ha,hb⟩
    |succ i=>exact MT h i f v (by simpa using h1) (by simpa using h2)
  ·rw[if_pos ha]at h;exact absurd h ha
theorem Gk{fs:List ae}:∀{rows:List (List ac)},Ew fs rows=0→∀r∈rows,r.length=fs.length∧CS fs r=0
 |[],_,r,h=>by cases h
 |x::rows,h,r,hr=>by
  simp only[Ew]at h;by_cases ha:x.length=fs.length
  ·rw[if_neg (fun h=>h ha)]at h;by_cases hb:CS fs x=0
   ·rw[if_neg (fun h=>h hb)]at h;rcases List.mem_cons.1 hr with rfl|hr
    ·exact⟨ha,hb⟩
    ·exact Gk h r hr
   ·rw[if_pos hb]at h;exact absurd h hb
  ·rw[if_pos ha]at h;cases h
end Go.Proofs.YtpiohnabdhpphaaGreatDoor
namespace Go.Proofs.YtpiohnabdhpphaaGreatDoor
open Go Go.SX Go.SX.Cal Go.Lib
open Go.IntKind (i64)
theorem I2{p:List ae}(hl:p.length<1000000000)(x:Int):∃r,vA p x=some r∧kD p x=some r∧(r<0∨∃i:Nat,i<p.length∧r=(i:Int)):=by
 have key:∀(m f f' i:Nat),i+m=p.length→m<f→m<f'→∃r,a8 p x f (i:Int)=some r∧kO p x f' (i:Int)=some r∧(r<0∨∃i:Nat,i<p.length∧r=(i:Int)):=by
  intro m;induction m with
  |zero=>
   intro f f' i hi hf hf';obtain⟨f,rfl⟩:=nf hf;obtain⟨f',rfl⟩:=nf hf';rw[a8,kO,M0 (by omega),iq,iq];exact⟨-1,rfl,rfl,.inl (by omega)⟩
  |succ m ih=>
   intro f f' i hi hf hf';obtain⟨f,rfl⟩:=nf hf;obtain⟨f',rfl⟩:=nf hf';have h1:i<p.length:=by omega
   rw[a8,kO,aS h1,pI,pI,aB h1,fY,fY,ue,fY];cases he:(p[i].id==x)with
   |true=>rw[pI,pI];exact⟨i,rfl,rfl,.inr ⟨i,h1,rfl⟩⟩
   |false=>rw[iq,iq,aq h1 hl];exact ih f f' (i+1) (by omega) (by omega) (by omega)
 obtain⟨r,h1,h2,h3⟩:=key p.length aH aH 0 (by omega) (by rw[aF];omega) (by rw[aF];omega);refine⟨r,?_,h2,h3⟩;unfold vA dr;rw[show((0:Nat):Int)=0 from rfl]at h1;rw[h1,fY]
theorem Za{t:al}{e:Int}(h:dk t=some e):pQ t=some (if e≠0 then e else if t.kind=6∨t.kind=7 then 2 else 0):=by
 unfold pQ pr;rw[h,fY];by_cases he:e=0
 ·subst he;by_cases h6:t.kind=6
  ·simp[h6,aD]
  ·by_cases h7:t.kind=7<;>simp[h6,h7,aD]
 ·simp[he,aD]
def Wd(t u:al):Prop:=(t.kind=u.kind∧t.scale=u.scale)∨(t.kind=1∧u.kind=2)∨((t.kind=1∨t.kind=2)∧u.kind=3∧u.scale=0)
structure Wp(t u:al):Prop where
 a:V t
 b:V u
 c:dk u=some 0
 l:t.kind≠6∧t.kind≠7
 m:u.kind≠6∧u.kind≠7
 w:Wd t u
def wdB(t u:al):Bool:=(t.kind==u.kind&&t.scale==u.scale)||(t.kind==1&&u.kind==2)||((t.kind==1||t.kind==2)&&u.kind==3&&u.scale==0)
theorem LI(t u:al)(ht:jm t<1000000000)(hu:jm u<1000000000):∃b,kN t u=some b∧rD t u=some b∧(b=true→Wp t u):=by
 obtain⟨e,a1,a2,a3⟩:=nQ t ht;obtain⟨e',b1,b2,b3⟩:=nQ u hu;have hc:mE t u false=some (wdB t u):=by
  unfold mE sG sk kC wdB;simp only[aD,beq_iff_eq];repeat' split
  all_goals (first|rfl|(simp_all;done) |(simp_all;omega))
 have hr:lp t u false=some (wdB t u):=by
  unfold lp vv v7 mK wdB;simp only[aD,beq_iff_eq];repeat' split
  all_goals (first|rfl|(simp_all;done) |(simp_all;omega) |(refine congrArg some (Bool.eq_iff_iff.2 ?_);simp_all;try omega))
 have hc0:mE t u true=some false:=rfl;have hr0:lp t u true=some false:=rfl;have hC:kN t u=some (decide (e=0∧e'=0∧(t.kind≠6∧t.kind≠7)∧(u.kind≠6∧u.kind≠7))&&wdB t u):=by
  unfold kN;rw[Za a1,Za b1,fY,fY];by_cases he:e=0<;>by_cases he':e'=0<;>by_cases h1:t.kind=6∨t.kind=7<;>by_cases h2:u.kind=6∨u.kind=7<;>simp[he,he',show¬e'=0→(e' != 0)=true from fun h=>by simp[h],aD,hc,hc0,h1,h2,show(t.kind≠6∧t.kind≠7)↔¬(t.kind=6∨t.kind=7)from by omega,show(u.kind≠6∧u.kind≠7)↔¬(u.kind=6∨u.kind=7)from by omega]
 have hR:rD t u=some (decide (e=0∧e'=0∧(t.kind≠6∧t.kind≠7)∧(u.kind≠6∧u.kind≠7))&&wdB t u):=by
  unfold rD;simp only[a2,b2,DU,fY];by_cases he:e=0<;>by_cases he':e'=0<;>by_cases h1:t.kind≠6∧t.kind≠7<;>by_cases h2:u.kind≠6∧u.kind≠7<;>simp[he,he',h1,h2,aD,hr,hr0]
 refine⟨_,hC,hR,fun h=> ?_⟩;rw[iu,decide_eq_true_iff]at h;obtain⟨⟨he,he',h6,h7⟩,hw⟩:=h;subst he;subst he';refine⟨a3 rfl,b3 rfl,b1,h6,h7,?_⟩;unfold wdB at hw;simp at hw;unfold Wd;omega
theorem PX(t:al):rT t=some (decide (t.kind=6∨t.kind=7)):=by
 unfold rT qD;by_cases h6:t.kind=6<;>by_cases h7:t.kind=7<;>simp[h6,h7,aD]
def AdT(q:List ae→List ae→Prop)(t u:al):Prop:=(t.kind≠6∧t.kind≠7→Wp t u)∧(¬(t.kind≠6∧t.kind≠7)→t.kind=u.kind∧q t.fields u.fields)
def O2:Nat→List ae→List ae→Prop
 |0,_,_=>True
 |d+1,p,q=>∀f∈q,∀(i:Nat) (g:ae),kD p f.id=some (i:Int)→p[i]? =some g→AdT (O2 d) g.type f.type
theorem Gs:∀(N k k':Nat) (p q:List ae),dt q≤N→N<k→N<k'→dt p<1000000000→dt q<1000000000→∃e,bD k p q=some e∧cq k' p q=some e∧(e=0→∀d,O2 d p q):=by
 intro N;induction N with
 |zero=>
  intro k k' p q h hk hk' hp hq;obtain⟨k,rfl⟩:=nf hk;obtain⟨k',rfl⟩:=nf hk';have hl:=bX q;have:q=[]:=List.length_eq_zero_iff.1 (by omega);subst this;rw[bD,cq,xG,bK,cy];refine⟨0,rfl,rfl,fun _ d=> ?_⟩;cases d with
  |zero=>trivial
  |succ d=>exact fun f hf=>by cases hf
 |succ N ih=>
  intro k k' p q h hk hk' hp hq;obtain⟨k,rfl⟩:=nf hk;obtain⟨k',rfl⟩:=nf hk';have hpl:=bX p;have hql:=bX q;have key:∀(m f f' i:Nat),i+m=q.length→m<f→m<f'→∃e,bK (bD k) p q f (i:Int)=some e∧cy (cq k') p q f' (i:Int)=some e∧
    (e=0→∀d,∀f∈q.drop i,∀(i:Nat) (g:ae),kD p f.id=some (i:Int)→p[i]? =some g→AdT (O2 d) g.type f.type):=by
   intro m;induction m with
   |zero=>
    intro f f' i hi hf hf';obtain⟨f,rfl⟩:=nf hf;obtain⟨f',rfl⟩:=nf hf';rw[bK,cy,M0 (by omega),iq,iq,List.drop_of_length_le (by omega)];exact⟨0,rfl,rfl,fun _ d f hf=>by cases hf⟩
   |succ m ih2=>
    intro f f' i hi hf hf';obtain⟨f,rfl⟩:=nf hf;obtain⟨f',rfl⟩:=nf hf';have h1:i<q.length:=by omega
    obtain⟨e,c1,c2,c3⟩:=ih2 f f' (i+1) (by omega) (by omega) (by omega);obtain⟨r,r1,r2,r3⟩:=I2 (p:=p) (by omega) q[i].id;rw[bK,cy,aS h1,pI,pI,aB h1,fY,fY,r1,fY,r2,fY,Aw h1];unfold lR nR;rw[aq h1 (by omega)];rcases r3 with r3|⟨j,hj,rfl⟩
    ·rw[decide_eq_true r3,pI,pI];cases hn:q[i].need with
     |true=>rw[pI,pI];exact⟨9,rfl,rfl,fun h=>by cases h⟩
     |false=>
      rw[iq,iq];refine⟨e,c1,c2,fun he d x hx j g hg hpj=> ?_⟩;rcases List.mem_cons.1 hx with rfl|hx
      ·rw[r2]at hg;cases hg;omega
      ·exact c3 he d x hx j g hg hpj
    ·rw[decide_eq_false (by omega),iq,iq,aB hj,fY,fY];have hqi:=io (gd h1);have hpj:=io (gd hj);have hqi2:=gy q[i];have hpj2:=gy p[j];have hqi3:=pV q[i].type;have hpj3:=pV p[j].type;obtain⟨y,y1,y2,y3⟩:=ih k k' p[j].type.fields q[i].type.fields (by omega) (by omega) (by omega) (by omega) (by omega);obtain⟨b,b1,b2,b3⟩:=LI p[j].type q[i].type (by omega) (by omega)
     have hgo:∀(hat:(∀d,O2 d p[j].type.fields q[i].type.fields)→∀d,AdT (O2 d) p[j].type q[i].type),
       ∃e,iy (bD k) (bK (bD k) p q f) (i:Int) q[i] p[j] false=some e∧gn (cy (cq k') p q f') (cq k') (i:Int) q[i] p[j] false=some e∧
        (e=0→∀d,∀f∈q[i]::q.drop (i+1),∀(i:Nat) (g:ae),kD p f.id=some (i:Int)→p[i]? =some g→AdT (O2 d) g.type f.type):=by
      intro hat;unfold iy gn lR nR;rw[iq,iq,y1,fY,y2,fY,aq h1 (by omega)];by_cases hy:y=0
      ·subst hy;rw[bne_self_eq_false,iq,iq];refine⟨e,c1,c2,fun he d x hx j' g hg hpj'=> ?_⟩;rcases List.mem_cons.1 hx with rfl|hx
       ·rw[r2]at hg;have:j=j':=by have:=Option.some.inj hg;omega
        subst this;rw[dK hj]at hpj';cases hpj';exact hat (y3 rfl) d
       ·exact c3 he d x hx j' g hg hpj'
      ·rw[show(y != 0)=true by simp[hy],pI,pI];exact⟨y,rfl,rfl,fun h=>absurd h hy⟩
     have h2c:iy (bD k) (bK (bD k) p q f) (i:Int) q[i] p[j] true=some 2:=rfl;have h2r:gn (cy (cq k') p q f') (cq k') (i:Int) q[i] p[j] true=some 2:=rfl;have hj1:∃e,lS (bD k) (bK (bD k) p q f) (i:Int) q[i] p[j] false=some e∧nN (cy (cq k') p q f') (cq k') (i:Int) q[i] p[j] false=some e∧
        (e=0→∀d,∀f∈q[i]::q.drop (i+1),∀(i:Nat) (g:ae),kD p f.id=some (i:Int)→p[i]? =some g→AdT (O2 d) g.type f.type):=by
      unfold lS nN oF;rw[iq,iq,PX,fY,DU,fY];by_cases hlf:p[j].type.kind≠6∧p[j].type.kind≠7
      ·rw[decide_eq_true hlf,decide_eq_false (by omega)];simp only[Bool.not_true,Bool.not_false,pI,iq,fY,b1,b2];cases b with
       |true=>exact hgo fun _ d=>⟨fun _=>b3 rfl,fun h=>absurd hlf h⟩
       |false=>exact⟨2,rfl,rfl,fun h=>by cases h⟩
      ·rw[decide_eq_false hlf,decide_eq_true (by omega)];simp only[Bool.not_true,Bool.not_false,pI,iq,fY];by_cases hk:p[j].type.kind=q[i].type.kind
       ·rw[show(q[i].type.kind != p[j].type.kind)=false by simp[hk],show(p[j].type.kind != q[i].type.kind)=false by simp[hk],iq,iq];exact hgo fun hh d=>⟨fun h=>absurd h hlf,fun _=>⟨hk,hh d⟩⟩
       ·rw[show(q[i].type.kind != p[j].type.kind)=true by simp;omega,show(p[j].type.kind != q[i].type.kind)=true by simp;omega,pI,pI];exact⟨2,rfl,rfl,fun h=>by cases h⟩
     cases hn:q[i].need with
     |true=>
      rw[pI,pI];cases hm:p[j].need with
      |true=>exact hj1
      |false=>exact⟨9,rfl,rfl,fun h=>by cases h⟩
     |false=>rw[iq,iq];exact hj1
  obtain⟨e,e1,e2,e3⟩:=key q.length aH aH 0 (by omega) (by rw[aF];omega) (by rw[aF];omega);refine⟨e,e1,e2,fun he d=> ?_⟩;cases d with
  |zero=>trivial
  |succ d=>exact e3 he d
theorem MG(t:al):wJ t=some (decide (t.kind≠6∧t.kind≠7)):=by
 unfold wJ wV;by_cases h6:t.kind=6<;>by_cases h7:t.kind=7<;>simp[h6,h7,aD]
def Ba:al:=⟨0,0,[]⟩
def X2(p:aT)(t:al):al×Int:=
 if t.kind=6∨t.kind=7 then(Ba,2)else if p.kind=3∧t.kind≠2∧t.kind≠3∧t.kind≠4 then(Ba,2)else if 4≤p.kind∧t.kind≠5 then(Ba,2)
 else if p.kind=2∨4≤p.kind then(⟨2,0,[]⟩,0)else(t,0)
def Kt(p:aT)(t:al)(e:Int):al×Int:=
 if e≠0 then(Ba,e)else if p.kind<0∨7<p.kind then(Ba,3)
 else if p.kind=2∨p.kind=3 then(if p.param<1∨1000000<p.param then(Ba,3)else X2 p t)else if p.param≠0 then(Ba,3)else X2 p t
theorem aew(p:aT)(t:al):jT p t=some (X2 p t):=by
 unfold jT hJ il l8 X2 Ba;rw[MG];simp only[ay,aD];by_cases h6:t.kind=6
 ·simp[h6]
 by_cases h7:t.kind=7
 ·simp[h7]
 by_cases h3:p.kind=3
 ·by_cases t2:t.kind=2
  ·simp[h6,h7,h3,t2]
  by_cases t3:t.kind=3
  ·simp[h6,h7,h3,t2,t3]
  by_cases t4:t.kind=4
  ·simp[h6,h7,h3,t2,t3,t4]
  simp[h6,h7,h3,t2,t3,t4]
 ·by_cases h4:4≤p.kind
  ·by_cases t5:t.kind=5
   ·simp[h6,h7,h3,h4,t5]
   ·simp[h6,h7,h3,h4,t5]
  ·by_cases h2:p.kind=2
   ·simp[h6,h7,h3,h4,h2]
   ·simp[h6,h7,h3,h4,h2]
theorem aak(p:aT)(t:al):d8 p t false=some (X2 p t):=by
 unfold d8 iJ nm nk X2 Ba;rw[DU];simp only[ay,aD];by_cases h6:t.kind=6
 ·simp[h6]
 by_cases h7:t.kind=7
 ·simp[h7]
 by_cases h3:p.kind=3
 ·by_cases t2:t.kind=2
  ·simp[h6,h7,h3,t2]
  by_cases t3:t.kind=3
  ·simp[h6,h7,h3,t2,t3]
  by_cases t4:t.kind=4
  ·simp[h6,h7,h3,t2,t3,t4]
  simp[h6,h7,h3,t2,t3,t4]
 ·by_cases h4:4≤p.kind
  ·by_cases t5:t.kind=5
   ·simp[h6,h7,h3,h4,t5]
   ·simp[h6,h7,h3,h4,t5]
  ·by_cases h2:p.kind=2
   ·simp[h6,h7,h3,h4,h2]
   ·simp[h6,h7,h3,h4,h2]
theorem qO(a b c:Int):eg a b c=some (decide (b≤a∧a≤c)):=by
 unfold eg uS;by_cases h1:b≤a<;>by_cases h2:a≤c<;>simp[h1,h2,aD]
theorem tt(p:aT)(t:al)(hs:jm t<1000000000):∃e,(e=0→V t)∧cM p t=some (Kt p t e)∧fR p t=some (Kt p t e):=by
 obtain⟨e,h1,h2,h3⟩:=nQ t hs;refine⟨e,h3,?_,?_⟩
 ·unfold cM Kt;rw[h1];by_cases he:e=0
  ·subst he;unfold lV lX l7;rw[aew];simp only[ay,aD,Ba];by_cases k0:p.kind<0
   ·simp[k0]
   by_cases k7:7<p.kind
   ·simp[k0,k7]
   by_cases k2:p.kind=2
   ·by_cases m1:p.param<1
    ·simp[k0,k7,k2,m1]
    by_cases m2:1000000<p.param
    ·simp[k0,k7,k2,m1,m2]
    simp[k0,k7,k2,m1,m2]
   by_cases k3:p.kind=3
   ·by_cases m1:p.param<1
    ·simp[k0,k7,k2,k3,m1]
    by_cases m2:1000000<p.param
    ·simp[k0,k7,k2,k3,m1,m2]
    simp[k0,k7,k2,k3,m1,m2]
   by_cases m0:p.param=0
   ·simp[k0,k7,k2,k3,m0]
   ·simp[k0,k7,k2,k3,m0]
  ·simp[he,aD,ay,Ba]
 ·unfold fR Kt;rw[h2];by_cases he:e=0
  ·subst he;unfold nq;rw[qO,qO];have hb:d8 p t true=some (Ba,3):=rfl;by_cases k0:p.kind<0
   ·simp[k0,aD,ay,show¬(0:Int)≤p.kind by omega,Ba]
   by_cases k7:7<p.kind
   ·simp[k0,k7,aD,ay,show¬p.kind≤7 by omega,Ba]
   have k0':(0:Int)≤p.kind:=by omega
   have k7':p.kind≤7:=by omega
   by_cases k2:p.kind=2
   ·by_cases m1:p.param<1
    ·simp[k2,m1,aD,ay,hb,show¬(1:Int)≤p.param by omega]
    by_cases m2:1000000<p.param
    ·simp[k2,m1,m2,aD,ay,hb,show¬p.param≤1000000 by omega]
    simp[k2,m1,m2,aD,ay,aak,show(1:Int)≤p.param by omega,show p.param≤1000000 by omega]
   by_cases k3:p.kind=3
   ·by_cases m1:p.param<1
    ·simp[k3,m1,aD,ay,hb,show¬(1:Int)≤p.param by omega]
    by_cases m2:1000000<p.param
    ·simp[k3,m1,m2,aD,ay,hb,show¬p.param≤1000000 by omega]
    simp[k3,m1,m2,aD,ay,aak,show(1:Int)≤p.param by omega,show p.param≤1000000 by omega]
   by_cases m0:p.param=0
   ·simp[k0,k7,k0',k7',k2,k3,m0,aD,ay,aak]
   ·have hm:(p.param != 0)=true:=bne_iff_ne.2 m0;simp[k0,k7,k0',k7',k2,k3,m0,hm,aD,ay,hb]
  ·simp[he,aD,ay,Ba]
theorem Jv{t:al}(h:V t)(h6:t.kind≠6)(h7:t.kind≠7):t.fields=[]∧1≤t.kind∧t.kind≤7:=by
 obtain⟨_,h1,_⟩:=h;unfold shp at h1;split at h1
 ·omega
 ·rename_i hk;split at h1
  ·omega
  ·unfold vf at h1;rw[if_neg h6,if_pos h7]at h1;split at h1
   ·omega
   ·rename_i hl;exact⟨List.eq_nil_of_length_eq_zero (by omega),by omega,by omega⟩
structure Xn(p:aT)(t:al):Prop where
 v:V t
 k6:t.kind≠6
 k7:t.kind≠7
 lo:0≤p.kind
 hi:p.kind≤7
 par:p.kind=2∨p.kind=3→1≤p.param∧p.param≤1000000
 cut:p.kind=3→t.kind=2∨t.kind=3∨t.kind=4
 tim:4≤p.kind→t.kind=5
theorem Qg{p:aT}{t:al}{e:Int}(hv:e=0→V t)(h:(Kt p t e).2=0):Xn p t:=by
 unfold Kt X2 at h;by_cases he:e=0
 ·subst he;rw[if_neg (by decide)]at h;by_cases hk:p.kind<0∨7<p.kind
  ·rw[if_pos hk]at h;exact absurd h (by decide)
  rw[if_neg hk]at h;have fin:(if t.kind=6∨t.kind=7 then(Ba,(2:Int))else if p.kind=3∧t.kind≠2∧t.kind≠3∧t.kind≠4 then(Ba,2)else if 4≤p.kind∧t.kind≠5 then(Ba,2)else if p.kind=2∨4≤p.kind then(⟨2,0,[]⟩,0)else(t,0)).2=0→
    t.kind≠6∧t.kind≠7∧(p.kind=3→t.kind=2∨t.kind=3∨t.kind=4)∧(4≤p.kind→t.kind=5):=fun h=>by
   by_cases a:t.kind=6∨t.kind=7
   ·rw[if_pos a]at h;exact absurd h (by decide)
   rw[if_neg a]at h;by_cases b:p.kind=3∧t.kind≠2∧t.kind≠3∧t.kind≠4
   ·rw[if_pos b]at h;exact absurd h (by decide)
   rw[if_neg b]at h;by_cases c:4≤p.kind∧t.kind≠5
   ·rw[if_pos c]at h;exact absurd h (by decide)
   exact⟨by omega,by omega,by omega,by omega⟩
  by_cases h23:p.kind=2∨p.kind=3
  ·rw[if_pos h23]at h;by_cases hm:p.param<1∨1000000<p.param
   ·rw[if_pos hm]at h;exact absurd h (by decide)
   rw[if_neg hm]at h;obtain⟨a,b,c,d⟩:=fin h;exact⟨hv rfl,a,b,by omega,by omega,fun _=>by omega,c,d⟩
  ·rw[if_neg h23]at h;by_cases hm:p.param≠0
   ·rw[if_pos hm]at h;exact absurd h (by decide)
   rw[if_neg hm]at h;obtain⟨a,b,c,d⟩:=fin h;exact⟨hv rfl,a,b,by omega,by omega,fun h=>absurd h h23,c,d⟩
 ·rw[if_pos he]at h;exact absurd h he
end Go.Proofs.YtpiohnabdhpphaaGreatDoor
namespace Go.Proofs.YtpiohnabdhpphaaGreatDoor
open Go Go.SX Go.SX.Cal
open Go.IntKind (i64)
theorem bS{α β:Type}(a:α)(f:α→Option β):am (some a) f=f a:=rfl
theorem iT{β:Type}(x y:Option β):ak true x y=x:=rfl
theorem iF{β:Type}(x y:Option β):ak false x y=y:=rfl
theorem gP{β:Type}{p:Prop}[Decidable p]{x:Option β}(h:p):iN p x=x:=if_pos h
theorem FE{i n:Nat}(h:¬i<n):decide ((i:Int)<(n:Int))=false:=by simp;omega
theorem fu{m f:Nat}(h:m<f):∃q,f=q+1:=⟨f-1,by omega⟩
theorem Hl:aH=1152921504606846975+1:=rfl
structure RN(fs:List ae)(id:Int)(i:Nat):Prop where
 lt:i<fs.length
 eq:∀h:i<fs.length,fs[i].id=id
 no:∀(j:Nat) (h:j<fs.length),j<i→fs[j].id≠id
theorem abu{fs:List ae}(id:Int):∀(m j:Nat),j+m=fs.length→(∃i,j≤i∧i<fs.length∧(∀h:i<fs.length,fs[i].id=id)∧∀(q:Nat) (h:q<fs.length),j≤q→q<i→fs[q].id≠id)∨∀(q:Nat) (h:q<fs.length),j≤q→fs[q].id≠id:=by
 intro m;induction m with
 |zero=>intro j h;exact .inr fun q hq hj=>by omega
 |succ m ih=>
  intro j h;have hj:j<fs.length:=by omega
  by_cases e:fs[j].id=id
  ·exact .inl ⟨j,iO _,hj,fun _=>e,fun q _ h1 h2=>by omega⟩
  ·rcases ih (j+1) (by omega)with⟨i,h1,h2,h3,h4⟩ |h1
   ·refine .inl ⟨i,by omega,h2,h3,fun q hq h5 h6=> ?_⟩;by_cases e2:q=j
    ·subst e2;exact e
    ·exact h4 q hq (by omega) h6
   ·refine .inr fun q hq h5=> ?_
    by_cases e2:q=j
    ·subst e2;exact e
    ·exact h1 q hq (by omega)
theorem RN.or(fs:List ae)(id:Int):(∃i,RN fs id i)∨∀(q:Nat) (h:q<fs.length),fs[q].id≠id:=by
 rcases abu (fs:=fs) id fs.length 0 (by omega)with⟨i,_,h2,h3,h4⟩ |h
 ·exact .inl ⟨i,h2,h3,fun j hj hi=>h4 j hj (Nat.zero_le _) hi⟩
 ·exact .inr fun q hq=>h q hq (Nat.zero_le _)
theorem aet{fs:List ae}(hn:fs.length<1000000000){id:Int}{i:Nat}(hF:RN fs id i):∀(m f j:Nat),j+m=i→m<f→
  aK fs id f (j:Int)=some (i:Int):=by
 intro m;induction m with
 |zero=>
  intro f j h hf;obtain⟨q,rfl⟩:=fu hf;have e:j=i:=by omega
  subst e;rw[aK,aS hF.lt,iT,aB hF.lt,bS];unfold tn;rw[bS,hF.eq hF.lt,beq_self_eq_true,iT]
 |succ m ih=>
  intro f j h hf;obtain⟨q,rfl⟩:=fu hf;have hj:j<fs.length:=by have:=hF.lt;omega
  rw[aK,aS hj,iT,aB hj,bS];unfold tn;rw[bS,beq_eq_false_iff_ne.2 (hF.no j hj (by omega)),iF,aq hj hn];exact ih q (j+1) (by omega) (by omega)
theorem aev{fs:List ae}(hn:fs.length<1000000000){id:Int}(hF:∀(q:Nat) (h:q<fs.length),fs[q].id≠id):∀(m f j:Nat),j+m=fs.length→m<f→
  aK fs id f (j:Int)=some (-1):=by
 intro m;induction m with
 |zero=>
  intro f j h hf;obtain⟨q,rfl⟩:=fu hf;rw[aK,FE (by omega),iF];rfl
 |succ m ih=>
  intro f j h hf;obtain⟨q,rfl⟩:=fu hf;have hj:j<fs.length:=by omega
  rw[aK,aS hj,iT,aB hj,bS];unfold tn;rw[bS,beq_eq_false_iff_ne.2 (hF j hj),iF,aq hj hn];exact ih q (j+1) (by omega) (by omega)
theorem Dt{fs:List ae}(hn:fs.length<1000000000){id:Int}{i:Nat}(hF:RN fs id i):my fs id=some (i:Int):=by
 unfold my cD;have h:=aet hn hF i aH 0 (by omega) (by rw[Hl];have:=hF.lt;omega);rw[show((0:Nat):Int)=0 from rfl]at h;rw[h];rfl
theorem Dn{fs:List ae}(hn:fs.length<1000000000){id:Int}(hF:∀(q:Nat) (h:q<fs.length),fs[q].id≠id):my fs id=some (-1):=by
 unfold my cD;have h:=aev hn hF fs.length aH 0 (by omega) (by rw[Hl];omega);rw[show((0:Nat):Int)=0 from rfl]at h;rw[h];rfl
theorem adK{fs:List ae}(hn:fs.length<1000000000){id:Int}{i:Nat}(hF:RN fs id i):∀(m f j:Nat),j+m=i→m<f→
  mj fs id f (j:Int)=some (fs[i]'hF.lt,true):=by
 intro m;induction m with
 |zero=>
  intro f j h hf;obtain⟨q,rfl⟩:=fu hf;have e:j=i:=by omega
  subst e;rw[mj,aS hF.lt,iT,aB hF.lt,bS,hF.eq hF.lt,beq_self_eq_true,iT]
 |succ m ih=>
  intro f j h hf;obtain⟨q,rfl⟩:=fu hf;have hj:j<fs.length:=by have:=hF.lt;omega
  rw[mj,aS hj,iT,aB hj,bS,beq_eq_false_iff_ne.2 (hF.no j hj (by omega)),iF,aq hj hn];exact ih q (j+1) (by omega) (by omega)
theorem acV{fs:List ae}(hn:fs.length<1000000000){id:Int}(hF:∀(q:Nat) (h:q<fs.length),fs[q].id≠id):∀(m f j:Nat),j+m=fs.length→m<f→
  ∃g,mj fs id f (j:Int)=some (g,false):=by
 intro m;induction m with
 |zero=>
  intro f j h hf;obtain⟨q,rfl⟩:=fu hf;rw[mj,FE (by omega),iF];exact⟨_,rfl⟩
 |succ m ih=>
  intro f j h hf;obtain⟨q,rfl⟩:=fu hf;have hj:j<fs.length:=by omega
  rw[mj,aS hj,iT,aB hj,bS,beq_eq_false_iff_ne.2 (hF j hj),iF,aq hj hn];exact ih q (j+1) (by omega) (by omega)
theorem yD{fs:List ae}(hn:fs.length<1000000000){id:Int}{i:Nat}(hF:RN fs id i):rk fs id=some (fs[i]'hF.lt,true):=by
 have h:=adK hn hF i aH 0 (by omega) (by rw[Hl];have:=hF.lt;omega);exact h
theorem CA{fs:List ae}(hn:fs.length<1000000000){id:Int}(hF:∀(q:Nat) (h:q<fs.length),fs[q].id≠id):∃g,rk fs id=some (g,false):=by
 obtain⟨g,h⟩:=acV hn hF fs.length aH 0 (by omega) (by rw[Hl];omega);exact⟨g,h⟩
def IV(a b:bi):Bool:=(a.source==b.source)&&(((a.transform.kind==b.transform.kind)&&((a.transform.param==b.transform.param)&&true))&&true)
theorem NR(a b:bi):IV a b=true↔a=b:=by
 obtain⟨s,k,p⟩:=a;obtain⟨s2,k2,p2⟩:=b;simp[IV,and_assoc]
theorem S9(a b:bi):IV a b=IV b a:=by
 rw[Bool.eq_iff_iff,NR,NR];exact eq_comm
theorem aeN{l:List bi}(hn:l.length<1000000000)(e:bi):∀(m f j:Nat),j+m=l.length→m<f→∃r,bF l e f (j:Int)=some r∧decide ((0:Int)≤r)=(l.drop j).any (IV e):=by
 intro m;induction m with
 |zero=>
  intro f j h hf;obtain⟨q,rfl⟩:=fu hf;rw[bF,FE (by omega),iF];exact⟨-1,rfl,by rw[List.drop_of_length_le (by omega)];rfl⟩
 |succ m ih=>
  intro f j h hf;obtain⟨q,rfl⟩:=fu hf;have hj:j<l.length:=by omega
  rw[bF,aS hj,iT,aB hj,bS,bS,List.drop_eq_getElem_cons hj,List.any_cons];show∃r,ak (IV e l[j]) _ _=_∧_;cases hb:IV e l[j]with
  |true=>exact⟨_,rfl,by simp⟩
  |false=>
   rw[iF,aq hj hn];exact ih q (j+1) (by omega) (by omega)
theorem ZW{l:List bi}(hn:l.length<1000000000)(e:bi):dG l e=some (l.any (IV e)):=by
 unfold dG gk;obtain⟨r,h1,h2⟩:=aeN hn e l.length aH 0 (by omega) (by rw[Hl];omega);rw[show((0:Nat):Int)=0 from rfl]at h1;rw[h1,bS,h2];rfl
theorem ae6{p:cg}(hn:p.fields.length<1000000000)(rec1:Int→Option Int)(x1:Nat)(hx:x1≤p.fields.length)(e:bi):∀(m f j:Nat),j+m=x1→m<f→
  og rec1 p (x1:Int) e f (j:Int)=if((p.fields.take x1).drop j).any (IV e)=true then some 5 else xm rec1 (x1:Int):=by
 intro m;induction m with
 |zero=>
  intro f j h hf;obtain⟨q,rfl⟩:=fu hf;rw[og,FE (by omega),iF,List.drop_of_length_le (by rw[List.length_take];omega)];rfl
 |succ m ih=>
  intro f j h hf;obtain⟨q,rfl⟩:=fu hf;have hj:j<p.fields.length:=by omega
  have hj2:j<(p.fields.take x1).length:=by rw[List.length_take];omega
  rw[og,aS (show j<x1 by omega),iT,aB hj,bS,bS,List.drop_eq_getElem_cons hj2,List.any_cons];rw[show(p.fields.take x1)[j]=p.fields[j] by simp];show ak (IV p.fields[j] e) _ _=_;rw[S9];cases hb:IV e p.fields[j]with
  |true=>simp[iT]
  |false=>
   rw[iF,aq (show j<x1 by omega) (by omega),ih q (j+1) (by omega) (by omega)];simp
theorem Rg{p:cg}{fs:List ae}(hp:p.fields.length<1000000000)(hf:dt fs<1000000000):∀(m f j:Nat),j+m=p.fields.length→m<f→
  ∃c,mP p fs f (j:Int)=some c∧jE p fs f (j:Int)=some c∧(c=0→∀(k:Nat) (h:k<p.fields.length),j≤k→∃i,RN fs p.fields[k].source i):=by
 have hn:fs.length<1000000000:=by have:=bX fs;omega
 intro m;induction m with
 |zero=>
  intro f j h hq;obtain⟨q,rfl⟩:=fu hq;refine⟨0,?_,?_,fun _ k hk hj=>by omega⟩
  ·rw[mP,FE (by omega),iF];rfl
  ·rw[jE,FE (by omega),iF];rfl
 |succ m ih=>
  intro f j h hq;obtain⟨q,rfl⟩:=fu hq;have hj:j<p.fields.length:=by omega
  rw[mP,jE,aS hj,iT,iT,aB hj,bS,bS];rcases RN.or fs p.fields[j].source with⟨i,hi⟩ |hi
  ·rw[Dt hn hi,yD hn hi,bS,bS];have hs:jm (fs[i]'hi.lt).type<1000000000:=by
    have h1:=io (gd hi.lt);have h2:=gy (fs[i]'hi.lt);omega
   obtain⟨e,he,t1,t2⟩:=tt p.fields[j].transform (fs[i]'hi.lt).type hs;rw[show decide ((i:Int)<0)=false from by simp,iF,aB hi.lt,bS,t1,bS];show∃c,_∧ak (!true) _ _=_∧_;rw[Bool.not_true,iF];show∃c,_∧am (fR p.fields[j].transform (fs[i]'hi.lt).type) _=_∧_;rw[t2,bS];by_cases hz:(Kt p.fields[j].transform (fs[i]'hi.lt).type e).2=0
   ·rw[hz,show((0:Int) != 0)=false from rfl,iF,iF,gP ⟨by omega,by omega,by omega⟩];have hd:(List.take ((j:Int).toNat-(0:Int).toNat) (List.drop (0:Int).toNat p.fields))=p.fields.take j:=by simp
    rw[hd,ZW (by rw[List.length_take];omega),bS];have hr:=ae6 hp (jE p fs q) j (by omega) p.fields[j] j aH 0 (by omega) (by rw[Hl];omega);rw[show((0:Nat):Int)=0 from rfl,List.drop_zero]at hr;rw[hr];cases hb:(p.fields.take j).any (IV p.fields[j])with
    |true=>exact⟨5,rfl,rfl,fun h=>absurd h (by decide)⟩
    |false=>
     obtain⟨c,c1,c2,c3⟩:=ih q (j+1) (by omega) (by omega);refine⟨c,by rw[iF,aq hj hp];exact c1,by
      rw[if_neg (by decide)];unfold xm;rw[aq hj hp];exact c2,fun hc k hk hjk=> ?_⟩
     by_cases e:k=j
     ·subst e;exact⟨i,hi⟩
     ·exact c3 hc k hk (by omega)
   ·have hne:((Kt p.fields[j].transform (fs[i]'hi.lt).type e).2 != 0)=true:=bne_iff_ne.2 hz;rw[hne,iT,iT];exact⟨_,rfl,rfl,fun h=>absurd h hz⟩
  ·obtain⟨g,hg⟩:=CA hn hi;rw[Dn hn hi,hg,bS,bS,show decide ((-1:Int)<0)=true from rfl,iT];exact⟨9,rfl,rfl,fun h=>absurd h (by decide)⟩
theorem Pv(p:cg){fs:List ae}(hp:p.fields.length<1000000000)(hf:dt fs<1000000000):∃c,ux p fs=some c∧rL p fs=some c∧(c=0→∀(k:Nat) (h:k<p.fields.length),∃i,RN fs p.fields[k].source i):=by
 unfold ux rL;cases hb:decide ((4:Int)<(p.fields.length:Int))with
 |true=>exact⟨7,rfl,rfl,fun h=>absurd h (by decide)⟩
 |false=>
  rw[iF,iF];obtain⟨c,h1,h2,h3⟩:=Rg (p:=p) hp hf p.fields.length aH 0 (by omega) (by rw[Hl];omega);exact⟨c,h1,h2,fun hc k hk=>h3 hc k hk (Nat.zero_le _)⟩
def ee(e:Int)(f:Option Int):Option Int:=if e≠0 then some e else f
def qF(a b:Int):Int:=if a≠0 then a else b
def er(b:Bool)(e:Int):Int:=if b then e else 0
theorem js(e:Int)(f:Option Int):ak (e != (0:Int)) (some e) f=ee e f:=by
 unfold ee;by_cases h:e=0<;>simp[h,aD]
theorem eF{b:Bool}{e:Int}(he:e≠0)(f:Option Int):ak b (some e) f=ee (er b e) f:=by
 unfold ee er;cases b<;>simp[he,aD]
theorem bG(a b:Int)(f:Option Int):ee a (ee b f)=ee (qF a b) f:=by
 unfold ee qF;by_cases h:a=0<;>simp[h]
theorem eQ(a:Int):ee a (some 0)=some a:=by unfold ee;by_cases h:a=0<;>simp[h]
theorem Aq(a b:Int):ee a (some b)=some (qF a b):=by unfold ee qF;by_cases h:a=0<;>simp[h]
theorem sM{a b:Int}:qF a b=0↔a=0∧b=0:=by unfold qF;by_cases h:a=0<;>simp[h]
theorem Hh{b:Bool}{e:Int}(he:e≠0):er b e=0↔b=false:=by unfold er;cases b<;>simp[he]
theorem RD(e:Int):er true e=e:=rfl
theorem NY(e:Int):er false e=0:=rfl
theorem Pq(b:Int):qF 0 b=b:=rfl
theorem Ql{a:Int}(h:a≠0)(b:Int):qF a b=a:=by unfold qF;rw[if_pos h]
def fe(c:Nat→Int):Nat→Nat→Int
 |0,_=>0
 |m+1,i=>qF (c i) (fe c m (i+1))
theorem Xh{c:Nat→Int}:∀{m i:Nat},fe c m i=0↔∀j,i≤j→j<i+m→c j=0
 |0,i=>by simp[fe];intro j h1 h2;omega
 |m+1,i=>by
  rw[fe,sM,Xh (m:=m)];constructor
  ·rintro⟨h1,h2⟩ j h3 h4;by_cases e:j=i
   ·subst e;exact h1
   ·exact h2 j (by omega) (by omega)
  ·exact fun h=>⟨h i (iO _) (by omega),fun j h1 h2=>h j (by omega) (by omega)⟩
theorem RY{n:Nat}{L:Nat→Int→Option Int}{fin:Option Int}{c:Nat→Int}(h0:∀k,L (k+1) (n:Int)=fin)(h1:∀k i,i<n→L (k+1) (i:Int)=ee (c i) (L k ((i+1:Nat):Int))):
  ∀m k i,i+m=n→m<k→L k (i:Int)=ee (fe c m i) fin
 |0,k,i,hi,hk=>by
  obtain⟨k,rfl⟩:=fu hk;have:i=n:=by omega
  subst this;rw[h0];rfl
 |m+1,k,i,hi,hk=>by
  obtain⟨k,rfl⟩:=fu hk;rw[h1 k i (by omega),RY h0 h1 m k (i+1) (by omega) (by omega),bG];rfl
theorem jg{n:Nat}{L:Nat→Int→Option Int}{fin:Option Int}{c:Nat→Int}(hn:n<1000000000)(h0:∀k,L (k+1) (n:Int)=fin)(h1:∀k i,i<n→L (k+1) (i:Int)=ee (c i) (L k ((i+1:Nat):Int))):
  L aH (0:Int)=ee (fe c n 0) fin:=
 RY h0 h1 n aH 0 (by omega) (by rw[aF];omega)
def lu(p:Nat→Bool)(n:Nat):Bool:=(List.range n).any p
theorem dO{p:Nat→Bool}{n:Nat}:lu p n=true↔∃j,j<n∧p j=true:=by
 unfold lu;rw[List.any_eq_true];simp[List.mem_range]
theorem wl(n:Nat):decide ((n:Int)<(n:Int))=false:=by simp
theorem lm{a b:Bool}(h:a=true↔b=true):a=b:=Bool.eq_iff_iff.2 h
theorem Pe{n:Nat}{L:Nat→Int→Option Int}{p:Nat→Bool}(h0:∀k,L (k+1) (n:Int)=some (-1))(h1:∀k i,i<n→L (k+1) (i:Int)=ak (p i) (some (i:Int)) (L k ((i+1:Nat):Int))):
  ∀m k i,i+m=n→m<k→∃r,L k (i:Int)=some r∧(decide ((0:Int)≤r)=true↔∃j,i≤j∧j<n∧p j=true)
 |0,k,i,hi,hk=>by
  obtain⟨k,rfl⟩:=fu hk;have:i=n:=by omega
  subst this;exact⟨-1,h0 k,by simp;intro j h1 h2;omega⟩
 |m+1,k,i,hi,hk=>by
  obtain⟨k,rfl⟩:=fu hk;rw[h1 k i (by omega)];cases hp:p i with
  |true=>exact⟨i,rfl,by simp;exact⟨i,iO _,by omega,hp⟩⟩
  |false=>
   obtain⟨r,e1,e2⟩:=Pe h0 h1 m k (i+1) (by omega) (by omega);refine⟨r,e1,e2.trans ⟨fun⟨j,a,b,c⟩=>⟨j,by omega,b,c⟩,fun⟨j,a,b,c⟩=>⟨j,?_,b,c⟩⟩⟩;by_cases e:j=i
   ·subst e;rw[hp]at c;cases c
   ·omega
theorem SP{n:Nat}{L:Nat→Int→Option Int}{p:Nat→Bool}(hn:n<1000000000)(h0:∀k,L (k+1) (n:Int)=some (-1))(h1:∀k i,i<n→L (k+1) (i:Int)=ak (p i) (some (i:Int)) (L k ((i+1:Nat):Int))):
  ∃r,L aH (0:Int)=some r∧decide ((0:Int)≤r)=lu p n:=by
 obtain⟨r,e1,e2⟩:=Pe h0 h1 n aH 0 (by omega) (by rw[aF];omega);refine⟨r,e1,lm (e2.trans (Iff.trans ?_ dO.symm))⟩;exact⟨fun⟨j,_,b,c⟩=>⟨j,b,c⟩,fun⟨j,b,c⟩=>⟨j,Nat.zero_le _,b,c⟩⟩
theorem NU{n:Nat}{L:Nat→Int→Option Bool}{p:Nat→Bool}(h0:∀k,L (k+1) (n:Int)=some true)(h1:∀k i,i<n→L (k+1) (i:Int)=ak (p i) (some false) (L k ((i+1:Nat):Int))):
  ∀m k i,i+m=n→m<k→∃b,L k (i:Int)=some b∧(b=true↔∀j,i≤j→j<n→p j=false)
 |0,k,i,hi,hk=>by
  obtain⟨k,rfl⟩:=fu hk;have:i=n:=by omega
  subst this;exact⟨true,h0 k,by simp;intro j h1 h2;omega⟩
 |m+1,k,i,hi,hk=>by
  obtain⟨k,rfl⟩:=fu hk;rw[h1 k i (by omega)];cases hp:p i with
  |true=>
   refine⟨false,rfl,by simp;exact⟨i,iO _,by omega,hp⟩⟩
  |false=>
   obtain⟨b,e1,e2⟩:=NU h0 h1 m k (i+1) (by omega) (by omega);refine⟨b,e1,e2.trans ⟨fun h j a b=> ?_,fun h j a b=>h j (by omega) b⟩⟩;by_cases e:j=i
   ·subst e;exact hp
   ·exact h j (by omega) b
def X9(p:Nat→Bool)(n:Nat):Bool:= !lu p n
theorem UF{p:Nat→Bool}{n:Nat}:X9 p n=true↔∀j,j<n→p j=false:=by
 unfold X9;rw[Bool.not_eq_true',←Bool.not_eq_true,dO];constructor
 ·intro h j b;cases hp:p j with
  |false=>rfl
  |true=>exact absurd ⟨j,b,hp⟩ h
 ·rintro h ⟨j,b,c⟩;rw[h j b]at c;cases c
theorem R7{n:Nat}{L:Nat→Int→Option Bool}{p:Nat→Bool}(hn:n<1000000000)(h0:∀k,L (k+1) (n:Int)=some true)(h1:∀k i,i<n→L (k+1) (i:Int)=ak (p i) (some false) (L k ((i+1:Nat):Int))):
  L aH (0:Int)=some (X9 p n):=by
 obtain⟨b,e1,e2⟩:=NU h0 h1 n aH 0 (by omega) (by rw[aF];omega);rw[show((0:Nat):Int)=0 from rfl]at e1;rw[e1];congr 1;refine lm (e2.trans (Iff.trans ?_ UF.symm));exact⟨fun h j b=>h j (Nat.zero_le _) b,fun h j _ b=>h j b⟩
theorem tO{α:Type}{xs:List α}{i:Nat}(h:i<xs.length)(h0:0<i)(hn:xs.length<1000000000):at? xs (i64.wrap ((i:Int)-1))=some (xs[i-1]'(by omega)):=by
 rw[j9 (by omega) (by omega),show((i:Int)-1)=((i-1:Nat):Int) by omega];exact aB (by omega)
theorem mz{n:Nat}(hn:n<1000000000):i64.wrap ((n:Int)-1)=(n:Int)-1:=j9 (by omega) (by omega)
end Go.Proofs.YtpiohnabdhpphaaGreatDoor
namespace Go.Proofs.YtpiohnabdhpphaaGreatDoor
open Go Go.SX Go.SX.Cal Go.Lib
open Go.IntKind (i64)
def zJ:ByteArray:=ByteArray.mk #[95,45,46,47]
def sign(n:Nat):Bool:=n==95||n==45||n==46||n==47
def NZ(n:Nat):Bool:=vE n||(decide (48≤n)&&decide (n≤57))||sign n
theorem abp:∀n:Fin 128,decide (Lib.indexByte [95,45,46,47] (n.val:Int).toNat.toUInt8<0)= !sign n.val:=by decide
theorem Pb:∀(l:List UInt8) (c:UInt8),(∀b∈l,b≠c)→Lib.indexByte l c= -1
 |[],_,_=>rfl
 |b::l,c,h=>by
  have h1:(b==c)=false:=by simp[h b (by simp)]
  rw[Lib.indexByte,h1,if_neg (by decide),Pb l c fun x hx=>h x (by simp[hx])];rfl
theorem UL(n:Nat):l9 (n:Int)=some (Utf8.valid (n:Int)):=by
 unfold l9 kg ki Utf8.valid;by_cases h1:n<55296
 ·have:(0:Int)≤(n:Int):=by omega
  simp[aD,this,h1,show(n:Int)<55296 by omega]
 ·by_cases h2:57344≤n
  ·by_cases h3:n≤1114111
   ·simp[aD,show¬(n:Int)<55296 by omega,show(57343:Int)<n by omega,show(n:Int)≤1114111 by omega,show(57344:Int)≤n by omega]
   ·simp[aD,show¬(n:Int)<55296 by omega,show(57343:Int)<n by omega,show¬(n:Int)≤1114111 by omega]
  ·simp[aD,show¬(n:Int)<55296 by omega,show¬(57343:Int)<n by omega,show¬(57344:Int)≤n by omega]
theorem TK:∀b∈zJ.data.toList,b.toNat<128:=by decide
theorem abo(b:ByteArray)(i:Nat)(h:i<b.size):b.data.toList.getD i 0=b[i]'h:=by
 have hd:i<b.data.toList.length:=by rw[Array.length_toList];exact h
 rw[List.getD_eq_getElem?_getD,dK hd];rfl
theorem YP(E:ByteArray)(n k:Nat)(z:Nat)(hz:E.size=z)(f1:2≤z)(f2:z≤4)(f4:128≤(E.data.toList.getD (z-1) 0).toNat)(he:Utf8.encode (n:Int)=E):jn zJ (n:Int) (k+1)=some (-1):=by
 rw[jn.eq_2,he];clear he;have hw:i64.wrap ((z:Int)-1)=((z-1:Nat):Int):=by rw[j9 (by omega) (by omega)];omega
 have hin:∀j,j<4→(zJ.data.toList.getD j 0).toNat<128:=by decide
 simp only[hz,hw];rw[bS,decide_eq_true (show((z-1:Nat):Int)<(zJ.size:Int) by show _<(4:Int);omega),iT,gP ⟨by omega,by show _<(4:Int);omega⟩,bS,gP ⟨by omega,by omega⟩,bS];have ht:((z-1:Nat):Int).toNat=z-1:=by omega
 rw[ht];have hne:(((zJ.data.toList.getD (z-1) 0).toNat:Int) != ((E.data.toList.getD (z-1) 0).toNat:Int))=true:=by
  have a:=hin (z-1) (by omega);rw[bne_iff_ne];omega
 rw[hne,iT];have hw2:i64.wrap (((z-1:Nat):Int)+1)=(z:Int):=by rw[j9 (by omega) (by omega)];omega
 rw[bS,hw2,gP ⟨by omega,by show _≤(4:Int);omega,Int.le_refl _⟩,gP ⟨by omega,by omega⟩,bS];unfold strings_IndexByte;rw[Pb _ _ fun b hb e=> ?_]
 ·rfl
 ·have hb':b∈zJ.data.toList:=by
   have:b∈(zJ.extract z 4).data.toList:=hb;rw[ByteArray.data_extract,Array.toList_extract]at this;exact List.mem_of_mem_drop (List.mem_of_mem_take this)
  have h1:=TK b hb';have h2:((E.data.toList.getD (z-1) 0).toNat:Int).toNat.toUInt8=E.data.toList.getD (z-1) 0:=by
   rw[Int.toNat_natCast];simp
  rw[h2]at e;rw[e]at h1;omega
theorem Z1(n k:Nat)(h:128≤n)(hv:Utf8.valid (n:Int)=true):jn zJ (n:Int) (k+1)=some (-1):=by
 obtain⟨f1,f2,f3⟩:=encode_facts (n:Int) hv (by omega);have f3:=f3 (by omega);obtain⟨z,hz⟩:∃z,(Utf8.encode (n:Int)).size=z:=⟨_,rfl⟩
 have f4:128≤((Utf8.encode (n:Int)).data.toList.getD (z-1) 0).toNat:=by
  subst hz;rw[abo _ _ (by omega)];exact f3
 rw[hz]at f1 f2;exact YP _ n k z hz f1 f2 f4 rfl
theorem ZV(n:Nat)(h:128≤n):fJ zJ (n:Int)=some (-1):=by
 unfold fJ lf;rw[decide_eq_true (show(0:Int)≤n by omega),iT,decide_eq_false (show¬(n:Int)<128 by omega),iF];by_cases h1:n=65533
 ·subst h1;rw[show(((65533:Nat):Int)==65533)=true from rfl,iT];show lg zJ (1152921504606846971+5) 0=_;generalize 1152921504606846971=k;rfl
 ·rw[show((n:Int)==65533)=false by simp;omega,iF,UL,bS];cases hv:Utf8.valid (n:Int)with
  |false=>rfl
  |true=>
   rw[Bool.not_true,iF,Hl];exact Z1 n _ h hv
theorem aaj(n:Nat):∃r,fJ zJ (n:Int)=some r∧decide (r<0)= !sign n:=by
 by_cases h:n<128
 ·unfold fJ lf strings_IndexByte;rw[decide_eq_true (show(0:Int)≤n by omega),iT,decide_eq_true (show(n:Int)<128 by omega),iT,bS];refine⟨_,rfl,?_⟩;have hw:IntKind.u8.wrap (n:Int)=(n:Int):=by
   unfold IntKind.wrap;simp[IntKind.bits,IntKind.signed];omega
  rw[hw];exact abp ⟨n,h⟩
 ·refine⟨-1,ZV n (by omega),?_⟩;simp[sign];omega
theorem Yi(n:Nat):pq (Int.ofNat n)=some (!NZ n):=by
 obtain⟨r,h1,h2⟩:=aaj n;have h1:fJ (ByteArray.mk #[95,45,46,47]) (Int.ofNat n)=some r:=h1;unfold pq d9;rw[h1];simp only[bS,h2,aD,decide_eq_true_eq,Int.ofNat_eq_natCast];generalize hs:sign n=s;unfold NZ vE;rw[hs];repeat' split
 all_goals (rw[eJ,Bool.eq_iff_iff];cases s<;>simp<;>omega)
def Jn(s:ByteArray)(i:Nat):Bool:= !NZ (nu s i)
theorem aaK(s:ByteArray):∀k i,i≤s.size→s.size-i<k→∃r,cf s true k i=some r∧(decide (0≤r)=(first (Jn s) i s.size).isSome):=by
 intro k;induction k with
 |zero=>intro i _ h;omega
 |succ k ih=>
  intro i hi hk;rw[cf];by_cases h:i=s.size
  ·subst h;rw[uq];simp only[Nat.lt_irrefl,decide_false,ai];exact⟨-1,rfl,rfl⟩
  ·have hlt:i<s.size:=by omega
   simp only[hlt,decide_true,ap,Yi,ay];rw[uc hlt];by_cases hb:nu s i<128
   ·rw[Hs s i hlt hb];simp only[Jn];by_cases hg:NZ (nu s i)=true
    ·simp only[hg,Bool.not_true,aD];obtain⟨r,h1,h2⟩:=ih (i+1) (by omega) (by omega);exact⟨r,by simpa using h1,by simpa [Jn]using h2⟩
    ·simp only[hg,Bool.not_false,aD];exact⟨_,rfl,by simp⟩
   ·have h1:=Ic s i hlt hb;have g1:NZ (Utf8.decode s i).1=false:=by
     generalize (Utf8.decode s i).1=x at h1;simp[NZ,vE,sign];omega
    have g2:Jn s i=true:=by
     simp[Jn,NZ,vE,sign];omega
    simp only[g1,g2,Bool.not_false,aD];exact⟨_,rfl,by simp⟩
def Od(s:ByteArray):Bool:=decide (1≤s.size)&&decide (s.size≤64)&&(first (Jn s) 0 s.size).isNone
theorem aey(s:ByteArray)(hs:s.size<1000000000):si s=some (Od s):=by
 obtain⟨r,h1,h2⟩:=aaK s aH 0 (Nat.zero_le _) (by rw[aF];omega);unfold si oB fO gw gr Od;rw[h1,bS,bS,bS,h2];by_cases z0:s.size<1
 ·simp[aD,z0,show(s.size:Int)<1 by omega];omega
 ·by_cases z1:64<s.size
  ·simp[aD,z0,show¬(s.size:Int)<1 by omega,show(64:Int)<s.size by omega];omega
  ·simp only[aD,show¬(s.size:Int)<1 by omega,show¬(64:Int)<s.size by omega,decide_false,Bool.false_eq_true,if_false,show 1≤s.size by omega,show s.size≤64 by omega,decide_true,Bool.true_and];cases first (Jn s) 0 s.size<;>rfl
theorem V7(s:ByteArray)(hs:s.size<1000000000)(k i:Nat)(hi:i<s.size):bo s (k+1) (i:Int)=if Jn s i=true then some false else bo s k ((i+1:Nat):Int):=by
 rw[bo,←aD];have hb:((s.data.toList.getD (i:Int).toNat 0).toNat:Int)=(nu s i:Int):=rfl;have hw:i64.wrap ((i:Int)+1)=((i+1:Nat):Int):=by rw[j9 (by omega) (by omega)];omega
 have hg:0≤(i:Int)∧(i:Int)<(s.size:Int):=by omega
 rw[show decide ((i:Int)<(s.size:Int))=true by simp[hg.2],ap];simp only[cr,zg,hb,hw,ay,bh hg];have e1:((nu s i:Int)==95)=(nu s i==95):=by rw[Bool.eq_iff_iff];simp;omega
 have e2:(decide ((97:Int)≤nu s i))=decide (97≤nu s i):=by rw[Bool.eq_iff_iff];simp;omega
 have e3:(decide ((nu s i:Int)≤122))=decide (nu s i≤122):=by rw[Bool.eq_iff_iff];simp;omega
 have e4:(decide ((48:Int)≤nu s i))=decide (48≤nu s i):=by rw[Bool.eq_iff_iff];simp;omega
 have e5:(decide ((nu s i:Int)≤57))=decide (nu s i≤57):=by rw[Bool.eq_iff_iff];simp;omega
 have e6:((nu s i:Int)==46)=(nu s i==46):=by rw[Bool.eq_iff_iff];simp;omega
 have e7:((nu s i:Int)==45)=(nu s i==45):=by rw[Bool.eq_iff_iff];simp;omega
 have e8:((nu s i:Int)==47)=(nu s i==47):=by rw[Bool.eq_iff_iff];simp;omega
 simp only[e1,e2,e3,e4,e5,e6,e7,e8,Jn,NZ,vE,sign];generalize hq:bo s k ((i+1:Nat):Int)=q;generalize (nu s i==95)=b1;generalize decide (97≤nu s i)=b2;generalize decide (nu s i≤122)=b3;generalize decide (48≤nu s i)=b4;generalize decide (nu s i≤57)=b5;generalize (nu s i==46)=b6;generalize (nu s i==45)=b7;generalize (nu s i==47)=b8;cases b1<;>cases b2<;>cases b3<;>cases b4<;>cases b5<;>cases b6<;>cases b7<;>cases b8<;>rfl
theorem aeK(s:ByteArray)(hs:s.size<1000000000):Av s=some (Od s):=by
 have hl:=ul (f:=fun k i=>bo s k (i:Int)) (n:=s.size) (P:=Jn s) (A:=fun _=>some false) (B:=some true) (fun k i hi=>V7 s hs k i hi)
  (fun k=>by rw[bo];simp only[Int.lt_irrefl,decide_false,ai];rfl) aH 0 (Nat.zero_le _) (by rw[aF];omega)
 have hl:bo s aH (0:Int)=_:=hl;unfold Av vG Od;rw[hl];by_cases z0:s.size<1
 ·simp[aD,z0,show(s.size:Int)<1 by omega];omega
 ·by_cases z1:64<s.size
  ·simp[aD,z0,show¬(s.size:Int)<1 by omega,show(64:Int)<s.size by omega];omega
  ·simp only[aD,show¬(s.size:Int)<1 by omega,show¬(64:Int)<s.size by omega,decide_false,Bool.false_eq_true,if_false,show 1≤s.size by omega,show s.size≤64 by omega,decide_true,Bool.true_and];cases first (Jn s) 0 s.size<;>rfl
end Go.Proofs.YtpiohnabdhpphaaGreatDoor
namespace Go.Proofs.YtpiohnabdhpphaaGreatDoor.Ord
open Go Go.SX Go.SX.Cal
open Go.IntKind (i64)
theorem ap{β:Type}(x y:Option β):ak true x y=x:=rfl
theorem ai{β:Type}(x y:Option β):ak false x y=y:=rfl
theorem aD{β:Type}(b:Bool)(x y:Option β):ak b x y=if b=true then x else y:=by cases b<;>rfl
theorem aF:aH=1152921504606846976:=rfl
theorem wu{x:Int}:IntKind.u64.wrap x=x%18446744073709551616:=by
 simp only[IntKind.wrap,IntKind.bits,IntKind.signed];simp
structure W4(w:bw):Prop where
 a0:0≤w.size.1
 a1:w.size.1<18446744073709551616
 b0:0≤w.size.2.1
 b1:w.size.2.1<18446744073709551616
 c0:0≤w.size.2.2.1
 c1:w.size.2.2.1<18446744073709551616
 d0:0≤w.size.2.2.2
 d1:w.size.2.2.2<18446744073709551616
def val(w:bw):Int:=w.size.1+w.size.2.1*18446744073709551616+w.size.2.2.1*340282366920938463463374607431768211456+w.size.2.2.2*6277101735386680763835789423207666416102355444464034512896
theorem Fc{x:Int}(h0:0≤x)(h1:x<18446744073709551616):((BitVec.ofInt (IntKind.u64).bits x &&& BitVec.ofInt (IntKind.u64).bits (4294967295:Int)).toNat:Int)=x%4294967296:=by
 have e:(BitVec.ofInt 64 x).toNat=x.toNat:=by
  rw[BitVec.toNat_ofInt];have:x%((2^64:Nat):Int)=x:=by omega
  rw[this]
 have hand:(BitVec.ofInt 64 x &&& BitVec.ofInt 64 (4294967295:Int)).toNat=x.toNat%4294967296:=by
  rw[BitVec.toNat_and,e];have:(BitVec.ofInt 64 (4294967295:Int)).toNat=2^32-1:=by decide
  rw[this,Nat.and_two_pow_sub_one_eq_mod]
 show((BitVec.ofInt 64 x &&& BitVec.ofInt 64 (4294967295:Int)).toNat:Int)=_;rw[hand];omega
theorem aaf(x:Int):x.fdiv (2^(min (32:Int).toNat (IntKind.u64).bits))=x/4294967296:=by
 have:(2:Int)^(min (32:Int).toNat (IntKind.u64).bits)=4294967296:=by decide
 rw[this,Int.fdiv_eq_ediv_of_nonneg _ (by decide)]
theorem Je{x:Int}(h0:0≤x)(h1:x<18446744073709551616):x%18446744073709551616=x:=Int.emod_eq_of_lt h0 h1
theorem prod_bound{a b:Int}(a0:0≤a)(a1:a<4294967296)(b0:0≤b)(b1:b<4294967296):0≤a*b∧a*b≤18446744065119617025:=by
 refine⟨Int.mul_nonneg a0 b0,?_⟩;have h1:a*b≤4294967295*b:=Int.mul_le_mul_of_nonneg_right (by omega) b0;omega
theorem Nf(p11 cw p01 p00:Int)(h11:0≤p11∧p11≤18446744065119617025)(h10:0≤cw∧cw≤18446744065119617025)(h01:0≤p01∧p01≤18446744065119617025)(h00:0≤p00∧p00≤18446744065119617025):
  p11+(cw+p00/4294967296)/4294967296+((cw+p00/4294967296)%4294967296+p01)/4294967296=(p11*18446744073709551616+(cw+p01)*4294967296+p00)/18446744073709551616:=by
 omega
theorem B9{x y:Int}(h0:0≤x)(h1:x<18446744073709551616)(k0:0≤y)(k1:y<18446744073709551616):iX x y=some (x*y/18446744073709551616,x*y%18446744073709551616):=by
 unfold iX;simp only[ay,aaf];rw[Fc h0 h1,Fc k0 k1];simp only[wu];have hx0:0≤x%4294967296∧x%4294967296<4294967296:=by omega
 have hx1:0≤x/4294967296∧x/4294967296<4294967296:=by omega
 have hy0:0≤y%4294967296∧y%4294967296<4294967296:=by omega
 have hy1:0≤y/4294967296∧y/4294967296<4294967296:=by omega
 have ex:x=x/4294967296*4294967296+x%4294967296:=by omega
 have ey:y=y/4294967296*4294967296+y%4294967296:=by omega
 have exy:x*y=(x/4294967296*(y/4294967296))*18446744073709551616+(x/4294967296*(y%4294967296)+x%4294967296*(y/4294967296))*4294967296+x%4294967296*(y%4294967296):=by
  generalize x/4294967296=x1 at*;generalize x%4294967296=x0 at*;generalize y/4294967296=y1 at*;generalize y%4294967296=y0 at*;rw[ex,ey];simp only[Int.add_mul,Int.mul_add];have e1:x1*4294967296*(y1*4294967296)=x1*y1*18446744073709551616:=by
   rw[Int.mul_assoc,Int.mul_left_comm 4294967296 y1,←Int.mul_assoc];rfl
  have e2:x1*4294967296*y0=x1*y0*4294967296:=by rw[Int.mul_assoc,Int.mul_comm 4294967296,←Int.mul_assoc]
  have e3:x0*(y1*4294967296)=x0*y1*4294967296:=by rw[Int.mul_assoc]
  rw[e1,e2,e3];omega
 have b11:=prod_bound hx1.1 hx1.2 hy1.1 hy1.2;have b10:=prod_bound hx1.1 hx1.2 hy0.1 hy0.2;have b01:=prod_bound hx0.1 hx0.2 hy1.1 hy1.2;have b00:=prod_bound hx0.1 hx0.2 hy0.1 hy0.2;rw[Je (x:=x%4294967296) (by omega) (by omega),Je (x:=y%4294967296) (by omega) (by omega)];have L:=Nf _ _ _ _ b11 b10 b01 b00;rw[exy];generalize x/4294967296*(y/4294967296)=p11 at*;generalize x/4294967296*(y%4294967296)=cw at*;generalize x%4294967296*(y/4294967296)=p01 at*;generalize x%4294967296*(y%4294967296)=p00 at*;rw[Je (x:=cw) (by omega) (by omega),Je (x:=p00) (by omega) (by omega),Je (x:=p01) (by omega) (by omega),Je (x:=p11) (by omega) (by omega),Je (x:=cw+p00/4294967296) (by omega) (by omega)];rw[Fc (x:=cw+p00/4294967296) (by omega) (by omega)];rw[Je (x:=(cw+p00/4294967296)%4294967296) (by omega) (by omega),Je (x:=(cw+p00/4294967296)%4294967296+p01) (by omega) (by omega)];rw[Je (x:=p11+(cw+p00/4294967296)/4294967296) (by omega) (by omega),Je (x:=p11+(cw+p00/4294967296)/4294967296+((cw+p00/4294967296)%4294967296+p01)/4294967296) (by omega) (by omega),L]
theorem sj{x n c:Int}(h0:0≤x)(h1:x<18446744073709551616)(n0:0≤n)(n1:n<18446744073709551616)(c0:0≤c)(c1:c<18446744073709551616):
  (x*n/18446744073709551616+(x*n%18446744073709551616+c)/18446744073709551616)%18446744073709551616=(x*n+c)/18446744073709551616∧(x*n%18446744073709551616+c)%18446744073709551616=(x*n+c)%18446744073709551616∧0≤(x*n+c)/18446744073709551616∧(x*n+c)/18446744073709551616<18446744073709551616:=by
 have hp:0≤x*n:=Int.mul_nonneg h0 n0;have hq:x*n≤18446744073709551615*n:=Int.mul_le_mul_of_nonneg_right (by omega) n0;have hq2:(18446744073709551615:Int)*n≤18446744073709551615*18446744073709551615:=Int.mul_le_mul_of_nonneg_left (by omega) (by decide);have hb:x*n≤340282366920938463426481119284349108225:=by
  refine Int.le_trans hq (Int.le_trans hq2 (by decide))
 generalize x*n=p at*;omega
theorem JQ{w:bw}{n:Int}(h:W4 w)(n0:0≤n)(n1:n<18446744073709551616)(hv:val w*n<115792089237316195423570985008687907853269984665640564039457584007913129639936):
  ∃w',dx w n=some w'∧W4 w'∧val w'=val w*n∧w'.neg=w.neg:=by
 obtain⟨neg,x0,x1,x2,x3⟩:=w;obtain⟨a0,a1,b0,b1,c0,c1,d0,d1⟩:=h;simp only at a0 a1 b0 b1 c0 c1 d0 d1;unfold dx;simp only;rw[B9 a0 a1 n0 n1,B9 b0 b1 n0 n1,B9 c0 c1 n0 n1,B9 d0 d1 n0 n1];simp only[ay,wu];have hval:val ⟨neg,x0,x1,x2,x3⟩*n=x0*n+x1*n*18446744073709551616+x2*n*340282366920938463463374607431768211456+x3*n*6277101735386680763835789423207666416102355444464034512896:=by
  unfold val;simp only[Int.add_mul];rw[Int.mul_right_comm x1,Int.mul_right_comm x2,Int.mul_right_comm x3]
 rw[hval]at hv⊢;obtain⟨p1,p2,p3,p4⟩:=sj (c:=0) a0 a1 n0 n1 (by decide) (by decide);simp only[Int.add_zero]at p1 p2 p3 p4⊢;rw[p1,p2];generalize hc1:x0*n/18446744073709551616=k1 at*;obtain⟨q1,q2,q3,q4⟩:=sj (c:=k1) b0 b1 n0 n1 p3 p4;rw[q1,q2];generalize hc2:(x1*n+k1)/18446744073709551616=k2 at*;obtain⟨r1,r2,r3,r4⟩:=sj (c:=k2) c0 c1 n0 n1 q3 q4;rw[r1,r2];generalize hc3:(x2*n+k2)/18446744073709551616=k3 at*;obtain⟨s1,s2,s3,s4⟩:=sj (c:=k3) d0 d1 n0 n1 r3 r4;rw[s2];have e0:=Int.mul_nonneg a0 n0;have e1:=Int.mul_nonneg b0 n0;have e2:=Int.mul_nonneg c0 n0;have e3:=Int.mul_nonneg d0 n0;clear p1 p2 q1 q2 r1 r2 s1 s2;generalize x0*n=P0 at*;generalize x1*n=P1 at*;generalize x2*n=P2 at*;generalize x3*n=P3 at*;rw[bh (by omega),bh (by omega),bh (by omega),bh (by omega)];refine⟨_,rfl,⟨by simp only;omega,by simp only;omega,by simp only;omega,by simp only;omega,by simp only;omega,by simp only;omega,by simp only;omega,by simp only;omega⟩,?_,rfl⟩;simp only[val];have f0:P0=k1*18446744073709551616+P0%18446744073709551616:=by omega
 have f1:P1+k1=k2*18446744073709551616+(P1+k1)%18446744073709551616:=by omega
 have f2:P2+k2=k3*18446744073709551616+(P2+k2)%18446744073709551616:=by omega
 have f3:P3+k3=(P3+k3)/18446744073709551616*18446744073709551616+(P3+k3)%18446744073709551616:=by omega
 have z:(P3+k3)/18446744073709551616=0:=by
  generalize P0%18446744073709551616=m0 at*;generalize (P1+k1)%18446744073709551616=m1 at*;generalize (P2+k2)%18446744073709551616=m2 at*;omega
 rw[z]at f3;generalize P0%18446744073709551616=m0 at*;generalize (P1+k1)%18446744073709551616=m1 at*;generalize (P2+k2)%18446744073709551616=m2 at*;generalize (P3+k3)%18446744073709551616=m3 at*;omega
def cw:Nat→Int
 |0=>1
 |k+1=>cw k*10
theorem u5:∀k,1≤cw k
 |0=>by decide
 |k+1=>by have:=u5 k;simp only[cw];omega
theorem M9{d:Int}(hd:d≤100):∀(j k:Nat) (neg:Bool) (x0 x1 x2 x3:Int) (i:Int),W4 ⟨neg,x0,x1,x2,x3⟩→val ⟨neg,x0,x1,x2,x3⟩*cw j<115792089237316195423570985008687907853269984665640564039457584007913129639936→0≤val ⟨neg,x0,x1,x2,x3⟩→0≤i→i+j=d→j<k→
  ∃w',de d k neg x0 x1 x2 x3 i=some w'∧W4 w'∧val w'=val ⟨neg,x0,x1,x2,x3⟩*cw j∧w'.neg=neg:=by
 intro j;induction j with
 |zero=>
  intro k neg x0 x1 x2 x3 i hw hv hv0 hi hij hk
  match k,hk with
  |k+1,hk=>
   rw[de,show decide (i<d)=false by simp;omega,ai];exact⟨_,rfl,hw,by simp[cw],rfl⟩
 |succ j ih=>
  intro k neg x0 x1 x2 x3 i hw hv hv0 hi hij hk
  match k,hk with
  |k+1,hk=>
   rw[de,show decide (i<d)=true by simp;omega,ap];have hp:=u5 j;have hstep:val ⟨neg,x0,x1,x2,x3⟩*cw (j+1)=val ⟨neg,x0,x1,x2,x3⟩*10*cw j:=by
    simp only[cw];rw[Int.mul_comm (cw j) 10,Int.mul_assoc]
   have hle:val ⟨neg,x0,x1,x2,x3⟩*10*1≤val ⟨neg,x0,x1,x2,x3⟩*10*cw j:=Int.mul_le_mul_of_nonneg_left hp (by omega);obtain⟨w1,h1,h2,h3,h4⟩:=JQ hw (show(0:Int)≤10 by decide) (by decide) (by rw[hstep]at hv;omega);rw[h1];simp only[ay];obtain⟨n1,y0,y1,y2,y3⟩:=w1;simp only at h4⊢;subst h4;rw[j9 (by omega) (by omega)];obtain⟨w2,g1,g2,g3,g4⟩:=ih k n1 y0 y1 y2 y3 (i+1) h2 (by rw[h3,←hstep];exact hv) (by rw[h3];omega) (by omega) (by omega) (by omega);exact⟨w2,g1,g2,by rw[g3,h3,hstep],g4⟩
theorem Ma{n d:Int}(h1: -9223372036854775808≤n)(h2:n≤9223372036854775807)(d0:0≤d)(d1:d≤12):
  ∃w,lZ n d=some w∧W4 w∧val w=(if n<0 then -n else n)*cw d.toNat∧w.neg=decide (n<0)∧val w<57896044618658097711785492504343953926634992332820282019728792003956564819968:=by
 have hp:cw d.toNat≤1000000000000:=by
  have hc:d=0∨d=1∨d=2∨d=3∨d=4∨d=5∨d=6∨d=7∨d=8∨d=9∨d=10∨d=11∨d=12:=by omega
  rcases hc with rfl|rfl|rfl|rfl|rfl|rfl|rfl|rfl|rfl|rfl|rfl|rfl|rfl<;>decide
 have hp1:=u5 d.toNat;have key:∀(neg:Bool) (a:Int),0≤a→a≤9223372036854775808→∃w,je ⟨neg,a,0,0,0⟩ d=some w∧W4 w∧val w=a*cw d.toNat∧w.neg=neg∧val w<57896044618658097711785492504343953926634992332820282019728792003956564819968:=by
  intro neg a a0 a1;have hv:val ⟨neg,a,0,0,0⟩=a:=by simp[val]
  have hb:a*cw d.toNat≤9223372036854775808*1000000000000:=by
   refine Int.le_trans (Int.mul_le_mul_of_nonneg_right a1 (by omega)) (Int.mul_le_mul_of_nonneg_left hp (by decide))
  have hb2:a*cw d.toNat≤9223372036854775808000000000000:=Int.le_trans hb (by decide);unfold je;obtain⟨w,g1,g2,g3,g4⟩:=M9 (d:=d) (by omega) d.toNat aH neg a 0 0 0 0 ⟨a0,by simp only;omega,by simp,by simp,by simp,by simp,by simp,by simp⟩ (by rw[hv];omega) (by rw[hv];exact a0) (by decide) (by omega) (by rw[aF];omega);exact⟨w,g1,g2,by rw[g3,hv],g4,by rw[g3,hv];omega⟩
 unfold lZ nG;by_cases hn:n<0
 ·rw[show decide (n<0)=true by simpa using hn,ap];simp only[ay,wu];have e:(0-n%18446744073709551616)%18446744073709551616= -n:=by omega
  rw[e];obtain⟨w,g1,g2,g3,g4,g5⟩:=key true (-n) (by omega) (by omega);rw[g1];simp only[ay];exact⟨_,rfl,g2,by rw[if_pos hn];exact g3,g4,g5⟩
 ·rw[show decide (n<0)=false by simpa using hn,ai];simp only[ay,wu];rw[Je (by omega) (by omega)];obtain⟨w,g1,g2,g3,g4,g5⟩:=key false n (by omega) (by omega);rw[g1];simp only[ay];exact⟨_,rfl,g2,by rw[if_neg hn];exact g3,g4,g5⟩
def c3(a b:Int):Int:=if a<b then -1 else if b<a then 1 else 0
def sv(w:bw):Int:=if w.neg=true then -val w else val w
theorem Ks{a b:bw}(ha:W4 a)(hb:W4 b):iB a b=some (c3 (val a) (val b)):=by
 obtain⟨n,x0,x1,x2,x3⟩:=a;obtain⟨m,y0,y1,y2,y3⟩:=b;obtain⟨a0,a1,b0,b1,c0,c1,d0,d1⟩:=ha;obtain⟨e0,e1,f0,f1,g0,g1,h0,h1⟩:=hb;simp only at*;unfold iB;simp only[aD,decide_eq_true_eq];unfold c3 val;simp only;by_cases q3:x3<y3
 ·rw[if_pos q3,if_pos (by omega)]
 rw[if_neg q3];by_cases q3':y3<x3
 ·rw[if_pos q3',if_neg (by omega),if_pos (by omega)]
 rw[if_neg q3'];by_cases q2:x2<y2
 ·rw[if_pos q2,if_pos (by omega)]
 rw[if_neg q2];by_cases q2':y2<x2
 ·rw[if_pos q2',if_neg (by omega),if_pos (by omega)]
 rw[if_neg q2'];by_cases q1:x1<y1
 ·rw[if_pos q1,if_pos (by omega)]
 rw[if_neg q1];by_cases q1':y1<x1
 ·rw[if_pos q1',if_neg (by omega),if_pos (by omega)]
 rw[if_neg q1'];by_cases q0:x0<y0
 ·rw[if_pos q0,if_pos (by omega)]
 rw[if_neg q0];by_cases q0':y0<x0
 ·rw[if_pos q0',if_neg (by omega),if_pos (by omega)]
 rw[if_neg q0',if_neg (by omega),if_neg (by omega)]
def xE(w:bw):Prop:=w.size.1=0∧w.size.2.1=0∧w.size.2.2.1=0∧w.size.2.2.2=0
instance(w:bw):Decidable (xE w):=by unfold xE;infer_instance
theorem Gi(n m:Bool)(h:¬n=m):(!(n==m))=true∧(!m)=n:=by revert h;cases n<;>cases m<;>simp
theorem YQ(w:bw):tN w=some (decide (xE w)):=by
 unfold tN xE;simp only[ay];congr 1;by_cases h1:w.size.1=0<;>by_cases h2:w.size.2.1=0<;>by_cases h3:w.size.2.2.1=0<;>by_cases h4:w.size.2.2.2=0<;>simp[h1,h2,h3,h4]
theorem SW{b1 b6:Bool}{x0 x1 x2 x3 y0 y1 y2 y3:Int}(ha:W4 ⟨b1,x0,x1,x2,x3⟩)(hb:W4 ⟨b6,y0,y1,y2,y3⟩):
  ∃w,gg b1 x0 x1 x2 x3 b6 y0 y1 y2 y3=some w∧w.neg=b1∧(xE w↔val ⟨b1,x0,x1,x2,x3⟩=val ⟨b6,y0,y1,y2,y3⟩):=by
 obtain⟨a0,a1,b0,b1',c0,c1,d0,d1⟩:=ha;obtain⟨e0,e1,f0,f1,g0,g1,h0,h1⟩:=hb;simp only at*;unfold gg;simp only[ay,Int.add_zero,Int.sub_zero];have hk:∀(p:Prop) [Decidable p],0≤(if p then(1:Int)else 0)∧(if p then(1:Int)else 0)≤1:=by
  intro p _;split<;>omega
 have k1:=hk (x0<y0);have e0':(if x0<y0 then(1:Int)else 0)=0↔¬x0<y0:=by split<;>simp_all
 generalize (if x0<y0 then(1:Int)else 0)=u1 at*;have k2:=hk (x1<y1+u1);have e1':(if x1<y1+u1 then(1:Int)else 0)=0↔¬x1<y1+u1:=by split<;>simp_all
 generalize (if x1<y1+u1 then(1:Int)else 0)=u2 at*;have k3:=hk (x2<y2+u2);have e2':(if x2<y2+u2 then(1:Int)else 0)=0↔¬x2<y2+u2:=by split<;>simp_all
 generalize (if x2<y2+u2 then(1:Int)else 0)=u3 at*;rw[bh (by omega),bh (by omega),bh (by omega),bh (by omega)];refine⟨_,rfl,rfl,?_⟩;simp only[xE,val];constructor
 ·rintro⟨z0,z1,z2,z3⟩;have q0:x0=y0:=by omega
  have q1:u1=0:=by rw[e0'];omega
  have q2:x1=y1:=by omega
  have q3:u2=0:=by rw[e1'];omega
  have q4:x2=y2:=by omega
  have q5:u3=0:=by rw[e2'];omega
  have q6:x3=y3:=by omega
  omega
 ·intro hv;have q3:x3=y3:=by omega
  have q2:x2=y2:=by omega
  have q1:x1=y1:=by omega
  have q0:x0=y0:=by omega
  have r1:u1=0:=by rw[e0'];omega
  have r2:u2=0:=by rw[e1'];omega
  have r3:u3=0:=by rw[e2'];omega
  subst q0 q1 q2 q3 r1 r2 r3;simp
theorem Tc{k:Nat}{b:Bool}{x0 x1 x2 x3 y0 y1 y2 y3:Int}(ha:W4 ⟨b,x0,x1,x2,x3⟩)(hb:W4 ⟨b,y0,y1,y2,y3⟩)(hv:val ⟨b,x0,x1,x2,x3⟩+val ⟨b,y0,y1,y2,y3⟩<115792089237316195423570985008687907853269984665640564039457584007913129639936):
  ∃w,fh (k+1) ⟨b,x0,x1,x2,x3⟩ ⟨b,y0,y1,y2,y3⟩=some w∧w.neg=b∧(xE w↔val ⟨b,x0,x1,x2,x3⟩+val ⟨b,y0,y1,y2,y3⟩=0):=by
 obtain⟨a0,a1,b0,b1',c0,c1,d0,d1⟩:=ha;obtain⟨e0,e1,f0,f1,g0,g1,h0,h1⟩:=hb;simp only at*;rw[fh];simp only[beq_self_eq_true,Bool.not_true,ai,ay,Int.add_zero];simp only[val]at hv⊢;have m0:x0+y0=(x0+y0)/18446744073709551616*18446744073709551616+(x0+y0)%18446744073709551616:=by omega
 have u0:0≤(x0+y0)/18446744073709551616∧(x0+y0)/18446744073709551616≤1:=by omega
 have v0:0≤(x0+y0)%18446744073709551616:=by omega
 generalize (x0+y0)/18446744073709551616=t0 at*;generalize (x0+y0)%18446744073709551616=r0 at*;have m1:x1+y1+t0=(x1+y1+t0)/18446744073709551616*18446744073709551616+(x1+y1+t0)%18446744073709551616:=by omega
 have u1:0≤(x1+y1+t0)/18446744073709551616∧(x1+y1+t0)/18446744073709551616≤1:=by omega
 have v1:0≤(x1+y1+t0)%18446744073709551616:=by omega
 generalize (x1+y1+t0)/18446744073709551616=t1 at*;generalize (x1+y1+t0)%18446744073709551616=r1 at*;have m2:x2+y2+t1=(x2+y2+t1)/18446744073709551616*18446744073709551616+(x2+y2+t1)%18446744073709551616:=by omega
 have u2:0≤(x2+y2+t1)/18446744073709551616∧(x2+y2+t1)/18446744073709551616≤1:=by omega
 have v2:0≤(x2+y2+t1)%18446744073709551616:=by omega
 generalize (x2+y2+t1)/18446744073709551616=t2 at*;generalize (x2+y2+t1)%18446744073709551616=r2 at*;have m3:x3+y3+t2=(x3+y3+t2)/18446744073709551616*18446744073709551616+(x3+y3+t2)%18446744073709551616:=by omega
 have u3:0≤(x3+y3+t2)/18446744073709551616∧(x3+y3+t2)/18446744073709551616≤1:=by omega
 have v3:0≤(x3+y3+t2)%18446744073709551616:=by omega
 generalize (x3+y3+t2)/18446744073709551616=t3 at*;generalize (x3+y3+t2)%18446744073709551616=r3 at*;rw[bh (by omega),bh (by omega),bh (by omega),bh (by omega)];refine⟨_,rfl,rfl,?_⟩;simp only[xE];constructor
 ·rintro⟨z0,z1,z2,z3⟩;have:t3=0:=by omega
  omega
 ·intro hz;refine⟨by omega,by omega,by omega,by omega⟩
theorem Pa{a b:bw}(ha:W4 a)(hb:W4 b)(va:val a<57896044618658097711785492504343953926634992332820282019728792003956564819968)(vb:val b<57896044618658097711785492504343953926634992332820282019728792003956564819968)
  (na:a.neg=true→0<val a)(nb:b.neg=true→0<val b):m9 a b=some (c3 (sv a) (sv b)):=by
 have pa:0≤val a:=by obtain⟨a0,a1,b0,b1,c0,c1,d0,d1⟩:=ha;unfold val;omega
 have pb:0≤val b:=by obtain⟨a0,a1,b0,b1,c0,c1,d0,d1⟩:=hb;unfold val;omega
 obtain⟨n,x0,x1,x2,x3⟩:=a;obtain⟨m,y0,y1,y2,y3⟩:=b;have hany:∀(q:Bool),W4 ⟨q,y0,y1,y2,y3⟩:=fun q=>⟨hb.1,hb.2,hb.3,hb.4,hb.5,hb.6,hb.7,hb.8⟩
 have hval:∀(q q':Bool) (z0 z1 z2 z3:Int),val ⟨q,z0,z1,z2,z3⟩=val ⟨q',z0,z1,z2,z3⟩:=fun _ _ _ _ _ _=>rfl
 unfold m9;simp only[YQ];have hB:aH=1152921504606846974+1+1:=rfl;rw[hB,ik];simp only;by_cases hs:n=m
 ·subst hs;simp only[beq_self_eq_true,Bool.not_true,ai];rw[Ks ha hb];simp only[ay];by_cases hlt:val ⟨n,x0,x1,x2,x3⟩<val ⟨n,y0,y1,y2,y3⟩
  ·have e1:c3 (val ⟨n,x0,x1,x2,x3⟩) (val ⟨n,y0,y1,y2,y3⟩)= -1:=by unfold c3;rw[if_pos hlt]
   rw[e1,show decide ((-1:Int)<0)=true from rfl,ap];unfold gG;simp only[ay];obtain⟨w,g1,g2,g3⟩:=SW (b6:=n) (hany (!n)) ha;rw[g1];simp only[ay];have hz:¬xE w:=fun h=>by
    have:=g3.1 h;have e2:=hval (!n) n y0 y1 y2 y3;omega
   have hz':¬xE ⟨w.neg,w.size.1,w.size.2.1,w.size.2.2.1,w.size.2.2.2⟩:=hz;rw[show decide (xE ⟨w.neg,w.size.1,w.size.2.1,w.size.2.2.1,w.size.2.2.2⟩)=false by simpa using hz',ai,g2];unfold sv;cases n with
   |true=>simp only[Bool.not_true,ai,if_true];unfold c3;rw[if_neg (by omega),if_pos (by omega)]
   |false=>simp only[Bool.not_false,ap,Bool.false_eq_true,if_false];unfold c3;rw[if_pos (by omega)]
  ·have e1:decide (c3 (val ⟨n,x0,x1,x2,x3⟩) (val ⟨n,y0,y1,y2,y3⟩)<0)=false:=by
    unfold c3;rw[if_neg hlt];split<;>rfl
   rw[e1,ai];obtain⟨w,g1,g2,g3⟩:=SW ha hb;rw[g1];simp only[ay];have hz:xE ⟨w.neg,w.size.1,w.size.2.1,w.size.2.2.1,w.size.2.2.2⟩↔val ⟨n,x0,x1,x2,x3⟩=val ⟨n,y0,y1,y2,y3⟩:=g3;by_cases heq:val ⟨n,x0,x1,x2,x3⟩=val ⟨n,y0,y1,y2,y3⟩
   ·rw[show decide (xE ⟨w.neg,w.size.1,w.size.2.1,w.size.2.2.1,w.size.2.2.2⟩)=true by simpa using hz.2 heq,ap];unfold sv;simp only;rw[heq];unfold c3;rw[if_neg (by omega),if_neg (by omega)]
   ·rw[show decide (xE ⟨w.neg,w.size.1,w.size.2.1,w.size.2.2.1,w.size.2.2.2⟩)=false by simpa using fun h=>heq (hz.1 h),ai,g2];unfold sv;cases n with
    |true=>simp only[ap,if_true];unfold c3;rw[if_pos (by omega)]
    |false=>simp only[ai,Bool.false_eq_true,if_false];unfold c3;rw[if_neg (by omega),if_pos (by omega)]
 ·have hsb:(!(n==m))=true:=(Gi n m hs).1;rw[hsb,ap];unfold gG;simp only[ay];have hnm:(!m)=n:=(Gi n m hs).2;rw[hnm];obtain⟨w,g1,g2,g3⟩:=Tc (k:=1152921504606846974) ha (hany n) (by have:=hval n m y0 y1 y2 y3;omega);rw[g1];simp only[ay];have hz:xE ⟨w.neg,w.size.1,w.size.2.1,w.size.2.2.1,w.size.2.2.2⟩↔val ⟨n,x0,x1,x2,x3⟩+val ⟨n,y0,y1,y2,y3⟩=0:=g3;have hpos:¬val ⟨n,x0,x1,x2,x3⟩+val ⟨n,y0,y1,y2,y3⟩=0:=by
   have e:=hval n m y0 y1 y2 y3;cases n with
   |true=>have:=na rfl;omega
   |false=>
    have:m=true:=by simpa using hnm
    have:=nb this;omega
  rw[show decide (xE ⟨w.neg,w.size.1,w.size.2.1,w.size.2.2.1,w.size.2.2.2⟩)=false by simpa using fun h=>hpos (hz.1 h),ai,g2];unfold sv;cases n with
  |true=>
   have:m=false:=by simpa using hnm
   subst this;have:=na rfl;simp only[ap,if_true,Bool.false_eq_true,if_false];unfold c3;rw[if_pos (by omega)]
  |false=>
   have:m=true:=by simpa using hnm
   subst this;have:=nb rfl;simp only[ai,if_true,Bool.false_eq_true,if_false];unfold c3;rw[if_neg (by omega),if_pos (by omega)]
def or'(x y:Int):Int:=if x≠0 then x else y
def cS(s t:ByteArray):Int:=if Op.bytesLess s.toList t.toList=true then -1 else if s.toList=t.toList then 0 else 1
def inR(sc:Int):Prop:=0≤sc∧sc≤12
instance(sc:Int):Decidable (inR sc):=by unfold inR;infer_instance
def GT(k:Int):Int:=if k=0 then 1 else 0
def EP(k sc:Int):Int:=if k=3∧¬inR sc then 1 else 0
def vvI(k sc n:Int):Int:=if k=3∧inR sc then n*cw (12-sc).toNat else n
mutual
def cmpV:ac→ac→Int
 |⟨k,n,sc,s,it⟩,b=>or' (c3 (GT k) (GT b.kind)) (or' (c3 k b.kind) (if k=0 then 0 else or' (c3 (EP k sc) (EP b.kind b.scale)) (or' (c3 (vvI k sc n) (vvI b.kind b.scale b.n)) (or' (c3 sc b.scale) (or' (cS s b.s) (cmpL it b.items))))))
def cmpL:List ac→List ac→Int
 |[],m=>match m with
  |[]=>0
  |_::_=> -1
 |x::l,m=>match m with
  |[]=>1
  |y::ys=>or' (cmpV x y) (cmpL l ys)
end
def i6q(x:Int):Prop:= -9223372036854775808≤x∧x≤9223372036854775807
mutual
def wfV:ac→Prop
 |⟨k,n,sc,_,it⟩=>i6q k∧i6q n∧i6q sc∧wfL it
def wfL:List ac→Prop
 |[]=>True
 |x::l=>wfV x∧wfL l
end
theorem GU:∀{l:List ac} {x:ac},wfL l→x∈l→wfV x
 |[],_,_,h=>by cases h
 |y::l,x,hw,h=>by
  simp only[wfL]at hw;rcases List.mem_cons.1 h with rfl|h
  ·exact hw.1
  ·exact GU hw.2 h
theorem gA:∀{l:List ac} {x:ac},x∈l→bE x≤cN l
 |[],_,h=>by cases h
 |y::l,x,h=>by
  simp only[cN];rcases List.mem_cons.1 h with rfl|h
  ·omega
  ·have:=gA h;omega
theorem rY:∀v:ac,1≤bE v
 |⟨_,_,_,_,_⟩=>by simp only[bE];omega
theorem gx:∀l:List ac,l.length≤cN l
 |[]=>by simp[cN]
 |x::l=>by
  have:=gx l;have:=rY x;simp only[cN,List.length_cons];omega
theorem Vn(a b:Int):nA a b=some (c3 a b):=by
 unfold nA w8 c3;simp only[ay,bne_self_eq_false,ai];by_cases h:a<b
 ·simp[h,aD]
 ·by_cases k:b<a<;>simp[h,k,aD]
theorem adB(a b:ByteArray):pz a b=some (cS a b):=by
 unfold pz rX cS;simp only[ay,beq_self_eq_true,Bool.not_true,ai];by_cases h:Op.bytesLess a.toList b.toList=true
 ·simp[h,aD]
 ·have h':Op.bytesLess a.toList b.toList=false:=by simpa using h
  by_cases k:a.toList=b.toList
  ·rw[k]at h'⊢;simp[h',aD]
  ·simp[h',k,aD]
theorem GQ{p:List Int}{k i:Nat}{x:Int}(h:p[i]? =some x)(hi:i<1000):kL p (k+1) (i:Int)=if x≠0 then some x else kL p k ((i+1:Nat):Int):=by
 have hlt:=(tz.1 h).1;rw[kL,show decide ((i:Int)<(p.length:Int))=true by simp[hlt],ap];have:at? p (i:Int)=some x:=by unfold at?;simp[h]
 rw[this];simp only[ay];rw[j9 (by omega) (by omega),show(i:Int)+1=((i+1:Nat):Int) by omega];by_cases hx:x=0
 ·simp[hx,aD]
 ·simp[hx,aD]
theorem U7{p:List Int}{k:Nat}:kL p (k+1) (p.length:Int)=some 0:=by
 rw[kL,show decide ((p.length:Int)<(p.length:Int))=false by simp,ai];rfl
theorem or2(x y:Int):qZ [x,y]=some (or' x y):=by
 unfold qZ or';have hB:aH=1152921504606846973+1+1+1:=rfl;have h0:=GQ (p:=[x,y]) (k:=1152921504606846973+1+1) (i:=0) (x:=x) rfl (by decide);have h1:=GQ (p:=[x,y]) (k:=1152921504606846973+1) (i:=1) (x:=y) rfl (by decide);have h2:=U7 (p:=[x,y]) (k:=1152921504606846973);rw[hB];refine Eq.trans h0 ?_;rw[h1];refine Eq.trans (b:=if x≠0 then some x else if y≠0 then some y else some 0) (by rw[←h2];rfl) ?_;by_cases hx:x=0<;>by_cases hy:y=0<;>simp[hx,hy]
theorem or3(x y z:Int):qZ [x,y,z]=some (or' x (or' y z)):=by
 unfold qZ or';have hB:aH=1152921504606846972+1+1+1+1:=rfl;have h0:=GQ (p:=[x,y,z]) (k:=1152921504606846972+1+1+1) (i:=0) (x:=x) rfl (by decide);have h1:=GQ (p:=[x,y,z]) (k:=1152921504606846972+1+1) (i:=1) (x:=y) rfl (by decide);have h2:=GQ (p:=[x,y,z]) (k:=1152921504606846972+1) (i:=2) (x:=z) rfl (by decide);have h3:=U7 (p:=[x,y,z]) (k:=1152921504606846972);rw[hB];refine Eq.trans h0 ?_;rw[h1,h2];refine Eq.trans (b:=if x≠0 then some x else if y≠0 then some y else if z≠0 then some z else some 0) (by rw[←h3];rfl) ?_;by_cases hx:x=0<;>by_cases hy:y=0<;>by_cases hz:z=0<;>simp[hx,hy,hz]
theorem cmpf_loop(f:ac→ac→Option Int)(p1 p2:List ac)(hl:p1.length<1000000000000000)(hf:∀x∈p1,∀y∈p2,f x y=some (cmpV x y)):∀(k i:Nat),i≤p1.length→i≤p2.length→p1.length<i+k→
  aR f p1 p2 k (i:Int)=some (cmpL (p1.drop i) (p2.drop i)):=by
 intro k;induction k with
 |zero=>intro i h1 h2 h3;omega
 |succ k ih=>
  intro i h1 h2 h3;rw[aR];by_cases hi:i<p1.length
  ·have e1:p1.drop i=p1[i]::p1.drop (i+1):=List.drop_eq_getElem_cons hi;have a1:at? p1 (i:Int)=some p1[i]:=by unfold at?;simp[hi]
   rw[show decide ((i:Int)<(p1.length:Int))=true by simp[hi],ap,a1,e1];simp only[ay];by_cases hj:i<p2.length
   ·have e2:p2.drop i=p2[i]::p2.drop (i+1):=List.drop_eq_getElem_cons hj;have a2:at? p2 (i:Int)=some p2[i]:=by unfold at?;simp[hj]
    rw[show decide ((p2.length:Int)≤(i:Int))=false by simp;omega,ai,a2,e2];simp only[ay];rw[hf _ (gd hi) _ (gd hj)];simp only[ay,cmpL];unfold or';by_cases hc:cmpV p1[i] p2[i]=0
    ·have e:(cmpV p1[i] p2[i] != 0)=false:=by simp[hc]
     rw[e,ai,j9 (by omega) (by omega),show(i:Int)+1=((i+1:Nat):Int) by omega,ih (i+1) (by omega) (by omega) (by omega),if_neg (by simp[hc])]
    ·have e:(cmpV p1[i] p2[i] != 0)=true:=by simp[hc]
     rw[e,ap,if_pos hc]
   ·have e2:p2.drop i=[]:=List.drop_of_length_le (by omega);rw[show decide ((p2.length:Int)≤(i:Int))=true by simp;omega,ap,e2];rfl
  ·have:i=p1.length:=by omega
   subst this;rw[show decide ((p1.length:Int)<(p1.length:Int))=false by simp,ai,List.drop_length];unfold bO;by_cases hj:p1.length<p2.length
   ·have e2:p2.drop p1.length=p2[p1.length]::p2.drop (p1.length+1):=List.drop_eq_getElem_cons hj;rw[show decide ((p1.length:Int)<(p2.length:Int))=true by simp[hj],ap,e2];rfl
   ·have e2:p2.drop p1.length=[]:=List.drop_of_length_le (by omega);rw[show decide ((p1.length:Int)<(p2.length:Int))=false by simp;omega,ai,e2];rfl
theorem Sh(a b c:Int):dZ a b c=some (decide (b≤a∧a≤c)):=by
 unfold dZ nE;by_cases h:b≤a<;>by_cases k:a≤c<;>simp[h,k,aD]
theorem or_zero(y:Int):or' 0 y=y:=by simp[or']
theorem c3_self(a:Int):c3 a a=0:=by simp[c3]
theorem compare_eq:∀(N:Nat) (a b:ac) (k:Nat),bE a≤N→bE a<1000000000000000→wfV a→wfV b→3*N+3≤k→dz k a b=some (cmpV a b):=by
 intro N;induction N with
 |zero=>intro a b k h;have:=rY a;omega
 |succ N ih=>
  intro a b k hN hbig ha hb hk;obtain⟨k',rfl⟩:∃k',k=k'+1+1+1:=⟨k-3,by omega⟩
  obtain⟨ka,na,sa,ta,ia⟩:=a;obtain⟨kb,nb,sb,tb,ib⟩:=b;simp only[wfV]at ha hb;obtain⟨wk,wn,ws,wi⟩:=ha;obtain⟨vk,vn,vs,vi⟩:=hb;simp only[bE]at hN hbig;have hlen:=gx ia
  have hitems:aA (k'+1) ia ib=some (cmpL ia ib):=by
   rw[aA];have:=cmpf_loop (dz k') ia ib (by omega) (fun x hx y hy=>by
    have h1:=gA hx;exact ih x y k' (by omega) (by omega) (GU wi hx) (GU vi hy) (by omega)) aH 0 (Nat.zero_le _) (Nat.zero_le _) (by rw[aF];omega)
   simpa using this
  have hrest:mQ (k'+1+1) ⟨ka,na,sa,ta,ia⟩ ⟨kb,nb,sb,tb,ib⟩=some (or' (c3 sa sb) (or' (cS ta tb) (cmpL ia ib))):=by
   rw[mQ];simp only[Vn,adB,ay,hitems,or3]
  rw[dz];simp only[Vn,ay,Sh,cmpV];by_cases hkk:ka=kb
  ·subst hkk;rw[show(ka != ka)=false by simp,ai,c3_self,c3_self,or_zero,or_zero];by_cases h0:ka=0
   ·subst h0;rw[if_pos rfl];rfl
   ·rw[beq_eq_false_iff_ne.2 h0,ai,if_neg h0];have xx:oZ (mQ (k'+1+1)) ⟨ka,na,sa,ta,ia⟩ ⟨ka,nb,sb,tb,ib⟩=some (or' (c3 na nb) (or' (c3 sa sb) (or' (cS ta tb) (cmpL ia ib)))):=by
     unfold oZ;simp only[Vn,ay,hrest,or2]
    by_cases h3:ka=3
    ·subst h3;rw[show((3:Int)==3)=true from rfl,ap];unfold sr;by_cases hA:0≤sa∧sa≤12
     ·have hiA:inR sa:=hA;by_cases hB:0≤sb∧sb≤12
      ·have hiB:inR sb:=hB;simp only[hA,hB,and_self,decide_true,ap];rw[j9 (x:=12-sa) (by omega) (by omega),j9 (x:=12-sb) (by omega) (by omega)];obtain⟨w1,g1,g2,g3,g4,g5⟩:=Ma (n:=na) (d:=12-sa) wn.1 wn.2 (by omega) (by omega);obtain⟨w2,f1,f2,f3,f4,f5⟩:=Ma (n:=nb) (d:=12-sb) vn.1 vn.2 (by omega) (by omega);rw[g1,f1];simp only[ay];have pp1:=u5 (12-sa).toNat;have pp2:=u5 (12-sb).toNat;have sgn:∀(n P:Int),1≤P→n<0→0<(if n<0 then -n else n)*P:=by
        intro n P hP hn;rw[if_pos hn];exact Int.mul_pos (by omega) (by omega)
       have sv1:sv w1=na*cw (12-sa).toNat:=by
        unfold sv;rw[g3,g4];by_cases hn:na<0
        ·simp only[hn,decide_true,if_true];rw[Int.neg_mul,Int.neg_neg]
        ·simp only[hn,decide_false,Bool.false_eq_true,if_false]
       have sv2:sv w2=nb*cw (12-sb).toNat:=by
        unfold sv;rw[f3,f4];by_cases hn:nb<0
        ·simp only[hn,decide_true,if_true];rw[Int.neg_mul,Int.neg_neg]
        ·simp only[hn,decide_false,Bool.false_eq_true,if_false]
       have hcmp:m9 ⟨w1.neg,w1.size.1,w1.size.2.1,w1.size.2.2.1,w1.size.2.2.2⟩ ⟨w2.neg,w2.size.1,w2.size.2.1,w2.size.2.2.1,w2.size.2.2.2⟩=some (c3 (na*cw (12-sa).toNat) (nb*cw (12-sb).toNat)):=by
        have:=Pa g2 f2 g5 f5 (fun h=>by rw[g3];exact sgn na _ pp1 (by rw[g4]at h;simpa using h)) (fun h=>by rw[f3];exact sgn nb _ pp2 (by rw[f4]at h;simpa using h));rw[sv1,sv2]at this;exact this
       rw[hcmp];simp only[ay,hrest,or2];have o1:EP 3 sa=0:=by unfold EP;rw[if_neg (by simp[hiA])]
       have o2:EP 3 sb=0:=by unfold EP;rw[if_neg (by simp[hiB])]
       have u1:vvI 3 sa na=na*cw (12-sa).toNat:=by unfold vvI;rw[if_pos ⟨rfl,hiA⟩]
       have u2:vvI 3 sb nb=nb*cw (12-sb).toNat:=by unfold vvI;rw[if_pos ⟨rfl,hiB⟩]
       rw[o1,o2,c3_self,or_zero,u1,u2]
      ·have hiB:¬inR sb:=hB;have eB:decide (0≤sb∧sb≤12)=false:=by simpa using hB
       have eA:decide (0≤sa∧sa≤12)=true:=by simpa using hA
       rw[eA,eB];simp only[ap,ai];have o1:EP 3 sa=0:=by unfold EP;rw[if_neg (by simp[hiA])]
       have o2:EP 3 sb=1:=by unfold EP;rw[if_pos ⟨rfl,hiB⟩]
       rw[o1,o2];rfl
     ·have hiA:¬inR sa:=hA;have eA:decide (0≤sa∧sa≤12)=false:=by simpa using hA
      have o1:EP 3 sa=1:=by unfold EP;rw[if_pos ⟨rfl,hiA⟩]
      have u1:vvI 3 sa na=na:=by unfold vvI;rw[if_neg (by simp[hiA])]
      rw[eA];simp only[ai];by_cases hB:0≤sb∧sb≤12
      ·have hiB:inR sb:=hB;have eB:decide (0≤sb∧sb≤12)=true:=by simpa using hB
       have o2:EP 3 sb=0:=by unfold EP;rw[if_neg (by simp[hiB])]
       rw[eB,o1,o2];rfl
      ·have hiB:¬inR sb:=hB;have eB:decide (0≤sb∧sb≤12)=false:=by simpa using hB
       have o2:EP 3 sb=1:=by unfold EP;rw[if_pos ⟨rfl,hiB⟩]
       have u2:vvI 3 sb nb=nb:=by unfold vvI;rw[if_neg (by simp[hiB])]
       rw[eB,ai,xx,o1,o2,c3_self,or_zero,u1,u2]
    ·rw[beq_eq_false_iff_ne.2 h3,ai,xx];have o1:∀q,EP ka q=0:=fun q=>by unfold EP;rw[if_neg (by simp[h3])]
     have u1:∀q r,vvI ka q r=r:=fun q r=>by unfold vvI;rw[if_neg (by simp[h3])]
     rw[o1,o1,c3_self,or_zero,u1,u1]
  ·rw[show(ka != kb)=true by simp[hkk],ap];by_cases h0:ka=0
   ·subst h0;have:GT kb=0:=by unfold GT;rw[if_neg (fun e=>hkk e.symm)]
    rw[this];rfl
   ·rw[beq_eq_false_iff_ne.2 h0,ai];have n1:GT ka=0:=by unfold GT;rw[if_neg h0]
    by_cases h1:kb=0
    ·subst h1;rw[n1];rfl
    ·have n2:GT kb=0:=by unfold GT;rw[if_neg h1]
     rw[beq_eq_false_iff_ne.2 h1,ai,n1,n2,c3_self,or_zero];have hc:c3 ka kb≠0:=by unfold c3;split<;>(try split)<;>omega
     unfold or';rw[if_pos hc]
def IS(x y z:Int):Prop:=(x≤0→y≤0→z≤0∧(z=0→x=0∧y=0))∧(x=0→y=0→z=0)
theorem DS{x1 y1 z1 x2 y2 z2:Int}(h:IS x1 y1 z1)(k:x1=0→y1=0→IS x2 y2 z2):IS (or' x1 x2) (or' y1 y2) (or' z1 z2):=by
 unfold or';by_cases hx:x1=0
 ·by_cases hy:y1=0
  ·have hz:=h.2 hx hy;rw[if_neg (by simp[hx]),if_neg (by simp[hy]),if_neg (by simp[hz])];exact k hx hy
  ·rw[if_neg (by simp[hx]),if_pos hy];unfold IS at*;by_cases hz:z1=0
   ·rw[if_neg (by simp[hz])];omega
   ·rw[if_pos hz];omega
 ·rw[if_pos hx];unfold IS at*;by_cases hy:y1=0
  ·rw[if_neg (by simp[hy])];by_cases hz:z1=0
   ·rw[if_neg (by simp[hz])];omega
   ·rw[if_pos hz];omega
  ·rw[if_pos hy];by_cases hz:z1=0
   ·rw[if_neg (by simp[hz])];omega
   ·rw[if_pos hz];omega
theorem H0(a b d:Int):IS (c3 a b) (c3 b d) (c3 a d):=by
 unfold IS c3;by_cases h1:a<b<;>by_cases h2:b<d<;>by_cases h3:a<d<;>by_cases h4:b<a<;>by_cases h5:d<b<;>by_cases h6:d<a<;>simp[h1,h2,h3,h4,h5,h6]<;>omega
theorem yI{x y x' y':Int}(h:x= -x')(k:y= -y'):or' x y= -or' x' y':=by
 unfold or';by_cases hx:x'=0
 ·have:x=0:=by omega
  rw[if_neg (by simp[this]),if_neg (by simp[hx])];exact k
 ·have:x≠0:=by omega
  rw[if_pos this,if_pos hx];exact h
theorem AQ(a b:Int):c3 a b= -c3 b a:=by
 unfold c3;by_cases h1:a<b<;>by_cases h2:b<a<;>simp[h1,h2]<;>omega
def cB(l m:List UInt8):Int:=if Op.bytesLess l m=true then -1 else if l=m then 0 else 1
theorem cB_cons(a b:UInt8)(l m:List UInt8):cB (a::l) (b::m)=or' (c3 a.toNat b.toNat) (cB l m):=by
 unfold cB or' c3;simp only[Op.bytesLess,Bool.or_eq_true,iu,decide_eq_true_eq,beq_iff_eq,List.cons.injEq];by_cases h1:a<b
 ·have h1':(a.toNat:Int)<b.toNat:=by have:=UInt8.lt_iff_toNat_lt.1 h1;omega
  simp[h1,h1']
 ·have h1':¬(a.toNat:Int)<b.toNat:=fun h=>h1 (UInt8.lt_iff_toNat_lt.2 (by omega))
  by_cases h2:a=b
  ·subst h2;simp
  ·have h3:(b.toNat:Int)<a.toNat:=by
    have:a.toNat≠b.toNat:=fun h=>h2 (UInt8.toNat_inj.1 h)
    omega
   simp[h1,h1',h2,h3]
theorem VL:∀l m p:List UInt8,IS (cB l m) (cB m p) (cB l p)
 |[],[],[]=>by simp[cB,Op.bytesLess,IS]
 |[],[],_::_=>by simp[cB,Op.bytesLess,IS]
 |[],_::_,[]=>by simp[cB,Op.bytesLess,IS]
 |[],_::_,_::_=>by
  have e1:∀(a:UInt8) l,cB [] (a::l)= -1:=fun a l=>by simp[cB,Op.bytesLess]
  rw[e1,e1];unfold IS;omega
 |_::_,[],[]=>by simp[cB,Op.bytesLess,IS]
 |_::_,[],_::_=>by
  have e1:∀(a:UInt8) l,cB (a::l) []=1:=fun a l=>by simp[cB,Op.bytesLess]
  rw[e1];unfold IS;omega
 |_::_,_::_,[]=>by
  have e1:∀(a:UInt8) l,cB (a::l) []=1:=fun a l=>by simp[cB,Op.bytesLess]
  rw[e1,e1];unfold IS;omega
 |a::l,b::m,d::p=>by
  rw[cB_cons,cB_cons,cB_cons];exact DS (H0 _ _ _) (fun _ _=>VL l m p)
theorem Rl:∀l m:List UInt8,cB l m= -cB m l
 |[],[]=>by decide
 |[],_::_=>by simp[cB,Op.bytesLess]
 |_::_,[]=>by simp[cB,Op.bytesLess]
 |a::l,b::m=>by
  rw[cB_cons,cB_cons];exact yI (AQ _ _) (Rl l m)
theorem cS_eq(s t:ByteArray):cS s t=cB s.toList t.toList:=rfl
mutual
theorem cmpV_anti:∀a b:ac,cmpV a b= -cmpV b a
 |⟨k,n,sc,s,it⟩,⟨k',n',sc',s',it'⟩=>by
  have hL:=Ls it it';simp only[cmpV];by_cases hk:k=k'
  ·subst hk;refine yI (AQ _ _) (yI (AQ _ _) ?_);split
   ·rfl
   ·exact yI (AQ _ _) (yI (AQ _ _) (yI (AQ _ _) (yI (by rw[cS_eq,cS_eq];exact Rl _ _) hL)))
  ·have e1:∀y,or' (c3 k k') y=c3 k k':=fun y=>by
    unfold or';rw[if_pos (by unfold c3;split<;>(try split)<;>omega)]
   have e2:∀y,or' (c3 k' k) y=c3 k' k:=fun y=>by
    unfold or';rw[if_pos (by unfold c3;split<;>(try split)<;>omega)]
   rw[e1,e2];exact yI (AQ _ _) (AQ _ _)
theorem Ls:∀l m:List ac,cmpL l m= -cmpL m l
 |[],[]=>by simp[cmpL]
 |[],_::_=>by simp[cmpL]
 |_::_,[]=>by simp[cmpL]
 |x::l,y::m=>by
  have h1:=cmpV_anti x y;have h2:=Ls l m;simp only[cmpL];exact yI h1 h2
end
theorem Lt{k k' k'':Int}(h1:c3 k k'=0):k=k':=by
 unfold c3 at h1;split at h1<;>(try split at h1)<;>omega
mutual
theorem cmpV_tri:∀a b d:ac,IS (cmpV a b) (cmpV b d) (cmpV a d)
 |⟨k,n,sc,s,it⟩,⟨k',n',sc',s',it'⟩,⟨k'',n'',sc'',s'',it''⟩=>by
  have hL:=N1 it it' it'';simp only[cmpV];refine DS (H0 _ _ _) (fun _ _=>DS (H0 _ _ _) (fun e1 e2=> ?_));have q1:=Lt (k'':=0) e1;have q2:=Lt (k'':=0) e2;subst q1;subst q2;split
  ·unfold IS;omega
  ·exact DS (H0 _ _ _) (fun _ _=>DS (H0 _ _ _) (fun _ _=>DS (H0 _ _ _) (fun _ _=>DS (by rw[cS_eq,cS_eq,cS_eq];exact VL _ _ _) (fun _ _=>hL))))
theorem N1:∀l m p:List ac,IS (cmpL l m) (cmpL m p) (cmpL l p)
 |[],[],[]=>by simp[cmpL,IS]
 |[],[],_::_=>by simp[cmpL,IS]
 |[],_::_,[]=>by simp[cmpL,IS]
 |[],_::_,_::_=>by simp only[cmpL];unfold IS;omega
 |_::_,[],[]=>by simp[cmpL,IS]
 |_::_,[],_::_=>by simp only[cmpL];unfold IS;omega
 |_::_,_::_,[]=>by simp only[cmpL];unfold IS;omega
 |x::l,y::m,z::p=>by
  have h1:=cmpV_tri x y z;have h2:=N1 l m p;simp only[cmpL];exact DS h1 (fun _ _=>h2)
end
theorem cmpV_refl(a:ac):cmpV a a=0:=by
 have:=cmpV_anti a a;omega
theorem By(a b:Int):lI a b=some (c3 a b):=by
 unfold lI c3;by_cases h:a<b
 ·simp[h,aD]
 ·by_cases k:b<a<;>simp[h,k,aD]
theorem VV(a b c:Int):gi a b c=some (decide (b≤a∧a≤c)):=Sh a b c
def bm:List Int→Int
 |[]=>0
 |d::l=>d+10*bm l
def gu(l:List Int):Prop:=∀d∈l,0≤d∧d≤9
def E0(l:List Int):Prop:=∀d,l.getLast? =some d→d≠0
theorem jo:∀{l:List Int},gu l→0≤bm l
 |[],_=>by simp[bm]
 |d::l,h=>by
  have h1:=h d (by simp);have h2:=jo (l:=l) (fun x hx=>h x (by simp[hx]));simp only[bm];omega
theorem p10n:∀n,0<cw n:=fun n=>by have:=u5 n;omega
theorem pJ:∀{l:List Int},gu l→bm l<cw l.length
 |[],_=>by simp[bm,cw]
 |d::l,h=>by
  have h1:=h d (by simp);have h2:=pJ (l:=l) (fun x hx=>h x (by simp[hx]));simp only[bm,List.length_cons,cw];omega
theorem vZ:∀{l:List Int},gu l→E0 l→l≠[]→cw (l.length-1)≤bm l
 |[],_,_,h=>absurd rfl h
 |[d],h,ht,_=>by
  have h1:=h d (by simp);have h2:=ht d (by simp);simp[bm,cw];omega
 |d::e::l,h,ht,_=>by
  have h1:=h d (by simp);have h2:=vZ (l:=e::l) (fun x hx=>h x (by simp[hx])) (fun x hx=>ht x (by simpa using hx)) (by simp);simp only[List.length_cons]at h2⊢;rw[show l.length+1+1-1=(l.length+1-1)+1 by omega];simp only[cw];rw[bm];omega
theorem xy{m n:Nat}(h:m≤n):cw m≤cw n:=by
 induction n with
 |zero=>
  have:m=0:=by omega
  subst this;exact Int.le_refl _
 |succ n ih=>
  by_cases e:m=n+1
  ·subst e;exact Int.le_refl _
  ·have h1:=ih (by omega);have h2:=p10n n;simp only[cw];omega
theorem fK:∀(l m:List Int),bm (l++m)=bm l+cw l.length*bm m
 |[],m=>by simp[bm,cw]
 |d::l,m=>by
  simp only[List.cons_append,bm,fK l m,List.length_cons,cw];rw[Int.mul_add,←Int.mul_assoc,Int.mul_comm 10 (cw l.length)];omega
theorem wL(k:Nat):bm (List.replicate k 0)=0:=by
 induction k with
 |zero=>rfl
 |succ k ih=>simp[List.replicate_succ,bm,ih]
theorem HZ{a b:List Int}(ha:gu a)(hb:gu b)(hl:a.length=b.length)(hbig:a.length<1000000):∀(k i:Nat),i≤a.length→i<k→bm (a.drop i)=bm (b.drop i)→
  ∃r,nI a b k ((i:Int)-1)=some r∧-9≤r∧r≤9∧c3 r 0=c3 (bm a) (bm b):=by
 intro k;induction k with
 |zero=>intro i h1 h2;omega
 |succ k ih=>
  intro i h1 h2 he;rw[nI];cases i with
  |zero=>
   rw[show decide ((0:Int)≤((0:Nat):Int)-1)=false from rfl,ai];simp only[List.drop_zero]at he;exact⟨0,rfl,by omega,by omega,by rw[he,c3_self,c3_self]⟩
  |succ i=>
   have hia:i<a.length:=by omega
   have hib:i<b.length:=by omega
   have e1:((i+1:Nat):Int)-1=(i:Int):=by omega
   have aa:at? a (i:Int)=some a[i]:=by unfold at?;simp[hia]
   have bb:at? b (i:Int)=some b[i]:=by unfold at?;simp[hib]
   rw[e1,show decide ((0:Int)≤(i:Int))=true by simp,ap,aa,bb];simp only[ay];have da:a.drop i=a[i]::a.drop (i+1):=List.drop_eq_getElem_cons hia;have db:b.drop i=b[i]::b.drop (i+1):=List.drop_eq_getElem_cons hib;have ra:=ha a[i] (gd hia);have rb:=hb b[i] (gd hib);by_cases hne:a[i]=b[i]
   ·rw[show(a[i] != b[i])=false by simp[hne],ai,j9 (by omega) (by omega)];refine ih i (by omega) (by omega) ?_;rw[da,db];simp only[bm];omega
   ·rw[show(a[i] != b[i])=true by simp[hne],ap,j9 (by omega) (by omega)];refine⟨_,rfl,by omega,by omega,?_⟩;have va:bm a=bm (a.take i)+cw i*bm (a.drop i):=by
     have:=fK (a.take i) (a.drop i);rw[List.take_append_drop,List.length_take,Nat.min_eq_left (by omega)]at this;exact this
    have vb:bm b=bm (b.take i)+cw i*bm (b.drop i):=by
     have:=fK (b.take i) (b.drop i);rw[List.take_append_drop,List.length_take,Nat.min_eq_left (by omega)]at this;exact this
    have la:=pJ (l:=a.take i) (fun x hx=>ha x (List.mem_of_mem_take hx));have lb:=pJ (l:=b.take i) (fun x hx=>hb x (List.mem_of_mem_take hx));have na:=jo (l:=a.take i) (fun x hx=>ha x (List.mem_of_mem_take hx));have nb:=jo (l:=b.take i) (fun x hx=>hb x (List.mem_of_mem_take hx));rw[List.length_take,Nat.min_eq_left (by omega)]at la lb;rw[da]at va;rw[db]at vb;simp only[bm]at va vb;have hp:=p10n i;have key:cw i*(a[i]+10*bm (a.drop (i+1)))-cw i*(b[i]+10*bm (b.drop (i+1)))=cw i*(a[i]-b[i]):=by
     rw[←Int.mul_sub,he];congr 1;omega
    unfold c3;rcases Int.lt_or_gt_of_ne hne with hlt|hgt
    ·have:cw i*(a[i]-b[i])≤cw i*(-1):=Int.mul_le_mul_of_nonneg_left (by omega) (by omega);rw[if_pos (by omega),if_pos (by omega)]
    ·have:cw i*1≤cw i*(a[i]-b[i]):=Int.mul_le_mul_of_nonneg_left (by omega) (by omega);rw[if_neg (by omega),if_pos (by omega),if_neg (by omega),if_pos (by omega)]
theorem MH{a b:List Int}(ha:gu a)(hb:gu b)(ta:E0 a)(tb:E0 b)(la:a.length<1000)(lb:b.length<1000):∃r,wH a b=some r∧-1000≤r∧r≤1000∧c3 r 0=c3 (bm a) (bm b):=by
 unfold wH;by_cases hl:a.length=b.length
 ·rw[show((a.length:Int) != (b.length:Int))=false by simp[hl],ai,j9 (by omega) (by omega)];obtain⟨r,h1,h2,h3,h4⟩:=HZ ha hb hl (by omega) aH a.length (iO _) (by rw[aF];omega) (by rw[List.drop_length,hl,List.drop_length]);exact⟨r,h1,by omega,by omega,h4⟩
 ·have hne:((a.length:Int) != (b.length:Int))=true:=by simp;omega
  rw[hne,ap,j9 (by omega) (by omega)];refine⟨_,rfl,by omega,by omega,?_⟩;have l1:=pJ ha;have l2:=pJ hb;rcases Nat.lt_or_gt_of_ne hl with h|h
  ·have g:=vZ hb tb (by rintro rfl;simp at h);have:=xy (show a.length≤b.length-1 by omega);unfold c3;rw[if_pos (by omega),if_pos (by omega)]
  ·have g:=vZ ha ta (by rintro rfl;simp at h);have:=xy (show b.length≤a.length-1 by omega);unfold c3;rw[if_neg (by omega),if_pos (by omega),if_neg (by omega),if_pos (by omega)]
structure RW(r:dj)(n:Int):Prop where
 dg:gu r.d
 tp:E0 r.d
 ln:r.d.length<100
 vl:(if r.below=true then -bm r.d else bm r.d)=n
 bl:r.below=true→0<bm r.d
theorem Oh{a b:dj}{m n:Int}(ha:RW a m)(hb:RW b n):sI a b=some (c3 m n):=by
 obtain⟨da,ta,la,va,ba⟩:=ha;obtain⟨db,tb,lb,vb,bb⟩:=hb;have pa:=jo da;have pb:=jo db;obtain⟨r,h1,h2,h3,h4⟩:=MH da db ta tb (by omega) (by omega);unfold sI;rw[h1];simp only[ay];have fin:∀x:Int,lQ x=some (c3 x 0):=by
  intro x;unfold lQ c3;by_cases h:x<0
  ·simp[h,aD]
  ·by_cases k:0<x<;>simp[h,k,aD]
 by_cases hs:a.below=b.below
 ·rw[show(!(a.below==b.below))=false by simp[hs],ai,j9 (by omega) (by omega),fin,fin];rw[←hs]at vb;cases hbel:a.below with
  |true=>
   rw[ap];rw[hbel]at va vb;simp only[if_true]at va vb;congr 1;subst va;subst vb;have e:c3 (0-r) 0= -c3 r 0:=by unfold c3;by_cases x1:r<0<;>by_cases x2:0<r<;>simp[x1,x2]<;>omega
   have e2:c3 (-bm a.d) (-bm b.d)= -c3 (bm a.d) (bm b.d):=by unfold c3;by_cases x1:bm a.d<bm b.d<;>by_cases x2:bm b.d<bm a.d<;>simp[x1,x2]<;>omega
   rw[e,e2,h4]
  |false=>
   rw[ai];rw[hbel]at va vb;simp only[Bool.false_eq_true,if_false]at va vb;subst va;subst vb;rw[h4]
 ·have hb2:=(Gi a.below b.below hs)
  rw[hb2.1,ap];cases hbel:a.below with
  |true=>
   have hb0:b.below=false:=by have:=hb2.2;rw[hbel]at this;simpa using this
   rw[ap];rw[hbel]at va;rw[hb0]at vb;simp only[if_true,Bool.false_eq_true,if_false]at va vb;have:=ba hbel;unfold c3;rw[if_pos (by omega)]
  |false=>
   have hb0:b.below=true:=by have:=hb2.2;rw[hbel]at this;simpa using this
   rw[ai];rw[hbel]at va;rw[hb0]at vb;simp only[if_true,Bool.false_eq_true,if_false]at va vb;have:=bb hb0;unfold c3;rw[if_neg (by omega),if_pos (by omega)]
def ab(n:Int):Int:=if n<0 then -n else n
theorem JP{l:List Int}{x:Int}(h:gu l)(hx:0≤x∧x≤9):gu (l++[x]):=by
 intro d hd;rcases List.mem_append.1 hd with h1|h1
 ·exact h d h1
 ·simp at h1;subst h1;exact hx
theorem Do{n:Int}(hn0: -9223372036854775808≤n)(hn1:n≤9223372036854775807):∀(k:Nat) (l:List Int) (m:Int),l.length≤19→19-l.length<k→gu l→(m=0→E0 l)→ab m<cw (19-l.length)→-9223372036854775808≤m→m≤9223372036854775807→ab n=bm l+cw l.length*ab m→
  ∃d,cZ n k l m=some ⟨decide (n<0),d⟩∧gu d∧E0 d∧d.length≤19∧bm d=ab n:=by
 intro k;induction k with
 |zero=>intro l m h1 h2;omega
 |succ k ih=>
  intro l m hl hk hd ht hm m0 m1 hv;rw[cZ];by_cases h0:m=0
  ·subst h0;rw[show((0:Int) != 0)=false from rfl,ai];exact⟨l,rfl,hd,ht rfl,hl,by simp[ab]at hv⊢;omega⟩
  ·have hlen:l.length<19:=by
    apply Classical.byContradiction;intro hn;have:l.length=19:=by omega
    rw[this]at hm;simp only[Nat.sub_self,cw]at hm;unfold ab at hm;split at hm<;>omega
   rw[show(m != 0)=true by simp[h0],ap];have hq:m.tdiv 10=if m<0 then -((-m)/10)else m/10:=by
    by_cases hneg:m<0
    ·rw[if_pos hneg];have:m= -(-m):=by omega
     rw[this,Int.neg_tdiv,Int.neg_neg,Int.tdiv_eq_ediv_of_nonneg (by omega)]
    ·rw[if_neg hneg,Int.tdiv_eq_ediv_of_nonneg (by omega)]
   have hr:m.tmod 10=if m<0 then -((-m)%10)else m%10:=by
    by_cases hneg:m<0
    ·rw[if_pos hneg];have:m= -(-m):=by omega
     rw[this,Int.neg_tmod,Int.neg_neg,Int.tmod_eq_emod_of_nonneg (by omega)]
    ·rw[if_neg hneg,Int.tmod_eq_emod_of_nonneg (by omega)]
   have step:∀x,x=ab m%10→mZ (cZ n k) l m x=cZ n k (l++[ab m%10]) (m.tdiv 10):=by
    intro x hx;unfold mZ;rw[bh (by omega),hx,j9 (by rw[hq];split<;>omega) (by rw[hq];split<;>omega)]
   have hgo:cZ n k (l++[ab m%10]) (m.tdiv 10)=cZ n k (l++[ab m%10]) (m.tdiv 10):=rfl;have habq:ab (m.tdiv 10)=ab m/10:=by
    rw[hq];unfold ab;by_cases hneg:m<0
    ·simp only[hneg,if_true];split<;>omega
    ·simp only[hneg,if_false];split<;>omega
   have hab0:0≤ab m:=by unfold ab;split<;>omega
   have hp:cw (19-l.length)=cw (19-(l++[ab m%10]).length)*10:=by
    rw[show 19-l.length=(19-(l++[ab m%10]).length)+1 by simp;omega];rfl
   have nxt:=ih (l++[ab m%10]) (m.tdiv 10) (by simp;omega) (by simp;omega) (JP hd (by omega)) (fun hz=>by
     intro d hdl;simp at hdl;subst hdl;have h1:ab m/10=0:=by rw[←habq,hz];rfl
     have h2:ab m≠0:=by unfold ab;split<;>omega
     omega) (by rw[habq];rw[hp]at hm;omega) (by rw[hq];split<;>omega) (by rw[hq];split<;>omega) (by
     rw[fK,List.length_append,List.length_singleton,habq,hv];simp only[bm,cw];have e:ab m=ab m%10+10*(ab m/10):=by omega
     have e2:cw l.length*ab m=cw l.length*(ab m%10)+cw l.length*10*(ab m/10):=by
      rw[Int.mul_assoc,←Int.mul_add,←e]
     rw[e2];simp only[Int.mul_zero,Int.add_zero];omega)
   by_cases hneg:m.tmod 10<0
   ·rw[show decide (m.tmod 10<0)=true by simpa using hneg,ap];have hx:i64.wrap (0-m.tmod 10)=ab m%10:=by
     rw[j9 (by rw[hr];split<;>omega) (by rw[hr];split<;>omega)];rw[hr]at hneg⊢;unfold ab;by_cases h:m<0
     ·simp only[h,if_true];omega
     ·simp only[h,if_false]at hneg;omega
    rw[step _ hx];exact nxt
   ·rw[show decide (m.tmod 10<0)=false by simpa using hneg,ai];have hx:m.tmod 10=ab m%10:=by
     rw[hr]at hneg⊢;unfold ab;by_cases h:m<0
     ·simp only[h,if_true]at hneg⊢;omega
     ·simp only[h,if_false]
    rw[step _ hx];exact nxt
theorem LT{v:ac}(hn:i6q v.n)(hs:inR v.scale):∃r,rG v=some r∧RW r (v.n*cw (12-v.scale).toNat):=by
 obtain⟨n0,n1⟩:=hn;obtain⟨s0,s1⟩:=hs;have hab:ab v.n≤9223372036854775808:=by unfold ab;split<;>omega
 obtain⟨d,h1,h2,h3,h4,h5⟩:=Do n0 n1 aH [] v.n (by simp) (by rw[aF];decide) (fun x hx=>by cases hx) (fun _ x hx=>by simp at hx) (by
  have:cw (19-([]:List Int).length)=10000000000000000000:=by decide
  rw[this];omega) n0 n1 (by simp[bm,cw])
 unfold rG pf;rw[h1];simp only[ay];rw[j9 (by omega) (by omega)];unfold BG;have hpp:=u5 (12-v.scale).toNat;by_cases he:d=[]
 ·subst he;have hz:v.n=0:=by simp only[bm]at h5;unfold ab at h5;split at h5<;>omega
  rw[show(((⟨decide (v.n<0),[]⟩:dj).d.length:Int)==0)=true from rfl,ap];refine⟨_,rfl,⟨h2,h3,by simp,?_,?_⟩⟩
  ·simp[hz,bm]
  ·simp[hz]
 ·have hlen:((d.length:Int)==0)=false:=by
   rw[beq_eq_false_iff_ne];have:d.length≠0:=fun h=>he (List.length_eq_zero_iff.1 h)
   omega
  simp only;rw[hlen,ai,bh (by omega),bh (by simp;omega)];have hval:bm (List.replicate (12-v.scale).toNat 0++d)=ab v.n*cw (12-v.scale).toNat:=by
   rw[fK,wL,List.length_replicate,h5,Int.mul_comm];omega
  have hpos:0<ab v.n:=by
   have h6:=vZ h2 h3 he;have:=p10n (d.length-1);omega
  refine⟨_,rfl,⟨fun x hx=> ?_,fun x hx=> ?_,by simp;omega,?_,fun _=> ?_⟩⟩
  ·rcases List.mem_append.1 hx with h|h
   ·have:=List.eq_of_mem_replicate h;omega
   ·exact h2 x h
  ·rw[List.getLast?_append]at hx;cases hg:d.getLast? with
   |none=>exact absurd (List.getLast?_eq_none_iff.1 hg) he
   |some y=>rw[hg]at hx;simp at hx;subst hx;exact h3 _ hg
  ·simp only;rw[hval];by_cases hneg:v.n<0
   ·simp only[hneg,decide_true,if_true,ab];rw[Int.neg_mul,Int.neg_neg]
   ·simp only[hneg,decide_false,Bool.false_eq_true,if_false,ab]
  ·simp only;rw[hval];exact Int.mul_pos hpos (by omega)
theorem QY{s t:ByteArray}(hs:s.size<1000000000000000):∀(k i:Nat),i≤s.size→i≤t.size→s.size<i+k→
  md s t k (i:Int)=some (cB (s.data.toList.drop i) (t.data.toList.drop i)):=by
 have ls:s.data.toList.length=s.size:=by simp
 have lt:t.data.toList.length=t.size:=by simp
 intro k;induction k with
 |zero=>intro i h1 h2 h3;omega
 |succ k ih=>
  intro i h1 h2 h3;rw[md];unfold xe AX;simp only[By,ay];by_cases hi:i<s.size
  ·have e1:s.data.toList.drop i=s.data.toList[i]'(by omega)::s.data.toList.drop (i+1):=List.drop_eq_getElem_cons (by omega);rw[show decide ((i:Int)<(s.size:Int))=true by simpa using hi,ap];by_cases hj:i<t.size
   ·have e2:t.data.toList.drop i=t.data.toList[i]'(by omega)::t.data.toList.drop (i+1):=List.drop_eq_getElem_cons (by omega);have g1:s.data.toList.getD (i:Int).toNat 0=s.data.toList[i]'(by omega):=by simp[List.getD,hi]
    have g2:t.data.toList.getD (i:Int).toNat 0=t.data.toList[i]'(by omega):=by simp[List.getD,hj]
    rw[show decide ((i:Int)<(t.size:Int))=true by simpa using hj,ap,bh (by omega),bh (by omega),bh (by omega),bh (by omega),g1,g2,e1,e2,cB_cons];generalize s.data.toList[i]'(by omega)=x;generalize t.data.toList[i]'(by omega)=y;have hx:=x.toNat_lt;have hy:=y.toNat_lt;rw[j9 (x:=(x.toNat:Int)) (by omega) (by omega),j9 (x:=(y.toNat:Int)) (by omega) (by omega)];by_cases hxy:(x.toNat:Int)=y.toNat
    ·rw[show((x.toNat:Int) != (y.toNat:Int))=false by rw[bne_eq_false_iff_eq];exact hxy,ai,j9 (by omega) (by omega),show(i:Int)+1=((i+1:Nat):Int) by omega,ih (i+1) (by omega) (by omega) (by omega),hxy,c3_self,or_zero]
    ·rw[show((x.toNat:Int) != (y.toNat:Int))=true by rw[bne_iff_ne];exact hxy,ap];unfold or';rw[if_pos (by unfold c3;split<;>(try split)<;>omega)]
   ·have e2:t.data.toList.drop i=[]:=List.drop_of_length_le (by omega);rw[show decide ((i:Int)<(t.size:Int))=false by simpa using hj,ai,e1,e2];have:cB (s.data.toList[i]'(by omega)::s.data.toList.drop (i+1)) []=1:=by simp[cB,Op.bytesLess]
    rw[this];unfold c3;rw[if_neg (by omega),if_pos (by omega)]
  ·have e1:s.data.toList.drop i=[]:=List.drop_of_length_le (by omega);rw[show decide ((i:Int)<(s.size:Int))=false by simpa using hi,ai,ai,e1];by_cases hj:i<t.size
   ·have e2:t.data.toList.drop i=t.data.toList[i]'(by omega)::t.data.toList.drop (i+1):=List.drop_eq_getElem_cons (by omega);rw[e2];have:cB [] (t.data.toList[i]'(by omega)::t.data.toList.drop (i+1))= -1:=by simp[cB,Op.bytesLess]
    rw[this];unfold c3;rw[if_pos (by omega)]
   ·have e2:t.data.toList.drop i=[]:=List.drop_of_length_le (by omega);rw[e2];have:cB [] []=0:=by simp[cB,Op.bytesLess]
    rw[this];unfold c3;rw[if_neg (by omega),if_neg (by omega)]
theorem Wz{s t:ByteArray}(hs:s.size<1000000000000000):zt s t=some (cS s t):=by
 unfold zt;have:=QY (t:=t) hs aH 0 (Nat.zero_le _) (Nat.zero_le _) (by rw[aF];omega);rw[show((0:Nat):Int)=0 from rfl]at this;rw[this,List.drop_zero,List.drop_zero,cS_eq];have e1:s.toList=s.data.toList:=by simp[ByteArray.toList_eq]
 have e2:t.toList=t.data.toList:=by simp[ByteArray.toList_eq]
 rw[e1,e2]
theorem Ps(f:ac→ac→Option Int)(a b:ac)(hl:a.items.length<1000000000000000)(hf:∀x∈a.items,∀y∈b.items,f x y=some (cmpV x y)):∀(k i:Nat),i≤a.items.length→i≤b.items.length→a.items.length<i+k→
  iS f a b k (i:Int)=some (cmpL (a.items.drop i) (b.items.drop i)):=by
 intro k;induction k with
 |zero=>intro i h1 h2 h3;omega
 |succ k ih=>
  intro i h1 h2 h3;rw[iS];unfold tZ ye;rw[By];simp only[ay];by_cases hi:i<a.items.length
  ·have e1:a.items.drop i=a.items[i]::a.items.drop (i+1):=List.drop_eq_getElem_cons hi;have a1:at? a.items (i:Int)=some a.items[i]:=by unfold at?;simp[hi]
   rw[show decide ((i:Int)<(a.items.length:Int))=true by simp[hi],ap,a1,e1];simp only[ay];by_cases hj:i<b.items.length
   ·have e2:b.items.drop i=b.items[i]::b.items.drop (i+1):=List.drop_eq_getElem_cons hj;have a2:at? b.items (i:Int)=some b.items[i]:=by unfold at?;simp[hj]
    rw[show decide ((i:Int)<(b.items.length:Int))=true by simp[hj],ap,a2,e2];simp only[ay];rw[hf _ (gd hi) _ (gd hj)];simp only[ay,cmpL];unfold or';by_cases hc:cmpV a.items[i] b.items[i]=0
    ·have e:(cmpV a.items[i] b.items[i] != 0)=false:=by simp[hc]
     rw[e,ai,j9 (by omega) (by omega),show(i:Int)+1=((i+1:Nat):Int) by omega,ih (i+1) (by omega) (by omega) (by omega),if_neg (by simp[hc])]
    ·have e:(cmpV a.items[i] b.items[i] != 0)=true:=by simp[hc]
     rw[e,ap,if_pos hc]
   ·have e2:b.items.drop i=[]:=List.drop_of_length_le (by omega);rw[show decide ((i:Int)<(b.items.length:Int))=false by simp;omega,ai,e2];simp only[cmpL];unfold c3;rw[if_neg (by omega),if_pos (by omega)]
  ·have e1:a.items.drop i=[]:=List.drop_of_length_le (by omega);rw[show decide ((i:Int)<(a.items.length:Int))=false by simp;omega,ai,ai,e1];by_cases hj:i<b.items.length
   ·have e2:b.items.drop i=b.items[i]::b.items.drop (i+1):=List.drop_eq_getElem_cons hj;rw[e2];simp only[cmpL];unfold c3;rw[if_pos (by omega)]
   ·have e2:b.items.drop i=[]:=List.drop_of_length_le (by omega);rw[e2];simp only[cmpL];unfold c3;rw[if_neg (by omega),if_neg (by omega)]
theorem Gz{a b:Int}(h:a≠b):c3 a b≠0:=by unfold c3;split<;>(try split)<;>omega
theorem De{x:Int}(h:x≠0)(y:Int):or' x y=x:=by unfold or';rw[if_pos h]
theorem rcompareV_eq:∀(N:Nat) (a b:ac) (k:Nat),bE a≤N→bE a<1000000000000000→wfV a→wfV b→N+1≤k→bJ k a b=some (cmpV a b):=by
 intro N;induction N with
 |zero=>intro a b k h;have:=rY a;omega
 |succ N ih=>
  intro a b k hN hbig ha hb hk;obtain⟨k',rfl⟩:∃k',k=k'+1:=⟨k-1,by omega⟩
  obtain⟨ka,na,sa,ta,ia⟩:=a;obtain⟨kb,nb,sb,tb,ib⟩:=b;simp only[wfV]at ha hb;obtain⟨wk,wn,ws,wi⟩:=ha;obtain⟨vk,vn,vs,vi⟩:=hb;simp only[bE]at hN hbig;have hlen:=gx ia;have hitems:iS (bJ k') ⟨ka,na,sa,ta,ia⟩ ⟨kb,nb,sb,tb,ib⟩ aH 0=some (cmpL ia ib):=by
   have:=Ps (bJ k') ⟨ka,na,sa,ta,ia⟩ ⟨kb,nb,sb,tb,ib⟩ (by simp only;omega) (fun x hx y hy=>by
    have h1:bE x≤cN ia:=gA hx;exact ih x y k' (by omega) (by omega) (GU wi hx) (GU vi hy) (by omega)) aH 0 (Nat.zero_le _) (Nat.zero_le _) (by rw[aF];simp only;omega)
   simpa using this
  have htx:zt ta tb=some (cS ta tb):=Wz (by omega);have j2f:nB (bJ k') ⟨ka,na,sa,ta,ia⟩ ⟨kb,nb,sb,tb,ib⟩ false=some (or' (c3 sa sb) (or' (cS ta tb) (cmpL ia ib))):=by
   unfold nB;rw[ai,htx,hitems];simp only[By,ay];by_cases hs:sa=sb
   ·subst hs;rw[show(sa != sa)=false by simp,ai,c3_self,or_zero];by_cases hc:cS ta tb=0
    ·rw[show(cS ta tb != 0)=false by simp[hc],ai,hc,or_zero]
    ·rw[show(cS ta tb != 0)=true by simp[hc],ap,De hc]
   ·rw[show(sa != sb)=true by simp[hs],ap,De (Gz hs)]
  rw[bJ];simp only[By,ay,cmpV];by_cases h0:ka=0
  ·subst h0;by_cases h1:kb=0
   ·subst h1;rfl
   ·have e:((kb==0):Bool)=false:=beq_eq_false_iff_ne.2 h1;have n2:GT kb=0:=by unfold GT;rw[if_neg h1]
    rw[e,n2];rfl
  ·have e0:((ka==0):Bool)=false:=beq_eq_false_iff_ne.2 h0;have n1:GT ka=0:=by unfold GT;rw[if_neg h0]
   rw[e0,n1];by_cases h1:kb=0
   ·subst h1;rfl
   ·have e1:((kb==0):Bool)=false:=beq_eq_false_iff_ne.2 h1;have n2:GT kb=0:=by unfold GT;rw[if_neg h1]
    rw[e1,n2,c3_self,or_zero];rw[show(!((false:Bool)==false))=false from rfl,ai,ai];by_cases hkk:ka=kb
    ·subst hkk;rw[show(ka != ka)=false by simp,ai,c3_self,or_zero,if_neg h0];by_cases h3:ka=3
     ·subst h3;rw[show((3:Int)==3)=true from rfl,ap];have j1:ny (bJ k') ⟨3,na,sa,ta,ia⟩ ⟨3,nb,sb,tb,ib⟩=some (or' (c3 sa sb) (or' (cS ta tb) (cmpL ia ib))):=by
       unfold ny;rw[show(((3:Int) != 3):Bool)=false from rfl,j2f];rcases Bool.eq_false_or_eq_true (na != nb)with h|h<;>rw[h]<;>rfl
      rw[j1];unfold Bn;simp only[VV,ay,By];by_cases hA:0≤sa∧sa≤12
      ·have hiA:inR sa:=hA;have eA:decide (0≤sa∧sa≤12)=true:=by simpa using hA
       have o1:EP 3 sa=0:=by unfold EP;rw[if_neg (by simp[hiA])]
       by_cases hB:0≤sb∧sb≤12
       ·have hiB:inR sb:=hB;have eB:decide (0≤sb∧sb≤12)=true:=by simpa using hB
        have o2:EP 3 sb=0:=by unfold EP;rw[if_neg (by simp[hiB])]
        obtain⟨r1,g1,g2⟩:=LT (v:=⟨3,na,sa,ta,ia⟩) wn hiA;obtain⟨r2,f1,f2⟩:=LT (v:=⟨3,nb,sb,tb,ib⟩) vn hiB;rw[eA,eB,g1,f1];simp only[ay];rw[Oh g2 f2];simp only[ay];rw[show(!((true:Bool)==true))=false from rfl,ai,ap];have u1:vvI 3 sa na=na*cw (12-sa).toNat:=by unfold vvI;rw[if_pos ⟨rfl,hiA⟩]
        have u2:vvI 3 sb nb=nb*cw (12-sb).toNat:=by unfold vvI;rw[if_pos ⟨rfl,hiB⟩]
        rw[o1,o2,c3_self,or_zero,u1,u2];by_cases hc:c3 (na*cw (12-sa).toNat) (nb*cw (12-sb).toNat)=0
        ·rw[hc];rw[show((0:Int) != 0)=false from rfl,ai,ay,or_zero];by_cases hs:sa=sb
         ·subst hs;rw[c3_self,show((0:Int) != 0)=false from rfl,ai]
         ·rw[show(c3 sa sb != 0)=true by simp[Gz hs],ap,De (Gz hs)]
        ·have hcb:(c3 (na*cw (12-sa).toNat) (nb*cw (12-sb).toNat) != 0)=true:=by simp[hc]
         rw[hcb,ap,ay,hcb,ap,De hc]
       ·have hiB:¬inR sb:=hB;have eB:decide (0≤sb∧sb≤12)=false:=by simpa using hB
        have o2:EP 3 sb=1:=by unfold EP;rw[if_pos ⟨rfl,hiB⟩]
        rw[eA,eB,o1,o2];rfl
      ·have hiA:¬inR sa:=hA;have eA:decide (0≤sa∧sa≤12)=false:=by simpa using hA
       have o1:EP 3 sa=1:=by unfold EP;rw[if_pos ⟨rfl,hiA⟩]
       have u1:vvI 3 sa na=na:=by unfold vvI;rw[if_neg (by simp[hiA])]
       by_cases hB:0≤sb∧sb≤12
       ·have hiB:inR sb:=hB;have eB:decide (0≤sb∧sb≤12)=true:=by simpa using hB
        have o2:EP 3 sb=0:=by unfold EP;rw[if_neg (by simp[hiB])]
        rw[eA,eB,o1,o2];rfl
       ·have hiB:¬inR sb:=hB;have eB:decide (0≤sb∧sb≤12)=false:=by simpa using hB
        have o2:EP 3 sb=1:=by unfold EP;rw[if_pos ⟨rfl,hiB⟩]
        have u2:vvI 3 sb nb=nb:=by unfold vvI;rw[if_neg (by simp[hiB])]
        rw[eA,eB,o1,o2,c3_self,or_zero,u1,u2];rw[show(!((false:Bool)==false))=false from rfl,ai,ai];by_cases hn:na=nb
        ·subst hn;rw[show(na != na)=false by simp,ai,ay,c3_self,or_zero];by_cases hs:sa=sb
         ·subst hs;rw[c3_self,show((0:Int) != 0)=false from rfl,ai]
         ·rw[show(c3 sa sb != 0)=true by simp[Gz hs],ap,De (Gz hs)]
        ·rw[show(na != nb)=true by simp[hn],ap,ay,show(c3 na nb != 0)=true by simp[Gz hn],ap,De (Gz hn)]
     ·rw[beq_eq_false_iff_ne.2 h3,ai];have o1:∀q,EP ka q=0:=fun q=>by unfold EP;rw[if_neg (by simp[h3])]
      have u1:∀q r,vvI ka q r=r:=fun q r=>by unfold vvI;rw[if_neg (by simp[h3])]
      rw[o1,o1,c3_self,or_zero,u1,u1];unfold ny;simp only;rw[show(ka != 3)=true by simp[h3]];by_cases hn:na=nb
      ·subst hn;rw[show(na != na)=false by simp,ai,j2f,c3_self,or_zero]
      ·rw[show(na != nb)=true by simp[hn],ap,De (Gz hn)];unfold nB;simp only[ap,By,ay]
    ·rw[show(ka != kb)=true by simp[hkk],ap,De (Gz hkk)]
end Go.Proofs.YtpiohnabdhpphaaGreatDoor.Ord
namespace Go.Proofs.YtpiohnabdhpphaaGreatDoor
open Go Go.SX Go.SX.Cal
open Go.IntKind (i64)
theorem Ph{t:al}{v:ac}(hv:bE v<1000000000)(hT:jm t<1000000000)(h:ck t v=0):V t∧Um 4 v∧Hg 4 t v=true:=by
 obtain⟨e,h1,h2,h3⟩:=nQ t hT;have hc:=Qu hv hT;rw[h]at hc;unfold gN at hc;rw[h1,A9 v hv]at hc;simp only[au]at hc;by_cases he:e=0
 ·subst he;have ht:=h3 rfl;cases hs:qt v with
  |false=>rw[hs]at hc;cases hc
  |true=>
   have hS:Um 4 v:=⟨0,hs⟩
   obtain⟨a,b⟩:=ZJ 4 aH aH t v hS ht hv hT (by rw[aF];omega) (by rw[aF];omega);rw[hs,a]at hc;cases ho:Hg 4 t v with
   |false=>rw[ho]at hc;cases hc
   |true=>exact⟨ht,hS,rfl⟩
 ·rw[show(e != (0:Int))=true by simp[he]]at hc;cases hc;exact absurd rfl he
structure Lv(v:ac):Prop where
 k:0≤v.kind∧v.kind≤5
 n: -999999999999999999≤v.n∧v.n≤999999999999999999
 it:v.items=[]
 s:v.s.size≤256
 sc:0≤v.scale∧v.scale≤12
 nul:v.kind=0→v.n=0∧v.scale=0∧v.s.size=0
theorem Ov{v:ac}(h:df v=true)(h6:v.kind≠6)(h7:v.kind≠7):Lv v:=by
 have hi:=pc h h6 h7;unfold df A4 at h;simp only at h;split at h
 ·simp only[iu,decide_eq_true_eq,beq_iff_eq]at h;exact⟨by omega,by omega,hi,by omega,by omega,fun _=>by omega⟩
 ·split at h
  ·simp only[iu,decide_eq_true_eq,beq_iff_eq]at h;exact⟨by omega,by omega,hi,by omega,by omega,fun _=>by omega⟩
  ·split at h
   ·simp only[iu,decide_eq_true_eq,beq_iff_eq]at h;exact⟨by omega,by omega,hi,by omega,by omega,fun _=>by omega⟩
   ·split at h
    ·simp only[iu,decide_eq_true_eq,beq_iff_eq]at h;exact⟨by omega,by omega,hi,by omega,by omega,fun _=>by omega⟩
    ·split at h
     ·simp only[iu,decide_eq_true_eq,beq_iff_eq]at h;exact⟨by omega,by omega,hi,by omega,by omega,fun _=>by omega⟩
     ·split at h
      ·simp only[iu,decide_eq_true_eq,beq_iff_eq]at h;exact⟨by omega,by omega,hi,by omega,by omega,fun _=>by omega⟩
      ·cases h
theorem th{t:al}{v:ac}(hv:bE v<1000000000)(hT:jm t<1000000000)(h6:t.kind≠6)(h7:t.kind≠7)(h:ck t v=0):Lv v:=by
 obtain⟨ht,hS,ho⟩:=Ph hv hT h;obtain⟨hp,_⟩:=hS.succ;have hk:v.kind=0∨v.kind=t.kind:=by
  simp only[Hg]at ho;by_cases h0:v.kind=0
  ·exact .inl h0
  ·rw[if_neg h0]at ho;by_cases h1:v.kind=t.kind
   ·exact .inr h1
   ·rw[if_pos h1]at ho;cases ho
 exact Ov hp (by rcases hk with h|h<;>omega) (by rcases hk with h|h<;>omega)
theorem Lv.wf{v:ac}(h:Lv v):Ord.wfV v:=by
 obtain⟨k,n,sc,s,it⟩:=v;obtain⟨h1,h2,h3,h4,h5,h6⟩:=h;simp only at h1 h2 h3 h5;subst h3;simp only[Ord.wfV,Ord.wfL,Ord.i6q];exact⟨⟨by omega,by omega⟩,⟨by omega,by omega⟩,⟨by omega,by omega⟩,trivial⟩
theorem Lv.size{v:ac}(h:Lv v):bE v≤257:=by
 rw[qS,h.it];have:=h.s;simp only[cN];omega
theorem Mz{a b:ac}(ha:Lv a)(hb:Lv b):dz aH a b=some (Ord.cmpV a b):=by
 have h:=ha.size;exact Ord.compare_eq 257 a b aH h (by omega) ha.wf hb.wf (by rw[aF];omega)
theorem Hw{a b:ac}(ha:Lv a)(hb:Lv b):bJ aH a b=some (Ord.cmpV a b):=by
 have h:=ha.size;exact Ord.rcompareV_eq 257 a b aH h (by omega) ha.wf hb.wf (by rw[aF];omega)
theorem U3{a b:Int}:Ord.c3 a b=0↔a=b:=by
 unfold Ord.c3;split<;>(try split)<;>constructor<;>omega
theorem G6{x y:Int}:Ord.or' x y=0↔x=0∧y=0:=by
 unfold Ord.or';by_cases h:x=0<;>simp[h]
theorem aae{s t:ByteArray}:Ord.cS s t=0↔s.toList=t.toList:=by
 unfold Ord.cS;split
 ·rename_i h;constructor
  ·intro k;omega
  ·intro k;rw[k]at h;have:=Ord.cmpV_refl ⟨1,0,0,t,[]⟩;simp only[Ord.cmpV]at this;rw[G6,G6]at this;have:=this.2.2;rw[if_neg (by decide),G6,G6,G6,G6]at this;have:=this.2.2.2.1;unfold Ord.cS at this;rw[if_pos h]at this;omega
 ·split<;>simp_all
theorem Zv{s t:ByteArray}(h:s.toList=t.toList):s=t:=by
 rw[ByteArray.toList_eq,ByteArray.toList_eq]at h;exact ByteArray.ext (by rw[←Array.toArray_toList (xs:=s.data),←Array.toArray_toList (xs:=t.data),h])
theorem acJ{s t:ByteArray}(h1:s.size=0)(h2:t.size=0):s=t:=
 ByteArray.ext (by rw[Array.eq_empty_of_size_eq_zero h1,Array.eq_empty_of_size_eq_zero h2])
theorem aaN{a b:ac}(ha:Lv a)(hb:Lv b):Ord.cmpV a b=0↔a=b:=by
 constructor
 ·intro h;obtain⟨k,n,sc,s,it⟩:=a;obtain⟨k',n',sc',s',it'⟩:=b;have hi:=ha.it;have hi':=hb.it;simp only at hi hi';subst hi;subst hi';simp only[Ord.cmpV,G6,U3]at h;obtain⟨_,hk,h⟩:=h;subst hk;by_cases h0:k=0
  ·obtain⟨a1,a2,a3⟩:=ha.nul h0;obtain⟨b1,b2,b3⟩:=hb.nul h0;simp only at a1 a2 a3 b1 b2 b3;rw[a1,a2,b1,b2,acJ a3 b3]
  ·rw[if_neg h0,G6,G6,G6,G6,U3,U3,U3,aae]at h;obtain⟨_,hv,hs,ht,_⟩:=h;subst hs;have hn:n=n':=by
    unfold Ord.vvI at hv;by_cases h3:k=3∧Ord.inR sc
    ·rw[if_pos h3,if_pos h3]at hv;have:=Ord.p10n (12-sc).toNat;exact Int.eq_of_mul_eq_mul_right (by omega) hv
    ·rw[if_neg h3,if_neg h3]at hv;exact hv
   rw[hn,Zv ht]
 ·rintro rfl;exact Ord.cmpV_refl a
def Xk(a b:ac):Bool:=Ord.cmpV a b==0
theorem GO{a b:ac}(ha:Lv a)(hb:Lv b):Xk a b=true↔a=b:=by
 unfold Xk;rw[beq_iff_eq];exact aaN ha hb
theorem JT{a b:ac}(ha:Lv a)(hb:Lv b):fc aH a b=some (Xk a b):=by
 have key:(if a.kind=b.kind∧a.n=b.n∧a.scale=b.scale∧a.s.toList=b.s.toList then true else false)=Xk a b:=by
  refine lm ?_;rw[GO ha hb];by_cases h:a.kind=b.kind∧a.n=b.n∧a.scale=b.scale∧a.s.toList=b.s.toList
  ·rw[if_pos h];refine⟨fun _=> ?_,fun _=>rfl⟩;obtain⟨k,n,sc,s,it⟩:=a;obtain⟨k',n',sc',s',it'⟩:=b;have hi:=ha.it;have hi':=hb.it;simp only at hi hi' h;obtain⟨rfl,rfl,rfl,h⟩:=h;rw[hi,hi',Zv h]
  ·rw[if_neg h];refine⟨(fun h=>by cases h),?_⟩;rintro rfl;exact absurd ⟨rfl,rfl,rfl,rfl⟩ h
 have hi:=ha.it;have hi':=hb.it;rw[Hl,fc.eq_2,←key];have ht:∀q,j6 q a b true=some false:=fun q=>rfl
 have hf:j6 (fc 1152921504606846975) a b ((a.items.length:Int) != (b.items.length:Int))=some true:=by
  rw[hi,hi'];show nF _ a b aH 0=_;rw[Hl,nF,hi];rfl
 rw[hf];simp only[ht,aD];by_cases h1:a.kind=b.kind<;>by_cases h2:a.n=b.n<;>by_cases h3:a.scale=b.scale<;>by_cases h4:a.s.toList=b.s.toList<;>simp[h1,h2,h3,h4]
theorem fG{e:Int}{f g:Option Int}(h:e=0→f=g):ee e f=ee e g:=by
 unfold ee;by_cases he:e=0
 ·simp[he,h he]
 ·simp[he]
theorem Uy{p:Nat→Bool}{e:Int}(he:e≠0):∀(m i:Nat),fe (fun j=>er (p j) e) m i=er (decide (∃j,j<m∧p (i+j)=true)) e
 |0,i=>by simp[fe,er]
 |m+1,i=>by
  rw[fe,Uy he m (i+1)];cases hp:p i with
  |true=>
   rw[RD,Ql he,decide_eq_true ⟨0,by omega,by simpa using hp⟩,RD]
  |false=>
   rw[NY,Pq];congr 1;refine decide_eq_decide.2 ⟨fun⟨j,a,b⟩=>⟨j+1,by omega,by rw[←b];congr 1;omega⟩,fun⟨j,a,b⟩=> ?_⟩;cases j with
   |zero=>rw[Nat.add_zero,hp]at b;cases b
   |succ j=>exact⟨j,by omega,by rw[←b];congr 1;omega⟩
theorem HN{p:Nat→Bool}{e:Int}(he:e≠0)(n:Nat):fe (fun j=>er (p j) e) n 0=er (lu p n) e:=by
 rw[Uy he];congr 1;refine lm ?_;rw[decide_eq_true_iff,dO];simp
def tpI(fs:List ae)(id:Int):Int:=(my fs id).getD 0
def tm(fs:List ae)(id:Int):ae:=((rk fs id).getD (⟨0,ByteArray.empty,false,⟨0,0,[]⟩⟩,false)).1
def Hc(fs:List ae)(id:Int):Bool:=((rk fs id).getD (⟨0,ByteArray.empty,false,⟨0,0,[]⟩⟩,false)).2
theorem zD{fs:List ae}(hn:fs.length<1000000000)(id:Int):
  my fs id=some (tpI fs id)∧rk fs id=some (tm fs id,Hc fs id)∧decide (tpI fs id<0)= !Hc fs id∧(Hc fs id=true→at? fs (tpI fs id)=some (tm fs id)∧tm fs id∈fs):=by
 unfold tpI tm Hc;rcases RN.or fs id with⟨i,hi⟩ |hi
 ·rw[Dt hn hi,yD hn hi];refine⟨rfl,rfl,?_,fun _=>⟨aB hi.lt,gd hi.lt⟩⟩;show decide ((i:Int)<0)=false;simp
 ·obtain⟨g,hg⟩:=CA hn hi;rw[Dn hn hi,hg];exact⟨rfl,rfl,rfl,fun h=>by cases h⟩
def tE(p:aT)(t:al):al×Int:=(cM p t).getD (Ba,0)
theorem Ko(p:aT){t:al}(h:jm t<1000000000):cM p t=some (tE p t)∧fR p t=some (tE p t)∧jm (tE p t).1<1000000000∧((tE p t).2=0→(tE p t).1.kind≠6∧(tE p t).1.kind≠7):=by
 obtain⟨e,h1,h2,h3⟩:=tt p t h;unfold tE;rw[h2,h3];refine⟨rfl,rfl,?_,?_⟩
 ·show jm (Kt p t e).1<_;unfold Kt X2 Ba;repeat' split
  all_goals first|(rw[pV];simp only[dt];omega) |exact h
 ·show(Kt p t e).2=0→_;intro h0;have k:=Qg h1 h0;have a:=k.k6;have b:=k.k7;show(Kt p t e).1.kind≠6∧(Kt p t e).1.kind≠7;have hc:(Kt p t e).1=⟨2,0,[]⟩∨(Kt p t e).1=t∨(Kt p t e).2≠0:=by
   unfold Kt X2 Ba;repeat' split
   all_goals simp_all
  rcases hc with hc|hc|hc
  ·rw[hc];exact⟨by decide,by decide⟩
  ·rw[hc];exact⟨a,b⟩
  ·exact absurd h0 hc
theorem lA(a b c:Int):dM a b c=some (decide (b≤a∧a≤c)):=by
 unfold dM tU;by_cases h1:b≤a<;>by_cases h2:a≤c<;>simp[h1,h2,aD]
structure Np(f:aj):Prop where
 name:f.name.size<1000000000
 part:f.part.length<1000000000∧∀v∈f.part,bE v<1000000000
 stats:f.stats.length<1000000000∧∀s∈f.stats,bE s.min<1000000000∧bE s.max<1000000000
structure Ws(f:aj):Prop where
 part:∀v∈f.part,Lv v
 stats:∀s∈f.stats,Lv s.min∧Lv s.max
def uy(f:ae):Bool:=decide (f.type.kind≠6∧f.type.kind≠7)
def CQ(fs:List ae):List ae:=fs.filter uy
theorem acS(p1:List ae)(f:aj)(hn:p1.length<1000000000):xO p1 f=oM f (CQ p1):=by
 have key:∀(m k i:Nat) (l:List ae),i+m=p1.length→m<k→l.length≤i→jU p1 f k l (i:Int)=oM f (l++CQ (p1.drop i)):=by
  intro m;induction m with
  |zero=>
   intro k i l hi hk hl;obtain⟨k,rfl⟩:=fu hk;rw[jU,FE (by omega),iF,List.drop_of_length_le (by omega)];simp[CQ]
  |succ m ih=>
   intro k i l hi hk hl;obtain⟨k,rfl⟩:=fu hk;have h1:i<p1.length:=by omega
   rw[jU,aS h1,iT,aB h1,bS,MG,bS];unfold ve;rw[aq h1 hn,Aw h1];have hf:CQ (p1[i]::p1.drop (i+1))=if uy p1[i]then p1[i]::CQ (p1.drop (i+1))else CQ (p1.drop (i+1)):=by unfold CQ;rw[List.filter_cons]
   rw[hf];show ak (uy p1[i]) _ _=_;cases hb:uy p1[i]with
   |true=>rw[iT,gP (by omega),ih k (i+1) _ (by omega) (by omega) (by simp;omega)];simp
   |false=>rw[iF,ih k (i+1) _ (by omega) (by omega) (by omega)];simp
 have:=key p1.length aH 0 [] (by omega) (by rw[aF];omega) (Nat.zero_le _);unfold xO;rw[show((0:Nat):Int)=0 from rfl]at this;rw[this,List.nil_append,List.drop_zero]
theorem acf(p1:List ae)(f:aj)(hn:p1.length<1000000000):qL f p1=lD f (CQ p1):=by
 have key:∀(m k i:Nat) (l:List ae),i+m=p1.length→m<k→l.length≤i→gq f p1 k l (i:Int)=lD f (l++CQ (p1.drop i)):=by
  intro m;induction m with
  |zero=>
   intro k i l hi hk hl;obtain⟨k,rfl⟩:=fu hk;rw[gq,FE (by omega),iF,List.drop_of_length_le (by omega)];simp[CQ]
  |succ m ih=>
   intro k i l hi hk hl;obtain⟨k,rfl⟩:=fu hk;have h1:i<p1.length:=by omega
   rw[gq,aS h1,iT,aB h1,bS,DU,bS];unfold qH;rw[aq h1 hn,Aw h1];have hf:CQ (p1[i]::p1.drop (i+1))=if uy p1[i]then p1[i]::CQ (p1.drop (i+1))else CQ (p1.drop (i+1)):=by unfold CQ;rw[List.filter_cons]
   rw[hf];show ak (uy p1[i]) _ _=_;cases hb:uy p1[i]with
   |true=>rw[iT,gP (by omega),ih k (i+1) _ (by omega) (by omega) (by simp;omega)];simp
   |false=>rw[iF,ih k (i+1) _ (by omega) (by omega) (by omega)];simp
 have:=key p1.length aH 0 [] (by omega) (by rw[aF];omega) (Nat.zero_le _);unfold qL;rw[show((0:Nat):Int)=0 from rfl]at this;rw[this,List.nil_append,List.drop_zero]
theorem MD{fs:List ae}{g:ae}(h:g∈CQ fs):g∈fs∧g.type.kind≠6∧g.type.kind≠7:=by
 unfold CQ at h;obtain⟨h1,h2⟩:=List.mem_filter.1 h;unfold uy at h2;exact⟨h1,by simpa using h2⟩
noncomputable def stE(t:al)(s:bB)(rows:Int):Int:=
 qF (er (!decide (0≤s.nulls∧s.nulls≤rows)) 3) (qF (ck t s.min) (qF (ck t s.max) (er (!((s.min.kind==0)==(s.nulls==rows))||(!((s.max.kind==0)==(s.nulls==rows))||decide (0<Ord.cmpV s.min s.max))) 1)))
noncomputable def Kw(f:aj)(l:List ae):Int:=
 if hl:f.stats.length=l.length then
  qF (er (lu (fun j=>match f.stats[j]?,l[j]? with|some s,some x=> !(s.id==x.id) |_,_=>false) f.stats.length) 1)
   (fe (fun j=>match f.stats[j]?,l[j]? with|some s,some x=>stE x.type s f.rows|_,_=>0) f.stats.length 0)
 else 1
theorem acQ{f:aj}{l:List ae}(hf:Np f)(hl:∀x∈l,jm x.type<1000000000∧x.type.kind≠6∧x.type.kind≠7):oM f l=some (Kw f l):=by
 unfold oM cc Kw;by_cases h:f.stats.length=l.length
 ·rw[dif_pos h,show((f.stats.length:Int) != (l.length:Int))=false by simp[h],iF];rw[R7 (L:=aI f.stats l) (n:=f.stats.length) (p:=fun j=>match f.stats[j]?,l[j]? with|some s,some x=> !(s.id==x.id) |_,_=>false) hf.stats.1
   (fun k=>by rw[aI,wl,iF];rfl)
   (fun k i hi=>by
    rw[aI,aS hi,iT,aB hi,aB (show i<l.length by omega),bS,bS,Bi,bS,aq hi hf.stats.1,dK hi,dK (show i<l.length by omega)]),bS]
  unfold X9;rw[Bool.not_not,eF (by decide)];rw[jg (L:=iL f l) (n:=f.stats.length) (fin:=some 0) (c:=fun j=>match f.stats[j]?,l[j]? with|some s,some x=>stE x.type s f.rows|_,_=>0) hf.stats.1
   (fun k=>by rw[iL,wl,iF];rfl)
   (fun k i hi=>by
    have hi':i<l.length:=by omega
    obtain⟨g1,g2⟩:=hf.stats.2 _ (gd hi);obtain⟨g3,g4,g5⟩:=hl _ (gd hi');rw[iL,aS hi,iT,aB hi,bS,lA,bS,eF (by decide)];show ee _ (am (some f.stats[i].min) _)=_;rw[bS,aB hi',bS,Qu g1 g3,bS,js];show ee _ (ee _ (am (some f.stats[i].max) _))=_;rw[bS,Qu g2 g3,bS,js,dK hi,dK hi'];simp only;unfold stE;rw[←bG,←bG,←bG];refine fG fun _=>fG fun e1=>fG fun e2=> ?_
    rw[Mz (th g1 g3 g4 g5 e1) (th g2 g3 g4 g5 e2),bS];unfold rR;rw[aq hi hf.stats.1];generalize (!((f.stats[i].min.kind==0)==(f.stats[i].nulls==f.rows)))=b1;generalize (!((f.stats[i].max.kind==0)==(f.stats[i].nulls==f.rows)))=b2;generalize decide (0<Ord.cmpV f.stats[i].min f.stats[i].max)=b3;cases b1<;>cases b2<;>cases b3<;>rfl),eQ,Aq]
 ·rw[dif_neg h,show((f.stats.length:Int) != (l.length:Int))=true by simp;omega,iT,bS];rfl
theorem ads{f:aj}{l:List ae}(hf:Np f)(hl:∀x∈l,jm x.type<1000000000∧x.type.kind≠6∧x.type.kind≠7):lD f l=some (Kw f l):=by
 unfold lD Kw;by_cases h:f.stats.length=l.length
 ·rw[dif_pos h,show((l.length:Int) != (f.stats.length:Int))=false by simp[h],iF];have hn:l.length<1000000000:=by have:=hf.stats.1;omega
  rw[jg (L:=jS f l) (n:=l.length) (fin:=qP f l) (c:=fun j=>er (match f.stats[j]?,l[j]? with|some s,some x=> !(s.id==x.id) |_,_=>false) 1) hn
   (fun k=>by rw[jS,wl,iF])
   (fun k i hi=>by
    have hi':i<f.stats.length:=by omega
    rw[jS,aS hi,iT,aB hi,aB hi',bS,bS,aq hi hn,eF (by decide),dK hi,dK hi'];simp only;rw[show(l[i].id != f.stats[i].id)= !(f.stats[i].id==l[i].id) by rw[bne,Bool.beq_comm]])]
  rw[HN (by decide),←h];unfold qP;rw[jg (L:=fy f l) (n:=f.stats.length) (fin:=some 0) (c:=fun j=>match f.stats[j]?,l[j]? with|some s,some x=>stE x.type s f.rows|_,_=>0) hf.stats.1
   (fun k=>by rw[fy,wl,iF];rfl)
   (fun k i hi=>by
    have hi':i<l.length:=by omega
    obtain⟨g1,g2⟩:=hf.stats.2 _ (gd hi);obtain⟨g3,g4,g5⟩:=hl _ (gd hi');rw[fy,aS hi,iT,aB hi,bS,qO,bS,eF (by decide),aB hi',bS,VT g1 g3,bS,js,VT g2 g3,bS,js,dK hi,dK hi'];simp only;unfold stE;rw[←bG,←bG,←bG];refine fG fun _=>fG fun e1=>fG fun e2=> ?_
    rw[Hw (th g1 g3 g4 g5 e1) (th g2 g3 g4 g5 e2),bS];unfold nZ;rw[aq hi hf.stats.1];generalize (!((f.stats[i].min.kind==0)==(f.stats[i].nulls==f.rows)))=b1;generalize (!((f.stats[i].max.kind==0)==(f.stats[i].nulls==f.rows)))=b2;generalize decide (0<Ord.cmpV f.stats[i].min f.stats[i].max)=b3;cases b1<;>cases b2<;>cases b3<;>rfl),eQ,Aq]
 ·rw[dif_neg h,show((l.length:Int) != (f.stats.length:Int))=true by simp;omega,iT]
theorem abe{f:aj}{l:List ae}(hf:Np f)(hl:∀x∈l,jm x.type<1000000000∧x.type.kind≠6∧x.type.kind≠7)(h:Kw f l=0):∀s∈f.stats,Lv s.min∧Lv s.max:=by
 unfold Kw at h;by_cases hh:f.stats.length=l.length
 ·rw[dif_pos hh,sM,Xh]at h;intro s hs;obtain⟨i,hi,rfl⟩:=NA.1 hs;have hi':i<l.length:=by omega
  have:=h.2 i (Nat.zero_le _) (by omega);rw[dK hi,dK hi']at this;simp only[stE,sM]at this;obtain⟨g1,g2⟩:=hf.stats.2 _ (gd hi);obtain⟨g3,g4,g5⟩:=hl _ (gd hi');exact⟨th g1 g3 g4 g5 this.2.1,th g2 g3 g4 g5 this.2.2.1⟩
 ·rw[dif_neg hh]at h;cases h
structure RB(s:aw):Prop where
 files:s.files.length<1000000000∧∀f∈s.files,Np f
 dat:s.dat.length<1000000000∧∀d∈s.dat,d.rows.length<1000000000
 dby:s.dby.length<1000000000∧∀d∈s.dby,d.ids.length<1000000000∧d.keys.length<1000000000∧∀k∈d.keys,k.length<1000000000∧∀v∈k,bE v<1000000000
structure wj(m:ax):Prop where
 schemas:m.schemas.length<1000000000∧∀s∈m.schemas,dt s<1000000000-1
 specs:m.specs.length<1000000000∧∀s∈m.specs,s.fields.length<1000000000
 snaps:m.snapshots.length<1000000000∧∀s∈m.snapshots,RB s
 refs:m.refs.length<1000000000∧∀r∈m.refs,r.name.size<1000000000
 props:m.props.length<1000000000∧∀p∈m.props,p.name.size<1000000000∧p.value.size<100000000
theorem LC{Z:Type}{z:Z}{n:Nat}{L:Nat→Int→Option (Int×Z)}{p:Nat→Bool}(h0:∀k,L (k+1) (n:Int)=some (-1,z))(h1:∀k i,i<n→L (k+1) (i:Int)=ak (p i) (some ((i:Int),z)) (L k ((i+1:Nat):Int))):
  ∀m k i,i+m=n→m<k→∃r,L k (i:Int)=some (r,z)∧(decide ((0:Int)≤r)=true↔∃j,i≤j∧j<n∧p j=true)
 |0,k,i,hi,hk=>by
  obtain⟨k,rfl⟩:=fu hk;have:i=n:=by omega
  subst this;exact⟨-1,h0 k,by simp;intro j h1 h2;omega⟩
 |m+1,k,i,hi,hk=>by
  obtain⟨k,rfl⟩:=fu hk;rw[h1 k i (by omega)];cases hp:p i with
  |true=>exact⟨i,rfl,by simp;exact⟨i,iO _,by omega,hp⟩⟩
  |false=>
   obtain⟨r,e1,e2⟩:=LC h0 h1 m k (i+1) (by omega) (by omega);refine⟨r,e1,e2.trans ⟨fun⟨j,a,b,c⟩=>⟨j,by omega,b,c⟩,fun⟨j,a,b,c⟩=>⟨j,?_,b,c⟩⟩⟩;by_cases e:j=i
   ·subst e;rw[hp]at c;cases c
   ·omega
theorem FX{Z:Type}{z:Z}{n:Nat}{L:Nat→Int→Option (Int×Z)}{p:Nat→Bool}(hn:n<1000000000)(h0:∀k,L (k+1) (n:Int)=some (-1,z))(h1:∀k i,i<n→L (k+1) (i:Int)=ak (p i) (some ((i:Int),z)) (L k ((i+1:Nat):Int))):
  ∃r,L aH (0:Int)=some (r,z)∧decide ((0:Int)≤r)=lu p n:=by
 obtain⟨r,e1,e2⟩:=LC h0 h1 n aH 0 (by omega) (by rw[aF];omega);refine⟨r,e1,lm (e2.trans (Iff.trans ?_ dO.symm))⟩;exact⟨fun⟨j,_,b,c⟩=>⟨j,b,c⟩,fun⟨j,b,c⟩=>⟨j,Nat.zero_le _,b,c⟩⟩
theorem Dc{α:Type}{l:List α}{x:Int}(h0:0≤x)(h1:x≤(l.length:Int)-1):∃(h:x.toNat<l.length),at? l x=some l[x.toNat]∧l[x.toNat]? =some l[x.toNat]:=by
 have h:x.toNat<l.length:=by omega
 refine⟨h,?_,dK h⟩;have:=aB h;rwa [show((x.toNat:Nat):Int)=x by omega]at this
def uu(fs:List ae)(sp:cg)(j:Nat):Bool:=match sp.fields[j]? with|some x=> !Hc fs x.source|none=>false
noncomputable def Jz(fs:List ae)(sp:cg)(f:aj)(j:Nat):Int:=match sp.fields[j]?,f.part[j]? with
 |some x,some v=>qF (er ((tE x.transform (tm fs x.source).type).2 != 0) 2) (ck (tE x.transform (tm fs x.source).type).1 v)
 |_,_=>0
noncomputable def GC(fs:List ae)(sp:cg)(f:aj):Int:=
 qF (er (lu (uu fs sp) sp.fields.length) 9) (qF (er ((f.part.length:Int) != (sp.fields.length:Int)) 1) (qF (fe (Jz fs sp f) sp.fields.length 0) (Kw f (CQ fs))))
def Tj(m:ax)(f:aj):Bool:=
 !decide (0≤f.schema∧f.schema≤(m.schemas.length:Int)-1)||(!decide (0≤f.spec∧f.spec≤(m.specs.length:Int)-1)||(!decide (1≤f.rows∧f.rows≤2000)||decide (f.seq<1)))
noncomputable def BK(m:ax)(f:aj):Int:=
 qF (er (!Od f.name) 4) (qF (er (Tj m f) 3) (match m.schemas[f.schema.toNat]?,m.specs[f.spec.toNat]? with|some fs,some sp=>GC fs sp f|_,_=>0))
theorem SV{m:ax}{f:aj}(h:Tj m f=false):∃fs sp,at? m.schemas f.schema=some fs∧at? m.specs f.spec=some sp∧m.schemas[f.schema.toNat]? =some fs∧m.specs[f.spec.toNat]? =some sp∧fs∈m.schemas∧sp∈m.specs:=by
 unfold Tj at h;simp only[Bool.or_eq_false_iff,Bool.not_eq_false',decide_eq_true_eq]at h;obtain⟨⟨a1,a2⟩,⟨b1,b2⟩,_⟩:=h;obtain⟨h1,h2,h3⟩:=Dc a1 a2;obtain⟨g1,g2,g3⟩:=Dc b1 b2;exact⟨_,_,h2,g2,h3,g3,gd h1,gd g1⟩
theorem RV{fs:List ae}(h:dt fs<1000000000-1):∀x∈CQ fs,jm x.type<1000000000∧x.type.kind≠6∧x.type.kind≠7:=by
 intro x hx;obtain⟨h1,h2,h3⟩:=MD hx;have a:=io h1;have b:=gy x;exact⟨by omega,h2,h3⟩
theorem BV{fs:List ae}(h:dt fs<1000000000-1){g:ae}(hg:g∈fs):jm g.type<1000000000:=by
 have a:=io hg;have b:=gy g;omega
theorem Z7{fs:List ae}{sp:cg}(hn:fs.length<1000000000)(hs:sp.fields.length<1000000000):bt sp.fields fs=some (lu (uu fs sp) sp.fields.length,fs):=by
 unfold bt cU;obtain⟨r,r1,r2⟩:=FX (z:=fs) (L:=fun k i=>aQ sp.fields k fs i) (n:=sp.fields.length) (p:=uu fs sp) hs
  (fun k=>by rw[aQ,wl,iF];rfl)
  (fun k i hi=>by
   obtain⟨t1,_,t3,_⟩:=zD hn sp.fields[i].source;rw[aQ,aS hi,iT,aB hi,bS,Ce,t1,bS,bS,t3,aq hi hs];unfold uu;rw[dK hi])
 have r1:aQ sp.fields aH fs (0:Int)=some (r,fs):=r1;rw[r1,bS];show some (decide (0≤r),fs)=_;rw[r2]
theorem aa7{fs:List ae}{sp:cg}{f:aj}(hf:Np f)(hfs:dt fs<1000000000-1)(hs:sp.fields.length<1000000000):
  (am (bt sp.fields fs) fun r5=>ak r5.1 (some (9:Int)) (ak ((f.part.length:Int) != (sp.fields.length:Int)) (some (1:Int)) (mm f sp r5 aH (0:Int))))=some (GC fs sp f):=by
 have hn:fs.length<1000000000:=by have:=bX fs;omega
 rw[Z7 hn hs,bS];unfold GC;show ak (lu (uu fs sp) sp.fields.length) _ _=_;rw[eF (by decide),eF (by decide),←eQ,←bG,←bG,←bG];refine fG fun e1=>fG fun e2=> ?_
 have hl:∀(i:Nat) (h:i<sp.fields.length),Hc fs sp.fields[i].source=true:=fun i h=>by
  rw[Hh (by decide),←Bool.not_eq_true,dO]at e1;cases hb:Hc fs sp.fields[i].source with
  |true=>rfl
  |false=>exact absurd ⟨i,h,by unfold uu;rw[dK h];simp[hb]⟩ e1
 have hp:f.part.length=sp.fields.length:=by
  rw[Hh (by decide),bne_eq_false_iff_eq]at e2;omega
 rw[jg (L:=mm f sp (lu (uu fs sp) sp.fields.length,fs)) (n:=sp.fields.length) (fin:=some (Kw f (CQ fs))) (c:=Jz fs sp f) hs
  (fun k=>by
   rw[mm,wl,iF];unfold A8;show am (xO fs f) _=_;rw[acS fs f hn,acQ hf (RV hfs),bS])
  (fun k i hi=>by
   obtain⟨t1,_,t3,t4⟩:=zD hn sp.fields[i].source;obtain⟨t5,t6⟩:=t4 (hl i hi);obtain⟨u1,_,u3,u4⟩:=Ko sp.fields[i].transform (BV hfs t6);have hi':i<f.part.length:=by omega
   rw[mm,aS hi,iT,aB hi,bS];show am (my fs _) _=_;rw[t1,bS];show am (at? fs _) _=_;rw[t5,bS,u1,bS,eF (by decide),aB hi',bS,Qu (hf.part.2 _ (gd hi')) u3,bS,js,aq hi hs,bG];unfold Jz;rw[dK hi,dK hi'])]
 rw[eQ]
theorem aaP{fs:List ae}{sp:cg}{f:aj}(hf:Np f)(hfs:dt fs<1000000000-1)(hs:sp.fields.length<1000000000):
  iC f fs sp aH (0:Int)=some (GC fs sp f):=by
 have hn:fs.length<1000000000:=by have:=bX fs;omega
 unfold GC;rw[←eQ,←bG,←bG,←bG];rw[jg (L:=iC f fs sp) (n:=sp.fields.length) (fin:=qQ f fs sp) (c:=fun j=>er (uu fs sp j) 9) hs
  (fun k=>by rw[iC,wl,iF])
  (fun k i hi=>by
   obtain⟨_,t2,_,_⟩:=zD hn sp.fields[i].source;rw[iC,aS hi,iT,aB hi,bS,t2,bS,eF (by decide),aq hi hs];unfold uu;rw[dK hi])]
 rw[HN (by decide)];refine fG fun e1=> ?_
 have hl:∀(i:Nat) (h:i<sp.fields.length),Hc fs sp.fields[i].source=true:=fun i h=>by
  rw[Hh (by decide),←Bool.not_eq_true,dO]at e1;cases hb:Hc fs sp.fields[i].source with
  |true=>rfl
  |false=>exact absurd ⟨i,h,by unfold uu;rw[dK h];simp[hb]⟩ e1
 unfold qQ;rw[eF (by decide)];refine fG fun e2=> ?_
 have hp:f.part.length=sp.fields.length:=by
  rw[Hh (by decide),bne_eq_false_iff_eq]at e2;omega
 rw[jg (L:=jM f fs sp) (n:=sp.fields.length) (fin:=some (Kw f (CQ fs))) (c:=Jz fs sp f) hs
  (fun k=>by rw[jM,wl,iF,acf fs f hn,ads hf (RV hfs)])
  (fun k i hi=>by
   obtain⟨_,t2,_,t4⟩:=zD hn sp.fields[i].source;obtain⟨t5,t6⟩:=t4 (hl i hi);obtain⟨_,u2,u3,u4⟩:=Ko sp.fields[i].transform (BV hfs t6);have hi':i<f.part.length:=by omega
   rw[jM,aS hi,iT,aB hi,bS,t2,bS,u2,bS,eF (by decide),aB hi',bS,VT (hf.part.2 _ (gd hi')) u3,bS,js,aq hi hs,bG];unfold Jz;rw[dK hi,dK hi'])]
 rw[eQ]
theorem VM{m:ax}{f:aj}(hm:wj m)(hf:Np f):zx m f=some (BK m f):=by
 unfold zx BK;rw[aey _ hf.name,bS,eF (by decide),←eQ,←bG,←bG];refine fG fun _=> ?_
 have hj:∀x,x=Tj m f→oh m f x=ee (er (Tj m f) 3) (ee (match m.schemas[f.schema.toNat]?,m.specs[f.spec.toNat]? with|some fs,some sp=>GC fs sp f|_,_=>0) (some 0)):=by
  rintro x rfl;unfold oh;rw[eF (by decide)];refine fG fun e=> ?_
  obtain⟨fs,sp,h1,h2,h3,h4,h5,h6⟩:=SV ((Hh (by decide)).1 e);rw[h1,h2,h3,h4,bS,bS,aa7 hf (hm.schemas.2 _ h5) (hm.specs.2 _ h6),eQ]
 rw[lA,bS,mz hm.schemas.1];have hr:Tj m f=Tj m f:=rfl
 conv at hr=>rhs;unfold Tj
 cases a:decide (0≤f.schema∧f.schema≤(m.schemas.length:Int)-1)with
 |false=>rw[a]at hr;rw[Bool.not_false,iT];exact hj true (by rw[hr];rfl)
 |true=>
  rw[a]at hr;rw[Bool.not_true,iF,lA,bS,mz hm.specs.1];cases b:decide (0≤f.spec∧f.spec≤(m.specs.length:Int)-1)with
  |false=>rw[b]at hr;rw[Bool.not_false,iT];exact hj true (by rw[hr];rfl)
  |true=>
   rw[b]at hr;rw[Bool.not_true,iF,lA,bS];cases c:decide (1≤f.rows∧f.rows≤2000)with
   |false=>rw[c]at hr;rw[Bool.not_false,iT];exact hj true (by rw[hr];rfl)
   |true=>rw[c]at hr;rw[Bool.not_true,iF];exact hj _ (by rw[hr];rfl)
theorem aam{m:ax}{f:aj}(hm:wj m)(hf:Np f):vW m f=some (BK m f):=by
 unfold vW BK;rw[aeK _ hf.name,bS,eF (by decide),←eQ,←bG,←bG];refine fG fun _=> ?_
 have hj:∀x,x=Tj m f→jN m f x=ee (er (Tj m f) 3) (ee (match m.schemas[f.schema.toNat]?,m.specs[f.spec.toNat]? with|some fs,some sp=>GC fs sp f|_,_=>0) (some 0)):=by
  rintro x rfl;unfold jN;rw[eF (by decide)];refine fG fun e=> ?_
  obtain⟨fs,sp,h1,h2,h3,h4,h5,h6⟩:=SV ((Hh (by decide)).1 e);rw[h1,h2,h3,h4,bS,bS,aaP hf (hm.schemas.2 _ h5) (hm.specs.2 _ h6),eQ]
 rw[qO,bS,mz hm.schemas.1];have hr:Tj m f=Tj m f:=rfl
 conv at hr=>rhs;unfold Tj
 cases a:decide (0≤f.schema∧f.schema≤(m.schemas.length:Int)-1)with
 |false=>rw[a]at hr;rw[Bool.not_false,iT];exact hj true (by rw[hr];rfl)
 |true=>
  rw[a]at hr;rw[Bool.not_true,iF,qO,bS,mz hm.specs.1];cases b:decide (0≤f.spec∧f.spec≤(m.specs.length:Int)-1)with
  |false=>rw[b]at hr;rw[Bool.not_false,iT];exact hj true (by rw[hr];rfl)
  |true=>
   rw[b]at hr;rw[Bool.not_true,iF,qO,bS];cases c:decide (1≤f.rows∧f.rows≤2000)with
   |false=>rw[c]at hr;rw[Bool.not_false,iT];exact hj true (by rw[hr];rfl)
   |true=>rw[c]at hr;rw[Bool.not_true,iF];exact hj _ (by rw[hr];rfl)
theorem RM{m:ax}{f:aj}(hm:wj m)(hf:Np f)(h:BK m f=0):Ws f:=by
 unfold BK at h;rw[sM,sM]at h;obtain⟨_,h2,h3⟩:=h;obtain⟨fs,sp,_,_,g3,g4,g5,g6⟩:=SV ((Hh (by decide)).1 h2);rw[g3,g4]at h3;simp only at h3;unfold GC at h3;rw[sM,sM,sM]at h3;obtain⟨e1,e2,e3,e4⟩:=h3;have hfs:=hm.schemas.2 _ g5;have hn:fs.length<1000000000:=by have:=bX fs;omega
 refine⟨fun v hv=> ?_,abe hf (RV hfs) e4⟩;have hp:f.part.length=sp.fields.length:=by
  rw[Hh (by decide),bne_eq_false_iff_eq]at e2;omega
 obtain⟨i,hi',rfl⟩:=NA.1 hv;have hi:i<sp.fields.length:=by omega
 have hb:Hc fs sp.fields[i].source=true:=by
  rw[Hh (by decide),←Bool.not_eq_true,dO]at e1;cases hb:Hc fs sp.fields[i].source with
  |true=>rfl
  |false=>exact absurd ⟨i,hi,by unfold uu;rw[dK hi];simp[hb]⟩ e1
 obtain⟨_,_,_,t4⟩:=zD hn sp.fields[i].source;obtain⟨t5,t6⟩:=t4 hb;obtain⟨_,_,u3,u4⟩:=Ko sp.fields[i].transform (BV hfs t6);have:=Xh.1 e3 i (Nat.zero_le _) (by omega);unfold Jz at this;rw[dK hi,dK hi']at this;simp only[sM]at this;obtain⟨k1,k2⟩:=u4 (by have:=(Hh (by decide)).1 this.1;rwa [bne_eq_false_iff_eq]at this);exact th (hf.part.2 _ hv) u3 k1 k2 this.2
end Go.Proofs.YtpiohnabdhpphaaGreatDoor
namespace Go.SX.Cal
open Go Go.Lib
theorem Sb:∀a:List UInt8,compareBytes a a=0
 |[]=>rfl
 |x::a=>by
  rw[compareBytes,if_neg (by simp[UInt8.lt_irrefl]),if_neg (by simp[UInt8.lt_irrefl])];exact Sb a
theorem RI:∀a b:List UInt8,compareBytes a b=0→a=b
 |[],[],_=>rfl
 |[],_::_,h=>by simp[compareBytes]at h
 |_::_,[],h=>by simp[compareBytes]at h
 |x::a,y::b,h=>by
  rw[compareBytes]at h;split at h
  ·simp at h
  ·split at h
   ·simp at h
   ·rename_i h1 h2;rw[RI a b h,UInt8.le_antisymm (UInt8.not_lt.1 h2) (UInt8.not_lt.1 h1)]
theorem R2:∀a b:List UInt8,compareBytes a b= - compareBytes b a
 |[],[]=>rfl
 |[],_::_=>rfl
 |_::_,[]=>rfl
 |x::a,y::b=>by
  rw[compareBytes,compareBytes];by_cases h1:x<y
  ·rw[if_pos h1,if_neg (UInt8.lt_asymm h1),if_pos h1]
  ·rw[if_neg h1];by_cases h2:y<x
   ·rw[if_pos h2,if_pos h2];rfl
   ·rw[if_neg h2,if_neg h2,if_neg h1];exact R2 a b
theorem Jm:∀a b c:List UInt8,compareBytes a b<0→compareBytes b c<0→compareBytes a c<0
 |[],[],_,h,_=>by simp[compareBytes]at h
 |[],_::_,[],_,h=>by simp[compareBytes]at h
 |[],_::_,_::_,_,_=>by simp[compareBytes]
 |_::_,[],_,h,_=>by simp[compareBytes]at h
 |_::_,_::_,[],_,h=>by simp[compareBytes]at h
 |x::a,y::b,z::c,h,k=>by
  rw[compareBytes]at h k⊢;by_cases h1:x<y
  ·by_cases h2:y<z
   ·rw[if_pos (UInt8.lt_trans h1 h2)];decide
   ·rw[if_neg h2]at k;by_cases h3:z<y
    ·rw[if_pos h3]at k;simp at k
    ·have:y=z:=UInt8.le_antisymm (UInt8.not_lt.1 h3) (UInt8.not_lt.1 h2);subst this;rw[if_pos h1];decide
  ·rw[if_neg h1]at h;by_cases h4:y<x
   ·rw[if_pos h4]at h;simp at h
   ·rw[if_neg h4]at h;have:x=y:=UInt8.le_antisymm (UInt8.not_lt.1 h4) (UInt8.not_lt.1 h1);subst this;by_cases h2:x<z
    ·rw[if_pos h2];decide
    ·rw[if_neg h2]at k⊢;by_cases h3:z<x
     ·rw[if_pos h3]at k;simp at k
     ·rw[if_neg h3]at k⊢;exact Jm a b c h k
def zw(a b:ByteArray):Int:=compareBytes a.data.toList b.data.toList
theorem wS(a:ByteArray):zw a a=0:=Sb _
theorem HD{a b:ByteArray}(h:zw a b=0):a=b:=by
 have:=RI _ _ h;exact ByteArray.ext (Array.toList_inj.1 this)
theorem B4{a b c:ByteArray}(h:zw a b<0)(k:zw b c<0):zw a c<0:=Jm _ _ _ h k
end Go.SX.Cal
namespace Go.Proofs.YtpiohnabdhpphaaGreatDoor
open Go Go.SX Go.SX.Cal
open Go.IntKind (i64)
theorem NM{n:Nat}{L:Nat→Int→Option Int}{fin:Option Int}{c:Nat→Int}(h0:(∀j,j<n→c j=0)→∀k,L (k+1) (n:Int)=fin)
  (h1:∀k i,i<n→(∀j,j<i→c j=0)→L (k+1) (i:Int)=ee (c i) (L k ((i+1:Nat):Int))):
  ∀m k i,i+m=n→m<k→(∀j,j<i→c j=0)→L k (i:Int)=ee (fe c m i) fin
 |0,k,i,hi,hk,hp=>by
  obtain⟨k,rfl⟩:=fu hk;have:i=n:=by omega
  subst this;rw[h0 hp];rfl
 |m+1,k,i,hi,hk,hp=>by
  obtain⟨k,rfl⟩:=fu hk;rw[h1 k i (by omega) hp,fe,←bG];refine fG fun e=> ?_
  exact NM h0 h1 m k (i+1) (by omega) (by omega) fun j hj=>by
   by_cases h:j=i
   ·subst h;exact e
   ·exact hp j (by omega)
theorem Sd{n:Nat}{L:Nat→Int→Option Int}{fin:Option Int}{c:Nat→Int}(hn:n<1000000000)(h0:(∀j,j<n→c j=0)→∀k,L (k+1) (n:Int)=fin)
  (h1:∀k i,i<n→(∀j,j<i→c j=0)→L (k+1) (i:Int)=ee (c i) (L k ((i+1:Nat):Int))):L aH (0:Int)=ee (fe c n 0) fin:=
 NM h0 h1 n aH 0 (by omega) (by rw[aF];omega) fun j hj=>by omega
theorem OY{n lo:Nat}{L:Nat→Int→Option Int}{fin:Option Int}{c:Nat→Int}(h0:∀k,L (k+1) (n:Int)=fin)(h1:∀k i,lo≤i→i<n→L (k+1) (i:Int)=ee (c i) (L k ((i+1:Nat):Int))):
  ∀m k i,i+m=n→m<k→lo≤i→L k (i:Int)=ee (fe c m i) fin
 |0,k,i,hi,hk,_=>by
  obtain⟨k,rfl⟩:=fu hk;have:i=n:=by omega
  subst this;rw[h0];rfl
 |m+1,k,i,hi,hk,hl=>by
  obtain⟨k,rfl⟩:=fu hk;rw[h1 k i hl (by omega),OY h0 h1 m k (i+1) (by omega) (by omega) (by omega),bG];rfl
def KZ(l:List Int)(j:Nat):Bool:=match l[j]?,l[j-1]? with|some a,some b=>decide (a≤b) |_,_=>false
def UT(l:List Int):Bool:=decide (∃j,j<l.length-1∧KZ l (1+j)=true)
def Gb(l:List Int):Bool:=decide (0<l.length)&& !UT l
theorem Pf{l:List Int}(hn:l.length<1000000000){L:Nat→Int→Option Bool}(hz:l.length=0→∀k,L (k+1) 1=some false)(h0:0<l.length→∀k,L (k+1) (l.length:Int)=some true)
  (h1:∀k i,0<i→i<l.length→L (k+1) (i:Int)=ak (KZ l i) (some false) (L k ((i+1:Nat):Int))):L aH (1:Int)=some (Gb l):=by
 unfold Gb;by_cases hl:l.length=0
 ·rw[Hl,hz hl];simp[hl]
 ·have key:∀m k i,i+m=l.length→0<i→m<k→L k (i:Int)=some (!decide (∃j,j<m∧KZ l (i+j)=true)):=by
   intro m;induction m with
   |zero=>
    intro k i hi hp hk;obtain⟨k,rfl⟩:=fu hk;have:i=l.length:=by omega
    rw[this,h0 (by omega)];simp
   |succ m ih=>
    intro k i hi hp hk;obtain⟨k,rfl⟩:=fu hk;rw[h1 k i hp (by omega)];cases hd:KZ l i with
    |true=>rw[iT,decide_eq_true ⟨0,by omega,by simpa using hd⟩];rfl
    |false=>
     rw[iF,ih k (i+1) (by omega) (by omega) (by omega)];congr 2;refine decide_eq_decide.2 ⟨fun⟨j,a,b⟩=>⟨j+1,by omega,by rw[←b];congr 1;omega⟩,fun⟨j,a,b⟩=> ?_⟩;cases j with
     |zero=>rw[Nat.add_zero,hd]at b;cases b
     |succ j=>exact⟨j,by omega,by rw[←b];congr 1;omega⟩
  have:=key (l.length-1) aH 1 (by omega) (by omega) (by rw[aF];omega);have h2:L aH (1:Int)=_:=this;rw[h2,decide_eq_true (show 0<l.length by omega),Bool.true_and];rfl
theorem I6{l:List Int}{i:Nat}(hi:i<l.length)(h0:0<i):KZ l i=decide (l[i]≤l[i-1]):=by
 unfold KZ;rw[dK hi,dK (show i-1<l.length by omega)]
theorem WT{l:List Int}(hn:l.length<1000000000):so l=some (Gb l):=by
 unfold so;exact Pf hn (L:=j5 l)
  (fun h k=>by
   rw[j5,h];show some (decide ((0:Int)<(l.length:Int)))=_;rw[h];rfl)
  (fun h k=>by
   rw[j5,wl,iF];show some (decide ((0:Int)<(l.length:Int)))=_;rw[decide_eq_true (by omega)])
  (fun k i h0 hi=>by rw[j5,aS hi,iT,aB hi,bS,tO hi h0 hn,bS,I6 hi h0,aq hi hn])
theorem ZX{l:List Int}(hn:l.length<1000000000):pX l=some (Gb l):=by
 unfold pX;exact Pf hn (L:=gQ l)
  (fun h k=>by
   rw[gQ,h];show some (decide ((0:Int)<(l.length:Int)))=_;rw[h];rfl)
  (fun h k=>by
   rw[gQ,wl,iF];show some (decide ((0:Int)<(l.length:Int)))=_;rw[decide_eq_true (by omega)])
  (fun k i h0 hi=>by rw[gQ,aS hi,iT,aB hi,bS,tO hi h0 hn,bS,I6 hi h0,aq hi hn])
def HY(fs:List ae)(id:Int):Bool:=Hc fs id&&uy (tm fs id)
theorem Oc{fs:List ae}(hn:fs.length<1000000000)(id:Int):∃t,mg fs id=some (t,HY fs id)∧(HY fs id=true→t=(tm fs id).type∧tm fs id∈fs):=by
 obtain⟨t1,_,t3,t4⟩:=zD hn id;unfold mg;rw[t1,bS,t3];unfold HY;cases hb:Hc fs id with
 |false=>exact⟨⟨0,0,[]⟩,rfl,fun h=>by cases h⟩
 |true=>
  obtain⟨t5,t6⟩:=t4 hb;rw[Bool.not_true,iF,t5,bS,MG,bS];unfold sE;show∃t,ak (!uy (tm fs id)) _ _=_∧_;cases hf:uy (tm fs id)with
  |false=>exact⟨⟨0,0,[]⟩,rfl,fun h=>by cases h⟩
  |true=>rw[Bool.not_true,iF,t5,bS];exact⟨_,rfl,fun _=>⟨rfl,t6⟩⟩
theorem adG{fs:List ae}(hn:fs.length<1000000000)(id:Int):vh fs id=some (tm fs id,HY fs id):=by
 obtain⟨_,t2,_,_⟩:=zD hn id;unfold vh HY;rw[t2,bS];show ak (Hc fs id) _ _=_;cases hb:Hc fs id with
 |false=>rfl
 |true=>rw[iT];show am (gz (tm fs id).type.kind) _=_;rw[DU,bS];rfl
theorem PR:∀{l:List ac},(∀v∈l,Lv v)→Ord.wfL l∧cN l≤257*l.length
 |[],_=>by simp[Ord.wfL,cN]
 |x::l,h=>by
  obtain⟨a,b⟩:=PR (l:=l) fun v hv=>h v (by simp[hv])
  have hx:=h x (by simp);have hs:=hx.size;simp only[Ord.wfL,cN,List.length_cons];exact⟨⟨hx.wf,a⟩,by omega⟩
theorem abG{a b:List ac}(ha:∀v∈a,Lv v)(hb:∀v∈b,Lv v)(hn:a.length<1000000000):qy a b=some (Ord.cmpL a b):=by
 unfold qy;rw[Hl,aA];have hc:∀x∈a,∀y∈b,dz 1152921504606846975 x y=some (Ord.cmpV x y):=fun x hx y hy=>by
  have h:=(ha x hx).size;exact Ord.compare_eq 257 x y _ h (by omega) (ha x hx).wf (hb y hy).wf (by omega)
 have:=Ord.cmpf_loop (dz 1152921504606846975) a b (by omega) hc aH 0 (Nat.zero_le _) (Nat.zero_le _) (by rw[aF];omega);rw[show((0:Nat):Int)=0 from rfl,List.drop_zero,List.drop_zero]at this;rw[this,bS]
theorem abm{a b:List ac}(ha:∀v∈a,Lv v)(hb:∀v∈b,Lv v)(hn:a.length<1000000000):jj a b=some (Ord.cmpL a b):=by
 unfold jj;obtain⟨a1,a2⟩:=PR ha;obtain⟨b1,b2⟩:=PR hb;have hw:∀{l:List ac},Ord.wfL l→Ord.wfV ⟨6,0,0,ByteArray.empty,l⟩:=fun h=>by
  simp only[Ord.wfV,Ord.i6q];exact⟨⟨by omega,by omega⟩,⟨by omega,by omega⟩,⟨by omega,by omega⟩,h⟩
 have hz:bE ⟨6,0,0,ByteArray.empty,a⟩=cN a+1:=by simp only[bE];rw[Cr];omega
 rw[Ord.rcompareV_eq (cN a+1) _ _ aH (by rw[hz];exact iO _) (by rw[hz];omega) (hw a1) (hw b1) (by rw[aF];omega),bS];congr 1;simp only[Ord.cmpV,Ord.c3_self,Ord.or_zero];rw[if_neg (by decide),show Ord.cS ByteArray.empty ByteArray.empty=0 from aae.2 rfl,Ord.or_zero]
structure Zs(ids:List Int)(keys:List (List ac)):Prop where
 nid:ids.length<1000000000
 nkey:keys.length<1000000000
 key:∀k∈keys,k.length<1000000000∧∀v∈k,bE v<1000000000
noncomputable def NP(fs:List ae)(ids:List Int)(k:List ac)(j:Nat):Int:=match ids[j]?,k[j]? with
 |some id,some v=>ck (tm fs id).type v
 |_,_=>0
noncomputable def Rk(fs:List ae)(ids:List Int)(keys:List (List ac))(j:Nat):Int:=match keys[j]? with
 |some k=>qF (er ((k.length:Int) != (ids.length:Int)) 1) (qF (fe (NP fs ids k) ids.length 0) (er (decide (0<j)&&(match keys[j-1]? with|some p=>decide (0≤Ord.cmpL p k) |none=>false)) 1))
 |none=>0
def Gf(fs:List ae)(ids:List Int)(j:Nat):Bool:=match ids[j]? with|some id=> !HY fs id|none=>false
noncomputable def Kl(fs:List ae)(ids:List Int)(keys:List (List ac)):Int:=
 qF (er ((ids.length:Int)==0) 9) (qF (er (lu (Gf fs ids) ids.length) 9) (qF (er (UT ids) 1) (qF (er (decide ((200:Int)<(keys.length:Int))) 7) (qF (er ((keys.length:Int)==0) 9) (fe (Rk fs ids keys) keys.length 0)))))
theorem Zo{fs:List ae}{ids:List Int}(h:er (lu (Gf fs ids) ids.length) 9=0){i:Nat}(hi:i<ids.length):HY fs ids[i]=true:=by
 rw[Hh (by decide),←Bool.not_eq_true,dO]at h;cases hb:HY fs ids[i]with
 |true=>rfl
 |false=>exact absurd ⟨i,hi,by unfold Gf;rw[dK hi];simp[hb]⟩ h
theorem MB{fs:List ae}{ids:List Int}{keys:List (List ac)}(hz:Zs ids keys)(hfs:dt fs<1000000000-1)(hl:∀(i:Nat) (h:i<ids.length),HY fs ids[i]=true){j:Nat}(hj:j<keys.length)
  (h1:er ((keys[j].length:Int) != (ids.length:Int)) 1=0)(h2:fe (NP fs ids keys[j]) ids.length 0=0):∀v∈keys[j],Lv v:=by
 have hn:fs.length<1000000000:=by have:=bX fs;omega
 have hp:keys[j].length=ids.length:=by rw[Hh (by decide),bne_eq_false_iff_eq]at h1;omega
 intro v hv;obtain⟨i,hi,rfl⟩:=NA.1 hv;have hi':i<ids.length:=by omega
 have:=Xh.1 h2 i (Nat.zero_le _) (by omega);unfold NP at this;rw[dK hi',dK hi]at this;simp only at this;obtain⟨t,_,t2⟩:=Oc hn ids[i];obtain⟨_,t3⟩:=t2 (hl i hi');have hlf:=hl i hi';unfold HY uy at hlf;simp only[iu,decide_eq_true_eq]at hlf;exact th ((hz.key _ (gd hj)).2 _ hv) (BV hfs t3) hlf.2.1 hlf.2.2 this
theorem Cd{fs:List ae}{ids:List Int}{keys:List (List ac)}{j:Nat}(hj:j<keys.length):Rk fs ids keys j=qF (er ((keys[j].length:Int) != (ids.length:Int)) 1) (qF (fe (NP fs ids keys[j]) ids.length 0) (er (decide (0<j)&&(match keys[j-1]? with|some p=>decide (0≤Ord.cmpL p keys[j]) |none=>false)) 1)):=by
 unfold Rk;rw[dK hj]
theorem XL{d:cX}{fs:List ae}(hz:Zs d.ids d.keys)(hfs:dt fs<1000000000-1)(hl:∀(i:Nat) (h:i<d.ids.length),HY fs d.ids[i]=true):jp d true fs aH (0:Int)=some (fe (Rk fs d.ids d.keys) d.keys.length 0):=by
 have hn:fs.length<1000000000:=by have:=bX fs;omega
 rw[Sd (L:=jp d true fs) (n:=d.keys.length) (fin:=some 0) (c:=Rk fs d.ids d.keys) hz.nkey
  (fun _ k=>by rw[jp,wl,iF];rfl)
  (fun k i hi hp=>by
   obtain⟨z1,z2⟩:=hz.key _ (gd hi);rw[jp,aS hi,iT,aB hi,bS,eF (by decide),Cd hi,←bG,←bG];refine fG fun e1=> ?_
   have hp':d.keys[i].length=d.ids.length:=by rw[Hh (by decide),bne_eq_false_iff_eq]at e1;omega
   rw[jg (L:=rz (jp d true fs k) d true fs (i:Int) d.keys[i]) (n:=d.ids.length) (fin:=AJ (jp d true fs k) d true (i:Int) d.keys[i]) (c:=NP fs d.ids d.keys[i]) hz.nid
    (fun q=>by rw[rz,hp',wl,iF])
    (fun q j hj=>by
     have hj':j<d.keys[i].length:=by omega
     obtain⟨t,u1,u2⟩:=Oc hn d.ids[j];obtain⟨rfl,u3⟩:=u2 (hl j hj);rw[rz,aS hj',iT,aB hj',bS,aB hj,bS,u1,bS];show am (gN (tm fs d.ids[j]).type _) _=_;rw[Qu (z2 _ (gd hj')) (BV hfs u3),bS,js,aq hj hz.nid];unfold NP;rw[dK hj,dK hj'])]
   refine fG fun e2=> ?_
   have hk:=MB hz hfs hl hi e1 e2;unfold AJ xI;rw[iT,aq hi hz.nkey];by_cases h0:0<i
   ·have hi1:i-1<d.keys.length:=by omega
    have hprev:=hp (i-1) (by omega);rw[Cd hi1,sM,sM]at hprev;have hk':=MB hz hfs hl hi1 hprev.1 hprev.2.1;rw[decide_eq_true (show(0:Int)<(i:Int) by omega),iT,tO hi h0 hz.nkey,bS,abG hk' hk (hz.key _ (gd hi1)).1,bS,eF (by decide),decide_eq_true h0,dK hi1,Bool.true_and]
   ·rw[decide_eq_false (show¬(0:Int)<(i:Int) by omega),decide_eq_false h0];rfl)]
 exact eQ _
theorem Vd{ids:List Int}{keys:List (List ac)}{fs:List ae}(hz:Zs ids keys)(hfs:dt fs<1000000000-1)(hl:∀(i:Nat) (h:i<ids.length),HY fs ids[i]=true):dv fs ids keys true aH (0:Int)=some (fe (Rk fs ids keys) keys.length 0):=by
 have hn:fs.length<1000000000:=by have:=bX fs;omega
 rw[Sd (L:=dv fs ids keys true) (n:=keys.length) (fin:=some 0) (c:=Rk fs ids keys) hz.nkey
  (fun _ k=>by rw[dv,wl,iF];rfl)
  (fun k i hi hp=>by
   obtain⟨z1,z2⟩:=hz.key _ (gd hi);rw[dv,aS hi,iT,aB hi,bS,eF (by decide),Cd hi,←bG,←bG];refine fG fun e1=> ?_
   have hp':keys[i].length=ids.length:=by rw[Hh (by decide),bne_eq_false_iff_eq]at e1;omega
   rw[jg (L:=jI (dv fs ids keys true k) fs ids keys true (i:Int) keys[i]) (n:=ids.length) (fin:=qK (dv fs ids keys true k) keys true (i:Int) keys[i]) (c:=NP fs ids keys[i]) hz.nid
    (fun q=>by rw[jI,wl,iF])
    (fun q j hj=>by
     have hj':j<keys[i].length:=by omega
     obtain⟨t,u1,u2⟩:=Oc hn ids[j];obtain⟨rfl,u3⟩:=u2 (hl j hj);rw[jI,aS hj,iT,aB hj,bS,adG hn,bS,aB hj',bS];show am (oc (tm fs ids[j]).type _) _=_;rw[VT (z2 _ (gd hj')) (BV hfs u3),bS,js,aq hj hz.nid];unfold NP;rw[dK hj,dK hj'])]
   refine fG fun e2=> ?_
   have hk:=MB hz hfs hl hi e1 e2;unfold qK nK;rw[iT,aq hi hz.nkey];by_cases h0:0<i
   ·have hi1:i-1<keys.length:=by omega
    have hprev:=hp (i-1) (by omega);rw[Cd hi1,sM,sM]at hprev;have hk':=MB hz hfs hl hi1 hprev.1 hprev.2.1;rw[decide_eq_true (show(0:Int)<(i:Int) by omega),iT,tO hi h0 hz.nkey,bS,abm hk' hk (hz.key _ (gd hi1)).1,bS,eF (by decide),decide_eq_true h0,dK hi1,Bool.true_and]
   ·rw[decide_eq_false (show¬(0:Int)<(i:Int) by omega),decide_eq_false h0];rfl)]
 exact eQ _
theorem XE{fs:List ae}{ids:List Int}(hn:fs.length<1000000000)(hs:ids.length<1000000000):cR ids fs=some (lu (Gf fs ids) ids.length,fs):=by
 unfold cR gH;obtain⟨r,r1,r2⟩:=FX (z:=fs) (L:=fun k i=>bz ids k fs i) (n:=ids.length) (p:=Gf fs ids) hs
  (fun k=>by rw[bz,wl,iF];rfl)
  (fun k i hi=>by
   obtain⟨t,t1,_⟩:=Oc hn ids[i];rw[bz,aS hi,iT,aB hi,bS,EX,t1,bS,bS,aq hi hs];unfold Gf;rw[dK hi])
 have r1:bz ids aH fs (0:Int)=some (r,fs):=r1;rw[r1,bS];show some (decide (0≤r),fs)=_;rw[r2]
theorem YH{ids:List Int}(h:ids.length≠0):er (!Gb ids) 1=er (UT ids) 1:=by
 unfold Gb;rw[decide_eq_true (show 0<ids.length by omega),Bool.true_and,Bool.not_not]
theorem ac0{d:cX}{fs:List ae}(hz:Zs d.ids d.keys)(hfs:dt fs<1000000000-1):
  (ak ((d.ids.length:Int)==(0:Int)) (rE d true fs true) (am (cR d.ids fs) fun r2=>rE d true r2.2 r2.1))=some (Kl fs d.ids d.keys):=by
 have hn:fs.length<1000000000:=by have:=bX fs;omega
 unfold Kl;by_cases h0:d.ids.length=0
 ·rw[show((d.ids.length:Int)==0)=true by simp[h0],iT];rfl
 ·rw[show((d.ids.length:Int)==0)=false from beq_eq_false_iff_ne.2 (by omega),iF,NY,Pq,XE hn hz.nid,bS];show rE d true fs (lu (Gf fs d.ids) d.ids.length)=_;unfold rE;rw[eF (by decide),WT hz.nid,bS,eF (by decide),YH h0,eF (by decide),eF (by decide),←eQ,←bG,←bG,←bG,←bG];refine fG fun e=>fG fun _=>fG fun _=>fG fun _=> ?_
  rw[XL hz hfs fun i h=>Zo e h,eQ]
theorem acu{ids:List Int}{keys:List (List ac)}{fs:List ae}(hz:Zs ids keys)(hfs:dt fs<1000000000-1):vL fs ids keys true=some (Kl fs ids keys):=by
 have hn:fs.length<1000000000:=by have:=bX fs;omega
 unfold vL Kl;rw[eF (by decide),←eQ,←bG,←bG];refine fG fun h0=> ?_
 have h0:ids.length≠0:=by rw[Hh (by decide)]at h0;simpa using h0
 rw[jg (L:=jH fs ids keys true) (n:=ids.length) (fin:=qA fs ids keys true) (c:=fun j=>er (Gf fs ids j) 9) hz.nid
  (fun k=>by rw[jH,wl,iF])
  (fun k i hi=>by
   rw[jH,aS hi,iT,aB hi,bS,adG hn,bS,eF (by decide),aq hi hz.nid];unfold Gf;rw[dK hi])]
 rw[HN (by decide)];refine fG fun e=> ?_
 unfold qA;have h2:=OY (lo:=1) (L:=jK fs ids keys true) (n:=ids.length) (fin:=qE fs ids keys true) (c:=fun j=>er (KZ ids j) 1)
  (fun k=>by rw[jK,wl,iF])
  (fun k i hl hi=>by rw[jK,aS hi,iT,aB hi,bS,tO hi (by omega) hz.nid,bS,←I6 hi (by omega),eF (by decide),aq hi hz.nid])
  (ids.length-1) aH 1 (by omega) (by rw[aF];have:=hz.nid;omega) (iO _)
 rw[show((1:Nat):Int)=1 from rfl,Uy (by decide)]at h2;rw[h2,show decide (∃j,j<ids.length-1∧KZ ids (1+j)=true)=UT ids from rfl,←bG];refine fG fun _=> ?_
 unfold qE;rw[eF (by decide),eF (by decide),Vd hz hfs fun i h=>Zo e h,←bG,←bG,eQ]
theorem Zh:∀a b:List UInt8,Op.bytesLess a b=decide (Lib.compareBytes a b<0)
 |[],[]=>rfl
 |[],_::_=>rfl
 |_::_,[]=>rfl
 |x::a,y::b=>by
  rw[Op.bytesLess,Lib.compareBytes,Zh a b];by_cases h1:x<y
  ·rw[if_pos h1];simp[h1]
  ·rw[if_neg h1];by_cases h2:y<x
   ·have:(x==y)=false:=by
     rw[beq_eq_false_iff_ne];intro e;subst e;exact UInt8.lt_irrefl _ h2
    rw[if_pos h2];simp[h1,this]
   ·have:x=y:=UInt8.le_antisymm (UInt8.not_lt.1 h2) (UInt8.not_lt.1 h1);subst this;rw[if_neg h2];simp[h1]
theorem Td(x n:ByteArray):(x.toList==n.toList)=decide (x=n):=by
 rw[ByteArray.toList_eq,ByteArray.toList_eq,Bool.eq_iff_iff,beq_iff_eq,decide_eq_true_iff];exact⟨fun h=>ByteArray.ext (Array.toList_inj.1 h),fun h=>by rw[h]⟩
def NB(a b:ByteArray):Bool:=Op.bytesLess a.toList b.toList||a.toList==b.toList
theorem T7{a b:ByteArray}(h:NB a b=false):zw b a<0:=by
 unfold NB at h;rw[Bool.or_eq_false_iff,Td,ByteArray.toList_eq,ByteArray.toList_eq,Zh]at h;obtain⟨h1,h2⟩:=h;have h1:¬zw a b<0:=by simpa [zw]using h1
 have h2:a≠b:=by simpa using h2
 have h3:zw a b= -zw b a:=R2 _ _;have h4:zw b a≠0:=fun h=>h2 (HD h).symm
 omega
def uo(fs:List aj)(n:ByteArray):Option aj:=fs.find? fun f=>decide (f.name=n)
def aai:aj:=⟨ByteArray.empty,0,0,[],0,0,[]⟩
theorem LD{s:aw}(hn:s.files.length<1000000000)(n:ByteArray):BQ s n=some ((uo s.files n).getD aai,(uo s.files n).isSome):=by
 have key:∀(m k i:Nat),i+m=s.files.length→m<k→pj s n k (i:Int)=some ((uo (s.files.drop i) n).getD aai,(uo (s.files.drop i) n).isSome):=by
  intro m;induction m with
  |zero=>
   intro k i hi hk;obtain⟨k,rfl⟩:=fu hk;rw[pj,FE (by omega),iF,List.drop_of_length_le (by omega)];rfl
  |succ m ih=>
   intro k i hi hk;obtain⟨k,rfl⟩:=fu hk;have h1:i<s.files.length:=by omega
   rw[pj,aS h1,iT,aB h1,bS,Td,Aw h1];unfold uo;rw[List.find?_cons];cases hb:decide (s.files[i].name=n)with
   |true=>rfl
   |false=>rw[iF,aq h1 hn];exact ih k (i+1) (by omega) (by omega)
 have:=key s.files.length aH 0 (by omega) (by rw[aF];omega);unfold BQ;rw[show((0:Nat):Int)=0 from rfl]at this;rw[this,List.drop_zero]
def IC(fs:List aj):Prop:=∀(i j:Nat) (hj:j<fs.length) (hij:i<j),zw (fs[i]'(by omega)).name fs[j].name<0
theorem B4{a b c:ByteArray}(h:zw a b<0)(k:zw b c<0):zw a c<0:=Jm _ _ _ h k
theorem Vb{fs:List aj}(h:∀(j:Nat) (hj:j<fs.length),0<j→zw (fs[j-1]'(by omega)).name fs[j].name<0):IC fs:=by
 intro i j;induction j with
 |zero=>intro hj hij;omega
 |succ j ih=>
  intro hj hij;have h1:=h (j+1) hj (by omega);simp only[Nat.add_sub_cancel]at h1;by_cases e:i=j
  ·subst e;exact h1
  ·exact B4 (ih (by omega) (by omega)) h1
theorem KE{fs:List aj}(hs:IC fs){i:Nat}(hi:i<fs.length):uo fs fs[i].name=some fs[i]:=by
 unfold uo;rw[List.find?_eq_some_iff_getElem];refine⟨by simp,i,hi,rfl,fun j hj=> ?_⟩;have:=hs j i hi hj;simp only[Bool.not_eq_true',decide_eq_false_iff_not];intro e;rw[e,wS]at this;omega
theorem KF{fs:List aj}{n:ByteArray}(h:∀(j:Nat) (hj:j<fs.length),fs[j].name≠n):uo fs n=none:=by
 unfold uo;rw[List.find?_eq_none];intro f hf;obtain⟨i,hi,rfl⟩:=NA.1 hf;simpa using h i hi
theorem ae9(x:Int):IntKind.u64.wrap x=x%18446744073709551616:=by
 unfold IntKind.wrap;simp[IntKind.bits,IntKind.signed]
theorem acb{fs:List aj}(hs:IC fs)(hn:fs.length<1000000000)(n:ByteArray):∀(m k i j:Nat),j-i=m→m<k→i≤j→j≤fs.length→(∀(q:Nat) (hq:q<fs.length),q<i→zw fs[q].name n<0)→(∀(q:Nat) (hq:q<fs.length),j≤q→¬zw fs[q].name n<0)→
  ∃r b,az fs n k (i:Int) (j:Int)=some (r,b)∧b=(uo fs n).isSome∧(b=true→at? fs r=uo fs n):=by
 intro m;induction m using Nat.strongRecOn with
 |ind m ih=>
  intro k i j hm hk hij hj hlo hhi;obtain⟨k,rfl⟩:=fu hk;rw[az];by_cases h:i<j
  ·have hh:(i+j)/2<fs.length:=by omega
   have e1:((IntKind.u64.wrap (i64.wrap ((i:Int)+(j:Int)))).fdiv (2^(min (1:Int).toNat (IntKind.u64).bits)))=(((i+j)/2:Nat):Int):=by
    rw[j9 (by omega) (by omega),ae9,show((i:Int)+(j:Int))%18446744073709551616=((i+j:Nat):Int) by omega];show((i+j:Nat):Int).fdiv (2^1)=_;rw[Int.fdiv_eq_ediv_of_nonneg _ (by decide)];omega
   rw[aS h,iT,e1,bS,j9 (x:=(((i+j)/2:Nat):Int)) (by omega) (by omega),aB hh,bS];unfold vg strings_Compare;rw[bS,bS];show∃r b,ak (decide (zw fs[(i+j)/2].name n<0)) _ _=_∧_;by_cases hc:zw fs[(i+j)/2].name n<0
   ·rw[decide_eq_true hc,iT,j9 (x:=(((i+j)/2:Nat):Int)+1) (by omega) (by omega),show(((i+j)/2:Nat):Int)+1=(((i+j)/2+1:Nat):Int) by omega];refine ih (j-((i+j)/2+1)) (by omega) k _ j rfl (by omega) (by omega) hj (fun q hq hqi=> ?_) hhi;by_cases e:q=(i+j)/2
    ·subst e;exact hc
    ·exact B4 (hs q _ hh (by omega)) hc
   ·rw[decide_eq_false hc,iF];refine ih ((i+j)/2-i) (by omega) k i _ (by omega) (by omega) (by omega) (by omega) hlo (fun q hq hqj hlt=> ?_);by_cases e:q=(i+j)/2
    ·subst e;exact hc hlt
    ·exact hc (B4 (hs _ q hq (by omega)) hlt)
  ·have hi:i=j:=by omega
   clear ih;subst hi;rw[FE (by omega),iF];unfold bT bu vg strings_Compare;by_cases hil:i<fs.length
   ·rw[aS hil,iT,aB hil,bS,bS,bS];show∃r b,some ((i:Int),(zw fs[i].name n==0))=some (r,b)∧_;refine⟨_,_,rfl,?_,fun hb=> ?_⟩
    ·by_cases hz:zw fs[i].name n=0
     ·have:=HD hz;rw[←this,KE hs hil,wS];rfl
     ·rw[beq_eq_false_iff_ne.2 hz,KF]
      ·rfl
      ·intro q hq e;rcases Nat.lt_trichotomy q i with h1|h1|h1
       ·have:=hlo q hq h1;rw[e,wS]at this;omega
       ·subst h1;exact hz (by rw[e,wS])
       ·have:=hs i q hq h1;rw[e]at this;exact hhi i hil (iO _) this
    ·have hz:zw fs[i].name n=0:=by simpa using hb
     have:=HD hz;rw[←this,KE hs hil,aB hil]
   ·rw[FE hil,iF];refine⟨_,_,rfl,?_,fun h=>by cases h⟩;rw[KF]
    ·rfl
    ·intro q hq e;have:=hlo q hq (by omega);rw[e,wS]at this;omega
theorem aaB{s:aw}(hs:IC s.files)(hn:s.files.length<1000000000)(n:ByteArray):B5 s n=some ((uo s.files n).getD aai,(uo s.files n).isSome):=by
 unfold B5 ce;obtain⟨r,b,h1,h2,h3⟩:=acb hs hn n s.files.length aH 0 s.files.length (by omega) (by rw[aF];omega) (Nat.zero_le _) (iO _) (fun q hq h=>by omega) (fun q hq h=>by omega);have h1:az s.files n aH (0:Int) (s.files.length:Int)=_:=h1;rw[h1,bS];show ak (!b) _ (am (at? s.files r) _)=_;cases hb:uo s.files n with
 |none=>
  rw[hb]at h2;rw[h2];rfl
 |some f=>
  rw[hb]at h2 h3;subst h2;rw[h3 rfl];rfl
noncomputable def Yz(m:ax)(s:aw)(j:Nat):Int:=match s.files[j]? with
 |some f=>qF (BK m f) (qF (er (decide (s.seq<f.seq)||decide (s.schema<f.schema)) 3) (er (decide (0<j)&&(match s.files[j-1]? with|some p=>NB f.name p.name|none=>false)) 1))
 |none=>0
theorem YB{m:ax}{s:aw}(hm:wj m)(hs:RB s):xr m s=some (fe (Yz m s) s.files.length 0):=by
 unfold xr;rw[jg (L:=fv m s) (n:=s.files.length) (fin:=some 0) (c:=Yz m s) hs.files.1
  (fun k=>by rw[fv,wl,iF];rfl)
  (fun k i hi=>by
   rw[fv,aS hi,iT,aB hi,bS,VM hm (hs.files.2 _ (gd hi)),bS,js];unfold Yz;rw[dK hi];simp only;rw[←bG,←bG];refine fG fun _=> ?_
   unfold vp vO;rw[aq hi hs.files.1];have hj:∀x,ak x (some (3:Int)) (ak (decide ((0:Int)<(i:Int))) (am (at? s.files (i64.wrap ((i:Int)-1))) fun e2=>am (some (Op.bytesLess s.files[i].name.toList e2.name.toList||s.files[i].name.toList==e2.name.toList)) fun y1=>ak y1 (some 1) (fv m s k ((i+1:Nat):Int))) (ak false (some 1) (fv m s k ((i+1:Nat):Int))))=
     ee (er x 3) (ee (er (decide (0<i)&&(match s.files[i-1]? with|some p=>NB s.files[i].name p.name|none=>false)) 1) (fv m s k ((i+1:Nat):Int))):=by
    intro x;rw[eF (by decide)];refine fG fun _=> ?_
    by_cases h0:0<i
    ·have hi1:i-1<s.files.length:=by omega
     rw[decide_eq_true (show(0:Int)<(i:Int) by omega),iT,tO hi h0 hs.files.1,bS,bS,eF (by decide),decide_eq_true h0,dK hi1,Bool.true_and];rfl
    ·rw[decide_eq_false (show¬(0:Int)<(i:Int) by omega),decide_eq_false h0];rfl
   cases decide (s.seq<s.files[i].seq)with
   |true=>exact hj true
   |false=>exact hj _)]
 exact eQ _
theorem XZ{m:ax}{s:aw}(hm:wj m)(hs:RB s):bQ m s aH (0:Int)=ee (fe (Yz m s) s.files.length 0) (kr m s):=by
 exact jg (L:=bQ m s) (n:=s.files.length) (c:=Yz m s) hs.files.1
  (fun k=>by rw[bQ,wl,iF])
  (fun k i hi=>by
   rw[bQ,aS hi,iT,aB hi,bS,aam hm (hs.files.2 _ (gd hi)),bS,js];unfold Yz;rw[dK hi];simp only;rw[←bG,←bG];refine fG fun _=> ?_
   unfold nj nr;rw[aq hi hs.files.1];have hj:∀x,ak x (some (3:Int)) (ak (decide ((0:Int)<(i:Int))) (am (at? s.files (i64.wrap ((i:Int)-1))) fun e2=>am (some (Op.bytesLess s.files[i].name.toList e2.name.toList||s.files[i].name.toList==e2.name.toList)) fun y1=>ak y1 (some 1) (bQ m s k ((i+1:Nat):Int))) (ak false (some 1) (bQ m s k ((i+1:Nat):Int))))=
     ee (er x 3) (ee (er (decide (0<i)&&(match s.files[i-1]? with|some p=>NB s.files[i].name p.name|none=>false)) 1) (bQ m s k ((i+1:Nat):Int))):=by
    intro x;rw[eF (by decide)];refine fG fun _=> ?_
    by_cases h0:0<i
    ·have hi1:i-1<s.files.length:=by omega
     rw[decide_eq_true (show(0:Int)<(i:Int) by omega),iT,tO hi h0 hs.files.1,bS,bS,eF (by decide),decide_eq_true h0,dK hi1,Bool.true_and];rfl
    ·rw[decide_eq_false (show¬(0:Int)<(i:Int) by omega),decide_eq_false h0];rfl
   cases decide (s.seq<s.files[i].seq)with
   |true=>exact hj true
   |false=>exact hj _)
theorem N0{m:ax}{s:aw}(hm:wj m)(hs:RB s)(h:fe (Yz m s) s.files.length 0=0):IC s.files∧∀f∈s.files,Ws f:=by
 have key:∀(j:Nat) (hj:j<s.files.length),BK m s.files[j]=0∧(0<j→NB s.files[j].name (s.files[j-1]'(by omega)).name=false):=by
  intro j hj;have:=Xh.1 h j (Nat.zero_le _) (by omega);unfold Yz at this;rw[dK hj]at this;simp only[sM]at this;refine⟨this.1,fun h0=> ?_⟩;have h3:=(Hh (by decide)).1 this.2.2;rw[decide_eq_true h0,dK (show j-1<s.files.length by omega),Bool.true_and]at h3;exact h3
 refine⟨Vb fun j hj h0=>T7 ((key j hj).2 h0),fun f hf=> ?_⟩;obtain⟨i,hi,rfl⟩:=NA.1 hf;exact RM hm (hs.files.2 _ hf) (key i hi).1
theorem Nk{l:List Int}(h:Gb l=true):0<l.length∧∀(i j:Nat) (hj:j<l.length) (hij:i<j),l[i]'(by omega)<l[j]:=by
 unfold Gb UT at h;rw[iu,decide_eq_true_iff,Bool.not_eq_true',decide_eq_false_iff_not]at h;obtain⟨h0,h1⟩:=h;refine⟨h0,fun i j=> ?_⟩;induction j with
 |zero=>intro hj hij;omega
 |succ j ih=>
  intro hj hij;have hd:KZ l (1+j)=false:=by
   cases hd:KZ l (1+j)with
   |false=>rfl
   |true=>exact absurd ⟨j,by omega,hd⟩ h1
  rw[I6 (by omega) (by omega),decide_eq_false_iff_not]at hd;have e:l[1+j]'(by omega)=l[j+1]:=by congr 1;omega
  have e2:l[1+j-1]'(by omega)=l[j]'(by omega):=by congr 1;omega
  rw[e,e2]at hd;by_cases hh:i=j
  ·subst hh;omega
  ·have:=ih (by omega) (by omega);omega
def Tg(l:List Int)(n:Int):Bool:=lu (fun j=>match l[j]? with|some a=>decide (a<0)||decide (n≤a) |none=>false) l.length
theorem abF{l:List Int}(hn:l.length<1000000000)(n:Int):pW l n=some (!Tg l n):=by
 unfold pW;rw[R7 (L:=fT l n) (n:=l.length) (p:=fun j=>match l[j]? with|some a=>decide (a<0)||decide (n≤a) |none=>false) hn
  (fun k=>by rw[fT,wl,iF];rfl)
  (fun k i hi=>by
   rw[fT,aS hi,iT,aB hi,bS,dK hi];unfold pK;rw[aq hi hn];simp only;cases h:decide (l[i]<0)with
   |true=>rfl
   |false=>rfl)]
 rfl
theorem WC{l:List Int}(h:Gb l=true)(n:Int):Tg l n=(decide (l[0]'(Nk h).1<0)||decide (n≤l[l.length-1]'(by have:=(Nk h).1;omega))):=by
 obtain⟨h0,h1⟩:=Nk h;refine lm ?_;unfold Tg;rw[dO,Bool.or_eq_true,decide_eq_true_iff,decide_eq_true_iff];constructor
 ·rintro⟨j,hj,hp⟩;rw[dK hj]at hp;simp only[Bool.or_eq_true,decide_eq_true_eq]at hp;rcases hp with hp|hp
  ·left;by_cases e:j=0
   ·subst e;exact hp
   ·have:=h1 0 j hj (by omega);omega
  ·right;by_cases e:j=l.length-1
   ·subst e;exact hp
   ·have:=h1 j (l.length-1) (by omega) (by omega);omega
 ·rintro(hp|hp)
  ·exact⟨0,h0,by rw[dK h0];simp[hp]⟩
  ·exact⟨l.length-1,by omega,by rw[dK (show l.length-1<l.length by omega)];simp[hp]⟩
def aa4(l:List mI)(d:mI)(j:Nat):Bool:=decide (0<j)&&(match l[j-1]? with|some p=>NB d.file p.file|none=>false)
def Q7(s:aw)(j:Nat):Int:=match s.dat[j]? with
 |some d=>(match uo s.files d.file with
  |none=>9
  |some f=>qF (er (aa4 s.dat d j|| !Gb d.rows) 1) (er (Tg d.rows f.rows) 3))
 |none=>0
theorem acY{m:ax}{s:aw}(hs:RB s)(ho:IC s.files):td m s=ee (fe (Q7 s) s.dat.length 0) (oN m s):=by
 unfold td;exact jg (L:=dw m s) (n:=s.dat.length) (c:=Q7 s) hs.dat.1
  (fun k=>by rw[dw,wl,iF])
  (fun k i hi=>by
   have hd:=hs.dat.2 _ (gd hi);rw[dw,aS hi,iT,aB hi,bS,aaB ho hs.files.1,bS];unfold Q7;rw[dK hi];simp only;cases hf:uo s.files s.dat[i].file with
   |none=>rfl
   |some f=>
    show ak (!true) _ _=_;rw[Bool.not_true,iF,WT hd,bS];rw[←bG];unfold oT se;rw[aq hi hs.dat.1];have hj:∀x,(Gb s.dat[i].rows=false→x=true)→ak x (some (1:Int)) (am (at? s.dat[i].rows (0:Int)) fun e3=>ak (decide (e3<(0:Int))) (ak true (some (3:Int)) (dw m s k ((i+1:Nat):Int))) (am (at? s.dat[i].rows (i64.wrap ((s.dat[i].rows.length:Int)-(1:Int)))) fun e4=>ak (decide (f.rows≤e4)) (some (3:Int)) (dw m s k ((i+1:Nat):Int))))=
      ee (er x 1) (ee (er (Tg s.dat[i].rows f.rows) 3) (dw m s k ((i+1:Nat):Int))):=by
     intro x hx;rw[eF (by decide)];refine fG fun e=> ?_
     have e:=(Hh (by decide)).1 e;cases hr:Gb s.dat[i].rows with
     |false=>rw[hx hr]at e;cases e
     |true=>
      obtain⟨h0,_⟩:=Nk hr;have a0:=aB h0;rw[show((0:Nat):Int)=0 from rfl]at a0;rw[a0,bS,mz hd,show((s.dat[i].rows.length:Int)-1)=((s.dat[i].rows.length-1:Nat):Int) by omega,aB (show s.dat[i].rows.length-1<s.dat[i].rows.length by omega),bS,WC hr];cases decide (s.dat[i].rows[0]<0)with
      |true=>rfl
      |false=>rw[iF,eF (by decide),Bool.false_or]
    unfold aa4;by_cases h0:0<i
    ·have hi1:i-1<s.dat.length:=by omega
     rw[decide_eq_true (show(0:Int)<(i:Int) by omega),iT,tO hi h0 hs.dat.1,bS,bS,decide_eq_true h0,dK hi1,Bool.true_and];show ak (NB s.dat[i].file s.dat[i-1].file) _ _=ee (er (NB s.dat[i].file s.dat[i-1].file|| !Gb s.dat[i].rows) 1) _;cases NB s.dat[i].file s.dat[i-1].file with
     |true=>rw[iT,Bool.true_or];exact hj true fun _=>rfl
     |false=>rw[iF,Bool.false_or];exact hj _ fun h=>by rw[h];rfl
    ·rw[decide_eq_false (show¬(0:Int)<(i:Int) by omega),iF,decide_eq_false h0,Bool.false_and,Bool.false_or];exact hj _ fun h=>by rw[h];rfl)
theorem ade{m:ax}{s:aw}(hs:RB s):kr m s=ee (fe (Q7 s) s.dat.length 0) (kq m s):=by
 unfold kr;exact jg (L:=cC m s) (n:=s.dat.length) (c:=Q7 s) hs.dat.1
  (fun k=>by rw[cC,wl,iF])
  (fun k i hi=>by
   have hd:=hs.dat.2 _ (gd hi);rw[cC,aS hi,iT,aB hi,bS,LD hs.files.1,bS];unfold Q7;rw[dK hi];simp only;cases hf:uo s.files s.dat[i].file with
   |none=>rfl
   |some f=>
    show ak (!true) _ _=_;rw[Bool.not_true,iF,ZX hd,bS];rw[←bG];unfold kj;rw[aq hi hs.dat.1];have hj:∀x,ak x (some (1:Int)) (am (pW s.dat[i].rows f.rows) fun r11=>ak (!r11) (some (3:Int)) (cC m s k ((i+1:Nat):Int)))=
      ee (er x 1) (ee (er (Tg s.dat[i].rows f.rows) 3) (cC m s k ((i+1:Nat):Int))):=by
     intro x;rw[eF (by decide),abF hd,bS,Bool.not_not,eF (by decide)]
    unfold aa4;by_cases h0:0<i
    ·have hi1:i-1<s.dat.length:=by omega
     rw[decide_eq_true (show(0:Int)<(i:Int) by omega),iT,tO hi h0 hs.dat.1,bS,bS,decide_eq_true h0,dK hi1,Bool.true_and];show ak (NB s.dat[i].file s.dat[i-1].file) _ _=ee (er (NB s.dat[i].file s.dat[i-1].file|| !Gb s.dat[i].rows) 1) _;cases NB s.dat[i].file s.dat[i-1].file with
     |true=>rw[iT,Bool.true_or];exact hj true
     |false=>rw[iF,Bool.false_or];exact hj _
    ·rw[decide_eq_false (show¬(0:Int)<(i:Int) by omega),iF,decide_eq_false h0,Bool.false_and,Bool.false_or];exact hj _)
def TA(m:ax)(d:cX):Bool:= !decide (0≤d.schema∧d.schema≤(m.schemas.length:Int)-1)||decide (d.seq<1)
noncomputable def byE(m:ax)(d:cX):Int:=qF (er (TA m d) 3) (match m.schemas[d.schema.toNat]? with|some fs=>Kl fs d.ids d.keys|none=>0)
theorem Y6{m:ax}{d:cX}(h:TA m d=false):∃fs,at? m.schemas d.schema=some fs∧m.schemas[d.schema.toNat]? =some fs∧fs∈m.schemas:=by
 unfold TA at h;simp only[Bool.or_eq_false_iff,Bool.not_eq_false',decide_eq_true_eq]at h;obtain⟨⟨a1,a2⟩,_⟩:=h;obtain⟨h1,h2,h3⟩:=Dc a1 a2;exact⟨_,h2,h3,gd h1⟩
theorem aeC{m:ax}{d:cX}(hm:wj m)(hz:Zs d.ids d.keys):G1 m d true=some (byE m d):=by
 unfold G1 byE;rw[lA,bS,mz hm.schemas.1,←eQ,←bG];have hj:∀x,x=TA m d→xq m d true x=ee (er (TA m d) 3) (ee (match m.schemas[d.schema.toNat]? with|some fs=>Kl fs d.ids d.keys|none=>0) (some 0)):=by
  rintro x rfl;unfold xq;rw[eF (by decide)];refine fG fun e=> ?_
  obtain⟨fs,h1,h2,h3⟩:=Y6 ((Hh (by decide)).1 e);rw[h1,h2,bS,ac0 hz (hm.schemas.2 _ h3),eQ]
 have hr:TA m d=TA m d:=rfl
 conv at hr=>rhs;unfold TA
 cases a:decide (0≤d.schema∧d.schema≤(m.schemas.length:Int)-1)with
 |false=>rw[a]at hr;rw[Bool.not_false,iT];exact hj true (by rw[hr];rfl)
 |true=>rw[a]at hr;rw[Bool.not_true,iF];exact hj _ (by rw[hr];rfl)
theorem aeV{m:ax}{d:cX}(hm:wj m)(hz:Zs d.ids d.keys):yy m d=some (byE m d):=by
 unfold yy byE;rw[qO,bS,mz hm.schemas.1,←eQ,←bG];have hj:∀x,x=TA m d→pS m d x=ee (er (TA m d) 3) (ee (match m.schemas[d.schema.toNat]? with|some fs=>Kl fs d.ids d.keys|none=>0) (some 0)):=by
  rintro x rfl;unfold pS;rw[eF (by decide)];refine fG fun e=> ?_
  obtain⟨fs,h1,h2,h3⟩:=Y6 ((Hh (by decide)).1 e);rw[h1,h2,bS,acu hz (hm.schemas.2 _ h3),bS,eQ]
 have hr:TA m d=TA m d:=rfl
 conv at hr=>rhs;unfold TA
 cases a:decide (0≤d.schema∧d.schema≤(m.schemas.length:Int)-1)with
 |false=>rw[a]at hr;rw[Bool.not_false,iT];exact hj true (by rw[hr];rfl)
 |true=>rw[a]at hr;rw[Bool.not_true,iF];exact hj _ (by rw[hr];rfl)
def Q5(fs:List aj)(q:Int):Bool:=lu (fun j=>match fs[j]? with|some f=>decide (f.seq<q) |none=>false) fs.length
theorem acp{fs:List aj}(hn:fs.length<1000000000)(d:cX):xD fs d=some (Q5 fs d.seq):=by
 unfold xD cH dc;obtain⟨r,r1,r2⟩:=SP (L:=aX fs d.schema d.ids d.keys d.seq) (n:=fs.length) (p:=fun j=>match fs[j]? with|some f=>decide (f.seq<d.seq) |none=>false) hn
  (fun k=>by rw[aX,wl,iF];rfl)
  (fun k i hi=>by rw[aX,aS hi,iT,aB hi,bS,yb,bS,aq hi hn,dK hi])
 rw[r1,bS,bS,r2];rfl
theorem adt{fs:List aj}(hn:fs.length<1000000000)(q:Int):Ad fs q=some (Q5 fs q):=by
 have key:∀(m k i:Nat),i+m=fs.length→m<k→ou fs q k (i:Int)=some (decide (∃j,j<m∧(match fs[i+j]? with|some f=>decide (f.seq<q) |none=>false)=true)):=by
  intro m;induction m with
  |zero=>
   intro k i hi hk;obtain⟨k,rfl⟩:=fu hk;rw[ou,FE (by omega),iF];simp[Bh]
  |succ m ih=>
   intro k i hi hk;obtain⟨k,rfl⟩:=fu hk;have h1:i<fs.length:=by omega
   rw[ou,aS h1,iT,aB h1,bS,aq h1 hn];cases hd:decide (fs[i].seq<q)with
   |true=>rw[iT,decide_eq_true ⟨0,by omega,by rw[Nat.add_zero,dK h1];exact hd⟩]
   |false=>
    rw[iF,ih k (i+1) (by omega) (by omega)];congr 1;refine decide_eq_decide.2 ⟨fun⟨j,a,b⟩=>⟨j+1,by omega,by rw[←b,show i+(j+1)=i+1+j by omega]⟩,fun⟨j,a,b⟩=> ?_⟩;cases j with
    |zero=>rw[Nat.add_zero,dK h1]at b;simp only at b;rw[hd]at b;cases b
    |succ j=>exact⟨j,by omega,by rw[←b,show i+(j+1)=i+1+j by omega]⟩
 have:=key fs.length aH 0 (by omega) (by rw[aF];omega);unfold Ad;rw[show((0:Nat):Int)=0 from rfl]at this;rw[this];congr 1;refine lm ?_;unfold Q5;rw[decide_eq_true_iff,dO];simp
noncomputable def QE(m:ax)(s:aw)(j:Nat):Int:=match s.dby[j]? with
 |some d=>qF (byE m d) (qF (er (decide (s.seq<d.seq)) 3) (er ((decide (0<j)&&(match s.dby[j-1]? with|some p=>decide (d.seq<p.seq) |none=>false))|| !Q5 s.files d.seq) 1))
 |none=>0
theorem RT{m:ax}{s:aw}(hs:RB s){i:Nat}(hi:i<s.dby.length)(X:Option Int)(O:Option Bool)(ho:O=some (Q5 s.files s.dby[i].seq)):
  ak (decide ((0:Int)<(i:Int))) (am (at? s.dby (i64.wrap ((i:Int)-(1:Int)))) fun e6=>ak (decide (s.dby[i].seq<e6.seq)) (ak true (some (1:Int)) X) (am O fun r5=>ak (!r5) (some (1:Int)) X)) (am O fun r6=>ak (!r6) (some (1:Int)) X)=
   ee (er ((decide (0<i)&&(match s.dby[i-1]? with|some p=>decide (s.dby[i].seq<p.seq) |none=>false))|| !Q5 s.files s.dby[i].seq) 1) X:=by
 subst ho;by_cases h0:0<i
 ·have hi1:i-1<s.dby.length:=by omega
  rw[decide_eq_true (show(0:Int)<(i:Int) by omega),iT,tO hi h0 hs.dby.1,bS,decide_eq_true h0,dK hi1,Bool.true_and,bS];show _=ee (er (decide (s.dby[i].seq<s.dby[i-1].seq)|| !Q5 s.files s.dby[i].seq) 1) X;cases decide (s.dby[i].seq<s.dby[i-1].seq)with
  |true=>rfl
  |false=>rw[iF,eF (by decide),Bool.false_or]
 ·rw[decide_eq_false (show¬(0:Int)<(i:Int) by omega),iF,decide_eq_false h0,Bool.false_and,Bool.false_or,bS,eF (by decide)]
theorem ksz{s:aw}(hs:RB s){d:cX}(hd:d∈s.dby):Zs d.ids d.keys:=by
 obtain⟨a,b,c⟩:=hs.dby.2 _ hd;exact⟨a,b,c⟩
theorem adl{m:ax}{s:aw}(hm:wj m)(hs:RB s):oN m s=some (fe (QE m s) s.dby.length 0):=by
 unfold oN;rw[jg (L:=gf m s) (n:=s.dby.length) (fin:=some 0) (c:=QE m s) hs.dby.1
  (fun k=>by rw[gf,wl,iF];rfl)
  (fun k i hi=>by
   rw[gf,aS hi,iT,aB hi,bS,aeC hm (ksz hs (gd hi)),bS,js,eF (by decide)];unfold QE;rw[dK hi];simp only;rw[←bG,←bG];refine fG fun _=>fG fun _=> ?_
   unfold oY;rw[aq hi hs.dby.1];exact RT (m:=m) hs hi _ _ (acp hs.files.1 _))]
 exact eQ _
theorem ab9{m:ax}{s:aw}(hm:wj m)(hs:RB s):kq m s=some (fe (QE m s) s.dby.length 0):=by
 unfold kq;rw[jg (L:=dy m s) (n:=s.dby.length) (fin:=some 0) (c:=QE m s) hs.dby.1
  (fun k=>by rw[dy,wl,iF];rfl)
  (fun k i hi=>by
   rw[dy,aS hi,iT,aB hi,bS,aeV hm (ksz hs (gd hi)),bS,js,eF (by decide)];unfold QE;rw[dK hi];simp only;rw[←bG,←bG];refine fG fun _=>fG fun _=> ?_
   unfold ku;rw[aq hi hs.dby.1];exact RT (m:=m) hs hi _ _ (adt hs.files.1 _))]
 exact eQ _
end Go.Proofs.YtpiohnabdhpphaaGreatDoor
