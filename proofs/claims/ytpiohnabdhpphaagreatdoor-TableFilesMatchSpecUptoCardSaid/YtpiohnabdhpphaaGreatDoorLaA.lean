/- The calendar, in plain integers. Names, in plain terms. The fields of a type, in plain terms. The check of types and the common type, in plain terms. Texts and sound values, in plain terms. Values of a type, in plain terms; the law of Sound and Check. Rows: lists of fields. SameType: both answers are the same. CheckSchema: both answers are the same. CheckSchema, end; the law of types. Rows: CheckRows, of both sides. Adapt: fields that are found, types that widen, schemas that are adaptable. TransformType of both sides. Partitions: suits and the fields at the top, of both sides. Loops that look for the first error. Names of objects. Numbers of 256 bits: what 'times' and 'compare' compute. Comparing numbers of 256 bits. Compare, in plain terms. Compare is a total order. What the reference compares. The reference's Compare, in plain terms; the law 'ValueOrderMatchesSpec'. Values of leaves: what a check says of them; their order. Fields at the top, types of partition values, data files: both sides find the same error. Data files: both sides find the same error. Texts: their order. What is removed by keys: both sides find the same error. Snapshots: both sides find the same error. What is removed in a snapshot; all snapshots: both sides find the same error. All snapshots: both sides find the same error. -/
import Derived.Laws.Runes
import Derived.ChangeKeysEq
import Derived.Lib.Bytealg
import Derived.Sort.Statements
import Derived.Test.YtpiohnabdhpphaaGreatDoorGeB
set_option linter.unusedVariables false
set_option linter.unusedSimpArgs false
set_option linter.unnecessarySimpa false
namespace Go.SX.Cal
open Go
open Go.IntKind (i64)
theorem jQ{x:Int}(h1: -9223372036854775808≤x)(h2:x≤9223372036854775807):i64.wrap x=x:=by
 simp only[IntKind.wrap,IntKind.bits,IntKind.signed]
 simp only[Bool.true_and,decide_eq_true_eq,ge_iff_le]
 split<;>omega
def S(y:Int):Int:=365*y+y/4-y/100
def F(r:Int):Int:=r-r/1460+r/36524
def yr(r:Int):Int:=(r-r/1460+r/36524-r/146096)/365
theorem abu:((List.range 400).all fun y=>decide (F (S (y:Int))/365=y∧F (S ((y:Int)+1)-1)/365=y))=true:=by decide+kernel
theorem Ox{y:Int}(h0:0≤y)(h1:y≤399):F (S y)/365=y∧F (S (y+1)-1)/365=y:=by
 have:=List.all_eq_true.1 abu y.toNat (List.mem_range.2 (by omega))
 have h:=of_decide_eq_true this
 rw[Int.toNat_of_nonneg h0]at h
 exact h
theorem Up{r s:Int}(h:r≤s):F r≤F s:=by unfold F;omega
theorem F8{r:Int}(h0:0≤r)(h1:r≤146096):0≤yr r∧yr r≤399:=by unfold yr;omega
theorem acu{r:Int}(h0:0≤r)(h1:r≤146095):yr r=F r/365:=by
 unfold yr F
 have:r/146096=0:=by omega
 rw[this,Int.sub_zero]
def Ci(y:Int):Prop:=y%4=0∧(y%100≠0∨y%400=0)
instance(y:Int):Decidable (Ci y):=by unfold Ci;infer_instance
theorem Yl{r:Int}(h0:0≤r)(h1:r≤146096):S (yr r)≤r∧r≤S (yr r)+365∧(r=S (yr r)+365→Ci (yr r+1)):=by
 obtain⟨b0,b1⟩:=F8 h0 h1
 by_cases hr:r=146096
 ·subst hr;decide+kernel
 have h2:r≤146095:=by omega
 have e:=acu h0 h2
 generalize yr r=y at*
 have lo:S y≤r:=by
  apply Classical.byContradiction
  intro hn
  have hy:1≤y:=by
   apply Classical.byContradiction
   intro hy
   have:y=0:=by omega
   subst this
   simp[S]at hn
   omega
  have t:=(Ox (y:=y-1) (by omega) (by omega)).2
  rw[show y-1+1=y by omega]at t
  have:=Up (show r≤S y-1 by omega)
  have:F r/365≤y-1:=by rw[←t];exact Int.ediv_le_ediv (by decide) this
  omega
 have hi:r<S (y+1)∨y=399:=by
  by_cases hy:y=399
  ·exact .inr hy
  left
  apply Classical.byContradiction
  intro hn
  have t:=(Ox (y:=y+1) (by omega) (by omega)).1
  have:=Up (show S (y+1)≤r by omega)
  have:y+1≤F r/365:=by rw[←t];exact Int.ediv_le_ediv (by decide) this
  omega
 refine⟨lo,?_,fun he=> ?_⟩
 ·rcases hi with hi|rfl
  ·unfold S at*;omega
  ·simp[S]at*;omega
 ·rcases hi with hi|rfl
  ·unfold S at*
   have h4:(y+1)/4=y/4+1∧(y+1)/100=y/100:=by omega
   exact⟨by omega,.inl (by omega)⟩
  ·simp[S]at*;omega
def sM(m:Int):Int:=(153*m+2)/5
def days(y m d:Int):Int:=
 if m≤2 then(y-1)/400*146097+S ((y-1)%400)+sM (m+9)+d-1-719468 else y/400*146097+S (y%400)+sM (m-3)+d-1-719468
def KM(y m:Int):Int:=if m=2 then(if Ci y then 29 else 28)else if m=4∨m=6∨m=9∨m=11 then 30 else 31
def date (n:Int):Int×Int×Int:=
 let era:=(n+719468)/146097
 let r:=(n+719468)%146097
 let y:=yr r
 let k:=r-S y
 let m:=(5*k+2)/153
 let d:=k-sM m+1
 if m+3>12 then(era*400+y+1,m+3-12,d)else(era*400+y,m+3,d)
theorem Ma(n:Int):days (date n).1 (date n).2.1 (date n).2.2=n∧1≤(date n).2.1∧(date n).2.1≤12∧1≤(date n).2.2∧(date n).2.2≤KM (date n).1 (date n).2.1:=by
 simp only[date]
 have hr0:0≤(n+719468)%146097:=by omega
 have hr1:(n+719468)%146097≤146096:=by omega
 have hn:n+719468=(n+719468)/146097*146097+(n+719468)%146097:=by omega
 generalize (n+719468)%146097=r at*
 generalize (n+719468)/146097=era at*
 obtain⟨b0,b1⟩:=F8 hr0 hr1
 obtain⟨s0,s1,s2⟩:=Yl hr0 hr1
 generalize yr r=y at*
 have hk0:0≤r-S y:=by omega
 have hk1:r-S y≤365:=by omega
 have hk2:r-S y=365→Ci (y+1):=fun h=>s2 (by omega)
 have hrk:r=S y+(r-S y):=by omega
 generalize r-S y=k at*
 subst hrk
 have hm0:0≤(5*k+2)/153:=by omega
 have hm1:(5*k+2)/153≤11:=by omega
 have hd:1≤k-sM ((5*k+2)/153)+1:=by unfold sM;omega
 have hd2:k≤sM ((5*k+2)/153+1)-1:=by unfold sM;omega
 generalize hm:(5*k+2)/153=m at*
 by_cases hc:m+3>12
 ·simp only[hc,if_true]
  have e1:(era*400+y+1-1)/400=era:=by omega
  have e2:(era*400+y+1-1)%400=y:=by omega
  refine⟨?_,by omega,by omega,hd,?_⟩
  ·unfold days
   rw[if_pos (by omega),e1,e2,show m+3-12+9=m by omega]
   omega
  ·unfold KM
   have hcase:m=10∨m=11:=by omega
   rcases hcase with rfl|rfl
   ·simp[sM]at*;omega
   ·have hL:Ci (era*400+y+1)↔Ci (y+1):=by unfold Ci;omega
    simp only[show(11:Int)+3-12=2 by rfl,if_true]
    by_cases hl:Ci (y+1)
    ·rw[if_pos (hL.2 hl)];simp[sM]at*;omega
    ·rw[if_neg (fun h=>hl (hL.1 h))]
     have:k≠365:=fun h=>hl (hk2 h)
     simp[sM]at*;omega
 ·simp only[hc,if_false]
  have e1:(era*400+y)/400=era:=by omega
  have e2:(era*400+y)%400=y:=by omega
  refine⟨?_,by omega,by omega,hd,?_⟩
  ·unfold days
   rw[if_neg (by omega),e1,e2,show m+3-3=m by omega]
   omega
  ·unfold KM
   rw[if_neg (by omega)]
   have hcase:m=0∨m=1∨m=2∨m=3∨m=4∨m=5∨m=6∨m=7∨m=8∨m=9:=by omega
   rcases hcase with rfl|rfl|rfl|rfl|rfl|rfl|rfl|rfl|rfl|rfl<;>simp[sM]at* <;>omega
def E(y:Int):Int:=y/400*146097+S (y%400)-719468
theorem aaa{y:Int}(h:Ci (y+1)):E (y+1)=E y+366:=by
 unfold E S;unfold Ci at h
 by_cases h4:(y+1)%400=0
 ·have a1:(y+1)/400=y/400+1:=by omega
  have a2:y%400=399:=by omega
  rw[a1,h4,a2];omega
 ·have a1:(y+1)/400=y/400:=by omega
  have a2:(y+1)%400=y%400+1:=by omega
  rw[a1,a2]
  have hq:0≤y%400∧y%400≤398:=by omega
  have h5:(y%400+1)%4=0:=by omega
  have h6:(y%400+1)%100≠0:=by omega
  generalize y%400=q at*
  have:(q+1)/4=q/4+1:=by omega
  have:(q+1)/100=q/100:=by omega
  omega
theorem acD{y:Int}(h:¬Ci (y+1)):E (y+1)=E y+365:=by
 unfold E S;unfold Ci at h
 have h4:(y+1)%400≠0:=by omega
 have a1:(y+1)/400=y/400:=by omega
 have a2:(y+1)%400=y%400+1:=by omega
 rw[a1,a2]
 have hq:0≤y%400∧y%400≤398:=by omega
 have h5:(y%400+1)%4≠0∨(y%400+1)%100=0:=by omega
 generalize y%400=q at*
 by_cases h7:(q+1)%100=0
 ·have:(q+1)/4=q/4+1:=by omega
  have:(q+1)/100=q/100+1:=by omega
  omega
 ·have:(q+1)/4=q/4:=by omega
  have:(q+1)/100=q/100:=by omega
  omega
theorem C1(y m d:Int):days y m d=if m≤2 then E (y-1)+sM (m+9)+d-1 else E y+sM (m-3)+d-1:=by
 unfold days E;split<;>omega
theorem Mn(y:Int):(Ci (y+1)∧E (y+1)=E y+366)∨(¬Ci (y+1)∧E (y+1)=E y+365):=by
 by_cases h:Ci (y+1)
 ·exact .inl ⟨h,aaa h⟩
 ·exact .inr ⟨h,acD h⟩
theorem zI(y:Int):days y 1 1=E (y-1)+306:=by
 rw[C1,if_pos (by decide)];simp[sM]
theorem XA(y m d:Int)(h0:1≤m)(h1:m≤12)(h2:1≤d)(h3:d≤KM y m):days y 1 1≤days y m 1∧days y m d=days y m 1+d-1∧days y m d<days (y+1) 1 1:=by
 rw[zI,zI,C1,C1,show y+1-1=y by omega]
 have hE:=Mn (y-1)
 rw[show y-1+1=y by omega]at hE
 unfold KM at h3
 have hc:m=1∨m=2∨m=3∨m=4∨m=5∨m=6∨m=7∨m=8∨m=9∨m=10∨m=11∨m=12:=by omega
 rcases hE with⟨hl,hE⟩ |⟨hl,hE⟩<;>simp only[hl,if_true,if_false]at h3<;>rcases hc with rfl|rfl|rfl|rfl|rfl|rfl|rfl|rfl|rfl|rfl|rfl|rfl<;>simp[sM]at* <;>omega
theorem Hc(y:Int):days y 1 1+365≤days (y+1) 1 1∧days (y+1) 1 1≤days y 1 1+366:=by
 rw[zI,zI,show y+1-1=y by omega]
 have hE:=Mn (y-1)
 rw[show y-1+1=y by omega]at hE
 omega
theorem KK(y:Int)(k:Nat):days y 1 1+365*k≤days (y+k) 1 1:=by
 induction k with
 |zero=>simp
 |succ k ih=>
  have:=(Hc (y+k)).1
  rw[show y+((k+1:Nat):Int)=y+k+1 by omega]
  omega
theorem yM{y z:Int}(h:y≤z):days y 1 1+365*(z-y)≤days z 1 1:=by
 have:=KK y (z-y).toNat
 rw[show y+((z-y).toNat:Int)=z by omega]at this
 omega
theorem Kf{n y:Int}:(date n).1=y↔days y 1 1≤n∧n<days (y+1) 1 1:=by
 obtain⟨h1,h2,h3,h4,h5⟩:=Ma n
 obtain⟨a1,a2,a3⟩:=XA _ _ _ h2 h3 h4 h5
 rw[h1]at a2 a3
 constructor
 ·rintro rfl
  exact⟨by omega,a3⟩
 ·rintro⟨b1,b2⟩
  apply Classical.byContradiction
  intro hn
  rcases Int.lt_or_gt_of_ne hn with hlt|hgt
  ·have:=yM (show(date n).1+1≤y by omega)
   omega
  ·have:=yM (show y+1≤(date n).1 by omega)
   omega
end Go.SX.Cal
namespace Go.Proofs.YtpiohnabdhpphaaGreatDoor
open Go Go.SX Go.SX.Cal
open Go.IntKind (i64)
theorem ap{β:Type}(x y:Option β):aj true x y=x:=rfl
theorem ah{β:Type}(x y:Option β):aj false x y=y:=rfl
theorem aC{β:Type}(b:Bool)(x y:Option β):aj b x y=if b=true then x else y:=by cases b<;>rfl
theorem aJ:aH=1152921504606846976:=rfl
def first(P:Nat→Bool)(i n:Nat):Option Nat:=(List.range' i (n-i)).find? P
theorem ua{P:Nat→Bool}{i n:Nat}(h:i<n):first P i n=if P i=true then some i else first P (i+1) n:=by
 unfold first
 rw[show n-i=(n-(i+1))+1 by omega,List.range'_succ,List.find?_cons]
 cases hp:P i<;>simp[hp]
theorem uh{P:Nat→Bool}{n:Nat}:first P n n=none:=by simp[first]
theorem zO{P:Nat→Bool}{i n:Nat}:first P i n=none↔∀j,i≤j→j<n→P j=false:=by
 unfold first
 rw[List.find?_eq_none]
 constructor
 ·intro h j h1 h2
  have:=h j (by rw[List.mem_range'_1];omega)
  simpa using this
 ·intro h j hj
  rw[List.mem_range'_1]at hj
  have:=h j (by omega) (by omega)
  simp[this]
theorem tW{β:Type}{f:Nat→Nat→Option β}{n:Nat}{P:Nat→Bool}{A:Nat→Option β}{B:Option β}(hstep:∀k i,i<n→f (k+1) i=if P i=true then A i else f k (i+1))(hend:∀k,f (k+1) n=B):
  ∀k i,i≤n→n-i<k→f k i=(first P i n).elim B A:=by
 intro k
 induction k with
 |zero=>intro i _ h;omega
 |succ k ih=>
  intro i hi hk
  by_cases h:i=n
  ·subst h
   rw[hend,uh];rfl
  ·rw[hstep k i (by omega),ua (by omega)]
   by_cases hp:P i=true
   ·simp[hp]
   ·simp only[hp,if_false]
    exact ih (i+1) (by omega) (by omega)
def m9(s:ByteArray)(i:Nat):Nat:=(s.data.toList.getD i 0).toNat
theorem IK(s:ByteArray)(i:Nat)(h:i<s.size):(s.get! i).toNat=m9 s i:=by
 unfold m9
 have h':i<s.data.size:=h
 have:s.get! i=s.data.toList.getD i 0:=by
  simp only[ByteArray.get!,List.getD,Array.getElem?_toList]
  rw[getElem!_pos s.data i h',Array.getElem?_eq_getElem h'];rfl
 rw[this]
def uv(b:Nat):Bool:=decide (97≤b)&&decide (b≤122)
def other(b:Nat):Bool:=b==95||(decide (48≤b)&&decide (b≤57))
def M8(b:Nat):Bool:=uv b||other b
theorem UA(n:Nat):yD (Int.ofNat n)=some (!M8 n):=by
 unfold yD iB
 simp only[aC,decide_eq_true_eq,Int.ofNat_eq_natCast]
 repeat' split
 all_goals (rw[eh,Bool.eq_iff_iff];simp[M8,uv,other];omega)
theorem Hp(s:ByteArray)(i:Nat)(h:i<s.size)(hb:m9 s i<128):Utf8.decode s i=(m9 s i,1):=by
 have e:=IK s i h
 unfold Utf8.decode
 simp[e,hb]
theorem HG(s:ByteArray)(i:Nat)(h:i<s.size)(hb:¬m9 s i<128):128≤(Utf8.decode s i).1:=by
 have e:=IK s i h
 unfold Utf8.decode
 simp only[Nat.add_zero,e,if_neg hb,Utf8.runeError]
 repeat' split
 all_goals simp_all
 all_goals omega
def WF(s:ByteArray)(i:Nat):Bool:= !M8 (m9 s i)
theorem MN(s:ByteArray):∀k i,i≤s.size→s.size-i<k→∃r,cC s true k i=some r∧(decide (0≤r)=(first (WF s) i s.size).isSome):=by
 intro k
 induction k with
 |zero=>intro i _ h;omega
 |succ k ih=>
  intro i hi hk
  rw[cC]
  by_cases h:i=s.size
  ·subst h
   rw[uh]
   simp only[Nat.lt_irrefl,decide_false,ah]
   exact⟨-1,rfl,rfl⟩
  ·have hlt:i<s.size:=by omega
   simp only[hlt,decide_true,ap,UA,az]
   rw[ua hlt]
   by_cases hb:m9 s i<128
   ·rw[Hp s i hlt hb]
    simp only[WF]
    by_cases hg:M8 (m9 s i)=true
    ·simp only[hg,Bool.not_true,aC]
     obtain⟨r,h1,h2⟩:=ih (i+1) (by omega) (by omega)
     exact⟨r,by simpa using h1,by simpa [WF]using h2⟩
    ·simp only[hg,Bool.not_false,aC]
     exact⟨_,rfl,by simp⟩
   ·have h1:=HG s i hlt hb
    have g1:M8 (Utf8.decode s i).1=false:=by
     generalize (Utf8.decode s i).1=x at h1
     simp[M8,uv,other];omega
    have g2:WF s i=true:=by
     simp[WF,M8,uv,other];omega
    simp only[g1,g2,Bool.not_false,aC]
    exact⟨_,rfl,by simp⟩
def wj(s:ByteArray):Bool:=decide (1≤s.size)&&decide (s.size≤24)&&uv (m9 s 0)&&(first (WF s) 0 s.size).isNone
theorem yN(s:ByteArray):(s.toList==(ByteArray.mk #[]).toList)=decide (s.size=0):=by
 rw[ByteArray.toList_eq,ByteArray.toList_eq,Bool.eq_iff_iff]
 show(s.data.toList==[])=true↔decide (s.data.size=0)=true
 rw[←Array.length_toList]
 cases s.data.toList<;>simp
theorem V0(s:ByteArray)(hs:s.size<1000000000):wG s=some (wj s):=by
 obtain⟨r,h1,h2⟩:=MN s aH 0 (Nat.zero_le _) (by rw[aJ];omega)
 unfold wG pY hI je jd
 rw[h1,yN]
 simp only[az,h2,aC]
 by_cases z0:s.size=0
 ·simp[z0,wj]
 ·by_cases z1:24<s.size
  ·have:¬s.size≤24:=by omega
   simp[z0,z1,wj,this,show(24:Int)<(s.size:Int) by omega]
  ·have hz:¬(24:Int)<(s.size:Int):=by omega
   have hb:((s.data.toList.getD (0:Int).toNat 0).toNat:Int)=(m9 s 0:Int):=rfl
   simp only[z0,decide_false,hz,Bool.false_eq_true,if_false,hb]
   rw[bf (by omega),bf (by omega)]
   simp only[decide_eq_true_eq]
   have:s.size≤24:=by omega
   by_cases q1:m9 s 0<97
   ·have:¬97≤m9 s 0:=by omega
    simp[show(m9 s 0:Int)<97 by omega,wj,uv,this]
   ·by_cases q2:122<m9 s 0
    ·have:¬m9 s 0≤122:=by omega
     simp[show¬(m9 s 0:Int)<97 by omega,show(122:Int)<(m9 s 0:Int) by omega,wj,uv,this]
    ·simp[show¬(m9 s 0:Int)<97 by omega,show¬(122:Int)<(m9 s 0:Int) by omega,wj,uv,show 1≤s.size by omega,this,show 97≤m9 s 0 by omega,show m9 s 0≤122 by omega]
def KV(s:ByteArray)(i:Nat):Bool:= !uv (m9 s i)&&(i==0|| !other (m9 s i))
theorem PM(s:ByteArray)(hs:s.size<1000000000)(k i:Nat)(hi:i<s.size):fx s (k+1) (i:Int)=if KV s i=true then some false else fx s k ((i+1:Nat):Int):=by
 rw[fx,←aC]
 have hb:((s.data.toList.getD (i:Int).toNat 0).toNat:Int)=(m9 s i:Int):=rfl
 have hw:i64.wrap ((i:Int)+1)=((i+1:Nat):Int):=by rw[jQ (by omega) (by omega)];omega
 have hg:0≤(i:Int)∧(i:Int)<(s.size:Int):=by omega
 rw[show decide ((i:Int)<(s.size:Int))=true by simp[hg.2],ap]
 simp only[yn,vw,vm,hb,hw,az,bf hg]
 have e1:((m9 s i:Int)==95)=(m9 s i==95):=by rw[Bool.eq_iff_iff];simp;omega
 have e2:(decide ((97:Int)≤m9 s i))=decide (97≤m9 s i):=by rw[Bool.eq_iff_iff];simp;omega
 have e3:(decide ((m9 s i:Int)≤122))=decide (m9 s i≤122):=by rw[Bool.eq_iff_iff];simp;omega
 have e4:(decide ((48:Int)≤m9 s i))=decide (48≤m9 s i):=by rw[Bool.eq_iff_iff];simp;omega
 have e5:(decide ((m9 s i:Int)≤57))=decide (m9 s i≤57):=by rw[Bool.eq_iff_iff];simp;omega
 have e6:((i:Int)==0)=(i==0):=by rw[Bool.eq_iff_iff];simp
 simp only[e1,e2,e3,e4,e5,e6,KV,uv,other]
 generalize hq:fx s k ((i+1:Nat):Int)=q
 generalize (m9 s i==95)=b1
 generalize decide (97≤m9 s i)=b2
 generalize decide (m9 s i≤122)=b3
 generalize decide (48≤m9 s i)=b4
 generalize decide (m9 s i≤57)=b5
 generalize (i==0)=b6
 cases b1<;>cases b2<;>cases b3<;>cases b4<;>cases b5<;>cases b6<;>rfl
theorem Vx(s:ByteArray)(hs:s.size<1000000000):yI s=some (wj s):=by
 have hl:=tW (f:=fun k i=>fx s k (i:Int)) (n:=s.size) (P:=KV s) (A:=fun _=>some false) (B:=some true) (fun k i hi=>PM s hs k i hi)
  (fun k=>by rw[fx];simp only[Int.lt_irrefl,decide_false,ah];rfl) aH 0 (Nat.zero_le _) (by rw[aJ];omega)
 have hl:fx s aH (0:Int)=_:=hl
 unfold yI yx
 rw[hl]
 simp only[aC]
 by_cases z0:s.size=0
 ·simp[z0,wj]
 ·by_cases z1:24<s.size
  ·have:¬s.size≤24:=by omega
   simp[z0,z1,wj,this,show(24:Int)<(s.size:Int) by omega]
  ·have hz:¬(24:Int)<(s.size:Int):=by omega
   have hz2:¬(s.size:Int)<1:=by omega
   simp only[hz,hz2,decide_false,Bool.false_eq_true,if_false]
   have e:(first (KV s) 0 s.size).isNone=(uv (m9 s 0)&&(first (WF s) 0 s.size).isNone):=by
    rw[Bool.eq_iff_iff,iY,Option.isNone_iff_eq_none,Option.isNone_iff_eq_none,zO,zO]
    constructor
    ·intro h
     have h0:=h 0 (iD _) (by omega)
     simp only[KV,beq_self_eq_true,Bool.true_or,Bool.and_true]at h0
     have h0':uv (m9 s 0)=true:=by simpa using h0
     refine⟨h0',fun j _ hj=> ?_⟩
     have h1:=h j (Nat.zero_le _) hj
     simp only[KV,WF,M8]at h1⊢
     cases hs:uv (m9 s j)<;>cases ho:other (m9 s j)<;>simp_all
    ·rintro⟨h0,h⟩ j _ hj
     have h1:=h j (Nat.zero_le _) hj
     simp only[KV,WF,M8]at h1⊢
     by_cases hj0:j=0
     ·subst hj0;simp[h0]
     ·cases hs:uv (m9 s j)<;>cases ho:other (m9 s j)<;>simp_all
   have:(first (KV s) 0 s.size).elim (some true) (fun _=>some false)=some ((first (KV s) 0 s.size).isNone):=by cases first (KV s) 0 s.size<;>rfl
   rw[this,e]
   simp[wj,show 1≤s.size by omega,show s.size≤24 by omega]
mutual
def jX:am→Nat
 |⟨_,_,fs⟩=>eH fs+1
def eH:List (mI am)→Nat
 |[]=>0
 |f::l=>zi f+eH l
def zi:mI am→Nat
 |⟨_,n,_,t⟩=>n.size+jX t+1
end
theorem lg:∀{l:List ae} {x:ae},x∈l→zi x≤eH l
 |[],_,h=>by cases h
 |y::l,x,h=>by
  simp only[eH]
  rcases List.mem_cons.1 h with rfl|h
  ·omega
  ·have:=lg h;omega
theorem kr:∀x:ae,zi x=x.name.size+jX x.type+1
 |⟨_,_,_,_⟩=>by simp only[zi]
theorem s7:∀x:am,jX x=eH x.fields+1
 |⟨_,_,_⟩=>by simp only[jX]
theorem dE:∀l:List ae,l.length≤eH l
 |[]=>by simp[eH]
 |x::l=>by
  have:=dE l
  have:=kr x
  simp only[eH,List.length_cons];omega
theorem au{i n:Nat}(h:i<n)(hn:n<1000000000):i64.wrap ((i:Int)+1)=((i+1:Nat):Int):=by rw[jQ (by omega) (by omega)];omega
theorem aD{α:Type}{xs:List α}{i:Nat}(h:i<xs.length):at? xs (i:Int)=some xs[i]:=by unfold at?;simp[h]
theorem aV{i n:Nat}(h:i<n):decide ((i:Int)<(n:Int))=true:=by simp[h]
def fnm(fs:List ae)(i:Nat):ByteArray:=(fs[i]?.map (·.name)).getD ByteArray.empty
theorem DI{fs:List ae}{i:Nat}(h:i<fs.length):fnm fs i=fs[i].name:=by simp[fnm,h]
def EZ(fs:List ae)(i:Nat):Bool:= !wj (fnm fs i)
def eqN(fs:List ae)(i j:Nat):Bool:=(fnm fs j).toList==(fnm fs i).toList
def MP(fs:List ae)(i:Nat):Bool:=(first (eqN fs i) 0 i).isSome
def QP(fs:List ae):Bool:=(first (EZ fs) 0 fs.length).isSome
def No(fs:List ae):Bool:=(first (MP fs) 0 fs.length).isSome
structure G3(fs:List ae):Prop where
 len:fs.length<1000000000
 nam:∀f∈fs,f.name.size<1000000000
theorem WT{fs:List ae}(h:eH fs<1000000000):G3 fs:=
 ⟨by have:=dE fs;omega,fun f hf=>by have:=lg hf;have:=kr f;omega⟩
theorem YK:∀f:ae,mI.mk f.id f.name f.need (am.mk f.type.kind f.type.scale f.type.fields)=f
 |⟨_,_,_,⟨_,_,_⟩⟩=>rfl
theorem SD{fs:List ae}(ho:G3 fs):ca fs=some (QP fs):=by
 have hl:=tW (f:=fun k i=>aP fs k (i:Int)) (n:=fs.length) (P:=EZ fs) (A:=fun i=>some (i:Int)) (B:=some (-1)) (fun k i hi=>by
   show aP fs (k+1) (i:Int)=_
   rw[aP,aV hi,ap,aD hi,az,zm,V0 _ (ho.nam _ (gV hi)),au hi ho.len]
   simp only[az,aC,EZ,DI hi])
  (fun k=>by rw[aP];simp only[Int.lt_irrefl,decide_false,ah];rfl) aH 0 (Nat.zero_le _) (by rw[aJ];have:=ho.len;omega)
 have hl:aP fs aH (0:Int)=_:=hl
 unfold ca du
 rw[hl]
 unfold QP
 cases first (EZ fs) 0 fs.length with
 |none=>rfl
 |some j=>simp[az]
theorem SM{fs:List ae}(ho:G3 fs){i:Nat}(hi:i<fs.length):bY ((fs.drop (0:Int).toNat).take ((i:Int).toNat-(0:Int).toNat)) fs[i]=some (MP fs i,fs[i]):=by
 have ep:(fs.drop (0:Int).toNat).take ((i:Int).toNat-(0:Int).toNat)=fs.take i:=by simp
 rw[ep]
 have hlen:(fs.take i).length=i:=by simp;omega
 have hl:=tW (f:=fun k j=>aG (fs.take i) k fs[i].id fs[i].name fs[i].need fs[i].type.kind fs[i].type.scale fs[i].type.fields (j:Int)) (n:=i) (P:=eqN fs i) (A:=fun j=>some ((j:Int),fs[i])) (B:=some (-1,fs[i])) (fun k j hj=>by
   have hj':j<(fs.take i).length:=by rw[hlen];exact hj
   have hjf:j<fs.length:=by omega
   show aG (fs.take i) (k+1) _ _ _ _ _ _ (j:Int)=_
   rw[aG,aV hj',ap,aD hj',az,zW,au hj (by have:=ho.len;omega)]
   simp only[az,aC,eqN,DI hi,DI hjf,List.getElem_take,YK])
  (fun k=>by
   show aG (fs.take i) (k+1) _ _ _ _ _ _ (i:Int)=_
   rw[aG];simp only[hlen,Int.lt_irrefl,decide_false,ah,cX,YK]) aH 0 (Nat.zero_le _) (by rw[aJ];have:=ho.len;omega)
 have hl:aG (fs.take i) aH _ _ _ _ _ _ (0:Int)=_:=hl
 unfold bY dr
 rw[hl]
 unfold MP
 cases first (eqN fs i) 0 i with
 |none=>rfl
 |some j=>simp[az]
theorem NJ{t:am}(ho:G3 t.fields):gB t aH (0:Int)=some (if No t.fields=true then 5 else 0):=by
 have hl:=tW (f:=fun k i=>gB t k (i:Int)) (n:=t.fields.length) (P:=MP t.fields) (A:=fun _=>some 5) (B:=some 0) (fun k i hi=>by
   show gB t (k+1) (i:Int)=_
   rw[gB,aV hi,ap,aD hi,az,bf (by omega),SM ho hi,au hi ho.len]
   simp only[az,aC])
  (fun k=>by rw[gB];simp only[Int.lt_irrefl,decide_false,ah];rfl) aH 0 (Nat.zero_le _) (by rw[aJ];have:=ho.len;omega)
 have hl:gB t aH (0:Int)=_:=hl
 rw[hl]
 unfold No
 cases first (MP t.fields) 0 t.fields.length<;>rfl
theorem T5{t:am}(ho:G3 t.fields)(rec2:Int→Option Int){i:Nat}(hi:i<t.fields.length):ir rec2 t (i:Int) aH (0:Int)=if MP t.fields i=true then some 5 else rec2 ((i+1:Nat):Int):=by
 have hl:=tW (f:=fun k j=>ir rec2 t (i:Int) k (j:Int)) (n:=i) (P:=eqN t.fields i) (A:=fun j=>some 5) (B:=rec2 ((i+1:Nat):Int)) (fun k j hj=>by
   have hjf:j<t.fields.length:=by omega
   show ir rec2 t (i:Int) (k+1) (j:Int)=_
   rw[ir,aV hj,ap,aD hjf,aD hi,au hj (by have:=ho.len;omega)]
   simp only[az,aC,eqN,DI hi,DI hjf])
  (fun k=>by
   show ir rec2 t (i:Int) (k+1) (i:Int)=_
   rw[ir];simp only[Int.lt_irrefl,decide_false,ah,AW];rw[au hi ho.len]) aH 0 (Nat.zero_le _) (by rw[aJ];have:=ho.len;omega)
 have hl:ir rec2 t (i:Int) aH (0:Int)=_:=hl
 rw[hl]
 unfold MP
 cases first (eqN t.fields i) 0 i<;>simp
theorem UW{t:am}(ho:G3 t.fields):gE t aH (0:Int)=some (if No t.fields=true then 5 else 0):=by
 have hl:=tW (f:=fun k i=>gE t k (i:Int)) (n:=t.fields.length) (P:=MP t.fields) (A:=fun _=>some 5) (B:=some 0) (fun k i hi=>by
   show gE t (k+1) (i:Int)=_
   rw[gE,aV hi,ap,T5 ho _ hi])
  (fun k=>by rw[gE];simp only[Int.lt_irrefl,decide_false,ah];rfl) aH 0 (Nat.zero_le _) (by rw[aJ];have:=ho.len;omega)
 have hl:gE t aH (0:Int)=_:=hl
 rw[hl]
 unfold No
 cases first (MP t.fields) 0 t.fields.length<;>rfl
theorem T0{t:am}(ho:G3 t.fields):jl t aH (0:Int)=some (if QP t.fields=true then 4 else if No t.fields=true then 5 else 0):=by
 have hl:=tW (f:=fun k i=>jl t k (i:Int)) (n:=t.fields.length) (P:=EZ t.fields) (A:=fun _=>some 4) (B:=some (if No t.fields=true then 5 else 0)) (fun k i hi=>by
   show jl t (k+1) (i:Int)=_
   rw[jl,aV hi,ap,aD hi,az,Vx _ (ho.nam _ (gV hi)),au hi ho.len]
   simp only[az,aC,EZ,DI hi])
  (fun k=>by rw[jl];simp only[Int.lt_irrefl,decide_false,ah,AY];exact UW ho) aH 0 (Nat.zero_le _) (by rw[aJ];have:=ho.len;omega)
 have hl:jl t aH (0:Int)=_:=hl
 rw[hl]
 unfold QP
 cases first (EZ t.fields) 0 t.fields.length<;>rfl
def vf(t:am):Int:=
 if t.kind=6 then(if t.fields.length≠1∨(fnm t.fields 0).size≠0 then 1 else 0)
 else if t.kind≠7 then(if 0<t.fields.length then 1 else 0)
 else if t.fields.length=0 then 1 else if QP t.fields=true then 4 else if No t.fields=true then 5 else 0
def H3(t:am):Prop:=t.scale≠0∧(t.kind≠3∨t.scale<0∨12<t.scale)
instance(t:am):Decidable (H3 t):=by unfold H3;infer_instance
def shp(t:am):Int:=if t.kind<1∨7<t.kind then 3 else if H3 t then 1 else vf t
theorem Xl{t:am}(ho:G3 t.fields):yG t=some (vf t):=by
 unfold yG tJ vf
 rw[SD ho,NJ ho]
 simp only[az,aC]
 by_cases h6:t.kind=6
 ·simp only[h6,beq_self_eq_true,if_true]
  by_cases hl:t.fields.length=1
  ·have:(0:Nat)<t.fields.length:=by omega
   rw[show at? t.fields (0:Int)=some t.fields[0]from aD (i:=0) this]
   simp only[hl,az,yN,DI this]
   by_cases hz:t.fields[0].name.size=0<;>simp[hz]
  ·simp[hl,show((t.fields.length:Int)=1)=False from eq_false (by omega)]
 ·by_cases h7:t.kind=7
  ·simp[h7]
   by_cases hl:t.fields=[]
   ·simp[hl]
   ·simp[hl]
    by_cases hb:QP t.fields=true
    ·simp[hb]
    ·simp[hb]
  ·simp[h6,h7]
   by_cases hl:0<t.fields.length
   ·simp[hl]
   ·simp[hl]
theorem aaK{t:am}(ho:G3 t.fields):B7 t=some (shp t):=by
 have hj3:∀x,l9 t x=if x=true then some 1 else if t.kind≠7 then some 0 else some (if QP t.fields=true then 4 else if No t.fields=true then 5 else 0):=by
  intro x
  unfold l9
  rw[T0 ho]
  cases x<;>simp[aC]
 have hleaf:io t.kind=some (decide (t.kind≠6∧t.kind≠7)):=by
  unfold io vA
  by_cases h6:t.kind=6<;>by_cases h7:t.kind=7<;>simp[h6,h7,aC]
 have hj1:∀x,ma t x=if x=true then some 1 else some (vf t):=by
  intro x
  cases x with
  |true=>rfl
  |false=>
   unfold ma sX vf
   rw[hleaf]
   simp only[aC,az,hj3]
   by_cases h6:t.kind=6
   ·simp only[h6,beq_self_eq_true,if_true]
    by_cases hl:t.fields.length=1
    ·have:(0:Nat)<t.fields.length:=by omega
     rw[show at? t.fields (0:Int)=some t.fields[0]from aD (i:=0) this]
     simp only[hl,az,yN,DI this]
     by_cases hz:t.fields[0].name.size=0<;>simp[hz]
    ·simp[hl,show((t.fields.length:Int)=1)=False from eq_false (by omega)]
   ·by_cases h7:t.kind=7
    ·simp[h7]
     by_cases hl:t.fields=[]
     ·simp[hl]
     ·simp[hl]
    ·simp[h6,h7]
     by_cases hl:0<t.fields.length
     ·simp[hl]
     ·simp[hl]
 unfold B7 shp fM qY
 simp only[aC,hj1,az]
 by_cases a1:t.kind<1
 ·simp[a1,show¬(1:Int)≤t.kind by omega,az]
 ·by_cases a2:7<t.kind
  ·simp[a2,show(1:Int)≤t.kind by omega,show¬t.kind≤7 by omega,az]
  ·simp only[a1,a2,show(1:Int)≤t.kind by omega,show t.kind≤7 by omega,decide_true,or_self,if_false,if_true,Bool.not_true,az]
   unfold H3
   by_cases h3:t.kind=3
   ·by_cases b1:t.scale<0
    ·simp[h3,b1,show¬(0:Int)≤t.scale by omega,show t.scale≠0 by omega,az]
    ·by_cases b2:12<t.scale
     ·simp[h3,b1,b2,show(0:Int)≤t.scale by omega,show¬t.scale≤12 by omega,show t.scale≠0 by omega,az]
     ·simp[h3,b1,b2,show(0:Int)≤t.scale by omega,show t.scale≤12 by omega,az]
   ·by_cases b0:t.scale=0<;>simp[h3,b0]
inductive V:am→Prop where
 |mk (t:am) (h1:shp t=0) (h2:∀f,f∈t.fields→V f.type):V t
theorem acb(t:am):zy t=some (decide (t.kind≠6∧t.kind≠7)):=by
 unfold zy wK
 by_cases h6:t.kind=6<;>by_cases h7:t.kind=7<;>simp[h6,h7,aC]
theorem HU(k:Int):io k=some (decide (k≠6∧k≠7)):=by
 unfold io vA
 by_cases h6:k=6<;>by_cases h7:k=7<;>simp[h6,h7,aC]
theorem Xy{t:am}(ho:G3 t.fields)(q:am→Int→d9→Option (Int×d9))(l z:Int):
  gR q t l z=if shp t≠0 then some (shp t,⟨z⟩)else ew q t l aH z 0:=by
 have hj4:∀x,fy q t l z x=if x=true then some (1,⟨z⟩)else if vf t≠0 then some (vf t,⟨z⟩)else ew q t l aH z 0:=by
  intro x
  unfold fy
  rw[Xl ho]
  cases x<;>simp[aC,az]
 unfold gR lU shp
 simp only[aC,hj4]
 by_cases a1:t.kind<1
 ·simp[a1]
 ·by_cases a2:7<t.kind
  ·simp[a1,a2]
  ·simp only[a1,a2,decide_false,or_self,if_false,Bool.false_eq_true]
   unfold H3
   by_cases b0:t.scale=0
   ·simp[b0]
   ·by_cases h3:t.kind=3
    ·by_cases b1:t.scale<0
     ·simp[b0,h3,b1]
     ·by_cases b2:12<t.scale
      ·simp[b0,h3,b1,b2]
      ·simp[b0,h3,b1,b2]
    ·simp[b0,h3]
theorem WJ{t:am}(ho:G3 t.fields)(q:am→Int→Int→Option (Int×Int))(l z:Int):
  lf q t l z=if shp t≠0 then some (shp t,z)else jE q t l aH z 0:=by
 unfold lf
 rw[aaK ho]
 simp[aC,az]
theorem adG{t:am}(h:shp t=0)(hf:∀f∈t.fields,V f.type):V t:= .mk t h hf
theorem PA{t:am}(ho:G3 t.fields)(l:Int)(hl0: -10≤l)(hl1:l≤10)(q1:am→Int→d9→Option (Int×d9))(q2:am→Int→Int→Option (Int×Int))
  (hq:∀f∈t.fields,∀n:Int,0≤n→n≤40→∃e m,q1 f.type (l+1) ⟨n⟩=some (e,⟨m⟩)∧q2 f.type (l+1) n=some (e,m)∧0≤m∧m≤40∧(e=0→V f.type)):
  ∀(kk i:Nat) (n:Int),i≤t.fields.length→t.fields.length-i<kk→0≤n→n≤40→
   ∃e m,ew q1 t l kk n (i:Int)=some (e,⟨m⟩)∧jE q2 t l kk n (i:Int)=some (e,m)∧0≤m∧m≤40∧(e=0→∀j,i≤j→∀h:j<t.fields.length,V t.fields[j].type):=by
 intro kk
 induction kk with
 |zero=>intro i n _ h;omega
 |succ kk ih=>
  intro i n hi hk n0 n1
  rw[ew,jE]
  by_cases h:i=t.fields.length
  ·subst h
   simp only[Int.lt_irrefl,decide_false,ah]
   exact⟨0,n,rfl,rfl,n0,n1,fun _ j h1 h2=>by omega⟩
  ·have hlt:i<t.fields.length:=by omega
   rw[aV hlt,ap,ap,aD hlt,az,az,jQ (x:=l+1) (by omega) (by omega),au hlt ho.len]
   obtain⟨e,m,h1,h2,h3,h4,h5⟩:=hq _ (gV hlt) n n0 n1
   rw[h1,h2]
   simp only[az,aC]
   by_cases he:e=0
   ·obtain⟨e',m',g1,g2,g3,g4,g5⟩:=ih (i+1) m (by omega) (by omega) h3 h4
    refine⟨e',m',by simpa [he]using g1,by simpa [he]using g2,g3,g4,fun h0 j hj hjl=> ?_⟩
    by_cases hji:j=i
    ·subst hji;exact h5 he
    ·exact g5 h0 j (by omega) hjl
   ·exact⟨e,m,by simp[he],by simp[he],h3,h4,fun h0=>absurd h0 he⟩
theorem Ve:∀(d k:Nat) (t:am) (l n:Int),l=5-d→d≤5→d<k→jX t<1000000000→0≤n→n≤40→
  ∃e m,bF k t l ⟨n⟩=some (e,⟨m⟩)∧eV k t l n=some (e,m)∧0≤m∧m≤40∧(e=0→V t):=by
 intro d
 induction d with
 |zero=>
  intro k t l n hl _ hk hs n0 n1
  obtain⟨k,rfl⟩:∃k',k=k'+1:=⟨k-1,by omega⟩
  have hl4:(4:Int)<l:=by omega
  rw[bF,eV]
  simp only[hl4,decide_true,ap,gQ]
  exact⟨7,n,rfl,rfl,n0,n1,fun h=>by omega⟩
 |succ d ih=>
  intro k t l n hl hd hk hs n0 n1
  obtain⟨k,rfl⟩:∃k',k=k'+1:=⟨k-1,by omega⟩
  have hl4:¬(4:Int)<l:=by omega
  have hsz:=s7 t
  have ho:G3 t.fields:=WT (by omega)
  have hq:∀f∈t.fields,∀n:Int,0≤n→n≤40→∃e m,bF k f.type (l+1) ⟨n⟩=some (e,⟨m⟩)∧eV k f.type (l+1) n=some (e,m)∧0≤m∧m≤40∧(e=0→V f.type):=by
   intro f hf n n0 n1
   have h1:=lg hf
   have h2:=kr f
   exact ih k f.type (l+1) n (by omega) (by omega) (by omega) (by omega) n0 n1
  have main:∀z:Int,0≤z→z≤40→∃e m,gR (bF k) t l z=some (e,⟨m⟩)∧lf (eV k) t l z=some (e,m)∧0≤m∧m≤40∧(e=0→V t):=by
   intro z z0 z1
   rw[Xy ho,WJ ho]
   by_cases P7:shp t=0
   ·obtain⟨e,m,h1,h2,h3,h4,h5⟩:=PA ho l (by omega) (by omega) _ _ hq aH 0 z (Nat.zero_le _) (by rw[aJ];have:=ho.len;omega) z0 z1
    refine⟨e,m,by simpa [P7]using h1,by simpa [P7]using h2,h3,h4,fun he=>adG P7 (fun f hf=> ?_)⟩
    obtain⟨j,hj,rfl⟩:=List.getElem_of_mem hf
    exact h5 he j (Nat.zero_le _) hj
   ·exact⟨shp t,z,by simp[P7],by simp[P7],z0,z1,fun h=>absurd h P7⟩
  rw[bF,eV]
  simp only[hl4,decide_false,ah,acb,HU,az,gQ]
  by_cases hleaf:t.kind≠6∧t.kind≠7
  ·simp only[hleaf,ne_eq,not_false_eq_true,and_self,decide_true,ap]
   by_cases h40:n=40
   ·simp only[h40,beq_self_eq_true,ap]
    exact⟨7,40,rfl,rfl,by omega,by omega,fun h=>by omega⟩
   ·have:(n==40)=false:=by simpa using h40
    simp only[this,ah]
    rw[jQ (x:=n+1) (by omega) (by omega)]
    exact main (n+1) (by omega) (by omega)
  ·simp only[hleaf,decide_false,ah]
   exact main n n0 n1
theorem pr(t:am)(hs:jX t<1000000000):∃e,cW t=some e∧kR t=some e∧(e=0→V t):=by
 obtain⟨e,m,h1,h2,h3,h4,h5⟩:=Ve 4 aH t 1 0 (by omega) (by omega) (by rw[aJ];omega) hs (by omega) (by omega)
 refine⟨e,?_,?_,h5⟩
 ·unfold cW;rw[h1];rfl
 ·unfold kR;rw[h2];rfl
end Go.Proofs.YtpiohnabdhpphaaGreatDoor
namespace Go.Proofs.YtpiohnabdhpphaaGreatDoor
open Go Go.SX Go.SX.Cal Go.Lib
open Go.IntKind (i64)
mutual
def cm:ac→Nat
 |⟨_,_,_,s,it⟩=>s.size+fj it+1
def fj:List ac→Nat
 |[]=>0
 |x::l=>cm x+fj l
end
theorem xn:∀v:ac,cm v=v.s.size+fj v.items+1
 |⟨_,_,_,_,_⟩=>by simp only[cm]
theorem km:∀{l:List ac} {x:ac},x∈l→cm x≤fj l
 |[],_,h=>by cases h
 |y::l,x,h=>by
  simp only[fj]
  rcases List.mem_cons.1 h with rfl|h
  ·omega
  ·have:=km h;omega
theorem rY:∀v:ac,1≤cm v
 |⟨_,_,_,_,_⟩=>by simp only[cm];omega
theorem gL:∀l:List ac,l.length≤fj l
 |[]=>by simp[fj]
 |x::l=>by
  have:=gL l
  have:=rY x
  simp only[fj,List.length_cons];omega
theorem IP(b x:Bool):aj b (some x) (some false)=some (b&&x):=by cases b<;>rfl
theorem ax{α β:Type}(a:α)(f:α→Option β):al (some a) f=f a:=rfl
theorem Ju{P:Nat→Bool}{n:Nat}:∀(d i:Nat),i+d≤n→(∀j,i≤j→j<i+d→P j=false)→first P i n=first P (i+d) n
 |0,i,_,_=>rfl
 |d+1,i,h,hP=>by
  rw[ua (by omega),hP i (by omega) (by omega)]
  simp only[Bool.false_eq_true,if_false]
  rw[Ju d (i+1) (by omega) (fun j h1 h2=>hP j (by omega) (by omega))]
  congr 1;omega
theorem Np(s:ByteArray)(i:Nat)(h:i<s.size)(hb:¬m9 s i<128):
  1≤(Utf8.decode s i).2∧i+(Utf8.decode s i).2≤s.size∧∀j,i≤j→j<i+(Utf8.decode s i).2→128≤m9 s j:=by
 have e:=IK s i h
 have one:∀j,i≤j→j<i+1→128≤m9 s j:=fun j h1 h2=>by
  have:j=i:=by omega
  subst this;omega
 have ct:∀k,(decide (i+k<s.size)&&(s.get! (i+k)).toNat/64==2)=true→i+k<s.size∧128≤m9 s (i+k):=by
  intro k hk
  simp only[iY,decide_eq_true_eq,beq_iff_eq]at hk
  rw[IK s _ hk.1]at hk
  exact⟨hk.1,by omega⟩
 unfold Utf8.decode
 simp only[Nat.add_zero,e,if_neg hb]
 split
 ·rename_i h1
  simp only[iY]at h1
  obtain⟨l1,b1⟩:=ct 1 (by simpa using h1.2)
  split
  ·refine⟨by simp,by simp only;omega,fun j h2 h3=> ?_⟩
   simp only at h3
   by_cases hj:j=i
   ·subst hj;omega
   ·have:j=i+1:=by omega
    subst this;exact b1
  ·exact⟨by simp,by simp only;omega,one⟩
 ·split
  ·rename_i h1
   simp only[iY]at h1
   obtain⟨l1,b1⟩:=ct 1 (by simpa using h1.1.2)
   obtain⟨l2,b2⟩:=ct 2 (by simpa using h1.2)
   split
   ·refine⟨by simp,by simp only;omega,fun j h2 h3=> ?_⟩
    simp only at h3
    by_cases hj:j=i
    ·subst hj;omega
    ·by_cases hj:j=i+1
     ·subst hj;exact b1
     ·have:j=i+2:=by omega
      subst this;exact b2
   ·exact⟨by simp,by simp only;omega,one⟩
  ·split
   ·rename_i h1
    simp only[iY]at h1
    obtain⟨l1,b1⟩:=ct 1 (by simpa using h1.1.1.2)
    obtain⟨l2,b2⟩:=ct 2 (by simpa using h1.1.2)
    obtain⟨l3,b3⟩:=ct 3 (by simpa using h1.2)
    split
    ·refine⟨by simp,by simp only;omega,fun j h2 h3=> ?_⟩
     simp only at h3
     by_cases hj:j=i
     ·subst hj;omega
     ·by_cases hj:j=i+1
      ·subst hj;exact b1
      ·by_cases hj:j=i+2
       ·subst hj;exact b2
       ·have:j=i+3:=by omega
        subst this;exact b3
    ·exact⟨by simp,by simp only;omega,one⟩
   ·exact⟨by simp,by simp only;omega,one⟩
def Ph(s:ByteArray)(i:Nat):Bool:=decide (m9 s i<32)||m9 s i==127
theorem PE(s:ByteArray):∀k i,i≤s.size→s.size-i<k→mb s k i=some (first (Ph s) i s.size).isNone:=by
 intro k
 induction k with
 |zero=>intro i _ h;omega
 |succ k ih=>
  intro i hi hk
  rw[mb]
  by_cases h:i=s.size
  ·subst h
   rw[uh]
   simp only[Nat.lt_irrefl,decide_false,ah,A7]
   rfl
  ·have hlt:i<s.size:=by omega
   simp only[hlt,decide_true,ap,wM,aC]
   by_cases hb:m9 s i<128
   ·rw[Hp s i hlt hb,ua hlt]
    by_cases h1:m9 s i<32
    ·have:Ph s i=true:=by simp[Ph,h1]
     simp[this,show((m9 s i:Nat):Int)<32 by omega]
    ·have e1:¬((m9 s i:Nat):Int)<32:=by omega
     by_cases h2:m9 s i=127
     ·have:Ph s i=true:=by simp[Ph,h2]
      simp[this,h2]
     ·have:Ph s i=false:=by simp[Ph,h1,h2]
      have e2:¬((m9 s i:Nat):Int)=127:=by omega
      simp only[this,Int.ofNat_eq_natCast,e1,decide_false,Bool.false_eq_true,if_false,beq_iff_eq,e2]
      exact ih (i+1) (by omega) (by omega)
   ·have h1:=HG s i hlt hb
    obtain⟨h2,h3,h4⟩:=Np s i hlt hb
    have e1:¬(((Utf8.decode s i).1:Nat):Int)<32:=by omega
    have e2:¬(((Utf8.decode s i).1:Nat):Int)=127:=by omega
    simp only[Int.ofNat_eq_natCast,e1,decide_false,Bool.false_eq_true,if_false,beq_iff_eq,e2]
    rw[ih _ h3 (by omega),Ju _ i h3 (fun j a b=>by
     have:=h4 j a b
     simp only[Ph,Bool.or_eq_false_iff,decide_eq_false_iff_not,beq_eq_false_iff_ne]
     omega)]
    simp
theorem Py(s:ByteArray)(hs:s.size<1000000000):∀k i,i≤s.size→s.size-i<k→gx s k (i:Int)=some (first (Ph s) i s.size).isNone:=by
 intro k
 induction k with
 |zero=>intro i _ h;omega
 |succ k ih=>
  intro i hi hk
  rw[gx]
  by_cases h:i=s.size
  ·subst h
   rw[uh]
   simp only[Int.lt_irrefl,decide_false,ah,tZ]
   rfl
  ·have hlt:i<s.size:=by omega
   have g:(0:Int)≤(i:Int)∧(i:Int)<(s.size:Int):=⟨by omega,by omega⟩
   have e:((s.data.toList.getD (i:Int).toNat 0).toNat:Int)=(m9 s i:Int):=by simp[m9]
   simp only[aV hlt,ap,gX,if_pos g,ax,pg,aC,e]
   rw[ua hlt,au hlt hs]
   by_cases h1:m9 s i<32
   ·have:Ph s i=true:=by simp[Ph,h1]
    simp[this,show((m9 s i:Nat):Int)<32 by omega]
   ·have e1:¬((m9 s i:Nat):Int)<32:=by omega
    by_cases h2:m9 s i=127
    ·have:Ph s i=true:=by simp[Ph,h2]
     simp[this,h2]
    ·have:Ph s i=false:=by simp[Ph,h1,h2]
     have e2:¬((m9 s i:Nat):Int)=127:=by omega
     simp only[this,e1,decide_false,Bool.false_eq_true,if_false,beq_iff_eq,e2]
     exact ih (i+1) (by omega) (by omega)
def AQ(s:ByteArray):Bool:=decide (s.size≤256)&&(validD s.data.toList&&(first (Ph s) 0 s.size).isNone)
theorem VT(s:ByteArray)(hs:s.size<1000000000):utf8_ValidString s=some (validD s.data.toList):=by
 unfold utf8_ValidString gX
 rw[if_pos (by omega)]
theorem abY(s:ByteArray)(hs:s.size<1000000000):B0 s=some (AQ s):=by
 unfold B0 wQ AQ
 rw[VT s hs,PE s aH 0 (by omega) (by rw[aJ];omega)]
 by_cases h:s.size≤256
 ·have:¬(256:Int)<(s.size:Int):=by omega
  simp only[this,h,decide_false,decide_true,ah,ax]
  cases validD s.data.toList<;>rfl
 ·have:(256:Int)<(s.size:Int):=by omega
  simp only[this,h,decide_false,decide_true,ap]
  rfl
theorem Y5(s:ByteArray)(hs:s.size<1000000000):tD s=some (AQ s):=by
 have:=Py s hs aH 0 (by omega) (by rw[aJ];omega)
 unfold tD o8 AQ
 rw[VT s hs,show(0:Int)=((0:Nat):Int)from rfl,this]
 by_cases h:s.size≤256
 ·have e:¬(256:Int)<(s.size:Int):=by omega
  simp only[e,h,decide_false,decide_true,ax]
  cases validD s.data.toList<;>rfl
 ·have e:(256:Int)<(s.size:Int):=by omega
  simp only[e,h,decide_false,decide_true,ax]
  cases validD s.data.toList<;>rfl
theorem WK(a b c:Int):dR a b c=some (decide (b≤a)&&decide (a≤c)):=by
 unfold dR nf;exact IP _ _
theorem XG(a b c:Int):fM a b c=some (decide (b≤a)&&decide (a≤c)):=by
 unfold fM qY;exact IP _ _
def de(v:ac):Bool:=
 let bare:=v.n==0&&v.scale==0
 let noS:=decide (v.s.size=0)
 let noI:=((v.items.length:Int)==0)
 if v.kind=0 then bare&&(noS&&noI)
 else if v.kind=1 then(decide (0≤v.n)&&decide (v.n≤1))&&(v.scale==0&&(noS&&noI))
 else if v.kind=2 then(decide (-999999999999999999≤v.n)&&decide (v.n≤999999999999999999))&&(v.scale==0&&(noS&&noI))
 else if v.kind=3 then(decide (-999999999999999999≤v.n)&&decide (v.n≤999999999999999999))&&((decide (0≤v.scale)&&decide (v.scale≤12))&&(noS&&noI))
 else if v.kind=4 then bare&&(AQ v.s&&noI)
 else if v.kind=5 then(decide (-62135596800≤v.n)&&decide (v.n≤253402300799))&&(v.scale==0&&(noS&&noI))
 else if v.kind=6 then bare&&(noS&&decide ((v.items.length:Int)≤64))
 else if v.kind=7 then bare&&(noS&&decide ((0:Int)<(v.items.length:Int)))
 else false
theorem Y8(v:ac)(hs:v.s.size<1000000000):Ac v=some (de v):=by
 have j:∀x,ri v x=some (if v.kind=0 then x&&(decide (v.s.size=0)&&((v.items.length:Int)==0))
   else if v.kind=1 then(decide (0≤v.n)&&decide (v.n≤1))&&(v.scale==0&&(decide (v.s.size=0)&&((v.items.length:Int)==0)))
   else if v.kind=2 then(decide (-999999999999999999≤v.n)&&decide (v.n≤999999999999999999))&&(v.scale==0&&(decide (v.s.size=0)&&((v.items.length:Int)==0)))
   else if v.kind=3 then(decide (-999999999999999999≤v.n)&&decide (v.n≤999999999999999999))&&((decide (0≤v.scale)&&decide (v.scale≤12))&&(decide (v.s.size=0)&&((v.items.length:Int)==0)))
   else if v.kind=4 then x&&(AQ v.s&&((v.items.length:Int)==0))
   else if v.kind=5 then(decide (-62135596800≤v.n)&&decide (v.n≤253402300799))&&(v.scale==0&&(decide (v.s.size=0)&&((v.items.length:Int)==0)))
   else if v.kind=6 then x&&(decide (v.s.size=0)&&decide ((v.items.length:Int)≤64))
   else if v.kind=7 then x&&(decide (v.s.size=0)&&decide ((0:Int)<(v.items.length:Int)))
   else false):=by
  intro x
  unfold ri rh ov oz oJ rc oF rj rA
  simp only[WK,abY v.s hs,ax,IP,yN]
  simp only[aC,beq_iff_eq]
  repeat' split
  all_goals (first|rfl|simp_all)
 unfold Ac
 rw[j,j]
 unfold de
 cases v.n==0
 ·simp only[ah,Bool.false_and]
 ·simp only[ap,Bool.true_and]
theorem ZP(v:ac)(hs:v.s.size<1000000000):Cu v=some (de v):=by
 have j:∀x,sI v x=some (if v.kind=0 then x&&(v.n==0&&v.scale==0)
   else if v.kind=1 then x&&((decide (0≤v.n)&&decide (v.n≤1))&&v.scale==0)
   else if v.kind=2 then x&&((decide (-999999999999999999≤v.n)&&decide (v.n≤999999999999999999))&&v.scale==0)
   else if v.kind=3 then x&&((decide (-999999999999999999≤v.n)&&decide (v.n≤999999999999999999))&&(decide (0≤v.scale)&&decide (v.scale≤12)))
   else if v.kind=4 then((v.items.length:Int)==0)&&(v.n==0&&(v.scale==0&&AQ v.s))
   else if v.kind=5 then x&&((decide (-62135596800≤v.n)&&decide (v.n≤253402300799))&&v.scale==0)
   else if v.kind=6 then decide (v.s.size=0)&&(v.n==0&&(v.scale==0&&decide ((v.items.length:Int)≤64)))
   else if v.kind=7 then decide (v.s.size=0)&&(v.n==0&&(v.scale==0&&decide ((0:Int)<(v.items.length:Int))))
   else false):=by
  intro x
  unfold sI s8 sO sH td pT sQ qb pU
  simp only[XG,Y5 v.s hs,ax,IP,yN]
  simp only[aC,beq_iff_eq]
  repeat' split
  all_goals (first|rfl|simp_all)
 unfold Cu
 rw[j,j,yN]
 unfold de
 generalize decide (v.s.size=0)=a
 generalize ((v.items.length:Int)==0)=b
 generalize AQ v.s=t
 generalize (v.n==0)=c
 generalize (v.scale==0)=d
 generalize (decide (0≤v.n)&&decide (v.n≤1))=e1
 generalize (decide (-999999999999999999≤v.n)&&decide (v.n≤999999999999999999))=e2
 generalize (decide (0≤v.scale)&&decide (v.scale≤12))=e3
 generalize (decide (-62135596800≤v.n)&&decide (v.n≤253402300799))=e4
 generalize decide ((v.items.length:Int)≤64)=e5
 generalize decide ((0:Int)<(v.items.length:Int))=e6
 cases a<;>simp only[ah,ap]<;>congr 1<;>repeat' split
 all_goals (first|rfl|(cases b<;>cases c<;>cases d<;>simp<;>done) |(simp[Bool.and_comm,Bool.and_assoc,Bool.and_left_comm]))
def oZ(f:ac→Int→Bool×Int):List ac→Int→Bool×Int
 |[],z=>(true,z)
 |v::l,z=>if(f v z).1=true then oZ f l (f v z).2 else(false,(f v z).2)
def HC(v:ac)(z:Int):Int:=if v.kind=0 then z else z+1
def jO:Nat→ac→Int→Bool×Int
 |0,v,z=>(false,HC v z)
 |d+1,v,z=>if 256<HC v z∨de v=false then(false,HC v z)else oZ (jO d) v.items (HC v z)
def qg(v:ac):Bool:=(jO 4 v 0).1
theorem Ly{f:ac→Int→Bool×Int}:∀{l:List ac} {z:Int},(∀v∈l,∀z,0≤z→z≤256→0≤(f v z).2∧(f v z).2≤257∧((f v z).1=true→(f v z).2≤256))→0≤z→z≤256→
  0≤(oZ f l z).2∧(oZ f l z).2≤257∧((oZ f l z).1=true→(oZ f l z).2≤256)
 |[],z,_,h0,h1=>by simp only[oZ];omega
 |v::l,z,hf,h0,h1=>by
  obtain⟨a,b,c⟩:=hf v (by simp) z h0 h1
  simp only[oZ]
  split
  ·rename_i h
   exact Ly (fun x hx=>hf x (by simp[hx])) a (c h)
  ·exact⟨a,b,fun h=>by cases h⟩
theorem HN:∀(d:Nat) (v:ac) (z:Int),0≤z→z≤256→0≤(jO d v z).2∧(jO d v z).2≤257∧((jO d v z).1=true→(jO d v z).2≤256)
 |0,v,z,h0,h1=>by
  have hc:z≤HC v z∧HC v z≤z+1:=by unfold HC;split<;>omega
  simp only[jO]
  exact⟨by omega,by omega,fun h=>by cases h⟩
 |d+1,v,z,h0,h1=>by
  have hc:z≤HC v z∧HC v z≤z+1:=by unfold HC;split<;>omega
  simp only[jO]
  split
  ·exact⟨by omega,by omega,fun h=>by cases h⟩
  ·rename_i h
   have:¬256<HC v z:=fun e=>h (.inl e)
   exact Ly (fun x _=>HN d x) (by omega) (by omega)
theorem GV(v:ac)(z:Int)(h0:0≤z)(h1:z≤256){β:Type}(f:Int→Option β):aj (v.kind != (0:Int)) (f (i64.wrap (z+1))) (f z)=f (HC v z):=by
 rw[jQ (by omega) (by omega)]
 unfold HC
 by_cases h:v.kind=0
 ·simp[h,aC]
 ·simp[h,aC]
theorem Oe{d:Nat}(l:Int)(q:ac→Int→Int→Option (Bool×Int))(xs:List ac)(hl:xs.length<1000000000)
  (hq:∀v∈xs,∀z,0≤z→z≤256→q v l z=some (!(jO d v z).1,(jO d v z).2)):∀(k i:Nat) (z:Int),i≤xs.length→xs.length-i<k→0≤z→z≤256→
  ∃r:Int,bi q xs l k z (i:Int)=some (r,(oZ (jO d) (xs.drop i) z).2)∧decide (0≤r)= !(oZ (jO d) (xs.drop i) z).1:=by
 intro k
 induction k with
 |zero=>intro i z _ h;omega
 |succ k ih=>
  intro i z hi hk h0 h1
  rw[bi]
  by_cases h:i=xs.length
  ·subst h
   simp only[Int.lt_irrefl,decide_false,ah,List.drop_length,oZ,dc]
   exact⟨-1,rfl,rfl⟩
  ·have hlt:i<xs.length:=by omega
   have hm:xs[i]∈xs:=gV hlt
   simp only[aV hlt,ap,aD hlt,ax,hq _ hm z h0 h1]
   rw[List.drop_eq_getElem_cons hlt]
   simp only[oZ]
   obtain⟨a,b,c⟩:=HN d xs[i] z h0 h1
   cases hs:(jO d xs[i] z).1 with
   |false=>
    simp only[Bool.not_false,ap,Bool.false_eq_true,if_false]
    exact⟨_,rfl,by simp⟩
   |true=>
    simp only[Bool.not_true,ah,if_true]
    rw[au hlt hl]
    exact ih (i+1) _ (by omega) (by omega) a (c hs)
theorem TL:∀(d k:Nat) (v:ac) (z:Int),d≤4→4*d+4≤k→cm v<1000000000→0≤z→z≤256→oT k v (5-d:Int) z=some (jO d v z):=by
 intro d
 induction d with
 |zero=>
  intro k v z _ hk hs h0 h1
  obtain⟨k,rfl⟩:∃q,k=q+1:=⟨k-1,by omega⟩
  rw[oT,GV v z h0 h1]
  unfold qH oG
  simp[jO,ap]
 |succ d ih=>
  intro k v z hd hk hs h0 h1
  obtain⟨k,rfl⟩:∃q,k=q+4:=⟨k-4,by omega⟩
  have hsz:=xn v
  have hlen:=gL v.items
  rw[oT,GV v z h0 h1]
  unfold qH oG
  rw[Y8 v (by omega)]
  have e4:¬(4:Int)<5-((d+1:Nat):Int):=by omega
  have hc:z≤HC v z∧HC v z≤z+1:=by unfold HC;split<;>omega
  simp only[e4,decide_false,ah,jO,ax]
  by_cases h2:(256:Int)<HC v z
  ·simp[h2,ap]
  ·cases hp:de v with
   |false=>simp[h2,ap,ah]
   |true=>
    simp only[h2,decide_false,ah,Bool.not_true,false_or,Bool.true_eq_false,if_false]
    have:=Oe (d:=d) (5-((d+1:Nat):Int)) (lu (k+1)) v.items (by omega) (by
     intro x hx z h0 h1
     have:=km hx
     rw[lu,jQ (by omega) (by omega),show(5-((d+1:Nat):Int)+1)=5-(d:Int) by omega,ih k x z (by omega) (by omega) (by omega) h0 h1]
     rfl) aH 0 (HC v z) (by omega) (by rw[aJ];omega) (by omega) (by omega)
    obtain⟨r,e1,e2⟩:=this
    rw[show((0:Nat):Int)=(0:Int)from rfl]at e1
    rw[aW,bH,e1]
    simp only[ax,e2,List.drop_zero,Bool.not_not]
theorem Bb(v:ac)(hs:cm v<1000000000):kO v=some (qg v):=by
 unfold kO qg
 have:=TL 4 aH v 0 (by omega) (by rw[aJ];omega) hs (by omega) (by omega)
 rw[show(5-((4:Nat):Int))=(1:Int)from rfl]at this
 rw[this];rfl
theorem N6{d:Nat}(l:Int)(hl0:0≤l)(hl1:l≤100)(q:ac→Int→Int→Option (Bool×Int))(v:ac)(hl:v.items.length<1000000000)
  (hq:∀x∈v.items,∀z,0≤z→z≤256→q x (l+1) z=some (jO d x z)):∀(k i:Nat) (z:Int),i≤v.items.length→v.items.length-i<k→0≤z→z≤256→
  pZ q v l k z (i:Int)=some (oZ (jO d) (v.items.drop i) z):=by
 intro k
 induction k with
 |zero=>intro i z _ h;omega
 |succ k ih=>
  intro i z hi hk h0 h1
  rw[pZ]
  by_cases h:i=v.items.length
  ·subst h
   simp only[Int.lt_irrefl,decide_false,ah,List.drop_length,oZ,AK]
  ·have hlt:i<v.items.length:=by omega
   have hm:v.items[i]∈v.items:=gV hlt
   rw[jQ (x:=l+1) (by omega) (by omega)]
   simp only[aV hlt,ap,aD hlt,ax,hq _ hm z h0 h1]
   rw[List.drop_eq_getElem_cons hlt]
   simp only[oZ]
   obtain⟨a,b,c⟩:=HN d v.items[i] z h0 h1
   cases hs:(jO d v.items[i] z).1 with
   |false=>simp only[Bool.not_false,ap,Bool.false_eq_true,if_false]
   |true=>
    simp only[Bool.not_true,ah,if_true]
    rw[au hlt hl]
    exact ih (i+1) _ (by omega) (by omega) a (c hs)
theorem TC:∀(d k:Nat) (v:ac) (z:Int),d≤4→d+1≤k→cm v<1000000000→0≤z→z≤256→ke k v (5-d:Int) z=some (jO d v z):=by
 intro d
 induction d with
 |zero=>
  intro k v z _ hk hs h0 h1
  obtain⟨k,rfl⟩:∃q,k=q+1:=⟨k-1,by omega⟩
  rw[ke,GV v z h0 h1]
  unfold tc pV
  simp[jO,ap]
 |succ d ih=>
  intro k v z hd hk hs h0 h1
  obtain⟨k,rfl⟩:∃q,k=q+1:=⟨k-1,by omega⟩
  have hsz:=xn v
  have hlen:=gL v.items
  rw[ke,GV v z h0 h1]
  unfold tc pV
  rw[ZP v (by omega)]
  have e4:¬(4:Int)<5-((d+1:Nat):Int):=by omega
  have hc:z≤HC v z∧HC v z≤z+1:=by unfold HC;split<;>omega
  simp only[e4,decide_false,ah,jO,ax]
  by_cases h2:(256:Int)<HC v z
  ·simp[h2,ap]
  ·cases hp:de v with
   |false=>simp[h2,ap,ah]
   |true=>
    simp only[h2,decide_false,ah,Bool.not_true,false_or,Bool.true_eq_false,if_false]
    have:=N6 (d:=d) (5-((d+1:Nat):Int)) (by omega) (by omega) (ke k) v (by omega) (by
     intro x hx z h0 h1
     have:=km hx
     rw[show(5-((d+1:Nat):Int)+1)=5-(d:Int) by omega]
     exact ih k x z (by omega) (by omega) (by omega) h0 h1) aH 0 (HC v z) (by omega) (by rw[aJ];omega) (by omega) (by omega)
    rw[show((0:Nat):Int)=(0:Int)from rfl,List.drop_zero]at this
    exact this
theorem MY(v:ac)(hs:cm v<1000000000):tT v=some (qg v):=by
 unfold tT qg
 have:=TC 4 aH v 0 (by omega) (by rw[aJ];omega) hs (by omega) (by omega)
 rw[show(5-((4:Nat):Int))=(1:Int)from rfl]at this
 rw[this];rfl
def Vq(d:Nat)(v:ac):Prop:=∃z,(jO d v z).1=true
theorem JJ{f:ac→Int→Bool×Int}:∀{l:List ac} {z:Int},(oZ f l z).1=true→∀x∈l,∃z',(f x z').1=true
 |[],_,_,x,hx=>by cases hx
 |v::l,z,h,x,hx=>by
  simp only[oZ]at h
  by_cases hv:(f v z).1=true
  ·rw[if_pos hv]at h
   rcases List.mem_cons.1 hx with rfl|hx
   ·exact⟨z,hv⟩
   ·exact JJ h x hx
  ·rw[if_neg hv]at h;cases h
theorem Vq.zero{v:ac}(h:Vq 0 v):False:=by obtain⟨z,h⟩:=h;cases h
theorem Vq.succ{d:Nat}{v:ac}(h:Vq (d+1) v):de v=true∧∀x∈v.items,Vq d x:=by
 obtain⟨z,h⟩:=h
 simp only[jO]at h
 by_cases hc:256<HC v z∨de v=false
 ·rw[if_pos hc]at h;cases h
 ·rw[if_neg hc]at h
  refine⟨?_,fun x hx=>JJ h x hx⟩
  cases hp:de v with
  |true=>rfl
  |false=>exact absurd (.inr hp) hc
theorem Ad{v:ac}(h:de v=true)(hk:v.kind≠3):v.scale=0:=by
 unfold de at h
 simp only at h
 split at h
 ·simp at h;exact h.1.2
 ·split at h
  ·simp at h;exact h.2.1
  ·split at h
   ·simp at h;exact h.2.1
   ·split at h
    ·simp at h;exact h.1.2
    ·split at h
     ·simp at h;exact h.2.1
     ·split at h
      ·simp at h;exact h.1.2
      ·split at h
       ·simp at h;exact h.1.2
       ·cases h
theorem oR{v:ac}(h:de v=true)(h6:v.kind≠6)(h7:v.kind≠7):v.items=[]:=by
 unfold de at h
 simp only at h
 rw[←List.length_eq_zero_iff]
 split at h
 ·simp at h;simp[h.2.2]
 ·split at h
  ·simp at h;simp[h.2.2.2]
  ·split at h
   ·simp at h;simp[h.2.2.2]
   ·split at h
    ·simp at h;simp[h.2.2.2]
    ·split at h
     ·simp at h;simp[h.2.2]
     ·split at h
      ·simp at h;simp[h.2.2.2]
      ·cases h
theorem V.sh{t:am}(h:V t):shp t=0:=by cases h;assumption
theorem V.fs{t:am}(h:V t):∀f,f∈t.fields→V f.type:=by cases h;assumption
theorem V.scale{t:am}(h:V t)(hk:t.kind≠3):t.scale=0:=by
 have:=h.sh
 unfold shp at this
 split at this
 ·cases this
 ·by_cases h2:H3 t
  ·rw[if_pos h2]at this;cases this
  ·by_cases hs:t.scale=0
   ·exact hs
   ·exact absurd ⟨hs,.inl hk⟩ h2
theorem V.list{t:am}(h:V t)(hk:t.kind=6):t.fields.length=1:=by
 have:=h.sh
 unfold shp at this
 split at this
 ·cases this
 ·by_cases h2:H3 t
  ·rw[if_pos h2]at this;cases this
  ·rw[if_neg h2]at this
   unfold vf at this
   rw[if_pos hk]at this
   split at this
   ·cases this
   ·rename_i h3
    by_cases hl:t.fields.length=1
    ·exact hl
    ·exact absurd (.inl hl) h3
def ft(t:am)(i:Nat):am:=(t.fields[if t.kind=6 then 0 else i]?.map (·.type)).getD ⟨0,0,[]⟩
def nd(t:am)(i:Nat):Bool:=(t.fields[if t.kind=6 then 0 else i]?.map (·.need)).getD false
def iv(v:ac)(i:Nat):ac:=v.items[i]?.getD ⟨0,0,0,ByteArray.empty,[]⟩
theorem LB{v:ac}{i:Nat}(h:i<v.items.length):v.items[i]=iv v i:=by simp[iv,h]
def JP:Nat→am→ac→Bool
 |0,_,_=>true
 |d+1,t,v=>
  if v.kind=0 then true
  else if v.kind≠t.kind then false
  else if v.kind=3 then v.scale==t.scale
  else if v.kind=7∧t.fields.length≠v.items.length then false
  else(first (fun i=> !JP d (ft t i) (iv v i)) 0 v.items.length).isNone
def Fit(t:am)(v:ac):Prop:=∀i,i<v.items.length→(if t.kind=6 then 0 else i)<t.fields.length
theorem Zu{d:Nat}{t:am}{v:ac}(hs:Vq (d+1) v)(ht:V t)(h:JP (d+1) t v=true):Fit t v∧∀i,i<v.items.length→JP d (ft t i) (iv v i)=true:=by
 obtain⟨hp,_⟩:=hs.succ
 by_cases h67:v.kind=6∨v.kind=7
 ·simp only[JP]at h
  rw[if_neg (by omega)]at h
  by_cases hk:v.kind=t.kind
  ·rw[if_neg (fun hh=>hh hk),if_neg (by omega)]at h
   by_cases hl:v.kind=7∧t.fields.length≠v.items.length
   ·rw[if_pos hl]at h;cases h
   ·rw[if_neg hl]at h
    have hn:=Option.isNone_iff_eq_none.1 h
    rw[zO]at hn
    refine⟨fun i hi=> ?_,fun i hi=>by simpa using hn i (Nat.zero_le _) hi⟩
    by_cases h6:t.kind=6
    ·rw[if_pos h6,ht.list h6];omega
    ·rw[if_neg h6]
     have:¬t.fields.length≠v.items.length:=fun hh=>hl ⟨by omega,hh⟩
     omega
  ·rw[if_pos hk]at h;cases h
 ·have:v.items=[]:=oR hp (by omega) (by omega)
  refine⟨fun i hi=> ?_,fun i hi=> ?_⟩
  ·rw[this]at hi;simp at hi
  ·rw[this]at hi;simp at hi
theorem Uv{t:am}{i:Nat}(h:(if t.kind=6 then 0 else i)<t.fields.length):∃f:ae,f∈t.fields∧t.fields[if t.kind=6 then 0 else i]? =some f∧f.type=ft t i∧f.need=nd t i:=by
 refine⟨t.fields[if t.kind=6 then 0 else i],gV h,dJ h,?_,?_⟩
 ·unfold ft;rw[dJ h];rfl
 ·unfold nd;rw[dJ h];rfl
theorem B2{α:Type}{xs:List α}{i:Nat}{x:α}(h:xs[i]? =some x):at? xs (i:Int)=some x:=by unfold at?;simp[h]
theorem G5{v:ac}{i:Nat}(h:i<v.items.length):iv v i∈v.items:=by rw[←LB h];exact gV h
theorem YH:∀(d k k':Nat) (t:am) (v:ac),Vq d v→V t→cm v<1000000000→jX t<1000000000→4*d+1≤k→d+1≤k'→
  uD k t v=some (JP d t v)∧jT k' t v=some (JP d t v):=by
 intro d
 induction d with
 |zero=>intro k k' t v hs;exact hs.zero.elim
 |succ d ih=>
  intro k k' t v hs ht hv hT hk hk'
  obtain⟨k,rfl⟩:∃q,k=q+4:=⟨k-4,by omega⟩
  obtain⟨k',rfl⟩:∃q,k'=q+1:=⟨k'-1,by omega⟩
  obtain⟨hp,hi⟩:=hs.succ
  have hsz:=xn v
  have hlen:=gL v.items
  have hsT:=s7 t
  have hlF:=dE t.fields
  rw[uD,jT]
  simp only[JP,Cn]
  by_cases h0:v.kind=0
  ·simp[h0,aC]
  ·by_cases hkk:v.kind=t.kind
   ·have sc:v.kind≠3→v.scale=t.scale:=fun h=>by rw[Ad hp h,ht.scale (by omega)]
    have room:¬(v.kind=7∧t.fields.length≠v.items.length)→Fit t v:=by
     intro hn i hi
     by_cases h6:t.kind=6
     ·rw[if_pos h6,ht.list h6];omega
     ·rw[if_neg h6]
      by_cases h7:v.kind=7
      ·have:¬t.fields.length≠v.items.length:=fun hh=>hn ⟨h7,hh⟩
       omega
      ·rw[oR hp (by omega) h7]at hi;simp at hi
    have sub:Fit t v→∀i,i<v.items.length→∃f:ae,t.fields[if t.kind=6 then 0 else i]? =some f∧f.type=ft t i∧uD k (ft t i) (iv v i)=some (JP d (ft t i) (iv v i))∧jT k' (ft t i) (iv v i)=some (JP d (ft t i) (iv v i)):=by
     intro hf i hi'
     obtain⟨f,f1,f2,f3,_⟩:=Uv (hf i hi')
     have m1:=km (G5 hi')
     have m2:=lg f1
     have m3:=kr f
     rw[f3]at m3
     obtain⟨a,b⟩:=ih k k' (ft t i) (iv v i) (hi _ (G5 hi')) (by rw[←f3];exact ht.fs f f1) (by omega) (by omega) (by omega) (by omega)
     exact⟨f,f2,f3,a,b⟩
    have ref:Fit t v→j8 (jT k') t v aH (0:Int)=some (first (fun i=> !JP d (ft t i) (iv v i)) 0 v.items.length).isNone:=by
     intro hf
     have:=tW (f:=fun k i=>j8 (jT k') t v k (i:Int)) (n:=v.items.length) (P:=fun i=> !JP d (ft t i) (iv v i)) (A:=fun _=>some false) (B:=some true) (fun kk i hi'=>by
      obtain⟨f,f2,f3,_,f5⟩:=sub hf i hi'
      simp only[j8,aV hi',ap,Cs]
      have e:aj (t.kind==(6:Int)) (al (at? t.fields (0:Int)) fun e1=>al (at? v.items (i:Int)) fun e2=>al (jT k' e1.type e2) fun r1=>aj (!r1) (some false) (j8 (jT k') t v kk (i64.wrap ((i:Int)+1))))
        (al (at? t.fields (i:Int)) fun e1=>al (at? v.items (i:Int)) fun e2=>al (jT k' e1.type e2) fun r1=>aj (!r1) (some false) (j8 (jT k') t v kk (i64.wrap ((i:Int)+1))))=
        (al (at? t.fields ((if t.kind=6 then 0 else i:Nat):Int)) fun e1=>al (at? v.items (i:Int)) fun e2=>al (jT k' e1.type e2) fun r1=>aj (!r1) (some false) (j8 (jT k') t v kk (i64.wrap ((i:Int)+1)))):=by
       by_cases h6:t.kind=6<;>simp[h6,aC]
      rw[e,B2 f2,ax,aD hi',ax,f3,LB hi',f5,ax,au hi' (by omega),aC]) (fun kk=>by simp[j8,aC,ET]) aH 0 (Nat.zero_le _) (by rw[aJ];omega)
     rw[show((0:Nat):Int)=(0:Int)from rfl]at this
     rw[this]
     cases first (fun i=> !JP d (ft t i) (iv v i)) 0 v.items.length<;>rfl
    have e0:(v.kind==(0:Int))=false:=by simp[h0]
    have e1:(v.kind != t.kind)=false:=by simp[hkk]
    have e2:¬v.kind≠t.kind:=fun h=>h hkk
    simp only[e0,e1,e2,ah,h0,if_false]
    by_cases h3:v.kind=3
    ·have hni:v.items=[]:=oR hp (by omega) (by omega)
     refine⟨by simp[h3,aC],?_⟩
     have hr:=ref (fun i hi=>by rw[hni]at hi;simp at hi)
     rw[hni]at hr
     simp only[List.length_nil,uh,Option.isNone_none]at hr
     simp only[h3,if_true,we]
     by_cases hsc:v.scale=t.scale
     ·have:t.kind≠7:=by omega
      simp[hsc,aC,hr,this]
     ·simp[hsc,aC]
    ·have hsc:=sc h3
     have e3:(v.kind==(3:Int))=false:=by simp[h3]
     have e4:(v.scale != t.scale)=false:=by simp[hsc]
     simp only[e3,e4,ah,h3,if_false]
     by_cases hl:v.kind=7∧t.fields.length≠v.items.length
     ·have e6:(v.kind==(6:Int))=false:=by simp[hl.1]
      have e7:(v.kind==(7:Int))=true:=by simp[hl.1]
      have t7:(t.kind==(7:Int))=true:=by rw[←hkk];exact e7
      have n1:((t.fields.length:Int) != (v.items.length:Int))=true:=by simp;omega
      have n2:((v.items.length:Int) != (t.fields.length:Int))=true:=by simp;omega
      rw[aY]
      simp[e6,e7,t7,n1,n2,hl,ap,ah,we,ax]
     ·have hf:=room hl
      have hr:=ref hf
      simp only[hl,if_false]
      refine⟨?_,?_⟩
      ·by_cases h6:v.kind=6
       ·have e6:(v.kind==(6:Int))=true:=by simp[h6]
        have t6:t.kind=6:=by omega
        have:=tW (f:=fun kk i=>be (pq (k+1)) v.items t.kind t.scale t.fields kk (i:Int)) (n:=v.items.length) (P:=fun i=> !JP d (ft t i) (iv v i)) (A:=fun i=>some (i:Int)) (B:=some (-1)) (fun kk i hi'=>by
         obtain⟨f,f2,f3,f4,_⟩:=sub hf i hi'
         rw[if_pos t6]at f2
         simp only[be,aV hi',ap,aD hi',ax,pq]
         rw[show(0:Int)=((0:Nat):Int)from rfl,B2 f2,ax,f3,LB hi',f4,ax,ax,au hi' (by omega),aC]) (fun kk=>by simp[be,aC,dD]) aH 0 (Nat.zero_le _) (by rw[aJ];omega)
        rw[show((0:Nat):Int)=(0:Int)from rfl]at this
        rw[e6,ap,bE,bQ,this]
        cases first (fun i=> !JP d (ft t i) (iv v i)) 0 v.items.length<;>simp[ax]
       ·have e6:(v.kind==(6:Int))=false:=by simp[h6]
        by_cases h7:v.kind=7
        ·have e7:(v.kind==(7:Int))=true:=by simp[h7]
         have hlen':t.fields.length=v.items.length:=by
          by_cases hh:t.fields.length=v.items.length
          ·exact hh
          ·exact absurd ⟨h7,hh⟩ hl
         have n1:((t.fields.length:Int) != (v.items.length:Int))=false:=by simp;omega
         have:=tW (f:=fun kk i=>aN (tX (k+2)) t.fields v.items kk (i:Int)) (n:=v.items.length) (P:=fun i=> !JP d (ft t i) (iv v i)) (A:=fun _=>some false) (B:=some true) (fun kk i hi'=>by
          obtain⟨f,f2,f3,_,_⟩:=sub hf i hi'
          obtain⟨f',f1',f2',f3',_⟩:=Uv (hf i hi')
          have m1:=km (G5 hi')
          have m2:=lg f1'
          have m3:=kr f'
          rw[f3']at m3
          have f4:=(ih (k+1) (d+1) (ft t i) (iv v i) (hi _ (G5 hi')) (by rw[←f3'];exact ht.fs f' f1') (by omega) (by omega) (by omega) (by omega)).1
          rw[if_neg (by omega)]at f2
          have hi2:i<t.fields.length:=by omega
          simp only[aN,aV hi2,ap,B2 f2,ax,tX]
          rw[aD hi',ax,f3,LB hi',f4,ax,ax,au hi' (by omega),aC]) (fun kk=>by simp[aN,aC,bV,hlen']) aH 0 (Nat.zero_le _) (by rw[aJ];omega)
         rw[show((0:Nat):Int)=(0:Int)from rfl]at this
         rw[e6,e7,ah,ap,aY,n1,ah,this]
         cases first (fun i=> !JP d (ft t i) (iv v i)) 0 v.items.length<;>rfl
        ·have e7:(v.kind==(7:Int))=false:=by simp[h7]
         rw[e6,e7,ah,ah,oR hp h6 h7]
         simp[uh]
      ·have n2:v.kind=7→((v.items.length:Int) != (t.fields.length:Int))=false:=by
        intro h7
        have:¬t.fields.length≠v.items.length:=fun hh=>hl ⟨h7,hh⟩
        simp;omega
       simp only[we]
       by_cases h7:v.kind=7
       ·have t7:(t.kind==(7:Int))=true:=by simp[←hkk,h7]
        rw[t7,ap,n2 h7,ah];exact hr
       ·have t7:(t.kind==(7:Int))=false:=by simp[←hkk,h7]
        rw[t7,ah,ah];exact hr
   ·have e0:(v.kind==(0:Int))=false:=by simp[h0]
    have e1:(v.kind != t.kind)=true:=by simp[hkk]
    simp[e0,e1,h0,hkk,ap,ah]
def AA:Nat→am→ac→Bool
 |0,_,_=>false
 |d+1,t,v=>(first (fun i=>((iv v i).kind==0&&nd t i)||AA d (ft t i) (iv v i)) 0 v.items.length).isSome
theorem Wz:∀(d k k':Nat) (t:am) (v:ac),Vq d v→V t→JP d t v=true→cm v<1000000000→jX t<1000000000→d+1≤k→d+1≤k'→
  kU k t v=some (AA d t v)∧eQ k' t v=some (AA d t v):=by
 intro d
 induction d with
 |zero=>intro k k' t v hs;exact hs.zero.elim
 |succ d ih=>
  intro k k' t v hs ht ho hv hT hk hk'
  obtain⟨k,rfl⟩:∃q,k=q+1:=⟨k-1,by omega⟩
  obtain⟨k',rfl⟩:∃q,k'=q+1:=⟨k'-1,by omega⟩
  obtain⟨hp,hi⟩:=hs.succ
  obtain⟨hf,hof⟩:=Zu hs ht ho
  have hsz:=xn v
  have hlen:=gL v.items
  have hsT:=s7 t
  have sub:∀i,i<v.items.length→∃f:ae,t.fields[if t.kind=6 then 0 else i]? =some f∧f.type=ft t i∧f.need=nd t i∧kU k (ft t i) (iv v i)=some (AA d (ft t i) (iv v i))∧eQ k' (ft t i) (iv v i)=some (AA d (ft t i) (iv v i)):=by
   intro i hi'
   obtain⟨f,f1,f2,f3,f4⟩:=Uv (hf i hi')
   have m1:=km (G5 hi')
   have m2:=lg f1
   have m3:=kr f
   rw[f3]at m3
   obtain⟨a,b⟩:=ih k k' (ft t i) (iv v i) (hi _ (G5 hi')) (by rw[←f3];exact ht.fs f f1) (hof i hi') (by omega) (by omega) (by omega) (by omega)
   exact⟨f,f2,f3,f4,a,b⟩
  rw[kU,eQ]
  simp only[AA]
  refine⟨?_,?_⟩
  ·have:=tW (f:=fun kk i=>iq (kU k) t v kk (i:Int)) (n:=v.items.length) (P:=fun i=>((iv v i).kind==0&&nd t i)||AA d (ft t i) (iv v i)) (A:=fun _=>some true) (B:=some false) (fun kk i hi'=>by
    obtain⟨f,f2,f3,f4,f5,_⟩:=sub i hi'
    have e:xz t (i:Int)=some f:=by
     unfold xz vq
     by_cases h6:t.kind=6
     ·rw[if_pos h6]at f2
      rw[show(0:Int)=((0:Nat):Int)from rfl,B2 f2]
      simp[h6,aC,ax]
     ·rw[if_neg h6]at f2
      rw[B2 f2]
      simp[h6,aC,ax]
    simp only[iq,aV hi',ap,aD hi',ax,e,rm,f3,f4,LB hi',f5,au hi' (show v.items.length<1000000000 by omega)]
    cases(iv v i).kind==0<;>cases nd t i<;>cases AA d (ft t i) (iv v i)<;>rfl) (fun kk=>by simp[iq,aC,zY]) aH 0 (Nat.zero_le _) (by rw[aJ];omega)
   rw[show((0:Nat):Int)=(0:Int)from rfl]at this
   rw[this]
   cases first (fun i=>((iv v i).kind==0&&nd t i)||AA d (ft t i) (iv v i)) 0 v.items.length<;>rfl
  ·have:=tW (f:=fun kk i=>eS (eQ k') t v kk (i:Int)) (n:=v.items.length) (P:=fun i=>((iv v i).kind==0&&nd t i)||AA d (ft t i) (iv v i)) (A:=fun _=>some true) (B:=some false) (fun kk i hi'=>by
    obtain⟨f,f2,f3,f4,_,f5⟩:=sub i hi'
    have e:∀j:Int,at? t.fields j=some f→pN (eS (eQ k') t v kk) (eQ k') t v (i:Int) j=if(((iv v i).kind==0&&nd t i)||AA d (ft t i) (iv v i))=true then some true else eS (eQ k') t v kk ((i+1:Nat):Int):=by
     intro j hj
     simp only[pN,pE,hj,ax,aD hi',f3,f4,LB hi',f5,au hi' (show v.items.length<1000000000 by omega)]
     cases(iv v i).kind==0<;>cases nd t i<;>cases AA d (ft t i) (iv v i)<;>rfl
    simp only[eS,aV hi',ap]
    by_cases h6:t.kind=6
    ·rw[if_pos h6]at f2
     have e6:(t.kind==(6:Int))=true:=by simp[h6]
     rw[e6,ap]
     exact e 0 (B2 f2)
    ·rw[if_neg h6]at f2
     have e6:(t.kind==(6:Int))=false:=by simp[h6]
     rw[e6,ah]
     exact e i (B2 f2)) (fun kk=>by simp[eS,aC,xO]) aH 0 (Nat.zero_le _) (by rw[aJ];omega)
   rw[show((0:Nat):Int)=(0:Int)from rfl]at this
   rw[this]
   cases first (fun i=>((iv v i).kind==0&&nd t i)||AA d (ft t i) (iv v i)) 0 v.items.length<;>rfl
theorem Of(t:am)(v:ac)(hv:cm v<1000000000)(hT:jX t<1000000000):∃e,gw t v=some e∧mr t v=some e:=by
 obtain⟨e,h1,h2,h3⟩:=pr t hT
 unfold gw mr
 rw[h1,h2,Bb v hv,MY v hv]
 simp only[ax]
 by_cases he:e=0
 ·subst he
  have ht:=h3 rfl
  cases hs:qg v with
  |false=>exact⟨1,rfl,rfl⟩
  |true=>
   have hS:Vq 4 v:=⟨0,hs⟩
   obtain⟨a,b⟩:=YH 4 aH aH t v hS ht hv hT (by rw[aJ];omega) (by rw[aJ];omega)
   rw[a,b]
   cases ho:JP 4 t v with
   |false=>exact⟨2,rfl,rfl⟩
   |true=>
    obtain⟨c,d⟩:=Wz 4 aH aH t v hS ht ho hv hT (by rw[aJ];omega) (by rw[aJ];omega)
    rw[c,d]
    cases AA 4 t v with
    |false=>exact⟨0,rfl,rfl⟩
    |true=>exact⟨9,rfl,rfl⟩
 ·have:(e != (0:Int))=true:=by simp[he]
  rw[this]
  exact⟨e,rfl,rfl⟩
theorem Kd:ByteArray.empty.size=0:=rfl
end Go.Proofs.YtpiohnabdhpphaaGreatDoor
namespace Go.Proofs.YtpiohnabdhpphaaGreatDoor
open Go Go.SX Go.SX.Cal
open Go.IntKind (i64)
theorem Qj{l:List ae}{i:Nat}(h:i<l.length):eH (l.drop i)=zi l[i]+eH (l.drop (i+1)):=by
 rw[List.drop_eq_getElem_cons h];simp only[eH]
theorem sK:aH=1152921504606846975+1:=rfl
mutual
def VY:am→List Int
 |⟨_,_,fs⟩=>fQ fs
def fQ:List (mI am)→List Int
 |[]=>[]
 |f::l=>Fy f++fQ l
def Fy:mI am→List Int
 |⟨i,_,_,t⟩=>i::VY t
end
theorem WA:∀t:am,VY t=fQ t.fields
 |⟨_,_,_⟩=>by simp only[VY]
theorem Dj:∀f:ae,Fy f=f.id::fQ f.type.fields
 |⟨_,_,_,t⟩=>by simp only[Fy,WA]
theorem Ff{l:List ae}{i:Nat}(h:i<l.length):fQ (l.drop i)=Fy l[i]++fQ (l.drop (i+1)):=by
 rw[List.drop_eq_getElem_cons h];simp only[fQ]
mutual
theorem Uu:∀t:am,(VY t).length≤jX t
 |⟨_,_,fs⟩=>by simp only[VY,jX];have:=BK fs;omega
theorem BK:∀l:List (mI am),(fQ l).length≤eH l
 |[]=>by simp[fQ]
 |f::l=>by
  simp only[fQ,eH,List.length_append]
  have:=Tq f
  have:=BK l
  omega
theorem Tq:∀f:mI am,(Fy f).length≤zi f
 |⟨i,n,q,t⟩=>by
  simp only[Fy,zi,List.length_cons]
  have:=Uu t
  omega
end
theorem Vb:∀(N k:Nat) (fs:List ae),eH fs≤N→N<k→eH fs<1000000000→qQ k fs=some (fQ fs):=by
 intro N
 induction N with
 |zero=>
  intro k fs h hk _
  obtain⟨k,rfl⟩:∃x,k=x+1:=⟨k-1,by omega⟩
  have hl:=dE fs
  have:fs=[]:=List.eq_nil_of_length_eq_zero (by omega)
  subst this
  rw[qQ,sK,qK]
  rfl
 |succ N ih=>
  intro k fs hN hk hs
  obtain⟨k,rfl⟩:∃x,k=x+1:=⟨k-1,by omega⟩
  have hl:=dE fs
  rw[qQ]
  have loop:∀(kk i:Nat) (acc:List Int),i≤fs.length→fs.length-i<kk→acc.length+eH (fs.drop i)≤eH fs→qK (qQ k) fs kk acc (i:Int)=some (acc++fQ (fs.drop i)):=by
   intro kk
   induction kk with
   |zero=>intro i acc _ h;omega
   |succ kk ihk=>
    intro i acc hi hk2 hacc
    rw[qK]
    by_cases h:i=fs.length
    ·subst h
     simp only[Int.lt_irrefl,decide_false,ah,Ds,List.drop_length,fQ,List.append_nil]
    ·have h1:i<fs.length:=by omega
     have m1:=lg (gV h1)
     have m2:=kr fs[i]
     have m3:=s7 fs[i].type
     have m4:=Qj h1
     have m5:=BK fs[i].type.fields
     rw[aV h1,ap,aD h1,az,bf (by omega),ih k _ (by omega) (by omega) (by omega),az,bf (by simp;omega),au h1 (by omega)]
     rw[ihk (i+1) _ (by omega) (by omega) (by simp;omega),Ff h1,Dj]
     simp
  have:=loop aH 0 [] (Nat.zero_le _) (by rw[aJ];omega) (by simp)
  simpa using this
def Nh(x:Int)(m:List (Int×Int)):Int×List (Int×Int):=
 if x<1 then(3,m)else
  let y:=i64.wrap ((jB (vW .i64) m x).getD 0+1)
  if 1<(jB (vW .i64) (kT (vW .i64) m x y) x).getD 0 then(5,kT (vW .i64) m x y)else(0,kT (vW .i64) m x y)
def scan:List Int→List (Int×Int)→Int×List (Int×Int)
 |[],m=>(0,m)
 |x::l,m=>if(Nh x m).1≠0 then Nh x m else scan l (Nh x m).2
theorem Oj:∀(a b:List Int) (m:List (Int×Int)),scan (a++b) m=if(scan a m).1≠0 then scan a m else scan b (scan a m).2
 |[],b,m=>by simp[scan]
 |x::a,b,m=>by
  simp only[List.cons_append,scan]
  by_cases h:(Nh x m).1=0
  ·simp only[h,ne_eq,not_true,if_false]
   exact Oj a b _
  ·simp[h]
theorem Qw(f:ae)(m:List (Int×Int)):om f m=some (Nh f.id m):=by
 unfold om Nh
 simp only[az,aC,decide_eq_true_eq]
 split
 ·rfl
 ·split<;>rfl
theorem Q6:∀(N k:Nat) (fs:List ae) (m:List (Int×Int)),eH fs≤N→N<k→eH fs<1000000000→bu k fs m=some (scan (fQ fs) m):=by
 intro N
 induction N with
 |zero=>
  intro k fs m h hk _
  obtain⟨k,rfl⟩:∃x,k=x+1:=⟨k-1,by omega⟩
  have hl:=dE fs
  have:fs=[]:=List.eq_nil_of_length_eq_zero (by omega)
  subst this
  rw[bu,sK,ce]
  rfl
 |succ N ih=>
  intro k fs m hN hk hs
  obtain⟨k,rfl⟩:∃x,k=x+1:=⟨k-1,by omega⟩
  have hl:=dE fs
  rw[bu]
  have loop:∀(kk i:Nat) (m:List (Int×Int)),i≤fs.length→fs.length-i<kk→ce (bu k) fs kk m (i:Int)=some (scan (fQ (fs.drop i)) m):=by
   intro kk
   induction kk with
   |zero=>intro i m _ h;omega
   |succ kk ihk=>
    intro i m hi hk2
    rw[ce]
    by_cases h:i=fs.length
    ·subst h
     simp only[Int.lt_irrefl,decide_false,ah,hH,List.drop_length,fQ,scan]
    ·have h1:i<fs.length:=by omega
     have m1:=lg (gV h1)
     have m2:=kr fs[i]
     have m3:=s7 fs[i].type
     rw[aV h1,ap,aD h1,az,Qw,az,au h1 (by omega),Ff h1,Dj,List.cons_append,scan,ih k _ _ (by omega) (by omega) (by omega)]
     simp only[az,aC]
     by_cases h0:(Nh fs[i].id m).1=0
     ·simp only[h0,bne_self_eq_false,Bool.false_eq_true,if_false,ne_eq,not_true,Oj]
      by_cases h2:(scan (fQ fs[i].type.fields) (Nh fs[i].id m).2).1=0
      ·simp only[h2,bne_self_eq_false,Bool.false_eq_true,if_false,not_true]
       exact ihk (i+1) _ (by omega) (by omega)
      ·simp[h2]
     ·simp[h0]
  have:=loop aH 0 m (Nat.zero_le _) (by rw[aJ];omega)
  simpa using this
abbrev KI:SC Int:=vW .i64
theorem Bi:∀(m:List (Int×Int)) (k v:Int),jB KI (kT KI m k v) k=some v
 |[],k,v=>by simp[kT,jB,vW]
 |(k',v')::l,k,v=>by
  by_cases h:k=k'
  ·simp[kT,jB,vW,h]
  ·have hb:(k==k')=false:=by simpa using h
   have:=Bi l k v
   simp only[kT,jB,vW,hb,Bool.false_eq_true,if_false]at this⊢
   exact this
theorem Dz:∀(m:List (Int×Int)) (k v x:Int),x≠k→jB KI (kT KI m k v) x=jB KI m x
 |[],k,v,x,hx=>by simp[kT,jB,vW,hx]
 |(k',v')::l,k,v,x,hx=>by
  by_cases h:k=k'
  ·subst h
   simp[kT,jB,vW,hx]
  ·have hb:(k==k')=false:=by simpa using h
   have:=Dz l k v x hx
   simp only[kT,jB,vW,hb,Bool.false_eq_true,if_false]at this⊢
   rw[this]
def Inv(m:List (Int×Int))(seen:List Int):Prop:=∀x,(jB KI m x).getD 0=if x∈seen then 1 else 0
theorem UN{m:List (Int×Int)}{seen:List Int}(h:Inv m seen)(x:Int):(Nh x m).1=(if x<1 then 3 else if x∈seen then 5 else 0)∧((Nh x m).1=0→Inv (Nh x m).2 (seen++[x])):=by
 unfold Nh
 have hx:=h x
 by_cases h1:x<1
 ·simp[h1]
 ·simp only[h1,if_false]
  have e:(jB (vW .i64) m x).getD 0=if x∈seen then 1 else 0:=hx
  rw[e]
  by_cases h2:x∈seen
  ·simp only[h2,if_true]
   rw[show i64.wrap (1+1)=2 from jQ (by omega) (by omega)]
   have:=Bi m x 2
   simp only[KI]at this
   simp[this]
  ·simp only[h2,if_false]
   rw[show i64.wrap (0+1)=1 from jQ (by omega) (by omega)]
   have h3:=Bi m x 1
   simp only[KI]at h3
   simp only[h3,Option.getD_some,Int.lt_irrefl,if_false,true_and]
   intro _ y
   by_cases hy:y=x
   ·subst hy
    simp[KI,h3]
   ·have h4:=Dz m x 1 y hy
    simp only[KI]at h4
    have h5:=h y
    simp only[KI]at h5⊢
    rw[h4,h5]
    simp[hy]
theorem Su(ids:List Int)(hl:ids.length<1000000000)(rec1:Int→Option Int){i:Nat}(hi:i<ids.length):dB rec1 ids (i:Int) ids[i] aH (0:Int)=if ids[i]∈ids.take i then some 5 else rec1 ((i+1:Nat):Int):=by
 have hs:=tW (f:=fun k j=>dB rec1 ids (i:Int) ids[i] k (j:Int)) (n:=i) (P:=fun j=>ids[j]? ==some ids[i]) (A:=fun j=>some 5) (B:=rec1 ((i+1:Nat):Int)) (fun k j hj=>by
   have hjf:j<ids.length:=by omega
   show dB rec1 ids (i:Int) ids[i] (k+1) (j:Int)=_
   rw[dB,aV hj,ap,aD hjf,au hj (by omega)]
   simp only[az,aC,dJ hjf,Option.some_beq_some])
  (fun k=>by
   show dB rec1 ids (i:Int) ids[i] (k+1) (i:Int)=_
   rw[dB];simp only[Int.lt_irrefl,decide_false,ah,sy];rw[au hi hl]) aH 0 (Nat.zero_le _) (by rw[aJ];omega)
 have hs:dB rec1 ids (i:Int) ids[i] aH (0:Int)=_:=hs
 rw[hs]
 cases hf:first (fun j=>ids[j]? ==some ids[i]) 0 i with
 |none=>
  rw[zO]at hf
  have:ids[i]∉ids.take i:=by
   intro hm
   obtain⟨j,hj,he⟩:=List.getElem_of_mem hm
   have hj':j<i:=by simp at hj;omega
   have:=hf j (Nat.zero_le _) hj'
   rw[List.getElem_take]at he
   simp[dJ (show j<ids.length by omega),he]at this
  simp[this]
 |some j=>
  have:ids[i]∈ids.take i:=by
   unfold first at hf
   have h1:=List.find?_some hf
   have h2:=List.mem_of_find?_eq_some hf
   rw[List.mem_range'_1]at h2
   have hjl:j<ids.length:=by omega
   simp only[dJ hjl,Option.some_beq_some,beq_iff_eq]at h1
   rw[←h1]
   exact Kb.2 ⟨j,by simp;omega,by simp⟩
  simp[this]
theorem Nl(ids:List Int)(hl:ids.length<1000000000):∀(kk i:Nat) (m:List (Int×Int)),i≤ids.length→ids.length-i<kk→Inv m (ids.take i)→eO ids kk (i:Int)=some (scan (ids.drop i) m).1:=by
 intro kk
 induction kk with
 |zero=>intro i m _ h;omega
 |succ kk ih=>
  intro i m hi hk hm
  rw[eO]
  by_cases h:i=ids.length
  ·subst h
   simp only[Int.lt_irrefl,decide_false,ah,List.drop_length,scan]
   rfl
  ·have h1:i<ids.length:=by omega
   rw[aV h1,ap,aD h1,az,Su ids hl _ h1,List.drop_eq_getElem_cons h1,scan]
   obtain⟨g1,g2⟩:=UN hm ids[i]
   rw[g1]at g2⊢
   simp only[aC,decide_eq_true_eq]
   by_cases h2:ids[i]<1
   ·simp[h2,g1]
   ·by_cases h3:ids[i]∈ids.take i
    ·simp[h2,h3,g1]
    ·simp only[h2,h3,if_false,ne_eq,not_true]
     simp only[h2,h3,if_false]at g2
     refine ih (i+1) _ (by omega) (by omega) ?_
     have:=g2 trivial
     rwa [List.take_append_getElem h1]at this
theorem Lz(fs:List ae)(hs:eH fs<1000000000-1):∃e,fZ fs=some e∧kg fs=some e:=by
 obtain⟨e,h1,h2,h3⟩:=pr ⟨7,0,fs⟩ (by simp only[jX];omega)
 unfold fZ kg
 rw[h1,h2]
 simp only[az,aC]
 by_cases he:e=0
 ·have w:=Q6 1000000000 aH fs [] (by omega) (by rw[aJ];omega) (by omega)
  have i:=Vb 1000000000 aH fs (by omega) (by rw[aJ];omega) (by omega)
  have hl:=BK fs
  have l:=Nl (fQ fs) (by omega) aH 0 [] (Nat.zero_le _) (by rw[aJ];omega) (fun x=>by simp[jB])
  have l:eO (fQ fs) aH (0:Int)=_:=l
  refine⟨(scan (fQ fs) []).1,?_,?_⟩
  ·simp[he,w,az]
  ·simp[he,i,az,l]
 ·exact⟨e,by simp[he],by simp[he]⟩
theorem ii{α β:Type}(a:α)(f:α→Option β):al (some a) f=f a:=rfl
theorem uZ{β:Type}(x y:Option β):aj true x y=x:=rfl
theorem jP{β:Type}(x y:Option β):aj false x y=y:=rfl
theorem nU{m f:Nat}(h:m<f):∃q,f=q+1:=⟨f-1,by omega⟩
theorem VQ{i n:Nat}(h:¬i<n):decide ((i:Int)<(n:Int))=false:=by simp;omega
theorem B3{α:Type}{l:List α}{i:Nat}(hi:i<l.length):l.drop i=l[i]::l.drop (i+1):=List.drop_eq_getElem_cons hi
noncomputable def ck(t:am)(v:ac):Int:=(gw t v).getD 0
theorem Ql{t:am}{v:ac}(hv:cm v<1000000000)(hT:jX t<1000000000):gw t v=some (ck t v):=by
 obtain⟨e,h1,_⟩:=Of t v hv hT
 unfold ck;rw[h1];rfl
theorem Tr{t:am}{v:ac}(hv:cm v<1000000000)(hT:jX t<1000000000):mr t v=some (ck t v):=by
 obtain⟨e,h1,h2⟩:=Of t v hv hT
 unfold ck;rw[h1,h2];rfl
def sc(fs:List ae):Int:=(fZ fs).getD 0
theorem Xj{fs:List ae}(h:eH fs<1000000000-1):fZ fs=some (sc fs):=by
 obtain⟨e,h1,_⟩:=Lz fs h
 unfold sc;rw[h1];rfl
theorem Y1{fs:List ae}(h:eH fs<1000000000-1):kg fs=some (sc fs):=by
 obtain⟨e,h1,h2⟩:=Lz fs h
 unfold sc;rw[h1,h2];rfl
end Go.Proofs.YtpiohnabdhpphaaGreatDoor
namespace Go.Proofs.YtpiohnabdhpphaaGreatDoor
open Go Go.SX Go.SX.Cal Go.Lib
open Go.IntKind (i64)
theorem IF{p:List ae}(hl:p.length<1000000000)(x:Int):∃r,vT p x=some r∧wC p x=some r∧(r<0∨∃i:Nat,i<p.length∧r=(i:Int)):=by
 have key:∀(m f f' i:Nat),i+m=p.length→m<f→m<f'→∃r,a7 p x f (i:Int)=some r∧pm p x f' (i:Int)=some r∧(r<0∨∃i:Nat,i<p.length∧r=(i:Int)):=by
  intro m
  induction m with
  |zero=>
   intro f f' i hi hf hf'
   obtain⟨f,rfl⟩:=nU hf
   obtain⟨f',rfl⟩:=nU hf'
   rw[a7,pm,VQ (by omega),jP,jP]
   exact⟨-1,rfl,rfl,.inl (by omega)⟩
  |succ m ih=>
   intro f f' i hi hf hf'
   obtain⟨f,rfl⟩:=nU hf
   obtain⟨f',rfl⟩:=nU hf'
   have h1:i<p.length:=by omega
   rw[a7,pm,aV h1,uZ,uZ,aD h1,ii,ii,tV,ii]
   cases he:(p[i].id==x)with
   |true=>rw[uZ,uZ];exact⟨i,rfl,rfl,.inr ⟨i,h1,rfl⟩⟩
   |false=>rw[jP,jP,au h1 hl];exact ih f f' (i+1) (by omega) (by omega) (by omega)
 obtain⟨r,h1,h2,h3⟩:=key p.length aH aH 0 (by omega) (by rw[aJ];omega) (by rw[aJ];omega)
 refine⟨r,?_,h2,h3⟩
 unfold vT cY
 rw[show((0:Nat):Int)=0 from rfl]at h1
 rw[h1,ii]
theorem X8{t:am}{e:Int}(h:cW t=some e):pM t=some (if e≠0 then e else if t.kind=6∨t.kind=7 then 2 else 0):=by
 unfold pM o7
 rw[h,ii]
 by_cases he:e=0
 ·subst he
  by_cases h6:t.kind=6
  ·simp[h6,aC]
  ·by_cases h7:t.kind=7<;>simp[h6,h7,aC]
 ·simp[he,aC]
def Wd(t u:am):Prop:=(t.kind=u.kind∧t.scale=u.scale)∨(t.kind=1∧u.kind=2)∨((t.kind=1∨t.kind=2)∧u.kind=3∧u.scale=0)
structure WdT(t u:am):Prop where
 a:V t
 b:V u
 c:cW u=some 0
 l:t.kind≠6∧t.kind≠7
 m:u.kind≠6∧u.kind≠7
 w:Wd t u
def Zk(t u:am):Bool:=(t.kind==u.kind&&t.scale==u.scale)||(t.kind==1&&u.kind==2)||((t.kind==1||t.kind==2)&&u.kind==3&&u.scale==0)
theorem LG(t u:am)(ht:jX t<1000000000)(hu:jX u<1000000000):∃b,kx t u=some b∧oO t u=some b∧(b=true→WdT t u):=by
 obtain⟨e,a1,a2,a3⟩:=pr t ht
 obtain⟨e',b1,b2,b3⟩:=pr u hu
 have hc:ml t u false=some (Zk t u):=by
  unfold ml rD rQ j9 Zk
  simp only[aC,beq_iff_eq]
  repeat' split
  all_goals (first|rfl|(simp_all;done) |(simp_all;omega))
 have hr:kH t u false=some (Zk t u):=by
  unfold kH vK ut mO Zk
  simp only[aC,beq_iff_eq]
  repeat' split
  all_goals (first|rfl|(simp_all;done) |(simp_all;omega) |(refine congrArg some (Bool.eq_iff_iff.2 ?_);simp_all;try omega))
 have hc0:ml t u true=some false:=rfl
 have hr0:kH t u true=some false:=rfl
 have hC:kx t u=some (decide (e=0∧e'=0∧(t.kind≠6∧t.kind≠7)∧(u.kind≠6∧u.kind≠7))&&Zk t u):=by
  unfold kx
  rw[X8 a1,X8 b1,ii,ii]
  by_cases he:e=0<;>by_cases he':e'=0<;>by_cases h1:t.kind=6∨t.kind=7<;>by_cases h2:u.kind=6∨u.kind=7<;>simp[he,he',show¬e'=0→(e' != 0)=true from fun h=>by simp[h],aC,hc,hc0,h1,h2,show(t.kind≠6∧t.kind≠7)↔¬(t.kind=6∨t.kind=7)from by omega,show(u.kind≠6∧u.kind≠7)↔¬(u.kind=6∨u.kind=7)from by omega]
 have hR:oO t u=some (decide (e=0∧e'=0∧(t.kind≠6∧t.kind≠7)∧(u.kind≠6∧u.kind≠7))&&Zk t u):=by
  unfold oO
  simp only[a2,b2,HU,ii]
  by_cases he:e=0<;>by_cases he':e'=0<;>by_cases h1:t.kind≠6∧t.kind≠7<;>by_cases h2:u.kind≠6∧u.kind≠7<;>simp[he,he',h1,h2,aC,hr,hr0]
 refine⟨_,hC,hR,fun h=> ?_⟩
 rw[iY,decide_eq_true_iff]at h
 obtain⟨⟨he,he',h6,h7⟩,hw⟩:=h
 subst he;subst he'
 refine⟨a3 rfl,b3 rfl,b1,h6,h7,?_⟩
 unfold Zk at hw
 simp at hw
 unfold Wd
 omega
theorem PN(t:am):rn t=some (decide (t.kind=6∨t.kind=7)):=by
 unfold rn qs
 by_cases h6:t.kind=6<;>by_cases h7:t.kind=7<;>simp[h6,h7,aC]
def AdT(q:List ae→List ae→Prop)(t u:am):Prop:=(t.kind≠6∧t.kind≠7→WdT t u)∧(¬(t.kind≠6∧t.kind≠7)→t.kind=u.kind∧q t.fields u.fields)
def QJ:Nat→List ae→List ae→Prop
 |0,_,_=>True
 |d+1,p,q=>∀f∈q,∀(i:Nat) (g:ae),wC p f.id=some (i:Int)→p[i]? =some g→AdT (QJ d) g.type f.type
theorem M5:∀(N k k':Nat) (p q:List ae),eH q≤N→N<k→N<k'→eH p<1000000000→eH q<1000000000→∃e,bv k p q=some e∧cr k' p q=some e∧(e=0→∀d,QJ d p q):=by
 intro N
 induction N with
 |zero=>
  intro k k' p q h hk hk' hp hq
  obtain⟨k,rfl⟩:=nU hk
  obtain⟨k',rfl⟩:=nU hk'
  have hl:=dE q
  have:q=[]:=List.length_eq_zero_iff.1 (by omega)
  subst this
  rw[bv,cr,sK,bG,cq]
  refine⟨0,rfl,rfl,fun _ d=> ?_⟩
  cases d with
  |zero=>trivial
  |succ d=>exact fun f hf=>by cases hf
 |succ N ih=>
  intro k k' p q h hk hk' hp hq
  obtain⟨k,rfl⟩:=nU hk
  obtain⟨k',rfl⟩:=nU hk'
  have hpl:=dE p
  have hql:=dE q
  have key:∀(m f f' i:Nat),i+m=q.length→m<f→m<f'→∃e,bG (bv k) p q f (i:Int)=some e∧cq (cr k') p q f' (i:Int)=some e∧
    (e=0→∀d,∀f∈q.drop i,∀(i:Nat) (g:ae),wC p f.id=some (i:Int)→p[i]? =some g→AdT (QJ d) g.type f.type):=by
   intro m
   induction m with
   |zero=>
    intro f f' i hi hf hf'
    obtain⟨f,rfl⟩:=nU hf
    obtain⟨f',rfl⟩:=nU hf'
    rw[bG,cq,VQ (by omega),jP,jP,List.drop_of_length_le (by omega)]
    exact⟨0,rfl,rfl,fun _ d f hf=>by cases hf⟩
   |succ m ih2=>
    intro f f' i hi hf hf'
    obtain⟨f,rfl⟩:=nU hf
    obtain⟨f',rfl⟩:=nU hf'
    have h1:i<q.length:=by omega
    obtain⟨e,c1,c2,c3⟩:=ih2 f f' (i+1) (by omega) (by omega) (by omega)
    obtain⟨r,r1,r2,r3⟩:=IF (p:=p) (by omega) q[i].id
    rw[bG,cq,aV h1,uZ,uZ,aD h1,ii,ii,r1,ii,r2,ii,B3 h1]
    unfold lC nD
    rw[au h1 (by omega)]
    rcases r3 with r3|⟨j,hj,rfl⟩
    ·rw[decide_eq_true r3,uZ,uZ]
     cases hn:q[i].need with
     |true=>rw[uZ,uZ];exact⟨9,rfl,rfl,fun h=>by cases h⟩
     |false=>
      rw[jP,jP]
      refine⟨e,c1,c2,fun he d x hx j g hg hpj=> ?_⟩
      rcases List.mem_cons.1 hx with rfl|hx
      ·rw[r2]at hg;cases hg;omega
      ·exact c3 he d x hx j g hg hpj
    ·rw[decide_eq_false (by omega),jP,jP,aD hj,ii,ii]
     have hqi:=lg (gV h1)
     have hpj:=lg (gV hj)
     have hqi2:=kr q[i]
     have hpj2:=kr p[j]
     have hqi3:=s7 q[i].type
     have hpj3:=s7 p[j].type
     obtain⟨y,y1,y2,y3⟩:=ih k k' p[j].type.fields q[i].type.fields (by omega) (by omega) (by omega) (by omega) (by omega)
     obtain⟨b,b1,b2,b3⟩:=LG p[j].type q[i].type (by omega) (by omega)
     have hgo:∀(hat:(∀d,QJ d p[j].type.fields q[i].type.fields)→∀d,AdT (QJ d) p[j].type q[i].type),
       ∃e,gZ (bv k) (bG (bv k) p q f) (i:Int) q[i] p[j] false=some e∧fW (cq (cr k') p q f') (cr k') (i:Int) q[i] p[j] false=some e∧
        (e=0→∀d,∀f∈q[i]::q.drop (i+1),∀(i:Nat) (g:ae),wC p f.id=some (i:Int)→p[i]? =some g→AdT (QJ d) g.type f.type):=by
      intro hat
      unfold gZ fW lC nD
      rw[jP,jP,y1,ii,y2,ii,au h1 (by omega)]
      by_cases hy:y=0
      ·subst hy
       rw[bne_self_eq_false,jP,jP]
       refine⟨e,c1,c2,fun he d x hx j' g hg hpj'=> ?_⟩
       rcases List.mem_cons.1 hx with rfl|hx
       ·rw[r2]at hg
        have:j=j':=by have:=Option.some.inj hg;omega
        subst this
        rw[dJ hj]at hpj'
        cases hpj'
        exact hat (y3 rfl) d
       ·exact c3 he d x hx j' g hg hpj'
      ·rw[show(y != 0)=true by simp[hy],uZ,uZ]
       exact⟨y,rfl,rfl,fun h=>absurd h hy⟩
     have h2c:gZ (bv k) (bG (bv k) p q f) (i:Int) q[i] p[j] true=some 2:=rfl
     have h2r:fW (cq (cr k') p q f') (cr k') (i:Int) q[i] p[j] true=some 2:=rfl
     have hj1:∃e,lD (bv k) (bG (bv k) p q f) (i:Int) q[i] p[j] false=some e∧nK (cq (cr k') p q f') (cr k') (i:Int) q[i] p[j] false=some e∧
        (e=0→∀d,∀f∈q[i]::q.drop (i+1),∀(i:Nat) (g:ae),wC p f.id=some (i:Int)→p[i]? =some g→AdT (QJ d) g.type f.type):=by
      unfold lD nK oj
      rw[jP,jP,PN,ii,HU,ii]
      by_cases hlf:p[j].type.kind≠6∧p[j].type.kind≠7
      ·rw[decide_eq_true hlf,decide_eq_false (by omega)]
       simp only[Bool.not_true,Bool.not_false,uZ,jP,ii,b1,b2]
       cases b with
       |true=>exact hgo fun _ d=>⟨fun _=>b3 rfl,fun h=>absurd hlf h⟩
       |false=>exact⟨2,rfl,rfl,fun h=>by cases h⟩
      ·rw[decide_eq_false hlf,decide_eq_true (by omega)]
       simp only[Bool.not_true,Bool.not_false,uZ,jP,ii]
       by_cases hk:p[j].type.kind=q[i].type.kind
       ·rw[show(q[i].type.kind != p[j].type.kind)=false by simp[hk],show(p[j].type.kind != q[i].type.kind)=false by simp[hk],jP,jP]
        exact hgo fun hh d=>⟨fun h=>absurd h hlf,fun _=>⟨hk,hh d⟩⟩
       ·rw[show(q[i].type.kind != p[j].type.kind)=true by simp;omega,show(p[j].type.kind != q[i].type.kind)=true by simp;omega,uZ,uZ]
        exact⟨2,rfl,rfl,fun h=>by cases h⟩
     cases hn:q[i].need with
     |true=>
      rw[uZ,uZ]
      cases hm:p[j].need with
      |true=>exact hj1
      |false=>exact⟨9,rfl,rfl,fun h=>by cases h⟩
     |false=>rw[jP,jP];exact hj1
  obtain⟨e,e1,e2,e3⟩:=key q.length aH aH 0 (by omega) (by rw[aJ];omega) (by rw[aJ];omega)
  refine⟨e,e1,e2,fun he d=> ?_⟩
  cases d with
  |zero=>trivial
  |succ d=>exact e3 he d
theorem Mw(t:am):wE t=some (decide (t.kind≠6∧t.kind≠7)):=by
 unfold wE xc
 by_cases h6:t.kind=6<;>by_cases h7:t.kind=7<;>simp[h6,h7,aC]
def A3:am:=⟨0,0,[]⟩
def W8(p:aZ)(t:am):am×Int:=
 if t.kind=6∨t.kind=7 then(A3,2)else if p.kind=3∧t.kind≠2∧t.kind≠3∧t.kind≠4 then(A3,2)else if 4≤p.kind∧t.kind≠5 then(A3,2)
 else if p.kind=2∨4≤p.kind then(⟨2,0,[]⟩,0)else(t,0)
def Kr(p:aZ)(t:am)(e:Int):am×Int:=
 if e≠0 then(A3,e)else if p.kind<0∨7<p.kind then(A3,3)
 else if p.kind=2∨p.kind=3 then(if p.param<1∨1000000<p.param then(A3,3)else W8 p t)else if p.param≠0 then(A3,3)else W8 p t
theorem adF(p:aZ)(t:am):jy p t=some (W8 p t):=by
 unfold jy gO gN lT W8 A3
 rw[Mw]
 simp only[az,aC]
 by_cases h6:t.kind=6
 ·simp[h6]
 by_cases h7:t.kind=7
 ·simp[h7]
 by_cases h3:p.kind=3
 ·by_cases t2:t.kind=2
  ·simp[h6,h7,h3,t2]
  by_cases t3:t.kind=3
  ·simp[h6,h7,h3,t2,t3]
  by_cases t4:t.kind=4
  ·simp[h6,h7,h3,t2,t3,t4]
  simp[h6,h7,h3,t2,t3,t4]
 ·by_cases h4:4≤p.kind
  ·by_cases t5:t.kind=5
   ·simp[h6,h7,h3,h4,t5]
   ·simp[h6,h7,h3,h4,t5]
  ·by_cases h2:p.kind=2
   ·simp[h6,h7,h3,h4,h2]
   ·simp[h6,h7,h3,h4,h2]
theorem aac(p:aZ)(t:am):dQ p t false=some (W8 p t):=by
 unfold dQ im mY mQ W8 A3
 rw[HU]
 simp only[az,aC]
 by_cases h6:t.kind=6
 ·simp[h6]
 by_cases h7:t.kind=7
 ·simp[h7]
 by_cases h3:p.kind=3
 ·by_cases t2:t.kind=2
  ·simp[h6,h7,h3,t2]
  by_cases t3:t.kind=3
  ·simp[h6,h7,h3,t2,t3]
  by_cases t4:t.kind=4
  ·simp[h6,h7,h3,t2,t3,t4]
  simp[h6,h7,h3,t2,t3,t4]
 ·by_cases h4:4≤p.kind
  ·by_cases t5:t.kind=5
   ·simp[h6,h7,h3,h4,t5]
   ·simp[h6,h7,h3,h4,t5]
  ·by_cases h2:p.kind=2
   ·simp[h6,h7,h3,h4,h2]
   ·simp[h6,h7,h3,h4,h2]
theorem pw(a b c:Int):dG a b c=some (decide (b≤a∧a≤c)):=by
 unfold dG vO
 by_cases h1:b≤a<;>by_cases h2:a≤c<;>simp[h1,h2,aC]
theorem tt(p:aZ)(t:am)(hs:jX t<1000000000):∃e,(e=0→V t)∧dz p t=some (Kr p t e)∧fp p t=some (Kr p t e):=by
 obtain⟨e,h1,h2,h3⟩:=pr t hs
 refine⟨e,h3,?_,?_⟩
 ·unfold dz Kr
  rw[h1]
  by_cases he:e=0
  ·subst he
   unfold lN lO lL
   rw[adF]
   simp only[az,aC,A3]
   by_cases k0:p.kind<0
   ·simp[k0]
   by_cases k7:7<p.kind
   ·simp[k0,k7]
   by_cases k2:p.kind=2
   ·by_cases m1:p.param<1
    ·simp[k0,k7,k2,m1]
    by_cases m2:1000000<p.param
    ·simp[k0,k7,k2,m1,m2]
    simp[k0,k7,k2,m1,m2]
   by_cases k3:p.kind=3
   ·by_cases m1:p.param<1
    ·simp[k0,k7,k2,k3,m1]
    by_cases m2:1000000<p.param
    ·simp[k0,k7,k2,k3,m1,m2]
    simp[k0,k7,k2,k3,m1,m2]
   by_cases m0:p.param=0
   ·simp[k0,k7,k2,k3,m0]
   ·simp[k0,k7,k2,k3,m0]
  ·simp[he,aC,az,A3]
 ·unfold fp Kr
  rw[h2]
  by_cases he:e=0
  ·subst he
   unfold mR
   rw[pw,pw]
   have hb:dQ p t true=some (A3,3):=rfl
   by_cases k0:p.kind<0
   ·simp[k0,aC,az,show¬(0:Int)≤p.kind by omega,A3]
   by_cases k7:7<p.kind
   ·simp[k0,k7,aC,az,show¬p.kind≤7 by omega,A3]
   have k0':(0:Int)≤p.kind:=by omega
   have k7':p.kind≤7:=by omega
   by_cases k2:p.kind=2
   ·by_cases m1:p.param<1
    ·simp[k2,m1,aC,az,hb,show¬(1:Int)≤p.param by omega]
    by_cases m2:1000000<p.param
    ·simp[k2,m1,m2,aC,az,hb,show¬p.param≤1000000 by omega]
    simp[k2,m1,m2,aC,az,aac,show(1:Int)≤p.param by omega,show p.param≤1000000 by omega]
   by_cases k3:p.kind=3
   ·by_cases m1:p.param<1
    ·simp[k3,m1,aC,az,hb,show¬(1:Int)≤p.param by omega]
    by_cases m2:1000000<p.param
    ·simp[k3,m1,m2,aC,az,hb,show¬p.param≤1000000 by omega]
    simp[k3,m1,m2,aC,az,aac,show(1:Int)≤p.param by omega,show p.param≤1000000 by omega]
   by_cases m0:p.param=0
   ·simp[k0,k7,k0',k7',k2,k3,m0,aC,az,aac]
   ·have hm:(p.param != 0)=true:=bne_iff_ne.2 m0
    simp[k0,k7,k0',k7',k2,k3,m0,hm,aC,az,hb]
  ·simp[he,aC,az,A3]
theorem JM{t:am}(h:V t)(h6:t.kind≠6)(h7:t.kind≠7):t.fields=[]∧1≤t.kind∧t.kind≤7:=by
 obtain⟨_,h1,_⟩:=h
 unfold shp at h1
 split at h1
 ·omega
 ·rename_i hk
  split at h1
  ·omega
  ·unfold vf at h1
   rw[if_neg h6,if_pos h7]at h1
   split at h1
   ·omega
   ·rename_i hl
    exact⟨List.eq_nil_of_length_eq_zero (by omega),by omega,by omega⟩
structure X3(p:aZ)(t:am):Prop where
 v:V t
 k6:t.kind≠6
 k7:t.kind≠7
 lo:0≤p.kind
 hi:p.kind≤7
 par:p.kind=2∨p.kind=3→1≤p.param∧p.param≤1000000
 cut:p.kind=3→t.kind=2∨t.kind=3∨t.kind=4
 tim:4≤p.kind→t.kind=5
theorem QO{p:aZ}{t:am}{e:Int}(hv:e=0→V t)(h:(Kr p t e).2=0):X3 p t:=by
 unfold Kr W8 at h
 by_cases he:e=0
 ·subst he
  rw[if_neg (by decide)]at h
  by_cases hk:p.kind<0∨7<p.kind
  ·rw[if_pos hk]at h;exact absurd h (by decide)
  rw[if_neg hk]at h
  have fin:(if t.kind=6∨t.kind=7 then(A3,(2:Int))else if p.kind=3∧t.kind≠2∧t.kind≠3∧t.kind≠4 then(A3,2)else if 4≤p.kind∧t.kind≠5 then(A3,2)else if p.kind=2∨4≤p.kind then(⟨2,0,[]⟩,0)else(t,0)).2=0→
    t.kind≠6∧t.kind≠7∧(p.kind=3→t.kind=2∨t.kind=3∨t.kind=4)∧(4≤p.kind→t.kind=5):=fun h=>by
   by_cases a:t.kind=6∨t.kind=7
   ·rw[if_pos a]at h;exact absurd h (by decide)
   rw[if_neg a]at h
   by_cases b:p.kind=3∧t.kind≠2∧t.kind≠3∧t.kind≠4
   ·rw[if_pos b]at h;exact absurd h (by decide)
   rw[if_neg b]at h
   by_cases c:4≤p.kind∧t.kind≠5
   ·rw[if_pos c]at h;exact absurd h (by decide)
   exact⟨by omega,by omega,by omega,by omega⟩
  by_cases h23:p.kind=2∨p.kind=3
  ·rw[if_pos h23]at h
   by_cases hm:p.param<1∨1000000<p.param
   ·rw[if_pos hm]at h;exact absurd h (by decide)
   rw[if_neg hm]at h
   obtain⟨a,b,c,d⟩:=fin h
   exact⟨hv rfl,a,b,by omega,by omega,fun _=>by omega,c,d⟩
  ·rw[if_neg h23]at h
   by_cases hm:p.param≠0
   ·rw[if_pos hm]at h;exact absurd h (by decide)
   rw[if_neg hm]at h
   obtain⟨a,b,c,d⟩:=fin h
   exact⟨hv rfl,a,b,by omega,by omega,fun h=>absurd h h23,c,d⟩
 ·rw[if_pos he]at h;exact absurd h he
end Go.Proofs.YtpiohnabdhpphaaGreatDoor
namespace Go.Proofs.YtpiohnabdhpphaaGreatDoor
open Go Go.SX Go.SX.Cal
open Go.IntKind (i64)
theorem bS{α β:Type}(a:α)(f:α→Option β):al (some a) f=f a:=rfl
theorem iT{β:Type}(x y:Option β):aj true x y=x:=rfl
theorem iF{β:Type}(x y:Option β):aj false x y=y:=rfl
theorem gP{β:Type}{p:Prop}[Decidable p]{x:Option β}(h:p):gX p x=x:=if_pos h
theorem G2{i n:Nat}(h:¬i<n):decide ((i:Int)<(n:Int))=false:=by simp;omega
theorem fu{m f:Nat}(h:m<f):∃q,f=q+1:=⟨f-1,by omega⟩
theorem Hf:aH=1152921504606846975+1:=rfl
structure TO(fs:List ae)(id:Int)(i:Nat):Prop where
 lt:i<fs.length
 eq:∀h:i<fs.length,fs[i].id=id
 no:∀(j:Nat) (h:j<fs.length),j<i→fs[j].id≠id
theorem Zp{fs:List ae}(id:Int):∀(m j:Nat),j+m=fs.length→(∃i,j≤i∧i<fs.length∧(∀h:i<fs.length,fs[i].id=id)∧∀(q:Nat) (h:q<fs.length),j≤q→q<i→fs[q].id≠id)∨∀(q:Nat) (h:q<fs.length),j≤q→fs[q].id≠id:=by
 intro m
 induction m with
 |zero=>intro j h;exact .inr fun q hq hj=>by omega
 |succ m ih=>
  intro j h
  have hj:j<fs.length:=by omega
  by_cases e:fs[j].id=id
  ·exact .inl ⟨j,iD _,hj,fun _=>e,fun q _ h1 h2=>by omega⟩
  ·rcases ih (j+1) (by omega)with⟨i,h1,h2,h3,h4⟩ |h1
   ·refine .inl ⟨i,by omega,h2,h3,fun q hq h5 h6=> ?_⟩
    by_cases e2:q=j
    ·subst e2;exact e
    ·exact h4 q hq (by omega) h6
   ·refine .inr fun q hq h5=> ?_
    by_cases e2:q=j
    ·subst e2;exact e
    ·exact h1 q hq (by omega)
theorem TO.or(fs:List ae)(id:Int):(∃i,TO fs id i)∨∀(q:Nat) (h:q<fs.length),fs[q].id≠id:=by
 rcases Zp (fs:=fs) id fs.length 0 (by omega)with⟨i,_,h2,h3,h4⟩ |h
 ·exact .inl ⟨i,h2,h3,fun j hj hi=>h4 j hj (Nat.zero_le _) hi⟩
 ·exact .inr fun q hq=>h q hq (Nat.zero_le _)
theorem adZ{fs:List ae}(hn:fs.length<1000000000){id:Int}{i:Nat}(hF:TO fs id i):∀(m f j:Nat),j+m=i→m<f→
  aL fs id f (j:Int)=some (i:Int):=by
 intro m
 induction m with
 |zero=>
  intro f j h hf
  obtain⟨q,rfl⟩:=fu hf
  have e:j=i:=by omega
  subst e
  rw[aL,aV hF.lt,iT,aD hF.lt,bS]
  unfold tk
  rw[bS,hF.eq hF.lt,beq_self_eq_true,iT]
 |succ m ih=>
  intro f j h hf
  obtain⟨q,rfl⟩:=fu hf
  have hj:j<fs.length:=by have:=hF.lt;omega
  rw[aL,aV hj,iT,aD hj,bS]
  unfold tk
  rw[bS,beq_eq_false_iff_ne.2 (hF.no j hj (by omega)),iF,au hj hn]
  exact ih q (j+1) (by omega) (by omega)
theorem adO{fs:List ae}(hn:fs.length<1000000000){id:Int}(hF:∀(q:Nat) (h:q<fs.length),fs[q].id≠id):∀(m f j:Nat),j+m=fs.length→m<f→
  aL fs id f (j:Int)=some (-1):=by
 intro m
 induction m with
 |zero=>
  intro f j h hf
  obtain⟨q,rfl⟩:=fu hf
  rw[aL,G2 (by omega),iF]
  rfl
 |succ m ih=>
  intro f j h hf
  obtain⟨q,rfl⟩:=fu hf
  have hj:j<fs.length:=by omega
  rw[aL,aV hj,iT,aD hj,bS]
  unfold tk
  rw[bS,beq_eq_false_iff_ne.2 (hF j hj),iF,au hj hn]
  exact ih q (j+1) (by omega) (by omega)
theorem Dc{fs:List ae}(hn:fs.length<1000000000){id:Int}{i:Nat}(hF:TO fs id i):me fs id=some (i:Int):=by
 unfold me cx
 have h:=adZ hn hF i aH 0 (by omega) (by rw[Hf];have:=hF.lt;omega)
 rw[show((0:Nat):Int)=0 from rfl]at h
 rw[h];rfl
theorem CY{fs:List ae}(hn:fs.length<1000000000){id:Int}(hF:∀(q:Nat) (h:q<fs.length),fs[q].id≠id):me fs id=some (-1):=by
 unfold me cx
 have h:=adO hn hF fs.length aH 0 (by omega) (by rw[Hf];omega)
 rw[show((0:Nat):Int)=0 from rfl]at h
 rw[h];rfl
theorem abS{fs:List ae}(hn:fs.length<1000000000){id:Int}{i:Nat}(hF:TO fs id i):∀(m f j:Nat),j+m=i→m<f→
  l0 fs id f (j:Int)=some (fs[i]'hF.lt,true):=by
 intro m
 induction m with
 |zero=>
  intro f j h hf
  obtain⟨q,rfl⟩:=fu hf
  have e:j=i:=by omega
  subst e
  rw[l0,aV hF.lt,iT,aD hF.lt,bS,hF.eq hF.lt,beq_self_eq_true,iT]
 |succ m ih=>
  intro f j h hf
  obtain⟨q,rfl⟩:=fu hf
  have hj:j<fs.length:=by have:=hF.lt;omega
  rw[l0,aV hj,iT,aD hj,bS,beq_eq_false_iff_ne.2 (hF.no j hj (by omega)),iF,au hj hn]
  exact ih q (j+1) (by omega) (by omega)
theorem abf{fs:List ae}(hn:fs.length<1000000000){id:Int}(hF:∀(q:Nat) (h:q<fs.length),fs[q].id≠id):∀(m f j:Nat),j+m=fs.length→m<f→
  ∃g,l0 fs id f (j:Int)=some (g,false):=by
 intro m
 induction m with
 |zero=>
  intro f j h hf
  obtain⟨q,rfl⟩:=fu hf
  rw[l0,G2 (by omega),iF]
  exact⟨_,rfl⟩
 |succ m ih=>
  intro f j h hf
  obtain⟨q,rfl⟩:=fu hf
  have hj:j<fs.length:=by omega
  rw[l0,aV hj,iT,aD hj,bS,beq_eq_false_iff_ne.2 (hF j hj),iF,au hj hn]
  exact ih q (j+1) (by omega) (by omega)
theorem yt{fs:List ae}(hn:fs.length<1000000000){id:Int}{i:Nat}(hF:TO fs id i):qX fs id=some (fs[i]'hF.lt,true):=by
 have h:=abS hn hF i aH 0 (by omega) (by rw[Hf];have:=hF.lt;omega)
 exact h
theorem B8{fs:List ae}(hn:fs.length<1000000000){id:Int}(hF:∀(q:Nat) (h:q<fs.length),fs[q].id≠id):∃g,qX fs id=some (g,false):=by
 obtain⟨g,h⟩:=abf hn hF fs.length aH 0 (by omega) (by rw[Hf];omega)
 exact⟨g,h⟩
def Iw(a b:bm):Bool:=(a.source==b.source)&&(((a.transform.kind==b.transform.kind)&&((a.transform.param==b.transform.param)&&true))&&true)
theorem OT(a b:bm):Iw a b=true↔a=b:=by
 obtain⟨s,k,p⟩:=a
 obtain⟨s2,k2,p2⟩:=b
 simp[Iw,and_assoc]
theorem So(a b:bm):Iw a b=Iw b a:=by
 rw[Bool.eq_iff_iff,OT,OT];exact eq_comm
theorem adS{l:List bm}(hn:l.length<1000000000)(e:bm):∀(m f j:Nat),j+m=l.length→m<f→∃r,bz l e f (j:Int)=some r∧decide ((0:Int)≤r)=(l.drop j).any (Iw e):=by
 intro m
 induction m with
 |zero=>
  intro f j h hf
  obtain⟨q,rfl⟩:=fu hf
  rw[bz,G2 (by omega),iF]
  exact⟨-1,rfl,by rw[List.drop_of_length_le (by omega)];rfl⟩
 |succ m ih=>
  intro f j h hf
  obtain⟨q,rfl⟩:=fu hf
  have hj:j<l.length:=by omega
  rw[bz,aV hj,iT,aD hj,bS,bS,List.drop_eq_getElem_cons hj,List.any_cons]
  show∃r,aj (Iw e l[j]) _ _=_∧_
  cases hb:Iw e l[j]with
  |true=>exact⟨_,rfl,by simp⟩
  |false=>
   rw[iF,au hj hn]
   exact ih q (j+1) (by omega) (by omega)
theorem aav{l:List bm}(hn:l.length<1000000000)(e:bm):dv l e=some (l.any (Iw e)):=by
 unfold dv fT
 obtain⟨r,h1,h2⟩:=adS hn e l.length aH 0 (by omega) (by rw[Hf];omega)
 rw[show((0:Nat):Int)=0 from rfl]at h1
 rw[h1,bS,h2];rfl
theorem adq{p:cD}(hn:p.fields.length<1000000000)(rec1:Int→Option Int)(x1:Nat)(hx:x1≤p.fields.length)(e:bm):∀(m f j:Nat),j+m=x1→m<f→
  n4 rec1 p (x1:Int) e f (j:Int)=if((p.fields.take x1).drop j).any (Iw e)=true then some 5 else wN rec1 (x1:Int):=by
 intro m
 induction m with
 |zero=>
  intro f j h hf
  obtain⟨q,rfl⟩:=fu hf
  rw[n4,G2 (by omega),iF,List.drop_of_length_le (by rw[List.length_take];omega)]
  rfl
 |succ m ih=>
  intro f j h hf
  obtain⟨q,rfl⟩:=fu hf
  have hj:j<p.fields.length:=by omega
  have hj2:j<(p.fields.take x1).length:=by rw[List.length_take];omega
  rw[n4,aV (show j<x1 by omega),iT,aD hj,bS,bS,List.drop_eq_getElem_cons hj2,List.any_cons]
  rw[show(p.fields.take x1)[j]=p.fields[j] by simp]
  show aj (Iw p.fields[j] e) _ _=_
  rw[So]
  cases hb:Iw e p.fields[j]with
  |true=>simp[iT]
  |false=>
   rw[iF,au (show j<x1 by omega) (by omega),ih q (j+1) (by omega) (by omega)]
   simp
theorem PY{p:cD}{fs:List ae}(hp:p.fields.length<1000000000)(hf:eH fs<1000000000):∀(m f j:Nat),j+m=p.fields.length→m<f→
  ∃c,mn p fs f (j:Int)=some c∧jk p fs f (j:Int)=some c∧(c=0→∀(k:Nat) (h:k<p.fields.length),j≤k→∃i,TO fs p.fields[k].source i):=by
 have hn:fs.length<1000000000:=by have:=dE fs;omega
 intro m
 induction m with
 |zero=>
  intro f j h hq
  obtain⟨q,rfl⟩:=fu hq
  refine⟨0,?_,?_,fun _ k hk hj=>by omega⟩
  ·rw[mn,G2 (by omega),iF];rfl
  ·rw[jk,G2 (by omega),iF];rfl
 |succ m ih=>
  intro f j h hq
  obtain⟨q,rfl⟩:=fu hq
  have hj:j<p.fields.length:=by omega
  rw[mn,jk,aV hj,iT,iT,aD hj,bS,bS]
  rcases TO.or fs p.fields[j].source with⟨i,hi⟩ |hi
  ·rw[Dc hn hi,yt hn hi,bS,bS]
   have hs:jX (fs[i]'hi.lt).type<1000000000:=by
    have h1:=lg (gV hi.lt)
    have h2:=kr (fs[i]'hi.lt)
    omega
   obtain⟨e,he,t1,t2⟩:=tt p.fields[j].transform (fs[i]'hi.lt).type hs
   rw[show decide ((i:Int)<0)=false from by simp,iF,aD hi.lt,bS,t1,bS]
   show∃c,_∧aj (!true) _ _=_∧_
   rw[Bool.not_true,iF]
   show∃c,_∧al (fp p.fields[j].transform (fs[i]'hi.lt).type) _=_∧_
   rw[t2,bS]
   by_cases hz:(Kr p.fields[j].transform (fs[i]'hi.lt).type e).2=0
   ·rw[hz,show((0:Int) != 0)=false from rfl,iF,iF,gP ⟨by omega,by omega,by omega⟩]
    have hd:(List.take ((j:Int).toNat-(0:Int).toNat) (List.drop (0:Int).toNat p.fields))=p.fields.take j:=by simp
    rw[hd,aav (by rw[List.length_take];omega),bS]
    have hr:=adq hp (jk p fs q) j (by omega) p.fields[j] j aH 0 (by omega) (by rw[Hf];omega)
    rw[show((0:Nat):Int)=0 from rfl,List.drop_zero]at hr
    rw[hr]
    cases hb:(p.fields.take j).any (Iw p.fields[j])with
    |true=>exact⟨5,rfl,rfl,fun h=>absurd h (by decide)⟩
    |false=>
     obtain⟨c,c1,c2,c3⟩:=ih q (j+1) (by omega) (by omega)
     refine⟨c,by rw[iF,au hj hp];exact c1,by
      rw[if_neg (by decide)]
      unfold wN
      rw[au hj hp];exact c2,fun hc k hk hjk=> ?_⟩
     by_cases e:k=j
     ·subst e;exact⟨i,hi⟩
     ·exact c3 hc k hk (by omega)
   ·have hne:((Kr p.fields[j].transform (fs[i]'hi.lt).type e).2 != 0)=true:=bne_iff_ne.2 hz
    rw[hne,iT,iT]
    exact⟨_,rfl,rfl,fun h=>absurd h hz⟩
  ·obtain⟨g,hg⟩:=B8 hn hi
   rw[CY hn hi,hg,bS,bS,show decide ((-1:Int)<0)=true from rfl,iT]
   exact⟨9,rfl,rfl,fun h=>absurd h (by decide)⟩
theorem UR(p:cD){fs:List ae}(hp:p.fields.length<1000000000)(hf:eH fs<1000000000):∃c,ud p fs=some c∧zf p fs=some c∧(c=0→∀(k:Nat) (h:k<p.fields.length),∃i,TO fs p.fields[k].source i):=by
 unfold ud zf
 cases hb:decide ((4:Int)<(p.fields.length:Int))with
 |true=>exact⟨7,rfl,rfl,fun h=>absurd h (by decide)⟩
 |false=>
  rw[iF,iF]
  obtain⟨c,h1,h2,h3⟩:=PY (p:=p) hp hf p.fields.length aH 0 (by omega) (by rw[Hf];omega)
  exact⟨c,h1,h2,fun hc k hk=>h3 hc k hk (Nat.zero_le _)⟩
def ee(e:Int)(f:Option Int):Option Int:=if e≠0 then some e else f
def qm(a b:Int):Int:=if a≠0 then a else b
def er(b:Bool)(e:Int):Int:=if b then e else 0
theorem iA(e:Int)(f:Option Int):aj (e != (0:Int)) (some e) f=ee e f:=by
 unfold ee;by_cases h:e=0<;>simp[h,aC]
theorem eb{b:Bool}{e:Int}(he:e≠0)(f:Option Int):aj b (some e) f=ee (er b e) f:=by
 unfold ee er;cases b<;>simp[he,aC]
theorem bA(a b:Int)(f:Option Int):ee a (ee b f)=ee (qm a b) f:=by
 unfold ee qm;by_cases h:a=0<;>simp[h]
theorem ej(a:Int):ee a (some 0)=some a:=by unfold ee;by_cases h:a=0<;>simp[h]
theorem Ay(a b:Int):ee a (some b)=some (qm a b):=by unfold ee qm;by_cases h:a=0<;>simp[h]
theorem lx{a b:Int}:qm a b=0↔a=0∧b=0:=by unfold qm;by_cases h:a=0<;>simp[h]
theorem D8{b:Bool}{e:Int}(he:e≠0):er b e=0↔b=false:=by unfold er;cases b<;>simp[he]
theorem Rf(e:Int):er true e=e:=rfl
theorem Ow(e:Int):er false e=0:=rfl
theorem OU(b:Int):qm 0 b=b:=rfl
theorem PX{a:Int}(h:a≠0)(b:Int):qm a b=a:=by unfold qm;rw[if_pos h]
def fe(c:Nat→Int):Nat→Nat→Int
 |0,_=>0
 |m+1,i=>qm (c i) (fe c m (i+1))
theorem N5{c:Nat→Int}:∀{m i:Nat},fe c m i=0↔∀j,i≤j→j<i+m→c j=0
 |0,i=>by simp[fe];intro j h1 h2;omega
 |m+1,i=>by
  rw[fe,lx,N5 (m:=m)]
  constructor
  ·rintro⟨h1,h2⟩ j h3 h4
   by_cases e:j=i
   ·subst e;exact h1
   ·exact h2 j (by omega) (by omega)
  ·exact fun h=>⟨h i (iD _) (by omega),fun j h1 h2=>h j (by omega) (by omega)⟩
theorem QY{n:Nat}{L:Nat→Int→Option Int}{fin:Option Int}{c:Nat→Int}(h0:∀k,L (k+1) (n:Int)=fin)(h1:∀k i,i<n→L (k+1) (i:Int)=ee (c i) (L k ((i+1:Nat):Int))):
  ∀m k i,i+m=n→m<k→L k (i:Int)=ee (fe c m i) fin
 |0,k,i,hi,hk=>by
  obtain⟨k,rfl⟩:=fu hk
  have:i=n:=by omega
  subst this
  rw[h0];rfl
 |m+1,k,i,hi,hk=>by
  obtain⟨k,rfl⟩:=fu hk
  rw[h1 k i (by omega),QY h0 h1 m k (i+1) (by omega) (by omega),bA];rfl
theorem iw{n:Nat}{L:Nat→Int→Option Int}{fin:Option Int}{c:Nat→Int}(hn:n<1000000000)(h0:∀k,L (k+1) (n:Int)=fin)(h1:∀k i,i<n→L (k+1) (i:Int)=ee (c i) (L k ((i+1:Nat):Int))):
  L aH (0:Int)=ee (fe c n 0) fin:=
 QY h0 h1 n aH 0 (by omega) (by rw[aJ];omega)
def lI(p:Nat→Bool)(n:Nat):Bool:=(List.range n).any p
theorem fm{p:Nat→Bool}{n:Nat}:lI p n=true↔∃j,j<n∧p j=true:=by
 unfold lI;rw[List.any_eq_true];simp[List.mem_range]
theorem vU(n:Nat):decide ((n:Int)<(n:Int))=false:=by simp
theorem kG{a b:Bool}(h:a=true↔b=true):a=b:=Bool.eq_iff_iff.2 h
theorem Oa{n:Nat}{L:Nat→Int→Option Int}{p:Nat→Bool}(h0:∀k,L (k+1) (n:Int)=some (-1))(h1:∀k i,i<n→L (k+1) (i:Int)=aj (p i) (some (i:Int)) (L k ((i+1:Nat):Int))):
  ∀m k i,i+m=n→m<k→∃r,L k (i:Int)=some r∧(decide ((0:Int)≤r)=true↔∃j,i≤j∧j<n∧p j=true)
 |0,k,i,hi,hk=>by
  obtain⟨k,rfl⟩:=fu hk
  have:i=n:=by omega
  subst this
  exact⟨-1,h0 k,by simp;intro j h1 h2;omega⟩
 |m+1,k,i,hi,hk=>by
  obtain⟨k,rfl⟩:=fu hk
  rw[h1 k i (by omega)]
  cases hp:p i with
  |true=>exact⟨i,rfl,by simp;exact⟨i,iD _,by omega,hp⟩⟩
  |false=>
   obtain⟨r,e1,e2⟩:=Oa h0 h1 m k (i+1) (by omega) (by omega)
   refine⟨r,e1,e2.trans ⟨fun⟨j,a,b,c⟩=>⟨j,by omega,b,c⟩,fun⟨j,a,b,c⟩=>⟨j,?_,b,c⟩⟩⟩
   by_cases e:j=i
   ·subst e;rw[hp]at c;cases c
   ·omega
theorem Re{n:Nat}{L:Nat→Int→Option Int}{p:Nat→Bool}(hn:n<1000000000)(h0:∀k,L (k+1) (n:Int)=some (-1))(h1:∀k i,i<n→L (k+1) (i:Int)=aj (p i) (some (i:Int)) (L k ((i+1:Nat):Int))):
  ∃r,L aH (0:Int)=some r∧decide ((0:Int)≤r)=lI p n:=by
 obtain⟨r,e1,e2⟩:=Oa h0 h1 n aH 0 (by omega) (by rw[aJ];omega)
 refine⟨r,e1,kG (e2.trans (Iff.trans ?_ fm.symm))⟩
 exact⟨fun⟨j,_,b,c⟩=>⟨j,b,c⟩,fun⟨j,b,c⟩=>⟨j,Nat.zero_le _,b,c⟩⟩
theorem N1{n:Nat}{L:Nat→Int→Option Bool}{p:Nat→Bool}(h0:∀k,L (k+1) (n:Int)=some true)(h1:∀k i,i<n→L (k+1) (i:Int)=aj (p i) (some false) (L k ((i+1:Nat):Int))):
  ∀m k i,i+m=n→m<k→∃b,L k (i:Int)=some b∧(b=true↔∀j,i≤j→j<n→p j=false)
 |0,k,i,hi,hk=>by
  obtain⟨k,rfl⟩:=fu hk
  have:i=n:=by omega
  subst this
  exact⟨true,h0 k,by simp;intro j h1 h2;omega⟩
 |m+1,k,i,hi,hk=>by
  obtain⟨k,rfl⟩:=fu hk
  rw[h1 k i (by omega)]
  cases hp:p i with
  |true=>
   refine⟨false,rfl,by simp;exact⟨i,iD _,by omega,hp⟩⟩
  |false=>
   obtain⟨b,e1,e2⟩:=N1 h0 h1 m k (i+1) (by omega) (by omega)
   refine⟨b,e1,e2.trans ⟨fun h j a b=> ?_,fun h j a b=>h j (by omega) b⟩⟩
   by_cases e:j=i
   ·subst e;exact hp
   ·exact h j (by omega) b
def Uc(p:Nat→Bool)(n:Nat):Bool:= !lI p n
theorem JH{p:Nat→Bool}{n:Nat}:Uc p n=true↔∀j,j<n→p j=false:=by
 unfold Uc
 rw[Bool.not_eq_true',←Bool.not_eq_true,fm]
 constructor
 ·intro h j b
  cases hp:p j with
  |false=>rfl
  |true=>exact absurd ⟨j,b,hp⟩ h
 ·rintro h ⟨j,b,c⟩
  rw[h j b]at c;cases c
theorem Ft{n:Nat}{L:Nat→Int→Option Bool}{p:Nat→Bool}(hn:n<1000000000)(h0:∀k,L (k+1) (n:Int)=some true)(h1:∀k i,i<n→L (k+1) (i:Int)=aj (p i) (some false) (L k ((i+1:Nat):Int))):
  L aH (0:Int)=some (Uc p n):=by
 obtain⟨b,e1,e2⟩:=N1 h0 h1 n aH 0 (by omega) (by rw[aJ];omega)
 rw[show((0:Nat):Int)=0 from rfl]at e1
 rw[e1]
 congr 1
 refine kG (e2.trans (Iff.trans ?_ JH.symm))
 exact⟨fun h j b=>h j (Nat.zero_le _) b,fun h j _ b=>h j b⟩
theorem tq{α:Type}{xs:List α}{i:Nat}(h:i<xs.length)(h0:0<i)(hn:xs.length<1000000000):at? xs (i64.wrap ((i:Int)-1))=some (xs[i-1]'(by omega)):=by
 rw[jQ (by omega) (by omega),show((i:Int)-1)=((i-1:Nat):Int) by omega]
 exact aD (by omega)
theorem ld{n:Nat}(hn:n<1000000000):i64.wrap ((n:Int)-1)=(n:Int)-1:=jQ (by omega) (by omega)
end Go.Proofs.YtpiohnabdhpphaaGreatDoor
namespace Go.Proofs.YtpiohnabdhpphaaGreatDoor
open Go Go.SX Go.SX.Cal Go.Lib
open Go.IntKind (i64)
def zP:ByteArray:=ByteArray.mk #[95,45,46,47]
def sign(n:Nat):Bool:=n==95||n==45||n==46||n==47
def NC(n:Nat):Bool:=uv n||(decide (48≤n)&&decide (n≤57))||sign n
theorem YX:∀n:Fin 128,decide (Lib.indexByte [95,45,46,47] (n.val:Int).toNat.toUInt8<0)= !sign n.val:=by decide
theorem Oy:∀(l:List UInt8) (c:UInt8),(∀b∈l,b≠c)→Lib.indexByte l c= -1
 |[],_,_=>rfl
 |b::l,c,h=>by
  have h1:(b==c)=false:=by simp[h b (by simp)]
  rw[Lib.indexByte,h1,if_neg (by decide),Oy l c fun x hx=>h x (by simp[hx])]
  rfl
theorem Ur(n:Nat):lM (n:Int)=some (Utf8.valid (n:Int)):=by
 unfold lM jS jU Utf8.valid
 by_cases h1:n<55296
 ·have:(0:Int)≤(n:Int):=by omega
  simp[aC,this,h1,show(n:Int)<55296 by omega]
 ·by_cases h2:57344≤n
  ·by_cases h3:n≤1114111
   ·simp[aC,show¬(n:Int)<55296 by omega,show(57343:Int)<n by omega,show(n:Int)≤1114111 by omega,show(57344:Int)≤n by omega]
   ·simp[aC,show¬(n:Int)<55296 by omega,show(57343:Int)<n by omega,show¬(n:Int)≤1114111 by omega]
  ·simp[aC,show¬(n:Int)<55296 by omega,show¬(57343:Int)<n by omega,show¬(57344:Int)≤n by omega]
theorem Sw:∀b∈zP.data.toList,b.toNat<128:=by decide
theorem ZI(b:ByteArray)(i:Nat)(h:i<b.size):b.data.toList.getD i 0=b[i]'h:=by
 have hd:i<b.data.toList.length:=by rw[Array.length_toList];exact h
 rw[List.getD_eq_getElem?_getD,dJ hd]
 rfl
theorem Xn(E:ByteArray)(n k:Nat)(z:Nat)(hz:E.size=z)(f1:2≤z)(f2:z≤4)(f4:128≤(E.data.toList.getD (z-1) 0).toNat)(he:Utf8.encode (n:Int)=E):iW zP (n:Int) (k+1)=some (-1):=by
 rw[iW.eq_2,he]
 clear he
 have hw:i64.wrap ((z:Int)-1)=((z-1:Nat):Int):=by rw[jQ (by omega) (by omega)];omega
 have hin:∀j,j<4→(zP.data.toList.getD j 0).toNat<128:=by decide
 simp only[hz,hw]
 rw[bS,decide_eq_true (show((z-1:Nat):Int)<(zP.size:Int) by show _<(4:Int);omega),iT,gP ⟨by omega,by show _<(4:Int);omega⟩,bS,gP ⟨by omega,by omega⟩,bS]
 have ht:((z-1:Nat):Int).toNat=z-1:=by omega
 rw[ht]
 have hne:(((zP.data.toList.getD (z-1) 0).toNat:Int) != ((E.data.toList.getD (z-1) 0).toNat:Int))=true:=by
  have a:=hin (z-1) (by omega)
  rw[bne_iff_ne];omega
 rw[hne,iT]
 have hw2:i64.wrap (((z-1:Nat):Int)+1)=(z:Int):=by rw[jQ (by omega) (by omega)];omega
 rw[bS,hw2,gP ⟨by omega,by show _≤(4:Int);omega,Int.le_refl _⟩,gP ⟨by omega,by omega⟩,bS]
 unfold strings_IndexByte
 rw[Oy _ _ fun b hb e=> ?_]
 ·rfl
 ·have hb':b∈zP.data.toList:=by
   have:b∈(zP.extract z 4).data.toList:=hb
   rw[ByteArray.data_extract,Array.toList_extract]at this
   exact List.mem_of_mem_drop (List.mem_of_mem_take this)
  have h1:=Sw b hb'
  have h2:((E.data.toList.getD (z-1) 0).toNat:Int).toNat.toUInt8=E.data.toList.getD (z-1) 0:=by
   rw[Int.toNat_natCast];simp
  rw[h2]at e
  rw[e]at h1
  omega
theorem aam(n k:Nat)(h:128≤n)(hv:Utf8.valid (n:Int)=true):iW zP (n:Int) (k+1)=some (-1):=by
 obtain⟨f1,f2,f3⟩:=encode_facts (n:Int) hv (by omega)
 have f3:=f3 (by omega)
 obtain⟨z,hz⟩:∃z,(Utf8.encode (n:Int)).size=z:=⟨_,rfl⟩
 have f4:128≤((Utf8.encode (n:Int)).data.toList.getD (z-1) 0).toNat:=by
  subst hz
  rw[ZI _ _ (by omega)]
  exact f3
 rw[hz]at f1 f2
 exact Xn _ n k z hz f1 f2 f4 rfl
theorem aaE(n:Nat)(h:128≤n):fi zP (n:Int)=some (-1):=by
 unfold fi kM
 rw[decide_eq_true (show(0:Int)≤n by omega),iT,decide_eq_false (show¬(n:Int)<128 by omega),iF]
 by_cases h1:n=65533
 ·subst h1
  rw[show(((65533:Nat):Int)==65533)=true from rfl,iT]
  show kQ zP (1152921504606846971+5) 0=_
  generalize 1152921504606846971=k
  rfl
 ·rw[show((n:Int)==65533)=false by simp;omega,iF,Ur,bS]
  cases hv:Utf8.valid (n:Int)with
  |false=>rfl
  |true=>
   rw[Bool.not_true,iF,Hf]
   exact aam n _ h hv
theorem aao(n:Nat):∃r,fi zP (n:Int)=some r∧decide (r<0)= !sign n:=by
 by_cases h:n<128
 ·unfold fi kM strings_IndexByte
  rw[decide_eq_true (show(0:Int)≤n by omega),iT,decide_eq_true (show(n:Int)<128 by omega),iT,bS]
  refine⟨_,rfl,?_⟩
  have hw:IntKind.u8.wrap (n:Int)=(n:Int):=by
   unfold IntKind.wrap
   simp[IntKind.bits,IntKind.signed]
   omega
  rw[hw]
  exact YX ⟨n,h⟩
 ·refine⟨-1,aaE n (by omega),?_⟩
  simp[sign];omega
theorem XB(n:Nat):o6 (Int.ofNat n)=some (!NC n):=by
 obtain⟨r,h1,h2⟩:=aao n
 have h1:fi (ByteArray.mk #[95,45,46,47]) (Int.ofNat n)=some r:=h1
 unfold o6 dS
 rw[h1]
 simp only[bS,h2,aC,decide_eq_true_eq,Int.ofNat_eq_natCast]
 generalize hs:sign n=s
 unfold NC uv
 rw[hs]
 repeat' split
 all_goals (rw[eh,Bool.eq_iff_iff];cases s<;>simp<;>omega)
def Jr(s:ByteArray)(i:Nat):Bool:= !NC (m9 s i)
theorem aaw(s:ByteArray):∀k i,i≤s.size→s.size-i<k→∃r,bX s true k i=some r∧(decide (0≤r)=(first (Jr s) i s.size).isSome):=by
 intro k
 induction k with
 |zero=>intro i _ h;omega
 |succ k ih=>
  intro i hi hk
  rw[bX]
  by_cases h:i=s.size
  ·subst h
   rw[uh]
   simp only[Nat.lt_irrefl,decide_false,ah]
   exact⟨-1,rfl,rfl⟩
  ·have hlt:i<s.size:=by omega
   simp only[hlt,decide_true,ap,XB,az]
   rw[ua hlt]
   by_cases hb:m9 s i<128
   ·rw[Hp s i hlt hb]
    simp only[Jr]
    by_cases hg:NC (m9 s i)=true
    ·simp only[hg,Bool.not_true,aC]
     obtain⟨r,h1,h2⟩:=ih (i+1) (by omega) (by omega)
     exact⟨r,by simpa using h1,by simpa [Jr]using h2⟩
    ·simp only[hg,Bool.not_false,aC]
     exact⟨_,rfl,by simp⟩
   ·have h1:=HG s i hlt hb
    have g1:NC (Utf8.decode s i).1=false:=by
     generalize (Utf8.decode s i).1=x at h1
     simp[NC,uv,sign];omega
    have g2:Jr s i=true:=by
     simp[Jr,NC,uv,sign];omega
    simp only[g1,g2,Bool.not_false,aC]
    exact⟨_,rfl,by simp⟩
def Pd(s:ByteArray):Bool:=decide (1≤s.size)&&decide (s.size≤64)&&(first (Jr s) 0 s.size).isNone
theorem ad4(s:ByteArray)(hs:s.size<1000000000):rN s=some (Pd s):=by
 obtain⟨r,h1,h2⟩:=aaw s aH 0 (Nat.zero_le _) (by rw[aJ];omega)
 unfold rN og fw gi gh Pd
 rw[h1,bS,bS,bS,h2]
 by_cases z0:s.size<1
 ·simp[aC,z0,show(s.size:Int)<1 by omega]
  omega
 ·by_cases z1:64<s.size
  ·simp[aC,z0,show¬(s.size:Int)<1 by omega,show(64:Int)<s.size by omega]
   omega
  ·simp only[aC,show¬(s.size:Int)<1 by omega,show¬(64:Int)<s.size by omega,decide_false,Bool.false_eq_true,if_false,show 1≤s.size by omega,show s.size≤64 by omega,decide_true,Bool.true_and]
   cases first (Jr s) 0 s.size<;>rfl
theorem Vl(s:ByteArray)(hs:s.size<1000000000)(k i:Nat)(hi:i<s.size):bj s (k+1) (i:Int)=if Jr s i=true then some false else bj s k ((i+1:Nat):Int):=by
 rw[bj,←aC]
 have hb:((s.data.toList.getD (i:Int).toNat 0).toNat:Int)=(m9 s i:Int):=rfl
 have hw:i64.wrap ((i:Int)+1)=((i+1:Nat):Int):=by rw[jQ (by omega) (by omega)];omega
 have hg:0≤(i:Int)∧(i:Int)<(s.size:Int):=by omega
 rw[show decide ((i:Int)<(s.size:Int))=true by simp[hg.2],ap]
 simp only[cg,zX,hb,hw,az,bf hg]
 have e1:((m9 s i:Int)==95)=(m9 s i==95):=by rw[Bool.eq_iff_iff];simp;omega
 have e2:(decide ((97:Int)≤m9 s i))=decide (97≤m9 s i):=by rw[Bool.eq_iff_iff];simp;omega
 have e3:(decide ((m9 s i:Int)≤122))=decide (m9 s i≤122):=by rw[Bool.eq_iff_iff];simp;omega
 have e4:(decide ((48:Int)≤m9 s i))=decide (48≤m9 s i):=by rw[Bool.eq_iff_iff];simp;omega
 have e5:(decide ((m9 s i:Int)≤57))=decide (m9 s i≤57):=by rw[Bool.eq_iff_iff];simp;omega
 have e6:((m9 s i:Int)==46)=(m9 s i==46):=by rw[Bool.eq_iff_iff];simp;omega
 have e7:((m9 s i:Int)==45)=(m9 s i==45):=by rw[Bool.eq_iff_iff];simp;omega
 have e8:((m9 s i:Int)==47)=(m9 s i==47):=by rw[Bool.eq_iff_iff];simp;omega
 simp only[e1,e2,e3,e4,e5,e6,e7,e8,Jr,NC,uv,sign]
 generalize hq:bj s k ((i+1:Nat):Int)=q
 generalize (m9 s i==95)=b1
 generalize decide (97≤m9 s i)=b2
 generalize decide (m9 s i≤122)=b3
 generalize decide (48≤m9 s i)=b4
 generalize decide (m9 s i≤57)=b5
 generalize (m9 s i==46)=b6
 generalize (m9 s i==45)=b7
 generalize (m9 s i==47)=b8
 cases b1<;>cases b2<;>cases b3<;>cases b4<;>cases b5<;>cases b6<;>cases b7<;>cases b8<;>rfl
theorem adH(s:ByteArray)(hs:s.size<1000000000):AH s=some (Pd s):=by
 have hl:=tW (f:=fun k i=>bj s k (i:Int)) (n:=s.size) (P:=Jr s) (A:=fun _=>some false) (B:=some true) (fun k i hi=>Vl s hs k i hi)
  (fun k=>by rw[bj];simp only[Int.lt_irrefl,decide_false,ah];rfl) aH 0 (Nat.zero_le _) (by rw[aJ];omega)
 have hl:bj s aH (0:Int)=_:=hl
 unfold AH vB Pd
 rw[hl]
 by_cases z0:s.size<1
 ·simp[aC,z0,show(s.size:Int)<1 by omega]
  omega
 ·by_cases z1:64<s.size
  ·simp[aC,z0,show¬(s.size:Int)<1 by omega,show(64:Int)<s.size by omega]
   omega
  ·simp only[aC,show¬(s.size:Int)<1 by omega,show¬(64:Int)<s.size by omega,decide_false,Bool.false_eq_true,if_false,show 1≤s.size by omega,show s.size≤64 by omega,decide_true,Bool.true_and]
   cases first (Jr s) 0 s.size<;>rfl
end Go.Proofs.YtpiohnabdhpphaaGreatDoor
namespace Go.Proofs.YtpiohnabdhpphaaGreatDoor.Ord
open Go Go.SX Go.SX.Cal
open Go.IntKind (i64)
theorem ap{β:Type}(x y:Option β):aj true x y=x:=rfl
theorem ah{β:Type}(x y:Option β):aj false x y=y:=rfl
theorem aC{β:Type}(b:Bool)(x y:Option β):aj b x y=if b=true then x else y:=by cases b<;>rfl
theorem aJ:aH=1152921504606846976:=rfl
theorem wu{x:Int}:IntKind.u64.wrap x=x%18446744073709551616:=by
 simp only[IntKind.wrap,IntKind.bits,IntKind.signed]
 simp
structure W4(w:bq):Prop where
 a0:0≤w.size.1
 a1:w.size.1<18446744073709551616
 b0:0≤w.size.2.1
 b1:w.size.2.1<18446744073709551616
 c0:0≤w.size.2.2.1
 c1:w.size.2.2.1<18446744073709551616
 d0:0≤w.size.2.2.2
 d1:w.size.2.2.2<18446744073709551616
def val(w:bq):Int:=w.size.1+w.size.2.1*18446744073709551616+w.size.2.2.1*340282366920938463463374607431768211456+w.size.2.2.2*6277101735386680763835789423207666416102355444464034512896
theorem EN{x:Int}(h0:0≤x)(h1:x<18446744073709551616):((BitVec.ofInt (IntKind.u64).bits x &&& BitVec.ofInt (IntKind.u64).bits (4294967295:Int)).toNat:Int)=x%4294967296:=by
 have e:(BitVec.ofInt 64 x).toNat=x.toNat:=by
  rw[BitVec.toNat_ofInt]
  have:x%((2^64:Nat):Int)=x:=by omega
  rw[this]
 have hand:(BitVec.ofInt 64 x &&& BitVec.ofInt 64 (4294967295:Int)).toNat=x.toNat%4294967296:=by
  rw[BitVec.toNat_and,e]
  have:(BitVec.ofInt 64 (4294967295:Int)).toNat=2^32-1:=by decide
  rw[this,Nat.and_two_pow_sub_one_eq_mod]
 show((BitVec.ofInt 64 x &&& BitVec.ofInt 64 (4294967295:Int)).toNat:Int)=_
 rw[hand]
 omega
theorem Ze(x:Int):x.fdiv (2^(min (32:Int).toNat (IntKind.u64).bits))=x/4294967296:=by
 have:(2:Int)^(min (32:Int).toNat (IntKind.u64).bits)=4294967296:=by decide
 rw[this,Int.fdiv_eq_ediv_of_nonneg _ (by decide)]
theorem IQ{x:Int}(h0:0≤x)(h1:x<18446744073709551616):x%18446744073709551616=x:=Int.emod_eq_of_lt h0 h1
theorem prod_bound{a b:Int}(a0:0≤a)(a1:a<4294967296)(b0:0≤b)(b1:b<4294967296):0≤a*b∧a*b≤18446744065119617025:=by
 refine⟨Int.mul_nonneg a0 b0,?_⟩
 have h1:a*b≤4294967295*b:=Int.mul_le_mul_of_nonneg_right (by omega) b0
 omega
theorem Mr(p11 cj p01 p00:Int)(h11:0≤p11∧p11≤18446744065119617025)(h10:0≤cj∧cj≤18446744065119617025)(h01:0≤p01∧p01≤18446744065119617025)(h00:0≤p00∧p00≤18446744065119617025):
  p11+(cj+p00/4294967296)/4294967296+((cj+p00/4294967296)%4294967296+p01)/4294967296=(p11*18446744073709551616+(cj+p01)*4294967296+p00)/18446744073709551616:=by
 omega
theorem Ct{x y:Int}(h0:0≤x)(h1:x<18446744073709551616)(k0:0≤y)(k1:y<18446744073709551616):iE x y=some (x*y/18446744073709551616,x*y%18446744073709551616):=by
 unfold iE
 simp only[az,Ze]
 rw[EN h0 h1,EN k0 k1]
 simp only[wu]
 have hx0:0≤x%4294967296∧x%4294967296<4294967296:=by omega
 have hx1:0≤x/4294967296∧x/4294967296<4294967296:=by omega
 have hy0:0≤y%4294967296∧y%4294967296<4294967296:=by omega
 have hy1:0≤y/4294967296∧y/4294967296<4294967296:=by omega
 have ex:x=x/4294967296*4294967296+x%4294967296:=by omega
 have ey:y=y/4294967296*4294967296+y%4294967296:=by omega
 have exy:x*y=(x/4294967296*(y/4294967296))*18446744073709551616+(x/4294967296*(y%4294967296)+x%4294967296*(y/4294967296))*4294967296+x%4294967296*(y%4294967296):=by
  generalize x/4294967296=x1 at*
  generalize x%4294967296=x0 at*
  generalize y/4294967296=y1 at*
  generalize y%4294967296=y0 at*
  rw[ex,ey]
  simp only[Int.add_mul,Int.mul_add]
  have e1:x1*4294967296*(y1*4294967296)=x1*y1*18446744073709551616:=by
   rw[Int.mul_assoc,Int.mul_left_comm 4294967296 y1,←Int.mul_assoc];rfl
  have e2:x1*4294967296*y0=x1*y0*4294967296:=by rw[Int.mul_assoc,Int.mul_comm 4294967296,←Int.mul_assoc]
  have e3:x0*(y1*4294967296)=x0*y1*4294967296:=by rw[Int.mul_assoc]
  rw[e1,e2,e3];omega
 have b11:=prod_bound hx1.1 hx1.2 hy1.1 hy1.2
 have b10:=prod_bound hx1.1 hx1.2 hy0.1 hy0.2
 have b01:=prod_bound hx0.1 hx0.2 hy1.1 hy1.2
 have b00:=prod_bound hx0.1 hx0.2 hy0.1 hy0.2
 rw[IQ (x:=x%4294967296) (by omega) (by omega),IQ (x:=y%4294967296) (by omega) (by omega)]
 have L:=Mr _ _ _ _ b11 b10 b01 b00
 rw[exy]
 generalize x/4294967296*(y/4294967296)=p11 at*
 generalize x/4294967296*(y%4294967296)=cj at*
 generalize x%4294967296*(y/4294967296)=p01 at*
 generalize x%4294967296*(y%4294967296)=p00 at*
 rw[IQ (x:=cj) (by omega) (by omega),IQ (x:=p00) (by omega) (by omega),IQ (x:=p01) (by omega) (by omega),IQ (x:=p11) (by omega) (by omega),IQ (x:=cj+p00/4294967296) (by omega) (by omega)]
 rw[EN (x:=cj+p00/4294967296) (by omega) (by omega)]
 rw[IQ (x:=(cj+p00/4294967296)%4294967296) (by omega) (by omega),IQ (x:=(cj+p00/4294967296)%4294967296+p01) (by omega) (by omega)]
 rw[IQ (x:=p11+(cj+p00/4294967296)/4294967296) (by omega) (by omega),IQ (x:=p11+(cj+p00/4294967296)/4294967296+((cj+p00/4294967296)%4294967296+p01)/4294967296) (by omega) (by omega),L]
theorem rU{x n c:Int}(h0:0≤x)(h1:x<18446744073709551616)(n0:0≤n)(n1:n<18446744073709551616)(c0:0≤c)(c1:c<18446744073709551616):
  (x*n/18446744073709551616+(x*n%18446744073709551616+c)/18446744073709551616)%18446744073709551616=(x*n+c)/18446744073709551616∧(x*n%18446744073709551616+c)%18446744073709551616=(x*n+c)%18446744073709551616∧0≤(x*n+c)/18446744073709551616∧(x*n+c)/18446744073709551616<18446744073709551616:=by
 have hp:0≤x*n:=Int.mul_nonneg h0 n0
 have hq:x*n≤18446744073709551615*n:=Int.mul_le_mul_of_nonneg_right (by omega) n0
 have hq2:(18446744073709551615:Int)*n≤18446744073709551615*18446744073709551615:=Int.mul_le_mul_of_nonneg_left (by omega) (by decide)
 have hb:x*n≤340282366920938463426481119284349108225:=by
  refine Int.le_trans hq (Int.le_trans hq2 (by decide))
 generalize x*n=p at*
 omega
theorem Ja{w:bq}{n:Int}(h:W4 w)(n0:0≤n)(n1:n<18446744073709551616)(hv:val w*n<115792089237316195423570985008687907853269984665640564039457584007913129639936):
  ∃w',dk w n=some w'∧W4 w'∧val w'=val w*n∧w'.neg=w.neg:=by
 obtain⟨neg,x0,x1,x2,x3⟩:=w
 obtain⟨a0,a1,b0,b1,c0,c1,d0,d1⟩:=h
 simp only at a0 a1 b0 b1 c0 c1 d0 d1
 unfold dk
 simp only
 rw[Ct a0 a1 n0 n1,Ct b0 b1 n0 n1,Ct c0 c1 n0 n1,Ct d0 d1 n0 n1]
 simp only[az,wu]
 have hval:val ⟨neg,x0,x1,x2,x3⟩*n=x0*n+x1*n*18446744073709551616+x2*n*340282366920938463463374607431768211456+x3*n*6277101735386680763835789423207666416102355444464034512896:=by
  unfold val
  simp only[Int.add_mul]
  rw[Int.mul_right_comm x1,Int.mul_right_comm x2,Int.mul_right_comm x3]
 rw[hval]at hv⊢
 obtain⟨p1,p2,p3,p4⟩:=rU (c:=0) a0 a1 n0 n1 (by decide) (by decide)
 simp only[Int.add_zero]at p1 p2 p3 p4⊢
 rw[p1,p2]
 generalize hc1:x0*n/18446744073709551616=k1 at*
 obtain⟨q1,q2,q3,q4⟩:=rU (c:=k1) b0 b1 n0 n1 p3 p4
 rw[q1,q2]
 generalize hc2:(x1*n+k1)/18446744073709551616=k2 at*
 obtain⟨r1,r2,r3,r4⟩:=rU (c:=k2) c0 c1 n0 n1 q3 q4
 rw[r1,r2]
 generalize hc3:(x2*n+k2)/18446744073709551616=k3 at*
 obtain⟨s1,s2,s3,s4⟩:=rU (c:=k3) d0 d1 n0 n1 r3 r4
 rw[s2]
 have e0:=Int.mul_nonneg a0 n0
 have e1:=Int.mul_nonneg b0 n0
 have e2:=Int.mul_nonneg c0 n0
 have e3:=Int.mul_nonneg d0 n0
 clear p1 p2 q1 q2 r1 r2 s1 s2
 generalize x0*n=P0 at*
 generalize x1*n=P1 at*
 generalize x2*n=P2 at*
 generalize x3*n=P3 at*
 rw[bf (by omega),bf (by omega),bf (by omega),bf (by omega)]
 refine⟨_,rfl,⟨by simp only;omega,by simp only;omega,by simp only;omega,by simp only;omega,by simp only;omega,by simp only;omega,by simp only;omega,by simp only;omega⟩,?_,rfl⟩
 simp only[val]
 have f0:P0=k1*18446744073709551616+P0%18446744073709551616:=by omega
 have f1:P1+k1=k2*18446744073709551616+(P1+k1)%18446744073709551616:=by omega
 have f2:P2+k2=k3*18446744073709551616+(P2+k2)%18446744073709551616:=by omega
 have f3:P3+k3=(P3+k3)/18446744073709551616*18446744073709551616+(P3+k3)%18446744073709551616:=by omega
 have z:(P3+k3)/18446744073709551616=0:=by
  generalize P0%18446744073709551616=m0 at*
  generalize (P1+k1)%18446744073709551616=m1 at*
  generalize (P2+k2)%18446744073709551616=m2 at*
  omega
 rw[z]at f3
 generalize P0%18446744073709551616=m0 at*
 generalize (P1+k1)%18446744073709551616=m1 at*
 generalize (P2+k2)%18446744073709551616=m2 at*
 generalize (P3+k3)%18446744073709551616=m3 at*
 omega
def cj:Nat→Int
 |0=>1
 |k+1=>cj k*10
theorem vC:∀k,1≤cj k
 |0=>by decide
 |k+1=>by have:=vC k;simp only[cj];omega
theorem MT{d:Int}(hd:d≤100):∀(j k:Nat) (neg:Bool) (x0 x1 x2 x3:Int) (i:Int),W4 ⟨neg,x0,x1,x2,x3⟩→val ⟨neg,x0,x1,x2,x3⟩*cj j<115792089237316195423570985008687907853269984665640564039457584007913129639936→0≤val ⟨neg,x0,x1,x2,x3⟩→0≤i→i+j=d→j<k→
  ∃w',cN d k neg x0 x1 x2 x3 i=some w'∧W4 w'∧val w'=val ⟨neg,x0,x1,x2,x3⟩*cj j∧w'.neg=neg:=by
 intro j
 induction j with
 |zero=>
  intro k neg x0 x1 x2 x3 i hw hv hv0 hi hij hk
  match k,hk with
  |k+1,hk=>
   rw[cN,show decide (i<d)=false by simp;omega,ah]
   exact⟨_,rfl,hw,by simp[cj],rfl⟩
 |succ j ih=>
  intro k neg x0 x1 x2 x3 i hw hv hv0 hi hij hk
  match k,hk with
  |k+1,hk=>
   rw[cN,show decide (i<d)=true by simp;omega,ap]
   have hp:=vC j
   have hstep:val ⟨neg,x0,x1,x2,x3⟩*cj (j+1)=val ⟨neg,x0,x1,x2,x3⟩*10*cj j:=by
    simp only[cj];rw[Int.mul_comm (cj j) 10,Int.mul_assoc]
   have hle:val ⟨neg,x0,x1,x2,x3⟩*10*1≤val ⟨neg,x0,x1,x2,x3⟩*10*cj j:=Int.mul_le_mul_of_nonneg_left hp (by omega)
   obtain⟨w1,h1,h2,h3,h4⟩:=Ja hw (show(0:Int)≤10 by decide) (by decide) (by rw[hstep]at hv;omega)
   rw[h1]
   simp only[az]
   obtain⟨n1,y0,y1,y2,y3⟩:=w1
   simp only at h4⊢
   subst h4
   rw[jQ (by omega) (by omega)]
   obtain⟨w2,g1,g2,g3,g4⟩:=ih k n1 y0 y1 y2 y3 (i+1) h2 (by rw[h3,←hstep];exact hv) (by rw[h3];omega) (by omega) (by omega) (by omega)
   exact⟨w2,g1,g2,by rw[g3,h3,hstep],g4⟩
theorem LH{n d:Int}(h1: -9223372036854775808≤n)(h2:n≤9223372036854775807)(d0:0≤d)(d1:d≤12):
  ∃w,lQ n d=some w∧W4 w∧val w=(if n<0 then -n else n)*cj d.toNat∧w.neg=decide (n<0)∧val w<57896044618658097711785492504343953926634992332820282019728792003956564819968:=by
 have hp:cj d.toNat≤1000000000000:=by
  have hc:d=0∨d=1∨d=2∨d=3∨d=4∨d=5∨d=6∨d=7∨d=8∨d=9∨d=10∨d=11∨d=12:=by omega
  rcases hc with rfl|rfl|rfl|rfl|rfl|rfl|rfl|rfl|rfl|rfl|rfl|rfl|rfl<;>decide
 have hp1:=vC d.toNat
 have key:∀(neg:Bool) (a:Int),0≤a→a≤9223372036854775808→∃w,iQ ⟨neg,a,0,0,0⟩ d=some w∧W4 w∧val w=a*cj d.toNat∧w.neg=neg∧val w<57896044618658097711785492504343953926634992332820282019728792003956564819968:=by
  intro neg a a0 a1
  have hv:val ⟨neg,a,0,0,0⟩=a:=by simp[val]
  have hb:a*cj d.toNat≤9223372036854775808*1000000000000:=by
   refine Int.le_trans (Int.mul_le_mul_of_nonneg_right a1 (by omega)) (Int.mul_le_mul_of_nonneg_left hp (by decide))
  have hb2:a*cj d.toNat≤9223372036854775808000000000000:=Int.le_trans hb (by decide)
  unfold iQ
  obtain⟨w,g1,g2,g3,g4⟩:=MT (d:=d) (by omega) d.toNat aH neg a 0 0 0 0 ⟨a0,by simp only;omega,by simp,by simp,by simp,by simp,by simp,by simp⟩ (by rw[hv];omega) (by rw[hv];exact a0) (by decide) (by omega) (by rw[aJ];omega)
  exact⟨w,g1,g2,by rw[g3,hv],g4,by rw[g3,hv];omega⟩
 unfold lQ nL
 by_cases hn:n<0
 ·rw[show decide (n<0)=true by simpa using hn,ap]
  simp only[az,wu]
  have e:(0-n%18446744073709551616)%18446744073709551616= -n:=by omega
  rw[e]
  obtain⟨w,g1,g2,g3,g4,g5⟩:=key true (-n) (by omega) (by omega)
  rw[g1]
  simp only[az]
  exact⟨_,rfl,g2,by rw[if_pos hn];exact g3,g4,g5⟩
 ·rw[show decide (n<0)=false by simpa using hn,ah]
  simp only[az,wu]
  rw[IQ (by omega) (by omega)]
  obtain⟨w,g1,g2,g3,g4,g5⟩:=key false n (by omega) (by omega)
  rw[g1]
  simp only[az]
  exact⟨_,rfl,g2,by rw[if_neg hn];exact g3,g4,g5⟩
def c3(a b:Int):Int:=if a<b then -1 else if b<a then 1 else 0
def sv(w:bq):Int:=if w.neg=true then -val w else val w
theorem Jv{a b:bq}(ha:W4 a)(hb:W4 b):hU a b=some (c3 (val a) (val b)):=by
 obtain⟨n,x0,x1,x2,x3⟩:=a
 obtain⟨m,y0,y1,y2,y3⟩:=b
 obtain⟨a0,a1,b0,b1,c0,c1,d0,d1⟩:=ha
 obtain⟨e0,e1,f0,f1,g0,g1,h0,h1⟩:=hb
 simp only at*
 unfold hU
 simp only[aC,decide_eq_true_eq]
 unfold c3 val
 simp only
 by_cases q3:x3<y3
 ·rw[if_pos q3,if_pos (by omega)]
 rw[if_neg q3]
 by_cases q3':y3<x3
 ·rw[if_pos q3',if_neg (by omega),if_pos (by omega)]
 rw[if_neg q3']
 by_cases q2:x2<y2
 ·rw[if_pos q2,if_pos (by omega)]
 rw[if_neg q2]
 by_cases q2':y2<x2
 ·rw[if_pos q2',if_neg (by omega),if_pos (by omega)]
 rw[if_neg q2']
 by_cases q1:x1<y1
 ·rw[if_pos q1,if_pos (by omega)]
 rw[if_neg q1]
 by_cases q1':y1<x1
 ·rw[if_pos q1',if_neg (by omega),if_pos (by omega)]
 rw[if_neg q1']
 by_cases q0:x0<y0
 ·rw[if_pos q0,if_pos (by omega)]
 rw[if_neg q0]
 by_cases q0':y0<x0
 ·rw[if_pos q0',if_neg (by omega),if_pos (by omega)]
 rw[if_neg q0',if_neg (by omega),if_neg (by omega)]
def xq(w:bq):Prop:=w.size.1=0∧w.size.2.1=0∧w.size.2.2.1=0∧w.size.2.2.2=0
instance(w:bq):Decidable (xq w):=by unfold xq;infer_instance
theorem Gp(n m:Bool)(h:¬n=m):(!(n==m))=true∧(!m)=n:=by revert h;cases n<;>cases m<;>simp
theorem XZ(w:bq):tB w=some (decide (xq w)):=by
 unfold tB xq
 simp only[az]
 congr 1
 by_cases h1:w.size.1=0<;>by_cases h2:w.size.2.1=0<;>by_cases h3:w.size.2.2.1=0<;>by_cases h4:w.size.2.2.2=0<;>simp[h1,h2,h3,h4]
theorem QR{b1 b6:Bool}{x0 x1 x2 x3 y0 y1 y2 y3:Int}(ha:W4 ⟨b1,x0,x1,x2,x3⟩)(hb:W4 ⟨b6,y0,y1,y2,y3⟩):
  ∃w,fR b1 x0 x1 x2 x3 b6 y0 y1 y2 y3=some w∧w.neg=b1∧(xq w↔val ⟨b1,x0,x1,x2,x3⟩=val ⟨b6,y0,y1,y2,y3⟩):=by
 obtain⟨a0,a1,b0,b1',c0,c1,d0,d1⟩:=ha
 obtain⟨e0,e1,f0,f1,g0,g1,h0,h1⟩:=hb
 simp only at*
 unfold fR
 simp only[az,Int.add_zero,Int.sub_zero]
 have hk:∀(p:Prop) [Decidable p],0≤(if p then(1:Int)else 0)∧(if p then(1:Int)else 0)≤1:=by
  intro p _;split<;>omega
 have k1:=hk (x0<y0)
 have e0':(if x0<y0 then(1:Int)else 0)=0↔¬x0<y0:=by split<;>simp_all
 generalize (if x0<y0 then(1:Int)else 0)=u1 at*
 have k2:=hk (x1<y1+u1)
 have e1':(if x1<y1+u1 then(1:Int)else 0)=0↔¬x1<y1+u1:=by split<;>simp_all
 generalize (if x1<y1+u1 then(1:Int)else 0)=u2 at*
 have k3:=hk (x2<y2+u2)
 have e2':(if x2<y2+u2 then(1:Int)else 0)=0↔¬x2<y2+u2:=by split<;>simp_all
 generalize (if x2<y2+u2 then(1:Int)else 0)=u3 at*
 rw[bf (by omega),bf (by omega),bf (by omega),bf (by omega)]
 refine⟨_,rfl,rfl,?_⟩
 simp only[xq,val]
 constructor
 ·rintro⟨z0,z1,z2,z3⟩
  have q0:x0=y0:=by omega
  have q1:u1=0:=by rw[e0'];omega
  have q2:x1=y1:=by omega
  have q3:u2=0:=by rw[e1'];omega
  have q4:x2=y2:=by omega
  have q5:u3=0:=by rw[e2'];omega
  have q6:x3=y3:=by omega
  omega
 ·intro hv
  have q3:x3=y3:=by omega
  have q2:x2=y2:=by omega
  have q1:x1=y1:=by omega
  have q0:x0=y0:=by omega
  have r1:u1=0:=by rw[e0'];omega
  have r2:u2=0:=by rw[e1'];omega
  have r3:u3=0:=by rw[e2'];omega
  subst q0 q1 q2 q3 r1 r2 r3
  simp
theorem Sq{k:Nat}{b:Bool}{x0 x1 x2 x3 y0 y1 y2 y3:Int}(ha:W4 ⟨b,x0,x1,x2,x3⟩)(hb:W4 ⟨b,y0,y1,y2,y3⟩)(hv:val ⟨b,x0,x1,x2,x3⟩+val ⟨b,y0,y1,y2,y3⟩<115792089237316195423570985008687907853269984665640564039457584007913129639936):
  ∃w,eT (k+1) ⟨b,x0,x1,x2,x3⟩ ⟨b,y0,y1,y2,y3⟩=some w∧w.neg=b∧(xq w↔val ⟨b,x0,x1,x2,x3⟩+val ⟨b,y0,y1,y2,y3⟩=0):=by
 obtain⟨a0,a1,b0,b1',c0,c1,d0,d1⟩:=ha
 obtain⟨e0,e1,f0,f1,g0,g1,h0,h1⟩:=hb
 simp only at*
 rw[eT]
 simp only[beq_self_eq_true,Bool.not_true,ah,az,Int.add_zero]
 simp only[val]at hv⊢
 have m0:x0+y0=(x0+y0)/18446744073709551616*18446744073709551616+(x0+y0)%18446744073709551616:=by omega
 have u0:0≤(x0+y0)/18446744073709551616∧(x0+y0)/18446744073709551616≤1:=by omega
 have v0:0≤(x0+y0)%18446744073709551616:=by omega
 generalize (x0+y0)/18446744073709551616=t0 at*
 generalize (x0+y0)%18446744073709551616=r0 at*
 have m1:x1+y1+t0=(x1+y1+t0)/18446744073709551616*18446744073709551616+(x1+y1+t0)%18446744073709551616:=by omega
 have u1:0≤(x1+y1+t0)/18446744073709551616∧(x1+y1+t0)/18446744073709551616≤1:=by omega
 have v1:0≤(x1+y1+t0)%18446744073709551616:=by omega
 generalize (x1+y1+t0)/18446744073709551616=t1 at*
 generalize (x1+y1+t0)%18446744073709551616=r1 at*
 have m2:x2+y2+t1=(x2+y2+t1)/18446744073709551616*18446744073709551616+(x2+y2+t1)%18446744073709551616:=by omega
 have u2:0≤(x2+y2+t1)/18446744073709551616∧(x2+y2+t1)/18446744073709551616≤1:=by omega
 have v2:0≤(x2+y2+t1)%18446744073709551616:=by omega
 generalize (x2+y2+t1)/18446744073709551616=t2 at*
 generalize (x2+y2+t1)%18446744073709551616=r2 at*
 have m3:x3+y3+t2=(x3+y3+t2)/18446744073709551616*18446744073709551616+(x3+y3+t2)%18446744073709551616:=by omega
 have u3:0≤(x3+y3+t2)/18446744073709551616∧(x3+y3+t2)/18446744073709551616≤1:=by omega
 have v3:0≤(x3+y3+t2)%18446744073709551616:=by omega
 generalize (x3+y3+t2)/18446744073709551616=t3 at*
 generalize (x3+y3+t2)%18446744073709551616=r3 at*
 rw[bf (by omega),bf (by omega),bf (by omega),bf (by omega)]
 refine⟨_,rfl,rfl,?_⟩
 simp only[xq]
 constructor
 ·rintro⟨z0,z1,z2,z3⟩
  have:t3=0:=by omega
  omega
 ·intro hz
  refine⟨by omega,by omega,by omega,by omega⟩
theorem NO{a b:bq}(ha:W4 a)(hb:W4 b)(va:val a<57896044618658097711785492504343953926634992332820282019728792003956564819968)(vb:val b<57896044618658097711785492504343953926634992332820282019728792003956564819968)
  (na:a.neg=true→0<val a)(nb:b.neg=true→0<val b):mw a b=some (c3 (sv a) (sv b)):=by
 have pa:0≤val a:=by obtain⟨a0,a1,b0,b1,c0,c1,d0,d1⟩:=ha;unfold val;omega
 have pb:0≤val b:=by obtain⟨a0,a1,b0,b1,c0,c1,d0,d1⟩:=hb;unfold val;omega
 obtain⟨n,x0,x1,x2,x3⟩:=a
 obtain⟨m,y0,y1,y2,y3⟩:=b
 have hany:∀(q:Bool),W4 ⟨q,y0,y1,y2,y3⟩:=fun q=>⟨hb.1,hb.2,hb.3,hb.4,hb.5,hb.6,hb.7,hb.8⟩
 have hval:∀(q q':Bool) (z0 z1 z2 z3:Int),val ⟨q,z0,z1,z2,z3⟩=val ⟨q',z0,z1,z2,z3⟩:=fun _ _ _ _ _ _=>rfl
 unfold mw
 simp only[XZ]
 have hB:aH=1152921504606846974+1+1:=rfl
 rw[hB,gI]
 simp only
 by_cases hs:n=m
 ·subst hs
  simp only[beq_self_eq_true,Bool.not_true,ah]
  rw[Jv ha hb]
  simp only[az]
  by_cases hlt:val ⟨n,x0,x1,x2,x3⟩<val ⟨n,y0,y1,y2,y3⟩
  ·have e1:c3 (val ⟨n,x0,x1,x2,x3⟩) (val ⟨n,y0,y1,y2,y3⟩)= -1:=by unfold c3;rw[if_pos hlt]
   rw[e1,show decide ((-1:Int)<0)=true from rfl,ap]
   unfold gA
   simp only[az]
   obtain⟨w,g1,g2,g3⟩:=QR (b6:=n) (hany (!n)) ha
   rw[g1]
   simp only[az]
   have hz:¬xq w:=fun h=>by
    have:=g3.1 h
    have e2:=hval (!n) n y0 y1 y2 y3
    omega
   have hz':¬xq ⟨w.neg,w.size.1,w.size.2.1,w.size.2.2.1,w.size.2.2.2⟩:=hz
   rw[show decide (xq ⟨w.neg,w.size.1,w.size.2.1,w.size.2.2.1,w.size.2.2.2⟩)=false by simpa using hz',ah,g2]
   unfold sv
   cases n with
   |true=>simp only[Bool.not_true,ah,if_true];unfold c3;rw[if_neg (by omega),if_pos (by omega)]
   |false=>simp only[Bool.not_false,ap,Bool.false_eq_true,if_false];unfold c3;rw[if_pos (by omega)]
  ·have e1:decide (c3 (val ⟨n,x0,x1,x2,x3⟩) (val ⟨n,y0,y1,y2,y3⟩)<0)=false:=by
    unfold c3;rw[if_neg hlt];split<;>rfl
   rw[e1,ah]
   obtain⟨w,g1,g2,g3⟩:=QR ha hb
   rw[g1]
   simp only[az]
   have hz:xq ⟨w.neg,w.size.1,w.size.2.1,w.size.2.2.1,w.size.2.2.2⟩↔val ⟨n,x0,x1,x2,x3⟩=val ⟨n,y0,y1,y2,y3⟩:=g3
   by_cases heq:val ⟨n,x0,x1,x2,x3⟩=val ⟨n,y0,y1,y2,y3⟩
   ·rw[show decide (xq ⟨w.neg,w.size.1,w.size.2.1,w.size.2.2.1,w.size.2.2.2⟩)=true by simpa using hz.2 heq,ap]
    unfold sv
    simp only
    rw[heq]
    unfold c3;rw[if_neg (by omega),if_neg (by omega)]
   ·rw[show decide (xq ⟨w.neg,w.size.1,w.size.2.1,w.size.2.2.1,w.size.2.2.2⟩)=false by simpa using fun h=>heq (hz.1 h),ah,g2]
    unfold sv
    cases n with
    |true=>simp only[ap,if_true];unfold c3;rw[if_pos (by omega)]
    |false=>simp only[ah,Bool.false_eq_true,if_false];unfold c3;rw[if_neg (by omega),if_pos (by omega)]
 ·have hsb:(!(n==m))=true:=(Gp n m hs).1
  rw[hsb,ap]
  unfold gA
  simp only[az]
  have hnm:(!m)=n:=(Gp n m hs).2
  rw[hnm]
  obtain⟨w,g1,g2,g3⟩:=Sq (k:=1152921504606846974) ha (hany n) (by have:=hval n m y0 y1 y2 y3;omega)
  rw[g1]
  simp only[az]
  have hz:xq ⟨w.neg,w.size.1,w.size.2.1,w.size.2.2.1,w.size.2.2.2⟩↔val ⟨n,x0,x1,x2,x3⟩+val ⟨n,y0,y1,y2,y3⟩=0:=g3
  have hpos:¬val ⟨n,x0,x1,x2,x3⟩+val ⟨n,y0,y1,y2,y3⟩=0:=by
   have e:=hval n m y0 y1 y2 y3
   cases n with
   |true=>have:=na rfl;omega
   |false=>
    have:m=true:=by simpa using hnm
    have:=nb this
    omega
  rw[show decide (xq ⟨w.neg,w.size.1,w.size.2.1,w.size.2.2.1,w.size.2.2.2⟩)=false by simpa using fun h=>hpos (hz.1 h),ah,g2]
  unfold sv
  cases n with
  |true=>
   have:m=false:=by simpa using hnm
   subst this
   have:=na rfl
   simp only[ap,if_true,Bool.false_eq_true,if_false];unfold c3;rw[if_pos (by omega)]
  |false=>
   have:m=true:=by simpa using hnm
   subst this
   have:=nb rfl
   simp only[ah,if_true,Bool.false_eq_true,if_false];unfold c3;rw[if_neg (by omega),if_pos (by omega)]
def or'(x y:Int):Int:=if x≠0 then x else y
def cS(s t:ByteArray):Int:=if Op.bytesLess s.toList t.toList=true then -1 else if s.toList=t.toList then 0 else 1
def inR(sc:Int):Prop:=0≤sc∧sc≤12
instance(sc:Int):Decidable (inR sc):=by unfold inR;infer_instance
def F1(k:Int):Int:=if k=0 then 1 else 0
def Ew(k sc:Int):Int:=if k=3∧¬inR sc then 1 else 0
def vvI(k sc n:Int):Int:=if k=3∧inR sc then n*cj (12-sc).toNat else n
mutual
def cmpV:ac→ac→Int
 |⟨k,n,sc,s,it⟩,b=>or' (c3 (F1 k) (F1 b.kind)) (or' (c3 k b.kind) (if k=0 then 0 else or' (c3 (Ew k sc) (Ew b.kind b.scale)) (or' (c3 (vvI k sc n) (vvI b.kind b.scale b.n)) (or' (c3 sc b.scale) (or' (cS s b.s) (cmpL it b.items))))))
def cmpL:List ac→List ac→Int
 |[],m=>match m with
  |[]=>0
  |_::_=> -1
 |x::l,m=>match m with
  |[]=>1
  |y::ys=>or' (cmpV x y) (cmpL l ys)
end
def i6q(x:Int):Prop:= -9223372036854775808≤x∧x≤9223372036854775807
mutual
def wfV:ac→Prop
 |⟨k,n,sc,_,it⟩=>i6q k∧i6q n∧i6q sc∧wfL it
def wfL:List ac→Prop
 |[]=>True
 |x::l=>wfV x∧wfL l
end
theorem Fs:∀{l:List ac} {x:ac},wfL l→x∈l→wfV x
 |[],_,_,h=>by cases h
 |y::l,x,hw,h=>by
  simp only[wfL]at hw
  rcases List.mem_cons.1 h with rfl|h
  ·exact hw.1
  ·exact Fs hw.2 h
theorem km:∀{l:List ac} {x:ac},x∈l→cm x≤fj l
 |[],_,h=>by cases h
 |y::l,x,h=>by
  simp only[fj]
  rcases List.mem_cons.1 h with rfl|h
  ·omega
  ·have:=km h;omega
theorem rY:∀v:ac,1≤cm v
 |⟨_,_,_,_,_⟩=>by simp only[cm];omega
theorem gL:∀l:List ac,l.length≤fj l
 |[]=>by simp[fj]
 |x::l=>by
  have:=gL l
  have:=rY x
  simp only[fj,List.length_cons];omega
theorem T2(a b:Int):nj a b=some (c3 a b):=by
 unfold nj w5 c3
 simp only[az,bne_self_eq_false,ah]
 by_cases h:a<b
 ·simp[h,aC]
 ·by_cases k:b<a<;>simp[h,k,aC]
theorem abR(a b:ByteArray):oW a b=some (cS a b):=by
 unfold oW rZ cS
 simp only[az,beq_self_eq_true,Bool.not_true,ah]
 by_cases h:Op.bytesLess a.toList b.toList=true
 ·simp[h,aC]
 ·have h':Op.bytesLess a.toList b.toList=false:=by simpa using h
  by_cases k:a.toList=b.toList
  ·rw[k]at h'⊢
   simp[h',aC]
  ·simp[h',k,aC]
theorem GJ{p:List Int}{k i:Nat}{x:Int}(h:p[i]? =some x)(hi:i<1000):kw p (k+1) (i:Int)=if x≠0 then some x else kw p k ((i+1:Nat):Int):=by
 have hlt:=(tm.1 h).1
 rw[kw,show decide ((i:Int)<(p.length:Int))=true by simp[hlt],ap]
 have:at? p (i:Int)=some x:=by unfold at?;simp[h]
 rw[this]
 simp only[az]
 rw[jQ (by omega) (by omega),show(i:Int)+1=((i+1:Nat):Int) by omega]
 by_cases hx:x=0
 ·simp[hx,aC]
 ·simp[hx,aC]
theorem UX{p:List Int}{k:Nat}:kw p (k+1) (p.length:Int)=some 0:=by
 rw[kw,show decide ((p.length:Int)<(p.length:Int))=false by simp,ah]
 rfl
theorem or2(x y:Int):rr [x,y]=some (or' x y):=by
 unfold rr or'
 have hB:aH=1152921504606846973+1+1+1:=rfl
 have h0:=GJ (p:=[x,y]) (k:=1152921504606846973+1+1) (i:=0) (x:=x) rfl (by decide)
 have h1:=GJ (p:=[x,y]) (k:=1152921504606846973+1) (i:=1) (x:=y) rfl (by decide)
 have h2:=UX (p:=[x,y]) (k:=1152921504606846973)
 rw[hB]
 refine Eq.trans h0 ?_
 rw[h1]
 refine Eq.trans (b:=if x≠0 then some x else if y≠0 then some y else some 0) (by rw[←h2];rfl) ?_
 by_cases hx:x=0<;>by_cases hy:y=0<;>simp[hx,hy]
theorem or3(x y z:Int):rr [x,y,z]=some (or' x (or' y z)):=by
 unfold rr or'
 have hB:aH=1152921504606846972+1+1+1+1:=rfl
 have h0:=GJ (p:=[x,y,z]) (k:=1152921504606846972+1+1+1) (i:=0) (x:=x) rfl (by decide)
 have h1:=GJ (p:=[x,y,z]) (k:=1152921504606846972+1+1) (i:=1) (x:=y) rfl (by decide)
 have h2:=GJ (p:=[x,y,z]) (k:=1152921504606846972+1) (i:=2) (x:=z) rfl (by decide)
 have h3:=UX (p:=[x,y,z]) (k:=1152921504606846972)
 rw[hB]
 refine Eq.trans h0 ?_
 rw[h1,h2]
 refine Eq.trans (b:=if x≠0 then some x else if y≠0 then some y else if z≠0 then some z else some 0) (by rw[←h3];rfl) ?_
 by_cases hx:x=0<;>by_cases hy:y=0<;>by_cases hz:z=0<;>simp[hx,hy,hz]
theorem cmpf_loop(f:ac→ac→Option Int)(p1 p2:List ac)(hl:p1.length<1000000000000000)(hf:∀x∈p1,∀y∈p2,f x y=some (cmpV x y)):∀(k i:Nat),i≤p1.length→i≤p2.length→p1.length<i+k→
  aR f p1 p2 k (i:Int)=some (cmpL (p1.drop i) (p2.drop i)):=by
 intro k
 induction k with
 |zero=>intro i h1 h2 h3;omega
 |succ k ih=>
  intro i h1 h2 h3
  rw[aR]
  by_cases hi:i<p1.length
  ·have e1:p1.drop i=p1[i]::p1.drop (i+1):=List.drop_eq_getElem_cons hi
   have a1:at? p1 (i:Int)=some p1[i]:=by unfold at?;simp[hi]
   rw[show decide ((i:Int)<(p1.length:Int))=true by simp[hi],ap,a1,e1]
   simp only[az]
   by_cases hj:i<p2.length
   ·have e2:p2.drop i=p2[i]::p2.drop (i+1):=List.drop_eq_getElem_cons hj
    have a2:at? p2 (i:Int)=some p2[i]:=by unfold at?;simp[hj]
    rw[show decide ((p2.length:Int)≤(i:Int))=false by simp;omega,ah,a2,e2]
    simp only[az]
    rw[hf _ (gV hi) _ (gV hj)]
    simp only[az,cmpL]
    unfold or'
    by_cases hc:cmpV p1[i] p2[i]=0
    ·have e:(cmpV p1[i] p2[i] != 0)=false:=by simp[hc]
     rw[e,ah,jQ (by omega) (by omega),show(i:Int)+1=((i+1:Nat):Int) by omega,ih (i+1) (by omega) (by omega) (by omega),if_neg (by simp[hc])]
    ·have e:(cmpV p1[i] p2[i] != 0)=true:=by simp[hc]
     rw[e,ap,if_pos hc]
   ·have e2:p2.drop i=[]:=List.drop_of_length_le (by omega)
    rw[show decide ((p2.length:Int)≤(i:Int))=true by simp;omega,ap,e2]
    rfl
  ·have:i=p1.length:=by omega
   subst this
   rw[show decide ((p1.length:Int)<(p1.length:Int))=false by simp,ah,List.drop_length]
   unfold bK
   by_cases hj:p1.length<p2.length
   ·have e2:p2.drop p1.length=p2[p1.length]::p2.drop (p1.length+1):=List.drop_eq_getElem_cons hj
    rw[show decide ((p1.length:Int)<(p2.length:Int))=true by simp[hj],ap,e2]
    rfl
   ·have e2:p2.drop p1.length=[]:=List.drop_of_length_le (by omega)
    rw[show decide ((p1.length:Int)<(p2.length:Int))=false by simp;omega,ah,e2]
    rfl
theorem R1(a b c:Int):dR a b c=some (decide (b≤a∧a≤c)):=by
 unfold dR nf
 by_cases h:b≤a<;>by_cases k:a≤c<;>simp[h,k,aC]
theorem or_zero(y:Int):or' 0 y=y:=by simp[or']
theorem c3_self(a:Int):c3 a a=0:=by simp[c3]
theorem compare_eq:∀(N:Nat) (a b:ac) (k:Nat),cm a≤N→cm a<1000000000000000→wfV a→wfV b→3*N+3≤k→dm k a b=some (cmpV a b):=by
 intro N
 induction N with
 |zero=>intro a b k h;have:=rY a;omega
 |succ N ih=>
  intro a b k hN hbig ha hb hk
  obtain⟨k',rfl⟩:∃k',k=k'+1+1+1:=⟨k-3,by omega⟩
  obtain⟨ka,na,sa,ta,ia⟩:=a
  obtain⟨kb,nb,sb,tb,ib⟩:=b
  simp only[wfV]at ha hb
  obtain⟨wk,wn,ws,wi⟩:=ha
  obtain⟨vk,vn,vs,vi⟩:=hb
  simp only[cm]at hN hbig
  have hlen:=gL ia
  have hitems:aB (k'+1) ia ib=some (cmpL ia ib):=by
   rw[aB]
   have:=cmpf_loop (dm k') ia ib (by omega) (fun x hx y hy=>by
    have h1:=km hx
    exact ih x y k' (by omega) (by omega) (Fs wi hx) (Fs vi hy) (by omega)) aH 0 (Nat.zero_le _) (Nat.zero_le _) (by rw[aJ];omega)
   simpa using this
  have hrest:mN (k'+1+1) ⟨ka,na,sa,ta,ia⟩ ⟨kb,nb,sb,tb,ib⟩=some (or' (c3 sa sb) (or' (cS ta tb) (cmpL ia ib))):=by
   rw[mN]
   simp only[T2,abR,az,hitems,or3]
  rw[dm]
  simp only[T2,az,R1,cmpV]
  by_cases hkk:ka=kb
  ·subst hkk
   rw[show(ka != ka)=false by simp,ah,c3_self,c3_self,or_zero,or_zero]
   by_cases h0:ka=0
   ·subst h0;rw[if_pos rfl];rfl
   ·rw[beq_eq_false_iff_ne.2 h0,ah,if_neg h0]
    have vX:oq (mN (k'+1+1)) ⟨ka,na,sa,ta,ia⟩ ⟨ka,nb,sb,tb,ib⟩=some (or' (c3 na nb) (or' (c3 sa sb) (or' (cS ta tb) (cmpL ia ib)))):=by
     unfold oq
     simp only[T2,az,hrest,or2]
    by_cases h3:ka=3
    ·subst h3
     rw[show((3:Int)==3)=true from rfl,ap]
     unfold rJ
     by_cases hA:0≤sa∧sa≤12
     ·have hiA:inR sa:=hA
      by_cases hB:0≤sb∧sb≤12
      ·have hiB:inR sb:=hB
       simp only[hA,hB,and_self,decide_true,ap]
       rw[jQ (x:=12-sa) (by omega) (by omega),jQ (x:=12-sb) (by omega) (by omega)]
       obtain⟨w1,g1,g2,g3,g4,g5⟩:=LH (n:=na) (d:=12-sa) wn.1 wn.2 (by omega) (by omega)
       obtain⟨w2,f1,f2,f3,f4,f5⟩:=LH (n:=nb) (d:=12-sb) vn.1 vn.2 (by omega) (by omega)
       rw[g1,f1]
       simp only[az]
       have pp1:=vC (12-sa).toNat
       have pp2:=vC (12-sb).toNat
       have sgn:∀(n P:Int),1≤P→n<0→0<(if n<0 then -n else n)*P:=by
        intro n P hP hn
        rw[if_pos hn]
        exact Int.mul_pos (by omega) (by omega)
       have sv1:sv w1=na*cj (12-sa).toNat:=by
        unfold sv;rw[g3,g4]
        by_cases hn:na<0
        ·simp only[hn,decide_true,if_true];rw[Int.neg_mul,Int.neg_neg]
        ·simp only[hn,decide_false,Bool.false_eq_true,if_false]
       have sv2:sv w2=nb*cj (12-sb).toNat:=by
        unfold sv;rw[f3,f4]
        by_cases hn:nb<0
        ·simp only[hn,decide_true,if_true];rw[Int.neg_mul,Int.neg_neg]
        ·simp only[hn,decide_false,Bool.false_eq_true,if_false]
       have hcmp:mw ⟨w1.neg,w1.size.1,w1.size.2.1,w1.size.2.2.1,w1.size.2.2.2⟩ ⟨w2.neg,w2.size.1,w2.size.2.1,w2.size.2.2.1,w2.size.2.2.2⟩=some (c3 (na*cj (12-sa).toNat) (nb*cj (12-sb).toNat)):=by
        have:=NO g2 f2 g5 f5 (fun h=>by rw[g3];exact sgn na _ pp1 (by rw[g4]at h;simpa using h)) (fun h=>by rw[f3];exact sgn nb _ pp2 (by rw[f4]at h;simpa using h))
        rw[sv1,sv2]at this
        exact this
       rw[hcmp]
       simp only[az,hrest,or2]
       have o1:Ew 3 sa=0:=by unfold Ew;rw[if_neg (by simp[hiA])]
       have o2:Ew 3 sb=0:=by unfold Ew;rw[if_neg (by simp[hiB])]
       have u1:vvI 3 sa na=na*cj (12-sa).toNat:=by unfold vvI;rw[if_pos ⟨rfl,hiA⟩]
       have u2:vvI 3 sb nb=nb*cj (12-sb).toNat:=by unfold vvI;rw[if_pos ⟨rfl,hiB⟩]
       rw[o1,o2,c3_self,or_zero,u1,u2]
      ·have hiB:¬inR sb:=hB
       have eB:decide (0≤sb∧sb≤12)=false:=by simpa using hB
       have eA:decide (0≤sa∧sa≤12)=true:=by simpa using hA
       rw[eA,eB]
       simp only[ap,ah]
       have o1:Ew 3 sa=0:=by unfold Ew;rw[if_neg (by simp[hiA])]
       have o2:Ew 3 sb=1:=by unfold Ew;rw[if_pos ⟨rfl,hiB⟩]
       rw[o1,o2];rfl
     ·have hiA:¬inR sa:=hA
      have eA:decide (0≤sa∧sa≤12)=false:=by simpa using hA
      have o1:Ew 3 sa=1:=by unfold Ew;rw[if_pos ⟨rfl,hiA⟩]
      have u1:vvI 3 sa na=na:=by unfold vvI;rw[if_neg (by simp[hiA])]
      rw[eA]
      simp only[ah]
      by_cases hB:0≤sb∧sb≤12
      ·have hiB:inR sb:=hB
       have eB:decide (0≤sb∧sb≤12)=true:=by simpa using hB
       have o2:Ew 3 sb=0:=by unfold Ew;rw[if_neg (by simp[hiB])]
       rw[eB,o1,o2];rfl
      ·have hiB:¬inR sb:=hB
       have eB:decide (0≤sb∧sb≤12)=false:=by simpa using hB
       have o2:Ew 3 sb=1:=by unfold Ew;rw[if_pos ⟨rfl,hiB⟩]
       have u2:vvI 3 sb nb=nb:=by unfold vvI;rw[if_neg (by simp[hiB])]
       rw[eB,ah,vX,o1,o2,c3_self,or_zero,u1,u2]
    ·rw[beq_eq_false_iff_ne.2 h3,ah,vX]
     have o1:∀q,Ew ka q=0:=fun q=>by unfold Ew;rw[if_neg (by simp[h3])]
     have u1:∀q r,vvI ka q r=r:=fun q r=>by unfold vvI;rw[if_neg (by simp[h3])]
     rw[o1,o1,c3_self,or_zero,u1,u1]
  ·rw[show(ka != kb)=true by simp[hkk],ap]
   by_cases h0:ka=0
   ·subst h0
    have:F1 kb=0:=by unfold F1;rw[if_neg (fun e=>hkk e.symm)]
    rw[this];rfl
   ·rw[beq_eq_false_iff_ne.2 h0,ah]
    have n1:F1 ka=0:=by unfold F1;rw[if_neg h0]
    by_cases h1:kb=0
    ·subst h1;rw[n1];rfl
    ·have n2:F1 kb=0:=by unfold F1;rw[if_neg h1]
     rw[beq_eq_false_iff_ne.2 h1,ah,n1,n2,c3_self,or_zero]
     have hc:c3 ka kb≠0:=by unfold c3;split<;>(try split)<;>omega
     unfold or'
     rw[if_pos hc]
theorem yH{x y x' y':Int}(h:x= -x')(k:y= -y'):or' x y= -or' x' y':=by
 unfold or'
 by_cases hx:x'=0
 ·have:x=0:=by omega
  rw[if_neg (by simp[this]),if_neg (by simp[hx])];exact k
 ·have:x≠0:=by omega
  rw[if_pos this,if_pos hx];exact h
theorem Ak(a b:Int):c3 a b= -c3 b a:=by
 unfold c3
 by_cases h1:a<b<;>by_cases h2:b<a<;>simp[h1,h2]<;>omega
def cB(l m:List UInt8):Int:=if Op.bytesLess l m=true then -1 else if l=m then 0 else 1
theorem M9(a b:UInt8)(l m:List UInt8):cB (a::l) (b::m)=or' (c3 a.toNat b.toNat) (cB l m):=by
 unfold cB or' c3
 simp only[Op.bytesLess,Bool.or_eq_true,iY,decide_eq_true_eq,beq_iff_eq,List.cons.injEq]
 by_cases h1:a<b
 ·have h1':(a.toNat:Int)<b.toNat:=by have:=UInt8.lt_iff_toNat_lt.1 h1;omega
  simp[h1,h1']
 ·have h1':¬(a.toNat:Int)<b.toNat:=fun h=>h1 (UInt8.lt_iff_toNat_lt.2 (by omega))
  by_cases h2:a=b
  ·subst h2
   simp
  ·have h3:(b.toNat:Int)<a.toNat:=by
    have:a.toNat≠b.toNat:=fun h=>h2 (UInt8.toNat_inj.1 h)
    omega
   simp[h1,h1',h2,h3]
theorem Ri:∀l m:List UInt8,cB l m= -cB m l
 |[],[]=>by decide
 |[],_::_=>by simp[cB,Op.bytesLess]
 |_::_,[]=>by simp[cB,Op.bytesLess]
 |a::l,b::m=>by
  rw[M9,M9]
  exact yH (Ak _ _) (Ri l m)
theorem UV(s t:ByteArray):cS s t=cB s.toList t.toList:=rfl
mutual
theorem KZ:∀a b:ac,cmpV a b= -cmpV b a
 |⟨k,n,sc,s,it⟩,⟨k',n',sc',s',it'⟩=>by
  have hL:=Ld it it'
  simp only[cmpV]
  by_cases hk:k=k'
  ·subst hk
   refine yH (Ak _ _) (yH (Ak _ _) ?_)
   split
   ·rfl
   ·exact yH (Ak _ _) (yH (Ak _ _) (yH (Ak _ _) (yH (by rw[UV,UV];exact Ri _ _) hL)))
  ·have e1:∀y,or' (c3 k k') y=c3 k k':=fun y=>by
    unfold or';rw[if_pos (by unfold c3;split<;>(try split)<;>omega)]
   have e2:∀y,or' (c3 k' k) y=c3 k' k:=fun y=>by
    unfold or';rw[if_pos (by unfold c3;split<;>(try split)<;>omega)]
   rw[e1,e2]
   exact yH (Ak _ _) (Ak _ _)
theorem Ld:∀l m:List ac,cmpL l m= -cmpL m l
 |[],[]=>by simp[cmpL]
 |[],_::_=>by simp[cmpL]
 |_::_,[]=>by simp[cmpL]
 |x::l,y::m=>by
  have h1:=KZ x y
  have h2:=Ld l m
  simp only[cmpL]
  exact yH h1 h2
end
theorem cmpV_refl(a:ac):cmpV a a=0:=by
 have:=KZ a a
 omega
theorem BL(a b:Int):ly a b=some (c3 a b):=by
 unfold ly c3
 by_cases h:a<b
 ·simp[h,aC]
 ·by_cases k:b<a<;>simp[h,k,aC]
theorem Us(a b c:Int):fM a b c=some (decide (b≤a∧a≤c)):=R1 a b c
def bh:List Int→Int
 |[]=>0
 |d::l=>d+10*bh l
def gg(l:List Int):Prop:=∀d∈l,0≤d∧d≤9
def Fk(l:List Int):Prop:=∀d,l.getLast? =some d→d≠0
theorem iU:∀{l:List Int},gg l→0≤bh l
 |[],_=>by simp[bh]
 |d::l,h=>by
  have h1:=h d (by simp)
  have h2:=iU (l:=l) (fun x hx=>h x (by simp[hx]))
  simp only[bh];omega
theorem p10n:∀n,0<cj n:=fun n=>by have:=vC n;omega
theorem pp:∀{l:List Int},gg l→bh l<cj l.length
 |[],_=>by simp[bh,cj]
 |d::l,h=>by
  have h1:=h d (by simp)
  have h2:=pp (l:=l) (fun x hx=>h x (by simp[hx]))
  simp only[bh,List.length_cons,cj];omega
theorem uw:∀{l:List Int},gg l→Fk l→l≠[]→cj (l.length-1)≤bh l
 |[],_,_,h=>absurd rfl h
 |[d],h,ht,_=>by
  have h1:=h d (by simp)
  have h2:=ht d (by simp)
  simp[bh,cj];omega
 |d::e::l,h,ht,_=>by
  have h1:=h d (by simp)
  have h2:=uw (l:=e::l) (fun x hx=>h x (by simp[hx])) (fun x hx=>ht x (by simpa using hx)) (by simp)
  simp only[List.length_cons]at h2⊢
  rw[show l.length+1+1-1=(l.length+1-1)+1 by omega]
  simp only[cj]
  rw[bh]
  omega
theorem xj{m n:Nat}(h:m≤n):cj m≤cj n:=by
 induction n with
 |zero=>
  have:m=0:=by omega
  subst this;exact Int.le_refl _
 |succ n ih=>
  by_cases e:m=n+1
  ·subst e;exact Int.le_refl _
  ·have h1:=ih (by omega)
   have h2:=p10n n
   simp only[cj];omega
theorem fo:∀(l m:List Int),bh (l++m)=bh l+cj l.length*bh m
 |[],m=>by simp[bh,cj]
 |d::l,m=>by
  simp only[List.cons_append,bh,fo l m,List.length_cons,cj]
  rw[Int.mul_add,←Int.mul_assoc,Int.mul_comm 10 (cj l.length)];omega
theorem wv(k:Nat):bh (List.replicate k 0)=0:=by
 induction k with
 |zero=>rfl
 |succ k ih=>simp[List.replicate_succ,bh,ih]
theorem Ho{a b:List Int}(ha:gg a)(hb:gg b)(hl:a.length=b.length)(hbig:a.length<1000000):∀(k i:Nat),i≤a.length→i<k→bh (a.drop i)=bh (b.drop i)→
  ∃r,nu a b k ((i:Int)-1)=some r∧-9≤r∧r≤9∧c3 r 0=c3 (bh a) (bh b):=by
 intro k
 induction k with
 |zero=>intro i h1 h2;omega
 |succ k ih=>
  intro i h1 h2 he
  rw[nu]
  cases i with
  |zero=>
   rw[show decide ((0:Int)≤((0:Nat):Int)-1)=false from rfl,ah]
   simp only[List.drop_zero]at he
   exact⟨0,rfl,by omega,by omega,by rw[he,c3_self,c3_self]⟩
  |succ i=>
   have hia:i<a.length:=by omega
   have hib:i<b.length:=by omega
   have e1:((i+1:Nat):Int)-1=(i:Int):=by omega
   have aa:at? a (i:Int)=some a[i]:=by unfold at?;simp[hia]
   have bb:at? b (i:Int)=some b[i]:=by unfold at?;simp[hib]
   rw[e1,show decide ((0:Int)≤(i:Int))=true by simp,ap,aa,bb]
   simp only[az]
   have da:a.drop i=a[i]::a.drop (i+1):=List.drop_eq_getElem_cons hia
   have db:b.drop i=b[i]::b.drop (i+1):=List.drop_eq_getElem_cons hib
   have ra:=ha a[i] (gV hia)
   have rb:=hb b[i] (gV hib)
   by_cases hne:a[i]=b[i]
   ·rw[show(a[i] != b[i])=false by simp[hne],ah,jQ (by omega) (by omega)]
    refine ih i (by omega) (by omega) ?_
    rw[da,db];simp only[bh];omega
   ·rw[show(a[i] != b[i])=true by simp[hne],ap,jQ (by omega) (by omega)]
    refine⟨_,rfl,by omega,by omega,?_⟩
    have va:bh a=bh (a.take i)+cj i*bh (a.drop i):=by
     have:=fo (a.take i) (a.drop i)
     rw[List.take_append_drop,List.length_take,Nat.min_eq_left (by omega)]at this
     exact this
    have vb:bh b=bh (b.take i)+cj i*bh (b.drop i):=by
     have:=fo (b.take i) (b.drop i)
     rw[List.take_append_drop,List.length_take,Nat.min_eq_left (by omega)]at this
     exact this
    have la:=pp (l:=a.take i) (fun x hx=>ha x (List.mem_of_mem_take hx))
    have lb:=pp (l:=b.take i) (fun x hx=>hb x (List.mem_of_mem_take hx))
    have na:=iU (l:=a.take i) (fun x hx=>ha x (List.mem_of_mem_take hx))
    have nb:=iU (l:=b.take i) (fun x hx=>hb x (List.mem_of_mem_take hx))
    rw[List.length_take,Nat.min_eq_left (by omega)]at la lb
    rw[da]at va;rw[db]at vb
    simp only[bh]at va vb
    have hp:=p10n i
    have key:cj i*(a[i]+10*bh (a.drop (i+1)))-cj i*(b[i]+10*bh (b.drop (i+1)))=cj i*(a[i]-b[i]):=by
     rw[←Int.mul_sub,he];congr 1;omega
    unfold c3
    rcases Int.lt_or_gt_of_ne hne with hlt|hgt
    ·have:cj i*(a[i]-b[i])≤cj i*(-1):=Int.mul_le_mul_of_nonneg_left (by omega) (by omega)
     rw[if_pos (by omega),if_pos (by omega)]
    ·have:cj i*1≤cj i*(a[i]-b[i]):=Int.mul_le_mul_of_nonneg_left (by omega) (by omega)
     rw[if_neg (by omega),if_pos (by omega),if_neg (by omega),if_pos (by omega)]
theorem LT{a b:List Int}(ha:gg a)(hb:gg b)(ta:Fk a)(tb:Fk b)(la:a.length<1000)(lb:b.length<1000):∃r,wH a b=some r∧-1000≤r∧r≤1000∧c3 r 0=c3 (bh a) (bh b):=by
 unfold wH
 by_cases hl:a.length=b.length
 ·rw[show((a.length:Int) != (b.length:Int))=false by simp[hl],ah,jQ (by omega) (by omega)]
  obtain⟨r,h1,h2,h3,h4⟩:=Ho ha hb hl (by omega) aH a.length (iD _) (by rw[aJ];omega) (by rw[List.drop_length,hl,List.drop_length])
  exact⟨r,h1,by omega,by omega,h4⟩
 ·have hne:((a.length:Int) != (b.length:Int))=true:=by simp;omega
  rw[hne,ap,jQ (by omega) (by omega)]
  refine⟨_,rfl,by omega,by omega,?_⟩
  have l1:=pp ha
  have l2:=pp hb
  rcases Nat.lt_or_gt_of_ne hl with h|h
  ·have g:=uw hb tb (by rintro rfl;simp at h)
   have:=xj (show a.length≤b.length-1 by omega)
   unfold c3;rw[if_pos (by omega),if_pos (by omega)]
  ·have g:=uw ha ta (by rintro rfl;simp at h)
   have:=xj (show b.length≤a.length-1 by omega)
   unfold c3;rw[if_neg (by omega),if_pos (by omega),if_neg (by omega),if_pos (by omega)]
structure RW(r:cU)(n:Int):Prop where
 dg:gg r.d
 tp:Fk r.d
 ln:r.d.length<100
 vl:(if r.below=true then -bh r.d else bh r.d)=n
 bl:r.below=true→0<bh r.d
theorem Nm{a b:cU}{m n:Int}(ha:RW a m)(hb:RW b n):rT a b=some (c3 m n):=by
 obtain⟨da,ta,la,va,ba⟩:=ha
 obtain⟨db,tb,lb,vb,bb⟩:=hb
 have pa:=iU da
 have pb:=iU db
 obtain⟨r,h1,h2,h3,h4⟩:=LT da db ta tb (by omega) (by omega)
 unfold rT
 rw[h1]
 simp only[az]
 have fin:∀x:Int,lG x=some (c3 x 0):=by
  intro x
  unfold lG c3
  by_cases h:x<0
  ·simp[h,aC]
  ·by_cases k:0<x<;>simp[h,k,aC]
 by_cases hs:a.below=b.below
 ·rw[show(!(a.below==b.below))=false by simp[hs],ah,jQ (by omega) (by omega),fin,fin]
  rw[←hs]at vb
  cases hbel:a.below with
  |true=>
   rw[ap]
   rw[hbel]at va vb
   simp only[if_true]at va vb
   congr 1
   subst va;subst vb
   have e:c3 (0-r) 0= -c3 r 0:=by unfold c3;by_cases x1:r<0<;>by_cases x2:0<r<;>simp[x1,x2]<;>omega
   have e2:c3 (-bh a.d) (-bh b.d)= -c3 (bh a.d) (bh b.d):=by unfold c3;by_cases x1:bh a.d<bh b.d<;>by_cases x2:bh b.d<bh a.d<;>simp[x1,x2]<;>omega
   rw[e,e2,h4]
  |false=>
   rw[ah]
   rw[hbel]at va vb
   simp only[Bool.false_eq_true,if_false]at va vb
   subst va;subst vb
   rw[h4]
 ·have hb2:=(Gp a.below b.below hs)
  rw[hb2.1,ap]
  cases hbel:a.below with
  |true=>
   have hb0:b.below=false:=by have:=hb2.2;rw[hbel]at this;simpa using this
   rw[ap]
   rw[hbel]at va;rw[hb0]at vb
   simp only[if_true,Bool.false_eq_true,if_false]at va vb
   have:=ba hbel
   unfold c3;rw[if_pos (by omega)]
  |false=>
   have hb0:b.below=true:=by have:=hb2.2;rw[hbel]at this;simpa using this
   rw[ah]
   rw[hbel]at va;rw[hb0]at vb
   simp only[if_true,Bool.false_eq_true,if_false]at va vb
   have:=bb hb0
   unfold c3;rw[if_neg (by omega),if_pos (by omega)]
def ab(n:Int):Int:=if n<0 then -n else n
theorem Km{l:List Int}{x:Int}(h:gg l)(hx:0≤x∧x≤9):gg (l++[x]):=by
 intro d hd
 rcases List.mem_append.1 hd with h1|h1
 ·exact h d h1
 ·simp at h1;subst h1;exact hx
theorem Dm{n:Int}(hn0: -9223372036854775808≤n)(hn1:n≤9223372036854775807):∀(k:Nat) (l:List Int) (m:Int),l.length≤19→19-l.length<k→gg l→(m=0→Fk l)→ab m<cj (19-l.length)→-9223372036854775808≤m→m≤9223372036854775807→ab n=bh l+cj l.length*ab m→
  ∃d,cM n k l m=some ⟨decide (n<0),d⟩∧gg d∧Fk d∧d.length≤19∧bh d=ab n:=by
 intro k
 induction k with
 |zero=>intro l m h1 h2;omega
 |succ k ih=>
  intro l m hl hk hd ht hm m0 m1 hv
  rw[cM]
  by_cases h0:m=0
  ·subst h0
   rw[show((0:Int) != 0)=false from rfl,ah]
   exact⟨l,rfl,hd,ht rfl,hl,by simp[ab]at hv⊢;omega⟩
  ·have hlen:l.length<19:=by
    apply Classical.byContradiction
    intro hn
    have:l.length=19:=by omega
    rw[this]at hm
    simp only[Nat.sub_self,cj]at hm
    unfold ab at hm;split at hm<;>omega
   rw[show(m != 0)=true by simp[h0],ap]
   have hq:m.tdiv 10=if m<0 then -((-m)/10)else m/10:=by
    by_cases hneg:m<0
    ·rw[if_pos hneg]
     have:m= -(-m):=by omega
     rw[this,Int.neg_tdiv,Int.neg_neg,Int.tdiv_eq_ediv_of_nonneg (by omega)]
    ·rw[if_neg hneg,Int.tdiv_eq_ediv_of_nonneg (by omega)]
   have hr:m.tmod 10=if m<0 then -((-m)%10)else m%10:=by
    by_cases hneg:m<0
    ·rw[if_pos hneg]
     have:m= -(-m):=by omega
     rw[this,Int.neg_tmod,Int.neg_neg,Int.tmod_eq_emod_of_nonneg (by omega)]
    ·rw[if_neg hneg,Int.tmod_eq_emod_of_nonneg (by omega)]
   have step:∀x,x=ab m%10→mG (cM n k) l m x=cM n k (l++[ab m%10]) (m.tdiv 10):=by
    intro x hx
    unfold mG
    rw[bf (by omega),hx,jQ (by rw[hq];split<;>omega) (by rw[hq];split<;>omega)]
   have hgo:cM n k (l++[ab m%10]) (m.tdiv 10)=cM n k (l++[ab m%10]) (m.tdiv 10):=rfl
   have habq:ab (m.tdiv 10)=ab m/10:=by
    rw[hq];unfold ab
    by_cases hneg:m<0
    ·simp only[hneg,if_true];split<;>omega
    ·simp only[hneg,if_false];split<;>omega
   have hab0:0≤ab m:=by unfold ab;split<;>omega
   have hp:cj (19-l.length)=cj (19-(l++[ab m%10]).length)*10:=by
    rw[show 19-l.length=(19-(l++[ab m%10]).length)+1 by simp;omega];rfl
   have nxt:=ih (l++[ab m%10]) (m.tdiv 10) (by simp;omega) (by simp;omega) (Km hd (by omega)) (fun hz=>by
     intro d hdl
     simp at hdl
     subst hdl
     have h1:ab m/10=0:=by rw[←habq,hz];rfl
     have h2:ab m≠0:=by unfold ab;split<;>omega
     omega) (by rw[habq];rw[hp]at hm;omega) (by rw[hq];split<;>omega) (by rw[hq];split<;>omega) (by
     rw[fo,List.length_append,List.length_singleton,habq,hv]
     simp only[bh,cj]
     have e:ab m=ab m%10+10*(ab m/10):=by omega
     have e2:cj l.length*ab m=cj l.length*(ab m%10)+cj l.length*10*(ab m/10):=by
      rw[Int.mul_assoc,←Int.mul_add,←e]
     rw[e2];simp only[Int.mul_zero,Int.add_zero];omega)
   by_cases hneg:m.tmod 10<0
   ·rw[show decide (m.tmod 10<0)=true by simpa using hneg,ap]
    have hx:i64.wrap (0-m.tmod 10)=ab m%10:=by
     rw[jQ (by rw[hr];split<;>omega) (by rw[hr];split<;>omega)]
     rw[hr]at hneg⊢
     unfold ab
     by_cases h:m<0
     ·simp only[h,if_true];omega
     ·simp only[h,if_false]at hneg;omega
    rw[step _ hx];exact nxt
   ·rw[show decide (m.tmod 10<0)=false by simpa using hneg,ah]
    have hx:m.tmod 10=ab m%10:=by
     rw[hr]at hneg⊢
     unfold ab
     by_cases h:m<0
     ·simp only[h,if_true]at hneg⊢;omega
     ·simp only[h,if_false]
    rw[step _ hx];exact nxt
theorem Lu{v:ac}(hn:i6q v.n)(hs:inR v.scale):∃r,q8 v=some r∧RW r (v.n*cj (12-v.scale).toNat):=by
 obtain⟨n0,n1⟩:=hn
 obtain⟨s0,s1⟩:=hs
 have hab:ab v.n≤9223372036854775808:=by unfold ab;split<;>omega
 obtain⟨d,h1,h2,h3,h4,h5⟩:=Dm n0 n1 aH [] v.n (by simp) (by rw[aJ];decide) (fun x hx=>by cases hx) (fun _ x hx=>by simp at hx) (by
  have:cj (19-([]:List Int).length)=10000000000000000000:=by decide
  rw[this];omega) n0 n1 (by simp[bh,cj])
 unfold q8 oU
 rw[h1]
 simp only[az]
 rw[jQ (by omega) (by omega)]
 unfold BS
 have hpp:=vC (12-v.scale).toNat
 by_cases he:d=[]
 ·subst he
  have hz:v.n=0:=by simp only[bh]at h5;unfold ab at h5;split at h5<;>omega
  rw[show(((⟨decide (v.n<0),[]⟩:cU).d.length:Int)==0)=true from rfl,ap]
  refine⟨_,rfl,⟨h2,h3,by simp,?_,?_⟩⟩
  ·simp[hz,bh]
  ·simp[hz]
 ·have hlen:((d.length:Int)==0)=false:=by
   rw[beq_eq_false_iff_ne]
   have:d.length≠0:=fun h=>he (List.length_eq_zero_iff.1 h)
   omega
  simp only
  rw[hlen,ah,bf (by omega),bf (by simp;omega)]
  have hval:bh (List.replicate (12-v.scale).toNat 0++d)=ab v.n*cj (12-v.scale).toNat:=by
   rw[fo,wv,List.length_replicate,h5,Int.mul_comm];omega
  have hpos:0<ab v.n:=by
   have h6:=uw h2 h3 he
   have:=p10n (d.length-1)
   omega
  refine⟨_,rfl,⟨fun x hx=> ?_,fun x hx=> ?_,by simp;omega,?_,fun _=> ?_⟩⟩
  ·rcases List.mem_append.1 hx with h|h
   ·have:=List.eq_of_mem_replicate h;omega
   ·exact h2 x h
  ·rw[List.getLast?_append]at hx
   cases hg:d.getLast? with
   |none=>exact absurd (List.getLast?_eq_none_iff.1 hg) he
   |some y=>rw[hg]at hx;simp at hx;subst hx;exact h3 _ hg
  ·simp only
   rw[hval]
   by_cases hneg:v.n<0
   ·simp only[hneg,decide_true,if_true,ab];rw[Int.neg_mul,Int.neg_neg]
   ·simp only[hneg,decide_false,Bool.false_eq_true,if_false,ab]
  ·simp only
   rw[hval]
   exact Int.mul_pos hpos (by omega)
theorem Ps{s t:ByteArray}(hs:s.size<1000000000000000):∀(k i:Nat),i≤s.size→i≤t.size→s.size<i+k→
  lZ s t k (i:Int)=some (cB (s.data.toList.drop i) (t.data.toList.drop i)):=by
 have ls:s.data.toList.length=s.size:=by simp
 have lt:t.data.toList.length=t.size:=by simp
 intro k
 induction k with
 |zero=>intro i h1 h2 h3;omega
 |succ k ih=>
  intro i h1 h2 h3
  rw[lZ]
  unfold wX Bh
  simp only[BL,az]
  by_cases hi:i<s.size
  ·have e1:s.data.toList.drop i=s.data.toList[i]'(by omega)::s.data.toList.drop (i+1):=List.drop_eq_getElem_cons (by omega)
   rw[show decide ((i:Int)<(s.size:Int))=true by simpa using hi,ap]
   by_cases hj:i<t.size
   ·have e2:t.data.toList.drop i=t.data.toList[i]'(by omega)::t.data.toList.drop (i+1):=List.drop_eq_getElem_cons (by omega)
    have g1:s.data.toList.getD (i:Int).toNat 0=s.data.toList[i]'(by omega):=by simp[List.getD,hi]
    have g2:t.data.toList.getD (i:Int).toNat 0=t.data.toList[i]'(by omega):=by simp[List.getD,hj]
    rw[show decide ((i:Int)<(t.size:Int))=true by simpa using hj,ap,bf (by omega),bf (by omega),bf (by omega),bf (by omega),g1,g2,e1,e2,M9]
    generalize s.data.toList[i]'(by omega)=x
    generalize t.data.toList[i]'(by omega)=y
    have hx:=x.toNat_lt
    have hy:=y.toNat_lt
    rw[jQ (x:=(x.toNat:Int)) (by omega) (by omega),jQ (x:=(y.toNat:Int)) (by omega) (by omega)]
    by_cases hxy:(x.toNat:Int)=y.toNat
    ·rw[show((x.toNat:Int) != (y.toNat:Int))=false by rw[bne_eq_false_iff_eq];exact hxy,ah,jQ (by omega) (by omega),show(i:Int)+1=((i+1:Nat):Int) by omega,ih (i+1) (by omega) (by omega) (by omega),hxy,c3_self,or_zero]
    ·rw[show((x.toNat:Int) != (y.toNat:Int))=true by rw[bne_iff_ne];exact hxy,ap]
     unfold or'
     rw[if_pos (by unfold c3;split<;>(try split)<;>omega)]
   ·have e2:t.data.toList.drop i=[]:=List.drop_of_length_le (by omega)
    rw[show decide ((i:Int)<(t.size:Int))=false by simpa using hj,ah,e1,e2]
    have:cB (s.data.toList[i]'(by omega)::s.data.toList.drop (i+1)) []=1:=by simp[cB,Op.bytesLess]
    rw[this]
    unfold c3;rw[if_neg (by omega),if_pos (by omega)]
  ·have e1:s.data.toList.drop i=[]:=List.drop_of_length_le (by omega)
   rw[show decide ((i:Int)<(s.size:Int))=false by simpa using hi,ah,ah,e1]
   by_cases hj:i<t.size
   ·have e2:t.data.toList.drop i=t.data.toList[i]'(by omega)::t.data.toList.drop (i+1):=List.drop_eq_getElem_cons (by omega)
    rw[e2]
    have:cB [] (t.data.toList[i]'(by omega)::t.data.toList.drop (i+1))= -1:=by simp[cB,Op.bytesLess]
    rw[this]
    unfold c3;rw[if_pos (by omega)]
   ·have e2:t.data.toList.drop i=[]:=List.drop_of_length_le (by omega)
    rw[e2]
    have:cB [] []=0:=by simp[cB,Op.bytesLess]
    rw[this]
    unfold c3;rw[if_neg (by omega),if_neg (by omega)]
theorem Vf{s t:ByteArray}(hs:s.size<1000000000000000):yX s t=some (cS s t):=by
 unfold yX
 have:=Ps (t:=t) hs aH 0 (Nat.zero_le _) (Nat.zero_le _) (by rw[aJ];omega)
 rw[show((0:Nat):Int)=0 from rfl]at this
 rw[this,List.drop_zero,List.drop_zero,UV]
 have e1:s.toList=s.data.toList:=by simp[ByteArray.toList_eq]
 have e2:t.toList=t.data.toList:=by simp[ByteArray.toList_eq]
 rw[e1,e2]
theorem O6(f:ac→ac→Option Int)(a b:ac)(hl:a.items.length<1000000000000000)(hf:∀x∈a.items,∀y∈b.items,f x y=some (cmpV x y)):∀(k i:Nat),i≤a.items.length→i≤b.items.length→a.items.length<i+k→
  iG f a b k (i:Int)=some (cmpL (a.items.drop i) (b.items.drop i)):=by
 intro k
 induction k with
 |zero=>intro i h1 h2 h3;omega
 |succ k ih=>
  intro i h1 h2 h3
  rw[iG]
  unfold tP xV
  rw[BL]
  simp only[az]
  by_cases hi:i<a.items.length
  ·have e1:a.items.drop i=a.items[i]::a.items.drop (i+1):=List.drop_eq_getElem_cons hi
   have a1:at? a.items (i:Int)=some a.items[i]:=by unfold at?;simp[hi]
   rw[show decide ((i:Int)<(a.items.length:Int))=true by simp[hi],ap,a1,e1]
   simp only[az]
   by_cases hj:i<b.items.length
   ·have e2:b.items.drop i=b.items[i]::b.items.drop (i+1):=List.drop_eq_getElem_cons hj
    have a2:at? b.items (i:Int)=some b.items[i]:=by unfold at?;simp[hj]
    rw[show decide ((i:Int)<(b.items.length:Int))=true by simp[hj],ap,a2,e2]
    simp only[az]
    rw[hf _ (gV hi) _ (gV hj)]
    simp only[az,cmpL]
    unfold or'
    by_cases hc:cmpV a.items[i] b.items[i]=0
    ·have e:(cmpV a.items[i] b.items[i] != 0)=false:=by simp[hc]
     rw[e,ah,jQ (by omega) (by omega),show(i:Int)+1=((i+1:Nat):Int) by omega,ih (i+1) (by omega) (by omega) (by omega),if_neg (by simp[hc])]
    ·have e:(cmpV a.items[i] b.items[i] != 0)=true:=by simp[hc]
     rw[e,ap,if_pos hc]
   ·have e2:b.items.drop i=[]:=List.drop_of_length_le (by omega)
    rw[show decide ((i:Int)<(b.items.length:Int))=false by simp;omega,ah,e2]
    simp only[cmpL]
    unfold c3;rw[if_neg (by omega),if_pos (by omega)]
  ·have e1:a.items.drop i=[]:=List.drop_of_length_le (by omega)
   rw[show decide ((i:Int)<(a.items.length:Int))=false by simp;omega,ah,ah,e1]
   by_cases hj:i<b.items.length
   ·have e2:b.items.drop i=b.items[i]::b.items.drop (i+1):=List.drop_eq_getElem_cons hj
    rw[e2]
    simp only[cmpL]
    unfold c3;rw[if_pos (by omega)]
   ·have e2:b.items.drop i=[]:=List.drop_of_length_le (by omega)
    rw[e2]
    simp only[cmpL]
    unfold c3;rw[if_neg (by omega),if_neg (by omega)]
theorem Gc{a b:Int}(h:a≠b):c3 a b≠0:=by unfold c3;split<;>(try split)<;>omega
theorem DQ{x:Int}(h:x≠0)(y:Int):or' x y=x:=by unfold or';rw[if_pos h]
theorem rcompareV_eq:∀(N:Nat) (a b:ac) (k:Nat),cm a≤N→cm a<1000000000000000→wfV a→wfV b→N+1≤k→bP k a b=some (cmpV a b):=by
 intro N
 induction N with
 |zero=>intro a b k h;have:=rY a;omega
 |succ N ih=>
  intro a b k hN hbig ha hb hk
  obtain⟨k',rfl⟩:∃k',k=k'+1:=⟨k-1,by omega⟩
  obtain⟨ka,na,sa,ta,ia⟩:=a
  obtain⟨kb,nb,sb,tb,ib⟩:=b
  simp only[wfV]at ha hb
  obtain⟨wk,wn,ws,wi⟩:=ha
  obtain⟨vk,vn,vs,vi⟩:=hb
  simp only[cm]at hN hbig
  have hlen:=gL ia
  have hitems:iG (bP k') ⟨ka,na,sa,ta,ia⟩ ⟨kb,nb,sb,tb,ib⟩ aH 0=some (cmpL ia ib):=by
   have:=O6 (bP k') ⟨ka,na,sa,ta,ia⟩ ⟨kb,nb,sb,tb,ib⟩ (by simp only;omega) (fun x hx y hy=>by
    have h1:cm x≤fj ia:=km hx
    exact ih x y k' (by omega) (by omega) (Fs wi hx) (Fs vi hy) (by omega)) aH 0 (Nat.zero_le _) (Nat.zero_le _) (by rw[aJ];simp only;omega)
   simpa using this
  have htx:yX ta tb=some (cS ta tb):=Vf (by omega)
  have j2f:nm (bP k') ⟨ka,na,sa,ta,ia⟩ ⟨kb,nb,sb,tb,ib⟩ false=some (or' (c3 sa sb) (or' (cS ta tb) (cmpL ia ib))):=by
   unfold nm
   rw[ah,htx,hitems]
   simp only[BL,az]
   by_cases hs:sa=sb
   ·subst hs
    rw[show(sa != sa)=false by simp,ah,c3_self,or_zero]
    by_cases hc:cS ta tb=0
    ·rw[show(cS ta tb != 0)=false by simp[hc],ah,hc,or_zero]
    ·rw[show(cS ta tb != 0)=true by simp[hc],ap,DQ hc]
   ·rw[show(sa != sb)=true by simp[hs],ap,DQ (Gc hs)]
  rw[bP]
  simp only[BL,az,cmpV]
  by_cases h0:ka=0
  ·subst h0
   by_cases h1:kb=0
   ·subst h1;rfl
   ·have e:((kb==0):Bool)=false:=beq_eq_false_iff_ne.2 h1
    have n2:F1 kb=0:=by unfold F1;rw[if_neg h1]
    rw[e,n2];rfl
  ·have e0:((ka==0):Bool)=false:=beq_eq_false_iff_ne.2 h0
   have n1:F1 ka=0:=by unfold F1;rw[if_neg h0]
   rw[e0,n1]
   by_cases h1:kb=0
   ·subst h1;rfl
   ·have e1:((kb==0):Bool)=false:=beq_eq_false_iff_ne.2 h1
    have n2:F1 kb=0:=by unfold F1;rw[if_neg h1]
    rw[e1,n2,c3_self,or_zero]
    rw[show(!((false:Bool)==false))=false from rfl,ah,ah]
    by_cases hkk:ka=kb
    ·subst hkk
     rw[show(ka != ka)=false by simp,ah,c3_self,or_zero,if_neg h0]
     by_cases h3:ka=3
     ·subst h3
      rw[show((3:Int)==3)=true from rfl,ap]
      have j1:nh (bP k') ⟨3,na,sa,ta,ia⟩ ⟨3,nb,sb,tb,ib⟩=some (or' (c3 sa sb) (or' (cS ta tb) (cmpL ia ib))):=by
       unfold nh
       rw[show(((3:Int) != 3):Bool)=false from rfl,j2f]
       rcases Bool.eq_false_or_eq_true (na != nb)with h|h<;>rw[h]<;>rfl
      rw[j1]
      unfold A2
      simp only[Us,az,BL]
      by_cases hA:0≤sa∧sa≤12
      ·have hiA:inR sa:=hA
       have eA:decide (0≤sa∧sa≤12)=true:=by simpa using hA
       have o1:Ew 3 sa=0:=by unfold Ew;rw[if_neg (by simp[hiA])]
       by_cases hB:0≤sb∧sb≤12
       ·have hiB:inR sb:=hB
        have eB:decide (0≤sb∧sb≤12)=true:=by simpa using hB
        have o2:Ew 3 sb=0:=by unfold Ew;rw[if_neg (by simp[hiB])]
        obtain⟨r1,g1,g2⟩:=Lu (v:=⟨3,na,sa,ta,ia⟩) wn hiA
        obtain⟨r2,f1,f2⟩:=Lu (v:=⟨3,nb,sb,tb,ib⟩) vn hiB
        rw[eA,eB,g1,f1]
        simp only[az]
        rw[Nm g2 f2]
        simp only[az]
        rw[show(!((true:Bool)==true))=false from rfl,ah,ap]
        have u1:vvI 3 sa na=na*cj (12-sa).toNat:=by unfold vvI;rw[if_pos ⟨rfl,hiA⟩]
        have u2:vvI 3 sb nb=nb*cj (12-sb).toNat:=by unfold vvI;rw[if_pos ⟨rfl,hiB⟩]
        rw[o1,o2,c3_self,or_zero,u1,u2]
        by_cases hc:c3 (na*cj (12-sa).toNat) (nb*cj (12-sb).toNat)=0
        ·rw[hc]
         rw[show((0:Int) != 0)=false from rfl,ah,az,or_zero]
         by_cases hs:sa=sb
         ·subst hs;rw[c3_self,show((0:Int) != 0)=false from rfl,ah]
         ·rw[show(c3 sa sb != 0)=true by simp[Gc hs],ap,DQ (Gc hs)]
        ·have hcb:(c3 (na*cj (12-sa).toNat) (nb*cj (12-sb).toNat) != 0)=true:=by simp[hc]
         rw[hcb,ap,az,hcb,ap,DQ hc]
       ·have hiB:¬inR sb:=hB
        have eB:decide (0≤sb∧sb≤12)=false:=by simpa using hB
        have o2:Ew 3 sb=1:=by unfold Ew;rw[if_pos ⟨rfl,hiB⟩]
        rw[eA,eB,o1,o2];rfl
      ·have hiA:¬inR sa:=hA
       have eA:decide (0≤sa∧sa≤12)=false:=by simpa using hA
       have o1:Ew 3 sa=1:=by unfold Ew;rw[if_pos ⟨rfl,hiA⟩]
       have u1:vvI 3 sa na=na:=by unfold vvI;rw[if_neg (by simp[hiA])]
       by_cases hB:0≤sb∧sb≤12
       ·have hiB:inR sb:=hB
        have eB:decide (0≤sb∧sb≤12)=true:=by simpa using hB
        have o2:Ew 3 sb=0:=by unfold Ew;rw[if_neg (by simp[hiB])]
        rw[eA,eB,o1,o2];rfl
       ·have hiB:¬inR sb:=hB
        have eB:decide (0≤sb∧sb≤12)=false:=by simpa using hB
        have o2:Ew 3 sb=1:=by unfold Ew;rw[if_pos ⟨rfl,hiB⟩]
        have u2:vvI 3 sb nb=nb:=by unfold vvI;rw[if_neg (by simp[hiB])]
        rw[eA,eB,o1,o2,c3_self,or_zero,u1,u2]
        rw[show(!((false:Bool)==false))=false from rfl,ah,ah]
        by_cases hn:na=nb
        ·subst hn
         rw[show(na != na)=false by simp,ah,az,c3_self,or_zero]
         by_cases hs:sa=sb
         ·subst hs;rw[c3_self,show((0:Int) != 0)=false from rfl,ah]
         ·rw[show(c3 sa sb != 0)=true by simp[Gc hs],ap,DQ (Gc hs)]
        ·rw[show(na != nb)=true by simp[hn],ap,az,show(c3 na nb != 0)=true by simp[Gc hn],ap,DQ (Gc hn)]
     ·rw[beq_eq_false_iff_ne.2 h3,ah]
      have o1:∀q,Ew ka q=0:=fun q=>by unfold Ew;rw[if_neg (by simp[h3])]
      have u1:∀q r,vvI ka q r=r:=fun q r=>by unfold vvI;rw[if_neg (by simp[h3])]
      rw[o1,o1,c3_self,or_zero,u1,u1]
      unfold nh
      simp only
      rw[show(ka != 3)=true by simp[h3]]
      by_cases hn:na=nb
      ·subst hn
       rw[show(na != na)=false by simp,ah,j2f,c3_self,or_zero]
      ·rw[show(na != nb)=true by simp[hn],ap,DQ (Gc hn)]
       unfold nm
       simp only[ap,BL,az]
    ·rw[show(ka != kb)=true by simp[hkk],ap,DQ (Gc hkk)]
end Go.Proofs.YtpiohnabdhpphaaGreatDoor.Ord
namespace Go.Proofs.YtpiohnabdhpphaaGreatDoor
open Go Go.SX Go.SX.Cal
open Go.IntKind (i64)
theorem RH{t:am}{v:ac}(hv:cm v<1000000000)(hT:jX t<1000000000)(h:ck t v=0):V t∧Vq 4 v∧JP 4 t v=true:=by
 obtain⟨e,h1,h2,h3⟩:=pr t hT
 have hc:=Ql hv hT
 rw[h]at hc
 unfold gw at hc
 rw[h1,Bb v hv]at hc
 simp only[ax]at hc
 by_cases he:e=0
 ·subst he
  have ht:=h3 rfl
  cases hs:qg v with
  |false=>rw[hs]at hc;cases hc
  |true=>
   have hS:Vq 4 v:=⟨0,hs⟩
   obtain⟨a,b⟩:=YH 4 aH aH t v hS ht hv hT (by rw[aJ];omega) (by rw[aJ];omega)
   rw[hs,a]at hc
   cases ho:JP 4 t v with
   |false=>rw[ho]at hc;cases hc
   |true=>exact⟨ht,hS,rfl⟩
 ·rw[show(e != (0:Int))=true by simp[he]]at hc
  cases hc;exact absurd rfl he
structure Lv(v:ac):Prop where
 k:0≤v.kind∧v.kind≤5
 n: -999999999999999999≤v.n∧v.n≤999999999999999999
 it:v.items=[]
 s:v.s.size≤256
 sc:0≤v.scale∧v.scale≤12
 nul:v.kind=0→v.n=0∧v.scale=0∧v.s.size=0
theorem NQ{v:ac}(h:de v=true)(h6:v.kind≠6)(h7:v.kind≠7):Lv v:=by
 have hi:=oR h h6 h7
 unfold de AQ at h
 simp only at h
 split at h
 ·simp only[iY,decide_eq_true_eq,beq_iff_eq]at h;exact⟨by omega,by omega,hi,by omega,by omega,fun _=>by omega⟩
 ·split at h
  ·simp only[iY,decide_eq_true_eq,beq_iff_eq]at h;exact⟨by omega,by omega,hi,by omega,by omega,fun _=>by omega⟩
  ·split at h
   ·simp only[iY,decide_eq_true_eq,beq_iff_eq]at h;exact⟨by omega,by omega,hi,by omega,by omega,fun _=>by omega⟩
   ·split at h
    ·simp only[iY,decide_eq_true_eq,beq_iff_eq]at h;exact⟨by omega,by omega,hi,by omega,by omega,fun _=>by omega⟩
    ·split at h
     ·simp only[iY,decide_eq_true_eq,beq_iff_eq]at h;exact⟨by omega,by omega,hi,by omega,by omega,fun _=>by omega⟩
     ·split at h
      ·simp only[iY,decide_eq_true_eq,beq_iff_eq]at h;exact⟨by omega,by omega,hi,by omega,by omega,fun _=>by omega⟩
      ·cases h
theorem BP{t:am}{v:ac}(hv:cm v<1000000000)(hT:jX t<1000000000)(h6:t.kind≠6)(h7:t.kind≠7)(h:ck t v=0):Lv v:=by
 obtain⟨ht,hS,ho⟩:=RH hv hT h
 obtain⟨hp,_⟩:=hS.succ
 have hk:v.kind=0∨v.kind=t.kind:=by
  simp only[JP]at ho
  by_cases h0:v.kind=0
  ·exact .inl h0
  ·rw[if_neg h0]at ho
   by_cases h1:v.kind=t.kind
   ·exact .inr h1
   ·rw[if_pos h1]at ho;cases ho
 exact NQ hp (by rcases hk with h|h<;>omega) (by rcases hk with h|h<;>omega)
theorem Lv.wf{v:ac}(h:Lv v):Ord.wfV v:=by
 obtain⟨k,n,sc,s,it⟩:=v
 obtain⟨h1,h2,h3,h4,h5,h6⟩:=h
 simp only at h1 h2 h3 h5
 subst h3
 simp only[Ord.wfV,Ord.wfL,Ord.i6q]
 exact⟨⟨by omega,by omega⟩,⟨by omega,by omega⟩,⟨by omega,by omega⟩,trivial⟩
theorem Lv.size{v:ac}(h:Lv v):cm v≤257:=by
 rw[xn,h.it]
 have:=h.s
 simp only[fj];omega
theorem Px{a b:ac}(ha:Lv a)(hb:Lv b):dm aH a b=some (Ord.cmpV a b):=by
 have h:=ha.size
 exact Ord.compare_eq 257 a b aH h (by omega) ha.wf hb.wf (by rw[aJ];omega)
theorem Mt{a b:ac}(ha:Lv a)(hb:Lv b):bP aH a b=some (Ord.cmpV a b):=by
 have h:=ha.size
 exact Ord.rcompareV_eq 257 a b aH h (by omega) ha.wf hb.wf (by rw[aJ];omega)
theorem WR{a b:Int}:Ord.c3 a b=0↔a=b:=by
 unfold Ord.c3;split<;>(try split)<;>constructor<;>omega
theorem Jk{x y:Int}:Ord.or' x y=0↔x=0∧y=0:=by
 unfold Ord.or';by_cases h:x=0<;>simp[h]
theorem aco{s t:ByteArray}:Ord.cS s t=0↔s.toList=t.toList:=by
 unfold Ord.cS
 split
 ·rename_i h
  constructor
  ·intro k;omega
  ·intro k;rw[k]at h
   have:=Ord.cmpV_refl ⟨1,0,0,t,[]⟩
   simp only[Ord.cmpV]at this
   rw[Jk,Jk]at this
   have:=this.2.2
   rw[if_neg (by decide),Jk,Jk,Jk,Jk]at this
   have:=this.2.2.2.1
   unfold Ord.cS at this
   rw[if_pos h]at this
   omega
 ·split<;>simp_all
theorem Yv{s t:ByteArray}(h:s.toList=t.toList):s=t:=by
 rw[ByteArray.toList_eq,ByteArray.toList_eq]at h
 exact ByteArray.ext (by rw[←Array.toArray_toList (xs:=s.data),←Array.toArray_toList (xs:=t.data),h])
theorem abL{s t:ByteArray}(h1:s.size=0)(h2:t.size=0):s=t:=
 ByteArray.ext (by rw[Array.eq_empty_of_size_eq_zero h1,Array.eq_empty_of_size_eq_zero h2])
theorem adC{a b:ac}(ha:Lv a)(hb:Lv b):Ord.cmpV a b=0↔a=b:=by
 constructor
 ·intro h
  obtain⟨k,n,sc,s,it⟩:=a
  obtain⟨k',n',sc',s',it'⟩:=b
  have hi:=ha.it;have hi':=hb.it
  simp only at hi hi'
  subst hi;subst hi'
  simp only[Ord.cmpV,Jk,WR]at h
  obtain⟨_,hk,h⟩:=h
  subst hk
  by_cases h0:k=0
  ·obtain⟨a1,a2,a3⟩:=ha.nul h0
   obtain⟨b1,b2,b3⟩:=hb.nul h0
   simp only at a1 a2 a3 b1 b2 b3
   rw[a1,a2,b1,b2,abL a3 b3]
  ·rw[if_neg h0,Jk,Jk,Jk,Jk,WR,WR,WR,aco]at h
   obtain⟨_,hv,hs,ht,_⟩:=h
   subst hs
   have hn:n=n':=by
    unfold Ord.vvI at hv
    by_cases h3:k=3∧Ord.inR sc
    ·rw[if_pos h3,if_pos h3]at hv
     have:=Ord.p10n (12-sc).toNat
     exact Int.eq_of_mul_eq_mul_right (by omega) hv
    ·rw[if_neg h3,if_neg h3]at hv;exact hv
   rw[hn,Yv ht]
 ·rintro rfl;exact Ord.cmpV_refl a
def Wu(a b:ac):Bool:=Ord.cmpV a b==0
theorem Gr{a b:ac}(ha:Lv a)(hb:Lv b):Wu a b=true↔a=b:=by
 unfold Wu;rw[beq_iff_eq];exact adC ha hb
theorem JS{a b:ac}(ha:Lv a)(hb:Lv b):eR aH a b=some (Wu a b):=by
 have key:(if a.kind=b.kind∧a.n=b.n∧a.scale=b.scale∧a.s.toList=b.s.toList then true else false)=Wu a b:=by
  refine kG ?_
  rw[Gr ha hb]
  by_cases h:a.kind=b.kind∧a.n=b.n∧a.scale=b.scale∧a.s.toList=b.s.toList
  ·rw[if_pos h]
   refine⟨fun _=> ?_,fun _=>rfl⟩
   obtain⟨k,n,sc,s,it⟩:=a
   obtain⟨k',n',sc',s',it'⟩:=b
   have hi:=ha.it;have hi':=hb.it
   simp only at hi hi' h
   obtain⟨rfl,rfl,rfl,h⟩:=h
   rw[hi,hi',Yv h]
  ·rw[if_neg h]
   refine⟨(fun h=>by cases h),?_⟩
   rintro rfl
   exact absurd ⟨rfl,rfl,rfl,rfl⟩ h
 have hi:=ha.it;have hi':=hb.it
 rw[Hf,eR.eq_2,←key]
 have ht:∀q,jL q a b true=some false:=fun q=>rfl
 have hf:jL (eR 1152921504606846975) a b ((a.items.length:Int) != (b.items.length:Int))=some true:=by
  rw[hi,hi']
  show nk _ a b aH 0=_
  rw[Hf,nk,hi]
  rfl
 rw[hf]
 simp only[ht,aC]
 by_cases h1:a.kind=b.kind<;>by_cases h2:a.n=b.n<;>by_cases h3:a.scale=b.scale<;>by_cases h4:a.s.toList=b.s.toList<;>simp[h1,h2,h3,h4]
theorem fa{e:Int}{f g:Option Int}(h:e=0→f=g):ee e f=ee e g:=by
 unfold ee;by_cases he:e=0
 ·simp[he,h he]
 ·simp[he]
theorem VP{p:Nat→Bool}{e:Int}(he:e≠0):∀(m i:Nat),fe (fun j=>er (p j) e) m i=er (decide (∃j,j<m∧p (i+j)=true)) e
 |0,i=>by simp[fe,er]
 |m+1,i=>by
  rw[fe,VP he m (i+1)]
  cases hp:p i with
  |true=>
   rw[Rf,PX he,decide_eq_true ⟨0,by omega,by simpa using hp⟩,Rf]
  |false=>
   rw[Ow,OU]
   congr 1
   refine decide_eq_decide.2 ⟨fun⟨j,a,b⟩=>⟨j+1,by omega,by rw[←b];congr 1;omega⟩,fun⟨j,a,b⟩=> ?_⟩
   cases j with
   |zero=>rw[Nat.add_zero,hp]at b;cases b
   |succ j=>exact⟨j,by omega,by rw[←b];congr 1;omega⟩
theorem G6{p:Nat→Bool}{e:Int}(he:e≠0)(n:Nat):fe (fun j=>er (p j) e) n 0=er (lI p n) e:=by
 rw[VP he]
 congr 1
 refine kG ?_
 rw[decide_eq_true_iff,fm]
 simp
def tpI(fs:List ae)(id:Int):Int:=(me fs id).getD 0
def n9(fs:List ae)(id:Int):ae:=((qX fs id).getD (⟨0,ByteArray.empty,false,⟨0,0,[]⟩⟩,false)).1
def Hs(fs:List ae)(id:Int):Bool:=((qX fs id).getD (⟨0,ByteArray.empty,false,⟨0,0,[]⟩⟩,false)).2
theorem AT{fs:List ae}(hn:fs.length<1000000000)(id:Int):
  me fs id=some (tpI fs id)∧qX fs id=some (n9 fs id,Hs fs id)∧decide (tpI fs id<0)= !Hs fs id∧(Hs fs id=true→at? fs (tpI fs id)=some (n9 fs id)∧n9 fs id∈fs):=by
 unfold tpI n9 Hs
 rcases TO.or fs id with⟨i,hi⟩ |hi
 ·rw[Dc hn hi,yt hn hi]
  refine⟨rfl,rfl,?_,fun _=>⟨aD hi.lt,gV hi.lt⟩⟩
  show decide ((i:Int)<0)=false
  simp
 ·obtain⟨g,hg⟩:=B8 hn hi
  rw[CY hn hi,hg]
  exact⟨rfl,rfl,rfl,fun h=>by cases h⟩
def tE(p:aZ)(t:am):am×Int:=(dz p t).getD (A3,0)
theorem Mj(p:aZ){t:am}(h:jX t<1000000000):dz p t=some (tE p t)∧fp p t=some (tE p t)∧jX (tE p t).1<1000000000∧((tE p t).2=0→(tE p t).1.kind≠6∧(tE p t).1.kind≠7):=by
 obtain⟨e,h1,h2,h3⟩:=tt p t h
 unfold tE
 rw[h2,h3]
 refine⟨rfl,rfl,?_,?_⟩
 ·show jX (Kr p t e).1<_
  unfold Kr W8 A3
  repeat' split
  all_goals first|(rw[s7];simp only[eH];omega) |exact h
 ·show(Kr p t e).2=0→_
  intro h0
  have k:=QO h1 h0
  have a:=k.k6;have b:=k.k7
  show(Kr p t e).1.kind≠6∧(Kr p t e).1.kind≠7
  have hc:(Kr p t e).1=⟨2,0,[]⟩∨(Kr p t e).1=t∨(Kr p t e).2≠0:=by
   unfold Kr W8 A3
   repeat' split
   all_goals simp_all
  rcases hc with hc|hc|hc
  ·rw[hc];exact⟨by decide,by decide⟩
  ·rw[hc];exact⟨a,b⟩
  ·exact absurd h0 hc
theorem lc(a b c:Int):dF a b c=some (decide (b≤a∧a≤c)):=by
 unfold dF tN
 by_cases h1:b≤a<;>by_cases h2:a≤c<;>simp[h1,h2,aC]
structure Lj(f:ai):Prop where
 name:f.name.size<1000000000
 part:f.part.length<1000000000∧∀v∈f.part,cm v<1000000000
 stats:f.stats.length<1000000000∧∀s∈f.stats,cm s.min<1000000000∧cm s.max<1000000000
structure S3(f:ai):Prop where
 part:∀v∈f.part,Lv v
 stats:∀s∈f.stats,Lv s.min∧Lv s.max
def DN(f:ae):Bool:=decide (f.type.kind≠6∧f.type.kind≠7)
def CO(fs:List ae):List ae:=fs.filter DN
theorem acz(p1:List ae)(f:ai)(hn:p1.length<1000000000):xp p1 f=ox f (CO p1):=by
 have key:∀(m k i:Nat) (l:List ae),i+m=p1.length→m<k→l.length≤i→jz p1 f k l (i:Int)=ox f (l++CO (p1.drop i)):=by
  intro m
  induction m with
  |zero=>
   intro k i l hi hk hl
   obtain⟨k,rfl⟩:=fu hk
   rw[jz,G2 (by omega),iF,List.drop_of_length_le (by omega)]
   simp[CO]
  |succ m ih=>
   intro k i l hi hk hl
   obtain⟨k,rfl⟩:=fu hk
   have h1:i<p1.length:=by omega
   rw[jz,aV h1,iT,aD h1,bS,Mw,bS]
   unfold vy
   rw[au h1 hn,B3 h1]
   have hf:CO (p1[i]::p1.drop (i+1))=if DN p1[i]then p1[i]::CO (p1.drop (i+1))else CO (p1.drop (i+1)):=by unfold CO;rw[List.filter_cons]
   rw[hf]
   show aj (DN p1[i]) _ _=_
   cases hb:DN p1[i]with
   |true=>rw[iT,gP (by omega),ih k (i+1) _ (by omega) (by omega) (by simp;omega)];simp
   |false=>rw[iF,ih k (i+1) _ (by omega) (by omega) (by omega)];simp
 have:=key p1.length aH 0 [] (by omega) (by rw[aJ];omega) (Nat.zero_le _)
 unfold xp
 rw[show((0:Nat):Int)=0 from rfl]at this
 rw[this,List.nil_append,List.drop_zero]
theorem acg(p1:List ae)(f:ai)(hn:p1.length<1000000000):qC f p1=lp f (CO p1):=by
 have key:∀(m k i:Nat) (l:List ae),i+m=p1.length→m<k→l.length≤i→fY f p1 k l (i:Int)=lp f (l++CO (p1.drop i)):=by
  intro m
  induction m with
  |zero=>
   intro k i l hi hk hl
   obtain⟨k,rfl⟩:=fu hk
   rw[fY,G2 (by omega),iF,List.drop_of_length_le (by omega)]
   simp[CO]
  |succ m ih=>
   intro k i l hi hk hl
   obtain⟨k,rfl⟩:=fu hk
   have h1:i<p1.length:=by omega
   rw[fY,aV h1,iT,aD h1,bS,HU,bS]
   unfold qz
   rw[au h1 hn,B3 h1]
   have hf:CO (p1[i]::p1.drop (i+1))=if DN p1[i]then p1[i]::CO (p1.drop (i+1))else CO (p1.drop (i+1)):=by unfold CO;rw[List.filter_cons]
   rw[hf]
   show aj (DN p1[i]) _ _=_
   cases hb:DN p1[i]with
   |true=>rw[iT,gP (by omega),ih k (i+1) _ (by omega) (by omega) (by simp;omega)];simp
   |false=>rw[iF,ih k (i+1) _ (by omega) (by omega) (by omega)];simp
 have:=key p1.length aH 0 [] (by omega) (by rw[aJ];omega) (Nat.zero_le _)
 unfold qC
 rw[show((0:Nat):Int)=0 from rfl]at this
 rw[this,List.nil_append,List.drop_zero]
theorem Rl{fs:List ae}{g:ae}(h:g∈CO fs):g∈fs∧g.type.kind≠6∧g.type.kind≠7:=by
 unfold CO at h
 obtain⟨h1,h2⟩:=List.mem_filter.1 h
 unfold DN at h2
 exact⟨h1,by simpa using h2⟩
noncomputable def Z6(t:am)(s:cc)(rows:Int):Int:=
 qm (er (!decide (0≤s.nulls∧s.nulls≤rows)) 3) (qm (ck t s.min) (qm (ck t s.max) (er (!((s.min.kind==0)==(s.nulls==rows))||(!((s.max.kind==0)==(s.nulls==rows))||decide (0<Ord.cmpV s.min s.max))) 1)))
noncomputable def Jg(f:ai)(l:List ae):Int:=
 if hl:f.stats.length=l.length then
  qm (er (lI (fun j=>match f.stats[j]?,l[j]? with|some s,some x=> !(s.id==x.id) |_,_=>false) f.stats.length) 1)
   (fe (fun j=>match f.stats[j]?,l[j]? with|some s,some x=>Z6 x.type s f.rows|_,_=>0) f.stats.length 0)
 else 1
theorem abx{f:ai}{l:List ae}(hf:Lj f)(hl:∀x∈l,jX x.type<1000000000∧x.type.kind≠6∧x.type.kind≠7):ox f l=some (Jg f l):=by
 unfold ox bU Jg
 by_cases h:f.stats.length=l.length
 ·rw[dif_pos h,show((f.stats.length:Int) != (l.length:Int))=false by simp[h],iF]
  rw[Ft (L:=aI f.stats l) (n:=f.stats.length) (p:=fun j=>match f.stats[j]?,l[j]? with|some s,some x=> !(s.id==x.id) |_,_=>false) hf.stats.1
   (fun k=>by rw[aI,vU,iF];rfl)
   (fun k i hi=>by
    rw[aI,aV hi,iT,aD hi,aD (show i<l.length by omega),bS,bS,Ba,bS,au hi hf.stats.1,dJ hi,dJ (show i<l.length by omega)]),bS]
  unfold Uc
  rw[Bool.not_not,eb (by decide)]
  rw[iw (L:=ix f l) (n:=f.stats.length) (fin:=some 0) (c:=fun j=>match f.stats[j]?,l[j]? with|some s,some x=>Z6 x.type s f.rows|_,_=>0) hf.stats.1
   (fun k=>by rw[ix,vU,iF];rfl)
   (fun k i hi=>by
    have hi':i<l.length:=by omega
    obtain⟨g1,g2⟩:=hf.stats.2 _ (gV hi)
    obtain⟨g3,g4,g5⟩:=hl _ (gV hi')
    rw[ix,aV hi,iT,aD hi,bS,lc,bS,eb (by decide)]
    show ee _ (al (some f.stats[i].min) _)=_
    rw[bS,aD hi',bS,Ql g1 g3,bS,iA]
    show ee _ (ee _ (al (some f.stats[i].max) _))=_
    rw[bS,Ql g2 g3,bS,iA,dJ hi,dJ hi']
    simp only
    unfold Z6
    rw[←bA,←bA,←bA]
    refine fa fun _=>fa fun e1=>fa fun e2=> ?_
    rw[Px (BP g1 g3 g4 g5 e1) (BP g2 g3 g4 g5 e2),bS]
    unfold qL
    rw[au hi hf.stats.1]
    generalize (!((f.stats[i].min.kind==0)==(f.stats[i].nulls==f.rows)))=b1
    generalize (!((f.stats[i].max.kind==0)==(f.stats[i].nulls==f.rows)))=b2
    generalize decide (0<Ord.cmpV f.stats[i].min f.stats[i].max)=b3
    cases b1<;>cases b2<;>cases b3<;>rfl),ej,Ay]
 ·rw[dif_neg h,show((f.stats.length:Int) != (l.length:Int))=true by simp;omega,iT,bS]
  rfl
theorem abn{f:ai}{l:List ae}(hf:Lj f)(hl:∀x∈l,jX x.type<1000000000∧x.type.kind≠6∧x.type.kind≠7):lp f l=some (Jg f l):=by
 unfold lp Jg
 by_cases h:f.stats.length=l.length
 ·rw[dif_pos h,show((l.length:Int) != (f.stats.length:Int))=false by simp[h],iF]
  have hn:l.length<1000000000:=by have:=hf.stats.1;omega
  rw[iw (L:=jq f l) (n:=l.length) (fin:=qn f l) (c:=fun j=>er (match f.stats[j]?,l[j]? with|some s,some x=> !(s.id==x.id) |_,_=>false) 1) hn
   (fun k=>by rw[jq,vU,iF])
   (fun k i hi=>by
    have hi':i<f.stats.length:=by omega
    rw[jq,aV hi,iT,aD hi,aD hi',bS,bS,au hi hn,eb (by decide),dJ hi,dJ hi']
    simp only
    rw[show(l[i].id != f.stats[i].id)= !(f.stats[i].id==l[i].id) by rw[bne,Bool.beq_comm]])]
  rw[G6 (by decide),←h]
  unfold qn
  rw[iw (L:=fc f l) (n:=f.stats.length) (fin:=some 0) (c:=fun j=>match f.stats[j]?,l[j]? with|some s,some x=>Z6 x.type s f.rows|_,_=>0) hf.stats.1
   (fun k=>by rw[fc,vU,iF];rfl)
   (fun k i hi=>by
    have hi':i<l.length:=by omega
    obtain⟨g1,g2⟩:=hf.stats.2 _ (gV hi)
    obtain⟨g3,g4,g5⟩:=hl _ (gV hi')
    rw[fc,aV hi,iT,aD hi,bS,pw,bS,eb (by decide),aD hi',bS,Tr g1 g3,bS,iA,Tr g2 g3,bS,iA,dJ hi,dJ hi']
    simp only
    unfold Z6
    rw[←bA,←bA,←bA]
    refine fa fun _=>fa fun e1=>fa fun e2=> ?_
    rw[Mt (BP g1 g3 g4 g5 e1) (BP g2 g3 g4 g5 e2),bS]
    unfold nI
    rw[au hi hf.stats.1]
    generalize (!((f.stats[i].min.kind==0)==(f.stats[i].nulls==f.rows)))=b1
    generalize (!((f.stats[i].max.kind==0)==(f.stats[i].nulls==f.rows)))=b2
    generalize decide (0<Ord.cmpV f.stats[i].min f.stats[i].max)=b3
    cases b1<;>cases b2<;>cases b3<;>rfl),ej,Ay]
 ·rw[dif_neg h,show((l.length:Int) != (f.stats.length:Int))=true by simp;omega,iT]
theorem Z9{f:ai}{l:List ae}(hf:Lj f)(hl:∀x∈l,jX x.type<1000000000∧x.type.kind≠6∧x.type.kind≠7)(h:Jg f l=0):∀s∈f.stats,Lv s.min∧Lv s.max:=by
 unfold Jg at h
 by_cases hh:f.stats.length=l.length
 ·rw[dif_pos hh,lx,N5]at h
  intro s hs
  obtain⟨i,hi,rfl⟩:=Kb.1 hs
  have hi':i<l.length:=by omega
  have:=h.2 i (Nat.zero_le _) (by omega)
  rw[dJ hi,dJ hi']at this
  simp only[Z6,lx]at this
  obtain⟨g1,g2⟩:=hf.stats.2 _ (gV hi)
  obtain⟨g3,g4,g5⟩:=hl _ (gV hi')
  exact⟨BP g1 g3 g4 g5 this.2.1,BP g2 g3 g4 g5 this.2.2.1⟩
 ·rw[dif_neg hh]at h;cases h
structure QD(s:ar):Prop where
 files:s.files.length<1000000000∧∀f∈s.files,Lj f
 dat:s.dat.length<1000000000∧∀d∈s.dat,d.rows.length<1000000000
 dby:s.dby.length<1000000000∧∀d∈s.dby,d.ids.length<1000000000∧d.keys.length<1000000000∧∀k∈d.keys,k.length<1000000000∧∀v∈k,cm v<1000000000
structure ul(m:ay):Prop where
 schemas:m.schemas.length<1000000000∧∀s∈m.schemas,eH s<1000000000-1
 specs:m.specs.length<1000000000∧∀s∈m.specs,s.fields.length<1000000000
 snaps:m.snapshots.length<1000000000∧∀s∈m.snapshots,QD s
 refs:m.refs.length<1000000000∧∀r∈m.refs,r.name.size<1000000000
 props:m.props.length<1000000000∧∀p∈m.props,p.name.size<1000000000∧p.value.size<100000000
theorem LM{Z:Type}{z:Z}{n:Nat}{L:Nat→Int→Option (Int×Z)}{p:Nat→Bool}(h0:∀k,L (k+1) (n:Int)=some (-1,z))(h1:∀k i,i<n→L (k+1) (i:Int)=aj (p i) (some ((i:Int),z)) (L k ((i+1:Nat):Int))):
  ∀m k i,i+m=n→m<k→∃r,L k (i:Int)=some (r,z)∧(decide ((0:Int)≤r)=true↔∃j,i≤j∧j<n∧p j=true)
 |0,k,i,hi,hk=>by
  obtain⟨k,rfl⟩:=fu hk
  have:i=n:=by omega
  subst this
  exact⟨-1,h0 k,by simp;intro j h1 h2;omega⟩
 |m+1,k,i,hi,hk=>by
  obtain⟨k,rfl⟩:=fu hk
  rw[h1 k i (by omega)]
  cases hp:p i with
  |true=>exact⟨i,rfl,by simp;exact⟨i,iD _,by omega,hp⟩⟩
  |false=>
   obtain⟨r,e1,e2⟩:=LM h0 h1 m k (i+1) (by omega) (by omega)
   refine⟨r,e1,e2.trans ⟨fun⟨j,a,b,c⟩=>⟨j,by omega,b,c⟩,fun⟨j,a,b,c⟩=>⟨j,?_,b,c⟩⟩⟩
   by_cases e:j=i
   ·subst e;rw[hp]at c;cases c
   ·omega
theorem FE{Z:Type}{z:Z}{n:Nat}{L:Nat→Int→Option (Int×Z)}{p:Nat→Bool}(hn:n<1000000000)(h0:∀k,L (k+1) (n:Int)=some (-1,z))(h1:∀k i,i<n→L (k+1) (i:Int)=aj (p i) (some ((i:Int),z)) (L k ((i+1:Nat):Int))):
  ∃r,L aH (0:Int)=some (r,z)∧decide ((0:Int)≤r)=lI p n:=by
 obtain⟨r,e1,e2⟩:=LM h0 h1 n aH 0 (by omega) (by rw[aJ];omega)
 refine⟨r,e1,kG (e2.trans (Iff.trans ?_ fm.symm))⟩
 exact⟨fun⟨j,_,b,c⟩=>⟨j,b,c⟩,fun⟨j,b,c⟩=>⟨j,Nat.zero_le _,b,c⟩⟩
theorem EW{α:Type}{l:List α}{x:Int}(h0:0≤x)(h1:x≤(l.length:Int)-1):∃(h:x.toNat<l.length),at? l x=some l[x.toNat]∧l[x.toNat]? =some l[x.toNat]:=by
 have h:x.toNat<l.length:=by omega
 refine⟨h,?_,dJ h⟩
 have:=aD h
 rwa [show((x.toNat:Nat):Int)=x by omega]at this
def ug(fs:List ae)(sp:cD)(j:Nat):Bool:=match sp.fields[j]? with|some x=> !Hs fs x.source|none=>false
noncomputable def I9(fs:List ae)(sp:cD)(f:ai)(j:Nat):Int:=match sp.fields[j]?,f.part[j]? with
 |some x,some v=>qm (er ((tE x.transform (n9 fs x.source).type).2 != 0) 2) (ck (tE x.transform (n9 fs x.source).type).1 v)
 |_,_=>0
noncomputable def Gd(fs:List ae)(sp:cD)(f:ai):Int:=
 qm (er (lI (ug fs sp) sp.fields.length) 9) (qm (er ((f.part.length:Int) != (sp.fields.length:Int)) 1) (qm (fe (I9 fs sp f) sp.fields.length 0) (Jg f (CO fs))))
def Sc(m:ay)(f:ai):Bool:=
 !decide (0≤f.schema∧f.schema≤(m.schemas.length:Int)-1)||(!decide (0≤f.spec∧f.spec≤(m.specs.length:Int)-1)||(!decide (1≤f.rows∧f.rows≤2000)||decide (f.seq<1)))
noncomputable def yj(m:ay)(f:ai):Int:=
 qm (er (!Pd f.name) 4) (qm (er (Sc m f) 3) (match m.schemas[f.schema.toNat]?,m.specs[f.spec.toNat]? with|some fs,some sp=>Gd fs sp f|_,_=>0))
theorem N4{m:ay}{f:ai}(h:Sc m f=false):∃fs sp,at? m.schemas f.schema=some fs∧at? m.specs f.spec=some sp∧m.schemas[f.schema.toNat]? =some fs∧m.specs[f.spec.toNat]? =some sp∧fs∈m.schemas∧sp∈m.specs:=by
 unfold Sc at h
 simp only[Bool.or_eq_false_iff,Bool.not_eq_false',decide_eq_true_eq]at h
 obtain⟨⟨a1,a2⟩,⟨b1,b2⟩,_⟩:=h
 obtain⟨h1,h2,h3⟩:=EW a1 a2
 obtain⟨g1,g2,g3⟩:=EW b1 b2
 exact⟨_,_,h2,g2,h3,g3,gV h1,gV g1⟩
theorem Q9{fs:List ae}(h:eH fs<1000000000-1):∀x∈CO fs,jX x.type<1000000000∧x.type.kind≠6∧x.type.kind≠7:=by
 intro x hx
 obtain⟨h1,h2,h3⟩:=Rl hx
 have a:=lg h1
 have b:=kr x
 exact⟨by omega,h2,h3⟩
theorem Cz{fs:List ae}(h:eH fs<1000000000-1){g:ae}(hg:g∈fs):jX g.type<1000000000:=by
 have a:=lg hg
 have b:=kr g
 omega
theorem Z8{fs:List ae}{sp:cD}(hn:fs.length<1000000000)(hs:sp.fields.length<1000000000):bo sp.fields fs=some (lI (ug fs sp) sp.fields.length,fs):=by
 unfold bo cI
 obtain⟨r,r1,r2⟩:=FE (z:=fs) (L:=fun k i=>aQ sp.fields k fs i) (n:=sp.fields.length) (p:=ug fs sp) hs
  (fun k=>by rw[aQ,vU,iF];rfl)
  (fun k i hi=>by
   obtain⟨t1,_,t3,_⟩:=AT hn sp.fields[i].source
   rw[aQ,aV hi,iT,aD hi,bS,Cw,t1,bS,bS,t3,au hi hs]
   unfold ug
   rw[dJ hi])
 have r1:aQ sp.fields aH fs (0:Int)=some (r,fs):=r1
 rw[r1,bS]
 show some (decide (0≤r),fs)=_
 rw[r2]
theorem Zr{fs:List ae}{sp:cD}{f:ai}(hf:Lj f)(hfs:eH fs<1000000000-1)(hs:sp.fields.length<1000000000):
  (al (bo sp.fields fs) fun r5=>aj r5.1 (some (9:Int)) (aj ((f.part.length:Int) != (sp.fields.length:Int)) (some (1:Int)) (lX f sp r5 aH (0:Int))))=some (Gd fs sp f):=by
 have hn:fs.length<1000000000:=by have:=dE fs;omega
 rw[Z8 hn hs,bS]
 unfold Gd
 show aj (lI (ug fs sp) sp.fields.length) _ _=_
 rw[eb (by decide),eb (by decide),←ej,←bA,←bA,←bA]
 refine fa fun e1=>fa fun e2=> ?_
 have hl:∀(i:Nat) (h:i<sp.fields.length),Hs fs sp.fields[i].source=true:=fun i h=>by
  rw[D8 (by decide),←Bool.not_eq_true,fm]at e1
  cases hb:Hs fs sp.fields[i].source with
  |true=>rfl
  |false=>exact absurd ⟨i,h,by unfold ug;rw[dJ h];simp[hb]⟩ e1
 have hp:f.part.length=sp.fields.length:=by
  rw[D8 (by decide),bne_eq_false_iff_eq]at e2;omega
 rw[iw (L:=lX f sp (lI (ug fs sp) sp.fields.length,fs)) (n:=sp.fields.length) (fin:=some (Jg f (CO fs))) (c:=I9 fs sp f) hs
  (fun k=>by
   rw[lX,vU,iF]
   unfold Be
   show al (xp fs f) _=_
   rw[acz fs f hn,abx hf (Q9 hfs),bS])
  (fun k i hi=>by
   obtain⟨t1,_,t3,t4⟩:=AT hn sp.fields[i].source
   obtain⟨t5,t6⟩:=t4 (hl i hi)
   obtain⟨u1,_,u3,u4⟩:=Mj sp.fields[i].transform (Cz hfs t6)
   have hi':i<f.part.length:=by omega
   rw[lX,aV hi,iT,aD hi,bS]
   show al (me fs _) _=_
   rw[t1,bS]
   show al (at? fs _) _=_
   rw[t5,bS,u1,bS,eb (by decide),aD hi',bS,Ql (hf.part.2 _ (gV hi')) u3,bS,iA,au hi hs,bA]
   unfold I9
   rw[dJ hi,dJ hi'])]
 rw[ej]
theorem aae{fs:List ae}{sp:cD}{f:ai}(hf:Lj f)(hfs:eH fs<1000000000-1)(hs:sp.fields.length<1000000000):
  ic f fs sp aH (0:Int)=some (Gd fs sp f):=by
 have hn:fs.length<1000000000:=by have:=dE fs;omega
 unfold Gd
 rw[←ej,←bA,←bA,←bA]
 rw[iw (L:=ic f fs sp) (n:=sp.fields.length) (fin:=qt f fs sp) (c:=fun j=>er (ug fs sp j) 9) hs
  (fun k=>by rw[ic,vU,iF])
  (fun k i hi=>by
   obtain⟨_,t2,_,_⟩:=AT hn sp.fields[i].source
   rw[ic,aV hi,iT,aD hi,bS,t2,bS,eb (by decide),au hi hs]
   unfold ug
   rw[dJ hi])]
 rw[G6 (by decide)]
 refine fa fun e1=> ?_
 have hl:∀(i:Nat) (h:i<sp.fields.length),Hs fs sp.fields[i].source=true:=fun i h=>by
  rw[D8 (by decide),←Bool.not_eq_true,fm]at e1
  cases hb:Hs fs sp.fields[i].source with
  |true=>rfl
  |false=>exact absurd ⟨i,h,by unfold ug;rw[dJ h];simp[hb]⟩ e1
 unfold qt
 rw[eb (by decide)]
 refine fa fun e2=> ?_
 have hp:f.part.length=sp.fields.length:=by
  rw[D8 (by decide),bne_eq_false_iff_eq]at e2;omega
 rw[iw (L:=jC f fs sp) (n:=sp.fields.length) (fin:=some (Jg f (CO fs))) (c:=I9 fs sp f) hs
  (fun k=>by rw[jC,vU,iF,acg fs f hn,abn hf (Q9 hfs)])
  (fun k i hi=>by
   obtain⟨_,t2,_,t4⟩:=AT hn sp.fields[i].source
   obtain⟨t5,t6⟩:=t4 (hl i hi)
   obtain⟨_,u2,u3,u4⟩:=Mj sp.fields[i].transform (Cz hfs t6)
   have hi':i<f.part.length:=by omega
   rw[jC,aV hi,iT,aD hi,bS,t2,bS,u2,bS,eb (by decide),aD hi',bS,Tr (hf.part.2 _ (gV hi')) u3,bS,iA,au hi hs,bA]
   unfold I9
   rw[dJ hi,dJ hi'])]
 rw[ej]
theorem U9{m:ay}{f:ai}(hm:ul m)(hf:Lj f):zr m f=some (yj m f):=by
 unfold zr yj
 rw[ad4 _ hf.name,bS,eb (by decide),←ej,←bA,←bA]
 refine fa fun _=> ?_
 have hj:∀x,x=Sc m f→n7 m f x=ee (er (Sc m f) 3) (ee (match m.schemas[f.schema.toNat]?,m.specs[f.spec.toNat]? with|some fs,some sp=>Gd fs sp f|_,_=>0) (some 0)):=by
  rintro x rfl
  unfold n7
  rw[eb (by decide)]
  refine fa fun e=> ?_
  obtain⟨fs,sp,h1,h2,h3,h4,h5,h6⟩:=N4 ((D8 (by decide)).1 e)
  rw[h1,h2,h3,h4,bS,bS,Zr hf (hm.schemas.2 _ h5) (hm.specs.2 _ h6),ej]
 rw[lc,bS,ld hm.schemas.1]
 have hr:Sc m f=Sc m f:=rfl
 conv at hr=>rhs;unfold Sc
 cases a:decide (0≤f.schema∧f.schema≤(m.schemas.length:Int)-1)with
 |false=>rw[a]at hr;rw[Bool.not_false,iT];exact hj true (by rw[hr];rfl)
 |true=>
  rw[a]at hr
  rw[Bool.not_true,iF,lc,bS,ld hm.specs.1]
  cases b:decide (0≤f.spec∧f.spec≤(m.specs.length:Int)-1)with
  |false=>rw[b]at hr;rw[Bool.not_false,iT];exact hj true (by rw[hr];rfl)
  |true=>
   rw[b]at hr
   rw[Bool.not_true,iF,lc,bS]
   cases c:decide (1≤f.rows∧f.rows≤2000)with
   |false=>rw[c]at hr;rw[Bool.not_false,iT];exact hj true (by rw[hr];rfl)
   |true=>rw[c]at hr;rw[Bool.not_true,iF];exact hj _ (by rw[hr];rfl)
theorem UT{m:ay}{f:ai}(hm:ul m)(hf:Lj f):qU m f=some (yj m f):=by
 unfold qU yj
 rw[adH _ hf.name,bS,eb (by decide),←ej,←bA,←bA]
 refine fa fun _=> ?_
 have hj:∀x,x=Sc m f→jv m f x=ee (er (Sc m f) 3) (ee (match m.schemas[f.schema.toNat]?,m.specs[f.spec.toNat]? with|some fs,some sp=>Gd fs sp f|_,_=>0) (some 0)):=by
  rintro x rfl
  unfold jv
  rw[eb (by decide)]
  refine fa fun e=> ?_
  obtain⟨fs,sp,h1,h2,h3,h4,h5,h6⟩:=N4 ((D8 (by decide)).1 e)
  rw[h1,h2,h3,h4,bS,bS,aae hf (hm.schemas.2 _ h5) (hm.specs.2 _ h6),ej]
 rw[pw,bS,ld hm.schemas.1]
 have hr:Sc m f=Sc m f:=rfl
 conv at hr=>rhs;unfold Sc
 cases a:decide (0≤f.schema∧f.schema≤(m.schemas.length:Int)-1)with
 |false=>rw[a]at hr;rw[Bool.not_false,iT];exact hj true (by rw[hr];rfl)
 |true=>
  rw[a]at hr
  rw[Bool.not_true,iF,pw,bS,ld hm.specs.1]
  cases b:decide (0≤f.spec∧f.spec≤(m.specs.length:Int)-1)with
  |false=>rw[b]at hr;rw[Bool.not_false,iT];exact hj true (by rw[hr];rfl)
  |true=>
   rw[b]at hr
   rw[Bool.not_true,iF,pw,bS]
   cases c:decide (1≤f.rows∧f.rows≤2000)with
   |false=>rw[c]at hr;rw[Bool.not_false,iT];exact hj true (by rw[hr];rfl)
   |true=>rw[c]at hr;rw[Bool.not_true,iF];exact hj _ (by rw[hr];rfl)
theorem R3{m:ay}{f:ai}(hm:ul m)(hf:Lj f)(h:yj m f=0):S3 f:=by
 unfold yj at h
 rw[lx,lx]at h
 obtain⟨_,h2,h3⟩:=h
 obtain⟨fs,sp,_,_,g3,g4,g5,g6⟩:=N4 ((D8 (by decide)).1 h2)
 rw[g3,g4]at h3
 simp only at h3
 unfold Gd at h3
 rw[lx,lx,lx]at h3
 obtain⟨e1,e2,e3,e4⟩:=h3
 have hfs:=hm.schemas.2 _ g5
 have hn:fs.length<1000000000:=by have:=dE fs;omega
 refine⟨fun v hv=> ?_,Z9 hf (Q9 hfs) e4⟩
 have hp:f.part.length=sp.fields.length:=by
  rw[D8 (by decide),bne_eq_false_iff_eq]at e2;omega
 obtain⟨i,hi',rfl⟩:=Kb.1 hv
 have hi:i<sp.fields.length:=by omega
 have hb:Hs fs sp.fields[i].source=true:=by
  rw[D8 (by decide),←Bool.not_eq_true,fm]at e1
  cases hb:Hs fs sp.fields[i].source with
  |true=>rfl
  |false=>exact absurd ⟨i,hi,by unfold ug;rw[dJ hi];simp[hb]⟩ e1
 obtain⟨_,_,_,t4⟩:=AT hn sp.fields[i].source
 obtain⟨t5,t6⟩:=t4 hb
 obtain⟨_,_,u3,u4⟩:=Mj sp.fields[i].transform (Cz hfs t6)
 have:=N5.1 e3 i (Nat.zero_le _) (by omega)
 unfold I9 at this
 rw[dJ hi,dJ hi']at this
 simp only[lx]at this
 obtain⟨k1,k2⟩:=u4 (by have:=(D8 (by decide)).1 this.1;rwa [bne_eq_false_iff_eq]at this)
 exact BP (hf.part.2 _ hv) u3 k1 k2 this.2
end Go.Proofs.YtpiohnabdhpphaaGreatDoor
namespace Go.SX.Cal
open Go Go.Lib
theorem Q4:∀a:List UInt8,compareBytes a a=0
 |[]=>rfl
 |x::a=>by
  rw[compareBytes,if_neg (by simp[UInt8.lt_irrefl]),if_neg (by simp[UInt8.lt_irrefl])]
  exact Q4 a
theorem Q8:∀a b:List UInt8,compareBytes a b=0→a=b
 |[],[],_=>rfl
 |[],_::_,h=>by simp[compareBytes]at h
 |_::_,[],h=>by simp[compareBytes]at h
 |x::a,y::b,h=>by
  rw[compareBytes]at h
  split at h
  ·simp at h
  ·split at h
   ·simp at h
   ·rename_i h1 h2
    rw[Q8 a b h,UInt8.le_antisymm (UInt8.not_lt.1 h2) (UInt8.not_lt.1 h1)]
theorem Sk:∀a b:List UInt8,compareBytes a b= - compareBytes b a
 |[],[]=>rfl
 |[],_::_=>rfl
 |_::_,[]=>rfl
 |x::a,y::b=>by
  rw[compareBytes,compareBytes]
  by_cases h1:x<y
  ·rw[if_pos h1,if_neg (UInt8.lt_asymm h1),if_pos h1]
  ·rw[if_neg h1]
   by_cases h2:y<x
   ·rw[if_pos h2,if_pos h2];rfl
   ·rw[if_neg h2,if_neg h2,if_neg h1];exact Sk a b
theorem JU:∀a b c:List UInt8,compareBytes a b<0→compareBytes b c<0→compareBytes a c<0
 |[],[],_,h,_=>by simp[compareBytes]at h
 |[],_::_,[],_,h=>by simp[compareBytes]at h
 |[],_::_,_::_,_,_=>by simp[compareBytes]
 |_::_,[],_,h,_=>by simp[compareBytes]at h
 |_::_,_::_,[],_,h=>by simp[compareBytes]at h
 |x::a,y::b,z::c,h,k=>by
  rw[compareBytes]at h k⊢
  by_cases h1:x<y
  ·by_cases h2:y<z
   ·rw[if_pos (UInt8.lt_trans h1 h2)];decide
   ·rw[if_neg h2]at k
    by_cases h3:z<y
    ·rw[if_pos h3]at k;simp at k
    ·have:y=z:=UInt8.le_antisymm (UInt8.not_lt.1 h3) (UInt8.not_lt.1 h2)
     subst this
     rw[if_pos h1];decide
  ·rw[if_neg h1]at h
   by_cases h4:y<x
   ·rw[if_pos h4]at h;simp at h
   ·rw[if_neg h4]at h
    have:x=y:=UInt8.le_antisymm (UInt8.not_lt.1 h4) (UInt8.not_lt.1 h1)
    subst this
    by_cases h2:x<z
    ·rw[if_pos h2];decide
    ·rw[if_neg h2]at k⊢
     by_cases h3:z<x
     ·rw[if_pos h3]at k;simp at k
     ·rw[if_neg h3]at k⊢
      exact JU a b c h k
def zd(a b:ByteArray):Int:=compareBytes a.data.toList b.data.toList
theorem wy(a:ByteArray):zd a a=0:=Q4 _
theorem Hr{a b:ByteArray}(h:zd a b=0):a=b:=by
 have:=Q8 _ _ h
 exact ByteArray.ext (Array.toList_inj.1 this)
theorem B5{a b c:ByteArray}(h:zd a b<0)(k:zd b c<0):zd a c<0:=JU _ _ _ h k
end Go.SX.Cal
namespace Go.Proofs.YtpiohnabdhpphaaGreatDoor
open Go Go.SX Go.SX.Cal
open Go.IntKind (i64)
theorem NF{n:Nat}{L:Nat→Int→Option Int}{fin:Option Int}{c:Nat→Int}(h0:(∀j,j<n→c j=0)→∀k,L (k+1) (n:Int)=fin)
  (h1:∀k i,i<n→(∀j,j<i→c j=0)→L (k+1) (i:Int)=ee (c i) (L k ((i+1:Nat):Int))):
  ∀m k i,i+m=n→m<k→(∀j,j<i→c j=0)→L k (i:Int)=ee (fe c m i) fin
 |0,k,i,hi,hk,hp=>by
  obtain⟨k,rfl⟩:=fu hk
  have:i=n:=by omega
  subst this
  rw[h0 hp];rfl
 |m+1,k,i,hi,hk,hp=>by
  obtain⟨k,rfl⟩:=fu hk
  rw[h1 k i (by omega) hp,fe,←bA]
  refine fa fun e=> ?_
  exact NF h0 h1 m k (i+1) (by omega) (by omega) fun j hj=>by
   by_cases h:j=i
   ·subst h;exact e
   ·exact hp j (by omega)
theorem RM{n:Nat}{L:Nat→Int→Option Int}{fin:Option Int}{c:Nat→Int}(hn:n<1000000000)(h0:(∀j,j<n→c j=0)→∀k,L (k+1) (n:Int)=fin)
  (h1:∀k i,i<n→(∀j,j<i→c j=0)→L (k+1) (i:Int)=ee (c i) (L k ((i+1:Nat):Int))):L aH (0:Int)=ee (fe c n 0) fin:=
 NF h0 h1 n aH 0 (by omega) (by rw[aJ];omega) fun j hj=>by omega
theorem Nu{n lo:Nat}{L:Nat→Int→Option Int}{fin:Option Int}{c:Nat→Int}(h0:∀k,L (k+1) (n:Int)=fin)(h1:∀k i,lo≤i→i<n→L (k+1) (i:Int)=ee (c i) (L k ((i+1:Nat):Int))):
  ∀m k i,i+m=n→m<k→lo≤i→L k (i:Int)=ee (fe c m i) fin
 |0,k,i,hi,hk,_=>by
  obtain⟨k,rfl⟩:=fu hk
  have:i=n:=by omega
  subst this
  rw[h0];rfl
 |m+1,k,i,hi,hk,hl=>by
  obtain⟨k,rfl⟩:=fu hk
  rw[h1 k i hl (by omega),Nu h0 h1 m k (i+1) (by omega) (by omega) (by omega),bA];rfl
def KL(l:List Int)(j:Nat):Bool:=match l[j]?,l[j-1]? with|some a,some b=>decide (a≤b) |_,_=>false
def Vm(l:List Int):Bool:=decide (∃j,j<l.length-1∧KL l (1+j)=true)
def F6(l:List Int):Bool:=decide (0<l.length)&& !Vm l
theorem Ok{l:List Int}(hn:l.length<1000000000){L:Nat→Int→Option Bool}(hz:l.length=0→∀k,L (k+1) 1=some false)(h0:0<l.length→∀k,L (k+1) (l.length:Int)=some true)
  (h1:∀k i,0<i→i<l.length→L (k+1) (i:Int)=aj (KL l i) (some false) (L k ((i+1:Nat):Int))):L aH (1:Int)=some (F6 l):=by
 unfold F6
 by_cases hl:l.length=0
 ·rw[Hf,hz hl];simp[hl]
 ·have key:∀m k i,i+m=l.length→0<i→m<k→L k (i:Int)=some (!decide (∃j,j<m∧KL l (i+j)=true)):=by
   intro m
   induction m with
   |zero=>
    intro k i hi hp hk
    obtain⟨k,rfl⟩:=fu hk
    have:i=l.length:=by omega
    rw[this,h0 (by omega)];simp
   |succ m ih=>
    intro k i hi hp hk
    obtain⟨k,rfl⟩:=fu hk
    rw[h1 k i hp (by omega)]
    cases hd:KL l i with
    |true=>rw[iT,decide_eq_true ⟨0,by omega,by simpa using hd⟩];rfl
    |false=>
     rw[iF,ih k (i+1) (by omega) (by omega) (by omega)]
     congr 2
     refine decide_eq_decide.2 ⟨fun⟨j,a,b⟩=>⟨j+1,by omega,by rw[←b];congr 1;omega⟩,fun⟨j,a,b⟩=> ?_⟩
     cases j with
     |zero=>rw[Nat.add_zero,hd]at b;cases b
     |succ j=>exact⟨j,by omega,by rw[←b];congr 1;omega⟩
  have:=key (l.length-1) aH 1 (by omega) (by omega) (by rw[aJ];omega)
  have h2:L aH (1:Int)=_:=this
  rw[h2,decide_eq_true (show 0<l.length by omega),Bool.true_and]
  rfl
theorem IS{l:List Int}{i:Nat}(hi:i<l.length)(h0:0<i):KL l i=decide (l[i]≤l[i-1]):=by
 unfold KL
 rw[dJ hi,dJ (show i-1<l.length by omega)]
theorem U5{l:List Int}(hn:l.length<1000000000):sk l=some (F6 l):=by
 unfold sk
 exact Ok hn (L:=jM l)
  (fun h k=>by
   rw[jM,h]
   show some (decide ((0:Int)<(l.length:Int)))=_
   rw[h];rfl)
  (fun h k=>by
   rw[jM,vU,iF]
   show some (decide ((0:Int)<(l.length:Int)))=_
   rw[decide_eq_true (by omega)])
  (fun k i h0 hi=>by rw[jM,aV hi,iT,aD hi,bS,tq hi h0 hn,bS,IS hi h0,au hi hn])
theorem aak{l:List Int}(hn:l.length<1000000000):pQ l=some (F6 l):=by
 unfold pQ
 exact Ok hn (L:=gn l)
  (fun h k=>by
   rw[gn,h]
   show some (decide ((0:Int)<(l.length:Int)))=_
   rw[h];rfl)
  (fun h k=>by
   rw[gn,vU,iF]
   show some (decide ((0:Int)<(l.length:Int)))=_
   rw[decide_eq_true (by omega)])
  (fun k i h0 hi=>by rw[gn,aV hi,iT,aD hi,bS,tq hi h0 hn,bS,IS hi h0,au hi hn])
def Ie(fs:List ae)(id:Int):Bool:=Hs fs id&&DN (n9 fs id)
theorem MO{fs:List ae}(hn:fs.length<1000000000)(id:Int):∃t,l7 fs id=some (t,Ie fs id)∧(Ie fs id=true→t=(n9 fs id).type∧n9 fs id∈fs):=by
 obtain⟨t1,_,t3,t4⟩:=AT hn id
 unfold l7
 rw[t1,bS,t3]
 unfold Ie
 cases hb:Hs fs id with
 |false=>exact⟨⟨0,0,[]⟩,rfl,fun h=>by cases h⟩
 |true=>
  obtain⟨t5,t6⟩:=t4 hb
  rw[Bool.not_true,iF,t5,bS,Mw,bS]
  unfold rG
  show∃t,aj (!DN (n9 fs id)) _ _=_∧_
  cases hf:DN (n9 fs id)with
  |false=>exact⟨⟨0,0,[]⟩,rfl,fun h=>by cases h⟩
  |true=>rw[Bool.not_true,iF,t5,bS];exact⟨_,rfl,fun _=>⟨rfl,t6⟩⟩
theorem VN{fs:List ae}(hn:fs.length<1000000000)(id:Int):nE fs id=some (n9 fs id,Ie fs id):=by
 obtain⟨_,t2,_,_⟩:=AT hn id
 unfold nE Ie
 rw[t2,bS]
 show aj (Hs fs id) _ _=_
 cases hb:Hs fs id with
 |false=>rfl
 |true=>rw[iT];show al (io (n9 fs id).type.kind) _=_;rw[HU,bS];rfl
theorem Qx:∀{l:List ac},(∀v∈l,Lv v)→Ord.wfL l∧fj l≤257*l.length
 |[],_=>by simp[Ord.wfL,fj]
 |x::l,h=>by
  obtain⟨a,b⟩:=Qx (l:=l) fun v hv=>h v (by simp[hv])
  have hx:=h x (by simp)
  have hs:=hx.size
  simp only[Ord.wfL,fj,List.length_cons]
  exact⟨⟨hx.wf,a⟩,by omega⟩
theorem aaB{a b:List ac}(ha:∀v∈a,Lv v)(hb:∀v∈b,Lv v)(hn:a.length<1000000000):qr a b=some (Ord.cmpL a b):=by
 unfold qr
 rw[Hf,aB]
 have hc:∀x∈a,∀y∈b,dm 1152921504606846975 x y=some (Ord.cmpV x y):=fun x hx y hy=>by
  have h:=(ha x hx).size
  exact Ord.compare_eq 257 x y _ h (by omega) (ha x hx).wf (hb y hy).wf (by omega)
 have:=Ord.cmpf_loop (dm 1152921504606846975) a b (by omega) hc aH 0 (Nat.zero_le _) (Nat.zero_le _) (by rw[aJ];omega)
 rw[show((0:Nat):Int)=0 from rfl,List.drop_zero,List.drop_zero]at this
 rw[this,bS]
theorem Zv{a b:List ac}(ha:∀v∈a,Lv v)(hb:∀v∈b,Lv v)(hn:a.length<1000000000):sj a b=some (Ord.cmpL a b):=by
 unfold sj
 obtain⟨a1,a2⟩:=Qx ha
 obtain⟨b1,b2⟩:=Qx hb
 have hw:∀{l:List ac},Ord.wfL l→Ord.wfV ⟨6,0,0,ByteArray.empty,l⟩:=fun h=>by
  simp only[Ord.wfV,Ord.i6q]
  exact⟨⟨by omega,by omega⟩,⟨by omega,by omega⟩,⟨by omega,by omega⟩,h⟩
 have hz:cm ⟨6,0,0,ByteArray.empty,a⟩=fj a+1:=by simp only[cm];rw[Kd];omega
 rw[Ord.rcompareV_eq (fj a+1) _ _ aH (by rw[hz];exact iD _) (by rw[hz];omega) (hw a1) (hw b1) (by rw[aJ];omega),bS]
 congr 1
 simp only[Ord.cmpV,Ord.c3_self,Ord.or_zero]
 rw[if_neg (by decide),show Ord.cS ByteArray.empty ByteArray.empty=0 from aco.2 rfl,Ord.or_zero]
structure X2(ids:List Int)(keys:List (List ac)):Prop where
 nid:ids.length<1000000000
 nkey:keys.length<1000000000
 key:∀k∈keys,k.length<1000000000∧∀v∈k,cm v<1000000000
noncomputable def KF(fs:List ae)(ids:List Int)(k:List ac)(j:Nat):Int:=match ids[j]?,k[j]? with
 |some id,some v=>ck (n9 fs id).type v
 |_,_=>0
noncomputable def Qh(fs:List ae)(ids:List Int)(keys:List (List ac))(j:Nat):Int:=match keys[j]? with
 |some k=>qm (er ((k.length:Int) != (ids.length:Int)) 1) (qm (fe (KF fs ids k) ids.length 0) (er (decide (0<j)&&(match keys[j-1]? with|some p=>decide (0≤Ord.cmpL p k) |none=>false)) 1))
 |none=>0
def FB(fs:List ae)(ids:List Int)(j:Nat):Bool:=match ids[j]? with|some id=> !Ie fs id|none=>false
noncomputable def Ib(fs:List ae)(ids:List Int)(keys:List (List ac)):Int:=
 qm (er ((ids.length:Int)==0) 9) (qm (er (lI (FB fs ids) ids.length) 9) (qm (er (Vm ids) 1) (qm (er (decide ((200:Int)<(keys.length:Int))) 7) (qm (er ((keys.length:Int)==0) 9) (fe (Qh fs ids keys) keys.length 0)))))
theorem TW{fs:List ae}{ids:List Int}(h:er (lI (FB fs ids) ids.length) 9=0){i:Nat}(hi:i<ids.length):Ie fs ids[i]=true:=by
 rw[D8 (by decide),←Bool.not_eq_true,fm]at h
 cases hb:Ie fs ids[i]with
 |true=>rfl
 |false=>exact absurd ⟨i,hi,by unfold FB;rw[dJ hi];simp[hb]⟩ h
theorem Ko{fs:List ae}{ids:List Int}{keys:List (List ac)}(hz:X2 ids keys)(hfs:eH fs<1000000000-1)(hl:∀(i:Nat) (h:i<ids.length),Ie fs ids[i]=true){j:Nat}(hj:j<keys.length)
  (h1:er ((keys[j].length:Int) != (ids.length:Int)) 1=0)(h2:fe (KF fs ids keys[j]) ids.length 0=0):∀v∈keys[j],Lv v:=by
 have hn:fs.length<1000000000:=by have:=dE fs;omega
 have hp:keys[j].length=ids.length:=by rw[D8 (by decide),bne_eq_false_iff_eq]at h1;omega
 intro v hv
 obtain⟨i,hi,rfl⟩:=Kb.1 hv
 have hi':i<ids.length:=by omega
 have:=N5.1 h2 i (Nat.zero_le _) (by omega)
 unfold KF at this
 rw[dJ hi',dJ hi]at this
 simp only at this
 obtain⟨t,_,t2⟩:=MO hn ids[i]
 obtain⟨_,t3⟩:=t2 (hl i hi')
 have hlf:=hl i hi'
 unfold Ie DN at hlf
 simp only[iY,decide_eq_true_eq]at hlf
 exact BP ((hz.key _ (gV hj)).2 _ hv) (Cz hfs t3) hlf.2.1 hlf.2.2 this
theorem zC{fs:List ae}{ids:List Int}{keys:List (List ac)}{j:Nat}(hj:j<keys.length):Qh fs ids keys j=qm (er ((keys[j].length:Int) != (ids.length:Int)) 1) (qm (fe (KF fs ids keys[j]) ids.length 0) (er (decide (0<j)&&(match keys[j-1]? with|some p=>decide (0≤Ord.cmpL p keys[j]) |none=>false)) 1)):=by
 unfold Qh
 rw[dJ hj]
theorem XY{d:cz}{fs:List ae}(hz:X2 d.ids d.keys)(hfs:eH fs<1000000000-1)(hl:∀(i:Nat) (h:i<d.ids.length),Ie fs d.ids[i]=true):iV d true fs aH (0:Int)=some (fe (Qh fs d.ids d.keys) d.keys.length 0):=by
 have hn:fs.length<1000000000:=by have:=dE fs;omega
 rw[RM (L:=iV d true fs) (n:=d.keys.length) (fin:=some 0) (c:=Qh fs d.ids d.keys) hz.nkey
  (fun _ k=>by rw[iV,vU,iF];rfl)
  (fun k i hi hp=>by
   obtain⟨z1,z2⟩:=hz.key _ (gV hi)
   rw[iV,aV hi,iT,aD hi,bS,eb (by decide),zC hi,←bA,←bA]
   refine fa fun e1=> ?_
   have hp':d.keys[i].length=d.ids.length:=by rw[D8 (by decide),bne_eq_false_iff_eq]at e1;omega
   rw[iw (L:=rq (iV d true fs k) d true fs (i:Int) d.keys[i]) (n:=d.ids.length) (fin:=Au (iV d true fs k) d true (i:Int) d.keys[i]) (c:=KF fs d.ids d.keys[i]) hz.nid
    (fun q=>by rw[rq,hp',vU,iF])
    (fun q j hj=>by
     have hj':j<d.keys[i].length:=by omega
     obtain⟨t,u1,u2⟩:=MO hn d.ids[j]
     obtain⟨rfl,u3⟩:=u2 (hl j hj)
     rw[rq,aV hj',iT,aD hj',bS,aD hj,bS,u1,bS]
     show al (gw (n9 fs d.ids[j]).type _) _=_
     rw[Ql (z2 _ (gV hj')) (Cz hfs u3),bS,iA,au hj hz.nid]
     unfold KF
     rw[dJ hj,dJ hj'])]
   refine fa fun e2=> ?_
   have hk:=Ko hz hfs hl hi e1 e2
   unfold Au xy
   rw[iT,au hi hz.nkey]
   by_cases h0:0<i
   ·have hi1:i-1<d.keys.length:=by omega
    have hprev:=hp (i-1) (by omega)
    rw[zC hi1,lx,lx]at hprev
    have hk':=Ko hz hfs hl hi1 hprev.1 hprev.2.1
    rw[decide_eq_true (show(0:Int)<(i:Int) by omega),iT,tq hi h0 hz.nkey,bS,aaB hk' hk (hz.key _ (gV hi1)).1,bS,eb (by decide),decide_eq_true h0,dJ hi1,Bool.true_and]
   ·rw[decide_eq_false (show¬(0:Int)<(i:Int) by omega),decide_eq_false h0];rfl)]
 exact ej _
theorem Vt{ids:List Int}{keys:List (List ac)}{fs:List ae}(hz:X2 ids keys)(hfs:eH fs<1000000000-1)(hl:∀(i:Nat) (h:i<ids.length),Ie fs ids[i]=true):di fs ids keys true aH (0:Int)=some (fe (Qh fs ids keys) keys.length 0):=by
 have hn:fs.length<1000000000:=by have:=dE fs;omega
 rw[RM (L:=di fs ids keys true) (n:=keys.length) (fin:=some 0) (c:=Qh fs ids keys) hz.nkey
  (fun _ k=>by rw[di,vU,iF];rfl)
  (fun k i hi hp=>by
   obtain⟨z1,z2⟩:=hz.key _ (gV hi)
   rw[di,aV hi,iT,aD hi,bS,eb (by decide),zC hi,←bA,←bA]
   refine fa fun e1=> ?_
   have hp':keys[i].length=ids.length:=by rw[D8 (by decide),bne_eq_false_iff_eq]at e1;omega
   rw[iw (L:=jA (di fs ids keys true k) fs ids keys true (i:Int) keys[i]) (n:=ids.length) (fin:=qE (di fs ids keys true k) keys true (i:Int) keys[i]) (c:=KF fs ids keys[i]) hz.nid
    (fun q=>by rw[jA,vU,iF])
    (fun q j hj=>by
     have hj':j<keys[i].length:=by omega
     obtain⟨t,u1,u2⟩:=MO hn ids[j]
     obtain⟨rfl,u3⟩:=u2 (hl j hj)
     rw[jA,aV hj,iT,aD hj,bS,VN hn,bS,aD hj',bS]
     show al (mr (n9 fs ids[j]).type _) _=_
     rw[Tr (z2 _ (gV hj')) (Cz hfs u3),bS,iA,au hj hz.nid]
     unfold KF
     rw[dJ hj,dJ hj'])]
   refine fa fun e2=> ?_
   have hk:=Ko hz hfs hl hi e1 e2
   unfold qE nH
   rw[iT,au hi hz.nkey]
   by_cases h0:0<i
   ·have hi1:i-1<keys.length:=by omega
    have hprev:=hp (i-1) (by omega)
    rw[zC hi1,lx,lx]at hprev
    have hk':=Ko hz hfs hl hi1 hprev.1 hprev.2.1
    rw[decide_eq_true (show(0:Int)<(i:Int) by omega),iT,tq hi h0 hz.nkey,bS,Zv hk' hk (hz.key _ (gV hi1)).1,bS,eb (by decide),decide_eq_true h0,dJ hi1,Bool.true_and]
   ·rw[decide_eq_false (show¬(0:Int)<(i:Int) by omega),decide_eq_false h0];rfl)]
 exact ej _
theorem Xs{fs:List ae}{ids:List Int}(hn:fs.length<1000000000)(hs:ids.length<1000000000):cH ids fs=some (lI (FB fs ids) ids.length,fs):=by
 unfold cH gu
 obtain⟨r,r1,r2⟩:=FE (z:=fs) (L:=fun k i=>bt ids k fs i) (n:=ids.length) (p:=FB fs ids) hs
  (fun k=>by rw[bt,vU,iF];rfl)
  (fun k i hi=>by
   obtain⟨t,t1,_⟩:=MO hn ids[i]
   rw[bt,aV hi,iT,aD hi,bS,EQ,t1,bS,bS,au hi hs]
   unfold FB
   rw[dJ hi])
 have r1:bt ids aH fs (0:Int)=some (r,fs):=r1
 rw[r1,bS]
 show some (decide (0≤r),fs)=_
 rw[r2]
theorem Ww{ids:List Int}(h:ids.length≠0):er (!F6 ids) 1=er (Vm ids) 1:=by
 unfold F6;rw[decide_eq_true (show 0<ids.length by omega),Bool.true_and,Bool.not_not]
theorem abg{d:cz}{fs:List ae}(hz:X2 d.ids d.keys)(hfs:eH fs<1000000000-1):
  (aj ((d.ids.length:Int)==(0:Int)) (ry d true fs true) (al (cH d.ids fs) fun r2=>ry d true r2.2 r2.1))=some (Ib fs d.ids d.keys):=by
 have hn:fs.length<1000000000:=by have:=dE fs;omega
 unfold Ib
 by_cases h0:d.ids.length=0
 ·rw[show((d.ids.length:Int)==0)=true by simp[h0],iT];rfl
 ·rw[show((d.ids.length:Int)==0)=false from beq_eq_false_iff_ne.2 (by omega),iF,Ow,OU,Xs hn hz.nid,bS]
  show ry d true fs (lI (FB fs d.ids) d.ids.length)=_
  unfold ry
  rw[eb (by decide),U5 hz.nid,bS,eb (by decide),Ww h0,eb (by decide),eb (by decide),←ej,←bA,←bA,←bA,←bA]
  refine fa fun e=>fa fun _=>fa fun _=>fa fun _=> ?_
  rw[XY hz hfs fun i h=>TW e h,ej]
theorem abX{ids:List Int}{keys:List (List ac)}{fs:List ae}(hz:X2 ids keys)(hfs:eH fs<1000000000-1):vh fs ids keys true=some (Ib fs ids keys):=by
 have hn:fs.length<1000000000:=by have:=dE fs;omega
 unfold vh Ib
 rw[eb (by decide),←ej,←bA,←bA]
 refine fa fun h0=> ?_
 have h0:ids.length≠0:=by rw[D8 (by decide)]at h0;simpa using h0
 rw[iw (L:=jD fs ids keys true) (n:=ids.length) (fin:=qq fs ids keys true) (c:=fun j=>er (FB fs ids j) 9) hz.nid
  (fun k=>by rw[jD,vU,iF])
  (fun k i hi=>by
   rw[jD,aV hi,iT,aD hi,bS,VN hn,bS,eb (by decide),au hi hz.nid]
   unfold FB
   rw[dJ hi])]
 rw[G6 (by decide)]
 refine fa fun e=> ?_
 unfold qq
 have h2:=Nu (lo:=1) (L:=jp fs ids keys true) (n:=ids.length) (fin:=qB fs ids keys true) (c:=fun j=>er (KL ids j) 1)
  (fun k=>by rw[jp,vU,iF])
  (fun k i hl hi=>by rw[jp,aV hi,iT,aD hi,bS,tq hi (by omega) hz.nid,bS,←IS hi (by omega),eb (by decide),au hi hz.nid])
  (ids.length-1) aH 1 (by omega) (by rw[aJ];have:=hz.nid;omega) (iD _)
 rw[show((1:Nat):Int)=1 from rfl,VP (by decide)]at h2
 rw[h2,show decide (∃j,j<ids.length-1∧KL ids (1+j)=true)=Vm ids from rfl,←bA]
 refine fa fun _=> ?_
 unfold qB
 rw[eb (by decide),eb (by decide),Vt hz hfs fun i h=>TW e h,←bA,←bA,ej]
theorem YI:∀a b:List UInt8,Op.bytesLess a b=decide (Lib.compareBytes a b<0)
 |[],[]=>rfl
 |[],_::_=>rfl
 |_::_,[]=>rfl
 |x::a,y::b=>by
  rw[Op.bytesLess,Lib.compareBytes,YI a b]
  by_cases h1:x<y
  ·rw[if_pos h1];simp[h1]
  ·rw[if_neg h1]
   by_cases h2:y<x
   ·have:(x==y)=false:=by
     rw[beq_eq_false_iff_ne];intro e;subst e;exact UInt8.lt_irrefl _ h2
    rw[if_pos h2];simp[h1,this]
   ·have:x=y:=UInt8.le_antisymm (UInt8.not_lt.1 h2) (UInt8.not_lt.1 h1)
    subst this
    rw[if_neg h2];simp[h1]
theorem M6(x n:ByteArray):(x.toList==n.toList)=decide (x=n):=by
 rw[ByteArray.toList_eq,ByteArray.toList_eq,Bool.eq_iff_iff,beq_iff_eq,decide_eq_true_iff]
 exact⟨fun h=>ByteArray.ext (Array.toList_inj.1 h),fun h=>by rw[h]⟩
def Ng(a b:ByteArray):Bool:=Op.bytesLess a.toList b.toList||a.toList==b.toList
theorem SZ{a b:ByteArray}(h:Ng a b=false):zd b a<0:=by
 unfold Ng at h
 rw[Bool.or_eq_false_iff,M6,ByteArray.toList_eq,ByteArray.toList_eq,YI]at h
 obtain⟨h1,h2⟩:=h
 have h1:¬zd a b<0:=by simpa [zd]using h1
 have h2:a≠b:=by simpa using h2
 have h3:zd a b= -zd b a:=Sk _ _
 have h4:zd b a≠0:=fun h=>h2 (Hr h).symm
 omega
def ui(fs:List ai)(n:ByteArray):Option ai:=fs.find? fun f=>decide (f.name=n)
def ZT:ai:=⟨ByteArray.empty,0,0,[],0,0,[]⟩
theorem LJ{s:ar}(hn:s.files.length<1000000000)(n:ByteArray):BH s n=some ((ui s.files n).getD ZT,(ui s.files n).isSome):=by
 have key:∀(m k i:Nat),i+m=s.files.length→m<k→pj s n k (i:Int)=some ((ui (s.files.drop i) n).getD ZT,(ui (s.files.drop i) n).isSome):=by
  intro m
  induction m with
  |zero=>
   intro k i hi hk
   obtain⟨k,rfl⟩:=fu hk
   rw[pj,G2 (by omega),iF,List.drop_of_length_le (by omega)];rfl
  |succ m ih=>
   intro k i hi hk
   obtain⟨k,rfl⟩:=fu hk
   have h1:i<s.files.length:=by omega
   rw[pj,aV h1,iT,aD h1,bS,M6,B3 h1]
   unfold ui
   rw[List.find?_cons]
   cases hb:decide (s.files[i].name=n)with
   |true=>rfl
   |false=>rw[iF,au h1 hn];exact ih k (i+1) (by omega) (by omega)
 have:=key s.files.length aH 0 (by omega) (by rw[aJ];omega)
 unfold BH
 rw[show((0:Nat):Int)=0 from rfl]at this
 rw[this,List.drop_zero]
def Gx(fs:List ai):Prop:=∀(i j:Nat) (hj:j<fs.length) (hij:i<j),zd (fs[i]'(by omega)).name fs[j].name<0
theorem B5{a b c:ByteArray}(h:zd a b<0)(k:zd b c<0):zd a c<0:=JU _ _ _ h k
theorem VD{fs:List ai}(h:∀(j:Nat) (hj:j<fs.length),0<j→zd (fs[j-1]'(by omega)).name fs[j].name<0):Gx fs:=by
 intro i j
 induction j with
 |zero=>intro hj hij;omega
 |succ j ih=>
  intro hj hij
  have h1:=h (j+1) hj (by omega)
  simp only[Nat.add_sub_cancel]at h1
  by_cases e:i=j
  ·subst e;exact h1
  ·exact B5 (ih (by omega) (by omega)) h1
theorem Ka{fs:List ai}(hs:Gx fs){i:Nat}(hi:i<fs.length):ui fs fs[i].name=some fs[i]:=by
 unfold ui
 rw[List.find?_eq_some_iff_getElem]
 refine⟨by simp,i,hi,rfl,fun j hj=> ?_⟩
 have:=hs j i hi hj
 simp only[Bool.not_eq_true',decide_eq_false_iff_not]
 intro e
 rw[e,wy]at this
 omega
theorem Jq{fs:List ai}{n:ByteArray}(h:∀(j:Nat) (hj:j<fs.length),fs[j].name≠n):ui fs n=none:=by
 unfold ui
 rw[List.find?_eq_none]
 intro f hf
 obtain⟨i,hi,rfl⟩:=Kb.1 hf
 simpa using h i hi
theorem aef(x:Int):IntKind.u64.wrap x=x%18446744073709551616:=by
 unfold IntKind.wrap;simp[IntKind.bits,IntKind.signed]
theorem abv{fs:List ai}(hs:Gx fs)(hn:fs.length<1000000000)(n:ByteArray):∀(m k i j:Nat),j-i=m→m<k→i≤j→j≤fs.length→(∀(q:Nat) (hq:q<fs.length),q<i→zd fs[q].name n<0)→(∀(q:Nat) (hq:q<fs.length),j≤q→¬zd fs[q].name n<0)→
  ∃r b,aA fs n k (i:Int) (j:Int)=some (r,b)∧b=(ui fs n).isSome∧(b=true→at? fs r=ui fs n):=by
 intro m
 induction m using Nat.strongRecOn with
 |ind m ih=>
  intro k i j hm hk hij hj hlo hhi
  obtain⟨k,rfl⟩:=fu hk
  rw[aA]
  by_cases h:i<j
  ·have hh:(i+j)/2<fs.length:=by omega
   have e1:((IntKind.u64.wrap (i64.wrap ((i:Int)+(j:Int)))).fdiv (2^(min (1:Int).toNat (IntKind.u64).bits)))=(((i+j)/2:Nat):Int):=by
    rw[jQ (by omega) (by omega),aef,show((i:Int)+(j:Int))%18446744073709551616=((i+j:Nat):Int) by omega]
    show((i+j:Nat):Int).fdiv (2^1)=_
    rw[Int.fdiv_eq_ediv_of_nonneg _ (by decide)]
    omega
   rw[aV h,iT,e1,bS,jQ (x:=(((i+j)/2:Nat):Int)) (by omega) (by omega),aD hh,bS]
   unfold vF strings_Compare
   rw[bS,bS]
   show∃r b,aj (decide (zd fs[(i+j)/2].name n<0)) _ _=_∧_
   by_cases hc:zd fs[(i+j)/2].name n<0
   ·rw[decide_eq_true hc,iT,jQ (x:=(((i+j)/2:Nat):Int)+1) (by omega) (by omega),show(((i+j)/2:Nat):Int)+1=(((i+j)/2+1:Nat):Int) by omega]
    refine ih (j-((i+j)/2+1)) (by omega) k _ j rfl (by omega) (by omega) hj (fun q hq hqi=> ?_) hhi
    by_cases e:q=(i+j)/2
    ·subst e;exact hc
    ·exact B5 (hs q _ hh (by omega)) hc
   ·rw[decide_eq_false hc,iF]
    refine ih ((i+j)/2-i) (by omega) k i _ (by omega) (by omega) (by omega) (by omega) hlo (fun q hq hqj hlt=> ?_)
    by_cases e:q=(i+j)/2
    ·subst e;exact hc hlt
    ·exact hc (B5 (hs _ q hq (by omega)) hlt)
  ·have hi:i=j:=by omega
   clear ih
   subst hi
   rw[G2 (by omega),iF]
   unfold bN bp vF strings_Compare
   by_cases hil:i<fs.length
   ·rw[aV hil,iT,aD hil,bS,bS,bS]
    show∃r b,some ((i:Int),(zd fs[i].name n==0))=some (r,b)∧_
    refine⟨_,_,rfl,?_,fun hb=> ?_⟩
    ·by_cases hz:zd fs[i].name n=0
     ·have:=Hr hz
      rw[←this,Ka hs hil,wy];rfl
     ·rw[beq_eq_false_iff_ne.2 hz,Jq]
      ·rfl
      ·intro q hq e
       rcases Nat.lt_trichotomy q i with h1|h1|h1
       ·have:=hlo q hq h1;rw[e,wy]at this;omega
       ·subst h1;exact hz (by rw[e,wy])
       ·have:=hs i q hq h1
        rw[e]at this
        exact hhi i hil (iD _) this
    ·have hz:zd fs[i].name n=0:=by simpa using hb
     have:=Hr hz
     rw[←this,Ka hs hil,aD hil]
   ·rw[G2 hil,iF]
    refine⟨_,_,rfl,?_,fun h=>by cases h⟩
    rw[Jq]
    ·rfl
    ·intro q hq e
     have:=hlo q hq (by omega)
     rw[e,wy]at this;omega
theorem aaq{s:ar}(hs:Gx s.files)(hn:s.files.length<1000000000)(n:ByteArray):BY s n=some ((ui s.files n).getD ZT,(ui s.files n).isSome):=by
 unfold BY bW
 obtain⟨r,b,h1,h2,h3⟩:=abv hs hn n s.files.length aH 0 s.files.length (by omega) (by rw[aJ];omega) (Nat.zero_le _) (iD _) (fun q hq h=>by omega) (fun q hq h=>by omega)
 have h1:aA s.files n aH (0:Int) (s.files.length:Int)=_:=h1
 rw[h1,bS]
 show aj (!b) _ (al (at? s.files r) _)=_
 cases hb:ui s.files n with
 |none=>
  rw[hb]at h2
  rw[h2];rfl
 |some f=>
  rw[hb]at h2 h3
  subst h2
  rw[h3 rfl];rfl
noncomputable def Uw(m:ay)(s:ar)(j:Nat):Int:=match s.files[j]? with
 |some f=>qm (yj m f) (qm (er (decide (s.seq<f.seq)||decide (s.schema<f.schema)) 3) (er (decide (0<j)&&(match s.files[j-1]? with|some p=>Ng f.name p.name|none=>false)) 1))
 |none=>0
theorem WZ{m:ay}{s:ar}(hm:ul m)(hs:QD s):xx m s=some (fe (Uw m s) s.files.length 0):=by
 unfold xx
 rw[iw (L:=eZ m s) (n:=s.files.length) (fin:=some 0) (c:=Uw m s) hs.files.1
  (fun k=>by rw[eZ,vU,iF];rfl)
  (fun k i hi=>by
   rw[eZ,aV hi,iT,aD hi,bS,U9 hm (hs.files.2 _ (gV hi)),bS,iA]
   unfold Uw
   rw[dJ hi]
   simp only
   rw[←bA,←bA]
   refine fa fun _=> ?_
   unfold vr vu
   rw[au hi hs.files.1]
   have hj:∀x,aj x (some (3:Int)) (aj (decide ((0:Int)<(i:Int))) (al (at? s.files (i64.wrap ((i:Int)-1))) fun e2=>al (some (Op.bytesLess s.files[i].name.toList e2.name.toList||s.files[i].name.toList==e2.name.toList)) fun y1=>aj y1 (some 1) (eZ m s k ((i+1:Nat):Int))) (aj false (some 1) (eZ m s k ((i+1:Nat):Int))))=
     ee (er x 3) (ee (er (decide (0<i)&&(match s.files[i-1]? with|some p=>Ng s.files[i].name p.name|none=>false)) 1) (eZ m s k ((i+1:Nat):Int))):=by
    intro x
    rw[eb (by decide)]
    refine fa fun _=> ?_
    by_cases h0:0<i
    ·have hi1:i-1<s.files.length:=by omega
     rw[decide_eq_true (show(0:Int)<(i:Int) by omega),iT,tq hi h0 hs.files.1,bS,bS,eb (by decide),decide_eq_true h0,dJ hi1,Bool.true_and];rfl
    ·rw[decide_eq_false (show¬(0:Int)<(i:Int) by omega),decide_eq_false h0];rfl
   cases decide (s.seq<s.files[i].seq)with
   |true=>exact hj true
   |false=>exact hj _)]
 exact ej _
theorem Xc{m:ay}{s:ar}(hm:ul m)(hs:QD s):bJ m s aH (0:Int)=ee (fe (Uw m s) s.files.length 0) (jV m s):=by
 exact iw (L:=bJ m s) (n:=s.files.length) (c:=Uw m s) hs.files.1
  (fun k=>by rw[bJ,vU,iF])
  (fun k i hi=>by
   rw[bJ,aV hi,iT,aD hi,bS,UT hm (hs.files.2 _ (gV hi)),bS,iA]
   unfold Uw
   rw[dJ hi]
   simp only
   rw[←bA,←bA]
   refine fa fun _=> ?_
   unfold mX mU
   rw[au hi hs.files.1]
   have hj:∀x,aj x (some (3:Int)) (aj (decide ((0:Int)<(i:Int))) (al (at? s.files (i64.wrap ((i:Int)-1))) fun e2=>al (some (Op.bytesLess s.files[i].name.toList e2.name.toList||s.files[i].name.toList==e2.name.toList)) fun y1=>aj y1 (some 1) (bJ m s k ((i+1:Nat):Int))) (aj false (some 1) (bJ m s k ((i+1:Nat):Int))))=
     ee (er x 3) (ee (er (decide (0<i)&&(match s.files[i-1]? with|some p=>Ng s.files[i].name p.name|none=>false)) 1) (bJ m s k ((i+1:Nat):Int))):=by
    intro x
    rw[eb (by decide)]
    refine fa fun _=> ?_
    by_cases h0:0<i
    ·have hi1:i-1<s.files.length:=by omega
     rw[decide_eq_true (show(0:Int)<(i:Int) by omega),iT,tq hi h0 hs.files.1,bS,bS,eb (by decide),decide_eq_true h0,dJ hi1,Bool.true_and];rfl
    ·rw[decide_eq_false (show¬(0:Int)<(i:Int) by omega),decide_eq_false h0];rfl
   cases decide (s.seq<s.files[i].seq)with
   |true=>exact hj true
   |false=>exact hj _)
theorem Nw{m:ay}{s:ar}(hm:ul m)(hs:QD s)(h:fe (Uw m s) s.files.length 0=0):Gx s.files∧∀f∈s.files,S3 f:=by
 have key:∀(j:Nat) (hj:j<s.files.length),yj m s.files[j]=0∧(0<j→Ng s.files[j].name (s.files[j-1]'(by omega)).name=false):=by
  intro j hj
  have:=N5.1 h j (Nat.zero_le _) (by omega)
  unfold Uw at this
  rw[dJ hj]at this
  simp only[lx]at this
  refine⟨this.1,fun h0=> ?_⟩
  have h3:=(D8 (by decide)).1 this.2.2
  rw[decide_eq_true h0,dJ (show j-1<s.files.length by omega),Bool.true_and]at h3
  exact h3
 refine⟨VD fun j hj h0=>SZ ((key j hj).2 h0),fun f hf=> ?_⟩
 obtain⟨i,hi,rfl⟩:=Kb.1 hf
 exact R3 hm (hs.files.2 _ hf) (key i hi).1
theorem LW{l:List Int}(h:F6 l=true):0<l.length∧∀(i j:Nat) (hj:j<l.length) (hij:i<j),l[i]'(by omega)<l[j]:=by
 unfold F6 Vm at h
 rw[iY,decide_eq_true_iff,Bool.not_eq_true',decide_eq_false_iff_not]at h
 obtain⟨h0,h1⟩:=h
 refine⟨h0,fun i j=> ?_⟩
 induction j with
 |zero=>intro hj hij;omega
 |succ j ih=>
  intro hj hij
  have hd:KL l (1+j)=false:=by
   cases hd:KL l (1+j)with
   |false=>rfl
   |true=>exact absurd ⟨j,by omega,hd⟩ h1
  rw[IS (by omega) (by omega),decide_eq_false_iff_not]at hd
  have e:l[1+j]'(by omega)=l[j+1]:=by congr 1;omega
  have e2:l[1+j-1]'(by omega)=l[j]'(by omega):=by congr 1;omega
  rw[e,e2]at hd
  by_cases hh:i=j
  ·subst hh;omega
  ·have:=ih (by omega) (by omega);omega
def SN(l:List Int)(n:Int):Bool:=lI (fun j=>match l[j]? with|some a=>decide (a<0)||decide (n≤a) |none=>false) l.length
theorem Zy{l:List Int}(hn:l.length<1000000000)(n:Int):pI l n=some (!SN l n):=by
 unfold pI
 rw[Ft (L:=fq l n) (n:=l.length) (p:=fun j=>match l[j]? with|some a=>decide (a<0)||decide (n≤a) |none=>false) hn
  (fun k=>by rw[fq,vU,iF];rfl)
  (fun k i hi=>by
   rw[fq,aV hi,iT,aD hi,bS,dJ hi]
   unfold pe
   rw[au hi hn]
   simp only
   cases h:decide (l[i]<0)with
   |true=>rfl
   |false=>rfl)]
 rfl
theorem TV{l:List Int}(h:F6 l=true)(n:Int):SN l n=(decide (l[0]'(LW h).1<0)||decide (n≤l[l.length-1]'(by have:=(LW h).1;omega))):=by
 obtain⟨h0,h1⟩:=LW h
 refine kG ?_
 unfold SN
 rw[fm,Bool.or_eq_true,decide_eq_true_iff,decide_eq_true_iff]
 constructor
 ·rintro⟨j,hj,hp⟩
  rw[dJ hj]at hp
  simp only[Bool.or_eq_true,decide_eq_true_eq]at hp
  rcases hp with hp|hp
  ·left
   by_cases e:j=0
   ·subst e;exact hp
   ·have:=h1 0 j hj (by omega);omega
  ·right
   by_cases e:j=l.length-1
   ·subst e;exact hp
   ·have:=h1 j (l.length-1) (by omega) (by omega);omega
 ·rintro(hp|hp)
  ·exact⟨0,h0,by rw[dJ h0];simp[hp]⟩
  ·exact⟨l.length-1,by omega,by rw[dJ (show l.length-1<l.length by omega)];simp[hp]⟩
def Zf(l:List lj)(d:lj)(j:Nat):Bool:=decide (0<j)&&(match l[j-1]? with|some p=>Ng d.file p.file|none=>false)
def Qs(s:ar)(j:Nat):Int:=match s.dat[j]? with
 |some d=>(match ui s.files d.file with
  |none=>9
  |some f=>qm (er (Zf s.dat d j|| !F6 d.rows) 1) (er (SN d.rows f.rows) 3))
 |none=>0
theorem ach{m:ay}{s:ar}(hs:QD s)(ho:Gx s.files):sT m s=ee (fe (Qs s) s.dat.length 0) (oM m s):=by
 unfold sT
 exact iw (L:=dh m s) (n:=s.dat.length) (c:=Qs s) hs.dat.1
  (fun k=>by rw[dh,vU,iF])
  (fun k i hi=>by
   have hd:=hs.dat.2 _ (gV hi)
   rw[dh,aV hi,iT,aD hi,bS,aaq ho hs.files.1,bS]
   unfold Qs
   rw[dJ hi]
   simp only
   cases hf:ui s.files s.dat[i].file with
   |none=>rfl
   |some f=>
    show aj (!true) _ _=_
    rw[Bool.not_true,iF,U5 hd,bS]
    rw[←bA]
    unfold oK rP
    rw[au hi hs.dat.1]
    have hj:∀x,(F6 s.dat[i].rows=false→x=true)→aj x (some (1:Int)) (al (at? s.dat[i].rows (0:Int)) fun e3=>aj (decide (e3<(0:Int))) (aj true (some (3:Int)) (dh m s k ((i+1:Nat):Int))) (al (at? s.dat[i].rows (i64.wrap ((s.dat[i].rows.length:Int)-(1:Int)))) fun e4=>aj (decide (f.rows≤e4)) (some (3:Int)) (dh m s k ((i+1:Nat):Int))))=
      ee (er x 1) (ee (er (SN s.dat[i].rows f.rows) 3) (dh m s k ((i+1:Nat):Int))):=by
     intro x hx
     rw[eb (by decide)]
     refine fa fun e=> ?_
     have e:=(D8 (by decide)).1 e
     cases hr:F6 s.dat[i].rows with
     |false=>rw[hx hr]at e;cases e
     |true=>
      obtain⟨h0,_⟩:=LW hr
      have a0:=aD h0
      rw[show((0:Nat):Int)=0 from rfl]at a0
      rw[a0,bS,ld hd,show((s.dat[i].rows.length:Int)-1)=((s.dat[i].rows.length-1:Nat):Int) by omega,aD (show s.dat[i].rows.length-1<s.dat[i].rows.length by omega),bS,TV hr]
      cases decide (s.dat[i].rows[0]<0)with
      |true=>rfl
      |false=>rw[iF,eb (by decide),Bool.false_or]
    unfold Zf
    by_cases h0:0<i
    ·have hi1:i-1<s.dat.length:=by omega
     rw[decide_eq_true (show(0:Int)<(i:Int) by omega),iT,tq hi h0 hs.dat.1,bS,bS,decide_eq_true h0,dJ hi1,Bool.true_and]
     show aj (Ng s.dat[i].file s.dat[i-1].file) _ _=ee (er (Ng s.dat[i].file s.dat[i-1].file|| !F6 s.dat[i].rows) 1) _
     cases Ng s.dat[i].file s.dat[i-1].file with
     |true=>rw[iT,Bool.true_or];exact hj true fun _=>rfl
     |false=>rw[iF,Bool.false_or];exact hj _ fun h=>by rw[h];rfl
    ·rw[decide_eq_false (show¬(0:Int)<(i:Int) by omega),iF,decide_eq_false h0,Bool.false_and,Bool.false_or]
     exact hj _ fun h=>by rw[h];rfl)
theorem abW{m:ay}{s:ar}(hs:QD s):jV m s=ee (fe (Qs s) s.dat.length 0) (jW m s):=by
 unfold jV
 exact iw (L:=cw m s) (n:=s.dat.length) (c:=Qs s) hs.dat.1
  (fun k=>by rw[cw,vU,iF])
  (fun k i hi=>by
   have hd:=hs.dat.2 _ (gV hi)
   rw[cw,aV hi,iT,aD hi,bS,LJ hs.files.1,bS]
   unfold Qs
   rw[dJ hi]
   simp only
   cases hf:ui s.files s.dat[i].file with
   |none=>rfl
   |some f=>
    show aj (!true) _ _=_
    rw[Bool.not_true,iF,aak hd,bS]
    rw[←bA]
    unfold j4
    rw[au hi hs.dat.1]
    have hj:∀x,aj x (some (1:Int)) (al (pI s.dat[i].rows f.rows) fun r11=>aj (!r11) (some (3:Int)) (cw m s k ((i+1:Nat):Int)))=
      ee (er x 1) (ee (er (SN s.dat[i].rows f.rows) 3) (cw m s k ((i+1:Nat):Int))):=by
     intro x
     rw[eb (by decide),Zy hd,bS,Bool.not_not,eb (by decide)]
    unfold Zf
    by_cases h0:0<i
    ·have hi1:i-1<s.dat.length:=by omega
     rw[decide_eq_true (show(0:Int)<(i:Int) by omega),iT,tq hi h0 hs.dat.1,bS,bS,decide_eq_true h0,dJ hi1,Bool.true_and]
     show aj (Ng s.dat[i].file s.dat[i-1].file) _ _=ee (er (Ng s.dat[i].file s.dat[i-1].file|| !F6 s.dat[i].rows) 1) _
     cases Ng s.dat[i].file s.dat[i-1].file with
     |true=>rw[iT,Bool.true_or];exact hj true
     |false=>rw[iF,Bool.false_or];exact hj _
    ·rw[decide_eq_false (show¬(0:Int)<(i:Int) by omega),iF,decide_eq_false h0,Bool.false_and,Bool.false_or]
     exact hj _)
def SV(m:ay)(d:cz):Bool:= !decide (0≤d.schema∧d.schema≤(m.schemas.length:Int)-1)||decide (d.seq<1)
noncomputable def ZJ(m:ay)(d:cz):Int:=qm (er (SV m d) 3) (match m.schemas[d.schema.toNat]? with|some fs=>Ib fs d.ids d.keys|none=>0)
theorem Uf{m:ay}{d:cz}(h:SV m d=false):∃fs,at? m.schemas d.schema=some fs∧m.schemas[d.schema.toNat]? =some fs∧fs∈m.schemas:=by
 unfold SV at h
 simp only[Bool.or_eq_false_iff,Bool.not_eq_false',decide_eq_true_eq]at h
 obtain⟨⟨a1,a2⟩,_⟩:=h
 obtain⟨h1,h2,h3⟩:=EW a1 a2
 exact⟨_,h2,h3,gV h1⟩
theorem adX{m:ay}{d:cz}(hm:ul m)(hz:X2 d.ids d.keys):GA m d true=some (ZJ m d):=by
 unfold GA ZJ
 rw[lc,bS,ld hm.schemas.1,←ej,←bA]
 have hj:∀x,x=SV m d→xr m d true x=ee (er (SV m d) 3) (ee (match m.schemas[d.schema.toNat]? with|some fs=>Ib fs d.ids d.keys|none=>0) (some 0)):=by
  rintro x rfl
  unfold xr
  rw[eb (by decide)]
  refine fa fun e=> ?_
  obtain⟨fs,h1,h2,h3⟩:=Uf ((D8 (by decide)).1 e)
  rw[h1,h2,bS,abg hz (hm.schemas.2 _ h3),ej]
 have hr:SV m d=SV m d:=rfl
 conv at hr=>rhs;unfold SV
 cases a:decide (0≤d.schema∧d.schema≤(m.schemas.length:Int)-1)with
 |false=>rw[a]at hr;rw[Bool.not_false,iT];exact hj true (by rw[hr];rfl)
 |true=>rw[a]at hr;rw[Bool.not_true,iF];exact hj _ (by rw[hr];rfl)
theorem adt{m:ay}{d:cz}(hm:ul m)(hz:X2 d.ids d.keys):yp m d=some (ZJ m d):=by
 unfold yp ZJ
 rw[pw,bS,ld hm.schemas.1,←ej,←bA]
 have hj:∀x,x=SV m d→pB m d x=ee (er (SV m d) 3) (ee (match m.schemas[d.schema.toNat]? with|some fs=>Ib fs d.ids d.keys|none=>0) (some 0)):=by
  rintro x rfl
  unfold pB
  rw[eb (by decide)]
  refine fa fun e=> ?_
  obtain⟨fs,h1,h2,h3⟩:=Uf ((D8 (by decide)).1 e)
  rw[h1,h2,bS,abX hz (hm.schemas.2 _ h3),bS,ej]
 have hr:SV m d=SV m d:=rfl
 conv at hr=>rhs;unfold SV
 cases a:decide (0≤d.schema∧d.schema≤(m.schemas.length:Int)-1)with
 |false=>rw[a]at hr;rw[Bool.not_false,iT];exact hj true (by rw[hr];rfl)
 |true=>rw[a]at hr;rw[Bool.not_true,iF];exact hj _ (by rw[hr];rfl)
def Qn(fs:List ai)(q:Int):Bool:=lI (fun j=>match fs[j]? with|some f=>decide (f.seq<q) |none=>false) fs.length
theorem abA{fs:List ai}(hn:fs.length<1000000000)(d:cz):xH fs d=some (Qn fs d.seq):=by
 unfold xH cA cO
 obtain⟨r,r1,r2⟩:=Re (L:=aX fs d.schema d.ids d.keys d.seq) (n:=fs.length) (p:=fun j=>match fs[j]? with|some f=>decide (f.seq<d.seq) |none=>false) hn
  (fun k=>by rw[aX,vU,iF];rfl)
  (fun k i hi=>by rw[aX,aV hi,iT,aD hi,bS,xR,bS,au hi hn,dJ hi])
 rw[r1,bS,bS,r2];rfl
theorem ab1{fs:List ai}(hn:fs.length<1000000000)(q:Int):zE fs q=some (Qn fs q):=by
 have key:∀(m k i:Nat),i+m=fs.length→m<k→nV fs q k (i:Int)=some (decide (∃j,j<m∧(match fs[i+j]? with|some f=>decide (f.seq<q) |none=>false)=true)):=by
  intro m
  induction m with
  |zero=>
   intro k i hi hk
   obtain⟨k,rfl⟩:=fu hk
   rw[nV,G2 (by omega),iF];simp[AU]
  |succ m ih=>
   intro k i hi hk
   obtain⟨k,rfl⟩:=fu hk
   have h1:i<fs.length:=by omega
   rw[nV,aV h1,iT,aD h1,bS,au h1 hn]
   cases hd:decide (fs[i].seq<q)with
   |true=>rw[iT,decide_eq_true ⟨0,by omega,by rw[Nat.add_zero,dJ h1];exact hd⟩]
   |false=>
    rw[iF,ih k (i+1) (by omega) (by omega)]
    congr 1
    refine decide_eq_decide.2 ⟨fun⟨j,a,b⟩=>⟨j+1,by omega,by rw[←b,show i+(j+1)=i+1+j by omega]⟩,fun⟨j,a,b⟩=> ?_⟩
    cases j with
    |zero=>rw[Nat.add_zero,dJ h1]at b;simp only at b;rw[hd]at b;cases b
    |succ j=>exact⟨j,by omega,by rw[←b,show i+(j+1)=i+1+j by omega]⟩
 have:=key fs.length aH 0 (by omega) (by rw[aJ];omega)
 unfold zE
 rw[show((0:Nat):Int)=0 from rfl]at this
 rw[this]
 congr 1
 refine kG ?_
 unfold Qn
 rw[decide_eq_true_iff,fm]
 simp
noncomputable def N2(m:ay)(s:ar)(j:Nat):Int:=match s.dby[j]? with
 |some d=>qm (ZJ m d) (qm (er (decide (s.seq<d.seq)) 3) (er ((decide (0<j)&&(match s.dby[j-1]? with|some p=>decide (d.seq<p.seq) |none=>false))|| !Qn s.files d.seq) 1))
 |none=>0
theorem Q7{m:ay}{s:ar}(hs:QD s){i:Nat}(hi:i<s.dby.length)(X:Option Int)(O:Option Bool)(ho:O=some (Qn s.files s.dby[i].seq)):
  aj (decide ((0:Int)<(i:Int))) (al (at? s.dby (i64.wrap ((i:Int)-(1:Int)))) fun e6=>aj (decide (s.dby[i].seq<e6.seq)) (aj true (some (1:Int)) X) (al O fun r5=>aj (!r5) (some (1:Int)) X)) (al O fun r6=>aj (!r6) (some (1:Int)) X)=
   ee (er ((decide (0<i)&&(match s.dby[i-1]? with|some p=>decide (s.dby[i].seq<p.seq) |none=>false))|| !Qn s.files s.dby[i].seq) 1) X:=by
 subst ho
 by_cases h0:0<i
 ·have hi1:i-1<s.dby.length:=by omega
  rw[decide_eq_true (show(0:Int)<(i:Int) by omega),iT,tq hi h0 hs.dby.1,bS,decide_eq_true h0,dJ hi1,Bool.true_and,bS]
  show _=ee (er (decide (s.dby[i].seq<s.dby[i-1].seq)|| !Qn s.files s.dby[i].seq) 1) X
  cases decide (s.dby[i].seq<s.dby[i-1].seq)with
  |true=>rfl
  |false=>rw[iF,eb (by decide),Bool.false_or]
 ·rw[decide_eq_false (show¬(0:Int)<(i:Int) by omega),iF,decide_eq_false h0,Bool.false_and,Bool.false_or,bS,eb (by decide)]
theorem ksz{s:ar}(hs:QD s){d:cz}(hd:d∈s.dby):X2 d.ids d.keys:=by
 obtain⟨a,b,c⟩:=hs.dby.2 _ hd
 exact⟨a,b,c⟩
theorem abp{m:ay}{s:ar}(hm:ul m)(hs:QD s):oM m s=some (fe (N2 m s) s.dby.length 0):=by
 unfold oM
 rw[iw (L:=fK m s) (n:=s.dby.length) (fin:=some 0) (c:=N2 m s) hs.dby.1
  (fun k=>by rw[fK,vU,iF];rfl)
  (fun k i hi=>by
   rw[fK,aV hi,iT,aD hi,bS,adX hm (ksz hs (gV hi)),bS,iA,eb (by decide)]
   unfold N2
   rw[dJ hi]
   simp only
   rw[←bA,←bA]
   refine fa fun _=>fa fun _=> ?_
   unfold oA
   rw[au hi hs.dby.1]
   exact Q7 (m:=m) hs hi _ _ (abA hs.files.1 _))]
 exact ej _
theorem acq{m:ay}{s:ar}(hm:ul m)(hs:QD s):jW m s=some (fe (N2 m s) s.dby.length 0):=by
 unfold jW
 rw[iw (L:=dn m s) (n:=s.dby.length) (fin:=some 0) (c:=N2 m s) hs.dby.1
  (fun k=>by rw[dn,vU,iF];rfl)
  (fun k i hi=>by
   rw[dn,aV hi,iT,aD hi,bS,adt hm (ksz hs (gV hi)),bS,iA,eb (by decide)]
   unfold N2
   rw[dJ hi]
   simp only
   rw[←bA,←bA]
   refine fa fun _=>fa fun _=> ?_
   unfold j0
   rw[au hi hs.dby.1]
   exact Q7 (m:=m) hs hi _ _ (ab1 hs.files.1 _))]
 exact ej _
def wi(a b c:Int):Bool:=decide (b≤a∧a≤c)
def Ed(m:ay)(s:ar):Bool:=
 !wi s.id 1 (i64.wrap (m.nextSnap-1))||(!wi s.parent 0 (i64.wrap (s.id-1))||(!wi s.seq 1 (i64.wrap (m.nextSeq-1))||(!wi s.schema 0 (i64.wrap ((m.schemas.length:Int)-1))||(!wi s.time (-62135596800) 253402300799|| !wi s.kind 1 3))))
noncomputable def UZ(m:ay)(s:ar):Int:=qm (fe (Uw m s) s.files.length 0) (qm (fe (Qs s) s.dat.length 0) (fe (N2 m s) s.dby.length 0))
noncomputable def Yo(m:ay)(j:Nat):Int:=match m.snapshots[j]? with
 |some s=>qm (er (Ed m s) 3) (qm (er (decide (0<j)&&(match m.snapshots[j-1]? with|some p=>decide (s.id≤p.id)||decide (s.seq≤p.seq) |none=>false)) 5) (UZ m s))
 |none=>0
theorem JI{m:ay}{j:Nat}(hj:j<m.snapshots.length):Yo m j=qm (er (Ed m m.snapshots[j]) 3) (qm (er (decide (0<j)&&(match m.snapshots[j-1]? with|some p=>decide (m.snapshots[j].id≤p.id)||decide (m.snapshots[j].seq≤p.seq) |none=>false)) 5) (UZ m m.snapshots[j])):=by
 unfold Yo;rw[dJ hj]
theorem adD{m:ay}{s:ar}(hm:ul m)(hs:QD s)(X:Option Int):
  (al (xx m s) fun r7=>aj (r7 != (0:Int)) (some r7) (al (sT m s) fun r8=>aj (r8 != (0:Int)) (some r8) X))=ee (UZ m s) X:=by
 rw[WZ hm hs,bS,iA]
 unfold UZ
 rw[←bA]
 refine fa fun e=> ?_
 obtain⟨ho,_⟩:=Nw hm hs e
 rw[ach hs ho,abp hm hs,Ay,bS,iA]
theorem Zb{m:ay}(hm:ul m):tL m=some (fe (Yo m) m.snapshots.length 0):=by
 unfold tL
 rw[iw (L:=bR m) (n:=m.snapshots.length) (fin:=some 0) (c:=Yo m) hm.snaps.1
  (fun k=>by rw[bR,vU,iF];rfl)
  (fun k i hi=>by
   have hs:=hm.snaps.2 _ (gV hi)
   rw[bR,aV hi,iT,aD hi,bS,JI hi]
   generalize hsn:m.snapshots[i]=s at hs
   have hj:∀x,x=Ed m s→iS (bR m k) m (i:Int) s x=
     ee (qm (er (Ed m s) 3) (qm (er (decide (0<i)&&(match m.snapshots[i-1]? with|some p=>decide (s.id≤p.id)||decide (s.seq≤p.seq) |none=>false)) 5) (UZ m s))) (bR m k ((i+1:Nat):Int)):=by
    rintro x rfl
    unfold iS mJ
    rw[eb (by decide),←bA,←bA]
    refine fa fun _=> ?_
    rw[adD hm hs,au hi hm.snaps.1]
    by_cases h0:0<i
    ·have hi1:i-1<m.snapshots.length:=by omega
     rw[decide_eq_true (show(0:Int)<(i:Int) by omega),iT,tq hi h0 hm.snaps.1,bS,decide_eq_true h0,dJ hi1,Bool.true_and]
     simp only
     cases decide (s.id≤m.snapshots[i-1].id)with
     |true=>rfl
     |false=>rw[iF,eb (by decide),Bool.false_or]
    ·rw[decide_eq_false (show¬(0:Int)<(i:Int) by omega),iF,decide_eq_false h0];rfl
   have hj1:∀x,ko (bR m k) m (i:Int) s x=iS (bR m k) m (i:Int) s (x||(!wi s.schema 0 (i64.wrap ((m.schemas.length:Int)-1))||(!wi s.time (-62135596800) 253402300799|| !wi s.kind 1 3))):=by
    intro x
    unfold ko pA
    cases x with
    |true=>rfl
    |false=>
     rw[iF,lc,bS,Bool.false_or]
     show aj (!wi s.schema _ _) _ _=_
     cases wi s.schema 0 (i64.wrap ((m.schemas.length:Int)-1))with
     |false=>rfl
     |true=>
      rw[Bool.not_true,iF,lc,bS,Bool.false_or]
      rw[show decide (-62135596800≤s.time∧s.time≤253402300799)=wi s.time (-62135596800) 253402300799 from rfl]
      cases wi s.time (-62135596800) 253402300799 with
      |false=>rfl
      |true=>rw[Bool.not_true,iF,lc,bS];rfl
   rw[lc,bS]
   show aj (!wi s.id _ _) _ _=_
   have hr:Ed m s=Ed m s:=rfl
   conv at hr=>rhs;unfold Ed
   cases a:wi s.id 1 (i64.wrap (m.nextSnap-1))with
   |false=>rw[a]at hr;rw[Bool.not_false,iT,hj1];exact hj _ (by rw[hr];rfl)
   |true=>
    rw[a]at hr
    rw[Bool.not_true,iF,lc,bS]
    show aj (!wi s.parent _ _) _ _=_
    cases b:wi s.parent 0 (i64.wrap (s.id-1))with
    |false=>rw[b]at hr;rw[Bool.not_false,iT,hj1];exact hj _ (by rw[hr];rfl)
    |true=>rw[b]at hr;rw[Bool.not_true,iF,lc,bS,hj1];exact hj _ (by rw[hr];rfl))]
 exact ej _
theorem Un{m:ay}{s:ar}(h:Ed m s=false):1≤s.id∧1≤s.seq:=by
 unfold Ed wi at h
 simp only[Bool.or_eq_false_iff,Bool.not_eq_false',decide_eq_true_eq]at h
 exact⟨h.1.1,h.2.2.1.1⟩
theorem W9{m:ay}{s p:ar}(hm:ul m)(hs:QD s):mL m s p=some (qm (er (Ed m s) 3) (qm (er (decide (s.id≤p.id)||decide (s.seq≤p.seq)) 5) (UZ m s))):=by
 have hj:∀x,x=Ed m s→dP m s p x=some (qm (er (Ed m s) 3) (qm (er (decide (s.id≤p.id)||decide (s.seq≤p.seq)) 5) (UZ m s))):=by
  rintro x rfl
  unfold dP mP
  refine Eq.trans ?_ (ej _)
  rw[eb (by decide),←bA,←bA]
  refine fa fun _=> ?_
  have hin:bJ m s aH (0:Int)=ee (UZ m s) (some 0):=by
   rw[Xc hm hs,abW hs,acq hm hs,Ay,Ay,ej];rfl
  rw[hin]
  cases decide (s.id≤p.id)with
  |true=>rfl
  |false=>rw[iF,eb (by decide),Bool.false_or]
 unfold mL
 have hr:Ed m s=Ed m s:=rfl
 conv at hr=>rhs;unfold Ed
 rw[pw,bS]
 show aj (!wi s.id _ _) _ _=_
 cases a:wi s.id 1 (i64.wrap (m.nextSnap-1))with
 |false=>rw[a]at hr;rw[Bool.not_false,iT];exact hj _ (by rw[hr];rfl)
 |true=>
  rw[a]at hr
  rw[Bool.not_true,iF,pw,bS]
  show aj (!wi s.parent _ _) _ _=_
  cases b:wi s.parent 0 (i64.wrap (s.id-1))with
  |false=>rw[b]at hr;rw[Bool.not_false,iT];exact hj _ (by rw[hr];rfl)
  |true=>
   rw[b]at hr
   rw[Bool.not_true,iF,pw,bS]
   show aj (!wi s.seq _ _) _ _=_
   cases c:wi s.seq 1 (i64.wrap (m.nextSeq-1))with
   |false=>rw[c]at hr;rw[Bool.not_false,iT];exact hj _ (by rw[hr];rfl)
   |true=>
    rw[c]at hr
    rw[Bool.not_true,iF,pw,bS]
    show aj (!wi s.schema _ _) _ _=_
    cases d:wi s.schema 0 (i64.wrap ((m.schemas.length:Int)-1))with
    |false=>rw[d]at hr;rw[Bool.not_false,iT];exact hj _ (by rw[hr];rfl)
    |true=>
     rw[d]at hr
     rw[Bool.not_true,iF,pw,bS]
     show aj (!wi s.time _ _) _ _=_
     cases e:wi s.time (-62135596800) 253402300799 with
     |false=>rw[e]at hr;rw[Bool.not_false,iT];exact hj _ (by rw[hr];rfl)
     |true=>rw[e]at hr;rw[Bool.not_true,iF,pw,bS];exact hj _ (by rw[hr];rfl)
def zS:ar:=⟨0,0,0,0,0,0,[],[],[]⟩
def Pm(m:ay)(i:Int):ar:=if i≤0 then zS else(m.snapshots[(i-1).toNat]?).getD zS
theorem ZV{m:ay}(hm:ul m):lW m aH (0:Int) (0:Int) (0:Int) (0:Int) (0:Int) (0:Int) [] [] [] (0:Int)=ee (fe (Yo m) m.snapshots.length 0) (th m):=by
 exact iw (L:=fun k i=>lW m k (Pm m i).id (Pm m i).parent (Pm m i).seq (Pm m i).schema (Pm m i).time (Pm m i).kind (Pm m i).files (Pm m i).dat (Pm m i).dby i) (n:=m.snapshots.length) (c:=Yo m) hm.snaps.1
  (fun k=>by rw[lW,vU,iF])
  (fun k i hi=>by
   have hs:=hm.snaps.2 _ (gV hi)
   rw[lW,aV hi,iT,aD hi,bS]
   show al (mL m m.snapshots[i] (Pm m i)) _=_
   rw[W9 hm hs,bS,iA,au hi hm.snaps.1]
   have hp:Pm m ((i+1:Nat):Int)=m.snapshots[i]:=by
    unfold Pm
    rw[if_neg (by omega),show(((i+1:Nat):Int)-1).toNat=i by omega,dJ hi];rfl
   rw[hp,JI hi,←bA,←bA,←bA,←bA]
   refine fa fun e=> ?_
   obtain⟨r1,r2⟩:=Un ((D8 (by decide)).1 e)
   congr 2
   by_cases h0:0<i
   ·have hi1:i-1<m.snapshots.length:=by omega
    rw[decide_eq_true h0,dJ hi1,Bool.true_and]
    have:Pm m (i:Int)=m.snapshots[i-1]:=by
     unfold Pm
     rw[if_neg (by omega),show((i:Int)-1).toNat=i-1 by omega,dJ hi1];rfl
    rw[this]
   ·have:i=0:=by omega
    subst this
    have hz:Pm m ((0:Nat):Int)=zS:=rfl
    rw[hz,decide_eq_false h0,Bool.false_and]
    show(decide (m.snapshots[0].id≤0)||decide (m.snapshots[0].seq≤0))=false
    rw[decide_eq_false (by omega),decide_eq_false (by omega)];rfl)
theorem IT{m:ay}(hm:ul m)(h:fe (Yo m) m.snapshots.length 0=0):∀s∈m.snapshots,1≤s.id∧Gx s.files∧∀f∈s.files,S3 f:=by
 intro s hs
 obtain⟨i,hi,rfl⟩:=Kb.1 hs
 have:=N5.1 h i (Nat.zero_le _) (by omega)
 rw[JI hi,lx,lx]at this
 have hh:=this.2.2
 unfold UZ at hh
 rw[lx]at hh
 obtain⟨a,b⟩:=Nw hm (hm.snaps.2 _ hs) hh.1
 exact⟨(Un ((D8 (by decide)).1 this.1)).1,a,b⟩
end Go.Proofs.YtpiohnabdhpphaaGreatDoor
