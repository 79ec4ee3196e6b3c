/- A table, read from a row. The law of Files and May for tables, files and conditions of some size. -/
import Derived.Test.YtpiohnabdhpphaaGreatDoorProg
import Derived.Test.YtpiohnabdhpphaaGreatDoorLaB
set_option linter.unusedVariables false
set_option linter.unusedSimpArgs false
set_option linter.unnecessarySimpa false
namespace Go.Proofs.YtpiohnabdhpphaaGreatDoor
open Go Go.SX Go.SX.Cal
theorem LI:∀l:List ac,fj l=(l.map cm).sum
 |[]=>by simp[fj]
 |x::l=>by simp[fj,LI l]
theorem Yy(k n sc:Int)(s:ByteArray)(it:List ac):cm ⟨k,n,sc,s,it⟩≤s.size+(it.map cm).sum+6:=by
 simp only[cm,LI];omega
theorem Hj:∀l:List ae,eH l=(l.map zi).sum
 |[]=>by simp[eH]
 |x::l=>by simp[eH,Hj l]
theorem YT(k s:Int)(fs:List ae):jX ⟨k,s,fs⟩≤(fs.map zi).sum+4:=by
 rw[s7,Hj];simp only;omega
theorem Zj(i:Int)(n:ByteArray)(q:Bool)(t:am):zi ⟨i,n,q,t⟩≤n.size+jX t+4:=by
 rw[kr];simp only;omega
def Rd(B:A8)(t:TypeId){α:Type}(c:α→List PV)(X:α→Prop):Prop:=∀N N':Nat,N'≤N→rC B Tryz.prog N' t c (fun x=>N≤1048576→X x) (fun _=>1)
theorem Rd.of{B:A8}{t:TypeId}{α:Type}{c c':α→List PV}{wf:α→Prop}{s:α→Nat}{X:α→Prop}(h:∀N,rC B Tryz.prog N t c wf s)(hc:∀x,c' x=c x)(hX:∀x,wf x→s x≤1048576→X x):Rd B t c' X:=by
 intro N N' hN H enc w base spare held nU cs d ps hd hb
 obtain⟨x,h1,h2,h3⟩:=h N' hd hb
 exact⟨x,by rw[hc];exact h1,fun hM=>hX x h2 (by omega),B.one d⟩
theorem adw{α:Type}(xs:List α):(xs.map fun _=>(1:Nat)).sum=xs.length:=by
 induction xs with
 |nil=>rfl
 |cons x l ih=>rw[List.map_cons,List.sum_cons,ih,List.length_cons];omega
theorem Rd.list{B:A8}{t e:TypeId}{α:Type}{c:α→List PV}{X:α→Prop}(n:Nat)(h:Rd B e c X)(ht:Tryz.prog.underlying t=some (.slice e))(he:Tryz.prog.cellsOf e=n+1)(hc:∀x,(c x).length=n+1):
  Rd B t (fun xs:List α=>[.ro (xs.map c)]) (fun xs=>xs.length<1000000000∧∀x∈xs,X x):=by
 intro N N' hN H enc w base spare held nU cs d ps hd hb
 obtain⟨x,h1,h2,h3⟩:=rC.slice (B:=B) (P:=Tryz.prog) (N:=N') (t:=t) (e:=e) (cells:=c) ht (fun x=>by rw[hc,he]) (by rw[he];omega) (fun N'' h''=>h N N'' (by omega)) hd hb
 have h3:(x.map fun _=>(1:Nat)).sum+1≤B.f d:=h3
 rw[adw]at h3
 exact⟨x,h1,fun hM=>⟨by omega,fun y hy=>h2 y hy hM⟩,B.one d⟩
def RF(B:A8)(off:Nat)(fs:List Field){α:Type}(c:α→List PV)(X:α→Prop):Prop:=∀N N':Nat,N'≤N→Ek B Tryz.prog N' off fs c (fun x=>N≤1048576→X x) (fun _=>0)
theorem RF.nil{B:A8}{off:Nat}:RF B off [] (fun _:Unit=>[]) (fun _=>True):=fun N N' hN H enc w base spare held n cs xs hl h hb hc=>by
 obtain⟨x,h1,_,h3⟩:=Ek.nil (B:=B) (P:=Tryz.prog) (N:=N') hl h hb hc
 exact⟨x,h1,fun _=>trivial,h3⟩
theorem RF.cons{B:A8}{off:Nat}{f:Field}{fs:List Field}{α β:Type}{c1:α→List PV}{c2:β→List PV}{X:α→Prop}{Y:β→Prop}(k n:Nat)(h:Rd B k c1 X)(r:RF B (off+n) fs c2 Y)(hk:f.type=k:=by kernel_rfl)(ho:f.offset=off:=by kernel_rfl)(hz:Tryz.prog.cellsOf k=n:=by kernel_rfl)(hc:∀x,(c1 x).length=n:=by intro x;rfl):RF B off (f::fs) (fun p:α×β=>c1 p.1++c2 p.2) (fun p=>X p.1∧Y p.2):=by
 have hk:f.type=k:=hk
 have hz:_=n:=hz
 subst hk;subst hz
 intro N N' hN H enc w base spare held m cs xs hl hx hb hc'
 obtain⟨x,h1,h2,h3⟩:=Ek.cons ho hc (h N N' hN) (r N N' hN) hl hx hb hc'
 exact⟨x,h1,fun hM=>⟨h2.1 hM,h2.2 hM⟩,Nat.zero_le _⟩
theorem Rd.struct{B:A8}{t:TypeId}{α β:Type}{L:List Field}{c:β→List PV}{X:β→Prop}{c':α→List PV}{Y:α→Prop}(h:RF B 0 L c X)(mk:β→α)(h1:∀y,c' (mk y)=c y)(h2:∀y,X y→Y (mk y))(hu:kN Tryz.prog t=true:=by kernel_rfl)(hL:fieldsOf Tryz.prog t=L:=by kernel_rfl)(hz:Tryz.prog.cellsOf t=0+(L.map fun f=>Tryz.prog.cellsOf f.type).sum:=by kernel_rfl):Rd B t c' Y:=fun N N' hN=>
 rC.structF (α:=α) (cells:=c') (wf':=fun x=>N≤1048576→Y x) (size:=fun _=>1) hu hL hz (fun N'' h''=>h N N'' (by omega)) mk h1 (fun y hy hM=>h2 y (hy hM)) (fun y=>by omega)
variable {B:A8}
theorem rI:Rd B 3 (fun n:Int=>[pi n]) (fun _=>True):=Rd.of (fun N=>rC.int (k:= .i64) (by kernel_rfl)) (fun _=>rfl) (fun _ _ _=>trivial)
theorem rBo:Rd B 4 (fun b:Bool=>[.s (.bool b)]) (fun _=>True):=Rd.of (fun N=>rC.bool (by kernel_rfl)) (fun _=>rfl) (fun _ _ _=>trivial)
theorem rSt:Rd B 9 (fun s:ByteArray=>[.s (.string s)]) (fun s=>s.size<10000000):=Rd.of (fun N=>rC.str (by kernel_rfl)) (fun _=>rfl) (fun s _ h=>by omega)
theorem rV:Rd B 99 IZ (fun v=>cm v<1000000000):=
 Rd.of (RX (P:=Tryz.prog) (wf:=fun _=>True) (sz:=cm) 99 3 9 29 (by kernel_rfl) (by kernel_rfl) (by kernel_rfl) (by kernel_rfl) (by kernel_rfl) ⟨by kernel_rfl,by kernel_rfl,by kernel_rfl,by kernel_rfl⟩ ⟨by kernel_rfl,by kernel_rfl,by kernel_rfl,by kernel_rfl,by kernel_rfl⟩ ⟨by kernel_rfl,by kernel_rfl,by kernel_rfl,by kernel_rfl,by kernel_rfl⟩ (fun _ _ _ _ _ _ _ _ _=>trivial) Yy) (fun v=>(congrFun HP v).symm) (fun v _ h=>by omega)
theorem rFs:Rd B 48 (fun fs:List ae=>[.ro (af.els fs)]) (fun fs=>eH fs<1000000000-1):=
 Rd.of (fun N=>V6 (P:=Tryz.prog) (wfT:=fun _=>True) (szT:=jX) (wfF:=fun _=>True) (szF:=zi) (szL:=eH) 70 72 3 9 4 48 (by kernel_rfl) (by kernel_rfl) (by kernel_rfl) (by kernel_rfl) (by kernel_rfl) (by kernel_rfl) (by kernel_rfl) (by kernel_rfl) ⟨by kernel_rfl,by kernel_rfl,by kernel_rfl,by kernel_rfl,by kernel_rfl⟩ (by kernel_rfl) ⟨by kernel_rfl,by kernel_rfl,by kernel_rfl,by kernel_rfl⟩ ⟨by kernel_rfl,by kernel_rfl,by kernel_rfl,by kernel_rfl⟩ ⟨by kernel_rfl,by kernel_rfl,by kernel_rfl⟩ ⟨by kernel_rfl,by kernel_rfl,by kernel_rfl⟩ (fun _ _ _ _ _ _=>trivial) Zj (fun _ _ _ _ _ _=>trivial) YT (fun xs=>by rw[Hj];omega) N) (fun _=>rfl) (fun fs _ h=>by omega)
theorem rSp:Rd B 55 (fun x:cD=>[PV.ro (aF.els x.fields)]) (fun x=>x.fields.length<1000000000):=
 Rd.of (fun N=>Zi (P:=Tryz.prog) 55 53 115 113 3 (by kernel_rfl) (by kernel_rfl) (by kernel_rfl) ⟨by kernel_rfl,by kernel_rfl⟩ (by kernel_rfl) (by kernel_rfl) (by kernel_rfl) (by kernel_rfl) (by kernel_rfl) (by kernel_rfl) (by kernel_rfl) ⟨by kernel_rfl,by kernel_rfl,by kernel_rfl⟩ ⟨by kernel_rfl,by kernel_rfl,by kernel_rfl,by kernel_rfl⟩ ⟨by kernel_rfl,by kernel_rfl,by kernel_rfl,by kernel_rfl⟩ N) (fun _=>rfl) (fun x _ h=>by omega)
theorem rVs:Rd B 29 (fun xs:List ac=>[PV.ro (ak.els xs)]) (fun xs=>xs.length<1000000000∧∀v∈xs,cm v<1000000000):=by
 have h:=Rd.list (B:=B) (t:=29) (e:=99) 4 rV (by kernel_rfl) (by kernel_rfl) (fun x=>rfl)
 have e:(fun xs:List ac=>[PV.ro (ak.els xs)])=fun xs=>[.ro (xs.map IZ)]:=by funext xs;rw[ak.hels];rfl
 rw[e];exact h
theorem Za:Rd B 101 Pp (fun x:cc=>cm x.min<1000000000∧cm x.max<1000000000):=
 Rd.struct (L:=[gd Tryz.prog 101 0,gd Tryz.prog 101 1,gd Tryz.prog 101 2,gd Tryz.prog 101 3]) (RF.cons 3 1 rI (RF.cons 3 1 rI (RF.cons 99 5 rV (RF.cons 99 5 rV RF.nil))))
  (fun y=>(⟨y.1,y.2.1,y.2.2.1,y.2.2.2.1⟩:cc)) (fun y=>rfl) (fun y h=>⟨h.2.2.1,h.2.2.2.1⟩)
theorem W5:Rd B 30 (fun xs:List cc=>[PV.ro (bD.els xs)]) (fun xs=>xs.length<1000000000∧∀x∈xs,cm x.min<1000000000∧cm x.max<1000000000):=by
 have h:=Rd.list (B:=B) (t:=30) (e:=101) 11 Za (by kernel_rfl) (by kernel_rfl) (fun x=>rfl)
 have e:(fun xs:List cc=>[PV.ro (bD.els xs)])=fun xs=>[.ro (xs.map Pp)]:=by funext xs;rw[sF.hels];rfl
 rw[e];exact h
theorem Wc:Rd B 32 Nz (fun x:ai=>Lj x):=
 Rd.struct (L:=[gd Tryz.prog 32 0,gd Tryz.prog 32 1,gd Tryz.prog 32 2,gd Tryz.prog 32 3,gd Tryz.prog 32 4,gd Tryz.prog 32 5,gd Tryz.prog 32 6]) (RF.cons 9 1 rSt (RF.cons 3 1 rI (RF.cons 3 1 rI (RF.cons 29 1 rVs (RF.cons 3 1 rI (RF.cons 3 1 rI (RF.cons 30 1 W5 RF.nil)))))))
  (fun y=>(⟨y.1,y.2.1,y.2.2.1,y.2.2.2.1,y.2.2.2.2.1,y.2.2.2.2.2.1,y.2.2.2.2.2.2.1⟩:ai)) (fun y=>rfl) (fun y h=>⟨Nat.lt_trans h.1 (by decide),h.2.2.2.1,h.2.2.2.2.2.2.1⟩)
theorem Z4:Rd B 73 (fun xs:List ai=>[PV.ro (aU.els xs)]) (fun xs=>xs.length<1000000000∧∀x∈xs,Lj x):=by
 have h:=Rd.list (B:=B) (t:=73) (e:=32) 6 Wc (by kernel_rfl) (by kernel_rfl) (fun x=>rfl)
 have e:(fun xs:List ai=>[PV.ro (aU.els xs)])=fun xs=>[.ro (xs.map Nz)]:=by funext xs;rw[sF.hels];rfl
 rw[e];exact h
theorem rIs:Rd B 41 (fun xs:List Int=>[PV.ro (eI.els xs)]) (fun xs=>xs.length<1000000000):=
 Rd.of (fun N=>aas (P:=Tryz.prog) 41 3 (by kernel_rfl) (by kernel_rfl) (by kernel_rfl) N) (fun _=>rfl) (fun x _ h=>by omega)
theorem adP:Rd B 139 (fun x:lj=>[PV.s (.string x.file),.ro (eI.els x.rows)]) (fun x:lj=>x.rows.length<1000000000):=
 Rd.struct (L:=[gd Tryz.prog 139 0,gd Tryz.prog 139 1]) (RF.cons 9 1 rSt (RF.cons 41 1 rIs RF.nil))
  (fun y=>(⟨y.1,y.2.1⟩:lj)) (fun y=>rfl) (fun y h=>h.2.1)
theorem abC:Rd B 74 (fun xs:List lj=>[PV.ro (dj.els xs)]) (fun xs=>xs.length<1000000000∧∀x∈xs,x.rows.length<1000000000):=by
 have h:=Rd.list (B:=B) (t:=74) (e:=139) 1 adP (by kernel_rfl) (by kernel_rfl) (fun x=>rfl)
 have e:(fun xs:List lj=>[PV.ro (dj.els xs)])=fun xs=>[.ro (xs.map (fun x:lj=>[PV.s (.string x.file),.ro (eI.els x.rows)]))]:=by funext xs;rw[sF.hels];rfl
 rw[e];exact h
theorem acd:Rd B 46 (fun xs:List (List ac)=>[PV.ro ((eL ak).els xs)]) (fun xs=>xs.length<1000000000∧∀x∈xs,x.length<1000000000∧∀v∈x,cm v<1000000000):=by
 have h:=Rd.list (B:=B) (t:=46) (e:=29) 0 rVs (by kernel_rfl) (by kernel_rfl) (fun x=>rfl)
 have e:(fun xs:List (List ac)=>[PV.ro ((eL ak).els xs)])=fun xs=>[.ro (xs.map (fun xs:List ac=>[PV.ro (ak.els xs)]))]:=by funext xs;rw[sF.hels];rfl
 rw[e];exact h
theorem adV:Rd B 143 (fun x:cz=>[pi x.schema,PV.ro (eI.els x.ids),.ro ((eL ak).els x.keys),pi x.seq]) (fun x:cz=>x.ids.length<1000000000∧x.keys.length<1000000000∧∀k∈x.keys,k.length<1000000000∧∀v∈k,cm v<1000000000):=
 Rd.struct (L:=[gd Tryz.prog 143 0,gd Tryz.prog 143 1,gd Tryz.prog 143 2,gd Tryz.prog 143 3]) (RF.cons 3 1 rI (RF.cons 41 1 rIs (RF.cons 46 1 acd (RF.cons 3 1 rI RF.nil))))
  (fun y=>(⟨y.1,y.2.1,y.2.2.1,y.2.2.2.1⟩:cz)) (fun y=>rfl) (fun y h=>⟨h.2.1,h.2.2.1⟩)
theorem abc:Rd B 75 (fun xs:List cz=>[PV.ro (dT.els xs)]) (fun xs=>xs.length<1000000000∧∀x∈xs,x.ids.length<1000000000∧x.keys.length<1000000000∧∀k∈x.keys,k.length<1000000000∧∀v∈k,cm v<1000000000):=by
 have h:=Rd.list (B:=B) (t:=75) (e:=143) 3 adV (by kernel_rfl) (by kernel_rfl) (fun x=>rfl)
 have e:(fun xs:List cz=>[PV.ro (dT.els xs)])=fun xs=>[.ro (xs.map (fun x:cz=>[pi x.schema,PV.ro (eI.els x.ids),.ro ((eL ak).els x.keys),pi x.seq]))]:=by funext xs;rw[sF.hels];rfl
 rw[e];exact h
theorem abh:Rd B 77 UI (fun x:ar=>QD x):=
 Rd.struct (L:=[gd Tryz.prog 77 0,gd Tryz.prog 77 1,gd Tryz.prog 77 2,gd Tryz.prog 77 3,gd Tryz.prog 77 4,gd Tryz.prog 77 5,gd Tryz.prog 77 6,gd Tryz.prog 77 7,gd Tryz.prog 77 8]) (RF.cons 3 1 rI (RF.cons 3 1 rI (RF.cons 3 1 rI (RF.cons 3 1 rI (RF.cons 3 1 rI (RF.cons 3 1 rI (RF.cons 73 1 Z4 (RF.cons 74 1 abC (RF.cons 75 1 abc RF.nil)))))))))
  (fun y=>(⟨y.1,y.2.1,y.2.2.1,y.2.2.2.1,y.2.2.2.2.1,y.2.2.2.2.2.1,y.2.2.2.2.2.2.1,y.2.2.2.2.2.2.2.1,y.2.2.2.2.2.2.2.2.1⟩:ar)) (fun y=>rfl) (fun y h=>⟨h.2.2.2.2.2.2.1,h.2.2.2.2.2.2.2.1,h.2.2.2.2.2.2.2.2.1⟩)
theorem aaI:Rd B 24 (fun xs:List ar=>[PV.ro (aT.els xs)]) (fun xs=>xs.length<1000000000∧∀x∈xs,QD x):=by
 have h:=Rd.list (B:=B) (t:=24) (e:=77) 8 abh (by kernel_rfl) (by kernel_rfl) (fun x=>rfl)
 have e:(fun xs:List ar=>[PV.ro (aT.els xs)])=fun xs=>[.ro (xs.map UI)]:=by funext xs;rw[sF.hels];rfl
 rw[e];exact h
theorem adz:Rd B 92 (fun x:kV=>[PV.s (.string x.name),.s (.bool x.branch),pi x.snapshot]) (fun x:kV=>x.name.size<1000000000):=
 Rd.struct (L:=[gd Tryz.prog 92 0,gd Tryz.prog 92 1,gd Tryz.prog 92 2]) (RF.cons 9 1 rSt (RF.cons 4 1 rBo (RF.cons 3 1 rI RF.nil)))
  (fun y=>(⟨y.1,y.2.1,y.2.2.1⟩:kV)) (fun y=>rfl) (fun y h=>Nat.lt_trans h.1 (by decide))
theorem aa3:Rd B 25 (fun xs:List kV=>[PV.ro (nT.els xs)]) (fun xs=>xs.length<1000000000∧∀x∈xs,x.name.size<1000000000):=by
 have h:=Rd.list (B:=B) (t:=25) (e:=92) 2 adz (by kernel_rfl) (by kernel_rfl) (fun x=>rfl)
 have e:(fun xs:List kV=>[PV.ro (nT.els xs)])=fun xs=>[.ro (xs.map (fun x:kV=>[PV.s (.string x.name),.s (.bool x.branch),pi x.snapshot]))]:=by funext xs;rw[sF.hels];rfl
 rw[e];exact h
theorem ace:Rd B 95 (fun x:oa=>[PV.s (.string x.name),.s (.string x.value)]) (fun x:oa=>x.name.size<1000000000∧x.value.size<100000000):=
 Rd.struct (L:=[gd Tryz.prog 95 0,gd Tryz.prog 95 1]) (RF.cons 9 1 rSt (RF.cons 9 1 rSt RF.nil))
  (fun y=>(⟨y.1,y.2.1⟩:oa)) (fun y=>rfl) (fun y h=>⟨Nat.lt_trans h.1 (by decide),Nat.lt_trans h.2.1 (by decide)⟩)
theorem Z1:Rd B 26 (fun xs:List oa=>[PV.ro (ku.els xs)]) (fun xs=>xs.length<1000000000∧∀x∈xs,x.name.size<1000000000∧x.value.size<100000000):=by
 have h:=Rd.list (B:=B) (t:=26) (e:=95) 1 ace (by kernel_rfl) (by kernel_rfl) (fun x=>rfl)
 have e:(fun xs:List oa=>[PV.ro (ku.els xs)])=fun xs=>[.ro (xs.map (fun x:oa=>[PV.s (.string x.name),.s (.string x.value)]))]:=by funext xs;rw[sF.hels];rfl
 rw[e];exact h
theorem adj:Rd B 22 (fun xs:List (List ae)=>[PV.ro ((eL af).els xs)]) (fun xs=>xs.length<1000000000∧∀x∈xs,eH x<1000000000-1):=by
 have h:=Rd.list (B:=B) (t:=22) (e:=48) 0 rFs (by kernel_rfl) (by kernel_rfl) (fun x=>rfl)
 have e:(fun xs:List (List ae)=>[PV.ro ((eL af).els xs)])=fun xs=>[.ro (xs.map (fun fs:List ae=>[PV.ro (af.els fs)]))]:=by funext xs;rw[sF.hels];rfl
 rw[e];exact h
theorem adm:Rd B 23 (fun xs:List cD=>[PV.ro (fk.els xs)]) (fun xs=>xs.length<1000000000∧∀x∈xs,x.fields.length<1000000000):=by
 have h:=Rd.list (B:=B) (t:=23) (e:=55) 0 rSp (by kernel_rfl) (by kernel_rfl) (fun x=>rfl)
 have e:(fun xs:List cD=>[PV.ro (fk.els xs)])=fun xs=>[.ro (xs.map (fun x:cD=>[PV.ro (aF.els x.fields)]))]:=by funext xs;rw[sF.hels];rfl
 rw[e];exact h
abbrev X7(x:ay):List PV:=[.ro ((eL af).els x.schemas),.ro (fk.els x.specs),pi x.nextField,pi x.nextSeq,pi x.nextSnap,pi x.purges,.ro (aT.els x.snapshots),.ro (nT.els x.refs),.ro (ku.els x.props)]
theorem X9:Rd B 28 X7 (fun x:ay=>ul x):=
 Rd.struct (L:=[gd Tryz.prog 28 0,gd Tryz.prog 28 1,gd Tryz.prog 28 2,gd Tryz.prog 28 3,gd Tryz.prog 28 4,gd Tryz.prog 28 5,gd Tryz.prog 28 6,gd Tryz.prog 28 7,gd Tryz.prog 28 8]) (RF.cons 22 1 adj (RF.cons 23 1 adm (RF.cons 3 1 rI (RF.cons 3 1 rI (RF.cons 3 1 rI (RF.cons 3 1 rI (RF.cons 24 1 aaI (RF.cons 25 1 aa3 (RF.cons 26 1 Z1 RF.nil)))))))))
  (fun y=>(⟨y.1,y.2.1,y.2.2.1,y.2.2.2.1,y.2.2.2.2.1,y.2.2.2.2.2.1,y.2.2.2.2.2.2.1,y.2.2.2.2.2.2.2.1,y.2.2.2.2.2.2.2.2.1⟩:ay)) (fun y=>rfl) (fun y h=>⟨h.1,h.2.1,h.2.2.2.2.2.2.1,h.2.2.2.2.2.2.2.1,h.2.2.2.2.2.2.2.2.1⟩)
noncomputable def szM(m:ay):Nat:= @ite _ (ul m) (Classical.propDecidable _) 1 1048577
theorem ZX{m:ay}(h:szM m≤1048576):ul m:=by
 unfold szM at h
 split at h
 ·assumption
 ·omega
theorem Y0(N:Nat):rC B Tryz.prog N 28 X7 (fun _=>True) szM:=by
 intro H enc w base spare held nU cs d ps hd hb
 by_cases hs:B.f d≤1048576
 ·obtain⟨x,h1,h2,_⟩:=X9 1048576 (B.f d) hs hd (iD _)
  refine⟨x,h1,trivial,?_⟩
  unfold szM
  rw[if_pos (h2 (iD _))]
  exact B.one d
 ·obtain⟨x,h1,_,_⟩:=X9 N N (iD _) hd hb
  refine⟨x,h1,trivial,?_⟩
  unfold szM
  split<;>omega
noncomputable def Sy(m:ai):Nat:= @ite _ (Lj m) (Classical.propDecidable _) 1 1048577
theorem XU{m:ai}(h:Sy m≤1048576):Lj m:=by
 unfold Sy at h
 split at h
 ·assumption
 ·omega
theorem aay(N:Nat):rC B Tryz.prog N 32 Nz (fun _=>True) Sy:=by
 intro H enc w base spare held nU cs d ps hd hb
 by_cases hs:B.f d≤1048576
 ·obtain⟨x,h1,h2,_⟩:=Wc 1048576 (B.f d) hs hd (iD _)
  refine⟨x,h1,trivial,?_⟩
  unfold Sy
  rw[if_pos (h2 (iD _))]
  exact B.one d
 ·obtain⟨x,h1,_,_⟩:=Wc N N (iD _) hd hb
  refine⟨x,h1,trivial,?_⟩
  unfold Sy
  split<;>omega
theorem rV7:Rd B 99 IZ (fun v=>cm v<10000000):=
 Rd.of (RX (P:=Tryz.prog) (wf:=fun _=>True) (sz:=cm) 99 3 9 29 (by kernel_rfl) (by kernel_rfl) (by kernel_rfl) (by kernel_rfl) (by kernel_rfl) ⟨by kernel_rfl,by kernel_rfl,by kernel_rfl,by kernel_rfl⟩ ⟨by kernel_rfl,by kernel_rfl,by kernel_rfl,by kernel_rfl,by kernel_rfl⟩ ⟨by kernel_rfl,by kernel_rfl,by kernel_rfl,by kernel_rfl,by kernel_rfl⟩ (fun _ _ _ _ _ _ _ _ _=>trivial) Yy) (fun v=>(congrFun HP v).symm) (fun v _ h=>by omega)
theorem ZB:Rd B 108 (fun x:bw=>[pi x.id,pi x.low.kind,pi x.low.n,pi x.low.scale,.s (.string x.low.s),.ro (ak.els x.low.items),pi x.high.kind,pi x.high.n,pi x.high.scale,.s (.string x.high.s),.ro (ak.els x.high.items)]) (fun x:bw=>cm x.low<10000000∧cm x.high<10000000):=
 Rd.struct (L:=[gd Tryz.prog 108 0,gd Tryz.prog 108 1,gd Tryz.prog 108 2]) (RF.cons 3 1 rI (RF.cons 99 5 rV7 (RF.cons 99 5 rV7 RF.nil)))
  (fun y=>(⟨y.1,y.2.1,y.2.2.1⟩:bw)) (fun y=>rfl) (fun y h=>⟨h.2.1,h.2.2.1⟩)
theorem Xq:Rd B 33 (fun xs:List bw=>[PV.ro (gS.els xs)]) (fun xs=>xs.length<1000000000∧∀x∈xs,cm x.low<10000000∧cm x.high<10000000):=by
 have h:=Rd.list (B:=B) (t:=33) (e:=108) 10 ZB (by kernel_rfl) (by kernel_rfl) (fun x=>rfl)
 have e:(fun xs:List bw=>[PV.ro (gS.els xs)])=fun xs=>[.ro (xs.map (fun x:bw=>[pi x.id,pi x.low.kind,pi x.low.n,pi x.low.scale,.s (.string x.low.s),.ro (ak.els x.low.items),pi x.high.kind,pi x.high.n,pi x.high.scale,.s (.string x.high.s),.ro (ak.els x.high.items)]))]:=by funext xs;rw[sF.hels];rfl
 rw[e];exact h
theorem Vk:Rd B 33 (fun xs:List bw=>[PV.ro (gS.els xs)]) WL:=by
 intro N N' hN H enc w base spare held nU cs d ps hd hb
 obtain⟨x,h1,h2,h3⟩:=Xq (B:=B) N N' hN hd hb
 exact⟨x,h1,fun h=>⟨(h2 h).1,(h2 h).2⟩,h3⟩
noncomputable def szW(m:(List bw)):Nat:= @ite _ (WL m) (Classical.propDecidable _) 1 1048577
theorem aaM{m:(List bw)}(h:szW m≤1048576):WL m:=by
 unfold szW at h
 split at h
 ·assumption
 ·omega
theorem T7(N:Nat):rC B Tryz.prog N 33 (fun xs:List bw=>[PV.ro (gS.els xs)]) (fun _=>True) szW:=by
 intro H enc w base spare held nU cs d ps hd hb
 by_cases hs:B.f d≤1048576
 ·obtain⟨x,h1,h2,_⟩:=Vk 1048576 (B.f d) hs hd (iD _)
  refine⟨x,h1,trivial,?_⟩
  unfold szW
  rw[if_pos (h2 (iD _))]
  exact B.one d
 ·obtain⟨x,h1,_,_⟩:=Vk N N (iD _) hd hb
  refine⟨x,h1,trivial,?_⟩
  unfold szW
  split<;>omega
end Go.Proofs.YtpiohnabdhpphaaGreatDoor
namespace Go.Proofs.YtpiohnabdhpphaaGreatDoor
open Go Go.SX Go.SX.Cal
open Go.IntKind (i64)
theorem PI{m:ay}{f:ai}{wh:List bw}(h1:szM m≤1048576)(h2:Sy f≤1048576)(h3:szW wh≤1048576)(a b:Int):ky m a b f wh=some true:=
 TM (ZX h1) (XU h2) (aaM h3) a b
end Go.Proofs.YtpiohnabdhpphaaGreatDoor
